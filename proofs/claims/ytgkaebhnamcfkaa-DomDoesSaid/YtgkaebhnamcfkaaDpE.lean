/- dom: nodes of one's own are written over. No condition but that they may be. -/
import Derived.Test.YtgkaebhnamcfkaaDoL
import Derived.Test.YtgkaebhnamcfkaaTxB
namespace Go.Proofs
open Go Go.Sh
set_option linter.unusedVariables false
set_option maxRecDepth 100000
/-- the kind of a cell -/
def kd : Value → Nat
  | .int .u8 _ => 1
  | .string _ => 2
  | .slice _ _ _ => 3
  | _ => 0
theorem kd_int {v : Value} (h : kd v = 1) : ∃ i, v = .int .u8 i := by
  unfold kd at h
  split at h
  · exact ⟨_, rfl⟩
  · cases h
  · cases h
  · cases h
theorem kd_str {v : Value} (h : kd v = 2) : ∃ s, v = S s := by
  unfold kd at h
  split at h
  · cases h
  · rename_i t; exact ⟨t.data.toList, rfl⟩
  · cases h
  · cases h
theorem cell_inv {h : H} {a : Addr} {u : Value} (e : cell h a = some u) : ∃ c t fz, h[a.block]? = some (.cells c t fz) ∧ a.spot = none ∧ c[a.off]? = some u := by
  unfold Sh.cell at e
  split at e
  · rename_i c t fz hg
    split at e
    · cases e
    · rename_i hs
      exact ⟨c, t, fz, hg, by simpa using hs, e⟩
  · cases e
theorem cell_of {h : H} {a : Addr} {c : Array Value} {t : Nat} {fz : Nat × Nat} (hg : h[a.block]? = some (.cells c t fz)) (hs : a.spot = none) : cell h a = c[a.off]? := by
  unfold Sh.cell
  rw [hg]
  simp [hs]
theorem setc_obj {h : H} {a : Addr} {v : Value} {c : Array Value} {t : Nat} {fz : Nat × Nat} (hg : h[a.block]? = some (.cells c t fz)) (hs : a.spot = none) : (setc h a v)[a.block]? = some (.cells (c.setIfInBounds a.off v) t fz) := by
  unfold Sh.setc
  rw [Array.getElem?_modify, if_pos rfl, hg]
  simp [hs]
theorem setc_far {h : H} {a : Addr} {v : Value} {g : Nat} (hn : a.block ≠ g) : (setc h a v)[g]? = h[g]? := by
  unfold Sh.setc
  rw [Array.getElem?_modify, if_neg hn]
theorem cell_setc {h : H} {a b : Addr} {u v w : Value} (ha : cell h a = some u) (hb : cell h b = some w) : (b = a ∧ cell (setc h a v) b = some v) ∨ cell (setc h a v) b = some w := by
  obtain ⟨c, t, fz, hg, hs, hc⟩ := cell_inv ha
  obtain ⟨c2, t2, fz2, hg2, hs2, hc2⟩ := cell_inv hb
  by_cases hbl : a.block = b.block
  · rw [← hbl, hg] at hg2
    cases hg2
    have hg3 := setc_obj (v := v) hg hs
    rw [hbl] at hg3
    rw [cell_of hg3 hs2]
    by_cases ho : a.off = b.off
    · left
      refine ⟨?_, ?_⟩
      · cases a; cases b; simp only at *; subst hbl; subst ho; subst hs; subst hs2; rfl
      · rw [← ho, Array.getElem?_setIfInBounds_self]
        have := (Array.getElem?_eq_some_iff.1 hc).1
        simp [this]
    · right
      rw [Array.getElem?_setIfInBounds_ne ho]
      exact hc2
  · right
    rw [cell_of (by rw [setc_far hbl]; exact hg2) hs2]
    exact hc2
/-- cells are written over by others of their kind, slices by nothing -/
structure Soft (A : Nat → Prop) (h h' : H) : Prop where
  sk : SK (fun k => ¬ A k) h h'
  obj : ∀ (g : Nat) c e fz, h[g]? = some (.cells c e fz) → ∃ c', h'[g]? = some (.cells c' e fz)
  cl : ∀ a v, cell h a = some v → ∃ v', cell h' a = some v' ∧ (v' = v ∨ (kd v' = kd v ∧ (kd v = 3 → v' = .slice none 0 0)))
theorem Soft.refl (A : Nat → Prop) (h : H) : Soft A h h := ⟨SK.refl _ _, fun g c e fz hg => ⟨c, hg⟩, fun a v hv => ⟨v, hv, Or.inl rfl⟩⟩
theorem Soft.trans {A : Nat → Prop} {a b c : H} (s : Soft A a b) (r : Soft A b c) : Soft A a c :=
  ⟨s.sk.trans r.sk, fun g x e fz hg => by obtain ⟨x', hg'⟩ := s.obj g x e fz hg; exact r.obj g x' e fz hg', fun q v hv => by
    obtain ⟨v1, h1, e1⟩ := s.cl q v hv
    obtain ⟨v2, h2, e2⟩ := r.cl q v1 h1
    refine ⟨v2, h2, ?_⟩
    rcases e1 with rfl | ⟨k1, n1⟩
    · exact e2
    · rcases e2 with rfl | ⟨k2, n2⟩
      · exact Or.inr ⟨k1, n1⟩
      · exact Or.inr ⟨k2.trans k1, fun h3 => n2 (k1.trans h3)⟩⟩
theorem Soft.setc {A : Nat → Prop} {h : H} {a : Addr} {u v : Value} (hA : A a.block) (hu : cell h a = some u) (hk : kd v = kd u) (hn : kd u = 3 → v = .slice none 0 0) : Soft A h (setc h a v) := by
  obtain ⟨c, t, fz, hg, hs, hc⟩ := cell_inv hu
  refine ⟨SK.setc fun hna => hna hA, fun g c2 e fz2 hg2 => ?_, fun b w hw => ?_⟩
  · by_cases hb : a.block = g
    · subst hb
      rw [hg] at hg2
      cases hg2
      exact ⟨_, setc_obj hg hs⟩
    · exact ⟨c2, by rw [setc_far hb]; exact hg2⟩
  · rcases cell_setc (v := v) hu hw with ⟨e, h1⟩ | h1
    · subst e
      rw [hu] at hw
      cases hw
      exact ⟨v, h1, Or.inr ⟨hk, hn⟩⟩
    · exact ⟨w, h1, Or.inl rfl⟩
def thawK (h : H) (g : Nat) : Prop := ∃ c e, h[g]? = some (.cells c e (0, 0))
theorem thawK.soft {A : Nat → Prop} {h h' : H} {g : Nat} (t : thawK h g) (s : Soft A h h') : thawK h' g := by
  obtain ⟨c, e, hg⟩ := t
  obtain ⟨c', h'⟩ := s.obj g c e _ hg
  exact ⟨c', e, h'⟩
theorem thaw_iced {h : H} {a : Addr} (t : thawK h a.block) : iced h a = false := by
  obtain ⟨c, e, hg⟩ := t
  unfold iced
  rw [hg]
  simp
def shAttr (A : Nat → Prop) (h : H) (b : Option Addr) (n : Nat) : Prop :=
  n ≤ maxLen ∧ ∀ i, i < n → ∃ a, b = some a ∧ A a.block ∧ thawK h a.block ∧ (∃ s, cell h ((a.add (i * 2)).add 0) = some (S s)) ∧ ∃ s, cell h ((a.add (i * 2)).add 1) = some (S s)
def shNode : Nat → (Nat → Prop) → H → Addr → Prop
  | 0, _, _, _ => False
  | d + 1, A, h, q => A q.block ∧ thawK h q.block ∧ ∃ i j s ab an ac tx kb kn kc, cell h (q.add 0) = some (.int .u8 i) ∧ cell h (q.add 1) = some (.int .u8 j) ∧ cell h (q.add 2) = some (S s) ∧ cell h (q.add 3) = some (.slice ab an ac) ∧ cell h (q.add 4) = some (S tx) ∧ cell h (q.add 5) = some (.slice kb kn kc) ∧
      shAttr A h ab an ∧ kn ≤ maxLen ∧ ∀ m, m < kn → ∃ a, kb = some a ∧ shNode d A h (a.add (m * 6))
theorem Soft.str {A : Nat → Prop} {h h' : H} {a : Addr} {s : Bs} (f : Soft A h h') (e : cell h a = some (S s)) : ∃ s, cell h' a = some (S s) := by
  obtain ⟨v, hv, h1⟩ := f.cl a _ e
  rcases h1 with rfl | ⟨h1, _⟩
  · exact ⟨s, hv⟩
  · obtain ⟨s', rfl⟩ := kd_str h1
    exact ⟨s', hv⟩
theorem Soft.int {A : Nat → Prop} {h h' : H} {a : Addr} {i : Int} (f : Soft A h h') (e : cell h a = some (.int .u8 i)) : ∃ i, cell h' a = some (.int .u8 i) := by
  obtain ⟨v, hv, h1⟩ := f.cl a _ e
  rcases h1 with rfl | ⟨h1, _⟩
  · exact ⟨i, hv⟩
  · obtain ⟨s', rfl⟩ := kd_int h1
    exact ⟨s', hv⟩
theorem Soft.sl {A : Nat → Prop} {h h' : H} {a : Addr} {b : Option Addr} {n c : Nat} (f : Soft A h h') (e : cell h a = some (.slice b n c)) : cell h' a = some (.slice b n c) ∨ cell h' a = some (.slice none 0 0) := by
  obtain ⟨v, hv, h1⟩ := f.cl a _ e
  rcases h1 with rfl | ⟨_, h2⟩
  · exact Or.inl hv
  · rw [h2 rfl] at hv; exact Or.inr hv
theorem shAttr.soft {A : Nat → Prop} {h h' : H} {b : Option Addr} {n : Nat} (s : shAttr A h b n) (f : Soft A h h') : shAttr A h' b n :=
  ⟨s.1, fun i hi => by
    obtain ⟨a, e, hA, ht, ⟨s1, c1⟩, s2, c2⟩ := s.2 i hi
    exact ⟨a, e, hA, ht.soft f, f.str c1, f.str c2⟩⟩
theorem shAttr.nil (A : Nat → Prop) (h : H) : shAttr A h none 0 := ⟨Nat.zero_le _, fun i hi => absurd hi (by omega)⟩
theorem shNode.soft {A : Nat → Prop} {h h' : H} (f : Soft A h h') : ∀ {d : Nat} {q : Addr}, shNode d A h q → shNode d A h' q
  | 0, _, s => s.elim
  | d + 1, q, ⟨hA, ht, i, j, s, ab, an, ac, tx, kb, kn, kc, c0, c1, c2, c3, c4, c5, sa, hk, sk⟩ => by
    obtain ⟨i', c0'⟩ := f.int c0
    obtain ⟨j', c1'⟩ := f.int c1
    obtain ⟨s', c2'⟩ := f.str c2
    obtain ⟨tx', c4'⟩ := f.str c4
    have sk' : ∀ m, m < kn → ∃ a, kb = some a ∧ shNode d A h' (a.add (m * 6)) := fun m hm => by
      obtain ⟨a, e, hs⟩ := sk m hm
      exact ⟨a, e, shNode.soft f hs⟩
    have n0 : ∀ m, m < 0 → ∃ a, (none : Option Addr) = some a ∧ shNode d A h' (a.add (m * 6)) := fun m hm => absurd hm (by omega)
    rcases f.sl c3 with c3' | c3' <;> rcases f.sl c5 with c5' | c5'
    · exact ⟨hA, ht.soft f, i', j', s', ab, an, ac, tx', kb, kn, kc, c0', c1', c2', c3', c4', c5', sa.soft f, hk, sk'⟩
    · exact ⟨hA, ht.soft f, i', j', s', ab, an, ac, tx', none, 0, 0, c0', c1', c2', c3', c4', c5', sa.soft f, Nat.zero_le _, n0⟩
    · exact ⟨hA, ht.soft f, i', j', s', none, 0, 0, tx', kb, kn, kc, c0', c1', c2', c3', c4', c5', shAttr.nil A h', hk, sk'⟩
    · exact ⟨hA, ht.soft f, i', j', s', none, 0, 0, tx', none, 0, 0, c0', c1', c2', c3', c4', c5', shAttr.nil A h', Nat.zero_le _, n0⟩
theorem shape_row {A : Nat → Prop} {h : H} {b : Option Addr} {n c : Nat} {l : List AttrP} (r : Row elAttr A h b n c l) (t : thawB A h b n) : shAttr A h b n :=
  ⟨Nat.le_trans r.cap r.max, fun i hi => by
    have hl := r.len
    obtain ⟨a, e, hA⟩ := r.at' i _ (List.getElem?_eq_getElem (by omega))
    rcases t with t | ⟨q, e2, hq, ht⟩
    · omega
    · rw [e] at e2
      cases e2
      exact ⟨a, e, hq, ht, ⟨_, hA.fst.str.1⟩, _, hA.snd.str.1⟩⟩
theorem shape_node : ∀ {d : Nat} {A : Nat → Prop} {h : H} {x : NodeV} {cs : List Value} {q : Addr}, nodeT d A h x cs → A q.block → thawK h q.block → (∀ (j : Nat) v, cs[j]? = some v → cell h (q.add j) = some v) → shNode d A h q
  | 0, _, _, _, _, _, hR, _, _, _ => hR.elim
  | d + 1, A, h, x, cs, q, ⟨ab, an, ac, kb, kn, kc, e, ra, hz, ⟨h1, h2, h3, h4⟩, hz2, r1, r2, r3, r4, t1, t2⟩, hA, ht, hc => by
    subst e
    refine ⟨hA, ht, _, _, _, _, _, _, _, _, _, _, hc 0 _ rfl, hc 1 _ rfl, hc 2 _ rfl, hc 3 _ rfl, hc 4 _ rfl, hc 5 _ rfl, shape_row ra t1, Nat.le_trans h2 h3, fun m hm => ?_⟩
    obtain ⟨a, ea, hA2, cs2, hR2, hc2⟩ := h4 m _ (List.getElem?_eq_getElem (by omega))
    rcases t2 with t2 | ⟨q2, e2, hq2, ht2⟩
    · omega
    · rw [ea] at e2
      cases e2
      exact ⟨a, ea, shape_node hR2 hA2 (by rw [add_block]; exact ht2) hc2⟩
theorem shape_own {d base e n c : Nat} {h : H} {b : Option Addr} {l : List NodeV} (o : OwnR (elNodeT d) h base e b n c l) : ∀ i, i < n → ∃ a, b = some a ∧ shNode d (fun k => base ≤ k ∧ k < h.size) h (a.add (i * 6)) := fun i hi => by
  have r := o.row
  have hl := r.len
  obtain ⟨a, ea, hA, cs, hR, hc⟩ := r.at' i _ (List.getElem?_eq_getElem (by omega))
  obtain ⟨xs, ho, _⟩ := o.own.own
  rcases thaw_own (A := fun k => True) ho (fun _ _ => trivial) with t | ⟨q, e2, _, ht⟩
  · omega
  · rw [ea] at e2
    cases e2
    exact ⟨a, ea, shape_node hR hA (by rw [add_block]; exact ht) hc⟩
theorem stL_soft {A : Nat → Prop} {a : Addr} {K : H → Prop} : ∀ {l : List Value} {i : Nat} {h : H}, A a.block → thawK h a.block → (∀ (j : Nat) v, l[j]? = some v → ∃ u, cell h (a.add (i + j)) = some u ∧ kd v = kd u ∧ (kd u = 3 → v = .slice none 0 0)) → (∀ h', Soft A h h' → K h') → stL a l i h K
  | [], i, h, _, _, _, hk => hk h (Soft.refl A h)
  | x :: l, i, h, hA, ht, hv, hk => by
    obtain ⟨u, hu, h1, h2⟩ := hv 0 x rfl
    have s := Soft.setc (A := A) (by rw [add_block]; exact hA) hu h1 h2
    refine ⟨⟨u, hu⟩, thaw_iced (by rw [add_block]; exact ht), stL_soft hA (ht.soft s) (fun j v hj => ?_) fun h' s' => hk h' (s.trans s')⟩
    obtain ⟨u, hu, h1, h2⟩ := hv (j + 1) v hj
    obtain ⟨u', hu', h3⟩ := s.cl _ _ hu
    rw [show i + 1 + j = i + (j + 1) by omega]
    refine ⟨u', hu', ?_⟩
    rcases h3 with rfl | ⟨h3, _⟩
    · exact ⟨h1, h2⟩
    · exact ⟨h1.trans h3.symm, fun h => h2 (h3.symm.trans h)⟩
theorem attr_loop {d n c i an : Nat} {A : Nat → Prop} {h3 : H} {a : Addr} {Kn Ke2 Ke1 : Option Addr → Nat → Nat → Int → H → Prop} {Ke0 Kr : H → Prop} (hi : i < n) (hn : n ≤ maxLen) (hsh : shNode (d + 1) A h3 (a.add (i * 6))) (han : an ≤ maxLen)
    (hb : ∀ h4, Soft A h3 h4 → ∀ ab' an' ac', cell h4 ((a.add (i * 6)).add 3) = some (.slice ab' an' ac') → an' ≤ an) (hend : ∀ h5, Soft A h3 h5 → Ke2 (some a) n c (i : Int) h5) :
    ∀ M k h4, k + M = an → Soft A h3 h4 → Sx.r00_SpoilNodes.n13_L Kn Ke2 Ke1 Ke0 Kr (M + 1) (some a) n c (i : Int) (k : Int) h4 := by
  simp only [maxLen] at hn han
  have bd : 0 ≤ (i : Int) ∧ (i : Int) < (n : Int) := ⟨by omega, by omega⟩
  intro M
  induction M with
  | zero =>
    intro k h4 hk s4
    obtain ⟨hA, ht, i0, i1, nm, ab, an', ac, tx, kb, kn, kc, c0, c1, c2, c3, c4, c5, sa, hkn, skd⟩ := hsh.soft s4
    have := hb h4 s4 _ _ _ c3
    unfold Sx.r00_SpoilNodes.n13_L
    exact ⟨bd, vSomeMk ⟨_, _, _, c3, splF (by omega) (hend h4 s4)⟩⟩
  | succ M ih =>
    intro k h4 hk s4
    obtain ⟨hA, ht, i0, i1, nm, ab, an', ac, tx, kb, kn, kc, c0, c1, c2, c3, c4, c5, sa, hkn, skd⟩ := hsh.soft s4
    have := hb h4 s4 _ _ _ c3
    unfold Sx.r00_SpoilNodes.n13_L
    refine ⟨bd, vSomeMk ⟨_, _, _, c3, spl (fun hlt => ⟨bd, vSomeMk ⟨_, _, _, c3, ⟨by omega, hlt⟩, ?_⟩⟩) fun _ => hend h4 s4⟩⟩
    obtain ⟨g, eg, hgA, hgt, ⟨s1, d1⟩, s2, d2⟩ := sa.2 k (by omega)
    subst eg
    refine vSomeMk (stL_soft (A := A) (a := g.add (k * 2)) (by rw [add_block]; exact hgA) (by rw [add_block]; exact hgt) (fun j v hj => ?_) fun h5 s5 => ⟨rngI (by omega) (by omega), ih (k + 1) h5 (by omega) (s4.trans s5)⟩)
    match j, hj with
    | 0, hj => cases hj; exact ⟨_, d1, rfl, fun h => by cases h⟩
    | 1, hj => cases hj; exact ⟨_, d2, rfl, fun h => by cases h⟩
theorem spoil_calls : ∀ (d : Nat) {A : Nat → Prop} {h : H} {b : Option Addr} {n c : Nat} {K : Value → H → Prop} (hn : n ≤ maxLen) (hs : ∀ i, i < n → ∃ a, b = some a ∧ shNode d A h (a.add (i * 6)))
    (hk : ∀ h', Soft A h h' → K (.tuple ⟨[]⟩) h'), HCalls Try.prog 14 ⟨[.slice b n c]⟩ h K := by
  intro d
  induction d with
  | zero =>
    intro A h b n c K hn hs hk
    have h0 : n = 0 := by
      rcases Nat.eq_zero_or_pos n with e | e
      · exact e
      · obtain ⟨a, _, hf⟩ := hs 0 e; exact hf.elim
    subst h0
    refine Sx.r00_SpoilNodes.ok _ _ _ _ _ ⟨1, ?_⟩
    unfold Sx.r00_SpoilNodes.n3_L
    exact splF (by omega) (hk h (Soft.refl A h))
  | succ d ihd =>
    intro A h b n c K hn hs hk
    simp only [maxLen] at hn
    refine Sx.r00_SpoilNodes.ok _ _ _ _ _ ⟨n + 1, ?_⟩
    have key : ∀ N i h2, i + N = n → Soft A h h2 → Sx.r00_SpoilNodes.n3_L (fun h => K (.tuple ⟨[]⟩) h) (fun h => K (.tuple ⟨[]⟩) h) (fun h => K (.tuple ⟨[]⟩) h) (N + 1) b n c (i : Int) h2 := by
      intro N
      induction N with
      | zero =>
        intro i h2 hi s2
        unfold Sx.r00_SpoilNodes.n3_L
        exact splF (by omega) (hk h2 s2)
      | succ N ih =>
        intro i h2 hi s2
        unfold Sx.r00_SpoilNodes.n3_L
        have hin : i < n := by omega
        obtain ⟨a, ea, hsh⟩ := hs i hin
        subst ea
        have bd : 0 ≤ (i : Int) ∧ (i : Int) < (n : Int) := ⟨by omega, by omega⟩
        obtain ⟨hA, ht, i0, i1, nm, ab, an, ac, tx, kb, kn, kc, c0, c1, c2, c3, c4, c5, sa, hkn, skd⟩ := hsh.soft s2
        refine splT (by omega) ⟨bd, vSomeMk ⟨_, _, _, c5, ihd hkn skd fun h3 s3 => ⟨an + 1, ?_⟩⟩⟩
        have s23 := s2.trans s3
        have c3' := s3.sl c3
        refine attr_loop hin hn (hsh.soft s23) sa.1 (fun h4 s4 ab' an' ac' e => ?_) (fun h5 s5 => ?_) an 0 h3 (by omega) (Soft.refl A h3)
        · rcases (s3.trans s4).sl c3 with e2 | e2
          · rw [e] at e2; cases e2; exact Nat.le_refl _
          · rw [e] at e2; cases e2; exact Nat.zero_le _
        · obtain ⟨hA, ht, i0, i1, nm, ab, an, ac, tx, kb, kn, kc, c0, c1, c2, c3, c4, c5, _⟩ := hsh.soft (s23.trans s5)
          refine ⟨bd, vSomeMk (stL_soft (A := A) (a := a.add (i * 6)) hA ht (fun j v hj => ?_) fun h6 s6 => ⟨rngI (by omega) (by omega), ih (i + 1) h6 (by omega) ((s23.trans s5).trans s6)⟩)⟩
          match j, hj with
          | 0, hj => cases hj; exact ⟨_, c0, rfl, fun h => by cases h⟩
          | 1, hj => cases hj; exact ⟨_, c1, rfl, fun h => by cases h⟩
          | 2, hj => cases hj; exact ⟨_, c2, rfl, fun h => by cases h⟩
          | 3, hj => cases hj; exact ⟨_, c3, rfl, fun _ => rfl⟩
          | 4, hj => cases hj; exact ⟨_, c4, rfl, fun h => by cases h⟩
          | 5, hj => cases hj; exact ⟨_, c5, rfl, fun _ => rfl⟩
    exact key n 0 h (by omega) (Soft.refl A h)
end Go.Proofs
