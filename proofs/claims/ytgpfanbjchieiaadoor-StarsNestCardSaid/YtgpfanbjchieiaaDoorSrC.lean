/- stars: the chain, made and walked along. No condition. -/
import Derived.Test.YtgpfanbjchieiaaDoorSrB
namespace Go.Proofs
open Go Go.Sh
set_option linter.unusedVariables false
set_option maxRecDepth 100000
abbrev NL := List (Addr × Nd)
abbrev hd (l : NL) : Option Addr := l.head?.map (·.1)
abbrev blks (l : NL) : List Nat := l.map (·.1.block)
/-- nodes ahead of a place, the nearest first: each knows what stands ahead of it -/
def LeftC (h : H) : NL → Prop
  | [] => True
  | (a, x) :: l => (∃ af, NodeAt h a x (hd l) af) ∧ LeftC h l
/-- nodes from a place on -/
def RightC (h : H) : Option Addr → NL → Prop
  | _, [] => True
  | prev, (a, x) :: l => NodeAt h a x prev (hd l) ∧ RightC h (some a) l
theorem LeftC.keep {h h' : H} {B : Nat → Prop} (k : SK B h h') : ∀ {l : NL}, LeftC h l → (∀ b ∈ blks l, B b) → LeftC h' l
  | [], _, _ => trivial
  | (a, x) :: l, ⟨⟨af, v⟩, t⟩, hb => ⟨⟨af, v.keep k.w (hb _ (by simp))⟩, t.keep k fun b hm => hb b (by simp only [blks, List.map_cons, List.mem_cons]; exact .inr hm)⟩
theorem RightC.keep {h h' : H} {B : Nat → Prop} (k : SK B h h') : ∀ {p : Option Addr} {l : NL}, RightC h p l → (∀ b ∈ blks l, B b) → RightC h' p l
  | _, [], _, _ => trivial
  | _, (a, x) :: l, ⟨v, t⟩, hb => ⟨v.keep k.w (hb _ (by simp)), t.keep k fun b hm => hb b (by simp only [blks, List.map_cons, List.mem_cons]; exact .inr hm)⟩
def lastP (p : Option Addr) : NL → Option Addr
  | [] => p
  | (a, _) :: l => lastP (some a) l
theorem right_last {h : H} {b : Addr} {q : Nd} : ∀ {p : Option Addr} {l : NL}, RightC h p (l ++ [(b, q)]) → NodeAt h b q (lastP p l) none
  | _, [], ⟨v, _⟩ => v
  | _, (_, _) :: l, ⟨_, t⟩ => right_last (l := l) t
theorem right_snoc {h h' : H} {a b : Addr} {q r : Nd} (k : KX b.block h h') (va : NodeAt h' a r (some b) none) : ∀ {p : Option Addr} {l : NL}, RightC h p (l ++ [(b, q)]) → b.block ∉ blks l → NodeAt h' b q (lastP p l) (some a) → RightC h' p (l ++ [(b, q)] ++ [(a, r)])
  | p, [], _, _, vb => ⟨vb, va, trivial⟩
  | p, (c, s) :: l, ⟨v, t⟩, hn, vb' => by
    simp only [blks, List.map_cons, List.mem_cons, not_or] at hn
    refine ⟨?_, right_snoc k va t hn.2 vb'⟩
    have e : hd (l ++ [(b, q)]) = hd (l ++ [(b, q)] ++ [(a, r)]) := by cases l <;> rfl
    have v' := v.keep k.w (show c.block ≠ b.block from fun e => hn.1 e.symm)
    show NodeAt h' c s p (hd (l ++ [(b, q)] ++ [(a, r)]))
    rw [← e]
    exact v'
theorem runAt {A : Nat → Prop} {h : H} {a : Addr} {x : RunP} (hA : At elRun A h a x) : (∀ (j : Nat) v, (runCells x)[j]? = some v → cell h (a.add j) = some v) ∧ RunR x := by
  obtain ⟨_, cs, ⟨c1, c2, rfl, ⟨rfl, h1⟩, c3, c4, rfl, ⟨rfl, h2⟩, c5, c6, rfl, ⟨rfl, h3⟩, c7, c8, rfl, e4, e5⟩, h4⟩ := hA
  have e4 : c7 = [.bool x.2.2.2.1] := e4
  have e5 : c8 = [.bool x.2.2.2.2] := e5
  subst e4; subst e5
  exact ⟨fun j v hv => h4 j v (by simpa [runCells] using hv), h1, h2, h3⟩
/-- the runs that have signs, as they enter the chain -/
def liveL (l : List RunP) : List Nd := (l.filter fun r => decide (r.mn > 0)).map nd0
def r0 : RunP := (0, 0, 0, false, false)
section
variable {h : H} {K : Value → H → Prop} {A : Nat → Prop} {b : Option Addr} {n c : Nat} {l : List RunP}
theorem chain_calls (r : Row elRun A h b n c l) (hn : n ≤ 1000000)
    (hk : ∀ (ns : NL) h', ns.map (·.2) = liveL l → RightC h' none ns → (blks ns).Nodup → (∀ k ∈ blks ns, h.size ≤ k ∧ k < h'.size) → (∀ x ∈ ns, RunR x.2.r) → KB h h' → K (.pointer (hd ns)) h') :
    HCalls Tryd.prog 24 ⟨[.slice b n c]⟩ h K := by
  have hl := r.len
  refine Sx.stars_chain.ok _ _ _ _ _ (newx_var (cs := ndCells (nd0 r0) none none) fun d h1 v1 k1 e1 z1 => ⟨n + 1, ?_⟩)
  have key : ∀ N i h2 (ns : NL) (q : Addr × Nd), i + N = n → (ns ++ [q]).head? = some (d, nd0 r0) → RightC h2 none (ns ++ [q]) → (blks (ns ++ [q])).Nodup → (∀ k ∈ blks (ns ++ [q]), h.size ≤ k ∧ k < h2.size) → (∀ x ∈ (ns ++ [q]).tail, RunR x.2.r) → (ns ++ [q]).tail.map (·.2) = liveL (l.take i) → KB h h2 →
      Sx.stars_chain.n8_L (fun z3 h => Sx.stars_chain.n5 z3 (fun y2 h => K (.pointer y2) h) (fun y2 h => K (.pointer y2) h) h) (fun z3 h => Sx.stars_chain.n5 z3 (fun y2 h => K (.pointer y2) h) (fun y2 h => K (.pointer y2) h) h) (fun y2 h => K (.pointer y2) h) (N + 1) (some d) (some q.1) b n c (n : Int) (i : Int) h2 := by
    intro N
    induction N with
    | zero =>
      intro i h2 ns q hi hhd hR hnd hb hrr hm k2
      refine splF (by omega) (vBool_mk (condF ?_))
      rw [List.take_of_length_le (by omega)] at hm
      cases hq : ns ++ [q] with
      | nil => simp at hq
      | cons x t =>
        rw [hq] at hhd hR hnd hb hm hrr
        obtain rfl : x = (d, nd0 r0) := by simpa using hhd
        simp only [List.tail_cons] at hm hrr
        obtain ⟨vd, hR⟩ := hR
        have hnd' := List.nodup_cons.1 (show (d.block :: blks t).Nodup from hnd)
        refine nd_laf vd (ptrNe_k undP (vBool_mk ?_))
        cases t with
        | nil => exact condF (nd_laf vd (hk [] h2 hm trivial List.nodup_nil (fun k hk => by cases hk) (fun x hx => by cases hx) k2))
        | cons y t =>
          obtain ⟨a, x⟩ := y
          obtain ⟨va, hR⟩ := hR
          have hnd2 := List.nodup_cons.1 (show (a.block :: blks t).Nodup from hnd'.2)
          have hda : d.block ≠ a.block := fun e => hnd'.1 (by rw [e]; simp)
          refine condT (nd_laf vd (nd_ah va fun h3 va3 k3 z3 => nd_laf (vd.keep k3.w hda) (hk ((a, x) :: t) h3 hm ⟨va3, hR.keep k3 fun b hb e => hnd2.1 (e ▸ hb)⟩ hnd'.2 (fun k hk => ?_) hrr (KB.step k2 k3 (hb _ (by simp)).1))))
          have := hb k (by simp only [blks, List.map_cons, List.mem_cons] at hk ⊢; exact .inr hk)
          omega
    | succ N ih =>
      intro i h2 ns q hi hhd hR hnd hb hrr hm k2
      have hi' : i < l.length := by omega
      refine splT (by omega) (vBool_mk (condT ((r.kb k2).idxN hi' rfl fun a hA => ?_)))
      obtain ⟨ca, hrun⟩ := runAt hA
      have ca' : ∀ (j : Nat) v, (runCells l[i])[j]? = some v → cell h2 (((a.add (Int.toNat (i : Int) * 5))).add j) = some v := ca
      refine ⟨_, ca 0 _ rfl, _, ca 1 _ rfl, _, ca 2 _ rfl, _, ca 3 _ rfl, _, ca 4 _ rfl, newx_var fun ax h3 v3 k3 e3 z3 => stL_var0 v3 (Nat.le_refl 5) fun h4 v4 x4 z4 => ?_⟩
      have v4 : Var h4 ax 25 (runCells l[i]) := v4
      have k23 : KB h2 h4 := KB.step k3 x4 (by omega)
      have k04 := k2.trans k23
      have hR4 := hR.keep k23 fun b hb' => (hb b hb').2
      have htk : liveL (l.take (i + 1)) = liveL (l.take i) ++ liveL [l[i]] := by
        rw [List.take_add_one, List.getElem?_eq_getElem hi']
        unfold liveL
        rw [List.filter_append, List.map_append]; rfl
      refine ⟨_, v4.cell 2 rfl, spl (fun hpos => condT ?_) fun hpos => condF ⟨rng64 (by omega) (by omega), ?_⟩⟩
      · refine ⟨_, v4.cell 0 rfl, _, v4.cell 1 rfl, _, v4.cell 2 rfl, _, v4.cell 3 rfl, _, v4.cell 4 rfl, _, v4.cell 2 rfl, newx_var (cs := ndCells (nd0 l[i]) (some q.1) none) fun an h5 v5 k5 e5 z5 => ?_⟩
        have hR5 := hR4.keep k5 fun b hb' => by have := (hb b hb').2; have := k23.1; show b < h4.size; omega
        have hqb := hb q.1.block (by simp)
        have hnq : q.1.block ∉ blks ns := by
          have h := hnd
          unfold blks at h
          rw [List.map_append, List.nodup_append] at h
          exact fun hm => h.2.2 _ hm _ (by simp) rfl
        refine nd_af (right_last hR5) fun h6 v6 x6 z6 => ⟨rng64 (by omega) (by omega), ?_⟩
        have va6 : NodeAt h6 an (nd0 l[i]) (some q.1) none := v5.keep x6.w (by have := k23.1; show an.block ≠ q.1.block; omega)
        have hR6 := right_snoc x6 va6 hR5 hnq v6
        have k06 : KB h h6 := KB.step (k04.trans k5) x6 hqb.1
        have hz : h2.size ≤ h4.size := k23.1
        refine ih (i + 1) h6 (ns ++ [q]) (an, nd0 l[i]) (by omega) ?_ hR6 ?_ ?_ ?_ ?_ k06
        · rw [List.head?_append, hhd]; rfl
        · unfold blks
          rw [List.map_append, List.nodup_append]
          refine ⟨hnd, by simp, fun x hx y hy => ?_⟩
          have := hb x hx
          simp at hy
          omega
        · intro k hk
          unfold blks at hk
          rw [List.map_append] at hk
          rcases List.mem_append.1 hk with hk | hk
          · have := hb k hk; omega
          · simp at hk; have := k04.1; omega
        · intro x hx
          rw [List.tail_append_of_ne_nil (by simp)] at hx
          rcases List.mem_append.1 hx with hx | hx
          · exact hrr x hx
          · simp at hx; subst hx; exact hrun
        · rw [List.tail_append_of_ne_nil (by simp), List.map_append, hm, htk]
          congr 1
          have hpos : l[i].2.2.1 > 0 := hpos
          simp [liveL, RunP.mn, hpos]
      · refine ih (i + 1) h4 ns q (by omega) hhd hR4 hnd (fun k hk => ?_) hrr ?_ k04
        · have := hb k hk; have := k23.1; omega
        · rw [htk, hm]
          have hpos : ¬ l[i].2.2.1 > 0 := hpos
          simp [liveL, RunP.mn, hpos]
  refine key n 0 h1 [] (d, nd0 r0) (by omega) rfl ⟨v1, trivial⟩ (by simp) (fun k hk => ?_) (fun x hx => by cases hx) rfl k1
  simp at hk
  omega
end
end Go.Proofs
