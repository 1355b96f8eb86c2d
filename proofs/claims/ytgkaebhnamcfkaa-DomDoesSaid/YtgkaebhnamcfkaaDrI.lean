/- dom: DomDoes: one call, on both trees. No condition but that they are trees of the same nodes. dom: DomDoes: each of the other calls, on both trees. No condition but that they are trees of the same nodes. dom: DomDoes. No condition. -/
import Derived.Test.YtgkaebhnamcfkaaDrH
namespace Go.Proofs
open Go Go.Sh
set_option linter.unusedVariables false
set_option maxRecDepth 100000
abbrev opC (x : OpP) (ab : Option Addr) (an ac : Nat) (kb : Option Addr) (kn kc : Nat) : List Value :=
  [.int .u8 x.1, .int .u8 x.2.1.kind, .int .u8 x.2.1.space, S x.2.1.name, .slice ab an ac, S x.2.1.text, .slice kb kn kc, .int .i64 x.2.2.1, .int .i64 x.2.2.2.1, .int .i64 x.2.2.2.2]
/-- what a call holds -/
structure OpG (d : Nat) (A : Nat → Prop) (h : H) (x : OpP) (ab : Option Addr) (an ac : Nat) (kb : Option Addr) (kn kc : Nat) : Prop where
  ra : Row elAttr A h ab an ac x.2.1.attrs
  hz : ab = none → ac = 0
  rk : Row (elNode d) A h kb kn kc x.2.1.kids
  hz2 : kb = none → kc = 0
  q1 : Rng .u8 x.2.1.kind
  q2 : Rng .u8 x.2.1.space
  q3 : x.2.1.name.length ≤ maxLen
  q4 : x.2.1.text.length ≤ maxLen
theorem OpG.keep {d : Nat} {A A' : Nat → Prop} {h h' : H} {x : OpP} {ab kb : Option Addr} {an ac kn kc : Nat} (g : OpG d A h x ab an ac kb kn kc) (k : Keep (fun k => A k ∧ k < h.size) h h') (hb : ∀ k, A k → k < h.size → A' k) : OpG d A' h' x ab an ac kb kn kc :=
  ⟨g.ra.keep k hb, g.hz, g.rk.keep k hb, g.hz2, g.q1, g.q2, g.q3, g.q4⟩
theorem opF {d : Nat} {A : Nat → Prop} {h : H} {a : Addr} {x : OpP} (hA : At (elOp d) A h a x) : ∃ ab an ac kb kn kc, (∀ (j : Nat) v, (opC x ab an ac kb kn kc)[j]? = some v → cell h (a.add j) = some v) ∧ OpG d A h x ab an ac kb kn kc := by
  obtain ⟨_, cs, ⟨c1, c2, rfl, ⟨rfl, _⟩, c3, c4, rfl, hR, c5, c6, rfl, ⟨rfl, _⟩, c7, c8, rfl, ⟨rfl, _⟩, ⟨rfl, _⟩⟩, hc⟩ := hA
  obtain ⟨ab, an, ac, kb, kn, kc, rfl, ra, hz, rk, hz2, r1, r2, r3, r4⟩ := nodeR_inv (nodeR_up hR)
  exact ⟨ab, an, ac, kb, kn, kc, hc, ra, hz, rk, hz2, r1, r2, r3, r4⟩
theorem cellS {A : Nat → Prop} {h h' : H} {a : Addr} {j : Nat} {v : Value} (e : cell h (a.add j) = some v) (hA : A a.block) (k : SK A h h') : cell h' (a.add j) = some v := (SK.w k).cell (by rw [add_block]; exact hA) e
theorem thawK.sk {A : Nat → Prop} {h h' : H} {g : Nat} (t : thawK h g) (hA : A g) (k : SK A h h') : thawK h' g := by
  obtain ⟨c, e, hg⟩ := t
  exact ⟨c, e, by rw [k.2 g hA]; exact hg⟩
theorem shAttr.sk {A : Nat → Prop} {h h' : H} {b : Option Addr} {n : Nat} (s : shAttr A h b n) (k : SK A h h') : shAttr A h' b n :=
  ⟨s.1, fun i hi => by
    obtain ⟨a, e, hA, ht, ⟨s1, c1⟩, s2, c2⟩ := s.2 i hi
    exact ⟨a, e, hA, ht.sk hA k, ⟨s1, cellS c1 (by rw [add_block]; exact hA) k⟩, s2, cellS c2 (by rw [add_block]; exact hA) k⟩⟩
theorem shNode.sk {A : Nat → Prop} {h h' : H} (k : SK A h h') : ∀ {d : Nat} {q : Addr}, shNode d A h q → shNode d A h' q
  | 0, _, s => s.elim
  | d + 1, q, ⟨hA, ht, i, j, s, ab, an, ac, tx, kb, kn, kc, c0, c1, c2, c3, c4, c5, sa, hk, sk⟩ =>
    ⟨hA, ht.sk hA k, i, j, s, ab, an, ac, tx, kb, kn, kc, cellS c0 hA k, cellS c1 hA k, cellS c2 hA k, cellS c3 hA k, cellS c4 hA k, cellS c5 hA k, sa.sk k, hk, fun m hm => by
      obtain ⟨a, e, hs⟩ := sk m hm
      exact ⟨a, e, shNode.sk k hs⟩⟩
section
variable {h h0 h' : H} {K : Value → H → Prop} {col col' : Col} {s i p m : Nat} {t r a x7 : Addr} {ads ads' : List Addr} {ns ns' : List NodeM} {d : Nat} {x : OpP} {ab kb : Option Addr} {an ac kn kc : Nat}
theorem RefP.keep (T : RefP h col s t ns) {B : Nat → Prop} (k : Keep B h h') (hc : ∀ k, k < h.size → col' k = col k) (hf : ∀ k, h'.size ≤ k → col' k = none) (hB : ∀ k, k < h.size → (col k = none ∨ ∃ p, col k = some (s, p)) → B k) : RefP h' col' s t ns := by
  obtain ⟨lb, lc, rs, C, em⟩ := T
  exact ⟨lb, lc, rs, C.keep k hc hf hB, em⟩
theorem var_ext {tt : Nat} {cs : List Value} (v : Var h a tt cs) (hv : col a.block = none) (e : Ext s h col h' col') : Var h' a tt cs ∧ col' a.block = none :=
  ⟨v.keep e.sk.w ⟨v.lt, fun p e => by rw [hv] at e; cases e⟩, (e.cl _ v.lt).trans hv⟩
theorem keep_ext (c : ∀ k, k < h0.size → col k = none) (k0 : h0.size ≤ h.size) (e : Ext s h col h' col') : Keep (Bel h0.size) h h' := SK.w (e.sk.less fun k (hk : k < h0.size) => ⟨by omega, fun p e => by rw [c k hk] at e; cases e⟩)
theorem rdN {tt : Nat} (v : Var h x7 tt (opC x ab an ac kb kn kc)) (j : Nat) {w : Value} (e : (opC x ab an ac kb kn kc)[1 + j]? = some w) : cell h ((x7.add 1).add j) = some w := by rw [add_add]; exact v.cell (1 + j) e
theorem copy_rM (T : RefP h col s t ns) (B : BareT ns) {id : Int} (hfew : ns.length < 1000000) (hk : ∀ h' col', RefP h' col' s t (copyM ns id).1 → Ext s h col h' col' → K (.int .i64 (copyM ns id).2) h') :
    HCalls Try.prog 20 ⟨[.pointer (some t), .int .i64 id]⟩ h K := copy_r T hfew (by rw [copyR_eq B]; exact hk)
theorem does_make (W : TwoT h0 h col t r ads ns) (v : Var h x7 33 (opC x ab an ac kb kn kc)) (hv : col x7.block = none) (g : OpG d (Bel h0.size) h x ab an ac kb kn kc) (few : totN (d + 1) [x.2.1] ≤ 600) (hfew : ns.length < 1000000)
    {b : Option Addr} {n c : Nat} {x5 x6 : Int} {Kn Ke2 : Sx.l10_DomDoes.T8} {Ke1 : Sx.l10_DomDoes.T6} {Ke0 : Sx.l10_DomDoes.T5} {Kr : Sx.l10_DomDoes.T0}
    (hk : ∀ h' col' ads' y5, TwoT h0 h' col' t r ads' (addM ns (bareM x.2.1.kind x.2.1.space x.2.1.name x.2.1.attrs x.2.1.text)).1 → (y5 = x5 ∨ y5 = (addM ns (bareM x.2.1.kind x.2.1.space x.2.1.name x.2.1.attrs x.2.1.text)).2) → x5 ≤ y5 → Kn b n c (some t) (some r) y5 x6 true h') :
    Sx.l10_DomDoes.n23 b n c (some t) (some r) x5 x6 x7 Kn Ke2 Ke1 Ke0 Kr h := by
  obtain ⟨y0, hy0, _⟩ := W.G.root
  have hn0 := getI hy0
  refine ⟨_, rdN v 0 rfl, _, rdN v 1 rfl, _, rdN v 2 rfl, _, _, _, rdN v 3 rfl, _, rdN v 4 rfl, _, _, _, rdN v 5 rfl, newx_var fun a2 h2 v2 k2 e2 s2 => ?_⟩
  refine lentT_calls (d + 1) (l := [x.2.1]) (row_one (x := x.2.1) v2 (g.ra.kb k2) g.hz (g.rk.kb k2) g.hz2 g.q1 g.q2 g.q3 g.q4) (few_tot (by omega)) fun b3 c3 h3 o3 k3 => vSliceMk ?_
  have hs0 := W.k.1
  have hs2 := k2.1
  have hs3 := k3.1
  have hvl := v.lt
  -- what is lent has a colour of its own
  have kO : ∀ k, k < h.size → (fun k => if h2.size ≤ k ∧ k < h3.size then some (9, 0) else col k : Col) k = col k := fun k hk => if_neg (by omega)
  have kA : ∀ k, (h2.size ≤ k ∧ k < h3.size) → (fun k => if h2.size ≤ k ∧ k < h3.size then some (9, 0) else col k : Col) k = some (9, 0) := fun k hk => if_pos hk
  have kF : ∀ k, h3.size ≤ k → (fun k => if h2.size ≤ k ∧ k < h3.size then some (9, 0) else col k : Col) k = none := fun k hk => by
    show (if _ then _ else _) = _
    rw [if_neg (by omega)]; exact W.T.fresh k (by omega)
  generalize (fun k => if h2.size ≤ k ∧ k < h3.size then some (9, 0) else col k : Col) = colO at kO kA kF
  have k23 : KB h h3 := k2.trans k3
  have T3 : TreeP h3 colO 0 t ads ns := W.T.keep (KB.w k23) kO kF fun k hk _ => hk
  have R3 : RefP h3 colO 1 r ns := W.R.keep (KB.w k23) kO kF fun k hk _ => hk
  have c3' : ∀ k, k < h0.size → colO k = none := fun k hk => (kO k (by omega)).trans (W.c k hk)
  have v3 := v.kb k23
  have hv3 : colO x7.block = none := (kO _ hvl).trans hv
  have ro := o3.weakT.row
  have att : x.2.1.attrs.length ≤ totN (d + 1) [x.2.1] := tot_attrs (List.mem_singleton.2 rfl)
  refine ro.idxN (i := 0) (Nat.zero_lt_one) rfl fun a hA => ldNode hA fun ab' an' ac' kb' kn' kc' ra' hz' rk' hz2' _ _ _ _ => ?_
  have hal := ra'.len
  have hal : x.2.1.attrs.length = an' := hal
  refine make_calls T3 ra' hz' (by omega) g.q1 g.q2 g.q3 g.q4 hfew fun h4 col4 ads4 T4 E4 => vIntMk ?_
  obtain ⟨v4, hv4⟩ := var_ext v3 hv3 E4
  have hs4 := E4.sk.1
  have c4 : ∀ k, k < h0.size → col4 k = none := fun k hk => (E4.cl k (by omega)).trans (c3' k hk)
  have ke4 : Keep (Bel h0.size) h h4 := Keep.trans (Keep.less (KB.w k23) fun k (hk : k < h0.size) => show k < h.size by omega) (keep_ext c3' (by omega) E4)
  have g4 : OpG d (Bel h0.size) h4 x ab an ac kb kn kc := g.keep (ke4.less fun k hk => hk.1) fun k hk _ => hk
  have hal4 := g4.ra.len
  refine ⟨_, rdN v4 0 rfl, _, rdN v4 1 rfl, _, rdN v4 2 rfl, _, _, _, rdN v4 3 rfl, _, rdN v4 4 rfl, _, _, _, rdN v4 5 rfl, ?_⟩
  refine make_r (R3.other (by decide) E4 T4.fresh) g4.ra (by omega) g.q1 g.q2 g.q3 g.q4 hfew fun h5 col5 R5 E5 => vIntMk ?_
  have hs5 := E5.sk.1
  have skA : SK (fun k => h2.size ≤ k ∧ k < h3.size) h3 h5 := SK.trans (E4.sk.less fun k hk => ⟨hk.2, fun p e => by rw [kA k hk] at e; cases e⟩) (E5.sk.less fun k hk => ⟨by have := hk.2; omega, fun p e => by rw [E4.cl k hk.2, kA k hk] at e; cases e⟩)
  have colA : ∀ k, (h2.size ≤ k ∧ k < h3.size) → col5 k = some (9, 0) := fun k hk => (E5.cl k (by have := hk.2; omega)).trans ((E4.cl k hk.2).trans (kA k hk))
  refine spoil_calls (d + 1) (A := fun k => h2.size ≤ k ∧ k < h3.size) (by decide) (fun i hi => by
    obtain ⟨a, e, hs⟩ := shape_own o3 i hi
    exact ⟨a, e, shNode.sk skA hs⟩) fun h6 f6 => ?_
  have hs6 := f6.sk.1
  have T5 := T4.other (by decide) E5 R5.fresh
  have T6 : TreeP h6 col5 0 t ads4 _ := T5.keep (SK.w f6.sk) (fun _ _ => rfl) (fun k hk => R5.fresh k (by omega)) fun k hk hor hA => by
    rw [colA k hA] at hor; rcases hor with h1 | ⟨p, h1⟩ <;> cases h1
  have R6 : RefP h6 col5 1 r _ := R5.keep (SK.w f6.sk) (fun _ _ => rfl) (fun k hk => R5.fresh k (by omega)) fun k hk hor hA => by
    rw [colA k hA] at hor; rcases hor with h1 | ⟨p, h1⟩ <;> cases h1
  have c5 : ∀ k, k < h0.size → col5 k = none := fun k hk => (E5.cl k (by omega)).trans (c4 k hk)
  have k03 : KB h0 h3 := W.k.trans k23
  have k05 : KB h0 h5 := (ext_kb (ext_kb k03 c3' E4).1 c4 E5).1
  have k06 : KB h0 h6 := SK.trans k05 (f6.sk.less fun k (hk : k < h0.size) hA => by omega)
  have W6 : TwoT h0 h6 col5 t r ads4 _ := ⟨T6, R6, W.G.addM _ _ _ _ _, W.B.addM hn0 _ _ _ _ _, k06, c5⟩
  have fin := hk h6 col5 ads4
  refine splT rfl ?_
  by_cases hgt : (addM ns (bareM x.2.1.kind x.2.1.space x.2.1.name x.2.1.attrs x.2.1.text)).2 > x5
  · rw [if_pos hgt]; exact fin _ W6 (.inr rfl) (by omega)
  · rw [if_neg hgt]; exact fin _ W6 (.inl rfl) (by omega)
end
end Go.Proofs
namespace Go.Proofs
open Go Go.Sh
set_option linter.unusedVariables false
set_option maxRecDepth 100000
section
variable {h h0 h' : H} {K : Value → H → Prop} {col col' : Col} {s i p m : Nat} {t r a x7 : Addr} {ads ads' : List Addr} {ns ns' : List NodeM} {d : Nat} {x : OpP} {ab kb : Option Addr} {an ac kn kc : Nat}
  {b : Option Addr} {n c : Nat} {x5 x6 : Int} {Kn Ke2 : Sx.l10_DomDoes.T8} {Ke1 : Sx.l10_DomDoes.T6} {Ke0 : Sx.l10_DomDoes.T5} {Kr : Sx.l10_DomDoes.T0}
theorem does_copy (W : TwoT h0 h col t r ads ns) (v : Var h x7 33 (opC x ab an ac kb kn kc)) (hv : col x7.block = none) (hfew : ns.length < 1000000)
    (hk : ∀ h' col' ads' y5, TwoT h0 h' col' t r ads' (copyM ns x.2.2.1).1 → (y5 = x5 ∨ y5 = (copyM ns x.2.2.1).2) → x5 ≤ y5 → Kn b n c (some t) (some r) y5 x6 true h') :
    Sx.l10_DomDoes.n26 b n c (some t) (some r) x5 x6 x7 Kn Ke2 Ke1 Ke0 Kr h := by
  obtain ⟨y0, hy0, _⟩ := W.G.root
  have hn0 := getI hy0
  refine ⟨_, v.cell 7 rfl, copy_calls W.T hfew fun h1 col1 ads1 T1 E1 => vIntMk ?_⟩
  obtain ⟨v1, hv1⟩ := var_ext v hv E1
  refine ⟨_, v1.cell 7 rfl, copy_rM (W.mid T1 E1) W.B hfew fun h2 col2 R2 E2 => vIntMk (splT rfl ?_)⟩
  have W2 := W.act T1 E1 R2 E2 (W.G.copyM _) (W.B.copyM hn0 _)
  have fin := hk h2 col2 ads1
  by_cases hgt : (copyM ns x.2.2.1).2 > x5
  · rw [if_pos hgt]; exact fin _ W2 (.inr rfl) (by omega)
  · rw [if_neg hgt]; exact fin _ W2 (.inl rfl) (by omega)
theorem does_put (W : TwoT h0 h col t r ads ns) (v : Var h x7 33 (opC x ab an ac kb kn kc)) (hv : col x7.block = none)
    (hk : ∀ h' col', TwoT h0 h' col' t r ads (putM ns x.2.2.1 x.2.2.2.1 x.2.2.2.2).1 → Kn b n c (some t) (some r) x5 x6 true h') :
    Sx.l10_DomDoes.n29 b n c (some t) (some r) x5 x6 x7 Kn Ke2 Ke1 Ke0 Kr h := by
  refine ⟨⟨⟨?_, ?_⟩, ⟨?_, ?_⟩⟩, ⟨⟨?_, ?_⟩, ⟨?_, ?_⟩⟩⟩
  all_goals
    repeat (first | refine ⟨_, v.cell 7 rfl, ?_⟩ | refine ⟨_, v.cell 8 rfl, ?_⟩ | refine ⟨_, v.cell 9 rfl, ?_⟩)
    refine put_calls W.T W.G fun h1 col1 T1 E1 => vBool_mk ?_
    obtain ⟨v1, hv1⟩ := var_ext v hv E1
    refine condB (fun e1 => ?_) fun e1 => ?_
    all_goals
      repeat (first | refine ⟨_, v1.cell 7 rfl, ?_⟩ | refine ⟨_, v1.cell 8 rfl, ?_⟩ | refine ⟨_, v1.cell 9 rfl, ?_⟩)
      refine put_r (W.mid T1 E1) W.G fun h2 col2 R2 E2 => vBool_mk ?_
      rw [e1]
      exact hk h2 col2 (W.act T1 E1 R2 E2 (W.G.putM _ _ _) (W.B.like (put_like W.G _ _ _)))
theorem does_cut (W : TwoT h0 h col t r ads ns) (v : Var h x7 33 (opC x ab an ac kb kn kc)) (hv : col x7.block = none)
    (hk : ∀ h' col', TwoT h0 h' col' t r ads (cutM ns x.2.2.1).1 → Kn b n c (some t) (some r) x5 x6 true h') :
    Sx.l10_DomDoes.n32 b n c (some t) (some r) x5 x6 x7 Kn Ke2 Ke1 Ke0 Kr h := by
  refine ⟨?_, ?_⟩
  all_goals
    repeat (first | refine ⟨_, v.cell 7 rfl, ?_⟩)
    refine cut_calls W.T W.G fun h1 col1 T1 E1 => vBool_mk ?_
    obtain ⟨v1, hv1⟩ := var_ext v hv E1
    refine condB (fun e1 => ?_) fun e1 => ?_
    all_goals
      repeat (first | refine ⟨_, v1.cell 7 rfl, ?_⟩)
      refine cut_r (W.mid T1 E1) W.G fun h2 col2 R2 E2 => vBool_mk ?_
      rw [e1]
      exact hk h2 col2 (W.act T1 E1 R2 E2 (W.G.cutM _) (W.B.like (cut_like W.G _)))
theorem does_move_write (W : TwoT h0 h col t r ads ns) (v : Var h x7 33 (opC x ab an ac kb kn kc)) (hv : col x7.block = none) (TB : TextB ns m) (hm : m ≤ 1000000) (htx : x.2.1.text.length ≤ 5000) (hfew : ns.length < 1000000) (h5 : 0 ≤ x5 ∧ x5 ≤ 1000000) {is : Bool}
    (hk : ∀ h' col', TwoT h0 h' col' t r ads (moveM ns x.2.2.1 x.2.2.2.1).1 → Kn b n c (some t) (some r) x5 x6 true h')
    (hw : ∀ h' col' ads', TwoT h0 h' col' t r ads' (writeM ns x.2.2.1 x.2.2.2.1 x.2.1.text).1 → Kn b n c (some t) (some r) (x5 + 1) x6 true h') :
    Sx.l10_DomDoes.n34 b n c (some t) (some r) x5 x6 x7 is Kn Ke2 Ke1 Ke0 Kr h := by
  obtain ⟨y0, hy0, _⟩ := W.G.root
  have hn0 := getI hy0
  cases is with
  | true =>
    refine condT ⟨⟨?_, ?_⟩, ⟨?_, ?_⟩⟩
    all_goals
      repeat (first | refine ⟨_, v.cell 7 rfl, ?_⟩ | refine ⟨_, v.cell 8 rfl, ?_⟩)
      refine move_calls W.T W.G fun h1 col1 T1 E1 => vBool_mk ?_
      obtain ⟨v1, hv1⟩ := var_ext v hv E1
      refine condB (fun e1 => ?_) fun e1 => ?_
      all_goals
        repeat (first | refine ⟨_, v1.cell 7 rfl, ?_⟩ | refine ⟨_, v1.cell 8 rfl, ?_⟩)
        refine move_r (W.mid T1 E1) W.G fun h2 col2 R2 E2 => vBool_mk ?_
        rw [e1]
        exact hk h2 col2 (W.act T1 E1 R2 E2 (W.G.moveM _ _) (W.B.like (move_like _ _)))
  | false =>
    have htm : x.2.1.text.length ≤ maxLen := by simp only [maxLen]; omega
    have hlen : ∀ (i : Nat) z, ns[i]? = some z → z.text.length + x.2.1.text.length ≤ 9223372036854775807 := fun i z hz => by have := TB i z hz; omega
    refine condF ⟨⟨⟨?_, ?_⟩, ⟨?_, ?_⟩⟩, ⟨⟨?_, ?_⟩, ⟨?_, ?_⟩⟩⟩
    all_goals
      repeat (first | refine ⟨_, v.cell 7 rfl, ?_⟩ | refine ⟨_, v.cell 8 rfl, ?_⟩ | refine ⟨_, rdN v 4 rfl, ?_⟩)
      refine write_calls W.T W.G hlen htm hfew fun h1 col1 ads1 T1 E1 => vBool_mk ?_
      obtain ⟨v1, hv1⟩ := var_ext v hv E1
      refine condB (fun e1 => ?_) fun e1 => ?_
      all_goals
        repeat (first | refine ⟨_, v1.cell 7 rfl, ?_⟩ | refine ⟨_, v1.cell 8 rfl, ?_⟩ | refine ⟨_, rdN v1 4 rfl, ?_⟩)
        refine write_r (W.mid T1 E1) W.G hlen htm hfew fun h2 col2 R2 E2 => vBool_mk ?_
        rw [e1]
        exact ⟨rngI (by omega) (by omega), hw h2 col2 ads1 (W.act T1 E1 R2 E2 (W.G.writeM _ _ _) (W.B.writeM W.G hn0 _ _ _))⟩
end
end Go.Proofs
namespace Go.Proofs
open Go Go.Sh
set_option linter.unusedVariables false
set_option maxRecDepth 100000
theorem text_tot {d : Nat} {x : NodeV} (h : totN (d + 1) [x] ≤ 600) : x.text.length ≤ 5000 := by
  have h1 : nodeW (totN d) x ≤ totN (d + 1) [x] := sumN_mem (List.mem_singleton.2 rfl)
  rw [nodeW_eq] at h1
  omega
theorem op_tot {d : Nat} {l : List OpP} {i : Nat} (hi : i < l.length) (hw : sumN (fun x : OpP => totN (d + 1) [x.2.1]) l ≤ 600) : totN (d + 1) [l[i].2.1] ≤ 600 :=
  Nat.le_trans (sumN_mem (f := fun x : OpP => totN (d + 1) [x.2.1]) (List.getElem_mem hi)) hw
section
variable {h h0 h' : H} {K : Value → H → Prop} {col col' : Col} {s i p m : Nat} {t r a x7 : Addr} {ads ads' : List Addr} {ns ns' : List NodeM} {d : Nat} {x : OpP} {ab kb : Option Addr} {an ac kn kc : Nat}
  {b : Option Addr} {n c : Nat} {x5 x6 : Int} {Kn : Sx.l10_DomDoes.T8} {Ke1 : Sx.l10_DomDoes.T6} {Ke0 : Sx.l10_DomDoes.T5} {Kr : Sx.l10_DomDoes.T0}
theorem does_act (W : TwoT h0 h col t r ads ns) (v : Var h x7 33 (opC x ab an ac kb kn kc)) (hv : col x7.block = none) (g : OpG d (Bel h0.size) h x ab an ac kb kn kc) (few : totN (d + 1) [x.2.1] ≤ 600) (hfew : ns.length ≤ 200) (TB : TextB ns m) (hm : m ≤ 990000) (h5 : 0 ≤ x5 ∧ x5 ≤ 1000)
    (hk : ∀ h' col' ads' ns' y5, TwoT h0 h' col' t r ads' ns' → ns'.length ≤ ns.length + 1 → TextB ns' (m + 5000) → 0 ≤ y5 → (y5 ≤ x5 + 1 ∨ y5 ≤ ns.length) → Kn b n c (some t) (some r) y5 x6 true h') :
    Sx.l10_DomDoes.n19 b n c (some t) (some r) x5 x6 x7 Kn Ke1 Ke0 Kr h := by
  have htx := text_tot few
  have mk : Sx.l10_DomDoes.n23 b n c (some t) (some r) x5 x6 x7 Kn Kn Ke1 Ke0 Kr h := does_make W v hv g few (by omega) fun h' col' ads' y5 W' ho hle =>
    hk h' col' ads' _ y5 W' add_len ((TB.mono (by omega)).addM (by omega)) (by omega) (by
      rcases ho with e | e
      · left; omega
      · right; rw [e]; exact add_val.1)
  have put : Sx.l10_DomDoes.n29 b n c (some t) (some r) x5 x6 x7 Kn Kn Ke1 Ke0 Kr h := does_put W v hv fun h' col' W' =>
    hk h' col' ads _ x5 W' (by rw [put_len W.G]; omega) ((TB.mono (by omega)).like (put_like W.G _ _ _)) h5.1 (.inl (by omega))
  refine ⟨_, v.cell 0 rfl, by decide, ?_⟩
  refine spl (fun _ => condT mk) fun _ => spl (fun _ => condT mk) fun _ => condF (spl (fun _ => condT ?_) fun _ => condF (spl (fun _ => condT put) fun _ => spl (fun _ => condT put) fun _ => condF (spl (fun _ => condT ?_) fun _ => condF ?_)))
  · exact does_copy W v hv (by omega) fun h' col' ads' y5 W' ho hle => hk h' col' ads' _ y5 W' (copy_len _) ((TB.mono (by omega)).copyM _) (by omega) (by
      rcases ho with e | e
      · left; omega
      · right; rw [e]; exact (copy_val _).1)
  · exact does_cut W v hv fun h' col' W' => hk h' col' ads _ x5 W' (by rw [cutM_len ns W.G]; omega) ((TB.mono (by omega)).like (cut_like W.G _)) h5.1 (.inl (by omega))
  · have mw : ∀ is, Sx.l10_DomDoes.n34 b n c (some t) (some r) x5 x6 x7 is Kn Kn Ke1 Ke0 Kr h := fun is =>
      does_move_write (is := is) W v hv TB (by omega) htx (by omega) ⟨h5.1, by omega⟩ (fun h' col' W' => hk h' col' ads _ x5 W' (by rw [move_len]; omega) ((TB.mono (by omega)).like (move_like _ _)) h5.1 (.inl (by omega)))
        fun h' col' ads' W' => hk h' col' ads' _ (x5 + 1) W' (write_len W.G _ _ _) (TB.writeM W.G _ _ htx) (by omega) (.inl (Int.le_refl _))
    exact spl (fun _ => mw true) fun _ => mw false
theorem lawDoes_calls {A : Nat → Prop} {l : List OpP} (R : Row (elOp d) A h b n c l)
    (hk : ∀ h', KB h h' → K (.bool true) h') : HCalls Try.prog 4 ⟨[.slice b n c]⟩ h K := by
  have hl := R.len
  refine Sx.l10_DomDoes.ok _ _ _ _ _ (heavy_calls R fun h2 v k2 hv => vBool_mk (condB (fun _ => known_calls fun h3 k3 => vBool_mk (condT (hk h3 (k2.trans k3)))) fun e => ?_))
  obtain ⟨hn, hw⟩ := hv e
  refine known_calls fun h4 k4 => vBool_mk (condT ?_)
  have k14 := k2.trans k4
  refine new_calls (s := 0) (col := fun _ => none) (fun _ _ => rfl) fun t h5 c5 a5 T5 E5 => vPtrMk ?_
  refine new_r (s := 1) T5.fresh fun r h6 c6 R6 E6 => vPtrMk ⟨n + 1, ?_⟩
  obtain ⟨k5, q5⟩ := ext_kb (KB.refl h4) (fun _ _ => rfl) E5
  obtain ⟨k6, q6⟩ := ext_kb k5 q5 E6
  have W6 : TwoT h4 h6 c6 t r a5 [rootM] := ⟨T5.other (by decide) E6 R6.fresh, R6, good_root, BareT.root1, k6, q6⟩
  have key : ∀ N i h7 c7 ads ns (x5 : Int), i + N = n → TwoT h4 h7 c7 t r ads ns → ns.length ≤ i + 1 → TextB ns (5000 * i) → 0 ≤ x5 → x5 ≤ 200 + i →
      Sx.l10_DomDoes.n10_L (fun h => Sx.l10_DomDoes.n7 (fun y2 h => K (.bool y2) h) (fun y2 h => K (.bool y2) h) h) (fun h => Sx.l10_DomDoes.n7 (fun y2 h => K (.bool y2) h) (fun y2 h => K (.bool y2) h) h) (fun y2 h => K (.bool y2) h) (N + 1) b n c (some t) (some r) x5 (i : Int) h7 := by
    intro N
    induction N with
    | zero =>
      intro i h7 c7 ads ns x5 hi W hlen TB g0 g1
      unfold Sx.l10_DomDoes.n10_L
      exact splF (by omega) (hk h7 (k14.trans W.k))
    | succ N ih =>
      intro i h7 c7 ads ns x5 hi W hlen TB g0 g1
      have hil : i < l.length := by omega
      have k7 := k14.trans W.k
      have hs7 := W.k.1
      unfold Sx.l10_DomDoes.n10_L
      have R7 : Row (elOp d) (Bel h4.size) h7 b n c l := (R.bel.kb k7).keep (Keep.refl _ _) fun q (hq : q < h.size) _ => show q < h4.size by have := k14.1; omega
      refine splT (by omega) (R7.idxN hil rfl fun a hA => ?_)
      obtain ⟨ab, an, ac, kb, kn, kc, hc, g⟩ := opF hA
      refine ⟨_, hc 0 _ rfl, _, hc 1 _ rfl, _, hc 2 _ rfl, _, hc 3 _ rfl, _, _, _, hc 4 _ rfl, _, hc 5 _ rfl, _, _, _, hc 6 _ rfl, _, hc 7 _ rfl, _, hc 8 _ rfl, _, hc 9 _ rfl, newx_var fun x7 h8 v8 k8 e8 s8 => stL_var0 v8 (Nat.le_refl 10) fun h9 v9 k9 s9 => ?_⟩
      have k79 : KB h7 h9 := KB.step k8 k9 (by omega)
      have v9 : Var h9 x7 33 (opC l[i] ab an ac kb kn kc) := v9
      have g9 : OpG d (Bel h4.size) h9 l[i] ab an ac kb kn kc := g.keep ((KB.w k79).less fun k hk => hk.2) fun k hk _ => hk
      refine does_act (m := 5000 * i) (W.kb k79) v9 (W.T.fresh _ (by omega)) g9 (op_tot hil (by omega)) (by omega) TB (by omega) ⟨g0, by omega⟩ fun h' col' ads' ns' y5 W' hlen' TB' y0 y1 => ?_
      have y2 : y5 ≤ 200 + ((i + 1 : Nat) : Int) := by omega
      refine condT ⟨rngI (by omega) (by omega), stands_calls W' (by omega) (by omega) fun h'' k'' => vBool_mk (condT ⟨rngI (by omega) (by omega), ?_⟩)⟩
      exact ih (i + 1) h'' col' ads' ns' y5 (by omega) (W'.kb k'') (by omega) (TB'.mono (by omega)) y0 y2
  exact key n 0 h6 c6 a5 [rootM] 0 (by omega) W6 (by decide) (TextB.root1.mono (by omega)) (by omega) (by omega)
end
end Go.Proofs
