/- dom: comparing nodes; own copies; how much nodes weigh. No condition. -/
import Derived.Test.YtgkaebhnamcfkaaDoL
import Derived.Test.YtgkaebhnamcfkaaTxB
namespace Go.Proofs
open Go Go.Sh
set_option linter.unusedVariables false
set_option maxRecDepth 100000
theorem eqAttr (x y : AttrP) : eqAll [S x.1, S x.2] [S y.1, S y.2] = decide (x = y) := by
  obtain ⟨x1, x2⟩ := x; obtain ⟨y1, y2⟩ := y
  simp only [eqAll, eqV, Bool.and_true]
  rw [Bool.eq_iff_iff]
  simp
theorem attrNe {x y : AttrP} {p q : Operand} {h : H} {K : Value → Prop} (hk : K (.bool (!decide (x = y)))) : SemR Try.prog (binS .neq 59 p q (.agg ⟨[S x.1, S x.2]⟩) (.agg ⟨[S y.1, S y.2]⟩)) h K :=
  semR_neq (by kernel_rfl) (by kernel_rfl) (by rw [eqAttr]; exact hk)
theorem list_eq_of {α : Type} {a b : List α} (hl : a.length = b.length) (h : ∀ (i : Nat) (ha : i < a.length) (hb : i < b.length), a[i] = b[i]) : a = b :=
  List.ext_getElem hl h
section
variable {A B : Nat → Prop} {h : H} {b b2 : Option Addr} {n c n2 c2 : Nat} {K : Value → H → Prop}
theorem ldAttr {a : Addr} {m : AttrP} {Q : Bs → Bs → Prop} (hA : At elAttr A h a m) (hk : m.1.length ≤ maxLen → m.2.length ≤ maxLen → Q m.1 m.2) :
    ∃ s, cell h (a.add 0) = some (S s) ∧ ∃ t, cell h (a.add 1) = some (S t) ∧ Q s t :=
  ⟨_, by have := hA.fst.str.1; rwa [add_zero'], _, hA.snd.str.1, hk hA.fst.str.2 hA.snd.str.2⟩
theorem sameAttrs_calls {l l2 : List AttrP} (r : Row elAttr A h b n c l) (r2 : Row elAttr B h b2 n2 c2 l2) (hk : K (.bool (decide (l = l2))) h) :
    HCalls Try.prog 42 ⟨[.slice b n c, .slice b2 n2 c2]⟩ h K := by
  refine Sx.r00_SameAttrs.ok _ _ _ _ _ _ _ _ ?_
  have hl := r.len
  have hl2 := r2.len
  have hm : n ≤ maxLen := Nat.le_trans r.cap r.max
  simp only [maxLen] at hm
  refine spl (fun hn => ⟨n + 1, ?_⟩) fun hn => ?_
  · have key : ∀ k i, i + k = n → (∀ j (h1 : j < l.length) (h2 : j < l2.length), j < i → l[j] = l2[j]) →
        Sx.r00_SameAttrs.n7_L (fun h => K (.bool true) h) (fun h => K (.bool true) h) (fun y4 h => K (.bool y4) h) (k + 1) b n c b2 n2 c2 (i : Int) h := by
      intro k
      induction k with
      | zero =>
        intro i hi hall
        refine splF (by omega) ?_
        have : l = l2 := list_eq_of (by omega) fun j h1 h2 => hall j h1 h2 (by omega)
        rw [decide_eq_true this] at hk
        exact hk
      | succ k ih =>
        intro i hi hall
        refine splT (by omega) (r.idxN (by omega) rfl fun a hA => ldAttr hA fun _ _ => r2.idxN (i := i) (by omega) rfl fun a2 hA2 => ldAttr hA2 fun _ _ => attrNe ?_)
        refine condB (fun hd => ?_) fun hd => ⟨rngI (by omega) (by omega), ih (i + 1) (by omega) fun j h1 h2 hj => ?_⟩
        · have : l ≠ l2 := fun e => by subst e; simp at hd
          rw [decide_eq_false this] at hk
          exact hk
        · by_cases e : j < i
          · exact hall j h1 h2 e
          · have : j = i := by omega
            subst this
            simpa using hd
    exact key n 0 (by omega) fun j _ _ hj => absurd hj (Nat.not_lt_zero _)
  · have : l ≠ l2 := fun e => hn (by rw [← hl, ← hl2, e])
    rw [decide_eq_false this] at hk
    exact hk
end
/-! ### all fields alike -/
noncomputable def sameN (a b : List NodeV) : Bool := @decide (a = b) (Classical.propDecidable _)
theorem sameN_true {a b : List NodeV} (h : a = b) : sameN a b = true := by unfold sameN; exact @decide_eq_true (a = b) (Classical.propDecidable _) h
theorem sameN_false {a b : List NodeV} (h : a ≠ b) : sameN a b = false := by unfold sameN; exact @decide_eq_false (a = b) (Classical.propDecidable _) h
theorem sameN_iff {a b : List NodeV} : sameN a b = true ↔ a = b := ⟨fun h => Classical.byContradiction fun hn => (by rw [sameN_false hn] at h; cases h), sameN_true⟩
theorem nodeV_ext {x y : NodeV} (h1 : x.kind = y.kind) (h2 : x.space = y.space) (h3 : x.name = y.name) (h4 : x.attrs = y.attrs) (h5 : x.text = y.text) (h6 : x.kids = y.kids) : x = y := by
  cases x; cases y
  simp only [NodeV.kind, NodeV.space, NodeV.name, NodeV.attrs, NodeV.text, NodeV.kids] at *
  subst h1; subst h2; subst h3; subst h4; subst h5; subst h6; rfl
theorem row_zero {A : Nat → Prop} {h : H} {b : Option Addr} {n c : Nat} {l : List NodeV} (r : Row (elNode 0) A h b n c l) : l = [] := by
  cases l with
  | nil => rfl
  | cons x l =>
    obtain ⟨a, _, _, cs, hR, _⟩ := r.at' 0 x rfl
    exact hR.elim
theorem sameNodes_calls : ∀ (d : Nat) {A B : Nat → Prop} {h : H} {b b2 : Option Addr} {n c n2 c2 : Nat} {K : Value → H → Prop} {l l2 : List NodeV} (r : Row (elNode d) A h b n c l) (r2 : Row (elNode d) B h b2 n2 c2 l2) (hk : ∀ h', KB h h' → K (.bool (sameN l l2)) h'),
    HCalls Try.prog 16 ⟨[.slice b n c, .slice b2 n2 c2]⟩ h K := by
  intro d
  induction d with
  | zero =>
    intro A B h b b2 n c n2 c2 K l l2 r r2 hk
    have e1 := row_zero r
    have e2 := row_zero r2
    have hl := r.len
    have hl2 := r2.len
    subst e1; subst e2
    rw [sameN_true rfl] at hk
    have hl : 0 = n := hl
    have hl2 : 0 = n2 := hl2
    refine Sx.r00_SameNodes.ok _ _ _ _ _ _ _ _ (splT (by omega) ⟨1, ?_⟩)
    unfold Sx.r00_SameNodes.n7_L
    exact splF (by omega) (hk h (KB.refl h))
  | succ d ihd =>
    intro A B h b b2 n c n2 c2 K l l2 r r2 hk
    have hl := r.len
    have hl2 := r2.len
    have hm : n ≤ maxLen := Nat.le_trans r.cap r.max
    simp only [maxLen] at hm
    refine Sx.r00_SameNodes.ok _ _ _ _ _ _ _ _ (spl (fun hn => ⟨n + 1, ?_⟩) fun hn => ?_)
    · have key : ∀ k i h1, i + k = n → KB h h1 → (∀ j (h1 : j < l.length) (h2 : j < l2.length), j < i → l[j] = l2[j]) →
          Sx.r00_SameNodes.n7_L (fun h => K (.bool true) h) (fun h => K (.bool true) h) (fun y4 h => K (.bool y4) h) (k + 1) b n c b2 n2 c2 (i : Int) h1 := by
        intro k
        induction k with
        | zero =>
          intro i h1 hi k1 hall
          unfold Sx.r00_SameNodes.n7_L
          refine splF (by omega) ?_
          have : l = l2 := list_eq_of (by omega) fun j h1 h2 => hall j h1 h2 (by omega)
          have h3 := hk h1 k1
          rw [sameN_true this] at h3
          exact h3
        | succ k ih =>
          intro i h1 hi k1 hall
          have hil : i < l.length := by omega
          have hil2 : i < l2.length := by omega
          have no : ∀ h', KB h h' → l[i] ≠ l2[i] → K (.bool false) h' := fun h' k' hne => by
            have h3 := hk h' k'
            rw [sameN_false (fun e => hne (by subst e; rfl))] at h3
            exact h3
          unfold Sx.r00_SameNodes.n7_L
          refine splT (by omega) ((r.kb k1).idxN hil rfl fun a hA => ldNode hA fun ab an ac kb kn kc ra hz rk hz2 _ _ _ _ => newx_var fun a3 h3 v3 k3 e3 s3 => stL_var0 v3 (Nat.le_refl 6) fun h4 v4 k4 s4 => ?_)
          have k14 : KB h1 h4 := KB.step k3 k4 (by omega)
          refine ((r2.kb k1).kb k14).idxN (i := i) hil2 rfl fun a2 hA2 => ldNode hA2 fun ab2 an2 ac2 kb2 kn2 kc2 ra2 hz3 rk2 hz4 _ _ _ _ => newx_var fun a5 h5 v5 k5 e5 s5 => stL_var0 v5 (Nat.le_refl 6) fun h6 v6 k6 s6 => ?_
          have k46 : KB h4 h6 := KB.step k5 k6 (by omega)
          have k16 : KB h h6 := (k1.trans k14).trans k46
          have v4 : Var h6 a3 31 (nvCells l[i] ab an ac kb kn kc) := v4.kb k46
          have v6 : Var h6 a5 31 (nvCells l2[i] ab2 an2 ac2 kb2 kn2 kc2) := v6
          refine ⟨_, v4.cell 0 rfl, _, v6.cell 0 rfl, spl (fun e1 => ?_) fun e1 => no h6 k16 fun e => e1 (by rw [e])⟩
          refine ⟨_, v4.cell 1 rfl, _, v6.cell 1 rfl, spl (fun e2 => ?_) fun e2 => no h6 k16 fun e => e2 (by rw [e])⟩
          refine ⟨_, v4.cell 2 rfl, _, v6.cell 2 rfl, spl (fun e3 => ?_) fun e3 => no h6 k16 fun e => e3 (by rw [e])⟩
          refine ⟨_, v4.cell 4 rfl, _, v6.cell 4 rfl, spl (fun e4 => ?_) fun e4 => no h6 k16 fun e => e4 (by rw [e])⟩
          refine ⟨_, _, _, v4.cell 3 rfl, _, _, _, v6.cell 3 rfl, sameAttrs_calls ((ra.kb k14).kb k46) (ra2.kb k46) (vBool_mk (condB (fun e5 => ?_) fun e5 => no h6 k16 fun e => by have := of_decide_eq_false e5; exact this (by rw [e])))⟩
          refine ⟨_, _, _, v4.cell 5 rfl, _, _, _, v6.cell 5 rfl, ihd ((rk.kb k14).kb k46) (rk2.kb k46) fun h7 k7 => vBool_mk (condB (fun e6 => ⟨rngI (by omega) (by omega), ih (i + 1) h7 (by omega) (k16.trans k7) fun j h1 h2 hj => ?_⟩) fun e6 => no h7 (k16.trans k7) fun e => by rw [sameN_true (by rw [e])] at e6; cases e6)⟩
          by_cases e : j < i
          · exact hall j h1 h2 e
          · have : j = i := by omega
            subst this
            exact nodeV_ext e1 e2 e3 (of_decide_eq_true e5) e4 (sameN_iff.1 e6)
      exact key n 0 h (by omega) (KB.refl h) fun j _ _ hj => absurd hj (Nat.not_lt_zero _)
    · have : l ≠ l2 := fun e => hn (by rw [← hl, ← hl2, e])
      have h3 := hk h (KB.refl h)
      rw [sameN_false this] at h3
      exact h3
/-! ### own copies -/
section
variable {h : H} {K : Value → H → Prop}
theorem lentA_calls {A : Nat → Prop} {b : Option Addr} {n c : Nat} {l : List AttrP} (r : Row elAttr A h b n c l) (hn : n ≤ 1000000) (hk : ∀ b' c' h', OwnF elAttr h' h.size 59 b' n c' l → KB h h' → K (.slice b' n c') h') :
    HCalls Try.prog 40 ⟨[.slice b n c]⟩ h K := by
  refine Sx.r00_LentAttrs.ok _ _ _ _ _ (OwnF.append apdAttr (OwnF.none h h.size 59) (r.bel.keep (Keep.refl _ _) fun k hk _ => ⟨hk, fun q e => by cases e⟩) (by simp only [maxLen]; omega) (by omega) (Nat.le_refl _) fun b' c' h' o' g' => vSliceMk ?_)
  rw [Nat.zero_add] at o' ⊢
  exact hk b' c' h' o' (g'.kb0 (KB.refl h) fun q e => by cases e)
end
def fewA : Nat → List NodeV → Prop
  | 0, _ => True
  | d + 1, l => l.length ≤ 1000000 ∧ ∀ x ∈ l, x.attrs.length ≤ 1000000 ∧ fewA d x.kids
theorem lentT_calls : ∀ (d : Nat) {A : Nat → Prop} {h : H} {b : Option Addr} {n c : Nat} {K : Value → H → Prop} {l : List NodeV} (r : Row (elNode d) A h b n c l) (hf : fewA d l)
    (hk : ∀ b' c' h', OwnR (elNodeT d) h' h.size 31 b' n c' l → KB h h' → K (.slice b' n c') h'), HCalls Try.prog 13 ⟨[.slice b n c]⟩ h K := by
  intro d
  induction d with
  | zero =>
    intro A h b n c K l r hf hk
    have e1 := row_zero r
    have hl := r.len
    subst e1
    have hl : 0 = n := hl
    subst hl
    refine Sx.r00_LentNodes.ok _ _ _ _ _ ⟨1, ?_⟩
    unfold Sx.r00_LentNodes.n7_L
    exact splF (by omega) (hk none 0 h (OwnR.none _ _ _) (KB.refl h))
  | succ d ihd =>
    intro A h b n c K l r hf hk
    have hl := r.len
    obtain ⟨hf1, hf2⟩ := hf
    refine Sx.r00_LentNodes.ok _ _ _ _ _ ⟨n + 1, ?_⟩
    have key : ∀ N m h2 ob oc (out : List NodeV), m + N = n → KB h h2 → OwnR (elNodeT (d + 1)) h2 h.size 31 ob m oc out → out = l.take m →
        Sx.r00_LentNodes.n7_L (fun z3b z3n z3c h => Sx.r00_LentNodes.n4 z3b z3n z3c (fun y2b y2n y2c h => K (.slice y2b y2n y2c) h) (fun y2b y2n y2c h => K (.slice y2b y2n y2c) h) h) (fun z3b z3n z3c h => Sx.r00_LentNodes.n4 z3b z3n z3c (fun y2b y2n y2c h => K (.slice y2b y2n y2c) h) (fun y2b y2n y2c h => K (.slice y2b y2n y2c) h) h) (fun y2b y2n y2c h => K (.slice y2b y2n y2c) h) (N + 1) b n c ob m oc (m : Int) h2 := by
      intro N
      induction N with
      | zero =>
        intro m h2 ob oc out hmN k2 o2 eo
        unfold Sx.r00_LentNodes.n7_L
        refine splF (by omega) ?_
        rw [List.take_of_length_le (by omega)] at eo
        rw [eo] at o2
        have : m = n := by omega
        subst this
        exact hk ob oc h2 o2 k2
      | succ N ih =>
        intro m h2 ob oc out hmN k2 o2 eo
        have hml : m < l.length := by omega
        obtain ⟨hfa, hfk⟩ := hf2 _ (List.getElem_mem hml)
        unfold Sx.r00_LentNodes.n7_L
        refine splT (by omega) ((r.kb k2).idxN hml rfl fun a hA => ldNode hA fun ab an ac kb kn kc ra hz rk hz2 g1 g2 g3 g4 => newx_var fun a3 h3 v3 k3 e3 s3 => stL_var0 v3 (Nat.le_refl 6) fun h4 v4 k4 s4 => ?_)
        have k24 : KB h2 h4 := KB.step k3 k4 (by omega)
        have hs2 := k2.1
        have hal := ra.len
        refine ⟨_, _, _, v4.cell 3 rfl, lentA_calls (ra.kb k24) (by omega) fun b5 c5 h5 o5 k5 => vSliceMk ?_⟩
        have hs5 := k5.1
        refine stL_var (m := 3) (i := 0) (v4.kb k5) (by show 3 + 0 + 1 ≤ 6; omega) fun h6 v6 k6 s6 => ⟨_, _, _, v6.cell 5 rfl, ?_⟩
        have k26 : KB h2 h6 := KB.step (k24.trans k5) k6 (by omega)
        refine ihd (rk.kb k26) hfk fun b7 c7 h7 o7 k7 => vSliceMk ?_
        have hs7 := k7.1
        refine stL_var (m := 5) (i := 0) (v6.kb k7) (by show 5 + 0 + 1 ≤ 6; omega) fun h8 v8 k8 s8 => ?_
        have v8 : Var h8 a3 31 [.int .u8 l[m].kind, .int .u8 l[m].space, S l[m].name, .slice b5 an c5, S l[m].text, .slice b7 kn c7] := v8
        refine ⟨_, v8.cell 0 rfl, _, v8.cell 1 rfl, _, v8.cell 2 rfl, _, _, _, v8.cell 3 rfl, _, v8.cell 4 rfl, _, _, _, v8.cell 5 rfl, newx_var fun a9 h9 v9 k9 e9 s9 => ?_⟩
        have k28 : KB h2 h8 := KB.step (k26.trans k7) k8 (by omega)
        have o9 : OwnR (elNodeT (d + 1)) h9 h.size 31 ob m oc out := (o2.kb k28).kb k9
        have hob := o2.hi
        have oa : OwnF elAttr h9 h4.size 59 b5 an c5 l[m].attrs := ((((o5.flatK k6 flatAttr fun g hg => by omega).kb k7).flatK k8 flatAttr fun g hg => by omega)).kb k9
        have okk : OwnR (elNodeT d) h9 h6.size 31 b7 kn c7 l[m].kids := (o7.kw (k8.w.less fun g (hg : h6.size ≤ g) => by omega)).kb k9
        have hR : nodeT (d + 1) (fun k => h.size ≤ k ∧ But h9 ob k) h9 l[m] [.int .u8 l[m].kind, .int .u8 l[m].space, S l[m].name, .slice b5 an c5, S l[m].text, .slice b7 kn c7] :=
          nodeT_mk (oa.behind flatAttr fun k h1 h2' => ⟨by omega, h2', fun q e => by have := hob q e; omega⟩) oa.nil
            (okk.row.keep (Keep.refl _ _) fun k hk hs => ⟨by have := hk.1; omega, hs, fun q e => by have := hob q e; have := hk.1; omega⟩) okk.nil g1 g2 g3 g4
            (thaw_own (Classical.choose_spec oa.own.own).1 fun q e => ⟨by have := oa.lo q e; omega, oa.hi q e, fun q' e' => by have := oa.lo q e; have := hob q' e'; omega⟩)
            (thaw_own (Classical.choose_spec okk.own.own).1 fun q e => ⟨by have := okk.lo q e; omega, okk.hi q e, fun q' e' => by have := okk.lo q e; have := hob q' e'; omega⟩)
        have r9 : Row (elNodeT (d + 1)) (fun k => h.size ≤ k ∧ But h9 ob k) h9 (some a9) 1 1 [l[m]] := v9.row1 hR ⟨by omega, v9.lt, fun q e => by have := hob q e; omega⟩
        refine OwnR.append (apdNodeT (d + 1)) o9 r9 (by simp only [maxLen]; omega) (by omega) (by omega) fun b10 c10 h10 o10 g10 => vSliceMk ⟨rngI (by omega) (by omega), ?_⟩
        refine ih (m + 1) h10 b10 c10 _ (by omega) ?_ o10 ?_
        · exact g10.kb0 ((k2.trans k28).trans k9) fun q e => o2.lo q e
        · rw [eo, List.take_add_one, List.getElem?_eq_getElem hml]; rfl
    exact key n 0 h none 0 [] (by omega) (KB.refl h) (OwnR.none _ _ _) rfl
theorem lentN_calls (d : Nat) {A : Nat → Prop} {h : H} {b : Option Addr} {n c : Nat} {K : Value → H → Prop} {l : List NodeV} (r : Row (elNode d) A h b n c l) (hf : fewA d l)
    (hk : ∀ b' c' h', OwnR (elNode d) h' h.size 31 b' n c' l → KB h h' → K (.slice b' n c') h') : HCalls Try.prog 13 ⟨[.slice b n c]⟩ h K := lentT_calls d r hf fun b' c' h' o k => hk b' c' h' o.weakT k
end Go.Proofs
namespace Go.Proofs
open Go Go.Sh
set_option linter.unusedVariables false
set_option maxRecDepth 100000
def sumN {α : Type} (f : α → Nat) : List α → Nat
  | [] => 0
  | x :: l => f x + sumN f l
theorem sumN_drop {α : Type} (f : α → Nat) {l : List α} {i : Nat} (hi : i < l.length) : sumN f (l.drop i) = f l[i] + sumN f (l.drop (i + 1)) := by
  rw [List.drop_eq_getElem_cons hi]; rfl
def attrW (a : AttrP) : Nat := 1 + a.1.length / 8 + a.2.length / 8
def nodeW (f : List NodeV → Nat) (x : NodeV) : Nat := 1 + x.text.length / 8 + x.name.length / 8 + sumN attrW x.attrs + f x.kids
def totN : Nat → List NodeV → Nat
  | 0, _ => 0
  | d + 1, l => sumN (nodeW (totN d)) l
theorem tdiv8 (n : Nat) : Int.tdiv (n : Int) (8 : Int) = ((n / 8 : Nat) : Int) := rfl
/-- what lies at a node's address -/
theorem nodeF {d : Nat} {A : Nat → Prop} {h : H} {a : Addr} {x : NodeV} (hA : At (elNode (d + 1)) A h a x) : ∃ ab an ac kb kn kc, (∀ (j : Nat) v, (nvCells x ab an ac kb kn kc)[j]? = some v → cell h (a.add j) = some v) ∧ Row elAttr A h ab an ac x.attrs ∧ Row (elNode d) A h kb kn kc x.kids ∧ x.name.length ≤ maxLen ∧ x.text.length ≤ maxLen := by
  obtain ⟨_, cs, hR, hc⟩ := hA
  obtain ⟨ab, an, ac, kb, kn, kc, rfl, ra, hz, rk, hz2, r1, r2, r3, r4⟩ := nodeR_inv hR
  exact ⟨ab, an, ac, kb, kn, kc, hc, ra, rk, r3, r4⟩
theorem cell_add0 {h : H} {a : Addr} {v : Value} (e : cell h a = some v) : cell h (a.add 0) = some v := by rw [add_zero']; exact e
theorem nodes_calls {most : Int} (hm0 : 0 ≤ most) (hm1 : most ≤ 1000000) : ∀ (d : Nat) {A : Nat → Prop} {h : H} {b : Option Addr} {n c : Nat} {K : Value → H → Prop} {l : List NodeV} {w : Int} (r : Row (elNode d) A h b n c l) (hw0 : 0 ≤ w) (hw1 : w ≤ 4611686018427387904)
    (hk : ∀ v : Int, w ≤ v → v ≤ 4611686018427387904 → (v ≤ most → v = w + (totN d l : Int)) → K (.int .i64 v) h), HCalls Try.prog 29 ⟨[.slice b n c, .int .i64 w, .int .i64 most]⟩ h K := by
  intro d
  induction d with
  | zero =>
    intro A h b n c K l w r hw0 hw1 hk
    have e1 := row_zero r
    have hl := r.len
    subst e1
    have hl : 0 = n := hl
    refine Sx.r00_Nodes.ok _ _ _ _ _ _ _ ⟨1, ?_⟩
    unfold Sx.r00_Nodes.n6_L
    refine splF (by omega) (hk w (Int.le_refl _) hw1 fun _ => ?_)
    show w = w + ((0 : Nat) : Int); omega
  | succ d ihd =>
    intro A h b n c K l w r hw0 hw1 hk
    have hl := r.len
    have hmx : n ≤ maxLen := Nat.le_trans r.cap r.max
    simp only [maxLen] at hmx
    refine Sx.r00_Nodes.ok _ _ _ _ _ _ _ ⟨n + 1, ?_⟩
    have key : ∀ N i (wi : Int), i + N = n → w ≤ wi → wi ≤ 4611686018427387904 → (wi ≤ most → wi + (sumN (nodeW (totN d)) (l.drop i) : Int) = w + (totN (d + 1) l : Int)) →
        Sx.r00_Nodes.n6_L (fun z1 h => Sx.r00_Nodes.n3 z1 (fun y6 h => K (.int .i64 y6) h) (fun y6 h => K (.int .i64 y6) h) h) (fun z1 h => Sx.r00_Nodes.n3 z1 (fun y6 h => K (.int .i64 y6) h) (fun y6 h => K (.int .i64 y6) h) h) (fun y6 h => K (.int .i64 y6) h) (N + 1) b n c wi most (i : Int) h := by
      intro N
      induction N with
      | zero =>
        intro i wi hi h1 h2 h3
        unfold Sx.r00_Nodes.n6_L
        refine splF (by omega) (hk wi h1 h2 fun hle => ?_)
        have := h3 hle
        rw [List.drop_of_length_le (by omega)] at this
        have e0 : sumN (nodeW (totN d)) ([] : List NodeV) = 0 := rfl
        rw [e0] at this
        omega
      | succ N ih =>
        intro i wi hi h1 h2 h3
        have hil : i < l.length := by omega
        unfold Sx.r00_Nodes.n6_L
        refine splT (by omega) (spl (fun hle => ?_) fun hgt => hk wi h1 h2 fun hle => absurd hle hgt)
        refine r.idxN hil rfl fun a hA => ?_
        obtain ⟨ab, an, ac, kb, kn, kc, hc, ra, rk, r3, r4⟩ := nodeF hA
        simp only [maxLen] at r3 r4
        have ht8 : l[i].text.length / 8 ≤ 1152921504606846976 := by omega
        have hn8 : l[i].name.length / 8 ≤ 1152921504606846976 := by omega
        refine ⟨_, hc 4 _ rfl, by decide, ?_, ?_, ?_⟩
        · rw [tdiv8]; exact rngI (by omega) (by omega)
        · rw [tdiv8]; exact rngI (by omega) (by omega)
        refine r.idxN hil rfl fun a' hA' => ?_
        obtain ⟨ab', an', ac', kb', kn', kc', hc', ra', rk', _, _⟩ := nodeF hA'
        refine ⟨_, hc' 2 _ rfl, by decide, ?_, ?_, ?_, ?_⟩
        · rw [tdiv8]; exact rngI (by omega) (by omega)
        · rw [tdiv8, tdiv8]; exact rngI (by omega) (by omega)
        · rw [tdiv8, tdiv8]; exact rngI (by omega) (by omega)
        rw [tdiv8, tdiv8]
        have hdrop := sumN_drop (nodeW (totN d)) hil
        rw [hdrop] at h3
        have hnw : nodeW (totN d) l[i] = 1 + l[i].text.length / 8 + l[i].name.length / 8 + sumN attrW l[i].attrs + totN d l[i].kids := rfl
        rw [hnw] at h3
        have hal := ra.len
        have ham : an ≤ maxLen := Nat.le_trans ra.cap ra.max
        simp only [maxLen] at ham
        have h3 := h3 hle
        -- behind the attributes
        have kidsN : ∀ w2 : Int, wi ≤ w2 → w2 ≤ 4611686018427387904 → (w2 ≤ most → w2 = wi + ((1 + l[i].text.length / 8 + l[i].name.length / 8 + sumN attrW l[i].attrs : Nat) : Int)) →
            Sx.r00_Nodes.n13 b n c w2 most (i : Int) (fun z0b z0n z0c z1 z2 z7 h => Sx.r00_Nodes.n9 z0b z0n z0c z1 z2 z7 (fun z0b z0n z0c z1 z2 z7 h => Sx.r00_Nodes.n6_L (fun z1 h => Sx.r00_Nodes.n3 z1 (fun y6 h => K (.int .i64 y6) h) (fun y6 h => K (.int .i64 y6) h) h) (fun z1 h => Sx.r00_Nodes.n3 z1 (fun y6 h => K (.int .i64 y6) h) (fun y6 h => K (.int .i64 y6) h) h) (fun y6 h => K (.int .i64 y6) h) (N + 1) z0b z0n z0c z1 z2 z7 h) (fun z1 h => Sx.r00_Nodes.n3 z1 (fun y6 h => K (.int .i64 y6) h) (fun y6 h => K (.int .i64 y6) h) h) (fun y6 h => K (.int .i64 y6) h) h) (fun z0b z0n z0c z1 z2 z7 h => Sx.r00_Nodes.n9 z0b z0n z0c z1 z2 z7 (fun z0b z0n z0c z1 z2 z7 h => Sx.r00_Nodes.n6_L (fun z1 h => Sx.r00_Nodes.n3 z1 (fun y6 h => K (.int .i64 y6) h) (fun y6 h => K (.int .i64 y6) h) h) (fun z1 h => Sx.r00_Nodes.n3 z1 (fun y6 h => K (.int .i64 y6) h) (fun y6 h => K (.int .i64 y6) h) h) (fun y6 h => K (.int .i64 y6) h) (N + 1) z0b z0n z0c z1 z2 z7 h) (fun z1 h => Sx.r00_Nodes.n3 z1 (fun y6 h => K (.int .i64 y6) h) (fun y6 h => K (.int .i64 y6) h) h) (fun y6 h => K (.int .i64 y6) h) h) (fun z1 h => Sx.r00_Nodes.n3 z1 (fun y6 h => K (.int .i64 y6) h) (fun y6 h => K (.int .i64 y6) h) h) (fun y6 h => K (.int .i64 y6) h) h := by
          intro w2 g1 g2 g3
          refine r.idxN hil rfl fun a5 hA5 => ?_
          obtain ⟨ab5, an5, ac5, kb5, kn5, kc5, hc5, ra5, rk5, _, _⟩ := nodeF hA5
          refine ⟨_, _, _, hc5 5 _ rfl, ihd rk5 (by omega) g2 fun v g4 g5 g6 => vIntMk ⟨rngI (by omega) (by omega), ih (i + 1) v (by omega) (by omega) g5 fun hv => ?_⟩⟩
          have e1 := g6 hv
          have e2 := g3 (by omega)
          omega
        have attrs : ∀ M j (w2 : Int), j + M = an → wi ≤ w2 → w2 ≤ 4611686018427387904 → (w2 ≤ most → w2 + (sumN attrW (l[i].attrs.drop j) : Int) = wi + ((1 + l[i].text.length / 8 + l[i].name.length / 8 + sumN attrW l[i].attrs : Nat) : Int)) →
            Sx.r00_Nodes.n16_L (fun z0b z0n z0c z1 z2 z7 h => Sx.r00_Nodes.n13 z0b z0n z0c z1 z2 z7 (fun z0b z0n z0c z1 z2 z7 h => Sx.r00_Nodes.n9 z0b z0n z0c z1 z2 z7 (fun z0b z0n z0c z1 z2 z7 h => Sx.r00_Nodes.n6_L (fun z1 h => Sx.r00_Nodes.n3 z1 (fun y6 h => K (.int .i64 y6) h) (fun y6 h => K (.int .i64 y6) h) h) (fun z1 h => Sx.r00_Nodes.n3 z1 (fun y6 h => K (.int .i64 y6) h) (fun y6 h => K (.int .i64 y6) h) h) (fun y6 h => K (.int .i64 y6) h) (N + 1) z0b z0n z0c z1 z2 z7 h) (fun z1 h => Sx.r00_Nodes.n3 z1 (fun y6 h => K (.int .i64 y6) h) (fun y6 h => K (.int .i64 y6) h) h) (fun y6 h => K (.int .i64 y6) h) h) (fun z0b z0n z0c z1 z2 z7 h => Sx.r00_Nodes.n9 z0b z0n z0c z1 z2 z7 (fun z0b z0n z0c z1 z2 z7 h => Sx.r00_Nodes.n6_L (fun z1 h => Sx.r00_Nodes.n3 z1 (fun y6 h => K (.int .i64 y6) h) (fun y6 h => K (.int .i64 y6) h) h) (fun z1 h => Sx.r00_Nodes.n3 z1 (fun y6 h => K (.int .i64 y6) h) (fun y6 h => K (.int .i64 y6) h) h) (fun y6 h => K (.int .i64 y6) h) (N + 1) z0b z0n z0c z1 z2 z7 h) (fun z1 h => Sx.r00_Nodes.n3 z1 (fun y6 h => K (.int .i64 y6) h) (fun y6 h => K (.int .i64 y6) h) h) (fun y6 h => K (.int .i64 y6) h) h) (fun z1 h => Sx.r00_Nodes.n3 z1 (fun y6 h => K (.int .i64 y6) h) (fun y6 h => K (.int .i64 y6) h) h) (fun y6 h => K (.int .i64 y6) h) h) (fun z0b z0n z0c z1 z2 z7 h => Sx.r00_Nodes.n13 z0b z0n z0c z1 z2 z7 (fun z0b z0n z0c z1 z2 z7 h => Sx.r00_Nodes.n9 z0b z0n z0c z1 z2 z7 (fun z0b z0n z0c z1 z2 z7 h => Sx.r00_Nodes.n6_L (fun z1 h => Sx.r00_Nodes.n3 z1 (fun y6 h => K (.int .i64 y6) h) (fun y6 h => K (.int .i64 y6) h) h) (fun z1 h => Sx.r00_Nodes.n3 z1 (fun y6 h => K (.int .i64 y6) h) (fun y6 h => K (.int .i64 y6) h) h) (fun y6 h => K (.int .i64 y6) h) (N + 1) z0b z0n z0c z1 z2 z7 h) (fun z1 h => Sx.r00_Nodes.n3 z1 (fun y6 h => K (.int .i64 y6) h) (fun y6 h => K (.int .i64 y6) h) h) (fun y6 h => K (.int .i64 y6) h) h) (fun z0b z0n z0c z1 z2 z7 h => Sx.r00_Nodes.n9 z0b z0n z0c z1 z2 z7 (fun z0b z0n z0c z1 z2 z7 h => Sx.r00_Nodes.n6_L (fun z1 h => Sx.r00_Nodes.n3 z1 (fun y6 h => K (.int .i64 y6) h) (fun y6 h => K (.int .i64 y6) h) h) (fun z1 h => Sx.r00_Nodes.n3 z1 (fun y6 h => K (.int .i64 y6) h) (fun y6 h => K (.int .i64 y6) h) h) (fun y6 h => K (.int .i64 y6) h) (N + 1) z0b z0n z0c z1 z2 z7 h) (fun z1 h => Sx.r00_Nodes.n3 z1 (fun y6 h => K (.int .i64 y6) h) (fun y6 h => K (.int .i64 y6) h) h) (fun y6 h => K (.int .i64 y6) h) h) (fun z1 h => Sx.r00_Nodes.n3 z1 (fun y6 h => K (.int .i64 y6) h) (fun y6 h => K (.int .i64 y6) h) h) (fun y6 h => K (.int .i64 y6) h) h) (fun z0b z0n z0c z1 z2 z7 h => Sx.r00_Nodes.n9 z0b z0n z0c z1 z2 z7 (fun z0b z0n z0c z1 z2 z7 h => Sx.r00_Nodes.n6_L (fun z1 h => Sx.r00_Nodes.n3 z1 (fun y6 h => K (.int .i64 y6) h) (fun y6 h => K (.int .i64 y6) h) h) (fun z1 h => Sx.r00_Nodes.n3 z1 (fun y6 h => K (.int .i64 y6) h) (fun y6 h => K (.int .i64 y6) h) h) (fun y6 h => K (.int .i64 y6) h) (N + 1) z0b z0n z0c z1 z2 z7 h) (fun z1 h => Sx.r00_Nodes.n3 z1 (fun y6 h => K (.int .i64 y6) h) (fun y6 h => K (.int .i64 y6) h) h) (fun y6 h => K (.int .i64 y6) h) h) (fun z1 h => Sx.r00_Nodes.n3 z1 (fun y6 h => K (.int .i64 y6) h) (fun y6 h => K (.int .i64 y6) h) h) (fun y6 h => K (.int .i64 y6) h) (M + 1) b n c w2 most (i : Int) (j : Int) h := by
          intro M
          induction M with
          | zero =>
            intro j w2 hj g1 g2 g3
            unfold Sx.r00_Nodes.n16_L
            refine r.idxN hil rfl fun a6 hA6 => ?_
            obtain ⟨ab6, an6, ac6, kb6, kn6, kc6, hc6, ra6, rk6, _, _⟩ := nodeF hA6
            have hal6 := ra6.len
            refine ⟨_, _, _, hc6 3 _ rfl, splF (by omega) (kidsN w2 g1 g2 fun hv => ?_)⟩
            have := g3 hv
            rw [List.drop_of_length_le (by omega)] at this
            have e0 : sumN attrW ([] : List AttrP) = 0 := rfl
            rw [e0] at this
            omega
          | succ M ihM =>
            intro j w2 hj g1 g2 g3
            unfold Sx.r00_Nodes.n16_L
            refine r.idxN hil rfl fun a6 hA6 => ?_
            obtain ⟨ab6, an6, ac6, kb6, kn6, kc6, hc6, ra6, rk6, _, _⟩ := nodeF hA6
            have hal6 := ra6.len
            have hjl : j < l[i].attrs.length := by omega
            refine ⟨_, _, _, hc6 3 _ rfl, splT (by omega) (spl (fun hle2 => ?_) fun hgt => kidsN w2 g1 g2 fun hv => absurd hv hgt)⟩
            have hd := sumN_drop attrW hjl
            have e3 := g3 hle2
            rw [hd] at e3
            have haw : attrW l[i].attrs[j] = 1 + l[i].attrs[j].1.length / 8 + l[i].attrs[j].2.length / 8 := rfl
            rw [haw] at e3
            refine r.idxN hil rfl fun a7 hA7 => ?_
            obtain ⟨ab7, an7, ac7, kb7, kn7, kc7, hc7, ra7, rk7, _, _⟩ := nodeF hA7
            refine ⟨_, _, _, hc7 3 _ rfl, ?_⟩
            refine ra7.idxN hjl rfl fun a8 hA8 => ?_
            have q1 := hA8.fst.str.2
            have q2 := hA8.snd.str.2
            simp only [maxLen] at q1 q2
            have c1 := hA8.fst.str.1
            refine ⟨_, cell_add0 c1, by decide, ?_, ?_, ?_⟩
            · rw [tdiv8]; exact rngI (by omega) (by omega)
            · rw [tdiv8]; exact rngI (by omega) (by omega)
            refine r.idxN hil rfl fun a9 hA9 => ?_
            obtain ⟨ab9, an9, ac9, kb9, kn9, kc9, hc9, ra9, rk9, _, _⟩ := nodeF hA9
            refine ⟨_, _, _, hc9 3 _ rfl, ?_⟩
            refine ra9.idxN hjl rfl fun a10 hA10 => ?_
            have c2 := hA10.snd.str.1
            refine ⟨_, c2, by decide, ?_, ?_, ?_, rngI (by omega) (by omega), ?_⟩
            · rw [tdiv8]; exact rngI (by omega) (by omega)
            · rw [tdiv8, tdiv8]; exact rngI (by omega) (by omega)
            · rw [tdiv8, tdiv8]; exact rngI (by omega) (by omega)
            rw [tdiv8, tdiv8]
            exact ihM (j + 1) _ (by omega) (by omega) (by omega) fun hv => by omega
        refine ⟨an + 1, attrs an 0 _ (by omega) (by omega) (by omega) fun hv => ?_⟩
        rw [List.drop_zero]
        omega
    exact key n 0 w (by omega) (Int.le_refl _) hw1 fun _ => by rw [List.drop_zero]; rfl
end Go.Proofs
