/- dom: comparing nodes; own copies; how much nodes weigh. No condition. -/
import Derived.Test.YtmnjhhgdhlgjfaaGreatDoL
import Derived.Test.YtmnjhhgdhlgjfaaGreatTxA
namespace Go.Proofs
open Go Go.Sh
set_option linter.unusedVariables false
set_option maxRecDepth 100000
theorem eqAttr (x y : AttrP) : eqAll [S x.1, S x.2] [S y.1, S y.2] = decide (x = y) := by
  obtain ⟨x1, x2⟩ := x; obtain ⟨y1, y2⟩ := y
  simp only [eqAll, eqV, Bool.and_true]
  rw [Bool.eq_iff_iff]
  simp
theorem attrNe {x y : AttrP} {p q : Operand} {h : H} {K : Value → Prop} (hk : K (.bool (!decide (x = y)))) : SemR Tryz.prog (binS .neq 79 p q (.agg ⟨[S x.1, S x.2]⟩) (.agg ⟨[S y.1, S y.2]⟩)) h K :=
  semR_neq (by kernel_rfl) (by kernel_rfl) (by rw [eqAttr]; exact hk)
theorem list_eq_of {α : Type} {a b : List α} (hl : a.length = b.length) (h : ∀ (i : Nat) (ha : i < a.length) (hb : i < b.length), a[i] = b[i]) : a = b :=
  List.ext_getElem hl h
section
variable {A B : Nat → Prop} {h : H} {b b2 : Option Addr} {n c n2 c2 : Nat} {K : Value → H → Prop}
theorem ldAttr {a : Addr} {m : AttrP} {Q : Bs → Bs → Prop} (hA : At elAttr A h a m) (hk : m.1.length ≤ maxLen → m.2.length ≤ maxLen → Q m.1 m.2) :
    ∃ s, cell h (a.add 0) = some (S s) ∧ ∃ t, cell h (a.add 1) = some (S t) ∧ Q s t :=
  ⟨_, by have := hA.fst.str.1; rwa [add_zero'], _, hA.snd.str.1, hk hA.fst.str.2 hA.snd.str.2⟩
theorem sameAttrs_calls {l l2 : List AttrP} (r : Row elAttr A h b n c l) (r2 : Row elAttr B h b2 n2 c2 l2) (hk : K (.bool (decide (l = l2))) h) :
    HCalls Tryz.prog 75 ⟨[.slice b n c, .slice b2 n2 c2]⟩ h K := by
  refine Sx.r00_SameAttrs.ok _ _ _ _ _ _ _ _ ?_
  have hl := r.len
  have hl2 := r2.len
  have hm : n ≤ maxLen := Nat.le_trans r.cap r.max
  simp only [maxLen] at hm
  refine spl (fun hn => ⟨n + 1, ?_⟩) fun hn => ?_
  · have key : ∀ k i, i + k = n → (∀ j (h1 : j < l.length) (h2 : j < l2.length), j < i → l[j] = l2[j]) →
        Sx.r00_SameAttrs.n7_L (fun h => K (.bool true) h) (fun h => K (.bool true) h) (fun y4 h => K (.bool y4) h) (k + 1) b n c b2 n2 c2 (i : Int) h := by
      intro k
      induction k with
      | zero =>
        intro i hi hall
        refine splF (by omega) ?_
        have : l = l2 := list_eq_of (by omega) fun j h1 h2 => hall j h1 h2 (by omega)
        rw [decide_eq_true this] at hk
        exact hk
      | succ k ih =>
        intro i hi hall
        refine splT (by omega) (r.idxN (by omega) rfl fun a hA => ldAttr hA fun _ _ => r2.idxN (i := i) (by omega) rfl fun a2 hA2 => ldAttr hA2 fun _ _ => attrNe ?_)
        refine condB (fun hd => ?_) fun hd => ⟨rngI (by omega) (by omega), ih (i + 1) (by omega) fun j h1 h2 hj => ?_⟩
        · have : l ≠ l2 := fun e => by subst e; simp at hd
          rw [decide_eq_false this] at hk
          exact hk
        · by_cases e : j < i
          · exact hall j h1 h2 e
          · have : j = i := by omega
            subst this
            simpa using hd
    exact key n 0 (by omega) fun j _ _ hj => absurd hj (Nat.not_lt_zero _)
  · have : l ≠ l2 := fun e => hn (by rw [← hl, ← hl2, e])
    rw [decide_eq_false this] at hk
    exact hk
end
/-! ### all fields alike -/
noncomputable def sameN (a b : List NodeV) : Bool := @decide (a = b) (Classical.propDecidable _)
theorem sameN_true {a b : List NodeV} (h : a = b) : sameN a b = true := by unfold sameN; exact @decide_eq_true (a = b) (Classical.propDecidable _) h
theorem sameN_false {a b : List NodeV} (h : a ≠ b) : sameN a b = false := by unfold sameN; exact @decide_eq_false (a = b) (Classical.propDecidable _) h
theorem sameN_iff {a b : List NodeV} : sameN a b = true ↔ a = b := ⟨fun h => Classical.byContradiction fun hn => (by rw [sameN_false hn] at h; cases h), sameN_true⟩
theorem nodeV_ext {x y : NodeV} (h1 : x.kind = y.kind) (h2 : x.space = y.space) (h3 : x.name = y.name) (h4 : x.attrs = y.attrs) (h5 : x.text = y.text) (h6 : x.kids = y.kids) : x = y := by
  cases x; cases y
  simp only [NodeV.kind, NodeV.space, NodeV.name, NodeV.attrs, NodeV.text, NodeV.kids] at *
  subst h1; subst h2; subst h3; subst h4; subst h5; subst h6; rfl
theorem row_zero {A : Nat → Prop} {h : H} {b : Option Addr} {n c : Nat} {l : List NodeV} (r : Row (elNode 0) A h b n c l) : l = [] := by
  cases l with
  | nil => rfl
  | cons x l =>
    obtain ⟨a, _, _, cs, hR, _⟩ := r.at' 0 x rfl
    exact hR.elim
theorem sameNodes_calls : ∀ (d : Nat) {A B : Nat → Prop} {h : H} {b b2 : Option Addr} {n c n2 c2 : Nat} {K : Value → H → Prop} {l l2 : List NodeV} (r : Row (elNode d) A h b n c l) (r2 : Row (elNode d) B h b2 n2 c2 l2) (hk : ∀ h', KB h h' → K (.bool (sameN l l2)) h'),
    HCalls Tryz.prog 49 ⟨[.slice b n c, .slice b2 n2 c2]⟩ h K := by
  intro d
  induction d with
  | zero =>
    intro A B h b b2 n c n2 c2 K l l2 r r2 hk
    have e1 := row_zero r
    have e2 := row_zero r2
    have hl := r.len
    have hl2 := r2.len
    subst e1; subst e2
    rw [sameN_true rfl] at hk
    have hl : 0 = n := hl
    have hl2 : 0 = n2 := hl2
    refine Sx.r00_SameNodes.ok _ _ _ _ _ _ _ _ (splT (by omega) ⟨1, ?_⟩)
    unfold Sx.r00_SameNodes.n7_L
    exact splF (by omega) (hk h (KB.refl h))
  | succ d ihd =>
    intro A B h b b2 n c n2 c2 K l l2 r r2 hk
    have hl := r.len
    have hl2 := r2.len
    have hm : n ≤ maxLen := Nat.le_trans r.cap r.max
    simp only [maxLen] at hm
    refine Sx.r00_SameNodes.ok _ _ _ _ _ _ _ _ (spl (fun hn => ⟨n + 1, ?_⟩) fun hn => ?_)
    · have key : ∀ k i h1, i + k = n → KB h h1 → (∀ j (h1 : j < l.length) (h2 : j < l2.length), j < i → l[j] = l2[j]) →
          Sx.r00_SameNodes.n7_L (fun h => K (.bool true) h) (fun h => K (.bool true) h) (fun y4 h => K (.bool y4) h) (k + 1) b n c b2 n2 c2 (i : Int) h1 := by
        intro k
        induction k with
        | zero =>
          intro i h1 hi k1 hall
          unfold Sx.r00_SameNodes.n7_L
          refine splF (by omega) ?_
          have : l = l2 := list_eq_of (by omega) fun j h1 h2 => hall j h1 h2 (by omega)
          have h3 := hk h1 k1
          rw [sameN_true this] at h3
          exact h3
        | succ k ih =>
          intro i h1 hi k1 hall
          have hil : i < l.length := by omega
          have hil2 : i < l2.length := by omega
          have no : ∀ h', KB h h' → l[i] ≠ l2[i] → K (.bool false) h' := fun h' k' hne => by
            have h3 := hk h' k'
            rw [sameN_false (fun e => hne (by subst e; rfl))] at h3
            exact h3
          unfold Sx.r00_SameNodes.n7_L
          refine splT (by omega) ((r.kb k1).idxN hil rfl fun a hA => ldNode hA fun ab an ac kb kn kc ra hz rk hz2 _ _ _ _ => newx_var fun a3 h3 v3 k3 e3 s3 => stL_var0 v3 (Nat.le_refl 6) fun h4 v4 k4 s4 => ?_)
          have k14 : KB h1 h4 := KB.step k3 k4 (by omega)
          refine ((r2.kb k1).kb k14).idxN (i := i) hil2 rfl fun a2 hA2 => ldNode hA2 fun ab2 an2 ac2 kb2 kn2 kc2 ra2 hz3 rk2 hz4 _ _ _ _ => newx_var fun a5 h5 v5 k5 e5 s5 => stL_var0 v5 (Nat.le_refl 6) fun h6 v6 k6 s6 => ?_
          have k46 : KB h4 h6 := KB.step k5 k6 (by omega)
          have k16 : KB h h6 := (k1.trans k14).trans k46
          have v4 : Var h6 a3 57 (nvCells l[i] ab an ac kb kn kc) := v4.kb k46
          have v6 : Var h6 a5 57 (nvCells l2[i] ab2 an2 ac2 kb2 kn2 kc2) := v6
          refine ⟨_, v4.cell 0 rfl, _, v6.cell 0 rfl, spl (fun e1 => ?_) fun e1 => no h6 k16 fun e => e1 (by rw [e])⟩
          refine ⟨_, v4.cell 1 rfl, _, v6.cell 1 rfl, spl (fun e2 => ?_) fun e2 => no h6 k16 fun e => e2 (by rw [e])⟩
          refine ⟨_, v4.cell 2 rfl, _, v6.cell 2 rfl, spl (fun e3 => ?_) fun e3 => no h6 k16 fun e => e3 (by rw [e])⟩
          refine ⟨_, v4.cell 4 rfl, _, v6.cell 4 rfl, spl (fun e4 => ?_) fun e4 => no h6 k16 fun e => e4 (by rw [e])⟩
          refine ⟨_, _, _, v4.cell 3 rfl, _, _, _, v6.cell 3 rfl, sameAttrs_calls ((ra.kb k14).kb k46) (ra2.kb k46) (vBool_mk (condB (fun e5 => ?_) fun e5 => no h6 k16 fun e => by have := of_decide_eq_false e5; exact this (by rw [e])))⟩
          refine ⟨_, _, _, v4.cell 5 rfl, _, _, _, v6.cell 5 rfl, ihd ((rk.kb k14).kb k46) (rk2.kb k46) fun h7 k7 => vBool_mk (condB (fun e6 => ⟨rngI (by omega) (by omega), ih (i + 1) h7 (by omega) (k16.trans k7) fun j h1 h2 hj => ?_⟩) fun e6 => no h7 (k16.trans k7) fun e => by rw [sameN_true (by rw [e])] at e6; cases e6)⟩
          by_cases e : j < i
          · exact hall j h1 h2 e
          · have : j = i := by omega
            subst this
            exact nodeV_ext e1 e2 e3 (of_decide_eq_true e5) e4 (sameN_iff.1 e6)
      exact key n 0 h (by omega) (KB.refl h) fun j _ _ hj => absurd hj (Nat.not_lt_zero _)
    · have : l ≠ l2 := fun e => hn (by rw [← hl, ← hl2, e])
      have h3 := hk h (KB.refl h)
      rw [sameN_false this] at h3
      exact h3
/-! ### own copies -/
section
variable {h : H} {K : Value → H → Prop}
end
end Go.Proofs
namespace Go.Proofs
open Go Go.Sh
set_option linter.unusedVariables false
set_option maxRecDepth 100000
/-- what lies at a node's address -/
theorem nodeF {d : Nat} {A : Nat → Prop} {h : H} {a : Addr} {x : NodeV} (hA : At (elNode (d + 1)) A h a x) : ∃ ab an ac kb kn kc, (∀ (j : Nat) v, (nvCells x ab an ac kb kn kc)[j]? = some v → cell h (a.add j) = some v) ∧ Row elAttr A h ab an ac x.attrs ∧ Row (elNode d) A h kb kn kc x.kids ∧ x.name.length ≤ maxLen ∧ x.text.length ≤ maxLen := by
  obtain ⟨_, cs, hR, hc⟩ := hA
  obtain ⟨ab, an, ac, kb, kn, kc, rfl, ra, hz, rk, hz2, r1, r2, r3, r4⟩ := nodeR_inv hR
  exact ⟨ab, an, ac, kb, kn, kc, hc, ra, rk, r3, r4⟩
theorem cell_add0 {h : H} {a : Addr} {v : Value} (e : cell h a = some v) : cell h (a.add 0) = some v := by rw [add_zero']; exact e
end Go.Proofs
