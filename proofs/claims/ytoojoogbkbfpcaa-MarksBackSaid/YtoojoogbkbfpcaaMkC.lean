/- marks: alike, of both texts; lists of marks that are the same; own lists of attributes. No condition. -/
import Derived.Test.YtoojoogbkbfpcaaMkB
namespace Go.Proofs
open Go Go.Sh
set_option linter.unusedVariables false
set_option maxRecDepth 100000

def alikeP (x y : MarkP) : Bool := decide (x.2.1 = y.2.1) && (decide (x.2.2.length = y.2.2.length) && x.2.2.all fun a => decide (a ∈ y.2.2))

section
variable {A B : Nat → Prop} {h : H} {b b2 : Option Addr} {n c n2 c2 : Nat}

/-- what marks.alike asks of an attribute -/
theorem other_calls {y : MarkP} {x : AttrP} {a : Addr} (hA : At elMark A h a y) (hx : AttrR B h x) {K : Value → H → Prop} (hk : ∀ h', KB h h' → K (.bool (!decide (x ∈ y.2.2))) h') :
    HCalls Try.prog 34 ⟨[.agg ⟨[S x.1, S x.2]⟩, .pointer (some a)]⟩ h K := by
  refine Sx.marks_alike_1.ok _ _ _ _ _ (newx_var fun a1 h1 v1 k1 e1 _ => ?_)
  have hA1 : At elAttr (fun _ => True) h1 a1 x := v1.at (attrR hx.inv.1 hx.inv.2) trivial
  refine ldSl ((hA.kb k1).snd.sndAt (k := 2) rfl) fun b n c r hz => ldAttr hA1 fun hR => containsAttr_calls r hR fun h' k' => ?_
  have := hk h' (k1.trans k')
  cases hd : decide (x ∈ y.2.2) <;> rw [hd] at this <;> exact this

theorem alike_calls {x y : MarkP} (hx : MarkR A h x b n c) (hy : MarkR B h y b2 n2 c2) {K : Value → H → Prop} (hk : ∀ h', KB h h' → K (.bool (alikeP x y)) h') :
    HCalls Try.prog 23 ⟨[.agg ⟨[.int .i64 x.1, S x.2.1, .slice b n c]⟩, .agg ⟨[.int .i64 y.1, S y.2.1, .slice b2 n2 c2]⟩]⟩ h K := by
  refine Sx.marks_alike.ok _ _ _ _ _ _ _ _ _ _ _ _ (newx_var fun a1 h1 v1 k1 e1 _ => newx_var fun a2 h2 v2 k2 e2 _ => ?_)
  have hA1 : At elMark (fun _ => True) h2 a1 x := (v1.at (A := fun _ => True) (MarkR.any hx |>.kb k1) trivial).kb k2
  have hA2 : At elMark (fun _ => True) h2 a2 y := v2.at (A := fun _ => True) (MarkR.any hy |>.kb (k1.trans k2)) trivial
  refine ldS hA1.snd.fst fun _ => ldS hA2.snd.fst fun _ => spl (fun e1 => ?_) fun e1 => ?_
  · refine ldSl (hA1.snd.sndAt (k := 2) rfl) fun b n c r _ => ldSl (hA2.snd.sndAt (k := 2) rfl) fun b2 n2 c2 r2 _ => spl (fun e2 => ?_) fun e2 => ?_
    · have e2' : x.2.2.length = y.2.2.length := by rw [r.len, r2.len]; omega
      refine ldSl (hA1.snd.sndAt (k := 2) rfl) fun b n c r _ => containsFuncAttr_calls (p := fun z => !decide (z ∈ y.2.2)) r (fun z h3 next hz k3 hzR hn => ?_) fun h' k' => ?_
      · have e : CallV Try.prog 4 (.func (.func 34) ⟨[]⟩ ⟨[.pointer (some a2)]⟩) ⟨[.agg ⟨[S z.1, S z.2]⟩]⟩ h3 next = HCalls Try.prog 34 ⟨[.agg ⟨[S z.1, S z.2]⟩, .pointer (some a2)]⟩ h3 fun v h' => vBool v fun b => cond b (next (.bool true) h') (next (.bool false) h') := by kernel_rfl
        rw [e]
        refine other_calls (hA2.kb k3) hzR fun h4 k4 => ?_
        have := hn h4 k4
        cases hd : (!decide (z ∈ y.2.2)) <;> rw [hd] at this <;> exact this
      · have := hk h' ((k1.trans k2).trans k')
        have e3 : alikeP x y = !(x.2.2.any fun z => !decide (z ∈ y.2.2)) := by
          unfold alikeP
          rw [decide_eq_true e1, decide_eq_true e2', Bool.true_and, Bool.true_and, List.all_eq_not_any_not]
        rw [e3] at this
        cases hd : (x.2.2.any fun z => !decide (z ∈ y.2.2)) <;> rw [hd] at this <;> exact this
    · have e2' : x.2.2.length ≠ y.2.2.length := by rw [r.len, r2.len]; omega
      have := hk h2 (k1.trans k2)
      rwa [show alikeP x y = false by simp [alikeP, e2']] at this
  · have := hk h2 (k1.trans k2)
    rwa [show alikeP x y = false by simp [alikeP, e1]] at this

/-! ### alike, of the document -/
theorem refAlike_calls {x y : MarkP} (hx : MarkR A h x b n c) (hy : MarkR B h y b2 n2 c2) {K : Value → H → Prop} (hk : ∀ h', KB h h' → K (.bool (alikeP x y)) h') :
    HCalls Try.prog 27 ⟨[.agg ⟨[.int .i64 x.1, S x.2.1, .slice b n c]⟩, .agg ⟨[.int .i64 y.1, S y.2.1, .slice b2 n2 c2]⟩]⟩ h K := by
  refine Sx.r12_alike.ok _ _ _ _ _ _ _ _ _ _ _ _ (newx_var fun a1 h1 v1 k1 e1 _ => newx_var fun a2 h2 v2 k2 e2 _ => ?_)
  have hA1 : At elMark (fun _ => True) h2 a1 x := (v1.at (A := fun _ => True) (MarkR.any hx |>.kb k1) trivial).kb k2
  have hA2 : At elMark (fun _ => True) h2 a2 y := v2.at (A := fun _ => True) (MarkR.any hy |>.kb (k1.trans k2)) trivial
  have hk := hk h2 (k1.trans k2)
  refine ldS hA1.snd.fst fun _ => ldS hA2.snd.fst fun _ => spl (fun e1 => ?_) fun e1 => ?_
  · refine ldSl (hA1.snd.sndAt (k := 2) rfl) fun b n c r _ => ldSl (hA2.snd.sndAt (k := 2) rfl) fun b2 n2 c2 r2 _ => spl (fun e2 => ?_) fun e2 => ?_
    · have e2' : x.2.2.length = y.2.2.length := by rw [r.len, r2.len]; omega
      have hm : x.2.2.length ≤ maxLen := by rw [r.len]; exact Nat.le_trans r.cap r.max
      simp only [maxLen] at hm
      refine ⟨x.2.2.length + 1, ?_⟩
      -- the inner loop
      have inner : ∀ (i : Nat) (hi : i < x.2.2.length) (Kn Ke2 : Sx.r12_alike.T5) (Ke1 : Sx.r12_alike.T4) (Ke0 : Sx.r12_alike.T3) (Kr : Sx.r12_alike.T0)
          (k : Nat) (j : Nat) (is : Bool), j + k = y.2.2.length → (is = decide (x.2.2[i] ∈ y.2.2.take j)) →
          Ke2 a1 a2 i (decide (x.2.2[i] ∈ y.2.2)) h2 →
          Sx.r12_alike.n17_L Kn Ke2 Ke1 Ke0 Kr (k + 1) a1 a2 (i : Int) is (j : Int) h2 := by
        intro i hi Kn Ke2 Ke1 Ke0 Kr k
        induction k with
        | zero =>
          intro j is hj his hK
          refine ldSl (hA2.snd.sndAt (k := 2) rfl) fun b2 n2 c2 r2 _ => splF (by rw [← r2.len]; omega) ?_
          rw [show j = y.2.2.length by omega, List.take_length] at his
          rw [his]; exact hK
        | succ k ih =>
          intro j is hj his hK
          have hjl : j < y.2.2.length := by omega
          have hst : y.2.2.take (j + 1) = y.2.2.take j ++ [y.2.2[j]] := by rw [List.take_succ_eq_append_getElem hjl]
          refine ldSl (hA2.snd.sndAt (k := 2) rfl) fun b2 n2 c2 r2 _ => splT (by rw [← r2.len]; omega) ?_
          refine condB (fun e => ⟨rng64 (by omega) (by omega), ih (j + 1) true (by omega) ?_ hK⟩) fun e => ?_
          · rw [e] at his
            rw [hst]
            exact (decide_eq_true (List.mem_append_left _ (of_decide_eq_true his.symm))).symm
          · refine ldSl (hA1.snd.sndAt (k := 2) rfl) fun b n c r _ => r.idxN hi rfl fun a hA => ldAttr hA fun _ => ldSl (hA2.snd.sndAt (k := 2) rfl) fun b2 n2 c2 r2 _ => r2.idxN hjl rfl fun a' hA' => ldAttr hA' fun _ => attrEq ?_
            rw [e] at his
            have hnot := of_decide_eq_false his.symm
            refine condB (fun hd => ⟨rng64 (by omega) (by omega), ih (j + 1) true (by omega) ?_ hK⟩) fun hd => ⟨rng64 (by omega) (by omega), ih (j + 1) false (by omega) ?_ hK⟩
            · rw [hst]
              exact (decide_eq_true (List.mem_append_right _ (List.mem_singleton.2 (of_decide_eq_true hd)))).symm
            · rw [hst]
              refine (decide_eq_false fun hm => ?_).symm
              rcases List.mem_append.1 hm with hm | hm
              · exact hnot hm
              · exact (of_decide_eq_false hd) (List.mem_singleton.1 hm)
      have key : ∀ k i, i + k = x.2.2.length → (∀ j (hj : j < x.2.2.length), j < i → x.2.2[j] ∈ y.2.2) →
          Sx.r12_alike.n7_L (fun h => K (.bool true) h) (fun h => K (.bool true) h) (fun y4 h => K (.bool y4) h) (k + 1) a1 a2 (i : Int) h2 := by
        intro k
        induction k with
        | zero =>
          intro i hi hall
          refine ldSl (hA1.snd.sndAt (k := 2) rfl) fun b n c r _ => splF (by rw [← r.len]; omega) ?_
          have : alikeP x y = true := by
            unfold alikeP
            rw [decide_eq_true e1, decide_eq_true e2', Bool.true_and, Bool.true_and, List.all_eq_true]
            intro z hz
            obtain ⟨j, hj, e⟩ := List.mem_iff_getElem.1 hz
            rw [← e]; exact decide_eq_true (hall j hj (by omega))
          rw [this] at hk; exact hk
        | succ k ih =>
          intro i hi hall
          have hil : i < x.2.2.length := by omega
          refine ldSl (hA1.snd.sndAt (k := 2) rfl) fun b n c r _ => splT (by rw [← r.len]; omega) ⟨y.2.2.length + 1, ?_⟩
          refine inner i hil _ _ _ _ _ y.2.2.length 0 false (by omega) (by simp) ?_
          refine condB (fun hd => ⟨rng64 (by omega) (by omega), ih (i + 1) (by omega) fun j hj hj2 => ?_⟩) fun hd => ?_
          · by_cases e : j < i
            · exact hall j hj e
            · have : j = i := by omega
              subst this
              exact of_decide_eq_true hd
          · have : alikeP x y = false := by
              unfold alikeP
              have h3 : (x.2.2.all fun a => decide (a ∈ y.2.2)) = false := by
                rw [List.all_eq_false]
                exact ⟨_, List.getElem_mem hil, by rw [hd]; simp⟩
              rw [h3, Bool.and_false, Bool.and_false]
            rw [this] at hk; exact hk
      exact key x.2.2.length 0 (by omega) fun j _ hj => absurd hj (Nat.not_lt_zero _)
    · have e2' : x.2.2.length ≠ y.2.2.length := by rw [r.len, r2.len]; omega
      rwa [show alikeP x y = false by simp [alikeP, e2']] at hk
  · rwa [show alikeP x y = false by simp [alikeP, e1]] at hk

/-! ### SameMarks -/
theorem sameMarks_calls {l l2 : List MarkP} (r : Row elMark A h b n c l) (r2 : Row elMark B h b2 n2 c2 l2) {K : Value → H → Prop} (hk : K (.bool (decide (l = l2))) h) :
    HCalls Try.prog 10 ⟨[.slice b n c, .slice b2 n2 c2]⟩ h K := by
  refine Sx.r00_SameMarks.ok _ _ _ _ _ _ _ _ ?_
  have hl := r.len
  have hl2 := r2.len
  have hm : n ≤ maxLen := Nat.le_trans r.cap r.max
  simp only [maxLen] at hm
  refine spl (fun hn => ⟨n + 1, ?_⟩) fun hn => ?_
  · have hn' : n = n2 := by omega
    have key : ∀ k i, i + k = n → (∀ j (h1 : j < l.length) (h2 : j < l2.length), j < i → l[j] = l2[j]) →
        Sx.r00_SameMarks.n7_L (fun h => K (.bool true) h) (fun h => K (.bool true) h) (fun y4 h => K (.bool y4) h) (k + 1) b n c b2 n2 c2 (i : Int) h := by
      intro k
      induction k with
      | zero =>
        intro i hi hall
        refine splF (by omega) ?_
        have : l = l2 := list_eq_of (by omega) fun j h1 h2 => hall j h1 h2 (by omega)
        rw [decide_eq_true this] at hk
        exact hk
      | succ k ih =>
        intro i hi hall
        have h1 : i < l.length := by omega
        have h2 : i < l2.length := by omega
        have no : l[i] ≠ l2[i] → K (.bool false) h := fun hne => by
          have : l ≠ l2 := fun e => by subst e; exact hne rfl
          rw [decide_eq_false this] at hk
          exact hk
        refine splT (by omega) (r.idxN h1 rfl fun a hA => ldI hA.fst fun _ => r2.idxN h2 rfl fun a2 hA2 => ldI hA2.fst fun _ => spl (fun e1 => ?_) fun e1 => no fun e => e1 (by rw [e]))
        refine r.idxN h1 rfl fun a hA => ldS hA.snd.fst fun _ => r2.idxN h2 rfl fun a2 hA2 => ldS hA2.snd.fst fun _ => spl (fun e2 => ?_) fun e2 => no fun e => e2 (by rw [e])
        refine r.idxN h1 rfl fun a hA => ldSl (hA.snd.sndAt (k := 2) rfl) fun b3 n3 c3 r3 _ => r2.idxN h2 rfl fun a2 hA2 => ldSl (hA2.snd.sndAt (k := 2) rfl) fun b4 n4 c4 r4 _ => sameAttrs_calls r3 r4 ?_
        refine condB (fun hd => ⟨rng64 (by omega) (by omega), ih (i + 1) (by omega) fun j h1 h2 hj => ?_⟩) fun hd => no fun e => (of_decide_eq_false hd) (by rw [e])
        by_cases e : j < i
        · exact hall j h1 h2 e
        · have : j = i := by omega
          subst this
          have e3 := of_decide_eq_true hd
          exact Prod.ext e1 (Prod.ext e2 e3)
    exact key n 0 (by omega) fun j _ _ hj => absurd hj (Nat.not_lt_zero _)
  · have : l ≠ l2 := fun e => hn (by rw [← hl, ← hl2, e])
    rw [decide_eq_false this] at hk
    exact hk
end
end Go.Proofs
