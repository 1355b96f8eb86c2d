/- marks: comparing; attributes' lists. No condition. -/
import Derived.Test.YtoojoogbkbfpcaaMkA
namespace Go.Proofs
open Go Go.Sh
set_option linter.unusedVariables false
set_option maxRecDepth 100000

theorem eqAttr (x y : AttrP) : eqAll [S x.1, S x.2] [S y.1, S y.2] = decide (x = y) := by
  obtain ⟨x1, x2⟩ := x; obtain ⟨y1, y2⟩ := y
  simp only [eqAll, eqV, Bool.and_true]
  rw [Bool.eq_iff_iff]
  simp
theorem attrEq {x y : AttrP} {p q : Operand} {h : H} {K : Value → Prop} (hk : K (.bool (decide (x = y)))) : SemR Try.prog (binS .eql 38 p q (.agg ⟨[S x.1, S x.2]⟩) (.agg ⟨[S y.1, S y.2]⟩)) h K :=
  semR_eql (by kernel_rfl) (by kernel_rfl) (by rw [eqAttr]; exact hk)
theorem attrNe {x y : AttrP} {p q : Operand} {h : H} {K : Value → Prop} (hk : K (.bool (!decide (x = y)))) : SemR Try.prog (binS .neq 38 p q (.agg ⟨[S x.1, S x.2]⟩) (.agg ⟨[S y.1, S y.2]⟩)) h K :=
  semR_neq (by kernel_rfl) (by kernel_rfl) (by rw [eqAttr]; exact hk)

theorem vBool_mk {b : Bool} {k : Bool → Prop} (h : k b) : vBool (.bool b) k := h
theorem condB {b : Bool} {X Y : Prop} (x : b = true → X) (y : b = false → Y) : cond b X Y := by cases b <;> first | exact x rfl | exact y rfl

theorem list_eq_of {α : Type} [DecidableEq α] {a b : List α} (hl : a.length = b.length) (h : ∀ (i : Nat) (ha : i < a.length) (hb : i < b.length), a[i] = b[i]) : a = b :=
  List.ext_getElem hl h

section
variable {A B : Nat → Prop} {h : H} {b b2 : Option Addr} {n c n2 c2 : Nat}

/-! ### SameAttrs -/
theorem sameAttrs_calls {l l2 : List AttrP} (r : Row elAttr A h b n c l) (r2 : Row elAttr B h b2 n2 c2 l2) {K : Value → H → Prop} (hk : K (.bool (decide (l = l2))) h) :
    HCalls Try.prog 25 ⟨[.slice b n c, .slice b2 n2 c2]⟩ h K := by
  refine Sx.r00_SameAttrs.ok _ _ _ _ _ _ _ _ ?_
  have hl := r.len
  have hl2 := r2.len
  have hm : n ≤ maxLen := Nat.le_trans r.cap r.max
  simp only [maxLen] at hm
  refine spl (fun hn => ⟨n + 1, ?_⟩) fun hn => ?_
  · have hn' : n = n2 := by omega
    have key : ∀ k i, i + k = n → (∀ j (h1 : j < l.length) (h2 : j < l2.length), j < i → l[j] = l2[j]) →
        Sx.r00_SameAttrs.n7_L (fun h => K (.bool true) h) (fun h => K (.bool true) h) (fun y4 h => K (.bool y4) h) (k + 1) b n c b2 n2 c2 (i : Int) h := by
      intro k
      induction k with
      | zero =>
        intro i hi hall
        refine splF (by omega) ?_
        have : l = l2 := list_eq_of (by omega) fun j h1 h2 => hall j h1 h2 (by omega)
        rw [decide_eq_true this] at hk
        exact hk
      | succ k ih =>
        intro i hi hall
        refine splT (by omega) (r.idxN (by omega) rfl fun a hA => ldAttr hA fun hR => r2.idxN (i := i) (by omega) rfl fun a2 hA2 => ldAttr hA2 fun hR2 => attrNe ?_)
        refine condB (fun hd => ?_) fun hd => ⟨rng64 (by omega) (by omega), ih (i + 1) (by omega) fun j h1 h2 hj => ?_⟩
        · have : l ≠ l2 := fun e => by subst e; simp at hd
          rw [decide_eq_false this] at hk
          exact hk
        · by_cases e : j < i
          · exact hall j h1 h2 e
          · have : j = i := by omega
            subst this
            simpa using hd
    exact key n 0 (by omega) fun j _ _ hj => absurd hj (Nat.not_lt_zero _)
  · have : l ≠ l2 := fun e => hn (by rw [← hl, ← hl2, e])
    rw [decide_eq_false this] at hk
    exact hk

/-! ### Index, Contains -/
theorem indexAttr_calls {l : List AttrP} {x : AttrP} (r : Row elAttr A h b n c l) (hx : AttrR A h x) {K : Value → H → Prop} (hk : ∀ h' (i : Int), KB h h' → (0 ≤ i ↔ x ∈ l) → K (.int .i64 i) h') :
    HCalls Try.prog 39 ⟨[.slice b n c, .agg ⟨[S x.1, S x.2]⟩]⟩ h K := by
  refine Sx.slices_Index_apiAttr.ok _ _ _ _ _ _ _ ?_
  refine newx_var fun a1 h1 v1 k1 e1 _ => ?_
  have r1 := r.kb k1
  have hl := r.len
  have hm : n ≤ maxLen := Nat.le_trans r.cap r.max
  simp only [maxLen] at hm
  have hA1 : At elAttr (fun _ => True) h1 a1 x := v1.at (attrR hx.inv.1 hx.inv.2) trivial
  refine ⟨n + 1, ?_⟩
  have key : ∀ k i, i + k = n → (∀ j (h1 : j < l.length), j < i → l[j] ≠ x) →
      Sx.slices_Index_apiAttr.n6_L (fun h => K (.int .i64 (-1)) h) (fun h => K (.int .i64 (-1)) h) (fun y4 h => K (.int .i64 y4) h) (k + 1) b n c a1 (n : Int) (i : Int) h1 := by
    intro k
    induction k with
    | zero =>
      intro i hi hall
      refine splF (by omega) (hk h1 (-1) k1 ⟨fun h => absurd h (by decide), fun hm => ?_⟩)
      obtain ⟨j, hj, e⟩ := List.mem_iff_getElem.1 hm
      exact absurd e (hall j hj (by omega))
    | succ k ih =>
      intro i hi hall
      refine splT (by omega) (ldAttr hA1 fun _ => r1.idxN (by omega) rfl fun a hA => ldAttr hA fun hR => attrEq ?_)
      refine condB (fun hd => hk h1 i k1 ⟨fun _ => ?_, fun _ => by omega⟩) fun hd => ⟨rng64 (by omega) (by omega), ih (i + 1) (by omega) fun j h1 hj => ?_⟩
      · rw [of_decide_eq_true hd]; exact List.getElem_mem _
      · by_cases e : j < i
        · exact hall j h1 e
        · have : j = i := by omega
          subst this
          exact fun e2 => (of_decide_eq_false hd) e2.symm
  exact key n 0 (by omega) fun j _ hj => absurd hj (Nat.not_lt_zero _)

theorem containsAttr_calls {l : List AttrP} {x : AttrP} (r : Row elAttr A h b n c l) (hx : AttrR A h x) {K : Value → H → Prop} (hk : ∀ h', KB h h' → K (.bool (decide (x ∈ l))) h') :
    HCalls Try.prog 35 ⟨[.slice b n c, .agg ⟨[S x.1, S x.2]⟩]⟩ h K := by
  refine Sx.slices_Contains_apiAttr.ok _ _ _ _ _ _ _ ?_
  refine newx_var fun a1 h1 v1 k1 e1 _ => ?_
  have hA1 : At elAttr (fun _ => True) h1 a1 x := v1.at (attrR hx.inv.1 hx.inv.2) trivial
  refine ldAttr hA1 fun hR => indexAttr_calls (A := fun _ => True) (r.any.kb k1) hR fun h' i k' hi => ?_
  refine spl (fun hp => ?_) fun hp => ?_
  · have := hk h' (k1.trans k')
    rwa [decide_eq_true (hi.1 hp)] at this
  · have := hk h' (k1.trans k')
    rwa [decide_eq_false (fun hm => hp (hi.2 hm))] at this

/-! ### IndexFunc, ContainsFunc of attributes; the first one's place is of no matter -/
theorem indexFuncAttr_calls {l : List AttrP} {f : Value} {p : AttrP → Bool} (r : Row elAttr A h b n c l)
    (hf : ∀ x h1 (next : Value → H → Prop), x ∈ l → KB h h1 → AttrR A h1 x → (∀ h2, KB h1 h2 → next (.bool (p x)) h2) → CallV Try.prog 4 f ⟨[.agg ⟨[S x.1, S x.2]⟩]⟩ h1 next)
    {K : Value → H → Prop} (hk : ∀ h' (i : Int), KB h h' → (0 ≤ i ↔ l.any p = true) → K (.int .i64 i) h') :
    HCalls Try.prog 40 ⟨[.slice b n c, f]⟩ h K := by
  refine Sx.slices_IndexFunc_apiAttr.ok _ _ _ _ _ _ ?_
  have hl := r.len
  have hm : n ≤ maxLen := Nat.le_trans r.cap r.max
  simp only [maxLen] at hm
  refine ⟨n + 1, ?_⟩
  have key : ∀ k i h1, i + k = n → KB h h1 → (∀ j (h1 : j < l.length), j < i → p l[j] = false) →
      Sx.slices_IndexFunc_apiAttr.n6_L (fun h => K (.int .i64 (-1)) h) (fun h => K (.int .i64 (-1)) h) (fun y4 h => K (.int .i64 y4) h) (k + 1) b n c f (n : Int) (i : Int) h1 := by
    intro k
    induction k with
    | zero =>
      intro i h1 hi k1 hall
      refine splF (by omega) (hk h1 (-1) k1 ⟨fun h => absurd h (by decide), fun hm => ?_⟩)
      obtain ⟨x, hx, hp⟩ := List.any_eq_true.1 hm
      obtain ⟨j, hj, e⟩ := List.mem_iff_getElem.1 hx
      have := hall j hj (by omega)
      rw [e, hp] at this; cases this
    | succ k ih =>
      intro i h1 hi k1 hall
      refine splT (by omega) ((r.kb k1).idxN (by omega) rfl fun a hA => ldAttr hA fun hR => hf _ h1 _ (List.getElem_mem _) k1 hR fun h2 k2 => ?_)
      refine condB (fun hd => hk h2 i (k1.trans k2) ⟨fun _ => List.any_eq_true.2 ⟨_, List.getElem_mem _, hd⟩, fun _ => by omega⟩) fun hd => ⟨rng64 (by omega) (by omega), ih (i + 1) h2 (by omega) (k1.trans k2) fun j h1 hj => ?_⟩
      by_cases e : j < i
      · exact hall j h1 e
      · have : j = i := by omega
        subst this
        exact hd
  exact key n 0 h (by omega) (KB.refl h) fun j _ hj => absurd hj (Nat.not_lt_zero _)
theorem containsFuncAttr_calls {l : List AttrP} {f : Value} {p : AttrP → Bool} (r : Row elAttr A h b n c l)
    (hf : ∀ x h1 (next : Value → H → Prop), x ∈ l → KB h h1 → AttrR A h1 x → (∀ h2, KB h1 h2 → next (.bool (p x)) h2) → CallV Try.prog 4 f ⟨[.agg ⟨[S x.1, S x.2]⟩]⟩ h1 next)
    {K : Value → H → Prop} (hk : ∀ h', KB h h' → K (.bool (l.any p)) h') :
    HCalls Try.prog 36 ⟨[.slice b n c, f]⟩ h K := by
  refine Sx.slices_ContainsFunc_apiAttr.ok _ _ _ _ _ _ (indexFuncAttr_calls r hf fun h' i k' hi => ?_)
  refine spl (fun hp => ?_) fun hp => ?_
  · have := hk h' k'
    rwa [hi.1 hp] at this
  · have := hk h' k'
    have e : l.any p = false := by
      cases hq : l.any p with
      | false => rfl
      | true => exact absurd (hi.2 hq) hp
    rwa [e] at this
end
end Go.Proofs
