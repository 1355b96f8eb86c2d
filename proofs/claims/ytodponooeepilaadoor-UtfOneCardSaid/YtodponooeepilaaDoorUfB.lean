/- utf: what is at the front of bytes: the program's way is the chapter's. No program. No condition. -/
import Derived.Test.YtodponooeepilaaDoorUtC
namespace Go.Proofs
open Go
set_option linter.unusedVariables false
set_option maxRecDepth 100000

/-- what DecodeRune says of bytes -/
def decG (l : Bs) : Nat × Nat := if l = [] then (65533, 0) else dec l
/-- it is a character, all of it -/
def oneP (m : Bs) : Bool := (decide ((decG m).2 = m.length) && !decide ((decG m).1 = 65533)) || decide (m = [239, 191, 189])
def begGo (b : Bs) (x : UInt8) : Nat → Bool
  | 0 => false
  | k + 1 => oneP (b ++ [x]) || begGo (b ++ [x]) x k
/-- is it the beginning of a longer character? -/
def begP (b : Bs) : Bool := [128, 144, 160].any fun x => begGo b x (4 - b.length)
def widGo (b : Bs) : Nat → Nat × Bool
  | 0 => (1, false)
  | k + 1 => if k + 1 > 1 then (if begP (b.take (k + 1)) = true then (k + 1, false) else widGo b k) else (1, false)
def widthF (b : Bs) : Nat × Bool := if (decG b).1 ≠ 65533 ∨ (decG b).2 ≠ 1 then ((decG b).2, true) else widGo b (min 3 b.length)

theorem frontGo_spec (b : Bs) (n : Nat) : ∀ k i, n ≤ i + k → i ≤ n → i ≤ (frontGo b n k i).1 ∧ (frontGo b n k i).1 ≤ n ∧ (∀ j, i ≤ j → j < (frontGo b n k i).1 → okAt b j = true) ∧ (frontGo b n k i).2 = decide ((frontGo b n k i).1 = n) ∧ ((frontGo b n k i).1 < n → (frontGo b n k i).1 < b.length → okAt b (frontGo b n k i).1 = false)
  | 0, i, h, hi => by
    unfold frontGo
    exact ⟨Nat.le_refl _, hi, fun j h1 h2 => by simp only at h2; omega, rfl, fun h => by simp only at h; omega⟩
  | k + 1, i, h, hi => by
    unfold frontGo
    split
    · rename_i hc
      split
      · rename_i ho
        obtain ⟨a1, a2, a3, a4, a5⟩ := frontGo_spec b n k (i + 1) (by omega) (by omega)
        exact ⟨by omega, a2, fun j h1 h2 => by
          by_cases e : j = i
          · rw [e]; exact ho
          · exact a3 j (by omega) h2, a4, a5⟩
      · rename_i ho
        exact ⟨Nat.le_refl _, hi, fun j h1 h2 => by simp only at h2; omega, by simp only; rw [decide_eq_false (by omega)], fun _ _ => by simpa using ho⟩
    · rename_i hc
      exact ⟨Nat.le_refl _, hi, fun j h1 h2 => by simp only at h2; omega, rfl, fun h1 h2 => absurd ⟨h1, h2⟩ hc⟩
/-- all of it is one character -/
def fullP (m : Bs) : Prop := m ≠ [] ∧ manyP (byteAt m 0) = m.length ∧ ∀ j, 1 ≤ j → j < m.length → okAt m j = true
theorem full_dec {m : Bs} (hm : m ≠ []) : fullP m ↔ ((dec m).2 = m.length ∧ dec m ≠ (65533, 1)) := by
  cases m with
  | nil => exact absurd rfl hm
  | cons x t =>
    have hf := front_dec x t
    constructor
    · rintro ⟨_, h1, h2⟩
      have hn : manyP (byteAt (x :: t) 0) ≠ 0 := by rw [h1]; simp
      obtain ⟨a1, a2, a3, a4, a5⟩ := frontGo_spec (x :: t) (manyP (byteAt (x :: t) 0)) 4 1 (by have := many_le (byteAt (x :: t) 0); omega) (by omega)
      have e : frontP (x :: t) = frontGo (x :: t) (manyP (byteAt (x :: t) 0)) 4 1 := by unfold frontP; rw [if_neg hn]
      rw [← e] at a1 a2 a3 a4 a5
      have hfull : (frontP (x :: t)).1 = (x :: t).length := by
        by_cases hlt : (frontP (x :: t)).1 < manyP (byteAt (x :: t) 0)
        · have := a5 hlt (by omega)
          rw [h2 _ a1 (by omega)] at this; cases this
        · omega
      have hw : (frontP (x :: t)).2 = true := by rw [a4, decide_eq_true (by omega)]
      rcases hf with ⟨_, f2, f3⟩ | ⟨f1, _⟩
      · exact ⟨by rw [f2, hfull], fun e => by rw [e] at f3; simp at f3⟩
      · rw [hw] at f1; cases f1
    · rintro ⟨h1, h2⟩
      rcases hf with ⟨f1, f2, _⟩ | ⟨_, f2⟩
      · have hn : manyP (byteAt (x :: t) 0) ≠ 0 := by
          intro e
          unfold frontP at f1
          rw [if_pos e] at f1; cases f1
        obtain ⟨a1, a2, a3, a4, a5⟩ := frontGo_spec (x :: t) (manyP (byteAt (x :: t) 0)) 4 1 (by have := many_le (byteAt (x :: t) 0); omega) (by omega)
        have e : frontP (x :: t) = frontGo (x :: t) (manyP (byteAt (x :: t) 0)) 4 1 := by unfold frontP; rw [if_neg hn]
        rw [← e] at a1 a2 a3 a4 a5
        rw [f1] at a4
        have a6 := of_decide_eq_true a4.symm
        exact ⟨hm, by omega, fun j hj1 hj2 => a3 j hj1 (by omega)⟩
      · exact absurd f2 h2
theorem byteAt_append {a b : Bs} {j : Nat} (h : j < a.length) : byteAt (a ++ b) j = byteAt a j := by
  unfold byteAt
  rw [List.getD_eq_getElem?_getD, List.getD_eq_getElem?_getD, List.getElem?_append_left h]
theorem byteAt_take {b : Bs} {n j : Nat} (h : j < n) : byteAt (b.take n) j = byteAt b j := by
  unfold byteAt
  rw [List.getD_eq_getElem?_getD, List.getD_eq_getElem?_getD, List.getElem?_take, if_pos h]
theorem okAt_same {a b : Bs} {j : Nat} (h : ∀ i, i ≤ j → byteAt a i = byteAt b i) : okAt a j = okAt b j := by
  unfold okAt
  split
  · rename_i e; subst e
    rw [h 0 (by omega), h 1 (by omega)]
  · rw [h j (Nat.le_refl _)]
/-- whatever is put behind, it is no character, if it has a wrong byte already -/
theorem beg_no (b : Bs) (hlen : b.length < 4) (hb : b ≠ []) (hno : manyP (byteAt b 0) = 0 ∨ ∃ j, 1 ≤ j ∧ j < b.length ∧ okAt b j = false) : begP b = false := by
  have hgo : ∀ (x : UInt8), (x.toNat ≠ 189) → ∀ k (u : Bs), begGo (b ++ u) x k = false := by
    intro x hx k
    induction k with
    | zero => intro u; rfl
    | succ k ih =>
      intro u
      unfold begGo
      rw [List.append_assoc, ih (u ++ [x]), Bool.or_false]
      unfold oneP decG
      have hne : b ++ (u ++ [x]) ≠ [] := by simp
      rw [if_neg hne]
      have hnf : ¬ fullP (b ++ (u ++ [x])) := by
        rintro ⟨_, h1, h2⟩
        have hl := List.length_pos_iff.2 hb
        rw [byteAt_append hl] at h1
        rcases hno with h | ⟨j, j1, j2, j3⟩
        · rw [h] at h1; simp at h1
        · have := h2 j j1 (by simp; omega)
          rw [okAt_same (b := b) fun i hi => byteAt_append (by omega)] at this
          rw [this] at j3; cases j3
      have hnd : ¬ ((dec (b ++ (u ++ [x]))).2 = (b ++ (u ++ [x])).length ∧ ¬ (dec (b ++ (u ++ [x]))).1 = 65533) := fun ⟨h1, h2⟩ => hnf ((full_dec hne).2 ⟨h1, fun e => h2 (by rw [e])⟩)
      have hf : b ++ (u ++ [x]) ≠ [239, 191, 189] := fun e => by
        have e2 : (b ++ u) ++ [x] = [239, 191] ++ [189] := by rw [List.append_assoc]; exact e
        have := (List.append_inj' e2 rfl).2
        have := (List.cons.inj this).1
        rw [this] at hx; exact hx rfl
      rw [decide_eq_false hf, Bool.or_false]
      by_cases h1 : (dec (b ++ (u ++ [x]))).2 = (b ++ (u ++ [x])).length
      · have h2 : (dec (b ++ (u ++ [x]))).1 = 65533 := Classical.byContradiction fun h => hnd ⟨h1, h⟩
        rw [decide_eq_true h2]; simp
      · rw [decide_eq_false h1]; rfl
  have := fun x hx => hgo x hx (4 - b.length) []
  simp only [List.append_nil] at this
  unfold begP
  simp only [List.any_cons, List.any_nil, Bool.or_false]
  rw [this 128 (by decide), this 144 (by decide), this 160 (by decide)]; rfl
theorem begGo_at (b : Bs) (x : UInt8) : ∀ k j, 1 ≤ j → j ≤ k → oneP (b ++ List.replicate j x) = true → begGo b x k = true := by
  intro k
  induction k generalizing b with
  | zero => intro j h1 h2; omega
  | succ k ih =>
    intro j h1 h2 h
    unfold begGo
    by_cases e : j = 1
    · subst e; rw [show b ++ [x] = b ++ List.replicate 1 x from rfl, h]; rfl
    · obtain ⟨i, rfl⟩ : ∃ i, j = i + 1 := ⟨j - 1, by omega⟩
      rw [ih (b ++ [x]) i (by omega) (by omega) (by rw [List.append_assoc]; exact h), Bool.or_true]
/-- a beginning is seen -/
theorem beg_yes (b : Bs) (h2 : 2 ≤ b.length) (hm : b.length < manyP (byteAt b 0)) (hok : ∀ j, 1 ≤ j → j < b.length → okAt b j = true) : begP b = true := by
  have h4 := many_le (byteAt b 0)
  have hone : oneP (b ++ List.replicate (manyP (byteAt b 0) - b.length) 128) = true := by
    generalize hk : manyP (byteAt b 0) - b.length = k
    have hne : b ++ List.replicate k (128 : UInt8) ≠ [] := by intro e; have := congrArg List.length e; simp at this; omega
    have hfull : fullP (b ++ List.replicate k 128) := by
      refine ⟨hne, by rw [byteAt_append (by omega)]; simp; omega, fun j j1 j2 => ?_⟩
      by_cases hj : j < b.length
      · rw [okAt_same (b := b) fun i hi => byteAt_append (by omega)]; exact hok j j1 hj
      · have e : byteAt (b ++ List.replicate k (128 : UInt8)) j = 128 := by
          unfold byteAt
          rw [List.getD_eq_getElem?_getD, List.getElem?_append_right (by omega), List.getElem?_replicate, if_pos (by simp at j2; omega)]; rfl
        unfold okAt
        rw [if_neg (by omega), e]; rfl
    obtain ⟨d1, d2⟩ := (full_dec hne).1 hfull
    unfold oneP decG
    rw [if_neg hne, d1, decide_eq_true rfl]
    have : (dec (b ++ List.replicate k (128 : UInt8))).1 ≠ 65533 := by
      intro e
      cases hl : b ++ List.replicate k (128 : UInt8) with
      | nil => exact hne hl
      | cons x t =>
        rw [hl] at e d1 d2
        rcases dec_spec x t with e2 | ⟨_, _, _, e4⟩
        · exact d2 e2
        · rw [e, d1, List.take_length, encN_err, ← hl] at e4
          obtain ⟨k', rfl⟩ : ∃ k', k = k' + 1 := ⟨k - 1, by omega⟩
          rw [List.replicate_succ', ← List.append_assoc] at e4
          have := (List.append_inj' (show (b ++ List.replicate k' (128 : UInt8)) ++ [128] = [239, 191] ++ [189] from e4) rfl).2
          simp at this
    rw [decide_eq_false this]; rfl
  unfold begP
  simp only [List.any_cons]
  rw [begGo_at b 128 (4 - b.length) (manyP (byteAt b 0) - b.length) (by omega) (by omega) hone]; rfl
/-- THE FRONT: the program's way is the chapter's -/
theorem width_front {b : Bs} (hb : b ≠ []) : widthF b = frontP b := by
  cases b with
  | nil => exact absurd rfl hb
  | cons x t =>
    unfold widthF decG
    rw [if_neg hb]
    rcases front_dec x t with ⟨f1, f2, f3⟩ | ⟨f1, f2⟩
    · rw [if_pos f3]; exact Prod.ext f2 f1.symm
    · rw [f2, if_neg (by simp)]
      generalize hl : x :: t = b at *
      have hlen : 1 ≤ b.length := by rw [← hl]; simp
      -- the search
      have search : ∀ i, 1 ≤ i → i ≤ 3 → (2 ≤ i → begP (b.take i) = true) → ∀ k, i ≤ k → k ≤ 3 → (∀ j, i < j → j ≤ k → begP (b.take j) = false) → widGo b k = (i, false) := by
        intro i hi1 hi3 hyes k
        induction k with
        | zero => intro h; omega
        | succ k ih =>
          intro h1 h3 hno
          unfold widGo
          by_cases e : i = k + 1
          · split
            · rw [if_pos (by rw [← e]; exact hyes (by omega)), e]
            · have : i = 1 := by omega
              rw [this]
          · rw [if_pos (by omega), if_neg (by rw [hno (k + 1) (by omega) (Nat.le_refl _)]; decide)]
            exact ih (by omega) (by omega) fun j h1 h2 => hno j h1 (by omega)
      have hne : ∀ j, 1 ≤ j → b.take j ≠ [] := fun j hj e => by have := congrArg List.length e; rw [List.length_take, List.length_nil] at this; omega
      by_cases hm : manyP (byteAt b 0) = 0
      · have e : frontP b = (1, false) := by unfold frontP; rw [if_pos hm]
        rw [e]
        exact search 1 (by omega) (by omega) (by omega) _ (by omega) (by omega) fun j h1 h2 => beg_no _ (by rw [List.length_take]; omega) (hne j (by omega)) (.inl (by rw [byteAt_take (by omega)]; exact hm))
      · have h4 := many_le (byteAt b 0)
        obtain ⟨a1, a2, a3, a4, a5⟩ := frontGo_spec b (manyP (byteAt b 0)) 4 1 (by omega) (by omega)
        have e : frontP b = frontGo b (manyP (byteAt b 0)) 4 1 := by unfold frontP; rw [if_neg hm]
        have hbd := front_bd (b := b) (by rw [← hl]; simp)
        rw [← e] at a1 a2 a3 a4 a5
        rw [f1] at a4
        have hlt : (frontP b).1 < manyP (byteAt b 0) := by have := of_decide_eq_false a4.symm; omega
        have ef : frontP b = ((frontP b).1, false) := Prod.ext rfl f1
        rw [ef]
        refine search (frontP b).1 a1 (by omega) (fun h2 => ?_) _ (by omega) (by omega) fun j h1 h2 => ?_
        · have hl2 : (b.take (frontP b).1).length = (frontP b).1 := by rw [List.length_take]; omega
          refine beg_yes _ (by omega) (by rw [hl2, byteAt_take (by omega)]; exact hlt) fun j j1 j2 => ?_
          rw [okAt_same (b := b) fun i hi => byteAt_take (by omega)]
          exact a3 j j1 (by omega)
        · refine beg_no _ (by rw [List.length_take]; omega) (hne j (by omega)) (.inr ⟨(frontP b).1, a1, by rw [List.length_take]; omega, ?_⟩)
          rw [okAt_same (b := b) fun i hi => byteAt_take (by omega)]
          exact a5 hlt (by omega)
end Go.Proofs
