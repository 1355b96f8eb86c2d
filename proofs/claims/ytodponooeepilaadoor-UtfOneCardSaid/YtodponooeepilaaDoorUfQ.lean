/- utf: lines: the plain laws. No program. No condition. -/
import Derived.Test.YtodponooeepilaaDoorUfO
namespace Go.Proofs
open Go Go.Lib
set_option linter.unusedVariables false
theorem newP_ne {x : UInt8} (t : Bs) (h : x ≠ 13) : newP (x :: t) = x :: newP t := by
  cases t with
  | nil => show (if x = 13 then [10] else [x]) = _; rw [if_neg h]; rfl
  | cons y t => show (if x = 13 then _ else x :: newP (y :: t)) = _; rw [if_neg h]
theorem newP_crlf (t : Bs) : newP (13 :: 10 :: t) = 10 :: newP t := rfl
theorem newP_cr {t : Bs} (h : t.head? ≠ some 10) : newP (13 :: t) = 10 :: newP t := by
  cases t with
  | nil => rfl
  | cons y t =>
    have hy : y ≠ 10 := fun e => h (by rw [e]; rfl)
    show (if y = 10 then _ else 10 :: newP (y :: t)) = _
    rw [if_neg hy]
theorem newP_len : ∀ s : Bs, (newP s).length ≤ s.length
  | [] => Nat.le_refl _
  | [x] => by unfold newP; split <;> simp
  | x :: y :: t => by
    have h1 := newP_len t
    have h2 := newP_len (y :: t)
    by_cases hx : x = 13
    · subst hx
      by_cases hy : y = 10
      · subst hy; rw [newP_crlf]; simp only [List.length_cons]; omega
      · rw [newP_cr (by simp; exact hy)]; simp only [List.length_cons] at *; omega
    · rw [newP_ne _ hx]; simp only [List.length_cons] at *; omega
theorem newP_no : ∀ s : Bs, (13 : UInt8) ∉ newP s
  | [] => by simp [newP]
  | [x] => by
    unfold newP
    split
    · simp
    · simp; exact fun e => by rename_i h; exact h e.symm
  | x :: y :: t => by
    have h1 := newP_no t
    have h2 := newP_no (y :: t)
    by_cases hx : x = 13
    · subst hx
      by_cases hy : y = 10
      · subst hy; rw [newP_crlf]; simp [h1]
      · rw [newP_cr (by simp; exact hy)]; simp [h2]
    · rw [newP_ne _ hx]; simp only [List.mem_cons, not_or]; exact ⟨fun e => hx e.symm, h2⟩
theorem newP_id : ∀ {s : Bs}, (13 : UInt8) ∉ s → newP s = s
  | [], _ => rfl
  | x :: t, h => by
    simp only [List.mem_cons, not_or] at h
    rw [newP_ne _ (fun e => h.1 e.symm), newP_id h.2]
theorem newP_newP (s : Bs) : newP (newP s) = newP s := newP_id (newP_no s)
/-- the lines of a text, without their ends -/
def linesP : Bs → List Bs
  | [] => []
  | x :: t => if x = 10 then [] :: linesP t else match linesP t with
    | [] => [[x]]
    | l :: ls => (x :: l) :: ls
theorem linesP_cut : ∀ {u : Bs}, (10 : UInt8) ∉ u → ∀ r, linesP (u ++ 10 :: r) = u :: linesP r
  | [], _, r => rfl
  | x :: u, h, r => by
    simp only [List.mem_cons, not_or] at h
    show (if x = 10 then _ else match linesP (u ++ 10 :: r) with
      | [] => [[x]]
      | l :: ls => (x :: l) :: ls) = _
    rw [if_neg (fun e => h.1 e.symm), linesP_cut h.2 r]
theorem linesP_last : ∀ {u : Bs}, (10 : UInt8) ∉ u → u ≠ [] → linesP u = [u]
  | [x], h, _ => by
    simp only [List.mem_cons, List.not_mem_nil, or_false] at h
    show (if x = 10 then _ else [[x]]) = _
    rw [if_neg (fun e => h e.symm)]
  | x :: y :: u, h, _ => by
    simp only [List.mem_cons, not_or] at h
    have := linesP_last (u := y :: u) (by simp only [List.mem_cons, not_or]; exact h.2) (by simp)
    show (if x = 10 then _ else match linesP (y :: u) with
      | [] => [[x]]
      | l :: ls => (x :: l) :: ls) = _
    rw [if_neg (fun e => h.1 e.symm), this]
/-- the first line's end -/
theorem line_cases (s : Bs) : (∃ u r, s = u ++ 10 :: r ∧ (10 : UInt8) ∉ u) ∨ (10 : UInt8) ∉ s := by
  induction s with
  | nil => exact .inr (by simp)
  | cons x t ih =>
    by_cases hx : x = 10
    · subst hx; exact .inl ⟨[], t, rfl, by simp⟩
    · rcases ih with ⟨u, r, e, hu⟩ | h
      · exact .inl ⟨x :: u, r, by rw [e]; rfl, by simp only [List.mem_cons, not_or]; exact ⟨fun e => hx e.symm, hu⟩⟩
      · exact .inr (by simp only [List.mem_cons, not_or]; exact ⟨fun e => hx e.symm, h⟩)
theorem indexByte_cut : ∀ {u : Bs}, (10 : UInt8) ∉ u → ∀ r, Lib.index (u ++ 10 :: r) [10] = (u.length : Int)
  | [], _, r => by
    show (if ([10] : Bs).isPrefixOf (10 :: r) = true then (0 : Int) else _) = _
    rw [if_pos (by simp [List.isPrefixOf])]; rfl
  | x :: u, h, r => by
    simp only [List.mem_cons, not_or] at h
    have ih := indexByte_cut h.2 r
    rw [List.cons_append]
    unfold Lib.index
    rw [if_neg, ih]
    · have : ((u.length : Int) == -1) = false := by rw [beq_eq_false_iff_ne]; omega
      simp [this]
    · intro hp
      obtain ⟨v, e⟩ := List.isPrefixOf_iff_prefix.1 hp
      simp at e
      exact h.1 e.1
theorem indexByte_no : ∀ {u : Bs}, (10 : UInt8) ∉ u → Lib.index u [10] = -1
  | [], _ => by unfold Lib.index; rfl
  | x :: u, h => by
    simp only [List.mem_cons, not_or] at h
    have ih := indexByte_no h.2
    unfold Lib.index
    rw [if_neg, ih]
    · rfl
    · intro hp
      obtain ⟨v, e⟩ := List.isPrefixOf_iff_prefix.1 hp
      simp at e
      exact h.1 e.1
/-- the first line, and what is left behind its end -/
theorem lines_cut {s : Bs} (hne : s ≠ []) : linesP s = (Lib.cut s [10]).1 :: linesP (s.drop ((Lib.cut s [10]).1.length + 1)) ∧ (Lib.cut s [10]).1.length ≤ s.length := by
  unfold Lib.cut
  rcases line_cases s with ⟨u, r, rfl, hu⟩ | h
  · rw [indexByte_cut hu, if_pos (by omega)]
    have e : (u ++ 10 :: r).take (u.length : Int).toNat = u := by rw [Int.toNat_natCast]; simp
    simp only [e]
    refine ⟨?_, by simp⟩
    rw [linesP_cut hu]
    congr 2
    rw [List.drop_append, List.drop_eq_nil_of_le (by omega)]
    simp
  · rw [indexByte_no h, if_neg (by omega)]
    simp only
    refine ⟨?_, Nat.le_refl _⟩
    rw [List.drop_eq_nil_of_le (by omega), linesP_last h hne]
    rfl
theorem linesP_len : ∀ (n : Nat) (s : Bs), s.length ≤ n → (linesP s).length ≤ s.length ∧ ∀ l ∈ linesP s, l.length ≤ s.length
  | n, [], _ => ⟨by simp [linesP], fun l h => by simp [linesP] at h⟩
  | 0, x :: t, h => by simp at h
  | n + 1, x :: t, h => by
    obtain ⟨h1, h2⟩ := lines_cut (s := x :: t) (by simp)
    simp only [List.length_cons] at h
    obtain ⟨h3, h4⟩ := linesP_len n ((x :: t).drop ((Lib.cut (x :: t) [10]).1.length + 1)) (by simp only [List.length_drop, List.length_cons]; omega)
    rw [h1]
    simp only [List.length_drop, List.length_cons] at h3 h4 h2 ⊢
    refine ⟨by omega, fun l hl => ?_⟩
    rcases List.mem_cons.1 hl with rfl | hl
    · exact h2
    · have := h4 l hl; omega
/-- put together again -/
def joinP (l : List Bs) : Bs := l.flatMap (· ++ [10])
theorem joinP_cons (x : Bs) (l : List Bs) : joinP (x :: l) = x ++ 10 :: joinP l := by simp [joinP]
theorem joinP_snoc (x : Bs) (l : List Bs) : joinP (l ++ [x]) = (joinP l ++ x) ++ [10] := by simp [joinP]
theorem join_lines : ∀ (n : Nat) (s : Bs), s.length ≤ n → joinP (linesP s) = s ∨ joinP (linesP s) = s ++ [10]
  | n, [], _ => .inl rfl
  | 0, x :: t, h => by simp at h
  | n + 1, x :: t, h => by
    rcases line_cases (x :: t) with ⟨u, r, e, hu⟩ | hno
    · rw [e, linesP_cut hu, joinP_cons]
      have hl : r.length ≤ n := by have := congrArg List.length e; simp at this h; omega
      rcases join_lines n r hl with h | h
      · exact .inl (by rw [h])
      · exact .inr (by rw [h]; simp)
    · rw [linesP_last hno (by simp)]
      exact .inr (by simp [joinP])
theorem join_len (l : List Bs) (k : Nat) (h : ∀ x ∈ l, x.length ≤ k) : (joinP l).length ≤ l.length * (k + 1) := by
  induction l with
  | nil => simp [joinP]
  | cons x l ih =>
    rw [joinP_cons]
    have := ih fun y hy => h y (by simp [hy])
    have := h x (by simp)
    simp only [List.length_append, List.length_cons, Nat.add_mul]
    omega
end Go.Proofs
