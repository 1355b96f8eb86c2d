/- utf: one kind of line's end: the program's way and the chapter's. No program. No condition. -/
import Derived.Test.YtodponooeepilaaDoorUfN
namespace Go.Proofs
open Go Go.Lib
set_option linter.unusedVariables false
/-- CR LF to LF -/
def crlf : Bs → Bs
  | [] => []
  | [x] => [x]
  | x :: y :: t => if x = 13 ∧ y = 10 then 10 :: crlf t else x :: crlf (y :: t)
/-- the chapter's -/
def newP : Bs → Bs
  | [] => []
  | [x] => if x = 13 then [10] else [x]
  | x :: y :: t => if x = 13 then (if y = 10 then 10 :: newP t else 10 :: newP (y :: t)) else x :: newP (y :: t)
theorem all_nil (old new : Bs) (ho : old ≠ []) (hn : old ≠ new) : Lib.replaceAll [] old new = [] := by
  rw [all_eq hn, Lib.count_miss]
  · rfl
  · cases old with
    | nil => exact absurd rfl ho
    | cons a t => rfl
theorem crlf_eq : ∀ s : Bs, Lib.replaceAll s [13, 10] [10] = crlf s
  | [] => all_nil _ _ (by decide) (by decide)
  | [x] => by
    rw [replaceAll_miss (by decide) (by decide) (by simp [List.isPrefixOf]), all_nil _ _ (by decide) (by decide)]; rfl
  | x :: y :: t => by
    unfold crlf
    split
    · rename_i h
      obtain ⟨rfl, rfl⟩ := h
      rw [replaceAll_hit (by decide) (by decide) (by simp) rfl]
      show [10] ++ Lib.replaceAll t [13, 10] [10] = _
      rw [crlf_eq t]; rfl
    · rename_i h
      rw [replaceAll_miss (by decide) (by decide) (by
        cases hp : ([13, 10] : Bs).isPrefixOf (x :: y :: t) with
        | false => rfl
        | true => obtain ⟨u, e⟩ := List.isPrefixOf_iff_prefix.1 hp; simp at e; exact absurd ⟨e.1.symm, e.2.1.symm⟩ h), crlf_eq (y :: t)]
theorem cr_eq : ∀ s : Bs, Lib.replaceAll s [13] [10] = s.map fun x => if x = 13 then 10 else x
  | [] => all_nil _ _ (by decide) (by decide)
  | x :: t => by
    rw [List.map_cons, ← cr_eq t]
    split
    · rename_i h
      subst h
      rw [replaceAll_hit (by decide) (by decide) (by simp) rfl]; rfl
    · rename_i h
      rw [replaceAll_miss (by decide) (by decide) (by
        cases hp : ([13] : Bs).isPrefixOf (x :: t) with
        | false => rfl
        | true => obtain ⟨u, e⟩ := List.isPrefixOf_iff_prefix.1 hp; simp at e; exact absurd e.1.symm h)]
theorem newlines_eq : ∀ s : Bs, Lib.replaceAll (Lib.replaceAll s [13, 10] [10]) [13] [10] = newP s
  | [] => by rw [crlf_eq, cr_eq]; rfl
  | [x] => by rw [crlf_eq, cr_eq]; unfold newP crlf; simp; split <;> simp_all
  | x :: y :: t => by
    have h1 := newlines_eq t
    have h2 := newlines_eq (y :: t)
    rw [crlf_eq, cr_eq] at *
    unfold newP crlf
    by_cases hx : x = 13
    · by_cases hy : y = 10
      · rw [if_pos ⟨hx, hy⟩, if_pos hx, if_pos hy, ← h1]; simp
      · rw [if_neg (by simp [hy]), if_pos hx, if_neg hy, ← h2]; simp [hx]
    · rw [if_neg (by simp [hx]), if_neg hx, ← h2]; simp [hx]
end Go.Proofs
