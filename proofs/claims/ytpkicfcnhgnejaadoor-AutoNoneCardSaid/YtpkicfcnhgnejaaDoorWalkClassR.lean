/- Contracts of Letter and Digit of the chapter; no memory is touched. -/
import Derived.Test.YtpkicfcnhgnejaaDoorWalkClassS
import Derived.WalkKit
import Derived.WalkLawsBesides
import Derived.Lib.Hide
import Derived.Laws.BitsAllLaws
import Derived.Lib.Bytealg
namespace Go.Proofs
open Go.RowKit
set_option linter.unusedSimpArgs false
set_option linter.unusedVariables false

theorem Tryd.letter_ref (n : Int) (w : World) : Calls Tryd.prog 44 #[.int .u8 n] w fun e w' => e = .returned (.bool (Tryd.letterI n)) ∧ w = w' := by
  by_cases h1 : 97 ≤ n <;> by_cases h2 : n ≤ 122 <;> by_cases h3 : 65 ≤ n <;> by_cases h4 : n ≤ 90
  all_goals
    have e : Tryd.letterI n = (decide (97 ≤ n ∧ n ≤ 122) || decide (65 ≤ n ∧ n ≤ 90)) := rfl
    simp only [h1, h2, h3, h4, and_self, and_true, true_and, and_false, false_and, decide_true, decide_false, Bool.or_self, Bool.or_true, Bool.or_false, Bool.true_or] at e
    have E := Lib.hid e
    clear e
    go_enter Tryd.func44, Tryd.ntmps44
    go_wp2
    go_ret
    exact ⟨by rw [E.out]; rfl, rfl⟩

theorem Tryd.digit_ref (n : Int) (w : World) : Calls Tryd.prog 45 #[.int .u8 n] w fun e w' => e = .returned (.bool (Tryd.digitI n)) ∧ w = w' := by
  by_cases h1 : 48 ≤ n <;> by_cases h2 : n ≤ 57
  all_goals
    have e : Tryd.digitI n = decide (48 ≤ n ∧ n ≤ 57) := rfl
    simp only [h1, h2, and_self, and_true, and_false, decide_true, decide_false] at e
    have E := Lib.hid e
    clear e
    go_enter Tryd.func45, Tryd.ntmps45
    go_wp2
    go_ret
    exact ⟨by rw [E.out]; rfl, rfl⟩

end Go.Proofs
