/- Contracts of Letter and Digit; no memory is touched. -/
import Derived.Test.YtpkicfcnhgnejaaDoorShelf
import Derived.WalkKit
import Derived.WalkLawsBesides
import Derived.Lib.Hide
import Derived.Laws.BitsAllLaws
import Derived.Lib.Bytealg
namespace Go.Proofs
open Go.RowKit
set_option linter.unusedSimpArgs false
set_option linter.unusedVariables false

/-- a letter, of a number -/
def Tryd.letterI (n : Int) : Bool := decide (97 ≤ n ∧ n ≤ 122) || decide (65 ≤ n ∧ n ≤ 90)
theorem Tryd.or32 : ∀ k : Fin 256, (k.val ||| 32) = if k.val / 32 % 2 = 1 then k.val else k.val + 32 := by decide +kernel
theorem Tryd.or32I (n : Int) (h0 : 0 ≤ n) (h1 : n < 256) : bits .or .u8 n 32 = if n / 32 % 2 = 1 then n else n + 32 := by
  obtain ⟨k, rfl⟩ := Int.eq_ofNat_of_zero_le h0
  have hk : k < 256 := by omega
  have e := Tryd.or32 ⟨k, hk⟩
  rw [u8_or (k : Int) 32 (by omega) (by omega) (by decide) (by decide)]
  have e2 : ((k : Int).toNat ||| (32 : Int).toNat) = k ||| 32 := rfl
  simp only at e
  rw [e2, e]
  split <;> split <;> omega

set_option maxHeartbeats 400000 in
theorem Tryd.letter_any (n : Int) (h0 : 0 ≤ n) (hn : n < 256) (w : World) : Calls Tryd.prog 64 #[.int .u8 n] w fun e w' => e = .returned (.bool (Tryd.letterI n)) ∧ w = w' := by
  have hb := Tryd.or32I n h0 hn
  have hl : Tryd.letterI n = (decide (97 ≤ bits .or .u8 n 32) && decide (bits .or .u8 n 32 ≤ 122)) := by
    rw [hb]; unfold Tryd.letterI; rw [Bool.eq_iff_iff]; simp; split <;> omega
  by_cases h1 : 97 ≤ bits .or .u8 n 32 <;> by_cases h2 : bits .or .u8 n 32 ≤ 122
  all_goals
    have e := hl
    simp only [h1, h2, decide_true, decide_false, Bool.and_self, Bool.and_true, Bool.and_false, Bool.false_and] at e
    have E := Lib.hid e
    clear hb hl e
    go_enter Tryd.func64, Tryd.ntmps64
    go_wp2
    go_ret
    exact ⟨by rw [E.out]; rfl, rfl⟩

def Tryd.digitI (n : Int) : Bool := decide (48 ≤ n ∧ n ≤ 57)
theorem Tryd.digit_any (n : Int) (h0 : 0 ≤ n) (hn : n < 256) (w : World) : Calls Tryd.prog 65 #[.int .u8 n] w fun e w' => e = .returned (.bool (Tryd.digitI n)) ∧ w = w' := by
  have E : Hid (Tryd.digitI n = decide ((n - 48) % 256 < 10)) := by
    have e : Tryd.digitI n = decide ((n - 48) % 256 < 10) := by
      unfold Tryd.digitI
      rw [Bool.eq_iff_iff]
      simp only [decide_eq_true_eq]
      omega
    exact e
  go_enter Tryd.func65, Tryd.ntmps65
  go_wp2
  go_ret
  exact ⟨by rw [E.out]; rfl, rfl⟩

end Go.Proofs
