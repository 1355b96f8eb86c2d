/- Contracts of the byte functions of 'class' and of the document's answer for it: Letter, small; no memory is touched. -/
import Derived.Test.YtnnknbecgpdcgaaDoorProg
import Derived.Test.YtnnknbecgpdcgaaDoorPlainNote
import Derived.WalkKit
import Derived.WalkLawsBesides
import Derived.Lib.Hide
import Derived.Laws.BitsAllLaws
namespace Go.Proofs
open Go.RowKit
set_option linter.unusedSimpArgs false
set_option linter.unusedVariables false

/-- a letter, of a number -/
def Tryd.letterI (n : Int) : Bool := decide (97 ≤ n ∧ n ≤ 122) || decide (65 ≤ n ∧ n ≤ 90)
theorem Tryd.letterI_byte (c : UInt8) : Tryd.letterI (c.toNat : Int) = Ty.isLetter c := by
  unfold Tryd.letterI Ty.isLetter
  rw [Bool.eq_iff_iff]
  simp [UInt8.le_iff_toNat_le]
  omega

theorem Tryd.or32 : ∀ k : Fin 256, (k.val ||| 32) = if k.val / 32 % 2 = 1 then k.val else k.val + 32 := by decide +kernel
theorem Tryd.or32I (n : Int) (h0 : 0 ≤ n) (h1 : n < 256) : bits .or .u8 n 32 = if n / 32 % 2 = 1 then n else n + 32 := by
  obtain ⟨k, rfl⟩ := Int.eq_ofNat_of_zero_le h0
  have hk : k < 256 := by omega
  have e := Tryd.or32 ⟨k, hk⟩
  rw [u8_or (k : Int) 32 (by omega) (by omega) (by decide) (by decide)]
  have e2 : ((k : Int).toNat ||| (32 : Int).toNat) = k ||| 32 := rfl
  simp only at e
  rw [e2, e]
  split <;> split <;> omega

theorem Tryd.letter_ref (n : Int) (w : World) : Calls Tryd.prog 26 #[.int .u8 n] w fun e w' => e = .returned (.bool (Tryd.letterI n)) ∧ w = w' := by
  by_cases h1 : 97 ≤ n <;> by_cases h2 : n ≤ 122 <;> by_cases h3 : 65 ≤ n <;> by_cases h4 : n ≤ 90
  all_goals
    have e : Tryd.letterI n = (decide (97 ≤ n ∧ n ≤ 122) || decide (65 ≤ n ∧ n ≤ 90)) := rfl
    simp only [h1, h2, h3, h4, and_self, and_true, true_and, and_false, false_and, decide_true, decide_false, Bool.or_self, Bool.or_true, Bool.or_false, Bool.true_or] at e
    have E := Lib.hid e
    clear e
    go_enter Tryd.func26, Tryd.ntmps26
    go_wp2
    go_ret
    exact ⟨by rw [E.out]; rfl, rfl⟩

set_option maxHeartbeats 400000 in
theorem Tryd.letter_any (n : Int) (h0 : 0 ≤ n) (hn : n < 256) (w : World) : Calls Tryd.prog 25 #[.int .u8 n] w fun e w' => e = .returned (.bool (Tryd.letterI n)) ∧ w = w' := by
  have hb := Tryd.or32I n h0 hn
  have hl : Tryd.letterI n = (decide (97 ≤ bits .or .u8 n 32) && decide (bits .or .u8 n 32 ≤ 122)) := by
    rw [hb]; unfold Tryd.letterI; rw [Bool.eq_iff_iff]; simp; split <;> omega
  by_cases h1 : 97 ≤ bits .or .u8 n 32 <;> by_cases h2 : bits .or .u8 n 32 ≤ 122
  all_goals
    have e := hl
    simp only [h1, h2, decide_true, decide_false, Bool.and_self, Bool.and_true, Bool.and_false, Bool.false_and] at e
    have E := Lib.hid e
    clear hb hl e
    go_enter Tryd.func25, Tryd.ntmps25
    go_wp2
    go_ret
    exact ⟨by rw [E.out]; rfl, rfl⟩

/-- a small letter for a great one -/
def Tryd.lowI (n : Int) : Int := if 65 ≤ n ∧ n ≤ 90 then n + 32 else n
theorem Tryd.lowI_byte (c : UInt8) : Tryd.lowI (c.toNat : Int) = ((Ty.lowc c).toNat : Int) := by
  unfold Tryd.lowI Ty.lowc
  have := c.toNat_lt
  by_cases h : 65 ≤ c.toNat ∧ c.toNat ≤ 90
  · rw [if_pos (by omega), if_pos (by simp [UInt8.le_iff_toNat_le]; omega), UInt8.toNat_add]
    simp; omega
  · rw [if_neg (by omega), if_neg (by simp [UInt8.le_iff_toNat_le]; omega)]

theorem Tryd.small_any (n : Int) (h0 : 0 ≤ n) (hn : n < 256) (w : World) : Calls Tryd.prog 38 #[.int .u8 n] w fun e w' => e = .returned (.int .u8 (Tryd.lowI n)) ∧ w = w' := by
  have hb := Tryd.or32I n h0 hn
  have hl : Tryd.lowI n = if 65 ≤ n ∧ n ≤ 90 then bits .or .u8 n 32 else n := by
    rw [hb]; unfold Tryd.lowI; split
    · split <;> omega
    · rfl
  by_cases h1 : 65 ≤ n <;> by_cases h2 : n ≤ 90
  all_goals
    have e := hl
    simp only [h1, h2, and_self, and_true, and_false, false_and, if_true, if_false] at e
    have E := Lib.hid e
    clear hb hl e
    go_enter Tryd.func38, Tryd.ntmps38
    go_wp2
    go_ret
    exact ⟨by rw [E.out]; rfl, rfl⟩
end Go.Proofs
