/- Contracts of the byte functions of 'class' and of the document's: Space, Digit, Hex. -/
import Derived.Test.YtnnknbecgpdcgaaDoorWalkClassA
import Derived.Test.YtnnknbecgpdcgaaDoorShelf
import Derived.Lib.Bytealg
namespace Go.Proofs
open Go.RowKit
set_option linter.unusedSimpArgs false
set_option linter.unusedVariables false

def Tryd.spaceI (n : Int) : Bool := n == 9 || n == 10 || n == 12 || n == 13 || n == 32
def Tryd.digitI (n : Int) : Bool := decide (48 ≤ n ∧ n ≤ 57)
def Tryd.hexI (n : Int) : Int := if 48 ≤ n ∧ n ≤ 57 then n - 48 else if 97 ≤ n ∧ n ≤ 102 then n - 87 else if 65 ≤ n ∧ n ≤ 70 then n - 55 else -1

theorem Tryd.space_any (n : Int) (w : World) : Calls Tryd.prog 23 #[.int .u8 n] w fun e w' => e = .returned (.bool (Tryd.spaceI n)) ∧ w = w' := by
  have E := Lib.hid (show Tryd.spaceI n = (n == 9 || n == 10 || n == 12 || n == 13 || n == 32) from rfl)
  cases h1 : (n == 9) <;> cases h2 : (n == 10) <;> cases h3 : (n == 12) <;> cases h4 : (n == 13) <;> cases h5 : (n == 32)
  all_goals
    have e := E.out
    rw [h1, h2, h3, h4, h5] at e
    have E2 := Lib.hid e
    clear e
    go_enter Tryd.func23, Tryd.ntmps23
    go_wp2
    go_ret
    exact ⟨by rw [E2.out]; rfl, rfl⟩

theorem Tryd.space_ref (n : Int) (w : World) : Calls Tryd.prog 24 #[.int .u8 n] w fun e w' => e = .returned (.bool (Tryd.spaceI n)) ∧ w = w' := by
  have E := Lib.hid (show Tryd.spaceI n = (n == 9 || n == 10 || n == 12 || n == 13 || n == 32) from rfl)
  cases h1 : (n == 9) <;> cases h2 : (n == 10) <;> cases h3 : (n == 12) <;> cases h4 : (n == 13) <;> cases h5 : (n == 32)
  all_goals
    have e := E.out
    rw [h1, h2, h3, h4, h5] at e
    have E2 := Lib.hid e
    clear e
    go_enter Tryd.func24, Tryd.ntmps24
    go_wp2
    go_ret
    exact ⟨by rw [E2.out]; rfl, rfl⟩

theorem Tryd.digit_ref (n : Int) (w : World) : Calls Tryd.prog 28 #[.int .u8 n] w fun e w' => e = .returned (.bool (Tryd.digitI n)) ∧ w = w' := by
  by_cases h1 : 48 ≤ n <;> by_cases h2 : n ≤ 57
  all_goals
    have e : Tryd.digitI n = decide (48 ≤ n ∧ n ≤ 57) := rfl
    simp only [h1, h2, and_self, and_true, and_false, decide_true, decide_false] at e
    have E := Lib.hid e
    clear e
    go_enter Tryd.func28, Tryd.ntmps28
    go_wp2
    go_ret
    exact ⟨by rw [E.out]; rfl, rfl⟩

theorem Tryd.digit_any (n : Int) (h0 : 0 ≤ n) (hn : n < 256) (w : World) : Calls Tryd.prog 27 #[.int .u8 n] w fun e w' => e = .returned (.bool (Tryd.digitI n)) ∧ w = w' := by
  have E : Hid (Tryd.digitI n = decide ((n - 48) % 256 < 10)) := by
    have e : Tryd.digitI n = decide ((n - 48) % 256 < 10) := by
      unfold Tryd.digitI
      rw [Bool.eq_iff_iff]
      simp only [decide_eq_true_eq]
      omega
    exact e
  go_enter Tryd.func27, Tryd.ntmps27
  go_wp2
  go_ret
  exact ⟨by rw [E.out]; rfl, rfl⟩

theorem Tryd.hex_ref (n : Int) (h0 : 0 ≤ n) (hn : n < 256) (w : World) : Calls Tryd.prog 30 #[.int .u8 n] w fun e w' => e = .returned (.int .i64 (Tryd.hexI n)) ∧ w = w' := by
  by_cases h1 : 48 ≤ n <;> by_cases h2 : n ≤ 57 <;> by_cases h3 : 97 ≤ n <;> by_cases h4 : n ≤ 102 <;> by_cases h5 : 65 ≤ n <;> by_cases h6 : n ≤ 70
  all_goals first
    | (exfalso; omega)
    | (have e : Tryd.hexI n = if 48 ≤ n ∧ n ≤ 57 then n - 48 else if 97 ≤ n ∧ n ≤ 102 then n - 87 else if 65 ≤ n ∧ n ≤ 70 then n - 55 else -1 := rfl
       simp only [h1, h2, h3, h4, h5, h6, and_self, and_true, and_false, false_and, if_true, if_false] at e
       have E := Lib.hid e
       clear e
       go_enter Tryd.func30, Tryd.ntmps30
       go_wp2
       go_ret
       exact ⟨by rw [E.out]; first | rfl | go_num, rfl⟩)

theorem Tryd.hexTab : ∀ k : Fin 256, Lib.indexByte [48, 49, 50, 51, 52, 53, 54, 55, 56, 57, 97, 98, 99, 100, 101, 102] ((Tryd.lowI (k.val : Int)).toNat.toUInt8) = Tryd.hexI (k.val : Int) := by decide +kernel

theorem Tryd.hex_any (n : Int) (h0 : 0 ≤ n) (hn : n < 256) (w : World) : Calls Tryd.prog 29 #[.int .u8 n] w fun e w' => e = .returned (.int .i64 (Tryd.hexI n)) ∧ w = w' := by
  obtain ⟨k, rfl⟩ := Int.eq_ofNat_of_zero_le h0
  have E := Lib.hid (Tryd.hexTab ⟨k, by omega⟩)
  go_enter Tryd.func29, Tryd.ntmps29
  go_wp2_with fail
  refine (Tryd.small_any _ h0 hn _).mono ?_
  rintro e w' ⟨rfl, rfl⟩
  go_wp2_with fail
  refine (Tryd.strings_IndexByte _ _ _).mono ?_
  rintro e w' ⟨rfl, rfl⟩
  go_wp2
  go_ret
  exact ⟨by rw [← E.out]; rfl, rfl⟩
end Go.Proofs
