/- Contracts of Blank (both texts). -/
import Derived.Test.YtpkicfcnhgnejaaDoorWalkClassS
namespace Go.Proofs
open Go.RowKit
set_option linter.unusedSimpArgs false
set_option linter.unusedVariables false

def Tryd.blankI (r : Int) : Bool := r == 9 || r == 10 || r == 12 || r == 13 || r == 32 || r == 160 || r == 5760 || r == 8239 || r == 8287 || r == 12288 || decide (8192 ≤ r ∧ r ≤ 8202)

theorem Tryd.blank_9 (w : World) : Calls Tryd.prog 18 #[.int .i32 9] w fun e w' => e = .returned (.bool true) ∧ w = w' := by
  go_enter Tryd.func18, Tryd.ntmps18
  go_wp2
  go_ret
  exact ⟨by first | rfl | (simp; omega), rfl⟩

theorem Tryd.blank_10 (w : World) : Calls Tryd.prog 18 #[.int .i32 10] w fun e w' => e = .returned (.bool true) ∧ w = w' := by
  go_enter Tryd.func18, Tryd.ntmps18
  go_wp2
  go_ret
  exact ⟨by first | rfl | (simp; omega), rfl⟩

theorem Tryd.blank_12 (w : World) : Calls Tryd.prog 18 #[.int .i32 12] w fun e w' => e = .returned (.bool true) ∧ w = w' := by
  go_enter Tryd.func18, Tryd.ntmps18
  go_wp2
  go_ret
  exact ⟨by first | rfl | (simp; omega), rfl⟩

theorem Tryd.blank_13 (w : World) : Calls Tryd.prog 18 #[.int .i32 13] w fun e w' => e = .returned (.bool true) ∧ w = w' := by
  go_enter Tryd.func18, Tryd.ntmps18
  go_wp2
  go_ret
  exact ⟨by first | rfl | (simp; omega), rfl⟩

theorem Tryd.blank_32 (w : World) : Calls Tryd.prog 18 #[.int .i32 32] w fun e w' => e = .returned (.bool true) ∧ w = w' := by
  go_enter Tryd.func18, Tryd.ntmps18
  go_wp2
  go_ret
  exact ⟨by first | rfl | (simp; omega), rfl⟩

theorem Tryd.blank_160 (w : World) : Calls Tryd.prog 18 #[.int .i32 160] w fun e w' => e = .returned (.bool true) ∧ w = w' := by
  go_enter Tryd.func18, Tryd.ntmps18
  go_wp2
  go_ret
  exact ⟨by first | rfl | (simp; omega), rfl⟩

theorem Tryd.blank_5760 (w : World) : Calls Tryd.prog 18 #[.int .i32 5760] w fun e w' => e = .returned (.bool true) ∧ w = w' := by
  go_enter Tryd.func18, Tryd.ntmps18
  go_wp2
  go_ret
  exact ⟨by first | rfl | (simp; omega), rfl⟩

theorem Tryd.blank_8239 (w : World) : Calls Tryd.prog 18 #[.int .i32 8239] w fun e w' => e = .returned (.bool true) ∧ w = w' := by
  go_enter Tryd.func18, Tryd.ntmps18
  go_wp2
  go_ret
  exact ⟨by first | rfl | (simp; omega), rfl⟩

theorem Tryd.blank_8287 (w : World) : Calls Tryd.prog 18 #[.int .i32 8287] w fun e w' => e = .returned (.bool true) ∧ w = w' := by
  go_enter Tryd.func18, Tryd.ntmps18
  go_wp2
  go_ret
  exact ⟨by first | rfl | (simp; omega), rfl⟩

theorem Tryd.blank_12288 (w : World) : Calls Tryd.prog 18 #[.int .i32 12288] w fun e w' => e = .returned (.bool true) ∧ w = w' := by
  go_enter Tryd.func18, Tryd.ntmps18
  go_wp2
  go_ret
  exact ⟨by first | rfl | (simp; omega), rfl⟩

theorem Tryd.blank_true (r : Int) (w : World) (n9 : (r == 9) = false) (n10 : (r == 10) = false) (n12 : (r == 12) = false) (n13 : (r == 13) = false) (n32 : (r == 32) = false) (n160 : (r == 160) = false) (n5760 : (r == 5760) = false) (n8239 : (r == 8239) = false) (n8287 : (r == 8287) = false) (n12288 : (r == 12288) = false) (h0 : 8192 ≤ r) (h1 : r ≤ 8202) : Calls Tryd.prog 18 #[.int .i32 r] w fun e w' => e = .returned (.bool true) ∧ w = w' := by
  go_enter Tryd.func18, Tryd.ntmps18
  go_wp2
  go_ret
  exact ⟨by first | rfl | (simp; omega), rfl⟩

theorem Tryd.blank_false (r : Int) (w : World) (n9 : (r == 9) = false) (n10 : (r == 10) = false) (n12 : (r == 12) = false) (n13 : (r == 13) = false) (n32 : (r == 32) = false) (n160 : (r == 160) = false) (n5760 : (r == 5760) = false) (n8239 : (r == 8239) = false) (n8287 : (r == 8287) = false) (n12288 : (r == 12288) = false) (h0 : r < 8192) : Calls Tryd.prog 18 #[.int .i32 r] w fun e w' => e = .returned (.bool false) ∧ w = w' := by
  go_enter Tryd.func18, Tryd.ntmps18
  go_wp2
  go_ret
  exact ⟨by first | rfl | (simp; omega), rfl⟩

theorem Tryd.blank_false2 (r : Int) (w : World) (n9 : (r == 9) = false) (n10 : (r == 10) = false) (n12 : (r == 12) = false) (n13 : (r == 13) = false) (n32 : (r == 32) = false) (n160 : (r == 160) = false) (n5760 : (r == 5760) = false) (n8239 : (r == 8239) = false) (n8287 : (r == 8287) = false) (n12288 : (r == 12288) = false) (h0 : 8192 ≤ r) (h1 : 8202 < r) : Calls Tryd.prog 18 #[.int .i32 r] w fun e w' => e = .returned (.bool false) ∧ w = w' := by
  go_enter Tryd.func18, Tryd.ntmps18
  go_wp2
  go_ret
  exact ⟨by first | rfl | (simp; omega), rfl⟩

theorem Tryd.blank_any (r : Int) (w : World) : Calls Tryd.prog 18 #[.int .i32 r] w fun e w' => e = .returned (.bool (Tryd.blankI r)) ∧ w = w' := by
  by_cases c9 : r = 9
  · subst c9; exact Tryd.blank_9 w
  by_cases c10 : r = 10
  · subst c10; exact Tryd.blank_10 w
  by_cases c12 : r = 12
  · subst c12; exact Tryd.blank_12 w
  by_cases c13 : r = 13
  · subst c13; exact Tryd.blank_13 w
  by_cases c32 : r = 32
  · subst c32; exact Tryd.blank_32 w
  by_cases c160 : r = 160
  · subst c160; exact Tryd.blank_160 w
  by_cases c5760 : r = 5760
  · subst c5760; exact Tryd.blank_5760 w
  by_cases c8239 : r = 8239
  · subst c8239; exact Tryd.blank_8239 w
  by_cases c8287 : r = 8287
  · subst c8287; exact Tryd.blank_8287 w
  by_cases c12288 : r = 12288
  · subst c12288; exact Tryd.blank_12288 w
  have n9 : (r == 9) = false := by rw [beq_eq_false_iff_ne]; exact c9
  have n10 : (r == 10) = false := by rw [beq_eq_false_iff_ne]; exact c10
  have n12 : (r == 12) = false := by rw [beq_eq_false_iff_ne]; exact c12
  have n13 : (r == 13) = false := by rw [beq_eq_false_iff_ne]; exact c13
  have n32 : (r == 32) = false := by rw [beq_eq_false_iff_ne]; exact c32
  have n160 : (r == 160) = false := by rw [beq_eq_false_iff_ne]; exact c160
  have n5760 : (r == 5760) = false := by rw [beq_eq_false_iff_ne]; exact c5760
  have n8239 : (r == 8239) = false := by rw [beq_eq_false_iff_ne]; exact c8239
  have n8287 : (r == 8287) = false := by rw [beq_eq_false_iff_ne]; exact c8287
  have n12288 : (r == 12288) = false := by rw [beq_eq_false_iff_ne]; exact c12288
  have e : Tryd.blankI r = decide (8192 ≤ r ∧ r ≤ 8202) := by unfold Tryd.blankI; rw [n9, n10, n12, n13, n32, n160, n5760, n8239, n8287, n12288]; simp
  rw [e]
  by_cases h0 : 8192 ≤ r
  · by_cases h1 : r ≤ 8202
    · rw [decide_eq_true ⟨h0, h1⟩]; exact Tryd.blank_true r w n9 n10 n12 n13 n32 n160 n5760 n8239 n8287 n12288 h0 h1
    · rw [decide_eq_false (fun h => h1 h.2)]; exact Tryd.blank_false2 r w n9 n10 n12 n13 n32 n160 n5760 n8239 n8287 n12288 h0 (by omega)
  · rw [decide_eq_false (fun h => h0 h.1)]; exact Tryd.blank_false r w n9 n10 n12 n13 n32 n160 n5760 n8239 n8287 n12288 (by omega)

theorem Tryd.blankRef_9 (w : World) : Calls Tryd.prog 12 #[.int .i32 9] w fun e w' => e = .returned (.bool true) ∧ w = w' := by
  go_enter Tryd.func12, Tryd.ntmps12
  go_wp2
  go_ret
  exact ⟨by first | rfl | (simp; omega), rfl⟩

theorem Tryd.blankRef_10 (w : World) : Calls Tryd.prog 12 #[.int .i32 10] w fun e w' => e = .returned (.bool true) ∧ w = w' := by
  go_enter Tryd.func12, Tryd.ntmps12
  go_wp2
  go_ret
  exact ⟨by first | rfl | (simp; omega), rfl⟩

theorem Tryd.blankRef_12 (w : World) : Calls Tryd.prog 12 #[.int .i32 12] w fun e w' => e = .returned (.bool true) ∧ w = w' := by
  go_enter Tryd.func12, Tryd.ntmps12
  go_wp2
  go_ret
  exact ⟨by first | rfl | (simp; omega), rfl⟩

theorem Tryd.blankRef_13 (w : World) : Calls Tryd.prog 12 #[.int .i32 13] w fun e w' => e = .returned (.bool true) ∧ w = w' := by
  go_enter Tryd.func12, Tryd.ntmps12
  go_wp2
  go_ret
  exact ⟨by first | rfl | (simp; omega), rfl⟩

theorem Tryd.blankRef_32 (w : World) : Calls Tryd.prog 12 #[.int .i32 32] w fun e w' => e = .returned (.bool true) ∧ w = w' := by
  go_enter Tryd.func12, Tryd.ntmps12
  go_wp2
  go_ret
  exact ⟨by first | rfl | (simp; omega), rfl⟩

theorem Tryd.blankRef_160 (w : World) : Calls Tryd.prog 12 #[.int .i32 160] w fun e w' => e = .returned (.bool true) ∧ w = w' := by
  go_enter Tryd.func12, Tryd.ntmps12
  go_wp2
  go_ret
  exact ⟨by first | rfl | (simp; omega), rfl⟩

theorem Tryd.blankRef_5760 (w : World) : Calls Tryd.prog 12 #[.int .i32 5760] w fun e w' => e = .returned (.bool true) ∧ w = w' := by
  go_enter Tryd.func12, Tryd.ntmps12
  go_wp2
  go_ret
  exact ⟨by first | rfl | (simp; omega), rfl⟩

theorem Tryd.blankRef_8239 (w : World) : Calls Tryd.prog 12 #[.int .i32 8239] w fun e w' => e = .returned (.bool true) ∧ w = w' := by
  go_enter Tryd.func12, Tryd.ntmps12
  go_wp2
  go_ret
  exact ⟨by first | rfl | (simp; omega), rfl⟩

theorem Tryd.blankRef_8287 (w : World) : Calls Tryd.prog 12 #[.int .i32 8287] w fun e w' => e = .returned (.bool true) ∧ w = w' := by
  go_enter Tryd.func12, Tryd.ntmps12
  go_wp2
  go_ret
  exact ⟨by first | rfl | (simp; omega), rfl⟩

theorem Tryd.blankRef_12288 (w : World) : Calls Tryd.prog 12 #[.int .i32 12288] w fun e w' => e = .returned (.bool true) ∧ w = w' := by
  go_enter Tryd.func12, Tryd.ntmps12
  go_wp2
  go_ret
  exact ⟨by first | rfl | (simp; omega), rfl⟩

theorem Tryd.blankRef_true (r : Int) (w : World) (n9 : (r == 9) = false) (n10 : (r == 10) = false) (n12 : (r == 12) = false) (n13 : (r == 13) = false) (n32 : (r == 32) = false) (n160 : (r == 160) = false) (n5760 : (r == 5760) = false) (n8239 : (r == 8239) = false) (n8287 : (r == 8287) = false) (n12288 : (r == 12288) = false) (h0 : 8192 ≤ r) (h1 : r ≤ 8202) : Calls Tryd.prog 12 #[.int .i32 r] w fun e w' => e = .returned (.bool true) ∧ w = w' := by
  go_enter Tryd.func12, Tryd.ntmps12
  go_wp2
  go_ret
  exact ⟨by first | rfl | (simp; omega), rfl⟩

theorem Tryd.blankRef_false (r : Int) (w : World) (n9 : (r == 9) = false) (n10 : (r == 10) = false) (n12 : (r == 12) = false) (n13 : (r == 13) = false) (n32 : (r == 32) = false) (n160 : (r == 160) = false) (n5760 : (r == 5760) = false) (n8239 : (r == 8239) = false) (n8287 : (r == 8287) = false) (n12288 : (r == 12288) = false) (h0 : r < 8192) : Calls Tryd.prog 12 #[.int .i32 r] w fun e w' => e = .returned (.bool false) ∧ w = w' := by
  go_enter Tryd.func12, Tryd.ntmps12
  go_wp2
  go_ret
  exact ⟨by first | rfl | (simp; omega), rfl⟩

theorem Tryd.blankRef_false2 (r : Int) (w : World) (n9 : (r == 9) = false) (n10 : (r == 10) = false) (n12 : (r == 12) = false) (n13 : (r == 13) = false) (n32 : (r == 32) = false) (n160 : (r == 160) = false) (n5760 : (r == 5760) = false) (n8239 : (r == 8239) = false) (n8287 : (r == 8287) = false) (n12288 : (r == 12288) = false) (h0 : 8192 ≤ r) (h1 : 8202 < r) : Calls Tryd.prog 12 #[.int .i32 r] w fun e w' => e = .returned (.bool false) ∧ w = w' := by
  go_enter Tryd.func12, Tryd.ntmps12
  go_wp2
  go_ret
  exact ⟨by first | rfl | (simp; omega), rfl⟩

theorem Tryd.blankRef_any (r : Int) (w : World) : Calls Tryd.prog 12 #[.int .i32 r] w fun e w' => e = .returned (.bool (Tryd.blankI r)) ∧ w = w' := by
  by_cases c9 : r = 9
  · subst c9; exact Tryd.blankRef_9 w
  by_cases c10 : r = 10
  · subst c10; exact Tryd.blankRef_10 w
  by_cases c12 : r = 12
  · subst c12; exact Tryd.blankRef_12 w
  by_cases c13 : r = 13
  · subst c13; exact Tryd.blankRef_13 w
  by_cases c32 : r = 32
  · subst c32; exact Tryd.blankRef_32 w
  by_cases c160 : r = 160
  · subst c160; exact Tryd.blankRef_160 w
  by_cases c5760 : r = 5760
  · subst c5760; exact Tryd.blankRef_5760 w
  by_cases c8239 : r = 8239
  · subst c8239; exact Tryd.blankRef_8239 w
  by_cases c8287 : r = 8287
  · subst c8287; exact Tryd.blankRef_8287 w
  by_cases c12288 : r = 12288
  · subst c12288; exact Tryd.blankRef_12288 w
  have n9 : (r == 9) = false := by rw [beq_eq_false_iff_ne]; exact c9
  have n10 : (r == 10) = false := by rw [beq_eq_false_iff_ne]; exact c10
  have n12 : (r == 12) = false := by rw [beq_eq_false_iff_ne]; exact c12
  have n13 : (r == 13) = false := by rw [beq_eq_false_iff_ne]; exact c13
  have n32 : (r == 32) = false := by rw [beq_eq_false_iff_ne]; exact c32
  have n160 : (r == 160) = false := by rw [beq_eq_false_iff_ne]; exact c160
  have n5760 : (r == 5760) = false := by rw [beq_eq_false_iff_ne]; exact c5760
  have n8239 : (r == 8239) = false := by rw [beq_eq_false_iff_ne]; exact c8239
  have n8287 : (r == 8287) = false := by rw [beq_eq_false_iff_ne]; exact c8287
  have n12288 : (r == 12288) = false := by rw [beq_eq_false_iff_ne]; exact c12288
  have e : Tryd.blankI r = decide (8192 ≤ r ∧ r ≤ 8202) := by unfold Tryd.blankI; rw [n9, n10, n12, n13, n32, n160, n5760, n8239, n8287, n12288]; simp
  rw [e]
  by_cases h0 : 8192 ≤ r
  · by_cases h1 : r ≤ 8202
    · rw [decide_eq_true ⟨h0, h1⟩]; exact Tryd.blankRef_true r w n9 n10 n12 n13 n32 n160 n5760 n8239 n8287 n12288 h0 h1
    · rw [decide_eq_false (fun h => h1 h.2)]; exact Tryd.blankRef_false2 r w n9 n10 n12 n13 n32 n160 n5760 n8239 n8287 n12288 h0 (by omega)
  · rw [decide_eq_false (fun h => h0 h.1)]; exact Tryd.blankRef_false r w n9 n10 n12 n13 n32 n160 n5760 n8239 n8287 n12288 (by omega)
end Go.Proofs
