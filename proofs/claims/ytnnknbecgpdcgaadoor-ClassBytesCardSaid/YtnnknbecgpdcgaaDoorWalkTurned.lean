/- The contract of class.turned: a character in its small form. -/
import Derived.Test.YtnnknbecgpdcgaaDoorWalkClassA
namespace Go.Proofs
open Go.RowKit
set_option linter.unusedSimpArgs false
set_option linter.unusedVariables false

def Tryd.turnedI (r : Int) : Int :=
  if (65 ≤ r ∧ r ≤ 90) ∨ (192 ≤ r ∧ r ≤ 222 ∧ r ≠ 215) ∨ (913 ≤ r ∧ r ≤ 937 ∧ r ≠ 930) ∨ (1040 ≤ r ∧ r ≤ 1071) then r + 32
  else if 1024 ≤ r ∧ r ≤ 1039 then r + 80
  else if r = 962 then 963
  else if (256 ≤ r ∧ r ≤ 311) ∨ (330 ≤ r ∧ r ≤ 375) ∨ (7680 ≤ r ∧ r ≤ 7829) then r + 1 - r % 2
  else if (313 ≤ r ∧ r ≤ 328) ∨ (377 ≤ r ∧ r ≤ 382) then r + r % 2
  else r

theorem Tryd.and1 (k : Nat) (hk : k < 2147483648) : bits .and .i32 (k : Int) 1 = ((k % 2 : Nat) : Int) := by
  have e : (BitVec.ofInt 32 (k : Int) &&& BitVec.ofInt 32 1).toNat = k % 2 := by
    have h1 : (BitVec.ofInt 32 (k : Int)).toNat = k := by
      rw [BitVec.toNat_ofInt]; omega
    have h2 : (BitVec.ofInt 32 1).toNat = 1 := by decide
    rw [BitVec.toNat_and, h1, h2, Nat.and_one_is_mod]
  show IntKind.i32.wrap (((BitVec.ofInt 32 (k : Int) &&& BitVec.ofInt 32 1).toNat : Nat) : Int) = _
  rw [e]
  have : k % 2 < 2 := Nat.mod_lt _ (by decide)
  generalize k % 2 = m at *
  match m, this with
  | 0, _ => rfl
  | 1, _ => rfl

theorem Tryd.and1I (r : Int) (h0 : 0 ≤ r) (h1 : r < 2147483648) : bits .and .i32 r 1 = r % 2 := by
  obtain ⟨k, rfl⟩ := Int.eq_ofNat_of_zero_le h0
  rw [Tryd.and1 k (by omega)]
  omega

set_option maxHeartbeats 800000 in
theorem Tryd.turned_0 (r : Int) (w : World) (h0 : -2147483648 ≤ r) (h1 : r ≤ 64) : Calls Tryd.prog 35 #[.int .i32 r] w fun e w' => e = .returned (.int .i32 (Tryd.turnedI r)) ∧ w = w' := by
  have e : Tryd.turnedI r = r := by unfold Tryd.turnedI; (repeat' split) <;> omega
  have E := Lib.hid e
  clear e
  go_enter Tryd.func35, Tryd.ntmps35
  go_wp2
  go_ret
  exact ⟨by rw [E.out]; rfl, rfl⟩

set_option maxHeartbeats 800000 in
theorem Tryd.turned_1 (r : Int) (w : World) (h0 : 65 ≤ r) (h1 : r ≤ 90) : Calls Tryd.prog 35 #[.int .i32 r] w fun e w' => e = .returned (.int .i32 (Tryd.turnedI r)) ∧ w = w' := by
  have e : Tryd.turnedI r = r + 32 := by unfold Tryd.turnedI; (repeat' split) <;> omega
  have E := Lib.hid e
  clear e
  go_enter Tryd.func35, Tryd.ntmps35
  go_wp2
  go_ret
  exact ⟨by rw [E.out]; rfl, rfl⟩

set_option maxHeartbeats 800000 in
theorem Tryd.turned_2 (r : Int) (w : World) (h0 : 91 ≤ r) (h1 : r ≤ 191) : Calls Tryd.prog 35 #[.int .i32 r] w fun e w' => e = .returned (.int .i32 (Tryd.turnedI r)) ∧ w = w' := by
  have e : Tryd.turnedI r = r := by unfold Tryd.turnedI; (repeat' split) <;> omega
  have E := Lib.hid e
  clear e
  go_enter Tryd.func35, Tryd.ntmps35
  go_wp2
  go_ret
  exact ⟨by rw [E.out]; rfl, rfl⟩

set_option maxHeartbeats 800000 in
theorem Tryd.turned_3 (r : Int) (w : World) (h0 : 192 ≤ r) (h1 : r ≤ 214) : Calls Tryd.prog 35 #[.int .i32 r] w fun e w' => e = .returned (.int .i32 (Tryd.turnedI r)) ∧ w = w' := by
  have e : Tryd.turnedI r = r + 32 := by unfold Tryd.turnedI; (repeat' split) <;> omega
  have E := Lib.hid e
  clear e
  go_enter Tryd.func35, Tryd.ntmps35
  go_wp2
  go_ret
  exact ⟨by rw [E.out]; rfl, rfl⟩

set_option maxHeartbeats 800000 in
theorem Tryd.turned_4 (r : Int) (w : World) (h0 : 215 ≤ r) (h1 : r ≤ 215) : Calls Tryd.prog 35 #[.int .i32 r] w fun e w' => e = .returned (.int .i32 (Tryd.turnedI r)) ∧ w = w' := by
  obtain rfl : r = 215 := by omega
  clear h0 h1
  have e : Tryd.turnedI 215 = 215 := by unfold Tryd.turnedI; (repeat' split) <;> omega
  have E := Lib.hid e
  clear e
  go_enter Tryd.func35, Tryd.ntmps35
  go_wp2
  go_ret
  exact ⟨by rw [E.out]; rfl, rfl⟩

set_option maxHeartbeats 800000 in
theorem Tryd.turned_5 (r : Int) (w : World) (h0 : 216 ≤ r) (h1 : r ≤ 222) : Calls Tryd.prog 35 #[.int .i32 r] w fun e w' => e = .returned (.int .i32 (Tryd.turnedI r)) ∧ w = w' := by
  have e : Tryd.turnedI r = r + 32 := by unfold Tryd.turnedI; (repeat' split) <;> omega
  have E := Lib.hid e
  clear e
  go_enter Tryd.func35, Tryd.ntmps35
  go_wp2
  go_ret
  exact ⟨by rw [E.out]; rfl, rfl⟩

set_option maxHeartbeats 800000 in
theorem Tryd.turned_6 (r : Int) (w : World) (h0 : 223 ≤ r) (h1 : r ≤ 255) : Calls Tryd.prog 35 #[.int .i32 r] w fun e w' => e = .returned (.int .i32 (Tryd.turnedI r)) ∧ w = w' := by
  have e : Tryd.turnedI r = r := by unfold Tryd.turnedI; (repeat' split) <;> omega
  have E := Lib.hid e
  clear e
  go_enter Tryd.func35, Tryd.ntmps35
  go_wp2
  go_ret
  exact ⟨by rw [E.out]; rfl, rfl⟩

set_option maxHeartbeats 800000 in
theorem Tryd.turned_7 (r : Int) (w : World) (h0 : 256 ≤ r) (h1 : r ≤ 311) : Calls Tryd.prog 35 #[.int .i32 r] w fun e w' => e = .returned (.int .i32 (Tryd.turnedI r)) ∧ w = w' := by
  have e : Tryd.turnedI r = r + 1 - r % 2 := by unfold Tryd.turnedI; (repeat' split) <;> omega
  have E := Lib.hid e
  clear e
  have hodd := Tryd.and1I r (by omega) (by omega)
  have hb0 : 0 ≤ r % 2 := by omega
  have hb1 : r % 2 < 2 := by omega
  go_enter Tryd.func35, Tryd.ntmps35
  go_wp2
  go_ret
  exact ⟨by rw [E.out]; rfl, rfl⟩

set_option maxHeartbeats 800000 in
theorem Tryd.turned_8 (r : Int) (w : World) (h0 : 312 ≤ r) (h1 : r ≤ 312) : Calls Tryd.prog 35 #[.int .i32 r] w fun e w' => e = .returned (.int .i32 (Tryd.turnedI r)) ∧ w = w' := by
  obtain rfl : r = 312 := by omega
  clear h0 h1
  have e : Tryd.turnedI 312 = 312 := by unfold Tryd.turnedI; (repeat' split) <;> omega
  have E := Lib.hid e
  clear e
  go_enter Tryd.func35, Tryd.ntmps35
  go_wp2
  go_ret
  exact ⟨by rw [E.out]; rfl, rfl⟩

set_option maxHeartbeats 800000 in
theorem Tryd.turned_9 (r : Int) (w : World) (h0 : 313 ≤ r) (h1 : r ≤ 328) : Calls Tryd.prog 35 #[.int .i32 r] w fun e w' => e = .returned (.int .i32 (Tryd.turnedI r)) ∧ w = w' := by
  have e : Tryd.turnedI r = r + r % 2 := by unfold Tryd.turnedI; (repeat' split) <;> omega
  have E := Lib.hid e
  clear e
  have hodd := Tryd.and1I r (by omega) (by omega)
  have hb0 : 0 ≤ r % 2 := by omega
  have hb1 : r % 2 < 2 := by omega
  go_enter Tryd.func35, Tryd.ntmps35
  go_wp2
  go_ret
  exact ⟨by rw [E.out]; rfl, rfl⟩

set_option maxHeartbeats 800000 in
theorem Tryd.turned_10 (r : Int) (w : World) (h0 : 329 ≤ r) (h1 : r ≤ 329) : Calls Tryd.prog 35 #[.int .i32 r] w fun e w' => e = .returned (.int .i32 (Tryd.turnedI r)) ∧ w = w' := by
  obtain rfl : r = 329 := by omega
  clear h0 h1
  have e : Tryd.turnedI 329 = 329 := by unfold Tryd.turnedI; (repeat' split) <;> omega
  have E := Lib.hid e
  clear e
  go_enter Tryd.func35, Tryd.ntmps35
  go_wp2
  go_ret
  exact ⟨by rw [E.out]; rfl, rfl⟩

set_option maxHeartbeats 800000 in
theorem Tryd.turned_11 (r : Int) (w : World) (h0 : 330 ≤ r) (h1 : r ≤ 375) : Calls Tryd.prog 35 #[.int .i32 r] w fun e w' => e = .returned (.int .i32 (Tryd.turnedI r)) ∧ w = w' := by
  have e : Tryd.turnedI r = r + 1 - r % 2 := by unfold Tryd.turnedI; (repeat' split) <;> omega
  have E := Lib.hid e
  clear e
  have hodd := Tryd.and1I r (by omega) (by omega)
  have hb0 : 0 ≤ r % 2 := by omega
  have hb1 : r % 2 < 2 := by omega
  go_enter Tryd.func35, Tryd.ntmps35
  go_wp2
  go_ret
  exact ⟨by rw [E.out]; rfl, rfl⟩

set_option maxHeartbeats 800000 in
theorem Tryd.turned_12 (r : Int) (w : World) (h0 : 376 ≤ r) (h1 : r ≤ 376) : Calls Tryd.prog 35 #[.int .i32 r] w fun e w' => e = .returned (.int .i32 (Tryd.turnedI r)) ∧ w = w' := by
  obtain rfl : r = 376 := by omega
  clear h0 h1
  have e : Tryd.turnedI 376 = 376 := by unfold Tryd.turnedI; (repeat' split) <;> omega
  have E := Lib.hid e
  clear e
  go_enter Tryd.func35, Tryd.ntmps35
  go_wp2
  go_ret
  exact ⟨by rw [E.out]; rfl, rfl⟩

set_option maxHeartbeats 800000 in
theorem Tryd.turned_13 (r : Int) (w : World) (h0 : 377 ≤ r) (h1 : r ≤ 382) : Calls Tryd.prog 35 #[.int .i32 r] w fun e w' => e = .returned (.int .i32 (Tryd.turnedI r)) ∧ w = w' := by
  have e : Tryd.turnedI r = r + r % 2 := by unfold Tryd.turnedI; (repeat' split) <;> omega
  have E := Lib.hid e
  clear e
  have hodd := Tryd.and1I r (by omega) (by omega)
  have hb0 : 0 ≤ r % 2 := by omega
  have hb1 : r % 2 < 2 := by omega
  go_enter Tryd.func35, Tryd.ntmps35
  go_wp2
  go_ret
  exact ⟨by rw [E.out]; rfl, rfl⟩

set_option maxHeartbeats 800000 in
theorem Tryd.turned_14 (r : Int) (w : World) (h0 : 383 ≤ r) (h1 : r ≤ 912) : Calls Tryd.prog 35 #[.int .i32 r] w fun e w' => e = .returned (.int .i32 (Tryd.turnedI r)) ∧ w = w' := by
  have e : Tryd.turnedI r = r := by unfold Tryd.turnedI; (repeat' split) <;> omega
  have E := Lib.hid e
  clear e
  go_enter Tryd.func35, Tryd.ntmps35
  go_wp2
  go_ret
  exact ⟨by rw [E.out]; rfl, rfl⟩

set_option maxHeartbeats 800000 in
theorem Tryd.turned_15 (r : Int) (w : World) (h0 : 913 ≤ r) (h1 : r ≤ 929) : Calls Tryd.prog 35 #[.int .i32 r] w fun e w' => e = .returned (.int .i32 (Tryd.turnedI r)) ∧ w = w' := by
  have e : Tryd.turnedI r = r + 32 := by unfold Tryd.turnedI; (repeat' split) <;> omega
  have E := Lib.hid e
  clear e
  go_enter Tryd.func35, Tryd.ntmps35
  go_wp2
  go_ret
  exact ⟨by rw [E.out]; rfl, rfl⟩

set_option maxHeartbeats 800000 in
theorem Tryd.turned_16 (r : Int) (w : World) (h0 : 930 ≤ r) (h1 : r ≤ 930) : Calls Tryd.prog 35 #[.int .i32 r] w fun e w' => e = .returned (.int .i32 (Tryd.turnedI r)) ∧ w = w' := by
  obtain rfl : r = 930 := by omega
  clear h0 h1
  have e : Tryd.turnedI 930 = 930 := by unfold Tryd.turnedI; (repeat' split) <;> omega
  have E := Lib.hid e
  clear e
  go_enter Tryd.func35, Tryd.ntmps35
  go_wp2
  go_ret
  exact ⟨by rw [E.out]; rfl, rfl⟩

set_option maxHeartbeats 800000 in
theorem Tryd.turned_17 (r : Int) (w : World) (h0 : 931 ≤ r) (h1 : r ≤ 937) : Calls Tryd.prog 35 #[.int .i32 r] w fun e w' => e = .returned (.int .i32 (Tryd.turnedI r)) ∧ w = w' := by
  have e : Tryd.turnedI r = r + 32 := by unfold Tryd.turnedI; (repeat' split) <;> omega
  have E := Lib.hid e
  clear e
  go_enter Tryd.func35, Tryd.ntmps35
  go_wp2
  go_ret
  exact ⟨by rw [E.out]; rfl, rfl⟩

set_option maxHeartbeats 800000 in
theorem Tryd.turned_18 (r : Int) (w : World) (h0 : 938 ≤ r) (h1 : r ≤ 961) : Calls Tryd.prog 35 #[.int .i32 r] w fun e w' => e = .returned (.int .i32 (Tryd.turnedI r)) ∧ w = w' := by
  have e : Tryd.turnedI r = r := by unfold Tryd.turnedI; (repeat' split) <;> omega
  have E := Lib.hid e
  clear e
  go_enter Tryd.func35, Tryd.ntmps35
  go_wp2
  go_ret
  exact ⟨by rw [E.out]; rfl, rfl⟩

set_option maxHeartbeats 800000 in
theorem Tryd.turned_19 (r : Int) (w : World) (h0 : 962 ≤ r) (h1 : r ≤ 962) : Calls Tryd.prog 35 #[.int .i32 r] w fun e w' => e = .returned (.int .i32 (Tryd.turnedI r)) ∧ w = w' := by
  obtain rfl : r = 962 := by omega
  clear h0 h1
  have e : Tryd.turnedI 962 = 963 := by unfold Tryd.turnedI; (repeat' split) <;> omega
  have E := Lib.hid e
  clear e
  go_enter Tryd.func35, Tryd.ntmps35
  go_wp2
  go_ret
  exact ⟨by rw [E.out]; rfl, rfl⟩

set_option maxHeartbeats 800000 in
theorem Tryd.turned_20 (r : Int) (w : World) (h0 : 963 ≤ r) (h1 : r ≤ 1023) : Calls Tryd.prog 35 #[.int .i32 r] w fun e w' => e = .returned (.int .i32 (Tryd.turnedI r)) ∧ w = w' := by
  have e : Tryd.turnedI r = r := by unfold Tryd.turnedI; (repeat' split) <;> omega
  have E := Lib.hid e
  clear e
  go_enter Tryd.func35, Tryd.ntmps35
  go_wp2
  go_ret
  exact ⟨by rw [E.out]; rfl, rfl⟩

set_option maxHeartbeats 800000 in
theorem Tryd.turned_21 (r : Int) (w : World) (h0 : 1024 ≤ r) (h1 : r ≤ 1039) : Calls Tryd.prog 35 #[.int .i32 r] w fun e w' => e = .returned (.int .i32 (Tryd.turnedI r)) ∧ w = w' := by
  have e : Tryd.turnedI r = r + 80 := by unfold Tryd.turnedI; (repeat' split) <;> omega
  have E := Lib.hid e
  clear e
  go_enter Tryd.func35, Tryd.ntmps35
  go_wp2
  go_ret
  exact ⟨by rw [E.out]; rfl, rfl⟩

set_option maxHeartbeats 800000 in
theorem Tryd.turned_22 (r : Int) (w : World) (h0 : 1040 ≤ r) (h1 : r ≤ 1071) : Calls Tryd.prog 35 #[.int .i32 r] w fun e w' => e = .returned (.int .i32 (Tryd.turnedI r)) ∧ w = w' := by
  have e : Tryd.turnedI r = r + 32 := by unfold Tryd.turnedI; (repeat' split) <;> omega
  have E := Lib.hid e
  clear e
  go_enter Tryd.func35, Tryd.ntmps35
  go_wp2
  go_ret
  exact ⟨by rw [E.out]; rfl, rfl⟩

set_option maxHeartbeats 800000 in
theorem Tryd.turned_23 (r : Int) (w : World) (h0 : 1072 ≤ r) (h1 : r ≤ 7679) : Calls Tryd.prog 35 #[.int .i32 r] w fun e w' => e = .returned (.int .i32 (Tryd.turnedI r)) ∧ w = w' := by
  have e : Tryd.turnedI r = r := by unfold Tryd.turnedI; (repeat' split) <;> omega
  have E := Lib.hid e
  clear e
  go_enter Tryd.func35, Tryd.ntmps35
  go_wp2
  go_ret
  exact ⟨by rw [E.out]; rfl, rfl⟩

set_option maxHeartbeats 800000 in
theorem Tryd.turned_24 (r : Int) (w : World) (h0 : 7680 ≤ r) (h1 : r ≤ 7829) : Calls Tryd.prog 35 #[.int .i32 r] w fun e w' => e = .returned (.int .i32 (Tryd.turnedI r)) ∧ w = w' := by
  have e : Tryd.turnedI r = r + 1 - r % 2 := by unfold Tryd.turnedI; (repeat' split) <;> omega
  have E := Lib.hid e
  clear e
  have hodd := Tryd.and1I r (by omega) (by omega)
  have hb0 : 0 ≤ r % 2 := by omega
  have hb1 : r % 2 < 2 := by omega
  go_enter Tryd.func35, Tryd.ntmps35
  go_wp2
  go_ret
  exact ⟨by rw [E.out]; rfl, rfl⟩

set_option maxHeartbeats 800000 in
theorem Tryd.turned_25 (r : Int) (w : World) (h0 : 7830 ≤ r) (h1 : r ≤ 2147483647) : Calls Tryd.prog 35 #[.int .i32 r] w fun e w' => e = .returned (.int .i32 (Tryd.turnedI r)) ∧ w = w' := by
  have e : Tryd.turnedI r = r := by unfold Tryd.turnedI; (repeat' split) <;> omega
  have E := Lib.hid e
  clear e
  go_enter Tryd.func35, Tryd.ntmps35
  go_wp2
  go_ret
  exact ⟨by rw [E.out]; rfl, rfl⟩

theorem Tryd.turned_any (r : Int) (w : World) (hr0 : -2147483648 ≤ r) (hr1 : r ≤ 2147483647) :
    Calls Tryd.prog 35 #[.int .i32 r] w fun e w' => e = .returned (.int .i32 (Tryd.turnedI r)) ∧ w = w' := by
  by_cases c0 : r ≤ 64
  · exact Tryd.turned_0 r w (by omega) c0
  by_cases c1 : r ≤ 90
  · exact Tryd.turned_1 r w (by omega) c1
  by_cases c2 : r ≤ 191
  · exact Tryd.turned_2 r w (by omega) c2
  by_cases c3 : r ≤ 214
  · exact Tryd.turned_3 r w (by omega) c3
  by_cases c4 : r ≤ 215
  · exact Tryd.turned_4 r w (by omega) c4
  by_cases c5 : r ≤ 222
  · exact Tryd.turned_5 r w (by omega) c5
  by_cases c6 : r ≤ 255
  · exact Tryd.turned_6 r w (by omega) c6
  by_cases c7 : r ≤ 311
  · exact Tryd.turned_7 r w (by omega) c7
  by_cases c8 : r ≤ 312
  · exact Tryd.turned_8 r w (by omega) c8
  by_cases c9 : r ≤ 328
  · exact Tryd.turned_9 r w (by omega) c9
  by_cases c10 : r ≤ 329
  · exact Tryd.turned_10 r w (by omega) c10
  by_cases c11 : r ≤ 375
  · exact Tryd.turned_11 r w (by omega) c11
  by_cases c12 : r ≤ 376
  · exact Tryd.turned_12 r w (by omega) c12
  by_cases c13 : r ≤ 382
  · exact Tryd.turned_13 r w (by omega) c13
  by_cases c14 : r ≤ 912
  · exact Tryd.turned_14 r w (by omega) c14
  by_cases c15 : r ≤ 929
  · exact Tryd.turned_15 r w (by omega) c15
  by_cases c16 : r ≤ 930
  · exact Tryd.turned_16 r w (by omega) c16
  by_cases c17 : r ≤ 937
  · exact Tryd.turned_17 r w (by omega) c17
  by_cases c18 : r ≤ 961
  · exact Tryd.turned_18 r w (by omega) c18
  by_cases c19 : r ≤ 962
  · exact Tryd.turned_19 r w (by omega) c19
  by_cases c20 : r ≤ 1023
  · exact Tryd.turned_20 r w (by omega) c20
  by_cases c21 : r ≤ 1039
  · exact Tryd.turned_21 r w (by omega) c21
  by_cases c22 : r ≤ 1071
  · exact Tryd.turned_22 r w (by omega) c22
  by_cases c23 : r ≤ 7679
  · exact Tryd.turned_23 r w (by omega) c23
  by_cases c24 : r ≤ 7829
  · exact Tryd.turned_24 r w (by omega) c24
  exact Tryd.turned_25 r w (by omega) (by omega)
end Go.Proofs
