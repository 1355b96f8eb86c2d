/- NoteBack returns true for every input: the walk. -/
import Derived.Test.YthbeoddbgcdpnaaWalkNoteV
import Derived.Test.YthbeoddbgcdpnaaPlainNoteC
namespace Go.Proofs
open Go.RowKit
set_option linter.unusedSimpArgs false
set_option linter.unusedVariables false

theorem Try.index_strI (s : ByteArray) (i : Int) (k : Nat) (hi : i = k) (h : k < s.size) (w : World) : (Instr.index 9 (.string s) (.int .i64 i)).run Try.prog w = .ok (.int .u8 ((s[k]'h).toNat : Int)) w := by
  subst hi
  have := Try.underlying9
  simp [go_sem, this, h]

theorem Try.append_data (a b : ByteArray) : (a ++ b).data.toList = a.data.toList ++ b.data.toList := by
  rw [ByteArray.data_append]; simp

theorem Try.byte_ne {c : UInt8} {n : Nat} (hn : n < 256) (h : ((c.toNat : Int) == (n : Int)) = false) : c ≠ UInt8.ofNat n := by
  intro e
  subst e
  rw [UInt8.toNat_ofNat'] at h
  simp at h
  omega

set_option maxHeartbeats 800000 in
theorem Try.noteBack_far (s u : ByteArray) (m : Int) (w : World) (hs : 3000 < s.size ∨ (s.size ≤ 3000 ∧ 3000 < u.size)) (hs1 : s.size ≤ 9223372036854775807) (hs2 : u.size ≤ 9223372036854775807) (hm : w.cell? ⟨0, 0, none⟩ = some (.int .i64 m)) :
    Calls Try.prog 5 #[.string s, .string u] w fun e w' => e = .returned (.bool true) ∧ Below w.heap.size w w' := by
  have H := Lib.hid hm
  clear hm
  rcases hs with hs | ⟨hs, hs'⟩
  all_goals
    go_enter Try.func5, Try.ntmps5
    go_wp2_with fail
    refine (Try.known_any m _ H.out).mono ?_
    rintro e w1 ⟨rfl, hb⟩
    go_wp2
    go_ret
    exact ⟨rfl, hb⟩

set_option maxHeartbeats 1600000 in
theorem Try.noteBack_c1 (s u : ByteArray) (m : Int) (w : World) (hs : s.size ≤ 3000) (hu : u.size ≤ 3000)
    (hm : w.cell? ⟨0, 0, none⟩ = some (.int .i64 m))
    (a1 : Lib.contains s.data.toList Ty.endA = true) :
    Calls Try.prog 5 #[.string s, .string u] w fun e w' => e = .returned (.bool true) ∧ Below w.heap.size w w' := by
  have HM := Lib.hid hm
  have A1 := Lib.hid a1
  clear hm a1
  go_enter Try.func5, Try.ntmps5
  go_wp2_with fail
  refine (Try.known_any m _ HM.out).mono ?_
  rintro e w1 ⟨rfl, hb⟩
  have HB1 := Lib.hid hb
  have HM1 := Lib.hid (Try.keep0 HM.out hb)
  clear hb
  go_wp2_with fail
  refine (Try.has_is s ⟨#[45, 45, 62]⟩ true _ (by omega) (by decide) A1.out).mono ?_
  rintro e w' ⟨rfl, rfl⟩
  go_wp2
  go_ret
  exact ⟨rfl, HB1.out⟩

set_option maxHeartbeats 1600000 in
theorem Try.noteBack_c2 (s u : ByteArray) (m : Int) (w : World) (hs : s.size ≤ 3000) (hu : u.size ≤ 3000)
    (hm : w.cell? ⟨0, 0, none⟩ = some (.int .i64 m))
    (a1 : Lib.contains s.data.toList Ty.endA = false)
    (a2 : Lib.contains s.data.toList Ty.endB = true) :
    Calls Try.prog 5 #[.string s, .string u] w fun e w' => e = .returned (.bool true) ∧ Below w.heap.size w w' := by
  have HM := Lib.hid hm
  have A1 := Lib.hid a1
  have A2 := Lib.hid a2
  clear hm a1 a2
  go_enter Try.func5, Try.ntmps5
  go_wp2_with fail
  refine (Try.known_any m _ HM.out).mono ?_
  rintro e w1 ⟨rfl, hb⟩
  have HB1 := Lib.hid hb
  have HM1 := Lib.hid (Try.keep0 HM.out hb)
  clear hb
  go_wp2_with fail
  refine (Try.has_is s ⟨#[45, 45, 62]⟩ false _ (by omega) (by decide) A1.out).mono ?_
  rintro e w' ⟨rfl, rfl⟩
  go_wp2_with fail
  refine (Try.has_is s ⟨#[45, 45, 33, 62]⟩ true _ (by omega) (by decide) A2.out).mono ?_
  rintro e w' ⟨rfl, rfl⟩
  go_wp2
  go_ret
  exact ⟨rfl, HB1.out⟩

set_option maxHeartbeats 1600000 in
theorem Try.noteBack_t0 (s u : ByteArray) (m : Int) (w : World) (hs : s.size ≤ 3000) (hu : u.size ≤ 3000)
    (hm : w.cell? ⟨0, 0, none⟩ = some (.int .i64 m))
    (a1 : Lib.contains s.data.toList Ty.endA = false)
    (a2 : Lib.contains s.data.toList Ty.endB = false)
    (hz : 1 ≤ s.size)
    (c0 : UInt8) (e0 : s[(0 : Nat)]'(by omega) = c0) (b0 : ((c0.toNat : Int) == 62) = true) :
    Calls Try.prog 5 #[.string s, .string u] w fun e w' => e = .returned (.bool true) ∧ Below w.heap.size w w' := by
  have HM := Lib.hid hm
  have A1 := Lib.hid a1
  have A2 := Lib.hid a2
  clear hm a1 a2
  go_enter Try.func5, Try.ntmps5
  go_wp2_with fail
  refine (Try.known_any m _ HM.out).mono ?_
  rintro e w1 ⟨rfl, hb⟩
  have HB1 := Lib.hid hb
  have HM1 := Lib.hid (Try.keep0 HM.out hb)
  clear hb
  go_wp2_with fail
  refine (Try.has_is s ⟨#[45, 45, 62]⟩ false _ (by omega) (by decide) A1.out).mono ?_
  rintro e w' ⟨rfl, rfl⟩
  go_wp2_with fail
  refine (Try.has_is s ⟨#[45, 45, 33, 62]⟩ false _ (by omega) (by decide) A2.out).mono ?_
  rintro e w' ⟨rfl, rfl⟩
  go_wp2
  go_ret
  exact ⟨rfl, HB1.out⟩

set_option maxHeartbeats 1600000 in
theorem Try.noteBack_tl (s u : ByteArray) (m : Int) (w : World) (hs : s.size ≤ 3000) (hu : u.size ≤ 3000)
    (hm : w.cell? ⟨0, 0, none⟩ = some (.int .i64 m))
    (a1 : Lib.contains s.data.toList Ty.endA = false)
    (a2 : Lib.contains s.data.toList Ty.endB = false)
    (hz : 1 ≤ s.size)
    (c0 : UInt8) (e0 : s[(0 : Nat)]'(by omega) = c0) (b0 : ((c0.toNat : Int) == 62) = false)
    (cl : UInt8) (el : s[s.size - 1]'(by omega) = cl) (bl : ((cl.toNat : Int) == 45) = true) :
    Calls Try.prog 5 #[.string s, .string u] w fun e w' => e = .returned (.bool true) ∧ Below w.heap.size w w' := by
  have HM := Lib.hid hm
  have A1 := Lib.hid a1
  have A2 := Lib.hid a2
  have hil : ∀ w : World, (Instr.index 9 (.string s) (.int .i64 ((s.size : Int) - 1))).run Try.prog w = .ok (.int .u8 (cl.toNat : Int)) w := fun w => by
    rw [Try.index_strI s ((s.size : Int) - 1) (s.size - 1) (by omega) (by omega) w, el]
  clear hm a1 a2 el
  go_enter Try.func5, Try.ntmps5
  go_wp2_with fail
  refine (Try.known_any m _ HM.out).mono ?_
  rintro e w1 ⟨rfl, hb⟩
  have HB1 := Lib.hid hb
  have HM1 := Lib.hid (Try.keep0 HM.out hb)
  clear hb
  go_wp2_with fail
  refine (Try.has_is s ⟨#[45, 45, 62]⟩ false _ (by omega) (by decide) A1.out).mono ?_
  rintro e w' ⟨rfl, rfl⟩
  go_wp2_with fail
  refine (Try.has_is s ⟨#[45, 45, 33, 62]⟩ false _ (by omega) (by decide) A2.out).mono ?_
  rintro e w' ⟨rfl, rfl⟩
  go_wp2
  go_ret
  exact ⟨rfl, HB1.out⟩

set_option maxHeartbeats 1600000 in
theorem Try.noteBack_p2 (s u : ByteArray) (m : Int) (w : World) (hs : s.size ≤ 3000) (hu : u.size ≤ 3000)
    (hm : w.cell? ⟨0, 0, none⟩ = some (.int .i64 m))
    (a1 : Lib.contains s.data.toList Ty.endA = false)
    (a2 : Lib.contains s.data.toList Ty.endB = false)
    (hz : 2 ≤ s.size)
    (c0 : UInt8) (e0 : s[(0 : Nat)]'(by omega) = c0) (b0 : ((c0.toNat : Int) == 62) = false)
    (cl : UInt8) (el : s[s.size - 1]'(by omega) = cl) (bl : ((cl.toNat : Int) == 45) = false)
    (q2 : ByteArray) (e2 : s.extract 0 2 = q2) (b2 : (q2.toList == [45, 62]) = true) :
    Calls Try.prog 5 #[.string s, .string u] w fun e w' => e = .returned (.bool true) ∧ Below w.heap.size w w' := by
  have HM := Lib.hid hm
  have A1 := Lib.hid a1
  have A2 := Lib.hid a2
  have hil : ∀ w : World, (Instr.index 9 (.string s) (.int .i64 ((s.size : Int) - 1))).run Try.prog w = .ok (.int .u8 (cl.toNat : Int)) w := fun w => by
    rw [Try.index_strI s ((s.size : Int) - 1) (s.size - 1) (by omega) (by omega) w, el]
  have h2i : (2 : Int) ≤ (s.size : Int) := by omega
  clear hm a1 a2 el
  go_enter Try.func5, Try.ntmps5
  go_wp2_with fail
  refine (Try.known_any m _ HM.out).mono ?_
  rintro e w1 ⟨rfl, hb⟩
  have HB1 := Lib.hid hb
  have HM1 := Lib.hid (Try.keep0 HM.out hb)
  clear hb
  go_wp2_with fail
  refine (Try.has_is s ⟨#[45, 45, 62]⟩ false _ (by omega) (by decide) A1.out).mono ?_
  rintro e w' ⟨rfl, rfl⟩
  go_wp2_with fail
  refine (Try.has_is s ⟨#[45, 45, 33, 62]⟩ false _ (by omega) (by decide) A2.out).mono ?_
  rintro e w' ⟨rfl, rfl⟩
  go_wp2
  go_ret
  exact ⟨rfl, HB1.out⟩

set_option maxHeartbeats 1600000 in
theorem Try.noteBack_p3 (s u : ByteArray) (m : Int) (w : World) (hs : s.size ≤ 3000) (hu : u.size ≤ 3000)
    (hm : w.cell? ⟨0, 0, none⟩ = some (.int .i64 m))
    (a1 : Lib.contains s.data.toList Ty.endA = false)
    (a2 : Lib.contains s.data.toList Ty.endB = false)
    (hz : 3 ≤ s.size)
    (c0 : UInt8) (e0 : s[(0 : Nat)]'(by omega) = c0) (b0 : ((c0.toNat : Int) == 62) = false)
    (cl : UInt8) (el : s[s.size - 1]'(by omega) = cl) (bl : ((cl.toNat : Int) == 45) = false)
    (q2 : ByteArray) (e2 : s.extract 0 2 = q2) (b2 : (q2.toList == [45, 62]) = false)
    (q3 : ByteArray) (e3 : s.extract (s.size - 3) s.size = q3) (b3 : (q3.toList == [45, 45, 33]) = true) :
    Calls Try.prog 5 #[.string s, .string u] w fun e w' => e = .returned (.bool true) ∧ Below w.heap.size w w' := by
  have HM := Lib.hid hm
  have A1 := Lib.hid a1
  have A2 := Lib.hid a2
  have hil : ∀ w : World, (Instr.index 9 (.string s) (.int .i64 ((s.size : Int) - 1))).run Try.prog w = .ok (.int .u8 (cl.toNat : Int)) w := fun w => by
    rw [Try.index_strI s ((s.size : Int) - 1) (s.size - 1) (by omega) (by omega) w, el]
  have hs3 : ∀ w : World, (Instr.slice 9 (.string s) (some (.int .i64 ((s.size : Int) - 3))) none none).run Try.prog w = .ok (.string q3) w := fun w => by
    rw [run_slice_string_l w 9 s Try.underlying9 .i64 ((s.size : Int) - 3) (by omega) (by omega), ← e3, show ((s.size : Int) - 3).toNat = s.size - 3 from by omega]
  have h2i : (2 : Int) ≤ (s.size : Int) := by omega
  clear hm a1 a2 el e3
  go_enter Try.func5, Try.ntmps5
  go_wp2_with fail
  refine (Try.known_any m _ HM.out).mono ?_
  rintro e w1 ⟨rfl, hb⟩
  have HB1 := Lib.hid hb
  have HM1 := Lib.hid (Try.keep0 HM.out hb)
  clear hb
  go_wp2_with fail
  refine (Try.has_is s ⟨#[45, 45, 62]⟩ false _ (by omega) (by decide) A1.out).mono ?_
  rintro e w' ⟨rfl, rfl⟩
  go_wp2_with fail
  refine (Try.has_is s ⟨#[45, 45, 33, 62]⟩ false _ (by omega) (by decide) A2.out).mono ?_
  rintro e w' ⟨rfl, rfl⟩
  go_wp2
  go_ret
  exact ⟨rfl, HB1.out⟩

end Go.Proofs
