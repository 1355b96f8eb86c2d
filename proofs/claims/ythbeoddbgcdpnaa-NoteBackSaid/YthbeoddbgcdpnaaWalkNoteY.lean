/- NoteBack returns true for every input: the walk. -/
import Derived.Test.YthbeoddbgcdpnaaWalkNoteX
namespace Go.Proofs
open Go.RowKit
set_option linter.unusedSimpArgs false
set_option linter.unusedVariables false

set_option maxHeartbeats 1600000 in
theorem Try.noteBack_ok0 (s u : ByteArray) (m : Int) (w : World) (hs : s.size ≤ 3000) (hu : u.size ≤ 3000)
    (hm : w.cell? ⟨0, 0, none⟩ = some (.int .i64 m))
    (a1 : Lib.contains s.data.toList Ty.endA = false)
    (a2 : Lib.contains s.data.toList Ty.endB = false)
    (hz : s.size = 0)
    (hread : Ty.read (Ty.sNote ++ (s.data.toList ++ (Ty.endA ++ u.data.toList))) 0 false = (4, s.data.toList, ((s.data.toList.length + 7 : Nat) : Int))) :
    Calls Try.prog 5 #[.string s, .string u] w fun e w' => e = .returned (.bool true) ∧ Below w.heap.size w w' := by
  have HM := Lib.hid hm
  have A1 := Lib.hid a1
  have A2 := Lib.hid a2
  obtain ⟨y1, hy1⟩ : ∃ y : ByteArray, (⟨#[60, 33, 45, 45]⟩ : ByteArray) ++ s = y := ⟨_, rfl⟩
  have z1 : y1.size = 4 + s.size := by rw [← hy1, ByteArray.size_append]; rfl
  obtain ⟨y2, hy2⟩ : ∃ y : ByteArray, y1 ++ (⟨#[45, 45, 62]⟩ : ByteArray) = y := ⟨_, rfl⟩
  have z2 : y2.size = y1.size + 3 := by rw [← hy2, ByteArray.size_append]; rfl
  obtain ⟨y3, hy3⟩ : ∃ y : ByteArray, y2 ++ u = y := ⟨_, rfl⟩
  have z3 : y3.size = y2.size + u.size := by rw [← hy3, ByteArray.size_append]
  have hadd1 : ∀ w : World, (Op.stringOp .add (⟨#[60, 33, 45, 45]⟩ : ByteArray) s).run Try.prog w = .ok (.string y1) w := fun w => by
    rw [run_string_add_sum w _ _ (by show 4 + s.size ≤ _; omega), hy1]
  have hadd2 : ∀ w : World, (Op.stringOp .add y1 (⟨#[45, 45, 62]⟩ : ByteArray)).run Try.prog w = .ok (.string y2) w := fun w => by
    rw [run_string_add_sum w _ _ (by show y1.size + 3 ≤ _; omega), hy2]
  have hadd3 : ∀ w : World, (Op.stringOp .add y2 u).run Try.prog w = .ok (.string y3) w := fun w => by
    rw [run_string_add_sum w _ _ (by omega), hy3]
  have hyl : y3.data.toList = Ty.sNote ++ (s.data.toList ++ (Ty.endA ++ u.data.toList)) := by
    rw [← hy3, ← hy2, ← hy1, Try.append_data, Try.append_data, Try.append_data]
    simp [Ty.sNote, Ty.endA]
  have HR : Hid (∀ w, w.cell? ⟨0, 0, none⟩ = some (.int .i64 m) → Calls Try.prog 7 #[.string y3, .int .i64 0, .bool false] w fun e w' => e = .returned (.tuple #[.agg #[.int .u8 4, .string ⟨#[]⟩, .slice none 0 0, .bool false, .string s], .int .i64 ((s.size : Int) + 7)]) ∧ Below w.heap.size w w') := fun w hm => by
    have hh := Try.read_is y3 0 false 4 s.data.toList ((s.data.toList.length + 7 : Nat) : Int) m w (by omega) (by omega) (by omega) hm (by rw [hyl]; exact hread)
    rw [Lib.mk_data, ← Lib.size_eq, show ((s.size + 7 : Nat) : Int) = (s.size : Int) + 7 from by omega] at hh
    exact hh
  clear hm a1 a2 hy1 hy2 hy3 z1 z2 z3 hyl hread
  go_enter Try.func5, Try.ntmps5
  go_wp2_with fail
  refine (Try.known_any m _ HM.out).mono ?_
  rintro e w1 ⟨rfl, hb⟩
  have HB1 := Lib.hid hb
  have HM1 := Lib.hid (Try.keep0 HM.out hb)
  clear hb
  go_wp2_with fail
  refine (Try.has_is s ⟨#[45, 45, 62]⟩ false _ (by omega) (by decide) A1.out).mono ?_
  rintro e w' ⟨rfl, rfl⟩
  go_wp2_with fail
  refine (Try.has_is s ⟨#[45, 45, 33, 62]⟩ false _ (by omega) (by decide) A2.out).mono ?_
  rintro e w' ⟨rfl, rfl⟩
  go_wp2_with fail
  refine (HR.out _ HM1.out).mono ?_
  rintro e w2 ⟨rfl, hb⟩
  have HB2 := Lib.hid (HB1.out.trans (hb.mono HB1.out.size))
  clear hb
  go_wp2
  go_ret
  exact ⟨rfl, HB2.out.alloc HB2.out.size _⟩

set_option maxHeartbeats 1600000 in
theorem Try.noteBack_ok1 (s u : ByteArray) (m : Int) (w : World) (hs : s.size ≤ 3000) (hu : u.size ≤ 3000)
    (hm : w.cell? ⟨0, 0, none⟩ = some (.int .i64 m))
    (a1 : Lib.contains s.data.toList Ty.endA = false)
    (a2 : Lib.contains s.data.toList Ty.endB = false)
    (hz : 1 ≤ s.size) (hz' : s.size ≤ 1)
    (c0 : UInt8) (e0 : s[(0 : Nat)]'(by omega) = c0) (b0 : ((c0.toNat : Int) == 62) = false)
    (cl : UInt8) (el : s[s.size - 1]'(by omega) = cl) (bl : ((cl.toNat : Int) == 45) = false)
    (hread : Ty.read (Ty.sNote ++ (s.data.toList ++ (Ty.endA ++ u.data.toList))) 0 false = (4, s.data.toList, ((s.data.toList.length + 7 : Nat) : Int))) :
    Calls Try.prog 5 #[.string s, .string u] w fun e w' => e = .returned (.bool true) ∧ Below w.heap.size w w' := by
  have HM := Lib.hid hm
  have A1 := Lib.hid a1
  have A2 := Lib.hid a2
  have hil : ∀ w : World, (Instr.index 9 (.string s) (.int .i64 ((s.size : Int) - 1))).run Try.prog w = .ok (.int .u8 (cl.toNat : Int)) w := fun w => by
    rw [Try.index_strI s ((s.size : Int) - 1) (s.size - 1) (by omega) (by omega) w, el]
  obtain ⟨y1, hy1⟩ : ∃ y : ByteArray, (⟨#[60, 33, 45, 45]⟩ : ByteArray) ++ s = y := ⟨_, rfl⟩
  have z1 : y1.size = 4 + s.size := by rw [← hy1, ByteArray.size_append]; rfl
  obtain ⟨y2, hy2⟩ : ∃ y : ByteArray, y1 ++ (⟨#[45, 45, 62]⟩ : ByteArray) = y := ⟨_, rfl⟩
  have z2 : y2.size = y1.size + 3 := by rw [← hy2, ByteArray.size_append]; rfl
  obtain ⟨y3, hy3⟩ : ∃ y : ByteArray, y2 ++ u = y := ⟨_, rfl⟩
  have z3 : y3.size = y2.size + u.size := by rw [← hy3, ByteArray.size_append]
  have hadd1 : ∀ w : World, (Op.stringOp .add (⟨#[60, 33, 45, 45]⟩ : ByteArray) s).run Try.prog w = .ok (.string y1) w := fun w => by
    rw [run_string_add_sum w _ _ (by show 4 + s.size ≤ _; omega), hy1]
  have hadd2 : ∀ w : World, (Op.stringOp .add y1 (⟨#[45, 45, 62]⟩ : ByteArray)).run Try.prog w = .ok (.string y2) w := fun w => by
    rw [run_string_add_sum w _ _ (by show y1.size + 3 ≤ _; omega), hy2]
  have hadd3 : ∀ w : World, (Op.stringOp .add y2 u).run Try.prog w = .ok (.string y3) w := fun w => by
    rw [run_string_add_sum w _ _ (by omega), hy3]
  have hyl : y3.data.toList = Ty.sNote ++ (s.data.toList ++ (Ty.endA ++ u.data.toList)) := by
    rw [← hy3, ← hy2, ← hy1, Try.append_data, Try.append_data, Try.append_data]
    simp [Ty.sNote, Ty.endA]
  have HR : Hid (∀ w, w.cell? ⟨0, 0, none⟩ = some (.int .i64 m) → Calls Try.prog 7 #[.string y3, .int .i64 0, .bool false] w fun e w' => e = .returned (.tuple #[.agg #[.int .u8 4, .string ⟨#[]⟩, .slice none 0 0, .bool false, .string s], .int .i64 ((s.size : Int) + 7)]) ∧ Below w.heap.size w w') := fun w hm => by
    have hh := Try.read_is y3 0 false 4 s.data.toList ((s.data.toList.length + 7 : Nat) : Int) m w (by omega) (by omega) (by omega) hm (by rw [hyl]; exact hread)
    rw [Lib.mk_data, ← Lib.size_eq, show ((s.size + 7 : Nat) : Int) = (s.size : Int) + 7 from by omega] at hh
    exact hh
  clear hm a1 a2 el hy1 hy2 hy3 z1 z2 z3 hyl hread
  go_enter Try.func5, Try.ntmps5
  go_wp2_with fail
  refine (Try.known_any m _ HM.out).mono ?_
  rintro e w1 ⟨rfl, hb⟩
  have HB1 := Lib.hid hb
  have HM1 := Lib.hid (Try.keep0 HM.out hb)
  clear hb
  go_wp2_with fail
  refine (Try.has_is s ⟨#[45, 45, 62]⟩ false _ (by omega) (by decide) A1.out).mono ?_
  rintro e w' ⟨rfl, rfl⟩
  go_wp2_with fail
  refine (Try.has_is s ⟨#[45, 45, 33, 62]⟩ false _ (by omega) (by decide) A2.out).mono ?_
  rintro e w' ⟨rfl, rfl⟩
  go_wp2_with fail
  refine (HR.out _ HM1.out).mono ?_
  rintro e w2 ⟨rfl, hb⟩
  have HB2 := Lib.hid (HB1.out.trans (hb.mono HB1.out.size))
  clear hb
  go_wp2
  go_ret
  exact ⟨rfl, HB2.out.alloc HB2.out.size _⟩

set_option maxHeartbeats 1600000 in
theorem Try.noteBack_ok2 (s u : ByteArray) (m : Int) (w : World) (hs : s.size ≤ 3000) (hu : u.size ≤ 3000)
    (hm : w.cell? ⟨0, 0, none⟩ = some (.int .i64 m))
    (a1 : Lib.contains s.data.toList Ty.endA = false)
    (a2 : Lib.contains s.data.toList Ty.endB = false)
    (hz : 2 ≤ s.size) (hz' : s.size ≤ 2)
    (c0 : UInt8) (e0 : s[(0 : Nat)]'(by omega) = c0) (b0 : ((c0.toNat : Int) == 62) = false)
    (cl : UInt8) (el : s[s.size - 1]'(by omega) = cl) (bl : ((cl.toNat : Int) == 45) = false)
    (q2 : ByteArray) (e2 : s.extract 0 2 = q2) (b2 : (q2.toList == [45, 62]) = false)
    (hread : Ty.read (Ty.sNote ++ (s.data.toList ++ (Ty.endA ++ u.data.toList))) 0 false = (4, s.data.toList, ((s.data.toList.length + 7 : Nat) : Int))) :
    Calls Try.prog 5 #[.string s, .string u] w fun e w' => e = .returned (.bool true) ∧ Below w.heap.size w w' := by
  have HM := Lib.hid hm
  have A1 := Lib.hid a1
  have A2 := Lib.hid a2
  have hil : ∀ w : World, (Instr.index 9 (.string s) (.int .i64 ((s.size : Int) - 1))).run Try.prog w = .ok (.int .u8 (cl.toNat : Int)) w := fun w => by
    rw [Try.index_strI s ((s.size : Int) - 1) (s.size - 1) (by omega) (by omega) w, el]
  have h2i : (2 : Int) ≤ (s.size : Int) := by omega
  obtain ⟨y1, hy1⟩ : ∃ y : ByteArray, (⟨#[60, 33, 45, 45]⟩ : ByteArray) ++ s = y := ⟨_, rfl⟩
  have z1 : y1.size = 4 + s.size := by rw [← hy1, ByteArray.size_append]; rfl
  obtain ⟨y2, hy2⟩ : ∃ y : ByteArray, y1 ++ (⟨#[45, 45, 62]⟩ : ByteArray) = y := ⟨_, rfl⟩
  have z2 : y2.size = y1.size + 3 := by rw [← hy2, ByteArray.size_append]; rfl
  obtain ⟨y3, hy3⟩ : ∃ y : ByteArray, y2 ++ u = y := ⟨_, rfl⟩
  have z3 : y3.size = y2.size + u.size := by rw [← hy3, ByteArray.size_append]
  have hadd1 : ∀ w : World, (Op.stringOp .add (⟨#[60, 33, 45, 45]⟩ : ByteArray) s).run Try.prog w = .ok (.string y1) w := fun w => by
    rw [run_string_add_sum w _ _ (by show 4 + s.size ≤ _; omega), hy1]
  have hadd2 : ∀ w : World, (Op.stringOp .add y1 (⟨#[45, 45, 62]⟩ : ByteArray)).run Try.prog w = .ok (.string y2) w := fun w => by
    rw [run_string_add_sum w _ _ (by show y1.size + 3 ≤ _; omega), hy2]
  have hadd3 : ∀ w : World, (Op.stringOp .add y2 u).run Try.prog w = .ok (.string y3) w := fun w => by
    rw [run_string_add_sum w _ _ (by omega), hy3]
  have hyl : y3.data.toList = Ty.sNote ++ (s.data.toList ++ (Ty.endA ++ u.data.toList)) := by
    rw [← hy3, ← hy2, ← hy1, Try.append_data, Try.append_data, Try.append_data]
    simp [Ty.sNote, Ty.endA]
  have HR : Hid (∀ w, w.cell? ⟨0, 0, none⟩ = some (.int .i64 m) → Calls Try.prog 7 #[.string y3, .int .i64 0, .bool false] w fun e w' => e = .returned (.tuple #[.agg #[.int .u8 4, .string ⟨#[]⟩, .slice none 0 0, .bool false, .string s], .int .i64 ((s.size : Int) + 7)]) ∧ Below w.heap.size w w') := fun w hm => by
    have hh := Try.read_is y3 0 false 4 s.data.toList ((s.data.toList.length + 7 : Nat) : Int) m w (by omega) (by omega) (by omega) hm (by rw [hyl]; exact hread)
    rw [Lib.mk_data, ← Lib.size_eq, show ((s.size + 7 : Nat) : Int) = (s.size : Int) + 7 from by omega] at hh
    exact hh
  clear hm a1 a2 el hy1 hy2 hy3 z1 z2 z3 hyl hread
  go_enter Try.func5, Try.ntmps5
  go_wp2_with fail
  refine (Try.known_any m _ HM.out).mono ?_
  rintro e w1 ⟨rfl, hb⟩
  have HB1 := Lib.hid hb
  have HM1 := Lib.hid (Try.keep0 HM.out hb)
  clear hb
  go_wp2_with fail
  refine (Try.has_is s ⟨#[45, 45, 62]⟩ false _ (by omega) (by decide) A1.out).mono ?_
  rintro e w' ⟨rfl, rfl⟩
  go_wp2_with fail
  refine (Try.has_is s ⟨#[45, 45, 33, 62]⟩ false _ (by omega) (by decide) A2.out).mono ?_
  rintro e w' ⟨rfl, rfl⟩
  go_wp2_with fail
  refine (HR.out _ HM1.out).mono ?_
  rintro e w2 ⟨rfl, hb⟩
  have HB2 := Lib.hid (HB1.out.trans (hb.mono HB1.out.size))
  clear hb
  go_wp2
  go_ret
  exact ⟨rfl, HB2.out.alloc HB2.out.size _⟩

set_option maxHeartbeats 1600000 in
theorem Try.noteBack_ok3 (s u : ByteArray) (m : Int) (w : World) (hs : s.size ≤ 3000) (hu : u.size ≤ 3000)
    (hm : w.cell? ⟨0, 0, none⟩ = some (.int .i64 m))
    (a1 : Lib.contains s.data.toList Ty.endA = false)
    (a2 : Lib.contains s.data.toList Ty.endB = false)
    (hz : 3 ≤ s.size)
    (c0 : UInt8) (e0 : s[(0 : Nat)]'(by omega) = c0) (b0 : ((c0.toNat : Int) == 62) = false)
    (cl : UInt8) (el : s[s.size - 1]'(by omega) = cl) (bl : ((cl.toNat : Int) == 45) = false)
    (q2 : ByteArray) (e2 : s.extract 0 2 = q2) (b2 : (q2.toList == [45, 62]) = false)
    (q3 : ByteArray) (e3 : s.extract (s.size - 3) s.size = q3) (b3 : (q3.toList == [45, 45, 33]) = false)
    (hread : Ty.read (Ty.sNote ++ (s.data.toList ++ (Ty.endA ++ u.data.toList))) 0 false = (4, s.data.toList, ((s.data.toList.length + 7 : Nat) : Int))) :
    Calls Try.prog 5 #[.string s, .string u] w fun e w' => e = .returned (.bool true) ∧ Below w.heap.size w w' := by
  have HM := Lib.hid hm
  have A1 := Lib.hid a1
  have A2 := Lib.hid a2
  have hil : ∀ w : World, (Instr.index 9 (.string s) (.int .i64 ((s.size : Int) - 1))).run Try.prog w = .ok (.int .u8 (cl.toNat : Int)) w := fun w => by
    rw [Try.index_strI s ((s.size : Int) - 1) (s.size - 1) (by omega) (by omega) w, el]
  have hs3 : ∀ w : World, (Instr.slice 9 (.string s) (some (.int .i64 ((s.size : Int) - 3))) none none).run Try.prog w = .ok (.string q3) w := fun w => by
    rw [run_slice_string_l w 9 s Try.underlying9 .i64 ((s.size : Int) - 3) (by omega) (by omega), ← e3, show ((s.size : Int) - 3).toNat = s.size - 3 from by omega]
  have h2i : (2 : Int) ≤ (s.size : Int) := by omega
  obtain ⟨y1, hy1⟩ : ∃ y : ByteArray, (⟨#[60, 33, 45, 45]⟩ : ByteArray) ++ s = y := ⟨_, rfl⟩
  have z1 : y1.size = 4 + s.size := by rw [← hy1, ByteArray.size_append]; rfl
  obtain ⟨y2, hy2⟩ : ∃ y : ByteArray, y1 ++ (⟨#[45, 45, 62]⟩ : ByteArray) = y := ⟨_, rfl⟩
  have z2 : y2.size = y1.size + 3 := by rw [← hy2, ByteArray.size_append]; rfl
  obtain ⟨y3, hy3⟩ : ∃ y : ByteArray, y2 ++ u = y := ⟨_, rfl⟩
  have z3 : y3.size = y2.size + u.size := by rw [← hy3, ByteArray.size_append]
  have hadd1 : ∀ w : World, (Op.stringOp .add (⟨#[60, 33, 45, 45]⟩ : ByteArray) s).run Try.prog w = .ok (.string y1) w := fun w => by
    rw [run_string_add_sum w _ _ (by show 4 + s.size ≤ _; omega), hy1]
  have hadd2 : ∀ w : World, (Op.stringOp .add y1 (⟨#[45, 45, 62]⟩ : ByteArray)).run Try.prog w = .ok (.string y2) w := fun w => by
    rw [run_string_add_sum w _ _ (by show y1.size + 3 ≤ _; omega), hy2]
  have hadd3 : ∀ w : World, (Op.stringOp .add y2 u).run Try.prog w = .ok (.string y3) w := fun w => by
    rw [run_string_add_sum w _ _ (by omega), hy3]
  have hyl : y3.data.toList = Ty.sNote ++ (s.data.toList ++ (Ty.endA ++ u.data.toList)) := by
    rw [← hy3, ← hy2, ← hy1, Try.append_data, Try.append_data, Try.append_data]
    simp [Ty.sNote, Ty.endA]
  have HR : Hid (∀ w, w.cell? ⟨0, 0, none⟩ = some (.int .i64 m) → Calls Try.prog 7 #[.string y3, .int .i64 0, .bool false] w fun e w' => e = .returned (.tuple #[.agg #[.int .u8 4, .string ⟨#[]⟩, .slice none 0 0, .bool false, .string s], .int .i64 ((s.size : Int) + 7)]) ∧ Below w.heap.size w w') := fun w hm => by
    have hh := Try.read_is y3 0 false 4 s.data.toList ((s.data.toList.length + 7 : Nat) : Int) m w (by omega) (by omega) (by omega) hm (by rw [hyl]; exact hread)
    rw [Lib.mk_data, ← Lib.size_eq, show ((s.size + 7 : Nat) : Int) = (s.size : Int) + 7 from by omega] at hh
    exact hh
  clear hm a1 a2 el e3 hy1 hy2 hy3 z1 z2 z3 hyl hread
  go_enter Try.func5, Try.ntmps5
  go_wp2_with fail
  refine (Try.known_any m _ HM.out).mono ?_
  rintro e w1 ⟨rfl, hb⟩
  have HB1 := Lib.hid hb
  have HM1 := Lib.hid (Try.keep0 HM.out hb)
  clear hb
  go_wp2_with fail
  refine (Try.has_is s ⟨#[45, 45, 62]⟩ false _ (by omega) (by decide) A1.out).mono ?_
  rintro e w' ⟨rfl, rfl⟩
  go_wp2_with fail
  refine (Try.has_is s ⟨#[45, 45, 33, 62]⟩ false _ (by omega) (by decide) A2.out).mono ?_
  rintro e w' ⟨rfl, rfl⟩
  go_wp2_with fail
  refine (HR.out _ HM1.out).mono ?_
  rintro e w2 ⟨rfl, hb⟩
  have HB2 := Lib.hid (HB1.out.trans (hb.mono HB1.out.size))
  clear hb
  go_wp2
  go_ret
  exact ⟨rfl, HB2.out.alloc HB2.out.size _⟩

theorem Try.noteBack_any (s u : ByteArray) (m : Int) (w : World) (hs : s.size ≤ maxLen) (hu : u.size ≤ maxLen) (hm : w.cell? ⟨0, 0, none⟩ = some (.int .i64 m)) :
    Calls Try.prog 5 #[.string s, .string u] w fun e w' => e = .returned (.bool true) ∧ Below w.heap.size w w' := by
  have hmx : maxLen = 9223372036854775807 := rfl
  by_cases hf : 3000 < s.size ∨ (s.size ≤ 3000 ∧ 3000 < u.size)
  · exact Try.noteBack_far s u m w hf (by omega) (by omega) hm
  · have hs' : s.size ≤ 3000 := by omega
    have hu' : u.size ≤ 3000 := by omega
    have HL : s.data.toList.length = s.size := (Lib.size_eq s).symm
    cases a1 : Lib.contains s.data.toList Ty.endA with
    | true => exact Try.noteBack_c1 s u m w hs' hu' hm a1
    | false =>
      cases a2 : Lib.contains s.data.toList Ty.endB with
      | true => exact Try.noteBack_c2 s u m w hs' hu' hm a1 a2
      | false =>
        by_cases h0 : s.size = 0
        · refine Try.noteBack_ok0 s u m w hs' hu' hm a1 a2 h0 (Ty.readBack _ _ a1 a2 ?_ ?_ ?_ ?_)
          · rw [List.getElem?_eq_none (by omega)]; simp
          · intro h; omega
          · intro h; omega
          · rw [← Lib.hasSuffix_of_drop, decide_eq_false (by simp; omega), Bool.false_and]
        · have g0 : s.data.toList[0]? = some (s[(0 : Nat)]'(by omega)) := by rw [List.getElem?_eq_getElem (by omega)]; rfl
          have gl : s.data.toList[s.data.toList.length - 1]? = some (s[s.size - 1]'(by omega)) := by
            rw [show s.data.toList.length - 1 = s.size - 1 from by omega, List.getElem?_eq_getElem (by omega)]; rfl
          cases b0 : (((s[(0 : Nat)]'(by omega)).toNat : Int) == 62) with
          | true => exact Try.noteBack_t0 s u m w hs' hu' hm a1 a2 (by omega) _ rfl b0
          | false =>
            have n0 : s.data.toList[0]? ≠ some 62 := by rw [g0]; intro e; exact Try.byte_ne (n := 62) (by decide) b0 (by simpa using e)
            cases bl : (((s[s.size - 1]'(by omega)).toNat : Int) == 45) with
            | true => exact Try.noteBack_tl s u m w hs' hu' hm a1 a2 (by omega) _ rfl b0 _ rfl bl
            | false =>
              have nl : 0 < s.data.toList.length → s.data.toList[s.data.toList.length - 1]? ≠ some 45 := fun _ => by rw [gl]; intro e; exact Try.byte_ne (n := 45) (by decide) bl (by simpa using e)
              by_cases h1 : s.size = 1
              · refine Try.noteBack_ok1 s u m w hs' hu' hm a1 a2 (by omega) (by omega) _ rfl b0 _ rfl bl (Ty.readBack _ _ a1 a2 n0 nl ?_ ?_)
                · intro h; omega
                · rw [← Lib.hasSuffix_of_drop, decide_eq_false (by simp; omega), Bool.false_and]
              · cases b2 : ((s.extract 0 2).toList == [45, 62]) with
                | true => exact Try.noteBack_p2 s u m w hs' hu' hm a1 a2 (by omega) _ rfl b0 _ rfl bl _ rfl b2
                | false =>
                  have n2 : 1 < s.data.toList.length → s.data.toList.take 2 ≠ [45, 62] := fun _ => by
                    rw [Lib.toList_data, Try.take_list] at b2
                    simpa using b2
                  by_cases h2 : s.size = 2
                  · refine Try.noteBack_ok2 s u m w hs' hu' hm a1 a2 (by omega) (by omega) _ rfl b0 _ rfl bl _ rfl b2 (Ty.readBack _ _ a1 a2 n0 nl n2 ?_)
                    rw [← Lib.hasSuffix_of_drop, decide_eq_false (by simp; omega), Bool.false_and]
                  · cases b3 : ((s.extract (s.size - 3) s.size).toList == [45, 45, 33]) with
                    | true => exact Try.noteBack_p3 s u m w hs' hu' hm a1 a2 (by omega) _ rfl b0 _ rfl bl _ rfl b2 _ rfl b3
                    | false =>
                      refine Try.noteBack_ok3 s u m w hs' hu' hm a1 a2 (by omega) _ rfl b0 _ rfl bl _ rfl b2 _ rfl b3 (Ty.readBack _ _ a1 a2 n0 nl n2 ?_)
                      rw [← Try.suffix_of s _ [45, 45, 33] 3 rfl (by omega) rfl]
                      exact b3
end Go.Proofs
