/- NoteEnds returns true for every input: the walk. -/
import Derived.Test.YthbeoddbgcdpnaaWalkNoteV
import Derived.Deep.QuietTactic
import Derived.BigQuiet
namespace Go.Proofs
open Go.RowKit
set_option linter.unusedSimpArgs false
set_option linter.unusedVariables false

set_option maxHeartbeats 800000 in
theorem Try.noteEnds_far (s : ByteArray) (i : Int) (cd : Bool) (m : Int) (w : World) (hs : 3000 < s.size) (hmx : s.size ≤ maxLen)
    (hm : w.cell? ⟨0, 0, none⟩ = some (.int .i64 m)) :
    Calls Try.prog 6 #[.string s, .int .i64 i, .bool cd] w fun e w' => e = .returned (.bool true) ∧ Below w.heap.size w w' := by
  unfold maxLen at hmx
  have HM := Lib.hid hm
  clear hm
  go_enter Try.func6, Try.ntmps6
  go_wp2_with fail
  refine (Try.known_any m _ HM.out).mono ?_
  rintro e w1 ⟨rfl, hb⟩
  go_wp2
  go_ret
  exact ⟨rfl, hb⟩

set_option maxHeartbeats 1600000 in
theorem Try.noteEnds_no (s : ByteArray) (i : Int) (cd : Bool) (m : Int) (w : World) (hs : s.size ≤ 3000) (hi0 : -9223372036854775808 ≤ i) (hi1 : i ≤ 9223372036854775807)
    (hm : w.cell? ⟨0, 0, none⟩ = some (.int .i64 m)) (h0 : Ty.begins s.data.toList i = false) :
    Calls Try.prog 6 #[.string s, .int .i64 i, .bool cd] w fun e w' => e = .returned (.bool true) ∧ Below w.heap.size w w' := by
  have HM := Lib.hid hm
  have H0 := Lib.hid h0
  clear hm h0
  go_enter Try.func6, Try.ntmps6
  go_wp2_with fail
  refine (Try.known_any m _ HM.out).mono ?_
  rintro e w1 ⟨rfl, hb⟩
  have HB1 := Lib.hid hb
  clear hb
  go_wp2_with fail
  refine (Try.begins_is s i false _ (by omega) hi0 hi1 H0.out).mono ?_
  rintro e w' ⟨rfl, rfl⟩
  go_wp2_with fail
  refine (Try.read_r0 s i cd _ (by omega) hi0 hi1 H0.out).mono ?_
  rintro e w2 ⟨⟨t, rfl, ht⟩, hb⟩
  have HB2 := Lib.hid (HB1.out.trans (hb.mono HB1.out.size))
  clear hb ht
  go_wp2
  go_ret
  exact ⟨rfl, HB2.out.alloc HB2.out.size _⟩

set_option maxHeartbeats 1600000 in
theorem Try.noteEnds_yes (s : ByteArray) (k : Nat) (cd : Bool) (m : Int) (kd n : Int) (tx : List UInt8) (w : World) (hs : s.size ≤ 3000) (hk : k + 2 ≤ s.size)
    (hm : w.cell? ⟨0, 0, none⟩ = some (.int .i64 m)) (h0 : Ty.begins s.data.toList k = true)
    (hR : ∀ w, w.cell? ⟨0, 0, none⟩ = some (.int .i64 m) → Calls Try.prog 7 #[.string s, .int .i64 k, .bool cd] w fun e w' => Try.RetTok kd tx n e ∧ Below w.heap.size w w')
    (k2 : (kd == 2) = false) (k3 : (kd == 3) = false) (k6 : (kd == 6) = false) (n1 : (k : Int) + 1 < n) (n2 : n ≤ s.size)
    (htx : tx = [] ∨ Lib.contains ((s.data.toList.drop k).take (n.toNat - k)) tx = true) :
    Calls Try.prog 6 #[.string s, .int .i64 k, .bool cd] w fun e w' => e = .returned (.bool true) ∧ Below w.heap.size w w' := by
  have HM := Lib.hid hm
  have H0 := Lib.hid h0
  have HR := Lib.hid hR
  have HTX := Lib.hid htx
  have hsl : ∀ w : World, (Instr.slice 9 (.string s) (some (.int .i64 (k : Int))) (some (.int .i64 n)) none).run Try.prog w = .ok (.string (s.extract k n.toNat)) w := fun w => by
    rw [run_slice_string w 9 s .i64 .i64 (k : Int) n Try.underlying9 (by omega) (by omega) (by omega), Int.toNat_natCast]
  clear hm h0 hR htx
  go_enter Try.func6, Try.ntmps6
  go_wp2_with fail
  refine (Try.known_any m _ HM.out).mono ?_
  rintro e w1 ⟨rfl, hb⟩
  have HB1 := Lib.hid hb
  have HM1 := Lib.hid (Try.keep0 HM.out hb)
  clear hb
  go_wp2_with fail
  refine (Try.begins_is s k true _ (by omega) (by omega) (by omega) H0.out).mono ?_
  rintro e w' ⟨rfl, rfl⟩
  go_wp2_with fail
  refine (HR.out _ HM1.out).mono ?_
  rintro e w2 ⟨⟨t, rfl, ht⟩, hb⟩
  have HB2 := Lib.hid (HB1.out.trans (hb.mono HB1.out.size))
  have HT := Lib.hid ht
  clear hb ht
  cases he : (t.toList == []) with
  | true =>
    have he2 : t.toList.isEmpty = true := by simpa using he
    have he3 : t.toList = [] := by simpa using he
    go_wp2
    go_quiet (fail)
    go_wp2
    go_ret
    exact ⟨rfl, (by repeat' first | exact HB2.out.alloc HB2.out.size _ | (refine below_drewN ?_ _))⟩
  | false =>
    have he2 : t.toList.isEmpty = false := by simpa using he
    have hcon : Hid (Lib.contains (s.extract k n.toNat).data.toList t.data.toList = true) := by
      have e : Lib.contains (s.extract k n.toNat).data.toList t.data.toList = true := by
        rw [Lib.extract_data, HT.out]
        rcases HTX.out with h | h
        · rw [Lib.toList_data, HT.out, h] at he; exact absurd he (by decide)
        · exact h
      exact e
    have htz : t.size ≤ 3000 := by
      rw [Lib.size_eq, HT.out]
      rcases HTX.out with h | h
      · rw [h]; simp
      · unfold Lib.contains at h
        rw [decide_eq_true_eq] at h
        have hr := Lib.index_room _ _ h
        have hl : ((s.data.toList.drop k).take (n.toNat - k)).length ≤ s.data.toList.length := by rw [List.length_take, List.length_drop]; omega
        rw [← Lib.size_eq] at hl
        omega
    go_wp2
    go_quiet ((go_at_call 13; exact Calls.quiet_of_same (Try.has_is (s.extract k n.toNat) t true _ (by rw [ByteArray.size_extract]; omega) (by omega) hcon.out)))
    go_wp2
    go_ret
    exact ⟨rfl, (by repeat' first | exact HB2.out.alloc HB2.out.size _ | (refine below_drewN ?_ _))⟩

theorem Try.noteEnds_any (s : ByteArray) (i : Int) (cd : Bool) (m : Int) (w : World) (hs : s.size ≤ maxLen) (hi0 : -9223372036854775808 ≤ i) (hi1 : i ≤ 9223372036854775807)
    (hm : w.cell? ⟨0, 0, none⟩ = some (.int .i64 m)) :
    Calls Try.prog 6 #[.string s, .int .i64 i, .bool cd] w fun e w' => e = .returned (.bool true) ∧ Below w.heap.size w w' := by
  by_cases hfar : 3000 < s.size
  · exact Try.noteEnds_far s i cd m w hfar hs hm
  · cases h0 : Ty.begins s.data.toList i with
    | false => exact Try.noteEnds_no s i cd m w (by omega) hi0 hi1 hm h0
    | true =>
      obtain ⟨k, rfl, hk2⟩ := Try.begins_room h0
      rw [← Lib.size_eq] at hk2
      have e : Ty.read s.data.toList k cd = ((Ty.read1 (s.data.toList.drop k) cd).1, (Ty.read1 (s.data.toList.drop k) cd).2.1, (k : Int) + (Ty.read1 (s.data.toList.drop k) cd).2.2) := by
        unfold Ty.read; rw [h0, if_pos rfl, Int.toNat_natCast]
      have hr := fun w hm => Try.read_any s k cd m w (by omega) hi0 hi1 hm
      rw [e] at hr
      obtain ⟨h1, h2, h3, h4⟩ := Ty.read1_end (s.data.toList.drop k) cd (by rw [List.length_drop, ← Lib.size_eq]; omega)
      rw [List.length_drop, ← Lib.size_eq] at h3
      refine Try.noteEnds_yes s k cd m _ _ _ w (by omega) hk2 hm h0 hr ?_ ?_ ?_ (by simp only; omega) (by simp only; omega) (Or.inr ?_)
      · rcases h1 with h | h | h | h <;> rw [h] <;> decide
      · rcases h1 with h | h | h | h <;> rw [h] <;> decide
      · rcases h1 with h | h | h | h <;> rw [h] <;> decide
      · have hc := h4.contains (by rw [List.length_drop, ← Lib.size_eq]; exact h3)
        rw [show ((k : Int) + ((Ty.read1 (s.data.toList.drop k) cd).2.2 : Nat)).toNat - k = (Ty.read1 (s.data.toList.drop k) cd).2.2 from by omega]
        exact hc
end Go.Proofs
