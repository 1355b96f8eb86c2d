/- NoteReads and NoteAll return true for every input: the walks. -/
import Derived.Test.YthbeoddbgcdpnaaWalkNoteT
namespace Go.Proofs
open Go.RowKit
set_option linter.unusedSimpArgs false
set_option linter.unusedVariables false

/-- a token lies in block b, all of it -/
def Try.Tok5 (w : World) (b : Nat) (k : Int) (t : ByteArray) : Prop :=
  b < w.heap.size ∧ w.cell? ⟨b, 0, none⟩ = some (.int .u8 k) ∧ w.cell? ⟨b, 1, none⟩ = some (.string ⟨#[]⟩) ∧ w.cell? ⟨b, 2, none⟩ = some (.slice none 0 0) ∧ w.cell? ⟨b, 3, none⟩ = some (.bool false) ∧ w.cell? ⟨b, 4, none⟩ = some (.string t)

theorem Try.Tok5.below {w w' : World} {b B : Nat} {k : Int} {t : ByteArray} (h : Try.Tok5 w b k t) (hb : Below B w w') (hB : b < B) : Try.Tok5 w' b k t := by
  refine ⟨Nat.lt_of_lt_of_le h.1 hb.size, ?_, ?_, ?_, ?_, ?_⟩
  · rw [hb.cell (p := ⟨b, 0, none⟩) hB]; exact h.2.1
  · rw [hb.cell (p := ⟨b, 1, none⟩) hB]; exact h.2.2.1
  · rw [hb.cell (p := ⟨b, 2, none⟩) hB]; exact h.2.2.2.1
  · rw [hb.cell (p := ⟨b, 3, none⟩) hB]; exact h.2.2.2.2.1
  · rw [hb.cell (p := ⟨b, 4, none⟩) hB]; exact h.2.2.2.2.2

theorem Try.Tok5.alloc {w : World} {b : Nat} {k : Int} {t : ByteArray} (h : Try.Tok5 w b k t) (o : Obj) : Try.Tok5 (w.alloc o) b k t :=
  h.below ((Below.refl w.heap.size w).alloc (Nat.le_refl _) o) h.1

theorem Try.Tok5.new (w : World) (k : Int) (t : ByteArray) (T : TypeId) : Try.Tok5 (w.alloc (.cells #[.int .u8 k, .string ⟨#[]⟩, .slice none 0 0, .bool false, .string t] T)) w.heap.size k t := by
  refine ⟨by simp, ?_, ?_, ?_, ?_, ?_⟩ <;> simp

set_option maxHeartbeats 400000 in
theorem Try.noteReads_far (s : ByteArray) (i : Int) (cd : Bool) (w : World) (hs : 3000 < s.size) (hm : s.size ≤ maxLen) :
    Calls Try.prog 3 #[.string s, .int .i64 i, .bool cd] w fun e w' => e = .returned (.bool true) ∧ Below w.heap.size w w' := by
  unfold maxLen at hm
  go_enter Try.func3, Try.ntmps3
  go_wp2
  go_ret
  exact ⟨rfl, Below.refl _ _⟩

set_option maxHeartbeats 1600000 in
theorem Try.noteReads_near (s : ByteArray) (i : Int) (cd : Bool) (m : Int) (w : World) (hs : s.size ≤ 3000) (hi0 : -9223372036854775808 ≤ i) (hi1 : i ≤ 9223372036854775807)
    (hm : w.cell? ⟨0, 0, none⟩ = some (.int .i64 m)) :
    Calls Try.prog 3 #[.string s, .int .i64 i, .bool cd] w fun e w' => e = .returned (.bool true) ∧ Below w.heap.size w w' := by
  obtain ⟨kd, tx, n, hP, hR⟩ : ∃ (kd : Nat) (tx : List UInt8) (n : Int),
      Hid (∀ w, w.cell? ⟨0, 0, none⟩ = some (.int .i64 m) → Calls Try.prog 7 #[.string s, .int .i64 i, .bool cd] w fun e w' => Try.RetTok kd tx n e ∧ Below w.heap.size w w') ∧
      Hid (∀ w, Calls Try.prog 8 #[.string s, .int .i64 i, .bool cd] w fun e w' => Try.RetTok kd tx n e ∧ Below w.heap.size w w') :=
    ⟨_, _, _, Lib.hid (fun w hm => Try.read_any s i cd m w (by omega) hi0 hi1 hm), Lib.hid (fun w => Try.readRef_any s i cd w (by omega) hi0 hi1)⟩
  have HM := Lib.hid hm
  clear hm
  go_enter Try.func3, Try.ntmps3
  go_wp2_with fail
  refine (hP.out _ HM.out).mono ?_
  rintro e w1 ⟨⟨t, rfl, ht⟩, hb⟩
  have HB1 := Lib.hid hb
  have HM1 := Lib.hid (Try.keep0 HM.out hb)
  have HT := Lib.hid ht
  clear hb ht
  go_wp2_with fail
  refine (hR.out _).mono ?_
  rintro e w2 ⟨⟨u, rfl, hu⟩, hb⟩
  have T1 := Lib.hid ((Try.Tok5.new w1 kd t 24).below hb (by simp))
  have HB2 := Lib.hid (HB1.out.trans ((Try.belowNew hb).mono HB1.out.size))
  have HM2 := Lib.hid (Try.keep0 HM1.out (Try.belowNew hb))
  have HU := Lib.hid hu
  clear hb hu
  go_wp2_with fail
  refine (Try.known_any m _ (Try.keep0 HM2.out ((Below.refl _ _).alloc (Nat.le_refl _) _))).mono ?_
  rintro e w3 ⟨rfl, hb⟩
  have T1' := Lib.hid ((T1.out.alloc _).below hb (by have := T1.out.1; simp; omega))
  have T2 := Lib.hid ((Try.Tok5.new w2 kd u 24).below hb (by simp))
  have HB3 := Lib.hid (HB2.out.trans ((Try.belowNew hb).mono HB2.out.size))
  clear hb
  obtain ⟨za, a0, a1, a2, a3, a4⟩ := T1'.out
  obtain ⟨zb, b0, b1, b2, b3, b4⟩ := T2.out
  have HEQ : Hid ((t.toList == u.toList) = true) := by
    have e : (t.toList == u.toList) = true := by rw [Lib.toList_data, Lib.toList_data, HT.out, HU.out]; simp
    exact e
  go_wp2_with fail
  refine (Try.sameToken_eq kd t u _ HEQ.out).mono ?_
  rintro e w4 ⟨rfl, hb⟩
  have HB4 := Lib.hid (HB3.out.trans (hb.mono HB3.out.size))
  clear hb
  go_wp2_with fail
  refine (Try.begins_any s i _ (by omega) hi0 hi1).mono ?_
  rintro e w' ⟨rfl, rfl⟩
  go_wp2_with fail
  refine (Try.beginsRef_any s i _ (by omega) hi0 hi1).mono ?_
  rintro e w' ⟨rfl, rfl⟩
  go_wp2
  go_ret
  exact ⟨rfl, HB4.out⟩

theorem Try.noteReads_any (s : ByteArray) (i : Int) (cd : Bool) (m : Int) (w : World) (hs : s.size ≤ maxLen) (hi0 : -9223372036854775808 ≤ i) (hi1 : i ≤ 9223372036854775807)
    (hm : w.cell? ⟨0, 0, none⟩ = some (.int .i64 m)) :
    Calls Try.prog 3 #[.string s, .int .i64 i, .bool cd] w fun e w' => e = .returned (.bool true) ∧ Below w.heap.size w w' := by
  by_cases h : 3000 < s.size
  · exact Try.noteReads_far s i cd w h hs
  · exact Try.noteReads_near s i cd m w (by omega) hi0 hi1 hm

set_option maxHeartbeats 400000 in
theorem Try.noteAll_far (s : ByteArray) (cd : Bool) (w : World) (hs : 750 < s.size) (hm : s.size ≤ maxLen) :
    Calls Try.prog 4 #[.string s, .bool cd] w fun e w' => e = .returned (.bool true) ∧ Below w.heap.size w w' := by
  unfold maxLen at hm
  go_enter Try.func4, Try.ntmps4
  go_wp2
  go_ret
  exact ⟨rfl, Below.refl _ _⟩

set_option maxHeartbeats 1600000 in
theorem Try.noteAll_near (s : ByteArray) (cd : Bool) (m : Int) (w : World) (hs : s.size ≤ 750)
    (hm : w.cell? ⟨0, 0, none⟩ = some (.int .i64 m)) :
    Calls Try.prog 4 #[.string s, .bool cd] w fun e w' => e = .returned (.bool true) ∧ Below w.heap.size w w' := by
  have HM := Lib.hid hm
  clear hm
  go_enter Try.func4, Try.ntmps4
  go_wp2
  go_loopw [5] (fun i wr => ∃ k : Nat, k ≤ s.size ∧ i = .int .i64 k ∧ Below w.heap.size w wr) (fun i _ => s.size - (intOf i).toNat)
  case atStart => exact ⟨0, Nat.zero_le _, rfl, Below.refl _ _⟩
  case round =>
    obtain ⟨k, hk, rfl, hb⟩ := hrel
    have HB := Lib.hid hb
    have HMr := Lib.hid (Try.keep0 HM.out hb)
    clear hb
    by_cases hlt : k < s.size
    · obtain ⟨c, hc⟩ : ∃ c, s[k] = c := ⟨_, rfl⟩
      cases h60 : ((c.toNat : Int) != 60) with
      | true =>
        go_wp2
        go_roundw
        case rel => exact ⟨k + 1, by omega, by go_num, HB.out⟩
        case measure => simp [intOf]; omega
      | false =>
        go_wp2_with fail
        refine (Try.noteReads_any s k cd m _ (by unfold maxLen; omega) (by omega) (by omega) HMr.out).mono ?_
        rintro e w1 ⟨rfl, hb⟩
        have HB1 := Lib.hid (HB.out.trans (hb.mono HB.out.size))
        clear hb
        go_wp2
        go_roundw
        case rel => exact ⟨k + 1, by omega, by go_num, HB1.out⟩
        case measure => simp [intOf]; omega
    · obtain rfl : k = s.size := by omega
      go_wp2_with fail
      refine (Try.known_any m _ HMr.out).mono ?_
      rintro e w1 ⟨rfl, hb⟩
      have HB1 := Lib.hid (HB.out.trans (hb.mono HB.out.size))
      clear hb
      go_wp2
      go_ret
      exact ⟨rfl, HB1.out⟩

theorem Try.noteAll_any (s : ByteArray) (cd : Bool) (m : Int) (w : World) (hs : s.size ≤ maxLen)
    (hm : w.cell? ⟨0, 0, none⟩ = some (.int .i64 m)) :
    Calls Try.prog 4 #[.string s, .bool cd] w fun e w' => e = .returned (.bool true) ∧ Below w.heap.size w w' := by
  by_cases h : 750 < s.size
  · exact Try.noteAll_far s cd w h hs
  · exact Try.noteAll_near s cd m w (by omega) hm
end Go.Proofs
