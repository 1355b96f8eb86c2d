/- The contracts of SameAttrs (of nothing), SameToken and of the chapter's example (known). -/
import Derived.Test.YthbeoddbgcdpnaaWalkNoteS
namespace Go.Proofs
open Go.RowKit
set_option linter.unusedSimpArgs false
set_option linter.unusedVariables false

set_option maxHeartbeats 400000 in
theorem Try.sameAttrs_nil (w : World) :
    Calls Try.prog 22 #[.slice none 0 0, .slice none 0 0] w fun e w' => e = .returned (.bool true) ∧ w = w' := by
  go_enter Try.func22, Try.ntmps22
  go_wp2
  refine wp_loop_rounds 1 ?_
  rw [rounds_succ]
  go_wp2
  go_ret
  exact ⟨rfl, rfl⟩

set_option maxHeartbeats 800000 in
theorem Try.sameToken_eq (k : Int) (t u : ByteArray) (w : World) (h : (t.toList == u.toList) = true) :
    Calls Try.prog 10 #[.agg #[.int .u8 k, .string ⟨#[]⟩, .slice none 0 0, .bool false, .string t], .agg #[.int .u8 k, .string ⟨#[]⟩, .slice none 0 0, .bool false, .string u]] w
      fun e w' => e = .returned (.bool true) ∧ Below w.heap.size w w' := by
  go_enter Try.func10, Try.ntmps10
  go_wp2_with fail
  refine (Try.sameAttrs_nil _).mono ?_
  rintro e w' ⟨rfl, rfl⟩
  go_wp2
  go_ret
  exact ⟨rfl, ((Below.refl _ _).alloc (Nat.le_refl _) _).alloc (by simp) _⟩

/-- Read at a known place -/
theorem Try.read_is (s : ByteArray) (i : Int) (cd : Bool) (kind : Nat) (txt : List UInt8) (n m : Int) (w : World) (hs : s.size < 4294967281) (hi0 : -9223372036854775808 ≤ i) (hi1 : i ≤ 9223372036854775807)
    (hm : w.cell? ⟨0, 0, none⟩ = some (.int .i64 m)) (h : Ty.read s.data.toList i cd = (kind, txt, n)) :
    Calls Try.prog 7 #[.string s, .int .i64 i, .bool cd] w fun e w' => e = .returned (.tuple #[.agg #[.int .u8 (kind : Int), .string ⟨#[]⟩, .slice none 0 0, .bool false, .string ⟨txt.toArray⟩], .int .i64 n]) ∧ Below w.heap.size w w' := by
  have hh := Try.read_any s i cd m w hs hi0 hi1 hm
  rw [h] at hh
  refine hh.mono fun e w' ⟨⟨t, he, ht⟩, hb⟩ => ⟨?_, hb⟩
  have e2 : t = ⟨txt.toArray⟩ := by
    obtain ⟨⟨l⟩⟩ := t
    simp at ht
    rw [ht]
  rw [he, e2]

/-- a token lies in block b: its kind and its text -/
def Try.TokAt (w : World) (b : Nat) (k : Int) (t : ByteArray) : Prop :=
  b < w.heap.size ∧ w.cell? ⟨b, 0, none⟩ = some (.int .u8 k) ∧ w.cell? ⟨b, 4, none⟩ = some (.string t)

theorem Try.TokAt.below {w w' : World} {b B : Nat} {k : Int} {t : ByteArray} (h : Try.TokAt w b k t) (hb : Below B w w') (hB : b < B) : Try.TokAt w' b k t := by
  refine ⟨Nat.lt_of_lt_of_le h.1 hb.size, ?_, ?_⟩
  · rw [hb.cell (p := ⟨b, 0, none⟩) hB]; exact h.2.1
  · rw [hb.cell (p := ⟨b, 4, none⟩) hB]; exact h.2.2

theorem Try.TokAt.alloc {w : World} {b : Nat} {k : Int} {t : ByteArray} (h : Try.TokAt w b k t) (o : Obj) : Try.TokAt (w.alloc o) b k t := by
  refine ⟨by simp; have := h.1; omega, ?_, ?_⟩
  · rw [World.cell?_alloc_lt _ _ _ h.1]; exact h.2.1
  · rw [World.cell?_alloc_lt _ _ _ h.1]; exact h.2.2

theorem Try.TokAt.new (w : World) (k : Int) (a b c : Value) (t : ByteArray) (T : TypeId) : Try.TokAt (w.alloc (.cells #[.int .u8 k, a, b, c, .string t] T)) w.heap.size k t := by
  refine ⟨by simp, ?_, ?_⟩ <;> simp

set_option maxHeartbeats 1600000 in
theorem Try.known_any (m : Int) (w : World) (hm : w.cell? ⟨0, 0, none⟩ = some (.int .i64 m)) :
    Calls Try.prog 9 #[] w fun e w' => e = .returned (.bool true) ∧ Below w.heap.size w w' := by
  have HM := Lib.hid hm
  clear hm
  go_enter Try.func9, Try.ntmps9
  go_wp2_with fail
  refine (Try.read_is _ 0 false _ _ _ m _ (by decide) (by omega) (by omega) HM.out Ty.read_exA).mono ?_
  rintro e w1 ⟨rfl, hb1⟩
  have HB1 := Lib.hid hb1
  have HM1 := Lib.hid (Try.keep0 HM.out hb1)
  clear hb1
  go_wp2_with fail
  refine (Try.read_is _ 0 true _ _ _ m _ (by decide) (by omega) (by omega) (Try.keep0 HM1.out ((Below.refl _ _).alloc (Nat.le_refl _) _)) Ty.read_exB).mono ?_
  rintro e w2 ⟨rfl, hb⟩
  have T1 := Lib.hid ((Try.TokAt.new w1 4 (.string ⟨#[]⟩) (.slice none 0 0) (.bool false) ⟨#[97]⟩ 24).below hb (by simp))
  have HB2 := Lib.hid (HB1.out.trans ((Try.belowNew hb).mono HB1.out.size))
  have HM2 := Lib.hid (Try.keep0 HM1.out (Try.belowNew hb))
  clear hb
  go_wp2_with fail
  refine (Try.read_is _ 0 false _ _ _ m _ (by decide) (by omega) (by omega) (Try.keep0 HM2.out ((Below.refl _ _).alloc (Nat.le_refl _) _)) Ty.read_exC).mono ?_
  rintro e w3 ⟨rfl, hb⟩
  have T2 := Lib.hid ((Try.TokAt.new w2 1 (.string ⟨#[]⟩) (.slice none 0 0) (.bool false) ⟨#[120]⟩ 24).below hb (by simp))
  have T1 := Lib.hid ((T1.out.alloc _).below hb (by have := T1.out.1; simp; omega))
  have HB3 := Lib.hid (HB2.out.trans ((Try.belowNew hb).mono HB2.out.size))
  have HM3 := Lib.hid (Try.keep0 HM2.out (Try.belowNew hb))
  clear hb
  go_wp2_with fail
  refine (Try.read_is _ 0 false _ _ _ m _ (by decide) (by omega) (by omega) (Try.keep0 HM3.out ((Below.refl _ _).alloc (Nat.le_refl _) _)) Ty.read_exD).mono ?_
  rintro e w4 ⟨rfl, hb⟩
  have T3 := Lib.hid ((Try.TokAt.new w3 0 (.string ⟨#[]⟩) (.slice none 0 0) (.bool false) ⟨#[]⟩ 24).below hb (by simp))
  have T1 := Lib.hid ((T1.out.alloc _).below hb (by have := T1.out.1; simp; omega))
  have T2 := Lib.hid ((T2.out.alloc _).below hb (by have := T2.out.1; simp; omega))
  have HB4 := Lib.hid (HB3.out.trans ((Try.belowNew hb).mono HB3.out.size))
  have HM4 := Lib.hid (Try.keep0 HM3.out (Try.belowNew hb))
  clear hb
  obtain ⟨za, a0, a4⟩ := T1.out
  obtain ⟨zb, b0, b4⟩ := T2.out
  obtain ⟨zc, c0, c4⟩ := T3.out
  go_wp2_with fail
  refine (Try.begins_is ⟨#[60, 63]⟩ 0 true _ (by decide) (by omega) (by omega) Ty.begins_exE).mono ?_
  rintro e w' ⟨rfl, rfl⟩
  go_wp2_with fail
  refine (Try.begins_is ⟨#[60, 47, 97]⟩ 0 false _ (by decide) (by omega) (by omega) Ty.begins_exF).mono ?_
  rintro e w' ⟨rfl, rfl⟩
  go_wp2
  go_ret
  exact ⟨rfl, HB4.out.alloc HB4.out.size _⟩
end Go.Proofs
