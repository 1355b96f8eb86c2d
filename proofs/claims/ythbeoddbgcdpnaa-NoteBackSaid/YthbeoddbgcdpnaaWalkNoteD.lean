/- The contract of note.Read. -/
import Derived.Test.YthbeoddbgcdpnaaWalkNoteB
import Derived.Test.YthbeoddbgcdpnaaWalkNoteC
namespace Go.Proofs
open Go.RowKit
set_option linter.unusedSimpArgs false
set_option linter.unusedVariables false

theorem Try.begins_is (s : ByteArray) (i : Int) (b : Bool) (w : World) (hs : s.size ≤ 140737488351232) (hi0 : -9223372036854775808 ≤ i) (hi1 : i ≤ 9223372036854775807) (h : Ty.begins s.data.toList i = b) :
    Calls Try.prog 11 #[.string s, .int .i64 i] w fun e w' => e = .returned (.bool b) ∧ w = w' := by
  rw [← h]; exact Try.begins_any s i w hs hi0 hi1

/-- what a function of a token and a number returns -/
def Try.RetTok (kind : Int) (text : List UInt8) (k : Int) (e : Ending) : Prop :=
  ∃ t : ByteArray, e = .returned (.tuple #[.agg #[.int .u8 kind, .string ⟨#[]⟩, .slice none 0 0, .bool false, .string t], .int .i64 k]) ∧ t.data.toList = text

theorem Try.tokCells {w w2 : World} {T : TypeId} (hb : Below (w.heap.size + 1) (w.alloc (.cells #[.int .u8 0, .string ⟨#[]⟩, .slice none 0 0, .bool false, .string ⟨#[]⟩] T)) w2) :
    w2.cell? ⟨w.heap.size, 0, none⟩ = some (.int .u8 0) ∧ w2.cell? ⟨w.heap.size, 1, none⟩ = some (.string ⟨#[]⟩) ∧ w2.cell? ⟨w.heap.size, 2, none⟩ = some (.slice none 0 0) ∧
    w2.cell? ⟨w.heap.size, 3, none⟩ = some (.bool false) ∧ w2.cell? ⟨w.heap.size, 4, none⟩ = some (.string ⟨#[]⟩) ∧
    w2.frozen? ⟨w.heap.size, 0, none⟩ = false ∧ w2.frozen? ⟨w.heap.size, 1, none⟩ = false ∧ w2.frozen? ⟨w.heap.size, 2, none⟩ = false ∧ w2.frozen? ⟨w.heap.size, 3, none⟩ = false ∧ w2.frozen? ⟨w.heap.size, 4, none⟩ = false ∧
    w.heap.size < w2.heap.size := by
  refine ⟨?_, ?_, ?_, ?_, ?_, ?_, ?_, ?_, ?_, ?_, by have := hb.size; simp at this; omega⟩
  all_goals first
    | (rw [hb.cell (p := ⟨w.heap.size, _, none⟩) (by simp)]; simp)
    | (rw [hb.frozen (p := ⟨w.heap.size, _, none⟩) (by simp)]; simp)

set_option maxHeartbeats 400000 in
theorem Try.read_r0 (s : ByteArray) (i : Int) (cd : Bool) (w : World) (hs : s.size < 4294967281) (hi0 : -9223372036854775808 ≤ i) (hi1 : i ≤ 9223372036854775807)
    (h0 : Ty.begins s.data.toList i = false) :
    Calls Try.prog 7 #[.string s, .int .i64 i, .bool cd] w fun e w' => Try.RetTok 0 [] i e ∧ Below w.heap.size w w' := by
  have H0 := Lib.hid h0
  clear h0
  go_enter Try.func7, Try.ntmps7
  go_wp2_with fail
  refine (Try.begins_is s i false _ (by omega) hi0 hi1 H0.out).mono ?_
  rintro e w' ⟨rfl, rfl⟩
  go_wp2
  exact bodyPost_ret (v := .tuple #[.agg #[.int .u8 0, .string ⟨#[]⟩, .slice none 0 0, .bool false, .string ⟨#[]⟩], .int .i64 i]) (by simp [results, Try.results7, go_sem]) rfl ⟨⟨_, rfl, rfl⟩, (Below.refl _ _).alloc (Nat.le_refl _) _⟩

theorem Try.set5 {B b : Nat} {a w : World} (h : Below B a w) (hb : B ≤ b) (u0 u1 u2 u3 u4 : Value) :
    Below B a (((((w.setCell ⟨b, 0, none⟩ u0).setCell ⟨b, 1, none⟩ u1).setCell ⟨b, 2, none⟩ u2).setCell ⟨b, 3, none⟩ u3).setCell ⟨b, 4, none⟩ u4) :=
  ((((h.setCell (p := ⟨b, 0, none⟩) hb u0).setCell (p := ⟨b, 1, none⟩) hb u1).setCell (p := ⟨b, 2, none⟩) hb u2).setCell (p := ⟨b, 3, none⟩) hb u3).setCell (p := ⟨b, 4, none⟩) hb u4

theorem Try.belowNew {w w2 : World} {o : Obj} (hb : Below (w.alloc o).heap.size (w.alloc o) w2) : Below w.heap.size w w2 :=
  ((Below.refl w.heap.size w).alloc (Nat.le_refl _) o).trans (hb.mono (by rw [World.size_alloc]; omega))

theorem Try.drop_list (r : ByteArray) (a : Nat) : (r.extract a r.size).data.toList = r.data.toList.drop a := by
  rw [Lib.extract_data, List.take_of_length_le (by rw [List.length_drop, ← Lib.size_eq]; exact Nat.le_refl _)]
theorem Try.take_list (r : ByteArray) (a : Nat) : (r.extract 0 a).data.toList = r.data.toList.take a := by
  rw [Lib.extract_data]; simp

set_option maxHeartbeats 800000 in
theorem Try.read_r1 (s r : ByteArray) (k : Nat) (cd : Bool) (m : Int) (w : World) (hs : s.size < 4294967281) (hk : k < s.size)
    (hm : w.cell? ⟨0, 0, none⟩ = some (.int .i64 m))
    (h0 : Ty.begins s.data.toList k = true) (hr : s.extract k s.size = r) (hrs : r.size < 4294967281) (hr4 : 4 ≤ r.size)
    (a1 : Lib.hasPrefix r.data.toList Ty.sNote = true) :
    Calls Try.prog 7 #[.string s, .int .i64 k, .bool cd] w fun e w' => Try.RetTok 4 (Ty.comment (r.data.toList.drop 4)).1 (k + ((4 + (Ty.comment (r.data.toList.drop 4)).2 : Nat) : Int)) e ∧ Below w.heap.size w w' := by
  have H0 := Lib.hid h0
  have A1 := Lib.hid a1
  have HM := Lib.hid hm
  obtain ⟨n, tx, hn, hX, hC⟩ : ∃ (n : Nat) (tx : List UInt8), n < 4294967281 ∧ Hid (Ty.comment (r.data.toList.drop 4) = (tx, n)) ∧
      Hid (∀ w, w.cell? ⟨0, 0, none⟩ = some (.int .i64 m) → Calls Try.prog 15 #[.string (r.extract 4 r.size)] w fun e w' => Try.RetSI tx (n : Int) e ∧ Below w.heap.size w w') := by
    refine ⟨(Ty.comment (r.data.toList.drop 4)).2, (Ty.comment (r.data.toList.drop 4)).1, ?_, Lib.hid rfl, Lib.hid fun w hm => ?_⟩
    · have := Ty.comment_le (r.data.toList.drop 4)
      rw [List.length_drop, ← Lib.size_eq] at this
      omega
    · rw [← Try.drop_list]
      exact Try.comment_any _ m w (by rw [ByteArray.size_extract]; omega) hm
  clear h0 a1 hm
  go_enter Try.func7, Try.ntmps7
  go_wp2_with fail
  refine (Try.begins_is s k true _ (by omega) (by omega) (by omega) H0.out).mono ?_
  rintro e w' ⟨rfl, rfl⟩
  go_wp2_with fail
  refine (Try.hasPrefix_is r _ true _ A1.out).mono ?_
  rintro e w' ⟨rfl, rfl⟩
  go_wp2_with fail
  refine (hC.out _ (Try.keep0 HM.out ((Below.refl _ _).alloc (Nat.le_refl _) _))).mono ?_
  rintro e w2 ⟨⟨t, rfl, ht⟩, hb⟩
  have HB := Lib.hid (Try.belowNew hb)
  obtain ⟨c0, c1, c2, c3, c4, f0, f1, f2, f3, f4, hz⟩ := Try.tokCells (T := 24) (by simpa using hb)
  have HT := Lib.hid ht
  clear ht hb
  go_wp2
  rw [hX.out]
  refine bodyPost_ret (v := .tuple #[.agg #[.int .u8 4, .string ⟨#[]⟩, .slice none 0 0, .bool false, .string t], .int .i64 (k + 4 + n)]) (by simp [results, Try.results7, go_sem, c0, c1, c2, c3, c4]) rfl ⟨⟨t, ?_, HT.out⟩, ?_⟩
  · rw [show ((k : Int) + 4 + n) = k + ((4 + n : Nat) : Int) from by omega]
  · exact Try.set5 HB.out (Nat.le_refl _) _ _ _ _ _
end Go.Proofs
