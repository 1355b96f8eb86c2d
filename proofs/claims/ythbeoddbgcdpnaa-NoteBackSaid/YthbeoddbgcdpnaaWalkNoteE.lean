/- The contract of note.Read: its other ways. -/
import Derived.Test.YthbeoddbgcdpnaaWalkNoteD
namespace Go.Proofs
open Go.RowKit
set_option linter.unusedSimpArgs false
set_option linter.unusedVariables false

set_option maxHeartbeats 800000 in
theorem Try.read_doc (s r : ByteArray) (k : Nat) (cd : Bool) (m : Int) (w : World) (hs : s.size < 4294967281) (hk : k < s.size)
    (hm : w.cell? ⟨0, 0, none⟩ = some (.int .i64 m))
    (h0 : Ty.begins s.data.toList k = true) (hr : s.extract k s.size = r) (hrs : r.size < 4294967281) (hr2 : 2 ≤ r.size)
    (a1 : Lib.hasPrefix r.data.toList Ty.sNote = false)
    (d0 : 9 ≤ r.size) (d1 : (Ty.lowB (r.data.toList.take 9) == Ty.sDoc) = true) :
    Calls Try.prog 7 #[.string s, .int .i64 k, .bool cd] w fun e w' => Try.RetTok 5 [] (k + ((9 + (Ty.upTo (r.data.toList.drop 9) Ty.sGt).2 : Nat) : Int)) e ∧ Below w.heap.size w w' := by
  have H0 := Lib.hid h0
  have A1 := Lib.hid a1
  have HM := Lib.hid hm
  have D1 := Lib.hid d1
  obtain ⟨n, tx, hn, hX, hC⟩ : ∃ (n : Nat) (tx : List UInt8), n < 4294967281 ∧ Hid (Ty.upTo (r.data.toList.drop 9) Ty.sGt = (tx, n)) ∧
      Hid (∀ w, w.cell? ⟨0, 0, none⟩ = some (.int .i64 m) → Calls Try.prog 17 #[.string (r.extract 9 r.size), .string ⟨#[62]⟩] w fun e w' => Try.RetSI tx (n : Int) e ∧ Below w.heap.size w w') := by
    refine ⟨(Ty.upTo (r.data.toList.drop 9) Ty.sGt).2, (Ty.upTo (r.data.toList.drop 9) Ty.sGt).1, ?_, Lib.hid rfl, Lib.hid fun w hm => ?_⟩
    · have := (Ty.upTo_len_le (r.data.toList.drop 9) Ty.sGt).2
      rw [List.length_drop, ← Lib.size_eq] at this
      omega
    · rw [← Try.drop_list]
      exact Try.upTo_any _ ⟨#[62]⟩ m w (by rw [ByteArray.size_extract]; omega) (by decide) hm
  clear h0 a1 hm d1
  go_enter Try.func7, Try.ntmps7
  go_wp2_with fail
  refine (Try.begins_is s k true _ (by omega) (by omega) (by omega) H0.out).mono ?_
  rintro e w' ⟨rfl, rfl⟩
  go_wp2_with fail
  refine (Try.hasPrefix_is r _ false _ A1.out).mono ?_
  rintro e w' ⟨rfl, rfl⟩
  go_wp2_with fail
  refine (Try.lower_any (r.extract 0 9) _ (by rw [ByteArray.size_extract]; omega)).mono ?_
  rintro e w1 ⟨⟨u, rfl, hu⟩, hb1⟩
  have hq : (u.toList == Ty.sDoc) = true := by rw [Lib.toList_data, hu, Try.take_list]; exact D1.out
  have hq2 : (u.toList == [60, 33, 100, 111, 99, 116, 121, 112, 101]) = true := hq
  have HM1 := Lib.hid (Try.keep0 (Try.keep0 HM.out ((Below.refl _ _).alloc (Nat.le_refl _) _)) hb1)
  have HB1 := Lib.hid hb1
  clear hu hq hb1
  go_wp2_with fail
  refine (hC.out _ HM1.out).mono ?_
  rintro e w2 ⟨⟨t, rfl, ht⟩, hb2⟩
  have hb := HB1.out.trans (hb2.mono HB1.out.size)
  have HB := Lib.hid (Try.belowNew hb)
  obtain ⟨c0, c1, c2, c3, c4, f0, f1, f2, f3, f4, hz⟩ := Try.tokCells (T := 24) (by simpa using hb)
  have HT := Lib.hid ht
  clear ht hb hb2
  go_wp2
  rw [hX.out]
  refine bodyPost_ret (v := .tuple #[.agg #[.int .u8 5, .string ⟨#[]⟩, .slice none 0 0, .bool false, .string ⟨#[]⟩], .int .i64 (k + 9 + n)]) (by simp [results, Try.results7, go_sem, c0, c1, c2, c3, c4]) rfl ⟨⟨⟨#[]⟩, ?_, rfl⟩, Try.set5 HB.out (Nat.le_refl _) _ _ _ _ _⟩
  rw [show ((k : Int) + 9 + n) = k + ((9 + n : Nat) : Int) from by omega]

set_option maxHeartbeats 800000 in
theorem Try.read_cd (s r : ByteArray) (k : Nat) (m : Int) (w : World) (hs : s.size < 4294967281) (hk : k < s.size)
    (hm : w.cell? ⟨0, 0, none⟩ = some (.int .i64 m))
    (h0 : Ty.begins s.data.toList k = true) (hr : s.extract k s.size = r) (hrs : r.size < 4294967281) (hr2 : 2 ≤ r.size)
    (a1 : Lib.hasPrefix r.data.toList Ty.sNote = false)
    (d0 : 9 ≤ r.size) (d1 : (Ty.lowB (r.data.toList.take 9) == Ty.sDoc) = false)
    (a3 : Lib.hasPrefix r.data.toList Ty.sCdata = true) :
    Calls Try.prog 7 #[.string s, .int .i64 k, .bool true] w fun e w' => Try.RetTok 1 (Ty.upTo (r.data.toList.drop 9) Ty.sCdEnd).1 (k + ((9 + (Ty.upTo (r.data.toList.drop 9) Ty.sCdEnd).2 : Nat) : Int)) e ∧ Below w.heap.size w w' := by
  have H0 := Lib.hid h0
  have A1 := Lib.hid a1
  have HM := Lib.hid hm
  have D1 := Lib.hid d1
  have A3 := Lib.hid a3
  obtain ⟨n, tx, hn, hX, hC⟩ : ∃ (n : Nat) (tx : List UInt8), n < 4294967281 ∧ Hid (Ty.upTo (r.data.toList.drop 9) Ty.sCdEnd = (tx, n)) ∧
      Hid (∀ w, w.cell? ⟨0, 0, none⟩ = some (.int .i64 m) → Calls Try.prog 17 #[.string (r.extract 9 r.size), .string ⟨#[93, 93, 62]⟩] w fun e w' => Try.RetSI tx (n : Int) e ∧ Below w.heap.size w w') := by
    refine ⟨(Ty.upTo (r.data.toList.drop 9) Ty.sCdEnd).2, (Ty.upTo (r.data.toList.drop 9) Ty.sCdEnd).1, ?_, Lib.hid rfl, Lib.hid fun w hm => ?_⟩
    · have := (Ty.upTo_len_le (r.data.toList.drop 9) Ty.sCdEnd).2
      rw [List.length_drop, ← Lib.size_eq] at this
      omega
    · rw [← Try.drop_list]
      exact Try.upTo_any _ ⟨#[93, 93, 62]⟩ m w (by rw [ByteArray.size_extract]; omega) (by decide) hm
  clear h0 a1 hm d1 a3
  go_enter Try.func7, Try.ntmps7
  go_wp2_with fail
  refine (Try.begins_is s k true _ (by omega) (by omega) (by omega) H0.out).mono ?_
  rintro e w' ⟨rfl, rfl⟩
  go_wp2_with fail
  refine (Try.hasPrefix_is r _ false _ A1.out).mono ?_
  rintro e w' ⟨rfl, rfl⟩
  go_wp2_with fail
  refine (Try.lower_any (r.extract 0 9) _ (by rw [ByteArray.size_extract]; omega)).mono ?_
  rintro e w1 ⟨⟨u, rfl, hu⟩, hb1⟩
  have hq : (u.toList == Ty.sDoc) = false := by rw [Lib.toList_data, hu, Try.take_list]; exact D1.out
  have hq2 : (u.toList == [60, 33, 100, 111, 99, 116, 121, 112, 101]) = false := hq
  have HM1 := Lib.hid (Try.keep0 (Try.keep0 HM.out ((Below.refl _ _).alloc (Nat.le_refl _) _)) hb1)
  have HB1 := Lib.hid hb1
  clear hu hq hb1
  go_wp2_with fail
  refine (Try.hasPrefix_is r _ true _ A3.out).mono ?_
  rintro e w' ⟨rfl, rfl⟩
  go_wp2_with fail
  refine (hC.out _ HM1.out).mono ?_
  rintro e w2 ⟨⟨t, rfl, ht⟩, hb2⟩
  have hb := HB1.out.trans (hb2.mono HB1.out.size)
  have HB := Lib.hid (Try.belowNew hb)
  obtain ⟨c0, c1, c2, c3, c4, f0, f1, f2, f3, f4, hz⟩ := Try.tokCells (T := 24) (by simpa using hb)
  have HT := Lib.hid ht
  clear ht hb hb2
  go_wp2
  rw [hX.out]
  refine bodyPost_ret (v := .tuple #[.agg #[.int .u8 1, .string ⟨#[]⟩, .slice none 0 0, .bool false, .string t], .int .i64 (k + 9 + n)]) (by simp [results, Try.results7, go_sem, c0, c1, c2, c3, c4]) rfl ⟨⟨t, ?_, HT.out⟩, Try.set5 HB.out (Nat.le_refl _) _ _ _ _ _⟩
  rw [show ((k : Int) + 9 + n) = k + ((9 + n : Nat) : Int) from by omega]

set_option maxHeartbeats 800000 in
theorem Try.read_none_D0C0 (s r : ByteArray) (k : Nat) (m : Int) (w : World) (hs : s.size < 4294967281) (hk : k < s.size)
    (hm : w.cell? ⟨0, 0, none⟩ = some (.int .i64 m))
    (h0 : Ty.begins s.data.toList k = true) (hr : s.extract k s.size = r) (hrs : r.size < 4294967281) (hr2 : 2 ≤ r.size)
    (a1 : Lib.hasPrefix r.data.toList Ty.sNote = false)
    (d0 : r.size < 9)
    (a4 : Lib.hasPrefix r.data.toList Ty.sNone = true)
    (hr3 : 3 ≤ r.size) :
    Calls Try.prog 7 #[.string s, .int .i64 k, .bool false] w fun e w' => Try.RetTok 0 [] (k + ((3 : Nat) : Int)) e ∧ Below w.heap.size w w' := by
  have H0 := Lib.hid h0
  have A1 := Lib.hid a1
  have HM := Lib.hid hm
  have A4 := Lib.hid a4
  clear h0 a1 hm a4
  go_enter Try.func7, Try.ntmps7
  go_wp2_with fail
  refine (Try.begins_is s k true _ (by omega) (by omega) (by omega) H0.out).mono ?_
  rintro e w' ⟨rfl, rfl⟩
  go_wp2_with fail
  refine (Try.hasPrefix_is r _ false _ A1.out).mono ?_
  rintro e w' ⟨rfl, rfl⟩
  go_wp2_with fail
  refine (Try.hasPrefix_is r _ true _ A4.out).mono ?_
  rintro e w' ⟨rfl, rfl⟩
  go_wp2
  refine bodyPost_ret (v := .tuple #[.agg #[.int .u8 0, .string ⟨#[]⟩, .slice none 0 0, .bool false, .string ⟨#[]⟩], .int .i64 (k + 3)]) (by simp [results, Try.results7, go_sem]) rfl ⟨⟨⟨#[]⟩, ?_, rfl⟩, (Below.refl _ _).alloc (Nat.le_refl _) _⟩
  rfl

set_option maxHeartbeats 800000 in
theorem Try.read_q_D0C0 (s r : ByteArray) (k : Nat) (m : Int) (w : World) (hs : s.size < 4294967281) (hk : k < s.size)
    (hm : w.cell? ⟨0, 0, none⟩ = some (.int .i64 m))
    (h0 : Ty.begins s.data.toList k = true) (hr : s.extract k s.size = r) (hrs : r.size < 4294967281) (hr2 : 2 ≤ r.size)
    (a1 : Lib.hasPrefix r.data.toList Ty.sNote = false)
    (d0 : r.size < 9)
    (a4 : Lib.hasPrefix r.data.toList Ty.sNone = false)
    (c1 : UInt8) (e1 : r[(1 : Nat)]'(by omega) = c1) (a5 : ((c1.toNat : Int) == 63) = true) :
    Calls Try.prog 7 #[.string s, .int .i64 k, .bool false] w fun e w' => Try.RetTok 4 (Ty.upTo (r.data.toList.drop 1) Ty.sGt).1 (k + ((1 + (Ty.upTo (r.data.toList.drop 1) Ty.sGt).2 : Nat) : Int)) e ∧ Below w.heap.size w w' := by
  have H0 := Lib.hid h0
  have A1 := Lib.hid a1
  have HM := Lib.hid hm
  have A4 := Lib.hid a4
  obtain ⟨n, tx, hn, hX, hC⟩ : ∃ (n : Nat) (tx : List UInt8), n < 4294967281 ∧ Hid (Ty.upTo (r.data.toList.drop 1) Ty.sGt = (tx, n)) ∧
      Hid (∀ w, w.cell? ⟨0, 0, none⟩ = some (.int .i64 m) → Calls Try.prog 17 #[.string (r.extract 1 r.size), .string ⟨#[62]⟩] w fun e w' => Try.RetSI tx (n : Int) e ∧ Below w.heap.size w w') := by
    refine ⟨(Ty.upTo (r.data.toList.drop 1) Ty.sGt).2, (Ty.upTo (r.data.toList.drop 1) Ty.sGt).1, ?_, Lib.hid rfl, Lib.hid fun w hm => ?_⟩
    · have := (Ty.upTo_len_le (r.data.toList.drop 1) Ty.sGt).2
      rw [List.length_drop, ← Lib.size_eq] at this
      omega
    · rw [← Try.drop_list]
      exact Try.upTo_any _ ⟨#[62]⟩ m w (by rw [ByteArray.size_extract]; omega) (by decide) hm
  clear h0 a1 hm a4
  go_enter Try.func7, Try.ntmps7
  go_wp2_with fail
  refine (Try.begins_is s k true _ (by omega) (by omega) (by omega) H0.out).mono ?_
  rintro e w' ⟨rfl, rfl⟩
  go_wp2_with fail
  refine (Try.hasPrefix_is r _ false _ A1.out).mono ?_
  rintro e w' ⟨rfl, rfl⟩
  go_wp2_with fail
  refine (Try.hasPrefix_is r _ false _ A4.out).mono ?_
  rintro e w' ⟨rfl, rfl⟩
  go_wp2_with fail
  refine (hC.out _ (Try.keep0 HM.out ((Below.refl _ _).alloc (Nat.le_refl _) _))).mono ?_
  rintro e w2 ⟨⟨t, rfl, ht⟩, hb2⟩
  have hb := hb2
  have HB := Lib.hid (Try.belowNew hb)
  obtain ⟨c0, c1, c2, c3, c4, f0, f1, f2, f3, f4, hz⟩ := Try.tokCells (T := 24) (by simpa using hb)
  have HT := Lib.hid ht
  clear ht hb hb2
  go_wp2
  rw [hX.out]
  refine bodyPost_ret (v := .tuple #[.agg #[.int .u8 4, .string ⟨#[]⟩, .slice none 0 0, .bool false, .string t], .int .i64 (k + 1 + n)]) (by simp [results, Try.results7, go_sem, c0, c1, c2, c3, c4]) rfl ⟨⟨t, ?_, HT.out⟩, Try.set5 HB.out (Nat.le_refl _) _ _ _ _ _⟩
  rw [show ((k : Int) + 1 + n) = k + ((1 + n : Nat) : Int) from by omega]

set_option maxHeartbeats 800000 in
theorem Try.read_e_D0C0 (s r : ByteArray) (k : Nat) (m : Int) (w : World) (hs : s.size < 4294967281) (hk : k < s.size)
    (hm : w.cell? ⟨0, 0, none⟩ = some (.int .i64 m))
    (h0 : Ty.begins s.data.toList k = true) (hr : s.extract k s.size = r) (hrs : r.size < 4294967281) (hr2 : 2 ≤ r.size)
    (a1 : Lib.hasPrefix r.data.toList Ty.sNote = false)
    (d0 : r.size < 9)
    (a4 : Lib.hasPrefix r.data.toList Ty.sNone = false)
    (c1 : UInt8) (e1 : r[(1 : Nat)]'(by omega) = c1) (a5 : ((c1.toNat : Int) == 63) = false) :
    Calls Try.prog 7 #[.string s, .int .i64 k, .bool false] w fun e w' => Try.RetTok 4 (Ty.upTo (r.data.toList.drop 2) Ty.sGt).1 (k + ((2 + (Ty.upTo (r.data.toList.drop 2) Ty.sGt).2 : Nat) : Int)) e ∧ Below w.heap.size w w' := by
  have H0 := Lib.hid h0
  have A1 := Lib.hid a1
  have HM := Lib.hid hm
  have A4 := Lib.hid a4
  obtain ⟨n, tx, hn, hX, hC⟩ : ∃ (n : Nat) (tx : List UInt8), n < 4294967281 ∧ Hid (Ty.upTo (r.data.toList.drop 2) Ty.sGt = (tx, n)) ∧
      Hid (∀ w, w.cell? ⟨0, 0, none⟩ = some (.int .i64 m) → Calls Try.prog 17 #[.string (r.extract 2 r.size), .string ⟨#[62]⟩] w fun e w' => Try.RetSI tx (n : Int) e ∧ Below w.heap.size w w') := by
    refine ⟨(Ty.upTo (r.data.toList.drop 2) Ty.sGt).2, (Ty.upTo (r.data.toList.drop 2) Ty.sGt).1, ?_, Lib.hid rfl, Lib.hid fun w hm => ?_⟩
    · have := (Ty.upTo_len_le (r.data.toList.drop 2) Ty.sGt).2
      rw [List.length_drop, ← Lib.size_eq] at this
      omega
    · rw [← Try.drop_list]
      exact Try.upTo_any _ ⟨#[62]⟩ m w (by rw [ByteArray.size_extract]; omega) (by decide) hm
  clear h0 a1 hm a4
  go_enter Try.func7, Try.ntmps7
  go_wp2_with fail
  refine (Try.begins_is s k true _ (by omega) (by omega) (by omega) H0.out).mono ?_
  rintro e w' ⟨rfl, rfl⟩
  go_wp2_with fail
  refine (Try.hasPrefix_is r _ false _ A1.out).mono ?_
  rintro e w' ⟨rfl, rfl⟩
  go_wp2_with fail
  refine (Try.hasPrefix_is r _ false _ A4.out).mono ?_
  rintro e w' ⟨rfl, rfl⟩
  go_wp2_with fail
  refine (hC.out _ (Try.keep0 HM.out ((Below.refl _ _).alloc (Nat.le_refl _) _))).mono ?_
  rintro e w2 ⟨⟨t, rfl, ht⟩, hb2⟩
  have hb := hb2
  have HB := Lib.hid (Try.belowNew hb)
  obtain ⟨c0, c1, c2, c3, c4, f0, f1, f2, f3, f4, hz⟩ := Try.tokCells (T := 24) (by simpa using hb)
  have HT := Lib.hid ht
  clear ht hb hb2
  go_wp2
  rw [hX.out]
  refine bodyPost_ret (v := .tuple #[.agg #[.int .u8 4, .string ⟨#[]⟩, .slice none 0 0, .bool false, .string t], .int .i64 (k + 2 + n)]) (by simp [results, Try.results7, go_sem, c0, c1, c2, c3, c4]) rfl ⟨⟨t, ?_, HT.out⟩, Try.set5 HB.out (Nat.le_refl _) _ _ _ _ _⟩
  rw [show ((k : Int) + 2 + n) = k + ((2 + n : Nat) : Int) from by omega]

set_option maxHeartbeats 800000 in
theorem Try.read_none_D0C1f (s r : ByteArray) (k : Nat) (m : Int) (w : World) (hs : s.size < 4294967281) (hk : k < s.size)
    (hm : w.cell? ⟨0, 0, none⟩ = some (.int .i64 m))
    (h0 : Ty.begins s.data.toList k = true) (hr : s.extract k s.size = r) (hrs : r.size < 4294967281) (hr2 : 2 ≤ r.size)
    (a1 : Lib.hasPrefix r.data.toList Ty.sNote = false)
    (d0 : r.size < 9)
    (a3 : Lib.hasPrefix r.data.toList Ty.sCdata = false)
    (a4 : Lib.hasPrefix r.data.toList Ty.sNone = true)
    (hr3 : 3 ≤ r.size) :
    Calls Try.prog 7 #[.string s, .int .i64 k, .bool true] w fun e w' => Try.RetTok 0 [] (k + ((3 : Nat) : Int)) e ∧ Below w.heap.size w w' := by
  have H0 := Lib.hid h0
  have A1 := Lib.hid a1
  have HM := Lib.hid hm
  have A3 := Lib.hid a3
  have A4 := Lib.hid a4
  clear h0 a1 hm a3 a4
  go_enter Try.func7, Try.ntmps7
  go_wp2_with fail
  refine (Try.begins_is s k true _ (by omega) (by omega) (by omega) H0.out).mono ?_
  rintro e w' ⟨rfl, rfl⟩
  go_wp2_with fail
  refine (Try.hasPrefix_is r _ false _ A1.out).mono ?_
  rintro e w' ⟨rfl, rfl⟩
  go_wp2_with fail
  refine (Try.hasPrefix_is r _ false _ A3.out).mono ?_
  rintro e w' ⟨rfl, rfl⟩
  go_wp2_with fail
  refine (Try.hasPrefix_is r _ true _ A4.out).mono ?_
  rintro e w' ⟨rfl, rfl⟩
  go_wp2
  refine bodyPost_ret (v := .tuple #[.agg #[.int .u8 0, .string ⟨#[]⟩, .slice none 0 0, .bool false, .string ⟨#[]⟩], .int .i64 (k + 3)]) (by simp [results, Try.results7, go_sem]) rfl ⟨⟨⟨#[]⟩, ?_, rfl⟩, (Below.refl _ _).alloc (Nat.le_refl _) _⟩
  rfl

set_option maxHeartbeats 800000 in
theorem Try.read_q_D0C1f (s r : ByteArray) (k : Nat) (m : Int) (w : World) (hs : s.size < 4294967281) (hk : k < s.size)
    (hm : w.cell? ⟨0, 0, none⟩ = some (.int .i64 m))
    (h0 : Ty.begins s.data.toList k = true) (hr : s.extract k s.size = r) (hrs : r.size < 4294967281) (hr2 : 2 ≤ r.size)
    (a1 : Lib.hasPrefix r.data.toList Ty.sNote = false)
    (d0 : r.size < 9)
    (a3 : Lib.hasPrefix r.data.toList Ty.sCdata = false)
    (a4 : Lib.hasPrefix r.data.toList Ty.sNone = false)
    (c1 : UInt8) (e1 : r[(1 : Nat)]'(by omega) = c1) (a5 : ((c1.toNat : Int) == 63) = true) :
    Calls Try.prog 7 #[.string s, .int .i64 k, .bool true] w fun e w' => Try.RetTok 4 (Ty.upTo (r.data.toList.drop 1) Ty.sGt).1 (k + ((1 + (Ty.upTo (r.data.toList.drop 1) Ty.sGt).2 : Nat) : Int)) e ∧ Below w.heap.size w w' := by
  have H0 := Lib.hid h0
  have A1 := Lib.hid a1
  have HM := Lib.hid hm
  have A3 := Lib.hid a3
  have A4 := Lib.hid a4
  obtain ⟨n, tx, hn, hX, hC⟩ : ∃ (n : Nat) (tx : List UInt8), n < 4294967281 ∧ Hid (Ty.upTo (r.data.toList.drop 1) Ty.sGt = (tx, n)) ∧
      Hid (∀ w, w.cell? ⟨0, 0, none⟩ = some (.int .i64 m) → Calls Try.prog 17 #[.string (r.extract 1 r.size), .string ⟨#[62]⟩] w fun e w' => Try.RetSI tx (n : Int) e ∧ Below w.heap.size w w') := by
    refine ⟨(Ty.upTo (r.data.toList.drop 1) Ty.sGt).2, (Ty.upTo (r.data.toList.drop 1) Ty.sGt).1, ?_, Lib.hid rfl, Lib.hid fun w hm => ?_⟩
    · have := (Ty.upTo_len_le (r.data.toList.drop 1) Ty.sGt).2
      rw [List.length_drop, ← Lib.size_eq] at this
      omega
    · rw [← Try.drop_list]
      exact Try.upTo_any _ ⟨#[62]⟩ m w (by rw [ByteArray.size_extract]; omega) (by decide) hm
  clear h0 a1 hm a3 a4
  go_enter Try.func7, Try.ntmps7
  go_wp2_with fail
  refine (Try.begins_is s k true _ (by omega) (by omega) (by omega) H0.out).mono ?_
  rintro e w' ⟨rfl, rfl⟩
  go_wp2_with fail
  refine (Try.hasPrefix_is r _ false _ A1.out).mono ?_
  rintro e w' ⟨rfl, rfl⟩
  go_wp2_with fail
  refine (Try.hasPrefix_is r _ false _ A3.out).mono ?_
  rintro e w' ⟨rfl, rfl⟩
  go_wp2_with fail
  refine (Try.hasPrefix_is r _ false _ A4.out).mono ?_
  rintro e w' ⟨rfl, rfl⟩
  go_wp2_with fail
  refine (hC.out _ (Try.keep0 HM.out ((Below.refl _ _).alloc (Nat.le_refl _) _))).mono ?_
  rintro e w2 ⟨⟨t, rfl, ht⟩, hb2⟩
  have hb := hb2
  have HB := Lib.hid (Try.belowNew hb)
  obtain ⟨c0, c1, c2, c3, c4, f0, f1, f2, f3, f4, hz⟩ := Try.tokCells (T := 24) (by simpa using hb)
  have HT := Lib.hid ht
  clear ht hb hb2
  go_wp2
  rw [hX.out]
  refine bodyPost_ret (v := .tuple #[.agg #[.int .u8 4, .string ⟨#[]⟩, .slice none 0 0, .bool false, .string t], .int .i64 (k + 1 + n)]) (by simp [results, Try.results7, go_sem, c0, c1, c2, c3, c4]) rfl ⟨⟨t, ?_, HT.out⟩, Try.set5 HB.out (Nat.le_refl _) _ _ _ _ _⟩
  rw [show ((k : Int) + 1 + n) = k + ((1 + n : Nat) : Int) from by omega]

end Go.Proofs
