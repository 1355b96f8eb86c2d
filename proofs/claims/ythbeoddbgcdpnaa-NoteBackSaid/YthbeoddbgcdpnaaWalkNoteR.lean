/- The document's Read: its contract, way by way. -/
import Derived.Test.YthbeoddbgcdpnaaWalkNoteO
namespace Go.Proofs
open Go.RowKit
set_option linter.unusedSimpArgs false
set_option linter.unusedVariables false

set_option maxHeartbeats 800000 in
theorem Try.readRef_q_C1f (s : ByteArray) (k : Nat) (w : World) (hs : s.size < 4294967281) (hk : k + 2 ≤ s.size)
    (h0 : Ty.begins s.data.toList k = true)
    (a1 : Lib.occAt s.data.toList [60, 33, 45, 45] k = false)
    (b1 : Lib.occAt s.data.toList [60, 33] k = false)
    (a3 : Lib.occAt s.data.toList [60, 33, 91, 67, 68, 65, 84, 65, 91] k = false)
    (a4 : Lib.occAt s.data.toList [60, 47, 62] k = false)
    (c1 : UInt8) (e1 : s[k + 1]'(by omega) = c1) (a5 : ((c1.toNat : Int) == 63) = true) :
    Calls Try.prog 8 #[.string s, .int .i64 k, .bool true] w fun e w' => Try.RetTok 4 (Ty.upTo (s.data.toList.drop (k + 1)) Ty.sGt).1 (((k : Int) + 1) + ((Ty.upTo (s.data.toList.drop (k + 1)) Ty.sGt).2 : Nat)) e ∧ Below w.heap.size w w' := by
  have H0 := Lib.hid h0
  have A1 := Lib.hid ((Try.atB_nat _ _ k).trans a1)
  have B1 := Lib.hid ((Try.atB_nat _ _ k).trans b1)
  have A3 := Lib.hid ((Try.atB_nat _ _ k).trans a3)
  have A4 := Lib.hid ((Try.atB_nat _ _ k).trans a4)
  obtain ⟨n, tx, hn, hX, hC⟩ : ∃ (n : Nat) (tx : List UInt8), n < 4294967281 ∧ Hid (Ty.upTo (s.data.toList.drop (k + 1)) Ty.sGt = (tx, n)) ∧
      Hid (∀ w, Calls Try.prog 21 #[.string s, .int .i64 ((k : Int) + 1), .string ⟨#[62]⟩] w fun e w' => Try.RetSI tx (((k : Int) + 1) + (n : Nat)) e ∧ w = w') := by
    refine ⟨(Ty.upTo (s.data.toList.drop (k + 1)) Ty.sGt).2, (Ty.upTo (s.data.toList.drop (k + 1)) Ty.sGt).1, ?_, Lib.hid rfl, Lib.hid fun w => ?_⟩
    · have := (Ty.upTo_len_le (s.data.toList.drop (k + 1)) Ty.sGt).2
      rw [List.length_drop, ← Lib.size_eq] at this
      omega
    · have hh := Try.upToRef_any s ⟨#[62]⟩ (k + 1) w (by omega) (by decide) (by decide) (by omega)
      rw [show ((k + 1 : Nat) : Int) = (k : Int) + 1 from by omega] at hh
      exact hh
  have hix : ∀ w : World, (Instr.index 9 (.string s) (.int .i64 ((k : Int) + 1))).run Try.prog w = .ok (.int .u8 (c1.toNat : Int)) w := fun w => by
    have hh := Try.index_str s (k + 1) (by omega) w
    rw [show ((k + 1 : Nat) : Int) = (k : Int) + 1 from by omega] at hh
    rw [hh, e1]
  clear e1
  clear h0 a1 b1 a3 a4
  go_enter Try.func8, Try.ntmps8
  go_wp2_with fail
  refine (Try.beginsRef_is s k true _ (by omega) (by omega) (by omega) H0.out).mono ?_
  rintro e w' ⟨rfl, rfl⟩
  go_wp2_with fail
  refine (Try.at_is s ⟨#[60, 33, 45, 45]⟩ k false _ (by omega) (by decide) (by decide) (by omega) (by omega) A1.out).mono ?_
  rintro e w' ⟨rfl, rfl⟩
  go_wp2_with fail
  refine (Try.at_is s ⟨#[60, 33]⟩ k false _ (by omega) (by decide) (by decide) (by omega) (by omega) B1.out).mono ?_
  rintro e w' ⟨rfl, rfl⟩
  go_wp2_with fail
  refine (Try.at_is s ⟨#[60, 33, 91, 67, 68, 65, 84, 65, 91]⟩ k false _ (by omega) (by decide) (by decide) (by omega) (by omega) A3.out).mono ?_
  rintro e w' ⟨rfl, rfl⟩
  go_wp2_with fail
  refine (Try.at_is s ⟨#[60, 47, 62]⟩ k false _ (by omega) (by decide) (by decide) (by omega) (by omega) A4.out).mono ?_
  rintro e w' ⟨rfl, rfl⟩
  go_wp2_with fail
  refine (hC.out _).mono ?_
  rintro e w2 ⟨⟨t, rfl, ht⟩, rfl⟩
  have HT := Lib.hid ht
  clear ht
  go_wp2
  rw [hX.out]
  refine bodyPost_ret (v := .tuple #[.agg #[.int .u8 4, .string ⟨#[]⟩, .slice none 0 0, .bool false, .string t], .int .i64 (k + 1 + n)]) (by simp [results, Try.results8, go_sem]) rfl ⟨⟨t, rfl, HT.out⟩, ((Below.refl _ _).alloc (Nat.le_refl _) _).alloc (by simp) _⟩

set_option maxHeartbeats 800000 in
theorem Try.readRef_e_AC1f (s : ByteArray) (k : Nat) (w : World) (hs : s.size < 4294967281) (hk : k + 2 ≤ s.size)
    (h0 : Ty.begins s.data.toList k = true)
    (a1 : Lib.occAt s.data.toList [60, 33, 45, 45] k = false)
    (b1 : Lib.occAt s.data.toList [60, 33] k = false)
    (a3 : Lib.occAt s.data.toList [60, 33, 91, 67, 68, 65, 84, 65, 91] k = false)
    (a4 : Lib.occAt s.data.toList [60, 47, 62] k = false)
    (c1 : UInt8) (e1 : s[k + 1]'(by omega) = c1) (a5 : ((c1.toNat : Int) == 63) = false) :
    Calls Try.prog 8 #[.string s, .int .i64 k, .bool true] w fun e w' => Try.RetTok 4 (Ty.upTo (s.data.toList.drop (k + 2)) Ty.sGt).1 (((k : Int) + 2) + ((Ty.upTo (s.data.toList.drop (k + 2)) Ty.sGt).2 : Nat)) e ∧ Below w.heap.size w w' := by
  have H0 := Lib.hid h0
  have A1 := Lib.hid ((Try.atB_nat _ _ k).trans a1)
  have B1 := Lib.hid ((Try.atB_nat _ _ k).trans b1)
  have A3 := Lib.hid ((Try.atB_nat _ _ k).trans a3)
  have A4 := Lib.hid ((Try.atB_nat _ _ k).trans a4)
  obtain ⟨n, tx, hn, hX, hC⟩ : ∃ (n : Nat) (tx : List UInt8), n < 4294967281 ∧ Hid (Ty.upTo (s.data.toList.drop (k + 2)) Ty.sGt = (tx, n)) ∧
      Hid (∀ w, Calls Try.prog 21 #[.string s, .int .i64 ((k : Int) + 2), .string ⟨#[62]⟩] w fun e w' => Try.RetSI tx (((k : Int) + 2) + (n : Nat)) e ∧ w = w') := by
    refine ⟨(Ty.upTo (s.data.toList.drop (k + 2)) Ty.sGt).2, (Ty.upTo (s.data.toList.drop (k + 2)) Ty.sGt).1, ?_, Lib.hid rfl, Lib.hid fun w => ?_⟩
    · have := (Ty.upTo_len_le (s.data.toList.drop (k + 2)) Ty.sGt).2
      rw [List.length_drop, ← Lib.size_eq] at this
      omega
    · have hh := Try.upToRef_any s ⟨#[62]⟩ (k + 2) w (by omega) (by decide) (by decide) (by omega)
      rw [show ((k + 2 : Nat) : Int) = (k : Int) + 2 from by omega] at hh
      exact hh
  have hix : ∀ w : World, (Instr.index 9 (.string s) (.int .i64 ((k : Int) + 1))).run Try.prog w = .ok (.int .u8 (c1.toNat : Int)) w := fun w => by
    have hh := Try.index_str s (k + 1) (by omega) w
    rw [show ((k + 1 : Nat) : Int) = (k : Int) + 1 from by omega] at hh
    rw [hh, e1]
  clear e1
  clear h0 a1 b1 a3 a4
  go_enter Try.func8, Try.ntmps8
  go_wp2_with fail
  refine (Try.beginsRef_is s k true _ (by omega) (by omega) (by omega) H0.out).mono ?_
  rintro e w' ⟨rfl, rfl⟩
  go_wp2_with fail
  refine (Try.at_is s ⟨#[60, 33, 45, 45]⟩ k false _ (by omega) (by decide) (by decide) (by omega) (by omega) A1.out).mono ?_
  rintro e w' ⟨rfl, rfl⟩
  go_wp2_with fail
  refine (Try.at_is s ⟨#[60, 33]⟩ k false _ (by omega) (by decide) (by decide) (by omega) (by omega) B1.out).mono ?_
  rintro e w' ⟨rfl, rfl⟩
  go_wp2_with fail
  refine (Try.at_is s ⟨#[60, 33, 91, 67, 68, 65, 84, 65, 91]⟩ k false _ (by omega) (by decide) (by decide) (by omega) (by omega) A3.out).mono ?_
  rintro e w' ⟨rfl, rfl⟩
  go_wp2_with fail
  refine (Try.at_is s ⟨#[60, 47, 62]⟩ k false _ (by omega) (by decide) (by decide) (by omega) (by omega) A4.out).mono ?_
  rintro e w' ⟨rfl, rfl⟩
  go_wp2_with fail
  refine (hC.out _).mono ?_
  rintro e w2 ⟨⟨t, rfl, ht⟩, rfl⟩
  have HT := Lib.hid ht
  clear ht
  go_wp2
  rw [hX.out]
  refine bodyPost_ret (v := .tuple #[.agg #[.int .u8 4, .string ⟨#[]⟩, .slice none 0 0, .bool false, .string t], .int .i64 (k + 2 + n)]) (by simp [results, Try.results8, go_sem]) rfl ⟨⟨t, rfl, HT.out⟩, ((Below.refl _ _).alloc (Nat.le_refl _) _).alloc (by simp) _⟩

set_option maxHeartbeats 800000 in
theorem Try.readRef_e_BC1f (s : ByteArray) (k : Nat) (w : World) (hs : s.size < 4294967281) (hk : k + 2 ≤ s.size)
    (h0 : Ty.begins s.data.toList k = true)
    (a1 : Lib.occAt s.data.toList [60, 33, 45, 45] k = false)
    (b1 : Lib.occAt s.data.toList [60, 33] k = true)
    (b2 : s.size < k + 9)
    (a3 : Lib.occAt s.data.toList [60, 33, 91, 67, 68, 65, 84, 65, 91] k = false)
    (a4 : Lib.occAt s.data.toList [60, 47, 62] k = false)
    (c1 : UInt8) (e1 : s[k + 1]'(by omega) = c1) (a5 : ((c1.toNat : Int) == 63) = false) :
    Calls Try.prog 8 #[.string s, .int .i64 k, .bool true] w fun e w' => Try.RetTok 4 (Ty.upTo (s.data.toList.drop (k + 2)) Ty.sGt).1 (((k : Int) + 2) + ((Ty.upTo (s.data.toList.drop (k + 2)) Ty.sGt).2 : Nat)) e ∧ Below w.heap.size w w' := by
  have H0 := Lib.hid h0
  have A1 := Lib.hid ((Try.atB_nat _ _ k).trans a1)
  have B1 := Lib.hid ((Try.atB_nat _ _ k).trans b1)
  have A3 := Lib.hid ((Try.atB_nat _ _ k).trans a3)
  have A4 := Lib.hid ((Try.atB_nat _ _ k).trans a4)
  obtain ⟨n, tx, hn, hX, hC⟩ : ∃ (n : Nat) (tx : List UInt8), n < 4294967281 ∧ Hid (Ty.upTo (s.data.toList.drop (k + 2)) Ty.sGt = (tx, n)) ∧
      Hid (∀ w, Calls Try.prog 21 #[.string s, .int .i64 ((k : Int) + 2), .string ⟨#[62]⟩] w fun e w' => Try.RetSI tx (((k : Int) + 2) + (n : Nat)) e ∧ w = w') := by
    refine ⟨(Ty.upTo (s.data.toList.drop (k + 2)) Ty.sGt).2, (Ty.upTo (s.data.toList.drop (k + 2)) Ty.sGt).1, ?_, Lib.hid rfl, Lib.hid fun w => ?_⟩
    · have := (Ty.upTo_len_le (s.data.toList.drop (k + 2)) Ty.sGt).2
      rw [List.length_drop, ← Lib.size_eq] at this
      omega
    · have hh := Try.upToRef_any s ⟨#[62]⟩ (k + 2) w (by omega) (by decide) (by decide) (by omega)
      rw [show ((k + 2 : Nat) : Int) = (k : Int) + 2 from by omega] at hh
      exact hh
  have hgd : (s.size : Int) - k < 9 := by omega
  have hix : ∀ w : World, (Instr.index 9 (.string s) (.int .i64 ((k : Int) + 1))).run Try.prog w = .ok (.int .u8 (c1.toNat : Int)) w := fun w => by
    have hh := Try.index_str s (k + 1) (by omega) w
    rw [show ((k + 1 : Nat) : Int) = (k : Int) + 1 from by omega] at hh
    rw [hh, e1]
  clear e1
  clear h0 a1 b1 a3 a4
  go_enter Try.func8, Try.ntmps8
  go_wp2_with fail
  refine (Try.beginsRef_is s k true _ (by omega) (by omega) (by omega) H0.out).mono ?_
  rintro e w' ⟨rfl, rfl⟩
  go_wp2_with fail
  refine (Try.at_is s ⟨#[60, 33, 45, 45]⟩ k false _ (by omega) (by decide) (by decide) (by omega) (by omega) A1.out).mono ?_
  rintro e w' ⟨rfl, rfl⟩
  go_wp2_with fail
  refine (Try.at_is s ⟨#[60, 33]⟩ k true _ (by omega) (by decide) (by decide) (by omega) (by omega) B1.out).mono ?_
  rintro e w' ⟨rfl, rfl⟩
  go_wp2_with fail
  refine (Try.at_is s ⟨#[60, 33, 91, 67, 68, 65, 84, 65, 91]⟩ k false _ (by omega) (by decide) (by decide) (by omega) (by omega) A3.out).mono ?_
  rintro e w' ⟨rfl, rfl⟩
  go_wp2_with fail
  refine (Try.at_is s ⟨#[60, 47, 62]⟩ k false _ (by omega) (by decide) (by decide) (by omega) (by omega) A4.out).mono ?_
  rintro e w' ⟨rfl, rfl⟩
  go_wp2_with fail
  refine (hC.out _).mono ?_
  rintro e w2 ⟨⟨t, rfl, ht⟩, rfl⟩
  have HT := Lib.hid ht
  clear ht
  go_wp2
  rw [hX.out]
  refine bodyPost_ret (v := .tuple #[.agg #[.int .u8 4, .string ⟨#[]⟩, .slice none 0 0, .bool false, .string t], .int .i64 (k + 2 + n)]) (by simp [results, Try.results8, go_sem]) rfl ⟨⟨t, rfl, HT.out⟩, ((Below.refl _ _).alloc (Nat.le_refl _) _).alloc (by simp) _⟩

set_option maxHeartbeats 800000 in
theorem Try.readRef_e_CC1f (s : ByteArray) (k : Nat) (w : World) (hs : s.size < 4294967281) (hk : k + 2 ≤ s.size)
    (h0 : Ty.begins s.data.toList k = true)
    (a1 : Lib.occAt s.data.toList [60, 33, 45, 45] k = false)
    (b1 : Lib.occAt s.data.toList [60, 33] k = true)
    (b2 : k + 9 ≤ s.size) (b3 : (Ty.lowB ((s.data.toList.drop (k + 2)).take 7) == [100, 111, 99, 116, 121, 112, 101]) = false)
    (a3 : Lib.occAt s.data.toList [60, 33, 91, 67, 68, 65, 84, 65, 91] k = false)
    (a4 : Lib.occAt s.data.toList [60, 47, 62] k = false)
    (c1 : UInt8) (e1 : s[k + 1]'(by omega) = c1) (a5 : ((c1.toNat : Int) == 63) = false) :
    Calls Try.prog 8 #[.string s, .int .i64 k, .bool true] w fun e w' => Try.RetTok 4 (Ty.upTo (s.data.toList.drop (k + 2)) Ty.sGt).1 (((k : Int) + 2) + ((Ty.upTo (s.data.toList.drop (k + 2)) Ty.sGt).2 : Nat)) e ∧ Below w.heap.size w w' := by
  have H0 := Lib.hid h0
  have A1 := Lib.hid ((Try.atB_nat _ _ k).trans a1)
  have B1 := Lib.hid ((Try.atB_nat _ _ k).trans b1)
  have B3 := Lib.hid b3
  have A3 := Lib.hid ((Try.atB_nat _ _ k).trans a3)
  have A4 := Lib.hid ((Try.atB_nat _ _ k).trans a4)
  obtain ⟨n, tx, hn, hX, hC⟩ : ∃ (n : Nat) (tx : List UInt8), n < 4294967281 ∧ Hid (Ty.upTo (s.data.toList.drop (k + 2)) Ty.sGt = (tx, n)) ∧
      Hid (∀ w, Calls Try.prog 21 #[.string s, .int .i64 ((k : Int) + 2), .string ⟨#[62]⟩] w fun e w' => Try.RetSI tx (((k : Int) + 2) + (n : Nat)) e ∧ w = w') := by
    refine ⟨(Ty.upTo (s.data.toList.drop (k + 2)) Ty.sGt).2, (Ty.upTo (s.data.toList.drop (k + 2)) Ty.sGt).1, ?_, Lib.hid rfl, Lib.hid fun w => ?_⟩
    · have := (Ty.upTo_len_le (s.data.toList.drop (k + 2)) Ty.sGt).2
      rw [List.length_drop, ← Lib.size_eq] at this
      omega
    · have hh := Try.upToRef_any s ⟨#[62]⟩ (k + 2) w (by omega) (by decide) (by decide) (by omega)
      rw [show ((k + 2 : Nat) : Int) = (k : Int) + 2 from by omega] at hh
      exact hh
  have hsl : ∀ w : World, (Instr.slice 9 (.string s) (some (.int .i64 ((k : Int) + 2))) (some (.int .i64 ((k : Int) + 9))) none).run Try.prog w = .ok (.string (s.extract (k + 2) (k + 9))) w := fun w => by
    rw [run_slice_string w 9 s .i64 .i64 ((k : Int) + 2) ((k : Int) + 9) Try.underlying9 (by omega) (by omega) (by omega), show ((k : Int) + 2).toNat = k + 2 from by omega, show ((k : Int) + 9).toNat = k + 9 from by omega]
  have hgd : (9 : Int) ≤ (s.size : Int) - k := by omega
  have hix : ∀ w : World, (Instr.index 9 (.string s) (.int .i64 ((k : Int) + 1))).run Try.prog w = .ok (.int .u8 (c1.toNat : Int)) w := fun w => by
    have hh := Try.index_str s (k + 1) (by omega) w
    rw [show ((k + 1 : Nat) : Int) = (k : Int) + 1 from by omega] at hh
    rw [hh, e1]
  clear e1
  clear h0 a1 b1 b3 a3 a4
  go_enter Try.func8, Try.ntmps8
  go_wp2_with fail
  refine (Try.beginsRef_is s k true _ (by omega) (by omega) (by omega) H0.out).mono ?_
  rintro e w' ⟨rfl, rfl⟩
  go_wp2_with fail
  refine (Try.at_is s ⟨#[60, 33, 45, 45]⟩ k false _ (by omega) (by decide) (by decide) (by omega) (by omega) A1.out).mono ?_
  rintro e w' ⟨rfl, rfl⟩
  go_wp2_with fail
  refine (Try.at_is s ⟨#[60, 33]⟩ k true _ (by omega) (by decide) (by decide) (by omega) (by omega) B1.out).mono ?_
  rintro e w' ⟨rfl, rfl⟩
  go_wp2_with fail
  refine (Try.lowerRef_any (s.extract (k + 2) (k + 9)) _ (by rw [ByteArray.size_extract]; omega)).mono ?_
  rintro e w1 ⟨⟨u, rfl, hu⟩, hb1⟩
  have hq : (u.toList == [100, 111, 99, 116, 121, 112, 101]) = false := by rw [Lib.toList_data, hu, Try.mid_list, show k + 9 - (k + 2) = 7 from by omega]; exact B3.out
  have hb2 := Try.belowSz2 hb1
  have HB := Lib.hid (Try.tokBelow0 hb2)
  obtain ⟨c0, c1', c2, c3, c4, f0, f1, f2, f3, f4, hz⟩ := Try.tokCells (T := 24) (Try.tokBelow hb2)
  obtain ⟨m0, m1, m2, m3, m4, g0, g1, g2, g3, g4, hz2⟩ := Try.tokCells2 (T := 24) hb2
  clear hu hb1 hb2 hz
  go_wp2_with fail
  refine (Try.at_is s ⟨#[60, 33, 91, 67, 68, 65, 84, 65, 91]⟩ k false _ (by omega) (by decide) (by decide) (by omega) (by omega) A3.out).mono ?_
  rintro e w' ⟨rfl, rfl⟩
  go_wp2_with fail
  refine (Try.at_is s ⟨#[60, 47, 62]⟩ k false _ (by omega) (by decide) (by decide) (by omega) (by omega) A4.out).mono ?_
  rintro e w' ⟨rfl, rfl⟩
  go_wp2_with fail
  refine (hC.out _).mono ?_
  rintro e w2 ⟨⟨t, rfl, ht⟩, rfl⟩
  have HT := Lib.hid ht
  clear ht
  go_wp2
  rw [hX.out]
  refine bodyPost_ret (v := .tuple #[.agg #[.int .u8 4, .string ⟨#[]⟩, .slice none 0 0, .bool false, .string t], .int .i64 (k + 2 + n)]) (by simp [results, Try.results8, go_sem, c0, c1', c2, c3, c4]) rfl ⟨⟨t, rfl, HT.out⟩, Try.set5 (HB.out.setCell (p := ⟨w.heap.size + 1, 4, none⟩) (Nat.le_succ _) _) (Nat.le_refl _) _ _ _ _ _⟩

end Go.Proofs
