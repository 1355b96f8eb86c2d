/- The document's comment: its contract. -/
import Derived.Test.YthbeoddbgcdpnaaWalkNoteI
import Derived.LoopN
import Derived.Deep.QuietTactic
import Derived.BigQuiet
namespace Go.Proofs
open Go.RowKit
set_option linter.unusedSimpArgs false
set_option linter.unusedVariables false

set_option maxHeartbeats 800000 in
theorem Try.commentRef_t2_1 (s : ByteArray) (i : Nat) (w : World) (hs : s.size ≤ 140737488351232) (hi : i ≤ s.size)
    (h1 : Lib.occAt s.data.toList [62] i = false) (h2 : Lib.occAt s.data.toList [45, 62] i = false)
    (t : ByteArray) (ht : s.extract i s.size = t)
    (hz : 2 ≤ t.size) (hz' : t.size ≤ 2)
    (q1 : ByteArray) (hq1 : t.extract (t.size - 2) t.size = q1) (g1 : (q1.toList == [45, 45]) = true)
    (hE : Ty.tailText t.data.toList = t.data.toList.take (t.data.toList.length - 2)) :
    Calls Try.prog 19 #[.string s, .int .i64 i] w fun e w' => Try.RetSI (Ty.comment (s.data.toList.drop i)).1 ((i : Int) + ((Ty.comment (s.data.toList.drop i)).2 : Nat)) e ∧ Below w.heap.size w w' := by
  have HE := Lib.hid hE
  have HTL := Lib.hid (show t.data.toList = s.data.toList.drop i by rw [← ht]; exact Try.drop_list s i)
  have hts : t.size ≤ s.size := by rw [← ht, ByteArray.size_extract]; omega
  have HTZ := Lib.hid (Lib.size_eq t)
  have HZ2 : Hid (t.size = s.size - i) := by
    have e : t.size = s.size - i := by rw [← ht, ByteArray.size_extract]; omega
    exact e
  have hs1 : ∀ w : World, (Instr.slice 9 (.string t) (some (.int .i64 ((t.size : Int) - 2))) none none).run Try.prog w = .ok (.string q1) w := fun w => by
    rw [run_slice_string_l w 9 t Try.underlying9 .i64 ((t.size : Int) - 2) (by omega) (by omega), ← hq1, show ((t.size : Int) - 2).toNat = t.size - 2 from by omega]
  have hh : ∀ w : World, (Instr.slice 9 (.string t) none (some (.int .i64 ((t.size : Int) - 2))) none).run Try.prog w = .ok (.string (t.extract 0 (t.size - 2))) w := fun w => by
    rw [run_slice_string_h w 9 t Try.underlying9 .i64 ((t.size : Int) - 2) (by omega) (by omega), show ((t.size : Int) - 2).toNat = t.size - 2 from by omega]
  clear hE hq1
  have H1 := Lib.hid h1
  have H2 := Lib.hid h2
  have A1 := Lib.hid ((Try.atB_nat _ _ i).trans h1)
  have A2 := Lib.hid ((Try.atB_nat _ _ i).trans h2)
  have HL := Lib.hid (Lib.size_eq s).symm
  clear h1 h2
  go_enter Try.func19, Try.ntmps19
  go_wp2_with fail
  refine (Try.at_is s _ i false _ hs (by decide) (by decide) (by omega) (by omega) A1.out).mono ?_
  rintro e w' ⟨rfl, rfl⟩
  go_wp2_with fail
  refine (Try.at_is s _ i false _ hs (by decide) (by decide) (by omega) (by omega) A2.out).mono ?_
  rintro e w' ⟨rfl, rfl⟩
  go_wp2_with fail
  go_loopw [6] (fun k wr => ∃ j : Nat, i ≤ j ∧ j ≤ s.size ∧ k = .int .i64 j ∧ Hid (∀ q, i ≤ q → q < j → Lib.occAt s.data.toList Ty.endA q = false) ∧ Hid (∀ q, i ≤ q → q < j → Lib.occAt s.data.toList Ty.endB q = false) ∧ w = wr) (fun k _ => s.size - (intOf k).toNat)
  case atStart => exact ⟨i, Nat.le_refl _, hi, rfl, Lib.hid (fun q h1 h2 => by omega), Lib.hid (fun q h1 h2 => by omega), rfl⟩
  case round =>
    obtain ⟨j, hij, hj, rfl, HA, HB, rfl⟩ := hrel
    by_cases hlt : j < s.size
    · cases hoA : Lib.occAt s.data.toList Ty.endA j with
      | true =>
        have E := Lib.hid (Ty.comment_A hij (by rw [HL.out]; exact hj) HA.out HB.out hoA H1.out H2.out)
        have A3 := Lib.hid ((Try.atB_nat _ _ j).trans hoA)
        clear hoA
        go_wp2_with fail
        refine (Try.at_is s ⟨#[45, 45, 62]⟩ j true _ hs (by decide) (by decide) (by omega) (by omega) A3.out).mono ?_
        rintro e w' ⟨rfl, rfl⟩
        go_wp2
        go_ret2
        rw [E.out]
        refine ⟨⟨s.extract i j, ?_, Try.mid_list s i j⟩, Below.refl _ _⟩
        rw [show (i : Int) + ((j - i + 3 : Nat) : Int) = (j : Int) + 3 from by omega]
        rfl
      | false =>
        have A3 := Lib.hid ((Try.atB_nat _ _ j).trans hoA)
        have HA2 : Hid (∀ q, i ≤ q → q < j + 1 → Lib.occAt s.data.toList Ty.endA q = false) := fun q h1 h2 => by
          by_cases e : q = j
          · rw [e]; exact hoA
          · exact HA.out q h1 (by omega)
        clear hoA
        cases hoB : Lib.occAt s.data.toList Ty.endB j with
        | true =>
          have E := Lib.hid (Ty.comment_B hij (by rw [HL.out]; exact hj) HA.out HB.out hoB H1.out H2.out)
          have A4 := Lib.hid ((Try.atB_nat _ _ j).trans hoB)
          clear hoB
          go_wp2_with fail
          refine (Try.at_is s ⟨#[45, 45, 62]⟩ j false _ hs (by decide) (by decide) (by omega) (by omega) A3.out).mono ?_
          rintro e w' ⟨rfl, rfl⟩
          go_wp2_with fail
          refine (Try.at_is s ⟨#[45, 45, 33, 62]⟩ j true _ hs (by decide) (by decide) (by omega) (by omega) A4.out).mono ?_
          rintro e w' ⟨rfl, rfl⟩
          go_wp2
          go_ret2
          rw [E.out]
          refine ⟨⟨s.extract i j, ?_, Try.mid_list s i j⟩, Below.refl _ _⟩
          rw [show (i : Int) + ((j - i + 4 : Nat) : Int) = (j : Int) + 4 from by omega]
          rfl
        | false =>
          have A4 := Lib.hid ((Try.atB_nat _ _ j).trans hoB)
          have HB2 : Hid (∀ q, i ≤ q → q < j + 1 → Lib.occAt s.data.toList Ty.endB q = false) := fun q h1 h2 => by
            by_cases e : q = j
            · rw [e]; exact hoB
            · exact HB.out q h1 (by omega)
          clear hoB
          go_wp2_with fail
          refine (Try.at_is s ⟨#[45, 45, 62]⟩ j false _ hs (by decide) (by decide) (by omega) (by omega) A3.out).mono ?_
          rintro e w' ⟨rfl, rfl⟩
          go_wp2_with fail
          refine (Try.at_is s ⟨#[45, 45, 33, 62]⟩ j false _ hs (by decide) (by decide) (by omega) (by omega) A4.out).mono ?_
          rintro e w' ⟨rfl, rfl⟩
          go_wp2
          go_roundw
          case rel => exact ⟨j + 1, by omega, by omega, by go_num, HA2, HB2, by trivial⟩
          case measure => simp [intOf]; omega
    · obtain rfl : j = s.size := by omega
      have E := Lib.hid (Ty.comment_none (l := s.data.toList) (i := i) (by rw [HL.out]; exact HA.out) (by rw [HL.out]; exact HB.out) H1.out H2.out)
      go_wp2
      refine wp_loop_rounds 4 ?_
      rw [rounds_succ]
      go_wp2
      have d0 : decide (0 ≤ (t.size : Int) - 3) = false := by rw [decide_eq_false_iff_not]; omega
      have dd0 : decide ((3 : Int) ≤ (t.size : Int)) = false := by rw [decide_eq_false_iff_not]; omega
      have ddd0 : decide (3 ≤ t.size) = false := by rw [decide_eq_false_iff_not]; omega
      have dddd0 : (t.size : Int) < 3 := by omega
      go_quiet (fail)
      go_wp2
      rw [rounds_succ]
      go_wp2
      have d1 : decide (0 ≤ (t.size : Int) - 2) = true := by rw [decide_eq_true_eq]; omega
      have dd1 : (2 : Int) ≤ (t.size : Int) := by omega
      have ddd1 : (0 : Int) ≤ (t.size : Int) - 2 := by omega
      go_quiet (fail)
      go_wp2
      go_ret2
      rw [E.out, ← HTL.out, HE.out]
      refine ⟨⟨ByteArray.empty, ?_, by rw [← HTZ.out, show t.size - 2 = 0 from by omega]; rfl⟩, ?_⟩
      · have := HZ2.out
        rw [← HTZ.out, show (i : Int) + ((t.size : Nat) : Int) = (s.size : Int) from by omega]
        rfl
      · repeat' first | exact ((Below.refl _ _).alloc (Nat.le_refl _) _) | (refine below_drewN ?_ _)

set_option maxHeartbeats 800000 in
theorem Try.commentRef_t2_2 (s : ByteArray) (i : Nat) (w : World) (hs : s.size ≤ 140737488351232) (hi : i ≤ s.size)
    (h1 : Lib.occAt s.data.toList [62] i = false) (h2 : Lib.occAt s.data.toList [45, 62] i = false)
    (t : ByteArray) (ht : s.extract i s.size = t)
    (hz : 2 ≤ t.size) (hz' : t.size ≤ 2)
    (q1 : ByteArray) (hq1 : t.extract (t.size - 2) t.size = q1) (g1 : (q1.toList == [45, 45]) = false)
    (q2 : ByteArray) (hq2 : t.extract (t.size - 1) t.size = q2) (g2 : (q2.toList == [45]) = true)
    (hE : Ty.tailText t.data.toList = t.data.toList.take (t.data.toList.length - 1)) :
    Calls Try.prog 19 #[.string s, .int .i64 i] w fun e w' => Try.RetSI (Ty.comment (s.data.toList.drop i)).1 ((i : Int) + ((Ty.comment (s.data.toList.drop i)).2 : Nat)) e ∧ Below w.heap.size w w' := by
  have HE := Lib.hid hE
  have HTL := Lib.hid (show t.data.toList = s.data.toList.drop i by rw [← ht]; exact Try.drop_list s i)
  have hts : t.size ≤ s.size := by rw [← ht, ByteArray.size_extract]; omega
  have HTZ := Lib.hid (Lib.size_eq t)
  have HZ2 : Hid (t.size = s.size - i) := by
    have e : t.size = s.size - i := by rw [← ht, ByteArray.size_extract]; omega
    exact e
  have hs1 : ∀ w : World, (Instr.slice 9 (.string t) (some (.int .i64 ((t.size : Int) - 2))) none none).run Try.prog w = .ok (.string q1) w := fun w => by
    rw [run_slice_string_l w 9 t Try.underlying9 .i64 ((t.size : Int) - 2) (by omega) (by omega), ← hq1, show ((t.size : Int) - 2).toNat = t.size - 2 from by omega]
  have hs2 : ∀ w : World, (Instr.slice 9 (.string t) (some (.int .i64 ((t.size : Int) - 1))) none none).run Try.prog w = .ok (.string q2) w := fun w => by
    rw [run_slice_string_l w 9 t Try.underlying9 .i64 ((t.size : Int) - 1) (by omega) (by omega), ← hq2, show ((t.size : Int) - 1).toNat = t.size - 1 from by omega]
  have hh : ∀ w : World, (Instr.slice 9 (.string t) none (some (.int .i64 ((t.size : Int) - 1))) none).run Try.prog w = .ok (.string (t.extract 0 (t.size - 1))) w := fun w => by
    rw [run_slice_string_h w 9 t Try.underlying9 .i64 ((t.size : Int) - 1) (by omega) (by omega), show ((t.size : Int) - 1).toNat = t.size - 1 from by omega]
  clear hE hq1 hq2
  have H1 := Lib.hid h1
  have H2 := Lib.hid h2
  have A1 := Lib.hid ((Try.atB_nat _ _ i).trans h1)
  have A2 := Lib.hid ((Try.atB_nat _ _ i).trans h2)
  have HL := Lib.hid (Lib.size_eq s).symm
  clear h1 h2
  go_enter Try.func19, Try.ntmps19
  go_wp2_with fail
  refine (Try.at_is s _ i false _ hs (by decide) (by decide) (by omega) (by omega) A1.out).mono ?_
  rintro e w' ⟨rfl, rfl⟩
  go_wp2_with fail
  refine (Try.at_is s _ i false _ hs (by decide) (by decide) (by omega) (by omega) A2.out).mono ?_
  rintro e w' ⟨rfl, rfl⟩
  go_wp2_with fail
  go_loopw [6] (fun k wr => ∃ j : Nat, i ≤ j ∧ j ≤ s.size ∧ k = .int .i64 j ∧ Hid (∀ q, i ≤ q → q < j → Lib.occAt s.data.toList Ty.endA q = false) ∧ Hid (∀ q, i ≤ q → q < j → Lib.occAt s.data.toList Ty.endB q = false) ∧ w = wr) (fun k _ => s.size - (intOf k).toNat)
  case atStart => exact ⟨i, Nat.le_refl _, hi, rfl, Lib.hid (fun q h1 h2 => by omega), Lib.hid (fun q h1 h2 => by omega), rfl⟩
  case round =>
    obtain ⟨j, hij, hj, rfl, HA, HB, rfl⟩ := hrel
    by_cases hlt : j < s.size
    · cases hoA : Lib.occAt s.data.toList Ty.endA j with
      | true =>
        have E := Lib.hid (Ty.comment_A hij (by rw [HL.out]; exact hj) HA.out HB.out hoA H1.out H2.out)
        have A3 := Lib.hid ((Try.atB_nat _ _ j).trans hoA)
        clear hoA
        go_wp2_with fail
        refine (Try.at_is s ⟨#[45, 45, 62]⟩ j true _ hs (by decide) (by decide) (by omega) (by omega) A3.out).mono ?_
        rintro e w' ⟨rfl, rfl⟩
        go_wp2
        go_ret2
        rw [E.out]
        refine ⟨⟨s.extract i j, ?_, Try.mid_list s i j⟩, Below.refl _ _⟩
        rw [show (i : Int) + ((j - i + 3 : Nat) : Int) = (j : Int) + 3 from by omega]
        rfl
      | false =>
        have A3 := Lib.hid ((Try.atB_nat _ _ j).trans hoA)
        have HA2 : Hid (∀ q, i ≤ q → q < j + 1 → Lib.occAt s.data.toList Ty.endA q = false) := fun q h1 h2 => by
          by_cases e : q = j
          · rw [e]; exact hoA
          · exact HA.out q h1 (by omega)
        clear hoA
        cases hoB : Lib.occAt s.data.toList Ty.endB j with
        | true =>
          have E := Lib.hid (Ty.comment_B hij (by rw [HL.out]; exact hj) HA.out HB.out hoB H1.out H2.out)
          have A4 := Lib.hid ((Try.atB_nat _ _ j).trans hoB)
          clear hoB
          go_wp2_with fail
          refine (Try.at_is s ⟨#[45, 45, 62]⟩ j false _ hs (by decide) (by decide) (by omega) (by omega) A3.out).mono ?_
          rintro e w' ⟨rfl, rfl⟩
          go_wp2_with fail
          refine (Try.at_is s ⟨#[45, 45, 33, 62]⟩ j true _ hs (by decide) (by decide) (by omega) (by omega) A4.out).mono ?_
          rintro e w' ⟨rfl, rfl⟩
          go_wp2
          go_ret2
          rw [E.out]
          refine ⟨⟨s.extract i j, ?_, Try.mid_list s i j⟩, Below.refl _ _⟩
          rw [show (i : Int) + ((j - i + 4 : Nat) : Int) = (j : Int) + 4 from by omega]
          rfl
        | false =>
          have A4 := Lib.hid ((Try.atB_nat _ _ j).trans hoB)
          have HB2 : Hid (∀ q, i ≤ q → q < j + 1 → Lib.occAt s.data.toList Ty.endB q = false) := fun q h1 h2 => by
            by_cases e : q = j
            · rw [e]; exact hoB
            · exact HB.out q h1 (by omega)
          clear hoB
          go_wp2_with fail
          refine (Try.at_is s ⟨#[45, 45, 62]⟩ j false _ hs (by decide) (by decide) (by omega) (by omega) A3.out).mono ?_
          rintro e w' ⟨rfl, rfl⟩
          go_wp2_with fail
          refine (Try.at_is s ⟨#[45, 45, 33, 62]⟩ j false _ hs (by decide) (by decide) (by omega) (by omega) A4.out).mono ?_
          rintro e w' ⟨rfl, rfl⟩
          go_wp2
          go_roundw
          case rel => exact ⟨j + 1, by omega, by omega, by go_num, HA2, HB2, by trivial⟩
          case measure => simp [intOf]; omega
    · obtain rfl : j = s.size := by omega
      have E := Lib.hid (Ty.comment_none (l := s.data.toList) (i := i) (by rw [HL.out]; exact HA.out) (by rw [HL.out]; exact HB.out) H1.out H2.out)
      go_wp2
      refine wp_loop_rounds 4 ?_
      rw [rounds_succ]
      go_wp2
      have d0 : decide (0 ≤ (t.size : Int) - 3) = false := by rw [decide_eq_false_iff_not]; omega
      have dd0 : decide ((3 : Int) ≤ (t.size : Int)) = false := by rw [decide_eq_false_iff_not]; omega
      have ddd0 : decide (3 ≤ t.size) = false := by rw [decide_eq_false_iff_not]; omega
      have dddd0 : (t.size : Int) < 3 := by omega
      go_quiet (fail)
      go_wp2
      rw [rounds_succ]
      go_wp2
      have d1 : decide (0 ≤ (t.size : Int) - 2) = true := by rw [decide_eq_true_eq]; omega
      have dd1 : (2 : Int) ≤ (t.size : Int) := by omega
      have ddd1 : (0 : Int) ≤ (t.size : Int) - 2 := by omega
      go_quiet (fail)
      go_wp2
      rw [rounds_succ]
      go_wp2
      have d2 : decide (0 ≤ (t.size : Int) - 1) = true := by rw [decide_eq_true_eq]; omega
      have dd2 : (1 : Int) ≤ (t.size : Int) := by omega
      have ddd2 : (0 : Int) ≤ (t.size : Int) - 1 := by omega
      go_quiet (fail)
      go_wp2
      go_ret2
      rw [E.out, ← HTL.out, HE.out]
      refine ⟨⟨t.extract 0 (t.size - 1), ?_, by rw [Try.take_list, ← HTZ.out]⟩, ?_⟩
      · have := HZ2.out
        rw [← HTZ.out, show (i : Int) + ((t.size : Nat) : Int) = (s.size : Int) from by omega]
        rfl
      · repeat' first | exact ((Below.refl _ _).alloc (Nat.le_refl _) _) | (refine below_drewN ?_ _)

set_option maxHeartbeats 800000 in
theorem Try.commentRef_t2_3 (s : ByteArray) (i : Nat) (w : World) (hs : s.size ≤ 140737488351232) (hi : i ≤ s.size)
    (h1 : Lib.occAt s.data.toList [62] i = false) (h2 : Lib.occAt s.data.toList [45, 62] i = false)
    (t : ByteArray) (ht : s.extract i s.size = t)
    (hz : 2 ≤ t.size) (hz' : t.size ≤ 2)
    (q1 : ByteArray) (hq1 : t.extract (t.size - 2) t.size = q1) (g1 : (q1.toList == [45, 45]) = false)
    (q2 : ByteArray) (hq2 : t.extract (t.size - 1) t.size = q2) (g2 : (q2.toList == [45]) = false)
    (hE : Ty.tailText t.data.toList = t.data.toList) :
    Calls Try.prog 19 #[.string s, .int .i64 i] w fun e w' => Try.RetSI (Ty.comment (s.data.toList.drop i)).1 ((i : Int) + ((Ty.comment (s.data.toList.drop i)).2 : Nat)) e ∧ Below w.heap.size w w' := by
  have HE := Lib.hid hE
  have HTL := Lib.hid (show t.data.toList = s.data.toList.drop i by rw [← ht]; exact Try.drop_list s i)
  have hts : t.size ≤ s.size := by rw [← ht, ByteArray.size_extract]; omega
  have HTZ := Lib.hid (Lib.size_eq t)
  have HZ2 : Hid (t.size = s.size - i) := by
    have e : t.size = s.size - i := by rw [← ht, ByteArray.size_extract]; omega
    exact e
  have hs1 : ∀ w : World, (Instr.slice 9 (.string t) (some (.int .i64 ((t.size : Int) - 2))) none none).run Try.prog w = .ok (.string q1) w := fun w => by
    rw [run_slice_string_l w 9 t Try.underlying9 .i64 ((t.size : Int) - 2) (by omega) (by omega), ← hq1, show ((t.size : Int) - 2).toNat = t.size - 2 from by omega]
  have hs2 : ∀ w : World, (Instr.slice 9 (.string t) (some (.int .i64 ((t.size : Int) - 1))) none none).run Try.prog w = .ok (.string q2) w := fun w => by
    rw [run_slice_string_l w 9 t Try.underlying9 .i64 ((t.size : Int) - 1) (by omega) (by omega), ← hq2, show ((t.size : Int) - 1).toNat = t.size - 1 from by omega]
  clear hE hq1 hq2
  have H1 := Lib.hid h1
  have H2 := Lib.hid h2
  have A1 := Lib.hid ((Try.atB_nat _ _ i).trans h1)
  have A2 := Lib.hid ((Try.atB_nat _ _ i).trans h2)
  have HL := Lib.hid (Lib.size_eq s).symm
  clear h1 h2
  go_enter Try.func19, Try.ntmps19
  go_wp2_with fail
  refine (Try.at_is s _ i false _ hs (by decide) (by decide) (by omega) (by omega) A1.out).mono ?_
  rintro e w' ⟨rfl, rfl⟩
  go_wp2_with fail
  refine (Try.at_is s _ i false _ hs (by decide) (by decide) (by omega) (by omega) A2.out).mono ?_
  rintro e w' ⟨rfl, rfl⟩
  go_wp2_with fail
  go_loopw [6] (fun k wr => ∃ j : Nat, i ≤ j ∧ j ≤ s.size ∧ k = .int .i64 j ∧ Hid (∀ q, i ≤ q → q < j → Lib.occAt s.data.toList Ty.endA q = false) ∧ Hid (∀ q, i ≤ q → q < j → Lib.occAt s.data.toList Ty.endB q = false) ∧ w = wr) (fun k _ => s.size - (intOf k).toNat)
  case atStart => exact ⟨i, Nat.le_refl _, hi, rfl, Lib.hid (fun q h1 h2 => by omega), Lib.hid (fun q h1 h2 => by omega), rfl⟩
  case round =>
    obtain ⟨j, hij, hj, rfl, HA, HB, rfl⟩ := hrel
    by_cases hlt : j < s.size
    · cases hoA : Lib.occAt s.data.toList Ty.endA j with
      | true =>
        have E := Lib.hid (Ty.comment_A hij (by rw [HL.out]; exact hj) HA.out HB.out hoA H1.out H2.out)
        have A3 := Lib.hid ((Try.atB_nat _ _ j).trans hoA)
        clear hoA
        go_wp2_with fail
        refine (Try.at_is s ⟨#[45, 45, 62]⟩ j true _ hs (by decide) (by decide) (by omega) (by omega) A3.out).mono ?_
        rintro e w' ⟨rfl, rfl⟩
        go_wp2
        go_ret2
        rw [E.out]
        refine ⟨⟨s.extract i j, ?_, Try.mid_list s i j⟩, Below.refl _ _⟩
        rw [show (i : Int) + ((j - i + 3 : Nat) : Int) = (j : Int) + 3 from by omega]
        rfl
      | false =>
        have A3 := Lib.hid ((Try.atB_nat _ _ j).trans hoA)
        have HA2 : Hid (∀ q, i ≤ q → q < j + 1 → Lib.occAt s.data.toList Ty.endA q = false) := fun q h1 h2 => by
          by_cases e : q = j
          · rw [e]; exact hoA
          · exact HA.out q h1 (by omega)
        clear hoA
        cases hoB : Lib.occAt s.data.toList Ty.endB j with
        | true =>
          have E := Lib.hid (Ty.comment_B hij (by rw [HL.out]; exact hj) HA.out HB.out hoB H1.out H2.out)
          have A4 := Lib.hid ((Try.atB_nat _ _ j).trans hoB)
          clear hoB
          go_wp2_with fail
          refine (Try.at_is s ⟨#[45, 45, 62]⟩ j false _ hs (by decide) (by decide) (by omega) (by omega) A3.out).mono ?_
          rintro e w' ⟨rfl, rfl⟩
          go_wp2_with fail
          refine (Try.at_is s ⟨#[45, 45, 33, 62]⟩ j true _ hs (by decide) (by decide) (by omega) (by omega) A4.out).mono ?_
          rintro e w' ⟨rfl, rfl⟩
          go_wp2
          go_ret2
          rw [E.out]
          refine ⟨⟨s.extract i j, ?_, Try.mid_list s i j⟩, Below.refl _ _⟩
          rw [show (i : Int) + ((j - i + 4 : Nat) : Int) = (j : Int) + 4 from by omega]
          rfl
        | false =>
          have A4 := Lib.hid ((Try.atB_nat _ _ j).trans hoB)
          have HB2 : Hid (∀ q, i ≤ q → q < j + 1 → Lib.occAt s.data.toList Ty.endB q = false) := fun q h1 h2 => by
            by_cases e : q = j
            · rw [e]; exact hoB
            · exact HB.out q h1 (by omega)
          clear hoB
          go_wp2_with fail
          refine (Try.at_is s ⟨#[45, 45, 62]⟩ j false _ hs (by decide) (by decide) (by omega) (by omega) A3.out).mono ?_
          rintro e w' ⟨rfl, rfl⟩
          go_wp2_with fail
          refine (Try.at_is s ⟨#[45, 45, 33, 62]⟩ j false _ hs (by decide) (by decide) (by omega) (by omega) A4.out).mono ?_
          rintro e w' ⟨rfl, rfl⟩
          go_wp2
          go_roundw
          case rel => exact ⟨j + 1, by omega, by omega, by go_num, HA2, HB2, by trivial⟩
          case measure => simp [intOf]; omega
    · obtain rfl : j = s.size := by omega
      have E := Lib.hid (Ty.comment_none (l := s.data.toList) (i := i) (by rw [HL.out]; exact HA.out) (by rw [HL.out]; exact HB.out) H1.out H2.out)
      go_wp2
      refine wp_loop_rounds 4 ?_
      rw [rounds_succ]
      go_wp2
      have d0 : decide (0 ≤ (t.size : Int) - 3) = false := by rw [decide_eq_false_iff_not]; omega
      have dd0 : decide ((3 : Int) ≤ (t.size : Int)) = false := by rw [decide_eq_false_iff_not]; omega
      have ddd0 : decide (3 ≤ t.size) = false := by rw [decide_eq_false_iff_not]; omega
      have dddd0 : (t.size : Int) < 3 := by omega
      go_quiet (fail)
      go_wp2
      rw [rounds_succ]
      go_wp2
      have d1 : decide (0 ≤ (t.size : Int) - 2) = true := by rw [decide_eq_true_eq]; omega
      have dd1 : (2 : Int) ≤ (t.size : Int) := by omega
      have ddd1 : (0 : Int) ≤ (t.size : Int) - 2 := by omega
      go_quiet (fail)
      go_wp2
      rw [rounds_succ]
      go_wp2
      have d2 : decide (0 ≤ (t.size : Int) - 1) = true := by rw [decide_eq_true_eq]; omega
      have dd2 : (1 : Int) ≤ (t.size : Int) := by omega
      have ddd2 : (0 : Int) ≤ (t.size : Int) - 1 := by omega
      go_quiet (fail)
      go_wp2
      rw [rounds_succ]
      go_wp2
      go_ret2
      rw [E.out, ← HTL.out, HE.out]
      refine ⟨⟨t, ?_, rfl⟩, ?_⟩
      · have := HZ2.out
        rw [← HTZ.out, show (i : Int) + ((t.size : Nat) : Int) = (s.size : Int) from by omega]
        rfl
      · repeat' first | exact ((Below.refl _ _).alloc (Nat.le_refl _) _) | (refine below_drewN ?_ _)

end Go.Proofs
