/- The contract of note.comment. -/
import Derived.Test.YthbeoddbgcdpnaaWalkNoteA
import Derived.LoopN
namespace Go.Proofs
open Go.RowKit
set_option linter.unusedSimpArgs false
set_option linter.unusedVariables false

theorem Try.keep0 {w w' : World} {m : Int} (hm : w.cell? ⟨0, 0, none⟩ = some (.int .i64 m)) (hb : Below w.heap.size w w') : w'.cell? ⟨0, 0, none⟩ = some (.int .i64 m) := by
  have hlt : 0 < w.heap.size := block_lt_of_cell hm
  rw [← hm]
  exact hb.cell (p := ⟨0, 0, none⟩) hlt

theorem Try.i42_0 (w : World) : (Instr.index 42 (.agg #[.string ⟨#[62]⟩, .string ⟨#[45, 62]⟩]) (.int .i64 0)).run Try.prog w = .ok (.string ⟨#[62]⟩) w := by kernel_rfl
theorem Try.i42_1 (w : World) : (Instr.index 42 (.agg #[.string ⟨#[62]⟩, .string ⟨#[45, 62]⟩]) (.int .i64 1)).run Try.prog w = .ok (.string ⟨#[45, 62]⟩) w := by kernel_rfl
theorem Try.i43_0 (w : World) : (Instr.index 43 (.agg #[.string ⟨#[45, 45, 33]⟩, .string ⟨#[45, 45]⟩, .string ⟨#[45]⟩]) (.int .i64 0)).run Try.prog w = .ok (.string ⟨#[45, 45, 33]⟩) w := by kernel_rfl
theorem Try.i43_1 (w : World) : (Instr.index 43 (.agg #[.string ⟨#[45, 45, 33]⟩, .string ⟨#[45, 45]⟩, .string ⟨#[45]⟩]) (.int .i64 1)).run Try.prog w = .ok (.string ⟨#[45, 45]⟩) w := by kernel_rfl
theorem Try.i43_2 (w : World) : (Instr.index 43 (.agg #[.string ⟨#[45, 45, 33]⟩, .string ⟨#[45, 45]⟩, .string ⟨#[45]⟩]) (.int .i64 2)).run Try.prog w = .ok (.string ⟨#[45]⟩) w := by kernel_rfl

set_option maxHeartbeats 400000 in
theorem Try.comment_p1 (s : ByteArray) (m : Int) (w : World) (hs : s.size < 4294967281)
    (hm : w.cell? ⟨0, 0, none⟩ = some (.int .i64 m))
    (h1 : Lib.hasPrefix s.data.toList [62] = true) :
    Calls Try.prog 15 #[.string s] w fun e w' => Try.RetSI (Ty.comment s.data.toList).1 ((Ty.comment s.data.toList).2 : Int) e ∧ Below w.heap.size w w' := by
  have H1 := Lib.hid h1
  have E : Hid (Ty.comment s.data.toList = ([], 1)) := by
    have e : Ty.comment s.data.toList = ([], 1) := by
      unfold Ty.comment
      rw [h1]; rfl
    exact e
  clear h1
  have i42_0 := Try.i42_0
  go_enter Try.func15, Try.ntmps15
  go_wp2
  refine wp_loop_rounds 3 ?_
  rw [rounds_succ]
  go_wp2_with fail
  refine (Try.hasPrefix_is s _ true _ H1.out).mono ?_
  rintro e w' ⟨rfl, rfl⟩
  go_wp2
  go_ret2
  rw [E.out]
  exact ⟨⟨_, rfl, rfl⟩, Below.refl _ _⟩

set_option maxHeartbeats 400000 in
theorem Try.comment_p2 (s : ByteArray) (m : Int) (w : World) (hs : s.size < 4294967281)
    (hm : w.cell? ⟨0, 0, none⟩ = some (.int .i64 m))
    (h1 : Lib.hasPrefix s.data.toList [62] = false)
    (h2 : Lib.hasPrefix s.data.toList [45, 62] = true) :
    Calls Try.prog 15 #[.string s] w fun e w' => Try.RetSI (Ty.comment s.data.toList).1 ((Ty.comment s.data.toList).2 : Int) e ∧ Below w.heap.size w w' := by
  have H1 := Lib.hid h1
  have H2 := Lib.hid h2
  have E : Hid (Ty.comment s.data.toList = ([], 2)) := by
    have e : Ty.comment s.data.toList = ([], 2) := by
      unfold Ty.comment
      rw [h1, h2]; rfl
    exact e
  clear h1 h2
  have i42_0 := Try.i42_0
  have i42_1 := Try.i42_1
  go_enter Try.func15, Try.ntmps15
  go_wp2
  refine wp_loop_rounds 3 ?_
  rw [rounds_succ]
  go_wp2_with fail
  refine (Try.hasPrefix_is s _ false _ H1.out).mono ?_
  rintro e w' ⟨rfl, rfl⟩
  go_wp2
  rw [rounds_succ]
  go_wp2_with fail
  refine (Try.hasPrefix_is s _ true _ H2.out).mono ?_
  rintro e w' ⟨rfl, rfl⟩
  go_wp2
  go_ret2
  rw [E.out]
  exact ⟨⟨_, rfl, rfl⟩, Below.refl _ _⟩

set_option maxHeartbeats 400000 in
theorem Try.comment_lt (s : ByteArray) (m : Int) (w : World) (hs : s.size < 4294967281)
    (hm : w.cell? ⟨0, 0, none⟩ = some (.int .i64 m))
    (h1 : Lib.hasPrefix s.data.toList [62] = false)
    (h2 : Lib.hasPrefix s.data.toList [45, 62] = false)
    (h3 : (Ty.upTo s.data.toList Ty.endA).1.length < (Ty.upTo s.data.toList Ty.endB).1.length) :
    Calls Try.prog 15 #[.string s] w fun e w' => Try.RetSI (Ty.comment s.data.toList).1 ((Ty.comment s.data.toList).2 : Int) e ∧ Below w.heap.size w w' := by
  have H1 := Lib.hid h1
  have H2 := Lib.hid h2
  have HM := Lib.hid hm
  have H3 := Lib.hid h3
  have E : Hid (Ty.comment s.data.toList = Ty.upTo s.data.toList Ty.endA) := by
    have e : Ty.comment s.data.toList = Ty.upTo s.data.toList Ty.endA := by
      unfold Ty.comment
      rw [h1, h2, if_neg (by decide), if_neg (by decide), if_pos h3]
    exact e
  clear h1 h2 h3 hm
  have i42_0 := Try.i42_0
  have i42_1 := Try.i42_1
  go_enter Try.func15, Try.ntmps15
  go_wp2
  refine wp_loop_rounds 3 ?_
  rw [rounds_succ]
  go_wp2_with fail
  refine (Try.hasPrefix_is s _ false _ H1.out).mono ?_
  rintro e w' ⟨rfl, rfl⟩
  go_wp2
  rw [rounds_succ]
  go_wp2_with fail
  refine (Try.hasPrefix_is s _ false _ H2.out).mono ?_
  rintro e w' ⟨rfl, rfl⟩
  go_wp2
  rw [rounds_succ]
  go_wp2_with fail
  refine (Try.upTo_any s ⟨#[45, 45, 62]⟩ m _ hs (by decide) HM.out).mono ?_
  rintro e w1 ⟨⟨t1, rfl, ht1⟩, hb1⟩
  have HT1 := Lib.hid (show t1.data.toList = (Ty.upTo s.data.toList Ty.endA).1 from ht1)
  have HM1 := Lib.hid (Try.keep0 HM.out hb1)
  clear ht1
  go_wp2_with fail
  refine (Try.upTo_any s ⟨#[45, 45, 33, 62]⟩ m _ hs (by decide) HM1.out).mono ?_
  rintro e w2 ⟨⟨t2, rfl, ht2⟩, hb2⟩
  have HT2 := Lib.hid (show t2.data.toList = (Ty.upTo s.data.toList Ty.endB).1 from ht2)
  have hlt : t1.size < t2.size := by rw [Lib.size_eq, Lib.size_eq, HT1.out, HT2.out]; exact H3.out
  clear ht2
  go_wp2
  go_ret2
  rw [E.out]
  exact ⟨⟨_, rfl, HT1.out⟩, hb1.trans (hb2.mono hb1.size)⟩

set_option maxHeartbeats 400000 in
theorem Try.comment_gt (s : ByteArray) (m : Int) (w : World) (hs : s.size < 4294967281)
    (hm : w.cell? ⟨0, 0, none⟩ = some (.int .i64 m))
    (h1 : Lib.hasPrefix s.data.toList [62] = false)
    (h2 : Lib.hasPrefix s.data.toList [45, 62] = false)
    (h3 : ¬ (Ty.upTo s.data.toList Ty.endA).1.length < (Ty.upTo s.data.toList Ty.endB).1.length)
    (h4 : (Ty.upTo s.data.toList Ty.endB).1.length < (Ty.upTo s.data.toList Ty.endA).1.length) :
    Calls Try.prog 15 #[.string s] w fun e w' => Try.RetSI (Ty.comment s.data.toList).1 ((Ty.comment s.data.toList).2 : Int) e ∧ Below w.heap.size w w' := by
  have H1 := Lib.hid h1
  have H2 := Lib.hid h2
  have HM := Lib.hid hm
  have H3 := Lib.hid h3
  have H4 := Lib.hid h4
  have E : Hid (Ty.comment s.data.toList = Ty.upTo s.data.toList Ty.endB) := by
    have e : Ty.comment s.data.toList = Ty.upTo s.data.toList Ty.endB := by
      unfold Ty.comment
      rw [h1, h2, if_neg (by decide), if_neg (by decide), if_neg h3, if_pos h4]
    exact e
  clear h1 h2 h3 h4 hm
  have i42_0 := Try.i42_0
  have i42_1 := Try.i42_1
  go_enter Try.func15, Try.ntmps15
  go_wp2
  refine wp_loop_rounds 3 ?_
  rw [rounds_succ]
  go_wp2_with fail
  refine (Try.hasPrefix_is s _ false _ H1.out).mono ?_
  rintro e w' ⟨rfl, rfl⟩
  go_wp2
  rw [rounds_succ]
  go_wp2_with fail
  refine (Try.hasPrefix_is s _ false _ H2.out).mono ?_
  rintro e w' ⟨rfl, rfl⟩
  go_wp2
  rw [rounds_succ]
  go_wp2_with fail
  refine (Try.upTo_any s ⟨#[45, 45, 62]⟩ m _ hs (by decide) HM.out).mono ?_
  rintro e w1 ⟨⟨t1, rfl, ht1⟩, hb1⟩
  have HT1 := Lib.hid (show t1.data.toList = (Ty.upTo s.data.toList Ty.endA).1 from ht1)
  have HM1 := Lib.hid (Try.keep0 HM.out hb1)
  clear ht1
  go_wp2_with fail
  refine (Try.upTo_any s ⟨#[45, 45, 33, 62]⟩ m _ hs (by decide) HM1.out).mono ?_
  rintro e w2 ⟨⟨t2, rfl, ht2⟩, hb2⟩
  have HT2 := Lib.hid (show t2.data.toList = (Ty.upTo s.data.toList Ty.endB).1 from ht2)
  have hlt : t2.size < t1.size := by rw [Lib.size_eq, Lib.size_eq, HT1.out, HT2.out]; exact H4.out
  clear ht2
  go_wp2
  go_ret2
  rw [E.out]
  exact ⟨⟨_, rfl, HT2.out⟩, hb1.trans (hb2.mono hb1.size)⟩

set_option maxHeartbeats 400000 in
theorem Try.comment_t0 (s : ByteArray) (m : Int) (w : World) (hs : s.size < 4294967281)
    (hm : w.cell? ⟨0, 0, none⟩ = some (.int .i64 m))
    (h1 : Lib.hasPrefix s.data.toList [62] = false)
    (h2 : Lib.hasPrefix s.data.toList [45, 62] = false)
    (h3 : ¬ (Ty.upTo s.data.toList Ty.endA).1.length < (Ty.upTo s.data.toList Ty.endB).1.length)
    (h4 : ¬ (Ty.upTo s.data.toList Ty.endB).1.length < (Ty.upTo s.data.toList Ty.endA).1.length)
    (g0 : Lib.hasSuffix s.data.toList [45, 45, 33] = true) :
    Calls Try.prog 15 #[.string s] w fun e w' => Try.RetSI (Ty.comment s.data.toList).1 ((Ty.comment s.data.toList).2 : Int) e ∧ Below w.heap.size w w' := by
  have H1 := Lib.hid h1
  have H2 := Lib.hid h2
  have HM := Lib.hid hm
  have H3 := Lib.hid h3
  have H4 := Lib.hid h4
  have G0 := Lib.hid g0
  have E : Hid (Ty.comment s.data.toList = (s.data.toList.take (s.data.toList.length - 3), s.data.toList.length)) := by
    have e : Ty.comment s.data.toList = (s.data.toList.take (s.data.toList.length - 3), s.data.toList.length) := by
      unfold Ty.comment
      rw [h1, h2, if_neg (by decide), if_neg (by decide), if_neg h3, if_neg h4]
      unfold Ty.tailText
      rw [g0, if_pos rfl]
    exact e
  clear h1 h2 h3 h4 hm g0
  have i42_0 := Try.i42_0
  have i42_1 := Try.i42_1
  have i43_0 := Try.i43_0
  go_enter Try.func15, Try.ntmps15
  go_wp2
  refine wp_loop_rounds 3 ?_
  rw [rounds_succ]
  go_wp2_with fail
  refine (Try.hasPrefix_is s _ false _ H1.out).mono ?_
  rintro e w' ⟨rfl, rfl⟩
  go_wp2
  rw [rounds_succ]
  go_wp2_with fail
  refine (Try.hasPrefix_is s _ false _ H2.out).mono ?_
  rintro e w' ⟨rfl, rfl⟩
  go_wp2
  rw [rounds_succ]
  go_wp2_with fail
  refine (Try.upTo_any s ⟨#[45, 45, 62]⟩ m _ hs (by decide) HM.out).mono ?_
  rintro e w1 ⟨⟨t1, rfl, ht1⟩, hb1⟩
  have HT1 := Lib.hid (show t1.data.toList = (Ty.upTo s.data.toList Ty.endA).1 from ht1)
  have HM1 := Lib.hid (Try.keep0 HM.out hb1)
  clear ht1
  go_wp2_with fail
  refine (Try.upTo_any s ⟨#[45, 45, 33, 62]⟩ m _ hs (by decide) HM1.out).mono ?_
  rintro e w2 ⟨⟨t2, rfl, ht2⟩, hb2⟩
  have HT2 := Lib.hid (show t2.data.toList = (Ty.upTo s.data.toList Ty.endB).1 from ht2)
  have hlt : ¬ t1.size < t2.size := by rw [Lib.size_eq, Lib.size_eq, HT1.out, HT2.out]; exact H3.out
  have hlt2 : ¬ t2.size < t1.size := by rw [Lib.size_eq, Lib.size_eq, HT1.out, HT2.out]; exact H4.out
  clear ht2
  go_wp2
  refine wp_loop_rounds 4 ?_
  rw [rounds_succ]
  go_wp2_with fail
  refine (Try.cutSuffix_is s _ true _ (by omega) G0.out).mono ?_
  rintro e w' ⟨⟨t, rfl, ht⟩, rfl⟩
  have HS0 := Lib.hid ht
  clear ht
  go_wp2
  go_ret2
  rw [E.out]
  exact ⟨⟨_, by rw [← Lib.size_eq]; rfl, by rw [HS0.out]; unfold Lib.trimSuffix; rw [show Lib.hasSuffix s.data.toList _ = true from G0.out, if_pos rfl]; rfl⟩, hb1.trans (hb2.mono hb1.size)⟩

set_option maxHeartbeats 400000 in
theorem Try.comment_t1 (s : ByteArray) (m : Int) (w : World) (hs : s.size < 4294967281)
    (hm : w.cell? ⟨0, 0, none⟩ = some (.int .i64 m))
    (h1 : Lib.hasPrefix s.data.toList [62] = false)
    (h2 : Lib.hasPrefix s.data.toList [45, 62] = false)
    (h3 : ¬ (Ty.upTo s.data.toList Ty.endA).1.length < (Ty.upTo s.data.toList Ty.endB).1.length)
    (h4 : ¬ (Ty.upTo s.data.toList Ty.endB).1.length < (Ty.upTo s.data.toList Ty.endA).1.length)
    (g0 : Lib.hasSuffix s.data.toList [45, 45, 33] = false)
    (g1 : Lib.hasSuffix s.data.toList [45, 45] = true) :
    Calls Try.prog 15 #[.string s] w fun e w' => Try.RetSI (Ty.comment s.data.toList).1 ((Ty.comment s.data.toList).2 : Int) e ∧ Below w.heap.size w w' := by
  have H1 := Lib.hid h1
  have H2 := Lib.hid h2
  have HM := Lib.hid hm
  have H3 := Lib.hid h3
  have H4 := Lib.hid h4
  have G0 := Lib.hid g0
  have G1 := Lib.hid g1
  have E : Hid (Ty.comment s.data.toList = (s.data.toList.take (s.data.toList.length - 2), s.data.toList.length)) := by
    have e : Ty.comment s.data.toList = (s.data.toList.take (s.data.toList.length - 2), s.data.toList.length) := by
      unfold Ty.comment
      rw [h1, h2, if_neg (by decide), if_neg (by decide), if_neg h3, if_neg h4]
      unfold Ty.tailText
      rw [g0, g1, if_neg (by decide), if_pos rfl]
    exact e
  clear h1 h2 h3 h4 hm g0 g1
  have i42_0 := Try.i42_0
  have i42_1 := Try.i42_1
  have i43_0 := Try.i43_0
  have i43_1 := Try.i43_1
  go_enter Try.func15, Try.ntmps15
  go_wp2
  refine wp_loop_rounds 3 ?_
  rw [rounds_succ]
  go_wp2_with fail
  refine (Try.hasPrefix_is s _ false _ H1.out).mono ?_
  rintro e w' ⟨rfl, rfl⟩
  go_wp2
  rw [rounds_succ]
  go_wp2_with fail
  refine (Try.hasPrefix_is s _ false _ H2.out).mono ?_
  rintro e w' ⟨rfl, rfl⟩
  go_wp2
  rw [rounds_succ]
  go_wp2_with fail
  refine (Try.upTo_any s ⟨#[45, 45, 62]⟩ m _ hs (by decide) HM.out).mono ?_
  rintro e w1 ⟨⟨t1, rfl, ht1⟩, hb1⟩
  have HT1 := Lib.hid (show t1.data.toList = (Ty.upTo s.data.toList Ty.endA).1 from ht1)
  have HM1 := Lib.hid (Try.keep0 HM.out hb1)
  clear ht1
  go_wp2_with fail
  refine (Try.upTo_any s ⟨#[45, 45, 33, 62]⟩ m _ hs (by decide) HM1.out).mono ?_
  rintro e w2 ⟨⟨t2, rfl, ht2⟩, hb2⟩
  have HT2 := Lib.hid (show t2.data.toList = (Ty.upTo s.data.toList Ty.endB).1 from ht2)
  have hlt : ¬ t1.size < t2.size := by rw [Lib.size_eq, Lib.size_eq, HT1.out, HT2.out]; exact H3.out
  have hlt2 : ¬ t2.size < t1.size := by rw [Lib.size_eq, Lib.size_eq, HT1.out, HT2.out]; exact H4.out
  clear ht2
  go_wp2
  refine wp_loop_rounds 4 ?_
  rw [rounds_succ]
  go_wp2_with fail
  refine (Try.cutSuffix_is s _ false _ (by omega) G0.out).mono ?_
  rintro e w' ⟨⟨t, rfl, ht⟩, rfl⟩
  have HS0 := Lib.hid ht
  clear ht
  go_wp2
  rw [rounds_succ]
  go_wp2_with fail
  refine (Try.cutSuffix_is s _ true _ (by omega) G1.out).mono ?_
  rintro e w' ⟨⟨t, rfl, ht⟩, rfl⟩
  have HS1 := Lib.hid ht
  clear ht
  go_wp2
  go_ret2
  rw [E.out]
  exact ⟨⟨_, by rw [← Lib.size_eq]; rfl, by rw [HS1.out]; unfold Lib.trimSuffix; rw [show Lib.hasSuffix s.data.toList _ = true from G1.out, if_pos rfl]; rfl⟩, hb1.trans (hb2.mono hb1.size)⟩

set_option maxHeartbeats 400000 in
theorem Try.comment_t2 (s : ByteArray) (m : Int) (w : World) (hs : s.size < 4294967281)
    (hm : w.cell? ⟨0, 0, none⟩ = some (.int .i64 m))
    (h1 : Lib.hasPrefix s.data.toList [62] = false)
    (h2 : Lib.hasPrefix s.data.toList [45, 62] = false)
    (h3 : ¬ (Ty.upTo s.data.toList Ty.endA).1.length < (Ty.upTo s.data.toList Ty.endB).1.length)
    (h4 : ¬ (Ty.upTo s.data.toList Ty.endB).1.length < (Ty.upTo s.data.toList Ty.endA).1.length)
    (g0 : Lib.hasSuffix s.data.toList [45, 45, 33] = false)
    (g1 : Lib.hasSuffix s.data.toList [45, 45] = false)
    (g2 : Lib.hasSuffix s.data.toList [45] = true) :
    Calls Try.prog 15 #[.string s] w fun e w' => Try.RetSI (Ty.comment s.data.toList).1 ((Ty.comment s.data.toList).2 : Int) e ∧ Below w.heap.size w w' := by
  have H1 := Lib.hid h1
  have H2 := Lib.hid h2
  have HM := Lib.hid hm
  have H3 := Lib.hid h3
  have H4 := Lib.hid h4
  have G0 := Lib.hid g0
  have G1 := Lib.hid g1
  have G2 := Lib.hid g2
  have E : Hid (Ty.comment s.data.toList = (s.data.toList.take (s.data.toList.length - 1), s.data.toList.length)) := by
    have e : Ty.comment s.data.toList = (s.data.toList.take (s.data.toList.length - 1), s.data.toList.length) := by
      unfold Ty.comment
      rw [h1, h2, if_neg (by decide), if_neg (by decide), if_neg h3, if_neg h4]
      unfold Ty.tailText
      rw [g0, g1, g2, if_neg (by decide), if_neg (by decide), if_pos rfl]
    exact e
  clear h1 h2 h3 h4 hm g0 g1 g2
  have i42_0 := Try.i42_0
  have i42_1 := Try.i42_1
  have i43_0 := Try.i43_0
  have i43_1 := Try.i43_1
  have i43_2 := Try.i43_2
  go_enter Try.func15, Try.ntmps15
  go_wp2
  refine wp_loop_rounds 3 ?_
  rw [rounds_succ]
  go_wp2_with fail
  refine (Try.hasPrefix_is s _ false _ H1.out).mono ?_
  rintro e w' ⟨rfl, rfl⟩
  go_wp2
  rw [rounds_succ]
  go_wp2_with fail
  refine (Try.hasPrefix_is s _ false _ H2.out).mono ?_
  rintro e w' ⟨rfl, rfl⟩
  go_wp2
  rw [rounds_succ]
  go_wp2_with fail
  refine (Try.upTo_any s ⟨#[45, 45, 62]⟩ m _ hs (by decide) HM.out).mono ?_
  rintro e w1 ⟨⟨t1, rfl, ht1⟩, hb1⟩
  have HT1 := Lib.hid (show t1.data.toList = (Ty.upTo s.data.toList Ty.endA).1 from ht1)
  have HM1 := Lib.hid (Try.keep0 HM.out hb1)
  clear ht1
  go_wp2_with fail
  refine (Try.upTo_any s ⟨#[45, 45, 33, 62]⟩ m _ hs (by decide) HM1.out).mono ?_
  rintro e w2 ⟨⟨t2, rfl, ht2⟩, hb2⟩
  have HT2 := Lib.hid (show t2.data.toList = (Ty.upTo s.data.toList Ty.endB).1 from ht2)
  have hlt : ¬ t1.size < t2.size := by rw [Lib.size_eq, Lib.size_eq, HT1.out, HT2.out]; exact H3.out
  have hlt2 : ¬ t2.size < t1.size := by rw [Lib.size_eq, Lib.size_eq, HT1.out, HT2.out]; exact H4.out
  clear ht2
  go_wp2
  refine wp_loop_rounds 4 ?_
  rw [rounds_succ]
  go_wp2_with fail
  refine (Try.cutSuffix_is s _ false _ (by omega) G0.out).mono ?_
  rintro e w' ⟨⟨t, rfl, ht⟩, rfl⟩
  have HS0 := Lib.hid ht
  clear ht
  go_wp2
  rw [rounds_succ]
  go_wp2_with fail
  refine (Try.cutSuffix_is s _ false _ (by omega) G1.out).mono ?_
  rintro e w' ⟨⟨t, rfl, ht⟩, rfl⟩
  have HS1 := Lib.hid ht
  clear ht
  go_wp2
  rw [rounds_succ]
  go_wp2_with fail
  refine (Try.cutSuffix_is s _ true _ (by omega) G2.out).mono ?_
  rintro e w' ⟨⟨t, rfl, ht⟩, rfl⟩
  have HS2 := Lib.hid ht
  clear ht
  go_wp2
  go_ret2
  rw [E.out]
  exact ⟨⟨_, by rw [← Lib.size_eq]; rfl, by rw [HS2.out]; unfold Lib.trimSuffix; rw [show Lib.hasSuffix s.data.toList _ = true from G2.out, if_pos rfl]; rfl⟩, hb1.trans (hb2.mono hb1.size)⟩

set_option maxHeartbeats 400000 in
theorem Try.comment_t3 (s : ByteArray) (m : Int) (w : World) (hs : s.size < 4294967281)
    (hm : w.cell? ⟨0, 0, none⟩ = some (.int .i64 m))
    (h1 : Lib.hasPrefix s.data.toList [62] = false)
    (h2 : Lib.hasPrefix s.data.toList [45, 62] = false)
    (h3 : ¬ (Ty.upTo s.data.toList Ty.endA).1.length < (Ty.upTo s.data.toList Ty.endB).1.length)
    (h4 : ¬ (Ty.upTo s.data.toList Ty.endB).1.length < (Ty.upTo s.data.toList Ty.endA).1.length)
    (g0 : Lib.hasSuffix s.data.toList [45, 45, 33] = false)
    (g1 : Lib.hasSuffix s.data.toList [45, 45] = false)
    (g2 : Lib.hasSuffix s.data.toList [45] = false) :
    Calls Try.prog 15 #[.string s] w fun e w' => Try.RetSI (Ty.comment s.data.toList).1 ((Ty.comment s.data.toList).2 : Int) e ∧ Below w.heap.size w w' := by
  have H1 := Lib.hid h1
  have H2 := Lib.hid h2
  have HM := Lib.hid hm
  have H3 := Lib.hid h3
  have H4 := Lib.hid h4
  have G0 := Lib.hid g0
  have G1 := Lib.hid g1
  have G2 := Lib.hid g2
  have E : Hid (Ty.comment s.data.toList = (s.data.toList, s.data.toList.length)) := by
    have e : Ty.comment s.data.toList = (s.data.toList, s.data.toList.length) := by
      unfold Ty.comment
      rw [h1, h2, if_neg (by decide), if_neg (by decide), if_neg h3, if_neg h4]
      unfold Ty.tailText
      rw [g0, g1, g2, if_neg (by decide), if_neg (by decide), if_neg (by decide)]
    exact e
  clear h1 h2 h3 h4 hm g0 g1 g2
  have i42_0 := Try.i42_0
  have i42_1 := Try.i42_1
  have i43_0 := Try.i43_0
  have i43_1 := Try.i43_1
  have i43_2 := Try.i43_2
  go_enter Try.func15, Try.ntmps15
  go_wp2
  refine wp_loop_rounds 3 ?_
  rw [rounds_succ]
  go_wp2_with fail
  refine (Try.hasPrefix_is s _ false _ H1.out).mono ?_
  rintro e w' ⟨rfl, rfl⟩
  go_wp2
  rw [rounds_succ]
  go_wp2_with fail
  refine (Try.hasPrefix_is s _ false _ H2.out).mono ?_
  rintro e w' ⟨rfl, rfl⟩
  go_wp2
  rw [rounds_succ]
  go_wp2_with fail
  refine (Try.upTo_any s ⟨#[45, 45, 62]⟩ m _ hs (by decide) HM.out).mono ?_
  rintro e w1 ⟨⟨t1, rfl, ht1⟩, hb1⟩
  have HT1 := Lib.hid (show t1.data.toList = (Ty.upTo s.data.toList Ty.endA).1 from ht1)
  have HM1 := Lib.hid (Try.keep0 HM.out hb1)
  clear ht1
  go_wp2_with fail
  refine (Try.upTo_any s ⟨#[45, 45, 33, 62]⟩ m _ hs (by decide) HM1.out).mono ?_
  rintro e w2 ⟨⟨t2, rfl, ht2⟩, hb2⟩
  have HT2 := Lib.hid (show t2.data.toList = (Ty.upTo s.data.toList Ty.endB).1 from ht2)
  have hlt : ¬ t1.size < t2.size := by rw [Lib.size_eq, Lib.size_eq, HT1.out, HT2.out]; exact H3.out
  have hlt2 : ¬ t2.size < t1.size := by rw [Lib.size_eq, Lib.size_eq, HT1.out, HT2.out]; exact H4.out
  clear ht2
  go_wp2
  refine wp_loop_rounds 4 ?_
  rw [rounds_succ]
  go_wp2_with fail
  refine (Try.cutSuffix_is s _ false _ (by omega) G0.out).mono ?_
  rintro e w' ⟨⟨t, rfl, ht⟩, rfl⟩
  have HS0 := Lib.hid ht
  clear ht
  go_wp2
  rw [rounds_succ]
  go_wp2_with fail
  refine (Try.cutSuffix_is s _ false _ (by omega) G1.out).mono ?_
  rintro e w' ⟨⟨t, rfl, ht⟩, rfl⟩
  have HS1 := Lib.hid ht
  clear ht
  go_wp2
  rw [rounds_succ]
  go_wp2_with fail
  refine (Try.cutSuffix_is s _ false _ (by omega) G2.out).mono ?_
  rintro e w' ⟨⟨t, rfl, ht⟩, rfl⟩
  have HS2 := Lib.hid ht
  clear ht
  go_wp2
  rw [rounds_succ]
  go_wp2
  go_ret2
  rw [E.out]
  exact ⟨⟨_, by rw [← Lib.size_eq]; rfl, rfl⟩, hb1.trans (hb2.mono hb1.size)⟩

theorem Try.comment_any (s : ByteArray) (m : Int) (w : World) (hs : s.size < 4294967281) (hm : w.cell? ⟨0, 0, none⟩ = some (.int .i64 m)) :
    Calls Try.prog 15 #[.string s] w fun e w' => Try.RetSI (Ty.comment s.data.toList).1 ((Ty.comment s.data.toList).2 : Int) e ∧ Below w.heap.size w w' := by
  cases h1 : Lib.hasPrefix s.data.toList [62] with
  | true => exact Try.comment_p1 s m w hs hm h1
  | false =>
    cases h2 : Lib.hasPrefix s.data.toList [45, 62] with
    | true => exact Try.comment_p2 s m w hs hm h1 h2
    | false =>
      by_cases h3 : (Ty.upTo s.data.toList Ty.endA).1.length < (Ty.upTo s.data.toList Ty.endB).1.length
      · exact Try.comment_lt s m w hs hm h1 h2 h3
      · by_cases h4 : (Ty.upTo s.data.toList Ty.endB).1.length < (Ty.upTo s.data.toList Ty.endA).1.length
        · exact Try.comment_gt s m w hs hm h1 h2 h3 h4
        · cases g0 : Lib.hasSuffix s.data.toList [45, 45, 33] with
          | true => exact Try.comment_t0 s m w hs hm h1 h2 h3 h4 g0
          | false =>
            cases g1 : Lib.hasSuffix s.data.toList [45, 45] with
            | true => exact Try.comment_t1 s m w hs hm h1 h2 h3 h4 g0 g1
            | false =>
              cases g2 : Lib.hasSuffix s.data.toList [45] with
              | true => exact Try.comment_t2 s m w hs hm h1 h2 h3 h4 g0 g1 g2
              | false => exact Try.comment_t3 s m w hs hm h1 h2 h3 h4 g0 g1 g2
end Go.Proofs
