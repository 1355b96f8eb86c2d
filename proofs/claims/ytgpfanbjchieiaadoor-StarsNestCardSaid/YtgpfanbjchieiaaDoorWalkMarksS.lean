/- Contracts of class.marks and class.Punct. -/
import Derived.Test.YtgpfanbjchieiaaDoorWalkClassS
import Derived.LoopN
import Derived.Laws.Rows
import Derived.Laws.Tables
import Derived.Laws.CopyOwn
namespace Go.Proofs
open Go.RowKit
set_option linter.unusedSimpArgs false
set_option linter.unusedVariables false

def Tryd.marksC : Array Value := #[.int .i32 33, .int .i32 47, .int .i32 58, .int .i32 64, .int .i32 91, .int .i32 96, .int .i32 123, .int .i32 126, .int .i32 161, .int .i32 169, .int .i32 171, .int .i32 172, .int .i32 174, .int .i32 177, .int .i32 180, .int .i32 180, .int .i32 182, .int .i32 184, .int .i32 187, .int .i32 187, .int .i32 191, .int .i32 191, .int .i32 215, .int .i32 215, .int .i32 247, .int .i32 247, .int .i32 8208, .int .i32 8231, .int .i32 8240, .int .i32 8286, .int .i32 8352, .int .i32 8384, .int .i32 8592, .int .i32 9215, .int .i32 9472, .int .i32 10175, .int .i32 11776, .int .i32 11869, .int .i32 12289, .int .i32 12291, .int .i32 12296, .int .i32 12320, .int .i32 65040, .int .i32 65049, .int .i32 65072, .int .i32 65131, .int .i32 65281, .int .i32 65295, .int .i32 65306, .int .i32 65312, .int .i32 65339, .int .i32 65344, .int .i32 65371, .int .i32 65381, .int .i32 127744, .int .i32 129791, .int .i32 0, .int .i32 0, .int .i32 0, .int .i32 0, .int .i32 0, .int .i32 0]
def Tryd.marksV : Value := .agg Tryd.marksC
def Tryd.pairs : List (Int × Int) := [(33, 47), (58, 64), (91, 96), (123, 126), (161, 169), (171, 172), (174, 177), (180, 180), (182, 184), (187, 187), (191, 191), (215, 215), (247, 247), (8208, 8231), (8240, 8286), (8352, 8384), (8592, 9215), (9472, 10175), (11776, 11869), (12289, 12291), (12296, 12320), (65040, 65049), (65072, 65131), (65281, 65295), (65306, 65312), (65339, 65344), (65371, 65381), (127744, 129791), (0, 0), (0, 0), (0, 0)]

theorem Tryd.build_pair (a b : Int) (w : World) : (Instr.build 62 #[(0, .int .i32 a), (1, .int .i32 b)]).run Tryd.prog w = .ok (.agg #[.int .i32 a, .int .i32 b]) w :=
  run_build w _ _ _ (by kernel_rfl)
theorem Tryd.build_marks (w : World) : (Instr.build 63 #[(0, .agg #[.int .i32 33, .int .i32 47]), (1, .agg #[.int .i32 58, .int .i32 64]), (2, .agg #[.int .i32 91, .int .i32 96]), (3, .agg #[.int .i32 123, .int .i32 126]), (4, .agg #[.int .i32 161, .int .i32 169]), (5, .agg #[.int .i32 171, .int .i32 172]), (6, .agg #[.int .i32 174, .int .i32 177]), (7, .agg #[.int .i32 180, .int .i32 180]), (8, .agg #[.int .i32 182, .int .i32 184]), (9, .agg #[.int .i32 187, .int .i32 187]), (10, .agg #[.int .i32 191, .int .i32 191]), (11, .agg #[.int .i32 215, .int .i32 215]), (12, .agg #[.int .i32 247, .int .i32 247]), (13, .agg #[.int .i32 8208, .int .i32 8231]), (14, .agg #[.int .i32 8240, .int .i32 8286]), (15, .agg #[.int .i32 8352, .int .i32 8384]), (16, .agg #[.int .i32 8592, .int .i32 9215]), (17, .agg #[.int .i32 9472, .int .i32 10175]), (18, .agg #[.int .i32 11776, .int .i32 11869]), (19, .agg #[.int .i32 12289, .int .i32 12291]), (20, .agg #[.int .i32 12296, .int .i32 12320]), (21, .agg #[.int .i32 65040, .int .i32 65049]), (22, .agg #[.int .i32 65072, .int .i32 65131]), (23, .agg #[.int .i32 65281, .int .i32 65295]), (24, .agg #[.int .i32 65306, .int .i32 65312]), (25, .agg #[.int .i32 65339, .int .i32 65344]), (26, .agg #[.int .i32 65371, .int .i32 65381]), (27, .agg #[.int .i32 127744, .int .i32 129791])]).run Tryd.prog w = .ok Tryd.marksV w :=
  run_build w _ _ _ (by kernel_rfl)

set_option maxHeartbeats 4000000 in
theorem Tryd.marks_any (w : World) : Calls Tryd.prog 37 #[] w fun e w' => e = .returned Tryd.marksV ∧ Below w.heap.size w w' := by
  have hp := Tryd.build_pair
  have hq := Tryd.build_marks
  go_enter Tryd.func37, Tryd.ntmps37
  go_wp2_with (refine wpList_store_row rfl _ _ _ rfl w.heap.size Tryd.marksC rfl rfl _ _ (heap_alloc_new _ _) (by kernel_rfl) (by kernel_rfl) (by kernel_rfl) ?_)
  exact bodyPost_ret (v := Tryd.marksV) (results_cell_row (p := 0) (ty := 63) rfl _ _ w.heap.size 63 Tryd.marksC (0, 0) _ rfl (setRow_heap _ _ _ _ _ _ (heap_alloc_new _ _)) Tryd.underlying63 rfl rfl) rfl ⟨rfl, below_setRow ((Below.refl _ w).alloc (Nat.le_refl _) _) (Nat.le_refl _) _⟩
end Go.Proofs
