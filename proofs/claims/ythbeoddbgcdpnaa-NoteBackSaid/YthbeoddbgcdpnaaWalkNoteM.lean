/- The document's comment: its contract. -/
import Derived.Test.YthbeoddbgcdpnaaWalkNoteJ
import Derived.Test.YthbeoddbgcdpnaaWalkNoteK
import Derived.Test.YthbeoddbgcdpnaaWalkNoteL
import Derived.LoopN
import Derived.Deep.QuietTactic
import Derived.BigQuiet
namespace Go.Proofs
open Go.RowKit
set_option linter.unusedSimpArgs false
set_option linter.unusedVariables false

theorem Try.suffix_of (t q : ByteArray) (p : List UInt8) (n : Nat) (hn : p.length = n) (h : n ≤ t.size) (hq : t.extract (t.size - n) t.size = q) : (q.toList == p) = Lib.hasSuffix t.data.toList p := by
  subst hn
  rw [Lib.toList_data, ← hq, Try.drop_list, ← Lib.hasSuffix_of_drop, ← Lib.size_eq, decide_eq_true h, Bool.true_and]
theorem Try.suffix_short (t : ByteArray) (p : List UInt8) (h : t.size < p.length) : Lib.hasSuffix t.data.toList p = false := by
  rw [← Lib.hasSuffix_of_drop, ← Lib.size_eq, decide_eq_false (by omega), Bool.false_and]

theorem Try.commentRef_any (s : ByteArray) (i : Nat) (w : World) (hs : s.size ≤ 140737488351232) (hi : i ≤ s.size) :
    Calls Try.prog 19 #[.string s, .int .i64 i] w fun e w' => Try.RetSI (Ty.comment (s.data.toList.drop i)).1 ((i : Int) + ((Ty.comment (s.data.toList.drop i)).2 : Nat)) e ∧ Below w.heap.size w w' := by
  cases h1 : Lib.occAt s.data.toList [62] i with
  | true => exact Try.commentRef_p1 s i w hs hi h1
  | false =>
    cases h2 : Lib.occAt s.data.toList [45, 62] i with
    | true => exact Try.commentRef_p2 s i w hs hi h1 h2
    | false =>
      obtain ⟨t, ht⟩ : ∃ t, s.extract i s.size = t := ⟨_, rfl⟩
      obtain ⟨q0, hq0⟩ : ∃ q, t.extract (t.size - 3) t.size = q := ⟨_, rfl⟩
      obtain ⟨q1, hq1⟩ : ∃ q, t.extract (t.size - 2) t.size = q := ⟨_, rfl⟩
      obtain ⟨q2, hq2⟩ : ∃ q, t.extract (t.size - 1) t.size = q := ⟨_, rfl⟩
      have hT : Ty.tailText t.data.toList = (if Lib.hasSuffix t.data.toList [45, 45, 33] then t.data.toList.take (t.data.toList.length - 3)
        else if Lib.hasSuffix t.data.toList [45, 45] then t.data.toList.take (t.data.toList.length - 2)
        else if Lib.hasSuffix t.data.toList [45] then t.data.toList.take (t.data.toList.length - 1) else t.data.toList) := rfl
      have f0 := fun h => Try.suffix_of t q0 [45, 45, 33] 3 rfl h hq0
      have f1 := fun h => Try.suffix_of t q1 [45, 45] 2 rfl h hq1
      have f2 := fun h => Try.suffix_of t q2 [45] 1 rfl h hq2
      have z0 := Try.suffix_short t [45, 45, 33]
      have z1 := Try.suffix_short t [45, 45]
      have z2 := Try.suffix_short t [45]
      simp only [List.length_cons, List.length_nil, Nat.zero_add, Nat.reduceAdd] at z0 z1 z2
      by_cases c3 : 3 ≤ t.size
      · cases g0 : (q0.toList == [45, 45, 33]) with
        | true => exact Try.commentRef_t3_0 s i w hs hi h1 h2 t ht c3 q0 hq0 g0 (by rw [hT, ← f0 c3, g0]; rfl)
        | false =>
          cases g1 : (q1.toList == [45, 45]) with
          | true => exact Try.commentRef_t3_1 s i w hs hi h1 h2 t ht c3 q0 hq0 g0 q1 hq1 g1 (by rw [hT, ← f0 c3, g0, ← f1 (by omega), g1]; rfl)
          | false =>
            cases g2 : (q2.toList == [45]) with
            | true => exact Try.commentRef_t3_2 s i w hs hi h1 h2 t ht c3 q0 hq0 g0 q1 hq1 g1 q2 hq2 g2 (by rw [hT, ← f0 c3, g0, ← f1 (by omega), g1, ← f2 (by omega), g2]; rfl)
            | false => exact Try.commentRef_t3_3 s i w hs hi h1 h2 t ht c3 q0 hq0 g0 q1 hq1 g1 q2 hq2 g2 (by rw [hT, ← f0 c3, g0, ← f1 (by omega), g1, ← f2 (by omega), g2]; rfl)
      · rw [z0 (by omega)] at hT
        by_cases c2 : t.size = 2
        · cases g1 : (q1.toList == [45, 45]) with
          | true => exact Try.commentRef_t2_1 s i w hs hi h1 h2 t ht (by omega) (by omega) q1 hq1 g1 (by rw [hT, ← f1 (by omega), g1]; rfl)
          | false =>
            cases g2 : (q2.toList == [45]) with
            | true => exact Try.commentRef_t2_2 s i w hs hi h1 h2 t ht (by omega) (by omega) q1 hq1 g1 q2 hq2 g2 (by rw [hT, ← f1 (by omega), g1, ← f2 (by omega), g2]; rfl)
            | false => exact Try.commentRef_t2_3 s i w hs hi h1 h2 t ht (by omega) (by omega) q1 hq1 g1 q2 hq2 g2 (by rw [hT, ← f1 (by omega), g1, ← f2 (by omega), g2]; rfl)
        · rw [z1 (by omega)] at hT
          by_cases c1 : t.size = 1
          · cases g2 : (q2.toList == [45]) with
            | true => exact Try.commentRef_t1_2 s i w hs hi h1 h2 t ht (by omega) (by omega) q2 hq2 g2 (by rw [hT, ← f2 (by omega), g2]; rfl)
            | false => exact Try.commentRef_t1_3 s i w hs hi h1 h2 t ht (by omega) (by omega) q2 hq2 g2 (by rw [hT, ← f2 (by omega), g2]; rfl)
          · exact Try.commentRef_t0_3 s i w hs hi h1 h2 t ht (by omega) (by rw [hT, z2 (by omega)]; rfl)
end Go.Proofs
