/- utf: replacing, as a recursion. No program. No condition. -/
import Derived.Test.YtodponooeepilaaDoorUtC
import Derived.Lib.Replace
import Derived.Lib.CountLaws
import Derived.Lib.IndexMore
namespace Go.Proofs
open Go Go.Lib
set_option linter.unusedVariables false
theorem all_eq {s old new : Bs} (hn : old ≠ new) : Lib.replaceAll s old new = Lib.replaceK old new (Lib.count s old) s := by
  unfold Lib.replaceAll Lib.replace
  rw [if_neg (by simpa using hn)]
  unfold Lib.replaceNum
  rw [if_pos (Or.inl (by decide))]
theorem replaceAll_hit {old new s : Bs} (ho : old ≠ []) (hn : old ≠ new) (hs : s ≠ []) (h : old.isPrefixOf s = true) : Lib.replaceAll s old new = new ++ Lib.replaceAll (s.drop old.length) old new := by
  have h0 : Lib.index s old = ((0 : Nat) : Int) := by
    cases s with
    | nil => exact absurd rfl hs
    | cons b l => unfold Lib.index; rw [if_pos h]; rfl
  rw [all_eq hn, all_eq hn, Lib.count_hit ho h0, Nat.add_comm, Lib.replaceK_hit _ _ _ _ 0 h0]
  simp
theorem replaceAll_miss {old new l : Bs} {b : UInt8} (ho : old ≠ []) (hn : old ≠ new) (h : old.isPrefixOf (b :: l) = false) : Lib.replaceAll (b :: l) old new = b :: Lib.replaceAll l old new := by
  rw [all_eq hn, all_eq hn]
  by_cases hm : Lib.index l old = -1
  · have h1 : Lib.index (b :: l) old = -1 := by unfold Lib.index; rw [h, hm]; rfl
    rw [Lib.count_miss hm, Lib.count_miss h1]; rfl
  · obtain ⟨i, hi⟩ : ∃ i : Nat, Lib.index l old = i := ⟨(Lib.index l old).toNat, by have := Lib.index_ge l old; omega⟩
    have h1 : Lib.index (b :: l) old = ((i + 1 : Nat) : Int) := by
      unfold Lib.index
      rw [h, hi]
      have : ((i : Int) == -1) = false := by rw [beq_eq_false_iff_ne]; omega
      simp [this]
    rw [Lib.count_hit ho hi, Lib.count_hit ho h1, Nat.add_comm 1, Nat.add_comm 1, Lib.replaceK_hit _ _ _ _ _ hi, Lib.replaceK_hit _ _ _ _ _ h1]
    have e : (b :: l).drop (i + 1 + old.length) = l.drop (i + old.length) := by rw [show i + 1 + old.length = (i + old.length) + 1 by omega, List.drop_succ_cons]
    rw [e]; simp
end Go.Proofs
