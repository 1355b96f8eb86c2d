/- The contract of 'has'; NoteEnds returns true for every input: the walk. -/
import Derived.Test.YthbeoddbgcdpnaaWalkNoteU
import Derived.Test.YthbeoddbgcdpnaaPlainNoteB
namespace Go.Proofs
open Go.RowKit
set_option linter.unusedSimpArgs false
set_option linter.unusedVariables false

set_option maxHeartbeats 800000 in
/-- does a text stand in another one? -/
theorem Try.has_any (s p : ByteArray) (w : World) (hs : s.size ≤ 140737488351232) (hp : p.size ≤ 140737488351232) :
    Calls Try.prog 13 #[.string s, .string p] w fun e w' => e = .returned (.bool (Lib.contains s.data.toList p.data.toList)) ∧ w' = w := by
  have HL := Lib.hid (Lib.size_eq s).symm
  have HPL := Lib.hid (Lib.size_eq p).symm
  go_enter Try.func13, Try.ntmps13
  go_wp2
  go_loopw [5] (fun i wr => ∃ k : Nat, k ≤ s.size + 1 ∧ i = .int .i64 k ∧ Hid (∀ q, q < k → Lib.occAt s.data.toList p.data.toList q = false) ∧ w = wr) (fun i _ => s.size + 1 - (intOf i).toNat)
  case atStart => exact ⟨0, Nat.zero_le _, rfl, Lib.hid (fun q h => absurd h (Nat.not_lt_zero _)), rfl⟩
  case round =>
    obtain ⟨k, hk, rfl, HN, rfl⟩ := hrel
    by_cases hlt : k + p.size ≤ s.size
    · have hlt2 : (k : Int) + p.size ≤ s.size := by omega
      obtain ⟨q, hq⟩ : ∃ q, s.extract k (k + p.size) = q := ⟨_, rfl⟩
      have hsl : ∀ w : World, (Instr.slice 9 (.string s) (some (.int .i64 (k : Int))) (some (.int .i64 ((k : Int) + (p.size : Int)))) none).run Try.prog w = .ok (.string q) w := fun w => by
        rw [run_slice_string w 9 s .i64 .i64 (k : Int) ((k : Int) + (p.size : Int)) Try.underlying9 (by omega) (by omega) (by omega), ← hq, Int.toNat_natCast, show ((k : Int) + (p.size : Int)).toNat = k + p.size from by omega]
      have ho : Lib.occAt s.data.toList p.data.toList k = (q.toList == p.toList) := by
        rw [Lib.toList_data, Lib.toList_data, ← hq, Lib.extract_data]
        have h3 := Lib.hasPrefix_of_take (s.data.toList.drop k) p.data.toList
        have h4 : p.data.toList.length ≤ (s.data.toList.drop k).length := by rw [List.length_drop, HPL.out, HL.out]; omega
        rw [decide_eq_true h4, Bool.true_and] at h3
        rw [show k + p.size - k = p.data.toList.length from by rw [HPL.out]; omega]
        exact h3.symm
      have HO := Lib.hid ho
      clear ho hq
      cases hb : (q.toList == p.toList) with
      | true =>
        have E := Lib.hid (Ty.contains_of_occ (HO.out.trans hb) (by rw [HL.out]; omega))
        go_wp2
        go_ret
        exact ⟨by rw [E.out]; rfl, rfl⟩
      | false =>
        have HN2 : Hid (∀ q, q < k + 1 → Lib.occAt s.data.toList p.data.toList q = false) := fun j h1 => by
          by_cases e : j = k
          · rw [e]; exact HO.out.trans hb
          · exact HN.out j (by omega)
        go_wp2
        go_roundw
        case rel => exact ⟨k + 1, by omega, by go_num, HN2, by trivial⟩
        case measure => simp [intOf]; omega
    · have hlt2 : ¬ (k : Int) + p.size ≤ s.size := by omega
      have E : Hid (Lib.contains s.data.toList p.data.toList = false) := by
        have e : Lib.contains s.data.toList p.data.toList = false := by
          unfold Lib.contains
          rw [decide_eq_false_iff_not]
          rcases Lib.index_spec s.data.toList p.data.toList with ⟨h1, _⟩ | ⟨i, h1, h2, h3, _⟩
          · omega
          · exfalso
            have hr := Lib.index_room s.data.toList p.data.toList (by omega)
            rw [h1, HPL.out, HL.out] at hr
            have := HN.out i (by omega)
            rw [h3] at this
            exact absurd this (by decide)
        exact e
      go_wp2
      go_ret
      exact ⟨by rw [E.out]; rfl, rfl⟩

theorem Try.has_is (s p : ByteArray) (b : Bool) (w : World) (hs : s.size ≤ 140737488351232) (hp : p.size ≤ 140737488351232) (h : Lib.contains s.data.toList p.data.toList = b) :
    Calls Try.prog 13 #[.string s, .string p] w fun e w' => e = .returned (.bool b) ∧ w' = w := by
  rw [← h]; exact Try.has_any s p w hs hp
end Go.Proofs
