/- The document's upTo: its contract. -/
import Derived.Test.YthbeoddbgcdpnaaWalkNoteH
namespace Go.Proofs
open Go.RowKit
set_option linter.unusedSimpArgs false
set_option linter.unusedVariables false

theorem Try.mid_list (s : ByteArray) (i j : Nat) : (s.extract i j).data.toList = (s.data.toList.drop i).take (j - i) := Lib.extract_data s i j

theorem Try.atB_nat (l p : List UInt8) (k : Nat) : Ty.atB l k p = Lib.occAt l p k := by unfold Ty.atB; simp

set_option maxHeartbeats 800000 in
theorem Try.upToRef_any (s p : ByteArray) (i : Nat) (w : World) (hs : s.size ≤ 140737488351232) (hp : p.size ≤ 1000) (hp0 : 0 < p.size) (hi : i ≤ s.size) :
    Calls Try.prog 21 #[.string s, .int .i64 i, .string p] w fun e w' =>
      Try.RetSI (Ty.upTo (s.data.toList.drop i) p.data.toList).1 ((i : Int) + ((Ty.upTo (s.data.toList.drop i) p.data.toList).2 : Nat)) e ∧ w = w' := by
  have hl : s.data.toList.length = s.size := (Lib.size_eq s).symm
  have hne : p.data.toList ≠ [] := by intro e; have := Lib.size_eq p; rw [e, List.length_nil] at this; omega
  have HL := Lib.hid hl
  have HNE := Lib.hid hne
  have HPZ := Lib.hid (Lib.size_eq p)
  clear hl hne
  go_enter Try.func21, Try.ntmps21
  go_wp2
  go_loopw [8] (fun k wr => ∃ j : Nat, i ≤ j ∧ j ≤ s.size ∧ k = .int .i64 j ∧ Hid (∀ q, i ≤ q → q < j → Lib.occAt s.data.toList p.data.toList q = false) ∧ w = wr) (fun k _ => s.size - (intOf k).toNat)
  case atStart => exact ⟨i, Nat.le_refl _, hi, rfl, Lib.hid (fun q h1 h2 => by omega), rfl⟩
  case round =>
    obtain ⟨j, hij, hj, rfl, HN, rfl⟩ := hrel
    by_cases hlt : j < s.size
    · cases ho : Lib.occAt s.data.toList p.data.toList j with
      | true =>
        have E := Lib.hid (Ty.upTo_found hij (by rw [HL.out]; exact hj) HN.out ho)
        have A1 := Lib.hid ((Try.atB_nat _ _ j).trans ho)
        clear ho
        go_wp2_with fail
        refine (Try.at_is s p j true _ hs hp hp0 (by omega) (by omega) A1.out).mono ?_
        rintro e w' ⟨rfl, rfl⟩
        go_wp2
        go_ret2
        rw [E.out]
        refine ⟨⟨s.extract i j, ?_, Try.mid_list s i j⟩, rfl⟩
        rw [← HPZ.out, show (i : Int) + ((j - i + p.size : Nat) : Int) = (j : Int) + p.size from by omega]
        rfl
      | false =>
        have HN2 : Hid (∀ q, i ≤ q → q < j + 1 → Lib.occAt s.data.toList p.data.toList q = false) := fun q h1 h2 => by
          by_cases e : q = j
          · rw [e]; exact ho
          · exact HN.out q h1 (by omega)
        have A1 := Lib.hid ((Try.atB_nat _ _ j).trans ho)
        clear ho
        go_wp2_with fail
        refine (Try.at_is s p j false _ hs hp hp0 (by omega) (by omega) A1.out).mono ?_
        rintro e w' ⟨rfl, rfl⟩
        go_wp2
        go_roundw
        case rel => exact ⟨j + 1, by omega, by omega, by go_num, HN2, by trivial⟩
        case measure => simp [intOf]; omega
    · obtain rfl : j = s.size := by omega
      have E := Lib.hid (Ty.upTo_none HNE.out (l := s.data.toList) (i := i) (by rw [HL.out]; exact HN.out))
      go_wp2
      go_ret2
      rw [E.out]
      refine ⟨⟨s.extract i s.size, ?_, Try.drop_list s i⟩, rfl⟩
      rw [List.length_drop, HL.out, show (i : Int) + ((s.size - i : Nat) : Int) = (s.size : Int) from by omega]
      rfl
end Go.Proofs
