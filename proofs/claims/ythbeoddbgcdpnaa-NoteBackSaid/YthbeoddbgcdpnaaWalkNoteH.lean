/- The document's at, Begins, upTo: their contracts. -/
import Derived.Test.YthbeoddbgcdpnaaWalkNoteB
import Derived.Test.YthbeoddbgcdpnaaWalkNoteD
namespace Go.Proofs
open Go.RowKit
set_option linter.unusedSimpArgs false
set_option linter.unusedVariables false

set_option maxHeartbeats 400000 in
theorem Try.at_neg (s p : ByteArray) (i : Int) (w : World) (hs : s.size ≤ 140737488351232) (hp : p.size ≤ 1000) (hi : i < 0) (hi0 : -9223372036854775808 ≤ i) :
    Calls Try.prog 18 #[.string s, .int .i64 i, .string p] w fun e w' => e = .returned (.bool false) ∧ w = w' := by
  go_enter Try.func18, Try.ntmps18
  go_wp2
  go_ret
  exact ⟨rfl, rfl⟩

set_option maxHeartbeats 400000 in
theorem Try.at_short (s p : ByteArray) (k : Nat) (w : World) (hs : s.size ≤ 140737488351232) (hp : p.size ≤ 1000) (hk : s.size < k + p.size) (hk0 : k ≤ s.size) :
    Calls Try.prog 18 #[.string s, .int .i64 k, .string p] w fun e w' => e = .returned (.bool false) ∧ w = w' := by
  have h2 : (s.size : Int) - k < p.size := by omega
  go_enter Try.func18, Try.ntmps18
  go_wp2
  go_ret
  exact ⟨rfl, rfl⟩

set_option maxHeartbeats 400000 in
theorem Try.at_past (s p : ByteArray) (k : Nat) (w : World) (hs : s.size ≤ 140737488351232) (hp : p.size ≤ 1000) (hk : s.size < k) (hi1 : (k : Int) ≤ 9223372036854775807) :
    Calls Try.prog 18 #[.string s, .int .i64 k, .string p] w fun e w' => e = .returned (.bool false) ∧ w = w' := by
  go_enter Try.func18, Try.ntmps18
  go_wp2
  go_ret
  exact ⟨rfl, rfl⟩

set_option maxHeartbeats 400000 in
theorem Try.at_cmp (s p q : ByteArray) (k : Nat) (b : Bool) (w : World) (hs : s.size ≤ 140737488351232) (hp : p.size ≤ 1000) (hk : k + p.size ≤ s.size)
    (hq : s.extract k (k + p.size) = q) (hb : (q.toList == p.toList) = b) :
    Calls Try.prog 18 #[.string s, .int .i64 k, .string p] w fun e w' => e = .returned (.bool b) ∧ w = w' := by
  have hsl : ∀ w : World, (Instr.slice 9 (.string s) (some (.int .i64 (k : Int))) (some (.int .i64 ((k : Int) + (p.size : Int)))) none).run Try.prog w = .ok (.string q) w := fun w => by
    rw [run_slice_string w 9 s .i64 .i64 (k : Int) ((k : Int) + (p.size : Int)) Try.underlying9 (by omega) (by omega) (by omega), ← hq, Int.toNat_natCast, show ((k : Int) + (p.size : Int)).toNat = k + p.size from by omega]
  have HQ := Lib.hid hq
  clear hq
  cases b
  all_goals
    go_enter Try.func18, Try.ntmps18
    go_wp2
    go_ret
    exact ⟨rfl, rfl⟩

/-- does a text that is not empty stand at a place? -/
theorem Try.at_is (s p : ByteArray) (i : Int) (b : Bool) (w : World) (hs : s.size ≤ 140737488351232) (hp : p.size ≤ 1000) (hp0 : 0 < p.size) (hi0 : -9223372036854775808 ≤ i) (hi1 : i ≤ 9223372036854775807)
    (h : Ty.atB s.data.toList i p.data.toList = b) :
    Calls Try.prog 18 #[.string s, .int .i64 i, .string p] w fun e w' => e = .returned (.bool b) ∧ w = w' := by
  have hne : p.data.toList ≠ [] := by intro e; have := Lib.size_eq p; rw [e, List.length_nil] at this; omega
  by_cases h0 : i < 0
  · have e : b = false := by rw [← h]; unfold Ty.atB; simp [show ¬ 0 ≤ i from by omega]
    subst e
    exact Try.at_neg s p i w hs hp h0 hi0
  · obtain ⟨k, rfl⟩ := Int.eq_ofNat_of_zero_le (by omega : 0 ≤ i)
    have e : b = Lib.occAt s.data.toList p.data.toList k := by rw [← h]; unfold Ty.atB; simp
    by_cases h1 : s.size < k
    · have e2 : b = false := by
        rw [e]
        cases ho : Lib.occAt s.data.toList p.data.toList k with
        | false => rfl
        | true => have := Ty.occAt_len ho hne; rw [← Lib.size_eq p, ← Lib.size_eq s] at this; omega
      subst e2
      exact Try.at_past s p k w hs hp h1 hi1
    · by_cases h2 : s.size < k + p.size
      · have e2 : b = false := by
          rw [e]
          cases ho : Lib.occAt s.data.toList p.data.toList k with
          | false => rfl
          | true => have := Ty.occAt_len ho hne; rw [← Lib.size_eq p, ← Lib.size_eq s] at this; omega
        subst e2
        exact Try.at_short s p k w hs hp h2 (by omega)
      · refine Try.at_cmp s p _ k b w hs hp (by omega) rfl ?_
        rw [e, Lib.toList_data, Lib.toList_data, Lib.extract_data]
        have h3 := Lib.hasPrefix_of_take (s.data.toList.drop k) p.data.toList
        have h4 : p.data.toList.length ≤ (s.data.toList.drop k).length := by rw [List.length_drop, ← Lib.size_eq, ← Lib.size_eq]; omega
        rw [decide_eq_true h4, Bool.true_and] at h3
        rw [show k + p.size - k = p.data.toList.length from by rw [← Lib.size_eq]; omega]
        exact h3

set_option maxHeartbeats 400000 in
theorem Try.beginsRef_any (s : ByteArray) (i : Int) (w : World) (hs : s.size ≤ 140737488351232) (hi0 : -9223372036854775808 ≤ i) (hi1 : i ≤ 9223372036854775807) :
    Calls Try.prog 12 #[.string s, .int .i64 i] w fun e w' => e = .returned (.bool (Ty.begins s.data.toList i)) ∧ w = w' := by
  have H : Ty.begins s.data.toList i = (Ty.atB s.data.toList i [60, 33] || Ty.atB s.data.toList i [60, 63] || (Ty.atB s.data.toList i [60, 47] && Ty.noLetterAt s.data.toList (i.toNat + 2))) := rfl
  cases h1 : Ty.atB s.data.toList i [60, 33] with
  | true =>
    have E : Hid (Ty.begins s.data.toList i = true) := by rw [h1] at H; exact H
    have A1 := Lib.hid h1
    clear h1 H
    go_enter Try.func12, Try.ntmps12
    go_wp2_with fail
    refine (Try.at_is s _ i true _ hs (by decide) (by decide) hi0 hi1 A1.out).mono ?_
    rintro e w' ⟨rfl, rfl⟩
    go_wp2
    go_ret
    exact ⟨by rw [E.out]; rfl, rfl⟩
  | false =>
    cases h2 : Ty.atB s.data.toList i [60, 63] with
    | true =>
      have E : Hid (Ty.begins s.data.toList i = true) := by rw [h1, h2] at H; exact H
      have A1 := Lib.hid h1
      have A2 := Lib.hid h2
      clear h1 h2 H
      go_enter Try.func12, Try.ntmps12
      go_wp2_with fail
      refine (Try.at_is s _ i false _ hs (by decide) (by decide) hi0 hi1 A1.out).mono ?_
      rintro e w' ⟨rfl, rfl⟩
      go_wp2_with fail
      refine (Try.at_is s _ i true _ hs (by decide) (by decide) hi0 hi1 A2.out).mono ?_
      rintro e w' ⟨rfl, rfl⟩
      go_wp2
      go_ret
      exact ⟨by rw [E.out]; rfl, rfl⟩
    | false =>
      cases h3 : Ty.atB s.data.toList i [60, 47] with
      | false =>
        have E : Hid (Ty.begins s.data.toList i = false) := by rw [h1, h2, h3] at H; exact H
        have A1 := Lib.hid h1
        have A2 := Lib.hid h2
        have A3 := Lib.hid h3
        clear h1 h2 h3 H
        go_enter Try.func12, Try.ntmps12
        go_wp2_with fail
        refine (Try.at_is s _ i false _ hs (by decide) (by decide) hi0 hi1 A1.out).mono ?_
        rintro e w' ⟨rfl, rfl⟩
        go_wp2_with fail
        refine (Try.at_is s _ i false _ hs (by decide) (by decide) hi0 hi1 A2.out).mono ?_
        rintro e w' ⟨rfl, rfl⟩
        go_wp2_with fail
        refine (Try.at_is s _ i false _ hs (by decide) (by decide) hi0 hi1 A3.out).mono ?_
        rintro e w' ⟨rfl, rfl⟩
        go_wp2
        go_ret
        exact ⟨by rw [E.out]; rfl, rfl⟩
      | true =>
        obtain ⟨k, rfl⟩ : ∃ k : Nat, i = k := by
          unfold Ty.atB at h3
          simp only [Bool.and_eq_true, decide_eq_true_eq] at h3
          exact Int.eq_ofNat_of_zero_le h3.1
        have hk2 : k + 2 ≤ s.size := by
          unfold Ty.atB at h3
          simp only [Bool.and_eq_true, decide_eq_true_eq, Int.toNat_natCast] at h3
          have := Ty.occAt_len h3.2 (by simp)
          rw [← Lib.size_eq] at this
          exact this
        rw [h1, h2, h3, Int.toNat_natCast] at H
        have A1 := Lib.hid h1
        have A2 := Lib.hid h2
        have A3 := Lib.hid h3
        clear h1 h2 h3
        by_cases hlt : k + 2 < s.size
        · rw [Try.noLetter_at s (k + 2) hlt] at H
          obtain ⟨c2, e2⟩ : ∃ c2, s[k + 2]'hlt = c2 := ⟨_, rfl⟩
          rw [e2] at H
          have hc2 := c2.toNat_lt
          have E := Lib.hid H
          clear H
          go_enter Try.func12, Try.ntmps12
          go_wp2_with fail
          refine (Try.at_is s _ k false _ hs (by decide) (by decide) hi0 hi1 A1.out).mono ?_
          rintro e w' ⟨rfl, rfl⟩
          go_wp2_with fail
          refine (Try.at_is s _ k false _ hs (by decide) (by decide) hi0 hi1 A2.out).mono ?_
          rintro e w' ⟨rfl, rfl⟩
          go_wp2_with fail
          refine (Try.at_is s _ k true _ hs (by decide) (by decide) hi0 hi1 A3.out).mono ?_
          rintro e w' ⟨rfl, rfl⟩
          go_wp2_with fail
          refine (Try.letter_ref _ _).mono ?_
          rintro e w' ⟨rfl, rfl⟩
          go_wp2
          go_ret
          exact ⟨by rw [E.out]; simp, rfl⟩
        · have hno : Ty.noLetterAt s.data.toList (k + 2) = false := by
            unfold Ty.noLetterAt
            rw [List.getElem?_eq_none (by rw [← Lib.size_eq]; omega)]
          rw [hno] at H
          have E := Lib.hid H
          clear H hno
          go_enter Try.func12, Try.ntmps12
          go_wp2_with fail
          refine (Try.at_is s _ k false _ hs (by decide) (by decide) hi0 hi1 A1.out).mono ?_
          rintro e w' ⟨rfl, rfl⟩
          go_wp2_with fail
          refine (Try.at_is s _ k false _ hs (by decide) (by decide) hi0 hi1 A2.out).mono ?_
          rintro e w' ⟨rfl, rfl⟩
          go_wp2_with fail
          refine (Try.at_is s _ k true _ hs (by decide) (by decide) hi0 hi1 A3.out).mono ?_
          rintro e w' ⟨rfl, rfl⟩
          go_wp2
          go_ret
          exact ⟨by rw [E.out]; rfl, rfl⟩
end Go.Proofs
