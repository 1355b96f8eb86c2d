/- Contracts of class.Punct. -/
import Derived.Test.YtgpfanbjchieiaaDoorWalkMarksS
namespace Go.Proofs
open Go.RowKit
set_option linter.unusedSimpArgs false
set_option linter.unusedVariables false

def Tryd.pairAt (k : Nat) : Int × Int := Tryd.pairs.getD k (0, 0)
set_option maxRecDepth 100000 in
theorem Tryd.mark_at (k : Nat) (hk : k < 31) (w : World) : (Instr.index 63 Tryd.marksV (.int .i64 k)).run Tryd.prog w = .ok (.agg #[.int .i32 (Tryd.pairAt k).1, .int .i32 (Tryd.pairAt k).2]) w := by
  have h := Tryd.underlying63
  have h2 := Tryd.underlying62
  match k, hk with
  | 0, _ => simp [Instr.index, run_underlying h, asIntOf, go_sem, Tryd.marksV, Tryd.marksC, Tryd.pairAt, Tryd.pairs]
  | 1, _ => simp [Instr.index, run_underlying h, asIntOf, go_sem, Tryd.marksV, Tryd.marksC, Tryd.pairAt, Tryd.pairs]
  | 2, _ => simp [Instr.index, run_underlying h, asIntOf, go_sem, Tryd.marksV, Tryd.marksC, Tryd.pairAt, Tryd.pairs]
  | 3, _ => simp [Instr.index, run_underlying h, asIntOf, go_sem, Tryd.marksV, Tryd.marksC, Tryd.pairAt, Tryd.pairs]
  | 4, _ => simp [Instr.index, run_underlying h, asIntOf, go_sem, Tryd.marksV, Tryd.marksC, Tryd.pairAt, Tryd.pairs]
  | 5, _ => simp [Instr.index, run_underlying h, asIntOf, go_sem, Tryd.marksV, Tryd.marksC, Tryd.pairAt, Tryd.pairs]
  | 6, _ => simp [Instr.index, run_underlying h, asIntOf, go_sem, Tryd.marksV, Tryd.marksC, Tryd.pairAt, Tryd.pairs]
  | 7, _ => simp [Instr.index, run_underlying h, asIntOf, go_sem, Tryd.marksV, Tryd.marksC, Tryd.pairAt, Tryd.pairs]
  | 8, _ => simp [Instr.index, run_underlying h, asIntOf, go_sem, Tryd.marksV, Tryd.marksC, Tryd.pairAt, Tryd.pairs]
  | 9, _ => simp [Instr.index, run_underlying h, asIntOf, go_sem, Tryd.marksV, Tryd.marksC, Tryd.pairAt, Tryd.pairs]
  | 10, _ => simp [Instr.index, run_underlying h, asIntOf, go_sem, Tryd.marksV, Tryd.marksC, Tryd.pairAt, Tryd.pairs]
  | 11, _ => simp [Instr.index, run_underlying h, asIntOf, go_sem, Tryd.marksV, Tryd.marksC, Tryd.pairAt, Tryd.pairs]
  | 12, _ => simp [Instr.index, run_underlying h, asIntOf, go_sem, Tryd.marksV, Tryd.marksC, Tryd.pairAt, Tryd.pairs]
  | 13, _ => simp [Instr.index, run_underlying h, asIntOf, go_sem, Tryd.marksV, Tryd.marksC, Tryd.pairAt, Tryd.pairs]
  | 14, _ => simp [Instr.index, run_underlying h, asIntOf, go_sem, Tryd.marksV, Tryd.marksC, Tryd.pairAt, Tryd.pairs]
  | 15, _ => simp [Instr.index, run_underlying h, asIntOf, go_sem, Tryd.marksV, Tryd.marksC, Tryd.pairAt, Tryd.pairs]
  | 16, _ => simp [Instr.index, run_underlying h, asIntOf, go_sem, Tryd.marksV, Tryd.marksC, Tryd.pairAt, Tryd.pairs]
  | 17, _ => simp [Instr.index, run_underlying h, asIntOf, go_sem, Tryd.marksV, Tryd.marksC, Tryd.pairAt, Tryd.pairs]
  | 18, _ => simp [Instr.index, run_underlying h, asIntOf, go_sem, Tryd.marksV, Tryd.marksC, Tryd.pairAt, Tryd.pairs]
  | 19, _ => simp [Instr.index, run_underlying h, asIntOf, go_sem, Tryd.marksV, Tryd.marksC, Tryd.pairAt, Tryd.pairs]
  | 20, _ => simp [Instr.index, run_underlying h, asIntOf, go_sem, Tryd.marksV, Tryd.marksC, Tryd.pairAt, Tryd.pairs]
  | 21, _ => simp [Instr.index, run_underlying h, asIntOf, go_sem, Tryd.marksV, Tryd.marksC, Tryd.pairAt, Tryd.pairs]
  | 22, _ => simp [Instr.index, run_underlying h, asIntOf, go_sem, Tryd.marksV, Tryd.marksC, Tryd.pairAt, Tryd.pairs]
  | 23, _ => simp [Instr.index, run_underlying h, asIntOf, go_sem, Tryd.marksV, Tryd.marksC, Tryd.pairAt, Tryd.pairs]
  | 24, _ => simp [Instr.index, run_underlying h, asIntOf, go_sem, Tryd.marksV, Tryd.marksC, Tryd.pairAt, Tryd.pairs]
  | 25, _ => simp [Instr.index, run_underlying h, asIntOf, go_sem, Tryd.marksV, Tryd.marksC, Tryd.pairAt, Tryd.pairs]
  | 26, _ => simp [Instr.index, run_underlying h, asIntOf, go_sem, Tryd.marksV, Tryd.marksC, Tryd.pairAt, Tryd.pairs]
  | 27, _ => simp [Instr.index, run_underlying h, asIntOf, go_sem, Tryd.marksV, Tryd.marksC, Tryd.pairAt, Tryd.pairs]
  | 28, _ => simp [Instr.index, run_underlying h, asIntOf, go_sem, Tryd.marksV, Tryd.marksC, Tryd.pairAt, Tryd.pairs]
  | 29, _ => simp [Instr.index, run_underlying h, asIntOf, go_sem, Tryd.marksV, Tryd.marksC, Tryd.pairAt, Tryd.pairs]
  | 30, _ => simp [Instr.index, run_underlying h, asIntOf, go_sem, Tryd.marksV, Tryd.marksC, Tryd.pairAt, Tryd.pairs]

  | _ + 31, h => exact absurd h (by omega)

/-- c lies in one of the first n ranges -/
def Tryd.inMarks (c : Int) (n : Nat) : Bool := (Tryd.pairs.take n).any fun p => decide (p.1 ≤ c) && decide (c ≤ p.2)
theorem Tryd.inMarks_step (c : Int) (k : Nat) (h : k < 31) : Tryd.inMarks c (k + 1) = (Tryd.inMarks c k || (decide ((Tryd.pairAt k).1 ≤ c) && decide (c ≤ (Tryd.pairAt k).2))) := by
  have hl : Tryd.pairs.length = 31 := rfl
  have e : Tryd.pairAt k = Tryd.pairs[k]'(by omega) := by
    unfold Tryd.pairAt
    rw [List.getD_eq_getElem?_getD, List.getElem?_eq_getElem (by omega)]
    rfl
  rw [e]
  unfold Tryd.inMarks
  rw [List.take_succ_eq_append_getElem (by omega), List.any_append]
  simp
theorem Tryd.inMarks_mono (c : Int) (k : Nat) (h : Tryd.inMarks c k = true) : Tryd.inMarks c 31 = true := by
  simp only [Tryd.inMarks, List.any_eq_true] at h ⊢
  obtain ⟨p, hp, hq⟩ := h
  have hl : Tryd.pairs.length = 31 := rfl
  refine ⟨p, ?_, hq⟩
  have : p ∈ Tryd.pairs := List.mem_of_mem_take hp
  rwa [List.take_of_length_le (by omega)]

theorem Tryd.punct_c (c : Int) (w : World) (h0 : -2147483648 ≤ c) (h1 : c ≤ 32) : Calls Tryd.prog 19 #[.int .i32 c] w fun e w' => e = .returned (.bool false) ∧ Below w.heap.size w w' := by
  go_enter Tryd.func19, Tryd.ntmps19
  go_wp2
  go_ret
  exact ⟨rfl, Below.refl _ _⟩

set_option maxHeartbeats 1000000 in
theorem Tryd.punct_hi (c : Int) (w : World) (h0 : 128 ≤ c) (h1 : c ≤ 2147483647) : Calls Tryd.prog 19 #[.int .i32 c] w fun e w' => e = .returned (.bool (Tryd.inMarks c 31)) ∧ Below w.heap.size w w' := by
  go_enter Tryd.func19, Tryd.ntmps19
  go_wp2_with fail
  refine (Tryd.marks_any _).mono ?_
  rintro e w1 ⟨rfl, hb1⟩
  go_wp2
  go_loopw [26] (fun i wr => ∃ k : Nat, k ≤ 31 ∧ i = .int .i64 k ∧ Tryd.inMarks c k = false ∧ Below w.heap.size w wr) (fun i _ => 31 - (intOf i).toNat)
  case atStart => exact ⟨0, Nat.zero_le _, rfl, rfl, hb1⟩
  case round =>
    clear hb1
    obtain ⟨k, hk, rfl, ho, hb⟩ := hrel
    by_cases hlt : k < 31
    · have hix := Tryd.mark_at k hlt
      have hst := Tryd.inMarks_step c k hlt
      obtain ⟨a, ha⟩ : ∃ a, a = (Tryd.pairAt k).1 := ⟨_, rfl⟩
      obtain ⟨b, hb2⟩ : ∃ b, b = (Tryd.pairAt k).2 := ⟨_, rfl⟩
      rw [← ha, ← hb2] at hix hst
      have HST := Lib.hid hst
      have HO := Lib.hid ho
      have HB := Lib.hid hb
      clear hst ho hb ha hb2
      go_wp2
      · go_ret
        exact ⟨by rw [Tryd.inMarks_mono c (k + 1) (by rw [HST.out, HO.out]; simp only [Bool.false_or, Bool.and_eq_true, decide_eq_true_eq]; omega)]; rfl, HB.out.alloc HB.out.size _⟩
      all_goals
        refine ⟨⟨k + 1, by omega, rfl, ?_, HB.out.alloc HB.out.size _⟩, by simp [intOf]; omega⟩
        rw [HST.out, HO.out]
        simp only [Bool.false_or, Bool.and_eq_false_iff, decide_eq_false_iff_not]
        omega
    · have : k = 31 := by omega
      subst this
      go_wp2
      go_ret
      exact ⟨by rw [ho]; rfl, hb⟩

theorem Tryd.punct_127 (w : World) : Calls Tryd.prog 19 #[.int .i32 127] w fun e w' => e = .returned (.bool false) ∧ Below w.heap.size w w' := by
  go_enter Tryd.func19, Tryd.ntmps19
  go_wp2
  go_ret
  exact ⟨rfl, Below.refl _ _⟩

theorem Tryd.punct_letter (c : Int) (w : World) (h0 : 32 < c) (h1 : c < 127) (hL : Tryd.letterI c = true) : Calls Tryd.prog 19 #[.int .i32 c] w fun e w' => e = .returned (.bool false) ∧ Below w.heap.size w w' := by
  have HL := Lib.hid hL
  clear hL
  go_enter Tryd.func19, Tryd.ntmps19
  go_wp2_with fail
  refine (Tryd.letter_any _ (by omega) (by omega) _).mono ?_
  rintro e w1 ⟨rfl, rfl⟩
  rw [HL.out]
  go_wp2
  go_ret
  exact ⟨rfl, Below.refl _ _⟩

theorem Tryd.punct_low (c : Int) (w : World) (h0 : 32 < c) (h1 : c < 127) (hL : Tryd.letterI c = false) : Calls Tryd.prog 19 #[.int .i32 c] w fun e w' => e = .returned (.bool (!Tryd.digitI c)) ∧ Below w.heap.size w w' := by
  have HL := Lib.hid hL
  clear hL
  go_enter Tryd.func19, Tryd.ntmps19
  go_wp2_with fail
  refine (Tryd.letter_any _ (by omega) (by omega) _).mono ?_
  rintro e w1 ⟨rfl, rfl⟩
  rw [HL.out]
  go_wp2_with fail
  refine (Tryd.digit_any _ (by omega) (by omega) _).mono ?_
  rintro e w1 ⟨rfl, rfl⟩
  go_wp2
  go_ret
  exact ⟨rfl, Below.refl _ _⟩

def Tryd.punctI (c : Int) : Bool := if c < 128 then decide (32 < c) && decide (c < 127) && !Tryd.letterI c && !Tryd.digitI c else Tryd.inMarks c 31

theorem Tryd.punct_any (c : Int) (w : World) (h0 : -2147483648 ≤ c) (h1 : c ≤ 2147483647) : Calls Tryd.prog 19 #[.int .i32 c] w fun e w' => e = .returned (.bool (Tryd.punctI c)) ∧ Below w.heap.size w w' := by
  unfold Tryd.punctI
  by_cases hb : c < 128
  · rw [if_pos hb]
    by_cases ha : c ≤ 32
    · refine (Tryd.punct_c c w h0 ha).mono ?_
      rintro e w' ⟨rfl, h⟩
      exact ⟨by rw [decide_eq_false (by omega : ¬ 32 < c)]; rfl, h⟩
    · by_cases hd : c = 127
      · subst hd
        refine (Tryd.punct_127 w).mono ?_
        rintro e w' ⟨rfl, h⟩
        exact ⟨rfl, h⟩
      · rw [decide_eq_true (by omega : 32 < c), decide_eq_true (by omega : c < 127)]
        cases hL : Tryd.letterI c
        · refine (Tryd.punct_low c w (by omega) (by omega) hL).mono ?_
          rintro e w' ⟨rfl, h⟩
          exact ⟨by simp, h⟩
        · refine (Tryd.punct_letter c w (by omega) (by omega) hL).mono ?_
          rintro e w' ⟨rfl, h⟩
          exact ⟨by simp, h⟩
  · rw [if_neg hb]
    exact Tryd.punct_hi c w (by omega) h1
end Go.Proofs
