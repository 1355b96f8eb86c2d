/- Texts: the chapter's way of reading bytes. No program. No condition. -/
import Derived.Test.YtpkicfcnhgnejaaDoorUtA
namespace Go.Proofs
open Go
set_option linter.unusedVariables false
set_option maxRecDepth 100000

def secondP (a b : Nat) : Bool :=
  if a = 224 then decide (160 ≤ b) && decide (b ≤ 191)
  else if a = 237 then decide (128 ≤ b) && decide (b ≤ 159)
  else if a = 240 then decide (144 ≤ b) && decide (b ≤ 191)
  else if a = 244 then decide (128 ≤ b) && decide (b ≤ 143)
  else decide (128 ≤ b) && decide (b ≤ 191)
def manyP (a : Nat) : Nat := if a < 128 then 1 else if 194 ≤ a ∧ a ≤ 223 then 2 else if 224 ≤ a ∧ a ≤ 239 then 3 else if 240 ≤ a ∧ a ≤ 244 then 4 else 0
def byteAt (b : Bs) (i : Nat) : Nat := (b.getD i 0).toNat
def okAt (b : Bs) (i : Nat) : Bool := if i = 1 then secondP (byteAt b 0) (byteAt b 1) else decide (128 ≤ byteAt b i) && decide (byteAt b i ≤ 191)
def frontGo (b : Bs) (n : Nat) : Nat → Nat → Nat × Bool
  | 0, i => (i, decide (i = n))
  | k + 1, i => if i < n ∧ i < b.length then (if okAt b i = true then frontGo b n k (i + 1) else (i, false)) else (i, decide (i = n))
/-- how many of the first bytes are the beginning of a character; is it whole? -/
def frontP (b : Bs) : Nat × Bool := if manyP (byteAt b 0) = 0 then (1, false) else frontGo b (manyP (byteAt b 0)) 4 1

theorem frontGo_bd (b : Bs) (n : Nat) : ∀ k i, i ≤ (frontGo b n k i).1 ∧ (frontGo b n k i).1 ≤ max i b.length ∧ (frontGo b n k i).1 ≤ max i n
  | 0, i => by unfold frontGo; simp only; omega
  | k + 1, i => by
    unfold frontGo
    split
    · split
      · have := frontGo_bd b n k (i + 1)
        omega
      · simp only; omega
    · simp only; omega
theorem many_le (a : Nat) : manyP a ≤ 4 := by unfold manyP; repeat' split
                                              all_goals omega
theorem front_bd {b : Bs} (h : b ≠ []) : 1 ≤ (frontP b).1 ∧ (frontP b).1 ≤ b.length ∧ (frontP b).1 ≤ 4 := by
  have h0 := List.length_pos_iff.2 h
  unfold frontP
  split
  · simp only; omega
  · have := frontGo_bd b (manyP (byteAt b 0)) 4 1
    have := many_le (byteAt b 0)
    omega

/-- the chapter's way and the model's -/
theorem front_dec2 (x : UInt8) (t : Bs) : ∃ F D, frontP (x :: t) = F ∧ dec (x :: t) = D ∧ (F.2 = true ∧ D.2 = F.1 ∧ (D.1 ≠ 65533 ∨ D.2 ≠ 1) ∨ F.2 = false ∧ D = (65533, 1)) := by
  have hx := u8_lt x
  have h1 := u8_lt (t.getD 0 0)
  have h2 := u8_lt (t.getD 1 0)
  have h3 := u8_lt (t.getD 2 0)
  have e0 : byteAt (x :: t) 0 = x.toNat := rfl
  have e1 : byteAt (x :: t) 1 = (t.getD 0 0).toNat := rfl
  have e2 : byteAt (x :: t) 2 = (t.getD 1 0).toNat := rfl
  have e3 : byteAt (x :: t) 3 = (t.getD 2 0).toNat := rfl
  unfold frontP dec Lib.decodeN
  simp only [List.getD_cons_zero, List.getD_cons_succ, List.length_cons, e0]
  generalize x.toNat = a at *
  generalize (t.getD 0 0).toNat = y at *
  generalize (t.getD 1 0).toNat = z at *
  generalize (t.getD 2 0).toNat = u at *
  by_cases c1 : a < 128
  · have hm : manyP a = 1 := by unfold manyP; rw [if_pos c1]
    refine ⟨(1, true), (a, 1), ?_, ?_, .inl ⟨rfl, rfl, .inl (by simp only; omega)⟩⟩
    · rw [hm, if_neg (show ¬ (1 : Nat) = 0 by decide)]; simp [frontGo]
    · rw [if_pos c1]
  by_cases c2 : 194 ≤ a ∧ a ≤ 223
  · have hm : manyP a = 2 := by unfold manyP; rw [if_neg c1, if_pos c2]
    have hs : (okAt (x :: t) 1 = true) = (128 ≤ y ∧ y ≤ 191) := by
      unfold okAt; rw [if_pos rfl, e0, e1]; unfold secondP
      rw [if_neg (by omega), if_neg (by omega), if_neg (by omega), if_neg (by omega)]
      simp only [Bool.and_eq_true, decide_eq_true_eq]
    rw [hm, if_neg (show ¬ (2 : Nat) = 0 by decide), if_neg c1]
    simp only [frontGo, hs, List.length_cons]
    by_cases d1 : 1 < t.length + 1
    · by_cases d2 : 128 ≤ y ∧ y ≤ 191
      · exact ⟨(2, true), (a % 32 * 64 + y % 64, 2), by rw [if_pos (by omega), if_pos d2, if_neg (by omega)]; rfl, by rw [if_pos (by omega), if_pos (by omega)], .inl ⟨rfl, rfl, .inr (by simp)⟩⟩
      · exact ⟨(1, false), (65533, 1), by rw [if_pos (by omega), if_neg d2], by rw [if_neg (by omega), if_neg (by omega), if_neg (by omega)], .inr ⟨rfl, rfl⟩⟩
    · exact ⟨(1, false), (65533, 1), by rw [if_neg (by omega)]; rfl, by rw [if_neg (by omega), if_neg (by omega), if_neg (by omega)], .inr ⟨rfl, rfl⟩⟩
  by_cases c3 : 224 ≤ a ∧ a ≤ 239
  · have hm : manyP a = 3 := by unfold manyP; rw [if_neg c1, if_neg c2, if_pos c3]
    have hs : (okAt (x :: t) 1 = true) = ((128 ≤ y ∧ y ≤ 191) ∧ (a = 224 → 160 ≤ y) ∧ (a = 237 → y ≤ 159)) := by
      unfold okAt; rw [if_pos rfl, e0, e1]; unfold secondP
      apply propext
      repeat' split
      all_goals simp only [Bool.and_eq_true, decide_eq_true_eq]
      all_goals omega
    have hs2 : (okAt (x :: t) 2 = true) = (128 ≤ z ∧ z ≤ 191) := by
      unfold okAt; rw [if_neg (by decide), e2]; simp only [Bool.and_eq_true, decide_eq_true_eq]
    rw [hm, if_neg (show ¬ (3 : Nat) = 0 by decide), if_neg c1]
    simp only [frontGo, hs, hs2, List.length_cons]
    by_cases d1 : 1 < t.length + 1
    · by_cases d2 : (128 ≤ y ∧ y ≤ 191) ∧ (a = 224 → 160 ≤ y) ∧ (a = 237 → y ≤ 159)
      · by_cases d3 : 2 < t.length + 1
        · by_cases d4 : 128 ≤ z ∧ z ≤ 191
          · exact ⟨(3, true), (a % 16 * 4096 + y % 64 * 64 + z % 64, 3), by rw [if_pos (by omega), if_pos d2, if_pos (by omega), if_pos d4, if_neg (by omega)]; rfl, by rw [if_neg (by omega), if_pos (by omega), if_pos (by omega)], .inl ⟨rfl, rfl, .inr (by simp)⟩⟩
          · exact ⟨(2, false), (65533, 1), by rw [if_pos (by omega), if_pos d2, if_pos (by omega), if_neg d4], by rw [if_neg (by omega), if_neg (by omega), if_neg (by omega)], .inr ⟨rfl, rfl⟩⟩
        · exact ⟨(2, false), (65533, 1), by rw [if_pos (by omega), if_pos d2, if_neg (by omega)]; rfl, by rw [if_neg (by omega), if_neg (by omega), if_neg (by omega)], .inr ⟨rfl, rfl⟩⟩
      · refine ⟨(1, false), (65533, 1), by rw [if_pos (by omega), if_neg d2], ?_, .inr ⟨rfl, rfl⟩⟩
        rw [if_neg (by omega)]
        split
        · rw [if_neg (by omega)]
        · rw [if_neg (by omega)]
    · exact ⟨(1, false), (65533, 1), by rw [if_neg (by omega)]; rfl, by rw [if_neg (by omega), if_neg (by omega), if_neg (by omega)], .inr ⟨rfl, rfl⟩⟩
  by_cases c4 : 240 ≤ a ∧ a ≤ 244
  · have hm : manyP a = 4 := by unfold manyP; rw [if_neg c1, if_neg c2, if_neg c3, if_pos c4]
    have hs : (okAt (x :: t) 1 = true) = ((128 ≤ y ∧ y ≤ 191) ∧ (a = 240 → 144 ≤ y) ∧ (a = 244 → y ≤ 143)) := by
      unfold okAt; rw [if_pos rfl, e0, e1]; unfold secondP
      apply propext
      repeat' split
      all_goals simp only [Bool.and_eq_true, decide_eq_true_eq]
      all_goals omega
    have hs2 : (okAt (x :: t) 2 = true) = (128 ≤ z ∧ z ≤ 191) := by
      unfold okAt; rw [if_neg (by decide), e2]; simp only [Bool.and_eq_true, decide_eq_true_eq]
    have hs3 : (okAt (x :: t) 3 = true) = (128 ≤ u ∧ u ≤ 191) := by
      unfold okAt; rw [if_neg (by decide), e3]; simp only [Bool.and_eq_true, decide_eq_true_eq]
    rw [hm, if_neg (show ¬ (4 : Nat) = 0 by decide), if_neg c1]
    simp only [frontGo, hs, hs2, hs3, List.length_cons]
    by_cases d1 : 1 < t.length + 1
    · by_cases d2 : (128 ≤ y ∧ y ≤ 191) ∧ (a = 240 → 144 ≤ y) ∧ (a = 244 → y ≤ 143)
      · by_cases d3 : 2 < t.length + 1
        · by_cases d4 : 128 ≤ z ∧ z ≤ 191
          · by_cases d5 : 3 < t.length + 1
            · by_cases d6 : 128 ≤ u ∧ u ≤ 191
              · exact ⟨(4, true), (a % 8 * 262144 + y % 64 * 4096 + z % 64 * 64 + u % 64, 4), by rw [if_pos (by omega), if_pos d2, if_pos (by omega), if_pos d4, if_pos (by omega), if_pos d6]; rfl, by rw [if_neg (by omega), if_neg (by omega), if_pos (by omega), if_pos (by omega)], .inl ⟨rfl, rfl, .inr (by simp)⟩⟩
              · exact ⟨(3, false), (65533, 1), by rw [if_pos (by omega), if_pos d2, if_pos (by omega), if_pos d4, if_pos (by omega), if_neg d6], by rw [if_neg (by omega), if_neg (by omega), if_neg (by omega)], .inr ⟨rfl, rfl⟩⟩
            · exact ⟨(3, false), (65533, 1), by rw [if_pos (by omega), if_pos d2, if_pos (by omega), if_pos d4, if_neg (by omega)]; rfl, by rw [if_neg (by omega), if_neg (by omega), if_neg (by omega)], .inr ⟨rfl, rfl⟩⟩
          · exact ⟨(2, false), (65533, 1), by rw [if_pos (by omega), if_pos d2, if_pos (by omega), if_neg d4], by rw [if_neg (by omega), if_neg (by omega), if_neg (by omega)], .inr ⟨rfl, rfl⟩⟩
        · exact ⟨(2, false), (65533, 1), by rw [if_pos (by omega), if_pos d2, if_neg (by omega)]; rfl, by rw [if_neg (by omega), if_neg (by omega), if_neg (by omega)], .inr ⟨rfl, rfl⟩⟩
      · refine ⟨(1, false), (65533, 1), by rw [if_pos (by omega), if_neg d2], ?_, .inr ⟨rfl, rfl⟩⟩
        rw [if_neg (by omega), if_neg (by omega)]
        split
        · rw [if_neg (by omega)]
        · rfl
    · exact ⟨(1, false), (65533, 1), by rw [if_neg (by omega)]; rfl, by rw [if_neg (by omega), if_neg (by omega), if_neg (by omega)], .inr ⟨rfl, rfl⟩⟩
  · have hm : manyP a = 0 := by unfold manyP; rw [if_neg c1, if_neg c2, if_neg c3, if_neg c4]
    refine ⟨(1, false), (65533, 1), by rw [hm, if_pos rfl], ?_, .inr ⟨rfl, rfl⟩⟩
    rw [if_neg c1]
    split
    · rw [if_neg (by omega)]
    · split
      · rw [if_neg (by omega)]
      · split
        · rw [if_neg (by omega)]
        · rfl
/-- whole: what the model reads; and else nothing -/
theorem front_dec (x : UInt8) (t : Bs) : (frontP (x :: t)).2 = true ∧ (dec (x :: t)).2 = (frontP (x :: t)).1 ∧ ((dec (x :: t)).1 ≠ 65533 ∨ (dec (x :: t)).2 ≠ 1) ∨ (frontP (x :: t)).2 = false ∧ dec (x :: t) = (65533, 1) := by
  obtain ⟨F, D, rfl, rfl, h⟩ := front_dec2 x t
  exact h
theorem front_whole {x : UInt8} {t : Bs} (h : (frontP (x :: t)).2 = true) : scal (dec (x :: t)).1 ∧ (x :: t).take (frontP (x :: t)).1 = encN (dec (x :: t)).1 ∧ (dec (x :: t)).2 = (frontP (x :: t)).1 ∧ (frontP (x :: t)).1 = (encN (dec (x :: t)).1).length ∧ (frontP (x :: t)).1 ≤ (x :: t).length := by
  rcases front_dec x t with ⟨_, h2, h3⟩ | ⟨h1, _⟩
  · rcases dec_spec x t with e | ⟨d1, d2, d3, d4⟩
    · rw [e] at h3; simp at h3
    · rw [h2] at d2 d3 d4
      exact ⟨d1, d4, h2, d2, d3⟩
  · rw [h] at h1; cases h1
end Go.Proofs
