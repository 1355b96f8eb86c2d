/- Plain facts about 'note': a comment that is written well is read as it is; what is read ends within the bytes, and its text stands there. -/
import Derived.Test.YthbeoddbgcdpnaaPlainNote
import Derived.Lib.IndexMore
namespace Ty
open Go.Lib

theorem contains_of_occ {l p : B} {i : Nat} (h : occAt l p i = true) (hi : i ≤ l.length) : contains l p = true := by
  unfold contains
  rw [decide_eq_true_eq]
  rcases index_spec l p with ⟨h1, h2⟩ | ⟨k, h1, _⟩
  · rw [h2 i hi] at h; exact absurd h (by decide)
  · omega

theorem noOcc_of_contains {l p : B} (h : contains l p = false) (j : Nat) (hj : j ≤ l.length) : occAt l p j = false := by
  unfold contains at h
  rw [decide_eq_false_iff_not] at h
  rcases index_spec l p with ⟨_, h2⟩ | ⟨k, h1, _⟩
  · exact h2 j hj
  · omega

/-- the text of a token stands in what was read -/
def Within (l t : B) (n : Nat) : Prop := ∃ a m, t = (l.drop a).take m ∧ a + m ≤ n

theorem Within.contains {l t : B} {n : Nat} (h : Within l t n) (hn : n ≤ l.length) : contains (l.take n) t = true := by
  obtain ⟨a, m, rfl, hm⟩ := h
  refine contains_of_occ (i := a) ?_ (by rw [List.length_take]; omega)
  unfold occAt
  rw [List.isPrefixOf_iff_prefix, List.drop_take]
  have : ((l.drop a).take (n - a)).take m = (l.drop a).take m := by rw [List.take_take, Nat.min_eq_left (by omega)]
  rw [← this]
  exact List.take_prefix _ _

theorem upTo_within (l sub : B) : ∃ m, (upTo l sub).1 = l.take m ∧ m ≤ (upTo l sub).2 ∧ (upTo l sub).2 ≤ l.length := by
  have h2 := (upTo_len_le l sub).2
  unfold upTo at *
  split at h2
  · rename_i h
    rw [if_pos h]
    exact ⟨_, rfl, by simp, h2⟩
  · rename_i h
    rw [if_neg h]
    exact ⟨l.length, by simp, Nat.le_refl _, Nat.le_refl _⟩

theorem tail_within (l : B) : ∃ m, tailText l = l.take m ∧ m ≤ l.length := by
  unfold tailText
  split
  · exact ⟨_, rfl, by omega⟩
  · split
    · exact ⟨_, rfl, by omega⟩
    · split
      · exact ⟨_, rfl, by omega⟩
      · exact ⟨l.length, by simp, Nat.le_refl _⟩

theorem comment_within (l : B) : ∃ m, (comment l).1 = l.take m ∧ m ≤ (comment l).2 ∧ (comment l).2 ≤ l.length := by
  have hle := comment_le l
  unfold comment at *
  split at hle
  · rename_i h; rw [if_pos h]; exact ⟨0, by simp, by simp, hle⟩
  · rename_i h
    rw [if_neg h]
    split at hle
    · rename_i h; rw [if_pos h]; exact ⟨0, by simp, by simp, hle⟩
    · rename_i h
      rw [if_neg h]
      split at hle
      · rename_i h; rw [if_pos h]; exact upTo_within _ _
      · rename_i h
        rw [if_neg h]
        split at hle
        · rename_i h; rw [if_pos h]; exact upTo_within _ _
        · rename_i h
          rw [if_neg h]
          obtain ⟨m, h1, h2⟩ := tail_within l
          exact ⟨m, h1, h2, Nat.le_refl _⟩

theorem within_drop {l t : B} {a m n : Nat} (ht : t = (l.drop a).take m) (hm : m ≤ n) : Within l t (a + n) := ⟨a, m, ht, by omega⟩

/-- what is read of l (two bytes at least): its kind, where it ends, where its text stands -/
theorem read1_within (l : B) (cd : Bool) (hl : 2 ≤ l.length) :
    ((read1 l cd).1 = 0 ∨ (read1 l cd).1 = 1 ∨ (read1 l cd).1 = 4 ∨ (read1 l cd).1 = 5) ∧ 2 ≤ (read1 l cd).2.2 ∧ (read1 l cd).2.2 ≤ l.length ∧ Within l (read1 l cd).2.1 (read1 l cd).2.2 ∨
    (2 ≤ l.length ∧ (read1 l cd).1 = 4 ∧ (read1 l cd).2.2 = 1 ∧ l[1]? = some 63) := by
  have plen : ∀ p : B, hasPrefix l p = true → p.length ≤ l.length := fun p h => (List.isPrefixOf_iff_prefix.1 h).length_le
  unfold read1
  split
  · rename_i h
    have h4 := plen _ h
    simp only [sNote, List.length_cons, List.length_nil] at h4
    obtain ⟨m, h1, h2, h3⟩ := comment_within (l.drop 4)
    rw [List.length_drop] at h3
    left
    exact ⟨Or.inr (Or.inr (Or.inl rfl)), by simp only; omega, by simp only; omega, within_drop h1 h2⟩
  · split
    · rename_i h
      simp only [Bool.and_eq_true, decide_eq_true_eq] at h
      have h3 := (upTo_len_le (l.drop 9) sGt).2
      rw [List.length_drop] at h3
      left
      exact ⟨Or.inr (Or.inr (Or.inr rfl)), by simp only; omega, by simp only; omega, ⟨0, 0, by simp, by omega⟩⟩
    · split
      · rename_i h
        simp only [Bool.and_eq_true] at h
        have h9 := plen _ h.2
        simp only [sCdata, List.length_cons, List.length_nil] at h9
        obtain ⟨m, h1, h2, h3⟩ := upTo_within (l.drop 9) sCdEnd
        rw [List.length_drop] at h3
        left
        exact ⟨Or.inr (Or.inl rfl), by simp only; omega, by simp only; omega, within_drop h1 h2⟩
      · split
        · rename_i h
          have h3 := plen _ h
          simp only [sNone, List.length_cons, List.length_nil] at h3
          left
          exact ⟨Or.inl rfl, by simp only; omega, by simp only; omega, ⟨0, 0, by simp, by omega⟩⟩
        · split
          · rename_i h
            obtain ⟨m, h1, h2, h3⟩ := upTo_within (l.drop 1) sGt
            rw [List.length_drop] at h3
            by_cases h0 : (upTo (l.drop 1) sGt).2 = 0
            · right
              exact ⟨hl, rfl, by simp only [h0], by simpa using h⟩
            · left
              exact ⟨Or.inr (Or.inr (Or.inl rfl)), by simp only; omega, by simp only; omega, within_drop h1 h2⟩
          · obtain ⟨m, h1, h2, h3⟩ := upTo_within (l.drop 2) sGt
            rw [List.length_drop] at h3
            left
            exact ⟨Or.inr (Or.inr (Or.inl rfl)), by simp only; omega, by simp only; omega, within_drop h1 h2⟩

/-- behind "?" there is a byte more than nothing -/
theorem upTo_some (l : B) (hl : l ≠ []) (h0 : l[0]? = some 63) : 1 ≤ (upTo l sGt).2 := by
  match l, h0 with
  | c :: t, h0 =>
    simp at h0
    subst h0
    unfold upTo
    split
    · simp [sGt]
    · simp

theorem read1_end (l : B) (cd : Bool) (hl : 2 ≤ l.length) :
    ((read1 l cd).1 = 0 ∨ (read1 l cd).1 = 1 ∨ (read1 l cd).1 = 4 ∨ (read1 l cd).1 = 5) ∧ 2 ≤ (read1 l cd).2.2 ∧ (read1 l cd).2.2 ≤ l.length ∧ Within l (read1 l cd).2.1 (read1 l cd).2.2 := by
  rcases read1_within l cd hl with h | ⟨_, h4, h1, h63⟩
  · exact h
  · exfalso
    have hs : 1 ≤ (upTo (l.drop 1) sGt).2 := upTo_some (l.drop 1) (by intro e; have := congrArg List.length e; simp at this; omega) (by rw [List.getElem?_drop]; exact h63)
    unfold read1 at h1
    split at h1
    · simp only at h1; omega
    · split at h1
      · simp only at h1; omega
      · split at h1
        · simp only at h1; omega
        · split at h1
          · simp only at h1; omega
          · split at h1
            · simp only at h1; omega
            · simp only at h1; omega

end Ty
