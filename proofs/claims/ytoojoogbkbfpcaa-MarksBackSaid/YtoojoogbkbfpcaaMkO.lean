/- marks: the lists that are pushed one by one; plain laws. No condition. -/
import Derived.Test.YtoojoogbkbfpcaaMkN
namespace Go.Proofs
open Go Go.Sh
set_option linter.unusedVariables false
set_option maxRecDepth 100000

/-- the place behind the last marker, by what it is -/
theorem behindTo_spec (l : List MarkP) : ∀ k, k ≤ l.length → (∀ i (hi : i < l.length), behindTo l k ≤ i → i < k → 0 ≤ l[i].1) ∧ (behindTo l k = 0 ∨ ∃ i, ∃ hi : i < l.length, behindTo l k = i + 1 ∧ l[i].1 < 0)
  | 0, _ => ⟨fun i hi _ h => by omega, .inl rfl⟩
  | k + 1, hk => by
    have hkl : k < l.length := by omega
    unfold behindTo
    rw [getD_get hkl]
    by_cases hn : l[k].1 < 0
    · rw [if_pos hn]
      exact ⟨fun i hi h1 h2 => by omega, .inr ⟨k, hkl, rfl, hn⟩⟩
    · rw [if_neg hn]
      obtain ⟨h1, h2⟩ := behindTo_spec l k (by omega)
      refine ⟨fun i hi h3 h4 => ?_, h2⟩
      by_cases e : i = k
      · subst e; omega
      · exact h1 i hi h3 (by omega)
theorem behind_spec (l : List MarkP) : (∀ i (hi : i < l.length), behind l ≤ i → 0 ≤ l[i].1) ∧ (behind l = 0 ∨ ∃ i, ∃ hi : i < l.length, behind l = i + 1 ∧ l[i].1 < 0) := by
  obtain ⟨h1, h2⟩ := behindTo_spec l l.length (Nat.le_refl _)
  exact ⟨fun i hi h => h1 i hi h hi, h2⟩
theorem behind_unique {l : List MarkP} {b : Nat} (h1 : ∀ i (hi : i < l.length), b ≤ i → 0 ≤ l[i].1) (h2 : b = 0 ∨ ∃ i, ∃ hi : i < l.length, b = i + 1 ∧ l[i].1 < 0) : behind l = b := by
  obtain ⟨k1, k2⟩ := behind_spec l
  rcases Nat.lt_trichotomy (behind l) b with h | h | h
  · rcases h2 with rfl | ⟨i, hi, rfl, hn⟩
    · omega
    · have := k1 i hi (by omega); omega
  · exact h
  · rcases k2 with e | ⟨i, hi, e, hn⟩
    · omega
    · have := h1 i hi (by omega); omega
theorem behind_marker (l : List MarkP) {m : MarkP} (hm : m.1 < 0) : behind (l ++ [m]) = l.length + 1 :=
  behind_unique (fun i hi h => by simp at hi; omega) (.inr ⟨l.length, by simp, rfl, by simpa using hm⟩)
theorem behind_snoc (l : List MarkP) {m : MarkP} (hm : ¬ m.1 < 0) : behind (l ++ [m]) = behind l := by
  obtain ⟨k1, k2⟩ := behind_spec l
  have hle := behind_le l
  refine behind_unique (fun i hi h => ?_) (k2.imp id ?_)
  · by_cases e : i < l.length
    · rw [List.getElem_append_left e]; exact k1 i e h
    · rw [List.getElem_append_right (by omega)]
      simp at hi
      have : i - l.length = 0 := by omega
      simp [this]; omega
  · rintro ⟨i, hi, e, hn⟩
    exact ⟨i, by simp; omega, e, by rw [List.getElem_append_left hi]; exact hn⟩
theorem behind_erase (l : List MarkP) {j : Nat} (hj : behind l ≤ j) : behind (l.eraseIdx j) = behind l := by
  obtain ⟨k1, k2⟩ := behind_spec l
  refine behind_unique (fun i hi h => ?_) (k2.imp id ?_)
  · rw [List.getElem_eraseIdx]
    split
    · exact k1 i _ h
    · exact k1 (i + 1) _ (by omega)
  · rintro ⟨i, hi, e, hn⟩
    have hij : i < j := by omega
    have hlen : i < (l.eraseIdx j).length := by
      rw [List.length_eraseIdx]
      split
      · rename_i hjl; omega
      · exact hi
    refine ⟨i, hlen, e, ?_⟩
    rw [List.getElem_eraseIdx, dif_pos hij]
    exact hn

theorem pushS_mem {l : List MarkP} {m : MarkP} {j : Nat} (h : j ∈ pushS l m) : behind l ≤ j ∧ j < l.length ∧ ∃ hj : j < l.length, alikeP m l[j] = true := by
  unfold pushS at h
  split at h
  · cases h
  · have hle := behind_le l
    have h1 := sames_lt j h
    have hj : j < l.length := by omega
    refine ⟨h1.1, hj, hj, ?_⟩
    have := (List.mem_filter.1 h).2
    rwa [getD_get hj] at this
theorem pushS_head {l : List MarkP} {m : MarkP} (h : ¬ (pushS l m).length < 3) : (pushS l m).headD 0 ∈ pushS l m := by
  cases hp : pushS l m with
  | nil => rw [hp] at h; simp at h
  | cons a t => simp

/-- where one is pushed that is no marker, the marks up to the last marker stay -/
theorem push_back {l : List MarkP} {m : MarkP} (hm : ¬ m.1 < 0) : behind (pushP l m) = behind l ∧ (pushP l m).take (behind l) = l.take (behind l) := by
  have hle := behind_le l
  unfold pushP
  split
  · exact ⟨behind_snoc l hm, List.take_append_of_le_length hle⟩
  · rename_i h3
    obtain ⟨h1, h2, _⟩ := pushS_mem (pushS_head h3)
    refine ⟨by rw [behind_snoc _ hm, behind_erase l h1], ?_⟩
    rw [List.eraseIdx_eq_take_drop_succ, List.append_assoc, List.take_append_of_le_length (by rw [List.length_take]; omega), List.take_take, Nat.min_eq_left h1]
theorem push_len (l : List MarkP) (m : MarkP) : (pushP l m).length ≤ l.length + 1 ∧ 0 < (pushP l m).length := by
  unfold pushP
  split
  · simp
  · have := List.length_eraseIdx_le l ((pushS l m).headD 0)
    rw [List.length_append, List.length_singleton]; omega
theorem push_last (l : List MarkP) (m : MarkP) : ∃ r, pushP l m = r ++ [m] := by
  unfold pushP
  split
  · exact ⟨l, rfl⟩
  · exact ⟨_, rfl⟩

/-! ### MarksBack -/
def backAll (l more : List MarkP) : Nat → List MarkP
  | 0 => pushP l (-1, [], [])
  | i + 1 => if (more.getD i (0, [], [])).1 < 0 then backAll l more i else pushP (backAll l more i) (more.getD i (0, [], []))
theorem backAll_spec (l more : List MarkP) : ∀ i, behind (backAll l more i) = l.length + 1 ∧ (backAll l more i).take (l.length + 1) = l ++ [(-1, [], [])] ∧ (backAll l more i).length ≤ l.length + 1 + i
  | 0 => by
    have e : backAll l more 0 = l ++ [(-1, [], [])] := by
      have h0 : pushS l (-1, [], []) = [] := if_pos (by decide : (-1 : Int) < 0)
      unfold backAll pushP
      rw [h0]; rfl
    rw [e]
    exact ⟨behind_marker l (by decide), List.take_of_length_le (by simp), by simp⟩
  | i + 1 => by
    obtain ⟨h1, h2, h3⟩ := backAll_spec l more i
    unfold backAll
    split
    · exact ⟨h1, h2, by omega⟩
    · rename_i hm
      obtain ⟨h4, h5⟩ := push_back (l := backAll l more i) hm
      have h6 := (push_len (backAll l more i) (more.getD i (0, [], []))).1
      rw [h1] at h4 h5
      exact ⟨h4, by rw [h5, h2], by omega⟩
theorem backAll_clear (l more : List MarkP) (i : Nat) : clearP (backAll l more i) = l := by
  obtain ⟨h1, h2, _⟩ := backAll_spec l more i
  unfold clearP
  rw [h1, if_neg (by omega)]
  have : (backAll l more i).take (l.length + 1 - 1) = ((backAll l more i).take (l.length + 1)).take l.length := by rw [List.take_take]; congr 1; omega
  rw [this, h2]; simp

/-! ### MarksFew -/
def bare (m : MarkP) : MarkP := (m.1, m.2.1, [])
def fewAll (l : List MarkP) : Nat → List MarkP
  | 0 => []
  | i + 1 => pushP (fewAll l i) (bare (l.getD i (0, [], [])))
theorem fewAll_len (l : List MarkP) : ∀ i, (fewAll l i).length ≤ i
  | 0 => Nat.le_refl _
  | i + 1 => by have := fewAll_len l i; have := (push_len (fewAll l i) (bare (l.getD i (0, [], [])))).1; unfold fewAll; omega
/-- those of a name behind the last marker -/
def tailCnt (l : List MarkP) (s : Bs) : Nat → Nat
  | 0 => 0
  | k + 1 => if (l.getD k (0, [], [])).1 < 0 then 0 else (if (l.getD k (0, [], [])).2.1 = s then 1 else 0) + tailCnt l s k
def cntB (l : List MarkP) (s : Bs) : Nat := (l.drop (behind l)).countP fun m => decide (m.2.1 = s)
theorem tailCnt_eq (l : List MarkP) (s : Bs) : ∀ k, k ≤ l.length → tailCnt l s k = ((l.take k).drop (behindTo l k)).countP fun m => decide (m.2.1 = s)
  | 0, _ => rfl
  | k + 1, hk => by
    have hkl : k < l.length := by omega
    unfold tailCnt behindTo
    rw [getD_get hkl]
    split
    · rw [List.drop_of_length_le (by simp; omega)]; rfl
    · rw [List.take_succ_eq_append_getElem hkl, List.drop_append_of_le_length (by have := behindTo_le l k; simp; omega), List.countP_append, ← tailCnt_eq l s k (by omega), List.countP_singleton]
      simp only [decide_eq_true_eq]
      omega
theorem tailCnt_all (l : List MarkP) (s : Bs) : tailCnt l s l.length = cntB l s := by rw [tailCnt_eq l s _ (Nat.le_refl _), List.take_length]; rfl

theorem sames_count (l : List MarkP) (m : MarkP) (s : Nat) : ∀ k, s + k ≤ l.length → (sames l m s k).length = ((l.drop s).take k).countP (alikeP m)
  | 0, _ => rfl
  | k + 1, hk => by
    have hkl : s + k < l.length := by omega
    rw [sames_succ, getD_get hkl, List.take_succ_eq_append_getElem (by simp; omega), List.countP_append, ← sames_count l m s k (by omega), List.countP_singleton]
    have e : (l.drop s)[k]'(by simp; omega) = l[s + k] := by simp
    rw [e]
    split <;> simp
theorem pushS_count (l : List MarkP) {m : MarkP} (hm : ¬ m.1 < 0) : (pushS l m).length = (l.drop (behind l)).countP (alikeP m) := by
  unfold pushS
  rw [if_neg hm, sames_count l m _ _ (by have := behind_le l; omega), List.take_of_length_le (by simp)]
theorem alike_bare {m x : MarkP} (hm : m.2.2 = []) (hx : x.2.2 = []) : alikeP m x = decide (x.2.1 = m.2.1) := by
  unfold alikeP
  rw [hm, hx]
  simp [eq_comm]
theorem count_erase {α : Type} (p : α → Bool) (l : List α) {i : Nat} (hi : i < l.length) : (l.eraseIdx i).countP p + (if p l[i] then 1 else 0) = l.countP p := by
  have e : l = l.take i ++ l[i] :: l.drop (i + 1) := by rw [List.getElem_cons_drop, List.take_append_drop]
  rw [List.eraseIdx_eq_take_drop_succ, List.countP_append]
  conv => rhs; rw [e, List.countP_append, List.countP_cons]
  omega
theorem few_ok (l : List MarkP) : ∀ i, (∀ x ∈ fewAll l i, x.2.2 = []) ∧ ∀ s, cntB (fewAll l i) s ≤ 3
  | 0 => ⟨fun x hx => (by cases hx), fun s => by show cntB [] s ≤ 3; unfold cntB; simp⟩
  | i + 1 => by
    obtain ⟨h1, h2⟩ := few_ok l i
    show (∀ x ∈ pushP (fewAll l i) (bare (l.getD i (0, [], []))), x.2.2 = []) ∧ _
    have hfa : fewAll l (i + 1) = pushP (fewAll l i) (bare (l.getD i (0, [], []))) := rfl
    rw [hfa]
    generalize fewAll l i = L at *
    generalize hm : bare (l.getD i (0, [], [])) = m
    have hme : m.2.2 = [] := by rw [← hm]; rfl
    refine ⟨fun x hx => ?_, fun s => ?_⟩
    · unfold pushP at hx
      split at hx
      · rcases List.mem_append.1 hx with hx | hx
        · exact h1 x hx
        · rw [List.mem_singleton] at hx; subst hx; exact hme
      · rcases List.mem_append.1 hx with hx | hx
        · exact h1 x (List.mem_of_mem_eraseIdx hx)
        · rw [List.mem_singleton] at hx; subst hx; exact hme
    · by_cases hn : m.1 < 0
      · have : pushP L m = L ++ [m] := by unfold pushP pushS; rw [if_pos hn, if_pos (by decide)]
        unfold cntB
        rw [this, behind_marker L hn, List.drop_of_length_le (by simp)]
        simp
      · have hc := pushS_count L hn
        have hal : (L.drop (behind L)).countP (alikeP m) = (L.drop (behind L)).countP fun x => decide (x.2.1 = m.2.1) := List.countP_congr fun x hx => by rw [alike_bare hme (h1 x (List.mem_of_mem_drop hx))]
        rw [hal] at hc
        have hs := h2 s
        unfold cntB at hs ⊢
        have hle := behind_le L
        unfold pushP
        split
        · rename_i h3
          rw [behind_snoc L hn, List.drop_append_of_le_length hle, List.countP_append, List.countP_singleton]
          by_cases e : m.2.1 = s
          · subst e; simp; omega
          · simp [e]; omega
        · rename_i h3
          obtain ⟨g1, g2, g3, g4⟩ := pushS_mem (pushS_head h3)
          generalize (pushS L m).headD 0 = j at *
          rw [behind_snoc _ hn, behind_erase L g1]
          have hel : behind L ≤ (L.eraseIdx j).length := by rw [List.length_eraseIdx_of_lt g2]; omega
          have hdr : (L.eraseIdx j).drop (behind L) = (L.drop (behind L)).eraseIdx (j - behind L) := by
            rw [List.eraseIdx_eq_take_drop_succ, List.eraseIdx_eq_take_drop_succ, List.drop_append_of_le_length (by simp; omega), List.drop_take, List.drop_drop]
            congr 2; omega
          rw [List.drop_append_of_le_length hel, List.countP_append, List.countP_singleton, hdr]
          have hce := count_erase (fun x : MarkP => decide (x.2.1 = s)) (L.drop (behind L)) (i := j - behind L) (by simp; omega)
          have ej : (L.drop (behind L))[j - behind L]'(by simp; omega) = L[j] := by simp [show behind L + (j - behind L) = j by omega]
          rw [ej] at hce
          have hja : L[j].2.1 = m.2.1 := by
            rw [alike_bare hme (h1 _ (List.getElem_mem _))] at g4
            exact of_decide_eq_true g4
          by_cases e : m.2.1 = s
          · rw [decide_eq_true (by rw [hja, e])] at hce
            simp [e] at hce ⊢
            omega
          · rw [decide_eq_false (by rw [hja]; exact e)] at hce
            simp [e] at hce ⊢
            omega
end Go.Proofs
