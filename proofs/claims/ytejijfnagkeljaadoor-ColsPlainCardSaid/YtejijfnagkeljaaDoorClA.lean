/- cols: plain functions of the chapter's, and laws on them. No program. No condition. -/
import Derived.Lib.SlTrimSet
namespace Go.Proofs
open Go
set_option linter.unusedVariables false

abbrev Bs := List UInt8
abbrev mx0 (x : Int) : Int := if (0 : Int) > x then (0 : Int) else x
def blk (c : UInt8) : Bool := decide ((c.toNat : Int) = 32) || decide ((c.toNat : Int) = 9)
def endsP (c : UInt8) (col : Int) : Int := if (c.toNat : Int) = 32 then col + 1 else col + (4 - Int.tmod col 4)
def frontP (s : Bs) : Nat := (s.takeWhile blk).length
def widthGo : Bs → Int → Int
  | [], c => c
  | b :: t, c => if blk b = true then widthGo t (endsP b c) else c
def widthP (s : Bs) (col : Int) : Int := widthGo s (mx0 col) - mx0 col
def cutGo : Bs → Int → Int → Bs × Int
  | [], c, _ => ([], c)
  | b :: t, c, e => if c < e ∧ blk b = true then cutGo t (endsP b c) e else (b :: t, c)
def padP (r : Bs × Int) (e : Int) : Bs × Int := if r.2 ≤ e then r else (List.replicate (r.2 - e).toNat 32 ++ r.1, e)
def cutP (s : Bs) (col n : Int) : Bs × Int := padP (cutGo s (mx0 col) (mx0 col + mx0 n)) (mx0 col + mx0 n)
def trimP (s : Bs) : Bs := Lib.trimS s [32, 9]
def blankP (s : Bs) : Bool := s.all blk

theorem ends_bd {b : UInt8} {c : Int} (h : 0 ≤ c) : c < endsP b c ∧ endsP b c ≤ c + 4 := by
  unfold endsP
  rw [Int.tmod_eq_emod_of_nonneg h]
  split <;> omega
theorem cutGo_bd : ∀ (s : Bs) (c e : Int), 0 ≤ c → c ≤ (cutGo s c e).2 ∧ (c ≤ e → (cutGo s c e).2 ≤ e + 3) ∧ (e < c → (cutGo s c e).2 = c)
  | [], c, e, _ => ⟨Int.le_refl _, fun h => by simp only [cutGo]; omega, fun _ => rfl⟩
  | b :: t, c, e, h => by
    unfold cutGo
    split
    · rename_i hc
      have h1 := ends_bd (b := b) h
      obtain ⟨i1, i2, i3⟩ := cutGo_bd t (endsP b c) e (by omega)
      refine ⟨by omega, fun _ => ?_, fun _ => by omega⟩
      by_cases h2 : endsP b c ≤ e
      · exact i2 h2
      · rw [i3 (by omega)]; omega
    · exact ⟨Int.le_refl _, fun h => by simp only; omega, fun _ => rfl⟩

theorem blk_mem (c : UInt8) : [32, 9].contains c = blk c := by
  unfold blk
  rw [Bool.eq_iff_iff]
  simp only [List.contains_iff_mem, List.mem_cons, List.mem_nil_iff, or_false, Bool.or_eq_true, decide_eq_true_eq]
  constructor
  · rintro (rfl | rfl)
    · exact .inl rfl
    · exact .inr rfl
  · rintro (h | h)
    · exact .inl (UInt8.toNat_inj.1 (by simp; omega))
    · exact .inr (UInt8.toNat_inj.1 (by simp; omega))
theorem trimP_eq (s : Bs) : trimP s = ((s.reverse.dropWhile blk).reverse).dropWhile blk := by
  unfold trimP Lib.trimS Lib.trimLeftS Lib.trimRightS
  simp only [blk_mem]
theorem dropWhile_append_all {p : UInt8 → Bool} : ∀ (a b : Bs), (∀ x ∈ a, p x = true) → (a ++ b).dropWhile p = b.dropWhile p
  | [], b, _ => rfl
  | x :: a, b, h => by
    rw [List.cons_append, List.dropWhile_cons_of_pos (h x (by simp))]
    exact dropWhile_append_all a b fun y hy => h y (by simp [hy])
theorem dropWhile_append_stop {p : UInt8 → Bool} : ∀ (a b : Bs), a.dropWhile p ≠ [] → (a ++ b).dropWhile p = a.dropWhile p ++ b
  | [], b, h => absurd rfl h
  | x :: a, b, h => by
    by_cases hx : p x = true
    · rw [List.cons_append, List.dropWhile_cons_of_pos hx, List.dropWhile_cons_of_pos hx]
      rw [List.dropWhile_cons_of_pos hx] at h
      exact dropWhile_append_stop a b h
    · rw [List.cons_append, List.dropWhile_cons_of_neg hx, List.dropWhile_cons_of_neg hx]; rfl
theorem dropWhile_nil {p : UInt8 → Bool} : ∀ (a : Bs), a.dropWhile p = [] ↔ ∀ x ∈ a, p x = true
  | [] => by simp
  | x :: a => by
    by_cases hx : p x = true
    · rw [List.dropWhile_cons_of_pos hx, dropWhile_nil a]; simp [hx]
    · rw [List.dropWhile_cons_of_neg hx]; simp [hx]
/-- the blanks at the front go first, or last -/
theorem trim_comm (p : UInt8 → Bool) (s : Bs) : ((s.reverse.dropWhile p).reverse).dropWhile p = ((s.dropWhile p).reverse.dropWhile p).reverse := by
  induction s with
  | nil => rfl
  | cons x s ih =>
    by_cases hx : p x = true
    · rw [List.dropWhile_cons_of_pos hx, ← ih, List.reverse_cons]
      by_cases hn : s.reverse.dropWhile p = []
      · rw [hn]
        have h1 := (dropWhile_nil _).1 hn
        rw [dropWhile_append_all _ _ h1, List.dropWhile_cons_of_pos hx]; rfl
      · rw [dropWhile_append_stop _ _ hn, List.reverse_append]
        show (x :: (s.reverse.dropWhile p).reverse).dropWhile p = _
        rw [List.dropWhile_cons_of_pos hx]
    · rw [List.dropWhile_cons_of_neg hx, List.reverse_cons]
      have hn : ((s.reverse ++ [x]).dropWhile p) ≠ [] := fun h => by
        have := (dropWhile_nil _).1 h x (by simp)
        exact hx this
      cases hr : (s.reverse ++ [x]).dropWhile p with
      | nil => exact absurd hr hn
      | cons y t =>
        -- its last one is x
        have hlast : ∃ u, (s.reverse ++ [x]).dropWhile p = u ++ [x] := by
          by_cases h0 : s.reverse.dropWhile p = []
          · exact ⟨[], by rw [dropWhile_append_all _ _ ((dropWhile_nil _).1 h0), List.dropWhile_cons_of_neg hx]; rfl⟩
          · exact ⟨_, dropWhile_append_stop _ _ h0⟩
        obtain ⟨u, hu⟩ := hlast
        rw [← hr, hu, List.reverse_append]
        show (x :: u.reverse).dropWhile p = _
        rw [List.dropWhile_cons_of_neg hx]; rfl
theorem blank_trim (s : Bs) : decide (trimP s = []) = blankP s := by
  rw [trimP_eq, trim_comm, Bool.eq_iff_iff, decide_eq_true_eq]
  unfold blankP
  rw [List.reverse_eq_nil_iff, dropWhile_nil, List.all_eq_true]
  constructor
  · intro h
    by_cases h0 : s.dropWhile blk = []
    · exact (dropWhile_nil _).1 h0
    · exfalso
      cases hd : s.dropWhile blk with
      | nil => exact h0 hd
      | cons y t =>
        have h1 := h y (by rw [hd]; simp)
        have h2 := List.head_dropWhile_not blk h0
        simp only [hd, List.head_cons] at h2
        rw [h1] at h2; cases h2
  · intro h x hx
    rw [(dropWhile_nil s).2 h] at hx
    cases hx

theorem front_drop (s : Bs) : s.drop (frontP s) = s.dropWhile blk := by
  unfold frontP
  induction s with
  | nil => rfl
  | cons x s ih =>
    by_cases hx : blk x = true
    · rw [List.takeWhile_cons_of_pos hx, List.dropWhile_cons_of_pos hx]; exact ih
    · rw [List.takeWhile_cons_of_neg hx, List.dropWhile_cons_of_neg hx]; rfl
theorem front_le (s : Bs) : frontP s ≤ s.length := by
  unfold frontP
  exact (List.takeWhile_prefix blk).length_le
theorem front_spec (s : Bs) : (∀ i (hi : i < s.length), i < frontP s → blk s[i] = true) ∧ (∀ hf : frontP s < s.length, blk s[frontP s] = false) := by
  induction s with
  | nil => exact ⟨fun i hi => by simp at hi, fun hf => by simp at hf⟩
  | cons x s ih =>
    unfold frontP at *
    by_cases hx : blk x = true
    · simp only [List.takeWhile_cons_of_pos hx, List.length_cons]
      refine ⟨fun i hi h => ?_, fun hf => ?_⟩
      · cases i with
        | zero => exact hx
        | succ i => simpa using ih.1 i (by simpa using hi) (by omega)
      · simpa using ih.2 (by simpa using hf)
    · simp only [List.takeWhile_cons_of_neg hx, List.length_nil]
      exact ⟨fun i hi h => by omega, fun hf => by simpa using hx⟩
theorem front_blank (s : Bs) : decide ((frontP s : Int) = (s.length : Int)) = blankP s := by
  rw [Bool.eq_iff_iff, decide_eq_true_eq]
  unfold blankP
  rw [List.all_eq_true]
  have h1 := front_spec s
  have h2 := front_le s
  constructor
  · intro h x hx
    obtain ⟨i, hi, e⟩ := List.mem_iff_getElem.1 hx
    rw [← e]; exact h1.1 i hi (by omega)
  · intro h
    by_cases hf : frontP s < s.length
    · have := h1.2 hf
      rw [h _ (List.getElem_mem _)] at this; cases this
    · omega

/-! ### cutting twice -/
theorem widthGo_bd : ∀ (s : Bs) (c : Int), 0 ≤ c → c ≤ widthGo s c
  | [], c, _ => Int.le_refl _
  | b :: t, c, h => by
    unfold widthGo
    split
    · have h1 := ends_bd (b := b) h
      have := widthGo_bd t (endsP b c) (by omega)
      omega
    · exact Int.le_refl _
/-- blanks in front: one by one -/
theorem cutGo_pad (k : Nat) (s : Bs) (c e : Int) (h : c + k ≤ e) : cutGo (List.replicate k 32 ++ s) c e = cutGo s (c + k) e := by
  induction k generalizing c with
  | zero => simp
  | succ k ih =>
    rw [List.replicate_succ, List.cons_append, cutGo, if_pos ⟨by omega, rfl⟩]
    have : endsP 32 c = c + 1 := rfl
    rw [this, ih (c + 1) (by omega)]
    congr 1; omega
theorem cutGo_padStop (k j : Nat) (s : Bs) (c e : Int) (h : c + j = e) (hj : j ≤ k) : cutGo (List.replicate k 32 ++ s) c e = (List.replicate (k - j) 32 ++ s, e) ∨ (k = j ∧ cutGo (List.replicate k 32 ++ s) c e = cutGo s e e) := by
  by_cases hk : k = j
  · subst hk
    refine .inr ⟨rfl, ?_⟩
    rw [cutGo_pad k s c e (by omega), h]
  · refine .inl ?_
    have e1 : k = j + (k - j - 1 + 1) := by omega
    rw [e1, ← List.replicate_append_replicate, List.append_assoc, cutGo_pad j _ c e (by omega), h]
    rw [List.replicate_succ, List.cons_append, cutGo, if_neg (by omega)]
    congr 1
    rw [show j + (k - j - 1 + 1) - j = (k - j - 1) + 1 by omega, List.replicate_succ]
    rfl
theorem cutGo_at (s : Bs) (e c : Int) (h : e ≤ c) : cutGo s c e = (s, c) := by
  cases s with
  | nil => rfl
  | cons b t => rw [cutGo, if_neg (by omega)]
theorem widthGo_pad (k : Nat) (s : Bs) (c : Int) : widthGo (List.replicate k 32 ++ s) c = widthGo s (c + k) := by
  induction k generalizing c with
  | zero => simp
  | succ k ih =>
    rw [List.replicate_succ, List.cons_append, widthGo, if_pos (show blk 32 = true from rfl)]
    have : endsP 32 c = c + 1 := rfl
    rw [this, ih]
    congr 1; omega
/-- further than once: from where one stood -/
theorem cutGo_more : ∀ (s : Bs) (c e1 e2 : Int), 0 ≤ c → e1 ≤ e2 → cutGo (cutGo s c e1).1 (cutGo s c e1).2 e2 = cutGo s c e2
  | [], c, e1, e2, _, _ => rfl
  | b :: t, c, e1, e2, h0, h => by
    by_cases hc : c < e1 ∧ blk b = true
    · rw [show cutGo (b :: t) c e1 = cutGo t (endsP b c) e1 by rw [cutGo, if_pos hc], show cutGo (b :: t) c e2 = cutGo t (endsP b c) e2 by rw [cutGo, if_pos ⟨by omega, hc.2⟩]]
      have h1 := ends_bd (b := b) h0
      exact cutGo_more t _ e1 e2 (by omega) h
    · rw [show cutGo (b :: t) c e1 = (b :: t, c) by rw [cutGo, if_neg hc]]
theorem cutGo_width : ∀ (s : Bs) (c e : Int), 0 ≤ c → widthGo (cutGo s c e).1 (cutGo s c e).2 = widthGo s c
  | [], c, e, _ => rfl
  | b :: t, c, e, h0 => by
    by_cases hc : c < e ∧ blk b = true
    · rw [show cutGo (b :: t) c e = cutGo t (endsP b c) e by rw [cutGo, if_pos hc]]
      have h1 := ends_bd (b := b) h0
      rw [cutGo_width t _ e (by omega), widthGo, if_pos hc.2]
    · rw [show cutGo (b :: t) c e = (b :: t, c) by rw [cutGo, if_neg hc]]
/-- where one comes to: up to the end, or up to the end of the blanks -/
theorem cutGo_end : ∀ (s : Bs) (c e : Int), 0 ≤ c → (cutGo s c e).2 < e → (cutGo s c e).2 = widthGo s c
  | [], c, e, _, _ => rfl
  | b :: t, c, e, h0, h => by
    by_cases hc : c < e ∧ blk b = true
    · rw [show cutGo (b :: t) c e = cutGo t (endsP b c) e by rw [cutGo, if_pos hc]] at h ⊢
      have h1 := ends_bd (b := b) h0
      rw [cutGo_end t _ e (by omega) h, widthGo, if_pos hc.2]
    · rw [show cutGo (b :: t) c e = (b :: t, c) by rw [cutGo, if_neg hc]] at h ⊢
      have : blk b ≠ true := fun hb => hc ⟨h, hb⟩
      rw [widthGo, if_neg this]

/-- cut twice is cut once; what is left is as much less wide -/
theorem cut_parts (s : Bs) (col n m : Int) (hc : 0 ≤ col) (hn : 0 ≤ n) (hm : 0 ≤ m) :
    cutP (cutP s col n).1 (cutP s col n).2 m = cutP s col (n + m) ∧
    widthP (cutP s col n).1 (cutP s col n).2 = widthP s col - min n (widthP s col) ∧ (cutP s col n).2 = col + min n (widthP s col) := by
  have e0 : mx0 col = col := by unfold mx0; rw [if_neg (by omega)]
  have e1 : mx0 n = n := by unfold mx0; rw [if_neg (by omega)]
  have e2 : mx0 m = m := by unfold mx0; rw [if_neg (by omega)]
  have e3 : mx0 (n + m) = n + m := by unfold mx0; rw [if_neg (by omega)]
  have hb := cutGo_bd s col (col + n) hc
  have hw := cutGo_width s col (col + n) hc
  have hmore := cutGo_more s col (col + n) (col + n + m) hc (by omega)
  have hend := cutGo_end s col (col + n) hc
  have hbd := widthGo_bd s col hc
  unfold widthP cutP
  rw [e0, e1, e2, e3]
  have hwl := widthGo_bd (cutGo s col (col + n)).1 (cutGo s col (col + n)).2 (by omega)
  rw [hw] at hwl
  generalize hr : cutGo s col (col + n) = r at *
  obtain ⟨r1, r2⟩ := r
  simp only at *
  by_cases hp : r2 ≤ col + n
  · have ep : padP (r1, r2) (col + n) = (r1, r2) := by unfold padP; rw [if_pos hp]
    rw [ep]
    have er : mx0 r2 = r2 := by unfold mx0; rw [if_neg (by omega)]
    simp only [er]
    have hmin : min n (widthGo s col - col) = r2 - col := by
      by_cases hlt : r2 < col + n
      · have := hend hlt; omega
      · have : r2 = col + n := by omega
        omega
    refine ⟨?_, by rw [hw, hmin]; omega, by rw [hmin]; omega⟩
    -- the second end
    by_cases hlt : r2 < col + n
    · -- the blanks came to an end
      have h2 := hend hlt
      have stop : ∀ e, cutGo r1 r2 e = (r1, r2) := by
        intro e
        cases hr1 : r1 with
        | nil => rfl
        | cons b t =>
          rw [cutGo, if_neg]
          rintro ⟨_, hb⟩
          rw [hr1, widthGo, if_pos hb] at hw
          have h3 := ends_bd (b := b) (c := r2) (by omega)
          have h4 := widthGo_bd t (endsP b r2) (by omega)
          omega
      rw [stop, show col + (n + m) = col + n + m by omega, ← hmore, stop]
      unfold padP
      rw [if_pos (by simp only; omega), if_pos (by simp only; omega)]
    · have e4 : r2 = col + n := by omega
      rw [show col + (n + m) = col + n + m by omega, ← hmore, show r2 + m = col + n + m by omega]
  · -- a tab went too far: blanks stand for it
    have ep : padP (r1, r2) (col + n) = (List.replicate (r2 - (col + n)).toNat 32 ++ r1, col + n) := by unfold padP; rw [if_neg hp]
    rw [ep]
    have er : mx0 (col + n) = col + n := by unfold mx0; rw [if_neg (by omega)]
    simp only [er]
    have hle3 := hb.2.1 (by omega)
    have hmin : min n (widthGo s col - col) = n := by omega
    have hk : (((r2 - (col + n)).toNat : Nat) : Int) = r2 - (col + n) := by omega
    refine ⟨?_, ?_, by rw [hmin]⟩
    · rw [show col + (n + m) = col + n + m by omega, ← hmore]
      by_cases hm2 : r2 ≤ col + n + m
      · rw [cutGo_pad _ _ _ _ (by omega), hk, show col + n + (r2 - (col + n)) = r2 by omega]
      · rw [cutGo_at r1 (col + n + m) r2 (by omega)]
        have hj : (col + n) + ((m.toNat : Nat) : Int) = col + n + m := by omega
        rcases cutGo_padStop (r2 - (col + n)).toNat m.toNat r1 (col + n) (col + n + m) hj (by omega) with h | ⟨h, _⟩
        · rw [h]
          unfold padP
          rw [if_pos (by simp only; omega), if_neg (by simp only; omega)]
          simp only
          rw [show (r2 - (col + n)).toNat - m.toNat = (r2 - (col + n + m)).toNat by omega]
        · omega
    · rw [widthGo_pad, hk, show col + n + (r2 - (col + n)) = r2 by omega, hw, hmin]; omega

/-- a line without tabs -/
theorem cut_plain : ∀ (s : Bs) (c : Int) (k : Nat), (∀ x ∈ s, (x.toNat : Int) ≠ 9) → 0 ≤ c → k ≤ s.length → (∀ i (hi : i < s.length), i < k → (s[i].toNat : Int) = 32) → ∀ e, c + k ≤ e →
    (c + k = e ∨ k = s.length ∨ ∃ hk : k < s.length, (s[k].toNat : Int) ≠ 32) → cutGo s c e = (s.drop k, c + k)
  | s, c, 0, ht, h0, _, _, e, he, hor => by
    rw [List.drop_zero]
    cases s with
    | nil => simp [cutGo]
    | cons b t =>
      rw [cutGo, if_neg]
      · simp
      · rintro ⟨h1, h2⟩
        rcases hor with h | h | ⟨_, h⟩
        · omega
        · simp at h
        · unfold blk at h2
          have := ht b (by simp)
          simp at h h2
          omega
  | [], c, k + 1, _, _, hk, _, _, _, _ => by simp at hk
  | b :: t, c, k + 1, ht, h0, hk, hall, e, he, hor => by
    have hb : (b.toNat : Int) = 32 := hall 0 (by simp) (by omega)
    rw [cutGo, if_pos ⟨by omega, by unfold blk; rw [decide_eq_true hb]; rfl⟩]
    have e1 : endsP b c = c + 1 := by unfold endsP; rw [if_pos hb]
    rw [e1, cut_plain t (c + 1) k (fun x hx => ht x (by simp [hx])) (by omega) (by simpa using hk) (fun i hi h => hall (i + 1) (by simpa using hi) (by omega)) e (by omega) ?_]
    · rw [List.drop_succ_cons]; congr 1; omega
    · rcases hor with h | h | ⟨h1, h2⟩
      · exact .inl (by omega)
      · exact .inr (.inl (by simpa using h))
      · exact .inr (.inr ⟨by simpa using h1, by simpa using h2⟩)
end Go.Proofs
