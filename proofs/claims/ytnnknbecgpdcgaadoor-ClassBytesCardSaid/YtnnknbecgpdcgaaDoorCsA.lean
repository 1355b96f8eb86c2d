/- class: folding, marks, characters around a place: plain. No condition. -/
import Derived.Test.YtnnknbecgpdcgaaDoorUtH
import Derived.Test.YtnnknbecgpdcgaaDoorWalkFold
import Derived.Test.YtnnknbecgpdcgaaDoorWalkPunct
import Derived.Test.YtnnknbecgpdcgaaDoorWalkNoteN
import Derived.Test.YtnnknbecgpdcgaaDoorWalkClassD
namespace Go.Proofs
open Go Go.Sh
set_option linter.unusedVariables false
set_option linter.unusedSimpArgs false
set_option maxRecDepth 100000

/-! ### the characters that the elder walks speak of -/
theorem ty_runesFrom (s : ByteArray) : ∀ k i, Ty.runesFrom s k i = runesGo k (s.data.toList.drop i)
  | 0, i => rfl
  | k + 1, i => by
    unfold Ty.runesFrom
    have hsz : s.size = s.data.toList.length := rfl
    rw [hsz, decode_dec]
    split
    · rename_i h
      cases hd : s.data.toList.drop i with
      | nil => simp at hd; simp at h; omega
      | cons x t =>
        rw [ty_runesFrom s k, ← List.drop_drop, hd]; rfl
    · rename_i h
      rw [List.drop_of_length_le (by omega), runesGo_nil]
theorem ty_runesOf (s : ByteArray) : Ty.runesOf s = runesP s.data.toList := by
  unfold Ty.runesOf
  rw [ty_runesFrom, List.drop_zero]; rfl

/-! ### folding -/
def turnN (r : Nat) : Nat := (Tryd.turnedI (r : Int)).toNat
theorem turn_nat (r : Nat) : ((turnN r : Nat) : Int) = Tryd.turnedI (r : Int) := by
  unfold turnN
  have : 0 ≤ Tryd.turnedI (r : Int) := by unfold Tryd.turnedI; (repeat' split) <;> omega
  omega
theorem turn_ok {r : Nat} (h : scal r) : scal (turnN r) ∧ (r ≠ 0 → turnN r ≠ 0) := by
  have := turn_nat r
  unfold scal at *
  revert this
  generalize turnN r = m
  intro this
  unfold Tryd.turnedI at this
  (repeat' split at this) <;> omega
def foldN (r : Nat) : List Nat := if r = 223 ∨ r = 7838 then [115, 115] else [turnN r]
theorem fold_ok {r : Nat} (h : okR r) : ∀ x ∈ foldN r, okR x := by
  intro x hx
  unfold foldN at hx
  split at hx
  · simp at hx; subst hx; exact ⟨by unfold scal; omega, by decide⟩
  · simp at hx; subst hx
    exact ⟨(turn_ok h.1).1, (turn_ok h.1).2 h.2⟩
theorem turn_turn (r : Nat) (h : r ≠ 223) (h2 : r ≠ 7838) : turnN (turnN r) = turnN r ∧ turnN r ≠ 223 ∧ turnN r ≠ 7838 := by
  have e1 := turn_nat r
  have e2 := turn_nat (turnN r)
  rw [e1] at e2
  generalize turnN (turnN r) = k at *
  generalize turnN r = m at *
  have key : Tryd.turnedI (Tryd.turnedI (r : Int)) = Tryd.turnedI (r : Int) ∧ Tryd.turnedI (r : Int) ≠ 223 ∧ Tryd.turnedI (r : Int) ≠ 7838 := by
    generalize hx : Tryd.turnedI (r : Int) = x
    unfold Tryd.turnedI at hx ⊢
    split at hx
    · rw [if_neg (by omega), if_neg (by omega), if_neg (by omega), if_neg (by omega), if_neg (by omega)]; omega
    · split at hx
      · rw [if_neg (by omega), if_neg (by omega), if_neg (by omega), if_neg (by omega), if_neg (by omega)]; omega
      · split at hx
        · subst hx; decide
        · split at hx
          · rw [if_neg (by omega), if_neg (by omega), if_neg (by omega), if_pos (by omega)]; omega
          · split at hx
            · rw [if_neg (by omega), if_neg (by omega), if_neg (by omega), if_neg (by omega)]
              split <;> omega
            · subst hx
              rw [if_neg (by assumption), if_neg (by assumption), if_neg (by assumption), if_neg (by assumption), if_neg (by assumption)]
              omega
  omega
def foldP (s : Bs) : Bs := encs ((runesP s).flatMap foldN)
theorem fold_fold {r : Nat} (h : okR r) : (foldN r).flatMap foldN = foldN r := by
  unfold foldN
  split
  · rfl
  · rename_i hc
    have := turn_turn r (fun e => hc (.inl e)) (fun e => hc (.inr e))
    simp only [List.flatMap_cons, List.flatMap_nil, List.append_nil]
    rw [if_neg (by omega), this.1]
theorem foldP_text {s : Bs} (h : IsText s) : IsText (foldP s) ∧ foldP (foldP s) = foldP s := by
  obtain ⟨rs, hr, rfl⟩ := h
  have hs : ∀ r ∈ rs, scal r := fun r h => (hr r h).1
  have hf : ∀ x ∈ rs.flatMap foldN, okR x := fun x hx => by
    obtain ⟨r, h1, h2⟩ := List.mem_flatMap.1 hx
    exact fold_ok (hr r h1) x h2
  have e : foldP (encs rs) = encs (rs.flatMap foldN) := by unfold foldP; rw [runesP_encs rs hs]
  refine ⟨⟨_, hf, e⟩, ?_⟩
  rw [e]
  unfold foldP
  rw [runesP_encs _ fun r h => (hf r h).1, List.flatMap_assoc]
  have : ∀ l : List Nat, (∀ r ∈ l, okR r) → l.flatMap (fun x => (foldN x).flatMap foldN) = l.flatMap foldN := by
    intro l
    induction l with
    | nil => intro _; rfl
    | cons r l ih =>
      intro hl
      rw [List.flatMap_cons, List.flatMap_cons, fold_fold (hl r (by simp)), ih fun x hx => hl x (by simp [hx])]
  rw [this rs hr]
theorem fold_bytes (s : Bs) : Tryd.foldB ⟨⟨s⟩⟩ = foldP s := by
  unfold Tryd.foldB foldP
  rw [ty_runesOf]
  show (runesP s).flatMap Tryd.foldR = _
  have hs := runes_scal _ s (Nat.le_refl _)
  revert hs
  generalize runesP s = l
  intro hs
  induction l with
  | nil => rfl
  | cons r l ih =>
    rw [List.flatMap_cons, List.flatMap_cons, encs_append, ih fun x hx => hs x (by simp [hx])]
    congr 1
    unfold Tryd.foldR foldN
    split
    · decide
    · have h1 := (turn_ok (hs r (by simp))).1
      rw [← turn_nat, encodeRune_enc h1]; simp [encs]

/-! ### marks -/
def refL : List Int := [33, 47, 58, 64, 91, 96, 123, 126, 161, 169, 171, 172, 174, 177, 180, 180, 182, 184, 187, 187, 191, 191, 215, 215, 247, 247] ++ [8208, 8231, 8240, 8286, 8352, 8384, 8592, 9215, 9472, 10175, 11776, 11869, 12289, 12291, 12296, 12320, 65040, 65049, 65072, 65131] ++ [65281, 65295, 65306, 65312, 65339, 65344, 65371, 65381, 127744, 129791]
def anyPair (c : Int) : List Int → Bool
  | a :: b :: t => (decide (a ≤ c) && decide (c ≤ b)) || anyPair c t
  | _ => false
theorem punct_low : ∀ k : Fin 128, Tryd.punctI (k.val : Int) = anyPair (k.val : Int) refL := by decide +kernel
theorem punct_ref (c : Int) : Tryd.punctI c = anyPair c refL := by
  by_cases h0 : c < 0
  · have e1 : Tryd.punctI c = false := by unfold Tryd.punctI; rw [if_pos (by omega), decide_eq_false (by omega)]; rfl
    rw [e1]
    have : ∀ l : List Int, (∀ x ∈ l, 0 ≤ x) → anyPair c l = false := by
      intro l
      induction l using anyPair.induct with
      | case1 a b t ih =>
        intro hl
        unfold anyPair
        rw [ih fun x hx => hl x (by simp [hx]), decide_eq_false (by have := hl a (by simp); omega)]; rfl
      | case2 l h => intro _; unfold anyPair; split <;> first | rfl | (exfalso; exact h _ _ _ rfl)
    exact (this refL (by decide)).symm
  by_cases h1 : c < 128
  · have := punct_low ⟨c.toNat, by omega⟩
    have e : ((c.toNat : Nat) : Int) = c := by omega
    simp only [e] at this
    exact this
  · unfold Tryd.punctI
    rw [if_neg h1]
    unfold Tryd.inMarks Tryd.pairs refL
    simp only [List.take, List.any, anyPair, List.cons_append, List.nil_append]
    have z : (decide ((0 : Int) ≤ c) && decide (c ≤ (0 : Int))) = false := by rw [decide_eq_false (show ¬ c ≤ 0 by omega), Bool.and_false]
    simp [z]

/-! ### around a place -/
def prevP (s : Bs) (i : Int) : Int := if i ≤ 0 ∨ i > s.length then 10 else ((runesP (s.take i.toNat)).getLastD 0 : Nat)
def nextP (s : Bs) (i : Int) : Int := if i < 0 ∨ i ≥ s.length then 10 else ((dec (s.drop i.toNat)).1 : Nat)
theorem prev_last {s : Bs} {i : Nat} (h0 : 0 < i) (hi : i ≤ s.length) (hw : plainP (s.take i) = s.take i) : (Lib.decodeLastL (s.take i)).1 = (runesP (s.take i)).getLastD 0 := by
  obtain ⟨rs, hr, e⟩ := (isText_iff _).2 hw
  have hs : ∀ r ∈ rs, scal r := fun r h => (hr r h).1
  rw [e, runesP_encs rs hs]
  have hne : rs ≠ [] := by
    intro h
    subst h
    have := congrArg List.length e
    rw [List.length_take, show (encs []).length = 0 from rfl] at this
    omega
  rw [last_encs hs hne, List.getLastD_eq_getLast?, List.getLast?_eq_some_getLast hne]; rfl
theorem runes_ne {b : Bs} (h : b ≠ []) : runesP b ≠ [] := by rw [runesP_ne h]; simp
end Go.Proofs
