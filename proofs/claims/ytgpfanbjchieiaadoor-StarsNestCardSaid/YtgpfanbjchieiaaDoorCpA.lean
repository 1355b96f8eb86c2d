/- class, in part: marks, characters around a place: plain. No condition. -/
import Derived.Test.YtgpfanbjchieiaaDoorUtH
import Derived.Test.YtgpfanbjchieiaaDoorUtD
import Derived.Test.YtgpfanbjchieiaaDoorWalkPunctS
import Derived.Test.YtgpfanbjchieiaaDoorWalkClassDS
namespace Go.Proofs
open Go Go.Sh
set_option linter.unusedVariables false
set_option linter.unusedSimpArgs false
set_option maxRecDepth 100000
/-! ### marks -/
def refL : List Int := [33, 47, 58, 64, 91, 96, 123, 126, 161, 169, 171, 172, 174, 177, 180, 180, 182, 184, 187, 187, 191, 191, 215, 215, 247, 247] ++ [8208, 8231, 8240, 8286, 8352, 8384, 8592, 9215, 9472, 10175, 11776, 11869, 12289, 12291, 12296, 12320, 65040, 65049, 65072, 65131] ++ [65281, 65295, 65306, 65312, 65339, 65344, 65371, 65381, 127744, 129791]
def anyPair (c : Int) : List Int → Bool
  | a :: b :: t => (decide (a ≤ c) && decide (c ≤ b)) || anyPair c t
  | _ => false
theorem punct_low : ∀ k : Fin 128, Tryd.punctI (k.val : Int) = anyPair (k.val : Int) refL := by decide +kernel
theorem punct_ref (c : Int) : Tryd.punctI c = anyPair c refL := by
  by_cases h0 : c < 0
  · have e1 : Tryd.punctI c = false := by unfold Tryd.punctI; rw [if_pos (by omega), decide_eq_false (by omega)]; rfl
    rw [e1]
    have : ∀ l : List Int, (∀ x ∈ l, 0 ≤ x) → anyPair c l = false := by
      intro l
      induction l using anyPair.induct with
      | case1 a b t ih =>
        intro hl
        unfold anyPair
        rw [ih fun x hx => hl x (by simp [hx]), decide_eq_false (by have := hl a (by simp); omega)]; rfl
      | case2 l h => intro _; unfold anyPair; split <;> first | rfl | (exfalso; exact h _ _ _ rfl)
    exact (this refL (by decide)).symm
  by_cases h1 : c < 128
  · have := punct_low ⟨c.toNat, by omega⟩
    have e : ((c.toNat : Nat) : Int) = c := by omega
    simp only [e] at this
    exact this
  · unfold Tryd.punctI
    rw [if_neg h1]
    unfold Tryd.inMarks Tryd.pairs refL
    simp only [List.take, List.any, anyPair, List.cons_append, List.nil_append]
    have z : (decide ((0 : Int) ≤ c) && decide (c ≤ (0 : Int))) = false := by rw [decide_eq_false (show ¬ c ≤ 0 by omega), Bool.and_false]
    simp [z]

/-! ### around a place -/
def prevP (s : Bs) (i : Int) : Int := if i ≤ 0 ∨ i > s.length then 10 else ((runesP (s.take i.toNat)).getLastD 0 : Nat)
def nextP (s : Bs) (i : Int) : Int := if i < 0 ∨ i ≥ s.length then 10 else ((dec (s.drop i.toNat)).1 : Nat)
theorem prev_last {s : Bs} {i : Nat} (h0 : 0 < i) (hi : i ≤ s.length) (hw : plainP (s.take i) = s.take i) : (Lib.decodeLastL (s.take i)).1 = (runesP (s.take i)).getLastD 0 := by
  obtain ⟨rs, hr, e⟩ := (isText_iff _).2 hw
  have hs : ∀ r ∈ rs, scal r := fun r h => (hr r h).1
  rw [e, runesP_encs rs hs]
  have hne : rs ≠ [] := by
    intro h
    subst h
    have := congrArg List.length e
    rw [List.length_take, show (encs []).length = 0 from rfl] at this
    omega
  rw [last_encs hs hne, List.getLastD_eq_getLast?, List.getLast?_eq_some_getLast hne]; rfl
theorem runes_ne {b : Bs} (h : b ≠ []) : runesP b ≠ [] := by rw [runesP_ne h]; simp
end Go.Proofs
