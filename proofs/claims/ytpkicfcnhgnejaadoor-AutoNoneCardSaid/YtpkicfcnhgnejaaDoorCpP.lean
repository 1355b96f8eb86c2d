/- class, in part: characters around a place: plain. No condition. -/
import Derived.Test.YtpkicfcnhgnejaaDoorUtH
import Derived.Test.YtpkicfcnhgnejaaDoorUtD
namespace Go.Proofs
open Go Go.Sh
set_option linter.unusedVariables false
set_option linter.unusedSimpArgs false
set_option maxRecDepth 100000
/-! ### around a place -/
def prevP (s : Bs) (i : Int) : Int := if i ≤ 0 ∨ i > s.length then 10 else ((runesP (s.take i.toNat)).getLastD 0 : Nat)
def nextP (s : Bs) (i : Int) : Int := if i < 0 ∨ i ≥ s.length then 10 else ((dec (s.drop i.toNat)).1 : Nat)
theorem prev_last {s : Bs} {i : Nat} (h0 : 0 < i) (hi : i ≤ s.length) (hw : plainP (s.take i) = s.take i) : (Lib.decodeLastL (s.take i)).1 = (runesP (s.take i)).getLastD 0 := by
  obtain ⟨rs, hr, e⟩ := (isText_iff _).2 hw
  have hs : ∀ r ∈ rs, scal r := fun r h => (hr r h).1
  rw [e, runesP_encs rs hs]
  have hne : rs ≠ [] := by
    intro h
    subst h
    have := congrArg List.length e
    rw [List.length_take, show (encs []).length = 0 from rfl] at this
    omega
  rw [last_encs hs hne, List.getLastD_eq_getLast?, List.getLast?_eq_some_getLast hne]; rfl
theorem runes_ne {b : Bs} (h : b ≠ []) : runesP b ≠ [] := by rw [runesP_ne h]; simp
end Go.Proofs
