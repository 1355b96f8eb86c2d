/- utf: Newlines of both. No condition but that the library's variable holds a number. -/
import Derived.Test.YtodponooeepilaaDoorUfG
import Derived.Test.YtodponooeepilaaDoorUfO
import Derived.Test.YtodponooeepilaaDoorUtW
namespace Go.Proofs
open Go Go.Sh
set_option linter.unusedVariables false
set_option maxRecDepth 100000
theorem crlf_len : ∀ s : Bs, (crlf s).length ≤ s.length
  | [] => Nat.le_refl _
  | [x] => Nat.le_refl _
  | x :: y :: t => by
    unfold crlf
    split
    · have := crlf_len t; simp only [List.length_cons]; omega
    · have := crlf_len (y :: t); simp only [List.length_cons] at *; omega
section
variable {h : H} {s : Bs} {K : Value → H → Prop}
theorem newlines_calls (m : ML2 h) (hs : s.length ≤ 100000000) (hk : ∀ h', KB h h' → K (S (newP s)) h') : HCalls Tryd.prog 16 ⟨[S s]⟩ h K := by
  have hl : (Lib.replaceAll s [13, 10] [10]).length ≤ 1000000000 := by rw [crlf_eq]; have := crlf_len s; omega
  refine Sx.utf_Newlines.ok _ _ _ (replace_calls m (by decide) (by decide) (by omega) fun h1 k1 => vStrMk (replace_calls (m.kb k1) (by decide) (by decide) hl fun h2 k2 => vStrMk ?_))
  rw [newlines_eq]
  exact hk h2 (k1.trans k2)
end
end Go.Proofs
