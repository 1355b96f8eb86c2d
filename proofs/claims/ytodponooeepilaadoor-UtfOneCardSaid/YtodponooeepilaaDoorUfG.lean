/- utf: SameBytes; Newlines. No condition but that the library's variable holds a number. -/
import Derived.Test.YtodponooeepilaaDoorUfF
import Derived.Lib.SplitLaws
namespace Go.Proofs
open Go Go.Sh
set_option linter.unusedVariables false
set_option maxRecDepth 100000
/-- the library's variable, here in block 2 -/
def ML2 (h : H) : Prop := ∃ m, cell h ⟨2, 0, none⟩ = some (.int .i64 m)
theorem ML2.kb {h h' : H} (m : ML2 h) (k : KB h h') : ML2 h' := by
  obtain ⟨x, e⟩ := m
  exact ⟨x, (KB.w k).cell (cell_lt e) e⟩
section
variable {A B : Nat → Prop} {h : H} {b b2 : Option Addr} {n c n2 c2 : Nat} {l l2 s : Bs} {K : Value → H → Prop}
theorem same_calls (r : Row elB A h b n c l) (r2 : Row elB B h b2 n2 c2 l2) (hk : K (.bool (decide (l = l2))) h) : HCalls Tryd.prog 13 ⟨[.slice b n c, .slice b2 n2 c2]⟩ h K :=
  Sx.r00_SameBytes.ok _ _ _ _ _ _ _ _ (strOf_k Tryd.underlying22 Tryd.underlying5 Tryd.underlying9 r (vStrMk (strOf_k Tryd.underlying22 Tryd.underlying5 Tryd.underlying9 r2 (vStrMk (splK (K := fun b => K (.bool b) h) hk)))))
theorem replace_calls {old new : Bs} (m : ML2 h) (h1 : 1 ≤ old.length) (h2 : new.length ≤ 1) (hs : s.length ≤ 1000000000) (hk : ∀ h', KB h h' → K (S (Lib.replaceAll s old new)) h') : HCalls Tryd.prog 27 ⟨[S s, S old, S new]⟩ h K := by
  obtain ⟨x, hx⟩ := m
  have hc := Lib.countB_le ⟨⟨old⟩⟩ h1 s.length ⟨⟨s⟩⟩ (Nat.le_refl _)
  have hc2 : Lib.countB ⟨⟨s⟩⟩ ⟨⟨old⟩⟩ ≤ s.length := hc
  have hm : Lib.countB ⟨⟨s⟩⟩ ⟨⟨old⟩⟩ * new.length ≤ s.length * 1 := Nat.mul_le_mul hc2 h2
  exact hcalls_below (fun w hw => Tryd.strings_ReplaceAll ⟨⟨s⟩⟩ ⟨⟨old⟩⟩ ⟨⟨new⟩⟩ x w (show s.length < _ by omega) (by rw [cell_eq, hw]; exact hx) h1 (show s.length + Lib.countB ⟨⟨s⟩⟩ ⟨⟨old⟩⟩ * new.length ≤ _ by omega)) hk
end
end Go.Proofs
