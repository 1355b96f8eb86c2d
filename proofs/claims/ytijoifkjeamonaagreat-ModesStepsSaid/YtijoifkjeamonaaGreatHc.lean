/- Own text. No condition. -/
import Derived.Test.YtijoifkjeamonaaGreatShD
import Derived.Test.YtijoifkjeamonaaGreatProg
namespace Go.Proofs
open Go Go.Sh
abbrev zC (i:Nat) (l:List Value) (h:H) (K:KV):Prop:=gQ Tryz.prog i ⟨l⟩ h K
end Go.Proofs
