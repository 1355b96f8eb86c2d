/-
  No cell of these rows narrows 'for every input' (looked for: loops, veiled, ifaces, maps, wideKeys, modest, calm, conditions, laid).
  DERIVED. THE GIVEN ROWS OF THIS SEAT. 5 by the template 'for every input the law returns true; each argument reads behind the call as it read before'; 0 by the template 'total and deterministic' (their statements: YtggejikikcffmaaTotals.lean).
  GIVEN WITH THE SEED: the statements are not yours to turn. If you find one false, say at which input.
  Laid BY PROGRAM, IN A SANDBOX (cutbox-rows.mjs): the forced cells as the released guide's own fill.sh prints them over the translation 23376c5238034e29… (all of the seat's roots in one cut). By AI agents, Wed Nov 11 2026. No macro, syntax, notation, axiom, sorry.
-/
import Derived.Test.YtggejikikcffmaaChecked
import GoSem.Claim
import GoSem.ClaimJoined
import GoSem.ClaimMapViews
import Derived.JoinedTies
import Derived.KernelRfl
namespace Go.Proofs.Ytggejikikcffmaa
/- THE CELL 'sum', in the pinned program and in every row, IS THE sha256 OF THE DUMP (.gsa) THAT YtggejikikcffmaaProg.lean LOADS. Nothing in Lean hashes anything: it is a label: what it is worth is what the hold of that sum in a sandbox is worth. -/
noncomputable def Try.pinned : Pinned := { name := "ytggejikikcffmaa", sum := "23376c5238034e296ad9a0c87ad1efefd52e892eba8736c2cd8db8b4ee18d26d", checked := Try.checked }
namespace Rows
def none {H : Type} : Left H := { results := [], args := [] }

/-- 'tympanlaw11.OpenIn': WHATEVER THE INPUT: true; the input reads as it did. -/
def openInSpec : ChangeSpec := { name := "openIn", fn := fun _ => fun
  | [d1, d2, d3] => { results := [.lit (.bool true)], args := [d1, d2, d3] }
  | _ => none }
def openInRow : OpenClaim := { program := "ytggejikikcffmaa", sum := "23376c5238034e296ad9a0c87ad1efefd52e892eba8736c2cd8db8b4ee18d26d", func := "tympan/tympanlaw11.OpenIn", spec := "openIn", inPlace := ["internal/bytealg.IndexByteString", "internal/bytealg.IndexString"], unfollowed := true, recurses := true, named := ["internal/bytealg.MaxLen"], apart := false }
def OpenInSaid : Prop := openInRow.holds Try.pinned (OpenSpec.ofChange openInSpec)

/-- ITS FALSE NEIGHBOUR: 'it returns false'. Refute it at one input. -/
def openInWrong : ChangeSpec := { name := "openIn", fn := fun _ => fun
  | [d1, d2, d3] => { results := [.lit (.bool false)], args := [d1, d2, d3] }
  | _ => none }
def OpenInWrongFalsely : Prop := openInRow.holds Try.pinned (OpenSpec.ofChange openInWrong)

/-- 'tympanlaw11.OpenKinds': WHATEVER THE INPUT: true; the input reads as it did. -/
def openKindsSpec : ChangeSpec := { name := "openKinds", fn := fun _ => fun
  | [d1, d2] => { results := [.lit (.bool true)], args := [d1, d2] }
  | _ => none }
def openKindsRow : OpenClaim := { program := "ytggejikikcffmaa", sum := "23376c5238034e296ad9a0c87ad1efefd52e892eba8736c2cd8db8b4ee18d26d", func := "tympan/tympanlaw11.OpenKinds", spec := "openKinds", inPlace := ["internal/bytealg.IndexByteString", "internal/bytealg.IndexString"], unfollowed := true, recurses := true, named := ["internal/bytealg.MaxLen"], apart := false }
def OpenKindsSaid : Prop := openKindsRow.holds Try.pinned (OpenSpec.ofChange openKindsSpec)

/-- ITS FALSE NEIGHBOUR: 'it returns false'. Refute it at one input. -/
def openKindsWrong : ChangeSpec := { name := "openKinds", fn := fun _ => fun
  | [d1, d2] => { results := [.lit (.bool false)], args := [d1, d2] }
  | _ => none }
def OpenKindsWrongFalsely : Prop := openKindsRow.holds Try.pinned (OpenSpec.ofChange openKindsWrong)

/-- 'tympanlaw11.OpenCounts': WHATEVER THE INPUT: true; the input reads as it did. -/
def openCountsSpec : ChangeSpec := { name := "openCounts", fn := fun _ => fun
  | [d1, d2, d3] => { results := [.lit (.bool true)], args := [d1, d2, d3] }
  | _ => none }
def openCountsRow : OpenClaim := { program := "ytggejikikcffmaa", sum := "23376c5238034e296ad9a0c87ad1efefd52e892eba8736c2cd8db8b4ee18d26d", func := "tympan/tympanlaw11.OpenCounts", spec := "openCounts", inPlace := ["internal/bytealg.IndexByteString", "internal/bytealg.IndexString"], unfollowed := true, recurses := true, named := ["internal/bytealg.MaxLen"], apart := false }
def OpenCountsSaid : Prop := openCountsRow.holds Try.pinned (OpenSpec.ofChange openCountsSpec)

/-- ITS FALSE NEIGHBOUR: 'it returns false'. Refute it at one input. -/
def openCountsWrong : ChangeSpec := { name := "openCounts", fn := fun _ => fun
  | [d1, d2, d3] => { results := [.lit (.bool false)], args := [d1, d2, d3] }
  | _ => none }
def OpenCountsWrongFalsely : Prop := openCountsRow.holds Try.pinned (OpenSpec.ofChange openCountsWrong)

/-- 'tympanlaw11.OpenScopes': WHATEVER THE INPUT: true; the input reads as it did. -/
def openScopesSpec : ChangeSpec := { name := "openScopes", fn := fun _ => fun
  | [d1, d2, d3] => { results := [.lit (.bool true)], args := [d1, d2, d3] }
  | _ => none }
def openScopesRow : OpenClaim := { program := "ytggejikikcffmaa", sum := "23376c5238034e296ad9a0c87ad1efefd52e892eba8736c2cd8db8b4ee18d26d", func := "tympan/tympanlaw11.OpenScopes", spec := "openScopes", inPlace := ["internal/bytealg.IndexByteString", "internal/bytealg.IndexString"], unfollowed := true, recurses := true, named := ["internal/bytealg.MaxLen"], apart := false }
def OpenScopesSaid : Prop := openScopesRow.holds Try.pinned (OpenSpec.ofChange openScopesSpec)

/-- ITS FALSE NEIGHBOUR: 'it returns false'. Refute it at one input. -/
def openScopesWrong : ChangeSpec := { name := "openScopes", fn := fun _ => fun
  | [d1, d2, d3] => { results := [.lit (.bool false)], args := [d1, d2, d3] }
  | _ => none }
def OpenScopesWrongFalsely : Prop := openScopesRow.holds Try.pinned (OpenSpec.ofChange openScopesWrong)

/-- 'tympanlaw11.OpenOrder': WHATEVER THE INPUT: true; the input reads as it did. -/
def openOrderSpec : ChangeSpec := { name := "openOrder", fn := fun _ => fun
  | [d1, d2, d3, d4] => { results := [.lit (.bool true)], args := [d1, d2, d3, d4] }
  | _ => none }
def openOrderRow : OpenClaim := { program := "ytggejikikcffmaa", sum := "23376c5238034e296ad9a0c87ad1efefd52e892eba8736c2cd8db8b4ee18d26d", func := "tympan/tympanlaw11.OpenOrder", spec := "openOrder", inPlace := ["internal/bytealg.IndexByteString", "internal/bytealg.IndexString"], unfollowed := true, recurses := true, named := ["internal/bytealg.MaxLen"], apart := false }
def OpenOrderSaid : Prop := openOrderRow.holds Try.pinned (OpenSpec.ofChange openOrderSpec)

/-- ITS FALSE NEIGHBOUR: 'it returns false'. Refute it at one input. -/
def openOrderWrong : ChangeSpec := { name := "openOrder", fn := fun _ => fun
  | [d1, d2, d3, d4] => { results := [.lit (.bool false)], args := [d1, d2, d3, d4] }
  | _ => none }
def OpenOrderWrongFalsely : Prop := openOrderRow.holds Try.pinned (OpenSpec.ofChange openOrderWrong)

/- THE SECOND FORM. 'bulk': how many values and letters a reading holds, each counted each time it is reached (what is shared counts as often as it is met; a slice's spare places count too). A statement '..UptoSaid' is the law's where the arguments, and the package variables that the reading takes, are together of bulk at most 1048576: NARROWER than '..Said'. Prove '..Said' where nothing that the law and all that it calls make is longer than what came in: it says more and counts as full. Else prove '..UptoSaid'. A law counts once. -/
mutual
def uptoBulk {H : Type} : DataW H → Nat
  | .lit (.string bytes) => bytes.length + 1
  | .lit _ => 1
  | .nil => 1
  | .ptr d => uptoBulk d + 1
  | .slice elems spare => uptoBulkAll elems + uptoBulkAll spare + 1
  | .agg parts => uptoBulkAll parts + 1
  | .iface _ d => uptoBulk d + 1
  | .map entries => uptoBulkEntries entries + 1
  | .held _ => 1
def uptoBulkAll {H : Type} : List (DataW H) → Nat
  | [] => 0
  | d :: r => uptoBulk d + uptoBulkAll r
def uptoBulkEntries {H : Type} : List (Lit × DataW H) → Nat
  | [] => 0
  | x :: r => uptoBulkEntry x + uptoBulkEntries r
def uptoBulkEntry {H : Type} : Lit × DataW H → Nat
  | (.string bytes, d) => bytes.length + uptoBulk d + 1
  | (_, d) => uptoBulk d + 1
 end
def uptoSmall : (H : Type) → List (DataW H) → Bool := fun _ ds => decide (uptoBulkAll ds ≤ 1048576)
def OpenSpec.upto (s : _root_.Go.ChangeSpec) : _root_.Go.OpenSpec := { _root_.Go.OpenSpec.ofChange s with cond := some uptoSmall }

/-- 'tympanlaw11.OpenIn', WHERE WHAT IT READS IS OF BULK AT MOST 1048576: true; the input reads as it did. -/
def openInUptoRow : OpenClaim := { program := "ytggejikikcffmaa", sum := "23376c5238034e296ad9a0c87ad1efefd52e892eba8736c2cd8db8b4ee18d26d", func := "tympan/tympanlaw11.OpenIn", spec := "openIn", inPlace := ["internal/bytealg.IndexByteString", "internal/bytealg.IndexString"], unfollowed := true, recurses := true, named := ["internal/bytealg.MaxLen"], apart := false, narrowed := true }
def OpenInUptoSaid : Prop := openInUptoRow.holds Try.pinned (OpenSpec.upto openInSpec)

/-- 'tympanlaw11.OpenKinds', WHERE WHAT IT READS IS OF BULK AT MOST 1048576: true; the input reads as it did. -/
def openKindsUptoRow : OpenClaim := { program := "ytggejikikcffmaa", sum := "23376c5238034e296ad9a0c87ad1efefd52e892eba8736c2cd8db8b4ee18d26d", func := "tympan/tympanlaw11.OpenKinds", spec := "openKinds", inPlace := ["internal/bytealg.IndexByteString", "internal/bytealg.IndexString"], unfollowed := true, recurses := true, named := ["internal/bytealg.MaxLen"], apart := false, narrowed := true }
def OpenKindsUptoSaid : Prop := openKindsUptoRow.holds Try.pinned (OpenSpec.upto openKindsSpec)

/-- 'tympanlaw11.OpenCounts', WHERE WHAT IT READS IS OF BULK AT MOST 1048576: true; the input reads as it did. -/
def openCountsUptoRow : OpenClaim := { program := "ytggejikikcffmaa", sum := "23376c5238034e296ad9a0c87ad1efefd52e892eba8736c2cd8db8b4ee18d26d", func := "tympan/tympanlaw11.OpenCounts", spec := "openCounts", inPlace := ["internal/bytealg.IndexByteString", "internal/bytealg.IndexString"], unfollowed := true, recurses := true, named := ["internal/bytealg.MaxLen"], apart := false, narrowed := true }
def OpenCountsUptoSaid : Prop := openCountsUptoRow.holds Try.pinned (OpenSpec.upto openCountsSpec)

/-- 'tympanlaw11.OpenScopes', WHERE WHAT IT READS IS OF BULK AT MOST 1048576: true; the input reads as it did. -/
def openScopesUptoRow : OpenClaim := { program := "ytggejikikcffmaa", sum := "23376c5238034e296ad9a0c87ad1efefd52e892eba8736c2cd8db8b4ee18d26d", func := "tympan/tympanlaw11.OpenScopes", spec := "openScopes", inPlace := ["internal/bytealg.IndexByteString", "internal/bytealg.IndexString"], unfollowed := true, recurses := true, named := ["internal/bytealg.MaxLen"], apart := false, narrowed := true }
def OpenScopesUptoSaid : Prop := openScopesUptoRow.holds Try.pinned (OpenSpec.upto openScopesSpec)

/-- 'tympanlaw11.OpenOrder', WHERE WHAT IT READS IS OF BULK AT MOST 1048576: true; the input reads as it did. -/
def openOrderUptoRow : OpenClaim := { program := "ytggejikikcffmaa", sum := "23376c5238034e296ad9a0c87ad1efefd52e892eba8736c2cd8db8b4ee18d26d", func := "tympan/tympanlaw11.OpenOrder", spec := "openOrder", inPlace := ["internal/bytealg.IndexByteString", "internal/bytealg.IndexString"], unfollowed := true, recurses := true, named := ["internal/bytealg.MaxLen"], apart := false, narrowed := true }
def OpenOrderUptoSaid : Prop := openOrderUptoRow.holds Try.pinned (OpenSpec.upto openOrderSpec)

end Rows
end Go.Proofs.Ytggejikikcffmaa
