/-
  No cell of these rows narrows 'for every input' (looked for: loops, veiled, ifaces, maps, wideKeys, modest, calm, conditions, laid).
  DERIVED. THE GIVEN ROWS OF THIS SEAT. 3 by the template 'for every input the law returns true; each argument reads behind the call as it read before'; 0 by the template 'total and deterministic' (their statements: YtijoifkjeamonaaGreatTotals.lean).
  GIVEN WITH THE SEED: the statements are not yours to turn. If you find one false, say at which input.
  Laid BY PROGRAM, IN A SANDBOX (cutbox-rows.mjs): the forced cells as the released guide's own fill.sh prints them over the translation b62e289b1d3b7354… (all of the seat's roots in one cut). By AI agents, Wed Nov 11 2026. No macro, syntax, notation, axiom, sorry.
-/
import Derived.Test.YtijoifkjeamonaaGreatChecked
import GoSem.Claim
import GoSem.ClaimJoined
import GoSem.ClaimMapViews
import Derived.JoinedTies
import Derived.KernelRfl
namespace Go.Proofs.YtijoifkjeamonaaGreat
/- THE CELL 'sum', in the pinned program and in every row, IS THE sha256 OF THE DUMP (.gsa) THAT YtijoifkjeamonaaGreatProg.lean LOADS. Nothing in Lean hashes anything: it is a label: what it is worth is what the hold of that sum in a sandbox is worth. -/
noncomputable def Tryz.pinned : Pinned := { name := "ytijoifkjeamonaagreat", sum := "b62e289b1d3b73545850cccd91d269f9234030c00ac89476d02ac18b23749bb5", checked := Tryz.checked }
namespace Rows
def none {H : Type} : Left H := { results := [], args := [] }

/-- 'tympanlaw15.ModesPlays': WHATEVER THE INPUT: true; the input reads as it did. -/
def modesPlaysSpec : ChangeSpec := { name := "modesPlays", fn := fun _ => fun
  | [d] => { results := [.lit (.bool true)], args := [d] }
  | _ => none }
def modesPlaysRow : OpenClaim := { program := "ytijoifkjeamonaagreat", sum := "b62e289b1d3b73545850cccd91d269f9234030c00ac89476d02ac18b23749bb5", func := "tympan/tympanlaw15.ModesPlays", spec := "modesPlays", inPlace := ["slices.overlaps[int]", "internal/bytealg.IndexByteString", "internal/bytealg.IndexString", "slices.overlaps[tympan/api.Mark]", "slices.overlaps[tympan/api.Open]"], unfollowed := true, recurses := true, named := ["internal/bytealg.MaxLen"], apart := false }
def ModesPlaysSaid : Prop := modesPlaysRow.holds Tryz.pinned (OpenSpec.ofChange modesPlaysSpec)

/-- ITS FALSE NEIGHBOUR: 'it returns false'. Refute it at one input. -/
def modesPlaysWrong : ChangeSpec := { name := "modesPlays", fn := fun _ => fun
  | [d] => { results := [.lit (.bool false)], args := [d] }
  | _ => none }
def ModesPlaysWrongFalsely : Prop := modesPlaysRow.holds Tryz.pinned (OpenSpec.ofChange modesPlaysWrong)

/-- 'tympanlaw15.ModesSteps': WHATEVER THE INPUT: true; the input reads as it did. -/
def modesStepsSpec : ChangeSpec := { name := "modesSteps", fn := fun _ => fun
  | [d] => { results := [.lit (.bool true)], args := [d] }
  | _ => none }
def modesStepsRow : OpenClaim := { program := "ytijoifkjeamonaagreat", sum := "b62e289b1d3b73545850cccd91d269f9234030c00ac89476d02ac18b23749bb5", func := "tympan/tympanlaw15.ModesSteps", spec := "modesSteps", inPlace := ["slices.overlaps[int]", "internal/bytealg.IndexByteString", "internal/bytealg.IndexString", "slices.overlaps[tympan/api.Mark]", "slices.overlaps[tympan/api.Open]"], unfollowed := true, recurses := true, named := ["internal/bytealg.MaxLen"], apart := false }
def ModesStepsSaid : Prop := modesStepsRow.holds Tryz.pinned (OpenSpec.ofChange modesStepsSpec)

/-- ITS FALSE NEIGHBOUR: 'it returns false'. Refute it at one input. -/
def modesStepsWrong : ChangeSpec := { name := "modesSteps", fn := fun _ => fun
  | [d] => { results := [.lit (.bool false)], args := [d] }
  | _ => none }
def ModesStepsWrongFalsely : Prop := modesStepsRow.holds Tryz.pinned (OpenSpec.ofChange modesStepsWrong)

/-- 'tympanlaw15.ModesBegins': WHATEVER THE INPUT: true; the input reads as it did. -/
def modesBeginsSpec : ChangeSpec := { name := "modesBegins", fn := fun _ => fun
  | [d1, d2] => { results := [.lit (.bool true)], args := [d1, d2] }
  | _ => none }
def modesBeginsRow : OpenClaim := { program := "ytijoifkjeamonaagreat", sum := "b62e289b1d3b73545850cccd91d269f9234030c00ac89476d02ac18b23749bb5", func := "tympan/tympanlaw15.ModesBegins", spec := "modesBegins", inPlace := ["slices.overlaps[int]", "internal/bytealg.IndexByteString", "internal/bytealg.IndexString", "slices.overlaps[tympan/api.Mark]", "slices.overlaps[tympan/api.Open]"], unfollowed := true, recurses := true, named := ["internal/bytealg.MaxLen"], apart := false }
def ModesBeginsSaid : Prop := modesBeginsRow.holds Tryz.pinned (OpenSpec.ofChange modesBeginsSpec)

/-- ITS FALSE NEIGHBOUR: 'it returns false'. Refute it at one input. -/
def modesBeginsWrong : ChangeSpec := { name := "modesBegins", fn := fun _ => fun
  | [d1, d2] => { results := [.lit (.bool false)], args := [d1, d2] }
  | _ => none }
def ModesBeginsWrongFalsely : Prop := modesBeginsRow.holds Tryz.pinned (OpenSpec.ofChange modesBeginsWrong)

/- THE SECOND FORM. 'bulk': how many values and letters a reading holds, each counted each time it is reached (what is shared counts as often as it is met; a slice's spare places count too). A statement '..UptoSaid' is the law's where the arguments, and the package variables that the reading takes, are together of bulk at most 1048576: NARROWER than '..Said'. Prove '..Said' where nothing that the law and all that it calls make is longer than what came in: it says more and counts as full. Else prove '..UptoSaid'. A law counts once. -/
mutual
def uptoBulk {H : Type} : DataW H → Nat
  | .lit (.string bytes) => bytes.length + 1
  | .lit _ => 1
  | .nil => 1
  | .ptr d => uptoBulk d + 1
  | .slice elems spare => uptoBulkAll elems + uptoBulkAll spare + 1
  | .agg parts => uptoBulkAll parts + 1
  | .iface _ d => uptoBulk d + 1
  | .map entries => uptoBulkEntries entries + 1
  | .held _ => 1
def uptoBulkAll {H : Type} : List (DataW H) → Nat
  | [] => 0
  | d :: r => uptoBulk d + uptoBulkAll r
def uptoBulkEntries {H : Type} : List (Lit × DataW H) → Nat
  | [] => 0
  | x :: r => uptoBulkEntry x + uptoBulkEntries r
def uptoBulkEntry {H : Type} : Lit × DataW H → Nat
  | (.string bytes, d) => bytes.length + uptoBulk d + 1
  | (_, d) => uptoBulk d + 1
 end
def uptoSmall : (H : Type) → List (DataW H) → Bool := fun _ ds => decide (uptoBulkAll ds ≤ 1048576)
def OpenSpec.upto (s : _root_.Go.ChangeSpec) : _root_.Go.OpenSpec := { _root_.Go.OpenSpec.ofChange s with cond := some uptoSmall }

/-- 'tympanlaw15.ModesPlays', WHERE WHAT IT READS IS OF BULK AT MOST 1048576: true; the input reads as it did. -/
def modesPlaysUptoRow : OpenClaim := { program := "ytijoifkjeamonaagreat", sum := "b62e289b1d3b73545850cccd91d269f9234030c00ac89476d02ac18b23749bb5", func := "tympan/tympanlaw15.ModesPlays", spec := "modesPlays", inPlace := ["slices.overlaps[int]", "internal/bytealg.IndexByteString", "internal/bytealg.IndexString", "slices.overlaps[tympan/api.Mark]", "slices.overlaps[tympan/api.Open]"], unfollowed := true, recurses := true, named := ["internal/bytealg.MaxLen"], apart := false, narrowed := true }
def ModesPlaysUptoSaid : Prop := modesPlaysUptoRow.holds Tryz.pinned (OpenSpec.upto modesPlaysSpec)

/-- 'tympanlaw15.ModesSteps', WHERE WHAT IT READS IS OF BULK AT MOST 1048576: true; the input reads as it did. -/
def modesStepsUptoRow : OpenClaim := { program := "ytijoifkjeamonaagreat", sum := "b62e289b1d3b73545850cccd91d269f9234030c00ac89476d02ac18b23749bb5", func := "tympan/tympanlaw15.ModesSteps", spec := "modesSteps", inPlace := ["slices.overlaps[int]", "internal/bytealg.IndexByteString", "internal/bytealg.IndexString", "slices.overlaps[tympan/api.Mark]", "slices.overlaps[tympan/api.Open]"], unfollowed := true, recurses := true, named := ["internal/bytealg.MaxLen"], apart := false, narrowed := true }
def ModesStepsUptoSaid : Prop := modesStepsUptoRow.holds Tryz.pinned (OpenSpec.upto modesStepsSpec)

/-- 'tympanlaw15.ModesBegins', WHERE WHAT IT READS IS OF BULK AT MOST 1048576: true; the input reads as it did. -/
def modesBeginsUptoRow : OpenClaim := { program := "ytijoifkjeamonaagreat", sum := "b62e289b1d3b73545850cccd91d269f9234030c00ac89476d02ac18b23749bb5", func := "tympan/tympanlaw15.ModesBegins", spec := "modesBegins", inPlace := ["slices.overlaps[int]", "internal/bytealg.IndexByteString", "internal/bytealg.IndexString", "slices.overlaps[tympan/api.Mark]", "slices.overlaps[tympan/api.Open]"], unfollowed := true, recurses := true, named := ["internal/bytealg.MaxLen"], apart := false, narrowed := true }
def ModesBeginsUptoSaid : Prop := modesBeginsUptoRow.holds Tryz.pinned (OpenSpec.upto modesBeginsSpec)

end Rows
end Go.Proofs.YtijoifkjeamonaaGreat
