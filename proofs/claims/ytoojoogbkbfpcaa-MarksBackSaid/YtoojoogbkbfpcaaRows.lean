/-
  No cell of these rows narrows 'for every input' (looked for: loops, veiled, ifaces, maps, wideKeys, modest, calm, conditions, laid).
  DERIVED. THE GIVEN ROWS OF THIS SEAT. 4 by the template 'for every input the law returns true; each argument reads behind the call as it read before'; 0 by the template 'total and deterministic' (their statements: YtoojoogbkbfpcaaTotals.lean).
  GIVEN WITH THE SEED: the statements are not yours to turn. If you find one false, say at which input.
  Laid BY PROGRAM, IN A SANDBOX (cutbox-rows.mjs): the forced cells as the released guide's own fill.sh prints them over the translation 02392d7e379b1843… (all of the seat's roots in one cut). By AI agents, Wed Nov 11 2026. No macro, syntax, notation, axiom, sorry.
-/
import Derived.Test.YtoojoogbkbfpcaaChecked
import GoSem.Claim
import GoSem.ClaimJoined
import GoSem.ClaimMapViews
import Derived.JoinedTies
import Derived.KernelRfl
namespace Go.Proofs.Ytoojoogbkbfpcaa
/- THE CELL 'sum', in the pinned program and in every row, IS THE sha256 OF THE DUMP (.gsa) THAT YtoojoogbkbfpcaaProg.lean LOADS. Nothing in Lean hashes anything: it is a label: what it is worth is what the hold of that sum in a sandbox is worth. -/
noncomputable def Try.pinned : Pinned := { name := "ytoojoogbkbfpcaa", sum := "02392d7e379b1843cfa1dc78719cc6205ad99cb8c750aad9b2dd763eb56958ba", checked := Try.checked }
namespace Rows
def none {H : Type} : Left H := { results := [], args := [] }

/-- 'tympanlaw12.MarksPush': WHATEVER THE INPUT: true; the input reads as it did. -/
def marksPushSpec : ChangeSpec := { name := "marksPush", fn := fun _ => fun
  | [d1, d2] => { results := [.lit (.bool true)], args := [d1, d2] }
  | _ => none }
def marksPushRow : OpenClaim := { program := "ytoojoogbkbfpcaa", sum := "02392d7e379b1843cfa1dc78719cc6205ad99cb8c750aad9b2dd763eb56958ba", func := "tympan/tympanlaw12.MarksPush", spec := "marksPush", unfollowed := true, recurses := true, apart := false }
def MarksPushSaid : Prop := marksPushRow.holds Try.pinned (OpenSpec.ofChange marksPushSpec)

/-- ITS FALSE NEIGHBOUR: 'it returns false'. Refute it at one input. -/
def marksPushWrong : ChangeSpec := { name := "marksPush", fn := fun _ => fun
  | [d1, d2] => { results := [.lit (.bool false)], args := [d1, d2] }
  | _ => none }
def MarksPushWrongFalsely : Prop := marksPushRow.holds Try.pinned (OpenSpec.ofChange marksPushWrong)

/-- 'tympanlaw12.MarksLooks': WHATEVER THE INPUT: true; the input reads as it did. -/
def marksLooksSpec : ChangeSpec := { name := "marksLooks", fn := fun _ => fun
  | [d1, d2, d3, d4] => { results := [.lit (.bool true)], args := [d1, d2, d3, d4] }
  | _ => none }
def marksLooksRow : OpenClaim := { program := "ytoojoogbkbfpcaa", sum := "02392d7e379b1843cfa1dc78719cc6205ad99cb8c750aad9b2dd763eb56958ba", func := "tympan/tympanlaw12.MarksLooks", spec := "marksLooks", unfollowed := true, recurses := true, apart := false }
def MarksLooksSaid : Prop := marksLooksRow.holds Try.pinned (OpenSpec.ofChange marksLooksSpec)

/-- ITS FALSE NEIGHBOUR: 'it returns false'. Refute it at one input. -/
def marksLooksWrong : ChangeSpec := { name := "marksLooks", fn := fun _ => fun
  | [d1, d2, d3, d4] => { results := [.lit (.bool false)], args := [d1, d2, d3, d4] }
  | _ => none }
def MarksLooksWrongFalsely : Prop := marksLooksRow.holds Try.pinned (OpenSpec.ofChange marksLooksWrong)

/-- 'tympanlaw12.MarksFew': WHATEVER THE INPUT: true; the input reads as it did. -/
def marksFewSpec : ChangeSpec := { name := "marksFew", fn := fun _ => fun
  | [d] => { results := [.lit (.bool true)], args := [d] }
  | _ => none }
def marksFewRow : OpenClaim := { program := "ytoojoogbkbfpcaa", sum := "02392d7e379b1843cfa1dc78719cc6205ad99cb8c750aad9b2dd763eb56958ba", func := "tympan/tympanlaw12.MarksFew", spec := "marksFew", unfollowed := true, recurses := true, apart := false }
def MarksFewSaid : Prop := marksFewRow.holds Try.pinned (OpenSpec.ofChange marksFewSpec)

/-- ITS FALSE NEIGHBOUR: 'it returns false'. Refute it at one input. -/
def marksFewWrong : ChangeSpec := { name := "marksFew", fn := fun _ => fun
  | [d] => { results := [.lit (.bool false)], args := [d] }
  | _ => none }
def MarksFewWrongFalsely : Prop := marksFewRow.holds Try.pinned (OpenSpec.ofChange marksFewWrong)

/-- 'tympanlaw12.MarksBack': WHATEVER THE INPUT: true; the input reads as it did. -/
def marksBackSpec : ChangeSpec := { name := "marksBack", fn := fun _ => fun
  | [d1, d2] => { results := [.lit (.bool true)], args := [d1, d2] }
  | _ => none }
def marksBackRow : OpenClaim := { program := "ytoojoogbkbfpcaa", sum := "02392d7e379b1843cfa1dc78719cc6205ad99cb8c750aad9b2dd763eb56958ba", func := "tympan/tympanlaw12.MarksBack", spec := "marksBack", unfollowed := true, recurses := true, apart := false }
def MarksBackSaid : Prop := marksBackRow.holds Try.pinned (OpenSpec.ofChange marksBackSpec)

/-- ITS FALSE NEIGHBOUR: 'it returns false'. Refute it at one input. -/
def marksBackWrong : ChangeSpec := { name := "marksBack", fn := fun _ => fun
  | [d1, d2] => { results := [.lit (.bool false)], args := [d1, d2] }
  | _ => none }
def MarksBackWrongFalsely : Prop := marksBackRow.holds Try.pinned (OpenSpec.ofChange marksBackWrong)

/- THE SECOND FORM. 'bulk': how many values and letters a reading holds, each counted each time it is reached (what is shared counts as often as it is met; a slice's spare places count too). A statement '..UptoSaid' is the law's where the arguments, and the package variables that the reading takes, are together of bulk at most 1048576: NARROWER than '..Said'. Prove '..Said' where nothing that the law and all that it calls make is longer than what came in: it says more and counts as full. Else prove '..UptoSaid'. A law counts once. -/
mutual
def uptoBulk {H : Type} : DataW H → Nat
  | .lit (.string bytes) => bytes.length + 1
  | .lit _ => 1
  | .nil => 1
  | .ptr d => uptoBulk d + 1
  | .slice elems spare => uptoBulkAll elems + uptoBulkAll spare + 1
  | .agg parts => uptoBulkAll parts + 1
  | .iface _ d => uptoBulk d + 1
  | .map entries => uptoBulkEntries entries + 1
  | .held _ => 1
def uptoBulkAll {H : Type} : List (DataW H) → Nat
  | [] => 0
  | d :: r => uptoBulk d + uptoBulkAll r
def uptoBulkEntries {H : Type} : List (Lit × DataW H) → Nat
  | [] => 0
  | x :: r => uptoBulkEntry x + uptoBulkEntries r
def uptoBulkEntry {H : Type} : Lit × DataW H → Nat
  | (.string bytes, d) => bytes.length + uptoBulk d + 1
  | (_, d) => uptoBulk d + 1
 end
def uptoSmall : (H : Type) → List (DataW H) → Bool := fun _ ds => decide (uptoBulkAll ds ≤ 1048576)
def OpenSpec.upto (s : _root_.Go.ChangeSpec) : _root_.Go.OpenSpec := { _root_.Go.OpenSpec.ofChange s with cond := some uptoSmall }

/-- 'tympanlaw12.MarksPush', WHERE WHAT IT READS IS OF BULK AT MOST 1048576: true; the input reads as it did. -/
def marksPushUptoRow : OpenClaim := { program := "ytoojoogbkbfpcaa", sum := "02392d7e379b1843cfa1dc78719cc6205ad99cb8c750aad9b2dd763eb56958ba", func := "tympan/tympanlaw12.MarksPush", spec := "marksPush", unfollowed := true, recurses := true, apart := false, narrowed := true }
def MarksPushUptoSaid : Prop := marksPushUptoRow.holds Try.pinned (OpenSpec.upto marksPushSpec)

/-- 'tympanlaw12.MarksLooks', WHERE WHAT IT READS IS OF BULK AT MOST 1048576: true; the input reads as it did. -/
def marksLooksUptoRow : OpenClaim := { program := "ytoojoogbkbfpcaa", sum := "02392d7e379b1843cfa1dc78719cc6205ad99cb8c750aad9b2dd763eb56958ba", func := "tympan/tympanlaw12.MarksLooks", spec := "marksLooks", unfollowed := true, recurses := true, apart := false, narrowed := true }
def MarksLooksUptoSaid : Prop := marksLooksUptoRow.holds Try.pinned (OpenSpec.upto marksLooksSpec)

/-- 'tympanlaw12.MarksFew', WHERE WHAT IT READS IS OF BULK AT MOST 1048576: true; the input reads as it did. -/
def marksFewUptoRow : OpenClaim := { program := "ytoojoogbkbfpcaa", sum := "02392d7e379b1843cfa1dc78719cc6205ad99cb8c750aad9b2dd763eb56958ba", func := "tympan/tympanlaw12.MarksFew", spec := "marksFew", unfollowed := true, recurses := true, apart := false, narrowed := true }
def MarksFewUptoSaid : Prop := marksFewUptoRow.holds Try.pinned (OpenSpec.upto marksFewSpec)

/-- 'tympanlaw12.MarksBack', WHERE WHAT IT READS IS OF BULK AT MOST 1048576: true; the input reads as it did. -/
def marksBackUptoRow : OpenClaim := { program := "ytoojoogbkbfpcaa", sum := "02392d7e379b1843cfa1dc78719cc6205ad99cb8c750aad9b2dd763eb56958ba", func := "tympan/tympanlaw12.MarksBack", spec := "marksBack", unfollowed := true, recurses := true, apart := false, narrowed := true }
def MarksBackUptoSaid : Prop := marksBackUptoRow.holds Try.pinned (OpenSpec.upto marksBackSpec)

end Rows
end Go.Proofs.Ytoojoogbkbfpcaa
