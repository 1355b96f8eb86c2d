/-
  NARROWER THAN 'FOR EVERY INPUT', by the rows' own cells (each row's printed sentence says how): ClassRunes: laid · ClassFolds: laid · ClassLowers: laid · ClassAround: laid · ClassBytes: laid.
  DERIVED. THE GIVEN ROWS OF THIS SEAT. 5 by the template 'for every input the law returns true; each argument reads behind the call as it read before'; 0 by the template 'total and deterministic' (their statements: YtnnknbecgpdcgaaDoorTotals.lean).
  GIVEN WITH THE SEED: the statements are not yours to turn. If you find one false, say at which input.
  Laid BY PROGRAM, IN A SANDBOX (cutbox-rows.mjs): the forced cells as the released guide's own fill.sh prints them over the translation be23ec4b9c8275e8… (all of the seat's roots in one cut). By AI agents, Wed Nov 11 2026. No macro, syntax, notation, axiom, sorry.
-/
import Derived.Test.YtnnknbecgpdcgaaDoorChecked
import GoSem.PinnedTables
import GoSem.Claim
import GoSem.ClaimJoined
import GoSem.ClaimMapViews
import Derived.JoinedTies
import Derived.KernelRfl
namespace Go.Proofs.YtnnknbecgpdcgaaDoor
/- THE CELL 'sum', in the pinned program and in every row, IS THE sha256 OF THE DUMP (.gsa) THAT YtnnknbecgpdcgaaDoorProg.lean LOADS. Nothing in Lean hashes anything: it is a label: what it is worth is what the hold of that sum in a sandbox is worth. -/
noncomputable def Tryd.pinned : Pinned := { name := "ytnnknbecgpdcgaadoor", sum := "be23ec4b9c8275e8c96c871cb5057820dc8552213433af61e88da5c85bd23c37", checked := Tryd.checked }
namespace Rows
def none {H : Type} : Left H := { results := [], args := [] }

/- WHAT THE LISTED PACKAGE-LEVEL VARIABLES READ AS WHEN THE CALL BEGINS. Each datum BY PROGRAM (the guide's laid-datum.mjs) off the statement by which the dump's own 'gosem.cut.vars' lays the variable. In a bare row this is a premise. The card (YtnnknbecgpdcgaaDoorCards.lean) ties it to the program's text. -/
def laid_unicode_utf8_acceptRanges {H : Type} : DataW H := .agg [.agg [.lit (.int .u8 128), .lit (.int .u8 191)], .agg [.lit (.int .u8 160), .lit (.int .u8 191)], .agg [.lit (.int .u8 128), .lit (.int .u8 159)], .agg [.lit (.int .u8 144), .lit (.int .u8 191)], .agg [.lit (.int .u8 128), .lit (.int .u8 143)], .agg [.lit (.int .u8 0), .lit (.int .u8 0)], .agg [.lit (.int .u8 0), .lit (.int .u8 0)], .agg [.lit (.int .u8 0), .lit (.int .u8 0)], .agg [.lit (.int .u8 0), .lit (.int .u8 0)], .agg [.lit (.int .u8 0), .lit (.int .u8 0)], .agg [.lit (.int .u8 0), .lit (.int .u8 0)], .agg [.lit (.int .u8 0), .lit (.int .u8 0)], .agg [.lit (.int .u8 0), .lit (.int .u8 0)], .agg [.lit (.int .u8 0), .lit (.int .u8 0)], .agg [.lit (.int .u8 0), .lit (.int .u8 0)], .agg [.lit (.int .u8 0), .lit (.int .u8 0)]]
/-- One of Go's own tables, pinned by name: the form's constant. -/
def laid_unicode_utf8_first : DataW Unit := Go.Pinned.utf8First

/-- 'tympanlaw02.ClassRunes': WHATEVER THE INPUT: true; the input reads as it did. -/
def classRunesSpec : ChangeSpec := { name := "classRunes", fn := fun _ => fun
  | [d] => { results := [.lit (.bool true)], args := [d] }
  | _ => none }
def classRunesRow : OpenClaim := { program := "ytnnknbecgpdcgaadoor", sum := "be23ec4b9c8275e8c96c871cb5057820dc8552213433af61e88da5c85bd23c37", func := "tympan/tympanlaw02.ClassRunes", spec := "classRunes", inPlace := ["internal/abi.NoEscape", "internal/bytealg.IndexByteString"], named := ["unicode/utf8.first", "unicode/utf8.acceptRanges"], apart := false, laid := [("unicode/utf8.acceptRanges", laid_unicode_utf8_acceptRanges), ("unicode/utf8.first", laid_unicode_utf8_first)] }
def ClassRunesSaid : Prop := classRunesRow.holds Tryd.pinned (OpenSpec.ofChange classRunesSpec)

/-- ITS FALSE NEIGHBOUR: 'it returns false'. Refute it at one input. -/
def classRunesWrong : ChangeSpec := { name := "classRunes", fn := fun _ => fun
  | [d] => { results := [.lit (.bool false)], args := [d] }
  | _ => none }
def ClassRunesWrongFalsely : Prop := classRunesRow.holds Tryd.pinned (OpenSpec.ofChange classRunesWrong)

/-- 'tympanlaw02.ClassFolds': WHATEVER THE INPUT: true; the input reads as it did. -/
def classFoldsSpec : ChangeSpec := { name := "classFolds", fn := fun _ => fun
  | [d] => { results := [.lit (.bool true)], args := [d] }
  | _ => none }
def classFoldsRow : OpenClaim := { program := "ytnnknbecgpdcgaadoor", sum := "be23ec4b9c8275e8c96c871cb5057820dc8552213433af61e88da5c85bd23c37", func := "tympan/tympanlaw02.ClassFolds", spec := "classFolds", inPlace := ["internal/abi.NoEscape", "internal/bytealg.IndexByteString"], named := ["unicode/utf8.first", "unicode/utf8.acceptRanges"], apart := false, laid := [("unicode/utf8.acceptRanges", laid_unicode_utf8_acceptRanges), ("unicode/utf8.first", laid_unicode_utf8_first)] }
def ClassFoldsSaid : Prop := classFoldsRow.holds Tryd.pinned (OpenSpec.ofChange classFoldsSpec)

/-- ITS FALSE NEIGHBOUR: 'it returns false'. Refute it at one input. -/
def classFoldsWrong : ChangeSpec := { name := "classFolds", fn := fun _ => fun
  | [d] => { results := [.lit (.bool false)], args := [d] }
  | _ => none }
def ClassFoldsWrongFalsely : Prop := classFoldsRow.holds Tryd.pinned (OpenSpec.ofChange classFoldsWrong)

/-- 'tympanlaw02.ClassLowers': WHATEVER THE INPUT: true; the input reads as it did. -/
def classLowersSpec : ChangeSpec := { name := "classLowers", fn := fun _ => fun
  | [d] => { results := [.lit (.bool true)], args := [d] }
  | _ => none }
def classLowersRow : OpenClaim := { program := "ytnnknbecgpdcgaadoor", sum := "be23ec4b9c8275e8c96c871cb5057820dc8552213433af61e88da5c85bd23c37", func := "tympan/tympanlaw02.ClassLowers", spec := "classLowers", inPlace := ["internal/abi.NoEscape", "internal/bytealg.IndexByteString"], named := ["unicode/utf8.first", "unicode/utf8.acceptRanges"], apart := false, laid := [("unicode/utf8.acceptRanges", laid_unicode_utf8_acceptRanges), ("unicode/utf8.first", laid_unicode_utf8_first)] }
def ClassLowersSaid : Prop := classLowersRow.holds Tryd.pinned (OpenSpec.ofChange classLowersSpec)

/-- ITS FALSE NEIGHBOUR: 'it returns false'. Refute it at one input. -/
def classLowersWrong : ChangeSpec := { name := "classLowers", fn := fun _ => fun
  | [d] => { results := [.lit (.bool false)], args := [d] }
  | _ => none }
def ClassLowersWrongFalsely : Prop := classLowersRow.holds Tryd.pinned (OpenSpec.ofChange classLowersWrong)

/-- 'tympanlaw02.ClassAround': WHATEVER THE INPUT: true; the input reads as it did. -/
def classAroundSpec : ChangeSpec := { name := "classAround", fn := fun _ => fun
  | [d1, d2] => { results := [.lit (.bool true)], args := [d1, d2] }
  | _ => none }
def classAroundRow : OpenClaim := { program := "ytnnknbecgpdcgaadoor", sum := "be23ec4b9c8275e8c96c871cb5057820dc8552213433af61e88da5c85bd23c37", func := "tympan/tympanlaw02.ClassAround", spec := "classAround", inPlace := ["internal/abi.NoEscape", "internal/bytealg.IndexByteString"], named := ["unicode/utf8.first", "unicode/utf8.acceptRanges"], apart := false, laid := [("unicode/utf8.acceptRanges", laid_unicode_utf8_acceptRanges), ("unicode/utf8.first", laid_unicode_utf8_first)] }
def ClassAroundSaid : Prop := classAroundRow.holds Tryd.pinned (OpenSpec.ofChange classAroundSpec)

/-- ITS FALSE NEIGHBOUR: 'it returns false'. Refute it at one input. -/
def classAroundWrong : ChangeSpec := { name := "classAround", fn := fun _ => fun
  | [d1, d2] => { results := [.lit (.bool false)], args := [d1, d2] }
  | _ => none }
def ClassAroundWrongFalsely : Prop := classAroundRow.holds Tryd.pinned (OpenSpec.ofChange classAroundWrong)

/-- 'tympanlaw02.ClassBytes': WHATEVER THE INPUT: true; the input reads as it did. -/
def classBytesSpec : ChangeSpec := { name := "classBytes", fn := fun _ => fun
  | [d] => { results := [.lit (.bool true)], args := [d] }
  | _ => none }
def classBytesRow : OpenClaim := { program := "ytnnknbecgpdcgaadoor", sum := "be23ec4b9c8275e8c96c871cb5057820dc8552213433af61e88da5c85bd23c37", func := "tympan/tympanlaw02.ClassBytes", spec := "classBytes", inPlace := ["internal/abi.NoEscape", "internal/bytealg.IndexByteString"], named := ["unicode/utf8.first", "unicode/utf8.acceptRanges"], apart := false, laid := [("unicode/utf8.acceptRanges", laid_unicode_utf8_acceptRanges), ("unicode/utf8.first", laid_unicode_utf8_first)] }
def ClassBytesSaid : Prop := classBytesRow.holds Tryd.pinned (OpenSpec.ofChange classBytesSpec)

/-- ITS FALSE NEIGHBOUR: 'it returns false'. Refute it at one input. -/
def classBytesWrong : ChangeSpec := { name := "classBytes", fn := fun _ => fun
  | [d] => { results := [.lit (.bool false)], args := [d] }
  | _ => none }
def ClassBytesWrongFalsely : Prop := classBytesRow.holds Tryd.pinned (OpenSpec.ofChange classBytesWrong)

/- THE SECOND FORM. 'bulk': how many values and letters a reading holds, each counted each time it is reached (what is shared counts as often as it is met; a slice's spare places count too). A statement '..UptoSaid' is the law's where the arguments, and the package variables that the reading takes, are together of bulk at most 1048576: NARROWER than '..Said'. Prove '..Said' where nothing that the law and all that it calls make is longer than what came in: it says more and counts as full. Else prove '..UptoSaid'. A law counts once. -/
mutual
def uptoBulk {H : Type} : DataW H → Nat
  | .lit (.string bytes) => bytes.length + 1
  | .lit _ => 1
  | .nil => 1
  | .ptr d => uptoBulk d + 1
  | .slice elems spare => uptoBulkAll elems + uptoBulkAll spare + 1
  | .agg parts => uptoBulkAll parts + 1
  | .iface _ d => uptoBulk d + 1
  | .map entries => uptoBulkEntries entries + 1
  | .held _ => 1
def uptoBulkAll {H : Type} : List (DataW H) → Nat
  | [] => 0
  | d :: r => uptoBulk d + uptoBulkAll r
def uptoBulkEntries {H : Type} : List (Lit × DataW H) → Nat
  | [] => 0
  | x :: r => uptoBulkEntry x + uptoBulkEntries r
def uptoBulkEntry {H : Type} : Lit × DataW H → Nat
  | (.string bytes, d) => bytes.length + uptoBulk d + 1
  | (_, d) => uptoBulk d + 1
 end
def uptoSmall : (H : Type) → List (DataW H) → Bool := fun _ ds => decide (uptoBulkAll ds ≤ 1048576)
def OpenSpec.upto (s : _root_.Go.ChangeSpec) : _root_.Go.OpenSpec := { _root_.Go.OpenSpec.ofChange s with cond := some uptoSmall }

/-- 'tympanlaw02.ClassRunes', WHERE WHAT IT READS IS OF BULK AT MOST 1048576: true; the input reads as it did. -/
def classRunesUptoRow : OpenClaim := { program := "ytnnknbecgpdcgaadoor", sum := "be23ec4b9c8275e8c96c871cb5057820dc8552213433af61e88da5c85bd23c37", func := "tympan/tympanlaw02.ClassRunes", spec := "classRunes", inPlace := ["internal/abi.NoEscape", "internal/bytealg.IndexByteString"], named := ["unicode/utf8.first", "unicode/utf8.acceptRanges"], apart := false, laid := [("unicode/utf8.acceptRanges", laid_unicode_utf8_acceptRanges), ("unicode/utf8.first", laid_unicode_utf8_first)], narrowed := true }
def ClassRunesUptoSaid : Prop := classRunesUptoRow.holds Tryd.pinned (OpenSpec.upto classRunesSpec)

/-- 'tympanlaw02.ClassFolds', WHERE WHAT IT READS IS OF BULK AT MOST 1048576: true; the input reads as it did. -/
def classFoldsUptoRow : OpenClaim := { program := "ytnnknbecgpdcgaadoor", sum := "be23ec4b9c8275e8c96c871cb5057820dc8552213433af61e88da5c85bd23c37", func := "tympan/tympanlaw02.ClassFolds", spec := "classFolds", inPlace := ["internal/abi.NoEscape", "internal/bytealg.IndexByteString"], named := ["unicode/utf8.first", "unicode/utf8.acceptRanges"], apart := false, laid := [("unicode/utf8.acceptRanges", laid_unicode_utf8_acceptRanges), ("unicode/utf8.first", laid_unicode_utf8_first)], narrowed := true }
def ClassFoldsUptoSaid : Prop := classFoldsUptoRow.holds Tryd.pinned (OpenSpec.upto classFoldsSpec)

/-- 'tympanlaw02.ClassLowers', WHERE WHAT IT READS IS OF BULK AT MOST 1048576: true; the input reads as it did. -/
def classLowersUptoRow : OpenClaim := { program := "ytnnknbecgpdcgaadoor", sum := "be23ec4b9c8275e8c96c871cb5057820dc8552213433af61e88da5c85bd23c37", func := "tympan/tympanlaw02.ClassLowers", spec := "classLowers", inPlace := ["internal/abi.NoEscape", "internal/bytealg.IndexByteString"], named := ["unicode/utf8.first", "unicode/utf8.acceptRanges"], apart := false, laid := [("unicode/utf8.acceptRanges", laid_unicode_utf8_acceptRanges), ("unicode/utf8.first", laid_unicode_utf8_first)], narrowed := true }
def ClassLowersUptoSaid : Prop := classLowersUptoRow.holds Tryd.pinned (OpenSpec.upto classLowersSpec)

/-- 'tympanlaw02.ClassAround', WHERE WHAT IT READS IS OF BULK AT MOST 1048576: true; the input reads as it did. -/
def classAroundUptoRow : OpenClaim := { program := "ytnnknbecgpdcgaadoor", sum := "be23ec4b9c8275e8c96c871cb5057820dc8552213433af61e88da5c85bd23c37", func := "tympan/tympanlaw02.ClassAround", spec := "classAround", inPlace := ["internal/abi.NoEscape", "internal/bytealg.IndexByteString"], named := ["unicode/utf8.first", "unicode/utf8.acceptRanges"], apart := false, laid := [("unicode/utf8.acceptRanges", laid_unicode_utf8_acceptRanges), ("unicode/utf8.first", laid_unicode_utf8_first)], narrowed := true }
def ClassAroundUptoSaid : Prop := classAroundUptoRow.holds Tryd.pinned (OpenSpec.upto classAroundSpec)

/-- 'tympanlaw02.ClassBytes', WHERE WHAT IT READS IS OF BULK AT MOST 1048576: true; the input reads as it did. -/
def classBytesUptoRow : OpenClaim := { program := "ytnnknbecgpdcgaadoor", sum := "be23ec4b9c8275e8c96c871cb5057820dc8552213433af61e88da5c85bd23c37", func := "tympan/tympanlaw02.ClassBytes", spec := "classBytes", inPlace := ["internal/abi.NoEscape", "internal/bytealg.IndexByteString"], named := ["unicode/utf8.first", "unicode/utf8.acceptRanges"], apart := false, laid := [("unicode/utf8.acceptRanges", laid_unicode_utf8_acceptRanges), ("unicode/utf8.first", laid_unicode_utf8_first)], narrowed := true }
def ClassBytesUptoSaid : Prop := classBytesUptoRow.holds Tryd.pinned (OpenSpec.upto classBytesSpec)

end Rows
end Go.Proofs.YtnnknbecgpdcgaaDoor
