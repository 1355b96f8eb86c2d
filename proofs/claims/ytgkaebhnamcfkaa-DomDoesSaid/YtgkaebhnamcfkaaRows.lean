/-
  NARROWER THAN 'FOR EVERY INPUT', by the rows' own cells (each row's printed sentence says how): DomOwn: loops · DomDoes: loops · DomSame: loops · DomBack: loops.
  DERIVED. THE GIVEN ROWS OF THIS SEAT. 4 by the template 'for every input the law returns true; each argument reads behind the call as it read before'; 0 by the template 'total and deterministic' (their statements: YtgkaebhnamcfkaaTotals.lean).
  GIVEN WITH THE SEED: the statements are not yours to turn. If you find one false, say at which input.
  Laid BY PROGRAM, IN A SANDBOX (cutbox-rows.mjs): the forced cells as the released guide's own fill.sh prints them over the translation 74fe1b8ac6cb168a… (all of the seat's roots in one cut). By AI agents, Wed Nov 11 2026. No macro, syntax, notation, axiom, sorry.
-/
import Derived.Test.YtgkaebhnamcfkaaChecked
import GoSem.Claim
import GoSem.ClaimJoined
import GoSem.ClaimMapViews
import Derived.JoinedTies
import Derived.KernelRfl
namespace Go.Proofs.Ytgkaebhnamcfkaa
/- THE CELL 'sum', in the pinned program and in every row, IS THE sha256 OF THE DUMP (.gsa) THAT YtgkaebhnamcfkaaProg.lean LOADS. Nothing in Lean hashes anything: it is a label: what it is worth is what the hold of that sum in a sandbox is worth. -/
noncomputable def Try.pinned : Pinned := { name := "ytgkaebhnamcfkaa", sum := "74fe1b8ac6cb168a8c2677cb37ac08f623667ac64d4df3f5915e61864729af7f", checked := Try.checked }
namespace Rows
def none {H : Type} : Left H := { results := [], args := [] }

/-- 'tympanlaw10.DomOwn': WHATEVER THE INPUT: true; the input reads as it did. -/
def domOwnSpec : ChangeSpec := { name := "domOwn", fn := fun _ => fun
  | [d] => { results := [.lit (.bool true)], args := [d] }
  | _ => none }
def domOwnRow : OpenClaim := { program := "ytgkaebhnamcfkaa", sum := "74fe1b8ac6cb168a8c2677cb37ac08f623667ac64d4df3f5915e61864729af7f", func := "tympan/tympanlaw10.DomOwn", spec := "domOwn", inPlace := ["slices.overlaps[int]", "internal/abi.NoEscape", "internal/bytealg.MakeNoZero"], unfollowed := true, recurses := true, loops := true, apart := false }
def DomOwnSaid : Prop := domOwnRow.holds Try.pinned (OpenSpec.ofChange domOwnSpec)

/-- ITS FALSE NEIGHBOUR: 'it returns false'. Refute it at one input. -/
def domOwnWrong : ChangeSpec := { name := "domOwn", fn := fun _ => fun
  | [d] => { results := [.lit (.bool false)], args := [d] }
  | _ => none }
def DomOwnWrongFalsely : Prop := domOwnRow.holds Try.pinned (OpenSpec.ofChange domOwnWrong)

/-- 'tympanlaw10.DomDoes': WHATEVER THE INPUT: true; the input reads as it did. -/
def domDoesSpec : ChangeSpec := { name := "domDoes", fn := fun _ => fun
  | [d] => { results := [.lit (.bool true)], args := [d] }
  | _ => none }
def domDoesRow : OpenClaim := { program := "ytgkaebhnamcfkaa", sum := "74fe1b8ac6cb168a8c2677cb37ac08f623667ac64d4df3f5915e61864729af7f", func := "tympan/tympanlaw10.DomDoes", spec := "domDoes", inPlace := ["slices.overlaps[int]", "internal/abi.NoEscape", "internal/bytealg.MakeNoZero"], unfollowed := true, recurses := true, loops := true, apart := false }
def DomDoesSaid : Prop := domDoesRow.holds Try.pinned (OpenSpec.ofChange domDoesSpec)

/-- ITS FALSE NEIGHBOUR: 'it returns false'. Refute it at one input. -/
def domDoesWrong : ChangeSpec := { name := "domDoes", fn := fun _ => fun
  | [d] => { results := [.lit (.bool false)], args := [d] }
  | _ => none }
def DomDoesWrongFalsely : Prop := domDoesRow.holds Try.pinned (OpenSpec.ofChange domDoesWrong)

/-- 'tympanlaw10.DomSame': WHATEVER THE INPUT: true; the input reads as it did. -/
def domSameSpec : ChangeSpec := { name := "domSame", fn := fun _ => fun
  | [d1, d2] => { results := [.lit (.bool true)], args := [d1, d2] }
  | _ => none }
def domSameRow : OpenClaim := { program := "ytgkaebhnamcfkaa", sum := "74fe1b8ac6cb168a8c2677cb37ac08f623667ac64d4df3f5915e61864729af7f", func := "tympan/tympanlaw10.DomSame", spec := "domSame", inPlace := ["slices.overlaps[int]", "internal/abi.NoEscape", "internal/bytealg.MakeNoZero"], unfollowed := true, recurses := true, loops := true, apart := false }
def DomSameSaid : Prop := domSameRow.holds Try.pinned (OpenSpec.ofChange domSameSpec)

/-- ITS FALSE NEIGHBOUR: 'it returns false'. Refute it at one input. -/
def domSameWrong : ChangeSpec := { name := "domSame", fn := fun _ => fun
  | [d1, d2] => { results := [.lit (.bool false)], args := [d1, d2] }
  | _ => none }
def DomSameWrongFalsely : Prop := domSameRow.holds Try.pinned (OpenSpec.ofChange domSameWrong)

/-- 'tympanlaw10.DomBack': WHATEVER THE INPUT: true; the input reads as it did. -/
def domBackSpec : ChangeSpec := { name := "domBack", fn := fun _ => fun
  | [d1, d2] => { results := [.lit (.bool true)], args := [d1, d2] }
  | _ => none }
def domBackRow : OpenClaim := { program := "ytgkaebhnamcfkaa", sum := "74fe1b8ac6cb168a8c2677cb37ac08f623667ac64d4df3f5915e61864729af7f", func := "tympan/tympanlaw10.DomBack", spec := "domBack", inPlace := ["slices.overlaps[int]", "internal/abi.NoEscape", "internal/bytealg.MakeNoZero"], unfollowed := true, recurses := true, loops := true, apart := false }
def DomBackSaid : Prop := domBackRow.holds Try.pinned (OpenSpec.ofChange domBackSpec)

/-- ITS FALSE NEIGHBOUR: 'it returns false'. Refute it at one input. -/
def domBackWrong : ChangeSpec := { name := "domBack", fn := fun _ => fun
  | [d1, d2] => { results := [.lit (.bool false)], args := [d1, d2] }
  | _ => none }
def DomBackWrongFalsely : Prop := domBackRow.holds Try.pinned (OpenSpec.ofChange domBackWrong)

/- THE SECOND FORM. 'bulk': how many values and letters a reading holds, each counted each time it is reached (what is shared counts as often as it is met; a slice's spare places count too). A statement '..UptoSaid' is the law's where the arguments, and the package variables that the reading takes, are together of bulk at most 1048576: NARROWER than '..Said'. Prove '..Said' where nothing that the law and all that it calls make is longer than what came in: it says more and counts as full. Else prove '..UptoSaid'. A law counts once. -/
mutual
def uptoBulk {H : Type} : DataW H → Nat
  | .lit (.string bytes) => bytes.length + 1
  | .lit _ => 1
  | .nil => 1
  | .ptr d => uptoBulk d + 1
  | .slice elems spare => uptoBulkAll elems + uptoBulkAll spare + 1
  | .agg parts => uptoBulkAll parts + 1
  | .iface _ d => uptoBulk d + 1
  | .map entries => uptoBulkEntries entries + 1
  | .held _ => 1
def uptoBulkAll {H : Type} : List (DataW H) → Nat
  | [] => 0
  | d :: r => uptoBulk d + uptoBulkAll r
def uptoBulkEntries {H : Type} : List (Lit × DataW H) → Nat
  | [] => 0
  | x :: r => uptoBulkEntry x + uptoBulkEntries r
def uptoBulkEntry {H : Type} : Lit × DataW H → Nat
  | (.string bytes, d) => bytes.length + uptoBulk d + 1
  | (_, d) => uptoBulk d + 1
 end
def uptoSmall : (H : Type) → List (DataW H) → Bool := fun _ ds => decide (uptoBulkAll ds ≤ 1048576)
def OpenSpec.upto (s : _root_.Go.ChangeSpec) : _root_.Go.OpenSpec := { _root_.Go.OpenSpec.ofChange s with cond := some uptoSmall }

/-- 'tympanlaw10.DomOwn', WHERE WHAT IT READS IS OF BULK AT MOST 1048576: true; the input reads as it did. -/
def domOwnUptoRow : OpenClaim := { program := "ytgkaebhnamcfkaa", sum := "74fe1b8ac6cb168a8c2677cb37ac08f623667ac64d4df3f5915e61864729af7f", func := "tympan/tympanlaw10.DomOwn", spec := "domOwn", inPlace := ["slices.overlaps[int]", "internal/abi.NoEscape", "internal/bytealg.MakeNoZero"], unfollowed := true, recurses := true, loops := true, apart := false, narrowed := true }
def DomOwnUptoSaid : Prop := domOwnUptoRow.holds Try.pinned (OpenSpec.upto domOwnSpec)

/-- 'tympanlaw10.DomDoes', WHERE WHAT IT READS IS OF BULK AT MOST 1048576: true; the input reads as it did. -/
def domDoesUptoRow : OpenClaim := { program := "ytgkaebhnamcfkaa", sum := "74fe1b8ac6cb168a8c2677cb37ac08f623667ac64d4df3f5915e61864729af7f", func := "tympan/tympanlaw10.DomDoes", spec := "domDoes", inPlace := ["slices.overlaps[int]", "internal/abi.NoEscape", "internal/bytealg.MakeNoZero"], unfollowed := true, recurses := true, loops := true, apart := false, narrowed := true }
def DomDoesUptoSaid : Prop := domDoesUptoRow.holds Try.pinned (OpenSpec.upto domDoesSpec)

/-- 'tympanlaw10.DomSame', WHERE WHAT IT READS IS OF BULK AT MOST 1048576: true; the input reads as it did. -/
def domSameUptoRow : OpenClaim := { program := "ytgkaebhnamcfkaa", sum := "74fe1b8ac6cb168a8c2677cb37ac08f623667ac64d4df3f5915e61864729af7f", func := "tympan/tympanlaw10.DomSame", spec := "domSame", inPlace := ["slices.overlaps[int]", "internal/abi.NoEscape", "internal/bytealg.MakeNoZero"], unfollowed := true, recurses := true, loops := true, apart := false, narrowed := true }
def DomSameUptoSaid : Prop := domSameUptoRow.holds Try.pinned (OpenSpec.upto domSameSpec)

/-- 'tympanlaw10.DomBack', WHERE WHAT IT READS IS OF BULK AT MOST 1048576: true; the input reads as it did. -/
def domBackUptoRow : OpenClaim := { program := "ytgkaebhnamcfkaa", sum := "74fe1b8ac6cb168a8c2677cb37ac08f623667ac64d4df3f5915e61864729af7f", func := "tympan/tympanlaw10.DomBack", spec := "domBack", inPlace := ["slices.overlaps[int]", "internal/abi.NoEscape", "internal/bytealg.MakeNoZero"], unfollowed := true, recurses := true, loops := true, apart := false, narrowed := true }
def DomBackUptoSaid : Prop := domBackUptoRow.holds Try.pinned (OpenSpec.upto domBackSpec)

end Rows
end Go.Proofs.Ytgkaebhnamcfkaa
