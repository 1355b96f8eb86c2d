/-
  DERIVED. GIVEN WITH THE SEED: THE CARDS: each row of YtnnknbecgpdcgaaDoorRows.lean that lists a variable, with what it lists TIED to the program's text (the seventh form; the later family's looks); each row that meets fmt, with fmt's text TOLD by the authors' own Lean function (tested against real Go, not proved from fmt's source: count such statements apart). THE CARD IS WHAT COUNTS. Prove the row's statement (the work); the ties are given (YtnnknbecgpdcgaaDoorTie.lean); close each card by the builder's one call (the guide's Derived/Test/ToyasCard.lean, 'card_holds'). Laid BY PROGRAM, IN A SANDBOX (cutbox-door.mjs). By AI agents, Wed Nov 11 2026. No macro, syntax, notation, axiom, sorry.
-/
import Derived.Test.YtnnknbecgpdcgaaDoorRows
import GoSem.ClaimSeven
namespace Go.Proofs.YtnnknbecgpdcgaaDoor
namespace Rows

/-- THE TIED CARD OF 'tympanlaw02.ClassRunes'. -/
def classRunesCard : Claim7 := { stood := { row := classRunesRow, standIns := [], harness := (true, "4144756f75fceb09eb88872e48e50a1506416bbf0195eec5c0618d7a8ab1122e"), looks := false }, kinds := [], alts := [], laidByText := true, laidKinds := [.data, .pinned], laidTests := true, laidLooks := .later }
def ClassRunesCardSaid : Prop := Claim7.holds Tryd.pinned (.plain (OpenSpec.ofChange classRunesSpec)) classRunesCard

/-- THE TIED CARD OF 'tympanlaw02.ClassFolds'. -/
def classFoldsCard : Claim7 := { stood := { row := classFoldsRow, standIns := [], harness := (true, "4144756f75fceb09eb88872e48e50a1506416bbf0195eec5c0618d7a8ab1122e"), looks := false }, kinds := [], alts := [], laidByText := true, laidKinds := [.data, .pinned], laidTests := true, laidLooks := .later }
def ClassFoldsCardSaid : Prop := Claim7.holds Tryd.pinned (.plain (OpenSpec.ofChange classFoldsSpec)) classFoldsCard

/-- THE TIED CARD OF 'tympanlaw02.ClassLowers'. -/
def classLowersCard : Claim7 := { stood := { row := classLowersRow, standIns := [], harness := (true, "4144756f75fceb09eb88872e48e50a1506416bbf0195eec5c0618d7a8ab1122e"), looks := false }, kinds := [], alts := [], laidByText := true, laidKinds := [.data, .pinned], laidTests := true, laidLooks := .later }
def ClassLowersCardSaid : Prop := Claim7.holds Tryd.pinned (.plain (OpenSpec.ofChange classLowersSpec)) classLowersCard

/-- THE TIED CARD OF 'tympanlaw02.ClassAround'. -/
def classAroundCard : Claim7 := { stood := { row := classAroundRow, standIns := [], harness := (true, "4144756f75fceb09eb88872e48e50a1506416bbf0195eec5c0618d7a8ab1122e"), looks := false }, kinds := [], alts := [], laidByText := true, laidKinds := [.data, .pinned], laidTests := true, laidLooks := .later }
def ClassAroundCardSaid : Prop := Claim7.holds Tryd.pinned (.plain (OpenSpec.ofChange classAroundSpec)) classAroundCard

/-- THE TIED CARD OF 'tympanlaw02.ClassBytes'. -/
def classBytesCard : Claim7 := { stood := { row := classBytesRow, standIns := [], harness := (true, "4144756f75fceb09eb88872e48e50a1506416bbf0195eec5c0618d7a8ab1122e"), looks := false }, kinds := [], alts := [], laidByText := true, laidKinds := [.data, .pinned], laidTests := true, laidLooks := .later }
def ClassBytesCardSaid : Prop := Claim7.holds Tryd.pinned (.plain (OpenSpec.ofChange classBytesSpec)) classBytesCard

/-- THE SECOND FORM's CARD OF 'tympanlaw02.ClassRunes'. -/
def classRunesUptoCard : Claim7 := { stood := { row := classRunesUptoRow, standIns := [], harness := (true, "4144756f75fceb09eb88872e48e50a1506416bbf0195eec5c0618d7a8ab1122e"), looks := false }, kinds := [], alts := [], laidByText := true, laidKinds := [.data, .pinned], laidTests := true, laidLooks := .later }
def ClassRunesUptoCardSaid : Prop := Claim7.holds Tryd.pinned (.plain (OpenSpec.upto classRunesSpec)) classRunesUptoCard

/-- THE SECOND FORM's CARD OF 'tympanlaw02.ClassFolds'. -/
def classFoldsUptoCard : Claim7 := { stood := { row := classFoldsUptoRow, standIns := [], harness := (true, "4144756f75fceb09eb88872e48e50a1506416bbf0195eec5c0618d7a8ab1122e"), looks := false }, kinds := [], alts := [], laidByText := true, laidKinds := [.data, .pinned], laidTests := true, laidLooks := .later }
def ClassFoldsUptoCardSaid : Prop := Claim7.holds Tryd.pinned (.plain (OpenSpec.upto classFoldsSpec)) classFoldsUptoCard

/-- THE SECOND FORM's CARD OF 'tympanlaw02.ClassLowers'. -/
def classLowersUptoCard : Claim7 := { stood := { row := classLowersUptoRow, standIns := [], harness := (true, "4144756f75fceb09eb88872e48e50a1506416bbf0195eec5c0618d7a8ab1122e"), looks := false }, kinds := [], alts := [], laidByText := true, laidKinds := [.data, .pinned], laidTests := true, laidLooks := .later }
def ClassLowersUptoCardSaid : Prop := Claim7.holds Tryd.pinned (.plain (OpenSpec.upto classLowersSpec)) classLowersUptoCard

/-- THE SECOND FORM's CARD OF 'tympanlaw02.ClassAround'. -/
def classAroundUptoCard : Claim7 := { stood := { row := classAroundUptoRow, standIns := [], harness := (true, "4144756f75fceb09eb88872e48e50a1506416bbf0195eec5c0618d7a8ab1122e"), looks := false }, kinds := [], alts := [], laidByText := true, laidKinds := [.data, .pinned], laidTests := true, laidLooks := .later }
def ClassAroundUptoCardSaid : Prop := Claim7.holds Tryd.pinned (.plain (OpenSpec.upto classAroundSpec)) classAroundUptoCard

/-- THE SECOND FORM's CARD OF 'tympanlaw02.ClassBytes'. -/
def classBytesUptoCard : Claim7 := { stood := { row := classBytesUptoRow, standIns := [], harness := (true, "4144756f75fceb09eb88872e48e50a1506416bbf0195eec5c0618d7a8ab1122e"), looks := false }, kinds := [], alts := [], laidByText := true, laidKinds := [.data, .pinned], laidTests := true, laidLooks := .later }
def ClassBytesUptoCardSaid : Prop := Claim7.holds Tryd.pinned (.plain (OpenSpec.upto classBytesSpec)) classBytesUptoCard
end Rows
end Go.Proofs.YtnnknbecgpdcgaaDoor
