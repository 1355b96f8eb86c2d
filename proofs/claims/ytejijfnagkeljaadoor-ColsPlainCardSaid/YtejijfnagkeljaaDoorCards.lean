/-
  DERIVED. GIVEN WITH THE SEED: THE CARDS: each row of YtejijfnagkeljaaDoorRows.lean that lists a variable, with what it lists TIED to the program's text (the seventh form; the later family's looks); each row that meets fmt, with fmt's text TOLD by the authors' own Lean function (tested against real Go, not proved from fmt's source: count such statements apart). THE CARD IS WHAT COUNTS. Prove the row's statement (the work); the ties are given (YtejijfnagkeljaaDoorTie.lean); close each card by the builder's one call (the guide's Derived/Test/ToyasCard.lean, 'card_holds'). Laid BY PROGRAM, IN A SANDBOX (cutbox-door.mjs). By AI agents, Wed Nov 11 2026. No macro, syntax, notation, axiom, sorry.
-/
import Derived.Test.YtejijfnagkeljaaDoorRows
import GoSem.ClaimSeven
namespace Go.Proofs.YtejijfnagkeljaaDoor
namespace Rows

/-- THE TIED CARD OF 'tympanlaw21.ColsDoes'. -/
def colsDoesCard : Claim7 := { stood := { row := colsDoesRow, standIns := [], harness := (true, "1cd6954529198eef73bfc6baf7fe67e79dad592c8e30739ce359fc4b3c469ec3"), looks := false }, kinds := [], alts := [], laidByText := true, laidKinds := [.data, .pinned], laidTests := true, laidLooks := .later }
def ColsDoesCardSaid : Prop := Claim7.holds Tryd.pinned (.plain (OpenSpec.ofChange colsDoesSpec)) colsDoesCard

/-- THE TIED CARD OF 'tympanlaw21.ColsParts'. -/
def colsPartsCard : Claim7 := { stood := { row := colsPartsRow, standIns := [], harness := (true, "1cd6954529198eef73bfc6baf7fe67e79dad592c8e30739ce359fc4b3c469ec3"), looks := false }, kinds := [], alts := [], laidByText := true, laidKinds := [.data, .pinned], laidTests := true, laidLooks := .later }
def ColsPartsCardSaid : Prop := Claim7.holds Tryd.pinned (.plain (OpenSpec.ofChange colsPartsSpec)) colsPartsCard

/-- THE TIED CARD OF 'tympanlaw21.ColsPlain'. -/
def colsPlainCard : Claim7 := { stood := { row := colsPlainRow, standIns := [], harness := (true, "1cd6954529198eef73bfc6baf7fe67e79dad592c8e30739ce359fc4b3c469ec3"), looks := false }, kinds := [], alts := [], laidByText := true, laidKinds := [.data, .pinned], laidTests := true, laidLooks := .later }
def ColsPlainCardSaid : Prop := Claim7.holds Tryd.pinned (.plain (OpenSpec.ofChange colsPlainSpec)) colsPlainCard

/-- THE SECOND FORM's CARD OF 'tympanlaw21.ColsDoes'. -/
def colsDoesUptoCard : Claim7 := { stood := { row := colsDoesUptoRow, standIns := [], harness := (true, "1cd6954529198eef73bfc6baf7fe67e79dad592c8e30739ce359fc4b3c469ec3"), looks := false }, kinds := [], alts := [], laidByText := true, laidKinds := [.data, .pinned], laidTests := true, laidLooks := .later }
def ColsDoesUptoCardSaid : Prop := Claim7.holds Tryd.pinned (.plain (OpenSpec.upto colsDoesSpec)) colsDoesUptoCard

/-- THE SECOND FORM's CARD OF 'tympanlaw21.ColsParts'. -/
def colsPartsUptoCard : Claim7 := { stood := { row := colsPartsUptoRow, standIns := [], harness := (true, "1cd6954529198eef73bfc6baf7fe67e79dad592c8e30739ce359fc4b3c469ec3"), looks := false }, kinds := [], alts := [], laidByText := true, laidKinds := [.data, .pinned], laidTests := true, laidLooks := .later }
def ColsPartsUptoCardSaid : Prop := Claim7.holds Tryd.pinned (.plain (OpenSpec.upto colsPartsSpec)) colsPartsUptoCard

/-- THE SECOND FORM's CARD OF 'tympanlaw21.ColsPlain'. -/
def colsPlainUptoCard : Claim7 := { stood := { row := colsPlainUptoRow, standIns := [], harness := (true, "1cd6954529198eef73bfc6baf7fe67e79dad592c8e30739ce359fc4b3c469ec3"), looks := false }, kinds := [], alts := [], laidByText := true, laidKinds := [.data, .pinned], laidTests := true, laidLooks := .later }
def ColsPlainUptoCardSaid : Prop := Claim7.holds Tryd.pinned (.plain (OpenSpec.upto colsPlainSpec)) colsPlainUptoCard
end Rows
end Go.Proofs.YtejijfnagkeljaaDoor
