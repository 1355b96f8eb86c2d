/-
  DERIVED. GIVEN WITH THE SEED: THE CARDS: each row of YtodponooeepilaaDoorRows.lean that lists a variable, with what it lists TIED to the program's text (the seventh form; the later family's looks); each row that meets fmt, with fmt's text TOLD by the authors' own Lean function (tested against real Go, not proved from fmt's source: count such statements apart). THE CARD IS WHAT COUNTS. Prove the row's statement (the work); the ties are given (YtodponooeepilaaDoorTie.lean); close each card by the builder's one call (the guide's Derived/Test/ToyasCard.lean, 'card_holds'). Laid BY PROGRAM, IN A SANDBOX (cutbox-door.mjs). By AI agents, Wed Nov 11 2026. No macro, syntax, notation, axiom, sorry.
-/
import Derived.Test.YtodponooeepilaaDoorRows
import GoSem.ClaimSeven
namespace Go.Proofs.YtodponooeepilaaDoor
namespace Rows

/-- THE TIED CARD OF 'tympanlaw01.UtfTexts'. -/
def utfTextsCard : Claim7 := { stood := { row := utfTextsRow, standIns := [], harness := (true, "ccf609b0f102a1466b6f8b787efbef1274272127e906a1d1faca0c8dfd3c2ce8"), looks := false }, kinds := [], alts := [], laidByText := true, laidKinds := [.data, .pinned], laidTests := true, laidLooks := .later }
def UtfTextsCardSaid : Prop := Claim7.holds Tryd.pinned (.plain (OpenSpec.ofChange utfTextsSpec)) utfTextsCard

/-- THE TIED CARD OF 'tympanlaw01.UtfRight'. -/
def utfRightCard : Claim7 := { stood := { row := utfRightRow, standIns := [], harness := (true, "ccf609b0f102a1466b6f8b787efbef1274272127e906a1d1faca0c8dfd3c2ce8"), looks := false }, kinds := [], alts := [], laidByText := true, laidKinds := [.data, .pinned], laidTests := true, laidLooks := .later }
def UtfRightCardSaid : Prop := Claim7.holds Tryd.pinned (.plain (OpenSpec.ofChange utfRightSpec)) utfRightCard

/-- THE TIED CARD OF 'tympanlaw01.UtfLines'. -/
def utfLinesCard : Claim7 := { stood := { row := utfLinesRow, standIns := [], harness := (true, "ccf609b0f102a1466b6f8b787efbef1274272127e906a1d1faca0c8dfd3c2ce8"), looks := false }, kinds := [], alts := [], laidByText := true, laidKinds := [.data, .pinned], laidTests := true, laidLooks := .later }
def UtfLinesCardSaid : Prop := Claim7.holds Tryd.pinned (.plain (OpenSpec.ofChange utfLinesSpec)) utfLinesCard

/-- THE TIED CARD OF 'tympanlaw01.UtfStays'. -/
def utfStaysCard : Claim7 := { stood := { row := utfStaysRow, standIns := [], harness := (true, "ccf609b0f102a1466b6f8b787efbef1274272127e906a1d1faca0c8dfd3c2ce8"), looks := false }, kinds := [], alts := [], laidByText := true, laidKinds := [.data, .pinned], laidTests := true, laidLooks := .later }
def UtfStaysCardSaid : Prop := Claim7.holds Tryd.pinned (.plain (OpenSpec.ofChange utfStaysSpec)) utfStaysCard

/-- THE TIED CARD OF 'tympanlaw01.UtfEnds'. -/
def utfEndsCard : Claim7 := { stood := { row := utfEndsRow, standIns := [], harness := (true, "ccf609b0f102a1466b6f8b787efbef1274272127e906a1d1faca0c8dfd3c2ce8"), looks := false }, kinds := [], alts := [], laidByText := true, laidKinds := [.data, .pinned], laidTests := true, laidLooks := .later }
def UtfEndsCardSaid : Prop := Claim7.holds Tryd.pinned (.plain (OpenSpec.ofChange utfEndsSpec)) utfEndsCard

/-- THE TIED CARD OF 'tympanlaw01.UtfLong'. -/
def utfLongCard : Claim7 := { stood := { row := utfLongRow, standIns := [], harness := (true, "ccf609b0f102a1466b6f8b787efbef1274272127e906a1d1faca0c8dfd3c2ce8"), looks := false }, kinds := [], alts := [], laidByText := true, laidKinds := [.data, .pinned], laidTests := true, laidLooks := .later }
def UtfLongCardSaid : Prop := Claim7.holds Tryd.pinned (.plain (OpenSpec.ofChange utfLongSpec)) utfLongCard

/-- THE TIED CARD OF 'tympanlaw01.UtfOne'. -/
def utfOneCard : Claim7 := { stood := { row := utfOneRow, standIns := [], harness := (true, "ccf609b0f102a1466b6f8b787efbef1274272127e906a1d1faca0c8dfd3c2ce8"), looks := false }, kinds := [], alts := [], laidByText := true, laidKinds := [.data, .pinned], laidTests := true, laidLooks := .later }
def UtfOneCardSaid : Prop := Claim7.holds Tryd.pinned (.plain (OpenSpec.ofChange utfOneSpec)) utfOneCard

/-- THE SECOND FORM's CARD OF 'tympanlaw01.UtfTexts'. -/
def utfTextsUptoCard : Claim7 := { stood := { row := utfTextsUptoRow, standIns := [], harness := (true, "ccf609b0f102a1466b6f8b787efbef1274272127e906a1d1faca0c8dfd3c2ce8"), looks := false }, kinds := [], alts := [], laidByText := true, laidKinds := [.data, .pinned], laidTests := true, laidLooks := .later }
def UtfTextsUptoCardSaid : Prop := Claim7.holds Tryd.pinned (.plain (OpenSpec.upto utfTextsSpec)) utfTextsUptoCard

/-- THE SECOND FORM's CARD OF 'tympanlaw01.UtfRight'. -/
def utfRightUptoCard : Claim7 := { stood := { row := utfRightUptoRow, standIns := [], harness := (true, "ccf609b0f102a1466b6f8b787efbef1274272127e906a1d1faca0c8dfd3c2ce8"), looks := false }, kinds := [], alts := [], laidByText := true, laidKinds := [.data, .pinned], laidTests := true, laidLooks := .later }
def UtfRightUptoCardSaid : Prop := Claim7.holds Tryd.pinned (.plain (OpenSpec.upto utfRightSpec)) utfRightUptoCard

/-- THE SECOND FORM's CARD OF 'tympanlaw01.UtfLines'. -/
def utfLinesUptoCard : Claim7 := { stood := { row := utfLinesUptoRow, standIns := [], harness := (true, "ccf609b0f102a1466b6f8b787efbef1274272127e906a1d1faca0c8dfd3c2ce8"), looks := false }, kinds := [], alts := [], laidByText := true, laidKinds := [.data, .pinned], laidTests := true, laidLooks := .later }
def UtfLinesUptoCardSaid : Prop := Claim7.holds Tryd.pinned (.plain (OpenSpec.upto utfLinesSpec)) utfLinesUptoCard

/-- THE SECOND FORM's CARD OF 'tympanlaw01.UtfStays'. -/
def utfStaysUptoCard : Claim7 := { stood := { row := utfStaysUptoRow, standIns := [], harness := (true, "ccf609b0f102a1466b6f8b787efbef1274272127e906a1d1faca0c8dfd3c2ce8"), looks := false }, kinds := [], alts := [], laidByText := true, laidKinds := [.data, .pinned], laidTests := true, laidLooks := .later }
def UtfStaysUptoCardSaid : Prop := Claim7.holds Tryd.pinned (.plain (OpenSpec.upto utfStaysSpec)) utfStaysUptoCard

/-- THE SECOND FORM's CARD OF 'tympanlaw01.UtfEnds'. -/
def utfEndsUptoCard : Claim7 := { stood := { row := utfEndsUptoRow, standIns := [], harness := (true, "ccf609b0f102a1466b6f8b787efbef1274272127e906a1d1faca0c8dfd3c2ce8"), looks := false }, kinds := [], alts := [], laidByText := true, laidKinds := [.data, .pinned], laidTests := true, laidLooks := .later }
def UtfEndsUptoCardSaid : Prop := Claim7.holds Tryd.pinned (.plain (OpenSpec.upto utfEndsSpec)) utfEndsUptoCard

/-- THE SECOND FORM's CARD OF 'tympanlaw01.UtfLong'. -/
def utfLongUptoCard : Claim7 := { stood := { row := utfLongUptoRow, standIns := [], harness := (true, "ccf609b0f102a1466b6f8b787efbef1274272127e906a1d1faca0c8dfd3c2ce8"), looks := false }, kinds := [], alts := [], laidByText := true, laidKinds := [.data, .pinned], laidTests := true, laidLooks := .later }
def UtfLongUptoCardSaid : Prop := Claim7.holds Tryd.pinned (.plain (OpenSpec.upto utfLongSpec)) utfLongUptoCard

/-- THE SECOND FORM's CARD OF 'tympanlaw01.UtfOne'. -/
def utfOneUptoCard : Claim7 := { stood := { row := utfOneUptoRow, standIns := [], harness := (true, "ccf609b0f102a1466b6f8b787efbef1274272127e906a1d1faca0c8dfd3c2ce8"), looks := false }, kinds := [], alts := [], laidByText := true, laidKinds := [.data, .pinned], laidTests := true, laidLooks := .later }
def UtfOneUptoCardSaid : Prop := Claim7.holds Tryd.pinned (.plain (OpenSpec.upto utfOneSpec)) utfOneUptoCard
end Rows
end Go.Proofs.YtodponooeepilaaDoor
