/-
  DERIVED. GIVEN WITH THE SEED: THE CARDS: each row of YtgpfanbjchieiaaDoorRows.lean that lists a variable, with what it lists TIED to the program's text (the seventh form; the later family's looks); each row that meets fmt, with fmt's text TOLD by the authors' own Lean function (tested against real Go, not proved from fmt's source: count such statements apart). THE CARD IS WHAT COUNTS. Prove the row's statement (the work); the ties are given (YtgpfanbjchieiaaDoorTie.lean); close each card by the builder's one call (the guide's Derived/Test/ToyasCard.lean, 'card_holds'). Laid BY PROGRAM, IN A SANDBOX (cutbox-door.mjs). By AI agents, Wed Nov 11 2026. No macro, syntax, notation, axiom, sorry.
-/
import Derived.Test.YtgpfanbjchieiaaDoorRows
import GoSem.ClaimSeven
namespace Go.Proofs.YtgpfanbjchieiaaDoor
namespace Rows

/-- THE TIED CARD OF 'tympanlaw27.StarsReads'. -/
def starsReadsCard : Claim7 := { stood := { row := starsReadsRow, standIns := [], harness := (true, "deae69003aed5757f7d209590eab6f8b66d3890b25514a471b31b49c529fe70f"), looks := false }, kinds := [], alts := [], laidByText := true, laidKinds := [.data, .pinned], laidTests := true, laidLooks := .later }
def StarsReadsCardSaid : Prop := Claim7.holds Tryd.pinned (.plain (OpenSpec.ofChange starsReadsSpec)) starsReadsCard

/-- THE TIED CARD OF 'tympanlaw27.StarsMatches'. -/
def starsMatchesCard : Claim7 := { stood := { row := starsMatchesRow, standIns := [], harness := (true, "deae69003aed5757f7d209590eab6f8b66d3890b25514a471b31b49c529fe70f"), looks := false }, kinds := [], alts := [], laidByText := true, laidKinds := [.data, .pinned], laidTests := true, laidLooks := .later }
def StarsMatchesCardSaid : Prop := Claim7.holds Tryd.pinned (.plain (OpenSpec.ofChange starsMatchesSpec)) starsMatchesCard

/-- THE TIED CARD OF 'tympanlaw27.StarsNest'. -/
def starsNestCard : Claim7 := { stood := { row := starsNestRow, standIns := [], harness := (true, "deae69003aed5757f7d209590eab6f8b66d3890b25514a471b31b49c529fe70f"), looks := false }, kinds := [], alts := [], laidByText := true, laidKinds := [.data, .pinned], laidTests := true, laidLooks := .later }
def StarsNestCardSaid : Prop := Claim7.holds Tryd.pinned (.plain (OpenSpec.ofChange starsNestSpec)) starsNestCard

/-- THE SECOND FORM's CARD OF 'tympanlaw27.StarsReads'. -/
def starsReadsUptoCard : Claim7 := { stood := { row := starsReadsUptoRow, standIns := [], harness := (true, "deae69003aed5757f7d209590eab6f8b66d3890b25514a471b31b49c529fe70f"), looks := false }, kinds := [], alts := [], laidByText := true, laidKinds := [.data, .pinned], laidTests := true, laidLooks := .later }
def StarsReadsUptoCardSaid : Prop := Claim7.holds Tryd.pinned (.plain (OpenSpec.upto starsReadsSpec)) starsReadsUptoCard

/-- THE SECOND FORM's CARD OF 'tympanlaw27.StarsMatches'. -/
def starsMatchesUptoCard : Claim7 := { stood := { row := starsMatchesUptoRow, standIns := [], harness := (true, "deae69003aed5757f7d209590eab6f8b66d3890b25514a471b31b49c529fe70f"), looks := false }, kinds := [], alts := [], laidByText := true, laidKinds := [.data, .pinned], laidTests := true, laidLooks := .later }
def StarsMatchesUptoCardSaid : Prop := Claim7.holds Tryd.pinned (.plain (OpenSpec.upto starsMatchesSpec)) starsMatchesUptoCard

/-- THE SECOND FORM's CARD OF 'tympanlaw27.StarsNest'. -/
def starsNestUptoCard : Claim7 := { stood := { row := starsNestUptoRow, standIns := [], harness := (true, "deae69003aed5757f7d209590eab6f8b66d3890b25514a471b31b49c529fe70f"), looks := false }, kinds := [], alts := [], laidByText := true, laidKinds := [.data, .pinned], laidTests := true, laidLooks := .later }
def StarsNestUptoCardSaid : Prop := Claim7.holds Tryd.pinned (.plain (OpenSpec.upto starsNestSpec)) starsNestUptoCard
end Rows
end Go.Proofs.YtgpfanbjchieiaaDoor
