/-
  DERIVED. GIVEN WITH THE SEED: THE CARDS: each row of YtpkicfcnhgnejaaDoorRows.lean that lists a variable, with what it lists TIED to the program's text (the seventh form; the later family's looks); each row that meets fmt, with fmt's text TOLD by the authors' own Lean function (tested against real Go, not proved from fmt's source: count such statements apart). THE CARD IS WHAT COUNTS. Prove the row's statement (the work); the ties are given (YtpkicfcnhgnejaaDoorTie.lean); close each card by the builder's one call (the guide's Derived/Test/ToyasCard.lean, 'card_holds'). Laid BY PROGRAM, IN A SANDBOX (cutbox-door.mjs). By AI agents, Wed Nov 11 2026. No macro, syntax, notation, axiom, sorry.
-/
import Derived.Test.YtpkicfcnhgnejaaDoorRows
import GoSem.ClaimSeven
namespace Go.Proofs.YtpkicfcnhgnejaaDoor
namespace Rows

/-- THE TIED CARD OF 'tympanlaw28.AutoFinds'. -/
def autoFindsCard : Claim7 := { stood := { row := autoFindsRow, standIns := [], harness := (true, "d5533c13e88872c6baa11bee4a4c10c0b7733d6e09397e48b68e94f7aa51545c"), looks := false }, kinds := [], alts := [], laidByText := true, laidKinds := [.data, .pinned], laidTests := true, laidLooks := .later }
def AutoFindsCardSaid : Prop := Claim7.holds Tryd.pinned (.plain (OpenSpec.ofChange autoFindsSpec)) autoFindsCard

/-- THE TIED CARD OF 'tympanlaw28.AutoNone'. -/
def autoNoneCard : Claim7 := { stood := { row := autoNoneRow, standIns := [], harness := (true, "d5533c13e88872c6baa11bee4a4c10c0b7733d6e09397e48b68e94f7aa51545c"), looks := false }, kinds := [], alts := [], laidByText := true, laidKinds := [.data, .pinned], laidTests := true, laidLooks := .later }
def AutoNoneCardSaid : Prop := Claim7.holds Tryd.pinned (.plain (OpenSpec.ofChange autoNoneSpec)) autoNoneCard

/-- THE SECOND FORM's CARD OF 'tympanlaw28.AutoFinds'. -/
def autoFindsUptoCard : Claim7 := { stood := { row := autoFindsUptoRow, standIns := [], harness := (true, "d5533c13e88872c6baa11bee4a4c10c0b7733d6e09397e48b68e94f7aa51545c"), looks := false }, kinds := [], alts := [], laidByText := true, laidKinds := [.data, .pinned], laidTests := true, laidLooks := .later }
def AutoFindsUptoCardSaid : Prop := Claim7.holds Tryd.pinned (.plain (OpenSpec.upto autoFindsSpec)) autoFindsUptoCard

/-- THE SECOND FORM's CARD OF 'tympanlaw28.AutoNone'. -/
def autoNoneUptoCard : Claim7 := { stood := { row := autoNoneUptoRow, standIns := [], harness := (true, "d5533c13e88872c6baa11bee4a4c10c0b7733d6e09397e48b68e94f7aa51545c"), looks := false }, kinds := [], alts := [], laidByText := true, laidKinds := [.data, .pinned], laidTests := true, laidLooks := .later }
def AutoNoneUptoCardSaid : Prop := Claim7.holds Tryd.pinned (.plain (OpenSpec.upto autoNoneSpec)) autoNoneUptoCard
end Rows
end Go.Proofs.YtpkicfcnhgnejaaDoor
