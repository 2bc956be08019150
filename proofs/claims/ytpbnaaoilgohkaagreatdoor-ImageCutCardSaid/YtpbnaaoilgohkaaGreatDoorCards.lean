/-
  DERIVED. GIVEN WITH THE SEED: THE CARDS: each row of YtpbnaaoilgohkaaGreatDoorRows.lean that lists a variable, with what it lists TIED to the program's text (the seventh form; the later family's looks); each row that meets fmt, with fmt's text TOLD by the authors' own Lean function (tested against real Go, not proved from fmt's source: count such statements apart). THE CARD IS WHAT COUNTS. Prove the row's statement (the work); the ties are given (YtpbnaaoilgohkaaGreatDoorTie.lean); close each card by the builder's one call (the guide's Derived/Test/ToyasCard.lean, 'card_holds'). Laid BY PROGRAM, IN A SANDBOX (cutbox-door.mjs). By AI agents, Wed Nov 11 2026. No macro, syntax, notation, axiom, sorry.
-/
import Derived.Test.YtpbnaaoilgohkaaGreatDoorRows
import GoSem.ClaimSeven
namespace Go.Proofs.YtpbnaaoilgohkaaGreatDoor
namespace Rows

/-- THE TIED CARD OF 'zwlaw8.ImageTurns'. -/
def imageTurnsCard : Claim7 := { stood := { row := imageTurnsRow, standIns := [], harness := (true, "86a6c116e1bc183088924b2a9ebbd009b51b90d32c02276b3a5c1acbb5b4d6fd"), looks := true }, kinds := [], alts := [], laidByText := true, laidKinds := [.data, .data, .data, .sentinel, .sentinel], laidTests := true, laidLooks := .later }
def ImageTurnsCardSaid : Prop := Claim7.holds Tryz.pinned (.plain (OpenSpec.ofChange imageTurnsSpec)) imageTurnsCard

/-- THE TIED CARD OF 'zwlaw8.ImageAlike'. -/
def imageAlikeCard : Claim7 := { stood := { row := imageAlikeRow, standIns := [], harness := (true, "86a6c116e1bc183088924b2a9ebbd009b51b90d32c02276b3a5c1acbb5b4d6fd"), looks := true }, kinds := [], alts := [], laidByText := true, laidKinds := [.data, .data, .data, .sentinel, .sentinel], laidTests := true, laidLooks := .later }
def ImageAlikeCardSaid : Prop := Claim7.holds Tryz.pinned (.plain (OpenSpec.ofChange imageAlikeSpec)) imageAlikeCard

/-- THE TIED CARD OF 'zwlaw8.ImageCut'. -/
def imageCutCard : Claim7 := { stood := { row := imageCutRow, standIns := [], harness := (true, "86a6c116e1bc183088924b2a9ebbd009b51b90d32c02276b3a5c1acbb5b4d6fd"), looks := true }, kinds := [], alts := [], laidByText := true, laidKinds := [.data, .data, .data, .sentinel, .sentinel], laidTests := true, laidLooks := .later }
def ImageCutCardSaid : Prop := Claim7.holds Tryz.pinned (.plain (OpenSpec.ofChange imageCutSpec)) imageCutCard

/-- THE SECOND FORM's CARD OF 'zwlaw8.ImageTurns'. -/
def imageTurnsUptoCard : Claim7 := { stood := { row := imageTurnsUptoRow, standIns := [], harness := (true, "86a6c116e1bc183088924b2a9ebbd009b51b90d32c02276b3a5c1acbb5b4d6fd"), looks := true }, kinds := [], alts := [], laidByText := true, laidKinds := [.data, .data, .data, .sentinel, .sentinel], laidTests := true, laidLooks := .later }
def ImageTurnsUptoCardSaid : Prop := Claim7.holds Tryz.pinned (.plain (OpenSpec.upto imageTurnsSpec)) imageTurnsUptoCard

/-- THE SECOND FORM's CARD OF 'zwlaw8.ImageAlike'. -/
def imageAlikeUptoCard : Claim7 := { stood := { row := imageAlikeUptoRow, standIns := [], harness := (true, "86a6c116e1bc183088924b2a9ebbd009b51b90d32c02276b3a5c1acbb5b4d6fd"), looks := true }, kinds := [], alts := [], laidByText := true, laidKinds := [.data, .data, .data, .sentinel, .sentinel], laidTests := true, laidLooks := .later }
def ImageAlikeUptoCardSaid : Prop := Claim7.holds Tryz.pinned (.plain (OpenSpec.upto imageAlikeSpec)) imageAlikeUptoCard

/-- THE SECOND FORM's CARD OF 'zwlaw8.ImageCut'. -/
def imageCutUptoCard : Claim7 := { stood := { row := imageCutUptoRow, standIns := [], harness := (true, "86a6c116e1bc183088924b2a9ebbd009b51b90d32c02276b3a5c1acbb5b4d6fd"), looks := true }, kinds := [], alts := [], laidByText := true, laidKinds := [.data, .data, .data, .sentinel, .sentinel], laidTests := true, laidLooks := .later }
def ImageCutUptoCardSaid : Prop := Claim7.holds Tryz.pinned (.plain (OpenSpec.upto imageCutSpec)) imageCutUptoCard
end Rows
end Go.Proofs.YtpbnaaoilgohkaaGreatDoor
