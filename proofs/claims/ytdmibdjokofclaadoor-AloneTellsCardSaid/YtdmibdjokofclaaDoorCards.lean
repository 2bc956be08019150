/-
  DERIVED. GIVEN WITH THE SEED: THE CARDS: each row of YtdmibdjokofclaaDoorRows.lean that lists a variable, with what it lists TIED to the program's text (the seventh form; the later family's looks); each row that meets fmt, with fmt's text TOLD by the authors' own Lean function (tested against real Go, not proved from fmt's source: count such statements apart). THE CARD IS WHAT COUNTS. Prove the row's statement (the work); the ties are given (YtdmibdjokofclaaDoorTie.lean); close each card by the builder's one call (the guide's Derived/Test/ToyasCard.lean, 'card_holds'). Laid BY PROGRAM, IN A SANDBOX (cutbox-door.mjs). By AI agents, Wed Nov 11 2026. No macro, syntax, notation, axiom, sorry.
-/
import Derived.Test.YtdmibdjokofclaaDoorRows
import GoSem.ClaimSeven
namespace Go.Proofs.YtdmibdjokofclaaDoor
namespace Rows

/-- THE TIED CARD OF 'zwlaw9.AloneTells'. -/
def aloneTellsCard : Claim7 := { stood := { row := aloneTellsRow, standIns := [], harness := (true, "4e62a96edf0ec7843a2a62b5d78477698f804561fdea4f1b0164216ec86f1c15"), looks := false }, kinds := [], alts := [], laidByText := true, laidKinds := [.data, .data, .data], laidTests := true, laidLooks := .later }
def AloneTellsCardSaid : Prop := Claim7.holds Tryd.pinned (.plain (OpenSpec.ofChange aloneTellsSpec)) aloneTellsCard

/-- THE SECOND FORM's CARD OF 'zwlaw9.AloneTells'. -/
def aloneTellsUptoCard : Claim7 := { stood := { row := aloneTellsUptoRow, standIns := [], harness := (true, "4e62a96edf0ec7843a2a62b5d78477698f804561fdea4f1b0164216ec86f1c15"), looks := false }, kinds := [], alts := [], laidByText := true, laidKinds := [.data, .data, .data], laidTests := true, laidLooks := .later }
def AloneTellsUptoCardSaid : Prop := Claim7.holds Tryd.pinned (.plain (OpenSpec.upto aloneTellsSpec)) aloneTellsUptoCard
end Rows
end Go.Proofs.YtdmibdjokofclaaDoor
