/-
  DERIVED. GIVEN WITH THE SEED: THE CARDS: each row of YtdmibdjokofclaaGreatDoorRows.lean that lists a variable, with what it lists TIED to the program's text (the seventh form; the later family's looks); each row that meets fmt, with fmt's text TOLD by the authors' own Lean function (tested against real Go, not proved from fmt's source: count such statements apart). THE CARD IS WHAT COUNTS. Prove the row's statement (the work); the ties are given (YtdmibdjokofclaaGreatDoorTie.lean); close each card by the builder's one call (the guide's Derived/Test/ToyasCard.lean, 'card_holds'). Laid BY PROGRAM, IN A SANDBOX (cutbox-door.mjs). By AI agents, Wed Nov 11 2026. No macro, syntax, notation, axiom, sorry.
-/
import Derived.Test.YtdmibdjokofclaaGreatDoorRows
import GoSem.ClaimSeven
namespace Go.Proofs.YtdmibdjokofclaaGreatDoor
namespace Rows

/-- THE TIED CARD OF 'zwlaw9.AloneFuel'. -/
def aloneFuelCard : Claim7 := { stood := { row := aloneFuelRow, standIns := [], harness := (true, "f279886eb686ad44659b7a3dd03f794512c81a638ed71da7c18291fd665d23df"), looks := true }, kinds := [], alts := [], laidByText := true, laidKinds := [.data, .data, .data, .sentinel, .sentinel], laidTests := true, laidLooks := .later }
def AloneFuelCardSaid : Prop := Claim7.holds Tryz.pinned (.plain (OpenSpec.ofChange aloneFuelSpec)) aloneFuelCard

/-- THE TIED CARD OF 'zwlaw9.AloneHome'. -/
def aloneHomeCard : Claim7 := { stood := { row := aloneHomeRow, standIns := [], harness := (true, "f279886eb686ad44659b7a3dd03f794512c81a638ed71da7c18291fd665d23df"), looks := true }, kinds := [], alts := [], laidByText := true, laidKinds := [.data, .data, .data, .sentinel, .sentinel], laidTests := true, laidLooks := .later }
def AloneHomeCardSaid : Prop := Claim7.holds Tryz.pinned (.plain (OpenSpec.ofChange aloneHomeSpec)) aloneHomeCard

/-- THE SECOND FORM's CARD OF 'zwlaw9.AloneFuel'. -/
def aloneFuelUptoCard : Claim7 := { stood := { row := aloneFuelUptoRow, standIns := [], harness := (true, "f279886eb686ad44659b7a3dd03f794512c81a638ed71da7c18291fd665d23df"), looks := true }, kinds := [], alts := [], laidByText := true, laidKinds := [.data, .data, .data, .sentinel, .sentinel], laidTests := true, laidLooks := .later }
def AloneFuelUptoCardSaid : Prop := Claim7.holds Tryz.pinned (.plain (OpenSpec.upto aloneFuelSpec)) aloneFuelUptoCard

/-- THE SECOND FORM's CARD OF 'zwlaw9.AloneHome'. -/
def aloneHomeUptoCard : Claim7 := { stood := { row := aloneHomeUptoRow, standIns := [], harness := (true, "f279886eb686ad44659b7a3dd03f794512c81a638ed71da7c18291fd665d23df"), looks := true }, kinds := [], alts := [], laidByText := true, laidKinds := [.data, .data, .data, .sentinel, .sentinel], laidTests := true, laidLooks := .later }
def AloneHomeUptoCardSaid : Prop := Claim7.holds Tryz.pinned (.plain (OpenSpec.upto aloneHomeSpec)) aloneHomeUptoCard
end Rows
end Go.Proofs.YtdmibdjokofclaaGreatDoor
