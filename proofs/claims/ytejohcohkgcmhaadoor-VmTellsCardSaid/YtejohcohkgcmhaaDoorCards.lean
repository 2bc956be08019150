/-
  DERIVED. GIVEN WITH THE SEED: THE CARDS: each row of YtejohcohkgcmhaaDoorRows.lean that lists a variable, with what it lists TIED to the program's text (the seventh form; the later family's looks); each row that meets fmt, with fmt's text TOLD by the authors' own Lean function (tested against real Go, not proved from fmt's source: count such statements apart). THE CARD IS WHAT COUNTS. Prove the row's statement (the work); the ties are given (YtejohcohkgcmhaaDoorTie.lean); close each card by the builder's one call (the guide's Derived/Test/ToyasCard.lean, 'card_holds'). Laid BY PROGRAM, IN A SANDBOX (cutbox-door.mjs). By AI agents, Wed Nov 11 2026. No macro, syntax, notation, axiom, sorry.
-/
import Derived.Test.YtejohcohkgcmhaaDoorRows
import GoSem.ClaimSeven
namespace Go.Proofs.YtejohcohkgcmhaaDoor
namespace Rows

/-- THE TIED CARD OF 'zwlaw1.CellTells'. -/
def cellTellsCard : Claim7 := { stood := { row := cellTellsRow, standIns := [], harness := (true, "b6b450f5ce73b341c84012628f57d649379ed601c843de76a086356ab5d6be42"), looks := false }, kinds := [], alts := [], laidByText := true, laidKinds := [.data, .data, .data], laidTests := true, laidLooks := .later }
def CellTellsCardSaid : Prop := Claim7.holds Tryd.pinned (.plain (OpenSpec.ofChange cellTellsSpec)) cellTellsCard

/-- THE TIED CARD OF 'zwlaw1.CellCanon'. -/
def cellCanonCard : Claim7 := { stood := { row := cellCanonRow, standIns := [], harness := (true, "b6b450f5ce73b341c84012628f57d649379ed601c843de76a086356ab5d6be42"), looks := false }, kinds := [], alts := [], laidByText := true, laidKinds := [.data, .data, .data], laidTests := true, laidLooks := .later }
def CellCanonCardSaid : Prop := Claim7.holds Tryd.pinned (.plain (OpenSpec.ofChange cellCanonSpec)) cellCanonCard

/-- THE TIED CARD OF 'zwlaw1.CellMoved'. -/
def cellMovedCard : Claim7 := { stood := { row := cellMovedRow, standIns := [], harness := (true, "b6b450f5ce73b341c84012628f57d649379ed601c843de76a086356ab5d6be42"), looks := false }, kinds := [], alts := [], laidByText := true, laidKinds := [.data, .data, .data], laidTests := true, laidLooks := .later }
def CellMovedCardSaid : Prop := Claim7.holds Tryd.pinned (.plain (OpenSpec.ofChange cellMovedSpec)) cellMovedCard

/-- THE TIED CARD OF 'zwlaw7.VmTells'. -/
def vmTellsCard : Claim7 := { stood := { row := vmTellsRow, standIns := [], harness := (true, "b6b450f5ce73b341c84012628f57d649379ed601c843de76a086356ab5d6be42"), looks := false }, kinds := [], alts := [], laidByText := true, laidKinds := [.data, .data, .data], laidTests := true, laidLooks := .later }
def VmTellsCardSaid : Prop := Claim7.holds Tryd.pinned (.plain (OpenSpec.ofChange vmTellsSpec)) vmTellsCard

/-- THE SECOND FORM's CARD OF 'zwlaw1.CellTells'. -/
def cellTellsUptoCard : Claim7 := { stood := { row := cellTellsUptoRow, standIns := [], harness := (true, "b6b450f5ce73b341c84012628f57d649379ed601c843de76a086356ab5d6be42"), looks := false }, kinds := [], alts := [], laidByText := true, laidKinds := [.data, .data, .data], laidTests := true, laidLooks := .later }
def CellTellsUptoCardSaid : Prop := Claim7.holds Tryd.pinned (.plain (OpenSpec.upto cellTellsSpec)) cellTellsUptoCard

/-- THE SECOND FORM's CARD OF 'zwlaw1.CellCanon'. -/
def cellCanonUptoCard : Claim7 := { stood := { row := cellCanonUptoRow, standIns := [], harness := (true, "b6b450f5ce73b341c84012628f57d649379ed601c843de76a086356ab5d6be42"), looks := false }, kinds := [], alts := [], laidByText := true, laidKinds := [.data, .data, .data], laidTests := true, laidLooks := .later }
def CellCanonUptoCardSaid : Prop := Claim7.holds Tryd.pinned (.plain (OpenSpec.upto cellCanonSpec)) cellCanonUptoCard

/-- THE SECOND FORM's CARD OF 'zwlaw1.CellMoved'. -/
def cellMovedUptoCard : Claim7 := { stood := { row := cellMovedUptoRow, standIns := [], harness := (true, "b6b450f5ce73b341c84012628f57d649379ed601c843de76a086356ab5d6be42"), looks := false }, kinds := [], alts := [], laidByText := true, laidKinds := [.data, .data, .data], laidTests := true, laidLooks := .later }
def CellMovedUptoCardSaid : Prop := Claim7.holds Tryd.pinned (.plain (OpenSpec.upto cellMovedSpec)) cellMovedUptoCard

/-- THE SECOND FORM's CARD OF 'zwlaw7.VmTells'. -/
def vmTellsUptoCard : Claim7 := { stood := { row := vmTellsUptoRow, standIns := [], harness := (true, "b6b450f5ce73b341c84012628f57d649379ed601c843de76a086356ab5d6be42"), looks := false }, kinds := [], alts := [], laidByText := true, laidKinds := [.data, .data, .data], laidTests := true, laidLooks := .later }
def VmTellsUptoCardSaid : Prop := Claim7.holds Tryd.pinned (.plain (OpenSpec.upto vmTellsSpec)) vmTellsUptoCard
end Rows
end Go.Proofs.YtejohcohkgcmhaaDoor
