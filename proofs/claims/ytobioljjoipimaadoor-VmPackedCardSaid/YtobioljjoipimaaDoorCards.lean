/-
  DERIVED. GIVEN WITH THE SEED: THE CARDS: each row of YtobioljjoipimaaDoorRows.lean that lists a variable, with what it lists TIED to the program's text (the seventh form; the later family's looks); each row that meets fmt, with fmt's text TOLD by the authors' own Lean function (tested against real Go, not proved from fmt's source: count such statements apart). THE CARD IS WHAT COUNTS. Prove the row's statement (the work); the ties are given (YtobioljjoipimaaDoorTie.lean); close each card by the builder's one call (the guide's Derived/Test/ToyasCard.lean, 'card_holds'). Laid BY PROGRAM, IN A SANDBOX (cutbox-door.mjs). By AI agents, Wed Nov 11 2026. No macro, syntax, notation, axiom, sorry.
-/
import Derived.Test.YtobioljjoipimaaDoorRows
import GoSem.ClaimSeven
namespace Go.Proofs.YtobioljjoipimaaDoor
namespace Rows

/-- THE TIED CARD OF 'zwlaw5.CodeTells'. -/
def codeTellsCard : Claim7 := { stood := { row := codeTellsRow, standIns := [], harness := (true, "c8bdedd89f4c339a51ac7f05ab3324e39203106de30bd4f21c5334f88d5f4cba"), looks := true }, kinds := [], alts := [], laidByText := true, laidKinds := [.data, .data, .data, .sentinel, .sentinel], laidTests := true, laidLooks := .later }
def CodeTellsCardSaid : Prop := Claim7.holds Tryd.pinned (.plain (OpenSpec.ofChange codeTellsSpec)) codeTellsCard

/-- THE TIED CARD OF 'zwlaw6.VerifyRuns'. -/
def verifyRunsCard : Claim7 := { stood := { row := verifyRunsRow, standIns := [], harness := (true, "c8bdedd89f4c339a51ac7f05ab3324e39203106de30bd4f21c5334f88d5f4cba"), looks := true }, kinds := [], alts := [], laidByText := true, laidKinds := [.data, .data, .data, .sentinel, .sentinel], laidTests := true, laidLooks := .later }
def VerifyRunsCardSaid : Prop := Claim7.holds Tryd.pinned (.plain (OpenSpec.ofChange verifyRunsSpec)) verifyRunsCard

/-- THE TIED CARD OF 'zwlaw6.VerifyBegins'. -/
def verifyBeginsCard : Claim7 := { stood := { row := verifyBeginsRow, standIns := [], harness := (true, "c8bdedd89f4c339a51ac7f05ab3324e39203106de30bd4f21c5334f88d5f4cba"), looks := true }, kinds := [], alts := [], laidByText := true, laidKinds := [.data, .data, .data, .sentinel, .sentinel], laidTests := true, laidLooks := .later }
def VerifyBeginsCardSaid : Prop := Claim7.holds Tryd.pinned (.plain (OpenSpec.ofChange verifyBeginsSpec)) verifyBeginsCard

/-- THE TIED CARD OF 'zwlaw7.VmParts'. -/
def vmPartsCard : Claim7 := { stood := { row := vmPartsRow, standIns := [], harness := (true, "c8bdedd89f4c339a51ac7f05ab3324e39203106de30bd4f21c5334f88d5f4cba"), looks := true }, kinds := [], alts := [], laidByText := true, laidKinds := [.data, .data, .data, .sentinel, .sentinel], laidTests := true, laidLooks := .later }
def VmPartsCardSaid : Prop := Claim7.holds Tryd.pinned (.plain (OpenSpec.ofChange vmPartsSpec)) vmPartsCard

/-- THE TIED CARD OF 'zwlaw7.VmPacked'. -/
def vmPackedCard : Claim7 := { stood := { row := vmPackedRow, standIns := [], harness := (true, "c8bdedd89f4c339a51ac7f05ab3324e39203106de30bd4f21c5334f88d5f4cba"), looks := true }, kinds := [], alts := [], laidByText := true, laidKinds := [.data, .data, .data, .sentinel, .sentinel], laidTests := true, laidLooks := .later }
def VmPackedCardSaid : Prop := Claim7.holds Tryd.pinned (.plain (OpenSpec.ofChange vmPackedSpec)) vmPackedCard

/-- THE TIED CARD OF 'zwlaw7.VmSpends'. -/
def vmSpendsCard : Claim7 := { stood := { row := vmSpendsRow, standIns := [], harness := (true, "c8bdedd89f4c339a51ac7f05ab3324e39203106de30bd4f21c5334f88d5f4cba"), looks := true }, kinds := [], alts := [], laidByText := true, laidKinds := [.data, .data, .data, .sentinel, .sentinel], laidTests := true, laidLooks := .later }
def VmSpendsCardSaid : Prop := Claim7.holds Tryd.pinned (.plain (OpenSpec.ofChange vmSpendsSpec)) vmSpendsCard

/-- THE SECOND FORM's CARD OF 'zwlaw5.CodeTells'. -/
def codeTellsUptoCard : Claim7 := { stood := { row := codeTellsUptoRow, standIns := [], harness := (true, "c8bdedd89f4c339a51ac7f05ab3324e39203106de30bd4f21c5334f88d5f4cba"), looks := true }, kinds := [], alts := [], laidByText := true, laidKinds := [.data, .data, .data, .sentinel, .sentinel], laidTests := true, laidLooks := .later }
def CodeTellsUptoCardSaid : Prop := Claim7.holds Tryd.pinned (.plain (OpenSpec.upto codeTellsSpec)) codeTellsUptoCard

/-- THE SECOND FORM's CARD OF 'zwlaw6.VerifyRuns'. -/
def verifyRunsUptoCard : Claim7 := { stood := { row := verifyRunsUptoRow, standIns := [], harness := (true, "c8bdedd89f4c339a51ac7f05ab3324e39203106de30bd4f21c5334f88d5f4cba"), looks := true }, kinds := [], alts := [], laidByText := true, laidKinds := [.data, .data, .data, .sentinel, .sentinel], laidTests := true, laidLooks := .later }
def VerifyRunsUptoCardSaid : Prop := Claim7.holds Tryd.pinned (.plain (OpenSpec.upto verifyRunsSpec)) verifyRunsUptoCard

/-- THE SECOND FORM's CARD OF 'zwlaw6.VerifyBegins'. -/
def verifyBeginsUptoCard : Claim7 := { stood := { row := verifyBeginsUptoRow, standIns := [], harness := (true, "c8bdedd89f4c339a51ac7f05ab3324e39203106de30bd4f21c5334f88d5f4cba"), looks := true }, kinds := [], alts := [], laidByText := true, laidKinds := [.data, .data, .data, .sentinel, .sentinel], laidTests := true, laidLooks := .later }
def VerifyBeginsUptoCardSaid : Prop := Claim7.holds Tryd.pinned (.plain (OpenSpec.upto verifyBeginsSpec)) verifyBeginsUptoCard

/-- THE SECOND FORM's CARD OF 'zwlaw7.VmParts'. -/
def vmPartsUptoCard : Claim7 := { stood := { row := vmPartsUptoRow, standIns := [], harness := (true, "c8bdedd89f4c339a51ac7f05ab3324e39203106de30bd4f21c5334f88d5f4cba"), looks := true }, kinds := [], alts := [], laidByText := true, laidKinds := [.data, .data, .data, .sentinel, .sentinel], laidTests := true, laidLooks := .later }
def VmPartsUptoCardSaid : Prop := Claim7.holds Tryd.pinned (.plain (OpenSpec.upto vmPartsSpec)) vmPartsUptoCard

/-- THE SECOND FORM's CARD OF 'zwlaw7.VmPacked'. -/
def vmPackedUptoCard : Claim7 := { stood := { row := vmPackedUptoRow, standIns := [], harness := (true, "c8bdedd89f4c339a51ac7f05ab3324e39203106de30bd4f21c5334f88d5f4cba"), looks := true }, kinds := [], alts := [], laidByText := true, laidKinds := [.data, .data, .data, .sentinel, .sentinel], laidTests := true, laidLooks := .later }
def VmPackedUptoCardSaid : Prop := Claim7.holds Tryd.pinned (.plain (OpenSpec.upto vmPackedSpec)) vmPackedUptoCard

/-- THE SECOND FORM's CARD OF 'zwlaw7.VmSpends'. -/
def vmSpendsUptoCard : Claim7 := { stood := { row := vmSpendsUptoRow, standIns := [], harness := (true, "c8bdedd89f4c339a51ac7f05ab3324e39203106de30bd4f21c5334f88d5f4cba"), looks := true }, kinds := [], alts := [], laidByText := true, laidKinds := [.data, .data, .data, .sentinel, .sentinel], laidTests := true, laidLooks := .later }
def VmSpendsUptoCardSaid : Prop := Claim7.holds Tryd.pinned (.plain (OpenSpec.upto vmSpendsSpec)) vmSpendsUptoCard
end Rows
end Go.Proofs.YtobioljjoipimaaDoor
