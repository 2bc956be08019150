/-
  DERIVED. GIVEN WITH THE SEED: THE CARDS: each row of YtiinnjjmoifoeaaGreatDoorRows.lean that lists a variable, with what it lists TIED to the program's text (the seventh form; the later family's looks); each row that meets fmt, with fmt's text TOLD by the authors' own Lean function (tested against real Go, not proved from fmt's source: count such statements apart). THE CARD IS WHAT COUNTS. Prove the row's statement (the work); the ties are given (YtiinnjjmoifoeaaGreatDoorTie.lean); close each card by the builder's one call (the guide's Derived/Test/ToyasCard.lean, 'card_holds'). Laid BY PROGRAM, IN A SANDBOX (cutbox-door.mjs). By AI agents, Wed Nov 11 2026. No macro, syntax, notation, axiom, sorry.
-/
import Derived.Test.YtiinnjjmoifoeaaGreatDoorRows
import GoSem.ClaimSeven
namespace Go.Proofs.YtiinnjjmoifoeaaGreatDoor
namespace Rows

/-- THE TIED CARD OF 'zwlaw10.TripTurns'. -/
def tripTurnsCard : Claim7 := { stood := { row := tripTurnsRow, standIns := [], harness := (true, "b2a4cc690185fd922276f75bf1da54837bdbad3169254a3230a5b8f29685192e"), looks := true }, kinds := [], alts := [], laidByText := true, laidKinds := [.data, .data, .data, .sentinel, .sentinel], laidTests := true, laidLooks := .later }
def TripTurnsCardSaid : Prop := Claim7.holds Tryz.pinned (.plain (OpenSpec.ofChange tripTurnsSpec)) tripTurnsCard

/-- THE TIED CARD OF 'zwlaw10.TripTwice'. -/
def tripTwiceCard : Claim7 := { stood := { row := tripTwiceRow, standIns := [], harness := (true, "b2a4cc690185fd922276f75bf1da54837bdbad3169254a3230a5b8f29685192e"), looks := true }, kinds := [], alts := [], laidByText := true, laidKinds := [.data, .data, .data, .sentinel, .sentinel], laidTests := true, laidLooks := .later }
def TripTwiceCardSaid : Prop := Claim7.holds Tryz.pinned (.plain (OpenSpec.ofChange tripTwiceSpec)) tripTwiceCard

/-- THE TIED CARD OF 'zwlaw10.TripRoom'. -/
def tripRoomCard : Claim7 := { stood := { row := tripRoomRow, standIns := [], harness := (true, "b2a4cc690185fd922276f75bf1da54837bdbad3169254a3230a5b8f29685192e"), looks := true }, kinds := [], alts := [], laidByText := true, laidKinds := [.data, .data, .data, .sentinel, .sentinel], laidTests := true, laidLooks := .later }
def TripRoomCardSaid : Prop := Claim7.holds Tryz.pinned (.plain (OpenSpec.ofChange tripRoomSpec)) tripRoomCard

/-- THE SECOND FORM's CARD OF 'zwlaw10.TripTurns'. -/
def tripTurnsUptoCard : Claim7 := { stood := { row := tripTurnsUptoRow, standIns := [], harness := (true, "b2a4cc690185fd922276f75bf1da54837bdbad3169254a3230a5b8f29685192e"), looks := true }, kinds := [], alts := [], laidByText := true, laidKinds := [.data, .data, .data, .sentinel, .sentinel], laidTests := true, laidLooks := .later }
def TripTurnsUptoCardSaid : Prop := Claim7.holds Tryz.pinned (.plain (OpenSpec.upto tripTurnsSpec)) tripTurnsUptoCard

/-- THE SECOND FORM's CARD OF 'zwlaw10.TripTwice'. -/
def tripTwiceUptoCard : Claim7 := { stood := { row := tripTwiceUptoRow, standIns := [], harness := (true, "b2a4cc690185fd922276f75bf1da54837bdbad3169254a3230a5b8f29685192e"), looks := true }, kinds := [], alts := [], laidByText := true, laidKinds := [.data, .data, .data, .sentinel, .sentinel], laidTests := true, laidLooks := .later }
def TripTwiceUptoCardSaid : Prop := Claim7.holds Tryz.pinned (.plain (OpenSpec.upto tripTwiceSpec)) tripTwiceUptoCard

/-- THE SECOND FORM's CARD OF 'zwlaw10.TripRoom'. -/
def tripRoomUptoCard : Claim7 := { stood := { row := tripRoomUptoRow, standIns := [], harness := (true, "b2a4cc690185fd922276f75bf1da54837bdbad3169254a3230a5b8f29685192e"), looks := true }, kinds := [], alts := [], laidByText := true, laidKinds := [.data, .data, .data, .sentinel, .sentinel], laidTests := true, laidLooks := .later }
def TripRoomUptoCardSaid : Prop := Claim7.holds Tryz.pinned (.plain (OpenSpec.upto tripRoomSpec)) tripRoomUptoCard
end Rows
end Go.Proofs.YtiinnjjmoifoeaaGreatDoor
