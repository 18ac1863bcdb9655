/-
  DERIVED. GIVEN WITH THE SEED: THE CARDS: each row of YtmeknmnimalndaaGreatDoorRows.lean that lists a variable, with what it lists TIED to the program's text (the seventh form; the later family's looks); each row that meets fmt, with fmt's text TOLD by the authors' own Lean function (tested against real Go, not proved from fmt's source: count such statements apart). THE CARD IS WHAT COUNTS. Prove the row's statement (the work); the ties are given (YtmeknmnimalndaaGreatDoorTie.lean); close each card by the builder's one call (the guide's Derived/Test/ToyasCard.lean, 'card_holds'). Laid BY PROGRAM, IN A SANDBOX (cutbox-door.mjs). By AI agents, Wed Nov 11 2026. No macro, syntax, notation, axiom, sorry.
-/
import Derived.Test.YtmeknmnimalndaaGreatDoorRows
import GoSem.ClaimSeven
namespace Go.Proofs.YtmeknmnimalndaaGreatDoor
namespace Rows

/-- THE TIED CARD OF 'iceboxlaw28.DriveNil'. -/
def driveNilCard : Claim7 := { stood := { row := driveNilRow, standIns := [], harness := (true, "022a3bfa0bd10f373664e9e63a2b78f789c45aafed0ce99392019c4312d0e0c1"), looks := true }, kinds := [], alts := [], laidByText := true, laidKinds := [.data, .data, .data, .sentinel, .sentinel], laidTests := true, laidLooks := .later }
def DriveNilCardSaid : Prop := Claim7.holds Tryz.pinned (.plain (OpenSpec.ofChange driveNilSpec)) driveNilCard

/-- THE SECOND FORM's CARD OF 'iceboxlaw28.DriveNil'. -/
def driveNilUptoCard : Claim7 := { stood := { row := driveNilUptoRow, standIns := [], harness := (true, "022a3bfa0bd10f373664e9e63a2b78f789c45aafed0ce99392019c4312d0e0c1"), looks := true }, kinds := [], alts := [], laidByText := true, laidKinds := [.data, .data, .data, .sentinel, .sentinel], laidTests := true, laidLooks := .later }
def DriveNilUptoCardSaid : Prop := Claim7.holds Tryz.pinned (.plain (OpenSpec.upto driveNilSpec)) driveNilUptoCard
end Rows
end Go.Proofs.YtmeknmnimalndaaGreatDoor
