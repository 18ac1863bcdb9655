/-
  DERIVED. GIVEN WITH THE SEED: THE CARDS: each row of YtmnffigepjgnhaaGreatDoorRows.lean that lists a variable, with what it lists TIED to the program's text (the seventh form; the later family's looks); each row that meets fmt, with fmt's text TOLD by the authors' own Lean function (tested against real Go, not proved from fmt's source: count such statements apart). THE CARD IS WHAT COUNTS. Prove the row's statement (the work); the ties are given (YtmnffigepjgnhaaGreatDoorTie.lean); close each card by the builder's one call (the guide's Derived/Test/ToyasCard.lean, 'card_holds'). Laid BY PROGRAM, IN A SANDBOX (cutbox-door.mjs). By AI agents, Wed Nov 11 2026. No macro, syntax, notation, axiom, sorry.
-/
import Derived.Test.YtmnffigepjgnhaaGreatDoorRows
import GoSem.ClaimSeven
namespace Go.Proofs.YtmnffigepjgnhaaGreatDoor
namespace Rows

/-- THE TIED CARD OF 'iceboxlaw26.StoreMay'. -/
def storeMayCard : Claim7 := { stood := { row := storeMayRow, standIns := [], harness := (true, "d4b2ef868cc4759a8e9067a0295112093424b5a5a6508bdd90e5ecc198e26de9"), looks := true }, kinds := [], alts := [], laidByText := true, laidKinds := [.data, .data, .data, .sentinel, .sentinel], laidTests := true, laidLooks := .later }
def StoreMayCardSaid : Prop := Claim7.holds Tryz.pinned (.plain (OpenSpec.ofChange storeMaySpec)) storeMayCard

/-- THE TIED CARD OF 'iceboxlaw26.StoreMany'. -/
def storeManyCard : Claim7 := { stood := { row := storeManyRow, standIns := [], harness := (true, "d4b2ef868cc4759a8e9067a0295112093424b5a5a6508bdd90e5ecc198e26de9"), looks := true }, kinds := [], alts := [], laidByText := true, laidKinds := [.data, .data, .data, .sentinel, .sentinel], laidTests := true, laidLooks := .later }
def StoreManyCardSaid : Prop := Claim7.holds Tryz.pinned (.plain (OpenSpec.ofChange storeManySpec)) storeManyCard

/-- THE SECOND FORM's CARD OF 'iceboxlaw26.StoreMay'. -/
def storeMayUptoCard : Claim7 := { stood := { row := storeMayUptoRow, standIns := [], harness := (true, "d4b2ef868cc4759a8e9067a0295112093424b5a5a6508bdd90e5ecc198e26de9"), looks := true }, kinds := [], alts := [], laidByText := true, laidKinds := [.data, .data, .data, .sentinel, .sentinel], laidTests := true, laidLooks := .later }
def StoreMayUptoCardSaid : Prop := Claim7.holds Tryz.pinned (.plain (OpenSpec.upto storeMaySpec)) storeMayUptoCard

/-- THE SECOND FORM's CARD OF 'iceboxlaw26.StoreMany'. -/
def storeManyUptoCard : Claim7 := { stood := { row := storeManyUptoRow, standIns := [], harness := (true, "d4b2ef868cc4759a8e9067a0295112093424b5a5a6508bdd90e5ecc198e26de9"), looks := true }, kinds := [], alts := [], laidByText := true, laidKinds := [.data, .data, .data, .sentinel, .sentinel], laidTests := true, laidLooks := .later }
def StoreManyUptoCardSaid : Prop := Claim7.holds Tryz.pinned (.plain (OpenSpec.upto storeManySpec)) storeManyUptoCard
end Rows
end Go.Proofs.YtmnffigepjgnhaaGreatDoor
