/-
  DERIVED. GIVEN WITH THE SEED: THE CARDS: each row of YtjlphacnmonfnaaGreatDoorRows.lean that lists a variable, with what it lists TIED to the program's text (the seventh form; the later family's looks); each row that meets fmt, with fmt's text TOLD by the authors' own Lean function (tested against real Go, not proved from fmt's source: count such statements apart). THE CARD IS WHAT COUNTS. Prove the row's statement (the work); the ties are given (YtjlphacnmonfnaaGreatDoorTie.lean); close each card by the builder's one call (the guide's Derived/Test/ToyasCard.lean, 'card_holds'). Laid BY PROGRAM, IN A SANDBOX (cutbox-door.mjs). By AI agents, Wed Nov 11 2026. No macro, syntax, notation, axiom, sorry.
-/
import Derived.Test.YtjlphacnmonfnaaGreatDoorRows
import GoSem.ClaimSeven
namespace Go.Proofs.YtjlphacnmonfnaaGreatDoor
namespace Rows

/-- THE TIED CARD OF 'tidewracklaw16.DbNobody'. -/
def dbNobodyCard : Claim7 := { stood := { row := dbNobodyRow, standIns := [], harness := (true, "ad891169b7ac808e0e68130aadf5e714ea3d296ffafc4685cbc366254569df9c"), looks := true }, kinds := [], alts := [], laidByText := true, laidKinds := [.data, .data, .data, .data, .sentinel, .sentinel, .pinned], laidTests := true, laidLooks := .later }
def DbNobodyCardSaid : Prop := Claim7.holds Tryz.pinned (.plain (OpenSpec.ofChange dbNobodySpec)) dbNobodyCard

/-- THE SECOND FORM's CARD OF 'tidewracklaw16.DbNobody'. -/
def dbNobodyUptoCard : Claim7 := { stood := { row := dbNobodyUptoRow, standIns := [], harness := (true, "ad891169b7ac808e0e68130aadf5e714ea3d296ffafc4685cbc366254569df9c"), looks := true }, kinds := [], alts := [], laidByText := true, laidKinds := [.data, .data, .data, .data, .sentinel, .sentinel, .pinned], laidTests := true, laidLooks := .later }
def DbNobodyUptoCardSaid : Prop := Claim7.holds Tryz.pinned (.plain (OpenSpec.upto dbNobodySpec)) dbNobodyUptoCard
end Rows
end Go.Proofs.YtjlphacnmonfnaaGreatDoor
