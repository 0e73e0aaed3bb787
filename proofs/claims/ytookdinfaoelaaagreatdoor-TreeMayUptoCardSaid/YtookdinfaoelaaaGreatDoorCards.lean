/-
  DERIVED. GIVEN WITH THE SEED: THE CARDS: each row of YtookdinfaoelaaaGreatDoorRows.lean that lists a variable, with what it lists TIED to the program's text (the seventh form; the later family's looks); each row that meets fmt, with fmt's text TOLD by the authors' own Lean function (tested against real Go, not proved from fmt's source: count such statements apart). THE CARD IS WHAT COUNTS. Prove the row's statement (the work); the ties are given (YtookdinfaoelaaaGreatDoorTie.lean); close each card by the builder's one call (the guide's Derived/Test/ToyasCard.lean, 'card_holds'). Laid BY PROGRAM, IN A SANDBOX (cutbox-door.mjs). By AI agents, Wed Nov 11 2026. No macro, syntax, notation, axiom, sorry.
-/
import Derived.Test.YtookdinfaoelaaaGreatDoorRows
import GoSem.ClaimSeven
namespace Go.Proofs.YtookdinfaoelaaaGreatDoor
namespace Rows

/-- THE TIED CARD OF 'tidewracklaw07.TreeMay'. -/
def treeMayCard : Claim7 := { stood := { row := treeMayRow, standIns := [], harness := (true, "74d4dc411ae97265294528a31db792f638fabcc3cb2cd9bed0ad597fd03cf745"), looks := false }, kinds := [], alts := [], laidByText := true, laidKinds := [.data, .data, .data], laidTests := true, laidLooks := .later }
def TreeMayCardSaid : Prop := Claim7.holds Tryz.pinned (.plain (OpenSpec.ofChange treeMaySpec)) treeMayCard

/-- THE SECOND FORM's CARD OF 'tidewracklaw07.TreeMay'. -/
def treeMayUptoCard : Claim7 := { stood := { row := treeMayUptoRow, standIns := [], harness := (true, "74d4dc411ae97265294528a31db792f638fabcc3cb2cd9bed0ad597fd03cf745"), looks := false }, kinds := [], alts := [], laidByText := true, laidKinds := [.data, .data, .data], laidTests := true, laidLooks := .later }
def TreeMayUptoCardSaid : Prop := Claim7.holds Tryz.pinned (.plain (OpenSpec.upto treeMaySpec)) treeMayUptoCard
end Rows
end Go.Proofs.YtookdinfaoelaaaGreatDoor
