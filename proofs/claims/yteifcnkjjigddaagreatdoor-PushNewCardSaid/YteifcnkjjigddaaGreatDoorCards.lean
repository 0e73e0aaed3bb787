/-
  DERIVED. GIVEN WITH THE SEED: THE CARDS: each row of YteifcnkjjigddaaGreatDoorRows.lean that lists a variable, with what it lists TIED to the program's text (the seventh form; the later family's looks); each row that meets fmt, with fmt's text TOLD by the authors' own Lean function (tested against real Go, not proved from fmt's source: count such statements apart). THE CARD IS WHAT COUNTS. Prove the row's statement (the work); the ties are given (YteifcnkjjigddaaGreatDoorTie.lean); close each card by the builder's one call (the guide's Derived/Test/ToyasCard.lean, 'card_holds'). Laid BY PROGRAM, IN A SANDBOX (cutbox-door.mjs). By AI agents, Wed Nov 11 2026. No macro, syntax, notation, axiom, sorry.
-/
import Derived.Test.YteifcnkjjigddaaGreatDoorRows
import GoSem.ClaimSeven
namespace Go.Proofs.YteifcnkjjigddaaGreatDoor
namespace Rows

/-- THE TIED CARD OF 'tidewracklaw24.PushNew'. -/
def pushNewCard : Claim7 := { stood := { row := pushNewRow, standIns := [], harness := (true, "129258a1ee82c46e19aa3ff95bd369aa82a4f4b0c2e74306a595498ba97cb2ef"), looks := false }, kinds := [], alts := [], laidByText := true, laidKinds := [.data, .data, .data], laidTests := true, laidLooks := .later }
def PushNewCardSaid : Prop := Claim7.holds Tryz.pinned (.plain (OpenSpec.ofChange pushNewSpec)) pushNewCard

/-- THE TIED CARD OF 'tidewracklaw24.PushLate'. -/
def pushLateCard : Claim7 := { stood := { row := pushLateRow, standIns := [], harness := (true, "129258a1ee82c46e19aa3ff95bd369aa82a4f4b0c2e74306a595498ba97cb2ef"), looks := false }, kinds := [], alts := [], laidByText := true, laidKinds := [.data, .data, .data], laidTests := true, laidLooks := .later }
def PushLateCardSaid : Prop := Claim7.holds Tryz.pinned (.plain (OpenSpec.ofChange pushLateSpec)) pushLateCard

/-- THE SECOND FORM's CARD OF 'tidewracklaw24.PushNew'. -/
def pushNewUptoCard : Claim7 := { stood := { row := pushNewUptoRow, standIns := [], harness := (true, "129258a1ee82c46e19aa3ff95bd369aa82a4f4b0c2e74306a595498ba97cb2ef"), looks := false }, kinds := [], alts := [], laidByText := true, laidKinds := [.data, .data, .data], laidTests := true, laidLooks := .later }
def PushNewUptoCardSaid : Prop := Claim7.holds Tryz.pinned (.plain (OpenSpec.upto pushNewSpec)) pushNewUptoCard

/-- THE SECOND FORM's CARD OF 'tidewracklaw24.PushLate'. -/
def pushLateUptoCard : Claim7 := { stood := { row := pushLateUptoRow, standIns := [], harness := (true, "129258a1ee82c46e19aa3ff95bd369aa82a4f4b0c2e74306a595498ba97cb2ef"), looks := false }, kinds := [], alts := [], laidByText := true, laidKinds := [.data, .data, .data], laidTests := true, laidLooks := .later }
def PushLateUptoCardSaid : Prop := Claim7.holds Tryz.pinned (.plain (OpenSpec.upto pushLateSpec)) pushLateUptoCard
end Rows
end Go.Proofs.YteifcnkjjigddaaGreatDoor
