/-
  DERIVED. GIVEN WITH THE SEED: THE CARDS: each row of YtecmdodhjbijgaaGreatDoorRows.lean that lists a variable, with what it lists TIED to the program's text (the seventh form; the later family's looks); each row that meets fmt, with fmt's text TOLD by the authors' own Lean function (tested against real Go, not proved from fmt's source: count such statements apart). THE CARD IS WHAT COUNTS. Prove the row's statement (the work); the ties are given (YtecmdodhjbijgaaGreatDoorTie.lean); close each card by the builder's one call (the guide's Derived/Test/ToyasCard.lean, 'card_holds'). Laid BY PROGRAM, IN A SANDBOX (cutbox-door.mjs). By AI agents, Wed Nov 11 2026. No macro, syntax, notation, axiom, sorry.
-/
import Derived.Test.YtecmdodhjbijgaaGreatDoorRows
import GoSem.ClaimSeven
namespace Go.Proofs.YtecmdodhjbijgaaGreatDoor
namespace Rows

/-- THE TIED CARD OF 'tidewracklaw23.PullNew'. -/
def pullNewCard : Claim7 := { stood := { row := pullNewRow, standIns := [], harness := (true, "6eff39305e3ad0e9cd09f7eeefad50cca0b2cd0e8922cb2777863fd4edfa5da7"), looks := false }, kinds := [], alts := [], laidByText := true, laidKinds := [.data, .data, .data], laidTests := true, laidLooks := .later }
def PullNewCardSaid : Prop := Claim7.holds Tryz.pinned (.plain (OpenSpec.ofChange pullNewSpec)) pullNewCard

/-- THE TIED CARD OF 'tidewracklaw23.PullLate'. -/
def pullLateCard : Claim7 := { stood := { row := pullLateRow, standIns := [], harness := (true, "6eff39305e3ad0e9cd09f7eeefad50cca0b2cd0e8922cb2777863fd4edfa5da7"), looks := false }, kinds := [], alts := [], laidByText := true, laidKinds := [.data, .data, .data], laidTests := true, laidLooks := .later }
def PullLateCardSaid : Prop := Claim7.holds Tryz.pinned (.plain (OpenSpec.ofChange pullLateSpec)) pullLateCard

/-- THE TIED CARD OF 'tidewracklaw23.PullEnds'. -/
def pullEndsCard : Claim7 := { stood := { row := pullEndsRow, standIns := [], harness := (true, "6eff39305e3ad0e9cd09f7eeefad50cca0b2cd0e8922cb2777863fd4edfa5da7"), looks := false }, kinds := [], alts := [], laidByText := true, laidKinds := [.data, .data, .data], laidTests := true, laidLooks := .later }
def PullEndsCardSaid : Prop := Claim7.holds Tryz.pinned (.plain (OpenSpec.ofChange pullEndsSpec)) pullEndsCard

/-- THE SECOND FORM's CARD OF 'tidewracklaw23.PullNew'. -/
def pullNewUptoCard : Claim7 := { stood := { row := pullNewUptoRow, standIns := [], harness := (true, "6eff39305e3ad0e9cd09f7eeefad50cca0b2cd0e8922cb2777863fd4edfa5da7"), looks := false }, kinds := [], alts := [], laidByText := true, laidKinds := [.data, .data, .data], laidTests := true, laidLooks := .later }
def PullNewUptoCardSaid : Prop := Claim7.holds Tryz.pinned (.plain (OpenSpec.upto pullNewSpec)) pullNewUptoCard

/-- THE SECOND FORM's CARD OF 'tidewracklaw23.PullLate'. -/
def pullLateUptoCard : Claim7 := { stood := { row := pullLateUptoRow, standIns := [], harness := (true, "6eff39305e3ad0e9cd09f7eeefad50cca0b2cd0e8922cb2777863fd4edfa5da7"), looks := false }, kinds := [], alts := [], laidByText := true, laidKinds := [.data, .data, .data], laidTests := true, laidLooks := .later }
def PullLateUptoCardSaid : Prop := Claim7.holds Tryz.pinned (.plain (OpenSpec.upto pullLateSpec)) pullLateUptoCard

/-- THE SECOND FORM's CARD OF 'tidewracklaw23.PullEnds'. -/
def pullEndsUptoCard : Claim7 := { stood := { row := pullEndsUptoRow, standIns := [], harness := (true, "6eff39305e3ad0e9cd09f7eeefad50cca0b2cd0e8922cb2777863fd4edfa5da7"), looks := false }, kinds := [], alts := [], laidByText := true, laidKinds := [.data, .data, .data], laidTests := true, laidLooks := .later }
def PullEndsUptoCardSaid : Prop := Claim7.holds Tryz.pinned (.plain (OpenSpec.upto pullEndsSpec)) pullEndsUptoCard
end Rows
end Go.Proofs.YtecmdodhjbijgaaGreatDoor
