/- Layer 16: the turns of a check. -/
import Derived.Test.YtjlphacnmonfnaaGreatDoorL16Sums
set_option linter.unusedVariables false
set_option maxRecDepth 100000
namespace Go.Proofs.YtjlphacnmonfnaaGreatDoor
open Go Go.Tw
theorem turns_run : sameK (kcall C1 100000 334 [] .empty) turnsV = true := by kernel_rfl
theorem turns_ok : Contract C1 334 (tabF turnsT) := tab_contract C1_ok ftAll_ok (by kernel_rfl) turns_run
end Go.Proofs.YtjlphacnmonfnaaGreatDoor
