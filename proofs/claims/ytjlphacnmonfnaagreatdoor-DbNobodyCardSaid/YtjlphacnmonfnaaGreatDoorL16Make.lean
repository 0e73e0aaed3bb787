/- Layer 16: a first revision's name. -/
import Derived.Test.YtjlphacnmonfnaaGreatDoorL16Sums
set_option linter.unusedVariables false
set_option maxRecDepth 100000
namespace Go.Proofs.YtjlphacnmonfnaaGreatDoor
open Go Go.Tw
theorem make_run : sameK (kcall C1 100000 143 makeIn .empty) makeOut = true := by kernel_rfl
theorem make_ok : Contract C1 143 (tabF makeT) := tab_contract C1_ok ftAll_ok (by kernel_rfl) make_run
end Go.Proofs.YtjlphacnmonfnaaGreatDoor
