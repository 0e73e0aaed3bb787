/- PROVED: at every world in which the row's listed variables hold what the card ties to the program's text 'DbNobody' returns true: a nil db, and one that Open did not make, answers nothing but ErrArg, and on a disk that is down there is no db; and the law's own example. CONDITIONS: none of this text's own; what the given row and card say. -/
import Derived.Test.YtjlphacnmonfnaaGreatDoorL16Lift
import Derived.Test.YtjlphacnmonfnaaGreatDoorL16Closed
import Derived.Deep.DeepHandedRow
import Derived.Lib.LaidTab
set_option linter.unusedVariables false
set_option maxRecDepth 100000
namespace Go.Proofs.YtjlphacnmonfnaaGreatDoor
open Go Go.Tw Go.ChangeShapes Go.WideShapes Go.ChangeAt Go.RowKit

theorem said : Rows.DbNobodySaid :=
  OpenClaim.holds_of_cond 3 Tryz.f3 rfl rfl rfl rfl rfl rfl rfl ⟨rfl, rfl, rfl, rfl, rfl⟩ rfl rfl rfl rfl rfl ckNamed Tryz.func3 ckAll ckInst ckWrap
    (fun os started H enc _ F => by rw [OpenClaim.pre_eq_preRow]; exact lifted os started H enc F)

theorem plain (f : FuncId) (fn : Func) (hf : Tryz.pinned.checked.prog.funcNamed "tidewrack/tidewracklaw16.DbNobody" = some f) (hfn : Tryz.pinned.checked.prog.funcs[f]? = some fn) :
    true = Tryz.pinned.checked.prog.looks [] ∧ ∀ (j : Nat) t, fn.params[j]? = some t → Tryz.pinned.checked.prog.wantsStandIn t = false := by
  obtain rfl : f = 3 := Option.some.inj (ckNamed.symm.trans hf) |>.symm
  obtain rfl : fn = Tryz.f3 := (Option.some.inj (Tryz.func3.symm.trans hfn)).symm
  refine ⟨ckLooks.symm, fun j t ht => ?_⟩
  rw [Tryz.params3] at ht
  simp at ht

theorem dbNobody_holds : Rows.DbNobodyCardSaid :=
  Claim7.holds_tied_plain_at .later [] _ _ _ _ said (fun _ h => by cases h) ckText (fun _ h => by cases h) dbNobody_row_tie rfl ⟨rfl, rfl⟩ (by kernel_rfl) rfl plain ckGoes
end Go.Proofs.YtjlphacnmonfnaaGreatDoor
