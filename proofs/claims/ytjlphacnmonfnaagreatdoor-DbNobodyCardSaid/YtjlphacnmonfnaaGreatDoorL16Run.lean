/- Layer 16: the whole of the law's run. -/
import Derived.Test.YtjlphacnmonfnaaGreatDoorL16Turns
import Derived.Test.YtjlphacnmonfnaaGreatDoorL16Make
set_option linter.unusedVariables false
set_option maxRecDepth 100000
namespace Go.Proofs.YtjlphacnmonfnaaGreatDoor
open Go Go.Tw

noncomputable def C2 : Ctx := { P := Tryz.prog, G := fun _ => none, ft := ftAll, S := fun g => bif Nat.beq g 318 then some cmpF else bif Nat.beq g 295 then some cmpF else bif Nat.beq g 334 then some (tabF turnsT) else bif Nat.beq g 143 then some (tabF makeT) else none }
theorem Contract.of_same {C C' : Ctx} {g : FuncId} {F : List V → Option V} (hP : C'.P = C.P) (hG : C'.G = C.G) (h : Contract C g F) : Contract C' g F := by
  intro w vs cs v hg
  have hg' : GW C w := by
    intro g cs hc
    have := hg g cs (by rw [hG]; exact hc)
    rw [hP] at this
    exact this
  rw [hP]
  exact h w vs cs v hg'
theorem turns2 : Contract C2 334 (tabF turnsT) := Contract.of_same (C := C1) (C' := C2) rfl rfl turns_ok
theorem make2 : Contract C2 143 (tabF makeT) := Contract.of_same (C := C1) (C' := C2) rfl rfl make_ok
theorem C2_ok : CtxOK C2 := ⟨by kernel_rfl, fun g F h => by
  have s1 := C1_ok.sums
  simp only [C2] at h
  cases e1 : Nat.beq g 318 with
  | true => exact Contract.of_same (C := C1) rfl rfl (s1 g F (by simp only [C1, e1, cond_true]; rw [e1] at h; exact h))
  | false =>
    rw [e1] at h
    simp only [cond_false] at h
    cases e2 : Nat.beq g 295 with
    | true => exact Contract.of_same (C := C1) rfl rfl (s1 g F (by simp only [C1, e1, e2, cond_true, cond_false]; rw [e2] at h; exact h))
    | false =>
      rw [e2] at h
      simp only [cond_false] at h
      cases e3 : Nat.beq g 334 with
      | true =>
        rw [e3] at h
        simp only [cond_true, Option.some.injEq] at h
        rw [← h, Nat.eq_of_beq_eq_true e3]
        exact turns2
      | false =>
        rw [e3] at h
        simp only [cond_false] at h
        cases e4 : Nat.beq g 143 with
        | true =>
          rw [e4] at h
          simp only [cond_true, Option.some.injEq] at h
          rw [← h, Nat.eq_of_beq_eq_true e4]
          exact make2
        | false =>
          rw [e4] at h
          cases h⟩
theorem all_run : sameK (kcall C2 100000 3 [] .empty) (.lit (.bool true)) = true := by kernel_rfl
end Go.Proofs.YtjlphacnmonfnaaGreatDoor
