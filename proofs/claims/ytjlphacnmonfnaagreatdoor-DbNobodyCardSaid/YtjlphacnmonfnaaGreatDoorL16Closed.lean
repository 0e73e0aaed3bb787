/- PROVED: the closed facts of the row 'dbNobodyRow', each by itself (the kernel gives its memory back behind each). CONDITIONS: none. -/
import Derived.Test.YtjlphacnmonfnaaGreatDoorCards
import Derived.Test.YtjlphacnmonfnaaGreatDoorTie
import Derived.WalkKit
import Derived.ProofKit
import Derived.OpenShut
import Derived.ClosedOfChecked
set_option linter.unusedVariables false
set_option maxRecDepth 100000
namespace Go.Proofs.YtjlphacnmonfnaaGreatDoor
open Go Go.ChangeShapes Go.WideShapes Go.ChangeAt Go.RowKit
theorem ckAnd {a b : Bool} (h : a = true) (k : b = true) : (a && b) = true := by rw [h, k]; rfl
theorem ckTypes : Tryz.checked.prog.types = Tryz.checked.src.types := by kernel_rfl
theorem ckRest : (Tryz.checked.prog.globals.all (fun g => decide (g.type < Tryz.checked.prog.types.size)) && Tryz.checked.prog.funcs.all (fun f => f.params.all fun t => decide (t < Tryz.checked.prog.types.size))) = true := by kernel_rfl
theorem ckThree : laidOutB Tryz.prog = true ∧ mapsRowed Tryz.prog = true :=
  have H := ClosedOfChecked.allSpec_of Tryz.checked.wellFormed ckTypes
  ⟨ClosedOfChecked.laidOutB_of H ckRest, ClosedOfChecked.mapsRowed_of H⟩
theorem ckNoGo : Tryz.prog.funcs.any Func.goes = false := by kernel_rfl
theorem ckGoesAt {P : Program} (h : P.funcs.any Func.goes = false) {c : OpenClaim} (hs : c.start = .entering) : false = c.goesBy P := by
  have hg : ∀ f, P.goes f = false := fun f => by
    unfold Program.goes
    rw [h, Bool.and_false, Bool.or_false, List.any_eq_false]
    intro g _
    cases e : P.funcs[g]? with
    | none => simp
    | some fn =>
      have hm : fn ∈ P.funcs := Array.mem_of_getElem? e
      have := Array.any_eq_false'.1 h fn hm
      simpa using this
  have hf : ∀ o : Option FuncId, o.any P.goes = false := fun o => by cases o <;> simp [hg]
  unfold OpenClaim.goesBy Program.goesAt Program.goesFrom
  rw [hs, hf]; rfl
theorem ck0 : ((Rows.dbNobodyRow).wf (OpenSpec.ofChange (Rows.dbNobodySpec)) : Bool) = true := by kernel_rfl
theorem ck1 : (laidOutB (Tryz.prog) : Bool) = true := ckThree.1
theorem ck2 : (mapsRowed (Tryz.prog) : Bool) = true := ckThree.2
theorem ck3 : ((Tryz.f3).params.all ((Tryz.prog).readableRec ·) : Bool) = true := by kernel_rfl
theorem ck4 : (namedTie (Tryz.prog) (Rows.dbNobodyRow).named (Rows.dbNobodySpec).vars : Bool) = true := by kernel_rfl
theorem ck5 : (((Rows.dbNobodyRow).stops == []) : Bool) = true := by kernel_rfl
theorem ck6 : (((Tryz.prog).stops == []) : Bool) = true := by kernel_rfl
theorem ck7 : (((Rows.dbNobodyRow).knobs == []) : Bool) = true := by kernel_rfl
theorem ck8 : (((Tryz.prog).stopKnobs == []) : Bool) = true := by kernel_rfl
theorem ck9 : (((Rows.dbNobodyRow).inPlace == (Tryz.prog).inPlace 3) : Bool) = true := by kernel_rfl
theorem ck10 : (((Rows.dbNobodyRow).unfollowed == (Tryz.prog).unfollowed 3) : Bool) = true := by kernel_rfl
theorem ck11 : (((Rows.dbNobodyRow).recurses == (Tryz.prog).recurses 3) : Bool) = true := by kernel_rfl
theorem ck12 : (((Rows.dbNobodyRow).named == (Tryz.prog).varsNamed 3) : Bool) = true := by kernel_rfl
theorem ck13 : (((Rows.dbNobodyRow).maps == ((Tryz.f3).params.toList ++ (Rows.dbNobodySpec).plain.varTypes (Tryz.prog)).any ((Tryz.prog).mapsRec ·)) : Bool) = true := by kernel_rfl
theorem ck14 : (((Rows.dbNobodyRow).ifaces == ((Tryz.f3).params.toList ++ (Rows.dbNobodySpec).plain.varTypes (Tryz.prog)).any ((Tryz.prog).ifacesRec ·)) : Bool) = true := by kernel_rfl
theorem ck15 : (((Rows.dbNobodyRow).mapsOut == (Tryz.prog).mapsAmong (Tryz.f3).resultTypes.toList) : Bool) = true := by kernel_rfl
theorem ck16 : (((Rows.dbNobodyRow).loops == ((Tryz.f3).params.toList ++ (Rows.dbNobodySpec).plain.varTypes (Tryz.prog)).any ((Tryz.prog).loopsFrom ·)) : Bool) = true := by kernel_rfl
theorem ck17 : (((Rows.dbNobodyRow).wideKeys == ((Tryz.f3).params.toList ++ (Rows.dbNobodySpec).plain.varTypes (Tryz.prog) ++ (Tryz.f3).resultTypes.toList).any ((Tryz.prog).wideKeysFrom ·)) : Bool) = true := by kernel_rfl
theorem ck18 : ((Rows.dbNobodySpec).vars.all ((Tryz.prog).varReadable ·) : Bool) = true := by kernel_rfl
theorem ck19 : ((Tryz.f3).resultTypes.all (fun t => (Tryz.prog).readableRec t && decide (t < (Tryz.prog).types.size)) : Bool) = true := by kernel_rfl
theorem ck20 : (((Rows.dbNobodyRow).ifacesOut == (Tryz.f3).resultTypes.toList.any ((Tryz.prog).ifacesRec ·)) : Bool) = true := by kernel_rfl
theorem ck21 : (((Rows.dbNobodyRow).loopsOut == (Tryz.f3).resultTypes.toList.any ((Tryz.prog).loopsFrom ·)) : Bool) = true := by kernel_rfl
theorem ck22 : (((Rows.dbNobodyRow).plainKeys == (Tryz.prog).plainKeys) : Bool) = true := by kernel_rfl
theorem ck23 : ((Rows.dbNobodyRow).shortTexts.isNone : Bool) = true := by kernel_rfl
theorem ck24 : ((Tryz.prog).stopsHeard : Bool) = true := by kernel_rfl
theorem ck25 : ((Tryz.prog).mayEnter : Bool) = true := by kernel_rfl
theorem ck26 : (((Rows.dbNobodyRow).lifted == (Tryz.prog).liftsFinal) : Bool) = true := by kernel_rfl
theorem ck27 : (((Tryz.prog).make == some (Rows.dbNobodyRow).make) : Bool) = true := by kernel_rfl
theorem ck28 : (((Rows.dbNobodyRow).kinds == (if (Rows.dbNobodyRow).domain.isEmpty then [] else (Tryz.f3).params.toList.map fun t => match (Tryz.prog).underlying t with | some (.int k) => some k | _ => none)) : Bool) = true := by kernel_rfl
theorem ck29 : (((Rows.dbNobodyRow).pinned == (Rows.dbNobodyRow).pinnedBy) : Bool) = true := by kernel_rfl
theorem ck30 : (((Rows.dbNobodyRow).veiled == ((Tryz.f3).params.toList ++ (Rows.dbNobodySpec).plain.varTypes (Tryz.prog) ++ (Tryz.f3).resultTypes.toList).any ((Tryz.prog).veiledRec ·)) : Bool) = true := by kernel_rfl
theorem ck31 : ((Rows.dbNobodyRow).veiledFits (Tryz.prog) (Tryz.f3).params.toList ((Tryz.f3).params.toList ++ (Rows.dbNobodySpec).plain.varTypes (Tryz.prog) ++ (Tryz.f3).resultTypes.toList) : Bool) = true := by kernel_rfl
theorem ckNamed : Tryz.prog.funcNamed "tidewrack/tidewracklaw16.DbNobody" = some 3 := by kernel_rfl
theorem ckInst : Tryz.f3.isInstance Tryz.prog Rows.dbNobodyRow.origin Rows.dbNobodyRow.targs := of_decide_eq_true (by kernel_rfl)
theorem ckWrap : Tryz.f3.isWrapper Tryz.prog Rows.dbNobodyRow.wrapper Rows.dbNobodyRow.mainSum := by unfold Func.isWrapper; first | (rw [if_pos (by decide +kernel)]; kernel_rfl) | (rw [if_neg (by decide +kernel)]; exact ⟨rfl, rfl⟩)
theorem ckLooks : (Tryz.prog.looks [] : Bool) = true := by kernel_rfl
theorem ckGoes : false = Rows.dbNobodyRow.goesBy Tryz.prog := ckGoesAt ckNoGo rfl
theorem ckText : Rows.dbNobodyRow.wfByText (OpenSpec.ofChange Rows.dbNobodySpec) = true := by kernel_rfl
theorem ckAll : joinedFacts Tryz.prog 3 Tryz.f3 Rows.dbNobodySpec Rows.dbNobodyRow = true :=
  ckAnd (ckAnd (ckAnd (ckAnd (ckAnd (ckAnd (ckAnd (ckAnd (ckAnd (ckAnd (ckAnd (ckAnd (ckAnd (ckAnd (ckAnd (ckAnd (ckAnd (ckAnd (ckAnd (ckAnd (ckAnd (ckAnd (ckAnd (ckAnd (ckAnd (ckAnd (ckAnd (ckAnd (ckAnd (ckAnd (ckAnd ck0 ck1) ck2) ck3) ck4) ck5) ck6) ck7) ck8) ck9) ck10) ck11) ck12) ck13) ck14) ck15) ck16) ck17) ck18) ck19) ck20) ck21) ck22) ck23) ck24) ck25) ck26) ck27) ck28) ck29) ck30) ck31
end Go.Proofs.YtjlphacnmonfnaaGreatDoor
