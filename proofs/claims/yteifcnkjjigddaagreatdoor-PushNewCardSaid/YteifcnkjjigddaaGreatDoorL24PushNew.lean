/- PROVED: at every input 'PushNew' returns true and its arguments read behind the call as they read before. CONDITIONS: none of this text's own; what the given row and card say: the three tables of the library that the row lists hold at the call's beginning what the card ties to the program's text. -/
import Derived.Test.YteifcnkjjigddaaGreatDoorL24New
import Derived.Test.YteifcnkjjigddaaGreatDoorTwPost
import Derived.Test.YteifcnkjjigddaaGreatDoorCards
import Derived.Test.YteifcnkjjigddaaGreatDoorTie
import Derived.WalkKit
import Derived.ProofKit
import Derived.OpenShut
import Derived.Deep.DeepHandedRow
import Derived.Lib.LaidTab
set_option linter.unusedVariables false
set_option maxRecDepth 100000
namespace Go.Proofs.YteifcnkjjigddaaGreatDoor
open Go Go.Tw Go.ChangeShapes Go.WideShapes Go.ChangeAt Go.RowKit
open Go.ChangeMaps (open_string shut_string)

theorem own : ownKnob Tryz.prog.godebug = none := by kernel_rfl

theorem pushNew_run (u s : ByteArray) (n : Int) (hu : u.size ≤ 9223372036854775807) (hs : s.size ≤ 9223372036854775807) :
    ∃ r, callF C1 100000 3 [sv u, sv s, nv n] .empty = some r ∧ r.v = bv true := by
  have hadd : binV Tryz.prog .add 3 (iv u.size) (iv s.size) = some (iv (IntKind.i64.wrap ((u.size : Int) + s.size))) := add_ok _ _ _ _ _ rfl
  generalize IntKind.i64.wrap ((u.size : Int) + s.size) = l at hadd
  have eqs : ∀ x : ByteArray, binV Tryz.prog .eql 9 (sv x) (sv x) = some (bv true) := fun x => by simp [binV, strBin]
  have eqn : binV Tryz.prog .eql 22 (nv n) (nv n) = some (bv true) := by simp [binV, intBin]
  by_cases h0 : l > 600
  · exact fout_ok (run0 u s n l) (.cons (gtr_ok _ _ _ _ _ _ (decide_eq_true h0)) (.cons hadd .nil))
  · have h6 := gtr_ok Tryz.prog 3 .i64 l 600 false (decide_eq_false h0)
    have mu : mayF [sv u] = some (bv (mayName u)) := if_pos hu
    have ms : mayF [sv s] = some (bv (mayName s)) := if_pos hs
    cases cu : mayName u with
    | false =>
      rw [cu] at mu
      exact fout_ok (run1 u s n _) (.cons mu (.cons mu (.cons h6 (.cons hadd .nil))))
    | true =>
      rw [cu] at mu
      cases cs : mayName s with
      | false =>
        rw [cs] at ms
        exact fout_ok (run2 u s n _) (.cons ms (.cons mu (.cons ms (.cons mu (.cons h6 (.cons hadd .nil))))))
      | true =>
        rw [cs] at ms
        by_cases h1 : n < 1
        · have l1 := lss_ok Tryz.prog 22 .u64 n 1 true (decide_eq_true h1)
          exact fout_ok (run3 u s n _) (.cons l1 (.cons ms (.cons mu (.cons l1 (.cons ms (.cons mu (.cons h6 (.cons hadd .nil))))))))
        · have l1 := lss_ok Tryz.prog 22 .u64 n 1 false (decide_eq_false h1)
          by_cases h2 : n > 4611686018427387903
          · have l2 := gtr_ok Tryz.prog 22 .u64 n 4611686018427387903 true (decide_eq_true h2)
            exact fout_ok (run4 u s n _) (.cons l2 (.cons l1 (.cons ms (.cons mu (.cons l2 (.cons l1 (.cons ms (.cons mu (.cons h6 (.cons hadd .nil))))))))))
          · have l2 := gtr_ok Tryz.prog 22 .u64 n 4611686018427387903 false (decide_eq_false h2)
            exact fout_ok (run5 u s n _) (.cons eqn (.cons (eqs s) (.cons (eqs u) (.cons l2 (.cons l1 (.cons ms (.cons mu (.cons l2 (.cons l1 (.cons ms (.cons mu (.cons h6 (.cons hadd .nil)))))))))))))

theorem body3 : Tryz.f3.body = some (bodyOf Tryz.f3) := by kernel_rfl

/-- The call, in the model. -/
theorem pushNew_calls (W : World) (u s : ByteArray) (n : Int) (hu : u.size ≤ 9223372036854775807) (hs : s.size ≤ 9223372036854775807) :
    Calls Tryz.prog 3 #[.string u, .string s, .int .u64 n] W fun e W' => e = .returned (.bool true) ∧ Below W.heap.size W W' := by
  obtain ⟨r, h1, h2⟩ := pushNew_run u s n hu hs
  have hg : GW C1 W := fun g cs h => by cases h
  have hv : VRs (szP C1.P) (fun _ => none) (fun _ => False) (fun g => g < W.heap.size) W [sv u, sv s, nv n] #[.string u, .string s, .int .u64 n].toList := ⟨_, _, rfl, rfl, _, _, rfl, rfl, _, _, rfl, rfl, rfl⟩
  have R := SR.start hg hv 43
  have := func_sound C1_ok 100000 (fun _ => False) _ .empty W 3 [sv u, sv s, nv n] #[.string u, .string s, .int .u64 n] r (fun c w' => c = .bool true ∧ Below W.heap.size W w') R.hr R.gk (pure_in (h := fun _ => False) (fun _ h => h) hv) h1
    (fun c w' s' h3 h4 h5 => by
      rw [h2] at h3
      exact ⟨h3, h5.os, h5.tape, h5.output, h5.size, fun k hk => h5.frame k hk fun b hb => (by cases hb)⟩)
  have h0 : (callFunc 3 #[.string u, .string s, .int .u64 n]).run C1.P W = .ok (.enter 3 #[.string u, .string s, .int .u64 n]) W := by
    have hn : ¬ Tryz.f3.name = "runtime.NumGoroutine" := by decide +kernel
    have hf : C1.P.funcs[3]? = some Tryz.f3 := Tryz.func3
    simp [callFunc, hf, hn, body3]
  unfold CallF at this
  rw [h0] at this
  refine Calls.mono this ?_
  rintro e w' ⟨v, rfl, rfl, hB⟩
  exact ⟨rfl, hB⟩

theorem contract3 (H : Type) (enc : TypeId × Value → H) (W : World) (base : Nat) (args : Array Value) (ds gs : List (DataW H)) (before : List MemPlace)
    (hval : ∀ (j : Nat) t v, Tryz.f3.params[j]? = some t → args[j]? = some v → Value.okWide Tryz.prog W .any base t v)
    (hW : DataW.Whole enc Tryz.prog Tryz.f3.params.toList Rows.pushNewSpec.vars false W args.toList ds gs before) :
    Calls Tryz.prog 3 args W fun e W' => ∃ v, e = .returned v ∧ Rows.pushNewSpec.post enc Tryz.prog Tryz.f3 false true false false W args v W' := by
  have hW' := hW
  obtain ⟨p, q, hA0, hV, rfl, hfz, hnd⟩ := hW
  have hA : DataW.TrodAll enc Tryz.prog W 0 (fun _ => true) true Tryz.f3.params.toList args.toList ds p := hA0
  rw [Tryz.params3] at hA hval
  obtain ⟨v0, v1, v2, d0, d1, d2, p0, p1, p2, rfl, rfl, rfl, h0, h1, h2⟩ := trodAll_three hA
  obtain ⟨rfl, rfl⟩ := trodVars_none hV
  obtain ⟨u, rfl, rfl, rfl, wu⟩ := open_string Tryz.underlying9 (hval 0 9 v0 rfl rfl) h0
  obtain ⟨s, rfl, rfl, rfl, ws⟩ := open_string Tryz.underlying9 (hval 1 9 v1 rfl rfl) h1
  obtain ⟨n, rfl, rfl, rfl, wn⟩ := open_int Tryz.underlying22 (hval 2 22 v2 rfl rfl) h2
  clear hA0
  simp only [List.append_nil] at hW'
  have bu : u.size ≤ maxLen := wu
  have bs : s.size ≤ maxLen := ws
  refine (pushNew_calls W u s n bu bs).mono fun e W' ⟨he, hg⟩ => ?_
  subst he
  exact ⟨_, rfl, post_below (pa := []) (pv := []) hW' (fun _ _ _ => trodAll_cons_mk (shut_bool Tryz.underlying4 _) trodAll_mk0)
    (fun _ _ => trodAll_cons_mk (shut_string Tryz.underlying9 wu) (trodAll_cons_mk (shut_string Tryz.underlying9 ws) (trodAll_cons_mk (shut_int Tryz.underlying22 wn) trodAll_mk0))) (fun _ _ => rfl) rfl
    hg (ok_one (by kernel_rfl) rfl (okWide_bool_mk Tryz.underlying4 _))⟩

def lay (k : IntKind) (l : List Int) : Obj → Obj
  | .cells _ t frozen => .cells (l.map (Value.int k)).toArray t frozen
  | o => o
/-- A world for the witness. -/
noncomputable def laidWorld (os : Os) : World :=
  { World.holding Tryz.prog os ⟨#[], #[], []⟩ with heap := (((World.holding Tryz.prog os ⟨#[], #[], []⟩).heap.modify 1 (lay .u64 [1, 10, 100, 1000, 10000, 100000, 1000000, 10000000, 100000000, 1000000000, 10000000000, 100000000000, 1000000000000, 10000000000000, 100000000000000, 1000000000000000, 10000000000000000, 100000000000000000, 1000000000000000000, 10000000000000000000])).modify 2 (lay .u8 [0, 1, 28, 2, 29, 14, 24, 3, 30, 22, 20, 15, 25, 17, 4, 8, 31, 27, 13, 23, 21, 19, 16, 7, 26, 12, 18, 6, 11, 5, 10, 9])).modify 3 (lay .u8 [0, 1, 56, 2, 57, 49, 28, 3, 61, 58, 42, 50, 38, 29, 17, 4, 62, 47, 59, 36, 45, 43, 51, 22, 53, 39, 33, 30, 24, 18, 12, 5, 63, 55, 48, 27, 60, 41, 37, 16, 46, 35, 44, 21, 52, 32, 23, 11, 54, 26, 40, 15, 34, 20, 31, 10, 25, 14, 19, 9, 13, 8, 7, 6]) }
def wit : Array Value := #[.string .empty, .string .empty, .int .u64 0]
theorem laid_met (os : Os) : laidMet Tryz.prog Rows.pushNewRow.laid ((laidWorld os).forCall (fun _ _ => 0) ⟨#[], wit, []⟩).memory :=
  laidMet_of_run' 80 (by kernel_rfl) (by kernel_rfl)
theorem reads (os : Os) {H : Type} (enc : TypeId × Value → H) : ∃ places, DataW.whole enc Tryz.prog ((laidWorld os).forCall (fun _ _ => 0) ⟨#[], wit, []⟩).memory Tryz.f3.params.toList Rows.pushNewSpec.vars false wit.toList 8 = some ([.lit (.string []), .lit (.string []), .lit (.int .u64 0)], [], places) :=
  ⟨[], by kernel_rfl⟩

set_option maxRecDepth 100000 in
theorem lifted (os : Os) (started : os.Started) (H : Type) (enc : TypeId × Value → H) (F : Stop.Interp) :
    ReturnsInHanded {} Tryz.checked os 3 .any ((OpenSpec.ofChange Rows.pushNewSpec).preRow enc Tryz.prog Tryz.f3 Rows.pushNewRow.domain false Rows.pushNewRow.laid) (((OpenSpec.ofChange Rows.pushNewSpec).at F).post enc Tryz.prog Tryz.f3 false true false false) := by
  obtain ⟨places, hx⟩ := reads os enc
  refine returnsInHanded_of_row (C := Tryz.checked) (s := OpenSpec.ofChange Rows.pushNewSpec) own started (by kernel_rfl) Tryz.func3
    (witness_row_at (enc := enc) (C := Tryz.checked) false (laidWorld os) wit rfl (by kernel_rfl) (by kernel_rfl) (by kernel_rfl)
      (OpenSpec.preRow_of_cond 8 hx (by kernel_rfl) (fun k hk => by cases hk) (by kernel_rfl) (laid_met os))) ?_
  intro W base args ds gs before hval hW _ _ _ hL _ _
  exact contract3 H enc W base args ds gs before hval hW

theorem said : Rows.PushNewSaid :=
  OpenClaim.holds_of_cond 3 Tryz.f3 rfl rfl rfl rfl rfl rfl rfl ⟨rfl, rfl, rfl, rfl, rfl⟩ rfl rfl rfl rfl rfl (by kernel_rfl) Tryz.func3 (by kernel_rfl)
    (of_decide_eq_true (by kernel_rfl)) (by unfold Func.isWrapper; first | (rw [if_pos (by decide +kernel)]; kernel_rfl) | (rw [if_neg (by decide +kernel)]; exact ⟨rfl, rfl⟩))
    (fun os started H enc _ F => by rw [OpenClaim.pre_eq_preRow]; exact lifted os started H enc F)

theorem plain (f : FuncId) (fn : Func) (hf : Tryz.pinned.checked.prog.funcNamed "tidewrack/tidewracklaw24.PushNew" = some f) (hfn : Tryz.pinned.checked.prog.funcs[f]? = some fn) :
    false = Tryz.pinned.checked.prog.looks [] ∧ ∀ (j : Nat) t, fn.params[j]? = some t → Tryz.pinned.checked.prog.wantsStandIn t = false := by
  obtain rfl : f = 3 := Option.some.inj ((show Tryz.prog.funcNamed "tidewrack/tidewracklaw24.PushNew" = some 3 by kernel_rfl).symm.trans hf) |>.symm
  obtain rfl : fn = Tryz.f3 := (Option.some.inj (Tryz.func3.symm.trans hfn)).symm
  refine ⟨by kernel_rfl, fun j t ht => ?_⟩
  rw [Tryz.params3] at ht
  have hm := Array.mem_of_getElem? ht
  simp only [List.mem_toArray, List.mem_cons, List.not_mem_nil, or_false] at hm
  rcases hm with rfl | rfl | rfl
  · exact (show Tryz.prog.wantsStandIn 9 = false by kernel_rfl)
  · exact (show Tryz.prog.wantsStandIn 9 = false by kernel_rfl)
  · exact (show Tryz.prog.wantsStandIn 22 = false by kernel_rfl)

theorem pushNew_holds : Rows.PushNewCardSaid :=
  Claim7.holds_tied_plain_at .later [] _ _ _ _ said (fun _ h => by cases h) (by kernel_rfl) (fun _ h => by cases h) pushNew_row_tie rfl ⟨rfl, rfl⟩ (by kernel_rfl) rfl plain (by kernel_rfl)
end Go.Proofs.YteifcnkjjigddaaGreatDoor
