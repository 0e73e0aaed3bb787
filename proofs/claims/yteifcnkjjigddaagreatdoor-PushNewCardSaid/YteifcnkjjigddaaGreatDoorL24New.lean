/- Law 24, which sessions may be: what the function does at each input. -/
import Derived.Test.YteifcnkjjigddaaGreatDoorL24May2
set_option linter.unusedVariables false
set_option maxRecDepth 100000
namespace Go.Proofs.YteifcnkjjigddaaGreatDoor
open Go Go.Tw

noncomputable def C1 : Ctx := { P := Tryz.prog, G := fun _ => none, S := fun g => bif Nat.beq g 13 then some mayF else bif Nat.beq g 14 then some mayF else none }

theorem Contract.of_same {C C' : Ctx} {g : FuncId} {F : List V → Option V} (hP : C'.P = C.P) (hG : C'.G = C.G) (h : Contract C g F) : Contract C' g F := by
  intro w vs cs v hg
  have hg' : GW C w := by
    intro g cs hc
    have := hg g cs (by rw [hG]; exact hc)
    rw [hP] at this
    exact this
  rw [hP]
  exact h w vs cs v hg'

theorem C1_ok : CtxOK C1 := ⟨by kernel_rfl, fun g F h => by
  simp only [C1] at h
  cases e : Nat.beq g 13 with
  | true =>
    rw [e] at h
    simp only [cond_true, Option.some.injEq] at h
    subst h
    obtain rfl := Nat.eq_of_beq_eq_true e
    exact Contract.of_same rfl rfl may25
  | false =>
    rw [e] at h
    simp only [cond_false] at h
    cases e' : Nat.beq g 14 with
    | true =>
      rw [e'] at h
      simp only [cond_true, Option.some.injEq] at h
      subst h
      obtain rfl := Nat.eq_of_beq_eq_true e'
      exact Contract.of_same rfl rfl may26
    | false =>
      rw [e'] at h
      cases h⟩

/-- What a run of a function comes to. -/
def fout (r : Option (OR × Hints × List Prop)) : Option (V × Hints × List Prop) := r.map fun (r, hs, ps) => (r.v, hs, ps)
theorem fout_ok {C : Ctx} {n : Nat} {g : FuncId} {args : List V} {H : Heap} {hs hs' : Hints} {v : V} {ps : List Prop} (e : fout (hcallF C n g args H hs []) = some (v, hs', ps)) (hp : AllOf ps) : ∃ r, callF C n g args H = some r ∧ r.v = v := by
  obtain ⟨⟨r, hs2, ps2⟩, h1, h2⟩ := Option.map_eq_some_iff.1 e
  simp only [Prod.mk.injEq] at h2
  obtain ⟨rfl, rfl, rfl⟩ := h2
  exact ⟨r, ((hsound C n).2.2.2.2 _ _ _ _ _ _ _ _ h1 hp).1, rfl⟩

section
variable (u s : ByteArray) (n : Int) (l : Int)
abbrev sv (s : ByteArray) : V := .lit (.string s)
abbrev nv (n : Int) : V := .lit (.int .u64 n)
abbrev iv (n : Int) : V := .lit (.int .i64 n)
abbrev bv (b : Bool) : V := .lit (.bool b)
theorem run0 : fout (hcallF C1 100000 3 [sv u, sv s, nv n] .empty (hintsAt 0 [(5, iv l), (6, bv true)]) []) = some (bv true, [],
    [binV Tryz.prog .gtr 3 (iv l) (iv 600) = some (bv true), binV Tryz.prog .add 3 (iv u.size) (iv s.size) = some (iv l)]) := by kernel_rfl
theorem run1 : fout (hcallF C1 100000 3 [sv u, sv s, nv n] .empty (hintsAt 0 [(5, iv l), (6, bv false), (14, bv false), (38, bv false)]) []) = some (bv true, [],
    [mayF [sv u] = some (bv false), mayF [sv u] = some (bv false), binV Tryz.prog .gtr 3 (iv l) (iv 600) = some (bv false), binV Tryz.prog .add 3 (iv u.size) (iv s.size) = some (iv l)]) := by kernel_rfl
theorem run2 : fout (hcallF C1 100000 3 [sv u, sv s, nv n] .empty (hintsAt 0 [(5, iv l), (6, bv false), (14, bv true), (18, bv false), (41, bv true), (45, bv false)]) []) = some (bv true, [],
    [mayF [sv s] = some (bv false), mayF [sv u] = some (bv true), mayF [sv s] = some (bv false), mayF [sv u] = some (bv true), binV Tryz.prog .gtr 3 (iv l) (iv 600) = some (bv false), binV Tryz.prog .add 3 (iv u.size) (iv s.size) = some (iv l)]) := by kernel_rfl
theorem run3 : fout (hcallF C1 100000 3 [sv u, sv s, nv n] .empty (hintsAt 0 [(5, iv l), (6, bv false), (14, bv true), (18, bv true), (23, bv true), (43, bv true), (47, bv true), (52, bv true)]) []) = some (bv true, [],
    [binV Tryz.prog .lss 22 (nv n) (nv 1) = some (bv true), mayF [sv s] = some (bv true), mayF [sv u] = some (bv true), binV Tryz.prog .lss 22 (nv n) (nv 1) = some (bv true), mayF [sv s] = some (bv true), mayF [sv u] = some (bv true), binV Tryz.prog .gtr 3 (iv l) (iv 600) = some (bv false), binV Tryz.prog .add 3 (iv u.size) (iv s.size) = some (iv l)]) := by kernel_rfl
theorem run4 : fout (hcallF C1 100000 3 [sv u, sv s, nv n] .empty (hintsAt 0 [(5, iv l), (6, bv false), (14, bv true), (18, bv true), (23, bv false), (27, bv true), (45, bv true), (49, bv true), (54, bv false), (58, bv true)]) []) = some (bv true, [],
    [binV Tryz.prog .gtr 22 (nv n) (nv 4611686018427387903) = some (bv true), binV Tryz.prog .lss 22 (nv n) (nv 1) = some (bv false), mayF [sv s] = some (bv true), mayF [sv u] = some (bv true), binV Tryz.prog .gtr 22 (nv n) (nv 4611686018427387903) = some (bv true), binV Tryz.prog .lss 22 (nv n) (nv 1) = some (bv false), mayF [sv s] = some (bv true), mayF [sv u] = some (bv true), binV Tryz.prog .gtr 3 (iv l) (iv 600) = some (bv false), binV Tryz.prog .add 3 (iv u.size) (iv s.size) = some (iv l)]) := by kernel_rfl
theorem run5 : fout (hcallF C1 100000 3 [sv u, sv s, nv n] .empty (hintsAt 0 [(5, iv l), (6, bv false), (14, bv true), (18, bv true), (23, bv false), (27, bv false), (48, bv true), (52, bv true), (57, bv false), (61, bv false), (85, bv true), (91, bv true), (98, bv true)]) []) = some (bv true, [],
    [binV Tryz.prog .eql 22 (nv n) (nv n) = some (bv true), binV Tryz.prog .eql 9 (sv s) (sv s) = some (bv true), binV Tryz.prog .eql 9 (sv u) (sv u) = some (bv true),
     binV Tryz.prog .gtr 22 (nv n) (nv 4611686018427387903) = some (bv false), binV Tryz.prog .lss 22 (nv n) (nv 1) = some (bv false), mayF [sv s] = some (bv true), mayF [sv u] = some (bv true), binV Tryz.prog .gtr 22 (nv n) (nv 4611686018427387903) = some (bv false), binV Tryz.prog .lss 22 (nv n) (nv 1) = some (bv false), mayF [sv s] = some (bv true), mayF [sv u] = some (bv true), binV Tryz.prog .gtr 3 (iv l) (iv 600) = some (bv false), binV Tryz.prog .add 3 (iv u.size) (iv s.size) = some (iv l)]) := by kernel_rfl
end
end Go.Proofs.YteifcnkjjigddaaGreatDoor
