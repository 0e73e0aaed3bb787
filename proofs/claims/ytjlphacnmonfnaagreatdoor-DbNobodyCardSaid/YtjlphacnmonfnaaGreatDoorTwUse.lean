/- The evaluator in use: pieces of code in a proof by hand, contracts out of runs. No condition. -/
import Derived.Test.YtjlphacnmonfnaaGreatDoorTwHint
set_option linter.unusedVariables false
set_option linter.unusedSimpArgs false
namespace Go.Tw

def mkT : List (Nat × V) → Tr V
  | [] => .nil
  | (t, v) :: r => tset (mkT r) t v

theorem tget_mkT : ∀ (l : List (Nat × V)) (t : Nat), tget (mkT l) t = .any ∨ ∃ p ∈ l, p.1 = t ∧ tget (mkT l) t = p.2
  | [], t => .inl (by simp [mkT, tget, Tr.get])
  | (u, v) :: r, t => by
    rw [mkT, tget_tset]
    by_cases e : t = u
    · rw [if_pos e]; exact .inr ⟨(u, v), .head _, e.symm, rfl⟩
    · rw [if_neg e]
      rcases tget_mkT r t with h | ⟨p, h1, h2, h3⟩
      · exact .inl h
      · exact .inr ⟨p, .tail _ h1, h2, h3⟩

section
variable {C : Ctx} {nt : Nat} {ro wro : Option Nat} {o : Orig} {s : Nat → Option Nat} {w : World} {st st' : St} {a : Act} {h : Nat → Prop} {Q : Exit → Act → World → Prop}

/-- Some slots alone are kept in mind. -/
theorem SR.keep (R : SR C h nt ro wro o s w st a) (l : List (Nat × V)) (hl : ∀ p ∈ l, tget st.T p.1 = p.2) : SR C h nt ro wro o s w ⟨mkT l, st.H, st.lo⟩ a :=
  ⟨R.ob, R.hr, R.gk, R.ln, R.ext, R.sz, R.df, R.rd, fun t => by
    show VH (C.ph h) s st.H w (tget (mkT l) t) _
    rcases tget_mkT l t with e | ⟨p, h1, h2, h3⟩
    · rw [e]; simp [VR]
    · rw [h3, ← hl p h1, h2]; exact R.tm t⟩

/-- What a run comes to, so far as it is asked: slots, memory, the least block written. -/
def hout (r : Option (Ex × St × Hints × List Prop)) (ks : List Nat) : Option (Ex × List V × Heap × Nat × Hints × List Prop) :=
  r.map fun (x, st, hs, ps) => (x, ks.map (tget st.T), st.H, st.lo, hs, ps)

theorem hout_ok {r : Option (Ex × St × Hints × List Prop)} {ks : List Nat} {x : Ex} {vs : List V} {H : Heap} {lo : Nat} {hs : Hints} {ps : List Prop} (e : hout r ks = some (x, vs, H, lo, hs, ps)) :
    ∃ T, r = some (x, ⟨T, H, lo⟩, hs, ps) ∧ ks.map (tget T) = vs := by
  obtain ⟨⟨y, st, hs', ps'⟩, h1, h2⟩ := Option.map_eq_some_iff.1 e
  simp only [Prod.mk.injEq] at h2
  obtain ⟨rfl, h3, rfl, rfl, rfl, rfl⟩ := h2
  exact ⟨st.T, h1, h3⟩

theorem wp_run (hC : CtxOK C) {n : Nat} {c : Code} {hs hs' : Hints} {x : Ex} {ps : List Prop} {ks : List Nat} {vs : List V} {H : Heap} {lo : Nat} (e : hout (hexec C n none nt c st hs []) ks = some (x, vs, H, lo, hs', ps)) (hp : AllOf ps)
    (R : SR C h nt none none o s w st a) (hQ : ∀ s' w' a' T, ks.map (tget T) = vs → SR C h nt none none o s' w' ⟨T, H, lo⟩ a' → Q x.to a' w') : c.wp C.P Q a w := by
  obtain ⟨T, h1, h2⟩ := hout_ok e
  exact (wpIn_wide (n := 0)).1 ((sound hC (regionStep C) n).1 nt none none o h c st ⟨T, H, lo⟩ x s w a Q ((hsound C n).1 _ _ _ _ _ _ _ _ _ _ h1 hp).1 R fun s' w' a' R' => hQ s' w' a' T h2 R')

theorem pure_in {h : Nat → Prop} (hh : ∀ g, ¬ h g) {cs : List Value} {vs : List V} {H : Heap} (hv : VRs (szP C.P) (fun _ => none) (fun _ => False) (fun g => g < w.heap.size) w vs cs) : VHs (C.ph h) (fun _ => none) H w vs cs :=
  VRs.mono ⟨fun _ (h : False) => h.elim, fun _ _ h => .inl h, fun g hg => ⟨hg, fun b hb => (by cases hb), hh g⟩, fun _ _ _ _ h => h, fun _ _ h => h⟩ _ _ hv

/-- The state in which a function begins that is given values without memory of the own heap. -/
theorem SR.start {cas : Array Value} {vs : List V} (hg : GW C w) (hv : VRs (szP C.P) (fun _ => none) (fun _ => False) (fun g => g < w.heap.size) w vs cas.toList) (k : Nat) :
    SR C (fun _ => False) (max vs.length k) none none ⟨fun _ => none, .empty, w, []⟩ (fun _ => none) w ⟨initT vs 0 .nil, .empty, 0⟩ { tmps := cas ++ Array.replicate (k - cas.size) undef, defers := [] } := by
  have hl := hv.length
  have hr : HR (C.ph fun _ => False) (fun _ => none) .empty w := ⟨fun b g hb => (by cases hb), fun b b' g hb => (by cases hb)⟩
  have hgk : GOK C (fun _ => False) (fun _ => none) w := ⟨fun g hg => hg.elim, fun g cs hc => ⟨⟨(hg g cs hc).1, fun b hb => (by cases hb), fun hh => hh⟩, (hg g cs hc).2⟩⟩
  have hv' : VHs (C.ph fun _ => False) (fun _ => none) .empty w vs cas.toList := pure_in (h := fun _ => False) (fun _ h => h) hv
  refine ⟨fun b g hb => (by cases hb), hr, hgk, Nat.zero_le _, Ext.refl (fun _ => none) Heap.empty w, ?_, ⟨[], rfl, List.nodup_nil, fun r hr => by cases hr⟩, trivial, init_tm hv' _⟩
  simp only [Array.length_toList] at hl
  simp only [Array.size_append, Array.size_replicate]
  omega
end

/-- A function's contract out of what its body does, begun in no memory of its own; its arguments and its value are plain. -/
theorem contract_flat {C : Ctx} {g : FuncId} {F : List V → Option V} {fn : Func} {body : Code} (hf : C.P.funcs[g]? = some fn) (hb : fn.body = some body) (hn : fn.name ≠ "runtime.NumGoroutine")
    (hlit : ∀ vs v, F vs = some v → ∃ x, v = .lit x)
    (hbody : ∀ vs v w a, F vs = some v → SR C (fun _ => False) (max vs.length fn.ntmps) none none ⟨fun _ => none, .empty, w, []⟩ (fun _ => none) w ⟨initT vs 0 .nil, .empty, 0⟩ a →
      body.wp C.P (fun x a' w' => (x = .normal ∨ x = .ret) ∧ ∃ s' st' us, SR C (fun _ => False) (max vs.length fn.ntmps) none none ⟨fun _ => none, .empty, w, []⟩ s' w' st' a' ∧ loadRes C st'.T st'.H fn.results.toList = some us ∧ resOf us = v) a w) : Contract C g F := by
  intro w vs cs v hg hv hF
  obtain ⟨xv, rfl⟩ := hlit vs v hF
  have R := SR.start hg hv fn.ntmps
  have h0 : (callFunc g cs).run C.P w = .ok (.enter g cs) w := by simp [callFunc, hf, hn, hb]
  unfold CallF
  rw [h0]
  simp only
  refine (callsIn_wide (n := 0)).1 (callsIn_of_wp_marks hf hb trivial ((wpIn_wide (n := 0)).2 (wp_mono (hbody vs _ w _ hF R) ?_)))
  rintro x a' w' ⟨hx, s', st', us, R', h1, h2⟩
  have : LeavesInM Fence.wide 0 C.P fn a'.tmps (fun e w'' => ∃ v', e = .returned v' ∧ VR (szP C.P) (fun _ => none) (fun _ => False) (fun g => w.heap.size ≤ g ∧ g < w''.heap.size) w'' (.lit xv) v' ∧ RowKit.Below w.heap.size w w'' ∧ (∀ g x, w.shape? g = some x → w''.shape? g = some x)) a'.defers .returning w' := by
    obtain ⟨rs, e, hn, hm⟩ := R'.df
    simp only [List.append_nil] at e
    rw [e]
    refine leave_ok (F := Fence.wide) rs w' R'.hr R'.ext R'.tm hn hm fun w2 k1 k2 k3 => ?_
    obtain ⟨c, h3, h4⟩ := results_ok (a := a') k1 k3 h1
    have h5 : VR (szP C.P) (fun _ => none) (fun _ => False) (fun g => w.heap.size ≤ g ∧ g < w2.heap.size) w2 (.lit xv) c := by
      rw [h2] at h4
      exact h4
    have hB : RowKit.Below w.heap.size w w2 := ⟨k2.os, k2.tape, k2.output, k2.size, fun k hk => k2.frame k hk fun b hb => (by cases hb)⟩
    exact ⟨c, h3, c, rfl, h5, hB, k2.shp⟩
  rcases hx with rfl | rfl <;> exact this

/-- The same out of a run. -/
theorem contract_run {C : Ctx} (hC : CtxOK C) {g : FuncId} {F : List V → Option V} {fn : Func} {body : Code} (hf : C.P.funcs[g]? = some fn) (hb : fn.body = some body) (hn : fn.name ≠ "runtime.NumGoroutine")
    (hlit : ∀ vs v, F vs = some v → ∃ x, v = .lit x)
    (hrun : ∀ vs v, F vs = some v → ∃ n r, callF C n g vs .empty = some r ∧ r.v = v) : Contract C g F := by
  intro w vs cs v hg hv hF
  obtain ⟨xv, rfl⟩ := hlit vs v hF
  have R := SR.start hg hv fn.ntmps
  obtain ⟨n, r, h1, h2⟩ := hrun vs _ hF
  have hv' : VHs (C.ph fun _ => False) (fun _ => none) .empty w vs cs.toList := pure_in (h := fun _ => False) (fun _ h => h) hv
  refine func_sound hC n (fun _ => False) _ .empty w g vs cs r _ R.hr R.gk hv' h1 fun c w' s' h3 h4 h5 => ?_
  rw [h2] at h3
  exact ⟨h3, ⟨h5.os, h5.tape, h5.output, h5.size, fun k hk => h5.frame k hk fun b hb => (by cases hb)⟩, h5.shp⟩
end Go.Tw

namespace Go.Tw
theorem AllOf.nil : AllOf [] := fun p hp => by cases hp
theorem AllOf.cons {p : Prop} {ps : List Prop} (h : p) (t : AllOf ps) : AllOf (p :: ps) := fun q hq => by
  cases hq with
  | head => exact h
  | tail _ hq => exact t q hq

def fstC : Code → Code
  | .seq a _ => a
  | .block _ c => c
  | .loop c => c
  | .cond _ a _ => a
  | c => c
def sndC : Code → Code
  | .seq _ b => b
  | .cond _ _ b => b
  | c => c
def bodyOf (f : Func) : Code := f.body.getD .skip

/-- Hints by the operations' own numbers. -/
def hintsAt : Nat → List (Nat × V) → Hints
  | _, [] => []
  | at', (k, v) :: r => (k - at', v) :: hintsAt (k + 1) r

def okB (b : UInt8) : Bool := decide (33 ≤ b.toNat) && decide (b.toNat ≤ 126)
def mayName (s : ByteArray) : Bool := s.data.toList.all okB && (decide (1 ≤ s.size) && decide (s.size ≤ 24))
def mayF : List V → Option V
  | [.lit (.string s)] => if s.size ≤ 9223372036854775807 then some (.lit (.bool (mayName s))) else none
  | _ => none
end Go.Tw
