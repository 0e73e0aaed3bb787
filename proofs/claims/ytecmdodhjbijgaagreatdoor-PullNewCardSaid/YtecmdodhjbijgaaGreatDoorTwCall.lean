/- The evaluator is sound: code and calls, if it is so for regions that draw their order. No condition. -/
import Derived.Test.YtecmdodhjbijgaaGreatDoorTwSeq
import Derived.LoopN
set_option linter.unusedVariables false
set_option linter.unusedSimpArgs false
namespace Go.Tw

section
variable {C : Ctx} {nt : Nat} {ds : List Deferred} {o : Orig} {s s' : Nat → Option Nat} {H H' : Heap} {w w' : World} {st st' : St} {a : Act} {lo : Nat} {h : Nat → Prop}

theorem load_var {P : PH} (hr : HR P s H w) {t : TypeId} {x v : V} {cx : Value} (h : loadV P H t x = some v) (hx : VH P s H w x cx) : ∃ c, (do loadVar t (← asAddr cx) : Sem Value).run P w = .ok c w ∧ VH P s H w v c := by
  obtain ⟨c, h1, h2⟩ := load_ok hr h hx
  refine ⟨c, ?_, h2⟩
  simp only [loadV, Option.bind_eq_bind, Option.bind_eq_some_iff] at h
  obtain ⟨⟨cells, off⟩, hc, h⟩ := h
  unfold cellsAt at hc
  split at hc
  · obtain ⟨q, rfl, hq⟩ := hx
    simpa [Instr.loadAt, Instr.sureAddr, asAddr] using h1
  · obtain ⟨g, o, cs', rfl, hg, hv, ha⟩ := hx
    simpa [Instr.loadAt, Instr.sureAddr, asAddr] using h1
  · cases hc

theorem run_mapM_cons {α β : Type} {P : Program} {f : α → Sem β} {x : α} {l : List α} {y : β} {ys : List β} (h1 : (f x).run P w = .ok y w) (h2 : (l.mapM f).run P w = .ok ys w) : ((x :: l).mapM f).run P w = .ok (y :: ys) w := by
  rw [List.mapM_cons, Sem.run_bind, h1]
  simp [h2]

def resRead (tmps : Array Value) : ResultVar → Sem Value
  | .tmp t => pure (tmps.getD t undef)
  | .cell x t => do loadVar t (← asAddr (tmps.getD x undef))

theorem results_eq (fn : Func) (tmps : Array Value) : results fn tmps = (do let vs ← fn.results.mapM (resRead tmps); pure (if h : vs.size = 1 then vs[0] else .tuple vs)) := by
  have e : (fun | .tmp t => pure (tmps.getD t undef) | .cell a t => do loadVar t (← asAddr (tmps.getD a undef)) : ResultVar → Sem Value) = resRead tmps := by
    funext x
    cases x <;> rfl
  rw [← e]
  rfl

theorem loadRes_ok (hr : HR (C.ph h) s H w) {T : Tr V} (tm : ∀ t, VH (C.ph h) s H w (tget T t) (a.tmps.getD t undef)) : ∀ {l : List ResultVar} {vs : List V}, loadRes C T H l = some vs →
    ∃ cs, (l.mapM (resRead a.tmps)).run C.P w = .ok cs w ∧ VHs (C.ph h) s H w vs cs
  | [], vs, h => by
    simp only [loadRes, Option.some.injEq] at h
    subst h
    exact ⟨[], by simp, by simp [VRs]⟩
  | .tmp t :: r, vs, h => by
    simp only [loadRes] at h
    obtain ⟨us, h1, rfl⟩ := Option.map_eq_some_iff.1 h
    obtain ⟨cs, h2, h3⟩ := loadRes_ok hr tm h1
    exact ⟨_ :: cs, run_mapM_cons (by simp [resRead]) h2, _, _, rfl, tm t, h3⟩
  | .cell x t :: r, vs, h => by
    simp only [loadRes, Option.bind_eq_bind, Option.bind_eq_some_iff, Option.some.injEq] at h
    obtain ⟨v, hv, us, h1, rfl⟩ := h
    obtain ⟨cs, h2, h3⟩ := loadRes_ok hr tm h1
    obtain ⟨c, h4, h5⟩ := load_var hr hv (tm x)
    exact ⟨c :: cs, run_mapM_cons h4 h2, _, _, rfl, h5, h3⟩

theorem results_ok (hr : HR (C.ph h) s H w) {T : Tr V} (tm : ∀ t, VH (C.ph h) s H w (tget T t) (a.tmps.getD t undef)) {fn : Func} {vs : List V} (hl : loadRes C T H fn.results.toList = some vs) :
    ∃ c, (results fn a.tmps).run C.P w = .ok c w ∧ VH (C.ph h) s H w (resOf vs) c := by
  obtain ⟨cs, h1, h2⟩ := loadRes_ok hr tm hl
  rw [results_eq, Array.mapM_eq_mapM_toList]
  refine ⟨if h : cs.toArray.size = 1 then cs.toArray[0] else .tuple cs.toArray, ?_, ?_⟩
  · simp only [map_eq_pure_bind, bind_assoc, pure_bind]
    rw [Sem.run_bind, h1]
    simp
  · have hlen := h2.length
    match vs, h2 with
    | [], h2 =>
      simp only [VRs] at h2
      subst h2
      exact ⟨#[], by simp, by simp [VRs]⟩
    | [v], h2 =>
      obtain ⟨c, cs', rfl, h3, h4⟩ := h2
      simp only [VRs] at h4
      subst h4
      exact h3
    | v :: u :: r, h2 =>
      have : ¬ cs.length = 1 := by simp at hlen; omega
      refine ⟨cs.toArray, ?_, by simpa using h2⟩
      simp [this]

def Ex.to : Ex → Exit
  | .normal => .normal
  | .exit i => .exit i
  | .ret => .ret

/-- Regions that draw their order. -/
def RegionStep (C : Ctx) : Prop :=
  ∀ (n nt : Nat) (ds : List Deferred) (o : Orig) (h : Nat → Prop) (s : Nat → Option Nat) (w : World) (st st' : St) (a : Act) (ops : Array Oper) (es : List Eff) (Q : Exit → Act → World → Prop),
    (∀ m, m < n → OpStep C (callV C m)) → regOk ops = true → runOps C n nt ops ops.toList st = some (es, st') → orderOk ops es = true → SR C h nt ds o s w st a →
    (∀ s' w' a', SR C h nt ds o s' w' st' a' → Q .normal a' w') → wpAny C.P .any ops Q ops.size (Array.replicate ops.size false) a w

def ExecStep (C : Ctx) (n : Nat) : Prop :=
  ∀ (nt : Nat) (ds : List Deferred) (o : Orig) (h : Nat → Prop) (c : Code) (st st' : St) (x : Ex) (s : Nat → Option Nat) (w : World) (a : Act) (Q : Exit → Act → World → Prop),
    exec C n nt c st = some (x, st') → SR C h nt ds o s w st a → (∀ s' w' a', SR C h nt ds o s' w' st' a' → Q x.to a' w') → c.wp C.P Q a w

theorem SR.drew (R : SR C h nt ds o s w st a) : SR C h nt ds o s w.drew st a := by
  have E := Ext.drew s st.H w
  have hr : HR (C.ph h) s st.H w.drew := ⟨fun b g hb => by
    obtain ⟨B, q, h1, h2, h3⟩ := R.hr.dom b g hb
    exact ⟨B, q, h1, h2, h3.mono E.grow⟩, R.hr.inj⟩
  have h1 : min st.lo st.H.n = st.lo := by have := R.ln; have := R.ext.hn; omega
  exact ⟨R.ob, hr, R.gk.ext E, R.ln, h1 ▸ R.ext.trans R.ob E, R.sz, R.df, fun t => E.vh (R.tm t)⟩

theorem loop_ok : ∀ (n : Nat) (ih : ∀ m, m < n → ExecStep C m) (c : Code) (st st' : St) (x : Ex) (s : Nat → Option Nat) (w : World) (a : Act) (Q : Exit → Act → World → Prop),
    exec C n nt (.loop c) st = some (x, st') → SR C h nt ds o s w st a → (∀ s' w' a', SR C h nt ds o s' w' st' a' → Q x.to a' w') → Code.rounds C.P c Q n a w
  | 0, _, _, _, _, _, _, _, _, _, he, _, _ => by simp [exec] at he
  | n + 1, ih, c, st, st', x, s, w, a, Q, he, R, hk => by
    simp only [exec] at he
    rw [rounds_succ]
    cases h1 : exec C n nt c st with
    | none => simp [h1] at he
    | some r =>
      obtain ⟨y, st1⟩ := r
      refine ih n (by omega) nt ds o h c st st1 y s w a _ h1 R fun s1 w1 a1 R1 => ?_
      cases y with
      | normal =>
        simp only [h1] at he
        exact loop_ok n (fun m hm => ih m (by omega)) c st1 st' x s1 w1 a1 Q he R1 hk
      | exit i =>
        simp only [h1, Option.some.injEq, Prod.mk.injEq] at he
        obtain ⟨rfl, rfl⟩ := he
        exact hk s1 w1 a1 R1
      | ret =>
        simp only [h1, Option.some.injEq, Prod.mk.injEq] at he
        obtain ⟨rfl, rfl⟩ := he
        exact hk s1 w1 a1 R1

theorem exec_ok (hC : CtxOK C) (hreg : RegionStep C) (n : Nat) (ih : ∀ m, m < n → ExecStep C m) (hop : ∀ m, m < n → OpStep C (callV C m)) : ExecStep C n := by
  intro nt ds o h c st st' x s w a Q he R hk
  cases n with
  | zero => simp [exec] at he
  | succ n =>
    have ih' := ih n (by omega)
    cases c <;> (try (simp [exec] at he; done))
    case skip =>
      simp only [exec, Option.some.injEq, Prod.mk.injEq] at he
      obtain ⟨rfl, rfl⟩ := he
      exact wp_skip (hk s w a R)
    case label l =>
      simp only [exec, Option.some.injEq, Prod.mk.injEq] at he
      obtain ⟨rfl, rfl⟩ := he
      exact wp_label (hk s w a R)
    case exit i =>
      simp only [exec, Option.some.injEq, Prod.mk.injEq] at he
      obtain ⟨rfl, rfl⟩ := he
      exact wp_exit (hk s w a R)
    case ret =>
      simp only [exec, Option.some.injEq, Prod.mk.injEq] at he
      obtain ⟨rfl, rfl⟩ := he
      exact wp_ret (hk s w a R)
    case region id ops draw =>
      simp only [exec] at he
      cases draw with
      | false =>
        simp only [cond_false] at he
        split at he
        · rename_i es st1 h1
          simp only [Option.some.injEq, Prod.mk.injEq] at he
          obtain ⟨rfl, rfl⟩ := he
          exact wp_region_list (runOps_ok n (fun m hm => hop m (by omega)) _ h1 R Q hk)
        · cases he
      | true =>
        simp only [cond_true] at he
        cases hg : regOk ops with
        | false => simp [hg] at he
        | true =>
          simp only [hg, cond_true] at he
          split at he
          · rename_i es st1 h1
            cases ho : orderOk ops es with
            | false => simp [ho] at he
            | true =>
              simp only [ho, cond_true, Option.some.injEq, Prod.mk.injEq] at he
              obtain ⟨rfl, rfl⟩ := he
              exact wp_region_any hC.mix (hreg n nt ds o h s _ st st1 a ops es Q (fun m hm => hop m (by omega)) hg h1 ho R.drew hk)
          · cases he
    case seq b d =>
      simp only [exec] at he
      cases h1 : exec C n nt b st with
      | none => simp [h1] at he
      | some r =>
        obtain ⟨y, st1⟩ := r
        refine wp_seq (ih' nt ds o h b st st1 y s w a _ h1 R fun s1 w1 a1 R1 => ?_)
        cases y with
        | normal =>
          simp only [h1] at he
          exact ih' nt ds o h d st1 st' x s1 w1 a1 Q he R1 hk
        | exit i =>
          simp only [h1, Option.some.injEq, Prod.mk.injEq] at he
          obtain ⟨rfl, rfl⟩ := he
          exact hk s1 w1 a1 R1
        | ret =>
          simp only [h1, Option.some.injEq, Prod.mk.injEq] at he
          obtain ⟨rfl, rfl⟩ := he
          exact hk s1 w1 a1 R1
    case cond q b d =>
      simp only [exec] at he
      split at he
      · rename_i t ht
        have h1 := rho_ok R.gk R.tm q
        rw [ht] at h1
        simp only [VH, VR] at h1
        refine wp_cond h1 ?_
        cases t with
        | true => exact ih' nt ds o h b st st' x s w a Q he R hk
        | false => exact ih' nt ds o h d st st' x s w a Q he R hk
      · cases he
    case block id b =>
      simp only [exec] at he
      cases h1 : exec C n nt b st with
      | none => simp [h1] at he
      | some r =>
        obtain ⟨y, st1⟩ := r
        refine wp_block (ih' nt ds o h b st st1 y s w a _ h1 R fun s1 w1 a1 R1 => ?_)
        cases y with
        | normal =>
          simp only [h1, Option.some.injEq, Prod.mk.injEq] at he
          obtain ⟨rfl, rfl⟩ := he
          exact hk s1 w1 a1 R1
        | exit i =>
          simp only [h1] at he
          simp only [Ex.to, Exit.inBlock]
          by_cases e : i = id
          · rw [if_pos e]
            simp only [beqt e, cond_true, Option.some.injEq, Prod.mk.injEq] at he
            obtain ⟨rfl, rfl⟩ := he
            exact hk s1 w1 a1 R1
          · rw [if_neg e]
            simp only [beqf e, cond_false, Option.some.injEq, Prod.mk.injEq] at he
            obtain ⟨rfl, rfl⟩ := he
            exact hk s1 w1 a1 R1
        | ret =>
          simp only [h1, Option.some.injEq, Prod.mk.injEq] at he
          obtain ⟨rfl, rfl⟩ := he
          exact hk s1 w1 a1 R1
    case loop b => exact wp_loop_rounds _ (loop_ok (n + 1) ih b st st' x s w a Q he R hk)
end
end Go.Tw
