/- The evaluator is sound: code and calls, if it is so for regions that draw their order. No condition. -/
import Derived.Test.YtjlphacnmonfnaaGreatDoorTwLoop
set_option linter.unusedVariables false
set_option linter.unusedSimpArgs false
namespace Go.Tw

section
variable {C : Ctx} {nt : Nat} {ro wro : Option Nat} {o : Orig} {s s' : Nat → Option Nat} {H H' : Heap} {w w' : World} {st st' : St} {a : Act} {lo : Nat} {h : Nat → Prop}

theorem load_var {P : PH} (hr : HR P s H w) {t : TypeId} {x v : V} {cx : Value} (h : loadV P H t x = some v) (hx : VH P s H w x cx) : ∃ c, (do loadVar t (← asAddr cx) : Sem Value).run P w = .ok c w ∧ VH P s H w v c := by
  obtain ⟨c, h1, h2⟩ := load_ok hr h hx
  refine ⟨c, ?_, h2⟩
  simp only [loadV, Option.bind_eq_bind, Option.bind_eq_some_iff] at h
  obtain ⟨⟨cells, off⟩, hc, h⟩ := h
  unfold cellsAt at hc
  split at hc
  · obtain ⟨q, rfl, hq⟩ := hx
    simpa [Instr.loadAt, Instr.sureAddr, asAddr] using h1
  · obtain ⟨g, o, cs', rfl, hg, hv, ha⟩ := hx
    simpa [Instr.loadAt, Instr.sureAddr, asAddr] using h1
  · cases hc

theorem run_mapM_cons {α β : Type} {P : Program} {f : α → Sem β} {x : α} {l : List α} {y : β} {ys : List β} (h1 : (f x).run P w = .ok y w) (h2 : (l.mapM f).run P w = .ok ys w) : ((x :: l).mapM f).run P w = .ok (y :: ys) w := by
  rw [List.mapM_cons, Sem.run_bind, h1]
  simp [h2]

def resRead (tmps : Array Value) : ResultVar → Sem Value
  | .tmp t => pure (tmps.getD t undef)
  | .cell x t => do loadVar t (← asAddr (tmps.getD x undef))

theorem results_eq (fn : Func) (tmps : Array Value) : results fn tmps = (do let vs ← fn.results.mapM (resRead tmps); pure (if h : vs.size = 1 then vs[0] else .tuple vs)) := by
  have e : (fun | .tmp t => pure (tmps.getD t undef) | .cell a t => do loadVar t (← asAddr (tmps.getD a undef)) : ResultVar → Sem Value) = resRead tmps := by
    funext x
    cases x <;> rfl
  rw [← e]
  rfl

theorem loadRes_ok (hr : HR (C.ph h) s H w) {T : Tr V} (tm : ∀ t, VH (C.ph h) s H w (tget T t) (a.tmps.getD t undef)) : ∀ {l : List ResultVar} {vs : List V}, loadRes C T H l = some vs →
    ∃ cs, (l.mapM (resRead a.tmps)).run C.P w = .ok cs w ∧ VHs (C.ph h) s H w vs cs
  | [], vs, h => by
    simp only [loadRes, Option.some.injEq] at h
    subst h
    exact ⟨[], by simp, by simp [VRs]⟩
  | .tmp t :: r, vs, h => by
    simp only [loadRes] at h
    obtain ⟨us, h1, rfl⟩ := Option.map_eq_some_iff.1 h
    obtain ⟨cs, h2, h3⟩ := loadRes_ok hr tm h1
    exact ⟨_ :: cs, run_mapM_cons (by simp [resRead]) h2, _, _, rfl, tm t, h3⟩
  | .cell x t :: r, vs, h => by
    simp only [loadRes, Option.bind_eq_bind, Option.bind_eq_some_iff, Option.some.injEq] at h
    obtain ⟨v, hv, us, h1, rfl⟩ := h
    obtain ⟨cs, h2, h3⟩ := loadRes_ok hr tm h1
    obtain ⟨c, h4, h5⟩ := load_var hr hv (tm x)
    exact ⟨c :: cs, run_mapM_cons h4 h2, _, _, rfl, h5, h3⟩

theorem results_ok (hr : HR (C.ph h) s H w) {T : Tr V} (tm : ∀ t, VH (C.ph h) s H w (tget T t) (a.tmps.getD t undef)) {fn : Func} {vs : List V} (hl : loadRes C T H fn.results.toList = some vs) :
    ∃ c, (results fn a.tmps).run C.P w = .ok c w ∧ VH (C.ph h) s H w (resOf vs) c := by
  obtain ⟨cs, h1, h2⟩ := loadRes_ok hr tm hl
  rw [results_eq, Array.mapM_eq_mapM_toList]
  refine ⟨if h : cs.toArray.size = 1 then cs.toArray[0] else .tuple cs.toArray, ?_, ?_⟩
  · simp only [map_eq_pure_bind, bind_assoc, pure_bind]
    rw [Sem.run_bind, h1]
    simp
  · have hlen := h2.length
    match vs, h2 with
    | [], h2 =>
      simp only [VRs] at h2
      subst h2
      exact ⟨#[], by simp, by simp [VRs]⟩
    | [v], h2 =>
      obtain ⟨c, cs', rfl, h3, h4⟩ := h2
      simp only [VRs] at h4
      subst h4
      exact h3
    | v :: u :: r, h2 =>
      have : ¬ cs.length = 1 := by simp at hlen; omega
      refine ⟨cs.toArray, ?_, by simpa using h2⟩
      simp [this]

def Ex.to : Ex → Exit
  | .normal => .normal
  | .exit i => .exit i
  | .ret => .ret

/-- Regions that draw their order. -/
def RegionStep (C : Ctx) : Prop :=
  ∀ (n nt : Nat) (ro wro : Option Nat) (o : Orig) (h : Nat → Prop) (s : Nat → Option Nat) (w : World) (st st' : St) (a : Act) (ops : Array Oper) (es : List Eff) (Q : Exit → Act → World → Prop),
    (∀ m, m < n → OpStep C (callV C m)) → regOk ops = true → runOps C n nt ops ops.toList st = some (es, st') → orderOk ops es = true → SR C h nt ro wro o s w st a →
    (∀ s' w' a', SR C h nt ro wro o s' w' st' a' → Q .normal a' w') → wpAnyIn (WF wro) 0 C.P .any ops Q ops.size (Array.replicate ops.size false) a w

def ExecStep (C : Ctx) (n : Nat) : Prop :=
  ∀ (nt : Nat) (ro wro : Option Nat) (o : Orig) (h : Nat → Prop) (c : Code) (st st' : St) (x : Ex) (s : Nat → Option Nat) (w : World) (a : Act) (Q : Exit → Act → World → Prop),
    exec C n ro nt c st = some (x, st') → SR C h nt ro wro o s w st a → (∀ s' w' a', SR C h nt ro wro o s' w' st' a' → Q x.to a' w') → c.wpIn (WF wro) 0 C.P Q a w

def FuncStep (C : Ctx) (n : Nat) : Prop :=
  ∀ (h : Nat → Prop) (s : Nat → Option Nat) (H : Heap) (w : World) (g : FuncId) (args : List V) (cas : Array Value) (r : OR) (K : Value → World → Prop),
    HR (C.ph h) s H w → GOK C h s w → VHs (C.ph h) s H w args cas.toList → callF C n g args H = some r →
    (∀ c w' s', VH (C.ph h) s' r.H w' r.v c → HR (C.ph h) s' r.H w' → Ext r.lo s H w s' r.H w' → K c w') → CallF C.P g cas w K

/-- Memory turns, the slots don't. -/
theorem SR.turn (R : SR C h nt ro wro o s w st a) {H' : Heap} {l : Nat} (hr : HR (C.ph h) s' H' w') (E : Ext l s st.H w s' H' w') : SR C h nt ro wro o s' w' ⟨st.T, H', min st.lo l⟩ a :=
  ⟨R.ob, hr, R.gk.ext E, Nat.le_trans (Nat.min_le_left _ _) R.ln, R.ext.trans R.ob E, R.sz, R.df.ext E, R.rd.ext E, fun t => E.vh (R.tm t)⟩

theorem SR.lon (R : SR C h nt ro wro o s w st a) : st.lo ≤ st.H.n := Nat.le_trans R.ln R.ext.hn

theorem SR.drew (R : SR C h nt ro wro o s w st a) : SR C h nt ro wro o s w.drew st a := by
  have h1 : min st.lo st.H.n = st.lo := by have := R.lon; omega
  have := R.turn R.hr.drew (Ext.drew s st.H w)
  rw [h1] at this
  exact this

theorem loop_ok : ∀ (n : Nat) (ih : ∀ m, m < n → ExecStep C m) (c : Code) (st st' : St) (x : Ex) (s : Nat → Option Nat) (w : World) (a : Act) (Q : Exit → Act → World → Prop),
    exec C n ro nt (.loop c) st = some (x, st') → SR C h nt ro wro o s w st a → (∀ s' w' a', SR C h nt ro wro o s' w' st' a' → Q x.to a' w') → Code.roundsIn (WF wro) 0 C.P c Q n a w
  | 0, _, _, _, _, _, _, _, _, _, he, _, _ => by simp [exec] at he
  | n + 1, ih, c, st, st', x, s, w, a, Q, he, R, hk => by
    simp only [exec] at he
    rw [roundsIn_succ]
    cases h1 : exec C n ro nt c st with
    | none => simp [h1] at he
    | some r =>
      obtain ⟨y, st1⟩ := r
      refine ih n (by omega) nt ro wro o h c st st1 y s w a _ h1 R fun s1 w1 a1 R1 => ?_
      cases y with
      | normal =>
        simp only [h1] at he
        exact loop_ok n (fun m hm => ih m (by omega)) c st1 st' x s1 w1 a1 Q he R1 hk
      | exit i =>
        simp only [h1, Option.some.injEq, Prod.mk.injEq] at he
        obtain ⟨rfl, rfl⟩ := he
        exact hk s1 w1 a1 R1
      | ret =>
        simp only [h1, Option.some.injEq, Prod.mk.injEq] at he
        obtain ⟨rfl, rfl⟩ := he
        exact hk s1 w1 a1 R1

/-- A loop over a function is entered. -/
theorem enter_loop (R : SR C h nt ro wro o s w st a) (hro : roOk st.H ro = true) (fn : FuncId) (ps : Array Tmp) (assign body : Code) :
    ∃ (l : Nat) (mark : List Deferred) (w₁ : World) (s₁ : Nat → Option Nat),
      (Instr.enterLoop fn a.tmps ps assign body wro).run C.P w = .ok (l, mark) w₁ ∧ s₁ st.H.n = some l ∧
      SR C h nt ro wro o s₁ w₁ ⟨st.T, st.H.push (.loop ((List.range nt).map (tget st.T)) ps.toList assign body .ready none), st.lo⟩ { a with defers := mark ++ a.defers } ∧
      Ext st.H.n s st.H w s₁ (st.H.push (.loop ((List.range nt).map (tget st.T)) ps.toList assign body .ready none)) w₁ := by
  have hlo : min st.lo st.H.n = st.lo := by have := R.lon; omega
  cases wro with
  | some l₀ =>
    have h0 : ∃ L : Loop, w.heap[l₀]? = some (.loop L) := by
      cases ro with
      | none => exact absurd R.rd (by simp [Rd])
      | some b =>
        simp only [roOk] at hro
        split at hro
        · rename_i ts ps' as bd sta pd hb
          obtain ⟨_, L, h1, _⟩ := loop_get R.hr hb R.rd
          exact ⟨L, h1⟩
        · cases hro
    obtain ⟨L, hL⟩ := h0
    have hb : BR (C.ph h) s st.H w (.loop ((List.range nt).map (tget st.T)) ps.toList assign body .ready none) (.loop { state := .ready, pending := none, fn, tmps := a.tmps, params := ps, assign, body, defers := L.defers }) :=
      ⟨_, rfl, by simp, rfl, rfl, rfl, rfl, snap_tm R.sz R.tm⟩
    obtain ⟨m1, m2⟩ := new_block R.hr hb
    have R1 := R.turn m1 m2
    rw [hlo] at R1
    exact ⟨_, [], _, _, run_enterLoop_inner hL fn a.tmps ps assign body, by simp, by simpa using R1, m2⟩
  | none =>
    obtain ⟨k1, k2⟩ := hide_alloc R.hr (.deferred (some []))
    have hb : BR (C.ph h) s st.H (w.alloc (.deferred (some []))) (.loop ((List.range nt).map (tget st.T)) ps.toList assign body .ready none) (.loop { state := .ready, pending := none, fn, tmps := a.tmps, params := ps, assign, body, defers := w.heap.size }) :=
      ⟨_, rfl, by simp, rfl, rfl, rfl, rfl, k2.vhs (snap_tm R.sz R.tm)⟩
    obtain ⟨m1, m2⟩ := new_block k1 hb
    have E := k2.trans (fun b g hb => (R.hr.lt hb).1) m2
    rw [Nat.min_self] at E
    have R1 := R.turn m1 E
    rw [hlo] at R1
    refine ⟨_, _, _, _, run_enterLoop_outer fn a.tmps ps assign body, by simp, ⟨R1.ob, R1.hr, R1.gk, R1.ln, R1.ext, R1.sz, ?_, R1.rd, R1.tm⟩, E⟩
    obtain ⟨rs, e, hn, hrs⟩ := R.df
    obtain ⟨rs', e', hn', hrs'⟩ := R1.df
    refine ⟨w.heap.size :: rs, by simp [e, mark], List.nodup_cons.2 ⟨fun hm => ?_, hn⟩, fun r hr => ?_⟩
    · have := (hrs _ hm).2.1.1
      omega
    · rcases List.mem_cons.1 hr with rfl | hr
      · refine ⟨R.ext.size, ⟨?_, fun b hb => ?_, fun hh => ?_⟩, ?_⟩
        · simp only [World.size_alloc]
          omega
        · replace hb : (if b = st.H.n then some (w.alloc (Obj.deferred (some []))).heap.size else s b) = some w.heap.size := hb
          by_cases e : b = st.H.n
          · rw [if_pos e] at hb
            injection hb with hb
            simp only [World.size_alloc] at hb
            omega
          · rw [if_neg e] at hb
            have := (R.hr.lt hb).2
            omega
        · have := R.gk.1 _ hh
          omega
        · show (((w.heap.push _).push _ : Array Obj))[w.heap.size]? = _
          rw [Array.getElem?_push, if_neg (by simp), Array.getElem?_push, if_pos rfl]
      · obtain ⟨q1, q2, q3⟩ := hrs r hr
        exact ⟨q1, E.grow.hp r q2, by rw [E.frame r q2.1 fun b hb => absurd hb (q2.2.1 b)]; exact q3⟩

theorem enter_run {n : Nat} {g : FuncId} {args : List V} {cas : Array Value} {r : OR} (hs : C.S g = none) (he : callF C n g args H = some r) : (callFunc g cas).run C.P w = .ok (.enter g cas) w := by
  cases n with
  | zero => simp [callF] at he
  | succ n =>
    simp only [callF, hs] at he
    split at he
    · rename_i fn hf
      split at he
      · rename_i body hb
        cases hn : (fn.name == "runtime.NumGoroutine") with
        | true => simp [hn] at he
        | false =>
          have hn' : ¬ fn.name = "runtime.NumGoroutine" := by simpa using hn
          simp [callFunc, hf, hn', hb]
      · cases he
    · cases he

theorem exec_ok (hC : CtxOK C) (hreg : RegionStep C) (n : Nat) (ih : ∀ m, m < n → ExecStep C m) (hfn : ∀ m, m < n → FuncStep C m) (hop : ∀ m, m < n → OpStep C (callV C m)) : ExecStep C n := by
  intro nt ro wro o h c st st' x s w a Q he R hk
  cases n with
  | zero => simp [exec] at he
  | succ n =>
    have ih' := ih n (by omega)
    cases c <;> (try (simp [exec] at he; done))
    case skip =>
      simp only [exec, Option.some.injEq, Prod.mk.injEq] at he
      obtain ⟨rfl, rfl⟩ := he
      exact wpIn_skip (hk s w a R)
    case label l =>
      simp only [exec, Option.some.injEq, Prod.mk.injEq] at he
      obtain ⟨rfl, rfl⟩ := he
      exact wpIn_label (hk s w a R)
    case exit i =>
      simp only [exec, Option.some.injEq, Prod.mk.injEq] at he
      obtain ⟨rfl, rfl⟩ := he
      exact wpIn_exit (hk s w a R)
    case ret =>
      simp only [exec, Option.some.injEq, Prod.mk.injEq] at he
      obtain ⟨rfl, rfl⟩ := he
      exact wpIn_ret (hk s w a R)
    case region id ops draw =>
      simp only [exec] at he
      cases draw with
      | false =>
        simp only [cond_false] at he
        split at he
        · rename_i es st1 h1
          simp only [Option.some.injEq, Prod.mk.injEq] at he
          obtain ⟨rfl, rfl⟩ := he
          exact wpIn_region_list (runOps_ok n (fun m hm => hop m (by omega)) _ h1 R Q hk)
        · cases he
      | true =>
        simp only [cond_true] at he
        cases hg : regOk ops with
        | false => simp [hg] at he
        | true =>
          simp only [hg, cond_true] at he
          split at he
          · rename_i es st1 h1
            cases ho : orderOk ops es with
            | false => simp [ho] at he
            | true =>
              simp only [ho, cond_true, Option.some.injEq, Prod.mk.injEq] at he
              obtain ⟨rfl, rfl⟩ := he
              exact wpIn_region_any hC.mix (hreg n nt ro wro o h s _ st st1 a ops es Q (fun m hm => hop m (by omega)) hg h1 ho R.drew hk)
          · cases he
    case seq b d =>
      simp only [exec] at he
      cases h1 : exec C n ro nt b st with
      | none => simp [h1] at he
      | some r =>
        obtain ⟨y, st1⟩ := r
        refine wpIn_seq (ih' nt ro wro o h b st st1 y s w a _ h1 R fun s1 w1 a1 R1 => ?_)
        cases y with
        | normal =>
          simp only [h1] at he
          exact ih' nt ro wro o h d st1 st' x s1 w1 a1 Q he R1 hk
        | exit i =>
          simp only [h1, Option.some.injEq, Prod.mk.injEq] at he
          obtain ⟨rfl, rfl⟩ := he
          exact hk s1 w1 a1 R1
        | ret =>
          simp only [h1, Option.some.injEq, Prod.mk.injEq] at he
          obtain ⟨rfl, rfl⟩ := he
          exact hk s1 w1 a1 R1
    case cond q b d =>
      simp only [exec] at he
      split at he
      · rename_i t ht
        have h1 := rho_ok R.gk R.tm q
        rw [ht] at h1
        simp only [VH, VR] at h1
        refine wpIn_cond h1 ?_
        cases t with
        | true => exact ih' nt ro wro o h b st st' x s w a Q he R hk
        | false => exact ih' nt ro wro o h d st st' x s w a Q he R hk
      · cases he
    case block id b =>
      simp only [exec] at he
      cases h1 : exec C n ro nt b st with
      | none => simp [h1] at he
      | some r =>
        obtain ⟨y, st1⟩ := r
        refine wpIn_block (ih' nt ro wro o h b st st1 y s w a _ h1 R fun s1 w1 a1 R1 => ?_)
        cases y with
        | normal =>
          simp only [h1, Option.some.injEq, Prod.mk.injEq] at he
          obtain ⟨rfl, rfl⟩ := he
          exact hk s1 w1 a1 R1
        | exit i =>
          simp only [h1] at he
          simp only [Ex.to, Exit.inBlock]
          by_cases e : i = id
          · rw [if_pos e]
            simp only [beqt e, cond_true, Option.some.injEq, Prod.mk.injEq] at he
            obtain ⟨rfl, rfl⟩ := he
            exact hk s1 w1 a1 R1
          · rw [if_neg e]
            simp only [beqf e, cond_false, Option.some.injEq, Prod.mk.injEq] at he
            obtain ⟨rfl, rfl⟩ := he
            exact hk s1 w1 a1 R1
        | ret =>
          simp only [h1, Option.some.injEq, Prod.mk.injEq] at he
          obtain ⟨rfl, rfl⟩ := he
          exact hk s1 w1 a1 R1
    case loop b => exact wpIn_loop_rounds _ (loop_ok (n + 1) ih b st st' x s w a Q he R hk)
    case rangeFunc q ps assign body =>
      simp only [exec] at he
      cases hro : roOk st.H ro with
      | false => simp [hro] at he
      | true =>
        simp only [hro, cond_true] at he
        split at he
        · rename_i g first cap hq
          split at he
          · rename_i hs
            cases hcall : callF C n g (first ++ [.yld st.H.n] ++ cap) (st.H.push (.loop ((List.range nt).map (tget st.T)) ps.toList assign body .ready none)) with
            | none => simp only [hcall] at he; cases he
            | some r =>
              simp only [hcall] at he
              have hv := rho_ok R.gk R.tm q
              rw [hq] at hv
              obtain ⟨xs, ys, ev, hx, hy⟩ := hv
              refine wpIn_rangeFunc fun fn _ => ?_
              obtain ⟨l, mark, w₁, s₁, h1, h2, R1, E1⟩ := enter_loop R hro fn ps assign body
              have hargs : VHs (C.ph h) s₁ (st.H.push (.loop ((List.range nt).map (tget st.T)) ps.toList assign body .ready none)) w₁ (first ++ [.yld st.H.n] ++ cap) (xs ++ #[Value.func (.yield l) #[] #[]] ++ ys).toList := by
                have h3 : VHs (C.ph h) s₁ (st.H.push (.loop ((List.range nt).map (tget st.T)) ps.toList assign body .ready none)) w₁ [.yld st.H.n] [Value.func (.yield l) #[] #[]] := ⟨_, _, rfl, ⟨l, rfl, .inr h2⟩, rfl⟩
                have := ((E1.vhs hx).append h3).append (E1.vhs hy)
                simpa using this
              have hrun : (callFunc g (xs ++ #[Value.func (.yield l) #[] #[]] ++ ys)).run C.P w₁ = .ok (.enter g (xs ++ #[Value.func (.yield l) #[] #[]] ++ ys)) w₁ := enter_run hs hcall
              refine ⟨l, mark, w₁, { target := .fn (.func g) ys, args := xs ++ #[Value.func (.yield l) #[] #[]] }, w₁, g, xs ++ #[Value.func (.yield l) #[] #[]] ++ ys, w₁, h1, ?_, fun _ _ => trivial, ?_, fun hd => by simp [Fence.wide] at hd, ?_⟩
              · show (Deferred.ofValue (a.eval q) _).run C.P w₁ = _
                rw [ev]
                simp [Deferred.ofValue, Act.eval]
              · simpa [invoke] using hrun
              · have hc : CallF C.P g (xs ++ #[Value.func (.yield l) #[] #[]] ++ ys) w₁ (fun c w' => rangePost (WF wro) 0 C.P l Q { a with defers := mark ++ a.defers } (.returned c) w') := by
                  refine hfn n (by omega) h s₁ _ w₁ g _ _ r _ R1.hr R1.gk hargs hcall fun c w' s' k1 k2 k3 => ?_
                  have R2 := R1.turn k2 k3
                  split at he
                  · rename_i ts ps' as bd sta pd hb
                    have hdead : Dead r.H st.H.n ∨ s' st.H.n = some l := (k3.ss _ _ h2).elim .inr fun x => .inl x.1
                    obtain ⟨q1, L, q2, q3, q4, q5, q6, q7, q8⟩ := loop_get k2 hb hdead
                    have fin : sta ≠ .busy → ∃ jump w₄, (Instr.endLoop l).run C.P w' = .ok jump w₄ ∧ jump = pd ∧ SR C h nt ro wro o s' w₄ ⟨st.T, r.H.set st.H.n (.loop ts ps' as bd .exhausted pd), min st.lo r.lo⟩ { a with defers := mark ++ a.defers } := by
                      intro hsta
                      obtain ⟨m1, m2⟩ := loop_set k2 q1 (st := .exhausted) (pd := pd) q2 q3 q4 q5 q8 { L with state := .exhausted } rfl rfl rfl rfl rfl q7
                      have R3 := R2.turn m1 m2
                      refine ⟨_, _, run_endLoop q2 (by rw [q6]; exact hsta), q7, ?_⟩
                      have e : min (min st.lo r.lo) st.H.n = min st.lo r.lo := by have := R.lon; omega
                      simpa only [e] using R3
                    cases sta with
                    | busy => cases he
                    | _ =>
                      simp only at he
                      obtain ⟨jump, w₄, f1, rfl, R3⟩ := fin (by simp)
                      refine ⟨_, w₄, f1, ?_⟩
                      cases jump with
                      | none =>
                        simp only [Option.some.injEq, Prod.mk.injEq] at he
                        obtain ⟨rfl, rfl⟩ := he
                        exact hk _ _ _ R3
                      | some cc => exact ih' nt ro wro o h cc _ st' x s' w₄ _ Q he R3 hk
                  · cases he
                unfold CallF at hc
                rw [hrun] at hc
                simp only at hc
                exact callsIn_any _ (Calls.mono hc fun e w'' hh => by
                  obtain ⟨v, rfl, h4⟩ := hh
                  exact h4)
          · cases he
        · cases he
end
end Go.Tw
