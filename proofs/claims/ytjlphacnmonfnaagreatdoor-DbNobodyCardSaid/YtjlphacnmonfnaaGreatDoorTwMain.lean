/- The evaluator is sound, by induction, if it is so for regions that draw their order. No condition. -/
import Derived.Test.YtjlphacnmonfnaaGreatDoorTwCall
set_option linter.unusedVariables false
set_option linter.unusedSimpArgs false
namespace Go.Tw

section
variable {C : Ctx} {nt : Nat} {ro wro : Option Nat} {o : Orig} {s s' : Nat → Option Nat} {H H' : Heap} {w w' : World} {st st' : St} {a : Act} {lo : Nat} {h : Nat → Prop}

theorem tget_initT : ∀ (vs : List V) (i : Nat) (T : Tr V) (t : Nat), tget (initT vs i T) t = if i ≤ t then (vs[t - i]?).getD (tget T t) else tget T t
  | [], i, T, t => by simp [initT]
  | v :: vs, i, T, t => by
    rw [initT, tget_initT vs (i + 1)]
    simp only [tget_tset]
    by_cases e : t = i
    · subst e
      rw [if_neg (by omega), if_pos rfl, if_pos (Nat.le_refl _)]
      simp
    · by_cases l : i ≤ t
      · rw [if_pos (by omega), if_neg e, if_pos l, show t - i = (t - (i + 1)) + 1 by omega]
        simp
      · rw [if_neg (by omega), if_neg e, if_neg l]

theorem init_tm {args : List V} {cas : Array Value} (ha : VHs (C.ph h) s H w args cas.toList) (k t : Nat) : VH (C.ph h) s H w (tget (initT args 0 .nil) t) ((cas ++ Array.replicate k undef).getD t undef) := by
  have hl := ha.length
  rw [tget_initT, if_pos (Nat.zero_le _), Nat.sub_zero]
  have e : (cas ++ Array.replicate k undef).getD t undef = (cas.toList[t]?).getD undef := by
    rw [Array.getD_eq_getD_getElem?, Array.getElem?_append]
    by_cases l : t < cas.size
    · simp [l]
    · rw [if_neg l, Array.getElem?_replicate]
      have : cas.toList[t]? = none := by simp; omega
      rw [this]
      split <;> simp
  rw [e]
  cases hv : args[t]? with
  | none =>
    have : cas.toList[t]? = none := by
      rw [List.getElem?_eq_none_iff] at hv ⊢
      omega
    rw [this]
    simp [tget, Tr.get, VR]
  | some v =>
    obtain ⟨c, h1, h2⟩ := ha.get hv
    rw [h1]
    exact h2

/-- A mark's block is shut. -/
theorem shut {P : PH} (hr : HR P s H w) {r : Nat} (hp : Prot P s w r) {q : Option (List Deferred)} (hq : w.heap[r]? = some (.deferred q)) (q' : Option (List Deferred)) :
    Grow s s (Dead H) (Dead H) (Prot P s w) (Prot P s (put w r (.deferred q'))) w (put w r (.deferred q')) ∧ HR P s H (put w r (.deferred q')) := by
  have hoth : ∀ g, g ≠ r → (put w r (.deferred q')).heap[g]? = w.heap[g]? := fun g hg => by rw [put_get, if_neg (fun h => hg h.1)]
  have G : Grow s s (Dead H) (Dead H) (Prot P s w) (Prot P s (put w r (.deferred q'))) w (put w r (.deferred q')) := by
    refine ⟨fun _ h => h, fun _ _ h => .inl h, fun g hg => ⟨by rw [put_size]; exact hg.1, hg.2⟩, fun g _ => ?_, fun g x hx => ?_⟩
    · by_cases e : g = r
      · subst e
        intro off c hc
        simp [World.cell?, hq] at hc
      · exact cell_keep (hoth g e)
    · by_cases e : g = r
      · subst e
        simp only [World.shape?, hq] at hx
        cases hx
      · simp only [World.shape?] at hx ⊢
        rw [hoth g e]; exact hx
  refine ⟨G, fun b g hb => ?_, hr.inj⟩
  obtain ⟨B, o, h1, h2, h3⟩ := hr.dom b g hb
  have hg : g ≠ r := fun e => hp.2.1 b (e ▸ hb)
  exact ⟨B, o, h1, by rw [hoth g hg]; exact h2, h3.mono G⟩

theorem leave_ok {fn : Func} {tmps : Array Value} {w0 : World} {s0 : Nat → Option Nat} {H0 : Heap} {T : Tr V} {R : Ending → World → Prop} {F : Fence} : ∀ (rs : List Nat) (w : World), HR (C.ph h) s H w → Ext lo s0 H0 w0 s H w →
    (∀ t, VH (C.ph h) s H w (tget T t) (tmps.getD t undef)) → rs.Nodup → (∀ r ∈ rs, w0.heap.size ≤ r ∧ Prot (C.ph h) s w r ∧ w.heap[r]? = some (.deferred (some []))) →
    (∀ w', HR (C.ph h) s H w' → Ext lo s0 H0 w0 s H w' → (∀ t, VH (C.ph h) s H w' (tget T t) (tmps.getD t undef)) → LeavesIn F 0 C.P fn tmps R [] .returning w') →
    LeavesInM F 0 C.P fn tmps R (rs.map mark) .returning w
  | [], w, hr, E, ht, _, _, hk => hk w hr E ht
  | r :: rs, w, hr, E, ht, hn, hm, hk => by
    obtain ⟨h1, h2, h3⟩ := hm r (.head _)
    obtain ⟨G, hr'⟩ := shut hr h2 h3 none
    have hn' := List.nodup_cons.1 hn
    have hoth : ∀ g, g ≠ r → (put w r (.deferred none)).heap[g]? = w.heap[g]? := fun g hg => by rw [put_get, if_neg (fun h => hg h.1)]
    have E' : Ext lo s0 H0 w0 s H (put w r (.deferred none)) :=
      ⟨E.os, E.tape, E.output, by rw [put_size]; exact E.size, E.hn, E.dd, E.ss, fun g hg hb => by rw [hoth g (by omega)]; exact E.frame g hg hb, E.fresh, fun g x hx => G.hz g x (E.shp g x hx), E.old, E.cov⟩
    refine ⟨by simp, .inl ⟨r, put w r (.deferred none), rfl, run_takeDeferred h3, ?_⟩⟩
    refine leave_ok rs _ hr' E' (fun t => VR.mono G _ _ (ht t)) hn'.2 (fun r' hr' => ?_) hk
    obtain ⟨q1, q2, q3⟩ := hm r' (.tail _ hr')
    exact ⟨q1, G.hp r' q2, by rw [hoth r' (fun e => hn'.1 (e ▸ hr'))]; exact q3⟩

/-! ### Deferred calls -/
theorem marks_steps {F : Fence} {n : Nat} {P : Program} {fn : Func} {tmps : Array Value} {R : Ending → World → Prop} : ∀ (rs : List Nat) (w : World) (fr : Frame) (cs : List Frame), fr.mode = .returning → fr.defers = rs.map mark → F.fn fr.fn → F.room (cs.length + 1 + n) →
    LeavesInM F n P fn tmps R (rs.map mark) .returning w → ∃ v w', (results fn tmps).run P w' = .ok v w' ∧ R (.returned v) w' ∧ StepsIn (Machine.fenced P F) P (lone fr cs w) (lone { fr with defers := [] } cs w')
  | [], w, fr, cs, hm, hd, hF, hr, h => by
    obtain ⟨v, h1, h2⟩ := h
    have : ({ fr with defers := [] } : Frame) = fr := by cases fr; simp only at hd; rw [hd]; rfl
    exact ⟨v, w, h1, h2, by rw [this]; exact StepsIn.refl _⟩
  | r :: rs, w, fr, cs, hm, hd, hF, hr, h => by
    obtain ⟨_, h⟩ := h
    rcases h with ⟨r', w', ht, hk, hrest⟩ | ⟨_, fv, cap, f, args, ht, _⟩
    · injection ht with ht
      subst ht
      have h1 := step_collected (P := P) (cs := cs) (w := w) (w' := w') (fr := fr) (d := mark r) (ds := rs.map mark) (r := r) (calls := []) (by rw [hm]; simp) hd rfl hk
      have i1 : (lone fr cs w).fenced P F := fenced_out hF hr (by rw [hm]; simp) hd (fun g hg => by simp [mark, Target.leads] at hg)
      obtain ⟨v, w2, k1, k2, k3⟩ := marks_steps rs w' { fr with defers := [] ++ rs.map mark } cs hm rfl hF hr hrest
      exact ⟨v, w2, k1, k2, .head i1 h1 k3⟩
    · cases ht

/-- A function that defers no call itself, entered as a deferred call. -/
theorem callsDIn_marks {P : Program} {f : FuncId} {fn : Func} {c : Code} {args : Array Value} {u : FrameMode} {w : World} {R : Value → World → Prop} (hf : P.funcs[f]? = some fn) (hb : fn.body = some c)
    (h : c.wpIn Fence.wide 0 P (fun x a w => (x = .normal ∨ x = .ret) ∧ ∃ rs : List Nat, a.defers = rs.map mark ∧ LeavesInM Fence.wide 0 P fn a.tmps (fun e w => ∃ v, e = .returned v ∧ R v w) (rs.map mark) .returning w) { tmps := args ++ Array.replicate (fn.ntmps - args.size) undef, defers := [] } w) :
    CallsDIn Fence.wide 0 P f args u w fun e u' w' => u' = u ∧ ∃ v, e = .returned v ∧ R v w' := by
  refine ⟨trivial, fun c₀ cs hu hr => ?_⟩
  let b : Frame := { (default : Frame) with fn := f, kind := .deferred, roundOf := none }
  have henter : Frame.enter P f args .deferred = b.atR { tmps := args ++ Array.replicate (fn.ntmps - args.size) undef, defers := [] } [.code c] := by
    simp [Frame.enter, Frame.atR, hf, hb, b]
  have hc : ({ c₀ with mode := u } : Frame) = c₀ := by subst hu; rfl
  obtain ⟨e, a', w', ⟨hx, rs, hd, hl⟩, harr⟩ := h b [] (c₀ :: cs) rfl trivial hr
  rw [← henter] at harr
  have fin : ∀ fr : Frame, fr.mode = .returning → fr.defers = a'.defers → fr.tmps = a'.tmps → fr.fn = f → fr.kind = .deferred → StepsIn (Machine.fenced P Fence.wide) P (lone (Frame.enter P f args .deferred) (c₀ :: cs) w) (lone fr (c₀ :: cs) w') →
      ∃ e u' w' fr, (u' = u ∧ ∃ v, e = .returned v ∧ R v w') ∧ ComesIn (Machine.fenced P Fence.wide) P (lone (Frame.enter P f args .deferred) (c₀ :: cs) w) (lone fr ({ c₀ with mode := u' } :: cs) w') e ∧ fr.kind = .deferred ∧ fr.fn = f ∧ fr.going P w' e := by
    intro fr h1 h2 h3 h4 h5 h6
    obtain ⟨v, w2, k1, ⟨v', k2, k3⟩, k4⟩ := marks_steps rs w' fr (c₀ :: cs) h1 (h2.trans hd) trivial hr hl
    injection k2 with k2
    subst k2
    exact ⟨.returned v, u, w2, { fr with defers := [] }, ⟨rfl, v, rfl, k3⟩, by rw [hc]; exact StepsIn.trans h6 k4, h5, h4, h1, rfl, fn, by rw [show ({ fr with defers := [] } : Frame).fn = f from h4]; exact hf, by rw [show ({ fr with defers := [] } : Frame).tmps = a'.tmps from h3]; exact k1⟩
  rcases hx with rfl | rfl
  · exact fin { b.atR a' [] with mode := .returning } rfl rfl rfl rfl rfl (StepsIn.trans harr (.one (fenced_calm (fr := b.atR a' []) trivial hr rfl) (stepR_end rfl)))
  · obtain ⟨todo, hs⟩ := harr.1 rfl
    exact fin { b.atR a' todo with mode := .returning } rfl rfl rfl rfl rfl hs

/-- Calls that are deferred, and marks among them. -/
def DR (P : PH) (lo : Nat) (s : Nat → Option Nat) (H : Heap) (w : World) : List (V × List V) → List Deferred → Prop
  | ds, [] => ds = []
  | ds, d :: rest => (∃ r, d = mark r ∧ lo ≤ r ∧ Prot P s w r ∧ w.heap[r]? = some (.deferred (some [])) ∧ (∀ r', mark r' ∈ rest → r' ≠ r) ∧ DR P lo s H w ds rest) ∨
    (∃ f as ds' fn xs ys cas, ds = (f, as) :: ds' ∧ VH P s H w f (.func fn xs ys) ∧ VHs P s H w as cas ∧ d = { target := .fn fn ys, args := xs ++ cas.toArray } ∧ DR P lo s H w ds' rest)

theorem DR.ext {P : PH} {l : Nat} (E : Ext lo s H w s' H' w') : ∀ {ds : List (V × List V)} {rest : List Deferred}, DR P l s H w ds rest → DR P l s' H' w' ds rest
  | ds, [], h => h
  | ds, d :: rest, h => by
    rcases h with ⟨r, h1, h2, h3, h4, h5, h6⟩ | ⟨f, as, ds', fn, xs, ys, cas, h1, h2, h3, h4, h5⟩
    · exact .inl ⟨r, h1, h2, E.grow.hp r h3, by rw [E.frame r h3.1 fun b hb => absurd hb (h3.2.1 b)]; exact h4, h5, DR.ext E h6⟩
    · exact .inr ⟨f, as, ds', fn, xs, ys, cas, h1, E.vh h2, E.vhs h3, h4, DR.ext E h5⟩

theorem DR.shut {P : PH} {l : Nat} {r : Nat} {q : Option (List Deferred)} (G : Grow s s (Dead H) (Dead H) (Prot P s w) (Prot P s (put w r (.deferred q))) w (put w r (.deferred q))) : ∀ {ds : List (V × List V)} {rest : List Deferred}, (∀ r', mark r' ∈ rest → r' ≠ r) → DR P l s H w ds rest → DR P l s H (put w r (.deferred q)) ds rest
  | ds, [], _, h => h
  | ds, d :: rest, hne, h => by
    rcases h with ⟨r', h1, h2, h3, h4, h5, h6⟩ | ⟨f, as, ds', fn, xs, ys, cas, h1, h2, h3, h4, h5⟩
    · refine .inl ⟨r', h1, h2, G.hp r' h3, ?_, h5, DR.shut G (fun r' hr => hne r' (.tail _ hr)) h6⟩
      rw [put_get, if_neg (fun e => hne r' (h1 ▸ .head _) e.1)]
      exact h4
    · exact .inr ⟨f, as, ds', fn, xs, ys, cas, h1, VR.mono G _ _ h2, VRs.mono G _ _ h3, h4, DR.shut G (fun r' hr => hne r' (.tail _ hr)) h5⟩

theorem DR.marks {P : PH} {l : Nat} : ∀ {rs : List Nat} {ds : List (V × List V)} {rest : List Deferred}, rs.Nodup → (∀ r ∈ rs, l ≤ r ∧ Prot P s w r ∧ w.heap[r]? = some (.deferred (some [])) ∧ ∀ r', mark r' ∈ rest → r' ≠ r) → DR P l s H w ds rest → DR P l s H w ds (rs.map mark ++ rest)
  | [], ds, rest, _, _, h => h
  | r :: rs, ds, rest, hn, hm, h => by
    obtain ⟨h1, h2, h3, h4⟩ := hm r (.head _)
    have hn' := List.nodup_cons.1 hn
    refine .inl ⟨r, rfl, h1, h2, h3, fun r' hr => ?_, DR.marks hn'.2 (fun r' hr => hm r' (.tail _ hr)) h⟩
    rcases List.mem_append.1 hr with hr | hr
    · obtain ⟨q, hq, e⟩ := List.mem_map.1 hr
      injection e with e
      injection e with e
      subst e
      exact fun e => hn'.1 (e ▸ hq)
    · exact h4 r' hr

def FuncStepD (C : Ctx) (n : Nat) : Prop :=
  ∀ (h : Nat → Prop) (s : Nat → Option Nat) (H : Heap) (w : World) (g : FuncId) (args : List V) (cas : Array Value) (r : OR) (K : Value → World → Prop),
    HR (C.ph h) s H w → GOK C h s w → VHs (C.ph h) s H w args cas.toList → C.S g = none → defers C.P g = false → callF C n g args H = some r →
    (∀ c w' s', VH (C.ph h) s' r.H w' r.v c → HR (C.ph h) s' r.H w' → Ext r.lo s H w s' r.H w' → K c w') → ∀ u, CallsDIn Fence.wide 0 C.P g cas u w fun e u' w' => u' = u ∧ ∃ v, e = .returned v ∧ K v w'

theorem leaveD {fn : Func} {tmps : Array Value} {w0 : World} {s0 : Nat → Option Nat} {H0 : Heap} {T : Tr V} {R : Ending → World → Prop} (hob : ∀ b g, s0 b = some g → b < H0.n) : ∀ (rest : List Deferred) (n : Nat) (hfd : ∀ m, m < n → FuncStepD C m) (ds : List (V × List V)) (s : Nat → Option Nat) (H H' : Heap) (w : World) (lo lo' : Nat),
    runDs C n ds H lo = some (H', lo') → DR (C.ph h) w0.heap.size s H w ds rest → HR (C.ph h) s H w → GOK C h s w → Ext lo s0 H0 w0 s H w → (∀ t, VH (C.ph h) s H w (tget T t) (tmps.getD t undef)) →
    (∀ s' w', HR (C.ph h) s' H' w' → GOK C h s' w' → Ext lo' s0 H0 w0 s' H' w' → (∀ t, VH (C.ph h) s' H' w' (tget T t) (tmps.getD t undef)) → LeavesIn Fence.wide 0 C.P fn tmps R [] .returning w') →
    LeavesInM Fence.wide 0 C.P fn tmps R rest .returning w
  | [], n, _, ds, s, H, H', w, lo, lo', he, hd, hr, hg, E, ht, hk => by
    have hd : ds = [] := hd
    subst hd
    cases n with
    | zero => simp [runDs] at he
    | succ n =>
      simp only [runDs, Option.some.injEq, Prod.mk.injEq] at he
      obtain ⟨rfl, rfl⟩ := he
      exact hk s w hr hg E ht
  | d :: rest, n, hfd, ds, s, H, H', w, lo, lo', he, hd, hr, hg, E, ht, hk => by
    rcases hd with ⟨r, rfl, h1, h2, h3, h4, h5⟩ | ⟨f, as, ds', fn', xs, ys, cas, rfl, h2, h3, rfl, h5⟩
    · obtain ⟨G, hr'⟩ := shut hr h2 h3 none
      have hoth : ∀ g, g ≠ r → (put w r (.deferred none)).heap[g]? = w.heap[g]? := fun g hg => by rw [put_get, if_neg (fun h => hg h.1)]
      have E' : Ext lo s0 H0 w0 s H (put w r (.deferred none)) :=
        ⟨E.os, E.tape, E.output, by rw [put_size]; exact E.size, E.hn, E.dd, E.ss, fun g hg hb => by rw [hoth g (by omega)]; exact E.frame g hg hb, E.fresh, fun g x hx => G.hz g x (E.shp g x hx), E.old, E.cov⟩
      have hg' : GOK C h s (put w r (.deferred none)) := by
        refine ⟨fun g hh => by rw [put_size]; exact hg.1 g hh, fun g cs hc => ?_⟩
        obtain ⟨q1, vs, q2, q3⟩ := hg.2 g cs hc
        refine ⟨G.hp g q1, vs, VRs.mono ⟨fun _ h => h, fun _ _ h => .inl h, fun _ h => h, fun _ (h : False) => h.elim, G.hz⟩ _ _ q2, ?_⟩
        intro i c hi
        exact G.hw g q1 _ _ (q3 i c hi)
      exact ⟨by simp, .inl ⟨r, put w r (.deferred none), rfl, run_takeDeferred h3, leaveD hob rest n hfd ds s H H' _ lo lo' he (DR.shut G h4 h5) hr' hg' E' (fun t => VR.mono G _ _ (ht t)) hk⟩⟩
    · cases n with
      | zero => simp [runDs] at he
      | succ n =>
        unfold runDs at he
        split at he
        · rename_i g first cap
          split at he
          · cases he
          · rename_i hs
            cases hdf : defers C.P g with
            | true => rw [hdf] at he; cases he
            | false =>
              rw [hdf] at he
              simp only [cond_false] at he
              split at he
              · rename_i r hc
                obtain ⟨xs', ys', e, k1, k2⟩ := h2
                injection e with e1 e2 e3
                subst e1 e2 e3
                have hargs : VHs (C.ph h) s H w (first ++ as ++ cap) (xs ++ cas.toArray ++ ys).toList := by
                  have := (k1.append h3).append k2
                  simpa using this
                refine ⟨by simp, .inr ⟨fun hd => by simp [Fence.wide] at hd, .func g, ys, g, xs ++ cas.toArray ++ ys, rfl, enter_run hs hc, fun _ _ => trivial, ?_⟩⟩
                refine CallsDIn.mono (hfd n (by omega) h s H w g _ _ r (fun _ w' => LeavesInM Fence.wide 0 C.P fn tmps R rest .returning w') hr hg hargs hs hdf hc (fun c w' s' q1 q2 q3 => ?_) .returning) ?_
                · have E2 := E.trans hob q3
                  exact leaveD hob rest n (fun m hm => hfd m (by omega)) ds' s' r.H H' w' _ lo' he (DR.ext q3 h5) q2 (hg.ext q3) E2 (fun t => q3.vh (ht t)) hk
                · rintro e u' w' ⟨rfl, v, rfl, hq⟩
                  exact hq
              · cases he
        · cases he

/-- A state of a function that defers calls. -/
structure SD (C : Ctx) (h : Nat → Prop) (nt : Nat) (o : Orig) (s : Nat → Option Nat) (w : World) (st : St) (a : Act) (ds : List (V × List V)) : Prop where
  ob : ∀ b g, o.s b = some g → b < o.H.n
  hr : HR (C.ph h) s st.H w
  gk : GOK C h s w
  ln : st.lo ≤ o.H.n
  ext : Ext st.lo o.s o.H o.w s st.H w
  sz : a.tmps.size = nt
  dr : DR (C.ph h) o.w.heap.size s st.H w ds a.defers
  tm : ∀ t, VH (C.ph h) s st.H w (tget st.T t) (a.tmps.getD t undef)

theorem DR.lt {P : PH} {l : Nat} : ∀ {ds : List (V × List V)} {rest : List Deferred} {r : Nat}, DR P l s H w ds rest → mark r ∈ rest → r < w.heap.size
  | ds, d :: rest, r, h, hr => by
    rcases h with ⟨r', h1, h2, h3, h4, h5, h6⟩ | ⟨f, as, ds', fn, xs, ys, cas, h1, h2, h3, h4, h5⟩
    · rcases List.mem_cons.1 hr with e | hr
      · rw [h1] at e
        injection e with e
        injection e with e
        subst e
        exact h3.1
      · exact DR.lt h6 hr
    · rcases List.mem_cons.1 hr with e | hr
      · rw [h4] at e
        injection e with e
        cases e
      · exact DR.lt h5 hr

theorem SD.sr {ds : List (V × List V)} (D : SD C h nt o s w st a ds) : SR C h nt none none ⟨s, st.H, w, a.defers⟩ s w st a :=
  ⟨fun b g hb => (D.hr.lt hb).1, D.hr, D.gk, Nat.le_trans D.ln D.ext.hn, (Ext.refl s st.H w).weak (Nat.le_trans D.ln D.ext.hn), D.sz, ⟨[], rfl, List.nodup_nil, fun r hr => by cases hr⟩, trivial, D.tm⟩

theorem SD.back {ds : List (V × List V)} {a' : Act} (D : SD C h nt o s w st a ds) (R : SR C h nt none none ⟨s, st.H, w, a.defers⟩ s' w' st' a') : SD C h nt o s' w' ⟨st'.T, st'.H, min st.lo st'.lo⟩ a' ds := by
  refine ⟨D.ob, R.hr, R.gk, Nat.le_trans (Nat.min_le_left _ _) D.ln, D.ext.trans D.ob R.ext, R.sz, ?_, R.tm⟩
  obtain ⟨rs, e, hn, hm⟩ := R.df
  rw [e]
  have hsz := D.ext.size
  refine DR.marks hn (fun r hr => ?_) (DR.ext R.ext D.dr)
  obtain ⟨h1, h2, h3⟩ := hm r hr
  have h1' : w.heap.size ≤ r := h1
  refine ⟨by omega, h2, h3, fun r' hr' e => ?_⟩
  have := DR.lt D.dr hr'
  omega

def ExecDStep (C : Ctx) (n : Nat) : Prop :=
  ∀ (nt : Nat) (o : Orig) (h : Nat → Prop) (c : Code) (st st' : St) (x : Ex) (s : Nat → Option Nat) (w : World) (a : Act) (ds ds' : List (V × List V)) (Q : Exit → Act → World → Prop),
    execD C n nt c st = some (x, st', ds') → SD C h nt o s w st a ds → (∀ s' w' a', SD C h nt o s' w' st' a' (ds' ++ ds) → Q x.to a' w') → c.wpIn Fence.wide 0 C.P Q a w

theorem lastDefer_eq {l init : List Oper} {dst : Option Tmp} {f : Operand} {args : List Operand} (h : lastDefer l = some (init, dst, f, args)) : ∃ (d : Oper) (c : Call), l = init ++ [d] ∧ d.op = .defer c ∧ d.guard = none ∧ c.callee = .value f ∧ c.args.toList = args ∧ d.dst = dst := by
  unfold lastDefer at h
  split at h
  · rename_i d r hr
    split at h
    · rename_i c ho hg
      split at h
      · rename_i f' hf
        simp only [Option.some.injEq, Prod.mk.injEq] at h
        obtain ⟨rfl, rfl, rfl, rfl⟩ := h
        refine ⟨d, c, ?_, ho, hg, hf, rfl, rfl⟩
        have := congrArg List.reverse hr
        simpa using this
      · cases h
    · cases h
  · cases h

theorem execD_ok (n : Nat) (ihd : ∀ m, m < n → ExecDStep C m) (ih : ∀ m, m < n → ExecStep C m) (hop : ∀ m, m < n → OpStep C (callV C m)) : ExecDStep C n := by
  intro nt o h c st st' x s w a ds ds' Q he D hk
  cases n with
  | zero => simp [execD] at he
  | succ n =>
    have plain : ∀ c : Code, noDs st (exec C n none nt c st) = some (x, st', ds') → c.wpIn Fence.wide 0 C.P Q a w := by
      intro c he
      unfold noDs at he
      split at he
      · rename_i y st1 h1
        simp only [Option.some.injEq, Prod.mk.injEq] at he
        obtain ⟨rfl, rfl, rfl⟩ := he
        exact ih n (by omega) nt none none _ h c st st1 y s w a Q h1 D.sr fun s' w' a' R => hk s' w' a' (D.back R)
      · cases he
    cases c
    case seq b d =>
      simp only [execD] at he
      split at he
      · rename_i y st1 ds1 h1
        refine wpIn_seq (ihd n (by omega) nt o h b st st1 y s w a ds ds1 _ h1 D fun s1 w1 a1 D1 => ?_)
        cases y with
        | normal =>
          simp only at he
          split at he
          · rename_i z st2 ds2 h2
            simp only [Option.some.injEq, Prod.mk.injEq] at he
            obtain ⟨rfl, rfl, rfl⟩ := he
            exact ihd n (by omega) nt o h d st1 st2 z s1 w1 a1 _ ds2 Q h2 D1 fun s' w' a' D2 => hk s' w' a' (by rw [List.append_assoc]; exact D2)
          · cases he
        | exit i =>
          simp only [Option.some.injEq, Prod.mk.injEq] at he
          obtain ⟨rfl, rfl, rfl⟩ := he
          exact hk s1 w1 a1 D1
        | ret =>
          simp only [Option.some.injEq, Prod.mk.injEq] at he
          obtain ⟨rfl, rfl, rfl⟩ := he
          exact hk s1 w1 a1 D1
      · cases he
    case region id ops draw =>
      simp only [execD] at he
      split at he
      · rename_i init dst f args hl
        obtain ⟨dop, c, e1, e2, e3, e4, e5, e6⟩ := lastDefer_eq hl
        cases draw with
        | true => cases he
        | false =>
          simp only [cond_false] at he
          cases hdst : dstOk nt dst with
          | false => rw [hdst] at he; cases he
          | true =>
            rw [hdst] at he
            simp only [cond_true] at he
            split at he
            · rename_i es st1 h1
              split at he
              · rename_i g fa fb hfn
                simp only [Option.some.injEq, Prod.mk.injEq] at he
                obtain ⟨rfl, rfl, rfl⟩ := he
                refine wpIn_region_list ?_
                rw [e1]
                refine runOps_on (wro := none) n (fun m hm => hop m (by omega)) init [dop] h1 D.sr Q fun s1 w1 a1 R1 => ?_
                have hf := rho_ok R1.gk R1.tm f
                rw [hfn] at hf
                obtain ⟨xs, ys, ev, q1, q2⟩ := hf
                have hargs : VHs (C.ph h) s1 st1.H w1 (args.map (rho C st1.T)) (args.map a1.eval) := VRs.ofMap (fun x => rho_ok R1.gk R1.tm x) _
                have D1 := D.back R1
                refine wpListIn_plain e3 fun K hK => ⟨fun _ _ => trivial, ?_⟩
                have hrun : (dop.semAt (WF none).round a1.eval).run C.P w1 = .ok (.defer { target := .fn g ys, args := xs ++ (args.map a1.eval).toArray }) w1 := by
                  have ea : c.args.map a1.eval = (args.map a1.eval).toArray := by
                    apply Array.ext'
                    simp [← e5]
                  show (execOp a1.eval dop).run C.P w1 = _
                  simp [execOp, e2, resolve, e4, ev, Deferred.ofValue, ea]
                rw [hrun]
                refine hK _ _ (hk s1 w1 _ ?_)
                have hput : ∀ t, VH (C.ph h) s1 st1.H w1 (tget (putV st1.T dst undefV) t) ((({ a1 with defers := { target := .fn g ys, args := xs ++ (args.map a1.eval).toArray } :: a1.defers } : Act).put dop.dst undef).tmps.getD t undef) := by
                  intro t
                  rw [e6]
                  exact put_tm (a := { a1 with defers := { target := .fn g ys, args := xs ++ (args.map a1.eval).toArray } :: a1.defers }) (v := undefV) (c := undef) hdst R1.sz R1.tm ⟨#[], rfl, by simp [VRs]⟩ t
                refine ⟨D1.ob, D1.hr, D1.gk, D1.ln, D1.ext, by rw [put_size']; exact R1.sz, ?_, hput⟩
                rw [put_defers']
                exact .inr ⟨.fn g fa fb, args.map (rho C st1.T), ds, g, xs, ys, args.map a1.eval, rfl, ⟨xs, ys, rfl, q1, q2⟩, hargs, rfl, D1.dr⟩
              · cases he
            · cases he
      · exact plain _ he
    all_goals exact plain _ (by simpa only [execD] using he)

theorem func_ok (hC : CtxOK C) (n : Nat) (ih : ∀ m, m < n → ExecStep C m) (ihd : ∀ m, m < n → ExecDStep C m) (hfd : ∀ m, m < n → FuncStepD C m) : FuncStep C n := by
  intro h s H w g args cas r K hr hg ha he hk
  cases n with
  | zero => simp [callF] at he
  | succ n =>
    simp only [callF] at he
    split at he
    · rename_i F hF
      simp only [Option.bind_eq_bind, Option.bind_eq_some_iff, Option.some.injEq] at he
      obtain ⟨as, h1, v, h2, rfl⟩ := he
      have h3 : VRs (szP C.P) (fun _ => none) (fun _ => False) (fun g => g < w.heap.size) w as cas.toList := mapM_vrs (P := C.ph h) (fun v u c e e' => derefV_ok hr 50 e e') h1 ha
      have h4 := hC.sums g F hF w as cas v hg.gw h3 h2
      have fin : ∀ c w', (VR (szP C.P) (fun _ => none) (fun _ => False) (fun g => w.heap.size ≤ g ∧ g < w'.heap.size) w' v c ∧ RowKit.Below w.heap.size w w' ∧ (∀ g x, w.shape? g = some x → w'.shape? g = some x)) → K c w' := by
        rintro c w' ⟨k1, k2, k3⟩
        have E : Ext H.n s H w s H w' := ⟨k2.os, k2.tape, k2.output, k2.size, Nat.le_refl _, fun _ h => h, fun _ _ h => .inl h, fun g hg _ => k2.block g hg, fun _ _ h => .inl h, k3, fun _ _ _ => rfl, fun b h h' => by omega⟩
        have hr' : HR (C.ph h) s H w' := ⟨fun b g hb => by
          obtain ⟨B, q, h1, h2, h3⟩ := hr.dom b g hb
          exact ⟨B, q, h1, by rw [k2.block g (hr.lt hb).2]; exact h2, h3.mono E.grow⟩, hr.inj⟩
        refine hk c w' s ?_ hr' E
        refine VR.mono ⟨fun _ (h : False) => h.elim, fun _ _ (h : none = some _) => (nomatch h), ?_, fun _ _ _ _ h => h, fun _ _ h => h⟩ v c k1
        rintro g ⟨g1, g2⟩
        refine ⟨g2, fun b hb => ?_, fun hh => ?_⟩
        · have := (hr.lt hb).2; omega
        · have := hg.1 g hh; omega
      unfold CallF at h4 ⊢
      split at h4
      · rename_i v' w' e
        exact fin _ _ h4
      · rename_i g' as' w1 e
        exact Calls.mono h4 fun e w'' hh => by
          obtain ⟨v', rfl, h5⟩ := hh
          exact ⟨v', rfl, fin _ _ h5⟩
      · exact h4.elim
    · split at he
      · rename_i fn hf
        split at he
        · rename_i body hb
          cases hn : (fn.name == "runtime.NumGoroutine") with
          | true => simp [hn] at he
          | false =>
            simp only [hn, cond_false] at he
            have h0 : (callFunc g cas).run C.P w = .ok (.enter g cas) w := by
              have hn' : ¬ fn.name = "runtime.NumGoroutine" := by simpa using hn
              simp [callFunc, hf, hn', hb]
            have hl := ha.length
            have R : SR C h (max args.length fn.ntmps) none none ⟨s, H, w, []⟩ s w ⟨initT args 0 .nil, H, H.n⟩ { tmps := cas ++ Array.replicate (fn.ntmps - cas.size) undef, defers := [] } := by
              refine ⟨fun b g hb => (hr.lt hb).1, hr, hg, Nat.le_refl _, Ext.refl _ _ _, ?_, ⟨[], rfl, List.nodup_nil, fun r hr => by cases hr⟩, trivial, init_tm ha _⟩
              simp only [Array.length_toList] at hl
              simp only [Array.size_append, Array.size_replicate]
              omega
            have fin : ∀ st vs, loadRes C st.T st.H fn.results.toList = some vs → r = ⟨resOf vs, st.H, st.lo⟩ → ∀ s' w' a', SR C h (max args.length fn.ntmps) none none ⟨s, H, w, []⟩ s' w' st a' →
                LeavesInM Fence.wide 0 C.P fn a'.tmps (fun e w' => ∃ v, e = .returned v ∧ K v w') a'.defers .returning w' := by
              intro st vs h1 h2 s' w' a' R'
              obtain ⟨rs, e, hn, hm⟩ := R'.df
              simp only [List.append_nil] at e
              rw [e]
              refine leave_ok rs w' R'.hr R'.ext R'.tm hn hm fun w2 k1 k2 k3 => ?_
              obtain ⟨c, h3, h4⟩ := results_ok (a := a') k1 k3 h1
              subst h2
              exact ⟨c, h3, c, rfl, hk c w2 s' h4 k1 k2⟩
            unfold CallF
            rw [h0]
            simp only
            refine (callsIn_wide (n := 0)).1 (callsIn_of_wp_marks hf hb trivial ?_)
            cases hdf : hasDefer body with
            | true =>
              rw [hdf] at he
              simp only [cond_true] at he
              split at he
              · rename_i x st ds hx
                have fin2 : ∀ H' lo' vs, runDs C n ds st.H st.lo = some (H', lo') → loadRes C st.T H' fn.results.toList = some vs → r = ⟨resOf vs, H', lo'⟩ → ∀ s' w' a', SD C h (max args.length fn.ntmps) ⟨s, H, w, []⟩ s' w' st a' (ds ++ []) →
                    LeavesInM Fence.wide 0 C.P fn a'.tmps (fun e w' => ∃ v, e = .returned v ∧ K v w') a'.defers .returning w' := by
                  intro H' lo' vs h1 h2 h3 s' w' a' D'
                  rw [List.append_nil] at D'
                  refine leaveD (T := st.T) D'.ob a'.defers n (fun m hm => hfd m (by omega)) ds s' st.H H' w' st.lo lo' h1 D'.dr D'.hr D'.gk D'.ext D'.tm fun s2 w2 k1 k2 k3 k4 => ?_
                  obtain ⟨c, q3, q4⟩ := results_ok (a := a') k1 k4 h2
                  subst h3
                  exact ⟨c, q3, c, rfl, hk c w2 s2 q4 k1 k3⟩
                have D0 : SD C h (max args.length fn.ntmps) ⟨s, H, w, []⟩ s w ⟨initT args 0 .nil, H, H.n⟩ { tmps := cas ++ Array.replicate (fn.ntmps - cas.size) undef, defers := [] } [] := ⟨R.ob, R.hr, R.gk, R.ln, R.ext, R.sz, rfl, R.tm⟩
                cases x with
                | exit i => cases he
                | normal =>
                  simp only at he
                  split at he
                  · rename_i H' lo' hd
                    split at he
                    · rename_i vs hv
                      injection he with he
                      exact ihd n (by omega) _ _ h body _ st .normal s w _ [] ds _ hx D0 fun s' w' a' D' => fin2 H' lo' vs hd hv he.symm s' w' a' D'
                    · cases he
                  · cases he
                | ret =>
                  simp only at he
                  split at he
                  · rename_i H' lo' hd
                    split at he
                    · rename_i vs hv
                      injection he with he
                      exact ihd n (by omega) _ _ h body _ st .ret s w _ [] ds _ hx D0 fun s' w' a' D' => fin2 H' lo' vs hd hv he.symm s' w' a' D'
                    · cases he
                  · cases he
              · cases he
            | false =>
            rw [hdf] at he
            simp only [cond_false] at he
            split at he
            · rename_i st h1
              simp only [Option.bind_eq_bind, Option.bind_eq_some_iff, Option.some.injEq] at he
              obtain ⟨vs, h2, h3⟩ := he
              exact ih n (by omega) _ none none _ h body _ st .normal s w _ _ h1 R fun s' w' a' R' => fin st vs h2 h3.symm s' w' a' R'
            · rename_i st h1
              simp only [Option.bind_eq_bind, Option.bind_eq_some_iff, Option.some.injEq] at he
              obtain ⟨vs, h2, h3⟩ := he
              exact ih n (by omega) _ none none _ h body _ st .ret s w _ _ h1 R fun s' w' a' R' => fin st vs h2 h3.symm s' w' a' R'
            · cases he
        · cases he
      · cases he

theorem func_okD (hC : CtxOK C) (n : Nat) (ih : ∀ m, m < n → ExecStep C m) : FuncStepD C n := by
  intro h s H w g args cas r K hr hg ha hs hdf he hk u
  cases n with
  | zero => simp [callF] at he
  | succ n =>
    simp only [callF, hs] at he
    split at he
    · rename_i fn hf
      split at he
      · rename_i body hb
        cases hn : (fn.name == "runtime.NumGoroutine") with
        | true => simp [hn] at he
        | false =>
          simp only [hn, cond_false] at he
          have hdb : hasDefer body = false := by simpa only [defers, hf, hb] using hdf
          rw [hdb] at he
          simp only [cond_false] at he
          have hl := ha.length
          have R : SR C h (max args.length fn.ntmps) none none ⟨s, H, w, []⟩ s w ⟨initT args 0 .nil, H, H.n⟩ { tmps := cas ++ Array.replicate (fn.ntmps - cas.size) undef, defers := [] } := by
            refine ⟨fun b g hb => (hr.lt hb).1, hr, hg, Nat.le_refl _, Ext.refl _ _ _, ?_, ⟨[], rfl, List.nodup_nil, fun r hr => by cases hr⟩, trivial, init_tm ha _⟩
            simp only [Array.length_toList] at hl
            simp only [Array.size_append, Array.size_replicate]
            omega
          have fin : ∀ st vs, loadRes C st.T st.H fn.results.toList = some vs → r = ⟨resOf vs, st.H, st.lo⟩ → ∀ s' w' a', SR C h (max args.length fn.ntmps) none none ⟨s, H, w, []⟩ s' w' st a' →
              ∃ rs : List Nat, a'.defers = rs.map mark ∧ LeavesInM Fence.wide 0 C.P fn a'.tmps (fun e w' => ∃ v, e = .returned v ∧ K v w') (rs.map mark) .returning w' := by
            intro st vs h1 h2 s' w' a' R'
            obtain ⟨rs, e, hn, hm⟩ := R'.df
            simp only [List.append_nil] at e
            refine ⟨rs, e, leave_ok rs w' R'.hr R'.ext R'.tm hn hm fun w2 k1 k2 k3 => ?_⟩
            obtain ⟨c, h3, h4⟩ := results_ok (a := a') k1 k3 h1
            subst h2
            exact ⟨c, h3, c, rfl, hk c w2 s' h4 k1 k2⟩
          refine callsDIn_marks hf hb ?_
          split at he
          · rename_i st h1
            simp only [Option.bind_eq_bind, Option.bind_eq_some_iff, Option.some.injEq] at he
            obtain ⟨vs, h2, h3⟩ := he
            exact ih n (by omega) _ none none _ h body _ st .normal s w _ _ h1 R fun s' w' a' R' => ⟨.inl rfl, fin st vs h2 h3.symm s' w' a' R'⟩
          · rename_i st h1
            simp only [Option.bind_eq_bind, Option.bind_eq_some_iff, Option.some.injEq] at he
            obtain ⟨vs, h2, h3⟩ := he
            exact ih n (by omega) _ none none _ h body _ st .ret s w _ _ h1 R fun s' w' a' R' => ⟨.inr rfl, fin st vs h2 h3.symm s' w' a' R'⟩
          · cases he
      · cases he
    · cases he

theorem foldl_zip {ps : List Tmp} {cas : List Value} {tmps : Array Value} : (ps.toArray.zip cas.toArray).foldl (fun (tmps : Array Value) (x : Tmp × Value) => tmps.setIfInBounds x.1 x.2) tmps = (ps.zip cas).foldl (fun (tmps : Array Value) (x : Tmp × Value) => tmps.setIfInBounds x.1 x.2) tmps := by
  simp

theorem round_ok (n : Nat) (ih : ExecStep C n) {b : Nat} {args : List V} {cas : List Value} {r : OR} {K : Value → World → Prop} (hr : HR (C.ph h) s H w) (hg : GOK C h s w) (ha : VHs (C.ph h) s H w args cas) {l : Nat} (hl : Dead H b ∨ s b = some l)
    (he : callV C (n + 1) (.yld b) args H = some r) (hk : ∀ c w' s', VH (C.ph h) s' r.H w' r.v c → HR (C.ph h) s' r.H w' → Ext r.lo s H w s' r.H w' → K c w') : CallQ C.P wro (.func (.yield l) #[] #[]) cas w K := by
  simp only [callV] at he
  split at he
  · rename_i ts ps as bd state pend hb
    split at he
    · cases hq : (Nat.beq args.length ps.length && ps.all (fun p => Nat.blt p ts.length)) with
      | false => simp [hq] at he
      | true =>
        simp only [hq, cond_true] at he
        simp only [Bool.and_eq_true, List.all_eq_true, Nat.blt_eq] at hq
        obtain ⟨hlen, hps⟩ := hq
        have hlen := Nat.eq_of_beq_eq_true hlen
        obtain ⟨hs, L, h1, h2, h3, h4, h5, h6, h7⟩ := loop_get hr hb hl
        subst h3 h4
        have hsize : cas.toArray.size = L.params.size := by rw [h2]; simp only [List.size_toArray]; have := ha.length; omega
        refine .inr (.inr ⟨l, _, _, _, _, rfl, run_yield h1 hsize, ?_⟩)
        have htm0 : ∀ t, VH (C.ph h) s H w (tget (initT ts 0 .nil) t) (L.tmps.getD t undef) := fun t => by
          have := init_tm (C := C) (h := h) (cas := L.tmps) h7 0 t
          simpa using this
        obtain ⟨hsz, htm⟩ := zip_tm (nt := ts.length) ps args cas (initT ts 0 .nil) L.tmps ha (by have := h7.length; simpa using this) htm0 hps hlen.symm
        have R : SR C h ts.length (some b) (some l) ⟨s, H, w, []⟩ s w ⟨setZip ps args (initT ts 0 .nil), H, H.n⟩ { tmps := (L.params.zip cas.toArray).foldl (fun (tmps : Array Value) (x : Tmp × Value) => tmps.setIfInBounds x.1 x.2) L.tmps, defers := [] } := by
          rw [h2, foldl_zip]
          exact ⟨fun b g hb => (hr.lt hb).1, hr, hg, Nat.le_refl _, Ext.refl _ _ _, hsz, ⟨[], rfl, List.nodup_nil, fun r hr => by cases hr⟩, .inr hs, htm⟩
        refine roundIn_of_wpIn (F := WF wro) (R := fun e w' => ∃ v, e = .returned v ∧ K v w') trivial ?_
        split at he
        · rename_i st1 hx1
          refine ih ts.length (some b) (some l) _ h _ _ st1 .normal s w _ _ hx1 R fun s1 w1 a1 R1 => ?_
          split at he
          · rename_i ts1 ps1 as1 bd1 state1 pend1 hb1
            split at he
            · obtain ⟨k0, L1, k1, k2, k3, k4, k5, k6, k7⟩ := loop_get R1.hr hb1 R1.rd
              obtain ⟨m1, m2⟩ := loop_set R1.hr k0 (st := .busy) (pd := pend1) k1 k2 k3 k4 k7 { L1 with state := .busy } rfl rfl rfl rfl rfl k6
              refine ⟨_, run_beginRound k1 k5, ?_⟩
              have R2 := R1.turn m1 m2
              split at he
              · rename_i x st3 hx3
                refine ih ts.length (some b) (some l) _ h _ _ st3 x s1 _ a1 _ hx3 R2 fun s3 w3 a3 R3 => ?_
                split at he
                · rename_i ts3 ps3 as3 bd3 state3 pend3 hb3
                  simp only [Option.some.injEq] at he
                  subst he
                  obtain ⟨q0, L3, q1, q2, q3, q4, q5, q6, q7⟩ := loop_get R3.hr hb3 R3.rd
                  have fin : ∀ (jump : Option Code), jumpOf x = jump → ∃ v w', (Instr.endRound l jump).run C.P w3 = .ok v w' ∧ ∃ v', Ending.returned v = .returned v' ∧ K v' w' := by
                    intro jump hj
                    obtain ⟨m3, m4⟩ := loop_set R3.hr q0 (st := stateOf x) (pd := jumpOf x) q1 q2 q3 q4 q7 { L3 with state := if jump.isNone then .ready else .done, pending := jump } rfl rfl rfl rfl (by subst hj; cases x <;> rfl) hj.symm
                    refine ⟨_, _, run_endRound jump q1, _, rfl, ?_⟩
                    have R4 := R3.turn m3 m4
                    refine hk _ _ s3 ?_ m3 R4.ext
                    subst hj
                    cases x <;> simp [VR, goesOn, jumpOf]
                  cases x with
                  | normal => exact fin none rfl
                  | ret => exact fin _ rfl
                  | exit i => exact fin _ rfl
                · cases he
              · cases he
            · cases he
          · cases he
        · cases he
    · cases he
  · cases he

theorem call_ok (n : Nat) (ih : ∀ m, m < n → FuncStep C m) (ihx : ∀ m, m < n → ExecStep C m) : CallStep C (callV C n) := by
  intro h wro s H w f args cf cas r K hr hg hf ha he hk
  cases n with
  | zero => simp [callV] at he
  | succ n =>
    cases f <;> (try (simp [callV] at he; done))
    case fn F first cap =>
      cases F <;> (try (simp [callV] at he; done))
      case method name =>
        simp only [callV] at he
        split at he
        · rename_i t v rest hl
          split at he
          · rename_i g hm
            obtain ⟨xs, ys, e, h1, h2⟩ := hf
            have h3 := h1.append ha
            rw [hl] at h3
            obtain ⟨c0, cs, e4, ⟨x, rfl, hx⟩, hrest⟩ := h3
            refine .inl ⟨name, xs, ys, t, x, cs.toArray, g, e, ?_, hm, ih n (by omega) h s H w g _ _ r K hr hg ?_ he hk⟩
            · apply Array.ext'
              simpa using e4
            · show VHs (C.ph h) s H w (v :: rest) (#[x] ++ cs.toArray).toList
              exact ⟨x, cs, by simp, hx, hrest⟩
          · cases he
        · cases he
      rename_i g
      obtain ⟨xs, ys, e, h1, h2⟩ := hf
      refine .inr (.inl ⟨g, xs, ys, e, ih n (by omega) h s H w g _ _ r K hr hg ?_ (by simpa only [callV] using he) hk⟩)
      have := (h1.append ha).append h2
      simpa using this
    case yld b =>
      obtain ⟨l, rfl, hl⟩ := hf
      exact round_ok n (ihx n (by omega)) hr hg ha hl he hk

theorem sound_all (hC : CtxOK C) (hreg : RegionStep C) (n : Nat) : ExecStep C n ∧ FuncStep C n ∧ OpStep C (callV C n) ∧ FuncStepD C n ∧ ExecDStep C n := by
  induction n using Nat.strongRecOn with
  | _ n ih =>
    refine ⟨exec_ok hC hreg n (fun m hm => (ih m hm).1) (fun m hm => (ih m hm).2.1) (fun m hm => (ih m hm).2.2.1), func_ok hC n (fun m hm => (ih m hm).1) (fun m hm => (ih m hm).2.2.2.2) (fun m hm => (ih m hm).2.2.2.1), opStep (call_ok n (fun m hm => (ih m hm).2.1) fun m hm => (ih m hm).1),
      func_okD hC n (fun m hm => (ih m hm).1), execD_ok n (fun m hm => (ih m hm).2.2.2.2) (fun m hm => (ih m hm).1) (fun m hm => (ih m hm).2.2.1)⟩

theorem sound (hC : CtxOK C) (hreg : RegionStep C) (n : Nat) : ExecStep C n ∧ FuncStep C n ∧ OpStep C (callV C n) := let h := sound_all hC hreg n; ⟨h.1, h.2.1, h.2.2.1⟩
end
end Go.Tw
