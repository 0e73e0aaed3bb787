/- The evaluator is sound, by induction, if it is so for regions that draw their order. No condition. -/
import Derived.Test.YteifcnkjjigddaaGreatDoorTwCall
set_option linter.unusedVariables false
set_option linter.unusedSimpArgs false
namespace Go.Tw

section
variable {C : Ctx} {nt : Nat} {ro wro : Option Nat} {o : Orig} {s s' : Nat → Option Nat} {H H' : Heap} {w w' : World} {st st' : St} {a : Act} {lo : Nat} {h : Nat → Prop}

theorem tget_initT : ∀ (vs : List V) (i : Nat) (T : Tr V) (t : Nat), tget (initT vs i T) t = if i ≤ t then (vs[t - i]?).getD (tget T t) else tget T t
  | [], i, T, t => by simp [initT]
  | v :: vs, i, T, t => by
    rw [initT, tget_initT vs (i + 1)]
    simp only [tget_tset]
    by_cases e : t = i
    · subst e
      rw [if_neg (by omega), if_pos rfl, if_pos (Nat.le_refl _)]
      simp
    · by_cases l : i ≤ t
      · rw [if_pos (by omega), if_neg e, if_pos l, show t - i = (t - (i + 1)) + 1 by omega]
        simp
      · rw [if_neg (by omega), if_neg e, if_neg l]

theorem init_tm {args : List V} {cas : Array Value} (ha : VHs (C.ph h) s H w args cas.toList) (k t : Nat) : VH (C.ph h) s H w (tget (initT args 0 .nil) t) ((cas ++ Array.replicate k undef).getD t undef) := by
  have hl := ha.length
  rw [tget_initT, if_pos (Nat.zero_le _), Nat.sub_zero]
  have e : (cas ++ Array.replicate k undef).getD t undef = (cas.toList[t]?).getD undef := by
    rw [Array.getD_eq_getD_getElem?, Array.getElem?_append]
    by_cases l : t < cas.size
    · simp [l]
    · rw [if_neg l, Array.getElem?_replicate]
      have : cas.toList[t]? = none := by simp; omega
      rw [this]
      split <;> simp
  rw [e]
  cases hv : args[t]? with
  | none =>
    have : cas.toList[t]? = none := by
      rw [List.getElem?_eq_none_iff] at hv ⊢
      omega
    rw [this]
    simp [tget, Tr.get, VR]
  | some v =>
    obtain ⟨c, h1, h2⟩ := ha.get hv
    rw [h1]
    exact h2

/-- A mark's block is shut. -/
theorem shut {P : PH} (hr : HR P s H w) {r : Nat} (hp : Prot P s w r) {q : Option (List Deferred)} (hq : w.heap[r]? = some (.deferred q)) (q' : Option (List Deferred)) :
    Grow s s (Dead H) (Dead H) (Prot P s w) (Prot P s (put w r (.deferred q'))) w (put w r (.deferred q')) ∧ HR P s H (put w r (.deferred q')) := by
  have hoth : ∀ g, g ≠ r → (put w r (.deferred q')).heap[g]? = w.heap[g]? := fun g hg => by rw [put_get, if_neg (fun h => hg h.1)]
  have G : Grow s s (Dead H) (Dead H) (Prot P s w) (Prot P s (put w r (.deferred q'))) w (put w r (.deferred q')) := by
    refine ⟨fun _ h => h, fun _ _ h => .inl h, fun g hg => ⟨by rw [put_size]; exact hg.1, hg.2⟩, fun g _ => ?_, fun g x hx => ?_⟩
    · by_cases e : g = r
      · subst e
        intro off c hc
        simp [World.cell?, hq] at hc
      · exact cell_keep (hoth g e)
    · by_cases e : g = r
      · subst e
        simp only [World.shape?, hq] at hx
        cases hx
      · simp only [World.shape?] at hx ⊢
        rw [hoth g e]; exact hx
  refine ⟨G, fun b g hb => ?_, hr.inj⟩
  obtain ⟨B, o, h1, h2, h3⟩ := hr.dom b g hb
  have hg : g ≠ r := fun e => hp.2.1 b (e ▸ hb)
  exact ⟨B, o, h1, by rw [hoth g hg]; exact h2, h3.mono G⟩

theorem leave_ok {fn : Func} {tmps : Array Value} {w0 : World} {s0 : Nat → Option Nat} {H0 : Heap} {T : Tr V} {R : Ending → World → Prop} {F : Fence} : ∀ (rs : List Nat) (w : World), HR (C.ph h) s H w → Ext lo s0 H0 w0 s H w →
    (∀ t, VH (C.ph h) s H w (tget T t) (tmps.getD t undef)) → rs.Nodup → (∀ r ∈ rs, w0.heap.size ≤ r ∧ Prot (C.ph h) s w r ∧ w.heap[r]? = some (.deferred (some []))) →
    (∀ w', HR (C.ph h) s H w' → Ext lo s0 H0 w0 s H w' → (∀ t, VH (C.ph h) s H w' (tget T t) (tmps.getD t undef)) → LeavesIn F 0 C.P fn tmps R [] .returning w') →
    LeavesInM F 0 C.P fn tmps R (rs.map (fun r => ({ target := .collected r, args := #[] } : Deferred))) .returning w
  | [], w, hr, E, ht, _, _, hk => hk w hr E ht
  | r :: rs, w, hr, E, ht, hn, hm, hk => by
    obtain ⟨h1, h2, h3⟩ := hm r (.head _)
    obtain ⟨G, hr'⟩ := shut hr h2 h3 none
    have hn' := List.nodup_cons.1 hn
    have hoth : ∀ g, g ≠ r → (put w r (.deferred none)).heap[g]? = w.heap[g]? := fun g hg => by rw [put_get, if_neg (fun h => hg h.1)]
    have E' : Ext lo s0 H0 w0 s H (put w r (.deferred none)) :=
      ⟨E.os, E.tape, E.output, by rw [put_size]; exact E.size, E.hn, E.dd, E.ss, fun g hg hb => by rw [hoth g (by omega)]; exact E.frame g hg hb, E.fresh, fun g x hx => G.hz g x (E.shp g x hx), E.old, E.cov⟩
    refine ⟨by simp, .inl ⟨r, put w r (.deferred none), rfl, run_takeDeferred h3, ?_⟩⟩
    refine leave_ok rs _ hr' E' (fun t => VR.mono G _ _ (ht t)) hn'.2 (fun r' hr' => ?_) hk
    obtain ⟨q1, q2, q3⟩ := hm r' (.tail _ hr')
    exact ⟨q1, G.hp r' q2, by rw [hoth r' (fun e => hn'.1 (e ▸ hr'))]; exact q3⟩

theorem func_ok (hC : CtxOK C) (n : Nat) (ih : ∀ m, m < n → ExecStep C m) : FuncStep C n := by
  intro h s H w g args cas r K hr hg ha he hk
  cases n with
  | zero => simp [callF] at he
  | succ n =>
    simp only [callF] at he
    split at he
    · rename_i F hF
      simp only [Option.bind_eq_bind, Option.bind_eq_some_iff, Option.some.injEq] at he
      obtain ⟨as, h1, v, h2, rfl⟩ := he
      have h3 : VRs (szP C.P) (fun _ => none) (fun _ => False) (fun g => g < w.heap.size) w as cas.toList := mapM_vrs (P := C.ph h) (fun v u c e e' => derefV_ok hr 50 e e') h1 ha
      have h4 := hC.sums g F hF w as cas v hg.gw h3 h2
      have fin : ∀ c w', (VR (szP C.P) (fun _ => none) (fun _ => False) (fun g => w.heap.size ≤ g ∧ g < w'.heap.size) w' v c ∧ RowKit.Below w.heap.size w w' ∧ (∀ g x, w.shape? g = some x → w'.shape? g = some x)) → K c w' := by
        rintro c w' ⟨k1, k2, k3⟩
        have E : Ext H.n s H w s H w' := ⟨k2.os, k2.tape, k2.output, k2.size, Nat.le_refl _, fun _ h => h, fun _ _ h => .inl h, fun g hg _ => k2.block g hg, fun _ _ h => .inl h, k3, fun _ _ _ => rfl, fun b h h' => by omega⟩
        have hr' : HR (C.ph h) s H w' := ⟨fun b g hb => by
          obtain ⟨B, q, h1, h2, h3⟩ := hr.dom b g hb
          exact ⟨B, q, h1, by rw [k2.block g (hr.lt hb).2]; exact h2, h3.mono E.grow⟩, hr.inj⟩
        refine hk c w' s ?_ hr' E
        refine VR.mono ⟨fun _ (h : False) => h.elim, fun _ _ (h : none = some _) => (nomatch h), ?_, fun _ _ _ _ h => h, fun _ _ h => h⟩ v c k1
        rintro g ⟨g1, g2⟩
        refine ⟨g2, fun b hb => ?_, fun hh => ?_⟩
        · have := (hr.lt hb).2; omega
        · have := hg.1 g hh; omega
      unfold CallF at h4 ⊢
      split at h4
      · rename_i v' w' e
        exact fin _ _ h4
      · rename_i g' as' w1 e
        exact Calls.mono h4 fun e w'' hh => by
          obtain ⟨v', rfl, h5⟩ := hh
          exact ⟨v', rfl, fin _ _ h5⟩
      · exact h4.elim
    · split at he
      · rename_i fn hf
        split at he
        · rename_i body hb
          cases hn : (fn.name == "runtime.NumGoroutine") with
          | true => simp [hn] at he
          | false =>
            simp only [hn, cond_false] at he
            have h0 : (callFunc g cas).run C.P w = .ok (.enter g cas) w := by
              have hn' : ¬ fn.name = "runtime.NumGoroutine" := by simpa using hn
              simp [callFunc, hf, hn', hb]
            have hl := ha.length
            have R : SR C h (max args.length fn.ntmps) none none ⟨s, H, w⟩ s w ⟨initT args 0 .nil, H, H.n⟩ { tmps := cas ++ Array.replicate (fn.ntmps - cas.size) undef, defers := [] } := by
              refine ⟨fun b g hb => (hr.lt hb).1, hr, hg, Nat.le_refl _, Ext.refl _ _ _, ?_, ⟨[], rfl, List.nodup_nil, fun r hr => by cases hr⟩, trivial, init_tm ha _⟩
              simp only [Array.length_toList] at hl
              simp only [Array.size_append, Array.size_replicate]
              omega
            have fin : ∀ st vs, loadRes C st.T st.H fn.results.toList = some vs → r = ⟨resOf vs, st.H, st.lo⟩ → ∀ s' w' a', SR C h (max args.length fn.ntmps) none none ⟨s, H, w⟩ s' w' st a' →
                LeavesInM Fence.wide 0 C.P fn a'.tmps (fun e w' => ∃ v, e = .returned v ∧ K v w') a'.defers .returning w' := by
              intro st vs h1 h2 s' w' a' R'
              obtain ⟨rs, e, hn, hm⟩ := R'.df
              rw [e]
              refine leave_ok rs w' R'.hr R'.ext R'.tm hn hm fun w2 k1 k2 k3 => ?_
              obtain ⟨c, h3, h4⟩ := results_ok (a := a') k1 k3 h1
              subst h2
              exact ⟨c, h3, c, rfl, hk c w2 s' h4 k1 k2⟩
            unfold CallF
            rw [h0]
            simp only
            refine (callsIn_wide (n := 0)).1 (callsIn_of_wp_marks hf hb trivial ?_)
            split at he
            · rename_i st h1
              simp only [Option.bind_eq_bind, Option.bind_eq_some_iff, Option.some.injEq] at he
              obtain ⟨vs, h2, h3⟩ := he
              exact ih n (by omega) _ none none _ h body _ st .normal s w _ _ h1 R fun s' w' a' R' => fin st vs h2 h3.symm s' w' a' R'
            · rename_i st h1
              simp only [Option.bind_eq_bind, Option.bind_eq_some_iff, Option.some.injEq] at he
              obtain ⟨vs, h2, h3⟩ := he
              exact ih n (by omega) _ none none _ h body _ st .ret s w _ _ h1 R fun s' w' a' R' => fin st vs h2 h3.symm s' w' a' R'
            · cases he
        · cases he
      · cases he

theorem foldl_zip {ps : List Tmp} {cas : List Value} {tmps : Array Value} : (ps.toArray.zip cas.toArray).foldl (fun (tmps : Array Value) (x : Tmp × Value) => tmps.setIfInBounds x.1 x.2) tmps = (ps.zip cas).foldl (fun (tmps : Array Value) (x : Tmp × Value) => tmps.setIfInBounds x.1 x.2) tmps := by
  simp

theorem round_ok (n : Nat) (ih : ExecStep C n) {b : Nat} {args : List V} {cas : List Value} {r : OR} {K : Value → World → Prop} (hr : HR (C.ph h) s H w) (hg : GOK C h s w) (ha : VHs (C.ph h) s H w args cas) {l : Nat} (hl : Dead H b ∨ s b = some l)
    (he : callV C (n + 1) (.yld b) args H = some r) (hk : ∀ c w' s', VH (C.ph h) s' r.H w' r.v c → HR (C.ph h) s' r.H w' → Ext r.lo s H w s' r.H w' → K c w') : CallQ C.P wro (.func (.yield l) #[] #[]) cas w K := by
  simp only [callV] at he
  split at he
  · rename_i ts ps as bd state pend hb
    split at he
    · cases hq : (Nat.beq args.length ps.length && ps.all (fun p => Nat.blt p ts.length)) with
      | false => simp [hq] at he
      | true =>
        simp only [hq, cond_true] at he
        simp only [Bool.and_eq_true, List.all_eq_true, Nat.blt_eq] at hq
        obtain ⟨hlen, hps⟩ := hq
        have hlen := Nat.eq_of_beq_eq_true hlen
        obtain ⟨hs, L, h1, h2, h3, h4, h5, h6, h7⟩ := loop_get hr hb hl
        subst h3 h4
        have hsize : cas.toArray.size = L.params.size := by rw [h2]; simp only [List.size_toArray]; have := ha.length; omega
        refine .inr ⟨l, _, _, _, _, rfl, run_yield h1 hsize, ?_⟩
        have htm0 : ∀ t, VH (C.ph h) s H w (tget (initT ts 0 .nil) t) (L.tmps.getD t undef) := fun t => by
          have := init_tm (C := C) (h := h) (cas := L.tmps) h7 0 t
          simpa using this
        obtain ⟨hsz, htm⟩ := zip_tm (nt := ts.length) ps args cas (initT ts 0 .nil) L.tmps ha (by have := h7.length; simpa using this) htm0 hps hlen.symm
        have R : SR C h ts.length (some b) (some l) ⟨s, H, w⟩ s w ⟨setZip ps args (initT ts 0 .nil), H, H.n⟩ { tmps := (L.params.zip cas.toArray).foldl (fun (tmps : Array Value) (x : Tmp × Value) => tmps.setIfInBounds x.1 x.2) L.tmps, defers := [] } := by
          rw [h2, foldl_zip]
          exact ⟨fun b g hb => (hr.lt hb).1, hr, hg, Nat.le_refl _, Ext.refl _ _ _, hsz, ⟨[], rfl, List.nodup_nil, fun r hr => by cases hr⟩, .inr hs, htm⟩
        refine roundIn_of_wpIn (F := WF wro) (R := fun e w' => ∃ v, e = .returned v ∧ K v w') trivial ?_
        split at he
        · rename_i st1 hx1
          refine ih ts.length (some b) (some l) _ h _ _ st1 .normal s w _ _ hx1 R fun s1 w1 a1 R1 => ?_
          split at he
          · rename_i ts1 ps1 as1 bd1 state1 pend1 hb1
            split at he
            · obtain ⟨k0, L1, k1, k2, k3, k4, k5, k6, k7⟩ := loop_get R1.hr hb1 R1.rd
              obtain ⟨m1, m2⟩ := loop_set R1.hr k0 (st := .busy) (pd := pend1) k1 k2 k3 k4 k7 { L1 with state := .busy } rfl rfl rfl rfl rfl k6
              refine ⟨_, run_beginRound k1 k5, ?_⟩
              have R2 := R1.turn m1 m2
              split at he
              · rename_i x st3 hx3
                refine ih ts.length (some b) (some l) _ h _ _ st3 x s1 _ a1 _ hx3 R2 fun s3 w3 a3 R3 => ?_
                split at he
                · rename_i ts3 ps3 as3 bd3 state3 pend3 hb3
                  simp only [Option.some.injEq] at he
                  subst he
                  obtain ⟨q0, L3, q1, q2, q3, q4, q5, q6, q7⟩ := loop_get R3.hr hb3 R3.rd
                  have fin : ∀ (jump : Option Code), jumpOf x = jump → ∃ v w', (Instr.endRound l jump).run C.P w3 = .ok v w' ∧ ∃ v', Ending.returned v = .returned v' ∧ K v' w' := by
                    intro jump hj
                    obtain ⟨m3, m4⟩ := loop_set R3.hr q0 (st := stateOf x) (pd := jumpOf x) q1 q2 q3 q4 q7 { L3 with state := if jump.isNone then .ready else .done, pending := jump } rfl rfl rfl rfl (by subst hj; cases x <;> rfl) hj.symm
                    refine ⟨_, _, run_endRound jump q1, _, rfl, ?_⟩
                    have R4 := R3.turn m3 m4
                    refine hk _ _ s3 ?_ m3 R4.ext
                    subst hj
                    cases x <;> simp [VR, goesOn, jumpOf]
                  cases x with
                  | normal => exact fin none rfl
                  | ret => exact fin _ rfl
                  | exit i => exact fin _ rfl
                · cases he
              · cases he
            · cases he
          · cases he
        · cases he
    · cases he
  · cases he

theorem call_ok (n : Nat) (ih : ∀ m, m < n → FuncStep C m) (ihx : ∀ m, m < n → ExecStep C m) : CallStep C (callV C n) := by
  intro h wro s H w f args cf cas r K hr hg hf ha he hk
  cases n with
  | zero => simp [callV] at he
  | succ n =>
    cases f <;> (try (simp [callV] at he; done))
    case fn F first cap =>
      cases F <;> (try (simp [callV] at he; done))
      rename_i g
      obtain ⟨xs, ys, e, h1, h2⟩ := hf
      refine .inl ⟨g, xs, ys, e, ih n (by omega) h s H w g _ _ r K hr hg ?_ (by simpa only [callV] using he) hk⟩
      have := (h1.append ha).append h2
      simpa using this
    case yld b =>
      obtain ⟨l, rfl, hl⟩ := hf
      exact round_ok n (ihx n (by omega)) hr hg ha hl he hk

theorem sound (hC : CtxOK C) (hreg : RegionStep C) (n : Nat) : ExecStep C n ∧ FuncStep C n ∧ OpStep C (callV C n) := by
  induction n using Nat.strongRecOn with
  | _ n ih =>
    refine ⟨exec_ok hC hreg n (fun m hm => (ih m hm).1) (fun m hm => (ih m hm).2.1) (fun m hm => (ih m hm).2.2), func_ok hC n (fun m hm => (ih m hm).1), opStep (call_ok n (fun m hm => (ih m hm).2.1) fun m hm => (ih m hm).1)⟩
end
end Go.Tw
