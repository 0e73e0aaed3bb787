/- A region that draws its order: a new variable; an operation that sees all that was there. No condition. -/
import Derived.Test.YteifcnkjjigddaaGreatDoorTwReg4
set_option linter.unusedVariables false
set_option linter.unusedSimpArgs false
namespace Go.Tw

section
variable {C : Ctx} {h : Nat → Prop} {nt : Nat} {ro wro : Option Nat} {o : Orig} {ops : Array Oper} {f : Nat → St} {r : Nat → OR} {e : Nat → Eff} {b : Nat → Bool} {cv : Nat → V → List V → Heap → Option OR} {s0 : Nat → Option Nat} {w0 : World} {a0 : Act}
variable {S : Nat → Bool} {HS : Heap} {σ : Nat → Option Nat} {T : Tr V} {w : World} {a : Act} {i : Nat} {x : Oper} {K : Act → World → Prop} {Q : Exit → Act → World → Prop}

theorem Mid.alloc (E : Env C h nt ro wro o ops f r e b cv s0 w0 a0) (M : Mid C h nt ro wro o ops f r s0 w0 S HS σ T w a) (N : Next ops S i x) (hb : b i = true) (he : e i = .al)
    (hK : ∀ HS' σ' T' w' a', Mid C h nt ro wro o ops f r s0 w0 (addS S i) HS' σ' T' w' a' → K a' w') : x.wpIn (WF wro) 0 C.P a w K Q := by
  have hi := N.lt
  have h0 := E.eff N.hx hb
  rw [he] at h0
  obtain ⟨t, ht⟩ := h0
  have h4 := ((E.step N.hx).yes hb).1
  rw [ht] at h4
  simp only [rsV, opV, allocV, Option.bind_eq_bind, Option.bind_eq_some_iff, Option.some.injEq] at h4
  obtain ⟨zc, hzc, h4⟩ := h4
  have hw : ∀ c, ¬ Wr f i c := by
    intro c hc
    rcases E.writer hi hc with h1 | h1 <;> rw [he] at h1 <;> cases h1
  obtain ⟨ti, z, hti, hz, hv⟩ := zeroCells_ok (P := C.ph h) (s := σ) (w := w) (d := Dead HS) (pr := Prot (C.ph h) σ w) hzc
  have hH1 : (f (i + 1)).H = (f i).H.push (.cells zc t) := by rw [(E.hstep hi).2, ← h4]
  have hn1 : (f (i + 1)).H.n = (f i).H.n + 1 := by rw [hH1]; rfl
  have hle : (f (i + 1)).H.n ≤ HS.n := by rw [M.nn]; exact E.mono (by omega) (Nat.le_refl _)
  have hget : HS.get (f i).H.n = some (.cells zc t) := by
    rw [E.seen_new M N (Nat.le_refl _) (by omega), hH1, Heap.get_push, if_pos rfl]
  have hnone : σ (f i).H.n = none := by
    cases hq : σ (f i).H.n with
    | none => rfl
    | some g => exact absurd hq (M.unb i hi N.no _ g (Nat.le_refl _) (by omega))
  let ob : Obj := .cells z.cells t
  let σ' : Nat → Option Nat := fun c => if c = (f i).H.n then some w.heap.size else σ c
  have hold : ∀ g, g < w.heap.size → (w.alloc ob).heap[g]? = w.heap[g]? := fun g hg => by
    show (w.heap.push ob)[g]? = _
    rw [Array.getElem?_push, if_neg (by omega)]
  have pc : Pc (f ops.size).lo (f 0).H.n σ HS w σ' HS (w.alloc ob) := by
    refine ⟨rfl, rfl, rfl, by simp, fun _ h => h, fun c g hc => .inl ?_, fun g hg _ => hold g hg, fun c g hc => ?_, fun g y hy => ?_⟩
    · show (if c = _ then _ else _) = _
      rw [if_neg]
      · exact hc
      · intro ec; rw [ec, hnone] at hc; cases hc
    · simp only [σ'] at hc
      by_cases ec : c = (f i).H.n
      · rw [if_pos ec] at hc
        injection hc with hc
        exact .inr ⟨by rw [ec]; exact E.mono (Nat.zero_le _) (by omega), .inl (by omega)⟩
      · rw [if_neg ec] at hc; exact .inl hc
    · have hg : g < w.heap.size := by
        rcases Nat.lt_or_ge g w.heap.size with h' | h'
        · exact h'
        · simp [World.shape?, Array.getElem?_eq_none h'] at hy
      simp only [World.shape?] at hy ⊢
      rw [hold g hg]; exact hy
  have hr' : HR (C.ph h) σ' HS (w.alloc ob) := by
    refine ⟨fun c g hc => ?_, fun c c' g hc hc' => ?_⟩
    · simp only [σ'] at hc
      by_cases ec : c = (f i).H.n
      · rw [if_pos ec] at hc
        injection hc with hc
        subst hc
        refine ⟨_, ob, by rw [ec]; exact hget, ?_, (BR_new hv).mono pc.grow⟩
        show (w.heap.push ob)[w.heap.size]? = _
        simp
      · rw [if_neg ec] at hc
        obtain ⟨B, q, k1, k2, k3⟩ := M.hr.dom c g hc
        exact ⟨B, q, k1, by rw [hold g (M.hr.lt hc).2]; exact k2, k3.mono pc.grow⟩
    · simp only [σ'] at hc hc'
      by_cases ec : c = (f i).H.n <;> by_cases ec' : c' = (f i).H.n
      · omega
      · rw [if_pos ec] at hc; rw [if_neg ec'] at hc'
        injection hc with hc
        have := (M.hr.lt hc').2; omega
      · rw [if_neg ec] at hc; rw [if_pos ec'] at hc'
        injection hc' with hc'
        have := (M.hr.lt hc).2; omega
      · rw [if_neg ec] at hc; rw [if_neg ec'] at hc'
        exact M.hr.inj c c' g hc hc'
  have hdef : ∀ c, x.op ≠ .defer c := by
    intro c ec
    rw [ht] at ec
    cases ec
  have hrun : (execOp a.eval x).run C.P w = .ok (.value (.pointer (some ⟨w.heap.size, 0, none⟩))) (w.alloc ob) := by
    simp [execOp, ht, Instr.alloc, run_zero hti hz, newVar, newRow, ob]
  refine ⟨fun _ _ => trivial, ?_⟩
  rw [Oper.semAt_eq _ _ _ hdef, hrun]
  refine hK _ _ _ _ _ (M.next E N hr' ?_ pc rfl (M.same E N hw) (fun k hk hne hS c g h1 h2 hg => ?_) (fun c h1 h2 => ?_) (fun _ _ _ _ c _ _ => hw c))
  · rw [← h4]
    exact ⟨_, rfl, .inr ⟨w.heap.size, if_pos rfl, rfl⟩⟩
  · simp only [σ'] at hg
    by_cases ec : c = (f i).H.n
    · rcases Nat.lt_or_ge k i with l | l
      · have := E.mono (j := k + 1) (k := i) l (by omega); omega
      · have := E.mono (j := i + 1) (k := k) (by omega) (by omega); omega
    · rw [if_neg ec] at hg
      exact M.unb k hk hS c g h1 h2 hg
  · exact .inr ⟨w.heap.size, if_pos (by omega)⟩

theorem Mid.view (E : Env C h nt ro wro o ops f r e b cv s0 w0 a0) (M : Mid C h nt ro wro o ops f r s0 w0 S HS σ T w a) (N : Next ops S i x) (hb : b i = true) (he : e i = .sr ∨ e i = .ca ∨ e i = .sw)
    (hK : ∀ HS' σ' T' w' a', Mid C h nt ro wro o ops f r s0 w0 (addS S i) HS' σ' T' w' a' → K a' w') : x.wpIn (WF wro) 0 C.P a w K Q := by
  have hi := N.lt
  have ord : ∀ c j, j < ops.size → j ≠ i → Wr f j c → (S j = true ↔ j < i) := by
    intro c j hj hne hwj
    refine E.ordered N hj hne ?_
    rcases E.writer hj hwj with h4 | h4 <;> rw [h4] <;> rcases he with he | he | he <;> rw [he] <;> rfl
  have seen : ∀ c, c < (f i).H.n → HS.get c = (f i).H.get c := fun c hc => E.seen M N hc (ord c)
  have hn01 : (f i).H.n ≤ (f (i + 1)).H.n := E.mono (by omega) hi
  have hn1N : (f (i + 1)).H.n ≤ HS.n := by rw [M.nn]; exact E.mono hi (Nat.le_refl _)
  have hr1 : (f (i + 1)).H = (r i).H := (E.hstep hi).2
  obtain ⟨sg, wg, ag, G⟩ := ghosts E.run E.R i (by omega)
  let hid : Nat → Prop := fun g => h g ∨ ∃ c, (f i).H.n ≤ c ∧ σ c = some g
  let σ' : Nat → Option Nat := fun c => if c < (f i).H.n then σ c else none
  have hσ : ∀ {c g}, σ' c = some g → c < (f i).H.n ∧ σ c = some g := by
    intro c g hc
    simp only [σ'] at hc
    split at hc
    · exact ⟨by assumption, hc⟩
    · cases hc
  have X : Cut σ sg σ' (Dead HS) (Dead (f i).H) (Dead (f i).H) (Prot (C.ph h) σ w) (Prot (C.ph hid) σ' w) := by
    refine ⟨fun c g hc h2 => ?_, fun c hc h2 => ?_, fun g hg => ⟨hg.1, fun c hc => hg.2.1 c (hσ hc).2, fun hh => ?_⟩⟩
    · rcases h2 with h2 | ⟨g2, h2⟩
      · exact .inr h2
      · refine .inl ?_
        simp only [σ']
        rw [if_pos (G.sr.hr.lt h2).1]
        exact hc
    · rcases h2 with h2 | ⟨g2, h2⟩
      · exact h2
      · rw [Dead, ← seen c (G.sr.hr.lt h2).1]; exact hc
    · rcases hh with hh | ⟨c, _, hc⟩
      · exact hg.2.2 hh
      · exact hg.2.1 c hc
  have hrV : HR (C.ph hid) σ' (f i).H w := by
    refine ⟨fun c g hc => ?_, fun c c' g hc hc' => M.hr.inj c c' g (hσ hc).2 (hσ hc').2⟩
    obtain ⟨hcn, hc⟩ := hσ hc
    obtain ⟨B, q, k1, k2, k3⟩ := M.hr.dom c g hc
    have k1' : (f i).H.get c = some B := by rw [← seen c hcn]; exact k1
    have hnd : ¬ Dead (f i).H c := by
      intro hd
      rw [Dead, k1'] at hd
      injection hd with hd
      subst hd
      exact k3
    have hsg : ∃ g', sg c = some g' := by
      rcases M.pc.fresh c g hc with h1 | ⟨h1, _⟩
      · exact (G.olds c g h1).resolve_left hnd
      · exact (G.news c h1 hcn).resolve_left hnd
    obtain ⟨g', hg'⟩ := hsg
    obtain ⟨B2, q2, l1, l2, l3⟩ := G.sr.hr.dom c g' hg'
    rw [k1'] at l1
    injection l1 with l1
    subst l1
    exact ⟨B, q, k1', k2, BR.cut (P := C.ph h) (P2 := C.ph h) (P' := C.ph hid) rfl rfl X k3 l3⟩
  have gkV : GOK C hid σ' w := by
    refine ⟨fun g hg => ?_, fun g cs hg => ⟨X.p g (M.gk.2 g cs hg).1, (M.gk.2 g cs hg).2⟩⟩
    rcases hg with hg | ⟨c, _, hc⟩
    · exact M.gk.1 g hg
    · exact (M.hr.lt hc).2
  have base := rho_ok (C := C) (H := (f i).H) (a := { tmps := #[], defers := [] }) gkV (T := .nil) (fun t => by simp [tget, Tr.get, VR])
  have opnd : ∀ y ∈ x.op.operands, VH (C.ph hid) σ' (f i).H w (rho C (f i).T y) (a.eval y) := by
    intro y hy
    cases y with
    | tmp t =>
      have ht : t ∈ x.looksAt ops := List.mem_append_left _ (List.mem_filterMap.2 ⟨.tmp t, by simpa using hy, rfl⟩)
      have h1 := M.tm t
      rw [E.slot M N ht] at h1
      exact VH.cut (P := C.ph h) (P2 := C.ph h) (P' := C.ph hid) rfl rfl X h1 (G.sr.tm t)
    | const v => exact base (.const v)
    | global g => exact base (.global g)
    | func g => exact base (.func g)
  refine (E.step N.hx).op hid wro σ' (f i).H w (rho C (f i).T) x (r i) a K Q hrV gkV opnd ((E.step N.hx).yes hb).1 fun c w' s' hv hr' ex => ?_
  rw [← hr1] at hv hr' ex
  obtain ⟨HS', hnS, hget⟩ := Heap.mk_of HS.n (fun c => if c < (f (i + 1)).H.n then (f (i + 1)).H.get c else HS.get c)
  have hlt : ∀ c, c < (f (i + 1)).H.n → HS'.get c = (f (i + 1)).H.get c := fun c hc => by rw [hget, if_pos (by omega), if_pos hc]
  have hge : ∀ c, (f (i + 1)).H.n ≤ c → HS'.get c = HS.get c := fun c hc => by
    rw [hget]
    by_cases l : c < HS.n
    · rw [if_pos l, if_neg (by omega)]
    · rw [if_neg l, Heap.get_eq, if_neg l]
  let σ2 : Nat → Option Nat := fun c => if c < (f (i + 1)).H.n then s' c else σ c
  have σlt : ∀ {c}, c < (f (i + 1)).H.n → σ2 c = s' c := fun hc => if_pos hc
  have σge : ∀ {c}, (f (i + 1)).H.n ≤ c → σ2 c = σ c := fun hc => if_neg (by omega)
  have hlo : (f ops.size).lo ≤ (r i).lo := (E.lo ops.size (Nat.le_refl _)).2 i hi hb
  have pc : Pc (f ops.size).lo (f 0).H.n σ HS w σ2 HS' w' := by
    refine ⟨ex.os, ex.tape, ex.output, ex.size, fun c hc => ?_, fun c g hc => ?_, fun g hg hq => ?_, fun c g hc => ?_, ex.shp⟩
    · rcases Nat.lt_or_ge c (f (i + 1)).H.n with l | l
      · show HS'.get c = _
        rw [hlt c l]
        rcases Nat.lt_or_ge c (f i).H.n with l2 | l2
        · exact ex.dd c (by rw [Dead, ← seen c l2]; exact hc)
        · rw [← E.seen_new M N l2 l]; exact hc
      · show HS'.get c = _
        rw [hge c l]; exact hc
    · rcases Nat.lt_or_ge c (f (i + 1)).H.n with l | l
      · rcases Nat.lt_or_ge c (f i).H.n with l2 | l2
        · have hc' : σ' c = some g := by simp only [σ']; rw [if_pos l2]; exact hc
          rcases ex.ss c g hc' with h1 | ⟨h1, h2⟩
          · exact .inl (by rw [σlt l]; exact h1)
          · refine .inr ⟨?_, by omega⟩
            show HS'.get c = _
            rw [hlt c l]; exact h1
        · exact absurd hc (M.unb i hi N.no c g l2 l)
      · exact .inl (by rw [σge l]; exact hc)
    · exact ex.frame g hg fun c hc => Nat.lt_of_lt_of_le (hq c (hσ hc).2) hlo
    · rcases Nat.lt_or_ge c (f (i + 1)).H.n with l | l
      · rw [σlt l] at hc
        rcases ex.fresh c g hc with h1 | ⟨h1, h2⟩
        · exact .inl (hσ h1).2
        · refine .inr ⟨Nat.le_trans (E.mono (Nat.zero_le i) (by omega)) h1, ?_⟩
          rcases h2 with h2 | ⟨b0, h2, h3⟩
          · exact .inl h2
          · exact .inr ⟨b0, by omega, (hσ h3).2⟩
      · rw [σge l] at hc; exact .inl hc
  have G1 : Grow s' σ2 (Dead (f (i + 1)).H) (Dead HS') (Prot (C.ph hid) s' w') (Prot (C.ph h) σ2 w') w' w' := by
    refine ⟨fun c hc => ?_, fun c g hc => .inl ?_, fun g hg => ⟨hg.1, fun c hc => ?_, fun hh => hg.2.2 (.inl hh)⟩, fun _ _ _ _ h => h, fun _ _ h => h⟩
    · show HS'.get c = _
      rw [hlt c (Heap.get_lt hc)]; exact hc
    · rw [σlt (hr'.lt hc).1]; exact hc
    · rcases Nat.lt_or_ge c (f (i + 1)).H.n with l | l
      · rw [σlt l] at hc; exact hg.2.1 c hc
      · rw [σge l] at hc; exact hg.2.2 (.inr ⟨c, by omega, hc⟩)
  have hr2 : HR (C.ph h) σ2 HS' w' := by
    refine ⟨fun c g hc => ?_, fun c c' g hc hc' => ?_⟩
    · rcases Nat.lt_or_ge c (f (i + 1)).H.n with l | l
      · rw [σlt l] at hc
        obtain ⟨B, q, k1, k2, k3⟩ := hr'.dom c g hc
        exact ⟨B, q, by rw [hlt c l]; exact k1, k2, BR.mono2 (P := C.ph hid) (P' := C.ph h) rfl G1 k3⟩
      · rw [σge l] at hc
        obtain ⟨B, q, k1, k2, k3⟩ := M.hr.dom c g hc
        refine ⟨B, q, by rw [hge c l]; exact k1, ?_, k3.mono pc.grow⟩
        rw [ex.frame g (M.hr.lt hc).2 fun c' hc' => ?_]
        · exact k2
        · have := M.hr.inj c' c g (hσ hc').2 hc
          have := (hσ hc').1
          omega
    · have key : ∀ c c', c < (f (i + 1)).H.n → (f (i + 1)).H.n ≤ c' → s' c = some g → σ c' = some g → False := by
        intro c c' l l' hc hc'
        rcases ex.fresh c g hc with h1 | ⟨h1, h2⟩
        · have := M.hr.inj c c' g (hσ h1).2 hc'; omega
        · rcases h2 with h2 | ⟨b0, h2, h3⟩
          · have := (M.hr.lt hc').2; omega
          · have := M.hr.inj b0 c' g (hσ h3).2 hc'
            have := (hσ h3).1
            omega
      rcases Nat.lt_or_ge c (f (i + 1)).H.n with l | l <;> rcases Nat.lt_or_ge c' (f (i + 1)).H.n with l' | l'
      · rw [σlt l] at hc; rw [σlt l'] at hc'
        exact hr'.inj c c' g hc hc'
      · rw [σlt l] at hc; rw [σge l'] at hc'
        exact (key c c' l l' hc hc').elim
      · rw [σge l] at hc; rw [σlt l'] at hc'
        exact (key c' c l' l hc' hc).elim
      · rw [σge l] at hc; rw [σge l'] at hc'
        exact M.hr.inj c c' g hc hc'
  refine hK _ _ _ _ _ (M.next E N hr2 (VR.mono G1 _ _ hv) pc hnS (fun c hc => ?_) (fun k hk hne hS c g h1 h2 hg => ?_) (fun c h1 h2 => ?_) (fun k hk hne hS c h1 h2 hwc => ?_))
  · rcases Nat.lt_or_ge c (f (i + 1)).H.n with l | l
    · refine ⟨i + 1, hi, l, hlt c l, fun j hj hwj => ?_⟩
      by_cases ej : j = i
      · subst ej; rw [addS_eq]; simp
      · rw [addS_ne ej, ord c j hj ej hwj]
        omega
    · obtain ⟨m, g1, g2, g3, g4⟩ := M.cont c (by rw [hnS] at hc; exact hc)
      refine ⟨m, g1, g2, by rw [hge c l]; exact g3, fun j hj hwj => ?_⟩
      have : j ≠ i := by
        intro ej
        subst ej
        have := hwj.1
        omega
      rw [addS_ne this]
      exact g4 j hj hwj
  · rcases Nat.lt_or_ge k i with l | l
    · have h3 := E.mono (j := k + 1) (k := i) l (by omega)
      rw [σlt (by omega)] at hg
      rcases ex.fresh c g hg with h4 | ⟨h4, _⟩
      · exact M.unb k hk hS c g h1 h2 (hσ h4).2
      · omega
    · have h3 := E.mono (j := i + 1) (k := k) (by omega) (by omega)
      rw [σge (by omega)] at hg
      exact M.unb k hk hS c g h1 h2 hg
  · rcases ex.cov c h1 h2 with h3 | ⟨g, h3⟩
    · refine .inl ?_
      show HS'.get c = _
      rw [hlt c h2]; exact h3
    · exact .inr ⟨g, by rw [σlt h2]; exact h3⟩
  · have hki : k < i := by
      rcases Nat.lt_or_ge k i with l | l
      · exact l
      · have h3 := E.mono (j := i) (k := k) l (by omega)
        have := hwc.1
        omega
    have hbk := E.birth hk (by omega)
    rcases E.writer hi hwc with h5 | h5
    · rcases he with he | he | he <;> rw [he] at h5 <;> cases h5
    · have hc : clash (e i) (e k) = true := by
        rw [h5]
        cases hek : e k <;> first | rfl | exact absurd hek hbk
      have := (E.ordered N hk hne hc).2 hki
      rw [hS] at this
      cases this
end
end Go.Tw
