/- The evaluator is sound: operations in a row, results, what is read out of memory. No condition. -/
import Derived.Test.YtjlphacnmonfnaaGreatDoorTwSound1
set_option linter.unusedVariables false
set_option linter.unusedSimpArgs false
namespace Go.Tw

section
variable {C : Ctx} {nt : Nat} {ro wro : Option Nat} {o : Orig} {s s' : Nat → Option Nat} {H H' : Heap} {w w' : World} {st st' : St} {a : Act} {lo : Nat} {h : Nat → Prop}

/-- What comes of one operation. -/
theorem SR.step (R : SR C h nt ro wro o s w st a) {dst : Option Tmp} (hd : dstOk nt dst = true) {r : OR} {c : Value} {s' : Nat → Option Nat} {w' : World}
    (hv : VH (C.ph h) s' r.H w' r.v c) (hr : HR (C.ph h) s' r.H w') (E : Ext r.lo s st.H w s' r.H w') : SR C h nt ro wro o s' w' ⟨putV st.T dst r.v, r.H, min st.lo r.lo⟩ (a.put dst c) where
  ob := R.ob
  hr := hr
  gk := R.gk.ext E
  ln := Nat.le_trans (Nat.min_le_left _ _) R.ln
  ext := R.ext.trans R.ob E
  sz := by rw [put_size']; exact R.sz
  df := by rw [put_defers']; exact R.df.ext E
  rd := R.rd.ext E
  tm := fun t => put_tm hd R.sz (fun t => E.vh (R.tm t)) hv t

theorem runOp_ok {n : Nat} {cv : V → List V → Heap → Option OR} (hcv : cv = callV C n) (hop : OpStep C cv) {ops : Array Oper} {x : Oper} {e : Eff} (he : runOp C (n + 1) nt ops x st = some (e, st')) (R : SR C h nt ro wro o s w st a)
    (K : Act → World → Prop) (Q : Exit → Act → World → Prop) (hk : ∀ s' w' a' l, SR C h nt ro wro o s' w' st' a' → st'.lo = min st.lo l → Ext l s st.H w s' st'.H w' → K a' w') :
    if Region.wanted x (yielded ops a.tmps) then x.wpIn (WF wro) 0 C.P a w K Q else (∀ f, x.about C.P w a.eval = some f → (WF wro).fn f) ∧ K (a.put x.dst undef) w := by
  subst hcv
  simp only [runOp] at he
  cases hd : dstOk nt x.dst with
  | false => simp [hd] at he
  | true =>
    simp only [hd, cond_true] at he
    cases hw : wantedV ops st.T x with
    | none => simp [hw] at he
    | some b =>
      rw [wanted_ok R.tm hw]
      cases b with
      | false =>
        simp only [hw, Option.some.injEq, Prod.mk.injEq] at he
        obtain ⟨_, rfl⟩ := he
        simp only [Bool.false_eq_true, if_false]
        refine ⟨fun _ _ => trivial, ?_⟩
        refine hk s w _ st.H.n ?_ (by have := R.ln; have := R.ext.hn; simp only; omega) (Ext.refl _ _ _)
        have := R.step hd (r := ⟨undefV, st.H, st.H.n⟩) (c := undef) ⟨#[], rfl, by simp [VRs]⟩ R.hr (Ext.refl _ _ _)
        exact ⟨this.ob, this.hr, this.gk, R.ln, R.ext, this.sz, this.df, this.rd, this.tm⟩
      | true =>
        simp only [hw] at he
        cases hr : rsV C.P (callV C n) (rho C st.T) st.H x.op with
        | none => simp [hr] at he
        | some r =>
          simp only [hr, Option.some.injEq, Prod.mk.injEq] at he
          obtain ⟨_, rfl⟩ := he
          simp only [if_true]
          exact hop h wro s st.H w (rho C st.T) x r a K Q R.hr R.gk (fun x _ => rho_ok R.gk R.tm x) hr fun c w' s' h1 h2 h3 => hk s' w' _ r.lo (R.step hd h1 h2 h3) rfl h3

/-- Operations in a row, and what stands behind them. -/
theorem runOps_on : ∀ (n : Nat) (hop : ∀ m, m < n → OpStep C (callV C m)) {ops : Array Oper} (l rest : List Oper) {s : Nat → Option Nat} {w : World} {st st' : St} {a : Act} {es : List Eff} (he : runOps C n nt ops l st = some (es, st')) (R : SR C h nt ro wro o s w st a)
    (Q : Exit → Act → World → Prop) (hk : ∀ s' w' a', SR C h nt ro wro o s' w' st' a' → wpListIn (WF wro) 0 C.P ops Q rest a' w'), wpListIn (WF wro) 0 C.P ops Q (l ++ rest) a w
  | 0, _, _, l, _, _, _, _, _, _, _, he, _, _, _ => by simp [runOps] at he
  | n + 1, hop, ops, [], rest, s, w, st, st', a, es, he, R, Q, hk => by
    simp only [runOps, Option.some.injEq, Prod.mk.injEq] at he
    obtain ⟨_, rfl⟩ := he
    exact hk s w a R
  | n + 1, hop, ops, x :: l, rest, s, w, st, st', a, es, he, R, Q, hk => by
    simp only [runOps] at he
    split at he
    · rename_i e st1 h1
      split at he
      · rename_i es' st2 h2
        simp only [Option.some.injEq, Prod.mk.injEq] at he
        obtain ⟨_, rfl⟩ := he
        refine wpListIn_step fun K hK => ?_
        cases n with
        | zero => simp [runOp] at h1
        | succ n => exact runOp_ok rfl (hop n (by omega)) h1 R K Q fun s' w' a' _ R' _ _ => hK _ _ (runOps_on (n + 1) (fun m hm => hop m (by omega)) l rest h2 R' Q hk)
      · cases he
    · cases he

theorem runOps_ok : ∀ (n : Nat) (hop : ∀ m, m < n → OpStep C (callV C m)) {ops : Array Oper} (l : List Oper) {s : Nat → Option Nat} {w : World} {st st' : St} {a : Act} {es : List Eff} (he : runOps C n nt ops l st = some (es, st')) (R : SR C h nt ro wro o s w st a)
    (Q : Exit → Act → World → Prop) (hk : ∀ s' w' a', SR C h nt ro wro o s' w' st' a' → Q .normal a' w'), wpListIn (WF wro) 0 C.P ops Q l a w
  | 0, _, _, l, _, _, _, _, _, _, he, _, _, _ => by simp [runOps] at he
  | n + 1, hop, ops, [], s, w, st, st', a, es, he, R, Q, hk => by
    simp only [runOps, Option.some.injEq, Prod.mk.injEq] at he
    obtain ⟨_, rfl⟩ := he
    exact hk s w a R
  | n + 1, hop, ops, x :: rest, s, w, st, st', a, es, he, R, Q, hk => by
    simp only [runOps] at he
    split at he
    · rename_i e st1 h1
      split at he
      · rename_i es' st2 h2
        simp only [Option.some.injEq, Prod.mk.injEq] at he
        obtain ⟨_, rfl⟩ := he
        refine wpListIn_step fun K hK => ?_
        cases n with
        | zero => simp [runOp] at h1
        | succ n => exact runOp_ok rfl (hop n (by omega)) h1 R K Q fun s' w' a' _ R' _ _ => hK _ _ (runOps_ok (n + 1) (fun m hm => hop m (by omega)) rest h2 R' Q hk)
      · cases he
    · cases he

theorem mapM_ok {α β : Type} {f : α → Option β} : ∀ {l : List α} {r : List β}, l.mapM f = some r → r.length = l.length ∧ ∀ (i : Nat) x y, l[i]? = some x → r[i]? = some y → f x = some y
  | [], r, h => by simp at h; subst h; simp
  | x :: l, r, h => by
    simp only [List.mapM_cons, Option.bind_eq_bind, Option.bind_eq_some_iff, Option.pure_def, Option.some.injEq] at h
    obtain ⟨y, hy, ys, hys, rfl⟩ := h
    obtain ⟨h1, h2⟩ := mapM_ok hys
    refine ⟨by simp [h1], fun i u v hu hv => ?_⟩
    cases i with
    | zero => simp at hu hv; subst hu; subst hv; exact hy
    | succ i => simp at hu hv; exact h2 i u v hu hv

theorem mapM_vrs {P : PH} {f : V → Option V} {w : World} {s s' : Nat → Option Nat} {d d' pr pr' : Nat → Prop} (hf : ∀ v u c, f v = some u → VR (szP P) s d pr w v c → VR (szP P) s' d' pr' w u c) {vs us : List V} {cs : List Value} (h : vs.mapM f = some us) (hv : VRs (szP P) s d pr w vs cs) : VRs (szP P) s' d' pr' w us cs := by
  obtain ⟨h1, h2⟩ := mapM_ok h
  refine VRs.mk (by rw [h1, hv.length]) fun i u c hu hc => ?_
  have hi : i < vs.length := by
    have := (List.getElem?_eq_some_iff.1 hu).1
    omega
  obtain ⟨c', h3, h4⟩ := hv.get (List.getElem?_eq_getElem hi)
  rw [hc] at h3
  injection h3 with h3
  subst h3
  exact hf _ _ _ (h2 i _ _ (List.getElem?_eq_getElem hi) hu) h4

theorem derefV_ok {P : PH} (hr : HR P s H w) : ∀ (n : Nat) {v u : V} {c : Value}, derefV H n v = some u → VH P s H w v c → VR (szP P) (fun _ => none) (fun _ => False) (fun g => g < w.heap.size) w u c
  | 0, _, _, _, h, _ => by simp [derefV] at h
  | n + 1, v, u, c, h, hv => by
    have ih : ∀ {vs us : List V} {cs : List Value}, vs.mapM (derefV H n) = some us → VHs P s H w vs cs → VRs (szP P) (fun _ => none) (fun _ => False) (fun g => g < w.heap.size) w us cs := fun h1 h2 => mapM_vrs (fun v u c h h' => derefV_ok hr n h h') h1 h2
    simp only [derefV] at h
    split at h
    · injection h with h; subst h; exact hv
    · rename_i cells len
      obtain ⟨us, h1, rfl⟩ := Option.map_eq_some_iff.1 h
      obtain ⟨g, off, cap, cs, e, hl, hg, hvs, ha⟩ := hv
      exact ⟨g, off, cap, cs, e, hl, hg.1, ih h1 hvs, ha⟩
    · rename_i cells
      obtain ⟨us, h1, rfl⟩ := Option.map_eq_some_iff.1 h
      obtain ⟨g, off, cs, e, hg, hvs, ha⟩ := hv
      exact ⟨g, off, cs, e, hg.1, ih h1 hvs, ha⟩
    · rename_i cells
      obtain ⟨us, h1, rfl⟩ := Option.map_eq_some_iff.1 h
      obtain ⟨xs, e, hvs⟩ := hv
      exact ⟨xs, e, ih h1 hvs⟩
    · rename_i vs
      obtain ⟨us, h1, rfl⟩ := Option.map_eq_some_iff.1 h
      obtain ⟨xs, e, hvs⟩ := hv
      exact ⟨xs, e, ih h1 hvs⟩
    · rename_i t v
      obtain ⟨us, h1, rfl⟩ := Option.map_eq_some_iff.1 h
      obtain ⟨x, e, hvs⟩ := hv
      exact ⟨x, e, derefV_ok hr n h1 hvs⟩
    · rename_i b off
      split at h
      · rename_i cs e hb
        obtain ⟨us, h1, rfl⟩ := Option.map_eq_some_iff.1 h
        obtain ⟨q, rfl, hq⟩ := hv
        obtain ⟨g, h2, rfl⟩ := hr.live hb (by simp) hq
        obtain ⟨arr, fr, h3, h4, _, _⟩ := hr.cells hb h2
        refine ⟨g, off, _, rfl, (hr.lt h2).2, ih h1 (h4.drop off), ?_⟩
        intro i c hi
        rw [List.getElem?_drop] at hi
        simpa using block_holds h3 _ _ _ hi
      · cases h
    · rename_i b off len cap opn
      split at h
      · rename_i cs e hb
        cases hl : Nat.ble len cap with
        | false => simp [hl] at h
        | true =>
          simp only [hl, cond_true] at h
          obtain ⟨us, h1, rfl⟩ := Option.map_eq_some_iff.1 h
          obtain ⟨q, cap', rfl, hc1, hc2, hq⟩ := hv
          obtain ⟨g, h2, rfl, _⟩ := hr.live hb (by simp) hq
          obtain ⟨arr, fr, h3, h4, _, _⟩ := hr.cells hb h2
          have hl := Nat.le_of_ble_eq_true hl
          cases opn with
          | none =>
            refine ⟨g, off, cap', _, rfl, by omega, (hr.lt h2).2, ih h1 (h4.drop off), ?_⟩
            intro i c hi
            rw [List.getElem?_drop] at hi
            simpa using block_holds h3 _ _ _ hi
          | some z =>
            refine ⟨g, off, cap', _, rfl, by omega, (hr.lt h2).2, ih h1 ((h4.drop off).take _), ?_⟩
            intro i c hi
            rw [List.getElem?_take] at hi
            split at hi
            · rw [List.getElem?_drop] at hi
              simpa using block_holds h3 _ _ _ hi
            · cases hi
      · cases h
    · injection h with h; subst h; exact hv
    · injection h with h; subst h; exact hv
    · cases h
end
end Go.Tw
