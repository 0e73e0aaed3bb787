/- A region that draws its order: the run in the order of the text, and what it shows. No condition. -/
import Derived.Test.YtjlphacnmonfnaaGreatDoorTwOrd
set_option linter.unusedVariables false
set_option linter.unusedSimpArgs false
namespace Go.Tw

theorem wp_some {P : Program} {wro : Option Nat} {o : Oper} {a : Act} {w : World} {K : Act → World → Prop} (h : o.wpIn (WF wro) 0 P a w K (fun _ _ _ => False)) : ∃ a' w', K a' w' := by
  have room : ∀ n, (WF wro).room n := fun n d hd => by simp [Fence.wide] at hd
  unfold Oper.wpIn at h
  have h := h.2
  generalize (o.semAt (WF wro).round a.eval).run P w = r at h
  cases r with
  | ok x w' =>
    cases x <;> simp only [Oper.uponIn] at h
    case value v => exact ⟨_, _, h⟩
    case skip => exact ⟨_, _, h⟩
    case defer d => exact ⟨_, _, h⟩
    case enter f as =>
      obtain ⟨e, w2, fr, h1, _⟩ := h.2.2 [] (room _)
      cases e with
      | returned v => exact ⟨_, _, h1⟩
      | panicked c => exact h1.elim
      | outgrown => obtain ⟨_, _, h2⟩ := h1; exact h2.elim
    case row row as =>
      obtain ⟨v, w2, h1, _⟩ := h.2 default [] (room _)
      exact ⟨_, _, h1⟩
    case round l f tmps assign body =>
      obtain ⟨e, w2, h1, _⟩ := h.2.2 default [] (room _)
      cases e with
      | returned v => exact ⟨_, _, h1⟩
      | panicked c => exact h1.elim
      | outgrown => obtain ⟨_, _, h2⟩ := h1; exact h2.elim
  | halt x w' => cases x <;> simp only [Oper.uponIn] at h

structure StepOK (C : Ctx) (nt : Nat) (ops : Array Oper) (x : Oper) (st st' : St) (r : OR) (e : Eff) (b : Bool) (cv : V → List V → Heap → Option OR) : Prop where
  op : OpStep C cv
  dst : dstOk nt x.dst = true
  want : wantedV ops st.T x = some b
  no : b = false → r = ⟨undefV, st.H, st.H.n⟩ ∧ e = .none ∧ st' = ⟨putV st.T x.dst undefV, st.H, st.lo⟩
  yes : b = true → rsV C.P cv (rho C st.T) st.H x.op = some r ∧ e = effOf (rho C st.T) st.H x.op r ∧ st' = ⟨putV st.T x.dst r.v, r.H, min st.lo r.lo⟩

theorem StepOK.T {C : Ctx} {nt : Nat} {ops : Array Oper} {x : Oper} {st st' : St} {r : OR} {e : Eff} {b : Bool} {cv : V → List V → Heap → Option OR} (h : StepOK C nt ops x st st' r e b cv) : st'.T = putV st.T x.dst r.v ∧ st'.H = r.H := by
  cases b with
  | false => obtain ⟨rfl, _, rfl⟩ := h.no rfl; exact ⟨rfl, rfl⟩
  | true => obtain ⟨_, _, rfl⟩ := h.yes rfl; exact ⟨rfl, rfl⟩

theorem step_of {C : Ctx} {n nt : Nat} {ops : Array Oper} {x : Oper} {st st' : St} {e : Eff} (hop : ∀ m, m < n → OpStep C (callV C m)) (h : runOp C n nt ops x st = some (e, st')) : ∃ r b cv, StepOK C nt ops x st st' r e b cv := by
  cases n with
  | zero => simp [runOp] at h
  | succ n =>
    simp only [runOp] at h
    cases hd : dstOk nt x.dst with
    | false => simp [hd] at h
    | true =>
      simp only [hd, cond_true] at h
      cases hw : wantedV ops st.T x with
      | none => simp [hw] at h
      | some b =>
        cases b with
        | false =>
          simp only [hw, Option.some.injEq, Prod.mk.injEq] at h
          obtain ⟨h1, h2⟩ := h
          exact ⟨⟨undefV, st.H, st.H.n⟩, false, callV C n, hop n (by omega), hd, hw, fun _ => ⟨rfl, h1.symm, h2.symm⟩, fun h => nomatch h⟩
        | true =>
          simp only [hw] at h
          cases hr : rsV C.P (callV C n) (rho C st.T) st.H x.op with
          | none => simp [hr] at h
          | some r =>
            simp only [hr, Option.some.injEq, Prod.mk.injEq] at h
            obtain ⟨h1, h2⟩ := h
            exact ⟨r, true, callV C n, hop n (by omega), hd, hw, fun h => (nomatch h), fun _ => ⟨hr, h1.symm, h2.symm⟩⟩

structure Run (C : Ctx) (nt : Nat) (ops : Array Oper) (l : List Oper) (f : Nat → St) (r : Nat → OR) (e : Nat → Eff) (b : Nat → Bool) (cv : Nat → V → List V → Heap → Option OR) : Prop where
  step : ∀ (k : Nat) (x : Oper), l[k]? = some x → StepOK C nt ops x (f k) (f (k + 1)) (r k) (e k) (b k) (cv k)

theorem run_of {C : Ctx} {nt : Nat} {ops : Array Oper} : ∀ (n : Nat) (l : List Oper) (st st' : St) (es : List Eff), (∀ m, m < n → OpStep C (callV C m)) → runOps C n nt ops l st = some (es, st') →
    ∃ f r e b cv, f 0 = st ∧ f l.length = st' ∧ es.length = l.length ∧ (∀ k, k < l.length → es[k]? = some (e k)) ∧ Run C nt ops l f r e b cv
  | 0, l, st, st', es, hop, h => by simp [runOps] at h
  | n + 1, [], st, st', es, hop, h => by
    simp only [runOps, Option.some.injEq, Prod.mk.injEq] at h
    obtain ⟨rfl, rfl⟩ := h
    exact ⟨fun _ => st, fun _ => default, fun _ => default, fun _ => true, fun _ _ _ _ => none, rfl, rfl, rfl, fun k hk => by simp at hk, ⟨fun k x hk => by simp at hk⟩⟩
  | n + 1, x :: rest, st, st', es, hop, h => by
    simp only [runOps] at h
    split at h
    · rename_i e0 st1 h1
      split at h
      · rename_i es' st2 h2
        simp only [Option.some.injEq, Prod.mk.injEq] at h
        obtain ⟨rfl, rfl⟩ := h
        obtain ⟨r0, b0, cv0, hs⟩ := step_of (fun m hm => hop m (by omega)) h1
        obtain ⟨f, r, e, b, cv, g1, g2, g3, g4, g5⟩ := run_of n rest st1 st2 es' (fun m hm => hop m (by omega)) h2
        refine ⟨fun k => match k with | 0 => st | k + 1 => f k, fun k => match k with | 0 => r0 | k + 1 => r k, fun k => match k with | 0 => e0 | k + 1 => e k, fun k => match k with | 0 => b0 | k + 1 => b k, fun k => match k with | 0 => cv0 | k + 1 => cv k, rfl, g2, by simp [g3], fun k hk => ?_, ⟨fun k y hk => ?_⟩⟩
        · cases k with
          | zero => rfl
          | succ k => simpa using g4 k (by simpa using hk)
        · cases k with
          | zero =>
            simp only [List.getElem?_cons_zero, Option.some.injEq] at hk
            subst hk
            simp only [g1]
            exact hs
          | succ k =>
            simp only [List.getElem?_cons_succ] at hk
            exact g5.step k y hk
      · cases h
    · cases h

/-- What the run in the order of the text shows of memory, and a state of the model for each of its states. -/
structure Ghost (C : Ctx) (h : Nat → Prop) (nt : Nat) (ro wro : Option Nat) (o : Orig) (s0 : Nat → Option Nat) (H0 : Heap) (st : St) (s : Nat → Option Nat) (w : World) (a : Act) : Prop where
  sr : SR C h nt ro wro o s w st a
  olds : ∀ b g, s0 b = some g → Dead st.H b ∨ ∃ g', s b = some g'
  news : ∀ b, H0.n ≤ b → b < st.H.n → Dead st.H b ∨ ∃ g', s b = some g'

structure HStep (H : Heap) (r : OR) : Prop where
  n : H.n ≤ r.H.n
  dead : ∀ b, Dead H b → Dead r.H b
  old : ∀ b, b < r.lo → b < H.n → r.H.get b = H.get b

theorem ghost_step {C : Ctx} {h : Nat → Prop} {nt : Nat} {ro wro : Option Nat} {o : Orig} {s0 : Nat → Option Nat} {H0 : Heap} {ops : Array Oper} {x : Oper} {st st' : St} {r : OR} {e : Eff} {b : Bool} {cv : V → List V → Heap → Option OR} (hs : StepOK C nt ops x st st' r e b cv)
    {s : Nat → Option Nat} {w : World} {a : Act} (G : Ghost C h nt ro wro o s0 H0 st s w a) : HStep st.H r ∧ ∃ s' w' a', Ghost C h nt ro wro o s0 H0 st' s' w' a' := by
  cases b with
  | false =>
    obtain ⟨rfl, _, rfl⟩ := hs.no rfl
    refine ⟨⟨Nat.le_refl _, fun _ h => h, fun _ _ _ => rfl⟩, s, w, a.put x.dst undef, ?_, G.olds, G.news⟩
    have := G.sr.step hs.dst (r := ⟨undefV, st.H, st.H.n⟩) (c := undef) ⟨#[], rfl, by simp [VRs]⟩ G.sr.hr (Ext.refl _ _ _)
    exact ⟨this.ob, this.hr, this.gk, G.sr.ln, G.sr.ext, this.sz, this.df, this.rd, this.tm⟩
  | true =>
    obtain ⟨hr, _, rfl⟩ := hs.yes rfl
    obtain ⟨a', w', s', c, ha, h1, h2, h3⟩ := wp_some (hs.op h wro s st.H w (rho C st.T) x r a (fun a' w' => ∃ s' c, a' = a.put x.dst c ∧ VH (C.ph h) s' r.H w' r.v c ∧ HR (C.ph h) s' r.H w' ∧ Ext r.lo s st.H w s' r.H w') (fun _ _ _ => False) G.sr.hr G.sr.gk (fun y _ => rho_ok G.sr.gk G.sr.tm y) hr
      fun c w' s' h1 h2 h3 => ⟨s', c, rfl, h1, h2, h3⟩)
    subst ha
    refine ⟨⟨h3.hn, h3.dd, h3.old⟩, s', w', _, G.sr.step hs.dst h1 h2 h3, fun b g hb => ?_, fun b hb1 hb2 => ?_⟩
    · rcases G.olds b g hb with hd | ⟨g', hg⟩
      · exact .inl (h3.dd b hd)
      · rcases h3.ss b g' hg with h4 | ⟨h4, _⟩
        · exact .inr ⟨g', h4⟩
        · exact .inl h4
    · by_cases l : b < st.H.n
      · rcases G.news b hb1 l with hd | ⟨g', hg⟩
        · exact .inl (h3.dd b hd)
        · rcases h3.ss b g' hg with h4 | ⟨h4, _⟩
          · exact .inr ⟨g', h4⟩
          · exact .inl h4
      · exact h3.cov b (by omega) hb2

theorem ghosts {C : Ctx} {h : Nat → Prop} {nt : Nat} {ro wro : Option Nat} {o : Orig} {s0 : Nat → Option Nat} {w0 : World} {a0 : Act} {ops : Array Oper} {f : Nat → St} {r : Nat → OR} {e : Nat → Eff} {b : Nat → Bool} {cv : Nat → V → List V → Heap → Option OR}
    (hr : Run C nt ops ops.toList f r e b cv) (R : SR C h nt ro wro o s0 w0 (f 0) a0) : ∀ k, k ≤ ops.size → ∃ s w a, Ghost C h nt ro wro o s0 (f 0).H (f k) s w a
  | 0, _ => ⟨s0, w0, a0, R, fun b g hb => .inr ⟨g, hb⟩, fun b h1 h2 => by omega⟩
  | k + 1, hk => by
    obtain ⟨s, w, a, G⟩ := ghosts hr R k (by omega)
    have hx : ops.toList[k]? = some ops[k] := by simp [show k < ops.size by omega]
    exact (ghost_step (hr.step k _ hx) G).2

theorem hsteps {C : Ctx} {h : Nat → Prop} {nt : Nat} {ro wro : Option Nat} {o : Orig} {s0 : Nat → Option Nat} {w0 : World} {a0 : Act} {ops : Array Oper} {f : Nat → St} {r : Nat → OR} {e : Nat → Eff} {b : Nat → Bool} {cv : Nat → V → List V → Heap → Option OR}
    (hr : Run C nt ops ops.toList f r e b cv) (R : SR C h nt ro wro o s0 w0 (f 0) a0) {k : Nat} (hk : k < ops.size) : HStep (f k).H (r k) ∧ (f (k + 1)).H = (r k).H := by
  obtain ⟨s, w, a, G⟩ := ghosts hr R k (by omega)
  have hx : ops.toList[k]? = some ops[k] := by simp [hk]
  exact ⟨(ghost_step (hr.step k _ hx) G).1, (hr.step k _ hx).T.2⟩
end Go.Tw
