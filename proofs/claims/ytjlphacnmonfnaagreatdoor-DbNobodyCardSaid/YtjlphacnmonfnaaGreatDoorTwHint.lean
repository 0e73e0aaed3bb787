/- The evaluator with hints: after so many operations the next one's value is told; what is told is to be shown. No condition. -/
import Derived.Test.YtjlphacnmonfnaaGreatDoorTwReg6
set_option linter.unusedVariables false
set_option linter.unusedSimpArgs false
namespace Go.Tw

abbrev Hints := List (Nat × V)

/-- What is to be shown of a call whose value is told: of a function that is known, what is known of it. -/
def oblCall (C : Ctx) (n : Nat) (f : V) (args : List V) (H : Heap) (v : V) : Prop :=
  match f with
  | .fn (.func g) first cap => match C.S g with
    | some F => match (first ++ args ++ cap).mapM (derefV H 50) with
      | some as => match n with
        | _ + 2 => F as = some v
        | _ => False
      | none => False
    | none => callV C n (.fn (.func g) first cap) args H = some ⟨v, H, H.n⟩
  | _ => False

theorem oblCall_ok {C : Ctx} {n : Nat} {f : V} {args : List V} {H : Heap} {v : V} (h : oblCall C n f args H v) : callV C n f args H = some ⟨v, H, H.n⟩ := by
  unfold oblCall at h
  split at h
  · rename_i g first cap
    split at h
    · rename_i F hF
      split at h
      · rename_i as has
        split at h
        · rename_i m
          simp only [callV, callF, hF, has, Option.bind_eq_bind, Option.bind_some, h]
        · exact h.elim
      · exact h.elim
    · exact h
  · exact h.elim

def oblOf (C : Ctx) (n : Nat) (r : Operand → V) (H : Heap) (op : Op) (v : V) : Prop :=
  match op with
  | .index t x i => indexV C.P t (r x) (r i) = some v
  | .binOp q t x y _ => binV C.P q t (r x) (r y) = some v
  | .call c => match c.callee with
    | .value f => oblCall C n (r f) (c.args.toList.map r) H v
    | .invoke _ _ => False
    | _ => opV C.P r H op = some ⟨v, H, H.n⟩
  | _ => opV C.P r H op = some ⟨v, H, H.n⟩

theorem oblOf_ok {C : Ctx} {n : Nat} {r : Operand → V} {H : Heap} {op : Op} {v : V} (h : oblOf C n r H op v) : rsV C.P (callV C n) r H op = some ⟨v, H, H.n⟩ := by
  cases op <;> simp only [oblOf, rsV] at h ⊢ <;> (try exact h)
  case index t x i => simp only [opV]; rw [h]; rfl
  case binOp q t x y z => simp only [opV]; rw [h]; rfl
  case call c =>
    obtain ⟨callee, args, argTypes⟩ := c
    cases callee with
    | value f => exact oblCall_ok h
    | invoke x name => exact h.elim
    | _ => exact h

theorem rsV_value {P : Program} {cv : V → List V → Heap → Option OR} {r : Operand → V} {H : Heap} {op : Op} {c : Call} {f : Operand} (ho : op = .call c) (hf : c.callee = .value f) : rsV P cv r H op = cv (r f) (c.args.toList.map r) H := by
  subst ho
  simp only [rsV, hf]

theorem rsV_other {P : Program} {cv : V → List V → Heap → Option OR} {r : Operand → V} {H : Heap} {op : Op} (h : ∀ c f, op = .call c → c.callee ≠ .value f) (h' : ∀ c x name, op = .call c → c.callee ≠ .invoke x name) : rsV P cv r H op = opV P r H op := by
  unfold rsV
  split
  · rename_i c
    split
    · rename_i f hf
      exact absurd hf (h c f rfl)
    · rename_i x name hf
      exact absurd hf (h' c x name rfl)
    · rfl
  · rfl
theorem rsV_invoke {P : Program} {cv : V → List V → Heap → Option OR} {r : Operand → V} {H : Heap} {op : Op} {c : Call} {x : Operand} {name : String} (ho : op = .call c) (hf : c.callee = .invoke x name) : rsV P cv r H op = cv (.fn (.method name) [r x] []) (c.args.toList.map r) H := by
  subst ho
  simp only [rsV, hf]

mutual
def hexec (C : Ctx) : Nat → Option Nat → Nat → Code → St → Hints → List Prop → Option (Ex × St × Hints × List Prop)
  | 0, _, _, _, _, _, _ => none
  | n + 1, ro, nt, c, st, hs, ps =>
    match c with
    | .skip => some (.normal, st, hs, ps)
    | .label _ => some (.normal, st, hs, ps)
    | .region _ ops draw =>
      bif draw then
        bif regOk ops then
          match hrunOps C n nt ops ops.toList st hs ps with
          | some (effs, st', hs', ps') => bif orderOk ops effs then some (.normal, st', hs', ps') else none
          | none => none
        else none
      else match hrunOps C n nt ops ops.toList st hs ps with
        | some (_, st', hs', ps') => some (.normal, st', hs', ps')
        | none => none
    | .seq a b => match hexec C n ro nt a st hs ps with
      | some (.normal, st', hs', ps') => hexec C n ro nt b st' hs' ps'
      | r => r
    | .cond c a b => match rho C st.T c with
      | .lit (.bool t) => bif t then hexec C n ro nt a st hs ps else hexec C n ro nt b st hs ps
      | _ => none
    | .block id body => match hexec C n ro nt body st hs ps with
      | some (.exit i, st', hs', ps') => bif Nat.beq i id then some (.normal, st', hs', ps') else some (.exit i, st', hs', ps')
      | r => r
    | .loop body => match hexec C n ro nt body st hs ps with
      | some (.normal, st', hs', ps') => hexec C n ro nt (.loop body) st' hs' ps'
      | r => r
    | .exit id => some (.exit id, st, hs, ps)
    | .ret => some (.ret, st, hs, ps)
    | .rangeFunc f params assign body => match hs with
      | [] => (exec C (n + 1) ro nt (.rangeFunc f params assign body) st).map fun (x, st') => (x, st', [], ps)
      | _ => none
    | _ => none
def hrunOps (C : Ctx) : Nat → Nat → Array Oper → List Oper → St → Hints → List Prop → Option (List Eff × St × Hints × List Prop)
  | 0, _, _, _, _, _, _ => none
  | n + 1, nt, ops, [], st, hs, ps => some ([], st, hs, ps)
  | n + 1, nt, ops, o :: rest, st, hs, ps =>
    match hrunOp C n nt ops o st hs ps with
    | some (e, st', hs', ps') => match hrunOps C n nt ops rest st' hs' ps' with
      | some (es, st2, hs2, ps2) => some (e :: es, st2, hs2, ps2)
      | none => none
    | none => none
def hrunOp (C : Ctx) : Nat → Nat → Array Oper → Oper → St → Hints → List Prop → Option (Eff × St × Hints × List Prop)
  | 0, _, _, _, _, _, _ => none
  | n + 1, nt, ops, o, st, hs, ps =>
    bif dstOk nt o.dst then
      match wantedV ops st.T o with
      | none => none
      | some false => some (.none, ⟨putV st.T o.dst undefV, st.H, st.lo⟩, hs, ps)
      | some true =>
        match hs with
        | (0, v) :: hs' => some (effOf (rho C st.T) st.H o.op ⟨v, st.H, st.H.n⟩, ⟨putV st.T o.dst v, st.H, min st.lo st.H.n⟩, hs', oblOf C n (rho C st.T) st.H o.op v :: ps)
        | hs =>
          match (match o.op with
            | .call c => match c.callee with
              | .value f => hcallV C n (rho C st.T f) (c.args.toList.map (rho C st.T)) st.H (match hs with | (k + 1, v) :: hs' => (k, v) :: hs' | hs => hs) ps
              | .invoke x name => hcallV C n (.fn (.method name) [rho C st.T x] []) (c.args.toList.map (rho C st.T)) st.H (match hs with | (k + 1, v) :: hs' => (k, v) :: hs' | hs => hs) ps
              | _ => (opV C.P (rho C st.T) st.H o.op).map fun r => (r, (match hs with | (k + 1, v) :: hs' => (k, v) :: hs' | hs => hs), ps)
            | op => (opV C.P (rho C st.T) st.H o.op).map fun r => (r, (match hs with | (k + 1, v) :: hs' => (k, v) :: hs' | hs => hs), ps)) with
          | some (r, hs', ps') => some (effOf (rho C st.T) st.H o.op r, ⟨putV st.T o.dst r.v, r.H, min st.lo r.lo⟩, hs', ps')
          | none => none
    else none
def hcallV (C : Ctx) : Nat → V → List V → Heap → Hints → List Prop → Option (OR × Hints × List Prop)
  | 0, _, _, _, _, _ => none
  | n + 1, f, args, H, hs, ps =>
    match f with
    | .fn (.func g) first cap => hcallF C n g (first ++ args ++ cap) H hs ps
    | .fn (.method name) first cap => match first ++ args with
      | .ifc t v :: rest => match methodX C.P t name with
        | some g => hcallF C n g (v :: rest) H hs ps
        | none => none
      | _ => none
    | .yld b => match hs with
      | [] => (callV C (n + 1) (.yld b) args H).map fun r => (r, [], ps)
      | _ => none
    | _ => none
def hcallF (C : Ctx) : Nat → FuncId → List V → Heap → Hints → List Prop → Option (OR × Hints × List Prop)
  | 0, _, _, _, _, _ => none
  | n + 1, g, args, H, hs, ps =>
    match C.S g with
    | some F => do
      let as ← args.mapM (derefV H 50)
      let v ← F as
      some (⟨v, H, H.n⟩, hs, ps)
    | none =>
      match C.P.funcs[g]? with
      | some fn => match fn.body with
        | some body => bif fn.name == "runtime.NumGoroutine" then none else
          bif hasDefer body then none else
          match hexec C n none (max args.length fn.ntmps) body ⟨initT args 0 .nil, H, H.n⟩ hs ps with
          | some (.normal, st, hs', ps') => do
            let vs ← loadRes C st.T st.H fn.results.toList
            some (⟨resOf vs, st.H, st.lo⟩, hs', ps')
          | some (.ret, st, hs', ps') => do
            let vs ← loadRes C st.T st.H fn.results.toList
            some (⟨resOf vs, st.H, st.lo⟩, hs', ps')
          | _ => none
        | none => none
      | none => none
end

def AllOf (ps : List Prop) : Prop := ∀ p ∈ ps, p

theorem hsound (C : Ctx) (n : Nat) :
    (∀ ro nt c st hs ps x st' hs' ps', hexec C n ro nt c st hs ps = some (x, st', hs', ps') → AllOf ps' → exec C n ro nt c st = some (x, st') ∧ AllOf ps) ∧
    (∀ nt ops l st hs ps es st' hs' ps', hrunOps C n nt ops l st hs ps = some (es, st', hs', ps') → AllOf ps' → runOps C n nt ops l st = some (es, st') ∧ AllOf ps) ∧
    (∀ nt ops o st hs ps e st' hs' ps', hrunOp C n nt ops o st hs ps = some (e, st', hs', ps') → AllOf ps' → runOp C n nt ops o st = some (e, st') ∧ AllOf ps) ∧
    (∀ f args H hs ps r hs' ps', hcallV C n f args H hs ps = some (r, hs', ps') → AllOf ps' → callV C n f args H = some r ∧ AllOf ps) ∧
    (∀ g args H hs ps r hs' ps', hcallF C n g args H hs ps = some (r, hs', ps') → AllOf ps' → callF C n g args H = some r ∧ AllOf ps) := by
  induction n with
  | zero => exact ⟨fun _ _ _ _ _ _ _ _ _ _ h => by simp [hexec] at h, fun _ _ _ _ _ _ _ _ _ _ h => by simp [hrunOps] at h, fun _ _ _ _ _ _ _ _ _ _ h => by simp [hrunOp] at h, fun _ _ _ _ _ _ _ _ h => by simp [hcallV] at h, fun _ _ _ _ _ _ _ _ h => by simp [hcallF] at h⟩
  | succ n ih =>
    obtain ⟨i1, i2, i3, i4, i5⟩ := ih
    refine ⟨?_, ?_, ?_, ?_, ?_⟩
    · intro ro nt c st hs ps x st' hs' ps' h ha
      cases c <;> simp only [hexec, exec] at h ⊢ <;> (try (cases h; done))
      case skip => simp only [Option.some.injEq, Prod.mk.injEq] at h; obtain ⟨rfl, rfl, rfl, rfl⟩ := h; exact ⟨rfl, ha⟩
      case label => simp only [Option.some.injEq, Prod.mk.injEq] at h; obtain ⟨rfl, rfl, rfl, rfl⟩ := h; exact ⟨rfl, ha⟩
      case exit => simp only [Option.some.injEq, Prod.mk.injEq] at h; obtain ⟨rfl, rfl, rfl, rfl⟩ := h; exact ⟨rfl, ha⟩
      case ret => simp only [Option.some.injEq, Prod.mk.injEq] at h; obtain ⟨rfl, rfl, rfl, rfl⟩ := h; exact ⟨rfl, ha⟩
      case region id ops draw =>
        cases draw with
        | false =>
          simp only [cond_false] at h ⊢
          split at h
          · rename_i es st1 hs1 ps1 h1
            simp only [Option.some.injEq, Prod.mk.injEq] at h
            obtain ⟨rfl, rfl, rfl, rfl⟩ := h
            obtain ⟨k1, k2⟩ := i2 _ _ _ _ _ _ _ _ _ _ h1 ha
            rw [k1]
            exact ⟨rfl, k2⟩
          · cases h
        | true =>
          simp only [cond_true] at h ⊢
          cases hg : regOk ops with
          | false => simp [hg] at h
          | true =>
            simp only [hg, cond_true] at h ⊢
            split at h
            · rename_i es st1 hs1 ps1 h1
              cases ho : orderOk ops es with
              | false => simp [ho] at h
              | true =>
                simp only [ho, cond_true, Option.some.injEq, Prod.mk.injEq] at h
                obtain ⟨rfl, rfl, rfl, rfl⟩ := h
                obtain ⟨k1, k2⟩ := i2 _ _ _ _ _ _ _ _ _ _ h1 ha
                rw [k1]
                simp only [ho, cond_true]
                exact ⟨trivial, k2⟩
            · cases h
      case seq a b =>
        cases h1 : hexec C n ro nt a st hs ps with
        | none => simp [h1] at h
        | some q =>
          obtain ⟨y, st1, hs1, ps1⟩ := q
          cases y with
          | normal =>
            simp only [h1] at h
            obtain ⟨k1, k2⟩ := i1 _ _ _ _ _ _ _ _ _ _ h ha
            obtain ⟨k3, k4⟩ := i1 _ _ _ _ _ _ _ _ _ _ h1 k2
            rw [k3]
            exact ⟨k1, k4⟩
          | exit i =>
            simp only [h1, Option.some.injEq, Prod.mk.injEq] at h
            obtain ⟨rfl, rfl, rfl, rfl⟩ := h
            obtain ⟨k3, k4⟩ := i1 _ _ _ _ _ _ _ _ _ _ h1 ha
            rw [k3]
            exact ⟨rfl, k4⟩
          | ret =>
            simp only [h1, Option.some.injEq, Prod.mk.injEq] at h
            obtain ⟨rfl, rfl, rfl, rfl⟩ := h
            obtain ⟨k3, k4⟩ := i1 _ _ _ _ _ _ _ _ _ _ h1 ha
            rw [k3]
            exact ⟨rfl, k4⟩
      case cond q a b =>
        split at h
        · rename_i t ht
          cases t with
          | true =>
            simp only [cond_true] at h
            obtain ⟨k1, k2⟩ := i1 _ _ _ _ _ _ _ _ _ _ h ha
            exact ⟨by simp only [ht, cond_true]; exact k1, k2⟩
          | false =>
            simp only [cond_false] at h
            obtain ⟨k1, k2⟩ := i1 _ _ _ _ _ _ _ _ _ _ h ha
            exact ⟨by simp only [ht, cond_false]; exact k1, k2⟩
        · cases h
      case block id b =>
        cases h1 : hexec C n ro nt b st hs ps with
        | none => simp [h1] at h
        | some q =>
          obtain ⟨y, st1, hs1, ps1⟩ := q
          cases y with
          | normal =>
            simp only [h1, Option.some.injEq, Prod.mk.injEq] at h
            obtain ⟨rfl, rfl, rfl, rfl⟩ := h
            obtain ⟨k3, k4⟩ := i1 _ _ _ _ _ _ _ _ _ _ h1 ha
            rw [k3]
            exact ⟨rfl, k4⟩
          | exit i =>
            simp only [h1] at h
            cases hb : Nat.beq i id with
            | true =>
              simp only [hb, cond_true, Option.some.injEq, Prod.mk.injEq] at h
              obtain ⟨rfl, rfl, rfl, rfl⟩ := h
              obtain ⟨k3, k4⟩ := i1 _ _ _ _ _ _ _ _ _ _ h1 ha
              rw [k3]
              exact ⟨by simp only [hb, cond_true], k4⟩
            | false =>
              simp only [hb, cond_false, Option.some.injEq, Prod.mk.injEq] at h
              obtain ⟨rfl, rfl, rfl, rfl⟩ := h
              obtain ⟨k3, k4⟩ := i1 _ _ _ _ _ _ _ _ _ _ h1 ha
              rw [k3]
              exact ⟨by simp only [hb, cond_false], k4⟩
          | ret =>
            simp only [h1, Option.some.injEq, Prod.mk.injEq] at h
            obtain ⟨rfl, rfl, rfl, rfl⟩ := h
            obtain ⟨k3, k4⟩ := i1 _ _ _ _ _ _ _ _ _ _ h1 ha
            rw [k3]
            exact ⟨rfl, k4⟩
      case loop b =>
        cases h1 : hexec C n ro nt b st hs ps with
        | none => simp [h1] at h
        | some q =>
          obtain ⟨y, st1, hs1, ps1⟩ := q
          cases y with
          | normal =>
            simp only [h1] at h
            obtain ⟨k1, k2⟩ := i1 _ _ _ _ _ _ _ _ _ _ h ha
            obtain ⟨k3, k4⟩ := i1 _ _ _ _ _ _ _ _ _ _ h1 k2
            rw [k3]
            exact ⟨k1, k4⟩
          | exit i =>
            simp only [h1, Option.some.injEq, Prod.mk.injEq] at h
            obtain ⟨rfl, rfl, rfl, rfl⟩ := h
            obtain ⟨k3, k4⟩ := i1 _ _ _ _ _ _ _ _ _ _ h1 ha
            rw [k3]
            exact ⟨rfl, k4⟩
          | ret =>
            simp only [h1, Option.some.injEq, Prod.mk.injEq] at h
            obtain ⟨rfl, rfl, rfl, rfl⟩ := h
            obtain ⟨k3, k4⟩ := i1 _ _ _ _ _ _ _ _ _ _ h1 ha
            rw [k3]
            exact ⟨rfl, k4⟩
      case rangeFunc f params assign body =>
        cases hs with
        | nil =>
          simp only [hexec] at h
          obtain ⟨⟨y, st1⟩, h1, h2⟩ := Option.map_eq_some_iff.1 h
          simp only [Prod.mk.injEq] at h2
          obtain ⟨rfl, rfl, _, rfl⟩ := h2
          exact ⟨by simpa only [exec] using h1, ha⟩
        | cons a b => simp only [hexec] at h; cases h
    · intro nt ops l st hs ps es st' hs' ps' h ha
      cases l with
      | nil =>
        simp only [hrunOps, Option.some.injEq, Prod.mk.injEq] at h
        obtain ⟨rfl, rfl, rfl, rfl⟩ := h
        exact ⟨by simp only [runOps], ha⟩
      | cons o rest =>
        simp only [hrunOps] at h
        split at h
        · rename_i e st1 hs1 ps1 h1
          split at h
          · rename_i es2 st2 hs2 ps2 h2
            simp only [Option.some.injEq, Prod.mk.injEq] at h
            obtain ⟨rfl, rfl, rfl, rfl⟩ := h
            obtain ⟨k1, k2⟩ := i2 _ _ _ _ _ _ _ _ _ _ h2 ha
            obtain ⟨k3, k4⟩ := i3 _ _ _ _ _ _ _ _ _ _ h1 k2
            refine ⟨?_, k4⟩
            simp only [runOps, k3, k1]
          · cases h
        · cases h
    · intro nt ops o st hs ps e st' hs' ps' h ha
      unfold hrunOp at h
      unfold runOp
      cases hd : dstOk nt o.dst with
      | false => simp [hd] at h
      | true =>
        simp only [hd, cond_true] at h ⊢
        cases hw : wantedV ops st.T o with
        | none => simp [hw] at h
        | some b =>
          cases b with
          | false =>
            simp only [hw, Option.some.injEq, Prod.mk.injEq] at h ⊢
            obtain ⟨rfl, rfl, rfl, rfl⟩ := h
            exact ⟨⟨rfl, rfl⟩, ha⟩
          | true =>
            simp only [hw] at h ⊢
            split at h
            · rename_i v hs2
              simp only [Option.some.injEq, Prod.mk.injEq] at h
              obtain ⟨rfl, rfl, rfl, rfl⟩ := h
              have h0 := oblOf_ok (ha _ (.head _))
              rw [h0]
              exact ⟨rfl, fun p hp => ha p (.tail _ hp)⟩
            · have key : ∀ (m : Option (OR × Hints × List Prop)), (∀ r hs2 ps2, m = some (r, hs2, ps2) → AllOf ps2 → rsV C.P (callV C n) (rho C st.T) st.H o.op = some r ∧ AllOf ps) →
                  (match m with
                    | some (r, hs', ps') => some (effOf (rho C st.T) st.H o.op r, (⟨putV st.T o.dst r.v, r.H, min st.lo r.lo⟩ : St), hs', ps')
                    | none => none) = some (e, st', hs', ps') →
                  (match rsV C.P (callV C n) (rho C st.T) st.H o.op with
                    | some r => some (effOf (rho C st.T) st.H o.op r, (⟨putV st.T o.dst r.v, r.H, min st.lo r.lo⟩ : St))
                    | none => none) = some (e, st') ∧ AllOf ps := by
                intro m hm hh
                cases m with
                | none => cases hh
                | some q =>
                  obtain ⟨r, hs2, ps2⟩ := q
                  simp only [Option.some.injEq, Prod.mk.injEq] at hh
                  obtain ⟨rfl, rfl, rfl, rfl⟩ := hh
                  obtain ⟨k1, k2⟩ := hm r _ _ rfl ha
                  rw [k1]
                  exact ⟨rfl, k2⟩
              refine key _ ?_ h
              intro r hs2 ps2 hm ha2
              have plain : ∀ hs3, (opV C.P (rho C st.T) st.H o.op).map (fun r => (r, hs3, ps)) = some (r, hs2, ps2) → opV C.P (rho C st.T) st.H o.op = some r ∧ AllOf ps := by
                intro hs3 hp
                obtain ⟨u, k1, k2⟩ := Option.map_eq_some_iff.1 hp
                simp only [Prod.mk.injEq] at k2
                obtain ⟨rfl, _, rfl⟩ := k2
                exact ⟨k1, ha2⟩
              split at hm
              · rename_i c ho
                split at hm
                · rename_i f hf
                  rw [rsV_value ho hf]
                  exact i4 _ _ _ _ _ _ _ _ hm ha2
                · rename_i x name hf
                  rw [rsV_invoke ho hf]
                  exact i4 _ _ _ _ _ _ _ _ hm ha2
                · rename_i hf hf2
                  rw [rsV_other (fun c' f' h1 h2 => by
                    rw [ho] at h1
                    injection h1 with h1
                    subst h1
                    exact hf f' h2) (fun c' x' nm h1 h2 => by
                    rw [ho] at h1
                    injection h1 with h1
                    subst h1
                    exact hf2 x' nm h2)]
                  exact plain _ hm
              · rename_i ho
                rw [rsV_other (fun c' f' h1 h2 => ho c' h1) (fun c' x' nm h1 h2 => ho c' h1)]
                exact plain _ hm
    · intro f args H hs ps r hs' ps' h ha
      unfold hcallV at h
      split at h
      · rename_i g first cap
        have := i5 _ _ _ _ _ _ _ _ h ha
        unfold callV
        exact this
      · rename_i name first cap
        unfold callV
        simp only
        split at h
        · rename_i t v rest hl
          rw [hl]
          simp only
          split at h
          · rename_i g hm
            rw [hm]
            exact i5 _ _ _ _ _ _ _ _ h ha
          · cases h
        · cases h
      · rename_i b
        split at h
        · obtain ⟨r1, h1, h2⟩ := Option.map_eq_some_iff.1 h
          simp only [Prod.mk.injEq] at h2
          obtain ⟨rfl, _, rfl⟩ := h2
          exact ⟨h1, ha⟩
        · cases h
      · cases h
    · intro g args H hs ps r hs' ps' h ha
      simp only [hcallF] at h
      simp only [callF]
      split at h
      · rename_i F hF
        simp only [Option.bind_eq_bind, Option.bind_eq_some_iff, Option.some.injEq, Prod.mk.injEq] at h
        obtain ⟨as, h1, v, h2, rfl, rfl, rfl⟩ := h
        simp only [hF, h1, Option.bind_eq_bind, Option.bind_some, h2]
        exact ⟨trivial, ha⟩
      · rename_i hF
        simp only [hF]
        split at h
        · rename_i fn hf
          simp only [hf]
          split at h
          · rename_i body hb
            simp only [hb]
            cases hn : (fn.name == "runtime.NumGoroutine") with
            | true => simp [hn] at h
            | false =>
              simp only [hn, cond_false] at h ⊢
              cases hdf : hasDefer body with
              | true => rw [hdf] at h; cases h
              | false =>
              rw [hdf] at h
              simp only [cond_false] at h ⊢
              split at h
              · rename_i st1 hs1 ps1 h1
                simp only [Option.bind_eq_bind, Option.bind_eq_some_iff, Option.some.injEq, Prod.mk.injEq] at h
                obtain ⟨vs, h2, rfl, rfl, rfl⟩ := h
                obtain ⟨k1, k2⟩ := i1 _ _ _ _ _ _ _ _ _ _ h1 ha
                simp only [k1, Option.bind_eq_bind, h2, Option.bind_some]
                exact ⟨trivial, k2⟩
              · rename_i st1 hs1 ps1 h1
                simp only [Option.bind_eq_bind, Option.bind_eq_some_iff, Option.some.injEq, Prod.mk.injEq] at h
                obtain ⟨vs, h2, rfl, rfl, rfl⟩ := h
                obtain ⟨k1, k2⟩ := i1 _ _ _ _ _ _ _ _ _ _ h1 ha
                simp only [k1, Option.bind_eq_bind, h2, Option.bind_some]
                exact ⟨trivial, k2⟩
              · cases h
          · cases h
        · cases h
end Go.Tw
