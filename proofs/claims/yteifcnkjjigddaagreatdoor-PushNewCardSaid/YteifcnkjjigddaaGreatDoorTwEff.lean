/- What an operation's effect says of it. No condition. -/
import Derived.Test.YteifcnkjjigddaaGreatDoorTwExec
set_option linter.unusedVariables false
set_option linter.unusedSimpArgs false
namespace Go.Tw

def EffOK (P : Program) (cv : V → List V → Heap → Option OR) (ρ : Operand → V) (H : Heap) (op : Op) (r : OR) : Eff → Prop
  | .none => r.H = H ∧ r.lo = H.n ∧ ∀ H', rsV P cv ρ H' op = some ⟨r.v, H', H'.n⟩
  | .rd b => r.H = H ∧ r.lo = H.n ∧ (H.get b).isSome = true ∧ ∀ H', H'.get b = H.get b → rsV P cv ρ H' op = some ⟨r.v, H', H'.n⟩
  | .wr b => ∃ B, B ≠ .dead ∧ r.v = undefV ∧ r.H = H.set b B ∧ r.lo = min b H.n ∧ (H.get b).isSome = true ∧ H.get b ≠ some .dead ∧ (∃ t a x off, op = .store t a x ∧ ρ a = .ptr b off) ∧ ∀ H', H'.get b = H.get b → rsV P cv ρ H' op = some ⟨undefV, H'.set b B, min b H'.n⟩
  | .al => ∃ t, op = .alloc t
  | .sr => r.lo = H.n
  | .ca => r.lo = H.n
  | .sw => True

section
variable {P : Program} {cv : V → List V → Heap → Option OR} {ρ : Operand → V} {H : Heap} {r : OR}

theorem EffOK.kp {op : Op} {v : Option V} (h : ∀ H', rsV P cv ρ H' op = keep H' v) (hr : rsV P cv ρ H op = some r) : EffOK P cv ρ H op r .none := by
  rw [h] at hr
  obtain ⟨u, rfl, rfl⟩ := Option.map_eq_some_iff.1 hr
  exact ⟨rfl, rfl, fun H' => h H'⟩

theorem EffOK.keepRd {op : Op} {v : Heap → Option V} {b : Nat} (h : ∀ H', rsV P cv ρ H' op = keep H' (v H')) (hv : ∀ H', H'.get b = H.get b → v H' = v H) (hs : v H ≠ none → (H.get b).isSome = true) (hr : rsV P cv ρ H op = some r) : EffOK P cv ρ H op r (.rd b) := by
  rw [h] at hr
  obtain ⟨u, h1, rfl⟩ := Option.map_eq_some_iff.1 hr
  exact ⟨rfl, rfl, hs (by rw [h1]; simp), fun H' hH => by rw [h, hv H' hH, h1]; rfl⟩

theorem EffOK.big {op : Op} {e : Eff} (he : e = .sr ∨ e = .ca) : EffOK P cv ρ H op r (bif Nat.beq r.lo H.n then e else .sw) := by
  cases h : Nat.beq r.lo H.n with
  | false => trivial
  | true =>
    have := Nat.eq_of_beq_eq_true h
    rcases he with rfl | rfl <;> exact this

theorem eff_ok {op : Op} (hr : rsV P cv ρ H op = some r) : EffOK P cv ρ H op r (effOf ρ H op r) := by
  cases op <;> simp only [effOf] <;> (try exact EffOK.big (.inl rfl))
  case alloc t => exact ⟨t, rfl⟩
  case move x => exact EffOK.kp (v := some (ρ x)) (fun H' => rfl) hr
  case assign x => exact EffOK.kp (v := some (ρ x)) (fun H' => rfl) hr
  case pick c a b =>
    simp only [rsV, opV] at hr
    split at hr
    · rename_i t ht
      refine EffOK.kp (v := some (if t then ρ a else ρ b)) (fun H' => by simp only [rsV, opV, ht]) (by simp only [rsV, opV, ht]; exact hr)
    · cases hr
  case build t ps => exact EffOK.kp (fun H' => rfl) hr
  case nilCheck x => exact EffOK.kp (fun H' => rfl) hr
  case binOp => exact EffOK.kp (fun H' => rfl) hr
  case unOp => exact EffOK.kp (fun H' => rfl) hr
  case makeInterface t x =>
    simp only [rsV, opV] at hr
    split at hr
    · cases hr
    · rename_i d hn hd
      refine EffOK.kp (v := some (.ifc t (ρ x))) (fun H' => ?_) ?_
      · simp only [rsV, opV]
        split
        · rename_i q hq; rw [hd] at hq; injection hq with hq; exact absurd hq (fun e => hn _ e)
        · rfl
        · rename_i hq; rw [hd] at hq; cases hq
      · simp only [rsV, opV]
        split
        · rename_i q hq; rw [hd] at hq; injection hq with hq; exact absurd hq (fun e => hn _ e)
        · exact hr
        · rename_i hq; rw [hd] at hq; cases hq
    · cases hr
  case makeFunc f a b => exact EffOK.kp (v := some (.fn f (a.toList.map ρ) (b.toList.map ρ))) (fun H' => rfl) hr
  case slice => exact EffOK.kp (fun H' => rfl) hr
  case fieldAddr => exact EffOK.kp (fun H' => rfl) hr
  case field => exact EffOK.kp (fun H' => rfl) hr
  case indexAddr => exact EffOK.kp (fun H' => rfl) hr
  case index => exact EffOK.kp (fun H' => rfl) hr
  case typeAssert => exact EffOK.kp (fun H' => rfl) hr
  case extract => exact EffOK.kp (fun H' => rfl) hr
  case load t a =>
    cases ha : ρ a <;> simp only
    case ptr b off =>
      refine EffOK.keepRd (v := fun H' => loadV P H' t (.ptr b off)) (fun H' => by simp only [rsV, opV, ha]) (fun H' hH => by simp only [loadV, cellsAt, hH]) (fun hn => ?_) hr
      simp only [loadV, cellsAt] at hn
      cases hb : H.get b with
      | none => simp [hb] at hn
      | some B => rfl
    case pp cells => exact EffOK.kp (v := loadV P .empty t (.pp cells)) (fun H' => by simp only [rsV, opV, ha]; rfl) hr
    all_goals
      simp only [rsV, opV, ha, loadV, cellsAt] at hr
      cases hr
  case store t a x =>
    cases ha : ρ a <;> simp only <;> (try trivial)
    case ptr b off =>
      simp only [rsV, opV, ha, storeV] at hr
      split at hr
      · rename_i cs e hb
        simp only [Option.bind_eq_bind, Option.bind_eq_some_iff] at hr
        obtain ⟨vc, hv, n, hn, hr⟩ := hr
        split at hr
        · rename_i hc
          simp only [Option.bind_eq_some_iff, Option.some.injEq] at hr
          obtain ⟨c, h1, rfl⟩ := hr
          refine ⟨.cells c e, by simp, rfl, rfl, rfl, by rw [hb]; rfl, by rw [hb]; simp, ⟨t, a, x, off, rfl, ha⟩, fun H' hH => ?_⟩
          simp only [rsV, opV, ha, storeV, hH, hb, hv, hn, Option.bind_eq_bind, Option.bind_some]
          rw [if_pos hc]
          simp [h1]
        · cases hr
      · cases hr
  case lookup t m k ok =>
    cases hm : ρ m <;> simp only <;> (try trivial)
    case mp b =>
      refine EffOK.keepRd (v := fun H' => lookupV P H' t (.mp b) (ρ k) ok) (fun H' => by simp only [rsV, opV, hm]) (fun H' hH => by simp only [lookupV, esOf, mapOf, hH]) (fun hn => ?_) hr
      cases hb : H.get b with
      | none => exact absurd (by simp only [lookupV, esOf, mapOf, hb]; split <;> simp) hn
      | some B => rfl
    case lit v =>
      refine EffOK.kp (v := lookupV P .empty t (.lit v) (ρ k) ok) (fun H' => ?_) hr
      simp only [rsV, opV, hm]
      cases v <;> (try rfl)
      case map q => cases q <;> rfl
  case convert s d x =>
    cases hx : ρ x <;> (try exact EffOK.big (.inl rfl))
    case lit v =>
      cases v <;> (try exact EffOK.big (.inl rfl))
      case int k n =>
        refine EffOK.kp (v := (convertV P .empty s d (.lit (.int k n))).map (·.v)) (fun H' => ?_) hr
        simp only [rsV, opV, hx]
        unfold convertV
        cases h1 : P.underlying s with
        | none => rfl
        | some a =>
          cases h2 : P.underlying d with
          | none => rfl
          | some b =>
            cases b <;> (try rfl)
            case string =>
              cases a <;> (try rfl)
              case slice e =>
                simp only
                cases h3 : P.underlying e with
                | none => rfl
                | some q =>
                  cases q <;> (try rfl)
                  case int k => cases k <;> rfl
            case slice => cases a <;> rfl
  case call c =>
    obtain ⟨callee, args, argTypes⟩ := c
    cases callee with
    | value f => exact EffOK.big (.inr rfl)
    | invoke a b => trivial
    | builtin q =>
      cases q <;> simp only <;> (try trivial)
      case len =>
        cases h0 : args[0]? with
        | none => trivial
        | some x =>
          simp only
          simp only [rsV, opV, h0] at hr
          cases ht : argTypes[0]? with
          | none => simp [ht] at hr
          | some t =>
            simp only [ht] at hr
            cases hx : ρ x <;> simp only <;> (try trivial)
            case mp b =>
              cases hb : H.get b with
              | none => trivial
              | some B => exact EffOK.keepRd (v := fun H' => lenMapV P H' t (.mp b)) (fun H' => by simp only [rsV, opV, h0, ht, hx]) (fun H' hH => by simp only [lenMapV, mapOf, hH]) (fun hn => by rw [hb]; rfl) (by simp only [rsV, opV, h0, ht]; exact hr)
            all_goals
              refine EffOK.kp (v := lenMapV P .empty t (ρ x)) (fun H' => ?_) (by simp only [rsV, opV, h0, ht]; exact hr)
              simp only [rsV, opV, h0, ht, hx]
              have e : ∀ x : V, (∀ b, x ≠ .mp b) → lenMapV P H' t x = lenMapV P .empty t x := by
                intro x hx
                unfold lenMapV
                split
                · cases x <;> (try rfl)
                  case mp b => exact absurd rfl (hx b)
                  case lit v =>
                    cases v <;> (try rfl)
                    case map q => cases q <;> rfl
                · rfl
              rw [e _ (fun b => by simp)]
      case cap => 
        simp only [rsV, opV] at hr
        split at hr
        · rename_i t x h1 h2
          exact EffOK.kp (v := capV P t (ρ x)) (fun H' => by simp only [rsV, opV, h1, h2]) (by simp only [rsV, opV, h1, h2]; exact hr)
        · cases hr
      case max =>
        simp only [rsV, opV] at hr
        split at hr
        · rename_i x rest h1
          exact EffOK.kp (v := foldV max2V x rest) (fun H' => by simp only [rsV, opV, h1]) (by simp only [rsV, opV, h1]; exact hr)
        · cases hr
      case min =>
        simp only [rsV, opV] at hr
        split at hr
        · rename_i x rest h1
          exact EffOK.kp (v := foldV min2V x rest) (fun H' => by simp only [rsV, opV, h1]) (by simp only [rsV, opV, h1]; exact hr)
        · cases hr
end
end Go.Tw
