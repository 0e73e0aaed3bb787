/- What an operation's effect says of it. No condition. -/
import Derived.Test.YtjlphacnmonfnaaGreatDoorTwExec
set_option linter.unusedVariables false
set_option linter.unusedSimpArgs false
namespace Go.Tw

/-- The value that a new block has. -/
inductive NV where
  | ptr
  | sl (len cap : Nat) (opn : Option Nat)
  | mp
def NV.at : NV → Nat → V
  | .ptr, n => .ptr n 0
  | .sl l c o, n => .sl n 0 l c o
  | .mp, n => .mp n
def dz (c : Option Nat) (H : Heap) : Heap :=
  match c with
  | none => H
  | some c => H.set c .dead

def EffOK (P : Program) (cv : V → List V → Heap → Option OR) (ρ : Operand → V) (H : Heap) (op : Op) (r : OR) : Eff → Prop
  | .none => r.H = H ∧ r.lo = H.n ∧ ∀ H', rsV P cv ρ H' op = some ⟨r.v, H', H'.n⟩
  | .rd b => r.H = H ∧ r.lo = H.n ∧ (H.get b).isSome = true ∧ ∀ H', H'.get b = H.get b → rsV P cv ρ H' op = some ⟨r.v, H', H'.n⟩
  | .wr b => ∃ B, B ≠ .dead ∧ r.v = undefV ∧ r.H = H.set b B ∧ r.lo = min b H.n ∧ (H.get b).isSome = true ∧ H.get b ≠ some .dead ∧ (∃ t a x off, op = .store t a x ∧ ρ a = .ptr b off) ∧ ∀ H', H'.get b = H.get b → rsV P cv ρ H' op = some ⟨undefV, H'.set b B, min b H'.n⟩
  | .al => ∃ B nv, B ≠ .dead ∧ r = ⟨NV.at nv H.n, H.push B, H.n⟩ ∧ ∀ H', rsV P cv ρ H' op = some ⟨NV.at nv H'.n, H'.push B, H'.n⟩
  | .ap b x => ∃ B nv, B ≠ .dead ∧ r = ⟨NV.at nv H.n, dz (some b) (H.push B), min b H.n⟩ ∧ (H.get b).isSome = true ∧ (H.get x).isSome = true ∧ H.get b ≠ some .dead ∧ (∃ y ∈ op.operands, ∃ off l c o, ρ y = .sl b off l c o) ∧
      ∀ H', H'.get b = H.get b → H'.get x = H.get x → rsV P cv ρ H' op = some ⟨NV.at nv H'.n, dz (some b) (H'.push B), min b H'.n⟩
  | .lk b t k => r.H = H ∧ r.lo = H.n ∧ (H.get b).isSome = true ∧ lookB P t k (H.get b) = some r.v ∧ ∀ H', lookB P t k (H'.get b) = some r.v → rsV P cv ρ H' op = some ⟨r.v, H', H'.n⟩
  | .en b t k => ∃ B, B ≠ .dead ∧ r.H = H.set b B ∧ r.lo = min b H.n ∧ (H.get b).isSome = true ∧ H.get b ≠ some .dead ∧ (∃ y ∈ op.operands, ρ y = .mp b) ∧ lookB P t k (some B) = lookB P t k (H.get b) ∧
      ∀ H', H'.get b = H.get b → rsV P cv ρ H' op = some ⟨r.v, H'.set b B, min b H'.n⟩
  | .sr => r.lo = H.n
  | .ca => r.lo = H.n
  | .sw => True

section
variable {P : Program} {cv : V → List V → Heap → Option OR} {ρ : Operand → V} {H : Heap} {r : OR}

theorem EffOK.kp {op : Op} {v : Option V} (h : ∀ H', rsV P cv ρ H' op = keep H' v) (hr : rsV P cv ρ H op = some r) : EffOK P cv ρ H op r .none := by
  rw [h] at hr
  obtain ⟨u, rfl, rfl⟩ := Option.map_eq_some_iff.1 hr
  exact ⟨rfl, rfl, fun H' => h H'⟩

theorem EffOK.keepRd {op : Op} {v : Heap → Option V} {b : Nat} (h : ∀ H', rsV P cv ρ H' op = keep H' (v H')) (hv : ∀ H', H'.get b = H.get b → v H' = v H) (hs : v H ≠ none → (H.get b).isSome = true) (hr : rsV P cv ρ H op = some r) : EffOK P cv ρ H op r (.rd b) := by
  rw [h] at hr
  obtain ⟨u, h1, rfl⟩ := Option.map_eq_some_iff.1 hr
  exact ⟨rfl, rfl, hs (by rw [h1]; simp), fun H' hH => by rw [h, hv H' hH, h1]; rfl⟩

theorem EffOK.big {op : Op} {e : Eff} (he : e = .sr ∨ e = .ca) : EffOK P cv ρ H op r (bif Nat.beq r.lo H.n then e else .sw) := by
  cases h : Nat.beq r.lo H.n with
  | false => trivial
  | true =>
    have := Nat.eq_of_beq_eq_true h
    rcases he with rfl | rfl <;> exact this

theorem cellsOf_congr {H H' : Heap} {sz n : Nat} {x : V} (h : ∀ b off len cap opn, x = .sl b off len cap opn → H'.get b = H.get b) : cellsOf H' sz n x = cellsOf H sz n x := by
  cases x with
  | sl b off len cap opn => simp only [cellsOf, h b off len cap opn rfl]
  | lit v =>
    cases v <;> (try rfl)
    case slice a _ _ => cases a <;> rfl
  | _ => rfl

theorem append_ap {t0 t1 : TypeId} {s x : V} {b : Nat} (h : appendV P H t0 t1 s x = some r) (hlo : ¬ r.lo = H.n) {off l c : Nat} {o : Option Nat} (hv : r.v = .sl H.n off l c o) (hb : b = rowOf x r.lo) :
    ∃ B nv b0, B ≠ .dead ∧ r.lo = b0 ∧ r = ⟨NV.at nv H.n, dz (some b0) (H.push B), min b0 H.n⟩ ∧ (H.get b0).isSome = true ∧ (H.get b).isSome = true ∧ H.get b0 ≠ some .dead ∧ (∃ off l c o, s = .sl b0 off l c o) ∧
      ∀ H', H'.get b0 = H.get b0 → H'.get b = H.get b → appendV P H' t0 t1 s x = some ⟨NV.at nv H'.n, dz (some b0) (H'.push B), min b0 H'.n⟩ := by
  unfold appendV at h
  split at h
  · exfalso
    unfold appendZ at h
    split at h
    · simp only [Option.bind_eq_bind, Option.bind_eq_some_iff] at h
      obtain ⟨i, hi, zc, hzc, h⟩ := h
      split at h
      · injection h with h; subst h; exact hlo rfl
      · cases h
    · cases h
  · rename_i elem d1 hd1 hu hu1
    simp only [Option.bind_eq_bind, Option.bind_eq_some_iff] at h
    obtain ⟨i, hi, n, hn, new, hnew, zc, hzc, h⟩ := h
    split at h
    · cases h
    · rename_i hc
      split at h
      · rename_i h0
        exfalso
        split at h <;> first
          | (cases h; done)
          | (injection h with h; subst h; exact hlo rfl)
          | skip
        split at h
        · injection h with h; subst h; exact hlo rfl
        · cases h
      · rename_i h0
        split at h
        · split at h
          · injection h with h; subst h; exact absurd rfl hlo
          · cases h
        · split at h
          · injection h with h; subst h; exact absurd rfl hlo
          · cases h
        · rename_i b0 off0 len cap opn
          split at h
          · rename_i cs e hg
            have hbn := Heap.get_lt hg
            split at h
            · obtain ⟨c', hsp, h⟩ := Option.bind_eq_some_iff.1 h
              injection h with h
              subst h
              injection hv with hv
              omega
            · rename_i hfit
              split at h
              · cases h
              · rename_i hcc
                split at h
                · rename_i hopn
                  split at h
                  · rename_i h3
                    injection h with h
                    subst h
                    have hmin : min b0 H.n = b0 := by omega
                    have hcell : ∀ H' : Heap, H'.get b0 = H.get b0 → H'.get b = H.get b → cellsOf H' i.size n x = cellsOf H i.size n x := by
                      intro H' h1 h2
                      refine cellsOf_congr fun bx ox lx cx px hx => ?_
                      subst hx
                      simp only [rowOf] at hb
                      rw [← hb]
                      exact h2
                    have hbs : (H.get b).isSome = true := by
                      cases x
                      case sl bx _ _ _ _ =>
                        simp only [rowOf] at hb
                        subst hb
                        simp only [cellsOf] at hnew
                        cases hx : H.get b with
                        | none => rw [hx] at hnew; cases hnew
                        | some B => rfl
                      all_goals
                        simp only [rowOf] at hb
                        rw [hb, hmin, hg]
                        rfl
                    refine ⟨.cells (cs.take (len * i.size) ++ new) elem, .sl (len + n) (len + n) (some i.size), b0, by simp, hmin, rfl, by rw [hg]; rfl, hbs, by rw [hg]; simp, ⟨_, _, _, _, rfl⟩, fun H' h1 h2 => ?_⟩
                    unfold appendV
                    have hnew' := hcell H' h1 h2
                    rw [hnew] at hnew'
                    rw [hu, hu1]
                    cases d1 <;> first
                      | exact absurd rfl (hd1 _)
                      | (simp only [hi, hn, hnew', hzc, Option.bind_eq_bind, Option.bind_some, if_neg hc, if_neg h0, h1, hg, if_neg hfit, if_neg hcc, if_pos hopn, if_pos h3]; rfl)
                  · cases h
                · injection h with h; subst h; exact absurd rfl hlo
          · cases h
        · cases h
  · cases h

theorem lookup_eq (H : Heap) (t : TypeId) (b : Nat) (k : V) : lookupV P H t (.mp b) k false = match P.underlying t with
    | some (.map kt et) => if keyOk P 9 kt k then lookB P t k (H.get b) else none
    | _ => none := by
  unfold lookupV lookB
  cases hu : P.underlying t with
  | none => rfl
  | some d =>
    cases d with
    | map kt et =>
      simp only
      by_cases hk : keyOk P 9 kt k = true
      · rw [if_pos hk, if_pos hk]
        simp only [esOf, mapOf]
        cases hb : H.get b with
        | none => rfl
        | some B =>
          cases B with
          | map es clk =>
            simp only [Option.map_some, Option.bind_eq_bind, Option.bind_some]
            cases hf : findV P kt k es 0 with
            | none => rfl
            | some q =>
              cases q with
              | none =>
                simp only [Option.bind_some]
                cases zeroValV P et <;> rfl
              | some q => rfl
          | _ => rfl
      · rw [if_neg hk, if_neg hk]
    | _ => rfl

theorem findV_val {kt : TypeId} {k : V} : ∀ {es : List (V × V × Nat)} {i j : Nat} {v : V} {n : Nat}, findV P kt k es i = some (some (j, v, n)) → i ≤ j ∧ ∃ k', es[j - i]? = some (k', v, n)
  | [], i, j, v, n, h => by simp [findV] at h
  | (k', v', n') :: es, i, j, v, n, h => by
    simp only [findV, Option.bind_eq_bind, Option.bind_eq_some_iff] at h
    obtain ⟨a, ha, b, hb, h⟩ := h
    split at h
    · split at h
      · simp only [Option.some.injEq, Prod.mk.injEq] at h
        obtain ⟨rfl, rfl, rfl⟩ := h
        exact ⟨Nat.le_refl _, k', by simp⟩
      · obtain ⟨h1, k2, h2⟩ := findV_val h
        refine ⟨by omega, k2, ?_⟩
        rw [show j - i = (j - (i + 1)) + 1 by omega]
        simpa using h2
    · cases h

theorem set_get {H : Heap} {b : Nat} (h : b < H.n) (B : Blk) : (H.set b B).get b = some B := by
  rw [Heap.get_set, if_pos ⟨rfl, h⟩]

theorem entry_en {t : TypeId} {b : Nat} {k : V} (h : mapEntryC P H t (.mp b) k = some r) : ∃ B, B ≠ .dead ∧ r.H = H.set b B ∧ r.lo = min b H.n ∧ (H.get b).isSome = true ∧ H.get b ≠ some .dead ∧ lookB P t k (some B) = lookB P t k (H.get b) ∧
      ∀ H', H'.get b = H.get b → mapEntryC P H' t (.mp b) k = some ⟨r.v, H'.set b B, min b H'.n⟩ := by
  unfold mapEntryC at h
  split at h
  · rename_i r' h1
    cases hp : putOk P t k H r'.H (.mp b) with
    | false => rw [hp] at h; cases h
    | true =>
      rw [hp] at h
      injection h with h
      subst h
      have hv := h1
      unfold mapEntryV at h1
      split at h1
      · rename_i kt et b' hu hm
        injection hm with hm
        subst hm
        split at h1
        · rename_i hk
          simp only [Option.bind_eq_bind, Option.bind_eq_some_iff] at h1
          obtain ⟨⟨es, clk⟩, hes, f, hf, h1⟩ := h1
          have hg : H.get b = some (.map es clk) := by
            simp only [mapOf] at hes
            split at hes
            · rename_i es' clk' hb; injection hes with hes; injection hes with e1 e2; subst e1 e2; exact hb
            · cases hes
          have hbn := Heap.get_lt hg
          have key : ∀ es' clk' v, r' = ⟨v, mapSet H b es' clk', min b H.n⟩ → (∀ H', H'.get b = H.get b → mapEntryV P H' t (.mp b) k = some ⟨v, mapSet H' b es' clk', min b H'.n⟩) → lookB P t k (some (.map es' clk')) = lookB P t k (H.get b) → ∃ B, B ≠ .dead ∧ r'.H = H.set b B ∧ r'.lo = min b H.n ∧ (H.get b).isSome = true ∧ H.get b ≠ some .dead ∧ lookB P t k (some B) = lookB P t k (H.get b) ∧
              ∀ H', H'.get b = H.get b → mapEntryC P H' t (.mp b) k = some ⟨r'.v, H'.set b B, min b H'.n⟩ := by
            intro es' clk' v e hall hl
            refine ⟨.map es' clk', by simp, by rw [e]; rfl, by rw [e], by rw [hg]; rfl, by rw [hg]; simp, hl, fun H' hH => ?_⟩
            unfold mapEntryC
            rw [hall H' hH]
            simp only
            have hb' : b < H'.n := Heap.get_lt (hH.trans hg)
            have e1 : (mapSet H' b es' clk').get b = (mapSet H b es' clk').get b := by
              rw [mapSet, mapSet, set_get hb', set_get hbn]
            have e2 : putOk P t k H' (mapSet H' b es' clk') (.mp b) = putOk P t k H (mapSet H b es' clk') (.mp b) := by
              unfold putOk
              simp only [hu, hH, e1]
            rw [e] at hp
            rw [e2, hp, e]
            rfl
          have hput : ∀ es' clk', r'.H = mapSet H b es' clk' → ∀ q, findV P kt k es 0 = some q → ∃ j v n, findV P kt k es' 0 = some (some (j, v, n)) ∧ (match q with | some (i, _, _) => j = i | none => j = es.length) := by
            intro es' clk' e q hq
            unfold putOk at hp
            simp only [hu, hg] at hp
            have hg' : r'.H.get b = some (.map es' clk') := by rw [e]; exact set_get hbn _
            rw [hg'] at hp
            simp only [hq] at hp
            cases hf' : findV P kt k es' 0 with
            | none => rw [hf'] at hp; cases q with | none => cases hp | some q => cases hp
            | some q' =>
              rw [hf'] at hp
              cases q' with
              | none => cases q with | none => cases hp | some q => cases hp
              | some q' =>
                obtain ⟨j, v, n⟩ := q'
                refine ⟨j, v, n, rfl, ?_⟩
                cases q with
                | none => exact Nat.eq_of_beq_eq_true hp
                | some q => exact (Nat.eq_of_beq_eq_true hp).symm
          simp only at h1
          split at h1
          · rename_i i v born
            injection h1 with h1
            obtain ⟨_, k0, hat⟩ := findV_val hf
            simp only [Nat.sub_zero] at hat
            have hi : i < es.length := (List.getElem?_eq_some_iff.1 hat).1
            obtain ⟨j, v', n', q1, q2⟩ := hput (es.set i (k, v, born)) clk (by rw [← h1]) _ hf
            simp only at q2
            subst q2
            obtain ⟨_, k1, hat'⟩ := findV_val q1
            rw [Nat.sub_zero, List.getElem?_set_self hi] at hat'
            injection hat' with hat'
            simp only [Prod.mk.injEq] at hat'
            obtain ⟨_, rfl, rfl⟩ := hat'
            refine key _ _ _ h1.symm (fun H' hH => ?_) ?_
            · unfold mapEntryV
              simp only [hu, if_pos hk, mapOf, hH, hg, Option.bind_eq_bind, Option.bind_some, hf]
            · simp only [lookB, hu, hg, q1, hf]
          · simp only [Option.bind_eq_some_iff] at h1
            obtain ⟨z, hz, h1⟩ := h1
            injection h1 with h1
            obtain ⟨j, v', n', q1, q2⟩ := hput (es ++ [(k, z, clk)]) (clk + 1) (by rw [← h1]) _ hf
            simp only at q2
            subst q2
            obtain ⟨_, k1, hat'⟩ := findV_val q1
            rw [Nat.sub_zero] at hat'
            simp only [List.length_append, Nat.le_refl, List.getElem?_append_right, Nat.sub_self, List.getElem?_cons_zero, Option.some.injEq, Prod.mk.injEq] at hat'
            obtain ⟨_, rfl, rfl⟩ := hat'
            refine key _ _ _ h1.symm (fun H' hH => ?_) ?_
            · unfold mapEntryV
              simp only [hu, if_pos hk, mapOf, hH, hg, Option.bind_eq_bind, Option.bind_some, hf, hz]
            · simp only [lookB, hu, hg, q1, hf, Option.bind_some, hz]
        · cases h1
      · cases h1
  · cases h

theorem eff_ok {op : Op} (hr : rsV P cv ρ H op = some r) : EffOK P cv ρ H op r (effOf ρ H op r) := by
  cases op <;> simp only [effOf] <;> (try exact EffOK.big (.inl rfl))
  case alloc t =>
    simp only [rsV, opV, allocV, Option.bind_eq_bind, Option.bind_eq_some_iff, Option.some.injEq] at hr
    obtain ⟨zc, hz, rfl⟩ := hr
    exact ⟨.cells zc t, .ptr, by simp, rfl, fun H' => by simp only [rsV, opV, allocV, hz]; rfl⟩
  case box t x =>
    simp only [rsV, opV, boxV, Option.bind_eq_bind, Option.bind_eq_some_iff, Option.some.injEq] at hr
    obtain ⟨zc, hz, rfl⟩ := hr
    exact ⟨.cells zc t, .ptr, by simp, rfl, fun H' => by simp only [rsV, opV, boxV, hz]; rfl⟩
  case buildSlice t len ps =>
    simp only [rsV, opV, buildSliceV] at hr
    split at hr
    · rename_i elem hu
      simp only [Option.bind_eq_bind, Option.bind_eq_some_iff] at hr
      obtain ⟨sz, h1, zc, h2, hr⟩ := hr
      split at hr
      · rename_i hc
        simp only [Option.bind_eq_some_iff, Option.some.injEq] at hr
        obtain ⟨c, h3, rfl⟩ := hr
        refine ⟨.cells c elem, .sl len len none, by simp, rfl, fun H' => ?_⟩
        simp only [rsV, opV, buildSliceV, hu, h1, h2, Option.bind_eq_bind, Option.bind_some, if_pos hc, h3]
        rfl
      · cases hr
    · cases hr
  case makeSlice t l c =>
    simp only [rsV, opV, makeSliceV] at hr
    split at hr
    · rename_i elem _ l' _ c' hu hl hc
      simp only [Option.bind_eq_bind, Option.bind_eq_some_iff] at hr
      obtain ⟨i, h1, zc, h2, hr⟩ := hr
      split at hr
      · rename_i hcc
        simp only [Option.some.injEq] at hr
        obtain rfl := hr
        refine ⟨.cells (zerosV zc c'.toNat) elem, .sl l'.toNat c'.toNat none, by simp, rfl, fun H' => ?_⟩
        simp only [rsV, opV, makeSliceV, hu, hl, hc, h1, h2, Option.bind_eq_bind, Option.bind_some, if_pos hcc]
        rfl
      · cases hr
    · cases hr
  case makeMap t o =>
    cases o with
    | none =>
      simp only [rsV, opV, Option.some.injEq] at hr
      obtain rfl := hr
      exact ⟨.map [] 0, .mp, by simp, rfl, fun H' => rfl⟩
    | some o => cases hr
  case move x => exact EffOK.kp (v := some (ρ x)) (fun H' => rfl) hr
  case assign x => exact EffOK.kp (v := some (ρ x)) (fun H' => rfl) hr
  case pick c a b =>
    simp only [rsV, opV] at hr
    split at hr
    · rename_i t ht
      refine EffOK.kp (v := some (if t then ρ a else ρ b)) (fun H' => by simp only [rsV, opV, ht]) (by simp only [rsV, opV, ht]; exact hr)
    · cases hr
  case build t ps => exact EffOK.kp (fun H' => rfl) hr
  case nilCheck x => exact EffOK.kp (fun H' => rfl) hr
  case binOp => exact EffOK.kp (fun H' => rfl) hr
  case unOp => exact EffOK.kp (fun H' => rfl) hr
  case makeInterface t x =>
    simp only [rsV, opV] at hr
    split at hr
    · cases hr
    · rename_i d hn hd
      refine EffOK.kp (v := some (.ifc t (ρ x))) (fun H' => ?_) ?_
      · simp only [rsV, opV]
        split
        · rename_i q hq; rw [hd] at hq; injection hq with hq; exact absurd hq (fun e => hn _ e)
        · rfl
        · rename_i hq; rw [hd] at hq; cases hq
      · simp only [rsV, opV]
        split
        · rename_i q hq; rw [hd] at hq; injection hq with hq; exact absurd hq (fun e => hn _ e)
        · exact hr
        · rename_i hq; rw [hd] at hq; cases hq
    · cases hr
  case makeFunc f a b => exact EffOK.kp (v := some (.fn f (a.toList.map ρ) (b.toList.map ρ))) (fun H' => rfl) hr
  case slice => exact EffOK.kp (fun H' => rfl) hr
  case fieldAddr => exact EffOK.kp (fun H' => rfl) hr
  case field => exact EffOK.kp (fun H' => rfl) hr
  case indexAddr => exact EffOK.kp (fun H' => rfl) hr
  case index => exact EffOK.kp (fun H' => rfl) hr
  case typeAssert => exact EffOK.kp (fun H' => rfl) hr
  case extract => exact EffOK.kp (fun H' => rfl) hr
  case load t a =>
    cases ha : ρ a <;> simp only
    case ptr b off =>
      refine EffOK.keepRd (v := fun H' => loadV P H' t (.ptr b off)) (fun H' => by simp only [rsV, opV, ha]) (fun H' hH => by simp only [loadV, cellsAt, hH]) (fun hn => ?_) hr
      simp only [loadV, cellsAt] at hn
      cases hb : H.get b with
      | none => simp [hb] at hn
      | some B => rfl
    case pp cells => exact EffOK.kp (v := loadV P .empty t (.pp cells)) (fun H' => by simp only [rsV, opV, ha]; rfl) hr
    all_goals
      simp only [rsV, opV, ha, loadV, cellsAt] at hr
      cases hr
  case store t a x =>
    cases ha : ρ a <;> simp only <;> (try trivial)
    case ptr b off =>
      simp only [rsV, opV, ha, storeV] at hr
      split at hr
      · rename_i cs e hb
        simp only [Option.bind_eq_bind, Option.bind_eq_some_iff] at hr
        obtain ⟨vc, hv, n, hn, hr⟩ := hr
        split at hr
        · rename_i hc
          simp only [Option.bind_eq_some_iff, Option.some.injEq] at hr
          obtain ⟨c, h1, rfl⟩ := hr
          refine ⟨.cells c e, by simp, rfl, rfl, rfl, by rw [hb]; rfl, by rw [hb]; simp, ⟨t, a, x, off, rfl, ha⟩, fun H' hH => ?_⟩
          simp only [rsV, opV, ha, storeV, hH, hb, hv, hn, Option.bind_eq_bind, Option.bind_some]
          rw [if_pos hc]
          simp [h1]
        · cases hr
      · cases hr
  case mapEntry t m k =>
    cases hm : ρ m <;> simp only <;> (try trivial)
    case mp b =>
      simp only [rsV, opV, hm] at hr
      obtain ⟨B, k1, k2, k3, k4, k5, k6, k7⟩ := entry_en hr
      exact ⟨B, k1, k2, k3, k4, k5, ⟨m, by simp [Op.operands], hm⟩, k6, fun H' hH => by simp only [rsV, opV, hm]; exact k7 H' hH⟩
  case lookup t m k ok =>
    cases hm : ρ m <;> simp only <;> (try trivial)
    case mp b =>
      cases ok with
      | true =>
        refine EffOK.keepRd (v := fun H' => lookupV P H' t (.mp b) (ρ k) true) (fun H' => by simp only [rsV, opV, hm]) (fun H' hH => by simp only [lookupV, esOf, mapOf, hH]) (fun hn => ?_) hr
        cases hb : H.get b with
        | none => exact absurd (by simp only [lookupV, esOf, mapOf, hb]; split <;> simp) hn
        | some B => rfl
      | false =>
        simp only [cond_false]
        simp only [rsV, opV, hm] at hr
        obtain ⟨u, h1, rfl⟩ := Option.map_eq_some_iff.1 hr
        have h1' := h1
        rw [lookup_eq] at h1
        split at h1
        · rename_i kt et hu
          split at h1
          · rename_i hk
            have hs : (H.get b).isSome = true := by
              cases hb : H.get b with
              | none => rw [hb] at h1; simp [lookB, hu] at h1
              | some B => rfl
            refine ⟨rfl, rfl, hs, h1, fun H' hH => ?_⟩
            simp only [rsV, opV, hm]
            rw [lookup_eq, hu]
            simp only
            rw [if_pos hk, hH]
            rfl
          · cases h1
        · cases h1
    case lit v =>
      refine EffOK.kp (v := lookupV P .empty t (.lit v) (ρ k) ok) (fun H' => ?_) hr
      simp only [rsV, opV, hm]
      cases v <;> (try rfl)
      case map q => cases q <;> rfl
  case convert s d x =>
    cases hx : ρ x <;> (try exact EffOK.big (.inl rfl))
    case lit v =>
      cases v <;> (try exact EffOK.big (.inl rfl))
      case int k n =>
        refine EffOK.kp (v := (convertV P .empty s d (.lit (.int k n))).map (·.v)) (fun H' => ?_) hr
        simp only [rsV, opV, hx]
        unfold convertV
        cases h1 : P.underlying s with
        | none => rfl
        | some a =>
          cases h2 : P.underlying d with
          | none => rfl
          | some b =>
            cases b <;> (try rfl)
            case string =>
              cases a <;> (try rfl)
              case slice e =>
                simp only
                cases h3 : P.underlying e with
                | none => rfl
                | some q =>
                  cases q <;> (try rfl)
                  case int k => cases k <;> rfl
            case slice => cases a <;> rfl
  case call c =>
    obtain ⟨callee, args, argTypes⟩ := c
    cases callee with
    | value f => exact EffOK.big (.inr rfl)
    | invoke a b => exact EffOK.big (.inr rfl)
    | builtin q =>
      cases q <;> simp only <;> (try trivial)
      case append =>
        cases hlo : Nat.beq r.lo H.n with
        | true => exact Nat.eq_of_beq_eq_true hlo
        | false =>
          simp only [cond_false]
          split
          · rename_i n off l c o hv
            cases hn : Nat.beq n H.n with
            | false => trivial
            | true =>
              simp only [cond_true]
              obtain rfl := Nat.eq_of_beq_eq_true hn
              simp only [rsV, opV] at hr
              split at hr
              · rename_i t0 t1 s x h0 h1 h2 h3
                have hlo' : ¬ r.lo = H.n := fun e => by rw [beqt e] at hlo; cases hlo
                obtain ⟨B, nv, b0, k1, k2, k3, k4, k5, k6, k7, k8⟩ := append_ap (b := rowOf (ρ x) r.lo) hr hlo' hv rfl
                simp only [h3]
                have hmem : s ∈ (Op.call ⟨.builtin .append, args, argTypes⟩).operands := by
                  simp only [Op.operands]
                  have := List.mem_of_getElem? (show args.toList[0]? = some s by simpa using h2)
                  simp only [Call.operands]
                  simpa using this
                refine ⟨B, nv, k1, by rw [k2]; exact k3, by rw [k2]; exact k4, k5, by rw [k2]; exact k6, ⟨s, hmem, by rw [k2]; exact k7⟩, fun H' e1 e2 => ?_⟩
                rw [k2] at e1 ⊢
                simp only [rsV, opV, h0, h1, h2, h3]
                exact k8 H' e1 e2
              · cases hr
          · trivial
      case len =>
        cases h0 : args[0]? with
        | none => trivial
        | some x =>
          simp only
          simp only [rsV, opV, h0] at hr
          cases ht : argTypes[0]? with
          | none => simp [ht] at hr
          | some t =>
            simp only [ht] at hr
            cases hx : ρ x <;> simp only <;> (try trivial)
            case mp b =>
              cases hb : H.get b with
              | none => trivial
              | some B => exact EffOK.keepRd (v := fun H' => lenMapV P H' t (.mp b)) (fun H' => by simp only [rsV, opV, h0, ht, hx]) (fun H' hH => by simp only [lenMapV, mapOf, hH]) (fun hn => by rw [hb]; rfl) (by simp only [rsV, opV, h0, ht]; exact hr)
            all_goals
              refine EffOK.kp (v := lenMapV P .empty t (ρ x)) (fun H' => ?_) (by simp only [rsV, opV, h0, ht]; exact hr)
              simp only [rsV, opV, h0, ht, hx]
              have e : ∀ x : V, (∀ b, x ≠ .mp b) → lenMapV P H' t x = lenMapV P .empty t x := by
                intro x hx
                unfold lenMapV
                split
                · cases x <;> (try rfl)
                  case mp b => exact absurd rfl (hx b)
                  case lit v =>
                    cases v <;> (try rfl)
                    case map q => cases q <;> rfl
                · rfl
              rw [e _ (fun b => by simp)]
      case cap => 
        simp only [rsV, opV] at hr
        split at hr
        · rename_i t x h1 h2
          exact EffOK.kp (v := capV P t (ρ x)) (fun H' => by simp only [rsV, opV, h1, h2]) (by simp only [rsV, opV, h1, h2]; exact hr)
        · cases hr
      case max =>
        simp only [rsV, opV] at hr
        split at hr
        · rename_i x rest h1
          exact EffOK.kp (v := foldV max2V x rest) (fun H' => by simp only [rsV, opV, h1]) (by simp only [rsV, opV, h1]; exact hr)
        · cases hr
      case min =>
        simp only [rsV, opV] at hr
        split at hr
        · rename_i x rest h1
          exact EffOK.kp (v := foldV min2V x rest) (fun H' => by simp only [rsV, opV, h1]) (by simp only [rsV, opV, h1]; exact hr)
        · cases hr
end
end Go.Tw
