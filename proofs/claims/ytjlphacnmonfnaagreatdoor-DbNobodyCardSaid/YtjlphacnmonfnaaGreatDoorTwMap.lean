/- Maps do in the model what they do on the own heap. No condition. -/
import Derived.Test.YtjlphacnmonfnaaGreatDoorTwMem5
set_option linter.unusedVariables false
set_option linter.unusedSimpArgs false
namespace Go.Tw

section
variable {P : PH} {s : Nat → Option Nat} {H : Heap} {w : World}

theorem checkKey_ok {dd pr} : ∀ (n : Nat) (t : TypeId) (k : V) (ck : Value), keyOk P n t k = true → VR (szP P) s dd pr w k ck → ∀ (m : Nat) (e : Bool), n ≤ m → (Instr.checkKey e m t ck).run P w = .ok () w
  | 0, t, k, ck, h, _, m, e, _ => by simp [keyOk] at h
  | n + 1, t, k, ck, h, hv, 0, e, hm => by omega
  | n + 1, t, k, ck, h, hv, m + 1, e, hm => by
    simp only [keyOk] at h
    have plainCase : ∀ (d : TypeDesc), P.P.underlying t = some d → (∀ x, d ≠ .interface x) → (∀ x y, d ≠ .array x y) → (∀ x, d ≠ .struct x) → (Instr.checkKey e (m + 1) t ck).run P w = .ok () w := by
      intro d hu h1 h2 h3
      simp only [Instr.checkKey, Sem.run_bind, run_und hu, Result.andThen_ok]
      cases d <;> first
        | (exact absurd rfl (h1 _))
        | (exact absurd rfl (h2 _ _))
        | (exact absurd rfl (h3 _))
        | rfl
    split at h
    · rename_i hu; exact plainCase _ hu (by simp) (by simp) (by simp)
    · rename_i hu; exact plainCase _ hu (by simp) (by simp) (by simp)
    · rename_i hu; exact plainCase _ hu (by simp) (by simp) (by simp)
    · rename_i fields hu
      split at h
      · rename_i cs
        obtain ⟨xs, rfl, hxs⟩ := hv
        simp only [Instr.checkKey, Sem.run_bind, run_und hu, Result.andThen_ok]
        rw [← Array.forIn_toList]
        have hall := h
        generalize fields.toList = fs at hall
        clear h hu
        induction fs with
        | nil => simp
        | cons f fs ih =>
          simp only [List.all_cons, Bool.and_eq_true] at hall
          obtain ⟨h1, h2⟩ := hall
          split at h1
          · rename_i x hx
            obtain ⟨c, hc1, hc2⟩ := part_ok (w := w) hx hxs
            have hck := checkKey_ok n f.type x c h1 hc2 m e (by omega)
            simp only [List.forIn_cons, Sem.run_bind]
            by_cases hnm : f.name = "_"
            · simp only [hnm, ne_eq, not_true_eq_false, if_false, Sem.run_pure, Result.andThen_ok]
              exact ih h2
            · simp only [hnm, ne_eq, not_false_eq_true, if_true, Sem.run_bind, hc1, hck, Result.andThen_ok, Sem.run_pure]
              exact ih h2
          · cases h1
      · cases h
    · rename_i len elem hu
      split at h
      · rename_i cs n' hn
        obtain ⟨xs, rfl, hxs⟩ := hv
        simp only [Instr.checkKey, Sem.run_bind, run_und hu, Result.andThen_ok]
        simp only [Std.Legacy.Range.forIn_eq_forIn_range', Std.Legacy.Range.size, Nat.sub_zero, Nat.add_one_sub_one, Nat.div_one]
        rw [List.range_eq_range'] at h
        have hall := h
        generalize List.range' 0 len = is at hall
        clear h hu
        induction is with
        | nil => simp
        | cons j is ih =>
          simp only [List.all_cons, Bool.and_eq_true] at hall
          obtain ⟨h1, h2⟩ := hall
          split at h1
          · rename_i x hx
            obtain ⟨c, hc1, hc2⟩ := part_ok (w := w) hx hxs
            have hck := checkKey_ok n elem x c h1 hc2 m e (by omega)
            simp only [List.forIn_cons, Sem.run_bind, run_sz hn, hc1, hck, Result.andThen_ok, Sem.run_pure]
            exact ih h2
          · cases h1
      · cases h
    · cases h

/-- What a search in a map's rows comes to. -/
def FRel (P : PH) (s : Nat → Option Nat) (H : Heap) (w : World) : Option (Nat × V × Nat) → Option (Nat × Value) → Prop
  | none, r => r = none
  | some (i, v, _), r => ∃ c, r = some (i, c) ∧ VH P s H w v c

theorem findAsking_ok (kt : TypeId) (k : V) (ck : Value) (hk : VH P s H w k ck) : ∀ (es : List (V × V × Nat)) (cs : List MapEntry) (i : Nat) (f : Option (Nat × V × Nat)), findV P kt k es i = some f → MRs P s H w es cs →
    ∃ r, (Instr.findAsking kt ck cs i).run P w = .ok r w ∧ FRel P s H w f r
  | [], cs, i, f, h, hm => by
    simp only [findV, Option.some.injEq] at h
    simp only [MRs] at hm
    subst h; subst hm
    exact ⟨none, rfl, rfl⟩
  | (k', v, b) :: es, cs, i, f, h, hm => by
    obtain ⟨e, cs', rfl, h1, h2, h3, hm⟩ := hm
    simp only [findV, Option.bind_eq_bind, Option.bind_eq_some_iff] at h
    obtain ⟨a, ha, b', hb, h⟩ := h
    have heq := eqV_ok (w := w) 9 kt k k' a ck e.key ha hk h1 Op.maxDepth (by decide)
    split at h
    · cases a with
      | true =>
        simp only [if_true, Option.some.injEq] at h
        subst h
        exact ⟨some (i, e.val), by simp [Instr.findAsking, Op.equal, heq], e.val, rfl, h2⟩
      | false =>
        simp only [Bool.false_eq_true, if_false] at h
        obtain ⟨r, hr1, hr2⟩ := findAsking_ok kt k ck hk es cs' (i + 1) f h hm
        exact ⟨r, by simpa [Instr.findAsking, Op.equal, heq] using hr1, hr2⟩
    · cases h

theorem sameNow_eq {kt : TypeId} {k k' : V} {ck ck' : Value} {a b : Bool} {d : TypeDesc} (hu : P.P.underlying kt = some d) (hk : VH P s H w k ck) (hk' : VH P s H w k' ck') (ha : eqV P 9 kt k k' = some a) (hb : Instr.sameNow d ck ck' = some b) : b = a := by
  have h9 := eqV_ok (w := w) 9 kt k k' a ck ck' ha hk hk' (8 + 1) (Nat.le_refl _)
  unfold Instr.sameNow at hb
  split at hb
  · rename_i q k1 x k2 y
    split at hb
    · rename_i e; subst e
      injection hb with hb
      subst hb
      rw [run_equalIn_int w 8 kt k1 q x y hu] at h9
      injection h9
    · cases hb
  · rename_i x y
    injection hb with hb
    subst hb
    rw [run_equalIn_string w 8 kt x y hu] at h9
    injection h9 with h9
    rw [← h9, beq_toListBytes]
  · rename_i x y
    injection hb with hb
    subst hb
    rw [run_equalIn_bool' w 8 kt x y hu] at h9
    injection h9
  · cases hb

theorem findNow_ok {kt : TypeId} {d : TypeDesc} (hu : P.P.underlying kt = some d) (k : V) (ck : Value) (hk : VH P s H w k ck) : ∀ (es : List (V × V × Nat)) (cs : List MapEntry) (i : Nat) (f : Option (Nat × V × Nat)) (r : Option (Nat × Value)),
    findV P kt k es i = some f → MRs P s H w es cs → Instr.findNow d ck cs i = some r → FRel P s H w f r
  | [], cs, i, f, r, h, hm, hr => by
    simp only [findV, Option.some.injEq] at h
    simp only [MRs] at hm
    subst h; subst hm
    simp only [Instr.findNow, Option.some.injEq] at hr
    exact hr.symm
  | (k', v, b) :: es, cs, i, f, r, h, hm, hr => by
    obtain ⟨e, cs', rfl, h1, h2, h3, hm⟩ := hm
    simp only [findV, Option.bind_eq_bind, Option.bind_eq_some_iff] at h
    obtain ⟨a, ha, b', hb, h⟩ := h
    simp only [Instr.findNow] at hr
    split at hr
    · rename_i hs
      have := sameNow_eq hu hk h1 ha hs
      subst this
      split at h
      · simp only [if_true, Option.some.injEq] at h
        subst h
        injection hr with hr
        exact ⟨e.val, hr.symm, h2⟩
      · cases h
    · rename_i hs
      have := sameNow_eq hu hk h1 ha hs
      subst this
      split at h
      · simp only [Bool.false_eq_true, if_false] at h
        exact findNow_ok hu k ck hk es cs' (i + 1) f r h hm hr
      · cases h
    · cases hr

theorem findKey_ok {kt : TypeId} {k : V} {ck : Value} (hk : VH P s H w k ck) {es : List (V × V × Nat)} {cs : List MapEntry} {f : Option (Nat × V × Nat)} {d : TypeDesc} (hu : P.P.underlying kt = some d) (h : findV P kt k es 0 = some f) (hm : MRs P s H w es cs) :
    ∃ r, (Instr.findKey kt ck cs).run P w = .ok r w ∧ FRel P s H w f r := by
  unfold Instr.findKey
  rw [Sem.run_bind, run_und hu, Result.andThen_ok]
  cases hn : Instr.findNow d ck cs 0 with
  | some r => exact ⟨r, rfl, findNow_ok hu k ck hk es cs 0 f r h hm hn⟩
  | none => exact findAsking_ok kt k ck hk es cs 0 f h hm

theorem findV_und {kt : TypeId} {k : V} (h : keyOk P 9 kt k = true) : ∃ d, P.P.underlying kt = some d := by
  cases hu : P.P.underlying kt with
  | none => unfold keyOk at h; rw [hu] at h; cases h
  | some d => exact ⟨d, rfl⟩

theorem HR.mapAt (hr : HR P s H w) {b : Nat} {es : List (V × V × Nat)} {clk : Nat} (h : H.get b = some (.map es clk)) {g : Nat} (hb : s b = some g) : ∃ arr, w.heap[g]? = some (.map arr clk) ∧ MRs P s H w es arr.toList := by
  obtain ⟨B, o, h1, h2, h3⟩ := hr.dom b g hb
  rw [h] at h1
  injection h1 with h1
  subst h1
  obtain ⟨arr, rfl, h4⟩ := h3
  exact ⟨arr, h2, h4⟩

theorem getObj_ok {g : Nat} {arr : Array MapEntry} {clk : Nat} (h : w.heap[g]? = some (.map arr clk)) : (getObj g).run P w = .ok (.map arr clk) w := by
  simp [getObj, Sem.run, h]
theorem setObj_ok {g : Nat} {arr : Array MapEntry} {clk : Nat} (h : w.heap[g]? = some (.map arr clk)) (o : Obj) : (setObj g o).run P w = .ok () (put w g o) := by
  simp [setObj, Sem.run, h, put]

theorem zeroVal_ok {t : TypeId} {v : V} {d pr} (h : zeroValV P t = some v) : ∃ z, (zeroValue t).run P w = .ok z w ∧ VR (szP P) s d pr w v z := by
  simp only [zeroValV, Option.bind_eq_bind, Option.bind_eq_some_iff] at h
  obtain ⟨i, hi, z, hz, h⟩ := h
  injection h with h
  subst h
  exact ⟨z, run_zero hi hz, ofV_ok z⟩

theorem mapOf_ok (hr : HR P s H w) {m : V} {cm : Value} {es : List (V × V × Nat)} {clk : Nat} (h : mapOf H m = some (es, clk)) (hm : VH P s H w m cm) : ∃ b g arr, m = .mp b ∧ s b = some g ∧ H.get b = some (.map es clk) ∧ cm = .map (some g) ∧ w.heap[g]? = some (.map arr clk) ∧ MRs P s H w es arr.toList := by
  unfold mapOf at h
  split at h
  · rename_i b
    split at h
    · rename_i es' clk' hg
      injection h with h
      simp only [Prod.mk.injEq] at h
      obtain ⟨rfl, rfl⟩ := h
      obtain ⟨q, rfl, hq⟩ := hm
      have h1 := hr.live hg (by simp) hq
      obtain ⟨arr, h2, h3⟩ := hr.mapAt hg h1
      exact ⟨b, q, arr, rfl, h1, hg, rfl, h2, h3⟩
    · cases h
  · cases h

/-- What a look-up does behind the map's rows. -/
def lookTail (et kt : TypeId) (ck : Value) (ok : Bool) (es : Array MapEntry) : Sem Value := do
  Instr.checkKey es.isEmpty 10000 kt ck
  match ← Instr.findKey kt ck es.toList with
  | some (_, v) => pure (if ok then .tuple #[v, .bool true] else v)
  | none => do
    let z ← zeroValue et
    pure (if ok then .tuple #[z, .bool false] else z)

theorem lookup_tail {t kt et : TypeId} (hu : P.P.underlying t = some (.map kt et)) (ck : Value) (ok : Bool) :
    (Instr.lookup t (.map none) ck ok).run P w = (lookTail et kt ck ok #[]).run P w ∧
    ∀ (g : Nat) (arr : Array MapEntry) (clk : Nat), w.heap[g]? = some (.map arr clk) → (Instr.lookup t (.map (some g)) ck ok).run P w = (lookTail et kt ck ok arr).run P w := by
  have key : ∀ arr : Array MapEntry, (((Instr.checkKey arr.isEmpty 10000 kt ck).run P w).andThen fun a_1 w' =>
        (Sem.run P (Instr.findKey kt ck arr.toList) w').andThen fun a w' =>
          Sem.run P
            (match a with
            | some (_, v) => do
              let x ← pure (v, true)
              pure (if ok = true then Value.tuple #[x.fst, Value.bool x.snd] else x.fst)
            | none => do
              let z ← zeroValue et
              let x ← pure (z, false)
              pure (if ok = true then Value.tuple #[x.fst, Value.bool x.snd] else x.fst)) w') = (lookTail et kt ck ok arr).run P w := by
    intro arr
    simp only [lookTail, Sem.run_bind]
    cases (Instr.checkKey arr.isEmpty 10000 kt ck).run P w with
    | halt a b => rfl
    | ok a w1 =>
      simp only [Result.andThen_ok]
      cases (Instr.findKey kt ck arr.toList).run P w1 with
      | halt a b => rfl
      | ok r w2 =>
        simp only [Result.andThen_ok]
        cases r with
        | none =>
          simp only [Sem.run_bind]
          cases (zeroValue et).run P w2 with
          | halt a b => rfl
          | ok z w3 => simp
        | some p => simp
  constructor
  · simp only [Instr.lookup, Sem.run_bind, run_und hu, Result.andThen_ok, Sem.run_pure]
    exact key #[]
  · intro g arr clk hg
    simp only [Instr.lookup, Sem.run_bind, run_und hu, Result.andThen_ok, getObj_ok hg, Sem.run_pure]
    exact key arr

theorem lookup_ok (hr : HR P s H w) {t : TypeId} {m k v : V} {ok : Bool} {cm ck : Value} (h : lookupV P H t m k ok = some v) (hm : VH P s H w m cm) (hk : VH P s H w k ck) : ∃ c, (Instr.lookup t cm ck ok).run P w = .ok c w ∧ VH P s H w v c := by
  unfold lookupV at h
  split at h
  · rename_i kt et hu
    split at h
    · rename_i hko
      simp only [Option.bind_eq_bind, Option.bind_eq_some_iff] at h
      obtain ⟨es, hes, f, hf, h⟩ := h
      obtain ⟨d, hkd⟩ := findV_und hko
      obtain ⟨ht1, ht2⟩ := lookup_tail (w := w) hu ck ok
      have fin : ∀ arr : Array MapEntry, MRs P s H w es arr.toList → ∃ c, (lookTail et kt ck ok arr).run P w = .ok c w ∧ VH P s H w v c := by
        intro arr hmr
        obtain ⟨r, hr1, hr2⟩ := findKey_ok hk hkd hf hmr
        have hck := checkKey_ok (w := w) 9 kt k ck hko hk 10000 arr.isEmpty (by decide)
        simp only [lookTail, Sem.run_bind, hck, Result.andThen_ok, hr1]
        cases f with
        | none =>
          simp only [FRel] at hr2
          subst hr2
          simp only [Option.bind_eq_some_iff] at h
          obtain ⟨z, hz, h⟩ := h
          injection h with h
          subst h
          obtain ⟨cz, hz1, hz2⟩ := zeroVal_ok (s := s) (d := Dead H) (pr := Prot P s w) (w := w) hz
          simp only [Sem.run_bind, hz1, Result.andThen_ok, Sem.run_pure]
          refine ⟨_, rfl, ?_⟩
          cases ok with
          | false => simpa using hz2
          | true => exact ⟨#[cz, .bool false], rfl, cz, [.bool false], rfl, hz2, .bool false, [], rfl, rfl, rfl⟩
        | some p =>
          obtain ⟨i, pv, pb⟩ := p
          obtain ⟨c, rfl, hc⟩ := hr2
          simp only [Option.some.injEq] at h
          subst h
          simp only [Sem.run_pure]
          refine ⟨_, rfl, ?_⟩
          cases ok with
          | false => simpa using hc
          | true => exact ⟨#[c, .bool true], rfl, c, [.bool true], rfl, hc, .bool true, [], rfl, rfl, rfl⟩
      unfold esOf at hes
      split at hes
      · simp only [Option.some.injEq] at hes
        subst hes
        simp only [VH, VR] at hm
        subst hm
        obtain ⟨c, h1, h2⟩ := fin #[] rfl
        exact ⟨c, ht1.trans h1, h2⟩
      · obtain ⟨p, hp, rfl⟩ := Option.map_eq_some_iff.1 hes
        obtain ⟨es', clk⟩ := p
        obtain ⟨b, g, arr, rfl, h1, h2, rfl, h3, h4⟩ := mapOf_ok hr hp hm
        obtain ⟨c, k1, k2⟩ := fin arr h4
        exact ⟨c, (ht2 g arr clk h3).trans k1, k2⟩
    · cases h
  · cases h
end
end Go.Tw
