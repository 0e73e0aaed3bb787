/- The operations that look into no memory do in the model what they do on own values. No condition. -/
import Derived.Test.YtjlphacnmonfnaaGreatDoorTwRel
import Derived.Laws.Entries
import Derived.Laws.StructEq
import Derived.Laws.Strings
import Derived.ChangeKeysEq
set_option linter.unusedVariables false
set_option linter.unusedSimpArgs false
namespace Go.Tw

section
variable {P : Program} {s : Nat → Option Nat} {d : Nat → Prop} {pr : Nat → Prop} {w : World}

theorem run_und {t : TypeId} {x : TypeDesc} (h : P.underlying t = some x) : (underlying t).run P w = .ok x w := run_underlying h w
theorem run_info {t : TypeId} {i : TypeInfo} (h : P.info? t = some i) : (typeInfo t).run P w = .ok i w := by
  simp [typeInfo, h]
theorem run_sz {t : TypeId} {n : Nat} (h : size? P t = some n) : (sizeOf t).run P w = .ok n w := by
  unfold size? at h
  obtain ⟨i, hi, rfl⟩ := Option.map_eq_some_iff.1 h
  simp [sizeOf, run_info hi]
theorem szP_eq {t : TypeId} {n : Nat} (h : size? P t = some n) : szP P t = n := by
  unfold size? at h
  simp [szP, h]
theorem run_agg? {t : TypeId} {b : Bool} (h : agg? P t = some b) : (isAgg t).run P w = .ok b w := by
  unfold agg? at h
  split at h <;> simp_all [isAgg, run_und]
theorem run_zero {t : TypeId} {i : TypeInfo} {z : Value} (h : P.info? t = some i) (hz : i.zero = some z) : (zeroValue t).run P w = .ok z w := by
  simp [zeroValue, run_info h, hz]

theorem ofV_ok (v : Value) : VR (szP P) s d pr w (ofV v) v := by
  unfold ofV
  split
  · rename_i cs
    refine ⟨cs, rfl, ?_⟩
    refine VRs.mk (by simp) fun i v c hv hc => ?_
    simp only [List.getElem?_map, hc, Option.map_some, Option.some.injEq] at hv
    subst hv
    simp [VR]
  · rename_i f xs ys
    split
    · rename_i h
      refine ⟨xs, ys, rfl, ?_, ?_⟩
      · have : xs.toList = [] := by simpa using h.1
        rw [this]; simp [VRs]
      · have : ys.toList = [] := by simpa using h.2
        rw [this]; simp [VRs]
    · simp [VR]
  · simp [VR]

theorem vcells_ok {v : V} {vs : List V} {c : Value} (h : vcells v = some vs) (hv : VR (szP P) s d pr w v c) : VRs (szP P) s d pr w vs c.cells.toList := by
  have one : ∀ c : Value, (∀ xs, c ≠ .agg xs) → VR (szP P) s d pr w v c → VRs (szP P) s d pr w [v] c.cells.toList := by
    intro c hc hv
    have : c.cells = #[c] := by cases c <;> first | rfl | exact absurd rfl (hc _)
    rw [this]
    exact ⟨c, [], rfl, hv, by simp [VRs]⟩
  cases v with
  | agg cs =>
    simp only [vcells, Option.some.injEq] at h
    subst h
    obtain ⟨xs, rfl, h⟩ := hv
    exact h
  | lit x =>
    cases x <;> first
      | (simp only [vcells] at h; cases h; done)
      | (simp only [vcells, Option.some.injEq] at h; subst h; refine one c ?_ hv; intro xs e; simp only [VR] at hv; rw [e] at hv; cases hv)
  | ptr b off => simp only [vcells, Option.some.injEq] at h; subst h; refine one c ?_ hv; obtain ⟨x, rfl, _⟩ := hv; intro xs e; cases e
  | gptr g off => simp only [vcells, Option.some.injEq] at h; subst h; refine one c ?_ hv; simp only [VR] at hv; subst hv; intro xs e; cases e
  | sl b off len cap opn => simp only [vcells, Option.some.injEq] at h; subst h; refine one c ?_ hv; obtain ⟨x, cap', rfl, _⟩ := hv; intro xs e; cases e
  | zs => simp only [vcells, Option.some.injEq] at h; subst h; refine one c ?_ hv; obtain ⟨x, rfl⟩ := hv; intro xs e; cases e
  | void => simp only [vcells, Option.some.injEq] at h; subst h; refine one c ?_ hv; obtain ⟨x, cap', rfl⟩ := hv; intro xs e; cases e
  | mp b => simp only [vcells, Option.some.injEq] at h; subst h; refine one c ?_ hv; obtain ⟨x, rfl, _⟩ := hv; intro xs e; cases e
  | ps cells len => simp only [vcells, Option.some.injEq] at h; subst h; refine one c ?_ hv; obtain ⟨g, off, cap, cs, rfl, _⟩ := hv; intro xs e; cases e
  | pp cells => simp only [vcells, Option.some.injEq] at h; subst h; refine one c ?_ hv; obtain ⟨g, off, cs, rfl, _⟩ := hv; intro xs e; cases e
  | fn f a b => simp only [vcells, Option.some.injEq] at h; subst h; refine one c ?_ hv; obtain ⟨x, y, rfl, _⟩ := hv; intro xs e; cases e
  | yld b => simp only [vcells, Option.some.injEq] at h; subst h; refine one c ?_ hv; obtain ⟨x, rfl, _⟩ := hv; intro xs e; cases e
  | ifc t v => simp only [vcells, Option.some.injEq] at h; subst h; refine one c ?_ hv; obtain ⟨x, rfl, _⟩ := hv; intro xs e; cases e
  | tup vs => simp only [vcells, Option.some.injEq] at h; subst h; refine one c ?_ hv; obtain ⟨x, rfl, _⟩ := hv; intro xs e; cases e
  | any => simp [vcells] at h

theorem one_ok {v : V} {c : Value} (h : V.one v = true) (hv : VR (szP P) s d pr w v c) : c.oneCell' = true := by
  cases v with
  | agg cs => simp [V.one] at h
  | tup cs => simp [V.one] at h
  | any => simp [V.one] at h
  | lit x => simp only [VR] at hv; subst hv; cases c <;> first | rfl | simp [V.one] at h
  | ptr b off => obtain ⟨x, rfl, _⟩ := hv; rfl
  | gptr g off => simp only [VR] at hv; subst hv; rfl
  | sl b off len cap opn => obtain ⟨x, cap', rfl, _⟩ := hv; rfl
  | zs => obtain ⟨x, rfl⟩ := hv; rfl
  | void => obtain ⟨x, cap', rfl⟩ := hv; rfl
  | mp b => obtain ⟨x, rfl, _⟩ := hv; rfl
  | ps cells len => obtain ⟨g, off, cap, cs, rfl, _⟩ := hv; rfl
  | pp cells => obtain ⟨g, off, cs, rfl, _⟩ := hv; rfl
  | fn f a b => obtain ⟨x, y, rfl, _⟩ := hv; rfl
  | yld b => obtain ⟨x, rfl, _⟩ := hv; rfl
  | ifc t v => obtain ⟨x, rfl, _⟩ := hv; rfl

theorem ones_ok {vs : List V} {cs : List Value} (h : vs.all V.one = true) (hv : VRs (szP P) s d pr w vs cs) : ∀ c ∈ cs, c.oneCell' = true := by
  intro c hc
  obtain ⟨i, hi⟩ := List.getElem?_of_mem hc
  have hl := hv.length
  have hlt : i < vs.length := by
    rcases Nat.lt_or_ge i vs.length with h' | h'
    · exact h'
    · rw [List.getElem?_eq_none (by omega)] at hi; cases hi
  obtain ⟨c', h1, h2⟩ := hv.get (List.getElem?_eq_getElem hlt)
  rw [hi] at h1
  injection h1 with h1
  subst h1
  exact one_ok (List.all_eq_true.1 h _ (List.getElem_mem hlt)) h2

theorem part_ok {t : TypeId} {cells : List V} {off : Nat} {v : V} {cs : Array Value} (h : partV P t cells off = some v) (hv : VRs (szP P) s d pr w cells cs.toList) : ∃ c, (part t cs off).run P w = .ok c w ∧ VR (szP P) s d pr w v c := by
  simp only [partV, Option.bind_eq_bind, Option.bind_eq_some_iff] at h
  obtain ⟨b, hb, h⟩ := h
  cases b with
  | true =>
    simp only [if_true, Option.bind_eq_some_iff] at h
    obtain ⟨n, hn, h⟩ := h
    split at h
    · rename_i hl
      injection h with h
      subst h
      refine ⟨.agg (cs.extract off (off + n)), by simp [part, run_agg? hb, run_sz hn], _, rfl, ?_⟩
      have : (cs.extract off (off + n)).toList = (cs.toList.drop off).take n := by
        simp [Array.toList_extract, List.extract]
      rw [this]
      exact (hv.drop off).take n
    · cases h
  | false =>
    simp only [Bool.false_eq_true, if_false] at h
    obtain ⟨c, h1, h2⟩ := hv.get h
    have h1' : cs[off]? = some c := by simpa using h1
    exact ⟨c, by simp [part, run_agg? hb, h1'], h2⟩

theorem splice_len {cs new out : List V} {off : Nat} (h : splice cs off new = some out) : off + new.length ≤ cs.length ∧ out = cs.take off ++ new ++ cs.drop (off + new.length) := by
  unfold splice at h
  split at h
  · rename_i hl; injection h with h; exact ⟨hl, h.symm⟩
  · cases h

theorem splice_ok {cs new out : List V} {off : Nat} {xs ys : List Value} (h : splice cs off new = some out) (hv : VRs (szP P) s d pr w cs xs) (hn : VRs (szP P) s d pr w new ys) : VRs (szP P) s d pr w out (xs.take off ++ ys ++ xs.drop (off + ys.length)) := by
  obtain ⟨hl, rfl⟩ := splice_len h
  rw [hn.length]
  exact ((hv.take off).append hn).append (hv.drop _)

theorem foldl_set (off : Nat) : ∀ (vc : List Value) (k : Nat) (cells : Array Value), off + k + vc.length ≤ cells.size →
    ((vc.zipIdx k).foldl (fun cs x => cs.setIfInBounds (off + x.2) x.1) cells).toList = cells.toList.take (off + k) ++ vc ++ cells.toList.drop (off + k + vc.length)
  | [], k, cells, h => by simp
  | v :: vc, k, cells, h => by
    simp only [List.zipIdx_cons, List.foldl_cons]
    rw [foldl_set off vc (k + 1) _ (by simp at h ⊢; omega)]
    simp only [List.length_cons] at h
    apply List.ext_getElem?
    intro i
    have hk : off + k < cells.size := by omega
    simp only [Array.toList_setIfInBounds]
    rw [List.getElem?_append, List.getElem?_append, List.getElem?_append, List.getElem?_append]
    simp only [List.length_append, List.length_take, List.length_set, Array.length_toList, List.getElem?_take, List.getElem?_drop, List.getElem?_set, List.length_cons]
    have m1 : min (off + (k + 1)) cells.size = off + k + 1 := by omega
    have m2 : min (off + k) cells.size = off + k := by omega
    rw [m1, m2]
    by_cases c1 : i < off + k
    · have : i < off + k + 1 := by omega
      have : i < off + k + 1 + vc.length := by omega
      have : i < off + k + (vc.length + 1) := by omega
      have : i < off + (k + 1) := by omega
      have : ¬ off + k = i := by omega
      simp [*]
    · by_cases c2 : i = off + k
      · subst c2
        have e1 : off + k < off + k + 1 + vc.length := by omega
        have e2 : off + k < off + (k + 1) := by omega
        simp [e1, e2, hk]
      · by_cases c3 : i < off + k + 1 + vc.length
        · have e1 : ¬ i < off + k + 1 := by omega
          have e2 : i < off + k + (vc.length + 1) := by omega
          have e3 : i - (off + k) = (i - (off + k + 1)) + 1 := by omega
          simp [c1, c3, e1, e2, e3]
        · have e1 : ¬ i < off + k + 1 := by omega
          have e2 : ¬ i < off + k + (vc.length + 1) := by omega
          have e4 : off + (k + 1) + vc.length + (i - (off + k + 1 + vc.length)) = i := by omega
          have e5 : off + k + (vc.length + 1) + (i - (off + k + (vc.length + 1))) = i := by omega
          have e6 : ¬ off + k = i := by omega
          simp [c3, e2, e4, e5, e6]

/-- The parts of what is built: related one by one. -/
def PRs (P : Program) (s : Nat → Option Nat) (d : Nat → Prop) (pr : Nat → Prop) (w : World) : List (Nat × V) → List (Nat × Value) → Prop
  | [], ys => ys = []
  | (i, v) :: xs, ys => ∃ c ys', ys = (i, c) :: ys' ∧ VR (szP P) s d pr w v c ∧ PRs P s d pr w xs ys'

theorem PRs.map {r : Operand → V} {e : Operand → Value} (hr : ∀ x, VR (szP P) s d pr w (r x) (e x)) : ∀ (l : List (Nat × Operand)), PRs P s d pr w (l.map fun p => (p.1, r p.2)) (l.map fun p => (p.1, e p.2))
  | [] => by simp [PRs]
  | p :: l => ⟨_, _, rfl, hr _, PRs.map hr l⟩

theorem fill_ok (place : Nat → Option (Nat × Nat)) : ∀ (ps : List (Nat × V)) (qs : List (Nat × Value)) (cells out : List V) (cs : Array Value), fillV place cells ps = some out → VRs (szP P) s d pr w cells cs.toList → PRs P s d pr w ps qs →
    ∃ cs', Instr.fill place cs qs = some cs' ∧ VRs (szP P) s d pr w out cs'.toList
  | [], qs, cells, out, cs, h, hv, hp => by
    simp only [fillV, Option.some.injEq] at h
    simp only [PRs] at hp
    subst h; subst hp
    exact ⟨cs, rfl, hv⟩
  | (i, v) :: ps, qs, cells, out, cs, h, hv, hp => by
    obtain ⟨c, qs', rfl, hc, hp⟩ := hp
    simp only [fillV, Option.bind_eq_bind, Option.bind_eq_some_iff] at h
    obtain ⟨⟨off, sz⟩, hpl, vc, hvc, h⟩ := h
    split at h
    · rename_i hsz
      obtain ⟨c1, hsp, h⟩ := Option.bind_eq_some_iff.1 h
      have hcells := vcells_ok hvc hc
      have hlen : c.cells.size = vc.length := by have := hcells.length; simpa using this
      obtain ⟨hl, _⟩ := splice_len hsp
      have hcsz : cs.size = cells.length := by have := hv.length; simpa using this
      simp only at hsz hl
      have hgo : ¬ (c.cells.size ≠ sz || decide (off + c.cells.size > cs.size)) = true := by
        simp; omega
      simp only [Instr.fill, hpl]
      rw [if_neg hgo]
      refine fill_ok place ps qs' c1 out _ h ?_ hp
      have := splice_ok hsp hv hcells
      have hf := foldl_set off c.cells.toList 0 cs (by simp; omega)
      rw [← Array.foldl_toList, Array.toList_zipIdx]
      have ef : (fun (cs : Array Value) (x : Value × Nat) => match x with | (c, j) => cs.setIfInBounds (off + j) c) = (fun cs x => cs.setIfInBounds (off + x.2) x.1) := by
        funext cs x; rfl
      rw [ef, hf]
      simpa using this
    · cases h

theorem places_ok : ∀ (fs : List Field) (ps : List (Nat × Nat)), placesOf P fs = some ps → (fs.mapM (m := Sem) fun f => do pure (f.offset, ← sizeOf f.type)).run P w = .ok ps w
  | [], ps, h => by
    simp only [placesOf, Option.some.injEq] at h
    subst h
    simp
  | f :: fs, ps, h => by
    simp only [placesOf, Option.bind_eq_bind, Option.bind_eq_some_iff] at h
    obtain ⟨n, hn, r, hr, h⟩ := h
    injection h with h
    subst h
    have ih := places_ok fs r hr
    simp only [List.mapM_cons, Sem.run_bind, run_sz hn, Result.andThen_ok, Sem.run_pure, ih]

theorem build_ok {t : TypeId} {ps : List (Nat × V)} {qs : List (Nat × Value)} {v : V} (h : buildV P t ps = some v) (hp : PRs P s d pr w ps qs) : ∃ c, (Instr.build t qs.toArray).run P w = .ok c w ∧ VR (szP P) s d pr w v c := by
  simp only [buildV, zeroCellsV, Option.bind_eq_bind, Option.bind_eq_some_iff] at h
  obtain ⟨zc, ⟨i, hi, z, hz, hzc⟩, h⟩ := h
  have hzr : VRs (szP P) s d pr w zc z.cells.toList := vcells_ok hzc (ofV_ok z)
  split at h
  · rename_i fields hu
    obtain ⟨ps', hps, h⟩ := Option.bind_eq_some_iff.1 h
    obtain ⟨c, hc, h⟩ := Option.bind_eq_some_iff.1 h
    injection h with h
    subst h
    obtain ⟨cs', h1, h2⟩ := fill_ok (fun i => ps'[i]?) ps qs zc c z.cells hc hzr hp
    have hpl := places_ok (w := w) fields.toList ps' hps
    refine ⟨.agg cs', ?_, cs', rfl, h2⟩
    have hm : (fields.mapM (m := Sem) fun f => do pure (f.offset, ← sizeOf f.type)).run P w = .ok ps'.toArray w := by
      rw [← Array.toArray_toList (xs := fields), List.mapM_toArray]
      simp only [Sem.run_map]
      rw [show (fields.toList.toArray.toList) = fields.toList by simp] at *
      rw [hpl]
      simp
    simp only [Instr.build, Sem.run_bind, run_zero hi hz, Result.andThen_ok, run_und hu, hm]
    have : (fun x : Nat => ps'.toArray[x]?) = fun i => ps'[i]? := by funext x; simp
    rw [this, h1]
    simp
  · rename_i n elem hu
    obtain ⟨sz, hsz, h⟩ := Option.bind_eq_some_iff.1 h
    obtain ⟨c, hc, h⟩ := Option.bind_eq_some_iff.1 h
    injection h with h
    subst h
    obtain ⟨cs', h1, h2⟩ := fill_ok (fun i => some (i * sz, sz)) ps qs zc c z.cells hc hzr hp
    refine ⟨.agg cs', ?_, cs', rfl, h2⟩
    simp only [Instr.build, Sem.run_bind, run_zero hi hz, Result.andThen_ok, run_und hu, run_sz hsz, h1, Sem.run_pure]
  · cases h
end
end Go.Tw
