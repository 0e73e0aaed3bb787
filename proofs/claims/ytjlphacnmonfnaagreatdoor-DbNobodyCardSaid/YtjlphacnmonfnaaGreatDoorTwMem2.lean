/- Loads, stores, new blocks, growing rows and copies do in the model what they do on the own heap. No condition. -/
import Derived.Test.YtjlphacnmonfnaaGreatDoorTwMem
set_option linter.unusedVariables false
set_option linter.unusedSimpArgs false
namespace Go.Tw

section
variable {P : PH} {s : Nat → Option Nat} {H : Heap} {w : World}

def OpOK (P : PH) (s : Nat → Option Nat) (H : Heap) (w : World) (r : OR) (res : Result Next) : Prop :=
  ∃ s' c w', (res = .ok (.value c) w' ∨ (res = .ok .skip w' ∧ c = undef)) ∧ VH P s' r.H w' r.v c ∧ HR P s' r.H w' ∧ Ext r.lo s H w s' r.H w'

/-- The same for a value alone. -/
def ValOK (P : PH) (s : Nat → Option Nat) (H : Heap) (w : World) (r : OR) (res : Result Value) : Prop :=
  ∃ s' c w', res = .ok c w' ∧ VH P s' r.H w' r.v c ∧ HR P s' r.H w' ∧ Ext r.lo s H w s' r.H w'

def UnitOK (P : PH) (s : Nat → Option Nat) (H : Heap) (w : World) (r : OR) (res : Result Unit) : Prop :=
  r.v = undefV ∧ ∃ s' w', res = .ok () w' ∧ HR P s' r.H w' ∧ Ext r.lo s H w s' r.H w'

theorem keep_ok (hr : HR P s H w) {o : Option V} {r : OR} {m : Sem Value} (h : keep H o = some r) (hm : ∀ v, o = some v → ∃ c, m.run P w = .ok c w ∧ VH P s H w v c) : ValOK P s H w r (m.run P w) := by
  obtain ⟨v, rfl, rfl⟩ := Option.map_eq_some_iff.1 h
  obtain ⟨c, h1, h2⟩ := hm v rfl
  exact ⟨s, c, w, h1, h2, hr, Ext.refl s H w⟩

theorem nilCheck_ok {x v : V} {cx : Value} (h : nilCheckV x = some v) (hx : VH P s H w x cx) :
    (match cx with
    | .pointer none | .nilIface | .nilFunc => (runtimePanic .nilDeref : Sem Next)
    | .func (.method name) first captured =>
      match (first[0]? : Option Value) with
      | some .nilIface => runtimePanic .nilDeref
      | some (.iface t w) => do
        if (← nilAhead ((← program).types.size + Made.depth) t w name) != some false then
          unsupported (.noEntry "op/nilCheck.the method's receiver behind this interface value is a nil pointer, or cannot be seen to be none, and the arguments act or may panic (ledger 612)")
        pure (.value (.func (.method name) first captured))
      | _ => pure (.value (.func (.method name) first captured))
    | x => pure (.value x)).run P w = .ok (.value cx) w ∧ v = x := by
  unfold nilCheckV at h
  split at h <;> first
    | (cases h; done)
    | (injection h with h; subst h; refine ⟨?_, rfl⟩; simp only [VH, VR] at hx)
  · obtain ⟨q, rfl, _⟩ := hx; rfl
  · obtain ⟨g, off, cs, rfl, _⟩ := hx; rfl
  · obtain ⟨q, rfl, _⟩ := hx; rfl
  · obtain ⟨q, rfl, _⟩ := hx; rfl
  · obtain ⟨q, r, rfl, _⟩ := hx; rfl
  · obtain ⟨q, r, rfl, _⟩ := hx; rfl
  · obtain ⟨q, r, rfl, _⟩ := hx; rfl

theorem run_typeInfo {P : Program} {w : World} {t : TypeId} {i : TypeInfo} (h : P.info? t = some i) : (typeInfo t).run P w = .ok i w := run_info h

theorem methodX_run {P : Program} {w : World} {t : TypeId} {name : String} {f : FuncId} (h : methodX P t name = some f) (n : Nat) (v : Value) :
    (method (n + 1) t v name).run P w = .ok (f, v) w ∧ (nilAhead (n + 1) t v name).run P w = .ok (some false) w := by
  unfold methodX at h
  split at h
  · rename_i i hi
    split at h
    · rename_i m hm
      cases hp : m.path.isEmpty with
      | false => rw [hp] at h; cases h
      | true =>
        rw [hp] at h
        simp only [cond_true] at h
        have hpath : m.path.toList = [] := by simpa using hp
        have hu : ∀ d, P.underlying t = some d → (underlying t).run P w = .ok d w := fun d hd => run_und hd
        split at h
        · rename_i g el hf hd
          injection h with h
          subst h
          constructor
          · simp only [method, Sem.run_bind, run_typeInfo hi, Result.andThen_ok, hm, hpath, follow, Sem.run_pure, hf, receiverAt, hu _ hd, Place.get]
          · simp only [nilAhead, Sem.run_bind, run_typeInfo hi, Result.andThen_ok, hm, hpath, followBlind, Sem.run_pure, hf]
        · cases h
        · rename_i g d hd' hf hd
          injection h with h
          subst h
          have hnp : ∀ el, d ≠ .pointer el := fun el e => hd' el e
          constructor
          · simp only [method, Sem.run_bind, run_typeInfo hi, Result.andThen_ok, hm, hpath, follow, Sem.run_pure, hf, receiverAt, hu _ hd, Place.get]
            try (cases d <;> first
              | rfl
              | exact absurd rfl (hnp _))
          · simp only [nilAhead, Sem.run_bind, run_typeInfo hi, Result.andThen_ok, hm, hpath, followBlind, Sem.run_pure, hf, hu _ hd]
            try (cases d <;> first
              | rfl
              | exact absurd rfl (hnp _))
        · cases h
    · cases h
  · cases h

theorem nilCheckP_ok {x v : V} {cx : Value} (h : nilCheckP P.P x = some v) (hx : VH P s H w x cx) :
    (match cx with
    | .pointer none | .nilIface | .nilFunc => (runtimePanic .nilDeref : Sem Next)
    | .func (.method name) first captured =>
      match (first[0]? : Option Value) with
      | some .nilIface => runtimePanic .nilDeref
      | some (.iface t w) => do
        if (← nilAhead ((← program).types.size + Made.depth) t w name) != some false then
          unsupported (.noEntry "op/nilCheck.the method's receiver behind this interface value is a nil pointer, or cannot be seen to be none, and the arguments act or may panic (ledger 612)")
        pure (.value (.func (.method name) first captured))
      | _ => pure (.value (.func (.method name) first captured))
    | x => pure (.value x)).run P w = .ok (.value cx) w ∧ v = x := by
  unfold nilCheckP at h
  split at h
  · rename_i name t u rest cap
    split at h
    · rename_i hm
      injection h with h
      subst h
      refine ⟨?_, rfl⟩
      obtain ⟨f, hf⟩ := Option.isSome_iff_exists.1 hm
      obtain ⟨xs, ys, rfl, h1, h2⟩ := hx
      obtain ⟨c, cs, hc, ⟨q, rfl, _⟩, _⟩ := h1
      have h0 : xs[0]? = some (.iface t q) := by
        have : xs.toList[0]? = some (.iface t q) := by rw [hc]; rfl
        simpa using this
      have hn := (methodX_run (w := w) hf (P.P.types.size + 99) q).2
      simp only [h0, Sem.run_bind, run_program, Result.andThen_ok, Made.depth]
      rw [show P.P.types.size + 100 = P.P.types.size + 99 + 1 from rfl, hn]
      simp
    · cases h
  · exact nilCheck_ok h hx

theorem block_cells {g : Nat} {arr : Array Value} {e : TypeId} {fr : Nat × Nat} (h : w.heap[g]? = some (.cells arr e fr)) (off : Nat) : w.cell? ⟨g, off, none⟩ = arr[off]? := by
  simp [World.cell?, h]
theorem block_holds {g : Nat} {arr : Array Value} {e : TypeId} {fr : Nat × Nat} (h : w.heap[g]? = some (.cells arr e fr)) (n : Nat) : HoldsAt w ⟨g, 0, none⟩ (arr.toList.take n) := by
  intro i c hi
  rw [List.getElem?_take] at hi
  split at hi
  · simpa [block_cells h] using hi
  · cases hi

/-- A row of cells of the own heap, where it lies. -/
theorem HR.cells (hr : HR P s H w) {b : Nat} {cs : List V} {e : TypeId} (h : H.get b = some (.cells cs e)) {g : Nat} (hb : s b = some g) :
    ∃ arr fr, w.heap[g]? = some (.cells arr e fr) ∧ VHs P s H w cs (arr.toList.take cs.length) ∧ (∀ i, i < arr.size → (decide (fr.1 ≤ i) && decide (i < fr.2)) = false) ∧ cs.length ≤ arr.size := by
  obtain ⟨B, o, h1, h2, h3⟩ := hr.dom b g hb
  rw [h] at h1
  injection h1 with h1
  subst h1
  obtain ⟨arr, fr, rfl, h4, h5⟩ := h3
  have := h4.length
  simp at this
  exact ⟨arr, fr, h2, h4, h5, by omega⟩

theorem HR.live (hr : HR P s H w) {b : Nat} {B : Blk} (h : H.get b = some B) (hB : B ≠ .dead) {q : Prop} (hd : Dead H b ∨ q) : q := by
  rcases hd with hd | hd
  · rw [Dead, h] at hd
    injection hd with hd
    exact absurd hd hB
  · exact hd

theorem loadCells_ok {g off : Nat} {cs : List Value} (h : HoldsAt w ⟨g, off, none⟩ cs) : (loadCells ⟨g, off, none⟩ cs.length).run P w = .ok cs.toArray w :=
  run_loadCells_list w ⟨g, off, none⟩ cs fun j v hj => by rw [add_eq]; exact h j v hj

theorem loadVar_ok {t : TypeId} {cells : List V} {off o0 g : Nat} {v : V} {cs : List Value} {d : Nat → Prop} {pr : Nat → Prop} (h : partV P t cells off = some v) (hv : VRs (szP P) s d pr w cells cs) (ha : HoldsAt w ⟨g, o0, none⟩ cs) :
    ∃ c, (loadVar t ⟨g, o0 + off, none⟩).run P w = .ok c w ∧ VR (szP P) s d pr w v c := by
  simp only [partV, Option.bind_eq_bind, Option.bind_eq_some_iff] at h
  obtain ⟨b, hb, h⟩ := h
  cases b with
  | true =>
    simp only [if_true, Option.bind_eq_some_iff] at h
    obtain ⟨n, hn, h⟩ := h
    split at h
    · rename_i hl
      injection h with h
      subst h
      have hlen : ((cs.drop off).take n).length = n := by
        have := hv.length
        simp; omega
      have hh : HoldsAt w ⟨g, o0 + off, none⟩ ((cs.drop off).take n) := take_holds (drop_holds ha)
      have := loadCells_ok (P := P) hh
      rw [hlen] at this
      exact ⟨.agg ((cs.drop off).take n).toArray, by simp [loadVar, run_agg? hb, run_sz hn, this], _, rfl, (hv.drop off).take n⟩
    · cases h
  | false =>
    simp only [Bool.false_eq_true, if_false] at h
    obtain ⟨c, h1, h2⟩ := hv.get h
    have := ha off c h1
    exact ⟨c, by simp [loadVar, run_agg? hb, this], h2⟩

theorem load_ok (hr : HR P s H w) {t : TypeId} {x v : V} {cx : Value} (h : loadV P H t x = some v) (hx : VH P s H w x cx) : ∃ c, (Instr.loadAt t cx).run P w = .ok c w ∧ VH P s H w v c := by
  simp only [loadV, Option.bind_eq_bind, Option.bind_eq_some_iff] at h
  obtain ⟨⟨cells, off⟩, hc, h⟩ := h
  unfold cellsAt at hc
  split at hc
  · rename_i b o
    split at hc
    · rename_i cs e hg
      injection hc with hc
      simp only [Prod.mk.injEq] at hc
      obtain ⟨rfl, rfl⟩ := hc
      obtain ⟨q, rfl, hq⟩ := hx
      obtain ⟨g, h1, rfl⟩ := hr.live hg (by simp) hq
      obtain ⟨arr, fr, h2, h3, _, _⟩ := hr.cells hg h1
      obtain ⟨c, h4, h5⟩ := loadVar_ok (o0 := 0) h h3 (block_holds h2 _)
      exact ⟨c, by simpa [Instr.loadAt, Instr.sureAddr] using h4, h5⟩
    · cases hc
  · rename_i cs
    injection hc with hc
    simp only [Prod.mk.injEq] at hc
    obtain ⟨rfl, rfl⟩ := hc
    obtain ⟨g, o, cs', rfl, hg, hv, ha⟩ := hx
    obtain ⟨c, h4, h5⟩ := loadVar_ok (off := 0) h hv ha
    exact ⟨c, by simpa [Instr.loadAt, Instr.sureAddr] using h4, h5⟩
  · cases hc

theorem put_put (g : Nat) (o o' : Obj) : put (put w g o) g o' = put w g o' := by
  simp only [put]
  congr 1
  apply Array.ext_getElem?
  intro i
  simp only [Array.getElem?_setIfInBounds, Array.size_setIfInBounds]
  by_cases e : g = i
  · subst e; by_cases l : g < w.heap.size <;> simp [l]
  · simp [e]

theorem put_same {g : Nat} {o : Obj} (h : w.heap[g]? = some o) : put w g o = w := by
  have : w.heap.setIfInBounds g o = w.heap := by
    apply Array.ext_getElem?
    intro i
    rw [Array.getElem?_setIfInBounds]
    by_cases e : g = i
    · subst e
      have h' := (Array.getElem?_eq_some_iff.1 h).1
      rw [if_pos rfl, if_pos h', h]
    · simp [e]
  simp only [put, this]

theorem setCell_put {g off : Nat} {arr : Array Value} {e : TypeId} {fr : Nat × Nat} (h : w.heap[g]? = some (.cells arr e fr)) (v : Value) : w.setCell ⟨g, off, none⟩ v = put w g (.cells (arr.setIfInBounds off v) e fr) := by
  simp only [World.setCell, put]
  congr 1
  apply Array.ext_getElem?
  intro i
  rw [Array.getElem?_modify, Array.getElem?_setIfInBounds]
  by_cases e : g = i
  · subst e
    have h' := (Array.getElem?_eq_some_iff.1 h).1
    rw [if_pos rfl, if_pos rfl, if_pos h', h]
    simp
  · simp [e]

theorem storeCells_ok {g o : Nat} {e : TypeId} {fr : Nat × Nat} : ∀ (vs : List Value) (i : Nat) (arr : Array Value) (w : World), w.heap[g]? = some (.cells arr e fr) → (∀ i, i < arr.size → (decide (fr.1 ≤ i) && decide (i < fr.2)) = false) →
    o + i + vs.length ≤ arr.size → (∀ v ∈ vs, v.oneCell' = true) →
    ∃ arr', (storeCells ⟨g, o, none⟩ vs i).run P w = .ok () (put w g (.cells arr' e fr)) ∧ arr'.toList = arr.toList.take (o + i) ++ vs ++ arr.toList.drop (o + i + vs.length) ∧ arr'.size = arr.size
  | [], i, arr, w, h, hf, hl, ho => ⟨arr, by simp [storeCells, put_same h], by simp, rfl⟩
  | v :: vs, i, arr, w, h, hf, hl, ho => by
    simp only [List.length_cons] at hl
    have hlt : o + i < arr.size := by omega
    have hc : w.cell? ⟨g, o + i, none⟩ = some arr[o + i] := by rw [block_cells h]; simp [hlt]
    have hfr : w.frozen? ⟨g, o + i, none⟩ = false := by
      have := hf (o + i) hlt
      simp only [World.frozen?, h]
      exact this
    have hst := run_store P w ⟨g, o + i, none⟩ v .plain (ho v (by simp))
    rw [hc] at hst
    simp only [hfr, Bool.false_eq_true, if_false] at hst
    rw [setCell_put h] at hst
    have hg := (Array.getElem?_eq_some_iff.1 h).1
    obtain ⟨arr', h1, h2, h3⟩ := storeCells_ok (o := o) vs (i + 1) (arr.setIfInBounds (o + i) v) (put w g (.cells (arr.setIfInBounds (o + i) v) e fr)) (by rw [put_get, if_pos ⟨rfl, hg⟩]) (by simpa using hf) (by simp; omega) (fun u hu => ho u (by simp [hu]))
    refine ⟨arr', ?_, ?_, by simpa using h3⟩
    · simp only [storeCells, Sem.run_bind, add_eq, hst, Result.andThen_ok, h1, put_put]
    · rw [h2]
      apply List.ext_getElem?
      intro j
      simp only [Array.toList_setIfInBounds, List.getElem?_append, List.length_append, List.length_take, List.length_set, Array.length_toList, List.getElem?_take, List.getElem?_drop, List.getElem?_set, List.length_cons]
      have m1 : min (o + (i + 1)) arr.size = o + i + 1 := by omega
      have m2 : min (o + i) arr.size = o + i := by omega
      rw [m1, m2]
      by_cases c1 : j < o + i
      · have : j < o + i + 1 := by omega
        have : j < o + i + 1 + vs.length := by omega
        have : j < o + i + (vs.length + 1) := by omega
        have : j < o + (i + 1) := by omega
        have : ¬ o + i = j := by omega
        simp [*]
      · by_cases c2 : j = o + i
        · subst c2
          have e1 : o + i < o + i + 1 + vs.length := by omega
          have e2 : o + i < o + (i + 1) := by omega
          simp [e1, e2, hlt]
        · by_cases c3 : j < o + i + 1 + vs.length
          · have e1 : ¬ j < o + i + 1 := by omega
            have e2 : j < o + i + (vs.length + 1) := by omega
            have e3 : j - (o + i) = (j - (o + i + 1)) + 1 := by omega
            simp [c1, c3, e1, e2, e3]
          · have e1 : ¬ j < o + i + 1 := by omega
            have e2 : ¬ j < o + i + (vs.length + 1) := by omega
            have e4 : o + (i + 1) + vs.length + (j - (o + i + 1 + vs.length)) = j := by omega
            have e5 : o + i + (vs.length + 1) + (j - (o + i + (vs.length + 1))) = j := by omega
            have e6 : ¬ o + i = j := by omega
            simp [c3, e2, e4, e5, e6]

/-- Cells put into a block: the block, as it is then. -/
theorem BR_splice {cs new out : List V} {off : Nat} {e : TypeId} {arr arr' : Array Value} {fr : Nat × Nat} {ys : List Value} (hsp : splice cs off new = some out) (h3 : VHs P s H w cs (arr.toList.take cs.length)) (hn : VHs P s H w new ys) (hle : cs.length ≤ arr.size)
    (hf : ∀ i, i < arr.size → (decide (fr.1 ≤ i) && decide (i < fr.2)) = false) (ha : arr'.toList = arr.toList.take off ++ ys ++ arr.toList.drop (off + ys.length)) (hs : arr'.size = arr.size) : BR P s H w (.cells out e) (.cells arr' e fr) := by
  refine ⟨arr', fr, rfl, ?_, by rw [hs]; exact hf⟩
  have := splice_ok hsp h3 hn
  obtain ⟨hl, ho⟩ := splice_len hsp
  have hol : out.length = cs.length := by rw [ho]; simp; omega
  have hyl := hn.length
  rw [hol, ha]
  have e1 : ((arr.toList.take off ++ ys ++ arr.toList.drop (off + ys.length)).take cs.length) = (arr.toList.take cs.length).take off ++ ys ++ (arr.toList.take cs.length).drop (off + ys.length) := by
    rw [List.take_append, List.take_append]
    simp only [List.length_append, List.length_take, Array.length_toList]
    have m1 : min off arr.size = off := by omega
    rw [m1, List.take_take, List.take_take, List.drop_take, List.take_of_length_le (l := ys) (by omega)]
    have m2 : min cs.length off = off := by omega
    have m3 : min off cs.length = off := by omega
    have m4 : cs.length - (off + ys.length) = cs.length - (off + ys.length) := rfl
    rw [m2, m3]
  rw [e1]
  exact this

theorem shape_put {g : Nat} {arr arr' : Array Value} {e : TypeId} {fr : Nat × Nat} (h : w.heap[g]? = some (.cells arr e fr)) (hs : arr'.size = arr.size) : ∀ x, World.shape? w g = some x → World.shape? (put w g (.cells arr' e fr)) g = some x := by
  intro x hx
  have hg := (Array.getElem?_eq_some_iff.1 h).1
  simp only [World.shape?, h, put_get, hg, and_self, if_true] at hx ⊢
  rw [hs]; exact hx

theorem store_ok (hr : HR P s H w) {t : TypeId} {x v : V} {cx cv : Value} {r : OR} (h : storeV P H t x v = some r) (hx : VH P s H w x cx) (hv : VH P s H w v cv) : UnitOK P s H w r ((Instr.storeAt t cx cv).run P w) := by
  unfold storeV at h
  split at h
  · rename_i b off
    split at h
    · rename_i cs e hg
      simp only [Option.bind_eq_bind, Option.bind_eq_some_iff] at h
      obtain ⟨vc, hvc, n, hn, h⟩ := h
      split at h
      · rename_i hcond
        obtain ⟨c, hsp, h⟩ := Option.bind_eq_some_iff.1 h
        injection h with h
        subst h
        obtain ⟨q, rfl, hq⟩ := hx
        obtain ⟨g, h1, rfl⟩ := hr.live hg (by simp) hq
        obtain ⟨arr, fr, h2, h3, h4, h5⟩ := hr.cells hg h1
        have hcells := vcells_ok hvc hv
        have hlen : cv.cells.size = vc.length := by have := hcells.length; simpa using this
        obtain ⟨hl, _⟩ := splice_len hsp
        obtain ⟨arr', k1, k2, k3⟩ := storeCells_ok (P := P) (o := off) cv.cells.toList 0 arr w h2 h4 (by simp; omega) (ones_ok hcond.2 hcells)
        have hB : BR P s H w (.cells c e) (.cells arr' e fr) := BR_splice hsp h3 hcells h5 h4 (by simpa using k2) k3
        have hbn := (hr.lt h1).1
        obtain ⟨m1, m2⟩ := write_block hr h1 h2 hB (shape_put h2 k3)
        refine ⟨rfl, s, put w g (.cells arr' e fr), ?_, m1, ?_⟩
        · have : ¬ (cv.cells.size ≠ n) := by omega
          simp [Instr.storeAt, Instr.sureAddr, storeVar, run_sz hn, hlen, hcond.1, k1]
        · have : min b H.n = b := by omega
          rw [this]; exact m2
      · cases h
    · cases h
  · cases h

theorem BR_new {c : List V} {e : TypeId} {arr : Array Value} (h : VHs P s H w c arr.toList) : BR P s H w (.cells c e) (.cells arr e) := by
  refine ⟨arr, (0, 0), rfl, ?_, fun i _ => by simp⟩
  have := h.length
  simp at this
  rw [List.take_of_length_le (by simp; omega)]
  exact h

theorem new_ok (hr : HR P s H w) {c : List V} {e : TypeId} {arr : Array Value} (h : VHs P s H w c arr.toList) :
    ∃ s', HR P s' (H.push (.cells c e)) (w.alloc (.cells arr e)) ∧ Ext H.n s H w s' (H.push (.cells c e)) (w.alloc (.cells arr e)) ∧ s' H.n = some w.heap.size := by
  obtain ⟨h1, h2⟩ := new_block hr (BR_new h)
  exact ⟨_, h1, h2, by simp⟩

theorem zeroCells_ok {t : TypeId} {zc : List V} {d pr} (h : zeroCellsV P t = some zc) : ∃ i z, P.P.info? t = some i ∧ i.zero = some z ∧ VRs (szP P) s d pr w zc z.cells.toList := by
  simp only [zeroCellsV, Option.bind_eq_bind, Option.bind_eq_some_iff] at h
  obtain ⟨i, hi, z, hz, hzc⟩ := h
  exact ⟨i, z, hi, hz, vcells_ok hzc (ofV_ok z)⟩

theorem alloc_ok (hr : HR P s H w) {t : TypeId} {r : OR} (h : allocV P H t = some r) : ValOK P s H w r ((Instr.alloc t true (.tuple #[])).run P w) := by
  simp only [allocV, Option.bind_eq_bind, Option.bind_eq_some_iff] at h
  obtain ⟨zc, hzc, h⟩ := h
  injection h with h
  subst h
  obtain ⟨i, z, hi, hz, hv⟩ := zeroCells_ok (s := s) (w := w) (d := Dead H) (pr := Prot P s w) hzc
  obtain ⟨s', h1, h2, h3⟩ := new_ok (e := t) hr hv
  exact ⟨s', .pointer (some ⟨w.heap.size, 0, none⟩), _, by simp [Instr.alloc, run_zero hi hz, newVar, newRow], ⟨_, rfl, .inr ⟨_, h3, rfl⟩⟩, h1, h2⟩

theorem box_ok (hr : HR P s H w) {t : TypeId} {x : V} {cx : Value} {r : OR} (h : boxV H t x = some r) (hx : VH P s H w x cx) : ValOK P s H w r ((Instr.box t cx).run P w) := by
  simp only [boxV, Option.bind_eq_bind, Option.bind_eq_some_iff] at h
  obtain ⟨c, hc, h⟩ := h
  injection h with h
  subst h
  obtain ⟨s', h1, h2, h3⟩ := new_ok (e := t) hr (vcells_ok hc hx)
  exact ⟨s', .pointer (some ⟨w.heap.size, 0, none⟩), _, by simp [Instr.box, newVar, newRow], ⟨_, rfl, .inr ⟨_, h3, rfl⟩⟩, h1, h2⟩

theorem zeros_ok {d pr} {zc : List V} {z : Array Value} (hz : VRs (szP P) s d pr w zc z.toList) : ∀ n, VRs (szP P) s d pr w (zerosV zc n) ((List.replicate n z.toList).flatten)
  | 0 => by simp [zerosV, VRs]
  | n + 1 => by
    simp only [zerosV, List.replicate_succ, List.flatten_cons]
    exact hz.append (zeros_ok hz n)

theorem zeros_len (zc : List V) : ∀ n, (zerosV zc n).length = n * zc.length
  | 0 => by simp [zerosV]
  | n + 1 => by simp [zerosV, zeros_len zc n, Nat.add_mul]; omega

theorem range_zero (z : Array Value) (n : Nat) : ((Array.range (n * z.size)).map (z[· % z.size]!)).toList = (List.replicate n z.toList).flatten := by
  induction n with
  | zero => simp
  | succ n ih =>
    rw [List.replicate_succ', List.flatten_append, ← ih]
    simp only [Array.toList_map, Array.toList_range, Nat.succ_mul, List.range_add, List.map_append, List.map_map, List.flatten_cons, List.flatten_nil, List.append_nil]
    congr 1
    apply List.ext_getElem
    · simp
    · intro i h1 h2
      simp at h1
      simp [Nat.add_mod, Nat.mod_eq_of_lt h1, h1]
end
end Go.Tw
