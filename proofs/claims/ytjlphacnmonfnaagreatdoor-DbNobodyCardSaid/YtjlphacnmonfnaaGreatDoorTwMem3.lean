/- Literals, makes, appends, copies, clears and conversions do in the model what they do on the own heap. No condition. -/
import Derived.Test.YtjlphacnmonfnaaGreatDoorTwMem2
import Derived.WalkKit
set_option linter.unusedVariables false
set_option linter.unusedSimpArgs false
namespace Go.Tw

section
variable {P : PH} {s : Nat → Option Nat} {H : Heap} {w : World}

theorem buildSlice_ok (hr : HR P s H w) {t : TypeId} {len : Nat} {ps : List (Nat × V)} {qs : List (Nat × Value)} {r : OR} (h : buildSliceV P H t len ps = some r) (hp : PRs P s (Dead H) (Prot P s w) w ps qs) :
    ValOK P s H w r ((Instr.buildSlice t len qs.toArray).run P w) := by
  unfold buildSliceV at h
  split at h
  · rename_i elem hu
    simp only [Option.bind_eq_bind, Option.bind_eq_some_iff] at h
    obtain ⟨sz, hsz, zc, hzc, h⟩ := h
    split at h
    · rename_i hc
      obtain ⟨c, hf, h⟩ := Option.bind_eq_some_iff.1 h
      injection h with h
      subst h
      obtain ⟨i, z, hi, hz, hv⟩ := zeroCells_ok (s := s) (w := w) (d := Dead H) (pr := Prot P s w) hzc
      have hzs : z.cells.size = sz := by have := hv.length; simp at this; omega
      have hcells : ∃ cs0 : Array Value, (if len * sz = 0 then (pure #[] : Sem (Array Value)) else do pure (← zeroValue elem).cells).run P w = .ok cs0 w ∧
          VHs P s H w (zerosV zc len) ((Array.range (len * sz)).map (cs0[· % cs0.size]!)).toList := by
        by_cases h0 : len * sz = 0
        · refine ⟨#[], by simp [h0], ?_⟩
          have : zerosV zc len = [] := List.eq_nil_of_length_eq_zero (by rw [zeros_len, hc.2]; exact h0)
          rw [this, h0]
          simp [VRs]
        · refine ⟨z.cells, by simp [h0, run_zero hi hz], ?_⟩
          rw [← hzs, range_zero]
          exact zeros_ok hv len
      obtain ⟨cs0, k1, k2⟩ := hcells
      obtain ⟨cs', k3, k4⟩ := fill_ok (fun i => some (i * sz, sz)) ps qs _ c _ hf k2 hp
      obtain ⟨s', h1, h2, h3⟩ := new_ok (e := elem) hr k4
      refine ⟨s', .slice (some ⟨w.heap.size, 0, none⟩) len len, _, ?_, ⟨_, len, rfl, Nat.le_refl _, fun _ => rfl, .inr ⟨_, h3, rfl, fun k e => by cases e⟩⟩, h1, h2⟩
      have hle : ¬ len * sz > 2 ^ 24 := by have := hc.1; omega
      have hle' : len * sz ≤ 2 ^ 24 := by omega
      by_cases h0 : len * sz = 0
      · rw [if_pos h0] at k1
        simp only [Sem.run_pure] at k1
        injection k1 with k1
        subst k1
        rw [h0] at k3
        simp [Instr.buildSlice, run_und hu, run_sz hsz, h0, k3, newRow]
        rw [show (fun x : Nat => (#[] : Array Value)[x % (#[] : Array Value).size]!) = fun x => (#[] : Array Value)[x % 0]! from rfl] at k3
        simp at k3
        simp [k3, newRow]
      · rw [if_neg h0] at k1
        simp only [Sem.run_bind, run_zero hi hz, Result.andThen_ok, Sem.run_pure] at k1
        injection k1 with k1
        subst k1
        simp [Instr.buildSlice, run_und hu, run_sz hsz, h0, hle', run_zero hi hz, k3, newRow]
    · cases h
  · cases h

theorem makeSlice_ok (hr : HR P s H w) {t : TypeId} {l c : V} {cl cc : Value} {r : OR} (h : makeSliceV P H t l c = some r) (hl : VH P s H w l cl) (hc : VH P s H w c cc) :
    ValOK P s H w r ((Instr.makeSlice t cl cc).run P w) := by
  unfold makeSliceV at h
  split at h
  · rename_i elem k1 l k2 c hu
    simp only [VH, VR] at hl hc
    subst hl; subst hc
    simp only [Option.bind_eq_bind, Option.bind_eq_some_iff] at h
    obtain ⟨i, hi, zc, hzc, h⟩ := h
    split at h
    · rename_i hb
      injection h with h
      subst h
      obtain ⟨i', z, hi', hz, hv⟩ := zeroCells_ok (s := s) (w := w) (d := Dead H) (pr := Prot P s w) hzc
      have : i' = i := by rw [hi] at hi'; injection hi' with h; exact h.symm
      subst this
      obtain ⟨b1, b2, b3, b4, b5⟩ := hb
      have hzs : z.cells.size = i'.size := by have := hv.length; simp at this; omega
      have hcells : ∃ cs0 : Array Value, (if c.toNat * i'.size = 0 then (pure #[] : Sem (Array Value)) else do pure (← zeroValue elem).cells).run P w = .ok cs0 w ∧
          VHs P s H w (zerosV zc c.toNat) ((Array.range (c.toNat * i'.size)).map (cs0[· % cs0.size]!)).toList := by
        by_cases h0 : c.toNat * i'.size = 0
        · refine ⟨#[], by simp only [h0, if_true]; rfl, ?_⟩
          have : zerosV zc c.toNat = [] := List.eq_nil_of_length_eq_zero (by rw [zeros_len, b5]; exact h0)
          rw [this, h0]
          simp [VRs]
        · refine ⟨z.cells, by simp only [h0, if_false, Sem.run_bind, run_zero hi hz, Result.andThen_ok, Sem.run_pure], ?_⟩
          rw [← hzs, range_zero]
          exact zeros_ok hv c.toNat
      obtain ⟨cs0, k1, k2⟩ := hcells
      obtain ⟨s', h1, h2, h3⟩ := new_ok (e := elem) hr k2
      refine ⟨s', .slice (some ⟨w.heap.size, 0, none⟩) l.toNat c.toNat, _, ?_, ⟨_, c.toNat, rfl, Nat.le_refl _, fun _ => rfl, .inr ⟨_, h3, rfl, fun k e => by cases e⟩⟩, h1, h2⟩
      have w1 : IntKind.i64.wrap l = l := by
        simp [IntKind.wrap, IntKind.bits, IntKind.signed]; omega
      have w2 : IntKind.i64.wrap c = c := by
        simp [IntKind.wrap, IntKind.bits, IntKind.signed]; omega
      have hbig : ¬ ((i'.bytes : Int) * c > 2 ^ 48) := by
        have : (i'.bytes : Int) * c = c * i'.bytes := Int.mul_comm _ _
        rw [this]; omega
      have hgo : (decide (c < 0) || decide ((i'.bytes : Int) * c > 2 ^ 48) || decide (l < 0) || decide (l > c)) = false := by
        simp only [Bool.or_eq_false_iff, decide_eq_false_iff_not]
        refine ⟨⟨⟨by omega, hbig⟩, by omega⟩, by omega⟩
      have hsz : (sizeOf elem).run P w = .ok i'.size w := run_sz (by simp [size?, hi])
      have hgo' : (decide (c < 0) || decide (2 ^ 48 < (i'.bytes : Int) * c) || decide (l < 0) || decide (c < l)) = false := hgo
      by_cases h0 : c.toNat * i'.size = 0
      · rw [if_pos h0] at k1
        simp only [Sem.run_pure] at k1
        injection k1 with k1
        subst k1
        simp only [Instr.makeSlice, Sem.run_bind, run_und hu, Result.andThen_ok, asInt, asIntOf, Sem.run_pure, run_info hi, w1, w2]
        rw [if_neg (by rw [hgo]; simp)]
        simp [hsz, h0, newRow]
      · rw [if_neg h0] at k1
        simp only [Sem.run_bind, run_zero hi hz, Result.andThen_ok, Sem.run_pure] at k1
        injection k1 with k1
        subst k1
        simp only [Instr.makeSlice, Sem.run_bind, run_und hu, Result.andThen_ok, asInt, asIntOf, Sem.run_pure, run_info hi, w1, w2]
        rw [if_neg (by rw [hgo]; simp)]
        simp [hsz, h0, run_zero hi hz, newRow]
    · cases h
  · cases h

theorem extract_bytes (s : ByteArray) (n : Nat) : (s.extract 0 n).data.toList = s.data.toList.take n := by
  simp [ByteArray.data_extract, Array.toList_extract, List.extract]

theorem lenOf_ok {x : V} {n : Nat} {cx : Value} {d pr} (h : lenOfV x = some n) (hx : VR (szP P) s d pr w x cx) : (Builtin.lenOf cx).run P w = .ok n w := by
  unfold lenOfV at h
  split at h <;> first
    | (cases h; done)
    | (injection h with h; subst h; simp only [VR] at hx)
  · subst hx; rfl
  · obtain ⟨a, rfl⟩ := hx; rfl
  · obtain ⟨a, c, rfl⟩ := hx; rfl
  · subst hx; rfl
  · obtain ⟨g, off, cap, cs, rfl, _⟩ := hx; rfl
  · obtain ⟨q, cap', rfl, _⟩ := hx; rfl

theorem firstCells_ok (hr : HR P s H w) {x : V} {sz n : Nat} {new : List V} {cx : Value} (h : cellsOf H sz n x = some new) (hx : VH P s H w x cx) :
    ∃ arr, (Builtin.firstCells sz n cx).run P w = .ok arr w ∧ VHs P s H w new arr.toList := by
  unfold cellsOf at h
  split at h
  · split at h
    · injection h with h; subst h
      simp only [VH, VR] at hx; subst hx
      exact ⟨#[], by simp [Builtin.firstCells], by simp [VRs]⟩
    · cases h
  · split at h
    · rename_i h0
      injection h with h; subst h; subst h0
      obtain ⟨a, rfl⟩ := hx
      exact ⟨#[], by simp [Builtin.firstCells, loadCells, loadCellsFrom], by simp [VRs]⟩
    · cases h
  · split at h
    · rename_i h0
      injection h with h; subst h; subst h0
      obtain ⟨a, c, rfl⟩ := hx
      exact ⟨#[], by simp [Builtin.firstCells, loadCells, loadCellsFrom], by simp [VRs]⟩
    · cases h
  · rename_i st
    split at h
    · injection h with h; subst h
      simp only [VH, VR] at hx; subst hx
      refine ⟨(st.extract 0 n).data.map fun b => .int .u8 b.toNat, by simp [Builtin.firstCells], ?_⟩
      rw [Array.toList_map, extract_bytes]
      refine VRs.mk (by simp) fun i v c hv hc => ?_
      simp only [List.getElem?_map] at hv hc
      cases hq : (st.data.toList.take n)[i]? with
      | none => rw [hq] at hv; simp at hv
      | some b =>
        rw [hq] at hv hc
        simp only [Option.map_some, Option.some.injEq] at hv hc
        subst hv; subst hc
        simp [VR]
    · cases h
  · split at h
    · rename_i hb
      injection h with h; subst h
      obtain ⟨g, off, cap, cs, rfl, hl, hg, hc, ha⟩ := hx
      have hlen : (cs.take (n * sz)).length = n * sz := by have := hc.length; simp; omega
      have := loadCells_ok (P := P) (take_holds (n := n * sz) ha)
      rw [hlen] at this
      exact ⟨_, by simpa [Builtin.firstCells] using this, by simpa using hc.take (n * sz)⟩
    · cases h
  · rename_i b off len cap opn
    split at h
    · rename_i cs e hg
      split at h
      · rename_i hb
        injection h with h; subst h
        obtain ⟨q, cap', rfl, _, _, hq⟩ := hx
        obtain ⟨g, h1, rfl, _⟩ := hr.live hg (by simp) hq
        obtain ⟨arr, fr, h2, h3, _, h5⟩ := hr.cells hg h1
        have hh := take_holds (n := n * sz) (drop_holds (n := off) (block_holds h2 cs.length))
        have hlen : (((arr.toList.take cs.length).drop off).take (n * sz)).length = n * sz := by simp; omega
        have := loadCells_ok (P := P) hh
        rw [hlen] at this
        exact ⟨_, by simpa [Builtin.firstCells] using this, by simpa using (h3.drop off).take (n * sz)⟩
      · cases h
    · cases h
  · cases h

theorem growBy_le (n : Nat) : ∀ (r c : Nat), c < n → Builtin.growBy n r c ≤ 2 * n + 192
  | 0, c, h => by simp [Builtin.growBy]; omega
  | r + 1, c, h => by
    simp only [Builtin.growBy]
    rw [if_neg (by omega)]
    by_cases h' : c + (c + 768) / 4 < n
    · exact growBy_le n r _ h'
    · cases r with
      | zero => simp only [Builtin.growBy]; omega
      | succ r => simp only [Builtin.growBy]; rw [if_pos (by omega)]; omega
theorem nextcap_le {n c : Nat} (h : c < n) : Builtin.nextslicecap n c ≤ 2 * n + 192 := by
  unfold Builtin.nextslicecap
  split
  · omega
  · split
    · omega
    · exact growBy_le n 4 c h
theorem nextcap_room {n c b : Nat} (h : c < n) (hb : n * b ≤ 1099511627776) : ¬ Builtin.nextslicecap n c * b > 2 ^ 48 := by
  have h1 := Nat.mul_le_mul_right b (nextcap_le h)
  have h2 : (2 * n + 192) * b = 2 * (n * b) + 192 * b := by rw [Nat.add_mul, Nat.mul_assoc]
  have h3 : 1 * b ≤ n * b := Nat.mul_le_mul_right b (by omega)
  omega

theorem HR.drew (hr : HR P s H w) : HR P s H w.drew :=
  ⟨fun b g hb => let ⟨B, o, h1, h2, h3⟩ := hr.dom b g hb; ⟨B, o, h1, h2, h3.mono (Ext.drew s H w).grow⟩, hr.inj⟩

/-- The model's append where the row is too short. -/
theorem append_grows {t0 t1 ty elem : TypeId} {i : TypeInfo} {d1 : TypeDesc} (hu : P.P.underlying t0 = some (.slice elem)) (hu1 : P.P.underlying t1 = some d1) (hd1 : ∀ k, d1 ≠ .int k) (hi : P.P.info? elem = some i) (hb0 : 0 < i.bytes) {z : Value} (hz : i.zero = some z)
    {base : Option Addr} {len cap n : Nat} {x : Value} (hn : (Builtin.lenOf x).run P w = .ok n w) (hlt : cap < len + n) (hroom : (len + n) * i.bytes ≤ 1099511627776)
    {old new : Array Value} (ho : (Builtin.firstCells i.size len (.slice base len cap)).run P w.drew = .ok old w.drew) (hnw : (Builtin.firstCells i.size n x).run P w.drew = .ok new w.drew) :
    ∃ cap', (Builtin.append_ #[t0, t1] ty #[.slice base len cap, x]).run P w = .ok (.slice (some ⟨w.heap.size, 0, none⟩) (len + n) cap') (w.drew.alloc (.cells (old ++ new ++ Builtin.zeroCells z.cells (cap' - (len + n))) elem)) ∧ len + n ≤ cap' := by
  have hd : (match d1 with | .int _ => true | _ => false) = false := by cases d1 <;> first | rfl | exact absurd rfl (hd1 _)
  let q : Question := .appendCap (len + n) cap elem
  refine ⟨q.cut (w.tape w.drawn q), ?_, ?_⟩
  · have hsz : (sizeOf elem).run P w = .ok i.size w := run_sz (by simp [size?, hi])
    have hnot : ¬ len + n ≤ cap := by omega
    have hb : ¬ i.bytes = 0 := by omega
    simp only [Builtin.append_, List.getElem?_toArray, List.getElem?_cons_zero, List.getElem?_cons_succ, Sem.run_bind, run_und hu, run_und hu1, Result.andThen_ok, hsz, Sem.run_pure, hd, Bool.false_eq_true, if_false, hn, hnot]
    simp only [Sem.run_ite, Sem.run_bind, run_info hi, Result.andThen_ok, Sem.run_pure, hb, decide_false, Bool.false_or, or_false, false_or, and_false, if_false, Bool.not_false, if_true]
    have hnr := nextcap_room hlt hroom
    rw [if_neg hnr]
    simp only [Sem.run_bind, run_choose, Question.forced, Bool.false_eq_true, if_false, Result.andThen_ok, run_askRoom]
    have hdw : ({ heap := w.heap, tape := w.tape, drawn := w.drawn + 1, os := w.os, output := w.output } : World) = w.drew := rfl
    rw [hdw, ho]
    simp only [Result.andThen_ok, hnw, run_zero (w := w.drew) hi hz]
    simp only [newRow, Sem.run_bind, run_newObj, Result.andThen_ok, Sem.run_pure]
    rfl
  · show len + n ≤ len + n + _
    omega

theorem append_fits {t0 t1 ty elem : TypeId} {sz : Nat} {d1 : TypeDesc} (hu : P.P.underlying t0 = some (.slice elem)) (hu1 : P.P.underlying t1 = some d1) (hd1 : ∀ k, d1 ≠ .int k) (hsz : size? P elem = some sz)
    {a : Addr} {len cap n : Nat} {x : Value} {w' : World} (hn : (Builtin.lenOf x).run P w = .ok n w) (hle : len + n ≤ cap) {new : Array Value} (hnw : (Builtin.firstCells sz n x).run P w = .ok new w)
    (hst : (storeCells (a.add (len * sz)) new.toList).run P w = .ok () w') :
    (Builtin.append_ #[t0, t1] ty #[.slice (some a) len cap, x]).run P w = .ok (.slice (some a) (len + n) cap) w' := by
  have hd : (match d1 with | .int _ => true | _ => false) = false := by cases d1 <;> first | rfl | exact absurd rfl (hd1 _)
  simp only [Builtin.append_, List.getElem?_toArray, List.getElem?_cons_zero, List.getElem?_cons_succ, Sem.run_bind, run_und hu, run_und hu1, Result.andThen_ok, run_sz hsz, Sem.run_pure, hd, Bool.false_eq_true, if_false, hn, hle, if_true, Bool.not_false, hnw, hst]

theorem append_nothing {t0 t1 ty elem : TypeId} {sz : Nat} {d1 : TypeDesc} (hu : P.P.underlying t0 = some (.slice elem)) (hu1 : P.P.underlying t1 = some d1) (hd1 : ∀ k, d1 ≠ .int k) (hsz : size? P elem = some sz)
    {base : Option Addr} {len cap : Nat} {x : Value} (hn : (Builtin.lenOf x).run P w = .ok 0 w) (hle : len ≤ cap) {new : Array Value} (hnw : (Builtin.firstCells sz 0 x).run P w = .ok new w) (h0 : new.toList = []) :
    (Builtin.append_ #[t0, t1] ty #[.slice base len cap, x]).run P w = .ok (.slice base len cap) w := by
  have hd : (match d1 with | .int _ => true | _ => false) = false := by cases d1 <;> first | rfl | exact absurd rfl (hd1 _)
  cases base with
  | none => simp only [Builtin.append_, List.getElem?_toArray, List.getElem?_cons_zero, List.getElem?_cons_succ, Sem.run_bind, run_und hu, run_und hu1, Result.andThen_ok, run_sz hsz, Sem.run_pure, hd, Bool.false_eq_true, if_false, hn, Nat.add_zero, hle, if_true, Bool.not_false, hnw]
  | some a => simp only [Builtin.append_, List.getElem?_toArray, List.getElem?_cons_zero, List.getElem?_cons_succ, Sem.run_bind, run_und hu, run_und hu1, Result.andThen_ok, run_sz hsz, Sem.run_pure, hd, Bool.false_eq_true, if_false, hn, Nat.add_zero, hle, if_true, Bool.not_false, hnw, h0, storeCells]

theorem zeroCells_size (z : Array Value) (n : Nat) : (Builtin.zeroCells z n).size = n * z.size := by simp [Builtin.zeroCells]

/-- A new row behind a draw. -/
theorem drew_new_ok (hr : HR P s H w) {c : List V} {e : TypeId} {arr rest : Array Value} (h : VHs P s H w.drew c arr.toList) :
    ∃ s', HR P s' (H.push (.cells c e)) (w.drew.alloc (.cells (arr ++ rest) e)) ∧ Ext H.n s H w s' (H.push (.cells c e)) (w.drew.alloc (.cells (arr ++ rest) e)) ∧ s' H.n = some w.heap.size := by
  have hl := h.length
  have hB : BR P s H w.drew (.cells c e) (.cells (arr ++ rest) e) := by
    refine ⟨arr ++ rest, (0, 0), rfl, ?_, fun i _ => by simp⟩
    rw [Array.toList_append, List.take_append_of_le_length (by omega), List.take_of_length_le (by omega)]
    exact h
  obtain ⟨h1, h2⟩ := new_block hr.drew hB
  have h3 := Ext.trans (fun b g hb => (hr.lt hb).1) (Ext.drew s H w) h2
  rw [Nat.min_self] at h3
  exact ⟨_, h1, h3, by simp⟩

theorem shape_new (w : World) (o : Array Value) (e : TypeId) : (w.alloc (.cells o e)).shape? w.heap.size = some (e, o.size) := by
  have : (w.alloc (.cells o e)).heap[w.heap.size]? = some (.cells o e) := by
    show (w.heap.push _)[w.heap.size]? = _
    simp
  simp only [World.shape?, this]

theorem appendZ_ok (hr : HR P s H w) {t0 t1 ty elem : TypeId} {q : IntKind} (hu : P.P.underlying t0 = some (.slice elem)) (hu1 : P.P.underlying t1 = some (.int q)) {x y : V} {cx cy : Value} {r : OR} (h : appendZ P H elem x y = some r) (hx : VH P s H w x cx) (hy : VH P s H w y cy) :
    ValOK P s H w r ((Builtin.append_ #[t0, t1] ty #[cx, cy]).run P w) := by
  unfold appendZ at h
  split at h
  · rename_i k l
    simp only [VH, VR] at hx hy
    subst hx hy
    simp only [Option.bind_eq_bind, Option.bind_eq_some_iff] at h
    obtain ⟨i, hi, zc, hzc, h⟩ := h
    split at h
    · rename_i hc
      injection h with h
      subst h
      obtain ⟨hl0, hb0, hs0, hzl, hroom⟩ := hc
      obtain ⟨n, rfl⟩ : ∃ n : Nat, l = (n : Int) := ⟨l.toNat, by omega⟩
      simp only [Int.toNat_natCast] at hroom ⊢
      have hn0 : 0 < n := by omega
      have hn1 : n * 1 ≤ n * i.bytes := Nat.mul_le_mul_left n hb0
      obtain ⟨i', z, hi', hz, hzv⟩ := zeroCells_ok (s := s) (w := w.drew) (d := Dead H) (pr := Prot P s w.drew) hzc
      have : i' = i := by rw [hi] at hi'; injection hi' with h; exact h.symm
      subst this
      have hzs : z.cells.size = i'.size := by have := hzv.length; simp at this; omega
      have hz0 : VHs P s H w.drew (zerosV zc n) (Builtin.zeroCells z.cells n).toList := by
        have : (Builtin.zeroCells z.cells n).toList = (List.replicate n z.cells.toList).flatten := by
          rw [← range_zero]; rfl
        rw [this]
        exact zeros_ok hzv n
      have w1 : IntKind.i64.wrap (n : Int) = n := by
        simp [IntKind.wrap, IntKind.bits, IntKind.signed]; omega
      let qq : Question := .appendCap (0 + n) 0 elem
      have k2 : 0 + n ≤ qq.cut (w.tape w.drawn qq) := by
        show 0 + n ≤ 0 + n + _
        omega
      have k1 : (Builtin.append_ #[t0, t1] ty #[.slice none 0 0, .int k n]).run P w = .ok (.slice (some ⟨w.heap.size, 0, none⟩) (0 + n) (qq.cut (w.tape w.drawn qq))) (w.drew.alloc (.cells (#[] ++ Builtin.zeroCells z.cells n ++ Builtin.zeroCells z.cells (qq.cut (w.tape w.drawn qq) - (0 + n))) elem)) := by
        have hsz : (sizeOf elem).run P w = .ok i'.size w := run_sz (by simp [size?, hi])
        have hnot : ¬ 0 + n ≤ 0 := by omega
        have hb : ¬ i'.bytes = 0 := by omega
        have hneg : ¬ ((n : Int) < 0) := by omega
        have hbig : ¬ ((n : Int) * (i'.bytes : Int) > 2 ^ 48) := by
          have : ((n * i'.bytes : Nat) : Int) = (n : Int) * (i'.bytes : Int) := by simp
          omega
        have hns : ¬ n * i'.size = 0 := by
          intro e
          rcases Nat.mul_eq_zero.1 e with e | e <;> omega
        have hmax : ¬ (((0 + n : Nat) : Int) > IntKind.i64.max) := by
          simp [IntKind.max, IntKind.bits, IntKind.signed]; omega
        simp only [Builtin.append_, List.getElem?_toArray, List.getElem?_cons_zero, List.getElem?_cons_succ, Sem.run_bind, run_und hu, run_und hu1, Result.andThen_ok, hsz, Sem.run_pure, if_true, asInt, asIntOf, w1, hneg, if_false, run_info hi, Sem.run_ite, hbig, Int.toNat_natCast, hnot]
        simp only [hmax, false_and, if_false]
        have hnr := nextcap_room (n := 0 + n) (c := 0) (b := i'.bytes) (by omega) (by simpa using hroom)
        rw [if_neg hnr]
        simp only [Sem.run_bind, run_choose, Question.forced, Bool.false_eq_true, if_false, Result.andThen_ok, run_askRoom, Sem.run_pure]
        have hdw : ({ heap := w.heap, tape := w.tape, drawn := w.drawn + 1, os := w.os, output := w.output } : World) = w.drew := rfl
        rw [hdw]
        have hfc : (Builtin.firstCells i'.size 0 (.slice none 0 0)).run P w.drew = .ok #[] w.drew := by simp [Builtin.firstCells]
        simp only [hfc, Result.andThen_ok, Bool.not_true, Bool.false_eq_true, if_false, hns, Sem.run_bind, Sem.run_ite, run_zero (w := w.drew) hi hz, Sem.run_pure]
        simp only [newRow, Sem.run_bind, run_newObj, Result.andThen_ok, Sem.run_pure]
        rfl
      obtain ⟨s', m1, m2, m3⟩ := drew_new_ok (e := elem) (rest := Builtin.zeroCells z.cells (qq.cut (w.tape w.drawn qq) - (0 + n))) hr hz0
      refine ⟨s', _, _, k1, ?_, by simpa using m1, by simpa using m2⟩
      refine ⟨_, qq.cut (w.tape w.drawn qq), by simp, by omega, fun e => (by cases e), .inr ⟨_, m3, rfl, fun k e => ?_⟩⟩
      injection e with e
      subst e
      refine ⟨elem, _, by simpa using shape_new w.drew _ _, ?_⟩
      simp only [Array.size_append, zeroCells_size, hzs]
      have e2 : qq.cut (w.tape w.drawn qq) * i'.size = n * i'.size + (qq.cut (w.tape w.drawn qq) - (0 + n)) * i'.size := by rw [← Nat.add_mul]; congr 1; omega
      simp only [Nat.zero_add] at *; omega
    · cases h
  · cases h

theorem append_ok (hr : HR P s H w) {t0 t1 ty : TypeId} {x y : V} {cx cy : Value} {r : OR} (h : appendV P H t0 t1 x y = some r) (hx : VH P s H w x cx) (hy : VH P s H w y cy) :
    ValOK P s H w r ((Builtin.append_ #[t0, t1] ty #[cx, cy]).run P w) := by
  unfold appendV at h
  split at h
  · rename_i elem q hu hu1
    exact appendZ_ok hr hu hu1 h hx hy
  · rename_i elem d1 hd1 hu hu1
    have hd1' : ∀ k, d1 ≠ .int k := fun k e => hd1 k e
    simp only [Option.bind_eq_bind, Option.bind_eq_some_iff] at h
    obtain ⟨i, hi, n, hn, new, hnew, zc, hzc, h⟩ := h
    split at h
    · cases h
    · rename_i hc
      simp only [Decidable.not_not] at hc
      obtain ⟨hb0, hzl, hone, hnl⟩ := hc
      have hsz : size? P elem = some i.size := by simp [size?, hi]
      have hcn := lenOf_ok (w := w) hn hy
      obtain ⟨arr, ha1, ha2⟩ := firstCells_ok hr hnew hy
      obtain ⟨arrd, hd2, hd3⟩ := firstCells_ok hr.drew hnew ((Ext.drew s H w).vh hy)
      obtain ⟨i', z, hi', hz, hzv⟩ := zeroCells_ok (s := s) (w := w) (d := Dead H) (pr := Prot P s w) hzc
      have : i' = i := by rw [hi] at hi'; injection hi' with h; exact h.symm
      subst this
      have hzs : z.cells.size = i'.size := by have := hzv.length; simp at this; omega
      have hal := ha2.length
      have hdl := hd3.length
      split at h
      · rename_i h0
        subst h0
        have harr : arr.toList = [] := by apply List.eq_nil_of_length_eq_zero; rw [hal, hnl]; simp
        have fin : ∀ base len cap, cx = .slice base len cap → len ≤ cap → r = ⟨x, H, H.n⟩ → ValOK P s H w r ((Builtin.append_ #[t0, t1] ty #[cx, cy]).run P w) := by
          intro base len cap e hle er
          subst e; subst er
          exact ⟨s, _, w, append_nothing hu hu1 hd1' hsz hcn hle ha1 harr, hx, hr, Ext.refl s H w⟩
        split at h <;> first
          | (cases h; done)
          | skip
        · injection h with h; simp only [VH, VR] at hx; exact fin none 0 0 hx (Nat.le_refl _) h.symm
        · injection h with h; obtain ⟨a, e⟩ := hx; exact fin (some a) 0 0 e (Nat.le_refl _) h.symm
        · injection h with h; obtain ⟨a, c, e⟩ := hx; exact fin (some a) 0 c e (Nat.zero_le _) h.symm
        · injection h with h; obtain ⟨g, off, cap, cs, e, hl, _⟩ := hx; exact fin _ _ cap e hl h.symm
        · rename_i b off len cap opn
          split at h
          · rename_i hle
            injection h with h; obtain ⟨q, cap', e, h2, _⟩ := hx; exact fin _ _ cap' e (by omega) h.symm
          · cases h
      · rename_i h0
        have fresh : ∀ base, cx = .slice base 0 0 → (∀ w', (Builtin.firstCells i'.size 0 (.slice base 0 0)).run P w' = .ok #[] w') → n * i'.bytes ≤ 1099511627776 → r = ⟨.sl H.n 0 n n (some i'.size), H.push (.cells new elem), H.n⟩ → ValOK P s H w r ((Builtin.append_ #[t0, t1] ty #[cx, cy]).run P w) := by
          intro base e hf hb er
          subst e; subst er
          obtain ⟨cap', k1, k2⟩ := append_grows (ty := ty) hu hu1 hd1' hi hb0 hz (base := base) (len := 0) (cap := 0) hcn (by omega) (by simpa using hb) (hf _) hd2
          obtain ⟨s', m1, m2, m3⟩ := drew_new_ok (e := elem) (rest := Builtin.zeroCells z.cells (cap' - (0 + n))) hr hd3
          refine ⟨s', _, _, k1, ?_, ?_, ?_⟩
          · refine ⟨_, cap', by simp, by omega, fun e => (by cases e), .inr ⟨_, m3, rfl, fun k e => ?_⟩⟩
            injection e with e
            subst e
            refine ⟨elem, _, by simpa using shape_new w.drew _ _, ?_⟩
            simp only [Array.size_append, zeroCells_size, hzs]
            have e1 : arrd.size = n * i'.size := by rw [← Array.length_toList, hdl, hnl]
            have e2 : cap' * i'.size = n * i'.size + (cap' - (0 + n)) * i'.size := by rw [← Nat.add_mul]; congr 1; omega
            have e3 : (cap' - (0 + n)) * i'.size = (cap' - n) * i'.size := by rw [Nat.zero_add]
            simp only [Nat.zero_add] at *
            omega
          · simpa using m1
          · simpa using m2
        split at h
        · split at h
          · rename_i hb
            injection h with h
            simp only [VH, VR] at hx
            exact fresh none hx (fun w' => by simp [Builtin.firstCells]) hb h.symm
          · cases h
        · split at h
          · rename_i hb
            injection h with h
            obtain ⟨a, e⟩ := hx
            exact fresh (some a) e (fun w' => by simp [Builtin.firstCells, loadCells, loadCellsFrom]) hb h.symm
          · cases h
        · rename_i b off len cap opn
          split at h
          · rename_i cs e hg
            obtain ⟨q, cap', rfl, g2, g3, hq⟩ := hx
            obtain ⟨g, h1, rfl, hop⟩ := hr.live hg (by simp) hq
            obtain ⟨arr0, fr, h2, h3, h4, h5⟩ := hr.cells hg h1
            have hbn := (hr.lt h1).1
            have hmin : min b H.n = b := by omega
            split at h
            · rename_i hfit
              obtain ⟨c, hsp, h⟩ := Option.bind_eq_some_iff.1 h
              injection h with h
              subst h
              obtain ⟨hl, _⟩ := splice_len hsp
              obtain ⟨arr', k1, k2, k3⟩ := storeCells_ok (P := P) (o := off + len * i'.size) arr.toList 0 arr0 w h2 h4 (by rw [hal]; omega) (ones_ok hone ha2)
              have hB : BR P s H w (.cells c e) (.cells arr' e fr) := BR_splice hsp h3 ha2 h5 h4 (by simpa using k2) k3
              obtain ⟨m1, m2⟩ := write_block hr h1 h2 hB (shape_put h2 k3)
              refine ⟨s, _, _, append_fits hu hu1 hd1' hsz hcn (by omega) ha1 (by rw [add_eq]; exact k1), ?_, m1, by rw [hmin]; exact m2⟩
              exact ⟨_, cap', rfl, g2, g3, .inr ⟨g, h1, rfl, fun k hk => let ⟨el, m, q1, q2⟩ := hop k hk; ⟨el, m, m2.shp _ _ q1, q2⟩⟩⟩
            · rename_i hfit
              split at h
              · cases h
              · rename_i hc
                simp only [Decidable.not_not] at hc
                obtain ⟨hroom, hoff, hlc⟩ := hc
                have hself : cellsOf H i'.size len (.sl b off len cap opn) = some ((cs.drop off).take (len * i'.size)) := by
                  simp [cellsOf, hg, hoff]
                have hxd : VH P s H w.drew (.sl b off len cap opn) (.slice (some ⟨g, off, none⟩) len cap') := (Ext.drew s H w).vh ⟨_, cap', rfl, g2, g3, .inr ⟨g, h1, rfl, hop⟩⟩
                obtain ⟨old, ho1, ho2⟩ := firstCells_ok hr.drew hself hxd
                have hol := ho2.length
                split at h
                · rename_i hopn
                  split at h
                  · rename_i hcc
                    obtain ⟨rfl, rfl, rfl⟩ := hcc
                    injection h with h
                    subst h
                    obtain ⟨el, sz, q1, q2⟩ := hop _ rfl
                    have hsh : el = e ∧ sz = arr0.size := by
                      simp only [World.shape?, h2] at q1
                      injection q1 with q1
                      simp only [Prod.mk.injEq] at q1
                      exact ⟨q1.1.symm, q1.2.symm⟩
                    obtain ⟨rfl, rfl⟩ := hsh
                    by_cases hin : len + n ≤ cap'
                    · have hroom2 : len * i'.size + n * i'.size ≤ cap' * i'.size := by rw [← Nat.add_mul]; exact Nat.mul_le_mul_right _ hin
                      obtain ⟨arr', k1, k2, k3⟩ := storeCells_ok (P := P) (o := 0 + len * i'.size) arr.toList 0 arr0 w h2 h4 (by rw [hal, hnl]; omega) (ones_ok hone ha2)
                      have hB : BR P s H w (.cells (cs.take (len * i'.size) ++ new) el) (.cells arr' el fr) := by
                        refine ⟨arr', fr, rfl, ?_, by rw [k3]; exact h4⟩
                        rw [k2]
                        have hk : (arr0.toList.take (0 + len * i'.size + 0)).length = len * i'.size := by simp; omega
                        have e1 : (cs.take (len * i'.size) ++ new).length = (arr0.toList.take (0 + len * i'.size + 0) ++ arr.toList).length := by rw [List.length_append, List.length_append, hk, hal]; simp; omega
                        have e2 : (arr0.toList.take (0 + len * i'.size + 0) ++ arr.toList ++ arr0.toList.drop (0 + len * i'.size + 0 + arr.toList.length)).take (arr0.toList.take (0 + len * i'.size + 0) ++ arr.toList).length = (arr0.toList.take cs.length).take (len * i'.size) ++ arr.toList := by
                          rw [List.take_append_of_le_length (Nat.le_refl _), List.take_of_length_le (l := arr0.toList.take (0 + len * i'.size + 0) ++ arr.toList) (Nat.le_refl _), List.take_take]
                          congr 2
                          omega
                        rw [e1, e2]
                        exact (h3.take _).append ha2
                      obtain ⟨m1, m2⟩ := grow_here hr h1 h2 hB (shape_put h2 k3)
                      refine ⟨_, _, _, append_fits hu hu1 hd1' hsz hcn hin ha1 (by rw [add_eq]; exact k1), ?_, m1, by rw [hmin]; exact m2⟩
                      refine ⟨_, cap', rfl, by omega, fun e => (by cases e), .inr ⟨g, by simp, rfl, fun k hk => ?_⟩⟩
                      injection hk with hk
                      subst hk
                      exact ⟨el, arr0.size, m2.shp _ _ q1, q2⟩
                    · obtain ⟨cap2, k1, k2⟩ := append_grows (ty := ty) hu hu1 hd1' hi hb0 hz (base := some ⟨g, 0, none⟩) (len := len) (cap := cap') hcn (by omega) hroom ho1 hd2
                      have hB : BR P s H w.drew (.cells (cs.take (len * i'.size) ++ new) el) (.cells (old ++ arrd ++ Builtin.zeroCells z.cells (cap2 - (len + n))) el) := by
                        refine ⟨_, (0, 0), rfl, ?_, fun i _ => by simp⟩
                        have e0 : (cs.take (len * i'.size) ++ new).length = (old.toList ++ arrd.toList).length := by rw [List.length_append, List.length_append, hol, hdl]; simp
                        simp only [Array.toList_append]
                        rw [e0, List.take_append_of_le_length (Nat.le_refl _), List.take_of_length_le (l := old.toList ++ arrd.toList) (Nat.le_refl _)]
                        exact VRs.append (by simpa using ho2) hd3
                      obtain ⟨m1, m2⟩ := grow_away hr.drew h1 hB
                      have m3 := Ext.trans (fun b g hb => (hr.lt hb).1) (Ext.drew s H w) m2
                      have hmin2 : min H.n b = b := by omega
                      rw [hmin2] at m3
                      refine ⟨_, _, _, k1, ?_, m1, by rw [hmin]; exact m3⟩
                      refine ⟨_, cap2, rfl, by omega, fun e => (by cases e), .inr ⟨w.heap.size, by simp, rfl, fun k hk => ?_⟩⟩
                      injection hk with hk
                      subst hk
                      refine ⟨el, _, shape_new w.drew _ _, ?_⟩
                      simp only [Array.size_append, zeroCells_size, hzs]
                      have e1 : arrd.size = n * i'.size := by rw [← Array.length_toList, hdl, hnl]
                      have e3 : old.size = len * i'.size := by rw [← Array.length_toList, hol]; simp; omega
                      have e2 : cap2 * i'.size = len * i'.size + n * i'.size + (cap2 - (len + n)) * i'.size := by rw [← Nat.add_mul, ← Nat.add_mul]; congr 1; omega
                      omega
                  · cases h
                · rename_i hopn
                  injection h with h
                  subst h
                  have hex : cap' = cap := g3 (by simpa using hopn)
                  subst hex
                  obtain ⟨cap2, k1, k2⟩ := append_grows (ty := ty) hu hu1 hd1' hi hb0 hz (base := some ⟨g, off, none⟩) (len := len) (cap := cap') hcn (by omega) hroom ho1 hd2
                  have happ : VHs P s H w.drew ((cs.drop off).take (len * i'.size) ++ new) (old ++ arrd).toList := by
                    rw [Array.toList_append]; exact ho2.append hd3
                  obtain ⟨s', m1, m2, m3⟩ := drew_new_ok (e := elem) (rest := Builtin.zeroCells z.cells (cap2 - (len + n))) hr happ
                  refine ⟨s', _, _, k1, ?_, m1, m2⟩
                  refine ⟨_, cap2, rfl, by omega, fun e => (by cases e), .inr ⟨_, m3, rfl, fun k e => ?_⟩⟩
                  injection e with e
                  subst e
                  refine ⟨elem, _, shape_new w.drew _ _, ?_⟩
                  simp only [Array.size_append, zeroCells_size, hzs]
                  have e1 : arrd.size = n * i'.size := by rw [← Array.length_toList, hdl, hnl]
                  have e3 : old.size = len * i'.size := by rw [← Array.length_toList, hol]; simp; omega
                  have e2 : cap2 * i'.size = len * i'.size + n * i'.size + (cap2 - (len + n)) * i'.size := by rw [← Nat.add_mul, ← Nat.add_mul]; congr 1; omega
                  omega
          · cases h
        · cases h
  · cases h
end
end Go.Tw
