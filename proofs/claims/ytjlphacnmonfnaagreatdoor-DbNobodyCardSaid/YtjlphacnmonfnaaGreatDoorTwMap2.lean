/- Stores into maps, and a map's length, do in the model what they do on the own heap. No condition. -/
import Derived.Test.YtjlphacnmonfnaaGreatDoorTwMap
set_option linter.unusedVariables false
set_option linter.unusedSimpArgs false
namespace Go.Tw

section
variable {P : PH} {s : Nat → Option Nat} {H : Heap} {w : World}

theorem MRs.length : ∀ {es : List (V × V × Nat)} {cs : List MapEntry}, MRs P s H w es cs → cs.length = es.length
  | [], cs, h => by simp only [MRs] at h; subst h; rfl
  | (k, v, b) :: es, cs, h => by
    obtain ⟨e, cs', rfl, _, _, _, h⟩ := h
    simp [MRs.length h]

theorem MRs.get : ∀ {es : List (V × V × Nat)} {cs : List MapEntry} {i : Nat} {k v : V} {b : Nat}, MRs P s H w es cs → es[i]? = some (k, v, b) → ∃ e, cs[i]? = some e ∧ VH P s H w k e.key ∧ VH P s H w v e.val ∧ e.born = b
  | [], cs, i, k, v, b, h, hi => by simp at hi
  | (k, v, b) :: es, cs, 0, k', v', b', h, hi => by
    obtain ⟨e, cs', rfl, h1, h2, h3, h⟩ := h
    simp only [List.getElem?_cons_zero, Option.some.injEq, Prod.mk.injEq] at hi
    obtain ⟨rfl, rfl, rfl⟩ := hi
    exact ⟨e, rfl, h1, h2, h3⟩
  | (k, v, b) :: es, cs, i + 1, k', v', b', h, hi => by
    obtain ⟨e, cs', rfl, h1, h2, h3, h⟩ := h
    simp only [List.getElem?_cons_succ] at hi ⊢
    exact MRs.get h hi

theorem MRs.set : ∀ {es : List (V × V × Nat)} {cs : List MapEntry} (i : Nat) {k v : V} {e : MapEntry}, MRs P s H w es cs → VH P s H w k e.key → VH P s H w v e.val → MRs P s H w (es.set i (k, v, e.born)) (cs.set i e)
  | [], cs, i, k, v, e, h, _, _ => by simp only [MRs] at h; subst h; simp [MRs]
  | (k, v, b) :: es, cs, 0, k', v', e', h, hk, hv => by
    obtain ⟨e, cs', rfl, h1, h2, h3, h⟩ := h
    exact ⟨e', cs', rfl, hk, hv, rfl, h⟩
  | (k, v, b) :: es, cs, i + 1, k', v', e', h, hk, hv => by
    obtain ⟨e, cs', rfl, h1, h2, h3, h⟩ := h
    exact ⟨e, _, rfl, h1, h2, h3, MRs.set i h hk hv⟩

theorem MRs.snoc : ∀ {es : List (V × V × Nat)} {cs : List MapEntry} {k v : V} {e : MapEntry}, MRs P s H w es cs → VH P s H w k e.key → VH P s H w v e.val → MRs P s H w (es ++ [(k, v, e.born)]) (cs ++ [e])
  | [], cs, k, v, e, h, hk, hv => by simp only [MRs] at h; subst h; exact ⟨e, [], rfl, hk, hv, rfl, rfl⟩
  | (k, v, b) :: es, cs, k', v', e', h, hk, hv => by
    obtain ⟨e, cs', rfl, h1, h2, h3, h⟩ := h
    exact ⟨e, _, rfl, h1, h2, h3, MRs.snoc h hk hv⟩

theorem litEq_same {x y : V} {cx cy : Value} {d pr} (h : litEq x y = some true) (hx : VR (szP P) s d pr w x cx) (hy : VR (szP P) s d pr w y cy) : cx = cy ∧ ∀ n, Instr.sameBits n cx cx = true := by
  unfold litEq at h
  split at h
  · simp only [VR] at hx hy; subst hx; subst hy
    injection h with h
    have := eq_of_beq h
    subst this
    exact ⟨rfl, fun n => by simp [Instr.sameBits]⟩
  · simp only [VR] at hx hy; subst hx; subst hy
    split at h
    · rename_i e; subst e
      injection h with h
      have := eq_of_beq h
      subst this
      exact ⟨rfl, fun n => by simp [Instr.sameBits]⟩
    · cases h
  · rename_i a b
    simp only [VR] at hx hy; subst hx; subst hy
    injection h with h
    have h1 := eq_of_beq h
    have : a = b := by
      obtain ⟨⟨x⟩⟩ := a
      obtain ⟨⟨y⟩⟩ := b
      have : x = y := h1
      subst this
      rfl
    subst this
    refine ⟨rfl, fun n => ?_⟩
    have : (a == a) = true := by rw [bytes_beq]; simp
    simpa [Instr.sameBits] using this
  · cases h

theorem litEqs_same {d pr} : ∀ {xs ys : List V} {cx cy : List Value}, litEqs xs ys = some true → VRs (szP P) s d pr w xs cx → VRs (szP P) s d pr w ys cy → cx = cy ∧ ∀ n, (cx.zip cx).all (fun (x, y) => Instr.sameBits n x y) = true
  | [], [], cx, cy, h, hx, hy => by
    simp only [VRs] at hx hy
    subst hx; subst hy
    exact ⟨rfl, fun n => rfl⟩
  | [], _ :: _, cx, cy, h, hx, hy => by simp [litEqs] at h
  | _ :: _, [], cx, cy, h, hx, hy => by simp [litEqs] at h
  | x :: xs, y :: ys, cx, cy, h, hx, hy => by
    obtain ⟨c1, c2, rfl, h1, hx⟩ := hx
    obtain ⟨e1, e2, rfl, g1, hy⟩ := hy
    simp only [litEqs, Option.bind_eq_bind, Option.bind_eq_some_iff] at h
    obtain ⟨a, ha, b, hb, h⟩ := h
    injection h with h
    simp only [Bool.and_eq_true] at h
    obtain ⟨rfl, rfl⟩ := h
    obtain ⟨rfl, k1⟩ := litEq_same ha h1 g1
    obtain ⟨rfl, k2⟩ := litEqs_same hb hx hy
    exact ⟨rfl, fun n => by simp [k1 n, List.zip_cons_cons]; simpa using k2 n⟩

theorem plain_same {x y : V} {cx cy : Value} {d pr} (h : plainEq x y = some true) (hx : VR (szP P) s d pr w x cx) (hy : VR (szP P) s d pr w y cy) : cx = cy ∧ Instr.sameBits 10000 cx cx = true := by
  unfold plainEq at h
  split at h
  · obtain ⟨ax, rfl, hx⟩ := hx
    obtain ⟨ay, rfl, hy⟩ := hy
    obtain ⟨e, hk⟩ := litEqs_same h hx hy
    have : ax = ay := Array.toList_inj.1 e
    subst this
    refine ⟨rfl, ?_⟩
    show (ax.size == ax.size && (ax.toList.zip ax.toList).all fun (x, y) => Instr.sameBits 9999 x y) = true
    rw [hk 9999]; simp
  · obtain ⟨e, hk⟩ := litEq_same h hx hy
    exact ⟨e, hk 10000⟩

theorem findV_at {kt : TypeId} {k : V} : ∀ (es : List (V × V × Nat)) (i0 i : Nat) (v : V) (b : Nat), findV P kt k es i0 = some (some (i, v, b)) → ∃ j k', i = i0 + j ∧ es[j]? = some (k', v, b) ∧ plainEq k k' = some true
  | [], i0, i, v, b, h => by simp [findV] at h
  | (k', v', b') :: es, i0, i, v, b, h => by
    simp only [findV, Option.bind_eq_bind, Option.bind_eq_some_iff] at h
    obtain ⟨a, ha, a', hb, h⟩ := h
    split at h
    · rename_i e
      subst e
      cases a with
      | true =>
        simp only [if_true, Option.some.injEq, Prod.mk.injEq] at h
        obtain ⟨rfl, rfl, rfl⟩ := h
        exact ⟨0, k', rfl, rfl, hb⟩
      | false =>
        simp only [Bool.false_eq_true, if_false] at h
        obtain ⟨j, k2, e1, e2, e3⟩ := findV_at es (i0 + 1) i v b h
        exact ⟨j + 1, k2, by omega, by simpa using e2, e3⟩
    · cases h

theorem modify_set {arr : Array MapEntry} {i : Nat} {e : MapEntry} (h : arr.toList[i]? = some e) (f : MapEntry → MapEntry) : (arr.modify i f).toList = arr.toList.set i (f e) := by
  apply List.ext_getElem?
  intro j
  rw [Array.getElem?_toList, Array.getElem?_modify, List.getElem?_set]
  have hi : i < arr.toList.length := (List.getElem?_eq_some_iff.1 h).1
  by_cases e1 : i = j
  · subst e1
    rw [if_pos rfl, if_pos rfl, if_pos hi, ← Array.getElem?_toList, h]
    rfl
  · rw [if_neg e1, if_neg e1, Array.getElem?_toList]

theorem keyStays {old new : Value} (h : old = new) (hs : Instr.sameBits 10000 old old = true) : (Instr.keyThatStays old new).run P w = .ok new w := by
  subst h
  simp [Instr.keyThatStays, hs]

theorem put_map (hr : HR P s H w) {b g : Nat} (hb : s b = some g) {arr arr' : Array MapEntry} {clk clk' : Nat} {es' : List (V × V × Nat)} (ho : w.heap[g]? = some (.map arr clk)) (h : MRs P s H w es' arr'.toList) :
    HR P s (mapSet H b es' clk') (put w g (.map arr' clk')) ∧ Ext (min b H.n) s H w s (mapSet H b es' clk') (put w g (.map arr' clk')) := by
  have hbn := (hr.lt hb).1
  have hmin : min b H.n = b := by omega
  rw [hmin]
  refine write_block hr hb ho ⟨arr', rfl, h⟩ fun x hx => ?_
  simp [World.shape?, ho] at hx

theorem mapUpdate_ok (hr : HR P s H w) {t : TypeId} {m k v : V} {cm ck cv : Value} {r : OR} (h : mapUpdateV P H t m k v = some r) (hm : VH P s H w m cm) (hk : VH P s H w k ck) (hv : VH P s H w v cv) : UnitOK P s H w r ((Instr.mapUpdate t cm ck cv).run P w) := by
  unfold mapUpdateV at h
  split at h
  · rename_i kt et b hu
    split at h
    · rename_i hko
      simp only [Option.bind_eq_bind, Option.bind_eq_some_iff] at h
      obtain ⟨⟨es, clk⟩, hes, f, hf, h⟩ := h
      obtain ⟨b', g, arr, e, h1, h2, rfl, h3, h4⟩ := mapOf_ok hr hes hm
      injection e with e
      subst e
      obtain ⟨d, hkd⟩ := findV_und hko
      obtain ⟨r', hr1, hr2⟩ := findKey_ok hk hkd hf h4
      have hck := checkKey_ok (w := w) 9 kt k ck hko hk 10000 false (by decide)
      simp only at h
      split at h
      · rename_i i pv born
        injection h with h
        subst h
        obtain ⟨c, rfl, hc⟩ := hr2
        obtain ⟨j, k', e1, e2, e3⟩ := findV_at es 0 i pv born hf
        simp only [Nat.zero_add] at e1
        subst e1
        obtain ⟨en, q1, q2, q3, rfl⟩ := h4.get e2
        obtain ⟨s1, s2⟩ := plain_same e3 hk q2
        have hst := keyStays (P := P) (w := w) s1.symm (s1 ▸ s2)
        have q1' : arr[i]? = some en := by simpa using q1
        have hset := h4.set i (e := { en with key := ck, val := cv }) hk hv
        rw [← modify_set q1 (fun e => { e with key := ck, val := cv })] at hset
        obtain ⟨m1, m2⟩ := put_map (clk' := clk) hr h1 h3 hset
        refine ⟨rfl, s, _, ?_, m1, m2⟩
        simp only [Instr.mapUpdate, Sem.run_bind, run_und hu, Result.andThen_ok, getObj_ok h3, hck, hr1, q1', Option.map_some, Option.getD_some, hst, setObj_ok h3]
      · injection h with h
        subst h
        simp only [FRel] at hr2
        subst hr2
        have hsn := h4.snoc (e := { key := ck, val := cv, born := clk }) hk hv
        have hps : (arr.push { key := ck, val := cv, born := clk }).toList = arr.toList ++ [{ key := ck, val := cv, born := clk }] := by simp
        rw [← hps] at hsn
        obtain ⟨m1, m2⟩ := put_map (clk' := clk + 1) hr h1 h3 hsn
        refine ⟨rfl, s, _, ?_, m1, m2⟩
        simp only [Instr.mapUpdate, Sem.run_bind, run_und hu, Result.andThen_ok, getObj_ok h3, hck, hr1, setObj_ok h3]
    · cases h
  · cases h

theorem mapEntry_ok (hr : HR P s H w) {t : TypeId} {m k : V} {cm ck : Value} {r : OR} (h : mapEntryV P H t m k = some r) (hm : VH P s H w m cm) (hk : VH P s H w k ck) : ValOK P s H w r ((Instr.mapEntry t cm ck).run P w) := by
  unfold mapEntryV at h
  split at h
  · rename_i kt et b hu
    split at h
    · rename_i hko
      simp only [Option.bind_eq_bind, Option.bind_eq_some_iff] at h
      obtain ⟨⟨es, clk⟩, hes, f, hf, h⟩ := h
      obtain ⟨b', g, arr, e, h1, h2, rfl, h3, h4⟩ := mapOf_ok hr hes hm
      injection e with e
      subst e
      obtain ⟨d, hkd⟩ := findV_und hko
      obtain ⟨r', hr1, hr2⟩ := findKey_ok hk hkd hf h4
      have hck := checkKey_ok (w := w) 9 kt k ck hko hk 10000 false (by decide)
      simp only at h
      split at h
      · rename_i i pv born
        injection h with h
        subst h
        obtain ⟨c, rfl, hc⟩ := hr2
        obtain ⟨j, k', e1, e2, e3⟩ := findV_at es 0 i pv born hf
        simp only [Nat.zero_add] at e1
        subst e1
        obtain ⟨en, q1, q2, q3, rfl⟩ := h4.get e2
        obtain ⟨s1, s2⟩ := plain_same e3 hk q2
        have hst := keyStays (P := P) (w := w) s1.symm (s1 ▸ s2)
        have q1' : arr[i]? = some en := by simpa using q1
        have hset := h4.set i (e := { en with key := ck }) hk q3
        rw [← modify_set q1 (fun e => { e with key := ck })] at hset
        obtain ⟨m1, m2⟩ := put_map (clk' := clk) hr h1 h3 hset
        refine ⟨s, .tuple #[c, goInt en.born], _, ?_, ⟨#[c, goInt en.born], rfl, c, [goInt en.born], rfl, m2.vh hc, goInt en.born, [], rfl, rfl, rfl⟩, m1, m2⟩
        simp only [Instr.mapEntry, Sem.run_bind, run_und hu, Result.andThen_ok, getObj_ok h3, hck, hr1, q1', Option.map_some, Option.getD_some, hst, setObj_ok h3, Sem.run_pure]
      · simp only [Option.bind_eq_some_iff] at h
        obtain ⟨z, hz, h⟩ := h
        injection h with h
        subst h
        simp only [FRel] at hr2
        subst hr2
        obtain ⟨cz, hz1, hz2⟩ := zeroVal_ok (s := s) (d := Dead H) (pr := Prot P s w) (w := w) hz
        have hsn := h4.snoc (e := { key := ck, val := cz, born := clk }) hk hz2
        have hps : (arr.push { key := ck, val := cz, born := clk }).toList = arr.toList ++ [{ key := ck, val := cz, born := clk }] := by simp
        rw [← hps] at hsn
        obtain ⟨m1, m2⟩ := put_map (clk' := clk + 1) hr h1 h3 hsn
        refine ⟨s, .tuple #[cz, goInt clk], _, ?_, ⟨#[cz, goInt clk], rfl, cz, [goInt clk], rfl, m2.vh hz2, goInt clk, [], rfl, rfl, rfl⟩, m1, m2⟩
        simp only [Instr.mapEntry, Sem.run_bind, run_und hu, Result.andThen_ok, getObj_ok h3, hck, hr1, hz1, setObj_ok h3, Sem.run_pure]
    · cases h
  · cases h

theorem mapEntryC_ok (hr : HR P s H w) {t : TypeId} {m k : V} {cm ck : Value} {r : OR} (h : mapEntryC P H t m k = some r) (hm : VH P s H w m cm) (hk : VH P s H w k ck) : ValOK P s H w r ((Instr.mapEntry t cm ck).run P w) := by
  unfold mapEntryC at h
  split at h
  · rename_i r' h1
    cases hp : putOk P t k H r'.H m with
    | true => rw [hp] at h; injection h with h; subst h; exact mapEntry_ok hr h1 hm hk
    | false => rw [hp] at h; cases h
  · cases h

theorem findBorn_ok (n : Int) : ∀ (es : List (V × V × Nat)) (cs : List MapEntry) (i0 i : Nat) (k : V), findBorn n es i0 = some (i, k) → MRs P s H w es cs → ∃ j, i = i0 + j ∧ List.findIdx? (fun e : MapEntry => (e.born : Int) == n) cs = some j ∧ ∃ v b, es[j]? = some (k, v, b)
  | [], cs, i0, i, k, h, _ => by simp [findBorn] at h
  | (k', v, b) :: es, cs, i0, i, k, h, hm => by
    obtain ⟨e, cs', rfl, h1, h2, h3, hm⟩ := hm
    simp only [findBorn] at h
    by_cases hb : (b : Int) = n
    · rw [if_pos hb] at h
      injection h with h
      simp only [Prod.mk.injEq] at h
      obtain ⟨rfl, rfl⟩ := h
      exact ⟨0, rfl, by simp [List.findIdx?_cons, h3, hb], v, b, rfl⟩
    · rw [if_neg hb] at h
      obtain ⟨j, e1, e2, v', b', e3⟩ := findBorn_ok n es cs' (i0 + 1) i k h hm
      have : ((e.born : Int) == n) = false := by rw [h3]; simpa using hb
      exact ⟨j + 1, by omega, by simp [List.findIdx?_cons, this, e2], v', b', by simpa using e3⟩

theorem entryStore_ok (hr : HR P s H w) {t : TypeId} {m st v : V} {cm cs cv : Value} {r : OR} (h : entryStoreV H m st v = some r) (hm : VH P s H w m cm) (hs : VH P s H w st cs) (hv : VH P s H w v cv) : UnitOK P s H w r ((Instr.entryStore t cm cs cv).run P w) := by
  unfold entryStoreV at h
  split at h
  · rename_i b k n
    simp only [Option.bind_eq_bind, Option.bind_eq_some_iff] at h
    obtain ⟨⟨es, clk⟩, hes, ⟨i, k'⟩, hf, e, he, h⟩ := h
    injection h with h
    subst h
    obtain ⟨b', g, arr, eb, h1, h2, rfl, h3, h4⟩ := mapOf_ok hr hes hm
    injection eb with eb
    subst eb
    simp only [VH, VR] at hs
    subst hs
    obtain ⟨j, e1, e2, v', b2, e3⟩ := findBorn_ok n es arr.toList 0 i k' hf h4
    simp only [Nat.zero_add] at e1
    subst e1
    simp only at he
    rw [e3] at he
    injection he with he
    subst he
    obtain ⟨en, q1, q2, q3, rfl⟩ := h4.get e3
    have hset := h4.set i (e := { en with val := cv }) q2 hv
    rw [← modify_set q1 (fun e => { e with val := cv })] at hset
    obtain ⟨m1, m2⟩ := put_map (clk' := clk) hr h1 h3 hset
    refine ⟨rfl, s, _, ?_, m1, m2⟩
    have hfi : arr.findIdx? (fun e => (e.born : Int) == n) = some i := by
      rw [← e2, ← List.findIdx?_toArray]
    simp only [Instr.entryStore, Sem.run_bind, getObj_ok h3, Result.andThen_ok, asInt, asIntOf, Sem.run_pure, hfi, setObj_ok h3]
  · cases h

theorem lenMap_ok (hr : HR P s H w) {t ty : TypeId} {x v : V} {cx : Value} (h : lenMapV P H t x = some v) (hx : VH P s H w x cx) (ts : Array TypeId) (hts : ts[0]? = some t) : ∃ c, (Builtin.len_ ts ty #[cx]).run P w = .ok c w ∧ VH P s H w v c := by
  unfold lenMapV at h
  split at h
  · rename_i kt et hu
    split at h
    · injection h with h
      subst h
      simp only [VH, VR] at hx
      subst hx
      exact ⟨_, by simp [Builtin.len_, hts, run_und hu]; rfl, rfl⟩
    · obtain ⟨⟨es, clk⟩, hes, h⟩ := Option.map_eq_some_iff.1 h
      subst h
      obtain ⟨b, g, arr, rfl, h1, h2, rfl, h3, h4⟩ := mapOf_ok hr hes hx
      have hl := h4.length
      refine ⟨goInt arr.size, by simp [Builtin.len_, hts, run_und hu, getObj_ok h3], ?_⟩
      simp only [VH, VR, goInt]
      simp at hl
      rw [hl]
  · rename_i hno
    unfold lenV at h
    split at h
    · rename_i hu
      split at h
      · injection h with h; subst h; simp only [VH, VR] at hx; subst hx
        exact ⟨_, by simp [Builtin.len_, hts, run_und hu]; rfl, rfl⟩
      · cases h
    · rename_i n e hu
      injection h with h; subst h
      refine ⟨goInt n, ?_, rfl⟩
      simp only [Builtin.len_, hts, List.getElem?_toArray, List.getElem?_cons_zero, Sem.run_bind, run_und hu, Result.andThen_ok]
      rfl
    · rename_i arr hu
      split at h
      · rename_i n e hu2
        injection h with h; subst h
        refine ⟨goInt n, ?_, rfl⟩
        simp only [Builtin.len_, hts, List.getElem?_toArray, List.getElem?_cons_zero, Sem.run_bind, run_und hu, run_und hu2, Result.andThen_ok]
        rfl
      · cases h
    · rename_i e hu
      split at h <;> first
        | (cases h; done)
        | (injection h with h; subst h)
      · simp only [VH, VR] at hx; subst hx; exact ⟨_, by simp [Builtin.len_, hts, run_und hu]; rfl, rfl⟩
      · obtain ⟨q, cap', rfl, _⟩ := hx; exact ⟨_, by simp [Builtin.len_, hts, run_und hu]; rfl, rfl⟩
      · obtain ⟨g, off, cap, cs, rfl, _⟩ := hx; exact ⟨_, by simp [Builtin.len_, hts, run_und hu]; rfl, rfl⟩
      · obtain ⟨a, rfl⟩ := hx; exact ⟨_, by simp [Builtin.len_, hts, run_und hu]; rfl, rfl⟩
      · obtain ⟨a, c, rfl⟩ := hx; exact ⟨_, by simp [Builtin.len_, hts, run_und hu]; rfl, rfl⟩
    · rename_i kt et hu
      exact absurd hu (hno kt et)
    · cases h

theorem makeMap_ok (hr : HR P s H w) (t : TypeId) : ValOK P s H w ⟨.mp H.n, H.push (.map [] 0), H.n⟩ ((Instr.makeMap t none).run P w) := by
  have hB : BR P s H w (.map [] 0) (.map #[] 0) := ⟨#[], rfl, rfl⟩
  obtain ⟨h1, h2⟩ := new_block hr hB
  refine ⟨_, .map (some w.heap.size), _, ?_, ⟨_, rfl, .inr (by simp)⟩, h1, h2⟩
  simp [Instr.makeMap]
end
end Go.Tw
