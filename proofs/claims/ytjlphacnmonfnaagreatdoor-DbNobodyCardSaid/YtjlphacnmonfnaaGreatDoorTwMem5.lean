/- Conversions and maps do in the model what they do on the own heap. No condition. -/
import Derived.Test.YtjlphacnmonfnaaGreatDoorTwMem4
import Derived.Laws.BytesArg
import Derived.Lib.ConvBytes
set_option linter.unusedVariables false
set_option linter.unusedSimpArgs false
namespace Go.Tw

section
variable {P : PH} {s : Nat → Option Nat} {H : Heap} {w : World}

theorem toBytes_nums {d pr} : ∀ (cs : List V) (vs : List Value) (b : List UInt8), toBytes cs = some b → VRs (szP P) s d pr w cs vs →
    ∃ xs : List Int, vs = xs.map (fun n => .int .u8 n) ∧ b = xs.map fun n => UInt8.ofNat n.toNat
  | [], vs, b, h, hv => by
    simp only [toBytes, Option.some.injEq] at h
    simp only [VRs] at hv
    subst h; subst hv
    exact ⟨[], rfl, rfl⟩
  | c :: cs, vs, b, h, hv => by
    obtain ⟨x, vs', rfl, h1, hv⟩ := hv
    unfold toBytes at h
    split at h
    · rename_i e; cases e
    · rename_i n r e
      injection e with e1 e2
      subst e1; subst e2
      obtain ⟨b', hb, rfl⟩ := Option.map_eq_some_iff.1 h
      simp only [VR] at h1
      subst h1
      obtain ⟨xs, rfl, rfl⟩ := toBytes_nums cs vs' b' hb hv
      exact ⟨n :: xs, rfl, rfl⟩
    · cases h

theorem bytes_of_cells {g off len cap : Nat} {src dst e : TypeId} {cs : List V} {vs : List Value} {b : List UInt8} {d pr} (hs : P.P.underlying src = some (.slice e)) (he : P.P.underlying e = some (.int .u8)) (hd : P.P.underlying dst = some .string)
    (hb : toBytes cs = some b) (hv : VRs (szP P) s d pr w cs vs) (ha : HoldsAt w ⟨g, off, none⟩ vs) (hl : cs.length = len) :
    (convert src dst (.slice (some ⟨g, off, none⟩) len cap)).run P w = .ok (.string ⟨b.toArray⟩) w := by
  obtain ⟨xs, rfl, rfl⟩ := toBytes_nums cs vs b hb hv
  have hx : xs.length = len := by have := hv.length; simp at this; omega
  refine run_convert_bytes_arg w src e hs he g off len cap xs hx (fun i hi => ?_) dst hd
  have := ha i (.int .u8 (xs.getD i 0)) (by simp [List.getElem?_eq_getElem (show i < xs.length by omega), List.getD_eq_getElem?_getD])
  exact this

theorem bytesWorld_eq (w : World) (e : TypeId) (st : ByteArray) : Lib.bytesWorld w e st = w.drew.alloc (.cells (Lib.bytesCells w e st) e ((Lib.bytesCells w e st).size, (Lib.bytesCells w e st).size + 1)) := by
  have hh : (Lib.bytesWorld w e st).heap = (w.drew.alloc (.cells (Lib.bytesCells w e st) e ((Lib.bytesCells w e st).size, (Lib.bytesCells w e st).size + 1))).heap := by
    apply Array.ext_getElem?
    intro i
    show _ = (w.heap.push _)[i]?
    rcases Nat.lt_trichotomy i w.heap.size with h | h | h
    · rw [Lib.bytesWorld_at_old w e st i h, Array.getElem?_push, if_neg (by omega)]
    · subst h
      rw [Lib.bytesWorld_at_new, Array.getElem?_push, if_pos rfl]
    · rw [Array.getElem?_eq_none (by rw [Lib.bytesWorld_size]; omega), Array.getElem?_eq_none (by simp; omega)]
  have h1 : (Lib.bytesWorld w e st).tape = w.tape := rfl
  have h2 : (Lib.bytesWorld w e st).drawn = w.drawn + 1 := rfl
  have h3 : (Lib.bytesWorld w e st).os = w.os := rfl
  have h4 : (Lib.bytesWorld w e st).output = w.output := rfl
  cases hq : Lib.bytesWorld w e st with
  | mk a b c d f =>
    rw [hq] at hh h1 h2 h3 h4
    simp only at hh h1 h2 h3 h4
    subst hh; subst h1; subst h2; subst h3; subst h4
    rfl

theorem convert_ok (hr : HR P s H w) {src dst : TypeId} {x : V} {cx : Value} {r : OR} (h : convertV P H src dst x = some r) (hx : VH P s H w x cx) : ValOK P s H w r ((convert src dst cx).run P w) := by
  have same : ∀ v c, r = ⟨v, H, H.n⟩ → (convert src dst cx).run P w = .ok c w → VH P s H w v c → ValOK P s H w r ((convert src dst cx).run P w) := by
    intro v c e h1 h2
    subst e
    exact ⟨s, c, w, h1, h2, hr, Ext.refl s H w⟩
  unfold convertV at h
  split at h
  · rename_i u k k' n hu hd
    injection h with h
    simp only [VH, VR] at hx
    subst hx
    exact same _ _ h.symm (by simp [convert, run_und hu, run_und hd, Conv.intToInt]) rfl
  · rename_i u st hu hd
    injection h with h
    simp only [VH, VR] at hx
    subst hx
    refine same _ _ h.symm ?_ rfl
    cases u <;> simp [convert, run_und hu, run_und hd]
  · rename_i e st hu hd
    split at h
    · rename_i he
      split at h
      · rename_i hc
        injection h with h
        subst h
        simp only [VH, VR] at hx
        subst hx
        have hrun := Lib.run_convert_string_bytes (P := P) w src dst e st hu hd he
        rw [bytesWorld_eq] at hrun
        have hcsz : (Lib.bytesCells w e st).size = grownCap w st.size 0 e ∧ st.size ≤ grownCap w st.size 0 e := by
          have h1 : st.size ≤ grownCap w st.size 0 e := by
            show st.size ≤ st.size + _
            omega
          refine ⟨?_, h1⟩
          simp [Lib.bytesCells]
          show st.size + _ = _
          omega
        have hv : VHs P s H w.drew (st.data.toList.map fun b => V.lit (.int .u8 b.toNat)) ((Lib.bytesCells w e st).toList.take (st.data.toList.map fun b => V.lit (.int .u8 b.toNat)).length) := by
          have e1 : (Lib.bytesCells w e st).toList.take (st.data.toList.map fun b => V.lit (.int .u8 b.toNat)).length = st.data.toList.map fun b => Value.int .u8 b.toNat := by
            simp only [Lib.bytesCells, Array.toList_append, Array.toList_map, List.length_map]
            rw [List.take_append_of_le_length (by simp), List.take_of_length_le (by simp)]
          rw [e1]
          refine VRs.mk (by simp) fun i v c hv hc => ?_
          simp only [List.getElem?_map] at hv hc
          cases hq : st.data.toList[i]? with
          | none => rw [hq] at hv; simp at hv
          | some b =>
            rw [hq] at hv hc
            simp only [Option.map_some, Option.some.injEq] at hv hc
            subst hv; subst hc
            rfl
        have hB : BR P s H w.drew (.cells (st.data.toList.map fun b => V.lit (.int .u8 b.toNat)) e) (.cells (Lib.bytesCells w e st) e ((Lib.bytesCells w e st).size, (Lib.bytesCells w e st).size + 1)) := by
          refine ⟨_, _, rfl, hv, fun i hi => ?_⟩
          simp; omega
        obtain ⟨m1, m2⟩ := new_block hr.drew hB
        have m3 := Ext.trans (fun b g hb => (hr.lt hb).1) (Ext.drew s H w) m2
        rw [Nat.min_self] at m3
        refine ⟨_, _, _, hrun, ?_, m1, m3⟩
        refine ⟨_, _, rfl, hcsz.2, fun e => (by cases e), .inr ⟨w.heap.size, by simp, rfl, fun k hk => ?_⟩⟩
        injection hk with hk
        subst hk
        refine ⟨e, (Lib.bytesCells w e st).size, ?_, by rw [hcsz.1]; omega⟩
        have : (w.drew.alloc (.cells (Lib.bytesCells w e st) e ((Lib.bytesCells w e st).size, (Lib.bytesCells w e st).size + 1))).heap[w.heap.size]? = some (.cells (Lib.bytesCells w e st) e ((Lib.bytesCells w e st).size, (Lib.bytesCells w e st).size + 1)) := by
          show (w.heap.push _)[w.heap.size]? = _
          simp
        simp only [World.shape?, this]
      · cases h
    · cases h
  · rename_i e l c hu hd
    split at h
    · rename_i he
      injection h with h
      simp only [VH, VR] at hx
      subst hx
      exact same _ _ h.symm (run_convert_bytes_nil w src e hu he l c dst hd) rfl
    · cases h
  · rename_i e hu hd hno1 hno2
    split at h
    · rename_i he
      simp only [Option.bind_eq_bind, Option.bind_eq_some_iff] at h
      obtain ⟨n, hn, h⟩ := h
      split at h
      · rename_i b off len cap opn
        simp only [Option.bind_eq_some_iff] at h
        obtain ⟨c, hc, bs, hb, h⟩ := h
        injection h with h
        simp only [lenOfV, Option.some.injEq] at hn
        subst hn
        unfold cellsOf at hc
        simp only at hc
        split at hc
        · rename_i cs e' hg
          split at hc
          · rename_i hbd
            injection hc with hc
            subst hc
            obtain ⟨q, cap', rfl, g2, g3, hq⟩ := hx
            obtain ⟨g, h1, rfl, hop⟩ := hr.live hg (by simp) hq
            obtain ⟨arr0, fr, h2, h3, h4, h5⟩ := hr.cells hg h1
            have hh := take_holds (n := len * 1) (drop_holds (n := off) (block_holds h2 cs.length))
            simp only [Nat.zero_add] at hh
            exact same _ _ h.symm (bytes_of_cells hu he hd hb ((h3.drop off).take (len * 1)) hh (by simp; omega)) rfl
          · cases hc
        · cases hc
      · rename_i cells len
        simp only [Option.bind_eq_some_iff] at h
        obtain ⟨c, hc, bs, hb, h⟩ := h
        injection h with h
        simp only [lenOfV, Option.some.injEq] at hn
        subst hn
        unfold cellsOf at hc
        simp only at hc
        split at hc
        · rename_i hbd
          injection hc with hc
          subst hc
          obtain ⟨g, off, cap, cs, rfl, hl, hg, hv, ha⟩ := hx
          exact same _ _ h.symm (bytes_of_cells hu he hd hb (hv.take (len * 1)) (take_holds ha) (by simp; omega)) rfl
        · cases hc
      · injection h with h
        obtain ⟨a, rfl⟩ := hx
        obtain ⟨ab, ao, sp⟩ := a
        refine same _ _ h.symm ?_ rfl
        simp [convert, run_und hu, run_und hd, run_und he, Conv.bytesToString, loadCells, loadCellsFrom]
      · injection h with h
        obtain ⟨a, cap, rfl⟩ := hx
        refine same _ _ h.symm ?_ rfl
        simp [convert, run_und hu, run_und hd, run_und he, Conv.bytesToString, loadCells, loadCellsFrom]
      · cases h
    · cases h
  · cases h
end
end Go.Tw
