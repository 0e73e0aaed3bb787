/- A loop over a function: its record in the own heap and in the model's. No condition. -/
import Derived.Test.YtjlphacnmonfnaaGreatDoorTwSeq
import Derived.RangeFuncRecord
import Derived.RangeFuncNested
set_option linter.unusedVariables false
set_option linter.unusedSimpArgs false
namespace Go.Tw

section
variable {P : PH} {s s' : Nat → Option Nat} {H H' : Heap} {w w' : World} {lo : Nat}

theorem hide_alloc (hr : HR P s H w) (o : Obj) : HR P s H (w.alloc o) ∧ Ext H.n s H w s H (w.alloc o) := by
  have hold : ∀ y, y < w.heap.size → (w.alloc o).heap[y]? = w.heap[y]? := fun y hy => by
    show (w.heap.push o)[y]? = _
    rw [Array.getElem?_push, if_neg (by omega)]
  have E : Ext H.n s H w s H (w.alloc o) := by
    refine ⟨rfl, rfl, rfl, by simp, Nat.le_refl _, fun _ h => h, fun _ _ h => .inl h, fun g hg _ => hold g hg, fun _ _ h => .inl h, fun y x hx => ?_, fun _ _ _ => rfl, fun b h1 h2 => by omega⟩
    have hg : y < w.heap.size := by
      rcases Nat.lt_or_ge y w.heap.size with h' | h'
      · exact h'
      · simp [World.shape?, Array.getElem?_eq_none h'] at hx
    simp only [World.shape?] at hx ⊢
    rw [hold y hg]; exact hx
  exact ⟨⟨fun b g hb => by
    obtain ⟨B, q, h1, h2, h3⟩ := hr.dom b g hb
    exact ⟨B, q, h1, by rw [hold g (hr.lt hb).2]; exact h2, h3.mono E.grow⟩, hr.inj⟩, E⟩

theorem loop_get (hr : HR P s H w) {b l : Nat} {ts : List V} {ps : List Tmp} {as bd : Code} {st : LoopState} {pd : Option Code} (hb : H.get b = some (.loop ts ps as bd st pd)) (hl : Dead H b ∨ s b = some l) :
    s b = some l ∧ ∃ L : Loop, w.heap[l]? = some (.loop L) ∧ L.params = ps.toArray ∧ L.assign = as ∧ L.body = bd ∧ L.state = st ∧ L.pending = pd ∧ VHs P s H w ts L.tmps.toList := by
  have hs : s b = some l := by
    rcases hl with hl | hl
    · rw [Dead, hb] at hl; cases hl
    · exact hl
  obtain ⟨B, o, h1, h2, h3⟩ := hr.dom b l hs
  rw [hb] at h1
  injection h1 with h1
  subst h1
  obtain ⟨L, rfl, k⟩ := h3
  exact ⟨hs, L, h2, k⟩

theorem loop_set (hr : HR P s H w) {b l : Nat} (hs : s b = some l) {ts : List V} {ps : List Tmp} {as bd : Code} {st : LoopState} {pd : Option Code} {L : Loop} (hl : w.heap[l]? = some (.loop L)) (h1 : L.params = ps.toArray) (h2 : L.assign = as) (h3 : L.body = bd)
    (hv : VHs P s H w ts L.tmps.toList) (L' : Loop) (e1 : L'.params = L.params) (e2 : L'.assign = L.assign) (e3 : L'.body = L.body) (e4 : L'.tmps = L.tmps) (e5 : L'.state = st) (e6 : L'.pending = pd) :
    HR P s (H.set b (.loop ts ps as bd st pd)) (w.putObj l (.loop L')) ∧ Ext b s H w s (H.set b (.loop ts ps as bd st pd)) (w.putObj l (.loop L')) := by
  refine write_block hr hs hl ⟨L', rfl, by rw [e1, h1], by rw [e2, h2], by rw [e3, h3], e5, e6, by rw [e4]; exact hv⟩ fun x hx => ?_
  simp only [World.shape?, hl] at hx
  cases hx

theorem zip_tm {nt : Nat} : ∀ (ps : List Tmp) (vs : List V) (cs : List Value) (T : Tr V) (tmps : Array Value), VHs P s H w vs cs → tmps.size = nt → (∀ t, VH P s H w (tget T t) (tmps.getD t undef)) → (∀ p ∈ ps, p < nt) → ps.length = vs.length →
    let tmps' := (ps.zip cs).foldl (fun (tmps : Array Value) (x : Tmp × Value) => tmps.setIfInBounds x.1 x.2) tmps
    tmps'.size = nt ∧ ∀ t, VH P s H w (tget (setZip ps vs T) t) (tmps'.getD t undef)
  | [], vs, cs, T, tmps, hv, hs, ht, hp, hl => ⟨hs, by simpa [setZip] using ht⟩
  | p :: ps, [], cs, T, tmps, hv, hs, ht, hp, hl => by simp at hl
  | p :: ps, v :: vs, cs, T, tmps, hv, hs, ht, hp, hl => by
    obtain ⟨c, cs', rfl, h1, h2⟩ := hv
    simp only [List.zip_cons_cons, List.foldl_cons, setZip]
    refine zip_tm ps vs cs' (tset T p v) _ h2 (by simp [hs]) (fun t => ?_) (fun q hq => hp q (.tail _ hq)) (by simpa using hl)
    rw [tget_tset, Array.getD_eq_getD_getElem?, Array.getElem?_setIfInBounds]
    have hpn := hp p (.head _)
    by_cases e : p = t
    · subst e
      simp [hs, hpn]
      exact h1
    · rw [if_neg (fun h => e h.symm), if_neg e, ← Array.getD_eq_getD_getElem?]
      exact ht t

theorem snap_tm {nt : Nat} {T : Tr V} {tmps : Array Value} (hs : tmps.size = nt) (ht : ∀ t, VH P s H w (tget T t) (tmps.getD t undef)) : VHs P s H w ((List.range nt).map (tget T)) tmps.toList := by
  refine VRs.mk (by simp [hs]) fun i v c hv hc => ?_
  simp only [List.getElem?_map] at hv
  have hi : i < nt := by
    have := (List.getElem?_eq_some_iff.1 hc).1
    simpa [hs] using this
  rw [List.getElem?_range hi] at hv
  simp only [Option.map_some, Option.some.injEq] at hv
  subst hv
  have := ht i
  rw [Array.getD_eq_getD_getElem?] at this
  have e : tmps[i]? = some c := by simpa using hc
  rw [e] at this
  exact this
end
end Go.Tw
