/- Cuts, and the operations that look into memory, do in the model what they do on own values. No condition. -/
import Derived.Test.YtjlphacnmonfnaaGreatDoorTwPure3
set_option linter.unusedVariables false
set_option linter.unusedSimpArgs false
namespace Go.Tw

section
variable {P : Program} {s : Nat → Option Nat} {d : Nat → Prop} {pr : Nat → Prop} {w : World}

def OVR (P : Program) (s : Nat → Option Nat) (d : Nat → Prop) (pr : Nat → Prop) (w : World) : Option V → Option Value → Prop
  | none, c => c = none
  | some v, c => ∃ x, c = some x ∧ VR (szP P) s d pr w v x

theorem OVR.map {r : Operand → V} {e : Operand → Value} (hr : ∀ x, VR (szP P) s d pr w (r x) (e x)) (o : Option Operand) : OVR P s d pr w (o.map r) (o.map e) := by
  cases o with
  | none => rfl
  | some x => exact ⟨_, rfl, hr x⟩

theorem bound_ok {v : V} {y y' n : Nat} {c : Value} (h : bound? v y = some n) (hv : VR (szP P) s d pr w v c) (hy : y ≤ y') (code : BoundsCode) : (Instr.sliceBound c y' code).run P w = .ok n w ∧ n ≤ y := by
  unfold bound? at h
  split at h
  · split at h
    · rename_i k i hb
      injection h with h
      subst h
      simp only [VR] at hv
      subst hv
      refine ⟨?_, by omega⟩
      have : 0 ≤ i ∧ i ≤ (y' : Int) := by omega
      simp [Instr.sliceBound, asIntOf, this]
    · cases h
  · cases h

theorem bounds_ok {len cap cap' l h m : Nat} {lo hi mx : Option V} {clo chi cmx : Option Value} (hb : bounds? len cap lo hi mx = some (l, h, m))
    (h1 : OVR P s d pr w lo clo) (h2 : OVR P s d pr w hi chi) (h3 : OVR P s d pr w mx cmx) (hc : cap ≤ cap') (b : Bool) :
    (Instr.sliceBounds b len cap' clo chi cmx).run P w = .ok (l, h, if mx.isSome then m else cap') w ∧ l ≤ h ∧ (mx = none → m = cap) ∧ (mx.isSome = true → m ≤ cap ∧ h ≤ m) ∧ (hi = none → h = len) ∧ (hi.isSome = true → h ≤ cap) := by
  simp only [bounds?, Option.bind_eq_some_iff] at hb
  obtain ⟨m1, hm, hh, hh1, ll, hl, hb⟩ := hb
  injection hb with hb
  simp only [Prod.mk.injEq] at hb
  obtain ⟨rfl, rfl, rfl⟩ := hb
  cases mx with
  | none =>
    simp only [OVR] at h3
    subst h3
    simp only [maxB, Option.some.injEq] at hm
    subst hm
    cases hi with
    | none =>
      simp only [OVR] at h2
      subst h2
      simp only [highB, Option.some.injEq] at hh1
      subst hh1
      cases lo with
      | none =>
        simp only [OVR] at h1
        subst h1
        simp only [lowB, Option.some.injEq] at hl
        subst hl
        simp [Instr.sliceBounds]
      | some v =>
        obtain ⟨c, rfl, h1⟩ := h1
        obtain ⟨e1, e2⟩ := bound_ok (w := w) hl h1 (Nat.le_refl _) .sliceB
        simp [Instr.sliceBounds, e1, e2]
    | some u =>
      obtain ⟨cu, rfl, h2⟩ := h2
      obtain ⟨e3, e4⟩ := bound_ok (w := w) hh1 h2 hc (if b then .sliceAcap else .sliceAlen)
      cases lo with
      | none =>
        simp only [OVR] at h1
        subst h1
        simp only [lowB, Option.some.injEq] at hl
        subst hl
        simp [Instr.sliceBounds, e3, e4]
      | some v =>
        obtain ⟨c, rfl, h1⟩ := h1
        obtain ⟨e1, e2⟩ := bound_ok (w := w) hl h1 (Nat.le_refl _) .sliceB
        simp [Instr.sliceBounds, e1, e2, e3, e4]
  | some mv =>
    obtain ⟨cm, rfl, h3⟩ := h3
    simp only [maxB] at hm
    obtain ⟨e5, e6⟩ := bound_ok (w := w) hm h3 hc (if b then .slice3Acap else .slice3Alen)
    cases hi with
    | none => simp [highB] at hh1
    | some u =>
      obtain ⟨cu, rfl, h2⟩ := h2
      simp only [highB] at hh1
      obtain ⟨e3, e4⟩ := bound_ok (w := w) hh1 h2 (Nat.le_refl _) .slice3B
      cases lo with
      | none =>
        simp only [OVR] at h1
        subst h1
        simp only [lowB, Option.some.injEq] at hl
        subst hl
        simp [Instr.sliceBounds, e3, e4, e5, e6]
        omega
      | some v =>
        obtain ⟨c, rfl, h1⟩ := h1
        obtain ⟨e1, e2⟩ := bound_ok (w := w) hl h1 (Nat.le_refl _) .slice3C
        simp [Instr.sliceBounds, e1, e2, e3, e4, e5, e6]
        omega

theorem slice_run {t elem : TypeId} {a : Option Addr} {len cap sz : Nat} {clo chi cmx : Option Value} {b : Nat × Nat × Nat} (hu : P.underlying t = some (.slice elem)) (hsz : size? P elem = some sz)
    (hb : (Instr.sliceBounds true len cap clo chi cmx).run P w = .ok b w) : (Instr.sliceAt t (.slice a len cap) clo chi cmx).run P w = .ok (.slice (if b.2.2 = b.1 then a else a.map (·.add (b.1 * sz))) (b.2.1 - b.1) (b.2.2 - b.1)) w := by
  simp only [Instr.sliceAt, Instr.slice, Sem.run_bind, run_und hu, Result.andThen_ok, hb, run_sz hsz, Sem.run_pure]

theorem slice_ok {t : TypeId} {x v : V} {lo hi mx : Option V} {cx : Value} {clo chi cmx : Option Value} (h : sliceV P t x lo hi mx = some v) (hx : VR (szP P) s d pr w x cx)
    (h1 : OVR P s d pr w lo clo) (h2 : OVR P s d pr w hi chi) (h3 : OVR P s d pr w mx cmx) : ∃ c, (Instr.sliceAt t cx clo chi cmx).run P w = .ok c w ∧ VR (szP P) s d pr w v c := by
  unfold sliceV at h
  split at h
  · rename_i n elem hu
    simp only [Option.bind_eq_bind, Option.bind_eq_some_iff] at h
    obtain ⟨⟨l, hh, m⟩, hb, sz, hsz, h⟩ := h
    obtain ⟨hr, f1, f2, f3, f4, f5⟩ := bounds_ok (w := w) hb h1 h2 h3 (Nat.le_refl n) false
    have hm : (if mx.isSome = true then m else n) = m := by
      cases mx with
      | none => simp [f2 rfl]
      | some _ => rfl
    rw [hm] at hr
    simp only at h
    split at h
    · rename_i b off
      injection h with h; subst h
      obtain ⟨q, rfl, hq⟩ := hx
      refine ⟨.slice (some (if m = l then q else q.add (l * sz))) (hh - l) (m - l), by simp [Instr.sliceAt, run_und hu, Instr.sureAddr, hr, run_sz hsz], _, _, rfl, Nat.le_refl _, fun _ => rfl, ?_⟩
      rcases hq with hq | ⟨g, e1, rfl⟩
      · exact .inl hq
      · refine .inr ⟨g, e1, ?_, fun k e => by cases e⟩
        split <;> simp [add_eq]
    · rename_i cells
      obtain ⟨g, off, cs, rfl, hg, hc, ha⟩ := hx
      split at h
      · rename_i e
        injection h with h; subst h
        have hhl : hh = l := by
          cases mx with
          | none =>
            cases hi with
            | none => have := f4 rfl; have := f2 rfl; omega
            | some _ => have := f5 rfl; have := f2 rfl; omega
          | some _ => have := (f3 rfl).2; omega
        subst e; subst hhl
        exact ⟨.slice (some ⟨g, off, none⟩) 0 0, by simp [Instr.sliceAt, run_und hu, Instr.sureAddr, hr, run_sz hsz], ⟨g, off, none⟩, by simp⟩
      · rename_i e
        injection h with h; subst h
        have hml : hh ≤ m := by
          cases mx with
          | none =>
            cases hi with
            | none => have := f4 rfl; have := f2 rfl; omega
            | some _ => have := f5 rfl; have := f2 rfl; omega
          | some _ => exact (f3 rfl).2
        exact ⟨.slice (some (Addr.add ⟨g, off, none⟩ (l * sz))) (hh - l) (m - l), by simp [Instr.sliceAt, run_und hu, Instr.sureAddr, hr, run_sz hsz, e], g, off + l * sz, m - l, _, by rw [add_eq], by omega, hg, hc.drop (l * sz), drop_holds ha⟩
    · cases h
  · rename_i hu
    split at h
    · rename_i st
      simp only [VR] at hx
      subst hx
      split at h
      · cases h
      · rename_i hn
        simp only [Option.bind_eq_bind, Option.bind_eq_some_iff] at h
        obtain ⟨⟨l, hh, m⟩, hb, h⟩ := h
        injection h with h; subst h
        have h3' : OVR P s d pr w none none := rfl
        obtain ⟨hr, _⟩ := bounds_ok (w := w) hb h1 h2 h3' (Nat.le_refl st.size) false
        have hcm : cmx = none := by
          cases mx with
          | none => exact h3
          | some _ => simp at hn
        subst hcm
        exact ⟨.string (st.extract l hh), by simp [Instr.sliceAt, Instr.slice, run_und hu, hr], rfl⟩
    · cases h
  · rename_i elem hu
    simp only [Option.bind_eq_bind, Option.bind_eq_some_iff] at h
    obtain ⟨sz, hsz, h⟩ := h
    split at h
    · obtain ⟨⟨l, hh, m⟩, hb, h⟩ := Option.bind_eq_some_iff.1 h
      injection h with h; subst h
      simp only [VR] at hx
      subst hx
      obtain ⟨hr, f1, f2, f3, f4, f5⟩ := bounds_ok (w := w) hb h1 h2 h3 (Nat.le_refl 0) true
      refine ⟨_, slice_run hu hsz hr, ?_⟩
      have hh0 : hh = 0 := by
        cases hi with
        | none => exact f4 rfl
        | some _ => have := f5 rfl; omega
      have hm0 : (if mx.isSome = true then m else 0) = 0 := by
        cases mx with
        | none => rfl
        | some _ => have := (f3 rfl).1; simp; omega
      have hl0 : l = 0 := by omega
      simp [hm0, hl0, hh0, VR]
    · obtain ⟨⟨l, hh, m⟩, hb, h⟩ := Option.bind_eq_some_iff.1 h
      injection h with h; subst h
      obtain ⟨a, rfl⟩ := hx
      obtain ⟨hr, f1, f2, f3, f4, f5⟩ := bounds_ok (w := w) hb h1 h2 h3 (Nat.le_refl 0) true
      refine ⟨_, slice_run hu hsz hr, ?_⟩
      have hh0 : hh = 0 := by
        cases hi with
        | none => exact f4 rfl
        | some _ => have := f5 rfl; omega
      have hm0 : (if mx.isSome = true then m else 0) = 0 := by
        cases mx with
        | none => rfl
        | some _ => have := (f3 rfl).1; simp; omega
      have hl0 : l = 0 := by omega
      simp [hm0, hl0, hh0, VR]
    · obtain ⟨⟨l, hh, m⟩, hb, h⟩ := Option.bind_eq_some_iff.1 h
      injection h with h; subst h
      obtain ⟨a, cap', rfl⟩ := hx
      obtain ⟨hr, f1, f2, f3, f4, f5⟩ := bounds_ok (w := w) hb h1 h2 h3 (Nat.zero_le cap') true
      refine ⟨_, slice_run hu hsz hr, ?_⟩
      have hh0 : hh = 0 := by
        cases hi with
        | none => exact f4 rfl
        | some _ => have := f5 rfl; omega
      have hl0 : l = 0 := by omega
      subst hl0; subst hh0
      cases mx with
      | none =>
        simp only [Option.isSome_none, Bool.false_eq_true, if_false, VR]
        by_cases e : cap' = 0
        · exact ⟨a, cap', by simp [e]⟩
        · exact ⟨a.add (0 * sz), cap', by simp [e]⟩
      | some _ =>
        have hm0 : m = 0 := by have := (f3 rfl).1; omega
        simp [VR, hm0]
    · rename_i b off len cap opn
      obtain ⟨⟨l, hh, m⟩, hb, h6⟩ := Option.bind_eq_some_iff.1 h
      clear h
      rename _ => h
      obtain ⟨q, cap', rfl, g2, g3, hq⟩ := hx
      obtain ⟨hr, f1, f2, f3, f4, f5⟩ := bounds_ok (w := w) hb h1 h2 h3 g2 true
      refine ⟨_, slice_run hu hsz hr, ?_⟩
      simp only [cutSl] at h
      split at h
      · cases h
      rename_i hlc
      split at h
      · rename_i hc
        injection h with h; subst h
        have hm : (if mx.isSome = true then m else cap') = m := by
          cases mx with
          | none =>
            have : opn = none := by simpa using hc
            have := g3 this
            have := f2 rfl
            simp; omega
          | some _ => rfl
        simp only [hm]
        refine ⟨if m = l then q else q.add (l * sz), m - l, by split <;> simp, Nat.le_refl _, fun _ => rfl, ?_⟩
        rcases hq with hq | ⟨g, e1, rfl, _⟩
        · exact .inl hq
        · refine .inr ⟨g, e1, ?_, fun k e => by cases e⟩
          split <;> simp [add_eq]
      · rename_i hc
        have hmx : mx = none := by
          cases mx with
          | none => rfl
          | some _ => simp at hc
        subst hmx
        have hmc := f2 rfl
        subst hmc
        simp only [Option.isSome_none, Bool.false_eq_true, if_false]
        have hhc : hh ≤ m := by
          cases hi with
          | none => have := f4 rfl; omega
          | some _ => exact f5 rfl
        split at h
        · rename_i e
          injection h with h; subst h
          subst e
          have hh0 : hh - m = 0 := by omega
          rw [hh0]
          by_cases e : cap' = m
          · exact ⟨q, cap' - m, by simp [e]⟩
          · exact ⟨q.add (m * sz), cap' - m, by simp [e]⟩
        · rename_i e
          split at h
          · rename_i eo
            injection h with h; subst h
            subst eo
            have hlm : l < m := by omega
            have hne : ¬ cap' = l := by omega
            refine ⟨q.add (l * sz), cap' - l, by simp [hne], by omega, fun e => by (cases e), ?_⟩
            rcases hq with hq | ⟨g, e1, rfl, e4⟩
            · exact .inl hq
            · refine .inr ⟨g, e1, add_eq .., fun k hk => ?_⟩
              injection hk with hk
              subst hk
              obtain ⟨el, n, hn, hle⟩ := e4 sz rfl
              refine ⟨el, n, hn, ?_⟩
              have : l * sz + (cap' - l) * sz = cap' * sz := by rw [← Nat.add_mul]; congr 1; omega
              omega
          · cases h
    · rename_i cells len
      obtain ⟨⟨l, hh, m⟩, hb, h⟩ := Option.bind_eq_some_iff.1 h
      obtain ⟨g, off, cap, cs, rfl, hl, hg, hc, ha⟩ := hx
      obtain ⟨hr, f1, f2, f3, f4, f5⟩ := bounds_ok (w := w) hb h1 h2 h3 hl true
      refine ⟨_, slice_run hu hsz hr, ?_⟩
      have hhm : hh ≤ (if mx.isSome = true then m else cap) := by
        cases mx with
        | none =>
          simp only [Option.isSome_none, Bool.false_eq_true, if_false]
          cases hi with
          | none => have := f4 rfl; omega
          | some _ => have := f5 rfl; omega
        | some _ => simpa using (f3 rfl).2
      simp only at h
      split at h
      · rename_i e
        injection h with h; subst h
        simp only [Bool.and_eq_true, decide_eq_true_eq] at e
        obtain ⟨e1, e2⟩ := e
        simp only [e1, if_true] at hhm ⊢
        subst e2
        have : hh = m := by omega
        subst this
        exact ⟨⟨g, off, none⟩, by simp⟩
      · rename_i e
        injection h with h; subst h
        generalize hk : (if mx.isSome = true then m else cap) = k at hhm ⊢
        by_cases hkl : k = l
        · have hhl : hh - l = 0 := by omega
          exact ⟨g, off, k - l, [], by simp [hkl], by omega, hg, by simp [hhl, VRs], fun i c hi => by simp at hi⟩
        · exact ⟨g, off + l * sz, k - l, _, by simp [hkl, add_eq], by omega, hg, (hc.drop (l * sz)).take ((hh - l) * sz), take_holds (drop_holds ha)⟩
    · cases h
  · cases h
end
end Go.Tw
