/- An operation that calls nothing does in the model what it does on the own heap. No condition. -/
import Derived.Test.YtjlphacnmonfnaaGreatDoorTwMap2
set_option linter.unusedVariables false
set_option linter.unusedSimpArgs false
namespace Go.Tw

section
variable {P : PH} {s : Nat → Option Nat} {H : Heap} {w : World}

theorem ValOK.op {res : OR} {m : Sem Value} (h : ValOK P s H w res (m.run P w)) : OpOK P s H w res ((do pure (.value (← m)) : Sem Next).run P w) := by
  obtain ⟨s', c, w', h1, h2, h3, h4⟩ := h
  exact ⟨s', c, w', .inl (by simp [h1]), h2, h3, h4⟩

theorem UnitOK.op {res : OR} {m : Sem Unit} (h : UnitOK P s H w res (m.run P w)) : OpOK P s H w res ((do m; pure .skip : Sem Next).run P w) := by
  obtain ⟨h0, s', w', h1, h3, h4⟩ := h
  refine ⟨s', undef, w', .inr ⟨by simp [h1], rfl⟩, ?_, h3, h4⟩
  rw [h0]
  exact ⟨#[], rfl, by simp [VRs]⟩

theorem VRs.ofMap {r : Operand → V} {e : Operand → Value} {d pr} (hre : ∀ x, VR (szP P) s d pr w (r x) (e x)) : ∀ (l : List Operand), VRs (szP P) s d pr w (l.map r) (l.map e)
  | [] => by simp [VRs]
  | x :: l => ⟨_, _, rfl, hre x, VRs.ofMap hre l⟩

theorem args1 {ps : Array Operand} {e : Operand → Value} {x : Operand} (h : ps[0]? = some x) : ∃ l, (ps.map e) = (e x :: l).toArray ∧ ∃ q, ps = (x :: q).toArray ∧ l = q.map e := by
  obtain ⟨ps⟩ := ps
  cases ps with
  | nil => simp at h
  | cons a t =>
    simp at h
    subst h
    exact ⟨t.map e, by simp, t, rfl, rfl⟩

theorem opV_ok (hr : HR P s H w) {r : Operand → V} {e : Operand → Value} (hre : ∀ x, VH P s H w (r x) (e x)) {o : Oper} {res : OR} (h : opV P r H o.op = some res) : OpOK P s H w res ((execOp e o).run P w) := by
  have one : ∀ v c, res = ⟨v, H, H.n⟩ → (execOp e o).run P w = .ok (.value c) w → VH P s H w v c → OpOK P s H w res ((execOp e o).run P w) := by
    intro v c e1 h1 h2
    subst e1
    exact ⟨s, c, w, .inl h1, h2, hr, Ext.refl s H w⟩
  obtain ⟨dst, op, type, pos, after, guard⟩ := o
  simp only at h
  cases op <;> simp only [opV] at h <;> (try (cases h; done))
  case move x => simp only [keep, Option.map_some, Option.some.injEq] at h; exact one _ _ h.symm rfl (hre x)
  case assign x => simp only [keep, Option.map_some, Option.some.injEq] at h; exact one _ _ h.symm rfl (hre x)
  case pick c a b =>
    split at h
    · rename_i t ht
      simp only [keep, Option.map_some, Option.some.injEq] at h
      have hc := hre c
      rw [ht] at hc
      simp only [VH, VR] at hc
      refine one _ (if t then e a else e b) h.symm (by simp [execOp, hc, asBool]) ?_
      cases t
      · exact hre b
      · exact hre a
    · cases h
  case alloc t => exact (alloc_ok hr h).op
  case box t x => exact (box_ok hr h (hre x)).op
  case build t ps =>
    have hp : PRs P s (Dead H) (Prot P s w) w (ps.toList.map fun p => (p.1, r p.2)) (ps.toList.map fun p => (p.1, e p.2)) := PRs.map hre ps.toList
    have := keep_ok (m := Instr.build t (ps.toList.map fun p => (p.1, e p.2)).toArray) hr h fun v hv => build_ok hv hp
    have e1 : (ps.toList.map fun p => (p.1, e p.2)).toArray = ps.map fun (i, x) => (i, e x) := by
      apply Array.toList_inj.1; simp
    rw [e1] at this
    exact this.op
  case buildSlice t len ps =>
    have hp : PRs P s (Dead H) (Prot P s w) w (ps.toList.map fun p => (p.1, r p.2)) (ps.toList.map fun p => (p.1, e p.2)) := PRs.map hre ps.toList
    have := buildSlice_ok hr h hp
    have e1 : (ps.toList.map fun p => (p.1, e p.2)).toArray = ps.map fun (i, x) => (i, e x) := by
      apply Array.toList_inj.1; simp
    rw [e1] at this
    exact this.op
  case load t a => exact (keep_ok hr h fun v hv => load_ok hr hv (hre a)).op
  case store t a x => exact (store_ok hr h (hre a) (hre x)).op
  case nilCheck x =>
    obtain ⟨v, hv, h⟩ := Option.map_eq_some_iff.1 h
    obtain ⟨h1, rfl⟩ := nilCheckP_ok hv (hre x)
    exact one _ _ h.symm h1 (hre x)
  case binOp op t x y yt =>
    obtain ⟨v, hv, h⟩ := Option.map_eq_some_iff.1 h
    obtain ⟨c, h1, h2, h3⟩ := bin_ok hv (hre x) (hre y) x y
    exact one _ c h.symm (by simp [execOp, h1, h2]) h3
  case unOp op t x => exact (keep_ok hr h fun v hv => un_ok hv (hre x)).op
  case convert src dst' x => exact (convert_ok hr h (hre x)).op
  case makeInterface t x =>
    split at h
    · cases h
    · rename_i u hni hu
      simp only [keep, Option.map_some, Option.some.injEq] at h
      refine one _ (.iface t (e x)) h.symm ?_ ⟨_, rfl, hre x⟩
      simp only [execOp, Instr.makeInterface, Sem.run_bind, run_und hu, Result.andThen_ok]
      cases u <;> first
        | (exact absurd rfl (hni _))
        | rfl
    · cases h
  case makeFunc f a b =>
    simp only [keep, Option.map_some, Option.some.injEq] at h
    refine one _ (.func f (a.map e) (b.map e)) h.symm (by simp [execOp, Instr.makeFunc]) ⟨_, _, rfl, ?_, ?_⟩
    · simpa using VRs.ofMap hre a.toList
    · simpa using VRs.ofMap hre b.toList
  case makeMap t rr =>
    cases rr with
    | none =>
      simp only [Option.some.injEq] at h
      subst h
      exact (makeMap_ok hr t).op
    | some x => cases h
  case makeSlice t l c => exact (makeSlice_ok hr h (hre l) (hre c)).op
  case slice t x l hh m => exact (keep_ok hr h fun v hv => slice_ok hv (hre x) (OVR.map hre l) (OVR.map hre hh) (OVR.map hre m)).op
  case fieldAddr t x f => exact (keep_ok hr h fun v hv => fieldAddr_ok hv (hre x)).op
  case field t x f => exact (keep_ok hr h fun v hv => field_ok hv (hre x)).op
  case indexAddr t x i => exact (keep_ok hr h fun v hv => indexAddr_ok hv (hre x) (hre i)).op
  case index t x i => exact (keep_ok hr h fun v hv => index_ok hv (hre x) (hre i)).op
  case lookup t m k ok => exact (keep_ok hr h fun v hv => lookup_ok hr hv (hre m) (hre k)).op
  case mapUpdate t m k v => exact (mapUpdate_ok hr h (hre m) (hre k) (hre v)).op
  case insert t m k v => exact (mapUpdate_ok hr h (hre m) (hre k) (hre v)).op
  case mapEntry t m k => exact (mapEntryC_ok hr h (hre m) (hre k)).op
  case entryStore t m st v => exact (entryStore_ok hr h (hre m) (hre st) (hre v)).op
  case typeAssert x t t' ok => exact (keep_ok hr h fun v hv => typeAssert_ok hv (hre x)).op
  case extract x i => exact (keep_ok hr h fun v hv => extract_ok hv (hre x)).op
  case call c =>
    obtain ⟨callee, args, ats⟩ := c
    simp only at h
    have run1 : ∀ b, (execOp e ⟨dst, .call ⟨.builtin b, args, ats⟩, type, pos, after, guard⟩) = (do
        let d ← (pure { target := .builtin b ats type (args.map fun | .const _ => true | _ => false), args := args.map e } : Sem Deferred)
        invoke d.target d.args) := fun b => rfl
    split at h
    · split at h
      · rename_i t x ht hx
        obtain ⟨l, el, q, rfl, rfl⟩ := args1 (e := e) hx
        obtain ⟨v, hv, h⟩ := Option.map_eq_some_iff.1 h
        obtain ⟨c, h1, h2⟩ := lenMap_ok (ty := type) hr hv (hre x) ats ht
        refine one v c h.symm ?_ h2
        rw [run1]
        simp only [Sem.run_bind, Sem.run_pure, Result.andThen_ok, invoke, builtin, el]
        have e2 : (Builtin.len_ ats type (e x :: q.map e).toArray).run P w = (Builtin.len_ ats type #[e x]).run P w := by
          simp [Builtin.len_]
        rw [e2, h1]
        rfl
      · cases h
    · split at h
      · rename_i t x ht hx
        obtain ⟨l, el, q, rfl, rfl⟩ := args1 (e := e) hx
        obtain ⟨v, hv, h⟩ := Option.map_eq_some_iff.1 h
        obtain ⟨c, h1, h2⟩ := cap_ok (ty := type) hv (hre x) ats ht
        refine one v c h.symm ?_ h2
        rw [run1]
        simp only [Sem.run_bind, Sem.run_pure, Result.andThen_ok, invoke, builtin, el]
        have e2 : (Builtin.cap_ ats type (e x :: q.map e).toArray).run P w = (Builtin.cap_ ats type #[e x]).run P w := by
          simp [Builtin.cap_]
        rw [e2, h1]
        rfl
      · cases h
    · split at h
      · rename_i x rest hx
        obtain ⟨v, hv, h⟩ := Option.map_eq_some_iff.1 h
        have hl := VRs.ofMap hre args.toList
        rw [hx] at hl
        obtain ⟨c0, cs, ec, hc0, hcs⟩ := hl
        obtain ⟨c, h1, h2⟩ := fold_ok (g := Builtin.max2) (fun x y v cx cy => max2_ok) rest cs x v c0 hv hc0 hcs
        refine one v c h.symm ?_ h2
        rw [run1]
        have e2 : (args.map e).toList = c0 :: cs := by simpa using ec
        simp only [Sem.run_bind, Sem.run_pure, Result.andThen_ok, invoke, builtin, Builtin.max_, e2, h1]
      · cases h
    · split at h
      · rename_i x rest hx
        obtain ⟨v, hv, h⟩ := Option.map_eq_some_iff.1 h
        have hl := VRs.ofMap hre args.toList
        rw [hx] at hl
        obtain ⟨c0, cs, ec, hc0, hcs⟩ := hl
        obtain ⟨c, h1, h2⟩ := fold_ok (g := Builtin.min2) (fun x y v cx cy => min2_ok) rest cs x v c0 hv hc0 hcs
        refine one v c h.symm ?_ h2
        rw [run1]
        have e2 : (args.map e).toList = c0 :: cs := by simpa using ec
        simp only [Sem.run_bind, Sem.run_pure, Result.andThen_ok, invoke, builtin, Builtin.min_, e2, h1]
      · cases h
    · split at h
      · rename_i t0 t1 x y h0 h1 hx hy
        have := append_ok (ty := type) hr h (hre x) (hre y)
        have key : (Builtin.append_ ats type (args.map e)).run P w = (Builtin.append_ #[t0, t1] type #[e x, e y]).run P w := by
          simp [Builtin.append_, h0, h1, hx, hy]
        rw [run1]
        have h2 := this.op
        rw [← key] at this
        exact this.op
      · cases h
    · split at h
      · rename_i t0 x y h0 hx hy
        have := copy_ok (ty := type) hr h (hre x) (hre y) ats h0
        have key : (Builtin.copy_ ats type (args.map e)).run P w = (Builtin.copy_ ats type #[e x, e y]).run P w := by
          simp [Builtin.copy_, hx, hy]
        rw [run1]
        rw [← key] at this
        exact this.op
      · cases h
    · split at h
      · rename_i t0 x h0 hx
        have := clear_ok (ty := type) hr h (hre x) ats h0
        have key : (Builtin.clear_ ats type (args.map e)).run P w = (Builtin.clear_ ats type #[e x]).run P w := by
          simp [Builtin.clear_, hx]
        rw [run1]
        rw [← key] at this
        exact this.op
      · cases h
    · cases h
end
end Go.Tw
