/- A region that draws its order: one more operation. No condition. -/
import Derived.Test.YteifcnkjjigddaaGreatDoorTwReg3
set_option linter.unusedVariables false
set_option linter.unusedSimpArgs false
namespace Go.Tw

section
variable {C : Ctx} {h : Nat → Prop} {nt : Nat} {ro wro : Option Nat} {o : Orig} {ops : Array Oper} {f : Nat → St} {r : Nat → OR} {e : Nat → Eff} {b : Nat → Bool} {cv : Nat → V → List V → Heap → Option OR} {s0 : Nat → Option Nat} {w0 : World} {a0 : Act}
variable {S : Nat → Bool} {HS : Heap} {σ : Nat → Option Nat} {T : Tr V} {w : World} {a : Act} {i : Nat} {x : Oper} {K : Act → World → Prop} {Q : Exit → Act → World → Prop}

theorem Env.n0 (E : Env C h nt ro wro o ops f r e b cv s0 w0 a0) (M : Mid C h nt ro wro o ops f r s0 w0 S HS σ T w a) : (f 0).H.n ≤ HS.n ∧ (f ops.size).lo ≤ (f 0).H.n := by
  have h1 := E.mono (Nat.zero_le ops.size) (Nat.le_refl _)
  have h2 := (E.lo ops.size (Nat.le_refl _)).1
  have h3 := E.R.ln
  have h4 := E.R.ext.hn
  exact ⟨M.nn ▸ h1, by omega⟩

theorem Mid.direct (E : Env C h nt ro wro o ops f r e b cv s0 w0 a0) (M : Mid C h nt ro wro o ops f r s0 w0 S HS σ T w a) (N : Next ops S i x) {HS' : Heap} {l : Nat}
    (h1 : rsV C.P (cv i) (rho C T) HS x.op = some ⟨(r i).v, HS', l⟩) (hn : HS'.n = HS.n) (hl : (f ops.size).lo ≤ l) (nb : (f (i + 1)).H.n = (f i).H.n)
    (cont : ∀ c, c < HS'.n → ∃ m, m ≤ ops.size ∧ c < (f m).H.n ∧ HS'.get c = (f m).H.get c ∧ ∀ j, j < ops.size → Wr f j c → (addS S i j = true ↔ j < m))
    (unw : ∀ k, k < ops.size → k ≠ i → S k = false → ∀ c, (f k).H.n ≤ c → c < (f (k + 1)).H.n → ¬ Wr f i c)
    (hK : ∀ HS' σ' T' w' a', Mid C h nt ro wro o ops f r s0 w0 (addS S i) HS' σ' T' w' a' → K a' w') : x.wpIn (WF wro) 0 C.P a w K Q := by
  refine (E.step N.hx).op h wro σ HS w (rho C T) x _ a K Q M.hr M.gk (fun y _ => rho_ok M.gk M.tm y) h1 fun c w' σ' hv hr ex => ?_
  refine hK _ _ _ _ _ (M.next E N hr hv (Pc.ofExt ex hl (E.n0 M).1) hn cont (fun k hk hne hS c g h1 h2 hg => ?_) (fun c h1 h2 => by omega) unw)
  rcases ex.fresh c g hg with h3 | ⟨h3, _⟩
  · exact M.unb k hk hS c g h1 h2 h3
  · have := E.mono (j := k + 1) (k := ops.size) hk (Nat.le_refl _)
    rw [← M.nn] at this
    omega

theorem Mid.same (E : Env C h nt ro wro o ops f r e b cv s0 w0 a0) (M : Mid C h nt ro wro o ops f r s0 w0 S HS σ T w a) (N : Next ops S i x) (hw : ∀ c, ¬ Wr f i c) :
    ∀ c, c < HS.n → ∃ m, m ≤ ops.size ∧ c < (f m).H.n ∧ HS.get c = (f m).H.get c ∧ ∀ j, j < ops.size → Wr f j c → (addS S i j = true ↔ j < m) := by
  intro c hc
  obtain ⟨m, h1, h2, h3, h4⟩ := M.cont c hc
  refine ⟨m, h1, h2, h3, fun j hj hwj => ?_⟩
  have : j ≠ i := fun e => hw c (e ▸ hwj)
  rw [addS_ne this]
  exact h4 j hj hwj

theorem Mid.quiet (E : Env C h nt ro wro o ops f r e b cv s0 w0 a0) (M : Mid C h nt ro wro o ops f r s0 w0 S HS σ T w a) (N : Next ops S i x) (hb : b i = true) (he : e i = .none ∨ ∃ c, e i = .rd c)
    (hK : ∀ HS' σ' T' w' a', Mid C h nt ro wro o ops f r s0 w0 (addS S i) HS' σ' T' w' a' → K a' w') : x.wpIn (WF wro) 0 C.P a w K Q := by
  have hi := N.lt
  have hw : ∀ c, ¬ Wr f i c := by
    intro c hc
    rcases E.writer hi hc with h1 | h1 <;> rcases he with h2 | ⟨c', h2⟩ <;> rw [h1] at h2 <;> cases h2
  have nb : (f (i + 1)).H.n = (f i).H.n := by rw [(E.hstep hi).2, E.noH hi he]
  have h0 := E.eff N.hx hb
  have h1 : rsV C.P (cv i) (rho C T) HS x.op = some ⟨(r i).v, HS, HS.n⟩ := by
    rw [rsV_congr x.op (rho_congr fun t ht => E.slot M N ht)]
    rcases he with he | ⟨c, he⟩ <;> rw [he] at h0
    · exact h0.2.2 HS
    · obtain ⟨_, _, h2, h3⟩ := h0
      refine h3 HS (E.seen M N ?_ ?_)
      · obtain ⟨B, hB⟩ := Option.isSome_iff_exists.1 h2
        exact Heap.get_lt hB
      · intro j hj hne hwj
        refine E.ordered N hj hne ?_
        rw [he]
        rcases E.writer hj hwj with h4 | h4 <;> rw [h4]
        · exact beqt rfl
        · rfl
  exact M.direct E N h1 rfl (by have := E.n0 M; omega) nb (M.same E N hw) (fun _ _ _ _ c _ _ => hw c) hK

theorem Mid.skip (E : Env C h nt ro wro o ops f r e b cv s0 w0 a0) (M : Mid C h nt ro wro o ops f r s0 w0 S HS σ T w a) (N : Next ops S i x) (hb : b i = false) :
    Mid C h nt ro wro o ops f r s0 w0 (addS S i) HS σ (putV T x.dst (r i).v) w (a.put x.dst undef) := by
  have hi := N.lt
  obtain ⟨h1, h2, h3⟩ := (E.step N.hx).no hb
  have hw : ∀ c, ¬ Wr f i c := by
    intro c hc
    rcases E.writer hi hc with h4 | h4 <;> rw [h2] at h4 <;> cases h4
  have nb : (f (i + 1)).H.n = (f i).H.n := by rw [h3]
  exact M.next E N M.hr (by rw [h1]; exact ⟨#[], rfl, by simp [VRs]⟩) (Pc.refl _ _ _ _ _) rfl (M.same E N hw) (fun k hk _ hS c g => M.unb k hk hS c g) (fun c h1 h2 => by omega) (fun _ _ _ _ c _ _ => hw c)

theorem Mid.write (E : Env C h nt ro wro o ops f r e b cv s0 w0 a0) (M : Mid C h nt ro wro o ops f r s0 w0 S HS σ T w a) (N : Next ops S i x) (hb : b i = true) {c0 : Nat} (he : e i = .wr c0)
    (hK : ∀ HS' σ' T' w' a', Mid C h nt ro wro o ops f r s0 w0 (addS S i) HS' σ' T' w' a' → K a' w') : x.wpIn (WF wro) 0 C.P a w K Q := by
  have hi := N.lt
  have h0 := E.eff N.hx hb
  rw [he] at h0
  obtain ⟨B, hB, hv, hH, hlo, hs, hnd, ⟨t, p, y, off, hop, hp⟩, hall⟩ := h0
  have hc0 : c0 < (f i).H.n := by
    obtain ⟨B', hB'⟩ := Option.isSome_iff_exists.1 hs
    exact Heap.get_lt hB'
  have ord : ∀ j, j < ops.size → j ≠ i → Wr f j c0 → (S j = true ↔ j < i) := by
    intro j hj hne hwj
    refine E.ordered N hj hne ?_
    rw [he]
    rcases E.writer hj hwj with h4 | h4 <;> rw [h4]
    · exact beqt rfl
    · rfl
  have hseen := E.seen M N hc0 ord
  have hn1 : (f (i + 1)).H = (f i).H.set c0 B := by rw [(E.hstep hi).2, hH]
  have nb : (f (i + 1)).H.n = (f i).H.n := by rw [hn1, Heap.n_set]
  have hN : HS.n = (f ops.size).H.n := M.nn
  have hle : (f i).H.n ≤ HS.n := by rw [hN]; exact E.mono (by omega) (Nat.le_refl _)
  have hmap : ∃ g, σ c0 = some g := by
    have hpo : p ∈ x.op.operands := by rw [hop]; simp [Op.operands]
    have h1 := rho_ok M.gk M.tm p
    rw [rho_congr (C := C) (fun t ht => E.slot M N ht) p hpo, hp] at h1
    obtain ⟨q, _, h2⟩ := h1
    rcases h2 with h2 | ⟨g, h2, _⟩
    · rw [Dead, hseen] at h2; exact absurd h2 hnd
    · exact ⟨g, h2⟩
  have h1 : rsV C.P (cv i) (rho C T) HS x.op = some ⟨(r i).v, HS.set c0 B, min c0 HS.n⟩ := by
    rw [rsV_congr x.op (rho_congr fun t ht => E.slot M N ht), hv]
    exact hall HS hseen
  refine M.direct E N h1 (by rw [Heap.n_set]) ?_ nb (fun c hc => ?_) (fun k hk hne hS c h2 h3 hwc => ?_) hK
  · have := (E.lo ops.size (Nat.le_refl _)).2 i hi hb
    rw [hlo] at this
    have := E.n0 M
    omega
  · rw [Heap.n_set] at hc
    by_cases ec : c = c0
    · subst ec
      refine ⟨i + 1, hi, by omega, ?_, fun j hj hwj => ?_⟩
      · rw [hn1, Heap.get_set, Heap.get_set, if_pos ⟨rfl, by omega⟩, if_pos ⟨rfl, by omega⟩]
      · by_cases ej : j = i
        · subst ej; rw [addS_eq]; simp
        · rw [addS_ne ej, ord j hj ej hwj]
          omega
    · obtain ⟨m, g1, g2, g3, g4⟩ := M.cont c hc
      refine ⟨m, g1, g2, ?_, fun j hj hwj => ?_⟩
      · rw [Heap.get_set, if_neg (fun h => ec h.1)]; exact g3
      · have : j ≠ i := by
          intro ej
          subst ej
          rcases E.writer hj hwj with h5 | h5 <;> rw [he] at h5
          · injection h5 with h5; exact ec h5.symm
          · cases h5
        rw [addS_ne this]
        exact g4 j hj hwj
  · obtain ⟨g, hg⟩ := hmap
    rcases E.writer hi hwc with h5 | h5 <;> rw [he] at h5
    · injection h5 with h5
      subst h5
      exact M.unb k hk hS c0 g h2 h3 hg
    · cases h5
end
end Go.Tw
