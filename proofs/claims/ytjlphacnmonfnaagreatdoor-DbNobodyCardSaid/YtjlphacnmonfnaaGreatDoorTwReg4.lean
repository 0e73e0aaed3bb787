/- A region that draws its order: one more operation. No condition. -/
import Derived.Test.YtjlphacnmonfnaaGreatDoorTwReg3
set_option linter.unusedVariables false
set_option linter.unusedSimpArgs false
namespace Go.Tw

section
variable {C : Ctx} {h : Nat → Prop} {nt : Nat} {ro wro : Option Nat} {o : Orig} {ops : Array Oper} {f : Nat → St} {r : Nat → OR} {e : Nat → Eff} {b : Nat → Bool} {cv : Nat → V → List V → Heap → Option OR} {s0 : Nat → Option Nat} {w0 : World} {a0 : Act}
variable {S : Nat → Bool} {HS : Heap} {σ : Nat → Option Nat} {T : Tr V} {w : World} {a : Act} {i : Nat} {x : Oper} {K : Act → World → Prop} {Q : Exit → Act → World → Prop}

theorem Env.n0 (E : Env C h nt ro wro o ops f r e b cv s0 w0 a0) (M : Mid C h nt ro wro o ops f r s0 w0 S HS σ T w a) : (f 0).H.n ≤ HS.n ∧ (f ops.size).lo ≤ (f 0).H.n := by
  have h1 := E.mono (Nat.zero_le ops.size) (Nat.le_refl _)
  have h2 := (E.lo ops.size (Nat.le_refl _)).1
  have h3 := E.R.ln
  have h4 := E.R.ext.hn
  exact ⟨M.nn ▸ h1, by omega⟩

theorem Mid.direct (E : Env C h nt ro wro o ops f r e b cv s0 w0 a0) (M : Mid C h nt ro wro o ops f r s0 w0 S HS σ T w a) (N : Next ops S i x) {HS' : Heap} {l : Nat}
    (h1 : rsV C.P (cv i) (rho C T) HS x.op = some ⟨(r i).v, HS', l⟩) (hn : HS'.n = HS.n) (hl : (f ops.size).lo ≤ l) (nb : (f (i + 1)).H.n = (f i).H.n)
    (cont : ∀ c, c < HS'.n → ∃ m, m ≤ ops.size ∧ c < (f m).H.n ∧ HS'.get c = (f m).H.get c ∧ ∀ j, j < ops.size → Wr f j c → (addS S i j = true ↔ j < m))
    (unw : ∀ k, k < ops.size → k ≠ i → S k = false → ∀ c, (f k).H.n ≤ c → c < (f (k + 1)).H.n → ¬ Wr f i c)
    (hK : ∀ HS' σ' T' w' a', Mid C h nt ro wro o ops f r s0 w0 (addS S i) HS' σ' T' w' a' → K a' w') : x.wpIn (WF wro) 0 C.P a w K Q := by
  refine (E.step N.hx).op h wro σ HS w (rho C T) x _ a K Q M.hr M.gk (fun y _ => rho_ok M.gk M.tm y) h1 fun c w' σ' hv hr ex => ?_
  refine hK _ _ _ _ _ (M.next E N hr hv (Pc.ofExt ex hl (E.n0 M).1) hn cont (fun k hk hne hS c g h1 h2 hg => ?_) (fun c h1 h2 => by omega) unw)
  rcases ex.fresh c g hg with h3 | ⟨h3, _⟩
  · exact M.unb k hk hS c g h1 h2 h3
  · have := E.mono (j := k + 1) (k := ops.size) hk (Nat.le_refl _)
    rw [← M.nn] at this
    omega

theorem Mid.same (E : Env C h nt ro wro o ops f r e b cv s0 w0 a0) (M : Mid C h nt ro wro o ops f r s0 w0 S HS σ T w a) (N : Next ops S i x) (hw : ∀ c, ¬ Wr f i c) :
    ∀ c, c < HS.n → ∃ m, m ≤ ops.size ∧ c < (f m).H.n ∧ HS.get c = (f m).H.get c ∧ ∀ j, j < ops.size → Wr f j c → (addS S i j = true ↔ j < m) := by
  intro c hc
  obtain ⟨m, h1, h2, h3, h4⟩ := M.cont c hc
  refine ⟨m, h1, h2, h3, fun j hj hwj => ?_⟩
  have : j ≠ i := fun e => hw c (e ▸ hwj)
  rw [addS_ne this]
  exact h4 j hj hwj

theorem Mid.quiet (E : Env C h nt ro wro o ops f r e b cv s0 w0 a0) (M : Mid C h nt ro wro o ops f r s0 w0 S HS σ T w a) (N : Next ops S i x) (hb : b i = true) (he : e i = .none ∨ ∃ c, e i = .rd c)
    (hK : ∀ HS' σ' T' w' a', Mid C h nt ro wro o ops f r s0 w0 (addS S i) HS' σ' T' w' a' → K a' w') : x.wpIn (WF wro) 0 C.P a w K Q := by
  have hi := N.lt
  have hw : ∀ c, ¬ Wr f i c := by
    intro c hc
    rcases E.writer hi hc with h1 | ⟨_, h1⟩ | h1 | ⟨_, _, h1⟩ <;> rcases he with h2 | ⟨c', h2⟩ <;> rw [h1] at h2 <;> cases h2
  have nb : (f (i + 1)).H.n = (f i).H.n := by rw [(E.hstep hi).2, E.noH hi (he.imp id .inl)]
  have h0 := E.eff N.hx hb
  have h1 : rsV C.P (cv i) (rho C T) HS x.op = some ⟨(r i).v, HS, HS.n⟩ := by
    rw [rsV_congr x.op (rho_congr fun t ht => E.slot M N ht)]
    rcases he with he | ⟨c, he⟩ <;> rw [he] at h0
    · exact h0.2.2 HS
    · obtain ⟨_, _, h2, h3⟩ := h0
      refine h3 HS (E.seen M N ?_ ?_)
      · obtain ⟨B, hB⟩ := Option.isSome_iff_exists.1 h2
        exact Heap.get_lt hB
      · intro j hj hne hwj
        refine E.ordered N hj hne ?_
        rw [he]
        rcases E.writer hj hwj with h4 | ⟨_, h4⟩ | h4 | ⟨_, _, h4⟩ <;> rw [h4]
        · exact beqt rfl
        · exact beqt rfl
        · rfl
        · exact beqt rfl
  exact M.direct E N h1 rfl (by have := E.n0 M; omega) nb (M.same E N hw) (fun _ _ _ _ c _ _ => hw c) hK

theorem Mid.skip (E : Env C h nt ro wro o ops f r e b cv s0 w0 a0) (M : Mid C h nt ro wro o ops f r s0 w0 S HS σ T w a) (N : Next ops S i x) (hb : b i = false) :
    Mid C h nt ro wro o ops f r s0 w0 (addS S i) HS σ (putV T x.dst (r i).v) w (a.put x.dst undef) := by
  have hi := N.lt
  obtain ⟨h1, h2, h3⟩ := (E.step N.hx).no hb
  have hw : ∀ c, ¬ Wr f i c := by
    intro c hc
    rcases E.writer hi hc with h4 | ⟨_, h4⟩ | h4 | ⟨_, _, h4⟩ <;> rw [h2] at h4 <;> cases h4
  have nb : (f (i + 1)).H.n = (f i).H.n := by rw [h3]
  exact M.next E N M.hr (by rw [h1]; exact ⟨#[], rfl, by simp [VRs]⟩) (Pc.refl _ _ _ _ _) rfl (M.same E N hw) (fun k hk _ hS c g => M.unb k hk hS c g) (fun c h1 h2 => by omega) (fun _ _ _ _ c _ _ => hw c)

/-- The heap's one block that an operation writes. -/
structure Wrote (C : Ctx) (f : Nat → St) (r : Nat → OR) (cv : Nat → V → List V → Heap → Option OR) (i c0 : Nat) (x : Oper) (B : Blk) : Prop where
  hH : (r i).H = (f i).H.set c0 B
  hlo : (r i).lo = min c0 (f i).H.n
  hs : ((f i).H.get c0).isSome = true
  hnd : (f i).H.get c0 ≠ some .dead
  hop : ∃ y ∈ x.op.operands, (∃ off, rho C (f i).T y = .ptr c0 off) ∨ rho C (f i).T y = .mp c0
  hall : ∀ H', H'.get c0 = (f i).H.get c0 → rsV C.P (cv i) (rho C (f i).T) H' x.op = some ⟨(r i).v, H'.set c0 B, min c0 H'.n⟩

theorem Mid.write (E : Env C h nt ro wro o ops f r e b cv s0 w0 a0) (M : Mid C h nt ro wro o ops f r s0 w0 S HS σ T w a) (N : Next ops S i x) (hb : b i = true) {c0 : Nat} {B : Blk} (W : Wrote C f r cv i c0 x B)
    (ord : ∀ j, j < ops.size → j ≠ i → Wr f j c0 → (S j = true ↔ j < i))
    (hK : ∀ HS' σ' T' w' a', Mid C h nt ro wro o ops f r s0 w0 (addS S i) HS' σ' T' w' a' → K a' w') : x.wpIn (WF wro) 0 C.P a w K Q := by
  have hi := N.lt
  obtain ⟨hH, hlo, hs, hnd, hop, hall⟩ := W
  have hc0 : c0 < (f i).H.n := by
    obtain ⟨B', hB'⟩ := Option.isSome_iff_exists.1 hs
    exact Heap.get_lt hB'
  have hseen := E.seen M N hc0 ord
  have hn1 : (f (i + 1)).H = (f i).H.set c0 B := by rw [(E.hstep hi).2, hH]
  have hwr : ∀ c, Wr f i c → c = c0 := by
    intro c hw
    unfold Wr at hw
    rw [hn1, Heap.get_set] at hw
    by_cases e : c = c0
    · exact e
    · rw [if_neg (fun h => e h.1)] at hw; exact absurd rfl hw.2
  have nb : (f (i + 1)).H.n = (f i).H.n := by rw [hn1, Heap.n_set]
  have hN : HS.n = (f ops.size).H.n := M.nn
  have hle : (f i).H.n ≤ HS.n := by rw [hN]; exact E.mono (by omega) (Nat.le_refl _)
  have hmap : ∃ g, σ c0 = some g := by
    obtain ⟨p, hpo, hp⟩ := hop
    have h1 := rho_ok M.gk M.tm p
    rw [rho_congr (C := C) (fun t ht => E.slot M N ht) p hpo] at h1
    rcases hp with ⟨off, hp⟩ | hp <;> rw [hp] at h1
    · obtain ⟨q, _, h2⟩ := h1
      rcases h2 with h2 | ⟨g, h2, _⟩
      · rw [Dead, hseen] at h2; exact absurd h2 hnd
      · exact ⟨g, h2⟩
    · obtain ⟨q, _, h2⟩ := h1
      rcases h2 with h2 | h2
      · rw [Dead, hseen] at h2; exact absurd h2 hnd
      · exact ⟨q, h2⟩
  have h1 : rsV C.P (cv i) (rho C T) HS x.op = some ⟨(r i).v, HS.set c0 B, min c0 HS.n⟩ := by
    rw [rsV_congr x.op (rho_congr fun t ht => E.slot M N ht)]
    exact hall HS hseen
  refine M.direct E N h1 (by rw [Heap.n_set]) ?_ nb (fun c hc => ?_) (fun k hk hne hS c h2 h3 hwc => ?_) hK
  · have := (E.lo ops.size (Nat.le_refl _)).2 i hi hb
    rw [hlo] at this
    have := E.n0 M
    omega
  · rw [Heap.n_set] at hc
    by_cases ec : c = c0
    · subst ec
      refine ⟨i + 1, hi, by omega, ?_, fun j hj hwj => ?_⟩
      · rw [hn1, Heap.get_set, Heap.get_set, if_pos ⟨rfl, by omega⟩, if_pos ⟨rfl, by omega⟩]
      · by_cases ej : j = i
        · subst ej; rw [addS_eq]; simp
        · rw [addS_ne ej, ord j hj ej hwj]
          omega
    · obtain ⟨m, g1, g2, g3, g4⟩ := M.cont c hc
      refine ⟨m, g1, g2, ?_, fun j hj hwj => ?_⟩
      · rw [Heap.get_set, if_neg (fun h => ec h.1)]; exact g3
      · have : j ≠ i := by
          intro ej
          subst ej
          exact ec (hwr c hwj)
        rw [addS_ne this]
        exact g4 j hj hwj
  · obtain ⟨g, hg⟩ := hmap
    obtain rfl := hwr c hwc
    exact M.unb k hk hS c g h2 h3 hg

theorem Mid.wr (E : Env C h nt ro wro o ops f r e b cv s0 w0 a0) (M : Mid C h nt ro wro o ops f r s0 w0 S HS σ T w a) (N : Next ops S i x) (hb : b i = true) {c0 : Nat} (he : e i = .wr c0)
    (hK : ∀ HS' σ' T' w' a', Mid C h nt ro wro o ops f r s0 w0 (addS S i) HS' σ' T' w' a' → K a' w') : x.wpIn (WF wro) 0 C.P a w K Q := by
  have h0 := E.eff N.hx hb
  rw [he] at h0
  obtain ⟨B, hB, hv, hH, hlo, hs, hnd, ⟨t, p, y, off, hop, hp⟩, hall⟩ := h0
  refine M.write E N hb (B := B) ⟨hH, hlo, hs, hnd, ⟨p, by rw [hop]; simp [Op.operands], .inl ⟨off, hp⟩⟩, fun H' hH' => by rw [hv]; exact hall H' hH'⟩ (fun j hj hne hwj => ?_) hK
  refine E.ordered N hj hne ?_
  rw [he]
  rcases E.writer hj hwj with h4 | ⟨_, h4⟩ | h4 | ⟨_, _, h4⟩ <;> rw [h4]
  · exact beqt rfl
  · show (Nat.beq _ _ || Nat.beq _ _) = true
    rw [beqt rfl]; rfl
  · rfl
  · exact beqt rfl

theorem Mid.en (E : Env C h nt ro wro o ops f r e b cv s0 w0 a0) (M : Mid C h nt ro wro o ops f r s0 w0 S HS σ T w a) (N : Next ops S i x) (hb : b i = true) {c0 : Nat} {t : TypeId} {q : V} (he : e i = .en c0 t q)
    (hK : ∀ HS' σ' T' w' a', Mid C h nt ro wro o ops f r s0 w0 (addS S i) HS' σ' T' w' a' → K a' w') : x.wpIn (WF wro) 0 C.P a w K Q := by
  have h0 := E.eff N.hx hb
  rw [he] at h0
  obtain ⟨B, hB, hH, hlo, hs, hnd, ⟨p, hpo, hp⟩, _, hall⟩ := h0
  refine M.write E N hb (B := B) ⟨hH, hlo, hs, hnd, ⟨p, hpo, .inr hp⟩, hall⟩ (fun j hj hne hwj => ?_) hK
  refine E.ordered N hj hne ?_
  rw [he]
  rcases E.writer hj hwj with h4 | ⟨_, h4⟩ | h4 | ⟨_, _, h4⟩ <;> rw [h4]
  · exact beqt rfl
  · show (Nat.beq _ _ || Nat.beq _ _) = true
    rw [beqt rfl]; rfl
  · rfl
  · exact beqt rfl

/-- What is found of a key stays, where nothing but that key's entry is made. -/
theorem Env.looks (E : Env C h nt ro wro o ops f r e b cv s0 w0 a0) {c : Nat} {t : TypeId} {q : V} {m m' : Nat} (hm : m ≤ m') (hk : m' ≤ ops.size) (hw : ∀ k, m ≤ k → k < m' → Wr f k c → e k = .en c t q) (hc : c < (f m).H.n) :
    lookB C.P t q ((f m').H.get c) = lookB C.P t q ((f m).H.get c) := by
  induction m' with
  | zero => have : m = 0 := by omega
            subst this; rfl
  | succ k ih =>
    by_cases l : m = k + 1
    · subst l; rfl
    · have h1 := ih (by omega) (by omega) (fun k' h1 h2 => hw k' h1 (by omega))
      have h3 : c < (f k).H.n := Nat.lt_of_lt_of_le hc (E.mono (by omega) (by omega))
      rw [← h1]
      by_cases hwr : Wr f k c
      · have he := hw k (by omega) (by omega) hwr
        have hx : ops[k]? = some ops[k] := by simp [show k < ops.size by omega]
        obtain ⟨g1, g2⟩ := E.hstep (k := k) (by omega)
        cases hb : b k with
        | false =>
          obtain ⟨h4, _⟩ := (E.step hx).no hb
          rw [g2, h4]
        | true =>
          have h0 := E.eff hx hb
          rw [he] at h0
          obtain ⟨B, _, hH, _, _, _, _, hl, _⟩ := h0
          rw [g2, hH, Heap.get_set, if_pos ⟨rfl, h3⟩]
          exact hl
      · have : (f (k + 1)).H.get c = (f k).H.get c := Classical.byContradiction fun hn => hwr ⟨h3, hn⟩
        rw [this]

theorem Mid.look (E : Env C h nt ro wro o ops f r e b cv s0 w0 a0) (M : Mid C h nt ro wro o ops f r s0 w0 S HS σ T w a) (N : Next ops S i x) (hb : b i = true) {c : Nat} {t : TypeId} {q : V} (he : e i = .lk c t q)
    (hK : ∀ HS' σ' T' w' a', Mid C h nt ro wro o ops f r s0 w0 (addS S i) HS' σ' T' w' a' → K a' w') : x.wpIn (WF wro) 0 C.P a w K Q := by
  have hi := N.lt
  have hw : ∀ c, ¬ Wr f i c := by
    intro c hc
    rcases E.writer hi hc with h1 | ⟨_, h1⟩ | h1 | ⟨_, _, h1⟩ <;> rw [he] at h1 <;> cases h1
  have nb : (f (i + 1)).H.n = (f i).H.n := by rw [(E.hstep hi).2, E.noH hi (.inr (.inr ⟨_, _, _, he⟩))]
  have h0 := E.eff N.hx hb
  rw [he] at h0
  obtain ⟨_, _, h2, h4, h3⟩ := h0
  have hc : c < (f i).H.n := by
    obtain ⟨B, hB⟩ := Option.isSome_iff_exists.1 h2
    exact Heap.get_lt hB
  have key : ∀ j, j < ops.size → Wr f j c → ¬ (S j = true ↔ j < i) → e j = .en c t q := by
    intro j hj hwj hn
    have hne : j ≠ i := fun e' => hw c (e' ▸ hwj)
    have hcl : clash (e i) (e j) = false := by
      cases h : clash (e i) (e j) with
      | false => rfl
      | true => exact absurd (E.ordered N hj hne h) hn
    rw [he] at hcl
    rcases E.writer hj hwj with h5 | ⟨_, h5⟩ | h5 | ⟨t', q', h5⟩ <;> rw [h5] at hcl
    · have : clash (.lk c t q) (.wr c) = Nat.beq c c := rfl
      rw [this, beqt rfl] at hcl; cases hcl
    · rename_i x'
      have : clash (.lk c t q) (.ap c x') = Nat.beq c c := rfl
      rw [this, beqt rfl] at hcl; cases hcl
    · cases hcl
    · have : clash (.lk c t q) (.en c t' q') = (Nat.beq c c && !(Nat.beq t t' && sameV q q')) := rfl
      rw [this, beqt (a := c) rfl] at hcl
      simp only [Bool.true_and, Bool.not_eq_false', Bool.and_eq_true] at hcl
      rw [h5, Nat.eq_of_beq_eq_true hcl.1, sameV_eq hcl.2]
  have hl : lookB C.P t q (HS.get c) = some (r i).v := by
    obtain ⟨m, hm, hcm, hge, hj⟩ := M.cont c (by rw [M.nn]; exact Nat.lt_of_lt_of_le hc (E.mono (by omega) (Nat.le_refl _)))
    rw [hge, ← h4]
    rcases Nat.lt_or_ge i m with l | l
    · refine E.looks (by omega) hm (fun k h1 h2 hk => key k (by omega) hk fun h => ?_) hc
      have hS := (hj k (by omega) hk).2 h2
      have hne : k ≠ i := fun e' => hw c (e' ▸ hk)
      have := h.1 hS
      omega
    · refine (E.looks l (by omega) (fun k h1 h2 hk => key k (by omega) hk fun h => ?_) hcm).symm
      have := (hj k (by omega) hk).1 (h.2 h2)
      omega
  have h1 : rsV C.P (cv i) (rho C T) HS x.op = some ⟨(r i).v, HS, HS.n⟩ := by
    rw [rsV_congr x.op (rho_congr fun t ht => E.slot M N ht)]
    exact h3 HS hl
  exact M.direct E N h1 rfl (by have := E.n0 M; omega) nb (M.same E N hw) (fun _ _ _ _ c _ _ => hw c) hK
end
end Go.Tw
