/- A region that draws its order: a new variable; an operation that sees all that was there. No condition. -/
import Derived.Test.YtjlphacnmonfnaaGreatDoorTwReg4
set_option linter.unusedVariables false
set_option linter.unusedSimpArgs false
namespace Go.Tw

section
variable {C : Ctx} {h : Nat → Prop} {nt : Nat} {ro wro : Option Nat} {o : Orig} {ops : Array Oper} {f : Nat → St} {r : Nat → OR} {e : Nat → Eff} {b : Nat → Bool} {cv : Nat → V → List V → Heap → Option OR} {s0 : Nat → Option Nat} {w0 : World} {a0 : Act}
variable {S : Nat → Bool} {HS : Heap} {σ : Nat → Option Nat} {T : Tr V} {w : World} {a : Act} {i : Nat} {x : Oper} {K : Act → World → Prop} {Q : Exit → Act → World → Prop}

theorem dz_n (c : Option Nat) (H : Heap) : (dz c H).n = H.n := by cases c <;> simp [dz, Heap.n_set]
theorem dz_get (c : Option Nat) (H : Heap) (y : Nat) : (dz c H).get y = if c = some y ∧ y < H.n then some .dead else H.get y := by
  cases c with
  | none => simp [dz]
  | some c =>
    simp only [dz, Heap.get_set]
    by_cases e : y = c
    · subst e; simp
    · have : ¬ (c = y) := fun h => e h.symm
      simp [e, this]

/-- What a new block's value stands for, where the block has another number. -/
theorem NV.move {P P' : PH} {s s' : Nat → Option Nat} {H H' : Heap} {w : World} {nv : NV} {n n' g : Nat} (hd : ¬ Dead H n) (hs : s n = some g) (hs' : s' n' = some g) {c : Value} (h : VH P s H w (nv.at n) c) : VH P' s' H' w (nv.at n') c := by
  cases nv with
  | ptr =>
    obtain ⟨x, e, h⟩ := h
    refine ⟨x, e, ?_⟩
    rcases h with h | ⟨g2, h, e2⟩
    · exact absurd h hd
    · rw [hs] at h; injection h with h; subst h; exact .inr ⟨g, hs', e2⟩
  | sl l cp o =>
    obtain ⟨x, cap', e, k1, k2, h⟩ := h
    refine ⟨x, cap', e, k1, k2, ?_⟩
    rcases h with h | ⟨g2, h, e2, e3⟩
    · exact absurd h hd
    · rw [hs] at h; injection h with h; subst h; exact .inr ⟨g, hs', e2, e3⟩
  | mp =>
    obtain ⟨x, e, h⟩ := h
    refine ⟨x, e, ?_⟩
    rcases h with h | h
    · exact absurd h hd
    · rw [hs] at h; injection h with h; subst h; exact .inr hs'

theorem Mid.born (E : Env C h nt ro wro o ops f r e b cv s0 w0 a0) (M : Mid C h nt ro wro o ops f r s0 w0 S HS σ T w a) (N : Next ops S i x) {B : Blk} {nv : NV} {c0 : Option Nat} {lo1 : Nat} (hB : B ≠ .dead)
    (hH : (f (i + 1)).H = dz c0 ((f i).H.push B)) (hv : (r i).v = nv.at (f i).H.n) (hall : rsV C.P (cv i) (rho C T) HS x.op = some ⟨nv.at HS.n, dz c0 (HS.push B), lo1⟩) (hl : (f ops.size).lo ≤ lo1)
    (hc : ∀ c, c0 = some c → c < (f i).H.n ∧ (∃ g, σ c = some g) ∧ ∀ j, j < ops.size → j ≠ i → Wr f j c → (S j = true ↔ j < i))
    (hK : ∀ HS' σ' T' w' a', Mid C h nt ro wro o ops f r s0 w0 (addS S i) HS' σ' T' w' a' → K a' w') : x.wpIn (WF wro) 0 C.P a w K Q := by
  have hi := N.lt
  have hn1 : (f (i + 1)).H.n = (f i).H.n + 1 := by rw [hH, dz_n]; rfl
  have hle : (f (i + 1)).H.n ≤ HS.n := by rw [M.nn]; exact E.mono (by omega) (Nat.le_refl _)
  have hcn : ∀ c, c0 = some c → c ≠ (f i).H.n ∧ c ≠ HS.n := fun c e => by have := (hc c e).1; omega
  have hgn : HS.get (f i).H.n = some B := by
    rw [E.seen_new M N (Nat.le_refl _) (by omega), hH, dz_get, Heap.get_push, if_pos rfl, if_neg]
    rintro ⟨e, _⟩
    exact (hcn _ e).1 rfl
  have hnone : ∀ g, σ (f i).H.n ≠ some g := fun g => M.unb i hi N.no _ g (Nat.le_refl _) (by omega)
  have hwr : ∀ c, Wr f i c → c0 = some c := by
    intro c hw
    unfold Wr at hw
    rw [hH, dz_get, Heap.get_push, if_neg (c := c = (f i).H.n) (by omega)] at hw
    by_cases e : c0 = some c ∧ c < ((f i).H.push B).n
    · exact e.1
    · rw [if_neg e] at hw; exact absurd rfl hw.2
  refine (E.step N.hx).op h wro σ HS w (rho C T) x _ a K Q M.hr M.gk (fun y _ => rho_ok M.gk M.tm y) hall fun cv' w' σ1 hvv hr1 ex => ?_
  simp only at hvv hr1 ex
  have hg1 : ∀ y, (dz c0 (HS.push B)).get y = if c0 = some y then some .dead else if y = HS.n then some B else HS.get y := by
    intro y
    rw [dz_get, Heap.get_push]
    by_cases e : c0 = some y
    · have := (hc y e).1
      have : y < HS.n + 1 := by omega
      rw [if_pos ⟨e, this⟩, if_pos e]
    · rw [if_neg (fun h => e h.1), if_neg e]
  have hg' : ∀ y, (dz c0 HS).get y = if c0 = some y then some .dead else HS.get y := by
    intro y
    rw [dz_get]
    by_cases e : c0 = some y
    · have := (hc y e).1
      have : y < HS.n := by omega
      rw [if_pos ⟨e, this⟩, if_pos e]
    · rw [if_neg (fun h => e h.1), if_neg e]
  have hN0 : c0 ≠ some HS.n := fun e => (hcn _ e).2 rfl
  have hnd1 : ¬ Dead (dz c0 (HS.push B)) HS.n := by
    rw [Dead, hg1, if_neg hN0, if_pos rfl]
    intro e; injection e with e; exact hB e
  have hn0 : (dz c0 (HS.push B)).n = HS.n + 1 := by rw [dz_n]; rfl
  obtain ⟨g0, hg0⟩ : ∃ g0, σ1 HS.n = some g0 := (ex.cov HS.n (Nat.le_refl _) (by rw [hn0]; omega)).resolve_left hnd1
  have hfr : ∀ y g, y ≠ HS.n → σ1 y = some g → σ y = some g := by
    intro y g hy hs
    rcases ex.fresh y g hs with h1 | ⟨h1, _⟩
    · exact h1
    · have := (hr1.lt hs).1; rw [hn0] at this; omega
  have hcz : ∀ y g, c0 = some y → σ1 y ≠ some g := by
    intro y g e hs
    refine hr1.alive hs ?_
    rw [Dead, hg1, if_pos e]
  have hkeep : ∀ y g, σ y = some g → c0 ≠ some y → σ1 y = some g := by
    intro y g hs hne
    rcases ex.ss y g hs with h1 | ⟨h1, _⟩
    · exact h1
    · exfalso
      have hy := (M.hr.lt hs).1
      rw [Dead, hg1, if_neg hne, if_neg (by omega)] at h1
      exact M.hr.alive hs h1
  let σ' : Nat → Option Nat := fun y => if y = (f i).H.n then some g0 else if c0 = some y then none else σ y
  have hσ : ∀ {y g}, σ' y = some g → (y = (f i).H.n ∧ g = g0) ∨ (y ≠ (f i).H.n ∧ c0 ≠ some y ∧ σ y = some g) := by
    intro y g hy
    simp only [σ'] at hy
    by_cases e : y = (f i).H.n
    · rw [if_pos e] at hy; injection hy with hy; exact .inl ⟨e, hy.symm⟩
    · rw [if_neg e] at hy
      by_cases e' : c0 = some y
      · rw [if_pos e'] at hy; cases hy
      · rw [if_neg e'] at hy; exact .inr ⟨e, e', hy⟩
  have hkp : ∀ y g, σ y = some g → c0 ≠ some y → σ' y = some g := by
    intro y g hs hne
    have : y ≠ (f i).H.n := fun e => hnone g (e ▸ hs)
    simp only [σ']
    rw [if_neg this, if_neg hne]
    exact hs
  have hdd : ∀ y, y ≠ HS.n → Dead (dz c0 (HS.push B)) y → Dead (dz c0 HS) y := by
    intro y hy hd
    rw [Dead, hg1] at hd
    rw [Dead, hg']
    by_cases e : c0 = some y
    · rw [if_pos e]
    · rw [if_neg e] at hd ⊢
      rw [if_neg hy] at hd
      exact hd
  have hprot : ∀ g, Prot (C.ph h) σ1 w' g → Prot (C.ph h) σ' w' g := by
    rintro g ⟨p1, p2, p3⟩
    refine ⟨p1, fun y hy => ?_, p3⟩
    rcases hσ hy with ⟨_, e⟩ | ⟨_, h2, h3⟩
    · exact p2 HS.n (e ▸ hg0)
    · exact p2 y (hkeep y g h3 h2)
  have cut : ∀ (s2 : Nat → Option Nat) (d2 : Nat → Prop), (∀ y, (d2 y ∨ ∃ g2, s2 y = some g2) → y ≠ HS.n) → Cut σ1 s2 σ' (Dead (dz c0 (HS.push B))) d2 (Dead (dz c0 HS)) (Prot (C.ph h) σ1 w') (Prot (C.ph h) σ' w') := by
    intro s2 d2 hy2
    refine ⟨fun y g hs h2 => .inl ?_, fun y hd h2 => hdd y (hy2 y h2) hd, hprot⟩
    have hy := hy2 y h2
    exact hkp y g (hfr y g hy hs) fun e => hcz y g e hs
  have hr' : HR (C.ph h) σ' (dz c0 HS) w' := by
    refine ⟨fun y g hy => ?_, fun y y' g hy hy' => ?_⟩
    · rcases hσ hy with ⟨rfl, rfl⟩ | ⟨h1, h2, h3⟩
      · obtain ⟨B1, o1, q1, q2, q3⟩ := hr1.dom HS.n g hg0
        rw [hg1, if_neg hN0, if_pos rfl] at q1
        injection q1 with q1
        subst q1
        obtain ⟨sg, wg, ag, G⟩ := ghosts E.run E.R (i + 1) hi
        have hgb : (f (i + 1)).H.get (f i).H.n = some B := by
          rw [hH, dz_get, Heap.get_push, if_pos rfl, if_neg]
          rintro ⟨e, _⟩
          exact (hcn _ e).1 rfl
        have hsg : ∃ g', sg (f i).H.n = some g' := (G.news _ (E.mono (Nat.zero_le _) (by omega)) (by omega)).resolve_left (by rw [Dead, hgb]; intro e; injection e with e; exact hB e)
        obtain ⟨g', hsg⟩ := hsg
        obtain ⟨B2, o2, l1, l2, l3⟩ := G.sr.hr.dom _ g' hsg
        rw [hgb] at l1
        injection l1 with l1
        subst l1
        refine ⟨B, o1, ?_, q2, BR.cut (P := C.ph h) (P2 := C.ph h) (P' := C.ph h) rfl rfl (cut sg (Dead (f (i + 1)).H) fun y hy => ?_) q3 l3⟩
        · rw [hg', if_neg (fun e => (hcn _ e).1 rfl)]; exact hgn
        · rcases hy with hy | ⟨g2, hy⟩
          · have := Heap.get_lt hy; omega
          · have := (G.sr.hr.lt hy).1; omega
      · obtain ⟨B1, o1, q1, q2, q3⟩ := hr1.dom y g (hkeep y g h3 h2)
        have hyn := (M.hr.lt h3).1
        rw [hg1, if_neg h2, if_neg (by omega)] at q1
        obtain ⟨B2, o2, l1, l2, l3⟩ := M.hr.dom y g h3
        rw [q1] at l1
        injection l1 with l1
        subst l1
        refine ⟨B1, o1, by rw [hg', if_neg h2]; exact q1, q2, BR.cut (P := C.ph h) (P2 := C.ph h) (P' := C.ph h) rfl rfl (cut σ (Dead HS) fun y hy => ?_) q3 l3⟩
        rcases hy with hy | ⟨g2, hy⟩
        · have := Heap.get_lt hy; omega
        · have := (M.hr.lt hy).1; omega
    · rcases hσ hy with ⟨e1, e2⟩ | ⟨h1, h2, h3⟩ <;> rcases hσ hy' with ⟨e3, e4⟩ | ⟨h4, h5, h6⟩
      · omega
      · exfalso
        subst e2
        have := hr1.inj HS.n y' g hg0 (hkeep y' g h6 h5)
        have := (M.hr.lt h6).1
        omega
      · exfalso
        subst e4
        have := hr1.inj HS.n y g hg0 (hkeep y g h3 h2)
        have := (M.hr.lt h3).1
        omega
      · exact M.hr.inj y y' g h3 h6
  have pc : Pc (f ops.size).lo (f 0).H.n σ HS w σ' (dz c0 HS) w' := by
    refine ⟨ex.os, ex.tape, ex.output, ex.size, fun y hy => ?_, fun y g hs => ?_, fun g hg hb => ex.frame g hg fun y hy => Nat.lt_of_lt_of_le (hb y hy) hl, fun y g hy => ?_, ex.shp⟩
    · rw [Dead, hg']
      by_cases e : c0 = some y
      · rw [if_pos e]
      · rw [if_neg e]; exact hy
    · by_cases e : c0 = some y
      · refine .inr ⟨by rw [Dead, hg', if_pos e], ?_⟩
        rcases ex.ss y g hs with h1 | ⟨_, h1⟩
        · exact absurd h1 (hcz y g e)
        · exact Nat.le_trans hl h1
      · exact .inl (hkp y g hs e)
    · rcases hσ hy with ⟨e1, rfl⟩ | ⟨_, _, h3⟩
      · refine .inr ⟨by rw [e1]; exact E.mono (Nat.zero_le _) (by omega), ?_⟩
        rcases ex.fresh HS.n g hg0 with h1 | ⟨_, h1⟩
        · have := (M.hr.lt h1).1; omega
        · exact h1.imp id fun ⟨b0, q1, q2⟩ => ⟨b0, Nat.le_trans hl q1, q2⟩
      · exact .inl h3
  refine hK _ _ _ _ _ (M.next E N hr' (c := cv') ?_ pc (dz_n _ _) (fun c hcl => ?_) (fun k hk hne hS c g h1 h2 hg => ?_) (fun c h1 h2 => ?_) (fun k hk hne hS c h1 h2 hwc => ?_))
  · rw [hv]
    exact NV.move hnd1 hg0 (if_pos rfl) hvv
  · rw [dz_n] at hcl
    by_cases ec : c0 = some c
    · obtain ⟨q1, _, q3⟩ := hc c ec
      refine ⟨i + 1, hi, by omega, ?_, fun j hj hwj => ?_⟩
      · rw [hg', if_pos ec, hH, dz_get, if_pos ⟨ec, by rw [Heap.n_push]; omega⟩]
      · by_cases ej : j = i
        · subst ej; rw [addS_eq]; simp
        · rw [addS_ne ej, q3 j hj ej hwj]
          omega
    · obtain ⟨m, q1, q2, q3, q4⟩ := M.cont c hcl
      refine ⟨m, q1, q2, by rw [hg', if_neg ec]; exact q3, fun j hj hwj => ?_⟩
      have : j ≠ i := fun ej => ec (hwr c (ej ▸ hwj))
      rw [addS_ne this]
      exact q4 j hj hwj
  · rcases hσ hg with ⟨e1, _⟩ | ⟨_, _, h3⟩
    · rcases Nat.lt_or_ge k i with l | l
      · have := E.mono (j := k + 1) (k := i) l (by omega); omega
      · have := E.mono (j := i + 1) (k := k) (by omega) (by omega); omega
    · exact M.unb k hk hS c g h1 h2 h3
  · exact .inr ⟨g0, if_pos (by omega)⟩
  · obtain ⟨_, ⟨g, hg⟩, _⟩ := hc c (hwr c hwc)
    exact M.unb k hk hS c g h1 h2 hg

theorem Mid.alloc (E : Env C h nt ro wro o ops f r e b cv s0 w0 a0) (M : Mid C h nt ro wro o ops f r s0 w0 S HS σ T w a) (N : Next ops S i x) (hb : b i = true) (he : e i = .al)
    (hK : ∀ HS' σ' T' w' a', Mid C h nt ro wro o ops f r s0 w0 (addS S i) HS' σ' T' w' a' → K a' w') : x.wpIn (WF wro) 0 C.P a w K Q := by
  have hi := N.lt
  have h0 := E.eff N.hx hb
  rw [he] at h0
  obtain ⟨B, nv, h1, h2, h3⟩ := h0
  refine M.born E N (c0 := none) (lo1 := HS.n) h1 ?_ (by rw [h2]) ?_ (by have := E.n0 M; omega) (fun c hc => (by cases hc)) hK
  · rw [(E.hstep hi).2, h2]; rfl
  · rw [rsV_congr x.op (rho_congr fun t ht => E.slot M N ht)]
    exact h3 HS

theorem Mid.grow (E : Env C h nt ro wro o ops f r e b cv s0 w0 a0) (M : Mid C h nt ro wro o ops f r s0 w0 S HS σ T w a) (N : Next ops S i x) (hb : b i = true) {cb cx : Nat} (he : e i = .ap cb cx)
    (hK : ∀ HS' σ' T' w' a', Mid C h nt ro wro o ops f r s0 w0 (addS S i) HS' σ' T' w' a' → K a' w') : x.wpIn (WF wro) 0 C.P a w K Q := by
  have hi := N.lt
  have h0 := E.eff N.hx hb
  rw [he] at h0
  obtain ⟨B, nv, h1, h2, h4, h5, h6, ⟨y, hy, off, l, cp, op, hy2⟩, h3⟩ := h0
  have hcb : cb < (f i).H.n := by
    obtain ⟨B', hB'⟩ := Option.isSome_iff_exists.1 h4
    exact Heap.get_lt hB'
  have hcx : cx < (f i).H.n := by
    obtain ⟨B', hB'⟩ := Option.isSome_iff_exists.1 h5
    exact Heap.get_lt hB'
  have ordb : ∀ j, j < ops.size → j ≠ i → Wr f j cb → (S j = true ↔ j < i) := by
    intro j hj hne hwj
    refine E.ordered N hj hne ?_
    rw [he]
    rcases E.writer hj hwj with h4 | ⟨_, h4⟩ | h4 | ⟨_, _, h4⟩ <;> rw [h4]
    · show (Nat.beq _ _ || Nat.beq _ _) = true
      rw [beqt rfl]; rfl
    · show (Nat.beq _ _ || Nat.beq _ _ || Nat.beq _ _) = true
      rw [beqt rfl]; rfl
    · rfl
    · show (Nat.beq _ _ || Nat.beq _ _) = true
      rw [beqt rfl]; rfl
  have ordx : ∀ j, j < ops.size → j ≠ i → Wr f j cx → (S j = true ↔ j < i) := by
    intro j hj hne hwj
    refine E.ordered N hj hne ?_
    rw [he]
    rcases E.writer hj hwj with h4 | ⟨_, h4⟩ | h4 | ⟨_, _, h4⟩ <;> rw [h4]
    · show (Nat.beq _ _ || Nat.beq cx cx) = true
      rw [beqt (a := cx) rfl]; simp
    · show (Nat.beq _ _ || Nat.beq cx cx || Nat.beq _ _) = true
      rw [beqt (a := cx) rfl]; simp
    · rfl
    · show (Nat.beq _ _ || Nat.beq cx cx) = true
      rw [beqt (a := cx) rfl]; simp
  have sb := E.seen M N hcb ordb
  have sx := E.seen M N hcx ordx
  have hmap : ∃ g, σ cb = some g := by
    have h1 := rho_ok M.gk M.tm y
    rw [rho_congr (C := C) (fun t ht => E.slot M N ht) y hy, hy2] at h1
    obtain ⟨q, cap', _, _, _, h2⟩ := h1
    rcases h2 with h2 | ⟨g, h2, _⟩
    · rw [Dead, sb] at h2; exact absurd h2 h6
    · exact ⟨g, h2⟩
  refine M.born E N (c0 := some cb) (lo1 := min cb HS.n) h1 ?_ (by rw [h2]) ?_ ?_ (fun c hc => ?_) hK
  · rw [(E.hstep hi).2, h2]
  · rw [rsV_congr x.op (rho_congr fun t ht => E.slot M N ht)]
    exact h3 HS sb sx
  · have := (E.lo ops.size (Nat.le_refl _)).2 i hi hb
    rw [h2] at this
    simp only at this
    have := E.n0 M
    omega
  · injection hc with hc
    subst hc
    exact ⟨hcb, hmap, ordb⟩

theorem Mid.view (E : Env C h nt ro wro o ops f r e b cv s0 w0 a0) (M : Mid C h nt ro wro o ops f r s0 w0 S HS σ T w a) (N : Next ops S i x) (hb : b i = true) (he : e i = .sr ∨ e i = .ca ∨ e i = .sw)
    (hK : ∀ HS' σ' T' w' a', Mid C h nt ro wro o ops f r s0 w0 (addS S i) HS' σ' T' w' a' → K a' w') : x.wpIn (WF wro) 0 C.P a w K Q := by
  have hi := N.lt
  have ord : ∀ c j, j < ops.size → j ≠ i → Wr f j c → (S j = true ↔ j < i) := by
    intro c j hj hne hwj
    refine E.ordered N hj hne ?_
    rcases E.writer hj hwj with h4 | ⟨_, h4⟩ | h4 | ⟨_, _, h4⟩ <;> rw [h4] <;> rcases he with he | he | he <;> rw [he] <;> rfl
  have seen : ∀ c, c < (f i).H.n → HS.get c = (f i).H.get c := fun c hc => E.seen M N hc (ord c)
  have hn01 : (f i).H.n ≤ (f (i + 1)).H.n := E.mono (by omega) hi
  have hn1N : (f (i + 1)).H.n ≤ HS.n := by rw [M.nn]; exact E.mono hi (Nat.le_refl _)
  have hr1 : (f (i + 1)).H = (r i).H := (E.hstep hi).2
  obtain ⟨sg, wg, ag, G⟩ := ghosts E.run E.R i (by omega)
  let hid : Nat → Prop := fun g => h g ∨ ∃ c, (f i).H.n ≤ c ∧ σ c = some g
  let σ' : Nat → Option Nat := fun c => if c < (f i).H.n then σ c else none
  have hσ : ∀ {c g}, σ' c = some g → c < (f i).H.n ∧ σ c = some g := by
    intro c g hc
    simp only [σ'] at hc
    split at hc
    · exact ⟨by assumption, hc⟩
    · cases hc
  have X : Cut σ sg σ' (Dead HS) (Dead (f i).H) (Dead (f i).H) (Prot (C.ph h) σ w) (Prot (C.ph hid) σ' w) := by
    refine ⟨fun c g hc h2 => ?_, fun c hc h2 => ?_, fun g hg => ⟨hg.1, fun c hc => hg.2.1 c (hσ hc).2, fun hh => ?_⟩⟩
    · rcases h2 with h2 | ⟨g2, h2⟩
      · exact .inr h2
      · refine .inl ?_
        simp only [σ']
        rw [if_pos (G.sr.hr.lt h2).1]
        exact hc
    · rcases h2 with h2 | ⟨g2, h2⟩
      · exact h2
      · rw [Dead, ← seen c (G.sr.hr.lt h2).1]; exact hc
    · rcases hh with hh | ⟨c, _, hc⟩
      · exact hg.2.2 hh
      · exact hg.2.1 c hc
  have hrV : HR (C.ph hid) σ' (f i).H w := by
    refine ⟨fun c g hc => ?_, fun c c' g hc hc' => M.hr.inj c c' g (hσ hc).2 (hσ hc').2⟩
    obtain ⟨hcn, hc⟩ := hσ hc
    obtain ⟨B, q, k1, k2, k3⟩ := M.hr.dom c g hc
    have k1' : (f i).H.get c = some B := by rw [← seen c hcn]; exact k1
    have hnd : ¬ Dead (f i).H c := by
      intro hd
      rw [Dead, k1'] at hd
      injection hd with hd
      subst hd
      exact k3
    have hsg : ∃ g', sg c = some g' := by
      rcases M.pc.fresh c g hc with h1 | ⟨h1, _⟩
      · exact (G.olds c g h1).resolve_left hnd
      · exact (G.news c h1 hcn).resolve_left hnd
    obtain ⟨g', hg'⟩ := hsg
    obtain ⟨B2, q2, l1, l2, l3⟩ := G.sr.hr.dom c g' hg'
    rw [k1'] at l1
    injection l1 with l1
    subst l1
    exact ⟨B, q, k1', k2, BR.cut (P := C.ph h) (P2 := C.ph h) (P' := C.ph hid) rfl rfl X k3 l3⟩
  have gkV : GOK C hid σ' w := by
    refine ⟨fun g hg => ?_, fun g cs hg => ⟨X.p g (M.gk.2 g cs hg).1, (M.gk.2 g cs hg).2⟩⟩
    rcases hg with hg | ⟨c, _, hc⟩
    · exact M.gk.1 g hg
    · exact (M.hr.lt hc).2
  have base := rho_ok (C := C) (H := (f i).H) (a := { tmps := #[], defers := [] }) gkV (T := .nil) (fun t => by simp [tget, Tr.get, VR])
  have opnd : ∀ y ∈ x.op.operands, VH (C.ph hid) σ' (f i).H w (rho C (f i).T y) (a.eval y) := by
    intro y hy
    cases y with
    | tmp t =>
      have ht : t ∈ x.looksAt ops := List.mem_append_left _ (List.mem_filterMap.2 ⟨.tmp t, by simpa using hy, rfl⟩)
      have h1 := M.tm t
      rw [E.slot M N ht] at h1
      exact VH.cut (P := C.ph h) (P2 := C.ph h) (P' := C.ph hid) rfl rfl X h1 (G.sr.tm t)
    | const v => exact base (.const v)
    | global g => exact base (.global g)
    | func g => exact base (.func g)
  refine (E.step N.hx).op hid wro σ' (f i).H w (rho C (f i).T) x (r i) a K Q hrV gkV opnd ((E.step N.hx).yes hb).1 fun c w' s' hv hr' ex => ?_
  rw [← hr1] at hv hr' ex
  obtain ⟨HS', hnS, hget⟩ := Heap.mk_of HS.n (fun c => if c < (f (i + 1)).H.n then (f (i + 1)).H.get c else HS.get c)
  have hlt : ∀ c, c < (f (i + 1)).H.n → HS'.get c = (f (i + 1)).H.get c := fun c hc => by rw [hget, if_pos (by omega), if_pos hc]
  have hge : ∀ c, (f (i + 1)).H.n ≤ c → HS'.get c = HS.get c := fun c hc => by
    rw [hget]
    by_cases l : c < HS.n
    · rw [if_pos l, if_neg (by omega)]
    · rw [if_neg l, Heap.get_eq, if_neg l]
  let σ2 : Nat → Option Nat := fun c => if c < (f (i + 1)).H.n then s' c else σ c
  have σlt : ∀ {c}, c < (f (i + 1)).H.n → σ2 c = s' c := fun hc => if_pos hc
  have σge : ∀ {c}, (f (i + 1)).H.n ≤ c → σ2 c = σ c := fun hc => if_neg (by omega)
  have hlo : (f ops.size).lo ≤ (r i).lo := (E.lo ops.size (Nat.le_refl _)).2 i hi hb
  have pc : Pc (f ops.size).lo (f 0).H.n σ HS w σ2 HS' w' := by
    refine ⟨ex.os, ex.tape, ex.output, ex.size, fun c hc => ?_, fun c g hc => ?_, fun g hg hq => ?_, fun c g hc => ?_, ex.shp⟩
    · rcases Nat.lt_or_ge c (f (i + 1)).H.n with l | l
      · show HS'.get c = _
        rw [hlt c l]
        rcases Nat.lt_or_ge c (f i).H.n with l2 | l2
        · exact ex.dd c (by rw [Dead, ← seen c l2]; exact hc)
        · rw [← E.seen_new M N l2 l]; exact hc
      · show HS'.get c = _
        rw [hge c l]; exact hc
    · rcases Nat.lt_or_ge c (f (i + 1)).H.n with l | l
      · rcases Nat.lt_or_ge c (f i).H.n with l2 | l2
        · have hc' : σ' c = some g := by simp only [σ']; rw [if_pos l2]; exact hc
          rcases ex.ss c g hc' with h1 | ⟨h1, h2⟩
          · exact .inl (by rw [σlt l]; exact h1)
          · refine .inr ⟨?_, by omega⟩
            show HS'.get c = _
            rw [hlt c l]; exact h1
        · exact absurd hc (M.unb i hi N.no c g l2 l)
      · exact .inl (by rw [σge l]; exact hc)
    · exact ex.frame g hg fun c hc => Nat.lt_of_lt_of_le (hq c (hσ hc).2) hlo
    · rcases Nat.lt_or_ge c (f (i + 1)).H.n with l | l
      · rw [σlt l] at hc
        rcases ex.fresh c g hc with h1 | ⟨h1, h2⟩
        · exact .inl (hσ h1).2
        · refine .inr ⟨Nat.le_trans (E.mono (Nat.zero_le i) (by omega)) h1, ?_⟩
          rcases h2 with h2 | ⟨b0, h2, h3⟩
          · exact .inl h2
          · exact .inr ⟨b0, by omega, (hσ h3).2⟩
      · rw [σge l] at hc; exact .inl hc
  have G1 : Grow s' σ2 (Dead (f (i + 1)).H) (Dead HS') (Prot (C.ph hid) s' w') (Prot (C.ph h) σ2 w') w' w' := by
    refine ⟨fun c hc => ?_, fun c g hc => .inl ?_, fun g hg => ⟨hg.1, fun c hc => ?_, fun hh => hg.2.2 (.inl hh)⟩, fun _ _ _ _ h => h, fun _ _ h => h⟩
    · show HS'.get c = _
      rw [hlt c (Heap.get_lt hc)]; exact hc
    · rw [σlt (hr'.lt hc).1]; exact hc
    · rcases Nat.lt_or_ge c (f (i + 1)).H.n with l | l
      · rw [σlt l] at hc; exact hg.2.1 c hc
      · rw [σge l] at hc; exact hg.2.2 (.inr ⟨c, by omega, hc⟩)
  have hr2 : HR (C.ph h) σ2 HS' w' := by
    refine ⟨fun c g hc => ?_, fun c c' g hc hc' => ?_⟩
    · rcases Nat.lt_or_ge c (f (i + 1)).H.n with l | l
      · rw [σlt l] at hc
        obtain ⟨B, q, k1, k2, k3⟩ := hr'.dom c g hc
        exact ⟨B, q, by rw [hlt c l]; exact k1, k2, BR.mono2 (P := C.ph hid) (P' := C.ph h) rfl G1 k3⟩
      · rw [σge l] at hc
        obtain ⟨B, q, k1, k2, k3⟩ := M.hr.dom c g hc
        refine ⟨B, q, by rw [hge c l]; exact k1, ?_, k3.mono pc.grow⟩
        rw [ex.frame g (M.hr.lt hc).2 fun c' hc' => ?_]
        · exact k2
        · have := M.hr.inj c' c g (hσ hc').2 hc
          have := (hσ hc').1
          omega
    · have key : ∀ c c', c < (f (i + 1)).H.n → (f (i + 1)).H.n ≤ c' → s' c = some g → σ c' = some g → False := by
        intro c c' l l' hc hc'
        rcases ex.fresh c g hc with h1 | ⟨h1, h2⟩
        · have := M.hr.inj c c' g (hσ h1).2 hc'; omega
        · rcases h2 with h2 | ⟨b0, h2, h3⟩
          · have := (M.hr.lt hc').2; omega
          · have := M.hr.inj b0 c' g (hσ h3).2 hc'
            have := (hσ h3).1
            omega
      rcases Nat.lt_or_ge c (f (i + 1)).H.n with l | l <;> rcases Nat.lt_or_ge c' (f (i + 1)).H.n with l' | l'
      · rw [σlt l] at hc; rw [σlt l'] at hc'
        exact hr'.inj c c' g hc hc'
      · rw [σlt l] at hc; rw [σge l'] at hc'
        exact (key c c' l l' hc hc').elim
      · rw [σge l] at hc; rw [σlt l'] at hc'
        exact (key c' c l' l hc' hc).elim
      · rw [σge l] at hc; rw [σge l'] at hc'
        exact M.hr.inj c c' g hc hc'
  refine hK _ _ _ _ _ (M.next E N hr2 (VR.mono G1 _ _ hv) pc hnS (fun c hc => ?_) (fun k hk hne hS c g h1 h2 hg => ?_) (fun c h1 h2 => ?_) (fun k hk hne hS c h1 h2 hwc => ?_))
  · rcases Nat.lt_or_ge c (f (i + 1)).H.n with l | l
    · refine ⟨i + 1, hi, l, hlt c l, fun j hj hwj => ?_⟩
      by_cases ej : j = i
      · subst ej; rw [addS_eq]; simp
      · rw [addS_ne ej, ord c j hj ej hwj]
        omega
    · obtain ⟨m, g1, g2, g3, g4⟩ := M.cont c (by rw [hnS] at hc; exact hc)
      refine ⟨m, g1, g2, by rw [hge c l]; exact g3, fun j hj hwj => ?_⟩
      have : j ≠ i := by
        intro ej
        subst ej
        have := hwj.1
        omega
      rw [addS_ne this]
      exact g4 j hj hwj
  · rcases Nat.lt_or_ge k i with l | l
    · have h3 := E.mono (j := k + 1) (k := i) l (by omega)
      rw [σlt (by omega)] at hg
      rcases ex.fresh c g hg with h4 | ⟨h4, _⟩
      · exact M.unb k hk hS c g h1 h2 (hσ h4).2
      · omega
    · have h3 := E.mono (j := i + 1) (k := k) (by omega) (by omega)
      rw [σge (by omega)] at hg
      exact M.unb k hk hS c g h1 h2 hg
  · rcases ex.cov c h1 h2 with h3 | ⟨g, h3⟩
    · refine .inl ?_
      show HS'.get c = _
      rw [hlt c h2]; exact h3
    · exact .inr ⟨g, by rw [σlt h2]; exact h3⟩
  · have hki : k < i := by
      rcases Nat.lt_or_ge k i with l | l
      · exact l
      · have h3 := E.mono (j := i) (k := k) l (by omega)
        have := hwc.1
        omega
    have hbk := E.birth hk (by omega)
    rcases E.writer hi hwc with h5 | ⟨_, h5⟩ | h5 | ⟨_, _, h5⟩
    · rcases he with he | he | he <;> rw [he] at h5 <;> cases h5
    · rcases he with he | he | he <;> rw [he] at h5 <;> cases h5
    rotate_left
    · rcases he with he | he | he <;> rw [he] at h5 <;> cases h5
    · have hc : clash (e i) (e k) = true := by
        rw [h5]
        cases hek : e k <;> first | rfl | exact absurd hek hbk
      have := (E.ordered N hk hne hc).2 hki
      rw [hS] at this
      cases this
end
end Go.Tw
