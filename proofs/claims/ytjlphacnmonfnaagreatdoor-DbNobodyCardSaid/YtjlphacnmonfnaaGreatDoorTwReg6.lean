/- A region that draws its order: the whole. The evaluator is sound. No condition. -/
import Derived.Test.YtjlphacnmonfnaaGreatDoorTwReg5
set_option linter.unusedVariables false
set_option linter.unusedSimpArgs false
namespace Go.Tw

section
variable {C : Ctx} {h : Nat → Prop} {nt : Nat} {ro wro : Option Nat} {o : Orig} {ops : Array Oper} {f : Nat → St} {r : Nat → OR} {e : Nat → Eff} {b : Nat → Bool} {cv : Nat → V → List V → Heap → Option OR} {s0 : Nat → Option Nat} {w0 : World} {a0 : Act}
variable {S : Nat → Bool} {HS : Heap} {σ : Nat → Option Nat} {T : Tr V} {w : World} {a : Act} {i : Nat} {x : Oper} {K : Act → World → Prop} {Q : Exit → Act → World → Prop}

theorem Mid.step (E : Env C h nt ro wro o ops f r e b cv s0 w0 a0) (M : Mid C h nt ro wro o ops f r s0 w0 S HS σ T w a) (N : Next ops S i x)
    (hK : ∀ HS' σ' T' w' a', Mid C h nt ro wro o ops f r s0 w0 (addS S i) HS' σ' T' w' a' → K a' w') : wpOpIn (WF wro) 0 C.P ops Q i K a w := by
  have hw : Region.wanted x (yielded ops a.tmps) = b i := by
    refine wanted_ok M.tm ?_
    rw [wanted_congr fun t ht => E.slot M N ht]
    exact (E.step N.hx).want
  unfold wpOpIn
  simp only [N.hx, hw]
  cases hb : b i with
  | false => exact ⟨fun _ _ => trivial, hK _ _ _ _ _ (M.skip E N hb)⟩
  | true =>
    simp only [if_true]
    cases he : e i with
    | none => exact M.quiet E N hb (.inl he) hK
    | al => exact M.alloc E N hb he hK
    | rd c => exact M.quiet E N hb (.inr ⟨c, he⟩) hK
    | wr c => exact M.wr E N hb he hK
    | lk c t q => exact M.look E N hb he hK
    | en c t q => exact M.en E N hb he hK
    | ap c x => exact M.grow E N hb he hK
    | sr => exact M.view E N hb (.inl he) hK
    | ca => exact M.view E N hb (.inr (.inl he)) hK
    | sw => exact M.view E N hb (.inr (.inr he)) hK

theorem Env.born (E : Env C h nt ro wro o ops f r e b cv s0 w0 a0) {c : Nat} (hc : (f 0).H.n ≤ c) : ∀ k, k ≤ ops.size → c < (f k).H.n → ∃ j, j < ops.size ∧ (f j).H.n ≤ c ∧ c < (f (j + 1)).H.n
  | 0, _, h => by omega
  | k + 1, hk, h => by
    rcases Nat.lt_or_ge c (f k).H.n with l | l
    · exact E.born hc k (by omega) l
    · exact ⟨k, hk, l, h⟩

theorem Mid.done (E : Env C h nt ro wro o ops f r e b cv s0 w0 a0) (M : Mid C h nt ro wro o ops f r s0 w0 S HS σ T w a) (hS : ∀ j, j < ops.size → S j = true) : SR C h nt ro wro o σ w (f ops.size) a := by
  have hget : ∀ c, HS.get c = (f ops.size).H.get c := by
    intro c
    rcases Nat.lt_or_ge c HS.n with l | l
    · obtain ⟨m, h1, h2, h3, h4⟩ := M.cont c l
      rw [h3]
      refine (E.const h1 (Nat.le_refl _) (fun k hk1 hk2 hw => ?_) h2).symm
      have := (h4 k hk2 hw).1 (hS k hk2)
      omega
    · rw [Heap.get_eq, Heap.get_eq, if_neg (by omega), if_neg (by have := M.nn; omega)]
  have hD : ∀ c, Dead HS c → Dead (f ops.size).H c := fun c hc => by rw [Dead, ← hget]; exact hc
  have G : Grow σ σ (Dead HS) (Dead (f ops.size).H) (Prot (C.ph h) σ w) (Prot (C.ph h) σ w) w w := ⟨hD, fun _ _ h => .inl h, fun _ h => h, fun _ _ _ _ h => h, fun _ _ h => h⟩
  have hT : ∀ t, tget T t = tget (f ops.size).T t := by
    intro t
    obtain ⟨h1, h2⟩ := M.ts t
    obtain ⟨h3, h4⟩ := E.slots t ops.size (Nat.le_refl _)
    by_cases hw : ∃ (j : Nat) (y : Oper), ops[j]? = some y ∧ y.dst = some t
    · obtain ⟨j, y, hy, hd⟩ := hw
      have hj : j < ops.size := (Array.getElem?_eq_some_iff.1 hy).1
      rw [h1 j y hy hd, h3 j y hy hd, if_pos (hS j hj), if_pos hj]
    · have hn : ∀ (j : Nat) (y : Oper), ops[j]? = some y → y.dst ≠ some t := fun j y hy hd => hw ⟨j, y, hy, hd⟩
      rw [h2 hn, h4 hn]
  have X : Ext (f ops.size).lo s0 (f 0).H w0 σ (f ops.size).H w := by
    refine ⟨M.pc.os, M.pc.tape, M.pc.output, M.pc.size, E.mono (Nat.zero_le _) (Nat.le_refl _), fun c hc => hD c (M.pc.dd c hc), fun c g hc => (M.pc.ss c g hc).imp id fun ⟨a, d⟩ => ⟨hD c a, d⟩, M.pc.frame, M.pc.fresh, M.pc.shp, fun c hc hc0 => ?_, fun c h1 h2 => ?_⟩
    · refine E.const (Nat.zero_le _) (Nat.le_refl _) (fun k _ hk hw => ?_) hc0
      obtain ⟨h1, h2⟩ := E.hstep hk
      refine hw.2 ?_
      rw [h2]
      refine h1.old c ?_ hw.1
      cases hb : b k with
      | true => exact Nat.lt_of_lt_of_le hc ((E.lo ops.size (Nat.le_refl _)).2 k hk hb)
      | false =>
        have hx : ops[k]? = some ops[k] := by simp [hk]
        rw [((E.step hx).no hb).1]
        exact hw.1
    · obtain ⟨k, hk, h3, h4⟩ := E.born h1 ops.size (Nat.le_refl _) h2
      exact (M.cov k hk (hS k hk) c h3 h4).imp (hD c) id
  have hlo := (E.lo ops.size (Nat.le_refl _)).1
  refine ⟨E.R.ob, ⟨fun c g hc => ?_, M.hr.inj⟩, M.gk, Nat.le_trans hlo E.R.ln, ?_, M.sz, M.df, ?_, fun t => ?_⟩
  · obtain ⟨B, q, h1, h2, h3⟩ := M.hr.dom c g hc
    exact ⟨B, q, by rw [← hget]; exact h1, h2, h3.mono G⟩
  · have := E.R.ext.trans E.R.ob X
    rwa [show min (f 0).lo (f ops.size).lo = (f ops.size).lo by omega] at this
  · have hrd := M.rd
    cases ro <;> cases wro <;> simp only [Rd] at hrd ⊢
    exact hrd.imp (hD _) id
  · rw [← hT]
    exact VR.mono G _ _ (M.tm t)

theorem countP_add {S : Nat → Bool} {i : Nat} (hS : S i = false) : ∀ (l : List Nat), i ∈ l → (l.countP fun j => !addS S i j) < l.countP fun j => !S j
  | [], h => by simp at h
  | j :: l, h => by
    have mono : ∀ l : List Nat, (l.countP fun j => !addS S i j) ≤ l.countP fun j => !S j := fun l => List.countP_mono_left fun j _ hj => by
      simp only [Bool.not_eq_true'] at hj ⊢
      exact (addS_false hj).2
    rw [List.countP_cons, List.countP_cons]
    by_cases e : i = j
    · subst e
      have h1 := mono l
      rw [addS_eq, hS]
      simp only [Bool.not_true, Bool.not_false, if_true]
      simp
      omega
    · have h1 := countP_add hS l (by
        cases h with
        | head => exact absurd rfl e
        | tail _ h => exact h)
      rw [addS_ne (fun h => e h.symm)]
      omega

theorem any_ok (E : Env C h nt ro wro o ops f r e b cv s0 w0 a0) (hQ : ∀ s' w' a', SR C h nt ro wro o s' w' (f ops.size) a' → Q .normal a' w') :
    ∀ (fuel : Nat) (listed : Array Bool) (S : Nat → Bool) (HS : Heap) (σ : Nat → Option Nat) (T : Tr V) (a : Act) (w : World), listed.size = ops.size → (∀ j, j < ops.size → listed.getD j false = S j) →
      ((List.range ops.size).countP fun j => !S j) ≤ fuel → Closed ops (fun j => S j = true) → Mid C h nt ro wro o ops f r s0 w0 S HS σ T w a → wpAnyIn (WF wro) 0 C.P .any ops Q fuel listed a w := by
  have getD2 : ∀ (listed : Array Bool) (j : Nat), j < listed.size → listed.getD j true = listed.getD j false := by
    intro listed j hj
    simp [hj]
  have back : ∀ (listed : Array Bool) (S : Nat → Bool), listed.size = ops.size → (∀ j, j < ops.size → listed.getD j false = S j) → Region.ready .any ops listed = [] → ∀ j, j < ops.size → S j = true := by
    intro listed S hl hS hr j
    induction j using Nat.strongRecOn with
    | _ j ih =>
      intro hj
      cases hs : S j with
      | true => rfl
      | false =>
        exfalso
        have hx : ops[j]? = some ops[j] := by simp [hj]
        have : j ∈ Region.ready .any ops listed := mem_ready.2 ⟨by rw [getD2 _ _ (by omega), hS j hj, hs], ops[j], hx, fun e he hb => by
          have hlt := E.reg.back j _ hx e he hb
          rw [hS e.on (by omega)]
          exact ih e.on hlt (by omega)⟩
        rw [hr] at this
        cases this
  intro fuel
  induction fuel with
  | zero =>
    intro listed S HS σ T a w hl hS hc hcl M
    have hall : ∀ j, j < ops.size → S j = true := by
      intro j hj
      have h0 := List.countP_eq_zero.1 (Nat.le_zero.1 hc) j (List.mem_range.2 hj)
      simpa using h0
    refine ⟨?_, hQ σ w a (M.done E hall)⟩
    cases hr : Region.ready .any ops listed with
    | nil => rfl
    | cons j rest =>
      have hj : j ∈ Region.ready .any ops listed := by rw [hr]; exact .head _
      obtain ⟨h1, y, h2, _⟩ := mem_ready.1 hj
      have hlt : j < ops.size := (Array.getElem?_eq_some_iff.1 h2).1
      rw [getD2 _ _ (by omega), hS j hlt, hall j hlt] at h1
      cases h1
  | succ fuel ih =>
    intro listed S HS σ T a w hl hS hc hcl M
    refine ⟨fun hr => hQ σ w a (M.done E (back listed S hl hS hr)), fun i hi => ?_⟩
    obtain ⟨h1, y, h2, h3⟩ := mem_ready.1 hi
    have hlt : i < ops.size := (Array.getElem?_eq_some_iff.1 h2).1
    have hSi : S i = false := by rw [getD2 _ _ (by omega), hS i hlt] at h1; exact h1
    have hed : ∀ e ∈ y.after, Region.binds .any e = true → S e.on = true := fun e he hb => by
      have := E.reg.back i y h2 e he hb
      rw [← hS e.on (by omega)]
      exact h3 e he hb
    have N : Next ops S i y := ⟨h2, hSi, hed, hcl⟩
    refine M.step E N fun HS' σ' T' w' a' M' => ih _ (addS S i) HS' σ' T' a' w' (by simp [hl]) (fun j hj => ?_) ?_ (fun j x hj hx e he hb => ?_) M'
    · by_cases ej : j = i
      · subst ej
        rw [addS_eq]
        simp [hl, hj]
      · rw [addS_ne ej, getD_set_ne false (fun h => ej h.symm)]
        exact hS j hj
    · have := countP_add hSi (List.range ops.size) (List.mem_range.2 hlt)
      omega
    · show addS S i e.on = true
      have hSe : S e.on = true := by
        by_cases ej : j = i
        · subst ej
          rw [h2] at hx
          injection hx with hx
          subst hx
          exact hed e he hb
        · exact hcl j x (by have hj : addS S i j = true := hj; rwa [addS_ne ej] at hj) hx e he hb
      simp [addS, hSe]
end

theorem regionStep (C : Ctx) : RegionStep C := by
  intro n nt ro wro o h s w st st' a ops es Q hop hreg hrun hord R hQ
  obtain ⟨f, r, e, b, cv, h0, hN, hl, he, hR⟩ := run_of n ops.toList st st' es hop hrun
  rw [Array.length_toList] at hN hl he
  subst h0
  subst hN
  have E : Env C h nt ro wro o ops f r e b cv s w a := ⟨hR, R, regOk_ok hreg, fun i j hij hj hc => order_ok hord hij (he i (by omega)) (he j hj) hc⟩
  have hm0 := E.mono (Nat.zero_le ops.size) (Nat.le_refl _)
  -- each block not yet there holds what it will hold
  have hex : ∃ HS : Heap, HS.n = (f ops.size).H.n ∧ (∀ c, c < (f 0).H.n → HS.get c = (f 0).H.get c) ∧ ∀ k, k < ops.size → ∀ c, (f k).H.n ≤ c → c < (f (k + 1)).H.n → HS.get c = (f (k + 1)).H.get c := by
    classical
    let bk : Nat → Nat := fun c => if hc : ∃ k, k < ops.size ∧ (f k).H.n ≤ c ∧ c < (f (k + 1)).H.n then Classical.choose hc + 1 else 0
    obtain ⟨HS, h1, h2⟩ := Heap.mk_of (f ops.size).H.n (fun c => (f (bk c)).H.get c)
    have uniq : ∀ k k' c, k < ops.size → k' < ops.size → (f k).H.n ≤ c → c < (f (k + 1)).H.n → (f k').H.n ≤ c → c < (f (k' + 1)).H.n → k = k' := by
      intro k k' c hk hk' a1 a2 b1 b2
      rcases Nat.lt_trichotomy k k' with l | l | l
      · have := E.mono (j := k + 1) (k := k') l (by omega); omega
      · exact l
      · have := E.mono (j := k' + 1) (k := k) l (by omega); omega
    refine ⟨HS, h1, fun c hc => ?_, fun k hk c a1 a2 => ?_⟩
    · rw [h2, if_pos (by omega)]
      have : bk c = 0 := by
        simp only [bk]
        rw [dif_neg]
        rintro ⟨k, hk, a1, _⟩
        have := E.mono (Nat.zero_le k) (by omega)
        omega
      rw [this]
    · have := E.mono (j := k + 1) (k := ops.size) hk (Nat.le_refl _)
      rw [h2, if_pos (by omega)]
      have hc : ∃ k, k < ops.size ∧ (f k).H.n ≤ c ∧ c < (f (k + 1)).H.n := ⟨k, hk, a1, a2⟩
      have : bk c = k + 1 := by
        simp only [bk]
        rw [dif_pos hc]
        have hs := Classical.choose_spec hc
        rw [uniq _ k c hs.1 hk hs.2.1 hs.2.2 a1 a2]
      rw [this]
  obtain ⟨HS, hn, hold, hnew⟩ := hex
  have hdead : ∀ c, Dead (f 0).H c → Dead HS c := fun c hc => by rw [Dead, hold c (Heap.get_lt hc)]; exact hc
  have G : Grow s s (Dead (f 0).H) (Dead HS) (Prot (C.ph h) s w) (Prot (C.ph h) s w) w w := ⟨hdead, fun _ _ h => .inl h, fun _ h => h, fun _ _ _ _ h => h, fun _ _ h => h⟩
  have M : Mid C h nt ro wro o ops f r s w (fun _ => false) HS s (f 0).T w a := by
    refine ⟨⟨fun c g hc => ?_, R.hr.inj⟩, R.gk, R.sz, R.df, ?_, fun t => VR.mono G _ _ (R.tm t), fun t => ⟨fun j x hj hd => rfl, fun _ => rfl⟩, hn, fun c hc => ?_, fun k hk _ c g h1 h2 hg => ?_, fun k hk hS => absurd hS (by simp), fun k hk _ c h1 h2 j hj hS => absurd hS (by simp), ?_⟩
    · obtain ⟨B, q, h1, h2, h3⟩ := R.hr.dom c g hc
      exact ⟨B, q, by rw [hold c (R.hr.lt hc).1]; exact h1, h2, h3.mono G⟩
    · have hrd := R.rd
      cases ro <;> cases wro <;> simp only [Rd] at hrd ⊢
      exact hrd.imp (hdead _) id
    · rcases Nat.lt_or_ge c (f 0).H.n with l | l
      · exact ⟨0, Nat.zero_le _, l, hold c l, fun j hj hw => by simp⟩
      · obtain ⟨k, hk, h3, h4⟩ := E.born l ops.size (Nat.le_refl _) (by omega)
        refine ⟨k + 1, hk, h4, hnew k hk c h3 h4, fun j hj hw => ?_⟩
        have : k + 1 ≤ j := by
          rcases Nat.lt_or_ge k j with l' | l'
          · exact l'
          · have := E.mono (j := j) (k := k) l' (by omega)
            have := hw.1
            omega
        constructor
        · intro h; cases h
        · intro h; omega
    · have := E.mono (Nat.zero_le k) (by omega)
      have := (R.hr.lt hg).1
      omega
    · exact ⟨rfl, rfl, rfl, Nat.le_refl _, hdead, fun _ _ h => .inl h, fun _ _ _ => rfl, fun _ _ h => .inl h, fun _ _ h => h⟩
  refine any_ok E hQ ops.size _ (fun _ => false) HS s (f 0).T a w (by simp) (fun j hj => by simp [hj]) ?_ (fun j x hj => absurd hj (by simp)) M
  exact Nat.le_trans (List.countP_le_length) (by simp)

theorem func_sound {C : Ctx} (hC : CtxOK C) (n : Nat) : FuncStep C n := (sound hC (regionStep C) n).2.1
end Go.Tw
