/- A region that draws its order: restricted views, steps in any order. No condition. -/
import Derived.Test.YtjlphacnmonfnaaGreatDoorTwReg1
set_option linter.unusedVariables false
set_option linter.unusedSimpArgs false
namespace Go.Tw

structure Cut (s s2 s' : Nat → Option Nat) (d d2 d' pr pr' : Nat → Prop) : Prop where
  r : ∀ b g, s b = some g → (d2 b ∨ ∃ g2, s2 b = some g2) → s' b = some g ∨ d' b
  d : ∀ b, d b → (d2 b ∨ ∃ g2, s2 b = some g2) → d' b
  p : ∀ g, pr g → pr' g

section
variable {z : TypeId → Nat} {s s2 s' : Nat → Option Nat} {d d2 d' pr pr2 pr' : Nat → Prop} {w w2 : World}

theorem or_cut {α : Prop} {b : Nat} {p q : Nat → Prop} (K : Cut s s2 s' d d2 d' pr pr') (h1 : d b ∨ ∃ g, s b = some g ∧ p g) (h2 : d2 b ∨ ∃ g, s2 b = some g ∧ q g) : d' b ∨ ∃ g, s' b = some g ∧ p g := by
  have h2' : d2 b ∨ ∃ g2, s2 b = some g2 := h2.imp id fun ⟨g, h, _⟩ => ⟨g, h⟩
  rcases h1 with h1 | ⟨g, h1, hp⟩
  · exact .inl (K.d b h1 h2')
  · rcases K.r b g h1 h2' with h | h
    · exact .inr ⟨g, h, hp⟩
    · exact .inl h

mutual
theorem VR.cut (K : Cut s s2 s' d d2 d' pr pr') : ∀ (v : V) (c c2 : Value), VR z s d pr w v c → VR z s2 d2 pr2 w2 v c2 → VR z s' d' pr' w v c
  | .lit v, c, c2, h, h2 => h
  | .ptr b off, c, c2, h, h2 => by
    obtain ⟨x, e, h⟩ := h
    obtain ⟨x2, e2, h2⟩ := h2
    exact ⟨x, e, or_cut (α := True) K h h2⟩
  | .gptr g off, c, c2, h, h2 => h
  | .sl b off len cap opn, c, c2, h, h2 => by
    obtain ⟨x, cap', e, k1, k2, h⟩ := h
    obtain ⟨x2, cap2, e2, _, _, h2⟩ := h2
    exact ⟨x, cap', e, k1, k2, or_cut (α := True) K h h2⟩
  | .zs, c, c2, h, h2 => h
  | .void, c, c2, h, h2 => h
  | .mp b, c, c2, h, h2 => by
    obtain ⟨x, e, h⟩ := h
    obtain ⟨x2, e2, h2⟩ := h2
    have := or_cut (α := True) (p := fun g => g = x) (q := fun g => g = x2) K (h.imp id fun h => ⟨x, h, rfl⟩) (h2.imp id fun h => ⟨x2, h, rfl⟩)
    exact ⟨x, e, this.imp id fun ⟨g, h, e⟩ => e ▸ h⟩
  | .ps cells len, c, c2, h, h2 => by
    obtain ⟨g, off, cap, cs, e, hl, hg, hv, ha⟩ := h
    obtain ⟨g2, off2, cap2, cs2, e2, hl2, hg2, hv2, ha2⟩ := h2
    exact ⟨g, off, cap, cs, e, hl, K.p g hg, VRs.cut K cells cs cs2 hv hv2, ha⟩
  | .pp cells, c, c2, h, h2 => by
    obtain ⟨g, off, cs, e, hg, hv, ha⟩ := h
    obtain ⟨g2, off2, cs2, e2, hg2, hv2, ha2⟩ := h2
    exact ⟨g, off, cs, e, K.p g hg, VRs.cut K cells cs cs2 hv hv2, ha⟩
  | .fn f first cap, c, c2, h, h2 => by
    obtain ⟨xs, ys, e, k1, k2⟩ := h
    obtain ⟨xs2, ys2, e2, l1, l2⟩ := h2
    exact ⟨xs, ys, e, VRs.cut K first _ _ k1 l1, VRs.cut K cap _ _ k2 l2⟩
  | .yld b, c, c2, h, h2 => by
    obtain ⟨x, e, h⟩ := h
    obtain ⟨x2, e2, h2⟩ := h2
    have := or_cut (α := True) (p := fun g => g = x) (q := fun g => g = x2) K (h.imp id fun h => ⟨x, h, rfl⟩) (h2.imp id fun h => ⟨x2, h, rfl⟩)
    exact ⟨x, e, this.imp id fun ⟨g, h, e⟩ => e ▸ h⟩
  | .ifc t v, c, c2, h, h2 => by
    obtain ⟨x, e, h⟩ := h
    obtain ⟨x2, e2, h2⟩ := h2
    exact ⟨x, e, VR.cut K v x x2 h h2⟩
  | .agg cells, c, c2, h, h2 => by
    obtain ⟨xs, e, h⟩ := h
    obtain ⟨xs2, e2, h2⟩ := h2
    exact ⟨xs, e, VRs.cut K cells _ _ h h2⟩
  | .tup vs, c, c2, h, h2 => by
    obtain ⟨xs, e, h⟩ := h
    obtain ⟨xs2, e2, h2⟩ := h2
    exact ⟨xs, e, VRs.cut K vs _ _ h h2⟩
  | .any, c, c2, h, h2 => h
theorem VRs.cut (K : Cut s s2 s' d d2 d' pr pr') : ∀ (vs : List V) (cs cs2 : List Value), VRs z s d pr w vs cs → VRs z s2 d2 pr2 w2 vs cs2 → VRs z s' d' pr' w vs cs
  | [], cs, cs2, h, h2 => h
  | v :: vs, cs, cs2, h, h2 => by
    obtain ⟨c, cs', e, k1, k2⟩ := h
    obtain ⟨c2, cs2', e2, l1, l2⟩ := h2
    exact ⟨c, cs', e, VR.cut K v c c2 k1 l1, VRs.cut K vs cs' cs2' k2 l2⟩
end
end

section
variable {P P2 P' : PH} {s s2 s' : Nat → Option Nat} {H H2 H' : Heap} {w w2 w' : World}

theorem VH.cut (e2 : P2.P = P.P) (e' : P'.P = P.P) (K : Cut s s2 s' (Dead H) (Dead H2) (Dead H') (Prot P s w) (Prot P' s' w)) {v : V} {c c2 : Value} (h : VH P s H w v c) (h2 : VH P2 s2 H2 w2 v c2) : VH P' s' H' w v c := by
  unfold VH at *
  rw [e2] at h2
  rw [e']
  exact VR.cut K v c c2 h h2

theorem MRs.cut (e2 : P2.P = P.P) (e' : P'.P = P.P) (K : Cut s s2 s' (Dead H) (Dead H2) (Dead H') (Prot P s w) (Prot P' s' w)) : ∀ {es : List (V × V × Nat)} {as as2 : List MapEntry}, MRs P s H w es as → MRs P2 s2 H2 w2 es as2 → MRs P' s' H' w es as
  | [], as, as2, h, h2 => h
  | (k, v, b) :: r, as, as2, h, h2 => by
    obtain ⟨e, es', he, h1, h3, h4, h5⟩ := h
    obtain ⟨f, fs', hf, k1, k3, k4, k5⟩ := h2
    exact ⟨e, es', he, VH.cut e2 e' K h1 k1, VH.cut e2 e' K h3 k3, h4, MRs.cut e2 e' K h5 k5⟩

theorem BR.cut (e2 : P2.P = P.P) (e' : P'.P = P.P) (K : Cut s s2 s' (Dead H) (Dead H2) (Dead H') (Prot P s w) (Prot P' s' w)) {B : Blk} {o o2 : Obj} (h : BR P s H w B o) (h2 : BR P2 s2 H2 w2 B o2) : BR P' s' H' w B o := by
  have lists : ∀ {vs : List V} {cs cs2 : List Value}, VHs P s H w vs cs → VHs P2 s2 H2 w2 vs cs2 → VHs P' s' H' w vs cs := by
    intro vs cs cs2 h h2
    unfold VHs at *
    rw [e2] at h2
    rw [e']
    exact VRs.cut K vs cs cs2 h h2
  cases B with
  | cells cs e =>
    obtain ⟨arr, fr, h1, h3, h4⟩ := h
    obtain ⟨arr2, fr2, k1, k3, k4⟩ := h2
    exact ⟨arr, fr, h1, lists h3 k3, h4⟩
  | map es clk =>
    obtain ⟨arr, h1, h3⟩ := h
    obtain ⟨arr2, k1, k3⟩ := h2
    exact ⟨arr, h1, h3.cut e2 e' K k3⟩
  | loop tmps params assign body st pend =>
    obtain ⟨l, h0, h3, h4, h5, h6, h7, h8⟩ := h
    obtain ⟨l2, k0, k3, k4, k5, k6, k7, k8⟩ := h2
    exact ⟨l, h0, h3, h4, h5, h6, h7, lists h8 k8⟩
  | dead => exact h
end

section
variable {P P' : PH} {s s' : Nat → Option Nat} {H H' : Heap} {w w' : World}
theorem MRs.mono2 (e' : P'.P = P.P) (G : Grow s s' (Dead H) (Dead H') (Prot P s w) (Prot P' s' w') w w') : ∀ {es : List (V × V × Nat)} {as : List MapEntry}, MRs P s H w es as → MRs P' s' H' w' es as
  | [], as, h => h
  | (k, v, b) :: r, as, h => by
    obtain ⟨e, es', he, h1, h3, h4, h5⟩ := h
    refine ⟨e, es', he, ?_, ?_, h4, MRs.mono2 e' G h5⟩
    · unfold VH at *; rw [e']; exact VR.mono G _ _ h1
    · unfold VH at *; rw [e']; exact VR.mono G _ _ h3

theorem BR.mono2 (e' : P'.P = P.P) (G : Grow s s' (Dead H) (Dead H') (Prot P s w) (Prot P' s' w') w w') {B : Blk} {o : Obj} (h : BR P s H w B o) : BR P' s' H' w' B o := by
  have lists : ∀ {vs : List V} {cs : List Value}, VHs P s H w vs cs → VHs P' s' H' w' vs cs := by
    intro vs cs h
    unfold VHs at *
    rw [e']
    exact VRs.mono G vs cs h
  cases B with
  | cells cs e =>
    obtain ⟨arr, fr, h1, h3, h4⟩ := h
    exact ⟨arr, fr, h1, lists h3, h4⟩
  | map es clk =>
    obtain ⟨arr, h1, h3⟩ := h
    exact ⟨arr, h1, h3.mono2 e' G⟩
  | loop tmps params assign body st pend =>
    obtain ⟨l, h0, h3, h4, h5, h6, h7, h8⟩ := h
    exact ⟨l, h0, h3, h4, h5, h6, h7, lists h8⟩
  | dead => exact h
end

/-- A step in some order: what it does to memory, 'n0' blocks being there at the region's start. -/
structure Pc (lo n0 : Nat) (s : Nat → Option Nat) (H : Heap) (w : World) (s' : Nat → Option Nat) (H' : Heap) (w' : World) : Prop where
  os : w'.os = w.os
  tape : w'.tape = w.tape
  output : w'.output = w.output
  size : w.heap.size ≤ w'.heap.size
  dd : ∀ b, Dead H b → Dead H' b
  ss : ∀ b g, s b = some g → s' b = some g ∨ (Dead H' b ∧ lo ≤ b)
  frame : ∀ g, g < w.heap.size → (∀ b, s b = some g → b < lo) → w'.heap[g]? = w.heap[g]?
  fresh : ∀ b g, s' b = some g → s b = some g ∨ (n0 ≤ b ∧ (w.heap.size ≤ g ∨ ∃ b0, lo ≤ b0 ∧ s b0 = some g))
  shp : ∀ g x, w.shape? g = some x → w'.shape? g = some x

section
variable {P : PH} {lo n0 l : Nat} {s s' s2 : Nat → Option Nat} {H H' H2 : Heap} {w w' w2 : World}

theorem Pc.refl (lo n0 : Nat) (s : Nat → Option Nat) (H : Heap) (w : World) : Pc lo n0 s H w s H w :=
  ⟨rfl, rfl, rfl, Nat.le_refl _, fun _ h => h, fun _ _ h => .inl h, fun _ _ _ => rfl, fun _ _ h => .inl h, fun _ _ h => h⟩

theorem Pc.ofExt (E : Ext l s H w s' H' w') (hl : lo ≤ l) (hn : n0 ≤ H.n) : Pc lo n0 s H w s' H' w' where
  os := E.os
  tape := E.tape
  output := E.output
  size := E.size
  dd := E.dd
  ss := fun b g h => (E.ss b g h).imp id fun ⟨a, c⟩ => ⟨a, Nat.le_trans hl c⟩
  frame := fun g hg hb => E.frame g hg fun b h => Nat.lt_of_lt_of_le (hb b h) hl
  fresh := fun b g h => (E.fresh b g h).imp id fun ⟨a, c⟩ => ⟨Nat.le_trans hn a, c.imp id fun ⟨b0, x, y⟩ => ⟨b0, Nat.le_trans hl x, y⟩⟩
  shp := E.shp

theorem Pc.trans (E : Pc lo n0 s H w s' H' w') (F : Pc lo n0 s' H' w' s2 H2 w2) : Pc lo n0 s H w s2 H2 w2 where
  os := F.os.trans E.os
  tape := F.tape.trans E.tape
  output := F.output.trans E.output
  size := Nat.le_trans E.size F.size
  dd := fun b h => F.dd b (E.dd b h)
  ss := fun b g h => by
    rcases E.ss b g h with h1 | ⟨h1, h2⟩
    · exact F.ss b g h1
    · exact .inr ⟨F.dd b h1, h2⟩
  frame := fun g hg hb => by
    rw [F.frame g (Nat.lt_of_lt_of_le hg E.size) ?_, E.frame g hg hb]
    intro b h
    rcases E.fresh b g h with h1 | ⟨_, h1 | ⟨b0, h1, h2⟩⟩
    · exact hb b h1
    · omega
    · have := hb b0 h2; omega
  fresh := fun b g h => by
    rcases F.fresh b g h with h1 | ⟨h0, h1⟩
    · exact E.fresh b g h1
    · refine .inr ⟨h0, ?_⟩
      rcases h1 with h1 | ⟨b0, h1, h2⟩
      · exact .inl (Nat.le_trans E.size h1)
      · rcases E.fresh b0 g h2 with h3 | ⟨_, h3⟩
        · exact .inr ⟨b0, h1, h3⟩
        · exact h3
  shp := fun g x h => F.shp g x (E.shp g x h)

theorem Pc.grow (E : Pc lo n0 s H w s' H' w') : Grow s s' (Dead H) (Dead H') (Prot P s w) (Prot P s' w') w w' where
  hd := E.dd
  hs := fun b g h => (E.ss b g h).imp id (·.1)
  hp := fun g ⟨h1, h2, h0⟩ => ⟨Nat.lt_of_lt_of_le h1 E.size, (fun b hb => by
    rcases E.fresh b g hb with h | ⟨_, h | ⟨b0, _, h⟩⟩
    · exact h2 _ h
    · omega
    · exact h2 _ h), h0⟩
  hw := fun g ⟨h1, h2, _⟩ => cell_keep (E.frame g h1 fun b hb => absurd hb (h2 b))
  hz := E.shp

theorem Pc.gok {C : Ctx} {h : Nat → Prop} (E : Pc lo n0 s H w s' H' w') (hk : GOK C h s w) : GOK C h s' w' := by
  refine ⟨fun g hg => Nat.lt_of_lt_of_le (hk.1 g hg) E.size, ?_⟩
  intro g cs hg
  obtain ⟨hp, vs, h1, h2⟩ := hk.2 g cs hg
  have hw := E.frame g hp.1 fun b hb => absurd hb (hp.2.1 b)
  exact ⟨(E.grow (P := C.ph h)).hp g hp, vs, h1.mono' ⟨fun _ h => h, fun _ _ h => .inl h, fun _ h => h, fun _ (h : False) => h.elim, E.shp⟩, h2.keep (cell_keep hw)⟩

theorem Pc.marks {P : PH} {k : Nat} {base ds : List Deferred} (E : Pc lo n0 s H w s' H' w') (hm : Marks P k s w base ds) : Marks P k s' w' base ds := by
  obtain ⟨rs, e, hn, hr⟩ := hm
  refine ⟨rs, e, hn, fun r hrs => ?_⟩
  obtain ⟨h1, h2, h3⟩ := hr r hrs
  exact ⟨h1, E.grow.hp r h2, by rw [E.frame r h2.1 fun b hb => absurd hb (h2.2.1 b)]; exact h3⟩

theorem Pc.rd {ro wro : Option Nat} (E : Pc lo n0 s H w s' H' w') (hr : Rd s H ro wro) : Rd s' H' ro wro := by
  cases ro <;> cases wro <;> simp only [Rd] at hr ⊢
  rcases hr with hr | hr
  · exact .inl (E.dd _ hr)
  · rcases E.ss _ _ hr with h1 | ⟨h1, _⟩
    · exact .inr h1
    · exact .inl h1
end

/-- A heap that holds what is wanted. -/
theorem Heap.of (g : Nat → Option Blk) : ∀ n, ∃ t : Tr Blk, ∀ b, t.get b = if b < n then g b else none
  | 0 => ⟨.nil, fun b => by simp [Tr.get]⟩
  | n + 1 => by
    obtain ⟨t, ht⟩ := Heap.of g n
    cases hg : g n with
    | none =>
      refine ⟨t, fun b => ?_⟩
      rw [ht]
      by_cases e : b = n
      · subst e; simp [hg]
      · by_cases l : b < n
        · rw [if_pos l, if_pos (by omega)]
        · rw [if_neg l, if_neg (by omega)]
    | some x =>
      refine ⟨Tr.set (n + 1) t n x, fun b => ?_⟩
      rw [Tr.get_set _ _ _ _ _ (by omega), ht]
      by_cases e : b = n
      · subst e; simp [hg]
      · rw [if_neg e]
        by_cases l : b < n
        · rw [if_pos l, if_pos (by omega)]
        · rw [if_neg l, if_neg (by omega)]

theorem Heap.mk_of (n : Nat) (g : Nat → Option Blk) : ∃ H : Heap, H.n = n ∧ ∀ b, H.get b = if b < n then g b else none := by
  obtain ⟨t, ht⟩ := Heap.of g n
  refine ⟨⟨n, t⟩, rfl, fun b => ?_⟩
  rw [Heap.get_eq, ht]
  by_cases l : b < n <;> simp [l]

theorem clash0_comm (a b : Eff) : clash0 a b = clash0 b a := by
  have hb : ∀ x y : Nat, Nat.beq x y = Nat.beq y x := by
    intro x y
    by_cases e : x = y
    · subst e; rfl
    · rw [beqf e, beqf (fun h => e h.symm)]
  cases a <;> cases b <;> first
    | rfl
    | exact hb _ _
    | (show (Nat.beq _ _ || Nat.beq _ _) = (Nat.beq _ _ || Nat.beq _ _)
       rename_i b b' x
       first | rw [hb b b', hb b x] | rw [hb b x, hb b' x])
    | (show (Nat.beq _ _ || Nat.beq _ _ || Nat.beq _ _) = (Nat.beq _ _ || Nat.beq _ _ || Nat.beq _ _)
       rename_i b x b' x'
       rw [hb b' b, hb x' b, hb b' x, Bool.or_right_comm])
theorem clash_comm (a b : Eff) : clash a b = clash b a := by
  have key : clash a b = clash0 a.plain b.plain → clash b a = clash0 b.plain a.plain → clash a b = clash b a := fun h1 h2 => by rw [h1, h2, clash0_comm]
  cases a <;> cases b <;> first | exact key rfl rfl | rfl

theorem litEq_eq {x y : V} (h : litEq x y = some true) : x = y := by
  unfold litEq at h
  split at h
  · injection h with h; simp at h; rw [h]
  · split at h
    · rename_i hk; injection h with h; simp at h; rw [h, hk]
    · cases h
  · rename_i a b
    injection h with h
    have : bytes a = bytes b := by simpa using h
    have e : a = b := by
      cases a; cases b
      simp only [bytes] at this
      congr
      exact Array.ext' this
    rw [e]
  · cases h
theorem litEqs_eq : ∀ {xs ys : List V}, litEqs xs ys = some true → xs = ys
  | [], [], _ => rfl
  | [], _ :: _, h => by cases h
  | _ :: _, [], h => by cases h
  | x :: xs, y :: ys, h => by
    simp only [litEqs, Option.bind_eq_bind, Option.bind_eq_some_iff, Option.some.injEq] at h
    obtain ⟨a, ha, b, hb, hab⟩ := h
    simp only [Bool.and_eq_true] at hab
    obtain ⟨rfl, rfl⟩ := hab
    rw [litEq_eq ha, litEqs_eq hb]
theorem plainEq_eq {x y : V} (h : plainEq x y = some true) : x = y := by
  unfold plainEq at h
  split at h
  · rw [litEqs_eq h]
  · exact litEq_eq h
theorem sameV_eq {x y : V} (h : sameV x y = true) : x = y := by
  unfold sameV at h
  split at h
  · rename_i b hb; subst h; exact plainEq_eq hb
  · cases h
end Go.Tw
