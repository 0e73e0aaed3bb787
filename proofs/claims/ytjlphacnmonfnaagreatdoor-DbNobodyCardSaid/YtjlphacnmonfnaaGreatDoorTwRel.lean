/- The relation of an own heap to a world, how both grow, and the three ways in which they do: a new block, a block that is written, a row that grows. No condition. -/
import Derived.Test.YtjlphacnmonfnaaGreatDoorTwOps
set_option linter.unusedVariables false
set_option linter.unusedSimpArgs false
namespace Go.Tw

def Dead (H : Heap) (b : Nat) : Prop := H.get b = some .dead
/-- A program, and blocks of a world that are to be left alone. -/
structure PH where
  P : Program
  hid : Nat → Prop
instance : Coe PH Program := ⟨PH.P⟩
def Prot (P : PH) (s : Nat → Option Nat) (w : World) (g : Nat) : Prop := g < w.heap.size ∧ (∀ b, s b ≠ some g) ∧ ¬ P.hid g
abbrev VH (P : PH) (s : Nat → Option Nat) (H : Heap) (w : World) : V → Value → Prop := VR (szP P) s (Dead H) (Prot P s w) w
abbrev VHs (P : PH) (s : Nat → Option Nat) (H : Heap) (w : World) : List V → List Value → Prop := VRs (szP P) s (Dead H) (Prot P s w) w

def MRs (P : PH) (s : Nat → Option Nat) (H : Heap) (w : World) : List (V × V × Nat) → List MapEntry → Prop
  | [], es => es = []
  | (k, v, b) :: r, es => ∃ e es', es = e :: es' ∧ VH P s H w k e.key ∧ VH P s H w v e.val ∧ e.born = b ∧ MRs P s H w r es'

def BR (P : PH) (s : Nat → Option Nat) (H : Heap) (w : World) : Blk → Obj → Prop
  | .cells cs e, o => ∃ arr fr, o = .cells arr e fr ∧ VHs P s H w cs (arr.toList.take cs.length) ∧ (∀ i, i < arr.size → (decide (fr.1 ≤ i) && decide (i < fr.2)) = false)
  | .map es clk, o => ∃ arr, o = .map arr clk ∧ MRs P s H w es arr.toList
  | .loop tmps params assign body st pend, o => ∃ l : Loop, o = .loop l ∧ l.params = params.toArray ∧ l.assign = assign ∧ l.body = body ∧ l.state = st ∧ l.pending = pend ∧ VHs P s H w tmps l.tmps.toList
  | .dead, _ => False

structure HR (P : PH) (s : Nat → Option Nat) (H : Heap) (w : World) : Prop where
  dom : ∀ b g, s b = some g → ∃ B o, H.get b = some B ∧ w.heap[g]? = some o ∧ BR P s H w B o
  inj : ∀ b b' g, s b = some g → s b' = some g → b = b'

structure Ext (lo : Nat) (s : Nat → Option Nat) (H : Heap) (w : World) (s' : Nat → Option Nat) (H' : Heap) (w' : World) : Prop where
  os : w'.os = w.os
  tape : w'.tape = w.tape
  output : w'.output = w.output
  size : w.heap.size ≤ w'.heap.size
  hn : H.n ≤ H'.n
  dd : ∀ b, Dead H b → Dead H' b
  ss : ∀ b g, s b = some g → s' b = some g ∨ (Dead H' b ∧ lo ≤ b)
  frame : ∀ g, g < w.heap.size → (∀ b, s b = some g → b < lo) → w'.heap[g]? = w.heap[g]?
  fresh : ∀ b g, s' b = some g → s b = some g ∨ (H.n ≤ b ∧ (w.heap.size ≤ g ∨ ∃ b0, lo ≤ b0 ∧ s b0 = some g))
  shp : ∀ g x, w.shape? g = some x → w'.shape? g = some x
  old : ∀ b, b < lo → b < H.n → H'.get b = H.get b
  cov : ∀ b, H.n ≤ b → b < H'.n → Dead H' b ∨ ∃ g, s' b = some g

section
variable {P : PH} {s s' s2 : Nat → Option Nat} {H H' H2 : Heap} {w w' w2 : World} {lo lo' : Nat}

theorem HR.lt (h : HR P s H w) {b g : Nat} (hb : s b = some g) : b < H.n ∧ g < w.heap.size := by
  obtain ⟨B, o, h1, h2, _⟩ := h.dom b g hb
  refine ⟨Heap.get_lt h1, ?_⟩
  rcases Nat.lt_or_ge g w.heap.size with h' | h'
  · exact h'
  · simp [Array.getElem?_eq_none h'] at h2

theorem HR.alive (h : HR P s H w) {b g : Nat} (hb : s b = some g) : ¬ Dead H b := by
  obtain ⟨B, o, h1, h2, h3⟩ := h.dom b g hb
  intro hd
  rw [Dead, h1] at hd
  injection hd with hd
  subst hd
  exact h3

theorem Ext.grow (E : Ext lo s H w s' H' w') : Grow s s' (Dead H) (Dead H') (Prot P s w) (Prot P s' w') w w' where
  hd := E.dd
  hs := fun b g h => (E.ss b g h).imp id (·.1)
  hp := fun g ⟨h1, h2, h0⟩ => ⟨Nat.lt_of_lt_of_le h1 E.size, (fun b hb => by
    rcases E.fresh b g hb with h | ⟨_, h | ⟨b0, _, h⟩⟩
    · exact h2 _ h
    · omega
    · exact h2 _ h), h0⟩
  hw := fun g ⟨h1, h2, _⟩ => cell_keep (E.frame g h1 fun b hb => absurd hb (h2 b))
  hz := E.shp

theorem Ext.vh (E : Ext lo s H w s' H' w') {v : V} {c : Value} (h : VH P s H w v c) : VH P s' H' w' v c := VR.mono E.grow v c h
theorem Ext.vhs (E : Ext lo s H w s' H' w') {vs : List V} {cs : List Value} (h : VHs P s H w vs cs) : VHs P s' H' w' vs cs := VRs.mono E.grow vs cs h

theorem Ext.refl (s : Nat → Option Nat) (H : Heap) (w : World) : Ext H.n s H w s H w :=
  ⟨rfl, rfl, rfl, Nat.le_refl _, Nat.le_refl _, fun _ h => h, fun _ _ h => .inl h, fun _ _ _ => rfl, fun _ _ h => .inl h, fun _ _ h => h, fun _ _ _ => rfl, fun b h h' => by omega⟩

theorem Ext.drew (s : Nat → Option Nat) (H : Heap) (w : World) : Ext H.n s H w s H w.drew :=
  ⟨rfl, rfl, rfl, Nat.le_refl _, Nat.le_refl _, fun _ h => h, fun _ _ h => .inl h, fun _ _ _ => rfl, fun _ _ h => .inl h, fun _ _ h => h, fun _ _ _ => rfl, fun b h h' => by omega⟩

theorem Ext.trans (hw : ∀ b g, s b = some g → b < H.n) (E : Ext lo s H w s' H' w') (F : Ext lo' s' H' w' s2 H2 w2) : Ext (min lo lo') s H w s2 H2 w2 where
  os := F.os.trans E.os
  tape := F.tape.trans E.tape
  output := F.output.trans E.output
  size := Nat.le_trans E.size F.size
  hn := Nat.le_trans E.hn F.hn
  dd := fun b h => F.dd b (E.dd b h)
  ss := fun b g h => by
    rcases E.ss b g h with h1 | ⟨h1, h2⟩
    · rcases F.ss b g h1 with h3 | ⟨h3, h4⟩
      · exact .inl h3
      · exact .inr ⟨h3, by omega⟩
    · exact .inr ⟨F.dd b h1, by omega⟩
  frame := fun g hg hb => by
    rw [F.frame g (Nat.lt_of_lt_of_le hg E.size) ?_, E.frame g hg fun b h => by have := hb b h; omega]
    intro b h
    rcases E.fresh b g h with h1 | ⟨_, h1 | ⟨b0, h1, h2⟩⟩
    · have := hb b h1; omega
    · omega
    · have := hb b0 h2; omega
  fresh := fun b g h => by
    rcases F.fresh b g h with h1 | ⟨h0, h1⟩
    · rcases E.fresh b g h1 with h2 | ⟨h2, h3⟩
      · exact .inl h2
      · refine .inr ⟨h2, ?_⟩
        rcases h3 with h3 | ⟨b0, h3, h4⟩
        · exact .inl h3
        · exact .inr ⟨b0, by omega, h4⟩
    · refine .inr ⟨Nat.le_trans E.hn h0, ?_⟩
      rcases h1 with h1 | ⟨b0, h1, h2⟩
      · exact .inl (Nat.le_trans E.size h1)
      · rcases E.fresh b0 g h2 with h3 | ⟨_, h3 | ⟨b1, h3, h4⟩⟩
        · exact .inr ⟨b0, by omega, h3⟩
        · exact .inl h3
        · exact .inr ⟨b1, by omega, h4⟩
  shp := fun g x h => F.shp g x (E.shp g x h)
  old := fun b h hn => by
    rw [F.old b (by omega) (Nat.lt_of_lt_of_le hn E.hn), E.old b (by omega) hn]
  cov := fun b h1 h2 => by
    by_cases h : b < H'.n
    · rcases E.cov b h1 h with h3 | ⟨g, h3⟩
      · exact .inl (F.dd b h3)
      · rcases F.ss b g h3 with h4 | ⟨h4, _⟩
        · exact .inr ⟨g, h4⟩
        · exact .inl h4
    · exact F.cov b (by omega) h2

theorem Ext.weak (E : Ext lo s H w s' H' w') {l : Nat} (h : l ≤ lo) : Ext l s H w s' H' w' where
  os := E.os
  tape := E.tape
  output := E.output
  size := E.size
  hn := E.hn
  dd := E.dd
  ss := fun b g h' => (E.ss b g h').imp id fun ⟨a, c⟩ => ⟨a, Nat.le_trans h c⟩
  frame := fun g hg hb => E.frame g hg fun b h' => Nat.lt_of_lt_of_le (hb b h') h
  fresh := fun b g h' => (E.fresh b g h').imp id fun ⟨a, c⟩ => ⟨a, c.imp id fun ⟨b0, x, y⟩ => ⟨b0, Nat.le_trans h x, y⟩⟩
  shp := E.shp
  old := fun b hb => E.old b (Nat.lt_of_lt_of_le hb h)
  cov := E.cov

theorem MRs.mono (E : Grow s s' (Dead H) (Dead H') (Prot P s w) (Prot P s' w') w w') : ∀ {es : List (V × V × Nat)} {as : List MapEntry}, MRs P s H w es as → MRs P s' H' w' es as
  | [], as, h => h
  | (k, v, b) :: r, as, h => by
    obtain ⟨e, es', he, h1, h2, h3, h4⟩ := h
    exact ⟨e, es', he, VR.mono E _ _ h1, VR.mono E _ _ h2, h3, MRs.mono E h4⟩

theorem BR.mono (E : Grow s s' (Dead H) (Dead H') (Prot P s w) (Prot P s' w') w w') {B : Blk} {o : Obj} (h : BR P s H w B o) : BR P s' H' w' B o := by
  cases B with
  | cells cs e =>
    obtain ⟨arr, fr, h1, h2, h3⟩ := h
    exact ⟨arr, fr, h1, VRs.mono E _ _ h2, h3⟩
  | map es clk =>
    obtain ⟨arr, h1, h2⟩ := h
    exact ⟨arr, h1, h2.mono E⟩
  | loop tmps params assign body st pend =>
    obtain ⟨l, h0, h2, h3, h4, h5, h6, h7⟩ := h
    exact ⟨l, h0, h2, h3, h4, h5, h6, VRs.mono E _ _ h7⟩
  | dead => exact h

/-- A new block. -/
theorem new_block (h : HR P s H w) {B : Blk} {o : Obj} (hB : BR P s H w B o) :
    HR P (fun b => if b = H.n then some w.heap.size else s b) (H.push B) (w.alloc o) ∧
    Ext H.n s H w (fun b => if b = H.n then some w.heap.size else s b) (H.push B) (w.alloc o) := by
  have hB0 : B ≠ .dead := by intro e; subst e; exact hB
  have hnone : s H.n = none := by
    cases e : s H.n with
    | none => rfl
    | some g => have := (h.lt e).1; omega
  have E : Ext H.n s H w (fun b => if b = H.n then some w.heap.size else s b) (H.push B) (w.alloc o) := by
    refine ⟨rfl, rfl, rfl, by simp, by rw [Heap.n_push]; omega, fun b hb => ?_, fun b g hb => .inl ?_, fun g hg _ => ?_, fun b g hb => ?_, fun g x hx => ?_, fun b _ hn => ?_, fun b h1 h2 => .inr ⟨w.heap.size, if_pos (by rw [Heap.n_push] at h2; omega)⟩⟩
    · have := Heap.get_lt hb
      show (H.push B).get b = _
      rw [Heap.get_push, if_neg (by omega)]; exact hb
    · have := (h.lt hb).1
      show (if b = H.n then _ else _) = _
      rw [if_neg (by omega)]; exact hb
    · show (w.heap.push o)[g]? = _
      rw [Array.getElem?_push, if_neg (by omega)]
    · by_cases e : b = H.n
      · rw [if_pos e] at hb
        injection hb with hb
        exact .inr ⟨by omega, .inl (by omega)⟩
      · rw [if_neg e] at hb
        exact .inl hb
    · have hg : g < w.heap.size := by
        rcases Nat.lt_or_ge g w.heap.size with h' | h'
        · exact h'
        · simp [World.shape?, Array.getElem?_eq_none h'] at hx
      simp only [World.shape?] at hx ⊢
      show (match (w.heap.push o)[g]? with | some (.cells c elem _) => _ | _ => _) = _
      rw [Array.getElem?_push, if_neg (by omega)]; exact hx
    · rw [Heap.get_push, if_neg (by omega)]
  refine ⟨⟨fun b g hb => ?_, fun b b' g hb hb' => ?_⟩, E⟩
  · by_cases e : b = H.n
    · rw [if_pos e] at hb
      injection hb with hb
      subst hb
      refine ⟨B, o, by rw [Heap.get_push, if_pos e], ?_, hB.mono E.grow⟩
      show (w.heap.push o)[w.heap.size]? = _
      simp
    · rw [if_neg e] at hb
      obtain ⟨B', o', h1, h2, h3⟩ := h.dom b g hb
      refine ⟨B', o', by rw [Heap.get_push, if_neg e]; exact h1, ?_, h3.mono E.grow⟩
      show (w.heap.push o)[g]? = _
      have := (h.lt hb).2
      rw [Array.getElem?_push, if_neg (by omega)]; exact h2
  · have key : ∀ x, (if x = H.n then some w.heap.size else s x) = some g → x = H.n ∧ g = w.heap.size ∨ x ≠ H.n ∧ s x = some g := by
      intro x hx
      by_cases e : x = H.n
      · rw [if_pos e] at hx; injection hx with hx; exact .inl ⟨e, hx.symm⟩
      · rw [if_neg e] at hx; exact .inr ⟨e, hx⟩
    rcases key b hb with ⟨e1, e2⟩ | ⟨e1, e2⟩ <;> rcases key b' hb' with ⟨f1, f2⟩ | ⟨f1, f2⟩
    · omega
    · have := (h.lt f2).2; omega
    · have := (h.lt e2).2; omega
    · exact h.inj b b' g e2 f2

/-- A world in which one block is another one. -/
def put (w : World) (g : Nat) (o : Obj) : World := { w with heap := w.heap.setIfInBounds g o }
theorem put_get (w : World) (g : Nat) (o : Obj) (i : Nat) : (put w g o).heap[i]? = if i = g ∧ g < w.heap.size then some o else w.heap[i]? := by
  show (w.heap.setIfInBounds g o)[i]? = _
  rw [Array.getElem?_setIfInBounds]
  by_cases e : g = i
  · subst e; by_cases l : g < w.heap.size <;> simp [l]
  · have : ¬ i = g := fun h => e h.symm
    simp [e, this]
theorem put_size (w : World) (g : Nat) (o : Obj) : (put w g o).heap.size = w.heap.size := by simp [put]

/-- A block that is written. -/
theorem write_block (h : HR P s H w) {b g : Nat} (hb : s b = some g) {B : Blk} {o o0 : Obj} (ho : w.heap[g]? = some o0) (hB : BR P s H w B o)
    (hs : ∀ x, World.shape? w g = some x → World.shape? (put w g o) g = some x) : HR P s (H.set b B) (put w g o) ∧ Ext b s H w s (H.set b B) (put w g o) := by
  obtain ⟨hb1, hg1⟩ := h.lt hb
  have hB0 : B ≠ .dead := by intro e; subst e; exact hB
  have E : Ext b s H w s (H.set b B) (put w g o) := by
    refine ⟨rfl, rfl, rfl, by rw [put_size]; omega, by rw [Heap.n_set]; omega, fun x hx => ?_, fun x y hx => .inl hx, fun y hy hx => ?_, fun x y hx => .inl hx, fun y x hx => ?_, fun x hx _ => ?_, fun x h1 h2 => by rw [Heap.n_set] at h2; omega⟩
    · show (H.set b B).get x = _
      rw [Heap.get_set]
      by_cases e : x = b
      · subst e; exact absurd hx (h.alive hb)
      · rw [if_neg (fun h => e h.1)]; exact hx
    · rw [put_get, if_neg]
      rintro ⟨rfl, _⟩
      have := hx b hb
      omega
    · by_cases e : y = g
      · subst e; exact hs x hx
      · simp only [World.shape?] at hx ⊢
        rw [put_get, if_neg (fun h => e h.1)]; exact hx
    · rw [Heap.get_set, if_neg (fun h => by omega)]
  refine ⟨⟨fun x y hx => ?_, h.inj⟩, E⟩
  by_cases e : x = b
  · subst e
    have : y = g := by rw [hb] at hx; injection hx with hx; exact hx.symm
    subst this
    exact ⟨B, o, by rw [Heap.get_set, if_pos ⟨rfl, hb1⟩], by rw [put_get, if_pos ⟨rfl, hg1⟩], hB.mono E.grow⟩
  · obtain ⟨B', o', h1, h2, h3⟩ := h.dom x y hx
    have hy : y ≠ g := fun hy => e (h.inj x b y hx (hy ▸ hb))
    exact ⟨B', o', by rw [Heap.get_set, if_neg (fun h => e h.1)]; exact h1, by rw [put_get, if_neg (fun h => hy h.1)]; exact h2, h3.mono E.grow⟩

/-- A row that grows where it lies. -/
theorem grow_here (h : HR P s H w) {b g : Nat} (hb : s b = some g) {B : Blk} {o o0 : Obj} (ho : w.heap[g]? = some o0) (hB : BR P s H w B o)
    (hs : ∀ x, World.shape? w g = some x → World.shape? (put w g o) g = some x) :
    HR P (fun x => if x = H.n then some g else if x = b then none else s x) ((H.push B).set b .dead) (put w g o) ∧
    Ext b s H w (fun x => if x = H.n then some g else if x = b then none else s x) ((H.push B).set b .dead) (put w g o) := by
  obtain ⟨hb1, hg1⟩ := h.lt hb
  have hB0 : B ≠ .dead := by intro e; subst e; exact hB
  have hget : ∀ x, ((H.push B).set b .dead).get x = if x = b then some .dead else if x = H.n then some B else H.get x := by
    intro x
    rw [Heap.get_set, Heap.get_push, Heap.n_push]
    by_cases e : x = b
    · rw [if_pos ⟨e, by omega⟩, if_pos e]
    · rw [if_neg (fun h => e h.1), if_neg e]
  have E : Ext b s H w (fun x => if x = H.n then some g else if x = b then none else s x) ((H.push B).set b .dead) (put w g o) := by
    refine ⟨rfl, rfl, rfl, by rw [put_size]; omega, by rw [Heap.n_set, Heap.n_push]; omega, fun x hx => ?_, fun x y hx => ?_, fun y hy hx => ?_, fun x y hx => ?_, fun y x hx => ?_, fun x hx hn => ?_, fun x h1 h2 => .inr ⟨g, if_pos (by rw [Heap.n_set, Heap.n_push] at h2; omega)⟩⟩
    · have := Heap.get_lt hx
      show _ = _
      rw [hget]
      by_cases e : x = b
      · rw [if_pos e]
      · rw [if_neg e, if_neg (by omega)]; exact hx
    · have := (h.lt hx).1
      by_cases e : x = b
      · refine .inr ⟨?_, by omega⟩
        show _ = _
        rw [hget, if_pos e]
      · refine .inl ?_
        show (if x = H.n then _ else _) = _
        rw [if_neg (by omega), if_neg e]; exact hx
    · rw [put_get, if_neg]
      rintro ⟨rfl, _⟩
      have := hx b hb
      omega
    · by_cases e : x = H.n
      · rw [if_pos e] at hx
        injection hx with hx
        subst hx
        exact .inr ⟨by omega, .inr ⟨b, Nat.le_refl _, hb⟩⟩
      · rw [if_neg e] at hx
        by_cases e' : x = b
        · rw [if_pos e'] at hx; cases hx
        · rw [if_neg e'] at hx; exact .inl hx
    · by_cases e : y = g
      · subst e; exact hs x hx
      · simp only [World.shape?] at hx ⊢
        rw [put_get, if_neg (fun h => e h.1)]; exact hx
    · rw [hget, if_neg (by omega), if_neg (by omega)]
  refine ⟨⟨fun x y hx => ?_, fun x x' y hx hx' => ?_⟩, E⟩
  · by_cases e : x = H.n
    · rw [if_pos e] at hx
      injection hx with hx
      subst hx
      exact ⟨B, o, by rw [hget, if_neg (by omega), if_pos e], by rw [put_get, if_pos ⟨rfl, hg1⟩], hB.mono E.grow⟩
    · rw [if_neg e] at hx
      by_cases e' : x = b
      · rw [if_pos e'] at hx; cases hx
      · rw [if_neg e'] at hx
        obtain ⟨B', o', h1, h2, h3⟩ := h.dom x y hx
        have hy : y ≠ g := fun hy => e' (h.inj x b y hx (hy ▸ hb))
        exact ⟨B', o', by rw [hget, if_neg e', if_neg e]; exact h1, by rw [put_get, if_neg (fun h => hy h.1)]; exact h2, h3.mono E.grow⟩
  · have key : ∀ z, (if z = H.n then some g else if z = b then none else s z) = some y → (z = H.n ∧ y = g) ∨ (z ≠ b ∧ s z = some y) := by
      intro z hz
      by_cases e : z = H.n
      · rw [if_pos e] at hz; injection hz with hz; exact .inl ⟨e, hz.symm⟩
      · rw [if_neg e] at hz
        by_cases e' : z = b
        · rw [if_pos e'] at hz; cases hz
        · rw [if_neg e'] at hz; exact .inr ⟨e', hz⟩
    rcases key x hx with ⟨e1, e2⟩ | ⟨e1, e2⟩ <;> rcases key x' hx' with ⟨f1, f2⟩ | ⟨f1, f2⟩
    · omega
    · subst e2; exact absurd (h.inj x' b y f2 hb) f1
    · subst f2; exact absurd (h.inj x b y e2 hb) e1
    · exact h.inj x x' y e2 f2

/-- A row that grows elsewhere. -/
theorem grow_away (h : HR P s H w) {b g : Nat} (hb : s b = some g) {B : Blk} {o : Obj} (hB : BR P s H w B o) :
    HR P (fun x => if x = H.n then some w.heap.size else if x = b then none else s x) ((H.push B).set b .dead) (w.alloc o) ∧
    Ext b s H w (fun x => if x = H.n then some w.heap.size else if x = b then none else s x) ((H.push B).set b .dead) (w.alloc o) := by
  obtain ⟨hb1, hg1⟩ := h.lt hb
  have hB0 : B ≠ .dead := by intro e; subst e; exact hB
  have hget : ∀ x, ((H.push B).set b .dead).get x = if x = b then some .dead else if x = H.n then some B else H.get x := by
    intro x
    rw [Heap.get_set, Heap.get_push, Heap.n_push]
    by_cases e : x = b
    · rw [if_pos ⟨e, by omega⟩, if_pos e]
    · rw [if_neg (fun h => e h.1), if_neg e]
  have hold : ∀ y, y < w.heap.size → (w.alloc o).heap[y]? = w.heap[y]? := fun y hy => by
    show (w.heap.push o)[y]? = _
    rw [Array.getElem?_push, if_neg (by omega)]
  have E : Ext b s H w (fun x => if x = H.n then some w.heap.size else if x = b then none else s x) ((H.push B).set b .dead) (w.alloc o) := by
    refine ⟨rfl, rfl, rfl, by simp, by rw [Heap.n_set, Heap.n_push]; omega, fun x hx => ?_, fun x y hx => ?_, fun y hy hx => hold y hy, fun x y hx => ?_, fun y x hx => ?_, fun x hx hn => ?_, fun x h1 h2 => .inr ⟨w.heap.size, if_pos (by rw [Heap.n_set, Heap.n_push] at h2; omega)⟩⟩
    · have := Heap.get_lt hx
      show _ = _
      rw [hget]
      by_cases e : x = b
      · rw [if_pos e]
      · rw [if_neg e, if_neg (by omega)]; exact hx
    · have := (h.lt hx).1
      by_cases e : x = b
      · refine .inr ⟨?_, by omega⟩
        show _ = _
        rw [hget, if_pos e]
      · refine .inl ?_
        show (if x = H.n then _ else _) = _
        rw [if_neg (by omega), if_neg e]; exact hx
    · by_cases e : x = H.n
      · rw [if_pos e] at hx
        injection hx with hx
        exact .inr ⟨by omega, .inl (by omega)⟩
      · rw [if_neg e] at hx
        by_cases e' : x = b
        · rw [if_pos e'] at hx; cases hx
        · rw [if_neg e'] at hx; exact .inl hx
    · have hg : y < w.heap.size := by
        rcases Nat.lt_or_ge y w.heap.size with h' | h'
        · exact h'
        · simp [World.shape?, Array.getElem?_eq_none h'] at hx
      simp only [World.shape?] at hx ⊢
      rw [hold y hg]; exact hx
    · rw [hget, if_neg (by omega), if_neg (by omega)]
  refine ⟨⟨fun x y hx => ?_, fun x x' y hx hx' => ?_⟩, E⟩
  · by_cases e : x = H.n
    · rw [if_pos e] at hx
      injection hx with hx
      subst hx
      refine ⟨B, o, by rw [hget, if_neg (by omega), if_pos e], ?_, hB.mono E.grow⟩
      show (w.heap.push o)[w.heap.size]? = _
      simp
    · rw [if_neg e] at hx
      by_cases e' : x = b
      · rw [if_pos e'] at hx; cases hx
      · rw [if_neg e'] at hx
        obtain ⟨B', o', h1, h2, h3⟩ := h.dom x y hx
        exact ⟨B', o', by rw [hget, if_neg e', if_neg e]; exact h1, by rw [hold y (h.lt hx).2]; exact h2, h3.mono E.grow⟩
  · have key : ∀ z, (if z = H.n then some w.heap.size else if z = b then none else s z) = some y → (z = H.n ∧ y = w.heap.size) ∨ s z = some y := by
      intro z hz
      by_cases e : z = H.n
      · rw [if_pos e] at hz; injection hz with hz; exact .inl ⟨e, hz.symm⟩
      · rw [if_neg e] at hz
        by_cases e' : z = b
        · rw [if_pos e'] at hz; cases hz
        · rw [if_neg e'] at hz; exact .inr hz
    rcases key x hx with ⟨e1, e2⟩ | e2 <;> rcases key x' hx' with ⟨f1, f2⟩ | f2
    · omega
    · have := (h.lt f2).2; omega
    · have := (h.lt e2).2; omega
    · exact h.inj x x' y e2 f2
end
end Go.Tw
