/- Own values for a deterministic evaluator of the model's code: a literal, references into an own heap, and pure (never written) slices and pointers; the relation of such a value to a value of the model in a world. Plain definitions and lemmas; no condition. -/
import Derived.Calls
import Derived.Tactics
import Derived.Below
import Derived.Laws.World
import Derived.Laws.Sem
import Derived.Laws.Cells
set_option linter.unusedVariables false
set_option linter.unusedSimpArgs false
namespace Go.Tw

/-- An own value. -/
inductive V where
  | lit (v : Value)
  | ptr (b off : Nat)
  | gptr (g off : Nat)
  | sl (b off len cap : Nat) (opn : Option Nat)
  | zs
  | void
  | mp (b : Nat)
  | ps (cells : List V) (len : Nat)
  | pp (cells : List V)
  | fn (f : Fn) (first captured : List V)
  | yld (b : Nat)
  | ifc (t : TypeId) (v : V)
  | agg (cells : List V)
  | tup (vs : List V)
  | any
  deriving Inhabited

/-- What is at an address, cell by cell. -/
def HoldsAt (w : World) (a : Addr) (cs : List Value) : Prop := ∀ i c, cs[i]? = some c → w.cell? ⟨a.block, a.off + i, none⟩ = some c

mutual
/-- An own value stands for a value of the model: 'z': a type's size in cells; 's': where a block of the own heap lies; 'd': which of these are dead; 'pr': where pure memory may lie. -/
def VR (z : TypeId → Nat) (s : Nat → Option Nat) (d : Nat → Prop) (pr : Nat → Prop) (w : World) : V → Value → Prop
  | .lit v, c => c = v
  | .ptr b off, c => ∃ x, c = .pointer (some x) ∧ (d b ∨ ∃ g, s b = some g ∧ x = ⟨g, off, none⟩)
  | .gptr g off, c => c = .pointer (some ⟨g, off, none⟩)
  | .sl b off len cap opn, c => ∃ x cap', c = .slice (some x) len cap' ∧ cap ≤ cap' ∧ (opn = none → cap' = cap) ∧ (d b ∨ ∃ g, s b = some g ∧ x = ⟨g, off, none⟩ ∧ (∀ k, opn = some k → ∃ e n, w.shape? g = some (e, n) ∧ off + cap' * k ≤ n))
  | .zs, c => ∃ a, c = .slice (some a) 0 0
  | .void, c => ∃ a cap, c = .slice (some a) 0 cap
  | .mp b, c => ∃ x, c = .map (some x) ∧ (d b ∨ s b = some x)
  | .ps cells len, c => ∃ g off cap cs, c = .slice (some ⟨g, off, none⟩) len cap ∧ len ≤ cap ∧ pr g ∧ VRs z s d pr w cells cs ∧ HoldsAt w ⟨g, off, none⟩ cs
  | .pp cells, c => ∃ g off cs, c = .pointer (some ⟨g, off, none⟩) ∧ pr g ∧ VRs z s d pr w cells cs ∧ HoldsAt w ⟨g, off, none⟩ cs
  | .fn f first cap, c => ∃ xs ys, c = .func f xs ys ∧ VRs z s d pr w first xs.toList ∧ VRs z s d pr w cap ys.toList
  | .yld b, c => ∃ x, c = .func (.yield x) #[] #[] ∧ (d b ∨ s b = some x)
  | .ifc t v, c => ∃ x, c = .iface t x ∧ VR z s d pr w v x
  | .agg cells, c => ∃ xs, c = .agg xs ∧ VRs z s d pr w cells xs.toList
  | .tup vs, c => ∃ xs, c = .tuple xs ∧ VRs z s d pr w vs xs.toList
  | .any, c => True
def VRs (z : TypeId → Nat) (s : Nat → Option Nat) (d : Nat → Prop) (pr : Nat → Prop) (w : World) : List V → List Value → Prop
  | [], cs => cs = []
  | v :: vs, cs => ∃ c cs', cs = c :: cs' ∧ VR z s d pr w v c ∧ VRs z s d pr w vs cs'
end

section mono
variable {z : TypeId → Nat} {s s' : Nat → Option Nat} {d d' : Nat → Prop} {pr pr' : Nat → Prop} {w w' : World}

theorem cell_keep {w w' : World} {g : Nat} (h : w'.heap[g]? = w.heap[g]?) (off : Nat) (c : Value) (hc : w.cell? ⟨g, off, none⟩ = some c) : w'.cell? ⟨g, off, none⟩ = some c := by
  simp only [World.cell?] at hc ⊢
  rw [h]
  exact hc

theorem HoldsAt.keep {a : Addr} {cs : List Value} (h : HoldsAt w a cs) (hb : ∀ off c, w.cell? ⟨a.block, off, none⟩ = some c → w'.cell? ⟨a.block, off, none⟩ = some c) : HoldsAt w' a cs :=
  fun i c hi => hb _ _ (h i c hi)

/-- One world, heap and place of blocks grow out of another one: what stood for a value stands for it still. -/
structure Grow (s s' : Nat → Option Nat) (d d' : Nat → Prop) (pr pr' : Nat → Prop) (w w' : World) : Prop where
  hd : ∀ b, d b → d' b
  hs : ∀ b g, s b = some g → s' b = some g ∨ d' b
  hp : ∀ g, pr g → pr' g
  hw : ∀ g, pr g → ∀ off c, w.cell? ⟨g, off, none⟩ = some c → w'.cell? ⟨g, off, none⟩ = some c
  hz : ∀ g x, w.shape? g = some x → w'.shape? g = some x

mutual
theorem VR.mono (G : Grow s s' d d' pr pr' w w') : ∀ (v : V) (c : Value), VR z s d pr w v c → VR z s' d' pr' w' v c
  | .lit v, c, h => h
  | .ptr b off, c, h => by
    obtain ⟨x, e, h⟩ := h
    refine ⟨x, e, ?_⟩
    rcases h with h | ⟨g, h, e⟩
    · exact .inl (G.hd _ h)
    · rcases G.hs b g h with h' | h'
      · exact .inr ⟨g, h', e⟩
      · exact .inl h'
  | .gptr g off, c, h => h
  | .sl b off len cap opn, c, h => by
    obtain ⟨x, cap', e, e2, e3, h⟩ := h
    refine ⟨x, cap', e, e2, e3, ?_⟩
    rcases h with h | ⟨g, h, e1, e4⟩
    · exact .inl (G.hd _ h)
    · rcases G.hs b g h with h' | h'
      · exact .inr ⟨g, h', e1, fun k ho => let ⟨e, n, hn, hl⟩ := e4 k ho; ⟨e, n, G.hz _ _ hn, hl⟩⟩
      · exact .inl h'
  | .zs, c, h => h
  | .void, c, h => h
  | .mp b, c, h => by
    obtain ⟨x, e, h⟩ := h
    refine ⟨x, e, ?_⟩
    rcases h with h | h
    · exact .inl (G.hd _ h)
    · rcases G.hs b x h with h' | h'
      · exact .inr h'
      · exact .inl h'
  | .ps cells len, c, h => by
    obtain ⟨g, off, cap, cs, e, hl, hg, hv, ha⟩ := h
    exact ⟨g, off, cap, cs, e, hl, G.hp _ hg, VRs.mono G cells cs hv, ha.keep (G.hw g hg)⟩
  | .pp cells, c, h => by
    obtain ⟨g, off, cs, e, hg, hv, ha⟩ := h
    exact ⟨g, off, cs, e, G.hp _ hg, VRs.mono G cells cs hv, ha.keep (G.hw g hg)⟩
  | .fn f first cap, c, h => by
    obtain ⟨xs, ys, e, h1, h2⟩ := h
    exact ⟨xs, ys, e, VRs.mono G first _ h1, VRs.mono G cap _ h2⟩
  | .yld b, c, h => by
    obtain ⟨x, e, h⟩ := h
    refine ⟨x, e, ?_⟩
    rcases h with h | h
    · exact .inl (G.hd _ h)
    · rcases G.hs b x h with h' | h'
      · exact .inr h'
      · exact .inl h'
  | .ifc t v, c, h => by
    obtain ⟨x, e, h⟩ := h
    exact ⟨x, e, VR.mono G v x h⟩
  | .agg cells, c, h => by
    obtain ⟨xs, e, h⟩ := h
    exact ⟨xs, e, VRs.mono G cells _ h⟩
  | .tup vs, c, h => by
    obtain ⟨xs, e, h⟩ := h
    exact ⟨xs, e, VRs.mono G vs _ h⟩
  | .any, c, h => h
theorem VRs.mono (G : Grow s s' d d' pr pr' w w') : ∀ (vs : List V) (cs : List Value), VRs z s d pr w vs cs → VRs z s' d' pr' w' vs cs
  | [], cs, h => h
  | v :: vs, cs, h => by
    obtain ⟨c, cs', e, h1, h2⟩ := h
    exact ⟨c, cs', e, VR.mono G v c h1, VRs.mono G vs cs' h2⟩
end
end mono

section lists
variable {z : TypeId → Nat} {s : Nat → Option Nat} {d : Nat → Prop} {pr : Nat → Prop} {w : World}

theorem VRs.length : ∀ {vs : List V} {cs : List Value}, VRs z s d pr w vs cs → cs.length = vs.length
  | [], cs, h => by simp only [VRs] at h; subst h; rfl
  | v :: vs, cs, h => by
    simp only [VRs] at h
    obtain ⟨c, cs', rfl, _, h⟩ := h
    simp [VRs.length h]

theorem VRs.get : ∀ {vs : List V} {cs : List Value} {i : Nat} {v : V}, VRs z s d pr w vs cs → vs[i]? = some v → ∃ c, cs[i]? = some c ∧ VR z s d pr w v c
  | [], cs, i, v, h, hi => by simp at hi
  | v :: vs, cs, 0, u, h, hi => by
    simp only [VRs] at h
    obtain ⟨c, cs', rfl, h1, h⟩ := h
    simp only [List.getElem?_cons_zero, Option.some.injEq] at hi
    subst hi
    exact ⟨c, rfl, h1⟩
  | v :: vs, cs, i + 1, u, h, hi => by
    simp only [VRs] at h
    obtain ⟨c, cs', rfl, h1, h⟩ := h
    simp only [List.getElem?_cons_succ] at hi ⊢
    exact VRs.get h hi

theorem VRs.take : ∀ {vs : List V} {cs : List Value} (n : Nat), VRs z s d pr w vs cs → VRs z s d pr w (vs.take n) (cs.take n)
  | _, _, 0, h => by simp [VRs]
  | [], cs, n + 1, h => by simp only [VRs] at h; subst h; simp [VRs]
  | v :: vs, cs, n + 1, h => by
    simp only [VRs] at h
    obtain ⟨c, cs', rfl, h1, h⟩ := h
    exact ⟨c, _, rfl, h1, VRs.take n h⟩

theorem VRs.drop : ∀ {vs : List V} {cs : List Value} (n : Nat), VRs z s d pr w vs cs → VRs z s d pr w (vs.drop n) (cs.drop n)
  | _, _, 0, h => by simpa using h
  | [], cs, n + 1, h => by simp only [VRs] at h; subst h; simp [VRs]
  | v :: vs, cs, n + 1, h => by
    simp only [VRs] at h
    obtain ⟨c, cs', rfl, h1, h⟩ := h
    simpa using VRs.drop n h

theorem VRs.append : ∀ {vs us : List V} {cs ds : List Value}, VRs z s d pr w vs cs → VRs z s d pr w us ds → VRs z s d pr w (vs ++ us) (cs ++ ds)
  | [], us, cs, ds, h, k => by simp only [VRs] at h; subst h; simpa using k
  | v :: vs, us, cs, ds, h, k => by
    simp only [VRs] at h
    obtain ⟨c, cs', rfl, h1, h⟩ := h
    exact ⟨c, _, rfl, h1, VRs.append h k⟩

theorem VRs.mk : ∀ {vs : List V} {cs : List Value}, vs.length = cs.length → (∀ (i : Nat) (v : V) (c : Value), vs[i]? = some v → cs[i]? = some c → VR z s d pr w v c) → VRs z s d pr w vs cs
  | [], [], _, _ => by simp [VRs]
  | [], _ :: _, h, _ => by simp at h
  | _ :: _, [], h, _ => by simp at h
  | v :: vs, c :: cs, h, k => ⟨c, cs, rfl, k 0 v c rfl rfl, VRs.mk (by simpa using h) fun i u x hu hx => k (i + 1) u x (by simpa using hu) (by simpa using hx)⟩

theorem VRs.set {vs : List V} {cs : List Value} (h : VRs z s d pr w vs cs) (i : Nat) {v : V} {c : Value} (hv : VR z s d pr w v c) : VRs z s d pr w (vs.set i v) (cs.set i c) := by
  refine VRs.mk (by simp [h.length]) fun j u x hu hx => ?_
  rw [List.getElem?_set] at hu hx
  by_cases e : i = j
  · rw [if_pos e] at hu hx
    split at hu
    · split at hx
      · simp only [Option.some.injEq] at hu hx
        subst hu; subst hx; exact hv
      · simp at hx
    · simp at hu
  · rw [if_neg e] at hu hx
    obtain ⟨c', h1, h2⟩ := h.get hu
    rw [h1] at hx
    simp only [Option.some.injEq] at hx
    subst hx
    exact h2

theorem VRs.replicate (n : Nat) {v : V} {c : Value} (hv : VR z s d pr w v c) : VRs z s d pr w (List.replicate n v) (List.replicate n c) := by
  refine VRs.mk (by simp) fun i u x hu hx => ?_
  simp only [List.getElem?_replicate] at hu hx
  split at hu
  · rename_i hi; simp [hi] at hx hu; subst hu; subst hx; exact hv
  · simp at hu
end lists

/-! ### A trie of numbers -/
inductive Tr (α : Type) where
  | nil
  | node (a : Option α) (l r : Tr α)
  deriving Inhabited

theorem beqf {a b : Nat} (h : a ≠ b) : Nat.beq a b = false := by
  cases e : Nat.beq a b
  · rfl
  · exact absurd (Nat.eq_of_beq_eq_true e) h
theorem beqt {a b : Nat} (h : a = b) : Nat.beq a b = true := by
  subst h
  exact Nat.beq_refl a

namespace Tr
variable {α : Type}
def get : Tr α → Nat → Option α
  | .nil, _ => none
  | .node a l r, k => bif Nat.beq k 0 then a else bif Nat.beq (k % 2) 1 then l.get (k / 2) else r.get (k / 2 - 1)
def kids : Tr α → Option α × Tr α × Tr α
  | .nil => (none, .nil, .nil)
  | .node a l r => (a, l, r)
def set : Nat → Tr α → Nat → α → Tr α
  | 0, t, _, _ => t
  | f + 1, t, k, x => match t.kids with
    | (a, l, r) => bif Nat.beq k 0 then .node (some x) l r else bif Nat.beq (k % 2) 1 then .node a (set f l (k / 2) x) r else .node a l (set f r (k / 2 - 1) x)

theorem get_kids (t : Tr α) (k : Nat) : t.get k = bif Nat.beq k 0 then t.kids.1 else bif Nat.beq (k % 2) 1 then t.kids.2.1.get (k / 2) else t.kids.2.2.get (k / 2 - 1) := by
  cases t with
  | nil => simp [get, kids]
  | node a l r => rfl

theorem get_set : ∀ (f : Nat) (t : Tr α) (k j : Nat) (x : α), k < f → (set f t k x).get j = if j = k then some x else t.get j
  | 0, t, k, j, x, h => by omega
  | f + 1, t, k, j, x, h => by
    rw [get_kids t j]
    simp only [set]
    rcases t.kids with ⟨a, l, r⟩
    simp only
    by_cases hk : k = 0
    · subst hk
      simp only [Nat.beq_eq_true_eq, cond_true, get, show Nat.beq 0 0 = true from rfl]
      by_cases hj : j = 0
      · subst hj; simp
      · have : Nat.beq j 0 = false := beqf hj
        simp [this, hj]
    · have hkb : Nat.beq k 0 = false := beqf (by omega)
      simp only [hkb, cond_false]
      by_cases hp : k % 2 = 1
      · have hpb : Nat.beq (k % 2) 1 = true := beqt (by omega)
        simp only [hpb, cond_true, get]
        by_cases hj : j = 0
        · subst hj
          have : ¬ (0 = k) := by omega
          simp [this]
        · have hjb : Nat.beq j 0 = false := beqf (by omega)
          simp only [hjb, cond_false]
          by_cases hq : j % 2 = 1
          · have hqb : Nat.beq (j % 2) 1 = true := beqt (by omega)
            simp only [hqb, cond_true]
            rw [get_set f l (k / 2) (j / 2) x (by omega)]
            by_cases e : j = k
            · subst e; simp
            · have : ¬ (j / 2 = k / 2) := by omega
              simp [e, this]
          · have hqb : Nat.beq (j % 2) 1 = false := beqf (by omega)
            simp only [hqb, cond_false]
            have : ¬ (j = k) := by intro e; subst e; exact hq hp
            simp [this]
      · have hpb : Nat.beq (k % 2) 1 = false := beqf (by omega)
        simp only [hpb, cond_false, get]
        by_cases hj : j = 0
        · subst hj
          have : ¬ (0 = k) := by omega
          simp [this]
        · have hjb : Nat.beq j 0 = false := beqf (by omega)
          simp only [hjb, cond_false]
          by_cases hq : j % 2 = 1
          · have hqb : Nat.beq (j % 2) 1 = true := beqt (by omega)
            simp only [hqb, cond_true]
            have : ¬ (j = k) := by intro e; subst e; exact hp hq
            simp [this]
          · have hqb : Nat.beq (j % 2) 1 = false := beqf (by omega)
            simp only [hqb, cond_false]
            rw [get_set f r (k / 2 - 1) (j / 2 - 1) x (by omega)]
            by_cases e : j = k
            · subst e; simp
            · have : ¬ (j / 2 - 1 = k / 2 - 1) := by omega
              simp [e, this]
end Tr

/-! ### The own heap -/
inductive Blk where
  | cells (cs : List V) (elem : TypeId)
  | map (es : List (V × V × Nat)) (clock : Nat)
  | loop (tmps : List V) (params : List Tmp) (assign body : Code) (state : LoopState) (pending : Option Code)
  | dead
  deriving Inhabited

structure Heap where
  n : Nat
  t : Tr Blk
  deriving Inhabited

namespace Heap
def get (H : Heap) (b : Nat) : Option Blk := bif Nat.blt b H.n then H.t.get b else none
def push (H : Heap) (x : Blk) : Heap := ⟨H.n + 1, Tr.set (H.n + 1) H.t H.n x⟩
def set (H : Heap) (b : Nat) (x : Blk) : Heap := bif Nat.blt b H.n then ⟨H.n, Tr.set (b + 1) H.t b x⟩ else H
def empty : Heap := ⟨0, .nil⟩

theorem blt_eq (a b : Nat) : Nat.blt a b = decide (a < b) := by
  rw [Bool.eq_iff_iff]; simp [Nat.blt_eq]
theorem get_eq (H : Heap) (b : Nat) : H.get b = if b < H.n then H.t.get b else none := by
  simp only [get, blt_eq]; by_cases h : b < H.n <;> simp [h]
theorem get_lt {H : Heap} {b : Nat} {x : Blk} (h : H.get b = some x) : b < H.n := by
  rw [get_eq] at h; split at h <;> simp_all
theorem get_push (H : Heap) (x : Blk) (b : Nat) : (H.push x).get b = if b = H.n then some x else H.get b := by
  rw [get_eq, get_eq]
  simp only [push]
  rw [Tr.get_set _ _ _ _ _ (by omega)]
  by_cases e : b = H.n
  · simp [e]
  · by_cases l : b < H.n
    · have : b < H.n + 1 := by omega
      simp [e, l, this]
    · have : ¬ b < H.n + 1 := by omega
      simp [e, l, this]
theorem n_push (H : Heap) (x : Blk) : (H.push x).n = H.n + 1 := rfl
theorem n_set (H : Heap) (b : Nat) (x : Blk) : (H.set b x).n = H.n := by simp only [set, blt_eq]; by_cases h : b < H.n <;> simp [h]
theorem get_set (H : Heap) (b : Nat) (x : Blk) (j : Nat) : (H.set b x).get j = if j = b ∧ b < H.n then some x else H.get j := by
  simp only [set, blt_eq]
  by_cases l : b < H.n
  · simp only [l, decide_true, cond_true, get_eq]
    rw [Tr.get_set _ _ _ _ _ (by omega)]
    by_cases e : j = b
    · subst e; simp [l]
    · simp [e]
  · simp [l]
end Heap
end Go.Tw
