/- The evaluator by continuations, over slots in rows of eight, what the code fixes settled once: definitions. -/
import Derived.Test.YtjlphacnmonfnaaGreatDoorTwFast3
set_option linter.unusedVariables false
set_option linter.unusedSimpArgs false
namespace Go.Tw

structure Box (α : Type) where
  run : α

/-! ### Slots -/
structure O8 (α : Type) where
  a : α
  b : α
  c : α
  d : α
  e : α
  f : α
  g : α
  h : α
abbrev T1 := O8 V
abbrev T2 := O8 T1
abbrev T8 := O8 T2
abbrev R := Option V

def pick8 {α β : Type} (i : Nat) (k : (O8 α → α) → β) : β :=
  match i with
  | 0 => k O8.a | 1 => k O8.b | 2 => k O8.c | 3 => k O8.d | 4 => k O8.e | 5 => k O8.f | 6 => k O8.g | _ => k O8.h
/-- The slot's value. -/
def getB (t : Nat) : Box (T8 → V) :=
  pick8 (t / 64) fun p => pick8 (t / 8 % 8) fun q => pick8 (t % 8) fun r => ⟨fun T => r (q (p T))⟩

section
variable {α : Type}
noncomputable def updA (s : α → (α → R) → R) (T : O8 α) (k : O8 α → R) : R := O8.rec (motive := fun _ => R) (fun a b c d e f g h => s a fun x => k ⟨x, b, c, d, e, f, g, h⟩) T
noncomputable def updB (s : α → (α → R) → R) (T : O8 α) (k : O8 α → R) : R := O8.rec (motive := fun _ => R) (fun a b c d e f g h => s b fun x => k ⟨a, x, c, d, e, f, g, h⟩) T
noncomputable def updC (s : α → (α → R) → R) (T : O8 α) (k : O8 α → R) : R := O8.rec (motive := fun _ => R) (fun a b c d e f g h => s c fun x => k ⟨a, b, x, d, e, f, g, h⟩) T
noncomputable def updD (s : α → (α → R) → R) (T : O8 α) (k : O8 α → R) : R := O8.rec (motive := fun _ => R) (fun a b c d e f g h => s d fun x => k ⟨a, b, c, x, e, f, g, h⟩) T
noncomputable def updE (s : α → (α → R) → R) (T : O8 α) (k : O8 α → R) : R := O8.rec (motive := fun _ => R) (fun a b c d e f g h => s e fun x => k ⟨a, b, c, d, x, f, g, h⟩) T
noncomputable def updF (s : α → (α → R) → R) (T : O8 α) (k : O8 α → R) : R := O8.rec (motive := fun _ => R) (fun a b c d e f g h => s f fun x => k ⟨a, b, c, d, e, x, g, h⟩) T
noncomputable def updG (s : α → (α → R) → R) (T : O8 α) (k : O8 α → R) : R := O8.rec (motive := fun _ => R) (fun a b c d e f g h => s g fun x => k ⟨a, b, c, d, e, f, x, h⟩) T
noncomputable def updH (s : α → (α → R) → R) (T : O8 α) (k : O8 α → R) : R := O8.rec (motive := fun _ => R) (fun a b c d e f g h => s h fun x => k ⟨a, b, c, d, e, f, g, x⟩) T
noncomputable def upd8 {β : Type} (i : Nat) (k : ((α → (α → R) → R) → O8 α → (O8 α → R) → R) → β) : β :=
  match i with
  | 0 => k updA | 1 => k updB | 2 => k updC | 3 => k updD | 4 => k updE | 5 => k updF | 6 => k updG | _ => k updH
end
/-- The slot is written. -/
noncomputable def setB (t : Nat) : Box (V → T8 → (T8 → R) → R) :=
  upd8 (t / 64) fun p => upd8 (t / 8 % 8) fun q => upd8 (t % 8) fun r => ⟨fun v T k => p (q (r fun _ k => k v)) T k⟩

def V1 : T1 := ⟨.any, .any, .any, .any, .any, .any, .any, .any⟩
def V2 : T2 := ⟨V1, V1, V1, V1, V1, V1, V1, V1⟩
def V8 : T8 := ⟨V2, V2, V2, V2, V2, V2, V2, V2⟩

def get8 (T : T8) (t : Nat) : V := (getB t).run T
/-- The slots are those of a trie. -/
def RepT (T : T8) (T' : Tr V) : Prop := (∀ t, t < 512 → get8 T t = tget T' t) ∧ ∀ t, 512 ≤ t → tget T' t = .any

/-! ### Getting and setting -/
def at8 {α : Type} (x : O8 α) : Nat → α
  | 0 => x.a | 1 => x.b | 2 => x.c | 3 => x.d | 4 => x.e | 5 => x.f | 6 => x.g | _ => x.h
theorem pick8_eq {α β : Type} (i : Nat) (k : (O8 α → α) → β) : pick8 i k = k fun x => at8 x i := by
  unfold pick8 at8
  match i with
  | 0 => rfl | 1 => rfl | 2 => rfl | 3 => rfl | 4 => rfl | 5 => rfl | 6 => rfl | _ + 7 => rfl
theorem get8_eq (T : T8) (t : Nat) : get8 T t = at8 (at8 (at8 T (t / 64)) (t / 8 % 8)) (t % 8) := by
  simp only [get8, getB, pick8_eq]
def put8 {α : Type} (x : O8 α) (i : Nat) (v : α) : O8 α :=
  match i with
  | 0 => { x with a := v } | 1 => { x with b := v } | 2 => { x with c := v } | 3 => { x with d := v } | 4 => { x with e := v } | 5 => { x with f := v } | 6 => { x with g := v } | _ => { x with h := v }
theorem at8_put8 {α : Type} (x : O8 α) (i j : Nat) (v : α) (hi : i < 8) (hj : j < 8) : at8 (put8 x i v) j = if j = i then v else at8 x j := by
  have hi' : i = 0 ∨ i = 1 ∨ i = 2 ∨ i = 3 ∨ i = 4 ∨ i = 5 ∨ i = 6 ∨ i = 7 := by omega
  have hj' : j = 0 ∨ j = 1 ∨ j = 2 ∨ j = 3 ∨ j = 4 ∨ j = 5 ∨ j = 6 ∨ j = 7 := by omega
  rcases hi' with rfl | rfl | rfl | rfl | rfl | rfl | rfl | rfl <;> rcases hj' with rfl | rfl | rfl | rfl | rfl | rfl | rfl | rfl <;> simp [at8, put8]
theorem upd8_eq {α β : Type} (i : Nat) (k : ((α → (α → R) → R) → O8 α → (O8 α → R) → R) → β) : upd8 i k = k fun s x k => s (at8 x i) fun v => k (put8 x i v) := by
  unfold upd8
  match i with
  | 0 => rfl | 1 => rfl | 2 => rfl | 3 => rfl | 4 => rfl | 5 => rfl | 6 => rfl | _ + 7 => rfl
def set8 (T : T8) (t : Nat) (v : V) : T8 := put8 T (t / 64) (put8 (at8 T (t / 64)) (t / 8 % 8) (put8 (at8 (at8 T (t / 64)) (t / 8 % 8)) (t % 8) v))
theorem setB_eq (t : Nat) (v : V) (T : T8) (k : T8 → R) : (setB t).run v T k = k (set8 T t v) := by
  simp only [setB, upd8_eq, set8]
theorem get8_set8 (T : T8) (t u : Nat) (v : V) (ht : t < 512) (hu : u < 512) : get8 (set8 T t v) u = if u = t then v else get8 T u := by
  rw [get8_eq, get8_eq, set8]
  rw [at8_put8 _ _ _ _ (by omega) (by omega)]
  by_cases h1 : u / 64 = t / 64
  · rw [if_pos h1, at8_put8 _ _ _ _ (by omega) (by omega)]
    by_cases h2 : u / 8 % 8 = t / 8 % 8
    · rw [if_pos h2, at8_put8 _ _ _ _ (by omega) (by omega)]
      by_cases h3 : u % 8 = t % 8
      · rw [if_pos h3, if_pos (by omega)]
      · rw [if_neg h3, if_neg (by omega), h1, h2]
    · rw [if_neg h2, if_neg (by intro e; subst e; exact h2 rfl), h1]
  · rw [if_neg h1, if_neg (by intro e; subst e; exact h1 rfl)]
theorem RepT.set {T : T8} {T' : Tr V} (h : RepT T T') {t : Nat} (ht : t < 512) (v : V) : RepT (set8 T t v) (tset T' t v) := by
  refine ⟨fun u hu => ?_, fun u hu => ?_⟩
  · rw [get8_set8 T t u v ht hu, tget_tset]
    by_cases e : u = t
    · rw [if_pos e, if_pos e]
    · rw [if_neg e, if_neg e]; exact h.1 u hu
  · rw [tget_tset, if_neg (by omega)]; exact h.2 u hu
theorem RepT.nil : RepT V8 .nil := by
  refine ⟨fun t ht => ?_, fun t ht => by simp [tget, Tr.get]⟩
  rw [get8_eq]
  have h1 : ∀ i, at8 V8 i = V2 := fun i => by unfold at8; split <;> rfl
  have h2 : ∀ i, at8 V2 i = V1 := fun i => by unfold at8; split <;> rfl
  have h3 : ∀ i, at8 V1 i = .any := fun i => by unfold at8; split <;> rfl
  rw [h1, h2, h3]
  simp [tget, Tr.get]
end Go.Tw
