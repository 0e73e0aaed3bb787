/- What an operation gives turns on its operands alone. No condition. -/
import Derived.Test.YtjlphacnmonfnaaGreatDoorTwEff
set_option linter.unusedVariables false
set_option linter.unusedSimpArgs false
namespace Go.Tw

theorem rsV_congr {P : Program} {cv : V → List V → Heap → Option OR} {ρ ρ' : Operand → V} {H : Heap} (op : Op) (h : ∀ x ∈ op.operands, ρ x = ρ' x) : rsV P cv ρ H op = rsV P cv ρ' H op := by
  have pairs : ∀ ps : Array (Nat × Operand), (∀ x ∈ (ps.toList.map (·.2)), ρ x = ρ' x) → (ps.toList.map fun p => (p.1, ρ p.2)) = (ps.toList.map fun p => (p.1, ρ' p.2)) := fun ps hp =>
    List.map_congr_left fun p hm => by rw [hp p.2 (List.mem_map.2 ⟨p, hm, rfl⟩)]
  cases op <;> simp only [Op.operands] at h <;> simp only [rsV, opV]
  case build t ps => rw [pairs ps fun x hx => h x (by simpa using hx)]
  case buildSlice t n ps => rw [pairs ps fun x hx => h x (by simpa using hx)]
  case makeFunc fn first captured =>
    rw [List.map_congr_left (l := first.toList) fun x hx => h x (by simp at hx; simp [hx]), List.map_congr_left (l := captured.toList) fun x hx => h x (by simp at hx; simp [hx])]
  case makeMap t r => cases r <;> rfl
  case slice t x lo hi mx =>
    have h0 : ρ x = ρ' x := h x (by simp)
    have e : ∀ q : Option Operand, (∀ y, q = some y → ρ y = ρ' y) → q.map ρ = q.map ρ' := fun q hq => by cases q <;> simp_all
    rw [h0, e lo fun y hy => h y (by subst hy; simp), e hi fun y hy => h y (by subst hy; simp), e mx fun y hy => h y (by subst hy; simp)]
  case call c =>
    obtain ⟨callee, args, argTypes⟩ := c
    have ha : ∀ x ∈ args.toList, ρ x = ρ' x := fun x hx => h x (by simp at hx; simp [Call.operands, hx])
    have hm : args.toList.map ρ = args.toList.map ρ' := List.map_congr_left ha
    have h1 : ∀ (i : Nat) x, args[i]? = some x → ρ x = ρ' x := fun i x hx => ha x (by simp; exact Array.mem_of_getElem? hx)
    cases callee with
    | value f =>
      have hf : ρ f = ρ' f := h f (by simp [Call.operands])
      simp only [hm, hf]
    | invoke a b =>
      have hf : ρ a = ρ' a := h a (by simp [Call.operands])
      simp only [hm, hf]
    | builtin q =>
      cases q <;> simp only [hm] <;> (try rfl)
      all_goals
        obtain ⟨l⟩ := args
        match l, h1 with
        | [], _ => simp
        | [x], h1 => have e := h1 0 x rfl; cases argTypes[0]? <;> cases argTypes[1]? <;> simp [e]
        | x :: y :: l, h1 => have e := h1 0 x rfl; have e' := h1 1 y rfl; cases argTypes[0]? <;> cases argTypes[1]? <;> simp [e, e']
  all_goals (first | rfl | (simp_all; done))
end Go.Tw
