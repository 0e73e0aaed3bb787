/- Comparisons and arithmetic do in the model what they do on own values. No condition. -/
import Derived.Test.YtjlphacnmonfnaaGreatDoorTwPure
set_option linter.unusedVariables false
set_option linter.unusedSimpArgs false
namespace Go.Tw

section
variable {P : Program} {s : Nat → Option Nat} {d : Nat → Prop} {pr : Nat → Prop} {w : World}

theorem eqFields_ok (n : Nat) (eq : TypeId → V → V → Option Bool) (m : Nat)
    (ih : ∀ (t : TypeId) (x y : V) (r : Bool) (cx cy : Value), eq t x y = some r → VR (szP P) s d pr w x cx → VR (szP P) s d pr w y cy → (Op.equalIn m t cx cy).run P w = .ok r w)
    (xs ys : List V) (cx cy : Array Value) (hx : VRs (szP P) s d pr w xs cx.toList) (hy : VRs (szP P) s d pr w ys cy.toList) :
    ∀ (fs : List Field) (r : Bool), eqFieldsWith P eq xs ys fs = some r → (Op.eqFields m cx cy fs).run P w = .ok r w
  | [], r, h => by
    simp only [eqFieldsWith, Option.some.injEq] at h
    subst h
    simp [Op.eqFields]
  | f :: fs, r, h => by
    simp only [eqFieldsWith] at h
    split at h
    · cases h
    · rename_i hn
      simp only [Option.bind_eq_bind, Option.bind_eq_some_iff] at h
      obtain ⟨a, ha, b, hb, q, hq, h⟩ := h
      obtain ⟨ca, ha1, ha2⟩ := part_ok (w := w) ha hx
      obtain ⟨cb, hb1, hb2⟩ := part_ok (w := w) hb hy
      have hq' := ih _ _ _ _ _ _ hq ha2 hb2
      simp only [Op.eqFields, ne_eq, hn, not_false_eq_true, if_true, Sem.run_bind, ha1, hb1, hq', Result.andThen_ok]
      cases q with
      | false => simp at h; subst h; simp
      | true =>
        simp only [if_true] at h
        simpa using eqFields_ok n eq m ih xs ys cx cy hx hy fs r h

theorem eqElems_ok (eq : V → V → Option Bool) (elem : TypeId) (c m : Nat)
    (ih : ∀ (x y : V) (r : Bool) (cx cy : Value), eq x y = some r → VR (szP P) s d pr w x cx → VR (szP P) s d pr w y cy → (Op.equalIn m elem cx cy).run P w = .ok r w)
    (xs ys : List V) (cx cy : Array Value) (hx : VRs (szP P) s d pr w xs cx.toList) (hy : VRs (szP P) s d pr w ys cy.toList) :
    ∀ (l i : Nat) (r : Bool), eqElemsWith P eq elem c xs ys l i = some r → (Op.eqItems m elem c cx cy (List.range' i l)).run P w = .ok r w
  | 0, i, r, h => by
    simp only [eqElemsWith, Option.some.injEq] at h
    subst h
    simp [Op.eqItems]
  | l + 1, i, r, h => by
    simp only [eqElemsWith, Option.bind_eq_bind, Option.bind_eq_some_iff] at h
    obtain ⟨a, ha, b, hb, q, hq, h⟩ := h
    obtain ⟨ca, ha1, ha2⟩ := part_ok (w := w) ha hx
    obtain ⟨cb, hb1, hb2⟩ := part_ok (w := w) hb hy
    have hq' := ih _ _ _ _ _ hq ha2 hb2
    simp only [List.range'_succ, Op.eqItems, Sem.run_bind, ha1, hb1, hq', Result.andThen_ok]
    cases q with
    | false => simp at h; subst h; simp
    | true =>
      simp only [if_true] at h
      simpa using eqElems_ok eq elem c m ih xs ys cx cy hx hy l (i + 1) r h

theorem bytes_beq (a b : ByteArray) : (a == b) = (bytes a == bytes b) := by
  rw [beq_toListBytes, ByteArray.toList_eq, ByteArray.toList_eq]; rfl

theorem eqV_ok : ∀ (n : Nat) (t : TypeId) (x y : V) (r : Bool) (cx cy : Value), eqV P n t x y = some r → VR (szP P) s d pr w x cx → VR (szP P) s d pr w y cy →
    ∀ m, n ≤ m → (Op.equalIn m t cx cy).run P w = .ok r w
  | 0, t, x, y, r, cx, cy, h, _, _, m, _ => by simp [eqV] at h
  | n + 1, t, x, y, r, cx, cy, h, hx, hy, 0, hm => by omega
  | n + 1, t, x, y, r, cx, cy, h, hx, hy, m + 1, hm => by
    simp only [eqV] at h
    split at h
    · rename_i hu
      split at h
      · simp only [VR] at hx hy; subst hx; subst hy
        injection h with h; subst h
        simp [Op.equalIn, run_und hu]
      · cases h
    · rename_i hu
      split at h
      · simp only [VR] at hx hy; subst hx; subst hy
        split at h
        · rename_i hk; subst hk; injection h with h; subst h
          simp [Op.equalIn, run_und hu]
        · cases h
      · cases h
    · rename_i hu
      split at h
      · simp only [VR] at hx hy; subst hx; subst hy
        injection h with h; subst h
        simp [Op.equalIn, run_und hu, bytes_beq]
      · cases h
    · rename_i fields hu
      split at h
      · obtain ⟨ax, rfl, hx⟩ := hx
        obtain ⟨ay, rfl, hy⟩ := hy
        split at h
        · cases h
        · rename_i hs
          have hf : P.fieldsOf t = fields := by simp [Program.fieldsOf, hu]
          rw [run_equalIn_struct w m t ax ay (by rw [hf]; exact hu) (by simpa using hs), hf]
          exact eqFields_ok n (eqV P n) m (fun t x y r cx cy h1 h2 h3 => eqV_ok n t x y r cx cy h1 h2 h3 m (by omega)) _ _ ax ay hx hy _ r h
      · cases h
    · rename_i len elem hu
      split at h
      · obtain ⟨ax, rfl, hx⟩ := hx
        obtain ⟨ay, rfl, hy⟩ := hy
        simp only [Option.bind_eq_bind, Option.bind_eq_some_iff] at h
        obtain ⟨c, hc, h⟩ := h
        have hc0 := hc
        unfold size? at hc
        obtain ⟨i, hi, rfl⟩ := Option.map_eq_some_iff.1 hc
        have hce : P.cellsOf elem = i.size := by simp [Program.cellsOf, hi]
        rw [run_equalIn_array w m ax ay hu hi, hce, List.range_eq_range']
        exact eqElems_ok (eqV P n elem) elem i.size m (fun x y r cx cy h1 h2 h3 => eqV_ok n elem x y r cx cy h1 h2 h3 m (by omega)) _ _ ax ay hx hy len 0 r h
      · cases h
    · rename_i e hu
      split at h
      all_goals (first | (cases h; done) | (injection h with h; subst h))
      · simp only [VR] at hx hy; subst hx; subst hy; simp [Op.equalIn, run_und hu]
      · simp only [VR] at hx; subst hx
        obtain ⟨q, rfl, hq⟩ := hy
        simp [Op.equalIn, run_und hu]
      · simp only [VR] at hx; subst hx
        obtain ⟨g, off, cs, rfl, _⟩ := hy
        simp [Op.equalIn, run_und hu]
      · simp only [VR] at hy; subst hy
        obtain ⟨q, rfl, hq⟩ := hx
        simp [Op.equalIn, run_und hu]
      · simp only [VR] at hy; subst hy
        obtain ⟨g, off, cs, rfl, _⟩ := hx
        simp [Op.equalIn, run_und hu]
    · rename_i e hu
      split at h
      all_goals (first | (cases h; done) | (injection h with h; subst h))
      · simp only [VR] at hx hy; subst hx; subst hy; simp [Op.equalIn, run_und hu]
      · simp only [VR] at hy; subst hy
        obtain ⟨q, cap', rfl, hq⟩ := hx
        simp [Op.equalIn, run_und hu]
      · simp only [VR] at hy; subst hy
        obtain ⟨g, off, cap, cs, rfl, _⟩ := hx
        simp [Op.equalIn, run_und hu]
      · simp only [VR] at hy; subst hy
        obtain ⟨a, rfl⟩ := hx
        simp [Op.equalIn, run_und hu]
      · simp only [VR] at hy; subst hy
        obtain ⟨a, cap, rfl⟩ := hx
        simp [Op.equalIn, run_und hu]
    · rename_i k e hu
      split at h
      all_goals (first | (cases h; done) | (injection h with h; subst h))
      · simp only [VR] at hx hy; subst hx; subst hy; simp [Op.equalIn, run_und hu]
      · simp only [VR] at hy; subst hy
        obtain ⟨q, rfl, hq⟩ := hx
        simp [Op.equalIn, run_und hu]
    · rename_i a b c hu
      split at h
      all_goals (first | (cases h; done) | (injection h with h; subst h))
      · simp only [VR] at hx hy; subst hx; subst hy; simp [Op.equalIn, run_und hu]
      · simp only [VR] at hy; subst hy
        obtain ⟨xs, ys, rfl, _⟩ := hx
        simp [Op.equalIn, run_und hu]
    · rename_i a hu
      split at h
      all_goals (first | (cases h; done) | (injection h with h; subst h))
      · simp only [VR] at hy; subst hy
        obtain ⟨q, rfl, _⟩ := hx
        simp [Op.equalIn, run_und hu]
      · simp only [VR] at hx; subst hx
        obtain ⟨q, rfl, _⟩ := hy
        simp [Op.equalIn, run_und hu]
    · cases h
end
end Go.Tw
