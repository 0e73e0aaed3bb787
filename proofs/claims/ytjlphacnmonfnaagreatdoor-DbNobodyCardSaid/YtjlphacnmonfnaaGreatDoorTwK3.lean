/- The evaluator by continuations does what the evaluator does: operations. No condition. -/
import Derived.Test.YtjlphacnmonfnaaGreatDoorTwK2
set_option linter.unusedVariables false
set_option linter.unusedSimpArgs false
namespace Go.Tw

structure LvOK (C : Ctx) (L : Lv) : Prop where
  call : ∀ g args H kv u, L.call g args H kv = some u → ∃ m r, (∀ n, m ≤ n → callF C n g args H = some r) ∧ kv r.v r.H r.lo = some u
  round : ∀ b args H kv u, L.round b args H kv = some u → ∃ m r, (∀ n, m ≤ n → callV C n (.yld b) args H = some r) ∧ kv r.v r.H r.lo = some u

section
variable {C : Ctx} {L : Lv} {T : T8} {T' : Tr V} {H : Heap} {lo : Nat} {u : V}

theorem opd_eq (hR : RepT T T') (x : Operand) : (opd C x).run T = rho C T' x := by
  cases x with
  | tmp t =>
    simp only [opd, rho, Heap.blt_eq]
    by_cases h : t < 512
    · simp only [h, decide_true, cond_true]; exact hR.1 t h
    · simp only [h, decide_false, cond_false]; exact (hR.2 t (Nat.not_lt.1 h)).symm
  | const v => rfl
  | global g => rfl
  | func f => rfl
theorem rhoK_eq (hR : RepT T T') : rhoK C T = rho C T' := funext fun x => opd_eq hR x

theorem optK_some {o : Option V} {k : V → R} (h : optK o k = some u) : ∃ v, o = some v ∧ k v = some u := by
  cases o with
  | none => cases h
  | some v => exact ⟨v, rfl, h⟩
theorem resK_some {o : Option OR} {k : V → Heap → Nat → R} (h : resK o k = some u) : ∃ r, o = some r ∧ k r.v r.H r.lo = some u := by
  cases o with
  | none => cases h
  | some r => cases r; exact ⟨_, rfl, h⟩
theorem boolK_some {b : Bool} {x : R} (h : boolK b x none = some u) : b = true ∧ x = some u := by
  cases b with
  | false => cases h
  | true => exact ⟨rfl, h⟩
theorem boolK_none {b : Bool} {x : R} (h : boolK b none x = some u) : b = false ∧ x = some u := by
  cases b with
  | true => cases h
  | false => exact ⟨rfl, h⟩

theorem argB_eq (hR : RepT T T') : ∀ (xs : List Operand) (k : List V → R), (argB C xs).run T k = k (xs.map (rho C T'))
  | [], k => rfl
  | x :: xs, k => by
    simp only [argB, vAll_eq, argB_eq hR xs, opd_eq hR, List.map_cons]

/-- What is asked of a function by continuations: it comes to what 'F' gives, from some depth on. -/
def Comes2 (F : Nat → Option OR) (kv : KV) (u : V) : Prop := ∃ m r, (∀ n, m ≤ n → F n = some r) ∧ kv r.v r.H r.lo = some u

theorem Comes2.now {F : Nat → Option OR} {kv : KV} {r : OR} (h : ∀ n, F n = some r) (hk : kv r.v r.H r.lo = some u) : Comes2 F kv u := ⟨0, r, fun n _ => h n, hk⟩

theorem cvK_ok (hL : LvOK C L) {f : V} {args : List V} {kv : KV} (h : cvK C.P L f args H kv = some u) : Comes2 (fun n => callV C n f args H) kv u := by
  unfold cvK at h
  split at h
  · rename_i f first cap
    split at h
    · rename_i g
      obtain ⟨m, r, h1, h2⟩ := hL.call _ _ _ _ _ h
      refine ⟨m + 1, r, fun n hn => ?_, h2⟩
      obtain ⟨n, rfl⟩ : ∃ k, n = k + 1 := ⟨n - 1, by omega⟩
      simp only [callV]
      exact h1 n (by omega)
    · rename_i name
      split at h
      · rename_i x rest hl
        split at h
        · rename_i t v
          split at h
          · rename_i g hm
            obtain ⟨m, r, h1, h2⟩ := hL.call _ _ _ _ _ h
            refine ⟨m + 1, r, fun n hn => ?_, h2⟩
            obtain ⟨n, rfl⟩ : ∃ k, n = k + 1 := ⟨n - 1, by omega⟩
            simp only [callV, hl, hm]
            exact h1 n (by omega)
          · cases h
        · cases h
      · cases h
    · cases h
  · rename_i b
    exact hL.round _ _ _ _ _ h
  · cases h

theorem call_fn {n : Nat} {g : FuncId} {args : List V} : callV C (n + 1) (.fn (.func g) [] []) args H = callF C n g args H := by
  simp [callV]

theorem rsV_plain {P : Program} {cv : V → List V → Heap → Option OR} {r : Operand → V} {op : Op} (h : ∀ c, op ≠ .call c) : rsV P cv r H op = opV P r H op := by
  cases op <;> first | rfl | exact absurd rfl (h _)

theorem armB_ok (hL : LvOK C L) (hR : RepT T T') {op : Op} {kv : KV} (h : (armB C op).run L T H kv = some u) : Comes2 (fun n => rsV C.P (callV C n) (rho C T') H op) kv u := by
  have gen : ∀ op : Op, (∀ c, op ≠ .call c) → resK (opK C.P (fun _ _ _ => none) (rhoK C T) H op) (fun v H' l => normV v fun v => heapN H' fun H' => kv v H' l) = some u → Comes2 (fun n => rsV C.P (callV C n) (rho C T') H op) kv u := by
    intro op hc h
    rw [opK_eq, rsV_plain hc, rhoK_eq hR] at h
    obtain ⟨r, h1, h2⟩ := resK_some h
    rw [normV_eq, heapN_eq] at h2
    exact .now (fun n => by rw [rsV_plain hc]; exact h1) h2
  have pure1 : ∀ v : V, rsV C.P (callV C 0) (rho C T') H op = keep H (some v) → (∀ n, rsV C.P (callV C n) (rho C T') H op = rsV C.P (callV C 0) (rho C T') H op) → kv v H H.n = some u → Comes2 (fun n => rsV C.P (callV C n) (rho C T') H op) kv u := by
    intro v h1 h2 h3
    exact .now (r := ⟨v, H, H.n⟩) (fun n => by rw [h2, h1]; rfl) h3
  cases op <;> (try exact gen _ (fun c e => by cases e) h)
  case move x =>
    simp only [armB, vAll_eq, opd_eq hR] at h
    exact pure1 _ rfl (fun _ => rfl) h
  case assign x =>
    simp only [armB, vAll_eq, opd_eq hR] at h
    exact pure1 _ rfl (fun _ => rfl) h
  case load t a =>
    simp only [armB, loadF_eq, opd_eq hR] at h
    obtain ⟨v, h1, h2⟩ := optK_some h
    rw [vAll_eq] at h2
    exact pure1 v (by simp only [rsV, opV, h1]) (fun _ => rfl) h2
  case binOp q t x y z =>
    simp only [armB, binF_eq, opd_eq hR] at h
    obtain ⟨v, h1, h2⟩ := optK_some h
    exact pure1 v (by simp only [rsV, opV, h1]) (fun _ => rfl) h2
  case fieldAddr s x i =>
    simp only [armB] at h
    cases hp : placeOf C.P s i with
    | none => rw [hp] at h; cases h
    | some n =>
      rw [hp] at h
      simp only [addF_eq, opd_eq hR] at h
      obtain ⟨v, h1, h2⟩ := optK_some h
      have h3 : fieldAddrV C.P s (rho C T' x) i = some v := by
        rw [← fieldK_eq]
        simp only [fieldK, hp, addK_eq, h1]
      exact pure1 v (by simp only [rsV, opV, h3]) (fun _ => rfl) h2
  case indexAddr t x i =>
    simp only [armB, opd_eq hR] at h
    have h := indexF_eq _ _ _ _ _ _ h
    obtain ⟨v, h1, h2⟩ := optK_some h
    exact pure1 v (by simp only [rsV, opV, h1]) (fun _ => rfl) h2
  case nilCheck x =>
    simp only [armB, opd_eq hR] at h
    have h' : optK (nilCheckP C.P (rho C T' x)) (fun v => kv v H H.n) = some u := by
      rw [← h]
      refine (vPtr_sl (fun b o e => ?_) ?_).symm
      · rw [e]; rfl
      · congr; funext v; rw [vAll_eq]
    obtain ⟨v, h1, h2⟩ := optK_some h'
    exact pure1 v (by simp only [rsV, opV, h1]) (fun _ => rfl) h2
  case alloc t =>
    simp only [armB, allocB] at h
    cases hz : zeroCellsV C.P t with
    | none => rw [hz] at h; cases h
    | some zc =>
      rw [hz] at h
      simp only [pushK_eq] at h
      exact .now (r := ⟨.ptr H.n 0, H.push (.cells zc t), H.n⟩) (fun n => by simp only [rsV, opV, allocV, hz]; rfl) h
  case box t x =>
    simp only [armB, boxK, opd_eq hR] at h
    cases hz : vcells (rho C T' x) with
    | none => rw [hz] at h; cases h
    | some zc =>
      rw [hz] at h
      simp only [pushK_eq] at h
      exact .now (r := ⟨.ptr H.n 0, H.push (.cells zc t), H.n⟩) (fun n => by simp only [rsV, opV, boxV, hz]; rfl) h
  case store t a x =>
    simp only [armB, storeF_eq, opd_eq hR] at h
    obtain ⟨r, h1, h2⟩ := resK_some h
    exact .now (fun n => by simp only [rsV, opV]; exact h1) h2
  case call c =>
    simp only [armB, callB] at h
    cases hc : c.callee with
    | value f =>
      rw [hc] at h
      have cvv : ∀ f', rho C T' f = f' → Comes2 (fun n => callV C n f' (c.args.toList.map (rho C T')) H) kv u → Comes2 (fun n => rsV C.P (callV C n) (rho C T') H (.call c)) kv u := by
        rintro f' rfl ⟨m, r, h1, h2⟩
        exact ⟨m, r, fun n hn => by simp only [rsV, hc]; exact h1 n hn, h2⟩
      have slow : (argB C c.args.toList).run T (fun vs => cvK C.P L ((opd C f).run T) vs H kv) = some u → Comes2 (fun n => rsV C.P (callV C n) (rho C T') H (.call c)) kv u := by
        intro h
        rw [argB_eq hR, opd_eq hR] at h
        exact cvv _ rfl (cvK_ok hL h)
      cases f with
      | func g =>
        simp only [argB_eq hR] at h
        obtain ⟨m, r, h1, h2⟩ := hL.call _ _ _ _ _ h
        refine cvv _ rfl ⟨m + 1, r, fun n hn => ?_, h2⟩
        obtain ⟨n, rfl⟩ : ∃ k, n = k + 1 := ⟨n - 1, by omega⟩
        show callV C (n + 1) (.fn (.func g) [] []) _ H = _
        rw [call_fn]
        exact h1 n (by omega)
      | tmp t => exact slow h
      | const v => exact slow h
      | global g => exact slow h
    | invoke x name =>
      rw [hc] at h
      simp only [argB_eq hR, vAll_eq, opd_eq hR] at h
      obtain ⟨m, r, h1, h2⟩ := cvK_ok hL h
      exact ⟨m, r, fun n hn => by simp only [rsV, hc]; exact h1 n hn, h2⟩
    | builtin b =>
      rw [hc] at h
      simp only [opK_eq, rhoK_eq hR] at h
      obtain ⟨r, h1, h2⟩ := resK_some h
      rw [normV_eq, heapN_eq] at h2
      refine .now (r := r) (fun n => ?_) h2
      simp only [rsV, hc] at h1 ⊢
      exact h1
end
end Go.Tw
