/- Which operations stand behind which in each order. No condition. -/
import Derived.Test.YtjlphacnmonfnaaGreatDoorTwMain
set_option linter.unusedVariables false
set_option linter.unusedSimpArgs false
namespace Go.Tw

theorem force_eq {α : Type} (n : Nat) (k : Nat → α) : force n k = k n := by cases n <;> rfl

/-- A set of numbers of operations that holds with each one what it stands behind. -/
def Closed (ops : Array Oper) (S : Nat → Prop) : Prop := ∀ j x, S j → ops[j]? = some x → ∀ e ∈ x.after, Region.binds .any e = true → S e.on

def MaskOK (ops : Array Oper) (j m : Nat) : Prop :=
  ∀ S : Nat → Prop, Closed ops S → ∀ x, ops[j]? = some x → (∀ e ∈ x.after, Region.binds .any e = true → S e.on) → ∀ i, m.testBit i = true → S i

theorem maskOf_bit {acc : List Nat} {len : Nat} : ∀ {es : List Edge} {i : Nat}, (maskOf acc len es).testBit i = true → ∃ e ∈ es, Region.binds .any e = true ∧ e.on < len ∧ (i = e.on ∨ (acc.getD (len - 1 - e.on) 0).testBit i = true)
  | [], i, h => by simp [maskOf] at h
  | e :: es, i, h => by
    rw [maskOf] at h
    cases hc : (Region.binds .any e && Nat.blt e.on len) with
    | false =>
      rw [hc, cond_false] at h
      obtain ⟨e', h1, h2⟩ := maskOf_bit h
      exact ⟨e', .tail _ h1, h2⟩
    | true =>
      rw [hc, cond_true] at h
      rw [Nat.testBit_or, Nat.testBit_or, Nat.testBit_two_pow] at h
      simp only [Bool.and_eq_true, Nat.blt_eq] at hc
      simp only [Bool.or_eq_true, decide_eq_true_eq] at h
      rcases h with (h | h) | h
      · exact ⟨e, .head _, hc.1, hc.2, .inl h.symm⟩
      · exact ⟨e, .head _, hc.1, hc.2, .inr h⟩
      · obtain ⟨e', h1, h2⟩ := maskOf_bit h
        exact ⟨e', .tail _ h1, h2⟩

theorem masksR_ok {ops : Array Oper} : ∀ (l : List Oper) (j : Nat) (acc : List Nat), acc.length = j → (∀ i, l[i]? = ops[j + i]?) → (∀ k m, k < j → acc[j - 1 - k]? = some m → MaskOK ops k m) →
    (masksR j l acc).length = j + l.length ∧ ∀ k m, k < j + l.length → (masksR j l acc)[j + l.length - 1 - k]? = some m → MaskOK ops k m
  | [], j, acc, hl, hi, ha => ⟨by simpa [masksR] using hl, by simpa [masksR] using ha⟩
  | o :: l, j, acc, hl, hi, ha => by
    rw [masksR, force_eq]
    have h0 : ops[j]? = some o := by simpa using (hi 0).symm
    have hm : MaskOK ops j (maskOf acc j o.after.toList) := by
      intro S hS x hx hx2 i hb
      rw [h0] at hx
      injection hx with hx
      subst hx
      obtain ⟨e, he, hb1, hlt, h⟩ := maskOf_bit hb
      have hSe := hx2 e (by simpa using he) hb1
      rcases h with h | h
      · rw [h]; exact hSe
      · have hlt2 : j - 1 - e.on < acc.length := by omega
        have hg : acc[j - 1 - e.on]? = some (acc.getD (j - 1 - e.on) 0) := by
          rw [List.getD_eq_getElem?_getD, List.getElem?_eq_getElem hlt2]
          rfl
        have hM := ha e.on _ hlt hg
        have hsz : e.on < ops.size := by
          have := (Array.getElem?_eq_some_iff.1 h0).1
          omega
        exact hM S hS ops[e.on] (by simp [hsz]) (fun e' he' hb' => hS e.on _ hSe (by simp [hsz]) e' he' hb') i h
    have := masksR_ok l (j + 1) (maskOf acc j o.after.toList :: acc) (by simp [hl]) (fun i => by have := hi (i + 1); simpa [Nat.add_assoc, Nat.add_comm 1 i] using this) (fun k m hk hg => by
      by_cases e : k = j
      · subst e
        rw [show k + 1 - 1 - k = 0 by omega] at hg
        simp only [List.getElem?_cons_zero, Option.some.injEq] at hg
        rw [← hg]; exact hm
      · rw [show j + 1 - 1 - k = (j - 1 - k) + 1 by omega] at hg
        simp only [List.getElem?_cons_succ] at hg
        exact ha k m (by omega) hg)
    simp only [List.length_cons]
    rw [show j + (l.length + 1) = j + 1 + l.length by omega]
    exact this

theorem masks_ok {ops : Array Oper} : (masks ops).length = ops.size ∧ ∀ k m, (masks ops)[k]? = some m → MaskOK ops k m := by
  obtain ⟨h1, h2⟩ := masksR_ok (ops := ops) ops.toList 0 [] rfl (fun i => by simp) (fun k m hk => by omega)
  simp only [Nat.zero_add, Array.length_toList] at h1 h2
  refine ⟨by simp [masks, h1], fun k m hg => ?_⟩
  unfold masks at hg
  have hk : k < ops.size := by
    have := (List.getElem?_eq_some_iff.1 hg).1
    simpa [h1] using this
  rw [List.getElem?_reverse (by omega), h1] at hg
  exact h2 k m hk hg

theorem behind_ok {ops : Array Oper} {j i : Nat} (h : behind ops j i = true) (hj : j < ops.size) {S : Nat → Prop} (hS : Closed ops S) (hr : ∀ x, ops[j]? = some x → ∀ e ∈ x.after, Region.binds .any e = true → S e.on) : S i := by
  obtain ⟨h1, h2⟩ := masks_ok (ops := ops)
  have hg : (masks ops)[j]? = some ((masks ops).getD j 0) := by
    rw [List.getD_eq_getElem?_getD, List.getElem?_eq_getElem (by omega)]
    rfl
  exact h2 j _ hg S hS ops[j] (by simp [hj]) (hr _ (by simp [hj])) i h

theorem clash_none (e : Eff) : clash .none e = false := by cases e <;> rfl

theorem ordGo_ok : ∀ (es : List Eff) (ms : List Nat) (j0 : Nat) (seen : List (Nat × Eff)), ordGo es ms j0 seen = true →
    (∀ (j : Nat) (b : Eff) (m : Nat), es[j]? = some b → ms[j]? = some m → (∀ p ∈ seen, clash p.2 b = true → m.testBit p.1 = true) ∧ (∀ (i : Nat) (a : Eff), i < j → es[i]? = some a → clash a b = true → m.testBit (j0 + i) = true)) ∧ es.length ≤ ms.length
  | [], ms, j0, seen, h => ⟨fun j b m h => by simp at h, by simp⟩
  | e :: es, [], j0, seen, h => by simp [ordGo] at h
  | e :: es, m :: ms, j0, seen, h => by
    simp only [ordGo, Bool.and_eq_true, List.all_eq_true, Bool.or_eq_true, Bool.not_eq_true'] at h
    obtain ⟨h1, h2⟩ := h
    obtain ⟨h3, h4⟩ := ordGo_ok es ms (j0 + 1) _ h2
    refine ⟨fun j b m' hb hm => ?_, by simp; omega⟩
    cases j with
    | zero =>
      simp only [List.getElem?_cons_zero, Option.some.injEq] at hb hm
      subst hb; subst hm
      refine ⟨fun p hp hc => ?_, fun i a hi => by omega⟩
      rcases h1 p hp with h | h
      · rw [hc] at h; cases h
      · exact h
    | succ j =>
      simp only [List.getElem?_cons_succ] at hb hm
      obtain ⟨h5, h6⟩ := h3 j b m' hb hm
      refine ⟨fun p hp hc => h5 p ?_ hc, fun i a hi ha hc => ?_⟩
      · split
        · exact hp
        · exact .tail _ hp
      · cases i with
        | zero =>
          simp only [List.getElem?_cons_zero, Option.some.injEq] at ha
          subst ha
          refine h5 (j0, e) ?_ hc
          split
          · rw [clash_none] at hc; cases hc
          · exact .head _
        | succ i =>
          simp only [List.getElem?_cons_succ] at ha
          have := h6 i a (by omega) ha hc
          rwa [show j0 + 1 + i = j0 + (i + 1) by omega] at this

theorem order_ok {ops : Array Oper} {es : List Eff} (h : orderOk ops es = true) {i j : Nat} {a b : Eff} (hi : i < j) (ha : es[i]? = some a) (hb : es[j]? = some b) (hc : clash a b = true) : behind ops j i = true := by
  obtain ⟨h1, h2⟩ := ordGo_ok es (masks ops) 0 [] h
  have hj : j < (masks ops).length := by
    have := (List.getElem?_eq_some_iff.1 hb).1
    omega
  have := (h1 j b _ hb (List.getElem?_eq_getElem hj)).2 i a hi ha hc
  unfold behind
  rw [List.getD_eq_getElem?_getD, List.getElem?_eq_getElem hj]
  simpa using this

structure RegOK (ops : Array Oper) : Prop where
  back : ∀ (j : Nat) (x : Oper), ops[j]? = some x → ∀ e ∈ x.after, Region.binds .any e = true → e.on < j
  once : ∀ (j : Nat) (x : Oper) (d : Tmp), ops[j]? = some x → x.dst = some d → ∀ (i : Nat) (y : Oper), ops[i]? = some y → y.dst = some d → i = j
  look : ∀ (j : Nat) (x : Oper) (t : Tmp), ops[j]? = some x → t ∈ x.looksAt ops → ∀ (i : Nat) (y : Oper), ops[i]? = some y → y.dst = some t → i = j ∨ (i < j ∧ behind ops j i = true) ∨ (j < i ∧ behind ops i j = true)

theorem mem_depsOn {ops : Array Oper} {t : Tmp} {i : Nat} {y : Oper} (hy : ops[i]? = some y) (hd : y.dst = some t) : i ∈ depsOn ops t := by
  have hi : i < ops.size := (Array.getElem?_eq_some_iff.1 hy).1
  simp only [depsOn, List.mem_filter, List.mem_range]
  exact ⟨hi, by simp [hy, hd]⟩

theorem regOk_ok {ops : Array Oper} (h : regOk ops = true) : RegOK ops := by
  simp only [regOk, List.all_eq_true, List.mem_range] at h
  have key : ∀ (j : Nat) (x : Oper), ops[j]? = some x → (∀ e ∈ x.after, Region.binds .any e = true → e.on < j) ∧ (∀ d, x.dst = some d → depsOn ops d = [j]) ∧ (∀ t ∈ x.looksAt ops, ∀ i ∈ depsOn ops t, i = j ∨ (if i < j then behind ops j i = true else behind ops i j = true)) := by
    intro j x hx
    have := h j (Array.getElem?_eq_some_iff.1 hx).1
    simp only [hx, Bool.and_eq_true, List.all_eq_true, Array.all_eq_true_iff_forall_mem, Bool.or_eq_true, Bool.not_eq_true', Nat.blt_eq, Nat.beq_eq_true_eq] at this
    obtain ⟨⟨h1, h2⟩, h3⟩ := this
    refine ⟨fun e he hb => ?_, fun d hd => ?_, fun t ht i hi => ?_⟩
    · rcases h1 e he with h | h
      · rw [hb] at h; cases h
      · exact h
    · rw [hd] at h2
      simpa using h2
    · rcases h3 t ht i hi with h | h
      · exact .inl (Nat.eq_of_beq_eq_true h)
      · refine .inr ?_
        by_cases l : i < j
        · rw [if_pos l]
          rw [show Nat.blt i j = true by simpa using l] at h
          exact h
        · rw [if_neg l]
          rw [show Nat.blt i j = false by rw [Heap.blt_eq]; simpa using l] at h
          exact h
  refine ⟨fun j x hx => (key j x hx).1, fun j x d hx hd i y hy hd' => ?_, fun j x t hx ht i y hy hd => ?_⟩
  · have h1 := (key j x hx).2.1 d hd
    have h2 := mem_depsOn hy hd'
    rw [h1] at h2
    simpa using h2
  · rcases (key j x hx).2.2 t ht i (mem_depsOn hy hd) with h | h
    · exact .inl h
    · by_cases l : i < j
      · rw [if_pos l] at h; exact .inr (.inl ⟨l, h⟩)
      · rw [if_neg l] at h
        by_cases e : i = j
        · exact .inl e
        · exact .inr (.inr ⟨by omega, h⟩)
end Go.Tw
