/- The evaluator is sound, by induction, if it is so for regions that draw their order. No condition. -/
import Derived.Test.YtecmdodhjbijgaaGreatDoorTwCall
set_option linter.unusedVariables false
set_option linter.unusedSimpArgs false
namespace Go.Tw

section
variable {C : Ctx} {nt : Nat} {ds : List Deferred} {o : Orig} {s s' : Nat → Option Nat} {H H' : Heap} {w w' : World} {st st' : St} {a : Act} {lo : Nat} {h : Nat → Prop}

def FuncStep (C : Ctx) (n : Nat) : Prop :=
  ∀ (h : Nat → Prop) (s : Nat → Option Nat) (H : Heap) (w : World) (g : FuncId) (args : List V) (cas : Array Value) (r : OR) (K : Value → World → Prop),
    HR (C.ph h) s H w → GOK C h s w → VHs (C.ph h) s H w args cas.toList → callF C n g args H = some r →
    (∀ c w' s', VH (C.ph h) s' r.H w' r.v c → HR (C.ph h) s' r.H w' → Ext r.lo s H w s' r.H w' → K c w') → CallF C.P g cas w K

theorem tget_initT : ∀ (vs : List V) (i : Nat) (T : Tr V) (t : Nat), tget (initT vs i T) t = if i ≤ t then (vs[t - i]?).getD (tget T t) else tget T t
  | [], i, T, t => by simp [initT]
  | v :: vs, i, T, t => by
    rw [initT, tget_initT vs (i + 1)]
    simp only [tget_tset]
    by_cases e : t = i
    · subst e
      rw [if_neg (by omega), if_pos rfl, if_pos (Nat.le_refl _)]
      simp
    · by_cases l : i ≤ t
      · rw [if_pos (by omega), if_neg e, if_pos l, show t - i = (t - (i + 1)) + 1 by omega]
        simp
      · rw [if_neg (by omega), if_neg e, if_neg l]

theorem init_tm {args : List V} {cas : Array Value} (ha : VHs (C.ph h) s H w args cas.toList) (k t : Nat) : VH (C.ph h) s H w (tget (initT args 0 .nil) t) ((cas ++ Array.replicate k undef).getD t undef) := by
  have hl := ha.length
  rw [tget_initT, if_pos (Nat.zero_le _), Nat.sub_zero]
  have e : (cas ++ Array.replicate k undef).getD t undef = (cas.toList[t]?).getD undef := by
    rw [Array.getD_eq_getD_getElem?, Array.getElem?_append]
    by_cases l : t < cas.size
    · simp [l]
    · rw [if_neg l, Array.getElem?_replicate]
      have : cas.toList[t]? = none := by simp; omega
      rw [this]
      split <;> simp
  rw [e]
  cases hv : args[t]? with
  | none =>
    have : cas.toList[t]? = none := by
      rw [List.getElem?_eq_none_iff] at hv ⊢
      omega
    rw [this]
    simp [tget, Tr.get, VR]
  | some v =>
    obtain ⟨c, h1, h2⟩ := ha.get hv
    rw [h1]
    exact h2

theorem func_ok (hC : CtxOK C) (n : Nat) (ih : ∀ m, m < n → ExecStep C m) : FuncStep C n := by
  intro h s H w g args cas r K hr hg ha he hk
  cases n with
  | zero => simp [callF] at he
  | succ n =>
    simp only [callF] at he
    split at he
    · rename_i F hF
      simp only [Option.bind_eq_bind, Option.bind_eq_some_iff, Option.some.injEq] at he
      obtain ⟨as, h1, v, h2, rfl⟩ := he
      have h3 : VRs (szP C.P) (fun _ => none) (fun _ => False) (fun g => g < w.heap.size) w as cas.toList := mapM_vrs (P := C.ph h) (fun v u c e e' => derefV_ok hr 50 e e') h1 ha
      have h4 := hC.sums g F hF w as cas v hg.gw h3 h2
      have fin : ∀ c w', (VR (szP C.P) (fun _ => none) (fun _ => False) (fun g => w.heap.size ≤ g ∧ g < w'.heap.size) w' v c ∧ RowKit.Below w.heap.size w w' ∧ (∀ g x, w.shape? g = some x → w'.shape? g = some x)) → K c w' := by
        rintro c w' ⟨k1, k2, k3⟩
        have E : Ext H.n s H w s H w' := ⟨k2.os, k2.tape, k2.output, k2.size, Nat.le_refl _, fun _ h => h, fun _ _ h => .inl h, fun g hg _ => k2.block g hg, fun _ _ h => .inl h, k3, fun _ _ _ => rfl, fun b h h' => by omega⟩
        have hr' : HR (C.ph h) s H w' := ⟨fun b g hb => by
          obtain ⟨B, q, h1, h2, h3⟩ := hr.dom b g hb
          exact ⟨B, q, h1, by rw [k2.block g (hr.lt hb).2]; exact h2, h3.mono E.grow⟩, hr.inj⟩
        refine hk c w' s ?_ hr' E
        refine VR.mono ⟨fun _ (h : False) => h.elim, fun _ _ (h : none = some _) => (nomatch h), ?_, fun _ _ => rfl, fun _ _ h => h⟩ v c k1
        rintro g ⟨g1, g2⟩
        refine ⟨g2, fun b hb => ?_, fun hh => ?_⟩
        · have := (hr.lt hb).2; omega
        · have := hg.1 g hh; omega
      unfold CallF at h4 ⊢
      split at h4
      · rename_i v' w' e
        exact fin _ _ h4
      · rename_i g' as' w1 e
        exact Calls.mono h4 fun e w'' hh => by
          obtain ⟨v', rfl, h5⟩ := hh
          exact ⟨v', rfl, fin _ _ h5⟩
      · exact h4.elim
    · split at he
      · rename_i fn hf
        split at he
        · rename_i body hb
          cases hn : (fn.name == "runtime.NumGoroutine") with
          | true => simp [hn] at he
          | false =>
            simp only [hn, cond_false] at he
            have h0 : (callFunc g cas).run C.P w = .ok (.enter g cas) w := by
              have hn' : ¬ fn.name = "runtime.NumGoroutine" := by simpa using hn
              simp [callFunc, hf, hn', hb]
            have hl := ha.length
            have R : SR C h (max args.length fn.ntmps) [] ⟨s, H, w⟩ s w ⟨initT args 0 .nil, H, H.n⟩ { tmps := cas ++ Array.replicate (fn.ntmps - cas.size) undef, defers := [] } := by
              refine ⟨fun b g hb => (hr.lt hb).1, hr, hg, Nat.le_refl _, Ext.refl _ _ _, ?_, rfl, init_tm ha _⟩
              simp only [Array.length_toList] at hl
              simp only [Array.size_append, Array.size_replicate]
              omega
            have fin : ∀ st vs, loadRes C st.T st.H fn.results.toList = some vs → r = ⟨resOf vs, st.H, st.lo⟩ → ∀ s' w' a', SR C h (max args.length fn.ntmps) [] ⟨s, H, w⟩ s' w' st a' →
                a'.defers = [] ∧ ∃ v, (results fn a'.tmps).run C.P w' = .ok v w' ∧ ∃ v', Ending.returned v = .returned v' ∧ K v' w' := by
              intro st vs h1 h2 s' w' a' R'
              obtain ⟨c, h3, h4⟩ := results_ok R'.hr R'.tm h1
              subst h2
              exact ⟨R'.df, c, h3, c, rfl, hk c w' s' h4 R'.hr R'.ext⟩
            unfold CallF
            rw [h0]
            simp only
            refine calls_of_wp hf hb ?_
            split at he
            · rename_i st h1
              simp only [Option.bind_eq_bind, Option.bind_eq_some_iff, Option.some.injEq] at he
              obtain ⟨vs, h2, h3⟩ := he
              exact ih n (by omega) _ _ _ h body _ st .normal s w _ _ h1 R fun s' w' a' R' => fin st vs h2 h3.symm s' w' a' R'
            · rename_i st h1
              simp only [Option.bind_eq_bind, Option.bind_eq_some_iff, Option.some.injEq] at he
              obtain ⟨vs, h2, h3⟩ := he
              exact ih n (by omega) _ _ _ h body _ st .ret s w _ _ h1 R fun s' w' a' R' => fin st vs h2 h3.symm s' w' a' R'
            · cases he
        · cases he
      · cases he

theorem call_ok (n : Nat) (ih : ∀ m, m < n → FuncStep C m) : CallStep C (callV C n) := by
  intro h s H w f args cf cas r K hr hg hf ha he hk
  cases n with
  | zero => simp [callV] at he
  | succ n =>
    unfold callV at he
    split at he
    · rename_i g first cap
      obtain ⟨xs, ys, e, h1, h2⟩ := hf
      refine ⟨g, xs, ys, e, ih n (by omega) h s H w g _ _ r K hr hg ?_ he hk⟩
      have := (h1.append ha).append h2
      simpa using this
    · cases he

theorem sound (hC : CtxOK C) (hreg : RegionStep C) (n : Nat) : ExecStep C n ∧ FuncStep C n ∧ OpStep C (callV C n) := by
  induction n using Nat.strongRecOn with
  | _ n ih =>
    refine ⟨exec_ok hC hreg n (fun m hm => (ih m hm).1) (fun m hm => (ih m hm).2.2), func_ok hC n (fun m hm => (ih m hm).1), opStep (call_ok n fun m hm => (ih m hm).2.1)⟩
end
end Go.Tw
