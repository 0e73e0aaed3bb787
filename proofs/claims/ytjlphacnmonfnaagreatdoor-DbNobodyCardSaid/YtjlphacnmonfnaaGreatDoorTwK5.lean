/- The evaluator by continuations does what the evaluator does: calls. No condition. -/
import Derived.Test.YtjlphacnmonfnaaGreatDoorTwK4
set_option linter.unusedVariables false
set_option linter.unusedSimpArgs false
namespace Go.Tw

section
variable {C : Ctx} {L : Lv} {T : T8} {T' : Tr V} {H : Heap} {lo : Nat} {u : V}

theorem fillK_ok : ∀ (vs : List V) (i : Nat) {T : T8} {T' : Tr V} {k : T8 → R}, RepT T T' → i + vs.length ≤ 512 → fillK vs i T k = some u → ∃ T2, RepT T2 (initT vs i T') ∧ k T2 = some u
  | [], i, T, T', k, hR, hl, h => ⟨T, hR, h⟩
  | v :: vs, i, T, T', k, hR, hl, h => by
    simp only [List.length_cons] at hl
    have h : (setB i).run v T (fun T => fillK vs (Nat.succ i) T k) = some u := h
    rw [setB_eq] at h
    exact fillK_ok vs (i + 1) (hR.set (by omega) v) (by omega) h

theorem zipK_ok : ∀ (ps : List Tmp) (vs : List V) {T : T8} {T' : Tr V} {k : T8 → R}, RepT T T' → (∀ p ∈ ps, p < 512) → zipK C ps vs T k = some u → ∃ T2, RepT T2 (setZip ps vs T') ∧ k T2 = some u
  | [], vs, T, T', k, hR, hp, h => ⟨T, by cases vs <;> exact hR, by cases vs <;> exact h⟩
  | p :: ps, [], T, T', k, hR, hp, h => ⟨T, hR, h⟩
  | p :: ps, v :: vs, T, T', k, hR, hp, h => by
    simp only [zipK, setB_eq] at h
    exact zipK_ok ps vs (hR.set (hp p (.head _)) v) (fun q hq => hp q (.tail _ hq)) h

theorem loadResK_eq (hR : RepT T T') : ∀ rs : List ResultVar, loadResK C T H rs = loadRes C T' H rs
  | [] => rfl
  | .tmp t :: rs => by
    simp only [loadResK, loadRes, loadResK_eq hR rs, rhoK_eq hR]
    cases loadRes C T' H rs <;> rfl
  | .cell a t :: rs => by
    simp only [loadResK, loadRes, loadResK_eq hR rs, rhoK_eq hR, loadK_eq, rho]
    cases loadV C.P H t (tget T' a) with
    | none => rfl
    | some v => cases loadRes C T' H rs <;> rfl

theorem resM_some (hR : RepT T T') {rs : List ResultVar} {kv : KV} (h : resM C rs T H lo kv = some u) : ∃ vs, loadRes C T' H rs = some vs ∧ kv (resOf vs) H lo = some u := by
  unfold resM at h
  rw [loadResK_eq hR] at h
  split at h
  · rename_i vs hv
    rw [vAll_eq] at h
    exact ⟨vs, hv, h⟩
  · cases h

def DTo (C : Ctx) (nt : Nat) (c : Code) (T' : Tr V) (H : Heap) (lo : Nat) (K : Ex → List (V × List V) → KN) (u : V) : Prop :=
  ∃ m x st2 ds T2, (∀ n, m ≤ n → execD C n nt c ⟨T', H, lo⟩ = some (x, st2, ds)) ∧ RepT T2 st2.T ∧ K x ds T2 st2.H st2.lo = some u

theorem plainD_ok (hL : LvOK C L) (hR : RepT T T') {nt : Nat} {c : Code} {K : Ex → List (V × List V) → KN} (h : plainD C nt c L T H lo K = some u) :
    ∃ m x st2 T2, (∀ n, m ≤ n → noDs ⟨T', H, lo⟩ (exec C n none nt c ⟨T', H, lo⟩) = some (x, st2, [])) ∧ RepT T2 st2.T ∧ K x [] T2 st2.H st2.lo = some u := by
  unfold plainD at h
  obtain ⟨m, x, st2, T2, h1, h2, h3⟩ := cmp_ok hL c hR h
  refine ⟨m, x, ⟨st2.T, st2.H, min lo st2.lo⟩, T2, fun n hn => by simp only [noDs, h1 n hn], h2, ?_⟩
  cases x <;> simp only [finX, minN_eq] at h3 <;> exact h3

theorem cmpD_ok (hL : LvOK C L) {nt : Nat} : ∀ (c : Code) {T : T8} {T' : Tr V} {H : Heap} {lo : Nat} {K : Ex → List (V × List V) → KN}, RepT T T' → cmpD C nt c L T H lo K = some u → DTo C nt c T' H lo K u := by
  have step : ∀ {m : Nat} {F : Nat → Option (Ex × St × List (V × List V))} {x : Option (Ex × St × List (V × List V))}, (∀ n, m ≤ n → F (n + 1) = x) → ∀ n, m + 1 ≤ n → F n = x := by
    intro m F x h n hn
    obtain ⟨n, rfl⟩ : ∃ k, n = k + 1 := ⟨n - 1, by omega⟩
    exact h n (by omega)
  intro c
  induction c with
  | seq a b iha ihb =>
    intro T T' H lo K hR h
    simp only [cmpD] at h
    obtain ⟨m, x, st1, ds, T1, h1, h2, h3⟩ := iha hR h
    cases x with
    | normal =>
      obtain ⟨m2, y, st2, ds2, T2, k1, k2, k3⟩ := ihb h2 h3
      refine ⟨max m m2 + 1, y, st2, ds2 ++ ds, T2, step fun n hn => ?_, k2, k3⟩
      simp only [execD, h1 n (by omega)]
      rw [show st1 = ⟨st1.T, st1.H, st1.lo⟩ from rfl, k1 n (by omega)]
    | exit i => exact ⟨m + 1, .exit i, st1, ds, T1, step fun n hn => by simp only [execD, h1 n hn], h2, h3⟩
    | ret => exact ⟨m + 1, .ret, st1, ds, T1, step fun n hn => by simp only [execD, h1 n hn], h2, h3⟩
  | region id ops draw =>
    intro T T' H lo K hR h
    simp only [cmpD] at h
    cases hl : lastDefer ops.toList with
    | none =>
      rw [hl] at h
      obtain ⟨m, x, st2, T2, h1, h2, h3⟩ := plainD_ok hL hR h
      exact ⟨m + 1, x, st2, [], T2, step fun n hn => by simp only [execD, hl]; exact h1 n hn, h2, h3⟩
    | some q =>
      obtain ⟨init, dst, f, args⟩ := q
      rw [hl] at h
      simp only at h
      obtain ⟨hdr, h⟩ := boolK_none h
      obtain ⟨hd, h⟩ := boolK_some h
      simp only [Bool.and_eq_true] at hd
      obtain ⟨m, es, st2, T2, h1, _, h2, h3⟩ := rowN_ok hL _ hR h
      simp only [opd_eq h2] at h3
      cases hf : rho C st2.T f with
      | fn g a b =>
        rw [hf] at h3
        simp only [stB_eq, minN_eq, rhoK_eq h2] at h3
        refine ⟨m + 1, .normal, ⟨putV st2.T dst undefV, st2.H, min lo st2.lo⟩, _, _, step fun n hn => ?_, stB_rep h2 hd.2 undefV, h3⟩
        simp only [execD, hl, hdr, cond_false, hd.1, cond_true, h1 n hn, hf]
      | _ => rw [hf] at h3; cases h3
  | _ =>
    intro T T' H lo K hR h
    simp only [cmpD] at h
    obtain ⟨m, x, st2, T2, h1, h2, h3⟩ := plainD_ok hL hR h
    exact ⟨m + 1, x, st2, [], T2, step fun n hn => by simp only [execD]; exact h1 n hn, h2, h3⟩

theorem dsK_ok (hL : LvOK C L) : ∀ (ds : List (V × List V)) {H : Heap} {lo : Nat} {k : Heap → Nat → R}, dsK C L ds H lo k = some u → ∃ m H' lo', (∀ n, m ≤ n → runDs C n ds H lo = some (H', lo')) ∧ k H' lo' = some u
  | [], H, lo, k, h => ⟨1, H, lo, fun n hn => by
      obtain ⟨n, rfl⟩ : ∃ k, n = k + 1 := ⟨n - 1, by omega⟩
      unfold runDs
      rfl, h⟩
  | (f, args) :: ds, H, lo, k, h => by
    unfold dsK at h
    split at h
    · rename_i g first cap
      split at h
      · cases h
      · rename_i hs
        obtain ⟨hd, h⟩ := boolK_none h
        obtain ⟨m, r, h1, h2⟩ := hL.call _ _ _ _ _ h
        simp only [minN_eq] at h2
        obtain ⟨m2, H', lo', k1, k2⟩ := dsK_ok hL ds h2
        refine ⟨max m m2 + 1, H', lo', fun n hn => ?_, k2⟩
        obtain ⟨n, rfl⟩ : ∃ k, n = k + 1 := ⟨n - 1, by omega⟩
        unfold runDs
        simp only [hs, hd, cond_false, h1 n (by omega)]
        exact k1 n (by omega)
    · cases h

theorem fnB_ok (hft : C.ft.OK C.P) (hL : LvOK C L) {g : FuncId} {args : List V} {kv : KV} (h : (fnB C g).run L args H kv = some u) : Comes2 (fun n => callF C n g args H) kv u := by
  unfold fnB at h
  cases hs : C.S g with
  | some G =>
    rw [hs] at h
    simp only [sumM] at h
    split at h
    · rename_i as has
      obtain ⟨v, h1, h2⟩ := optK_some h
      refine ⟨1, ⟨v, H, H.n⟩, fun n hn => ?_, h2⟩
      obtain ⟨n, rfl⟩ : ∃ k, n = k + 1 := ⟨n - 1, by omega⟩
      simp only [callF, hs, has, Option.bind_eq_bind, Option.bind_some, h1]
    · cases h
  | none =>
    rw [hs] at h
    simp only at h
    cases hf : fnOf C g with
    | none => rw [hf] at h; cases h
    | some q =>
      obtain ⟨body, k, rs, d⟩ := q
      rw [hf] at h
      simp only at h
      cases hk : Nat.ble k 512 with
      | false => rw [hk] at h; cases h
      | true =>
        rw [hk] at h
        simp only [cond_true] at h
        have hk5 := Nat.le_of_ble_eq_true hk
        obtain ⟨fn, hfn, hf⟩ := fnOf_some hft hf
        unfold fnF at hf
        · split at hf
          · rename_i body' hb
            cases hn : (fn.name == "runtime.NumGoroutine") with
            | true => rw [hn] at hf; cases hf
            | false =>
              rw [hn] at hf
              simp only [cond_false, Option.some.injEq, Prod.mk.injEq] at hf
              obtain ⟨rfl, rfl, rfl, rfl⟩ := hf
              cases hd : hasDefer body' with
              | false =>
                rw [hd] at h
                simp only [cond_false, forceN_eq, bodyM] at h
                obtain ⟨ha, h⟩ := boolK_some h
                have hlen := Nat.le_of_ble_eq_true ha
                have hmax : max args.length fn.ntmps = fn.ntmps := Nat.max_eq_right hlen
                obtain ⟨T, hR, h⟩ := fillK_ok args 0 RepT.nil (by omega) h
                obtain ⟨m, x, st2, T2, h1, h2, h3⟩ := cmp_ok hL body' hR h
                have fin : (∀ n, m ≤ n → ∀ vs, loadRes C st2.T st2.H fn.results.toList = some vs → callF C (n + 1) g args H = some ⟨resOf vs, st2.H, st2.lo⟩) → resM C fn.results.toList T2 st2.H st2.lo kv = some u → Comes2 (fun n => callF C n g args H) kv u := by
                  intro hx hr
                  obtain ⟨vs, k1, k2⟩ := resM_some h2 hr
                  refine ⟨m + 1, ⟨resOf vs, st2.H, st2.lo⟩, fun n hn => ?_, k2⟩
                  obtain ⟨n, rfl⟩ : ∃ k, n = k + 1 := ⟨n - 1, by omega⟩
                  exact hx n (by omega) vs k1
                cases x with
                | normal => exact fin (fun n hn' vs hv => by simp only [callF, hs, hfn, hb, hn, cond_false, hd, hmax, h1 n hn', Option.bind_eq_bind, hv, Option.bind_some]) h3
                | ret => exact fin (fun n hn' vs hv => by simp only [callF, hs, hfn, hb, hn, cond_false, hd, hmax, h1 n hn', Option.bind_eq_bind, hv, Option.bind_some]) h3
                | exit i => cases h3
              | true =>
                rw [hd] at h
                simp only [cond_true, forceN_eq, bodyD] at h
                obtain ⟨ha, h⟩ := boolK_some h
                have hlen := Nat.le_of_ble_eq_true ha
                have hmax : max args.length fn.ntmps = fn.ntmps := Nat.max_eq_right hlen
                obtain ⟨T, hR, h⟩ := fillK_ok args 0 RepT.nil (by omega) h
                obtain ⟨m, x, st2, ds, T2, h1, h2, h3⟩ := cmpD_ok hL body' hR h
                have fin : dsK C L ds st2.H st2.lo (fun H lo => resM C fn.results.toList T2 H lo kv) = some u → (∀ i, x ≠ .exit i) → Comes2 (fun n => callF C n g args H) kv u := by
                  intro hr hx
                  obtain ⟨m2, H', lo', k1, k2⟩ := dsK_ok hL ds hr
                  obtain ⟨vs, k3, k4⟩ := resM_some h2 k2
                  refine ⟨max m m2 + 1, ⟨resOf vs, H', lo'⟩, fun n hn' => ?_, k4⟩
                  obtain ⟨n, rfl⟩ : ∃ k, n = k + 1 := ⟨n - 1, by omega⟩
                  simp only [callF, hs, hfn, hb, hn, cond_false, hd, cond_true, hmax, h1 n (by omega)]
                  cases x with
                  | exit i => exact absurd rfl (hx i)
                  | normal => simp only [k1 n (by omega), k3]
                  | ret => simp only [k1 n (by omega), k3]
                cases x with
                | normal => exact fin h3 (by simp)
                | ret => exact fin h3 (by simp)
                | exit i => cases h3
          · cases hf

theorem roundOut_ok {b : Nat} {x : Ex} {kv : KV} (h : roundOut b x kv H lo = some u) : ∃ ts ps as bd s1 p1, H.get b = some (.loop ts ps as bd s1 p1) ∧ kv (.lit (.bool (goesOn x))) (H.set b (.loop ts ps as bd (stateOf x) (jumpOf x))) (min lo b) = some u := by
  unfold roundOut at h
  split at h
  · rename_i B hB
    split at h
    · simp only [setH_eq, minN_eq] at h
      exact ⟨_, _, _, _, _, _, hB, h⟩
    · cases h
  · cases h

theorem roundM_ok (hL : LvOK C L) {b : Nat} {args : List V} {kv : KV} (h : roundM C L b args H kv = some u) : Comes2 (fun n => callV C n (.yld b) args H) kv u := by
  unfold roundM at h
  split at h
  · rename_i B hB
    split at h
    · rename_i ts ps as bd state pend
      split at h
      · obtain ⟨hc, h⟩ := boolK_some h
        have hc' := hc
        simp only [Bool.and_eq_true, List.all_eq_true, Nat.blt_eq] at hc'
        obtain ⟨hc1, hc2, hc3⟩ := hc'
        have hlen := Nat.le_of_ble_eq_true hc3
        have hcond : (Nat.beq args.length ps.length && ps.all (fun p => Nat.blt p ts.length)) = true := by
          simp only [Bool.and_eq_true, List.all_eq_true, Nat.blt_eq]
          exact ⟨hc1, hc2⟩
        rw [forceN_eq] at h
        obtain ⟨T0, hR0, h⟩ := fillK_ok ts 0 RepT.nil (by omega) h
        obtain ⟨T1, hR1, h⟩ := zipK_ok (C := C) ps args hR0 (fun p hp => Nat.lt_of_lt_of_le (hc2 p hp) hlen) h
        rw [forceN_eq] at h
        obtain ⟨m, x, st1, T2, h1, h2, h3⟩ := cmp_ok hL as hR1 h
        cases x with
        | exit i => cases h3
        | ret => cases h3
        | normal =>
          have h3 : roundIn C L b ts.length bd kv T2 st1.H st1.lo = some u := h3
          unfold roundIn at h3
          split at h3
          · rename_i B1 hB1
            split at h3
            · rename_i ts1 ps1 as1 bd1 state1 pend1
              split at h3
              · simp only [setH_eq, minN_eq] at h3
                obtain ⟨m2, x, st3, T3, k1, k2, k3⟩ := cmp_ok hL bd h2 h3
                have k3' : roundOut b x kv st3.H st3.lo = some u := by cases x <;> exact k3
                obtain ⟨ts3, ps3, as3, bd3, s3, p3, q1, q2⟩ := roundOut_ok k3'
                refine ⟨max m m2 + 1, ⟨.lit (.bool (goesOn x)), st3.H.set b (.loop ts3 ps3 as3 bd3 (stateOf x) (jumpOf x)), min st3.lo b⟩, fun n hn => ?_, q2⟩
                obtain ⟨n, rfl⟩ : ∃ k, n = k + 1 := ⟨n - 1, by omega⟩
                simp only [callV, hB, hcond, cond_true, h1 n (by omega), hB1, k1 n (by omega), q1]
              · cases h3
            · cases h3
          · cases h3
      · cases h
    · cases h
  · cases h

theorem lv_ok (C : Ctx) (hft : C.ft.OK C.P) : ∀ n, LvOK C (lv C n)
  | 0 => ⟨fun _ _ _ _ _ h => (by cases h), fun _ _ _ _ _ h => (by cases h)⟩
  | n + 1 => by
    have ih := lv_ok C hft n
    exact ⟨fun g args H kv u h => fnB_ok hft ih h, fun b args H kv u h => roundM_ok ih h⟩

theorem kcall_ok (hft : C.ft.OK C.P) {n : Nat} {g : FuncId} {args : List V} (h : kcall C n g args H = some u) : ∃ m r, callF C m g args H = some r ∧ r.v = u := by
  obtain ⟨m, r, h1, h2⟩ := (lv_ok C hft n).call _ _ _ _ _ h
  injection h2 with h2
  exact ⟨m, r, h1 m (Nat.le_refl _), h2⟩
end
end Go.Tw
