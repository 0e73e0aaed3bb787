/- The evaluator by continuations does what the evaluator does: regions and code. No condition. -/
import Derived.Test.YtjlphacnmonfnaaGreatDoorTwK3
set_option linter.unusedVariables false
set_option linter.unusedSimpArgs false
namespace Go.Tw

section
variable {C : Ctx} {L : Lv} {T : T8} {T' : Tr V} {H : Heap} {lo : Nat} {u : V}

def setD (T : T8) (dst : Option Tmp) (v : V) : T8 :=
  match dst with
  | none => T
  | some d => set8 T d v
theorem stB_eq {dst : Option Tmp} (v : V) (T : T8) (k : T8 → R) : (stB dst).run v T k = k (setD T dst v) := by
  cases dst with
  | none => rfl
  | some d => exact setB_eq d v T k
theorem stB_rep {dst : Option Tmp} (hR : RepT T T') (hd : dstOk 512 dst = true) (v : V) : RepT (setD T dst v) (putV T' dst v) := by
  cases dst with
  | none => exact hR
  | some d =>
    simp only [dstOk, Nat.blt_eq] at hd
    exact hR.set hd v

/-- What an operation comes to. -/
def OpTo (C : Ctx) (nt : Nat) (ops : Array Oper) (o : Oper) (eff : Bool) (T' : Tr V) (H : Heap) (lo : Nat) (kn : Eff → KN) (u : V) : Prop :=
  ∃ m e st2 T2, (∀ n, m ≤ n → runOp C n nt ops o ⟨T', H, lo⟩ = some (e, st2)) ∧ RepT T2 st2.T ∧ (mayEff o.op = false → e = .none) ∧ ∃ e', (eff = true → e' = e) ∧ kn e' T2 st2.H st2.lo = some u

theorem effOf_none {r : Operand → V} {H : Heap} {op : Op} {res : OR} (h : mayEff op = false) : effOf r H op res = .none := by
  cases op <;> first | rfl | simp [mayEff] at h

theorem opB_ok (hL : LvOK C L) (hR : RepT T T') {nt : Nat} {ops : Array Oper} {o : Oper} {eff : Bool} {kn : Eff → KN} (h : (opB C nt ops o eff).run L T H lo kn = some u) : OpTo C nt ops o eff T' H lo kn u := by
  unfold opB at h
  cases hd : (dstOk nt o.dst && dstOk 512 o.dst) with
  | false => rw [hd] at h; cases h
  | true =>
    rw [hd] at h
    simp only [cond_true] at h
    simp only [Bool.and_eq_true] at hd
    obtain ⟨hd1, hd2⟩ := hd
    have done : (doB C o eff).run L T H lo kn = some u → wantedV ops T' o = some true → OpTo C nt ops o eff T' H lo kn u := by
      intro h hw
      have key : ∀ e' : V → Heap → Nat → Eff, (eff = true → ∀ v H' l, e' v H' l = effOf (rhoK C T) H o.op ⟨v, H', l⟩) → (armB C o.op).run L T H (fun v H' l => minN lo l fun lo' => (stB o.dst).run v T fun T' => kn (e' v H' l) T' H' lo') = some u → OpTo C nt ops o eff T' H lo kn u := by
        intro e' he' h
        obtain ⟨m, r, h1, h2⟩ := armB_ok hL hR h
        simp only [minN_eq, stB_eq] at h2
        refine ⟨m + 1, effOf (rho C T') H o.op r, ⟨putV T' o.dst r.v, r.H, min lo r.lo⟩, _, fun n hn => ?_, stB_rep hR hd2 r.v, effOf_none, e' r.v r.H r.lo, fun he => ?_, h2⟩
        · obtain ⟨n, rfl⟩ : ∃ k, n = k + 1 := ⟨n - 1, by omega⟩
          simp only [runOp, hd1, cond_true, hw, h1 n (by omega)]
        · rw [he' he, rhoK_eq hR]
      cases eff with
      | true => exact key (fun v H' l => effOf (rhoK C T) H o.op ⟨v, H', l⟩) (fun _ _ _ _ => rfl) h
      | false => exact key (fun _ _ _ => .none) (fun e => by cases e) h
    cases hg : o.guard with
    | none =>
      rw [hg] at h
      exact done h (by simp only [wantedV, hg])
    | some q =>
      obtain ⟨j, want⟩ := q
      rw [hg] at h
      simp only at h
      cases hb : (ops[j]?).bind (·.dst) with
      | none => rw [hb] at h; cases h
      | some d =>
        rw [hb] at h
        simp only at h
        cases hlt : Nat.blt d 512 with
        | false => rw [hlt] at h; cases h
        | true =>
          rw [hlt] at h
          simp only [cond_true] at h
          have hd5 : d < 512 := by simpa [Nat.blt_eq] using hlt
          have hget : (getB d).run T = tget T' d := hR.1 d hd5
          rw [hget] at h
          have skip : skipO o L T H lo kn = some u → wantedV ops T' o = some false → OpTo C nt ops o eff T' H lo kn u := by
            intro h hw
            simp only [skipO, stB_eq] at h
            refine ⟨1, .none, ⟨putV T' o.dst undefV, H, lo⟩, _, fun n hn => ?_, stB_rep hR hd2 undefV, fun _ => rfl, .none, fun _ => rfl, h⟩
            obtain ⟨n, rfl⟩ : ∃ k, n = k + 1 := ⟨n - 1, by omega⟩
            simp only [runOp, hd1, cond_true, hw]
          unfold wantK at h
          cases ht : tget T' d with
          | lit v =>
            rw [ht] at h
            cases v with
            | bool b =>
              have hw : wantedV ops T' o = some (bif want then b else !b) := by simp only [wantedV, hg, hb, ht]
              have h : boolK b (boolK want ((doB C o eff).run L T H lo kn) (skipO o L T H lo kn)) (boolK want (skipO o L T H lo kn) ((doB C o eff).run L T H lo kn)) = some u := h
              cases b <;> cases want
              · exact done h hw
              · exact skip h hw
              · exact skip h hw
              · exact done h hw
            | _ => cases h
          | tup vs =>
            rw [ht] at h
            cases vs with
            | nil => exact skip h (by simp only [wantedV, hg, hb, ht])
            | cons _ _ => cases h
          | _ => rw [ht] at h; cases h

def EL (l : List Oper) (es : List Eff) : Prop := es.length = l.length ∧ ∀ (k : Nat) (o : Oper), l[k]? = some o → mayEff o.op = false → es[k]? = some .none
theorem EL.cons {o : Oper} {l : List Oper} {e : Eff} {es : List Eff} (h : EL l es) (he : mayEff o.op = false → e = .none) : EL (o :: l) (e :: es) := by
  refine ⟨by simp [h.1], fun k x hx hm => ?_⟩
  cases k with
  | zero => simp at hx ⊢; subst hx; exact he hm
  | succ k => simp at hx ⊢; exact h.2 k x hx hm

theorem rowN_ok (hL : LvOK C L) {nt : Nat} {ops : Array Oper} : ∀ (l : List Oper) {T : T8} {T' : Tr V} {H : Heap} {lo : Nat} {kn : KN}, RepT T T' → rowN C nt ops l L T H lo kn = some u →
    ∃ m es st2 T2, (∀ n, m ≤ n → runOps C n nt ops l ⟨T', H, lo⟩ = some (es, st2)) ∧ EL l es ∧ RepT T2 st2.T ∧ kn T2 st2.H st2.lo = some u
  | [], T, T', H, lo, kn, hR, h => ⟨1, [], ⟨T', H, lo⟩, T, fun n hn => by
      obtain ⟨n, rfl⟩ : ∃ k, n = k + 1 := ⟨n - 1, by omega⟩
      simp only [runOps], ⟨rfl, fun k o hk => by simp at hk⟩, hR, h⟩
  | o :: l, T, T', H, lo, kn, hR, h => by
    have h : (opB C nt ops o false).run L T H lo (fun _ T H lo => rowN C nt ops l L T H lo kn) = some u := h
    obtain ⟨m, e, st1, T1, h1, h2, h3, e', _, h4⟩ := opB_ok hL hR h
    obtain ⟨m2, es, st2, T2, k1, k2, k3, k4⟩ := rowN_ok hL l h2 h4
    refine ⟨max m m2 + 1, e :: es, st2, T2, fun n hn => ?_, k2.cons h3, k3, k4⟩
    obtain ⟨n, rfl⟩ : ∃ k, n = k + 1 := ⟨n - 1, by omega⟩
    simp only [runOps, h1 n (by omega)]
    rw [show st1 = ⟨st1.T, st1.H, st1.lo⟩ from rfl, k1 n (by omega)]

theorem rowE_ok (hL : LvOK C L) {nt : Nat} {ops : Array Oper} : ∀ (l : List Oper) {T : T8} {T' : Tr V} {H : Heap} {lo : Nat} {acc : List Eff → List Eff} {kn : List Eff → KN}, RepT T T' → rowE C nt ops l L T H lo acc kn = some u →
    ∃ m es st2 T2, (∀ n, m ≤ n → runOps C n nt ops l ⟨T', H, lo⟩ = some (es, st2)) ∧ RepT T2 st2.T ∧ kn (acc es) T2 st2.H st2.lo = some u
  | [], T, T', H, lo, acc, kn, hR, h => ⟨1, [], ⟨T', H, lo⟩, T, fun n hn => by
      obtain ⟨n, rfl⟩ : ∃ k, n = k + 1 := ⟨n - 1, by omega⟩
      simp only [runOps], hR, h⟩
  | o :: l, T, T', H, lo, acc, kn, hR, h => by
    have h : (opB C nt ops o true).run L T H lo (fun e T H lo => rowE C nt ops l L T H lo (fun es => acc (e :: es)) kn) = some u := h
    obtain ⟨m, e, st1, T1, h1, h2, h3, e', he, h4⟩ := opB_ok hL hR h
    obtain rfl := he rfl
    obtain ⟨m2, es, st2, T2, k1, k3, k4⟩ := rowE_ok hL l h2 h4
    refine ⟨max m m2 + 1, e' :: es, st2, T2, fun n hn => ?_, k3, k4⟩
    obtain ⟨n, rfl⟩ : ∃ k, n = k + 1 := ⟨n - 1, by omega⟩
    simp only [runOps, h1 n (by omega)]
    rw [show st1 = ⟨st1.T, st1.H, st1.lo⟩ from rfl, k1 n (by omega)]

theorem few_go : ∀ (l : List Oper) (es : List Eff) (ms : List Nat) (j : Nat) (seen : List (Nat × Eff)), EL l es → es.length ≤ ms.length → (l.countP fun o => mayEff o.op) + seen.length ≤ 1 → ordGo es ms j seen = true
  | [], es, ms, j, seen, h, hm, hc => by
    obtain rfl : es = [] := List.eq_nil_of_length_eq_zero h.1
    rfl
  | o :: l, es, ms, j, seen, h, hm, hc => by
    match es, ms, h, hm with
    | [], _, h, _ => simpa using h.1
    | _ :: _, [], _, hm => simp at hm
    | e :: es, m :: ms, h, hm =>
      have hEL : EL l es := ⟨by simpa using h.1, fun k x hx hme => by simpa using h.2 (k + 1) x (by simpa using hx) hme⟩
      have hne : ∀ p : Nat × Eff, clash p.2 .none = false := fun p => by rw [clash_comm]; exact clash_none _
      by_cases ho : mayEff o.op = true
      · have hcc : (List.countP (fun o => mayEff o.op) (o :: l)) = List.countP (fun o => mayEff o.op) l + 1 := by rw [List.countP_cons, if_pos ho]
        rw [hcc] at hc
        obtain rfl : seen = [] := List.eq_nil_of_length_eq_zero (by omega)
        have hz : (l.countP fun o => mayEff o.op) = 0 := by simp only [List.length_nil] at hc; omega
        simp only [ordGo, List.all_nil, Bool.true_and]
        refine few_go l es ms (j + 1) _ hEL (by simpa using hm) ?_
        rw [hz]
        split <;> simp
      · have ho' : mayEff o.op = false := by simpa using ho
        have he : e = .none := by simpa using h.2 0 o (by simp) ho'
        subst he
        simp only [ordGo, hne, Bool.not_false, Bool.true_or, List.all_eq_true, implies_true, Bool.and_eq_true, true_and]
        exact few_go l es ms (j + 1) seen hEL (by simpa using hm) (by rw [List.countP_cons, if_neg ho] at hc; omega)

theorem regB_ok (hL : LvOK C L) (hR : RepT T T') {nt : Nat} {id : Nat} {ro : Option Nat} {ops : Array Oper} {draw : Bool} {kn : KN} (h : (regB C nt ops draw).run L T H lo kn = some u) :
    ∃ m st2 T2, (∀ n, m ≤ n → exec C n ro nt (.region id ops draw) ⟨T', H, lo⟩ = some (.normal, st2)) ∧ RepT T2 st2.T ∧ kn T2 st2.H st2.lo = some u := by
  unfold regB at h
  cases draw with
  | false =>
    simp only [cond_false] at h
    obtain ⟨m, es, st2, T2, h1, _, h2, h3⟩ := rowN_ok hL _ hR h
    refine ⟨m + 1, st2, T2, fun n hn => ?_, h2, h3⟩
    obtain ⟨n, rfl⟩ : ∃ k, n = k + 1 := ⟨n - 1, by omega⟩
    simp only [exec, cond_false, h1 n (by omega)]
  | true =>
    simp only [cond_true] at h
    cases hg : regOk ops with
    | false => rw [hg] at h; cases h
    | true =>
      rw [hg] at h
      simp only [cond_true] at h
      cases hf : few ops.toList with
      | true =>
        rw [hf] at h
        obtain ⟨m, es, st2, T2, h1, h4, h2, h3⟩ := rowN_ok hL _ hR h
        have hord : orderOk ops es = true := by
          refine few_go ops.toList es (masks ops) 0 [] h4 ?_ ?_
          · rw [(masks_ok (ops := ops)).1, h4.1]; simp
          · simpa [few] using Nat.le_of_ble_eq_true hf
        refine ⟨m + 1, st2, T2, fun n hn => ?_, h2, h3⟩
        obtain ⟨n, rfl⟩ : ∃ k, n = k + 1 := ⟨n - 1, by omega⟩
        simp only [exec, cond_true, hg, h1 n (by omega), hord]
      | false =>
        rw [hf] at h
        obtain ⟨m, es, st2, T2, h1, h2, h3⟩ := rowE_ok hL _ hR h
        obtain ⟨hord, h3⟩ := boolK_some h3
        refine ⟨m + 1, st2, T2, fun n hn => ?_, h2, h3⟩
        obtain ⟨n, rfl⟩ : ∃ k, n = k + 1 := ⟨n - 1, by omega⟩
        simp only [exec, cond_true, hg, h1 n (by omega), hord]

def pendX (C : Ctx) (n : Nat) (ro : Option Nat) (nt : Nat) (pend : Option Code) (st : St) : Option (Ex × St) :=
  match pend with
  | none => some (.normal, st)
  | some c => exec C n ro nt c st

/-- How code is left. -/
def finX (x : Ex) (kn : KN) (ka : KA) : KN :=
  match x with
  | .normal => kn
  | .exit i => ka (some i)
  | .ret => ka none

def CodeTo (C : Ctx) (ro : Option Nat) (nt : Nat) (c : Code) (T' : Tr V) (H : Heap) (lo : Nat) (kn : KN) (ka : KA) (u : V) : Prop :=
  ∃ m x st2 T2, (∀ n, m ≤ n → exec C n ro nt c ⟨T', H, lo⟩ = some (x, st2)) ∧ RepT T2 st2.T ∧ finX x kn ka T2 st2.H st2.lo = some u

theorem condV_some {v : V} {x y : R} (h : condV v x y = some u) : ∃ b, v = .lit (.bool b) ∧ (if b then x else y) = some u := by
  unfold condV at h
  cases v with
  | lit v =>
    cases v with
    | bool b => exact ⟨b, rfl, by cases b <;> exact h⟩
    | _ => cases h
  | _ => cases h

theorem cmp_ok (hL : LvOK C L) : ∀ (c : Code) {ro : Option Nat} {nt : Nat} {T : T8} {T' : Tr V} {H : Heap} {lo : Nat} {kn : KN} {ka : KA}, RepT T T' → cmp C c L ro nt T H lo kn ka = some u → CodeTo C ro nt c T' H lo kn ka u := by
  have step : ∀ {m : Nat} {F : Nat → Option (Ex × St)} {x : Ex} {st : St}, (∀ n, m ≤ n → F (n + 1) = some (x, st)) → ∀ n, m + 1 ≤ n → F n = some (x, st) := by
    intro m F x st h n hn
    obtain ⟨n, rfl⟩ : ∃ k, n = k + 1 := ⟨n - 1, by omega⟩
    exact h n (by omega)
  intro c
  induction c with
  | skip => intro ro nt T T' H lo kn ka hR h; exact ⟨0 + 1, .normal, ⟨T', H, lo⟩, T, step fun n _ => (by simp only [exec]), hR, h⟩
  | label l => intro ro nt T T' H lo kn ka hR h; exact ⟨0 + 1, .normal, ⟨T', H, lo⟩, T, step fun n _ => (by simp only [exec]), hR, h⟩
  | exit i => intro ro nt T T' H lo kn ka hR h; exact ⟨0 + 1, .exit i, ⟨T', H, lo⟩, T, step fun n _ => (by simp only [exec]), hR, h⟩
  | ret => intro ro nt T T' H lo kn ka hR h; exact ⟨0 + 1, .ret, ⟨T', H, lo⟩, T, step fun n _ => (by simp only [exec]), hR, h⟩
  | scope a _ => intro ro nt T T' H lo kn ka hR h; cases h
  | goto l => intro ro nt T T' H lo kn ka hR h; cases h
  | refuse w => intro ro nt T T' H lo kn ka hR h; cases h
  | region id ops draw =>
    intro ro nt T T' H lo kn ka hR h
    obtain ⟨m, st2, T2, h1, h2, h3⟩ := regB_ok (id := id) (ro := ro) hL hR h
    exact ⟨m, .normal, st2, T2, h1, h2, h3⟩
  | seq a b iha ihb =>
    intro ro nt T T' H lo kn ka hR h
    obtain ⟨m, x, st1, T1, h1, h2, h3⟩ := iha (kn := fun T H lo => cmp C b L ro nt T H lo kn ka) hR h
    cases x with
    | normal =>
      obtain ⟨m2, y, st2, T2, k1, k2, k3⟩ := ihb h2 h3
      refine ⟨max m m2 + 1, y, st2, T2, step fun n hn => ?_, k2, k3⟩
      simp only [exec, h1 n (by omega)]
      exact k1 n (by omega)
    | exit i => exact ⟨m + 1, .exit i, st1, T1, step fun n hn => by simp only [exec, h1 n hn], h2, h3⟩
    | ret => exact ⟨m + 1, .ret, st1, T1, step fun n hn => by simp only [exec, h1 n hn], h2, h3⟩
  | cond q a b iha ihb =>
    intro ro nt T T' H lo kn ka hR h
    have h : condV ((opd C q).run T) (cmp C a L ro nt T H lo kn ka) (cmp C b L ro nt T H lo kn ka) = some u := h
    rw [opd_eq hR] at h
    obtain ⟨t, h1, h2⟩ := condV_some h
    cases t with
    | true =>
      obtain ⟨m, x, st2, T2, k1, k2, k3⟩ := iha hR h2
      exact ⟨m + 1, x, st2, T2, step fun n hn => by simp only [exec, h1, cond_true]; exact k1 n hn, k2, k3⟩
    | false =>
      obtain ⟨m, x, st2, T2, k1, k2, k3⟩ := ihb hR h2
      exact ⟨m + 1, x, st2, T2, step fun n hn => by simp only [exec, h1, cond_false]; exact k1 n hn, k2, k3⟩
  | block id a iha =>
    intro ro nt T T' H lo kn ka hR h
    obtain ⟨m, x, st1, T1, h1, h2, h3⟩ := iha (kn := kn) (ka := outK id kn ka) hR h
    cases x with
    | normal => exact ⟨m + 1, .normal, st1, T1, step fun n hn => by simp only [exec, h1 n hn], h2, h3⟩
    | ret => exact ⟨m + 1, .ret, st1, T1, step fun n hn => by simp only [exec, h1 n hn], h2, h3⟩
    | exit i =>
      have h3 : boolK (Nat.beq i id) (kn T1 st1.H st1.lo) (ka (some i) T1 st1.H st1.lo) = some u := h3
      cases hb : Nat.beq i id with
      | true => rw [hb] at h3; exact ⟨m + 1, .normal, st1, T1, step fun n hn => by simp only [exec, h1 n hn, hb, cond_true], h2, h3⟩
      | false => rw [hb] at h3; exact ⟨m + 1, .exit i, st1, T1, step fun n hn => by simp only [exec, h1 n hn, hb, cond_false], h2, h3⟩
  | loop a iha =>
    intro ro nt T T' H lo kn ka hR h
    have key : ∀ (f : Nat) {T : T8} {T' : Tr V} {H : Heap} {lo : Nat}, RepT T T' → Nat.rec (motive := fun _ => KN) (fun _ _ _ => none) (fun _ again T H lo => cmp C a L ro nt T H lo again ka) f T H lo = some u → CodeTo C ro nt (.loop a) T' H lo kn ka u := by
      intro f
      induction f with
      | zero => intro T T' H lo hR h; cases h
      | succ f ihf =>
        intro T T' H lo hR h
        obtain ⟨m, x, st1, T1, h1, h2, h3⟩ := iha (kn := Nat.rec (motive := fun _ => KN) (fun _ _ _ => none) (fun _ again T H lo => cmp C a L ro nt T H lo again ka) f) (ka := ka) hR h
        cases x with
        | normal =>
          obtain ⟨m2, y, st2, T2, k1, k2, k3⟩ := ihf h2 h3
          refine ⟨max m m2 + 1, y, st2, T2, step fun n hn => ?_, k2, k3⟩
          simp only [exec, h1 n (by omega)]
          exact k1 n (by omega)
        | exit i => exact ⟨m + 1, .exit i, st1, T1, step fun n hn => by simp only [exec, h1 n hn], h2, h3⟩
        | ret => exact ⟨m + 1, .ret, st1, T1, step fun n hn => by simp only [exec, h1 n hn], h2, h3⟩
    exact key L.fuel hR h
  | rangeFunc q ps as bd _ _ =>
    intro ro nt T T' H lo kn ka hR h
    have h : boolK (roOk H ro) (rangeV C ps as bd ((opd C q).run T) L ro nt T H lo kn ka) none = some u := h
    obtain ⟨hro, h⟩ := boolK_some h
    rw [opd_eq hR] at h
    unfold rangeV at h
    split at h
    · rename_i f first cap hq
      split at h
      · rename_i g
        split at h
        · rename_i hs
          rw [forceN_eq, pushK_eq] at h
          have hsnap : snapK C nt T = (List.range nt).map (tget T') := by
            simp only [snapK]
            refine List.map_congr_left fun t _ => ?_
            rw [rhoK_eq hR]; rfl
          rw [hsnap] at h
          obtain ⟨m, r, h1, h2⟩ := hL.call _ _ _ _ _ h
          unfold overK' at h2
          split at h2
          · rename_i B hB
            split at h2
            · rename_i ts ps' as' bd' state pend
              have fin : state ≠ .busy → (∀ n, m ≤ n → exec C (n + 1) ro nt (.rangeFunc q ps as bd) ⟨T', H, lo⟩ = pendX C n ro nt pend ⟨T', r.H.set H.n (.loop ts ps' as' bd' .exhausted pend), min lo r.lo⟩) := by
                intro hst n hn
                simp only [exec, hro, cond_true, hq, hs, h1 n hn, hB]
                cases state <;> cases pend <;> first | exact absurd rfl hst | rfl
              have out : state ≠ .busy → pendK T (r.H.set H.n (.loop ts ps' as' bd' .exhausted pend)) (min lo r.lo) kn ka pend = some u → CodeTo C ro nt (.rangeFunc q ps as bd) T' H lo kn ka u := by
                intro hst hp
                have hf := fin hst
                unfold pendK at hp
                split at hp
                · exact ⟨m + 1, .normal, ⟨T', r.H.set H.n (.loop ts ps' as' bd' .exhausted none), min lo r.lo⟩, T, step fun n hn => hf n hn, hR, hp⟩
                · split at hp
                  · rename_i i
                    exact ⟨m + 1 + 1, .exit i, ⟨T', r.H.set H.n (.loop ts ps' as' bd' .exhausted (some (.exit i))), min lo r.lo⟩, T, step fun n hn => by
                      rw [hf n (by omega)]
                      obtain ⟨n, rfl⟩ : ∃ k, n = k + 1 := ⟨n - 1, by omega⟩
                      simp only [pendX, exec], hR, hp⟩
                  · exact ⟨m + 1 + 1, .ret, ⟨T', r.H.set H.n (.loop ts ps' as' bd' .exhausted (some .ret)), min lo r.lo⟩, T, step fun n hn => by
                      rw [hf n (by omega)]
                      obtain ⟨n, rfl⟩ : ∃ k, n = k + 1 := ⟨n - 1, by omega⟩
                      simp only [pendX, exec], hR, hp⟩
                  · cases hp
              cases state with
              | busy => cases h2
              | _ => simp only [setH_eq, minN_eq] at h2; exact out (by simp) h2
            · cases h2
          · cases h2
        · cases h
      · cases h
    · cases h
end
end Go.Tw
