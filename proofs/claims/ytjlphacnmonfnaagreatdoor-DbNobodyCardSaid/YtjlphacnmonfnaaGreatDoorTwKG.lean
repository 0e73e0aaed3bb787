/- The evaluator by continuations: memory, by bare recursors. No condition. -/
import Derived.Test.YtjlphacnmonfnaaGreatDoorTwKF
set_option linter.unusedVariables false
set_option linter.unusedSimpArgs false
namespace Go.Tw

noncomputable def nthF (cs : List V) (n : Nat) (k : V → R) : R :=
  List.rec (motive := fun _ => Nat → R) (fun _ => none) (fun c _ ih n => Nat.rec (motive := fun _ => R) (k c) (fun m _ => ih m) n) cs n
theorem nthF_eq (k : V → R) : ∀ (cs : List V) (n : Nat), nthF cs n k = optK (nthK cs n) k
  | [], n => rfl
  | c :: cs, 0 => rfl
  | c :: cs, n + 1 => nthF_eq k cs n
noncomputable def setNthF (cs : List V) (n : Nat) (v : V) (k : List V → R) : R :=
  List.rec (motive := fun _ => Nat → (List V → R) → R) (fun _ _ => none) (fun c cs ih n k => Nat.rec (motive := fun _ => R) (k (v :: cs)) (fun m _ => ih m fun r => k (c :: r)) n) cs n k
theorem setNthF_eq (v : V) : ∀ (cs : List V) (n : Nat) (k : List V → R), setNthF cs n v k = match putK n cs [v] with | some c => k c | none => none
  | [], 0, k => rfl
  | [], n + 1, k => rfl
  | c :: cs, 0, k => by
    show k (v :: cs) = _
    simp [putK, overK]
  | c :: cs, n + 1, k => by
    show setNthF cs n v (fun r => k (c :: r)) = _
    rw [setNthF_eq v cs n]
    simp only [putK]
    cases putK n cs [v] <;> rfl

noncomputable def getT (t : Tr Blk) (n : Nat) (k : Blk → R) : R :=
  Tr.rec (motive := fun _ => Nat → R) (fun _ => none) (fun a _ _ ihl ihr n => boolK (Nat.beq n 0) (Option.rec (motive := fun _ => R) none k a) (boolK (Nat.beq (Nat.mod n 2) 1) (ihl (Nat.div n 2)) (ihr (Nat.sub (Nat.div n 2) 1)))) t n
theorem getT_eq (k : Blk → R) : ∀ (t : Tr Blk) (n : Nat), getT t n k = match t.get n with | some B => k B | none => none
  | .nil, n => rfl
  | .node a l r, n => by
    show boolK (Nat.beq n 0) (Option.rec (motive := fun _ => R) none k a) (boolK (Nat.beq (Nat.mod n 2) 1) (getT l (Nat.div n 2) k) (getT r (Nat.sub (Nat.div n 2) 1) k)) = _
    rw [getT_eq k l, getT_eq k r]
    simp only [Tr.get]
    cases h1 : Nat.beq n 0 with
    | true => simp only [boolK_true, cond_true]; cases a <;> rfl
    | false =>
      simp only [boolK_false, cond_false]
      cases h2 : Nat.beq (Nat.mod n 2) 1 with
      | true =>
        have h2' : Nat.beq (n % 2) 1 = true := h2
        simp only [h2', boolK_true, cond_true]
        rfl
      | false =>
        have h2' : Nat.beq (n % 2) 1 = false := h2
        simp only [h2', boolK_false, cond_false]
        rfl
noncomputable def getF (H : Heap) (b : Nat) (k : Blk → R) : R := Heap.rec (motive := fun _ => R) (fun n t => boolK (Nat.blt b n) (getT t b k) none) H
theorem getF_eq (H : Heap) (b : Nat) (k : Blk → R) : getF H b k = match H.get b with | some B => k B | none => none := by
  cases H with
  | mk n t =>
    simp only [getF, getT_eq, Heap.get]
    cases Nat.blt b n <;> rfl

/-- A part of cells, by its type. -/
noncomputable def partB (P : Program) (t : TypeId) : Box (List V → Nat → (V → R) → R) :=
  match agg? P t with
  | some b => bif b then ⟨fun cs off k => optK (partK P t cs off) k⟩ else ⟨fun cs off k => nthF cs off k⟩
  | none => ⟨fun _ _ _ => none⟩
theorem partB_eq (P : Program) (t : TypeId) (cs : List V) (off : Nat) (k : V → R) : (partB P t).run cs off k = optK (partV P t cs off) k := by
  rw [← partK_eq]
  unfold partB
  cases h : agg? P t with
  | none => simp only [partK, h]; rfl
  | some b =>
    cases b with
    | true => rfl
    | false => simp only [cond_false, nthF_eq, partK, h]

noncomputable def loadF (P : Program) (t : TypeId) : Box (V → Heap → (V → R) → R) :=
  ⟨fun x H k => vPtr x (fun b off => getF H b fun B => cellsK B (fun cs _ => (partB P t).run cs off k) none) (optK (loadK P H t x) k)⟩
theorem loadF_eq (P : Program) (t : TypeId) (x : V) (H : Heap) (k : V → R) : (loadF P t).run x H k = optK (loadV P H t x) k := by
  rw [← loadK_eq]
  simp only [loadF]
  refine vPtr_sl (fun b off hx => ?_) rfl
  subst hx
  rw [getF_eq]
  simp only [loadK]
  cases H.get b with
  | none => rfl
  | some B =>
    cases B with
    | cells cs e =>
      simp only [partK_eq]
      exact partB_eq P t cs off k
    | _ => rfl

noncomputable def addF (x : V) (n : Nat) (k : V → R) : R := vPtr x (fun b off => forceN (Nat.add off n) fun o => k (.ptr b o)) (optK (addK x n) k)
theorem addF_eq (x : V) (n : Nat) (k : V → R) : addF x n k = optK (ptrAdd x n) k := by
  rw [← addK_eq]
  unfold addF
  refine vPtr_sl (fun b off hx => ?_) rfl
  subst hx
  rw [forceN_eq]
  simp only [addK, force_eq]
  rfl

noncomputable def indexF (P : Program) (t : TypeId) : Box (V → V → (V → R) → R) :=
  match ixdOf P t with
  | .arr len n => ⟨fun x ix k => vLit ix (fun v => xInt v (fun _ i => natI i (fun i => boolK (Nat.blt i len) (addF x (Nat.mul i n) k) none) (optK (indexK P t x ix) k)) (optK (indexK P t x ix) k)) (optK (indexK P t x ix) k)⟩
  | .sl n => ⟨fun x ix k => vLit ix (fun v => xInt v (fun _ i => natI i (fun i => vSl x (fun b off len _ _ => boolK (Nat.blt i len) (forceN (Nat.add off (Nat.mul i n)) fun o => k (.ptr b o)) none) (optK (indexK P t x ix) k)) (optK (indexK P t x ix) k)) (optK (indexK P t x ix) k)) (optK (indexK P t x ix) k)⟩
  | .bad => ⟨fun x ix k => none⟩
theorem indexF_eq (P : Program) (t : TypeId) (x ix : V) (k : V → R) (u : V) (h : (indexF P t).run x ix k = some u) : optK (indexAddrV P t x ix) k = some u := by
  rw [← indexK_eq, ← h]
  unfold indexF
  cases hd : ixdOf P t with
  | arr len n =>
    refine (vLit_sl (fun v hv => xInt_sl (fun q i hi => natI_sl (fun m hm => ?_) rfl) rfl) rfl).symm
    subst hv hi hm
    simp only [indexK, ixN, hd]
    cases Nat.blt m len with
    | true => simp only [boolK_true, cond_true]; rw [addF_eq, addK_eq]; rfl
    | false => rfl
  | sl n =>
    refine (vLit_sl (fun v hv => xInt_sl (fun q i hi => natI_sl (fun m hm => vSl_sl (fun b off l c p hx => ?_) rfl) rfl) rfl) rfl).symm
    subst hv hi hm hx
    simp only [indexK, ixN, hd, ixS]
    cases Nat.blt m l with
    | true => simp only [boolK_true, cond_true, forceN_eq, force_eq]; rfl
    | false => rfl
  | bad => rw [indexF, hd] at h; cases h

noncomputable def pushK (H : Heap) (B : Blk) (kv : Heap → R) : R :=
  Heap.rec (motive := fun _ => R) (fun n t => forceN (Nat.succ n) fun m => setT m t n B fun t => kv ⟨m, t⟩) H
where
  setT (f : Nat) (t : Tr Blk) (n : Nat) (B : Blk) (k : Tr Blk → R) : R :=
    Nat.rec (motive := fun _ => Tr Blk → Nat → (Tr Blk → R) → R) (fun t _ k => k t)
      (fun _ ih t n k => Tr.rec (motive := fun _ => R) (here ih n k B none .nil .nil) (fun a l r _ _ => here ih n k B a l r) t) f t n k
  here (ih : Tr Blk → Nat → (Tr Blk → R) → R) (n : Nat) (k : Tr Blk → R) (B : Blk) (a : Option Blk) (l r : Tr Blk) : R :=
    boolK (Nat.beq n 0) (k (.node (some B) l r)) (boolK (Nat.beq (Nat.mod n 2) 1) (ih l (Nat.div n 2) fun l => k (.node a l r)) (ih r (Nat.sub (Nat.div n 2) 1) fun r => k (.node a l r)))
noncomputable def setH (H : Heap) (b : Nat) (B : Blk) (kv : Heap → R) : R :=
  Heap.rec (motive := fun _ => R) (fun n t => boolK (Nat.blt b n) (pushK.setT (Nat.succ b) t b B fun t => kv ⟨n, t⟩) (kv ⟨n, t⟩)) H
theorem setT_eq (B : Blk) : ∀ (f : Nat) (t : Tr Blk) (n : Nat) (k : Tr Blk → R), pushK.setT f t n B k = k (Tr.set f t n B)
  | 0, t, n, k => rfl
  | f + 1, t, n, k => by
    have key : ∀ a l r, t.kids = (a, l, r) → pushK.here (fun t n k => pushK.setT f t n B k) n k B a l r = k (Tr.set (f + 1) t n B) := by
      intro a l r e
      simp only [pushK.here, Tr.set, e, setT_eq B f]
      cases h1 : Nat.beq n 0 with
      | true => simp only [boolK, cond_true]
      | false =>
        simp only [boolK, cond_false]
        cases h2 : Nat.beq (Nat.mod n 2) 1 with
        | true =>
          have h2' : Nat.beq (n % 2) 1 = true := h2
          simp only [h2', cond_true]
          rfl
        | false =>
          have h2' : Nat.beq (n % 2) 1 = false := h2
          simp only [h2', cond_false]
          rfl
    cases t with
    | nil => exact key _ _ _ rfl
    | node a l r => exact key _ _ _ rfl
theorem pushK_eq (H : Heap) (B : Blk) (k : Heap → R) : pushK H B k = k (H.push B) := by
  cases H with
  | mk n t =>
    simp only [pushK, forceN_eq, setT_eq, Heap.push]
theorem setH_eq (H : Heap) (b : Nat) (B : Blk) (k : Heap → R) : setH H b B k = k (H.set b B) := by
  cases H with
  | mk n t =>
    simp only [setH, setT_eq, Heap.set]
    cases Nat.blt b n <;> rfl

/-- Something is stored. -/
noncomputable def storeO (P : Program) (t : TypeId) (x v : V) (H : Heap) (kv : V → Heap → Nat → R) : R := resK (storeK P H t x v) fun v H' l => heapN H' fun H' => kv v H' l
noncomputable def storeF (P : Program) (t : TypeId) : Box (V → V → Heap → (V → Heap → Nat → R) → R) :=
  bif (match sizeK P t with | some n => Nat.beq n 1 | none => false) then
    ⟨fun x v H kv => vOne v (vPtr x (fun b off => getF H b fun B => cellsK B (fun cs e => setNthF cs off v fun cs => setH H b (.cells cs e) fun H' => kv undefV H' (minK b H.n)) none) none) (storeO P t x v H kv)⟩
  else ⟨fun x v H kv => storeO P t x v H kv⟩
theorem storeO_eq (P : Program) (t : TypeId) (x v : V) (H : Heap) (kv : V → Heap → Nat → R) : storeO P t x v H kv = resK (storeV P H t x v) kv := by
  unfold storeO
  rw [storeK_eq]
  cases storeV P H t x v with
  | none => rfl
  | some r => cases r with | mk v' H' l => exact heapN_eq H' (fun H' => kv v' H' l)
theorem storeF_eq (P : Program) (t : TypeId) (x v : V) (H : Heap) (kv : V → Heap → Nat → R) : (storeF P t).run x v H kv = resK (storeV P H t x v) kv := by
  unfold storeF
  split
  · rename_i n hn
    cases h1 : Nat.beq n 1 with
    | false => exact storeO_eq P t x v H kv
    | true =>
      obtain rfl := Nat.eq_of_beq_eq_true h1
      simp only [cond_true]
      rw [vOne_eq]
      refine boolK_sl (fun ho => ?_) fun _ => storeO_eq P t x v H kv
      rw [← storeK_eq]
      cases x with
      | ptr b off =>
        show getF H b _ = _
        rw [getF_eq]
        simp only [storeK]
        cases H.get b with
        | none => rfl
        | some B =>
          cases B with
          | cells cs e =>
            show setNthF cs off v _ = _
            simp only [setNthF_eq, vcells_one ho, storeC, hn, lenK, List.all_cons, List.all_nil, ho, Bool.and_true, Bool.true_and, spliceK]
            have : Nat.beq 0 0 = true := rfl
            rw [this]
            simp only [cond_true]
            cases putK off cs [v] with
            | none => rfl
            | some c => simp only [setH_eq, force_eq]; rfl
          | _ => rfl
      | _ => rfl
  · exact storeO_eq P t x v H kv
end Go.Tw
