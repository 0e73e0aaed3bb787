/- The evaluator by continuations: what runs often, by bare recursors. No condition. -/
import Derived.Test.YtjlphacnmonfnaaGreatDoorTwK
set_option linter.unusedVariables false
set_option linter.unusedSimpArgs false
namespace Go.Tw

noncomputable def forceN (n : Nat) (k : Nat → R) : R := Nat.rec (motive := fun _ => R) (k 0) (fun m _ => k (Nat.succ m)) n
theorem forceN_eq (n : Nat) (k : Nat → R) : forceN n k = k n := by cases n <;> rfl
noncomputable def optK (o : Option V) (k : V → R) : R := Option.rec (motive := fun _ => R) none k o
noncomputable def resK (o : Option OR) (k : V → Heap → Nat → R) : R := Option.rec (motive := fun _ => R) none (fun r => OR.rec (motive := fun _ => R) k r) o
noncomputable def heapN (H : Heap) (k : Heap → R) : R := Heap.rec (motive := fun _ => R) (fun n t => forceN n fun n => k ⟨n, t⟩) H
theorem heapN_eq (H : Heap) (k : Heap → R) : heapN H k = k H := by cases H; simp [heapN, forceN_eq]
noncomputable def boolK (b : Bool) (x y : R) : R := Bool.rec (motive := fun _ => R) y x b
theorem boolK_true (x y : R) : boolK true x y = x := rfl
theorem boolK_false (x y : R) : boolK false x y = y := rfl

/-! ### Which form a value has -/
noncomputable def vAll (v : V) (k : V → R) : R :=
  V.rec (motive_1 := fun _ => R) (motive_2 := fun _ => R) (fun x => k (.lit x)) (fun b o => k (.ptr b o)) (fun g o => k (.gptr g o)) (fun b o l c p => k (.sl b o l c p)) (k .zs) (k .void) (fun b => k (.mp b))
    (fun c l _ => k (.ps c l)) (fun c _ => k (.pp c)) (fun f a b _ _ => k (.fn f a b)) (fun b => k (.yld b)) (fun t x _ => k (.ifc t x)) (fun c _ => k (.agg c)) (fun c _ => k (.tup c)) (k .any) none (fun _ _ _ _ => none) v
theorem vAll_eq (v : V) (k : V → R) : vAll v k = k v := by cases v <;> rfl
noncomputable def vLit (v : V) (f : Value → R) (d : R) : R :=
  V.rec (motive_1 := fun _ => R) (motive_2 := fun _ => R) f (fun _ _ => d) (fun _ _ => d) (fun _ _ _ _ _ => d) d d (fun _ => d) (fun _ _ _ => d) (fun _ _ => d) (fun _ _ _ _ _ => d) (fun _ => d) (fun _ _ _ => d) (fun _ _ => d) (fun _ _ => d) d d (fun _ _ _ _ => d) v
noncomputable def vPtr (v : V) (f : Nat → Nat → R) (d : R) : R :=
  V.rec (motive_1 := fun _ => R) (motive_2 := fun _ => R) (fun _ => d) f (fun _ _ => d) (fun _ _ _ _ _ => d) d d (fun _ => d) (fun _ _ _ => d) (fun _ _ => d) (fun _ _ _ _ _ => d) (fun _ => d) (fun _ _ _ => d) (fun _ _ => d) (fun _ _ => d) d d (fun _ _ _ _ => d) v
noncomputable def vSl (v : V) (f : Nat → Nat → Nat → Nat → Option Nat → R) (d : R) : R :=
  V.rec (motive_1 := fun _ => R) (motive_2 := fun _ => R) (fun _ => d) (fun _ _ => d) (fun _ _ => d) f d d (fun _ => d) (fun _ _ _ => d) (fun _ _ => d) (fun _ _ _ _ _ => d) (fun _ => d) (fun _ _ _ => d) (fun _ _ => d) (fun _ _ => d) d d (fun _ _ _ _ => d) v
noncomputable def xInt (x : Value) (f : IntKind → Int → R) (d : R) : R :=
  Value.rec (motive_1 := fun _ => R) (motive_2 := fun _ => R) (motive_3 := fun _ => R) (fun _ => d) f (fun _ _ => d) (fun _ _ _ => d) (fun _ => d) (fun _ => d) (fun _ _ _ => d) (fun _ => d) (fun _ => d) (fun _ _ _ _ _ => d) d (fun _ _ _ => d) d (fun _ _ => d) (fun _ _ => d) (fun _ _ => d) d (fun _ _ _ _ => d) x
noncomputable def xBool (x : Value) (f : Bool → R) (d : R) : R :=
  Value.rec (motive_1 := fun _ => R) (motive_2 := fun _ => R) (motive_3 := fun _ => R) f (fun _ _ => d) (fun _ _ => d) (fun _ _ _ => d) (fun _ => d) (fun _ => d) (fun _ _ _ => d) (fun _ => d) (fun _ => d) (fun _ _ _ _ _ => d) d (fun _ _ _ => d) d (fun _ _ => d) (fun _ _ => d) (fun _ _ => d) d (fun _ _ _ _ => d) x
/-- Is it one cell's value? -/
noncomputable def vOne (v : V) (x d : R) : R :=
  V.rec (motive_1 := fun _ => R) (motive_2 := fun _ => R)
    (fun v => Value.rec (motive_1 := fun _ => R) (motive_2 := fun _ => R) (motive_3 := fun _ => R) (fun _ => x) (fun _ _ => x) (fun _ _ => x) (fun _ _ _ => x) (fun _ => x) (fun _ => x) (fun _ _ _ => x) (fun _ => x) (fun _ => x) (fun _ _ _ _ _ => x) x (fun _ _ _ => x) x (fun _ _ => d) (fun _ _ => d) (fun _ _ => d) d (fun _ _ _ _ => d) v)
    (fun _ _ => x) (fun _ _ => x) (fun _ _ _ _ _ => x) x x (fun _ => x) (fun _ _ _ => x) (fun _ _ => x) (fun _ _ _ _ _ => x) (fun _ => x) (fun _ _ _ => x) (fun _ _ => d) (fun _ _ => d) d d (fun _ _ _ _ => d) v
theorem vOne_eq (v : V) (x d : R) : vOne v x d = boolK v.one x d := by
  cases v with
  | lit x => cases x <;> rfl
  | _ => rfl
theorem vcells_one {v : V} (h : v.one = true) : vcells v = some [v] := by
  cases v with
  | lit x => cases x <;> first | rfl | simp [V.one] at h
  | _ => first | rfl | simp [V.one] at h
noncomputable def natI (a : Int) (f : Nat → R) (d : R) : R := Int.rec (motive := fun _ => R) f (fun _ => d) a
noncomputable def cellsK (B : Blk) (f : List V → TypeId → R) (d : R) : R := Blk.rec (motive := fun _ => R) f (fun _ _ => d) (fun _ _ _ _ _ _ => d) d B

/-- A value of such a form, or whatever. -/
theorem vLit_sl {v : V} {f : Value → R} {d u : R} (h : ∀ x, v = .lit x → f x = u) (hd : d = u) : vLit v f d = u := by
  cases v <;> first | exact h _ rfl | exact hd
theorem vPtr_sl {v : V} {f : Nat → Nat → R} {d u : R} (h : ∀ b o, v = .ptr b o → f b o = u) (hd : d = u) : vPtr v f d = u := by
  cases v <;> first | exact h _ _ rfl | exact hd
theorem vSl_sl {v : V} {f : Nat → Nat → Nat → Nat → Option Nat → R} {d u : R} (h : ∀ b o l c p, v = .sl b o l c p → f b o l c p = u) (hd : d = u) : vSl v f d = u := by
  cases v <;> first | exact h _ _ _ _ _ rfl | exact hd
theorem xInt_sl {x : Value} {f : IntKind → Int → R} {d u : R} (h : ∀ k n, x = .int k n → f k n = u) (hd : d = u) : xInt x f d = u := by
  cases x <;> first | exact h _ _ rfl | exact hd
theorem natI_sl {a : Int} {f : Nat → R} {d u : R} (h : ∀ m, a = .ofNat m → f m = u) (hd : d = u) : natI a f d = u := by
  cases a <;> first | exact h _ rfl | exact hd
theorem boolK_sl {b : Bool} {x y u : R} (h : b = true → x = u) (h' : b = false → y = u) : boolK b x y = u := by
  cases b
  · exact h' rfl
  · exact h rfl

/-! ### Numbers -/
noncomputable def wrapF (k : IntKind) (m : Nat) (K : V → R) (slow : R) : R :=
  boolK (Nat.blt m (limK k)) (forceN m fun m => K (.lit (.int k (.ofNat m)))) (boolK (sgnK k) slow (forceN (Nat.mod m (modK k)) fun m => K (.lit (.int k (.ofNat m)))))
theorem wrapF_eq {k : IntKind} {m : Nat} {K : V → R} {slow u : R} (h : K (.lit (.int k (k.wrap (.ofNat m)))) = u) (hs : slow = u) : wrapF k m K slow = u := by
  have hw := wrapN_eq k m
  unfold wrapN at hw
  unfold wrapF
  cases h1 : Nat.blt m (limK k) with
  | true => rw [h1] at hw; simp only [cond_true] at hw; rw [boolK_true, forceN_eq, hw]; exact h
  | false =>
    rw [h1] at hw
    simp only [cond_false] at hw
    rw [boolK_false]
    cases h2 : sgnK k with
    | true => exact hs
    | false => rw [h2] at hw; simp only [cond_false] at hw; rw [boolK_false, forceN_eq]; rw [← h, ← hw]; rfl
noncomputable def tf (b : Bool) (K : V → R) : R := boolK b (K (.lit (.bool true))) (K (.lit (.bool false)))
theorem tf_eq (b : Bool) (K : V → R) : tf b K = K (.lit (.bool b)) := by cases b <;> rfl

/-- An operation on two numbers of a kind that are not less than nought. -/
noncomputable def arB (q : BinOp) : Box (IntKind → Nat → Nat → (V → R) → R → R) :=
  match q with
  | .add => ⟨fun k m n K s => wrapF k (Nat.add m n) K s⟩
  | .sub => ⟨fun k m n K s => boolK (Nat.ble n m) (wrapF k (Nat.sub m n) K s) s⟩
  | .mul => ⟨fun k m n K s => wrapF k (Nat.mul m n) K s⟩
  | .and => ⟨fun k m n K s => boolK (Nat.blt m (modK k)) (boolK (Nat.blt n (modK k)) (wrapF k (Nat.land m n) K s) s) s⟩
  | .or => ⟨fun k m n K s => boolK (Nat.blt m (modK k)) (boolK (Nat.blt n (modK k)) (wrapF k (Nat.lor m n) K s) s) s⟩
  | .xor => ⟨fun k m n K s => boolK (Nat.blt m (modK k)) (boolK (Nat.blt n (modK k)) (wrapF k (Nat.xor m n) K s) s) s⟩
  | .eql => ⟨fun k m n K s => tf (Nat.beq m n) K⟩
  | .neq => ⟨fun k m n K s => tf (Bool.not (Nat.beq m n)) K⟩
  | .lss => ⟨fun k m n K s => tf (Nat.blt m n) K⟩
  | .leq => ⟨fun k m n K s => tf (Nat.ble m n) K⟩
  | .gtr => ⟨fun k m n K s => tf (Nat.blt n m) K⟩
  | .geq => ⟨fun k m n K s => tf (Nat.ble n m) K⟩
  | _ => ⟨fun k m n K s => s⟩
noncomputable def binF (P : Program) (q : BinOp) (t : TypeId) : Box (V → V → (V → R) → R) :=
  match q with
  | .shl => ⟨fun x y K => vLit x (fun vx => vLit y (fun vy => xInt vx (fun k a => xInt vy (fun k' b => natI a (fun m => natI b (fun n => wrapF k (Nat.mul m (Nat.pow 2 (minK n (bitsK k)))) K (optK (binK P .shl t x y) K))
      (optK (binK P .shl t x y) K)) (optK (binK P .shl t x y) K)) (optK (binK P .shl t x y) K)) (optK (binK P .shl t x y) K)) (optK (binK P .shl t x y) K)) (optK (binK P .shl t x y) K)⟩
  | .shr => ⟨fun x y K => vLit x (fun vx => vLit y (fun vy => xInt vx (fun k a => xInt vy (fun k' b => natI a (fun m => natI b (fun n => forceN (Nat.div m (Nat.pow 2 (minK n (bitsK k)))) fun r => K (.lit (.int k (.ofNat r))))
      (optK (binK P .shr t x y) K)) (optK (binK P .shr t x y) K)) (optK (binK P .shr t x y) K)) (optK (binK P .shr t x y) K)) (optK (binK P .shr t x y) K)) (optK (binK P .shr t x y) K)⟩
  | q => ⟨fun x y K => vLit x (fun vx => vLit y (fun vy => xInt vx (fun k a => xInt vy (fun k' b => boolK (kEq k k') (natI a (fun m => natI b (fun n => (arB q).run k m n K (optK (binK P q t x y) K))
      (optK (binK P q t x y) K)) (optK (binK P q t x y) K)) (optK (binK P q t x y) K)) (optK (binK P q t x y) K)) (optK (binK P q t x y) K)) (optK (binK P q t x y) K)) (optK (binK P q t x y) K)⟩

theorem arB_eq (q : BinOp) {k : IntKind} {m n : Nat} {K : V → R} {s : R} (hs : s = optK (intK q k (.ofNat m) (.ofNat n)) K) : (arB q).run k m n K s = optK (intK q k (.ofNat m) (.ofNat n)) K := by
  have opt : ∀ v, optK (some v) K = K v := fun _ => rfl
  cases q <;> simp only [arB, intK, keepI_eq, keepB_eq, wrapK_eq, opt, tf_eq] at hs ⊢ <;> (try exact hs)
  case add => exact wrapF_eq (by rfl) hs
  case mul => exact wrapF_eq (by rfl) hs
  case sub =>
    refine boolK_sl (fun h => wrapF_eq ?_ hs) fun _ => hs
    have h := Nat.le_of_ble_eq_true h
    congr 4
    show Int.ofNat (m - n) = (m : Int) - (n : Int)
    simp only [Int.ofNat_eq_natCast]
    omega
  case and =>
    refine boolK_sl (fun h => boolK_sl (fun h' => wrapF_eq ?_ hs) fun _ => hs) fun _ => hs
    simp only [andK, h, h', Bool.and_self, cond_true, wrapN_eq]
  case or =>
    refine boolK_sl (fun h => boolK_sl (fun h' => wrapF_eq ?_ hs) fun _ => hs) fun _ => hs
    simp only [orK, h, h', Bool.and_self, cond_true, wrapN_eq]
  case xor =>
    refine boolK_sl (fun h => boolK_sl (fun h' => wrapF_eq ?_ hs) fun _ => hs) fun _ => hs
    simp only [xorK, h, h', Bool.and_self, cond_true, wrapN_eq]
  case leq =>
    congr 3
    simp only [ltK, Heap.blt_eq]
    rw [Bool.eq_iff_iff, Nat.ble_eq]
    simp
  case geq =>
    congr 3
    simp only [ltK, Heap.blt_eq]
    rw [Bool.eq_iff_iff, Nat.ble_eq]
    simp
  all_goals rfl

theorem binF_eq (P : Program) (q : BinOp) (t : TypeId) (x y : V) (K : V → R) : (binF P q t).run x y K = optK (binV P q t x y) K := by
  rw [← binK_eq]
  have opt : ∀ v, optK (some v) K = K v := fun _ => rfl
  cases q <;> simp only [binF] <;> refine vLit_sl (fun vx hx => vLit_sl (fun vy hy => xInt_sl (fun k a ha => xInt_sl (fun k' b hb => ?_) rfl) rfl) rfl) rfl
  case shl =>
    refine natI_sl (fun m hm => natI_sl (fun n hn => wrapF_eq ?_ rfl) rfl) rfl
    subst hx hy ha hb hm hn
    simp only [binK, binL, binI, intKK, shlK, keepI_eq, wrapN_eq, opt]
    rfl
  case shr =>
    refine natI_sl (fun m hm => natI_sl (fun n hn => ?_) rfl) rfl
    subst hx hy ha hb hm hn
    simp only [binK, binL, binI, intKK, shrK, keepI_eq, opt, forceN_eq]
    rfl
  all_goals
    refine boolK_sl (fun hk => natI_sl (fun m hm => natI_sl (fun n hn => ?_) rfl) rfl) fun _ => rfl
    subst hx hy ha hb hm hn
    rw [kEq_eq] at hk
    obtain rfl := of_decide_eq_true hk
    have e : kEq k k = true := by rw [kEq_eq]; simp
    rw [arB_eq]
    · simp only [binK, binL, binI, intKK, e, cond_true]
    · simp only [binK, binL, binI, intKK, e, cond_true]
end Go.Tw
