/- The evaluator by continuations: what it does. Definitions alone. -/
import Derived.Test.YtjlphacnmonfnaaGreatDoorTwKG
set_option linter.unusedVariables false
set_option linter.unusedSimpArgs false
namespace Go.Tw

/-- A value made up, its numbers counted. -/
noncomputable def normV (v : V) (k : V → R) : R :=
  match v with
  | .ptr b off => forceN b fun b => forceN off fun off => k (.ptr b off)
  | .sl b off len cap opn => forceN b fun b => forceN off fun off => forceN len fun len => forceN cap fun cap => k (.sl b off len cap opn)
  | v => vAll v k
theorem normV_eq (v : V) (k : V → R) : normV v k = k v := by cases v <;> simp [normV, forceN_eq, vAll_eq]

abbrev KN := T8 → Heap → Nat → R
abbrev KA := Option Nat → KN
abbrev KV := V → Heap → Nat → R

structure Lv where
  call : FuncId → List V → Heap → KV → R
  round : Nat → List V → Heap → KV → R
  fuel : Nat

/-- An operand's value. -/
noncomputable def opd (C : Ctx) (x : Operand) : Box (T8 → V) :=
  match x with
  | .tmp t => bif Nat.blt t 512 then getB t else ⟨fun _ => .any⟩
  | .const v => ⟨fun _ => ofV v⟩
  | .global g => ⟨fun _ => rho C .nil (.global g)⟩
  | .func f => ⟨fun _ => .fn (.func f) [] []⟩
noncomputable def rhoK (C : Ctx) (T : T8) (x : Operand) : V := (opd C x).run T

/-- The lesser one. -/
noncomputable def minN (n m : Nat) (k : Nat → R) : R := boolK (Nat.ble n m) (k n) (forceN m k)
theorem minN_eq (n m : Nat) (k : Nat → R) : minN n m k = k (min n m) := by
  unfold minN
  refine boolK_sl (fun h => ?_) fun h => ?_
  · have := Nat.le_of_ble_eq_true h
    rw [Nat.min_eq_left this]
  · have : ¬ n ≤ m := fun e => by rw [Nat.ble_eq_true_of_le e] at h; cases h
    rw [forceN_eq, Nat.min_eq_right (by omega)]

noncomputable def stB (dst : Option Tmp) : Box (V → T8 → (T8 → R) → R) :=
  match dst with
  | none => ⟨fun v T k => k T⟩
  | some d => setB d

abbrev Arm := Lv → T8 → Heap → KV → R

/-! ### Memory -/
noncomputable def allocB (C : Ctx) (t : TypeId) : Box Arm :=
  match zeroCellsV C.P t with
  | some zc => ⟨fun L T H kv => pushK H (.cells zc t) fun H' => kv (.ptr H.n 0) H' H.n⟩
  | none => ⟨fun _ _ _ _ => none⟩
noncomputable def boxK (t : TypeId) (v : V) (H : Heap) (kv : KV) : R :=
  match vcells v with
  | some c => pushK H (.cells c t) fun H' => kv (.ptr H.n 0) H' H.n
  | none => none
/-! ### Operations -/
/-- The values of operands. -/
noncomputable def argB (C : Ctx) : List Operand → Box (T8 → (List V → R) → R)
  | [] => ⟨fun T k => k []⟩
  | x :: r => ⟨fun T k => vAll ((opd C x).run T) fun v => (argB C r).run T fun vs => k (v :: vs)⟩
noncomputable def cvK (P : Program) (L : Lv) (f : V) (args : List V) (H : Heap) (kv : KV) : R :=
  match f with
  | .fn f first cap => (match f with
    | .func g => L.call g (first ++ args ++ cap) H kv
    | .method name => (match first ++ args with
      | x :: rest => (match x with
        | .ifc t v => (match methodX P t name with
          | some g => L.call g (v :: rest) H kv
          | none => none)
        | _ => none)
      | [] => none)
    | _ => none)
  | .yld b => L.round b args H kv
  | _ => none
noncomputable def callB (C : Ctx) (c : Call) : Box Arm :=
  match c.callee with
  | .value f => (match f with
    | .func g => ⟨fun L T H kv => (argB C c.args.toList).run T fun vs => L.call g vs H kv⟩
    | f => ⟨fun L T H kv => (argB C c.args.toList).run T fun vs => cvK C.P L ((opd C f).run T) vs H kv⟩)
  | .invoke x name => ⟨fun L T H kv => (argB C c.args.toList).run T fun vs => vAll ((opd C x).run T) fun v => cvK C.P L (.fn (.method name) [v] []) vs H kv⟩
  | _ => ⟨fun L T H kv => resK (opK C.P (fun _ _ _ => none) (rhoK C T) H (.call c)) fun v H' l => normV v fun v => heapN H' fun H' => kv v H' l⟩
noncomputable def armB (C : Ctx) (o : Op) : Box Arm :=
  match o with
  | .move x => ⟨fun L T H kv => vAll ((opd C x).run T) fun v => kv v H H.n⟩
  | .assign x => ⟨fun L T H kv => vAll ((opd C x).run T) fun v => kv v H H.n⟩
  | .load t a => ⟨fun L T H kv => (loadF C.P t).run ((opd C a).run T) H fun v => vAll v fun v => kv v H H.n⟩
  | .binOp q t x y z => ⟨fun L T H kv => (binF C.P q t).run ((opd C x).run T) ((opd C y).run T) fun v => kv v H H.n⟩
  | .fieldAddr s x i => (match placeOf C.P s i with
    | some n => ⟨fun L T H kv => addF ((opd C x).run T) n fun v => kv v H H.n⟩
    | none => ⟨fun _ _ _ _ => none⟩)
  | .indexAddr t x i => ⟨fun L T H kv => (indexF C.P t).run ((opd C x).run T) ((opd C i).run T) fun v => kv v H H.n⟩
  | .nilCheck x => ⟨fun L T H kv => vPtr ((opd C x).run T) (fun b o => kv (.ptr b o) H H.n) (optK (nilCheckP C.P ((opd C x).run T)) fun v => vAll v fun v => kv v H H.n)⟩
  | .alloc t => allocB C t
  | .box t x => ⟨fun L T H kv => boxK t ((opd C x).run T) H kv⟩
  | .store t a x => ⟨fun L T H kv => (storeF C.P t).run ((opd C a).run T) ((opd C x).run T) H kv⟩
  | .call c => callB C c
  | o => ⟨fun L T H kv => resK (opK C.P (fun _ _ _ => none) (rhoK C T) H o) fun v H' l => normV v fun v => heapN H' fun H' => kv v H' l⟩

abbrev Oc := Lv → T8 → Heap → Nat → (Eff → KN) → R

/-- An operation and what becomes of its value; 'eff': is its effect wanted? -/
noncomputable def doB (C : Ctx) (o : Oper) (eff : Bool) : Box Oc :=
  bif eff then ⟨fun L T H lo kn => (armB C o.op).run L T H fun v H' l => minN lo l fun lo' => (stB o.dst).run v T fun T' => kn (effOf (rhoK C T) H o.op ⟨v, H', l⟩) T' H' lo'⟩
  else ⟨fun L T H lo kn => (armB C o.op).run L T H fun v H' l => minN lo l fun lo' => (stB o.dst).run v T fun T' => kn .none T' H' lo'⟩
noncomputable def skipO (o : Oper) : Oc := fun L T H lo kn => (stB o.dst).run undefV T fun T' => kn .none T' H lo
noncomputable def wantO (v : V) (y : R) : R :=
  match v with
  | .tup vs => (match vs with
    | [] => y
    | _ => none)
  | _ => none
noncomputable def wantK (v : V) (want : Bool) (x y : R) : R :=
  vLit v (fun v => xBool v (fun b => boolK b (boolK want x y) (boolK want y x)) none) (wantO v y)
noncomputable def opB (C : Ctx) (nt : Nat) (ops : Array Oper) (o : Oper) (eff : Bool) : Box Oc :=
  bif dstOk nt o.dst && dstOk 512 o.dst then
    (match o.guard with
    | none => doB C o eff
    | some (j, want) => (match (ops[j]?).bind (·.dst) with
      | none => ⟨fun _ _ _ _ _ => none⟩
      | some d => bif Nat.blt d 512 then ⟨fun L T H lo kn => wantK ((getB d).run T) want ((doB C o eff).run L T H lo kn) (skipO o L T H lo kn)⟩ else ⟨fun _ _ _ _ _ => none⟩))
  else ⟨fun _ _ _ _ _ => none⟩

abbrev Rc := Lv → T8 → Heap → Nat → KN → R
noncomputable def rowN (C : Ctx) (nt : Nat) (ops : Array Oper) (l : List Oper) : Rc :=
  List.rec (motive := fun _ => Rc) (fun L T H lo kn => kn T H lo) (fun o _ ih L T H lo kn => (opB C nt ops o false).run L T H lo fun _ T H lo => ih L T H lo kn) l
noncomputable def rowE (C : Ctx) (nt : Nat) (ops : Array Oper) (l : List Oper) : Lv → T8 → Heap → Nat → (List Eff → List Eff) → (List Eff → KN) → R :=
  List.rec (motive := fun _ => Lv → T8 → Heap → Nat → (List Eff → List Eff) → (List Eff → KN) → R) (fun L T H lo acc kn => kn (acc []) T H lo)
    (fun o _ ih L T H lo acc kn => (opB C nt ops o true).run L T H lo fun e T H lo => ih L T H lo (fun es => acc (e :: es)) kn) l

/-- May the operation do anything to memory whose order counts? -/
def mayEff : Op → Bool
  | .move _ | .assign _ | .pick _ _ _ | .build _ _ | .nilCheck _ | .binOp _ _ _ _ _ | .unOp _ _ _ | .makeInterface _ _ | .makeFunc _ _ _ | .slice _ _ _ _ _
  | .fieldAddr _ _ _ | .field _ _ _ | .indexAddr _ _ _ | .index _ _ _ | .typeAssert _ _ _ _ | .extract _ _ => false
  | _ => true
def few (ops : List Oper) : Bool := Nat.ble (ops.countP fun o => mayEff o.op) 1

noncomputable def regB (C : Ctx) (nt : Nat) (ops : Array Oper) (draw : Bool) : Box Rc :=
  bif draw then
    bif regOk ops then
      bif few ops.toList then ⟨rowN C nt ops ops.toList⟩
      else ⟨fun L T H lo kn => rowE C nt ops ops.toList L T H lo (fun es => es) fun es T H lo => boolK (orderOk ops es) (kn T H lo) none⟩
    else ⟨fun _ _ _ _ _ => none⟩
  else ⟨rowN C nt ops ops.toList⟩

/-! ### Code -/
abbrev Cl := Lv → Option Nat → Nat → T8 → Heap → Nat → KN → KA → R
noncomputable def skipM : Cl := fun L ro nt T H lo kn ka => kn T H lo
noncomputable def regM (C : Ctx) (ops : Array Oper) (draw : Bool) : Cl := fun L ro nt T H lo kn ka => (regB C nt ops draw).run L T H lo kn
noncomputable def seqM (a b : Cl) : Cl := fun L ro nt T H lo kn ka => a L ro nt T H lo (fun T H lo => b L ro nt T H lo kn ka) ka
noncomputable def condV (v : V) (x y : R) : R := vLit v (fun v => xBool v (fun b => boolK b x y) none) none
noncomputable def condM (C : Ctx) (c : Operand) (a b : Cl) : Cl := fun L ro nt T H lo kn ka => condV ((opd C c).run T) (a L ro nt T H lo kn ka) (b L ro nt T H lo kn ka)
noncomputable def outK (id : Nat) (kn : KN) (ka : KA) (x : Option Nat) : KN :=
  Option.rec (motive := fun _ => KN) (ka none) (fun i T H lo => boolK (Nat.beq i id) (kn T H lo) (ka (some i) T H lo)) x
noncomputable def blockM (id : Nat) (a : Cl) : Cl := fun L ro nt T H lo kn ka => a L ro nt T H lo kn (outK id kn ka)
noncomputable def loopM (a : Cl) : Cl := fun L ro nt T H lo kn ka => Nat.rec (motive := fun _ => KN) (fun _ _ _ => none) (fun _ again T H lo => a L ro nt T H lo again ka) L.fuel T H lo
noncomputable def exitM (id : Nat) : Cl := fun L ro nt T H lo kn ka => ka (some id) T H lo
noncomputable def retM : Cl := fun L ro nt T H lo kn ka => ka none T H lo
noncomputable def snapK (C : Ctx) (nt : Nat) (T : T8) : List V := (List.range nt).map fun t => rhoK C T (.tmp t)
noncomputable def pendK (T : T8) (H : Heap) (lo : Nat) (kn : KN) (ka : KA) (pend : Option Code) : R :=
  match pend with
  | none => kn T H lo
  | some c => (match c with
    | .exit i => ka (some i) T H lo
    | .ret => ka none T H lo
    | _ => none)
noncomputable def overK' (b : Nat) (T : T8) (lo : Nat) (kn : KN) (ka : KA) : KV := fun v H l =>
  match H.get b with
  | some B => (match B with
    | .loop ts ps as bd state pend => (match state with
      | .busy => none
      | _ => setH H b (.loop ts ps as bd .exhausted pend) fun H => minN lo l fun lo => pendK T H lo kn ka pend)
    | _ => none)
  | none => none
noncomputable def rangeV (C : Ctx) (params : Array Tmp) (as bd : Code) (f : V) : Cl := fun L ro nt T H lo kn ka =>
  match f with
  | .fn f first cap => (match f with
    | .func g => (match C.S g with
      | none => forceN H.n fun b => pushK H (.loop (snapK C nt T) params.toList as bd .ready none) fun H' => L.call g (first ++ [.yld b] ++ cap) H' (overK' b T lo kn ka)
      | some _ => none)
    | _ => none)
  | _ => none
noncomputable def rangeM (C : Ctx) (f : Operand) (params : Array Tmp) (as bd : Code) : Cl := fun L ro nt T H lo kn ka =>
  boolK (roOk H ro) (rangeV C params as bd ((opd C f).run T) L ro nt T H lo kn ka) none
noncomputable def failM : Cl := fun _ _ _ _ _ _ _ _ => none

noncomputable def cmp (C : Ctx) (c : Code) : Cl :=
  Code.rec (motive := fun _ => Cl) skipM (fun _ ops draw => regM C ops draw) (fun _ _ a b => seqM a b) (fun c _ _ a b => condM C c a b) (fun id _ a => blockM id a) (fun _ a => loopM a)
    (fun f params as bd _ _ => rangeM C f params as bd) (fun id => exitM id) (fun _ _ => failM) (fun _ => skipM) (fun _ => failM) retM (fun _ => failM) c

/-! ### Calls -/
noncomputable def fillK (vs : List V) (i : Nat) (T : T8) (k : T8 → R) : R :=
  List.rec (motive := fun _ => Nat → T8 → R) (fun _ T => k T) (fun v _ ih i T => (setB i).run v T fun T => ih (Nat.succ i) T) vs i T
noncomputable def zipK (C : Ctx) : List Tmp → List V → T8 → (T8 → R) → R
  | t :: ts, v :: vs, T, k => (setB t).run v T fun T => zipK C ts vs T k
  | _, _, T, k => k T
noncomputable def loadResK (C : Ctx) (T : T8) (H : Heap) : List ResultVar → Option (List V)
  | [] => some []
  | r :: rs => (match (match r with
      | .tmp t => some (rhoK C T (.tmp t))
      | .cell a t => loadK C.P H t (rhoK C T (.tmp a))) with
    | some v => (match loadResK C T H rs with
      | some vs => some (v :: vs)
      | none => none)
    | none => none)
noncomputable def resM (C : Ctx) (rs : List ResultVar) (T : T8) (H : Heap) (lo : Nat) (kv : KV) : R :=
  match loadResK C T H rs with
  | some vs => vAll (resOf vs) fun v => kv v H lo
  | none => none
noncomputable def bodyM (C : Ctx) (cl : Cl) (nt : Nat) (rs : List ResultVar) (L : Lv) (args : List V) (H : Heap) (kv : KV) : R :=
  boolK (Nat.ble args.length nt) (fillK args 0 V8 fun T => forceN H.n fun lo => cl L none nt T H lo (fun T H lo => resM C rs T H lo kv)
    fun x T H lo => Option.rec (motive := fun _ => R) (resM C rs T H lo kv) (fun _ => none) x) none
noncomputable def sumM (G : List V → Option V) (args : List V) (H : Heap) (kv : KV) : R :=
  match args.mapM (derefV H 50) with
  | some as => optK (G as) fun v => kv v H H.n
  | none => none
/-- Code that defers calls. -/
noncomputable def plainD (C : Ctx) (nt : Nat) (c : Code) (L : Lv) (T : T8) (H : Heap) (lo : Nat) (K : Ex → List (V × List V) → KN) : R :=
  cmp C c L none nt T H lo (fun T H l => minN lo l fun l => K .normal [] T H l) fun x T H l => minN lo l fun l => K (match x with | some i => .exit i | none => .ret) [] T H l
noncomputable def cmpD (C : Ctx) (nt : Nat) : Code → Lv → T8 → Heap → Nat → (Ex → List (V × List V) → KN) → R
  | .seq a b, L, T, H, lo, K => cmpD C nt a L T H lo fun x ds T H lo => match x with
    | .normal => cmpD C nt b L T H lo fun y ds2 T H lo => K y (ds2 ++ ds) T H lo
    | x => K x ds T H lo
  | .region id ops draw, L, T, H, lo, K => match lastDefer ops.toList with
    | some (init, dst, f, args) => boolK draw none (boolK (dstOk nt dst && dstOk 512 dst) (rowN C nt ops init L T H lo fun T H l => match (opd C f).run T with
      | .fn g a b => (stB dst).run undefV T fun T' => minN lo l fun l => K .normal [(.fn g a b, args.map (rhoK C T))] T' H l
      | _ => none) none)
    | none => plainD C nt (.region id ops draw) L T H lo K
  | c, L, T, H, lo, K => plainD C nt c L T H lo K
noncomputable def dsK (C : Ctx) (L : Lv) : List (V × List V) → Heap → Nat → (Heap → Nat → R) → R
  | [], H, lo, k => k H lo
  | (f, args) :: ds, H, lo, k => match f with
    | .fn (.func g) first cap => match C.S g with
      | some _ => none
      | none => boolK (defers C.P g) none (L.call g (first ++ args ++ cap) H fun _ H' l => minN lo l fun lo => dsK C L ds H' lo k)
    | _ => none
noncomputable def bodyD (C : Ctx) (body : Code) (nt : Nat) (rs : List ResultVar) (L : Lv) (args : List V) (H : Heap) (kv : KV) : R :=
  boolK (Nat.ble args.length nt) (fillK args 0 V8 fun T => forceN H.n fun lo => cmpD C nt body L T H lo fun x ds T H lo => match x with
    | .exit _ => none
    | _ => dsK C L ds H lo fun H lo => resM C rs T H lo kv) none
noncomputable def fnB (C : Ctx) (g : FuncId) : Box (Lv → List V → Heap → KV → R) :=
  match C.S g with
  | some G => ⟨fun L args H kv => sumM G args H kv⟩
  | none => (match fnOf C g with
    | some (body, k, rs, d) => bif Nat.ble k 512 then
        bif d then ⟨fun L args H kv => forceN k fun k => bodyD C body k rs L args H kv⟩ else ⟨fun L args H kv => forceN k fun k => bodyM C (cmp C body) k rs L args H kv⟩
      else ⟨fun _ _ _ _ => none⟩
    | none => ⟨fun _ _ _ _ => none⟩)
noncomputable def roundOut (b : Nat) (x : Ex) (kv : KV) (H : Heap) (lo : Nat) : R :=
  match H.get b with
  | some B => (match B with
    | .loop ts ps as bd _ _ => setH H b (.loop ts ps as bd (stateOf x) (jumpOf x)) fun H => minN lo b fun lo => kv (.lit (.bool (goesOn x))) H lo
    | _ => none)
  | none => none
noncomputable def roundIn (C : Ctx) (L : Lv) (b nt : Nat) (bd : Code) (kv : KV) : KN := fun T H lo =>
  match H.get b with
  | some B => (match B with
    | .loop ts ps as bd1 state pend => (match state with
      | .ready => setH H b (.loop ts ps as bd1 .busy pend) fun H => minN lo b fun lo => cmp C bd L (some b) nt T H lo (fun T H lo => roundOut b .normal kv H lo)
          fun x T H lo => Option.rec (motive := fun _ => R) (roundOut b .ret kv H lo) (fun i => roundOut b (.exit i) kv H lo) x
      | _ => none)
    | _ => none)
  | none => none
noncomputable def roundM (C : Ctx) (L : Lv) (b : Nat) (args : List V) (H : Heap) (kv : KV) : R :=
  match H.get b with
  | some B => (match B with
    | .loop ts ps as bd state _ => (match state with
      | .ready => boolK (Nat.beq args.length ps.length && (ps.all (fun p => Nat.blt p ts.length) && Nat.ble ts.length 512))
          (forceN ts.length fun nt => fillK ts 0 V8 fun T => zipK C ps args T fun T => forceN H.n fun lo => cmp C as L (some b) nt T H lo (roundIn C L b nt bd kv) fun _ _ _ _ => none) none
      | _ => none)
    | _ => none)
  | none => none
noncomputable def lv (C : Ctx) (n : Nat) : Lv :=
  Nat.rec (motive := fun _ => Lv) ⟨fun _ _ _ _ => none, fun _ _ _ _ => none, 0⟩ (fun n L => ⟨fun g args H kv => (fnB C g).run L args H kv, fun b args H kv => roundM C L b args H kv, n⟩) n
/-- A function's value. -/
noncomputable def kcall (C : Ctx) (n : Nat) (g : FuncId) (args : List V) (H : Heap) : R := (lv C n).call g args H fun v _ _ => some v
end Go.Tw
