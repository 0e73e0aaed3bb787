/- A deterministic evaluator of the model's code: definitions alone. -/
import Derived.Test.YteifcnkjjigddaaGreatDoorTwOp
import Derived.Orders
set_option linter.unusedVariables false
namespace Go.Tw

structure Ctx where
  P : Program
  /-- What the listed package-level tables hold. -/
  G : Nat → Option (List V)
  /-- What is known of functions that take and give values without memory of this heap. -/
  S : FuncId → Option (List V → Option V)

structure St where
  T : Tr V
  H : Heap
  lo : Nat
  deriving Inhabited

def tget (T : Tr V) (t : Nat) : V := (T.get t).getD .any
def tset (T : Tr V) (t : Nat) (v : V) : Tr V := Tr.set (t + 1) T t v

def rho (C : Ctx) (T : Tr V) : Operand → V
  | .tmp t => tget T t
  | .const v => ofV v
  | .global g => match C.G g with
    | some cs => .pp cs
    | none => .gptr g 0
  | .func f => .fn (.func f) [] []

inductive Ex where
  | normal
  | exit (id : Nat)
  | ret
  deriving DecidableEq, Inhabited

/-- What an operation does to memory, so far as its order counts: nothing; a new variable; a block is read, written; something is read, or made; a call that writes nothing that was there; anything. -/
inductive Eff where
  | none
  | al
  | rd (b : Nat)
  | wr (b : Nat)
  | sr
  | ca
  | sw
  deriving Inhabited, DecidableEq

/-- Must these two keep their order? -/
def clash : Eff → Eff → Bool
  | .none, _ => false
  | _, .none => false
  | .sw, _ => true
  | _, .sw => true
  | .al, _ => false
  | _, .al => false
  | .wr b, .rd b' => Nat.beq b b'
  | .rd b, .wr b' => Nat.beq b b'
  | .wr b, .wr b' => Nat.beq b b'
  | .wr _, _ => true
  | _, .wr _ => true
  | .rd _, _ => false
  | _, .rd _ => false
  | .sr, .sr => false
  | .sr, .ca => true
  | .ca, .sr => true
  | .ca, .ca => true

def effOf (r : Operand → V) (H : Heap) (o : Op) (res : OR) : Eff :=
  match o with
  | .load _ a => match r a with
    | .ptr b _ => .rd b
    | _ => .none
  | .store _ a _ => match r a with
    | .ptr b _ => .wr b
    | _ => .sw
  | .alloc _ => .al
  | .move _ | .assign _ | .pick _ _ _ | .build _ _ | .nilCheck _ | .binOp _ _ _ _ _ | .unOp _ _ _ | .makeInterface _ _ | .makeFunc _ _ _ | .slice _ _ _ _ _
  | .fieldAddr _ _ _ | .field _ _ _ | .indexAddr _ _ _ | .index _ _ _ | .typeAssert _ _ _ _ | .extract _ _ => .none
  | .lookup _ m _ _ => match r m with
    | .mp b => .rd b
    | .lit _ => .none
    | _ => .sw
  | .convert _ _ x => match r x with
    | .lit (.int _ _) => .none
    | _ => bif Nat.beq res.lo H.n then .sr else .sw
  | .call c => match c.callee with
    | .builtin .len => match c.args[0]? with
      | some x => match r x with
        | .mp b => match H.get b with
          | some _ => .rd b
          | none => .sw
        | .lit _ => .none
        | .sl _ _ _ _ _ => .none
        | .ps _ _ => .none
        | _ => .sw
      | none => .sw
    | .builtin .cap => .none
    | .builtin .max => .none
    | .builtin .min => .none
    | .value _ => bif Nat.beq res.lo H.n then .ca else .sw
    | _ => .sw
  | _ => bif Nat.beq res.lo H.n then .sr else .sw

/-- Is the operation wanted? 'none': that cannot be told. -/
def wantedV (ops : Array Oper) (T : Tr V) (o : Oper) : Option Bool :=
  match o.guard with
  | none => some true
  | some (j, want) => match (ops[j]?).bind (·.dst) with
    | none => none
    | some d => match tget T d with
      | .lit (.bool b) => some (bif want then b else !b)
      | .tup [] => some false
      | _ => none

def putV (T : Tr V) (dst : Option Tmp) (v : V) : Tr V :=
  match dst with
  | some d => tset T d v
  | none => T

def dstOk (nt : Nat) (dst : Option Tmp) : Bool :=
  match dst with
  | some d => Nat.blt d nt
  | none => true

def depsOn (ops : Array Oper) (d : Tmp) : List Nat := (List.range ops.size).filter fun i => ((ops[i]?).bind (·.dst)) == some d

def force {α : Type} (n : Nat) (k : Nat → α) : α :=
  match n with
  | 0 => k 0
  | m + 1 => k (m + 1)

/-- Behind which an operation stands in each order: of the earlier ones' numbers, the last first. -/
def maskOf (acc : List Nat) (len : Nat) : List Edge → Nat
  | [] => 0
  | e :: es => bif Region.binds .any e && Nat.blt e.on len then (2 ^ e.on ||| acc.getD (len - 1 - e.on) 0) ||| maskOf acc len es else maskOf acc len es

def masksR : Nat → List Oper → List Nat → List Nat
  | _, [], acc => acc
  | j, o :: r, acc => force (maskOf acc j o.after.toList) fun m => masksR (j + 1) r (m :: acc)

def masks (ops : Array Oper) : List Nat := (masksR 0 ops.toList []).reverse

/-- Does an operation stand behind another one in each order? -/
def behind (ops : Array Oper) (j i : Nat) : Bool := ((masks ops).getD j 0).testBit i

/-- The order of what is written into slots is fixed; each slot is written once; edges go back. -/
def regOk (ops : Array Oper) : Bool :=
  (List.range ops.size).all fun j => match ops[j]? with
    | none => false
    | some o =>
      (o.after.all fun e => !Region.binds .any e || Nat.blt e.on j) &&
      (match o.dst with | none => true | some d => depsOn ops d == [j]) &&
      ((o.looksAt ops).all fun t => (depsOn ops t).all fun i => Nat.beq i j || (bif Nat.blt i j then behind ops j i else behind ops i j))

def ordGo : List Eff → List Nat → Nat → List (Nat × Eff) → Bool
  | [], _, _, _ => true
  | _ :: _, [], _, _ => false
  | e :: es, m :: ms, j, seen => (seen.all fun p => !clash p.2 e || m.testBit p.1) && ordGo es ms (j + 1) (match e with | .none => seen | _ => (j, e) :: seen)

def orderOk (ops : Array Oper) (effs : List Eff) : Bool := ordGo effs (masks ops) 0 []

def initT : List V → Nat → Tr V → Tr V
  | [], _, T => T
  | v :: vs, i, T => initT vs (i + 1) (tset T i v)

def loadRes (C : Ctx) (T : Tr V) (H : Heap) : List ResultVar → Option (List V)
  | [] => some []
  | .tmp t :: r => (loadRes C T H r).map (tget T t :: ·)
  | .cell a t :: r => do
    let v ← loadV C.P H t (tget T a)
    let vs ← loadRes C T H r
    some (v :: vs)

def resOf : List V → V
  | [v] => v
  | vs => .tup vs

/-- A value that stands for itself, in memory that nobody writes. -/
def derefV (H : Heap) : Nat → V → Option V
  | 0, _ => none
  | n + 1, v =>
    match v with
    | .lit x => some (.lit x)
    | .ps cells len => (cells.mapM (derefV H n)).map fun c => .ps c len
    | .pp cells => (cells.mapM (derefV H n)).map .pp
    | .agg cells => (cells.mapM (derefV H n)).map .agg
    | .tup vs => (vs.mapM (derefV H n)).map .tup
    | .ifc t v => (derefV H n v).map (.ifc t)
    | .ptr b off => match H.get b with
      | some (.cells cs _) => ((cs.drop off).mapM (derefV H n)).map .pp
      | _ => none
    | .sl b off len cap opn => match H.get b with
      | some (.cells cs _) => bif Nat.ble len cap then ((match opn with | some z => (cs.drop off).take (len * z) | none => cs.drop off).mapM (derefV H n)).map fun c => .ps c len else none
      | _ => none
    | .zs => some .zs
    | .void => some .void
    | _ => none

/-- What an operation gives; 'cv' calls a function. -/
def rsV (P : Program) (cv : V → List V → Heap → Option OR) (r : Operand → V) (H : Heap) (op : Op) : Option OR :=
  match op with
  | .call c => match c.callee with
    | .value f => cv (r f) (c.args.toList.map r) H
    | _ => opV P r H op
  | _ => opV P r H op

/-- Is the round's own loop still there? -/
def roOk (H : Heap) : Option Nat → Bool
  | none => true
  | some b => match H.get b with
    | some (.loop _ _ _ _ _ _) => true
    | _ => false

def setZip : List Tmp → List V → Tr V → Tr V
  | t :: ts, v :: vs, T => setZip ts vs (tset T t v)
  | _, _, T => T

def jumpOf : Ex → Option Code
  | .normal => none
  | .exit i => some (.exit i)
  | .ret => some .ret

def stateOf : Ex → LoopState
  | .normal => .ready
  | _ => .done

def goesOn : Ex → Bool
  | .normal => true
  | _ => false

mutual
/-- 'ro': the loop in whose round this is. -/
def exec (C : Ctx) : Nat → Option Nat → Nat → Code → St → Option (Ex × St)
  | 0, _, _, _, _ => none
  | n + 1, ro, nt, c, st =>
    match c with
    | .skip => some (.normal, st)
    | .label _ => some (.normal, st)
    | .region _ ops draw =>
      bif draw then
        bif regOk ops then
          match runOps C n nt ops ops.toList st with
          | some (effs, st') => bif orderOk ops effs then some (.normal, st') else none
          | none => none
        else none
      else match runOps C n nt ops ops.toList st with
        | some (_, st') => some (.normal, st')
        | none => none
    | .seq a b => match exec C n ro nt a st with
      | some (.normal, st') => exec C n ro nt b st'
      | r => r
    | .cond c a b => match rho C st.T c with
      | .lit (.bool t) => bif t then exec C n ro nt a st else exec C n ro nt b st
      | _ => none
    | .block id body => match exec C n ro nt body st with
      | some (.exit i, st') => bif Nat.beq i id then some (.normal, st') else some (.exit i, st')
      | r => r
    | .loop body => match exec C n ro nt body st with
      | some (.normal, st') => exec C n ro nt (.loop body) st'
      | r => r
    | .exit id => some (.exit id, st)
    | .ret => some (.ret, st)
    | .rangeFunc f params assign body =>
      bif roOk st.H ro then
        match rho C st.T f with
        | .fn (.func g) first cap => match C.S g with
          | none => match callF C n g (first ++ [.yld st.H.n] ++ cap) (st.H.push (.loop ((List.range nt).map (tget st.T)) params.toList assign body .ready none)) with
            | some r => match r.H.get st.H.n with
              | some (.loop ts ps as bd state pend) =>
                match state with
                | .busy => none
                | _ => match pend with
                  | none => some (.normal, ⟨st.T, r.H.set st.H.n (.loop ts ps as bd .exhausted pend), min st.lo r.lo⟩)
                  | some c => exec C n ro nt c ⟨st.T, r.H.set st.H.n (.loop ts ps as bd .exhausted pend), min st.lo r.lo⟩
              | _ => none
            | none => none
          | some _ => none
        | _ => none
      else none
    | _ => none
def runOps (C : Ctx) : Nat → Nat → Array Oper → List Oper → St → Option (List Eff × St)
  | 0, _, _, _, _ => none
  | n + 1, nt, ops, [], st => some ([], st)
  | n + 1, nt, ops, o :: rest, st =>
    match runOp C n nt ops o st with
    | some (e, st') => match runOps C n nt ops rest st' with
      | some (es, st2) => some (e :: es, st2)
      | none => none
    | none => none
def runOp (C : Ctx) : Nat → Nat → Array Oper → Oper → St → Option (Eff × St)
  | 0, _, _, _, _ => none
  | n + 1, nt, ops, o, st =>
    bif dstOk nt o.dst then
      match wantedV ops st.T o with
      | none => none
      | some false => some (.none, ⟨putV st.T o.dst undefV, st.H, st.lo⟩)
      | some true =>
        match rsV C.P (callV C n) (rho C st.T) st.H o.op with
        | some r => some (effOf (rho C st.T) st.H o.op r, ⟨putV st.T o.dst r.v, r.H, min st.lo r.lo⟩)
        | none => none
    else none
def callV (C : Ctx) : Nat → V → List V → Heap → Option OR
  | 0, _, _, _ => none
  | n + 1, f, args, H =>
    match f with
    | .fn (.func g) first cap => callF C n g (first ++ args ++ cap) H
    | .yld b => match H.get b with
      | some (.loop ts ps as bd state _) =>
        match state with
        | .ready =>
          bif Nat.beq args.length ps.length && ps.all (fun p => Nat.blt p ts.length) then
            match exec C n (some b) ts.length as ⟨setZip ps args (initT ts 0 .nil), H, H.n⟩ with
            | some (.normal, st1) => match st1.H.get b with
              | some (.loop ts1 ps1 as1 bd1 state1 pend1) =>
                match state1 with
                | .ready => match exec C n (some b) ts.length bd ⟨st1.T, st1.H.set b (.loop ts1 ps1 as1 bd1 .busy pend1), min st1.lo b⟩ with
                  | some (x, st3) => match st3.H.get b with
                    | some (.loop ts3 ps3 as3 bd3 _ _) => some ⟨.lit (.bool (goesOn x)), st3.H.set b (.loop ts3 ps3 as3 bd3 (stateOf x) (jumpOf x)), min st3.lo b⟩
                    | _ => none
                  | none => none
                | _ => none
              | _ => none
            | _ => none
          else none
        | _ => none
      | _ => none
    | _ => none
def callF (C : Ctx) : Nat → FuncId → List V → Heap → Option OR
  | 0, _, _, _ => none
  | n + 1, g, args, H =>
    match C.S g with
    | some F => do
      let as ← args.mapM (derefV H 50)
      let v ← F as
      some ⟨v, H, H.n⟩
    | none =>
      match C.P.funcs[g]? with
      | some fn => match fn.body with
        | some body => bif fn.name == "runtime.NumGoroutine" then none else
          match exec C n none (max args.length fn.ntmps) body ⟨initT args 0 .nil, H, H.n⟩ with
          | some (.normal, st) => do
            let vs ← loadRes C st.T st.H fn.results.toList
            some ⟨resOf vs, st.H, st.lo⟩
          | some (.ret, st) => do
            let vs ← loadRes C st.T st.H fn.results.toList
            some ⟨resOf vs, st.H, st.lo⟩
          | _ => none
        | none => none
      | none => none
end
end Go.Tw
