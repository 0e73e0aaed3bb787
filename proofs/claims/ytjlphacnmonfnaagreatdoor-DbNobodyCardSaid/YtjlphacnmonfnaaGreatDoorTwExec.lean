/- A deterministic evaluator of the model's code: definitions alone. -/
import Derived.Test.YtjlphacnmonfnaaGreatDoorTwOp
import Derived.Orders
set_option linter.unusedVariables false
namespace Go.Tw

/-- Functions by their numbers, to be found fast. -/
inductive FT where
  | leaf
  | node (g : Nat) (f : Func) (l r : FT)
def FT.find : FT → Nat → Option Func
  | .leaf, _ => none
  | .node g f l r, n => bif Nat.beq n g then some f else bif Nat.blt n g then l.find n else r.find n
def FT.OK (P : Program) : FT → Prop
  | .leaf => True
  | .node g f l r => P.funcs[g]? = some f ∧ l.OK P ∧ r.OK P
theorem FT.find_ok {P : Program} : ∀ {t : FT} {n : Nat} {f : Func}, t.OK P → t.find n = some f → P.funcs[n]? = some f
  | .leaf, n, f, _, h => by cases h
  | .node g f' l r, n, f, ⟨h1, h2, h3⟩, h => by
    simp only [FT.find] at h
    cases e : Nat.beq n g with
    | true =>
      rw [e] at h
      injection h with h
      rw [Nat.eq_of_beq_eq_true e, ← h]
      exact h1
    | false =>
      rw [e] at h
      simp only [cond_false] at h
      cases e2 : Nat.blt n g with
      | true => rw [e2] at h; exact FT.find_ok h2 h
      | false => rw [e2] at h; exact FT.find_ok h3 h

structure Ctx where
  P : Program
  /-- What the listed package-level tables hold. -/
  G : Nat → Option (List V)
  /-- What is known of functions that take and give values without memory of this heap. -/
  S : FuncId → Option (List V → Option V)
  /-- Some functions, to be found fast. -/
  ft : FT := .leaf

structure St where
  T : Tr V
  H : Heap
  lo : Nat
  deriving Inhabited

def tget (T : Tr V) (t : Nat) : V := (T.get t).getD .any
def tset (T : Tr V) (t : Nat) (v : V) : Tr V := Tr.set (t + 1) T t v

def rho (C : Ctx) (T : Tr V) : Operand → V
  | .tmp t => tget T t
  | .const v => ofV v
  | .global g => match C.G g with
    | some cs => .pp cs
    | none => .gptr g 0
  | .func f => .fn (.func f) [] []

inductive Ex where
  | normal
  | exit (id : Nat)
  | ret
  deriving DecidableEq, Inhabited

/-- What an operation does to memory, so far as its order counts: nothing; a new block; a block is read, written; a row grows elsewhere, behind what another block holds; something is read, or made; a call that writes nothing that was there; anything. -/
inductive Eff where
  | none
  | al
  | rd (b : Nat)
  | wr (b : Nat)
  | ap (b x : Nat)
  | lk (b : Nat) (t : TypeId) (k : V)
  | en (b : Nat) (t : TypeId) (k : V)
  | sr
  | ca
  | sw
  deriving Inhabited

/-- Must these two keep their order, as far as blocks go? -/
def clash0 : Eff → Eff → Bool
  | .none, _ => false
  | _, .none => false
  | .sw, _ => true
  | _, .sw => true
  | .al, _ => false
  | _, .al => false
  | .wr b, .rd b' => Nat.beq b b'
  | .rd b, .wr b' => Nat.beq b b'
  | .wr b, .wr b' => Nat.beq b b'
  | .ap b _, .rd b' => Nat.beq b b'
  | .rd b, .ap b' _ => Nat.beq b b'
  | .ap b x, .wr b' => Nat.beq b b' || Nat.beq x b'
  | .wr b, .ap b' x => Nat.beq b b' || Nat.beq b x
  | .ap b x, .ap b' x' => Nat.beq b b' || Nat.beq x b' || Nat.beq b x'
  | .ap _ _, _ => true
  | _, .ap _ _ => true
  | .wr _, _ => true
  | _, .wr _ => true
  | .rd _, _ => false
  | _, .rd _ => false
  | .sr, .sr => false
  | .sr, .ca => false
  | .ca, .sr => false
  | .ca, .ca => false
  | _, _ => true

/-- Reading and writing, whatever key. -/
def Eff.plain : Eff → Eff
  | .lk b _ _ => .rd b
  | .en b _ _ => .wr b
  | e => e
def sameV (k k' : V) : Bool :=
  match plainEq k k' with
  | some b => b
  | none => false
/-- Must these two keep their order? What is found of a key in a map is the same ahead of that key's entry and behind. -/
def clash (a b : Eff) : Bool :=
  match a, b with
  | .lk b t k, .en b' t' k' => Nat.beq b b' && !(Nat.beq t t' && sameV k k')
  | .en b' t' k', .lk b t k => Nat.beq b b' && !(Nat.beq t t' && sameV k k')
  | a, b => clash0 a.plain b.plain

/-- The block of a row, if it has one. -/
def rowOf (x : V) (d : Nat) : Nat :=
  match x with
  | .sl b _ _ _ _ => b
  | _ => d

def effOf (r : Operand → V) (H : Heap) (o : Op) (res : OR) : Eff :=
  match o with
  | .load _ a => match r a with
    | .ptr b _ => .rd b
    | _ => .none
  | .store _ a _ => match r a with
    | .ptr b _ => .wr b
    | _ => .sw
  | .alloc _ | .box _ _ | .buildSlice _ _ _ | .makeSlice _ _ _ | .makeMap _ _ => .al
  | .move _ | .assign _ | .pick _ _ _ | .build _ _ | .nilCheck _ | .binOp _ _ _ _ _ | .unOp _ _ _ | .makeInterface _ _ | .makeFunc _ _ _ | .slice _ _ _ _ _
  | .fieldAddr _ _ _ | .field _ _ _ | .indexAddr _ _ _ | .index _ _ _ | .typeAssert _ _ _ _ | .extract _ _ => .none
  | .lookup t m k ok => match r m with
    | .mp b => bif ok then .rd b else .lk b t (r k)
    | .lit _ => .none
    | _ => .sw
  | .mapEntry t m k => match r m with
    | .mp b => .en b t (r k)
    | _ => .sw
  | .convert _ _ x => match r x with
    | .lit (.int _ _) => .none
    | _ => bif Nat.beq res.lo H.n then .sr else .sw
  | .call c => match c.callee with
    | .builtin .len => match c.args[0]? with
      | some x => match r x with
        | .mp b => match H.get b with
          | some _ => .rd b
          | none => .sw
        | .lit _ => .none
        | .sl _ _ _ _ _ => .none
        | .ps _ _ => .none
        | _ => .sw
      | none => .sw
    | .builtin .append => bif Nat.beq res.lo H.n then .sr else match res.v with
      | .sl n _ _ _ _ => bif Nat.beq n H.n then .ap res.lo (match c.args[1]? with
          | some x => rowOf (r x) res.lo
          | none => res.lo) else .sw
      | _ => .sw
    | .builtin .cap => .none
    | .builtin .max => .none
    | .builtin .min => .none
    | .value _ => bif Nat.beq res.lo H.n then .ca else .sw
    | .invoke _ _ => bif Nat.beq res.lo H.n then .ca else .sw
    | _ => .sw
  | _ => bif Nat.beq res.lo H.n then .sr else .sw

/-- Is the operation wanted? 'none': that cannot be told. -/
def wantedV (ops : Array Oper) (T : Tr V) (o : Oper) : Option Bool :=
  match o.guard with
  | none => some true
  | some (j, want) => match (ops[j]?).bind (·.dst) with
    | none => none
    | some d => match tget T d with
      | .lit (.bool b) => some (bif want then b else !b)
      | .tup [] => some false
      | _ => none

def putV (T : Tr V) (dst : Option Tmp) (v : V) : Tr V :=
  match dst with
  | some d => tset T d v
  | none => T

def dstOk (nt : Nat) (dst : Option Tmp) : Bool :=
  match dst with
  | some d => Nat.blt d nt
  | none => true

def depsOn (ops : Array Oper) (d : Tmp) : List Nat := (List.range ops.size).filter fun i => ((ops[i]?).bind (·.dst)) == some d

def force {α : Type} (n : Nat) (k : Nat → α) : α :=
  match n with
  | 0 => k 0
  | m + 1 => k (m + 1)

/-- Behind which an operation stands in each order: of the earlier ones' numbers, the last first. -/
def maskOf (acc : List Nat) (len : Nat) : List Edge → Nat
  | [] => 0
  | e :: es => bif Region.binds .any e && Nat.blt e.on len then (2 ^ e.on ||| acc.getD (len - 1 - e.on) 0) ||| maskOf acc len es else maskOf acc len es

def masksR : Nat → List Oper → List Nat → List Nat
  | _, [], acc => acc
  | j, o :: r, acc => force (maskOf acc j o.after.toList) fun m => masksR (j + 1) r (m :: acc)

def masks (ops : Array Oper) : List Nat := (masksR 0 ops.toList []).reverse

/-- Does an operation stand behind another one in each order? -/
def behind (ops : Array Oper) (j i : Nat) : Bool := ((masks ops).getD j 0).testBit i

/-- The order of what is written into slots is fixed; each slot is written once; edges go back. -/
def regOk (ops : Array Oper) : Bool :=
  (List.range ops.size).all fun j => match ops[j]? with
    | none => false
    | some o =>
      (o.after.all fun e => !Region.binds .any e || Nat.blt e.on j) &&
      (match o.dst with | none => true | some d => depsOn ops d == [j]) &&
      ((o.looksAt ops).all fun t => (depsOn ops t).all fun i => Nat.beq i j || (bif Nat.blt i j then behind ops j i else behind ops i j))

def ordGo : List Eff → List Nat → Nat → List (Nat × Eff) → Bool
  | [], _, _, _ => true
  | _ :: _, [], _, _ => false
  | e :: es, m :: ms, j, seen => (seen.all fun p => !clash p.2 e || m.testBit p.1) && ordGo es ms (j + 1) (match e with | .none => seen | _ => (j, e) :: seen)

def orderOk (ops : Array Oper) (effs : List Eff) : Bool := ordGo effs (masks ops) 0 []

def initT : List V → Nat → Tr V → Tr V
  | [], _, T => T
  | v :: vs, i, T => initT vs (i + 1) (tset T i v)

def loadRes (C : Ctx) (T : Tr V) (H : Heap) : List ResultVar → Option (List V)
  | [] => some []
  | .tmp t :: r => (loadRes C T H r).map (tget T t :: ·)
  | .cell a t :: r => do
    let v ← loadV C.P H t (tget T a)
    let vs ← loadRes C T H r
    some (v :: vs)

def resOf : List V → V
  | [v] => v
  | vs => .tup vs

/-- A value that stands for itself, in memory that nobody writes. -/
def derefV (H : Heap) : Nat → V → Option V
  | 0, _ => none
  | n + 1, v =>
    match v with
    | .lit x => some (.lit x)
    | .ps cells len => (cells.mapM (derefV H n)).map fun c => .ps c len
    | .pp cells => (cells.mapM (derefV H n)).map .pp
    | .agg cells => (cells.mapM (derefV H n)).map .agg
    | .tup vs => (vs.mapM (derefV H n)).map .tup
    | .ifc t v => (derefV H n v).map (.ifc t)
    | .ptr b off => match H.get b with
      | some (.cells cs _) => ((cs.drop off).mapM (derefV H n)).map .pp
      | _ => none
    | .sl b off len cap opn => match H.get b with
      | some (.cells cs _) => bif Nat.ble len cap then ((match opn with | some z => (cs.drop off).take (len * z) | none => cs.drop off).mapM (derefV H n)).map fun c => .ps c len else none
      | _ => none
    | .zs => some .zs
    | .void => some .void
    | _ => none

/-- What an operation gives; 'cv' calls a function. -/
def rsV (P : Program) (cv : V → List V → Heap → Option OR) (r : Operand → V) (H : Heap) (op : Op) : Option OR :=
  match op with
  | .call c => match c.callee with
    | .value f => cv (r f) (c.args.toList.map r) H
    | .invoke x name => cv (.fn (.method name) [r x] []) (c.args.toList.map r) H
    | _ => opV P r H op
  | _ => opV P r H op

/-- Does code defer calls? -/
def hasDefer : Code → Bool
  | .region _ ops _ => ops.toList.any fun o => match o.op with
    | .defer _ => true
    | _ => false
  | .seq a b => hasDefer a || hasDefer b
  | .cond _ a b => hasDefer a || hasDefer b
  | .block _ a => hasDefer a
  | .loop a => hasDefer a
  | .scope a => hasDefer a
  | .rangeFunc _ _ a b => hasDefer a || hasDefer b
  | _ => false
def defers (P : Program) (g : FuncId) : Bool :=
  match P.funcs[g]? with
  | some fn => match fn.body with
    | some b => hasDefer b
    | none => true
  | none => true
/-- Operations whose last one defers a call. -/
def lastDefer (ops : List Oper) : Option (List Oper × Option Tmp × Operand × List Operand) :=
  match ops.reverse with
  | o :: r => match o.op, o.guard with
    | .defer c, none => match c.callee with
      | .value f => some (r.reverse, o.dst, f, c.args.toList)
      | _ => none
    | _, _ => none
  | [] => none

/-- Is the round's own loop still there? -/
def roOk (H : Heap) : Option Nat → Bool
  | none => true
  | some b => match H.get b with
    | some (.loop _ _ _ _ _ _) => true
    | _ => false

def setZip : List Tmp → List V → Tr V → Tr V
  | t :: ts, v :: vs, T => setZip ts vs (tset T t v)
  | _, _, T => T

def jumpOf : Ex → Option Code
  | .normal => none
  | .exit i => some (.exit i)
  | .ret => some .ret

def stateOf : Ex → LoopState
  | .normal => .ready
  | _ => .done

def goesOn : Ex → Bool
  | .normal => true
  | _ => false

/-- No call is deferred. -/
def noDs (st : St) (o : Option (Ex × St)) : Option (Ex × St × List (V × List V)) :=
  match o with
  | some (x, st') => some (x, ⟨st'.T, st'.H, min st.lo st'.lo⟩, [])
  | none => none

mutual
/-- 'ro': the loop in whose round this is. -/
def exec (C : Ctx) : Nat → Option Nat → Nat → Code → St → Option (Ex × St)
  | 0, _, _, _, _ => none
  | n + 1, ro, nt, c, st =>
    match c with
    | .skip => some (.normal, st)
    | .label _ => some (.normal, st)
    | .region _ ops draw =>
      bif draw then
        bif regOk ops then
          match runOps C n nt ops ops.toList st with
          | some (effs, st') => bif orderOk ops effs then some (.normal, st') else none
          | none => none
        else none
      else match runOps C n nt ops ops.toList st with
        | some (_, st') => some (.normal, st')
        | none => none
    | .seq a b => match exec C n ro nt a st with
      | some (.normal, st') => exec C n ro nt b st'
      | r => r
    | .cond c a b => match rho C st.T c with
      | .lit (.bool t) => bif t then exec C n ro nt a st else exec C n ro nt b st
      | _ => none
    | .block id body => match exec C n ro nt body st with
      | some (.exit i, st') => bif Nat.beq i id then some (.normal, st') else some (.exit i, st')
      | r => r
    | .loop body => match exec C n ro nt body st with
      | some (.normal, st') => exec C n ro nt (.loop body) st'
      | r => r
    | .exit id => some (.exit id, st)
    | .ret => some (.ret, st)
    | .rangeFunc f params assign body =>
      bif roOk st.H ro then
        match rho C st.T f with
        | .fn (.func g) first cap => match C.S g with
          | none => match callF C n g (first ++ [.yld st.H.n] ++ cap) (st.H.push (.loop ((List.range nt).map (tget st.T)) params.toList assign body .ready none)) with
            | some r => match r.H.get st.H.n with
              | some (.loop ts ps as bd state pend) =>
                match state with
                | .busy => none
                | _ => match pend with
                  | none => some (.normal, ⟨st.T, r.H.set st.H.n (.loop ts ps as bd .exhausted pend), min st.lo r.lo⟩)
                  | some c => exec C n ro nt c ⟨st.T, r.H.set st.H.n (.loop ts ps as bd .exhausted pend), min st.lo r.lo⟩
              | _ => none
            | none => none
          | some _ => none
        | _ => none
      else none
    | _ => none
def runOps (C : Ctx) : Nat → Nat → Array Oper → List Oper → St → Option (List Eff × St)
  | 0, _, _, _, _ => none
  | n + 1, nt, ops, [], st => some ([], st)
  | n + 1, nt, ops, o :: rest, st =>
    match runOp C n nt ops o st with
    | some (e, st') => match runOps C n nt ops rest st' with
      | some (es, st2) => some (e :: es, st2)
      | none => none
    | none => none
def runOp (C : Ctx) : Nat → Nat → Array Oper → Oper → St → Option (Eff × St)
  | 0, _, _, _, _ => none
  | n + 1, nt, ops, o, st =>
    bif dstOk nt o.dst then
      match wantedV ops st.T o with
      | none => none
      | some false => some (.none, ⟨putV st.T o.dst undefV, st.H, st.lo⟩)
      | some true =>
        match rsV C.P (callV C n) (rho C st.T) st.H o.op with
        | some r => some (effOf (rho C st.T) st.H o.op r, ⟨putV st.T o.dst r.v, r.H, min st.lo r.lo⟩)
        | none => none
    else none
def callV (C : Ctx) : Nat → V → List V → Heap → Option OR
  | 0, _, _, _ => none
  | n + 1, f, args, H =>
    match f with
    | .fn (.func g) first cap => callF C n g (first ++ args ++ cap) H
    | .fn (.method name) first cap => match first ++ args with
      | .ifc t v :: rest => match methodX C.P t name with
        | some g => callF C n g (v :: rest) H
        | none => none
      | _ => none
    | .yld b => match H.get b with
      | some (.loop ts ps as bd state _) =>
        match state with
        | .ready =>
          bif Nat.beq args.length ps.length && ps.all (fun p => Nat.blt p ts.length) then
            match exec C n (some b) ts.length as ⟨setZip ps args (initT ts 0 .nil), H, H.n⟩ with
            | some (.normal, st1) => match st1.H.get b with
              | some (.loop ts1 ps1 as1 bd1 state1 pend1) =>
                match state1 with
                | .ready => match exec C n (some b) ts.length bd ⟨st1.T, st1.H.set b (.loop ts1 ps1 as1 bd1 .busy pend1), min st1.lo b⟩ with
                  | some (x, st3) => match st3.H.get b with
                    | some (.loop ts3 ps3 as3 bd3 _ _) => some ⟨.lit (.bool (goesOn x)), st3.H.set b (.loop ts3 ps3 as3 bd3 (stateOf x) (jumpOf x)), min st3.lo b⟩
                    | _ => none
                  | none => none
                | _ => none
              | _ => none
            | _ => none
          else none
        | _ => none
      | _ => none
    | _ => none
def callF (C : Ctx) : Nat → FuncId → List V → Heap → Option OR
  | 0, _, _, _ => none
  | n + 1, g, args, H =>
    match C.S g with
    | some F => do
      let as ← args.mapM (derefV H 50)
      let v ← F as
      some ⟨v, H, H.n⟩
    | none =>
      match C.P.funcs[g]? with
      | some fn => match fn.body with
        | some body => bif fn.name == "runtime.NumGoroutine" then none else
          bif hasDefer body then
            match execD C n (max args.length fn.ntmps) body ⟨initT args 0 .nil, H, H.n⟩ with
            | some (x, st, ds) => match x with
              | .exit _ => none
              | _ => match runDs C n ds st.H st.lo with
                | some (H', lo') => match loadRes C st.T H' fn.results.toList with
                  | some vs => some ⟨resOf vs, H', lo'⟩
                  | none => none
                | none => none
            | none => none
          else
          match exec C n none (max args.length fn.ntmps) body ⟨initT args 0 .nil, H, H.n⟩ with
          | some (.normal, st) => do
            let vs ← loadRes C st.T st.H fn.results.toList
            some ⟨resOf vs, st.H, st.lo⟩
          | some (.ret, st) => do
            let vs ← loadRes C st.T st.H fn.results.toList
            some ⟨resOf vs, st.H, st.lo⟩
          | _ => none
        | none => none
      | none => none
/-- A function's code, with the calls that it defers, the last first. -/
def execD (C : Ctx) : Nat → Nat → Code → St → Option (Ex × St × List (V × List V))
  | 0, _, _, _ => none
  | n + 1, nt, c, st =>
    match c with
    | .seq a b => match execD C n nt a st with
      | some (x, st', ds) => match x with
        | .normal => match execD C n nt b st' with
          | some (y, st2, ds2) => some (y, st2, ds2 ++ ds)
          | none => none
        | x => some (x, st', ds)
      | none => none
    | .region id ops draw => match lastDefer ops.toList with
      | some (init, dst, f, args) => bif draw then none else
        bif dstOk nt dst then
          match runOps C n nt ops init st with
          | some (_, st') => match rho C st'.T f with
            | .fn g a b => some (.normal, ⟨putV st'.T dst undefV, st'.H, min st.lo st'.lo⟩, [(.fn g a b, args.map (rho C st'.T))])
            | _ => none
          | none => none
        else none
      | none => noDs st (exec C n none nt (.region id ops draw) st)
    | c => noDs st (exec C n none nt c st)
def runDs (C : Ctx) : Nat → List (V × List V) → Heap → Nat → Option (Heap × Nat)
  | 0, _, _, _ => none
  | n + 1, [], H, lo => some (H, lo)
  | n + 1, (f, args) :: ds, H, lo =>
    match f with
    | .fn (.func g) first cap => match C.S g with
      | some _ => none
      | none => bif defers C.P g then none else
        match callF C n g (first ++ args ++ cap) H with
        | some r => runDs C n ds r.H (min lo r.lo)
        | none => none
    | _ => none
end
end Go.Tw
