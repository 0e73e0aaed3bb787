/- The operations of a deterministic evaluator, on own values and the own heap: definitions alone. -/
import Derived.Test.YtjlphacnmonfnaaGreatDoorTwV
set_option linter.unusedVariables false
namespace Go.Tw

def szP (P : Program) (t : TypeId) : Nat := ((P.info? t).map (·.size)).getD 0
def size? (P : Program) (t : TypeId) : Option Nat := (P.info? t).map (·.size)
def agg? (P : Program) (t : TypeId) : Option Bool :=
  match P.underlying t with
  | some (.struct _) => some true
  | some (.array _ _) => some true
  | some _ => some false
  | none => none

/-- A constant. -/
def ofV : Value → V
  | .agg cs => .agg (cs.toList.map .lit)
  | .func f xs ys => if xs.size = 0 ∧ ys.size = 0 then .fn f [] [] else .lit (.func f xs ys)
  | v => .lit v

/-- May it be one cell's value? -/
def V.one : V → Bool
  | .agg _ | .tup _ | .lit (.agg _) | .lit (.tuple _) | .any => false
  | _ => true

def vcells : V → Option (List V)
  | .agg cs => some cs
  | .lit (.agg _) => none
  | .any => none
  | v => some [v]

def partV (P : Program) (t : TypeId) (cells : List V) (off : Nat) : Option V := do
  let b ← agg? P t
  if b then do
    let n ← size? P t
    if off + n ≤ cells.length then some (.agg ((cells.drop off).take n)) else none
  else cells[off]?

def splice (cs : List V) (off : Nat) (new : List V) : Option (List V) :=
  if off + new.length ≤ cs.length then some (cs.take off ++ new ++ cs.drop (off + new.length)) else none

def fillV (place : Nat → Option (Nat × Nat)) (cells : List V) : List (Nat × V) → Option (List V)
  | [] => some cells
  | (i, v) :: rest => do
    let p ← place i
    let vc ← vcells v
    if vc.length = p.2 then do
      let c ← splice cells p.1 vc
      fillV place c rest
    else none

def placesOf (P : Program) : List Field → Option (List (Nat × Nat))
  | [] => some []
  | f :: fs => do
    let n ← size? P f.type
    let r ← placesOf P fs
    some ((f.offset, n) :: r)

def zeroCellsV (P : Program) (t : TypeId) : Option (List V) := do
  let i ← P.info? t
  let z ← i.zero
  vcells (ofV z)

def buildV (P : Program) (t : TypeId) (parts : List (Nat × V)) : Option V := do
  let zc ← zeroCellsV P t
  match P.underlying t with
  | some (.struct fields) => do
    let ps ← placesOf P fields.toList
    let c ← fillV (fun i => ps[i]?) zc parts
    some (.agg c)
  | some (.array _ elem) => do
    let n ← size? P elem
    let c ← fillV (fun i => some (i * n, n)) zc parts
    some (.agg c)
  | _ => none

def intBin (op : BinOp) (k : IntKind) (a b : Int) : Option Value :=
  match op with
  | .add => some (.int k (k.wrap (a + b)))
  | .sub => some (.int k (k.wrap (a - b)))
  | .mul => some (.int k (k.wrap (a * b)))
  | .quo => if b = 0 then none else some (.int k (k.wrap (a.tdiv b)))
  | .rem => if b = 0 then none else some (.int k (a.tmod b))
  | .and => some (.int k (k.wrap ((BitVec.ofInt k.bits a &&& BitVec.ofInt k.bits b).toNat)))
  | .or => some (.int k (k.wrap ((BitVec.ofInt k.bits a ||| BitVec.ofInt k.bits b).toNat)))
  | .xor => some (.int k (k.wrap ((BitVec.ofInt k.bits a ^^^ BitVec.ofInt k.bits b).toNat)))
  | .andNot => some (.int k (k.wrap ((BitVec.ofInt k.bits a &&& ~~~ BitVec.ofInt k.bits b).toNat)))
  | .eql => some (.bool (a == b))
  | .neq => some (.bool (a != b))
  | .lss => some (.bool (a < b))
  | .leq => some (.bool (a ≤ b))
  | .gtr => some (.bool (a > b))
  | .geq => some (.bool (a ≥ b))
  | _ => none

def shiftBin (op : BinOp) (k : IntKind) (a b : Int) : Option Value :=
  if b < 0 then none else
  match op with
  | .shl => some (.int k (k.wrap (a * 2 ^ (min b.toNat k.bits))))
  | .shr => some (.int k (a.fdiv (2 ^ (min b.toNat k.bits))))
  | _ => none

def bytes (s : ByteArray) : List UInt8 := s.data.toList

def strBin (op : BinOp) (x y : ByteArray) : Option Value :=
  match op with
  | .add => if x.size + y.size ≤ 9223372036854775807 then some (.string (x ++ y)) else none
  | .eql => some (.bool (bytes x == bytes y))
  | .neq => some (.bool !(bytes x == bytes y))
  | .lss => some (.bool (Op.bytesLess (bytes x) (bytes y)))
  | .leq => some (.bool (Op.bytesLess (bytes x) (bytes y) || bytes x == bytes y))
  | .gtr => some (.bool !(Op.bytesLess (bytes x) (bytes y) || bytes x == bytes y))
  | .geq => some (.bool !(Op.bytesLess (bytes x) (bytes y)))
  | _ => none

/-- Is a value of a type that may be nil nil? -/
def nil? : V → Option Bool
  | .lit (.pointer none) | .lit (.slice none _ _) | .lit (.map none) | .lit .nilFunc | .lit .nilIface => some true
  | .ptr .. | .pp _ | .sl .. | .ps .. | .zs | .void | .mp _ | .fn .. | .yld _ | .ifc .. | .gptr .. => some false
  | _ => none

def eqFieldsWith (P : Program) (eq : TypeId → V → V → Option Bool) (xs ys : List V) : List Field → Option Bool
  | [] => some true
  | f :: fs =>
    if f.name = "_" then none else do
      let a ← partV P f.type xs f.offset
      let b ← partV P f.type ys f.offset
      let r ← eq f.type a b
      if r then eqFieldsWith P eq xs ys fs else some false

def eqElemsWith (P : Program) (eq : V → V → Option Bool) (elem : TypeId) (n : Nat) (xs ys : List V) : (left i : Nat) → Option Bool
  | 0, _ => some true
  | l + 1, i => do
    let a ← partV P elem xs (i * n)
    let b ← partV P elem ys (i * n)
    let r ← eq a b
    if r then eqElemsWith P eq elem n xs ys l (i + 1) else some false

def eqV (P : Program) : Nat → TypeId → V → V → Option Bool
  | 0, _, _, _ => none
  | d + 1, t, x, y =>
    match P.underlying t with
    | some .bool => match x, y with
      | .lit (.bool a), .lit (.bool b) => some (a == b)
      | _, _ => none
    | some (.int _) => match x, y with
      | .lit (.int k a), .lit (.int k' b) => if k = k' then some (a == b) else none
      | _, _ => none
    | some .string => match x, y with
      | .lit (.string a), .lit (.string b) => some (bytes a == bytes b)
      | _, _ => none
    | some (.struct fields) => match x, y with
      | .agg xs, .agg ys => if P.stoodInHeld t then none else eqFieldsWith P (eqV P d) xs ys fields.toList
      | _, _ => none
    | some (.array len elem) => match x, y with
      | .agg xs, .agg ys => do
        let n ← size? P elem
        eqElemsWith P (eqV P d elem) elem n xs ys len 0
      | _, _ => none
    | some (.pointer _) => match x, y with
      | .lit (.pointer none), .lit (.pointer none) => some true
      | .lit (.pointer none), .ptr _ _ => some false
      | .lit (.pointer none), .pp _ => some false
      | .ptr _ _, .lit (.pointer none) => some false
      | .pp _, .lit (.pointer none) => some false
      | _, _ => none
    | some (.slice _) => match x, y with
      | .lit (.slice none _ _), .lit (.slice none _ _) => some true
      | .sl .., .lit (.slice none _ _) => some false
      | .ps .., .lit (.slice none _ _) => some false
      | .zs, .lit (.slice none _ _) => some false
      | .void, .lit (.slice none _ _) => some false
      | _, _ => none
    | some (.map _ _) => match x, y with
      | .lit (.map none), .lit (.map none) => some true
      | .mp _, .lit (.map none) => some false
      | _, _ => none
    | some (.func _ _ _) => match x, y with
      | .lit .nilFunc, .lit .nilFunc => some true
      | .fn .., .lit .nilFunc => some false
      | _, _ => none
    | some (.interface _) => match x, y with
      | .ifc .., .lit .nilIface => some false
      | .lit .nilIface, .ifc .. => some false
      | _, _ => none
    | _ => none

/-- The outer form of a value. -/
def tagOf : Value → Nat
  | .bool _ => 0 | .int _ _ => 1 | .float _ _ => 2 | .complex _ _ _ => 3 | .string _ => 4 | .pointer _ => 5 | .slice _ _ _ => 6 | .map _ => 7
  | .chan _ => 8 | .func _ _ _ => 9 | .nilFunc => 10 | .iface _ _ => 11 | .nilIface => 12 | .agg _ => 13 | .tuple _ => 14
def cls : V → Nat
  | .lit v => tagOf v
  | .ptr .. | .gptr .. | .pp _ => 5
  | .sl .. | .zs | .void | .ps .. => 6
  | .mp _ => 7
  | .fn .. | .yld _ => 9
  | .ifc .. => 11
  | .agg _ => 13
  | .tup _ => 14
  | .any => 99

def eqTop (P : Program) (t : TypeId) (x y : V) : Option Bool :=
  if cls x = 99 ∨ cls y = 99 then none
  else if cls x = 13 ∧ cls y = 13 then (if P.eqGuardType P.depth t then none else eqV P 9 t x y)
  else if cls x = 12 ∧ cls y = 12 then none
  else if cls x = cls y ∧ (cls x = 1 ∨ cls x = 2 ∨ cls x = 3 ∨ cls x = 4) then none
  else eqV P 9 t x y

def binV (P : Program) (op : BinOp) (t : TypeId) (x y : V) : Option V :=
  match x, y with
  | .lit (.int k a), .lit (.int k' b) =>
    (match op with
    | .shl => shiftBin .shl k a b
    | .shr => shiftBin .shr k a b
    | _ => if k = k' then intBin op k a b else none).map .lit
  | .lit (.string a), .lit (.string b) => (strBin op a b).map .lit
  | _, _ =>
    match op with
    | .eql => (eqTop P t x y).map fun r => .lit (.bool r)
    | .neq => (eqTop P t x y).map fun r => .lit (.bool !r)
    | _ => none

def unV (op : UnOp) (x : V) : Option V :=
  match op, x with
  | .neg, .lit (.int k n) => some (.lit (.int k (k.wrap (0 - n))))
  | .xor, .lit (.int k n) => some (.lit (.int k (k.wrap ((BitVec.ofInt k.bits (if k.signed then -1 else k.max) ^^^ BitVec.ofInt k.bits n).toNat))))
  | .not, .lit (.bool b) => some (.lit (.bool !b))
  | _, _ => none

/-- Conversions that look into no memory. -/
def convV (P : Program) (src dst : TypeId) (x : V) : Option V :=
  match P.underlying src, P.underlying dst, x with
  | some _, some (.int k), .lit (.int _ n) => some (.lit (.int k (k.wrap n)))
  | some _, some .string, .lit (.string s) => some (.lit (.string s))
  | _, _, _ => none

def ptrAdd (x : V) (n : Nat) : Option V :=
  match x with
  | .ptr b off => some (.ptr b (off + n))
  | .pp cells => some (.pp (cells.drop n))
  | _ => none

def fieldAddrV (P : Program) (s : TypeId) (x : V) (i : Nat) : Option V :=
  match P.underlying s with
  | some (.struct fields) => do
    let f ← fields[i]?
    let n ← size? P f.type
    if n = 0 then none else ptrAdd x f.offset
  | _ => none

def fieldV (P : Program) (s : TypeId) (x : V) (i : Nat) : Option V :=
  match P.underlying s, x with
  | some (.struct fields), .agg cs => do
    let f ← fields[i]?
    partV P f.type cs f.offset
  | _, _ => none

def indexAddrV (P : Program) (t : TypeId) (x ix : V) : Option V :=
  match ix with
  | .lit (.int _ i) =>
    match P.underlying t with
    | some (.array len elem) => do
      let n ← size? P elem
      if 0 ≤ i ∧ i < len then ptrAdd x (i.toNat * n) else none
    | some (.slice elem) => do
      let n ← size? P elem
      match x with
      | .sl b off len _ _ => if 0 ≤ i ∧ i < len then some (.ptr b (off + i.toNat * n)) else none
      | .ps cells len => if 0 ≤ i ∧ i < len then some (.pp (cells.drop (i.toNat * n))) else none
      | _ => none
    | _ => none
  | _ => none

def indexV (P : Program) (t : TypeId) (x ix : V) : Option V :=
  match ix with
  | .lit (.int _ i) =>
    match P.underlying t, x with
    | some (.array len elem), .agg cs => do
      let n ← size? P elem
      if 0 ≤ i ∧ i < len then partV P elem cs (i.toNat * n) else none
    | some .string, .lit (.string s) => if 0 ≤ i then (s.data.toList[i.toNat]?).map fun b => .lit (.int .u8 b.toNat) else none
    | _, _ => none
  | _ => none

def bound? (x : V) (y : Nat) : Option Nat :=
  match x with
  | .lit (.int _ i) => if 0 ≤ i ∧ i ≤ y then some i.toNat else none
  | _ => none

def maxB (cap : Nat) : Option V → Option Nat
  | some v => bound? v cap
  | none => some cap
def highB (len cap m : Nat) : Option V → Option V → Option Nat
  | some v, some _ => bound? v m
  | some v, none => bound? v cap
  | none, none => some len
  | none, some _ => none
def lowB (h : Nat) : Option V → Option Nat
  | some v => bound? v h
  | none => some 0
/-- The bounds of a cut: of so many at most (a length, where there is no bound behind), of such a length. -/
def bounds? (len cap : Nat) (low high max : Option V) : Option (Nat × Nat × Nat) :=
  (maxB cap max).bind fun m => (highB len cap m high max).bind fun h => (lowB h low).bind fun l => some (l, h, m)

def cutSl (b off len cap : Nat) (opn : Option Nat) (sz : Nat) (mx : Bool) (l h m : Nat) : Option V :=
  if cap < len then none
  else if mx || opn.isNone then some (.sl b (if m = l then off else off + l * sz) (h - l) (m - l) none)
  else if m = l then some .void
  else if opn = some sz then some (.sl b (off + l * sz) (h - l) (m - l) (some sz))
  else none

def sliceV (P : Program) (t : TypeId) (x : V) (low high max : Option V) : Option V :=
  match P.underlying t with
  | some (.array n elem) => do
    let (l, h, m) ← bounds? n n low high max
    let sz ← size? P elem
    match x with
    | .ptr b off => some (.sl b (if m = l then off else off + l * sz) (h - l) (m - l) none)
    | .pp cells => if m = l then some .zs else some (.ps (cells.drop (l * sz)) (h - l))
    | _ => none
  | some .string =>
    match x with
    | .lit (.string s) => if max.isSome then none else do
      let (l, h, _) ← bounds? s.size s.size low high none
      some (.lit (.string (s.extract l h)))
    | _ => none
  | some (.slice elem) => do
    let sz ← size? P elem
    match x with
    | .lit (.slice none 0 0) => do
      let _ ← bounds? 0 0 low high max
      some (.lit (.slice none 0 0))
    | .zs => do
      let _ ← bounds? 0 0 low high max
      some .zs
    | .void => do
      let _ ← bounds? 0 0 low high max
      some (if max.isSome then .zs else .void)
    | .sl b off len cap opn => do
      let t ← bounds? len cap low high max
      cutSl b off len cap opn sz max.isSome t.1 t.2.1 t.2.2
    | .ps cells len => do
      let (l, h, m) ← bounds? len len low high max
      if max.isSome && m = l then some .zs
      else some (.ps ((cells.drop (l * sz)).take ((h - l) * sz)) (h - l))
    | _ => none
  | _ => none

def extractV (x : V) (i : Nat) : Option V :=
  match x with
  | .tup vs => vs[i]?
  | _ => none

def nilCheckV (x : V) : Option V :=
  match x with
  | .ptr .. | .pp _ | .ifc .. | .yld _ => some x
  | .fn (.func f) a b => some x
  | .fn (.methodOf t n) a b => some x
  | .fn (.via t p f q) a b => some x
  | _ => none

/-- The function that a method is, where it stands on the type itself. -/
def methodX (P : Program) (t : TypeId) (name : String) : Option FuncId :=
  match P.info? t with
  | some i => match i.methods.find? (·.name == name) with
    | some m => bif m.path.isEmpty then
        (match m.func, P.underlying t with
        | some (f, true), some (.pointer _) => some f
        | some (f, false), some (.pointer _) => none
        | some (f, false), some _ => some f
        | _, _ => none) else none
    | none => none
  | none => none
def nilCheckP (P : Program) (x : V) : Option V :=
  match x with
  | .fn (.method name) (.ifc t v :: rest) cap => if (methodX P t name).isSome then some x else none
  | x => nilCheckV x

def lenV (P : Program) (t : TypeId) (x : V) : Option V :=
  match P.underlying t with
  | some .string => match x with
    | .lit (.string s) => some (.lit (.int .i64 s.size))
    | _ => none
  | some (.array n _) => some (.lit (.int .i64 n))
  | some (.pointer arr) => match P.underlying arr with
    | some (.array n _) => some (.lit (.int .i64 n))
    | _ => none
  | some (.slice _) => match x with
    | .lit (.slice none n _) => some (.lit (.int .i64 n))
    | .sl _ _ len _ _ => some (.lit (.int .i64 len))
    | .ps _ len => some (.lit (.int .i64 len))
    | .zs => some (.lit (.int .i64 0))
    | .void => some (.lit (.int .i64 0))
    | _ => none
  | some (.map _ _) => match x with
    | .lit (.map none) => some (.lit (.int .i64 0))
    | _ => none
  | _ => none

def capV (P : Program) (t : TypeId) (x : V) : Option V :=
  match P.underlying t with
  | some (.slice _) => match x with
    | .lit (.slice none _ n) => some (.lit (.int .i64 n))
    | .sl _ _ _ cap none => some (.lit (.int .i64 cap))
    | .zs => some (.lit (.int .i64 0))
    | _ => none
  | _ => none

def max2V (x y : V) : Option V :=
  match x, y with
  | .lit (.int k a), .lit (.int _ b) => some (.lit (.int k (if b > a then b else a)))
  | _, _ => none
def min2V (x y : V) : Option V :=
  match x, y with
  | .lit (.int k a), .lit (.int _ b) => some (.lit (.int k (if b < a then b else a)))
  | _, _ => none
def foldV (f : V → V → Option V) (x : V) : List V → Option V
  | [] => some x
  | y :: r => do let z ← f x y; foldV f z r

/-! ### Operations that look into memory -/
structure OR where
  v : V
  H : Heap
  lo : Nat
  deriving Inhabited

def undefV : V := .tup []

/-- Nothing of the heap is turned. -/
def keep (H : Heap) (o : Option V) : Option OR := o.map fun v => ⟨v, H, H.n⟩

def allocV (P : Program) (H : Heap) (t : TypeId) : Option OR := do
  let zc ← zeroCellsV P t
  some ⟨.ptr H.n 0, H.push (.cells zc t), H.n⟩

def boxV (H : Heap) (t : TypeId) (x : V) : Option OR := do
  let c ← vcells x
  some ⟨.ptr H.n 0, H.push (.cells c t), H.n⟩

/-- So many zeros of a type, cell by cell. -/
def zerosV (zc : List V) : Nat → List V
  | 0 => []
  | n + 1 => zc ++ zerosV zc n

def buildSliceV (P : Program) (H : Heap) (t : TypeId) (len : Nat) (parts : List (Nat × V)) : Option OR :=
  match P.underlying t with
  | some (.slice elem) => do
    let sz ← size? P elem
    let zc ← zeroCellsV P elem
    if len * sz ≤ 16777216 ∧ zc.length = sz then do
      let c ← fillV (fun i => some (i * sz, sz)) (zerosV zc len) parts
      some ⟨.sl H.n 0 len len none, H.push (.cells c elem), H.n⟩
    else none
  | _ => none

def makeSliceV (P : Program) (H : Heap) (t : TypeId) (l c : V) : Option OR :=
  match P.underlying t, l, c with
  | some (.slice elem), .lit (.int _ l), .lit (.int _ c) => do
    let i ← P.info? elem
    let zc ← zeroCellsV P elem
    if 0 ≤ l ∧ l ≤ c ∧ c * i.bytes ≤ 1099511627776 ∧ c ≤ 1099511627776 ∧ zc.length = i.size then
      some ⟨.sl H.n 0 l.toNat c.toNat none, H.push (.cells (zerosV zc c.toNat) elem), H.n⟩
    else none
  | _, _, _ => none

def cellsAt (H : Heap) (x : V) : Option (List V × Nat) :=
  match x with
  | .ptr b off => match H.get b with
    | some (.cells cs _) => some (cs, off)
    | _ => none
  | .pp cells => some (cells, 0)
  | _ => none

def loadV (P : Program) (H : Heap) (t : TypeId) (x : V) : Option V := do
  let c ← cellsAt H x
  partV P t c.1 c.2

def storeV (P : Program) (H : Heap) (t : TypeId) (x v : V) : Option OR :=
  match x with
  | .ptr b off => match H.get b with
    | some (.cells cs e) => do
      let vc ← vcells v
      let n ← size? P t
      if vc.length = n ∧ vc.all V.one then do
        let c ← splice cs off vc
        some ⟨undefV, H.set b (.cells c e), min b H.n⟩
      else none
    | _ => none
  | _ => none

/-- The first cells of a slice, or a string's bytes. -/
def cellsOf (H : Heap) (sz n : Nat) (x : V) : Option (List V) :=
  match x with
  | .lit (.slice none _ _) => if n = 0 then some [] else none
  | .zs => if n = 0 then some [] else none
  | .void => if n = 0 then some [] else none
  | .lit (.string s) => if n ≤ s.size then some ((s.data.toList.take n).map fun b => .lit (.int .u8 b.toNat)) else none
  | .ps cells len => if n ≤ len ∧ n * sz ≤ cells.length then some (cells.take (n * sz)) else none
  | .sl b off len _ _ => match H.get b with
    | some (.cells cs _) => if n ≤ len ∧ off + n * sz ≤ cs.length then some ((cs.drop off).take (n * sz)) else none
    | _ => none
  | _ => none

def lenOfV : V → Option Nat
  | .lit (.slice none n _) => some n
  | .zs => some 0
  | .void => some 0
  | .lit (.string s) => some s.size
  | .ps _ len => some len
  | .sl _ _ len _ _ => some len
  | _ => none

/-- So many zeros behind nothing. -/
def appendZ (P : Program) (H : Heap) (elem : TypeId) (s x : V) : Option OR :=
  match s, x with
  | .lit (.slice none 0 0), .lit (.int _ l) => do
    let i ← P.info? elem
    let zc ← zeroCellsV P elem
    if 0 < l ∧ 0 < i.bytes ∧ 0 < i.size ∧ zc.length = i.size ∧ l.toNat * i.bytes ≤ 1099511627776 then
      some ⟨.sl H.n 0 l.toNat l.toNat (some i.size), H.push (.cells (zerosV zc l.toNat) elem), H.n⟩
    else none
  | _, _ => none

def appendV (P : Program) (H : Heap) (t0 t1 : TypeId) (s x : V) : Option OR :=
  match P.underlying t0, P.underlying t1 with
  | some (.slice elem), some (.int _) => appendZ P H elem s x
  | some (.slice elem), some _ => do
    let i ← P.info? elem
    let n ← lenOfV x
    let new ← cellsOf H i.size n x
    let zc ← zeroCellsV P elem
    if ¬ (0 < i.bytes ∧ zc.length = i.size ∧ new.all V.one ∧ new.length = n * i.size) then none else
    if n = 0 then
      match s with
      | .lit (.slice none 0 0) | .zs | .void | .ps .. => some ⟨s, H, H.n⟩
      | .sl _ _ len cap _ => if len ≤ cap then some ⟨s, H, H.n⟩ else none
      | _ => none
    else
    match s with
    | .lit (.slice none 0 0) => if n * i.bytes ≤ 1099511627776 then some ⟨.sl H.n 0 n n (some i.size), H.push (.cells new elem), H.n⟩ else none
    | .zs => if n * i.bytes ≤ 1099511627776 then some ⟨.sl H.n 0 n n (some i.size), H.push (.cells new elem), H.n⟩ else none
    | .sl b off len cap opn =>
      match H.get b with
      | some (.cells cs e) =>
        if len + n ≤ cap then (splice cs (off + len * i.size) new).bind fun c => some ⟨.sl b off (len + n) cap opn, H.set b (.cells c e), min b H.n⟩
        else if ¬ ((len + n) * i.bytes ≤ 1099511627776 ∧ off + len * i.size ≤ cs.length ∧ len ≤ cap) then none
        else if opn.isSome then
          if off = 0 ∧ e = elem ∧ opn = some i.size then some ⟨.sl H.n 0 (len + n) (len + n) (some i.size), (H.push (.cells (cs.take (len * i.size) ++ new) elem)).set b .dead, min b H.n⟩ else none
        else some ⟨.sl H.n 0 (len + n) (len + n) (some i.size), H.push (.cells ((cs.drop off).take (len * i.size) ++ new) elem), H.n⟩
      | _ => none
    | _ => none
  | _, _ => none

def copyV (P : Program) (H : Heap) (t : TypeId) (dst src : V) : Option OR :=
  match P.underlying t with
  | some (.slice elem) => do
    let sz ← size? P elem
    let d ← lenOfV dst
    let n0 ← lenOfV src
    let n := min n0 d
    let new ← cellsOf H sz n src
    match dst with
    | .lit (.slice none _ _) | .zs | .void => if n = 0 then some ⟨.lit (.int .i64 n), H, H.n⟩ else none
    | .ps .. => if n = 0 then some ⟨.lit (.int .i64 n), H, H.n⟩ else none
    | .sl b off _ _ _ => match H.get b with
      | some (.cells cs e) => if new.all V.one then (splice cs off new).bind fun c => some ⟨.lit (.int .i64 n), H.set b (.cells c e), min b H.n⟩ else none
      | _ => none
    | _ => none
  | _ => none

def clearV (P : Program) (H : Heap) (t : TypeId) (x : V) : Option OR :=
  match P.underlying t with
  | some (.slice elem) => do
    let zc ← zeroCellsV P elem
    match x with
    | .lit (.slice none _ _) | .zs | .void => some ⟨undefV, H, H.n⟩
    | .sl _ _ 0 _ _ => some ⟨undefV, H, H.n⟩
    | .sl b off len _ _ => match H.get b with
      | some (.cells cs e) => if zc.all V.one then (splice cs off (zerosV zc len)).bind fun c => some ⟨undefV, H.set b (.cells c e), min b H.n⟩ else none
      | _ => none
    | _ => none
  | _ => none

def toBytes : List V → Option (List UInt8)
  | [] => some []
  | .lit (.int .u8 n) :: r => (toBytes r).map (UInt8.ofNat n.toNat :: ·)
  | _ => none

/-- Conversions that make or read memory, and those that don't. -/
def convertV (P : Program) (H : Heap) (src dst : TypeId) (x : V) : Option OR :=
  match P.underlying src, P.underlying dst, x with
  | some _, some (.int k), .lit (.int _ n) => some ⟨.lit (.int k (k.wrap n)), H, H.n⟩
  | some _, some .string, .lit (.string s) => some ⟨.lit (.string s), H, H.n⟩
  | some .string, some (.slice e), .lit (.string s) =>
    match P.underlying e with
    | some (.int .u8) => if s.size ≤ 1099511627776 ∧ size? P e = some 1 then
        some ⟨.sl H.n 0 s.size s.size (some 1), H.push (.cells (s.data.toList.map fun b => .lit (.int .u8 b.toNat)) e), H.n⟩
      else none
    | _ => none
  | some (.slice e), some .string, .lit (.slice none _ _) =>
    match P.underlying e with
    | some (.int .u8) => some ⟨.lit (.string .empty), H, H.n⟩
    | _ => none
  | some (.slice e), some .string, x =>
    match P.underlying e with
    | some (.int .u8) => do
      let n ← lenOfV x
      match x with
      | .sl .. => do
        let c ← cellsOf H 1 n x
        let b ← toBytes c
        some ⟨.lit (.string ⟨b.toArray⟩), H, H.n⟩
      | .ps .. => do
        let c ← cellsOf H 1 n x
        let b ← toBytes c
        some ⟨.lit (.string ⟨b.toArray⟩), H, H.n⟩
      | .zs => some ⟨.lit (.string .empty), H, H.n⟩
      | .void => some ⟨.lit (.string .empty), H, H.n⟩
      | _ => none
    | _ => none
  | _, _, _ => none

/-- Data without memory: literals and rows of these. -/
def litEq : V → V → Option Bool
  | .lit (.bool a), .lit (.bool b) => some (a == b)
  | .lit (.int k a), .lit (.int k' b) => if k = k' then some (a == b) else none
  | .lit (.string a), .lit (.string b) => some (bytes a == bytes b)
  | _, _ => none
def litEqs : List V → List V → Option Bool
  | [], [] => some true
  | x :: xs, y :: ys => do
    let a ← litEq x y
    let b ← litEqs xs ys
    some (a && b)
  | _, _ => none
def plainEq : V → V → Option Bool
  | .agg xs, .agg ys => litEqs xs ys
  | x, y => litEq x y

/-- A key's place, by the type's own equality, held against that of the data. -/
def findV (P : Program) (kt : TypeId) (k : V) : List (V × V × Nat) → Nat → Option (Option (Nat × V × Nat))
  | [], _ => some none
  | (k', v, born) :: es, i => do
    let a ← eqV P 9 kt k k'
    let b ← plainEq k k'
    if a = b then (if a then some (some (i, v, born)) else findV P kt k es (i + 1)) else none

def keyOk (P : Program) : Nat → TypeId → V → Bool
  | 0, _, _ => false
  | d + 1, t, k =>
    match P.underlying t with
    | some .bool | some (.int _) | some .string => (match k with | .lit _ => true | _ => false)
    | some (.struct fields) => match k with
      | .agg cs => fields.toList.all fun f => match partV P f.type cs f.offset with
        | some x => keyOk P d f.type x
        | none => false
      | _ => false
    | some (.array len elem) => match k, size? P elem with
      | .agg cs, some n => (List.range len).all fun i => match partV P elem cs (i * n) with
        | some x => keyOk P d elem x
        | none => false
      | _, _ => false
    | _ => false

def mapOf (H : Heap) (x : V) : Option (List (V × V × Nat) × Nat) :=
  match x with
  | .mp b => match H.get b with
    | some (.map es clk) => some (es, clk)
    | _ => none
  | _ => none

def zeroValV (P : Program) (t : TypeId) : Option V := do
  let i ← P.info? t
  let z ← i.zero
  some (ofV z)

def esOf (H : Heap) (m : V) : Option (List (V × V × Nat)) :=
  match m with
  | .lit (.map none) => some []
  | m => (mapOf H m).map (·.1)

def lookupV (P : Program) (H : Heap) (t : TypeId) (m k : V) (ok : Bool) : Option V :=
  match P.underlying t with
  | some (.map kt et) =>
    if keyOk P 9 kt k then do
      let es ← esOf H m
      let f ← findV P kt k es 0
      match f with
      | some (_, v, _) => some (if ok then .tup [v, .lit (.bool true)] else v)
      | none => do
        let z ← zeroValV P et
        some (if ok then .tup [z, .lit (.bool false)] else z)
    else none
  | _ => none

def mapSet (H : Heap) (b : Nat) (es : List (V × V × Nat)) (clk : Nat) : Heap := H.set b (.map es clk)

def mapUpdateV (P : Program) (H : Heap) (t : TypeId) (m k v : V) : Option OR :=
  match P.underlying t, m with
  | some (.map kt _), .mp b =>
    if keyOk P 9 kt k then do
      let (es, clk) ← mapOf H m
      let f ← findV P kt k es 0
      match f with
      | some (i, _, born) => some ⟨undefV, mapSet H b (es.set i (k, v, born)) clk, min b H.n⟩
      | none => some ⟨undefV, mapSet H b (es ++ [(k, v, clk)]) (clk + 1), min b H.n⟩
    else none
  | _, _ => none

def mapEntryV (P : Program) (H : Heap) (t : TypeId) (m k : V) : Option OR :=
  match P.underlying t, m with
  | some (.map kt et), .mp b =>
    if keyOk P 9 kt k then do
      let (es, clk) ← mapOf H m
      let f ← findV P kt k es 0
      match f with
      | some (i, v, born) => some ⟨.tup [v, .lit (.int .i64 born)], mapSet H b (es.set i (k, v, born)) clk, min b H.n⟩
      | none => do
        let z ← zeroValV P et
        some ⟨.tup [z, .lit (.int .i64 clk)], mapSet H b (es ++ [(k, z, clk)]) (clk + 1), min b H.n⟩
    else none
  | _, _ => none

/-- What is found of a key in a block. -/
def lookB (P : Program) (t : TypeId) (k : V) (B : Option Blk) : Option V :=
  match P.underlying t with
  | some (.map kt et) => match B with
    | some (.map es _) => (findV P kt k es 0).bind fun f => match f with
      | some (_, v, _) => some v
      | none => zeroValV P et
    | _ => none
  | _ => none

/-- Does the key stand there, where it was put? -/
def putOk (P : Program) (t : TypeId) (k : V) (H H' : Heap) (m : V) : Bool :=
  match P.underlying t, m with
  | some (.map kt _), .mp b => match H.get b, H'.get b with
    | some (.map es _), some (.map es' _) => match findV P kt k es 0, findV P kt k es' 0 with
      | some (some (i, _, _)), some (some (j, _, _)) => Nat.beq i j
      | some none, some (some (j, _, _)) => Nat.beq j es.length
      | _, _ => false
    | _, _ => false
  | _, _ => false
def mapEntryC (P : Program) (H : Heap) (t : TypeId) (m k : V) : Option OR :=
  match mapEntryV P H t m k with
  | some r => bif putOk P t k H r.H m then some r else none
  | none => none

def findBorn (n : Int) : List (V × V × Nat) → Nat → Option (Nat × V)
  | [], _ => none
  | (k, _, born) :: es, i => if (born : Int) = n then some (i, k) else findBorn n es (i + 1)

def entryStoreV (H : Heap) (m stamp v : V) : Option OR :=
  match m, stamp with
  | .mp b, .lit (.int _ n) => do
    let (es, clk) ← mapOf H m
    let (i, k) ← findBorn n es 0
    let e ← es[i]?
    some ⟨undefV, mapSet H b (es.set i (k, v, e.2.2)) clk, min b H.n⟩
  | _, _ => none

def lenMapV (P : Program) (H : Heap) (t : TypeId) (x : V) : Option V :=
  match P.underlying t with
  | some (.map _ _) => match x with
    | .lit (.map none) => some (.lit (.int .i64 0))
    | x => (mapOf H x).map fun m => .lit (.int .i64 m.1.length)
  | _ => lenV P t x

def typeAssertV (P : Program) (x : V) (asserted : TypeId) (ok : Bool) : Option V :=
  match P.underlying asserted with
  | some (.interface _) => none
  | some _ => match x with
    | .ifc t v => if t = asserted then some (if ok then .tup [v, .lit (.bool true)] else v) else none
    | _ => none
  | none => none

/-- An operation that calls nothing. -/
def opV (P : Program) (r : Operand → V) (H : Heap) (o : Op) : Option OR :=
  match o with
  | .move x => keep H (some (r x))
  | .assign x => keep H (some (r x))
  | .pick c a b => match r c with
    | .lit (.bool t) => keep H (some (if t then r a else r b))
    | _ => none
  | .alloc t => allocV P H t
  | .box t x => boxV H t (r x)
  | .build t ps => keep H (buildV P t (ps.toList.map fun p => (p.1, r p.2)))
  | .buildSlice t len ps => buildSliceV P H t len (ps.toList.map fun p => (p.1, r p.2))
  | .load t a => keep H (loadV P H t (r a))
  | .store t a x => storeV P H t (r a) (r x)
  | .nilCheck x => keep H (nilCheckP P (r x))
  | .binOp op t x y _ => keep H (binV P op t (r x) (r y))
  | .unOp op _ x => keep H (unV op (r x))
  | .convert s d x => convertV P H s d (r x)
  | .makeInterface t x => match P.underlying t with
    | some (.interface _) => none
    | some _ => keep H (some (.ifc t (r x)))
    | none => none
  | .makeFunc f a b => keep H (some (.fn f (a.toList.map r) (b.toList.map r)))
  | .makeMap t none => some ⟨.mp H.n, H.push (.map [] 0), H.n⟩
  | .makeSlice t l c => makeSliceV P H t (r l) (r c)
  | .slice t x l h m => keep H (sliceV P t (r x) (l.map r) (h.map r) (m.map r))
  | .fieldAddr s x f => keep H (fieldAddrV P s (r x) f)
  | .field s x f => keep H (fieldV P s (r x) f)
  | .indexAddr t x i => keep H (indexAddrV P t (r x) (r i))
  | .index t x i => keep H (indexV P t (r x) (r i))
  | .lookup t m k ok => keep H (lookupV P H t (r m) (r k) ok)
  | .mapUpdate t m k v => mapUpdateV P H t (r m) (r k) (r v)
  | .insert t m k v => mapUpdateV P H t (r m) (r k) (r v)
  | .mapEntry t m k => mapEntryC P H t (r m) (r k)
  | .entryStore t m s v => entryStoreV H (r m) (r s) (r v)
  | .typeAssert x _ t ok => keep H (typeAssertV P (r x) t ok)
  | .extract x i => keep H (extractV (r x) i)
  | .call c => match c.callee with
    | .builtin .len => match c.argTypes[0]?, c.args[0]? with
      | some t, some x => keep H (lenMapV P H t (r x))
      | _, _ => none
    | .builtin .cap => match c.argTypes[0]?, c.args[0]? with
      | some t, some x => keep H (capV P t (r x))
      | _, _ => none
    | .builtin .max => match c.args.toList.map r with
      | x :: rest => keep H (foldV max2V x rest)
      | [] => none
    | .builtin .min => match c.args.toList.map r with
      | x :: rest => keep H (foldV min2V x rest)
      | [] => none
    | .builtin .append => match c.argTypes[0]?, c.argTypes[1]?, c.args[0]?, c.args[1]? with
      | some t0, some t1, some s, some x => appendV P H t0 t1 (r s) (r x)
      | _, _, _, _ => none
    | .builtin .copy => match c.argTypes[0]?, c.args[0]?, c.args[1]? with
      | some t0, some s, some x => copyV P H t0 (r s) (r x)
      | _, _, _ => none
    | .builtin .clear => match c.argTypes[0]?, c.args[0]? with
      | some t0, some s => clearV P H t0 (r s)
      | _, _ => none
    | _ => none
  | _ => none

end Go.Tw
