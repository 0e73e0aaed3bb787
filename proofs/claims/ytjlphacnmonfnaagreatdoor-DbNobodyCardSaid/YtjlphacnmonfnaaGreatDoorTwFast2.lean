/- The evaluator in small pieces: operations. No condition. -/
import Derived.Test.YtjlphacnmonfnaaGreatDoorTwFast
set_option linter.unusedVariables false
set_option linter.unusedSimpArgs false
namespace Go.Tw

/-- A value, made up to its outer form. -/
def forceV {α : Type} (v : V) (k : V → α) : α :=
  match v with
  | .lit x => k (.lit x)
  | .ptr b off => k (.ptr b off)
  | .gptr g off => k (.gptr g off)
  | .sl b off len cap opn => k (.sl b off len cap opn)
  | .zs => k .zs
  | .void => k .void
  | .mp b => k (.mp b)
  | .ps c l => k (.ps c l)
  | .pp c => k (.pp c)
  | .fn f a b => k (.fn f a b)
  | .yld b => k (.yld b)
  | .ifc t x => k (.ifc t x)
  | .agg cs => k (.agg cs)
  | .tup vs => k (.tup vs)
  | .any => k .any
theorem forceV_eq {α : Type} (v : V) (k : V → α) : forceV v k = k v := by cases v <;> rfl

def strK (op : BinOp) (a b : ByteArray) : Option V := (strBin op a b).map .lit
def binO (P : Program) (op : BinOp) (t : TypeId) (x y : V) : Option V :=
  match op with
  | .eql => (eqTop P t x y).map fun r => .lit (.bool r)
  | .neq => (eqTop P t x y).map fun r => .lit (.bool !r)
  | _ => none
def intKK (op : BinOp) (k : IntKind) (a : Int) (k' : IntKind) (b : Int) : Option V :=
  match op with
  | .shl => shlK k a b
  | .shr => shrK k a b
  | _ => bif kEq k k' then intK op k a b else none
def binI (P : Program) (op : BinOp) (t : TypeId) (k : IntKind) (a : Int) (y : V) : Option V :=
  match y with
  | .lit vy => (match vy with
    | .int k' b => intKK op k a k' b
    | vy => binO P op t (.lit (.int k a)) (.lit vy))
  | y => binO P op t (.lit (.int k a)) y
def binS (P : Program) (op : BinOp) (t : TypeId) (a : ByteArray) (y : V) : Option V :=
  match y with
  | .lit vy => (match vy with
    | .string b => strK op a b
    | vy => binO P op t (.lit (.string a)) (.lit vy))
  | y => binO P op t (.lit (.string a)) y
def binL (P : Program) (op : BinOp) (t : TypeId) (vx : Value) (y : V) : Option V :=
  match vx with
  | .int k a => binI P op t k a y
  | .string a => binS P op t a y
  | vx => binO P op t (.lit vx) y
def binK (P : Program) (op : BinOp) (t : TypeId) (x y : V) : Option V :=
  match x with
  | .lit vx => binL P op t vx y
  | x => binO P op t x y
theorem intKK_eq (op : BinOp) (k : IntKind) (a : Int) (k' : IntKind) (b : Int) : intKK op k a k' b = (match op with
    | .shl => shiftBin .shl k a b
    | .shr => shiftBin .shr k a b
    | _ => if k = k' then intBin op k a b else none).map .lit := by
  cases op <;> simp only [intKK, shlK_eq, shrK_eq, kEq_eq, intK_eq] <;> by_cases e : k = k' <;> simp [e]
theorem binK_eq (P : Program) (op : BinOp) (t : TypeId) (x y : V) : binK P op t x y = binV P op t x y := by
  cases x with
  | lit vx =>
    cases vx with
    | int k a =>
      cases y with
      | lit vy =>
        cases vy with
        | int k' b => simp only [binK, binL, binI, intKK_eq, binV] <;> (try (cases op <;> rfl))
        | _ => simp only [binK, binL, binI, binO, binV] <;> (try (cases op <;> rfl))
      | _ => simp only [binK, binL, binI, binO, binV] <;> (try (cases op <;> rfl))
    | string a =>
      cases y with
      | lit vy =>
        cases vy with
        | string b => simp only [binK, binL, binS, strK, binV] <;> (try (cases op <;> rfl))
        | _ => simp only [binK, binL, binS, binO, binV] <;> (try (cases op <;> rfl))
      | _ => simp only [binK, binL, binS, binO, binV] <;> (try (cases op <;> rfl))
    | _ => simp only [binK, binL, binO, binV] <;> (try (cases op <;> rfl))
  | _ => simp only [binK, binO, binV] <;> (try (cases op <;> rfl))

/-! ### Cells -/
def nthK : List V → Nat → Option V
  | [], _ => none
  | c :: cs, n => match n with
    | 0 => some c
    | n + 1 => nthK cs n
theorem nthK_eq : ∀ (cs : List V) (n : Nat), nthK cs n = cs[n]?
  | [], n => by simp [nthK]
  | c :: cs, 0 => by simp [nthK]
  | c :: cs, n + 1 => by simp [nthK, nthK_eq cs n]

/-- So many cells from a place on. -/
def takeK : Nat → List V → Option (List V)
  | 0, _ => some []
  | n + 1, [] => none
  | n + 1, c :: cs => match takeK n cs with
    | some r => some (c :: r)
    | none => none
theorem takeK_eq : ∀ (n : Nat) (cs : List V), takeK n cs = if n ≤ cs.length then some (cs.take n) else none
  | 0, cs => by simp [takeK]
  | n + 1, [] => by simp [takeK]
  | n + 1, c :: cs => by
    rw [takeK, takeK_eq n cs]
    by_cases h : n ≤ cs.length
    · rw [if_pos h, if_pos (by simpa using h)]; simp
    · rw [if_neg h, if_neg (by simpa using h)]
def cutK : Nat → Nat → List V → Option (List V)
  | 0, n, cs => takeK n cs
  | off + 1, n, [] => none
  | off + 1, n, c :: cs => cutK off n cs
theorem cutK_eq : ∀ (off n : Nat) (cs : List V), 0 < n ∨ off ≤ cs.length → cutK off n cs = if off + n ≤ cs.length then some ((cs.drop off).take n) else none
  | 0, n, cs, _ => by rw [cutK, takeK_eq, Nat.zero_add]; simp
  | off + 1, n, [], h => by
    have : ¬ (off + 1 + n ≤ ([] : List V).length) := by simp
    rw [cutK, if_neg this]
  | off + 1, n, c :: cs, h => by
    rw [cutK, cutK_eq off n cs (by simpa using h)]
    by_cases h : off + n ≤ cs.length
    · rw [if_pos h, if_pos (by simp; omega)]; simp
    · rw [if_neg h, if_neg (by simp; omega)]

def overK : List V → List V → Option (List V)
  | [], cs => some cs
  | v :: vs, [] => none
  | v :: vs, c :: cs => match overK vs cs with
    | some r => some (v :: r)
    | none => none
theorem overK_eq : ∀ (vs cs : List V), overK vs cs = if vs.length ≤ cs.length then some (vs ++ cs.drop vs.length) else none
  | [], cs => by simp [overK]
  | v :: vs, [] => by simp [overK]
  | v :: vs, c :: cs => by
    rw [overK, overK_eq vs cs]
    by_cases h : vs.length ≤ cs.length
    · rw [if_pos h, if_pos (by simpa using h)]; simp
    · rw [if_neg h, if_neg (by simpa using h)]
def putK : Nat → List V → List V → Option (List V)
  | 0, cs, vs => overK vs cs
  | off + 1, [], vs => none
  | off + 1, c :: cs, vs => match putK off cs vs with
    | some r => some (c :: r)
    | none => none
theorem putK_eq : ∀ (off : Nat) (cs vs : List V), 0 < vs.length ∨ off ≤ cs.length → putK off cs vs = splice cs off vs
  | 0, cs, vs, _ => by rw [putK, overK_eq, splice]; simp
  | off + 1, [], vs, h => by
    have : ¬ (off + 1 + vs.length ≤ ([] : List V).length) := by simp
    rw [putK, splice, if_neg this]
  | off + 1, c :: cs, vs, h => by
    rw [putK, putK_eq off cs vs (by simpa using h), splice, splice]
    by_cases h : off + vs.length ≤ cs.length
    · rw [if_pos h, if_pos (by simp; omega)]
      have : off + 1 + vs.length = (off + vs.length) + 1 := by omega
      simp [this]
    · rw [if_neg h, if_neg (by simp; omega)]

/-- A type's size, where it is of several cells. -/
def sizeK (P : Program) (t : TypeId) : Option Nat := match size? P t with
  | some n => force n some
  | none => none
theorem sizeK_eq (P : Program) (t : TypeId) : sizeK P t = size? P t := by
  unfold sizeK
  cases size? P t <;> simp [force_eq]
def partK (P : Program) (t : TypeId) (cells : List V) (off : Nat) : Option V :=
  match agg? P t with
  | some b => bif b then (match sizeK P t with
      | some n => partA n cells off
      | none => none) else nthK cells off
  | none => none
where
  partA (n : Nat) (cells : List V) (off : Nat) : Option V :=
    match n with
    | 0 => if off + 0 ≤ cells.length then some (.agg ((cells.drop off).take 0)) else none
    | n + 1 => match cutK off (n + 1) cells with
      | some r => some (.agg r)
      | none => none
theorem partK_eq (P : Program) (t : TypeId) (cells : List V) (off : Nat) : partK P t cells off = partV P t cells off := by
  unfold partK partV
  rw [sizeK_eq]
  cases agg? P t with
  | none => rfl
  | some b =>
    cases b with
    | false => simp [nthK_eq]
    | true =>
      cases size? P t with
      | none => rfl
      | some n =>
        simp only [cond_true, Option.bind_eq_bind, Option.bind_some, if_true]
        cases n with
        | zero => rfl
        | succ n =>
          simp only [partK.partA, cutK_eq off (n + 1) cells (.inl (by omega))]
          by_cases h : off + (n + 1) ≤ cells.length <;> simp [h]

def loadK (P : Program) (H : Heap) (t : TypeId) (x : V) : Option V :=
  match x with
  | .ptr b off => (match H.get b with
    | some B => (match B with
      | .cells cs _ => partK P t cs off
      | _ => none)
    | none => none)
  | .pp cells => partK P t cells 0
  | _ => none
theorem loadK_eq (P : Program) (H : Heap) (t : TypeId) (x : V) : loadK P H t x = loadV P H t x := by
  cases x with
  | ptr b off =>
    simp only [loadK, loadV, cellsAt]
    cases H.get b with
    | none => rfl
    | some B => cases B <;> simp [partK_eq]
  | pp cells => simp [loadK, loadV, cellsAt, partK_eq]
  | _ => rfl

def lenK : List V → Nat → Bool
  | [], n => Nat.beq n 0
  | _ :: cs, n => match n with
    | 0 => false
    | n + 1 => lenK cs n
theorem lenK_eq : ∀ (cs : List V) (n : Nat), lenK cs n = decide (cs.length = n)
  | [], 0 => rfl
  | [], n + 1 => rfl
  | c :: cs, 0 => rfl
  | c :: cs, n + 1 => by rw [lenK, lenK_eq cs n]; simp

def spliceK (off : Nat) (cs vc : List V) : Option (List V) :=
  match vc with
  | [] => splice cs off []
  | v :: vs => putK off cs (v :: vs)
theorem spliceK_eq (off : Nat) (cs vc : List V) : spliceK off cs vc = splice cs off vc := by
  cases vc with
  | nil => rfl
  | cons a r => exact putK_eq off cs (a :: r) (.inl (by simp))
def storeC (P : Program) (H : Heap) (t : TypeId) (b off : Nat) (cs : List V) (e : TypeId) (vc : List V) : Option OR :=
  match sizeK P t with
  | some n => bif lenK vc n && vc.all V.one then
      (match spliceK off cs vc with
        | some c => force (minK b H.n) fun l => some ⟨undefV, H.set b (.cells c e), l⟩
        | none => none)
    else none
  | none => none
def storeK (P : Program) (H : Heap) (t : TypeId) (x v : V) : Option OR :=
  match x with
  | .ptr b off => (match H.get b with
    | some B => (match B with
      | .cells cs e => (match vcells v with
        | some vc => storeC P H t b off cs e vc
        | none => none)
      | _ => none)
    | none => none)
  | _ => none
theorem storeK_eq (P : Program) (H : Heap) (t : TypeId) (x v : V) : storeK P H t x v = storeV P H t x v := by
  cases x with
  | ptr b off =>
    simp only [storeK, storeV]
    cases H.get b with
    | none => rfl
    | some B =>
      cases B with
      | cells cs e =>
        simp only
        cases vcells v with
        | none => rfl
        | some vc =>
          simp only [storeC, sizeK_eq, Option.bind_eq_bind, Option.bind_some, lenK_eq]
          cases size? P t with
          | none => rfl
          | some n =>
            simp only [Option.bind_some]
            by_cases h : vc.length = n ∧ vc.all V.one = true
            · rw [if_pos h, h.1, h.2]
              simp only [decide_true, Bool.and_true, cond_true, force_eq, minK_eq]
              rw [spliceK_eq]
              cases splice cs off vc <;> rfl
            · rw [if_neg h]
              have : (decide (vc.length = n) && vc.all V.one) = false := by
                rw [Bool.eq_false_iff]
                intro e
                simp only [Bool.and_eq_true, decide_eq_true_eq] at e
                exact h e
              rw [this]
              rfl
      | _ => rfl
  | _ => rfl

/-- A field's place. -/
def placeOf (P : Program) (s : TypeId) (i : Nat) : Option Nat :=
  match P.underlying s with
  | some (.struct fields) => do
    let f ← fields[i]?
    let n ← size? P f.type
    if n = 0 then none else force f.offset some
  | _ => none
def addK (x : V) (n : Nat) : Option V :=
  match x with
  | .ptr b off => force (off + n) fun o => some (.ptr b o)
  | .pp cells => some (.pp (cells.drop n))
  | _ => none
theorem addK_eq (x : V) (n : Nat) : addK x n = ptrAdd x n := by cases x <;> simp [addK, ptrAdd, force_eq]
def fieldK (P : Program) (s : TypeId) (x : V) (i : Nat) : Option V :=
  match placeOf P s i with
  | some n => addK x n
  | none => none
theorem fieldK_eq (P : Program) (s : TypeId) (x : V) (i : Nat) : fieldK P s x i = fieldAddrV P s x i := by
  unfold fieldK fieldAddrV placeOf
  cases hu : P.underlying s with
  | none => rfl
  | some d =>
    cases d with
    | struct fields =>
      simp only [Option.bind_eq_bind]
      cases h1 : fields[i]? with
      | none => rfl
      | some f =>
        simp only [Option.bind_some]
        cases h2 : size? P f.type with
        | none => rfl
        | some m =>
          simp only [Option.bind_some]
          by_cases hm : m = 0
          · simp only [if_pos hm]
          · simp only [if_neg hm, force_eq, addK_eq]
    | _ => rfl

/-- What an index goes over. -/
inductive Ixd where
  | arr (len n : Nat)
  | sl (n : Nat)
  | bad
def ixdOf (P : Program) (t : TypeId) : Ixd :=
  match P.underlying t with
  | some (.array len elem) => (match size? P elem with
    | some n => force n fun n => force len fun l => .arr l n
    | none => .bad)
  | some (.slice elem) => (match size? P elem with
    | some n => force n fun n => .sl n
    | none => .bad)
  | _ => .bad
def ixS (x : V) (i n : Nat) : Option V :=
  match x with
  | .sl b off len _ _ => bif Nat.blt i len then force (off + i * n) fun o => some (.ptr b o) else none
  | .ps cells len => bif Nat.blt i len then some (.pp (cells.drop (i * n))) else none
  | _ => none
def ixN (P : Program) (t : TypeId) (x : V) (i : Nat) : Option V :=
  match ixdOf P t with
  | .arr len n => bif Nat.blt i len then addK x (i * n) else none
  | .sl n => ixS x i n
  | .bad => none
def indexK (P : Program) (t : TypeId) (x ix : V) : Option V :=
  match ix with
  | .lit v => (match v with
    | .int _ i => (match i with
      | .ofNat i => ixN P t x i
      | .negSucc _ => none)
    | _ => none)
  | _ => none
theorem indexK_eq (P : Program) (t : TypeId) (x ix : V) : indexK P t x ix = indexAddrV P t x ix := by
  cases ix with
  | lit v =>
    cases v with
    | int k i =>
      simp only [indexK, indexAddrV]
      have hlt : ∀ (m : Nat) (len : Nat), (0 ≤ (Int.ofNat m) ∧ (Int.ofNat m) < (len : Int)) ↔ m < len := fun m len => by simp
      have hneg : ∀ (m : Nat) (len : Nat), ¬ (0 ≤ (Int.negSucc m) ∧ (Int.negSucc m) < (len : Int)) := fun m len h => by have := h.1; omega
      cases i with
      | ofNat i =>
        simp only [ixN, ixdOf]
        cases hu : P.underlying t with
        | none => rfl
        | some d =>
          cases d with
          | array len elem =>
            simp only
            cases hs : size? P elem with
            | none => rfl
            | some n =>
              simp only [force_eq, Option.bind_eq_bind, Option.bind_some, hlt, Heap.blt_eq, addK_eq]
              by_cases e : i < len <;> simp [e]
          | slice elem =>
            simp only
            cases hs : size? P elem with
            | none => rfl
            | some n =>
              simp only [force_eq, Option.bind_eq_bind, Option.bind_some]
              cases x with
              | sl b off len cap opn =>
                simp only [ixS, hlt, Heap.blt_eq, force_eq]
                by_cases e : i < len <;> simp [e]
              | ps cells len =>
                simp only [ixS, hlt, Heap.blt_eq]
                by_cases e : i < len <;> simp [e]
              | _ => rfl
          | _ => rfl
      | negSucc i =>
        simp only
        split
        · rename_i len elem hu
          cases size? P elem with
          | none => rfl
          | some n => simp only [Option.bind_eq_bind, Option.bind_some]; rw [if_neg (hneg i len)]
        · rename_i elem hu
          cases size? P elem with
          | none => rfl
          | some n =>
            simp only [Option.bind_eq_bind, Option.bind_some]
            cases x with
            | sl b off len cap opn => simp only; rw [if_neg (hneg i len)]
            | ps cells len => simp only; rw [if_neg (hneg i len)]
            | _ => rfl
        · rfl
    | _ => rfl
  | _ => rfl
end Go.Tw
