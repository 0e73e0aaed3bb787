/- The evaluator in small pieces: it is the evaluator. No condition. -/
import Derived.Test.YtjlphacnmonfnaaGreatDoorTwFast2
set_option linter.unusedVariables false
set_option linter.unusedSimpArgs false
namespace Go.Tw

def keepK (H : Heap) (o : Option V) : Option OR :=
  match o with
  | some v => force H.n fun l => some ⟨v, H, l⟩
  | none => none
theorem keepK_eq (H : Heap) (o : Option V) : keepK H o = keep H o := by cases o <;> simp [keepK, keep, force_eq]
def keepF (H : Heap) (v : V) : Option OR := forceV v fun v => force H.n fun l => some ⟨v, H, l⟩
theorem keepF_eq (H : Heap) (v : V) : keepF H v = keep H (some v) := by simp [keepF, keep, force_eq, forceV_eq]

def pickK (r : Operand → V) (H : Heap) (c a b : Operand) : Option OR :=
  match r c with
  | .lit v => (match v with
    | .bool t => bif t then keepF H (r a) else keepF H (r b)
    | _ => none)
  | _ => none
def getK : List V → Nat → Option V := nthK
def extK (H : Heap) (x : V) (i : Nat) : Option OR :=
  match x with
  | .tup vs => (match nthK vs i with
    | some v => keepF H v
    | none => none)
  | _ => none
def buildA (P : Program) (r : Operand → V) (H : Heap) (t : TypeId) (ps : Array (Nat × Operand)) : Option OR := keepK H (buildV P t (ps.toList.map fun p => (p.1, r p.2)))
def buildSliceA (P : Program) (r : Operand → V) (H : Heap) (t : TypeId) (len : Nat) (ps : Array (Nat × Operand)) : Option OR := buildSliceV P H t len (ps.toList.map fun p => (p.1, r p.2))
def mkIfcA (P : Program) (r : Operand → V) (H : Heap) (t : TypeId) (x : Operand) : Option OR :=
  match P.underlying t with
  | some (.interface _) => none
  | some _ => keepK H (some (.ifc t (r x)))
  | none => none
def mkMapA (H : Heap) (o : Option Operand) : Option OR :=
  match o with
  | none => some ⟨.mp H.n, H.push (.map [] 0), H.n⟩
  | some _ => none
def lenA (P : Program) (r : Operand → V) (H : Heap) (c : Call) : Option OR :=
  match c.argTypes[0]?, c.args[0]? with
  | some t, some x => keepK H (lenMapV P H t (r x))
  | _, _ => none
def capA (P : Program) (r : Operand → V) (H : Heap) (c : Call) : Option OR :=
  match c.argTypes[0]?, c.args[0]? with
  | some t, some x => keepK H (capV P t (r x))
  | _, _ => none
def maxA (r : Operand → V) (H : Heap) (c : Call) : Option OR :=
  match c.args.toList.map r with
  | x :: rest => keepK H (foldV max2V x rest)
  | [] => none
def minA (r : Operand → V) (H : Heap) (c : Call) : Option OR :=
  match c.args.toList.map r with
  | x :: rest => keepK H (foldV min2V x rest)
  | [] => none
def appendA (P : Program) (r : Operand → V) (H : Heap) (c : Call) : Option OR :=
  match c.argTypes[0]?, c.argTypes[1]?, c.args[0]?, c.args[1]? with
  | some t0, some t1, some s, some x => appendV P H t0 t1 (r s) (r x)
  | _, _, _, _ => none
def copyA (P : Program) (r : Operand → V) (H : Heap) (c : Call) : Option OR :=
  match c.argTypes[0]?, c.args[0]?, c.args[1]? with
  | some t0, some s, some x => copyV P H t0 (r s) (r x)
  | _, _, _ => none
def clearA (P : Program) (r : Operand → V) (H : Heap) (c : Call) : Option OR :=
  match c.argTypes[0]?, c.args[0]? with
  | some t0, some s => clearV P H t0 (r s)
  | _, _ => none
def builtA (P : Program) (r : Operand → V) (H : Heap) (c : Call) (b : Builtin) : Option OR :=
  match b with
  | .len => lenA P r H c
  | .cap => capA P r H c
  | .max => maxA r H c
  | .min => minA r H c
  | .append => appendA P r H c
  | .copy => copyA P r H c
  | .clear => clearA P r H c
  | _ => none
/-- A call, by its callee: of a value, 'cv'. -/
def callK (P : Program) (cv : V → List V → Heap → Option OR) (r : Operand → V) (H : Heap) (c : Call) : Option OR :=
  match c.callee with
  | .value f => cv (r f) (c.args.toList.map r) H
  | .invoke x name => cv (.fn (.method name) [r x] []) (c.args.toList.map r) H
  | .builtin b => builtA P r H c b
def opK (P : Program) (cv : V → List V → Heap → Option OR) (r : Operand → V) (H : Heap) (o : Op) : Option OR :=
  match o with
  | .move x => keepF H (r x)
  | .assign x => keepF H (r x)
  | .pick c a b => pickK r H c a b
  | .alloc t => allocV P H t
  | .box t x => boxV H t (r x)
  | .build t ps => buildA P r H t ps
  | .buildSlice t len ps => buildSliceA P r H t len ps
  | .load t a => keepK H (loadK P H t (r a))
  | .store t a x => storeK P H t (r a) (r x)
  | .nilCheck x => keepK H (nilCheckP P (r x))
  | .binOp op t x y _ => keepK H (binK P op t (r x) (r y))
  | .unOp op _ x => keepK H (unV op (r x))
  | .convert s d x => convertV P H s d (r x)
  | .makeInterface t x => mkIfcA P r H t x
  | .makeFunc f a b => keepK H (some (.fn f (a.toList.map r) (b.toList.map r)))
  | .makeMap t o => mkMapA H o
  | .makeSlice t l c => makeSliceV P H t (r l) (r c)
  | .slice t x l h m => keepK H (sliceV P t (r x) (l.map r) (h.map r) (m.map r))
  | .fieldAddr s x f => keepK H (fieldK P s (r x) f)
  | .field s x f => keepK H (fieldV P s (r x) f)
  | .indexAddr t x i => keepK H (indexK P t (r x) (r i))
  | .index t x i => keepK H (indexV P t (r x) (r i))
  | .lookup t m k ok => keepK H (lookupV P H t (r m) (r k) ok)
  | .mapUpdate t m k v => mapUpdateV P H t (r m) (r k) (r v)
  | .insert t m k v => mapUpdateV P H t (r m) (r k) (r v)
  | .mapEntry t m k => mapEntryC P H t (r m) (r k)
  | .entryStore t m s v => entryStoreV H (r m) (r s) (r v)
  | .typeAssert x _ t ok => keepK H (typeAssertV P (r x) t ok)
  | .extract x i => extK H (r x) i
  | .call c => callK P cv r H c
  | _ => none
theorem opK_eq (P : Program) (cv : V → List V → Heap → Option OR) (r : Operand → V) (H : Heap) (o : Op) : opK P cv r H o = rsV P cv r H o := by
  cases o <;> simp only [opK, rsV, opV, keepF_eq, keepK_eq, loadK_eq, storeK_eq, binK_eq, fieldK_eq, indexK_eq, buildA, buildSliceA, mkIfcA] <;> (try rfl)
  case pick c a b =>
    unfold pickK
    cases r c with
    | lit v => cases v <;> simp [keepF_eq]; rename_i t; cases t <;> simp
    | _ => rfl
  case makeMap t o => cases o <;> rfl
  case extract x i =>
    unfold extK extractV
    cases r x with
    | tup vs => simp only [nthK_eq]; cases vs[i]? <;> simp [keepF_eq, keep]
    | _ => rfl
  case call c =>
    unfold callK
    cases h : c.callee with
    | value f => rfl
    | builtin b => cases b <;> simp only [builtA, lenA, capA, maxA, minA, appendA, copyA, clearA, keepK_eq] <;> rfl
    | invoke a b => rfl

/-- A function's body, slots and results; does it defer calls? -/
def fnF (fn : Func) : Option (Code × Nat × List ResultVar × Bool) :=
  match fn.body with
  | some body => bif fn.name == "runtime.NumGoroutine" then none else some (body, fn.ntmps, fn.results.toList, hasDefer body)
  | none => none
def fnOf (C : Ctx) (g : FuncId) : Option (Code × Nat × List ResultVar × Bool) :=
  match C.ft.find g with
  | some fn => fnF fn
  | none => match C.P.funcs[g]? with
    | some fn => fnF fn
    | none => none
theorem fnOf_some {C : Ctx} (hft : C.ft.OK C.P) {g : FuncId} {q : Code × Nat × List ResultVar × Bool} (h : fnOf C g = some q) : ∃ fn, C.P.funcs[g]? = some fn ∧ fnF fn = some q := by
  unfold fnOf at h
  split at h
  · rename_i fn hf
    exact ⟨fn, FT.find_ok hft hf, h⟩
  · split at h
    · rename_i fn hf
      exact ⟨fn, hf, h⟩
    · cases h
end Go.Tw
