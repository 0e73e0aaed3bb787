/- The evaluator once more, in small pieces that the kernel runs fast: it is the evaluator. No condition. -/
import Derived.Test.YtjlphacnmonfnaaGreatDoorTwUse
set_option linter.unusedVariables false
set_option linter.unusedSimpArgs false
namespace Go.Tw

def forceI {α : Type} (n : Int) (k : Int → α) : α :=
  match n with
  | .ofNat m => force m fun m => k (.ofNat m)
  | .negSucc m => force m fun m => k (.negSucc m)
theorem forceI_eq {α : Type} (n : Int) (k : Int → α) : forceI n k = k n := by cases n <;> simp [forceI, force_eq]

/-! ### Numbers -/
def sgnK : IntKind → Bool
  | .i8 | .i16 | .i32 | .i64 => true
  | .u8 | .u16 | .u32 | .u64 => false
def modK : IntKind → Nat
  | .i8 | .u8 => 256 | .i16 | .u16 => 65536 | .i32 | .u32 => 4294967296 | .i64 | .u64 => 18446744073709551616
def limK : IntKind → Nat
  | .i8 => 128 | .i16 => 32768 | .i32 => 2147483648 | .i64 => 9223372036854775808
  | .u8 => 256 | .u16 => 65536 | .u32 => 4294967296 | .u64 => 18446744073709551616
def bitsK : IntKind → Nat
  | .i8 | .u8 => 8 | .i16 | .u16 => 16 | .i32 | .u32 => 32 | .i64 | .u64 => 64
theorem bitsK_eq (k : IntKind) : bitsK k = k.bits := by cases k <;> rfl
def wrapN (k : IntKind) (m : Nat) : Int :=
  bif Nat.blt m (limK k) then .ofNat m
  else bif sgnK k then .subNatNat (bif Nat.blt (m % modK k) (limK k) then m % modK k else m % modK k) (bif Nat.blt (m % modK k) (limK k) then 0 else modK k)
  else .ofNat (m % modK k)
def wrapK (k : IntKind) (n : Int) : Int :=
  match n with
  | .ofNat m => wrapN k m
  | .negSucc m => k.wrap (.negSucc m)
theorem wrapN_eq (k : IntKind) (m : Nat) : wrapN k m = k.wrap (.ofNat m) := by
  simp only [wrapN, Heap.blt_eq]
  by_cases h : m < limK k
  · simp only [h, decide_true, cond_true]
    cases k <;> simp only [limK] at h <;> simp only [IntKind.wrap, IntKind.bits, IntKind.signed] <;> simp <;> omega
  · simp only [h, decide_false, cond_false]
    by_cases h2 : m % modK k < limK k <;> simp only [h2, decide_true, decide_false, cond_true, cond_false, Int.subNatNat_eq_coe] <;>
    cases k <;> simp only [limK, modK] at h h2 <;> simp only [sgnK, modK, IntKind.wrap, IntKind.bits, IntKind.signed, cond_true, cond_false] <;> simp <;> omega
theorem wrapK_eq (k : IntKind) (n : Int) : wrapK k n = k.wrap n := by
  cases n with
  | negSucc m => rfl
  | ofNat m => exact wrapN_eq k m
def ltK (a b : Int) : Bool :=
  match a with
  | .ofNat m => (match b with | .ofNat n => Nat.blt m n | .negSucc _ => false)
  | .negSucc m => (match b with | .ofNat _ => true | .negSucc n => Nat.blt n m)
theorem ltK_eq (a b : Int) : ltK a b = decide (a < b) := by
  cases a <;> cases b <;> simp only [ltK, Heap.blt_eq] <;> simp <;> (try omega)
def eqK (a b : Int) : Bool :=
  match a with
  | .ofNat m => (match b with | .ofNat n => Nat.beq m n | .negSucc _ => false)
  | .negSucc m => (match b with | .ofNat _ => false | .negSucc n => Nat.beq m n)
theorem eqK_eq (a b : Int) : eqK a b = (a == b) := by
  rw [Bool.eq_iff_iff]
  cases a <;> cases b <;> simp only [eqK, Nat.beq_eq_true_eq, beq_iff_eq] <;> simp <;> omega

def keepI (k : IntKind) (n : Int) : Option V := forceI n fun r => some (.lit (.int k r))
theorem keepI_eq (k : IntKind) (n : Int) : keepI k n = some (.lit (.int k n)) := forceI_eq _ _
def keepB (b : Bool) : Option V := bif b then some (.lit (.bool true)) else some (.lit (.bool false))
theorem keepB_eq (b : Bool) : keepB b = some (.lit (.bool b)) := by cases b <;> rfl
def ixK : IntKind → Nat
  | .i8 => 0 | .i16 => 1 | .i32 => 2 | .i64 => 3 | .u8 => 4 | .u16 => 5 | .u32 => 6 | .u64 => 7
def kEq (k k' : IntKind) : Bool := Nat.beq (ixK k) (ixK k')
theorem kEq_eq (k k' : IntKind) : kEq k k' = decide (k = k') := by cases k <;> cases k' <;> rfl

def andK (k : IntKind) (a b : Int) : Int :=
  match a with
  | .ofNat m => (match b with
    | .ofNat n => bif Nat.blt m (modK k) && Nat.blt n (modK k) then wrapN k (Nat.land m n) else k.wrap ((BitVec.ofInt k.bits (.ofNat m) &&& BitVec.ofInt k.bits (.ofNat n)).toNat)
    | .negSucc n => k.wrap ((BitVec.ofInt k.bits (.ofNat m) &&& BitVec.ofInt k.bits (.negSucc n)).toNat))
  | .negSucc m => k.wrap ((BitVec.ofInt k.bits (.negSucc m) &&& BitVec.ofInt k.bits b).toNat)
def orK (k : IntKind) (a b : Int) : Int :=
  match a with
  | .ofNat m => (match b with
    | .ofNat n => bif Nat.blt m (modK k) && Nat.blt n (modK k) then wrapN k (Nat.lor m n) else k.wrap ((BitVec.ofInt k.bits (.ofNat m) ||| BitVec.ofInt k.bits (.ofNat n)).toNat)
    | .negSucc n => k.wrap ((BitVec.ofInt k.bits (.ofNat m) ||| BitVec.ofInt k.bits (.negSucc n)).toNat))
  | .negSucc m => k.wrap ((BitVec.ofInt k.bits (.negSucc m) ||| BitVec.ofInt k.bits b).toNat)
def xorK (k : IntKind) (a b : Int) : Int :=
  match a with
  | .ofNat m => (match b with
    | .ofNat n => bif Nat.blt m (modK k) && Nat.blt n (modK k) then wrapN k (Nat.xor m n) else k.wrap ((BitVec.ofInt k.bits (.ofNat m) ^^^ BitVec.ofInt k.bits (.ofNat n)).toNat)
    | .negSucc n => k.wrap ((BitVec.ofInt k.bits (.ofNat m) ^^^ BitVec.ofInt k.bits (.negSucc n)).toNat))
  | .negSucc m => k.wrap ((BitVec.ofInt k.bits (.negSucc m) ^^^ BitVec.ofInt k.bits b).toNat)
theorem modK_eq (k : IntKind) : modK k = 2 ^ k.bits := by cases k <;> rfl
theorem ofN {k : IntKind} {m : Nat} (h : m < modK k) : (BitVec.ofInt k.bits (Int.ofNat m)).toNat = m := by
  rw [modK_eq] at h
  show (BitVec.ofInt k.bits (m : Int)).toNat = m
  rw [BitVec.ofInt_natCast, BitVec.toNat_ofNat, Nat.mod_eq_of_lt h]
theorem andK_eq (k : IntKind) (a b : Int) : andK k a b = k.wrap ((BitVec.ofInt k.bits a &&& BitVec.ofInt k.bits b).toNat) := by
  cases a <;> cases b <;> simp only [andK]
  rename_i m n
  simp only [Heap.blt_eq]
  by_cases h : m < modK k <;> by_cases h' : n < modK k <;> simp only [h, h', decide_true, decide_false, Bool.and_true, Bool.true_and, Bool.and_false, Bool.false_and, cond_true, cond_false]
  rw [wrapN_eq, BitVec.toNat_and, ofN h, ofN h']
  rfl
theorem orK_eq (k : IntKind) (a b : Int) : orK k a b = k.wrap ((BitVec.ofInt k.bits a ||| BitVec.ofInt k.bits b).toNat) := by
  cases a <;> cases b <;> simp only [orK]
  rename_i m n
  simp only [Heap.blt_eq]
  by_cases h : m < modK k <;> by_cases h' : n < modK k <;> simp only [h, h', decide_true, decide_false, Bool.and_true, Bool.true_and, Bool.and_false, Bool.false_and, cond_true, cond_false]
  rw [wrapN_eq, BitVec.toNat_or, ofN h, ofN h']
  rfl
theorem xorK_eq (k : IntKind) (a b : Int) : xorK k a b = k.wrap ((BitVec.ofInt k.bits a ^^^ BitVec.ofInt k.bits b).toNat) := by
  cases a <;> cases b <;> simp only [xorK]
  rename_i m n
  simp only [Heap.blt_eq]
  by_cases h : m < modK k <;> by_cases h' : n < modK k <;> simp only [h, h', decide_true, decide_false, Bool.and_true, Bool.true_and, Bool.and_false, Bool.false_and, cond_true, cond_false]
  rw [wrapN_eq, BitVec.toNat_xor, ofN h, ofN h']
  rfl

def minK (n m : Nat) : Nat := bif Nat.ble n m then n else m
theorem minK_eq (n m : Nat) : minK n m = min n m := by
  unfold minK
  by_cases h : n ≤ m
  · rw [Nat.ble_eq_true_of_le h]; simp; omega
  · have : Nat.ble n m = false := by rw [Bool.eq_false_iff]; intro e; exact h (Nat.le_of_ble_eq_true e)
    rw [this]; simp; omega

def shlK (k : IntKind) (a b : Int) : Option V :=
  match b with
  | .ofNat n => (match a with
    | .ofNat m => keepI k (wrapN k (m * 2 ^ minK n (bitsK k)))
    | .negSucc m => keepI k (k.wrap (.negSucc m * 2 ^ (min n k.bits))))
  | .negSucc _ => none
def shrK (k : IntKind) (a b : Int) : Option V :=
  match b with
  | .ofNat n => (match a with
    | .ofNat m => keepI k (.ofNat (m / 2 ^ minK n (bitsK k)))
    | .negSucc m => keepI k ((Int.negSucc m).fdiv (2 ^ (min n k.bits))))
  | .negSucc _ => none
theorem shlK_eq (k : IntKind) (a b : Int) : shlK k a b = (shiftBin .shl k a b).map .lit := by
  cases b with
  | negSucc n => simp [shlK, shiftBin, Int.negSucc_lt_zero]
  | ofNat n =>
    have h : ¬ (Int.ofNat n < 0) := by simp
    cases a with
    | negSucc m => simp only [shlK, shiftBin, h, if_false, keepI_eq, Option.map_some]; rfl
    | ofNat m =>
      simp only [shlK, shiftBin, h, if_false, keepI_eq, Option.map_some, wrapN_eq, minK_eq, bitsK_eq]
      congr 4
theorem shrK_eq (k : IntKind) (a b : Int) : shrK k a b = (shiftBin .shr k a b).map .lit := by
  cases b with
  | negSucc n => simp [shrK, shiftBin, Int.negSucc_lt_zero]
  | ofNat n =>
    have h : ¬ (Int.ofNat n < 0) := by simp
    cases a with
    | negSucc m => simp only [shrK, shiftBin, h, if_false, keepI_eq, Option.map_some]; rfl
    | ofNat m =>
      simp only [shrK, shiftBin, h, if_false, keepI_eq, Option.map_some, minK_eq, bitsK_eq]
      congr 3
      have : (2 : Int) ^ (min n k.bits) = ((2 ^ min n k.bits : Nat) : Int) := by rw [Int.natCast_pow]; rfl
      show _ = Int.fdiv (Int.ofNat m) ((2 : Int) ^ (min n k.bits))
      rw [this, Int.fdiv_eq_ediv_of_nonneg _ (Int.natCast_nonneg _)]
      rfl

def quoK (k : IntKind) (a b : Int) : Option V := bif eqK b 0 then none else keepI k (wrapK k (a.tdiv b))
def remK (k : IntKind) (a b : Int) : Option V := bif eqK b 0 then none else keepI k (a.tmod b)
def intK (op : BinOp) (k : IntKind) (a b : Int) : Option V :=
  match op with
  | .add => keepI k (wrapK k (a + b))
  | .sub => keepI k (wrapK k (a - b))
  | .mul => keepI k (wrapK k (a * b))
  | .quo => quoK k a b
  | .rem => remK k a b
  | .and => keepI k (andK k a b)
  | .or => keepI k (orK k a b)
  | .xor => keepI k (xorK k a b)
  | .eql => keepB (eqK a b)
  | .neq => keepB (!eqK a b)
  | .lss => keepB (ltK a b)
  | .leq => keepB (!ltK b a)
  | .gtr => keepB (ltK b a)
  | .geq => keepB (!ltK a b)
  | op => (intBin op k a b).map .lit
theorem intK_eq (op : BinOp) (k : IntKind) (a b : Int) : intK op k a b = (intBin op k a b).map .lit := by
  have h0 : (eqK b 0) = decide (b = 0) := by rw [eqK_eq]; rfl
  cases op <;> simp only [intK, intBin, keepI_eq, keepB_eq, wrapK_eq, ltK_eq, eqK_eq, andK_eq, orK_eq, xorK_eq, Option.map_some, Option.map_none, quoK, remK]
  case quo =>
    by_cases e : b = 0
    · simp [e]
    · have e' : (b == 0) = false := by simpa using e
      simp [e, e']
  case rem =>
    by_cases e : b = 0
    · simp [e]
    · have e' : (b == 0) = false := by simpa using e
      simp [e, e']
  case leq => congr 3; rw [Bool.eq_iff_iff]; simp
  case geq => congr 3; rw [Bool.eq_iff_iff]; simp
  all_goals rfl
end Go.Tw
