/- Law 24: which names may be. -/
import Derived.Test.YteifcnkjjigddaaGreatDoorRows
import Derived.Test.YteifcnkjjigddaaGreatDoorTwUse
import Derived.IntWalk
set_option linter.unusedVariables false
set_option maxRecDepth 100000
namespace Go.Proofs.YteifcnkjjigddaaGreatDoor
open Go Go.Tw

noncomputable def C0 : Ctx := { P := Tryz.prog, G := fun _ => none, S := fun _ => none }
theorem C0_ok : CtxOK C0 := ⟨by kernel_rfl, fun g F h => by cases h⟩

def stL (s : ByteArray) (i : Int) : St := ⟨mkT [(0, .lit (.string s)), (5, .lit (.int .i64 s.size)), (6, .lit (.int .i64 i))], .empty, 0⟩
noncomputable def B25 : Code := bodyOf Tryz.f13
noncomputable def L25 : Code := fstC (fstC (sndC (fstC (sndC B25))))

theorem lss_ok (P : Program) (t : TypeId) (k : IntKind) (a b : Int) (r : Bool) (h : decide (a < b) = r) : binV P .lss t (.lit (.int k a)) (.lit (.int k b)) = some (.lit (.bool r)) := by
  simp [binV, intBin, h]
theorem gtr_ok (P : Program) (t : TypeId) (k : IntKind) (a b : Int) (r : Bool) (h : decide (a > b) = r) : binV P .gtr t (.lit (.int k a)) (.lit (.int k b)) = some (.lit (.bool r)) := by
  simp only [binV, intBin, if_true, Option.map_some]; rw [h]
theorem leq_ok (P : Program) (t : TypeId) (k : IntKind) (a b : Int) (r : Bool) (h : decide (a ≤ b) = r) : binV P .leq t (.lit (.int k a)) (.lit (.int k b)) = some (.lit (.bool r)) := by
  simp only [binV, intBin, if_true, Option.map_some]; rw [h]
theorem geq_ok (P : Program) (t : TypeId) (k : IntKind) (a b : Int) (r : Bool) (h : decide (a ≥ b) = r) : binV P .geq t (.lit (.int k a)) (.lit (.int k b)) = some (.lit (.bool r)) := by
  simp only [binV, intBin, if_true, Option.map_some]; rw [h]
theorem add_ok (P : Program) (t : TypeId) (a b c : Int) (h : IntKind.i64.wrap (a + b) = c) : binV P .add t (.lit (.int .i64 a)) (.lit (.int .i64 b)) = some (.lit (.int .i64 c)) := by
  simp only [binV, intBin, if_true, Option.map_some]; rw [h]
theorem idx_ok (s : ByteArray) (i : Nat) (b : UInt8) (h : s.data.toList[i]? = some b) : indexV Tryz.prog 9 (.lit (.string s)) (.lit (.int .i64 (i : Nat))) = some (.lit (.int .u8 b.toNat)) := by
  simp [indexV, Tryz.underlying9, h]

/-- A round: the byte is too small. -/
theorem round25a (s : ByteArray) (i : Int) (c : Int) : hout (hexec C0 20 none 28 L25 (stL s i) [(0, .lit (.bool true)), (4, .lit (.int .u8 c)), (0, .lit (.bool true))] []) [2] = some (.ret, [.lit (.bool false)], .empty, 0, [],
    [binV Tryz.prog .lss 5 (.lit (.int .u8 c)) (.lit (.int .u8 33)) = some (.lit (.bool true)), indexV Tryz.prog 9 (.lit (.string s)) (.lit (.int .i64 i)) = some (.lit (.int .u8 c)), binV Tryz.prog .lss 3 (.lit (.int .i64 i)) (.lit (.int .i64 s.size)) = some (.lit (.bool true))]) := by kernel_rfl
/-- It is too great. -/
theorem round25b (s : ByteArray) (i : Int) (c : Int) : hout (hexec C0 20 none 28 L25 (stL s i) [(0, .lit (.bool true)), (4, .lit (.int .u8 c)), (0, .lit (.bool false)), (3, .lit (.int .u8 c)), (0, .lit (.bool true))] []) [2] = some (.ret, [.lit (.bool false)], .empty, 0, [],
    [binV Tryz.prog .gtr 5 (.lit (.int .u8 c)) (.lit (.int .u8 126)) = some (.lit (.bool true)), indexV Tryz.prog 9 (.lit (.string s)) (.lit (.int .i64 i)) = some (.lit (.int .u8 c)), binV Tryz.prog .lss 5 (.lit (.int .u8 c)) (.lit (.int .u8 33)) = some (.lit (.bool false)), indexV Tryz.prog 9 (.lit (.string s)) (.lit (.int .i64 i)) = some (.lit (.int .u8 c)), binV Tryz.prog .lss 3 (.lit (.int .i64 i)) (.lit (.int .i64 s.size)) = some (.lit (.bool true))]) := by kernel_rfl
/-- It may be. -/
theorem round25c (s : ByteArray) (i : Int) (c : Int) : hout (hexec C0 20 none 28 L25 (stL s i) [(0, .lit (.bool true)), (4, .lit (.int .u8 c)), (0, .lit (.bool false)), (3, .lit (.int .u8 c)), (0, .lit (.bool false)), (1, .lit (.int .i64 (i + 1)))] []) [0, 5, 6] = some (.normal, [.lit (.string s), .lit (.int .i64 s.size), .lit (.int .i64 (i + 1))], .empty, 0, [],
    [binV Tryz.prog .add 3 (.lit (.int .i64 i)) (.lit (.int .i64 1)) = some (.lit (.int .i64 (i + 1))), binV Tryz.prog .gtr 5 (.lit (.int .u8 c)) (.lit (.int .u8 126)) = some (.lit (.bool false)), indexV Tryz.prog 9 (.lit (.string s)) (.lit (.int .i64 i)) = some (.lit (.int .u8 c)), binV Tryz.prog .lss 5 (.lit (.int .u8 c)) (.lit (.int .u8 33)) = some (.lit (.bool false)), indexV Tryz.prog 9 (.lit (.string s)) (.lit (.int .i64 i)) = some (.lit (.int .u8 c)), binV Tryz.prog .lss 3 (.lit (.int .i64 i)) (.lit (.int .i64 s.size)) = some (.lit (.bool true))]) := by kernel_rfl
/-- The end. -/
theorem round25d (s : ByteArray) (i : Int) : hout (hexec C0 20 none 28 L25 (stL s i) [(0, .lit (.bool false))] []) [0] = some (.exit 0, [.lit (.string s)], .empty, 0, [],
    [binV Tryz.prog .lss 3 (.lit (.int .i64 i)) (.lit (.int .i64 s.size)) = some (.lit (.bool false))]) := by kernel_rfl
/-- What the loop over the letters leaves. -/
def LoopQ (o : Orig) (s : ByteArray) (x : Exit) (a : Act) (w : World) : Prop :=
  (x = .exit 0 ∧ s.data.toList.all okB = true ∧ ∃ s', SR C0 (fun _ => False) 28 none none o s' w ⟨mkT [(0, .lit (.string s))], .empty, 0⟩ a) ∨
  (x = .ret ∧ s.data.toList.all okB = false ∧ ∃ s', SR C0 (fun _ => False) 28 none none o s' w ⟨mkT [(2, .lit (.bool false))], .empty, 0⟩ a)

theorem byte_lt {s : ByteArray} {i : Nat} (hi : i < s.size) : ∃ b, s.data.toList[i]? = some b := ⟨_, List.getElem?_eq_getElem (by rw [Array.length_toList]; exact hi)⟩

theorem all_false {l : List UInt8} {i : Nat} {b : UInt8} (h : l[i]? = some b) (hb : okB b = false) : l.all okB = false := by
  rw [List.all_eq_false]
  exact ⟨b, List.mem_of_getElem? h, by simp [hb]⟩

theorem loop25 {o : Orig} (s : ByteArray) (hs : s.size ≤ 9223372036854775807) : ∀ (k i : Nat) (s' : Nat → Option Nat) (w : World) (a : Act), s.size - i = k → i ≤ s.size → (∀ j b, j < i → s.data.toList[j]? = some b → okB b = true) →
    SR C0 (fun _ => False) 28 none none o s' w (stL s i) a → Code.rounds Tryz.prog L25 (LoopQ o s) (k + 1) a w := by
  intro k
  induction k with
  | zero =>
    intro i s' w a hk hi hall R
    rw [rounds_succ]
    refine wp_run C0_ok (round25d s i) (.cons (lss_ok _ _ _ _ _ _ (by simp; omega)) .nil) R fun s2 w2 a2 T hT R2 => ?_
    refine .inl ⟨rfl, ?_, s2, R2.keep [(0, .lit (.string s))] ?_⟩
    · rw [List.all_eq_true]
      intro b hb
      obtain ⟨j, hj⟩ := List.getElem?_of_mem hb
      refine hall j b ?_ hj
      have := (List.getElem?_eq_some_iff.1 hj).1
      simp only [Array.length_toList] at this
      have e : s.data.size = s.size := rfl
      omega
    · simpa using hT
  | succ k ih =>
    intro i s' w a hk hi hall R
    rw [rounds_succ]
    have hlt : i < s.size := by omega
    obtain ⟨b, hb⟩ := byte_lt hlt
    have h1 := lss_ok Tryz.prog 3 .i64 i s.size true (by simp; omega)
    have h2 := idx_ok s i b hb
    by_cases c1 : b.toNat < 33
    · refine wp_run C0_ok (round25a s i b.toNat) (.cons (lss_ok _ _ _ _ _ _ (by simp; omega)) (.cons h2 (.cons h1 .nil))) R fun s2 w2 a2 T hT R2 => ?_
      exact .inr ⟨rfl, all_false hb (by simp [okB]; omega), s2, R2.keep [(2, .lit (.bool false))] (by simpa using hT)⟩
    · have h3 := lss_ok Tryz.prog 5 .u8 b.toNat 33 false (by simp; omega)
      by_cases c2 : b.toNat > 126
      · refine wp_run C0_ok (round25b s i b.toNat) (.cons (gtr_ok _ _ _ _ _ _ (by simp; omega)) (.cons h2 (.cons h3 (.cons h2 (.cons h1 .nil))))) R fun s2 w2 a2 T hT R2 => ?_
        exact .inr ⟨rfl, all_false hb (by simp [okB]; omega), s2, R2.keep [(2, .lit (.bool false))] (by simpa using hT)⟩
      · refine wp_run C0_ok (round25c s i b.toNat) (.cons (add_ok _ _ _ _ _ (IntWalk.i64_in _ (by omega))) (.cons (gtr_ok _ _ _ _ _ _ (by simp; omega)) (.cons h2 (.cons h3 (.cons h2 (.cons h1 .nil)))))) R fun s2 w2 a2 T hT R2 => ?_
        refine ih (i + 1) s2 w2 a2 (by omega) (by omega) (fun j c hj hc => ?_) (R2.keep [(0, .lit (.string s)), (5, .lit (.int .i64 s.size)), (6, .lit (.int .i64 ((i + 1 : Nat) : Int)))] (by simpa using hT))
        by_cases e : j = i
        · subst e
          rw [hb] at hc
          injection hc with hc
          subst hc
          simp [okB]; omega
        · exact hall j c (by omega) hc

/-- Behind the loop. -/
theorem tail25 (s : ByteArray) (t1 t2 : Bool) : hout (hexec C0 20 none 28 (sndC (sndC B25)) ⟨mkT [(0, .lit (.string s))], .empty, 0⟩ (bif t1 then [(2, .lit (.bool true)), (3, .lit (.bool t2))] else [(2, .lit (.bool false))]) []) [2] = some (.ret, [.lit (.bool (t1 && t2))], .empty, 0, [],
    (bif t1 then [binV Tryz.prog .leq 3 (.lit (.int .i64 s.size)) (.lit (.int .i64 24)) = some (.lit (.bool t2)), binV Tryz.prog .geq 3 (.lit (.int .i64 s.size)) (.lit (.int .i64 1)) = some (.lit (.bool true))] else [binV Tryz.prog .geq 3 (.lit (.int .i64 s.size)) (.lit (.int .i64 1)) = some (.lit (.bool false))])) := by
  cases t1
  · kernel_rfl
  · cases t2 <;> kernel_rfl
/-- Ahead of it. -/
theorem head25 (s : ByteArray) : hout (hexec C0 20 none 28 (fstC B25) ⟨initT [.lit (.string s)] 0 .nil, .empty, 0⟩ [] []) [0] = some (.normal, [.lit (.string s)], .empty, 0, [], []) := by kernel_rfl
theorem head25' (s : ByteArray) : hout (hexec C0 20 none 28 (fstC (fstC (sndC B25))) ⟨mkT [(0, .lit (.string s))], .empty, 0⟩ [] []) [0, 5, 6] = some (.normal, [.lit (.string s), .lit (.int .i64 s.size), .lit (.int .i64 0)], .empty, 0, [], []) := by kernel_rfl

theorem may25 : Contract C0 13 mayF := by
  refine contract_flat (fn := Tryz.f13) (body := .seq (fstC B25) (.seq (.seq (fstC (fstC (sndC B25))) (.block 0 (.loop L25))) (sndC (sndC B25)))) Tryz.func13 (by kernel_rfl) (by decide +kernel) ?_ ?_
  · intro vs v h
    unfold mayF at h
    split at h
    · split at h
      · injection h with h; exact ⟨_, h.symm⟩
      · cases h
    · cases h
  · intro vs v w a h R
    unfold mayF at h
    split at h
    · rename_i s
      split at h
      · rename_i hs
        injection h with h
        subst h
        have e28 : max [V.lit (.string s)].length Tryz.f13.ntmps = 28 := by rw [Tryz.ntmps13]; rfl
        rw [e28] at R ⊢
        refine wp_seq (wp_run C0_ok (head25 s) .nil R fun s1 w1 a1 T1 hT1 R1 => ?_)
        have R1 := R1.keep [(0, .lit (.string s))] (by simpa using hT1)
        refine wp_seq (wp_seq (wp_run C0_ok (head25' s) .nil R1 fun s2 w2 a2 T2 hT2 R2 => ?_))
        have R2 := R2.keep [(0, .lit (.string s)), (5, .lit (.int .i64 s.size)), (6, .lit (.int .i64 (0 : Nat)))] (by simpa using hT2)
        refine wp_block (wp_mono (wp_loop_rounds _ (loop25 s hs s.size 0 s2 w2 a2 (by omega) (by omega) (fun j b hj => by omega) R2)) ?_)
        intro x a3 w3 hq
        rcases hq with ⟨rfl, hall, s3, R3⟩ | ⟨rfl, hall, s3, R3⟩
        · refine wp_run C0_ok (tail25 s (decide (1 ≤ s.size)) (decide (s.size ≤ 24))) ?_ R3 fun s4 w4 a4 T4 hT4 R4 => ?_
          · by_cases c1 : 1 ≤ s.size
            · simp only [c1, decide_true, cond_true]
              exact .cons (leq_ok _ _ _ _ _ _ (by simp; omega)) (.cons (geq_ok _ _ _ _ _ _ (by simp; omega)) .nil)
            · simp only [c1, decide_false, cond_false]
              exact .cons (geq_ok _ _ _ _ _ _ (by simp; omega)) .nil
          · refine ⟨.inr rfl, s4, _, [.lit (.bool (mayName s))], R4, ?_, rfl⟩
            have e : tget T4 2 = .lit (.bool (decide (1 ≤ s.size) && decide (s.size ≤ 24))) := by simpa using hT4
            have e2 : Tryz.f13.results.toList = [.tmp 2] := by kernel_rfl
            rw [e2]
            simp [loadRes, e, mayName, hall]
        · refine ⟨.inr rfl, s3, _, [.lit (.bool (mayName s))], R3, ?_, rfl⟩
          have e2 : Tryz.f13.results.toList = [.tmp 2] := by kernel_rfl
          have e : tget (mkT [(2, .lit (.bool false))]) 2 = .lit (.bool false) := by kernel_rfl
          rw [e2]
          simp [loadRes, e, mayName, hall]
      · cases h
    · cases h

end Go.Proofs.YteifcnkjjigddaaGreatDoor
