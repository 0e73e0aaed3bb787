/- Law 24: which names may be, as the reference says. -/
import Derived.Test.YteifcnkjjigddaaGreatDoorL24May
set_option linter.unusedVariables false
set_option maxRecDepth 100000
namespace Go.Proofs.YteifcnkjjigddaaGreatDoor
open Go Go.Tw

def stM (s : ByteArray) (i : Int) : St := ⟨mkT [(0, .lit (.string s)), (3, .lit (.int .i64 i))], .empty, 0⟩
noncomputable def B26 : Code := bodyOf Tryz.f14
noncomputable def L26 : Code := fstC (fstC (sndC (fstC (sndC B26))))

theorem round26a (s : ByteArray) (i : Int) (c : Int) : hout (hexec C0 20 none 28 L26 (stM s i) [(3, .lit (.bool true)), (2, .lit (.int .u8 c)), (0, .lit (.bool true))] []) [2] = some (.ret, [.lit (.bool false)], .empty, 0, [],
    [binV Tryz.prog .lss 5 (.lit (.int .u8 c)) (.lit (.int .u8 33)) = some (.lit (.bool true)), indexV Tryz.prog 9 (.lit (.string s)) (.lit (.int .i64 i)) = some (.lit (.int .u8 c)), binV Tryz.prog .lss 3 (.lit (.int .i64 i)) (.lit (.int .i64 s.size)) = some (.lit (.bool true))]) := by kernel_rfl
theorem round26b (s : ByteArray) (i : Int) (c : Int) : hout (hexec C0 20 none 28 L26 (stM s i) [(3, .lit (.bool true)), (2, .lit (.int .u8 c)), (0, .lit (.bool false)), (3, .lit (.int .u8 c)), (0, .lit (.bool true))] []) [2] = some (.ret, [.lit (.bool false)], .empty, 0, [],
    [binV Tryz.prog .gtr 5 (.lit (.int .u8 c)) (.lit (.int .u8 126)) = some (.lit (.bool true)), indexV Tryz.prog 9 (.lit (.string s)) (.lit (.int .i64 i)) = some (.lit (.int .u8 c)), binV Tryz.prog .lss 5 (.lit (.int .u8 c)) (.lit (.int .u8 33)) = some (.lit (.bool false)), indexV Tryz.prog 9 (.lit (.string s)) (.lit (.int .i64 i)) = some (.lit (.int .u8 c)), binV Tryz.prog .lss 3 (.lit (.int .i64 i)) (.lit (.int .i64 s.size)) = some (.lit (.bool true))]) := by kernel_rfl
theorem round26c (s : ByteArray) (i : Int) (c : Int) : hout (hexec C0 20 none 28 L26 (stM s i) [(3, .lit (.bool true)), (2, .lit (.int .u8 c)), (0, .lit (.bool false)), (3, .lit (.int .u8 c)), (0, .lit (.bool false)), (2, .lit (.int .i64 (i + 1)))] []) [0, 3] = some (.normal, [.lit (.string s), .lit (.int .i64 (i + 1))], .empty, 0, [],
    [binV Tryz.prog .add 3 (.lit (.int .i64 i)) (.lit (.int .i64 1)) = some (.lit (.int .i64 (i + 1))), binV Tryz.prog .gtr 5 (.lit (.int .u8 c)) (.lit (.int .u8 126)) = some (.lit (.bool false)), indexV Tryz.prog 9 (.lit (.string s)) (.lit (.int .i64 i)) = some (.lit (.int .u8 c)), binV Tryz.prog .lss 5 (.lit (.int .u8 c)) (.lit (.int .u8 33)) = some (.lit (.bool false)), indexV Tryz.prog 9 (.lit (.string s)) (.lit (.int .i64 i)) = some (.lit (.int .u8 c)), binV Tryz.prog .lss 3 (.lit (.int .i64 i)) (.lit (.int .i64 s.size)) = some (.lit (.bool true))]) := by kernel_rfl
theorem round26d (s : ByteArray) (i : Int) : hout (hexec C0 20 none 28 L26 (stM s i) [(3, .lit (.bool false))] []) [0] = some (.exit 0, [.lit (.string s)], .empty, 0, [],
    [binV Tryz.prog .lss 3 (.lit (.int .i64 i)) (.lit (.int .i64 s.size)) = some (.lit (.bool false))]) := by kernel_rfl

theorem loop26 {o : Orig} (s : ByteArray) (hs : s.size ≤ 9223372036854775807) : ∀ (k i : Nat) (s' : Nat → Option Nat) (w : World) (a : Act), s.size - i = k → i ≤ s.size → (∀ j b, j < i → s.data.toList[j]? = some b → okB b = true) →
    SR C0 (fun _ => False) 28 none none o s' w (stM s i) a → Code.rounds Tryz.prog L26 (LoopQ o s) (k + 1) a w := by
  intro k
  induction k with
  | zero =>
    intro i s' w a hk hi hall R
    rw [rounds_succ]
    refine wp_run C0_ok (round26d s i) (.cons (lss_ok _ _ _ _ _ _ (by simp; omega)) .nil) R fun s2 w2 a2 T hT R2 => ?_
    refine .inl ⟨rfl, ?_, s2, R2.keep [(0, .lit (.string s))] ?_⟩
    · rw [List.all_eq_true]
      intro b hb
      obtain ⟨j, hj⟩ := List.getElem?_of_mem hb
      refine hall j b ?_ hj
      have := (List.getElem?_eq_some_iff.1 hj).1
      simp only [Array.length_toList] at this
      have e : s.data.size = s.size := rfl
      omega
    · simpa using hT
  | succ k ih =>
    intro i s' w a hk hi hall R
    rw [rounds_succ]
    have hlt : i < s.size := by omega
    obtain ⟨b, hb⟩ := byte_lt hlt
    have h1 := lss_ok Tryz.prog 3 .i64 i s.size true (by simp; omega)
    have h2 := idx_ok s i b hb
    by_cases c1 : b.toNat < 33
    · refine wp_run C0_ok (round26a s i b.toNat) (.cons (lss_ok _ _ _ _ _ _ (by simp; omega)) (.cons h2 (.cons h1 .nil))) R fun s2 w2 a2 T hT R2 => ?_
      exact .inr ⟨rfl, all_false hb (by simp [okB]; omega), s2, R2.keep [(2, .lit (.bool false))] (by simpa using hT)⟩
    · have h3 := lss_ok Tryz.prog 5 .u8 b.toNat 33 false (by simp; omega)
      by_cases c2 : b.toNat > 126
      · refine wp_run C0_ok (round26b s i b.toNat) (.cons (gtr_ok _ _ _ _ _ _ (by simp; omega)) (.cons h2 (.cons h3 (.cons h2 (.cons h1 .nil))))) R fun s2 w2 a2 T hT R2 => ?_
        exact .inr ⟨rfl, all_false hb (by simp [okB]; omega), s2, R2.keep [(2, .lit (.bool false))] (by simpa using hT)⟩
      · refine wp_run C0_ok (round26c s i b.toNat) (.cons (add_ok _ _ _ _ _ (IntWalk.i64_in _ (by omega))) (.cons (gtr_ok _ _ _ _ _ _ (by simp; omega)) (.cons h2 (.cons h3 (.cons h2 (.cons h1 .nil)))))) R fun s2 w2 a2 T hT R2 => ?_
        refine ih (i + 1) s2 w2 a2 (by omega) (by omega) (fun j c hj hc => ?_) (R2.keep [(0, .lit (.string s)), (3, .lit (.int .i64 ((i + 1 : Nat) : Int)))] (by simpa using hT))
        by_cases e : j = i
        · subst e
          rw [hb] at hc
          injection hc with hc
          subst hc
          simp [okB]; omega
        · exact hall j c (by omega) hc

theorem tail26 (s : ByteArray) (t1 t2 : Bool) : hout (hexec C0 20 none 28 (sndC (sndC B26)) ⟨mkT [(0, .lit (.string s))], .empty, 0⟩ (bif t1 then [(2, .lit (.bool true)), (3, .lit (.bool t2))] else [(2, .lit (.bool false))]) []) [2] = some (.ret, [.lit (.bool (t1 && t2))], .empty, 0, [],
    (bif t1 then [binV Tryz.prog .leq 3 (.lit (.int .i64 s.size)) (.lit (.int .i64 24)) = some (.lit (.bool t2)), binV Tryz.prog .gtr 3 (.lit (.int .i64 s.size)) (.lit (.int .i64 0)) = some (.lit (.bool true))] else [binV Tryz.prog .gtr 3 (.lit (.int .i64 s.size)) (.lit (.int .i64 0)) = some (.lit (.bool false))])) := by
  cases t1
  · kernel_rfl
  · cases t2 <;> kernel_rfl
theorem head26 (s : ByteArray) : hout (hexec C0 20 none 28 (fstC B26) ⟨initT [.lit (.string s)] 0 .nil, .empty, 0⟩ [] []) [0] = some (.normal, [.lit (.string s)], .empty, 0, [], []) := by kernel_rfl
theorem head26' (s : ByteArray) : hout (hexec C0 20 none 28 (fstC (fstC (sndC B26))) ⟨mkT [(0, .lit (.string s))], .empty, 0⟩ [] []) [0, 3] = some (.normal, [.lit (.string s), .lit (.int .i64 0)], .empty, 0, [], []) := by kernel_rfl

theorem may26 : Contract C0 14 mayF := by
  refine contract_flat (fn := Tryz.f14) (body := .seq (fstC B26) (.seq (.seq (fstC (fstC (sndC B26))) (.block 0 (.loop L26))) (sndC (sndC B26)))) Tryz.func14 (by kernel_rfl) (by decide +kernel) ?_ ?_
  · intro vs v h
    unfold mayF at h
    split at h
    · split at h
      · injection h with h; exact ⟨_, h.symm⟩
      · cases h
    · cases h
  · intro vs v w a h R
    unfold mayF at h
    split at h
    · rename_i s
      split at h
      · rename_i hs
        injection h with h
        subst h
        have e28 : max [V.lit (.string s)].length Tryz.f14.ntmps = 28 := by rw [Tryz.ntmps14]; rfl
        rw [e28] at R ⊢
        refine wp_seq (wp_run C0_ok (head26 s) .nil R fun s1 w1 a1 T1 hT1 R1 => ?_)
        have R1 := R1.keep [(0, .lit (.string s))] (by simpa using hT1)
        refine wp_seq (wp_seq (wp_run C0_ok (head26' s) .nil R1 fun s2 w2 a2 T2 hT2 R2 => ?_))
        have R2 := R2.keep [(0, .lit (.string s)), (3, .lit (.int .i64 (0 : Nat)))] (by simpa using hT2)
        refine wp_block (wp_mono (wp_loop_rounds _ (loop26 s hs s.size 0 s2 w2 a2 (by omega) (by omega) (fun j b hj => by omega) R2)) ?_)
        intro x a3 w3 hq
        rcases hq with ⟨rfl, hall, s3, R3⟩ | ⟨rfl, hall, s3, R3⟩
        · refine wp_run C0_ok (tail26 s (decide (1 ≤ s.size)) (decide (s.size ≤ 24))) ?_ R3 fun s4 w4 a4 T4 hT4 R4 => ?_
          · by_cases c1 : 1 ≤ s.size
            · simp only [c1, decide_true, cond_true]
              exact .cons (leq_ok _ _ _ _ _ _ (by simp; omega)) (.cons (gtr_ok _ _ _ _ _ _ (decide_eq_true (by omega))) .nil)
            · simp only [c1, decide_false, cond_false]
              exact .cons (gtr_ok _ _ _ _ _ _ (decide_eq_false (by omega))) .nil
          · refine ⟨.inr rfl, s4, _, [.lit (.bool (mayName s))], R4, ?_, rfl⟩
            have e : tget T4 2 = .lit (.bool (decide (1 ≤ s.size) && decide (s.size ≤ 24))) := by simpa using hT4
            have e2 : Tryz.f14.results.toList = [.tmp 2] := by kernel_rfl
            rw [e2]
            simp [loadRes, e, mayName, hall]
        · refine ⟨.inr rfl, s3, _, [.lit (.bool (mayName s))], R3, ?_, rfl⟩
          have e2 : Tryz.f14.results.toList = [.tmp 2] := by kernel_rfl
          have e : tget (mkT [(2, .lit (.bool false))]) 2 = .lit (.bool false) := by kernel_rfl
          rw [e2]
          simp [loadRes, e, mayName, hall]
      · cases h
    · cases h

end Go.Proofs.YteifcnkjjigddaaGreatDoor
