/- Operators, addresses, cuts and lengths do in the model what they do on own values. No condition. -/
import Derived.Test.YtjlphacnmonfnaaGreatDoorTwPure2
set_option linter.unusedVariables false
set_option linter.unusedSimpArgs false
namespace Go.Tw

section
variable {P : Program} {s : Nat → Option Nat} {d : Nat → Prop} {pr : Nat → Prop} {w : World}

theorem eqGuard_int (op : BinOp) (t : TypeId) (ox oy : Operand) (k k' : IntKind) (a b : Int) : (eqGuard op t ox oy (.int k a) (.int k' b)).run P w = .ok () w := by
  cases op <;> simp [eqGuard]
theorem eqGuard_str (op : BinOp) (t : TypeId) (ox oy : Operand) (a b : ByteArray) : (eqGuard op t ox oy (.string a) (.string b)).run P w = .ok () w := by
  cases op <;> simp [eqGuard]

theorem intBin_ok {op : BinOp} {t : TypeId} {k : IntKind} {a b : Int} {v : Value} (h1 : op ≠ .shl) (h2 : op ≠ .shr) (h : intBin op k a b = some v) : (binOp op t (.int k a) (.int k b)).run P w = .ok v w := by
  cases op
  case shl => exact absurd rfl h1
  case shr => exact absurd rfl h2
  case quo =>
    simp only [intBin] at h
    split at h
    · cases h
    · rename_i hb; injection h with h; subst h; simp [binOp, Op.intDiv, hb]
  case rem =>
    simp only [intBin] at h
    split at h
    · cases h
    · rename_i hb; injection h with h; subst h; simp [binOp, Op.intDiv, hb]
  all_goals
    simp only [intBin, Option.some.injEq] at h
    subst h
    simp [binOp, Op.intArith, Op.intBits, Op.intCmp]

theorem shift_ok {op : BinOp} {t : TypeId} {k k' : IntKind} {a b : Int} {v : Value} (ho : op = .shl ∨ op = .shr) (h : shiftBin op k a b = some v) : (binOp op t (.int k a) (.int k' b)).run P w = .ok v w := by
  simp only [shiftBin] at h
  split at h
  · cases h
  · rename_i hb
    rcases ho with rfl | rfl
    · simp only [Option.some.injEq] at h; subst h; simp [binOp, Op.shift, hb]
    · simp only [Option.some.injEq] at h; subst h; simp [binOp, Op.shift, hb]

theorem strBin_ok {op : BinOp} {t : TypeId} {a b : ByteArray} {v : Value} (h : strBin op a b = some v) : (binOp op t (.string a) (.string b)).run P w = .ok v w := by
  cases op
  case add =>
    simp only [strBin] at h
    split at h
    · rename_i hl
      injection h with h; subst h
      have hle : ¬ (((a.size + b.size : Nat) : Int) > IntKind.i64.max) := by
        have : IntKind.i64.max = 9223372036854775807 := by decide
        rw [this]; omega
      simp only [binOp, Op.stringOp]
      rw [if_neg hle]
      rfl
    · cases h
  all_goals
    simp only [strBin] at h
    first
      | (cases h; done)
      | (injection h with h; subst h; simp [binOp, Op.stringOp, ByteArray.toList_eq, bytes])

theorem cls_ok {v : V} {c : Value} (h : VR (szP P) s d pr w v c) (h9 : cls v ≠ 99) : tagOf c = cls v := by
  cases v <;> simp only [VR] at h
  case any => exact absurd rfl h9
  case lit => subst h; rfl
  case ptr => obtain ⟨x, rfl, _⟩ := h; rfl
  case gptr => subst h; rfl
  case sl => obtain ⟨x, cap', rfl, _⟩ := h; rfl
  case zs => obtain ⟨x, rfl⟩ := h; rfl
  case void => obtain ⟨x, cap', rfl⟩ := h; rfl
  case mp => obtain ⟨x, rfl, _⟩ := h; rfl
  case ps => obtain ⟨g, off, cap, cs, rfl, _⟩ := h; rfl
  case pp => obtain ⟨g, off, cs, rfl, _⟩ := h; rfl
  case fn => obtain ⟨x, y, rfl, _⟩ := h; rfl
  case yld => obtain ⟨x, rfl, _⟩ := h; rfl
  case ifc => obtain ⟨x, rfl, _⟩ := h; rfl
  case agg => obtain ⟨x, rfl, _⟩ := h; rfl
  case tup => obtain ⟨x, rfl, _⟩ := h; rfl

theorem eqGuard_tags (op : BinOp) (t : TypeId) (ox oy : Operand) (cx cy : Value) (h1 : ¬ (tagOf cx = 13 ∧ tagOf cy = 13)) (h2 : ¬ (tagOf cx = 12 ∧ tagOf cy = 12)) : (eqGuard op t ox oy cx cy).run P w = .ok () w := by
  have e : (match cx, cy with
      | .nilIface, .nilIface => (do
        if (ox matches .const _) || (oy matches .const _) then return
        if ← Op.eqGuardIn Op.maxDepth t cx cy then unsupported (.noEntry "binop/eql: two nil values of an interface type with methods, neither of them the literal nil") : Sem Unit)
      | .agg _, .agg _ => do
        if !(← program).eqGuardType (← program).depth t then return
        if ← Op.eqGuardIn Op.maxDepth t cx cy then unsupported (.noEntry "binop/eql: two nil values of an interface type with methods, in a part of a struct or an array")
      | _, _ => pure ()) = pure () := by
    split
    · exact absurd ⟨rfl, rfl⟩ h2
    · exact absurd ⟨rfl, rfl⟩ h1
    · rfl
  cases op <;> first
    | (simp [eqGuard]; done)
    | (simp only [eqGuard]; (try simp only [Bool.not_true, Bool.false_eq_true, if_false]); split <;> first | rfl | exact absurd ⟨rfl, rfl⟩ h1 | exact absurd ⟨rfl, rfl⟩ h2)

theorem binOp_eql (t : TypeId) (cx cy : Value) (h : ¬ (tagOf cx = tagOf cy ∧ (tagOf cx = 1 ∨ tagOf cx = 2 ∨ tagOf cx = 3 ∨ tagOf cx = 4))) :
    binOp .eql t cx cy = (do pure (.bool (← Op.equal t cx cy)) : Sem Value) ∧ binOp .neq t cx cy = (do pure (.bool (!(← Op.equal t cx cy))) : Sem Value) := by
  cases cx <;> cases cy <;> first
    | (exact ⟨rfl, rfl⟩)
    | (exfalso; exact h (by simp [tagOf]))

theorem eqTop_ok {t : TypeId} {x y : V} {r : Bool} {cx cy : Value} (h : eqTop P t x y = some r) (hx : VR (szP P) s d pr w x cx) (hy : VR (szP P) s d pr w y cy) (op : BinOp) (ox oy : Operand) :
    (eqGuard op t ox oy cx cy).run P w = .ok () w ∧ (Op.equal t cx cy).run P w = .ok r w ∧ ¬ (tagOf cx = tagOf cy ∧ (tagOf cx = 1 ∨ tagOf cx = 2 ∨ tagOf cx = 3 ∨ tagOf cx = 4)) := by
  have key : eqV P 9 t x y = some r → (Op.equal t cx cy).run P w = .ok r w := fun h => eqV_ok 9 t x y r cx cy h hx hy Op.maxDepth (by decide)
  unfold eqTop at h
  split at h
  · cases h
  rename_i h9
  have tx := cls_ok hx (fun h => h9 (.inl h))
  have ty := cls_ok hy (fun h => h9 (.inr h))
  rw [← tx, ← ty] at h
  split at h
  · rename_i h13
    split at h
    · cases h
    · rename_i hg
      refine ⟨?_, key h, by omega⟩
      have e1 : ∃ ax, cx = .agg ax := by
        have := h13.1
        cases cx <;> first | exact ⟨_, rfl⟩ | (exfalso; simp [tagOf] at this; done)
      have e2 : ∃ ay, cy = .agg ay := by
        have := h13.2
        cases cy <;> first | exact ⟨_, rfl⟩ | (exfalso; simp [tagOf] at this; done)
      obtain ⟨ax, rfl⟩ := e1
      obtain ⟨ay, rfl⟩ := e2
      exact run_eqGuard_agg w op t ox oy ax ay (by simpa using hg)
  · rename_i h13
    split at h
    · cases h
    · rename_i h12
      split at h
      · cases h
      · rename_i h4
        exact ⟨eqGuard_tags op t ox oy cx cy h13 h12, key h, h4⟩

theorem bin_ok {op : BinOp} {t : TypeId} {x y v : V} {cx cy : Value} (h : binV P op t x y = some v) (hx : VR (szP P) s d pr w x cx) (hy : VR (szP P) s d pr w y cy) (ox oy : Operand) :
    ∃ c, (eqGuard op t ox oy cx cy).run P w = .ok () w ∧ (binOp op t cx cy).run P w = .ok c w ∧ VR (szP P) s d pr w v c := by
  unfold binV at h
  split at h
  · rename_i k a k' b
    simp only [VR] at hx hy
    subst hx; subst hy
    obtain ⟨c, hc, rfl⟩ := Option.map_eq_some_iff.1 h
    refine ⟨c, eqGuard_int .., ?_, by simp [VR]⟩
    split at hc
    · exact shift_ok (.inl rfl) hc
    · exact shift_ok (.inr rfl) hc
    · rename_i h1 h2
      split at hc
      · rename_i hk; subst hk
        exact intBin_ok (fun e => h1 e) (fun e => h2 e) hc
      · cases hc
  · rename_i a b
    simp only [VR] at hx hy
    subst hx; subst hy
    obtain ⟨c, hc, rfl⟩ := Option.map_eq_some_iff.1 h
    exact ⟨c, eqGuard_str .., strBin_ok hc, by simp [VR]⟩
  · split at h
    · obtain ⟨r, hr, rfl⟩ := Option.map_eq_some_iff.1 h
      obtain ⟨e1, e2, e3⟩ := eqTop_ok hr hx hy .eql ox oy
      refine ⟨.bool r, e1, ?_, by simp [VR]⟩
      rw [(binOp_eql t cx cy e3).1]
      simp [e2]
    · obtain ⟨r, hr, rfl⟩ := Option.map_eq_some_iff.1 h
      obtain ⟨e1, e2, e3⟩ := eqTop_ok hr hx hy .neq ox oy
      refine ⟨.bool !r, e1, ?_, by simp [VR]⟩
      rw [(binOp_eql t cx cy e3).2]
      simp [e2]
    · cases h

theorem un_ok {op : UnOp} {x v : V} {cx : Value} (h : unV op x = some v) (hx : VR (szP P) s d pr w x cx) : ∃ c, (Op.unary op cx).run P w = .ok c w ∧ VR (szP P) s d pr w v c := by
  unfold unV at h
  split at h <;> first
    | (cases h; done)
    | (simp only [VR] at hx; subst hx; injection h with h; subst h; exact ⟨_, rfl, rfl⟩)

/-- A pointer that is moved: the address is moved. -/
theorem ptrAdd_ok {x v : V} {n : Nat} {cx : Value} (h : ptrAdd x n = some v) (hx : VR (szP P) s d pr w x cx) : ∃ a : Addr, cx = .pointer (some a) ∧ VR (szP P) s d pr w v (.pointer (some (a.add n))) := by
  unfold ptrAdd at h
  split at h
  · rename_i b off
    injection h with h; subst h
    obtain ⟨q, rfl, hq⟩ := hx
    refine ⟨q, rfl, _, rfl, ?_⟩
    rcases hq with hq | ⟨g, h1, rfl⟩
    · exact .inl hq
    · refine .inr ⟨g, h1, ?_⟩
      unfold Addr.add
      split <;> simp_all
  · rename_i cells
    injection h with h; subst h
    obtain ⟨g, off, cs, rfl, hg, hc, ha⟩ := hx
    refine ⟨_, rfl, g, off + n, cs.drop n, ?_, hg, hc.drop n, ?_⟩
    · unfold Addr.add
      split <;> simp_all
    · intro i c hi
      have := ha (n + i) c (by simpa [List.getElem?_drop] using hi)
      simpa [Nat.add_assoc] using this
  · cases h

theorem fieldAddr_ok {t : TypeId} {x v : V} {i : Nat} {cx : Value} (h : fieldAddrV P t x i = some v) (hx : VR (szP P) s d pr w x cx) : ∃ c, (Instr.fieldAt t cx i).run P w = .ok c w ∧ VR (szP P) s d pr w v c := by
  unfold fieldAddrV at h
  split at h
  · rename_i fields hu
    simp only [Option.bind_eq_bind, Option.bind_eq_some_iff] at h
    obtain ⟨f, hf, n, hn, h⟩ := h
    split at h
    · cases h
    · rename_i h0
      obtain ⟨a, rfl, hv⟩ := ptrAdd_ok h hx
      exact ⟨_, by simp [Instr.fieldAt, run_und hu, hf, Instr.sureAddr, fieldPlace, run_sz hn, h0], hv⟩
  · cases h

theorem field_ok {t : TypeId} {x v : V} {i : Nat} {cx : Value} (h : fieldV P t x i = some v) (hx : VR (szP P) s d pr w x cx) : ∃ c, (Instr.field t cx i).run P w = .ok c w ∧ VR (szP P) s d pr w v c := by
  unfold fieldV at h
  split at h
  · rename_i fields cs hu
    simp only [Option.bind_eq_bind, Option.bind_eq_some_iff] at h
    obtain ⟨f, hf, h⟩ := h
    obtain ⟨xs, rfl, hx⟩ := hx
    obtain ⟨c, h1, h2⟩ := part_ok (w := w) h hx
    exact ⟨c, by simp [Instr.field, run_und hu, hf, asAgg, h1], h2⟩
  · cases h

theorem drop_holds {g off n : Nat} {cs : List Value} (ha : HoldsAt w ⟨g, off, none⟩ cs) : HoldsAt w ⟨g, off + n, none⟩ (cs.drop n) := by
  intro i c hi
  have := ha (n + i) c (by simpa [List.getElem?_drop] using hi)
  simpa [Nat.add_assoc] using this
theorem take_holds {a : Addr} {n : Nat} {cs : List Value} (ha : HoldsAt w a cs) : HoldsAt w a (cs.take n) := by
  intro i c hi
  refine ha i c ?_
  rw [List.getElem?_take] at hi
  split at hi
  · exact hi
  · cases hi
theorem add_eq (g off n : Nat) : (⟨g, off, none⟩ : Addr).add n = ⟨g, off + n, none⟩ := by
  unfold Addr.add; split <;> simp_all

theorem indexAddr_ok {t : TypeId} {x ix v : V} {cx ci : Value} (h : indexAddrV P t x ix = some v) (hx : VR (szP P) s d pr w x cx) (hi : VR (szP P) s d pr w ix ci) : ∃ c, (Instr.indexAt t cx ci).run P w = .ok c w ∧ VR (szP P) s d pr w v c := by
  unfold indexAddrV at h
  split at h
  · rename_i k i
    simp only [VR] at hi
    subst hi
    split at h
    · rename_i len elem hu
      simp only [Option.bind_eq_bind, Option.bind_eq_some_iff] at h
      obtain ⟨n, hn, h⟩ := h
      split at h
      · rename_i hb
        obtain ⟨a, rfl, hv⟩ := ptrAdd_ok h hx
        exact ⟨_, by simp [Instr.indexAt, asIntOf, run_und hu, Instr.sureAddr, hb, run_sz hn], hv⟩
      · cases h
    · rename_i elem hu
      simp only [Option.bind_eq_bind, Option.bind_eq_some_iff] at h
      obtain ⟨n, hn, h⟩ := h
      split at h
      · rename_i b off len cap opn
        split at h
        · rename_i hb
          injection h with h; subst h
          obtain ⟨q, cap', rfl, _, _, hq⟩ := hx
          refine ⟨.pointer (some (q.add (i.toNat * n))), by simp [Instr.indexAt, asIntOf, run_und hu, hb, run_sz hn], _, rfl, ?_⟩
          rcases hq with hq | ⟨g, h1, rfl, _⟩
          · exact .inl hq
          · exact .inr ⟨g, h1, add_eq ..⟩
        · cases h
      · rename_i cells len
        split at h
        · rename_i hb
          injection h with h; subst h
          obtain ⟨g, off, cap, cs, rfl, hl, hg, hc, ha⟩ := hx
          refine ⟨.pointer (some (Addr.add ⟨g, off, none⟩ (i.toNat * n))), by simp [Instr.indexAt, asIntOf, run_und hu, hb, run_sz hn], g, _, _, by rw [add_eq], hg, hc.drop (i.toNat * n), drop_holds ha⟩
        · cases h
      · cases h
    · cases h
  · cases h

theorem index_ok {t : TypeId} {x ix v : V} {cx ci : Value} (h : indexV P t x ix = some v) (hx : VR (szP P) s d pr w x cx) (hi : VR (szP P) s d pr w ix ci) : ∃ c, (Instr.index t cx ci).run P w = .ok c w ∧ VR (szP P) s d pr w v c := by
  unfold indexV at h
  split at h
  · rename_i k i
    simp only [VR] at hi
    subst hi
    split at h
    · rename_i len elem cs hu
      simp only [Option.bind_eq_bind, Option.bind_eq_some_iff] at h
      obtain ⟨n, hn, h⟩ := h
      split at h
      · rename_i hb
        obtain ⟨xs, rfl, hx⟩ := hx
        obtain ⟨c, h1, h2⟩ := part_ok (w := w) h hx
        exact ⟨c, by simp [Instr.index, asIntOf, run_und hu, hb, run_sz hn, h1], h2⟩
      · cases h
    · rename_i st hu
      split at h
      · rename_i h0
        simp only [VR] at hx
        subst hx
        obtain ⟨b, hb, rfl⟩ := Option.map_eq_some_iff.1 h
        have hb' : st[i.toNat]? = some b := by
          rw [Array.getElem?_toList] at hb
          have hlt : i.toNat < st.data.size := (Array.getElem?_eq_some_iff.1 hb).1
          have : st[i.toNat]? = some (st[i.toNat]'hlt) := by
            exact getElem?_pos st i.toNat hlt
          rw [this]
          have h2 := (Array.getElem?_eq_some_iff.1 hb).2
          exact congrArg some h2
        exact ⟨.int .u8 b.toNat, by simp [Instr.index, asIntOf, run_und hu, h0, hb'], by simp [VR]⟩
      · cases h
    · cases h
  · cases h

theorem extract_ok {x v : V} {i : Nat} {cx : Value} (h : extractV x i = some v) (hx : VR (szP P) s d pr w x cx) : ∃ c, (Instr.extract cx i).run P w = .ok c w ∧ VR (szP P) s d pr w v c := by
  unfold extractV at h
  split at h
  · obtain ⟨xs, rfl, hx⟩ := hx
    obtain ⟨c, h1, h2⟩ := hx.get h
    have h1' : xs[i]? = some c := by simpa using h1
    exact ⟨c, by simp [Instr.extract, h1'], h2⟩
  · cases h

theorem max2_ok {x y v : V} {cx cy : Value} (h : max2V x y = some v) (hx : VR (szP P) s d pr w x cx) (hy : VR (szP P) s d pr w y cy) : ∃ c, (Builtin.max2 cx cy).run P w = .ok c w ∧ VR (szP P) s d pr w v c := by
  unfold max2V at h
  split at h
  · simp only [VR] at hx hy; subst hx; subst hy; injection h with h; subst h
    exact ⟨_, by simp [Builtin.max2]; rfl, by simp [VR]⟩
  · cases h
theorem min2_ok {x y v : V} {cx cy : Value} (h : min2V x y = some v) (hx : VR (szP P) s d pr w x cx) (hy : VR (szP P) s d pr w y cy) : ∃ c, (Builtin.min2 cx cy).run P w = .ok c w ∧ VR (szP P) s d pr w v c := by
  unfold min2V at h
  split at h
  · simp only [VR] at hx hy; subst hx; subst hy; injection h with h; subst h
    exact ⟨_, by simp [Builtin.min2]; rfl, by simp [VR]⟩
  · cases h
theorem fold_ok {f : V → V → Option V} {g : Value → Value → Sem Value} (hf : ∀ x y v cx cy, f x y = some v → VR (szP P) s d pr w x cx → VR (szP P) s d pr w y cy → ∃ c, (g cx cy).run P w = .ok c w ∧ VR (szP P) s d pr w v c) :
    ∀ (ys : List V) (cys : List Value) (x v : V) (cx : Value), foldV f x ys = some v → VR (szP P) s d pr w x cx → VRs (szP P) s d pr w ys cys → ∃ c, (cys.foldlM g cx).run P w = .ok c w ∧ VR (szP P) s d pr w v c
  | [], cys, x, v, cx, h, hx, hy => by
    simp only [foldV, Option.some.injEq] at h
    simp only [VRs] at hy
    subst h; subst hy
    exact ⟨cx, by simp, hx⟩
  | y :: ys, cys, x, v, cx, h, hx, hy => by
    obtain ⟨cy, cys', rfl, h1, hy⟩ := hy
    simp only [foldV, Option.bind_eq_bind, Option.bind_eq_some_iff] at h
    obtain ⟨z, hz, h⟩ := h
    obtain ⟨cz, hz1, hz2⟩ := hf _ _ _ _ _ hz hx h1
    obtain ⟨c, hc1, hc2⟩ := fold_ok hf ys cys' z v cz h hz2 hy
    exact ⟨c, by simp [List.foldlM_cons, hz1, hc1], hc2⟩
end
end Go.Tw
