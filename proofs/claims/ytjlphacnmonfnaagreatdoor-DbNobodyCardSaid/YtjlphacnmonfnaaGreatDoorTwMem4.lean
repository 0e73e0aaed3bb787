/- Copies, clears, conversions, lengths and maps do in the model what they do on the own heap. No condition. -/
import Derived.Test.YtjlphacnmonfnaaGreatDoorTwMem3
set_option linter.unusedVariables false
set_option linter.unusedSimpArgs false
namespace Go.Tw

section
variable {P : PH} {s : Nat → Option Nat} {H : Heap} {w : World}

theorem min_eq' (a b : Nat) : Nat.min a b = min a b := rfl

theorem copy_ok (hr : HR P s H w) {t ty : TypeId} {x y : V} {cx cy : Value} {r : OR} (h : copyV P H t x y = some r) (hx : VH P s H w x cx) (hy : VH P s H w y cy) (ts : Array TypeId) (hts : ts[0]? = some t) :
    ValOK P s H w r ((Builtin.copy_ ts ty #[cx, cy]).run P w) := by
  unfold copyV at h
  split at h
  · rename_i elem hu
    simp only [Option.bind_eq_bind, Option.bind_eq_some_iff] at h
    obtain ⟨sz, hsz, d, hd, n0, hn0, new, hnew, h⟩ := h
    have hc0 := lenOf_ok (w := w) hn0 hy
    obtain ⟨arr, ha1, ha2⟩ := firstCells_ok hr hnew hy
    have hal := ha2.length
    have idle : ∀ base cap, cx = .slice base d cap → min n0 d = 0 → new = [] → r = ⟨.lit (.int .i64 (min n0 d : Nat)), H, H.n⟩ → ValOK P s H w r ((Builtin.copy_ ts ty #[cx, cy]).run P w) := by
      intro base cap e h0 hn er
      subst e; subst er; subst hn
      have harr : arr.toList = [] := by apply List.eq_nil_of_length_eq_zero; rw [hal]; rfl
      have he : arr = #[] := by apply Array.toList_inj.1; rw [harr]
      subst he
      refine ⟨s, _, w, ?_, rfl, hr, Ext.refl s H w⟩
      cases base <;> simp [Builtin.copy_, hts, run_und hu, hc0, run_sz hsz, min_eq', ha1, goInt, storeCells]
    have h00 : min n0 d = 0 → new = [] := by
      intro e
      rw [e] at hnew
      unfold cellsOf at hnew
      split at hnew <;> first
        | (split at hnew <;> first | (injection hnew with hnew; subst hnew; simp; done) | (cases hnew; done) | (split at hnew <;> first | (injection hnew with hnew; subst hnew; simp; done) | (cases hnew; done)))
        | (cases hnew; done)
    split at h
    · split at h
      · rename_i e
        injection h with h
        simp only [VH, VR] at hx
        simp only [lenOfV, Option.some.injEq] at hd
        subst hd
        exact idle none _ hx e (h00 e) h.symm
      · cases h
    · split at h
      · rename_i e
        injection h with h
        obtain ⟨a, hx⟩ := hx
        simp only [lenOfV, Option.some.injEq] at hd
        subst hd
        exact idle (some a) _ hx e (h00 e) h.symm
      · cases h
    · split at h
      · rename_i e
        injection h with h
        obtain ⟨a, c, hx⟩ := hx
        simp only [lenOfV, Option.some.injEq] at hd
        subst hd
        exact idle (some a) _ hx e (h00 e) h.symm
      · cases h
    · split at h
      · rename_i e
        injection h with h
        obtain ⟨g, off, cap, cs, hx, _⟩ := hx
        simp only [lenOfV, Option.some.injEq] at hd
        subst hd
        exact idle _ cap hx e (h00 e) h.symm
      · cases h
    · rename_i b off len cap opn
      split at h
      · rename_i cs e hg
        split at h
        · rename_i hone
          obtain ⟨c, hsp, h⟩ := Option.bind_eq_some_iff.1 h
          injection h with h
          subst h
          simp only [lenOfV, Option.some.injEq] at hd
          subst hd
          obtain ⟨q, cap', rfl, g2, g3, hq⟩ := hx
          obtain ⟨g, h1, rfl, hop⟩ := hr.live hg (by simp) hq
          obtain ⟨arr0, fr, h2, h3, h4, h5⟩ := hr.cells hg h1
          have hbn := (hr.lt h1).1
          have hmin : min b H.n = b := by omega
          obtain ⟨hl, _⟩ := splice_len hsp
          obtain ⟨arr', k1, k2, k3⟩ := storeCells_ok (P := P) (o := off) arr.toList 0 arr0 w h2 h4 (by rw [hal]; omega) (ones_ok hone ha2)
          have hB : BR P s H w (.cells c e) (.cells arr' e fr) := BR_splice hsp h3 ha2 h5 h4 (by simpa using k2) k3
          obtain ⟨m1, m2⟩ := write_block hr h1 h2 hB (shape_put h2 k3)
          refine ⟨s, _, _, ?_, rfl, m1, by rw [hmin]; exact m2⟩
          simp [Builtin.copy_, hts, run_und hu, hc0, run_sz hsz, min_eq', ha1, goInt, k1]
        · cases h
      · cases h
    · cases h
  · cases h

theorem zeros_all {zc : List V} (h : zc.all V.one = true) : ∀ n, (zerosV zc n).all V.one = true
  | 0 => rfl
  | n + 1 => by simp only [zerosV, List.all_append, h, Bool.true_and]; exact zeros_all h n

theorem clear_ok (hr : HR P s H w) {t ty : TypeId} {x : V} {cx : Value} {r : OR} (h : clearV P H t x = some r) (hx : VH P s H w x cx) (ts : Array TypeId) (hts : ts[0]? = some t) :
    ValOK P s H w r ((Builtin.clear_ ts ty #[cx]).run P w) := by
  unfold clearV at h
  split at h
  · rename_i elem hu
    simp only [Option.bind_eq_bind, Option.bind_eq_some_iff] at h
    obtain ⟨zc, hzc, h⟩ := h
    obtain ⟨i', z, hi', hz, hzv⟩ := zeroCells_ok (s := s) (w := w) (d := Dead H) (pr := Prot P s w) hzc
    have idle : ∀ base len cap, cx = .slice base len cap → (base = none ∨ len = 0) → r = ⟨undefV, H, H.n⟩ → ValOK P s H w r ((Builtin.clear_ ts ty #[cx]).run P w) := by
      intro base len cap e h0 er
      subst e; subst er
      refine ⟨s, .tuple #[], w, ?_, ⟨#[], rfl, by simp [VRs]⟩, hr, Ext.refl s H w⟩
      rcases h0 with rfl | rfl
      · simp [Builtin.clear_, hts, run_und hu]
      · cases base <;> simp [Builtin.clear_, hts, run_und hu]
    split at h
    · injection h with h; simp only [VH, VR] at hx; exact idle _ _ _ hx (.inl rfl) h.symm
    · injection h with h; obtain ⟨a, hx⟩ := hx; exact idle _ _ _ hx (.inr rfl) h.symm
    · injection h with h; obtain ⟨a, c, hx⟩ := hx; exact idle _ _ _ hx (.inr rfl) h.symm
    · injection h with h; obtain ⟨q, cap', hx, _⟩ := hx; exact idle _ _ _ hx (.inr rfl) h.symm
    · rename_i b off len cap opn hl0
      split at h
      · rename_i cs e hg
        split at h
        · rename_i hone
          obtain ⟨c, hsp, h⟩ := Option.bind_eq_some_iff.1 h
          injection h with h
          subst h
          obtain ⟨q, cap', rfl, g2, g3, hq⟩ := hx
          obtain ⟨g, h1, rfl, hop⟩ := hr.live hg (by simp) hq
          obtain ⟨arr0, fr, h2, h3, h4, h5⟩ := hr.cells hg h1
          have hbn := (hr.lt h1).1
          have hmin : min b H.n = b := by omega
          obtain ⟨hl, _⟩ := splice_len hsp
          have hzz := zeros_ok hzv len
          have hzl := hzz.length
          have hzall : (zerosV zc len).all V.one = true := zeros_all hone len
          obtain ⟨arr', k1, k2, k3⟩ := storeCells_ok (P := P) (o := off) (List.replicate len z.cells.toList).flatten 0 arr0 w h2 h4 (by rw [hzl]; omega) (ones_ok hzall hzz)
          have hB : BR P s H w (.cells c e) (.cells arr' e fr) := BR_splice hsp h3 hzz h5 h4 (by simpa using k2) k3
          obtain ⟨m1, m2⟩ := write_block hr h1 h2 hB (shape_put h2 k3)
          refine ⟨s, .tuple #[], _, ?_, ⟨#[], rfl, by simp [VRs]⟩, m1, by rw [hmin]; exact m2⟩
          have hzc : (Builtin.zeroCells z.cells len).toList = (List.replicate len z.cells.toList).flatten := by
            rw [← range_zero]; rfl
          have hlen : len ≠ 0 := by
            intro e0; exact hl0 e0
          obtain ⟨l1, rfl⟩ : ∃ l1, len = l1 + 1 := ⟨len - 1, by omega⟩
          simp [Builtin.clear_, hts, run_und hu, run_zero hi' hz, hzc, k1]
        · cases h
      · cases h
    · cases h
  · cases h

theorem toBytes_ok {d pr} : ∀ (cs : List V) (xs : List Value) (b : List UInt8), toBytes cs = some b → VRs (szP P) s d pr w cs xs →
    ∀ (acc : ByteArray), (xs.foldlM (m := Sem) (fun (a : ByteArray) c => do
      let .int .u8 n := c | stuck "bytesToString: byte expected"
      pure (a.push (UInt8.ofNat n.toNat))) acc).run P w = .ok ⟨acc.data ++ b.toArray⟩ w
  | [], xs, b, h, hv, acc => by
    simp only [toBytes, Option.some.injEq] at h
    simp only [VRs] at hv
    subst h; subst hv
    simp
  | c :: cs, xs, b, h, hv, acc => by
    obtain ⟨x, xs', rfl, h1, hv⟩ := hv
    unfold toBytes at h
    split at h
    · rename_i e; cases e
    · rename_i n r e
      injection e with e1 e2
      subst e1; subst e2
      obtain ⟨b', hb, rfl⟩ := Option.map_eq_some_iff.1 h
      simp only [VR] at h1
      subst h1
      have ih := toBytes_ok cs xs' b' hb hv (acc.push (UInt8.ofNat n.toNat))
      simp only [List.foldlM_cons, Sem.run_bind, Sem.run_pure, Result.andThen_ok, ih]
      congr 1
      simp [ByteArray.push]
    · cases h

theorem cap_ok {t ty : TypeId} {x v : V} {cx : Value} {d pr} (h : capV P t x = some v) (hx : VR (szP P) s d pr w x cx) (ts : Array TypeId) (hts : ts[0]? = some t) : ∃ c, (Builtin.cap_ ts ty #[cx]).run P w = .ok c w ∧ VR (szP P) s d pr w v c := by
  unfold capV at h
  split at h
  · rename_i e hu
    split at h <;> first
      | (cases h; done)
      | (injection h with h; subst h)
    · simp only [VR] at hx; subst hx; exact ⟨_, by simp [Builtin.cap_, hts, run_und hu]; rfl, rfl⟩
    · obtain ⟨q, cap', rfl, _, h3, _⟩ := hx
      have := h3 rfl
      subst this
      exact ⟨_, by simp [Builtin.cap_, hts, run_und hu]; rfl, rfl⟩
    · obtain ⟨a, rfl⟩ := hx; exact ⟨_, by simp [Builtin.cap_, hts, run_und hu]; rfl, rfl⟩
  · cases h

theorem typeAssert_ok {x v : V} {xt t : TypeId} {ok : Bool} {cx : Value} {d pr} (h : typeAssertV P x t ok = some v) (hx : VR (szP P) s d pr w x cx) : ∃ c, (Instr.typeAssert cx xt t ok).run P w = .ok c w ∧ VR (szP P) s d pr w v c := by
  unfold typeAssertV at h
  split at h
  · cases h
  · rename_i u hni hu
    split at h
    · rename_i t' v'
      split at h
      · rename_i e
        injection h with h
        subst e; subst h
        obtain ⟨y, rfl, hy⟩ := hx
        have hrun : (Instr.typeAssert (.iface t' y) xt t' ok).run P w = .ok (if ok then .tuple #[y, .bool true] else y) w := by
          simp only [Instr.typeAssert, Sem.run_bind, run_und hu, Result.andThen_ok]
          cases u <;> first
            | (exact absurd rfl (hni _))
            | simp
        refine ⟨_, hrun, ?_⟩
        cases ok with
        | false => simpa using hy
        | true => exact ⟨#[y, .bool true], rfl, y, [.bool true], rfl, hy, .bool true, [], rfl, rfl, rfl⟩
      · cases h
    · cases h
  · cases h
end
end Go.Tw
