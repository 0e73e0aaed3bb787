/- A region that draws its order: what is so in the middle of it. No condition. -/
import Derived.Test.YtjlphacnmonfnaaGreatDoorTwReg2
set_option linter.unusedVariables false
set_option linter.unusedSimpArgs false
namespace Go.Tw

structure Env (C : Ctx) (h : Nat → Prop) (nt : Nat) (ro wro : Option Nat) (o : Orig) (ops : Array Oper) (f : Nat → St) (r : Nat → OR) (e : Nat → Eff) (b : Nat → Bool) (cv : Nat → V → List V → Heap → Option OR) (s0 : Nat → Option Nat) (w0 : World) (a0 : Act) : Prop where
  run : Run C nt ops ops.toList f r e b cv
  R : SR C h nt ro wro o s0 w0 (f 0) a0
  reg : RegOK ops
  ord : ∀ i j, i < j → j < ops.size → clash (e i) (e j) = true → behind ops j i = true

/-- Does the operation change what is in the block? -/
def Wr (f : Nat → St) (j b : Nat) : Prop := b < (f j).H.n ∧ (f (j + 1)).H.get b ≠ (f j).H.get b

section
variable {C : Ctx} {h : Nat → Prop} {nt : Nat} {ro wro : Option Nat} {o : Orig} {ops : Array Oper} {f : Nat → St} {r : Nat → OR} {e : Nat → Eff} {b : Nat → Bool} {cv : Nat → V → List V → Heap → Option OR} {s0 : Nat → Option Nat} {w0 : World} {a0 : Act}

theorem Env.hstep (E : Env C h nt ro wro o ops f r e b cv s0 w0 a0) {k : Nat} (hk : k < ops.size) : HStep (f k).H (r k) ∧ (f (k + 1)).H = (r k).H := hsteps E.run E.R hk

theorem Env.step (E : Env C h nt ro wro o ops f r e b cv s0 w0 a0) {k : Nat} {x : Oper} (hx : ops[k]? = some x) : StepOK C nt ops x (f k) (f (k + 1)) (r k) (e k) (b k) (cv k) := E.run.step k x (by simpa using hx)

theorem Env.mono (E : Env C h nt ro wro o ops f r e b cv s0 w0 a0) {j k : Nat} (hj : j ≤ k) (hk : k ≤ ops.size) : (f j).H.n ≤ (f k).H.n := by
  induction k with
  | zero => have : j = 0 := by omega
            subst this; exact Nat.le_refl _
  | succ k ih =>
    by_cases l : j = k + 1
    · subst l; exact Nat.le_refl _
    · obtain ⟨h1, h2⟩ := E.hstep (k := k) (by omega)
      rw [h2]
      exact Nat.le_trans (ih (by omega) (by omega)) h1.n

theorem Env.const (E : Env C h nt ro wro o ops f r e b cv s0 w0 a0) {m m' c : Nat} (hm : m ≤ m') (hk : m' ≤ ops.size) (hw : ∀ k, m ≤ k → k < m' → ¬ Wr f k c) (hc : c < (f m).H.n) : (f m').H.get c = (f m).H.get c := by
  induction m' with
  | zero => have : m = 0 := by omega
            subst this; rfl
  | succ k ih =>
    by_cases l : m = k + 1
    · subst l; rfl
    · have h1 := ih (by omega) (by omega) (fun k' h1 h2 => hw k' h1 (by omega))
      have h2 := hw k (by omega) (by omega)
      have h3 : c < (f k).H.n := Nat.lt_of_lt_of_le hc (E.mono (by omega) (by omega))
      rw [← h1]
      exact Classical.byContradiction fun hn => h2 ⟨h3, hn⟩

theorem Env.eff (E : Env C h nt ro wro o ops f r e b cv s0 w0 a0) {k : Nat} {x : Oper} (hx : ops[k]? = some x) (hb : b k = true) : EffOK C.P (cv k) (rho C (f k).T) (f k).H x.op (r k) (e k) := by
  obtain ⟨h1, h2, _⟩ := (E.step hx).yes hb
  rw [h2]
  exact eff_ok h1

theorem Env.noH (E : Env C h nt ro wro o ops f r e b cv s0 w0 a0) {k : Nat} (hk : k < ops.size) (he : e k = .none ∨ (∃ c, e k = .rd c) ∨ ∃ c t q, e k = .lk c t q) : (r k).H = (f k).H := by
  have hx : ops[k]? = some ops[k] := by simp [hk]
  cases hb : b k with
  | false => obtain ⟨h1, _⟩ := (E.step hx).no hb; rw [h1]
  | true =>
    have := E.eff hx hb
    rcases he with he | ⟨c, he⟩ | ⟨c, t, q, he⟩ <;> rw [he] at this <;> exact this.1

theorem Env.writer (E : Env C h nt ro wro o ops f r e b cv s0 w0 a0) {k c : Nat} (hk : k < ops.size) (hw : Wr f k c) : e k = .wr c ∨ (∃ x, e k = .ap c x) ∨ e k = .sw ∨ ∃ t q, e k = .en c t q := by
  obtain ⟨h1, h2⟩ := E.hstep hk
  have hx : ops[k]? = some ops[k] := by simp [hk]
  unfold Wr at hw
  rw [h2] at hw
  cases hb : b k with
  | false => obtain ⟨h3, _⟩ := (E.step hx).no hb; rw [h3] at hw; exact absurd rfl hw.2
  | true =>
    have h3 := E.eff hx hb
    cases he : e k <;> rw [he] at h3 <;> simp only [EffOK] at h3
    case none => rw [h3.1] at hw; exact absurd rfl hw.2
    case rd c' => rw [h3.1] at hw; exact absurd rfl hw.2
    case al =>
      obtain ⟨B, nv, _, h4, _⟩ := h3
      rw [h4] at hw
      simp only at hw
      rw [Heap.get_push, if_neg (by omega)] at hw
      exact absurd rfl hw.2
    case ap c' x =>
      obtain ⟨B, nv, _, h4, _⟩ := h3
      rw [h4] at hw
      simp only [dz] at hw
      rw [Heap.get_set, Heap.get_push, if_neg (c := c = (f k).H.n) (by omega)] at hw
      by_cases e' : c = c'
      · subst e'; exact .inr (.inl ⟨x, rfl⟩)
      · rw [if_neg (fun h => e' h.1)] at hw; exact absurd rfl hw.2
    case wr c' =>
      obtain ⟨B, _, _, h4, _⟩ := h3
      rw [h4, Heap.get_set] at hw
      by_cases e' : c = c'
      · subst e'; exact .inl rfl
      · rw [if_neg (fun h => e' h.1)] at hw; exact absurd rfl hw.2
    case sr => exact absurd (h1.old c (by rw [h3]; exact hw.1) hw.1) hw.2
    case ca => exact absurd (h1.old c (by rw [h3]; exact hw.1) hw.1) hw.2
    case lk c' t q => rw [h3.1] at hw; exact absurd rfl hw.2
    case en c' t q =>
      obtain ⟨B, _, h4, _⟩ := h3
      rw [h4, Heap.get_set] at hw
      by_cases e' : c = c'
      · subst e'; exact .inr (.inr (.inr ⟨t, q, rfl⟩))
      · rw [if_neg (fun h => e' h.1)] at hw; exact absurd rfl hw.2
    case sw => exact .inr (.inr (.inl rfl))

theorem Env.birth (E : Env C h nt ro wro o ops f r e b cv s0 w0 a0) {k : Nat} (hk : k < ops.size) (hn : (f k).H.n < (f (k + 1)).H.n) : e k ≠ .none := by
  intro he
  rw [(E.hstep hk).2, E.noH hk (.inl he)] at hn
  omega

theorem Env.slots (E : Env C h nt ro wro o ops f r e b cv s0 w0 a0) (t : Tmp) : ∀ k, k ≤ ops.size → (∀ (j : Nat) (x : Oper), ops[j]? = some x → x.dst = some t → tget (f k).T t = if j < k then (r j).v else tget (f 0).T t) ∧ ((∀ (j : Nat) (x : Oper), ops[j]? = some x → x.dst ≠ some t) → tget (f k).T t = tget (f 0).T t)
  | 0, _ => ⟨fun j x hx hd => by rw [if_neg (by omega)], fun _ => rfl⟩
  | k + 1, hk => by
    obtain ⟨h1, h2⟩ := E.slots t k (by omega)
    have hx : ops[k]? = some ops[k] := by simp [show k < ops.size by omega]
    have hT := (E.step hx).T.1
    refine ⟨fun j x hj hd => ?_, fun hn => ?_⟩
    · rw [hT]
      by_cases ej : j = k
      · subst ej
        rw [hx] at hj
        injection hj with hj
        rw [hj, hd, if_pos (by omega)]
        simp [putV, tget_tset]
      · have : tget (putV (f k).T ops[k].dst (r k).v) t = tget (f k).T t := by
          cases hd' : ops[k].dst with
          | none => rfl
          | some d =>
            simp only [putV, tget_tset]
            rw [if_neg]
            intro et
            subst et
            exact ej (E.reg.once k _ t hx hd' j x hj hd)
        rw [this, h1 j x hj hd]
        by_cases l : j < k
        · rw [if_pos l, if_pos (by omega)]
        · rw [if_neg l, if_neg (by omega)]
    · rw [hT]
      have hd := hn k _ hx
      cases hd' : ops[k].dst with
      | none => exact h2 hn
      | some d =>
        simp only [putV, tget_tset]
        rw [if_neg, h2 hn]
        intro et
        subst et
        exact hd hd'

theorem Env.lo (E : Env C h nt ro wro o ops f r e b cv s0 w0 a0) : ∀ k, k ≤ ops.size → (f k).lo ≤ (f 0).lo ∧ ∀ j, j < k → b j = true → (f k).lo ≤ (r j).lo
  | 0, _ => ⟨Nat.le_refl _, fun j hj => by omega⟩
  | k + 1, hk => by
    obtain ⟨h1, h2⟩ := E.lo k (by omega)
    have hx : ops[k]? = some ops[k] := by simp [show k < ops.size by omega]
    cases hb : b k with
    | false =>
      obtain ⟨_, _, h3⟩ := (E.step hx).no hb
      rw [h3]
      refine ⟨h1, fun j hj hbj => h2 j ?_ hbj⟩
      by_cases ej : j = k
      · subst ej; rw [hb] at hbj; cases hbj
      · omega
    | true =>
      obtain ⟨_, _, h3⟩ := (E.step hx).yes hb
      rw [h3]
      simp only
      refine ⟨by omega, fun j hj hbj => ?_⟩
      by_cases ej : j = k
      · subst ej; omega
      · have := h2 j (by omega) hbj
        omega

/-- What is so when the operations of 'S' have been done. -/
structure Mid (C : Ctx) (h : Nat → Prop) (nt : Nat) (ro wro : Option Nat) (o : Orig) (ops : Array Oper) (f : Nat → St) (r : Nat → OR) (s0 : Nat → Option Nat) (w0 : World) (S : Nat → Bool) (HS : Heap) (σ : Nat → Option Nat) (T : Tr V) (w : World) (a : Act) : Prop where
  hr : HR (C.ph h) σ HS w
  gk : GOK C h σ w
  sz : a.tmps.size = nt
  df : Marks (C.ph h) o.w.heap.size σ w o.base a.defers
  rd : Rd σ HS ro wro
  tm : ∀ t, VH (C.ph h) σ HS w (tget T t) (a.tmps.getD t undef)
  ts : ∀ t, (∀ (j : Nat) (x : Oper), ops[j]? = some x → x.dst = some t → tget T t = if S j then (r j).v else tget (f 0).T t) ∧ ((∀ (j : Nat) (x : Oper), ops[j]? = some x → x.dst ≠ some t) → tget T t = tget (f 0).T t)
  nn : HS.n = (f ops.size).H.n
  cont : ∀ c, c < HS.n → ∃ m, m ≤ ops.size ∧ c < (f m).H.n ∧ HS.get c = (f m).H.get c ∧ ∀ j, j < ops.size → Wr f j c → (S j = true ↔ j < m)
  unb : ∀ k, k < ops.size → S k = false → ∀ c g, (f k).H.n ≤ c → c < (f (k + 1)).H.n → σ c ≠ some g
  cov : ∀ k, k < ops.size → S k = true → ∀ c, (f k).H.n ≤ c → c < (f (k + 1)).H.n → Dead HS c ∨ ∃ g, σ c = some g
  unw : ∀ k, k < ops.size → S k = false → ∀ c, (f k).H.n ≤ c → c < (f (k + 1)).H.n → ∀ j, j < ops.size → S j = true → ¬ Wr f j c
  pc : Pc (f ops.size).lo (f 0).H.n s0 (f 0).H w0 σ HS w

/-- An operation that may be done next. -/
structure Next (ops : Array Oper) (S : Nat → Bool) (i : Nat) (x : Oper) : Prop where
  hx : ops[i]? = some x
  no : S i = false
  edges : ∀ e ∈ x.after, Region.binds .any e = true → S e.on = true
  closed : Closed ops (fun j => S j = true)

def addS (S : Nat → Bool) (i j : Nat) : Bool := S j || Nat.beq j i
theorem addS_ne {S : Nat → Bool} {i j : Nat} (h : j ≠ i) : addS S i j = S j := by simp [addS, beqf h]
theorem addS_eq {S : Nat → Bool} {i : Nat} : addS S i i = true := by simp [addS]
theorem addS_false {S : Nat → Bool} {i j : Nat} (h : addS S i j = false) : j ≠ i ∧ S j = false := by
  have : j ≠ i := by intro e; subst e; rw [addS_eq] at h; cases h
  exact ⟨this, by rwa [addS_ne this] at h⟩

variable {S : Nat → Bool} {HS : Heap} {σ : Nat → Option Nat} {T : Tr V} {w : World} {a : Act} {i : Nat} {x : Oper}

theorem Next.lt (N : Next ops S i x) : i < ops.size := (Array.getElem?_eq_some_iff.1 N.hx).1

theorem Env.ordered (E : Env C h nt ro wro o ops f r e b cv s0 w0 a0) (N : Next ops S i x) {j : Nat} (hj : j < ops.size) (hne : j ≠ i) (hc : clash (e i) (e j) = true) : S j = true ↔ j < i := by
  constructor
  · intro hS
    rcases Nat.lt_or_ge j i with l | l
    · exact l
    · have hb := E.ord i j (by omega) hj hc
      have := behind_ok hb hj N.closed (fun y hy ed he hbd => N.closed j y hS hy ed he hbd)
      rw [N.no] at this
      cases this
  · intro l
    have hb := E.ord j i l N.lt (by rw [clash_comm]; exact hc)
    exact behind_ok hb N.lt N.closed (fun y hy ed he hbd => by rw [N.hx] at hy; injection hy with hy; subst hy; exact N.edges ed he hbd)

theorem Env.slot (E : Env C h nt ro wro o ops f r e b cv s0 w0 a0) (M : Mid C h nt ro wro o ops f r s0 w0 S HS σ T w a) (N : Next ops S i x) {t : Tmp} (ht : t ∈ x.looksAt ops) : tget T t = tget (f i).T t := by
  obtain ⟨h1, h2⟩ := M.ts t
  obtain ⟨h3, h4⟩ := E.slots t i (Nat.le_of_lt N.lt)
  by_cases hw : ∃ (j : Nat) (y : Oper), ops[j]? = some y ∧ y.dst = some t
  · obtain ⟨j, y, hy, hd⟩ := hw
    rw [h1 j y hy hd, h3 j y hy hd]
    have hj : j < ops.size := (Array.getElem?_eq_some_iff.1 hy).1
    rcases E.reg.look i x t N.hx ht j y hy hd with ej | ⟨l, hb⟩ | ⟨l, hb⟩
    · subst ej
      rw [N.no, if_neg (by simp), if_neg (by omega)]
    · have hS := behind_ok hb N.lt N.closed (fun y hy ed he hbd => by rw [N.hx] at hy; injection hy with hy; subst hy; exact N.edges ed he hbd)
      rw [if_pos hS, if_pos l]
    · have hS : ¬ S j = true := fun hS => by
        have := behind_ok hb hj N.closed (fun y hy ed he hbd => N.closed j y hS hy ed he hbd)
        rw [N.no] at this
        cases this
      rw [if_neg hS, if_neg (by omega)]
  · have hn : ∀ (j : Nat) (y : Oper), ops[j]? = some y → y.dst ≠ some t := fun j y hy hd => hw ⟨j, y, hy, hd⟩
    rw [h2 hn, h4 hn]

theorem wanted_congr {ops : Array Oper} {T T' : Tr V} {x : Oper} (h : ∀ t ∈ x.looksAt ops, tget T t = tget T' t) : wantedV ops T x = wantedV ops T' x := by
  unfold wantedV
  cases hg : x.guard with
  | none => rfl
  | some p =>
    obtain ⟨j, want⟩ := p
    simp only
    cases hd : (ops[j]?).bind (·.dst) with
    | none => rfl
    | some d => simp only [h d (by simp [Oper.looksAt, hg, hd])]

theorem rho_congr {ops : Array Oper} {T T' : Tr V} {x : Oper} (h : ∀ t ∈ x.looksAt ops, tget T t = tget T' t) : ∀ y ∈ x.op.operands, rho C T y = rho C T' y := by
  intro y hy
  cases y with
  | tmp t => exact h t (List.mem_append_left _ (List.mem_filterMap.2 ⟨.tmp t, by simpa using hy, rfl⟩))
  | _ => rfl

/-- A block that nobody writes out of order holds what it holds in the text's order. -/
theorem Env.seen (E : Env C h nt ro wro o ops f r e b cv s0 w0 a0) (M : Mid C h nt ro wro o ops f r s0 w0 S HS σ T w a) (N : Next ops S i x) {c : Nat} (hc : c < (f i).H.n) (hw : ∀ j, j < ops.size → j ≠ i → Wr f j c → (S j = true ↔ j < i)) : HS.get c = (f i).H.get c := by
  have hi := N.lt
  obtain ⟨m, hm, hcm, he, hj⟩ := M.cont c (by rw [M.nn]; exact Nat.lt_of_lt_of_le hc (E.mono (by omega) (Nat.le_refl _)))
  rw [he]
  rcases Nat.lt_or_ge i m with l | l
  · refine E.const (by omega) hm (fun k h1 h2 hk => ?_) hc
    have hS := (hj k (by omega) hk).2 h2
    by_cases ek : k = i
    · subst ek; rw [N.no] at hS; cases hS
    · have := (hw k (by omega) ek hk).1 hS
      omega
  · refine (E.const l (by omega) (fun k h1 h2 hk => ?_) hcm).symm
    have hS := (hw k (by omega) (by omega) hk).2 h2
    have := (hj k (by omega) hk).1 hS
    omega

theorem Env.seen_new (E : Env C h nt ro wro o ops f r e b cv s0 w0 a0) (M : Mid C h nt ro wro o ops f r s0 w0 S HS σ T w a) (N : Next ops S i x) {c : Nat} (hc : (f i).H.n ≤ c) (hc' : c < (f (i + 1)).H.n) : HS.get c = (f (i + 1)).H.get c := by
  have hi := N.lt
  obtain ⟨m, hm, hcm, he, hj⟩ := M.cont c (by rw [M.nn]; exact Nat.lt_of_lt_of_le hc' (E.mono (by omega) (Nat.le_refl _)))
  have him : i + 1 ≤ m := by
    rcases Nat.lt_or_ge i m with l | l
    · exact l
    · have := E.mono l (by omega); omega
  rw [he]
  refine E.const him hm (fun k h1 h2 hk => ?_) hc'
  exact M.unw i hi N.no c hc hc' k (by omega) ((hj k (by omega) hk).2 h2) hk

/-- The next state, put together. -/
theorem Mid.next (E : Env C h nt ro wro o ops f r e b cv s0 w0 a0) (M : Mid C h nt ro wro o ops f r s0 w0 S HS σ T w a) (N : Next ops S i x) {σ' : Nat → Option Nat} {HS' : Heap} {w' : World} {c : Value}
    (hr : HR (C.ph h) σ' HS' w') (hv : VH (C.ph h) σ' HS' w' (r i).v c) (pc : Pc (f ops.size).lo (f 0).H.n σ HS w σ' HS' w') (nn : HS'.n = HS.n)
    (cont : ∀ c, c < HS'.n → ∃ m, m ≤ ops.size ∧ c < (f m).H.n ∧ HS'.get c = (f m).H.get c ∧ ∀ j, j < ops.size → Wr f j c → (addS S i j = true ↔ j < m))
    (unb : ∀ k, k < ops.size → k ≠ i → S k = false → ∀ c g, (f k).H.n ≤ c → c < (f (k + 1)).H.n → σ' c ≠ some g)
    (cov : ∀ c, (f i).H.n ≤ c → c < (f (i + 1)).H.n → Dead HS' c ∨ ∃ g, σ' c = some g)
    (unw : ∀ k, k < ops.size → k ≠ i → S k = false → ∀ c, (f k).H.n ≤ c → c < (f (k + 1)).H.n → ¬ Wr f i c) :
    Mid C h nt ro wro o ops f r s0 w0 (addS S i) HS' σ' (putV T x.dst (r i).v) w' (a.put x.dst c) where
  hr := hr
  gk := pc.gok M.gk
  sz := by rw [put_size']; exact M.sz
  df := by rw [put_defers']; exact pc.marks M.df
  rd := pc.rd M.rd
  tm := fun t => put_tm (E.step N.hx).dst M.sz (fun t => VR.mono pc.grow _ _ (M.tm t)) hv t
  ts := fun t => by
    obtain ⟨h1, h2⟩ := M.ts t
    refine ⟨fun j y hy hd => ?_, fun hn => ?_⟩
    · by_cases ej : j = i
      · subst ej
        rw [N.hx] at hy
        injection hy with hy
        rw [hy, hd, addS_eq, if_pos rfl]
        simp [putV, tget_tset]
      · rw [addS_ne ej, ← h1 j y hy hd]
        cases hd' : x.dst with
        | none => rfl
        | some d =>
          simp only [putV, tget_tset]
          rw [if_neg]
          intro et
          subst et
          exact ej (E.reg.once i x t N.hx hd' j y hy hd)
    · rw [← h2 hn]
      cases hd' : x.dst with
      | none => rfl
      | some d =>
        simp only [putV, tget_tset]
        rw [if_neg]
        intro et
        subst et
        exact hn i x N.hx hd'
  nn := nn.trans M.nn
  cont := cont
  unb := fun k hk hS c g h1 h2 => unb k hk (addS_false hS).1 (addS_false hS).2 c g h1 h2
  cov := fun k hk hS c h1 h2 => by
    by_cases ek : k = i
    · subst ek; exact cov c h1 h2
    · rw [addS_ne ek] at hS
      rcases M.cov k hk hS c h1 h2 with hd | ⟨g, hg⟩
      · exact .inl (pc.dd c hd)
      · rcases pc.ss c g hg with h3 | ⟨h3, _⟩
        · exact .inr ⟨g, h3⟩
        · exact .inl h3
  unw := fun k hk hSk c h1 h2 j hj hSj => by
    have ek := (addS_false hSk).1
    have hS := (addS_false hSk).2
    by_cases ej : j = i
    · rw [ej]; exact unw k hk ek hS c h1 h2
    · rw [addS_ne ej] at hSj
      exact M.unw k hk hS c h1 h2 j hj hSj
  pc := M.pc.trans pc
end
end Go.Tw
