/- The evaluator is sound: what a state stands for, calls, one operation, operations in a row. No condition. -/
import Derived.Test.YtjlphacnmonfnaaGreatDoorTwCong
import Derived.Orders
import Derived.OrdersIn
import Derived.TacticsIn
import Derived.RangeFuncLeaves
import Derived.LoopNIn
set_option linter.unusedVariables false
set_option linter.unusedSimpArgs false
namespace Go.Tw

/-- The tables that are known hold what is known of them. -/
def GW (C : Ctx) (w : World) : Prop := ∀ g cs, C.G g = some cs → g < w.heap.size ∧ ∃ vs, VRs (szP C.P) (fun _ => none) (fun _ => False) (fun _ => False) w cs vs ∧ HoldsAt w ⟨g, 0, none⟩ vs
abbrev Ctx.ph (C : Ctx) (h : Nat → Prop) : PH := ⟨C.P, h⟩
def GOK (C : Ctx) (h : Nat → Prop) (s : Nat → Option Nat) (w : World) : Prop := (∀ g, h g → g < w.heap.size) ∧ ∀ g cs, C.G g = some cs → Prot (C.ph h) s w g ∧ ∃ vs, VRs (szP C.P) (fun _ => none) (fun _ => False) (fun _ => False) w cs vs ∧ HoldsAt w ⟨g, 0, none⟩ vs

/-- What a call does. -/
def CallF (P : Program) (f : FuncId) (args : Array Value) (w : World) (Q : Value → World → Prop) : Prop :=
  match (callFunc f args).run P w with
  | .ok (.value v) w' => Q v w'
  | .ok (.enter g as) w' => Calls P g as w' fun e w'' => ∃ v, e = .returned v ∧ Q v w''
  | _ => False

/-- What is known of a function that writes nothing that was there, and whose value lies in memory of its own. -/
def Contract (C : Ctx) (g : FuncId) (F : List V → Option V) : Prop :=
  ∀ (w : World) (vs : List V) (cs : Array Value) (v : V), GW C w → VRs (szP C.P) (fun _ => none) (fun _ => False) (fun g => g < w.heap.size) w vs cs.toList → F vs = some v →
    CallF C.P g cs w fun c w' => VR (szP C.P) (fun _ => none) (fun _ => False) (fun g => w.heap.size ≤ g ∧ g < w'.heap.size) w' v c ∧ RowKit.Below w.heap.size w w' ∧ (∀ g x, w.shape? g = some x → w'.shape? g = some x)

structure CtxOK (C : Ctx) : Prop where
  mix : C.P.follows .mixedOrders = true
  sums : ∀ g F, C.S g = some F → Contract C g F

structure Orig where
  s : Nat → Option Nat
  H : Heap
  w : World
  /-- The calls that were deferred ahead. -/
  base : List Deferred

/-- Every function, any depth; in a round of the loop 'wro', or in none. -/
abbrev WF (wro : Option Nat) : Fence := { Fence.wide with round := wro }

/-- The round's loop, in the own heap and in the model's. -/
def Rd (s : Nat → Option Nat) (H : Heap) : Option Nat → Option Nat → Prop
  | none, none => True
  | some b, some l => Dead H b ∨ s b = some l
  | _, _ => False

def mark (r : Nat) : Deferred := { target := .collected r, args := #[] }
/-- A function's marks: of loops over functions, ahead of the calls that were deferred ahead; each one's block holds no call. -/
def Marks (P : PH) (lo : Nat) (s : Nat → Option Nat) (w : World) (base ds : List Deferred) : Prop :=
  ∃ rs : List Nat, ds = rs.map mark ++ base ∧ rs.Nodup ∧ ∀ r ∈ rs, lo ≤ r ∧ Prot P s w r ∧ w.heap[r]? = some (.deferred (some []))

/-- A state of the evaluator stands for one of the model. -/
structure SR (C : Ctx) (h : Nat → Prop) (nt : Nat) (ro wro : Option Nat) (o : Orig) (s : Nat → Option Nat) (w : World) (st : St) (a : Act) : Prop where
  ob : ∀ b g, o.s b = some g → b < o.H.n
  hr : HR (C.ph h) s st.H w
  gk : GOK C h s w
  ln : st.lo ≤ o.H.n
  ext : Ext st.lo o.s o.H o.w s st.H w
  sz : a.tmps.size = nt
  df : Marks (C.ph h) o.w.heap.size s w o.base a.defers
  rd : Rd s st.H ro wro
  tm : ∀ t, VH (C.ph h) s st.H w (tget st.T t) (a.tmps.getD t undef)

theorem VRs.mono' {z : TypeId → Nat} {s s' : Nat → Option Nat} {d d' pr pr' : Nat → Prop} {w w' : World} (G : Grow s s' d d' pr pr' w w') {vs : List V} {cs : List Value} (h : VRs z s d pr w vs cs) : VRs z s' d' pr' w' vs cs := VRs.mono G vs cs h

section
variable {C : Ctx} {nt : Nat} {ro wro : Option Nat} {o : Orig} {s s' : Nat → Option Nat} {H H' : Heap} {w w' : World} {st : St} {a : Act} {lo : Nat} {h : Nat → Prop}

theorem GOK.ext (hk : GOK C h s w) (E : Ext lo s H w s' H' w') : GOK C h s' w' := by
  refine ⟨fun g hg => Nat.lt_of_lt_of_le (hk.1 g hg) E.size, ?_⟩
  intro g cs hg
  obtain ⟨hp, vs, h1, h2⟩ := hk.2 g cs hg
  have hw := E.frame g hp.1 fun b hb => absurd hb (hp.2.1 b)
  exact ⟨(E.grow (P := C.ph h)).hp g hp, vs, h1.mono' ⟨fun _ h => h, fun _ _ h => .inl h, fun _ h => h, fun _ (h : False) => h.elim, E.shp⟩, h2.keep (cell_keep hw)⟩

theorem GOK.gw (hk : GOK C h s w) : GW C w := fun g cs hg => ⟨(hk.2 g cs hg).1.1, (hk.2 g cs hg).2⟩

theorem Marks.ext {P : PH} {l : Nat} {base ds : List Deferred} (hm : Marks P l s w base ds) (E : Ext lo s H w s' H' w') : Marks P l s' w' base ds := by
  obtain ⟨rs, e, hn, hr⟩ := hm
  refine ⟨rs, e, hn, fun r hrs => ?_⟩
  obtain ⟨h1, h2, h3⟩ := hr r hrs
  exact ⟨h1, E.grow.hp r h2, by rw [E.frame r h2.1 fun b hb => absurd hb (h2.2.1 b)]; exact h3⟩

theorem Rd.ext (hr : Rd s H ro wro) (E : Ext lo s H w s' H' w') : Rd s' H' ro wro := by
  cases ro <;> cases wro <;> simp only [Rd] at hr ⊢
  rcases hr with hr | hr
  · exact .inl (E.dd _ hr)
  · rcases E.ss _ _ hr with h1 | ⟨h1, _⟩
    · exact .inr h1
    · exact .inl h1

theorem rho_ok (hg : GOK C h s w) {T : Tr V} (ht : ∀ t, VH (C.ph h) s H w (tget T t) (a.tmps.getD t undef)) (x : Operand) : VH (C.ph h) s H w (rho C T x) (a.eval x) := by
  cases x with
  | tmp t => exact ht t
  | const v => exact ofV_ok v
  | func f => exact ⟨#[], #[], rfl, by simp [VRs], by simp [VRs]⟩
  | global g =>
    simp only [rho, Act.eval]
    split
    · rename_i cs hc
      obtain ⟨hp, vs, h1, h2⟩ := hg.2 g cs hc
      exact ⟨g, 0, vs, rfl, hp, h1.mono' ⟨fun _ (h : False) => h.elim, fun _ _ (h : none = some _) => (nomatch h), fun _ (h : False) => h.elim, fun _ (h : False) => h.elim, fun _ _ h => h⟩, h2⟩
    · exact rfl

theorem tget_tset (T : Tr V) (t u : Nat) (v : V) : tget (tset T t v) u = if u = t then v else tget T u := by
  simp only [tget, tset]
  rw [Tr.get_set _ _ _ _ _ (by omega)]
  by_cases e : u = t <;> simp [e]

theorem put_tm {dst : Option Tmp} (hd : dstOk nt dst = true) (hs : a.tmps.size = nt) {T : Tr V} (ht : ∀ t, VH (C.ph h) s H w (tget T t) (a.tmps.getD t undef)) {v : V} {c : Value} (hv : VH (C.ph h) s H w v c) (t : Nat) :
    VH (C.ph h) s H w (tget (putV T dst v) t) ((a.put dst c).tmps.getD t undef) := by
  cases dst with
  | none => exact ht t
  | some d =>
    simp only [dstOk, Nat.blt_eq] at hd
    simp only [putV, Act.put, tget_tset]
    rw [Array.getD_eq_getD_getElem?, Array.getElem?_setIfInBounds]
    by_cases e : d = t
    · subst e
      simp [hs, hd]
      exact hv
    · rw [if_neg (fun h => e h.symm), if_neg e, ← Array.getD_eq_getD_getElem?]
      exact ht t

theorem put_size' (a : Act) (dst : Option Tmp) (c : Value) : (a.put dst c).tmps.size = a.tmps.size := by cases dst <;> simp [Act.put]
theorem put_defers' (a : Act) (dst : Option Tmp) (c : Value) : (a.put dst c).defers = a.defers := by cases dst <;> simp [Act.put]

/-- What a value that is called does. -/
def CallQ (P : Program) (wro : Option Nat) (cf : Value) (cas : List Value) (w : World) (K : Value → World → Prop) : Prop :=
  (∃ name xs ys t x rest g, cf = .func (.method name) xs ys ∧ xs ++ cas.toArray = #[.iface t x] ++ rest ∧ methodX P t name = some g ∧ CallF P g (#[x] ++ rest) w K) ∨
  (∃ g xs ys, cf = .func (.func g) xs ys ∧ CallF P g (xs ++ cas.toArray ++ ys) w K) ∨
  (∃ l fn tmps assign body, cf = .func (.yield l) #[] #[] ∧ (Instr.yield l cas.toArray).run P w = .ok (.round l fn tmps assign body) w ∧
    RoundIn (WF wro) 0 P l fn tmps assign body w fun e w' => ∃ v, e = .returned v ∧ K v w')

/-- What a call of the evaluator stands for. -/
def CallStep (C : Ctx) (cv : V → List V → Heap → Option OR) : Prop :=
  ∀ (h : Nat → Prop) (wro : Option Nat) (s : Nat → Option Nat) (H : Heap) (w : World) (f : V) (args : List V) (cf : Value) (cas : List Value) (r : OR) (K : Value → World → Prop),
    HR (C.ph h) s H w → GOK C h s w → VH (C.ph h) s H w f cf → VHs (C.ph h) s H w args cas → cv f args H = some r →
    (∀ c w' s', VH (C.ph h) s' r.H w' r.v c → HR (C.ph h) s' r.H w' → Ext r.lo s H w s' r.H w' → K c w') → CallQ C.P wro cf cas w K

theorem callsIn_any {P : Program} {f : FuncId} {args : Array Value} {R : Ending → World → Prop} (n : Nat) (h : Calls P f args w R) : CallsIn (WF wro) n P f args w R := by
  have h1 : CallsIn Fence.wide n P f args w R := callsIn_wide.2 h
  exact h1

theorem CallF.upon {P : Program} {f : FuncId} {args : Array Value} {Q : Value → World → Prop} (h : CallF P f args w Q) {o : Oper} {K : Act → World → Prop} {Q' : Exit → Act → World → Prop}
    (hk : ∀ v w', Q v w' → K (a.put o.dst v) w') : o.uponIn (WF wro) 0 P a K Q' ((callFunc f args).run P w) := by
  unfold CallF at h
  split at h
  · rename_i v w' e
    rw [e]
    exact hk _ _ h
  · rename_i g as w' e
    rw [e]
    refine ⟨fun hd => by simp [Fence.wide] at hd, ?_⟩
    exact callsIn_any _ (Calls.mono h fun e w'' he => by
      obtain ⟨v, rfl, h⟩ := he
      exact hk _ _ h)
  · exact h.elim

/-- One operation. -/
def OpStep (C : Ctx) (cv : V → List V → Heap → Option OR) : Prop :=
  ∀ (h : Nat → Prop) (wro : Option Nat) (s : Nat → Option Nat) (H : Heap) (w : World) (ρ : Operand → V) (o : Oper) (r : OR) (a : Act) (K : Act → World → Prop) (Q : Exit → Act → World → Prop),
    HR (C.ph h) s H w → GOK C h s w → (∀ x ∈ o.op.operands, VH (C.ph h) s H w (ρ x) (a.eval x)) → rsV C.P cv ρ H o.op = some r →
    (∀ c w' s', VH (C.ph h) s' r.H w' r.v c → HR (C.ph h) s' r.H w' → Ext r.lo s H w s' r.H w' → K (a.put o.dst c) w') →
    o.wpIn (WF wro) 0 C.P a w K Q

theorem meth_run {P : Program} {w : World} {t : TypeId} {name : String} {g : FuncId} (h : methodX P t name = some g) (x : Value) (rest : Array Value) :
    (invoke (.fn (.method name) #[]) (#[.iface t x] ++ rest)).run P w = (callFunc g (#[x] ++ rest)).run P w := by
  have h0 : (#[Value.iface t x] ++ rest)[0]? = some (.iface t x) := by rw [Array.getElem?_append_left (by simp)]; rfl
  have h1 : (#[Value.iface t x] ++ rest).extract 1 (#[Value.iface t x] ++ rest).size = rest := by
    apply Array.ext'
    simp
  have hm := (methodX_run (w := w) h (P.types.size + 99) x).1
  simp only [invoke, h0, h1, callMethod, Sem.run_bind, run_program, Result.andThen_ok, Made.depth]
  rw [show P.types.size + 100 = P.types.size + 99 + 1 from rfl, hm]
  rfl

open Classical in
theorem opStep {cv : V → List V → Heap → Option OR} (hc : CallStep C cv) : OpStep C cv := by
  intro hd wro s H w ρ0 o r a K Q hr hg he0 h0 hk
  let ρ : Operand → V := fun x => if x ∈ o.op.operands then ρ0 x else undefV
  let ev : Operand → Value := fun x => if x ∈ o.op.operands then a.eval x else undef
  have he : ∀ x, VH (C.ph hd) s H w (ρ x) (ev x) := by
    intro x
    simp only [ρ, ev]
    by_cases hx : x ∈ o.op.operands
    · rw [if_pos hx, if_pos hx]; exact he0 x hx
    · rw [if_neg hx, if_neg hx]; exact ⟨#[], rfl, by simp [VRs]⟩
  have h : rsV C.P cv ρ H o.op = some r := by
    rw [← h0]
    exact rsV_congr o.op fun x hx => if_pos hx
  have hsel : ∀ cs b, o.op ≠ .select cs b := by
    intro cs b e
    rw [e] at h
    simp [rsV, opV] at h
  have hdef : ∀ c, o.op ≠ .defer c := by
    intro c e
    rw [e] at h
    simp [rsV, opV] at h
  have hev : (o.semAt (WF wro).round a.eval) = execOp ev o := by
    rw [Oper.semAt_eq _ _ _ hdef]
    exact execOp_congr o hsel fun x hx => (if_pos hx).symm
  refine ⟨fun _ _ => trivial, ?_⟩
  rw [hev]
  have plain : opV C.P ρ H o.op = some r → o.uponIn (WF wro) 0 C.P a K Q ((execOp ev o).run C.P w) := by
    intro h
    obtain ⟨s', c, w', h1, h2, h3, h4⟩ := opV_ok hr he h
    have := hk c w' s' h2 h3 h4
    rcases h1 with h1 | ⟨h1, e⟩
    · rw [h1]; exact this
    · rw [h1]; subst e; exact this
  unfold rsV at h
  split at h
  · rename_i c ho
    split at h
    · rename_i f hf
      have ha : VHs (C.ph hd) s H w (c.args.toList.map ρ) (c.args.toList.map ev) := VRs.ofMap he _
      have e3 : (c.args.toList.map ev).toArray = c.args.map ev := by
        apply Array.ext'
        simp
      rcases hc hd wro s H w (ρ f) _ (ev f) _ r (fun c w' => K (a.put o.dst c) w') hr hg (he f) ha h hk with ⟨name, xs, ys, t, x, rest, g, e, ex, hm, hcall⟩ | ⟨g, xs, ys, e, hcall⟩ | ⟨l, fn, tmps, assign, body, e, hy, hround⟩
      · rw [e3] at ex
        have e2 : (execOp ev o).run C.P w = (callFunc g (#[x] ++ rest)).run C.P w := by
          rw [← meth_run hm x rest, ← ex]
          simp [execOp, ho, resolve, hf, e, Deferred.ofValue]
          rfl
        rw [e2]
        exact hcall.upon fun v w' h => h
      · have e2 : (execOp ev o).run C.P w = (callFunc g (xs ++ (c.args.toList.map ev).toArray ++ ys)).run C.P w := by
          rw [e3]
          simp [execOp, ho, resolve, hf, e, Deferred.ofValue, invoke]
        rw [e2]
        exact hcall.upon fun v w' h => h
      · have e2 : (execOp ev o).run C.P w = (Instr.yield l (c.args.toList.map ev).toArray).run C.P w := by
          rw [e3]
          simp [execOp, ho, resolve, hf, e, Deferred.ofValue, invoke]
        rw [e2, hy]
        refine ⟨fun hd => by simp [Fence.wide] at hd, ?_⟩
        exact RoundIn.mono hround fun e w'' he => by
          obtain ⟨v, rfl, h⟩ := he
          exact h
    · rename_i xr name hf
      have ha : VHs (C.ph hd) s H w (c.args.toList.map ρ) (c.args.toList.map ev) := VRs.ofMap he _
      have e3 : (c.args.toList.map ev).toArray = c.args.map ev := by
        apply Array.ext'
        simp
      have hfv : VH (C.ph hd) s H w (.fn (.method name) [ρ xr] []) (.func (.method name) #[ev xr] #[]) := ⟨#[ev xr], #[], rfl, ⟨_, _, rfl, he xr, rfl⟩, rfl⟩
      rcases hc hd wro s H w _ _ _ _ r (fun c w' => K (a.put o.dst c) w') hr hg hfv ha h hk with ⟨name', xs, ys, t, x, rest, g, e, ex, hm, hcall⟩ | ⟨g, xs, ys, e, hcall⟩ | ⟨l, fn, tmps, assign, body, e, hy, hround⟩
      · injection e with e1 e2 e4
        injection e1 with e1
        subst e1 e2 e4
        rw [e3] at ex
        have e2 : (execOp ev o).run C.P w = (callFunc g (#[x] ++ rest)).run C.P w := by
          rw [← meth_run hm x rest, ← ex]
          simp [execOp, ho, resolve, hf]
        rw [e2]
        exact hcall.upon fun v w' h => h
      · injection e with e1; cases e1
      · injection e with e1; cases e1
    · exact plain (by simpa only [ho] using h)
  · exact plain h

theorem wanted_ok {ops : Array Oper} {T : Tr V} (ht : ∀ t, VH (C.ph h) s H w (tget T t) (a.tmps.getD t undef)) {o : Oper} {r : Bool} (hw : wantedV ops T o = some r) : Region.wanted o (yielded ops a.tmps) = r := by
  unfold wantedV at hw
  unfold Region.wanted
  split at hw
  · rename_i hg
    rw [hg]
    simpa using hw
  · rename_i j want hg
    rw [hg]
    simp only
    split at hw
    · cases hw
    · rename_i d hd
      split at hw
      · rename_i b hb
        have h1 := ht d
        rw [hb] at h1
        simp only [VH, VR] at h1
        have h2 : a.tmps[d]? = some (.bool b) := by
          rw [Array.getD_eq_getD_getElem?] at h1
          cases e : a.tmps[d]? with
          | none => rw [e] at h1; simp [undef] at h1
          | some x => rw [e] at h1; simpa using h1
        have h3 : yielded ops a.tmps j = some b := by simp [yielded, hd, h2]
        rw [h3]
        simp only [Option.some.injEq] at hw
        subst hw
        cases b <;> cases want <;> rfl
      · rename_i hb
        have h1 := ht d
        rw [hb] at h1
        obtain ⟨xs, h1, h2⟩ := h1
        have h3 : yielded ops a.tmps j = none := by
          simp only [yielded, hd]
          rw [Array.getD_eq_getD_getElem?] at h1
          cases e : a.tmps[d]? with
          | none => simp [e]
          | some x => rw [e] at h1; simp at h1; simp [e, h1]
        rw [h3]
        simp only [Option.some.injEq] at hw
        subst hw
        cases want <;> rfl
      · cases hw
end
end Go.Tw
