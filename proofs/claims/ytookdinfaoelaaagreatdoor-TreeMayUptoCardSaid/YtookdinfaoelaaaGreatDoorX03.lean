/- Own work for this claim, part 4 of 17. No condition of its own. -/
import Derived.Test.YtookdinfaoelaaaGreatDoorX02
set_option linter.all false
set_option maxRecDepth 100000
set_option maxHeartbeats 4000000
open Array renaming ext'→xF,getElem?_eq_some_iff→LA,getElem?_push→qD,length_toList→cC,replicate→lC,size_append→uD,size_replicate→VE
open Bool renaming and_eq_true→wA,not_eq_true'→oC,or_eq_true→IC
open Go.Deferred renaming ofValue→nD
open Go.Fence renaming wide→FC
open Go.Region renaming binds→LC
open Go.Tw.VR renaming mono→gF
open List renaming all_eq_true→gB,append_nil→MA,getD_eq_getElem?_getD→DA,getElem?_cons_succ→BB,getElem?_cons_zero→YA,getElem?_eq_getElem→sA,getElem?_eq_some_iff→rA,mem_cons→IB,mem_range→yD,nodup_cons→JF,nodup_nil→dE,range→CB
open Nat renaming beq→kB,blt→mD,blt_eq→AD,eq_of_beq_eq_true→KC,le_refl→jA,le_trans→cB,lt_of_lt_of_le→vB,lt_or_ge→RA,min_le_left→NI
open Option renaming bind_eq_bind→pA,bind_eq_some_iff→nA
open Option.some renaming injEq→lA
open Prod.mk renaming injEq→dB
namespace Go.Tw
section
section
variable {C:Ctx} {nt:Nat} {ro wro:Option Nat} {o:yK} {s s':Nat->Option Nat} {H H':Heap} {w w':World} {st st':St} {a:Act} {lo:Nat} {h:Nat->Prop}
theorem wQ{P:PH}(hr:HR P s H w){t:TypeId}{x v:V}{cx:Value}(h:zeO P H t x=some v)(hx:VH P s H w x cx):∃c,(do loadVar t (<-asAddr cx):Sem Value).run P w=.ok c w/\VH P s H w v c:=by
 obtain⟨c,h1,h2⟩:=zpK hr h hx
 refine⟨c,?_,h2⟩
 simp only[zeO,pA,nA] at h
 obtain⟨⟨cells,off⟩,hc,h⟩:=h
 unfold I3 at hc
 split at hc
 ·obtain⟨q,rfl,hq⟩:=hx
  simpa[Instr.loadAt,Instr.sureAddr,asAddr] using h1
 ·obtain⟨g,o,cs',rfl,hg,hv,ha⟩:=hx
  simpa[Instr.loadAt,Instr.sureAddr,asAddr] using h1
 ·cases hc
theorem zf2{α β:Type}{P:Program}{f:α->Sem β}{x:α}{l:List α}{y:β}{ys:List β}(h1:(f x).run P w=.ok y w)(h2:(l.mapM f).run P w=.ok ys w):((x::l).mapM f).run P w=.ok (y::ys) w:=by
 rw[List.mapM_cons,Sem.run_bind,h1]
 simp[h2]
def nk(tmps:Array Value):ResultVar->Sem Value
 | .tmp t=>pure (tmps.getD t undef)
 | .cell x t=>do loadVar t (<-asAddr (tmps.getD x undef))
theorem zog(fn:Func)(tmps:Array Value):results fn tmps=(do let vs <-fn.results.mapM (nk tmps);pure (if h:vs.size=1 then vs[0] else .tuple vs)):=by
 have e:(fun|.tmp t=>pure (tmps.getD t undef)|.cell a t=>do loadVar t (<-asAddr (tmps.getD a undef)):ResultVar->Sem Value)=nk tmps:=by
  funext x
  cases x<;>rfl
 rw[<-e]
 rfl
theorem zgT(hr:HR (C.ph h) s H w){T:Tr V}(tm:∀t,VH (C.ph h) s H w (PD T t) (a.tmps.getD t undef)):∀{l:List ResultVar} {vs:List V},aL C T H l=some vs->
  ∃cs,(l.mapM (nk a.tmps)).run C.P w=.ok cs w/\UG (C.ph h) s H w vs cs
 | [],vs,h=>by
  simp only[aL,lA] at h
  subst h
  exact⟨[],by simp,by simp[VRs]⟩
 | .tmp t::r,vs,h=>by
  simp only[aL] at h
  obtain⟨us,h1,rfl⟩:=Option.map_eq_some_iff.1 h
  obtain⟨cs,h2,h3⟩:=zgT hr tm h1
  exact⟨_::cs,zf2 (by simp[nk]) h2,_,_,rfl,tm t,h3⟩
 | .cell x t::r,vs,h=>by
  simp only[aL,pA,nA,lA] at h
  obtain⟨v,hv,us,h1,rfl⟩:=h
  obtain⟨cs,h2,h3⟩:=zgT hr tm h1
  obtain⟨c,h4,h5⟩:=wQ hr hv (tm x)
  exact⟨c::cs,zf2 h4 h2,_,_,rfl,h5,h3⟩
theorem xf(hr:HR (C.ph h) s H w){T:Tr V}(tm:∀t,VH (C.ph h) s H w (PD T t) (a.tmps.getD t undef)){fn:Func}{vs:List V}(hl:aL C T H fn.results.toList=some vs):
  ∃c,(results fn a.tmps).run C.P w=.ok c w/\VH (C.ph h) s H w (YL vs) c:=by
 obtain⟨cs,h1,h2⟩:=zgT hr tm hl
 rw[zog,Array.mapM_eq_mapM_toList]
 refine⟨if h:cs.toArray.size=1 then cs.toArray[0] else .tuple cs.toArray,?_,?_⟩
 ·simp only[map_eq_pure_bind,bind_assoc,pure_bind]
  rw[Sem.run_bind,h1]
  simp
 ·have hlen:=h2.length
  match vs,h2 with
  | [],h2=>
   simp only[VRs] at h2
   subst h2
   exact⟨#[],by simp,by simp[VRs]⟩
  | [v],h2=>
   obtain⟨c,cs',rfl,h3,h4⟩:=h2
   simp only[VRs] at h4
   subst h4
   exact h3
  | v::u::r,h2=>
   have:¬cs.length=1:=by simp at hlen;omega
   refine⟨cs.toArray,?_,by simpa using h2⟩
   simp[this]
def Ex.to:Ex->Exit
 | .normal=>.normal
 | .exit i=>.exit i
 | .ret=>.ret
def Fj(C:Ctx):Prop:=
 ∀(n nt:Nat) (ro wro:Option Nat) (o:yK) (h:Nat->Prop) (s:Nat->Option Nat) (w:World) (st st':St) (a:Act) (ops:Array Oper) (es:List Eff) (Q:Exit->Act->World->Prop),
  (∀m,m<n->RO C (KK C m))->wV ops=true->IK C n nt ops ops.toList st=some (es,st')->O3 ops es=true->SR C h nt ro wro o s w st a->
  (∀s' w' a',SR C h nt ro wro o s' w' st' a'->Q .normal a' w')->wpAnyIn (WF wro) 0 C.P .any ops Q ops.size (lC ops.size false) a w
def IS(C:Ctx)(n:Nat):Prop:=
 ∀(nt:Nat) (ro wro:Option Nat) (o:yK) (h:Nat->Prop) (c:Code) (st st':St) (x:Ex) (s:Nat->Option Nat) (w:World) (a:Act) (Q:Exit->Act->World->Prop),
  AJ C n ro nt c st=some (x,st')->SR C h nt ro wro o s w st a->(∀s' w' a',SR C h nt ro wro o s' w' st' a'->Q x.to a' w')->c.wpIn (WF wro) 0 C.P Q a w
def rg(C:Ctx)(n:Nat):Prop:=
 ∀(h:Nat->Prop) (s:Nat->Option Nat) (H:Heap) (w:World) (g:FuncId) (args:List V) (cas:Array Value) (r:OR) (K:Value->World->Prop),
  HR (C.ph h) s H w->GOK C h s w->UG (C.ph h) s H w args cas.toList->DN C n g args H=some r->
  (∀c w' s',VH (C.ph h) s' r.H w' r.v c->HR (C.ph h) s' r.H w'->Ext r.lo s H w s' r.H w'->K c w')->CallF C.P g cas w K
theorem SR.turn(R:SR C h nt ro wro o s w st a){H':Heap}{l:Nat}(hr:HR (C.ph h) s' H' w')(E:Ext l s st.H w s' H' w'):SR C h nt ro wro o s' w' ⟨st.T,H',min st.lo l⟩ a:=
 ⟨R.ob,hr,R.gk.ext E,cB (NI _ _) R.ln,R.ext.trans R.ob E,R.sz,R.df.ext E,R.rd.ext E,fun t=>E.vh (R.tm t)⟩
theorem SR.lon(R:SR C h nt ro wro o s w st a):st.lo<=st.H.n:=cB R.ln R.ext.hn
theorem SR.drew(R:SR C h nt ro wro o s w st a):SR C h nt ro wro o s w.drew st a:=by
 have h1:min st.lo st.H.n=st.lo:=by have:=R.lon;omega
 have:=R.turn R.hr.drew (Ext.drew s st.H w)
 rw[h1] at this
 exact this
theorem zpI:∀(n:Nat) (ih:∀m,m<n->IS C m) (c:Code) (st st':St) (x:Ex) (s:Nat->Option Nat) (w:World) (a:Act) (Q:Exit->Act->World->Prop),
  AJ C n ro nt (.loop c) st=some (x,st')->SR C h nt ro wro o s w st a->(∀s' w' a',SR C h nt ro wro o s' w' st' a'->Q x.to a' w')->Code.roundsIn (WF wro) 0 C.P c Q n a w
 | 0,_,_,_,_,_,_,_,_,_,he,_,_=>by simp[AJ] at he
 | n+1,ih,c,st,st',x,s,w,a,Q,he,R,hk=>by
  simp only[AJ] at he
  rw[roundsIn_succ]
  cases h1:AJ C n ro nt c st with
  | none=>simp[h1] at he
  | some r=>
   obtain⟨y,st1⟩:=r
   refine ih n (by omega) nt ro wro o h c st st1 y s w a _ h1 R fun s1 w1 a1 R1=>?_
   cases y with
   | normal=>
    simp only[h1] at he
    exact zpI n (fun m hm=>ih m (by omega)) c st1 st' x s1 w1 a1 Q he R1 hk
   | exit i=>
    simp only[h1,lA,dB] at he
    obtain⟨rfl,rfl⟩:=he
    exact hk s1 w1 a1 R1
   | ret=>
    simp only[h1,lA,dB] at he
    obtain⟨rfl,rfl⟩:=he
    exact hk s1 w1 a1 R1
theorem zjz(R:SR C h nt ro wro o s w st a)(hro:mN st.H ro=true)(fn:FuncId)(ps:Array Tmp)(assign body:Code):
  ∃(l:Nat) (mark:List Deferred) (w₁:World) (s₁:Nat->Option Nat),
   (Instr.enterLoop fn a.tmps ps assign body wro).run C.P w=.ok (l,mark) w₁/\s₁ st.H.n=some l/\
   SR C h nt ro wro o s₁ w₁ ⟨st.T,st.H.push (.loop ((CB nt).map (PD st.T)) ps.toList assign body .ready none),st.lo⟩ { a with defers:=mark++a.defers }/\
   Ext st.H.n s st.H w s₁ (st.H.push (.loop ((CB nt).map (PD st.T)) ps.toList assign body .ready none)) w₁:=by
 have hlo:min st.lo st.H.n=st.lo:=by have:=R.lon;omega
 cases wro with
 | some l₀=>
  have h0:∃L:Loop,w.heap[l₀]?=some (.loop L):=by
   cases ro with
   | none=>exact absurd R.rd (by simp[Rd])
   | some b=>
    simp only[mN] at hro
    split at hro
    ·rename_i ts ps' as0 bd sta pd hb
     obtain⟨_,L,h1,_⟩:=bV R.hr hb R.rd
     exact⟨L,h1⟩
    ·cases hro
  obtain⟨L,hL⟩:=h0
  have hb:BR (C.ph h) s st.H w (.loop ((CB nt).map (PD st.T)) ps.toList assign body .ready none) (.loop { state:=.ready,pending:=none,fn,tmps:=a.tmps,params:=ps,assign,body,defers:=L.defers }):=
   ⟨_,rfl,by simp,rfl,rfl,rfl,rfl,zpf R.sz R.tm⟩
  obtain⟨m1,m2⟩:=j7 R.hr hb
  have R1:=R.turn m1 m2
  rw[hlo] at R1
  exact⟨_,[],_,_,run_enterLoop_inner hL fn a.tmps ps assign body,by simp,by simpa using R1,m2⟩
 | none=>
  obtain⟨k1,k2⟩:=zox R.hr (.deferred (some []))
  have hb:BR (C.ph h) s st.H (w.alloc (.deferred (some []))) (.loop ((CB nt).map (PD st.T)) ps.toList assign body .ready none) (.loop { state:=.ready,pending:=none,fn,tmps:=a.tmps,params:=ps,assign,body,defers:=w.heap.size }):=
   ⟨_,rfl,by simp,rfl,rfl,rfl,rfl,k2.vhs (zpf R.sz R.tm)⟩
  obtain⟨m1,m2⟩:=j7 k1 hb
  have E:=k2.trans (fun b g hb=>(R.hr.lt hb).1) m2
  rw[Nat.min_self] at E
  have R1:=R.turn m1 E
  rw[hlo] at R1
  refine⟨_,_,_,_,run_enterLoop_outer fn a.tmps ps assign body,by simp,⟨R1.ob,R1.hr,R1.gk,R1.ln,R1.ext,R1.sz,?_,R1.rd,R1.tm⟩,E⟩
  obtain⟨rs,e,hn,hrs⟩:=R.df
  obtain⟨rs',e',hn',hrs'⟩:=R1.df
  refine⟨w.heap.size::rs,by simp[e,mark],JF.2 ⟨fun hm=>?_,hn⟩,fun r hr=>?_⟩
  ·have:=(hrs _ hm).2.1.1
   omega
  ·rcases IB.1 hr with rfl|hr
   ·refine⟨R.ext.size,⟨?_,fun b hb=>?_,fun hh=>?_⟩,?_⟩
    ·simp only[World.size_alloc]
     omega
    ·replace hb:(if b=st.H.n then some (w.alloc (Obj.deferred (some []))).heap.size else s b)=some w.heap.size:=hb
     by_cases e:b=st.H.n
     ·rw[if_pos e] at hb
      injection hb with hb
      simp only[World.size_alloc] at hb
      omega
     ·rw[if_neg e] at hb
      have:=(R.hr.lt hb).2
      omega
    ·have:=R.gk.1 _ hh
     omega
    ·show(((w.heap.push _).push _:Array Obj))[w.heap.size]?=_
     rw[qD,if_neg (by simp),qD,if_pos rfl]
   ·obtain⟨q1,q2,q3⟩:=hrs r hr
    exact⟨q1,E.grow.hp r q2,by rw[E.frame r q2.1 fun b hb=>absurd hb (q2.2.1 b)];exact q3⟩
theorem zlH{n:Nat}{g:FuncId}{args:List V}{cas:Array Value}{r:OR}(hs:C.S g=none)(he:DN C n g args H=some r):(callFunc g cas).run C.P w=.ok (.enter g cas) w:=by
 cases n with
 | zero=>simp[DN] at he
 | succ n=>
  simp only[DN,hs] at he
  split at he
  ·rename_i fn hf
   split at he
   ·rename_i body hb
    cases hn : (fn.name == "runtime.NumGoroutine") with
    | true=>simp[hn] at he
    | false=>
     have hn' : ¬ fn.name = "runtime.NumGoroutine" := by simpa using hn
     simp[callFunc,hf,hn',hb]
   ·cases he
  ·cases he
theorem NT(hC:DV C)(hreg:Fj C)(n:Nat)(ih:∀m,m<n->IS C m)(hfn:∀m,m<n->rg C m)(hop:∀m,m<n->RO C (KK C m)):IS C n:=by
 intro nt ro wro o h c st st' x s w a Q he R hk
 cases n with
 | zero=>simp[AJ] at he
 | succ n=>
  have ih':=ih n (by omega)
  cases c<;>(try (simp[AJ] at he;done))
  case skip=>
   simp only[AJ,lA,dB] at he
   obtain⟨rfl,rfl⟩:=he
   exact wpIn_skip (hk s w a R)
  case label l=>
   simp only[AJ,lA,dB] at he
   obtain⟨rfl,rfl⟩:=he
   exact wpIn_label (hk s w a R)
  case exit i=>
   simp only[AJ,lA,dB] at he
   obtain⟨rfl,rfl⟩:=he
   exact wpIn_exit (hk s w a R)
  case ret=>
   simp only[AJ,lA,dB] at he
   obtain⟨rfl,rfl⟩:=he
   exact wpIn_ret (hk s w a R)
  case region id ops draw=>
   simp only[AJ] at he
   cases draw with
   | false=>
    simp only[cond_false] at he
    split at he
    ·rename_i es st1 h1
     simp only[lA,dB] at he
     obtain⟨rfl,rfl⟩:=he
     exact wpIn_region_list (zkN n (fun m hm=>hop m (by omega)) _ h1 R Q hk)
    ·cases he
   | true=>
    simp only[cond_true] at he
    cases hg:wV ops with
    | false=>simp[hg] at he
    | true=>
     simp only[hg,cond_true] at he
     split at he
     ·rename_i es st1 h1
      cases ho:O3 ops es with
      | false=>simp[ho] at he
      | true=>
       simp only[ho,cond_true,lA,dB] at he
       obtain⟨rfl,rfl⟩:=he
       exact wpIn_region_any hC.mix (hreg n nt ro wro o h s _ st st1 a ops es Q (fun m hm=>hop m (by omega)) hg h1 ho R.drew hk)
     ·cases he
  case seq b d=>
   simp only[AJ] at he
   cases h1:AJ C n ro nt b st with
   | none=>simp[h1] at he
   | some r=>
    obtain⟨y,st1⟩:=r
    refine wpIn_seq (ih' nt ro wro o h b st st1 y s w a _ h1 R fun s1 w1 a1 R1=>?_)
    cases y with
    | normal=>
     simp only[h1] at he
     exact ih' nt ro wro o h d st1 st' x s1 w1 a1 Q he R1 hk
    | exit i=>
     simp only[h1,lA,dB] at he
     obtain⟨rfl,rfl⟩:=he
     exact hk s1 w1 a1 R1
    | ret=>
     simp only[h1,lA,dB] at he
     obtain⟨rfl,rfl⟩:=he
     exact hk s1 w1 a1 R1
  case cond q b d=>
   simp only[AJ] at he
   split at he
   ·rename_i t ht
    have h1:=XM R.gk R.tm q
    rw[ht] at h1
    simp only[VH,VR] at h1
    refine wpIn_cond h1 ?_
    cases t with
    | true=>exact ih' nt ro wro o h b st st' x s w a Q he R hk
    | false=>exact ih' nt ro wro o h d st st' x s w a Q he R hk
   ·cases he
  case block id b=>
   simp only[AJ] at he
   cases h1:AJ C n ro nt b st with
   | none=>simp[h1] at he
   | some r=>
    obtain⟨y,st1⟩:=r
    refine wpIn_block (ih' nt ro wro o h b st st1 y s w a _ h1 R fun s1 w1 a1 R1=>?_)
    cases y with
    | normal=>
     simp only[h1,lA,dB] at he
     obtain⟨rfl,rfl⟩:=he
     exact hk s1 w1 a1 R1
    | exit i=>
     simp only[h1] at he
     simp only[Ex.to,Exit.inBlock]
     by_cases e:i=id
     ·rw[if_pos e]
      simp only[BJ e,cond_true,lA,dB] at he
      obtain⟨rfl,rfl⟩:=he
      exact hk s1 w1 a1 R1
     ·rw[if_neg e]
      simp only[bN e,cond_false,lA,dB] at he
      obtain⟨rfl,rfl⟩:=he
      exact hk s1 w1 a1 R1
    | ret=>
     simp only[h1,lA,dB] at he
     obtain⟨rfl,rfl⟩:=he
     exact hk s1 w1 a1 R1
  case loop b=>exact wpIn_loop_rounds _ (zpI (n+1) ih b st st' x s w a Q he R hk)
  case rangeFunc q ps assign body=>
   simp only[AJ] at he
   cases hro:mN st.H ro with
   | false=>simp[hro] at he
   | true=>
    simp only[hro,cond_true] at he
    split at he
    ·rename_i g first cap hq
     split at he
     ·rename_i hs
      cases hcall:DN C n g (first++[.yld st.H.n]++cap) (st.H.push (.loop ((CB nt).map (PD st.T)) ps.toList assign body .ready none)) with
      | none=>simp only[hcall] at he;cases he
      | some r=>
       simp only[hcall] at he
       have hv:=XM R.gk R.tm q
       rw[hq] at hv
       obtain⟨xs,ys,ev,hx,hy⟩:=hv
       refine wpIn_rangeFunc fun fn _=>?_
       obtain⟨l,mark,w₁,s₁,h1,h2,R1,E1⟩:=zjz R hro fn ps assign body
       have hargs:UG (C.ph h) s₁ (st.H.push (.loop ((CB nt).map (PD st.T)) ps.toList assign body .ready none)) w₁ (first++[.yld st.H.n]++cap) (xs++#[Value.func (.yield l) #[] #[]]++ys).toList:=by
        have h3:UG (C.ph h) s₁ (st.H.push (.loop ((CB nt).map (PD st.T)) ps.toList assign body .ready none)) w₁ [.yld st.H.n] [Value.func (.yield l) #[] #[]]:=⟨_,_,rfl,⟨l,rfl,.inr h2⟩,rfl⟩
        have:=((E1.vhs hx).append h3).append (E1.vhs hy)
        simpa using this
       have hrun:(callFunc g (xs++#[Value.func (.yield l) #[] #[]]++ys)).run C.P w₁=.ok (.enter g (xs++#[Value.func (.yield l) #[] #[]]++ys)) w₁:=zlH hs hcall
       refine⟨l,mark,w₁,{ target:=.fn (.func g) ys,args:=xs++#[Value.func (.yield l) #[] #[]] },w₁,g,xs++#[Value.func (.yield l) #[] #[]]++ys,w₁,h1,?_,fun _ _=>trivial,?_,fun hd=>by simp[FC] at hd,?_⟩
       ·show(nD (a.eval q) _).run C.P w₁=_
        rw[ev]
        simp[nD,Act.eval]
       ·simpa[invoke] using hrun
       ·have hc:CallF C.P g (xs++#[Value.func (.yield l) #[] #[]]++ys) w₁ (fun c w'=>rangePost (WF wro) 0 C.P l Q { a with defers:=mark++a.defers } (.returned c) w'):=by
         refine hfn n (by omega) h s₁ _ w₁ g _ _ r _ R1.hr R1.gk hargs hcall fun c w' s' k1 k2 k3=>?_
         have R2:=R1.turn k2 k3
         split at he
         ·rename_i ts ps' as0 bd sta pd hb
          have hdead:RC r.H st.H.n\/s' st.H.n=some l:=(k3.ss _ _ h2).elim .inr fun x=>.inl x.1
          obtain⟨q1,L,q2,q3,q4,q5,q6,q7,q8⟩:=bV k2 hb hdead
          have fin:sta≠.busy->∃jump w₄,(Instr.endLoop l).run C.P w'=.ok jump w₄/\jump=pd/\SR C h nt ro wro o s' w₄ ⟨st.T,r.H.set st.H.n (.loop ts ps' as0 bd .exhausted pd),min st.lo r.lo⟩ { a with defers:=mark++a.defers }:=by
           intro hsta
           obtain⟨m1,m2⟩:=C7 k2 q1 (st:=.exhausted) (pd:=pd) q2 q3 q4 q5 q8 { L with state:=.exhausted } rfl rfl rfl rfl rfl q7
           have R3:=R2.turn m1 m2
           refine⟨_,_,run_endLoop q2 (by rw[q6];exact hsta),q7,?_⟩
           have e:min (min st.lo r.lo) st.H.n=min st.lo r.lo:=by have:=R.lon;omega
           simpa only[e] using R3
          cases sta with
          | busy=>cases he
          | _=>
           simp only at he
           obtain⟨jump,w₄,f1,rfl,R3⟩:=fin (by simp)
           refine⟨_,w₄,f1,?_⟩
           cases jump with
           | none=>
            simp only[lA,dB] at he
            obtain⟨rfl,rfl⟩:=he
            exact hk _ _ _ R3
           | some cc=>exact ih' nt ro wro o h cc _ st' x s' w₄ _ Q he R3 hk
         ·cases he
        unfold CallF at hc
        rw[hrun] at hc
        simp only at hc
        exact zfP _ (Calls.mono hc fun e w'' hh=>by
         obtain⟨v,rfl,h4⟩:=hh
         exact h4)
     ·cases he
    ·cases he
end
end
section
section
variable {C:Ctx} {nt:Nat} {ro wro:Option Nat} {o:yK} {s s':Nat->Option Nat} {H H':Heap} {w w':World} {st st':St} {a:Act} {lo:Nat} {h:Nat->Prop}
theorem zgE:∀(vs:List V) (i:Nat) (T:Tr V) (t:Nat),PD (ZJ vs i T) t=if i<=t then(vs[t-i]?).getD (PD T t) else PD T t
 | [],i,T,t=>by simp[ZJ]
 | v::vs,i,T,t=>by
  rw[ZJ,zgE vs (i+1)]
  simp only[QM]
  by_cases e:t=i
  ·subst e
   rw[if_neg (by omega),if_pos rfl,if_pos (jA _)]
   simp
  ·by_cases l:i<=t
   ·rw[if_pos (by omega),if_neg e,if_pos l,show t-i=(t-(i+1))+1 by omega]
    simp
   ·rw[if_neg (by omega),if_neg e,if_neg l]
theorem F3{args:List V}{cas:Array Value}(ha:UG (C.ph h) s H w args cas.toList)(k t:Nat):VH (C.ph h) s H w (PD (ZJ args 0 .nil) t) ((cas++lC k undef).getD t undef):=by
 have hl:=ha.length
 rw[zgE,if_pos (Nat.zero_le _),Nat.sub_zero]
 have e:(cas++lC k undef).getD t undef=(cas.toList[t]?).getD undef:=by
  rw[Array.getD_eq_getD_getElem?,Array.getElem?_append]
  by_cases l:t<cas.size
  ·simp[l]
  ·rw[if_neg l,Array.getElem?_replicate]
   have:cas.toList[t]?=none:=by simp;omega
   rw[this]
   split<;>simp
 rw[e]
 cases hv:args[t]? with
 | none=>
  have:cas.toList[t]?=none:=by
   rw[List.getElem?_eq_none_iff] at hv ⊢
   omega
  rw[this]
  simp[PD,Tr.get,VR]
 | some v=>
  obtain⟨c,h1,h2⟩:=ha.get hv
  rw[h1]
  exact h2
theorem shut{P:PH}(hr:HR P s H w){r:Nat}(hp:RE P s w r){q:Option (List Deferred)}(hq:w.heap[r]?=some (.deferred q))(q':Option (List Deferred)):
  HL s s (RC H) (RC H) (RE P s w) (RE P s (put w r (.deferred q'))) w (put w r (.deferred q'))/\HR P s H (put w r (.deferred q')):=by
 have hoth:∀g,g≠r->(put w r (.deferred q')).heap[g]?=w.heap[g]?:=fun g hg=>by rw[ZN,if_neg (fun h=>hg h.1)]
 have G:HL s s (RC H) (RC H) (RE P s w) (RE P s (put w r (.deferred q'))) w (put w r (.deferred q')):=by
  refine⟨fun _ h=>h,fun _ _ h=>.inl h,fun g hg=>⟨by rw[A7];exact hg.1,hg.2⟩,fun g _=>?_,fun g x hx=>?_⟩
  ·by_cases e:g=r
   ·subst e
    intro off c hc
    simp[World.cell?,hq] at hc
   ·exact Sf (hoth g e)
  ·by_cases e:g=r
   ·subst e
    simp only[World.shape?,hq] at hx
    cases hx
   ·simp only[World.shape?] at hx ⊢
    rw[hoth g e];exact hx
 refine⟨G,fun b g hb=>?_,hr.inj⟩
 obtain⟨B,o,h1,h2,h3⟩:=hr.dom b g hb
 have hg:g≠r:=fun e=>hp.2.1 b (e▸hb)
 exact⟨B,o,h1,by rw[hoth g hg];exact h2,h3.mono G⟩
theorem mg{fn:Func}{tmps:Array Value}{w0:World}{s0:Nat->Option Nat}{H0:Heap}{T:Tr V}{R:Ending->World->Prop}{F:Fence}:∀(rs:List Nat) (w:World),HR (C.ph h) s H w->Ext lo s0 H0 w0 s H w->
  (∀t,VH (C.ph h) s H w (PD T t) (tmps.getD t undef))->rs.Nodup->(∀r∈rs,w0.heap.size<=r/\RE (C.ph h) s w r/\w.heap[r]?=some (.deferred (some [])))->
  (∀w',HR (C.ph h) s H w'->Ext lo s0 H0 w0 s H w'->(∀t,VH (C.ph h) s H w' (PD T t) (tmps.getD t undef))->LeavesIn F 0 C.P fn tmps R [] .returning w')->
  LeavesInM F 0 C.P fn tmps R (rs.map mark) .returning w
 | [],w,hr,E,ht,_,_,hk=>hk w hr E ht
 | r::rs,w,hr,E,ht,hn,hm,hk=>by
  obtain⟨h1,h2,h3⟩:=hm r (.head _)
  obtain⟨G,hr'⟩:=shut hr h2 h3 none
  have hn':=JF.1 hn
  have hoth:∀g,g≠r->(put w r (.deferred none)).heap[g]?=w.heap[g]?:=fun g hg=>by rw[ZN,if_neg (fun h=>hg h.1)]
  have E':Ext lo s0 H0 w0 s H (put w r (.deferred none)):=
   ⟨E.os,E.tape,E.output,by rw[A7];exact E.size,E.hn,E.dd,E.ss,fun g hg hb=>by rw[hoth g (by omega)];exact E.frame g hg hb,E.fresh,fun g x hx=>G.hz g x (E.shp g x hx),E.old,E.cov⟩
  refine⟨by simp,.inl ⟨r,put w r (.deferred none),rfl,run_takeDeferred h3,?_⟩⟩
  refine mg rs _ hr' E' (fun t=>gF G _ _ (ht t)) hn'.2 (fun r' hr'=>?_) hk
  obtain⟨q1,q2,q3⟩:=hm r' (.tail _ hr')
  exact⟨q1,G.hp r' q2,by rw[hoth r' (fun e=>hn'.1 (e▸hr'))];exact q3⟩
theorem zid{F:Fence}{n:Nat}{P:Program}{fn:Func}{tmps:Array Value}{R:Ending->World->Prop}:∀(rs:List Nat) (w:World) (fr:Frame) (cs:List Frame),fr.mode=.returning->fr.defers=rs.map mark->F.fn fr.fn->F.room (cs.length+1+n)->
  LeavesInM F n P fn tmps R (rs.map mark) .returning w->∃v w',(results fn tmps).run P w'=.ok v w'/\R (.returned v) w'/\StepsIn (Machine.fenced P F) P (lone fr cs w) (lone { fr with defers:=[] } cs w')
 | [],w,fr,cs,hm,hd,hF,hr,h=>by
  obtain⟨v,h1,h2⟩:=h
  have:({ fr with defers:=[] }:Frame)=fr:=by cases fr;simp only at hd;rw[hd];rfl
  exact⟨v,w,h1,h2,by rw[this];exact StepsIn.refl _⟩
 | r::rs,w,fr,cs,hm,hd,hF,hr,h=>by
  obtain⟨_,h⟩:=h
  rcases h with⟨r',w',ht,hk,hrest⟩|⟨_,fv,cap,f,args,ht,_⟩
  ·injection ht with ht
   subst ht
   have h1:=step_collected (P:=P) (cs:=cs) (w:=w) (w':=w') (fr:=fr) (d:=mark r) (ds:=rs.map mark) (r:=r) (calls:=[]) (by rw[hm];simp) hd rfl hk
   have i1:(lone fr cs w).fenced P F:=fenced_out hF hr (by rw[hm];simp) hd (fun g hg=>by simp[mark,Target.leads] at hg)
   obtain⟨v,w2,k1,k2,k3⟩:=zid rs w' { fr with defers:=[]++rs.map mark } cs hm rfl hF hr hrest
   exact⟨v,w2,k1,k2,.head i1 h1 k3⟩
  ·cases ht
theorem ziW{P:Program}{f:FuncId}{fn:Func}{c:Code}{args:Array Value}{u:FrameMode}{w:World}{R:Value->World->Prop}(hf:P.funcs[f]?=some fn)(hb:fn.body=some c)
  (h:c.wpIn FC 0 P (fun x a w=>(x=.normal\/x=.ret)/\∃rs:List Nat,a.defers=rs.map mark/\LeavesInM FC 0 P fn a.tmps (fun e w=>∃v,e=.returned v/\R v w) (rs.map mark) .returning w) { tmps:=args++lC (fn.ntmps-args.size) undef,defers:=[] } w):
  CallsDIn FC 0 P f args u w fun e u' w'=>u'=u/\∃v,e=.returned v/\R v w':=by
 refine⟨trivial,fun c₀ cs hu hr=>?_⟩
 let b:Frame:={ (default:Frame) with fn:=f,kind:=.deferred,roundOf:=none }
 have henter:Frame.enter P f args .deferred=b.atR { tmps:=args++lC (fn.ntmps-args.size) undef,defers:=[] } [.code c]:=by
  simp[Frame.enter,Frame.atR,hf,hb,b]
 have hc:({ c₀ with mode:=u }:Frame)=c₀:=by subst hu;rfl
 obtain⟨e,a',w',⟨hx,rs,hd,hl⟩,harr⟩:=h b [] (c₀::cs) rfl trivial hr
 rw[<-henter] at harr
 have fin:∀fr:Frame,fr.mode=.returning->fr.defers=a'.defers->fr.tmps=a'.tmps->fr.fn=f->fr.kind=.deferred->StepsIn (Machine.fenced P FC) P (lone (Frame.enter P f args .deferred) (c₀::cs) w) (lone fr (c₀::cs) w')->
   ∃e u' w' fr,(u'=u/\∃v,e=.returned v/\R v w')/\ComesIn (Machine.fenced P FC) P (lone (Frame.enter P f args .deferred) (c₀::cs) w) (lone fr ({ c₀ with mode:=u' }::cs) w') e/\fr.kind=.deferred/\fr.fn=f/\fr.going P w' e:=by
  intro fr h1 h2 h3 h4 h5 h6
  obtain⟨v,w2,k1,⟨v',k2,k3⟩,k4⟩:=zid rs w' fr (c₀::cs) h1 (h2.trans hd) trivial hr hl
  injection k2 with k2
  subst k2
  exact⟨.returned v,u,w2,{ fr with defers:=[] },⟨rfl,v,rfl,k3⟩,by rw[hc];exact StepsIn.trans h6 k4,h5,h4,h1,rfl,fn,by rw[show({ fr with defers:=[] }:Frame).fn=f from h4];exact hf,by rw[show({ fr with defers:=[] }:Frame).tmps=a'.tmps from h3];exact k1⟩
 rcases hx with rfl|rfl
 ·exact fin { b.atR a' [] with mode:=.returning } rfl rfl rfl rfl rfl (StepsIn.trans harr (.one (fenced_calm (fr:=b.atR a' []) trivial hr rfl) (stepR_end rfl)))
 ·obtain⟨todo,hs⟩:=harr.1 rfl
  exact fin { b.atR a' todo with mode:=.returning } rfl rfl rfl rfl rfl hs
def DR(P:PH)(lo:Nat)(s:Nat->Option Nat)(H:Heap)(w:World):List (V×List V)->List Deferred->Prop
 | ds,[]=>ds=[]
 | ds,d::rest=>(∃r,d=mark r/\lo<=r/\RE P s w r/\w.heap[r]?=some (.deferred (some []))/\(∀r',mark r'∈rest->r'≠r)/\DR P lo s H w ds rest)\/
  (∃f as0 ds' fn xs ys cas,ds=(f,as0)::ds'/\VH P s H w f (.func fn xs ys)/\UG P s H w as0 cas/\d={ target:=.fn fn ys,args:=xs++cas.toArray }/\DR P lo s H w ds' rest)
theorem DR.ext{P:PH}{l:Nat}(E:Ext lo s H w s' H' w'):∀{ds:List (V×List V)} {rest:List Deferred},DR P l s H w ds rest->DR P l s' H' w' ds rest
 | ds,[],h=>h
 | ds,d::rest,h=>by
  rcases h with⟨r,h1,h2,h3,h4,h5,h6⟩|⟨f,as0,ds',fn,xs,ys,cas,h1,h2,h3,h4,h5⟩
  ·exact .inl ⟨r,h1,h2,E.grow.hp r h3,by rw[E.frame r h3.1 fun b hb=>absurd hb (h3.2.1 b)];exact h4,h5,DR.ext E h6⟩
  ·exact .inr ⟨f,as0,ds',fn,xs,ys,cas,h1,E.vh h2,E.vhs h3,h4,DR.ext E h5⟩
theorem DR.shut{P:PH}{l:Nat}{r:Nat}{q:Option (List Deferred)}(G:HL s s (RC H) (RC H) (RE P s w) (RE P s (put w r (.deferred q))) w (put w r (.deferred q))):∀{ds:List (V×List V)} {rest:List Deferred},(∀r',mark r'∈rest->r'≠r)->DR P l s H w ds rest->DR P l s H (put w r (.deferred q)) ds rest
 | ds,[],_,h=>h
 | ds,d::rest,hne,h=>by
  rcases h with⟨r',h1,h2,h3,h4,h5,h6⟩|⟨f,as0,ds',fn,xs,ys,cas,h1,h2,h3,h4,h5⟩
  ·refine .inl ⟨r',h1,h2,G.hp r' h3,?_,h5,DR.shut G (fun r' hr=>hne r' (.tail _ hr)) h6⟩
   rw[ZN,if_neg (fun e=>hne r' (h1▸.head _) e.1)]
   exact h4
  ·exact .inr ⟨f,as0,ds',fn,xs,ys,cas,h1,gF G _ _ h2,VRs.mono G _ _ h3,h4,DR.shut G (fun r' hr=>hne r' (.tail _ hr)) h5⟩
theorem DR.marks{P:PH}{l:Nat}:∀{rs:List Nat} {ds:List (V×List V)} {rest:List Deferred},rs.Nodup->(∀r∈rs,l<=r/\RE P s w r/\w.heap[r]?=some (.deferred (some []))/\∀r',mark r'∈rest->r'≠r)->DR P l s H w ds rest->DR P l s H w ds (rs.map mark++rest)
 | [],ds,rest,_,_,h=>h
 | r::rs,ds,rest,hn,hm,h=>by
  obtain⟨h1,h2,h3,h4⟩:=hm r (.head _)
  have hn':=JF.1 hn
  refine .inl ⟨r,rfl,h1,h2,h3,fun r' hr=>?_,DR.marks hn'.2 (fun r' hr=>hm r' (.tail _ hr)) h⟩
  rcases List.mem_append.1 hr with hr|hr
  ·obtain⟨q,hq,e⟩:=List.mem_map.1 hr
   injection e with e
   injection e with e
   subst e
   exact fun e=>hn'.1 (e▸hq)
  ·exact h4 r' hr
def Uj(C:Ctx)(n:Nat):Prop:=
 ∀(h:Nat->Prop) (s:Nat->Option Nat) (H:Heap) (w:World) (g:FuncId) (args:List V) (cas:Array Value) (r:OR) (K:Value->World->Prop),
  HR (C.ph h) s H w->GOK C h s w->UG (C.ph h) s H w args cas.toList->C.S g=none->defers C.P g=false->DN C n g args H=some r->
  (∀c w' s',VH (C.ph h) s' r.H w' r.v c->HR (C.ph h) s' r.H w'->Ext r.lo s H w s' r.H w'->K c w')->∀u,CallsDIn FC 0 C.P g cas u w fun e u' w'=>u'=u/\∃v,e=.returned v/\K v w'
theorem zpO{fn:Func}{tmps:Array Value}{w0:World}{s0:Nat->Option Nat}{H0:Heap}{T:Tr V}{R:Ending->World->Prop}(hob:∀b g,s0 b=some g->b<H0.n):∀(rest:List Deferred) (n:Nat) (hfd:∀m,m<n->Uj C m) (ds:List (V×List V)) (s:Nat->Option Nat) (H H':Heap) (w:World) (lo lo':Nat),
  IX C n ds H lo=some (H',lo')->DR (C.ph h) w0.heap.size s H w ds rest->HR (C.ph h) s H w->GOK C h s w->Ext lo s0 H0 w0 s H w->(∀t,VH (C.ph h) s H w (PD T t) (tmps.getD t undef))->
  (∀s' w',HR (C.ph h) s' H' w'->GOK C h s' w'->Ext lo' s0 H0 w0 s' H' w'->(∀t,VH (C.ph h) s' H' w' (PD T t) (tmps.getD t undef))->LeavesIn FC 0 C.P fn tmps R [] .returning w')->
  LeavesInM FC 0 C.P fn tmps R rest .returning w
 | [],n,_,ds,s,H,H',w,lo,lo',he,hd,hr,hg,E,ht,hk=>by
  have hd:ds=[]:=hd
  subst hd
  cases n with
  | zero=>simp[IX] at he
  | succ n=>
   simp only[IX,lA,dB] at he
   obtain⟨rfl,rfl⟩:=he
   exact hk s w hr hg E ht
 | d::rest,n,hfd,ds,s,H,H',w,lo,lo',he,hd,hr,hg,E,ht,hk=>by
  rcases hd with⟨r,rfl,h1,h2,h3,h4,h5⟩|⟨f,as0,ds',fn',xs,ys,cas,rfl,h2,h3,rfl,h5⟩
  ·obtain⟨G,hr'⟩:=shut hr h2 h3 none
   have hoth:∀g,g≠r->(put w r (.deferred none)).heap[g]?=w.heap[g]?:=fun g hg=>by rw[ZN,if_neg (fun h=>hg h.1)]
   have E':Ext lo s0 H0 w0 s H (put w r (.deferred none)):=
    ⟨E.os,E.tape,E.output,by rw[A7];exact E.size,E.hn,E.dd,E.ss,fun g hg hb=>by rw[hoth g (by omega)];exact E.frame g hg hb,E.fresh,fun g x hx=>G.hz g x (E.shp g x hx),E.old,E.cov⟩
   have hg':GOK C h s (put w r (.deferred none)):=by
    refine⟨fun g hh=>by rw[A7];exact hg.1 g hh,fun g cs hc=>?_⟩
    obtain⟨q1,vs,q2,q3⟩:=hg.2 g cs hc
    refine⟨G.hp g q1,vs,VRs.mono ⟨fun _ h=>h,fun _ _ h=>.inl h,fun _ h=>h,fun _ (h:False)=>h.elim,G.hz⟩ _ _ q2,?_⟩
    intro i c hi
    exact G.hw g q1 _ _ (q3 i c hi)
   exact⟨by simp,.inl ⟨r,put w r (.deferred none),rfl,run_takeDeferred h3,zpO hob rest n hfd ds s H H' _ lo lo' he (DR.shut G h4 h5) hr' hg' E' (fun t=>gF G _ _ (ht t)) hk⟩⟩
  ·cases n with
   | zero=>simp[IX] at he
   | succ n=>
    unfold IX at he
    split at he
    ·rename_i g first cap
     split at he
     ·cases he
     ·rename_i hs
      cases hdf:defers C.P g with
      | true=>rw[hdf] at he;cases he
      | false=>
       rw[hdf] at he
       simp only[cond_false] at he
       split at he
       ·rename_i r hc
        obtain⟨xs',ys',e,k1,k2⟩:=h2
        injection e with e1 e2 e3
        subst e1 e2 e3
        have hargs:UG (C.ph h) s H w (first++as0++cap) (xs++cas.toArray++ys).toList:=by
         have:=(k1.append h3).append k2
         simpa using this
        refine⟨by simp,.inr ⟨fun hd=>by simp[FC] at hd,.func g,ys,g,xs++cas.toArray++ys,rfl,zlH hs hc,fun _ _=>trivial,?_⟩⟩
        refine CallsDIn.mono (hfd n (by omega) h s H w g _ _ r (fun _ w'=>LeavesInM FC 0 C.P fn tmps R rest .returning w') hr hg hargs hs hdf hc (fun c w' s' q1 q2 q3=>?_) .returning) ?_
        ·have E2:=E.trans hob q3
         exact zpO hob rest n (fun m hm=>hfd m (by omega)) ds' s' r.H H' w' _ lo' he (DR.ext q3 h5) q2 (hg.ext q3) E2 (fun t=>q3.vh (ht t)) hk
        ·rintro e u' w' ⟨rfl,v,rfl,hq⟩
         exact hq
       ·cases he
    ·cases he
structure SD(C:Ctx)(h:Nat->Prop)(nt:Nat)(o:yK)(s:Nat->Option Nat)(w:World)(st:St)(a:Act)(ds:List (V×List V)):Prop where
 ob:∀b g,o.s b=some g->b<o.H.n
 hr:HR (C.ph h) s st.H w
 gk:GOK C h s w
 ln:st.lo<=o.H.n
 ext:Ext st.lo o.s o.H o.w s st.H w
 sz:a.tmps.size=nt
 dr:DR (C.ph h) o.w.heap.size s st.H w ds a.defers
 tm:∀t,VH (C.ph h) s st.H w (PD st.T t) (a.tmps.getD t undef)
theorem DR.lt{P:PH}{l:Nat}:∀{ds:List (V×List V)} {rest:List Deferred} {r:Nat},DR P l s H w ds rest->mark r∈rest->r<w.heap.size
 | ds,d::rest,r,h,hr=>by
  rcases h with⟨r',h1,h2,h3,h4,h5,h6⟩|⟨f,as0,ds',fn,xs,ys,cas,h1,h2,h3,h4,h5⟩
  ·rcases IB.1 hr with e|hr
   ·rw[h1] at e
    injection e with e
    injection e with e
    subst e
    exact h3.1
   ·exact DR.lt h6 hr
  ·rcases IB.1 hr with e|hr
   ·rw[h4] at e
    injection e with e
    cases e
   ·exact DR.lt h5 hr
theorem SD.sr{ds:List (V×List V)}(D:SD C h nt o s w st a ds):SR C h nt none none ⟨s,st.H,w,a.defers⟩ s w st a:=
 ⟨fun b g hb=>(D.hr.lt hb).1,D.hr,D.gk,cB D.ln D.ext.hn,(Ext.refl s st.H w).weak (cB D.ln D.ext.hn),D.sz,⟨[],rfl,dE,fun r hr=>by cases hr⟩,trivial,D.tm⟩
theorem SD.back{ds:List (V×List V)}{a':Act}(D:SD C h nt o s w st a ds)(R:SR C h nt none none ⟨s,st.H,w,a.defers⟩ s' w' st' a'):SD C h nt o s' w' ⟨st'.T,st'.H,min st.lo st'.lo⟩ a' ds:=by
 refine⟨D.ob,R.hr,R.gk,cB (NI _ _) D.ln,D.ext.trans D.ob R.ext,R.sz,?_,R.tm⟩
 obtain⟨rs,e,hn,hm⟩:=R.df
 rw[e]
 have hsz:=D.ext.size
 refine DR.marks hn (fun r hr=>?_) (DR.ext R.ext D.dr)
 obtain⟨h1,h2,h3⟩:=hm r hr
 have h1':w.heap.size<=r:=h1
 refine⟨by omega,h2,h3,fun r' hr' e=>?_⟩
 have:=DR.lt D.dr hr'
 omega
def Gj(C:Ctx)(n:Nat):Prop:=
 ∀(nt:Nat) (o:yK) (h:Nat->Prop) (c:Code) (st st':St) (x:Ex) (s:Nat->Option Nat) (w:World) (a:Act) (ds ds':List (V×List V)) (Q:Exit->Act->World->Prop),
  JX C n nt c st=some (x,st',ds')->SD C h nt o s w st a ds->(∀s' w' a',SD C h nt o s' w' st' a' (ds'++ds)->Q x.to a' w')->c.wpIn FC 0 C.P Q a w
theorem zln{l init:List Oper}{dst:Option Tmp}{f:Operand}{args:List Operand}(h:zih l=some (init,dst,f,args)):∃(d:Oper) (c:Call),l=init++[d]/\d.op=.defer c/\d.guard=none/\c.callee=.value f/\c.args.toList=args/\d.dst=dst:=by
 unfold zih at h
 split at h
 ·rename_i d r hr
  split at h
  ·rename_i c ho hg
   split at h
   ·rename_i f' hf
    simp only[lA,dB] at h
    obtain⟨rfl,rfl,rfl,rfl⟩:=h
    refine⟨d,c,?_,ho,hg,hf,rfl,rfl⟩
    have:=congrArg List.reverse hr
    simpa using this
   ·cases h
  ·cases h
 ·cases h
theorem WP(n:Nat)(ihd:∀m,m<n->Gj C m)(ih:∀m,m<n->IS C m)(hop:∀m,m<n->RO C (KK C m)):Gj C n:=by
 intro nt o h c st st' x s w a ds ds' Q he D hk
 cases n with
 | zero=>simp[JX] at he
 | succ n=>
  have plain:∀c:Code,mU st (AJ C n none nt c st)=some (x,st',ds')->c.wpIn FC 0 C.P Q a w:=by
   intro c he
   unfold mU at he
   split at he
   ·rename_i y st1 h1
    simp only[lA,dB] at he
    obtain⟨rfl,rfl,rfl⟩:=he
    exact ih n (by omega) nt none none _ h c st st1 y s w a Q h1 D.sr fun s' w' a' R=>hk s' w' a' (D.back R)
   ·cases he
  cases c
  case seq b d=>
   simp only[JX] at he
   split at he
   ·rename_i y st1 ds1 h1
    refine wpIn_seq (ihd n (by omega) nt o h b st st1 y s w a ds ds1 _ h1 D fun s1 w1 a1 D1=>?_)
    cases y with
    | normal=>
     simp only at he
     split at he
     ·rename_i z st2 ds2 h2
      simp only[lA,dB] at he
      obtain⟨rfl,rfl,rfl⟩:=he
      exact ihd n (by omega) nt o h d st1 st2 z s1 w1 a1 _ ds2 Q h2 D1 fun s' w' a' D2=>hk s' w' a' (by rw[List.append_assoc];exact D2)
     ·cases he
    | exit i=>
     simp only[lA,dB] at he
     obtain⟨rfl,rfl,rfl⟩:=he
     exact hk s1 w1 a1 D1
    | ret=>
     simp only[lA,dB] at he
     obtain⟨rfl,rfl,rfl⟩:=he
     exact hk s1 w1 a1 D1
   ·cases he
  case region id ops draw=>
   simp only[JX] at he
   split at he
   ·rename_i init dst f args hl
    obtain⟨dop,c,e1,e2,e3,e4,e5,e6⟩:=zln hl
    cases draw with
    | true=>cases he
    | false=>
     simp only[cond_false] at he
     cases hdst:nL nt dst with
     | false=>rw[hdst] at he;cases he
     | true=>
      rw[hdst] at he
      simp only[cond_true] at he
      split at he
      ·rename_i es st1 h1
       split at he
       ·rename_i g fa fb hfn
        simp only[lA,dB] at he
        obtain⟨rfl,rfl,rfl⟩:=he
        refine wpIn_region_list ?_
        rw[e1]
        refine zkM (wro:=none) n (fun m hm=>hop m (by omega)) init [dop] h1 D.sr Q fun s1 w1 a1 R1=>?_
        have hf:=XM R1.gk R1.tm f
        rw[hfn] at hf
        obtain⟨xs,ys,ev,q1,q2⟩:=hf
        have hargs:UG (C.ph h) s1 st1.H w1 (args.map (HD C st1.T)) (args.map a1.eval):=VRs.ofMap (fun x=>XM R1.gk R1.tm x) _
        have D1:=D.back R1
        refine wpListIn_plain e3 fun K hK=>⟨fun _ _=>trivial,?_⟩
        have hrun:(dop.semAt (WF none).round a1.eval).run C.P w1=.ok (.defer { target:=.fn g ys,args:=xs++(args.map a1.eval).toArray }) w1:=by
         have ea:c.args.map a1.eval=(args.map a1.eval).toArray:=by
          apply xF
          simp[<-e5]
         show(execOp a1.eval dop).run C.P w1=_
         simp[execOp,e2,resolve,e4,ev,nD,ea]
        rw[hrun]
        refine hK _ _ (hk s1 w1 _ ?_)
        have hput:∀t,VH (C.ph h) s1 st1.H w1 (PD (OG st1.T dst EH) t) ((({ a1 with defers:={ target:=.fn g ys,args:=xs++(args.map a1.eval).toArray }::a1.defers }:Act).put dop.dst undef).tmps.getD t undef):=by
         intro t
         rw[e6]
         exact zpq (a:={ a1 with defers:={ target:=.fn g ys,args:=xs++(args.map a1.eval).toArray }::a1.defers }) (v:=EH) (c:=undef) hdst R1.sz R1.tm ⟨#[],rfl,by simp[VRs]⟩ t
        refine⟨D1.ob,D1.hr,D1.gk,D1.ln,D1.ext,by rw[zh3];exact R1.sz,?_,hput⟩
        rw[zfx]
        exact .inr ⟨.fn g fa fb,args.map (HD C st1.T),ds,g,xs,ys,args.map a1.eval,rfl,⟨xs,ys,rfl,q1,q2⟩,hargs,rfl,D1.dr⟩
       ·cases he
      ·cases he
   ·exact plain _ he
  all_goals exact plain _ (by simpa only[JX] using he)
theorem Contract.mcall{g:FuncId}{F:List V->Option V}{args as0:List V}{v:V}(hF:Contract C g F)(h1:args.mapM (kM H 50)=some as0)(h2:F as0=some v){Q:OR->Prop}(hQ:Q ⟨v,H,H.n⟩):MCall C g args H Q:=by
 intro h s w cas K hr hg ha hk
 have h3:VRs (szP C.P) (fun _=>none) (fun _=>False) (fun g=>g<w.heap.size) w as0 cas.toList:=zkc (P:=C.ph h) (fun v u c e e'=>Rj hr 50 e e') h1 ha
 have h4:=hF w as0 cas v hg.gw h3 h2
 have fin:∀c w',(VR (szP C.P) (fun _=>none) (fun _=>False) (fun g=>w.heap.size<=g/\g<w'.heap.size) w' v c/\RowKit.Below w.heap.size w w'/\(∀g x,w.shape? g=some x->w'.shape? g=some x))->K c w':=by
  rintro c w' ⟨k1,k2,k3⟩
  have E:Ext H.n s H w s H w':=⟨k2.os,k2.tape,k2.output,k2.size,jA _,fun _ h=>h,fun _ _ h=>.inl h,fun g hg _=>k2.block g hg,fun _ _ h=>.inl h,k3,fun _ _ _=>rfl,fun b h h'=>by omega⟩
  have hr':HR (C.ph h) s H w':=⟨fun b g hb=>by
   obtain⟨B,q,h1,h2,h3⟩:=hr.dom b g hb
   exact⟨B,q,h1,by rw[k2.block g (hr.lt hb).2];exact h2,h3.mono E.grow⟩,hr.inj⟩
  refine hk _ hQ c w' s ?_ hr' E
  refine gF ⟨fun _ (h:False)=>h.elim,fun _ _ (h:none=some _)=>(nomatch h),?_,fun _ _ _ _ h=>h,fun _ _ h=>h⟩ v c k1
  rintro g ⟨g1,g2⟩
  refine⟨g2,fun b hb=>?_,fun hh=>?_⟩
  ·have:=(hr.lt hb).2;omega
  ·have:=hg.1 g hh;omega
 unfold CallF at h4 ⊢
 split at h4
 ·rename_i v' w' e
  exact fin _ _ h4
 ·rename_i g' as' w1 e
  exact Calls.mono h4 fun e w'' hh=>by
   obtain⟨v',rfl,h5⟩:=hh
   exact⟨v',rfl,fin _ _ h5⟩
 ·exact h4.elim
theorem QT(hC:DV C)(n:Nat)(ih:∀m,m<n->IS C m)(ihd:∀m,m<n->Gj C m)(hfd:∀m,m<n->Uj C m):rg C n:=by
 intro h s H w g args cas r K hr hg ha he hk
 cases n with
 | zero=>simp[DN] at he
 | succ n=>
  simp only[DN] at he
  split at he
  ·rename_i F hF
   replace hF:C.S g=some (.pure F):=hF
   simp only[pA,nA,lA] at he
   obtain⟨as0,h1,v,h2,rfl⟩:=he
   have h3:VRs (szP C.P) (fun _=>none) (fun _=>False) (fun g=>g<w.heap.size) w as0 cas.toList:=zkc (P:=C.ph h) (fun v u c e e'=>Rj hr 50 e e') h1 ha
   have h4:=(hC.sums g _ hF:Contract C g F) w as0 cas v hg.gw h3 h2
   have fin:∀c w',(VR (szP C.P) (fun _=>none) (fun _=>False) (fun g=>w.heap.size<=g/\g<w'.heap.size) w' v c/\RowKit.Below w.heap.size w w'/\(∀g x,w.shape? g=some x->w'.shape? g=some x))->K c w':=by
    rintro c w' ⟨k1,k2,k3⟩
    have E:Ext H.n s H w s H w':=⟨k2.os,k2.tape,k2.output,k2.size,jA _,fun _ h=>h,fun _ _ h=>.inl h,fun g hg _=>k2.block g hg,fun _ _ h=>.inl h,k3,fun _ _ _=>rfl,fun b h h'=>by omega⟩
    have hr':HR (C.ph h) s H w':=⟨fun b g hb=>by
     obtain⟨B,q,h1,h2,h3⟩:=hr.dom b g hb
     exact⟨B,q,h1,by rw[k2.block g (hr.lt hb).2];exact h2,h3.mono E.grow⟩,hr.inj⟩
    refine hk c w' s ?_ hr' E
    refine gF ⟨fun _ (h:False)=>h.elim,fun _ _ (h:none=some _)=>(nomatch h),?_,fun _ _ _ _ h=>h,fun _ _ h=>h⟩ v c k1
    rintro g ⟨g1,g2⟩
    refine⟨g2,fun b hb=>?_,fun hh=>?_⟩
    ·have:=(hr.lt hb).2;omega
    ·have:=hg.1 g hh;omega
   unfold CallF at h4 ⊢
   split at h4
   ·rename_i v' w' e
    exact fin _ _ h4
   ·rename_i g' as' w1 e
    exact Calls.mono h4 fun e w'' hh=>by
     obtain⟨v',rfl,h5⟩:=hh
     exact⟨v',rfl,fin _ _ h5⟩
   ·exact h4.elim
  ·rename_i F hF
   exact(hC.sums g _ hF:∀args H r,F args H=some r->MCall C g args H (·=r)) args H r he h s w cas K hr hg ha (fun r' e=>by
    subst e;exact hk)
  ·split at he
   ·rename_i fn hf
    split at he
    ·rename_i body hb
     cases hn : (fn.name == "runtime.NumGoroutine") with
     | true=>simp[hn] at he
     | false=>
      simp only[hn,cond_false] at he
      have h0:(callFunc g cas).run C.P w=.ok (.enter g cas) w:=by
       have hn' : ¬ fn.name = "runtime.NumGoroutine" := by simpa using hn
       simp[callFunc,hf,hn',hb]
      have hl:=ha.length
      have R:SR C h (max args.length fn.ntmps) none none ⟨s,H,w,[]⟩ s w ⟨ZJ args 0 .nil,H,H.n⟩ { tmps:=cas++lC (fn.ntmps-cas.size) undef,defers:=[] }:=by
       refine⟨fun b g hb=>(hr.lt hb).1,hr,hg,jA _,Ext.refl _ _ _,?_,⟨[],rfl,dE,fun r hr=>by cases hr⟩,trivial,F3 ha _⟩
       simp only[cC] at hl
       simp only[uD,VE]
       omega
      have fin:∀st vs,aL C st.T st.H fn.results.toList=some vs->r=⟨YL vs,st.H,st.lo⟩->∀s' w' a',SR C h (max args.length fn.ntmps) none none ⟨s,H,w,[]⟩ s' w' st a'->
        LeavesInM FC 0 C.P fn a'.tmps (fun e w'=>∃v,e=.returned v/\K v w') a'.defers .returning w':=by
       intro st vs h1 h2 s' w' a' R'
       obtain⟨rs,e,hn,hm⟩:=R'.df
       simp only[MA] at e
       rw[e]
       refine mg rs w' R'.hr R'.ext R'.tm hn hm fun w2 k1 k2 k3=>?_
       obtain⟨c,h3,h4⟩:=xf (a:=a') k1 k3 h1
       subst h2
       exact⟨c,h3,c,rfl,hk c w2 s' h4 k1 k2⟩
      unfold CallF
      rw[h0]
      simp only
      refine(callsIn_wide (n:=0)).1 (callsIn_of_wp_marks hf hb trivial ?_)
      cases hdf:sO body with
      | true=>
       rw[hdf] at he
       simp only[cond_true] at he
       split at he
       ·rename_i x st ds hx
        have fin2:∀H' lo' vs,IX C n ds st.H st.lo=some (H',lo')->aL C st.T H' fn.results.toList=some vs->r=⟨YL vs,H',lo'⟩->∀s' w' a',SD C h (max args.length fn.ntmps) ⟨s,H,w,[]⟩ s' w' st a' (ds++[])->
          LeavesInM FC 0 C.P fn a'.tmps (fun e w'=>∃v,e=.returned v/\K v w') a'.defers .returning w':=by
         intro H' lo' vs h1 h2 h3 s' w' a' D'
         rw[MA] at D'
         refine zpO (T:=st.T) D'.ob a'.defers n (fun m hm=>hfd m (by omega)) ds s' st.H H' w' st.lo lo' h1 D'.dr D'.hr D'.gk D'.ext D'.tm fun s2 w2 k1 k2 k3 k4=>?_
         obtain⟨c,q3,q4⟩:=xf (a:=a') k1 k4 h2
         subst h3
         exact⟨c,q3,c,rfl,hk c w2 s2 q4 k1 k3⟩
        have D0:SD C h (max args.length fn.ntmps) ⟨s,H,w,[]⟩ s w ⟨ZJ args 0 .nil,H,H.n⟩ { tmps:=cas++lC (fn.ntmps-cas.size) undef,defers:=[] } []:=⟨R.ob,R.hr,R.gk,R.ln,R.ext,R.sz,rfl,R.tm⟩
        cases x with
        | exit i=>cases he
        | normal=>
         simp only at he
         split at he
         ·rename_i H' lo' hd
          split at he
          ·rename_i vs hv
           injection he with he
           exact ihd n (by omega) _ _ h body _ st .normal s w _ [] ds _ hx D0 fun s' w' a' D'=>fin2 H' lo' vs hd hv he.symm s' w' a' D'
          ·cases he
         ·cases he
        | ret=>
         simp only at he
         split at he
         ·rename_i H' lo' hd
          split at he
          ·rename_i vs hv
           injection he with he
           exact ihd n (by omega) _ _ h body _ st .ret s w _ [] ds _ hx D0 fun s' w' a' D'=>fin2 H' lo' vs hd hv he.symm s' w' a' D'
          ·cases he
         ·cases he
       ·cases he
      | false=>
      rw[hdf] at he
      simp only[cond_false] at he
      split at he
      ·rename_i st h1
       simp only[pA,nA,lA] at he
       obtain⟨vs,h2,h3⟩:=he
       exact ih n (by omega) _ none none _ h body _ st .normal s w _ _ h1 R fun s' w' a' R'=>fin st vs h2 h3.symm s' w' a' R'
      ·rename_i st h1
       simp only[pA,nA,lA] at he
       obtain⟨vs,h2,h3⟩:=he
       exact ih n (by omega) _ none none _ h body _ st .ret s w _ _ h1 R fun s' w' a' R'=>fin st vs h2 h3.symm s' w' a' R'
      ·cases he
    ·cases he
   ·cases he
theorem bQ(hC:DV C)(n:Nat)(ih:∀m,m<n->IS C m):Uj C n:=by
 intro h s H w g args cas r K hr hg ha hs hdf he hk u
 cases n with
 | zero=>simp[DN] at he
 | succ n=>
  simp only[DN,hs] at he
  split at he
  ·rename_i fn hf
   split at he
   ·rename_i body hb
    cases hn : (fn.name == "runtime.NumGoroutine") with
    | true=>simp[hn] at he
    | false=>
     simp only[hn,cond_false] at he
     have hdb:sO body=false:=by simpa only[defers,hf,hb] using hdf
     rw[hdb] at he
     simp only[cond_false] at he
     have hl:=ha.length
     have R:SR C h (max args.length fn.ntmps) none none ⟨s,H,w,[]⟩ s w ⟨ZJ args 0 .nil,H,H.n⟩ { tmps:=cas++lC (fn.ntmps-cas.size) undef,defers:=[] }:=by
      refine⟨fun b g hb=>(hr.lt hb).1,hr,hg,jA _,Ext.refl _ _ _,?_,⟨[],rfl,dE,fun r hr=>by cases hr⟩,trivial,F3 ha _⟩
      simp only[cC] at hl
      simp only[uD,VE]
      omega
     have fin:∀st vs,aL C st.T st.H fn.results.toList=some vs->r=⟨YL vs,st.H,st.lo⟩->∀s' w' a',SR C h (max args.length fn.ntmps) none none ⟨s,H,w,[]⟩ s' w' st a'->
       ∃rs:List Nat,a'.defers=rs.map mark/\LeavesInM FC 0 C.P fn a'.tmps (fun e w'=>∃v,e=.returned v/\K v w') (rs.map mark) .returning w':=by
      intro st vs h1 h2 s' w' a' R'
      obtain⟨rs,e,hn,hm⟩:=R'.df
      simp only[MA] at e
      refine⟨rs,e,mg rs w' R'.hr R'.ext R'.tm hn hm fun w2 k1 k2 k3=>?_⟩
      obtain⟨c,h3,h4⟩:=xf (a:=a') k1 k3 h1
      subst h2
      exact⟨c,h3,c,rfl,hk c w2 s' h4 k1 k2⟩
     refine ziW hf hb ?_
     split at he
     ·rename_i st h1
      simp only[pA,nA,lA] at he
      obtain⟨vs,h2,h3⟩:=he
      exact ih n (by omega) _ none none _ h body _ st .normal s w _ _ h1 R fun s' w' a' R'=>⟨.inl rfl,fin st vs h2 h3.symm s' w' a' R'⟩
     ·rename_i st h1
      simp only[pA,nA,lA] at he
      obtain⟨vs,h2,h3⟩:=he
      exact ih n (by omega) _ none none _ h body _ st .ret s w _ _ h1 R fun s' w' a' R'=>⟨.inr rfl,fin st vs h2 h3.symm s' w' a' R'⟩
     ·cases he
   ·cases he
  ·cases he
theorem zlv{ps:List Tmp}{cas:List Value}{tmps:Array Value}:(ps.toArray.zip cas.toArray).foldl (fun(tmps:Array Value) (x:Tmp×Value)=>tmps.setIfInBounds x.1 x.2) tmps=(ps.zip cas).foldl (fun(tmps:Array Value) (x:Tmp×Value)=>tmps.setIfInBounds x.1 x.2) tmps:=by
 simp
theorem iR(n:Nat)(ih:IS C n){b:Nat}{args:List V}{cas:List Value}{r:OR}{K:Value->World->Prop}(hr:HR (C.ph h) s H w)(hg:GOK C h s w)(ha:UG (C.ph h) s H w args cas){l:Nat}(hl:RC H b\/s b=some l)
  (he:KK C (n+1) (.yld b) args H=some r) (hk:∀c w' s',VH (C.ph h) s' r.H w' r.v c->HR (C.ph h) s' r.H w'->Ext r.lo s H w s' r.H w'->K c w'):eP C.P wro (.func (.yield l) #[] #[]) cas w K:=by
 simp only[KK] at he
 split at he
 ·rename_i ts ps as0 bd state pend hb
  split at he
  ·cases hq:(kB args.length ps.length&&ps.all (fun p=>mD p ts.length)) with
   | false=>simp[hq] at he
   | true=>
    simp only[hq,cond_true] at he
    simp only[wA,gB,AD] at hq
    obtain⟨hlen,hps⟩:=hq
    have hlen:=KC hlen
    obtain⟨hs,L,h1,h2,h3,h4,h5,h6,h7⟩:=bV hr hb hl
    subst h3 h4
    have hsize:cas.toArray.size=L.params.size:=by rw[h2];simp only[List.size_toArray];have:=ha.length;omega
    refine .inr (.inr ⟨l,_,_,_,_,rfl,run_yield h1 hsize,?_⟩)
    have htm0:∀t,VH (C.ph h) s H w (PD (ZJ ts 0 .nil) t) (L.tmps.getD t undef):=fun t=>by
     have:=F3 (C:=C) (h:=h) (cas:=L.tmps) h7 0 t
     simpa using this
    obtain⟨hsz,htm⟩:=zoV (nt:=ts.length) ps args cas (ZJ ts 0 .nil) L.tmps ha (by have:=h7.length;simpa using this) htm0 hps hlen.symm
    have R:SR C h ts.length (some b) (some l) ⟨s,H,w,[]⟩ s w ⟨BX ps args (ZJ ts 0 .nil),H,H.n⟩ { tmps:=(L.params.zip cas.toArray).foldl (fun(tmps:Array Value) (x:Tmp×Value)=>tmps.setIfInBounds x.1 x.2) L.tmps,defers:=[] }:=by
     rw[h2,zlv]
     exact⟨fun b g hb=>(hr.lt hb).1,hr,hg,jA _,Ext.refl _ _ _,hsz,⟨[],rfl,dE,fun r hr=>by cases hr⟩,.inr hs,htm⟩
    refine roundIn_of_wpIn (F:=WF wro) (R:=fun e w'=>∃v,e=.returned v/\K v w') trivial ?_
    split at he
    ·rename_i st1 hx1
     refine ih ts.length (some b) (some l) _ h _ _ st1 .normal s w _ _ hx1 R fun s1 w1 a1 R1=>?_
     split at he
     ·rename_i ts1 ps1 as1 bd1 state1 pend1 hb1
      split at he
      ·obtain⟨k0,L1,k1,k2,k3,k4,k5,k6,k7⟩:=bV R1.hr hb1 R1.rd
       obtain⟨m1,m2⟩:=C7 R1.hr k0 (st:=.busy) (pd:=pend1) k1 k2 k3 k4 k7 { L1 with state:=.busy } rfl rfl rfl rfl rfl k6
       refine⟨_,run_beginRound k1 k5,?_⟩
       have R2:=R1.turn m1 m2
       split at he
       ·rename_i x st3 hx3
        refine ih ts.length (some b) (some l) _ h _ _ st3 x s1 _ a1 _ hx3 R2 fun s3 w3 a3 R3=>?_
        split at he
        ·rename_i ts3 ps3 as3 bd3 state3 pend3 hb3
         simp only[lA] at he
         subst he
         obtain⟨q0,L3,q1,q2,q3,q4,q5,q6,q7⟩:=bV R3.hr hb3 R3.rd
         have fin:∀(jump:Option Code),uN x=jump->∃v w',(Instr.endRound l jump).run C.P w3=.ok v w'/\∃v',Ending.returned v=.returned v'/\K v' w':=by
          intro jump hj
          obtain⟨m3,m4⟩:=C7 R3.hr q0 (st:=YR x) (pd:=uN x) q1 q2 q3 q4 q7 { L3 with state:=if jump.isNone then .ready else .done,pending:=jump } rfl rfl rfl rfl (by subst hj;cases x<;>rfl) hj.symm
          refine⟨_,_,run_endRound jump q1,_,rfl,?_⟩
          have R4:=R3.turn m3 m4
          refine hk _ _ s3 ?_ m3 R4.ext
          subst hj
          cases x<;>simp[VR,eS,uN]
         cases x with
         | normal=>exact fin none rfl
         | ret=>exact fin _ rfl
         | exit i=>exact fin _ rfl
        ·cases he
       ·cases he
      ·cases he
     ·cases he
    ·cases he
  ·cases he
 ·cases he
theorem wT(n:Nat)(ih:∀m,m<n->rg C m)(ihx:∀m,m<n->IS C m):zn4 C (KK C n):=by
 intro h wro s H w f args cf cas r K hr hg hf ha he hk
 cases n with
 | zero=>simp[KK] at he
 | succ n=>
  cases f<;>(try (simp[KK] at he;done))
  case fn F first cap=>
   cases F<;>(try (simp[KK] at he;done))
   case method name=>
    simp only[KK] at he
    split at he
    ·rename_i t v rest hl
     split at he
     ·rename_i g hm
      obtain⟨xs,ys,e,h1,h2⟩:=hf
      have h3:=h1.append ha
      rw[hl] at h3
      obtain⟨c0,cs,e4,⟨x,rfl,hx⟩,hrest⟩:=h3
      refine .inl ⟨name,xs,ys,t,x,cs.toArray,g,e,?_,hm,ih n (by omega) h s H w g _ _ r K hr hg ?_ he hk⟩
      ·apply xF
       simpa using e4
      ·show UG (C.ph h) s H w (v::rest) (#[x]++cs.toArray).toList
       exact⟨x,cs,by simp,hx,hrest⟩
     ·cases he
    ·cases he
   rename_i g
   obtain⟨xs,ys,e,h1,h2⟩:=hf
   refine .inr (.inl ⟨g,xs,ys,e,ih n (by omega) h s H w g _ _ r K hr hg ?_ (by simpa only[KK] using he) hk⟩)
   have:=(h1.append ha).append h2
   simpa using this
  case yld b=>
   obtain⟨l,rfl,hl⟩:=hf
   exact iR n (ihx n (by omega)) hr hg ha hl he hk
theorem zpe(hC:DV C)(hreg:Fj C)(n:Nat):IS C n/\rg C n/\RO C (KK C n)/\Uj C n/\Gj C n:=by
 induction n using Nat.strongRecOn with
 | _ n ih=>
  refine⟨NT hC hreg n (fun m hm=>(ih m hm).1) (fun m hm=>(ih m hm).2.1) (fun m hm=>(ih m hm).2.2.1),QT hC n (fun m hm=>(ih m hm).1) (fun m hm=>(ih m hm).2.2.2.2) (fun m hm=>(ih m hm).2.2.2.1),PQ (wT n (fun m hm=>(ih m hm).2.1) fun m hm=>(ih m hm).1),
   bQ hC n (fun m hm=>(ih m hm).1),WP n (fun m hm=>(ih m hm).2.2.2.2) (fun m hm=>(ih m hm).1) (fun m hm=>(ih m hm).2.2.1)⟩
theorem UN(hC:DV C)(hreg:Fj C)(n:Nat):IS C n/\rg C n/\RO C (KK C n):=let h:=zpe hC hreg n;⟨h.1,h.2.1,h.2.2.1⟩
end
end
theorem aQ{α:Type}(n:Nat)(k:Nat->α):force n k=k n:=by cases n<;>rfl
def rV(ops:Array Oper)(S:Nat->Prop):Prop:=∀j x,S j->ops[j]?=some x->∀e∈x.after,LC .any e=true->S e.on
def Kk(ops:Array Oper)(j m:Nat):Prop:=
 ∀S:Nat->Prop,rV ops S->∀x,ops[j]?=some x->(∀e∈x.after,LC .any e=true->S e.on)->∀i,m.testBit i=true->S i
theorem zgS{acc:List Nat}{len:Nat}:∀{es:List Edge} {i:Nat},(EX acc len es).testBit i=true->∃e∈es,LC .any e=true/\e.on<len/\(i=e.on\/(acc.getD (len-1-e.on) 0).testBit i=true)
 | [],i,h=>by simp[EX] at h
 | e::es,i,h=>by
  rw[EX] at h
  cases hc:(LC .any e&&mD e.on len) with
  | false=>
   rw[hc,cond_false] at h
   obtain⟨e',h1,h2⟩:=zgS h
   exact⟨e',.tail _ h1,h2⟩
  | true=>
   rw[hc,cond_true] at h
   rw[Nat.testBit_or,Nat.testBit_or,Nat.testBit_two_pow] at h
   simp only[wA,AD] at hc
   simp only[IC,decide_eq_true_eq] at h
   rcases h with(h|h)|h
   ·exact⟨e,.head _,hc.1,hc.2,.inl h.symm⟩
   ·exact⟨e,.head _,hc.1,hc.2,.inr h⟩
   ·obtain⟨e',h1,h2⟩:=zgS h
    exact⟨e',.tail _ h1,h2⟩
theorem zld{ops:Array Oper}:∀(l:List Oper) (j:Nat) (acc:List Nat),acc.length=j->(∀i,l[i]?=ops[j+i]?)->(∀k m,k<j->acc[j-1-k]?=some m->Kk ops k m)->
  (LS j l acc).length=j+l.length/\∀k m,k<j+l.length->(LS j l acc)[j+l.length-1-k]?=some m->Kk ops k m
 | [],j,acc,hl,hi,ha=>⟨by simpa[LS] using hl,by simpa[LS] using ha⟩
 | o::l,j,acc,hl,hi,ha=>by
  rw[LS,aQ]
  have h0:ops[j]?=some o:=by simpa using(hi 0).symm
  have hm:Kk ops j (EX acc j o.after.toList):=by
   intro S hS x hx hx2 i hb
   rw[h0] at hx
   injection hx with hx
   subst hx
   obtain⟨e,he,hb1,hlt,h⟩:=zgS hb
   have hSe:=hx2 e (by simpa using he) hb1
   rcases h with h|h
   ·rw[h];exact hSe
   ·have hlt2:j-1-e.on<acc.length:=by omega
    have hg:acc[j-1-e.on]?=some (acc.getD (j-1-e.on) 0):=by
     rw[DA,sA hlt2]
     rfl
    have hM:=ha e.on _ hlt hg
    have hsz:e.on<ops.size:=by
     have:=(LA.1 h0).1
     omega
    exact hM S hS ops[e.on] (by simp[hsz]) (fun e' he' hb'=>hS e.on _ hSe (by simp[hsz]) e' he' hb') i h
  have:=zld l (j+1) (EX acc j o.after.toList::acc) (by simp[hl]) (fun i=>by have:=hi (i+1);simpa[Nat.add_assoc,Nat.add_comm 1 i] using this) (fun k m hk hg=>by
   by_cases e:k=j
   ·subst e
    rw[show k+1-1-k=0 by omega] at hg
    simp only[YA,lA] at hg
    rw[<-hg];exact hm
   ·rw[show j+1-1-k=(j-1-k)+1 by omega] at hg
    simp only[BB] at hg
    exact ha k m (by omega) hg)
  simp only[List.length_cons]
  rw[show j+(l.length+1)=j+1+l.length by omega]
  exact this
theorem yQ{ops:Array Oper}:(xN ops).length=ops.size/\∀k m,(xN ops)[k]?=some m->Kk ops k m:=by
 obtain⟨h1,h2⟩:=zld (ops:=ops) ops.toList 0 [] rfl (fun i=>by simp) (fun k m hk=>by omega)
 simp only[Nat.zero_add,cC] at h1 h2
 refine⟨by simp[xN,h1],fun k m hg=>?_⟩
 unfold xN at hg
 have hk:k<ops.size:=by
  have:=(rA.1 hg).1
  simpa[h1] using this
 rw[List.getElem?_reverse (by omega),h1] at hg
 exact h2 k m hk hg
theorem yS{ops:Array Oper}{j i:Nat}(h:HM ops j i=true)(hj:j<ops.size){S:Nat->Prop}(hS:rV ops S)(hr:∀x,ops[j]?=some x->∀e∈x.after,LC .any e=true->S e.on):S i:=by
 obtain⟨h1,h2⟩:=yQ (ops:=ops)
 have hg:(xN ops)[j]?=some ((xN ops).getD j 0):=by
  rw[DA,sA (by omega)]
  rfl
 exact h2 j _ hg S hS ops[j] (by simp[hj]) (hr _ (by simp[hj])) i h
theorem zoJ(e:Eff):oI .none e=false:=by cases e<;>rfl
theorem znb:∀(es:List Eff) (ms:List Nat) (j0:Nat) (seen:List (Nat×Eff)),yV es ms j0 seen=true->
  (∀(j:Nat) (b:Eff) (m:Nat),es[j]?=some b->ms[j]?=some m->(∀p∈seen,oI p.2 b=true->m.testBit p.1=true)/\(∀(i:Nat) (a:Eff),i<j->es[i]?=some a->oI a b=true->m.testBit (j0+i)=true))/\es.length<=ms.length
 | [],ms,j0,seen,h=>⟨fun j b m h=>by simp at h,by simp⟩
 | e::es,[],j0,seen,h=>by simp[yV] at h
 | e::es,m::ms,j0,seen,h=>by
  simp only[yV,wA,gB,IC,oC] at h
  obtain⟨h1,h2⟩:=h
  obtain⟨h3,h4⟩:=znb es ms (j0+1) _ h2
  refine⟨fun j b m' hb hm=>?_,by simp;omega⟩
  cases j with
  | zero=>
   simp only[YA,lA] at hb hm
   subst hb;subst hm
   refine⟨fun p hp hc=>?_,fun i a hi=>by omega⟩
   rcases h1 p hp with h|h
   ·rw[hc] at h;cases h
   ·exact h
  | succ j=>
   simp only[BB] at hb hm
   obtain⟨h5,h6⟩:=h3 j b m' hb hm
   refine⟨fun p hp hc=>h5 p ?_ hc,fun i a hi ha hc=>?_⟩
   ·split
    ·exact hp
    ·exact .tail _ hp
   ·cases i with
    | zero=>
     simp only[YA,lA] at ha
     subst ha
     refine h5 (j0,e) ?_ hc
     split
     ·rw[zoJ] at hc;cases hc
     ·exact .head _
    | succ i=>
     simp only[BB] at ha
     have:=h6 i a (by omega) ha hc
     rwa [show j0+1+i=j0+(i+1) by omega] at this
theorem SQ{ops:Array Oper}{es:List Eff}(h:O3 ops es=true){i j:Nat}{a b:Eff}(hi:i<j)(ha:es[i]?=some a)(hb:es[j]?=some b)(hc:oI a b=true):HM ops j i=true:=by
 obtain⟨h1,h2⟩:=znb es (xN ops) 0 [] h
 have hj:j<(xN ops).length:=by
  have:=(rA.1 hb).1
  omega
 have:=(h1 j b _ hb (sA hj)).2 i a hi ha hc
 unfold HM
 rw[DA,sA hj]
 simpa using this
structure YV(ops:Array Oper):Prop where
 back:∀(j:Nat) (x:Oper),ops[j]?=some x->∀e∈x.after,LC .any e=true->e.on<j
 once:∀(j:Nat) (x:Oper) (d:Tmp),ops[j]?=some x->x.dst=some d->∀(i:Nat) (y:Oper),ops[i]?=some y->y.dst=some d->i=j
 look:∀(j:Nat) (x:Oper) (t:Tmp),ops[j]?=some x->t∈x.looksAt ops->∀(i:Nat) (y:Oper),ops[i]?=some y->y.dst=some t->i=j\/(i<j/\HM ops j i=true)\/(j<i/\HM ops i j=true)
theorem zji{ops:Array Oper}{t:Tmp}{i:Nat}{y:Oper}(hy:ops[i]?=some y)(hd:y.dst=some t):i∈g8 ops t:=by
 have hi:i<ops.size:=(LA.1 hy).1
 simp only[g8,List.mem_filter,yD]
 exact⟨hi,by simp[hy,hd]⟩
theorem eR{ops:Array Oper}(h:wV ops=true):YV ops:=by
 simp only[wV,gB,yD] at h
 have key:∀(j:Nat) (x:Oper),ops[j]?=some x->(∀e∈x.after,LC .any e=true->e.on<j)/\(∀d,x.dst=some d->g8 ops d=[j])/\(∀t∈x.looksAt ops,∀i∈g8 ops t,i=j\/(if i<j then HM ops j i=true else HM ops i j=true)):=by
  intro j x hx
  have:=h j (LA.1 hx).1
  simp only[hx,wA,gB,Array.all_eq_true_iff_forall_mem,IC,oC,AD] at this
  obtain⟨⟨h1,h2⟩,h3⟩:=this
  refine⟨fun e he hb=>?_,fun d hd=>?_,fun t ht i hi=>?_⟩
  ·rcases h1 e he with h|h
   ·rw[hb] at h;cases h
   ·exact h
  ·rw[hd] at h2
   simpa using h2
  ·rcases h3 t ht i hi with h|h
   ·exact .inl (KC h)
   ·refine .inr ?_
    by_cases l:i<j
    ·rw[if_pos l]
     rw[show mD i j=true by simpa using l] at h
     exact h
    ·rw[if_neg l]
     rw[show mD i j=false by rw[Heap.blt_eq];simpa using l] at h
     exact h
 refine⟨fun j x hx=>(key j x hx).1,fun j x d hx hd i y hy hd'=>?_,fun j x t hx ht i y hy hd=>?_⟩
 ·have h1:=(key j x hx).2.1 d hd
  have h2:=zji hy hd'
  rw[h1] at h2
  simpa using h2
 ·rcases (key j x hx).2.2 t ht i (zji hy hd) with h|h
  ·exact .inl h
  ·by_cases l:i<j
   ·rw[if_pos l] at h;exact .inr (.inl ⟨l,h⟩)
   ·rw[if_neg l] at h
    by_cases e:i=j
    ·exact .inl e
    ·exact .inr (.inr ⟨by omega,h⟩)
theorem TU{P:Program}{wro:Option Nat}{o:Oper}{a:Act}{w:World}{K:Act->World->Prop}(h:o.wpIn (WF wro) 0 P a w K (fun _ _ _=>False)):∃a' w',K a' w':=by
 have room:∀n,(WF wro).room n:=fun n d hd=>by simp[FC] at hd
 unfold Oper.wpIn at h
 have h:=h.2
 generalize (o.semAt (WF wro).round a.eval).run P w=r at h
 cases r with
 | ok x w'=>
  cases x<;>simp only[Oper.uponIn] at h
  case value v=>exact⟨_,_,h⟩
  case skip=>exact⟨_,_,h⟩
  case defer d=>exact⟨_,_,h⟩
  case enter f as0=>
   obtain⟨e,w2,fr,h1,_⟩:=h.2.2 [] (room _)
   cases e with
   | returned v=>exact⟨_,_,h1⟩
   | panicked c=>exact h1.elim
   | outgrown=>obtain⟨_,_,h2⟩:=h1;exact h2.elim
  case row row as0=>
   obtain⟨v,w2,h1,_⟩:=h.2 default [] (room _)
   exact⟨_,_,h1⟩
  case round l f tmps assign body=>
   obtain⟨e,w2,h1,_⟩:=h.2.2 default [] (room _)
   cases e with
   | returned v=>exact⟨_,_,h1⟩
   | panicked c=>exact h1.elim
   | outgrown=>obtain⟨_,_,h2⟩:=h1;exact h2.elim
 | halt x w'=>cases x<;>simp only[Oper.uponIn] at h
structure StepOK(C:Ctx)(nt:Nat)(ops:Array Oper)(x:Oper)(st st':St)(r:OR)(e:Eff)(b:Bool)(cv:V->List V->Heap->Option OR):Prop where
 op:RO C cv
 dst:nL nt x.dst=true
 want:XJ ops st.T x=some b
 no:b=false->r=⟨EH,st.H,st.H.n⟩/\e=.none/\st'=⟨OG st.T x.dst EH,st.H,st.lo⟩
 yes:b=true->rsV C.P cv (HD C st.T) st.H x.op=some r/\e=FF (HD C st.T) st.H x.op r/\st'=⟨OG st.T x.dst r.v,r.H,min st.lo r.lo⟩
theorem StepOK.T{C:Ctx}{nt:Nat}{ops:Array Oper}{x:Oper}{st st':St}{r:OR}{e:Eff}{b:Bool}{cv:V->List V->Heap->Option OR}(h:StepOK C nt ops x st st' r e b cv):st'.T=OG st.T x.dst r.v/\st'.H=r.H:=by
 cases b with
 | false=>obtain⟨rfl,_,rfl⟩:=h.no rfl;exact⟨rfl,rfl⟩
 | true=>obtain⟨_,_,rfl⟩:=h.yes rfl;exact⟨rfl,rfl⟩
theorem NU{C:Ctx}{n nt:Nat}{ops:Array Oper}{x:Oper}{st st':St}{e:Eff}(hop:∀m,m<n->RO C (KK C m))(h:TO C n nt ops x st=some (e,st')):∃r b cv,StepOK C nt ops x st st' r e b cv:=by
 cases n with
 | zero=>simp[TO] at h
 | succ n=>
  simp only[TO] at h
  cases hd:nL nt x.dst with
  | false=>simp[hd] at h
  | true=>
   simp only[hd,cond_true] at h
   cases hw:XJ ops st.T x with
   | none=>simp[hw] at h
   | some b=>
    cases b with
    | false=>
     simp only[hw,lA,dB] at h
     obtain⟨h1,h2⟩:=h
     exact⟨⟨EH,st.H,st.H.n⟩,false,KK C n,hop n (by omega),hd,hw,fun _=>⟨rfl,h1.symm,h2.symm⟩,fun h=>nomatch h⟩
    | true=>
     simp only[hw] at h
     cases hr:rsV C.P (KK C n) (HD C st.T) st.H x.op with
     | none=>simp[hr] at h
     | some r=>
      simp only[hr,lA,dB] at h
      obtain⟨h1,h2⟩:=h
      exact⟨r,true,KK C n,hop n (by omega),hd,hw,fun h=>(nomatch h),fun _=>⟨hr,h1.symm,h2.symm⟩⟩
structure Yg(C:Ctx)(nt:Nat)(ops:Array Oper)(l:List Oper)(f:Nat->St)(r:Nat->OR)(e:Nat->Eff)(b:Nat->Bool)(cv:Nat->V->List V->Heap->Option OR):Prop where
 step:∀(k:Nat) (x:Oper),l[k]?=some x->StepOK C nt ops x (f k) (f (k+1)) (r k) (e k) (b k) (cv k)
theorem kR{C:Ctx}{nt:Nat}{ops:Array Oper}:∀(n:Nat) (l:List Oper) (st st':St) (es:List Eff),(∀m,m<n->RO C (KK C m))->IK C n nt ops l st=some (es,st')->
  ∃f r e b cv,f 0=st/\f l.length=st'/\es.length=l.length/\(∀k,k<l.length->es[k]?=some (e k))/\Yg C nt ops l f r e b cv
 | 0,l,st,st',es,hop,h=>by simp[IK] at h
 | n+1,[],st,st',es,hop,h=>by
  simp only[IK,lA,dB] at h
  obtain⟨rfl,rfl⟩:=h
  exact⟨fun _=>st,fun _=>default,fun _=>default,fun _=>true,fun _ _ _ _=>none,rfl,rfl,rfl,fun k hk=>by simp at hk,⟨fun k x hk=>by simp at hk⟩⟩
 | n+1,x::rest,st,st',es,hop,h=>by
  simp only[IK] at h
  split at h
  ·rename_i e0 st1 h1
   split at h
   ·rename_i es' st2 h2
    simp only[lA,dB] at h
    obtain⟨rfl,rfl⟩:=h
    obtain⟨r0,b0,cv0,hs⟩:=NU (fun m hm=>hop m (by omega)) h1
    obtain⟨f,r,e,b,cv,g1,g2,g3,g4,g5⟩:=kR n rest st1 st2 es' (fun m hm=>hop m (by omega)) h2
    refine⟨fun k=>match k with|0=>st|k+1=>f k,fun k=>match k with|0=>r0|k+1=>r k,fun k=>match k with|0=>e0|k+1=>e k,fun k=>match k with|0=>b0|k+1=>b k,fun k=>match k with|0=>cv0|k+1=>cv k,rfl,g2,by simp[g3],fun k hk=>?_,⟨fun k y hk=>?_⟩⟩
    ·cases k with
     | zero=>rfl
     | succ k=>simpa using g4 k (by simpa using hk)
    ·cases k with
     | zero=>
      simp only[YA,lA] at hk
      subst hk
      simp only[g1]
      exact hs
     | succ k=>
      simp only[BB] at hk
      exact g5.step k y hk
   ·cases h
  ·cases h
structure fP(C:Ctx)(h:Nat->Prop)(nt:Nat)(ro wro:Option Nat)(o:yK)(s0:Nat->Option Nat)(H0:Heap)(st:St)(s:Nat->Option Nat)(w:World)(a:Act):Prop where
 sr:SR C h nt ro wro o s w st a
 olds:∀b g,s0 b=some g->RC st.H b\/∃g',s b=some g'
 news:∀b,H0.n<=b->b<st.H.n->RC st.H b\/∃g',s b=some g'
structure gP(H:Heap)(r:OR):Prop where
 n:H.n<=r.H.n
 dead:∀b,RC H b->RC r.H b
 old:∀b,b<r.lo->b<H.n->r.H.get b=H.get b
theorem zjt{C:Ctx}{h:Nat->Prop}{nt:Nat}{ro wro:Option Nat}{o:yK}{s0:Nat->Option Nat}{H0:Heap}{ops:Array Oper}{x:Oper}{st st':St}{r:OR}{e:Eff}{b:Bool}{cv:V->List V->Heap->Option OR}(hs:StepOK C nt ops x st st' r e b cv)
  {s:Nat->Option Nat} {w:World} {a:Act} (G:fP C h nt ro wro o s0 H0 st s w a):gP st.H r/\∃s' w' a',fP C h nt ro wro o s0 H0 st' s' w' a':=by
 cases b with
 | false=>
  obtain⟨rfl,_,rfl⟩:=hs.no rfl
  refine⟨⟨jA _,fun _ h=>h,fun _ _ _=>rfl⟩,s,w,a.put x.dst undef,?_,G.olds,G.news⟩
  have:=G.sr.step hs.dst (r:=⟨EH,st.H,st.H.n⟩) (c:=undef) ⟨#[],rfl,by simp[VRs]⟩ G.sr.hr (Ext.refl _ _ _)
  exact⟨this.ob,this.hr,this.gk,G.sr.ln,G.sr.ext,this.sz,this.df,this.rd,this.tm⟩
 | true=>
  obtain⟨hr,_,rfl⟩:=hs.yes rfl
  obtain⟨a',w',s',c,ha,h1,h2,h3⟩:=TU (hs.op h wro s st.H w (HD C st.T) x r a (fun a' w'=>∃s' c,a'=a.put x.dst c/\VH (C.ph h) s' r.H w' r.v c/\HR (C.ph h) s' r.H w'/\Ext r.lo s st.H w s' r.H w') (fun _ _ _=>False) G.sr.hr G.sr.gk (fun y _=>XM G.sr.gk G.sr.tm y) hr
   fun c w' s' h1 h2 h3=>⟨s',c,rfl,h1,h2,h3⟩)
  subst ha
  refine⟨⟨h3.hn,h3.dd,h3.old⟩,s',w',_,G.sr.step hs.dst h1 h2 h3,fun b g hb=>?_,fun b hb1 hb2=>?_⟩
  ·rcases G.olds b g hb with hd|⟨g',hg⟩
   ·exact .inl (h3.dd b hd)
   ·rcases h3.ss b g' hg with h4|⟨h4,_⟩
    ·exact .inr ⟨g',h4⟩
    ·exact .inl h4
  ·by_cases l:b<st.H.n
   ·rcases G.news b hb1 l with hd|⟨g',hg⟩
    ·exact .inl (h3.dd b hd)
    ·rcases h3.ss b g' hg with h4|⟨h4,_⟩
     ·exact .inr ⟨g',h4⟩
     ·exact .inl h4
   ·exact h3.cov b (by omega) hb2
theorem Ok{C:Ctx}{h:Nat->Prop}{nt:Nat}{ro wro:Option Nat}{o:yK}{s0:Nat->Option Nat}{w0:World}{a0:Act}{ops:Array Oper}{f:Nat->St}{r:Nat->OR}{e:Nat->Eff}{b:Nat->Bool}{cv:Nat->V->List V->Heap->Option OR}
  (hr:Yg C nt ops ops.toList f r e b cv) (R:SR C h nt ro wro o s0 w0 (f 0) a0):∀k,k<=ops.size->∃s w a,fP C h nt ro wro o s0 (f 0).H (f k) s w a
 | 0,_=>⟨s0,w0,a0,R,fun b g hb=>.inr ⟨g,hb⟩,fun b h1 h2=>by omega⟩
 | k+1,hk=>by
  obtain⟨s,w,a,G⟩:=Ok hr R k (by omega)
  have hx:ops.toList[k]?=some ops[k]:=by simp[show k<ops.size by omega]
  exact(zjt (hr.step k _ hx) G).2
theorem QY{C:Ctx}{h:Nat->Prop}{nt:Nat}{ro wro:Option Nat}{o:yK}{s0:Nat->Option Nat}{w0:World}{a0:Act}{ops:Array Oper}{f:Nat->St}{r:Nat->OR}{e:Nat->Eff}{b:Nat->Bool}{cv:Nat->V->List V->Heap->Option OR}
  (hr:Yg C nt ops ops.toList f r e b cv) (R:SR C h nt ro wro o s0 w0 (f 0) a0) {k:Nat} (hk:k<ops.size):gP (f k).H (r k)/\(f (k+1)).H=(r k).H:=by
 obtain⟨s,w,a,G⟩:=Ok hr R k (by omega)
 have hx:ops.toList[k]?=some ops[k]:=by simp[hk]
 exact⟨(zjt (hr.step k _ hx) G).1,(hr.step k _ hx).T.2⟩
section
structure FV(s s2 s':Nat->Option Nat)(d d2 d' pr pr':Nat->Prop):Prop where
 r:∀b g,s b=some g->(d2 b\/∃g2,s2 b=some g2)->s' b=some g\/d' b
 d:∀b,d b->(d2 b\/∃g2,s2 b=some g2)->d' b
 p:∀g,pr g->pr' g
section
variable {z:TypeId->Nat} {s s2 s':Nat->Option Nat} {d d2 d' pr pr2 pr':Nat->Prop} {w w2:World}
theorem Vk{α:Prop}{b:Nat}{p q:Nat->Prop}(K:FV s s2 s' d d2 d' pr pr')(h1:d b\/∃g,s b=some g/\p g)(h2:d2 b\/∃g,s2 b=some g/\q g):d' b\/∃g,s' b=some g/\p g:=by
 have h2':d2 b\/∃g2,s2 b=some g2:=h2.imp id fun⟨g,h,_⟩=>⟨g,h⟩
 rcases h1 with h1|⟨g,h1,hp⟩
 ·exact .inl (K.d b h1 h2')
 ·rcases K.r b g h1 h2' with h|h
  ·exact .inr ⟨g,h,hp⟩
  ·exact .inl h
mutual
theorem VR.cut(K:FV s s2 s' d d2 d' pr pr'):∀(v:V) (c c2:Value),VR z s d pr w v c->VR z s2 d2 pr2 w2 v c2->VR z s' d' pr' w v c
 | .lit v,c,c2,h,h2=>h
 | .ptr b off,c,c2,h,h2=>by
  obtain⟨x,e,h⟩:=h
  obtain⟨x2,e2,h2⟩:=h2
  exact⟨x,e,Vk (α:=True) K h h2⟩
 | .gptr g off,c,c2,h,h2=>h
 | .sl b off len cap opn,c,c2,h,h2=>by
  obtain⟨x,cap',e,k1,k2,h⟩:=h
  obtain⟨x2,cap2,e2,_,_,h2⟩:=h2
  exact⟨x,cap',e,k1,k2,Vk (α:=True) K h h2⟩
 | .zs,c,c2,h,h2=>h
 | .void,c,c2,h,h2=>h
 | .mp b,c,c2,h,h2=>by
  obtain⟨x,e,h⟩:=h
  obtain⟨x2,e2,h2⟩:=h2
  have:=Vk (α:=True) (p:=fun g=>g=x) (q:=fun g=>g=x2) K (h.imp id fun h=>⟨x,h,rfl⟩) (h2.imp id fun h=>⟨x2,h,rfl⟩)
  exact⟨x,e,this.imp id fun⟨g,h,e⟩=>e▸h⟩
 | .ps cells len,c,c2,h,h2=>by
  obtain⟨g,off,cap,cs,e,hl,hg,hv,ha⟩:=h
  obtain⟨g2,off2,cap2,cs2,e2,hl2,hg2,hv2,ha2⟩:=h2
  exact⟨g,off,cap,cs,e,hl,K.p g hg,VRs.cut K cells cs cs2 hv hv2,ha⟩
 | .pn cells len,c,c2,h,h2=>by
  rcases h with h|⟨g,off,cap,cs,e,hl,hg,hv,ha⟩
  ·exact .inl h
  ·rcases h2 with⟨_,rfl,_⟩|⟨g2,off2,cap2,cs2,e2,hl2,hg2,hv2,ha2⟩
   ·have hcs:cs=[]:=hv
    exact .inr ⟨g,off,cap,cs,e,hl,K.p g hg,hcs,ha⟩
   ·exact .inr ⟨g,off,cap,cs,e,hl,K.p g hg,VRs.cut K cells cs cs2 hv hv2,ha⟩
 | .pp cells,c,c2,h,h2=>by
  obtain⟨g,off,cs,e,hg,hv,ha⟩:=h
  obtain⟨g2,off2,cs2,e2,hg2,hv2,ha2⟩:=h2
  exact⟨g,off,cs,e,K.p g hg,VRs.cut K cells cs cs2 hv hv2,ha⟩
 | .fn f first cap,c,c2,h,h2=>by
  obtain⟨xs,ys,e,k1,k2⟩:=h
  obtain⟨xs2,ys2,e2,l1,l2⟩:=h2
  exact⟨xs,ys,e,VRs.cut K first _ _ k1 l1,VRs.cut K cap _ _ k2 l2⟩
 | .yld b,c,c2,h,h2=>by
  obtain⟨x,e,h⟩:=h
  obtain⟨x2,e2,h2⟩:=h2
  have:=Vk (α:=True) (p:=fun g=>g=x) (q:=fun g=>g=x2) K (h.imp id fun h=>⟨x,h,rfl⟩) (h2.imp id fun h=>⟨x2,h,rfl⟩)
  exact⟨x,e,this.imp id fun⟨g,h,e⟩=>e▸h⟩
 | .ifc t v,c,c2,h,h2=>by
  obtain⟨x,e,h⟩:=h
  obtain⟨x2,e2,h2⟩:=h2
  exact⟨x,e,VR.cut K v x x2 h h2⟩
 | .agg cells,c,c2,h,h2=>by
  obtain⟨xs,e,h⟩:=h
  obtain⟨xs2,e2,h2⟩:=h2
  exact⟨xs,e,VRs.cut K cells _ _ h h2⟩
 | .tup vs,c,c2,h,h2=>by
  obtain⟨xs,e,h⟩:=h
  obtain⟨xs2,e2,h2⟩:=h2
  exact⟨xs,e,VRs.cut K vs _ _ h h2⟩
 | .any,c,c2,h,h2=>h
theorem VRs.cut(K:FV s s2 s' d d2 d' pr pr'):∀(vs:List V) (cs cs2:List Value),VRs z s d pr w vs cs->VRs z s2 d2 pr2 w2 vs cs2->VRs z s' d' pr' w vs cs
 | [],cs,cs2,h,h2=>h
 | v::vs,cs,cs2,h,h2=>by
  obtain⟨c,cs',e,k1,k2⟩:=h
  obtain⟨c2,cs2',e2,l1,l2⟩:=h2
  exact⟨c,cs',e,VR.cut K v c c2 k1 l1,VRs.cut K vs cs' cs2' k2 l2⟩
end
end
section
variable {P P2 P':PH} {s s2 s':Nat->Option Nat} {H H2 H':Heap} {w w2 w':World}
theorem VH.cut(e2:P2.P=P.P)(e':P'.P=P.P)(K:FV s s2 s' (RC H) (RC H2) (RC H') (RE P s w) (RE P' s' w)){v:V}{c c2:Value}(h:VH P s H w v c)(h2:VH P2 s2 H2 w2 v c2):VH P' s' H' w v c:=by
 unfold VH at *
 rw[e2] at h2
 rw[e']
 exact VR.cut K v c c2 h h2
theorem MRs.cut(e2:P2.P=P.P)(e':P'.P=P.P)(K:FV s s2 s' (RC H) (RC H2) (RC H') (RE P s w) (RE P' s' w)):∀{es:List (V×V×Nat)} {as0 as2:List MapEntry},MRs P s H w es as0->MRs P2 s2 H2 w2 es as2->MRs P' s' H' w es as0
 | [],as0,as2,h,h2=>h
 | (k,v,b)::r,as0,as2,h,h2=>by
  obtain⟨e,es',he,h1,h3,h4,h5⟩:=h
  obtain⟨f,fs',hf,k1,k3,k4,k5⟩:=h2
  exact⟨e,es',he,VH.cut e2 e' K h1 k1,VH.cut e2 e' K h3 k3,h4,MRs.cut e2 e' K h5 k5⟩
theorem BR.cut(e2:P2.P=P.P)(e':P'.P=P.P)(K:FV s s2 s' (RC H) (RC H2) (RC H') (RE P s w) (RE P' s' w)){B:Blk}{o o2:Obj}(h:BR P s H w B o)(h2:BR P2 s2 H2 w2 B o2):BR P' s' H' w B o:=by
 have lists:∀{vs:List V} {cs cs2:List Value},UG P s H w vs cs->UG P2 s2 H2 w2 vs cs2->UG P' s' H' w vs cs:=by
  intro vs cs cs2 h h2
  unfold UG at *
  rw[e2] at h2
  rw[e']
  exact VRs.cut K vs cs cs2 h h2
 cases B with
 | cells cs e=>
  obtain⟨arr,fr,h1,h3,h4⟩:=h
  obtain⟨arr2,fr2,k1,k3,k4⟩:=h2
  exact⟨arr,fr,h1,lists h3 k3,by rw[e'];exact h4⟩
 | map es clk=>
  obtain⟨arr,h1,h3⟩:=h
  obtain⟨arr2,k1,k3⟩:=h2
  exact⟨arr,h1,h3.cut e2 e' K k3⟩
 | loop tmps params assign body st pend=>
  obtain⟨l,h0,h3,h4,h5,h6,h7,h8⟩:=h
  obtain⟨l2,k0,k3,k4,k5,k6,k7,k8⟩:=h2
  exact⟨l,h0,h3,h4,h5,h6,h7,lists h8 k8⟩
 | dead=>exact h
end
section
variable {P P':PH} {s s':Nat->Option Nat} {H H':Heap} {w w':World}
theorem MRs.mono2(e':P'.P=P.P)(G:HL s s' (RC H) (RC H') (RE P s w) (RE P' s' w') w w'):∀{es:List (V×V×Nat)} {as0:List MapEntry},MRs P s H w es as0->MRs P' s' H' w' es as0
 | [],as0,h=>h
 | (k,v,b)::r,as0,h=>by
  obtain⟨e,es',he,h1,h3,h4,h5⟩:=h
  refine⟨e,es',he,?_,?_,h4,MRs.mono2 e' G h5⟩
  ·unfold VH at *;rw[e'];exact gF G _ _ h1
  ·unfold VH at *;rw[e'];exact gF G _ _ h3
theorem BR.mono2(e':P'.P=P.P)(G:HL s s' (RC H) (RC H') (RE P s w) (RE P' s' w') w w'){B:Blk}{o:Obj}(h:BR P s H w B o):BR P' s' H' w' B o:=by
 have lists:∀{vs:List V} {cs:List Value},UG P s H w vs cs->UG P' s' H' w' vs cs:=by
  intro vs cs h
  unfold UG at *
  rw[e']
  exact VRs.mono G vs cs h
 cases B with
 | cells cs e=>
  obtain⟨arr,fr,h1,h3,h4⟩:=h
  exact⟨arr,fr,h1,lists h3,by rw[e'];exact h4⟩
 | map es clk=>
  obtain⟨arr,h1,h3⟩:=h
  exact⟨arr,h1,h3.mono2 e' G⟩
 | loop tmps params assign body st pend=>
  obtain⟨l,h0,h3,h4,h5,h6,h7,h8⟩:=h
  exact⟨l,h0,h3,h4,h5,h6,h7,lists h8⟩
 | dead=>exact h
end
structure Pc(lo n0:Nat)(s:Nat->Option Nat)(H:Heap)(w:World)(s':Nat->Option Nat)(H':Heap)(w':World):Prop where
 os:w'.os=w.os
 tape:w'.tape=w.tape
 output:w'.output=w.output
 size:w.heap.size<=w'.heap.size
 dd:∀b,RC H b->RC H' b
 ss:∀b g,s b=some g->s' b=some g\/(RC H' b/\lo<=b)
 frame:∀g,g<w.heap.size->(∀b,s b=some g->b<lo)->w'.heap[g]?=w.heap[g]?
 fresh:∀b g,s' b=some g->s b=some g\/(n0<=b/\(w.heap.size<=g\/∃b0,lo<=b0/\s b0=some g))
 shp:∀g x,w.shape? g=some x->w'.shape? g=some x
section
variable {P:PH} {lo n0 l:Nat} {s s' s2:Nat->Option Nat} {H H' H2:Heap} {w w' w2:World}
theorem Pc.refl(lo n0:Nat)(s:Nat->Option Nat)(H:Heap)(w:World):Pc lo n0 s H w s H w:=
 ⟨rfl,rfl,rfl,jA _,fun _ h=>h,fun _ _ h=>.inl h,fun _ _ _=>rfl,fun _ _ h=>.inl h,fun _ _ h=>h⟩
theorem Pc.ofExt(E:Ext l s H w s' H' w')(hl:lo<=l)(hn:n0<=H.n):Pc lo n0 s H w s' H' w' where
 os:=E.os
 tape:=E.tape
 output:=E.output
 size:=E.size
 dd:=E.dd
 ss:=fun b g h=>(E.ss b g h).imp id fun⟨a,c⟩=>⟨a,cB hl c⟩
 frame:=fun g hg hb=>E.frame g hg fun b h=>vB (hb b h) hl
 fresh:=fun b g h=>(E.fresh b g h).imp id fun⟨a,c⟩=>⟨cB hn a,c.imp id fun⟨b0,x,y⟩=>⟨b0,cB hl x,y⟩⟩
 shp:=E.shp
theorem Pc.trans(E:Pc lo n0 s H w s' H' w')(F:Pc lo n0 s' H' w' s2 H2 w2):Pc lo n0 s H w s2 H2 w2 where
 os:=F.os.trans E.os
 tape:=F.tape.trans E.tape
 output:=F.output.trans E.output
 size:=cB E.size F.size
 dd:=fun b h=>F.dd b (E.dd b h)
 ss:=fun b g h=>by
  rcases E.ss b g h with h1|⟨h1,h2⟩
  ·exact F.ss b g h1
  ·exact .inr ⟨F.dd b h1,h2⟩
 frame:=fun g hg hb=>by
  rw[F.frame g (vB hg E.size) ?_,E.frame g hg hb]
  intro b h
  rcases E.fresh b g h with h1|⟨_,h1|⟨b0,h1,h2⟩⟩
  ·exact hb b h1
  ·omega
  ·have:=hb b0 h2;omega
 fresh:=fun b g h=>by
  rcases F.fresh b g h with h1|⟨h0,h1⟩
  ·exact E.fresh b g h1
  ·refine .inr ⟨h0,?_⟩
   rcases h1 with h1|⟨b0,h1,h2⟩
   ·exact .inl (cB E.size h1)
   ·rcases E.fresh b0 g h2 with h3|⟨_,h3⟩
    ·exact .inr ⟨b0,h1,h3⟩
    ·exact h3
 shp:=fun g x h=>F.shp g x (E.shp g x h)
theorem Pc.grow(E:Pc lo n0 s H w s' H' w'):HL s s' (RC H) (RC H') (RE P s w) (RE P s' w') w w' where
 hd:=E.dd
 hs:=fun b g h=>(E.ss b g h).imp id (·.1)
 hp:=fun g ⟨h1,h2,h0⟩=>⟨vB h1 E.size,(fun b hb=>by
  rcases E.fresh b g hb with h|⟨_,h|⟨b0,_,h⟩⟩
  ·exact h2 _ h
  ·omega
  ·exact h2 _ h),h0⟩
 hw:=fun g ⟨h1,h2,_⟩=>Sf (E.frame g h1 fun b hb=>absurd hb (h2 b))
 hz:=E.shp
theorem Pc.gok{C:Ctx}{h:Nat->Prop}(E:Pc lo n0 s H w s' H' w')(hk:GOK C h s w):GOK C h s' w':=by
 refine⟨fun g hg=>vB (hk.1 g hg) E.size,?_⟩
 intro g cs hg
 obtain⟨hp,vs,h1,h2⟩:=hk.2 g cs hg
 have hw:=E.frame g hp.1 fun b hb=>absurd hb (hp.2.1 b)
 exact⟨(E.grow (P:=C.ph h)).hp g hp,vs,h1.mono' ⟨fun _ h=>h,fun _ _ h=>.inl h,fun _ h=>h,fun _ (h:False)=>h.elim,E.shp⟩,h2.keep (Sf hw)⟩
theorem Pc.marks{P:PH}{k:Nat}{base ds:List Deferred}(E:Pc lo n0 s H w s' H' w')(hm:Marks P k s w base ds):Marks P k s' w' base ds:=by
 obtain⟨rs,e,hn,hr⟩:=hm
 refine⟨rs,e,hn,fun r hrs=>?_⟩
 obtain⟨h1,h2,h3⟩:=hr r hrs
 exact⟨h1,E.grow.hp r h2,by rw[E.frame r h2.1 fun b hb=>absurd hb (h2.2.1 b)];exact h3⟩
theorem Pc.rd{ro wro:Option Nat}(E:Pc lo n0 s H w s' H' w')(hr:Rd s H ro wro):Rd s' H' ro wro:=by
 cases ro<;>cases wro<;>simp only[Rd] at hr ⊢
 rcases hr with hr|hr
 ·exact .inl (E.dd _ hr)
 ·rcases E.ss _ _ hr with h1|⟨h1,_⟩
  ·exact .inr h1
  ·exact .inl h1
end
theorem Heap.of(g:Nat->Option Blk):∀n,∃t:Tr Blk,∀b,t.get b=if b<n then g b else none
 | 0=>⟨.nil,fun b=>by simp[Tr.get]⟩
 | n+1=>by
  obtain⟨t,ht⟩:=Heap.of g n
  cases hg:g n with
  | none=>
   refine⟨t,fun b=>?_⟩
   rw[ht]
   by_cases e:b=n
   ·subst e;simp[hg]
   ·by_cases l:b<n
    ·rw[if_pos l,if_pos (by omega)]
    ·rw[if_neg l,if_neg (by omega)]
  | some x=>
   refine⟨Tr.set (n+1) t n x,fun b=>?_⟩
   rw[Tr.get_set _ _ _ _ _ (by omega),ht]
   by_cases e:b=n
   ·subst e;simp[hg]
   ·rw[if_neg e]
    by_cases l:b<n
    ·rw[if_pos l,if_pos (by omega)]
    ·rw[if_neg l,if_neg (by omega)]
theorem Heap.mk_of(n:Nat)(g:Nat->Option Blk):∃H:Heap,H.n=n/\∀b,H.get b=if b<n then g b else none:=by
 obtain⟨t,ht⟩:=Heap.of g n
 refine⟨⟨n,t⟩,rfl,fun b=>?_⟩
 rw[Heap.get_eq,ht]
 by_cases l:b<n<;>simp[l]
theorem zmF(a b:Eff):Hg a b=Hg b a:=by
 have hb:∀x y:Nat,kB x y=kB y x:=by
  intro x y
  by_cases e:x=y
  ·subst e;rfl
  ·rw[bN e,bN (fun h=>e h.symm)]
 cases a<;>cases b<;>first
  | rfl
  | exact hb _ _
  | (show(kB _ _||kB _ _)=(kB _ _||kB _ _);rename_i b b' x;first|rw[hb b b',hb b x]|rw[hb b x,hb b' x])
  | (show(kB _ _||kB _ _||kB _ _)=(kB _ _||kB _ _||kB _ _);rename_i b x b' x';rw[hb b' b,hb x' b,hb b' x,Bool.or_right_comm])
theorem zoK(a b:Eff):oI a b=oI b a:=by
 have key:oI a b=Hg a.plain b.plain->oI b a=Hg b.plain a.plain->oI a b=oI b a:=fun h1 h2=>by rw[h1,h2,zmF]
 cases a<;>cases b<;>first|exact key rfl rfl|rfl
theorem znn{x y:V}(h:OX x y=some true):x=y:=by
 unfold OX at h
 split at h
 ·injection h with h;simp at h;rw[h]
 ·split at h
  ·rename_i hk;injection h with h;simp at h;rw[h,hk]
  ·cases h
 ·rename_i a b
  injection h with h
  have:bytes a=bytes b:=by simpa using h
  have e:a=b:=by
   cases a;cases b
   simp only[bytes] at this
   congr
   exact xF this
  rw[e]
 ·cases h
theorem zli:∀{xs ys:List V},PO xs ys=some true->xs=ys
 | [],[],_=>rfl
 | [],_::_,h=>by cases h
 | _::_,[],h=>by cases h
 | x::xs,y::ys,h=>by
  simp only[PO,pA,nA,lA] at h
  obtain⟨a,ha,b,hb,hab⟩:=h
  simp only[wA] at hab
  obtain⟨rfl,rfl⟩:=hab
  rw[znn ha,zli hb]
theorem zok{x y:V}(h:lV x y=some true):x=y:=by
 unfold lV at h
 split at h
 ·rw[zli h]
 ·exact znn h
theorem lR{x y:V}(h:HX x y=true):x=y:=by
 unfold HX at h
 split at h
 ·rename_i b hb;subst h;exact zok hb
 ·cases h
end
section
structure Env(C:Ctx)(h:Nat->Prop)(nt:Nat)(ro wro:Option Nat)(o:yK)(ops:Array Oper)(f:Nat->St)(r:Nat->OR)(e:Nat->Eff)(b:Nat->Bool)(cv:Nat->V->List V->Heap->Option OR)(s0:Nat->Option Nat)(w0:World)(a0:Act):Prop where
 run:Yg C nt ops ops.toList f r e b cv
 R:SR C h nt ro wro o s0 w0 (f 0) a0
 reg:YV ops
 ord:∀i j,i<j->j<ops.size->oI (e i) (e j)=true->HM ops j i=true
def Wr(f:Nat->St)(j b:Nat):Prop:=b<(f j).H.n/\(f (j+1)).H.get b≠(f j).H.get b
section
variable {C:Ctx} {h:Nat->Prop} {nt:Nat} {ro wro:Option Nat} {o:yK} {ops:Array Oper} {f:Nat->St} {r:Nat->OR} {e:Nat->Eff} {b:Nat->Bool} {cv:Nat->V->List V->Heap->Option OR} {s0:Nat->Option Nat} {w0:World} {a0:Act}
theorem Env.hstep(E:Env C h nt ro wro o ops f r e b cv s0 w0 a0){k:Nat}(hk:k<ops.size):gP (f k).H (r k)/\(f (k+1)).H=(r k).H:=QY E.run E.R hk
theorem Env.step(E:Env C h nt ro wro o ops f r e b cv s0 w0 a0){k:Nat}{x:Oper}(hx:ops[k]?=some x):StepOK C nt ops x (f k) (f (k+1)) (r k) (e k) (b k) (cv k):=E.run.step k x (by simpa using hx)
theorem Env.mono(E:Env C h nt ro wro o ops f r e b cv s0 w0 a0){j k:Nat}(hj:j<=k)(hk:k<=ops.size):(f j).H.n<=(f k).H.n:=by
 induction k with
 | zero=>have:j=0:=(by omega);subst this;exact jA _
 | succ k ih=>
  by_cases l:j=k+1
  ·subst l;exact jA _
  ·obtain⟨h1,h2⟩:=E.hstep (k:=k) (by omega)
   rw[h2]
   exact cB (ih (by omega) (by omega)) h1.n
theorem Env.const(E:Env C h nt ro wro o ops f r e b cv s0 w0 a0){m m' c:Nat}(hm:m<=m')(hk:m'<=ops.size)(hw:∀k,m<=k->k<m'->¬Wr f k c)(hc:c<(f m).H.n):(f m').H.get c=(f m).H.get c:=by
 induction m' with
 | zero=>have:m=0:=(by omega);subst this;rfl
 | succ k ih=>
  by_cases l:m=k+1
  ·subst l;rfl
  ·have h1:=ih (by omega) (by omega) (fun k' h1 h2=>hw k' h1 (by omega))
   have h2:=hw k (by omega) (by omega)
   have h3:c<(f k).H.n:=vB hc (E.mono (by omega) (by omega))
   rw[<-h1]
   exact Classical.byContradiction fun hn=>h2 ⟨h3,hn⟩
theorem Env.eff(E:Env C h nt ro wro o ops f r e b cv s0 w0 a0){k:Nat}{x:Oper}(hx:ops[k]?=some x)(hb:b k=true):EffOK C.P (cv k) (HD C (f k).T) (f k).H x.op (r k) (e k):=by
 obtain⟨h1,h2,_⟩:=(E.step hx).yes hb
 rw[h2]
 exact HY h1
theorem Env.noH(E:Env C h nt ro wro o ops f r e b cv s0 w0 a0){k:Nat}(hk:k<ops.size)(he:e k=.none\/(∃c,e k=.rd c)\/∃c t q,e k=.lk c t q):(r k).H=(f k).H:=by
 have hx:ops[k]?=some ops[k]:=by simp[hk]
 cases hb:b k with
 | false=>obtain⟨h1,_⟩:=(E.step hx).no hb;rw[h1]
 | true=>
  have:=E.eff hx hb
  rcases he with he|⟨c,he⟩|⟨c,t,q,he⟩<;>rw[he] at this<;>exact this.1
theorem Env.writer(E:Env C h nt ro wro o ops f r e b cv s0 w0 a0){k c:Nat}(hk:k<ops.size)(hw:Wr f k c):e k=.wr c\/(∃x,e k=.ap c x)\/e k=.sw\/∃t q,e k=.en c t q:=by
 obtain⟨h1,h2⟩:=E.hstep hk
 have hx:ops[k]?=some ops[k]:=by simp[hk]
 unfold Wr at hw
 rw[h2] at hw
 cases hb:b k with
 | false=>obtain⟨h3,_⟩:=(E.step hx).no hb;rw[h3] at hw;exact absurd rfl hw.2
 | true=>
  have h3:=E.eff hx hb
  cases he:e k<;>rw[he] at h3<;>simp only[EffOK] at h3
  case none=>rw[h3.1] at hw;exact absurd rfl hw.2
  case rd c'=>rw[h3.1] at hw;exact absurd rfl hw.2
  case al=>
   obtain⟨B,nv,_,h4,_⟩:=h3
   rw[h4] at hw
   simp only at hw
   rw[Heap.get_push,if_neg (by omega)] at hw
   exact absurd rfl hw.2
  case ap c' x=>
   obtain⟨B,nv,_,h4,_⟩:=h3
   rw[h4] at hw
   simp only[dz] at hw
   rw[Heap.get_set,Heap.get_push,if_neg (c:=c=(f k).H.n) (by omega)] at hw
   by_cases e':c=c'
   ·subst e';exact .inr (.inl ⟨x,rfl⟩)
   ·rw[if_neg (fun h=>e' h.1)] at hw;exact absurd rfl hw.2
  case wr c'=>
   obtain⟨B,_,_,h4,_⟩:=h3
   rw[h4,Heap.get_set] at hw
   by_cases e':c=c'
   ·subst e';exact .inl rfl
   ·rw[if_neg (fun h=>e' h.1)] at hw;exact absurd rfl hw.2
  case sr=>exact absurd (h1.old c (by rw[h3];exact hw.1) hw.1) hw.2
  case ca=>exact absurd (h1.old c (by rw[h3];exact hw.1) hw.1) hw.2
  case lk c' t q=>rw[h3.1] at hw;exact absurd rfl hw.2
  case en c' t q=>
   obtain⟨B,_,h4,_⟩:=h3
   rw[h4,Heap.get_set] at hw
   by_cases e':c=c'
   ·subst e';exact .inr (.inr (.inr ⟨t,q,rfl⟩))
   ·rw[if_neg (fun h=>e' h.1)] at hw;exact absurd rfl hw.2
  case sw=>exact .inr (.inr (.inl rfl))
theorem Env.birth(E:Env C h nt ro wro o ops f r e b cv s0 w0 a0){k:Nat}(hk:k<ops.size)(hn:(f k).H.n<(f (k+1)).H.n):e k≠.none:=by
 intro he
 rw[(E.hstep hk).2,E.noH hk (.inl he)] at hn
 omega
theorem Env.slots(E:Env C h nt ro wro o ops f r e b cv s0 w0 a0)(t:Tmp):∀k,k<=ops.size->(∀(j:Nat) (x:Oper),ops[j]?=some x->x.dst=some t->PD (f k).T t=if j<k then(r j).v else PD (f 0).T t)/\((∀(j:Nat) (x:Oper),ops[j]?=some x->x.dst≠some t)->PD (f k).T t=PD (f 0).T t)
 | 0,_=>⟨fun j x hx hd=>by rw[if_neg (by omega)],fun _=>rfl⟩
 | k+1,hk=>by
  obtain⟨h1,h2⟩:=E.slots t k (by omega)
  have hx:ops[k]?=some ops[k]:=by simp[show k<ops.size by omega]
  have hT:=(E.step hx).T.1
  refine⟨fun j x hj hd=>?_,fun hn=>?_⟩
  ·rw[hT]
   by_cases ej:j=k
   ·subst ej
    rw[hx] at hj
    injection hj with hj
    rw[hj,hd,if_pos (by omega)]
    simp[OG,QM]
   ·have:PD (OG (f k).T ops[k].dst (r k).v) t=PD (f k).T t:=by
     cases hd':ops[k].dst with
     | none=>rfl
     | some d=>
      simp only[OG,QM]
      rw[if_neg]
      intro et
      subst et
      exact ej (E.reg.once k _ t hx hd' j x hj hd)
    rw[this,h1 j x hj hd]
    by_cases l:j<k
    ·rw[if_pos l,if_pos (by omega)]
    ·rw[if_neg l,if_neg (by omega)]
  ·rw[hT]
   have hd:=hn k _ hx
   cases hd':ops[k].dst with
   | none=>exact h2 hn
   | some d=>
    simp only[OG,QM]
    rw[if_neg,h2 hn]
    intro et
    subst et
    exact hd hd'
theorem Env.lo(E:Env C h nt ro wro o ops f r e b cv s0 w0 a0):∀k,k<=ops.size->(f k).lo<=(f 0).lo/\∀j,j<k->b j=true->(f k).lo<=(r j).lo
 | 0,_=>⟨jA _,fun j hj=>by omega⟩
 | k+1,hk=>by
  obtain⟨h1,h2⟩:=E.lo k (by omega)
  have hx:ops[k]?=some ops[k]:=by simp[show k<ops.size by omega]
  cases hb:b k with
  | false=>
   obtain⟨_,_,h3⟩:=(E.step hx).no hb
   rw[h3]
   refine⟨h1,fun j hj hbj=>h2 j ?_ hbj⟩
   by_cases ej:j=k
   ·subst ej;rw[hb] at hbj;cases hbj
   ·omega
  | true=>
   obtain⟨_,_,h3⟩:=(E.step hx).yes hb
   rw[h3]
   simp only
   refine⟨by omega,fun j hj hbj=>?_⟩
   by_cases ej:j=k
   ·subst ej;omega
   ·have:=h2 j (by omega) hbj
    omega
structure Mid(C:Ctx)(h:Nat->Prop)(nt:Nat)(ro wro:Option Nat)(o:yK)(ops:Array Oper)(f:Nat->St)(r:Nat->OR)(s0:Nat->Option Nat)(w0:World)(S:Nat->Bool)(HS:Heap)(σ:Nat->Option Nat)(T:Tr V)(w:World)(a:Act):Prop where
 hr:HR (C.ph h) σ HS w
 gk:GOK C h σ w
 sz:a.tmps.size=nt
 df:Marks (C.ph h) o.w.heap.size σ w o.base a.defers
 rd:Rd σ HS ro wro
 tm:∀t,VH (C.ph h) σ HS w (PD T t) (a.tmps.getD t undef)
 ts:∀t,(∀(j:Nat) (x:Oper),ops[j]?=some x->x.dst=some t->PD T t=if S j then(r j).v else PD (f 0).T t)/\((∀(j:Nat) (x:Oper),ops[j]?=some x->x.dst≠some t)->PD T t=PD (f 0).T t)
 nn:HS.n=(f ops.size).H.n
 cont:∀c,c<HS.n->∃m,m<=ops.size/\c<(f m).H.n/\HS.get c=(f m).H.get c/\∀j,j<ops.size->Wr f j c->(S j=true↔j<m)
 unb:∀k,k<ops.size->S k=false->∀c g,(f k).H.n<=c->c<(f (k+1)).H.n->σ c≠some g
 cov:∀k,k<ops.size->S k=true->∀c,(f k).H.n<=c->c<(f (k+1)).H.n->RC HS c\/∃g,σ c=some g
 unw:∀k,k<ops.size->S k=false->∀c,(f k).H.n<=c->c<(f (k+1)).H.n->∀j,j<ops.size->S j=true->¬Wr f j c
 pc:Pc (f ops.size).lo (f 0).H.n s0 (f 0).H w0 σ HS w
structure Next(ops:Array Oper)(S:Nat->Bool)(i:Nat)(x:Oper):Prop where
 hx:ops[i]?=some x
 no:S i=false
 edges:∀e∈x.after,LC .any e=true->S e.on=true
 closed:rV ops (fun j=>S j=true)
def FK(S:Nat->Bool)(i j:Nat):Bool:=S j||kB j i
theorem cO{S:Nat->Bool}{i j:Nat}(h:j≠i):FK S i j=S j:=by simp[FK,bN h]
theorem K3{S:Nat->Bool}{i:Nat}:FK S i i=true:=by simp[FK]
theorem sf{S:Nat->Bool}{i j:Nat}(h:FK S i j=false):j≠i/\S j=false:=by
 have:j≠i:=by intro e;subst e;rw[K3] at h;cases h
 exact⟨this,by rwa [cO this] at h⟩
variable {S:Nat->Bool} {HS:Heap} {σ:Nat->Option Nat} {T:Tr V} {w:World} {a:Act} {i:Nat} {x:Oper}
theorem Next.lt(N:Next ops S i x):i<ops.size:=(LA.1 N.hx).1
theorem Env.ordered(E:Env C h nt ro wro o ops f r e b cv s0 w0 a0)(N:Next ops S i x){j:Nat}(hj:j<ops.size)(hne:j≠i)(hc:oI (e i) (e j)=true):S j=true↔j<i:=by
 constructor
 ·intro hS
  rcases RA j i with l|l
  ·exact l
  ·have hb:=E.ord i j (by omega) hj hc
   have:=yS hb hj N.closed (fun y hy ed he hbd=>N.closed j y hS hy ed he hbd)
   rw[N.no] at this
   cases this
 ·intro l
  have hb:=E.ord j i l N.lt (by rw[zoK];exact hc)
  exact yS hb N.lt N.closed (fun y hy ed he hbd=>by rw[N.hx] at hy;injection hy with hy;subst hy;exact N.edges ed he hbd)
theorem Env.slot(E:Env C h nt ro wro o ops f r e b cv s0 w0 a0)(M:Mid C h nt ro wro o ops f r s0 w0 S HS σ T w a)(N:Next ops S i x){t:Tmp}(ht:t∈x.looksAt ops):PD T t=PD (f i).T t:=by
 obtain⟨h1,h2⟩:=M.ts t
 obtain⟨h3,h4⟩:=E.slots t i (Nat.le_of_lt N.lt)
 by_cases hw:∃(j:Nat) (y:Oper),ops[j]?=some y/\y.dst=some t
 ·obtain⟨j,y,hy,hd⟩:=hw
  rw[h1 j y hy hd,h3 j y hy hd]
  have hj:j<ops.size:=(LA.1 hy).1
  rcases E.reg.look i x t N.hx ht j y hy hd with ej|⟨l,hb⟩|⟨l,hb⟩
  ·subst ej
   rw[N.no,if_neg (by simp),if_neg (by omega)]
  ·have hS:=yS hb N.lt N.closed (fun y hy ed he hbd=>by rw[N.hx] at hy;injection hy with hy;subst hy;exact N.edges ed he hbd)
   rw[if_pos hS,if_pos l]
  ·have hS:¬S j=true:=fun hS=>by
    have:=yS hb hj N.closed (fun y hy ed he hbd=>N.closed j y hS hy ed he hbd)
    rw[N.no] at this
    cases this
   rw[if_neg hS,if_neg (by omega)]
 ·have hn:∀(j:Nat) (y:Oper),ops[j]?=some y->y.dst≠some t:=fun j y hy hd=>hw ⟨j,y,hy,hd⟩
  rw[h2 hn,h4 hn]
theorem zkD{ops:Array Oper}{T T':Tr V}{x:Oper}(h:∀t∈x.looksAt ops,PD T t=PD T' t):XJ ops T x=XJ ops T' x:=by
 unfold XJ
 cases hg:x.guard with
 | none=>rfl
 | some p=>
  obtain⟨j,want⟩:=p
  simp only
  cases hd:(ops[j]?).bind (·.dst) with
  | none=>rfl
  | some d=>simp only[h d (by simp[Oper.looksAt,hg,hd])]
theorem O2{ops:Array Oper}{T T':Tr V}{x:Oper}(h:∀t∈x.looksAt ops,PD T t=PD T' t):∀y∈x.op.operands,HD C T y=HD C T' y:=by
 intro y hy
 cases y with
 | tmp t=>exact h t (List.mem_append_left _ (List.mem_filterMap.2 ⟨.tmp t,by simpa using hy,rfl⟩))
 | _=>rfl
theorem Env.seen(E:Env C h nt ro wro o ops f r e b cv s0 w0 a0)(M:Mid C h nt ro wro o ops f r s0 w0 S HS σ T w a)(N:Next ops S i x){c:Nat}(hc:c<(f i).H.n)(hw:∀j,j<ops.size->j≠i->Wr f j c->(S j=true↔j<i)):HS.get c=(f i).H.get c:=by
 have hi:=N.lt
 obtain⟨m,hm,hcm,he,hj⟩:=M.cont c (by rw[M.nn];exact vB hc (E.mono (by omega) (jA _)))
 rw[he]
 rcases RA i m with l|l
 ·refine E.const (by omega) hm (fun k h1 h2 hk=>?_) hc
  have hS:=(hj k (by omega) hk).2 h2
  by_cases ek:k=i
  ·subst ek;rw[N.no] at hS;cases hS
  ·have:=(hw k (by omega) ek hk).1 hS
   omega
 ·refine(E.const l (by omega) (fun k h1 h2 hk=>?_) hcm).symm
  have hS:=(hw k (by omega) (by omega) hk).2 h2
  have:=(hj k (by omega) hk).1 hS
  omega
theorem Env.seen_new(E:Env C h nt ro wro o ops f r e b cv s0 w0 a0)(M:Mid C h nt ro wro o ops f r s0 w0 S HS σ T w a)(N:Next ops S i x){c:Nat}(hc:(f i).H.n<=c)(hc':c<(f (i+1)).H.n):HS.get c=(f (i+1)).H.get c:=by
 have hi:=N.lt
 obtain⟨m,hm,hcm,he,hj⟩:=M.cont c (by rw[M.nn];exact vB hc' (E.mono (by omega) (jA _)))
 have him:i+1<=m:=by
  rcases RA i m with l|l
  ·exact l
  ·have:=E.mono l (by omega);omega
 rw[he]
 refine E.const him hm (fun k h1 h2 hk=>?_) hc'
 exact M.unw i hi N.no c hc hc' k (by omega) ((hj k (by omega) hk).2 h2) hk
theorem Mid.next(E:Env C h nt ro wro o ops f r e b cv s0 w0 a0)(M:Mid C h nt ro wro o ops f r s0 w0 S HS σ T w a)(N:Next ops S i x){σ':Nat->Option Nat}{HS':Heap}{w':World}{c:Value}
  (hr:HR (C.ph h) σ' HS' w') (hv:VH (C.ph h) σ' HS' w' (r i).v c) (pc:Pc (f ops.size).lo (f 0).H.n σ HS w σ' HS' w') (nn:HS'.n=HS.n)
  (cont:∀c,c<HS'.n->∃m,m<=ops.size/\c<(f m).H.n/\HS'.get c=(f m).H.get c/\∀j,j<ops.size->Wr f j c->(FK S i j=true↔j<m))
  (unb:∀k,k<ops.size->k≠i->S k=false->∀c g,(f k).H.n<=c->c<(f (k+1)).H.n->σ' c≠some g)
  (cov:∀c,(f i).H.n<=c->c<(f (i+1)).H.n->RC HS' c\/∃g,σ' c=some g)
  (unw:∀k,k<ops.size->k≠i->S k=false->∀c,(f k).H.n<=c->c<(f (k+1)).H.n->¬Wr f i c):
  Mid C h nt ro wro o ops f r s0 w0 (FK S i) HS' σ' (OG T x.dst (r i).v) w' (a.put x.dst c) where
 hr:=hr
 gk:=pc.gok M.gk
 sz:=by rw[zh3];exact M.sz
 df:=by rw[zfx];exact pc.marks M.df
 rd:=pc.rd M.rd
 tm:=fun t=>zpq (E.step N.hx).dst M.sz (fun t=>gF pc.grow _ _ (M.tm t)) hv t
 ts:=fun t=>by
  obtain⟨h1,h2⟩:=M.ts t
  refine⟨fun j y hy hd=>?_,fun hn=>?_⟩
  ·by_cases ej:j=i
   ·subst ej
    rw[N.hx] at hy
    injection hy with hy
    rw[hy,hd,K3,if_pos rfl]
    simp[OG,QM]
   ·rw[cO ej,<-h1 j y hy hd]
    cases hd':x.dst with
    | none=>rfl
    | some d=>
     simp only[OG,QM]
     rw[if_neg]
     intro et
     subst et
     exact ej (E.reg.once i x t N.hx hd' j y hy hd)
  ·rw[<-h2 hn]
   cases hd':x.dst with
   | none=>rfl
   | some d=>
    simp only[OG,QM]
    rw[if_neg]
    intro et
    subst et
    exact hn i x N.hx hd'
 nn:=nn.trans M.nn
 cont:=cont
 unb:=fun k hk hS c g h1 h2=>unb k hk (sf hS).1 (sf hS).2 c g h1 h2
 cov:=fun k hk hS c h1 h2=>by
  by_cases ek:k=i
  ·subst ek;exact cov c h1 h2
  ·rw[cO ek] at hS
   rcases M.cov k hk hS c h1 h2 with hd|⟨g,hg⟩
   ·exact .inl (pc.dd c hd)
   ·rcases pc.ss c g hg with h3|⟨h3,_⟩
    ·exact .inr ⟨g,h3⟩
    ·exact .inl h3
 unw:=fun k hk hSk c h1 h2 j hj hSj=>by
  have ek:=(sf hSk).1
  have hS:=(sf hSk).2
  by_cases ej:j=i
  ·rw[ej];exact unw k hk ek hS c h1 h2
  ·rw[cO ej] at hSj
   exact M.unw k hk hS c h1 h2 j hj hSj
 pc:=M.pc.trans pc
end
end
end Go.Tw
