/- Own work for this claim, part 6 of 17. No condition of its own. -/
import Derived.Test.YtookdinfaoelaaaGreatDoorX04
import Derived.Attr
import Derived.Test.YtookdinfaoelaaaGreatDoorX00
import Derived.Deep.Slices
import Derived.OpenShut
set_option linter.all false
set_option maxRecDepth 100000
set_option maxHeartbeats 4000000
open BitVec renaming ofInt→EB
open Bool renaming and_eq_true→wA
open Go.IntKind renaming bits→GC,signed→xC,wrap→tC
open Go.Tw.Heap renaming get_lt→vC,get_push→yA,get_set→dA,n_push→iA,n_set→kA
open Go.Tw.V renaming one→HB
open List renaming all_cons→CD,all_eq_true→gB,append_inj→dH,append_nil→MA,drop_eq_getElem_cons→DB,drop_succ_cons→JD,getElem?_eq_getElem→sA,getElem?_eq_some_iff→rA,length_append→qA,length_cons→HA,mapM_cons→aG,map_cons→NC,mem_cons→IB,mem_singleton→gD,nil_append→DD,nodup_nil→dE,take_of_length_le→uA
open List.cons renaming injEq→HF
open Nat renaming add_mul→ZC,add_sub_cancel→ME,beq→kB,le_refl→jA,lt_or_ge→RA,min_self→gA,one_mul→dF,succ_mul→IG
open Option renaming bind_eq_some_iff→nA,map_some→SB
namespace Go.Tw
section
inductive Hid.{u} {α:Sort u} (a:α):Type where
 | mk
structure OV(o:Option V)(K:V->Prop)(h:Hid K):Prop where
 mk'::
 out:∃v,o=some v/\K v
@[go_sem] theorem Wg(v:V)(K:V->Prop)(h:Hid K):OV (some v) K h=K v:=propext ⟨fun⟨v',e,k⟩=>by injection e with e;rw[e];exact k,fun k=>⟨v,rfl,k⟩⟩
theorem OV.intro{o:Option V}{v:V}{K:V->Prop}{h:Hid K}(e:o=some v)(k:K v):OV o K h:=⟨v,e,k⟩
structure OO(o:Option OR)(K:OR->Prop)(h:Hid K):Prop where
 mk'::
 out:OQ o K
theorem xL(o:Option OR)(K:OR->Prop)(h:Hid K):OO o K h=OQ o K:=propext ⟨OO.out,OO.mk'⟩
@[go_sem] theorem Vg(r:OR)(K:OR->Prop)(h:Hid K):OO (some r) K h=K r:=propext ⟨fun k=>k.out,fun k=>⟨k⟩⟩
theorem OO.intro{o:Option OR}{r:OR}{K:OR->Prop}{h:Hid K}(e:o=some r)(k:K r):OO o K h:=⟨by rw[e];exact k⟩
theorem RM(H:Heap)(o:Option V)(K:OR->Prop):OQ (keep H o) K=OV o (fun v=>K ⟨v,H,H.n⟩) .mk:=by
 cases o with
 | none=>exact propext ⟨fun k=>k.elim,fun⟨v,e,k⟩=>by cases e⟩
 | some v=>exact propext ⟨fun k=>⟨v,rfl,k⟩,fun⟨v',e,k⟩=>by injection e with e;subst e;exact k⟩
structure OL(o:Option (List V))(K:List V->Prop)(h:Hid K):Prop where
 mk'::
 out:∃vs,o=some vs/\K vs
@[go_sem] theorem Ug(v:List V)(K:List V->Prop)(h:Hid K):OL (some v) K h=K v:=propext ⟨fun⟨v',e,k⟩=>by injection e with e;rw[e];exact k,fun k=>⟨v,rfl,k⟩⟩
structure VC(C:Ctx)(nt:Nat)(ro:Option Nat)(H0:Heap)(c:Code)(T:Tr V)(H:Heap)(lo:Nat)(Q:Ex->St->Prop)(h:Hid (c,Q)):Prop where
 mk'::
 out:vc C nt ro H0 c ⟨T,H,lo⟩ Q
theorem jL(C:Ctx)(nt:Nat)(ro:Option Nat)(H0:Heap)(c:Code)(T:Tr V)(H:Heap)(lo:Nat)(Q:Ex->St->Prop)(h:Hid (c,Q)):VC C nt ro H0 c T H lo Q h=(vc C nt ro H0 c ⟨T,H,lo⟩ Q):=propext ⟨VC.out,VC.mk'⟩
structure VO(C:Ctx)(nt:Nat)(ds:List (Option Tmp))(l:List Oper)(T:Tr V)(H:Heap)(lo:Nat)(Q:St->Prop)(h:Hid (ds,l,Q)):Prop where
 mk'::
 out:lM C nt ds l ⟨T,H,lo⟩ Q
theorem VU(C:Ctx)(nt:Nat)(ds:List (Option Tmp))(l:List Oper)(T:Tr V)(H:Heap)(lo:Nat)(Q:St->Prop)(h:Hid (ds,l,Q)):VO C nt ds l T H lo Q h=(lM C nt ds l ⟨T,H,lo⟩ Q):=propext ⟨VO.out,VO.mk'⟩
structure VP(C:Ctx)(T:Tr V)(H:Heap)(op:Op)(K:OR->Prop)(h:Hid (op,K)):Prop where
 mk'::
 out:BM C (HD C T) H op K
theorem TH(C:Ctx)(T:Tr V)(H:Heap)(op:Op)(K:OR->Prop)(h:Hid (op,K)):VP C T H op K h=(BM C (HD C T) H op K):=propext ⟨VP.out,VP.mk'⟩
structure MV(C:Ctx)(f:V)(args:List V)(H:Heap)(K:OR->Prop)(h:Hid K):Prop where
 mk'::
 out:MVal C f args H K
theorem zaH(C:Ctx)(f:V)(args:List V)(H:Heap)(K:OR->Prop)(h:Hid K):MV C f args H K h=(MVal C f args H K):=propext ⟨MV.out,MV.mk'⟩
structure WW(C:Ctx)(nt:Nat)(ro:Option Nat)(H0:Heap)(c:Code)(T:Tr V)(H:Heap)(lo:Nat)(Q:Ex->St->Prop)(h:Hid (c,Q)):Prop where
 mk'::
 out:W C nt ro H0 c ⟨T,H,lo⟩ Q
theorem jj(C:Ctx)(nt:Nat)(ro:Option Nat)(H0:Heap)(c:Code)(T:Tr V)(H:Heap)(lo:Nat)(Q:Ex->St->Prop)(h:Hid (c,Q)):WW C nt ro H0 c T H lo Q h=(W C nt ro H0 c ⟨T,H,lo⟩ Q):=propext ⟨WW.out,WW.mk'⟩
structure DR'(C:Ctx)(nt:Nat)(ops:Array Oper)(T:Tr V)(H:Heap)(lo:Nat)(Q:St->Prop)(h:Hid (ops,Q)):Prop where
 mk'::
 out:vO C nt ops ⟨T,H,lo⟩ Q
theorem zaI(C:Ctx)(nt:Nat)(ops:Array Oper)(T:Tr V)(H:Heap)(lo:Nat)(Q:St->Prop)(h:Hid (ops,Q)):DR' C nt ops T H lo Q h=(vO C nt ops ⟨T,H,lo⟩ Q):=propext ⟨DR'.out,DR'.mk'⟩
theorem W.of_VC{C:Ctx}{nt:Nat}{ro:Option Nat}{H0:Heap}{c:Code}{T:Tr V}{H:Heap}{lo:Nat}{Q:Ex->St->Prop}(hmix:C.P.follows .mixedOrders=true)(h:VC C nt ro H0 c T H lo Q .mk):W C nt ro H0 c ⟨T,H,lo⟩ Q:=Re hmix _ _ _ h.out
section code
variable (C:Ctx) (nt:Nat) (ro:Option Nat) (H0:Heap) (T:Tr V) (H:Heap) (lo:Nat) (Q:Ex->St->Prop)
@[go_sem ↓] theorem gj(h:Hid (Code.skip,Q)):VC C nt ro H0 .skip T H lo Q h=Q .normal ⟨T,H,lo⟩:=by first|(simp only[jL];done)|(simp only[jL];rfl)
@[go_sem ↓] theorem H6(i:Nat)(ops:List Oper)(h:Hid (Code.region i ⟨ops⟩ false,Q)):VC C nt ro H0 (.region i ⟨ops⟩ false) T H lo Q h=VO C nt (ops.map (·.dst)) ops T H lo (Q .normal) .mk:=by first|(simp only[jL,VU];done)|(simp only[jL,VU];rfl)
@[go_sem ↓] theorem cj(i:Nat)(ops:Array Oper)(h:Hid (Code.region i ops true,Q)):VC C nt ro H0 (.region i ops true) T H lo Q h=DR' C nt ops T H lo (Q .normal) .mk:=by first|(simp only[jL,zaI];done)|(simp only[jL,zaI];rfl)
def lP(C:Ctx)(nt:Nat)(ro:Option Nat)(H0:Heap)(b:Code)(Q:Ex->St->Prop)(x:Ex)(st:St):Prop:=
 match x with
 | .normal=>VC C nt ro H0 b st.T st.H st.lo Q .mk
 | x=>Q x st
@[go_sem ↓] theorem vc_seq(a b:Code)(h:Hid (Code.seq a b,Q)):VC C nt ro H0 (.seq a b) T H lo Q h=VC C nt ro H0 a T H lo (lP C nt ro H0 b Q) .mk:=by
 rw[jL,jL]
 have e:(fun x st'=>match x with|.normal=>vc C nt ro H0 b st' Q|x=>Q x st')=lP C nt ro H0 b Q:=by
  funext x st'
  cases x with
  | normal=>exact(jL ..).symm
  | ret=>rfl
  | exit i=>rfl
 rw[<-e]
 rfl
@[go_sem ↓] theorem ZV(b:Code):lP C nt ro H0 b Q .normal ⟨T,H,lo⟩=VC C nt ro H0 b T H lo Q .mk:=rfl
@[go_sem ↓] theorem P4(b:Code)(i:Nat)(st:St):lP C nt ro H0 b Q (.exit i) st=Q (.exit i) st:=rfl
@[go_sem ↓] theorem D9(b:Code)(st:St):lP C nt ro H0 b Q .ret st=Q .ret st:=rfl
@[go_sem ↓] theorem dj(i:Nat)(h:Hid (Code.exit i,Q)):VC C nt ro H0 (.exit i) T H lo Q h=Q (.exit i) ⟨T,H,lo⟩:=by first|(simp only[jL];done)|(simp only[jL];rfl)
@[go_sem ↓] theorem vc_ret(h:Hid (Code.ret,Q)):VC C nt ro H0 .ret T H lo Q h=Q .ret ⟨T,H,lo⟩:=by first|(simp only[jL];done)|(simp only[jL];rfl)
def oS(id:Nat)(Q:Ex->St->Prop)(x:Ex)(st:St):Prop:=
 match x with
 | .exit i=>bif kB i id then Q .normal st else Q (.exit i) st
 | x=>Q x st
@[go_sem ↓] theorem Pe(id:Nat)(b:Code)(h:Hid (Code.block id b,Q)):VC C nt ro H0 (.block id b) T H lo Q h=VC C nt ro H0 b T H lo (oS id Q) .mk:=by
 rw[jL,jL]
 have e:(fun x st'=>match x with|.exit i=>bif kB i id then Q .normal st' else Q (.exit i) st'|x=>Q x st')=oS id Q:=by
  funext x st'
  cases x<;>rfl
 rw[<-e]
 rfl
@[go_sem ↓] theorem UX(id:Nat)(st:St):oS id Q .normal st=Q .normal st:=rfl
@[go_sem ↓] theorem Xg(id:Nat)(st:St):oS id Q .ret st=Q .ret st:=rfl
@[go_sem ↓] theorem u9(id:Nat)(st:St):oS id Q (.exit id) st=Q .normal st:=by simp[oS]
theorem zlX(id i:Nat)(st:St)(e:i≠id):oS id Q (.exit i) st=Q (.exit i) st:=by
 simp only[oS,bN e,cond_false]
def EV(v:V)(A B:Prop)(h:Hid (A,B)):Prop:=
 match v with
 | .lit (.bool t)=>bif t then A else B
 | _=>False
@[go_sem ↓] theorem bj(c:Operand)(a b:Code)(h:Hid (Code.cond c a b,Q)):VC C nt ro H0 (.cond c a b) T H lo Q h=EV (HD C T c) (VC C nt ro H0 a T H lo Q .mk) (VC C nt ro H0 b T H lo Q .mk) .mk:=by
 rw[jL,jL,jL]
 show(match HD C T c with|.lit (.bool t)=>bif t then vc C nt ro H0 a ⟨T,H,lo⟩ Q else vc C nt ro H0 b ⟨T,H,lo⟩ Q|_=>False)=_
 unfold EV
 split<;>rfl
@[go_sem ↓] theorem fj(b:Code)(h:Hid (Code.loop b,Q)):VC C nt ro H0 (.loop b) T H lo Q h=WW C nt ro H0 (.loop b) T H lo Q .mk:=by first|(simp only[jL,jj];done)|(simp only[jL,jj];rfl)
@[go_sem ↓] theorem Se(q:Operand)(ps:Array Tmp)(a b:Code)(h:Hid (Code.rangeFunc q ps a b,Q)):VC C nt ro H0 (.rangeFunc q ps a b) T H lo Q h=WW C nt ro H0 (.rangeFunc q ps a b) T H lo Q .mk:=by first|(simp only[jL,jj];done)|(simp only[jL,jj];rfl)
@[go_sem] theorem zqL(A B:Prop)(h:Hid (A,B)):EV (.lit (.bool true)) A B h=A:=rfl
@[go_sem] theorem zn6(A B:Prop)(h:Hid (A,B)):EV (.lit (.bool false)) A B h=B:=rfl
theorem BR.split{b:Bool}{A B:Prop}{hh:Hid (A,B)}(h:b=true->A)(k:b=false->B):EV (.lit (.bool b)) A B hh:=by
 cases b
 ·exact k rfl
 ·exact h rfl
theorem BR.dec{p:Prop}{_:Decidable p}{A B:Prop}{hh:Hid (A,B)}(h:p->A)(k:¬p->B):EV (.lit (.bool (decide p))) A B hh:=by
 by_cases e:p
 ·simp only[e,decide_true,zqL];exact h e
 ·simp only[e,decide_false,zn6];exact k e
end code
def GD(v:V)(want:Bool)(A B:Prop)(h:Hid (A,B)):Prop:=
 match v with
 | .lit (.bool b)=>bif (bif want then b else !b) then A else B
 | .tup []=>B
 | _=>False
@[go_sem] theorem GD_tt(A B:Prop)(h:Hid (A,B)):GD (.lit (.bool true)) true A B h=A:=rfl
@[go_sem] theorem GD_tf(A B:Prop)(h:Hid (A,B)):GD (.lit (.bool true)) false A B h=B:=rfl
@[go_sem] theorem GD_ft(A B:Prop)(h:Hid (A,B)):GD (.lit (.bool false)) true A B h=B:=rfl
@[go_sem] theorem GD_ff(A B:Prop)(h:Hid (A,B)):GD (.lit (.bool false)) false A B h=A:=rfl
@[go_sem] theorem GD_no(w:Bool)(A B:Prop)(h:Hid (A,B)):GD (.tup []) w A B h=B:=rfl
theorem GD.split{b w:Bool}{A B:Prop}{hh:Hid (A,B)}(h:b=true->GD (.lit (.bool true)) w A B hh)(k:b=false->GD (.lit (.bool false)) w A B hh):GD (.lit (.bool b)) w A B hh:=by
 cases b
 ·exact k rfl
 ·exact h rfl
theorem GD.dec{p:Prop}{_:Decidable p}{w:Bool}{A B:Prop}{hh:Hid (A,B)}(h:p->GD (.lit (.bool true)) w A B hh)(k:¬p->GD (.lit (.bool false)) w A B hh):GD (.lit (.bool (decide p))) w A B hh:=by
 by_cases e:p
 ·simp only[e,decide_true];exact h e
 ·simp only[e,decide_false];exact k e
def NO(ds:List (Option Tmp))(T:Tr V)(j:Nat):V:=
 match (ds[j]?).join with
 | some d=>PD T d
 | none=>.any
@[go_sem] theorem YW(d:Tmp)(ds:List (Option Tmp))(T:Tr V):NO (some d::ds) T 0=PD T d:=rfl
@[go_sem] theorem XW(d:Option Tmp)(ds:List (Option Tmp))(T:Tr V)(j:Nat):NO (d::ds) T (j+1)=NO ds T j:=by simp[NO]
section ops
variable (C:Ctx) (nt:Nat) (ds:List (Option Tmp))
@[go_sem ↓] theorem G6(T:Tr V)(H:Heap)(lo:Nat)(Q:St->Prop)(h:Hid (ds,([]:List Oper),Q)):VO C nt ds [] T H lo Q h=Q ⟨T,H,lo⟩:=by first|(simp only[VU];done)|(simp only[VU];rfl)
@[go_sem ↓] theorem aX(op:Op)(d:Option Tmp)(ty:TypeId)(pos:String)(aft:Array Edge)(l:List Oper)(T:Tr V)(H:Heap)(lo:Nat)(Q:St->Prop)(h:Hid (ds,(⟨d,op,ty,pos,aft,none⟩::l:List Oper),Q)):
  VO C nt ds (⟨d,op,ty,pos,aft,none⟩::l) T H lo Q h=(nL nt d=true/\VP C T H op (fun r=>VO C nt ds l (OG T d r.v) r.H (min lo r.lo) Q .mk) .mk):=by
 rw[VU,TH]
 have e:(fun r:OR=>lM C nt ds l ⟨OG T d r.v,r.H,min lo r.lo⟩ Q)=fun r=>VO C nt ds l (OG T d r.v) r.H (min lo r.lo) Q .mk:=by
  funext r;exact(VU ..).symm
 rw[<-e]
 rfl
@[go_sem ↓] theorem ZW(op:Op)(d:Option Tmp)(ty:TypeId)(pos:String)(aft:Array Edge)(j:Nat)(want:Bool)(l:List Oper)(T:Tr V)(H:Heap)(lo:Nat)(Q:St->Prop)(h:Hid (ds,(⟨d,op,ty,pos,aft,some (j,want)⟩::l:List Oper),Q)):
  VO C nt ds (⟨d,op,ty,pos,aft,some (j,want)⟩::l) T H lo Q h=(nL nt d=true/\GD (NO ds T j) want (VP C T H op (fun r=>VO C nt ds l (OG T d r.v) r.H (min lo r.lo) Q .mk) .mk) (VO C nt ds l (OG T d EH) H (min lo H.n) Q .mk) .mk):=by
 rw[VU,TH,VU]
 have e:(fun r:OR=>lM C nt ds l ⟨OG T d r.v,r.H,min lo r.lo⟩ Q)=fun r=>VO C nt ds l (OG T d r.v) r.H (min lo r.lo) Q .mk:=by
  funext r;exact(VU ..).symm
 rw[<-e]
 show(_/\Oe C ds _ _ _)=_
 unfold Oe NO
 simp only
 cases (ds[j]?).join with
 | none=>rfl
 | some d'=>rfl
@[go_sem] theorem DY(d:Tmp):(nL nt (some d)=true)=(d<nt):=by simp[nL,Nat.blt_eq]
@[go_sem] theorem CY:(nL nt none=true)=True:=by simp[nL]
end ops
@[go_sem] theorem Vj(T:Tr V)(t u:Nat)(v:V):PD (OG T (some t) v) u=if u=t then v else PD T u:=QM T t u v
@[go_sem] theorem oe(T:Tr V)(v:V):OG T none v=T:=rfl
@[go_sem] theorem B5(i:Nat)(T:Tr V):ZJ [] i T=T:=rfl
@[go_sem] theorem RY(v:V)(vs:List V)(i:Nat)(T:Tr V):ZJ (v::vs) i T=ZJ vs (i+1) (OG T (some i) v):=rfl
@[go_sem] theorem zf(t:Nat)(v:V)(r:List (Nat×V)):jH ((t,v)::r)=OG (jH r) (some t) v:=rfl
@[go_sem] theorem zh:jH []=.nil:=rfl
@[go_sem] theorem Me(u:Nat):PD .nil u=.any:=rfl
@[go_sem] theorem Ki(C:Ctx)(T:Tr V)(t:Nat):HD C T (.tmp t)=PD T t:=rfl
@[go_sem] theorem B6(C:Ctx)(T:Tr V)(v:Value):HD C T (.const v)=lN v:=rfl
@[go_sem] theorem te(C:Ctx)(T:Tr V)(f:FuncId):HD C T (.func f)=.fn (.func f) [] []:=rfl
@[go_sem] theorem di(k:IntKind)(n:Int):lN (.int k n)=.lit (.int k n):=rfl
@[go_sem] theorem sd(b:Bool):lN (.bool b)=.lit (.bool b):=rfl
@[go_sem] theorem GZ(s:ByteArray):lN (.string s)=.lit (.string s):=rfl
@[go_sem] theorem g6(a:Option Addr)(n m:Nat):lN (.slice a n m)=.lit (.slice a n m):=rfl
@[go_sem] theorem CW(a:Option Addr):lN (.pointer a)=.lit (.pointer a):=rfl
@[go_sem] theorem gi(a:Option Nat):lN (.map a)=.lit (.map a):=rfl
@[go_sem] theorem BW:lN .nilFunc=.lit .nilFunc:=rfl
@[go_sem] theorem nU:lN .nilIface=.lit .nilIface:=rfl
@[go_sem] theorem bi(cs:List Value):lN (.agg ⟨cs⟩)=.agg (cs.map .lit):=rfl
attribute [go_sem] yA dA iA kA
section op
variable (C:Ctx) (T:Tr V) (H:Heap) (K:OR->Prop)
@[go_sem ↓] theorem li(x:Operand)(h:Hid ((.move x:Op),K)):VP C T H (.move x) K h=K ⟨HD C T x,H,H.n⟩:=by first|(simp only[TH];done)|(simp only[TH];rfl)
@[go_sem ↓] theorem j6(x:Operand)(h:Hid ((.assign x:Op),K)):VP C T H (.assign x) K h=K ⟨HD C T x,H,H.n⟩:=by first|(simp only[TH];done)|(simp only[TH];rfl)
def F8(c a b:V):Option V:=
 match c with
 | .lit (.bool t)=>some (if t then a else b)
 | _=>none
@[go_sem] theorem s6(a b:V):F8 (.lit (.bool true)) a b=some a:=rfl
@[go_sem] theorem YZ(a b:V):F8 (.lit (.bool false)) a b=some b:=rfl
@[go_sem ↓] theorem mi(c a b:Operand)(h:Hid ((.pick c a b:Op),K)):VP C T H (.pick c a b) K h=OV (F8 (HD C T c) (HD C T a) (HD C T b)) (fun v=>K ⟨v,H,H.n⟩) .mk:=by
 rw[TH]
 show OQ (match HD C T c with|.lit (.bool t)=>keep H (some (if t then HD C T a else HD C T b))|_=>none) K=_
 unfold F8
 split
 ·exact RM H (some _) K
 ·exact RM H none K
@[go_sem ↓] theorem Pd(t:TypeId)(h:Hid ((.alloc t:Op),K)):VP C T H (.alloc t) K h=OO (uV C.P H t) K .mk:=by first|(simp only[TH,xL];done)|(simp only[TH,xL];rfl)
@[go_sem ↓] theorem op_box(t:TypeId)(x:Operand)(h:Hid ((.box t x:Op),K)):VP C T H (.box t x) K h=OO (JL H t (HD C T x)) K .mk:=by first|(simp only[TH,xL];done)|(simp only[TH,xL];rfl)
@[go_sem ↓] theorem Qd(t:TypeId)(ps:Array (Nat×Operand))(h:Hid ((.build t ps:Op),K)):VP C T H (.build t ps) K h=OV (fL C.P t (ps.toList.map fun p=>(p.1,HD C T p.2))) (fun v=>K ⟨v,H,H.n⟩) .mk:=by
 rw[TH];show OQ (keep H _) K=_;exact RM ..
@[go_sem ↓] theorem tS(t:TypeId)(n:Nat)(ps:Array (Nat×Operand))(h:Hid ((.buildSlice t n ps:Op),K)):VP C T H (.buildSlice t n ps) K h=OO (zx C.P H t n (ps.toList.map fun p=>(p.1,HD C T p.2))) K .mk:=by first|(simp only[TH,xL];done)|(simp only[TH,xL];rfl)
@[go_sem ↓] theorem ki(t:TypeId)(a:Operand)(h:Hid ((.load t a:Op),K)):VP C T H (.load t a) K h=OV (zeO C.P H t (HD C T a)) (fun v=>K ⟨v,H,H.n⟩) .mk:=by
 rw[TH];show OQ (keep H _) K=_;exact RM ..
@[go_sem ↓] theorem Vd(t:TypeId)(a x:Operand)(h:Hid ((.store t a x:Op),K)):VP C T H (.store t a x) K h=OO (qV C.P H t (HD C T a) (HD C T x)) K .mk:=by first|(simp only[TH,xL];done)|(simp only[TH,xL];rfl)
@[go_sem ↓] theorem NW(x:Operand)(h:Hid ((.nilCheck x:Op),K)):VP C T H (.nilCheck x) K h=OV (fV C.P (HD C T x)) (fun v=>K ⟨v,H,H.n⟩) .mk:=by
 rw[TH];show OQ (keep H _) K=_;exact RM ..
@[go_sem ↓] theorem op_bin(op:BinOp)(t:TypeId)(x y:Operand)(z:TypeId)(h:Hid ((.binOp op t x y z:Op),K)):VP C T H (.binOp op t x y z) K h=OV (jE C.P op t (HD C T x) (HD C T y)) (fun v=>K ⟨v,H,H.n⟩) .mk:=by
 rw[TH];show OQ (keep H _) K=_;exact RM ..
@[go_sem ↓] theorem op_un(op:UnOp)(t:TypeId)(x:Operand)(h:Hid ((.unOp op t x:Op),K)):VP C T H (.unOp op t x) K h=OV (PU op (HD C T x)) (fun v=>K ⟨v,H,H.n⟩) .mk:=by
 rw[TH];show OQ (keep H _) K=_;exact RM ..
@[go_sem ↓] theorem RZ(s d:TypeId)(x:Operand)(h:Hid ((.convert s d x:Op),K)):VP C T H (.convert s d x) K h=OO (bL C.P H s d (HD C T x)) K .mk:=by first|(simp only[TH,xL];done)|(simp only[TH,xL];rfl)
@[go_sem ↓] theorem LW(f:Fn)(a b:Array Operand)(h:Hid ((.makeFunc f a b:Op),K)):VP C T H (.makeFunc f a b) K h=K ⟨.fn f (a.toList.map (HD C T)) (b.toList.map (HD C T)),H,H.n⟩:=by first|(simp only[TH];done)|(simp only[TH];rfl)
@[go_sem ↓] theorem TZ(t:TypeId)(h:Hid ((.makeMap t none:Op),K)):VP C T H (.makeMap t none) K h=K ⟨.mp H.n,H.push (.map [] 0),H.n⟩:=by first|(simp only[TH];done)|(simp only[TH];rfl)
@[go_sem ↓] theorem sU(t:TypeId)(l c:Operand)(h:Hid ((.makeSlice t l c:Op),K)):VP C T H (.makeSlice t l c) K h=OO (kX C.P H t (HD C T l) (HD C T c)) K .mk:=by first|(simp only[TH,xL];done)|(simp only[TH,xL];rfl)
@[go_sem ↓] theorem Ud(t:TypeId)(x:Operand)(l u m:Option Operand)(h:Hid ((.slice t x l u m:Op),K)):VP C T H (.slice t x l u m) K h=OV (lH C.P t (HD C T x) (l.map (HD C T)) (u.map (HD C T)) (m.map (HD C T))) (fun v=>K ⟨v,H,H.n⟩) .mk:=by
 rw[TH];show OQ (keep H _) K=_;exact RM ..
@[go_sem ↓] theorem qU(s:TypeId)(x:Operand)(f:Nat)(h:Hid ((.fieldAddr s x f:Op),K)):VP C T H (.fieldAddr s x f) K h=OV (dL C.P s (HD C T x) f) (fun v=>K ⟨v,H,H.n⟩) .mk:=by
 rw[TH];show OQ (keep H _) K=_;exact RM ..
@[go_sem ↓] theorem rU(t:TypeId)(x i:Operand)(h:Hid ((.indexAddr t x i:Op),K)):VP C T H (.indexAddr t x i) K h=OV (zv C.P t (HD C T x) (HD C T i)) (fun v=>K ⟨v,H,H.n⟩) .mk:=by
 rw[TH];show OQ (keep H _) K=_;exact RM ..
@[go_sem ↓] theorem Td(t:TypeId)(x i:Operand)(h:Hid ((.index t x i:Op),K)):VP C T H (.index t x i) K h=OV (vN C.P t (HD C T x) (HD C T i)) (fun v=>K ⟨v,H,H.n⟩) .mk:=by
 rw[TH];show OQ (keep H _) K=_;exact RM ..
@[go_sem ↓] theorem m6(t:TypeId)(m k:Operand)(ok:Bool)(h:Hid ((.lookup t m k ok:Op),K)):VP C T H (.lookup t m k ok) K h=OV (aO C.P H t (HD C T m) (HD C T k) ok) (fun v=>K ⟨v,H,H.n⟩) .mk:=by
 rw[TH];show OQ (keep H _) K=_;exact RM ..
@[go_sem ↓] theorem SZ(x:Operand)(i:Nat)(h:Hid ((.extract x i:Op),K)):VP C T H (.extract x i) K h=OV (J7 (HD C T x) i) (fun v=>K ⟨v,H,H.n⟩) .mk:=by
 rw[TH];show OQ (keep H _) K=_;exact RM ..
@[go_sem ↓] theorem ii(f:Operand)(as0:Array Operand)(ts:Array TypeId)(h:Hid ((.call ⟨.value f,as0,ts⟩:Op),K)):VP C T H (.call ⟨.value f,as0,ts⟩) K h=MV C (HD C T f) (as0.toList.map (HD C T)) H K .mk:=by first|(simp only[TH,zaH];done)|(simp only[TH,zaH];rfl)
@[go_sem ↓] theorem op_len(x:Operand)(t:TypeId)(h:Hid ((.call ⟨.builtin .len,#[x],#[t]⟩:Op),K)):VP C T H (.call ⟨.builtin .len,#[x],#[t]⟩) K h=OV (qH C.P H t (HD C T x)) (fun v=>K ⟨v,H,H.n⟩) .mk:=by
 rw[TH];show OQ (keep H _) K=_;exact RM ..
@[go_sem ↓] theorem op_cap(x:Operand)(t:TypeId)(h:Hid ((.call ⟨.builtin .cap,#[x],#[t]⟩:Op),K)):VP C T H (.call ⟨.builtin .cap,#[x],#[t]⟩) K h=OV (KL C.P t (HD C T x)) (fun v=>K ⟨v,H,H.n⟩) .mk:=by
 rw[TH];show OQ (keep H _) K=_;exact RM ..
@[go_sem ↓] theorem i6(s x:Operand)(t t':TypeId)(h:Hid ((.call ⟨.builtin .append,#[s,x],#[t,t']⟩:Op),K)):VP C T H (.call ⟨.builtin .append,#[s,x],#[t,t']⟩) K h=OO (DH C.P H t t' (HD C T s) (HD C T x)) K .mk:=by first|(simp only[TH,xL];done)|(simp only[TH,xL];rfl)
@[go_sem ↓] theorem ji(s x:Operand)(t t':TypeId)(h:Hid ((.call ⟨.builtin .copy,#[s,x],#[t,t']⟩:Op),K)):VP C T H (.call ⟨.builtin .copy,#[s,x],#[t,t']⟩) K h=OO (xO C.P H t (HD C T s) (HD C T x)) K .mk:=by first|(simp only[TH,xL];done)|(simp only[TH,xL];rfl)
@[go_sem ↓] theorem Sd(s:Operand)(t:TypeId)(h:Hid ((.call ⟨.builtin .clear,#[s],#[t]⟩:Op),K)):VP C T H (.call ⟨.builtin .clear,#[s],#[t]⟩) K h=OO (GX C.P H t (HD C T s)) K .mk:=by first|(simp only[TH,xL];done)|(simp only[TH,xL];rfl)
@[go_sem ↓] theorem op_max(x:Operand)(l:List Operand)(ts:Array TypeId)(h:Hid ((.call ⟨.builtin .max,⟨x::l⟩,ts⟩:Op),K)):VP C T H (.call ⟨.builtin .max,⟨x::l⟩,ts⟩) K h=OV (kS J4 (HD C T x) (l.map (HD C T))) (fun v=>K ⟨v,H,H.n⟩) .mk:=by
 rw[TH];show OQ (keep H _) K=_;exact RM ..
end op
def Res(C:Ctx)(H0:Heap)(v:V)(H:Heap)(lo:Nat)(Q:OR->Prop)(h:Hid Q):Prop:=
 ∃u H2 lo2,Sub C 1 none H0 ⟨jH [(0,v)],H,lo⟩ ⟨jH [(0,u)],H2,lo2⟩/\Q ⟨u,H2,lo2⟩
theorem Res.same{C:Ctx}{H0:Heap}{v:V}{H:Heap}{lo:Nat}{Q:OR->Prop}{h:Hid Q}(k:Q ⟨v,H,lo⟩):Res C H0 v H lo Q h:=⟨v,H,lo,Sub.refl,k⟩
def Ends(C:Ctx)(H0:Heap)(rs:List ResultVar)(Q:OR->Prop)(x:Ex)(st:St):Prop:=
 match x with
 | .exit _=>False
 | _=>OL (aL C st.T st.H rs) (fun vs=>Res C H0 (YL vs) st.H st.lo Q .mk) .mk
section ends
variable (C:Ctx) (H0:Heap) (rs:List ResultVar) (Q:OR->Prop) (T:Tr V) (H:Heap) (lo:Nat)
@[go_sem ↓] theorem HV:Ends C H0 rs Q .normal ⟨T,H,lo⟩=OL (aL C T H rs) (fun vs=>Res C H0 (YL vs) H lo Q .mk) .mk:=rfl
@[go_sem ↓] theorem I8:Ends C H0 rs Q .ret ⟨T,H,lo⟩=OL (aL C T H rs) (fun vs=>Res C H0 (YL vs) H lo Q .mk) .mk:=rfl
end ends
theorem MCall.of {C : Ctx} (hmix : C.P.follows .mixedOrders = true) {g : FuncId} {fn : Func} {body : Code} (hf : C.P.funcs[g]? = some fn) (hb : fn.body = some body) (hn : fn.name ≠ "runtime.NumGoroutine") {args : List V} {H : Heap} {Q : OR → Prop} {k : Nat} (hk : max args.length fn.ntmps = k) {rs : List ResultVar} (hrs : fn.results.toList = rs)
  (hW:VC C k none H body (ZJ args 0 .nil) H H.n (Ends C H rs Q) .mk):MCall C g args H Q:=by
 intro h s w cas K hr hg ha hK
 subst hk hrs
 have h0:(callFunc g cas).run C.P w=.ok (.enter g cas) w:=by simp[callFunc,hf,hn,hb]
 have hl:=ha.length
 have R:SR C h (max args.length fn.ntmps) none none ⟨s,H,w,[]⟩ s w ⟨ZJ args 0 .nil,H,H.n⟩ { tmps:=cas++Array.replicate (fn.ntmps-cas.size) undef,defers:=[] }:=by
  refine⟨fun b g hb=>(hr.lt hb).1,hr,hg,jA _,Ext.refl _ _ _,?_,⟨[],rfl,dE,fun r hr=>by cases hr⟩,trivial,F3 ha _⟩
  simp only[Array.length_toList] at hl
  simp only[Array.size_append,Array.size_replicate]
  omega
 have og:Og C h H ⟨s,H,w,[]⟩:=⟨rfl,hg.1,hr⟩
 unfold CallF
 rw[h0]
 simp only
 refine(callsIn_wide (n:=0)).1 (callsIn_of_wp_marks hf hb trivial ?_)
 refine W.of_VC hmix hW h none _ s w _ _ og R fun x st s' w' a' q R'=>?_
 have key:OL (aL C st.T st.H fn.results.toList) (fun vs=>Res C H (YL vs) st.H st.lo Q .mk) .mk->LeavesInM Fence.wide 0 C.P fn a'.tmps (fun e w'=>∃v,e=.returned v/\K v w') a'.defers .returning w':=by
  rintro⟨vs,h1,u,H2,lo2,hsub,hQ⟩
  obtain⟨rs,e,hn,hm⟩:=R'.df
  simp only[MA] at e
  rw[e]
  refine mg rs w' R'.hr R'.ext R'.tm hn hm fun w2 k1 k2 k3=>?_
  obtain⟨c,h3,h4⟩:=xf (a:=a') k1 k3 h1
  refine⟨c,h3,c,rfl,?_⟩
  have R2:SR C h 1 none none ⟨s,H,w,[]⟩ s' w2 ⟨jH [(0,YL vs)],st.H,st.lo⟩ { tmps:=#[c],defers:=[] }:=by
   refine⟨R'.ob,k1,hg.ext k2,R'.ln,k2,rfl,⟨[],rfl,dE,fun r hr=>by cases hr⟩,trivial,fun t=>?_⟩
   show VH (C.ph h) s' st.H w2 (PD (YO .nil 0 (YL vs)) t) _
   rw[QM]
   by_cases e:t=0
   ·rw[if_pos e,e];exact h4
   ·rw[if_neg e];exact True.intro
  obtain⟨s2,R3⟩:=hsub h none _ s' w2 _ og R2
  have h5:=R3.tm 0
  have e5:PD (jH [(0,u)]) 0=u:=by
   show PD (YO .nil 0 u) 0=u
   rw[QM,if_pos rfl]
  simp only[e5] at h5
  exact hK _ hQ c w2 s2 h5 R3.hr R3.ext
 cases x with
 | normal=>exact key q
 | ret=>exact key q
 | exit i=>exact q.elim
end
section
section
variable (P:Program) (t:TypeId) (H:Heap)
@[go_sem] theorem lT(k:IntKind)(a b:Int):jE P .add t (.lit (.int k a)) (.lit (.int k b))=some (.lit (.int k (k.wrap (a+b)))):=by simp[jE,WL]
@[go_sem] theorem mh(k:IntKind)(a b:Int):jE P .sub t (.lit (.int k a)) (.lit (.int k b))=some (.lit (.int k (k.wrap (a-b)))):=by simp[jE,WL]
@[go_sem] theorem mT(k:IntKind)(a b:Int):jE P .mul t (.lit (.int k a)) (.lit (.int k b))=some (.lit (.int k (k.wrap (a*b)))):=by simp[jE,WL]
theorem nV(k:IntKind)(a b:Int)(h:b≠0):jE P .quo t (.lit (.int k a)) (.lit (.int k b))=some (.lit (.int k (k.wrap (a.tdiv b)))):=by simp[jE,WL,h]
theorem J3(k:IntKind)(a b:Int)(h:b≠0):jE P .rem t (.lit (.int k a)) (.lit (.int k b))=some (.lit (.int k (a.tmod b))):=by simp[jE,WL,h]
@[go_sem] theorem dh(k:IntKind)(a b:Int):jE P .eql t (.lit (.int k a)) (.lit (.int k b))=some (.lit (.bool (decide (a=b)))):=by
 simp[jE,WL];rfl
@[go_sem] theorem lh(k:IntKind)(a b:Int):jE P .neq t (.lit (.int k a)) (.lit (.int k b))=some (.lit (.bool (decide (a≠b)))):=by
 simp[jE,WL];rfl
@[go_sem] theorem kh(k:IntKind)(a b:Int):jE P .lss t (.lit (.int k a)) (.lit (.int k b))=some (.lit (.bool (decide (a<b)))):=by simp[jE,WL]
@[go_sem] theorem jh(k:IntKind)(a b:Int):jE P .leq t (.lit (.int k a)) (.lit (.int k b))=some (.lit (.bool (decide (a<=b)))):=by simp[jE,WL]
@[go_sem] theorem gh(k:IntKind)(a b:Int):jE P .gtr t (.lit (.int k a)) (.lit (.int k b))=some (.lit (.bool (decide (b<a)))):=by simp[jE,WL]
@[go_sem] theorem fh(k:IntKind)(a b:Int):jE P .geq t (.lit (.int k a)) (.lit (.int k b))=some (.lit (.bool (decide (b<=a)))):=by simp[jE,WL]
@[go_sem] theorem ch(k:IntKind)(a b:Int):jE P .and t (.lit (.int k a)) (.lit (.int k b))=some (.lit (.int k (k.wrap ((EB k.bits a&&& EB k.bits b).toNat)))):=by simp[jE,WL]
@[go_sem] theorem jY(k:IntKind)(a b:Int):jE P .or t (.lit (.int k a)) (.lit (.int k b))=some (.lit (.int k (k.wrap ((EB k.bits a||| EB k.bits b).toNat)))):=by simp[jE,WL]
@[go_sem] theorem pT(k:IntKind)(a b:Int):jE P .xor t (.lit (.int k a)) (.lit (.int k b))=some (.lit (.int k (k.wrap ((EB k.bits a ^^^ EB k.bits b).toNat)))):=by simp[jE,WL]
@[go_sem] theorem mR(a b:ByteArray):jE P .eql t (.lit (.string a)) (.lit (.string b))=some (.lit (.bool (decide (a=b)))):=by
 simp only[jE,S3,SB,bytes]
 congr 4
 rw[Bool.eq_iff_iff]
 simp only[beq_iff_eq,decide_eq_true_eq]
 constructor
 ·intro h
  have:a.data=b.data:=Array.toList_inj.1 h
  cases a;cases b;simp_all
 ·rintro rfl;rfl
@[go_sem] theorem Ge(a b:ByteArray):jE P .neq t (.lit (.string a)) (.lit (.string b))=some (.lit (.bool (decide (a≠b)))):=by
 have:=mR P t a b
 simp only[jE,S3,SB,Option.some.injEq,V.lit.injEq,Value.bool.injEq] at this ⊢
 rw[this]
 simp
def D8(a b:ByteArray):Bool:=Op.bytesLess (bytes a) (bytes b)
@[go_sem] theorem Fe(a b:ByteArray):jE P .lss t (.lit (.string a)) (.lit (.string b))=some (.lit (.bool (D8 a b))):=rfl
@[go_sem] theorem Ee(a b:ByteArray):jE P .geq t (.lit (.string a)) (.lit (.string b))=some (.lit (.bool (!D8 a b))):=rfl
@[go_sem] theorem un_not(b:Bool):PU .not (.lit (.bool b))=some (.lit (.bool (!b))):=rfl
@[go_sem] theorem un_neg(k:IntKind)(n:Int):PU .neg (.lit (.int k n))=some (.lit (.int k (k.wrap (0-n)))):=rfl
@[go_sem] theorem tf(cs:List V):zG (.agg cs)=some cs:=rfl
@[go_sem] theorem zob(k:IntKind)(n:Int):zG (.lit (.int k n))=some [.lit (.int k n)]:=rfl
@[go_sem] theorem bX(b:Bool):zG (.lit (.bool b))=some [.lit (.bool b)]:=rfl
@[go_sem] theorem xS(b:ByteArray):zG (.lit (.string b))=some [.lit (.string b)]:=rfl
@[go_sem] theorem QU(a:Option Addr)(n m:Nat):zG (.lit (.slice a n m))=some [.lit (.slice a n m)]:=rfl
@[go_sem] theorem FR(a:Option Addr):zG (.lit (.pointer a))=some [.lit (.pointer a)]:=rfl
@[go_sem] theorem j1(a:Option Nat):zG (.lit (.map a))=some [.lit (.map a)]:=rfl
@[go_sem] theorem zo3:zG (.lit .nilIface)=some [.lit .nilIface]:=rfl
@[go_sem] theorem ER:zG (.lit .nilFunc)=some [.lit .nilFunc]:=rfl
@[go_sem] theorem A1(b o:Nat):zG (.ptr b o)=some [.ptr b o]:=rfl
@[go_sem] theorem O6(b o l c:Nat)(p:Option Nat):zG (.sl b o l c p)=some [.sl b o l c p]:=rfl
@[go_sem] theorem P6:zG .zs=some [.zs]:=rfl
@[go_sem] theorem cX:zG .void=some [.void]:=rfl
@[go_sem] theorem J6(b:Nat):zG (.mp b)=some [.mp b]:=rfl
@[go_sem] theorem N6(c:List V)(l:Nat):zG (.ps c l)=some [.ps c l]:=rfl
@[go_sem] theorem K6(c:List V)(l:Nat):zG (.pn c l)=some [.pn c l]:=rfl
@[go_sem] theorem L6(c:List V):zG (.pp c)=some [.pp c]:=rfl
@[go_sem] theorem I6(f:Fn)(a b:List V):zG (.fn f a b)=some [.fn f a b]:=rfl
@[go_sem] theorem Z0(t:TypeId)(v:V):zG (.ifc t v)=some [.ifc t v]:=rfl
@[go_sem] theorem box_eq(x:V):JL H t x=(zG x).map fun c=>⟨.ptr H.n 0,H.push (.cells c t),H.n⟩:=by
 unfold JL;cases zG x<;>rfl
@[go_sem] theorem G9:uV P H t=(zE P t).map fun c=>⟨.ptr H.n 0,H.push (.cells c t),H.n⟩:=by
 unfold uV;cases zE P t<;>rfl
attribute [go_sem] SB Option.map_none Option.bind_some Option.bind_none if_true if_false NC List.map_nil decide_true decide_false true_and and_true List.getElem?_cons_zero List.getElem?_cons_succ Bool.and_true Bool.true_and Bool.and_false Bool.false_and Bool.not_true Bool.not_false true_or or_true false_or or_false Nat.add_zero Nat.zero_add
theorem SM(h:uM P t=some false)(cs:List V)(o:Nat):QE P t cs o=cs[o]?:=by simp[QE,h]
theorem TM{n:Nat}(h:uM P t=some true)(hn:EF P t=some n)(cs:List V)(o:Nat):QE P t cs o=if o+n<=cs.length then some (.agg ((cs.drop o).take n)) else none:=by simp[QE,h,hn]
def qZ(B:Option Blk)(o:Nat):Option V:=
 match B with
 | some (.cells cs _)=>QE P t cs o
 | _=>none
@[go_sem] theorem rZ(cs:List V)(e:TypeId)(o:Nat):qZ P t (some (.cells cs e)) o=QE P t cs o:=rfl
@[go_sem] theorem Ib(b o:Nat):zeO P H t (.ptr b o)=qZ P t (H.get b) o:=by
 unfold zeO I3 qZ
 simp only
 cases H.get b with
 | none=>rfl
 | some B=>cases B<;>rfl
@[go_sem] theorem ai(cs:List V):zeO P H t (.pp cs)=QE P t cs 0:=rfl
def V0(b:Nat)(B:Option Blk)(o:Nat)(v:V):Option OR:=
 match B with
 | some (.cells cs e)=>(zG v).bind fun vc=>(EF P t).bind fun n=>if vc.length=n/\vc.all HB=true then(zD cs o vc).bind fun c=>some ⟨EH,H.set b (.cells c e),min b H.n⟩ else none
 | _=>none
@[go_sem] theorem W0(b:Nat)(cs:List V)(e:TypeId)(o:Nat)(v:V):V0 P t H b (some (.cells cs e)) o v=(zG v).bind fun vc=>(EF P t).bind fun n=>if vc.length=n/\vc.all HB=true then(zD cs o vc).bind fun c=>some ⟨EH,H.set b (.cells c e),min b H.n⟩ else none:=rfl
@[go_sem] theorem F6(b o:Nat)(v:V):qV P H t (.ptr b o) v=V0 P t H b (H.get b) o v:=by
 unfold qV V0
 simp only
 cases H.get b with
 | none=>rfl
 | some B=>cases B<;>rfl
@[go_sem] theorem B0(b o n:Nat):II (.ptr b o) n=some (.ptr b (o+n)):=rfl
@[go_sem] theorem w6(cs:List V)(n:Nat):II (.pp cs) n=some (.pp (cs.drop n)):=rfl
@[go_sem] theorem mW(vs:List V)(i:Nat):J7 (.tup vs) i=vs[i]?:=rfl
@[go_sem] theorem kU(b o:Nat):fV P (.ptr b o)=some (.ptr b o):=rfl
@[go_sem] theorem AW(c:List V):fV P (.pp c)=some (.pp c):=rfl
@[go_sem] theorem lU(b:Nat):fV P (.yld b)=some (.yld b):=rfl
@[go_sem] theorem sS(f:FuncId)(a b:List V):fV P (.fn (.func f) a b)=some (.fn (.func f) a b):=rfl
@[go_sem] theorem y6(v:V):YL [v]=v:=rfl
@[go_sem] theorem x6:YL []=.tup []:=rfl
@[go_sem] theorem A6(v u:V)(l:List V):YL (v::u::l)=.tup (v::u::l):=rfl
@[go_sem] theorem pW(C:Ctx)(T:Tr V):aL C T H []=some []:=rfl
@[go_sem] theorem qW(C:Ctx)(T:Tr V)(u:Tmp)(r:List ResultVar):aL C T H (.tmp u::r)=(aL C T H r).map (PD T u::·):=rfl
@[go_sem] theorem ZT(C:Ctx)(T:Tr V)(a:Tmp)(u:TypeId)(r:List ResultVar):aL C T H (.cell a u::r)=(zeO C.P H u (PD T a)).bind fun v=>(aL C T H r).bind fun vs=>some (v::vs):=rfl
end
section typed
variable {P:Program} {t e:TypeId} {H:Heap}
theorem dS(h:P.underlying t=some (.slice e))(cs:List V)(n:Nat):qH P H t (.pn cs n)=some (.lit (.int .i64 n)):=by simp[qH,oO,h]
theorem sV(h:P.underlying t=some (.slice e))(b o n c:Nat)(p:Option Nat):qH P H t (.sl b o n c p)=some (.lit (.int .i64 n)):=by simp[qH,oO,h]
theorem C3(h:P.underlying t=some (.slice e))(n m:Nat):qH P H t (.lit (.slice none n m))=some (.lit (.int .i64 n)):=by simp[qH,oO,h]
theorem XT(h:P.underlying t=some .string)(s:ByteArray):qH P H t (.lit (.string s))=some (.lit (.int .i64 s.size)):=by simp[qH,oO,h]
theorem mQ{n:Nat}(h:P.underlying t=some (.slice e))(hn:EF P e=some n)(b o l c:Nat)(p:Option Nat)(k:IntKind)(i:Int)(hi:0<=i/\i<l):zv P t (.sl b o l c p) (.lit (.int k i))=some (.ptr b (o+i.toNat*n)):=by simp[zv,h,hn,hi]
theorem FX{n l:Nat}(h:P.underlying t=some (.array l e))(hn:EF P e=some n)(x:V)(k:IntKind)(i:Int)(hi:0<=i/\i<l):zv P t x (.lit (.int k i))=II x (i.toNat*n):=by simp[zv,h,hn,hi]
theorem PP{k k':IntKind}{d:TypeDesc}(s u:TypeId)(hs:P.underlying s=some d)(h:P.underlying u=some (.int k))(n:Int):bL P H s u (.lit (.int k' n))=some ⟨.lit (.int k (k.wrap n)),H,H.n⟩:=by
 unfold bL;rw[hs,h]
end typed
theorem zw{n:Int}(h:-9223372036854775808<=n)(h2:n<=9223372036854775807):IntKind.i64.wrap n=n:=by
 simp only[tC,GC,xC]
 simp;omega
theorem xJ{n:Int}(h:0<=n)(h2:n<=18446744073709551615):IntKind.u64.wrap n=n:=by
 simp only[tC,GC,xC]
 simp;omega
theorem vK{n:Int}(h:0<=n)(h2:n<=255):IntKind.u8.wrap n=n:=by
 simp only[tC,GC,xC]
 simp;omega
theorem AK{n:Int}(h:0<=n)(h2:n<=4294967295):IntKind.u32.wrap n=n:=by
 simp only[tC,GC,xC]
 simp;omega
end
section
def mG:Eff->Bool
 | .none=>true
 | .al=>true
 | .rd _=>true
 | .lk _ _ _=>true
 | .sr=>true
 | .ca=>true
 | _=>false
theorem zoL{a b:Eff}(ha:mG a=true)(hb:mG b=true):oI a b=false:=by
 cases a<;>(try (cases ha;done))<;>cases b<;>(try (cases hb;done))<;>rfl
theorem zje:∀(es:List Eff) (ms:List Nat) (j:Nat) (seen:List (Nat×Eff)),es.length<=ms.length->(∀e∈es,mG e=true)->(∀p∈seen,mG p.2=true)->yV es ms j seen=true
 | [],_,_,_,_,_,_=>rfl
 | e::es,[],_,_,h,_,_=>by simp at h
 | e::es,m::ms,j,seen,h,he,hs=>by
  have h1:=he e (.head _)
  simp only[yV,wA,gB]
  refine⟨fun p hp=>by rw[zoL (hs p hp) h1];rfl,?_⟩
  refine zje es ms (j+1) _ (by simpa using h) (fun x hx=>he x (.tail _ hx)) fun p hp=>?_
  split at hp
  ·exact hs p hp
  ·rcases IB.1 hp with rfl|hp
   ·exact h1
   ·exact hs p hp
theorem zp6{α:Type}(n:Nat)(k:Nat->α):Go.Tw.force n k=k n:=by cases n<;>rfl
theorem zjk:∀(l:List Oper) (j:Nat) (acc:List Nat),(LS j l acc).length=l.length+acc.length
 | [],j,acc=>by simp[LS]
 | o::r,j,acc=>by
  rw[LS,zp6,zjk r]
  simp only[HA];omega
theorem zlc(ops:Array Oper):(xN ops).length=ops.size:=by
 simp[xN,zjk]
theorem zk4{ops:Array Oper}{es:List Eff}(hl:es.length<=ops.size)(h:∀e∈es,mG e=true):O3 ops es=true:=
 zje es _ 0 [] (by rw[zlc];exact hl) h fun p hp=>by cases hp
abbrev Tab:=List (FuncId×(List V->Heap->Option OR))
def look(l:Tab)(g:FuncId):Option (List V->Heap->Option OR):=
 match l with
 | []=>none
 | (f,F)::r=>if g=f then some F else look r g
def Tab.OK(C:Ctx)(l:Tab):Prop:=∀p∈l,∀args H r,p.2 args H=some r->MCall C p.1 args H (·=r)
theorem Bk{C:Ctx}:∀{l:Tab} {g:FuncId} {F:List V->Heap->Option OR},Tab.OK C l->look l g=some F->∀args H r,F args H=some r->MCall C g args H (·=r)
 | [],g,F,_,h=>by cases h
 | (f,F')::r,g,F,hl,h=>by
  simp only[look] at h
  split at h
  ·rename_i e
   injection h with h
   subst h e
   exact hl _ (.head _)
  ·exact Bk (fun p hp=>hl p (.tail _ hp)) h
theorem Tab.OK.nil{C:Ctx}:Tab.OK C []:=fun p hp=>by cases hp
theorem Tab.OK.cons{C:Ctx}{g:FuncId}{F:List V->Heap->Option OR}{l:Tab}(h:∀args H r,F args H=some r->MCall C g args H (·=r))(k:Tab.OK C l):Tab.OK C ((g,F)::l):=fun p hp=>by
 rcases IB.1 hp with rfl|hp
 ·exact h
 ·exact k p hp
def E4(l:Tab)(f:V)(args:List V)(H:Heap):Option OR:=
 match f with
 | .fn (.func g) first cap=>(look l g).bind fun F=>F (first++args++cap) H
 | _=>none
def kH(P:Program)(l:Tab)(r:Operand->V)(H:Heap)(op:Op):Option OR:=
 match op with
 | .call c=>match c.callee with
  | .value f=>E4 l (r f) (c.args.toList.map r) H
  | .invoke _ _=>none
  | _=>opV P r H op
 | _=>opV P r H op
theorem JP{C:Ctx}{l:Tab}{f:V}{args:List V}{H:Heap}{q:OR}(h:E4 l f args H=some q)(n:Nat):KK { C with S:=fun g=>(look l g).map .mem } (n+2) f args H=some q:=by
 unfold E4 at h
 split at h
 ·rename_i g first cap
  obtain⟨F,h1,h2⟩:=nA.1 h
  simp only[KK,DN,h1,SB]
  exact h2
 ·cases h
theorem jR{C:Ctx}{l:Tab}{r:Operand->V}{H:Heap}{op:Op}{q:OR}(h:kH C.P l r H op=some q)(n:Nat):rsV C.P (KK { C with S:=fun g=>(look l g).map .mem } (n+2)) r H op=some q:=by
 unfold kH at h
 split at h
 ·rename_i c
  split at h
  ·rename_i f hf
   simp only[rsV,hf]
   exact JP h n
  ·cases h
  ·rename_i h1 h2
   rw[zh1]
   ·exact h
   ·intro c' f e1 e2;injection e1 with e1;subst e1;exact h1 _ e2
   ·intro c' x name e1 e2;injection e1 with e1;subst e1;exact h2 _ _ e2
 ·rename_i h1
  rw[zh1]
  ·exact h
  ·intro c f e1 _;exact h1 c e1
  ·intro c x name e1 _;exact h1 c e1
def vdOps(C:Ctx)(l:Tab)(nt:Nat)(ds:List (Option Tmp)):List Oper->St->(St->Prop)->Prop
 | [],st,Q=>Q st
 | o::os,st,Q=>nL nt o.dst=true/\vdG C l ds o st fun r=>vdOps C l nt ds os ⟨OG st.T o.dst r.v,r.H,min st.lo r.lo⟩ Q
where
 vdG (C:Ctx) (l:Tab) (ds:List (Option Tmp)) (o:Oper) (st:St) (K:OR->Prop):Prop:=
  match o.guard with
  | none=>OQ (kH C.P l (HD C st.T) st.H o.op) fun q=>mG (FF (HD C st.T) st.H o.op q)=true/\K q
  | some (j,want)=>match (ds[j]?).join with
   | none=>False
   | some d=>match PD st.T d with
    | .lit (.bool b)=>bif (bif want then b else !b) then OQ (kH C.P l (HD C st.T) st.H o.op) (fun q=>mG (FF (HD C st.T) st.H o.op q)=true/\K q) else K ⟨EH,st.H,st.lo⟩
    | .tup []=>K ⟨EH,st.H,st.lo⟩
    | _=>False
def zqH(C:Ctx)(l:Tab)(nt:Nat)(ops:Array Oper)(os:List Oper)(st:St)(Q:St->Prop):Prop:=
 ∃es st',(∀n,os.length+4<=n->IK { C with S:=fun g=>(look l g).map .mem } n nt ops os st=some (es,st'))/\es.length=os.length/\(∀e∈es,mG e=true)/\Q st'
theorem zhO{C:Ctx}{l:Tab}{nt:Nat}{ops:Array Oper}{Q:St->Prop}:∀(os:List Oper) (st:St),vdOps C l nt (ops.toList.map (·.dst)) os st Q->zqH C l nt ops os st Q
 | [],st,h=>by
   refine⟨[],st,fun n hn=>?_,rfl,fun e he=>(by cases he),h⟩
   obtain⟨n,rfl⟩:∃k,n=k+1:=⟨n-1,by simp at hn;omega⟩
   simp only[IK]
 | o::os,st,h=>by
  obtain⟨hd,h⟩:=h
  have hrho:∀x,HD { C with S:=fun g=>(look l g).map .mem } st.T x=HD C st.T x:=fun x=>by cases x<;>rfl
  have hrho':HD { C with S:=fun g=>(look l g).map .mem } st.T=HD C st.T:=funext hrho
  have skip:XJ ops st.T o=some false->vdOps C l nt (ops.toList.map (·.dst)) os ⟨OG st.T o.dst EH,st.H,st.lo⟩ Q->zqH C l nt ops (o::os) st Q:=fun hw h=>by
   obtain⟨es,st',h1,h2,h3,h4⟩:=zhO os _ h
   refine⟨.none::es,st',fun n hn=>?_,by simp[h2],fun e he=>by
    rcases IB.1 he with rfl|he
    ·rfl
    ·exact h3 e he,h4⟩
   obtain⟨n,rfl⟩:∃k,n=k+2:=⟨n-2,by simp at hn;omega⟩
   have h1:=h1 (n+1) (by simp at hn;omega)
   simp only[IK,TO,hd,cond_true,hw,h1]
  have go:∀q,XJ ops st.T o=some true->kH C.P l (HD C st.T) st.H o.op=some q->mG (FF (HD C st.T) st.H o.op q)=true->vdOps C l nt (ops.toList.map (·.dst)) os ⟨OG st.T o.dst q.v,q.H,min st.lo q.lo⟩ Q->zqH C l nt ops (o::os) st Q:=fun q hw hq hc h=>by
   obtain⟨es,st',h1,h2,h3,h4⟩:=zhO os _ h
   refine⟨FF (HD C st.T) st.H o.op q::es,st',fun n hn=>?_,by simp[h2],fun e he=>by
    rcases IB.1 he with rfl|he
    ·exact hc
    ·exact h3 e he,h4⟩
   obtain⟨n,rfl⟩:∃k,n=k+4:=⟨n-4,by simp at hn;omega⟩
   have h1:=h1 (n+3) (by simp at hn;omega)
   simp only[IK,TO,hd,cond_true,hw,hrho']
   rw[jR hq n]
   simp only[h1]
  unfold vdOps.vdG at h
  have key:∀(K:OR->Prop),OQ (kH C.P l (HD C st.T) st.H o.op) K->∃q,kH C.P l (HD C st.T) st.H o.op=some q/\K q:=fun K h=>by
   cases hq:kH C.P l (HD C st.T) st.H o.op with
   | none=>rw[hq] at h;exact h.elim
   | some q=>rw[hq] at h;exact⟨q,rfl,h⟩
  split at h
  ·rename_i hg
   obtain⟨q,h1,h2,h3⟩:=key _ h
   exact go q (by simp only[XJ,hg]) h1 h2 h3
  ·rename_i j want hg
   split at h
   ·exact h.elim
   ·rename_i d hdd
    replace hdd:(ops[j]?).bind (·.dst)=some d:=by
     rw[<-hdd,List.getElem?_map,Array.getElem?_toList]
     cases ops[j]?<;>rfl
    split at h
    ·rename_i b hb
     cases hbw:(bif want then b else !b) with
     | true=>
      rw[hbw] at h
      obtain⟨q,h1,h2,h3⟩:=key _ h
      exact go q (by simp only[XJ,hg,hdd,hb,hbw]) h1 h2 h3
     | false=>
      simp only[hbw,cond_false] at h
      exact skip (by simp only[XJ,hg,hdd,hb,hbw]) (by simpa only[gA] using h)
    ·rename_i hb
     exact skip (by simp only[XJ,hg,hdd,hb]) (by simpa only[gA] using h)
    ·exact h.elim
theorem DR.calm{C:Ctx}{nt:Nat}{ops:Array Oper}{st:St}{Q:St->Prop}(l:Tab)(hl:Tab.OK C l)(hr:wV ops=true)(h:vdOps C l nt (ops.toList.map (·.dst)) ops.toList st Q):vO C nt ops st Q:=by
 obtain⟨es,st',h1,h2,h3,h4⟩:=zhO ops.toList st h
 refine⟨hr,fun g=>(look l g).map .mem,fun g F hF=>?_,_,es,st',h1 _ (jA _),zk4 (by simp[h2]) h3,h4⟩
 obtain⟨F',h5,rfl⟩:=Option.map_eq_some_iff.1 hF
 exact Bk hl h5
structure VD(C:Ctx)(l:Tab)(nt:Nat)(ds:List (Option Tmp))(os:List Oper)(T:Tr V)(H:Heap)(lo:Nat)(Q:St->Prop)(h:Hid (l,ds,os,Q)):Prop where
 mk'::
 out:vdOps C l nt ds os ⟨T,H,lo⟩ Q
theorem Jk(C:Ctx)(l:Tab)(nt:Nat)(ds:List (Option Tmp))(os:List Oper)(T:Tr V)(H:Heap)(lo:Nat)(Q:St->Prop)(h:Hid (l,ds,os,Q)):VD C l nt ds os T H lo Q h=(vdOps C l nt ds os ⟨T,H,lo⟩ Q):=propext ⟨VD.out,VD.mk'⟩
theorem DR.of{C:Ctx}{nt:Nat}{os:List Oper}{T:Tr V}{H:Heap}{lo:Nat}{Q:St->Prop}{h:Hid ((⟨os⟩:Array Oper),Q)}(l:Tab)(hl:Tab.OK C l)(hr:wV ⟨os⟩=true)(k:VD C l nt (os.map (·.dst)) os T H lo Q .mk):DR' C nt ⟨os⟩ T H lo Q h:=⟨DR.calm l hl hr k.out⟩
structure CQ(o:Option OR)(ρ:Operand->V)(H:Heap)(op:Op)(K:OR->Prop)(h:Hid (ρ,op,K)):Prop where
 mk'::
 out:OQ o fun q=>mG (FF ρ H op q)=true/\K q
theorem dP(o:Option OR)(ρ:Operand->V)(H:Heap)(op:Op)(K:OR->Prop)(h:Hid (ρ,op,K)):CQ o ρ H op K h=(OQ o fun q=>mG (FF ρ H op q)=true/\K q):=propext ⟨CQ.out,CQ.mk'⟩
@[go_sem] theorem Sg(q:OR)(ρ:Operand->V)(H:Heap)(op:Op)(K:OR->Prop)(h:Hid (ρ,op,K)):CQ (some q) ρ H op K h=(mG (FF ρ H op q)=true/\K q):=propext ⟨fun k=>k.out,fun k=>⟨k⟩⟩
theorem CQ.intro{o:Option OR}{r:OR}{ρ:Operand->V}{H:Heap}{op:Op}{K:OR->Prop}{h:Hid (ρ,op,K)}(e:o=some r)(k:mG (FF ρ H op r)=true/\K r):CQ o ρ H op K h:=⟨by rw[e];exact k⟩
@[go_sem] theorem O5(H:Heap)(v:V):keep H (some v)=some ⟨v,H,H.n⟩:=rfl
section vd
variable (C:Ctx) (l:Tab) (nt:Nat) (ds:List (Option Tmp))
@[go_sem ↓] theorem vd_nil(T:Tr V)(H:Heap)(lo:Nat)(Q:St->Prop)(h:Hid (l,ds,([]:List Oper),Q)):VD C l nt ds [] T H lo Q h=Q ⟨T,H,lo⟩:=propext ⟨fun k=>k.out,fun k=>⟨k⟩⟩
@[go_sem ↓] theorem Ue(op:Op)(d:Option Tmp)(ty:TypeId)(pos:String)(aft:Array Edge)(os:List Oper)(T:Tr V)(H:Heap)(lo:Nat)(Q:St->Prop)(h:Hid (l,ds,(⟨d,op,ty,pos,aft,none⟩::os:List Oper),Q)):
  VD C l nt ds (⟨d,op,ty,pos,aft,none⟩::os) T H lo Q h=(nL nt d=true/\CQ (kH C.P l (HD C T) H op) (HD C T) H op (fun r=>VD C l nt ds os (OG T d r.v) r.H (min lo r.lo) Q .mk) .mk):=by
 simp only[Jk,dP]
 rfl
omit C l nt ds in
theorem q9(v:V)(want:Bool){A A' B B':Prop}(h1:A=A')(h2:B=B'):GD v want A B .mk=GD v want A' B' .mk:=by subst h1 h2;rfl
@[go_sem ↓] theorem Te(op:Op)(d:Option Tmp)(ty:TypeId)(pos:String)(aft:Array Edge)(j:Nat)(want:Bool)(os:List Oper)(T:Tr V)(H:Heap)(lo:Nat)(Q:St->Prop)(h:Hid (l,ds,(⟨d,op,ty,pos,aft,some (j,want)⟩::os:List Oper),Q)):
  VD C l nt ds (⟨d,op,ty,pos,aft,some (j,want)⟩::os) T H lo Q h=(nL nt d=true/\GD (NO ds T j) want (CQ (kH C.P l (HD C T) H op) (HD C T) H op (fun r=>VD C l nt ds os (OG T d r.v) r.H (min lo r.lo) Q .mk) .mk) (VD C l nt ds os (OG T d EH) H (min lo lo) Q .mk) .mk):=by
 have eA:CQ (kH C.P l (HD C T) H op) (HD C T) H op (fun r=>VD C l nt ds os (OG T d r.v) r.H (min lo r.lo) Q .mk) .mk=OQ (kH C.P l (HD C T) H op) fun q=>mG (FF (HD C T) H op q)=true/\vdOps C l nt ds os ⟨OG T d q.v,q.H,min lo q.lo⟩ Q:=by simp only[dP,Jk]
 have eB:VD C l nt ds os (OG T d EH) H (min lo lo) Q .mk=vdOps C l nt ds os ⟨OG T d EH,H,min lo lo⟩ Q:=Jk ..
 rw[Jk,q9 (NO ds T j) want eA eB]
 show(_/\vdOps.vdG C l ds _ _ _)=_
 unfold vdOps.vdG NO
 simp only
 cases (ds[j]?).join with
 | none=>rfl
 | some d'=>rfl
end vd
section rs
variable (P:Program) (l:Tab) (r:Operand->V) (H:Heap)
@[go_sem] theorem Oi(x:Operand):kH P l r H (.move x)=some ⟨r x,H,H.n⟩:=rfl
@[go_sem] theorem D6(x:Operand):kH P l r H (.assign x)=some ⟨r x,H,H.n⟩:=rfl
@[go_sem] theorem Pi(c a b:Operand):kH P l r H (.pick c a b)=keep H (F8 (r c) (r a) (r b)):=by
 show(match r c with|.lit (.bool t)=>keep H (some (if t then r a else r b))|_=>none)=_
 unfold F8
 generalize r c=v
 cases v with
 | lit x=>cases x<;>rfl
 | _=>rfl
@[go_sem] theorem we(t:TypeId):kH P l r H (.alloc t)=uV P H t:=rfl
@[go_sem] theorem rs_box(t:TypeId)(x:Operand):kH P l r H (.box t x)=JL H t (r x):=rfl
@[go_sem] theorem ye(t:TypeId)(ps:Array (Nat×Operand)):kH P l r H (.build t ps)=keep H (fL P t (ps.toList.map fun p=>(p.1,r p.2))):=rfl
@[go_sem] theorem vS(t:TypeId)(n:Nat)(ps:Array (Nat×Operand)):kH P l r H (.buildSlice t n ps)=zx P H t n (ps.toList.map fun p=>(p.1,r p.2)):=rfl
@[go_sem] theorem Ni(t:TypeId)(a:Operand):kH P l r H (.load t a)=keep H (zeO P H t (r a)):=rfl
@[go_sem] theorem SW(x:Operand):kH P l r H (.nilCheck x)=keep H (fV P (r x)):=rfl
@[go_sem] theorem rs_bin(op:BinOp)(t:TypeId)(x y:Operand)(z:TypeId):kH P l r H (.binOp op t x y z)=keep H (jE P op t (r x) (r y)):=rfl
@[go_sem] theorem rs_un(op:UnOp)(t:TypeId)(x:Operand):kH P l r H (.unOp op t x)=keep H (PU op (r x)):=rfl
@[go_sem] theorem I0(s d:TypeId)(x:Operand):kH P l r H (.convert s d x)=bL P H s d (r x):=rfl
@[go_sem] theorem QW(f:Fn)(a b:Array Operand):kH P l r H (.makeFunc f a b)=some ⟨.fn f (a.toList.map r) (b.toList.map r),H,H.n⟩:=rfl
@[go_sem] theorem K0(t:TypeId):kH P l r H (.makeMap t none)=some ⟨.mp H.n,H.push (.map [] 0),H.n⟩:=rfl
@[go_sem] theorem Ce(t:TypeId)(x:Operand)(a b c:Option Operand):kH P l r H (.slice t x a b c)=keep H (lH P t (r x) (a.map r) (b.map r) (c.map r)):=rfl
@[go_sem] theorem HU(s:TypeId)(x:Operand)(f:Nat):kH P l r H (.fieldAddr s x f)=keep H (dL P s (r x) f):=rfl
@[go_sem] theorem Ae(s:TypeId)(x:Operand)(f:Nat):kH P l r H (.field s x f)=keep H (Rk P s (r x) f):=rfl
@[go_sem] theorem IU(t:TypeId)(x i:Operand):kH P l r H (.indexAddr t x i)=keep H (zv P t (r x) (r i)):=rfl
@[go_sem] theorem Be(t:TypeId)(x i:Operand):kH P l r H (.index t x i)=keep H (vN P t (r x) (r i)):=rfl
@[go_sem] theorem E6(t:TypeId)(m k:Operand)(ok:Bool):kH P l r H (.lookup t m k ok)=keep H (aO P H t (r m) (r k) ok):=rfl
@[go_sem] theorem J0(x:Operand)(i:Nat):kH P l r H (.extract x i)=keep H (J7 (r x) i):=rfl
@[go_sem] theorem Li(f:Operand)(as0:Array Operand)(ts:Array TypeId):kH P l r H (.call ⟨.value f,as0,ts⟩)=E4 l (r f) (as0.toList.map r) H:=rfl
@[go_sem] theorem rs_len(x:Operand)(t:TypeId):kH P l r H (.call ⟨.builtin .len,#[x],#[t]⟩)=keep H (qH P H t (r x)):=rfl
@[go_sem] theorem ma(g:FuncId)(first cap args:List V):E4 l (.fn (.func g) first cap) args H=(look l g).bind fun F=>F (first++args++cap) H:=rfl
@[go_sem] theorem d6(f g:FuncId)(F:List V->Heap->Option OR):look ((f,F)::l) g=if g=f then some F else look l g:=rfl
end rs
section eff
variable (r:Operand->V) (H:Heap) (q:OR)
@[go_sem] theorem xh(x:Operand):(mG (FF r H (.move x) q)=true)=True:=by simp[FF,mG]
@[go_sem] theorem Y4(x:Operand):(mG (FF r H (.assign x) q)=true)=True:=by simp[FF,mG]
@[go_sem] theorem yh(c a b:Operand):(mG (FF r H (.pick c a b) q)=true)=True:=by simp[FF,mG]
@[go_sem] theorem pS(t:TypeId)(n:Nat)(ps:Array (Nat×Operand)):(mG (FF r H (.buildSlice t n ps) q)=true)=True:=by simp[FF,mG]
@[go_sem] theorem uh(t:TypeId)(a:Operand):(mG (FF r H (.load t a) q)=true)=True:=by
 simp only[FF,eq_iff_iff,iff_true]
 split<;>rfl
@[go_sem] theorem fW(x:Operand):(mG (FF r H (.nilCheck x) q)=true)=True:=by simp[FF,mG]
@[go_sem] theorem ce_bin(op:BinOp)(t:TypeId)(x y:Operand)(z:TypeId):(mG (FF r H (.binOp op t x y z) q)=true)=True:=by simp[FF,mG]
@[go_sem] theorem ce_un(op:UnOp)(t:TypeId)(x:Operand):(mG (FF r H (.unOp op t x) q)=true)=True:=by simp[FF,mG]
@[go_sem] theorem ua(t:TypeId)(x:Operand)(a b c:Option Operand):(mG (FF r H (.slice t x a b c) q)=true)=True:=by simp[FF,mG]
@[go_sem] theorem xT(s:TypeId)(x:Operand)(f:Nat):(mG (FF r H (.fieldAddr s x f) q)=true)=True:=by simp[FF,mG]
@[go_sem] theorem yT(t:TypeId)(x i:Operand):(mG (FF r H (.indexAddr t x i) q)=true)=True:=by simp[FF,mG]
@[go_sem] theorem vY(x:Operand)(i:Nat):(mG (FF r H (.extract x i) q)=true)=True:=by simp[FF,mG]
@[go_sem] theorem th(f:Operand)(as0:Array Operand)(ts:Array TypeId):(mG (FF r H (.call ⟨.value f,as0,ts⟩) q)=true)=(q.lo=H.n):=by
 simp only[FF]
 by_cases e:q.lo=H.n
 ·rw[BJ e];simp[mG,e]
 ·rw[bN e];simp[mG,e]
@[go_sem] theorem uY(s d:TypeId)(x:Operand)(v:V)(lo:Nat):(mG (FF r H (.convert s d x) ⟨v,H,lo⟩)=true)=((∃k n,r x=.lit (.int k n))\/lo=H.n):=by
 simp only[FF]
 split
 ·rename_i k n e;simp[e,mG]
 ·rename_i e
  by_cases e2:lo=H.n
  ·rw[BJ e2];simp[mG,e2]
  ·rw[bN e2]
   simp only[cond_false,mG,e2,or_false,eq_iff_iff]
   constructor
   ·intro h;cases h
   ·rintro⟨k,n,h⟩;exact absurd h (e k n)
def a8(H:Heap)(v:V):Bool:=
 match v with
 | .mp b=>(H.get b).isSome
 | .lit _=>true
 | .sl _ _ _ _ _=>true
 | .ps _ _=>true
 | .pn _ _=>true
 | _=>false
@[go_sem] theorem ce_len(x:Operand)(t:TypeId):(mG (FF r H (.call ⟨.builtin .len,#[x],#[t]⟩) q)=true)=(a8 H (r x)=true):=by
 have e:(#[x]:Array Operand)[0]?=some x:=rfl
 simp only[FF,e,a8]
 generalize r x=v
 cases v with
 | mp b=>simp only;cases H.get b<;>simp[mG]
 | _=>simp[mG]
@[go_sem] theorem cZ(c:List V)(n:Nat):a8 H (.pn c n)=true:=rfl
@[go_sem] theorem fZ(b o n c:Nat)(p:Option Nat):a8 H (.sl b o n c p)=true:=rfl
@[go_sem] theorem dZ(c:List V)(n:Nat):a8 H (.ps c n)=true:=rfl
@[go_sem] theorem oW(x:Value):a8 H (.lit x)=true:=rfl
end eff
end
section
mutual
inductive Fz(Z:Nat->Prop)(H:Heap):V->V->Prop
 | any (v:V):Fz Z H v .any
 | self (v:V):V.bf v=true->Fz Z H v v
 | nil:Fz Z H (.lit (.slice none 0 0)) (.pn [] 0)
 | zs:Fz Z H .zs (.pn [] 0)
 | void:Fz Z H .void (.pn [] 0)
 | psn (cs:List V) (n:Nat):QF cs=true->Fz Z H (.ps cs n) (.pn cs n)
 | sl (b off len cap:Nat) (opn:Option Nat) (cs:List V) (e:TypeId) (k:Nat) (us:List V):Z b->H.get b=some (.cells cs e)->len<=cap->Fzs Z H ((cs.drop off).take k) us->Fz Z H (.sl b off len cap opn) (.pn us len)
 | ptr (b off:Nat) (cs:List V) (e:TypeId) (k:Nat) (us:List V):Z b->H.get b=some (.cells cs e)->Fzs Z H ((cs.drop off).take k) us->Fz Z H (.ptr b off) (.pp us)
 | fn (f:Fn) (a b a' b':List V):Fzs Z H a a'->Fzs Z H b b'->Fz Z H (.fn f a b) (.fn f a' b')
 | ifc (t:TypeId) (v v':V):Fz Z H v v'->Fz Z H (.ifc t v) (.ifc t v')
 | agg (a a':List V):Fzs Z H a a'->Fz Z H (.agg a) (.agg a')
 | tup (a a':List V):Fzs Z H a a'->Fz Z H (.tup a) (.tup a')
inductive Fzs(Z:Nat->Prop)(H:Heap):List V->List V->Prop
 | nil:Fzs Z H [] []
 | cons (v u:V) (vs us:List V):Fz Z H v u->Fzs Z H vs us->Fzs Z H (v::vs) (u::us)
end
structure FzC(z:TypeId->Nat)(s s2:Nat->Option Nat)(d d2 pr pr2:Nat->Prop)(w:World)(Z:Nat->Prop)(H:Heap):Prop where
 p:∀g,pr g->pr2 g
 z:∀b cs e,Z b->H.get b=some (.cells cs e)->¬d b/\∀g,s b=some g->pr2 g/\∃arr,VRs z s d pr w cs arr/\HoldsAt w ⟨g,0,none⟩ arr
theorem HoldsAt.part{w:World}{g:Nat}{arr:List Value}(h:HoldsAt w ⟨g,0,none⟩ arr)(off k:Nat):HoldsAt w ⟨g,off,none⟩ ((arr.drop off).take k):=by
 intro i c hi
 rw[List.getElem?_take] at hi
 split at hi
 ·rw[List.getElem?_drop] at hi
  simpa using h _ _ hi
 ·cases hi
variable {z:TypeId->Nat} {s s2:Nat->Option Nat} {d d2 pr pr2:Nat->Prop} {w:World} {Z:Nat->Prop} {H:Heap}
mutual
theorem Fz.ok(G:FzC z s s2 d d2 pr pr2 w Z H):∀{v u:V} {c:Value},Fz Z H v u->VR z s d pr w v c->VR z s2 d2 pr2 w u c
 | _,_,c,.any v,_=>trivial
 | _,_,c,.self v hb,hv=>R7 G.p v c hb hv
 | _,_,c,.nil,hv=>.inl ⟨rfl,rfl,.inl hv⟩
 | _,_,c,.zs,hv=>by obtain⟨a,e⟩:=hv;exact .inl ⟨rfl,rfl,.inr ⟨a,0,e⟩⟩
 | _,_,c,.void,hv=>by obtain⟨a,k,e⟩:=hv;exact .inl ⟨rfl,rfl,.inr ⟨a,k,e⟩⟩
 | _,_,c,.psn cs n hb,hv=>.inr (R7 G.p (.ps cs n) c hb hv)
 | _,_,c,.sl b off len cap opn cs e k us hz hg hl hs,hv=>by
  obtain⟨x,cap',e1,e2,e3,hx⟩:=hv
  obtain⟨hnd,hq⟩:=G.z b cs e hz hg
  rcases hx with hx|⟨g,h1,rfl,_⟩
  ·exact absurd hx hnd
  ·obtain⟨q1,arr,q2,q3⟩:=hq g h1
   exact .inr ⟨g,off,cap',_,e1,by omega,q1,Fzs.ok G hs ((q2.drop off).take k),q3.part off k⟩
 | _,_,c,.ptr b off cs e k us hz hg hs,hv=>by
  obtain⟨x,e1,hx⟩:=hv
  obtain⟨hnd,hq⟩:=G.z b cs e hz hg
  rcases hx with hx|⟨g,h1,rfl⟩
  ·exact absurd hx hnd
  ·obtain⟨q1,arr,q2,q3⟩:=hq g h1
   exact⟨g,off,_,e1,q1,Fzs.ok G hs ((q2.drop off).take k),q3.part off k⟩
 | _,_,c,.fn f a b a' b' h1 h2,hv=>by
  obtain⟨xs,ys,e,k1,k2⟩:=hv
  exact⟨xs,ys,e,Fzs.ok G h1 k1,Fzs.ok G h2 k2⟩
 | _,_,c,.ifc t v v' h,hv=>by
  obtain⟨x,e,k⟩:=hv
  exact⟨x,e,Fz.ok G h k⟩
 | _,_,c,.agg a a' h,hv=>by
  obtain⟨xs,e,k⟩:=hv
  exact⟨xs,e,Fzs.ok G h k⟩
 | _,_,c,.tup a a' h,hv=>by
  obtain⟨xs,e,k⟩:=hv
  exact⟨xs,e,Fzs.ok G h k⟩
theorem Fzs.ok(G:FzC z s s2 d d2 pr pr2 w Z H):∀{vs us:List V} {cs:List Value},Fzs Z H vs us->VRs z s d pr w vs cs->VRs z s2 d2 pr2 w us cs
 | _,_,cs,.nil,hv=>hv
 | _,_,cs,.cons v u vs us h hs,hv=>by
  obtain⟨c,cs',e,k1,k2⟩:=hv
  exact⟨c,cs',e,Fz.ok G h k1,Fzs.ok G hs k2⟩
end
theorem Fzs.self{Z:Nat->Prop}{H:Heap}:∀{vs:List V},QF vs=true->Fzs Z H vs vs
 | [],_=>.nil
 | v::vs,h=>by
  simp only[QF,wA] at h
  exact .cons _ _ _ _ (.self v h.1) (Fzs.self h.2)
theorem Fzs.append{Z:Nat->Prop}{H:Heap}:∀{vs us xs ys:List V},Fzs Z H vs us->Fzs Z H xs ys->Fzs Z H (vs++xs) (us++ys)
 | _,_,_,_,.nil,h=>h
 | _,_,_,_,.cons v u vs us h hs,k=>.cons _ _ _ _ h (Fzs.append hs k)
theorem Fzs.length{Z:Nat->Prop}{H:Heap}:∀{vs us:List V},Fzs Z H vs us->us.length=vs.length
 | _,_,.nil=>rfl
 | _,_,.cons v u vs us h hs=>by simp[Fzs.length hs]
mutual
def V.fl:V->Bool
 | .ps _ _=>false
 | .pn _ _=>false
 | .pp _=>false
 | .fn _ a b=>VJ a&&VJ b
 | .ifc _ v=>V.fl v
 | .agg cs=>VJ cs
 | .tup cs=>VJ cs
 | _=>true
def VJ:List V->Bool
 | []=>true
 | v::vs=>V.fl v&&VJ vs
end
mutual
theorem IM{z:TypeId->Nat}{s s':Nat->Option Nat}{d d' pr pr':Nat->Prop}{w:World}(hd:∀b,d b->d' b)(hs:∀b g,s b=some g->s' b=some g):∀(v:V) (c:Value),V.fl v=true->VR z s d pr w v c->VR z s' d' pr' w v c
 | .lit x,c,_,h=>h
 | .gptr _ _,c,_,h=>h
 | .zs,c,_,h=>h
 | .void,c,_,h=>h
 | .any,c,_,h=>h
 | .ptr b off,c,_,h=>by
  obtain⟨x,e,h⟩:=h
  exact⟨x,e,h.imp (hd b) fun⟨g,h1,h2⟩=>⟨g,hs b g h1,h2⟩⟩
 | .sl b off len cap opn,c,_,h=>by
  obtain⟨x,cap',e,e2,e3,h⟩:=h
  exact⟨x,cap',e,e2,e3,h.imp (hd b) fun⟨g,h1,h2⟩=>⟨g,hs b g h1,h2⟩⟩
 | .mp b,c,_,h=>by
  obtain⟨x,e,h⟩:=h
  exact⟨x,e,h.imp (hd b) (hs b x)⟩
 | .yld b,c,_,h=>by
  obtain⟨x,e,h⟩:=h
  exact⟨x,e,h.imp (hd b) (hs b x)⟩
 | .fn f a b,c,hf,h=>by
  obtain⟨xs,ys,e,h1,h2⟩:=h
  simp only[V.fl,wA] at hf
  exact⟨xs,ys,e,Ng hd hs a _ hf.1 h1,Ng hd hs b _ hf.2 h2⟩
 | .ifc t v,c,hf,h=>by
  obtain⟨x,e,h⟩:=h
  exact⟨x,e,IM hd hs v x hf h⟩
 | .agg cs,c,hf,h=>by
  obtain⟨xs,e,hv⟩:=h
  exact⟨xs,e,Ng hd hs cs _ hf hv⟩
 | .tup cs,c,hf,h=>by
  obtain⟨xs,e,hv⟩:=h
  exact⟨xs,e,Ng hd hs cs _ hf hv⟩
 | .ps _ _,_,hf,_=>by cases hf
 | .pn _ _,_,hf,_=>by cases hf
 | .pp _,_,hf,_=>by cases hf
theorem Ng{z:TypeId->Nat}{s s':Nat->Option Nat}{d d' pr pr':Nat->Prop}{w:World}(hd:∀b,d b->d' b)(hs:∀b g,s b=some g->s' b=some g):∀(vs:List V) (cs:List Value),VJ vs=true->VRs z s d pr w vs cs->VRs z s' d' pr' w vs cs
 | [],cs,_,h=>h
 | v::vs,cs,hf,h=>by
  obtain⟨c,cs',e,h1,h2⟩:=h
  simp only[VJ,wA] at hf
  exact⟨c,cs',e,IM hd hs v c hf.1 h1,Ng hd hs vs cs' hf.2 h2⟩
end
mutual
def Wk:V->V->Prop
 | .agg a,u=>u=.any\/(VJ a=true/\u=.agg a)\/∃a',u=.agg a'/\Wks a a'
 | .tup a,u=>u=.any\/(VJ a=true/\u=.tup a)\/∃a',u=.tup a'/\Wks a a'
 | v,u=>u=.any\/(V.fl v=true/\u=v)
def Wks:List V->List V->Prop
 | [],us=>us=[]
 | v::vs,us=>∃u us',us=u::us'/\Wk v u/\Wks vs us'
end
mutual
theorem Wk.ok{z:TypeId->Nat}{s s':Nat->Option Nat}{d d' pr pr':Nat->Prop}{w:World}(hd:∀b,d b->d' b)(hs:∀b g,s b=some g->s' b=some g):∀(v u:V) (c:Value),Wk v u->VR z s d pr w v c->VR z s' d' pr' w u c
 | .agg a,u,c,h,hv=>by
  rw[Wk] at h
  rcases h with rfl|⟨h,rfl⟩|⟨a',rfl,h⟩
  ·trivial
  ·exact IM hd hs (.agg a) c h hv
  ·obtain⟨xs,e,hv⟩:=hv
   exact⟨xs,e,Wks.ok hd hs a a' _ h hv⟩
 | .tup a,u,c,h,hv=>by
  rw[Wk] at h
  rcases h with rfl|⟨h,rfl⟩|⟨a',rfl,h⟩
  ·trivial
  ·exact IM hd hs (.tup a) c h hv
  ·obtain⟨xs,e,hv⟩:=hv
   exact⟨xs,e,Wks.ok hd hs a a' _ h hv⟩
 | .lit x,u,c,h,hv=>by rw[Wk] at h<;>(try simp);rcases h with rfl|⟨h,rfl⟩;(trivial);exact IM hd hs _ c h hv
 | .gptr _ _,u,c,h,hv=>by rw[Wk] at h<;>(try simp);rcases h with rfl|⟨h,rfl⟩;(trivial);exact IM hd hs _ c h hv
 | .zs,u,c,h,hv=>by rw[Wk] at h<;>(try simp);rcases h with rfl|⟨h,rfl⟩;(trivial);exact IM hd hs _ c h hv
 | .void,u,c,h,hv=>by rw[Wk] at h<;>(try simp);rcases h with rfl|⟨h,rfl⟩;(trivial);exact IM hd hs _ c h hv
 | .any,u,c,h,hv=>by rw[Wk] at h<;>(try simp);rcases h with rfl|⟨h,rfl⟩<;>trivial
 | .ptr _ _,u,c,h,hv=>by rw[Wk] at h<;>(try simp);rcases h with rfl|⟨h,rfl⟩;(trivial);exact IM hd hs _ c h hv
 | .sl _ _ _ _ _,u,c,h,hv=>by rw[Wk] at h<;>(try simp);rcases h with rfl|⟨h,rfl⟩;(trivial);exact IM hd hs _ c h hv
 | .mp _,u,c,h,hv=>by rw[Wk] at h<;>(try simp);rcases h with rfl|⟨h,rfl⟩;(trivial);exact IM hd hs _ c h hv
 | .yld _,u,c,h,hv=>by rw[Wk] at h<;>(try simp);rcases h with rfl|⟨h,rfl⟩;(trivial);exact IM hd hs _ c h hv
 | .ps _ _,u,c,h,hv=>by rw[Wk] at h<;>(try simp);rcases h with rfl|⟨h,rfl⟩;(trivial);exact IM hd hs _ c h hv
 | .pn _ _,u,c,h,hv=>by rw[Wk] at h<;>(try simp);rcases h with rfl|⟨h,rfl⟩;(trivial);exact IM hd hs _ c h hv
 | .pp _,u,c,h,hv=>by rw[Wk] at h<;>(try simp);rcases h with rfl|⟨h,rfl⟩;(trivial);exact IM hd hs _ c h hv
 | .fn _ _ _,u,c,h,hv=>by rw[Wk] at h<;>(try simp);rcases h with rfl|⟨h,rfl⟩;(trivial);exact IM hd hs _ c h hv
 | .ifc _ _,u,c,h,hv=>by rw[Wk] at h<;>(try simp);rcases h with rfl|⟨h,rfl⟩;(trivial);exact IM hd hs _ c h hv
theorem Wks.ok{z:TypeId->Nat}{s s':Nat->Option Nat}{d d' pr pr':Nat->Prop}{w:World}(hd:∀b,d b->d' b)(hs:∀b g,s b=some g->s' b=some g):∀(vs us:List V) (cs:List Value),Wks vs us->VRs z s d pr w vs cs->VRs z s' d' pr' w us cs
 | [],us,cs,h,hv=>by
  rw[Wks] at h
  subst h;exact hv
 | v::vs,us,cs,h,hv=>by
  rw[Wks] at h
  obtain⟨u,us',rfl,h1,h2⟩:=h
  obtain⟨c,cs',e,k1,k2⟩:=hv
  exact⟨c,cs',e,Wk.ok hd hs v u c h1 k1,Wks.ok hd hs vs us' cs' h2 k2⟩
end
theorem Wk.self:∀{v:V},V.fl v=true->Wk v v:=by intro v h;cases v<;>simp_all [Wk,V.fl]
theorem Wks.self:∀{vs:List V},VJ vs=true->Wks vs vs
 | [],_=>by simp[Wks]
 | v::vs,h=>by
  simp only[VJ,wA] at h
  simp only[Wks]
  exact⟨v,vs,rfl,Wk.self h.1,Wks.self h.2⟩
theorem Wks.length:∀{vs us:List V},Wks vs us->us.length=vs.length
 | [],us,h=>by simp only[Wks] at h;subst h;rfl
 | v::vs,us,h=>by
  simp only[Wks] at h
  obtain⟨u,us',rfl,_,h2⟩:=h
  simp[Wks.length h2]
def Wkm:List (V×V×Nat)->List (V×V×Nat)->Prop
 | [],es=>es=[]
 | (k,v,b)::r,es=>∃k' v' r',es=(k',v',b)::r'/\Wk k k'/\Wk v v'/\Wkm r r'
def Wkb:Blk->Blk->Prop
 | .cells cs e,B=>∃cs',B=.cells cs' e/\Wks cs cs'
 | .map es clk,B=>∃es',B=.map es' clk/\Wkm es es'
 | .loop ts ps as0 bd st pd,B=>∃ts',B=.loop ts' ps as0 bd st pd/\Wks ts ts'
 | .dead,B=>B=.dead
theorem Wkm.self:∀{es:List (V×V×Nat)},(es.all fun e=>V.fl e.1&&V.fl e.2.1)=true->Wkm es es
 | [],_=>rfl
 | (k,v,b)::r,h=>by
  simp only[CD,wA] at h
  exact⟨k,v,r,rfl,Wk.self h.1.1,Wk.self h.1.2,Wkm.self h.2⟩
section
variable {P:PH} {s s2:Nat->Option Nat} {H H2:Heap} {w:World}
theorem Wkm.ok(hd:∀b,RC H b->RC H2 b)(hs:∀b g,s b=some g->s2 b=some g):∀(es es2:List (V×V×Nat)) (as0:List MapEntry),Wkm es es2->MRs P s H w es as0->MRs P s2 H2 w es2 as0
 | [],es2,as0,h,hv=>by
  have h:es2=[]:=h
  subst h;exact hv
 | (k,v,b)::r,es2,as0,h,hv=>by
  obtain⟨k',v',r',rfl,h1,h2,h3⟩:=h
  obtain⟨e,es',he,q1,q2,q3,q4⟩:=hv
  exact⟨e,es',he,Wk.ok hd hs k k' _ h1 q1,Wk.ok hd hs v v' _ h2 q2,q3,Wkm.ok hd hs r r' es' h3 q4⟩
end
section
variable {P P2:PH} {s s2:Nat->Option Nat} {H H2:Heap} {w:World}
theorem Wkm.okP(hz:szP P2=szP P)(hd:∀b,RC H b->RC H2 b)(hs:∀b g,s b=some g->s2 b=some g):∀(es es2:List (V×V×Nat)) (as0:List MapEntry),Wkm es es2->MRs P s H w es as0->MRs P2 s2 H2 w es2 as0
 | [],es2,as0,h,hv=>by
  have h:es2=[]:=h
  subst h;exact hv
 | (k,v,b)::r,es2,as0,h,hv=>by
  obtain⟨k',v',r',rfl,h1,h2,h3⟩:=h
  obtain⟨e,es',he,q1,q2,q3,q4⟩:=hv
  refine⟨e,es',he,?_,?_,q3,Wkm.okP hz hd hs r r' es' h3 q4⟩
  ·have:=Wk.ok hd hs k k' _ h1 q1 (pr':=RE P2 s2 w)
   rw[VH,hz];exact this
  ·have:=Wk.ok hd hs v v' _ h2 q2 (pr':=RE P2 s2 w)
   rw[VH,hz];exact this
theorem Wkb.okP(hP:P2.P=P.P)(hz:szP P2=szP P)(hd:∀b,RC H b->RC H2 b)(hs:∀b g,s b=some g->s2 b=some g){B B2:Blk}{o:Obj}(h:Wkb B B2)(hv:BR P s H w B o):BR P2 s2 H2 w B2 o:=by
 have key:∀{vs us:List V} {cs:List Value},Wks vs us->UG P s H w vs cs->UG P2 s2 H2 w us cs:=fun h hv=>by
  have:=Wks.ok hd hs _ _ _ h hv (pr':=RE P2 s2 w)
  rw[UG,hz];exact this
 cases B with
 | cells cs e=>
  obtain⟨cs',rfl,h1⟩:=h
  obtain⟨arr,fr,e1,h2,h3⟩:=hv
  refine⟨arr,fr,e1,?_,by rw[hP];exact h3⟩
  rw[Wks.length h1]
  exact key h1 h2
 | map es clk=>
  obtain⟨es',rfl,h1⟩:=h
  obtain⟨arr,e1,h2⟩:=hv
  exact⟨arr,e1,Wkm.okP hz hd hs _ _ _ h1 h2⟩
 | loop ts ps as0 bd st pd=>
  obtain⟨ts',rfl,h1⟩:=h
  obtain⟨l,h0,h2,h3,h4,h5,h6,h7⟩:=hv
  exact⟨l,h0,h2,h3,h4,h5,h6,key h1 h7⟩
 | dead=>exact hv.elim
end
theorem MCall.lend{C:Ctx}{g:FuncId}{args args':List V}{H:Heap}{Q Q':OR->Prop}(ha:Fzs (fun _=>True) H args args')(k:MCall C g args' H Q')
  (hq:∀r,Q' r->∃u H2,Wk r.v u/\H2.n=r.H.n/\(∀b,b<H.n->H2.get b=H.get b/\r.H.get b=H.get b)/\(∀b,H.n<=b->b<H2.n->∃B B2,r.H.get b=some B/\H2.get b=some B2/\Wkb B B2)/\Q ⟨u,H2,H.n⟩):MCall C g args H Q:=by
 intro h s w cas K hr hg hargs hK
 let h':Nat->Prop:=fun g=>h g/\∀b,s b≠some g
 have hp0:∀g,RE (C.ph h) s w g->RE (C.ph h') (fun _=>none) w g:=fun g ⟨h1,h2,h3⟩=>⟨h1,fun b hb=>(by cases hb),fun hh=>h3 hh.1⟩
 have G:FzC (szP (C.ph h)) s (fun _=>none) (RC H) (RC H) (RE (C.ph h) s w) (RE (C.ph h') (fun _=>none) w) w (fun _=>True) H:=by
  refine⟨hp0,fun b cs e _ hb=>⟨?_,fun g0 hs=>?_⟩⟩
  ·intro hd
   rw[RC,hb] at hd
   cases hd
  ·obtain⟨arr,fr,h3,h4,_,_⟩:=hr.cells hb hs
   exact⟨⟨(hr.lt hs).2,fun b hb=>(by cases hb),fun hh=>hh.2 b hs⟩,_,h4,ZU h3 cs.length⟩
 refine k h' (fun _=>none) w cas K ⟨fun b g hb=>(by cases hb),fun b b' g hb=>(by cases hb)⟩ ⟨fun g hh=>hg.1 g hh.1,fun g cs hc=>⟨hp0 g (hg.2 g cs hc).1,(hg.2 g cs hc).2⟩⟩ (Fzs.ok G ha hargs) ?_
 intro r hr' c w' s' hv hr1 E
 obtain⟨u,H2,hwk,hn,hold,hnew,hQ⟩:=hq r hr'
 have hnn:H.n<=H2.n:=by rw[hn];exact E.hn
 have hs':∀b g,s' b=some g->H.n<=b/\w.heap.size<=g:=by
  intro b g hb
  rcases E.fresh b g hb with h1|⟨h1,h2|⟨b0,_,h3⟩⟩
  ·cases h1
  ·exact⟨h1,h2⟩
  ·cases h3
 let s3:Nat->Option Nat:=fun b=>if b<H.n then s b else s' b
 have e3:∀b g,s3 b=some g->(b<H.n/\s b=some g)\/(H.n<=b/\s' b=some g/\w.heap.size<=g):=by
  intro b g hb
  simp only[s3] at hb
  split at hb
  ·rename_i h1;exact .inl ⟨h1,hb⟩
  ·rename_i h1;exact .inr ⟨by omega,hb,(hs' b g hb).2⟩
 have hd:∀b,RC r.H b->RC H2 b:=by
  intro b hb
  rcases RA b H.n with h1|h1
  ·obtain⟨q1,q2⟩:=hold b h1
   rw[RC,q1,<-q2];exact hb
  ·have h2:b<H2.n:=by rw[hn];exact vC hb
   obtain⟨B,B2,q1,q2,q3⟩:=hnew b h1 h2
   rw[RC,q1] at hb
   injection hb with hb
   subst hb
   have q3:B2=.dead:=q3
   rw[RC,q2,q3]
 have hss:∀b g,s' b=some g->s3 b=some g:=by
  intro b g hb
  have:=(hs' b g hb).1
  simp only[s3]
  rw[if_neg (by omega)];exact hb
 have E3:Ext H.n s H w s3 H2 w':=by
  refine⟨E.os,E.tape,E.output,E.size,hnn,fun b hb=>?_,fun b g hb=>?_,fun g hg _=>E.frame g hg (fun b hb=>(by cases hb)),fun b g hb=>?_,E.shp,fun b h1 _=>(hold b h1).1,fun b h1 h2=>?_⟩
  ·have h1:=vC hb
   rw[RC,(hold b h1).1];exact hb
  ·left
   have:=(hr.lt hb).1
   simp only[s3]
   rw[if_pos this];exact hb
  ·rcases e3 b g hb with⟨h1,h2⟩|⟨h1,h2,h3⟩
   ·exact .inl h2
   ·exact .inr ⟨h1,.inl h3⟩
  ·rw[hn] at h2
   rcases E.cov b h1 h2 with h3|⟨g,h3⟩
   ·exact .inl (hd b h3)
   ·exact .inr ⟨g,hss b g h3⟩
 refine hK _ hQ c w' s3 (Wk.ok hd hss _ _ _ hwk hv) ⟨fun b g hb=>?_,fun b b' g hb hb'=>?_⟩ E3
 ·rcases e3 b g hb with⟨h1,h2⟩|⟨h1,h2,h3⟩
  ·obtain⟨B,o,q1,q2,q3⟩:=hr.dom b g h2
   refine⟨B,o,by rw[(hold b h1).1];exact q1,?_,q3.mono E3.grow⟩
   rw[E.frame g (hr.lt h2).2 fun b hb=>(by cases hb)]
   exact q2
  ·obtain⟨B,o,q1,q2,q3⟩:=hr1.dom b g h2
   obtain⟨B',B2,m1,m2,m3⟩:=hnew b h1 (by rw[hn];exact vC q1)
   rw[q1] at m1
   injection m1 with m1
   subst m1
   exact⟨B2,o,m2,q2,Wkb.okP (P:=C.ph h') (P2:=C.ph h) rfl rfl hd hss m3 q3⟩
 ·rcases e3 b g hb with⟨h1,h2⟩|⟨h1,h2,h3⟩<;>rcases e3 b' g hb' with⟨k1,k2⟩|⟨k1,k2,k3⟩
  ·exact hr.inj b b' g h2 k2
  ·have:=(hr.lt h2).2;omega
  ·have:=(hr.lt k2).2;omega
  ·exact hr1.inj b b' g h2 k2
theorem MCall.lend_flat{C:Ctx}{g:FuncId}{args args':List V}{H:Heap}{Q:OR->Prop}{v:V}(ha:Fzs (fun _=>True) H args args')(hf:V.fl v=true)(k:MCall C g args' H (·=⟨v,H,H.n⟩))(hq:Q ⟨v,H,H.n⟩):MCall C g args H Q:=by
 refine MCall.lend ha k fun r hr=>?_
 subst hr
 exact⟨v,H,Wk.self hf,rfl,fun b hb=>⟨rfl,rfl⟩,fun b h1 h2=>absurd h2 (by omega),hq⟩
theorem RN.fz{f:Nat->Option Nat}{Z:Nat->Prop}{H:Heap}{v u:V}(h:Fz Z H v u):RN f Z H v u:=fun _ _ _ _ _ _ _ _ G c hv=>Fz.ok ⟨G.p,G.z⟩ h hv
theorem Res.fz{C:Ctx}{H0:Heap}{v:V}{H:Heap}{lo:Nat}{Q:OR->Prop}{h:Hid Q}(u:V)(hlo:H0.n<=lo)(hv:Fz (fun b=>H0.n<=b) H v u)(k:Q ⟨u,H0,H0.n⟩):Res C H0 v H lo Q h:=by
 refine⟨u,H0,H0.n,Sub.drop [(0,u)] hlo (fun b e=>by cases e) ?_,k⟩
 intro p hp
 simp only[gD] at hp
 subst hp
 have e:PD (jH [(0,v)]) 0=v:=by
  show PD (YO .nil 0 v) 0=v
  rw[QM,if_pos rfl]
 rw[e]
 exact .fz hv
end
section
abbrev PE(b:UInt8):V:=.lit (.int .u8 b.toNat)
abbrev vA(n:Int):V:=.lit (.int .i64 n)
abbrev TC(n:Int):V:=.lit (.int .u64 n)
abbrev gE(s:ByteArray):V:=.lit (.string s)
section nat
variable {P:Program} {t e:TypeId}
theorem oX{z:Nat}(h:P.underlying t=some (.slice e))(hn:EF P e=some z)(cs:List V)(l:Nat)(q:IntKind)(i:Nat):zv P t (.pn cs l) (.lit (.int q (i:Nat)))=if i<l then some (.pp (cs.drop (i*z))) else none:=by
 simp[zv,h,hn]
theorem Pf{z:Nat}(h:P.underlying t=some (.slice e))(hn:EF P e=some z)(b o l c:Nat)(p:Option Nat)(q:IntKind)(i:Nat):zv P t (.sl b o l c p) (.lit (.int q (i:Nat)))=if i<l then some (.ptr b (o+i*z)) else none:=by
 simp[zv,h,hn]
theorem Cj{z l:Nat}(h:P.underlying t=some (.array l e))(hn:EF P e=some z)(x:V)(q:IntKind)(i:Nat):zv P t x (.lit (.int q (i:Nat)))=if i<l then II x (i*z) else none:=by
 simp[zv,h,hn]
theorem zow(h:P.underlying t=some .string)(s:ByteArray)(q:IntKind)(i:Nat):vN P t (.lit (.string s)) (.lit (.int q (i:Nat)))=(s.data.toList[i]?).map PE:=by
 simp[vN,h]
end nat
attribute [go_sem] Int.ofNat_lt Int.ofNat_le
theorem zjR{n:Nat}(h:n<=9223372036854775807):IntKind.i64.wrap (n:Int)=n:=zw (by omega) (by omega)
theorem PR{n:Nat}(h:n<9223372036854775807):IntKind.i64.wrap ((n:Int)+1)=((n+1:Nat):Int):=by
 rw[zw (by omega) (by omega)];rfl
def row{α:Type}(e:α->List V)(l:List α):List V:=l.flatMap e
theorem xX{α:Type}(e:α->List V):row e []=[]:=rfl
theorem iJ{α:Type}(e:α->List V)(x:α)(l:List α):row e (x::l)=e x++row e l:=by simp[row]
theorem TR{α:Type}(e:α->List V)(l m:List α):row e (l++m)=row e l++row e m:=by simp[row]
theorem zr{α:Type}{e:α->List V}{z:Nat}(h:∀x,(e x).length=z):∀l:List α,(row e l).length=l.length*z
 | []=>by simp[row]
 | x::l=>by rw[iJ,qA,h,zr h l,HA,ZC,dF,Nat.add_comm]
theorem gg{α:Type}{e:α->List V}{z:Nat}(h:∀x,(e x).length=z):∀(l:List α) (i:Nat),(row e l).drop (i*z)=row e (l.drop i)
 | l,0=>by simp
 | [],i+1=>by simp[row]
 | x::l,i+1=>by
  rw[iJ,JD,<-gg h l i,List.drop_append,h]
  have e1:(i+1)*z-z=i*z:=by rw[ZC,dF,ME]
  have e2:(e x).drop ((i+1)*z)=[]:=List.drop_of_length_le (by rw[h,ZC,dF];omega)
  rw[e1,e2,DD]
theorem z7{α:Type}{e:α->List V}{z:Nat}(h:∀x,(e x).length=z){l:List α}{i:Nat}{x:α}(hx:l[i]?=some x):(row e l).drop (i*z)=e x++row e (l.drop (i+1)):=by
 rw[gg h]
 obtain⟨hi,rfl⟩:=rA.1 hx
 rw[DB hi,iJ]
theorem qO{α:Type}{e:α->List V}{z:Nat}(h:∀x,(e x).length=z):∀(l:List α) (i:Nat),(row e l).take (i*z)=row e (l.take i)
 | l,0=>by simp[row]
 | [],i+1=>by simp[row]
 | x::l,i+1=>by
  rw[iJ,List.take_succ_cons,iJ,<-qO h l i,List.take_append,h]
  have e1:(i+1)*z-z=i*z:=by rw[ZC,dF,ME]
  have e2:(e x).take ((i+1)*z)=e x:=uA (by rw[h,ZC,dF];omega)
  rw[e1,e2]
theorem UH{α:Type}{e:α->List V}(h:∀x,QF (e x)=true):∀l:List α,QF (row e l)=true
 | []=>rfl
 | x::l=>by rw[iJ,nN,h,UH h l];rfl
theorem mL{α:Type}{e:α->List V}(h:∀x,(e x).all HB=true):∀l:List α,(row e l).all HB=true
 | []=>rfl
 | x::l=>by rw[iJ,List.all_append,h,mL h l];rfl
abbrev NB{α:Type}(e:α->List V)(l:List α):V:=.pn (row e l) l.length
abbrev gO:=Vector UInt8 16
structure GRev where
 gen:Int
 sum:gO
 deriving DecidableEq
def FH(s:gO):List V:=s.toList.map PE
def ze(r:GRev):List V:=TC r.gen::FH r.sum
def GRev.zero:GRev:=⟨0,Vector.replicate 16 0⟩
theorem zX(s:gO):(FH s).length=16:=by simp[FH]
theorem zi(r:GRev):(ze r).length=17:=by simp[ze,zX]
inductive GV where
 | mk (kind num:Int) (text:ByteArray) (list:List GV) (keys:List ByteArray)
def GV.kind:GV->Int|.mk k _ _ _ _=>k
def GV.num:GV->Int|.mk _ n _ _ _=>n
def GV.text:GV->ByteArray|.mk _ _ t _ _=>t
def GV.list:GV->List GV|.mk _ _ _ l _=>l
def GV.keys:GV->List ByteArray|.mk _ _ _ _ k=>k
def RH(s:ByteArray):List V:=[gE s]
mutual
def zR:GV->List V
 | .mk k n t l ks=>[vA k,vA n,gE t,.pn (PS l) l.length,NB RH ks]
def PS:List GV->List V
 | []=>[]
 | v::vs=>zR v++PS vs
end
theorem Qj:∀l:List GV,PS l=row zR l
 | []=>rfl
 | v::vs=>by rw[PS,iJ,Qj vs]
theorem WJ(v:GV):zR v=[vA v.kind,vA v.num,gE v.text,NB zR v.list,NB RH v.keys]:=by
 cases v with
 | mk k n t l ks=>rw[zR,Qj];rfl
def GV.zero:GV:=.mk 0 0 .empty [] []
theorem zF(v:GV):(zR v).length=5:=by rw[WJ];rfl
theorem zC(s:ByteArray):(RH s).length=1:=rfl
structure GNode where
 rev:GRev
 parent:GRev
 deleted:Int
 has:Int
 body:GV
def za(n:GNode):List V:=ze n.rev++(ze n.parent++(vA n.deleted::vA n.has::zR n.body))
def GNode.zero:GNode:=⟨.zero,.zero,0,0,.zero⟩
theorem zg(n:GNode):(za n).length=41:=by simp[za,zi,zF]
structure GTree where
 nodes:List GNode
def zp(t:GTree):List V:=[NB za t.nodes]
theorem zU(t:GTree):(zp t).length=1:=rfl
theorem zjI(s:gO):QF (FH s)=true:=by
 unfold FH
 induction s.toList with
 | nil=>rfl
 | cons b l ih=>simp[QF,PE,V.bf,ih]
theorem zz(r:GRev):QF (ze r)=true:=by simp[ze,QF,TC,V.bf,zjI]
theorem KO(s:ByteArray):QF (RH s)=true:=rfl
theorem Sk{α:Type}{e:α->List V}(h:∀x,QF (e x)=true)(l:List α):V.bf (NB e l)=true:=UH h l
mutual
theorem TL:∀v:GV,QF (zR v)=true
 | .mk k n t l ks=>by simp[zR,QF,vA,gE,V.bf,zlR l,UH KO]
theorem zlR:∀l:List GV,QF (PS l)=true
 | []=>rfl
 | v::vs=>by rw[PS,nN,TL v,zlR vs];rfl
end
theorem zK(n:GNode):QF (za n)=true:=by simp[za,nN,zz,QF,vA,V.bf,TL]
theorem CM(t:GTree):QF (zp t)=true:=by simp[zp,QF,Sk zK]
theorem pU(s:gO):(FH s).all HB=true:=by
 simp[FH,HB]
theorem UR(r:GRev):(ze r).all HB=true:=by simp[ze,TC,HB,pU,-gB]
theorem B7(v:GV):(zR v).all HB=true:=by rw[WJ];rfl
theorem zgM(s:ByteArray):(RH s).all HB=true:=rfl
theorem VN(n:GNode):(za n).all HB=true:=by simp[za,vA,HB,UR,B7,-gB]
theorem tT{a b:UInt8}(h:PE a=PE b):a=b:=by
 injection h with h
 injection h with _ h
 exact UInt8.toNat_inj.1 (by exact_mod_cast h)
theorem zkb:∀{l m:List UInt8},l.map PE=m.map PE->l=m
 | [],[],_=>rfl
 | [],_::_,h=>by simp at h
 | _::_,[],h=>by simp at h
 | x::l,y::m,h=>by
  rw[NC,NC] at h
  injection h with h1 h2
  rw[tT h1,zkb h2]
theorem zjB{s t:gO}(h:FH s=FH t):s=t:=by
 have h1:s.toList=t.toList:=by
  unfold FH at h
  exact zkb h
 exact Vector.toList_inj.1 h1
theorem Ej{a b:GRev}(h:ze a=ze b):a=b:=by
 obtain⟨g,s⟩:=a
 obtain⟨g',s'⟩:=b
 simp only[ze,HF,V.lit.injEq,Value.int.injEq,true_and] at h
 rw[h.1,zjB h.2]
theorem zjC{a b:ByteArray}(h:RH a=RH b):a=b:=by
 simpa[RH,gE] using h
theorem N3{α:Type}{e:α->List V}{z:Nat}(hz:∀x,(e x).length=z)(hi:∀x y,e x=e y->x=y):∀{l m:List α},l.length=m.length->row e l=row e m->l=m
 | [],[],_,_=>rfl
 | [],_::_,h,_=>by simp at h
 | _::_,[],h,_=>by simp at h
 | x::l,y::m,h,k=>by
  rw[iJ,iJ] at k
  obtain⟨h1,h2⟩:=dH k (by rw[hz,hz])
  rw[hi x y h1,N3 hz hi (by simpa using h) h2]
theorem zph{α:Type}{e:α->List V}{z:Nat}(hz:∀x,(e x).length=z)(hi:∀x y,e x=e y->x=y){l m:List α}(h:NB e l=NB e m):l=m:=by
 injection h with h1 h2
 exact N3 hz hi h2 h1
mutual
theorem dk:∀(a b:GV),zR a=zR b->a=b
 | .mk k n t l ks,.mk k' n' t' l' ks',h=>by
  simp only[zR,HF,V.lit.injEq,Value.int.injEq,true_and,Value.string.injEq,V.pn.injEq,and_true] at h
  obtain⟨rfl,rfl,rfl,⟨h1,h2⟩,h3⟩:=h
  rw[zlI l l' h2 h1,zph zC (fun a b=>zjC) (show NB RH ks=NB RH ks' by unfold NB;rw[h3.1,h3.2])]
theorem zlI:∀(l m:List GV),l.length=m.length->PS l=PS m->l=m
 | [],[],_,_=>rfl
 | [],_::_,h,_=>by simp at h
 | _::_,[],h,_=>by simp at h
 | x::l,y::m,h,k=>by
  rw[PS,PS] at k
  obtain⟨h1,h2⟩:=dH k (by rw[zF,zF])
  rw[dk x y h1,zlI l m (by simpa using h) h2]
end
theorem zfM{a b:GNode}(h:za a=za b):a=b:=by
 obtain⟨r,p,d,q,v⟩:=a
 obtain⟨r',p',d',q',v'⟩:=b
 simp only[za] at h
 obtain⟨h1,h⟩:=dH h (by rw[zi,zi])
 obtain⟨h2,h⟩:=dH h (by rw[zi,zi])
 simp only[HF,V.lit.injEq,Value.int.injEq,true_and] at h
 rw[Ej h1,Ej h2,h.1,h.2.1,dk _ _ h.2.2]
theorem zmA{a b:GTree}(h:zp a=zp b):a=b:=by
 obtain⟨l⟩:=a
 obtain⟨m⟩:=b
 simp only[zp,HF,and_true] at h
 rw[zph zg (fun a b=>zfM) h]
theorem zP{s t:gO}:FH s=FH t↔s=t:=⟨zjB,fun h=>by rw[h]⟩
theorem zQ{a b:GRev}:ze a=ze b↔a=b:=⟨Ej,fun h=>by rw[h]⟩
theorem kj{a b:GV}:zR a=zR b↔a=b:=⟨dk a b,fun h=>by rw[h]⟩
theorem zJ{a b:GNode}:za a=za b↔a=b:=⟨zfM,fun h=>by rw[h]⟩
theorem zI{a b:GTree}:zp a=zp b↔a=b:=⟨zmA,fun h=>by rw[h]⟩
end
section
open Classical
abbrev CI(C:Ctx)(g:FuncId)(F:List V->Heap->Option OR):Prop:=∀args H r,F args H=some r->MCall C g args H (·=r)
noncomputable def GK{α:Type}(e:α->List V)(f:α->Heap->Option OR)(args:List V)(H:Heap):Option OR:=
 if h:∃x,args=e x then f h.choose H else none
theorem lL{α:Type}{e:α->List V}{f:α->Heap->Option OR}(hinj:∀x y,e x=e y->x=y)(x:α)(H:Heap):GK e f (e x) H=f x H:=by
 have h:∃y,e x=e y:=⟨x,rfl⟩
 unfold GK
 rw[dif_pos h,<-hinj _ _ h.choose_spec]
theorem kL{C:Ctx}{g:FuncId}{α:Type}{e:α->List V}{f:α->Heap->Option OR}(h:∀x H r,f x H=some r->MCall C g (e x) H (·=r)):∀args H r,GK e f args H=some r->MCall C g args H (·=r):=by
 intro args H r hr
 unfold GK at hr
 split at hr
 ·rename_i hx
  have:=hx.choose_spec
  rw[this]
  exact h _ H r hr
 ·cases hr
noncomputable def PL{α:Type}(e:α->List V)(f:α->V):List V->Heap->Option OR:=GK e fun x H=>some ⟨f x,H,H.n⟩
theorem EM{C:Ctx}{g:FuncId}{α:Type}{e:α->List V}{f:α->V}(h:∀x H (Q:OR->Prop),Q ⟨f x,H,H.n⟩->MCall C g (e x) H Q):∀args H r,PL e f args H=some r->MCall C g args H (·=r):=
 kL fun x H r hr=>by
  injection hr with hr
  subst hr
  exact h x H _ rfl
theorem FM{α:Type}{e:α->List V}{f:α->V}(hinj:∀x y,e x=e y->x=y)(x:α)(H:Heap):PL e f (e x) H=some ⟨f x,H,H.n⟩:=lL hinj x H
noncomputable def L9(as0:List V)(H:Heap)(r:OR)(args:List V)(H':Heap):Option OR:=if args=as0/\H'=H then some r else none
theorem wN{C:Ctx}{g:FuncId}{as0:List V}{H:Heap}{r:OR}(h:MCall C g as0 H (·=r)):∀args H' r',L9 as0 H r args H'=some r'->MCall C g args H' (·=r'):=by
 intro args H' r' hr
 unfold L9 at hr
 split at hr
 ·rename_i e
  obtain⟨rfl,rfl⟩:=e
  injection hr with hr
  subst hr
  exact h
 ·cases hr
@[go_sem] theorem rP(as0:List V)(H:Heap)(r:OR):L9 as0 H r as0 H=some r:=by simp[L9]
theorem MV.tab{C:Ctx}{f:V}{args:List V}{H:Heap}{K:OR->Prop}{h:Hid K}(l:Tab)(hl:Tab.OK C l)(k:OO (E4 l f args H) K .mk):MV C f args H K h:=by
 refine⟨?_⟩
 rw[xL] at k
 unfold OQ E4 at k
 split at k
 ·rename_i r hr
  split at hr
  ·rename_i g first cap
   obtain⟨F,h1,h2⟩:=nA.1 hr
   exact MVal.fn ((Bk hl h1 _ H r h2).mono fun r' e=>by subst e;exact k)
  ·cases hr
 ·exact k.elim
theorem MV.fn{C:Ctx}{g:FuncId}{first cap args:List V}{H:Heap}{K:OR->Prop}{h:Hid K}(k:MCall C g (first++args++cap) H K):MV C (.fn (.func g) first cap) args H K h:=⟨MVal.fn k⟩
theorem MCall.cv{C:Ctx}{g:FuncId}{args args':List V}{H:Heap}{Q:OR->Prop}(ha:Fzs (fun _=>False) H args args')(k:MCall C g args' H Q):MCall C g args H Q:=by
 intro h s w cas K hr hg hargs hK
 exact k h s w cas K hr hg (Fzs.ok ⟨fun g hg=>hg,fun b cs e hz=>hz.elim⟩ ha hargs) hK
attribute [go_sem] List.drop_zero JD DD MA List.cons_append Nat.left_eq_add Nat.add_eq_left Nat.add_left_cancel_iff Nat.add_assoc Nat.right_eq_add Nat.add_eq_right
theorem Res.bf{C:Ctx}{H0:Heap}{v:V}{H:Heap}{lo:Nat}{Q:OR->Prop}{h:Hid Q}(hlo:H0.n<=lo)(hb:V.bf v=true)(k:Q ⟨v,H0,H0.n⟩):Res C H0 v H lo Q h:=Res.fz v hlo (.self v hb) k
end
section
open Go.ChangeShapes Go.WideShapes Go.Deep
section
variable {H:Type} {enc:TypeId×Value->H} {P:Program} {w:World} {base:Nat} {spare:Nat->Bool} {held:Bool}
abbrev RDs(P:Program)(w:World):List V->List Value->Prop:=VRs (szP P) (fun _=>none) (fun _=>False) (fun g=>g<w.heap.size) w
abbrev RD(P:Program)(w:World):V->Value->Prop:=VR (szP P) (fun _=>none) (fun _=>False) (fun g=>g<w.heap.size) w
theorem RDs.one{v:V}{c:Value}(h:RD P w v c):RDs P w [v] [c]:=⟨c,[],rfl,h,rfl⟩
theorem RDs.cons{v:V}{c:Value}{vs:List V}{cs:List Value}(h:RD P w v c)(k:RDs P w vs cs):RDs P w (v::vs) (c::cs):=⟨c,cs,rfl,h,k⟩
theorem zpp{α:Type}{en:α->List V}{ok:α->Prop}{z:Nat}(hen:∀x,(en x).length=z)(a:Addr):∀n,(∀i,i<n->∃x cs',w.cells? base (a.add (i*z)) z=some cs'/\RDs P w (en x) cs'/\ok x)->
  ∃(l:List α) (cs:List Value),l.length=n/\RDs P w (row en l) cs/\cs.length=n*z/\(∀i,i<n*z->w.cell? (a.add i)=cs[i]?)/\∀x∈l,ok x
 | 0,_=>⟨[],[],rfl,rfl,by simp,fun i hi=>by simp at hi,fun x hx=>by cases hx⟩
 | n+1,h=>by
  obtain⟨l,cs,h1,h2,h3,h4,h5⟩:=zpp (ok:=ok) hen a n fun i hi=>h i (by omega)
  obtain⟨x,cs',k1,k2,k3⟩:=h n (by omega)
  obtain⟨_,m1,m2⟩:=World.cells?_some k1
  refine⟨l++[x],cs++cs',by simp[h1],?_,?_,fun i hi=>?_,fun y hy=>?_⟩
  ·rw[TR]
   refine VRs.append h2 ?_
   have:row en [x]=en x:=by simp[row]
   rw[this];exact k2
  ·rw[qA,h3,m1,IG]
  ·rcases RA i (n*z) with hi'|hi'
   ·rw[h4 i hi',List.getElem?_append_left (by omega)]
   ·have:=m2 (i-n*z) (by rw[IG] at hi;omega)
    rw[add_add,show n*z+(i-n*z)=i by omega] at this
    rw[this,List.getElem?_append_right (by omega),h3]
  ·rcases List.mem_append.1 hy with hy|hy
   ·exact h5 y hy
   ·rw[gD.1 hy];exact k3
theorem zqi{a:Addr}{v:Value}(h:w.cell? a=some v):a.block<w.heap.size/\a.spot=none:=by
 unfold World.cell? at h
 split at h
 ·rename_i c e f hc
  split at h
  ·cases h
  ·rename_i hs
   exact⟨(Array.getElem?_eq_some_iff.1 hc).1,by simpa using hs⟩
 ·cases h
theorem cR{α:Type}{en:α->List V}{ok:α->Prop}{z:Nat}(hz:0<z)(hen:∀x,(en x).length=z){t e:TypeId}(ht:P.underlying t=some (.slice e))(hc:P.cellsOf e=z){fuel:Nat}{cs:List Value}{d:DataW H}{ps:List MemPlace}
  (h:DataW.trod enc P w base spare held fuel t cs=some (d,ps))
  (hr:∀n cs' D Pl,n<fuel->DataW.trod enc P w base spare held n e cs'=some (D,Pl)->(∃el sp,d=.slice el sp/\D∈el)->∃x,RDs P w (en x) cs'/\ok x):
  ∃l:List α,RDs P w [NB en l] cs/\(∀x∈l,ok x)/\(l=[]\/∃el sp,d=.slice el sp/\el.length=l.length):=by
 rcases DataW.trod_slice ht h with⟨rfl,_⟩|⟨a,len,cap,elems,rest,n,rfl,rfl,hx,hb,hl,hm,hlen,hel,hsp,hns⟩
 ·exact⟨[],RDs.one (.inl ⟨rfl,rfl,.inl rfl⟩),(fun x hx=>by cases hx),.inl rfl⟩
 ·injection hx with hd _
  rw[hc] at hel
  obtain⟨l,vs,h1,h2,h3,h4,h5⟩:=zpp (P:=P) (w:=w) (base:=base) (ok:=ok) hen a len fun i hi=>by
   have:=hel i hi
   rw[sA (by omega)] at this
   obtain⟨cs',q1,q2⟩:=nA.1 this
   obtain⟨x,q3,q4⟩:=hr n cs' elems[i].1 elems[i].2 (by omega) q2 ⟨_,_,hd,List.mem_map.2 ⟨_,List.getElem_mem _,rfl⟩⟩
   exact⟨x,cs',q1,q3,q4⟩
  refine⟨l,?_,h5,.inr ⟨_,_,hd,by rw[List.length_map,hlen,h1]⟩⟩
  refine RDs.one ?_
  by_cases h0:len=0
  ·subst h0
   have:l=[]:=List.length_eq_zero_iff.1 h1
   subst this
   exact .inl ⟨rfl,rfl,.inr ⟨a,cap,rfl⟩⟩
  ·have hp:0<len*z:=Nat.mul_pos (by omega) hz
   have c0:=h4 0 hp
   rw[sA (by omega),Addr.add,if_pos rfl] at c0
   obtain⟨g1,g2⟩:=zqi c0
   obtain⟨g,off,sp⟩:=a
   simp only at g1 g2
   subst g2
   refine .inr ⟨g,off,cap,vs,by rw[h1],by omega,g1,h2,fun i c hi=>?_⟩
   have hi':=(rA.1 hi).1
   have:=h4 i (by omega)
   rw[hi] at this
   rw[<-this]
   unfold Addr.add
   split
   ·rename_i e0;subst e0;rfl
   ·rfl
theorem aR{l:List Value}(h:∀v∈l,∃n:Int,v=.int .u8 n/\0<=n/\n<=255):∃b:List UInt8,b.length=l.length/\RDs P w (b.map PE) l:=by
 induction l with
 | nil=>exact⟨[],rfl,rfl⟩
 | cons v l ih=>
  obtain⟨b,h1,h2⟩:=ih fun v hv=>h v (by simp[hv])
  obtain⟨n,rfl,h3,h4⟩:=h v (by simp)
  refine⟨UInt8.ofNat n.toNat::b,by simp[h1],RDs.cons ?_ h2⟩
  have:(UInt8.ofNat n.toNat).toNat=n.toNat:=by
   rw[UInt8.toNat_ofNat']
   exact Nat.mod_eq_of_lt (by omega)
  show Value.int .u8 n=.int .u8 (UInt8.ofNat n.toNat).toNat
  rw[this]
  congr 1
  omega
theorem C0{t e:TypeId}(ht:P.underlying t=some (.array 16 e))(he:P.underlying e=some (.int .u8))(hce:P.cellsOf e=1)(hct:P.cellsOf t=16){fuel:Nat}{cs:List Value}{x:DataW H×List MemPlace}(h:DataW.trod enc P w base spare held fuel t cs=some x):
  ∃s:gO,RDs P w (FH s) cs:=by
 obtain⟨xs,m,_,_,h1,h2,h3⟩:=DataW.trod_array ht h
 rw[hct] at h1
 have hb:∀v∈cs,∃n:Int,v=.int .u8 n/\0<=n/\n<=255:=fun v hv=>by
  obtain⟨i,hi,rfl⟩:=List.getElem_of_mem hv
  have:=h3 i (by omega)
  rw[hce,Nat.mul_one,sA (by omega)] at this
  obtain⟨n,k1,_,k3⟩:=DataW.trod_int he this
  have e1:(cs.drop i).take 1=[cs[i]]:=by
   rw[DB hi];rfl
  rw[e1] at k1
  injection k1 with k1
  simp only[Lit.wf,wA,IntKind.min,IntKind.max,xC,GC] at k3
  refine⟨n,k1,by simpa using k3.1,by have:=k3.2;simp at this;omega⟩
 obtain⟨b,k1,k2⟩:=aR (P:=P) (w:=w) hb
 refine⟨⟨b.toArray,by simp;omega⟩,?_⟩
 simpa[FH,Vector.toList] using k2
end
theorem MCall.calls {C : Ctx} {g : FuncId} {fn : Func} {body : Code} (hf : C.P.funcs[g]? = some fn) (hb : fn.body = some body) (hn : ¬ fn.name = "runtime.NumGoroutine") {W : World} {args : Array Value} {vs : List V} (hg : GW C W) (hv : RDs C.P W vs args.toList) (x : Value)
  (hM:MCall C g vs .empty (·=⟨.lit x,.empty,0⟩)):Calls C.P g args W fun e W'=>e=.returned x/\RowKit.Below W.heap.size W W':=by
 have R:=SR.start hg hv 0
 have:=hM (fun _=>False) (fun _=>none) W args (fun c w'=>c=x/\RowKit.Below W.heap.size W w') R.hr R.gk (zpr (h:=fun _=>False) (fun _ h=>h) hv) (fun r hr c w' s' h3 h4 h5=>by
  subst hr
  exact⟨h3,h5.os,h5.tape,h5.output,h5.size,fun k hk=>h5.frame k hk fun b hb=>(by cases hb)⟩)
 have h0:(callFunc g args).run C.P W=.ok (.enter g args) W:=by simp[callFunc,hf,hn,hb]
 unfold CallF at this
 rw[h0] at this
 refine Calls.mono this ?_
 rintro e w' ⟨v,rfl,rfl,hB⟩
 exact⟨rfl,hB⟩
theorem zm7{z:TypeId->Nat}{s:Nat->Option Nat}{d pr:Nat->Prop}{w:World}:∀l:List Value,VRs z s d pr w (l.map V.lit) l
 | []=>rfl
 | v::l=>⟨v,l,rfl,rfl,zm7 l⟩
end
section
mutual
def V.ok(n:Nat):V->Bool
 | .ptr b _=>decide (b<n)
 | .sl b _ _ _ _=>decide (b<n)
 | .mp b=>decide (b<n)
 | .yld b=>decide (b<n)
 | .ps cs _=>nI n cs
 | .pn cs _=>nI n cs
 | .pp cs=>nI n cs
 | .fn _ a b=>nI n a&&nI n b
 | .ifc _ v=>V.ok n v
 | .agg cs=>nI n cs
 | .tup cs=>nI n cs
 | _=>true
def nI(n:Nat):List V->Bool
 | []=>true
 | v::vs=>V.ok n v&&nI n vs
end
mutual
theorem H4(n:Nat):∀v:V,V.bf v=true->V.ok n v=true
 | .ptr _ _,h=>by cases h
 | .sl _ _ _ _ _,h=>by cases h
 | .mp _,h=>by cases h
 | .yld _,h=>by cases h
 | .ps cs _,h=>tN n cs h
 | .pn cs _,h=>tN n cs h
 | .pp cs,h=>tN n cs h
 | .fn _ a b,h=>by
  simp only[V.bf,wA] at h
  simp[V.ok,tN n a h.1,tN n b h.2]
 | .ifc _ v,h=>H4 n v h
 | .agg cs,h=>tN n cs h
 | .tup cs,h=>tN n cs h
 | .lit _,_=>rfl
 | .gptr _ _,_=>rfl
 | .zs,_=>rfl
 | .void,_=>rfl
 | .any,_=>rfl
theorem tN(n:Nat):∀vs:List V,QF vs=true->nI n vs=true
 | [],_=>rfl
 | v::vs,h=>by
  simp only[QF,wA] at h
  simp[nI,H4 n v h.1,tN n vs h.2]
end
theorem UU(n:Nat):∀(xs ys:List V),nI n (xs++ys)=(nI n xs&&nI n ys)
 | [],ys=>by simp[nI]
 | x::xs,ys=>by simp[nI,UU n xs ys,Bool.and_assoc]
mutual
theorem y7{n:Nat}{Z:Nat->Prop}{H:Heap}:∀v:V,V.ok n v=true->rn (pI n) Z H v v
 | .ptr b _,h=>by simp only[V.ok,decide_eq_true_eq] at h;exact .inr ⟨b,by simp[pI,h],rfl⟩
 | .sl b _ _ _ _,h=>by simp only[V.ok,decide_eq_true_eq] at h;exact .inr (.inl ⟨b,by simp[pI,h],rfl⟩)
 | .mp b,h=>by simp only[V.ok,decide_eq_true_eq] at h;exact .inr ⟨b,by simp[pI,h],rfl⟩
 | .yld b,h=>by simp only[V.ok,decide_eq_true_eq] at h;exact .inr ⟨b,by simp[pI,h],rfl⟩
 | .ps cs _,h=>.inr ⟨.inl rfl,AS cs h⟩
 | .pn cs _,h=>.inr ⟨rfl,AS cs h⟩
 | .pp cs,h=>.inr ⟨rfl,AS cs h⟩
 | .fn _ a b,h=>by
  simp only[V.ok,wA] at h
  exact .inr ⟨a,b,rfl,AS a h.1,AS b h.2⟩
 | .ifc _ v,h=>.inr ⟨v,rfl,y7 v h⟩
 | .agg cs,h=>.inr (.inr ⟨cs,rfl,AS cs h⟩)
 | .tup cs,h=>.inr (.inr ⟨cs,rfl,AS cs h⟩)
 | .lit _,_=>.inr (.inl rfl)
 | .gptr _ _,_=>.inr rfl
 | .zs,_=>.inr (.inl rfl)
 | .void,_=>.inr (.inl rfl)
 | .any,_=>rfl
theorem AS{n:Nat}{Z:Nat->Prop}{H:Heap}:∀vs:List V,nI n vs=true->QL (pI n) Z H vs vs
 | [],_=>rfl
 | v::vs,h=>by
  simp only[nI,wA] at h
  exact⟨v,vs,rfl,y7 v h.1,AS vs h.2⟩
end
def Blk.ok(n:Nat):Blk->Bool
 | .cells cs _=>nI n cs
 | .map es _=>es.all fun e=>V.ok n e.1&&V.ok n e.2.1
 | .loop ts _ _ _ _ _=>nI n ts
 | .dead=>true
theorem zkS{n:Nat}{Z:Nat->Prop}{H:Heap}:∀es:List (V×V×Nat),(es.all fun e=>V.ok n e.1&&V.ok n e.2.1)=true->E0 (pI n) Z H es es
 | [],_=>rfl
 | (k,v,b)::r,h=>by
  simp only[CD,wA] at h
  exact⟨k,v,r,rfl,y7 k h.1.1,y7 v h.1.2,zkS r h.2⟩
theorem xj{n:Nat}{Z:Nat->Prop}{H:Heap}{B:Blk}(h:Blk.ok n B=true):uS (pI n) Z H B B:=by
 cases B with
 | cells cs e=>exact⟨cs,rfl,AS cs h⟩
 | map es clk=>exact⟨es,rfl,zkS es h⟩
 | loop ts ps as0 bd st pd=>exact⟨ts,rfl,AS ts h⟩
 | dead=>rfl
inductive Grn(H0:Heap):Heap->Prop
 | refl:Grn H0 H0
 | push {H:Heap} {B:Blk}:Grn H0 H->Blk.ok H.n B=true->Grn H0 (H.push B)
 | set {H:Heap} {b:Nat} {B:Blk}:Grn H0 H->b<H.n->Blk.ok H.n B=true->Grn H0 (H.set b B)
mutual
theorem ok_mono{n m:Nat}(hn:n<=m):∀v:V,V.ok n v=true->V.ok m v=true
 | .ptr _ _,h=>by simp only[V.ok,decide_eq_true_eq] at h ⊢;omega
 | .sl _ _ _ _ _,h=>by simp only[V.ok,decide_eq_true_eq] at h ⊢;omega
 | .mp _,h=>by simp only[V.ok,decide_eq_true_eq] at h ⊢;omega
 | .yld _,h=>by simp only[V.ok,decide_eq_true_eq] at h ⊢;omega
 | .ps cs _,h=>GS hn cs h
 | .pn cs _,h=>GS hn cs h
 | .pp cs,h=>GS hn cs h
 | .fn _ a b,h=>by
  simp only[V.ok,wA] at h ⊢
  exact⟨GS hn a h.1,GS hn b h.2⟩
 | .ifc _ v,h=>ok_mono hn v h
 | .agg cs,h=>GS hn cs h
 | .tup cs,h=>GS hn cs h
 | .lit _,_=>rfl
 | .gptr _ _,_=>rfl
 | .zs,_=>rfl
 | .void,_=>rfl
 | .any,_=>rfl
theorem GS{n m:Nat}(hn:n<=m):∀vs:List V,nI n vs=true->nI m vs=true
 | [],_=>rfl
 | v::vs,h=>by
  simp only[nI,wA] at h ⊢
  exact⟨ok_mono hn v h.1,GS hn vs h.2⟩
end
theorem Blk.ok_mono{n m:Nat}(hn:n<=m){B:Blk}(h:Blk.ok n B=true):Blk.ok m B=true:=by
 cases B with
 | cells cs e=>exact GS hn cs h
 | map es clk=>
  simp only[Blk.ok,gB,wA] at h ⊢
  exact fun e he=>⟨Go.Tw.ok_mono hn _ (h e he).1,Go.Tw.ok_mono hn _ (h e he).2⟩
 | loop ts ps as0 bd st pd=>exact GS hn ts h
 | dead=>rfl
theorem Grn.n{H0 H:Heap}(h:Grn H0 H):H0.n<=H.n:=by
 induction h with
 | refl=>exact jA _
 | push _ _ ih=>rw[iA];omega
 | set _ _ _ ih=>rw[kA];omega
theorem Grn.blk{H0 H:Heap}(h:Grn H0 H):∀b,b<H.n->(b<H0.n/\H.get b=H0.get b)\/∃B,H.get b=some B/\Blk.ok H.n B=true:=by
 induction h with
 | refl=>exact fun b hb=>.inl ⟨hb,rfl⟩
 | @push H B hg hB ih=>
  intro b hb
  rw[iA] at hb
  by_cases e:b=H.n
  ·refine .inr ⟨B,by rw[yA,if_pos e],Blk.ok_mono (by rw[iA];omega) hB⟩
  ·rcases ih b (by omega) with⟨h1,h2⟩|⟨B',h1,h2⟩
   ·exact .inl ⟨h1,by rw[yA,if_neg e];exact h2⟩
   ·exact .inr ⟨B',by rw[yA,if_neg e];exact h1,Blk.ok_mono (by rw[iA];omega) h2⟩
 | @set H b' B hg hb' hB ih=>
  intro b hb
  rw[kA] at hb
  by_cases e:b=b'
  ·refine .inr ⟨B,by rw[dA,if_pos ⟨e,hb'⟩],by rw[kA];exact hB⟩
  ·rcases ih b hb with⟨h1,h2⟩|⟨B',h1,h2⟩
   ·exact .inl ⟨h1,by rw[dA,if_neg (fun x=>e x.1)];exact h2⟩
   ·exact .inr ⟨B',by rw[dA,if_neg (fun x=>e x.1)];exact h1,by rw[kA];exact h2⟩
theorem Sub.back{C:Ctx}{nt:Nat}{ro:Option Nat}{H0:Heap}{T:Tr V}{H':Heap}{lo':Nat}(H:Heap)(lo:Nat)(l:List (Nat×V))(hg:Grn H0 H)(hn:H.n<=H'.n)(he:∀b,b<H.n->H'.get b=H.get b)(hlo:H0.n<=lo')(hlo2:H0.n<=lo)(hlo3:lo<=lo')
  (hold:∀b,b<H0.n->H.get b=H0.get b) (hro:∀b,ro=some b->b<H0.n)
  (hl:∀p∈l,RN (pI H.n) (fun b=>H.n<=b) H' (PD T p.1) p.2):Sub C nt ro H0 ⟨T,H',lo'⟩ ⟨jH l,H,lo⟩:=by
 have hf:∀b j,pI H.n b=some j↔b<H.n/\j=b:=by
  intro b j
  unfold pI
  by_cases e:b<H.n
  ·rw[if_pos e];simp[e,eq_comm]
  ·rw[if_neg e];simp[e]
 have hn0:=hg.n
 refine Sub.ren (pI H.n) (pI H.n) (fun b=>H.n<=b) ?_ ?_ ?_ ?_ ?_ ?_ hn0 hro (Dg l hl) hlo3 fun b _ h=>hold b h
 ·intro b j
  rw[hf,hf]
  constructor
  ·rintro⟨h,rfl⟩;exact⟨h,rfl⟩
  ·rintro⟨h,rfl⟩;exact⟨h,rfl⟩
 ·intro b h;exact(hf b b).2 ⟨by omega,rfl⟩
 ·intro b j h hb;have:=((hf b j).1 h).2;omega
 ·intro j h1 h2;exact .inr ⟨j,(hf j j).2 ⟨h2,rfl⟩,by simp only at h2 ⊢;omega⟩
 ·intro b j B h hB
  obtain⟨h1,rfl⟩:=(hf b j).1 h
  simp only at hB ⊢
  rcases hg.blk j h1 with⟨h2,h3⟩|⟨B',h2,h3⟩
  ·exact .inl ⟨h2,.inr (by omega),h3⟩
  ·right
   rw[he j h1,h2] at hB
   injection hB with hB
   subst hB
   exact⟨B',h2,xj h3⟩
 ·intro b h
  refine⟨by omega,?_,hlo⟩
  unfold pI
  rw[if_neg (by omega)]
def Again{ι:Type}(C:Ctx)(nt:Nat)(ro:Option Nat)(H0:Heap)(S:ι->List (Nat×V))(Hs:ι->Heap)(ls:ι->Nat)(inv:ι->Prop)(m:ι->Nat)(i:ι)(T:Tr V)(H:Heap)(lo:Nat)(h:Hid (S,Hs,ls,inv,m,i)):Prop:=∃j,inv j/\m j<m i/\Sub C nt ro H0 ⟨T,H,lo⟩ ⟨jH (S j),Hs j,ls j⟩
def SX{ι:Type}(C:Ctx)(nt:Nat)(ro:Option Nat)(H0:Heap)(S:ι->List (Nat×V))(Hs:ι->Heap)(ls:ι->Nat)(inv:ι->Prop)(m:ι->Nat)(i:ι)(Q:Ex->St->Prop)(x:Ex)(st:St):Prop:=
 match x with
 | .normal=>Again C nt ro H0 S Hs ls inv m i st.T st.H st.lo .mk
 | x=>Q x st
section next
variable {ι:Type} (C:Ctx) (nt:Nat) (ro:Option Nat) (H0:Heap) (S:ι->List (Nat×V)) (Hs:ι->Heap) (ls:ι->Nat) (inv:ι->Prop) (m:ι->Nat) (i:ι) (Q:Ex->St->Prop) (T:Tr V) (H:Heap) (lo:Nat)
@[go_sem ↓] theorem TX:SX C nt ro H0 S Hs ls inv m i Q .normal ⟨T,H,lo⟩=Again C nt ro H0 S Hs ls inv m i T H lo .mk:=rfl
@[go_sem ↓] theorem Tg(st:St):SX C nt ro H0 S Hs ls inv m i Q .ret st=Q .ret st:=rfl
@[go_sem ↓] theorem s9(k:Nat)(st:St):SX C nt ro H0 S Hs ls inv m i Q (.exit k) st=Q (.exit k) st:=rfl
end next
theorem WW.loop{ι:Type}{C:Ctx}{nt:Nat}{ro:Option Nat}{H0:Heap}{b:Code}{T:Tr V}{H:Heap}{lo:Nat}{Q:Ex->St->Prop}{h:Hid (Code.loop b,Q)}(hmix:C.P.follows .mixedOrders=true)(S:ι->List (Nat×V))(Hs:ι->Heap)(ls:ι->Nat)(inv:ι->Prop)(m:ι->Nat)(i0:ι)
  (h0:inv i0) (hs:Sub C nt ro H0 ⟨T,H,lo⟩ ⟨jH (S i0),Hs i0,ls i0⟩)
  (hb:∀i,inv i->VC C nt ro H0 b (jH (S i)) (Hs i) (ls i) (SX C nt ro H0 S Hs ls inv m i Q) .mk):WW C nt ro H0 (.loop b) T H lo Q h:=by
 refine⟨W.loop (fun i=>⟨jH (S i),Hs i,ls i⟩) inv m i0 h0 hs fun i hi=>(W.of_VC hmix (hb i hi)).mono fun x st q=>?_⟩
 cases x with
 | normal=>exact q
 | ret=>exact q
 | exit k=>exact q
theorem WW.still{ι:Type}{C:Ctx}{nt:Nat}{ro:Option Nat}{H0:Heap}{b:Code}{T:Tr V}{H:Heap}{lo:Nat}{Q:Ex->St->Prop}{h:Hid (Code.loop b,Q)}(hmix:C.P.follows .mixedOrders=true)(S:ι->List (Nat×V))(inv:ι->Prop)(m:ι->Nat)(i0:ι)
  (h0:inv i0) (hs:∀p∈S i0,PD T p.1=p.2)
  (hb:∀i,inv i->VC C nt ro H0 b (jH (S i)) H lo (SX C nt ro H0 S (fun _=>H) (fun _=>lo) inv m i Q) .mk):WW C nt ro H0 (.loop b) T H lo Q h:=
 WW.loop hmix S (fun _=>H) (fun _=>lo) inv m i0 h0 (Sub.keep _ hs) hb
section again
variable {ι:Type} {C:Ctx} {nt:Nat} {ro:Option Nat} {H0:Heap} {S:ι->List (Nat×V)} {Hs:ι->Heap} {ls:ι->Nat} {inv:ι->Prop} {m:ι->Nat} {i:ι} {T:Tr V} {H:Heap} {lo:Nat}
theorem Again.keep{h:Hid (S,Hs,ls,inv,m,i)}(j:ι)(hj:inv j)(hm:m j<m i)(hT:∀p∈S j,PD T p.1=p.2)(eH:Hs j=H)(elo:ls j<=lo):Again C nt ro H0 S Hs ls inv m i T H lo h:=
 ⟨j,hj,hm,by
  rw[eH]
  exact(Sub.lower elo).trans (Sub.keep _ hT)⟩
theorem Again.back{h:Hid (S,Hs,ls,inv,m,i)}(j:ι)(hj:inv j)(hm:m j<m i)(hT:∀p∈S j,RN (pI (Hs j).n) (fun b=>(Hs j).n<=b) H (PD T p.1) p.2)(hg:Grn H0 (Hs j))(hn:(Hs j).n<=H.n)(he:∀b,b<(Hs j).n->H.get b=(Hs j).get b)(hlo:H0.n<=lo)(hlo2:H0.n<=ls j)(hlo3:ls j<=lo)(hold:∀b,b<H0.n->(Hs j).get b=H0.get b)
  (hro:∀b,ro=some b->b<H0.n):Again C nt ro H0 S Hs ls inv m i T H lo h:=
 ⟨j,hj,hm,Sub.back (Hs j) (ls j) (S j) hg hn he hlo hlo2 hlo3 hold hro hT⟩
end again
theorem RN.same{n:Nat}{Z:Nat->Prop}{H:Heap}{v u:V}(h:v=u)(hk:V.ok n u=true):RN (pI n) Z H v u:=by
 subst h
 exact .of (y7 _ hk)
theorem zSl{p:Prop}(h:p:=by focus (simp -dsimp only[go_sem,Nat.reduceLT,Nat.reduceLeDiff,Nat.reduceEqDiff,Nat.reduceAdd,Nat.reduceMul,Nat.reduceSub,reduceCtorEq,Fin.isValue,Nat.min_self,List.forall_mem_cons,List.not_mem_nil,false_implies,implies_true,forall_const]<;>(try simp (disch:=omega) only[zw,xJ,vK,AK])<;>(try simp)<;>(try omega))):p:=h
theorem zAg{ι:Type}{C:Ctx}{nt:Nat}{ro:Option Nat}{H0:Heap}{S:ι->List (Nat×V)}{Hs:ι->Heap}{ls:ι->Nat}{inv:ι->Prop}{m:ι->Nat}{i:ι}{T:Tr V}{H:Heap}{lo:Nat}{h:Hid (S,Hs,ls,inv,m,i)}(j:ι)(hj:inv j)(hm:m j<m i:=by((try dsimp only);omega))(hT:∀p∈S j,PD T p.1=p.2:=by focus (simp -dsimp only[go_sem,Nat.reduceLT,Nat.reduceLeDiff,Nat.reduceEqDiff,Nat.reduceAdd,Nat.reduceMul,Nat.reduceSub,reduceCtorEq,Fin.isValue,Nat.min_self,List.forall_mem_cons,List.not_mem_nil,false_implies,implies_true,forall_const]<;>(try simp (disch:=omega) only[zw,xJ,vK,AK])<;>(try simp)<;>(try omega)))(eH:Hs j=H:=by rfl)(elo:ls j<=lo:=by((try dsimp only);omega)):Again C nt ro H0 S Hs ls inv m i T H lo h:=Again.keep j hj hm hT eH elo
end
abbrev sL(l:List UInt8):V:=.pn (l.map PE) l.length
theorem Tj:∀l:List UInt8,QF (l.map PE)=true
 | []=>rfl
 | b::l=>by simp[QF,PE,V.bf,Tj l]
theorem zhS:∀l:List UInt8,EL (l.map PE)=some l
 | []=>rfl
 | b::l=>by simp[EL,PE,zhS l]
theorem zj4(l:List UInt8):i7 (sL l)=some l:=by
 unfold sL i7
 have e:Nat.ble l.length (l.map PE).length=true:=by simp
 simp only[e,cond_true]
 rw[uA (by simp),zhS]
theorem ziz(H:Heap)(n:Nat):∀l:List UInt8,(l.map PE).mapM (kM H (n+1))=some (l.map PE)
 | []=>rfl
 | b::l=>by
  have:=ziz H n l
  simp only[NC,aG,this]
  rfl
theorem zqd(H:Heap)(n:Nat)(l:List UInt8):kM H (n+2) (sL l)=some (sL l):=by
 unfold sL
 rw[kM,ziz]
 rfl
theorem zho(s:gO):FH s=s.toList.map PE:=rfl
theorem ziX {C : Ctx} {g : FuncId} {fn : Func} (hf : C.P.funcs[g]? = some fn) (hname : (fn.name == "runtime.NumGoroutine") = false) (hb : fn.body.isNone = true) (hn : Extern.findNext fn = none) (he : Extern.find fn = some Extern.BytealgCompare.compare)
  (x y:List UInt8) {H:Heap} {Q:OR->Prop} (hQ:Q ⟨vA (Lib.compareBytes x y),H,H.n⟩):MCall C g [sL x,sL y] H Q:=by
 refine Contract.mcall (zlK hf hname hb hn he) (as0:=[sL x,sL y]) (v:=vA (Lib.compareBytes x y)) ?_ ?_ hQ
 ·simp only[aG,List.mapM_nil,zqd];rfl
 ·simp only[xY,zj4]
theorem Fz.slice{Z:Nat->Prop}{H:Heap}{b off len cap:Nat}{opn:Option Nat}{cs us:List V}{e:TypeId}(k:Nat)(hz:Z b)(hg:H.get b=some (.cells cs e))(hl:len<=cap)(hc:(cs.drop off).take k=us)(hb:QF us=true):Fz Z H (.sl b off len cap opn) (.pn us len):=by
 refine .sl b off len cap opn cs e k us hz hg hl ?_
 rw[hc]
 exact Fzs.self hb
theorem Fzs.one{Z:Nat->Prop}{H:Heap}{v u:V}(h:Fz Z H v u):Fzs Z H [v] [u]:=.cons _ _ _ _ h .nil
theorem Fzs.two{Z:Nat->Prop}{H:Heap}{v u v' u':V}(h:Fz Z H v u)(h':Fz Z H v' u'):Fzs Z H [v,v'] [u,u']:=.cons _ _ _ _ h (.one h')
theorem Z7{C:Ctx}{g:FuncId}{xs:List V}{H:Heap}{v:V}(as':List V)(ha:Fzs (fun _=>True) H xs as')(hf:V.fl v=true)(k:MCall C g as' H (·=⟨v,H,H.n⟩)):∀args H' r',L9 xs H ⟨v,H,H.n⟩ args H'=some r'->MCall C g args H' (·=r'):=wN (MCall.lend_flat ha hf k rfl)
theorem zZ{a b:List UInt8}:(a.map PE=b.map PE/\a.length=b.length)↔a=b:=⟨fun h=>zkb h.1,fun h=>by rw[h];exact⟨rfl,rfl⟩⟩
theorem zH{a b:List GNode}:(row za a=row za b/\a.length=b.length)↔a=b:=⟨fun h=>N3 zg (fun _ _=>zfM) h.2 h.1,fun h=>by rw[h];exact⟨rfl,rfl⟩⟩
theorem zM{a b:List GRev}:(row ze a=row ze b/\a.length=b.length)↔a=b:=⟨fun h=>N3 zi (fun _ _=>Ej) h.2 h.1,fun h=>by rw[h];exact⟨rfl,rfl⟩⟩
theorem zY{a b:List GV}:(row zR a=row zR b/\a.length=b.length)↔a=b:=⟨fun h=>N3 zF dk h.2 h.1,fun h=>by rw[h];exact⟨rfl,rfl⟩⟩
theorem zL{a b:List ByteArray}:(row RH a=row RH b/\a.length=b.length)↔a=b:=⟨fun h=>N3 zC (fun _ _=>zjC) h.2 h.1,fun h=>by rw[h];exact⟨rfl,rfl⟩⟩
def zW(n:Int):List V:=[vA n]
theorem zgW(n:Int):(zW n).length=1:=rfl
theorem zN{a b:List Int}:(row zW a=row zW b/\a.length=b.length)↔a=b:=⟨fun h=>N3 zgW (fun x y h=>by simpa[zW] using h) h.2 h.1,fun h=>by rw[h];exact⟨rfl,rfl⟩⟩
@[go_sem] theorem S4(x:Int)(r:List V):(zW x++r)[0]?=some (vA x):=rfl
@[go_sem] theorem T4(x:ByteArray)(r:List V):(RH x++r)[0]?=some (gE x):=rfl
end Go.Tw
