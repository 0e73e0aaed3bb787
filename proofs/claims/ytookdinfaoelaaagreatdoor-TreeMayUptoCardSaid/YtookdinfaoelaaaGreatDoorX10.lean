/- Own work for this claim, part 11 of 17. No condition of its own. -/
import Derived.Test.YtookdinfaoelaaaGreatDoorX09
import Derived.Lib.Overlaps
import Derived.Test.YtookdinfaoelaaaGreatDoorX07
import Derived.Test.YtookdinfaoelaaaGreatDoorX08
import Derived.Lib.ItoaLen
import Derived.Test.YtookdinfaoelaaaGreatDoorX06
set_option linter.all false
set_option maxRecDepth 100000
set_option maxHeartbeats 4000000
open Bool renaming and_eq_true→wA,and_false→QB,false_and→kD,or_self→bK,true_and→MC
open ByteArray renaming empty→JI,size→DG
open Go.Proofs.Tryz renaming f38→LG,func38→fF,func78→eJ,func79→fJ,prog→fA,underlying22→FA,underlying33→OB,underlying34→iC
open Go.Tw.BR renaming dec→aB,nspl→yF
open Go.Tw.Fz renaming slice→nC
open Go.Tw.GD renaming dec→AB
open Go.Tw.Heap renaming get_push→yA,get_set→dA,n_push→iA,n_set→kA
open Go.Tw.MCall renaming of→QA,ofW→mB,pn→oG
open Go.Tw.MV renaming fn→oB,tab→aD
open Go.Tw.OO renaming intro→rB
open Go.Tw.Res renaming bf→AA,fz→HC,same→nB
open Go.Tw.Sub renaming keep→RB,lower→MB
open Go.Tw.Tab.OK renaming cons→CA,nil→xA
open Go.Tw.V renaming one→HB
open Go.Tw.WW renaming keepl→WB,loop→fE,sq→PA,still→sC,vc→LB
open Go.World renaming shape?→XB
open List renaming all_cons→CD,append→vF,append_assoc→XA,append_nil→MA,countP_le_length→OE,drop_left'→IF,getD_eq_getElem?_getD→DA,getElem?_eq_getElem→sA,getElem?_eq_some_iff→rA,length→PB,length_append→qA,length_cons→HA,length_drop→ZB,length_eq_zero_iff→WA,length_nil→SA,length_take→JB,mem_cons→IB,mem_of_getElem?→IA,replicate→oA,take_add_one→yB,take_append_drop→eC,take_left'→mC,take_length→FB,take_of_length_le→uA
open Nat renaming add_assoc→WD,le_refl→jA,le_trans→cB,lt_or_ge→RA,min_self→gA,not_lt_zero→OD,reduceAdd→cA,reduceEqDiff→aA,reduceLT→bA,zero_le→KB
namespace Go.Proofs.YtookdinfaoelaaaGreatDoor
section
open Go Go.Tw
open Classical
@[go_sem] theorem GD_undef_G14(w:Bool)(A B:Prop)(h:Hid (A,B)):GD EH w A B h=B:=rfl
def v8(l:List GRev)(i:Nat):Prop:=∃r,l[i]?=some r/\BK r=true/\∀p,0<i->l[i-1]?=some p->p.gen=r.gen+1
noncomputable def XL(l:List GRev):Bool:=decide (∀i,i<l.length->v8 l i)&&decide (1<=l.length)&&decide (l.length<=16)
theorem fU{r:GRev}(h:BK r=true):1<=r.gen/\r.gen<=4611686018427387903:=by simpa[BK] using h
theorem znQ{l:List GRev}{i:Nat}(hi:i<l.length)(h:¬v8 l i):XL l=false:=by
 have:¬∀i,i<l.length->v8 l i:=fun h'=>h (h' i hi)
 simp[XL,this]
noncomputable def Y8:List V->Heap->Option OR:=by
 classical
 exact GK (fun p:(List GRev)=>match p with|l=>[NB ze l]) fun p H=>match p with|l=>if l.length<=9223372036854775807 then some ⟨.lit (.bool (XL l)),H,H.n⟩ else none
theorem m_49(l:List GRev)(hp:l.length<=9223372036854775807)(H:Heap)(Q:OR->Prop)(hQ:Q ⟨.lit (.bool (XL l)),H,H.n⟩):MCall Cx 49 [NB ze l] H Q:=by
 refine QA zm (fn:=Tryz.f49) Tryz.func49 rfl (by decide) (k:=40) rfl (rs:=[.tmp 2]) rfl ?_
 simp -dsimp only[go_sem,bA,aA,reduceCtorEq,gA]
 have no:XL l=false->Q ⟨.lit (.bool false),H,H.n⟩:=fun h=>by rwa [h] at hQ
 refine sC zm (fun i:Nat=>[(0,NB ze l),(5,NB ze l),(6,vA l.length),(7,vA i)]) (fun i=>i<=l.length/\∀j,j<i->v8 l j) (fun i=>l.length-i) 0 ⟨by omega,fun j hj=>by omega⟩ zSl ?_
 rintro i ⟨hi,hj⟩
 simp -dsimp only[go_sem,bA,aA,reduceCtorEq,zf,zh]
 refine aB (fun h=>?_) (fun h=>?_)
 ·obtain⟨r,hr⟩:=zu h
  simp -dsimp only[go_sem,bA,aA,reduceCtorEq,gA,h,z7 zi hr]
  refine DR.of _ ((CA (JQ) xA)) (by kernel_rfl) ?_
  simp -dsimp only[go_sem,bA,aA,reduceCtorEq]
  cases hm:BK r with
  | false=>
   simp -dsimp only[go_sem,bA,aA,reduceCtorEq,gA]
   refine AA (by omega) rfl (no (znQ h ?_))
   rintro⟨r',h1,h2,_⟩
   rw[hr] at h1
   injection h1 with h1
   rw[<-h1,hm] at h2
   cases h2
  | true=>
   simp -dsimp only[go_sem,bA,aA,reduceCtorEq]
   have hg:=fU hm
   refine AB (fun h2=>?_) (fun h2=>?_)<;>simp -dsimp only[go_sem,bA,aA,reduceCtorEq,gA,h2]
   ·have h0:0<i:=by omega
    obtain⟨p,hp'⟩:=zu (l:=l) (i:=i-1) (by omega)
    have e1:IntKind.i64.wrap ((i:Int)-1)=((i-1:Nat):Int):=by rw[zw (by omega) (by omega)];omega
    simp -dsimp only[go_sem,bA,aA,reduceCtorEq,e1,show i-1<l.length by omega,z7 zi hp',h2]
    rw[xJ (by omega) (by omega)]
    refine aB (fun h3=>?_) (fun h3=>?_)<;>simp -dsimp only[go_sem,bA,aA,reduceCtorEq,h2,h3]
    ·refine AA (by omega) rfl (no (znQ h ?_))
     rintro⟨r',k1,k2,k3⟩
     rw[hr] at k1
     injection k1 with k1
     subst k1
     exact h3 (k3 p h0 hp').symm
    ·refine zAb (i+1) ?_
     refine⟨h,fun j hj'=>?_⟩
     rcases RA j i with h'|h'
     ·exact hj j h'
     ·have:j=i:=by omega
      subst this
      refine⟨r,hr,hm,fun p' _ k=>?_⟩
      rw[hp'] at k
      injection k with k
      subst k
      have:r.gen+1=p.gen:=by simpa using h3
      exact this.symm
   ·refine zAb (i+1) ?_
    refine⟨h,fun j hj'=>?_⟩
    rcases RA j i with h'|h'
    ·exact hj j h'
    ·have:j=i:=by omega
     subst this
     exact⟨r,hr,hm,fun p' k=>by omega⟩
 ·simp -dsimp only[go_sem,bA,aA,reduceCtorEq,h]
  have ha:∀i,i<l.length->v8 l i:=fun j hj'=>hj j (by omega)
  have e:XL l=(decide (1<=l.length)&&decide (l.length<=16)):=by
   rw[XL,decide_eq_true ha,MC]
  rw[e] at hQ
  refine AB (fun h2=>?_) (fun h2=>?_)<;>simp -dsimp only[go_sem,bA,aA,reduceCtorEq,gA,h2]
  ·refine AA (by omega) rfl ?_
   have e2:decide ((l.length:Int)<=16)=decide (l.length<=16):=by rw[decide_eq_decide];omega
   rw[e2]
   rw[decide_eq_true (p:=1<=l.length) (by omega),MC] at hQ
   exact hQ
  ·refine AA (by omega) rfl ?_
   rw[decide_eq_false (by omega)] at hQ
   exact hQ
theorem Dd:CI Cx 49 Y8:=kL fun l H r hr=>by
 simp only at hr
 split at hr
 ·rename_i hp
  injection hr with hr
  subst hr
  exact m_49 l hp H _ rfl
 ·cases hr
theorem e_49(l:List GRev)(hp:l.length<=9223372036854775807)(H:Heap):Y8 [NB ze l] H=some ⟨.lit (.bool (XL l)),H,H.n⟩:=by
 refine(lL (by simp+contextual [zM]) l H).trans ?_
 exact if_pos hp
end
section
open Go Go.Tw
open Classical
theorem zpl{α:Type}{E:α->List V}{z n k:Nat}{l:List α}{X:Heap}{e:TypeId}(h:l≠[]->n<=k/\X.get k=some (.cells (row E l) e)):RowAt n X (XH z l k) l.length (row E l):=by
 unfold XH
 split
 ·rename_i e;subst e;exact .inl ⟨rfl,.inr rfl⟩
 ·rename_i e
  exact .inr ⟨k,l.length,some z,[],_,rfl,jA _,(h e).1,by rw[MA];exact(h e).2⟩
theorem zo4{α:Type}(z:Nat)(l:List α)(k:Nat):zG (XH z l k)=some [XH z l k]:=by unfold XH;split<;>rfl
theorem zmd{α:Type}(z:Nat)(l:List α)(k:Nat):HB (XH z l k)=true:=by unfold XH;split<;>rfl
theorem A0{l:List GV}{i:Nat}{x:GV}(hx:l[i]?=some x):QE fA 36 (row zR l) (i*5)=some (.agg (zR x)):=by
 have hi:=(rA.1 hx).1
 rw[TM fA 36 Jg jV,if_pos (by rw[zr zF];omega),z7 zF hx,List.take_append_of_le_length (by rw[zF];exact jA _),uA (by rw[zF];exact jA _)]
theorem uR{α:Type}{E:α->List V}{z:Nat}(hz:∀x,(E x).length=z){l:List α}{i:Nat}{x:α}(hx:l[i]?=some x):zD (row E l) (i*z) (E x)=some (row E l):=by
 rw[W6 hz x (rA.1 hx).1,x7 hx]
theorem Res.at{C:Ctx}{H0:Heap}{v:V}{H:Heap}{lo lo2:Nat}{Q:OR->Prop}{h h2:Hid Q}(hl:lo2<=lo)(k:Res C H0 v H lo2 Q h2):Res C H0 v H lo Q h:=by
 obtain⟨u,H2,lo3,h1,h2⟩:=k
 exact⟨u,H2,lo3,(MB hl).trans h1,h2⟩
theorem d5(l:List GNode)(hl:l.length<=1048576)(H:Heap):∃X k,Gw H X/\(l≠[]->H.n<=k/\X.get k=some (.cells (row za l) 38))/\MCall Cx 38 [NB za l] H (·=⟨XH 41 l k,X,H.n⟩):=by
 have e1:∀cs n,jE fA .eql 22 (.ps cs n) (.lit (.slice none 0 0))=some (.lit (.bool false)):=W3 FA
 have e2:jE fA .eql 22 .void (.lit (.slice none 0 0))=some (.lit (.bool false)):=V2 FA
 have e3:jE fA .eql 22 (.lit (.slice none 0 0)) (.lit (.slice none 0 0))=some (.lit (.bool true)):=P3 FA
 have e4:∀H,zx fA H 22 0 []=some ⟨.sl H.n 0 0 0 none,H.push (.cells [] 38),H.n⟩:=fun H=>KS FA NK FN
 by_cases hne:l=[]
 ·subst hne
  refine⟨H,0,.refl,fun h=>absurd rfl h,oG (fun h0 _=>?_) (fun h0 _=>?_) ?_⟩
  ·refine QA zm (fn:=LG) fF rfl (by decide) (k:=8) rfl (rs:=[.tmp 2]) rfl ?_
   simp -dsimp only[go_sem,bA,aA,reduceCtorEq]
   simp -dsimp only[go_sem,bA,aA,reduceCtorEq,gA,e3]
   exact HC (.pn [] 0) (by omega) .nil rfl
  ·refine QA zm (fn:=LG) fF rfl (by decide) (k:=8) rfl (rs:=[.tmp 2]) rfl ?_
   simp -dsimp only[go_sem,bA,aA,reduceCtorEq]
   simp -dsimp only[go_sem,bA,aA,reduceCtorEq,e2,e4]
   refine rB (gM (n:=0) (new:=[]) FA FA (by intro q h;cases h) QO FN XO rfl rfl rfl rfl (by omega)) ?_
   simp -dsimp only[go_sem,bA,aA,reduceCtorEq,gA]
   exact HC (.pn [] 0) (by omega) (nC 0 (jA _) (by simp -dsimp only[go_sem];rfl) (jA _) rfl rfl) rfl
  ·refine QA zm (fn:=LG) fF rfl (by decide) (k:=8) rfl (rs:=[.tmp 2]) rfl ?_
   simp -dsimp only[go_sem,bA,aA,reduceCtorEq]
   simp -dsimp only[go_sem,bA,aA,reduceCtorEq,e1,e4]
   refine rB (gM (n:=0) (new:=[]) FA FA (by intro q h;cases h) QO FN XO rfl rfl rfl rfl (by omega)) ?_
   simp -dsimp only[go_sem,bA,aA,reduceCtorEq,gA]
   exact HC (.pn [] 0) (by omega) (nC 0 (jA _) (by simp -dsimp only[go_sem];rfl) (jA _) rfl rfl) rfl
 ·have h0:¬l.length=0:=fun h=>hne (WA.1 h)
  refine⟨(H.push (.cells [] 38)).push (.cells (row za l) 38),H.n+1,Gw.push.trans .push,fun _=>⟨by omega,by simp -dsimp only[go_sem,reduceCtorEq]⟩,oG (fun h _=>absurd h h0) (fun h _=>absurd h h0) ?_⟩
  refine QA zm (fn:=LG) fF rfl (by decide) (k:=8) rfl (rs:=[.tmp 2]) rfl ?_
  simp -dsimp only[go_sem,bA,aA,reduceCtorEq]
  simp -dsimp only[go_sem,bA,aA,reduceCtorEq,e1,e4]
  refine rB (gM (n:=l.length) (new:=row za l) FA FA (by intro q h;cases h) QO FN XO rfl ?_ (mL VN _) (zr zg l) hl) ?_
  ·show(if _ then _ else _)=_
   rw[if_pos ⟨jA _,by rw[zr zg];exact jA _⟩,<-zr zg l,FB]
  simp -dsimp only[go_sem,bA,aA,cA,reduceCtorEq,gA,h0]
  refine Res.at (lo2:=H.n) (by omega) (nB (h:=.mk) ?_)
  rw[XH,if_neg hne]
theorem MP(l:List GV)(hl:l.length<=1048576)(H:Heap):∃X k,Gw H X/\(l≠[]->H.n<=k/\X.get k=some (.cells (row zR l) 36))/\MCall Cx 79 [NB zR l] H (·=⟨XH 5 l k,X,H.n⟩):=by
 have e1:∀cs n,jE fA .eql 33 (.ps cs n) (.lit (.slice none 0 0))=some (.lit (.bool false)):=W3 OB
 have e2:jE fA .eql 33 .void (.lit (.slice none 0 0))=some (.lit (.bool false)):=V2 OB
 have e3:jE fA .eql 33 (.lit (.slice none 0 0)) (.lit (.slice none 0 0))=some (.lit (.bool true)):=P3 OB
 have e4:∀H,zx fA H 33 0 []=some ⟨.sl H.n 0 0 0 none,H.push (.cells [] 36),H.n⟩:=fun H=>KS OB jV A8
 by_cases hne:l=[]
 ·subst hne
  refine⟨H,0,.refl,fun h=>absurd rfl h,oG (fun h0 _=>?_) (fun h0 _=>?_) ?_⟩
  ·refine QA zm (fn:=Tryz.f79) fJ rfl (by decide) (k:=8) rfl (rs:=[.tmp 2]) rfl ?_
   simp -dsimp only[go_sem,bA,aA,reduceCtorEq]
   simp -dsimp only[go_sem,bA,aA,reduceCtorEq,gA,e3]
   exact HC (.pn [] 0) (by omega) .nil rfl
  ·refine QA zm (fn:=Tryz.f79) fJ rfl (by decide) (k:=8) rfl (rs:=[.tmp 2]) rfl ?_
   simp -dsimp only[go_sem,bA,aA,reduceCtorEq]
   simp -dsimp only[go_sem,bA,aA,reduceCtorEq,e2,e4]
   refine rB (gM (n:=0) (new:=[]) OB OB (by intro q h;cases h) dl A8 LN rfl rfl rfl rfl (by omega)) ?_
   simp -dsimp only[go_sem,bA,aA,reduceCtorEq,gA]
   exact HC (.pn [] 0) (by omega) (nC 0 (jA _) (by simp -dsimp only[go_sem];rfl) (jA _) rfl rfl) rfl
  ·refine QA zm (fn:=Tryz.f79) fJ rfl (by decide) (k:=8) rfl (rs:=[.tmp 2]) rfl ?_
   simp -dsimp only[go_sem,bA,aA,reduceCtorEq]
   simp -dsimp only[go_sem,bA,aA,reduceCtorEq,e1,e4]
   refine rB (gM (n:=0) (new:=[]) OB OB (by intro q h;cases h) dl A8 LN rfl rfl rfl rfl (by omega)) ?_
   simp -dsimp only[go_sem,bA,aA,reduceCtorEq,gA]
   exact HC (.pn [] 0) (by omega) (nC 0 (jA _) (by simp -dsimp only[go_sem];rfl) (jA _) rfl rfl) rfl
 ·have h0:¬l.length=0:=fun h=>hne (WA.1 h)
  refine⟨(H.push (.cells [] 36)).push (.cells (row zR l) 36),H.n+1,Gw.push.trans .push,fun _=>⟨by omega,by simp -dsimp only[go_sem,reduceCtorEq]⟩,oG (fun h _=>absurd h h0) (fun h _=>absurd h h0) ?_⟩
  refine QA zm (fn:=Tryz.f79) fJ rfl (by decide) (k:=8) rfl (rs:=[.tmp 2]) rfl ?_
  simp -dsimp only[go_sem,bA,aA,reduceCtorEq]
  simp -dsimp only[go_sem,bA,aA,reduceCtorEq,e1,e4]
  refine rB (gM (n:=l.length) (new:=row zR l) OB OB (by intro q h;cases h) dl A8 LN rfl ?_ (mL B7 _) (zr zF l) hl) ?_
  ·show(if _ then _ else _)=_
   rw[if_pos ⟨jA _,by rw[zr zF];exact jA _⟩,<-zr zF l,FB]
  simp -dsimp only[go_sem,bA,aA,cA,reduceCtorEq,gA,h0]
  refine Res.at (lo2:=H.n) (by omega) (nB (h:=.mk) ?_)
  rw[XH,if_neg hne]
theorem LP(l:List ByteArray)(hl:l.length<=1048576)(H:Heap):∃X k,Gw H X/\(l≠[]->H.n<=k/\X.get k=some (.cells (row RH l) 9))/\MCall Cx 78 [NB RH l] H (·=⟨XH 1 l k,X,H.n⟩):=by
 have e1:∀cs n,jE fA .eql 34 (.ps cs n) (.lit (.slice none 0 0))=some (.lit (.bool false)):=W3 iC
 have e2:jE fA .eql 34 .void (.lit (.slice none 0 0))=some (.lit (.bool false)):=V2 iC
 have e3:jE fA .eql 34 (.lit (.slice none 0 0)) (.lit (.slice none 0 0))=some (.lit (.bool true)):=P3 iC
 have e4:∀H,zx fA H 34 0 []=some ⟨.sl H.n 0 0 0 none,H.push (.cells [] 9),H.n⟩:=fun H=>KS iC zpi BO
 by_cases hne:l=[]
 ·subst hne
  refine⟨H,0,.refl,fun h=>absurd rfl h,oG (fun h0 _=>?_) (fun h0 _=>?_) ?_⟩
  ·refine QA zm (fn:=Tryz.f78) eJ rfl (by decide) (k:=8) rfl (rs:=[.tmp 2]) rfl ?_
   simp -dsimp only[go_sem,bA,aA,reduceCtorEq]
   simp -dsimp only[go_sem,bA,aA,reduceCtorEq,gA,e3]
   exact HC (.pn [] 0) (by omega) .nil rfl
  ·refine QA zm (fn:=Tryz.f78) eJ rfl (by decide) (k:=8) rfl (rs:=[.tmp 2]) rfl ?_
   simp -dsimp only[go_sem,bA,aA,reduceCtorEq]
   simp -dsimp only[go_sem,bA,aA,reduceCtorEq,e2,e4]
   refine rB (gM (n:=0) (new:=[]) iC iC (by intro q h;cases h) NN BO vT rfl rfl rfl rfl (by omega)) ?_
   simp -dsimp only[go_sem,bA,aA,reduceCtorEq,gA]
   exact HC (.pn [] 0) (by omega) (nC 0 (jA _) (by simp -dsimp only[go_sem];rfl) (jA _) rfl rfl) rfl
  ·refine QA zm (fn:=Tryz.f78) eJ rfl (by decide) (k:=8) rfl (rs:=[.tmp 2]) rfl ?_
   simp -dsimp only[go_sem,bA,aA,reduceCtorEq]
   simp -dsimp only[go_sem,bA,aA,reduceCtorEq,e1,e4]
   refine rB (gM (n:=0) (new:=[]) iC iC (by intro q h;cases h) NN BO vT rfl rfl rfl rfl (by omega)) ?_
   simp -dsimp only[go_sem,bA,aA,reduceCtorEq,gA]
   exact HC (.pn [] 0) (by omega) (nC 0 (jA _) (by simp -dsimp only[go_sem];rfl) (jA _) rfl rfl) rfl
 ·have h0:¬l.length=0:=fun h=>hne (WA.1 h)
  refine⟨(H.push (.cells [] 9)).push (.cells (row RH l) 9),H.n+1,Gw.push.trans .push,fun _=>⟨by omega,by simp -dsimp only[go_sem,reduceCtorEq]⟩,oG (fun h _=>absurd h h0) (fun h _=>absurd h h0) ?_⟩
  refine QA zm (fn:=Tryz.f78) eJ rfl (by decide) (k:=8) rfl (rs:=[.tmp 2]) rfl ?_
  simp -dsimp only[go_sem,bA,aA,reduceCtorEq]
  simp -dsimp only[go_sem,bA,aA,reduceCtorEq,e1,e4]
  refine rB (gM (n:=l.length) (new:=row RH l) iC iC (by intro q h;cases h) NN BO vT rfl ?_ (mL zgM _) (zr zC l) hl) ?_
  ·show(if _ then _ else _)=_
   rw[if_pos ⟨jA _,by rw[zr zC];exact jA _⟩,<-zr zC l,FB]
  simp -dsimp only[go_sem,bA,aA,cA,reduceCtorEq,gA,h0]
  refine Res.at (lo2:=H.n) (by omega) (nB (h:=.mk) ?_)
  rw[XH,if_neg hne]
def EO(U:Heap)(k:Nat)(B:Blk):Nat->Heap
 | 0=>U
 | i+1=>(EO U k B i).set k B
theorem zpj(U:Heap)(k:Nat)(B:Blk):∀i,(EO U k B i).n=U.n
 | 0=>rfl
 | i+1=>by rw[EO,kA,zpj U k B i]
theorem zm0{U:Heap}{k:Nat}{B:Blk}(h:U.get k=some B):∀i j,(EO U k B i).get j=U.get j
 | 0,j=>rfl
 | i+1,j=>by
  rw[EO,dA]
  split
  ·rename_i e;rw[e.1,h]
  ·exact zm0 h i j
theorem zna(v:GV)(hw:v.wf)(ht:CK v)(hrec:∀x∈v.list,∀H,MCall Cx 52 [.agg (zR x)] H (·=⟨.agg (zR x),H,H.n⟩))(H:Heap):
  ∃X lv kv,Gw H X/\RowAt H.n X lv v.list.length (row zR v.list)/\RowAt H.n X kv v.keys.length (row RH v.keys)/\HB lv=true/\HB kv=true/\zG lv=some [lv]/\zG kv=some [kv]/\∀Q,Res Cx H (.agg (cG v lv kv)) X H.n Q .mk->MCall Cx 52 [.agg (zR v)] H Q:=by
 have hlk:=(eg ht).2
 have hll:=(eg ht).1
 obtain⟨Y,kk,hY,hkk,cK⟩:=LP v.keys (by omega) ((H.push (.cells (zR v) 36)).push (.cells zV 36))
 have yn:=hY.n
 rw[iA,iA] at yn hkk
 have y0:Y.get H.n=some (.cells (zR v) 36):=by rw[hY.old _ (by rw[iA,iA];omega)];simp -dsimp only[go_sem,reduceCtorEq]
 have y1:Y.get (H.n+1)=some (.cells zV 36):=by rw[hY.old _ (by rw[iA,iA];omega)];simp -dsimp only[go_sem,reduceCtorEq]
 obtain⟨kv,hkv⟩:∃kv,XH 1 v.keys kk=kv:=⟨_,rfl⟩
 have vk:zG kv=some [kv]:=by rw[<-hkv];exact zo4 _ _ _
 have ok1:HB kv=true:=by rw[<-hkv];exact zmd _ _ _
 have rk:RowAt (H.n+2) Y kv v.keys.length (row RH v.keys):=by rw[<-hkv];exact zpl hkk
 rw[hkv] at cK
 have sp4:zD (zR v) 4 [kv]=some (cG v (NB zR v.list) kv):=by
  cases v
  rw[zR,Qj]
  rfl
 have tL:[kv].all HB=true:=by simp[ok1]
 have e1:[kv].length=1:=rfl
 have hlt:H.n<Y.n:=by omega
 obtain⟨Z,hZ⟩:∃Z,Y.set H.n (.cells (cG v (NB zR v.list) kv) 36)=Z:=⟨_,rfl⟩
 have zn:Z.n=Y.n:=by rw[<-hZ,kA]
 have zo:∀j,j≠H.n->Z.get j=Y.get j:=fun j hj=>by rw[<-hZ,dA,if_neg (fun h=>hj h.1)]
 have z0:Z.get H.n=some (.cells (cG v (NB zR v.list) kv) 36):=by rw[<-hZ,dA,if_pos ⟨rfl,hlt⟩]
 obtain⟨W,kl,hW,hkl,cL⟩:=MP v.list (by omega) Z
 have wn:=hW.n
 have w0:W.get H.n=some (.cells (cG v (NB zR v.list) kv) 36):=by rw[hW.get z0]
 have w1:W.get (H.n+1)=some (.cells zV 36):=by rw[hW.old _ (by omega),zo _ (by omega),y1]
 obtain⟨lv,hlv⟩:∃lv,XH 5 v.list kl=lv:=⟨_,rfl⟩
 have vl:zG lv=some [lv]:=by rw[<-hlv];exact zo4 _ _ _
 have ol1:HB lv=true:=by rw[<-hlv];exact zmd _ _ _
 have onel:[lv].all HB=true:=by simp[ol1]
 have el:[lv].length=1:=rfl
 have hltw:H.n<W.n:=by omega
 have sp3:∀x y,zD (cG v x kv) 3 [y]=some (cG v y kv):=fun x y=>rfl
 rw[hlv] at cL
 obtain⟨U,hU⟩:∃U,W.set H.n (.cells (cG v lv kv) 36)=U:=⟨_,rfl⟩
 have un:U.n=W.n:=by rw[<-hU,kA]
 have uo:∀j,j≠H.n->U.get j=W.get j:=fun j hj=>by rw[<-hU,dA,if_neg (fun h=>hj h.1)]
 have u0:U.get H.n=some (.cells (cG v lv kv) 36):=by rw[<-hU,dA,if_pos ⟨rfl,hltw⟩]
 have klb:v.list≠[]->H.n+2<=kl:=fun hne=>by have:=(hkl hne).1;omega
 have sN:∀i j,i=0\/v.list≠[]->(EO U kl (.cells (row zR v.list) 36) i).get j=U.get j:=fun i j h=>by
  by_cases hne:v.list=[]
  ·have:i=0:=h.resolve_right (fun k=>k hne)
   subst this;rfl
  ·exact zm0 (by rw[uo _ (by have:=klb hne;omega)];exact(hkl hne).2) i j
 have hend:v.list.length=0\/v.list≠[]:=by
  by_cases hne:v.list=[]
  ·exact .inl (by rw[hne];rfl)
  ·exact .inr hne
 have keep:∀j,H.n+2<=j->((EO U kl (.cells (row zR v.list) 36) v.list.length).set (H.n+1) (.cells (cG v lv kv) 36)).get j=W.get j:=fun j hj=>by
  rw[dA,if_neg (fun h=>by have:=h.1;omega),sN _ _ hend,uo _ (by omega)]
 refine⟨(EO U kl (.cells (row zR v.list) 36) v.list.length).set (H.n+1) (.cells (cG v lv kv) 36),lv,kv,⟨by rw[kA,zpj];omega,fun j hj=>?_⟩,(?_:RowAt (H.n+2) _ _ _ _).lower (by omega),(rk.of fun j hj hj2=>?_).lower (by omega),ol1,ok1,vl,vk,fun Q hQ=>?_⟩
 ·rw[dA,if_neg (fun h=>by have:=h.1;omega),sN _ _ hend,uo _ (by omega),hW.old _ (by omega),zo _ (by omega),hY.old _ (by rw[iA,iA];omega),zj _ (by rw[iA];omega),zj _ hj]
 ·rw[<-hlv]
  exact(zpl (fun hne=>⟨by have:=(hkl hne).1;omega,(hkl hne).2⟩)).of fun j hj _=>(by rw[hlv];exact keep j hj)
 ·rw[keep j hj,hW.old _ (by omega),zo _ (by omega)]
 refine mB (fn:=Tryz.f52) Tryz.func52 rfl (by decide) (k:=30) rfl (rs:=[.cell 2 36]) rfl ?_
 refine PA zm ?_
 simp -dsimp only[go_sem,bA,gA]
 refine PA zm ?_
 simp -dsimp only[go_sem,bA,aA,reduceCtorEq]
 refine oB ?_
 simp -dsimp only[go_sem,bA,aA,reduceCtorEq]
 refine MCall.mono cK ?_
 rintro _ rfl
 simp -dsimp only[go_sem,cA,gA,y0,sp4,vk,tL,e1,hZ]
 refine WB H.n [(1,.ptr H.n 0),(2,.ptr (H.n+1) 0)] (by omega) zSl ?_
 refine PA zm ?_
 simp -dsimp only[go_sem,bA,aA,zf,zh,z0]
 refine oB ?_
 simp -dsimp only[go_sem,bA,aA]
 refine MCall.mono cL ?_
 rintro _ rfl
 simp -dsimp only[go_sem,w0,sp3,vl,onel,el,hU]
 refine WB H.n [(1,.ptr H.n 0),(2,.ptr (H.n+1) 0)] (by omega) zSl ?_
 refine LB zm ?_
 have lenl:qH fA U 33 lv=some (vA v.list.length):=by
  rw[<-hlv]
  unfold XH
  split
  ·rename_i e;rw[e];exact dS OB _ _
  ·exact sV OB _ _ _ _ _
 simp -dsimp only[go_sem,bA,aA,zf,zh,u0,lenl]
 refine fE zm (ι:=Nat) (fun i=>[(1,.ptr H.n 0),(2,.ptr (H.n+1) 0),(14,vA v.list.length),(15,vA i)]) (fun i=>EO U kl (.cells (row zR v.list) 36) i) (fun _=>H.n)
  (fun i=>i<=v.list.length) (fun i=>v.list.length-i) 0 (by omega) ?_ ?_
 ·refine(MB (lo2:=H.n) (by omega)).trans (RB _ zSl)
 intro i hi
 have hi0:i=0\/v.list≠[]:=by
  by_cases hne:v.list=[]
  ·exact .inl (by rw[hne] at hi;simpa using hi)
  ·exact .inr hne
 have hX0:(EO U kl (.cells (row zR v.list) 36) i).get H.n=some (.cells (cG v lv kv) 36):=by rw[sN _ _ hi0,u0]
 have hX1:(EO U kl (.cells (row zR v.list) 36) i).get (H.n+1)=some (.cells zV 36):=by rw[sN _ _ hi0,uo _ (by omega),w1]
 have hXn:(EO U kl (.cells (row zR v.list) 36) i).n=U.n:=zpj _ _ _ _
 simp -dsimp only[go_sem,bA,aA,zf,zh]
 refine aB (fun h=>?_) (fun h=>?_)<;>simp -dsimp only[go_sem,bA,aA,h]
 ·obtain⟨x,hx⟩:=zu h
  have hne:v.list≠[]:=fun e=>by rw[e] at h;exact absurd h (OD _)
  have hkl':=klb hne
  have elv:lv=.sl kl 0 v.list.length v.list.length (some 5):=by rw[<-hlv,XH,if_neg hne]
  subst elv
  have hXk:(EO U kl (.cells (row zR v.list) 36) i).get kl=some (.cells (row zR v.list) 36):=by rw[sN _ _ hi0,uo _ (by omega)];exact(hkl hne).2
  have hltk:kl<U.n:=by have:=zq hXk;omega
  refine DR.wr _ ((CA (uO (hrec x (IA hx))) xA)) [(1,4),(1,7),(1,8)] (by kernel_rfl) (by kernel_rfl) ?_
  simp -dsimp only[go_sem,bA,aA,h,hX0,hXk,A0 hx,uR zF hx,hXn]
  refine zAg (i+1) ?_
  exact h
 ·have hie:i=v.list.length:=by omega
  subst hie
  have whole:QE fA 36 (cG v lv kv) 0=some (.agg (cG v lv kv)):=rO Jg jV rfl
  have hl1:H.n+1<U.n:=by omega
  have vcb:zG (.agg (cG v lv kv))=some (cG v lv kv):=rfl
  have spz:zD zV 0 (cG v lv kv)=some (cG v lv kv):=rfl
  have onb:(cG v lv kv).all HB=true:=by
   show(HB _&&(HB _&&(HB _&&(HB _&&(HB _&&true)))))=true
   rw[ol1,ok1]
   rfl
  have lnb:(cG v lv kv).length=5:=rfl
  simp -dsimp only[go_sem,aA,hX0,hX1,hl1,whole,vcb,onb,lnb,spz,hXn]
  exact Res.at (by omega) hQ
theorem Pk{α:Type}{E:α->List V}(hb:∀x,QF (E x)=true){Z:Nat->Prop}{n:Nat}{X:Heap}{lv:V}{l:List α}(hZ:∀b,n<=b->Z b)(h:RowAt n X lv l.length (row E l)):Fz Z X lv (NB E l):=
 h.fz hZ (Fzs.self (UH hb _)) fun e=>by rw[WA.1 e];rfl
theorem cU(v:GV)(hw:v.wf)(ht:CK v)(H:Heap)(Q:OR->Prop)(hQ:Q ⟨.agg (zR v),H,H.n⟩):MCall Cx 52 [.agg (zR v)] H Q:=by
 obtain⟨X,lv,kv,hX,h1,h2,_,_,_,_,h⟩:=zna v hw ht (fun x hx H=>cU x (GV.wf_mem hw x hx) (zhT ht x hx) H _ rfl) H
 exact h Q (HC _ (jA _) (cQ v (Pk TL (fun _ h=>h) h1) (Pk KO (fun _ h=>h) h2)) hQ)
termination_by SizeOf.sizeOf v
decreasing_by exact GV.size_mem hx
theorem UQ(v:GV)(hw:v.wf)(ht:CK v)(H:Heap):∃X lv kv,Gw H X/\RowAt H.n X lv v.list.length (row zR v.list)/\RowAt H.n X kv v.keys.length (row RH v.keys)/\HB lv=true/\HB kv=true/\zG lv=some [lv]/\zG kv=some [kv]/\MCall Cx 52 [.agg (zR v)] H (·=⟨.agg (cG v lv kv),X,H.n⟩):=by
 obtain⟨X,lv,kv,hX,h1,h2,h3,h4,h5,h6,h⟩:=zna v hw ht (fun x hx H=>cU x (GV.wf_mem hw x hx) (zhT ht x hx) H _ rfl) H
 exact⟨X,lv,kv,hX,h1,h2,h3,h4,h5,h6,h _ (nB rfl)⟩
end
end Go.Proofs.YtookdinfaoelaaaGreatDoor
namespace Go.Tw
theorem VRs.anys{z:TypeId->Nat}{s:Nat->Option Nat}{d pr:Nat->Prop}{w:World}:∀(cs:List Value) (m:Nat),cs.length=m->VRs z s d pr w (oA m .any) cs
 | [],m,h=>by
  simp at h
  subst h
  rfl
 | c::cs,m,h=>by
  subst h
  exact⟨c,cs,rfl,trivial,VRs.anys cs _ rfl⟩
theorem HR.stretch{P:PH}{s:Nat->Option Nat}{H:Heap}{w:World}(hr:HR P s H w){b g:Nat}{cs:List V}{e e':TypeId}{n:Nat}(hb:H.get b=some (.cells cs e))(hs:s b=some g)(hn:w.shape? g=some (e',n)):
  cs.length<=n/\HR P s (H.set b (.cells (cs++oA (n-cs.length) .any) e)) w:=by
 obtain⟨arr,fr,h1,h2,h3,h4⟩:=hr.cells hb hs
 have hna:n=arr.size:=by
  simp only[XB,h1] at hn
  injection hn with hn
  exact(congrArg Prod.snd hn).symm
 subst hna
 have hlt:=zq hb
 have hd:∀b',RC H b'->RC (H.set b (.cells (cs++oA (arr.size-cs.length) .any) e)) b':=fun b' hd=>by
  have hne:b'≠b:=fun e=>by subst e;rw[RC,hb] at hd;cases hd
  rw[RC,dA,if_neg (fun h=>hne h.1)]
  exact hd
 have G:HL s s (RC H) (RC (H.set b (.cells (cs++oA (arr.size-cs.length) .any) e))) (RE P s w) (RE P s w) w w:=⟨hd,fun _ _ h=>.inl h,fun _ h=>h,fun _ _ _ _ h=>h,fun _ _ h=>h⟩
 refine⟨h4,fun b' g' hs'=>?_,hr.inj⟩
 by_cases hbb:b'=b
 ·subst hbb
  rw[hs] at hs'
  injection hs' with hs'
  subst hs'
  refine⟨.cells (cs++oA (arr.size-cs.length) .any) e,_,by rw[dA,if_pos ⟨rfl,hlt⟩],h1,arr,fr,rfl,?_,h3⟩
  have e1:(cs++oA (arr.size-cs.length) V.any).length=arr.toList.length:=by simp;omega
  rw[e1,FB]
  have h5:=VRs.mono G _ _ h2
  have h6:=VRs.append h5 (VRs.anys (z:=szP P) (s:=s) (d:=RC (H.set b' (.cells (cs++oA (arr.size-cs.length) .any) e))) (pr:=RE P s w) (w:=w) (arr.toList.drop cs.length) (arr.size-cs.length) (by simp))
  rw[eC] at h6
  exact h6
 ·obtain⟨B,o,k1,k2,k3⟩:=hr.dom b' g' hs'
  exact⟨B,o,by rw[dA,if_neg (fun h=>hbb h.1)];exact k1,k2,k3.mono G⟩
theorem MCall.stretch{C:Ctx}{g:FuncId}{b n c0 z:Nat}{cs:List V}{e:TypeId}{rest:List V}{H:Heap}{Q:OR->Prop}(hb:H.get b=some (.cells cs e))
  (k:∀c m,c0<=c->c*z<=cs.length+m->MCall C g (.sl b 0 n c none::rest) (H.set b (.cells (cs++oA m .any) e)) (fun r=>Q ⟨r.v,r.H,min b r.lo⟩)):MCall C g (.sl b 0 n c0 (some z)::rest) H Q:=by
 intro h s w cas K hr hg ha hK
 obtain⟨c0,cs0,hcas,⟨x,cap',rfl,hcap,_,hx⟩,hrest⟩:=ha
 obtain⟨g0,hs0,rfl,hop⟩:=hr.live hb (by simp) hx
 obtain⟨e',N,hsh,hN⟩:=hop z rfl
 obtain⟨hle,hr2⟩:=hr.stretch hb hs0 hsh
 have hlt:=zq hb
 have hd:∀b',RC H b'↔RC (H.set b (.cells (cs++oA (N-cs.length) .any) e)) b':=fun b'=>by
  by_cases hbb:b'=b
  ·subst hbb
   rw[RC,RC,hb,dA,if_pos ⟨rfl,hlt⟩]
   constructor<;>intro h<;>cases h
  ·rw[RC,RC,dA,if_neg (fun h=>hbb h.1)]
 have G:HL s s (RC H) (RC (H.set b (.cells (cs++oA (N-cs.length) .any) e))) (RE (C.ph h) s w) (RE (C.ph h) s w) w w:=⟨fun b'=>(hd b').1,fun _ _ h=>.inl h,fun _ h=>h,fun _ _ _ _ h=>h,fun _ _ h=>h⟩
 refine k cap' (N-cs.length) hcap (by omega) h s w cas K hr2 hg ⟨_,cs0,hcas,⟨_,cap',rfl,jA _,fun _=>rfl,.inr ⟨g0,hs0,rfl,fun k hk=>by cases hk⟩⟩,VRs.mono G _ _ hrest⟩ fun r hQ c w' s' h1 h2 E=>?_
 refine hK _ hQ c w' s' h1 h2 ⟨E.os,E.tape,E.output,E.size,by have:=E.hn;rw[kA] at this;exact this,fun b' hb'=>E.dd b' ((hd b').1 hb'),fun b' g' hb'=>?_,fun g' hg' hb'=>E.frame g' hg' fun b' hb2=>by have:=hb' b' hb2;simp only at this;omega,fun b' g' hb'=>?_,E.shp,fun b' h3 h4=>?_,fun b' h3 h4=>E.cov b' (by rw[kA];exact h3) h4⟩
 ·rcases E.ss b' g' hb' with h|⟨h,h3⟩
  ·exact .inl h
  ·exact .inr ⟨h,by simp only;omega⟩
 ·rcases E.fresh b' g' hb' with h|⟨h,h3⟩
  ·exact .inl h
  ·refine .inr ⟨by rw[kA] at h;exact h,?_⟩
   rcases h3 with h3|⟨b0,h3,h4⟩
   ·exact .inl h3
   ·exact .inr ⟨b0,by simp only;omega,h4⟩
 ·simp only at h3
  rw[E.old b' (by omega) (by rw[kA];exact h4),dA,if_neg (fun h=>by omega)]
theorem zk2 {C : Ctx} {g : FuncId} {fn : Func} (hf : C.P.funcs[g]? = some fn) (hname : (fn.name == "runtime.NumGoroutine") = false) (hb : fn.body.isNone = true) (hn : Extern.findNext fn = none) {t r e : TypeId} (he : Extern.find fn = some (Extern.SlicesOverlaps.overlaps #[t, t] #[r]))
  (ht:C.P.underlying t=some (.slice e)) (hE:C.P.underlying e≠some (.int .u8)) {z:Nat} (hz:EF C.P e=some z) {H:Heap} {a b oa ob la ca lb cb:Nat} {ta tb:Option Nat} {xa xb:List V} (hab:a≠b) (ha:H.get a=some (.cells xa e)) (hbb:H.get b=some (.cells xb e)) (hoa:oa<xa.length) (hxb:0<xb.length) {Q:OR->Prop} (hQ:Q ⟨.lit (.bool false),H,H.n⟩):
  MCall C g [.sl a oa la ca ta,.sl b ob lb cb tb] H Q:=by
 intro h s w cas K hr hg hargs hK
 obtain⟨c1,r1,e1,h1,c2,r2,rfl,h2,rfl⟩:=hargs
 obtain⟨x,cap1,rfl,_,_,hx⟩:=h1
 obtain⟨y,cap2,rfl,_,_,hy⟩:=h2
 obtain⟨ga,sa,rfl,_⟩:=hr.live ha (by simp) hx
 obtain⟨gb,sb,rfl,_⟩:=hr.live hbb (by simp) hy
 obtain⟨arra,fra,k1,k2,k3,k4⟩:=hr.cells ha sa
 obtain⟨arrb,frb,m1,m2,m3,m4⟩:=hr.cells hbb sb
 have hgab:ga≠gb:=fun e=>hab (hr.inj a b ga sa (by rw[e];exact sb))
 have ecas:cas=#[.slice (some ⟨ga,oa,none⟩) la cap1,.slice (some ⟨gb,ob,none⟩) lb cap2]:=by
  apply Array.ext'
  simpa using e1
 subst ecas
 have hrun:=Lib.run_overlaps_apart (P:=C.P) w t r e ht z (fun w=>xK hz) ⟨ga,oa,none⟩ ⟨gb,ob,none⟩ la cap1 lb cap2 hgab e e arra.size arrb.size (by simp only[XB,k1]) (by simp only[XB,m1]) (by omega)
  (by simp only[World.frozen?,k1];exact k3.1 _ (by omega)) (by simp only[World.frozen?,k1];exact k3.2 hE)
 unfold CallF
 rw[run_callFunc_extern hf hname hb hn he,hrun]
 exact hK _ hQ _ w s rfl hr (Ext.refl s H w)
end Go.Tw
namespace Go.Proofs.YtookdinfaoelaaaGreatDoor
section
open Go Go.Tw
open Classical
def kI(l:List GNode):Nat->GRev->List GNode
 | 0,_=>[]
 | n+1,r=>if aH l r then SI l (CH l r)::kI l n (SI l (CH l r)).parent else []
theorem Tc(l:List GNode)(r:GRev)(H:Heap)(Q:OR->Prop)(hQ:Q ⟨.fn (.func 83) [] [.ptr H.n 0,.ptr (H.n+1) 0],(H.push (.cells [AH l] 53)).push (.cells (ze r) 32),H.n⟩):MCall Cx 55 [AH l,.agg (ze r)] H Q:=by
 refine QA zm (fn:=Tryz.f55) Tryz.func55 rfl (by decide) (k:=6) rfl (rs:=[.tmp 4]) rfl ?_
 simp -dsimp only[go_sem,bA,aA,cA,reduceCtorEq,gA]
 exact nB hQ
structure Told(f:V)(bw br L:Nat)(xs:List GNode)(I:Nat->Heap->Prop)(E:Heap->Prop):Prop where
 step:∀n X x,I n X->xs[n]?=some x->∀Q:OR->Prop,(∀X' lo,I (n+1) X'->L<=lo->X.n<=X'.n->X'.get bw=X.get bw->X'.get br=X.get br->Q ⟨.lit (.bool true),X',lo⟩)->(∀X' lo,E X'->L<=lo->X.n<=X'.n->Q ⟨.lit (.bool false),X',lo⟩)->MVal Cx f [.agg (za x)] X Q
 far:∀n X B,I n X->br<X.n->I n (X.set br B)
theorem Yc(l:List GNode)(hl:l.length<=9223372036854775807)(hl2:l.length<4611686018427387904)(r:GRev)(f:V)(bw br L:Nat)(hne:bw≠br)(hL:L<=br)(I:Nat->Heap->Prop)(E:Heap->Prop)(hT:Told f bw br L (kI l 32 r) I E)(H:Heap)(hw:H.get bw=some (.cells [AH l] 53))(hr:H.get br=some (.cells (ze r) 32))(h0:I 0 H)(hLn:L<=H.n)
  (Q:OR->Prop) (hQ:∀X lo,I (kI l 32 r).length X\/E X->L<=lo->Q ⟨.tup [],X,lo⟩):MCall Cx 83 [f,.ptr bw 0,.ptr br 0] H Q:=by
 refine QA zm (fn:=Tryz.f83) Tryz.func83 rfl (by decide) (k:=39) rfl (rs:=[]) rfl ?_
 simp -dsimp only[go_sem,bA,cA,gA]
 refine fE zm (ι:=Nat×GRev×Heap) (fun p=>[(0,f),(1,.ptr bw 0),(2,.ptr br 0),(6,vA p.1)]) (fun p=>p.2.2) (fun _=>L)
  (fun p=>p.1<=32/\(kI l 32 r).drop p.1=kI l (32-p.1) p.2.1/\p.1<=(kI l 32 r).length/\I p.1 p.2.2/\p.2.2.get bw=some (.cells [AH l] 53)/\p.2.2.get br=some (.cells (ze p.2.1) 32)/\L<=p.2.2.n) (fun p=>32-p.1) (0,r,H) ⟨by omega,rfl,KB _,h0,hw,hr,hLn⟩ ?_ ?_
 ·refine(MB (lo2:=L) (by omega)).trans (RB _ zSl)
 rintro⟨i,q,X⟩ ⟨hi,hd,hi2,hI,hwX,hrX,hLX⟩
 simp only at hi hd hi2 hI hwX hrX hLX ⊢
 have done:(kI l (32-i) q)=[]->i=(kI l 32 r).length:=fun h=>by
  have:=congrArg PB hd
  rw[h,ZB,SA] at this
  omega
 simp -dsimp only[go_sem,bA,aA,reduceCtorEq,zf,zh]
 refine aB (fun h=>?_) (fun h=>?_)<;>simp -dsimp only[go_sem,bA,aA,reduceCtorEq,h,hwX,hrX]
 ·obtain⟨m,hm⟩:∃m,32-i=m+1:=⟨31-i,by omega⟩
  have hs:kI l (m+1) q=if aH l q then SI l (CH l q)::kI l m (SI l (CH l q)).parent else []:=rfl
  rw[hm,hs] at hd
  refine aD _ ((CA (FW) xA)) ?_
  simp -dsimp only[go_sem,bA,aA,reduceCtorEq,Sa _ _ hl2]
  cases hh:aH l q<;>simp -dsimp only[go_sem,bA,aA,reduceCtorEq,hwX]
  ·refine nB (hQ X _ (.inl ?_) (by omega))
   rw[hh] at hd
   have:=congrArg PB hd
   rw[ZB] at this
   simp only[Bool.false_eq_true,if_false,SA] at this
   rw[show(kI l 32 r).length=i by omega]
   exact hI
  ·rw[hh,if_pos rfl] at hd
   have hat:CH l q<l.length:=by
    simp only[aH,wA,decide_eq_true_eq] at hh
    exact hh.1
   have hx:l[CH l q]?=some (SI l (CH l q)):=by simp[SI,sA hat]
   have hxs:(kI l 32 r)[i]?=some (SI l (CH l q)):=by
    have:=congrArg (fun m:List GNode=>m[0]?) hd
    simp only[List.getElem?_drop,Nat.add_zero,List.getElem?_cons_zero] at this
    exact this
   simp -dsimp only[go_sem,bA,aA,reduceCtorEq,hat,z7 zg hx]
   refine⟨hT.step i X _ hI hxs _ (fun X' lo' hI' hlo' hn' hw' hr'=>?_) (fun X' lo' hE' hlo' hn'=>?_)⟩
   ·have hwX':=hw'.trans hwX
    have hrX':=hr'.trans hrX
    have hrn:=zq hrX'
    simp -dsimp only[go_sem,bA,aA,reduceCtorEq,hwX',hrX',hat,z7 zg hx]
    have hd1:(kI l 32 r).drop (i+1)=kI l m (SI l (CH l q)).parent:=by rw[<-List.drop_drop,hd];rfl
    have hlt:=(rA.1 hxs).1
    generalize hY:X'.set br (.cells (ze (SI l (CH l q)).parent) 32)=Y
    have y1:Y.n=X'.n:=by rw[<-hY,kA]
    refine zAg (i+1,(SI l (CH l q)).parent,Y) ?_
    dsimp only
    refine⟨by omega,by rw[hd1];congr 1;omega,by omega,?_,?_,?_,by omega⟩
    ·rw[<-hY];exact hT.far _ _ _ hI' hrn
    ·rw[<-hY,dA,if_neg (fun h=>hne h.1),hwX']
    ·rw[<-hY,dA,if_pos ⟨rfl,hrn⟩]
   ·simp -dsimp only[go_sem,bA,aA,reduceCtorEq]
    exact nB (hQ X' _ (.inr hE') (by omega))
 ·refine nB (hQ X _ (.inl ?_) (by omega))
  rw[<-done (by rw[show 32-i=0 by omega];rfl)]
  exact hI
end
section
open Go Go.Tw
open Classical
noncomputable def V8:List V->Heap->Option OR:=PL (fun p:Unit=>match p with|()=>[]) fun p=>match p with|()=>.agg (ze GRev.zero)
theorem m_45 (H:Heap) (Q:OR->Prop) (hQ:Q ⟨.agg (ze GRev.zero),H,H.n⟩):MCall Cx 45 [] H Q:=by
 refine QA zm (fn:=Tryz.f45) Tryz.func45 rfl (by decide) (k:=3) rfl (rs:=[.cell 0 32]) rfl ?_
 simp -dsimp only[go_sem,bA,aA,cA,reduceCtorEq,gA]
 exact AA (by omega) (zz _) hQ
theorem AO:CI Cx 45 V8:=EM fun p H Q hQ=>match p,hQ with|(),hQ=>m_45  H Q hQ
@[go_sem] theorem e_45 (H:Heap):V8 [] H=some ⟨.agg (ze GRev.zero),H,H.n⟩:=FM (by simp+contextual) () H
noncomputable def e9:List V->Heap->Option OR:=PL (fun p:GNode×GNode=>match p with|(a,b)=>[.agg (za a),.agg (za b)]) fun p=>match p with|(a,b)=>vA (fM [PK a.deleted b.deleted,RI b.rev a.rev])
theorem m_75(a:GNode)(b:GNode)(H:Heap)(Q:OR->Prop)(hQ:Q ⟨vA (fM [PK a.deleted b.deleted,RI b.rev a.rev]),H,H.n⟩):MCall Cx 75 [.agg (za a),.agg (za b)] H Q:=by
 refine QA zm (fn:=Tryz.f75) Tryz.func75 rfl (by decide) (k:=17) rfl (rs:=[.tmp 4]) rfl ?_
 simp -dsimp only[go_sem,bA,aA,cA,reduceCtorEq,gA]
 refine DR.of _ ((CA (JZ) (CA (IQ) (CA (Z7 (g:=61) (xs:=[.sl (H.n+2) 0 2 2 none]) (H:=((H.push (.cells (za a) 38)).push (.cells (za b) 38)).push (.cells (zW (PK a.deleted b.deleted)++zW (RI b.rev a.rev)) 3)) [NB zW [PK a.deleted b.deleted,RI b.rev a.rev]] (.one ?_) rfl (Uc _ (by simp) _ _ rfl)) xA)))) (by kernel_rfl) ?_
 ·exact nC 2 trivial (by simp -dsimp only[go_sem,aA,cA,reduceCtorEq];rfl) (by decide) rfl rfl
 ·simp -dsimp only[go_sem,bA,aA,cA,reduceCtorEq]
  refine CQ.intro (zqp _ _ _ _ _ rfl rfl rfl rfl) ?_
  simp -dsimp only[go_sem,bA,aA,cA,reduceCtorEq]
  refine CQ.intro (rP _ _ _) ?_
  simp -dsimp only[go_sem,bA,aA,cA,reduceCtorEq]
  exact AA (by omega) rfl hQ
theorem Kd:CI Cx 75 e9:=EM fun p H Q hQ=>match p,hQ with|(a,b),hQ=>m_75 a b H Q hQ
@[go_sem] theorem e_75(a:GNode)(b:GNode)(H:Heap):e9 [.agg (za a),.agg (za b)] H=some ⟨vA (fM [PK a.deleted b.deleted,RI b.rev a.rev]),H,H.n⟩:=FM (by simp+contextual [zJ]) (a,b) H
def eO(l:List GRev)(i:Nat):GRev:=l.getD (i+1) .zero
theorem Rc(l:List GRev)(i:Nat)(hp:l.length<=9223372036854775807/\i<9223372036854775807)(H:Heap)(Q:OR->Prop)(hQ:Q ⟨.agg (ze (eO l i)),H,H.n⟩):MCall Cx 50 [NB ze l,vA i] H Q:=by
 refine QA zm (fn:=Tryz.f50) Tryz.func50 rfl (by decide) (k:=16) rfl (rs:=[.cell 4 32]) rfl ?_
 simp -dsimp only[go_sem,bA,aA,cA,reduceCtorEq]
 obtain⟨hp1,hp2⟩:=hp
 have e:IntKind.i64.wrap ((i:Int)+1)=((i+1:Nat):Int):=PR (by omega)
 simp -dsimp only[go_sem,e]
 refine aB (fun h=>?_) (fun h=>?_)
 ·obtain⟨x,hx⟩:=zu h
  have hn:eO l i=x:=by simp[eO,List.getD,hx]
  rw[hn] at hQ
  simp -dsimp only[go_sem,bA,aA,cA,reduceCtorEq,gA,e,h,z7 zi hx]
  exact AA (by omega) (zz _) hQ
 ·have hn:eO l i=.zero:=by simp[eO,List.getD,List.getElem?_eq_none (show l.length<=i+1 by omega)]
  rw[hn] at hQ
  simp -dsimp only[go_sem,bA,aA,cA,reduceCtorEq]
  refine aD _ ((CA (AO) xA)) ?_
  simp -dsimp only[go_sem,bA,aA,cA,reduceCtorEq,gA]
  exact AA (by omega) (zz _) hQ
end
section
open Go Go.Tw
open Classical
theorem all_no_G34{α:Type}{p:α->Bool}{l:List α}{i:Nat}{x:α}(hx:l[i]?=some x)(hp:p x=false):l.all p=false:=by
 rw[List.all_eq_false]
 exact⟨x,IA hx,by simp[hp]⟩
mutual
def qM:GV->Bool
 | .mk k n t l ks=>z8 (.mk k n t l ks)&&DL ks 0&&Qk l
def Qk:List GV->Bool
 | []=>true
 | v::vs=>qM v&&Qk vs
end
theorem zjv:∀l:List GV,Qk l=l.all qM
 | []=>rfl
 | v::vs=>by rw[Qk,CD,zjv vs]
theorem I7(v:GV):qM v=(z8 v&&DL v.keys 0&&v.list.all qM):=by
 cases v with
 | mk k n t l ks=>rw[qM,zjv];rfl
theorem y8{v:GV}(k:v.kind≠3)(h:¬v.num=0):z8 v=false:=by simp[z8,k,h]
theorem N7{v:GV}(k:v.kind≠4)(h:¬v.text=⟨#[]⟩):z8 v=false:=by
 have e00:JI=⟨#[]⟩:=rfl
 simp[z8,k,e00,h]
theorem Ag{v:GV}(k:v.kind<5)(h:0<(v.list.length:Int)):z8 v=false:=by
 have:¬5<=v.kind:=by omega
 have h2:¬v.list.length=0:=by omega
 simp only[z8,this,h2,decide_false,bK,QB,kD]
theorem O7{v:GV}(k:v.kind≠6)(h:0<(v.keys.length:Int)):z8 v=false:=by
 have h2:¬v.keys.length=0:=by omega
 simp only[z8,k,h2,decide_false,bK,QB,kD]
theorem OT{v:GV}(k:v.kind=6)(h:¬(v.keys.length:Int)=v.list.length):z8 v=false:=by
 have h2:¬v.keys.length=v.list.length:=by omega
 simp only[z8,k,h2,ne_eq,not_true_eq_false,decide_false,bK,QB,kD]
theorem j3{v:GV}(h:yL v.text=false):z8 v=false:=by
 simp only[z8,h,QB]
theorem JY{v:GV}(h:v.kind<0):z8 v=false:=by
 have:¬0<=v.kind:=by omega
 simp only[z8,this,decide_false,kD]
theorem PT{v:GV}(h:6<v.kind):z8 v=false:=by
 have:¬v.kind<=6:=by omega
 simp only[z8,this,decide_false,kD,QB]
theorem p4{v:GV}(k:0<=v.kind/\v.kind<=6)(h0:v.kind=3\/¬¬v.num=0)(h1:v.kind=4\/¬¬v.text=⟨#[]⟩)(h2:5<=v.kind\/¬0<(v.list.length:Int))(h3:v.kind=6\/¬0<(v.keys.length:Int))(h4:v.kind≠6\/¬¬(v.keys.length:Int)=v.list.length)(h5:yL v.text=true):z8 v=true:=by
 have e00:JI=⟨#[]⟩:=rfl
 simp only[z8,wA,Bool.or_eq_true,decide_eq_true_eq,h5,and_true,k.1,k.2,true_and,e00]
 exact⟨⟨⟨⟨h0.imp_right (fun h=>not_not.1 h),h1.imp_right (fun h=>not_not.1 h)⟩,h2.imp_right (fun h=>by omega)⟩,h3.imp_right (fun h=>by omega)⟩,h4.imp_right (fun h=>by omega)⟩
theorem zmv(v:GV)(hw:v.wf)(hrec:∀x∈v.list,∀H Q,Q ⟨.lit (.bool (qM x)),H,H.n⟩->MCall Cx 90 [.agg (zR x)] H Q)(H:Heap)(Q:OR->Prop)(hQ:Q ⟨.lit (.bool (qM v)),H,H.n⟩):MCall Cx 90 [.agg (zR v)] H Q:=by
 have no2:qM v=false->Q ⟨.lit (.bool false),H,H.n⟩:=fun h=>by rw[h] at hQ;exact hQ
 have no:z8 v=false->Q ⟨.lit (.bool false),H,H.n⟩:=fun h=>no2 (by rw[I7,h];rfl)
 have hts:v.text.size<=9223372036854775807:=GV.wf_text hw
 have e00:JI=⟨#[]⟩:=rfl
 have p0:yL ⟨#[]⟩=true:=rfl
 refine mB (fn:=Tryz.f90) Tryz.func90 rfl (by decide) (k:=121) rfl (rs:=[.tmp 2]) rfl ?_
 refine PA zm ?_
 simp -dsimp only[go_sem,bA,gA]
 refine WW.cut zm (ι:=Unit) (fun _=>[(1,.ptr H.n 0)]) (fun _=>H.push (.cells (zR v) 36)) (fun _=>H.n) (fun _=>z8 v=true) ?_ ?_
 ·simp -dsimp only[go_sem]
  by_cases k0:v.kind=0
  ·dsimp only[vF]
   simp -dsimp only[go_sem,bA,aA,reduceCtorEq,k0]
   refine AB (fun h0=>?_) (fun h0=>?_)<;>simp -dsimp only[go_sem,bA,aA,reduceCtorEq,k0,h0]
   ·exact AA (by omega) rfl (no (y8 (by omega) h0))
   refine AB (fun h1=>?_) (fun h1=>?_)<;>simp -dsimp only[go_sem,bA,aA,reduceCtorEq,k0,h0,h1]
   ·exact AA (by omega) rfl (no (N7 (by omega) h1))
   refine AB (fun h2=>?_) (fun h2=>?_)<;>simp -dsimp only[go_sem,bA,aA,reduceCtorEq,k0,h0,h1,h2]
   ·exact AA (by omega) rfl (no (Ag (by omega) h2))
   refine AB (fun h3=>?_) (fun h3=>?_)<;>simp -dsimp only[go_sem,bA,aA,reduceCtorEq,k0,h0,h1,h2,h3]
   ·exact AA (by omega) rfl (no (O7 (by omega) h3))
   refine aD _ ((CA (Q3) xA)) ?_
   simp -dsimp only[go_sem,bA,aA,reduceCtorEq,h0,h1,h2,h3,D4 v.text hts]
   refine yF (fun g=>?_) (fun g=>?_)<;>simp -dsimp only[go_sem,bA,aA,reduceCtorEq,h0,h1,h2,h3,g]
   ·exact AA (by omega) rfl (no (j3 g))
   ·refine zAg (some ()) ?_
    exact p4 (by omega) (.inr h0) (.inr h1) (.inr h2) (.inr h3) (.inl (by omega)) g
  by_cases k1:v.kind=1
  ·dsimp only[vF]
   simp -dsimp only[go_sem,bA,aA,reduceCtorEq,k1]
   refine AB (fun h0=>?_) (fun h0=>?_)<;>simp -dsimp only[go_sem,bA,aA,reduceCtorEq,k1,h0]
   ·exact AA (by omega) rfl (no (y8 (by omega) h0))
   refine AB (fun h1=>?_) (fun h1=>?_)<;>simp -dsimp only[go_sem,bA,aA,reduceCtorEq,k1,h0,h1]
   ·exact AA (by omega) rfl (no (N7 (by omega) h1))
   refine AB (fun h2=>?_) (fun h2=>?_)<;>simp -dsimp only[go_sem,bA,aA,reduceCtorEq,k1,h0,h1,h2]
   ·exact AA (by omega) rfl (no (Ag (by omega) h2))
   refine AB (fun h3=>?_) (fun h3=>?_)<;>simp -dsimp only[go_sem,bA,aA,reduceCtorEq,k1,h0,h1,h2,h3]
   ·exact AA (by omega) rfl (no (O7 (by omega) h3))
   refine aD _ ((CA (Q3) xA)) ?_
   simp -dsimp only[go_sem,bA,aA,reduceCtorEq,h0,h1,h2,h3,D4 v.text hts]
   refine yF (fun g=>?_) (fun g=>?_)<;>simp -dsimp only[go_sem,bA,aA,reduceCtorEq,h0,h1,h2,h3,g]
   ·exact AA (by omega) rfl (no (j3 g))
   ·refine zAg (some ()) ?_
    exact p4 (by omega) (.inr h0) (.inr h1) (.inr h2) (.inr h3) (.inl (by omega)) g
  by_cases k2:v.kind=2
  ·dsimp only[vF]
   simp -dsimp only[go_sem,bA,aA,reduceCtorEq,k2]
   refine AB (fun h0=>?_) (fun h0=>?_)<;>simp -dsimp only[go_sem,bA,aA,reduceCtorEq,k2,h0]
   ·exact AA (by omega) rfl (no (y8 (by omega) h0))
   refine AB (fun h1=>?_) (fun h1=>?_)<;>simp -dsimp only[go_sem,bA,aA,reduceCtorEq,k2,h0,h1]
   ·exact AA (by omega) rfl (no (N7 (by omega) h1))
   refine AB (fun h2=>?_) (fun h2=>?_)<;>simp -dsimp only[go_sem,bA,aA,reduceCtorEq,k2,h0,h1,h2]
   ·exact AA (by omega) rfl (no (Ag (by omega) h2))
   refine AB (fun h3=>?_) (fun h3=>?_)<;>simp -dsimp only[go_sem,bA,aA,reduceCtorEq,k2,h0,h1,h2,h3]
   ·exact AA (by omega) rfl (no (O7 (by omega) h3))
   refine aD _ ((CA (Q3) xA)) ?_
   simp -dsimp only[go_sem,bA,aA,reduceCtorEq,h0,h1,h2,h3,D4 v.text hts]
   refine yF (fun g=>?_) (fun g=>?_)<;>simp -dsimp only[go_sem,bA,aA,reduceCtorEq,h0,h1,h2,h3,g]
   ·exact AA (by omega) rfl (no (j3 g))
   ·refine zAg (some ()) ?_
    exact p4 (by omega) (.inr h0) (.inr h1) (.inr h2) (.inr h3) (.inl (by omega)) g
  by_cases k3:v.kind=3
  ·dsimp only[vF]
   simp -dsimp only[go_sem,bA,aA,reduceCtorEq,k3]
   refine AB (fun h0=>?_) (fun h0=>?_)<;>simp -dsimp only[go_sem,bA,aA,reduceCtorEq,k3,h0]
   ·exact AA (by omega) rfl (no (N7 (by omega) h0))
   refine AB (fun h1=>?_) (fun h1=>?_)<;>simp -dsimp only[go_sem,bA,aA,reduceCtorEq,k3,h0,h1]
   ·exact AA (by omega) rfl (no (Ag (by omega) h1))
   refine AB (fun h2=>?_) (fun h2=>?_)<;>simp -dsimp only[go_sem,bA,aA,reduceCtorEq,k3,h0,h1,h2]
   ·exact AA (by omega) rfl (no (O7 (by omega) h2))
   refine aD _ ((CA (Q3) xA)) ?_
   simp -dsimp only[go_sem,bA,aA,reduceCtorEq,h0,h1,h2,D4 v.text hts]
   refine yF (fun g=>?_) (fun g=>?_)<;>simp -dsimp only[go_sem,bA,aA,reduceCtorEq,h0,h1,h2,g]
   ·exact AA (by omega) rfl (no (j3 g))
   ·refine zAg (some ()) ?_
    exact p4 (by omega) (.inl (by omega)) (.inr h0) (.inr h1) (.inr h2) (.inl (by omega)) g
  by_cases k4:v.kind=4
  ·dsimp only[vF]
   simp -dsimp only[go_sem,bA,aA,reduceCtorEq,k4]
   refine AB (fun h0=>?_) (fun h0=>?_)<;>simp -dsimp only[go_sem,bA,aA,reduceCtorEq,k4,h0]
   ·exact AA (by omega) rfl (no (y8 (by omega) h0))
   refine AB (fun h1=>?_) (fun h1=>?_)<;>simp -dsimp only[go_sem,bA,aA,reduceCtorEq,k4,h0,h1]
   ·exact AA (by omega) rfl (no (Ag (by omega) h1))
   refine AB (fun h2=>?_) (fun h2=>?_)<;>simp -dsimp only[go_sem,bA,aA,reduceCtorEq,k4,h0,h1,h2]
   ·exact AA (by omega) rfl (no (O7 (by omega) h2))
   refine aD _ ((CA (Q3) xA)) ?_
   simp -dsimp only[go_sem,bA,aA,reduceCtorEq,h0,h1,h2,D4 v.text hts]
   refine yF (fun g=>?_) (fun g=>?_)<;>simp -dsimp only[go_sem,bA,aA,reduceCtorEq,h0,h1,h2,g]
   ·exact AA (by omega) rfl (no (j3 g))
   ·refine zAg (some ()) ?_
    exact p4 (by omega) (.inr h0) (.inl (by omega)) (.inr h1) (.inr h2) (.inl (by omega)) g
  by_cases k5:v.kind=5
  ·dsimp only[vF]
   simp -dsimp only[go_sem,bA,aA,reduceCtorEq,k5]
   refine AB (fun h0=>?_) (fun h0=>?_)<;>simp -dsimp only[go_sem,bA,aA,reduceCtorEq,k5,h0]
   ·exact AA (by omega) rfl (no (y8 (by omega) h0))
   refine AB (fun h1=>?_) (fun h1=>?_)<;>simp -dsimp only[go_sem,bA,aA,reduceCtorEq,k5,h0,h1]
   ·exact AA (by omega) rfl (no (N7 (by omega) h1))
   refine AB (fun h2=>?_) (fun h2=>?_)<;>simp -dsimp only[go_sem,bA,aA,reduceCtorEq,k5,h0,h1,h2]
   ·exact AA (by omega) rfl (no (O7 (by omega) h2))
   refine aD _ ((CA (Q3) xA)) ?_
   simp -dsimp only[go_sem,bA,aA,reduceCtorEq,h0,h1,h2,D4 v.text hts]
   refine yF (fun g=>?_) (fun g=>?_)<;>simp -dsimp only[go_sem,bA,aA,reduceCtorEq,h0,h1,h2,g]
   ·exact AA (by omega) rfl (no (j3 g))
   ·refine zAg (some ()) ?_
    exact p4 (by omega) (.inr h0) (.inr h1) (.inl (by omega)) (.inr h2) (.inl (by omega)) g
  by_cases k6:v.kind=6
  ·dsimp only[vF]
   simp -dsimp only[go_sem,bA,aA,reduceCtorEq,k6]
   refine AB (fun h0=>?_) (fun h0=>?_)<;>simp -dsimp only[go_sem,bA,aA,reduceCtorEq,k6,h0]
   ·exact AA (by omega) rfl (no (y8 (by omega) h0))
   refine AB (fun h1=>?_) (fun h1=>?_)<;>simp -dsimp only[go_sem,bA,aA,reduceCtorEq,k6,h0,h1]
   ·exact AA (by omega) rfl (no (N7 (by omega) h1))
   refine AB (fun h2=>?_) (fun h2=>?_)<;>simp -dsimp only[go_sem,bA,aA,reduceCtorEq,h0,h1,h2]
   ·exact AA (by omega) rfl (no (OT k6 h2))
   refine aD _ ((CA (Q3) xA)) ?_
   simp -dsimp only[go_sem,bA,aA,reduceCtorEq,h0,h1,h2,D4 v.text hts]
   refine yF (fun g=>?_) (fun g=>?_)<;>simp -dsimp only[go_sem,bA,aA,reduceCtorEq,h0,h1,h2,g]
   ·exact AA (by omega) rfl (no (j3 g))
   ·refine zAg (some ()) ?_
    exact p4 (by omega) (.inr h0) (.inr h1) (.inl (by omega)) (.inl (by omega)) (.inr h2) g
  by_cases kn:v.kind<0
  ·dsimp only[vF]
   simp -dsimp only[go_sem,bA,aA,reduceCtorEq,kn]
   exact AA (by omega) rfl (no (JY kn))
  ·have kp:6<v.kind:=by omega
   dsimp only[vF]
   simp -dsimp only[go_sem,bA,aA,reduceCtorEq,kn,kp]
   exact AA (by omega) rfl (no (PT kp))
 rintro⟨⟩ hf
 have hlk:=GV.wf_keys hw
 have hlw:=GV.wf_list hw
 refine LB zm ?_
 simp -dsimp only[go_sem,bA,zf,zh]
 refine sC zm (fun i:Nat=>[(1,.ptr H.n 0),(3,vA i)]) (fun i=>i<=v.keys.length/\DL v.keys i=DL v.keys 0) (fun i=>v.keys.length-i) 0 ⟨by omega,rfl⟩ zSl ?_
 rintro i ⟨hi,hz⟩
 simp -dsimp only[go_sem,bA,aA,zf,zh]
 have noK:DL v.keys 0=false->Q ⟨.lit (.bool false),H,H.n⟩:=fun h=>no2 (by rw[I7,h,QB];rfl)
 refine aB (fun g1=>?_) (fun g1=>?_)
 ·obtain⟨x,hx⟩:=zu g1
  simp -dsimp only[go_sem,aA,g1]
  refine DR.of _ ((CA (KZ) xA)) (by kernel_rfl) ?_
  simp -dsimp only[go_sem,bA,aA,Pa _ (GV.wf_key hw x (IA hx)),g1,z7 zC hx]
  cases g2:pL x<;>simp -dsimp only[go_sem,bA,aA,gA]
  ·refine AA (by omega) rfl (noK ?_)
   rw[<-hz]
   cases i with
   | zero=>rw[qj hx,g2];rfl
   | succ i=>
    obtain⟨y,hy⟩:=zu (l:=v.keys) (i:=i) (by omega)
    rw[zfF hy hx,g2];rfl
  refine AB (fun g3=>?_) (fun g3=>?_)
  ·have hi0:0<i:=by omega
   obtain⟨y,hy⟩:=zu (l:=v.keys) (i:=i-1) (by omega)
   have e:IntKind.i64.wrap ((i:Int)-1)=((i-1:Nat):Int):=by rw[zw (by omega) (by omega)];omega
   have hil:i-1<v.keys.length:=by omega
   rw[zik hi0 hy hx,g2,MC] at hz
   simp -dsimp only[go_sem,bA,aA,g1,g3,e,hil,z7 zC hx,z7 zC hy]
   refine yF (fun g4=>?_) (fun g4=>?_)<;>simp -dsimp only[go_sem,bA,aA,g4]
   ·exact AA (by omega) rfl (noK (by rw[<-hz,g4];rfl))
   ·refine zAg (i+1) ?_
    exact⟨by omega,by rw[<-hz,g4,MC]⟩
  ·simp -dsimp only[go_sem,bA,aA,gA,g3]
   obtain rfl:i=0:=by omega
   refine zAg 1 ?_
   exact⟨by omega,by rw[<-hz,qj hx,g2,MC]⟩
 ·simp -dsimp only[go_sem,bA,aA,g1]
  rw[zjr (by omega)] at hz
  refine sC zm (fun k:Nat=>[(1,.ptr H.n 0),(4,vA k)]) (fun k=>k<=v.list.length/\(v.list.take k).all qM=true) (fun k=>v.list.length-k) 0 ⟨KB _,rfl⟩ zSl ?_
  rintro k ⟨hk,hall⟩
  simp -dsimp only[go_sem,bA,aA,zf,zh]
  refine aB (fun q1=>?_) (fun q1=>?_)
  ·obtain⟨x,hx⟩:=zu q1
   simp -dsimp only[go_sem,bA,aA,q1,z7 zF hx]
   refine oB ?_
   refine hrec x (IA hx) _ _ ?_
   simp -dsimp only[go_sem,bA,aA]
   refine yF (fun q2=>?_) (fun q2=>?_)<;>simp -dsimp only[go_sem,bA,aA,q2]
   ·refine AA (by omega) rfl (no2 ?_)
    rw[I7,all_no_G34 hx (p:=qM) (by simpa using q2),QB]
   ·refine zAg (k+1) ?_
    exact⟨q1,VM hx hall (by simpa using q2)⟩
  ·simp -dsimp only[go_sem,bA,aA,q1]
   refine AA (by omega) rfl ?_
   have:=pN (i:=k) (by omega) hall
   rw[I7,hf,<-hz,this] at hQ
   exact hQ
noncomputable def o9:List V->Heap->Option OR:=by
 classical
 exact GK (fun p:GV=>match p with|v=>[.agg (zR v)]) fun p H=>match p with|v=>if v.wf then some ⟨.lit (.bool (qM v)),H,H.n⟩ else none
theorem Zc(v:GV)(hp:v.wf)(H:Heap)(Q:OR->Prop)(hQ:Q ⟨.lit (.bool (qM v)),H,H.n⟩):MCall Cx 90 [.agg (zR v)] H Q:=by
 exact zmv v hp (fun x hx H Q hQ=>Zc x (GV.wf_mem hp x hx) H Q hQ) H Q hQ
termination_by SizeOf.sizeOf v
decreasing_by exact GV.size_mem hx
theorem Od:CI Cx 90 o9:=kL fun v H r hr=>by
 simp only at hr
 split at hr
 ·rename_i hp
  injection hr with hr
  subst hr
  exact Zc v hp H _ rfl
 ·cases hr
theorem e_90(v:GV)(hp:v.wf)(H:Heap):o9 [.agg (zR v)] H=some ⟨.lit (.bool (qM v)),H,H.n⟩:=by
 refine(lL (by simp+contextual [kj]) v H).trans ?_
 exact if_pos hp
end
section
open Go Go.Tw
open Classical
mutual
def ML:GV->Prop
 | .mk k n t l ks=>(∀s∈ks,s.size<=1048576)/\SN l
def SN:List GV->Prop
 | []=>True
 | v::vs=>ML v/\SN vs
end
theorem zla:∀{l:List GV},SN l->∀x∈l,ML x
 | [],_,x,hx=>by cases hx
 | v::vs,h,x,hx=>by
  rcases IB.1 hx with rfl|hx
  ·exact h.1
  ·exact zla h.2 x hx
theorem Zj{v:GV}(h:ML v):∀s∈v.keys,s.size<=1048576:=by cases v;exact h.1
theorem Yj{v:GV}(h:ML v):∀x∈v.list,ML x:=by cases v;exact zla h.2
theorem zo8(n:Nat):(n:Int).tdiv 100=((n / 100:Nat):Int):=by
 rw[Int.tdiv_eq_ediv_of_nonneg (by omega)];omega
def FO(s:ByteArray):Nat:=1+s.size / 100
def rH{α:Type}(f:α->Nat)(l:List α):Nat:=(l.map f).sum
theorem QR{α:Type}(f:α->Nat)(x:α)(l:List α):rH f (x::l)=f x+rH f l:=by simp[rH]
theorem zfu{α:Type}(f:α->Nat)(l m:List α):rH f (l++m)=rH f l+rH f m:=by simp[rH]
theorem tk{α:Type}{f g:α->Nat}:∀{l:List α},(∀x∈l,f x<=g x)->rH f l<=rH g l
 | [],_=>jA _
 | x::l,h=>by
  rw[QR,QR]
  have:=h x (by simp)
  have:=tk (l:=l) fun y hy=>h y (by simp[hy])
  omega
theorem zkG{α:Type}(f:α->Nat)(l:List α)(n:Nat):rH f (l.take n)<=rH f l:=by
 have:=zfu f (l.take n) (l.drop n)
 rw[eC] at this
 omega
theorem zgF{α:Type}(c:Nat):∀l:List α,rH (fun _=>c) l=c*l.length
 | []=>by simp[rH]
 | x::l=>by rw[QR,zgF c l,HA,Nat.mul_succ];omega
theorem zjV{α:Type}(c:Nat)(f:α->Nat):∀l:List α,rH (fun x=>c*f x) l=c*rH f l
 | []=>by simp[rH]
 | x::l=>by rw[QR,QR,zjV c f l,Nat.mul_add]
theorem zmW{α:Type}(f g:α->Nat):∀l:List α,rH (fun x=>f x+g x) l=rH f l+rH g l
 | []=>by simp[rH]
 | x::l=>by rw[QR,QR,QR,zmW f g l];omega
theorem znt(ks:List ByteArray)(h:∀s∈ks,s.size<=1048576):rH FO ks<=10486*ks.length:=by
 rw[<-zgF]
 exact tk fun s hs=>by have:=h s hs;unfold FO;omega
theorem zio:∀(ks:List ByteArray) (a:Nat),(∀s∈ks,s.size<=1048576)->a+10486*ks.length<=4611686018427387903->ks.foldl nO (a:Int)=((a+rH FO ks:Nat):Int)
 | [],a,_,_=>by simp[rH]
 | s::ks,a,h,hb=>by
  rw[HA] at hb
  have h1:=h s (by simp)
  have e:nO (a:Int) s=((a+FO s:Nat):Int):=by
   unfold nO FO
   rw[zo8]
   simp (disch:=omega) only[zw]
   omega
  rw[List.foldl_cons,e,zio ks _ (fun y hy=>h y (by simp[hy])) (by unfold FO;omega),QR,WD]
theorem zjX{f:GV->Int}{M:Nat}(hM:M<=500000000000):∀(l:List GV) (a:Nat),(∀x∈l,0<=f x/\f x<=M)->a<=1000000000000->(a:Int)<=yO f a l/\yO f a l<=(max a (100000+M):Nat)/\(yO f a l<=4000->yO f a l=((a+rH (fun x=>(f x).toNat) l:Nat):Int))
 | [],a,_,ha=>by
  refine⟨Int.le_refl _,?_,fun _=>?_⟩
  ·rw[yO];omega
  ·rw[yO];simp[rH]
 | x::l,a,h,ha=>by
  obtain⟨h1,h2⟩:=h x (by simp)
  rw[yO]
  by_cases hc:(a:Int)<100000
  ·rw[if_pos hc]
   have e:IntKind.i64.wrap ((a:Int)+f x)=((a+(f x).toNat:Nat):Int):=by
    simp (disch:=omega) only[zw]
    omega
   rw[e]
   obtain⟨k1,k2,k3⟩:=zjX hM l (a+(f x).toNat) (fun y hy=>h y (by simp[hy])) (by omega)
   refine⟨by omega,by omega,fun hs=>?_⟩
   rw[k3 hs,QR,WD]
  ·rw[if_neg hc]
   exact⟨Int.le_refl _,by omega,fun hs=>by omega⟩
theorem zny(v:GV)(ht:¬4000<v.text.size):IntKind.i64.wrap (1+IntKind.i64.wrap ((v.text.size:Int).tdiv 100))=((1+v.text.size / 100:Nat):Int):=by
 rw[zo8]
 simp (disch:=omega) only[zw]
 omega
theorem zh6:∀(d:Nat),d<=20->∀v,ML v->0<=YJ d v/\YJ d v<=((32000000*(d+1):Nat):Int)
 | 0,_,v,_=>by rw[YJ];omega
 | d+1,hd,v,hm=>by
  rw[YJ]
  by_cases hc:3000<v.list.length\/3000<v.keys.length\/4000<v.text.size
  ·rw[if_pos hc];omega
  ·rw[if_neg hc]
   simp only[not_or] at hc
   obtain⟨c1,c2,c3⟩:=hc
   have hk:=znt v.keys (Zj hm)
   rw[zny v c3,zio v.keys _ (Zj hm) (by omega)]
   obtain⟨k1,k2,_⟩:=zjX (f:=YJ d) (M:=32000000*(d+1)) (by omega) v.list (1+v.text.size / 100+rH FO v.keys) (fun x hx=>zh6 d (by omega) x (Yj hm x hx)) (by omega)
   refine⟨by omega,by omega⟩
theorem zpx{d:Nat}(hd:d<20){v:GV}(hm:ML v)(h:YJ (d+1) v<=4000):
  (v.list.length<=3000/\v.keys.length<=3000/\v.text.size<=4000)/\YJ (d+1) v=((1+v.text.size / 100+rH FO v.keys+rH (fun x=>(YJ d x).toNat) v.list:Nat):Int):=by
 rw[YJ] at h ⊢
 by_cases hc:3000<v.list.length\/3000<v.keys.length\/4000<v.text.size
 ·rw[if_pos hc] at h;omega
 ·rw[if_neg hc] at h ⊢
  simp only[not_or] at hc
  obtain⟨c1,c2,c3⟩:=hc
  have hk:=znt v.keys (Zj hm)
  rw[zny v c3,zio v.keys _ (Zj hm) (by omega)] at h ⊢
  obtain⟨k1,k2,k3⟩:=zjX (f:=YJ d) (M:=32000000*(d+1)) (by omega) v.list (1+v.text.size / 100+rH FO v.keys) (fun x hx=>zh6 d (by omega) x (Yj hm x hx)) (by omega)
  exact⟨⟨by omega,by omega,by omega⟩,k3 h⟩
theorem vR{α:Type}{f:α->Nat}{l:List α}{x:α}(h:x∈l):f x<=rH f l:=by
 induction l with
 | nil=>cases h
 | cons y l ih=>
  rw[QR]
  rcases IB.1 h with rfl|h
  ·omega
  ·have:=ih h;omega
theorem zlp(obj:Bool)(ks:List ByteArray)(ts:List (List UInt8)):∀n,(EJ obj ks ts n).length<=4*n+2*rH DG (ks.take n)+rH PB (ts.take n)
 | 0=>by simp[EJ]
 | n+1=>by
  have ih:=zlp obj ks ts n
  have e1:rH DG (ks.take (n+1))=rH DG (ks.take n)+(ks.getD n .empty).size:=by
   rw[yB,zfu,DA]
   cases ks[n]? with
   | none=>rfl
   | some y=>simp[rH]
  have e2:rH PB (ts.take (n+1))=rH PB (ts.take n)+(ts.getD n []).length:=by
   rw[yB,zfu,DA]
   cases ts[n]? with
   | none=>rfl
   | some y=>simp[rH]
  have hq:=zm9 (ks.getD n .empty)
  rw[EJ,e1,e2]
  simp only[qA]
  have h1:(if n=0 then([]:List UInt8) else [44]).length<=1:=by split<;>simp
  have h2:(if obj=true then pJ (ks.getD n .empty)++[58] else []).length<=2*(ks.getD n .empty).size+3:=by
   split
   ·simp only[qA,HA,SA];omega
   ·simp
  omega
theorem WT(n:Int)(h:-9223372036854775808<=n/\n<=9223372036854775807):(Lib.itoa n).length<=21:=Lib.itoa_length_le n h.1 h.2
theorem xR:∀(d:Nat),d<=20->∀v,ML v->GN v->YJ d v<=4000->CK v/\(ED v).length+5<=230*(YJ d v).toNat
 | 0,_,v,_,_,h=>by rw[YJ] at h;omega
 | d+1,hd,.mk k n t l ks,hm,hn,h=>by
  obtain⟨⟨c1,c2,c3⟩,e⟩:=zpx (by omega) hm h
  have c1:l.length<=3000:=c1
  have c2:ks.length<=3000:=c2
  have c3:t.size<=4000:=c3
  have e:YJ (d+1) (.mk k n t l ks)=((1+t.size / 100+rH FO ks+rH (fun x=>(YJ d x).toNat) l:Nat):Int):=e
  have hx:∀x∈l,CK x/\(ED x).length+5<=230*(YJ d x).toNat:=fun x hx=>by
   have h1:=vR (f:=fun x=>(YJ d x).toNat) hx
   have h2:=zh6 d (by omega) x (Yj hm x hx)
   exact xR d (by omega) x (Yj hm x hx) (zj8 hn x hx) (by omega)
  refine⟨⟨⟨by omega,by omega⟩,?_⟩,?_⟩
  ·have:∀l:List GV,(∀x∈l,CK x)->b8 l:=by
    intro l
    induction l with
    | nil=>exact fun _=>trivial
    | cons a l ih=>exact fun h=>⟨h a (by simp),ih fun x hx=>h x (by simp[hx])⟩
   exact this l fun x h=>(hx x h).1
  rw[e,Int.toNat_natCast]
  have hj:∀obj,(EJ obj ks (wL l) l.length).length<=200*rH FO ks+230*rH (fun x=>(YJ d x).toNat) l:=fun obj=>by
   have h1:=zlp obj ks (wL l) l.length
   have h2:=zkG DG ks l.length
   have h3:=zkG PB (wL l) l.length
   have h4:rH PB (wL l)=rH (fun x=>(ED x).length) l:=by
    rw[s7];simp[rH,Function.comp_def]
   have h5:rH DG ks<=100*rH FO ks:=by
    rw[<-zjV]
    exact tk fun s _=>by unfold FO;omega
   have h6:4*l.length+rH (fun x=>(ED x).length) l<=230*rH (fun x=>(YJ d x).toNat) l:=by
    rw[<-zjV,<-zgF,<-zmW]
    exact tk fun x h=>by have:=(hx x h).2;omega
   omega
  rw[ED]
  have hq:=zm9 t
  have hi:=WT n hn.1
  split
  ·simp only[HA,SA];omega
  split
  ·simp only[HA,SA];omega
  split
  ·omega
  split
  ·omega
  split
  ·have:=hj false
   simp only[HA,qA,SA];omega
  split
  ·have:=hj true
   simp only[HA,qA,SA];omega
  ·simp only[HA,SA];omega
end
section
open Go Go.Tw
open Classical
theorem uf{a b c b':List V}{n:Nat}(hn:n=a.length)(hl:b'.length=b.length):zD (a++(b++c)) n b'=some (a++(b'++c)):=by
 subst hn
 unfold zD
 rw[if_pos (by simp only[qA];omega),List.take_left,<-XA a b c,IF (by rw[qA,hl]),XA]
def WH(x:GNode)(bc:List V):List V:=ze x.rev++(ze x.parent++(vA x.deleted::vA x.has::bc))
theorem zpE(x:GNode):WH x (zR x.body)=za x:=rfl
theorem Nf(x:GNode){bc:List V}(h:bc.length=5):(WH x bc).length=41:=by simp[WH,zi,h]
theorem zlT(x:GNode){bc:List V}(h:bc.all HB=true):(WH x bc).all HB=true:=by
 have:=VN x
 unfold za at this
 simp only[WH,List.all_append,CD,wA] at this ⊢
 exact⟨this.1,this.2.1,this.2.2.1,this.2.2.2.1,h⟩
theorem zhW(x:GNode){bc bc':List V}(hl:bc'.length=bc.length):zD (WH x bc) 36 bc'=some (WH x bc'):=by
 have e:∀c,WH x c=(ze x.rev++ze x.parent++[vA x.deleted,vA x.has])++(c++[]):=fun c=>by simp[WH]
 rw[e,e]
 exact uf (by simp[zi]) hl
theorem zhg(x:GNode)(bc:List V)(H X:Heap)(hl:bc.length=5)(h1:bc.all HB=true)(hX:Gw ((H.push (.cells (za x) 38)).push (.cells zNode 38)) X)
  (hM:MCall Cx 52 [.agg (zR x.body)] ((H.push (.cells (za x) 38)).push (.cells zNode 38)) (·=⟨.agg bc,X,H.n+2⟩)) (Q:OR->Prop)
  (hQ:Res Cx H (.agg (WH x bc)) ((X.set H.n (.cells (WH x bc) 38)).set (H.n+1) (.cells (WH x bc) 38)) H.n Q .mk):MCall Cx 39 [.agg (za x)] H Q:=by
 refine mB (fn:=Tryz.f39) Tryz.func39 rfl (by decide) (k:=8) rfl (rs:=[.cell 2 38]) rfl ?_
 refine PA zm ?_
 simp -dsimp only[go_sem,bA,gA]
 refine LB zm ?_
 have xn:=hX.n
 rw[iA,iA] at xn
 have x0:X.get H.n=some (.cells (za x) 38):=by rw[hX.old _ (by rw[iA,iA];omega)];simp -dsimp only[go_sem,reduceCtorEq]
 have x1:X.get (H.n+1)=some (.cells zNode 38):=by rw[hX.old _ (by rw[iA,iA];omega)];simp -dsimp only[go_sem,reduceCtorEq]
 have hlt:H.n<X.n:=by omega
 have hlt1:H.n+1<X.n:=by omega
 have sb:zD (za x) 36 bc=some (WH x bc):=zhW x (bc:=zR x.body) (by rw[hl,zF])
 have lb:=Nf x hl
 have ob:=zlT x h1
 have vb:zG (.agg bc)=some bc:=rfl
 have vn:zG (.agg (WH x bc))=some (WH x bc):=rfl
 have wh:QE fA 38 (WH x bc) 0=some (.agg (WH x bc)):=rO m8 NK lb
 have sn:zD zNode 0 (WH x bc)=some (WH x bc):=DM _ _ (by rw[lb];decide)
 simp -dsimp only[go_sem,bA,aA,reduceCtorEq]
 refine oB ?_
 simp -dsimp only[go_sem,bA,aA,reduceCtorEq]
 refine MCall.mono hM ?_
 rintro _ rfl
 simp -dsimp only[go_sem,bA,aA,cA,reduceCtorEq,gA,x0,x1,hlt,hlt1,sb,lb,ob,vb,vn,wh,sn,hl,h1]
 exact Res.at (by omega) hQ
theorem m_39(x:GNode)(hw:x.body.wf)(ht:CK x.body)(H:Heap)(Q:OR->Prop)(hQ:Q ⟨.agg (za x),H,H.n⟩):MCall Cx 39 [.agg (za x)] H Q:=
 zhg x (zR x.body) H _ (zF _) (B7 _) .refl (cU x.body hw ht _ _ (by rw[iA,iA])) Q (HC _ (jA _) (.self _ (by rw[zpE];exact zK x)) hQ)
theorem zk1(x:GNode)(hw:x.body.wf)(ht:CK x.body)(H:Heap):∃X lv kv,Gw H X/\RowAt H.n X lv x.body.list.length (row zR x.body.list)/\RowAt H.n X kv x.body.keys.length (row RH x.body.keys)/\(cG x.body lv kv).all HB=true/\MCall Cx 39 [.agg (za x)] H (·=⟨.agg (WH x (cG x.body lv kv)),X,H.n⟩):=by
 obtain⟨X,lv,kv,hX,h1,h2,h3,h4,h5,h6,hM⟩:=UQ x.body hw ht ((H.push (.cells (za x) 38)).push (.cells zNode 38))
 have xn:=hX.n
 rw[iA,iA] at xn h1 h2
 have onb:(cG x.body lv kv).all HB=true:=by
  show(HB _&&(HB _&&(HB _&&(HB _&&(HB _&&true)))))=true
  rw[h3,h4]
  rfl
 have keep:∀j,j≠H.n->j≠H.n+1->((X.set H.n (.cells (WH x (cG x.body lv kv)) 38)).set (H.n+1) (.cells (WH x (cG x.body lv kv)) 38)).get j=X.get j:=fun j a b=>by
  rw[dA,if_neg (fun h=>b h.1),dA,if_neg (fun h=>a h.1)]
 refine⟨(X.set H.n (.cells (WH x (cG x.body lv kv)) 38)).set (H.n+1) (.cells (WH x (cG x.body lv kv)) 38),lv,kv,⟨by rw[kA,kA];omega,fun j hj=>?_⟩,(h1.of fun j a b=>keep j (by omega) (by omega)).lower (by omega),(h2.of fun j a b=>keep j (by omega) (by omega)).lower (by omega),onb,?_⟩
 ·rw[keep j (by omega) (by omega),hX.old _ (by rw[iA,iA];omega),zj _ (by rw[iA];omega),zj _ hj]
 ·refine zhg x _ H X rfl onb hX ?_ _ (nB rfl)
  rw[iA,iA] at hM
  exact hM
def OwnNs(n:Nat)(X:Heap):List GNode->List V->Prop
 | [],cs=>cs=[]
 | x::xs,cs=>∃lv kv r,cs=WH x (cG x.body lv kv)++r/\RowAt n X lv x.body.list.length (row zR x.body.list)/\RowAt n X kv x.body.keys.length (row RH x.body.keys)/\OwnNs n X xs r
theorem OwnNs.snoc{n:Nat}{X:Heap}:∀{l:List GNode} {cs:List V} {x:GNode} {lv kv:V},OwnNs n X l cs->RowAt n X lv x.body.list.length (row zR x.body.list)->RowAt n X kv x.body.keys.length (row RH x.body.keys)->OwnNs n X (l++[x]) (cs++WH x (cG x.body lv kv))
 | [],cs,x,lv,kv,h,h1,h2=>by
  rw[OwnNs] at h
  subst h
  exact⟨lv,kv,[],by simp,h1,h2,rfl⟩
 | a::l,cs,x,lv,kv,h,h1,h2=>by
  obtain⟨lv',kv',r,rfl,k1,k2,k3⟩:=h
  exact⟨lv',kv',r++WH x (cG x.body lv kv),by rw[XA],k1,k2,OwnNs.snoc k3 h1 h2⟩
theorem OwnNs.of{n:Nat}{X Y:Heap}(ho:∀j,n<=j->j<X.n->Y.get j=X.get j):∀{l:List GNode} {cs:List V},OwnNs n X l cs->OwnNs n Y l cs
 | [],cs,h=>h
 | a::l,cs,h=>by
  obtain⟨lv',kv',r,rfl,k1,k2,k3⟩:=h
  exact⟨lv',kv',r,rfl,k1.of ho,k2.of ho,OwnNs.of ho k3⟩
theorem OwnNs.len{n:Nat}{X:Heap}:∀{l:List GNode} {cs:List V},OwnNs n X l cs->cs.length=l.length*41
 | [],cs,h=>by rw[OwnNs] at h;subst h;rfl
 | a::l,cs,h=>by
  obtain⟨lv',kv',r,rfl,k1,k2,k3⟩:=h
  rw[qA,Nf a rfl,OwnNs.len k3,HA]
  omega
theorem Lj{Z:Nat->Prop}{X:Heap}(x:GNode){lv kv:V}(h1:Fz Z X lv (NB zR x.body.list))(h2:Fz Z X kv (NB RH x.body.keys)):Fzs Z X (WH x (cG x.body lv kv)) (za x):=by
 unfold WH za
 rw[WJ]
 exact(Fzs.self (zz _)).append ((Fzs.self (zz _)).append (.cons _ _ _ _ (.self _ rfl) (.cons _ _ _ _ (.self _ rfl) (.cons _ _ _ _ (.self _ rfl) (.cons _ _ _ _ (.self _ rfl) (.cons _ _ _ _ (.self _ rfl) (.two h1 h2)))))))
theorem OwnNs.fz{n:Nat}{X:Heap}{Z:Nat->Prop}(hZ:∀b,n<=b->Z b):∀{l:List GNode} {cs:List V},OwnNs n X l cs->Fzs Z X cs (row za l)
 | [],cs,h=>by rw[OwnNs] at h;subst h;exact .nil
 | a::l,cs,h=>by
  obtain⟨lv',kv',r,rfl,k1,k2,k3⟩:=h
  rw[iJ]
  exact(Lj a (Pk TL hZ k1) (Pk KO hZ k2)).append (OwnNs.fz hZ k3)
theorem zpc{a b c b':List V}{n:Nat}(hn:n=a.length)(hl:b'.length=b.length):zD (a++b++c) n b'=some (a++b'++c):=by
 rw[XA,uf hn hl,XA]
def OwnT(n:Nat)(X:Heap)(l:List GNode)(nv:V):Prop:=(l=[]/\nv=.pn [] 0)\/∃k cs,nv=.sl k 0 l.length l.length (some 41)/\n<=k/\X.get k=some (.cells cs 38)/\OwnNs (k+1) X l cs
theorem zp4{n:Nat}{X:Heap}{l:List GNode}{nv:V}{Z:Nat->Prop}(hZ:∀b,n<=b->Z b)(h:OwnT n X l nv):Fz Z X nv (NB za l):=by
 rcases h with⟨rfl,rfl⟩|⟨k,cs,rfl,hk,hX,hO⟩
 ·exact .self _ rfl
 ·exact .sl k 0 _ _ _ cs _ cs.length _ (hZ k hk) hX (jA _) (by rw[List.drop_zero,FB];exact hO.fz fun b hb=>hZ b (by omega))
theorem OwnT.of{n:Nat}{X Y:Heap}{l:List GNode}{nv:V}(ho:∀j,n<=j->j<X.n->Y.get j=X.get j)(h:OwnT n X l nv):OwnT n Y l nv:=by
 rcases h with h|⟨k,cs,h1,h2,h3,h4⟩
 ·exact .inl h
 ·exact .inr ⟨k,cs,h1,h2,by rw[ho k h2 (zq h3),h3],h4.of fun j a b=>ho j (by omega) b⟩
structure OwI(H:Heap)(l:List GNode)(Y:Heap)(k:Nat)(i:Nat)(X:Heap):Prop where
 le:i<=l.length
 n:Y.n<=X.n
 old:∀j,j<Y.n->(l≠[]->j≠k)->X.get j=Y.get j
 ce:l≠[]->∃cs,X.get k=some (.cells (cs++row za (l.drop i)) 38)/\OwnNs (k+1) X (l.take i) cs
theorem Sb(t:GTree)(hl:t.nodes.length<=1048575)(hw:∀x∈t.nodes,x.body.wf)(ht:∀x∈t.nodes,CK x.body)(H:Heap)(Q:OR->Prop)(hQ:∀X nv,Gw H X->OwnT H.n X t.nodes nv->Q ⟨.agg [nv],X,H.n⟩):MCall Cx 11 [.agg (zp t)] H Q:=by
 refine mB (fn:=Tryz.f11) Tryz.func11 rfl (by decide) (k:=25) rfl (rs:=[.cell 2 24]) rfl ?_
 refine PA zm ?_
 simp -dsimp only[go_sem,bA,gA]
 refine PA zm ?_
 simp -dsimp only[go_sem,bA,aA,reduceCtorEq]
 refine oB ?_
 simp -dsimp only[go_sem,bA,aA,reduceCtorEq]
 refine Qc t.nodes (by omega) _ _ ?_
 intro Y k lo1 hY hlo1 hk
 have yn:=hY.n
 rw[iA,iA] at yn hlo1 hk
 have y0:Y.get H.n=some (.cells (zp t) 24):=by rw[hY.old _ (by rw[iA,iA];omega)];simp -dsimp only[go_sem,reduceCtorEq]
 have y1:Y.get (H.n+1)=some (.cells oJ 24):=by rw[hY.old _ (by rw[iA,iA];omega)];simp -dsimp only[go_sem,reduceCtorEq]
 generalize hnv:XH 41 t.nodes k=nv
 have vnv:zG nv=some [nv]:=by rw[<-hnv];exact zo4 _ _ _
 have onv:HB nv=true:=by rw[<-hnv];exact zmd _ _ _
 have tL:[nv].all HB=true:=by simp[onv]
 have e1:[nv].length=1:=rfl
 have hlt:H.n<Y.n:=by omega
 have spt:zD (zp t) 0 [nv]=some [nv]:=rfl
 simp -dsimp only[go_sem,cA,y0,spt,vnv,tL,e1]
 generalize hU:Y.set H.n (.cells [nv] 24)=U
 have un:U.n=Y.n:=by rw[<-hU,kA]
 have uo:∀j,j≠H.n->U.get j=Y.get j:=fun j hj=>by rw[<-hU,dA,if_neg (fun h=>hj h.1)]
 have u0:U.get H.n=some (.cells [nv] 24):=by rw[<-hU,dA,if_pos ⟨rfl,hlt⟩]
 clear hU
 refine WB H.n [(1,.ptr H.n 0),(2,.ptr (H.n+1) 0)] (by omega) zSl ?_
 have lenl:qH fA U 22 nv=some (vA t.nodes.length):=by
  rw[<-hnv]
  unfold XH
  split
  ·rename_i e;rw[e];exact dS FA _ _
  ·exact sV FA _ _ _ _ _
 refine LB zm ?_
 simp -dsimp only[go_sem,bA,aA,zf,zh,u0,lenl]
 refine fE zm (ι:=Nat×Heap) (fun p=>[(1,.ptr H.n 0),(2,.ptr (H.n+1) 0),(10,nv),(11,vA t.nodes.length),(12,vA p.1)]) (fun p=>p.2) (fun _=>H.n)
  (fun p=>OwI H t.nodes U k p.1 p.2) (fun p=>t.nodes.length-p.1) (0,U) ⟨by omega,jA _,fun _ _ _=>rfl,fun hne=>⟨[],?_,rfl⟩⟩ ?_ ?_
 ·rw[uo _ (by have:=(hk hne).1;omega)]
  exact(hk hne).2
 ·refine(MB (lo2:=H.n) (by omega)).trans (RB _ zSl)
 rintro⟨i,X⟩ ⟨hi,hXn,hXo,hce⟩
 simp only at hi hXn hXo hce ⊢
 simp -dsimp only[go_sem,bA,aA,zf,zh]
 refine aB (fun h=>?_) (fun h=>?_)<;>simp -dsimp only[go_sem,bA,aA,h]
 ·obtain⟨x,hx⟩:=zu h
  have hne:t.nodes≠[]:=fun e=>by rw[e] at h;exact absurd h (OD _)
  have hkl:=(hk hne).1
  have enV:nv=.sl k 0 t.nodes.length t.nodes.length (some 41):=by rw[<-hnv,XH,if_neg hne]
  subst enV
  obtain⟨cs,hXk,hOw⟩:=hce hne
  have ltk:=zq hXk
  have hX0:X.get H.n=some (.cells [.sl k 0 t.nodes.length t.nodes.length (some 41)] 24):=by rw[hXo _ (by omega) (fun _=>by omega),u0]
  have hcl:cs.length=i*41:=by rw[hOw.len,JB];congr 1;omega
  have hdr:t.nodes.drop i=x::t.nodes.drop (i+1):=by
   have hi':=(rA.1 hx)
   rw[<-hi'.2]
   exact List.drop_eq_getElem_cons hi'.1
  rw[hdr,iJ,<-XA] at hXk
  have pn:QE fA 38 (cs++za x++row za (t.nodes.drop (i+1))) (i*41)=some (.agg (za x)):=by
   rw[TM fA 38 m8 NK,if_pos (by simp only[qA,zg];omega),XA,IF hcl,mC (zg x)]
  simp -dsimp only[go_sem,bA,aA,h,hXk,pn]
  generalize hX1:(X.push (.cells zNode 38)).set X.n (.cells (za x) 38)=X1
  have a1:X1.n=X.n+1:=by rw[<-hX1,kA,iA]
  have a2:X1.get X.n=some (.cells (za x) 38):=by rw[<-hX1,dA,if_pos ⟨rfl,by rw[iA];omega⟩]
  have a3:∀j,j<X.n->X1.get j=X.get j:=fun j hj=>by rw[<-hX1,dA,if_neg (fun h=>absurd h.1 (by omega)),zj j hj]
  have b0:X1.get H.n=some (.cells [.sl k 0 t.nodes.length t.nodes.length (some 41)] 24):=by rw[a3 _ (by omega),hX0]
  obtain⟨W,lv,kv,hW,w1,w2,w3,cN⟩:=zk1 x (hw x (IA hx)) (ht x (IA hx)) X1
  have wn:=hW.n
  have wk:W.get k=some (.cells (cs++za x++row za (t.nodes.drop (i+1))) 38):=by rw[hW.old _ (by omega),a3 _ ltk,hXk]
  have ltw:k<W.n:=zq wk
  have sp:zD (cs++za x++row za (t.nodes.drop (i+1))) (i*41) (WH x (cG x.body lv kv))=some (cs++WH x (cG x.body lv kv)++row za (t.nodes.drop (i+1))):=zpc hcl.symm (by rw[Nf x rfl,zg])
  have vb:zG (.agg (WH x (cG x.body lv kv)))=some (WH x (cG x.body lv kv)):=rfl
  have lb:=Nf x (bc:=cG x.body lv kv) rfl
  have ob:=zlT x w3
  refine DR.wr _ ((CA (wN cN) xA)) [(1,3),(1,4)] (by kernel_rfl) (by kernel_rfl) ?_
  simp -dsimp only[go_sem,bA,aA,h,a2,b0,wk,sp,vb,lb,ob]
  refine zAg (i+1,W.set k (.cells (cs++WH x (cG x.body lv kv)++row za (t.nodes.drop (i+1))) 38)) ?_
  dsimp only
  have keep:∀j,j≠k->(W.set k (.cells (cs++WH x (cG x.body lv kv)++row za (t.nodes.drop (i+1))) 38)).get j=W.get j:=fun j hj=>by rw[dA,if_neg (fun h=>hj h.1)]
  have keep2:∀j,j<X.n->j≠k->(W.set k (.cells (cs++WH x (cG x.body lv kv)++row za (t.nodes.drop (i+1))) 38)).get j=X.get j:=fun j h1 h2=>by rw[keep j h2,hW.old _ (by omega),a3 _ h1]
  have htk:t.nodes.take (i+1)=t.nodes.take i++[x]:=by rw[yB,hx];rfl
  refine⟨h,by rw[kA];omega,fun j hj hjk=>by rw[keep2 _ (by omega) (hjk hne),hXo _ hj hjk],fun _=>⟨cs++WH x (cG x.body lv kv),by rw[dA,if_pos ⟨rfl,ltw⟩],?_⟩⟩
  rw[htk]
  exact(hOw.of fun j h1 h2=>keep2 j h2 (by omega)).snoc ((w1.of fun j h1 h2=>keep j (by omega)).lower (by omega)) ((w2.of fun j h1 h2=>keep j (by omega)).lower (by omega))
 ·have hie:i=t.nodes.length:=by omega
  have hX0:X.get H.n=some (.cells [nv] 24):=by
   rw[hXo _ (by omega) (fun hne=>by have:=(hk hne).1;omega),u0]
  have hX1:X.get (H.n+1)=some (.cells oJ 24):=by rw[hXo _ (by omega) (fun hne=>by have:=(hk hne).1;omega),uo _ (by omega),y1]
  have whole:QE fA 24 [nv] 0=some (.agg [nv]):=rO vV kV rfl
  have hl1:H.n+1<X.n:=by omega
  have vcb:zG (.agg [nv])=some [nv]:=rfl
  have spz:zD oJ 0 [nv]=some [nv]:=rfl
  simp -dsimp only[go_sem,aA,hX0,hX1,whole,hl1,vcb,spz,tL,e1]
  have keep:∀j,j≠H.n+1->(X.set (H.n+1) (.cells [nv] 24)).get j=X.get j:=fun j hj=>by rw[dA,if_neg (fun h=>hj h.1)]
  refine Res.at (lo2:=H.n) (by omega) (nB (h:=.mk) (hQ _ nv ⟨by rw[kA];omega,fun j hj=>?_⟩ ?_))
  ·rw[keep j (by omega),hXo _ (by omega) (fun hne=>by have:=(hk hne).1;omega),uo _ (by omega),hY.old _ (by rw[iA,iA];omega),zj _ (by rw[iA];omega),zj _ hj]
  ·by_cases hne:t.nodes=[]
   ·exact .inl ⟨hne,by rw[<-hnv,XH,if_pos hne]⟩
   ·obtain⟨cs,hXk,hOw⟩:=hce hne
    have:=(hk hne).1
    rw[hie,List.drop_length,xX,MA] at hXk
    rw[hie,FB] at hOw
    exact .inr ⟨k,cs,by rw[<-hnv,XH,if_neg hne],by omega,by rw[keep _ (by omega)];exact hXk,hOw.of fun j h1 h2=>keep j (by omega)⟩
end
section
open Go Go.Tw
open Classical
@[go_sem] theorem Wf:zE fA 3=some [vA 0]:=by kernel_rfl
def fN(xs:List GNode)(q:GRev):Nat:=xs.countP fun n=>decide (n.rev=q)
structure IsCnt(X:Heap)(b bm:Nat)(xs:List GNode):Prop where
 ex:X.get b=some (mapM (xs.map (·.rev)))
 var:X.get bm=some (.cells [.mp b] 58)
theorem IsCnt.of{X Y:Heap}{b bm:Nat}{xs:List GNode}(h:IsCnt X b bm xs)(h1:Y.get b=X.get b)(h2:Y.get bm=X.get bm):IsCnt Y b bm xs:=⟨h1.trans h.ex,h2.trans h.var⟩
theorem ziD(xs ys:List GNode)(q:GRev):fN (xs++ys) q=fN xs q+fN ys q:=List.countP_append
theorem zlu(xs:List GNode)(q:GRev):BH (GH (xs.map (·.rev))).1 q=(fN xs q:Nat):=by
 rw[(Ek _).2,List.countP_map]
 rfl
def I4(l:List GNode)(n:GNode):List GNode:=(kI l 32 n.rev).take 16
def yJ(l:List GNode)(ls:List GNode):List GNode:=ls.flatMap (I4 l)
theorem zjg{l ls:List GNode}{i:Nat}{x:GNode}(h:ls[i]?=some x):yJ l (ls.take (i+1))=yJ l (ls.take i)++I4 l x:=by
 obtain⟨hi,rfl⟩:=rA.1 h
 have:ls.take (i+1)=ls.take i++[ls[i]]:=by rw[yB,sA hi];rfl
 rw[this,yJ,List.flatMap_append]
 simp[yJ]
theorem znk(l ls:List GNode)(q:GRev):∀i,fN (yJ l (ls.take i)) q<=16*i
 | 0=>by simp[yJ,fN]
 | i+1=>by
  have ih:=znk l ls q i
  rcases RA i ls.length with h|h
  ·rw[zjg (sA h),ziD]
   have:fN (I4 l ls[i]) q<=16:=cB OE (by rw[I4,JB];omega)
   omega
  ·rw[uA (by omega)] at ih ⊢
   omega
theorem Hk {C : Ctx} {nt : Nat} {ro : Option Nat} {H0 : Heap} {T : Tr V} {H : Heap} {lo : Nat} {Q : Ex → St → Prop} {q : Operand} {ps : Array Tmp} {assign body : Code} {g : FuncId} {fn : Func} {first cap : List V} {h : Hid (Code.rangeFunc q ps assign body, Q)} (hro : mN H ro = true) (hq : HD C T q = .fn (.func g) first cap) (hf : C.P.funcs[g]? = some fn) (hb : fn.body.isSome = true) (hn : fn.name ≠ "runtime.NumGoroutine")
  (k:∀A B,A=assign->B=body->MCall C g (first++[.yld H.n]++cap) (H.push (.loop (lI nt T) ps.toList A B .ready none)) fun r=>
   ∃ts ps' a' b' sta pd,r.H.get H.n=some (.loop ts ps' a' b' sta pd)/\sta≠.busy/\match pd with
    | none=>Q .normal ⟨T,r.H.set H.n (.loop ts ps' a' b' .exhausted pd),min lo r.lo⟩
    | some c=>WW C nt ro H0 c T (r.H.set H.n (.loop ts ps' a' b' .exhausted pd)) (min lo r.lo) Q .mk):WW C nt ro H0 (.rangeFunc q ps assign body) T H lo Q h:=WW.range hro hq hf hb hn (k _ _ rfl rfl)
structure XV(l:List GNode)(H X:Heap)(base:List GNode)(way:List GNode)(bl bk:Nat)(T:Tr V)(A B:Code)(sta:LoopState)(pd:Option Code)(n:Nat)(Z:Heap):Prop where
 loop:Z.get bl=some (.loop (lI 34 T) [20] A B sta pd)
 k:Z.get bk=some (.cells [vA n] 3)
 cnt:IsCnt Z H.n (H.n+1) (base++way.take n)
 gw:Gw H Z
 le:n<=16
 big:bl<Z.n
theorem Kc(l:List GNode)(hl:l.length<=1048576)(H:Heap)(Q:OR->Prop)(hQ:Q ⟨.mp H.n,H.push (mapM ((yJ l (zS l)).map (·.rev))),H.n⟩):MCall Cx 22 [AH l] H Q:=by
 refine QA zm (fn:=Tryz.f22) Tryz.func22 rfl (by decide) (k:=34) rfl (rs:=[.tmp 2]) rfl ?_
 simp -dsimp only[go_sem,bA,aA,cA,reduceCtorEq]
 refine oB ?_
 simp -dsimp only[go_sem,bA,aA,reduceCtorEq]
 refine aU l hl _ _ ?_
 simp -dsimp only[go_sem,bA,cA,reduceCtorEq,gA]
 generalize hX0:((H.push (.map [] 0)).push (.cells [.lit (.map none)] 58)).set (H.n+1) (.cells [.mp H.n] 58)=X0
 have x1:X0.n=H.n+2:=by rw[<-hX0,kA,iA,iA]
 have x2:X0.get (H.n+1)=some (.cells [.mp H.n] 58):=by rw[<-hX0,dA,if_pos ⟨rfl,by rw[iA,iA];omega⟩]
 have x3:∀j,j<H.n+1->X0.get j=(H.push (.map [] 0)).get j:=fun j hj=>by rw[<-hX0,dA,if_neg (fun h=>absurd h.1 (by omega)),zj j (by rw[iA];omega)]
 have x4:X0.get H.n=some (.map (BI []) 0):=by rw[x3 _ (by omega),yA,if_pos rfl];rfl
 have hll:(zS l).length<=l.length:=List.length_filter_le _ _
 refine fE zm (ι:=Nat×Heap) (fun p=>[(0,AH l),(3,.ptr (H.n+1) 0),(10,NB za (zS l)),(11,vA (zS l).length),(12,vA p.1)]) (fun p=>p.2) (fun _=>H.n)
  (fun p=>p.1<=(zS l).length/\Gw H p.2/\H.n+2<=p.2.n/\IsCnt p.2 H.n (H.n+1) (yJ l ((zS l).take p.1))) (fun p=>(zS l).length-p.1) (0,X0) ?_ ?_ ?_
 ·dsimp only
  refine⟨KB _,⟨by omega,fun j hj=>by rw[x3 j (by omega),zj j hj]⟩,by omega,⟨x4,x2⟩⟩
 ·refine(MB (lo2:=H.n) (by omega)).trans (RB _ zSl)
 rintro⟨i,X⟩ ⟨hi,hX,hn,hc⟩
 simp only at hi hX hn hc ⊢
 simp -dsimp only[go_sem,bA,aA,reduceCtorEq,zf,zh]
 refine aB (fun h=>?_) (fun h=>?_)<;>simp -dsimp only[go_sem,bA,aA,reduceCtorEq,h]
 ·obtain⟨x,hx⟩:=zu h
  simp -dsimp only[go_sem,bA,aA,cA,reduceCtorEq,h,z7 zg hx]
  refine oB ?_
  simp -dsimp only[go_sem,cA,reduceCtorEq]
  refine Tc l x.rev _ _ ?_
  simp -dsimp only[go_sem,cA]
  generalize hY:(((((X.push (.cells zNode 38)).set X.n (.cells (za x) 38)).push (.cells [vA 0] 3)).set (X.n+1) (.cells [.lit (.int .i64 0)] 3)).push (.cells [AH l] 53)).push (.cells (ze x.rev) 32)=Y
  have y1:Y.n=X.n+4:=by rw[<-hY];simp -dsimp only[go_sem,cA]
  have y2:Y.get (X.n+1)=some (.cells [vA 0] 3):=by rw[<-hY];simp -dsimp only[go_sem,bA,aA,cA,reduceCtorEq]
  have y3:Y.get (X.n+2)=some (.cells [AH l] 53):=by rw[<-hY];simp -dsimp only[go_sem,bA,aA,cA,reduceCtorEq]
  have y4:Y.get (X.n+3)=some (.cells (ze x.rev) 32):=by rw[<-hY];simp -dsimp only[go_sem,bA,aA,cA,reduceCtorEq]
  have y5:Gw X Y:=⟨by omega,fun j hj=>by
   rw[<-hY,zj _ (by simp -dsimp only[go_sem,cA];omega),zj _ (by simp -dsimp only[go_sem,cA];omega),dA,if_neg (fun h=>absurd h.1 (by omega)),zj _ (by simp -dsimp only[go_sem];omega),dA,if_neg (fun h=>absurd h.1 (by omega)),zj _ hj]⟩
  refine WW.keep [(0,AH l),(3,.ptr (H.n+1) 0),(6,.ptr (X.n+1) 0),(10,NB za (zS l)),(11,vA (zS l).length),(12,vA i),(19,.fn (.func 83) [] [.ptr (X.n+2) 0,.ptr (X.n+3) 0])] zSl ?_
  refine Hk rfl (first:=[]) (cap:=[.ptr (X.n+2) 0,.ptr (X.n+3) 0]) (by simp -dsimp only[go_sem,aA,reduceCtorEq,zf,zh]) Tryz.func83 rfl (by decide) fun A B hA hB=>?_
  generalize hT0:jH [(0,AH l),(3,.ptr (H.n+1) 0),(6,.ptr (X.n+1) 0),(10,NB za (zS l)),(11,vA (zS l).length),(12,vA i),(19,.fn (.func 83) [] [.ptr (X.n+2) 0,.ptr (X.n+3) 0])]=T0
  have t3:PD T0 3=.ptr (H.n+1) 0:=by rw[<-hT0];simp -dsimp only[go_sem,aA,reduceCtorEq,zf,zh]
  have t6:PD T0 6=.ptr (X.n+1) 0:=by rw[<-hT0];simp -dsimp only[go_sem,aA,reduceCtorEq,zf,zh]
  have hbase:=fun q=>znk l (zS l) q i
  refine Yc l (by omega) (by omega) x.rev (.yld Y.n) (X.n+2) (X.n+3) H.n (by omega) (by omega)
   (XV l H X (yJ l ((zS l).take i)) (kI l 32 x.rev) Y.n (X.n+1) T0 A B .ready none)
   (XV l H X (yJ l ((zS l).take i)) (kI l 32 x.rev) Y.n (X.n+1) T0 A B .done (some (.exit 2)) 16) ⟨?_,?_⟩ _ ?_ ?_ ?_ ?_ _ ?_
  ·intro n Z y hI hy Q' hgo hstop
   obtain⟨z1,z2,z3,z4,z5,z6⟩:=hI
   refine MVal.round z1 (by rw[eV];decide) [(3,.ptr (H.n+1) 0),(6,.ptr (X.n+1) 0),(20,.agg (za y))] ?_ ?_
   ·simp only[List.forall_mem_cons,List.not_mem_nil,false_implies,implies_true,and_true,Vj,I2 (show 3<34 by decide),I2 (show 6<34 by decide),t3,t6]
    simp
   rw[eV,hA]
   refine LB zm ?_
   simp -dsimp only[go_sem,bA,aA,gA,zf,zh]
   generalize hZ1:(Z.push (.cells zNode 38)).set Z.n (.cells (za y) 38)=Z1
   have a1:Z1.n=Z.n+1:=by rw[<-hZ1,kA,iA]
   have a2:Z1.get Z.n=some (.cells (za y) 38):=by rw[<-hZ1,dA,if_pos ⟨rfl,by rw[iA];omega⟩]
   have a3:∀j,j<Z.n->Z1.get j=Z.get j:=fun j hj=>by rw[<-hZ1,dA,if_neg (fun h=>absurd h.1 (by omega)),zj j hj]
   refine⟨rfl,lI 34 T0,[20],A,B,none,by rw[a3 _ z6,z1],?_⟩
   dsimp only
   generalize hZ2:Z1.set Y.n (.loop (lI 34 T0) [20] A B .busy none)=Z2
   have b1:Z2.n=Z.n+1:=by rw[<-hZ2,kA,a1]
   have b2:Z2.get Y.n=some (.loop (lI 34 T0) [20] A B .busy none):=by rw[<-hZ2,dA,if_pos ⟨rfl,by omega⟩]
   have b3:∀j,j<Z.n->j≠Y.n->Z2.get j=Z.get j:=fun j hj hjn=>by rw[<-hZ2,dA,if_neg (fun h=>hjn h.1),a3 j hj]
   have b4:Z2.get Z.n=some (.cells (za y) 38):=by rw[<-hZ2,dA,if_neg (fun h=>absurd h.1 (by omega)),a2]
   have c1:Z2.get (X.n+1)=some (.cells [vA n] 3):=by rw[b3 _ (by omega) (by omega),z2]
   have c2:Z2.get (H.n+1)=some (.cells [.mp H.n] 58):=by rw[b3 _ (by omega) (by omega),z3.var]
   have d1:=z3.ex
   generalize hK:(yJ l ((zS l).take i)++(kI l 32 x.rev).take n).map (·.rev)=K at d1
   have d2:=(Ek K).1
   have d3:∀q,BH (GH K).1 q=((fN (yJ l ((zS l).take i)) q+fN ((kI l 32 x.rev).take n) q:Nat):Int):=fun q=>by rw[<-hK,zlu,ziD]
   rw[mapM] at d1
   generalize hc1:(GH K).1=c at d1 d2 d3
   generalize hc2:(GH K).2=clk at d1 d2
   have d0:(c,clk)=GH K:=by rw[<-hc1,<-hc2]
   have c3:Z2.get H.n=some (.map (BI c) clk):=by rw[b3 _ (by omega) (by omega),d1]
   rw[hB]
   refine LB zm ?_
   simp -dsimp only[go_sem,bA,aA,c1]
   have hlt:=(rA.1 hy).1
   refine aB (fun g=>?_) (fun g=>?_)<;>simp -dsimp only[go_sem,aA,g]
   ·have hn16:n=16:=by omega
    refine⟨lI 34 T0,[20],A,B,.busy,none,b2,?_⟩
    dsimp only[eS,YR,uN]
    refine hstop _ _ ⟨by rw[dA,if_pos ⟨rfl,by omega⟩],?_,?_,?_,jA _,by rw[kA];omega⟩ (by omega) (by rw[kA];omega)
    ·rw[dA,if_neg (fun h=>absurd h.1 (by omega)),c1,hn16]
    ·rw[<-hn16]
     exact z3.of (by rw[dA,if_neg (fun h=>absurd h.1 (by omega)),b3 _ (by omega) (by omega)]) (by rw[dA,if_neg (fun h=>absurd h.1 (by omega)),b3 _ (by omega) (by omega)])
    ·exact⟨by rw[kA];omega,fun j hj=>by rw[dA,if_neg (fun h=>absurd h.1 (by omega)),b3 _ (by omega) (by omega),z4.old j hj]⟩
   ·have hn16:n<16:=by omega
    refine DR.wr _ xA [(0,2),(3,5)] (by kernel_rfl) (by kernel_rfl) ?_
    simp -dsimp only[go_sem,bA,aA,c2,b4]
    refine OO.keep (Z3 (c:=c) (clk:=clk) c3 y.rev) ?_
    have hcb:fN (yJ l ((zS l).take i)) y.rev+fN ((kI l 32 x.rev).take n) y.rev<=16*i+n:=Nat.add_le_add (hbase y.rev) (cB OE (by rw[JB];omega))
    have e1:IntKind.i64.wrap (BH c y.rev+1)=((fN (yJ l ((zS l).take i)) y.rev+fN ((kI l 32 x.rev).take n) y.rev+1:Nat):Int):=by rw[d3,PR (by omega)]
    simp -dsimp only[go_sem,bA,aA,e1]
    obtain⟨m,H1,h1,h2,h3,h4⟩:=zqm (H:=Z2) (b:=H.n) (c:=c) (clk:=clk) c3 d2 y.rev
    obtain⟨H2,c2',clk2,k1,k2,k3,k4,k5,k6,k7,k8⟩:=h4 (fN (yJ l ((zS l).take i)) y.rev+fN ((kI l 32 x.rev).take n) y.rev+1:Nat)
    refine rB h1 ?_
    simp -dsimp only[go_sem,bA,aA]
    refine rB k1 ?_
    simp -dsimp only[go_sem,bA,aA,ziG (zm1 _)]
    have c4:H2.get (X.n+1)=some (.cells [vA n] 3):=by rw[k3 _ (by omega),c1]
    have e2:IntKind.i64.wrap ((n:Int)+1)=((n+1:Nat):Int):=PR (by omega)
    simp -dsimp only[go_sem,bA,aA,c4,e2]
    generalize hH3:H2.set (X.n+1) (.cells [vA (n+1:Nat)] 3)=H3
    have f1:H3.n=Z.n+1:=by rw[<-hH3,kA,k2,b1]
    have f3:∀j,j≠X.n+1->j≠H.n->H3.get j=Z2.get j:=fun j h1 h2=>by rw[<-hH3,dA,if_neg (fun h=>h1 h.1),k3 j h2]
    refine⟨lI 34 T0,[20],A,B,.busy,none,by rw[f3 _ (by omega) (by omega),b2],?_⟩
    dsimp only[eS,YR,uN]
    refine hgo _ _ ⟨by rw[dA,if_pos ⟨rfl,by omega⟩],?_,⟨?_,?_⟩,⟨by rw[kA];omega,fun j hj=>?_⟩,by omega,by rw[kA];omega⟩ (by omega) (by rw[kA];omega) ?_ ?_
    ·rw[dA,if_neg (fun h=>absurd h.1 (by omega)),<-hH3,dA,if_pos ⟨rfl,by omega⟩]
    ·rw[dA,if_neg (fun h=>absurd h.1 (by omega)),<-hH3,dA,if_neg (fun h=>absurd h.1 (by omega)),k4]
     have e3:(yJ l ((zS l).take i)++(kI l 32 x.rev).take (n+1)).map (·.rev)=(yJ l ((zS l).take i)++(kI l 32 x.rev).take n).map (·.rev)++[y.rev]:=by rw[yB,hy];simp
     rw[hK] at e3
     have e4:(c2',clk2)=GH ((yJ l ((zS l).take i)++(kI l 32 x.rev).take (n+1)).map (·.rev)):=by
      rw[e3,ziE,<-d0,k8,d3]
      rfl
     rw[mapM,<-e4]
    ·rw[dA,if_neg (fun h=>absurd h.1 (by omega)),f3 _ (by omega) (by omega),c2]
    ·rw[dA,if_neg (fun h=>absurd h.1 (by omega)),f3 _ (by omega) (by omega),b3 _ (by omega) (by omega),z4.old j hj]
    ·rw[dA,if_neg (fun h=>absurd h.1 (by omega)),f3 _ (by omega) (by omega),b3 _ (by omega) (by omega)]
    ·rw[dA,if_neg (fun h=>absurd h.1 (by omega)),f3 _ (by omega) (by omega),b3 _ (by omega) (by omega)]
  ·intro n Z B' hI hb'
   obtain⟨z1,z2,z3,z4,z5,z6⟩:=hI
   have f:∀j,j≠X.n+3->(Z.set (X.n+3) B').get j=Z.get j:=fun j hj=>by rw[dA,if_neg (fun h=>hj h.1)]
   exact⟨by rw[f _ (by omega),z1],by rw[f _ (by omega),z2],z3.of (f _ (by omega)) (f _ (by omega)),⟨by rw[kA];exact z4.n,fun j hj=>by rw[f _ (by omega),z4.old j hj]⟩,z5,by rw[kA];exact z6⟩
  ·rw[zj _ (by omega)];exact y3
  ·rw[zj _ (by omega)];exact y4
  ·have f:∀j,j<X.n+4->(Y.push (.loop (lI 34 T0) [20] A B .ready none)).get j=Y.get j:=fun j hj=>zj j (by omega)
   refine⟨by rw[yA,if_pos rfl],by rw[f _ (by omega)];exact y2,?_,⟨by rw[iA];omega,fun j hj=>by rw[f _ (by omega),y5.old j (by omega),hX.old j hj]⟩,by omega,by rw[iA];omega⟩
   have:=hc.of (Y:=Y.push (.loop (lI 34 T0) [20] A B .ready none)) (by rw[f _ (by omega),y5.old _ (by omega)]) (by rw[f _ (by omega),y5.old _ (by omega)])
   rw[List.take_zero,MA];exact this
  ·rw[iA];omega
  ·intro Z lo' hfin hlo'
   have fin:∀n,IsCnt Z H.n (H.n+1) (yJ l ((zS l).take i)++(kI l 32 x.rev).take n)->((kI l 32 x.rev).take n=I4 l x)->Gw H Z->Y.n<Z.n->∀(B2:Blk),(i+1<=(zS l).length/\Gw H (Z.set Y.n B2)/\H.n+2<=(Z.set Y.n B2).n/\IsCnt (Z.set Y.n B2) H.n (H.n+1) (yJ l ((zS l).take (i+1)))):=fun n g2 g3 g4 g5 B2=>by
    have f:∀j,j≠Y.n->(Z.set Y.n B2).get j=Z.get j:=fun j hj=>by rw[dA,if_neg (fun h=>hj h.1)]
    refine⟨h,⟨by rw[kA];exact g4.n,fun j hj=>by rw[f _ (by omega),g4.old j hj]⟩,by rw[kA];omega,?_⟩
    have:=g2.of (f H.n (by omega)) (f (H.n+1) (by omega))
    rw[g3,<-zjg hx] at this
    exact this
   subst hT0
   rcases hfin with hI|hE
   ·obtain⟨z1,z2,z3,z4,z5,z6⟩:=hI
    refine⟨_,_,_,_,.ready,none,z1,by decide,?_⟩
    dsimp only
    simp -dsimp only[go_sem,bA,aA,reduceCtorEq,zf,zh]
    refine zAg (i+1,Z.set Y.n (.loop (lI 34 (jH [(0,AH l),(3,.ptr (H.n+1) 0),(6,.ptr (X.n+1) 0),(10,NB za (zS l)),(11,vA (zS l).length),(12,vA i),(19,.fn (.func 83) [] [.ptr (X.n+2) 0,.ptr (X.n+3) 0])])) [20] A B .exhausted none)) ?_
    exact fin _ z3 (by rw[I4,FB,uA z5]) z4 z6 _
   ·obtain⟨z1,z2,z3,z4,z5,z6⟩:=hE
    refine⟨_,_,_,_,.done,some (.exit 2),z1,by decide,?_⟩
    dsimp only
    refine LB zm ?_
    simp -dsimp only[go_sem,bA,aA,reduceCtorEq,zf,zh]
    refine zAg (i+1,Z.set Y.n (.loop (lI 34 (jH [(0,AH l),(3,.ptr (H.n+1) 0),(6,.ptr (X.n+1) 0),(10,NB za (zS l)),(11,vA (zS l).length),(12,vA i),(19,.fn (.func 83) [] [.ptr (X.n+2) 0,.ptr (X.n+3) 0])])) [20] A B .exhausted (some (.exit 2)))) ?_
    exact fin _ z3 rfl z4 z6 _
 ·rw[uA (by omega)] at hc
  simp -dsimp only[go_sem,bA,aA,reduceCtorEq,hc.var]
  exact Res.map hX (by omega) hc.ex (by omega) hQ
end
end Go.Proofs.YtookdinfaoelaaaGreatDoor
namespace Go.Tw
structure HWk(H H2:Heap)(lo:Nat):Prop where
 n:H2.n=H.n
 old:∀b,b<lo->H2.get b=H.get b
 dd:∀b,RC H b↔RC H2 b
 hr:∀(P:PH) (s:Nat->Option Nat) (w:World),HR P s H w->HR P s H2 w
theorem HWk.cells{H:Heap}{b lo:Nat}{cs cs':List V}{e:TypeId}(hb:H.get b=some (.cells cs e))(hlo:lo<=b)
  (h:∀(z:TypeId->Nat) (s:Nat->Option Nat) (d pr:Nat->Prop) (w:World) (arr:List Value),VRs z s d pr w cs (arr.take cs.length)->VRs z s d pr w cs' (arr.take cs'.length)):HWk H (H.set b (.cells cs' e)) lo:=by
 have hlt:=zq hb
 have hd:∀b',RC H b'↔RC (H.set b (.cells cs' e)) b':=fun b'=>by
  by_cases hbb:b'=b
  ·subst hbb
   rw[RC,RC,hb,dA,if_pos ⟨rfl,hlt⟩]
   constructor<;>intro h<;>cases h
  ·rw[RC,RC,dA,if_neg (fun h=>hbb h.1)]
 refine⟨by rw[kA],fun b' hb'=>by rw[dA,if_neg (fun h=>by omega)],hd,fun P s w hr=>⟨fun b' g hs=>?_,hr.inj⟩⟩
 have G:HL s s (RC H) (RC (H.set b (.cells cs' e))) (RE P s w) (RE P s w) w w:=⟨fun b'=>(hd b').1,fun _ _ h=>.inl h,fun _ h=>h,fun _ _ _ _ h=>h,fun _ _ h=>h⟩
 by_cases hbb:b'=b
 ·subst hbb
  obtain⟨arr,fr,h1,h2,h3,h4⟩:=hr.cells hb hs
  exact⟨.cells cs' e,_,by rw[dA,if_pos ⟨rfl,hlt⟩],h1,arr,fr,rfl,VRs.mono G _ _ (h _ _ _ _ _ _ h2),h3⟩
 ·obtain⟨B,o,k1,k2,k3⟩:=hr.dom b' g hs
  exact⟨B,o,by rw[dA,if_neg (fun h=>hbb h.1)];exact k1,k2,k3.mono G⟩
theorem HWk.short{H:Heap}{b lo:Nat}{cs tl:List V}{e:TypeId}(hb:H.get b=some (.cells (cs++tl) e))(hlo:lo<=b):HWk H (H.set b (.cells cs e)) lo:=by
 refine HWk.cells hb hlo fun z s d pr w arr h=>?_
 have h1:=h.take cs.length
 rw[mC,List.take_take,Nat.min_eq_left (by simp)] at h1
 ·exact h1
 ·rfl
theorem HWk.fzs{H:Heap}{b lo:Nat}{cs cs':List V}{e:TypeId}(hb:H.get b=some (.cells cs e))(hlo:lo<=b)(hf:∀X,Fzs (fun _=>False) X cs cs'):HWk H (H.set b (.cells cs' e)) lo:=by
 refine HWk.cells hb hlo fun z s d pr w arr h=>?_
 rw[Fzs.length (hf H)]
 exact Fzs.ok (H:=H) ⟨fun g hg=>hg,fun b cs e hz=>hz.elim⟩ (hf H) h
theorem SR.wk{C:Ctx}{h:Nat->Prop}{nt:Nat}{ro wro:Option Nat}{o:yK}{s:Nat->Option Nat}{w:World}{T:Tr V}{H H2:Heap}{lo:Nat}{a:Act}(hk:HWk H H2 lo)(R:SR C h nt ro wro o s w ⟨T,H,lo⟩ a):SR C h nt ro wro o s w ⟨T,H2,lo⟩ a:=by
 have G:HL s s (RC H) (RC H2) (RE (C.ph h) s w) (RE (C.ph h) s w) w w:=⟨fun b'=>(hk.dd b').1,fun _ _ h=>.inl h,fun _ h=>h,fun _ _ _ _ h=>h,fun _ _ h=>h⟩
 have E:=R.ext
 refine⟨R.ob,hk.hr _ _ _ R.hr,R.gk,R.ln,⟨E.os,E.tape,E.output,E.size,by rw[hk.n];exact E.hn,fun b' hb'=>(hk.dd b').1 (E.dd b' hb'),fun b' g' hb'=>(E.ss b' g' hb').imp id fun h=>⟨(hk.dd b').1 h.1,h.2⟩,E.frame,E.fresh,E.shp,fun b' h1 h2=>by rw[hk.old b' h1,E.old b' h1 h2],fun b' h1 h2=>(E.cov b' h1 (by rw[<-hk.n];exact h2)).imp (hk.dd b').1 id⟩,R.sz,R.df,?_,fun t=>VR.mono G _ _ (R.tm t)⟩
 have q:=R.rd
 revert q
 cases ro<;>cases wro<;>simp only[Rd]
 ·exact fun h=>h
 ·exact fun h=>h
 ·exact fun h=>h
 ·exact fun h=>h.imp (hk.dd _).1 id
theorem Sub.wk{C:Ctx}{nt:Nat}{ro:Option Nat}{H0:Heap}{T:Tr V}{H H2:Heap}{lo:Nat}(hk:HWk H H2 lo):Sub C nt ro H0 ⟨T,H,lo⟩ ⟨T,H2,lo⟩:=fun _ _ _ s _ _ _ R=>⟨s,R.wk hk⟩
theorem MCall.canon{C:Ctx}{g:FuncId}{args:List V}{H:Heap}{Q Q':OR->Prop}(z:Nat)(k:MCall C g args H Q')
  (hq:∀r,Q' r->∃b n c tag cs tl e,r.v=.sl b 0 n c tag/\r.H.get b=some (.cells (cs++tl) e)/\n<=c/\(tag=some z\/(tag=none/\c*z<=(cs++tl).length))/\Q ⟨.sl b 0 n n (some z),r.H.set b (.cells cs e),min b r.lo⟩):MCall C g args H Q:=by
 intro h s w cas K hr hg ha hK
 refine k h s w cas K hr hg ha fun r hr' c w' s' h1 h2 E=>?_
 obtain⟨b,n,c0,tag,cs,tl,e,ev,hb,hn,ht,hQ⟩:=hq r hr'
 have hk:=HWk.short (lo:=b) hb (jA _)
 rw[ev] at h1
 obtain⟨x,cap',rfl,h3,h4,h5⟩:=h1
 obtain⟨g0,hs0,rfl,hop⟩:=h2.live hb (by simp) h5
 obtain⟨arr,fr,k1,k2,k3,k4⟩:=h2.cells hb hs0
 have hsh:w'.shape? g0=some (e,arr.size):=by simp only[XB,k1]
 refine hK _ hQ _ w' s' ⟨_,cap',rfl,by omega,(fun e=>by cases e),.inr ⟨g0,hs0,rfl,fun k e=>?_⟩⟩ (hk.hr _ _ _ h2) ⟨E.os,E.tape,E.output,E.size,by rw[kA];exact E.hn,fun b' hb'=>(hk.dd b').1 (E.dd b' hb'),fun b' g' hb'=>?_,fun g' hg' hb'=>E.frame g' hg' fun b' hb2=>by have:=hb' b' hb2;simp only at this;omega,fun b' g' hb'=>?_,E.shp,fun b' h6 h7=>?_,fun b' h6 h7=>?_⟩
 ·injection e with e
  subst e
  rcases ht with rfl|⟨rfl,ht⟩
  ·obtain⟨e2,n2,q1,q2⟩:=hop z rfl
   exact⟨e2,n2,q1,q2⟩
  ·have:=h4 rfl
   subst this
   exact⟨_,_,hsh,by omega⟩
 ·rcases E.ss b' g' hb' with h|⟨h,h6⟩
  ·exact .inl h
  ·exact .inr ⟨(hk.dd b').1 h,by simp only;omega⟩
 ·rcases E.fresh b' g' hb' with h|⟨h,h6⟩
  ·exact .inl h
  ·refine .inr ⟨h,?_⟩
   rcases h6 with h6|⟨b0,h6,h7⟩
   ·exact .inl h6
   ·exact .inr ⟨b0,by simp only;omega,h7⟩
 ·simp only at h6
  rw[dA,if_neg (fun h=>by omega),E.old b' (by omega) h7]
 ·rw[kA] at h7
  rcases E.cov b' h6 h7 with h|h
  ·exact .inl ((hk.dd b').1 h)
  ·exact .inr h
theorem HWk.trans{H H2 H3:Heap}{lo:Nat}(h:HWk H H2 lo)(g:HWk H2 H3 lo):HWk H H3 lo:=
 ⟨by rw[g.n,h.n],fun b hb=>by rw[g.old b hb,h.old b hb],fun b=>(h.dd b).trans (g.dd b),fun P s w hr=>g.hr P s w (h.hr P s w hr)⟩
theorem HWk.room{H:Heap}{bw k n c z lo:Nat}{tag:Option Nat}{cs tl:List V}{e ek:TypeId}(hw:H.get bw=some (.cells [.sl k 0 n c tag] e))(hb:H.get k=some (.cells (cs++tl) ek))(hne:bw≠k)(hn:n<=c)(ht:tag=some z\/(tag=none/\c*z<=(cs++tl).length))(h1:lo<=bw)(h2:lo<=k):
  HWk H ((H.set bw (.cells [.sl k 0 n n (some z)] e)).set k (.cells cs ek)) lo:=by
 have hlt:=zq hw
 have first:HWk H (H.set bw (.cells [.sl k 0 n n (some z)] e)) lo:=by
  have hd:∀b',RC H b'↔RC (H.set bw (.cells [.sl k 0 n n (some z)] e)) b':=fun b'=>by
   by_cases hbb:b'=bw
   ·subst hbb
    rw[RC,RC,hw,dA,if_pos ⟨rfl,hlt⟩]
    constructor<;>intro h<;>cases h
   ·rw[RC,RC,dA,if_neg (fun h=>hbb h.1)]
  refine⟨by rw[kA],fun b' hb'=>by rw[dA,if_neg (fun h=>by omega)],hd,fun P s w hr=>⟨fun b' g hs=>?_,hr.inj⟩⟩
  have G:HL s s (RC H) (RC (H.set bw (.cells [.sl k 0 n n (some z)] e))) (RE P s w) (RE P s w) w w:=⟨fun b'=>(hd b').1,fun _ _ h=>.inl h,fun _ h=>h,fun _ _ _ _ h=>h,fun _ _ h=>h⟩
  by_cases hbb:b'=bw
  ·subst hbb
   obtain⟨arr,fr,q1,q2,q3,q4⟩:=hr.cells hw hs
   refine⟨.cells [.sl k 0 n n (some z)] e,_,by rw[dA,if_pos ⟨rfl,hlt⟩],q1,arr,fr,rfl,?_,q3⟩
   refine VRs.mono G _ _ ?_
   obtain⟨c1,r1,e1,⟨x,cap',rfl,h3,h4,h5⟩,e2⟩:=q2
   refine⟨_,r1,e1,⟨x,cap',rfl,by omega,fun e=>(by cases e),?_⟩,e2⟩
   obtain⟨g0,hs0,rfl,hop⟩:=hr.live hb (by simp) h5
   obtain⟨arr2,fr2,k1,k2,k3,k4⟩:=hr.cells hb hs0
   refine .inr ⟨g0,hs0,rfl,fun q e=>?_⟩
   injection e with e
   subst e
   rcases ht with rfl|⟨rfl,ht⟩
   ·exact hop z rfl
   ·have:=h4 rfl
    subst this
    exact⟨ek,arr2.size,by simp only[XB,k1],by omega⟩
  ·obtain⟨B,o,k1,k2,k3⟩:=hr.dom b' g hs
   exact⟨B,o,by rw[dA,if_neg (fun h=>hbb h.1)];exact k1,k2,k3.mono G⟩
 exact first.trans (.short (tl:=tl) (by rw[dA,if_neg (fun h=>hne h.1.symm)];exact hb) h2)
theorem WW.cnd{C:Ctx}{nt:Nat}{ro:Option Nat}{H0:Heap}{q:Operand}{c d:Code}{T:Tr V}{H:Heap}{lo:Nat}{Q:Ex->St->Prop}{h:Hid (Code.cond q c d,Q)}(t:Bool)(hq:HD C T q=.lit (.bool t))(k1:t=true->WW C nt ro H0 c T H lo Q .mk)(k2:t=false->WW C nt ro H0 d T H lo Q .mk):WW C nt ro H0 (.cond q c d) T H lo Q h:=by
 refine⟨fun h' wro o s w a Qw og R hk=>?_⟩
 have h1:=XM R.gk R.tm q
 rw[hq] at h1
 simp only[VH,VR] at h1
 refine wpIn_cond h1 ?_
 cases t with
 | true=>exact(k1 rfl).out h' wro o s w a Qw og R hk
 | false=>exact(k2 rfl).out h' wro o s w a Qw og R hk
end Go.Tw
