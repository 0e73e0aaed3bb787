/- Own work for this claim, part 16 of 17. No condition of its own. -/
import Derived.Test.YtookdinfaoelaaaGreatDoorX09
import Derived.Test.YtookdinfaoelaaaGreatDoorX10
import Derived.Test.YtookdinfaoelaaaGreatDoorX14
import Derived.Test.YtookdinfaoelaaaGreatDoorX11
import Derived.Test.YtookdinfaoelaaaGreatDoorX12
import Derived.Test.YtookdinfaoelaaaGreatDoorX08
set_option linter.all false
set_option maxRecDepth 100000
set_option maxHeartbeats 4000000
open Bool renaming and_eq_true→wA,and_true→nG
open Go.Proofs.Tryz renaming prog→fA,underlying22→FA,underlying33→OB,underlying76→TA
open Go.Tw.GRev renaming zero→TB
open Go.Tw.Heap renaming get_push→yA,get_set→dA,n_push→iA,n_set→kA,pushes→wC
open Go.Tw.MCall renaming of→QA,ofW→mB
open Go.Tw.MV renaming fn→oB,tab→aD
open Go.Tw.Res renaming bf→AA,fz→HC,same→nB
open Go.Tw.Sub renaming keep→RB,lower→MB
open Go.Tw.Tab.OK renaming cons→CA,nil→xA
open Go.Tw.V renaming one→HB
open Go.Tw.WW renaming cut→DC,keepl→WB,loop→fE,seq→yC,sq→PA,vc→LB
open List renaming all_cons→CD,drop_succ_cons→JD,drop_zero→UA,forall_mem_cons→OA,getD_eq_getElem?_getD→DA,getElem?_append_left→ID,getElem?_append_right→gC,getElem?_eq_some_iff→rA,getElem?_set_ne→aF,getElem?_set_self→cE,length→PB,length_append→qA,length_cons→HA,length_map→bC,length_nil→SA,length_set→qB,mem_cons→IB,not_mem_nil→JA,replicate→oA,take_add_one→yB,take_left'→mC,take_length→FB,take_of_length_le→uA,take_succ_cons→NA,take_zero→iB
open Nat renaming add_sub_cancel→ME,add_zero→pE,le_refl→jA,le_trans→cB,min_self→gA,not_lt_zero→OD,reduceAdd→cA,reduceEqDiff→aA,reduceLT→bA,zero_le→KB
open Option renaming bind_eq_bind→pA,bind_some→KA
namespace Go.Proofs.YtookdinfaoelaaaGreatDoor
section
open Go Go.Tw
open Classical
def Wd(a b:GNode):Int:=fM [PK a.deleted b.deleted,RI b.rev a.rev]
def Pg(l:List GNode)(j:Nat):List GNode:=(l.set (j+1) (SI l j)).set j (SI l (j+1))
theorem zkF(l:List GNode)(j:Nat):(Pg l j).length=l.length:=by simp[Pg]
def rT:List GNode->Nat->List GNode
 | l,0=>l
 | l,j+1=>if Wd (SI l (j+1)) (SI l j)<0 then rT (Pg l j) j else l
theorem zqn:∀(j:Nat) (l:List GNode),(rT l j).length=l.length
 | 0,l=>rfl
 | j+1,l=>by
  rw[rT]
  split
  ·rw[zqn j,zkF]
  ·rfl
def MS(l:List GNode):Nat->List GNode
 | 0=>l
 | m+1=>rT (MS l m) (m+1)
theorem zgZ(l:List GNode):∀m,(MS l m).length=l.length
 | 0=>rfl
 | m+1=>by rw[MS,zqn,zgZ l m]
def BV(l:List GNode):List GNode:=MS l (l.length-1)
theorem zlq(l:List GNode):(BV l).length=l.length:=zgZ l _
abbrev iS:V:=.fn (.func 75) [] []
theorem zk8{l:List GNode}{i:Nat}{x:GNode}(h:l[i]?=some x):SI l i=x:=by
 rw[SI,DA,h];rfl
theorem Bc(l:List GNode)(hl:l.length<=1048576)(k:Nat)(t:Option Nat)(H:Heap)(hk:H.get k=some (.cells (row za l) 38))(Q:OR->Prop)
  (hQ:∀X,X.n=H.n->(∀j,j≠k->X.get j=H.get j)->X.get k=some (.cells (row za (BV l)) 38)->Q ⟨.tup [],X,min k H.n⟩):
  MCall Cx 136 [.sl k 0 l.length l.length t,vA 0,vA l.length,iS] H Q:=by
 have hkn:=zq hk
 refine mB (fn:=Tryz.f136) Tryz.func136 rfl (by decide) (k:=53) rfl (rs:=[]) rfl ?_
 refine LB zm ?_
 have e1:IntKind.i64.wrap ((0:Int)+1)=((1:Nat):Int):=rfl
 simp -dsimp only[go_sem,bA,aA,cA,reduceCtorEq,gA,e1]
 refine fE zm (ι:=Nat×Heap) (fun p=>[(0,.sl k 0 l.length l.length t),(1,vA 0),(2,vA l.length),(3,iS),(8,vA p.1)]) (fun p=>p.2) (fun _=>min k H.n)
  (fun p=>1<=p.1/\(p.1<=l.length\/p.1=1)/\p.2.n=H.n/\(∀j,j≠k->p.2.get j=H.get j)/\p.2.get k=some (.cells (row za (MS l (p.1-1))) 38)) (fun p=>l.length-p.1) (1,H) ⟨by omega,.inr rfl,rfl,fun _ _=>rfl,hk⟩ ?_ ?_
 ·refine(MB (lo2:=min k H.n) (by omega)).trans (RB _ zSl)
 rintro⟨i,X⟩ ⟨hi,hi2,hn,ho,hX⟩
 simp only at hi hi2 hn ho hX ⊢
 simp -dsimp only[go_sem,bA,aA,reduceCtorEq,zf,zh]
 refine BR.dec (fun h=>?_) (fun h=>?_)<;>simp -dsimp only[go_sem,bA,aA,reduceCtorEq,h]
 ·have hlen:(MS l (i-1)).length=l.length:=zgZ l _
  have hkX:k<X.n:=by omega
  refine fE zm (ι:=Nat×List GNode×Heap) (fun p=>[(0,.sl k 0 l.length l.length t),(1,vA 0),(2,vA l.length),(3,iS),(8,vA i),(9,vA p.1)]) (fun p=>p.2.2) (fun _=>min k H.n)
   (fun p=>p.1<l.length/\p.2.1.length=l.length/\rT p.2.1 p.1=rT (MS l (i-1)) i/\p.2.2.n=H.n/\(∀j,j≠k->p.2.2.get j=H.get j)/\p.2.2.get k=some (.cells (row za p.2.1) 38)) (fun p=>p.1) (i,MS l (i-1),X) ⟨h,hlen,rfl,hn,ho,hX⟩ ?_ ?_
  ·refine(MB (lo2:=min k H.n) (by omega)).trans (RB _ zSl)
  rintro⟨j,m,Y⟩ ⟨hj,hm,hbub,yn,yo,hY⟩
  simp only at hj hm hbub yn yo hY ⊢
  have hkY:k<Y.n:=by omega
  have fin:rT m j=m->(MS l i)=m:=fun h2=>by
   obtain⟨i',rfl⟩:∃i',i=i'+1:=⟨i-1,by omega⟩
   rw[MS]
   rw[ME] at hbub
   rw[<-hbub,h2]
  simp -dsimp only[go_sem,zf,zh]
  refine DR.of _ ((CA (Kd) xA)) (by kernel_rfl) ?_
  simp -dsimp only[go_sem,bA,aA,reduceCtorEq]
  refine GD.dec (fun h2=>?_) (fun h2=>?_)<;>simp -dsimp only[go_sem,bA,aA,reduceCtorEq,gA,h2]
  ·obtain⟨j',rfl⟩:∃j',j=j'+1:=⟨j-1,by omega⟩
   have e2:IntKind.i64.wrap (((j'+1:Nat):Int)-1)=((j':Nat):Int):=by rw[zw (by omega) (by omega)];omega
   obtain⟨x,hx⟩:=zu (l:=m) (i:=j'+1) (by omega)
   obtain⟨y,hy⟩:=zu (l:=m) (i:=j') (by omega)
   have hj':j'<l.length:=by omega
   simp -dsimp only[go_sem,bA,aA,reduceCtorEq,h2,e2,hj,hj',hY,vX hx,vX hy]
   have nx:SI m (j'+1)=x:=zk8 hx
   have ny:SI m j'=y:=zk8 hy
   have eo:fM [PK x.deleted y.deleted,RI y.rev x.rev]=Wd (SI m (j'+1)) (SI m j'):=by rw[nx,ny];rfl
   refine BR.dec (fun h3=>?_) (fun h3=>?_)<;>simp -dsimp only[go_sem,bA,aA,reduceCtorEq,h3]
   ·refine DR.wr _ xA [(9,13)] (by kernel_rfl) (by kernel_rfl) ?_
    have s1:zD (row za m) ((j'+1)*41) (za y)=some (row za (m.set (j'+1) y)):=W6 zg y (by omega)
    have s2:zD (row za (m.set (j'+1) y)) (j'*41) (za x)=some (row za ((m.set (j'+1) y).set j' x)):=W6 zg x (by rw[qB];omega)
    simp -dsimp only[go_sem,bA,aA,reduceCtorEq,e2,hj,hj',hY,vX hx,vX hy,s1,s2,hkY]
    generalize hZ:(Y.set k (.cells (row za (m.set (j'+1) y)) 38)).set k (.cells (row za ((m.set (j'+1) y).set j' x)) 38)=Z
    refine zAg (j',Pg m j',Z) ?_
    dsimp only
    refine⟨by omega,by rw[zkF,hm],?_,by rw[<-hZ,kA,kA,yn],fun q hq=>by rw[<-hZ,dA,if_neg (fun h=>hq h.1),dA,if_neg (fun h=>hq h.1),yo q hq],?_⟩
    ·rw[<-hbub,rT,if_pos (by rw[<-eo];exact h3)]
    ·rw[<-hZ,dA,if_pos ⟨rfl,by rw[kA];omega⟩,Pg,nx,ny]
   ·refine zAg (i+1,Y) ?_
    dsimp only
    refine⟨by omega,.inl h,yn,yo,?_⟩
    rw[ME,fin (by rw[rT,if_neg (by rw[<-eo];exact h3)])]
    exact hY
  ·have hj0:j=0:=by omega
   subst hj0
   refine zAg (i+1,Y) ?_
   dsimp only
   refine⟨by omega,.inl h,yn,yo,?_⟩
   rw[ME,fin rfl]
   exact hY
 ·have hie:i-1=l.length-1:=by omega
  rw[hie] at hX
  exact Res.at (lo2:=min k H.n) (by omega) (nB (h:=.mk) (hQ X hn ho hX))
theorem mc(l:List GNode)(hl:l.length<=12)(k:Nat)(t:Option Nat)(z:Int)(H:Heap)(hk:H.get k=some (.cells (row za l) 38))(Q:OR->Prop)
  (hQ:∀X,X.n=H.n->(∀j,j≠k->X.get j=H.get j)->X.get k=some (.cells (row za (BV l)) 38)->Q ⟨.tup [],X,min k H.n⟩):
  MCall Cx 122 [.sl k 0 l.length l.length t,vA 0,vA l.length,vA z,iS] H Q:=by
 have hkn:=zq hk
 refine mB (fn:=Tryz.f122) Tryz.func122 rfl (by decide) (k:=148) rfl (rs:=[]) rfl ?_
 refine PA zm ?_
 simp -dsimp only[go_sem,bA,cA,gA]
 refine PA zm ?_
 simp -dsimp only[go_sem,bA,gA]
 refine LB zm ?_
 simp -dsimp only[go_sem]
 refine fE zm (ι:=Unit) (fun _=>[(0,.sl k 0 l.length l.length t),(1,vA 0),(2,vA l.length),(3,vA z),(4,iS)]) (fun _=>H) (fun _=>H.n) (fun _=>True) (fun _=>0) () trivial ?_ ?_
 ·refine(MB (lo2:=H.n) (by omega)).trans (RB _ zSl)
 rintro⟨⟩ _
 have e1:IntKind.i64.wrap ((l.length:Int)-0)=(l.length:Nat):=by rw[zw (by omega) (by omega)];omega
 have e2:((l.length:Int)<=12)=True:=by simp;omega
 simp -dsimp only[go_sem,bA,aA,reduceCtorEq,zf,zh,e1,e2]
 refine oB ?_
 simp -dsimp only[go_sem,aA,reduceCtorEq,gA]
 refine Bc l (by omega) k t H hk _ fun X hn ho hX=>?_
 simp -dsimp only[go_sem]
 exact Res.at (lo2:=min k H.n) (by omega) (nB (h:=.mk) (hQ X hn ho hX))
theorem sW(u:Nat)(hu:u<18446744073709551616)(H:Heap)(Q:OR->Prop)(hQ:Q ⟨vA (Lib.bitLen u),H,H.n⟩):MCall Cx 123 [.lit (.int .u64 u)] H Q:=by
 refine QA zm (fn:=Tryz.f123) Tryz.func123 rfl (by decide) (k:=8) rfl (rs:=[.tmp 2]) rfl ?_
 simp -dsimp only[go_sem,bA,aA,reduceCtorEq]
 refine oB ?_
 simp -dsimp only[go_sem,bA,aA,reduceCtorEq,gA]
 refine vW u hu _ _ ?_
 simp -dsimp only[go_sem,gA]
 exact AA (by omega) rfl hQ
theorem Nb(l:List GNode)(hl:l.length<=12)(k:Nat)(t:Option Nat)(H:Heap)(hk:H.get k=some (.cells (row za l) 38))(Q:OR->Prop)
  (hQ:∀X,X.n=H.n->(∀j,j≠k->X.get j=H.get j)->X.get k=some (.cells (row za (BV l)) 38)->Q ⟨.tup [],X,min k H.n⟩):
  MCall Cx 104 [.sl k 0 l.length l.length t,iS] H Q:=by
 have hkn:=zq hk
 refine QA zm (fn:=Tryz.f104) Tryz.func104 rfl (by decide) (k:=14) rfl (rs:=[]) rfl ?_
 simp -dsimp only[go_sem,bA,aA,cA,reduceCtorEq]
 have e1:IntKind.u64.wrap (l.length:Int)=(l.length:Nat):=by rw[xJ (by omega) (by omega)]
 simp -dsimp only[go_sem,e1]
 refine oB ?_
 simp -dsimp only[go_sem,bA,aA,cA,reduceCtorEq]
 refine sW l.length (by omega) _ _ ?_
 simp -dsimp only[go_sem]
 refine oB ?_
 simp -dsimp only[go_sem,aA,cA,reduceCtorEq,gA]
 refine mc l hl k t _ H hk _ fun X hn ho hX=>?_
 simp -dsimp only[go_sem]
 exact Res.at (lo2:=min k H.n) (by omega) (nB (h:=.mk) (hQ X hn ho hX))
end
section
open Go Go.Tw
open Classical
theorem m_93(b:List UInt8)(hs:b.length<=1000000)(H:Heap)(Q:OR->Prop)(hQ:Q ⟨NB zT (oV b),H,H.n⟩):MCall Cx 93 [vA 16,NB zT b] H Q:=by
 obtain⟨b1,b2,b3⟩:=znV
 obtain⟨c1,c2,c3⟩:=zjP b1 b2 b
 refine mB (fn:=Tryz.f93) Tryz.func93 rfl (by decide) (k:=10) rfl (rs:=[.tmp 4]) rfl ?_
 refine PA zm ?_
 simp -dsimp only[go_sem,bA,cA,gA]
 refine LB zm ?_
 simp -dsimp only[go_sem,bA,aA,reduceCtorEq]
 refine oB ?_
 simp -dsimp only[go_sem,bA,aA,reduceCtorEq]
 refine Vb _ _ ?_
 simp -dsimp only[go_sem]
 refine oB ?_
 simp -dsimp only[go_sem,bA,aA,reduceCtorEq]
 refine Ub (QI 16) b1 b2 b (by rw[b3];simp;omega) _ _ ?_
 simp -dsimp only[go_sem]
 refine oB ?_
 simp -dsimp only[go_sem,bA,aA,reduceCtorEq,gA]
 refine Tb _ c1 c2 c3 _ _ ?_
 simp -dsimp only[go_sem,gA]
 exact AA (by omega) (Sk UM _) hQ
theorem m_68(b:List UInt8)(hs:b.length<=1000000)(H:Heap)(Q:OR->Prop)(hQ:Q ⟨.agg (FH (aS b)),H,H.n⟩):MCall Cx 68 [NB zT b] H Q:=by
 refine mB (fn:=Tryz.f68) Tryz.func68 rfl (by decide) (k:=9) rfl (rs:=[.cell 2 30]) rfl ?_
 have l16:=zgV b
 refine PA zm ?_
 simp -dsimp only[go_sem,bA,gA]
 refine PA zm ?_
 simp -dsimp only[go_sem,bA]
 refine yC ?_
 refine WW.bar zm 3 (by decide) (by kernel_rfl) ?_
 dsimp only[NA,iB]
 refine DR.of _ ((CA (wN (m_93 b hs ((H.push (.cells (row zT (oA 16 0)) 30)).push (.cells (row zT (oA 16 0)) 30)) _ rfl)) xA)) (by kernel_rfl) ?_
 simp -dsimp only[go_sem,bA,aA,cA,reduceCtorEq]
 rw[zjA] at hQ
 generalize oV b=t at hQ l16
 have lr:(row zT t).length=16:=by rw[zr wK,l16]
 refine OO.intro (zmD (n:=16) (e:=30) (by simp -dsimp only[go_sem,reduceCtorEq]) (by omega)) ?_
 rw[l16,Nat.sub_self,List.replicate_zero,List.append_nil]
 simp -dsimp only[go_sem,cA,gA]
 refine LB zm ?_
 have w:QE fA 30 (row zT t) 0=some (.agg (row zT t)):=Y1 zqE zl7 lr
 have sp:zD (row zT (oA 16 0)) 0 (row zT t)=some (row zT t):=DM _ _ (by rw[lr];rfl)
 have on:(row zT t).all HB=true:=mL aV t
 simp -dsimp only[go_sem,bA,aA,cA,reduceCtorEq,w,sp,on,lr]
 exact AA (by omega) (UH UM t) hQ
end
section
open Go Go.Tw
open Classical
theorem m_74(l:List GNode)(H:Heap)(Q:OR->Prop)(hQ:Q ⟨.fn (.func 105) [] [.ptr H.n 0],H.push (.cells [NB za l] 22),H.n⟩):MCall Cx 74 [NB za l] H Q:=by
 refine QA zm (fn:=Tryz.f74) Tryz.func74 rfl (by decide) (k:=4) rfl (rs:=[.tmp 2]) rfl ?_
 simp -dsimp only[go_sem,bA,aA,reduceCtorEq,gA]
 exact nB hQ
structure A9(f:V)(L:Nat)(xs:List GNode)(I:Nat->Heap->Prop):Prop where
 step:∀n X x,I n X->xs[n]?=some x->∀Q:OR->Prop,(∀X' lo,I (n+1) X'->L<=lo->X.n<=X'.n->Q ⟨.lit (.bool true),X',lo⟩)->MVal Cx f [.agg (za x)] X Q
 far:∀n X Y,I n X->Gw X Y->I n Y
theorem Ob(l:List GNode)(hl:l.length<=1048576)(f:V)(bs L:Nat)(I:Nat->Heap->Prop)(hT:A9 f L l I)(H:Heap)(hs:H.get bs=some (.cells [NB za l] 22))(h0:I 0 H)(hLn:L<=H.n)
  (Q:OR->Prop) (hQ:∀X lo,I l.length X->L<=lo->Q ⟨.tup [],X,lo⟩):MCall Cx 105 [f,.ptr bs 0] H Q:=by
 refine QA zm (fn:=Tryz.f105) Tryz.func105 rfl (by decide) (k:=16) rfl (rs:=[]) rfl ?_
 simp -dsimp only[go_sem,bA,cA,reduceCtorEq]
 simp -dsimp only[go_sem,bA,aA,cA,reduceCtorEq,gA,hs]
 refine fE zm (ι:=Nat×Heap) (fun p=>[(0,f),(5,NB za l),(6,vA l.length),(7,vA p.1)]) (fun p=>p.2) (fun _=>L)
  (fun p=>p.1<=l.length/\I p.1 p.2/\L<=p.2.n) (fun p=>l.length-p.1) (0,H) ⟨KB _,h0,hLn⟩ ?_ ?_
 ·refine(MB (lo2:=L) (by omega)).trans (RB _ zSl)
 rintro⟨i,X⟩ ⟨hi,hI,hLX⟩
 simp only at hi hI hLX ⊢
 simp -dsimp only[go_sem,bA,aA,reduceCtorEq,zf,zh]
 refine BR.dec (fun h=>?_) (fun h=>?_)<;>simp -dsimp only[go_sem,bA,aA,reduceCtorEq,h]
 ·obtain⟨x,hx⟩:=zu h
  simp -dsimp only[go_sem,bA,aA,reduceCtorEq,h,z7 zg hx]
  generalize hX1:(X.push (.cells zNode 38)).set X.n (.cells (za x) 38)=X1
  have a1:X1.n=X.n+1:=by rw[<-hX1,kA,iA]
  have a2:X1.get X.n=some (.cells (za x) 38):=by rw[<-hX1,dA,if_pos ⟨rfl,by rw[iA];omega⟩]
  have a3:Gw X X1:=⟨by omega,fun j hj=>by rw[<-hX1,dA,if_neg (fun h=>absurd h.1 (by omega)),zj j hj]⟩
  refine⟨hT.step i X1 x (hT.far i X X1 hI a3) hx _ fun X' lo' hI' hlo' hn'=>?_⟩
  simp -dsimp only[go_sem,bA,aA,reduceCtorEq]
  refine zAg (i+1,X') ?_
  dsimp only
  exact⟨h,hI',by omega⟩
 ·have hie:i=l.length:=by omega
  subst hie
  exact nB (hQ X _ hI (by omega))
structure ColI(l:List GNode)(H:Heap)(bl:Nat)(T:Tr V)(A B:Code)(n:Nat)(X:Heap):Prop where
 loop:X.get bl=some (.loop (lI 13 T) [7] A B .ready none)
 gw:Gw H X
 big:bl<X.n
 var:∃k,X.get H.n=some (.cells [pG 41 (l.take n) k] 22)/\(l.take n≠[]->bl<k/\X.get k=some (.cells (row za (l.take n)) 38))
theorem jc(l:List GNode)(hl:l.length<=1048575)(bs:Nat)(H:Heap)(hs:H.get bs=some (.cells [NB za l] 22))(Q:OR->Prop)
  (hQ:∀X k,Gw H X->(l≠[]->H.n<=k/\X.get k=some (.cells (row za l) 38))->Q ⟨pG 41 l k,X,H.n⟩):MCall Cx 121 [.lit (.slice none 0 0),.fn (.func 105) [] [.ptr bs 0]] H Q:=by
 have hbs:=zq hs
 refine QA zm (fn:=Tryz.f121) Tryz.func121 rfl (by decide) (k:=13) rfl (rs:=[.tmp 4]) rfl ?_
 simp -dsimp only[go_sem,bA,aA,cA,reduceCtorEq,gA]
 generalize hY:H.push (.cells [.lit (.slice none 0 0)] 22)=Y
 have y1:Y.n=H.n+1:=by rw[<-hY,iA]
 have y2:Y.get H.n=some (.cells [.lit (.slice none 0 0)] 22):=by rw[<-hY,yA,if_pos rfl]
 have y3:Gw H Y:=⟨by omega,fun j hj=>by rw[<-hY,zj _ hj]⟩
 refine WW.keep [(2,.ptr H.n 0),(6,.fn (.func 105) [] [.ptr bs 0])] zSl ?_
 refine Hk rfl (first:=[]) (cap:=[.ptr bs 0]) (by simp -dsimp only[go_sem,aA,zf,zh]) Tryz.func105 rfl (by decide) fun A B hA hB=>?_
 generalize hT0:jH [(2,.ptr H.n 0),(6,.fn (.func 105) [] [.ptr bs 0])]=T0
 have t2:PD T0 2=.ptr H.n 0:=by rw[<-hT0];simp -dsimp only[go_sem,aA,zf,zh]
 refine Ob l (by omega) (.yld Y.n) bs H.n (ColI l H Y.n T0 A B) ⟨?_,?_⟩ _ ?_ ?_ ?_ _ ?_
 ·intro n X x hI hx Q' hgo
  obtain⟨z1,z2,z3,k,z4,z5⟩:=hI
  refine MVal.round z1 (by rw[eV];decide) [(2,.ptr H.n 0),(7,.agg (za x))] ?_ ?_
  ·simp only[OA,JA,false_implies,implies_true,and_true,Vj,I2 (show 2<13 by decide),t2]
   simp
  rw[eV,hA]
  refine LB zm ?_
  simp -dsimp only[go_sem,bA,aA,gA,zf,zh]
  generalize hZ1:(X.push (.cells zNode 38)).set X.n (.cells (za x) 38)=Z1
  have a1:Z1.n=X.n+1:=by rw[<-hZ1,kA,iA]
  have a2:Z1.get X.n=some (.cells (za x) 38):=by rw[<-hZ1,dA,if_pos ⟨rfl,by rw[iA];omega⟩]
  have a3:∀j,j<X.n->Z1.get j=X.get j:=fun j hj=>by rw[<-hZ1,dA,if_neg (fun h=>absurd h.1 (by omega)),zj j hj]
  refine⟨rfl,lI 13 T0,[7],A,B,none,by rw[a3 _ z3,z1],?_⟩
  dsimp only
  generalize hZ2:Z1.set Y.n (.loop (lI 13 T0) [7] A B .busy none)=Z2
  have b1:Z2.n=X.n+1:=by rw[<-hZ2,kA,a1]
  have b2:Z2.get Y.n=some (.loop (lI 13 T0) [7] A B .busy none):=by rw[<-hZ2,dA,if_pos ⟨rfl,by omega⟩]
  have b3:∀j,j<X.n->j≠Y.n->Z2.get j=X.get j:=fun j hj hjn=>by rw[<-hZ2,dA,if_neg (fun h=>hjn h.1),a3 j hj]
  have b4:Z2.get X.n=some (.cells (za x) 38):=by rw[<-hZ2,dA,if_neg (fun h=>absurd h.1 (by omega)),a2]
  have c2:Z2.get H.n=some (.cells [pG 41 (l.take n) k] 22):=by rw[b3 _ (by omega) (by omega),z4]
  have hlt:=(rA.1 hx).1
  have htk:l.take (n+1)=l.take n++[x]:=by rw[yB,hx];rfl
  rw[hB]
  refine LB zm ?_
  simp -dsimp only[go_sem,bA,aA,c2,b4]
  refine bW (x:=x) (fun hne=>?_) (by rw[yA,if_pos rfl]) (by rw[List.length_take];omega) fun W k2 hBf=>?_
  ·rw[zj _ (by have:=zq (z5 hne).2;omega),b3 _ (zq (z5 hne).2) (by have:=(z5 hne).1;omega)]
   exact(z5 hne).2
  obtain⟨f1,f2,f3,f4⟩:=hBf
  rw[iA,b1] at f1 f2 f4
  have hne2:l.take n++[x]≠[]:=by simp
  have old:∀j,j<=Y.n->W.get j=Z2.get j:=fun j hj=>by
   rw[f2 _ (by omega) ?_,zj _ (by omega)]
   by_cases e:l.take n=[]
   ·exact .inr e
   ·exact .inl (by have:=(z5 e).1;omega)
  have w2:W.get H.n=some (.cells [pG 41 (l.take n) k] 22):=by rw[old _ (by omega),c2]
  have ltw:H.n<W.n:=by omega
  have ob:[pG 41 (l.take n++[x]) k2].all HB=true:=by simp[qk]
  have lb:[pG 41 (l.take n++[x]) k2].length=1:=rfl
  have sp:∀a b:V,zD [a] 0 [b]=some [b]:=fun _ _=>rfl
  have k2n:Y.n<k2:=by
   rcases f4 with⟨_,h4⟩|h4
   ·exact absurd (congrArg PB h4) (by simp)
   ·omega
  have hlob:H.n<=lob (Z2.push (.cells (za x) 38)) k (l.take n):=by
   unfold lob
   split
   ·rw[iA];omega
   ·rename_i e;have:=(z5 e).1;rw[iA];omega
  simp -dsimp only[go_sem,aA,w2,zo5,ob,lb,sp]
  refine⟨lI 13 T0,[7],A,B,.busy,none,by rw[dA,if_neg (fun h=>absurd h.1 (by omega)),old _ (jA _),b2],?_⟩
  dsimp only[eS,YR,uN]
  generalize hX3:(W.set H.n (.cells [pG 41 (l.take n++[x]) k2] 22)).set Y.n (.loop (lI 13 T0) [7] A B .ready none)=X3
  have x3:∀j,j≠H.n->j≠Y.n->X3.get j=W.get j:=fun j h1 h2=>by rw[<-hX3,dA,if_neg (fun h=>h2 h.1),dA,if_neg (fun h=>h1 h.1)]
  have x3n:X3.n=W.n:=by rw[<-hX3,kA,kA]
  refine hgo _ _ ⟨by rw[<-hX3,dA,if_pos ⟨rfl,by rw[kA];omega⟩],⟨by omega,fun j hj=>?_⟩,by omega,k2,?_,fun _=>⟨k2n,?_⟩⟩ (by omega) (by omega)
  ·rw[x3 _ (by omega) (by omega),old _ (by omega),b3 _ (by omega) (by omega),z2.old j hj]
  ·rw[<-hX3,dA,if_neg (fun h=>absurd h.1 (by omega)),dA,if_pos ⟨rfl,ltw⟩,htk]
  ·rw[x3 _ (by omega) (by omega),htk]
   exact f3 hne2
 ·intro n X Z hI hG
  obtain⟨z1,z2,z3,k,z4,z5⟩:=hI
  exact⟨hG.get z1,z2.trans hG,by have:=hG.n;omega,k,hG.get z4,fun hne=>⟨(z5 hne).1,hG.get (z5 hne).2⟩⟩
 ·rw[zj _ (by omega),y3.get hs]
 ·have f:∀j,j<Y.n->(Y.push (.loop (lI 13 T0) [7] A B .ready none)).get j=Y.get j:=fun j hj=>zj j hj
  exact⟨by rw[yA,if_pos rfl],y3.trans .push,by rw[iA];omega,0,by rw[f _ (by omega),y2];rfl,fun h=>absurd rfl h⟩
 ·rw[iA];omega
 ·intro Z lo' hI hlo'
  obtain⟨z1,z2,z3,k,z4,z5⟩:=hI
  rw[FB] at z4 z5
  refine⟨_,_,_,_,.ready,none,z1,by decide,?_⟩
  dsimp only
  have e0:(H.n=Y.n)=False:=by simp;omega
  generalize hR:Z.set Y.n (.loop (lI 13 T0) [7] A B .exhausted none)=R
  have r1:R.get H.n=some (.cells [pG 41 l k] 22):=by rw[<-hR,dA,if_neg (fun h=>absurd h.1 (by omega)),z4]
  have r2:∀j,j≠Y.n->R.get j=Z.get j:=fun j hj=>by rw[<-hR,dA,if_neg (fun h=>hj h.1)]
  have r3:R.n=Z.n:=by rw[<-hR,kA]
  clear hR
  subst hT0
  simp -dsimp only[go_sem,bA,aA,zf,zh,r1]
  refine Res.at (lo2:=H.n) (by omega) (nB (h:=.mk) (hQ _ k ⟨by have:=z2.n;omega,fun j hj=>by rw[r2 _ (by omega),z2.old j hj]⟩ fun hne=>⟨by have:=(z5 hne).1;omega,by rw[r2 _ (by have:=(z5 hne).1;omega)];exact(z5 hne).2⟩))
theorem Mb(l:List GNode)(hl:l.length<=1048575)(bs:Nat)(H:Heap)(hs:H.get bs=some (.cells [NB za l] 22))(Q:OR->Prop)
  (hQ:∀X k,Gw H X->(l≠[]->H.n<=k/\X.get k=some (.cells (row za l) 38))->Q ⟨pG 41 l k,X,H.n⟩):MCall Cx 103 [.fn (.func 105) [] [.ptr bs 0]] H Q:=by
 refine QA zm (fn:=Tryz.f103) Tryz.func103 rfl (by decide) (k:=5) rfl (rs:=[.tmp 2]) rfl ?_
 simp -dsimp only[go_sem,bA,aA,reduceCtorEq]
 refine oB ?_
 simp -dsimp only[go_sem,bA,aA,reduceCtorEq,gA]
 refine jc l hl bs H hs _ fun X k hX hk=>?_
 simp -dsimp only[go_sem,gA]
 exact Res.at (lo2:=H.n) (by have:=hX.n;omega) (nB (h:=.mk) (hQ X k hX hk))
theorem sR(H:Heap)(Q:OR->Prop)(hQ:Q ⟨.tup [],H,H.n⟩):MCall Cx 104 [.lit (.slice none 0 0),iS] H Q:=by
 have hins:∀Q:OR->Prop,Q ⟨.tup [],H,H.n⟩->MCall Cx 136 [.lit (.slice none 0 0),vA 0,vA 0,iS] H Q:=fun Q hQ=>by
  refine mB (fn:=Tryz.f136) Tryz.func136 rfl (by decide) (k:=53) rfl (rs:=[]) rfl ?_
  refine LB zm ?_
  have e1:IntKind.i64.wrap ((0:Int)+1)=((1:Nat):Int):=rfl
  simp -dsimp only[go_sem,bA,aA,cA,reduceCtorEq,gA,e1]
  refine fE zm (ι:=Unit) (fun _=>[(2,vA 0),(8,vA 1)]) (fun _=>H) (fun _=>H.n) (fun _=>True) (fun _=>0) () trivial ?_ ?_
  ·refine(MB (lo2:=H.n) (by omega)).trans (RB _ zSl)
  rintro⟨⟩ _
  have e2:((1:Int)<0)=False:=by simp
  simp -dsimp only[go_sem,bA,aA,gA,zf,zh,e2]
  exact Res.at (lo2:=H.n) (by omega) (nB (h:=.mk) hQ)
 have hpdq:∀(z:Int) (Q:OR->Prop),Q ⟨.tup [],H,H.n⟩->MCall Cx 122 [.lit (.slice none 0 0),vA 0,vA 0,vA z,iS] H Q:=fun z Q hQ=>by
  refine mB (fn:=Tryz.f122) Tryz.func122 rfl (by decide) (k:=148) rfl (rs:=[]) rfl ?_
  refine PA zm ?_
  simp -dsimp only[go_sem,bA,cA,gA]
  refine PA zm ?_
  simp -dsimp only[go_sem,bA,gA]
  refine LB zm ?_
  simp -dsimp only[go_sem]
  refine fE zm (ι:=Unit) (fun _=>[(0,.lit (.slice none 0 0)),(1,vA 0),(2,vA 0),(3,vA z),(4,iS)]) (fun _=>H) (fun _=>H.n) (fun _=>True) (fun _=>0) () trivial ?_ ?_
  ·refine(MB (lo2:=H.n) (by omega)).trans (RB _ zSl)
  rintro⟨⟩ _
  have e1:IntKind.i64.wrap ((0:Int)-0)=0:=rfl
  have e2:((0:Int)<=12)=True:=by simp
  simp -dsimp only[go_sem,bA,aA,reduceCtorEq,zf,zh,e1,e2]
  refine oB ?_
  simp -dsimp only[go_sem,aA,reduceCtorEq,gA]
  refine hins _ ?_
  simp -dsimp only[go_sem,gA]
  exact Res.at (lo2:=H.n) (by omega) (nB (h:=.mk) hQ)
 refine QA zm (fn:=Tryz.f104) Tryz.func104 rfl (by decide) (k:=14) rfl (rs:=[]) rfl ?_
 simp -dsimp only[go_sem,bA,aA,cA,reduceCtorEq]
 have e1:IntKind.u64.wrap ((0:Nat):Int)=((0:Nat):Int):=rfl
 simp -dsimp only[go_sem,e1]
 refine oB ?_
 simp -dsimp only[go_sem,bA,aA,cA,reduceCtorEq]
 refine sW 0 (by omega) _ _ ?_
 simp -dsimp only[go_sem]
 refine oB ?_
 simp -dsimp only[go_sem,aA,cA,reduceCtorEq,gA]
 refine hpdq _ _ ?_
 simp -dsimp only[go_sem,gA]
 exact Res.at (lo2:=H.n) (by omega) (nB (h:=.mk) hQ)
theorem m_73(l:List GNode)(hl:l.length<=12)(bs:Nat)(H:Heap)(hs:H.get bs=some (.cells [NB za l] 22))(Q:OR->Prop)
  (hQ:Q ⟨NB za (BV l),H,H.n⟩):MCall Cx 73 [.fn (.func 105) [] [.ptr bs 0],iS] H Q:=by
 refine QA zm (fn:=Tryz.f73) Tryz.func73 rfl (by decide) (k:=12) rfl (rs:=[.tmp 4]) rfl ?_
 simp -dsimp only[go_sem,bA,aA,cA,reduceCtorEq]
 refine oB ?_
 simp -dsimp only[go_sem,bA,aA,cA,reduceCtorEq]
 refine Mb l (by omega) bs H hs _ fun X k hX hk=>?_
 have xn:=hX.n
 by_cases hne:l=[]
 ·subst hne
  simp -dsimp only[go_sem]
  refine oB ?_
  simp -dsimp only[go_sem,bA,aA,cA,reduceCtorEq,gA]
  refine sR X _ ?_
  simp -dsimp only[go_sem]
  exact HC _ (by omega) .nil hQ
 ·obtain⟨h1,h2⟩:=hk hne
  rw[ZR hne]
  simp -dsimp only[go_sem]
  refine oB ?_
  simp -dsimp only[go_sem,bA,aA,cA,reduceCtorEq,gA]
  refine Nb l hl k _ X h2 _ fun Y yn yo hY=>?_
  simp -dsimp only[go_sem]
  have e:Fz (fun b=>H.n<=b) Y (.sl k 0 l.length l.length (some 41)) (NB za (BV l)):=by
   show Fz _ _ _ (.pn (row za (BV l)) (BV l).length)
   rw[zlq]
   exact Fz.sl k 0 _ _ _ _ _ (l.length*41) _ h1 hY (jA _) (by rw[UA,uA (by rw[zr zg,zlq];exact jA _)];exact Fzs.self (UH zK _))
  exact HC _ (by omega) e hQ
end
section
open Go Go.Tw
open Classical
theorem GP{t:List UInt8}{k:Nat}(h:t≠[]):iH t k=.sl k 0 t.length t.length (some 1):=by
 have:t.length≠0:=fun e=>h (List.length_eq_zero_iff.1 e)
 simp only[pG,OM,if_neg this]
theorem dT{H:Heap}{k:Nat}{t new:List UInt8}{x:V}(ht:t≠[])(hk:H.get k=some (.cells (row zT t) 5))(hn:0<new.length)(hx:mJ x=some new.length)(hc:cellsOf H 1 new.length x=some (row zT new))(hsm:t.length+new.length<=1048576):
  DH fA H 76 76 (.sl k 0 t.length t.length none) x=some ⟨iH (t++new) H.n,H.push (.cells (row zT (t++new)) 5),H.n⟩:=by
 obtain⟨i,hi,h2,h3⟩:=F4
 have hall:(row zT new).all HB=true:=mL aV new
 have hrl:(row zT new).length=new.length:=by rw[zr wK];omega
 have hrt:(row zT t).length=t.length:=by rw[zr wK];omega
 have h0:new.length≠0:=by omega
 have e1:¬t.length+new.length<=t.length:=by omega
 have ebu:iH (t++new) H.n=.sl H.n 0 (t.length+new.length) (t.length+new.length) (some 1):=by
  rw[GP (by simp[ht]),qA]
 have erow:row zT (t++new)=row zT t++row zT new:=TR ..
 rw[ebu,erow]
 unfold DH
 rw[TA]
 simp only[hi,h2,h3,hx,hc,hk,NS,pA,KA,hall,hrl,if_neg h0,if_neg e1]
 have c1:¬¬(0<1/\[PE 0].length=1/\True/\new.length=new.length*1):=fun h=>h ⟨by omega,rfl,trivial,by omega⟩
 have c2:¬¬((t.length+new.length)*1<=1099511627776/\0+t.length*1<=(row zT t).length/\t.length<=t.length):=fun h=>h ⟨by omega,by omega,jA _⟩
 rw[if_neg c1,if_neg c2,if_neg (by simp),UA,uA (by omega)]
theorem OU(v:GV):0<(ED v).length:=by
 cases v with
 | mk k n t l ks=>
  have hi:0<(Lib.itoa n).length:=by
   have h:=Lib.decDigits_length n.natAbs
   unfold Lib.itoa
   split
   ·simp
   ·rw[Lib.decDigits_length]
    rcases Nat.lt_or_ge n.toNat 10 with h|h
    ·rw[Lib.nDigits_small h];omega
    ·rw[Lib.nDigits_big (by omega)];omega
  rw[ED]
  split
  ·simp
  split
  ·simp
  split
  ·exact hi
  split
  ·simp[pJ]
  split
  ·simp
  split<;>simp
theorem IN{p:GRev}{d:Int}(ok:Bool)(h:d<0\/1<d):qJ p d ok=true:=by
 have h0:d≠0:=by omega
 have h1:d≠1:=by omega
 simp[qJ,h0,h1]
theorem CP{p:GRev}{d:Int}(h:0<=d/\d<=1)(hp:(decide (p≠.zero)&&!BK p)=false):qJ p d true=false:=by
 have:d=0\/d=1:=by omega
 rw[qJ,hp]
 rcases this with rfl|rfl<;>simp
theorem bs9(X:Heap)(a b c d e f g h i:V)(hv:zG a=some [a]/\zG b=some [b]/\zG c=some [c]/\zG d=some [d]/\zG e=some [e]/\zG f=some [f]/\zG g=some [g]/\zG h=some [h]/\zG i=some [i]):zx fA X 76 9 [(0,a),(1,b),(2,c),(3,d),(4,e),(5,f),(6,g),(7,h),(8,i)]=some ⟨.sl X.n 0 9 9 none,X.push (.cells [a,b,c,d,e,f,g,h,i] 5),X.n⟩:=
 WN TA iM dM [a,b,c,d,e,f,g,h,i] (by
  obtain⟨h1,h2,h3,h4,h5,h6,h7,h8,h9⟩:=hv
  intro u hu
  simp only[IB,JA,or_false] at hu
  rcases hu with rfl|rfl|rfl|rfl|rfl|rfl|rfl|rfl|rfl<;>assumption) (by simp)
theorem xQ:WV HO xM:=by
 intro p d v H Q ⟨hw,hnu,hsm⟩ hQ
 refine mB (fn:=Tryz.f32) Tryz.func32 rfl (by decide) (k:=83) rfl (rs:=[.cell 6 32,.tmp 7]) rfl ?_
 refine PA zm ?_
 simp -dsimp only[go_sem,bA,aA,cA,reduceCtorEq,gA]
 obtain⟨mv,hmv⟩:∃b,ZL v=b:=⟨_,rfl⟩
 have hQ2:Q ⟨.tup [.agg (ze (if qJ p d mv then(TB,(1:Int)) else if p.gen=4611686018427387903 then(.zero,11) else(⟨IntKind.u64.wrap (p.gen+1),aS (SH p d++p.sum.toList++ED v)⟩,0)).1),vA (if qJ p d mv then(TB,(1:Int)) else if p.gen=4611686018427387903 then(.zero,11) else(⟨IntKind.u64.wrap (p.gen+1),aS (SH p d++p.sum.toList++ED v)⟩,0)).2],H,H.n⟩:=by
  rw[xM,hmv] at hQ;exact hQ
 clear hQ
 have hbad:qJ p d mv=true->Q ⟨.tup [.agg (ze .zero),vA 1],H,H.n⟩:=fun h=>by
  rw[if_pos h] at hQ2;exact hQ2
 have callMay:∀(H:Heap) (Q:OR->Prop),Q ⟨.lit (.bool mv),H,H.n⟩->MCall Cx 66 [.agg (zR v)] H Q:=fun H Q h=>m_66 v hw hnu hsm H Q (by rw[hmv];exact h)
 refine DC zm (ι:=Unit) (fun _=>[(1,vA d),(3,.ptr H.n 0),(5,.ptr (H.n+1) 0),(6,.ptr (H.n+2) 0)]) (fun _=>((H.push (.cells (ze p) 32)).push (.cells (zR v) 36)).push (.cells (ze TB) 32)) (fun _=>H.n) (fun _=>qJ p d mv=false) ?_ ?_
 ·simp -dsimp only[go_sem,bA,aA,cA,reduceCtorEq]
  refine GD.dec (fun h1=>?_) (fun h1=>?_)<;>simp -dsimp only[go_sem,bA,aA,cA,reduceCtorEq,h1]
  ·refine aD _ ((CA (DW) xA)) ?_
   cases h2:BK p<;>simp -dsimp only[go_sem,bA,aA,cA,reduceCtorEq,h1,h2]
   ·exact AA (by omega) (qL _ _) (hbad (by simp[qJ,h1,h2]))
   refine GD.dec (fun h3=>?_) (fun h3=>?_)<;>simp -dsimp only[go_sem,bA,aA,cA,reduceCtorEq,h1,h3]
   ·exact AA (by omega) (qL _ _) (hbad (IN mv (by omega)))
   refine GD.dec (fun h4=>?_) (fun h4=>?_)<;>simp -dsimp only[go_sem,bA,aA,cA,reduceCtorEq,h1,h3,h4]
   ·exact AA (by omega) (qL _ _) (hbad (IN mv (by omega)))
   refine oB ?_
   simp -dsimp only[go_sem,bA,aA,reduceCtorEq]
   refine callMay _ _ ?_
   cases mv<;>simp -dsimp only[go_sem,bA,aA,cA,reduceCtorEq,h1,h3,h4]
   ·exact AA (by omega) (qL _ _) (hbad (by simp[qJ]))
   ·refine zAg (some ()) ?_
    exact CP (by omega) (by simp[h1,h2])
  ·skip
   refine GD.dec (fun h3=>?_) (fun h3=>?_)<;>simp -dsimp only[go_sem,bA,aA,cA,reduceCtorEq,h1,h3]
   ·exact AA (by omega) (qL _ _) (hbad (IN mv (by omega)))
   refine GD.dec (fun h4=>?_) (fun h4=>?_)<;>simp -dsimp only[go_sem,bA,aA,cA,reduceCtorEq,h1,h3,h4]
   ·exact AA (by omega) (qL _ _) (hbad (IN mv (by omega)))
   refine oB ?_
   simp -dsimp only[go_sem,bA,aA,reduceCtorEq]
   refine callMay _ _ ?_
   cases mv<;>simp -dsimp only[go_sem,bA,aA,cA,reduceCtorEq,h1,h3,h4]
   ·exact AA (by omega) (qL _ _) (hbad (by simp[qJ]))
   ·refine zAg (some ()) ?_
    exact CP (by omega) (by simp[h1])
 rintro⟨⟩ hg
 have hmt:mv=true:=by
  cases mv with
  | true=>rfl
  | false=>simp[qJ] at hg
 subst hmt
 rw[if_neg (by rw[hg];exact Bool.false_ne_true)] at hQ2
 clear hbad
 generalize hX:((H.push (.cells (ze p) 32)).push (.cells (zR v) 36)).push (.cells (ze TB) 32)=X
 have xn:X.n=H.n+3:=by rw[<-hX];simp -dsimp only[go_sem,cA]
 have x0:X.get H.n=some (.cells (ze p) 32):=by rw[<-hX];simp -dsimp only[go_sem,cA,reduceCtorEq]
 have x1:X.get (H.n+1)=some (.cells (zR v) 36):=by rw[<-hX];simp -dsimp only[go_sem,aA,cA,reduceCtorEq]
 have x2:X.get (H.n+2)=some (.cells (ze TB) 32):=by rw[<-hX];simp -dsimp only[go_sem,aA,cA,reduceCtorEq]
 have lz:=zi TB
 have oz:=UR TB
 have spz:zD (ze TB) 0 (ze TB)=some (ze TB):=DM _ _ rfl
 have hlt:H.n+2<X.n:=by omega
 clear hX
 refine PA zm ?_
 simp -dsimp only[go_sem,bA,aA,zf,zh,x0]
 refine BR.dec (fun hs=>?_) (fun hs=>?_)<;>simp -dsimp only[go_sem,bA,aA,hs,x2,lz,oz,spz,hlt]
 ·refine AA (by omega) (qL _ _) ?_
  rw[if_pos hs] at hQ2
  exact hQ2
 rw[if_neg hs] at hQ2
 have w0:((56:Int)<0)=False:=by simp
 refine WB H.n [(1,vA d),(3,.ptr H.n 0),(5,.ptr (H.n+1) 0),(6,.ptr (H.n+2) 0)] (by omega) zSl ?_
 refine PA zm ?_
 simp -dsimp only[go_sem,bA,aA,zf,zh,x0]
 have lit9:=bs9 X (PE (hb d)) (PE (FJ p.gen 7)) (PE (FJ p.gen 6)) (PE (FJ p.gen 5)) (PE (FJ p.gen 4)) (PE (FJ p.gen 3)) (PE (FJ p.gen 2)) (PE (FJ p.gen 1)) (PE (hb p.gen)) ⟨rfl,rfl,rfl,rfl,rfl,rfl,rfl,rfl,rfl⟩
 have hg0:FJ p.gen 0=hb p.gen:=by
  rw[FJ]
  congr 1
  show p.gen.fdiv 1=p.gen
  exact Int.fdiv_one _
 have hrow:row zT (SH p d)=[PE (hb d),PE (FJ p.gen 7),PE (FJ p.gen 6),PE (FJ p.gen 5),PE (FJ p.gen 4),PE (FJ p.gen 3),PE (FJ p.gen 2),PE (FJ p.gen 1),PE (hb p.gen)]:=by rw[SH,hg0];rfl
 rw[<-hrow] at lit9
 simp only[FJ,zql] at lit9
 refine OO.intro lit9 ?_
 simp -dsimp only[go_sem,bA,aA]
 have l9:(SH p d).length=9:=rfl
 have sl16:p.sum.toList.length=16:=by simp
 have t512:(ED v).length<=512:=by
  simp only[ZL,wA,decide_eq_true_eq] at hmv
  exact hmv.2
 generalize hY:X.push (.cells (row zT (SH p d)) 5)=Y
 have yn:Y.n=X.n+1:=by rw[<-hY,iA]
 have y0:Y.get H.n=some (.cells (ze p) 32):=by rw[<-hY,zj _ (by omega),x0]
 have y1:Y.get (H.n+1)=some (.cells (zR v) 36):=by rw[<-hY,zj _ (by omega),x1]
 have y2:Y.get (H.n+2)=some (.cells (ze TB) 32):=by rw[<-hY,zj _ (by omega),x2]
 have yk:Y.get X.n=some (.cells (row zT (SH p d)) 5):=by rw[<-hY,yA,if_pos rfl]
 clear hY lit9
 refine WB H.n [(3,.ptr H.n 0),(5,.ptr (H.n+1) 0),(6,.ptr (H.n+2) 0),(8,.sl X.n 0 9 9 none)] (by omega) zSl ?_
 refine PA zm ?_
 simp -dsimp only[go_sem,bA,aA,zf,zh]
 have hc16:cellsOf Y 1 p.sum.toList.length (.sl H.n 1 16 16 none)=some (row zT p.sum.toList):=by
  rw[sl16,Go.Tw.cells_sl y0 (jA _) (by rw[zi];decide)]
  rw[SL]
  show some ((FH p.sum).take 16)=_
  rw[uA (by rw[zX];omega)]
  rfl
 refine OO.intro (dT (t:=SH p d) (new:=p.sum.toList) (by simp[SH]) yk (by omega) (by rw[sl16];rfl) hc16 (by omega)) ?_
 simp -dsimp only[go_sem,bA,aA]
 generalize hZ:Y.push (.cells (row zT (SH p d++p.sum.toList)) 5)=Z
 have zn:Z.n=Y.n+1:=by rw[<-hZ,iA]
 have z0:Z.get H.n=some (.cells (ze p) 32):=by rw[<-hZ,zj _ (by omega),y0]
 have z1:Z.get (H.n+1)=some (.cells (zR v) 36):=by rw[<-hZ,zj _ (by omega),y1]
 have z2:Z.get (H.n+2)=some (.cells (ze TB) 32):=by rw[<-hZ,zj _ (by omega),y2]
 have zk:Z.get Y.n=some (.cells (row zT (SH p d++p.sum.toList)) 5):=by rw[<-hZ,yA,if_pos rfl]
 clear hZ
 refine WB H.n [(3,.ptr H.n 0),(5,.ptr (H.n+1) 0),(6,.ptr (H.n+2) 0),(8,iH (SH p d++p.sum.toList) Y.n)] (by omega) zSl ?_
 refine PA zm ?_
 simp -dsimp only[go_sem,bA,aA,zf,zh,z1]
 have hs8:nJ v 8=true:=by
  simp only[ZL,wA] at hmv
  exact hmv.1
 have hfits:qM v=true:=by
  have:=Ef 15 (by omega) v 8 (by omega)
  have e:nJ v ((8:Nat):Int)=true:=hs8
  rw[e] at this
  simp only[Bool.true_eq,wA] at this
  exact this.2
 refine oB ?_
 simp -dsimp only[go_sem,bA,aA]
 refine BZ v (zix v hfits) hw hnu (by omega) _ _ ?_
 simp -dsimp only[go_sem]
 have hpos:=OU v
 have esb:sB (AI (ED v))=ED v:=rfl
 refine Rg (fun _=>zk) (by rw[fg];exact hpos) (by rw[fg,qA];omega) fun W k lo hB hlo=>?_
 rw[esb] at hB ⊢
 have wn:=hB.n
 have hne1:SH p d++p.sum.toList≠[]:=by simp[SH]
 have w0:W.get H.n=some (.cells (ze p) 32):=by rw[hB.old H.n (by omega) (.inl (by omega)),z0]
 have w2:W.get (H.n+2)=some (.cells (ze TB) 32):=by rw[hB.old _ (by omega) (.inl (by omega)),z2]
 have hlo3:H.n<=lo:=by
  rw[lob,if_neg hne1] at hlo
  exact cB (Nat.le_min.2 ⟨by omega,by omega⟩) hlo
 clear hlo
 have tl:(SH p d++p.sum.toList++ED v).length<=1000000:=by rw[qA,qA,sl16,l9];omega
 have hne:SH p d++p.sum.toList++ED v≠[]:=by simp[SH]
 have wk:=hB.cell hne
 have kb:H.n+2<k:=by
  rcases hB.new with⟨_,h2⟩|h2
  ·exfalso
   have:=congrArg PB h2
   simp only[qA] at this
   omega
  ·omega
 have hbu:iH (SH p d++p.sum.toList++ED v) k=.sl k 0 (SH p d++p.sum.toList++ED v).length (SH p d++p.sum.toList++ED v).length (some 1):=GP hne
 clear hB
 simp -dsimp only[go_sem,bA,aA]
 generalize hr:(⟨IntKind.u64.wrap (p.gen+1),aS (SH p d++p.sum.toList++ED v)⟩:GRev)=r at hQ2
 generalize SH p d++p.sum.toList++ED v=T at *
 refine WB H.n [(3,.ptr H.n 0),(6,.ptr (H.n+2) 0),(8,iH T k)] (by omega) zSl ?_
 rw[hbu]
 have fz:Fzs (fun _=>True) W [.sl k 0 T.length T.length (some 1)] [NB zT T]:=.one (Fz.slice (T.length*1) trivial wk (jA _) (by rw[UA,qO wK,FB]) (UH UM _))
 refine yC ?_
 refine WW.bar zm 5 (by decide) (by kernel_rfl) ?_
 dsimp only[NA,iB]
 refine DR.of _ ((CA (Z7 (xs:=[.sl k 0 T.length T.length (some 1)]) [NB zT T] fz (zlz _) (m_68 T tl W _ rfl)) xA)) (by kernel_rfl) ?_
 simp -dsimp only[go_sem,bA,aA,zf,zh,w0,zlP]
 rw[hr]
 have lr:=zi r
 have or1:=UR r
 have sp:zD (ze TB) 0 (ze r)=some (ze r):=DM _ _ (by rw[zi,zi])
 have hlt2:H.n+2<W.n:=by omega
 simp -dsimp only[go_sem,bA,w2,lr,or1,sp]
 refine LB zm ?_
 simp -dsimp only[go_sem,aA,hlt2]
 exact AA (by omega) (qL _ _) hQ2
end
section
open Go Go.Tw
noncomputable def SJ(l:List GNode):Bool:=mS xM l
theorem W2(t:GTree)(hl:t.nodes.length<=1048576)(hn:∀n∈t.nodes,HO n.body)(H:Heap)(Q:OR->Prop)(hQ:Q ⟨.lit (.bool (SJ t.nodes)),H,H.n⟩):MCall Cx 6 [.agg (zp t)] H Q:=
 m_6 (Ak kO) t hl (fun n h=>⟨hn n h,(hn n h).1⟩) H Q hQ
theorem gU(t:GTree)(hl:t.nodes.length<=1048576)(hn:∀n∈t.nodes,HO n.body)(H:Heap)(Q:OR->Prop)(hQ:Q ⟨.lit (.bool (SJ t.nodes)),H,H.n⟩):MCall Cx 7 [.agg (zp t)] H Q:=
 m_7 xQ t hl (fun n h=>⟨hn n h,(hn n h).1⟩) H Q (by rw[<-DZ];exact hQ)
end
section
open Go Go.Tw
open Classical
theorem WW.plain{C:Ctx}{nt:Nat}{ro:Option Nat}{H0:Heap}{c:Code}{T:Tr V}{H:Heap}{lo:Nat}{Q:Ex->St->Prop}{h:Hid (c,Q)}(l:List (Nat×V))(hlo:H0.n<=lo)(hro:∀b,ro=some b->b<H0.n)
  (hl:∀p∈l,Fz (fun b=>H0.n<=b) H (PD T p.1) p.2) (k:WW C nt ro H0 c (jH l) H0 H0.n Q .mk):WW C nt ro H0 c T H lo Q h:=⟨W.pre (Sub.drop l hlo hro fun p hp=>.fz (hl p hp)) k.out⟩
structure iP(l:List GNode):Prop where
 len:l.length<=1048575
 wf:mV l
 ok:∀n∈l,HO n.body
 thin:∀n∈l,CK n.body
theorem zjj{l:List GNode}(h:SJ l=true):l.length<=32/\(zS l).length<=8:=by
 unfold SJ mS at h
 simp only[wA,decide_eq_true_eq] at h
 exact⟨by omega,by omega⟩
noncomputable def bO(l:List GNode):List GNode:=if SJ l then BV (zS l) else []
@[go_sem] theorem ia(x:V):fL fA 55 [(0,.agg [x])]=some (.agg [x]):=by kernel_rfl
theorem xZ(t:GTree)(hT:iP t.nodes)(H:Heap)(Q:OR->Prop)(hQ:Q ⟨NB za (bO t.nodes),H,H.n⟩):MCall Cx 46 [.agg (zp t)] H Q:=by
 refine mB (fn:=Tryz.f46) Tryz.func46 rfl (by decide) (k:=15) rfl (rs:=[.tmp 2]) rfl ?_
 refine PA zm ?_
 simp -dsimp only[go_sem,bA,gA]
 refine DC zm (ι:=Unit) (fun _=>[(1,.ptr H.n 0)]) (fun _=>H.push (.cells (zp t) 24)) (fun _=>H.n) (fun _=>SJ t.nodes=true) ?_ ?_
 ·simp -dsimp only[go_sem,bA,aA,reduceCtorEq]
  refine oB ?_
  simp -dsimp only[go_sem,bA,aA,reduceCtorEq]
  refine W2 t (by have:=hT.len;omega) hT.ok _ _ ?_
  cases hm:SJ t.nodes
  ·simp -dsimp only[go_sem,bA,aA,reduceCtorEq]
   refine HC _ (by omega) .nil ?_
   rw[bO,hm] at hQ
   exact hQ
  ·simp -dsimp only[go_sem,aA,reduceCtorEq]
   refine zAg (some ()) ?_
   trivial
 ·rintro⟨⟩ hm
  rw[bO,if_pos hm] at hQ
  refine PA zm ?_
  simp -dsimp only[go_sem,bA,aA,zf,zh]
  refine oB ?_
  simp -dsimp only[go_sem,bA,aA]
  refine Sb t hT.len hT.wf.2 hT.thin _ _ fun X nv hX hO=>?_
  simp -dsimp only[go_sem,bA,aA]
  have xn:=hX.n
  rw[iA] at xn hO
  refine WW.plain [(3,AH t.nodes)] (by omega) (fun b e=>by cases e) ?_ ?_
  ·intro p hp
   rw[List.mem_singleton] at hp
   subst hp
   simp -dsimp only[go_sem,aA]
   refine .ptr X.n 0 [nv] 55 1 _ (by omega) (by rw[yA,if_pos rfl]) (.one (zp4 (fun b hb=>by omega) (hO.of fun j h1 h2=>by rw[zj _ h2])))
  refine LB zm ?_
  simp -dsimp only[go_sem,bA,aA,zf,zh]
  refine oB ?_
  simp -dsimp only[go_sem,bA,aA]
  refine aU t.nodes (by have:=hT.len;omega) H _ ?_
  simp -dsimp only[go_sem]
  refine oB ?_
  simp -dsimp only[go_sem,bA,aA]
  refine m_74 _ H _ ?_
  simp -dsimp only[go_sem]
  refine oB ?_
  simp -dsimp only[go_sem,bA,aA,gA]
  refine m_73 (zS t.nodes) (by have:=(zjj hm).2;omega) H.n _ (by rw[yA,if_pos rfl]) _ ?_
  simp -dsimp only[go_sem]
  exact HC _ (by omega) (.self _ (UH zK _)) hQ
@[go_sem] theorem ja:fL fA 38 []=some (.agg zNode):=by kernel_rfl
theorem LR:zNode=WH .zero [vA 0,vA 0,gE .empty,.lit (.slice none 0 0),.lit (.slice none 0 0)]:=by kernel_rfl
theorem eQ(Z:Nat->Prop)(X:Heap):Fzs Z X zNode (za .zero):=by
 rw[LR]
 exact Lj .zero (lv:=.lit (.slice none 0 0)) (kv:=.lit (.slice none 0 0)) .nil .nil
noncomputable def IR(l:List GNode):GNode:=(bO l).headD .zero
theorem m_16(t:GTree)(hT:iP t.nodes)(H:Heap)(Q:OR->Prop)(hQ:Q ⟨.tup [.agg (za (IR t.nodes)),.lit (.bool (!(bO t.nodes).isEmpty))],H,H.n⟩):MCall Cx 16 [.agg (zp t)] H Q:=by
 refine QA zm (fn:=Tryz.f16) Tryz.func16 rfl (by decide) (k:=14) rfl (rs:=[.cell 2 38,.tmp 3]) rfl ?_
 simp -dsimp only[go_sem,bA,aA,reduceCtorEq]
 refine oB ?_
 simp -dsimp only[go_sem,bA,aA,reduceCtorEq]
 refine xZ t hT _ _ ?_
 have wn:∀x,QE fA 38 (za x) 0=some (.agg (za x)):=fun x=>rO m8 NK (zg x)
 have wz:QE fA 38 zNode 0=some (.agg zNode):=rO m8 NK rfl
 have sz:∀c:List V,c.length=41->zD zNode 0 c=some c:=fun c h=>DM _ _ (by rw[h];rfl)
 have l1:zNode.length=41:=rfl
 have o1:zNode.all HB=true:=by decide
 have vz:zG (.agg zNode)=some zNode:=rfl
 unfold IR at hQ
 cases hl:bO t.nodes with
 | nil=>
  rw[hl] at hQ
  simp -dsimp only[go_sem,bA,aA,reduceCtorEq,SA]
  have e0:((0:Int)<((0:Nat):Int))=False:=by simp
  simp -dsimp only[go_sem,bA,aA,cA,reduceCtorEq,gA,e0,wz,vz,l1,o1,sz zNode rfl]
  exact HC (.tup [.agg (za .zero),.lit (.bool false)]) (by omega) (.tup _ _ (.two (.agg _ _ (eQ _ _)) (.self _ rfl))) hQ
 | cons x r=>
  rw[hl] at hQ
  have e0:((0:Int)<((r.length+1:Nat):Int))=True:=by simp
  have e1:(0<r.length+1)=True:=by simp
  have e2:row za (x::r)=za x++row za r:=iJ _ _ _
  simp -dsimp only[go_sem,bA,aA,cA,reduceCtorEq,gA,HA,e0,e1,e2,sz _ (zg x)]
  exact HC (.tup [.agg (za x),.lit (.bool true)]) (by omega) (.tup _ _ (.two (.self _ (zK x)) (.self _ rfl))) hQ
end
section
open Go Go.Tw
open Classical
def zqM:Prop:=∀(H:Heap) (Q:OR->Prop),Q ⟨.lit (.bool true),H,H.n⟩->MCall Cx 5 [] H Q
structure zqG(l:List GNode):Prop where
 len:l.length<=1048575
 wf:mV l
 ok:∀n∈l,HO n.body
 thin:∀n∈l,CK n.body
@[go_sem] theorem md(x:Bool):jE fA .neq 4 (.lit (.bool x)) (.lit (.bool x))=some (.lit (.bool false)):=by cases x<;>kernel_rfl
theorem zhV{cs:List V}{i:Nat}{v:V}(h:i<cs.length):zD cs i [v]=some (cs.set i v):=by
 unfold zD
 rw[if_pos (by simp;omega),List.set_eq_take_append_cons_drop,if_pos h]
 simp
def LisI(k N:Nat)(X:Heap)(lv:V)(m:Nat):Prop:=
 (m=0/\(lv=.lit (.slice none 0 0)\/lv=.pn [] 0))\/∃b c tag ls e,lv=.sl b 0 m c tag/\k<b/\b<N/\X.get b=some (.cells ls e)/\∀q,q<m->∃z,ls[q*5]?=some (vA z)
def NodI(k N:Nat)(X:Heap)(L:Nat)(cs:List V):Prop:=∀j,j<L->(∃z,cs[j*41+35]?=some (vA z))/\∃lv m,cs[j*41+39]?=some lv/\LisI k N X lv m/\m<=1048575
theorem vQ{k n N:Nat}{X:Heap}{lv:V}{l:List GV}(h:RowAt n X lv l.length (row zR l))(hk:k<n)(hN:X.n<=N):LisI k N X lv l.length:=by
 rcases h with h|⟨b,cap,tag,rest,e,h1,h2,h3,h4⟩
 ·exact .inl h
 ·refine .inr ⟨b,cap,tag,_,e,h1,by omega,by have:=zq h4;omega,h4,fun q hq=>?_⟩
  obtain⟨x,hx⟩:=zu hq
  have h5:=z7 zF hx
  have hl:q*5<(row zR l).length:=by rw[zr zF];omega
  rw[ID hl]
  have h6:=congrArg (fun c:List V=>c[0]?) h5
  simp only[List.getElem?_drop,pE] at h6
  rw[h6,WJ]
  exact⟨_,rfl⟩
def Mild(k N:Nat)(X Y:Heap):Prop:=∀b,k<b->b<N->∀ls e,X.get b=some (.cells ls e)->∃ls',Y.get b=some (.cells ls' e)/\∀q:Nat,(∃z,ls[q*5]?=some (vA z))->∃z,ls'[q*5]?=some (vA z)
theorem Mild.same{k N:Nat}{X Y:Heap}(h:∀b,k<b->b<N->Y.get b=X.get b):Mild k N X Y:=fun b h1 h2 ls e h3=>⟨ls,by rw[h b h1 h2,h3],fun _ h=>h⟩
theorem Mild.trans{k N:Nat}{X Y Z:Heap}(h:Mild k N X Y)(g:Mild k N Y Z):Mild k N X Z:=fun b h1 h2 ls e h3=>by
 obtain⟨ls',h4,h5⟩:=h b h1 h2 ls e h3
 obtain⟨ls2,h6,h7⟩:=g b h1 h2 ls' e h4
 exact⟨ls2,h6,fun q hq=>h7 q (h5 q hq)⟩
theorem Mild.put{k N b q:Nat}{X:Heap}{ls:List V}{e:TypeId}{z:Int}(hb:X.get b=some (.cells ls e)):Mild k N X (X.set b (.cells (ls.set (q*5) (vA z)) e)):=fun b' h1 h2 ls' e' h3=>by
 by_cases hbb:b'=b
 ·subst hbb
  rw[hb] at h3
  injection h3 with h3
  injection h3 with h3 h4
  subst h3 h4
  refine⟨_,by rw[dA,if_pos ⟨rfl,zq hb⟩],fun p hp=>?_⟩
  obtain⟨y,hy⟩:=hp
  by_cases e:q*5=p*5
  ·rw[e,cE (rA.1 hy).1]
   exact⟨z,rfl⟩
  ·rw[aF e]
   exact⟨y,hy⟩
 ·exact⟨ls',by rw[dA,if_neg (fun h=>hbb h.1),h3],fun _ h=>h⟩
theorem LisI.mild{k N m:Nat}{X Y:Heap}{lv:V}(hM:Mild k N X Y)(h:LisI k N X lv m):LisI k N Y lv m:=by
 rcases h with h|⟨b,c,tag,ls,e,h1,h2,h3,h4,h5⟩
 ·exact .inl h
 ·obtain⟨ls',h6,h7⟩:=hM b h2 h3 ls e h4
  exact .inr ⟨b,c,tag,ls',e,h1,h2,h3,h6,fun q hq=>h7 q (h5 q hq)⟩
theorem NodI.mild{k N L:Nat}{X Y:Heap}{cs:List V}(hM:Mild k N X Y)(h:NodI k N X L cs):NodI k N Y L cs:=fun j hj=>by
 obtain⟨h1,lv,m,h2,h3,h4⟩:=h j hj
 exact⟨h1,lv,m,h2,h3.mild hM,h4⟩
theorem NodI.has{k N L i:Nat}{X:Heap}{cs:List V}{z:Int}(h:NodI k N X L cs):NodI k N X L (cs.set (i*41+35) (vA z)):=fun j hj=>by
 obtain⟨⟨z1,h1⟩,lv,m,h2,h3,h4⟩:=h j hj
 refine⟨?_,lv,m,?_,h3,h4⟩
 ·by_cases e:i*41+35=j*41+35
  ·rw[e,cE (rA.1 h1).1]
   exact⟨z,rfl⟩
  ·rw[aF e]
   exact⟨z1,h1⟩
 ·rw[aF (by omega)]
  exact h2
def TS(n N:Nat)(X:Heap)(L:Nat)(nv:V):Prop:=(L=0/\nv=.pn [] 0)\/∃k cs,nv=.sl k 0 L L (some 41)/\n<=k/\k<N/\X.get k=some (.cells cs 38)/\NodI k N X L cs
theorem zni{k N:Nat}{X:Heap}(hN:X.n<=N):∀{l:List GNode} {cs:List V},OwnNs (k+1) X l cs->(∀x∈l,x.body.list.length<=1048575)->NodI k N X l.length cs
 | [],cs,h,_=>fun j hj=>absurd hj (OD _)
 | x::l,cs,h,hs=>by
  obtain⟨lv,kv,r,rfl,k1,k2,k3⟩:=h
  have ih:=zni hN k3 fun y hy=>hs y (by simp[hy])
  have l1:=Nf x (bc:=cG x.body lv kv) rfl
  intro j hj
  cases j with
  | zero=>
   have e:WH x (cG x.body lv kv)=(ze x.rev++ze x.parent)++(vA x.deleted::vA x.has::cG x.body lv kv):=by simp[WH]
   have l2:(ze x.rev++ze x.parent).length=34:=by simp[zi]
   have g:∀n,n<7->(WH x (cG x.body lv kv)++r)[34+n]?=(vA x.deleted::vA x.has::cG x.body lv kv)[n]?:=fun n hn=>by
    rw[ID (by omega),e,gC (by omega),l2,Nat.add_sub_cancel_left]
   refine⟨⟨x.has,g 1 (by omega)⟩,lv,_,g 5 (by omega),vQ k1 (by omega) hN,hs x (by simp)⟩
  | succ j=>
   obtain⟨⟨z,h1⟩,lv',m,h2,h3,h4⟩:=ih j (by simpa using hj)
   refine⟨⟨z,?_⟩,lv',m,?_,h3,h4⟩
   ·rw[gC (by omega),l1,show(j+1)*41+35-41=j*41+35 by omega];exact h1
   ·rw[gC (by omega),l1,show(j+1)*41+39-41=j*41+39 by omega];exact h2
theorem TQ{n:Nat}{X:Heap}{l:List GNode}{nv:V}(h:OwnT n X l nv)(hs:∀x∈l,x.body.list.length<=1048575):TS n X.n X l.length nv:=by
 rcases h with⟨rfl,rfl⟩|⟨k,cs,h1,h2,h3,h4⟩
 ·exact .inl ⟨rfl,rfl⟩
 ·exact .inr ⟨k,cs,h1,h2,zq h3,h3,zni (jA _) h4 hs⟩
structure LwI(H:Heap)(a:GTree)(N L:Nat)(nv:V)(X:Heap):Prop where
 n:X.n=N+1
 x0:X.get H.n=some (.cells (zp a) 24)
 x2:X.get (H.n+2)=some (.cells (zp a) 24)
 xv:X.get N=some (.cells [nv] 24)
 own:TS (H.n+3) N X L nv
theorem mZ{n N L:Nat}{X Y:Heap}{nv:V}(h:TS n N X L nv):qH fA Y 22 nv=some (vA L):=by
 rcases h with⟨rfl,rfl⟩|⟨k,cs,rfl,_⟩
 ·exact dS FA _ _
 ·exact sV FA _ _ _ _ _
theorem gZ{k N m:Nat}{X Y:Heap}{lv:V}(h:LisI k N X lv m):qH fA Y 33 lv=some (vA m):=by
 rcases h with⟨rfl,rfl|rfl⟩|⟨b,c,tag,ls,e,rfl,_⟩
 ·exact C3 OB 0 0
 ·exact dS OB _ _
 ·exact sV OB _ _ _ _ _
theorem zl3(haw:zqM)(a b:GTree)(hA:yN a.nodes=false->yN b.nodes=false->zqG a.nodes/\zqG b.nodes)(H:Heap)(Q:OR->Prop)(hQ:Q ⟨.lit (.bool true),H,H.n⟩):MCall Cx 3 [.agg (zp a),.agg (zp b)] H Q:=by
 refine mB (fn:=Tryz.f3) Tryz.func3 rfl (by decide) (k:=86) rfl (rs:=[.tmp 4]) rfl ?_
 refine PA zm ?_
 simp -dsimp only[go_sem,bA,aA,cA,reduceCtorEq,gA]
 refine DC zm (ι:=Unit) (fun _=>[(2,.ptr H.n 0),(3,.ptr (H.n+1) 0)]) (fun _=>(H.push (.cells (zp a) 24)).push (.cells (zp b) 24)) (fun _=>H.n) (fun _=>yN a.nodes=false/\yN b.nodes=false) ?_ ?_
 ·simp -dsimp only[go_sem,bA,aA,reduceCtorEq]
  refine oB ?_
  simp -dsimp only[go_sem,bA,aA,reduceCtorEq]
  refine m_4 a _ _ ?_
  cases hla:yN a.nodes
  ·simp -dsimp only[go_sem,bA,aA,reduceCtorEq]
   refine oB ?_
   simp -dsimp only[go_sem,bA,aA,reduceCtorEq]
   refine m_4 b _ _ ?_
   cases hlb:yN b.nodes
   ·simp -dsimp only[go_sem,aA,cA,reduceCtorEq]
    refine zAg (some ()) ?_
    exact⟨rfl,rfl⟩
   ·simp -dsimp only[go_sem,bA,aA,reduceCtorEq]
    refine oB ?_
    simp -dsimp only[go_sem,bA,aA,cA,reduceCtorEq]
    refine haw _ _ ?_
    simp -dsimp only[go_sem,cA]
    exact AA (by omega) rfl hQ
  ·simp -dsimp only[go_sem,bA,aA,reduceCtorEq]
   refine oB ?_
   simp -dsimp only[go_sem,bA,aA,cA,reduceCtorEq]
   refine haw _ _ ?_
   simp -dsimp only[go_sem,cA]
   exact AA (by omega) rfl hQ
 ·rintro⟨⟩ ⟨hla,hlb⟩
  obtain⟨tA,tB⟩:=hA hla hlb
  refine LB zm ?_
  simp -dsimp only[go_sem,zf,zh]
  refine DR.of _ ((CA (uO fun H=>W2 a (by have:=tA.len;omega) tA.ok H _ rfl) (CA (uO fun H=>gU a (by have:=tA.len;omega) tA.ok H _ rfl) (CA (uO fun H=>m_8 a b tA.wf H _ rfl) (CA (uO fun H=>m_9 a b tA.wf H _ rfl) xA))))) (by kernel_rfl) ?_
  simp -dsimp only[go_sem,bA,aA,cA,reduceCtorEq]
  refine oB ?_
  simp -dsimp only[go_sem,bA,aA]
  refine m_10 a tA.len tA.wf.2 tA.thin _ _ ?_
  simp -dsimp only[go_sem,bA,aA,cA,reduceCtorEq]
  generalize hX:(((H.push (.cells (zp a) 24)).push (.cells (zp b) 24)).push (.cells oJ 24)).set (H.n+2) (.cells (zp a) 24)=X
  have xn:X.n=H.n+3:=by rw[<-hX];simp -dsimp only[go_sem,cA]
  have x0:X.get H.n=some (.cells (zp a) 24):=by rw[<-hX];simp -dsimp only[go_sem,bA,cA,reduceCtorEq]
  have x2:X.get (H.n+2)=some (.cells (zp a) 24):=by rw[<-hX];simp -dsimp only[go_sem,bA,aA,cA,reduceCtorEq]
  refine oB ?_
  simp -dsimp only[go_sem,bA,aA,cA]
  refine Sb a tA.len tA.wf.2 tA.thin _ _ ?_
  intro Y nv hY hO
  have yn:=hY.n
  have vnv:zG (.agg [nv])=some [nv]:=rfl
  have onv:[nv].all HB=true:=by rcases hO with⟨_,rfl⟩|⟨_,_,rfl,_⟩<;>rfl
  have lnv:[nv].length=1:=rfl
  have spz:zD oJ 0 [nv]=some [nv]:=rfl
  simp -dsimp only[go_sem,bA,aA,cA,vnv,onv,lnv,spz]
  generalize hZ:(Y.push (.cells oJ 24)).set Y.n (.cells [nv] 24)=Z
  have zn:Z.n=Y.n+1:=by rw[<-hZ,kA,iA]
  have zo:∀j,j<Y.n->Z.get j=Y.get j:=fun j hj=>by rw[<-hZ,dA,if_neg (fun h=>absurd h.1 (by omega)),zj j hj]
  have zy:Z.get Y.n=some (.cells [nv] 24):=by rw[<-hZ,dA,if_pos ⟨rfl,by rw[iA];omega⟩]
  have z0:Z.get H.n=some (.cells (zp a) 24):=by rw[zo _ (by omega),hY.old _ (by omega),x0]
  have z2:Z.get (H.n+2)=some (.cells (zp a) 24):=by rw[zo _ (by omega),hY.old _ (by omega),x2]
  have wh:QE fA 24 [nv] 0=some (.agg [nv]):=rO vV kV rfl
  have z2':Z.get (H.n+2)=some (.cells (zp a) 24):=z2
  simp -dsimp only[go_sem,bA,aA,cA,z2,wh]
  refine oB ?_
  simp -dsimp only[go_sem,bA,aA,cA]
  have hO':OwnT X.n Z a.nodes nv:=hO.of fun j _ h=>zo j h
  have hfz:Fz (fun _=>True) Z nv (NB za a.nodes):=zp4 (fun _ _=>trivial) hO'
  refine MCall.lend_flat (args':=[.agg (zp a),.agg (zp a)]) (.two (.agg _ _ (.cons _ _ _ _ hfz .nil)) (.self _ (CM a))) rfl (m_9 a a tA.wf Z _ rfl) ?_
  simp -dsimp only[go_sem,bA,aA,cA]
  have hM:TS (H.n+3) Y.n Z a.nodes.length nv:=by
   have h1:=TQ hO fun x hx=>(eg (tA.thin x hx)).1
   rcases h1 with h1|⟨k,cs,h1,h2,h3,h4,h5⟩
   ·exact .inl h1
   ·exact .inr ⟨k,cs,h1,by omega,h3,by rw[zo _ h3,h4],h5.mild (.same fun b _ h=>zo b h)⟩
  have hlen:=tA.len
  refine fE zm (ι:=Nat×Heap) (fun p=>[(2,.ptr H.n 0),(5,.ptr (H.n+2) 0),(6,.ptr Y.n 0),(7,vA p.1)]) (fun p=>p.2) (fun _=>H.n)
   (fun p=>p.1<=a.nodes.length/\LwI H a Y.n a.nodes.length nv p.2) (fun p=>a.nodes.length-p.1) (0,Z) ⟨by omega,zn,z0,z2,zy,hM⟩ ?_ ?_
  ·refine(MB (lo2:=H.n) (by omega)).trans (RB _ zSl)
  rintro⟨i,W⟩ ⟨hi,hW⟩
  simp only at hi hW ⊢
  obtain⟨wn,w0,w2,wv,wM⟩:=hW
  simp -dsimp only[go_sem,bA,aA,zf,zh,wv,mZ wM]
  refine BR.dec (fun h=>?_) (fun h=>?_)<;>simp -dsimp only[go_sem,bA,aA,h]
  ·rcases wM with⟨w5,_⟩|⟨k,cs,rfl,hk1,hk2,hk3,hk4⟩
   ·omega
   obtain⟨⟨z,g1⟩,lv,m,g2,g3,g4⟩:=hk4 i h
   have l1:=(rA.1 g1).1
   have R0:∀v,zD cs (i*41+35) [v]=some (cs.set (i*41+35) v):=fun v=>zhV l1
   have ltk:k<W.n:=by omega
   simp -dsimp only[go_sem,bA,aA,h,hk3,wv,g1,R0]
   have hk4':=hk4.has (i:=i) (z:=IntKind.i64.wrap (z+1))
   generalize hc1:cs.set (i*41+35) (vA (IntKind.i64.wrap (z+1)))=cs1 at hk4'
   have g2':cs1[i*41+39]?=some lv:=by rw[<-hc1,aF (by omega)];exact g2
   generalize hW1:W.set k (.cells cs1 38)=W1
   have o1:∀j,j≠k->W1.get j=W.get j:=fun j hj=>by rw[<-hW1,dA,if_neg (fun h=>hj h.1)]
   have n1:W1.n=Y.n+1:=by rw[<-hW1,kA,wn]
   have k1:W1.get k=some (.cells cs1 38):=by rw[<-hW1,dA,if_pos ⟨rfl,ltk⟩]
   have md1:Mild k Y.n W W1:=.same fun b h _=>o1 b (by omega)
   refine fE zm (ι:=Nat×Heap) (fun p=>[(2,.ptr H.n 0),(5,.ptr (H.n+2) 0),(6,.ptr Y.n 0),(7,vA i),(8,vA p.1)]) (fun p=>p.2) (fun _=>H.n)
    (fun p=>p.1<=m/\p.2.n=Y.n+1/\p.2.get H.n=some (.cells (zp a) 24)/\p.2.get (H.n+2)=some (.cells (zp a) 24)/\p.2.get Y.n=some (.cells [.sl k 0 a.nodes.length a.nodes.length (some 41)] 24)/\p.2.get k=some (.cells cs1 38)/\Mild k Y.n W1 p.2) (fun p=>m-p.1) (0,W1) ?_ ?_ ?_
   ·exact⟨by omega,n1,by rw[o1 _ (by omega),w0],by rw[o1 _ (by omega),w2],by rw[o1 _ (by omega),wv],k1,.same fun _ _ _=>rfl⟩
   ·refine(MB (lo2:=H.n) (by omega)).trans (RB _ zSl)
   rintro⟨q,U⟩ ⟨hq,un,u0,u2,uv,uk,um⟩
   simp only at hq un u0 u2 uv uk um ⊢
   have g3':=(g3.mild md1).mild um
   have hk5:=(hk4'.mild md1).mild um
   simp -dsimp only[go_sem,bA,aA,cA,zf,zh,uv,h,uk,g2',gZ g3']
   refine BR.dec (fun h2=>?_) (fun h2=>?_)<;>simp -dsimp only[go_sem,bA,aA,h2]
   ·rcases g3' with⟨g5,_⟩|⟨b,c,tag,ls,e,rfl,hb1,hb2,hb3,hb4⟩
    ·omega
    obtain⟨y,hy⟩:=hb4 q h2
    have l2:=(rA.1 hy).1
    have spq:∀v,zD ls (q*5) [v]=some (ls.set (q*5) v):=fun v=>zhV l2
    have ltb:b<U.n:=by omega
    simp -dsimp only[go_sem,bA,aA,cA,h,uv,uk,g2',h2,hb3,hy,spq]
    have o2:∀j,j≠b->(U.set b (.cells (ls.set (q*5) (vA (IntKind.i64.wrap (y+1)))) e)).get j=U.get j:=fun j hj=>by rw[dA,if_neg (fun h=>hj h.1)]
    refine zAg (q+1,U.set b (.cells (ls.set (q*5) (vA (IntKind.i64.wrap (y+1)))) e)) ?_
    dsimp only
    exact⟨h2,by rw[kA,un],by rw[o2 _ (by omega),u0],by rw[o2 _ (by omega),u2],by rw[o2 _ (by omega),uv],by rw[o2 _ (by omega),uk],um.trans (.put hb3)⟩
   ·refine zAg (i+1,U) ?_
    exact⟨h,un,u0,u2,uv,.inr ⟨k,cs1,rfl,hk1,hk2,uk,hk5⟩⟩
  ·simp -dsimp only[go_sem,bA,aA,w0,w2]
   refine oB ?_
   simp -dsimp only[go_sem,bA,aA]
   refine m_9 a a tA.wf W _ ?_
   simp -dsimp only[go_sem,aA]
   refine oB ?_
   simp -dsimp only[go_sem,bA,aA]
   refine haw _ _ ?_
   simp -dsimp only[go_sem]
   exact AA (by omega) rfl hQ
end
section
open Go Go.Tw
open Classical
def A4(path:List GRev)(d:Int)(body:GV)(l:List GNode)(i:Nat):Option (List GNode):=
 let r:=path.getD i .zero
 let up:=eO path i
 if aH l r=false then some (IL l (CH l r) (if i=0 then⟨r,up,d,1,body⟩ else⟨r,up,0,0,.zero⟩))
 else if up=.zero then some l
 else
  let n:=SI l (CH l r)
  if n.parent=.zero then some (l.set (CH l r) ⟨n.rev,up,n.deleted,n.has,n.body⟩)
  else if n.parent=up then some l else none
def MO(path:List GRev)(d:Int)(body:GV)(l:List GNode):Nat->Option (List GNode)
 | 0=>some l
 | i+1=>(MO path d body l i).bind fun m=>A4 path d body m i
noncomputable def jS(l:List GNode)(path:List GRev)(d:Int)(body:GV):Bool:=
 SJ l&&XL path&&!(decide (path.length=1)&&decide (1<(path.getD 0 .zero).gen))&&decide ((xM (eO path 0) d body).2=0)&&decide ((xM (eO path 0) d body).1=path.getD 0 .zero)
def tV(l m:List GNode):Nat:=m.countP fun n=>!aH l n.rev
noncomputable def tM(l:List GNode)(path:List GRev)(d:Int)(body:GV):List GNode×Nat×Int:=
 if jS l path d body then
  match MO path d body l path.length with
  | none=>([],0,1)
  | some m=>if 32<(jM m).length\/8<(zS (jM m)).length then([],0,3) else(jM m,tV l (jM m),0)
 else([],0,1)
theorem sY{n0 bw:Nat}{Y:Heap}{nv:V}{l:List GNode}(hS:NodeS n0 Y nv l)(hb:Y.get bw=some (.cells [nv] 55))(hlo:n0<=bw)(hne:hJ nv≠some bw):
  ∃Y2 nv2,HWk Y Y2 n0/\WorkC n0 bw Y2 nv2 l/\(∀j,j≠bw->hJ nv≠some j->Y2.get j=Y.get j)/\Y2.n=Y.n/\hJ nv2=hJ nv:=by
 rcases hS with⟨h1,rfl⟩|⟨k,c,tag,tl,rfl,h2,h3,h4,h5⟩
 ·exact⟨Y,_,⟨rfl,fun _ _=>rfl,fun _=>Iff.rfl,fun _ _ _ h=>h⟩,⟨hlo,hb,.inl ⟨h1,rfl⟩,hne⟩,fun _ _ _=>rfl,rfl,rfl⟩
 ·have hkb:bw≠k:=fun e=>hne (by rw[e];rfl)
  refine⟨_,.sl k 0 l.length l.length (some 41),HWk.room (z:=41) hb h4 hkb h3 h5 hlo h2,⟨hlo,?_,.inr ⟨k,rfl,h2,?_⟩,j4 hkb⟩,fun j h6 h7=>?_,by rw[kA,kA],rfl⟩
  ·rw[dA,if_neg (fun h=>hkb h.1),dA,if_pos ⟨rfl,zq hb⟩]
  ·rw[dA,if_pos ⟨rfl,by rw[kA];exact zq h4⟩]
  ·have:j≠k:=fun e=>h7 (by rw[e];rfl)
   rw[dA,if_neg (fun h=>this h.1),dA,if_neg (fun h=>h6 h.1)]
@[go_sem] theorem da:fL fA 24 []=some (.agg [.lit (.slice none 0 0)]):=by kernel_rfl
theorem zmc:(match Tryz.prog.underlying 38 with|some (.struct fs)=>L2 fA fs.toList|_=>none)=some [(0,17),(17,17),(34,1),(35,1),(36,5)]:=by kernel_rfl
def LK(x up:GRev)(r:List V):List V:=ze x++(ze up++r)
theorem zoN(x up:GRev):fL fA 38 [(0,.agg (ze x)),(1,.agg (ze up))]=some (.agg (LK x up (vA 0::vA 0::zV))):=by
 have hp:=zmc
 unfold fL
 rw[zl2]
 cases hu:Tryz.prog.underlying 38 with
 | none=>rw[hu] at hp;cases hp
 | some d=>
  rw[hu] at hp
  cases d with
  | struct fs=>
   simp only at hp
   have h1:zD zNode 0 (ze x)=some (ze x++(ze TB++(vA 0::vA 0::zV))):=by
    have:=eN [] (ze TB) (ze TB++(vA 0::vA 0::zV)) (ze x) (o:=0) rfl (by rw[zi,zi])
    simpa[zNode] using this
   have h2:zD (ze x++(ze TB++(vA 0::vA 0::zV))) 17 (ze up)=some (LK x up (vA 0::vA 0::zV)):=by
    have:=eN (ze x) (ze TB) (vA 0::vA 0::zV) (ze up) (o:=17) (zi x) (by rw[zi,zi])
    simpa[LK] using this
   have l1:=zi x
   have l2:=zi up
   simp only[hp,pA,KA,ZM,List.getElem?_cons_zero,List.getElem?_cons_succ,tf,h1,l1,l2,h2,if_true]
  | _=>cases hp
theorem sp34(x up:GRev)(a a':V)(r:List V):zD (LK x up (a::r)) 34 [a']=some (LK x up (a'::r)):=by
 have:=eN (ze x++ze up) [a] r [a'] (o:=34) (by rw[qA,zi,zi]) rfl
 simpa[LK] using this
theorem R0(x up:GRev)(a b b':V)(r:List V):zD (LK x up (a::b::r)) 35 [b']=some (LK x up (a::b'::r)):=by
 have:=eN (ze x++(ze up++[a])) [b] r [b'] (o:=35) (by simp[zi]) rfl
 simpa[LK] using this
theorem sp36(x up:GRev)(a b:V)(v:GV):zD (LK x up (a::b::zV)) 36 (zR v)=some (LK x up (a::b::zR v)):=by
 have:=eN (ze x++(ze up++[a,b])) zV [] (zR v) (o:=36) (by simp[zi]) (by rw[zF];rfl)
 simpa[LK] using this
theorem rQ(x up:GRev)(a b:V)(r:List V)(h:r.length=5):(LK x up (a::b::r)).length=41:=by simp[LK,zi,h]
theorem MQ(x up:GRev)(a b:V)(r:List V)(ha:HB a=true)(hb:HB b=true)(h:r.all HB=true):(LK x up (a::b::r)).all HB=true:=by
 simp only[LK,List.all_append,CD,UR,ha,hb,h,nG]
theorem zmJ(p:Nat->Bool):∀(k i j:Nat),j-i<=k->i<=j->rL p i j<=j
 | k,i,j,hk,hij=>by
  rw[rL]
  split
  ·rename_i h
   match k,hk with
   | 0,hk=>omega
   | k+1,hk=>
    split
    ·exact zmJ p k _ j (by omega) (by omega)
    ·exact cB (zmJ p k i _ (by omega) (by omega)) (by omega)
  ·exact hij
theorem zqy(l:List GNode)(r:GRev):CH l r<=l.length:=zmJ _ l.length 0 l.length (by omega) (by omega)
theorem WZ{l:List GNode}{i:Nat}{x:GNode}(hx:l[i]?=some x):QE fA 32 (row za l) (i*41+17)=some (.agg (ze x.parent)):=by
 obtain⟨e,la,es⟩:=zgI hx
 have hi:=(rA.1 hx).1
 have e1:row za l=(row za (l.take i)++ze x.rev)++(ze x.parent++(vA x.deleted::vA x.has::(zR x.body++row za (l.drop (i+1))))):=by rw[e];simp[za]
 rw[TM fA 32 Kg YN,if_pos (by rw[zr zg];omega),e1,List.drop_left' (by simp only[qA,la,zi]),mC (zi _)]
theorem zi8{path:List GRev}{d:Int}{body:GV}{l:List GNode}{i:Nat}(h:MO path d body l i=none):∀j,i<=j->MO path d body l j=none
 | 0,hj=>by rwa [Nat.le_zero.1 hj] at h
 | j+1,hj=>by
  rcases Nat.eq_or_lt_of_le hj with e|e
  ·rwa [e] at h
  ·rw[MO,zi8 h j (by omega)];rfl
theorem LY(x up:GRev)(X:Heap):Fzs (fun _=>False) X (LK x up (vA 0::vA 0::zV)) (za ⟨x,up,0,0,.zero⟩):=by
 have h:=Lj (Z:=fun _=>False) (X:=X) ⟨x,up,0,0,.zero⟩ (lv:=.lit (.slice none 0 0)) (kv:=.lit (.slice none 0 0)) .nil .nil
 have e:LK x up (vA 0::vA 0::zV)=WH ⟨x,up,0,0,.zero⟩ (cG .zero (.lit (.slice none 0 0)) (.lit (.slice none 0 0))):=by
  simp[LK,zV,WH,cG,GV.zero,GV.kind,GV.num,GV.text]
 rw[e]
 exact h
structure InsB(H:Heap)(t:GTree)(body:GV)(X:Heap):Prop where
 old:∀j,j<H.n->X.get j=H.get j
 b0:X.get H.n=some (.cells (zp t) 24)
 b1:X.get (H.n+1)=some (.cells (zR body) 36)
 b2:X.get (H.n+2)=some (.cells oJ 24)
theorem InsB.of{H:Heap}{t:GTree}{body:GV}{X Y:Heap}(h:InsB H t body X)(ho:∀j,j<H.n+3->Y.get j=X.get j):InsB H t body Y:=
 ⟨fun j hj=>by rw[ho j (by omega),h.old j hj],by rw[ho _ (by omega),h.b0],by rw[ho _ (by omega),h.b1],by rw[ho _ (by omega),h.b2]⟩
theorem sZ(t:GTree)(hT:iP t.nodes)(path:List GRev)(hpl:path.length<=1048575)(d:Int)(body:GV)(hB:HO body)(hBt:CK body)(H:Heap)(Q:OR->Prop)
  (hQ:Q ⟨.tup [.agg (zp ⟨(tM t.nodes path d body).1⟩),vA (tM t.nodes path d body).2.1,vA (tM t.nodes path d body).2.2],H,H.n⟩):MCall Cx 15 [.agg (zp t),NB ze path,vA d,.agg (zR body)] H Q:=by
 have hl:=hT.len
 refine mB (fn:=Tryz.f15) Tryz.func15 rfl (by decide) (k:=191) rfl (rs:=[.cell 8 24,.tmp 9,.tmp 10]) rfl ?_
 refine PA zm ?_
 simp -dsimp only[go_sem,bA,aA,cA,reduceCtorEq,gA]
 refine PA zm ?_
 simp -dsimp only[go_sem,bA,aA,cA,reduceCtorEq]
 refine oB ?_
 simp -dsimp only[go_sem,bA,aA,reduceCtorEq]
 refine VQ t hl hT.wf.2 hT.thin _ _ fun X nv hX hS=>?_
 have xn:=hX.n
 rw[show(((H.push (.cells (zp t) 24)).push (.cells (zR body) 36)).push (.cells oJ 24)).n=H.n+3 by simp -dsimp only[go_sem,cA]] at xn hS
 have x0:X.get H.n=some (.cells (zp t) 24):=by rw[hX.old _ (by simp -dsimp only[go_sem,bA,cA]<;>omega)];simp -dsimp only[go_sem,cA,reduceCtorEq]
 have x1:X.get (H.n+1)=some (.cells (zR body) 36):=by rw[hX.old _ (by simp -dsimp only[go_sem,bA,cA]<;>omega)];simp -dsimp only[go_sem,aA,cA,reduceCtorEq]
 have x2:X.get (H.n+2)=some (.cells oJ 24):=by rw[hX.old _ (by simp -dsimp only[go_sem,bA,cA]<;>omega)];simp -dsimp only[go_sem,aA,cA,reduceCtorEq]
 have kn:∀j,j<H.n+3->hJ nv≠some j:=fun j hj e=>by
  rcases hS with⟨_,rfl⟩|⟨k,c,tag,tl,rfl,h2,_⟩
  ·cases e
  ·injection e with e
   omega
 have knX:hJ nv≠some X.n:=fun e=>by
  rcases hS with⟨_,rfl⟩|⟨k,c,tag,tl,rfl,h2,h3,h4,_⟩
  ·cases e
  ·injection e with e
   have:=zq h4
   omega
 simp -dsimp only[go_sem,bA,aA,cA,reduceCtorEq]
 obtain⟨Y,hY⟩:∃Y,X.push (.cells [nv] 55)=Y:=⟨_,rfl⟩
 have y0:Y.n=X.n+1:=by rw[<-hY,iA]
 have yw:Y.get X.n=some (.cells [nv] 55):=by rw[<-hY,yA,if_pos rfl]
 have yo:∀j,j<X.n->Y.get j=X.get j:=fun j hj=>by rw[<-hY,zj _ hj]
 obtain⟨Z,nv2,hwk,wZ,zo,zn,zk⟩:=sY (n0:=H.n+3) (hS.of fun j _ h=>yo j h) yw (by omega) knX
 rw[hY]
 have z0:Z.get H.n=some (.cells (zp t) 24):=by rw[zo _ (by omega) (kn _ (by omega)),yo _ (by omega),x0]
 have z1:Z.get (H.n+1)=some (.cells (zR body) 36):=by rw[zo _ (by omega) (kn _ (by omega)),yo _ (by omega),x1]
 have z2:Z.get (H.n+2)=some (.cells oJ 24):=by rw[zo _ (by omega) (kn _ (by omega)),yo _ (by omega),x2]
 have zB:InsB H t body Z:=⟨fun j hj=>by rw[zo _ (by omega) (kn _ (by omega)),yo _ (by omega),hX.old _ (by simp -dsimp only[go_sem,cA]<;>omega),zj _ (by simp -dsimp only[go_sem,cA]<;>omega),zj _ (by simp -dsimp only[go_sem]<;>omega),zj _ hj],z0,z1,z2⟩
 refine WB H.n [(1,NB ze path),(2,vA d),(4,.ptr H.n 0),(7,.ptr (H.n+1) 0),(8,.ptr (H.n+2) 0),(11,.ptr X.n 0)] (by omega) zSl ?_
 refine WW.pre (Sub.wk ⟨hwk.n,fun b hb=>hwk.old b (by omega),hwk.dd,hwk.hr⟩) ?_
 generalize hbw:X.n=bw at *
 clear hY yo yw hwk zo hS hX x0 x1 x2 kn knX
 have ltb:=zq wZ.var
 have no1:tM t.nodes path d body=([],0,1)->∀X lo,H.n<=lo->Res Cx H (.tup [.agg [.lit (.slice none 0 0)],vA 0,vA 1]) X lo Q .mk:=fun e X lo hlo=>by
  rw[e] at hQ
  exact HC (.tup [.agg (zp ⟨[]⟩),vA (0:Nat),vA 1]) hlo (.tup _ _ (.cons _ _ _ _ (.agg _ _ (.one .nil)) (.two (.self _ rfl) (.self _ rfl)))) hQ
 have bad:jS t.nodes path d body=false->tM t.nodes path d body=([],0,1):=fun h=>by rw[tM,h];rfl
 have ltr:H.n+2<Z.n:=by omega
 have hb0:H.n+3<=bw:=xn
 have spt:∀a:V,zD oJ 0 [a]=some [a]:=fun _=>rfl
 have vct:∀a:V,zG (.agg [a])=some [a]:=fun _=>rfl
 have wht:∀a:V,QE fA 24 [a] 0=some (.agg [a]):=fun _=>rO vV kV rfl
 have on0:([.lit (.slice none 0 0)]:List V).all HB=true:=rfl
 have chl:XL path=true->0<path.length/\path.length<=16:=fun h=>by
  simp only[XL,wA,decide_eq_true_eq] at h
  exact⟨by omega,h.2⟩
 have hd0:0<path.length->(row ze path)[0]?=some (TC (path.getD 0 .zero).gen)/\QE fA 32 (row ze path) 0=some (.agg (ze (path.getD 0 .zero))):=fun h=>by
  cases path with
  | nil=>exact absurd h (OD _)
  | cons p0 r=>
   rw[iJ]
   refine⟨rfl,?_⟩
   show QE _ _ _ _=some (.agg (ze p0))
   rw[TM fA 32 Kg YN,if_pos (by rw[qA,zi];omega),UA,mC (zi p0)]
 generalize hr0:path.getD 0 .zero=r0 at hd0
 refine DC zm (ι:=Unit) (fun _=>[(1,NB ze path),(2,vA d),(4,.ptr H.n 0),(7,.ptr (H.n+1) 0),(8,.ptr (H.n+2) 0),(11,.ptr bw 0)]) (fun _=>Z) (fun _=>H.n) (fun _=>SJ t.nodes=true/\XL path=true/\¬(path.length=1/\1<r0.gen)) ?_ ?_
 ·simp -dsimp only[go_sem,bA,aA,zf,zh,z0]
  refine oB ?_
  simp -dsimp only[go_sem,bA,aA]
  refine W2 t (by omega) hT.ok _ _ ?_
  cases hm:SJ t.nodes
  ·simp -dsimp only[go_sem,bA,aA,z2,ltr,spt,vct,on0,wht]
   exact no1 (bad (by simp[jS,hm])) _ _ (by omega)
  ·simp -dsimp only[go_sem,bA,aA]
   refine aD _ ((CA (Dd) xA)) ?_
   simp -dsimp only[go_sem,bA,aA,e_49 path (by omega)]
   cases hc:XL path
   ·simp -dsimp only[go_sem,bA,aA,z2,ltr,spt,vct,on0,wht]
    exact no1 (bad (by simp[jS,hc])) _ _ (by omega)
   ·have hp0:=eq_true (chl hc).1
    obtain⟨g1,g2⟩:=hd0 (chl hc).1
    have go:¬(path.length=1/\1<r0.gen)->True=True/\True=True/\¬(path.length=1/\1<r0.gen):=fun h=>⟨rfl,rfl,h⟩
    simp -dsimp only[go_sem,bA,aA]
    have e1:(((path.length:Nat):Int)=1)=(path.length=1):=by simp;omega
    by_cases h1:path.length=1
    ·have e11:(((1:Nat):Int)=1)=True:=by simp
     have h01:(0<1)=True:=by simp
     by_cases h2:1<r0.gen
     ·simp -dsimp only[go_sem,bA,aA,h1,g1,e11,h01,h2,z2,ltr,spt,vct,on0,wht]
      exact no1 (bad (by unfold jS;rw[hr0];simp[h1,h2])) _ _ (by omega)
     ·simp -dsimp only[go_sem,bA,aA,h1,g1,e11,h01,h2]
      refine zAg (some ()) ?_
      exact⟨rfl,rfl,fun h=>h2 h.2⟩
    ·simp -dsimp only[go_sem,bA,aA,e1,h1]
     refine zAg (some ()) ?_
     exact⟨rfl,rfl,fun h=>h1 h.1⟩
 ·rintro⟨⟩ ⟨hm,hc,hg⟩
  obtain⟨hp0,hp16⟩:=chl hc
  obtain⟨g1,g2⟩:=hd0 hp0
  have hp0':=eq_true hp0
  obtain⟨mr,me,hmk⟩:∃mr me,xM (eO path 0) d body=(mr,me):=⟨_,_,rfl⟩
  have cM:∀H:Heap,MCall Cx 13 [.agg (ze (eO path 0)),vA d,.agg (zR body)] H (·=⟨.tup [.agg (ze mr),vA me],H,H.n⟩):=fun H=>Ak kO (eO path 0) d body H _ hB (by rw[hmk])
  have cN:∀H:Heap,MCall Cx 50 [NB ze path,vA 0] H (·=⟨.agg (ze (eO path 0)),H,H.n⟩):=fun H=>Rc path 0 ⟨by omega,by decide⟩ H _ rfl
  refine DC zm (ι:=Heap) (fun _=>[(1,NB ze path),(2,vA d),(4,.ptr H.n 0),(7,.ptr (H.n+1) 0),(8,.ptr (H.n+2) 0),(11,.ptr bw 0)]) (fun X=>X) (fun _=>H.n) (fun X=>Gw Z X/\me=0/\mr=r0) ?_ ?_
  ·simp -dsimp only[go_sem,zf,zh]
   refine DR.wr _ ((CA (uO cN) (CA (uO cM) xA))) [(1,3),(1,8),(3,8),(4,8)] (by kernel_rfl) (by kernel_rfl) ?_
   obtain⟨V1,hV1⟩:∃V1,(Z.push (.cells (ze .zero) 32)).set Z.n (.cells (ze mr) 32)=V1:=⟨_,rfl⟩
   have v1:V1.n=Z.n+1:=by rw[<-hV1,kA,iA]
   have v2:V1.get Z.n=some (.cells (ze mr) 32):=by rw[<-hV1,dA,if_pos ⟨rfl,by rw[iA];omega⟩]
   have v3:Gw Z V1:=⟨by omega,fun j hj=>by rw[<-hV1,dA,if_neg (fun h=>absurd h.1 (by omega)),zj j hj]⟩
   have w2:=v3.get z2
   have ltv:H.n+2<V1.n:=by omega
   simp -dsimp only[go_sem,bA,aA,z1,hV1]
   refine DR.of _ xA (by kernel_rfl) ?_
   by_cases h1:me=0
   ·by_cases h2:mr=r0
    ·simp -dsimp only[go_sem,bA,aA,h1,h2,v2,g2,hp0']
     refine zAg (some V1) ?_
     exact⟨v3,h1,h2⟩
    ·simp -dsimp only[go_sem,bA,aA,h1,h2,v2,g2,hp0',w2,ltv,spt,vct,on0,wht]
     exact no1 (bad (by unfold jS;rw[hr0,hmk];simp[h2])) _ _ (by omega)
   ·simp -dsimp only[go_sem,bA,aA,gA,h1,w2,ltv,spt,vct,on0,wht]
    exact no1 (bad (by unfold jS;rw[hr0,hmk];simp[h1])) _ _ (by omega)
  ·rintro X ⟨hG,hme,hmr⟩
   have okk:jS t.nodes path d body=true:=by
    unfold jS
    rw[hr0,hmk,hm,hc]
    simp only[hme,hmr,decide_true,nG,Bool.true_and,Bool.not_eq_true',Bool.and_eq_false_iff,decide_eq_false_iff_not]
    by_cases h:path.length=1
    ·exact .inr fun h2=>hg ⟨h,h2⟩
    ·exact .inl h
   have x0:=hG.get z0
   have x1:=hG.get z1
   have x2:=hG.get z2
   have wX:=wZ.gw hG
   have xn2:=hG.n
   have hm32:=(zjj hm).1
   clear hd0 cM cN
   refine DC zm (ι:=Heap×V×List GNode) (fun _=>[(4,.ptr H.n 0),(8,.ptr (H.n+2) 0),(11,.ptr bw 0)]) (fun p=>p.1) (fun _=>H.n)
    (fun p=>MO path d body t.nodes path.length=some p.2.2/\WorkC (H.n+3) bw p.1 p.2.1 p.2.2/\p.2.2.length<=64/\InsB H t body p.1) ?_ ?_
   ·simp -dsimp only[go_sem,bA,aA,zf,zh]
    refine WW.loopW (ι:=Nat×Heap×V×List GNode) (fun p=>[(1,NB ze path),(2,vA d),(4,.ptr H.n 0),(7,.ptr (H.n+1) 0),(8,.ptr (H.n+2) 0),(11,.ptr bw 0),(67,NB ze path),(68,vA path.length),(69,vA p.1)]) (fun p=>p.2.1) (fun _=>H.n)
     (fun p=>p.1<=path.length/\MO path d body t.nodes p.1=some p.2.2.2/\WorkC (H.n+3) bw p.2.1 p.2.2.1 p.2.2.2/\p.2.2.2.length<=32+p.1/\InsB H t body p.2.1) (fun p=>path.length-p.1) (0,X,nv2,t.nodes) ⟨KB _,rfl,wX,by simp only;omega,zB.of fun j hj=>hG.old j (by omega)⟩ ?_ ?_
    ·refine Sub.trans (MB (lo2:=H.n) (by omega)) ?_
     exact RB _ zSl
    ·rintro⟨i,R,nv,m⟩ ⟨i1,i2,i3,i4,i5⟩
     simp only at i1 i2 i3 i4 i5
     have rn:=zq i3.var
     have hb1:=i3.lo
     have r0:=i5.b0
     have r1:=i5.b1
     have r2:=i5.b2
     simp -dsimp only[go_sem,zf,zh]
     refine PA zm ?_
     simp -dsimp only[go_sem,bA,aA]
     refine PA zm ?_
     simp -dsimp only[go_sem,aA]
     refine BR.dec (fun g=>?_) (fun g=>?_)
     ·obtain⟨x,hx⟩:=zu g
      simp -dsimp only[go_sem,g]
      refine yC ?_
      refine WW.blk ?_
      refine PA zm ?_
      simp -dsimp only[go_sem,bA,aA,g,z7 zi hx]
      obtain⟨up,hup⟩:∃up,eO path i=up:=⟨_,rfl⟩
      have hgx:path.getD i .zero=x:=by rw[DA,hx];rfl
      have stp:∀m',A4 path d body m i=some m'->MO path d body t.nodes (i+1)=some m':=fun m' h=>by rw[MO,i2];exact h
      refine PA zm ?_
      simp -dsimp only[go_sem,bA,aA]
      refine oB ?_
      refine Rc path i ⟨by omega,by omega⟩ _ _ ?_
      simp -dsimp only[go_sem,bA,aA,cA,reduceCtorEq,hup]
      obtain⟨R2,hR2⟩:∃R2,((((R.push (.cells (ze .zero) 32)).set R.n (.cells (ze x) 32)).push (.cells (ze .zero) 32)).set (R.n+1) (.cells (ze up) 32))=R2:=⟨_,rfl⟩
      rw[hR2]
      have n2:R2.n=R.n+2:=by rw[<-hR2];simp -dsimp only[go_sem,cA]
      have a0:R2.get R.n=some (.cells (ze x) 32):=by rw[<-hR2];simp -dsimp only[go_sem,bA,cA,reduceCtorEq]
      have a1:R2.get (R.n+1)=some (.cells (ze up) 32):=by rw[<-hR2];simp -dsimp only[go_sem,bA,cA,reduceCtorEq]
      have G2:Gw R R2:=⟨by omega,fun j hj=>by rw[<-hR2];simp -dsimp only[go_sem,bA,cA];rw[if_neg (by omega),if_neg (by omega),if_neg (by omega),if_neg (by omega)]⟩
      clear hR2
      have w2:=i3.gw G2
      refine WB H.n [(1,NB ze path),(2,vA d),(4,.ptr H.n 0),(7,.ptr (H.n+1) 0),(8,.ptr (H.n+2) 0),(11,.ptr bw 0),(67,NB ze path),(68,vA path.length),(69,vA i),(14,vA i),(15,.ptr R.n 0),(16,.ptr (R.n+1) 0)] (by omega) zSl ?_
      refine PA zm ?_
      simp -dsimp only[go_sem,bA,aA,zf,zh,a0]
      refine oB ?_
      simp -dsimp only[go_sem,bA,aA]
      refine YX m (by omega) (H.n+3) bw nv x R2 w2 _ ?_
      simp -dsimp only[go_sem,bA,aA]
      refine WB H.n [(1,NB ze path),(2,vA d),(4,.ptr H.n 0),(7,.ptr (H.n+1) 0),(8,.ptr (H.n+2) 0),(11,.ptr bw 0),(67,NB ze path),(68,vA path.length),(69,vA i),(14,vA i),(15,.ptr R.n 0),(16,.ptr (R.n+1) 0),(17,vA (CH m x)),(18,.lit (.bool (aH m x)))] (by omega) zSl ?_
      refine WW.blk ?_
      refine PA zm ?_
      simp -dsimp only[go_sem,bA,aA,zf,zh]
      refine WW.cnd (!aH m x) (by simp -dsimp only[go_sem,aA]) ?_ ?_
      ·intro hh
       replace hh:aH m x=false:=by simpa using hh
       refine PA zm ?_
       have ln:=rQ x up (vA 0) (vA 0) zV rfl
       have on:=MQ x up (vA 0) (vA 0) zV rfl rfl rfl
       have sa:zD zNode 0 (LK x up (vA 0::vA 0::zV))=some (LK x up (vA 0::vA 0::zV)):=DM _ _ (by rw[ln];decide)
       simp -dsimp only[go_sem,bA,aA,a0,a1,zoN,ln,on,sa]
       obtain⟨R3,hR3⟩:∃R3,(R2.push (.cells zNode 38)).set R2.n (.cells (LK x up (vA 0::vA 0::zV)) 38)=R3:=⟨_,rfl⟩
       rw[hR3]
       have n3:R3.n=R2.n+1:=by rw[<-hR3,kA,iA]
       have c0:R3.get R2.n=some (.cells (LK x up (vA 0::vA 0::zV)) 38):=by rw[<-hR3,dA,if_pos ⟨rfl,by rw[iA];omega⟩]
       have co:∀j,j<R2.n->R3.get j=R2.get j:=fun j hj=>by rw[<-hR3,dA,if_neg (fun h=>absurd h.1 (by omega)),zj j hj]
       have c1:R3.get (H.n+1)=some (.cells (zR body) 36):=by rw[co _ (by omega),G2.old _ (by omega),r1]
       have lt3:R2.n<R3.n:=by omega
       clear hR3
       refine DC zm (ι:=Heap) (fun _=>[(1,NB ze path),(2,vA d),(4,.ptr H.n 0),(7,.ptr (H.n+1) 0),(8,.ptr (H.n+2) 0),(11,.ptr bw 0),(67,NB ze path),(68,vA path.length),(69,vA i),(17,vA (CH m x)),(19,.ptr R2.n 0)]) (fun X=>X) (fun _=>H.n)
        (fun X=>R2.n+1<=X.n/\(∀j,j<R2.n->X.get j=R2.get j)/\X.get R2.n=some (.cells (za (if i=0 then⟨x,up,d,1,body⟩ else⟨x,up,0,0,.zero⟩)) 38)) ?_ ?_
       ·simp -dsimp only[go_sem,bA,aA]
        by_cases h0:i=0
        ·have e0:((i:Int)=0)=True:=by simp;omega
         have vb:zG (.agg (zR body))=some (zR body):=tf _
         have ob:=B7 body
         have lb:=zF body
         have s34:=sp34 x up (vA 0) (vA d) (vA 0::zV)
         have s35:=R0 x up (vA d) (vA 0) (vA 1) zV
         have s36:=sp36 x up (vA d) (vA 1) body
         simp -dsimp only[go_sem,bA,aA,e0,c1]
         refine oB ?_
         refine cU body hB.1 hBt _ _ ?_
         simp -dsimp only[go_sem,bA,aA,e0,c0,s34,s35,s36,vb,ob,lb,lt3]
         refine zAg (some (((R3.set R2.n (.cells (LK x up (vA d::vA 0::zV)) 38)).set R2.n (.cells (LK x up (vA d::vA 1::zV)) 38)).set R2.n (.cells (LK x up (vA d::vA 1::zR body)) 38))) ?_
         dsimp only
         refine⟨by rw[kA,kA,kA];omega,fun j hj=>by rw[dA,if_neg (fun h=>absurd h.1 (by omega)),dA,if_neg (fun h=>absurd h.1 (by omega)),dA,if_neg (fun h=>absurd h.1 (by omega)),co j hj],?_⟩
         rw[dA,if_pos ⟨rfl,by rw[kA,kA];exact lt3⟩,if_pos h0]
         rfl
        ·have e0:((i:Int)=0)=False:=by simp;omega
         simp -dsimp only[go_sem,aA,e0]
         refine Again.wk (HWk.fzs (lo:=H.n) c0 (by omega) (LY x up)) (by omega) ?_
         refine zAg (some (R3.set R2.n (.cells (za ⟨x,up,0,0,.zero⟩) 38))) ?_
         dsimp only
         refine⟨by rw[kA];omega,fun j hj=>by rw[dA,if_neg (fun h=>absurd h.1 (by omega)),co j hj],?_⟩
         rw[dA,if_pos ⟨rfl,lt3⟩,if_neg h0]
       ·rintro U ⟨u1,u2,u3⟩
        have wU:=w2.gw (Y:=U) ⟨by omega,u2⟩
        refine WW.bar2 zm 9 (by kernel_rfl) _ _ rfl rfl _ (by conv=>lhs;simp only[JD,UA]) ?_ ?_
        all_goals
         dsimp only[NA,iB,JD,UA,List.tail_cons,WO]
         refine DR.wr _ xA [(5,7),(5,8)] (by kernel_rfl) (by kernel_rfl) ?_
         obtain⟨nw,hnw⟩:∃nw,(if i=0 then(⟨x,up,d,1,body⟩:GNode) else⟨x,up,0,0,.zero⟩)=nw:=⟨_,rfl⟩
         rw[hnw] at u3
         have l3:=zg nw
         have o3:=VN nw
         simp -dsimp only[go_sem,bA,aA,zf,zh,wU.var,u3,l3]
         obtain⟨V5,hV5⟩:∃V5,U.push (.cells (za nw) 38)=V5:=⟨_,rfl⟩
         rw[hV5]
         have v5n:V5.n=U.n+1:=by rw[<-hV5,iA]
         have v5g:V5.get U.n=some (.cells (za nw) 38):=by rw[<-hV5,yA,if_pos rfl]
         have v5o:Gw U V5:=⟨by omega,fun j hj=>by rw[<-hV5,zj j hj]⟩
         have w5:=wU.gw v5o
         have bU:=zq wU.var
         refine oB ?_
         refine zp0 m (by omega) (CH m x) (zqy m x) nw (H.n+3) nv U.n none V5 (by omega) w5.nod v5g (fun e=>by have:=(Mg wU.nod e).2.1;omega) _ ?_
         intro X5 nv5 lo5 q1 q2 q3 q4
         have qb:=q2 bw (by omega) w5.ne
         have q5:X5.get bw=some (.cells [nv] 55):=by rw[qb.1,w5.var]
         have ltq:=zq q5
         have vc5:zG nv5=some [nv5]:=by rcases q4 with⟨_,rfl⟩|⟨k,rfl,_⟩<;>rfl
         have o5:([nv5]:List V).all HB=true:=by rcases q4 with⟨_,rfl⟩|⟨k,rfl,_⟩<;>rfl
         have sp5:zD [nv] 0 [nv5]=some [nv5]:=rfl
         simp -dsimp only[go_sem,bA,aA,q5,vc5,o5,sp5]
         refine LB zm ?_
         simp -dsimp only[go_sem,bA,aA]
         have lni:=LO m (CH m x) nw (zqy m x)
         have old5:∀j,j<H.n+3->(X5.set bw (.cells [nv5] 55)).get j=R.get j:=fun j hj=>by
          rw[dA,if_neg (fun h=>absurd h.1 (by omega)),(q2 j (by omega) (fun e=>by have:=(Mg i3.nod e).1;omega)).1,v5o.old j (by omega),u2 j (by omega),G2.old j (by omega)]
         have nod5:NodeC (H.n+3) (X5.set bw (.cells [nv5] 55)) nv5 (IL m (CH m x) nw):=q4.of fun j hj _=>by
          rw[dA,if_neg (fun h=>qb.2 (by rw[hj,h.1]))]
         refine zAg (i+1,X5.set bw (.cells [nv5] 55),nv5,IL m (CH m x) nw) ?_
         dsimp only
         exact⟨g,stp _ (by unfold A4;rw[hgx,hup,if_pos hh,hnw]),⟨hb1,by rw[dA,if_pos ⟨rfl,ltq⟩],nod5,qb.2⟩,by omega,i5.of old5⟩
      ·intro hh
       replace hh:aH m x=true:=by simpa using hh
       refine PA zm ?_
       simp -dsimp only[go_sem]
       refine DR.wr _ ((CA (AO) xA)) [(0,1)] (by kernel_rfl) (by kernel_rfl) ?_
       simp -dsimp only[go_sem,bA,aA,a1]
       refine WW.cnd (decide (up=.zero)) (by simp -dsimp only[go_sem,aA]) ?_ ?_
       ·intro hz
        replace hz:up=.zero:=by simpa using hz
        refine LB zm ?_
        simp -dsimp only[go_sem]
        refine LB zm ?_
        simp -dsimp only[go_sem,bA,aA]
        refine zAg (i+1,R2,nv,m) ?_
        dsimp only
        exact⟨g,stp _ (by unfold A4;rw[hgx,hup,if_neg (by rw[hh];decide),if_pos hz]),w2,by omega,i5.of fun j hj=>G2.old j (by omega)⟩
       ·intro hz
        replace hz:up≠.zero:=by simpa using hz
        have hlt:CH m x<m.length:=by
         have:=hh
         rw[aH,wA,decide_eq_true_eq] at this
         exact this.1
        obtain⟨y,hy⟩:=zu hlt
        have hny:SI m (CH m x)=y:=by rw[SI,DA,hy];rfl
        have stp2:∀o,A4 path d body m i=o->o=(if y.parent=.zero then some (m.set (CH m x) ⟨y.rev,up,y.deleted,y.has,y.body⟩) else if y.parent=up then some m else none):=fun o h=>by
         rw[<-h]
         unfold A4
         rw[hgx,hup,if_neg (by rw[hh];decide),if_neg hz,hny]
        have hm1:m.length<=64:=by omega
        have pa:=WZ hy
        rcases w2.nod with⟨e,_⟩|⟨k,rfl,hk1,hk2⟩
        ·rw[e] at hlt
         exact absurd hlt (OD _)
        have hkb:k≠bw:=fun e=>w2.ne (by rw[e];rfl)
        have ltk:=zq hk2
        have sp:=zpd hy up
        have lu:=zi up
        have ou:=UR up
        refine PA zm ?_
        simp -dsimp only[go_sem]
        refine DR.wr _ ((CA (AO) xA)) [(4,9),(8,9)] (by kernel_rfl) (by kernel_rfl) ?_
        simp -dsimp only[go_sem,bA,aA,w2.var,hk2,hlt,pa]
        refine WW.cnd (decide (y.parent=.zero)) (by simp -dsimp only[go_sem,aA]) ?_ ?_
        ·intro hp
         replace hp:y.parent=.zero:=by simpa using hp
         refine LB zm ?_
         simp -dsimp only[go_sem]
         refine DR.wr _ xA [(4,6)] (by kernel_rfl) (by kernel_rfl) ?_
         simp -dsimp only[go_sem,bA,aA,w2.var,hk2,hlt,a1,sp,lu,ou]
         refine LB zm ?_
         simp -dsimp only[go_sem,bA,aA]
         refine zAg (i+1,R2.set k (.cells (row za (m.set (CH m x) ⟨y.rev,up,y.deleted,y.has,y.body⟩)) 38),.sl k 0 m.length m.length (some 41),m.set (CH m x) ⟨y.rev,up,y.deleted,y.has,y.body⟩) ?_
         dsimp only
         refine⟨g,stp _ (by rw[stp2 _ rfl,if_pos hp]),⟨hb1,by rw[dA,if_neg (fun h=>hkb h.1.symm),w2.var],.inr ⟨k,by rw[qB],hk1,by rw[dA,if_pos ⟨rfl,ltk⟩]⟩,w2.ne⟩,by rw[qB];omega,i5.of fun j hj=>by rw[dA,if_neg (fun h=>absurd h.1 (by omega)),G2.old j (by omega)]⟩
        ·intro hp
         replace hp:y.parent≠.zero:=by simpa using hp
         refine PA zm ?_
         simp -dsimp only[go_sem]
         refine DR.wr _ xA [(4,9),(8,9)] (by kernel_rfl) (by kernel_rfl) ?_
         simp -dsimp only[go_sem,bA,aA,w2.var,hk2,hlt,pa,a1]
         refine WW.cnd (decide (¬y.parent=up)) (by simp -dsimp only[go_sem,aA]) ?_ ?_
         ·intro hq
          replace hq:y.parent≠up:=by simpa using hq
          have hnone:MO path d body t.nodes (i+1)=none:=by
           rw[MO,i2]
           show A4 path d body m i=none
           rw[stp2 _ rfl,if_neg hp,if_neg hq]
          have hend:=zi8 hnone path.length (by omega)
          have t2:R2.get (H.n+2)=some (.cells oJ 24):=by rw[G2.old _ (by omega),r2]
          have lt2:H.n+2<R2.n:=by omega
          refine LB zm ?_
          simp -dsimp only[go_sem,bA,aA,t2,lt2,spt,vct,on0,wht]
          exact no1 (by rw[tM,if_pos okk,hend]) _ _ (by omega)
         ·intro hq
          replace hq:y.parent=up:=by simpa using hq
          refine LB zm ?_
          simp -dsimp only[go_sem]
          refine LB zm ?_
          simp -dsimp only[go_sem,bA,aA]
          refine zAg (i+1,R2,.sl k 0 m.length m.length (some 41),m) ?_
          dsimp only
          exact⟨g,stp _ (by rw[stp2 _ rfl,if_neg hp,if_pos hq]),w2,by omega,i5.of fun j hj=>G2.old j (by omega)⟩
     ·simp -dsimp only[go_sem,g]
      have hi:i=path.length:=by omega
      subst hi
      refine zAg (some (R,nv,m)) ?_
      exact⟨i2,i3,by simp only;omega,i5⟩
   ·rintro⟨R,nv3,m⟩ ⟨r1,r2,r3,r4⟩
    simp only at r1 r2 r3 r4
    have rn:=zq r4.b2
    have kn3:∀j,j<H.n+3->hJ nv3≠some j:=fun j hj e=>by have:=(Mg r2.nod e).1;omega
    have hb0':=r2.lo
    refine PA zm ?_
    simp -dsimp only[go_sem,bA,aA,zf,zh]
    refine oB ?_
    simp -dsimp only[go_sem,aA]
    refine m_54 m (by omega) (H.n+3) bw nv3 R r2 _ ?_
    intro X5 nv4 q1 q2 q3 q4
    have q5:InsB H t body X5:=r4.of fun j hj=>q2 j (by omega) (by omega) (kn3 j hj)
    simp -dsimp only[go_sem]
    refine WW.frz [.cells (zp t) 24,.cells (zR body) 36,.cells oJ 24] [(4,.ptr H.n 0),(8,.ptr (H.n+2) 0),(11,AH (jM m))] ?_ q5.old ?_ (fun b e=>by cases e) ?_ ?_ ?_
    ·simp only[HA,SA];omega
    ·omega
    ·intro i B hB
     match i,hB with
     | 0,hB=>
      injection hB with hB
      subst hB
      exact⟨_,by rw[pE];exact q5.b0,RNb.one (CM t)⟩
     | 1,hB=>
      injection hB with hB
      subst hB
      exact⟨_,q5.b1,RNb.one (TL body)⟩
     | 2,hB=>
      injection hB with hB
      subst hB
      exact⟨_,q5.b2,RNb.one (by decide)⟩
    ·intro p hp
     simp only[IB,JA,or_false,HA,SA] at hp ⊢
     rcases hp with rfl|rfl|rfl
     ·exact RN.same (by simp -dsimp only[go_sem,aA]) (by simp[V.ok])
     ·exact RN.same (by simp -dsimp only[go_sem,aA]) (by simp[V.ok])
     ·refine RN.fz ?_
      simp -dsimp only[go_sem,aA,cA]
      exact .ptr bw 0 [nv4] _ 1 _ (by omega) q4.var (.one (q4.nod.s.fz fun b hb=>by omega))
    generalize hG2:wC H [.cells (zp t) 24,.cells (zR body) 36,.cells oJ 24]=G
    have gn:G.n=H.n+3:=by rw[<-hG2,p7];rfl
    have g0:G.get H.n=some (.cells (zp t) 24):=by rw[<-hG2];simp -dsimp only[go_sem,cA,reduceCtorEq,wC]
    have gt2:G.get (H.n+2)=some (.cells oJ 24):=by rw[<-hG2];simp -dsimp only[go_sem,aA,cA,reduceCtorEq,wC]
    have go:∀j,j<H.n->G.get j=H.get j:=fun j hj=>by rw[<-hG2,T1 _ _ _ hj]
    have ins3:tM t.nodes path d body=if 32<(jM m).length\/8<(zS (jM m)).length then([],0,3) else(jM m,tV t.nodes (jM m),0):=by
     rw[tM,if_pos okk,r1]
    have hrl:(jM m).length<=64:=by
     unfold jM
     rw[bC]
     exact cB (List.length_filter_le _ _) (by rw[bC];exact r3)
    have no3:(32<(jM m).length\/8<(zS (jM m)).length)->∀X lo,H.n<=lo->Res Cx H (.tup [.agg [.lit (.slice none 0 0)],vA 0,vA 3]) X lo Q .mk:=fun e X lo hlo=>by
     rw[ins3,if_pos e] at hQ
     exact HC (.tup [.agg (zp ⟨[]⟩),vA (0:Nat),vA 3]) hlo (.tup _ _ (.cons _ _ _ _ (.agg _ _ (.one .nil)) (.two (.self _ rfl) (.self _ rfl)))) hQ
    have ltg:H.n+2<G.n:=by omega
    generalize hm2:jM m=m2 at *
    refine DC zm (ι:=Unit) (fun _=>[(4,.ptr H.n 0),(8,.ptr (H.n+2) 0),(11,AH m2)]) (fun _=>G) (fun _=>H.n) (fun _=>¬(32<m2.length\/8<(zS m2).length)) ?_ ?_
    ·simp -dsimp only[go_sem,bA,aA,zf,zh]
     have e32:((32:Int)<((m2.length:Nat):Int))=(32<m2.length):=by simp;omega
     have e8:((8:Int)<(((zS m2).length:Nat):Int))=(8<(zS m2).length):=by simp;omega
     by_cases h1:32<m2.length
     ·simp -dsimp only[go_sem,bA,aA,e32,h1,gt2,ltg,spt,vct,on0,wht]
      exact no3 (.inl h1) _ _ (by omega)
     ·have f32:((32:Int)<((m2.length:Nat):Int))=False:=by rw[e32];exact eq_false h1
      simp -dsimp only[go_sem,bA,aA,f32]
      refine oB ?_
      simp -dsimp only[go_sem,bA,aA]
      refine aU m2 (by omega) G _ ?_
      by_cases h2:8<(zS m2).length
      ·simp -dsimp only[go_sem,bA,aA,f32,e8,h2,gt2,ltg,spt,vct,on0,wht]
       exact no3 (.inr h2) _ _ (by omega)
      ·have f8:((8:Int)<(((zS m2).length:Nat):Int))=False:=by rw[e8];exact eq_false h2
       simp -dsimp only[go_sem,bA,aA,f32,f8]
       refine zAg (some ()) ?_
       exact fun h=>h.elim h1 h2
    ·rintro⟨⟩ hn3
     rw[ins3,if_neg hn3] at hQ
     simp -dsimp only[go_sem,zf,zh]
     refine PA zm ?_
     simp -dsimp only[go_sem,bA,aA,g0]
     obtain⟨G4,hG4⟩:∃G4,G.push (.cells (zp t) 55)=G4:=⟨_,rfl⟩
     have g4n:G4.n=G.n+1:=by rw[<-hG4,iA]
     have g4o:∀j,j<G.n->G4.get j=G.get j:=fun j hj=>by rw[<-hG4,zj _ hj]
     have g4w:G4.get G.n=some (.cells (zp t) 55):=by rw[<-hG4,yA,if_pos rfl]
     have g1:G.get (H.n+1)=some (.cells (zR body) 36):=by rw[<-hG2];simp -dsimp only[go_sem,aA,cA,reduceCtorEq,wC]
     rw[hG4]
     refine WW.frz [.cells (zp t) 24,.cells (zR body) 36,.cells oJ 24] [(8,.ptr (H.n+2) 0),(11,AH m2),(20,AH t.nodes)] ?_ (fun j hj=>by rw[g4o j (by omega),go j hj]) ?_ (fun b e=>by cases e) ?_ ?_ ?_
     ·simp only[HA,SA];omega
     ·omega
     ·intro i B hB
      match i,hB with
      | 0,hB=>
       injection hB with hB
       subst hB
       exact⟨_,by rw[pE,g4o _ (by omega)];exact g0,RNb.one (CM t)⟩
      | 1,hB=>
       injection hB with hB
       subst hB
       exact⟨_,by rw[g4o _ (by omega)];exact g1,RNb.one (TL body)⟩
      | 2,hB=>
       injection hB with hB
       subst hB
       exact⟨_,by rw[g4o _ (by omega)];exact gt2,RNb.one (by decide)⟩
     ·intro p hp
      simp only[IB,JA,or_false,HA,SA] at hp ⊢
      rcases hp with rfl|rfl|rfl
      ·exact RN.same (by simp -dsimp only[go_sem,aA]) (by simp[V.ok])
      ·refine RN.fz ?_
       simp -dsimp only[go_sem,aA,cA]
       exact .self _ (CM ⟨m2⟩)
      ·refine RN.fz ?_
       simp -dsimp only[go_sem,aA,cA]
       exact .ptr G.n 0 (zp t) 55 1 _ (by omega) g4w (.one (.self _ (UH zK _)))
     rw[hG2]
     clear hG4 g4o g4w
     refine PA zm ?_
     simp -dsimp only[go_sem,bA,zf,zh]
     refine PA zm ?_
     simp -dsimp only[go_sem,bA,aA]
     refine WW.still zm (fun p:Nat×Nat=>[(8,.ptr (H.n+2) 0),(11,AH m2),(20,AH t.nodes),(21,vA p.2),(172,NB za m2),(173,vA m2.length),(174,vA p.1)]) (fun p=>p.1<=m2.length/\p.2<=p.1/\p.2=tV t.nodes (m2.take p.1)) (fun p=>m2.length-p.1) (0,0) ⟨KB _,jA _,rfl⟩ zSl ?_
     have slok:∀i c:Nat,([(8,.ptr (H.n+2) 0),(11,AH m2),(20,AH t.nodes),(21,vA c),(172,NB za m2),(173,vA m2.length),(174,vA i)]:List (Nat×V)).all (fun p=>V.ok G.n p.2)=true:=fun i c=>by
      have e1:V.ok G.n (.ptr (H.n+2) 0)=true:=by simp[V.ok];omega
      have e2:∀l:List GNode,V.ok G.n (AH l)=true:=fun l=>H4 _ _ (CM ⟨l⟩)
      have e3:V.ok G.n (NB za m2)=true:=H4 _ _ (UH zK _)
      simp only[CD,List.all_nil,e1,e2,e3]
      rfl
     have hGr:Grn H G:=by
      rw[<-hG2]
      exact .push (.push (.push .refl (by(focus (simp[Blk.ok,JO]<;>(try omega))))) (by(focus (simp[Blk.ok,NR,iA]<;>(try omega))))) (show Blk.ok _ (.cells oJ 24)=true from rfl)
     rintro⟨i,c⟩ ⟨hi,hc2,hc3⟩
     simp only at hi hc2 hc3
     simp -dsimp only[go_sem,bA,aA,zf,zh]
     refine BR.dec (fun g=>?_) (fun g=>?_)
     ·obtain⟨x,hx⟩:=zu g
      have cc:tV t.nodes (m2.take (i+1))=tV t.nodes (m2.take i)+(if aH t.nodes x.rev then 0 else 1):=by
       rw[yB,hx,tV,tV,List.countP_append]
       cases hq:aH t.nodes x.rev<;>simp[hq]
      simp -dsimp only[go_sem,bA,aA,g,z7 zg hx]
      refine aD _ ((CA (KQ) xA)) ?_
      simp -dsimp only[go_sem,bA,aA,g,il t.nodes x.rev (by omega)]
      cases hh:aH t.nodes x.rev
      ·rw[hh,if_neg (by decide)] at cc
       simp -dsimp only[go_sem,bA,aA,g]
       refine Again.rest (i+1,c+1) ⟨g,by simp only;omega,by simp only;rw[cc,hc3]⟩ ?_ ?_ (slok (i+1) (c+1)) hGr ?_ ?_ ?_ ?_ ?_ go (fun b e=>by cases e)
       ·(focus ((try dsimp only)<;>(try simp only[iA,kA])<;>omega))
       ·(focus (simp -dsimp only[go_sem,aA,OA,JA,false_implies,implies_true]<;>(try simp (disch:=omega) only[zw])<;>(try simp)<;>(try omega)))
       ·(focus ((try dsimp only)<;>(try simp only[iA,kA])<;>omega))
       ·(focus ((try dsimp only)<;>(focus (intro b hb;(try simp only[yA,dA,iA] at hb ⊢)<;>(try (repeat' split))<;>first|rfl|omega|(exfalso;omega)))))
       ·(focus ((try dsimp only)<;>(try simp only[iA,kA])<;>omega))
       ·(focus ((try dsimp only)<;>(try simp only[iA,kA])<;>omega))
       ·(focus ((try dsimp only)<;>(try simp only[iA,kA])<;>omega))
      ·rw[hh,if_pos rfl] at cc
       simp -dsimp only[go_sem,bA,aA,g]
       refine Again.rest (i+1,c) ⟨g,by simp only;omega,by simp only;rw[cc,hc3,pE]⟩ ?_ ?_ (slok (i+1) c) hGr ?_ ?_ ?_ ?_ ?_ go (fun b e=>by cases e)
       ·(focus ((try dsimp only)<;>(try simp only[iA,kA])<;>omega))
       ·(focus (simp -dsimp only[go_sem,aA,OA,JA,false_implies,implies_true]<;>(try simp (disch:=omega) only[zw])<;>(try simp)<;>(try omega)))
       ·(focus ((try dsimp only)<;>(try simp only[iA,kA])<;>omega))
       ·(focus ((try dsimp only)<;>(focus (intro b hb;(try simp only[yA,dA,iA] at hb ⊢)<;>(try (repeat' split))<;>first|rfl|omega|(exfalso;omega)))))
       ·(focus ((try dsimp only)<;>(try simp only[iA,kA])<;>omega))
       ·(focus ((try dsimp only)<;>(try simp only[iA,kA])<;>omega))
       ·(focus ((try dsimp only)<;>(try simp only[iA,kA])<;>omega))
     ·simp -dsimp only[go_sem,g]
      have onm:([NB za m2]:List V).all HB=true:=rfl
      refine LB zm ?_
      simp -dsimp only[go_sem,bA,aA,gt2,ltg,spt,vct,onm,wht]
      have hi2:i=m2.length:=by omega
      rw[hi2,FB] at hc3
      rw[hc3]
      exact HC (.tup [.agg (zp ⟨m2⟩),vA (tV t.nodes m2:Nat),vA 0]) (by omega) (.tup _ _ (.cons _ _ _ _ (.self _ (CM ⟨m2⟩)) (.two (.self _ rfl) (.self _ rfl)))) hQ
end
end Go.Proofs.YtookdinfaoelaaaGreatDoor
