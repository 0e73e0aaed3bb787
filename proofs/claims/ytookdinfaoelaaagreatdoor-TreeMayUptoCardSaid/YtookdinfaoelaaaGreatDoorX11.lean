/- Own work for this claim, part 12 of 17. No condition of its own. -/
import Derived.Test.YtookdinfaoelaaaGreatDoorX10
import Derived.Test.YtookdinfaoelaaaGreatDoorX09
import Derived.Test.YtookdinfaoelaaaGreatDoorX07
import Derived.Test.YtookdinfaoelaaaGreatDoorX08
set_option linter.all false
set_option maxRecDepth 100000
set_option maxHeartbeats 4000000
open Bool renaming and_eq_true→wA,and_false→QB,false_and→kD
open Go.Proofs.Tryz renaming f38→LG,f53→qK,func38→fF,func53→eI,prog→fA,underlying153→NE,underlying22→FA
open Go.Tw.BR renaming dec→aB
open Go.Tw.DR renaming of→JC,wr→tE
open Go.Tw.GD renaming dec→AB
open Go.Tw.Heap renaming get_push→yA,get_set→dA,n_push→iA,n_set→kA
open Go.Tw.MCall renaming of→QA,ofW→mB
open Go.Tw.MV renaming fn→oB,tab→aD
open Go.Tw.OO renaming intro→rB
open Go.Tw.Res renaming bf→AA,same→nB
open Go.Tw.Sub renaming keep→RB,lower→MB
open Go.Tw.Tab.OK renaming cons→CA,nil→xA
open Go.Tw.WW renaming bar→BD,blk→MD,cut→DC,loopW→dD,seq→yC,sq→PA,still→sC,vc→LB
open List renaming append_assoc→XA,append_nil→MA,drop→jJ,drop_append_of_le_length→fD,drop_left'→IF,drop_of_length_le→uC,drop_zero→UA,ext_getElem→uI,getD_eq_getElem?_getD→DA,getElem?_eq_getElem→sA,getElem?_eq_some_iff→rA,getElem?_set→KD,length_append→qA,length_drop→ZB,length_eq_zero_iff→WA,length_filter_le→tD,length_map→bC,length_set→qB,length_take→JB,mem_of_getElem?→IA,not_mem_nil→JA,range→CB,replicate→oA,take→kJ,take_add_one→yB,take_append_of_le_length→jB,take_left'→mC,take_length→FB,take_of_length_le→uA,take_succ_cons→NA,take_zero→iB
open Nat renaming ble_eq→KH,blt_eq→AD,le_of_lt→bF,le_refl→jA,le_trans→cB,lt_or_ge→RA,min_eq_left→LF,min_self→gA,mul_le_mul→OH,mul_one→wB,ne_of_lt→GG,reduceAdd→cA,reduceEqDiff→aA,reduceLT→bA,zero_add→bB,zero_le→KB
open Option renaming bind_eq_bind→pA,bind_some→KA,map_eq_some_iff→BA
open UInt32 renaming ofNat→pB
namespace Go.Proofs.YtookdinfaoelaaaGreatDoor
section
open Go Go.Tw
open Classical
def NodeS(n:Nat)(X:Heap)(nv:V)(l:List GNode):Prop:=
 (l=[]/\nv=.lit (.slice none 0 0))\/∃k c tag tl,nv=.sl k 0 l.length c tag/\n<=k/\l.length<=c/\X.get k=some (.cells (row za l++tl) 38)/\(tag=some 41\/(tag=none/\c*41<=(row za l++tl).length))
theorem NodeS.of{n:Nat}{X Y:Heap}{nv:V}{l:List GNode}(ho:∀j,n<=j->j<X.n->Y.get j=X.get j)(h:NodeS n X nv l):NodeS n Y nv l:=by
 rcases h with h|⟨k,c,tag,tl,h1,h2,h3,h4,h5⟩
 ·exact .inl h
 ·exact .inr ⟨k,c,tag,tl,h1,h2,h3,by rw[ho k h2 (zq h4),h4],h5⟩
theorem NodeS.lower{n m:Nat}{X:Heap}{nv:V}{l:List GNode}(hm:m<=n)(h:NodeS n X nv l):NodeS m X nv l:=by
 rcases h with h|⟨k,c,tag,tl,h1,h2,h3,h4,h5⟩
 ·exact .inl h
 ·exact .inr ⟨k,c,tag,tl,h1,by omega,h3,h4,h5⟩
theorem NodeS.len{n:Nat}{X Y:Heap}{nv:V}{l:List GNode}(h:NodeS n X nv l):qH fA Y 22 nv=some (vA l.length):=by
 rcases h with⟨rfl,rfl⟩|⟨k,c,tag,tl,rfl,_⟩
 ·exact C3 FA 0 0
 ·exact sV FA _ _ _ _ _
theorem NodeS.vc{n:Nat}{X:Heap}{nv:V}{l:List GNode}(h:NodeS n X nv l):zG nv=some [nv]:=by
 rcases h with⟨rfl,rfl⟩|⟨k,c,tag,tl,rfl,_⟩<;>rfl
theorem NodeS.one{n:Nat}{X:Heap}{nv:V}{l:List GNode}(h:NodeS n X nv l):V.one nv=true:=by
 rcases h with⟨rfl,rfl⟩|⟨k,c,tag,tl,rfl,_⟩<;>rfl
theorem NodeS.fz{n:Nat}{X:Heap}{nv:V}{l:List GNode}{Z:Nat->Prop}(hZ:∀b,n<=b->Z b)(h:NodeS n X nv l):Fz Z X nv (NB za l):=by
 rcases h with⟨rfl,rfl⟩|⟨k,c,tag,tl,rfl,h2,h3,h4,h5⟩
 ·exact .nil
 ·exact .sl k 0 _ _ _ _ _ (l.length*41) _ (hZ k h2) h4 h3 (by rw[UA,mC (zr zg l)];exact Fzs.self (UH zK l))
theorem zoH(l:List GNode)(hl:l.length<=1048576)(H:Heap)(Q:OR->Prop)(hQ:∀X nv lo,Gw H X->H.n<=lo->NodeS H.n X nv l->Q ⟨nv,X,lo⟩):MCall Cx 38 [NB za l] H Q:=by
 have e1:∀cs n,jE fA .eql 22 (.ps cs n) (.lit (.slice none 0 0))=some (.lit (.bool false)):=W3 FA
 have e2:jE fA .eql 22 .void (.lit (.slice none 0 0))=some (.lit (.bool false)):=V2 FA
 have e3:jE fA .eql 22 (.lit (.slice none 0 0)) (.lit (.slice none 0 0))=some (.lit (.bool true)):=P3 FA
 have e4:∀H,zx fA H 22 0 []=some ⟨.sl H.n 0 0 0 none,H.push (.cells [] 38),H.n⟩:=fun H=>KS FA NK FN
 have em:∀lo,H.n<=lo->l=[]->Q ⟨.sl H.n 0 0 0 none,H.push (.cells [] 38),lo⟩:=fun lo hlo h=>by
  subst h
  exact hQ _ _ _ .push hlo (.inr ⟨H.n,0,none,[],rfl,jA _,jA _,by rw[yA,if_pos rfl];rfl,.inr ⟨rfl,by simp⟩⟩)
 refine MCall.pn (fun h0 _=>?_) (fun h0 _=>?_) ?_
 ·have hl0:l=[]:=WA.1 h0
  subst hl0
  refine QA zm (fn:=LG) fF rfl (by decide) (k:=8) rfl (rs:=[.tmp 2]) rfl ?_
  simp -dsimp only[go_sem,bA,aA,reduceCtorEq]
  simp -dsimp only[go_sem,bA,aA,reduceCtorEq,gA,e3]
  exact nB (hQ H _ _ .refl (by omega) (.inl ⟨rfl,rfl⟩))
 ·have hl0:l=[]:=WA.1 h0
  refine QA zm (fn:=LG) fF rfl (by decide) (k:=8) rfl (rs:=[.tmp 2]) rfl ?_
  simp -dsimp only[go_sem,bA,aA,reduceCtorEq]
  simp -dsimp only[go_sem,bA,aA,reduceCtorEq,e2,e4]
  refine rB (gM (n:=0) (new:=[]) FA FA (by intro q h;cases h) QO FN XO rfl rfl rfl rfl (by omega)) ?_
  simp -dsimp only[go_sem,bA,aA,reduceCtorEq,gA]
  exact nB (em _ (by omega) hl0)
 ·refine QA zm (fn:=LG) fF rfl (by decide) (k:=8) rfl (rs:=[.tmp 2]) rfl ?_
  simp -dsimp only[go_sem,bA,aA,reduceCtorEq]
  simp -dsimp only[go_sem,bA,aA,reduceCtorEq,e1,e4]
  refine rB (gM (n:=l.length) (new:=row za l) FA FA (by intro q h;cases h) QO FN XO rfl ?_ (mL VN _) (zr zg l) hl) ?_
  ·show(if _ then _ else _)=_
   rw[if_pos ⟨jA _,by rw[zr zg];exact jA _⟩,<-zr zg l,FB]
  by_cases h0:l.length=0
  ·simp -dsimp only[go_sem,bA,aA,reduceCtorEq,gA,h0]
   exact nB (em _ (by omega) (WA.1 h0))
  ·simp -dsimp only[go_sem,bA,aA,cA,reduceCtorEq,gA,h0]
   exact nB (hQ _ _ _ (Gw.push.trans .push) (by omega) (.inr ⟨H.n+1,l.length,some 41,[],rfl,by omega,jA _,by rw[MA];simp -dsimp only[go_sem,reduceCtorEq],.inl rfl⟩))
theorem VQ(t:GTree)(hl:t.nodes.length<=1048575)(hw:∀x∈t.nodes,x.body.wf)(ht:∀x∈t.nodes,CK x.body)(H:Heap)(Q:OR->Prop)(hQ:∀X nv,Gw H X->NodeS H.n X nv t.nodes->Q ⟨.agg [nv],X,H.n⟩):MCall Cx 11 [.agg (zp t)] H Q:=by
 refine mB (fn:=Tryz.f11) Tryz.func11 rfl (by decide) (k:=25) rfl (rs:=[.cell 2 24]) rfl ?_
 refine PA zm ?_
 simp -dsimp only[go_sem,bA,gA]
 refine PA zm ?_
 simp -dsimp only[go_sem,bA,aA,reduceCtorEq]
 refine oB ?_
 simp -dsimp only[go_sem,bA,aA,reduceCtorEq]
 refine zoH t.nodes (by omega) _ _ ?_
 intro Y nv lo1 hY hlo1 hS
 have yn:=hY.n
 rw[iA,iA] at yn hlo1 hS
 have y0:Y.get H.n=some (.cells (zp t) 24):=by rw[hY.old _ (by rw[iA,iA];omega)];simp -dsimp only[go_sem,reduceCtorEq]
 have y1:Y.get (H.n+1)=some (.cells oJ 24):=by rw[hY.old _ (by rw[iA,iA];omega)];simp -dsimp only[go_sem,reduceCtorEq]
 have vnv:=hS.vc
 have onv:=hS.one
 have tL:[nv].all V.one=true:=by simp[onv]
 have e1:[nv].length=1:=rfl
 have hlt:H.n<Y.n:=by omega
 have spt:zD (zp t) 0 [nv]=some [nv]:=rfl
 simp -dsimp only[go_sem,cA,y0,spt,vnv,tL,e1]
 generalize hU:Y.set H.n (.cells [nv] 24)=U
 have un:U.n=Y.n:=by rw[<-hU,kA]
 have uo:∀j,j≠H.n->U.get j=Y.get j:=fun j hj=>by rw[<-hU,dA,if_neg (fun h=>hj h.1)]
 have u0:U.get H.n=some (.cells [nv] 24):=by rw[<-hU,dA,if_pos ⟨rfl,hlt⟩]
 clear hU
 replace hS:NodeS (H.n+2) U nv t.nodes:=hS.of fun j h1 h2=>uo j (by omega)
 refine WW.keepl H.n [(1,.ptr H.n 0),(2,.ptr (H.n+1) 0)] (by omega) zSl ?_
 refine LB zm ?_
 simp -dsimp only[go_sem,bA,aA,zf,zh,u0,hS.len]
 refine WW.loop zm (ι:=Nat×Heap) (fun p=>[(1,.ptr H.n 0),(2,.ptr (H.n+1) 0),(10,nv),(11,vA t.nodes.length),(12,vA p.1)]) (fun p=>p.2) (fun _=>H.n)
  (fun p=>p.1<=t.nodes.length/\Gw U p.2) (fun p=>t.nodes.length-p.1) (0,U) ⟨by omega,.refl⟩ ?_ ?_
 ·refine(MB (lo2:=H.n) (by omega)).trans (RB _ zSl)
 rintro⟨i,X⟩ ⟨hi,hX⟩
 simp only at hi hX ⊢
 have xn:=hX.n
 have hX0:=hX.get u0
 simp -dsimp only[go_sem,bA,aA,zf,zh]
 refine aB (fun h=>?_) (fun h=>?_)<;>simp -dsimp only[go_sem,bA,aA,h]
 ·obtain⟨x,hx⟩:=zu h
  rcases hS with⟨h0,_⟩|⟨k,c,tag,tl,rfl,s2,s3,s4,s5⟩
  ·rw[h0] at h;exact absurd h (Nat.not_lt_zero _)
  have hXk:=hX.get s4
  have ltk:=zq hXk
  simp -dsimp only[go_sem,bA,aA,h,hXk,zpu hx]
  generalize hX1:(X.push (.cells zNode 38)).set X.n (.cells (za x) 38)=X1
  have a1:X1.n=X.n+1:=by rw[<-hX1,kA,iA]
  have a2:X1.get X.n=some (.cells (za x) 38):=by rw[<-hX1,dA,if_pos ⟨rfl,by rw[iA];omega⟩]
  have a3:Gw X X1:=⟨by omega,fun j hj=>by rw[<-hX1,dA,if_neg (fun h=>absurd h.1 (by omega)),zj j hj]⟩
  have b0:=a3.get hX0
  have bk:=a3.get hXk
  have ltk1:k<X1.n:=by omega
  have sp:zD (row za t.nodes++tl) (i*41) (za x)=some (row za t.nodes++tl):=by
   have h1:=W6 zg (l:=t.nodes) (i:=i) x h
   unfold zD at h1 ⊢
   rw[if_pos (by rw[zg,zr zg];omega)] at h1
   rw[if_pos (by rw[zg,qA,zr zg];omega),jB (by rw[zr zg];omega),fD (by rw[zg,zr zg];omega),<-XA]
   injection h1 with h1
   rw[h1,x7 hx]
  refine tE _ ((CA (uO fun H=>m_39 x (hw x (IA hx)) (ht x (IA hx)) H _ rfl) xA)) [(1,3),(1,4)] (by kernel_rfl) (by kernel_rfl) ?_
  simp -dsimp only[go_sem,bA,aA,h,a2,b0,bk,sp]
  refine zAg (i+1,X1.set k (.cells (row za t.nodes++tl) 38)) ?_
  dsimp only
  refine⟨h,by rw[kA];omega,fun j hj=>?_⟩
  rw[dA]
  split
  ·rename_i e;rw[e.1,s4]
  ·rw[a3.old _ (by omega),hX.old _ hj]
 ·have hX1:X.get (H.n+1)=some (.cells oJ 24):=by rw[hX.old _ (by omega),uo _ (by omega),y1]
  have whole:QE fA 24 [nv] 0=some (.agg [nv]):=rO vV kV rfl
  have hl1:H.n+1<X.n:=by omega
  have vcb:zG (.agg [nv])=some [nv]:=rfl
  have spz:zD oJ 0 [nv]=some [nv]:=rfl
  simp -dsimp only[go_sem,aA,hX0,hX1,whole,hl1,vcb,spz,tL,e1]
  have keep:∀j,j≠H.n+1->(X.set (H.n+1) (.cells [nv] 24)).get j=X.get j:=fun j hj=>by rw[dA,if_neg (fun h=>hj h.1)]
  refine Res.at (lo2:=H.n) (by omega) (nB (h:=.mk) (hQ _ nv ⟨by rw[kA];omega,fun j hj=>?_⟩ ((hS.of fun j h1 h2=>by rw[keep j (by omega),hX.old _ h2]).lower (by omega))))
  rw[keep j (by omega),hX.old _ (by omega),uo _ (by omega),hY.old _ (by rw[iA,iA];omega),zj _ (by rw[iA];omega),zj _ hj]
end
section
open Go Go.Tw
open Classical
@[go_sem] theorem W4:(mG .none=true)=True:=by simp[mG]
@[go_sem] theorem sh(b:Nat):(mG (.rd b)=true)=True:=by simp[mG]
@[go_sem] theorem qh:(mG .ca=true)=True:=by simp[mG]
@[go_sem] theorem rh(b:Nat)(t:TypeId)(k:V):(mG (.lk b t k)=true)=True:=by simp[mG]
def Lk(ok:GV->Prop)(mk:GRev->Int->GV->GRev×Int):Prop:=∀(p:GRev) (d:Int) (v:GV) (H:Heap) (Q:OR->Prop),ok v->Q ⟨.tup [.agg (ze (mk p d v).1),vA (mk p d v).2],H,H.n⟩->MCall Cx 13 [.agg (ze p),vA d,.agg (zR v)] H Q
def O1:V:=.agg [vA 0,vA 0,gE .empty,.lit (.slice none 0 0),.lit (.slice none 0 0)]
@[go_sem] theorem qY:fL fA 36 []=some O1:=by kernel_rfl
theorem G3(Z:Nat->Prop)(H:Heap):Fz Z H O1 (.agg (zR .zero)):=by
 rw[WJ]
 exact .agg _ _ (.cons _ _ _ _ (.self _ rfl) (.cons _ _ _ _ (.self _ rfl) (.cons _ _ _ _ (.self _ rfl) (.cons _ _ _ _ .nil (.cons _ _ _ _ .nil .nil)))))
def AN(l:List GNode)(n:GNode):Bool:=
 BK n.rev&&(decide (n.deleted=0)||decide (n.deleted=1))&&(decide (n.parent=.zero)||(decide (IntKind.u64.wrap (n.parent.gen+1)=n.rev.gen)&&aH l n.parent))
noncomputable def BN(mk:GRev->Int->GV->GRev×Int)(l:List GNode)(n:GNode)(leaf:Bool):Bool:=
 AN l n&&(if leaf then decide (n.has=1)&&decide ((mk n.parent n.deleted n.body).2=0)&&decide ((mk n.parent n.deleted n.body).1=n.rev) else decide (n.has=0)&&decide (n.body=.zero))
theorem m_25{ok:GV->Prop}{mk:GRev->Int->GV->GRev×Int}(hM:Lk ok mk)(l:List GNode)(hl:l.length<4611686018427387904)(n:GNode)(hn:ok n.body)(hw:n.body.wf)(leaf:Bool)(H:Heap)(Q:OR->Prop)(hQ:Q ⟨.lit (.bool (BN mk l n leaf)),H,H.n⟩):MCall Cx 25 [AH l,.agg (za n),.lit (.bool leaf)] H Q:=by
 refine mB (fn:=Tryz.f25) Tryz.func25 rfl (by decide) (k:=80) rfl (rs:=[.tmp 6]) rfl ?_
 have no:AN l n=false->Q ⟨.lit (.bool false),H,H.n⟩:=fun h=>by rw[BN,h,kD] at hQ;exact hQ
 refine PA zm ?_
 simp -dsimp only[go_sem,bA,aA,cA,reduceCtorEq,gA]
 refine DC zm (ι:=Unit) (fun _=>[(0,AH l),(2,.lit (.bool leaf)),(4,.ptr H.n 0)]) (fun _=>H.push (.cells (za n) 38)) (fun _=>H.n) (fun _=>AN l n=true) ?_ ?_
 ·simp -dsimp only[go_sem]
  refine JC _ ((CA (JQ) (CA (AO) (CA (KQ) xA)))) (by kernel_rfl) ?_
  simp -dsimp only[go_sem,bA,aA,reduceCtorEq]
  cases h1:BK n.rev<;>simp -dsimp only[go_sem,bA,aA,reduceCtorEq,gA]
  ·exact AA (by omega) rfl (no (by simp[AN,h1]))
  refine AB (fun h2=>?_) (fun h2=>?_)<;>simp -dsimp only[go_sem,bA,aA,reduceCtorEq,h2]
  ·refine AB (fun h3=>?_) (fun h3=>?_)<;>simp -dsimp only[go_sem,bA,aA,reduceCtorEq,gA,h2,h3]
   ·exact AA (by omega) rfl (no (by simp[AN,h2,h3]))
   refine AB (fun h4=>?_) (fun h4=>?_)<;>simp -dsimp only[go_sem,bA,aA,reduceCtorEq,gA,h2,h3,h4]
   ·refine AB (fun h5=>?_) (fun h5=>?_)<;>simp -dsimp only[go_sem,bA,aA,reduceCtorEq,gA,h2,h3,h4,h5,il _ _ hl]
    ·exact AA (by omega) rfl (no (by simp[AN,h4,h5]))
    ·cases h6:aH l n.parent<;>simp -dsimp only[go_sem,bA,aA,reduceCtorEq,h2,h3,h4,h5]
     ·exact AA (by omega) rfl (no (by simp[AN,h4,h6]))
     ·refine zAg (some ()) ?_
      simp only[not_not] at *
      simp[AN,h1,h3,h5,h6]
   ·refine zAg (some ()) ?_
    simp only[not_not] at *
    simp[AN,h1,h3,h4]
  ·refine AB (fun h4=>?_) (fun h4=>?_)<;>simp -dsimp only[go_sem,bA,aA,reduceCtorEq,gA,h2,h4]
   ·refine AB (fun h5=>?_) (fun h5=>?_)<;>simp -dsimp only[go_sem,bA,aA,reduceCtorEq,gA,h2,h4,h5,il _ _ hl]
    ·exact AA (by omega) rfl (no (by simp[AN,h4,h5]))
    ·cases h6:aH l n.parent<;>simp -dsimp only[go_sem,bA,aA,reduceCtorEq,gA,h2,h4,h5]
     ·exact AA (by omega) rfl (no (by simp[AN,h4,h6]))
     ·refine zAg (some ()) ?_
      simp only[not_not] at *
      simp[AN,h1,h2,h5,h6]
   ·refine zAg (some ()) ?_
    simp only[not_not] at *
    simp[AN,h1,h2,h4]
 ·rintro⟨⟩ hh
  refine PA zm ?_
  simp -dsimp only[go_sem,bA,aA,reduceCtorEq,zf,zh]
  cases leaf<;>simp -dsimp only[go_sem,bA,aA,reduceCtorEq]
  ·refine AB (fun h1=>?_) (fun h1=>?_)<;>simp -dsimp only[go_sem,bA,aA,reduceCtorEq,h1]
   ·refine oB ?_
    simp -dsimp only[go_sem,bA,aA,reduceCtorEq]
    refine MCall.cv (args':=[.agg (zR n.body),.agg (zR .zero)]) (.two (.self _ (TL _)) (G3 _ _)) (AZ n.body .zero hw _ _ ?_)
    simp -dsimp only[go_sem,bA,aA,reduceCtorEq,h1]
    refine AA (by omega) rfl ?_
    simpa[BN,hh,h1] using hQ
   ·refine AA (by omega) rfl ?_
    simpa[BN,hh,h1] using hQ
  ·refine PA zm ?_
   simp -dsimp only[go_sem,bA,aA,reduceCtorEq]
   refine oB ?_
   simp -dsimp only[go_sem,bA,aA,reduceCtorEq]
   refine hM n.parent n.deleted n.body _ _ hn ?_
   simp -dsimp only[go_sem,bA,aA,cA,reduceCtorEq]
   refine LB zm ?_
   simp -dsimp only[go_sem,bA,aA,cA,reduceCtorEq]
   refine AB (fun k1=>?_) (fun k1=>?_)<;>simp -dsimp only[go_sem,bA,aA,cA,reduceCtorEq,k1]
   ·refine AB (fun k2=>?_) (fun k2=>?_)<;>simp -dsimp only[go_sem,bA,aA,cA,reduceCtorEq,k1,k2]
    ·refine AA (by omega) rfl ?_
     simpa[BN,hh,k1,k2] using hQ
    ·refine AA (by omega) rfl ?_
     simpa[BN,hh,k1,k2] using hQ
   ·refine AA (by omega) rfl ?_
    simpa[BN,hh,k1] using hQ
end
section
open Go Go.Tw
open Classical
noncomputable def Mk(i b:Nat)(H0:Heap)(args:List V)(H:Heap):Option OR:=
 match args with
 | [.lit (.int .i64 k),.ptr b' 0]=>if b'=b/\H=H0 then some ⟨vA (N4 k i),H,H.n⟩ else none
 | _=>none
theorem zqK(i b:Nat)(H0:Heap)(k:Int):Mk i b H0 [vA k,.ptr b 0] H0=some ⟨vA (N4 k i),H0,H0.n⟩:=by simp[Mk]
theorem zqJ{i b:Nat}{H0:Heap}(hb:H0.get b=some (.cells [vA i] 3)):∀args H r,Mk i b H0 args H=some r->MCall Cx 153 args H (·=r):=by
 intro args H r h
 unfold Mk at h
 split at h
 ·split at h
  ·rename_i e
   obtain⟨rfl,rfl⟩:=e
   injection h with h
   subst h
   exact Hc _ _ _ _ hb _ rfl
  ·cases h
 ·cases h
theorem TT:∀i<8,N4 0 (i:Nat)=((quadsW.getD i (0,0,0,0)).1:Nat)/\N4 1 (i:Nat)=((quadsW.getD i (0,0,0,0)).2.1:Nat)/\N4 2 (i:Nat)=((quadsW.getD i (0,0,0,0)).2.2.1:Nat)/\N4 3 (i:Nat)=((quadsW.getD i (0,0,0,0)).2.2.2:Nat):=by decide
theorem EU:∀i<8,(quadsW.getD i (0,0,0,0)).1<16/\(quadsW.getD i (0,0,0,0)).2.1<16/\(quadsW.getD i (0,0,0,0)).2.2.1<16/\(quadsW.getD i (0,0,0,0)).2.2.2<16:=by decide
theorem sT(a b c d:Int):fL fA 161 [(0,vA a),(1,vA b),(2,vA c),(3,vA d)]=some (.agg [vA a,vA b,vA c,vA d]):=by kernel_rfl
structure E9(f:V)(L:Nat)(I:Nat->Heap->Prop):Prop where
 step:∀n X,n<8->I n X->∀Q:OR->Prop,(∀X' lo,I (n+1) X'->L<=lo->X.n<=X'.n->Q ⟨.lit (.bool true),X',lo⟩)->MVal Cx f [vA n,.agg (CO (quadsW.getD n (0,0,0,0)))] X Q
 set:∀n X B B2,I n X->L<=X.n->I n ((X.push B).set X.n B2)
theorem Gc(f:V)(L:Nat)(I:Nat->Heap->Prop)(hT:E9 f L I)(H:Heap)(h0:I 0 H)(hL:L<=H.n)(Q:OR->Prop)(hQ:∀X lo,I 8 X->L<=lo->Q ⟨.tup [],X,lo⟩):MCall Cx 152 [f] H Q:=by
 refine mB (fn:=Tryz.f152) Tryz.func152 rfl (by decide) (k:=22) rfl (rs:=[]) rfl ?_
 refine PA zm ?_
 simp -dsimp only[go_sem,bA,gA]
 refine MD ?_
 refine dD (ι:=Nat×Heap) (fun p=>[(0,f),(4,vA p.1)]) (fun p=>p.2) (fun _=>L) (fun p=>p.1<=8/\I p.1 p.2/\L<=p.2.n) (fun p=>8-p.1) (0,H) ⟨by omega,h0,hL⟩ ?_ ?_
 ·refine(MB (lo2:=L) (by omega)).trans (RB _ zSl)
 rintro⟨i,X⟩ ⟨hi,hI,hLX⟩
 simp only at hi hI hLX ⊢
 refine PA zm ?_
 simp -dsimp only[go_sem,bA,reduceCtorEq,zf,zh]
 refine PA zm ?_
 simp -dsimp only[go_sem,aA,reduceCtorEq]
 refine aB (fun h=>?_) (fun h=>?_)<;>simp -dsimp only[go_sem,h]
 ·refine yC ?_
  refine MD ?_
  refine PA zm ?_
  simp -dsimp only[go_sem,bA,aA,reduceCtorEq]
  refine PA zm ?_
  simp -dsimp only[go_sem,bA,aA,reduceCtorEq]
  refine yC ?_
  refine BD zm 11 (by decide) (by kernel_rfl) ?_
  dsimp only[NA,iB]
  have hi8:i<8:=by omega
  have e0:(X.push (.cells [vA 0] 3)).n=X.n+1:=by simp -dsimp only[go_sem]
  refine JC _ ((CA (zqJ (i:=i) (b:=X.n) (H0:=(X.push (.cells [vA 0] 3)).set X.n (.cells [vA i] 3)) (by simp -dsimp only[go_sem,bA])) xA)) (by kernel_rfl) ?_
  obtain⟨q0,q1,q2,q3⟩:=TT i hi8
  simp -dsimp only[go_sem,bA,aA,reduceCtorEq,zqK,sT,q0,q1,q2,q3]
  refine⟨hT.step i _ hi8 (hT.set i X _ _ hI hLX) _ fun X' lo' hI' hlo' hn'=>?_⟩
  simp only[iA,kA] at hn'
  have en:∀B,(X.push B).n=X.n+1:=fun B=>iA ..
  simp -dsimp only[go_sem,bA,aA,reduceCtorEq]
  refine LB zm ?_
  simp -dsimp only[go_sem,aA,reduceCtorEq]
  refine LB zm ?_
  simp -dsimp only[go_sem,bA,aA,reduceCtorEq]
  refine zAg (i+1,X') ?_
  dsimp only
  exact⟨by omega,hI',by omega⟩
 ·obtain rfl:i=8:=by omega
  exact nB (hQ X _ hI (by omega))
end
section
open Go Go.Tw
open Classical
structure CtI(l:List GNode)(H:Heap)(t:GTree)(i:Nat)(X:Heap)(k:Nat):Prop where
 le:i<=l.length
 big:H.n+3<=X.n
 a0:X.get H.n=some (.cells (zp t) 24)
 a1:X.get (H.n+1)=some (.cells oJ 24)
 var:X.get (H.n+2)=some (.cells [pG 41 (l.take i) k] 24)
 bu:l.take i≠[]->H.n+3<=k/\X.get k=some (.cells (row za (l.take i)) 38)
theorem zo5{α:Type}(z:Nat)(s:List α)(b:Nat):zG (pG z s b)=some [pG z s b]:=by
 unfold pG OM
 split<;>rfl
theorem qk{α:Type}(z:Nat)(s:List α)(b:Nat):V.one (pG z s b)=true:=by
 unfold pG OM
 split<;>rfl
theorem m_10(t:GTree)(hl:t.nodes.length<=1048575)(hw:∀x∈t.nodes,x.body.wf)(ht:∀x∈t.nodes,CK x.body)(H:Heap)(Q:OR->Prop)(hQ:Q ⟨.agg (zp t),H,H.n⟩):MCall Cx 10 [.agg (zp t)] H Q:=by
 refine QA zm (fn:=Tryz.f10) Tryz.func10 rfl (by decide) (k:=29) rfl (rs:=[.cell 2 24]) rfl ?_
 simp -dsimp only[go_sem,bA,cA,gA]
 generalize hZ:((H.push (.cells (zp t) 24)).push (.cells oJ 24)).push (.cells oJ 24)=Z
 have zn:Z.n=H.n+3:=by rw[<-hZ];simp -dsimp only[go_sem,cA]
 have z0:Z.get H.n=some (.cells (zp t) 24):=by rw[<-hZ];simp -dsimp only[go_sem,cA,reduceCtorEq]
 have z1:Z.get (H.n+1)=some (.cells oJ 24):=by rw[<-hZ];simp -dsimp only[go_sem,aA,cA,reduceCtorEq]
 have z2:Z.get (H.n+2)=some (.cells oJ 24):=by rw[<-hZ];simp -dsimp only[go_sem,aA,cA,reduceCtorEq]
 refine WW.loop zm (ι:=Nat×Heap×Nat) (fun p=>[(1,.ptr H.n 0),(2,.ptr (H.n+1) 0),(3,.ptr (H.n+2) 0),(4,vA p.1)]) (fun p=>p.2.1) (fun _=>H.n)
  (fun p=>CtI t.nodes H t p.1 p.2.1 p.2.2) (fun p=>t.nodes.length-p.1) (0,Z,0) ⟨by omega,Nat.le_of_eq zn.symm,z0,z1,z2,fun h=>absurd rfl h⟩ ?_ ?_
 ·refine(MB (lo2:=H.n) (by omega)).trans (RB _ zSl)
 rintro⟨i,X,k⟩ ⟨hi,hbig,h0,h1,hvar,hbu⟩
 simp only at hi hbig h0 h1 hvar hbu ⊢
 simp -dsimp only[go_sem,bA,aA,zf,zh,h0]
 refine aB (fun h=>?_) (fun h=>?_)<;>simp -dsimp only[go_sem,bA,aA,h]
 ·obtain⟨x,hx⟩:=zu h
  simp -dsimp only[go_sem,bA,aA,h0,h,z7 zg hx]
  generalize hX1:(X.push (.cells zNode 38)).set X.n (.cells (za x) 38)=X1
  have a1:X1.n=X.n+1:=by rw[<-hX1,kA,iA]
  have a2:X1.get X.n=some (.cells (za x) 38):=by rw[<-hX1,dA,if_pos ⟨rfl,by rw[iA];omega⟩]
  have a3:∀j,j<X.n->X1.get j=X.get j:=fun j hj=>by rw[<-hX1,dA,if_neg (fun h=>absurd h.1 (by omega)),zj j hj]
  refine oB ?_
  simp -dsimp only[go_sem,bA,aA]
  refine Oc x.body (hw x (IA hx)) (ht x (IA hx)) X1 _ ?_
  have sb:zD (za x) 36 (zR x.body)=some (za x):=zhW x (bc:=zR x.body) rfl
  have ltn:X.n<X1.n:=by omega
  have e2:(H.n+2=X.n)=False:=by simp;omega
  have b2:X1.get (H.n+2)=some (.cells [pG 41 (t.nodes.take i) k] 24):=by rw[a3 _ (by omega),hvar]
  simp -dsimp only[go_sem,bA,aA,a2,sb,ltn,e2,b2]
  generalize hX2:(X1.set X.n (.cells (za x) 38)).push (.cells (za x) 38)=X2
  have c1:X2.n=X.n+2:=by rw[<-hX2,iA,kA,a1]
  have c2:X2.get (X.n+1)=some (.cells (za x) 38):=by rw[<-hX2,yA,if_pos (by rw[kA,a1])]
  have c3:∀j,j<X.n->X2.get j=X.get j:=fun j hj=>by rw[<-hX2,yA,if_neg (by rw[kA,a1];omega),dA,if_neg (fun h=>absurd h.1 (by omega)),a3 j hj]
  simp -dsimp only[go_sem,a1]
  refine bW (x:=x) (fun hne=>by rw[c3 _ (zq (hbu hne).2)];exact(hbu hne).2) c2 (by rw[JB];omega) fun W k2 hB=>?_
  obtain⟨b1',b2',b3',b4'⟩:=hB
  rw[c1] at b1' b2' b4'
  have hne2:t.nodes.take i++[x]≠[]:=by simp
  have htk:t.nodes.take (i+1)=t.nodes.take i++[x]:=by rw[yB,hx];rfl
  have old:∀j,j<H.n+3->W.get j=X.get j:=fun j hj=>by
   rw[b2' _ (by omega) ?_,c3 _ (by omega)]
   by_cases e:t.nodes.take i=[]
   ·exact .inr e
   ·exact .inl (by have:=(hbu e).1;omega)
  have w2:W.get (H.n+2)=some (.cells [pG 41 (t.nodes.take i) k] 24):=by rw[old _ (by omega),hvar]
  have ltw:H.n+2<W.n:=by omega
  have hlob:H.n<=lob X2 k (t.nodes.take i):=by
   unfold lob
   split
   ·omega
   ·rename_i e;have:=(hbu e).1;omega
  have k2n:H.n+3<=k2:=by
   rcases b4' with⟨_,h4⟩|h4
   ·exact absurd (congrArg List.length h4) (by simp)
   ·omega
  have ob:[pG 41 (t.nodes.take i++[x]) k2].all V.one=true:=by simp[qk]
  have lb:[pG 41 (t.nodes.take i++[x]) k2].length=1:=rfl
  have sp:∀a b:V,zD [a] 0 [b]=some [b]:=fun _ _=>rfl
  simp -dsimp only[go_sem,bA,aA,w2,zo5,ob,lb,sp]
  generalize hX3:W.set (H.n+2) (.cells [pG 41 (t.nodes.take i++[x]) k2] 24)=X3
  have x3:∀j,j≠H.n+2->X3.get j=W.get j:=fun j hj=>by rw[<-hX3,dA,if_neg (fun h=>hj h.1)]
  refine zAg (i+1,X3,k2) ?_
  dsimp only
  refine⟨h,by rw[<-hX3,kA];omega,by rw[x3 _ (by omega),old _ (by omega),h0],by rw[x3 _ (by omega),old _ (by omega),h1],by rw[<-hX3,dA,if_pos ⟨rfl,ltw⟩,htk],fun _=>⟨k2n,?_⟩⟩
  rw[x3 _ (by omega),htk]
  exact b3' hne2
 ·have htk:t.nodes.take i=t.nodes:=uA (by omega)
  rw[htk] at hvar hbu
  have whole:∀a:V,QE fA 24 [a] 0=some (.agg [a]):=fun a=>rO vV kV rfl
  have hl1:H.n+1<X.n:=by omega
  have vcb:∀a:V,zG (.agg [a])=some [a]:=fun _=>rfl
  have spz:∀a:V,zD oJ 0 [a]=some [a]:=fun _=>rfl
  have ob:[pG 41 t.nodes k].all V.one=true:=by simp[qk]
  have lb:[pG 41 t.nodes k].length=1:=rfl
  simp -dsimp only[go_sem,aA,h1,hvar,whole,hl1,vcb,spz,ob,lb]
  refine Res.fz (.agg (zp t)) (by omega) (.agg _ _ (.cons _ _ _ _ (Fz.buf (e:=38) zg zK (fun hne=>by have:=(hbu hne).1;omega) fun hne=>?_) .nil)) hQ
  have:=(hbu hne).1
  rw[dA,if_neg (fun h=>by have:=h.1;omega)]
  exact(hbu hne).2
end
section
open Go Go.Tw
open Classical
@[go_sem] theorem Mi{P:Program}{l:Tab}{r:Operand->V}{H:Heap}(a b:Operand)(t0 t1:TypeId):kH P l r H (.call { callee:=.builtin .copy,args:=#[a,b],argTypes:=#[t0,t1] })=xO P H t0 (r a) (r b):=rfl
def IL(l:List GNode)(i:Nat)(x:GNode):List GNode:=l.take i++x::l.drop i
theorem LO(l:List GNode)(i:Nat)(x:GNode)(hi:i<=l.length):(IL l i x).length=l.length+1:=by
 simp[IL];omega
theorem zpk(l:List GNode)(i:Nat)(x:GNode):row za (IL l i x)=row za (l.take i)++(za x++row za (l.drop i)):=by
 rw[IL,TR,iJ]
theorem m_80(a b oa ob la lb ca cb:Nat)(ta tb:Option Nat)(xa xb:List V)(hab:a≠b)(H:Heap)(ha:H.get a=some (.cells xa 38))(hb:H.get b=some (.cells xb 38))(hoa:oa<xa.length)(hxb:0<xb.length)(Q:OR->Prop)(hQ:Q ⟨.lit (.bool false),H,H.n⟩):
  MCall Cx 80 [.sl a oa la ca ta,.sl b ob lb cb tb] H Q:=
 zk2 Tryz.func80 (by decide) rfl rfl rfl FA (by show Tryz.prog.underlying _≠_;rw[Tryz.underlying38];intro h;cases h) NK hab ha hb hoa hxb hQ
def hJ:V->Option Nat
 | .sl b _ _ _ _=>some b
 | _=>none
theorem j4{b o l c j:Nat}{t:Option Nat}(h:j≠b):hJ (.sl b o l c t)≠some j:=fun e=>by
 injection e with e
 exact h e.symm
abbrev InsQ(l:List GNode)(i:Nat)(x:GNode)(b:Nat)(H:Heap)(Q:OR->Prop):Prop:=
 ∀X nv lo,H.n<=X.n->(∀j,j<H.n->j≠b->X.get j=H.get j/\hJ nv≠some j)->min b H.n<=lo->NodeS (min b H.n) X nv (IL l i x)->Q ⟨nv,X,lo⟩
theorem bT{l:List GNode}{tl:List V}{x:GNode}{b c vb:Nat}{vt:Option Nat}{H:Heap}(hc:l.length+1<=c)(hcl:c*41<=(row za l++tl).length)(hb:H.get b=some (.cells (row za l++tl) 38))(hv:H.get vb=some (.cells (za x) 38)):
  DH fA H 22 22 (.sl b 0 l.length c none) (.sl vb 0 1 1 vt)=some ⟨.sl b 0 (l.length+1) c none,H.set b (.cells (row za l++(za x++(row za l++tl).drop ((l.length+1)*41))) 38),min b H.n⟩:=by
 obtain⟨i,hi,hz⟩:=BA.1 QO
 obtain⟨zc,hzc,hzl⟩:=BA.1 FN
 have hby:=XO
 have eby:bytesOf fA 38=i.bytes:=by simp[bytesOf,hi]
 rw[eby,wA,AD,KH] at hby
 have hcv:cellsOf H i.size 1 (.sl vb 0 1 1 vt)=some (za x):=by
  rw[hz,cells_sl hv (jA _) (by rw[zg];omega),UA,uA (by rw[zg];omega)]
 have hok:¬¬(0<i.bytes/\zc.length=i.size/\(za x).all V.one=true/\(za x).length=1*i.size):=fun hh=>hh ⟨hby.1,by rw[hzl,hz],VN x,by rw[zg,hz]⟩
 have hsp:zD (row za l++tl) (0+l.length*i.size) (za x)=some (row za l++(za x++(row za l++tl).drop ((l.length+1)*41))):=by
  unfold zD
  rw[hz,zg,if_pos (by omega),bB,mC (zr zg l),XA]
  congr 4
  omega
 unfold DH
 rw[FA]
 simp only[hi,mJ,hcv,hzc,pA,KA,if_neg hok,hb,if_pos hc,hsp,Nat.one_ne_zero,if_false]
theorem aT{l:List GNode}{tl:List V}{x:GNode}{b c vb:Nat}{vt:Option Nat}{H:Heap}(hl:l.length<=1048575)(hc1:l.length<=c)(hc:¬l.length+1<=c)(hb:H.get b=some (.cells (row za l++tl) 38))(hv:H.get vb=some (.cells (za x) 38)):
  DH fA H 22 22 (.sl b 0 l.length c none) (.sl vb 0 1 1 vt)=some ⟨.sl H.n 0 (l.length+1) (l.length+1) (some 41),H.push (.cells (row za l++za x) 38),H.n⟩:=by
 obtain⟨i,hi,hz⟩:=BA.1 QO
 obtain⟨zc,hzc,hzl⟩:=BA.1 FN
 have hby:=XO
 have eby:bytesOf fA 38=i.bytes:=by simp[bytesOf,hi]
 rw[eby,wA,AD,KH] at hby
 have hcv:cellsOf H i.size 1 (.sl vb 0 1 1 vt)=some (za x):=by
  rw[hz,cells_sl hv (jA _) (by rw[zg];omega),UA,uA (by rw[zg];omega)]
 have hok:¬¬(0<i.bytes/\zc.length=i.size/\(za x).all V.one=true/\(za x).length=1*i.size):=fun hh=>hh ⟨hby.1,by rw[hzl,hz],VN x,by rw[zg,hz]⟩
 have hroom:¬¬((l.length+1)*i.bytes<=1099511627776/\0+l.length*i.size<=(row za l++tl).length/\l.length<=c):=fun hh=>hh ⟨cB (OH (by omega:l.length+1<=1048576) hby.2) (by decide),by rw[qA,zr zg,hz];omega,hc1⟩
 unfold DH
 rw[FA]
 simp only[hi,mJ,hcv,hzc,pA,KA,if_neg hok,hb,if_neg hc,if_neg hroom,Nat.one_ne_zero,if_false,Option.isSome_none,Bool.false_eq_true]
 rw[hz,UA,mC (zr zg l)]
theorem K9{cs A:List V}{i m c b N:Nat}{H:Heap}(hN:i+m=N)(hA:cs.take (i*41)=A)(hm:0<m)(hc:c<N)(hsm:N<=1048576)(hb:H.get b=some (.cells cs 38))(hcs:i*41<=cs.length):
  ∃zs,zs.length=m*41/\DH fA H 22 3 (.sl b 0 i c none) (vA m)=some ⟨.sl H.n 0 N N (some 41),H.push (.cells (A++zs) 38),H.n⟩:=by
 subst hN hA
 refine⟨bH zNode m,by rw[N2];rfl,?_⟩
 obtain⟨q,hi,hz⟩:=BA.1 QO
 have hzc:zE fA 38=some zNode:=zl2
 have hby:=XO
 have eby:bytesOf fA 38=q.bytes:=by simp[bytesOf,hi]
 rw[eby,wA,AD,KH] at hby
 have hall:0<(m:Int)/\0<q.bytes/\0<q.size/\zNode.length=q.size/\c<i+(m:Int).toNat/\(i+(m:Int).toNat)*q.bytes<=1099511627776/\0+i*q.size<=cs.length:=by
  rw[Int.toNat_natCast]
  exact⟨by omega,hby.1,by rw[hz];decide,by rw[hz];rfl,hc,cB (OH hsm hby.2) (by decide),by rw[hz];omega⟩
 unfold DH
 rw[FA,Tryz.underlying3]
 simp only[S7,hi,hzc,pA,KA,hb]
 rw[if_pos hall,Int.toNat_natCast,hz,UA]
theorem eW(b n c:Nat):KL fA 22 (.sl b 0 n c none)=some (vA c):=by
 simp[KL,FA]
theorem zp8(l:List GNode)(hl:l.length<=1048575)(i:Nat)(hi:i<l.length)(x:GNode)(b c vb:Nat)(vt:Option Nat)(tl:List V)(hc:c<l.length+1)(H:Heap)(hb:H.get b=some (.cells (row za l++tl) 38))(hv:H.get vb=some (.cells (za x) 38)):
  ∃X Y Z:Heap,DH fA H 22 3 (.sl b 0 i c none) (vA (l.length+1-i:Nat))=some ⟨.sl H.n 0 (l.length+1) (l.length+1) (some 41),X,H.n⟩/\
   xO fA X 22 (.sl H.n (i*41) (l.length+1-i) (l.length+1-i) (some 41)) (.sl vb 0 1 1 vt)=some ⟨vA (min 1 (l.length+1-i):Nat),Y,min H.n X.n⟩/\
   xO fA Y 22 (.sl H.n ((i+1)*41) (l.length+1-(i+1)) (l.length+1-(i+1)) (some 41)) (.sl b (i*41) (l.length-i) (c-i) none)=some ⟨vA (min (l.length-i) (l.length+1-(i+1)):Nat),Z,min H.n Y.n⟩/\
   X.n=H.n+1/\Y.n=H.n+1/\Z.n=H.n+1/\(∀j,j<H.n->Z.get j=H.get j)/\Z.get H.n=some (.cells (row za (IL l i x)) 38):=by
 have hbn:=zq hb
 have him:i+(l.length+1-i)=l.length+1:=by omega
 have hct:(row za l++tl).take (i*41)=row za (l.take i):=by rw[jB (by rw[zr zg];omega),qO zg]
 obtain⟨zs,zl,hz0⟩:=K9 (m:=l.length+1-i) him hct (by omega) hc (by omega) hb (by rw[qA,zr zg];omega)
 have rl:(row za (l.take i)).length=i*41:=by rw[zr zg,JB,LF (bF hi)]
 obtain⟨X,hX⟩:∃X,H.push (.cells (row za (l.take i)++zs) 38)=X:=⟨_,rfl⟩
 rw[hX] at hz0
 have x1:X.n=H.n+1:=by rw[<-hX,iA]
 have x2:X.get H.n=some (.cells (row za (l.take i)++zs) 38):=by rw[<-hX,yA,if_pos rfl]
 have x3:∀j,j<H.n->X.get j=H.get j:=fun j hj=>by rw[<-hX,zj _ hj]
 have xv:X.get vb=some (.cells (za x) 38):=by rw[x3 _ (zq hv),hv]
 have hcp:cellsOf X 41 (min 1 (l.length+1-i)) (.sl vb 0 1 1 vt)=some (za x):=by
  rw[show min 1 (l.length+1-i)=1 by omega,cells_sl xv (jA _) (by rw[zg];omega),UA,uA (by rw[zg];omega)]
 have sp1:zD (row za (l.take i)++zs) (i*41) (za x)=some (row za (l.take i)++(za x++zs.drop 41)):=by
  unfold zD
  rw[zg,if_pos (by rw[qA,rl,zl];omega),mC rl,<-List.drop_drop,IF rl,XA]
 have k1:=P7 (n:=l.length+1-i) (c:=l.length+1-i) (o:=some 41) (m:=1) FA NK rfl hcp x2 (VN x) sp1
 obtain⟨Y,hY⟩:∃Y,X.set H.n (.cells (row za (l.take i)++(za x++zs.drop 41)) 38)=Y:=⟨_,rfl⟩
 rw[hY] at k1
 have y1:Y.n=H.n+1:=by rw[<-hY,kA,x1]
 have y2:Y.get H.n=some (.cells (row za (l.take i)++(za x++zs.drop 41)) 38):=by rw[<-hY,dA,if_pos ⟨rfl,by omega⟩]
 have y3:∀j,j<H.n->Y.get j=H.get j:=fun j hj=>by rw[<-hY,dA,if_neg (fun h=>by omega),x3 j hj]
 have yb:Y.get b=some (.cells (row za l++tl) 38):=by rw[y3 _ hbn,hb]
 have hcq:cellsOf Y 41 (min (l.length-i) (l.length+1-(i+1))) (.sl b (i*41) (l.length-i) (c-i) none)=some (row za (l.drop i)):=by
  rw[show min (l.length-i) (l.length+1-(i+1))=l.length-i by omega,cells_sl yb (jA _) (by rw[qA,zr zg];omega),fD (by rw[zr zg];omega),gg zg,mC (by rw[zr zg,ZB])]
 have sp2:zD (row za (l.take i)++(za x++zs.drop 41)) ((i+1)*41) (row za (l.drop i))=some (row za (IL l i x)):=by
  have e:((i+1)*41)=(row za (l.take i)++za x).length:=by rw[qA,rl,zg];omega
  have rd:(row za (l.drop i)).length=(l.length-i)*41:=by rw[zr zg,ZB]
  have zd:(zs.drop 41).length=(l.length-i)*41:=by rw[ZB,zl];omega
  have d0:(row za (l.take i)++za x++zs.drop 41).drop ((i+1)*41+(row za (l.drop i)).length)=[]:=uC (by rw[qA,<-e,rd,zd];omega)
  rw[<-XA]
  unfold zD
  rw[if_pos (by rw[qA,<-e,rd,zd];omega),mC e.symm,d0,MA,zpk,XA]
 have k2:=P7 (n:=l.length+1-(i+1)) (c:=l.length+1-(i+1)) (o:=some 41) (m:=l.length-i) FA NK rfl hcq y2 (mL VN _) sp2
 exact⟨X,Y,_,hz0,k1,k2,x1,y1,by rw[kA,y1],fun j hj=>by rw[dA,if_neg (fun h=>by omega),y3 j hj],by rw[dA,if_pos ⟨rfl,by omega⟩]⟩
theorem zof(l:List GNode)(hl:l.length<=1048575)(i:Nat)(hi:i<l.length)(x:GNode)(b c vb:Nat)(vt:Option Nat)(tl:List V)(hc:l.length+1<=c)(hcl:c*41<=(row za l++tl).length)(H:Heap)(hb:H.get b=some (.cells (row za l++tl) 38))(hv:H.get vb=some (.cells (za x) 38))(hne:vb≠b):
  ∃(Y Z:Heap) (tl2:List V),xO fA H 22 (.sl b ((i+1)*41) (l.length+1-(i+1)) (c-(i+1)) none) (.sl b (i*41) (l.length+1-i) (c-i) none)=some ⟨vA (min (l.length+1-i) (l.length+1-(i+1)):Nat),Y,min b H.n⟩/\
   xO fA Y 22 (.sl b (i*41) (l.length+1-i) (c-i) none) (.sl vb 0 1 1 vt)=some ⟨vA (min 1 (l.length+1-i):Nat),Z,min b Y.n⟩/\
   Y.n=H.n/\Z.n=H.n/\(∀j,j≠b->Z.get j=H.get j)/\Z.get b=some (.cells (row za (IL l i x)++tl2) 38)/\c*41<=(row za (IL l i x)++tl2).length:=by
 have hbn:=zq hb
 have rl:(row za (l.take i)).length=i*41:=by rw[zr zg,JB,LF (bF hi)]
 have rd:(row za (l.drop i)).length=(l.length-i)*41:=by rw[zr zg,ZB]
 obtain⟨C,hC⟩:∃C,row za l++tl=C:=⟨_,rfl⟩
 have cs:C=row za (l.take i)++(row za (l.drop i)++tl):=by rw[<-hC,<-XA,<-TR,List.take_append_drop]
 rw[hC] at hb hcl
 have hcq:cellsOf H 41 (min (l.length+1-i) (l.length+1-(i+1))) (.sl b (i*41) (l.length+1-i) (c-i) none)=some (row za (l.drop i)):=by
  rw[show min (l.length+1-i) (l.length+1-(i+1))=l.length-i by omega,cells_sl hb (by omega) (by omega),cs,IF rl,mC rd]
 have sp1:zD C ((i+1)*41) (row za (l.drop i))=some (C.take ((i+1)*41)++(row za (l.drop i)++C.drop ((l.length+1)*41))):=by
  unfold zD
  rw[rd,if_pos (by omega),XA]
  congr 4
  omega
 have k1:=P7 (n:=l.length+1-(i+1)) (c:=c-(i+1)) (o:=none) (m:=l.length+1-i) FA NK rfl hcq hb (mL VN _) sp1
 obtain⟨Y,hY⟩:∃Y,H.set b (.cells (C.take ((i+1)*41)++(row za (l.drop i)++C.drop ((l.length+1)*41))) 38)=Y:=⟨_,rfl⟩
 rw[hY] at k1
 have y1:Y.n=H.n:=by rw[<-hY,kA]
 have y2:Y.get b=some (.cells (C.take ((i+1)*41)++(row za (l.drop i)++C.drop ((l.length+1)*41))) 38):=by rw[<-hY,dA,if_pos ⟨rfl,hbn⟩]
 have y3:∀j,j≠b->Y.get j=H.get j:=fun j hj=>by rw[<-hY,dA,if_neg (fun h=>hj h.1)]
 have yv:Y.get vb=some (.cells (za x) 38):=by rw[y3 _ hne,hv]
 have hcp:cellsOf Y 41 (min 1 (l.length+1-i)) (.sl vb 0 1 1 vt)=some (za x):=by
  rw[show min 1 (l.length+1-i)=1 by omega,cells_sl yv (jA _) (by rw[zg];omega),UA,uA (by rw[zg];omega)]
 have tlen:(C.take ((i+1)*41)).length=(i+1)*41:=by rw[JB];omega
 have sp2:zD (C.take ((i+1)*41)++(row za (l.drop i)++C.drop ((l.length+1)*41))) (i*41) (za x)=some (row za (IL l i x)++C.drop ((l.length+1)*41)):=by
  unfold zD
  rw[zg,if_pos (by rw[qA,tlen];omega),jB (by rw[tlen];omega),List.take_take,show min (i*41) ((i+1)*41)=i*41 by omega,show i*41+41=(i+1)*41 by omega,IF tlen,zpk]
  have:C.take (i*41)=row za (l.take i):=by rw[cs,mC rl]
  rw[this]
  simp only[XA]
 have k2:=P7 (n:=l.length+1-i) (c:=c-i) (o:=none) (m:=1) FA NK rfl hcp y2 (VN x) sp2
 exact⟨Y,_,C.drop ((l.length+1)*41),k1,k2,y1,by rw[kA,y1],fun j hj=>by rw[dA,if_neg (fun h=>hj h.1),y3 j hj],by rw[dA,if_pos ⟨rfl,by omega⟩],by rw[qA,zr zg,LO l i x (bF hi),ZB];omega⟩
end
section
open Go Go.Tw
open Classical
theorem CQ.keep{v:V}{o:Option V}{ρ:Operand->V}{H:Heap}{op:Op}{K:OR->Prop}{h:Hid (ρ,op,K)}(e:o=some v)(k:mG (FF ρ H op ⟨v,H,H.n⟩)=true/\K ⟨v,H,H.n⟩):CQ (keep H o) ρ H op K h:=CQ.intro (by rw[e];rfl) k
theorem m_24{ok:GV->Prop}{mk:GRev->Int->GV->GRev×Int}(hM:Lk ok mk)(l:List GNode)(hl:l.length<=1048576)(n:GNode)(hn:ok n.body)(hw:n.body.wf)(H:Heap)(b1 b2 b3 bn bp:Nat)(ks ps:List GRev)
  (h1:H.get b1=some (.cells [.mp bn] 58)) (h2:H.get b2=some (.cells [AH l] 53)) (h3:H.get b3=some (.cells [.mp bp] 58)) (g1:H.get bn=some (mapM ks)) (g2:H.get bp=some (mapM ps)) (Q:OR->Prop)
  (hQ:Q ⟨.lit (.bool (decide (BH (GH ks).1 n.rev=0)||!BN mk l n (decide (BH (GH ps).1 n.rev=0)))),H,H.n⟩):MCall Cx 24 [.agg (za n),.ptr b1 0,.ptr b2 0,.ptr b3 0] H Q:=by
 have e1:(b1=H.n)=False:=by simp;exact GG (zq h1)
 have e2:(b2=H.n)=False:=by simp;exact GG (zq h2)
 have e3:(b3=H.n)=False:=by simp;exact GG (zq h3)
 have e4:(bn=H.n)=False:=by simp;exact GG (zq g1)
 have e5:(bp=H.n)=False:=by simp;exact GG (zq g2)
 rw[mapM] at g1 g2
 refine QA zm (fn:=Tryz.f24) Tryz.func24 rfl (by decide) (k:=22) rfl (rs:=[.tmp 5]) rfl ?_
 simp -dsimp only[go_sem,bA,cA,reduceCtorEq,gA]
 refine JC _ ((CA (wN (m_25 hM l (by omega) n hn hw (decide (BH (GH ps).1 n.rev=0)) (H.push (.cells (za n) 38)) _ rfl)) xA)) (by kernel_rfl) ?_
 simp -dsimp only[go_sem,bA,aA,reduceCtorEq,e1,h1]
 refine CQ.keep (Z3 (c:=(GH ks).1) (clk:=(GH ks).2) (by simp -dsimp only[go_sem,e4,g1]) n.rev) ?_
 simp -dsimp only[go_sem,bA,aA,reduceCtorEq]
 refine AB (fun k1=>?_) (fun k1=>?_)<;>simp -dsimp only[go_sem,bA,aA,reduceCtorEq,gA,k1,e2,e3,h2,h3]
 ·refine AA (by omega) rfl ?_
  simpa[k1] using hQ
 ·refine CQ.keep (Z3 (c:=(GH ps).1) (clk:=(GH ps).2) (by simp -dsimp only[go_sem,e5,g2]) n.rev) ?_
  simp -dsimp only[go_sem,bA,aA,reduceCtorEq,k1]
  refine AA (by omega) rfl ?_
  simpa[k1] using hQ
def KM(l:List GNode):Prop:=∀j x y,l[j]?=some x->l[j+1]?=some y->RI x.rev y.rev<0
noncomputable def mS(mk:GRev->Int->GV->GRev×Int)(l:List GNode):Bool:=decide (l.length<=32)&&decide ((zS l).length<=8)&&decide (KM l)&&!l.any fun n=>decide (BH (GH ((yJ l (zS l)).map (·.rev))).1 n.rev=0)||!BN mk l n (decide (BH (GH (l.map (·.parent))).1 n.rev=0))
@[go_sem] theorem pY(t:GTree):fL fA 55 [(0,.agg (zp t))]=some (.agg (zp t)):=by kernel_rfl
@[go_sem] theorem H7:zE fA 53=some [.lit (.pointer none)]:=by kernel_rfl
theorem RN.movedP{n k off:Nat}{Z:Nat->Prop}{H:Heap}(h:n<=k):RN (RK n [k]) Z H (.ptr k off) (.ptr n off):=by
 refine .of (.inr ⟨n,?_,rfl⟩)
 unfold RK
 rw[if_neg (by omega)]
 simp[List.idxOf?]
theorem m_6{ok:GV->Prop}{mk:GRev->Int->GV->GRev×Int}(hM:Lk ok mk)(t:GTree)(hl:t.nodes.length<=1048576)(hn:∀n∈t.nodes,ok n.body/\n.body.wf)(H:Heap)(Q:OR->Prop)(hQ:Q ⟨.lit (.bool (mS mk t.nodes)),H,H.n⟩):MCall Cx 6 [.agg (zp t)] H Q:=by
 refine mB (fn:=Tryz.f6) Tryz.func6 rfl (by decide) (k:=61) rfl (rs:=[.tmp 2]) rfl ?_
 have no:(t.nodes.length<=32->(zS t.nodes).length<=8->¬KM t.nodes)->Q ⟨.lit (.bool false),H,H.n⟩:=fun h=>by
  have e:mS mk t.nodes=false:=by
   by_cases h1:t.nodes.length<=32
   ·by_cases h2:(zS t.nodes).length<=8
    ·simp[mS,h h1 h2]
    ·simp[mS,h2]
   ·simp[mS,h1]
  rw[e] at hQ;exact hQ
 refine PA zm ?_
 simp -dsimp only[go_sem,bA,gA]
 refine PA zm ?_
 simp -dsimp only[go_sem,bA,aA,cA,reduceCtorEq]
 generalize hB:H.push (.cells (zp t) 24)=B
 have b1:B.n=H.n+1:=by rw[<-hB,iA]
 have b2:B.get H.n=some (.cells (zp t) 24):=by rw[<-hB,yA,if_pos rfl]
 have b3:∀j,j<H.n->B.get j=H.get j:=fun j hj=>by rw[<-hB,zj j hj]
 have b4:Grn H B:=by rw[<-hB];(focus (repeat (first|exact Grn.refl|refine Grn.push ?_ (by(focus (simp[Blk.ok,JO]<;>(try omega))))|refine Grn.set ?_ (by simp only[iA,kA];omega) (by(focus (simp[Blk.ok,V.ok,nI,UU,zO TL,zO zz,zO zK,zO KO,zO (e:=zW) (fun _=>rfl),NR,MR,fX,eX,JO,gX,iX,lX,iA,kA]<;>(try omega)))))))
 generalize hY:((B.push (.cells (zp t) 55)).push (.cells [.lit (.pointer none)] 53)).set (H.n+2) (.cells [.ptr (H.n+1) 0] 53)=Y
 have y1:Y.n=H.n+3:=by rw[<-hY,kA,iA,iA,b1]
 have y2:Y.get (H.n+2)=some (.cells [.ptr (H.n+1) 0] 53):=by rw[<-hY,dA,if_pos ⟨rfl,by rw[iA,iA];omega⟩]
 have y3:Y.get (H.n+1)=some (.cells (zp t) 55):=by rw[<-hY,dA,if_neg (fun h=>absurd h.1 (by omega)),zj _ (by rw[iA];omega),yA,if_pos b1.symm]
 have y4:∀j,j<B.n->Y.get j=B.get j:=fun j hj=>by rw[<-hY,dA,if_neg (fun h=>absurd h.1 (by omega)),zj _ (by rw[iA];omega),zj _ hj]
 clear hY
 refine⟨W.pre (st2:=⟨jH [(1,.ptr H.n 0),(3,.ptr (H.n+1) 0)],B.push (.cells [AH t.nodes] 53),H.n⟩) ?_ (WW.out (h:=.mk) ?_)⟩
 ·refine Sub.moves2 B [H.n+2] [.cells [AH t.nodes] 53] H.n [(1,.ptr H.n 0),(3,.ptr (H.n+1) 0)] b4 (by simp) ?_ rfl ?_ ?_ ?_ ?_ (jA _) ?_ b3 (fun b e=>nomatch e) ?_
  ·intro k hk
   simp only[List.mem_singleton] at hk
   subst hk
   omega
  ·omega
  ·exact y4
  ·intro i k B1 h1 h2
   cases i with
   | zero=>
    simp only[List.getElem?_cons_zero,Option.some.injEq] at h1 h2
    subst h1 h2
    refine⟨_,y2,RNb.cells rfl (.cons (.fz (.ptr (H.n+1) 0 (zp t) 55 1 _ ⟨by omega,by simp⟩ y3 ?_)) .nil)⟩
    exact .cons _ _ _ _ (.self _ (Sk zK _)) .nil
   | succ i=>simp at h1
  ·omega
  ·omega
  ·intro p hp
   simp only[List.mem_cons,JA,or_false] at hp
   rcases hp with rfl|rfl
   ·exact RN.stays (by simp -dsimp only[go_sem,aA,reduceCtorEq]) (by simp[V.ok];omega)
   ·rw[<-b1]
    simp -dsimp only[go_sem,aA,reduceCtorEq]
    exact RN.movedP (by omega)
 clear y1 y2 y3 y4 Y
 refine DC zm (ι:=Unit) (fun _=>[(1,.ptr H.n 0),(3,.ptr (H.n+1) 0)]) (fun _=>B.push (.cells [AH t.nodes] 53)) (fun _=>H.n) (fun _=>t.nodes.length<=32/\(zS t.nodes).length<=8) ?_ ?_
 ·have e1:(H.n=B.n)=False:=by simp;omega
  simp -dsimp only[go_sem,bA,aA,reduceCtorEq,zf,zh,b1,b2]
  refine AB (fun k1=>?_) (fun k1=>?_)<;>simp -dsimp only[go_sem,bA,aA,cA,reduceCtorEq,k1,b1,b2]
  ·exact AA (by omega) rfl (no fun h=>absurd h (by omega))
  ·refine AB (fun k2=>?_) (fun k2=>?_)<;>simp -dsimp only[go_sem,bA,aA,cA,k1,k2,b1]
   ·refine oB ?_
    refine aU t.nodes hl _ _ ?_
    simp -dsimp only[go_sem,bA,aA,k1,k2]
    refine aB (fun k3=>?_) (fun k3=>?_)<;>simp -dsimp only[go_sem,bA,aA,k1,k2,k3]
    ·exact AA (by omega) rfl (no fun _ h=>absurd h (by omega))
    ·refine zAg (some ()) ?_
     omega
   ·refine zAg (some ()) ?_
    have:=tD (fun n=>decide (n.has=1)) t.nodes
    have:(zS t.nodes).length<=t.nodes.length:=tD _ _
    omega
 ·rintro⟨⟩ ⟨h1,h2⟩
  refine LB zm ?_
  have e1:(H.n=B.n)=False:=by simp;omega
  simp -dsimp only[go_sem,bA,aA,cA,reduceCtorEq,zf,zh,b1,b2]
  refine sC zm (fun i:Nat=>[(1,.ptr H.n 0),(3,.ptr (H.n+1) 0),(28,vA t.nodes.length),(29,vA i)]) (fun i=>i<=t.nodes.length/\∀j x y,j+1<i->t.nodes[j]?=some x->t.nodes[j+1]?=some y->RI x.rev y.rev<0) (fun i=>t.nodes.length-i) 0 ⟨KB _,fun j x y h=>absurd h (by omega)⟩ zSl ?_
  rintro i ⟨hi,hord⟩
  simp -dsimp only[go_sem,bA,aA,zf,zh]
  refine aB (fun h=>?_) (fun h=>?_)<;>simp -dsimp only[go_sem,bA,aA,h]
  ·obtain⟨y,hy⟩:=zu h
   refine JC _ ((CA (IQ) xA)) (by kernel_rfl) ?_
   simp -dsimp only[go_sem,bA,aA,cA,b1]
   refine AB (fun k1=>?_) (fun k1=>?_)<;>simp -dsimp only[go_sem,bA,aA,cA,reduceCtorEq,gA,k1,b1,b2]
   ·obtain⟨x,hx⟩:=zu (l:=t.nodes) (i:=i-1) (by omega)
    have e2:IntKind.i64.wrap ((i:Int)-1)=((i-1:Nat):Int):=by rw[zw (by omega) (by omega)];omega
    have e3:i-1<t.nodes.length:=by omega
    simp -dsimp only[go_sem,bA,aA,cA,reduceCtorEq,k1,e2,e3,h,z7 zg hx,z7 zg hy,b1,b2]
    refine aB (fun k2=>?_) (fun k2=>?_)<;>simp -dsimp only[go_sem,bA,aA,k2]
    ·exact AA (by omega) rfl (no fun _ _ g=>absurd (g (i-1) x y hx (by rw[show i-1+1=i by omega];exact hy)) (by omega))
    ·refine zAg (i+1) ?_
     refine⟨h,fun j x' y' hj hx' hy'=>?_⟩
     rcases RA (j+1) i with g|g
     ·exact hord j x' y' g hx' hy'
     ·obtain rfl:j=i-1:=by omega
      rw[show i-1+1=i by omega] at hy'
      rw[hx] at hx';rw[hy] at hy'
      injection hx' with hx';injection hy' with hy'
      subst hx' hy'
      omega
   ·refine zAg (i+1) ?_
    exact⟨h,fun j x' y' hj hx' hy'=>by omega⟩
  ·have ho:KM t.nodes:=fun j x y hx hy=>hord j x y (by have:=(rA.1 hy).1;omega) hx hy
   refine tE _ ((CA (wN (tZ t.nodes (by omega) (B.push (.cells [AH t.nodes] 53)) _ rfl)) (CA (wN (Kc t.nodes hl ((B.push (.cells [AH t.nodes] 53)).push (mapM (t.nodes.map (·.parent)))) _ rfl)) xA))) [(0,2),(1,2),(0,4),(1,4),(2,4),(3,4),(0,5),(1,5),(2,5),(3,5),(4,5)] (by kernel_rfl) (by kernel_rfl) ?_
   simp -dsimp only[go_sem,bA,aA,cA,reduceCtorEq,b1,b2]
   refine oB ?_
   have c1:(B.push (.cells [AH t.nodes] 53)).n=H.n+2:=by rw[iA,b1]
   generalize hZ:((((((B.push (.cells [AH t.nodes] 53)).push (mapM (t.nodes.map (·.parent)))).push (mapM ((yJ t.nodes (zS t.nodes)).map (·.rev)))).push (.cells [.lit (.map none)] 58)).push (.cells [.lit (.map none)] 58)).set (H.n+4) (.cells [.mp (H.n+2)] 58)).set (H.n+5) (.cells [.mp (H.n+3)] 58)=Z
   have z1:Z.get (H.n+5)=some (.cells [.mp (H.n+3)] 58):=by rw[<-hZ,dA,if_pos ⟨rfl,by simp only[kA,iA];omega⟩]
   have z2:Z.get (H.n+4)=some (.cells [.mp (H.n+2)] 58):=by rw[<-hZ,dA,if_neg (fun h=>absurd h.1 (by omega)),dA,if_pos ⟨rfl,by simp only[iA];omega⟩]
   have z0:∀j,j<H.n+4->Z.get j=(((B.push (.cells [AH t.nodes] 53)).push (mapM (t.nodes.map (·.parent)))).push (mapM ((yJ t.nodes (zS t.nodes)).map (·.rev)))).get j:=fun j hj=>by
    rw[<-hZ,dA,if_neg (fun h=>absurd h.1 (by omega)),dA,if_neg (fun h=>absurd h.1 (by omega)),zj _ (by simp only[iA];omega),zj _ (by simp only[iA];omega)]
   have z3:Z.get (H.n+3)=some (mapM ((yJ t.nodes (zS t.nodes)).map (·.rev))):=by rw[z0 _ (by omega),yA,if_pos (by simp only[iA];omega)]
   have z4:Z.get (H.n+2)=some (mapM (t.nodes.map (·.parent))):=by rw[z0 _ (by omega),zj _ (by simp only[iA];omega),yA,if_pos (by simp only[iA];omega)]
   have z5:Z.get (H.n+1)=some (.cells [AH t.nodes] 53):=by rw[z0 _ (by omega),zj _ (by simp only[iA];omega),zj _ (by simp only[iA];omega),yA,if_pos (by omega)]
   have zn:Z.n=H.n+6:=by rw[<-hZ];simp only[kA,iA];omega
   clear hZ
   refine m_23 t.nodes _ (fun n=>decide (BH (GH ((yJ t.nodes (zS t.nodes)).map (·.rev))).1 n.rev=0)||!BN mk t.nodes n (decide (BH (GH (t.nodes.map (·.parent))).1 n.rev=0))) (by omega) Z (fun x hx Q' hQ'=>MVal.fn (m_24 hM t.nodes hl x (hn x hx).1 (hn x hx).2 Z _ _ _ _ _ _ _ z1 z5 z2 z3 z4 Q' hQ')) _ ?_
   simp -dsimp only[go_sem,bA,aA]
   refine AA (by omega) rfl ?_
   simpa[mS,h1,h2,ho] using hQ
end
section
open Go Go.Tw
open Classical
@[go_sem] theorem bh(x:UInt8)(r:List V):(zT x++r)[0]?=some (PE x):=rfl
def BL(l:List UInt8):Nat->List UInt32
 | 0=>oA 16 0
 | i+1=>(BL l i).set (i / 4) ((BL l i).getD (i / 4) 0||| ((l.getD i 0).toUInt32 <<< pB (8*(i % 4))))
theorem Hf(l:List UInt8):∀i,(BL l i).length=16
 | 0=>rfl
 | i+1=>by rw[BL,qB,Hf l i]
theorem zi2(l:List UInt8):∀i k,k<16->(BL l i).getD k 0=(((if 4*k<i then(l.getD (4*k) 0).toUInt32 <<< pB 0 else 0)||| (if 4*k+1<i then(l.getD (4*k+1) 0).toUInt32 <<< pB 8 else 0))||| (if 4*k+2<i then(l.getD (4*k+2) 0).toUInt32 <<< pB 16 else 0))||| (if 4*k+3<i then(l.getD (4*k+3) 0).toUInt32 <<< pB 24 else 0)
 | 0,k,hk=>by
  rw[BL]
  rw[DA,List.getElem?_replicate,if_pos hk]
  simp
 | i+1,k,hk=>by
  have ih:=zi2 l i k hk
  rw[BL]
  by_cases e:i / 4=k
  ·rw[e]
   have h1:((BL l i).set k ((BL l i).getD k 0||| ((l.getD i 0).toUInt32 <<< pB (8*(i % 4))))).getD k 0=(BL l i).getD k 0||| ((l.getD i 0).toUInt32 <<< pB (8*(i % 4))):=by
    rw[DA,KD,if_pos rfl,if_pos (by rw[Hf];exact hk)]
    rfl
   rw[h1,ih]
   have z0:∀a,(4*k+a<4*k)=False:=fun a=>by simp
   have z1:∀b,(4*k<4*k+b)=(0<b):=fun b=>by simp only[eq_iff_iff];omega
   have z2:∀a b,(4*k+a<4*k+b)=(a<b):=fun a b=>by simp only[eq_iff_iff];omega
   have z3:∀a b,4*k+a+b=4*k+(a+b):=fun a b=>by omega
   have h2:i % 4=0\/i % 4=1\/i % 4=2\/i % 4=3:=by omega
   rcases h2 with h2|h2|h2|h2
   ·obtain rfl:i=4*k:=by omega
    simp[h2,z0,z1,z2]
   ·obtain rfl:i=4*k+1:=by omega
    simp[h2,z1,z2,z3]
   ·obtain rfl:i=4*k+2:=by omega
    simp[h2,z1,z2,z3]
   ·obtain rfl:i=4*k+3:=by omega
    simp[h2,z1,z2,z3]
  ·have h1:∀x,((BL l i).set (i / 4) x).getD k 0=(BL l i).getD k 0:=fun x=>by
    rw[DA,KD,if_neg e,<-DA]
   rw[h1,ih]
   have c0:(4*k<i+1)=(4*k<i):=by simp only[eq_iff_iff];omega
   have c1:(4*k+1<i+1)=(4*k+1<i):=by simp only[eq_iff_iff];omega
   have c2:(4*k+2<i+1)=(4*k+2<i):=by simp only[eq_iff_iff];omega
   have c3:(4*k+3<i+1)=(4*k+3<i):=by simp only[eq_iff_iff];omega
   simp only[c0,c1,c2,c3]
theorem zot{l m:List UInt32}(h1:l.length=16)(h2:m.length=16)(h:∀k,k<16->l.getD k 0=m.getD k 0):l=m:=by
 refine uI (by omega) fun k hk hk2=>?_
 have:=h k (by omega)
 simpa[DA,sA hk,sA hk2] using this
theorem zn9(l:List UInt8):BL l 64=UL l:=by
 refine zot (Hf ..) (by simp[UL]) fun k hk=>?_
 rw[zi2 l 64 k hk,if_pos (by omega),if_pos (by omega),if_pos (by omega),if_pos (by omega)]
 rw[UL,DA (l:=List.map _ _),List.getElem?_map,List.getElem?_range hk]
 show _=SO l k
 unfold SO w8
 have e0:∀x:UInt32,x <<< pB 0=x:=fun x=>by simp
 rw[e0]
 rfl
theorem Y6(l:List UInt8):(UL l).length=16:=by simp[UL]
theorem o7(l:List UInt32):V.bf (.agg (l.map qC))=true:=by
 show QF (l.map qC)=true
 induction l with
 | nil=>rfl
 | cons x l ih=>simp[QF,V.bf,ih]
theorem AR(c:UInt8):IntKind.u32.wrap (c.toNat:Int)=((c.toUInt32).toNat:Int):=by
 rw[AK (by omega) (by have:=c.toNat_lt;omega)]
 simp
structure Own1(H X:Heap)(B:Blk):Prop where
 n:X.n=H.n+1
 at_:X.get H.n=some B
 old:∀j,j<H.n->X.get j=H.get j
theorem Own1.push{H:Heap}{B:Blk}:Own1 H (H.push B) B:=⟨iA ..,by rw[yA,if_pos rfl],zj⟩
theorem Own1.set{H X:Heap}{B B2:Blk}(h:Own1 H X B):Own1 H (X.set H.n B2) B2:=⟨by rw[kA,h.n],by rw[dA,if_pos ⟨rfl,by rw[h.n];omega⟩],fun j hj=>by rw[dA,if_neg (fun g=>absurd g.1 (by omega)),h.old j hj]⟩
theorem sc(l:List UInt8)(hl:l.length=64)(H:Heap)(Q:OR->Prop)(hQ:Q ⟨.agg ((UL l).map qC),H,H.n⟩):MCall Cx 130 [NB zT l] H Q:=by
 refine mB (fn:=Tryz.f130) Tryz.func130 rfl (by decide) (k:=26) rfl (rs:=[.cell 2 153]) rfl ?_
 refine PA zm ?_
 simp -dsimp only[go_sem,bA,gA]
 refine PA zm ?_
 simp -dsimp only[go_sem,bA,aA,reduceCtorEq,hl]
 refine dD (ι:=Nat×Heap) (fun p=>[(2,.ptr H.n 0),(5,NB zT l),(6,vA 64),(7,vA p.1)]) (fun p=>p.2) (fun _=>H.n) (fun p=>p.1<=64/\Own1 H p.2 (.cells ((BL l p.1).map qC) 153)) (fun p=>64-p.1) (0,H.push (.cells ((oA 16 (0:UInt32)).map qC) 153)) ⟨by omega,Own1.push⟩ (RB _ zSl) ?_
 rintro⟨i,X⟩ ⟨hi,hX⟩
 simp only at hi hX ⊢
 have hXn:=hX.n
 have hXa:=hX.at_
 refine PA zm ?_
 simp -dsimp only[go_sem,bA,aA,zf,zh]
 refine PA zm ?_
 simp -dsimp only[go_sem,aA]
 refine aB (fun h=>?_) (fun h=>?_)<;>simp -dsimp only[go_sem,h]
 ·refine yC ?_
  refine MD ?_
  obtain⟨c,hc⟩:=zu (l:=l) (i:=i) (by omega)
  refine PA zm ?_
  have h64:i<l.length:=by omega
  simp -dsimp only[go_sem,bA,aA,h64,z7 wK hc]
  refine BD zm 11 (by decide) (by kernel_rfl) ?_
  dsimp only[NA,iB]
  refine JC _ xA (by kernel_rfl) ?_
  have q1:(i:Int).tdiv 4=((i / 4:Nat):Int):=(Int.ofNat_tdiv i 4).symm
  have q2:IntKind.i64.wrap ((i / 4:Nat):Int)=((i / 4:Nat):Int):=zjR (by omega)
  have q3:(i:Int).tmod 4=((i % 4:Nat):Int):=(Int.ofNat_tmod i 4).symm
  have q4:IntKind.i64.wrap (8*((i % 4:Nat):Int))=((8*(i % 4):Nat):Int):=by rw[zw (by omega) (by omega)];omega
  have q5:(0:Int)<=((8*(i % 4):Nat):Int):=by omega
  have q6:((8*(i % 4):Nat):Int)<32:=by omega
  have q7:i / 4<16:=by omega
  have q8:(((8*(i % 4):Nat):Int)).toNat=8*(i % 4):=by omega
  simp -dsimp only[go_sem,bA,aA,hXa,nV _ _ _ _ _ (show(4:Int)≠0 by decide),J3 _ _ _ _ _ (show(4:Int)≠0 by decide),q1,q2,q3,q4,q5,q6,q7,q8,AR,wB,bB,BG (l:=BL l i) (i:=i / 4) (by rw[Hf];omega)]
  refine rB (by rw[YK (l:=BL l i) (i:=i / 4) _ (by rw[Hf];omega)];rfl) ?_
  have wg:(BL l i).set (i / 4) ((BL l i).getD (i / 4) 0||| c.toUInt32 <<< pB (8*(i % 4)))=BL l (i+1):=by
   rw[BL,DA (l:=l),hc]
   rfl
  simp -dsimp only[go_sem,wg]
  refine LB zm ?_
  simp -dsimp only[go_sem,bA,aA]
  refine zAg (i+1,X.set H.n (.cells ((BL l (i+1)).map qC) 153)) ?_
  exact⟨by dsimp only;omega,hX.set⟩
 ·obtain rfl:i=64:=by omega
  refine LB zm ?_
  rw[zn9] at hXa
  have hlt:H.n<X.n:=by omega
  simp -dsimp only[go_sem,bA,aA,hXa,hlt,RU (l:=UL l) (Y6 l),bC,Y6,RR,yM (l:=UL l) (m:=UL l) rfl]
  exact AA (by omega) (o7 _) hQ
end
section
open Go Go.Tw
open Classical
theorem znw(l:List GNode)(hl:l.length<=1048575)(i:Nat)(hi:i<=l.length)(x:GNode)(b c vb:Nat)(vt:Option Nat)(tl:List V)(hc:l.length<=c)(hcl:c*41<=(row za l++tl).length)(H:Heap)(hb:H.get b=some (.cells (row za l++tl) 38))(hv:H.get vb=some (.cells (za x) 38))(hne:vb≠b)(Q:OR->Prop)
  (hQ:InsQ l i x b H Q):MCall Cx 53 [.sl b 0 l.length c none,vA i,.sl vb 0 1 1 vt] H Q:=by
 have hbn:=zq hb
 have s1:lH fA 22 (.sl b 0 l.length c none) (some (vA i)) none none=some (.sl b (if c=i then 0 else 0+i*41) (l.length-i) (c-i) none):=by
  rw[zeA FA NK b 0 l.length c .i64 i hc,if_pos hi]
 have e10:(((1:Nat):Int)=0)=False:=by simp
 by_cases hin:i=l.length
 ·have e2:((i:Int)=(l.length:Int))=True:=by simp[hin]
  have ei:IL l i x=l++[x]:=by rw[IL,hin,FB,List.drop_length]
  by_cases hr:l.length+1<=c
  ·have k1:=bT (vt:=vt) hr hcl hb hv
   refine mB (fn:=qK) eI rfl (by decide) (k:=95) rfl (rs:=[.tmp 6]) rfl ?_
   refine LB zm ?_
   simp -dsimp only[go_sem,bA,aA,cA,reduceCtorEq,gA,s1,e10,e2,k1]
   refine nB (hQ _ _ _ (by rw[kA];omega) (fun j hj hjb=>⟨by rw[dA,if_neg (fun h=>hjb h.1)],j4 hjb⟩) (by omega) (.inr ⟨b,c,none,(row za l++tl).drop ((l.length+1)*41),by rw[LO l i x hi],by omega,by rw[LO l i x hi];exact hr,?_,.inr ⟨rfl,?_⟩⟩))
   ·rw[dA,if_pos ⟨rfl,hbn⟩,ei,TR,iJ,xX,MA,XA]
   ·rw[qA,zr zg,LO l i x hi,ZB]
    omega
  ·have k1:=aT (vt:=vt) hl hc hr hb hv
   refine mB (fn:=qK) eI rfl (by decide) (k:=95) rfl (rs:=[.tmp 6]) rfl ?_
   refine LB zm ?_
   simp -dsimp only[go_sem,bA,aA,cA,reduceCtorEq,gA,s1,e10,e2,k1]
   refine nB (hQ _ _ _ (by rw[iA];omega) (fun j hj hjb=>⟨zj _ hj,j4 (by omega)⟩) (by omega) (.inr ⟨H.n,l.length+1,some 41,[],by rw[LO l i x hi],by omega,by rw[LO l i x hi];exact jA _,?_,.inl rfl⟩))
   rw[yA,if_pos rfl,ei,TR,iJ,xX,MA,MA]
 ·have e2:((i:Int)=(l.length:Int))=False:=by simp;omega
  have hil:i<l.length:=by omega
  have e3:IntKind.i64.wrap ((l.length:Int)+((1:Nat):Int))=((l.length+1:Nat):Int):=PR (by omega)
  have s3:lH fA 22 (.sl b 0 l.length c none) (some (vA i)) none none=some (.sl b (i*41) (l.length-i) (c-i) none):=by
   rw[s1,if_neg (by omega),bB]
  have e6:IntKind.i64.wrap ((i:Int)+((1:Nat):Int))=((i+1:Nat):Int):=PR (by omega)
  by_cases hr:c<l.length+1
  ·have hcn:c=l.length:=by omega
   have e4:=eq_true hr
   have s2:lH fA 22 (.sl b 0 l.length c none) none (some (vA i)) none=some (.sl b 0 i c none):=by
    rw[zf0 FA NK b 0 l.length c .i64 i hc,if_pos (by omega)]
   have e5:IntKind.i64.wrap (((l.length+1:Nat):Int)-(i:Int))=((l.length+1-i:Nat):Int):=by rw[zw (by omega) (by omega)];omega
   obtain⟨X,Y,Z,k1,k2,k3,xn,yn,zn,zo,zk⟩:=zp8 l hl i hil x b c vb vt tl hr H hb hv
   have o1:=zdF (b:=H.n) (show i<l.length+1 by omega)
   have o2:=zdF (b:=H.n) (show i+1<l.length+1 by omega)
   refine mB (fn:=qK) eI rfl (by decide) (k:=95) rfl (rs:=[.tmp 6]) rfl ?_
   refine LB zm ?_
   simp -dsimp only[go_sem,bA,aA,cA,reduceCtorEq,gA,s3,e10,e2,e3,eW,e4,s2,e5,k1,o1,k2]
   refine tE _ xA [] (by kernel_rfl) (by kernel_rfl) ?_
   simp -dsimp only[go_sem,bA,aA,reduceCtorEq,e6,o2,s3,k3]
   refine Res.at (lo2:=min b H.n) (by omega) (nB (h:=.mk) (hQ _ _ _ (by omega) (fun j hj hjb=>⟨zo j hj,j4 (by omega)⟩) (jA _) (.inr ⟨H.n,l.length+1,some 41,[],by rw[LO l i x hi],by omega,by rw[LO l i x hi];exact jA _,by rw[MA];exact zk,.inl rfl⟩)))
  ·have e4:=eq_false hr
   have t1:lH fA 22 (.sl b 0 l.length c none) none (some (vA (l.length+1:Nat))) none=some (.sl b 0 (l.length+1) c none):=by
    rw[zf0 FA NK b 0 l.length c .i64 (l.length+1) hc,if_pos (by omega)]
   have t2:lH fA 22 (.sl b 0 (l.length+1) c none) (some (vA (i+1:Nat))) none none=some (.sl b ((i+1)*41) (l.length+1-(i+1)) (c-(i+1)) none):=by
    rw[zeA FA NK b 0 (l.length+1) c .i64 (i+1) (by omega),if_pos (by omega),if_neg (by omega),bB]
   have t3:lH fA 22 (.sl b 0 (l.length+1) c none) (some (vA i)) none none=some (.sl b (i*41) (l.length+1-i) (c-i) none):=by
    rw[zeA FA NK b 0 (l.length+1) c .i64 i (by omega),if_pos (by omega),if_neg (by omega),bB]
   obtain⟨Y,Z,tl2,k1,k2,yn,zn,zo,zk,zc⟩:=zof l hl i hil x b c vb vt tl (by omega) hcl H hb hv hne
   have hov:∀Q:OR->Prop,Q ⟨.lit (.bool false),H,H.n⟩->MCall Cx 80 [.sl vb 0 1 1 vt,.sl b ((i+1)*41) (l.length+1-(i+1)) (c-(i+1)) none] H Q:=fun Q hQ=>m_80 vb b 0 _ 1 _ 1 _ vt none _ _ hne H hv hb (by rw[zg];omega) (by omega) _ hQ
   refine mB (fn:=qK) eI rfl (by decide) (k:=95) rfl (rs:=[.tmp 6]) rfl ?_
   refine LB zm ?_
   simp -dsimp only[go_sem,bA,aA,cA,reduceCtorEq,s3,e10,e2,e3,eW,e4,t1,e6,t2]
   refine oB ?_
   simp -dsimp only[go_sem,bA,aA,cA,reduceCtorEq]
   refine hov _ ?_
   simp -dsimp only[go_sem,aA,cA,reduceCtorEq,gA]
   refine tE _ xA [] (by kernel_rfl) (by kernel_rfl) ?_
   simp -dsimp only[go_sem,bA,aA,reduceCtorEq,gA,e6,t2,t3,k1,k2]
   refine Res.at (lo2:=min b H.n) (by omega) (nB (h:=.mk) (hQ _ _ _ (by omega) (fun j hj hjb=>⟨zo j hjb,j4 hjb⟩) (jA _) (.inr ⟨b,c,none,tl2,by rw[LO l i x hi],by omega,by rw[LO l i x hi];omega,zk,.inr ⟨rfl,zc⟩⟩)))
theorem VT(x:GNode)(vb:Nat)(vt:Option Nat)(H:Heap)(hv:H.get vb=some (.cells (za x) 38))(Q:OR->Prop)(hQ:Q ⟨.sl H.n 0 1 1 (some 41),H.push (.cells (za x) 38),H.n⟩):
  MCall Cx 53 [.lit (.slice none 0 0),vA (0:Nat),.sl vb 0 1 1 vt] H Q:=by
 have s1:lH fA 22 (.lit (.slice none 0 0)) (some (vA (0:Nat))) none none=some (.lit (.slice none 0 0)):=by
  simp[lH,FA,NK,SK,MM,pM,sM,fS]
 have e10:(((1:Nat):Int)=0)=False:=by simp
 have e2:(((0:Nat):Int)=((0:Nat):Int))=True:=by simp
 have k1:=zha (P:=fA) (H:=H) (z:=41) (t:=22) (t1:=22) (e:=38) (new:=za x) (cs:=[]) (x:=.sl vb 0 1 1 vt) (b:=0) (n:=0) (k:=1) FA FA (by intro q h;cases h) QO FN XO rfl (by omega) (by rw[cells_sl hv (jA _) (by rw[zg];omega),UA,uA (by rw[zg];omega)]) (VN x) (by rw[zg]) (fun h=>absurd rfl h) rfl (by omega)
 rw[oP,if_pos rfl,List.nil_append] at k1
 replace k1:DH fA H 22 22 (.lit (.slice none 0 0)) (.sl vb 0 1 1 vt)=some ⟨.sl H.n 0 1 1 (some 41),H.push (.cells (za x) 38),H.n⟩:=k1
 refine mB (fn:=qK) eI rfl (by decide) (k:=95) rfl (rs:=[.tmp 6]) rfl ?_
 refine LB zm ?_
 simp -dsimp only[go_sem,bA,aA,cA,reduceCtorEq,gA,s1,e10,k1]
 exact nB hQ
theorem jQ(l:List GNode)(hl:l.length<=1048575)(i:Nat)(hi:i<=l.length)(x:GNode)(n0:Nat)(nv:V)(vb:Nat)(vt:Option Nat)(H:Heap)(hn0:n0<=H.n)(hS:NodeS n0 H nv l)(hv:H.get vb=some (.cells (za x) 38))(hne:hJ nv≠some vb)(Q:OR->Prop)
  (hQ:∀X nv' lo,H.n<=X.n->(∀j,j<H.n->hJ nv≠some j->X.get j=H.get j/\hJ nv'≠some j)->n0<=lo->NodeS n0 X nv' (IL l i x)->Q ⟨nv',X,lo⟩):MCall Cx 53 [nv,vA i,.sl vb 0 1 1 vt] H Q:=by
 rcases hS with⟨rfl,rfl⟩|⟨k,c,tag,tl,rfl,h2,h3,h4,h5⟩
 ·obtain rfl:i=0:=by simpa using hi
  refine VT x vb vt H hv Q (hQ _ _ _ (by rw[iA];omega) (fun j hj _=>⟨zj _ hj,?_⟩) hn0 (.inr ⟨H.n,1,some 41,[],rfl,hn0,jA _,?_,.inl rfl⟩))
  ·intro h
   injection h with h
   omega
  ·rw[yA,if_pos rfl,MA]
   show _=some (Blk.cells (row za [x]) _)
   rw[iJ,xX,MA]
 ·have hvk:vb≠k:=fun e=>hne (by rw[e];rfl)
  have hkn:=zq h4
  have k0:∀j,j≠k->hJ (.sl k 0 l.length c tag)≠some j:=fun j h=>j4 h
  have fin:∀X nv' lo,H.n<=X.n->(∀j,j<H.n->j≠k->X.get j=H.get j/\hJ nv'≠some j)->n0<=lo->NodeS n0 X nv' (IL l i x)->Q ⟨nv',X,lo⟩:=fun X nv' lo q1 q2 q3 q4=>
   hQ X nv' lo q1 (fun j hj h=>q2 j hj fun e=>h (by rw[e];rfl)) q3 q4
  rcases h5 with rfl|⟨rfl,h6⟩
  ·refine MCall.stretch h4 fun c' m h7 h8=>?_
   have g1:(H.set k (.cells (row za l++tl++oA m .any) 38)).get k=some (.cells (row za l++(tl++oA m .any)) 38):=by rw[dA,if_pos ⟨rfl,hkn⟩,XA]
   have g2:∀j,j≠k->(H.set k (.cells (row za l++tl++oA m .any) 38)).get j=H.get j:=fun j hj=>by rw[dA,if_neg (fun h=>hj h.1)]
   refine znw l hl i hi x k c' vb vt (tl++oA m .any) (by omega) (by rw[<-XA,qA,List.length_replicate];exact h8) _ g1 (by rw[g2 _ hvk,hv]) hvk _ fun X nv' lo q1 q2 q3 q4=>?_
   rw[kA] at q1 q2 q3 q4
   exact fin X nv' _ q1 (fun j hj hjk=>⟨by rw[(q2 j hj hjk).1,g2 j hjk],(q2 j hj hjk).2⟩) (by simp only;omega) (q4.lower (by omega))
  ·exact znw l hl i hi x k c vb vt tl h3 h6 H h4 hv hvk _ fun X nv' lo q1 q2 q3 q4=>fin X nv' lo q1 q2 (by omega) (q4.lower (by omega))
end
section
open Go Go.Tw
open Classical
@[go_sem] theorem oY:fL fA 32 []=some (.agg (ze .zero)):=by kernel_rfl
def WV(ok:GV->Prop)(mk:GRev->Int->GV->GRev×Int):Prop:=∀(p:GRev) (d:Int) (v:GV) (H:Heap) (Q:OR->Prop),ok v->Q ⟨.tup [.agg (ze (mk p d v).1),vA (mk p d v).2],H,H.n⟩->MCall Cx 32 [.agg (ze p),vA d,.agg (zR v)] H Q
def L4(l:List GNode)(x:GNode):Bool:=decide (x.parent=.zero)||(decide (IntKind.u64.wrap (x.parent.gen+1)=x.rev.gen)&&decide (0<=OS l x.parent))
noncomputable def RS(mk:GRev->Int->GV->GRev×Int)(l:List GNode)(x:GNode):Bool:=
 if GM l x.rev then decide (x.has=1)&&decide ((mk x.parent x.deleted x.body).2=0)&&decide ((mk x.parent x.deleted x.body).1=x.rev) else decide (x.has=0)&&decide (x.body=.zero)
noncomputable def TK(mk:GRev->Int->GV->GRev×Int)(l:List GNode)(x:GNode):Bool:=(BK x.rev&&decide (0<=x.deleted)&&decide (x.deleted<=1))&&L4 l x&&RS mk l x
noncomputable def ZO(mk:GRev->Int->GV->GRev×Int)(l:List GNode):Bool:=decide (l.length<=32)&&decide (D3 l<=8)&&decide (KM l)&&l.all (TK mk l)&&l.all fun n=>fO l n.rev
theorem znZ{α:Type}{p:α->Bool}{l:List α}{i:Nat}{x:α}(hx:l[i]?=some x)(hp:p x=false):l.all p=false:=by
 rw[List.all_eq_false]
 exact⟨x,IA hx,by simp[hp]⟩
theorem m_7{ok:GV->Prop}{mk:GRev->Int->GV->GRev×Int}(hM:WV ok mk)(t:GTree)(hl:t.nodes.length<=1048576)(hn:∀n∈t.nodes,ok n.body/\n.body.wf)(H:Heap)(Q:OR->Prop)(hQ:Q ⟨.lit (.bool (ZO mk t.nodes)),H,H.n⟩):MCall Cx 7 [.agg (zp t)] H Q:=by
 refine mB (fn:=Tryz.f7) Tryz.func7 rfl (by decide) (k:=135) rfl (rs:=[.tmp 2]) rfl ?_
 have no:(t.nodes.length<=32->D3 t.nodes<=8->KM t.nodes->t.nodes.all (TK mk t.nodes)=false)->Q ⟨.lit (.bool false),H,H.n⟩:=fun h=>by
  have e:ZO mk t.nodes=false:=by
   by_cases h1:t.nodes.length<=32
   ·by_cases h2:D3 t.nodes<=8
    ·by_cases h3:KM t.nodes
     ·simp only[ZO,h h1 h2 h3,QB,kD]
     ·simp only[ZO,h3,decide_false,QB,kD]
    ·simp[ZO,h2]
   ·simp[ZO,h1]
  rw[e] at hQ;exact hQ
 have hp:t.nodes.length<=9223372036854775807:=by omega
 refine PA zm ?_
 simp -dsimp only[go_sem,bA,gA]
 refine DC zm (ι:=Unit) (fun _=>[(1,.ptr H.n 0)]) (fun _=>H.push (.cells (zp t) 24)) (fun _=>H.n) (fun _=>t.nodes.length<=32/\D3 t.nodes<=8) ?_ ?_
 ·simp -dsimp only[go_sem,bA,aA,reduceCtorEq]
  refine AB (fun k1=>?_) (fun k1=>?_)<;>simp -dsimp only[go_sem,bA,aA,reduceCtorEq,k1]
  ·exact AA (by omega) rfl (no fun h=>absurd h (by omega))
  refine oB ?_
  refine m_26 t hp _ _ ?_
  simp -dsimp only[go_sem,bA,aA,reduceCtorEq,k1]
  refine aB (fun k2=>?_) (fun k2=>?_)<;>simp -dsimp only[go_sem,bA,aA,reduceCtorEq,k2]
  ·exact AA (by omega) rfl (no fun _ h=>absurd h (by omega))
  ·refine zAg (some ()) ?_
   omega
 rintro⟨⟩ ⟨h1,h2⟩
 refine yC (PA zm ?_)
 simp -dsimp only[go_sem,bA,zf,zh]
 refine MD (dD (ι:=Nat) (fun i=>[(1,.ptr H.n 0),(3,vA i)]) (fun _=>H.push (.cells (zp t) 24)) (fun _=>H.n) (fun i=>i<=t.nodes.length/\(∀j x y,j+1<i->t.nodes[j]?=some x->t.nodes[j+1]?=some y->RI x.rev y.rev<0)/\(t.nodes.take i).all (TK mk t.nodes)=true) (fun i=>t.nodes.length-i) 0 ⟨KB _,fun j x y h=>absurd h (by omega),rfl⟩ (RB _ zSl) ?_)
 rintro i ⟨hi,hord,hall⟩
 refine PA zm ?_
 simp -dsimp only[go_sem,bA,aA,zf,zh]
 refine aB (fun h=>?_) (fun h=>?_)<;>simp -dsimp only[go_sem,aA,h]
 ·obtain⟨x,hx⟩:=zu h
  have hxm:=IA hx
  have bad:TK mk t.nodes x=false->Q ⟨.lit (.bool false),H,H.n⟩:=fun g=>no fun _ _ _=>znZ hx g
  refine yC (MD (PA zm ?_))
  simp -dsimp only[go_sem,bA,aA,cA,reduceCtorEq,h,z7 zg hx]
  refine DC zm (ι:=Unit) (fun _=>[(1,.ptr H.n 0),(3,vA i),(4,.ptr (H.n+1) 0)]) (fun _=>((H.push (.cells (zp t) 24)).push (.cells zNode 38)).set (H.n+1) (.cells (za x) 38)) (fun _=>H.n) (fun _=>(BK x.rev&&decide (0<=x.deleted)&&decide (x.deleted<=1))=true/\∀j y,j+1=i->t.nodes[j]?=some y->RI y.rev x.rev<0) ?_ ?_
  ·simp -dsimp only[go_sem]
   refine JC _ ((CA (DW) (CA (ud) xA))) (by kernel_rfl) ?_
   simp -dsimp only[go_sem,bA,aA,cA,reduceCtorEq]
   cases k1:BK x.rev<;>simp -dsimp only[go_sem,bA,aA,cA,gA]
   ·exact AA (by omega) rfl (bad (by simp[TK,k1]))
   refine AB (fun k2=>?_) (fun k2=>?_)<;>simp -dsimp only[go_sem,bA,aA,cA,reduceCtorEq,k2]
   ·obtain⟨y,hy⟩:=zu (l:=t.nodes) (i:=i-1) (by omega)
    have e2:IntKind.i64.wrap ((i:Int)-1)=((i-1:Nat):Int):=by rw[zw (by omega) (by omega)];omega
    have e3:i-1<t.nodes.length:=by omega
    simp -dsimp only[go_sem,bA,aA,cA,reduceCtorEq,k2,e2,e3,z7 zg hy]
    refine AB (fun k3=>?_) (fun k3=>?_)<;>simp -dsimp only[go_sem,bA,aA,cA,reduceCtorEq,gA,k2,k3]
    ·exact AA (by omega) rfl (no fun _ _ g=>absurd (g (i-1) y x hy (by rw[show i-1+1=i by omega];exact hx)) (by omega))
    refine AB (fun k4=>?_) (fun k4=>?_)<;>simp -dsimp only[go_sem,bA,aA,cA,reduceCtorEq,gA,k2,k3,k4]
    ·exact AA (by omega) rfl (bad (by simp[TK,k1];omega))
    refine aB (fun k5=>?_) (fun k5=>?_)<;>simp -dsimp only[go_sem,bA,aA,cA,k2,k3,k4,k5]
    ·exact AA (by omega) rfl (bad (by simp[TK,k1];omega))
    refine zAg (some ()) ?_
    refine⟨by simp;omega,fun j y' hj hy'=>?_⟩
    obtain rfl:j=i-1:=by omega
    rw[hy] at hy'
    injection hy' with hy'
    subst hy'
    omega
   ·refine AB (fun k4=>?_) (fun k4=>?_)<;>simp -dsimp only[go_sem,bA,aA,cA,reduceCtorEq,gA,k2,k4]
    ·exact AA (by omega) rfl (bad (by simp[TK,k1];omega))
    refine aB (fun k5=>?_) (fun k5=>?_)<;>simp -dsimp only[go_sem,bA,aA,cA,gA,k2,k4,k5]
    ·exact AA (by omega) rfl (bad (by simp[TK,k1];omega))
    refine zAg (some ()) ?_
    exact⟨by simp;omega,fun j y' hj hy'=>by omega⟩
  rintro⟨⟩ ⟨ha,hc⟩
  refine DC zm (ι:=Unit) (fun _=>[(1,.ptr H.n 0),(3,vA i),(4,.ptr (H.n+1) 0)]) (fun _=>((H.push (.cells (zp t) 24)).push (.cells zNode 38)).set (H.n+1) (.cells (za x) 38)) (fun _=>H.n) (fun _=>L4 t.nodes x=true) ?_ ?_
  ·simp -dsimp only[go_sem,bA,aA,cA,reduceCtorEq,zf,zh]
   refine AB (fun k1=>?_) (fun k1=>?_)<;>simp -dsimp only[go_sem,bA,aA,cA,reduceCtorEq,k1]
   ·refine AB (fun k2=>?_) (fun k2=>?_)<;>simp -dsimp only[go_sem,bA,aA,cA,reduceCtorEq,k1,k2]
    ·exact AA (by omega) rfl (bad (by simp[TK,L4,k1,k2]))
    ·refine oB ?_
     refine Lc t x.parent hp _ _ ?_
     simp -dsimp only[go_sem,bA,aA,k1,k2]
     refine aB (fun k3=>?_) (fun k3=>?_)<;>simp -dsimp only[go_sem,bA,aA,cA,k1,k2,k3]
     ·exact AA (by omega) rfl (bad (by simp[TK,L4,k1];omega))
     ·refine zAg (some ()) ?_
      simp only[not_not] at *
      simp[L4,k2]
      omega
   ·refine zAg (some ()) ?_
    simp only[not_not] at *
    simp[L4,k1]
  rintro⟨⟩ hk
  refine LB zm ?_
  simp -dsimp only[go_sem,bA,aA,cA,reduceCtorEq,zf,zh]
  refine oB ?_
  refine Nc t x.rev hp _ _ ?_
  simp -dsimp only[go_sem,bA,aA]
  have nxt:RS mk t.nodes x=true->i+1<=t.nodes.length/\(∀j x y,j+1<i+1->t.nodes[j]?=some x->t.nodes[j+1]?=some y->RI x.rev y.rev<0)/\(t.nodes.take (i+1)).all (TK mk t.nodes)=true:=fun g=>by
   refine⟨h,fun j x' y' hj hx' hy'=>?_,VM hx hall (by rw[TK,ha,hk,g];rfl)⟩
   rcases RA (j+1) i with g2|g2
   ·exact hord j x' y' g2 hx' hy'
   ·obtain rfl:i=j+1:=by omega
    rw[hx] at hy';injection hy' with hy'
    subst hy'
    exact hc j x' rfl hx'
  cases k1:GM t.nodes x.rev<;>simp -dsimp only[go_sem,bA,aA,cA,reduceCtorEq]
  ·refine AB (fun k2=>?_) (fun k2=>?_)<;>simp -dsimp only[go_sem,bA,aA,cA,reduceCtorEq,k2]
   ·exact AA (by omega) rfl (bad (by simp[TK,RS,k1,k2]))
   refine oB ?_
   refine MCall.cv (args':=[.agg (zR x.body),.agg (zR .zero)]) (.two (.self _ (TL _)) (G3 _ _)) (uZ x.body .zero (hn x hxm).2 _ _ ?_)
   simp -dsimp only[go_sem,bA,aA,k2]
   refine BR.ndec (fun k3=>?_) (fun k3=>?_)<;>simp -dsimp only[go_sem,bA,aA,cA,k2,k3]
   ·exact AA (by omega) rfl (bad (by simp[TK,RS,k1,k3]))
   ·refine LB zm ?_
    simp -dsimp only[go_sem,bA,aA,cA]
    refine zAb (i+1) ?_
    simp only[not_not] at *
    exact nxt (by simp[RS,k1,k2,k3])
  ·refine oB ?_
   refine hM x.parent x.deleted x.body _ _ (hn x hxm).1 ?_
   simp -dsimp only[go_sem,bA,aA,cA,reduceCtorEq]
   refine AB (fun k2=>?_) (fun k2=>?_)<;>simp -dsimp only[go_sem,bA,aA,cA,k2]
   ·exact AA (by omega) rfl (bad (by simp[TK,RS,k1,k2]))
   refine AB (fun k3=>?_) (fun k3=>?_)<;>simp -dsimp only[go_sem,bA,aA,cA,reduceCtorEq,k2,k3]
   ·exact AA (by omega) rfl (bad (by simp[TK,RS,k1,k3]))
   refine aB (fun k4=>?_) (fun k4=>?_)<;>simp -dsimp only[go_sem,bA,aA,cA,k2,k3,k4]
   ·exact AA (by omega) rfl (bad (by simp[TK,RS,k1,k4]))
   ·refine LB zm ?_
    simp -dsimp only[go_sem,bA,aA,cA]
    refine zAb (i+1) ?_
    simp only[not_not] at *
    exact nxt (by simp[RS,k1,k2,k3,k4])
 ·have ho:KM t.nodes:=fun j x y hx hy=>hord j x y (by have:=(rA.1 hy).1;omega) hx hy
  refine PA zm ?_
  simp -dsimp only[go_sem,bA]
  refine sC zm (fun k:Nat=>[(1,.ptr H.n 0),(7,vA k)]) (fun k=>k<=t.nodes.length/\(t.nodes.take k).all (fun n=>fO t.nodes n.rev)=true) (fun k=>t.nodes.length-k) 0 ⟨KB _,rfl⟩ zSl ?_
  rintro k ⟨hk,hk2⟩
  simp -dsimp only[go_sem,bA,aA,zf,zh]
  refine aB (fun g=>?_) (fun g=>?_)<;>simp -dsimp only[go_sem,aA,g]
  ·obtain⟨x,hx⟩:=zu g
   refine JC _ ((CA (yd) xA)) (by kernel_rfl) ?_
   simp -dsimp only[go_sem,bA,aA,g,z7 zg hx,e_33 _ _ hp]
   refine BR.nspl (fun g2=>?_) (fun g2=>?_)<;>simp -dsimp only[go_sem,bA,aA,g2]
   ·refine AA (by omega) rfl ?_
    have:ZO mk t.nodes=false:=by rw[ZO,znZ hx (p:=fun n=>fO t.nodes n.rev) (by simpa using g2),QB]
    rw[this] at hQ;exact hQ
   ·refine zAg (k+1) ?_
    exact⟨g,VM hx hk2 (by simpa using g2)⟩
  ·refine LB zm ?_
   simp -dsimp only[go_sem,bA,aA]
   refine AA (by omega) rfl ?_
   have q1:=pN (i:=i) (by omega) hall
   have q2:=pN (i:=k) (by omega) hk2
   have:ZO mk t.nodes=true:=by
    simp only[ZO,h1,h2,ho,q1,q2,decide_true,Bool.and_true]
   rw[this] at hQ;exact hQ
end
section
open Go Go.Tw
open Classical
theorem Ik(n:Nat):IntKind.u32.wrap (n:Int)=((pB n).toNat:Int):=jg n
theorem O0(b:Nat):lH fA 153 (.ptr b 0) none (some (.lit (.int .i64 8))) none=some (.sl b 0 8 16 none):=by
 rw[zfm NE qN b 0 .i64 8 (by decide) (by decide)]
 rfl
theorem P0(b:Nat):lH fA 153 (.ptr b 0) (some (.lit (.int .i64 8))) none none=some (.sl b 8 8 8 none):=by
 rw[zjZ NE qN b 0 .i64 8 (by decide) (by decide)]
 rfl
theorem Ka{H:Heap}{b off n c b2 n2 c2:Nat}{o o2:Option Nat}{l m:List UInt32}{e e2:TypeId}(hb:H.get b=some (.cells (l.map qC) e))(hb2:H.get b2=some (.cells (m.map qC) e2))(hm:m.length=n)(hn:n<=n2)(hl:off+n<=l.length):
  xO fA H 155 (.sl b off n c o) (.sl b2 0 n2 c2 o2)=some ⟨.lit (.int .i64 (min n2 n:Nat)),H.set b (.cells ((l.take off++m++l.drop (off+n)).map qC) e),min b H.n⟩:=by
 subst hm
 have h0:min n2 m.length=m.length:=by omega
 refine P7 (m:=n2) Tryz.underlying155 qN rfl ?_ hb (RR m) (Ie hl)
 rw[h0,cells_sl hb2 hn (by simp)]
 rw[UA,wB,uA (by simp)]
@[go_sem] theorem zero_q:zE fA 161=some (oA 4 (vA 0)):=by kernel_rfl
theorem qQ(q:Nat×Nat×Nat×Nat):(CO q).length=4:=rfl
theorem LQ(q:Nat×Nat×Nat×Nat):(CO q).all V.one=true:=rfl
theorem tR(q:Nat×Nat×Nat×Nat):zD (oA 4 (vA 0)) 0 (CO q)=some (CO q):=DM _ _ rfl
theorem zoa(q:Nat×Nat×Nat×Nat):QE fA 161 (CO q) 0=some (.agg (CO q)):=Y1 YS rR rfl
def qs(m:List UInt32)(o:List Nat)(v:List UInt32):Nat->List UInt32
 | 0=>v
 | n+1=>XK (qs m o v n) (quadsW.getD n (0,0,0,0)) (m.getD (o.getD (2*n) 0) 0) (m.getD (o.getD (2*n+1) 0) 0)
theorem tQ(m:List UInt32)(o:List Nat)(v:List UInt32):∀n,(qs m o v n).length=v.length
 | 0=>rfl
 | n+1=>by rw[qs,BS,tQ m o v n]
theorem OW(m:List UInt32)(o:List Nat)(v:List UInt32):∀d n,n+d=8->p8 m o (qs m o v n) (quadsW.drop n) n=qs m o v 8
 | 0,n,h=>by
  obtain rfl:n=8:=by omega
  rfl
 | d+1,n,h=>by
  have hl:quadsW.length=8:=rfl
  have e:quadsW.drop n=quadsW.getD n (0,0,0,0)::quadsW.drop (n+1):=by
   rw[List.drop_eq_getElem_cons (by omega),DA,sA (by omega)]
   rfl
  rw[e]
  show p8 m o (qs m o v (n+1)) (quadsW.drop (n+1)) (n+1)=_
  exact OW m o v d (n+1) (by omega)
theorem pe(m:List UInt32)(o:List Nat)(v:List UInt32):qs m o v 8=Cg m v o:=(OW m o v 8 0 rfl).symm
@[go_sem] theorem Zf:zE fA 9=some [gE .empty]:=by kernel_rfl
def eL(m:List UInt32)(v:List UInt32)(n:Nat):List UInt32:=(ordersW.take n).foldl (Cg m) v
theorem rounds_succ(m:List UInt32)(v:List UInt32){n:Nat}(h:n<10):eL m v (n+1)=Cg m (eL m v n) (ordersW.getD n []):=by
 have hl:ordersW.length=10:=rfl
 have e:ordersW.take (n+1)=ordersW.take n++[ordersW.getD n []]:=by
  rw[yB,DA,sA (by omega)]
  rfl
 rw[eL,e,List.foldl_append]
 simp only[List.foldl_cons,List.foldl_nil,eL]
theorem Af(m v:List UInt32):∀n,n<=10->(eL m v n).length=v.length
 | 0,_=>rfl
 | n+1,h=>by rw[rounds_succ m v (by omega),Cg,zjp,Af m v n (by omega)]
theorem znp(h:List UInt32)(hh:h.length=8)(n:Nat)(last:Bool):(RL h n last).length=16:=by
 cases last<;>simp[RL,hh,d4]
def ZK(h v:List UInt32):Nat->List UInt32
 | 0=>h
 | i+1=>(ZK h v i).set i ((ZK h v i).getD i 0 ^^^ (v.getD i 0 ^^^ v.getD (i+8) 0))
theorem qX(h v:List UInt32):∀i,(ZK h v i).length=h.length
 | 0=>rfl
 | i+1=>by rw[ZK,qB,qX h v i]
theorem zmu(h v:List UInt32)(hh:h.length=8):∀i j,j<8->(ZK h v i).getD j 0=if j<i then h.getD j 0 ^^^ (v.getD j 0 ^^^ v.getD (j+8) 0) else h.getD j 0
 | 0,j,hj=>by simp[ZK]
 | i+1,j,hj=>by
  rw[ZK]
  by_cases e:i=j
  ·subst e
   rw[DA,KD,if_pos rfl,if_pos (by rw[qX,hh];exact hj),if_pos (by omega),zmu h v hh i i hj,if_neg (by omega)]
   rfl
  ·rw[DA,KD,if_neg e,<-DA,zmu h v hh i j hj]
   have:(j<i+1)=(j<i):=by simp only[eq_iff_iff];omega
   simp only[this]
theorem XP(h v:List UInt32)(hh:h.length=8):ZK h v 8=(CB 8).map fun i=>h.getD i 0 ^^^ (v.getD i 0 ^^^ v.getD (i+8) 0):=by
 refine uI (by rw[qX,hh];simp) fun k hk hk2=>?_
 have h8:k<8:=by rw[qX,hh] at hk;exact hk
 have:=zmu h v hh 8 k h8
 rw[if_pos h8,DA,sA hk] at this
 simpa using this
structure MixI(H X:Heap)(h m v:List UInt32):Prop where
 n:H.n+5<=X.n
 h:X.get H.n=some (.cells (h.map qC) 125)
 r:X.get (H.n+1)=some (.cells ((oA 8 (0:UInt32)).map qC) 125)
 m:X.get (H.n+3)=some (.cells (m.map qC) 153)
 v:X.get (H.n+4)=some (.cells (v.map qC) 153)
theorem MixI.of{H X Y:Heap}{h m v u:List UInt32}(k:MixI H X h m v)(hn:X.n<=Y.n)(hv:Y.get (H.n+4)=some (.cells (u.map qC) 153))(ho:∀j,j<H.n+4->Y.get j=X.get j):MixI H Y h m u:=
 ⟨cB k.n hn,by rw[ho _ (by omega),k.h],by rw[ho _ (by omega),k.r],by rw[ho _ (by omega),k.m],hv⟩
theorem rW(h:List UInt32)(hh:h.length=8)(b:List UInt8)(hb:b.length=64)(n:Nat)(last:Bool)(H:Heap)(Q:OR->Prop)(hQ:Q ⟨.agg ((oL h b n last).map qC),H,H.n⟩):MCall Cx 117 [.agg (h.map qC),NB zT b,TC n,.lit (.bool last)] H Q:=by
 refine mB (fn:=Tryz.f117) Tryz.func117 rfl (by decide) (k:=87) rfl (rs:=[.cell 8 125]) rfl ?_
 refine PA zm ?_
 simp -dsimp only[go_sem,bA,cA,reduceCtorEq,gA]
 refine PA zm ?_
 simp -dsimp only[go_sem,bA]
 refine aD _ ((CA (FQ) xA)) ?_
 simp -dsimp only[go_sem,bA,aA,cA,reduceCtorEq,Qa]
 refine oB ?_
 refine sc b hb _ _ ?_
 simp -dsimp only[go_sem,bA,aA,cA,reduceCtorEq,bC,RR,yM (l:=ivW) (m:=oA 8 0) rfl,yM (l:=UL b) (m:=oA 16 0) (Y6 b),d4,Y6]
 refine PA zm ?_
 simp -dsimp only[go_sem,bA,cA]
 generalize hX:((((((H.push (.cells (h.map qC) 125)).push (.cells ((oA 8 (0:UInt32)).map qC) 125)).push (.cells ((oA 8 (0:UInt32)).map qC) 125)).push (.cells ((oA 16 (0:UInt32)).map qC) 153)).set (H.n+2) (.cells (ivW.map qC) 125)).set (H.n+3) (.cells ((UL b).map qC) 153)).push (.cells ((oA 16 (0:UInt32)).map qC) 153)=X
 have xn:X.n=H.n+5:=by rw[<-hX];simp -dsimp only[go_sem,cA]
 have M0:MixI H X h (UL b) (oA 16 0):=by
  refine⟨by omega,?_,?_,?_,?_⟩<;>(rw[<-hX];simp -dsimp only[go_sem,bA,aA,cA,reduceCtorEq])
 have xiv:X.get (H.n+2)=some (.cells (ivW.map qC) 125):=by rw[<-hX];simp -dsimp only[go_sem,bA,aA,cA,reduceCtorEq]
 clear hX
 refine yC ?_
 refine BD zm 2 (by decide) (by kernel_rfl) ?_
 dsimp only[NA,iB]
 refine JC _ xA (by kernel_rfl) ?_
 simp -dsimp only[go_sem,bA,aA,reduceCtorEq,O0]
 refine rB (Ka M0.v M0.h hh (by omega) (by simp)) ?_
 simp -dsimp only[go_sem,gA]
 have M1:MixI H (X.set (H.n+4) (.cells ((kJ 0 (oA 16 (0:UInt32))++h++jJ (0+8) (oA 16 (0:UInt32))).map qC) 153)) h (UL b) (h++oA 8 0):=M0.of (by rw[kA];omega) (by rw[dA,if_pos ⟨rfl,by omega⟩];rfl) (fun j hj=>by rw[dA,if_neg (fun g=>absurd g.1 (by omega))])
 have xiv1:(X.set (H.n+4) (.cells ((kJ 0 (oA 16 (0:UInt32))++h++jJ (0+8) (oA 16 (0:UInt32))).map qC) 153)).get (H.n+2)=some (.cells (ivW.map qC) 125):=by rw[dA,if_neg (fun g=>absurd g.1 (by omega)),xiv]
 have x1n:(X.set (H.n+4) (.cells ((kJ 0 (oA 16 (0:UInt32))++h++jJ (0+8) (oA 16 (0:UInt32))).map qC) 153)).n=H.n+5:=by rw[kA,xn]
 generalize X.set (H.n+4) (.cells ((kJ 0 (oA 16 (0:UInt32))++h++jJ (0+8) (oA 16 (0:UInt32))).map qC) 153)=X1 at M1 xiv1 x1n
 clear M0 xiv
 refine WW.keep [(2,TC n),(3,.lit (.bool last)),(4,.ptr H.n 0),(8,.ptr (H.n+1) 0),(9,.ptr (H.n+2) 0),(10,.ptr (H.n+3) 0),(11,.ptr (H.n+4) 0)] zSl ?_
 refine yC ?_
 refine BD zm 2 (by decide) (by kernel_rfl) ?_
 dsimp only[NA,iB]
 refine JC _ xA (by kernel_rfl) ?_
 simp -dsimp only[go_sem,bA,aA,zf,zh,P0]
 refine rB (Ka M1.v xiv1 d4 (by omega) (by rw[qA,hh];simp)) ?_
 simp -dsimp only[go_sem,cA,gA]
 have hrow:kJ 8 (h++oA 8 (0:UInt32))++ivW++jJ (8+8) (h++oA 8 (0:UInt32))=h++ivW:=by
  rw[jB (by omega),uA (by omega),uC (by rw[qA,hh];simp),MA]
 rw[hrow]
 have M2:MixI H (X1.set (H.n+4) (.cells ((h++ivW).map qC) 153)) h (UL b) (h++ivW):=M1.of (by rw[kA];omega) (by rw[dA,if_pos ⟨rfl,by omega⟩]) (fun j hj=>by rw[dA,if_neg (fun g=>absurd g.1 (by omega))])
 have x2n:(X1.set (H.n+4) (.cells ((h++ivW).map qC) 153)).n=H.n+5:=by rw[kA,x1n]
 generalize X1.set (H.n+4) (.cells ((h++ivW).map qC) 153)=X2 at M2 x2n
 have lv:(h++ivW).length=16:=by rw[qA,hh];rfl
 generalize hv:h++ivW=v at M2 lv
 clear M1 xiv1 hrow
 refine WW.keep [(2,TC n),(3,.lit (.bool last)),(4,.ptr H.n 0),(8,.ptr (H.n+1) 0),(10,.ptr (H.n+3) 0),(11,.ptr (H.n+4) 0)] zSl ?_
 refine PA zm ?_
 simp -dsimp only[go_sem,bA,aA,zf,zh,M2.v,BG (l:=v) (i:=12) (by omega),Ik n]
 refine rB (by rw[YK (l:=v) (i:=12) _ (by omega)];rfl) ?_
 simp -dsimp only[go_sem,aA]
 have M3:=M2.of (Y:=X2.set (H.n+4) (.cells ((v.set 12 (v.getD 12 0 ^^^ pB n)).map qC) 153)) (by rw[kA];omega) (by rw[dA,if_pos ⟨rfl,by omega⟩]) (fun j hj=>by rw[dA,if_neg (fun g=>absurd g.1 (by omega))])
 have x3n:(X2.set (H.n+4) (.cells ((v.set 12 (v.getD 12 0 ^^^ pB n)).map qC) 153)).n=H.n+5:=by rw[kA,x2n]
 generalize X2.set (H.n+4) (.cells ((v.set 12 (v.getD 12 0 ^^^ pB n)).map qC) 153)=X3 at M3 x3n
 generalize hv2:v.set 12 (v.getD 12 0 ^^^ pB n)=v2 at M3
 have lv2:v2.length=16:=by rw[<-hv2,qB,lv]
 clear M2
 refine PA zm ?_
 have e32:(n:Int).fdiv (2 ^ (min (32:Int).toNat 64))=((n / 4294967296:Nat):Int):=by
  show(n:Int).fdiv (((2 ^ 32:Nat)):Int)=_
  rw[Int.fdiv_eq_ediv_of_nonneg _ (by omega)]
  rfl
 simp -dsimp only[go_sem,bA,aA,M3.v,BG (l:=v2) (i:=13) (by omega),e32,Ik (n / 4294967296),Int.reduceLT]
 refine rB (by rw[YK (l:=v2) (i:=13) _ (by omega)];rfl) ?_
 simp -dsimp only[go_sem,aA]
 have M4:=M3.of (Y:=X3.set (H.n+4) (.cells ((v2.set 13 (v2.getD 13 0 ^^^ pB (n / 4294967296))).map qC) 153)) (by rw[kA];omega) (by rw[dA,if_pos ⟨rfl,by omega⟩]) (fun j hj=>by rw[dA,if_neg (fun g=>absurd g.1 (by omega))])
 have x4n:(X3.set (H.n+4) (.cells ((v2.set 13 (v2.getD 13 0 ^^^ pB (n / 4294967296))).map qC) 153)).n=H.n+5:=by rw[kA,x3n]
 generalize X3.set (H.n+4) (.cells ((v2.set 13 (v2.getD 13 0 ^^^ pB (n / 4294967296))).map qC) 153)=X4 at M4 x4n
 generalize hv3:v2.set 13 (v2.getD 13 0 ^^^ pB (n / 4294967296))=v3 at M4
 have lv3:v3.length=16:=by rw[<-hv3,qB,lv2]
 clear M3
 refine DC zm (ι:=Heap) (fun _=>[(4,.ptr H.n 0),(8,.ptr (H.n+1) 0),(10,.ptr (H.n+3) 0),(11,.ptr (H.n+4) 0)]) (fun p=>p) (fun _=>H.n) (fun p=>MixI H p h (UL b) (RL h n last)) ?_ ?_
 ·have hr:∀q,q=(if last then v3.set 14 (0xffffffff ^^^ v3.getD 14 0) else v3)->q=RL h n last:=fun q hq=>by
   rw[hq,<-hv3,<-hv2,<-hv];rfl
  cases last
  ·simp -dsimp only[go_sem,bA,aA]
   refine zAg (some X4) ?_
   dsimp only
   rw[<-hr v3 rfl]
   exact M4
  ·simp -dsimp only[go_sem,bA,aA,M4.v,BG (l:=v3) (i:=14) (by omega)]
   refine rB (by rw[YK (l:=v3) (i:=14) _ (by omega)];rfl) ?_
   simp -dsimp only[go_sem,aA]
   have M5:=M4.of (Y:=X4.set (H.n+4) (.cells ((v3.set 14 (0xffffffff ^^^ v3.getD 14 0)).map qC) 153)) (by rw[kA];omega) (by rw[dA,if_pos ⟨rfl,by omega⟩]) (fun j hj=>by rw[dA,if_neg (fun g=>absurd g.1 (by omega))])
   refine zAg (some (X4.set (H.n+4) (.cells ((v3.set 14 (0xffffffff ^^^ v3.getD 14 0)).map qC) 153))) ?_
   dsimp only
   rw[<-hr _ rfl]
   exact M5
 intro Y MY
 clear M4 hv hv2 hv3 lv lv2 lv3 v v2 v3 x4n x3n x2n x1n xn
 clear e32
 generalize hm0:UL b=m at MY
 have lm:m.length=16:=by rw[<-hm0,Y6]
 generalize hv0:RL h n last=v0 at MY
 have lv0:v0.length=16:=by rw[<-hv0,znp h hh]
 have yn:=MY.n
 refine DC zm (ι:=Heap) (fun _=>[(4,.ptr H.n 0),(8,.ptr (H.n+1) 0),(11,.ptr (H.n+4) 0)]) (fun p=>p) (fun _=>H.n) (fun p=>MixI H p h m (eL m v0 10)) ?_ ?_
 ·simp -dsimp only[go_sem,bA]
  refine aD _ ((CA (LZ) xA)) ?_
  simp -dsimp only[go_sem,bA,zf,zh]
  refine dD (ι:=Nat×Heap) (fun p=>[(4,.ptr H.n 0),(8,.ptr (H.n+1) 0),(10,.ptr (H.n+3) 0),(11,.ptr (H.n+4) 0),(44,uL),(45,vA p.1)]) (fun p=>p.2) (fun _=>H.n) (fun p=>p.1<=10/\MixI H p.2 h m (eL m v0 p.1)) (fun p=>10-p.1) (0,Y) ⟨by omega,MY⟩ ?_ ?_
  ·refine(MB (lo2:=H.n) (by omega)).trans (RB _ zSl)
  rintro⟨i,Z⟩ ⟨hi,MZ⟩
  simp only at hi MZ ⊢
  have zn:=MZ.n
  refine PA zm ?_
  simp -dsimp only[go_sem,bA,aA,zf,zh]
  refine PA zm ?_
  simp -dsimp only[go_sem,aA]
  refine aB (fun g=>?_) (fun g=>?_)<;>simp -dsimp only[go_sem,g]
  ·have hi10:i<10:=by omega
   refine yC ?_
   refine MD ?_
   refine PA zm ?_
   simp -dsimp only[go_sem,bA,aA,UZ i hi10]
   generalize ho:ordersW.getD i []=o
   generalize hZ1:(Z.push (.cells [gE .empty] 9)).set Z.n (.cells [gE (NL o)] 9)=Z1
   have z1n:Z1.n=Z.n+1:=by rw[<-hZ1,kA,iA]
   have z1s:Z1.get Z.n=some (.cells [gE (NL o)] 9):=by rw[<-hZ1,dA,if_pos ⟨rfl,by rw[iA];omega⟩]
   have z1o:∀j,j<Z.n->Z1.get j=Z.get j:=fun j hj=>by rw[<-hZ1,dA,if_neg (fun h=>absurd h.1 (by omega)),zj j hj]
   clear hZ1
   refine PA zm ?_
   simp -dsimp only[go_sem,bA]
   refine aD _ ((CA (NZ) xA)) ?_
   simp -dsimp only[go_sem]
   refine MD ?_
   refine WW.keep [(4,.ptr H.n 0),(8,.ptr (H.n+1) 0),(10,.ptr (H.n+3) 0),(11,.ptr (H.n+4) 0),(13,.ptr Z.n 0),(44,uL),(45,vA i),(48,.fn (.func 152) [] [])] zSl ?_
   refine Hk rfl (first:=[]) (cap:=[]) (by simp -dsimp only[go_sem,aA,zf,zh]) Tryz.func152 rfl (by decide) fun A B hA hB=>?_
   generalize hT0:jH [(4,.ptr H.n 0),(8,.ptr (H.n+1) 0),(10,.ptr (H.n+3) 0),(11,.ptr (H.n+4) 0),(13,.ptr Z.n 0),(44,uL),(45,vA i),(48,.fn (.func 152) [] [])]=T0
   have t10:PD T0 10=.ptr (H.n+3) 0:=by rw[<-hT0];simp -dsimp only[go_sem,aA,zf,zh]
   have t11:PD T0 11=.ptr (H.n+4) 0:=by rw[<-hT0];simp -dsimp only[go_sem,aA,zf,zh]
   have t13:PD T0 13=.ptr Z.n 0:=by rw[<-hT0];simp -dsimp only[go_sem,aA,zf,zh]
   have ol:∀j<16,(NL o).data.toList[j]?=some (YT (o.getD j 0)):=by rw[<-ho];exact vU i hi10
   have olt:∀j<16,o.getD j 0<16:=by rw[<-ho];exact RQ i hi10
   have lr:(eL m v0 i).length=16:=by rw[Af m v0 i hi,lv0]
   generalize hrv:eL m v0 i=rv at MZ lr
   refine Gc (.yld Z1.n) H.n (fun k X=>X.get Z1.n=some (.loop (lI 87 T0) [49,50] A B .ready none)/\X.get Z.n=some (.cells [gE (NL o)] 9)/\MixI H X h m (qs m o rv k)/\Z1.n<X.n) ⟨?_,?_⟩ _ ?_ ?_ _ ?_
   ·rintro k X hk ⟨x1,x2,x3,x4⟩ Q' hgo
    have lq:(qs m o rv k).length=16:=by rw[tQ,lr]
    obtain⟨c0,c1,c2,c3⟩:=EU k hk
    have n3:=x3.n
    generalize hqq:quadsW.getD k (0,0,0,0)=qq at c0 c1 c2 c3
    refine MVal.round2 x1 (by rw[eV];decide) (by rw[eV];decide) [(10,.ptr (H.n+3) 0),(11,.ptr (H.n+4) 0),(13,.ptr Z.n 0),(49,vA k),(50,.agg (CO qq))] ?_ ?_
    ·simp only[List.forall_mem_cons,JA,false_implies,implies_true,and_true,Vj,I2 (show 10<87 by decide),I2 (show 11<87 by decide),I2 (show 13<87 by decide),t10,t11,t13]
     simp
    rw[eV,hA]
    refine LB zm ?_
    simp -dsimp only[go_sem,bA,aA,gA,zf,zh,qQ,LQ,tR]
    generalize hX1:(X.push (.cells (oA 4 (vA 0)) 161)).set X.n (.cells (CO qq) 161)=X1'
    have a1:X1'.n=X.n+1:=by rw[<-hX1,kA,iA]
    have a2:X1'.get X.n=some (.cells (CO qq) 161):=by rw[<-hX1,dA,if_pos ⟨rfl,by rw[iA];omega⟩]
    have a3:∀j,j<X.n->X1'.get j=X.get j:=fun j hj=>by rw[<-hX1,dA,if_neg (fun h=>absurd h.1 (by omega)),zj j hj]
    clear hX1
    refine⟨rfl,lI 87 T0,[49,50],A,B,none,by rw[a3 _ x4,x1],?_⟩
    dsimp only
    generalize hX2:X1'.set Z1.n (.loop (lI 87 T0) [49,50] A B .busy none)=X2'
    have b1:X2'.n=X.n+1:=by rw[<-hX2,kA,a1]
    have b2:X2'.get Z1.n=some (.loop (lI 87 T0) [49,50] A B .busy none):=by rw[<-hX2,dA,if_pos ⟨rfl,by omega⟩]
    have b3:∀j,j<X.n->j≠Z1.n->X2'.get j=X.get j:=fun j hj hjn=>by rw[<-hX2,dA,if_neg (fun h=>hjn h.1),a3 j hj]
    have b4:X2'.get X.n=some (.cells (CO qq) 161):=by rw[<-hX2,dA,if_neg (fun h=>absurd h.1 (by omega)),a2]
    have c4:X2'.get Z.n=some (.cells [gE (NL o)] 9):=by rw[b3 _ (by omega) (by omega),x2]
    have c5:X2'.get (H.n+3)=some (.cells (m.map qC) 153):=by rw[b3 _ (by omega) (by omega),x3.m]
    have c6:X2'.get (H.n+4)=some (.cells ((qs m o rv k).map qC) 153):=by rw[b3 _ (by omega) (by omega),x3.v]
    clear hX2
    rw[hB]
    refine MD ?_
    refine BD zm 16 (by decide) (by kernel_rfl) ?_
    dsimp only[NA,iB]
    refine JC _ ((CA (OZ) xA)) (by kernel_rfl) ?_
    have w1:IntKind.i64.wrap (2*(k:Int))=((2*k:Nat):Int):=by rw[zw (by omega) (by omega)];omega
    have w2:IntKind.i64.wrap (((2*k:Nat):Int)+1)=((2*k+1:Nat):Int):=PR (by omega)
    have r1:=olt (2*k) (by omega)
    have r2:=olt (2*k+1) (by omega)
    simp -dsimp only[go_sem,bA,aA,b4,c4,c5,zoa,w1,w2,ol (2*k) (by omega),ol (2*k+1) (by omega),znh _ r1,znh _ r2,r1,r2,wB,bB,BG (l:=m) (i:=o.getD (2*k) 0) (by omega),BG (l:=m) (i:=o.getD (2*k+1) 0) (by omega)]
    refine oB ?_
    simp -dsimp only[go_sem]
    refine yc (qs m o rv k) lq qq c0 c1 c2 c3 _ _ (H.n+4) _ X2' c6 _ fun W lo hWn hWv hWo hlo=>?_
    simp -dsimp only[go_sem]
    have hs:XK (qs m o rv k) qq (m.getD (o.getD (2*k) 0) 0) (m.getD (o.getD (2*k+1) 0) 0)=qs m o rv (k+1):=by rw[qs,hqq]
    rw[hs] at hWv
    refine⟨lI 87 T0,[49,50],A,B,.busy,none,by rw[hWo _ (by omega) (by omega),b2],?_⟩
    dsimp only[eS,YR,uN]
    have wo:∀j,j<X.n->j≠Z1.n->j≠H.n+4->(W.set Z1.n (.loop (lI 87 T0) [49,50] A B .ready none)).get j=X.get j:=fun j h1 h2 h3=>by
     rw[dA,if_neg (fun h=>h2 h.1),hWo j (by omega) h3,b3 j h1 h2]
    refine hgo _ _ ⟨by rw[dA,if_pos ⟨rfl,by omega⟩],?_,?_,by rw[kA];omega⟩ (by omega) (by rw[kA];omega)
    ·rw[wo _ (by omega) (by omega) (by omega),x2]
    ·exact x3.of (by rw[kA];omega) (by rw[dA,if_neg (fun h=>absurd h.1 (by omega)),hWv]) fun j hj=>wo j (by omega) (by omega) (by omega)
   ·rintro k X B1 B2 ⟨x1,x2,x3,x4⟩ _
    have n3:=x3.n
    have wo:∀j,j<X.n->((X.push B1).set X.n B2).get j=X.get j:=fun j hj=>by rw[dA,if_neg (fun h=>absurd h.1 (by omega)),zj j hj]
    exact⟨by rw[wo _ (by omega),x1],by rw[wo _ (by omega),x2],x3.of (by rw[kA,iA];omega) (by rw[wo _ (by omega),x3.v]) fun j hj=>wo j (by omega),by rw[kA,iA];omega⟩
   ·have wo:∀j,j<Z.n->(Z1.push (.loop (lI 87 T0) [49,50] A B .ready none)).get j=Z.get j:=fun j hj=>by rw[zj j (by omega),z1o j hj]
    exact⟨by rw[yA,if_pos rfl],by rw[zj _ (by omega),z1s],MZ.of (by rw[iA];omega) (by rw[wo _ (by omega),MZ.v];rfl) fun j hj=>wo j (by omega),by rw[iA];omega⟩
   ·rw[iA];omega
   ·rintro X lo ⟨x1,x2,x3,x4⟩ hlo
    subst hT0
    refine⟨_,_,_,_,.ready,none,x1,by decide,?_⟩
    dsimp only
    simp -dsimp only[go_sem,zf,zh]
    refine LB zm ?_
    simp -dsimp only[go_sem,bA,aA]
    have n3:=x3.n
    refine zAg (i+1,X.set Z1.n (.loop (lI 87 (jH [(4,.ptr H.n 0),(8,.ptr (H.n+1) 0),(10,.ptr (H.n+3) 0),(11,.ptr (H.n+4) 0),(13,.ptr Z.n 0),(44,uL),(45,vA i),(48,.fn (.func 152) [] [])])) [49,50] A B .exhausted none)) ?_
    dsimp only
    have hr:eL m v0 (i+1)=qs m o rv 8:=by rw[rounds_succ m v0 hi10,ho,hrv,pe]
    refine⟨by omega,x3.of (by rw[kA];omega) ?_ fun j hj=>by rw[dA,if_neg (fun h=>absurd h.1 (by omega))]⟩
    rw[dA,if_neg (fun h=>absurd h.1 (by omega)),x3.v,hr]
  ·obtain rfl:i=10:=by omega
   refine zAg (some Z) ?_
   exact MZ
 ·intro Z MZ
  have zn:=MZ.n
  have lr:(eL m v0 10).length=16:=by rw[Af m v0 10 (by omega),lv0]
  have hfin:(CB 8).map (fun i=>h.getD i 0 ^^^ ((eL m v0 10).getD i 0 ^^^ (eL m v0 10).getD (i+8) 0))=oL h b n last:=by
   rw[oL,hm0,hv0]
   rfl
  rw[<-XP h _ hh] at hfin
  generalize hrv:eL m v0 10=v at MZ lr hfin
  refine DC zm (ι:=Heap) (fun _=>[(4,.ptr H.n 0),(8,.ptr (H.n+1) 0)]) (fun p=>p) (fun _=>H.n) (fun p=>MixI H p (ZK h v 8) m v) ?_ ?_
  ·simp -dsimp only[go_sem,bA,zf,zh]
   refine dD (ι:=Nat×Heap) (fun p=>[(4,.ptr H.n 0),(8,.ptr (H.n+1) 0),(11,.ptr (H.n+4) 0),(69,vA p.1)]) (fun p=>p.2) (fun _=>H.n) (fun p=>p.1<=8/\MixI H p.2 (ZK h v p.1) m v) (fun p=>8-p.1) (0,Z) ⟨by omega,MZ⟩ ?_ ?_
   ·refine(MB (lo2:=H.n) (by omega)).trans (RB _ zSl)
   rintro⟨i,X⟩ ⟨hi,MX⟩
   simp only at hi MX ⊢
   have xn:=MX.n
   have lf:(ZK h v i).length=8:=by rw[qX,hh]
   refine PA zm ?_
   simp -dsimp only[go_sem,bA,aA,zf,zh]
   refine PA zm ?_
   simp -dsimp only[go_sem,aA]
   refine aB (fun g=>?_) (fun g=>?_)<;>simp -dsimp only[go_sem,g]
   ·have hi8:i<8:=by omega
    have hi16:i<16:=by omega
    have hi16':i+8<16:=by omega
    have w1:IntKind.i64.wrap ((i:Int)+8)=((i+8:Nat):Int):=by rw[zw (by omega) (by omega)];omega
    refine yC ?_
    refine MD ?_
    refine PA zm ?_
    simp -dsimp only[go_sem,bA,aA]
    refine BD zm 12 (by decide) (by kernel_rfl) ?_
    dsimp only[NA,iB]
    refine JC _ xA (by kernel_rfl) ?_
    simp -dsimp only[go_sem,bA,aA,MX.h,MX.v,hi8,hi16,hi16',w1,wB,bB,BG (l:=ZK h v i) (i:=i) (by omega),BG (l:=v) (i:=i) (by omega),BG (l:=v) (i:=i+8) (by omega)]
    refine rB (by rw[YK (l:=ZK h v i) (i:=i) _ (by omega)];rfl) ?_
    simp -dsimp only[go_sem]
    refine LB zm ?_
    simp -dsimp only[go_sem,bA,aA]
    refine zAg (i+1,X.set H.n (.cells ((ZK h v (i+1)).map qC) 125)) ?_
    dsimp only
    have wo:∀B j,j≠H.n->(X.set H.n B).get j=X.get j:=fun B j hj=>by rw[dA,if_neg (fun h=>hj h.1)]
    exact⟨by omega,⟨by rw[kA];omega,by rw[dA,if_pos ⟨rfl,by omega⟩],by rw[wo _ _ (by omega),MX.r],by rw[wo _ _ (by omega),MX.m],by rw[wo _ _ (by omega),MX.v]⟩⟩
   ·obtain rfl:i=8:=by omega
    refine zAg (some X) ?_
    exact MX
  ·intro X MX
   have xn:=MX.n
   have x1:(H.n+1=H.n)=False:=by simp
   have lf:(ZK h v 8).length=8:=by rw[qX,hh]
   refine LB zm ?_
   have hlt:H.n+1<X.n:=by omega
   simp -dsimp only[go_sem,bA,aA,zf,zh,MX.h,MX.r,zo0 lf,bC,lf,RR,yM (l:=ZK h v 8) (m:=oA 8 0) (by rw[lf];rfl),hlt]
   rw[hfin]
   exact AA (by omega) (o7 _) hQ
end
end Go.Proofs.YtookdinfaoelaaaGreatDoor
