/- Own work for this claim, part 10 of 17. No condition of its own. -/
import Derived.Test.YtookdinfaoelaaaGreatDoorX08
import Derived.Lib.ItoaNum
import Derived.Test.YtookdinfaoelaaaGreatDoorX07
set_option linter.all false
set_option maxRecDepth 100000
set_option maxHeartbeats 4000000
open BitVec renaming ofInt→EB
open Bool renaming and_eq_true→wA,false_eq_true→ZA,true_eq→dK
open Go.Lib renaming compareBytes→fB,itoa→xE
open Go.Proofs.Tryz renaming f38→LG,func155→EI,func38→fF,prog→fA,underlying153→NE,underlying161→wG,underlying22→FA,underlying33→OB,underlying34→iC,underlying47→GB,underlying5→pD,underlying76→TA,underlying9→cD
open Go.Tw.BR renaming dec→aB
open Go.Tw.GV renaming kind→TF,size_mem→WE,wf_list→YF,wf_mem→NF
open Go.Tw.Heap renaming get_push→yA,get_set→dA,n_push→iA,n_set→kA,pushes→wC
open Go.Tw.MCall renaming of→QA,ofW→mB
open Go.Tw.MV renaming fn→oB
open Go.Tw.OO renaming intro→rB
open Go.Tw.Res renaming bf→AA,fz→HC,same→nB
open Go.Tw.Sub renaming keep→RB,lower→MB
open Go.Tw.Tab.OK renaming cons→CA,nil→xA
open Go.Tw.V renaming one→HB
open Go.Tw.WW renaming bar→BD,cut→DC,loopW→dD,seq→yC,sq→PA,still→sC,vc→LB
open Int renaming reduceLE→tH,reduceLT→BF
open List renaming all_eq_true→gB,append_assoc→XA,append_nil→MA,drop_drop→JE,drop_eq_getElem_cons→DB,drop_of_length_le→uC,drop_zero→UA,filter_append→KE,filter_eq_self→jG,getD_eq_getElem?_getD→DA,getElem?_eq_getElem→sA,getElem?_eq_some_iff→rA,getElem?_map→uB,getElem?_range'→ZI,length→PB,length_append→qA,length_cons→HA,length_eq_zero_iff→WA,length_map→bC,length_nil→SA,length_range'→JJ,length_set→qB,length_take→JB,map_cons→NC,mem_cons→IB,mem_of_getElem?→IA,mem_range'_1→dI,nodup_range'→lK,range'→bG,replicate→oA,set_eq_take_append_cons_drop→OC,take_add_one→yB,take_append_drop→eC,take_append_of_le_length→jB,take_length→FB,take_of_length_le→uA,take_succ_cons→NA,take_zero→iB
open Nat renaming le_of_eq→vH,le_refl→jA,lt_irrefl→VG,min_self→gA,mul_one→wB,reduceAdd→cA,reduceEqDiff→aA,reduceLT→bA,succ_mul→IG,zero_le→KB
open Option renaming bind_eq_bind→pA,bind_some→KA
open UInt8 renaming lt_iff_toNat_lt→SF
namespace Go.Proofs.YtookdinfaoelaaaGreatDoor
section
open Go Go.Tw
open Classical
def EJ(obj:Bool)(ks:List ByteArray)(ts:List (List UInt8)):Nat->List UInt8
 | 0=>[]
 | i+1=>EJ obj ks ts i++((if i=0 then [] else [44])++((if obj then pJ (ks.getD i .empty)++[58] else [])++ts.getD i []))
mutual
def ED:GV->List UInt8
 | .mk k n t l ks=>
  if k=1 then [102,97,108,115,101] else if k=2 then [116,114,117,101] else if k=3 then xE n else if k=4 then pJ t
  else if k=5 then 91::(EJ false ks (wL l) l.length++[93]) else if k=6 then 123::(EJ true ks (wL l) l.length++[125]) else [110,117,108,108]
def wL:List GV->List (List UInt8)
 | []=>[]
 | v::vs=>ED v::wL vs
end
theorem s7:∀l:List GV,wL l=l.map ED
 | []=>rfl
 | v::vs=>by rw[wL,s7 vs];rfl
theorem zgY(obj:Bool)(ks:List ByteArray)(ts:List (List UInt8)):∀(i n:Nat),i<=n->(EJ obj ks ts i).length<=(EJ obj ks ts n).length
 | i,0,h=>by obtain rfl:i=0:=(by omega);exact jA _
 | i,n+1,h=>by
  rcases Nat.lt_or_ge n i with h1|h1
  ·obtain rfl:i=n+1:=by omega
   exact jA _
  ·have:=zgY obj ks ts i n h1
   rw[EJ,qA];omega
mutual
def GN:GV->Prop
 | .mk k n t l ks=>(-9223372036854775808<=n/\n<=9223372036854775807)/\G8 l
def G8:List GV->Prop
 | []=>True
 | v::vs=>GN v/\G8 vs
end
theorem zk6:∀{l:List GV},G8 l->∀x∈l,GN x
 | [],_,x,hx=>by cases hx
 | v::vs,h,x,hx=>by
  rcases IB.1 hx with rfl|hx
  ·exact h.1
  ·exact zk6 h.2 x hx
theorem zng{v:GV}(h:GN v):-9223372036854775808<=v.num/\v.num<=9223372036854775807:=by cases v;exact h.1
theorem zj8{v:GV}(h:GN v):∀x∈v.list,GN x:=by cases v;exact zk6 h.2
def bP:Prop:=∀(s:List UInt8) (b:Nat) (n:Int) (H:Heap) (Q:OR->Prop),-9223372036854775808<=n->n<=9223372036854775807->(s≠[]->H.get b=some (.cells (row zT s) 5))->s.length+(xE n).length<=1048576->
 (∀X k lo,TJ H b s X k (s++xE n)->lob H b s<=lo->Q ⟨iH (s++xE n) k,X,lo⟩)->MCall Cx 94 [iH s b,vA n,vA 10] H Q
def edges:V:=.agg [gE .empty,gE .empty,gE .empty,gE .empty,gE .empty,gE ⟨#[91,93]⟩,gE ⟨#[123,125]⟩]
@[go_sem] theorem dW:fL fA 123 [(5,.lit (.string ⟨#[91,93]⟩)),(6,.lit (.string ⟨#[123,125]⟩))]=some edges:=by kernel_rfl
@[go_sem] theorem Gh:vN fA 123 edges (.lit (.int .i64 5))=some (gE ⟨#[91,93]⟩):=by kernel_rfl
@[go_sem] theorem Hh:vN fA 123 edges (.lit (.int .i64 6))=some (gE ⟨#[123,125]⟩):=by kernel_rfl
@[go_sem] theorem edg_50:vN fA 9 (gE ⟨#[91,93]⟩) (.lit (.int .i64 0))=some (PE 91):=by kernel_rfl
@[go_sem] theorem edg_51:vN fA 9 (gE ⟨#[91,93]⟩) (.lit (.int .i64 1))=some (PE 93):=by kernel_rfl
@[go_sem] theorem edg_60:vN fA 9 (gE ⟨#[123,125]⟩) (.lit (.int .i64 0))=some (PE 123):=by kernel_rfl
@[go_sem] theorem edg_61:vN fA 9 (gE ⟨#[123,125]⟩) (.lit (.int .i64 1))=some (PE 125):=by kernel_rfl
theorem CZ(hAI:bP)(v:GV)(d:Int)(hs:nJ v d=true)(hw:v.wf)(hnu:GN v)(s:List UInt8)(b:Nat)(H:Heap)(hb:s≠[]->H.get b=some (.cells (row zT s) 5))(hsm:s.length+(ED v).length<=1048576)(Q:OR->Prop)(hQ:∀X k lo,TJ H b s X k (s++ED v)->lob H b s<=lo->Q ⟨iH (s++ED v) k,X,lo⟩):
  MCall Cx 70 [iH s b,.agg (zR v)] H Q:=by
 have hrec:∀x∈v.list,nJ x (d-1)=true->∀(s:List UInt8) (b:Nat) (H:Heap),(s≠[]->H.get b=some (.cells (row zT s) 5))->s.length+(ED x).length<=1048576->∀(Q:OR->Prop),(∀X k lo,TJ H b s X k (s++ED x)->lob H b s<=lo->Q ⟨iH (s++ED x) k,X,lo⟩)->MCall Cx 70 [iH s b,.agg (zR x)] H Q:=fun x hmx h s b H hb hsm Q hQ=>CZ hAI x (d-1) h (NF hw x hmx) (zj8 hnu x hmx) s b H hb hsm Q hQ
 refine mB (fn:=Tryz.f70) Tryz.func70 rfl (by decide) (k:=78) rfl (rs:=[.tmp 4]) rfl ?_
 have hl0:=t8 H b s
 have hnum:=zng hnu
 rw[vf] at hs
 simp only[wA,decide_eq_true_eq] at hs
 obtain⟨⟨⟨hd,hf⟩,hk⟩,hall⟩:=hs
 refine PA zm ?_
 simp -dsimp only[go_sem,bA,cA,reduceCtorEq,gA]
 refine PA zm ?_
 have hb0:s≠[]->(H.push (.cells (zR v) 36)).get b=some (.cells (row zT s) 5):=fun h=>by rw[zj _ (zq (hb h))];exact hb h
 have hpre:∀{X:Heap} {k:Nat} {t:List UInt8},TJ (H.push (.cells (zR v) 36)) b s X k t->TJ H b s X k t:=fun hB=>hB.pre (by rw[iA];omega) zj (by
  by_cases e:s=[]
  ·exact .inl e
  ·exact .inr (zq (hb e)))
 have hl1:lob H b s<=lob (H.push (.cells (zR v) 36)) b s:=znm
 by_cases k1:v.kind=1
 ·have ht:ED v=[102,97,108,115,101]:=by cases v;simp[TF] at k1;simp[ED,k1]
  rw[ht] at hQ hsm
  simp -dsimp only[go_sem,bA,aA,reduceCtorEq,k1]
  refine Rg hb0 (by decide) hsm fun X k lo hB hlo=>?_
  have hn:=hB.n
  rw[iA] at hn
  simp -dsimp only[go_sem,bA,aA,reduceCtorEq]
  exact nB (hQ X k _ (hpre hB) (by omega))
 by_cases k2:v.kind=2
 ·have ht:ED v=[116,114,117,101]:=by cases v;simp[TF] at k2;simp[ED,k2]
  rw[ht] at hQ hsm
  simp -dsimp only[go_sem,bA,aA,reduceCtorEq,k2]
  refine Rg hb0 (by decide) hsm fun X k lo hB hlo=>?_
  have hn:=hB.n
  rw[iA] at hn
  simp -dsimp only[go_sem,bA,aA,reduceCtorEq]
  exact nB (hQ X k _ (hpre hB) (by omega))
 by_cases k3:v.kind=3
 ·have ht:ED v=xE v.num:=by cases v;simp[TF] at k3;simp[ED,k3,GV.num]
  rw[ht] at hQ hsm
  simp -dsimp only[go_sem,bA,aA,reduceCtorEq,k3]
  refine oB ?_
  simp -dsimp only[go_sem,bA,aA,reduceCtorEq]
  refine hAI s b v.num _ _ hnum.1 hnum.2 hb0 hsm fun X k lo hB hlo=>?_
  have hn:=hB.n
  rw[iA] at hn
  simp -dsimp only[go_sem]
  exact nB (hQ X k _ (hpre hB) (by omega))
 by_cases k4:v.kind=4
 ·have ht:ED v=pJ v.text:=by cases v;simp[TF] at k4;simp[ED,k4,GV.text]
  rw[ht] at hQ hsm
  simp -dsimp only[go_sem,bA,aA,reduceCtorEq,k4]
  refine oB ?_
  simp -dsimp only[go_sem,bA,aA,reduceCtorEq]
  refine fd s b v.text _ hb0 hsm _ fun X k lo hB hlo=>?_
  have hn:=hB.n
  rw[iA] at hn
  simp -dsimp only[go_sem]
  exact nB (hQ X k _ (hpre hB) (by omega))
 by_cases k0:v.kind≠5/\v.kind≠6
 ·have ht:ED v=[110,117,108,108]:=by cases v;simp[TF] at *;simp[ED, *]
  rw[ht] at hQ hsm
  simp -dsimp only[go_sem,bA,aA,reduceCtorEq,k1,k2,k3,k4,k0.1,k0.2]
  refine LB zm ?_
  simp -dsimp only[go_sem,bA,aA,reduceCtorEq]
  refine Rg hb0 (by decide) hsm fun X k lo hB hlo=>?_
  have hn:=hB.n
  rw[iA] at hn
  simp -dsimp only[go_sem,bA,aA,reduceCtorEq]
  exact nB (hQ X k _ (hpre hB) (by omega))
 have h56:v.kind=5\/v.kind=6:=by omega
 have key:∃(obj:Bool) (o c:UInt8),obj=decide (v.kind=6)/\ED v=o::(EJ obj v.keys (v.list.map ED) v.list.length++[c])/\(v.kind=5/\o=91/\c=93\/v.kind=6/\o=123/\c=125):=by
  have e:∀l:List GV,(wL l).length=l.length:=fun l=>by rw[s7,bC]
  rcases h56 with h|h
  ·refine⟨false,91,93,by rw[h];rfl,?_,.inl ⟨h,rfl,rfl⟩⟩
   cases v with
   | mk k n t l ks=>
    have h:k=5:=h
    subst h
    simp[ED,GV.keys,GV.list,s7]
  ·refine⟨true,123,125,by rw[h];rfl,?_,.inr ⟨h,rfl,rfl⟩⟩
   cases v with
   | mk k n t l ks=>
    have h:k=6:=h
    subst h
    simp[ED,GV.keys,GV.list,s7]
 obtain⟨obj,o,c,hobj,ht,hoc⟩:=key
 have hpl:TJ (H.push (.cells (zR v) 36)) b s (H.push (.cells (zR v) 36)) b s:=Bf.refl hb0
 have hlen:∀i,i<=v.list.length->s.length+1+(EJ obj v.keys (v.list.map ED) i).length+1<=1048576:=fun i hi=>by
  have:=zgY obj v.keys (v.list.map ED) i v.list.length hi
  rw[ht] at hsm
  simp only[HA,qA,SA] at hsm
  omega
 have hkeys:v.kind=6->v.keys.length=v.list.length:=fun h=>by
  have:=hf
  unfold z8 at this
  simp only[h,wA,Bool.or_eq_true,decide_eq_true_eq,ne_eq,not_true_eq_false,decide_false,ZA,false_or] at this
  exact this.1.2
 have hHn:s=[]\/b<H.n:=by
  by_cases e:s=[]
  ·exact .inl e
  ·exact .inr (zq (hb e))
 rcases hoc with⟨k5,rfl,rfl⟩|⟨k6,rfl,rfl⟩
 ·have hob:obj=false:=by rw[hobj,k5];rfl
  subst hob
  simp -dsimp only[go_sem,bA,aA,reduceCtorEq,k5]
  refine rM 91 rfl hb0 (by have:=hlen 0 (KB _);omega) fun X0 k0 lo0 hB0 hlo0=>?_
  have n0:=hB0.n
  rw[iA] at n0
  have l0:=hB0.lob
  have hg0:X0.get H.n=some (.cells (zR v) 36):=by
   rw[hB0.old H.n (by rw[iA];omega) (hHn.elim .inr fun h=>.inl (by omega)),yA,if_pos rfl]
  simp -dsimp only[go_sem,bA,aA,reduceCtorEq,hg0]
  refine dD (ι:=Nat×List UInt8×Heap×Nat) (fun p=>[(0,iH p.2.1 p.2.2.2),(3,.ptr H.n 0),(5,gE ⟨#[91,93]⟩),(43,NB zR v.list),(44,vA v.list.length),(45,vA p.1)]) (fun p=>p.2.2.1) (fun _=>lob H b s)
   (fun p=>p.1<=v.list.length/\p.2.1=s++91::EJ false v.keys (v.list.map ED) p.1/\TJ (H.push (.cells (zR v) 36)) b s p.2.2.1 p.2.2.2 p.2.1) (fun p=>v.list.length-p.1) (0,s++[91],X0,k0) ⟨by simp,rfl,hB0⟩ ?_ ?_
  ·refine(MB (lo2:=lob H b s) (by omega)).trans (RB _ zSl)
  rintro⟨i,t,X,k⟩ ⟨hi,htt,hB⟩
  simp only at hi htt hB ⊢
  have hle:=YF hw
  have hn:=hB.n
  rw[iA] at hn
  have hlX:=hB.lob
  have hgX:X.get H.n=some (.cells (zR v) 36):=by
   rw[hB.old H.n (by rw[iA];omega) (hHn.elim .inr fun h=>.inl (by omega)),yA,if_pos rfl]
  have htn:t≠[]:=by rw[htt];simp
  have hk:=hB.cell htn
  have hkn:=zq hk
  have hkH:k≠H.n:=by
   rcases hB.new with⟨h1,h2⟩|h1
   ·have:=congrArg PB (h2.symm.trans htt)
    simp at this
   ·rw[iA] at h1;omega
  have htl:t.length=s.length+1+(EJ false v.keys (v.list.map ED) i).length:=by rw[htt];simp;omega
  refine PA zm ?_
  simp -dsimp only[go_sem,bA,aA,reduceCtorEq,zf,zh]
  refine PA zm ?_
  simp -dsimp only[go_sem,aA,reduceCtorEq]
  refine aB (fun h=>?_) (fun h=>?_)<;>simp -dsimp only[go_sem,bA,aA,reduceCtorEq,h]
  ·obtain⟨x,hx⟩:=zu h
   have hmx:=IA hx
   have hlen1:=hlen (i+1) h
   have hjs:EJ false v.keys (v.list.map ED) (i+1)=EJ false v.keys (v.list.map ED) i++((if i=0 then [] else [44])++((if false then pJ (v.keys.getD i .empty)++[58] else [])++ED x)):=by
    rw[EJ,DA (l:=v.list.map ED),uB,hx];rfl
   rw[hjs] at hlen1
   simp only[qA] at hlen1
   refine yC ?_
   refine WW.blk ?_
   refine PA zm ?_
   simp -dsimp only[go_sem,bA,aA,reduceCtorEq,h,z7 zF hx]
   generalize hX1:(X.push (.cells zV 36)).set X.n (.cells (zR x) 36)=X1
   have a1:X1.n=X.n+1:=by rw[<-hX1,kA,iA]
   have a2:X1.get X.n=some (.cells (zR x) 36):=by rw[<-hX1,dA,if_pos ⟨rfl,by rw[iA];omega⟩]
   have a3:∀j,j<X.n->X1.get j=X.get j:=fun j hj=>by rw[<-hX1,dA,if_neg (fun h=>absurd h.1 (by omega)),zj j hj]
   have hB1:TJ (H.push (.cells (zR v) 36)) b s X1 k t:=hB.skip (by omega) a3
   have hl1:=hB1.lob
   refine DC zm (ι:=List UInt8×Heap×Nat) (fun p=>[(0,iH p.1 p.2.2),(3,.ptr H.n 0),(5,gE ⟨#[91,93]⟩),(6,vA i),(7,.ptr X.n 0),(43,NB zR v.list),(44,vA v.list.length),(45,vA i)]) (fun p=>p.2.1) (fun _=>lob H b s)
    (fun p=>p.1=t++(if i=0 then [] else [44])/\TJ X1 k t p.2.1 p.2.2 p.1) ?_ ?_
   ·simp -dsimp only[go_sem,bA,aA,reduceCtorEq]
    refine aB (fun g=>?_) (fun g=>?_)<;>simp -dsimp only[go_sem,bA,aA,reduceCtorEq,g]
    ·have hi0:i≠0:=by omega
     rw[if_neg hi0] at hlen1
     simp only[HA,SA] at hlen1
     refine rM 44 rfl hB1.cell (by omega) fun Y l lo1 hBy hlo1=>?_
     have ny:=hBy.n
     simp -dsimp only[go_sem,bA,aA,reduceCtorEq]
     refine zAg (some (t++[44],Y,l)) ?_
     exact⟨by rw[if_neg hi0],hBy⟩
    ·have hi0:i=0:=by omega
     refine zAg (some (t,X1,k)) ?_
     exact⟨by rw[if_pos hi0,MA],Bf.refl hB1.cell⟩
   rintro⟨u,Y,l⟩ ⟨hu,hBy⟩
   simp only at hu hBy ⊢
   have ny:=hBy.n
   have b1:Y.get X.n=some (.cells (zR x) 36):=by rw[hBy.old X.n (by omega) (.inl (by omega)),a2]
   have b2:Y.get H.n=some (.cells (zR v) 36):=by rw[hBy.old H.n (by omega) (.inl (by omega)),a3 _ (by omega),hgX]
   have hun:u≠[]:=by rw[hu];simp[htn]
   have hly:=hBy.lob
   refine DC zm (ι:=List UInt8×Heap×Nat) (fun p=>[(0,iH p.1 p.2.2),(3,.ptr H.n 0),(5,gE ⟨#[91,93]⟩),(6,vA i),(7,.ptr X.n 0),(43,NB zR v.list),(44,vA v.list.length),(45,vA i)]) (fun p=>p.2.1) (fun _=>lob H b s)
    (fun p=>p.1=u++(if false then pJ (v.keys.getD i .empty)++[58] else [])/\TJ Y l u p.2.1 p.2.2 p.1) ?_ ?_
   ·simp -dsimp only[go_sem,bA,aA,reduceCtorEq,zf,zh,b2,k5]
    refine zAg (some (u,Y,l)) ?_
    exact⟨by simp,Bf.refl hBy.cell⟩
   rintro⟨w,Z,m⟩ ⟨hw',hBz⟩
   simp only at hw' hBz ⊢
   have nz:=hBz.n
   have hlX:l≠X.n:=by rcases hBy.new with⟨h1,h2⟩|h1<;>omega
   have c1:Z.get X.n=some (.cells (zR x) 36):=by rw[hBz.old X.n (by omega) (.inl (Ne.symm hlX)),b1]
   have hlz:=hBz.lob
   have hwl:w.length+(ED x).length<=1048576:=by
    rw[hw',hu]
    simp only[qA]
    omega
   refine LB zm ?_
   simp -dsimp only[go_sem,bA,aA,reduceCtorEq,zf,zh,c1]
   refine oB ?_
   simp -dsimp only[go_sem,bA,aA,reduceCtorEq]
   refine hrec x hmx (gB.1 hall x hmx) w m Z hBz.cell hwl _ fun Z2 m2 lo2 hB2 hlo2=>?_
   have nz2:=hB2.n
   simp -dsimp only[go_sem]
   refine LB zm ?_
   simp -dsimp only[go_sem,bA,aA,reduceCtorEq]
   refine zAg (i+1,w++ED x,Z2,m2) ?_
   dsimp only
   refine⟨h,?_,hB1.trans (hBy.trans (hBz.trans hB2))⟩
   rw[hw',hu,htt,hjs]
   simp
  ·refine rM 93 rfl hB.cell (by have:=hlen i hi;omega) fun Y l lo1 hBy hlo1=>?_
   have ny:=hBy.n
   simp -dsimp only[go_sem,bA,aA,reduceCtorEq]
   have e:t++[93]=s++ED v:=by
    rw[ht,htt,show i=v.list.length by omega]
    simp
   rw[e] at hBy ⊢
   exact nB (hQ Y l _ (hpre (hB.trans hBy)) (by omega))
 ·have hob:obj=true:=by rw[hobj,k6];rfl
  subst hob
  simp -dsimp only[go_sem,bA,aA,reduceCtorEq,k6]
  refine rM 123 rfl hb0 (by have:=hlen 0 (KB _);omega) fun X0 k0 lo0 hB0 hlo0=>?_
  have n0:=hB0.n
  rw[iA] at n0
  have l0:=hB0.lob
  have hg0:X0.get H.n=some (.cells (zR v) 36):=by
   rw[hB0.old H.n (by rw[iA];omega) (hHn.elim .inr fun h=>.inl (by omega)),yA,if_pos rfl]
  simp -dsimp only[go_sem,bA,aA,reduceCtorEq,hg0]
  refine dD (ι:=Nat×List UInt8×Heap×Nat) (fun p=>[(0,iH p.2.1 p.2.2.2),(3,.ptr H.n 0),(5,gE ⟨#[123,125]⟩),(43,NB zR v.list),(44,vA v.list.length),(45,vA p.1)]) (fun p=>p.2.2.1) (fun _=>lob H b s)
   (fun p=>p.1<=v.list.length/\p.2.1=s++123::EJ true v.keys (v.list.map ED) p.1/\TJ (H.push (.cells (zR v) 36)) b s p.2.2.1 p.2.2.2 p.2.1) (fun p=>v.list.length-p.1) (0,s++[123],X0,k0) ⟨by simp,rfl,hB0⟩ ?_ ?_
  ·refine(MB (lo2:=lob H b s) (by omega)).trans (RB _ zSl)
  rintro⟨i,t,X,k⟩ ⟨hi,htt,hB⟩
  simp only at hi htt hB ⊢
  have hle:=YF hw
  have hn:=hB.n
  rw[iA] at hn
  have hlX:=hB.lob
  have hgX:X.get H.n=some (.cells (zR v) 36):=by
   rw[hB.old H.n (by rw[iA];omega) (hHn.elim .inr fun h=>.inl (by omega)),yA,if_pos rfl]
  have htn:t≠[]:=by rw[htt];simp
  have hk:=hB.cell htn
  have hkn:=zq hk
  have hkH:k≠H.n:=by
   rcases hB.new with⟨h1,h2⟩|h1
   ·have:=congrArg PB (h2.symm.trans htt)
    simp at this
   ·rw[iA] at h1;omega
  have htl:t.length=s.length+1+(EJ true v.keys (v.list.map ED) i).length:=by rw[htt];simp;omega
  refine PA zm ?_
  simp -dsimp only[go_sem,bA,aA,reduceCtorEq,zf,zh]
  refine PA zm ?_
  simp -dsimp only[go_sem,aA,reduceCtorEq]
  refine aB (fun h=>?_) (fun h=>?_)<;>simp -dsimp only[go_sem,bA,aA,reduceCtorEq,h]
  ·obtain⟨x,hx⟩:=zu h
   have hmx:=IA hx
   have hlen1:=hlen (i+1) h
   have hjs:EJ true v.keys (v.list.map ED) (i+1)=EJ true v.keys (v.list.map ED) i++((if i=0 then [] else [44])++((if true then pJ (v.keys.getD i .empty)++[58] else [])++ED x)):=by
    rw[EJ,DA (l:=v.list.map ED),uB,hx];rfl
   rw[hjs] at hlen1
   simp only[qA] at hlen1
   refine yC ?_
   refine WW.blk ?_
   refine PA zm ?_
   simp -dsimp only[go_sem,bA,aA,reduceCtorEq,h,z7 zF hx]
   generalize hX1:(X.push (.cells zV 36)).set X.n (.cells (zR x) 36)=X1
   have a1:X1.n=X.n+1:=by rw[<-hX1,kA,iA]
   have a2:X1.get X.n=some (.cells (zR x) 36):=by rw[<-hX1,dA,if_pos ⟨rfl,by rw[iA];omega⟩]
   have a3:∀j,j<X.n->X1.get j=X.get j:=fun j hj=>by rw[<-hX1,dA,if_neg (fun h=>absurd h.1 (by omega)),zj j hj]
   have hB1:TJ (H.push (.cells (zR v) 36)) b s X1 k t:=hB.skip (by omega) a3
   have hl1:=hB1.lob
   refine DC zm (ι:=List UInt8×Heap×Nat) (fun p=>[(0,iH p.1 p.2.2),(3,.ptr H.n 0),(5,gE ⟨#[123,125]⟩),(6,vA i),(7,.ptr X.n 0),(43,NB zR v.list),(44,vA v.list.length),(45,vA i)]) (fun p=>p.2.1) (fun _=>lob H b s)
    (fun p=>p.1=t++(if i=0 then [] else [44])/\TJ X1 k t p.2.1 p.2.2 p.1) ?_ ?_
   ·simp -dsimp only[go_sem,bA,aA,reduceCtorEq]
    refine aB (fun g=>?_) (fun g=>?_)<;>simp -dsimp only[go_sem,bA,aA,reduceCtorEq,g]
    ·have hi0:i≠0:=by omega
     rw[if_neg hi0] at hlen1
     simp only[HA,SA] at hlen1
     refine rM 44 rfl hB1.cell (by omega) fun Y l lo1 hBy hlo1=>?_
     have ny:=hBy.n
     simp -dsimp only[go_sem,bA,aA,reduceCtorEq]
     refine zAg (some (t++[44],Y,l)) ?_
     exact⟨by rw[if_neg hi0],hBy⟩
    ·have hi0:i=0:=by omega
     refine zAg (some (t,X1,k)) ?_
     exact⟨by rw[if_pos hi0,MA],Bf.refl hB1.cell⟩
   rintro⟨u,Y,l⟩ ⟨hu,hBy⟩
   simp only at hu hBy ⊢
   have ny:=hBy.n
   have b1:Y.get X.n=some (.cells (zR x) 36):=by rw[hBy.old X.n (by omega) (.inl (by omega)),a2]
   have b2:Y.get H.n=some (.cells (zR v) 36):=by rw[hBy.old H.n (by omega) (.inl (by omega)),a3 _ (by omega),hgX]
   have hun:u≠[]:=by rw[hu];simp[htn]
   have hly:=hBy.lob
   refine DC zm (ι:=List UInt8×Heap×Nat) (fun p=>[(0,iH p.1 p.2.2),(3,.ptr H.n 0),(5,gE ⟨#[123,125]⟩),(6,vA i),(7,.ptr X.n 0),(43,NB zR v.list),(44,vA v.list.length),(45,vA i)]) (fun p=>p.2.1) (fun _=>lob H b s)
    (fun p=>p.1=u++(if true then pJ (v.keys.getD i .empty)++[58] else [])/\TJ Y l u p.2.1 p.2.2 p.1) ?_ ?_
   ·simp -dsimp only[go_sem,bA,aA,reduceCtorEq,zf,zh,b2,k6]
    have hkl:v.keys.length=v.list.length:=hkeys k6
    obtain⟨y,hy⟩:=zu (l:=v.keys) (i:=i) (by omega)
    have hik:i<v.keys.length:=by omega
    simp -dsimp only[go_sem,bA,aA,reduceCtorEq,hik,z7 zC hy]
    have hky:v.keys.getD i .empty=y:=by rw[DA,hy];rfl
    rw[hky] at hlen1
    simp only[if_true,qA,HA,SA] at hlen1
    refine oB ?_
    simp -dsimp only[go_sem,bA,aA,reduceCtorEq]
    have hul:u.length=t.length+(if i=0 then([]:List UInt8) else [44]).length:=by rw[hu,qA]
    refine fd u l y Y hBy.cell (by omega) _ fun Y2 l2 lo2 hq hlo2=>?_
    have n2:=hq.n
    have l2':=hq.lob
    simp -dsimp only[go_sem]
    refine rM 58 rfl hq.cell (by rw[qA];omega) fun Y3 l3 lo3 hq3 hlo3=>?_
    have n3:=hq3.n
    simp -dsimp only[go_sem,bA,aA,reduceCtorEq]
    refine zAg (some (u++pJ y++[58],Y3,l3)) ?_
    exact⟨by rw[hky];simp,hq.trans hq3⟩
   rintro⟨w,Z,m⟩ ⟨hw',hBz⟩
   simp only at hw' hBz ⊢
   have nz:=hBz.n
   have hlX:l≠X.n:=by rcases hBy.new with⟨h1,h2⟩|h1<;>omega
   have c1:Z.get X.n=some (.cells (zR x) 36):=by rw[hBz.old X.n (by omega) (.inl (Ne.symm hlX)),b1]
   have hlz:=hBz.lob
   have hwl:w.length+(ED x).length<=1048576:=by
    rw[hw',hu]
    simp only[qA]
    omega
   refine LB zm ?_
   simp -dsimp only[go_sem,bA,aA,reduceCtorEq,zf,zh,c1]
   refine oB ?_
   simp -dsimp only[go_sem,bA,aA,reduceCtorEq]
   refine hrec x hmx (gB.1 hall x hmx) w m Z hBz.cell hwl _ fun Z2 m2 lo2 hB2 hlo2=>?_
   have nz2:=hB2.n
   simp -dsimp only[go_sem]
   refine LB zm ?_
   simp -dsimp only[go_sem,bA,aA,reduceCtorEq]
   refine zAg (i+1,w++ED x,Z2,m2) ?_
   dsimp only
   refine⟨h,?_,hB1.trans (hBy.trans (hBz.trans hB2))⟩
   rw[hw',hu,htt,hjs]
   simp
  ·refine rM 125 rfl hB.cell (by have:=hlen i hi;omega) fun Y l lo1 hBy hlo1=>?_
   have ny:=hBy.n
   simp -dsimp only[go_sem,bA,aA,reduceCtorEq]
   have e:t++[125]=s++ED v:=by
    rw[ht,htt,show i=v.list.length by omega]
    simp
   rw[e] at hBy ⊢
   exact nB (hQ Y l _ (hpre (hB.trans hBy)) (by omega))
termination_by SizeOf.sizeOf v
decreasing_by exact WE hmx
end
section
open Go Go.Tw
open Classical
theorem Qc(l:List GNode)(hl:l.length<=1048576)(H:Heap)(Q:OR->Prop)(hQ:∀X k lo,Gw H X->H.n<=lo->(l≠[]->H.n<=k/\X.get k=some (.cells (row za l) 38))->Q ⟨XH 41 l k,X,lo⟩):MCall Cx 38 [NB za l] H Q:=by
 have e1:∀cs n,jE fA .eql 22 (.ps cs n) (.lit (.slice none 0 0))=some (.lit (.bool false)):=W3 FA
 have e2:jE fA .eql 22 .void (.lit (.slice none 0 0))=some (.lit (.bool false)):=V2 FA
 have e3:jE fA .eql 22 (.lit (.slice none 0 0)) (.lit (.slice none 0 0))=some (.lit (.bool true)):=P3 FA
 have e4:∀H,zx fA H 22 0 []=some ⟨.sl H.n 0 0 0 none,H.push (.cells [] 38),H.n⟩:=fun H=>KS FA NK FN
 refine MCall.pn (fun h0 _=>?_) (fun h0 _=>?_) ?_
 ·have hl0:l=[]:=WA.1 h0
  subst hl0
  refine QA zm (fn:=LG) fF rfl (by decide) (k:=8) rfl (rs:=[.tmp 2]) rfl ?_
  simp -dsimp only[go_sem,bA,aA,reduceCtorEq]
  simp -dsimp only[go_sem,bA,aA,reduceCtorEq,gA,e3]
  exact HC (.pn [] 0) (by omega) .nil (hQ H 0 H.n .refl (jA _) fun h=>absurd rfl h)
 ·have hl0:l=[]:=WA.1 h0
  subst hl0
  refine QA zm (fn:=LG) fF rfl (by decide) (k:=8) rfl (rs:=[.tmp 2]) rfl ?_
  simp -dsimp only[go_sem,bA,aA,reduceCtorEq]
  simp -dsimp only[go_sem,bA,aA,reduceCtorEq,e2,e4]
  refine rB (gM (n:=0) (new:=[]) FA FA (by intro q h;cases h) QO FN XO rfl rfl rfl rfl (by omega)) ?_
  simp -dsimp only[go_sem,bA,aA,reduceCtorEq,gA]
  exact HC (.pn [] 0) (by omega) (Fz.slice 0 (jA _) (by simp -dsimp only[go_sem];rfl) (jA _) rfl rfl) (hQ H 0 H.n .refl (jA _) fun h=>absurd rfl h)
 ·refine QA zm (fn:=LG) fF rfl (by decide) (k:=8) rfl (rs:=[.tmp 2]) rfl ?_
  simp -dsimp only[go_sem,bA,aA,reduceCtorEq]
  simp -dsimp only[go_sem,bA,aA,reduceCtorEq,e1,e4]
  refine rB (gM (n:=l.length) (new:=row za l) FA FA (by intro q h;cases h) QO FN XO rfl ?_ (mL VN _) (zr zg l) hl) ?_
  ·show(if _ then _ else _)=_
   rw[if_pos ⟨jA _,by rw[zr zg];exact jA _⟩,<-zr zg l,FB]
  by_cases h0:l.length=0
  ·have hl0:l=[]:=WA.1 h0
   subst hl0
   simp -dsimp only[go_sem,bA,aA,reduceCtorEq,gA,h0]
   exact HC (.pn [] 0) (by omega) (Fz.slice 0 (jA _) (by simp -dsimp only[go_sem];rfl) (jA _) rfl rfl) (hQ H 0 H.n .refl (jA _) fun h=>absurd rfl h)
  ·have hne:l≠[]:=fun h=>h0 (by rw[h];rfl)
   simp -dsimp only[go_sem,bA,aA,cA,reduceCtorEq,gA,h0]
   have:=hQ ((H.push (.cells [] 38)).push (.cells (row za l) 38)) (H.n+1) H.n (Gw.push.trans .push) (jA _) fun _=>⟨by omega,by simp -dsimp only[go_sem,reduceCtorEq]⟩
   rw[XH,if_neg hne] at this
   exact nB this
end
end Go.Proofs.YtookdinfaoelaaaGreatDoor
namespace Go.Tw
theorem RNs.of{f:Nat->Option Nat}{Z:Nat->Prop}{H:Heap}{vs us:List V}(h:QL f Z H vs us):RNs f Z H vs us:=fun _ _ _ _ _ _ _ _ G cs hv=>bS G vs us cs h hv
theorem RNs.self{f:Nat->Option Nat}{Z:Nat->Prop}{H:Heap}{vs:List V}(h:QF vs=true):RNs f Z H vs vs:=.of (CX vs h)
theorem RNs.append{f:Nat->Option Nat}{Z:Nat->Prop}{H:Heap}:∀{vs us xs ys:List V},RNs f Z H vs us->RNs f Z H xs ys->vs.length=us.length->RNs f Z H (vs++xs) (us++ys):=by
 intro vs us xs ys h1 h2 hl z s s2 d d2 pr pr2 w G cs hv
 obtain⟨as0,bs,rfl,k1,k2⟩:∃as0 bs,cs=as0++bs/\VRs z s d pr w vs as0/\VRs z s d pr w xs bs:=by
  clear h1 h2 hl
  induction vs generalizing cs with
  | nil=>exact⟨[],cs,rfl,rfl,hv⟩
  | cons v vs ih=>
   obtain⟨c,cs',e,k1,k2⟩:=hv
   obtain⟨as0,bs,rfl,k3,k4⟩:=ih _ k2
   exact⟨c::as0,bs,by rw[e];rfl,⟨c,as0,rfl,k1,k3⟩,k4⟩
 exact VRs.append (h1 z s s2 d d2 pr pr2 w G as0 k1) (h2 z s s2 d d2 pr pr2 w G bs k2)
theorem zp9{n m b:Nat}:RK n (bG n m) b=pI (n+m) b:=by
 unfold RK pI
 by_cases h:b<n
 ·rw[if_pos h,if_pos (by omega)]
 ·rw[if_neg h]
  cases e:(bG n m).idxOf? b with
  | none=>
   rw[if_neg]
   ·rfl
   ·intro hb
    have:b∈bG n m:=dI.2 ⟨by omega,hb⟩
    rw[List.idxOf?_eq_none_iff] at e
    exact e this
  | some i=>
   have:=(j2 _ b i lK).1 e
   have hi:=(rA.1 this).1
   rw[JJ] at hi
   rw[ZI hi] at this
   injection this with this
   rw[if_pos (by omega)]
   show some (n+i)=some b
   congr 1
   omega
theorem Sub.frz{C:Ctx}{nt:Nat}{ro:Option Nat}{H0:Heap}{T:Tr V}{H':Heap}{lo':Nat}(Bs:List Blk)(l:List (Nat×V))(hn:H0.n+Bs.length<=H'.n)(he:∀b,b<H0.n->H'.get b=H0.get b)(hlo:H0.n<=lo')(hro:∀b,ro=some b->b<H0.n)
  (hB:∀(i:Nat) (B:Blk),Bs[i]?=some B->∃B',H'.get (H0.n+i)=some B'/\RNb (pI (H0.n+Bs.length)) (fun b=>H0.n+Bs.length<=b) H' B' B)
  (hl:∀p∈l,RN (pI (H0.n+Bs.length)) (fun b=>H0.n+Bs.length<=b) H' (PD T p.1) p.2):Sub C nt ro H0 ⟨T,H',lo'⟩ ⟨jH l,wC H0 Bs,H0.n⟩:=by
 have eF:RK H0.n (bG H0.n Bs.length)=pI (H0.n+Bs.length):=funext fun b=>zp9
 have eZ:(fun b=>H0.n<=b/\b ∉ bG H0.n Bs.length)=fun b=>H0.n+Bs.length<=b:=by
  funext b
  rw[dI]
  apply propext
  omega
 refine Sub.moves2 H0 (bG H0.n Bs.length) Bs H0.n l .refl lK (fun k hk=>by rw[dI] at hk;omega) (by simp) (by omega) he (fun i k B h1 h2=>?_) hlo (jA _) hlo (fun _ _=>rfl) hro (by rw[eF,eZ];exact hl)
 have hi:=(rA.1 h1).1
 rw[JJ] at hi
 rw[ZI hi] at h1
 injection h1 with h1
 obtain⟨B',h3,h4⟩:=hB i B h2
 refine⟨B',by rw[<-h1,Nat.one_mul];exact h3,?_⟩
 rw[eF,eZ]
 exact h4
theorem RNb.one{f:Nat->Option Nat}{Z:Nat->Prop}{H:Heap}{cs:List V}{e:TypeId}(h:QF cs=true):RNb f Z H (.cells cs e) (.cells cs e):=RNb.cells rfl (.self h)
theorem WW.frz{C:Ctx}{nt:Nat}{ro:Option Nat}{H0:Heap}{c:Code}{T:Tr V}{H':Heap}{lo':Nat}{Q:Ex->St->Prop}{h:Hid (c,Q)}(Bs:List Blk)(l:List (Nat×V))(hn:H0.n+Bs.length<=H'.n)(he:∀b,b<H0.n->H'.get b=H0.get b)(hlo:H0.n<=lo')(hro:∀b,ro=some b->b<H0.n)
  (hB:∀(i:Nat) (B:Blk),Bs[i]?=some B->∃B',H'.get (H0.n+i)=some B'/\RNb (pI (H0.n+Bs.length)) (fun b=>H0.n+Bs.length<=b) H' B' B)
  (hl:∀p∈l,RN (pI (H0.n+Bs.length)) (fun b=>H0.n+Bs.length<=b) H' (PD T p.1) p.2) (k:WW C nt ro H0 c (jH l) (wC H0 Bs) H0.n Q .mk):WW C nt ro H0 c T H' lo' Q h:=
 ⟨W.pre (Sub.frz Bs l hn he hlo hro hB hl) k.out⟩
theorem MCall.lend_own{C:Ctx}{g:FuncId}{args args':List V}{H:Heap}{Q Q':OR->Prop}(ha:Fzs (fun _=>True) H args args')(k:MCall C g args' H Q')
  (hq:∀r,Q' r->V.fl r.v=true/\(∀b,b<H.n->r.H.get b=H.get b)/\(∀b,H.n<=b->b<r.H.n->∃cs e,r.H.get b=some (.cells cs e)/\VJ cs=true)/\Q ⟨r.v,r.H,H.n⟩):MCall C g args H Q:=by
 refine MCall.lend ha k fun r hr=>?_
 obtain⟨h1,h2,h3,h4⟩:=hq r hr
 refine⟨r.v,r.H,Wk.self h1,rfl,fun b hb=>⟨h2 b hb,h2 b hb⟩,fun b hb1 hb2=>?_,h4⟩
 obtain⟨cs,e,h5,h6⟩:=h3 b hb1 hb2
 refine⟨_,_,h5,h5,?_⟩
 first|exact⟨rfl,Wks.self h6⟩|exact⟨_,rfl,Wks.self h6⟩|(show Wkb _ _;simp[Wkb,Wks.self h6])
theorem zp7{α:Type}{e:α->List V}(h:∀x,VJ (e x)=true):∀l:List α,VJ (row e l)=true
 | []=>rfl
 | x::l=>by
  have ih:=zp7 h l
  have ap:∀xs ys:List V,VJ xs=true->VJ ys=true->VJ (xs++ys)=true:=by
   intro xs ys h1 h2
   induction xs with
   | nil=>exact h2
   | cons v vs ih=>
    simp only[VJ,wA] at h1
    simp only[List.cons_append,VJ,wA]
    exact⟨h1.1,ih h1.2⟩
  rw[iJ]
  exact ap _ _ (h x) ih
theorem T6(n:Nat):IntKind.u64.wrap (n:Int)=((n % 18446744073709551616:Nat):Int):=by
 simp only[IntKind.wrap,IntKind.bits,IntKind.signed]
 simp
end Go.Tw
namespace Go.Proofs.YtookdinfaoelaaaGreatDoor
section
open Go Go.Tw
open Classical
theorem zpD(a b:Int):fM [a,b]=if a=0 then b else a:=by
 simp only[fM]
 by_cases h:a=0<;>by_cases h2:b=0<;>simp[h,h2]
noncomputable def K8:List V->Heap->Option OR:=PL (fun p:GRev=>match p with|x=>[.agg (ze x)]) fun p=>match p with|x=>.lit (.bool (BK x))
theorem m_27(x:GRev)(H:Heap)(Q:OR->Prop)(hQ:Q ⟨.lit (.bool (BK x)),H,H.n⟩):MCall Cx 27 [.agg (ze x)] H Q:=by
 refine QA zm (fn:=Tryz.f27) Tryz.func27 rfl (by decide) (k:=11) rfl (rs:=[.tmp 2]) rfl ?_
 simp -dsimp only[go_sem,bA,aA,reduceCtorEq]
 refine GD.dec (fun h=>?_) (fun h=>?_)<;>simp -dsimp only[go_sem,bA,aA,reduceCtorEq,gA,h]
 ·refine AA (by omega) rfl ?_
  have e:decide (x.gen<4611686018427387904)=BK x:=by
   rw[Bool.eq_iff_iff];simp only[BK,wA,decide_eq_true_eq];omega
  rw[<-e] at hQ
  exact hQ
 ·refine AA (by omega) rfl ?_
  have e:BK x=false:=by simp[BK];omega
  rw[e] at hQ
  exact hQ
theorem DW:CI Cx 27 K8:=EM fun p H Q hQ=>match p,hQ with|x,hQ=>m_27 x H Q hQ
@[go_sem] theorem e_27(x:GRev)(H:Heap):K8 [.agg (ze x)] H=some ⟨.lit (.bool (BK x)),H,H.n⟩:=FM (by simp+contextual [zQ]) x H
theorem tP(a:GRev)(i:Nat):(ze a)[1+i*1]?=(a.sum.toList[i]?).map PE:=by
 rw[show 1+i*1=i+1 by omega]
 simp[ze,FH]
theorem OP{l m:List UInt8}{i:Nat}{x y:UInt8}(hx:l[i]?=some x)(hy:m[i]?=some y):fB (l.drop i) (m.drop i)=if x<y then -1 else if y<x then 1 else fB (l.drop (i+1)) (m.drop (i+1)):=by
 obtain⟨h,rfl⟩:=rA.1 hx
 obtain⟨h',rfl⟩:=rA.1 hy
 rw[DB h,DB h',fB]
noncomputable def L8:List V->Heap->Option OR:=PL (fun p:GRev×GRev=>match p with|(a,b)=>[.agg (ze a),.agg (ze b)]) fun p=>match p with|(a,b)=>vA (RI a b)
theorem m_28(a:GRev)(b:GRev)(H:Heap)(Q:OR->Prop)(hQ:Q ⟨vA (RI a b),H,H.n⟩):MCall Cx 28 [.agg (ze a),.agg (ze b)] H Q:=by
 refine QA zm (fn:=Tryz.f28) Tryz.func28 rfl (by decide) (k:=38) rfl (rs:=[.tmp 4]) rfl ?_
 simp -dsimp only[go_sem,bA,aA,cA,reduceCtorEq]
 rw[RI,zpD] at hQ
 refine aB (fun h1=>?_) (fun h1=>?_)<;>simp -dsimp only[go_sem,bA,aA,cA,reduceCtorEq,gA,h1]
 ·rw[if_neg (by unfold PK;split<;>(try split)<;>omega)] at hQ
  unfold PK at hQ
  refine aB (fun h2=>?_) (fun h2=>?_)<;>simp -dsimp only[go_sem,bA,aA,cA,reduceCtorEq,gA,h2]
  ·rw[if_pos h2] at hQ
   exact AA (by omega) rfl hQ
  ·rw[if_neg h2,if_pos (by omega)] at hQ
   exact AA (by omega) rfl hQ
 have hg:a.gen=b.gen:=by simpa using h1
 rw[if_pos (by unfold PK;rw[if_neg (by omega),if_neg (by omega)])] at hQ
 refine sC zm (fun i:Nat=>[(2,.ptr H.n 0),(3,.ptr (H.n+1) 0),(5,vA i)]) (fun i=>i<=16/\fB (a.sum.toList.drop i) (b.sum.toList.drop i)=fB a.sum.toList b.sum.toList) (fun i=>16-i) 0 ⟨by omega,rfl⟩ zSl ?_
 rintro i ⟨hi,hj⟩
 simp -dsimp only[go_sem,bA,aA,zf,zh]
 refine aB (fun h=>?_) (fun h=>?_)<;>simp -dsimp only[go_sem,bA,aA,cA,h]
 ·have hN:i<16:=by omega
  obtain⟨x,hx⟩:=zu (l:=a.sum.toList) (i:=i) (by simpa using hN)
  obtain⟨y,hy⟩:=zu (l:=b.sum.toList) (i:=i) (by simpa using hN)
  rw[OP hx hy] at hj
  refine DR.of _ xA (by kernel_rfl) ?_
  simp -dsimp only[go_sem,bA,aA,cA,reduceCtorEq,hN,tP,hx,hy]
  refine aB (fun h2=>?_) (fun h2=>?_)<;>simp -dsimp only[go_sem,bA,aA,cA,h2]
  ·rw[if_pos (by rw[SF];exact_mod_cast h2)] at hj
   rw[<-hj] at hQ
   exact AA (by omega) rfl hQ
  rw[if_neg (by rw[SF];exact_mod_cast h2)] at hj
  refine DR.of _ xA (by kernel_rfl) ?_
  simp -dsimp only[go_sem,bA,aA,cA,reduceCtorEq,hN,tP,hx,hy]
  refine aB (fun h3=>?_) (fun h3=>?_)<;>simp -dsimp only[go_sem,bA,aA,cA,h3]
  ·rw[if_pos (by rw[SF];exact_mod_cast h3)] at hj
   rw[<-hj] at hQ
   exact AA (by omega) rfl hQ
  rw[if_neg (by rw[SF];exact_mod_cast h3)] at hj
  refine zAg (i+1) ?_
  exact⟨by omega,hj⟩
 ·refine AA (by omega) rfl ?_
  have:i=16:=by omega
  subst this
  rw[uC (by simp),uC (by simp)] at hj
  rw[<-hj] at hQ
  exact hQ
theorem ud:CI Cx 28 L8:=EM fun p H Q hQ=>match p,hQ with|(a,b),hQ=>m_28 a b H Q hQ
@[go_sem] theorem e_28(a:GRev)(b:GRev)(H:Heap):L8 [.agg (ze a),.agg (ze b)] H=some ⟨vA (RI a b),H,H.n⟩:=FM (by simp+contextual [zQ]) (a,b) H
end
section
open Go Go.Tw
open Classical
theorem BG{l:List UInt32}{i:Nat}(h:i<l.length):(l.map qC)[i]?=some (qC (l.getD i 0)):=by
 rw[uB,DA,sA h]
 rfl
theorem YK{l:List UInt32}{i:Nat}(x:UInt32)(h:i<l.length):zD (l.map qC) i [qC x]=some ((l.set i x).map qC):=by
 unfold zD
 rw[if_pos (by simp;omega),List.map_set]
 congr 1
 rw[OC,if_pos (by simpa using h)]
 simp
theorem xW(x:UInt32)(n:Nat)(hp:n=16\/n=12\/n=8\/n=7)(H:Heap)(Q:OR->Prop)(hQ:Q ⟨qC (LM x n),H,H.n⟩):MCall Cx 155 [qC x,vA (IntKind.i64.wrap (0-(n:Int)))] H Q:=by
 have e:LM x n=(x <<< UInt32.ofNat (32-n))||| (x>>>UInt32.ofNat n):=by rw[LM,UInt32.or_comm]
 rw[e] at hQ
 rcases hp with rfl|rfl|rfl|rfl
 ·have e3:IntKind.u64.wrap ((EB IntKind.u64.bits (IntKind.u64.wrap (-16))&&& EB IntKind.u64.bits 31).toNat:Nat)=16:=by decide
  have e4:IntKind.u64.wrap (32-16)=16:=by decide
  rw[show IntKind.i64.wrap (0-((16:Nat):Int))=-16 by decide]
  refine mB (fn:=Tryz.f155) EI rfl (by decide) (k:=17) rfl (rs:=[.tmp 4]) rfl ?_
  refine LB zm ?_
  simp -dsimp only[go_sem,bA,aA,cA,reduceCtorEq,gA,e3,e4,BF,tH]
  exact AA (by omega) rfl hQ
 ·have e3:IntKind.u64.wrap ((EB IntKind.u64.bits (IntKind.u64.wrap (-12))&&& EB IntKind.u64.bits 31).toNat:Nat)=20:=by decide
  have e4:IntKind.u64.wrap (32-20)=12:=by decide
  rw[show IntKind.i64.wrap (0-((12:Nat):Int))=-12 by decide]
  refine mB (fn:=Tryz.f155) EI rfl (by decide) (k:=17) rfl (rs:=[.tmp 4]) rfl ?_
  refine LB zm ?_
  simp -dsimp only[go_sem,bA,aA,cA,reduceCtorEq,gA,e3,e4,BF,tH]
  exact AA (by omega) rfl hQ
 ·have e3:IntKind.u64.wrap ((EB IntKind.u64.bits (IntKind.u64.wrap (-8))&&& EB IntKind.u64.bits 31).toNat:Nat)=24:=by decide
  have e4:IntKind.u64.wrap (32-24)=8:=by decide
  rw[show IntKind.i64.wrap (0-((8:Nat):Int))=-8 by decide]
  refine mB (fn:=Tryz.f155) EI rfl (by decide) (k:=17) rfl (rs:=[.tmp 4]) rfl ?_
  refine LB zm ?_
  simp -dsimp only[go_sem,bA,aA,cA,reduceCtorEq,gA,e3,e4,BF,tH]
  exact AA (by omega) rfl hQ
 ·have e3:IntKind.u64.wrap ((EB IntKind.u64.bits (IntKind.u64.wrap (-7))&&& EB IntKind.u64.bits 31).toNat:Nat)=25:=by decide
  have e4:IntKind.u64.wrap (32-25)=7:=by decide
  rw[show IntKind.i64.wrap (0-((7:Nat):Int))=-7 by decide]
  refine mB (fn:=Tryz.f155) EI rfl (by decide) (k:=17) rfl (rs:=[.tmp 4]) rfl ?_
  refine LB zm ?_
  simp -dsimp only[go_sem,bA,aA,cA,reduceCtorEq,gA,e3,e4,BF,tH]
  exact AA (by omega) rfl hQ
@[go_sem] theorem J5(x:V):zv fA 161 x (.lit (.int .i64 0))=II x 0:=by rw[FX wG WM x .i64 0 (by decide)];rfl
@[go_sem] theorem K5(x:V):zv fA 161 x (.lit (.int .i64 1))=II x 1:=by rw[FX wG WM x .i64 1 (by decide)];rfl
@[go_sem] theorem L5(x:V):zv fA 161 x (.lit (.int .i64 2))=II x 2:=by rw[FX wG WM x .i64 2 (by decide)];rfl
@[go_sem] theorem N5(x:V):zv fA 161 x (.lit (.int .i64 3))=II x 3:=by rw[FX wG WM x .i64 3 (by decide)];rfl
@[go_sem] theorem VY(x:V):zv fA 153 x (.lit (.int .i64 12))=II x 12:=by rw[FX NE qN x .i64 12 (by decide)];rfl
@[go_sem] theorem WY(x:V):zv fA 153 x (.lit (.int .i64 13))=II x 13:=by rw[FX NE qN x .i64 13 (by decide)];rfl
@[go_sem] theorem XY(x:V):zv fA 153 x (.lit (.int .i64 14))=II x 14:=by rw[FX NE qN x .i64 14 (by decide)];rfl
@[go_sem] theorem I5(x:V):zv fA 125 x (.lit (.int .i64 0))=II x 0:=by rw[FX Tryz.underlying125 qN x .i64 0 (by decide)];rfl
structure Upd(H X:Heap)(bv:Nat)(v:List UInt32)(e:TypeId):Prop where
 n:X.n=H.n
 at_:X.get bv=some (.cells (v.map qC) e)
 old:∀j,j≠bv->X.get j=H.get j
theorem Upd.set{H X:Heap}{bv:Nat}{v u:List UInt32}{e:TypeId}(h:Upd H X bv v e):Upd H (X.set bv (.cells (u.map qC) e)) bv u e:=by
 refine⟨by rw[kA,h.n],by rw[dA,if_pos ⟨rfl,zq h.at_⟩],fun j hj=>by rw[dA,if_neg (fun g=>hj g.1),h.old j hj]⟩
theorem wW(v:List UInt32)(hv:v.length=16)(a b c d:Nat)(ha:a<16)(hb:b<16)(hc:c<16)(hd:d<16)(x:UInt32)(n m:Nat)(hn:n=16\/n=12\/n=8\/n=7)(hm:m=16\/m=12\/m=8\/m=7)(bv ca cb cc cd:Nat)(e:TypeId)(H:Heap)
  (gv:H.get bv=some (.cells (v.map qC) e)) (ga:H.get ca=some (.cells [.ptr bv a] 185)) (gb:H.get cb=some (.cells [.ptr bv b] 185)) (gc:H.get cc=some (.cells [.ptr bv c] 185)) (gd:H.get cd=some (.cells [.ptr bv d] 185))
  (na:ca≠bv) (nb:cb≠bv) (nc:cc≠bv) (nd:cd≠bv)
  (Q:OR->Prop) (hQ:∀X lo,Upd H X bv (gS v a b c d x n m) e->min bv H.n<=lo->Q ⟨.tup [],X,lo⟩):MCall Cx 154 [qC x,vA n,vA m,.ptr ca 0,.ptr cb 0,.ptr cd 0,.ptr cc 0] H Q:=by
 refine mB (fn:=Tryz.f154) Tryz.func154 rfl (by decide) (k:=52) rfl (rs:=[]) rfl ?_
 have hbn:=zq gv
 have U0:Upd H H bv v e:=⟨rfl,gv,fun _ _=>rfl⟩
 refine yC ?_
 refine BD zm 10 (by decide) (by kernel_rfl) ?_
 dsimp only[NA,iB]
 refine DR.of _ xA (by kernel_rfl) ?_
 simp -dsimp only[go_sem,bA,aA,cA,reduceCtorEq,gv,ga,gb,BG (l:=v) (i:=a) (by omega),BG (l:=v) (i:=b) (by omega)]
 refine rB (by rw[YK (l:=v) (i:=a) _ (by omega)];rfl) ?_
 simp -dsimp only[go_sem,cA,gA]
 generalize hv1:v.set a (v.getD a 0+(v.getD b 0+x))=v1
 have l1:v1.length=16:=by rw[<-hv1,qB,hv]
 have U1:=U0.set (u:=v1)
 generalize H.set bv (.cells (v1.map qC) e)=X1 at U1
 refine yC ?_
 refine BD zm 12 (by decide) (by kernel_rfl) ?_
 dsimp only[NA,iB]
 refine DR.of _ ((CA (wN (xW (v1.getD d 0 ^^^ v1.getD a 0) n hn X1 _ rfl)) xA)) (by kernel_rfl) ?_
 simp -dsimp only[go_sem,bA,aA,reduceCtorEq,U1.at_,U1.old _ na,U1.old _ nd,ga,gd,BG (l:=v1) (i:=a) (by omega),BG (l:=v1) (i:=d) (by omega)]
 refine rB (by rw[YK (l:=v1) (i:=d) _ (by omega)];rfl) ?_
 simp -dsimp only[go_sem]
 generalize hv2:v1.set d (LM (v1.getD d 0 ^^^ v1.getD a 0) n)=v2
 have l2:v2.length=16:=by rw[<-hv2,qB,l1]
 have n1:=U1.n
 have U2:=U1.set (u:=v2)
 generalize X1.set bv (.cells (v2.map qC) e)=X2 at U2
 refine yC ?_
 refine BD zm 8 (by decide) (by kernel_rfl) ?_
 dsimp only[NA,iB]
 refine DR.of _ xA (by kernel_rfl) ?_
 simp -dsimp only[go_sem,bA,aA,reduceCtorEq,U2.at_,U2.old _ nc,U2.old _ nd,gc,gd,BG (l:=v2) (i:=c) (by omega),BG (l:=v2) (i:=d) (by omega)]
 refine rB (by rw[YK (l:=v2) (i:=c) _ (by omega)];rfl) ?_
 simp -dsimp only[go_sem]
 generalize hv3:v2.set c (v2.getD c 0+v2.getD d 0)=v3
 have l3:v3.length=16:=by rw[<-hv3,qB,l2]
 have n2:=U2.n
 have U3:=U2.set (u:=v3)
 generalize X2.set bv (.cells (v3.map qC) e)=X3 at U3
 refine BD zm 12 (by decide) (by kernel_rfl) ?_
 dsimp only[NA,iB]
 refine DR.of _ ((CA (wN (xW (v3.getD b 0 ^^^ v3.getD c 0) m hm X3 _ rfl)) xA)) (by kernel_rfl) ?_
 simp -dsimp only[go_sem,bA,aA,reduceCtorEq,U3.at_,U3.old _ nb,U3.old _ nc,gb,gc,BG (l:=v3) (i:=b) (by omega),BG (l:=v3) (i:=c) (by omega)]
 refine rB (by rw[YK (l:=v3) (i:=b) _ (by omega)];rfl) ?_
 simp -dsimp only[go_sem]
 have n3:=U3.n
 refine nB (hQ _ _ ?_ (by omega))
 have e1:gS v a b c d x n m=v3.set b (LM (v3.getD b 0 ^^^ v3.getD c 0) m):=by rw[<-hv3,<-hv2,<-hv1];rfl
 rw[e1]
 exact U3.set
end
section
open Go Go.Tw
open Classical
@[go_sem] theorem ub(a b:Int):kS J4 (vA a) [vA b]=some (vA (max a b)):=by
 simp only[kS,J4]
 by_cases h:a<b
 ·simp[h,Int.max_def,Int.le_of_lt h]
 ·simp only[Int.max_def]
  by_cases g:a<=b
  ·obtain rfl:a=b:=by omega
   simp
  ·simp[h,g]
def VK:Nat->GV->Int
 | 0,_=>20
 | d+1,v=>IntKind.i64.wrap (v.list.foldl (fun a x=>max a (VK d x)) 0+1)
theorem m_89:∀(d:Nat) (hd:d<=20) (v:GV) (hw:v.wf) (H:Heap) (Q:OR->Prop),Q ⟨vA (VK d v),H,H.n⟩->MCall Cx 89 [.agg (zR v),vA d] H Q:=by
 intro d
 induction d with
 | zero=>
  intro hd v hw H Q hQ
  refine QA zm (fn:=Tryz.f89) Tryz.func89 rfl (by decide) (k:=28) rfl (rs:=[.tmp 4]) rfl ?_
  simp -dsimp only[go_sem,bA,aA,cA,reduceCtorEq]
  have e0:(((0:Nat):Int)<1)=True:=by simp
  simp -dsimp only[go_sem,bA,aA,cA,reduceCtorEq,gA,e0]
  exact AA (by omega) rfl hQ
 | succ d ih=>
  intro hd v hw H Q hQ
  refine QA zm (fn:=Tryz.f89) Tryz.func89 rfl (by decide) (k:=28) rfl (rs:=[.tmp 4]) rfl ?_
  simp -dsimp only[go_sem,bA,aA,cA,reduceCtorEq]
  have e0:(((d+1:Nat):Int)<1)=False:=by simp;omega
  simp -dsimp only[go_sem,bA,aA,cA,reduceCtorEq,gA,e0]
  have hlw:=YF hw
  refine sC zm (fun p:Nat×Int=>[(1,vA (d+1:Nat)),(2,.ptr H.n 0),(5,vA p.2),(6,vA p.1)]) (fun p=>p.1<=v.list.length/\p.2=(v.list.take p.1).foldl (fun a x=>max a (VK d x)) 0) (fun p=>v.list.length-p.1) (0,0) ⟨KB _,rfl⟩ zSl ?_
  rintro⟨i,a⟩ ⟨hi,ha⟩
  simp only at hi ha ⊢
  simp -dsimp only[go_sem,bA,aA,zf,zh]
  refine aB (fun k=>?_) (fun k=>?_)
  ·obtain⟨x,hx⟩:=zu k
   have e1:IntKind.i64.wrap (((d+1:Nat):Int)-1)=(d:Int):=by rw[zw (by omega) (by omega)];omega
   simp -dsimp only[go_sem,bA,aA,k,e1,z7 zF hx]
   refine oB ?_
   refine ih (by omega) x (NF hw x (IA hx)) _ _ ?_
   simp -dsimp only[go_sem,bA,aA]
   refine zAg ((i+1,max a (VK d x))) ?_
   refine⟨k,?_⟩
   have:v.list.take (i+1)=v.list.take i++[x]:=by rw[yB,hx];rfl
   rw[this,List.foldl_append,<-ha]
   rfl
  ·simp -dsimp only[go_sem,bA,aA,k]
   refine AA (by omega) rfl ?_
   rw[uA (by omega)] at ha
   rw[VK,<-ha] at hQ
   exact hQ
end
section
open Go Go.Tw
open Classical
def ZL(v:GV):Bool:=nJ v 8&&decide ((ED v).length<=512)
theorem vZ(hAI:bP)(v:GV)(hw:v.wf)(hnu:GN v)(hsm:nJ v 8=true->(ED v).length<=1048576)(H:Heap)(Q:OR->Prop)(hQ:Q ⟨.lit (.bool (ZL v)),H,H.n⟩):MCall Cx 44 [.agg (zR v)] H Q:=by
 refine QA zm (fn:=Tryz.f44) Tryz.func44 rfl (by decide) (k:=11) rfl (rs:=[.tmp 2]) rfl ?_
 simp -dsimp only[go_sem,bA,aA,reduceCtorEq]
 refine MV.tab _ ((CA (Jd) xA)) ?_
 simp -dsimp only[go_sem,bA,aA,reduceCtorEq,e_72 v 8 ⟨hw,by decide⟩]
 cases h:nJ v 8<;>simp -dsimp only[go_sem,bA,aA,reduceCtorEq,gA]
 ·refine AA (by omega) rfl ?_
  simpa[ZL,h] using hQ
 refine oB ?_
 refine CZ hAI v 8 h hw hnu [] 0 _ (fun g=>absurd rfl g) (by simpa using hsm h) _ fun X k lo hB hlo=>?_
 simp -dsimp only[go_sem,bA,aA,reduceCtorEq,gA,zmp TA]
 have hn:=hB.n
 rw[iA] at hn
 unfold lob at hlo
 rw[if_pos rfl,iA] at hlo
 refine AA (by omega) rfl ?_
 have e:(((ED v).length:Int)<=512)=((ED v).length<=512):=by simp;omega
 simpa[ZL,h,e] using hQ
end
section
open Go Go.Tw
open Classical
theorem W6{α:Type}{E:α->List V}{z:Nat}(hz:∀x,(E x).length=z){l:List α}{i:Nat}(x:α)(hi:i<l.length):zD (row E l) (i*z) (E x)=some (row E (l.set i x)):=by
 unfold zD
 have hm:i*z+z<=l.length*z:=by rw[<-IG];exact Nat.mul_le_mul_right _ hi
 rw[hz,if_pos (by rw[zr hz];exact hm),qO hz,show i*z+z=(i+1)*z by rw[IG],gg hz,OC,if_pos hi,TR,iJ]
 simp
theorem zpu{l:List GNode}{i:Nat}{x:GNode}(hx:l[i]?=some x)(tl:List V):QE fA 38 (row za l++tl) (i*41)=some (.agg (za x)):=by
 have hi:=(rA.1 hx).1
 have hm:i*41+41<=l.length*41:=by omega
 rw[TM fA 38 m8 NK,if_pos (by rw[qA,zr zg];omega),List.drop_append_of_le_length (by rw[zr zg];omega),z7 zg hx]
 simp only[XA]
 rw[jB (by rw[zg];exact jA _),uA (by rw[zg];exact jA _)]
theorem vX{l:List GNode}{i:Nat}{x:GNode}(hx:l[i]?=some x):QE fA 38 (row za l) (i*41)=some (.agg (za x)):=by
 have:=zpu hx []
 rwa [MA] at this
structure Kp(k:Nat)(H X:Heap):Prop where
 n:H.n<=X.n
 old:∀j,j<H.n->j≠k->X.get j=H.get j
theorem Kp.refl{k:Nat}{H:Heap}:Kp k H H:=⟨jA _,fun _ _ _=>rfl⟩
abbrev zqI(f:V)(k:Nat)(H:Heap)(l:List GNode)(p:GNode->Bool):Prop:=∀X,Kp k H X->∀x∈l,∀Q:OR->Prop,Q ⟨.lit (.bool (p x)),X,X.n⟩->MVal Cx f [.agg (za x)] X Q
theorem o_64(l:List GNode)(f:V)(p:GNode->Bool)(hl:l.length<=9223372036854775807)(k:Nat)(H:Heap)(hk:H.get k=some (.cells (row za l) 38))(hf:zqI f k H l p)(Q:OR->Prop)(hQ:Q ⟨vA (CL p l),H,H.n⟩):
  MCall Cx 64 [.sl k 0 l.length l.length (some 41),f] H Q:=by
 refine QA zm (fn:=Tryz.f64) Tryz.func64 rfl (by decide) (k:=19) rfl (rs:=[.tmp 4]) rfl ?_
 simp -dsimp only[go_sem,bA,aA,cA,reduceCtorEq,gA]
 refine sC zm (fun i:Nat=>[(0,.sl k 0 l.length l.length (some 41)),(1,f),(7,vA l.length),(8,vA i)]) (fun i=>i<=l.length/\(l.take i).all (fun x=>!p x)=true) (fun i=>l.length-i) 0 ⟨by omega,rfl⟩ zSl ?_
 rintro i ⟨hi,hj⟩
 simp -dsimp only[go_sem,bA,aA,reduceCtorEq,zf,zh]
 refine aB (fun h=>?_) (fun h=>?_)<;>simp -dsimp only[go_sem,bA,aA,reduceCtorEq,gA,h]
 ·obtain⟨x,hx⟩:=zu h
  simp -dsimp only[go_sem,bA,aA,reduceCtorEq,h,hk,vX hx]
  refine⟨hf H .refl x (IA hx) _ ?_⟩
  simp -dsimp only[go_sem,aA,reduceCtorEq,h]
  refine BR.split (fun h2=>?_) (fun h2=>?_)<;>simp -dsimp only[go_sem,bA,aA,reduceCtorEq,gA,h,h2]
  ·refine nB ?_
   rw[ng hx h2 hj] at hQ
   exact hQ
  ·refine zAg (i+1) ?_
   exact⟨by omega,VM hx hj (by simp[h2])⟩
 ·refine nB ?_
  rw[Qf (pN (i:=i) (by omega) hj)] at hQ
  exact hQ
theorem zdF{b i n:Nat}(hi:i<n):lH fA 22 (.sl b 0 n n (some 41)) (some (vA i)) none none=some (.sl b (i*41) (n-i) (n-i) (some 41)):=by
 have h1:¬n<n:=VG _
 have h2:i<=n:=by omega
 have h3:¬n=i:=by omega
 simp[lH,FA,NK,SK,MM,pM,sM,iV,QS,h1,h2,h3]
theorem zhZ{b i n:Nat}(hi:i<=n)(hn:0<n):lH fA 22 (.sl b 0 n n (some 41)) none (some (vA i)) none=some (.sl b 0 i n (some 41)):=by
 have h1:¬n<n:=VG _
 have h3:¬n=0:=by omega
 simp[lH,FA,NK,SK,MM,pM,sM,iV,QS,h1,hi,h3]
theorem N2(zc:List V)(n:Nat):(bH zc n).length=n*zc.length:=by
 induction n with
 | zero=>simp[bH]
 | succ n ih=>simp only[bH,qA] at ih ⊢;rw[ih,IG];omega
theorem zlQ{zc:List V}(h:QF zc=true)(n:Nat):QF (bH zc n)=true:=by
 induction n with
 | zero=>simp[bH,QF]
 | succ n ih=>simp only[bH] at ih ⊢;rw[nN,h,ih];rfl
theorem znT(n:Nat):∀l:List V,QF l=true->QF (l.take n)=true:=by
 intro l h
 have:=nN (l.take n) (l.drop n)
 rw[eC,h] at this
 simp only[dK,wA] at this
 exact this.1
theorem ik(n:Nat):∀l:List V,QF l=true->QF (l.drop n)=true:=by
 intro l h
 have:=nN (l.take n) (l.drop n)
 rw[eC,h] at this
 simp only[dK,wA] at this
 exact this.2
theorem zoI{H:Heap}{k off n:Nat}{cs:List V}{e:TypeId}(hk:H.get k=some (.cells cs e))(hn:0<n)(hl:off+n*41<=cs.length)(hb:QF cs=true):∃c,GX fA H 22 (.sl k off n n (some 41))=some ⟨EH,H.set k (.cells c e),min k H.n⟩/\c.take off=cs.take off/\QF c=true:=by
 have hz:zNode.length=41:=by decide
 obtain⟨m,rfl⟩:∃m,n=m+1:=⟨n-1,by omega⟩
 refine⟨cs.take off++bH zNode (m+1)++cs.drop (off+(bH zNode (m+1)).length),?_,?_,?_⟩
 ·have h1:zNode.all HB=true:=by decide
  have h2:zD cs off (bH zNode (m+1))=some (cs.take off++bH zNode (m+1)++cs.drop (off+(bH zNode (m+1)).length)):=by
   unfold zD;rw[if_pos (by rw[N2,hz];exact hl)]
  simp only[GX,FA,zl2,pA,KA,hk,h1,if_true,h2]
 ·rw[XA,jB (by rw[JB];omega),List.take_take,gA]
 ·rw[nN,nN,znT _ _ hb,ik _ _ hb,zlQ (by decide)];rfl
theorem qd(l:List GNode)(f:V)(p:GNode->Bool)(hl:l.length<=1048576)(k:Nat)(H:Heap)(hk:H.get k=some (.cells (row za l) 38))(hf:zqI f k H l p)(Q:OR->Prop)
  (hQ:∀X lo m tl,Kp k H X->min k H.n<=lo->m=(l.filter fun x=>!p x).length->QF tl=true->X.get k=some (.cells (row za (l.filter fun x=>!p x)++tl) 38)->Q ⟨.sl k 0 m l.length (some 41),X,lo⟩):
  MCall Cx 59 [.sl k 0 l.length l.length (some 41),f] H Q:=by
 refine QA zm (fn:=Tryz.f59) Tryz.func59 rfl (by decide) (k:=42) rfl (rs:=[.tmp 4]) rfl ?_
 simp -dsimp only[go_sem,bA,aA,cA,reduceCtorEq]
 refine oB ?_
 simp -dsimp only[go_sem,bA,aA,cA,reduceCtorEq]
 refine o_64 l f p (by omega) k H hk hf _ ?_
 simp -dsimp only[go_sem,aA,cA,reduceCtorEq]
 rcases hz:l.findIdx? p with _|i0
 ·have hzi:CL p l=-1:=by simp[CL,hz]
  rw[hzi]
  simp -dsimp only[go_sem,bA,aA,cA,reduceCtorEq,gA]
  have hfil:(l.filter fun x=>!p x)=l:=by
   rw[jG]
   intro x hx
   rw[List.findIdx?_eq_none_iff] at hz
   simp[hz x hx]
  exact nB (hQ H H.n l.length [] .refl (by omega) (by rw[hfil]) rfl (by rw[hfil,MA];exact hk))
 ·have hzi:CL p l=(i0:Nat):=by simp[CL,hz]
  obtain⟨hi0,hp0,hj0⟩:=List.findIdx?_eq_some_iff_getElem.1 hz
  rw[hzi]
  have e1:((i0:Int)=-1)=False:=by simp
  have e2:IntKind.i64.wrap ((i0:Int)+1)=((i0+1:Nat):Int):=PR (by omega)
  simp -dsimp only[go_sem,bA,aA,cA,reduceCtorEq,gA,e1,e2]
  refine WW.loop zm (ι:=Nat×Nat×List GNode×Heap) (fun q=>[(0,.sl k 0 l.length l.length (some 41)),(1,f),(5,vA q.2.1),(6,vA q.1)]) (fun q=>q.2.2.2) (fun _=>min k H.n)
   (fun q=>q.1<=l.length/\q.2.1<q.1/\q.2.2.1.length=l.length/\q.2.2.1.take q.2.1=(l.take q.1).filter (fun x=>!p x)/\q.2.2.1.drop q.1=l.drop q.1/\Kp k H q.2.2.2/\q.2.2.2.get k=some (.cells (row za q.2.2.1) 38)) (fun q=>l.length-q.1) (i0+1,i0,l,H) ?_ ?_ ?_
  ·refine⟨by omega,by simp,rfl,?_,rfl,.refl,hk⟩
   simp only
   have:l.take (i0+1)=l.take i0++[l[i0]]:=by rw[yB,sA hi0];rfl
   rw[this,KE]
   have h2:[l[i0]].filter (fun x=>!p x)=[]:=by simp[hp0]
   rw[h2,MA]
   symm
   rw[jG]
   intro x hx
   obtain⟨j,hj,rfl⟩:=List.mem_take_iff_getElem.1 hx
   have:=hj0 j (by omega)
   simpa using this
  ·refine(MB (lo2:=min k H.n) (by omega)).trans (RB _ zSl)
  rintro⟨j,i,l',X⟩ ⟨hj,hij,hl',hta,hdr,hX,hkX⟩
  simp only at hj hij hl' hta hdr hX hkX ⊢
  have hn:=hX.n
  have hkn:=zq hkX
  simp -dsimp only[go_sem,bA,aA,reduceCtorEq,zf,zh]
  refine aB (fun h=>?_) (fun h=>?_)<;>simp -dsimp only[go_sem,bA,aA,reduceCtorEq,h]
  ·obtain⟨x,hx⟩:=zu h
   have hx':l'[j]?=some x:=by
    have:=congrArg (fun m:List GNode=>m[0]?) hdr
    simpa[hx] using this
   simp -dsimp only[go_sem,bA,aA,reduceCtorEq,h,hkX,vX hx']
   generalize hX1:(X.push (.cells zNode 38)).set X.n (.cells (za x) 38)=X1
   have a1:X1.n=X.n+1:=by rw[<-hX1,kA,iA]
   have a2:X1.get X.n=some (.cells (za x) 38):=by rw[<-hX1,dA,if_pos ⟨rfl,by rw[iA];omega⟩]
   have a3:∀j,j<X.n->X1.get j=X.get j:=fun j hj=>by rw[<-hX1,dA,if_neg (fun h=>absurd h.1 (by omega)),zj j hj]
   have hX1':Kp k H X1:=⟨by omega,fun j hj hjk=>by rw[a3 j (by omega),hX.old j hj hjk]⟩
   have hk1:X1.get k=some (.cells (row za l') 38):=by rw[a3 k hkn,hkX]
   have htk:l.take (j+1)=l.take j++[x]:=by rw[yB,hx];rfl
   have hdr1:∀m:List GNode,m.drop j=l.drop j->m.drop (j+1)=l.drop (j+1):=fun m hm=>by rw[<-JE,hm,JE]
   refine⟨hf X1 hX1' x (IA hx) _ ?_⟩
   simp -dsimp only[go_sem,bA,aA,reduceCtorEq]
   refine BR.nspl (fun h2=>?_) (fun h2=>?_)<;>simp -dsimp only[go_sem,bA,aA,reduceCtorEq,h2]
   ·have hil:i<l'.length:=by omega
    have hil2:i<l.length:=by omega
    have eY:IntKind.i64.wrap ((i:Int)+1)=((i+1:Nat):Int):=PR (by omega)
    simp -dsimp only[go_sem,bA,aA,reduceCtorEq,a2,hil2,hk1,W6 zg x hil,eY]
    generalize hY:X1.set k (.cells (row za (l'.set i x)) 38)=Y
    have y1:Y.n=X1.n:=by rw[<-hY,kA]
    refine zAg (j+1,i+1,l'.set i x,Y) ?_
    dsimp only
    refine⟨h,by omega,by simpa using hl',?_,?_,⟨by omega,fun j hj hjk=>by rw[<-hY,dA,if_neg (fun h=>hjk h.1),hX1'.old j hj hjk]⟩,by rw[<-hY,dA,if_pos ⟨rfl,zq hk1⟩]⟩
    ·have h3:[x].filter (fun x=>!p x)=[x]:=by simp[h2]
     rw[htk,KE,h3,<-hta,yB,List.getElem?_set_self hil,List.take_set_of_le (jA i)]
     rfl
    ·rw[List.drop_set_of_lt (by omega)]
     exact hdr1 l' hdr
   ·refine zAg (j+1,i,l',X1) ?_
    dsimp only
    have h3:[x].filter (fun x=>!p x)=[]:=by simp[h2]
    exact⟨h,by omega,hl',by rw[htk,KE,h3,MA,hta],hdr1 l' hdr,hX1',hk1⟩
  ·have hjl:j=l.length:=by omega
   have hta':l'.take i=l.filter fun x=>!p x:=by rw[hta,hjl,FB]
   have hil:i<l.length:=by omega
   have hm:i=(l.filter fun x=>!p x).length:=by rw[<-hta',JB];omega
   obtain⟨c,hc1,hc2,hc3⟩:=zoI (off:=i*41) (n:=l.length-i) hkX (by omega) (by rw[zr zg,hl',<-Nat.add_mul];exact vH (by rw[show i+(l.length-i)=l.length by omega])) (UH zK _)
   simp -dsimp only[go_sem,aA,reduceCtorEq,zdF hil]
   refine rB hc1 ?_
   simp -dsimp only[go_sem,bA,aA,reduceCtorEq,zhZ (Nat.le_of_lt hil) (by omega:0<l.length)]
   refine nB ?_
   have hcc:row za (l.filter fun x=>!p x)++c.drop (i*41)=c:=by
    rw[<-hta',<-qO zg l' i,<-hc2,eC]
   refine hQ _ _ i (c.drop (i*41)) ⟨by rw[kA];omega,fun j hj hjk=>by rw[dA,if_neg (fun h=>hjk h.1),hX.old j hj hjk]⟩ (by omega) hm (ik _ _ hc3) (by rw[dA,if_pos ⟨rfl,hkn⟩,hcc])
end
end Go.Proofs.YtookdinfaoelaaaGreatDoor
namespace Go.Tw
def Bh(v:V)(lo n:Nat):Eff:=match v with|.lit (.int _ _)=>.none|_=>Le lo n
@[go_sem] theorem EY(r:Operand->V)(H:Heap)(q:OR)(s d:TypeId)(x:Operand):FF r H (.convert s d x) q=Bh (r x) q.lo H.n:=by
 unfold Bh Le;rfl
@[go_sem] theorem Dh(s:ByteArray)(n:Nat):Bh (gE s) n n=.sr:=by
 show Le n n=_
 unfold Le;rw[BJ rfl];rfl
@[go_sem] theorem Ch(k:IntKind)(i:Int)(lo n:Nat):Bh (.lit (.int k i)) lo n=.none:=rfl
theorem znE(f:Nat->Option (Nat×Nat))(hf:∀i,f i=some (i*1,1)):∀(vs:List V) (k:Nat) (pre zs:List V),pre.length=k->zs.length=vs.length->(∀v∈vs,zG v=some [v])->ZM f (pre++zs) ((vs.zipIdx k).map fun p=>(p.2,p.1))=some (pre++vs)
 | [],k,pre,zs,_,hz,_=>by
  obtain rfl:zs=[]:=WA.1 hz
  rfl
 | v::vs,k,pre,[],_,hz,_=>by simp at hz
 | v::vs,k,pre,z::zs,hp,hz,hv=>by
  have h1:=hv v (.head _)
  have h2:zD (pre++z::zs) k [v]=some (pre++v::zs):=by
   unfold zD
   rw[if_pos (by simp;omega)]
   subst hp
   simp
  have ih:=znE f hf vs (k+1) (pre++[v]) zs (by simp[hp]) (by simpa using hz) (fun u hu=>hv u (.tail _ hu))
  simp only[XA,List.singleton_append] at ih
  simp only[List.zipIdx_cons,NC,ZM,hf,pA,KA,h1,wB,h2,HA,SA]
  simpa using ih
theorem WN{P:Program}{t e:TypeId}{H:Heap}(h:P.underlying t=some (.slice e))(hz:EF P e=some 1)(hzl:(zE P e).map PB=some 1)(vs:List V)(hv:∀v∈vs,zG v=some [v])(hsm:vs.length<=16777216):
  zx P H t vs.length (vs.zipIdx.map fun p=>(p.2,p.1))=some ⟨.sl H.n 0 vs.length vs.length none,H.push (.cells vs e),H.n⟩:=by
 obtain⟨zc,hzc,hl⟩:=Option.map_eq_some_iff.1 hzl
 obtain⟨z,rfl⟩:∃z,zc=[z]:=by
  match zc,hl with
  | [z],_=>exact⟨z,rfl⟩
 have hzs:∀n,(bH [z] n).length=n:=fun n=>by
  induction n with
  | zero=>rfl
  | succ n ih=>simp[bH,ih]
 have:=znE (fun i=>some (i*1,1)) (fun _=>rfl) vs 0 [] (bH [z] vs.length) rfl (hzs _) hv
 simp only[List.nil_append] at this
 simp only[zx,h,hz,hzc,pA,KA,this]
 rw[if_pos ⟨by omega,rfl⟩]
theorem WW.keepl{C:Ctx}{nt:Nat}{ro:Option Nat}{H0:Heap}{c:Code}{T:Tr V}{H:Heap}{lo:Nat}{Q:Ex->St->Prop}{h:Hid (c,Q)}(lo2:Nat)(l:List (Nat×V))(hlo:lo2<=lo)(hT:∀p∈l,PD T p.1=p.2)(k:WW C nt ro H0 c (jH l) H lo2 Q .mk):WW C nt ro H0 c T H lo Q h:=
 WW.pre ((MB hlo).trans (RB l hT)) k
end Go.Tw
namespace Go.Proofs.YtookdinfaoelaaaGreatDoor
section
open Go Go.Tw
open Classical
theorem zmS(l:List GNode):∀(n:Nat) (r:GRev),(GL l n r).length<=n
 | 0,r=>jA _
 | n+1,r=>by
  rw[GL]
  cases DX l r with
  | none=>simp
  | some x=>simp only[HA];have:=zmS l n x.parent;omega
def s8(l:List GNode)(r:GRev)(n:GNode):Bool:=GM l n.rev&&(GL l 16 n.rev).any fun q=>decide (q=r)
def fO(l:List GNode)(r:GRev):Bool:=l.any (s8 l r)
theorem HT(t:GTree)(r:GRev)(hp:t.nodes.length<=9223372036854775807)(H:Heap):QX [.agg (zp t),.agg (ze r),vA 16] H=some ⟨NB ze (GL t.nodes 16 r),H,H.n⟩:=e_69 t r 16 ⟨hp,by decide⟩ H
theorem nP{α:Type}{p:α->Bool}{l:List α}(h:l.all (fun x=>!p x)=true):l.any p=false:=by
 rw[List.any_eq_false]
 intro x hx
 simpa using gB.1 h x hx
theorem zqD{α:Type}{p:α->Bool}{l:List α}{i:Nat}{x:α}(hx:l[i]?=some x)(hp:p x=true):l.any p=true:=List.any_eq_true.2 ⟨x,IA hx,hp⟩
noncomputable def Q8:List V->Heap->Option OR:=by
 classical
 exact GK (fun p:GTree×GRev=>match p with|(t,r)=>[.agg (zp t),.agg (ze r)]) fun p H=>match p with|(t,r)=>if t.nodes.length<=9223372036854775807 then some ⟨.lit (.bool (fO t.nodes r)),H,H.n⟩ else none
theorem m_33(t:GTree)(r:GRev)(hp:t.nodes.length<=9223372036854775807)(H:Heap)(Q:OR->Prop)(hQ:Q ⟨.lit (.bool (fO t.nodes r)),H,H.n⟩):MCall Cx 33 [.agg (zp t),.agg (ze r)] H Q:=by
 refine QA zm (fn:=Tryz.f33) Tryz.func33 rfl (by decide) (k:=44) rfl (rs:=[.tmp 4]) rfl ?_
 simp -dsimp only[go_sem,bA,aA,cA,reduceCtorEq,gA]
 refine sC zm (fun i:Nat=>[(2,.ptr H.n 0),(3,.ptr (H.n+1) 0),(5,vA i)]) (fun i=>i<=t.nodes.length/\(t.nodes.take i).all (fun n=>!s8 t.nodes r n)=true) (fun i=>t.nodes.length-i) 0 ⟨by omega,rfl⟩ zSl ?_
 rintro i ⟨hi,hj⟩
 simp -dsimp only[go_sem,bA,aA,reduceCtorEq,zf,zh]
 refine aB (fun h=>?_) (fun h=>?_)<;>simp -dsimp only[go_sem,bA,aA,cA,h]
 ·obtain⟨x,hx⟩:=zu h
  refine DR.of _ ((CA (EW) xA)) (by kernel_rfl) ?_
  simp -dsimp only[go_sem,bA,aA,cA,reduceCtorEq,h,z7 zg hx,Ra _ _ hp]
  refine BR.nspl (fun h2=>?_) (fun h2=>?_)<;>simp -dsimp only[go_sem,bA,aA,cA,h2]
  ·refine zAg (i+1) ?_
   exact⟨h,VM hx hj (by simp[s8,h2])⟩
  refine DR.of _ ((CA (Hd) xA)) (by kernel_rfl) ?_
  simp -dsimp only[go_sem,bA,aA,cA,reduceCtorEq,h,z7 zg hx,HT _ _ hp]
  have hw:=zmS t.nodes 16 x.rev
  refine sC zm (fun k:Nat=>[(2,.ptr H.n 0),(3,.ptr (H.n+1) 0),(5,vA i),(6,NB ze (GL t.nodes 16 x.rev)),(7,vA k)]) (fun k=>k<=(GL t.nodes 16 x.rev).length/\((GL t.nodes 16 x.rev).take k).all (fun q=>!decide (q=r))=true) (fun k=>(GL t.nodes 16 x.rev).length-k) 0 ⟨by omega,rfl⟩ zSl ?_
  rintro k ⟨hk,hk2⟩
  simp -dsimp only[go_sem,bA,aA,zf,zh]
  refine aB (fun h3=>?_) (fun h3=>?_)<;>simp -dsimp only[go_sem,bA,aA,cA,h3]
  ·obtain⟨q,hq⟩:=zu h3
   refine DR.of _ xA (by kernel_rfl) ?_
   simp -dsimp only[go_sem,bA,aA,cA,reduceCtorEq,h3,z7 zi hq]
   refine aB (fun h4=>?_) (fun h4=>?_)<;>simp -dsimp only[go_sem,bA,aA,cA,h4]
   ·refine AA (by omega) rfl ?_
    have:fO t.nodes r=true:=zqD hx (by rw[s8,h2,zqD hq (by simp[h4])];rfl)
    rw[this] at hQ
    exact hQ
   ·refine zAg (k+1) ?_
    exact⟨h3,VM hq hk2 (by simp[h4])⟩
  ·refine zAg (i+1) ?_
   exact⟨h,VM hx hj (by rw[s8,nP (pN (i:=k) (by omega) hk2),Bool.and_false];rfl)⟩
 ·refine AA (by omega) rfl ?_
  have:fO t.nodes r=false:=nP (pN (i:=i) (by omega) hj)
  rw[this] at hQ
  exact hQ
theorem yd:CI Cx 33 Q8:=kL fun p H r hr=>by
 obtain⟨t,r⟩:=p
 simp only at hr
 split at hr
 ·rename_i hp
  injection hr with hr
  subst hr
  exact m_33 t r hp H _ rfl
 ·cases hr
theorem e_33(t:GTree)(r:GRev)(hp:t.nodes.length<=9223372036854775807)(H:Heap):Q8 [.agg (zp t),.agg (ze r)] H=some ⟨.lit (.bool (fO t.nodes r)),H,H.n⟩:=by
 refine(lL (by simp+contextual [zQ,zI]) (t,r) H).trans ?_
 exact if_pos hp
end
section
open Go Go.Tw
open Classical
@[go_sem] theorem S0(x y:V):zD [x] 0 [y]=some [y]:=by rfl
def CO(q:Nat×Nat×Nat×Nat):List V:=[vA (q.1:Nat),vA (q.2.1:Nat),vA (q.2.2.1:Nat),vA (q.2.2.2:Nat)]
@[go_sem] theorem Yf:zE fA 185=some [.lit (.pointer none)]:=by kernel_rfl
theorem yc(v:List UInt32)(hv:v.length=16)(q:Nat×Nat×Nat×Nat)(ha:q.1<16)(hb:q.2.1<16)(hc:q.2.2.1<16)(hd:q.2.2.2<16)(x y:UInt32)(bv:Nat)(e:TypeId)(H:Heap)
  (gv:H.get bv=some (.cells (v.map qC) e)) (Q:OR->Prop) (hQ:∀X lo,H.n<=X.n->X.get bv=some (.cells ((XK v q x y).map qC) e)->(∀j,j<H.n->j≠bv->X.get j=H.get j)->min bv H.n<=lo->Q ⟨.tup [],X,lo⟩):MCall Cx 133 [.ptr bv 0,.agg (CO q),qC x,qC y] H Q:=by
 obtain⟨a,b,c,d⟩:=q
 have hbn:=zq gv
 refine mB (fn:=Tryz.f133) Tryz.func133 rfl (by decide) (k:=40) rfl (rs:=[]) rfl ?_
 refine PA zm ?_
 simp -dsimp only[go_sem,bA,aA,cA,reduceCtorEq,gA]
 refine PA zm ?_
 simp -dsimp only[go_sem]
 refine DR.wr _ xA [(2,7),(2,12),(7,12),(2,17),(7,17),(12,17),(2,20),(7,20),(12,20),(17,20),(2,21),(7,21),(12,21),(17,21),(20,21),(2,22),(7,22),(12,22),(17,22),(20,22),(21,22),(2,23),(7,23),(12,23),(17,23),(20,23),(21,23),(22,23),(7,24),(12,24),(17,24),(12,25),(17,25),(17,26)] (by kernel_rfl) (by kernel_rfl) ?_
 simp only at ha hb hc hd
 simp -dsimp only[go_sem,bA,aA,cA,reduceCtorEq,CO,ha,hb,hc,hd,wB]
 refine PA zm ?_
 simp -dsimp only[go_sem,bA,aA,cA,reduceCtorEq]
 have hne:∀k,H.n+k≠bv:=fun k=>by omega
 have hne0:∀k,(bv=H.n+k)=False:=fun k=>by simp;omega
 have hne1:(bv=H.n)=False:=by simp;omega
 refine PA zm ?_
 simp -dsimp only[go_sem,bA,aA,reduceCtorEq]
 refine oB ?_
 simp -dsimp only[go_sem,aA,cA,reduceCtorEq]
 refine wW v hv a b c d ha hb hc hd x 16 12 (by decide) (by decide) bv (H.n+1) (H.n+2) (H.n+3) (H.n+4) e _ ?_ ?_ ?_ ?_ ?_ (hne 1) (hne 2) (hne 3) (hne 4) _ fun X lo U hlo=>?_
 ·simp -dsimp only[go_sem,bA,cA,hne0,hne1,gv]
 ·simp -dsimp only[go_sem,bA,aA,cA,reduceCtorEq]
 ·simp -dsimp only[go_sem,bA,aA,cA,reduceCtorEq]
 ·simp -dsimp only[go_sem,bA,aA,cA,reduceCtorEq]
 ·simp -dsimp only[go_sem,bA,aA,cA,reduceCtorEq]
 have un:X.n=H.n+5:=U.n.trans (by simp -dsimp only[go_sem,cA])
 have o1:X.get (H.n+1)=some (.cells [.ptr bv a] 185):=(U.old _ (hne 1)).trans (by simp -dsimp only[go_sem,bA,aA,cA,reduceCtorEq])
 have o2:X.get (H.n+2)=some (.cells [.ptr bv b] 185):=(U.old _ (hne 2)).trans (by simp -dsimp only[go_sem,bA,aA,cA,reduceCtorEq])
 have o3:X.get (H.n+3)=some (.cells [.ptr bv c] 185):=(U.old _ (hne 3)).trans (by simp -dsimp only[go_sem,bA,aA,cA,reduceCtorEq])
 have o4:X.get (H.n+4)=some (.cells [.ptr bv d] 185):=(U.old _ (hne 4)).trans (by simp -dsimp only[go_sem,bA,aA,cA,reduceCtorEq])
 have oo:∀j,j<H.n->j≠bv->X.get j=H.get j:=fun j hj hjb=>by
  rw[U.old j hjb]
  have e0:∀k,(j=H.n+k)=False:=fun k=>by simp;omega
  have e1:(j=H.n)=False:=by simp;omega
  simp -dsimp only[go_sem,bA,cA,e0,e1]
 simp -dsimp only[go_sem]
 refine LB zm ?_
 simp -dsimp only[go_sem,bA,aA,reduceCtorEq]
 refine oB ?_
 simp -dsimp only[go_sem,aA,reduceCtorEq]
 have l1:(gS v a b c d x 16 12).length=16:=by rw[zll,hv]
 refine wW _ l1 a b c d ha hb hc hd y 8 7 (by decide) (by decide) bv (H.n+1) (H.n+2) (H.n+3) (H.n+4) e X U.at_ o1 o2 o3 o4 (hne 1) (hne 2) (hne 3) (hne 4) _ fun Y lo2 U2 hlo2=>?_
 simp -dsimp only[go_sem]
 have u2:=U2.n
 simp only[iA,kA] at hlo
 refine nB (hQ Y _ (by omega) U2.at_ (fun j hj hjb=>by rw[U2.old j hjb,oo j hj hjb]) (by omega))
def pO(c:UInt8):Int:=if 97<=(c.toNat:Int) then IntKind.i64.wrap (IntKind.i64.wrap (IntKind.u8.wrap ((c.toNat:Int)-97))+10) else IntKind.i64.wrap (IntKind.u8.wrap ((c.toNat:Int)-48))
noncomputable def VV:List V->Heap->Option OR:=PL (fun p:UInt8=>match p with|c=>[PE c]) fun p=>match p with|c=>vA (pO c)
theorem Ac(c:UInt8)(H:Heap)(Q:OR->Prop)(hQ:Q ⟨vA (pO c),H,H.n⟩):MCall Cx 134 [PE c] H Q:=by
 refine QA zm (fn:=Tryz.f134) Tryz.func134 rfl (by decide) (k:=12) rfl (rs:=[.tmp 2]) rfl ?_
 simp -dsimp only[go_sem,bA,aA,reduceCtorEq]
 refine aB (fun h=>?_) (fun h=>?_)<;>simp -dsimp only[go_sem,bA,aA,reduceCtorEq,gA,h]
 ·refine AA (by omega) rfl ?_
  rwa [pO,if_pos h] at hQ
 ·refine AA (by omega) rfl ?_
  rwa [pO,if_neg h] at hQ
theorem OZ:CI Cx 134 VV:=EM fun p H Q hQ=>match p,hQ with|c,hQ=>Ac c H Q hQ
@[go_sem] theorem e_134(c:UInt8)(H:Heap):VV [PE c] H=some ⟨vA (pO c),H,H.n⟩:=FM (by simp+contextual [Int.ofNat_inj,UInt8.toNat_inj]) c H
def YT(k:Nat):UInt8:=UInt8.ofNat (if k<10 then 48+k else 87+k)
theorem znh:∀k<16,pO (YT k)=(k:Int):=by decide
def NL(o:List Nat):ByteArray:=⟨(o.map YT).toArray⟩
def uL:V:=.agg (ordersW.map fun o=>gE (NL o))
@[go_sem] theorem wj:zE fA 125=some ((oA 8 (0:UInt32)).map qC):=by kernel_rfl
@[go_sem] theorem cg:zE fA 153=some ((oA 16 (0:UInt32)).map qC):=by kernel_rfl
@[go_sem] theorem G7:zE fA 156=some (oA 10 (gE .empty)):=by kernel_rfl
@[go_sem] theorem ba:fL fA 125 [(0,.lit (.int .u32 1779033703)),(1,.lit (.int .u32 3144134277)),(2,.lit (.int .u32 1013904242)),(3,.lit (.int .u32 2773480762)),(4,.lit (.int .u32 1359893119)),(5,.lit (.int .u32 2600822924)),(6,.lit (.int .u32 528734635)),(7,.lit (.int .u32 1541459225))]=some (.agg (ivW.map qC)):=by kernel_rfl
theorem Y1{t n:Nat}{cs:List V}(ha:uM fA t=some true)(hs:EF fA t=some n)(h:cs.length=n):QE fA t cs 0=some (.agg cs):=by
 rw[TM fA t ha hs,if_pos (by omega),UA,uA (by omega)]
theorem RR(l:List UInt32):(l.map qC).all HB=true:=by simp[HB]
theorem zo0{l:List UInt32}(h:l.length=8):QE fA 125 (l.map qC) 0=some (.agg (l.map qC)):=Y1 zqF zmX (by simpa using h)
theorem RU{l:List UInt32}(h:l.length=16):QE fA 153 (l.map qC) 0=some (.agg (l.map qC)):=Y1 WS pR (by simpa using h)
theorem yM{l m:List UInt32}(h:l.length=m.length):zD (m.map qC) 0 (l.map qC)=some (l.map qC):=DM _ _ (by simpa using h)
theorem d4:ivW.length=8:=rfl
noncomputable def QV:List V->Heap->Option OR:=PL (fun p:Unit=>match p with|()=>[]) fun p=>match p with|()=>.agg (ivW.map qC)
theorem Zb (H:Heap) (Q:OR->Prop) (hQ:Q ⟨.agg (ivW.map qC),H,H.n⟩):MCall Cx 115 [] H Q:=by
 refine QA zm (fn:=Tryz.f115) Tryz.func115 rfl (by decide) (k:=2) rfl (rs:=[.cell 0 125]) rfl ?_
 simp -dsimp only[go_sem,bA,reduceCtorEq]
 simp -dsimp only[go_sem,bA,reduceCtorEq,gA,bC,RR,yM (l:=ivW) (m:=oA 8 0) rfl,zo0 (l:=ivW) rfl,d4]
 exact AA (by omega) rfl hQ
theorem FQ:CI Cx 115 QV:=EM fun p H Q hQ=>match p,hQ with|(),hQ=>Zb  H Q hQ
@[go_sem] theorem Qa (H:Heap):QV [] H=some ⟨.agg (ivW.map qC),H,H.n⟩:=FM (by simp+contextual) () H
@[go_sem] theorem nY:fL fA 156 [(0,.lit (.string ⟨#[48,49,50,51,52,53,54,55,56,57,97,98,99,100,101,102]⟩)),(1,.lit (.string ⟨#[101,97,52,56,57,102,100,54,49,99,48,50,98,55,53,51]⟩)),(2,.lit (.string ⟨#[98,56,99,48,53,50,102,100,97,101,51,54,55,49,57,52]⟩)),(3,.lit (.string ⟨#[55,57,51,49,100,99,98,101,50,54,53,97,52,48,102,56]⟩)),(4,.lit (.string ⟨#[57,48,53,55,50,52,97,102,101,49,98,99,54,56,51,100]⟩)),(5,.lit (.string ⟨#[50,99,54,97,48,98,56,51,52,100,55,53,102,101,49,57]⟩)),(6,.lit (.string ⟨#[99,53,49,102,101,100,52,97,48,55,54,51,57,50,56,98]⟩)),(7,.lit (.string ⟨#[100,98,55,101,99,49,51,57,53,48,102,52,56,54,50,97]⟩)),(8,.lit (.string ⟨#[54,102,101,57,98,51,48,56,99,50,100,55,49,52,97,53]⟩)),(9,.lit (.string ⟨#[97,50,56,52,55,54,49,53,102,98,57,101,51,99,100,48]⟩))]=some uL:=by kernel_rfl
def ordC:List V:=ordersW.map fun o=>gE (NL o)
theorem VZ:uL=.agg ordC:=rfl
theorem sQ:ordC.length=10:=rfl
theorem NQ:ordC.all HB=true:=rfl
theorem zoZ:QE fA 156 ordC 0=some (.agg ordC):=Y1 XS qR rfl
theorem LU:zD (oA 10 (gE .empty)) 0 ordC=some ordC:=DM _ _ rfl
noncomputable def TV:List V->Heap->Option OR:=PL (fun p:Unit=>match p with|()=>[]) fun p=>match p with|()=>uL
theorem tc (H:Heap) (Q:OR->Prop) (hQ:Q ⟨uL,H,H.n⟩):MCall Cx 131 [] H Q:=by
 refine QA zm (fn:=Tryz.f131) Tryz.func131 rfl (by decide) (k:=2) rfl (rs:=[.cell 0 156]) rfl ?_
 simp -dsimp only[go_sem,bA,reduceCtorEq]
 simp -dsimp only[go_sem,bA,reduceCtorEq,gA,VZ,sQ,NQ,zoZ,LU]
 exact AA (by omega) rfl hQ
theorem LZ:CI Cx 131 TV:=EM fun p H Q hQ=>match p,hQ with|(),hQ=>tc  H Q hQ
@[go_sem] theorem e_131 (H:Heap):TV [] H=some ⟨uL,H,H.n⟩:=FM (by simp+contextual) () H
theorem UZ:∀i:Nat,i<10->vN fA 156 uL (vA i)=some (gE (NL (ordersW.getD i [])))
 | 0,_=>by kernel_rfl
 | 1,_=>by kernel_rfl
 | 2,_=>by kernel_rfl
 | 3,_=>by kernel_rfl
 | 4,_=>by kernel_rfl
 | 5,_=>by kernel_rfl
 | 6,_=>by kernel_rfl
 | 7,_=>by kernel_rfl
 | 8,_=>by kernel_rfl
 | 9,_=>by kernel_rfl
 | i+10,h=>by omega
theorem vU:∀i<10,∀j<16,(NL (ordersW.getD i [])).data.toList[j]?=some (YT ((ordersW.getD i []).getD j 0)):=by decide
theorem RQ:∀i<10,∀j<16,(ordersW.getD i []).getD j 0<16:=by decide
def N4(k i:Int):Int:=IntKind.i64.wrap (IntKind.i64.wrap (k*4)+(IntKind.i64.wrap (i+IntKind.i64.wrap (k*IntKind.i64.wrap (i.tdiv 4)))).tmod 4)
theorem Hc(k i:Int)(b:Nat)(H:Heap)(hb:H.get b=some (.cells [vA i] 3))(Q:OR->Prop)(hQ:Q ⟨vA (N4 k i),H,H.n⟩):MCall Cx 153 [vA k,.ptr b 0] H Q:=by
 refine mB (fn:=Tryz.f153) Tryz.func153 rfl (by decide) (k:=14) rfl (rs:=[.tmp 3]) rfl ?_
 refine LB zm ?_
 simp -dsimp only[go_sem,bA,aA,cA,reduceCtorEq,gA,hb,nV _ _ _ _ _ (show(4:Int)≠0 by decide),J3 _ _ _ _ _ (show(4:Int)≠0 by decide)]
 exact AA (by omega) rfl hQ
noncomputable def UV:List V->Heap->Option OR:=PL (fun p:Unit=>match p with|()=>[]) fun p=>match p with|()=>.fn (.func 152) [] []
theorem wc (H:Heap) (Q:OR->Prop) (hQ:Q ⟨.fn (.func 152) [] [],H,H.n⟩):MCall Cx 132 [] H Q:=by
 refine QA zm (fn:=Tryz.f132) Tryz.func132 rfl (by decide) (k:=1) rfl (rs:=[.tmp 0]) rfl ?_
 simp -dsimp only[go_sem,bA,gA]
 exact AA (by omega) rfl hQ
theorem NZ:CI Cx 132 UV:=EM fun p H Q hQ=>match p,hQ with|(),hQ=>wc  H Q hQ
@[go_sem] theorem e_132 (H:Heap):UV [] H=some ⟨.fn (.func 152) [] [],H,H.n⟩:=FM (by simp+contextual) () H
end
section
open Go Go.Tw
open Classical
theorem zhR:∀s:List UInt8,EL (row zT s)=some s
 | []=>rfl
 | b::s=>by
  have ih:=zhR s
  rw[SL] at ih ⊢
  simp only[NC,PE,EL,ih,Option.map_some]
  simp
theorem znP{X:Heap}{k:Nat}{s:List UInt8}(h:s≠[]->X.get k=some (.cells (row zT s) 5)):bL fA X 76 9 (iH s k)=some ⟨.lit (.string ⟨s.toArray⟩),X,X.n⟩:=by
 by_cases e:s=[]
 ·subst e
  show bL fA X 76 9 (.lit (.slice none 0 0))=_
  unfold bL
  rw[TA,cD]
  simp only[pD]
  rfl
 ·have hg:=h e
  rw[iH,ZR e]
  unfold bL
  rw[TA,cD]
  have hl:(row zT s).length=s.length:=by rw[SL,bC]
  simp only[pD,mJ,cellsOf,hg,pA,KA,UA,hl]
  simp[zhR,<-hl]
noncomputable def cS(v:GV):ByteArray×Int:=if ZL v then(⟨(ED v).toArray⟩,0) else(.empty,1)
theorem m_41(hAI:bP)(v:GV)(hw:v.wf)(hnu:GN v)(hsm:nJ v 8=true->(ED v).length<=1048576)(H:Heap)(Q:OR->Prop)(hQ:Q ⟨.tup [gE (cS v).1,vA (cS v).2],H,H.n⟩):MCall Cx 41 [.agg (zR v)] H Q:=by
 refine QA zm (fn:=Tryz.f41) Tryz.func41 rfl (by decide) (k:=10) rfl (rs:=[.tmp 2,.tmp 3]) rfl ?_
 simp -dsimp only[go_sem,bA,aA,reduceCtorEq]
 refine oB ?_
 refine vZ hAI v hw hnu hsm _ _ ?_
 simp -dsimp only[go_sem,bA,aA,reduceCtorEq]
 cases h:ZL v<;>simp -dsimp only[go_sem,bA,aA,reduceCtorEq,gA]
 ·refine AA (by omega) rfl ?_
  have e:cS v=(.empty,1):=by rw[cS,h];rfl
  rw[e] at hQ;exact hQ
 have hs:nJ v 8=true:=by simp only[ZL,wA] at h;exact h.1
 refine oB ?_
 refine CZ hAI v 8 hs hw hnu [] 0 _ (fun g=>absurd rfl g) (by simpa using hsm hs) _ fun X k lo hB hlo=>?_
 have hn:=hB.n
 rw[iA] at hn
 unfold lob at hlo
 rw[if_pos rfl,iA] at hlo
 simp -dsimp only[go_sem,bA,aA,reduceCtorEq]
 refine rB (znP hB.cell) ?_
 simp -dsimp only[go_sem,bA,aA,reduceCtorEq,gA]
 refine AA (by omega) rfl ?_
 have e:cS v=(⟨(ED v).toArray⟩,0):=by rw[cS,h];rfl
 rw[e] at hQ;exact hQ
end
end Go.Proofs.YtookdinfaoelaaaGreatDoor
namespace Go.Tw
section
section
variable {C:Ctx} {nt:Nat} {ro:Option Nat} {H0:Heap}
theorem zhP{h:Nat->Prop}{wro:Option Nat}{o:yK}{ops:Array Oper}{l2:List Oper}{Qw:Exit->Act->World->Prop}{Qo:St->Prop}(hk:∀st' s' w' a',Qo st'->SR C h nt ro wro o s' w' st' a'->wpListIn (WF wro) 0 C.P ops Qw l2 a' w'):
  ∀(l:List Oper) (st:St) (s:Nat->Option Nat) (w:World) (a:Act),lM C nt (ops.toList.map (·.dst)) l st Qo->SR C h nt ro wro o s w st a->wpListIn (WF wro) 0 C.P ops Qw (l++l2) a w
 | [],st,s,w,a,hv,R=>hk st s w a hv R
 | x::l,st,s,w,a,hv,R=>by
  obtain⟨hd,hv⟩:=hv
  refine wpListIn_step fun K hK=>?_
  have skip:lM C nt (ops.toList.map (·.dst)) l ⟨OG st.T x.dst EH,st.H,min st.lo st.H.n⟩ Qo->K (a.put x.dst undef) w:=fun hv=>by
   refine hK _ _ (zhP hk l _ s w _ hv ?_)
   exact R.step hd (r:=⟨EH,st.H,st.H.n⟩) (c:=undef) ⟨#[],rfl,by simp[VRs]⟩ R.hr (Ext.refl _ _ _)
  have go:BM C (HD C st.T) st.H x.op (fun r=>lM C nt (ops.toList.map (·.dst)) l ⟨OG st.T x.dst r.v,r.H,min st.lo r.lo⟩ Qo)->x.wpIn (WF wro) 0 C.P a w K Qw:=fun hv=>
   zo6 hv R.hr R.gk (fun y=>XM R.gk R.tm y) fun r hr c w' s' h1 h2 h3=>hK _ _ (zhP hk l _ s' w' _ hr (R.step hd h1 h2 h3))
  unfold Oe at hv
  have hw:∀r,XJ ops st.T x=some r->Region.wanted x (yielded ops a.tmps)=r:=fun r hr=>Bj R.tm hr
  split at hv
  ·rename_i hgd
   rw[hw true (by simp only[XJ,hgd])]
   exact go hv
  ·rename_i j want hgd
   split at hv
   ·exact hv.elim
   ·rename_i d hdd
    replace hdd:(ops[j]?).bind (·.dst)=some d:=by
     rw[<-hdd,uB,Array.getElem?_toList]
     cases ops[j]?<;>rfl
    split at hv
    ·rename_i b hb
     rw[hw (bif want then b else !b) (by simp only[XJ,hgd,hdd,hb])]
     cases hbw:(bif want then b else !b) with
     | true=>rw[hbw] at hv;exact go hv
     | false=>
      rw[hbw] at hv
      simp only[ZA,if_false]
      exact⟨fun _ _=>trivial,skip hv⟩
    ·rename_i hb
     rw[hw false (by simp only[XJ,hgd,hdd,hb])]
     simp only[ZA,if_false]
     exact⟨fun _ _=>trivial,skip hv⟩
    ·exact hv.elim
structure CutO(C:Ctx)(nt:Nat)(ro:Option Nat)(H0:Heap)(ds:List (Option Tmp))(l:List Oper)(T:Tr V)(H:Heap)(lo:Nat)(Q:St->Prop)(h:Hid (ds,l,Q)):Prop where
 mk'::
 out:∃st2,Sub C nt ro H0 ⟨T,H,lo⟩ st2/\lM C nt ds l st2 Q
theorem WW.cutr{os:List Oper}{i:Nat}{T:Tr V}{H:Heap}{lo:Nat}{Q:Ex->St->Prop}{h:Hid (Code.region i ⟨os⟩ false,Q)}(k:Nat)(l1 l2:List Oper)(e1:os.take k=l1)(e2:os.drop k=l2)
  (hv:VO C nt (os.map (·.dst)) l1 T H lo (fun st=>CutO C nt ro H0 (os.map (·.dst)) l2 st.T st.H st.lo (Q .normal) .mk) .mk):WW C nt ro H0 (.region i ⟨os⟩ false) T H lo Q h:=by
 subst e1 e2
 refine⟨fun h wro o s w a Qw og R hk=>wpIn_region_list ?_⟩
 have e:os=os.take k++os.drop k:=(eC k os).symm
 have:=zhP (C:=C) (nt:=nt) (ro:=ro) (h:=h) (wro:=wro) (o:=o) (ops:=⟨os⟩) (l2:=os.drop k) (Qw:=Qw) (fun st' s' w' a' q R'=>by
  obtain⟨st2,hs,hv2⟩:=q.out
  obtain⟨s2,R2⟩:=hs h wro o s' w' a' og R'
  exact F2 (ops:=⟨os⟩) (fun st3 s3 w3 a3 q3 R3=>hk .normal st3 s3 w3 a3 q3 R3) _ _ _ _ _ hv2 R2) (os.take k) _ _ _ _ hv.out R
 rw[<-e] at this
 exact this
theorem CutO.frz{ds:List (Option Tmp)}{l':List Oper}{T:Tr V}{H':Heap}{lo':Nat}{Q:St->Prop}{h:Hid (ds,l',Q)}(Bs:List Blk)(l:List (Nat×V))(hn:H0.n+Bs.length<=H'.n)(he:∀b,b<H0.n->H'.get b=H0.get b)(hlo:H0.n<=lo')(hro:∀b,ro=some b->b<H0.n)
  (hB:∀(i:Nat) (B:Blk),Bs[i]?=some B->∃B',H'.get (H0.n+i)=some B'/\RNb (pI (H0.n+Bs.length)) (fun b=>H0.n+Bs.length<=b) H' B' B)
  (hl:∀p∈l,RN (pI (H0.n+Bs.length)) (fun b=>H0.n+Bs.length<=b) H' (PD T p.1) p.2) (k:VO C nt ds l' (jH l) (wC H0 Bs) H0.n Q .mk):CutO C nt ro H0 ds l' T H' lo' Q h:=
 ⟨_,Sub.frz Bs l hn he hlo hro hB hl,k.out⟩
end
end
end Go.Tw
namespace Go.Proofs.YtookdinfaoelaaaGreatDoor
section
open Go Go.Tw
open Classical
noncomputable def CU(xs:List V)(v:V):List V->Heap->Option OR:=fun bs H=>if bs=xs then some ⟨v,H,H.n⟩ else none
theorem uO{C:Ctx}{g:FuncId}{xs:List V}{v:V}(h:∀H,MCall C g xs H (·=⟨v,H,H.n⟩)):CI C g (CU xs v):=by
 intro args H r hr
 unfold CU at hr
 split at hr
 ·rename_i e
  injection hr with hr
  subst e hr
  exact h H
 ·cases hr
@[go_sem] theorem Gi(xs:List V)(v:V)(H:Heap):CU xs v xs H=some ⟨v,H,H.n⟩:=by simp[CU]
section
variable {P:Program} {l:Tab} {r:Operand->V} {H:Heap}
@[go_sem] theorem C6(a b:Operand)(t0 t1:TypeId):kH P l r H (.call { callee:=.builtin .append,args:=#[a,b],argTypes:=#[t0,t1] })=DH P H t0 t1 (r a) (r b):=rfl
end
mutual
def CK:GV->Prop
 | .mk k n t l ks=>(l.length<=1048575/\ks.length<=1048575)/\b8 l
def b8:List GV->Prop
 | []=>True
 | v::vs=>CK v/\b8 vs
end
theorem zi4:∀{l:List GV},b8 l->∀x∈l,CK x
 | [],_,x,hx=>by cases hx
 | v::vs,h,x,hx=>by
  rcases IB.1 hx with rfl|hx
  ·exact h.1
  ·exact zi4 h.2 x hx
theorem eg{v:GV}(h:CK v):v.list.length<=1048575/\v.keys.length<=1048575:=by cases v;exact h.1
theorem zhT{v:GV}(h:CK v):∀x∈v.list,CK x:=by cases v;exact zi4 h.2
def RowAt(n:Nat)(X:Heap)(lv:V)(len:Nat)(cs:List V):Prop:=
 (len=0/\(lv=.lit (.slice none 0 0)\/lv=.pn [] 0))\/∃b cap tag rest e,lv=.sl b 0 len cap tag/\len<=cap/\n<=b/\X.get b=some (.cells (cs++rest) e)
theorem RowAt.fz{n:Nat}{X:Heap}{lv:V}{len:Nat}{cs us:List V}{Z:Nat->Prop}(h:RowAt n X lv len cs)(hZ:∀b,n<=b->Z b)(hf:Fzs Z X cs us)(h0:len=0->us=[]):Fz Z X lv (.pn us len):=by
 rcases h with⟨h1,h2⟩|⟨b,cap,tag,rest,e,rfl,h2,h3,h4⟩
 ·rw[h0 h1,h1]
  rcases h2 with rfl|rfl
  ·exact .nil
  ·exact .self _ rfl
 ·refine .sl b 0 len cap tag (cs++rest) e cs.length us (hZ b h3) h4 h2 ?_
  rw[UA,List.take_left']
  ·exact hf
  ·rfl
theorem RowAt.of{n:Nat}{X Y:Heap}{lv:V}{len:Nat}{cs:List V}(h:RowAt n X lv len cs)(ho:∀j,n<=j->j<X.n->Y.get j=X.get j):RowAt n Y lv len cs:=by
 rcases h with h|⟨b,cap,tag,rest,e,h1,h2,h3,h4⟩
 ·exact .inl h
 ·exact .inr ⟨b,cap,tag,rest,e,h1,h2,h3,by rw[ho b h3 (zq h4),h4]⟩
theorem RowAt.lower{n m:Nat}{X:Heap}{lv:V}{len:Nat}{cs:List V}(hm:m<=n)(h:RowAt n X lv len cs):RowAt m X lv len cs:=by
 rcases h with h|⟨b,cap,tag,rest,e,h1,h2,h3,h4⟩
 ·exact .inl h
 ·exact .inr ⟨b,cap,tag,rest,e,h1,h2,Nat.le_trans hm h3,h4⟩
abbrev cG(v:GV)(lv kv:V):List V:=[vA v.kind,vA v.num,gE v.text,lv,kv]
theorem J9{H:Heap}{s:List GV}{x:GV}{b n c:Nat}{o:Option Nat}{K:OR->Prop}{h:Hid K}(hb:s≠[]->H.get b=some (.cells (row zR s) 36))(hn:H.get n=some (.cells (zR x) 36))(hsm:s.length<1048576)
  (k:∀X k,Bf zR 36 H b s X k (s++[x])->K ⟨pG 5 (s++[x]) k,X,lob H b s⟩):OO (DH fA H 33 33 (pG 5 s b) (.sl n 0 1 c o)) K h:=by
 refine Tf (new:=[x]) zF OB OB (by intro q h;cases h) dl A8 LN hb rfl (by simp) ?_ (mL B7 _) (by simp;omega) k
 show cellsOf H 5 1 _=_
 rw[cells_sl hn (jA _) (by rw[zF];omega)]
 rw[iJ,xX,MA,UA,uA (by rw[zF];simp)]
theorem bW{H:Heap}{s:List GNode}{x:GNode}{b n c:Nat}{o:Option Nat}{K:OR->Prop}{h:Hid K}(hb:s≠[]->H.get b=some (.cells (row za s) 38))(hn:H.get n=some (.cells (za x) 38))(hsm:s.length<1048576)
  (k:∀X k,Bf za 38 H b s X k (s++[x])->K ⟨pG 41 (s++[x]) k,X,lob H b s⟩):OO (DH fA H 22 22 (pG 41 s b) (.sl n 0 1 c o)) K h:=by
 refine Tf (new:=[x]) zg FA FA (by intro q h;cases h) QO FN XO hb rfl (by simp) ?_ (mL VN _) (by simp;omega) k
 show cellsOf H 41 1 _=_
 rw[cells_sl hn (jA _) (by rw[zg];omega)]
 rw[iJ,xX,MA,UA,uA (by rw[zg];simp)]
theorem I9{H:Heap}{s:List GRev}{x:GRev}{b n c:Nat}{o:Option Nat}{K:OR->Prop}{h:Hid K}(hb:s≠[]->H.get b=some (.cells (row ze s) 32))(hn:H.get n=some (.cells (ze x) 32))(hsm:s.length<1048576)
  (k:∀X k,Bf ze 32 H b s X k (s++[x])->K ⟨pG 17 (s++[x]) k,X,lob H b s⟩):OO (DH fA H 47 47 (pG 17 s b) (.sl n 0 1 c o)) K h:=by
 refine Tf (new:=[x]) zi GB GB (by intro q h;cases h) gl B8 KN hb rfl (by simp) ?_ (mL UR _) (by simp;omega) k
 show cellsOf H 17 1 _=_
 rw[cells_sl hn (jA _) (by rw[zi];omega)]
 rw[iJ,xX,MA,UA,uA (by rw[zi];simp)]
theorem rO{t n:Nat}{cs:List V}(ha:uM fA t=some true)(hs:EF fA t=some n)(h:cs.length=n):QE fA t cs 0=some (.agg cs):=by
 rw[TM fA t ha hs,if_pos (by omega),UA,uA (by omega)]
theorem cQ{Z:Nat->Prop}{X:Heap}(v:GV){lv kv:V}(h1:Fz Z X lv (NB zR v.list))(h2:Fz Z X kv (NB RH v.keys)):Fz Z X (.agg (cG v lv kv)) (.agg (zR v)):=by
 rw[WJ]
 exact .agg _ _ (.cons _ _ _ _ (.self _ rfl) (.cons _ _ _ _ (.self _ rfl) (.cons _ _ _ _ (.self _ rfl) (.two h1 h2))))
structure CpI(v:GV)(B N:Nat)(kv:V)(Z:Heap)(i:Nat)(X:Heap)(k:Nat):Prop where
 le:i<=v.list.length
 big:N<=X.n
 old:∀j,j<N->j≠B->X.get j=Z.get j
 var:X.get B=some (.cells (cG v (pG 5 (v.list.take i) k) kv) 36)
 bu:v.list.take i≠[]->N<=k/\X.get k=some (.cells (row zR (v.list.take i)) 36)
theorem zqf(v:GV)(hw:v.wf)(ht:CK v)(hrec:∀x∈v.list,∀H,MCall Cx 37 [.agg (zR x)] H (·=⟨.agg (zR x),H,H.n⟩))(H:Heap)(Q:OR->Prop)(hQ:Q ⟨.agg (zR v),H,H.n⟩):MCall Cx 37 [.agg (zR v)] H Q:=by
 refine mB (fn:=Tryz.f37) Tryz.func37 rfl (by decide) (k:=31) rfl (rs:=[.cell 2 36]) rfl ?_
 refine PA zm ?_
 simp -dsimp only[go_sem,bA,gA]
 refine PA zm ?_
 simp -dsimp only[go_sem,bA,aA,cA,reduceCtorEq]
 refine PA zm ?_
 simp -dsimp only[go_sem,bA]
 have hlk:=(eg ht).2
 have hll:=(eg ht).1
 generalize hX:(((H.push (.cells (zR v) 36)).push (.cells zV 36)).push (.cells zV 36)).set (H.n+2) (.cells (zR v) 36)=X
 have xn:X.n=H.n+3:=by rw[<-hX];simp -dsimp only[go_sem,cA]
 have x0:X.get H.n=some (.cells (zR v) 36):=by rw[<-hX];simp -dsimp only[go_sem,bA,cA,reduceCtorEq]
 have x1:X.get (H.n+1)=some (.cells zV 36):=by rw[<-hX];simp -dsimp only[go_sem,bA,aA,cA,reduceCtorEq]
 have x2:X.get (H.n+2)=some (.cells (zR v) 36):=by rw[<-hX];simp -dsimp only[go_sem,bA,aA,cA,reduceCtorEq]
 clear hX
 refine rB (KS iC zpi BO) ?_
 have y0:(X.push (.cells [] 9)).get H.n=some (.cells (zR v) 36):=by rw[zj _ (by omega),x0]
 simp -dsimp only[go_sem,bA,aA,reduceCtorEq,y0]
 refine rB (gM (n:=v.keys.length) (new:=row RH v.keys) iC iC (by intro q h;cases h) NN BO vT rfl ?_ (mL zgM _) (zr zC v.keys) (by omega)) ?_
 ·rw[Go.Tw.cellsOf]
  rw[if_pos ⟨jA _,by rw[zr zC];exact jA _⟩,uA (by rw[zr zC];exact jA _)]
 obtain⟨kv,Y,ekv,yn,yo,yk,vk,ok1⟩:∃kv Y,(if v.keys.length=0 then(⟨.sl X.n 0 0 0 none,X.push (.cells [] 9),X.n+1⟩:OR) else⟨.sl (X.n+1) 0 v.keys.length v.keys.length (some 1),(X.push (.cells [] 9)).push (.cells (row RH v.keys) 9),X.n+1⟩)=⟨kv,Y,X.n+1⟩/\X.n+1<=Y.n/\(∀j,j<X.n->Y.get j=X.get j)/\RowAt (H.n+3) Y kv v.keys.length (row RH v.keys)/\zG kv=some [kv]/\HB kv=true:=by
  by_cases e:v.keys.length=0
  ·rw[if_pos e]
   refine⟨_,_,rfl,by rw[iA];omega,fun j hj=>zj _ hj,.inr ⟨X.n,0,none,[],9,by rw[e],by omega,by omega,?_⟩,rfl,rfl⟩
   rw[yA,if_pos rfl,WA.1 e]
   rfl
  ·rw[if_neg e]
   refine⟨_,_,rfl,by rw[iA,iA];omega,fun j hj=>by rw[zj _ (by rw[iA];omega),zj _ hj],.inr ⟨X.n+1,v.keys.length,some 1,[],9,rfl,jA _,by omega,?_⟩,rfl,rfl⟩
   rw[yA,if_pos (by rw[iA]),MA]
 rw[ekv]
 have sp4:zD (zR v) 4 [kv]=some (cG v (NB zR v.list) kv):=by
  cases v
  rw[zR,Qj]
  rfl
 have y2:Y.get (H.n+2)=some (.cells (zR v) 36):=by rw[yo _ (by omega),x2]
 have hlt:H.n+2<Y.n:=by omega
 have tL:[kv].all HB=true:=by simp[ok1]
 have e1:[kv].length=1:=rfl
 simp -dsimp only[go_sem,bA,aA,reduceCtorEq,y2,sp4,vk,tL,e1]
 generalize hZ:Y.set (H.n+2) (.cells (cG v (NB zR v.list) kv) 36)=Z
 have zn:Z.n=Y.n:=by rw[<-hZ,kA]
 have zo:∀j,j≠H.n+2->Z.get j=Y.get j:=fun j hj=>by rw[<-hZ,dA,if_neg (fun h=>hj h.1)]
 have z2:Z.get (H.n+2)=some (.cells (cG v (NB zR v.list) kv) 36):=by rw[<-hZ,dA,if_pos ⟨rfl,hlt⟩]
 clear hZ
 refine WW.keepl H.n [(1,.ptr H.n 0),(2,.ptr (H.n+1) 0),(3,.ptr (H.n+2) 0)] (by omega) zSl ?_
 have hlz:H.n+2<Z.n:=by omega
 refine LB zm ?_
 simp -dsimp only[go_sem,bA,aA,zf,zh,z2]
 have sp3:∀x y,zD (cG v x kv) 3 [y]=some (cG v y kv):=fun x y=>rfl
 generalize hZ1:Z.set (H.n+2) (.cells (cG v (.lit (.slice none 0 0)) kv) 36)=Z1
 have z1n:Z1.n=Y.n:=by rw[<-hZ1,kA,zn]
 have z1o:∀j,j≠H.n+2->Z1.get j=Y.get j:=fun j hj=>by rw[<-hZ1,dA,if_neg (fun h=>hj h.1),zo j hj]
 have z12:Z1.get (H.n+2)=some (.cells (cG v (.lit (.slice none 0 0)) kv) 36):=by rw[<-hZ1,dA,if_pos ⟨rfl,hlz⟩]
 refine WW.loop zm (ι:=Nat×Heap×Nat) (fun p=>[(1,.ptr H.n 0),(2,.ptr (H.n+1) 0),(3,.ptr (H.n+2) 0),(4,vA p.1)]) (fun p=>p.2.1) (fun _=>H.n)
  (fun p=>CpI v (H.n+2) Y.n kv Z1 p.1 p.2.1 p.2.2) (fun p=>v.list.length-p.1) (0,Z1,0) ⟨by omega,vH z1n.symm,fun _ _ _=>rfl,by rw[z12];rfl,fun h=>absurd rfl h⟩ ?_ ?_
 ·refine(MB (lo2:=H.n) (by omega)).trans (RB _ zSl)
 rintro⟨i,X,k⟩ hI
 simp only at hI ⊢
 obtain⟨hi,hbig,hold,hvar,hbu⟩:=hI
 have h0:X.get H.n=some (.cells (zR v) 36):=by rw[hold _ (by omega) (by omega),z1o _ (by omega),yo _ (by omega),x0]
 have h1:X.get (H.n+1)=some (.cells zV 36):=by rw[hold _ (by omega) (by omega),z1o _ (by omega),yo _ (by omega),x1]
 simp -dsimp only[go_sem,bA,aA,zf,zh,h0]
 refine aB (fun h=>?_) (fun h=>?_)<;>simp -dsimp only[go_sem,bA,aA,h]
 ·obtain⟨x,hx⟩:=zu h
  refine DR.wr _ ((CA (uO (hrec x (IA hx))) xA)) [(1,3),(1,6),(1,7),(1,8)] (by kernel_rfl) (by kernel_rfl) ?_
  simp -dsimp only[go_sem,bA,aA,h0,h,hvar,z7 zF hx]
  have xk:(X.push (.cells (zR x) 36)).get X.n=some (.cells (zR x) 36):=by rw[yA,if_pos rfl]
  refine J9 (x:=x) (fun hne=>by rw[zj _ (zq (hbu hne).2)];exact(hbu hne).2) xk (by rw[JB];omega) fun X2 k2 hB=>?_
  obtain⟨b1,b2,b3,b4⟩:=hB
  rw[iA] at b1 b2 b4
  have hne2:v.list.take i++[x]≠[]:=by simp
  have hv2:X2.get (H.n+2)=some (.cells (cG v (pG 5 (v.list.take i) k) kv) 36):=by
   rw[b2 _ (by omega) ?_,zj _ (by omega),hvar]
   by_cases e:v.list.take i=[]
   ·exact .inr e
   ·exact .inl (by have:=(hbu e).1;omega)
  have hlt2:H.n+2<X2.n:=by omega
  have htk:v.list.take (i+1)=v.list.take i++[x]:=by rw[yB,hx];rfl
  have vb:zG (pG 5 (v.list.take i++[x]) k2)=some [pG 5 (v.list.take i++[x]) k2]:=by rw[ZR hne2];rfl
  have ob:[pG 5 (v.list.take i++[x]) k2].all HB=true:=by rw[ZR hne2];rfl
  have lb:[pG 5 (v.list.take i++[x]) k2].length=1:=rfl
  have hlob:H.n<=lob (X.push (.cells (zR x) 36)) k (v.list.take i):=by
   unfold lob
   split
   ·rw[iA];omega
   ·rename_i e;have:=(hbu e).1;rw[iA];omega
  have k2n:Y.n<=k2:=by
   rcases b4 with⟨_,h4⟩|h4
   ·exact absurd (congrArg PB h4) (by simp)
   ·omega
  simp -dsimp only[go_sem,bA,aA,hv2,vb,ob,lb,sp3]
  generalize hX3:X2.set (H.n+2) (.cells (cG v (pG 5 (v.list.take i++[x]) k2) kv) 36)=X3
  refine zAg (i+1,X3,k2) ?_
  dsimp only
  refine⟨h,by rw[<-hX3,kA];omega,fun j hj hjb=>?_,?_,fun _=>⟨k2n,?_⟩⟩
  ·rw[<-hX3,dA,if_neg (fun h=>hjb h.1),b2 _ (by omega) ?_,zj _ (by omega),hold _ hj hjb]
   by_cases e:v.list.take i=[]
   ·exact .inr e
   ·exact .inl (by have:=(hbu e).1;omega)
  ·rw[<-hX3,dA,if_pos ⟨rfl,hlt2⟩,htk]
  ·rw[<-hX3,dA,if_neg (fun h=>by have:=h.1;omega),htk]
   exact b3 hne2
 ·have htk:v.list.take i=v.list:=uA (by omega)
  rw[htk] at hvar hbu
  have whole:∀lv,QE fA 36 (cG v lv kv) 0=some (.agg (cG v lv kv)):=fun lv=>rO Jg jV rfl
  have hl1:H.n+1<X.n:=by omega
  have vcb:∀lv,zG (.agg (cG v lv kv))=some (cG v lv kv):=fun lv=>rfl
  have obl:HB (pG 5 v.list k)=true:=by
   unfold pG OM
   split<;>rfl
  have spz:∀lv,zD zV 0 (cG v lv kv)=some (cG v lv kv):=fun lv=>rfl
  have onb:(cG v (pG 5 v.list k) kv).all HB=true:=by
   show(HB _&&(HB _&&(HB _&&(HB _&&(HB _&&true)))))=true
   rw[obl,ok1]
   rfl
  have lnb:∀lv,(cG v lv kv).length=5:=fun lv=>rfl
  simp -dsimp only[go_sem,aA,h1,hvar,hl1,whole,vcb,onb,lnb,spz]
  refine HC _ (by omega) (cQ v (Fz.buf (e:=36) zF TL (fun hne=>by have:=(hbu hne).1;omega) fun hne=>?_) ((yk.of fun j hj hj2=>?_).fz (fun b hb=>by omega) (Fzs.self (UH KO _)) fun h=>?_)) hQ
  ·have:=(hbu hne).1
   rw[dA,if_neg (fun h=>by have:=h.1;omega)]
   exact(hbu hne).2
  ·rw[dA,if_neg (fun h=>by have:=h.1;omega),hold _ hj2 (by omega),z1o _ (by omega)]
  ·rw[WA.1 h];rfl
theorem Oc(v:GV)(hw:v.wf)(ht:CK v)(H:Heap)(Q:OR->Prop)(hQ:Q ⟨.agg (zR v),H,H.n⟩):MCall Cx 37 [.agg (zR v)] H Q:=
 zqf v hw ht (fun x hx H=>Oc x (NF hw x hx) (zhT ht x hx) H _ rfl) H Q hQ
termination_by SizeOf.sizeOf v
decreasing_by exact WE hx
end
end Go.Proofs.YtookdinfaoelaaaGreatDoor
namespace Go.Tw

end Go.Tw
namespace Go.Proofs.YtookdinfaoelaaaGreatDoor
section
open Go Go.Tw
open Classical
@[go_sem] theorem Xf:zE fA 58=some [.lit (.map none)]:=by kernel_rfl
@[go_sem] theorem Yi(a b:V):zD [a] 0 [b]=some [b]:=rfl
theorem IsPar.gw{l:List GNode}{H X:Heap}{b:Nat}(h:IsPar l H b)(g:Gw H X):IsPar l X b:=by
 obtain⟨c,clk,h1,h2,h3⟩:=h.ex
 exact⟨c,clk,g.get h1,h2,h3⟩
theorem IsPar.kp{l:List GNode}{H X:Heap}{b k:Nat}(h:IsPar l H b)(g:Kp k H X)(hk:b≠k):IsPar l X b:=by
 obtain⟨c,clk,h1,h2,h3⟩:=h.ex
 exact⟨c,clk,by rw[g.old b (zq h1) hk,h1],h2,h3⟩
theorem m_60(l:List GNode)(x:GNode)(q b:Nat)(H:Heap)(hq:H.get q=some (.cells [.mp b] 58))(hp:IsPar l H b)(Q:OR->Prop)(hQ:Q ⟨.lit (.bool (decide (0<EK l x.rev))),H,H.n⟩):MCall Cx 60 [.agg (za x),.ptr q 0] H Q:=by
 obtain⟨c,clk,h1,h2,h3⟩:=hp.ex
 have hbn:=zq h1
 have hqn:=zq hq
 refine QA zm (fn:=Tryz.f60) Tryz.func60 rfl (by decide) (k:=9) rfl (rs:=[.tmp 3]) rfl ?_
 simp -dsimp only[go_sem,bA,aA,cA,reduceCtorEq]
 have e1:(q=H.n)=False:=by simp;omega
 simp -dsimp only[go_sem,bA,aA,cA,reduceCtorEq,e1,hq]
 refine OV.intro (Z3 (c:=c) (clk:=clk) (by simp -dsimp only[go_sem,show(b=H.n)=False by simp;omega,h1]) x.rev) ?_
 have e2:BH c x.rev=(EK l x.rev:Nat):=h3 x.rev
 have e3:((0:Int)<(EK l x.rev:Nat))=(0<EK l x.rev):=by simp
 simp -dsimp only[go_sem,bA,aA,cA,reduceCtorEq,gA,e2,e3]
 exact AA (by omega) rfl hQ
theorem Ma(f:V)(H:Heap)(Q:OR->Prop)(hQ:Q ⟨.pn [] 0,H,H.n⟩):MCall Cx 59 [.pn [] 0,f] H Q:=by
 refine QA zm (fn:=Tryz.f59) Tryz.func59 rfl (by decide) (k:=42) rfl (rs:=[.tmp 4]) rfl ?_
 simp -dsimp only[go_sem,bA,aA,cA,reduceCtorEq]
 refine oB ?_
 simp -dsimp only[go_sem,bA,aA,cA,reduceCtorEq]
 refine Vc [] f (fun _=>false) (by simp) H (fun x hx=>by cases hx) _ ?_
 rw[show CL (fun _:GNode=>false) []=-1 from rfl]
 simp -dsimp only[go_sem,bA,aA,cA,reduceCtorEq,gA]
 exact nB hQ
def zS(l:List GNode):List GNode:=l.filter fun n=>!decide (0<EK l n.rev)
theorem aU(l:List GNode)(hl:l.length<=1048576)(H:Heap)(Q:OR->Prop)(hQ:Q ⟨NB za (zS l),H,H.n⟩):MCall Cx 19 [AH l] H Q:=by
 refine QA zm (fn:=Tryz.f19) Tryz.func19 rfl (by decide) (k:=14) rfl (rs:=[.tmp 2]) rfl ?_
 simp -dsimp only[go_sem,bA,aA,reduceCtorEq]
 refine oB ?_
 simp -dsimp only[go_sem,bA,aA,reduceCtorEq]
 refine tZ l (by omega) H _ ?_
 have hp:IsPar l (H.push (mapM (l.map (·.parent)))) H.n:=zlr (by rw[yA,if_pos rfl])
 have hX:Gw H (H.push (mapM (l.map (·.parent)))):=.push
 have hn:H.n<(H.push (mapM (l.map (·.parent)))).n:=by rw[iA];omega
 generalize H.push (mapM (l.map (·.parent)))=X at hp hX hn ⊢
 simp -dsimp only[go_sem,bA,aA,reduceCtorEq]
 generalize hX1:(X.push (.cells [.lit (.map none)] 58)).set X.n (.cells [.mp H.n] 58)=X1
 have a1:X1.n=X.n+1:=by rw[<-hX1,kA,iA]
 have a2:X1.get X.n=some (.cells [.mp H.n] 58):=by rw[<-hX1,dA,if_pos ⟨rfl,by rw[iA];omega⟩]
 have a3:Gw X X1:=⟨by omega,fun j hj=>by rw[<-hX1,dA,if_neg (fun h=>absurd h.1 (by omega)),zj j hj]⟩
 refine oB ?_
 simp -dsimp only[go_sem,bA,aA,reduceCtorEq]
 refine Qc l hl X1 _ fun Y k lo1 hY hlo1 hk=>?_
 have y1:=hY.n
 simp -dsimp only[go_sem]
 by_cases h0:l=[]
 ·subst h0
  refine oB ?_
  simp -dsimp only[go_sem,bA,aA,reduceCtorEq,gA]
  refine Ma _ _ _ ?_
  simp -dsimp only[go_sem]
  exact HC (.pn [] 0) (by omega) (.self _ rfl) hQ
 ·have e1:XH 41 l k=.sl k 0 l.length l.length (some 41):=if_neg h0
  obtain⟨hk1,hk2⟩:=hk h0
  rw[e1]
  refine oB ?_
  simp -dsimp only[go_sem,bA,aA,reduceCtorEq,gA]
  refine qd l (.fn (.func 60) [] [.ptr X.n 0]) (fun n=>decide (0<EK l n.rev)) hl k Y hk2 (fun Z hZ x hx Q' hQ'=>?_) _ fun Z lo2 m tl hZ hlo2 hm htl hkZ=>?_
  ·refine MVal.fn ?_
   refine m_60 l x X.n H.n Z ?_ ?_ Q' hQ'
   ·rw[hZ.old X.n (by omega) (by omega),hY.get a2]
   ·exact((hp.gw a3).gw hY).kp hZ (by omega)
  ·have z1:=hZ.n
   simp -dsimp only[go_sem]
   have hfl:(l.filter fun n=>!decide (0<EK l n.rev)).length<=l.length:=List.length_filter_le _ _
   refine HC (NB za (zS l)) (by omega) ?_ hQ
   subst hm
   refine Fz.slice ((zS l).length*41) (Z:=fun b=>H.n<=b) (show H.n<=k by omega) hkZ hfl ?_ (UH zK _)
   rw[UA,jB (by rw[zr zg];exact jA _),uA (by rw[zr zg];exact jA _)]
   rfl
end
end Go.Proofs.YtookdinfaoelaaaGreatDoor
