/- Own work for this claim, part 9 of 17. No condition of its own. -/
import Derived.Test.YtookdinfaoelaaaGreatDoorX07
import Derived.Test.YtookdinfaoelaaaGreatDoorX06
set_option linter.all false
set_option maxRecDepth 100000
set_option maxHeartbeats 4000000
open Array renaming getD→ZD,getElem?_eq_some_iff→LA,getElem_setIfInBounds→yE,getInternal_eq_getElem→ND,replicate→lC,size_setIfInBounds→nE
open BitVec renaming ofInt→EB
open Bool renaming and_eq_true→wA,false_eq_true→ZA,false_or→mI,or_eq_true→IC,or_true→sH
open Go.Proofs.Tryz renaming prog→fA,underlying58→VF,underlying76→TA
open Go.Region renaming binds→LC,ready→aC,wanted→oD
open Go.Tw.BR renaming dec→aB
open Go.Tw.Heap renaming get_push→yA,get_set→dA,n_push→iA,n_set→kA
open Go.Tw.MCall renaming of→QA
open Go.Tw.Res renaming bf→AA
open Int renaming eq_ofNat_of_zero_le→nF,ofNat_inj→PF
open List renaming all_cons→CD,all_eq_true→gB,append_assoc→XA,append_nil→MA,countP_append→CF,countP_le_length→OE,drop_eq_getElem_cons→DB,drop_of_length_le→uC,eq_nil_iff_forall_not_mem→qF,foldl_append→FG,forall_mem_cons→OA,getElem?_cons_succ→BB,getElem?_cons_zero→YA,getElem?_eq_getElem→sA,getElem?_eq_some_iff→rA,getElem?_map→uB,length_append→qA,length_cons→HA,length_drop→ZB,length_nil→SA,length_take→JB,map_append→QC,map_cons→NC,map_nil→jK,map_set→uH,mem_append→fH,mem_cons→IB,mem_map→oE,mem_map_of_mem→tJ,mem_of_getElem?→IA,mem_or_eq_of_mem_set→aI,mem_range→yD,mem_singleton→gD,nodup_append→kK,nodup_cons→JF,not_mem_nil→JA,range→CB,take_add_one→yB,take_of_length_le→uA
open Nat renaming blt→mD,blt_eq→AD,le_of_lt→bF,le_refl→jA,le_trans→cB,lt_or_ge→RA,min_self→gA,mod_eq_of_lt→kC,not_lt_zero→OD,reduceAdd→cA,reduceEqDiff→aA,reduceLT→bA,reduceLeDiff→sF,zero_le→KB
open Option renaming bind_eq_bind→pA,bind_some→KA,map_some→SB
open Option.some renaming injEq→lA
open UInt32 renaming ofNat→pB,toBitVec_xor→wJ
namespace Go.Proofs.YtookdinfaoelaaaGreatDoor
section
open Go Go.Tw
open Classical
theorem zh5:∀l m:List UInt8,l.length=m.length->PO (l.map PE) (m.map PE)=some (decide (l=m))
 | [],[],_=>by simp[PO]
 | [],_::_,h=>by simp at h
 | _::_,[],h=>by simp at h
 | x::l,y::m,h=>by
  have ih:=zh5 l m (by simpa using h)
  simp only[NC,PO,ih,OX,if_true,pA,KA,lA]
  by_cases e:x=y
  ·subst e;simp
  ·have:¬((x.toNat:Int)=y.toNat):=fun h=>e (UInt8.toNat_inj.1 (by exact_mod_cast h))
   simp[e,this]
theorem zkX(a b:GRev):lV (.agg (ze a)) (.agg (ze b))=some (decide (a=b)):=by
 obtain⟨g,s⟩:=a
 obtain⟨g',s'⟩:=b
 have h:=zh5 s.toList s'.toList (by simp)
 simp only[lV,ze,FH,PO,h,OX,if_true,pA,KA,lA]
 rw[Bool.eq_iff_iff]
 simp[Vector.toList_inj]
theorem zm1(a:GRev):HX (.agg (ze a)) (.agg (ze a))=true:=by
 unfold HX;rw[zkX];simp
abbrev MK:=List (GRev×Int×Nat)
def BI(c:MK):List (V×V×Nat):=c.map fun e=>(.agg (ze e.1),vA e.2.1,e.2.2)
def UK(r:GRev):MK->Nat->Option (Nat×Int×Nat)
 | [],_=>none
 | e::c,i=>if r=e.1 then some (i,e.2.1,e.2.2) else UK r c (i+1)
def BH(c:MK)(r:GRev):Int:=match UK r c 0 with
 | some (_,v,_)=>v
 | none=>0
theorem Ck(r:GRev):∀(c:MK) (i:Nat),JK fA 32 (.agg (ze r)) (BI c) i=some ((UK r c i).map fun p=>(p.1,vA p.2.1,p.2.2))
 | [],i=>rfl
 | e::c,i=>by
  have h1:=zmx 6 r e.1
  have h2:=zkX r e.1
  have ih:=Ck r c (i+1)
  simp only[BI,NC,JK,UK] at ih ⊢
  rw[h1,h2]
  simp only[pA,KA,if_true]
  by_cases e0:r=e.1
  ·simp[e0]
  ·simp only[e0,decide_false,ZA,if_false]
   exact ih
theorem zil(r:GRev):oM fA 9 32 (.agg (ze r))=true:=by
 have hs:oM fA 8 30 (.agg (FH r.sum))=true:=by
  rw[oM,Tryz.underlying30]
  simp only[iM,gB,yD,Nat.mul_one]
  intro i hi
  obtain⟨b,hb⟩:=zu (l:=r.sum.toList) (i:=i) (by simpa using hi)
  have:(FH r.sum)[i]?=some (PE b):=by rw[FH,uB,hb];rfl
  rw[WQ,this]
  simp only[oM,Tryz.underlying5]
  intro v h;cases h
 rw[oM,Tryz.underlying32]
 have e0:=zpw
 have e1:=zpv
 simp only[CD,List.all_nil,Bool.and_true,e0,e1,zpz,hs]
 ·simp[oM,Tryz.underlying29]
 ·intro v h;cases h
theorem Z3{H:Heap}{b clk:Nat}{c:MK}(hb:H.get b=some (.map (BI c) clk))(r:GRev):aO fA H 58 (.mp b) (.agg (ze r)) false=some (vA (BH c r)):=by
 have hz:tX fA 3=some (vA 0):=by kernel_rfl
 unfold aO
 rw[VF]
 simp only[zil,if_true,mO,mM,hb,SB,pA,KA,Ck,hz,BH,ZA,if_false]
 cases UK r c 0<;>rfl
structure OkC(c:MK)(clk:Nat):Prop where
 keys:(c.map (·.1)).Nodup
 borns:(c.map (·.2.2)).Nodup
 lt:∀e∈c,e.2.2<clk
theorem pg:∀{c:MK} {i:Nat} {e:GRev×Int×Nat} (i0:Nat),(c.map (·.1)).Nodup->c[i]?=some e->UK e.1 c i0=some (i0+i,e.2.1,e.2.2)
 | [],i,e,i0,_,h=>by simp at h
 | x::c,0,e,i0,hk,h=>by
  simp only[YA,lA] at h
  subst h
  simp[UK]
 | x::c,i+1,e,i0,hk,h=>by
  simp only[BB] at h
  simp only[NC,JF] at hk
  have hne:e.1≠x.1:=fun he=>hk.1 (by rw[<-he];exact tJ (IA h))
  rw[UK,if_neg hne,pg (i0+1) hk.2 h,show i0+1+i=i0+(i+1) by omega]
theorem Nj{r:GRev}:∀{c:MK} {i0 j:Nat} {v:Int} {b:Nat},UK r c i0=some (j,v,b)->∃i,j=i0+i/\c[i]?=some (r,v,b)
 | [],i0,j,v,b,h=>by simp[UK] at h
 | x::c,i0,j,v,b,h=>by
  rw[UK] at h
  split at h
  ·rename_i e
   simp only[lA,Prod.mk.injEq] at h
   obtain⟨rfl,rfl,rfl⟩:=h
   exact⟨0,rfl,by rw[e];rfl⟩
  ·obtain⟨i,h1,h2⟩:=Nj h
   exact⟨i+1,by omega,by simpa using h2⟩
theorem Dj{r:GRev}:∀{c:MK} {i0:Nat},UK r c i0=none->∀e∈c,e.1≠r
 | [],i0,h=>fun e he=>by cases he
 | x::c,i0,h=>by
  rw[UK] at h
  split at h
  ·cases h
  ·rename_i e
   intro y hy
   rcases IB.1 hy with rfl|hy
   ·exact fun h=>e h.symm
   ·exact Dj h y hy
theorem zkj{r:GRev}:∀{c:MK} {i0:Nat},(∀e∈c,e.1≠r)->UK r c i0=none
 | [],i0,h=>rfl
 | x::c,i0,h=>by
  rw[UK,if_neg (fun e=>h x (.head _) e.symm)]
  exact zkj fun e he=>h e (.tail _ he)
theorem ziw:∀{c:MK} {i:Nat} {e:GRev×Int×Nat} (i0:Nat),(c.map (·.2.2)).Nodup->c[i]?=some e->sX (e.2.2:Nat) (BI c) i0=some (i0+i,.agg (ze e.1))
 | [],i,e,i0,_,h=>by simp at h
 | x::c,0,e,i0,hk,h=>by
  simp only[YA,lA] at h
  subst h
  simp[sX,BI]
 | x::c,i+1,e,i0,hk,h=>by
  simp only[BB] at h
  simp only[NC,JF] at hk
  have hne:x.2.2≠e.2.2:=fun he=>hk.1 (by rw[he];exact tJ (f:=fun e:GRev×Int×Nat=>e.2.2) (IA h))
  have ih:=ziw (i0+1) hk.2 h
  rw[BI,NC,sX,if_neg (by exact_mod_cast hne)]
  rw[show i0+(i+1)=i0+1+i by omega]
  exact ih
theorem x7{α:Type}{l:List α}{i:Nat}{x:α}(h:l[i]?=some x):l.set i x=l:=by
 obtain⟨hi,rfl⟩:=rA.1 h
 simp
theorem nR{c:MK}{i:Nat}{r:GRev}{v v':Int}{b:Nat}(h:c[i]?=some (r,v,b)):(c.set i (r,v',b)).map (·.1)=c.map (·.1)/\(c.set i (r,v',b)).map (·.2.2)=c.map (·.2.2):=by
 constructor
 ·rw[uH];exact x7 (by rw[uB,h];rfl)
 ·rw[uH];exact x7 (by rw[uB,h];rfl)
theorem OkC.set{c:MK}{clk i:Nat}{r:GRev}{v v':Int}{b:Nat}(h:OkC c clk)(hi:c[i]?=some (r,v,b)):OkC (c.set i (r,v',b)) clk:=by
 obtain⟨h1,h2⟩:=nR (v':=v') hi
 refine⟨by rw[h1];exact h.keys,by rw[h2];exact h.borns,fun e he=>?_⟩
 rcases aI he with he|rfl
 ·exact h.lt e he
 ·exact h.lt (r,v,b) (IA hi)
theorem fQ{c:MK}{clk i:Nat}{r:GRev}{v v':Int}{b:Nat}(h:OkC c clk)(hi:c[i]?=some (r,v,b))(q:GRev):BH (c.set i (r,v',b)) q=if q=r then v' else BH c q:=by
 have h':=h.set (v':=v') hi
 have hlt:=(rA.1 hi).1
 by_cases e:q=r
 ·subst e
  rw[if_pos rfl,BH,pg (e:=(q,v',b)) (i:=i) 0 h'.keys (by rw[List.getElem?_set_self hlt])]
 ·rw[if_neg e]
  cases hq:UK q c 0 with
  | some p=>
   obtain⟨j,h1,h2⟩:=Nj (j:=p.1) (v:=p.2.1) (b:=p.2.2) hq
   have hne:i≠j:=by
    rintro rfl
    rw[hi] at h2
    injection h2 with h2
    exact e (congrArg (·.1) h2).symm
   have:=pg (e:=(q,p.2.1,p.2.2)) (i:=j) 0 h'.keys (by rw[List.getElem?_set_ne hne];exact h2)
   simp only[BH,hq,this]
  | none=>
   have h1:=Dj hq
   have:UK q (c.set i (r,v',b)) 0=none:=zkj fun x hx=>by
    rcases aI hx with hx|rfl
    ·exact h1 x hx
    ·exact fun h=>e h.symm
   simp only[BH,hq,this]
theorem znJ(c:MK)(i:Nat)(r:GRev)(v:Int)(b:Nat):(BI c).set i (.agg (ze r),vA v,b)=BI (c.set i (r,v,b)):=by
 simp[BI,uH]
def C8(c:MK)(clk:Nat)(r:GRev)(v:Int):MK×Nat:=match UK r c 0 with
 | some (i,_,n)=>(c.set i (r,v,n),clk)
 | none=>(c++[(r,v,clk)],clk+1)
def H8(H:Heap)(b:Nat)(c:MK)(clk:Nat)(r:GRev):Prop:=
  ∃(n:Nat) (H1:Heap),tO fA H 58 (.mp b) (.agg (ze r))=some ⟨.tup [vA (BH c r),vA n],H1,min b H.n⟩/\H1.n=H.n/\(∀j,j≠b->H1.get j=H.get j)/\
   ∀v:Int,∃(H2:Heap) (c2:MK) (clk2:Nat),c7 H1 (.mp b) (vA n) (vA v)=some ⟨EH,H2,min b H.n⟩/\H2.n=H.n/\(∀j,j≠b->H2.get j=H.get j)/\H2.get b=some (.map (BI c2) clk2)/\OkC c2 clk2/\c2.length<=c.length+1/\(∀q,BH c2 q=if q=r then v else BH c q)/\(c2,clk2)=C8 c clk r v
theorem zqm{H:Heap}{b clk:Nat}{c:MK}(hb:H.get b=some (.map (BI c) clk))(hok:OkC c clk)(r:GRev):H8 H b c clk r:=by
 have hbn:=zq hb
 have hz:tX fA 3=some (vA 0):=by kernel_rfl
 have main:∀(c1:MK) (clk1 i n:Nat) (v0:Int),OkC c1 clk1->c1[i]?=some (r,v0,n)->(∀q,q≠r->BH c1 q=BH c q)->c1.length<=c.length+1->BH c r=v0->(∀v,(c1.set i (r,v,n),clk1)=C8 c clk r v)->
   tO fA H 58 (.mp b) (.agg (ze r))=some ⟨.tup [vA v0,vA n],H.set b (.map (BI c1) clk1),min b H.n⟩->H8 H b c clk r:=fun c1 clk1 i n v0 h1 hi hq hl hv hbf hm=>by
  refine⟨n,H.set b (.map (BI c1) clk1),by rw[hv];exact hm,kA ..,fun j hj=>by rw[dA,if_neg (fun h=>hj h.1)],fun v=>⟨(H.set b (.map (BI c1) clk1)).set b (.map (BI (c1.set i (r,v,n))) clk1),c1.set i (r,v,n),clk1,?_,by rw[kA,kA],fun j hj=>by rw[dA,if_neg (fun h=>hj h.1),dA,if_neg (fun h=>hj h.1)],?_,h1.set hi,by simpa using hl,fun q=>?_,hbf v⟩⟩
  ·have hg:(H.set b (.map (BI c1) clk1)).get b=some (.map (BI c1) clk1):=by rw[dA,if_pos ⟨rfl,hbn⟩]
   have hf:=ziw (e:=(r,v0,n)) 0 h1.borns hi
   have he:(BI c1)[i]?=some (.agg (ze r),vA v0,n):=by rw[BI,uB,hi];rfl
   simp only[Nat.zero_add] at hf
   simp only[c7,mM,hg,pA,KA,hf,he,VL,znJ,kA]
  ·rw[dA,if_pos ⟨rfl,by rw[kA];exact hbn⟩]
  ·rw[fQ h1 hi]
   by_cases e:q=r
   ·rw[if_pos e,if_pos e]
   ·rw[if_neg e,if_neg e,hq q e]
 cases hf:UK r c 0 with
 | some p=>
  obtain⟨j,v0,n⟩:=p
  obtain⟨i,h1,h2⟩:=Nj hf
  obtain rfl:j=i:=by omega
  have hv:BH c r=v0:=by simp only[BH,hf]
  refine main c clk j n v0 hok h2 (fun q _=>rfl) (by omega) hv (fun v=>by rw[C8,hf]) ?_
  have hset:c.set j (r,v0,n)=c:=x7 h2
  have hg:(H.set b (.map (BI c) clk)).get b=some (.map (BI c) clk):=by rw[dA,if_pos ⟨rfl,hbn⟩]
  unfold tO gV
  rw[VF]
  simp only[zil,if_true,mM,hb,pA,KA,Ck,hf,SB,VL,znJ,hset,xV,VF,hg,BJ rfl,cond_true]
 | none=>
  have h0:=Dj hf
  have hv:BH c r=0:=by simp only[BH,hf]
  have h1:OkC (c++[(r,0,clk)]) (clk+1):=by
   refine⟨?_,?_,?_⟩
   ·rw[QC,kK]
    refine⟨hok.keys,by simp,?_⟩
    intro x hx y hy e
    obtain⟨z,hz,rfl⟩:=oE.1 hx
    simp only[NC,jK,gD] at hy
    exact h0 z hz (e.trans hy)
   ·rw[QC,kK]
    refine⟨hok.borns,by simp,?_⟩
    intro x hx y hy e
    obtain⟨z,hz,rfl⟩:=oE.1 hx
    simp only[NC,jK,gD] at hy
    have:=hok.lt z hz
    omega
   ·intro e he
    rcases fH.1 he with he|he
    ·exact Nat.lt_succ_of_lt (hok.lt e he)
    ·simp only[gD] at he
     subst he;exact Nat.lt_succ_self _
  have hi:(c++[(r,0,clk)])[c.length]?=some (r,0,clk):=by simp
  have hf2:UK r (c++[(r,0,clk)]) 0=some (c.length,0,clk):=by
   have:=pg (e:=(r,(0:Int),clk)) 0 h1.keys hi
   simpa using this
  refine main (c++[(r,0,clk)]) (clk+1) c.length clk 0 h1 hi (fun q hq=>?_) (by simp) hv (fun v=>by rw[C8,hf];simp) ?_
  ·cases hfq:UK q c 0 with
   | some p=>
    obtain⟨j,h3,h4⟩:=Nj (j:=p.1) (v:=p.2.1) (b:=p.2.2) hfq
    have hj:=(rA.1 h4).1
    have:=pg (c:=c++[(r,0,clk)]) (e:=(q,p.2.1,p.2.2)) (i:=j) 0 h1.keys (by rw[List.getElem?_append_left hj];exact h4)
    simp only[BH,hfq,this]
   | none=>
    have:UK q (c++[(r,0,clk)]) 0=none:=zkj fun x hx=>by
     rcases fH.1 hx with hx|hx
     ·exact Dj hfq x hx
     ·simp only[gD] at hx
      subst hx;exact fun h=>hq h.symm
    simp only[BH,hfq,this]
  ·have happ:BI c++[(V.agg (ze r),vA 0,clk)]=BI (c++[(r,0,clk)]):=by simp[BI]
   have hg:(H.set b (.map (BI (c++[(r,0,clk)])) (clk+1))).get b=some (.map (BI (c++[(r,0,clk)])) (clk+1)):=by rw[dA,if_pos ⟨rfl,hbn⟩]
   have hlen:(BI c).length=c.length:=by simp[BI]
   unfold tO gV
   rw[VF]
   simp only[zil,if_true,mM,hb,pA,KA,Ck,hf,hf2,hz,SB,Option.map_none,VL,happ,xV,VF,hg,hlen,BJ rfl,cond_true]
def GH(ks:List GRev):MK×Nat:=ks.foldl (fun p r=>C8 p.1 p.2 r (BH p.1 r+1)) ([],0)
theorem ziE(ks:List GRev)(r:GRev):GH (ks++[r])=C8 (GH ks).1 (GH ks).2 r (BH (GH ks).1 r+1):=by
 rw[GH,FG];rfl
theorem Ek(ks:List GRev):OkC (GH ks).1 (GH ks).2/\∀q,BH (GH ks).1 q=(ks.countP fun r=>decide (r=q):Nat):=by
 have go:∀n,∀ks:List GRev,ks.length=n->OkC (GH ks).1 (GH ks).2/\∀q,BH (GH ks).1 q=(ks.countP fun r=>decide (r=q):Nat):=by
  intro n
  induction n with
  | zero=>
   intro ks h
   obtain rfl:=List.length_eq_zero_iff.1 h
   exact⟨⟨by simp[GH],by simp[GH],by simp[GH]⟩,fun q=>by simp[GH,BH,UK]⟩
  | succ n ih=>
   intro ks h
   have hne:ks≠[]:=by rintro rfl;simp at h
   obtain⟨ih1,ih2⟩:=ih ks.dropLast (by rw[List.length_dropLast];omega)
   have e:=List.dropLast_concat_getLast hne
   generalize ks.getLast hne=r at e
   generalize ks.dropLast=ks' at e ih1 ih2
   subst e
   obtain⟨m,H1,h1,h2,h3,h4⟩:=zqm (H:=Heap.empty.push (.map (BI (GH ks').1) (GH ks').2)) (b:=0) (by rw[yA];exact if_pos rfl) ih1 r
   obtain⟨H2,c2,clk2,k1,k2,k3,k4,k5,k6,k7,k8⟩:=h4 (BH (GH ks').1 r+1)
   rw[<-ziE] at k8
   rw[<-k8]
   refine⟨k5,fun q=>?_⟩
   simp only
   rw[k7,CF]
   by_cases eq:q=r
   ·subst eq;rw[if_pos rfl,ih2];simp
   ·rw[if_neg eq,ih2];simp[Ne.symm eq]
 exact go _ ks rfl
def mapM(ks:List GRev):Blk:=.map (BI (GH ks).1) (GH ks).2
theorem oU(n:Nat)(c:MK)(clk:Nat):Blk.ok n (.map (BI c) clk)=true:=by
 have:∀c:MK,((BI c).all fun e=>V.ok n e.1&&V.ok n e.2.1)=true:=by
  intro c
  induction c with
  | nil=>rfl
  | cons e c ih=>
   simp only[BI,NC,CD] at ih ⊢
   rw[ih]
   simp[V.ok,MR]
 exact this c
structure Gw(H X:Heap):Prop where
 n:H.n<=X.n
 old:∀j,j<H.n->X.get j=H.get j
theorem Gw.refl{H:Heap}:Gw H H:=⟨jA _,fun _ _=>rfl⟩
theorem Gw.trans{H X Y:Heap}(h:Gw H X)(g:Gw X Y):Gw H Y:=⟨cB h.n g.n,fun j hj=>by rw[g.old j (Nat.lt_of_lt_of_le hj h.n),h.old j hj]⟩
theorem Gw.push{H:Heap}{B:Blk}:Gw H (H.push B):=⟨by rw[iA];omega,zj⟩
theorem Gw.get{H X:Heap}(h:Gw H X){b:Nat}{B:Blk}(hb:H.get b=some B):X.get b=some B:=by rw[h.old b (zq hb),hb]
theorem Res.map{H X:Heap}{lo:Nat}{ks:List GRev}{Q:OR->Prop}{h:Hid Q}(hG:Gw H X)(hn:H.n<X.n)(hg:X.get H.n=some (mapM ks))(hlo:H.n<=lo)(k:Q ⟨.mp H.n,H.push (mapM ks),H.n⟩):Res Cx H (.mp H.n) X lo Q h:=by
 refine⟨.mp H.n,H.push (mapM ks),H.n,Sub.back (H.push (mapM ks)) H.n [(0,.mp H.n)] (Grn.push .refl (oU _ _ _)) (by rw[iA];omega) (fun b hb=>?_) hlo (jA _) hlo (fun b hb=>zj b hb) (fun b e=>by cases e) (fun p hp=>?_),k⟩
 ·rw[iA] at hb
  rcases RA b H.n with h1|h1
  ·rw[hG.old b h1,zj b h1]
  ·obtain rfl:b=H.n:=by omega
   rw[hg,yA,if_pos rfl]
 ·simp only[gD] at hp
  subst hp
  refine RN.same rfl ?_
  show decide (H.n<(H.push (mapM ks)).n)=true
  rw[decide_eq_true_eq,iA];omega
end
end Go.Proofs.YtookdinfaoelaaaGreatDoor
namespace Go.Tw
section
abbrev qC(x:UInt32):V:=.lit (.int .u32 x.toNat)
section
variable (P:Program) (t:TypeId)
theorem jg(n:Nat):IntKind.u32.wrap (n:Int)=((pB n).toNat:Int):=by
 simp only[IntKind.wrap,IntKind.bits,IntKind.signed]
 simp
theorem Aj(x:UInt32):IntKind.u32.wrap (x.toNat:Int)=(x.toNat:Int):=by
 rw[jg,UInt32.ofNat_toNat]
theorem W7(a:UInt32):EB 32 (a.toNat:Int)=a.toBitVec:=by
 rw[BitVec.ofInt_natCast,<-UInt32.toNat_toBitVec,BitVec.ofNat_toNat,BitVec.setWidth_eq]
theorem rY(a:UInt32):a.toBitVec.toNat=a.toNat:=rfl
theorem mf(a b:UInt32):(EB IntKind.u32.bits (a.toNat:Int) ^^^ EB IntKind.u32.bits (b.toNat:Int)).toNat=(a ^^^ b).toNat:=by
 show(EB 32 (a.toNat:Int) ^^^ EB 32 (b.toNat:Int)).toNat=_
 rw[W7,W7,<-wJ,rY]
theorem or32(a b:UInt32):(EB IntKind.u32.bits (a.toNat:Int)||| EB IntKind.u32.bits (b.toNat:Int)).toNat=(a||| b).toNat:=by
 show(EB 32 (a.toNat:Int)||| EB 32 (b.toNat:Int)).toNat=_
 rw[W7,W7,<-UInt32.toBitVec_or,rY]
theorem F1(a b:UInt32):jE P .add t (qC a) (qC b)=some (qC (a+b)):=by
 rw[lT,<-Int.natCast_add,jg]
 simp[UInt32.toNat_add]
theorem GR(a b:UInt32):jE P .xor t (qC a) (qC b)=some (qC (a ^^^ b)):=by
 rw[pT,mf,Aj]
theorem Xe(a b:UInt32):jE P .or t (qC a) (qC b)=some (qC (a||| b)):=by
 rw[jY,or32,Aj]
theorem zo1(a b:UInt32):jE P .mul t (qC a) (qC b)=some (qC (a*b)):=by
 rw[mT,<-Int.natCast_mul,jg]
 simp[UInt32.toNat_mul]
theorem I1(a:UInt32):PU .xor (qC a)=some (qC (0xffffffff ^^^ a)):=by
 have e:((EB IntKind.u32.bits (if IntKind.u32.signed then -1 else IntKind.u32.max) ^^^ EB IntKind.u32.bits (a.toNat:Int)).toNat)=(0xffffffff ^^^ a).toNat:=by
  show(EB 32 (((0xffffffff:UInt32).toNat:Nat):Int) ^^^ EB 32 (a.toNat:Int)).toNat=_
  rw[W7,W7,<-wJ,rY]
 show some (V.lit (.int .u32 (IntKind.u32.wrap ((EB IntKind.u32.bits (if IntKind.u32.signed then -1 else IntKind.u32.max) ^^^ EB IntKind.u32.bits (a.toNat:Int)).toNat:Nat))))=_
 rw[e,Aj]
theorem J1(a:UInt32)(q:IntKind)(n:Nat)(h:n<32):jE P .shl t (qC a) (.lit (.int q (n:Int)))=some (qC (a <<< (pB n))):=by
 rw[nT,if_neg (by omega)]
 have e:min (n:Int).toNat IntKind.u32.bits=n:=by simp[IntKind.bits];omega
 rw[e]
 have:(a.toNat:Int)*2 ^ n=((a.toNat*2 ^ n:Nat):Int):=by simp
 rw[this,jg]
 have e2:pB (a.toNat*2 ^ n)=a <<< pB n:=by
  apply UInt32.toNat_inj.1
  simp[UInt32.toNat_shiftLeft,Nat.shiftLeft_eq,kC (show n<4294967296 by omega),kC h]
 rw[e2]
theorem N1(a:UInt32)(q:IntKind)(n:Nat)(h:n<32):jE P .shr t (qC a) (.lit (.int q (n:Int)))=some (qC (a>>>(pB n))):=by
 rw[oT,if_neg (by omega)]
 have e:min (n:Int).toNat IntKind.u32.bits=n:=by simp[IntKind.bits];omega
 rw[e]
 have e2:(a.toNat:Int).fdiv (2 ^ n)=((a>>>pB n).toNat:Int):=by
  rw[UInt32.toNat_shiftRight,Nat.shiftRight_eq_div_pow]
  simp only[UInt32.toNat_ofNat']
  rw[kC (show n<2 ^ 32 by omega),kC h]
  rw[Int.fdiv_eq_ediv_of_nonneg _ (Int.pow_nonneg (by omega))]
  simp
 rw[e2]
@[go_sem high] theorem w_add(a b:UInt32):jE P .add t (.lit (.int .u32 a.toNat)) (.lit (.int .u32 b.toNat))=some (qC (a+b)):=F1 P t a b
@[go_sem high] theorem w_xor(a b:UInt32):jE P .xor t (.lit (.int .u32 a.toNat)) (.lit (.int .u32 b.toNat))=some (qC (a ^^^ b)):=GR P t a b
@[go_sem high] theorem w_or(a b:UInt32):jE P .or t (.lit (.int .u32 a.toNat)) (.lit (.int .u32 b.toNat))=some (qC (a||| b)):=Xe P t a b
@[go_sem high] theorem w_shl(a:UInt32)(q:IntKind)(n:Int)(h0:0<=n)(h:n<32):jE P .shl t (.lit (.int .u32 a.toNat)) (.lit (.int q n))=some (qC (a <<< pB n.toNat)):=by
 obtain⟨m,rfl⟩:=nF h0
 exact J1 P t a q m (by omega)
@[go_sem high] theorem w_shr(a:UInt32)(q:IntKind)(n:Int)(h0:0<=n)(h:n<32):jE P .shr t (.lit (.int .u32 a.toNat)) (.lit (.int q n))=some (qC (a>>>pB n.toNat)):=by
 obtain⟨m,rfl⟩:=nF h0
 exact N1 P t a q m (by omega)
@[go_sem high] theorem w_not(a:UInt32):PU .xor (.lit (.int .u32 a.toNat))=some (qC (0xffffffff ^^^ a)):=I1 a
end
def LM(x:UInt32)(n:Nat):UInt32:=(x>>>pB n)||| (x <<< pB (32-n))
def gS(v:List UInt32)(a b c d:Nat)(x:UInt32)(n m:Nat):List UInt32:=
 let v:=v.set a (v.getD a 0+(v.getD b 0+x))
 let v:=v.set d (LM (v.getD d 0 ^^^ v.getD a 0) n)
 let v:=v.set c (v.getD c 0+v.getD d 0)
 v.set b (LM (v.getD b 0 ^^^ v.getD c 0) m)
def XK(v:List UInt32)(q:Nat×Nat×Nat×Nat)(x y:UInt32):List UInt32:=gS (gS v q.1 q.2.1 q.2.2.1 q.2.2.2 x 16 12) q.1 q.2.1 q.2.2.1 q.2.2.2 y 8 7
def ivW:List UInt32:=[0x6a09e667,0xbb67ae85,0x3c6ef372,0xa54ff53a,0x510e527f,0x9b05688c,0x1f83d9ab,0x5be0cd19]
def ordersW:List (List Nat):=[[0,1,2,3,4,5,6,7,8,9,10,11,12,13,14,15],
 [14,10,4,8,9,15,13,6,1,12,0,2,11,7,5,3],
 [11,8,12,0,5,2,15,13,10,14,3,6,7,1,9,4],
 [7,9,3,1,13,12,11,14,2,6,5,10,4,0,15,8],
 [9,0,5,7,2,4,10,15,14,1,11,12,6,8,3,13],
 [2,12,6,10,0,11,8,3,4,13,7,5,15,14,1,9],
 [12,5,1,15,14,13,4,10,0,7,6,3,9,2,8,11],
 [13,11,7,14,12,1,3,9,5,0,15,4,8,6,2,10],
 [6,15,14,9,11,3,0,8,12,2,13,7,1,4,10,5],
 [10,2,8,4,7,6,1,5,15,11,9,14,3,12,13,0]]
def quadsW:List (Nat×Nat×Nat×Nat):=[(0,4,8,12),(1,5,9,13),(2,6,10,14),(3,7,11,15),(0,5,10,15),(1,6,11,12),(2,7,8,13),(3,4,9,14)]
def p8(m:List UInt32)(o:List Nat)(v:List UInt32):List (Nat×Nat×Nat×Nat)->Nat->List UInt32
 | [],_=>v
 | q::qs,i=>p8 m o (XK v q (m.getD (o.getD (2*i) 0) 0) (m.getD (o.getD (2*i+1) 0) 0)) qs (i+1)
def Cg(m:List UInt32)(v:List UInt32)(o:List Nat):List UInt32:=p8 m o v quadsW 0
def w8(b:List UInt8)(i:Nat):UInt32:=(b.getD i 0).toUInt32
def SO(b:List UInt8)(i:Nat):UInt32:=w8 b (4*i)||| (w8 b (4*i+1) <<< 8)||| (w8 b (4*i+2) <<< 16)||| (w8 b (4*i+3) <<< 24)
def UL(b:List UInt8):List UInt32:=(CB 16).map (SO b)
def RL(h:List UInt32)(n:Nat)(last:Bool):List UInt32:=
 let v:=h++ivW
 let v:=v.set 12 (v.getD 12 0 ^^^ pB n)
 let v:=v.set 13 (v.getD 13 0 ^^^ pB (n / 4294967296))
 if last then v.set 14 (0xffffffff ^^^ v.getD 14 0) else v
def oL(h:List UInt32)(b:List UInt8)(n:Nat)(last:Bool):List UInt32:=
 let v:=ordersW.foldl (Cg (UL b)) (RL h n last)
 (CB 8).map fun i=>h.getD i 0 ^^^ (v.getD i 0 ^^^ v.getD (i+8) 0)
theorem zll(v:List UInt32)(a b c d:Nat)(x:UInt32)(n m:Nat):(gS v a b c d x n m).length=v.length:=by simp[gS]
theorem BS(v:List UInt32)(q:Nat×Nat×Nat×Nat)(x y:UInt32):(XK v q x y).length=v.length:=by simp[XK,zll]
theorem zjp(m:List UInt32)(o:List Nat):∀(qs:List (Nat×Nat×Nat×Nat)) (v:List UInt32) (i:Nat),(p8 m o v qs i).length=v.length
 | [],v,i=>rfl
 | q::qs,v,i=>by rw[p8,zjp m o qs,BS]
theorem kg(h:List UInt32)(b:List UInt8)(n:Nat)(last:Bool):(oL h b n last).length=8:=by simp[oL]
structure vM where
 h:List UInt32
 rest:List UInt8
 n:Nat
def FL(h:List UInt32)(n:Nat)(l:List UInt8):vM:=
 if 64<l.length then FL (oL h (l.take 64) ((n+64) % 18446744073709551616) false) ((n+64) % 18446744073709551616) (l.drop 64) else⟨h,l,n⟩
termination_by l.length
def HI(s:vM)(b:List UInt8):vM:=FL s.h s.n (s.rest++b)
def QI(size:Nat):vM:=⟨ivW.set 0 (ivW.getD 0 0 ^^^ (0x01010000 ^^^ pB size)),[],0⟩
def AM(s:vM)(size:Nat):List UInt8:=
 let h:=oL s.h (s.rest++List.replicate (64-s.rest.length) 0) ((s.n+s.rest.length) % 18446744073709551616) true
 (CB size).map fun i=>(h.getD (i / 4) 0>>>pB (8*(i % 4))).toUInt8
def oV(b:List UInt8):List UInt8:=AM (HI (QI 16) b) 16
theorem XU{h:List UInt32}{n:Nat}{l:List UInt8}(hl:l.length<=64):FL h n l=⟨h,l,n⟩:=by
 rw[FL,if_neg (by omega)]
theorem m7{h:List UInt32}{n:Nat}{l:List UInt8}(hl:64<l.length):FL h n l=FL (oL h (l.take 64) ((n+64) % 18446744073709551616) false) ((n+64) % 18446744073709551616) (l.drop 64):=by
 rw[FL,if_pos hl]
theorem zhj(b:List UInt8):∀(k:Nat) (h:List UInt32) (n:Nat) (l:List UInt8),l.length<=k->FL (FL h n l).h (FL h n l).n ((FL h n l).rest++b)=FL h n (l++b)
 | 0,h,n,l,hk=>by rw[XU (l:=l) (by omega)]
 | k+1,h,n,l,hk=>by
  rcases RA 64 l.length with g|g
  ·rw[m7 g,zhj b k _ _ _ (by rw[ZB];omega),m7 (l:=l++b) (by rw[qA];omega)]
   rw[List.take_append_of_le_length (by omega),List.drop_append_of_le_length (by omega)]
  ·rw[XU g]
theorem zjQ(s:vM)(a b:List UInt8):HI (HI s a) b=HI s (a++b):=by
 unfold HI
 rw[zhj b _ s.h s.n (s.rest++a) (jA _),XA]
theorem yj:∀(k:Nat) (h:List UInt32) (n:Nat) (l:List UInt8),l.length<=k->h.length=8->n<18446744073709551616->(FL h n l).h.length=8/\(FL h n l).n<18446744073709551616/\(FL h n l).rest.length<=64
 | 0,h,n,l,hk,h1,h2=>by rw[XU (l:=l) (by omega)];exact⟨h1,h2,by simp only;omega⟩
 | k+1,h,n,l,hk,h1,h2=>by
  rcases RA 64 l.length with g|g
  ·rw[m7 g]
   exact yj k _ _ _ (by rw[ZB];omega) (kg ..) (Nat.mod_lt _ (by omega))
  ·rw[XU g];exact⟨h1,h2,g⟩
theorem zgQ:∀(k:Nat) (h:List UInt32) (n:Nat) (l:List UInt8),l.length<=k->(FL h n l).rest.length<=l.length
 | 0,h,n,l,hk=>by rw[XU (l:=l) (by omega)];exact jA _
 | k+1,h,n,l,hk=>by
  rcases RA 64 l.length with g|g
  ·rw[m7 g]
   have:=zgQ k (oL h (l.take 64) ((n+64) % 18446744073709551616) false) ((n+64) % 18446744073709551616) (l.drop 64) (by rw[ZB];omega)
   rw[ZB] at this;omega
  ·rw[XU g];exact jA _
end
end Go.Tw
namespace Go.Proofs.YtookdinfaoelaaaGreatDoor
section
open Go Go.Tw
open Classical
def DX(l:List GNode)(r:GRev):Option GNode:=l.find? fun n=>decide (n.rev=r)
theorem zit(l:List GNode)(r:GRev):(OS l r=-1/\DX l r=none)\/∃i x,l[i]?=some x/\OS l r=(i:Nat)/\DX l r=some x:=by
 unfold OS CL DX
 cases h:l.findIdx? fun n=>decide (n.rev=r) with
 | none=>
  left
  refine⟨rfl,?_⟩
  rw[List.findIdx?_eq_none_iff] at h
  rw[List.find?_eq_none]
  exact fun x hx=>by simp[h x hx]
 | some i=>
  right
  obtain⟨hi,hp,hj⟩:=List.findIdx?_eq_some_iff_getElem.1 h
  refine⟨i,l[i],sA hi,rfl,?_⟩
  rw[List.find?_eq_some_iff_getElem]
  exact⟨hp,i,hi,rfl,fun j hji=>by simpa using hj j hji⟩
def GL(l:List GNode):Nat->GRev->List GRev
 | 0,_=>[]
 | n+1,r=>match DX l r with
  | none=>[]
  | some x=>r::GL l n x.parent
theorem zpM(H:Heap)(z n b:Nat):qH fA H 47 (OM z n b)=some (.lit (.int .i64 n)):=oQ Tryz.underlying47 z n b
noncomputable def QX:List V->Heap->Option OR:=by
 classical
 exact GK (fun p:GTree×GRev×Nat=>match p with|(t,r,most)=>[.agg (zp t),.agg (ze r),vA most]) fun p H=>match p with|(t,r,most)=>if t.nodes.length<=9223372036854775807/\most<=1000000 then some ⟨NB ze (GL t.nodes most r),H,H.n⟩ else none
theorem m_69(t:GTree)(r:GRev)(most:Nat)(hp:t.nodes.length<=9223372036854775807/\most<=1000000)(H:Heap)(Q:OR->Prop)(hQ:Q ⟨NB ze (GL t.nodes most r),H,H.n⟩):MCall Cx 69 [.agg (zp t),.agg (ze r),vA most] H Q:=by
 refine QA zm (fn:=Tryz.f69) Tryz.func69 rfl (by decide) (k:=30) rfl (rs:=[.tmp 6]) rfl ?_
 simp -dsimp only[go_sem,bA,aA,cA,reduceCtorEq,gA]
 obtain⟨hp1,hp2⟩:=hp
 refine WW.loop zm (fun p:List GRev×GRev=>[(2,vA most),(3,.ptr H.n 0),(4,.ptr (H.n+1) 0),(7,OM 17 p.1.length (H.n+2))])
  (fun p=>((H.push (.cells (zp t) 24)).push (.cells (ze p.2) 32)).push (lO p.1.length (row ze p.1) 32)) (fun _=>H.n)
  (fun p=>p.1.length<=most/\p.1++GL t.nodes (most-p.1.length) p.2=GL t.nodes most r) (fun p=>most-p.1.length) ([],r) ⟨by simp,by simp⟩ ?_ ?_
 ·exact(Sub.dead [(2,vA most),(3,.ptr H.n 0),(4,.ptr (H.n+1) 0),(7,.lit (.slice none 0 0))] (by(focus (repeat (first|exact Grn.refl|refine Grn.push ?_ (by(focus (simp[Blk.ok,MR,JO,iA]<;>(try omega))))|refine Grn.set ?_ (by simp only[iA,kA];omega) (by(focus (simp[Blk.ok,V.ok,nI,UU,zO TL,zO zz,zO zK,zO KO,zO (e:=zW) (fun _=>rfl),NR,MR,fX,eX,JO,gX,iX,lX,iA,kA]<;>(try omega)))))))) (by(focus ((try dsimp only)<;>(try simp only[iA,kA])<;>omega))) (by(focus ((try dsimp only)<;>(focus (intro b hb;(try simp only[yA,iA] at hb ⊢)<;>(try (repeat' split))<;>first|rfl|omega|(exfalso;omega)))))) (by intro b e;cases e) zSl (by(focus (simp[V.ok,iA]<;>(try omega))))).trans (Sub.lower (by omega))
 rintro⟨pre,r'⟩ ⟨h1,h2⟩
 simp only at h1 h2
 simp -dsimp only[go_sem,bA,aA,zf,zh,zpM]
 have fin:GL t.nodes most r=pre->Res Cx H (OM 17 pre.length (H.n+2)) (((H.push (.cells (zp t) 24)).push (.cells (ze r') 32)).push (lO pre.length (row ze pre) 32)) H.n Q .mk:=fun e=>by
  rw[e] at hQ
  refine Res.fz _ (by omega) ?_ hQ
  cases pre with
  | nil=>exact .nil
  | cons a l=>
   rw[Fk (by simp),zmR (by simp)]
   exact Fz.slice ((a::l).length*17) (by omega) (by simp -dsimp only[go_sem,aA,cA,reduceCtorEq];rfl) (jA _) (by rw[List.drop_zero,qO zi,List.take_length]) (UH zz _)
 refine aB (fun h=>?_) (fun h=>?_)<;>simp -dsimp only[go_sem,bA,aA,cA,reduceCtorEq,h]
 ·refine MV.tab _ ((Tab.OK.cons (wd) Tab.OK.nil)) ?_
  simp -dsimp only[go_sem,bA,aA,cA,e_29 _ _ hp1]
  rcases zit t.nodes r' with⟨hz,hn⟩|⟨i,x,hx,hz,hn⟩
  ·simp -dsimp only[go_sem,bA,aA,cA,hz,h,show((-1:Int)<0)=True by simp]
   refine fin ?_
   rw[<-h2]
   obtain⟨k,hk⟩:∃k,most-pre.length=k+1:=⟨most-pre.length-1,by omega⟩
   rw[hk,GL,hn]
   simp
  ·have hi:i<t.nodes.length:=(rA.1 hx).1
   simp -dsimp only[go_sem,bA,aA,cA,reduceCtorEq,hz,h,show((i:Int)<0)=False by simp]
   refine OO.intro (H9 (new:=ze r') (cs:=row ze pre) (k:=1) rfl (by decide) ?_ (UR r') (by simp[zi]) (fun hne=>by simp -dsimp only[go_sem,aA,cA,reduceCtorEq];rw[zmR (by omega)]) (by rw[zr zi]) (by omega)) ?_
   ·simp only[cellsOf]
    simp -dsimp only[go_sem,sF,aA,cA,Nat.reduceMul,reduceCtorEq]
    simp[zi,uA]
   have hXn:=aW ((((H.push (.cells (zp t) 24)).push (.cells (ze r') 32)).push (lO pre.length (row ze pre) 32)).push (.cells (ze r') 32)) (H.n+2) pre.length (row ze pre++ze r') 32
   have hX1:=ZS ((((H.push (.cells (zp t) 24)).push (.cells (ze r') 32)).push (lO pre.length (row ze pre) 32)).push (.cells (ze r') 32)) (H.n+2) pre.length (row ze pre++ze r') 32 (by simp -dsimp only[go_sem,bA,cA])
   have hX2:=fun b' h1 h2=>zqC ((((H.push (.cells (zp t) 24)).push (.cells (ze r') 32)).push (lO pre.length (row ze pre) 32)).push (.cells (ze r') 32)) (H.n+2) pre.length (row ze pre++ze r') 32 (b':=b') h1 h2
   generalize HN ((((H.push (.cells (zp t) 24)).push (.cells (ze r') 32)).push (lO pre.length (row ze pre) 32)).push (.cells (ze r') 32)) (H.n+2) pre.length (row ze pre++ze r') 32=X at hXn hX1 hX2 ⊢
   have hlo:H.n+2<=(if pre.length=0 then((((H.push (.cells (zp t) 24)).push (.cells (ze r') 32)).push (lO pre.length (row ze pre) 32)).push (.cells (ze r') 32)).n else min (H.n+2) ((((H.push (.cells (zp t) 24)).push (.cells (ze r') 32)).push (lO pre.length (row ze pre) 32)).push (.cells (ze r') 32)).n):=by
    simp -dsimp only[go_sem,cA];split<;>omega
   generalize (if pre.length=0 then((((H.push (.cells (zp t) 24)).push (.cells (ze r') 32)).push (lO pre.length (row ze pre) 32)).push (.cells (ze r') 32)).n else min (H.n+2) ((((H.push (.cells (zp t) 24)).push (.cells (ze r') 32)).push (lO pre.length (row ze pre) 32)).push (.cells (ze r') 32)).n)=L at hlo ⊢
   have g0:X.get H.n=some (.cells (zp t) 24):=by rw[hX2 _ (by omega) (by simp -dsimp only[go_sem,bA,cA])];simp -dsimp only[go_sem,cA,reduceCtorEq]
   have g1:X.get (H.n+1)=some (.cells (ze r') 32):=by rw[hX2 _ (by omega) (by simp -dsimp only[go_sem,bA,cA])];simp -dsimp only[go_sem,aA,cA,reduceCtorEq]
   have g2:∀b,b<H.n->X.get b=H.get b:=fun b hb=>by rw[hX2 _ (by omega) (by simp -dsimp only[go_sem,cA];omega)];simp -dsimp only[go_sem,cA];repeat' rw[if_neg (by omega)]
   simp only[iA,Nat.add_assoc,cA] at hXn hX1
   simp -dsimp only[go_sem,bA,aA,cA,g0,g1,hz,hi,hXn,z7 zg hx]
   refine Again.grow (pre++[r'],x.parent) ((H.push (.cells (zp t) 24)).push (.cells (ze x.parent) 32)) (H.n+4) (pre.length+1) (row ze pre++ze r') 32 ?_ ?_ ?_ ?_ ?_ ?_ ?_ ?_ ?_ ?_ ?_ ?_ ?_ ?_ ?_ ?_
   ·refine⟨by simp;omega,?_⟩
    rw[<-h2]
    obtain⟨k,hk⟩:∃k,most-pre.length=k+1:=⟨most-pre.length-1,by omega⟩
    simp only[qA,HA,SA]
    rw[show most-(pre.length+(0+1))=k by omega,hk,GL,hn]
    simp
   ·(simp only[qA,HA,SA])<;>omega
   ·(simp only[qA,HA,SA,TR,iJ,xX,MA])<;>rfl
   ·omega
   ·simp -dsimp only[go_sem,aA,hX1]
   ·simp -dsimp only[go_sem,bA,sF,cA,hXn]
    omega
   ·rw[nN,UH zz,zz];rfl
   ·intro p hp
    simp only[IB,JA,or_false] at hp
    rcases hp with rfl|rfl|rfl|rfl
    ·exact RN.stays (by simp -dsimp only[go_sem,aA]) rfl
    ·refine RN.stays (by simp -dsimp only[go_sem,aA]) ?_
     show decide (H.n<_)=true
     rw[decide_eq_true_eq,iA,iA];omega
    ·refine RN.stays (by simp -dsimp only[go_sem,aA]) ?_
     show decide (H.n+1<_)=true
     rw[decide_eq_true_eq,iA,iA];omega
    ·simp -dsimp only[go_sem,aA,cA,qA,HA,SA]
     rw[Fk (by omega)]
     exact RN.moved (by omega)
   ·(focus (repeat (first|exact Grn.refl|refine Grn.push ?_ (by(focus (simp[Blk.ok,MR,JO,iA]<;>(try omega))))|refine Grn.set ?_ (by simp only[iA,kA];omega) (by(focus (simp[Blk.ok,V.ok,nI,UU,zO TL,zO zz,zO zK,zO KO,zO (e:=zW) (fun _=>rfl),NR,MR,fX,eX,JO,gX,iX,lX,iA,kA]<;>(try omega)))))))
   ·simp -dsimp only[go_sem,sF,cA,hXn];omega
   ·intro b hb
    rw[iA,iA] at hb
    rw[dA]
    by_cases e:b=H.n+1
    ·subst e;simp -dsimp only[go_sem,bA,reduceCtorEq,hXn]
    ·rw[if_neg (fun h=>e h.1)]
     by_cases e2:b=H.n
     ·subst e2;rw[g0];simp -dsimp only[go_sem,reduceCtorEq]
     ·rw[g2 b (by omega)];simp -dsimp only[go_sem];rw[if_neg (by omega),if_neg (by omega)]
   ·omega
   ·exact jA _
   ·omega
   ·(focus ((try dsimp only)<;>(focus (intro b hb;(try simp only[yA,iA] at hb ⊢)<;>(try (repeat' split))<;>first|rfl|omega|(exfalso;omega)))))
   ·intro b e;cases e
 ·refine fin ?_
  rw[<-h2,show most-pre.length=0 by omega,GL,MA]
theorem Hd:CI Cx 69 QX:=kL fun p H r hr=>by
 obtain⟨t,r,most⟩:=p
 simp only at hr
 split at hr
 ·rename_i hp
  injection hr with hr
  subst hr
  exact m_69 t r most hp H _ rfl
 ·cases hr
theorem e_69(t:GTree)(r:GRev)(most:Nat)(hp:t.nodes.length<=9223372036854775807/\most<=1000000)(H:Heap):QX [.agg (zp t),.agg (ze r),vA most] H=some ⟨NB ze (GL t.nodes most r),H,H.n⟩:=by
 refine(lL (by simp+contextual [zQ,zI,PF]) (t,r,most) H).trans ?_
 exact if_pos hp
end
section
open Go Go.Tw
open Classical
abbrev TJ(H:Heap)(b:Nat)(s:List UInt8)(X:Heap)(k:Nat)(t:List UInt8):Prop:=Bf zT 5 H b s X k t
abbrev iH(s:List UInt8)(b:Nat):V:=pG 1 s b
theorem pP{H:Heap}{s new:List UInt8}{x:V}{b:Nat}{K:OR->Prop}{h:Hid K}(hb:s≠[]->H.get b=some (.cells (row zT s) 5))(hx:mJ x=some new.length)(hk:0<new.length)(hc:cellsOf H 1 new.length x=some (row zT new))(hsm:s.length+new.length<=1048576)
  (k:∀X k lo,TJ H b s X k (s++new)->lob H b s<=lo->K ⟨iH (s++new) k,X,lo⟩):OO (DH fA H 76 76 (iH s b) x) K h:=
 Tf wK TA TA (by intro q h;cases h) MN dM uT hb hx hk hc (mL aV _) hsm fun X k' hB=>k X k' _ hB (jA _)
theorem Rg{H:Heap}{s:List UInt8}{x:ByteArray}{b:Nat}{K:OR->Prop}{h:Hid K}(hb:s≠[]->H.get b=some (.cells (row zT s) 5))(hk:0<x.size)(hsm:s.length+x.size<=1048576)
  (k:∀X k lo,TJ H b s X k (s++sB x)->lob H b s<=lo->K ⟨iH (s++sB x) k,X,lo⟩):OO (DH fA H 76 9 (iH s b) (gE x)) K h:=
 Tf wK TA Tryz.underlying9 (by intro q h;cases h) MN dM uT hb rfl hk (zqh H 1 x) (mL aV _) hsm fun X k' hB=>k X k' _ hB (jA _)
theorem rM{H:Heap}{s:List UInt8}{v:V}(c:UInt8){b:Nat}{K:OR->Prop}{h:Hid K}(hv:v=PE c)(hb:s≠[]->H.get b=some (.cells (row zT s) 5))(hsm:s.length<1048576)
  (k:∀X k lo,TJ H b s X k (s++[c])->lob H b s<=lo->K ⟨iH (s++[c]) k,X,lo⟩):OO (DH fA (H.push (.cells [v] 5)) 76 76 (iH s b) (.sl H.n 0 1 1 none)) K h:=by
 subst hv
 refine pP (new:=[c]) (fun hs=>by rw[zj _ (zq (hb hs))];exact hb hs) rfl (by simp) ?_ (by simp only[HA,SA];omega) fun X k' lo hB hlo=>k X k' lo (hB.pre (by rw[iA];omega) zj ?_) (cB znm hlo)
 ·simp only[cellsOf]
  rw[yA,if_pos rfl]
  rfl
 ·by_cases e:s=[]
  ·exact .inl e
  ·exact .inr (zq (hb e))
def QK:List UInt8->List UInt8
 | []=>[]
 | c::l=>(if c=34\/c=92 then [92,c] else [c])++QK l
theorem zfL:∀l m:List UInt8,QK (l++m)=QK l++QK m
 | [],m=>rfl
 | c::l,m=>by rw[List.cons_append,QK,QK,zfL l m,XA]
theorem Oj{l:List UInt8}{i:Nat}{c:UInt8}(h:l[i]?=some c):QK (l.take (i+1))=QK (l.take i)++(if c=34\/c=92 then [92,c] else [c]):=by
 obtain⟨hi,rfl⟩:=rA.1 h
 rw[yB,zfL,sA hi]
 simp[QK]
theorem Pj(l:List UInt8)(i:Nat):(QK (l.take i)).length<=(QK l).length:=by
 have:=zfL (l.take i) (l.drop i)
 rw[List.take_append_drop] at this
 rw[this,qA];omega
theorem znG:∀l:List UInt8,(QK l).length<=2*l.length
 | []=>jA _
 | c::l=>by
  have:=znG l
  rw[QK,qA,HA]
  split<;>simp<;>omega
theorem zmw:∀l:List UInt8,l.length<=(QK l).length
 | []=>jA _
 | c::l=>by
  have:=zmw l
  rw[QK,qA,HA]
  split<;>simp<;>omega
def pJ(x:ByteArray):List UInt8:=34::(QK (sB x)++[34])
theorem zm9(x:ByteArray):(pJ x).length<=2*x.size+2:=by
 have:=znG (sB x)
 rw[Bg] at this
 simp[pJ];omega
theorem Q7(c:UInt8)(n:Nat)(hn:n<256):((c.toNat:Int)=(n:Int))=(c=UInt8.ofNat n):=by
 rw[PF,<-UInt8.toNat_inj]
 simp[kC hn]
theorem fd(s:List UInt8)(b:Nat)(x:ByteArray)(H:Heap)(hb:s≠[]->H.get b=some (.cells (row zT s) 5))(hsm:s.length+(pJ x).length<=1048576)(Q:OR->Prop)(hQ:∀X k lo,TJ H b s X k (s++pJ x)->lob H b s<=lo->Q ⟨iH (s++pJ x) k,X,lo⟩):
  MCall Cx 95 [iH s b,gE x] H Q:=by
 refine QA zm (fn:=Tryz.f95) Tryz.func95 rfl (by decide) (k:=37) rfl (rs:=[.tmp 4]) rfl ?_
 simp -dsimp only[go_sem,bA,aA,cA,reduceCtorEq]
 have hql:(pJ x).length=(QK (sB x)).length+2:=by simp[pJ]
 have hge:=zmw (sB x)
 rw[Bg] at hge
 have hl0:=t8 H b s
 refine rM 34 rfl hb (by omega) fun X0 k0 lo0 hB0 hlo0=>?_
 simp -dsimp only[go_sem,bA,aA,cA,reduceCtorEq,gA]
 have hn0:=hB0.n
 refine WW.loop zm (ι:=Nat×List UInt8×Heap×Nat) (fun p=>[(0,iH p.2.1 p.2.2.2),(1,gE x),(10,vA x.size),(11,vA p.1)]) (fun p=>p.2.2.1) (fun _=>lob H b s)
  (fun p=>p.1<=x.size/\p.2.1=s++34::QK ((sB x).take p.1)/\TJ H b s p.2.2.1 p.2.2.2 p.2.1) (fun p=>x.size-p.1) (0,s++[34],X0,k0) ⟨by simp,rfl,hB0⟩ ?_ ?_
 ·refine(Sub.lower (lo2:=lob H b s) (by omega)).trans (Sub.keep _ zSl)
 rintro⟨i,t,X,k⟩ ⟨hi,ht,hB⟩
 simp only at hi ht hB ⊢
 have hn:=hB.n
 have hl:=hB.lob
 have htl:t.length=s.length+1+(QK ((sB x).take i)).length:=by
  rw[ht,qA,HA];omega
 have hem:=Pj (sB x) i
 have htn:t≠[]:=by rw[ht];simp
 simp -dsimp only[go_sem,bA,aA,reduceCtorEq,zf,zh]
 refine aB (fun h=>?_) (fun h=>?_)<;>simp -dsimp only[go_sem,bA,aA,reduceCtorEq,h]
 ·obtain⟨c,hc⟩:=Go.Tw.byte_at h
  have e34:=Q7 c 34 (by decide)
  have e92:=Q7 c 92 (by decide)
  have fin:∀(Y:Heap) (l:Nat) (u:List UInt8),u=t++(if c=34\/c=92 then [92,c] else [c])->TJ X k t Y l u->i+1<=x.size/\u=s++34::QK ((sB x).take (i+1))/\TJ H b s Y l u:=fun Y l u hu hB1=>⟨by omega,by rw[hu,ht,Oj hc];simp,hB.trans hB1⟩
  have hem1:=Pj (sB x) (i+1)
  rw[Oj (l:=sB x) hc,qA] at hem1
  simp -dsimp only[go_sem,bA,aA,reduceCtorEq,hc]
  refine GD.dec (fun h1=>?_) (fun h1=>?_)<;>simp -dsimp only[go_sem,bA,aA,reduceCtorEq,h1,hc]
  ·have c34:c=34:=Eq.mp (Q7 c 34 (by decide)) h1
   rw[if_pos (.inl c34)] at hem1
   simp only[HA,SA] at hem1
   refine rM 92 rfl hB.cell (by omega) fun Y l lo1 hB1 hlo1=>?_
   have n1:=hB1.n
   have l1:=hB1.lob
   simp -dsimp only[go_sem,bA,aA,reduceCtorEq,hc]
   refine rM c rfl hB1.cell (by simp;omega) fun Z m lo2 hB2 hlo2=>?_
   have n2:=hB2.n
   simp -dsimp only[go_sem,bA,aA,reduceCtorEq]
   refine zAg (i+1,t++[92]++[c],Z,m) ?_
   exact fin Z m _ (by simp[c34]) (hB1.trans hB2)
  refine aB (fun h2=>?_) (fun h2=>?_)<;>simp -dsimp only[go_sem,bA,aA,reduceCtorEq,h2,hc]
  ·have c92:c=92:=Eq.mp (Q7 c 92 (by decide)) h2
   rw[if_pos (.inr c92)] at hem1
   simp only[HA,SA] at hem1
   refine rM 92 rfl hB.cell (by omega) fun Y l lo1 hB1 hlo1=>?_
   have n1:=hB1.n
   have l1:=hB1.lob
   simp -dsimp only[go_sem,bA,aA,reduceCtorEq,hc]
   refine rM c rfl hB1.cell (by simp;omega) fun Z m lo2 hB2 hlo2=>?_
   have n2:=hB2.n
   simp -dsimp only[go_sem,bA,aA,reduceCtorEq]
   refine zAg (i+1,t++[92]++[c],Z,m) ?_
   exact fin Z m _ (by simp[c92]) (hB1.trans hB2)
  ·have nc:¬(c=34\/c=92):=by
    rintro(rfl|rfl)
    ·exact h1 rfl
    ·exact h2 rfl
   rw[if_neg nc] at hem1
   simp only[HA,SA] at hem1
   refine rM c rfl hB.cell (by omega) fun Y l lo1 hB1 hlo1=>?_
   have n1:=hB1.n
   simp -dsimp only[go_sem,bA,aA,reduceCtorEq]
   refine zAg (i+1,t++[c],Y,l) ?_
   exact fin Y l _ (by rw[if_neg nc]) hB1
 ·refine rM 34 rfl hB.cell (by omega) fun Y l lo1 hB1 hlo1=>?_
  have n1:=hB1.n
  simp -dsimp only[go_sem,bA,aA,reduceCtorEq]
  have e:t++[34]=s++pJ x:=by
   rw[ht,uA (by rw[Bg];omega)]
   simp[pJ]
  rw[e] at hB1 ⊢
  exact Res.same (hQ Y l _ (hB.trans hB1) (by omega))
end
end Go.Proofs.YtookdinfaoelaaaGreatDoor
namespace Go.Tw
section
def A3(o:Oper):Bool:=
 match o.op with
 | .move _|.assign _|.load _ _|.buildSlice _ _ _|.fieldAddr _ _ _|.indexAddr _ _ _|.alloc _|.nilCheck _=>true
 | _=>false
def o8:Result _root_.Go.Next->Prop
 | .ok (.value _) _=>True
 | .ok _ _=>False
 | _=>True
theorem zoq{P:Program}{w:World}(s:Sem Value):o8 ((do pure (_root_.Go.Next.value (<-s)):Sem _root_.Go.Next).run P w):=by
 simp only[Sem.run_bind,Sem.run_pure]
 cases s.run P w<;>trivial
theorem Gf{α:Type}{P:Program}{w:World}(s:Sem α)(k:α->Sem _root_.Go.Next)(h:∀x w,o8 ((k x).run P w)):o8 ((s>>=k).run P w):=by
 rw[Sem.run_bind]
 cases s.run P w with
 | ok x w'=>exact h x w'
 | halt x w'=>trivial
theorem mj{P:Program}{w:World}(e:RuntimeError):o8 ((runtimePanic e:Sem _root_.Go.Next).run P w):=by
 unfold runtimePanic
 refine Gf _ _ fun p w=>?_
 cases e<;>first|trivial|(refine Gf _ _ fun _ _=>?_;trivial)|skip
theorem Ff{P:Program}{w:World}(v:Value):o8 ((pure (_root_.Go.Next.value v):Sem _root_.Go.Next).run P w):=by
 rw[Sem.run_pure];trivial
theorem uQ{o:Oper}(h:A3 o=true)(ro:Option Nat)(ρ:Operand->Value)(P:Program)(w:World):o8 ((o.semAt ro ρ).run P w):=by
 have hd:∀c,o.op≠.defer c:=fun c e=>by rw[A3,e] at h;cases h
 rw[Oper.semAt_eq ro ρ o hd]
 unfold A3 at h
 unfold execOp
 cases e:o.op<;>rw[e] at h<;>first|(cases h;done)|exact zoq _|exact Ff _|skip
 simp only
 split
 ·exact mj _
 ·exact mj _
 ·exact mj _
 ·split
  ·exact mj _
  ·refine Gf _ _ fun p w=>Gf _ _ fun q w=>?_
   split
   ·exact Gf _ _ fun _ _=>Ff _
   ·exact Ff _
  ·exact Ff _
 ·exact Ff _
structure Nk(ops:Array Oper)(k:Nat):Prop where
 back:∀(j:Nat) (x:Oper),ops[j]?=some x->∀e∈x.after,LC .any e=true->e.on<j
 guard:∀(j:Nat) (x:Oper),ops[j]?=some x->x.guard=none
 light:∀(j:Nat) (x:Oper),ops[j]?=some x->j<k->A3 x=true
 bar:∀(j i:Nat),k<=j->j<ops.size->i<j->(i=0->k<j)->HM ops j i=true
 pos:0<k
 lt:k<ops.size
section
variable {F:Fence} {n:Nat} {P:Program} {ops:Array Oper} {Q:Exit->Act->World->Prop} {R:Act->World->Prop}
theorem KR{o:Oper}(hl:A3 o=true){a:Act}{w:World}{K1 K2 K:Act->World->Prop}{R1 R2:Act->World->Prop}(h1:o.wpIn F n P a w K1 (NM R1 Q))(h2:o.wpIn F n P a w K2 (NM R2 Q))(hK:∀a w,K1 a w->K2 a w->K a w):o.wpIn F n P a w K Q:=by
 have hn:=uQ hl F.round a.eval P w
 unfold Oper.wpIn at *
 refine⟨h1.1,?_⟩
 have h1:=h1.2
 have h2:=h2.2
 generalize (o.semAt F.round a.eval).run P w=r at *
 cases r with
 | ok x w'=>
  cases x<;>simp only[Oper.uponIn] at h1 h2 ⊢<;>first|exact hK _ _ h1 h2|exact hn.elim
 | halt x w'=>cases x<;>simp only[Oper.uponIn] at h1 ⊢<;>exact h1
theorem zi7{k:Nat}(hb:Nk ops k):∀(d j fuel:Nat) (listed:Array Bool) (a:Act) (w:World),ops.size-j=d->k<=j->j<=ops.size->d<=fuel->Upto ops listed j->
  wpListIn F n P ops Q (ops.toList.drop j) a w->wpAnyIn F n P .any ops Q fuel listed a w:=by
 intro d
 induction d with
 | zero=>
  intro j fuel listed a w hd hk hj hf hl h
  obtain rfl:j=ops.size:=by omega
  have hr:aC .any ops listed=[]:=by
   apply qF.2
   intro i hi
   obtain⟨h1,o,h2,_⟩:=mem_ready.1 hi
   have hlt:=(LA.1 h2).1
   rw[HK (by rw[hl.1];exact hlt),hl.2 i hlt] at h1
   simp at h1
   omega
  have hq:Q .normal a w:=by
   rw[uC (by simp)] at h
   exact h
  cases fuel with
  | zero=>exact⟨hr,hq⟩
  | succ fuel=>exact⟨fun _=>hq,fun i hi=>by rw[hr] at hi;cases hi⟩
 | succ d ih=>
  intro j fuel listed a w hd hk hj hf hl h
  obtain⟨fuel,rfl⟩:∃m,fuel=m+1:=⟨fuel-1,by omega⟩
  have hlt:j<ops.size:=by omega
  have hx:ops[j]?=some ops[j]:=by simp[hlt]
  have hmem:j∈aC .any ops listed:=mem_ready.2 ⟨by rw[HK (by rw[hl.1];exact hlt),hl.2 j hlt];simp,ops[j],hx,fun e he hbd=>by
   have:=hb.back j _ hx e he hbd
   rw[hl.2 _ (by omega)]
   simp[this]⟩
  refine⟨fun hr=>(by rw[hr] at hmem;cases hmem),fun i hi=>?_⟩
  have hij:i=j:=by
   obtain⟨h1,o,h2,h3⟩:=mem_ready.1 hi
   have hlt2:=(LA.1 h2).1
   rw[HK (by rw[hl.1];exact hlt2),hl.2 i hlt2] at h1
   simp only[decide_eq_false_iff_not,Nat.not_lt] at h1
   rcases RA j i with g|g
   ·exfalso
    have:=yS (hb.bar i j (by omega) hlt2 g (fun e=>by have:=hb.pos;omega)) hlt2 (S:=fun m=>m<j) (fun m x hm hx e he hbd=>by have:=hb.back m x hx e he hbd;omega) (fun x hx2 e he hbd=>by
     rw[h2] at hx2
     injection hx2 with hx2
     subst hx2
     have h4:=h3 e he hbd
     have:=hb.back i _ h2 e he hbd
     rw[hl.2 _ (by omega)] at h4
     simpa using h4)
    omega
   ·omega
  subst hij
  have hdr:ops.toList.drop i=ops[i]::ops.toList.drop (i+1):=by
   rw[DB (by simpa using hlt)]
   simp
  rw[hdr] at h
  unfold wpOpIn
  rw[hx]
  simp only[wpListIn] at h
  simp only
  split
  ·rename_i hw
   rw[if_pos hw] at h
   exact Oper.wpIn_mono (fun a w hh=>ih (i+1) fuel _ a w (by omega) (by omega) hlt (by omega) (hl.next hlt) hh) h
  ·rename_i hw
   rw[if_neg hw] at h
   exact⟨h.1,ih (i+1) fuel _ _ w (by omega) (by omega) hlt (by omega) (hl.next hlt) h.2⟩
theorem zoi{k:Nat}(hb:Nk ops k)(hk:k<=ops.size):∀(fuel1:Nat) (listed1 listed:Array Bool) (a:Act) (w:World),listed1.size=k->listed.size=ops.size->
  (∀i,i<ops.size->listed.getD i false=(decide (i<k)&&listed1.getD i false))->rV ops (fun j=>j<k/\listed1.getD j false=true)->listed1.getD 0 false=true->
  wpAnyIn F n P .any ⟨ops.toList.take k⟩ (NM (wpListIn F n P ops Q (ops.toList.drop k)) Q) fuel1 listed1 a w->wpAnyIn F n P .any ops Q (fuel1+(ops.size-k)) listed a w:=by
 have hget:∀i,i<k->(⟨ops.toList.take k⟩:Array Oper)[i]?=ops[i]?:=fun i hi=>by
  simp[hi]
 have hsz:(⟨ops.toList.take k⟩:Array Oper).size=k:=by simp;omega
 have all:∀(fuel:Nat) (listed1 listed:Array Bool) (a:Act) (w:World),listed1.size=k->listed.size=ops.size->(∀i,i<ops.size->listed.getD i false=(decide (i<k)&&listed1.getD i false))->
   aC .any (⟨ops.toList.take k⟩:Array Oper) listed1=[]->ops.size-k<=fuel->wpListIn F n P ops Q (ops.toList.drop k) a w->wpAnyIn F n P .any ops Q fuel listed a w:=by
  intro fuel listed1 listed a w h1 h2 h3 hr hf h
  have hall:∀j,j<k->listed1.getD j false=true:=by
   intro j
   induction j using Nat.strongRecOn with
   | _ j ih=>
    intro hj
    cases hs:listed1.getD j false with
    | true=>rfl
    | false=>
     exfalso
     have hx:ops[j]?=some ops[j]:=by simp[show j<ops.size by omega]
     have:j∈aC .any (⟨ops.toList.take k⟩:Array Oper) listed1:=mem_ready.2 ⟨by rw[HK (by omega)];exact hs,ops[j],by rw[hget j hj];exact hx,fun e he hbd=>by
      have hlt:=hb.back j _ hx e he hbd
      exact ih e.on hlt (by omega)⟩
     rw[hr] at this
     cases this
  refine zi7 hb (ops.size-k) k fuel listed a w rfl (jA _) hk hf ⟨h2,fun i hi=>?_⟩ h
  rw[h3 i hi]
  by_cases e:i<k
  ·rw[hall i e];simp
  ·simp[e]
 intro fuel1
 induction fuel1 with
 | zero=>
  intro listed1 listed a w h1 h2 h3 hc h00 h
  obtain⟨hr,hq⟩:=h
  exact all _ listed1 listed a w h1 h2 h3 hr (by omega) hq
 | succ fuel1 ih=>
  intro listed1 listed a w h1 h2 h3 hc h00 h
  obtain⟨g1,g2⟩:=h
  by_cases hr:aC .any (⟨ops.toList.take k⟩:Array Oper) listed1=[]
  ·exact all _ listed1 listed a w h1 h2 h3 hr (by omega) (g1 hr)
  obtain⟨j0,hj0⟩:=List.exists_mem_of_ne_nil _ hr
  have sub:∀i,i∈aC .any (⟨ops.toList.take k⟩:Array Oper) listed1->i∈aC .any ops listed:=fun i hi=>by
   obtain⟨e1,o,e2,e3⟩:=mem_ready.1 hi
   have hik:i<k:=by have:=(LA.1 e2).1;omega
   rw[hget i hik] at e2
   refine mem_ready.2 ⟨?_,o,e2,fun e he hbd=>?_⟩
   ·rw[HK (by omega),h3 i (by omega),<-HK (by omega),e1];simp
   ·have:=hb.back i o e2 e he hbd
    rw[h3 _ (by omega),e3 e he hbd]
    simp;omega
  rw[show fuel1+1+(ops.size-k)=fuel1+(ops.size-k)+1 by omega]
  refine⟨fun h0=>(by have:=sub j0 hj0;rw[h0] at this;cases this),fun i hi=>?_⟩
  obtain⟨e1,o,e2,e3⟩:=mem_ready.1 hi
  have hin:=(LA.1 e2).1
  have hik:i<k:=by
   rcases RA i k with g|g
   ·exact g
   exfalso
   obtain⟨f1,o',f2,f3⟩:=mem_ready.1 hj0
   have hjk:j0<k:=by have:=(LA.1 f2).1;omega
   have:=yS (hb.bar i j0 g hin (by omega) (fun e=>by rw[e,HK (by have:=hb.pos;omega),h00] at f1;cases f1)) hin hc (fun x hx2 e he hbd=>by
    rw[e2] at hx2
    injection hx2 with hx2
    subst hx2
    have h4:=e3 e he hbd
    have:=hb.back i _ e2 e he hbd
    rw[h3 _ (by omega)] at h4
    simpa using h4)
   rw[HK (by omega),this.2] at f1
   cases f1
  have hi1:i∈aC .any (⟨ops.toList.take k⟩:Array Oper) listed1:=mem_ready.2 ⟨by
   rw[HK (by omega),h3 i hin] at e1
   rw[HK (by omega)]
   simpa[hik] using e1,o,by rw[hget i hik];exact e2,fun e he hbd=>by
    have h4:=e3 e he hbd
    have:=hb.back i _ e2 e he hbd
    rw[h3 _ (by omega)] at h4
    have h5:(decide (e.on<k)&&listed1.getD e.on false)=true:=h4
    simp only[wA,decide_eq_true_eq] at h5
    exact h5.2⟩
  have h5:=g2 i hi1
  unfold wpOpIn at h5 ⊢
  rw[hget i hik,e2] at h5
  rw[e2]
  simp only at h5 ⊢
  have hw:oD o (yielded (⟨ops.toList.take k⟩:Array Oper) a.tmps)=oD o (yielded ops a.tmps):=by
   unfold oD
   cases hg:o.guard with
   | none=>rfl
   | some p=>
    obtain⟨j,b⟩:=p
    rw[hb.guard i o e2] at hg
    cases hg
  rw[hw] at h5
  have step:∀a w,wpAnyIn F n P .any (⟨ops.toList.take k⟩:Array Oper) (NM (wpListIn F n P ops Q (ops.toList.drop k)) Q) fuel1 (listed1.setIfInBounds i true) a w->wpAnyIn F n P .any ops Q (fuel1+(ops.size-k)) (listed.setIfInBounds i true) a w:=fun a w hh=>by
   have aK:∀(l:Array Bool) (m:Nat),i<l.size->m<l.size->(l.setIfInBounds i true).getD m false=(decide (m=i)||l.getD m false):=fun l m hi hm=>by
    by_cases e:m=i
    ·subst e;simp[ZD,hm]
    ·simp only[ZD,nE,hm,dif_pos,ND,yE,Ne.symm e,if_false,e,decide_false,mI]
   refine ih _ _ a w (by simp[h1]) (by simp[h2]) (fun m hm=>?_) ?_ (by rw[aK listed1 0 (by omega) (by have:=hb.pos;omega),h00,sH]) hh
   ·rw[aK listed m (by omega) (by omega),h3 m hm]
    by_cases hmk:m<k
    ·rw[aK listed1 m (by omega) (by omega)]
     simp[hmk]
    ·have:m≠i:=by omega
     simp[hmk,this]
   ·intro m x hm hx e he hbd
    obtain⟨hmk,hm⟩:=hm
    have hlt:=hb.back m x hx e he hbd
    refine⟨by omega,?_⟩
    rw[aK listed1 _ (by omega) (by omega)]
    rw[aK listed1 m (by omega) (by omega)] at hm
    simp only[IC,decide_eq_true_eq] at hm ⊢
    right
    rcases hm with rfl|hm
    ·rw[e2] at hx
     injection hx with hx
     subst hx
     have h4:=e3 e he hbd
     rw[h3 _ (by omega)] at h4
     simp only[wA] at h4
     exact h4.2
    ·exact(hc m x ⟨hmk,hm⟩ hx e he hbd).2
  split
  ·rename_i hw1
   rw[if_pos hw1] at h5
   exact zjS step h5
  ·rename_i hw1
   rw[if_neg hw1] at h5
   exact⟨h5.1,step _ _ h5.2⟩
theorem aK(l:Array Bool)(i m:Nat)(hi:i<l.size)(hm:m<l.size):(l.setIfInBounds i true).getD m false=(decide (m=i)||l.getD m false):=by
 by_cases e:m=i
 ·subst e;simp[ZD,hm]
 ·simp only[ZD,nE,hm,dif_pos,ND,yE,Ne.symm e,if_false,e,decide_false,mI]
theorem zhM{o:Oper}{ops:Array Oper}(h:o.guard=none)(t:Array Value):oD o (yielded ops t)=true:=by
 unfold oD
 rw[h]
theorem AX{ops:Array Oper}{i:Nat}{o:Oper}(h:ops[i]?=some o)(hg:o.guard=none){Q:Exit->Act->World->Prop}{K:Act->World->Prop}{a:Act}{w:World}:wpOpIn F n P ops Q i K a w=o.wpIn F n P a w K Q:=by
 unfold wpOpIn
 rw[h]
 simp only[zhM hg,if_true]
theorem zlk{o:Oper}{rest:List Oper}(hg:o.guard=none){Q:Exit->Act->World->Prop}{a:Act}{w:World}:wpListIn F n P ops Q (o::rest) a w=o.wpIn F n P a w (wpListIn F n P ops Q rest) Q:=by
 rw[wpListIn]
 simp only[zhM hg,if_true]
theorem zoh{k:Nat}(hb:Nk ops k)(ok o0:Oper)(hok:ops[k]?=some ok)(ho0:ops[0]?=some o0)(opsB:Array Oper)(hBs:opsB.size=k)(hBi:∀i,0<i->i<k->opsB[i]?=ops[i]?):∀(fuelB:Nat) (listed1 listed listedB:Array Bool) (a:Act) (w:World),listed1.size=k->listed.size=ops.size->listedB.size=k->
  (∀i,i<ops.size->listed.getD i false=(decide (i<k)&&listed1.getD i false))->(∀i,i<k->listedB.getD i false=(decide (i=0)||listed1.getD i false))->rV ops (fun j=>j<k/\listed1.getD j false=true)->listed1.getD 0 false=false->
  wpAnyIn F n P .any ⟨ops.toList.take k⟩ (NM (wpListIn F n P ops Q (ops.toList.drop k)) Q) (fuelB+1) listed1 a w->
  wpAnyIn F n P .any opsB (NM (wpListIn F n P ops Q (ok::o0::ops.toList.drop (k+1))) Q) fuelB listedB a w->wpAnyIn F n P .any ops Q (fuelB+1+(ops.size-k)) listed a w:=by
 have hpos:=hb.pos
 have hlt:=hb.lt
 have hget:∀i,i<k->(⟨ops.toList.take k⟩:Array Oper)[i]?=ops[i]?:=fun i hi=>by
  simp[hi]
 have subB:∀(listed1 listed listedB:Array Bool),listed1.size=k->listed.size=ops.size->listedB.size=k->(∀i,i<ops.size->listed.getD i false=(decide (i<k)&&listed1.getD i false))->(∀i,i<k->listedB.getD i false=(decide (i=0)||listed1.getD i false))->
   ∀i,0<i->i<k->i∈aC .any ops listed->i∈aC .any opsB listedB/\i∈aC .any (⟨ops.toList.take k⟩:Array Oper) listed1:=by
  intro listed1 listed listedB h1 h2 hb1 h3 h3b i hi0 hik hi
  obtain⟨e1,o,e2,e3⟩:=mem_ready.1 hi
  rw[HK (by omega),h3 i (by omega)] at e1
  have e1':listed1.getD i false=false:=by simpa[hik] using e1
  have e3':∀e∈o.after,LC .any e=true->e.on<k/\listed1.getD e.on false=true:=fun e he hbd=>by
   have h4:=e3 e he hbd
   have:=hb.back i o e2 e he hbd
   rw[h3 _ (by omega)] at h4
   simpa using h4
  refine⟨mem_ready.2 ⟨?_,o,by rw[hBi i hi0 hik];exact e2,fun e he hbd=>?_⟩,mem_ready.2 ⟨?_,o,by rw[hget i hik];exact e2,fun e he hbd=>(e3' e he hbd).2⟩⟩
  ·rw[HK (by omega),h3b i hik,e1']
   simp;omega
  ·rw[h3b _ (e3' e he hbd).1,(e3' e he hbd).2,sH]
  ·rw[HK (by omega)]
   exact e1'
 have core:∀(fuelB:Nat) (listed1 listed listedB:Array Bool) (a:Act) (w:World),listed1.size=k->listed.size=ops.size->listedB.size=k->
  (∀i,i<ops.size->listed.getD i false=(decide (i<k)&&listed1.getD i false))->(∀i,i<k->listedB.getD i false=(decide (i=0)||listed1.getD i false))->rV ops (fun j=>j<k/\listed1.getD j false=true)->listed1.getD 0 false=false->
  wpAnyIn F n P .any ⟨ops.toList.take k⟩ (NM (wpListIn F n P ops Q (ops.toList.drop k)) Q) (fuelB+1) listed1 a w->
  wpAnyIn F n P .any opsB (NM (wpListIn F n P ops Q (ok::o0::ops.toList.drop (k+1))) Q) fuelB listedB a w->
  (∀i,0<i->i<k->i∈aC .any ops listed->wpOpIn F n P ops Q i (wpAnyIn F n P .any ops Q (fuelB+(ops.size-k)) (listed.setIfInBounds i true)) a w)->wpAnyIn F n P .any ops Q (fuelB+1+(ops.size-k)) listed a w:=by
  intro fuelB listed1 listed listedB a w h1 h2 hb1 h3 h3b hc h0 hA hB hmid
  rw[show fuelB+1+(ops.size-k)=fuelB+(ops.size-k)+1 by omega]
  have l0:listed.getD 0 false=false:=by rw[h3 0 (by omega),h0,Bool.and_false]
  have m0:∀l:Array Bool,l.size=ops.size->l.getD 0 false=false->0∈aC .any ops l:=fun l hl h=>mem_ready.2 ⟨by rw[HK (by omega)];exact h,o0,ho0,fun e he hbd=>absurd (hb.back 0 _ ho0 e he hbd) (OD _)⟩
  refine⟨fun hr=>(by have:=m0 listed h2 l0;rw[hr] at this;cases this),fun i hi=>?_⟩
  obtain⟨e1,o,e2,e3⟩:=mem_ready.1 hi
  have hin:=(LA.1 e2).1
  have e4:∀e∈o.after,LC .any e=true->e.on<k/\listed1.getD e.on false=true:=fun e he hbd=>by
   have h4:=e3 e he hbd
   have:=hb.back i o e2 e he hbd
   rw[h3 _ (by omega)] at h4
   simpa using h4
  have beh:∀j,HM ops i j=true->j<k/\listed1.getD j false=true:=fun j h=>yS h hin hc (fun x hx2 e he hbd=>by
   rw[e2] at hx2
   injection hx2 with hx2
   subst hx2
   exact e4 e he hbd)
  by_cases hi0:i=0
  ·subst hi0
   have mA:0∈aC .any (⟨ops.toList.take k⟩:Array Oper) listed1:=mem_ready.2 ⟨by rw[HK (by omega)];exact h0,o0,by rw[hget 0 hpos];exact ho0,fun e he hbd=>absurd (hb.back 0 _ ho0 e he hbd) (OD _)⟩
   have h5:=hA.2 0 mA
   rw[AX (by rw[hget 0 hpos];exact ho0) (hb.guard 0 _ ho0)] at h5
   rw[AX ho0 (hb.guard 0 _ ho0)]
   refine zjS (fun a w hh=>?_) h5
   refine zoi hb (bF hlt) fuelB _ _ a w (by simp[h1]) (by simp[h2]) (fun m hm=>?_) ?_ (by rw[aK _ _ _ (by omega) (by omega)];rfl) hh
   ·rw[aK listed 0 m (by omega) (by omega),h3 m hm]
    by_cases hmk:m<k
    ·rw[aK listed1 0 m (by omega) (by omega)]
     simp[hmk]
    ·have:m≠0:=by omega
     simp[hmk,this]
   ·intro m x hm hx e he hbd
    obtain⟨hmk,hm⟩:=hm
    have hltm:=hb.back m x hx e he hbd
    refine⟨by omega,?_⟩
    rw[aK listed1 0 _ (by omega) (by omega)]
    rw[aK listed1 0 m (by omega) (by omega)] at hm
    simp only[IC,decide_eq_true_eq] at hm ⊢
    right
    rcases hm with rfl|hm
    ·exact absurd hltm (OD _)
    ·exact(hc m x ⟨hmk,hm⟩ hx e he hbd).2
  by_cases hik:i<k
  ·exact hmid i (by omega) hik hi
  have hke:i=k:=by
   rcases RA k i with g|g
   ·have:=(beh 0 (hb.bar i 0 (by omega) hin (by omega) (fun _=>g))).2
    rw[h0] at this
    cases this
   ·omega
  subst hke
  have hall:∀j,0<j->j<i->listed1.getD j false=true:=fun j hj0 hj=>(beh j (hb.bar i j (jA _) hin hj (fun e=>by omega))).2
  have hrB:aC .any opsB listedB=[]:=by
   apply qF.2
   intro j hj
   obtain⟨f1,o',f2,f3⟩:=mem_ready.1 hj
   have hjl:=(LA.1 f2).1
   rw[HK (by omega),h3b j (by omega)] at f1
   by_cases hj0:j=0
   ·simp[hj0] at f1
   ·rw[hall j (by omega) (by omega),sH] at f1
    cases f1
  have hL:wpListIn F n P ops Q (ok::o0::ops.toList.drop (i+1)) a w:=by
   cases fuelB with
   | zero=>exact hB.2
   | succ m=>exact hB.1 hrB
  rw[zlk (hb.guard i _ hok)] at hL
  rw[AX hok (hb.guard i _ hok)]
  refine Oper.wpIn_mono (fun a w hh=>?_) hL
  rw[zlk (hb.guard 0 _ ho0)] at hh
  obtain⟨f',hf'⟩:∃f',fuelB+(ops.size-i)=f'+1:=⟨fuelB+(ops.size-i)-1,by omega⟩
  rw[hf']
  have lk0:(listed.setIfInBounds i true).getD 0 false=false:=by
   rw[aK _ _ _ (by omega) (by omega),l0]
   simp;omega
  refine⟨fun hr=>(by have:=m0 (listed.setIfInBounds i true) (by simp[h2]) lk0;rw[hr] at this;cases this),fun j hj=>?_⟩
  have hj0:j=0:=by
   obtain⟨f1,o',f2,f3⟩:=mem_ready.1 hj
   have hjl:=(LA.1 f2).1
   rw[HK (by simp;omega),aK _ _ _ (by omega) (by omega),h3 j (by omega)] at f1
   by_cases hj0:j=0
   ·exact hj0
   exfalso
   by_cases hjk:j<i
   ·rw[hall j (by omega) hjk] at f1
    simp[hjk] at f1
   ·have hji:j≠i:=fun e=>by simp[e] at f1
    have hcl:rV ops (fun m=>m=i\/(m<i/\listed1.getD m false=true)):=by
     intro m x hm hx e he hbd
     rcases hm with rfl|hm
     ·rw[e2] at hx
      injection hx with hx
      subst hx
      exact .inr (e4 e he hbd)
     ·exact .inr (hc m x hm hx e he hbd)
    have:=yS (hb.bar j 0 (by omega) hjl (by omega) (fun _=>by omega)) hjl hcl (fun x hx2 e he hbd=>by
     rw[f2] at hx2
     injection hx2 with hx2
     subst hx2
     have h4:=f3 e he hbd
     have:=hb.back j _ f2 e he hbd
     rw[aK _ _ _ (by omega) (by omega),h3 _ (by omega)] at h4
     simpa using h4)
    rcases this with e|⟨_,e⟩
    ·omega
    ·rw[h0] at e;cases e
  subst hj0
  rw[AX ho0 (hb.guard 0 _ ho0)]
  refine Oper.wpIn_mono (fun a w hh=>?_) hh
  refine zi7 hb (ops.size-(i+1)) (i+1) f' _ a w rfl (by omega) (by omega) (by omega) ⟨by simp[h2],fun m hm=>?_⟩ hh
  rw[aK _ _ _ (by simp;omega) (by simp;omega),aK _ _ _ (by omega) (by omega),h3 m hm]
  by_cases g0:m=0
  ·simp[g0]
  by_cases g1:m<i
  ·rw[hall m (by omega) g1]
   simp[g1];omega
  ·by_cases g2:m=i
   ·simp[g2]
   ·simp[g0,g1,g2];omega
 intro fuelB
 induction fuelB with
 | zero=>
  intro listed1 listed listedB a w h1 h2 hb1 h3 h3b hc h0 hA hB
  refine core 0 listed1 listed listedB a w h1 h2 hb1 h3 h3b hc h0 hA hB fun i hi0 hik hi=>?_
  have:=(subB listed1 listed listedB h1 h2 hb1 h3 h3b i hi0 hik hi).1
  rw[hB.1] at this
  cases this
 | succ m ih=>
  intro listed1 listed listedB a w h1 h2 hb1 h3 h3b hc h0 hA hB
  refine core (m+1) listed1 listed listedB a w h1 h2 hb1 h3 h3b hc h0 hA hB fun i hi0 hik hi=>?_
  obtain⟨q1,q2⟩:=subB listed1 listed listedB h1 h2 hb1 h3 h3b i hi0 hik hi
  obtain⟨e1,o,e2,e3⟩:=mem_ready.1 hi
  have hg:=hb.guard i o e2
  have g1:=hA.2 i q2
  have g2:=hB.2 i q1
  rw[AX (by rw[hget i hik];exact e2) hg] at g1
  rw[AX (by rw[hBi i hi0 hik];exact e2) hg] at g2
  rw[AX e2 hg]
  refine KR (hb.light i o e2 hik) g1 g2 fun a w k1 k2=>?_
  refine ih (listed1.setIfInBounds i true) (listed.setIfInBounds i true) (listedB.setIfInBounds i true) a w (by simp[h1]) (by simp[h2]) (by simp[hb1]) (fun j hj=>?_) (fun j hj=>?_) ?_ ?_ k1 k2
  ·rw[aK listed i j (by omega) (by omega),h3 j hj]
   by_cases hjk:j<k
   ·rw[aK listed1 i j (by omega) (by omega)]
    simp[hjk]
   ·have:j≠i:=by omega
    simp[hjk,this]
  ·rw[aK listedB i j (by omega) (by omega),h3b j hj,aK listed1 i j (by omega) (by omega)]
   cases decide (j=i)<;>cases decide (j=0)<;>rfl
  ·intro m x hm hx e he hbd
   obtain⟨hmk,hm⟩:=hm
   have hltm:=hb.back m x hx e he hbd
   refine⟨by omega,?_⟩
   rw[aK listed1 i _ (by omega) (by omega)]
   rw[aK listed1 i m (by omega) (by omega)] at hm
   simp only[IC,decide_eq_true_eq] at hm ⊢
   right
   rcases hm with rfl|hm
   ·rw[e2] at hx
    injection hx with hx
    subst hx
    have h4:=e3 e he hbd
    rw[h3 _ (by omega)] at h4
    simp only[wA] at h4
    exact h4.2
   ·exact(hc m x ⟨hmk,hm⟩ hx e he hbd).2
  ·rw[aK _ _ _ (by omega) (by omega),h0]
   simp;omega
end
def Tk(ops:Array Oper)(k:Nat):Bool:=
 mD 0 k&&mD k ops.size&&(CB ops.size).all fun j=>match ops[j]? with
  | none=>false
  | some o=>(o.after.all fun e=>!LC .any e||mD e.on j)&&o.guard.isNone&&(!mD j k||A3 o)&&(mD j k||(CB j).all fun i=>(Nat.beq i 0&&!mD k j)||HM ops j i)
theorem zqr{ops:Array Oper}{k:Nat}(h:Tk ops k=true):Nk ops k:=by
 unfold Tk at h
 rw[wA,wA,AD,AD,gB] at h
 obtain⟨⟨hp,hlt⟩,h⟩:=h
 have key:∀(j:Nat) (x:Oper),ops[j]?=some x->((∀e∈x.after,LC .any e=true->e.on<j)/\x.guard=none/\(j<k->A3 x=true)/\(k<=j->∀i,i<j->(i=0->k<j)->HM ops j i=true)):=by
  intro j x hx
  have hj:=(LA.1 hx).1
  have:=h j (yD.2 hj)
  rw[hx] at this
  simp only[wA,Array.all_eq_true_iff_forall_mem,IC,Bool.not_eq_true',AD,gB,yD,Option.isNone_iff_eq_none,Nat.beq_eq] at this
  obtain⟨⟨⟨q1,q2⟩,q3⟩,q4⟩:=this
  refine⟨fun e he hb=>?_,q2,fun hk=>?_,fun hk i hi h0=>?_⟩
  ·rcases q1 e he with h|h
   ·rw[hb] at h;cases h
   ·exact h
  ·rcases q3 with h|h
   ·exact absurd (show mD j k=true by rw[AD];exact hk) (by rw[h];decide)
   ·exact h
  ·rcases q4 with h|h
   ·omega
   ·rcases h i hi with⟨e,e2⟩|h
    ·exact absurd (show mD k j=true by rw[AD];exact h0 e) (by rw[e2];decide)
    ·exact h
 exact⟨fun j x hx=>(key j x hx).1,fun j x hx=>(key j x hx).2.1,fun j x hx=>(key j x hx).2.2.1,fun j i hk hj hi h0=>(key j ops[j] (by simp[hj])).2.2.2 hk i hi h0,hp,hlt⟩
def WO(o:Oper):Oper:={ o with dst:=none,op:=.move (.const (.bool true)),guard:=none }
theorem FZ{F:Fence}{n:Nat}{P:Program}{o:Oper}{a:Act}{w:World}{K:Act->World->Prop}{Q:Exit->Act->World->Prop}(h:(WO o).wpIn F n P a w K Q):K a w:=by
 have h2:=h.2
 rw[Oper.semAt_eq _ _ _ (fun c e=>by cases e)] at h2
 exact h2
theorem W.bar2{C:Ctx}{nt:Nat}{ro:Option Nat}{H0:Heap}{os:List Oper}{i:Nat}{st:St}{Q:Ex->St->Prop}(hmix:C.P.follows .mixedOrders=true){k:Nat}(hb:Tk ⟨os⟩ k=true)(ok o0:Oper)(hok:os[k]?=some ok)(ho0:os[0]?=some o0)
  (hv:vO C nt ⟨os.take k⟩ st fun st1=>lM C nt (os.map (·.dst)) (os.drop k) st1 (Q .normal))
  (hv2:vO C nt ⟨WO o0::(os.take k).tail⟩ st fun st1=>lM C nt (os.map (·.dst)) (ok::o0::os.drop (k+1)) st1 (Q .normal)):W C nt ro H0 (.region i ⟨os⟩ true) st Q:=by
 intro h wro o s w a Qw og R hkont
 refine wpIn_region_any hmix ?_
 have hB:=zqr hb
 have hpos:=hB.pos
 have hlt:k<os.length:=hB.lt
 have hA:wpAnyIn (WF wro) 0 C.P .any ⟨os.take k⟩ (NM (wpListIn (WF wro) 0 C.P ⟨os⟩ Qw (os.drop k)) Qw) k (lC k false) a w.drew:=by
  obtain⟨h1,S',hS,n,es,st',h2,h3,h4⟩:=hv
  have hC:DV { C with S:=S' }:=⟨hmix,fun g F hF=>(hS g F hF).of_same⟩
  have hsz:(⟨os.take k⟩:Array Oper).size=k:=by simp;omega
  have h5:=jX { C with S:=S' } n nt ro wro o h s _ st st' a ⟨os.take k⟩ es (NM (wpListIn (WF wro) 0 C.P ⟨os⟩ Qw (os.drop k)) Qw) (fun m hm=>(UN hC (jX _) m).2.2) h1 h2 h3 (SR.of_same R).drew
   fun s' w' a' R'=>F2 (ops:=⟨os⟩) (fun st2 s2 w2 a2 q R2=>hkont .normal st2 s2 w2 a2 q R2) _ _ _ _ _ h4 (SR.to_same R')
  rw[hsz] at h5
  exact h5
 have hB2:wpAnyIn (WF wro) 0 C.P .any ⟨WO o0::(os.take k).tail⟩ (NM (wpListIn (WF wro) 0 C.P ⟨os⟩ Qw (ok::o0::os.drop (k+1))) Qw) k (lC k false) a w.drew:=by
  obtain⟨h1,S',hS,n,es,st',h2,h3,h4⟩:=hv2
  have hC:DV { C with S:=S' }:=⟨hmix,fun g F hF=>(hS g F hF).of_same⟩
  have hsz:(⟨WO o0::(os.take k).tail⟩:Array Oper).size=k:=by simp;omega
  have h5:=jX { C with S:=S' } n nt ro wro o h s _ st st' a ⟨WO o0::(os.take k).tail⟩ es (NM (wpListIn (WF wro) 0 C.P ⟨os⟩ Qw (ok::o0::os.drop (k+1))) Qw) (fun m hm=>(UN hC (jX _) m).2.2) h1 h2 h3 (SR.of_same R).drew
   fun s' w' a' R'=>F2 (ops:=⟨os⟩) (fun st2 s2 w2 a2 q R2=>hkont .normal st2 s2 w2 a2 q R2) _ _ _ _ _ h4 (SR.to_same R')
  rw[hsz] at h5
  exact h5
 obtain⟨k',rfl⟩:∃k',k=k'+1:=⟨k-1,by omega⟩
 have hx0:(⟨WO o0::(os.take (k'+1)).tail⟩:Array Oper)[0]?=some (WO o0):=rfl
 have m0:0∈aC .any (⟨WO o0::(os.take (k'+1)).tail⟩:Array Oper) (lC (k'+1) false):=mem_ready.2 ⟨by simp[ZD],WO o0,hx0,fun e he hbd=>absurd (hB.back 0 o0 (by simpa using ho0) e he hbd) (OD _)⟩
 have h6:=hB2.2 0 m0
 rw[AX hx0 rfl] at h6
 have h7:=FZ h6
 have:=zoh hB ok o0 (by simpa using hok) (by simpa using ho0) ⟨WO o0::(os.take (k'+1)).tail⟩ (by simp;omega) (fun j hj hjk=>?_) k' (lC (k'+1) false) (lC os.length false) _ a _ (by simp) (by simp) (by simp) (fun j hj=>by simp[ZD]) (fun j hj=>by rw[aK _ _ _ (by simp) (by simpa using hj)]) (fun j x hj hx e he hbd=>by simp[ZD] at hj) (by simp[ZD]) hA h7
 ·have e:k'+1+((⟨os⟩:Array Oper).size-(k'+1))=(⟨os⟩:Array Oper).size:=by simp;omega
  rw[e] at this
  exact this
 ·obtain⟨j',rfl⟩:∃j',j=j'+1:=⟨j-1,by omega⟩
  have e:((os.take (k'+1)).tail)[j']?=os[j'+1]?:=by rw[List.getElem?_tail,List.getElem?_take_of_lt hjk]
  simpa using e
theorem WW.bar2{C:Ctx}{nt:Nat}{ro:Option Nat}{H0:Heap}{os:List Oper}{i:Nat}{T:Tr V}{H:Heap}{lo:Nat}{Q:Ex->St->Prop}{h:Hid (Code.region i ⟨os⟩ true,Q)}(hmix:C.P.follows .mixedOrders=true)(k:Nat)(hb:Tk ⟨os⟩ k=true)(ok o0:Oper)(hok:os[k]?=some ok)(ho0:os[0]?=some o0)(rest:List Oper)(hr:os.drop (k+1)=rest)
  (hv:DR' C nt ⟨os.take k⟩ T H lo (fun st1=>O4 C nt (os.map (·.dst)) k os st1.T st1.H st1.lo (Q .normal) .mk) .mk)
  (hv2:DR' C nt ⟨WO o0::(os.take k).tail⟩ T H lo (fun st1=>O4 C nt (os.map (·.dst)) 0 (ok::o0::rest) st1.T st1.H st1.lo (Q .normal) .mk) .mk):WW C nt ro H0 (.region i ⟨os⟩ true) T H lo Q h:=by
 subst hr
 have hm:∀{Q1 Q2:St->Prop} {st:St} {ops:Array Oper},vO C nt ops st Q1->(∀st,Q1 st->Q2 st)->vO C nt ops st Q2:=fun h k=>by
  obtain⟨h1,S',hS,n,es,st',h2,h3,h4⟩:=h
  exact⟨h1,S',hS,n,es,st',h2,h3,k _ h4⟩
 exact⟨W.bar2 hmix hb ok o0 hok ho0 (hm hv.out fun st q=>q.out) (hm hv2.out fun st q=>q.out)⟩
end
end Go.Tw
namespace Go.Proofs.YtookdinfaoelaaaGreatDoor
section
open Go Go.Tw
open Classical
def EK(l:List GNode)(q:GRev):Nat:=l.countP fun n=>decide (n.parent=q)
theorem zpA{l:List GNode}{i:Nat}{x:GNode}(h:l[i]?=some x)(q:GRev):EK (l.take (i+1)) q=if q=x.parent then EK (l.take i) q+1 else EK (l.take i) q:=by
 obtain⟨hi,rfl⟩:=rA.1 h
 have:l.take (i+1)=l.take i++[l[i]]:=by rw[yB,sA hi];rfl
 rw[EK,this,CF]
 by_cases e:q=l[i].parent
 ·simp[EK,e]
 ·rw[if_neg e]
  simp[EK,Ne.symm e]
theorem xU(l:List GNode)(i:Nat)(q:GRev):EK (l.take i) q<=i:=cB OE (by rw[JB];omega)
structure IsPar(l:List GNode)(X:Heap)(b:Nat):Prop where
 ex:∃c clk,X.get b=some (.map (BI c) clk)/\OkC c clk/\∀q,BH c q=(EK l q:Nat)
theorem zlr{l:List GNode}{X:Heap}{b:Nat}(h:X.get b=some (mapM (l.map (·.parent)))):IsPar l X b:=by
 obtain⟨h1,h2⟩:=Ek (l.map (·.parent))
 refine⟨_,_,h,h1,fun q=>?_⟩
 rw[h2,List.countP_map]
 rfl
theorem tZ(l:List GNode)(hl:l.length<=9223372036854775807)(H:Heap)(Q:OR->Prop)(hQ:Q ⟨.mp H.n,H.push (mapM (l.map (·.parent))),H.n⟩):MCall Cx 21 [AH l] H Q:=by
 refine QA zm (fn:=Tryz.f21) Tryz.func21 rfl (by decide) (k:=26) rfl (rs:=[.tmp 2]) rfl ?_
 simp -dsimp only[go_sem,bA,aA,reduceCtorEq,gA]
 refine WW.loop zm (ι:=Nat×Heap×MK×Nat) (fun p=>[(3,.mp H.n),(11,NB za l),(12,vA l.length),(13,vA p.1)]) (fun p=>p.2.1) (fun _=>H.n)
  (fun p=>p.1<=l.length/\(Gw H p.2.1/\H.n<p.2.1.n)/\p.2.1.get H.n=some (.map (BI p.2.2.1) p.2.2.2)/\OkC p.2.2.1 p.2.2.2/\(∀q,BH p.2.2.1 q=(EK (l.take p.1) q:Nat))/\(p.2.2.1,p.2.2.2)=GH ((l.take p.1).map (·.parent))) (fun p=>l.length-p.1) (0,H.push (.map [] 0),[],0) ?_ ?_ ?_
 ·exact⟨KB _,⟨.push,by rw[iA];omega⟩,by rw[yA,if_pos rfl];rfl,⟨by simp,by simp,by simp⟩,fun q=>by simp[EK,BH,UK],rfl⟩
 ·refine(Sub.lower (lo2:=H.n) (by omega)).trans (Sub.keep _ zSl)
 rintro⟨i,X,c,clk⟩ ⟨hi,⟨hG,hn⟩,hb,hok,hc,hcm⟩
 simp only at hi hG hn hb hok hc hcm ⊢
 simp -dsimp only[go_sem,bA,aA,zf,zh]
 refine aB (fun h=>?_) (fun h=>?_)<;>simp -dsimp only[go_sem,bA,aA,h]
 ·obtain⟨x,hx⟩:=zu h
  simp -dsimp only[go_sem,bA,aA,h,z7 zg hx]
  have hne:(H.n=X.n)=False:=by simp;omega
  refine DR.wr _ Tab.OK.nil [(3,5)] (by kernel_rfl) (by kernel_rfl) ?_
  simp -dsimp only[go_sem,bA,aA]
  refine OO.keep (Z3 (c:=c) (clk:=clk) (by simp -dsimp only[go_sem,bA,hne,hb]) x.parent) ?_
  have hp:=xU l i x.parent
  have e1:IntKind.i64.wrap (BH c x.parent+1)=((EK (l.take i) x.parent+1:Nat):Int):=by rw[hc,PR (by omega)]
  simp -dsimp only[go_sem,bA,aA,e1]
  obtain⟨n,H1,h1,h2,h3,h4⟩:=zqm (H:=(X.push (.cells zNode 38)).set X.n (.cells (za x) 38)) (b:=H.n) (c:=c) (clk:=clk) (by simp -dsimp only[go_sem,bA,hne,hb]) hok x.parent
  obtain⟨H2,c2,clk2,k1,k2,k3,k4,k5,k6,k7,k8⟩:=h4 (EK (l.take i) x.parent+1:Nat)
  refine OO.intro h1 ?_
  simp -dsimp only[go_sem,bA,aA]
  refine OO.intro k1 ?_
  simp -dsimp only[go_sem,bA,aA,ziG (zm1 _)]
  have k2':H2.n=X.n+1:=by rw[k2,kA,iA]
  refine zAg (i+1,H2,c2,clk2) ?_
  dsimp only
  refine⟨h,⟨⟨by omega,fun j hj=>?_⟩,by omega⟩,k4,k5,fun q=>?_,?_⟩
  ·rw[k3 j (by omega),dA,if_neg (fun h=>absurd h.1 (by omega)),yA,if_neg (by omega),hG.old j hj]
  ·rw[k7,zpA hx]
   by_cases e:q=x.parent
   ·rw[if_pos e,if_pos e,e]
   ·rw[if_neg e,if_neg e,hc]
  ·have e2:(l.take (i+1)).map (·.parent)=(l.take i).map (·.parent)++[x.parent]:=by rw[yB,hx];simp
   rw[e2,ziE,<-hcm,k8,hc]
   rfl
 ·refine Res.map hG hn ?_ (by omega) hQ
  rw[uA (by omega)] at hcm
  rw[mapM,<-hcm];exact hb
end
end Go.Proofs.YtookdinfaoelaaaGreatDoor
namespace Go.Tw
section
section
variable {P:Program} {t e:TypeId} {H:Heap}
theorem ziJ(k:IntKind)(i:Int)(m:Nat)(h0:0<=i):fS (.lit (.int k i)) m=if i.toNat<=m then some i.toNat else none:=by
 obtain⟨j,rfl⟩:=nF h0
 rw[iV]
 simp
theorem zfm{n z:Nat}(h:P.underlying t=some (.array n e))(hz:EF P e=some z)(b off:Nat)(k:IntKind)(i:Int)(h0:0<=i)(hi:i.toNat<=n):lH P t (.ptr b off) none (some (.lit (.int k i))) none=some (.sl b (if n=0 then off else off+0*z) i.toNat n none):=by
 simp only[lH,h,hz,SK,MM,pM,sM,ziJ k i _ h0,KA,pA]
 simp[hi]
theorem zjZ{n z:Nat}(h:P.underlying t=some (.array n e))(hz:EF P e=some z)(b off:Nat)(k:IntKind)(i:Int)(h0:0<=i)(hi:i.toNat<n):lH P t (.ptr b off) (some (.lit (.int k i))) none none=some (.sl b (off+i.toNat*z) (n-i.toNat) (n-i.toNat) none):=by
 simp only[lH,h,hz,SK,MM,pM,sM,ziJ k i _ h0,KA,pA]
 simp[bF hi]
 omega
theorem P7{z:Nat}(h:P.underlying t=some (.slice e))(hz:EF P e=some z){b off n c:Nat}{o:Option Nat}{x:V}{m:Nat}{cs new r:List V}{eb:TypeId}(hx:mJ x=some m)(hc:cellsOf H z (min m n) x=some new)(hb:H.get b=some (.cells cs eb))(h1:new.all V.one=true)(hs:zD cs off new=some r):
  xO P H t (.sl b off n c o) x=some ⟨.lit (.int .i64 (min m n:Nat)),H.set b (.cells r eb),min b H.n⟩:=by
 have hd:mJ (.sl b off n c o)=some n:=rfl
 simp only[xO,h,hz,hx,hd,hc,hb,h1,hs,pA,KA,if_true]
theorem cells_sl{z n b off len c:Nat}{o:Option Nat}{cs:List V}{eb:TypeId}(hb:H.get b=some (.cells cs eb))(hn:n<=len)(hl:off+n*z<=cs.length):cellsOf H z n (.sl b off len c o)=some ((cs.drop off).take (n*z)):=by
 simp[cellsOf,hb,hn,hl]
theorem Ie{α:Type}{f:α->V}{l m:List α}{o:Nat}(h:o+m.length<=l.length):zD (l.map f) o (m.map f)=some ((l.take o++m++l.drop (o+m.length)).map f):=by
 unfold zD
 rw[if_pos (by simpa using h)]
 simp
end
theorem MVal.round2{C:Ctx}{b:Nat}{x y:V}{ts:List V}{p q:Tmp}{as0 bd:Code}{pend:Option Code}{H:Heap}{Q:OR->Prop}(hb:H.get b=some (.loop ts [p,q] as0 bd .ready pend))(hp:p<ts.length)(hq:q<ts.length)(S:List (Nat×V))(hS:∀u∈S,PD (OG (OG (ZJ ts 0 .nil) (some p) x) (some q) y) u.1=u.2)
  (k:WW C ts.length (some b) H as0 (jH S) H H.n (RdA C ts.length b H bd Q) .mk):MVal C (.yld b) [x,y] H Q:=by
 refine MVal.yld hb rfl (fun u hu=>by
  simp only[IB,JA,or_false] at hu
  rcases hu with rfl|rfl
  ·exact hp
  ·exact hq) ?_
 refine(W.pre (Sub.keep S hS) k.out).mono fun e st1 q=>?_
 obtain⟨h1,ts1,ps1,as1,bd1,pend1,h2,h3⟩:=q
 exact⟨h1,ts1,ps1,as1,bd1,pend1,h2,h3.out⟩
end
end Go.Tw
namespace Go.Proofs.YtookdinfaoelaaaGreatDoor
section
open Go Go.Tw
open Classical
theorem zoE{α:Type}{p:α->Bool}{l:List α}{i:Nat}{x:α}(hx:l[i]?=some x):(l.take (i+1)).countP p=(l.take i).countP p+(if p x then 1 else 0):=by
 obtain⟨hi,rfl⟩:=rA.1 hx
 rw[yB,CF]
 simp[sA hi,List.countP_cons]
def D3(l:List GNode):Nat:=l.countP fun n=>GM l n.rev
theorem m_26(t:GTree)(hp:t.nodes.length<=9223372036854775807)(H:Heap)(Q:OR->Prop)(hQ:Q ⟨vA (D3 t.nodes),H,H.n⟩):MCall Cx 26 [.agg (zp t)] H Q:=by
 refine QA zm (fn:=Tryz.f26) Tryz.func26 rfl (by decide) (k:=23) rfl (rs:=[.tmp 2]) rfl ?_
 simp -dsimp only[go_sem,bA,gA]
 refine WW.still zm (fun i:Nat=>[(1,.ptr H.n 0),(3,vA ((t.nodes.take i).countP fun n=>GM t.nodes n.rev)),(4,vA i)]) (fun i=>i<=t.nodes.length) (fun i=>t.nodes.length-i) 0 (by omega) zSl ?_
 intro i hi
 have hc:(t.nodes.take i).countP (fun n=>GM t.nodes n.rev)<=i:=cB OE (by rw[JB];omega)
 simp -dsimp only[go_sem,bA,aA,zf,zh]
 refine aB (fun h=>?_) (fun h=>?_)<;>simp -dsimp only[go_sem,bA,aA,h]
 ·obtain⟨x,hx⟩:=zu h
  have hs:=zoE (p:=fun n=>GM t.nodes n.rev) hx
  refine DR.of _ ((Tab.OK.cons (EW) Tab.OK.nil)) (by kernel_rfl) ?_
  simp -dsimp only[go_sem,bA,aA,h,z7 zg hx,Ra _ _ hp]
  refine BR.split (fun h2=>?_) (fun h2=>?_)<;>simp -dsimp only[go_sem,bA,aA,h2]
  ·rw[h2,if_pos rfl] at hs
   refine zAg (i+1) ?_
   exact h
  ·rw[h2,if_neg (by simp)] at hs
   refine zAg (i+1) ?_
   exact h
 ·refine AA (by omega) rfl ?_
  rw[uA (by omega)]
  exact hQ
end
section
open Go Go.Tw
open Classical
@[go_sem] theorem kY{P:Program}{t:TypeId}(a:Int):jE P .quo t (.lit (.int .i64 a)) (.lit (.int .i64 100))=some (.lit (.int .i64 (IntKind.i64.wrap (a.tdiv 100)))):=nV _ _ _ _ _ (by decide)
def nO(a:Int)(k:ByteArray):Int:=IntKind.i64.wrap (IntKind.i64.wrap (a+1)+IntKind.i64.wrap ((k.size:Int).tdiv 100))
def yO(f:GV->Int):Int->List GV->Int
 | a,[]=>a
 | a,x::xs=>if a<100000 then yO f (IntKind.i64.wrap (a+f x)) xs else a
def YJ:Nat->GV->Int
 | 0,_=>100000
 | d+1,v=>if 3000<v.list.length\/3000<v.keys.length\/4000<v.text.size then 100000 else yO (YJ d) (v.keys.foldl nO (IntKind.i64.wrap (1+IntKind.i64.wrap ((v.text.size:Int).tdiv 100)))) v.list
theorem m_40:∀(d:Nat) (hd:d<=20) (v:GV) (H:Heap) (Q:OR->Prop),Q ⟨vA (YJ d v),H,H.n⟩->MCall Cx 40 [.agg (zR v),vA d] H Q:=by
 intro d
 induction d with
 | zero=>
  intro hd v H Q hQ
  refine QA zm (fn:=Tryz.f40) Tryz.func40 rfl (by decide) (k:=72) rfl (rs:=[.tmp 4]) rfl ?_
  simp -dsimp only[go_sem,bA,aA,cA,reduceCtorEq]
  have e0:(((0:Nat):Int)<1)=True:=by simp
  simp -dsimp only[go_sem,bA,aA,cA,reduceCtorEq,gA,e0]
  exact AA (by omega) rfl hQ
 | succ d ih=>
  intro hd v H Q hQ
  refine QA zm (fn:=Tryz.f40) Tryz.func40 rfl (by decide) (k:=72) rfl (rs:=[.tmp 4]) rfl ?_
  simp -dsimp only[go_sem,bA,aA,cA,reduceCtorEq]
  have e0:(((d+1:Nat):Int)<1)=False:=by simp;omega
  have no:(3000<v.list.length\/3000<v.keys.length\/4000<v.text.size)->Q ⟨vA 100000,H,H.n⟩:=fun h=>by
   rw[YJ,if_pos h] at hQ;exact hQ
  simp -dsimp only[go_sem,bA,aA,cA,reduceCtorEq,e0]
  refine GD.dec (fun h1=>?_) (fun h1=>?_)<;>simp -dsimp only[go_sem,bA,aA,cA,reduceCtorEq,gA,e0,h1]
  ·exact AA (by omega) rfl (no (by omega))
  refine GD.dec (fun h2=>?_) (fun h2=>?_)<;>simp -dsimp only[go_sem,bA,aA,cA,reduceCtorEq,gA,e0,h1,h2]
  ·exact AA (by omega) rfl (no (by omega))
  refine aB (fun h3=>?_) (fun h3=>?_)<;>simp -dsimp only[go_sem,bA,aA,cA,reduceCtorEq,gA,e0,h1,h2,h3]
  ·exact AA (by omega) rfl (no (by omega))
  rw[YJ,if_neg (by omega)] at hQ
  generalize hs:IntKind.i64.wrap (1+IntKind.i64.wrap ((v.text.size:Int).tdiv 100))=s0 at hQ
  refine WW.still zm (fun p:Nat×Int=>[(1,vA (d+1:Nat)),(2,.ptr H.n 0),(5,vA p.2),(6,vA p.1)]) (fun p=>p.1<=v.keys.length/\p.2=(v.keys.take p.1).foldl nO s0) (fun p=>v.keys.length-p.1) (0,s0) ⟨KB _,rfl⟩ zSl ?_
  rintro⟨i,a⟩ ⟨hi,ha⟩
  simp only at hi ha ⊢
  simp -dsimp only[go_sem,bA,aA,zf,zh]
  refine aB (fun k=>?_) (fun k=>?_)
  ·obtain⟨x,hx⟩:=zu k
   simp -dsimp only[go_sem,bA,aA,k,z7 zC hx]
   (refine Again.keep ((i+1,nO a x)) ?_ ?_ ?_ ?_ ?_;rotate_left;((try dsimp only);omega);(focus (simp -dsimp only[go_sem,aA,OA,JA,false_implies,implies_true]<;>(try simp (disch:=omega) only[zw])<;>(try simp)<;>(try omega)));rfl;((try dsimp only);omega))
   refine⟨k,?_⟩
   have:v.keys.take (i+1)=v.keys.take i++[x]:=by rw[yB,hx];rfl
   rw[this,FG,<-ha]
   rfl
  ·simp -dsimp only[go_sem,bA,aA,k]
   rw[uA (by omega)] at ha
   rw[<-ha] at hQ
   refine WW.still zm (fun p:Nat×Int=>[(1,vA (d+1:Nat)),(2,.ptr H.n 0),(5,vA p.2),(7,vA p.1)]) (fun p=>p.1<=v.list.length/\yO (YJ d) p.2 (v.list.drop p.1)=yO (YJ d) a v.list) (fun p=>v.list.length-p.1) (0,a) ⟨KB _,rfl⟩ zSl ?_
   rintro⟨j,b⟩ ⟨hj,hb⟩
   simp only at hj hb ⊢
   simp -dsimp only[go_sem,bA,aA,zf,zh]
   refine GD.dec (fun k1=>?_) (fun k1=>?_)<;>simp -dsimp only[go_sem,bA,aA,k1]
   ·obtain⟨x,hx⟩:=zu k1
    obtain⟨hj2,hxe⟩:=rA.1 hx
    rw[DB hj2,hxe,yO] at hb
    refine aB (fun k2=>?_) (fun k2=>?_)
    ·have e1:IntKind.i64.wrap (((d+1:Nat):Int)-1)=(d:Int):=by rw[zw (by omega) (by omega)];omega
     simp -dsimp only[go_sem,bA,aA,k1,k2,e1,z7 zF hx]
     refine MV.fn ?_
     refine ih (by omega) x _ _ ?_
     simp -dsimp only[go_sem,bA,aA]
     (refine Again.keep ((j+1,IntKind.i64.wrap (b+YJ d x))) ?_ ?_ ?_ ?_ ?_;rotate_left;((try dsimp only);omega);(focus (simp -dsimp only[go_sem,aA,OA,JA,false_implies,implies_true]<;>(try simp (disch:=omega) only[zw])<;>(try simp)<;>(try omega)));rfl;((try dsimp only);omega))
     rw[if_pos k2] at hb
     exact⟨k1,hb⟩
    ·simp -dsimp only[go_sem,bA,aA,k1,k2]
     refine AA (by omega) rfl ?_
     rw[if_neg k2] at hb
     rw[<-hb] at hQ
     exact hQ
   ·refine AA (by omega) rfl ?_
    rw[uC (by omega),yO] at hb
    rw[<-hb] at hQ
    exact hQ
def K4(v:GV):Bool:=decide (4000<YJ 20 v)
theorem m_12(v:GV)(H:Heap)(Q:OR->Prop)(hQ:Q ⟨.lit (.bool (K4 v)),H,H.n⟩):MCall Cx 12 [.agg (zR v)] H Q:=by
 refine QA zm (fn:=Tryz.f12) Tryz.func12 rfl (by decide) (k:=6) rfl (rs:=[.tmp 2]) rfl ?_
 simp -dsimp only[go_sem,bA,aA,reduceCtorEq]
 refine MV.fn ?_
 refine m_40 20 (by omega) v _ _ ?_
 simp -dsimp only[go_sem,bA,aA,reduceCtorEq,gA]
 exact AA (by omega) rfl hQ
def yN(l:List GNode):Bool:=decide (60<l.length)||l.any fun n=>K4 n.body
theorem m_4(t:GTree)(H:Heap)(Q:OR->Prop)(hQ:Q ⟨.lit (.bool (yN t.nodes)),H,H.n⟩):MCall Cx 4 [.agg (zp t)] H Q:=by
 refine QA zm (fn:=Tryz.f4) Tryz.func4 rfl (by decide) (k:=22) rfl (rs:=[.tmp 2]) rfl ?_
 simp -dsimp only[go_sem,bA,aA,reduceCtorEq]
 refine aB (fun h=>?_) (fun h=>?_)<;>simp -dsimp only[go_sem,bA,aA,reduceCtorEq,gA,h]
 ·refine AA (by omega) rfl ?_
  have:yN t.nodes=true:=by simp[yN];left;omega
  rw[this] at hQ;exact hQ
 ·refine WW.still zm (fun i:Nat=>[(1,.ptr H.n 0),(3,vA i)]) (fun i=>i<=t.nodes.length/\(t.nodes.take i).all (fun n=>!K4 n.body)=true) (fun i=>t.nodes.length-i) 0 ⟨KB _,rfl⟩ zSl ?_
  rintro i ⟨hi,hall⟩
  simp -dsimp only[go_sem,bA,aA,zf,zh]
  refine aB (fun k=>?_) (fun k=>?_)
  ·obtain⟨x,hx⟩:=zu k
   simp -dsimp only[go_sem,bA,aA,k,z7 zg hx]
   refine MV.fn ?_
   refine m_12 x.body _ _ ?_
   simp -dsimp only[go_sem,aA]
   refine aB (fun g=>?_) (fun g=>?_)<;>simp -dsimp only[go_sem,bA,aA]
   ·refine AA (by omega) rfl ?_
    have:yN t.nodes=true:=by
     rw[yN,List.any_eq_true.2 ⟨x,IA hx,by simpa[K4] using g⟩,sH]
    rw[this] at hQ;exact hQ
   ·(refine Again.keep (i+1) ?_ ?_ ?_ ?_ ?_;rotate_left;((try dsimp only);omega);(focus (simp -dsimp only[go_sem,aA,OA,JA,false_implies,implies_true]<;>(try simp (disch:=omega) only[zw])<;>(try simp)<;>(try omega)));rfl;((try dsimp only);omega))
    exact⟨k,VM hx hall (by simpa[K4] using g)⟩
  ·simp -dsimp only[go_sem,bA,aA,k]
   refine AA (by omega) rfl ?_
   have q:=pN (i:=i) (by omega) hall
   have:yN t.nodes=false:=by
    have e:(t.nodes.any fun n=>K4 n.body)=false:=by
     rw[List.any_eq_false]
     intro x hx
     have:=gB.1 q x hx
     simpa using this
    rw[yN,e,Bool.or_false]
    simp;omega
   rw[this] at hQ;exact hQ
end
end Go.Proofs.YtookdinfaoelaaaGreatDoor
