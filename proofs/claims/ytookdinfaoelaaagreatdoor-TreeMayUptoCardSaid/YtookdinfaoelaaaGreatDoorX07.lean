/- Own work for this claim, part 8 of 17. No condition of its own. -/
import Derived.Test.YtookdinfaoelaaaGreatDoorX06
import Derived.Shelf.Strings.IndexAnyAll
set_option linter.all false
set_option maxRecDepth 100000
set_option maxHeartbeats 4000000
open Array renaming getD→ZD,getElem?_eq_some_iff→LA,getElem_setIfInBounds→yE,getInternal_eq_getElem→ND,replicate→lC,size_setIfInBounds→nE
open Bool renaming and_eq_true→wA,and_false→QB,eq_iff_iff→YB,false_and→kD,false_or→mI,not_eq_true'→oC,or_eq_true→IC,true_and→MC
open Go.Lib renaming containsAny→qG
open Go.Proofs.Tryz renaming prog→fA
open Go.Region renaming binds→LC,ready→aC,wanted→oD
open Go.Tw.BR renaming dec→aB
open Go.Tw.GD renaming dec→AB
open Go.Tw.Heap renaming get_lt→vC,get_push→yA,n_push→iA,n_set→kA
open Go.Tw.MCall renaming of→QA
open Go.Tw.Res renaming bf→AA,same→nB
open Go.Tw.Tab.OK renaming cons→CA,nil→xA
open Go.Tw.WW renaming sq→PA,still→sC
open List renaming all_cons→CD,all_eq_true→gB,drop_eq_getElem_cons→DB,drop_of_length_le→uC,findIdx?_eq_none_iff→iE,findIdx?_eq_some_iff_getElem→lD,forall_mem_cons→OA,getD_eq_getElem?_getD→DA,getElem?_eq_getElem→sA,getElem?_eq_some_iff→rA,getElem?_map→uB,getElem_mem→fG,length→PB,length_drop→ZB,mem_of_getElem?→IA,mem_range→yD,nil_append→DD,not_mem_nil→JA,range→CB
open Nat renaming beq→kB,ble→DF,ble_eq→KH,blt→mD,blt_eq→AD,le_refl→jA,lt_or_ge→RA,min_self→gA,reduceAdd→cA,reduceEqDiff→aA,reduceLT→bA
open Option renaming getD_some→SG,map_eq_some_iff→BA
namespace Go.Proofs.YtookdinfaoelaaaGreatDoor
section
open Go Go.Tw
open Classical
noncomputable def P8:List V->Heap->Option OR:=by
 classical
 exact GK (fun p:GV×GV=>match p with|(a,b)=>[.agg (zR a),.agg (zR b)]) fun p H=>match p with|(a,b)=>if a.wf then some ⟨.lit (.bool (decide (a=b))),H,H.n⟩ else none
theorem uZ(a:GV)(b:GV)(hp:a.wf)(H:Heap)(Q:OR->Prop)(hQ:Q ⟨.lit (.bool (decide (a=b))),H,H.n⟩):MCall Cx 31 [.agg (zR a),.agg (zR b)] H Q:=by
 refine QA zm (fn:=Tryz.f31) Tryz.func31 rfl (by decide) (k:=81) rfl (rs:=[.tmp 4]) rfl ?_
 simp -dsimp only[go_sem,bA,aA,cA,reduceCtorEq]
 have hrec:∀x∈a.list,∀y H Q,Q ⟨.lit (.bool (decide (x=y))),H,H.n⟩->MCall Cx 31 [.agg (zR x),.agg (zR y)] H Q:=fun x hx y H Q hQ=>uZ x y (GV.wf_mem hp x hx) H Q hQ
 have no:¬(a.kind=b.kind/\a.num=b.num/\a.text=b.text/\a.keys=b.keys/\a.list=b.list)->Q ⟨.lit (.bool false),H,H.n⟩:=fun h=>by
  rw[show(a=b)=_ from propext GV.ext_iff] at hQ
  simpa[h] using hQ
 refine AB (fun h1=>?_) (fun h1=>?_)<;>simp -dsimp only[go_sem,bA,aA,cA,reduceCtorEq,gA,h1]
 ·exact AA (by omega) rfl (no fun h=>h1 h.1)
 refine AB (fun h2=>?_) (fun h2=>?_)<;>simp -dsimp only[go_sem,bA,aA,cA,reduceCtorEq,gA,h1,h2]
 ·exact AA (by omega) rfl (no fun h=>h2 h.2.1)
 refine AB (fun h3=>?_) (fun h3=>?_)<;>simp -dsimp only[go_sem,bA,aA,cA,reduceCtorEq,gA,h1,h2,h3]
 ·exact AA (by omega) rfl (no fun h=>h3 h.2.2.1)
 refine AB (fun h4=>?_) (fun h4=>?_)<;>simp -dsimp only[go_sem,bA,aA,cA,reduceCtorEq,gA,h1,h2,h3,h4]
 ·exact AA (by omega) rfl (no fun h=>h4 (by rw[h.2.2.2.1]))
 refine aB (fun h5=>?_) (fun h5=>?_)<;>simp -dsimp only[go_sem,bA,aA,cA,reduceCtorEq,gA,h1,h2,h3,h4,h5]
 ·exact AA (by omega) rfl (no fun h=>h5 (by rw[h.2.2.2.2]))
 have hkl:a.keys.length=b.keys.length:=by simp at h4;omega
 have hll:a.list.length=b.list.length:=by simp at h5;omega
 have hka:=GV.wf_keys hp
 have hla:=GV.wf_list hp
 refine sC zm (fun i:Nat=>[(2,.ptr H.n 0),(3,.ptr (H.n+1) 0),(5,vA i)]) (fun i=>i<=a.keys.length/\∀j,j<i->a.keys[j]?=b.keys[j]?) (fun i=>a.keys.length-i) 0 ⟨by omega,fun j hj=>by omega⟩ zSl ?_
 rintro i ⟨hi,hj⟩
 simp -dsimp only[go_sem,bA,aA,reduceCtorEq,zf,zh]
 refine aB (fun k1=>?_) (fun k1=>?_)<;>simp -dsimp only[go_sem,bA,aA,cA,k1]
 ·obtain⟨x,hx⟩:=zu k1
  obtain⟨y,hy⟩:=zu (l:=b.keys) (i:=i) (by omega)
  refine DR.of _ xA (by kernel_rfl) ?_
  simp -dsimp only[go_sem,bA,aA,cA,reduceCtorEq,k1,hkl▸k1,z7 zC hx,z7 zC hy]
  refine aB (fun k2=>?_) (fun k2=>?_)<;>simp -dsimp only[go_sem,bA,aA,cA,k2]
  ·exact AA (by omega) rfl (no fun h=>k2 (by
    have:=h.2.2.2.1
    rw[this,hy] at hx
    injection hx with hx
    exact hx.symm))
  refine zAg (i+1) ?_
  refine⟨by omega,fun j hj'=>?_⟩
  rcases RA j i with h'|h'
  ·exact hj j h'
  ·have:j=i:=by omega
   subst this
   rw[hx,hy]
   simpa using k2
 have hkk:a.keys=b.keys:=i8 hkl fun j hj'=>hj j (by omega)
 refine sC zm (fun i:Nat=>[(2,.ptr H.n 0),(3,.ptr (H.n+1) 0),(6,vA i)]) (fun i=>i<=a.list.length/\∀j,j<i->a.list[j]?=b.list[j]?) (fun i=>a.list.length-i) 0 ⟨by omega,fun j hj=>by omega⟩ zSl ?_
 rintro i2 ⟨hi2,hj2⟩
 simp -dsimp only[go_sem,bA,aA,reduceCtorEq,zf,zh]
 refine aB (fun k3=>?_) (fun k3=>?_)<;>simp -dsimp only[go_sem,bA,aA,cA,k3]
 ·obtain⟨x,hx⟩:=zu k3
  obtain⟨y,hy⟩:=zu (l:=b.list) (i:=i2) (by omega)
  refine DR.of _ ((CA (wN (hrec x (IA hx) y ((H.push (.cells (zR a) 36)).push (.cells (zR b) 36)) _ rfl)) xA)) (by kernel_rfl) ?_
  simp -dsimp only[go_sem,bA,aA,cA,reduceCtorEq,k3,hll▸k3,z7 zF hx,z7 zF hy]
  refine BR.ndec (fun k4=>?_) (fun k4=>?_)<;>simp -dsimp only[go_sem,bA,aA,cA,k4]
  ·exact AA (by omega) rfl (no fun h=>k4 (by
    have:=h.2.2.2.2
    rw[this,hy] at hx
    injection hx with hx
    exact hx.symm))
  refine zAg (i2+1) ?_
  refine⟨by omega,fun j hj'=>?_⟩
  rcases RA j i2 with h'|h'
  ·exact hj2 j h'
  ·have:j=i2:=by omega
   subst this
   rw[hx,hy,k4]
 have hl2:a.list=b.list:=i8 hll fun j hj'=>hj2 j (by omega)
 refine AA (by omega) rfl ?_
 have:a=b:=GV.ext_iff.2 ⟨by simpa using h1,by simpa using h2,by simpa using h3,hkk,hl2⟩
 simpa[this] using hQ
termination_by SizeOf.sizeOf a
decreasing_by exact GV.size_mem hx
theorem xd:CI Cx 31 P8:=kL fun p H r hr=>by
 obtain⟨a,b⟩:=p
 simp only at hr
 split at hr
 ·rename_i hp
  injection hr with hr
  subst hr
  exact uZ a b hp H _ rfl
 ·cases hr
theorem e_31(a:GV)(b:GV)(hp:a.wf)(H:Heap):P8 [.agg (zR a),.agg (zR b)] H=some ⟨.lit (.bool (decide (a=b))),H,H.n⟩:=by
 refine(lL (by simp+contextual [kj]) (a,b) H).trans ?_
 exact if_pos hp
noncomputable def T8:List V->Heap->Option OR:=by
 classical
 exact GK (fun p:GNode×GNode=>match p with|(a,b)=>[.agg (za a),.agg (za b)]) fun p H=>match p with|(a,b)=>if a.body.wf then some ⟨.lit (.bool (decide (a=b))),H,H.n⟩ else none
theorem m_36(a:GNode)(b:GNode)(hp:a.body.wf)(H:Heap)(Q:OR->Prop)(hQ:Q ⟨.lit (.bool (decide (a=b))),H,H.n⟩):MCall Cx 36 [.agg (za a),.agg (za b)] H Q:=by
 refine QA zm (fn:=Tryz.f36) Tryz.func36 rfl (by decide) (k:=38) rfl (rs:=[.tmp 4]) rfl ?_
 simp -dsimp only[go_sem,bA,aA,cA,reduceCtorEq]
 rw[show(a=b)=_ from propext GNode.ext_iff'] at hQ
 refine AB (fun h1=>?_) (fun h1=>?_)<;>simp -dsimp only[go_sem,bA,aA,cA,reduceCtorEq,gA,h1]
 rotate_left
 ·refine AA (by omega) rfl ?_
  simpa[h1] using hQ
 refine AB (fun h2=>?_) (fun h2=>?_)<;>simp -dsimp only[go_sem,bA,aA,cA,reduceCtorEq,gA,h1,h2]
 rotate_left
 ·refine AA (by omega) rfl ?_
  simpa[h1,h2] using hQ
 refine AB (fun h3=>?_) (fun h3=>?_)<;>simp -dsimp only[go_sem,bA,aA,cA,reduceCtorEq,gA,h1,h2,h3]
 rotate_left
 ·refine AA (by omega) rfl ?_
  simpa[h1,h2,h3] using hQ
 refine AB (fun h4=>?_) (fun h4=>?_)<;>simp -dsimp only[go_sem,bA,aA,cA,reduceCtorEq,gA,h1,h2,h3,h4]
 rotate_left
 ·refine AA (by omega) rfl ?_
  simpa[h1,h2,h3,h4] using hQ
 refine MV.tab _ ((CA (xd) xA)) ?_
 simp -dsimp only[go_sem,bA,aA,cA,reduceCtorEq,gA,e_31 _ _ hp,h1,h2,h3,h4]
 refine AA (by omega) rfl ?_
 simpa[h1,h2,h3,h4] using hQ
theorem Cd:CI Cx 36 T8:=kL fun p H r hr=>by
 obtain⟨a,b⟩:=p
 simp only at hr
 split at hr
 ·rename_i hp
  injection hr with hr
  subst hr
  exact m_36 a b hp H _ rfl
 ·cases hr
theorem e_36(a:GNode)(b:GNode)(hp:a.body.wf)(H:Heap):T8 [.agg (za a),.agg (za b)] H=some ⟨.lit (.bool (decide (a=b))),H,H.n⟩:=by
 refine(lL (by simp+contextual [zJ]) (a,b) H).trans ?_
 exact if_pos hp
theorem m_9(a:GTree)(b:GTree)(hp:mV a.nodes)(H:Heap)(Q:OR->Prop)(hQ:Q ⟨.lit (.bool (decide (a=b))),H,H.n⟩):MCall Cx 9 [.agg (zp a),.agg (zp b)] H Q:=by
 refine QA zm (fn:=Tryz.f9) Tryz.func9 rfl (by decide) (k:=32) rfl (rs:=[.tmp 4]) rfl ?_
 simp -dsimp only[go_sem,bA,aA,cA,reduceCtorEq]
 obtain⟨hl,hf⟩:=hp
 have no:¬(a.nodes=b.nodes)->Q ⟨.lit (.bool false),H,H.n⟩:=fun h=>by
  rw[show(a=b)=_ from propext GTree.ext_iff'] at hQ
  simpa[h] using hQ
 refine aB (fun h1=>?_) (fun h1=>?_)<;>simp -dsimp only[go_sem,bA,aA,cA,reduceCtorEq,gA,h1]
 ·exact AA (by omega) rfl (no fun h=>h1 (by rw[h]))
 have hlm:a.nodes.length=b.nodes.length:=by simp at h1;omega
 refine sC zm (fun i:Nat=>[(2,.ptr H.n 0),(3,.ptr (H.n+1) 0),(5,vA i)]) (fun i=>i<=a.nodes.length/\∀j,j<i->a.nodes[j]?=b.nodes[j]?) (fun i=>a.nodes.length-i) 0 ⟨by omega,fun j hj=>by omega⟩ zSl ?_
 rintro i ⟨hi,hj⟩
 simp -dsimp only[go_sem,bA,aA,reduceCtorEq,zf,zh]
 refine aB (fun k1=>?_) (fun k1=>?_)<;>simp -dsimp only[go_sem,bA,aA,cA,k1]
 ·obtain⟨x,hx⟩:=zu k1
  obtain⟨y,hy⟩:=zu (l:=b.nodes) (i:=i) (by omega)
  refine DR.of _ ((CA (Cd) xA)) (by kernel_rfl) ?_
  simp -dsimp only[go_sem,bA,aA,cA,reduceCtorEq,k1,hlm▸k1,z7 zg hx,z7 zg hy,e_36 _ _ (hf x (IA hx))]
  refine BR.ndec (fun k2=>?_) (fun k2=>?_)<;>simp -dsimp only[go_sem,bA,aA,cA,k2]
  ·exact AA (by omega) rfl (no fun h=>k2 (by
    rw[h,hy] at hx
    injection hx with hx
    exact hx.symm))
  refine zAg (i+1) ?_
  refine⟨by omega,fun j hj'=>?_⟩
  rcases RA j i with h'|h'
  ·exact hj j h'
  ·have:j=i:=by omega
   subst this
   rw[hx,hy,k2]
 refine AA (by omega) rfl ?_
 have:a=b:=GTree.ext_iff'.2 (i8 hlm fun j hj'=>hj j (by omega))
 simpa[this] using hQ
end
end Go.Proofs.YtookdinfaoelaaaGreatDoor
namespace Go.Tw
section
def XQ:Op->Bool
 | .move _|.assign _|.pick _ _ _|.build _ _|.nilCheck _|.binOp _ _ _ _ _|.unOp _ _ _|.makeFunc _ _ _|.slice _ _ _ _ _
 | .fieldAddr _ _ _|.field _ _ _|.indexAddr _ _ _|.index _ _ _|.extract _ _=>true
 | _=>false
theorem YQ{o:Op}(h:XQ o=true)(r:Operand->V)(H:Heap)(q:OR):FF r H o q=.none:=by
 cases o<;>first|rfl|cases h
def pV(os:List Oper)(j:Nat):Bool:=match os[j]? with
 | some o=>XQ o.op
 | none=>true
def zh7(ops:Array Oper):List (Nat×Nat):=
 let ms:=xN ops
 (CB ops.size).flatMap fun k=>if pV ops.toList k then [] else
  ((CB k).filter fun j=>!pV ops.toList j&&!(ms.getD k 0).testBit j).map fun j=>(j,k)
theorem znc{ms:List Nat}{all:List Eff}:∀(es:List Eff) (ms':List Nat) (j:Nat) (seen:List (Nat×Eff)),es=all.drop j->ms'=ms.drop j->all.length<=ms.length->(∀p∈seen,p.1<j/\all[p.1]?=some p.2)->
  (∀i k,i<k->k<all.length->(ms.getD k 0).testBit i=true\/oI (all.getD i .none) (all.getD k .none)=false)->yV es ms' j seen=true
 | [],_,_,_,_,_,_,_,_=>rfl
 | e::es,[],j,seen,he,hm,hl,hs,h=>by
  have h1:=congrArg PB he
  have h2:=congrArg PB hm
  simp at h1 h2
  omega
 | e::es,m::ms',j,seen,he,hm,hl,hs,h=>by
  have hj:j<all.length:=by
   have h1:=congrArg PB he
   simp at h1;omega
  have hj2:j<ms.length:=by omega
  rw[DB hj] at he
  rw[DB hj2] at hm
  injection he with e1 e2
  injection hm with m1 m2
  simp only[yV,wA,gB]
  refine⟨fun p hp=>?_,?_⟩
  ·obtain⟨h1,h2⟩:=hs p hp
   rcases h p.1 j h1 hj with h3|h3
   ·rw[DA,sA hj2] at h3
    simp only[SG] at h3
    rw[m1,h3,Bool.or_true]
   ·simp only[DA,h2,sA hj,SG] at h3
    rw[e1,h3];rfl
  ·refine znc es ms' (j+1) _ e2 m2 hl (fun p hp=>?_) h
   have old:p∈seen->p.1<j+1/\all[p.1]?=some p.2:=fun hp=>⟨by have:=(hs p hp).1;omega,(hs p hp).2⟩
   split at hp
   ·exact old hp
   ·rcases List.mem_cons.1 hp with rfl|hp
    ·exact⟨Nat.lt_succ_self j,by rw[sA hj,e1]⟩
    ·exact old hp
theorem zlL(e:Eff):oI .none e=false:=by cases e<;>rfl
theorem zhq(e:Eff):oI e .none=false:=by cases e<;>rfl
theorem zoo{ops:Array Oper}{es:List Eff}(hl:es.length=ops.size)(hp:∀j,pV ops.toList j=true->es.getD j .none=.none)(h:∀p∈zh7 ops,oI (es.getD p.1 .none) (es.getD p.2 .none)=false):O3 ops es=true:=by
 refine znc (all:=es) (ms:=xN ops) es _ 0 [] (by simp) (by simp) (by rw[zlc,hl];exact jA _) (fun p hp=>by cases hp) fun i k hik hk=>?_
 by_cases h1:pV ops.toList k=true
 ·right;rw[hp k h1,zhq]
 by_cases h2:pV ops.toList i=true
 ·right;rw[hp i h2,zlL]
 by_cases h3:((xN ops).getD k 0).testBit i=true
 ·exact .inl h3
 right
 refine h (i,k) ?_
 unfold zh7
 simp only[List.mem_flatMap,yD]
 refine⟨k,by omega,?_⟩
 rw[if_neg h1]
 refine List.mem_map.2 ⟨i,List.mem_filter.2 ⟨yD.2 hik,?_⟩,rfl⟩
 rw[wA,oC,oC]
 exact⟨by simpa using h2,by simpa using h3⟩
def vwOps(C:Ctx)(l:Tab)(nt:Nat)(ds:List (Option Tmp)):List Oper->St->List Eff->(List Eff->St->Prop)->Prop
 | [],st,es,Q=>Q es st
 | o::os,st,es,Q=>nL nt o.dst=true/\vwG C l ds o st es fun r es'=>vwOps C l nt ds os ⟨OG st.T o.dst r.v,r.H,min st.lo r.lo⟩ es' Q
where
 vwG (C:Ctx) (l:Tab) (ds:List (Option Tmp)) (o:Oper) (st:St) (es:List Eff) (K:OR->List Eff->Prop):Prop:=
  match o.guard with
  | none=>OQ (kH C.P l (HD C st.T) st.H o.op) fun q=>K q (es++[FF (HD C st.T) st.H o.op q])
  | some (j,want)=>match (ds[j]?).join with
   | none=>False
   | some d=>match PD st.T d with
    | .lit (.bool b)=>bif (bif want then b else !b) then OQ (kH C.P l (HD C st.T) st.H o.op) (fun q=>K q (es++[FF (HD C st.T) st.H o.op q])) else K ⟨EH,st.H,st.lo⟩ (es++[.none])
    | .tup []=>K ⟨EH,st.H,st.lo⟩ (es++[.none])
    | _=>False
def kP(C:Ctx)(l:Tab)(nt:Nat)(ops:Array Oper)(os:List Oper)(st:St)(es0:List Eff)(Q:List Eff->St->Prop):Prop:=
 ∃es st',(∀n,os.length+4<=n->IK { C with S:=fun g=>(look l g).map .mem } n nt ops os st=some (es,st'))/\es.length=os.length/\(∀j,pV os j=true->es.getD j .none=.none)/\Q (es0++es) st'
theorem zhN{C:Ctx}{l:Tab}{nt:Nat}{ops:Array Oper}{Q:List Eff->St->Prop}:∀(os:List Oper) (st:St) (es0:List Eff),vwOps C l nt (ops.toList.map (·.dst)) os st es0 Q->kP C l nt ops os st es0 Q
 | [],st,es0,h=>by
   refine⟨[],st,fun n hn=>?_,rfl,fun j hj=>(by simp),by rw[List.append_nil];exact h⟩
   obtain⟨n,rfl⟩:∃k,n=k+1:=⟨n-1,by simp at hn;omega⟩
   simp only[IK]
 | o::os,st,es0,h=>by
  obtain⟨hd,h⟩:=h
  have hrho:∀x,HD { C with S:=fun g=>(look l g).map .mem } st.T x=HD C st.T x:=fun x=>by cases x<;>rfl
  have hrho':HD { C with S:=fun g=>(look l g).map .mem } st.T=HD C st.T:=funext hrho
  have skip:XJ ops st.T o=some false->vwOps C l nt (ops.toList.map (·.dst)) os ⟨OG st.T o.dst EH,st.H,st.lo⟩ (es0++[.none]) Q->kP C l nt ops (o::os) st es0 Q:=fun hw h=>by
   obtain⟨es,st',h1,h2,h3,h4⟩:=zhN os _ _ h
   refine⟨.none::es,st',fun n hn=>?_,by simp[h2],fun j hj=>?_,by simpa using h4⟩
   ·obtain⟨n,rfl⟩:∃k,n=k+2:=⟨n-2,by simp at hn;omega⟩
    have h1:=h1 (n+1) (by simp at hn;omega)
    simp only[IK,TO,hd,cond_true,hw,h1]
   ·cases j with
    | zero=>rfl
    | succ j=>simpa using h3 j (by simpa[pV] using hj)
  have go:∀q,XJ ops st.T o=some true->kH C.P l (HD C st.T) st.H o.op=some q->vwOps C l nt (ops.toList.map (·.dst)) os ⟨OG st.T o.dst q.v,q.H,min st.lo q.lo⟩ (es0++[FF (HD C st.T) st.H o.op q]) Q->kP C l nt ops (o::os) st es0 Q:=fun q hw hq h=>by
   obtain⟨es,st',h1,h2,h3,h4⟩:=zhN os _ _ h
   refine⟨FF (HD C st.T) st.H o.op q::es,st',fun n hn=>?_,by simp[h2],fun j hj=>?_,by simpa using h4⟩
   ·obtain⟨n,rfl⟩:∃k,n=k+4:=⟨n-4,by simp at hn;omega⟩
    have h1:=h1 (n+3) (by simp at hn;omega)
    simp only[IK,TO,hd,cond_true,hw,hrho']
    rw[jR hq n]
    simp only[h1]
   ·cases j with
    | zero=>exact YQ (by simpa[pV] using hj) _ _ _
    | succ j=>simpa using h3 j (by simpa[pV] using hj)
  unfold vwOps.vwG at h
  have key:∀(K:OR->Prop),OQ (kH C.P l (HD C st.T) st.H o.op) K->∃q,kH C.P l (HD C st.T) st.H o.op=some q/\K q:=fun K h=>by
   cases hq:kH C.P l (HD C st.T) st.H o.op with
   | none=>rw[hq] at h;exact h.elim
   | some q=>rw[hq] at h;exact⟨q,rfl,h⟩
  split at h
  ·rename_i hg
   obtain⟨q,h1,h3⟩:=key _ h
   exact go q (by simp only[XJ,hg]) h1 h3
  ·rename_i j want hg
   split at h
   ·exact h.elim
   ·rename_i d hdd
    replace hdd:(ops[j]?).bind (·.dst)=some d:=by
     rw[<-hdd,uB,Array.getElem?_toList]
     cases ops[j]?<;>rfl
    split at h
    ·rename_i b hb
     cases hbw:(bif want then b else !b) with
     | true=>
      rw[hbw] at h
      obtain⟨q,h1,h3⟩:=key _ h
      exact go q (by simp only[XJ,hg,hdd,hb,hbw]) h1 h3
     | false=>
      simp only[hbw,cond_false] at h
      exact skip (by simp only[XJ,hg,hdd,hb,hbw]) (by simpa only[gA] using h)
    ·rename_i hb
     exact skip (by simp only[XJ,hg,hdd,hb]) (by simpa only[gA] using h)
    ·exact h.elim
structure VW(C:Ctx)(l:Tab)(nt:Nat)(ds:List (Option Tmp))(os:List Oper)(T:Tr V)(H:Heap)(lo:Nat)(es:List Eff)(Q:List Eff->St->Prop)(h:Hid (l,ds,os,es,Q)):Prop where
 mk'::
 out:vwOps C l nt ds os ⟨T,H,lo⟩ es Q
theorem Lg{C:Ctx}{l:Tab}{nt:Nat}{ds:List (Option Tmp)}{os:List Oper}{T:Tr V}{H:Heap}{lo:Nat}{es:List Eff}{Q:List Eff->St->Prop}{h:Hid (l,ds,os,es,Q)}:VW C l nt ds os T H lo es Q h=vwOps C l nt ds os ⟨T,H,lo⟩ es Q:=propext ⟨VW.out,VW.mk'⟩
def Q4(ps:List (Nat×Nat))(Q:St->Prop)(es:List Eff)(st:St):Prop:=(∀p∈ps,oI (es.getD p.1 .none) (es.getD p.2 .none)=false)/\Q st
theorem DR.wr{C:Ctx}{nt:Nat}{os:List Oper}{T:Tr V}{H:Heap}{lo:Nat}{Q:St->Prop}{h:Hid ((⟨os⟩:Array Oper),Q)}(l:Tab)(hl:Tab.OK C l)(ps:List (Nat×Nat))(hps:zh7 ⟨os⟩=ps)(hr:wV ⟨os⟩=true)(k:VW C l nt (os.map (·.dst)) os T H lo [] (Q4 ps Q) .mk):DR' C nt ⟨os⟩ T H lo Q h:=by
 obtain⟨es,st',h1,h2,h3,h4,h5⟩:=zhN (ops:=⟨os⟩) os _ _ k.out
 subst hps
 simp only[DD] at h4
 refine⟨⟨hr,fun g=>(look l g).map .mem,fun g F hF=>?_,_,es,st',h1 _ (jA _),zoo h2 h3 h4,h5⟩⟩
 obtain⟨F',h6,rfl⟩:=BA.1 hF
 exact Bk hl h6
section vw
variable (C:Ctx) (l:Tab) (nt:Nat) (ds:List (Option Tmp))
@[go_sem ↓] theorem vw_nil(T:Tr V)(H:Heap)(lo:Nat)(es:List Eff)(Q:List Eff->St->Prop)(h:Hid (l,ds,([]:List Oper),es,Q)):VW C l nt ds [] T H lo es Q h=Q es ⟨T,H,lo⟩:=by rw[Lg];rfl
@[go_sem ↓] theorem We(op:Op)(d:Option Tmp)(ty:TypeId)(pos:String)(aft:Array Edge)(os:List Oper)(T:Tr V)(H:Heap)(lo:Nat)(es:List Eff)(Q:List Eff->St->Prop)(h:Hid (l,ds,(⟨d,op,ty,pos,aft,none⟩::os:List Oper),es,Q)):
  VW C l nt ds (⟨d,op,ty,pos,aft,none⟩::os) T H lo es Q h=(nL nt d=true/\OO (kH C.P l (HD C T) H op) (fun r=>VW C l nt ds os (OG T d r.v) r.H (min lo r.lo) (es++[FF (HD C T) H op r]) Q .mk) .mk):=by
 simp only[Lg,xL];rfl
theorem RX(v:V)(want:Bool){A A' B B':Prop}(h1:A=A')(h2:B=B'):GD v want A B .mk=GD v want A' B' .mk:=by subst h1 h2;rfl
@[go_sem ↓] theorem Ve(op:Op)(d:Option Tmp)(ty:TypeId)(pos:String)(aft:Array Edge)(j:Nat)(want:Bool)(os:List Oper)(T:Tr V)(H:Heap)(lo:Nat)(es:List Eff)(Q:List Eff->St->Prop)(h:Hid (l,ds,(⟨d,op,ty,pos,aft,some (j,want)⟩::os:List Oper),es,Q)):
  VW C l nt ds (⟨d,op,ty,pos,aft,some (j,want)⟩::os) T H lo es Q h=(nL nt d=true/\GD (NO ds T j) want (OO (kH C.P l (HD C T) H op) (fun r=>VW C l nt ds os (OG T d r.v) r.H (min lo r.lo) (es++[FF (HD C T) H op r]) Q .mk) .mk) (VW C l nt ds os (OG T d EH) H (min lo lo) (es++[.none]) Q .mk) .mk):=by
 have eA:OO (kH C.P l (HD C T) H op) (fun r=>VW C l nt ds os (OG T d r.v) r.H (min lo r.lo) (es++[FF (HD C T) H op r]) Q .mk) .mk=OQ (kH C.P l (HD C T) H op) (fun r=>vwOps C l nt ds os ⟨OG T d r.v,r.H,min lo r.lo⟩ (es++[FF (HD C T) H op r]) Q):=by simp only[Lg,xL]
 have eB:VW C l nt ds os (OG T d EH) H (min lo lo) (es++[.none]) Q .mk=vwOps C l nt ds os ⟨OG T d EH,H,min lo lo⟩ (es++[.none]) Q:=Lg
 rw[Lg,RX (NO ds T j) want eA eB]
 show(_/\vwOps.vwG C l ds _ _ _ _)=_
 unfold vwOps.vwG NO
 simp only
 cases (ds[j]?).join with
 | none=>rfl
 | some d'=>rfl
end vw
end
end Go.Tw
namespace Go.Proofs.YtookdinfaoelaaaGreatDoor
section
open Go Go.Tw
open Classical
def dO(b:UInt8):Bool:=decide (32<=b.toNat)&&decide (b.toNat<=126)
def yL(s:ByteArray):Bool:=s.data.toList.all dO
noncomputable def p9:List V->Heap->Option OR:=by
 classical
 exact GK (fun p:ByteArray=>match p with|s=>[gE s]) fun p H=>match p with|s=>if s.size<=9223372036854775807 then some ⟨.lit (.bool (yL s)),H,H.n⟩ else none
theorem m_99(s:ByteArray)(hp:s.size<=9223372036854775807)(H:Heap)(Q:OR->Prop)(hQ:Q ⟨.lit (.bool (yL s)),H,H.n⟩):MCall Cx 99 [gE s] H Q:=by
 refine QA zm (fn:=Tryz.f99) Tryz.func99 rfl (by decide) (k:=20) rfl (rs:=[.tmp 2]) rfl ?_
 simp -dsimp only[go_sem,bA,aA,reduceCtorEq,gA]
 refine sC zm (fun i:Nat=>[(0,gE s),(5,vA s.size),(6,vA i)]) (fun i=>i<=s.size/\(s.data.toList.take i).all dO=true) (fun i=>s.size-i) 0 ⟨by omega,rfl⟩ zSl ?_
 rintro i ⟨hi,hj⟩
 simp -dsimp only[go_sem,bA,aA,reduceCtorEq,zf,zh]
 refine aB (fun h=>?_) (fun h=>?_)<;>simp -dsimp only[go_sem,bA,aA,reduceCtorEq,gA,h]
 ·obtain⟨b,hb⟩:=Go.Tw.byte_at h
  simp -dsimp only[go_sem,bA,aA,reduceCtorEq,hb]
  refine AB (fun h2=>?_) (fun h2=>?_)<;>simp -dsimp only[go_sem,bA,aA,reduceCtorEq,gA,h2,hb]
  ·refine AA (by omega) rfl ?_
   have:yL s=false:=L7 hb (by simp[dO];omega)
   rwa [this] at hQ
  ·refine aB (fun h3=>?_) (fun h3=>?_)<;>simp -dsimp only[go_sem,bA,aA,reduceCtorEq,gA,h2,h3]
   ·refine AA (by omega) rfl ?_
    have:yL s=false:=L7 hb (by simp[dO];omega)
    rwa [this] at hQ
   ·refine zAg (i+1) ?_
    exact⟨by omega,VM hb hj (by simp[dO];omega)⟩
 ·refine AA (by omega) rfl ?_
  have:yL s=true:=pN (i:=i) (by rw[Sj];omega) hj
  rwa [this] at hQ
theorem JW:CI Cx 99 p9:=kL fun s H r hr=>by
 simp only at hr
 split at hr
 ·rename_i hp
  injection hr with hr
  subst hr
  exact m_99 s hp H _ rfl
 ·cases hr
theorem Ta(s:ByteArray)(hp:s.size<=9223372036854775807)(H:Heap):p9 [gE s] H=some ⟨.lit (.bool (yL s)),H,H.n⟩:=by
 refine(lL (by simp+contextual) s H).trans ?_
 exact if_pos hp
noncomputable def KV:List V->Heap->Option OR:=by
 classical
 exact GK (fun p:ByteArray=>match p with|s=>[gE s]) fun p H=>match p with|s=>if s.size<=9223372036854775807 then some ⟨.lit (.bool (yL s)),H,H.n⟩ else none
theorem Qb(s:ByteArray)(hp:s.size<=9223372036854775807)(H:Heap)(Q:OR->Prop)(hQ:Q ⟨.lit (.bool (yL s)),H,H.n⟩):MCall Cx 108 [gE s] H Q:=by
 refine QA zm (fn:=Tryz.f108) Tryz.func108 rfl (by decide) (k:=20) rfl (rs:=[.tmp 2]) rfl ?_
 simp -dsimp only[go_sem,bA,gA]
 refine sC zm (fun i:Nat=>[(0,gE s),(3,vA i)]) (fun i=>i<=s.size/\(s.data.toList.take i).all dO=true) (fun i=>s.size-i) 0 ⟨by omega,rfl⟩ zSl ?_
 rintro i ⟨hi,hj⟩
 simp -dsimp only[go_sem,bA,aA,reduceCtorEq,zf,zh]
 refine aB (fun h=>?_) (fun h=>?_)<;>simp -dsimp only[go_sem,bA,aA,reduceCtorEq,gA,h]
 ·obtain⟨b,hb⟩:=Go.Tw.byte_at h
  simp -dsimp only[go_sem,bA,aA,reduceCtorEq,hb]
  refine AB (fun h2=>?_) (fun h2=>?_)<;>simp -dsimp only[go_sem,bA,aA,reduceCtorEq,gA,h2,hb]
  ·refine AA (by omega) rfl ?_
   have:yL s=false:=L7 hb (by simp[dO];omega)
   rwa [this] at hQ
  ·refine aB (fun h3=>?_) (fun h3=>?_)<;>simp -dsimp only[go_sem,bA,aA,reduceCtorEq,gA,h2,h3]
   ·refine AA (by omega) rfl ?_
    have:yL s=false:=L7 hb (by simp[dO];omega)
    rwa [this] at hQ
   ·refine zAg (i+1) ?_
    exact⟨by omega,VM hb hj (by simp[dO];omega)⟩
 ·refine AA (by omega) rfl ?_
  have:yL s=true:=pN (i:=i) (by rw[Sj];omega) hj
  rwa [this] at hQ
theorem Q3:CI Cx 108 KV:=kL fun s H r hr=>by
 simp only at hr
 split at hr
 ·rename_i hp
  injection hr with hr
  subst hr
  exact Qb s hp H _ rfl
 ·cases hr
theorem D4(s:ByteArray)(hp:s.size<=9223372036854775807)(H:Heap):KV [gE s] H=some ⟨.lit (.bool (yL s)),H,H.n⟩:=by
 refine(lL (by simp+contextual) s H).trans ?_
 exact if_pos hp
end
end Go.Proofs.YtookdinfaoelaaaGreatDoor
namespace Go.Tw
section
def Hi(v:V):Eff:=match v with|.ptr b _=>.rd b|_=>.none
def wrE(v:V):Eff:=match v with|.ptr b _=>.wr b|_=>.sw
def lkE(m:V)(t:TypeId)(k:V):Eff:=match m with|.mp b=>.lk b t k|.lit _=>.none|_=>.sw
def enE(m:V)(t:TypeId)(k:V):Eff:=match m with|.mp b=>.en b t k|_=>.sw
def caE(lo n:Nat):Eff:=bif kB lo n then .ca else .sw
def Le(lo n:Nat):Eff:=bif kB lo n then .sr else .sw
section
variable (r:Operand->V) (H:Heap) (q:OR)
@[go_sem] theorem Kh(x:Operand):FF r H (.move x) q=.none:=rfl
@[go_sem] theorem p5(x:Operand):FF r H (.assign x) q=.none:=rfl
@[go_sem] theorem Lh(c a b:Operand):FF r H (.pick c a b) q=.none:=rfl
@[go_sem] theorem Va(t:TypeId)(ps:Array (Nat×Operand)):FF r H (.build t ps) q=.none:=rfl
@[go_sem] theorem lW(x:Operand):FF r H (.nilCheck x) q=.none:=rfl
@[go_sem] theorem ef_bin(op:BinOp)(t:TypeId)(x y:Operand)(z:TypeId):FF r H (.binOp op t x y z) q=.none:=rfl
@[go_sem] theorem ef_un(op:UnOp)(t:TypeId)(x:Operand):FF r H (.unOp op t x) q=.none:=rfl
@[go_sem] theorem jW(f:Fn)(a b:Array Operand):FF r H (.makeFunc f a b) q=.none:=rfl
@[go_sem] theorem Za(t:TypeId)(x:Operand)(a b c:Option Operand):FF r H (.slice t x a b c) q=.none:=rfl
@[go_sem] theorem IT(s:TypeId)(x:Operand)(f:Nat):FF r H (.fieldAddr s x f) q=.none:=rfl
@[go_sem] theorem Wa(s:TypeId)(x:Operand)(f:Nat):FF r H (.field s x f) q=.none:=rfl
@[go_sem] theorem JT(t:TypeId)(x i:Operand):FF r H (.indexAddr t x i) q=.none:=rfl
@[go_sem] theorem Ya(t:TypeId)(x i:Operand):FF r H (.index t x i) q=.none:=rfl
@[go_sem] theorem FY(x:Operand)(i:Nat):FF r H (.extract x i) q=.none:=rfl
@[go_sem] theorem Ua(t:TypeId):FF r H (.alloc t) q=.al:=rfl
@[go_sem] theorem ef_box(t:TypeId)(x:Operand):FF r H (.box t x) q=.al:=rfl
@[go_sem] theorem qS(t:TypeId)(n:Nat)(ps:Array (Nat×Operand)):FF r H (.buildSlice t n ps) q=.al:=rfl
@[go_sem] theorem GY(t:TypeId)(x:Option Operand):FF r H (.makeMap t x) q=.al:=rfl
@[go_sem] theorem Jh(t:TypeId)(a:Operand):FF r H (.load t a) q=Hi (r a):=by unfold Hi;rfl
@[go_sem] theorem bb(t:TypeId)(a x:Operand):FF r H (.store t a x) q=wrE (r a):=by unfold wrE;rfl
@[go_sem] theorem x5(t:TypeId)(m k:Operand):FF r H (.lookup t m k false) q=lkE (r m) t (r k):=by unfold lkE;rfl
@[go_sem] theorem kW(t:TypeId)(m k:Operand):FF r H (.mapEntry t m k) q=enE (r m) t (r k):=by unfold enE;rfl
@[go_sem] theorem rS(t:TypeId)(m s v:Operand):FF r H (.entryStore t m s v) q=Le q.lo H.n:=rfl
@[go_sem] theorem Ih(f:Operand)(as0:Array Operand)(ts:Array TypeId):FF r H (.call ⟨.value f,as0,ts⟩) q=caE q.lo H.n:=rfl
@[go_sem] theorem Ii(b o:Nat):Hi (.ptr b o)=.rd b:=rfl
@[go_sem] theorem rdE_pp(cs:List V):Hi (.pp cs)=.none:=rfl
@[go_sem] theorem ij(b o:Nat):wrE (.ptr b o)=.wr b:=rfl
@[go_sem] theorem lkE_mp(b:Nat)(t:TypeId)(k:V):lkE (.mp b) t k=.lk b t k:=rfl
@[go_sem] theorem enE_mp(b:Nat)(t:TypeId)(k:V):enE (.mp b) t k=.en b t k:=rfl
@[go_sem] theorem ka(n:Nat):caE n n=.ca:=by unfold caE;rw[BJ rfl];rfl
end
theorem ziG{b b':Nat}{t:TypeId}{k k':V}(h:HX k k'=true):oI (.lk b t k) (.en b' t k')=false:=by
 simp only[oI,h,Bool.and_true,BJ rfl,Bool.not_true,QB]
@[go_sem] theorem Ga(a b:Nat):oI (.rd a) (.rd b)=false:=rfl
@[go_sem] theorem Ea(a:Nat):oI (.rd a) .al=false:=rfl
@[go_sem] theorem Fa(a:Nat):oI (.rd a) .ca=false:=rfl
@[go_sem] theorem Da(a:Nat):oI .ca (.rd a)=false:=rfl
@[go_sem] theorem Ba:oI .ca .al=false:=rfl
@[go_sem] theorem Ca:oI .ca .ca=false:=rfl
@[go_sem] theorem va:oI .al .al=false:=rfl
@[go_sem] theorem ya(a:Nat):oI .al (.rd a)=false:=rfl
@[go_sem] theorem wa:oI .al .ca=false:=rfl
@[go_sem] theorem Z4(e:Eff):oI e .none=false:=zhq e
@[go_sem] theorem ah(Q:St->Prop)(es:List Eff)(st:St):Q4 [] Q es st=Q st:=by simp[Q4]
@[go_sem] theorem F9(i j:Nat)(ps:List (Nat×Nat))(Q:St->Prop)(es:List Eff)(st:St):Q4 ((i,j)::ps) Q es st=(oI (es.getD i .none) (es.getD j .none)=false/\Q4 ps Q es st):=by
 simp[Q4,and_assoc]
attribute [go_sem] List.getD_cons_zero List.getD_cons_succ
section rs
variable (P:Program) (l:Tab) (r:Operand->V) (H:Heap)
@[go_sem] theorem De(t:TypeId)(a x:Operand):kH P l r H (.store t a x)=qV P H t (r a) (r x):=rfl
@[go_sem] theorem RW(t:TypeId)(m k:Operand):kH P l r H (.mapEntry t m k)=tO P H t (r m) (r k):=rfl
@[go_sem] theorem wS(t:TypeId)(m s v:Operand):kH P l r H (.entryStore t m s v)=c7 H (r m) (r s) (r v):=rfl
end rs
theorem OO.keep{H:Heap}{o:Option V}{v:V}{K:OR->Prop}{h:Hid K}(e:o=some v)(k:K ⟨v,H,H.n⟩):OO (keep H o) K h:=OO.intro (by rw[e];rfl) k
end
end Go.Tw
namespace Go.Proofs.YtookdinfaoelaaaGreatDoor
section
open Go Go.Tw Go.Shelf Go.Proofs
def Tryz.lays150_ren:Go.Shelf.Ren:=⟨fun|150=>119|153=>135|152=>156|226=>157|227=>158|228=>159|137=>170|119=>171|224=>172|225=>173|217=>177|266=>178|n=>n,fun|9=>9|4=>4|3=>3|5=>5|21=>21|117=>191|116=>190|0=>0|46=>95|124=>205|n=>n,fun|n=>n⟩
theorem Tryz.lays150:Go.Proofs.Lays.n150 fA Tryz.lays150_ren:={
 mixed:=by kernel_rfl
 f119:=Tryz.func171.trans (congrArg some (by kernel_rfl))
 f137:=Tryz.func170.trans (congrArg some (by kernel_rfl))
 f150:=Tryz.func119.trans (congrArg some (by kernel_rfl))
 f152:=Tryz.func156.trans (congrArg some (by kernel_rfl))
 f153:=Tryz.func135.trans (congrArg some (by kernel_rfl))
 f217:=Tryz.func177.trans (congrArg some (by kernel_rfl))
 f224:=Tryz.func172.trans (congrArg some (by kernel_rfl))
 f225:=Tryz.func173.trans (congrArg some (by kernel_rfl))
 f226:=Tryz.func157.trans (congrArg some (by kernel_rfl))
 f227:=Tryz.func158.trans (congrArg some (by kernel_rfl))
 f228:=Tryz.func159.trans (congrArg some (by kernel_rfl))
 f266:=Tryz.func178.trans (congrArg some (by kernel_rfl))
 t0:=Tryz.underlying0
 a0:=Tryz.isAgg0
 z0:=Tryz.sizeOf0
 v0:=Tryz.zeroValue0
 t3:=Tryz.underlying3
 a3:=Tryz.isAgg3
 z3:=Tryz.sizeOf3
 v3:=Tryz.zeroValue3
 t4:=Tryz.underlying4
 a4:=Tryz.isAgg4
 z4:=Tryz.sizeOf4
 v4:=Tryz.zeroValue4
 t5:=Tryz.underlying5
 a5:=Tryz.isAgg5
 z5:=Tryz.sizeOf5
 v5:=Tryz.zeroValue5
 t9:=Tryz.underlying9
 a9:=Tryz.isAgg9
 z9:=Tryz.sizeOf9
 v9:=Tryz.zeroValue9
 t21:=Tryz.underlying21
 a21:=Tryz.isAgg21
 z21:=Tryz.sizeOf21
 v21:=Tryz.zeroValue21
 t46:=Tryz.underlying95
 a46:=Tryz.isAgg95
 z46:=Tryz.sizeOf95
 v46:=Tryz.zeroValue95
 t116:=Tryz.underlying190
 a116:=Tryz.isAgg190
 z116:=Tryz.sizeOf190
 t117:=Tryz.underlying191
 a117:=Tryz.isAgg191
 z117:=Tryz.sizeOf191
 v117:=Tryz.zeroValue191
 t124:=Tryz.underlying205
 a124:=Tryz.isAgg205
 z124:=Tryz.sizeOf205
 v124:=Tryz.zeroValue205}
theorem L0:(Tryz.prog.info? (Tryz.lays150_ren.t 116)).map (fun i=>(i.zero,i.size))=some (some (.agg (lC 256 (.bool false))),256):=by kernel_rfl
theorem zpS:Tryz.lays150_ren.f 150=119:=by kernel_rfl
theorem fc(s c:ByteArray)(hs:s.size<4294967281)(hc:c.size<4294967281)(ha:s.data.toList.all (fun b=>decide (b.toNat<128))=true)(hb:c.data.toList.all (fun b=>decide (b.toNat<128))=true)(H:Heap)(Q:OR->Prop)(hQ:Q ⟨.lit (.bool (qG s.data.toList c.data.toList)),H,H.n⟩):
  MCall Cx 119 [gE s,gE c] H Q:=by
 refine pf (xs:=[.string s,.string c]) Tryz.func119 rfl (by decide) (fun w=>?_) hQ
 have h:=Any.strings_ContainsAny_laid Tryz.lays150 L0 s c w hs hc (fun j b h=>of_decide_eq_true (gB.1 ha b (IA h))) (fun j b h=>of_decide_eq_true (gB.1 hb b (IA h)))
 rw[zpS] at h
 exact h
end
end Go.Proofs.YtookdinfaoelaaaGreatDoor
namespace Go.Tw
section
theorem MCall.pn{C:Ctx}{g:FuncId}{cs:List V}{n:Nat}{rest:List V}{H:Heap}{Q:OR->Prop}(h1:n=0->cs=[]->MCall C g (.lit (.slice none 0 0)::rest) H Q)(h2:n=0->cs=[]->MCall C g (.void::rest) H Q)(h3:MCall C g (.ps cs n::rest) H Q):MCall C g (.pn cs n::rest) H Q:=by
 intro h s w cas K hr hg ha hK
 obtain⟨c,cs',e,hv,hrest⟩:=ha
 rcases hv with⟨e1,e2,e3⟩|hv
 ·rcases e3 with e3|⟨a,cap,e3⟩
  ·exact h1 e1 e2 h s w cas K hr hg ⟨c,cs',e,e3,hrest⟩ hK
  ·exact h2 e1 e2 h s w cas K hr hg ⟨c,cs',e,⟨a,cap,e3⟩,hrest⟩ hK
 ·exact h3 h s w cas K hr hg ⟨c,cs',e,hv,hrest⟩ hK
section
variable {P:Program} {t e:TypeId} {H:Heap}
theorem W3(h:P.underlying t=some (.slice e))(cs:List V)(n:Nat):jE P .eql t (.ps cs n) (.lit (.slice none 0 0))=some (.lit (.bool false)):=by
 simp[jE,CV,LL,WK,UJ,h]
theorem V2(h:P.underlying t=some (.slice e)):jE P .eql t .void (.lit (.slice none 0 0))=some (.lit (.bool false)):=by
 simp[jE,CV,LL,WK,UJ,h]
theorem P3(h:P.underlying t=some (.slice e)):jE P .eql t (.lit (.slice none 0 0)) (.lit (.slice none 0 0))=some (.lit (.bool true)):=by
 simp[jE,CV,LL,WK,UJ,h]
theorem KS{z:Nat}(h:P.underlying t=some (.slice e))(hz:EF P e=some z)(hzl:(zE P e).map PB=some z):zx P H t 0 []=some ⟨.sl H.n 0 0 0 none,H.push (.cells [] e),H.n⟩:=by
 obtain⟨zc,hzc,hl⟩:=BA.1 hzl
 simp[zx,h,hz,hzc,hl,ZM,bH]
theorem gM{z:Nat}{d:TypeDesc}{new:List V}{x:V}{n:Nat}{t1:TypeId}(h:P.underlying t=some (.slice e))(h1:P.underlying t1=some d)(hd:∀q,d≠.int q)(hz:(P.info? e).map (·.size)=some z)(hzl:(zE P e).map PB=some z)(hby:(mD 0 (bytesOf P e)&&DF (bytesOf P e) 1048576)=true)
  (hx:mJ x=some n) (hc:cellsOf (H.push (.cells [] e)) z n x=some new) (hone:new.all V.one=true) (hl:new.length=n*z) (hsm:n<=1048576):
  DH P (H.push (.cells [] e)) t t1 (.sl H.n 0 0 0 none) x=some (if n=0 then⟨.sl H.n 0 0 0 none,H.push (.cells [] e),H.n+1⟩ else⟨.sl (H.n+1) 0 n n (some z),(H.push (.cells [] e)).push (.cells new e),H.n+1⟩):=by
 obtain⟨i,hi,rfl⟩:=BA.1 hz
 obtain⟨zc,hzc,hzl⟩:=BA.1 hzl
 have eby:bytesOf P e=i.bytes:=by simp[bytesOf,hi]
 rw[eby,wA,AD,KH] at hby
 obtain⟨hby,hby2⟩:=hby
 replace hsm:n*i.bytes<=1099511627776:=Nat.le_trans (Nat.mul_le_mul hsm hby2) (by decide)
 have hok:¬¬(0<i.bytes/\zc.length=i.size/\new.all V.one=true/\new.length=n*i.size):=fun hh=>hh ⟨hby,hzl,hone,hl⟩
 have hg:(H.push (.cells [] e)).get H.n=some (.cells [] e):=by rw[yA,if_pos rfl]
 unfold DH
 rw[h,h1]
 cases d with
 | int q=>exact absurd rfl (hd q)
 | _=>
  simp only[hi,hx,hc,hzc,Option.bind_eq_bind,Option.bind_some,if_neg hok]
  by_cases hn:n=0
  ·simp[hn,iA]
  ·have e1:¬(0+n<=0):=by omega
   simp only[if_neg hn,hg,iA,Nat.zero_add,hsm,Nat.zero_mul,List.length_nil,jA,and_self,not_true_eq_false,if_false,Option.isSome_none,Bool.false_eq_true,List.drop_nil,List.take_nil,DD]
   rw[if_neg (by omega)]
end
def XH{α:Type}(z:Nat)(l:List α)(k:Nat):V:=if l=[] then .pn [] 0 else .sl k 0 l.length l.length (some z)
end
end Go.Tw
namespace Go.Proofs.YtookdinfaoelaaaGreatDoor
section
open Go Go.Tw
open Classical
theorem zhn(c:List UInt8):∀l:List UInt8,0<=Lib.indexAny l c↔(l.any fun b=>c.contains b)=true
 | []=>by simp[Lib.indexAny]
 | b::l=>by
  have ih:=zhn c l
  have h:=Lib.indexAny_ge c l
  unfold Lib.indexAny
  rw[List.any_cons]
  by_cases hc:c.contains b=true
  ·rw[if_pos hc,hc];simp
  ·rw[if_neg hc]
   have hc:c.contains b=false:=by simpa using hc
   rw[hc,mI,<-ih]
   by_cases e:Lib.indexAny l c=-1
   ·simp[e]
   ·have e2:¬(Lib.indexAny l c==-1)=true:=by simpa using e
    rw[if_neg e2]
    omega
theorem ziC(c l:List UInt8):qG l c=l.any fun b=>c.contains b:=by
 rw[YB,<-zhn]
 simp[qG]
def nS(b:UInt8):Bool:=decide (33<=b.toNat)&&decide (b.toNat<=126)&&decide (b.toNat≠46)&&decide (b.toNat≠34)
def pL(s:ByteArray):Bool:=decide (1<=s.size)&&decide (s.size<=24)&&s.data.toList.all nS
def keyChars:ByteArray:=⟨#[32,46,34]⟩
theorem zpV(l:List UInt8):(l.all dO&&!qG l keyChars.data.toList)=l.all nS:=by
 rw[ziC]
 induction l with
 | nil=>rfl
 | cons b l ih=>
  have e:(dO b&&!(keyChars.data.toList.contains b))=nS b:=by
   have:keyChars.data.toList.contains b=(decide (b.toNat=32)||decide (b.toNat=46)||decide (b.toNat=34)):=by
    show([32,46,34]:List UInt8).contains b=_
    simp only[List.contains_cons,List.contains_nil,Bool.or_false]
    have k:∀c:UInt8,(b==c)=decide (b.toNat=c.toNat):=fun c=>by
     rw[YB];simp[UInt8.toNat_inj]
    rw[k,k,k]
    simp[Bool.or_assoc]
   rw[this]
   unfold dO nS
   rw[YB]
   simp only[wA,oC,Bool.or_eq_false_iff,decide_eq_true_eq,decide_eq_false_iff_not]
   omega
  simp only[CD,List.any_cons,<-ih,<-e]
  cases dO b<;>cases keyChars.data.toList.contains b<;>simp
theorem Kj(s:ByteArray):pL s=(decide (1<=s.size)&&decide (s.size<=24)&&(yL s&&!qG s.data.toList keyChars.data.toList)):=by
 unfold pL yL
 rw[zpV]
theorem zmb{s:ByteArray}(h:yL s=true):s.data.toList.all (fun b=>decide (b.toNat<128))=true:=by
 unfold yL at h
 rw[gB] at h ⊢
 intro b hb
 have:=h b hb
 simp only[dO,wA,decide_eq_true_eq] at this ⊢
 omega
noncomputable def IV:List V->Heap->Option OR:=by
 classical
 exact GK (fun p:ByteArray=>match p with|s=>[gE s]) fun p H=>match p with|s=>if s.size<=9223372036854775807 then some ⟨.lit (.bool (pL s)),H,H.n⟩ else none
theorem Jb(s:ByteArray)(hp:s.size<=9223372036854775807)(H:Heap)(Q:OR->Prop)(hQ:Q ⟨.lit (.bool (pL s)),H,H.n⟩):MCall Cx 100 [gE s] H Q:=by
 refine QA zm (fn:=Tryz.f100) Tryz.func100 rfl (by decide) (k:=20) rfl (rs:=[.tmp 2]) rfl ?_
 simp -dsimp only[go_sem,bA,aA,reduceCtorEq]
 have no:pL s=false->Q ⟨.lit (.bool false),H,H.n⟩:=fun h=>by rwa [h] at hQ
 refine AB (fun h1=>?_) (fun h1=>?_)<;>simp -dsimp only[go_sem,bA,aA,reduceCtorEq,gA,h1]
 rotate_left
 ·exact AA (by omega) rfl (no (by rw[Kj,decide_eq_false (by omega)];rfl))
 refine AB (fun h2=>?_) (fun h2=>?_)<;>simp -dsimp only[go_sem,bA,aA,reduceCtorEq,gA,h1,h2]
 rotate_left
 ·exact AA (by omega) rfl (no (by rw[Kj,decide_eq_false (p:=s.size<=24) (by omega),QB];rfl))
 refine MV.tab _ ((CA (JW) xA)) ?_
 simp -dsimp only[go_sem,bA,aA,reduceCtorEq,Ta _ hp,h1,h2]
 refine GD.split (fun h3=>?_) (fun h3=>?_)<;>simp -dsimp only[go_sem,bA,aA,reduceCtorEq,gA,h1,h2,h3]
 rotate_left
 ·exact AA (by omega) rfl (no (by rw[Kj,h3,kD,QB]))
 refine MV.fn (fc s keyChars (by omega) (by decide) (zmb h3) (by decide) _ _ ?_)
 simp -dsimp only[go_sem,bA,aA,reduceCtorEq,gA,h1,h2,h3]
 refine AA (by omega) rfl ?_
 rw[Kj,h3,decide_eq_true (p:=s.size<=24) (by omega),decide_eq_true (p:=1<=s.size) (by omega)] at hQ
 simpa using hQ
theorem IZ:CI Cx 100 IV:=kL fun s H r hr=>by
 simp only at hr
 split at hr
 ·rename_i hp
  injection hr with hr
  subst hr
  exact Jb s hp H _ rfl
 ·cases hr
theorem Oa(s:ByteArray)(hp:s.size<=9223372036854775807)(H:Heap):IV [gE s] H=some ⟨.lit (.bool (pL s)),H,H.n⟩:=by
 refine(lL (by simp+contextual) s H).trans ?_
 exact if_pos hp
noncomputable def LV:List V->Heap->Option OR:=by
 classical
 exact GK (fun p:ByteArray=>match p with|s=>[gE s]) fun p H=>match p with|s=>if s.size<=9223372036854775807 then some ⟨.lit (.bool (pL s)),H,H.n⟩ else none
theorem Rb(s:ByteArray)(hp:s.size<=9223372036854775807)(H:Heap)(Q:OR->Prop)(hQ:Q ⟨.lit (.bool (pL s)),H,H.n⟩):MCall Cx 109 [gE s] H Q:=by
 refine QA zm (fn:=Tryz.f109) Tryz.func109 rfl (by decide) (k:=40) rfl (rs:=[.tmp 2]) rfl ?_
 simp -dsimp only[go_sem,bA,aA,reduceCtorEq]
 have no:pL s=false->Q ⟨.lit (.bool false),H,H.n⟩:=fun h=>by rwa [h] at hQ
 refine AB (fun h1=>?_) (fun h1=>?_)<;>simp -dsimp only[go_sem,bA,aA,reduceCtorEq,gA,h1]
 ·exact AA (by omega) rfl (no (by rw[pL,decide_eq_false (by omega)];rfl))
 refine aB (fun h2=>?_) (fun h2=>?_)<;>simp -dsimp only[go_sem,bA,aA,reduceCtorEq,gA,h1,h2]
 ·exact AA (by omega) rfl (no (by rw[pL,decide_eq_false (p:=s.size<=24) (by omega),QB];rfl))
 refine sC zm (fun i:Nat=>[(0,gE s),(3,vA i)]) (fun i=>i<=s.size/\(s.data.toList.take i).all nS=true) (fun i=>s.size-i) 0 ⟨by omega,rfl⟩ zSl ?_
 rintro i ⟨hi,hj⟩
 simp -dsimp only[go_sem,bA,aA,reduceCtorEq,zf,zh]
 refine aB (fun h=>?_) (fun h=>?_)<;>simp -dsimp only[go_sem,bA,aA,reduceCtorEq,gA,h]
 ·obtain⟨b,hb⟩:=Go.Tw.byte_at h
  have no2:nS b=false->Q ⟨.lit (.bool false),H,H.n⟩:=fun h=>no (by rw[pL,L7 hb h,QB])
  simp -dsimp only[go_sem,bA,aA,reduceCtorEq,hb]
  refine AB (fun k1=>?_) (fun k1=>?_)<;>simp -dsimp only[go_sem,bA,aA,reduceCtorEq,gA,k1,hb]
  ·exact AA (by omega) rfl (no2 (by simp[nS];omega))
  refine AB (fun k2=>?_) (fun k2=>?_)<;>simp -dsimp only[go_sem,bA,aA,reduceCtorEq,gA,k1,k2,hb]
  ·exact AA (by omega) rfl (no2 (by simp[nS];omega))
  refine AB (fun k3=>?_) (fun k3=>?_)<;>simp -dsimp only[go_sem,bA,aA,reduceCtorEq,gA,k1,k2,k3,hb]
  ·exact AA (by omega) rfl (no2 (by simp[nS];omega))
  refine aB (fun k4=>?_) (fun k4=>?_)<;>simp -dsimp only[go_sem,bA,aA,reduceCtorEq,gA,k1,k2,k3,k4]
  ·exact AA (by omega) rfl (no2 (by simp[nS];omega))
  refine zAg (i+1) ?_
  exact⟨by omega,VM hb hj (by simp[nS];omega)⟩
 ·refine AA (by omega) rfl ?_
  rw[pL,pN (i:=i) (by rw[Sj];omega) hj,decide_eq_true (p:=s.size<=24) (by omega),decide_eq_true (p:=1<=s.size) (by omega)] at hQ
  exact hQ
theorem KZ:CI Cx 109 LV:=kL fun s H r hr=>by
 simp only at hr
 split at hr
 ·rename_i hp
  injection hr with hr
  subst hr
  exact Rb s hp H _ rfl
 ·cases hr
theorem Pa(s:ByteArray)(hp:s.size<=9223372036854775807)(H:Heap):LV [gE s] H=some ⟨.lit (.bool (pL s)),H,H.n⟩:=by
 refine(lL (by simp+contextual) s H).trans ?_
 exact if_pos hp
end
end Go.Proofs.YtookdinfaoelaaaGreatDoor
namespace Go.Tw
section
section
variable {C:Ctx} {nt:Nat} {ro:Option Nat} {H0:Heap} {T:Tr V} {H:Heap} {lo:Nat} {Q:Ex->St->Prop}
def lI(nt:Nat)(T:Tr V):List V:=(CB nt).map (PD T)
theorem eV(nt:Nat)(T:Tr V):(lI nt T).length=nt:=by simp[lI]
theorem I2{nt:Nat}{T:Tr V}{t:Nat}(h:t<nt):PD (ZJ (lI nt T) 0 .nil) t=PD T t:=by
 rw[zgE,if_pos (Nat.zero_le _),Nat.sub_zero,lI,uB,List.getElem?_range h]
 rfl
theorem WW.range {q : Operand} {ps : Array Tmp} {assign body : Code} {g : FuncId} {fn : Func} {first cap : List V} {h : Hid (Code.rangeFunc q ps assign body, Q)} (hro : mN H ro = true) (hq : HD C T q = .fn (.func g) first cap) (hf : C.P.funcs[g]? = some fn) (hb : fn.body.isSome = true) (hn : fn.name ≠ "runtime.NumGoroutine")
  (k:MCall C g (first++[.yld H.n]++cap) (H.push (.loop (lI nt T) ps.toList assign body .ready none)) fun r=>
   ∃ts ps' as0 bd sta pd,r.H.get H.n=some (.loop ts ps' as0 bd sta pd)/\sta≠.busy/\match pd with
    | none=>Q .normal ⟨T,r.H.set H.n (.loop ts ps' as0 bd .exhausted pd),min lo r.lo⟩
    | some c=>WW C nt ro H0 c T (r.H.set H.n (.loop ts ps' as0 bd .exhausted pd)) (min lo r.lo) Q .mk):WW C nt ro H0 (.rangeFunc q ps assign body) T H lo Q h:=by
 refine⟨W.range hro hq hf hb hn (k.mono fun r hr=>?_)⟩
 obtain⟨ts,ps',as0,bd,sta,pd,h1,h2,h3⟩:=hr
 refine⟨ts,ps',as0,bd,sta,pd,h1,h2,?_⟩
 cases pd with
 | none=>exact h3
 | some c=>exact h3.out
end
def RdB(b:Nat)(Q:OR->Prop)(e:Ex)(st3:St):Prop:=
 ∃ts3 ps3 as3 bd3 state3 pend3,st3.H.get b=some (.loop ts3 ps3 as3 bd3 state3 pend3)/\Q ⟨.lit (.bool (eS e)),st3.H.set b (.loop ts3 ps3 as3 bd3 (YR e) (uN e)),min st3.lo b⟩
def RdA(C:Ctx)(nt:Nat)(b:Nat)(H:Heap)(bd:Code)(Q:OR->Prop)(e:Ex)(st1:St):Prop:=
 e=.normal/\∃ts1 ps1 as1 bd1 pend1,st1.H.get b=some (.loop ts1 ps1 as1 bd1 .ready pend1)/\
   WW C nt (some b) H bd st1.T (st1.H.set b (.loop ts1 ps1 as1 bd1 .busy pend1)) (min st1.lo b) (RdB b Q) .mk
theorem MVal.round{C:Ctx}{b:Nat}{x:V}{ts:List V}{p:Tmp}{as0 bd:Code}{pend:Option Code}{H:Heap}{Q:OR->Prop}(hb:H.get b=some (.loop ts [p] as0 bd .ready pend))(hp:p<ts.length)(S:List (Nat×V))(hS:∀q∈S,PD (OG (ZJ ts 0 .nil) (some p) x) q.1=q.2)
  (k:WW C ts.length (some b) H as0 (jH S) H H.n (RdA C ts.length b H bd Q) .mk):MVal C (.yld b) [x] H Q:=by
 refine MVal.yld hb rfl (fun q hq=>by simp only[List.mem_singleton] at hq;subst hq;exact hp) ?_
 refine(W.pre (Sub.keep S hS) k.out).mono fun e st1 q=>?_
 obtain⟨h1,ts1,ps1,as1,bd1,pend1,h2,h3⟩:=q
 exact⟨h1,ts1,ps1,as1,bd1,pend1,h2,h3.out⟩
end
end Go.Tw
namespace Go.Proofs.YtookdinfaoelaaaGreatDoor
section
open Go Go.Tw
open Classical
def CL{α:Type}(p:α->Bool)(l:List α):Int:=
 match l.findIdx? p with
 | some i=>(i:Int)
 | none=>-1
theorem ng{α:Type}{p:α->Bool}{l:List α}{i:Nat}{x:α}(hx:l[i]?=some x)(hp:p x=true)(hj:(l.take i).all (fun x=>!p x)=true):CL p l=i:=by
 have:l.findIdx? p=some i:=by
  obtain⟨hi,rfl⟩:=rA.1 hx
  rw[lD]
  refine⟨hi,hp,fun j hji=>?_⟩
  have:=gB.1 hj l[j] (by rw[List.mem_take_iff_getElem];exact⟨j,by omega,rfl⟩)
  simpa using this
 simp[CL,this]
theorem Qf{α:Type}{p:α->Bool}{l:List α}(hj:l.all (fun x=>!p x)=true):CL p l=-1:=by
 have:l.findIdx? p=none:=by
  rw[iE]
  intro x hx
  simpa using gB.1 hj x hx
 simp[CL,this]
theorem znx{α:Type}{p:α->Bool}{l:List α}:decide (0<=CL p l)=l.any p:=by
 unfold CL
 cases h:l.findIdx? p with
 | none=>
  rw[iE] at h
  simp only[show ¬(0:Int)<=-1 by decide,decide_false]
  symm
  rw[List.any_eq_false]
  exact fun x hx=>by simp[h x hx]
 | some i=>
  obtain⟨hi,hp,_⟩:=lD.1 h
  simp only[show(0:Int)<=(i:Int) by omega,decide_true]
  symm
  rw[List.any_eq_true]
  exact⟨_,fG hi,hp⟩
theorem ic(l:List GV)(f:V)(p:GV->Bool)(hl:l.length<=9223372036854775807)(H:Heap)(hf:∀x∈l,∀Q:OR->Prop,Q ⟨.lit (.bool (p x)),H,H.n⟩->MVal Cx f [.agg (zR x)] H Q)(Q:OR->Prop)(hQ:Q ⟨vA (CL p l),H,H.n⟩):
  MCall Cx 120 [NB zR l,f] H Q:=by
 refine QA zm (fn:=Tryz.f120) Tryz.func120 rfl (by decide) (k:=19) rfl (rs:=[.tmp 4]) rfl ?_
 simp -dsimp only[go_sem,bA,aA,cA,reduceCtorEq,gA]
 refine sC zm (fun i:Nat=>[(0,NB zR l),(1,f),(7,vA l.length),(8,vA i)]) (fun i=>i<=l.length/\(l.take i).all (fun x=>!p x)=true) (fun i=>l.length-i) 0 ⟨by omega,rfl⟩ zSl ?_
 rintro i ⟨hi,hj⟩
 simp -dsimp only[go_sem,bA,aA,reduceCtorEq,zf,zh]
 refine aB (fun h=>?_) (fun h=>?_)<;>simp -dsimp only[go_sem,bA,aA,reduceCtorEq,gA,h]
 ·obtain⟨x,hx⟩:=zu h
  simp -dsimp only[go_sem,bA,aA,reduceCtorEq,h,z7 zF hx]
  refine⟨hf x (IA hx) _ ?_⟩
  simp -dsimp only[go_sem,aA,reduceCtorEq,h]
  refine BR.split (fun h2=>?_) (fun h2=>?_)<;>simp -dsimp only[go_sem,bA,aA,reduceCtorEq,gA,h,h2]
  ·refine nB ?_
   rw[ng hx h2 hj] at hQ
   exact hQ
  ·refine zAg (i+1) ?_
   exact⟨by omega,VM hx hj (by simp[h2])⟩
 ·refine nB ?_
  rw[Qf (pN (i:=i) (by omega) hj)] at hQ
  exact hQ
theorem Kb(l:List GV)(f:V)(p:GV->Bool)(hl:l.length<=9223372036854775807)(H:Heap)(hf:∀x∈l,∀Q:OR->Prop,Q ⟨.lit (.bool (p x)),H,H.n⟩->MVal Cx f [.agg (zR x)] H Q)(Q:OR->Prop)(hQ:Q ⟨.lit (.bool (l.any p)),H,H.n⟩):
  MCall Cx 101 [NB zR l,f] H Q:=by
 refine QA zm (fn:=Tryz.f101) Tryz.func101 rfl (by decide) (k:=9) rfl (rs:=[.tmp 4]) rfl ?_
 simp -dsimp only[go_sem,bA,aA,cA,reduceCtorEq]
 refine MV.fn ?_
 simp -dsimp only[go_sem,bA,aA,cA,reduceCtorEq]
 refine ic l f p hl H hf _ ?_
 simp -dsimp only[go_sem,bA,aA,cA,reduceCtorEq,gA]
 refine nB ?_
 rw[znx]
 exact hQ
theorem Vc(l:List GNode)(f:V)(p:GNode->Bool)(hl:l.length<=9223372036854775807)(H:Heap)(hf:∀x∈l,∀Q:OR->Prop,Q ⟨.lit (.bool (p x)),H,H.n⟩->MVal Cx f [.agg (za x)] H Q)(Q:OR->Prop)(hQ:Q ⟨vA (CL p l),H,H.n⟩):
  MCall Cx 64 [NB za l,f] H Q:=by
 refine QA zm (fn:=Tryz.f64) Tryz.func64 rfl (by decide) (k:=19) rfl (rs:=[.tmp 4]) rfl ?_
 simp -dsimp only[go_sem,bA,aA,cA,reduceCtorEq,gA]
 refine sC zm (fun i:Nat=>[(0,NB za l),(1,f),(7,vA l.length),(8,vA i)]) (fun i=>i<=l.length/\(l.take i).all (fun x=>!p x)=true) (fun i=>l.length-i) 0 ⟨by omega,rfl⟩ zSl ?_
 rintro i ⟨hi,hj⟩
 simp -dsimp only[go_sem,bA,aA,reduceCtorEq,zf,zh]
 refine aB (fun h=>?_) (fun h=>?_)<;>simp -dsimp only[go_sem,bA,aA,reduceCtorEq,gA,h]
 ·obtain⟨x,hx⟩:=zu h
  simp -dsimp only[go_sem,bA,aA,reduceCtorEq,h,z7 zg hx]
  refine⟨hf x (IA hx) _ ?_⟩
  simp -dsimp only[go_sem,aA,reduceCtorEq,h]
  refine BR.split (fun h2=>?_) (fun h2=>?_)<;>simp -dsimp only[go_sem,bA,aA,reduceCtorEq,gA,h,h2]
  ·refine nB ?_
   rw[ng hx h2 hj] at hQ
   exact hQ
  ·refine zAg (i+1) ?_
   exact⟨by omega,VM hx hj (by simp[h2])⟩
 ·refine nB ?_
  rw[Qf (pN (i:=i) (by omega) hj)] at hQ
  exact hQ
theorem m_23(l:List GNode)(f:V)(p:GNode->Bool)(hl:l.length<=9223372036854775807)(H:Heap)(hf:∀x∈l,∀Q:OR->Prop,Q ⟨.lit (.bool (p x)),H,H.n⟩->MVal Cx f [.agg (za x)] H Q)(Q:OR->Prop)(hQ:Q ⟨.lit (.bool (l.any p)),H,H.n⟩):
  MCall Cx 23 [NB za l,f] H Q:=by
 refine QA zm (fn:=Tryz.f23) Tryz.func23 rfl (by decide) (k:=9) rfl (rs:=[.tmp 4]) rfl ?_
 simp -dsimp only[go_sem,bA,aA,cA,reduceCtorEq]
 refine MV.fn ?_
 simp -dsimp only[go_sem,bA,aA,cA,reduceCtorEq]
 refine Vc l f p hl H hf _ ?_
 simp -dsimp only[go_sem,bA,aA,cA,reduceCtorEq,gA]
 refine nB ?_
 rw[znx]
 exact hQ
end
end Go.Proofs.YtookdinfaoelaaaGreatDoor
namespace Go.Tw
def RNs(f:Nat->Option Nat)(Z:Nat->Prop)(H:Heap)(vs us:List V):Prop:=
 ∀(z:TypeId->Nat) (s s2:Nat->Option Nat) (d d2 pr pr2:Nat->Prop) (w:World),US z s s2 d d2 pr pr2 w f Z H->∀cs,VRs z s d pr w vs cs->VRs z s2 d2 pr2 w us cs
theorem RNs.nil{f:Nat->Option Nat}{Z:Nat->Prop}{H:Heap}:RNs f Z H [] []:=fun _ _ _ _ _ _ _ _ _ _ h=>h
theorem RNs.cons{f:Nat->Option Nat}{Z:Nat->Prop}{H:Heap}{v u:V}{vs us:List V}(h:RN f Z H v u)(k:RNs f Z H vs us):RNs f Z H (v::vs) (u::us):=fun z s s2 d d2 pr pr2 w G cs hv=>by
 obtain⟨c,cs',e,k1,k2⟩:=hv
 exact⟨c,cs',e,h z s s2 d d2 pr pr2 w G c k1,k z s s2 d d2 pr pr2 w G cs' k2⟩
def RNb(f:Nat->Option Nat)(Z:Nat->Prop)(H:Heap)(B B2:Blk):Prop:=
 (B=.dead->B2=.dead)/\∀(P:PH) (s s2:Nat->Option Nat) (H2:Heap) (w:World),US (szP P) s s2 (RC H) (RC H2) (RE P s w) (RE P s2 w) w f Z H->∀o,BR P s H w B o->BR P s2 H2 w B2 o
theorem RNb.of{f:Nat->Option Nat}{Z:Nat->Prop}{H:Heap}{B B2:Blk}(h:uS f Z H B B2):RNb f Z H B B2:=⟨fun e=>by subst e;exact h,fun P s s2 H2 w G o hv=>Gk G h hv⟩
theorem RNb.cells{f:Nat->Option Nat}{Z:Nat->Prop}{H:Heap}{cs cs':List V}{e:TypeId}(hl:cs'.length=cs.length)(h:RNs f Z H cs cs'):RNb f Z H (.cells cs e) (.cells cs' e):=by
 refine⟨(fun e=>Blk.noConfusion e),fun P s s2 H2 w G o hv=>?_⟩
 obtain⟨arr,fr,e1,h2,h3⟩:=hv
 refine⟨arr,fr,e1,?_,h3⟩
 rw[hl]
 exact h _ _ _ _ _ _ _ _ G _ h2
theorem Sub.ren2{C:Ctx}{nt:Nat}{ro:Option Nat}{H0:Heap}{st st2:St}(f fi:Nat->Option Nat)(Z:Nat->Prop)
  (hfi:∀b j,f b=some j↔fi j=some b) (hold:∀b,b<H0.n->f b=some b) (hnew:∀b j,f b=some j->H0.n<=b->H0.n<=j)
  (hsur:∀j,H0.n<=j->j<st2.H.n->RC st2.H j\/∃b,f b=some j/\b<st.H.n)
  (hblk:∀b j B,f b=some j->st.H.get b=some B->(b<H0.n/\(st.H.get b=H0.get b\/b<st.lo)/\st2.H.get b=H0.get b)\/∃B2,st2.H.get j=some B2/\RNb f Z st.H B B2)
  (hZ:∀b,Z b->H0.n<=b/\f b=none/\H0.n<=st.lo) (hn:H0.n<=st2.H.n) (hro:∀b,ro=some b->b<H0.n)
  (hT:∀t,RN f Z st.H (PD st.T t) (PD st2.T t)) (hlo:st2.lo<=st.lo) (hsame:∀b,b<st2.lo->b<H0.n->st2.H.get b=H0.get b):Sub C nt ro H0 st st2:=by
 intro h wro o s w a ⟨e1,e2,h0⟩ R
 subst e1
 let s2:Nat->Option Nat:=fun j=>(fi j).bind s
 have hs2:∀j g,s2 j=some g↔∃b,f b=some j/\s b=some g:=by
  intro j g
  simp only[s2,Option.bind_eq_some_iff]
  constructor
  ·rintro⟨b,h1,h2⟩;exact⟨b,(hfi b j).2 h1,h2⟩
  ·rintro⟨b,h1,h2⟩;exact⟨b,(hfi b j).1 h1,h2⟩
 have hinj:∀b b' j,f b=some j->f b'=some j->b=b':=by
  intro b b' j h1 h2
  have:=(hfi b j).1 h1
  rw[(hfi b' j).1 h2] at this
  injection this with this
  exact this.symm
 have hPr:∀g,RE (C.ph h) s w g->RE (C.ph h) s2 w g:=by
  rintro g ⟨h1,h2,h3⟩
  refine⟨h1,fun j hj=>?_,h3⟩
  obtain⟨b,_,hb⟩:=(hs2 j g).1 hj
  exact h2 b hb
 have hD:∀b j,f b=some j->RC st.H b->RC st2.H j:=by
  intro b j hf hd
  rcases hblk b j .dead hf hd with⟨h1,h2,h3⟩|⟨B2,h1,h2⟩
  ·replace h2:st.H.get b=o.H.get b:=h2.elim id fun h2=>R.ext.old b h2 h1
   have:=hold b h1
   rw[hf] at this
   injection this with this
   subst this
   rw[RC,h3,<-h2]
   exact hd
  ·rw[RC,h1,h2.1 rfl]
 have hzp:∀b g,Z b->s b=some g->RE (C.ph h) s2 w g:=by
  intro b g hz hb
  obtain⟨z1,z2,z3⟩:=hZ b hz
  refine⟨(R.hr.lt hb).2,fun j hj=>?_,fun hh=>?_⟩
  ·obtain⟨b',h1,h2⟩:=(hs2 j g).1 hj
   rw[R.hr.inj b b' g hb h2] at z2
   rw[h1] at z2
   cases z2
  ·rcases R.ext.fresh b g hb with h1|⟨_,h1|⟨b0,h1,h2⟩⟩
   ·have:=R.ob b g h1;omega
   ·have:=e2 g hh;omega
   ·have:=R.ob b0 g h2;omega
 have G:US (szP (C.ph h)) s s2 (RC st.H) (RC st2.H) (RE (C.ph h) s w) (RE (C.ph h) s2 w) w f Z st.H:=by
  refine⟨hPr,fun b j hf=>⟨hD b j hf,fun g hg=>(hs2 j g).2 ⟨b,hf,hg⟩⟩,fun b cs e hz hg=>⟨?_,fun g hs=>⟨hzp b g hz hs,?_⟩⟩⟩
  ·intro hd
   rw[RC,hg] at hd
   cases hd
  ·obtain⟨arr,fr,h3,h4,_,_⟩:=R.hr.cells hg hs
   exact⟨_,h4,ZU h3 cs.length⟩
 refine⟨s2,R.ob,⟨?_,?_⟩,⟨R.gk.1,fun g cs hc=>?_⟩,by have:=R.ln;omega,?_,R.sz,?_,?_,fun t=>hT t _ _ _ _ _ _ _ _ G _ (R.tm t)⟩
 ·intro j g hj
  obtain⟨b,h1,h2⟩:=(hs2 j g).1 hj
  obtain⟨B,q,k1,k2,k3⟩:=R.hr.dom b g h2
  rcases hblk b j B h1 k1 with⟨q1,q2,q3⟩|⟨B2,k4,k5⟩
  ·replace q2:st.H.get b=o.H.get b:=q2.elim id fun q2=>R.ext.old b q2 q1
   have:=hold b q1
   rw[h1] at this
   injection this with this
   subst this
   have hb0:o.s j=some g:=by
    rcases R.ext.fresh j g h2 with h3|⟨h3,_⟩
    ·exact h3
    ·omega
   obtain⟨B',q0,m1,m2,m3⟩:=h0.dom j g hb0
   rw[<-q2,k1] at m1
   injection m1 with m1
   subst m1
   have hlt:∀i,(RC o.H i\/∃g,o.s i=some g)->f i=some i:=by
    rintro i (hi|⟨g',hi⟩)
    ·exact hold i (vC hi)
    ·exact hold i (R.ob i g' hi)
   exact⟨B,q,by rw[q3,<-q2];exact k1,k2,Gk G (zm4 hlt m3) k3⟩
  ·exact⟨B2,q,k4,k2,k5.2 _ _ _ _ _ G _ k3⟩
 ·intro j j' g hj hj'
  obtain⟨b,h1,h2⟩:=(hs2 j g).1 hj
  obtain⟨b',h3,h4⟩:=(hs2 j' g).1 hj'
  have:=R.hr.inj b b' g h2 h4
  subst this
  rw[h1] at h3
  injection h3
 ·obtain⟨q1,q2⟩:=R.gk.2 g cs hc
  exact⟨hPr g q1,q2⟩
 ·have E:=R.ext
  refine⟨E.os,E.tape,E.output,E.size,hn,fun b hd=>?_,fun b g hb=>?_,fun g hg hb=>E.frame g hg fun b k=>Nat.lt_of_lt_of_le (hb b k) hlo,fun j g hj=>?_,E.shp,fun b h1 h2=>?_,fun j h1 h2=>?_⟩
  ·have hlt:=vC hd
   exact hD b b (hold b hlt) (E.dd b hd)
  ·have hlt:=R.ob b g hb
   rcases E.ss b g hb with h1|⟨h1,h2⟩
   ·exact .inl ((hs2 b g).2 ⟨b,hold b hlt,h1⟩)
   ·exact .inr ⟨hD b b (hold b hlt) h1,by omega⟩
  ·obtain⟨b,h1,h2⟩:=(hs2 j g).1 hj
   rcases E.fresh b g h2 with h3|⟨h3,h4⟩
   ·have:=hold b (R.ob b g h3)
    rw[h1] at this
    injection this with this
    subst this
    exact .inl h3
   ·refine .inr ⟨hnew b j h1 h3,h4.imp id fun⟨b0,k1,k2⟩=>⟨b0,by omega,k2⟩⟩
  ·exact hsame b h1 h2
  ·rcases hsur j h1 h2 with h0|⟨b,h3,h4⟩
   ·exact .inl h0
   have h5:o.H.n<=b:=by
    rcases RA b o.H.n with h6|h6
    ·rw[hold b h6] at h3
     injection h3 with h3
     omega
    ·exact h6
   rcases E.cov b h5 h4 with h6|⟨g,h6⟩
   ·exact .inl (hD b j h3 h6)
   ·exact .inr ⟨g,(hs2 j g).2 ⟨b,h3,h6⟩⟩
 ·obtain⟨rs,q1,q2,q3⟩:=R.df
  refine⟨rs,q1,q2,fun r hr=>?_⟩
  obtain⟨k1,k2,k3⟩:=q3 r hr
  exact⟨k1,hPr r k2,k3⟩
 ·have hrd:=R.rd
  cases ro with
  | none=>cases wro<;>exact hrd
  | some b=>
   cases wro with
   | none=>exact hrd
   | some l=>
    have hb:=hro b rfl
    rcases hrd with h1|h1
    ·exact .inl (hD b b (hold b hb) h1)
    ·exact .inr ((hs2 b l).2 ⟨b,hold b hb,h1⟩)
theorem Sub.moves2{C:Ctx}{nt:Nat}{ro:Option Nat}{H0:Heap}{T:Tr V}{H':Heap}{lo':Nat}(H:Heap)(ks:List Nat)(Bs:List Blk)(lo:Nat)(l:List (Nat×V))(hg:Grn H0 H)(hks:ks.Nodup)(hkn:∀k∈ks,H.n<=k/\k<H'.n)(hlen:Bs.length=ks.length)(hn:H.n<=H'.n)(he:∀b,b<H.n->H'.get b=H.get b)
  (hB:∀(i k:Nat) (B:Blk),ks[i]?=some k->Bs[i]?=some B->∃B',H'.get k=some B'/\RNb (RK H.n ks) (fun b=>H.n<=b/\b ∉ ks) H' B' B)
  (hlo:H0.n<=lo') (hlo2:H0.n<=lo) (hlo3:lo<=lo') (hold:∀b,b<H0.n->H.get b=H0.get b) (hro:∀b,ro=some b->b<H0.n)
  (hl:∀p∈l,RN (RK H.n ks) (fun b=>H.n<=b/\b ∉ ks) H' (PD T p.1) p.2):Sub C nt ro H0 ⟨T,H',lo'⟩ ⟨jH l,Heap.pushes H Bs,lo⟩:=by
 have hn0:=hg.n
 have hf:∀b j,RK H.n ks b=some j↔(b<H.n/\j=b)\/(H.n<=j/\ks[j-H.n]?=some b):=by
  intro b j
  unfold RK
  by_cases e:b<H.n
  ·rw[if_pos e]
   constructor
   ·intro h;injection h with h;exact .inl ⟨e,h.symm⟩
   ·rintro(⟨_,rfl⟩|⟨h1,h2⟩)
    ·rfl
    ·have:=(hkn b (IA h2)).1;omega
  ·rw[if_neg e,BA]
   constructor
   ·rintro⟨i,hi,rfl⟩
    exact .inr ⟨by omega,by rw[Nat.add_sub_cancel_left];exact(j2 ks b i hks).1 hi⟩
   ·rintro(⟨h1,_⟩|⟨h1,h2⟩)
    ·exact absurd h1 e
    ·exact⟨j-H.n,(j2 ks b _ hks).2 h2,by omega⟩
 have hgm:∀b j,A5 H.n ks j=some b↔(j<H.n/\j=b)\/(H.n<=j/\ks[j-H.n]?=some b):=by
  intro b j
  unfold A5
  by_cases e:j<H.n
  ·rw[if_pos e]
   constructor
   ·intro h;injection h with h;exact .inl ⟨e,h⟩
   ·rintro(⟨_,rfl⟩|⟨h1,h2⟩)
    ·rfl
    ·omega
  ·rw[if_neg e]
   constructor
   ·intro h;exact .inr ⟨by omega,h⟩
   ·rintro(⟨h1,_⟩|⟨h1,h2⟩)
    ·exact absurd h1 e
    ·exact h2
 have okf:∀b,b<H.n->RK H.n ks b=some b:=fun b h=>(hf b b).2 (.inl ⟨h,rfl⟩)
 refine Sub.ren2 (RK H.n ks) (A5 H.n ks) (fun b=>H.n<=b/\b ∉ ks) ?_ ?_ ?_ ?_ ?_ ?_ (by simp only[p7];omega) hro (Dg l hl) hlo3 fun b _ h=>by simp only;rw[T1 _ _ _ (by omega)];exact hold b h
 ·intro b j
  rw[hf,hgm]
  constructor
  ·rintro(⟨h,rfl⟩|h)
   ·exact .inl ⟨h,rfl⟩
   ·exact .inr h
  ·rintro(⟨h,rfl⟩|h)
   ·exact .inl ⟨h,rfl⟩
   ·exact .inr h
 ·intro b h;exact okf b (by omega)
 ·intro b j h hb
  rcases (hf b j).1 h with⟨h1,rfl⟩|⟨h1,h2⟩<;>omega
 ·intro j h1 h2
  right
  simp only[p7] at h2
  rcases RA j H.n with h3|h3
  ·exact⟨j,okf j h3,by simp only;omega⟩
  ·have h4:j-H.n<ks.length:=by omega
   refine⟨ks[j-H.n],(hf _ _).2 (.inr ⟨h3,sA h4⟩),(hkn _ (fG h4)).2⟩
 ·intro b j B h hBb
  simp only at hBb ⊢
  rcases (hf b j).1 h with⟨h1,rfl⟩|⟨h1,h2⟩
  ·rw[T1 _ _ _ h1]
   rcases hg.blk j h1 with⟨h2,h3⟩|⟨B',h2,h3⟩
   ·exact .inl ⟨h2,.inr (by omega),h3⟩
   ·right
    rw[he j h1,h2] at hBb
    injection hBb with hBb
    subst hBb
    refine⟨B',h2,?_⟩
    have h4:uS (pI H.n) (fun b=>H.n<=b/\b ∉ ks) H' B' B':=xj h3
    refine RNb.of (zm6 (fun b j hb=>by
     unfold pI at hb
     split at hb
     ·injection hb with hb;subst hb;exact okf _ ‹_›
     ·cases hb) h4)
  ·right
   have h4:j-H.n<Bs.length:=by rw[hlen];exact(rA.1 h2).1
   obtain⟨B',h5,h6⟩:=hB (j-H.n) b Bs[j-H.n] h2 (sA h4)
   rw[h5] at hBb
   injection hBb with hBb
   subst hBb
   refine⟨Bs[j-H.n],?_,h6⟩
   have:=zgJ Bs H (j-H.n) _ (sA h4)
   rw[show H.n+(j-H.n)=j by omega] at this
   exact this
 ·rintro b ⟨h,h2⟩
  refine⟨by omega,?_,hlo⟩
  cases e:RK H.n ks b with
  | none=>rfl
  | some j=>
   rcases (hf b j).1 e with⟨h3,_⟩|⟨_,h3⟩
   ·omega
   ·exact absurd (IA h3) h2
end Go.Tw
namespace Go.Proofs.YtookdinfaoelaaaGreatDoor
section
open Go Go.Tw
open Classical
def z8(v:GV):Bool:=
 decide (0<=v.kind)&&decide (v.kind<=6)&&(decide (v.kind=3)||decide (v.num=0))&&(decide (v.kind=4)||decide (v.text=.empty))&&(decide (5<=v.kind)||decide (v.list.length=0))&&(decide (v.kind=6)||decide (v.keys.length=0))&&(decide (v.kind≠6)||decide (v.keys.length=v.list.length))&&yL v.text
def rX:Option ByteArray->List ByteArray->Bool
 | _,[]=>true
 | none,k::ks=>pL k&&rX (some k) ks
 | some p,k::ks=>pL k&&D8 p k&&rX (some k) ks
def x8(ks:List ByteArray):Bool:=rX none ks
mutual
def nJ:GV->Int->Bool
 | .mk k n t l ks,d=>decide (1<=d)&&z8 (.mk k n t l ks)&&x8 ks&&Wj l (d-1)
def Wj:List GV->Int->Bool
 | [],_=>true
 | v::vs,d=>nJ v d&&Wj vs d
end
theorem zhd(d:Int):∀l:List GV,Wj l d=l.all fun v=>nJ v d
 | []=>rfl
 | v::vs=>by rw[Wj,CD,zhd d vs]
theorem vf(v:GV)(d:Int):nJ v d=(decide (1<=d)&&z8 v&&x8 v.keys&&v.list.all fun x=>nJ x (d-1)):=by
 cases v with
 | mk k n t l ks=>rw[nJ,zhd];rfl
@[go_sem] theorem oh(k:Int):fL fA 36 [(0,vA k)]=some (.agg [vA k,vA 0,gE .empty,.lit (.slice none 0 0),.lit (.slice none 0 0)]):=by kernel_rfl
@[go_sem] theorem spl_zV(a b c d e:V):zD zV 0 [a,b,c,d,e]=some [a,b,c,d,e]:=rfl
@[go_sem] theorem spl5_1(a b c d e x:V):zD [a,b,c,d,e] 1 [x]=some [a,x,c,d,e]:=rfl
@[go_sem] theorem spl5_2(a b c d e x:V):zD [a,b,c,d,e] 2 [x]=some [a,b,x,d,e]:=rfl
@[go_sem] theorem spl5_3(a b c d e x:V):zD [a,b,c,d,e] 3 [x]=some [a,b,c,x,e]:=rfl
@[go_sem] theorem spl5_4(a b c d e x:V):zD [a,b,c,d,e] 4 [x]=some [a,b,c,d,x]:=rfl
theorem zij(p:Option ByteArray)(l:List ByteArray):rX p l=match l with
 | []=>true
 | k::ks=>pL k&&(match p with|none=>true|some p=>D8 p k)&&rX (some k) ks:=by
 cases l<;>cases p<;>simp[rX]
def DL(l:List ByteArray)(i:Nat):Bool:=rX (if i=0 then none else l[i-1]?) (l.drop i)
theorem zjr{l:List ByteArray}{i:Nat}(h:l.length<=i):DL l i=true:=by
 rw[DL,uC h,zij]
theorem qj{l:List ByteArray}{k:ByteArray}(h:l[0]?=some k):DL l 0=(pL k&&DL l 1):=by
 cases l with
 | nil=>simp at h
 | cons a l=>
  simp only[List.getElem?_cons_zero,Option.some.injEq] at h
  subst h
  simp[DL,rX]
theorem zfF{l:List ByteArray}{i:Nat}{p k:ByteArray}(hp:l[i]?=some p)(h:l[i+1]?=some k):DL l (i+1)=(pL k&&D8 p k&&DL l (i+2)):=by
 obtain⟨hi,rfl⟩:=rA.1 h
 simp only[DL,Nat.add_sub_cancel,if_neg (Nat.succ_ne_zero i),hp,show i+2-1=i+1 from rfl,if_neg (Nat.succ_ne_zero (i+1))]
 rw[DB hi,zij]
 simp only[sA hi]
theorem zik{l:List ByteArray}{i:Nat}{p k:ByteArray}(hi:0<i)(hp:l[i-1]?=some p)(h:l[i]?=some k):DL l i=(pL k&&D8 p k&&DL l (i+1)):=by
 obtain⟨j,rfl⟩:∃j,i=j+1:=⟨i-1,by omega⟩
 exact zfF hp h
@[go_sem] theorem r9(w:Bool)(A B:Prop)(h:Hid (A,B)):GD EH w A B h=B:=rfl
theorem Lb(x:GV)(b:Nat)(d:Int)(hd:1<=d/\d<=9223372036854775807)(H:Heap)(hb:H.get b=some (.cells [vA d] 3))(hrec:∀(H:Heap) (Q:OR->Prop),Q ⟨.lit (.bool (nJ x (d-1))),H,H.n⟩->MCall Cx 72 [.agg (zR x),vA (d-1)] H Q)(Q:OR->Prop)(hQ:Q ⟨.lit (.bool (!nJ x (d-1))),H,H.n⟩):
  MCall Cx 102 [.agg (zR x),.ptr b 0] H Q:=by
 refine QA zm (fn:=Tryz.f102) Tryz.func102 rfl (by decide) (k:=9) rfl (rs:=[.tmp 3]) rfl ?_
 simp -dsimp only[go_sem,bA,aA,cA,reduceCtorEq]
 have hbn:=zq hb
 have e:IntKind.i64.wrap (d-1)=d-1:=zw (by omega) (by omega)
 simp -dsimp only[go_sem,bA,aA,cA,reduceCtorEq,hb,Nat.ne_of_lt hbn,if_false,e]
 refine MV.fn ?_
 simp -dsimp only[go_sem,bA,aA,cA,reduceCtorEq]
 refine hrec _ _ ?_
 simp -dsimp only[go_sem,bA,aA,cA,reduceCtorEq,gA]
 exact AA (by omega) rfl hQ
theorem Jf{v:GV}{d:Int}(h:z8 v=false\/DL v.keys 0=false):nJ v d=false:=by
 rw[vf]
 rcases h with h|h
 ·rw[h];simp
 ·have:x8 v.keys=false:=h
  rw[this];simp
@[go_sem] theorem tL(a:V):([a].length=1)=True:=by simp
@[go_sem] theorem one5(a b c d e:V):([a,b,c,d,e].length=5)=True:=by simp
attribute [go_sem] CD List.all_nil V.one Int.reduceEq Int.reduceLT Int.reduceLE
structure Bare(v:GV)(kc n:Int)(t:ByteArray)(l k:V)(ln kn:Nat):Prop where
 kd:v.kind=kc
 ok:z8 v=(decide (v.num=n)&&(decide (v.text=t)&&(decide (v.keys.length=kn)&&(decide (v.list.length=ln)&&yL v.text))))
 l:l=.lit (.slice none 0 0)/\ln=0\/l=NB zR v.list/\ln=v.list.length
 k:k=.lit (.slice none 0 0)/\kn=0\/k=NB RH v.keys/\kn=v.keys.length
theorem Bare.lenl{v:GV}{kc n:Int}{t:ByteArray}{l k:V}{ln kn:Nat}(h:Bare v kc n t l k ln kn)(H:Heap):qH fA H 33 l=some (vA ln):=by
 rcases h.l with⟨rfl,rfl⟩|⟨rfl,rfl⟩<;>simp -dsimp only[go_sem]
theorem Bare.lenk{v:GV}{kc n:Int}{t:ByteArray}{l k:V}{ln kn:Nat}(h:Bare v kc n t l k ln kn)(H:Heap):qH fA H 34 k=some (vA kn):=by
 rcases h.k with⟨rfl,rfl⟩|⟨rfl,rfl⟩<;>simp -dsimp only[go_sem]
noncomputable def d9:List V->Heap->Option OR:=by
 classical
 exact GK (fun p:GV×Int=>match p with|(v,d)=>[.agg (zR v),vA d]) fun p H=>match p with|(v,d)=>if v.wf/\d<=9223372036854775807 then some ⟨.lit (.bool (nJ v d)),H,H.n⟩ else none
theorem Wc(v:GV)(d:Int)(hp:v.wf/\d<=9223372036854775807)(H:Heap)(Q:OR->Prop)(hQ:Q ⟨.lit (.bool (nJ v d)),H,H.n⟩):MCall Cx 72 [.agg (zR v),vA d] H Q:=by
 have hrec:∀x∈v.list,1<=d->∀(H:Heap) (Q:OR->Prop),Q ⟨.lit (.bool (nJ x (d-1))),H,H.n⟩->MCall Cx 72 [.agg (zR x),vA (d-1)] H Q:=fun x hx h1 H Q hQ=>Wc x (d-1) ⟨GV.wf_mem hp.1 x hx,by omega⟩ H Q hQ
 refine MCall.ofW (fn:=Tryz.f72) Tryz.func72 rfl (by decide) (k:=113) rfl (rs:=[.tmp 4]) rfl ?_
 obtain⟨hw,hd⟩:=hp
 have no:nJ v d=false->Q ⟨.lit (.bool false),H,H.n⟩:=fun h=>by rwa [h] at hQ
 refine PA zm ?_
 simp -dsimp only[go_sem,bA,aA,cA,reduceCtorEq,gA]
 refine PA zm ?_
 simp -dsimp only[go_sem,bA,aA,reduceCtorEq]
 refine aB (fun h1=>?_) (fun h1=>?_)<;>simp -dsimp only[go_sem,bA,aA,cA,reduceCtorEq,h1]
 ·exact AA (by omega) rfl (no (by rw[vf,decide_eq_false (by omega)];rfl))
 refine PA zm ?_
 simp -dsimp only[go_sem,bA,aA,cA,reduceCtorEq]
 (refine WW.rest [(2,.ptr H.n 0),(3,.ptr (H.n+1) 0),(5,.ptr (H.n+2) 0)] (((H.push (.cells (zR v) 36)).push (.cells [vA d] 3)).push (.cells [vA v.kind,vA 0,gE .empty,.lit (.slice none 0 0),.lit (.slice none 0 0)] 36)) H.n ?_ ?_ ?_ ?_ ?_ ?_ ?_ ?_ ?_ ?_ ?_;(focus (simp -dsimp only[go_sem,aA,reduceCtorEq,OA,JA,false_implies,implies_true]<;>(try simp (disch:=omega) only[zw,xJ,vK,AK])<;>(try simp)<;>(try omega)));(focus (simp[V.ok,iA]<;>(try omega)));(focus (repeat (first|exact Grn.refl|refine Grn.push ?_ (by(focus (simp[Blk.ok,V.ok,nI,NR]<;>(try omega))))|refine Grn.set ?_ (by simp only[iA,kA];omega) (by(focus (simp[Blk.ok,V.ok,nI,UU,zO TL,zO zz,zO zK,zO KO,zO (e:=zW) (fun _=>rfl),NR,MR,fX,eX,JO,gX,iX,lX,iA,kA]<;>(try omega)))))));(focus ((try dsimp only)<;>(try simp only[iA,kA])<;>omega));(focus ((try dsimp only)<;>(focus (intro b hb;(try simp only[yA,Heap.get_set,iA] at hb ⊢)<;>(try (repeat' split))<;>first|rfl|omega|(exfalso;omega)))));(focus ((try dsimp only)<;>(try simp only[iA,kA])<;>omega));(focus ((try dsimp only)<;>(try simp only[iA,kA])<;>omega));(focus ((try dsimp only)<;>(try simp only[iA,kA])<;>omega));(focus ((try dsimp only)<;>(focus (intro b hb;(try simp only[yA,iA] at hb ⊢)<;>(try (repeat' split))<;>first|rfl|omega|(exfalso;omega)))));(intro b e;cases e))
 refine WW.cut zm (ι:=Int×Int×ByteArray×V×V×Nat×Nat) (fun _=>[(2,.ptr H.n 0),(3,.ptr (H.n+1) 0),(5,.ptr (H.n+2) 0)]) (fun p=>(((H.push (.cells (zR v) 36)).push (.cells [vA d] 3)).push (.cells [vA p.1,vA p.2.1,gE p.2.2.1,p.2.2.2.1,p.2.2.2.2.1] 36))) (fun _=>H.n) (fun p=>Bare v p.1 p.2.1 p.2.2.1 p.2.2.2.1 p.2.2.2.2.1 p.2.2.2.2.2.1 p.2.2.2.2.2.2) ?_ ?_
 ·by_cases k6:v.kind=6
  ·simp -dsimp only[go_sem,bA,aA,cA,reduceCtorEq,k6,zf,zh]
   refine aB (fun h2=>?_) (fun h2=>?_)<;>simp -dsimp only[go_sem,bA,aA,cA,reduceCtorEq,k6,h2]
   ·exact AA (by omega) rfl (no (Jf (.inl (by simp[z8,k6];intros;omega))))
   ·refine zAb (some (6,0,.empty,NB zR v.list,NB RH v.keys,v.list.length,v.keys.length)) ?_
    have h2':v.keys.length=v.list.length:=by simpa[Int.ofNat_inj] using h2
    exact⟨k6,by rw[YB];simp[z8,k6,h2',and_assoc],.inr ⟨rfl,rfl⟩,.inr ⟨rfl,rfl⟩⟩
  by_cases k5:v.kind=5
  ·simp -dsimp only[go_sem,bA,aA,cA,reduceCtorEq,k5,zf,zh]
   refine zAb (some (5,0,.empty,NB zR v.list,.lit (.slice none 0 0),v.list.length,0)) ?_
   exact⟨k5,by rw[YB];simp[z8,k5,and_assoc,and_comm,and_left_comm],.inr ⟨rfl,rfl⟩,.inl ⟨rfl,rfl⟩⟩
  by_cases k4:v.kind=4
  ·simp -dsimp only[go_sem,bA,aA,cA,reduceCtorEq,k4,zf,zh]
   refine zAb (some (4,0,v.text,.lit (.slice none 0 0),.lit (.slice none 0 0),0,0)) ?_
   exact⟨k4,by rw[YB];simp[z8,k4,and_assoc,and_comm,and_left_comm],.inl ⟨rfl,rfl⟩,.inl ⟨rfl,rfl⟩⟩
  by_cases k3:v.kind=3
  ·simp -dsimp only[go_sem,bA,aA,cA,reduceCtorEq,k3,zf,zh]
   refine zAb (some (3,v.num,.empty,.lit (.slice none 0 0),.lit (.slice none 0 0),0,0)) ?_
   exact⟨k3,by rw[YB];simp[z8,k3,and_assoc,and_comm,and_left_comm],.inl ⟨rfl,rfl⟩,.inl ⟨rfl,rfl⟩⟩
  by_cases k2:v.kind=2
  ·simp -dsimp only[go_sem,bA,aA,cA,reduceCtorEq,k2,zf,zh]
   refine zAb (some (2,0,.empty,.lit (.slice none 0 0),.lit (.slice none 0 0),0,0)) ?_
   exact⟨k2,by rw[YB];simp[z8,k2,and_assoc,and_comm,and_left_comm],.inl ⟨rfl,rfl⟩,.inl ⟨rfl,rfl⟩⟩
  by_cases k1:v.kind=1
  ·simp -dsimp only[go_sem,bA,aA,cA,reduceCtorEq,k1,zf,zh]
   refine zAb (some (1,0,.empty,.lit (.slice none 0 0),.lit (.slice none 0 0),0,0)) ?_
   exact⟨k1,by rw[YB];simp[z8,k1,and_assoc,and_comm,and_left_comm],.inl ⟨rfl,rfl⟩,.inl ⟨rfl,rfl⟩⟩
  by_cases k0:v.kind=0
  ·simp -dsimp only[go_sem,bA,aA,cA,reduceCtorEq,k0,zf,zh]
   refine zAb (some (0,0,.empty,.lit (.slice none 0 0),.lit (.slice none 0 0),0,0)) ?_
   exact⟨k0,by rw[YB];simp[z8,k0,and_assoc,and_comm,and_left_comm],.inl ⟨rfl,rfl⟩,.inl ⟨rfl,rfl⟩⟩
  simp -dsimp only[go_sem,bA,aA,cA,reduceCtorEq,k0,k1,k2,k3,k4,k5,k6,zf,zh]
  exact AA (by omega) rfl (no (Jf (.inl (by simp[z8];intros;omega))))
 ·rintro⟨kc,n,t,l,k,ln,kn⟩ hb
  simp only at hb ⊢
  have hl:=hb.lenl
  have hk:=hb.lenk
  have hbo:=hb.ok
  refine PA zm ?_
  simp -dsimp only[go_sem,bA,aA,cA,reduceCtorEq,zf,zh]
  have nof:∀{p:Prop},p->(p->z8 v=false)->Q ⟨.lit (.bool false),H,H.n⟩:=fun h1 h2=>no (Jf (.inl (h2 h1)))
  refine AB (fun h1=>?_) (fun h1=>?_)<;>simp -dsimp only[go_sem,bA,aA,cA,reduceCtorEq,h1]
  ·exact AA (by omega) rfl (nof h1 fun h=>by rw[hbo,decide_eq_false h];rfl)
  refine AB (fun h2=>?_) (fun h2=>?_)<;>simp -dsimp only[go_sem,bA,aA,cA,reduceCtorEq,h1,h2,hk,Int.ofNat_inj]
  ·exact AA (by omega) rfl (nof h2 fun h=>by rw[hbo,decide_eq_false h,kD,QB])
  refine AB (fun h3=>?_) (fun h3=>?_)<;>simp -dsimp only[go_sem,bA,aA,cA,reduceCtorEq,h1,h2,h3,hl,Int.ofNat_inj]
  ·exact AA (by omega) rfl (nof h3 fun h=>by rw[hbo,decide_eq_false h,kD,QB,QB])
  refine AB (fun h4=>?_) (fun h4=>?_)<;>simp -dsimp only[go_sem,bA,aA,cA,reduceCtorEq,h1,h2,h3,h4]
  ·exact AA (by omega) rfl (nof h4 fun h=>by rw[hbo,decide_eq_false h,kD,QB,QB,QB])
  refine MV.tab _ ((CA (JW) xA)) ?_
  simp -dsimp only[go_sem,bA,aA,cA,Ta _ (GV.wf_text hw),h1,h2,h3,h4]
  refine BR.nspl (fun h5=>?_) (fun h5=>?_)<;>simp -dsimp only[go_sem,bA,aA,cA,h5]
  ·exact AA (by omega) rfl (no (Jf (.inl (by rw[hbo,h5,QB,QB,QB,QB]))))
  have hf:z8 v=true:=by
   rw[hbo,h5]
   simp only[not_not] at h1 h2 h3 h4
   simp[h1,h2,h3,h4]
  (refine WW.rest [(2,.ptr H.n 0),(3,.ptr (H.n+1) 0)] ((H.push (.cells (zR v) 36)).push (.cells [vA d] 3)) H.n ?_ ?_ ?_ ?_ ?_ ?_ ?_ ?_ ?_ ?_ ?_;(focus (simp -dsimp only[go_sem,aA,OA,JA,false_implies,implies_true]<;>(try simp (disch:=omega) only[zw,xJ,vK,AK])<;>(try simp)<;>(try omega)));(focus (simp[V.ok,iA]<;>(try omega)));(focus (repeat (first|exact Grn.refl|refine Grn.push ?_ (by(focus (simp[Blk.ok,V.ok,nI,NR]<;>(try omega))))|refine Grn.set ?_ (by simp only[iA,kA];omega) (by(focus (simp[Blk.ok,V.ok,nI,UU,zO TL,zO zz,zO zK,zO KO,zO (e:=zW) (fun _=>rfl),NR,MR,fX,eX,JO,gX,iX,lX,iA,kA]<;>(try omega)))))));(focus ((try dsimp only)<;>(try simp only[iA])<;>omega));(focus ((try dsimp only)<;>(focus (intro b hb;(try simp only[yA,iA] at hb ⊢)<;>(try (repeat' split))<;>first|rfl|omega|(exfalso;omega)))));(focus ((try dsimp only)<;>(try simp only[iA,kA])<;>omega));(focus ((try dsimp only)<;>(try simp only[iA,kA])<;>omega));(focus ((try dsimp only)<;>(try simp only[iA,kA])<;>omega));(focus ((try dsimp only)<;>(focus (intro b hb;(try simp only[yA,iA] at hb ⊢)<;>(try (repeat' split))<;>first|rfl|omega|(exfalso;omega)))));(intro b e;cases e))
  refine PA zm ?_
  simp -dsimp only[go_sem,bA,aA,cA,reduceCtorEq,zf,zh]
  have noK:DL v.keys 0=false->Q ⟨.lit (.bool false),H,H.n⟩:=fun h=>no (Jf (.inr h))
  refine sC zm (fun i:Nat=>[(2,.ptr H.n 0),(3,.ptr (H.n+1) 0),(83,NB RH v.keys),(84,vA v.keys.length),(85,vA i)]) (fun i=>i<=v.keys.length/\DL v.keys i=DL v.keys 0) (fun i=>v.keys.length-i) 0 ⟨by omega,rfl⟩ zSl ?_
  rintro i ⟨hi,hz⟩
  have hlk:=GV.wf_keys hw
  simp -dsimp only[go_sem,bA,aA,zf,zh]
  refine aB (fun g1=>?_) (fun g1=>?_)<;>simp -dsimp only[go_sem,bA,aA,cA,g1]
  ·obtain⟨x,hx⟩:=zu g1
   simp -dsimp only[go_sem,bA,aA,g1,z7 zC hx]
   refine MV.tab _ ((CA (IZ) xA)) ?_
   simp -dsimp only[go_sem,bA,aA,cA,Oa _ (GV.wf_key hw x (IA hx)),g1,z7 zC hx]
   cases g2:pL x<;>simp -dsimp only[go_sem,bA,aA,cA,g1,z7 zC hx]
   ·refine AA (by omega) rfl (noK ?_)
    rw[<-hz]
    cases i with
    | zero=>rw[qj hx,g2];rfl
    | succ i=>
     obtain⟨y,hy⟩:=zu (l:=v.keys) (i:=i) (by omega)
     rw[zfF hy hx,g2];rfl
   refine AB (fun g3=>?_) (fun g3=>?_)
   ·have hi0:0<i:=by omega
    obtain⟨y,hy⟩:=zu (l:=v.keys) (i:=i-1) (by omega)
    have e:IntKind.i64.wrap ((i:Int)-1)=((i-1:Nat):Int):=by rw[zw (by omega) (by omega)];omega
    have hil:i-1<v.keys.length:=by omega
    rw[zik hi0 hy hx,g2,MC] at hz
    simp -dsimp only[go_sem,bA,aA,reduceCtorEq,g1,g3,e,hil,z7 zC hx,z7 zC hy]
    refine BR.nspl (fun g4=>?_) (fun g4=>?_)<;>simp -dsimp only[go_sem,bA,aA,cA,g4]
    ·exact AA (by omega) rfl (noK (by rw[<-hz,g4];rfl))
    ·refine zAg (i+1) ?_
     exact⟨by omega,by rw[<-hz,g4,MC]⟩
   ·simp -dsimp only[go_sem,bA,aA,cA,g1,g3,z7 zC hx]
    obtain rfl:i=0:=by omega
    refine zAg 1 ?_
    exact⟨by omega,by rw[<-hz,qj hx,g2,MC]⟩
  ·rw[zjr (by omega)] at hz
   refine WW.vc zm ?_
   simp -dsimp only[go_sem,bA,aA,reduceCtorEq]
   refine MV.fn ?_
   simp -dsimp only[go_sem,bA,aA]
   refine Kb v.list _ (fun x=>!nJ x (d-1)) (GV.wf_list hw) _ (fun x hx Q hQ=>MVal.fn (Lb x (H.n+1) d ⟨by omega,hd⟩ _ (by simp -dsimp only[go_sem,reduceCtorEq]) (hrec x hx (by omega)) _ hQ)) _ ?_
   simp -dsimp only[go_sem,bA,aA,cA]
   refine AA (by omega) rfl ?_
   have:nJ v d=!(v.list.any fun x=>!nJ x (d-1)):=by
    rw[vf,hf,decide_eq_true (p:=1<=d) (by omega),show x8 v.keys=true from hz.symm]
    simp only[MC,List.any_eq_not_all_not,Bool.not_not]
   rw[this] at hQ
   exact hQ
termination_by SizeOf.sizeOf v
decreasing_by exact GV.size_mem hx
theorem Jd:CI Cx 72 d9:=kL fun p H r hr=>by
 obtain⟨v,d⟩:=p
 simp only at hr
 split at hr
 ·rename_i hp
  injection hr with hr
  subst hr
  exact Wc v d hp H _ rfl
 ·cases hr
theorem e_72(v:GV)(d:Int)(hp:v.wf/\d<=9223372036854775807)(H:Heap):d9 [.agg (zR v),vA d] H=some ⟨.lit (.bool (nJ v d)),H,H.n⟩:=by
 refine(lL (by simp+contextual [kj]) (v,d) H).trans ?_
 exact if_pos hp
end
end Go.Proofs.YtookdinfaoelaaaGreatDoor
namespace Go.Tw
section
@[go_sem] theorem Ah:(mG .none=true)=True:=by simp[mG]
@[go_sem] theorem cm_al:(mG .al=true)=True:=by simp[mG]
@[go_sem] theorem cm_rd(b:Nat):(mG (.rd b)=true)=True:=by simp[mG]
@[go_sem] theorem cm_sr:(mG .sr=true)=True:=by simp[mG]
@[go_sem] theorem cm_ca:(mG .ca=true)=True:=by simp[mG]
@[go_sem] theorem Ha(a b:Nat):(oI (.rd a) (.wr b)=false)=¬(a=b):=by
 show(kB a b=false)=_
 by_cases e:a=b
 ·rw[BJ e];simp[e]
 ·rw[bN e];simp[e]
@[go_sem] theorem Aa(b:Nat):oI .al (.wr b)=false:=rfl
@[go_sem] theorem Ia(b:Nat):oI (.wr b) .al=false:=rfl
attribute [go_sem] not_false_eq_true
def JN(ops:Array Oper)(k:Nat):Bool:=
 (CB ops.size).all fun j=>match ops[j]? with
  | none=>false
  | some o=>(o.after.all fun e=>!LC .any e||mD e.on j)&&(match o.guard with|none=>true|some (g,_)=>mD g j)&&(mD j k||(CB j).all fun i=>HM ops j i)
structure cP(ops:Array Oper)(k:Nat):Prop where
 back:∀j x,ops[j]?=some x->∀e∈x.after,LC .any e=true->e.on<j
 guard:∀j (x:Oper) g b,ops[j]?=some x->x.guard=some (g,b)->g<j
 bar:∀j i,k<=j->j<ops.size->i<j->HM ops j i=true
theorem DP{ops:Array Oper}{k:Nat}(h:JN ops k=true):cP ops k:=by
 unfold JN at h
 rw[gB] at h
 have key:∀j x,ops[j]?=some x->((∀e∈x.after,LC .any e=true->e.on<j)/\(∀g b,x.guard=some (g,b)->g<j)/\(k<=j->∀i,i<j->HM ops j i=true)):=by
  intro j x hx
  have hj:=(LA.1 hx).1
  have:=h j (yD.2 hj)
  rw[hx] at this
  simp only[wA,Array.all_eq_true_iff_forall_mem,IC,oC,AD,gB,yD] at this
  obtain⟨⟨h1,h2⟩,h3⟩:=this
  refine⟨fun e he hb=>?_,fun g b hg=>?_,fun hk i hi=>?_⟩
  ·rcases h1 e he with h|h
   ·rw[hb] at h;cases h
   ·exact h
  ·rw[hg] at h2
   simpa[AD] using h2
  ·rcases h3 with h|h
   ·omega
   ·exact h i hi
 refine⟨fun j x hx=>(key j x hx).1,fun j x g b hx=>(key j x hx).2.1 g b,fun j i hk hj hi=>?_⟩
 exact(key j ops[j] (by simp[hj])).2.2 hk i hi
section
variable {F:Fence} {n:Nat} {P:Program} {ops:Array Oper} {Q:Exit->Act->World->Prop} {R:Act->World->Prop}
def NM(R:Act->World->Prop)(Q:Exit->Act->World->Prop)(x:Exit)(a:Act)(w:World):Prop:=
 match x with
 | .normal=>R a w
 | x=>Q x a w
theorem zjS{o:Oper}{a:Act}{w:World}{K K':Act->World->Prop}(h:∀a w,K a w->K' a w)
  (hh:o.wpIn F n P a w K (NM R Q)):o.wpIn F n P a w K' Q:=by
 unfold Oper.wpIn at *
 refine⟨hh.1,?_⟩
 have hh:=hh.2
 generalize (o.semAt F.round a.eval).run P w=r at *
 cases r with
 | ok x w'=>
  cases x<;>simp only[Oper.uponIn] at hh ⊢<;>
   first
    | exact h _ _ hh
    | exact⟨hh.1,CallsIn.mono hh.2 (fun e w'' he=>by cases e<;>first|exact h _ _ he|exact he)⟩
    | exact⟨hh.1,RowsIn.mono hh.2 (fun _ _ he=>h _ _ he)⟩
    | exact⟨hh.1,RoundIn.mono hh.2 (fun e w'' he=>by cases e<;>first|exact h _ _ he|exact he)⟩
    | exact hh
 | halt x w'=>cases x<;>simp only[Oper.uponIn] at hh ⊢<;>exact hh
def Upto(ops:Array Oper)(listed:Array Bool)(j:Nat):Prop:=listed.size=ops.size/\∀i,i<ops.size->listed.getD i false=decide (i<j)
theorem HK{listed:Array Bool}{j:Nat}(h:j<listed.size):listed.getD j true=listed.getD j false:=by simp[h]
theorem Upto.next{listed:Array Bool}{j:Nat}(h:Upto ops listed j)(hj:j<ops.size):Upto ops (listed.setIfInBounds j true) (j+1):=by
 obtain⟨h1,h2⟩:=h
 refine⟨by simp[h1],fun i hi=>?_⟩
 by_cases e:i=j
 ·subst e
  simp[ZD,h1,hi]
 ·have:=h2 i hi
  simp only[ZD,h1,hi,dif_pos] at this
  simp only[ZD,nE,h1,hi,dif_pos,ND,yE,Ne.symm e,if_false]
  simp only[ND] at this
  rw[this]
  simp only[decide_eq_decide]
  omega
theorem zpa{k:Nat}(hb:cP ops k):∀(d j fuel:Nat) (listed:Array Bool) (a:Act) (w:World),ops.size-j=d->k<=j->j<=ops.size->d<=fuel->Upto ops listed j->
  wpListIn F n P ops Q (ops.toList.drop j) a w->wpAnyIn F n P .any ops Q fuel listed a w:=by
 intro d
 induction d with
 | zero=>
  intro j fuel listed a w hd hk hj hf hl h
  obtain rfl:j=ops.size:=by omega
  have hr:aC .any ops listed=[]:=by
   apply List.eq_nil_iff_forall_not_mem.2
   intro i hi
   obtain⟨h1,o,h2,_⟩:=mem_ready.1 hi
   have hlt:=(LA.1 h2).1
   rw[HK (by rw[hl.1];exact hlt),hl.2 i hlt] at h1
   simp at h1
   omega
  have hq:Q .normal a w:=by
   rw[uC (by simp)] at h
   exact h
  cases fuel with
  | zero=>exact⟨hr,hq⟩
  | succ fuel=>exact⟨fun _=>hq,fun i hi=>by rw[hr] at hi;cases hi⟩
 | succ d ih=>
  intro j fuel listed a w hd hk hj hf hl h
  obtain⟨fuel,rfl⟩:∃m,fuel=m+1:=⟨fuel-1,by omega⟩
  have hlt:j<ops.size:=by omega
  have hx:ops[j]?=some ops[j]:=by simp[hlt]
  have hmem:j∈aC .any ops listed:=mem_ready.2 ⟨by rw[HK (by rw[hl.1];exact hlt),hl.2 j hlt];simp,ops[j],hx,fun e he hbd=>by
   have:=hb.back j _ hx e he hbd
   rw[hl.2 _ (by omega)]
   simp[this]⟩
  refine⟨fun hr=>(by rw[hr] at hmem;cases hmem),fun i hi=>?_⟩
  have hij:i=j:=by
   obtain⟨h1,o,h2,h3⟩:=mem_ready.1 hi
   have hlt2:=(LA.1 h2).1
   rw[HK (by rw[hl.1];exact hlt2),hl.2 i hlt2] at h1
   simp only[decide_eq_false_iff_not,Nat.not_lt] at h1
   rcases RA j i with g|g
   ·exfalso
    have:=yS (hb.bar i j (by omega) hlt2 g) hlt2 (S:=fun m=>m<j) (fun m x hm hx e he hbd=>by have:=hb.back m x hx e he hbd;omega) (fun x hx2 e he hbd=>by
     rw[h2] at hx2
     injection hx2 with hx2
     subst hx2
     have h4:=h3 e he hbd
     have:=hb.back i _ h2 e he hbd
     rw[hl.2 _ (by omega)] at h4
     simpa using h4)
    omega
   ·omega
  subst hij
  have hdr:ops.toList.drop i=ops[i]::ops.toList.drop (i+1):=by
   rw[DB (by simpa using hlt)]
   simp
  rw[hdr] at h
  unfold wpOpIn
  rw[hx]
  simp only[wpListIn] at h
  simp only
  split
  ·rename_i hw
   rw[if_pos hw] at h
   exact Oper.wpIn_mono (fun a w hh=>ih (i+1) fuel _ a w (by omega) (by omega) hlt (by omega) (hl.next hlt) hh) h
  ·rename_i hw
   rw[if_neg hw] at h
   exact⟨h.1,ih (i+1) fuel _ _ w (by omega) (by omega) hlt (by omega) (hl.next hlt) h.2⟩
theorem zps{k:Nat}(hb:cP ops k)(hk:k<=ops.size):∀(fuel1:Nat) (listed1 listed:Array Bool) (a:Act) (w:World),listed1.size=k->listed.size=ops.size->
  (∀i,i<ops.size->listed.getD i false=(decide (i<k)&&listed1.getD i false))->rV ops (fun j=>j<k/\listed1.getD j false=true)->
  wpAnyIn F n P .any ⟨ops.toList.take k⟩ (NM (wpListIn F n P ops Q (ops.toList.drop k)) Q) fuel1 listed1 a w->wpAnyIn F n P .any ops Q (fuel1+(ops.size-k)) listed a w:=by
 have hget:∀i,i<k->(⟨ops.toList.take k⟩:Array Oper)[i]?=ops[i]?:=fun i hi=>by
  simp[hi]
 have hsz:(⟨ops.toList.take k⟩:Array Oper).size=k:=by simp;omega
 have all:∀(fuel:Nat) (listed1 listed:Array Bool) (a:Act) (w:World),listed1.size=k->listed.size=ops.size->(∀i,i<ops.size->listed.getD i false=(decide (i<k)&&listed1.getD i false))->
   aC .any (⟨ops.toList.take k⟩:Array Oper) listed1=[]->ops.size-k<=fuel->wpListIn F n P ops Q (ops.toList.drop k) a w->wpAnyIn F n P .any ops Q fuel listed a w:=by
  intro fuel listed1 listed a w h1 h2 h3 hr hf h
  have hall:∀j,j<k->listed1.getD j false=true:=by
   intro j
   induction j using Nat.strongRecOn with
   | _ j ih=>
    intro hj
    cases hs:listed1.getD j false with
    | true=>rfl
    | false=>
     exfalso
     have hx:ops[j]?=some ops[j]:=by simp[show j<ops.size by omega]
     have:j∈aC .any (⟨ops.toList.take k⟩:Array Oper) listed1:=mem_ready.2 ⟨by rw[HK (by omega)];exact hs,ops[j],by rw[hget j hj];exact hx,fun e he hbd=>by
      have hlt:=hb.back j _ hx e he hbd
      exact ih e.on hlt (by omega)⟩
     rw[hr] at this
     cases this
  refine zpa hb (ops.size-k) k fuel listed a w rfl (jA _) hk hf ⟨h2,fun i hi=>?_⟩ h
  rw[h3 i hi]
  by_cases e:i<k
  ·rw[hall i e];simp
  ·simp[e]
 intro fuel1
 induction fuel1 with
 | zero=>
  intro listed1 listed a w h1 h2 h3 hc h
  obtain⟨hr,hq⟩:=h
  exact all _ listed1 listed a w h1 h2 h3 hr (by omega) hq
 | succ fuel1 ih=>
  intro listed1 listed a w h1 h2 h3 hc h
  obtain⟨g1,g2⟩:=h
  by_cases hr:aC .any (⟨ops.toList.take k⟩:Array Oper) listed1=[]
  ·exact all _ listed1 listed a w h1 h2 h3 hr (by omega) (g1 hr)
  obtain⟨j0,hj0⟩:=List.exists_mem_of_ne_nil _ hr
  have sub:∀i,i∈aC .any (⟨ops.toList.take k⟩:Array Oper) listed1->i∈aC .any ops listed:=fun i hi=>by
   obtain⟨e1,o,e2,e3⟩:=mem_ready.1 hi
   have hik:i<k:=by have:=(LA.1 e2).1;omega
   rw[hget i hik] at e2
   refine mem_ready.2 ⟨?_,o,e2,fun e he hbd=>?_⟩
   ·rw[HK (by omega),h3 i (by omega),<-HK (by omega),e1];simp
   ·have:=hb.back i o e2 e he hbd
    rw[h3 _ (by omega),e3 e he hbd]
    simp;omega
  rw[show fuel1+1+(ops.size-k)=fuel1+(ops.size-k)+1 by omega]
  refine⟨fun h0=>(by have:=sub j0 hj0;rw[h0] at this;cases this),fun i hi=>?_⟩
  obtain⟨e1,o,e2,e3⟩:=mem_ready.1 hi
  have hin:=(LA.1 e2).1
  have hik:i<k:=by
   rcases RA i k with g|g
   ·exact g
   exfalso
   obtain⟨f1,o',f2,f3⟩:=mem_ready.1 hj0
   have hjk:j0<k:=by have:=(LA.1 f2).1;omega
   have:=yS (hb.bar i j0 g hin (by omega)) hin hc (fun x hx2 e he hbd=>by
    rw[e2] at hx2
    injection hx2 with hx2
    subst hx2
    have h4:=e3 e he hbd
    have:=hb.back i _ e2 e he hbd
    rw[h3 _ (by omega)] at h4
    simpa using h4)
   rw[HK (by omega),this.2] at f1
   cases f1
  have hi1:i∈aC .any (⟨ops.toList.take k⟩:Array Oper) listed1:=mem_ready.2 ⟨by
   rw[HK (by omega),h3 i hin] at e1
   rw[HK (by omega)]
   simpa[hik] using e1,o,by rw[hget i hik];exact e2,fun e he hbd=>by
    have h4:=e3 e he hbd
    have:=hb.back i _ e2 e he hbd
    rw[h3 _ (by omega)] at h4
    have h5:(decide (e.on<k)&&listed1.getD e.on false)=true:=h4
    simp only[wA,decide_eq_true_eq] at h5
    exact h5.2⟩
  have h5:=g2 i hi1
  unfold wpOpIn at h5 ⊢
  rw[hget i hik,e2] at h5
  rw[e2]
  simp only at h5 ⊢
  have hw:oD o (yielded (⟨ops.toList.take k⟩:Array Oper) a.tmps)=oD o (yielded ops a.tmps):=by
   unfold oD
   cases hg:o.guard with
   | none=>rfl
   | some p=>
    obtain⟨j,b⟩:=p
    have:=hb.guard i o j b e2 hg
    simp only[yielded,hget j (by omega)]
  rw[hw] at h5
  have step:∀a w,wpAnyIn F n P .any (⟨ops.toList.take k⟩:Array Oper) (NM (wpListIn F n P ops Q (ops.toList.drop k)) Q) fuel1 (listed1.setIfInBounds i true) a w->wpAnyIn F n P .any ops Q (fuel1+(ops.size-k)) (listed.setIfInBounds i true) a w:=fun a w hh=>by
   have aK:∀(l:Array Bool) (m:Nat),i<l.size->m<l.size->(l.setIfInBounds i true).getD m false=(decide (m=i)||l.getD m false):=fun l m hi hm=>by
    by_cases e:m=i
    ·subst e;simp[ZD,hm]
    ·simp only[ZD,nE,hm,dif_pos,ND,yE,Ne.symm e,if_false,e,decide_false,mI]
   refine ih _ _ a w (by simp[h1]) (by simp[h2]) (fun m hm=>?_) ?_ hh
   ·rw[aK listed m (by omega) (by omega),h3 m hm]
    by_cases hmk:m<k
    ·rw[aK listed1 m (by omega) (by omega)]
     simp[hmk]
    ·have:m≠i:=by omega
     simp[hmk,this]
   ·intro m x hm hx e he hbd
    obtain⟨hmk,hm⟩:=hm
    have hlt:=hb.back m x hx e he hbd
    refine⟨by omega,?_⟩
    rw[aK listed1 _ (by omega) (by omega)]
    rw[aK listed1 m (by omega) (by omega)] at hm
    simp only[IC,decide_eq_true_eq] at hm ⊢
    right
    rcases hm with rfl|hm
    ·rw[e2] at hx
     injection hx with hx
     subst hx
     have h4:=e3 e he hbd
     rw[h3 _ (by omega)] at h4
     simp only[wA] at h4
     exact h4.2
    ·exact(hc m x ⟨hmk,hm⟩ hx e he hbd).2
  split
  ·rename_i hw1
   rw[if_pos hw1] at h5
   exact zjS step h5
  ·rename_i hw1
   rw[if_neg hw1] at h5
   exact⟨h5.1,step _ _ h5.2⟩
end
theorem W.bar{C:Ctx}{nt:Nat}{ro:Option Nat}{H0:Heap}{ops:Array Oper}{i:Nat}{st:St}{Q:Ex->St->Prop}(hmix:C.P.follows .mixedOrders=true){k:Nat}(hk:k<=ops.size)(hb:JN ops k=true)
  (hv:vO C nt ⟨ops.toList.take k⟩ st fun st1=>lM C nt (ops.toList.map (·.dst)) (ops.toList.drop k) st1 (Q .normal)):W C nt ro H0 (.region i ops true) st Q:=by
 intro h wro o s w a Qw og R hkont
 obtain⟨h1,S',hS,n,es,st',h2,h3,h4⟩:=hv
 have hC:DV { C with S:=S' }:=⟨hmix,fun g F hF=>(hS g F hF).of_same⟩
 refine wpIn_region_any hmix ?_
 have hB:=DP hb
 have hsz:(⟨ops.toList.take k⟩:Array Oper).size=k:=by simp;omega
 have h5:=jX { C with S:=S' } n nt ro wro o h s _ st st' a ⟨ops.toList.take k⟩ es (NM (wpListIn (WF wro) 0 C.P ops Qw (ops.toList.drop k)) Qw) (fun m hm=>(UN hC (jX _) m).2.2) h1 h2 h3 (SR.of_same R).drew
  fun s' w' a' R'=>F2 (ops:=ops) (fun st2 s2 w2 a2 q R2=>hkont .normal st2 s2 w2 a2 q R2) _ _ _ _ _ h4 (SR.to_same R')
 rw[hsz] at h5
 have:=zps hB hk k (lC k false) (lC ops.size false) a _ (by simp) (by simp) (fun i hi=>by simp[ZD]) (fun j x hj hx e he hbd=>by simp[ZD] at hj) h5
 rw[show k+(ops.size-k)=ops.size by omega] at this
 exact this
structure O4(C:Ctx)(nt:Nat)(ds:List (Option Tmp))(k:Nat)(l:List Oper)(T:Tr V)(H:Heap)(lo:Nat)(Q:St->Prop)(h:Hid (ds,l,Q)):Prop where
 mk'::
 out:lM C nt ds (l.drop k) ⟨T,H,lo⟩ Q
@[go_sem ↓] theorem x9(C:Ctx)(nt:Nat)(ds:List (Option Tmp))(k:Nat)(o:Oper)(l:List Oper)(T:Tr V)(H:Heap)(lo:Nat)(Q:St->Prop)(h:Hid (ds,o::l,Q)):O4 C nt ds (k+1) (o::l) T H lo Q h=O4 C nt ds k l T H lo Q .mk:=propext ⟨fun k=>⟨k.out⟩,fun k=>⟨k.out⟩⟩
@[go_sem ↓] theorem y9(C:Ctx)(nt:Nat)(ds:List (Option Tmp))(l:List Oper)(T:Tr V)(H:Heap)(lo:Nat)(Q:St->Prop)(h:Hid (ds,l,Q)):O4 C nt ds 0 l T H lo Q h=VO C nt ds l T H lo Q .mk:=propext ⟨fun k=>⟨k.out⟩,fun k=>⟨k.out⟩⟩
theorem WW.bar{C:Ctx}{nt:Nat}{ro:Option Nat}{H0:Heap}{os:List Oper}{i:Nat}{T:Tr V}{H:Heap}{lo:Nat}{Q:Ex->St->Prop}{h:Hid (Code.region i ⟨os⟩ true,Q)}(hmix:C.P.follows .mixedOrders=true)(k:Nat)(hk:DF k os.length=true)(hb:JN ⟨os⟩ k=true)
  (hv:DR' C nt ⟨os.take k⟩ T H lo (fun st1=>O4 C nt (os.map (·.dst)) k os st1.T st1.H st1.lo (Q .normal) .mk) .mk):WW C nt ro H0 (.region i ⟨os⟩ true) T H lo Q h:=by
 refine⟨W.bar hmix (ops:=⟨os⟩) (k:=k) (by rw[KH] at hk;simpa using hk) hb ?_⟩
 have hm:∀{Q1 Q2:St->Prop} {st:St} {ops:Array Oper},vO C nt ops st Q1->(∀st,Q1 st->Q2 st)->vO C nt ops st Q2:=fun h k=>by
  obtain⟨h1,S',hS,n,es,st',h2,h3,h4⟩:=h
  exact⟨h1,S',hS,n,es,st',h2,h3,k _ h4⟩
 exact hm hv.out fun st q=>q.out
end
end Go.Tw
namespace Go.Proofs.YtookdinfaoelaaaGreatDoor
section
open Go Go.Tw
open Classical
theorem zkZ{P:Program}{t:TypeId}{n:Nat}(h:uM P t=some true)(hn:EF P t=some n)(h0:0<n)(cs:List V)(o i:Nat):QE P t (cs.drop o) i=QE P t cs (o+i):=by
 rw[TM P t h hn,TM P t h hn]
 by_cases e:o+i+n<=cs.length
 ·rw[if_pos e,if_pos (by rw[ZB];omega),List.drop_drop]
 ·rw[if_neg e,if_neg (by rw[ZB];omega)]
@[go_sem] theorem pd_Rev(cs:List V)(o i:Nat):QE fA 32 (cs.drop o) i=QE fA 32 cs (o+i):=zkZ Kg YN (by decide) cs o i
@[go_sem] theorem de(cs:List V)(o i:Nat):QE fA 36 (cs.drop o) i=QE fA 36 cs (o+i):=zkZ Jg jV (by decide) cs o i
attribute [go_sem] List.getElem?_drop
def OS(l:List GNode)(r:GRev):Int:=CL (fun n=>decide (n.rev=r)) l
def GM(l:List GNode)(r:GRev):Bool:=l.all fun n=>decide (n.parent≠r)
noncomputable def N8:List V->Heap->Option OR:=by
 classical
 exact GK (fun p:GTree×GRev=>match p with|(t,r)=>[.agg (zp t),.agg (ze r)]) fun p H=>match p with|(t,r)=>if t.nodes.length<=9223372036854775807 then some ⟨vA (OS t.nodes r),H,H.n⟩ else none
theorem Lc(t:GTree)(r:GRev)(hp:t.nodes.length<=9223372036854775807)(H:Heap)(Q:OR->Prop)(hQ:Q ⟨vA (OS t.nodes r),H,H.n⟩):MCall Cx 29 [.agg (zp t),.agg (ze r)] H Q:=by
 refine QA zm (fn:=Tryz.f29) Tryz.func29 rfl (by decide) (k:=22) rfl (rs:=[.tmp 4]) rfl ?_
 simp -dsimp only[go_sem,bA,aA,cA,reduceCtorEq,gA]
 refine sC zm (fun i:Nat=>[(2,.ptr H.n 0),(3,.ptr (H.n+1) 0),(5,vA i)]) (fun i=>i<=t.nodes.length/\(t.nodes.take i).all (fun n=>!decide (n.rev=r))=true) (fun i=>t.nodes.length-i) 0 ⟨by omega,rfl⟩ zSl ?_
 rintro i ⟨hi,hj⟩
 simp -dsimp only[go_sem,bA,aA,reduceCtorEq,zf,zh]
 refine aB (fun h=>?_) (fun h=>?_)<;>simp -dsimp only[go_sem,bA,aA,cA,h]
 ·obtain⟨x,hx⟩:=zu h
  refine DR.of _ xA (by kernel_rfl) ?_
  simp -dsimp only[go_sem,bA,aA,cA,reduceCtorEq,h,z7 zg hx]
  refine aB (fun h2=>?_) (fun h2=>?_)<;>simp -dsimp only[go_sem,bA,aA,cA,h2]
  ·refine AA (by omega) rfl ?_
   rw[OS,ng hx (by simp[h2]) hj] at hQ
   exact hQ
  ·refine zAg (i+1) ?_
   exact⟨by omega,VM hx hj (by simp[h2])⟩
 ·refine AA (by omega) rfl ?_
  rw[OS,Qf (pN (i:=i) (by omega) hj)] at hQ
  exact hQ
theorem wd:CI Cx 29 N8:=kL fun p H r hr=>by
 obtain⟨t,r⟩:=p
 simp only at hr
 split at hr
 ·rename_i hp
  injection hr with hr
  subst hr
  exact Lc t r hp H _ rfl
 ·cases hr
theorem e_29(t:GTree)(r:GRev)(hp:t.nodes.length<=9223372036854775807)(H:Heap):N8 [.agg (zp t),.agg (ze r)] H=some ⟨vA (OS t.nodes r),H,H.n⟩:=by
 refine(lL (by simp+contextual [zQ,zI]) (t,r) H).trans ?_
 exact if_pos hp
noncomputable def O8:List V->Heap->Option OR:=by
 classical
 exact GK (fun p:GTree×GRev=>match p with|(t,r)=>[.agg (zp t),.agg (ze r)]) fun p H=>match p with|(t,r)=>if t.nodes.length<=9223372036854775807 then some ⟨.lit (.bool (GM t.nodes r)),H,H.n⟩ else none
theorem Nc(t:GTree)(r:GRev)(hp:t.nodes.length<=9223372036854775807)(H:Heap)(Q:OR->Prop)(hQ:Q ⟨.lit (.bool (GM t.nodes r)),H,H.n⟩):MCall Cx 30 [.agg (zp t),.agg (ze r)] H Q:=by
 refine QA zm (fn:=Tryz.f30) Tryz.func30 rfl (by decide) (k:=21) rfl (rs:=[.tmp 4]) rfl ?_
 simp -dsimp only[go_sem,bA,aA,cA,reduceCtorEq,gA]
 refine sC zm (fun i:Nat=>[(2,.ptr H.n 0),(3,.ptr (H.n+1) 0),(5,vA i)]) (fun i=>i<=t.nodes.length/\(t.nodes.take i).all (fun n=>decide (n.parent≠r))=true) (fun i=>t.nodes.length-i) 0 ⟨by omega,rfl⟩ zSl ?_
 rintro i ⟨hi,hj⟩
 simp -dsimp only[go_sem,bA,aA,reduceCtorEq,zf,zh]
 refine aB (fun h=>?_) (fun h=>?_)<;>simp -dsimp only[go_sem,bA,aA,cA,h]
 ·obtain⟨x,hx⟩:=zu h
  refine DR.of _ xA (by kernel_rfl) ?_
  simp -dsimp only[go_sem,bA,aA,cA,reduceCtorEq,h,z7 zg hx]
  refine aB (fun h2=>?_) (fun h2=>?_)<;>simp -dsimp only[go_sem,bA,aA,cA,h2]
  ·refine AA (by omega) rfl ?_
   rw[GM,L7 hx (by simp[h2])] at hQ
   exact hQ
  ·refine zAg (i+1) ?_
   exact⟨by omega,VM hx hj (by simp[h2])⟩
 ·refine AA (by omega) rfl ?_
  rw[GM,pN (i:=i) (by omega) hj] at hQ
  exact hQ
theorem EW:CI Cx 30 O8:=kL fun p H r hr=>by
 obtain⟨t,r⟩:=p
 simp only at hr
 split at hr
 ·rename_i hp
  injection hr with hr
  subst hr
  exact Nc t r hp H _ rfl
 ·cases hr
theorem Ra(t:GTree)(r:GRev)(hp:t.nodes.length<=9223372036854775807)(H:Heap):O8 [.agg (zp t),.agg (ze r)] H=some ⟨.lit (.bool (GM t.nodes r)),H,H.n⟩:=by
 refine(lL (by simp+contextual [zQ,zI]) (t,r) H).trans ?_
 exact if_pos hp
end
end Go.Proofs.YtookdinfaoelaaaGreatDoor
