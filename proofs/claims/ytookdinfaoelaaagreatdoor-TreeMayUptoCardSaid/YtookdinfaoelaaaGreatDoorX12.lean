/- Own work for this claim, part 13 of 17. No condition of its own. -/
import Derived.Test.YtookdinfaoelaaaGreatDoorX11
import Derived.Test.YtookdinfaoelaaaGreatDoorX10
import Derived.Test.YtookdinfaoelaaaGreatDoorX09
import Derived.Test.YtookdinfaoelaaaGreatDoorX07
set_option linter.all false
set_option maxRecDepth 100000
set_option maxHeartbeats 4000000
open Bool renaming and_assoc→IH,and_eq_true→wA,eq_iff_iff→YB,not_eq_true'→oC,or_eq_true→IC
open Go.Lib renaming compareBytes→fB
open Go.Proofs.Tryz renaming func118→rK,prog→fA,underlying76→TA
open Go.Tw.BR renaming dec→aB
open Go.Tw.DR renaming of→JC
open Go.Tw.Heap renaming get_push→yA,get_set→dA,n_push→iA,n_set→kA
open Go.Tw.MCall renaming lend_flat→SE,of→QA,ofW→mB
open Go.Tw.MV renaming fn→oB,tab→aD
open Go.Tw.OO renaming intro→rB
open Go.Tw.Res renaming bf→AA,fz→HC,same→nB
open Go.Tw.Sub renaming keep→RB,lower→MB
open Go.Tw.Tab.OK renaming cons→CA,nil→xA
open Go.Tw.V renaming one→HB
open Go.Tw.WW renaming bar→BD,blk→MD,cut→DC,keepl→WB,loopW→dD,seq→yC,sq→PA,still→sC,vc→LB
open List renaming all_eq_true→gB,any_eq_false→vE,append_nil→MA,countP_eq_zero→mH,drop_eq_getElem_cons→DB,drop_of_length_le→uC,drop_zero→UA,flatten_append→nH,getD_eq_getElem?_getD→DA,getElem?_append_right→gC,getElem?_eq_some_iff→rA,getElem?_map→uB,length→PB,length_append→qA,length_cons→HA,length_drop→ZB,length_eq_zero_iff→WA,length_filter_le→tD,length_map→bC,length_nil→SA,length_replicate→LD,length_set→qB,length_take→JB,map_append→QC,map_cons→NC,mem_map→oE,not_mem_nil→JA,range→CB,replicate→oA,replicate_zero→lG,take_add_one→yB,take_append_drop→eC,take_length→FB,take_of_length_le→uA,take_succ_cons→NA,take_zero→iB
open Nat renaming add_zero→pE,le_refl→jA,lt_or_ge→RA,min_self→gA,mod_lt→NH,mul_one→wB,reduceAdd→cA,reduceEqDiff→aA,reduceLT→bA,reduceMul→qE,sub_self→CE,zero_add→bB,zero_le→KB
open Option renaming bind_eq_bind→pA,bind_some→KA
open UInt8 renaming le_antisymm→jI,not_lt→MG
namespace Go.Proofs.YtookdinfaoelaaaGreatDoor
section
open Go Go.Tw
open Classical
def NodeC(n:Nat)(X:Heap)(nv:V)(l:List GNode):Prop:=
 (l=[]/\nv=.lit (.slice none 0 0))\/∃k,nv=.sl k 0 l.length l.length (some 41)/\n<=k/\X.get k=some (.cells (row za l) 38)
theorem NodeC.s{n:Nat}{X:Heap}{nv:V}{l:List GNode}(h:NodeC n X nv l):NodeS n X nv l:=by
 rcases h with h|⟨k,h1,h2,h3⟩
 ·exact .inl h
 ·exact .inr ⟨k,l.length,some 41,[],h1,h2,jA _,by rw[MA];exact h3,.inl rfl⟩
theorem NodeC.of{n:Nat}{X Y:Heap}{nv:V}{l:List GNode}(ho:∀j,hJ nv=some j->n<=j->Y.get j=X.get j)(h:NodeC n X nv l):NodeC n Y nv l:=by
 rcases h with h|⟨k,rfl,h2,h3⟩
 ·exact .inl h
 ·exact .inr ⟨k,rfl,h2,by rw[ho k rfl h2,h3]⟩
theorem Mg{n:Nat}{X:Heap}{nv:V}{l:List GNode}{j:Nat}(h:NodeC n X nv l)(hj:hJ nv=some j):n<=j/\j<X.n/\X.get j=some (.cells (row za l) 38)/\nv=.sl j 0 l.length l.length (some 41):=by
 rcases h with⟨_,rfl⟩|⟨k,rfl,h2,h3⟩
 ·cases hj
 ·injection hj with hj
  subst hj
  exact⟨h2,zq h3,h3,rfl⟩
structure WorkC(n0:Nat)(bw:Nat)(X:Heap)(nv:V)(l:List GNode):Prop where
 lo:n0<=bw
 var:X.get bw=some (.cells [nv] 55)
 nod:NodeC n0 X nv l
 ne:hJ nv≠some bw
theorem WorkC.of{n0 bw:Nat}{X Y:Heap}{nv:V}{l:List GNode}(h:WorkC n0 bw X nv l)(h1:Y.get bw=X.get bw)(ho:∀j,hJ nv=some j->n0<=j->Y.get j=X.get j):WorkC n0 bw Y nv l:=⟨h.lo,h1.trans h.var,h.nod.of ho,h.ne⟩
theorem WorkC.gw{n0 bw:Nat}{X Y:Heap}{nv:V}{l:List GNode}(h:WorkC n0 bw X nv l)(hG:Gw X Y):WorkC n0 bw Y nv l:=h.of (hG.old _ (zq h.var)) fun j hj _=>hG.old _ (Mg h.nod hj).2.1
theorem WorkC.fz{n0 bw:Nat}{X:Heap}{nv:V}{l:List GNode}(h:WorkC n0 bw X nv l):Fz (fun _=>True) X (.ptr bw 0) (AH l):=
 .ptr bw 0 [nv] _ 1 _ trivial h.var (.one (h.nod.s.fz fun _ _=>trivial))
theorem zly:∀l:List UInt8,VJ (l.map PE)=true
 | []=>rfl
 | x::l=>by
  rw[NC,VJ,zly l]
  rfl
theorem IY(r:GRev):V.fl (.agg (ze r))=true:=by
 show VJ (TC r.gen::FH r.sum)=true
 rw[VJ]
 show(true&&VJ (FH r.sum))=true
 rw[Bool.true_and]
 exact zly _
theorem zno{g:FuncId}{args args':List V}{ks:List GRev}{H:Heap}(ha:Fzs (fun _=>True) H args args')(h:∀Q:OR->Prop,Q ⟨.mp H.n,H.push (mapM ks),H.n⟩->MCall Cx g args' H Q)(Q:OR->Prop)(hQ:Q ⟨.mp H.n,H.push (mapM ks),H.n⟩):MCall Cx g args H Q:=by
 refine MCall.lend ha (h (·=_) rfl) fun r hr=>?_
 subst hr
 refine⟨_,_,Wk.self rfl,rfl,fun b hb=>⟨zj _ hb,zj _ hb⟩,fun b h1 h2=>?_,hQ⟩
 rw[iA] at h2
 have:b=H.n:=by omega
 subst this
 refine⟨mapM ks,mapM ks,by rw[yA,if_pos rfl],by rw[yA,if_pos rfl],?_⟩
 refine⟨_,rfl,Wkm.self ?_⟩
 rw[gB]
 intro e he
 unfold BI at he
 obtain⟨q,_,rfl⟩:=oE.1 he
 simp only[wA]
 exact⟨IY q.1,rfl⟩
theorem yU(l:List GNode)(hl:l.length<=1048575)(n0 bw:Nat)(nv:V)(H:Heap)(hW:WorkC n0 bw H nv l)(Q:OR->Prop)(hQ:Q ⟨.mp H.n,H.push (mapM (l.map (·.parent))),H.n⟩):MCall Cx 21 [.ptr bw 0] H Q:=
 zno (.one hW.fz) (fun Q hQ=>tZ l (by omega) H Q hQ) Q hQ
theorem AQ(l:List GNode)(hl:l.length<=1048575)(n0 bw:Nat)(nv:V)(H:Heap)(hW:WorkC n0 bw H nv l)(Q:OR->Prop)(hQ:Q ⟨.mp H.n,H.push (mapM ((yJ l (zS l)).map (·.rev))),H.n⟩):MCall Cx 22 [.ptr bw 0] H Q:=
 zno (.one hW.fz) (fun Q hQ=>Kc l (by omega) H Q hQ) Q hQ
theorem UT(l:List GNode)(hl:l.length<=1048575)(n0 bw:Nat)(nv:V)(r:GRev)(H:Heap)(hW:WorkC n0 bw H nv l)(Q:OR->Prop)(hQ:Q ⟨.lit (.bool (aH l r)),H,H.n⟩):MCall Cx 48 [.ptr bw 0,.agg (ze r)] H Q:=
 SE (.two hW.fz (.self _ (zz r))) rfl (yZ l r (by omega) H _ rfl) hQ
theorem YX(l:List GNode)(hl:l.length<=1048575)(n0 bw:Nat)(nv:V)(r:GRev)(H:Heap)(hW:WorkC n0 bw H nv l)(Q:OR->Prop)(hQ:Q ⟨.tup [vA (CH l r),.lit (.bool (aH l r))],H,H.n⟩):MCall Cx 51 [.ptr bw 0,.agg (ze r)] H Q:=
 SE (.two hW.fz (.self _ (zz r))) rfl (Sc l r (by omega) H _ rfl) hQ
theorem zp0(l:List GNode)(hl:l.length<=1048575)(i:Nat)(hi:i<=l.length)(x:GNode)(n0:Nat)(nv:V)(vb:Nat)(vt:Option Nat)(H:Heap)(hn0:n0<=H.n)(hS:NodeC n0 H nv l)(hv:H.get vb=some (.cells (za x) 38))(hne:hJ nv≠some vb)(Q:OR->Prop)
  (hQ:∀X nv' lo,H.n<=X.n->(∀j,j<H.n->hJ nv≠some j->X.get j=H.get j/\hJ nv'≠some j)->n0<=lo->NodeC n0 X nv' (IL l i x)->Q ⟨nv',X,lo⟩):MCall Cx 53 [nv,vA i,.sl vb 0 1 1 vt] H Q:=by
 refine MCall.canon 41 (jQ l hl i hi x n0 nv vb vt H hn0 hS.s hv hne (fun r=>∃X nv' lo,r=⟨nv',X,lo⟩/\H.n<=X.n/\(∀j,j<H.n->hJ nv≠some j->X.get j=H.get j/\hJ nv'≠some j)/\n0<=lo/\NodeS n0 X nv' (IL l i x)) fun X nv' lo h1 h2 h3 h4=>⟨X,nv',lo,rfl,h1,h2,h3,h4⟩) ?_
 rintro _ ⟨X,nv',lo,rfl,h1,h2,h3,h4⟩
 rcases h4 with⟨e,_⟩|⟨k,c,tag,tl,rfl,g2,g3,g4,g5⟩
 ·exact absurd (congrArg PB e) (by rw[LO l i x hi];simp)
 ·refine⟨k,_,c,tag,row za (IL l i x),tl,_,rfl,g4,g3,g5,hQ _ _ _ (by rw[kA];exact h1) (fun j hj hjk=>?_) (by simp only;omega) (.inr ⟨k,rfl,g2,by rw[dA,if_pos ⟨rfl,zq g4⟩]⟩)⟩
  obtain⟨q1,q2⟩:=h2 j hj hjk
  have hjk2:j≠k:=fun e=>q2 (by rw[e];rfl)
  exact⟨by rw[dA,if_neg (fun h=>hjk2 h.1)];exact q1,j4 hjk2⟩
end
section
open Go Go.Tw
open Classical
theorem zqj:∀(l m:List UInt8),fB l m=0↔l=m
 | [],[]=>by simp[fB]
 | [],y::m=>by simp[fB]
 | x::l,[]=>by simp[fB]
 | x::l,y::m=>by
  simp only[fB]
  have ih:=zqj l m
  by_cases h1:x<y
  ·rw[if_pos h1]
   simp only[List.cons.injEq]
   constructor
   ·intro h;cases h
   ·rintro⟨rfl,_⟩;exact absurd h1 (UInt8.lt_irrefl _)
  ·by_cases h2:y<x
   ·rw[if_neg h1,if_pos h2]
    simp only[List.cons.injEq]
    constructor
    ·intro h;cases h
    ·rintro⟨rfl,_⟩;exact absurd h2 (UInt8.lt_irrefl _)
   ·rw[if_neg h1,if_neg h2,ih]
    have:x=y:=jI (MG.1 h2) (MG.1 h1)
    simp[this]
theorem zqk:∀(l m:List UInt8),fB m l=- fB l m
 | [],[]=>by simp[fB]
 | [],y::m=>by simp[fB]
 | x::l,[]=>by simp[fB]
 | x::l,y::m=>by
  simp only[fB]
  have ih:=zqk l m
  by_cases h1:x<y
  ·simp[h1,UInt8.lt_asymm h1]
  ·by_cases h2:y<x
   ·simp[h1,h2]
   ·simp[h1,h2,ih]
theorem znR:∀(l m k:List UInt8),fB l m<0->fB m k<0->fB l k<0
 | [],[],k,h,g=>by simp[fB] at h
 | x::l,[],k,h,g=>by simp[fB] at h
 | l,y::m,[],h,g=>by simp[fB] at g
 | [],y::m,z::k,h,g=>by simp[fB]
 | x::l,y::m,z::k,h,g=>by
  simp only[fB] at h g ⊢
  have ih:=znR l m k
  by_cases h1:x<y
  ·by_cases g1:y<z
   ·rw[if_pos (UInt8.lt_trans h1 g1)];decide
   ·rw[if_neg g1] at g
    by_cases g2:z<y
    ·rw[if_pos g2] at g;omega
    ·have:y=z:=jI (MG.1 g2) (MG.1 g1)
     subst this
     rw[if_pos h1];decide
  ·rw[if_neg h1] at h
   by_cases h2:y<x
   ·rw[if_pos h2] at h;omega
   ·rw[if_neg h2] at h
    have:x=y:=jI (MG.1 h2) (MG.1 h1)
    subst this
    by_cases g1:x<z
    ·rw[if_pos g1];decide
    ·rw[if_neg g1] at g ⊢
     by_cases g2:z<x
     ·rw[if_pos g2] at g;omega
     ·rw[if_neg g2] at g ⊢
      exact ih h g
theorem WR(a b:Int):(a<b/\PK a b=-1)\/(a=b/\PK a b=0)\/(b<a/\PK a b=1):=by
 unfold PK
 rcases Int.lt_trichotomy a b with h|h|h
 ·left;exact⟨h,if_pos h⟩
 ·right;left;exact⟨h,by rw[if_neg (by omega),if_neg (by omega)]⟩
 ·right;right;exact⟨h,by rw[if_neg (by omega),if_pos h]⟩
theorem J2(a b:GRev):(a.gen<b.gen/\RI a b=-1)\/(a.gen=b.gen/\RI a b=fB a.sum.toList b.sum.toList)\/(b.gen<a.gen/\RI a b=1):=by
 rw[RI,zpD]
 rcases WR a.gen b.gen with⟨h,e⟩|⟨h,e⟩|⟨h,e⟩
 ·left;exact⟨h,by rw[e];rfl⟩
 ·right;left;exact⟨h,by rw[e];rfl⟩
 ·right;right;exact⟨h,by rw[e];rfl⟩
theorem zfw(a b:GRev):RI a b=0↔a=b:=by
 have h1:=zqj a.sum.toList b.sum.toList
 constructor
 ·intro h
  rcases J2 a b with⟨g,e⟩|⟨g,e⟩|⟨g,e⟩
  ·omega
  ·rw[e] at h
   obtain⟨g1,s1⟩:=a
   obtain⟨g2,s2⟩:=b
   simp only at g h h1
   subst g
   rw[Vector.toList_inj.1 (h1.1 h)]
  ·omega
 ·rintro rfl
  rcases J2 a a with⟨g,e⟩|⟨g,e⟩|⟨g,e⟩
  ·omega
  ·rw[e];exact h1.2 rfl
  ·omega
theorem zkU{a b c:GRev}(h:RI a b<0)(g:RI b c<0):RI a c<0:=by
 have:=znR a.sum.toList b.sum.toList c.sum.toList
 rcases J2 a b with⟨h1,e1⟩|⟨h1,e1⟩|⟨h1,e1⟩<;>rcases J2 b c with⟨h2,e2⟩|⟨h2,e2⟩|⟨h2,e2⟩<;>rcases J2 a c with⟨h3,e3⟩|⟨h3,e3⟩|⟨h3,e3⟩<;>first|omega|(rw[e3];exact this (by omega) (by omega))
theorem zma(a b:GRev):RI b a=- RI a b:=by
 have:=zqk a.sum.toList b.sum.toList
 rcases J2 a b with⟨h1,e1⟩|⟨h1,e1⟩|⟨h1,e1⟩<;>rcases J2 b a with⟨h2,e2⟩|⟨h2,e2⟩|⟨h2,e2⟩<;>first|omega|(rw[e1,e2,this])
theorem zpC{l:List GNode}(h:KM l):∀(i j:Nat) (x y:GNode),i<j->l[i]?=some x->l[j]?=some y->RI x.rev y.rev<0:=by
 intro i j
 induction j with
 | zero=>intro x y hij;omega
 | succ j ih=>
  intro x y hij hx hy
  have hj:j<l.length:=by have:=(rA.1 hy).1;omega
  obtain⟨z,hz⟩:=zu hj
  have h1:=h j z y hz hy
  rcases RA i j with g|g
  ·exact zkU (ih x z g hx hz) h1
  ·obtain rfl:i=j:=by omega
   rw[hx] at hz;injection hz with hz
   subst hz;exact h1
theorem Of{l:List GNode}{i:Nat}{x:GNode}(h:l[i]?=some x):SI l i=x:=by
 rw[SI,DA,h];rfl
theorem ziI(f:Nat->Bool):∀(n i j k:Nat),j-i<=n->i<=k->k<=j->(∀m,i<=m->m<k->f m=true)->(∀m,k<=m->m<j->f m=false)->rL f i j=k
 | n,i,j,k,hn,h1,h2,h3,h4=>by
  rw[rL]
  split
  ·rename_i h
   cases n with
   | zero=>omega
   | succ n=>
    cases e:f ((i+j) / 2)
    ·simp only[Bool.false_eq_true,if_false]
     have:k<=(i+j) / 2:=by
      rcases RA ((i+j) / 2) k with g|g
      ·rw[h3 _ (by omega) g] at e;cases e
      ·exact g
     exact ziI f n i _ k (by omega) h1 this h3 fun m hm hm2=>h4 m hm (by omega)
    ·simp only[if_true]
     have:(i+j) / 2<k:=by
      rcases RA ((i+j) / 2) k with g|g
      ·exact g
      ·rw[h4 _ g (by omega)] at e;cases e
     exact ziI f n _ j k (by omega) (by omega) h2 (fun m hm hm2=>h3 m (by omega) hm2) h4
  ·omega
theorem zqx{l:List GNode}(h:KM l){i:Nat}{x:GNode}(hx:l[i]?=some x):CH l x.rev=i:=by
 have hi:=(rA.1 hx).1
 refine ziI _ l.length 0 l.length i (by omega) (KB _) (by omega) (fun m _ hm=>?_) fun m hm hm2=>?_
 ·obtain⟨y,hy⟩:=zu (l:=l) (i:=m) (by omega)
  simp only[Of hy,decide_eq_true_eq]
  exact zpC h m i y x hm hy hx
 ·obtain⟨y,hy⟩:=zu hm2
  simp only[Of hy,decide_eq_false_iff_not]
  rcases RA i m with g|g
  ·have:=zpC h i m x y g hx hy
   rw[zma];omega
  ·obtain rfl:i=m:=by omega
   rw[hx] at hy;injection hy with hy
   subst hy
   rw[(zfw _ _).2 rfl];omega
theorem sP{l:List GNode}(h:KM l){i:Nat}{x:GNode}(hx:l[i]?=some x):aH l x.rev=true:=by
 have hi:=(rA.1 hx).1
 rw[aH,zqx h hx,Of hx,(zfw _ _).2 rfl]
 simp[hi]
theorem zne{l:List GNode}{r:GRev}(h:aH l r=true):l[CH l r]?=some (SI l (CH l r))/\(SI l (CH l r)).rev=r:=by
 simp only[aH,wA,decide_eq_true_eq] at h
 obtain⟨x,hx⟩:=zu h.1
 rw[Of hx] at h ⊢
 exact⟨hx,(zfw _ _).1 h.2⟩
theorem zk7{l:List GNode}(h:KM l)(r:GRev):DX l r=if aH l r then some (SI l (CH l r)) else none:=by
 cases e:DX l r with
 | none=>
  rw[if_neg]
  intro g
  obtain⟨h1,h2⟩:=zne g
  rw[DX,List.find?_eq_none] at e
  exact e _ (List.mem_of_getElem? h1) (by simp[h2])
 | some x=>
  have h1:=List.find?_some e
  simp only[decide_eq_true_eq] at h1
  subst h1
  obtain⟨i,hi⟩:=List.getElem?_of_mem (List.mem_of_find?_eq_some e)
  rw[if_pos (sP h hi),zqx h hi,Of hi]
theorem YP{l:List GNode}(h:KM l)(r:GRev):decide (0<=OS l r)=aH l r:=by
 have h0:=zk7 h r
 rcases zit l r with⟨h1,h2⟩|⟨i,x,h1,h2,h3⟩
 ·rw[h2] at h0
  cases e:aH l r
  ·simp[h1]
  ·rw[e] at h0;cases h0
 ·rw[h3] at h0
  cases e:aH l r
  ·rw[e] at h0;cases h0
  ·simp[h2]
theorem zkB{l:List GNode}(h:KM l):∀(n:Nat) (r:GRev),GL l n r=(kI l n r).map (·.rev)
 | 0,r=>rfl
 | n+1,r=>by
  rw[GL,kI,zk7 h]
  cases e:aH l r
  ·rfl
  ·simp only[if_true,NC]
   rw[(zne e).2,zkB h n]
theorem zkC{l:List GNode}:∀(n m:Nat) (r:GRev),n<=m->(kI l m r).take n=kI l n r
 | 0,m,r,h=>by simp[kI]
 | n+1,0,r,h=>by omega
 | n+1,m+1,r,h=>by
  rw[kI,kI]
  cases e:aH l r
  ·rfl
  ·simp only[if_true,NA]
   rw[zkC n m _ (by omega)]
theorem zk0(l:List GNode)(r:GRev):decide (EK l r=0)=GM l r:=by
 rw[EK,GM,YB]
 simp[mH,gB]
theorem znr(l:List GNode)(n:GNode):(!decide (0<EK l n.rev))=GM l n.rev:=by
 rw[<-zk0,YB]
 simp only[oC,decide_eq_false_iff_not,decide_eq_true_eq]
 omega
theorem zou(l:List GNode):(zS l).length=D3 l:=by
 rw[zS,D3,List.countP_eq_length_filter]
 congr 2
 funext n
 exact znr l n
theorem jU{l:List GNode}(h:KM l)(q:GRev):decide (BH (GH ((yJ l (zS l)).map (·.rev))).1 q=0)=!fO l q:=by
 rw[zlu,YB]
 simp only[decide_eq_true_eq,oC,Int.natCast_eq_zero,fN,mH,decide_eq_true_eq]
 rw[fO,vE]
 simp only[yJ,List.mem_flatMap,I4,zkC _ _ _ (show 16<=32 by decide),zS,List.mem_filter,s8,wA,List.any_eq_true,decide_eq_true_eq,zkB h,oE,znr]
 constructor
 ·rintro g x hx ⟨hl,q',⟨y,hy,rfl⟩,rfl⟩
  exact g y ⟨x,⟨hx,hl⟩,hy⟩ rfl
 ·rintro g y ⟨x,⟨hx,hl⟩,hy⟩ rfl
  exact g x hx ⟨hl,_,⟨y,hy,rfl⟩,rfl⟩
theorem XZ(l:List GNode)(q:GRev):decide (BH (GH (l.map (·.parent))).1 q=0)=GM l q:=by
 rw[<-zk0,(Ek _).2,List.countP_map,EK,YB]
 simp only[decide_eq_true_eq,Int.natCast_eq_zero]
 rfl
theorem zp3{mk:GRev->Int->GV->GRev×Int}{l:List GNode}(h:KM l)(n:GNode):BN mk l n (GM l n.rev)=TK mk l n:=by
 have h1:(decide (n.deleted=0)||decide (n.deleted=1))=(decide (0<=n.deleted)&&decide (n.deleted<=1)):=by
  rw[YB]
  simp only[IC,wA,decide_eq_true_eq]
  omega
 rw[BN,TK,AN,L4,RS,YP h,h1]
 simp only[IH]
theorem DZ(mk:GRev->Int->GV->GRev×Int)(l:List GNode):mS mk l=ZO mk l:=by
 rw[mS,ZO,zou]
 by_cases h:KM l
 ·have e:(l.any fun n=>decide (BH (GH ((yJ l (zS l)).map (·.rev))).1 n.rev=0)||!BN mk l n (decide (BH (GH (l.map (·.parent))).1 n.rev=0)))=l.any fun n=>!fO l n.rev||!TK mk l n:=by
   congr 1
   funext n
   rw[jU h,XZ,zp3 h]
  rw[e]
  have e2:(!l.any fun n=>!fO l n.rev||!TK mk l n)=(l.all (TK mk l)&&l.all fun n=>fO l n.rev):=by
   rw[YB]
   simp only[oC,vE,IC,oC,wA,gB]
   constructor
   ·intro g
    refine⟨fun x hx=>?_,fun x hx=>?_⟩
    ·have:=g x hx
     cases e:TK mk l x
     ·exact absurd (.inr e) this
     ·rfl
    ·have:=g x hx
     cases e:fO l x.rev
     ·exact absurd (.inl e) this
     ·rfl
   ·rintro⟨g1,g2⟩ x hx g
    rcases g with g|g
    ·rw[g2 x hx] at g;cases g
    ·rw[g1 x hx] at g;cases g
  rw[e2]
  simp only[h,IH]
 ·simp[h]
end
section
open Go Go.Tw
open Classical
def aN(l:List UInt8):List V:=[NB zT l]
theorem Jj(l:List UInt8):(aN l).length=1:=rfl
@[go_sem] theorem M9(l:List UInt8)(r:List V):(aN l++r)[0]?=some (NB zT l):=rfl
theorem zqq(l:List UInt8):QF (aN l)=true:=by
 simp[aN,QF,Sk UM]
theorem F4:∃i,Tryz.prog.info? 5=some i/\i.size=1/\i.bytes=1:=by
 have h:(Tryz.prog.info? 5).map (fun i=>(i.size,i.bytes))=some (1,1):=by kernel_rfl
 cases e:Tryz.prog.info? 5 with
 | none=>rw[e] at h;cases h
 | some i=>
  rw[e] at h
  simp only[Option.map_some,Option.some.injEq,Prod.mk.injEq] at h
  exact⟨i,rfl,h.1,h.2⟩
theorem NS:zE fA 5=some [PE 0]:=by kernel_rfl
theorem OY{H:Heap}{n:Nat}(h0:0<n)(hn:n<=1048576):DH fA H 76 3 (.lit (.slice none 0 0)) (vA n)=some ⟨.sl H.n 0 n n (some 1),H.push (.cells (row zT (oA n 0)) 5),H.n⟩:=by
 obtain⟨i,hi,h1,h2⟩:=F4
 unfold DH
 rw[TA,Tryz.underlying3]
 simp only[S7,hi,NS,h1,h2,pA,KA]
 have e:∀n,bH [PE 0] n=row zT (oA n 0):=fun n=>by
  rw[SL,List.map_replicate]
  induction n with
  | zero=>rfl
  | succ n ih=>rw[List.replicate_succ,<-ih];rfl
 rw[if_pos (by simp;omega)]
 simp[e]
theorem cut0{b n:Nat}(h0:0<n):lH fA 76 (.sl b 0 n n (some 1)) none (some (vA 0)) none=some (.sl b 0 0 n (some 1)):=by
 unfold lH
 rw[TA]
 simp only[iM,SK,MM,pM,sM,ziJ _ _ _ (show(0:Int)<=0 by decide),KA,pA]
 simp[QS]
 try omega
@[go_sem] theorem qa:KL fA 76 (.lit (.slice none 0 0))=some (vA 0):=by
 unfold KL
 rw[TA]
 rfl
@[go_sem] theorem La:lH fA 76 (.lit (.slice none 0 0)) none (some (vA 0)) none=some (.lit (.slice none 0 0)):=by kernel_rfl
theorem rc(n:Nat)(h0:0<n)(hn:n<=1048576)(H:Heap)(Q:OR->Prop)(hQ:Q ⟨.sl H.n 0 0 n (some 1),H.push (.cells (row zT (oA n 0)) 5),H.n⟩):MCall Cx 129 [.lit (.slice none 0 0),vA n] H Q:=by
 refine mB (fn:=Tryz.f129) Tryz.func129 rfl (by decide) (k:=27) rfl (rs:=[.tmp 4]) rfl ?_
 refine LB zm ?_
 have e0:((n:Int)<0)=False:=by simp
 have e1:IntKind.i64.wrap ((n:Int)-IntKind.i64.wrap (0-0))=(n:Int):=by
  rw[show IntKind.i64.wrap (0-0)=0 by decide,Int.sub_zero,zjR (by omega)]
 have e2:((0:Int)<n)=True:=by simp;omega
 have e4:((0:Nat):Int)=0:=rfl
 simp -dsimp only[go_sem,bA,aA,cA,reduceCtorEq,e0,e4,e1,e2]
 refine rB (OY h0 hn) ?_
 simp -dsimp only[go_sem,bA,aA,cA,reduceCtorEq,gA,e4,cut0 h0]
 exact nB hQ
theorem dU(H:Heap)(Q:OR->Prop)(hQ:Q ⟨.lit (.slice none 0 0),H,H.n⟩):MCall Cx 129 [.lit (.slice none 0 0),vA 0] H Q:=by
 refine mB (fn:=Tryz.f129) Tryz.func129 rfl (by decide) (k:=27) rfl (rs:=[.tmp 4]) rfl ?_
 refine LB zm ?_
 have e1:IntKind.i64.wrap (0-IntKind.i64.wrap (0-0))=0:=by decide
 have e4:((0:Nat):Int)=0:=rfl
 simp -dsimp only[go_sem,bA,aA,cA,reduceCtorEq,gA,e4,e1,Int.reduceLT]
 exact nB hQ
theorem XX{H:Heap}{b cap:Nat}{s new:List UInt8}{r:List UInt8}{K:OR->Prop}{h:Hid K}(hb:H.get b=some (.cells (row zT (s++r)) 5))(hc:s.length+r.length=cap)(hn:new.length<=r.length)
  (k:∀X,X.n=H.n->X.get b=some (.cells (row zT ((s++new)++r.drop new.length)) 5)->(∀j,j≠b->X.get j=H.get j)->∀lo,min b H.n<=lo->K ⟨.sl b 0 (s++new).length cap (some 1),X,lo⟩):OO (DH fA H 76 76 (.sl b 0 s.length cap (some 1)) (NB zT new)) K h:=by
 obtain⟨i,hi,h1,h2⟩:=F4
 have hlt:=zq hb
 have hall:(row zT new).all HB=true:=mL aV new
 have hrl:(row zT new).length=new.length:=by rw[zr wK];omega
 have hcells:cellsOf H 1 new.length (NB zT new)=some (row zT new):=by
  show(if _ then _ else _)=_
  rw[if_pos ⟨jA _,by rw[hrl];omega⟩,wB,uA (by omega)]
 have hlen:mJ (NB zT new)=some new.length:=rfl
 by_cases h0:new=[]
 ·subst h0
  refine rB (r:=⟨.sl b 0 s.length cap (some 1),H,H.n⟩) ?_ ?_
  ·unfold DH
   rw[TA]
   simp only[hi,hlen,h1,hcells,NS,pA,KA]
   have:s.length<=cap:=by omega
   simp[h2,row,this]
  ·have:=k H rfl (by simpa using hb) (fun _ _=>rfl) H.n (by omega)
   simpa using this
 ·have hpos:0<new.length:=List.length_pos_iff.2 h0
  have hspl:zD (row zT (s++r)) (0+s.length*1) (row zT new)=some (row zT ((s++new)++r.drop new.length)):=by
   unfold zD
   simp only[SL,wB,bB,bC,qA]
   rw[if_pos (by omega)]
   simp only[<-List.map_take,<-List.map_drop,<-QC]
   congr 2
   rw[List.take_append_of_le_length (jA _),uA (jA _),List.drop_append,uC (by omega),List.nil_append]
   congr 1
   congr 1
   omega
  refine rB (r:=⟨.sl b 0 (s.length+new.length) cap (some 1),H.set b (.cells (row zT ((s++new)++r.drop new.length)) 5),min b H.n⟩) ?_ ?_
  ·unfold DH
   rw[TA]
   simp only[hi,hlen,h1,hcells,NS,pA,KA]
   have e1:new.length≠0:=by omega
   have e2:s.length+new.length<=cap:=by omega
   rw[if_neg (by simp only[h2,hall,hrl];simp),if_neg e1]
   simp only[hb,e2,if_true,hspl,KA]
  ·have:=k (H.set b (.cells (row zT ((s++new)++r.drop new.length)) 5)) (by rw[kA]) (by rw[dA,if_pos ⟨rfl,hlt⟩]) (fun j hj=>by rw[dA,if_neg (fun g=>hj g.1)]) (min b H.n) (jA _)
   rw[qA] at this
   exact this
theorem qP(H:Heap):DH fA H 76 76 (.lit (.slice none 0 0)) (NB zT [])=some ⟨.lit (.slice none 0 0),H,H.n⟩:=by
 obtain⟨i,hi,h1,h2⟩:=F4
 unfold DH
 rw[TA]
 simp[hi,h1,h2,NS,mJ,cellsOf,row]
theorem mX{ls:List (List UInt8)}{i:Nat}{x:List UInt8}(h:ls[i]?=some x):(ls.take (i+1)).flatten=(ls.take i).flatten++x:=by
 obtain⟨hi,rfl⟩:=rA.1 h
 have:ls.take (i+1)=ls.take i++[ls[i]]:=by rw[yB,List.getElem?_eq_getElem hi];rfl
 rw[this,nH]
 simp
theorem T7(ls:List (List UInt8))(i:Nat):(ls.take i).flatten.length<=ls.flatten.length:=by
 have:ls.flatten=(ls.take i).flatten++(ls.drop i).flatten:=by rw[<-nH,eC]
 rw[this,qA];omega
theorem ac(ls:List (List UInt8))(hl:ls.length<=1048576)(hs:ls.flatten.length<=1048576)(H:Heap)(Q:OR->Prop)(hQ:∀X lo,H.n<=lo->(ls.flatten=[]->X=H)->(ls.flatten≠[]->X.n=H.n+1/\(∀j,j<H.n->X.get j=H.get j)/\X.get H.n=some (.cells (row zT ls.flatten) 5))->Q ⟨pG 1 ls.flatten H.n,X,lo⟩):MCall Cx 116 [NB aN ls] H Q:=by
 refine mB (fn:=Tryz.f116) Tryz.func116 rfl (by decide) (k:=36) rfl (rs:=[.tmp 2]) rfl ?_
 refine PA zm ?_
 simp -dsimp only[go_sem,bA,gA]
 refine PA zm ?_
 simp -dsimp only[go_sem,bA,gA]
 refine DC zm (ι:=Unit) (fun _=>[(0,NB aN ls),(3,vA ls.flatten.length)]) (fun _=>H) (fun _=>H.n) (fun _=>True) ?_ ?_
 ·simp -dsimp only[go_sem,bA,aA,reduceCtorEq,gA]
  refine sC zm (fun i:Nat=>[(0,NB aN ls),(3,vA (ls.take i).flatten.length),(9,NB aN ls),(10,vA ls.length),(11,vA i)]) (fun i=>i<=ls.length) (fun i=>ls.length-i) 0 (KB _) zSl ?_
  intro i hi
  have hle:=T7 ls i
  simp -dsimp only[go_sem,bA,aA,reduceCtorEq,zf,zh]
  refine aB (fun h=>?_) (fun h=>?_)
  ·obtain⟨x,hx⟩:=zu h
   have hle2:=T7 ls (i+1)
   rw[mX hx,qA] at hle2
   have e1:IntKind.i64.wrap (((ls.take i).flatten.length:Int)+(x.length:Int))=((ls.take (i+1)).flatten.length:Int):=by rw[mX hx,qA,zw (by omega) (by omega)];omega
   have e2:(((ls.take (i+1)).flatten.length:Int)<0)=False:=by simp
   simp -dsimp only[go_sem,bA,aA,reduceCtorEq,gA,h,z7 Jj hx,e1,e2]
   refine zAg (i+1) ?_
   exact h
  ·simp -dsimp only[go_sem,gA,h]
   have e3:ls.take i=ls:=uA (by omega)
   rw[e3]
   refine zAg (some ()) ?_
   trivial
 rintro⟨⟩ _
 refine PA zm ?_
 simp -dsimp only[go_sem,bA,aA,reduceCtorEq,zf,zh]
 by_cases h0:ls.flatten.length=0
 ·have hi0:((ls.flatten.length:Nat):Int)=0:=by omega
  rw[hi0]
  refine oB ?_
  simp -dsimp only[go_sem,bA,aA,reduceCtorEq,gA]
  refine dU _ _ ?_
  simp -dsimp only[go_sem,gA]
  refine PA zm ?_
  simp -dsimp only[go_sem,bA,aA,reduceCtorEq,gA]
  refine sC zm (fun i:Nat=>[(6,.lit (.slice none 0 0)),(25,NB aN ls),(26,vA ls.length),(27,vA i)]) (fun i=>i<=ls.length) (fun i=>ls.length-i) 0 (KB _) zSl ?_
  intro i hi
  simp -dsimp only[go_sem,bA,aA,zf,zh]
  refine aB (fun h=>?_) (fun h=>?_)
  ·obtain⟨x,hx⟩:=zu h
   have hle2:=T7 ls (i+1)
   rw[mX hx,qA] at hle2
   obtain rfl:x=[]:=WA.1 (by omega)
   simp -dsimp only[go_sem,bA,aA,h,z7 Jj hx]
   refine rB (qP _) ?_
   simp -dsimp only[go_sem,bA,aA,gA]
   refine zAg (i+1) ?_
   exact h
  ·simp -dsimp only[go_sem,gA,h]
   have h1:ls.flatten=[]:=WA.1 h0
   rw[h1] at hQ
   refine LB zm ?_
   simp -dsimp only[go_sem,bA,aA,gA]
   exact nB (hQ H _ (by omega) (fun _=>rfl) (fun h=>absurd rfl h))
 ·refine oB ?_
  simp -dsimp only[go_sem,bA,aA,reduceCtorEq,gA]
  refine rc ls.flatten.length (by omega) hs _ _ ?_
  simp -dsimp only[go_sem,gA]
  refine PA zm ?_
  simp -dsimp only[go_sem,bA,aA,reduceCtorEq]
  refine dD (ι:=Nat×Heap) (fun p=>[(6,.sl H.n 0 (ls.take p.1).flatten.length ls.flatten.length (some 1)),(25,NB aN ls),(26,vA ls.length),(27,vA p.1)]) (fun p=>p.2) (fun _=>H.n)
   (fun p=>p.1<=ls.length/\p.2.n=H.n+1/\(∀j,j<H.n->p.2.get j=H.get j)/\p.2.get H.n=some (.cells (row zT ((ls.take p.1).flatten++oA (ls.flatten.length-(ls.take p.1).flatten.length) 0)) 5)) (fun p=>ls.length-p.1) (0,H.push (.cells (row zT (oA ls.flatten.length 0)) 5)) ?_ ?_ ?_
  ·exact⟨KB _,iA ..,zj,by rw[yA,if_pos rfl];rfl⟩
  ·refine(MB (lo2:=H.n) (by omega)).trans (RB _ zSl)
  rintro⟨i,X⟩ ⟨hi,hn,ho,hg⟩
  simp only at hi hn ho hg ⊢
  refine PA zm ?_
  simp -dsimp only[go_sem,bA,aA,zf,zh]
  refine PA zm ?_
  simp -dsimp only[go_sem,aA]
  have hle:=T7 ls i
  refine aB (fun h=>?_) (fun h=>?_)
  ·obtain⟨x,hx⟩:=zu h
   have hle2:=T7 ls (i+1)
   have h2:=hle2
   rw[mX hx,qA] at hle2
   simp -dsimp only[go_sem,h]
   refine yC ?_
   refine MD ?_
   refine LB zm ?_
   simp -dsimp only[go_sem,bA,aA,h,z7 Jj hx]
   refine XX hg (by rw[LD];omega) (by rw[LD];omega) fun Y yn yg yo lo hlo=>?_
   have hmin:min H.n X.n=H.n:=by omega
   rw[hmin] at hlo
   simp -dsimp only[go_sem,bA,aA]
   refine LB zm ?_
   simp -dsimp only[go_sem,bA,aA]
   rw[<-mX hx] at yg ⊢
   refine zAg (i+1,Y) ?_
   dsimp only
   refine⟨h,by omega,fun j hj=>by rw[yo j (by omega),ho j hj],?_⟩
   have e5:ls.flatten.length-(ls.take i).flatten.length-x.length=ls.flatten.length-(ls.take (i+1)).flatten.length:=by
    rw[mX hx,qA];omega
   rw[yg,List.drop_replicate,e5]
  ·simp -dsimp only[go_sem,h]
   obtain rfl:i=ls.length:=by omega
   rw[FB,CE,lG,MA] at hg
   rw[FB]
   refine LB zm ?_
   simp -dsimp only[go_sem,bA,aA]
   have hne:ls.flatten≠[]:=fun e=>h0 (by rw[e];rfl)
   rw[<-ZR hne]
   exact nB (hQ X _ (by omega) (fun e=>absurd e hne) (fun _=>⟨hn,ho,hg⟩))
end
section
open Go Go.Tw
open Classical
theorem Again.wk{ι:Type}{C:Ctx}{nt:Nat}{ro:Option Nat}{H0:Heap}{S:ι->List (Nat×V)}{Hs:ι->Heap}{ls:ι->Nat}{inv:ι->Prop}{m:ι->Nat}{i:ι}{T:Tr V}{H H2:Heap}{lo lo2:Nat}{h:Hid (S,Hs,ls,inv,m,i)}(hk:HWk H H2 lo2)(hlo:lo2<=lo)(k:Again C nt ro H0 S Hs ls inv m i T H2 lo2 h):Again C nt ro H0 S Hs ls inv m i T H lo h:=by
 obtain⟨j,h1,h2,h3⟩:=k
 exact⟨j,h1,h2,(MB hlo).trans ((Sub.wk hk).trans h3)⟩
def DO(l:List GNode)(n:GNode):GNode:=if 0<EK l n.rev then⟨n.rev,n.parent,n.deleted,0,.zero⟩ else n
def BQ(l:List GNode)(r:GRev):Int:=BH (GH ((yJ l (zS l)).map (·.rev))).1 r
def iO(l:List GNode)(n:GNode):GNode:=if aH l n.parent then n else⟨n.rev,.zero,n.deleted,n.has,n.body⟩
def jM(l:List GNode):List GNode:=
 let l1:=l.map (DO l)
 let l2:=l1.filter fun n=>!decide (BQ l1 n.rev=0)
 l2.map (iO l2)
def DK(f:GNode->GNode)(l:List GNode)(i:Nat):List GNode:=(l.map f).take i++l.drop i
theorem fk(f:GNode->GNode)(l:List GNode)(i:Nat):(DK f l i).length=l.length:=by
 simp[DK];omega
theorem zmC{f:GNode->GNode}{l:List GNode}{i:Nat}{x:GNode}(hx:l[i]?=some x):(DK f l i)[i]?=some x:=by
 have hi:=(rA.1 hx).1
 have e:((l.map f).take i).length=i:=by simp;omega
 rw[DK,gC (by omega),e,CE,List.getElem?_drop,pE,hx]
theorem ziB{f:GNode->GNode}{l:List GNode}{i:Nat}{x:GNode}(hx:l[i]?=some x):(DK f l i).set i (f x)=DK f l (i+1):=by
 have hi:=(rA.1 hx).1
 have e:((l.map f).take i).length=i:=by simp;omega
 have hd:l.drop i=x::l.drop (i+1):=by
  rw[<-(rA.1 hx).2]
  exact DB hi
 rw[DK,DK,List.set_append_right _ _ (by omega),e,CE,hd,List.set_cons_zero,yB,uB,hx]
 simp
theorem zlJ{f:GNode->GNode}{l:List GNode}{i:Nat}{x:GNode}(hx:l[i]?=some x)(h:f x=x):DK f l (i+1)=DK f l i:=by
 rw[<-ziB hx,h,x7 (zmC hx)]
theorem znO{f:GNode->GNode}{l:List GNode}{i:Nat}(h:l.length<=i):DK f l i=l.map f:=by
 rw[DK,uC h,MA,uA (by simpa using h)]
theorem QP{f:GNode->GNode}(hf:∀n,(f n).rev=n.rev)(l:List GNode)(i:Nat):(DK f l i).map (·.rev)=l.map (·.rev):=by
 rw[DK,QC,<-List.map_take,List.map_map]
 have:((fun x:GNode=>x.rev)∘f)=fun x=>x.rev:=funext hf
 rw[this,<-QC,eC]
theorem oj(l:List GNode)(i:Nat):(SI l i).rev=(l.map (·.rev)).getD i .zero:=by
 rw[SI,DA,DA,uB]
 cases l[i]?<;>rfl
theorem eT{l m:List GNode}(h:l.map (·.rev)=m.map (·.rev))(r:GRev):CH l r=CH m r/\aH l r=aH m r:=by
 have hl:l.length=m.length:=by simpa using congrArg PB h
 have e1:CH l r=CH m r:=by
  unfold CH
  rw[hl]
  congr 1
  funext i
  rw[oj,oj,h]
 refine⟨e1,?_⟩
 unfold aH
 rw[e1,hl,oj,oj,h]
theorem zgI{l:List GNode}{i:Nat}{x:GNode}(hx:l[i]?=some x):row za l=row za (l.take i)++(za x++row za (l.drop (i+1)))/\(row za (l.take i)).length=i*41/\∀y,row za (l.set i y)=row za (l.take i)++(za y++row za (l.drop (i+1))):=by
 have hi:=(rA.1 hx).1
 have hd:l.drop i=x::l.drop (i+1):=by
  rw[<-(rA.1 hx).2]
  exact DB hi
 refine⟨?_,by rw[zr zg,JB,Nat.min_eq_left (Nat.le_of_lt hi)],fun y=>?_⟩
 ·rw[<-iJ,<-hd,<-TR,eC]
 ·rw[<-iJ,<-TR,List.set_eq_take_append_cons_drop,if_pos hi]
theorem KU{l:List GNode}{i:Nat}{x:GNode}(hx:l[i]?=some x):∃C1 C2,zD (row za l) (i*41+35) [vA 0]=some C1/\zD C1 (i*41+36) [vA 0,vA 0,gE .empty,.lit (.slice none 0 0),.lit (.slice none 0 0)]=some C2/\∀X,Fzs (fun _=>False) X C2 (row za (l.set i ⟨x.rev,x.parent,x.deleted,0,.zero⟩)):=by
 obtain⟨e,la,es⟩:=zgI hx
 have e1:row za l=(row za (l.take i)++(ze x.rev++(ze x.parent++[vA x.deleted])))++([vA x.has]++(zR x.body++row za (l.drop (i+1)))):=by rw[e];simp[za]
 have l1:(row za (l.take i)++(ze x.rev++(ze x.parent++[vA x.deleted]))).length=i*41+35:=by simp only[qA,la,zi,HA,SA]
 refine⟨_,(row za (l.take i)++(ze x.rev++(ze x.parent++[vA x.deleted,vA 0])))++([vA 0,vA 0,gE .empty,.lit (.slice none 0 0),.lit (.slice none 0 0)]++row za (l.drop (i+1))),by rw[e1];exact uf l1.symm rfl,?_,?_⟩
 ·have e2:(row za (l.take i)++(ze x.rev++(ze x.parent++[vA x.deleted])))++([vA 0]++(zR x.body++row za (l.drop (i+1))))=(row za (l.take i)++(ze x.rev++(ze x.parent++[vA x.deleted,vA 0])))++(zR x.body++row za (l.drop (i+1))):=by simp
  rw[e2]
  exact uf (by simp only[qA,la,zi,HA,SA]) (by rw[zF];rfl)
 ·intro X
  rw[es]
  have h:=Lj (Z:=fun _=>False) (X:=X) ⟨x.rev,x.parent,x.deleted,0,.zero⟩ (lv:=.lit (.slice none 0 0)) (kv:=.lit (.slice none 0 0)) .nil .nil
  have:=(Fzs.self (Z:=fun _=>False) (H:=X) (UH zK (l.take i))).append (h.append (Fzs.self (UH zK (l.drop (i+1)))))
  have e3:(row za (l.take i)++(ze x.rev++(ze x.parent++[vA x.deleted,vA 0])))++([vA 0,vA 0,gE .empty,.lit (.slice none 0 0),.lit (.slice none 0 0)]++row za (l.drop (i+1)))=row za (l.take i)++(WH ⟨x.rev,x.parent,x.deleted,0,.zero⟩ (cG .zero (.lit (.slice none 0 0)) (.lit (.slice none 0 0)))++row za (l.drop (i+1))):=by
   simp[WH,cG,GV.zero,GV.kind,GV.num,GV.text]
  rw[e3]
  exact this
theorem zpd{l:List GNode}{i:Nat}{x:GNode}(hx:l[i]?=some x)(p:GRev):zD (row za l) (i*41+17) (ze p)=some (row za (l.set i ⟨x.rev,p,x.deleted,x.has,x.body⟩)):=by
 obtain⟨e,la,es⟩:=zgI hx
 have e1:row za l=(row za (l.take i)++ze x.rev)++(ze x.parent++(vA x.deleted::vA x.has::(zR x.body++row za (l.drop (i+1))))):=by rw[e];simp[za]
 rw[e1,es,uf (by simp only[qA,la,zi]) (by rw[zi,zi])]
 simp[za]
theorem m_82(x:GNode)(c:MK)(clk q b:Nat)(H:Heap)(hq:H.get q=some (.cells [.mp b] 58))(hp:H.get b=some (.map (BI c) clk))(Q:OR->Prop)(hQ:Q ⟨.lit (.bool (decide (BH c x.rev=0))),H,H.n⟩):MCall Cx 82 [.agg (za x),.ptr q 0] H Q:=by
 have hbn:=zq hp
 have hqn:=zq hq
 refine QA zm (fn:=Tryz.f82) Tryz.func82 rfl (by decide) (k:=9) rfl (rs:=[.tmp 3]) rfl ?_
 simp -dsimp only[go_sem,bA,aA,cA,reduceCtorEq]
 have e1:(q=H.n)=False:=by simp;omega
 simp -dsimp only[go_sem,bA,aA,cA,reduceCtorEq,e1,hq]
 refine OV.intro (Z3 (c:=c) (clk:=clk) (by simp -dsimp only[go_sem,show(b=H.n)=False by simp;omega,hp]) x.rev) ?_
 simp -dsimp only[go_sem,bA,aA,cA,reduceCtorEq,gA]
 exact AA (by omega) rfl hQ
theorem yY(f:V)(H:Heap)(Q:OR->Prop)(hQ:Q ⟨.lit (.slice none 0 0),H,H.n⟩):MCall Cx 59 [.lit (.slice none 0 0),f] H Q:=by
 have hi:∀Q:OR->Prop,Q ⟨vA (-1),H,H.n⟩->MCall Cx 64 [.lit (.slice none 0 0),f] H Q:=fun Q hQ=>by
  refine QA zm (fn:=Tryz.f64) Tryz.func64 rfl (by decide) (k:=19) rfl (rs:=[.tmp 4]) rfl ?_
  simp -dsimp only[go_sem,bA,aA,cA,reduceCtorEq,gA]
  refine sC zm (fun _:Unit=>[(0,.lit (.slice none 0 0)),(1,f),(7,vA 0),(8,vA 0)]) (fun _=>True) (fun _=>0) () trivial zSl ?_
  rintro⟨⟩ _
  have e0:((0:Int)<0)=False:=by simp
  simp -dsimp only[go_sem,bA,aA,reduceCtorEq,gA,zf,zh,e0]
  exact nB hQ
 refine QA zm (fn:=Tryz.f59) Tryz.func59 rfl (by decide) (k:=42) rfl (rs:=[.tmp 4]) rfl ?_
 simp -dsimp only[go_sem,bA,aA,cA,reduceCtorEq]
 refine oB ?_
 simp -dsimp only[go_sem,bA,aA,cA,reduceCtorEq]
 refine hi _ ?_
 simp -dsimp only[go_sem,bA,aA,cA,reduceCtorEq,gA]
 exact nB hQ
theorem m_54(l:List GNode)(hl:l.length<=1048575)(n0 bw:Nat)(nv:V)(H:Heap)(hW:WorkC n0 bw H nv l)(Q:OR->Prop)
  (hQ:∀X nv',H.n<=X.n->(∀j,j<H.n->j≠bw->hJ nv≠some j->X.get j=H.get j)->(∀j,hJ nv'=some j->hJ nv=some j)->WorkC n0 bw X nv' (jM l)->Q ⟨.tup [],X,n0⟩):MCall Cx 54 [.ptr bw 0] H Q:=by
 have hbw:=zq hW.var
 have hn0:n0<=H.n:=by have:=hW.lo;omega
 refine mB (fn:=Tryz.f54) Tryz.func54 rfl (by decide) (k:=83) rfl (rs:=[]) rfl ?_
 refine PA zm ?_
 simp -dsimp only[go_sem,bA,reduceCtorEq]
 refine oB ?_
 simp -dsimp only[go_sem,bA,aA,reduceCtorEq,gA]
 refine yU l hl n0 bw nv H hW _ ?_
 have hp:IsPar l (H.push (mapM (l.map (·.parent)))) H.n:=zlr (by rw[yA,if_pos rfl])
 have hX:Gw H (H.push (mapM (l.map (·.parent)))):=.push
 have hn:(H.push (mapM (l.map (·.parent)))).n=H.n+1:=iA _ _
 generalize H.push (mapM (l.map (·.parent)))=U at hp hX hn ⊢
 simp -dsimp only[go_sem,gA]
 have wU:=hW.gw hX
 have lenU:∀Y,qH fA Y 22 nv=some (vA l.length):=fun Y=>hW.nod.s.len
 refine DC zm (ι:=Heap) (fun _=>[(0,.ptr bw 0)]) (fun X=>X) (fun _=>n0) (fun X=>H.n+1<=X.n/\(∀j,j<H.n->j≠bw->hJ nv≠some j->X.get j=H.get j)/\WorkC n0 bw X nv (l.map (DO l))) ?_ ?_
 ·simp -dsimp only[go_sem,bA,aA,reduceCtorEq,wU.var,lenU]
  refine WW.loop zm (ι:=Nat×Heap) (fun p=>[(0,.ptr bw 0),(2,.mp H.n),(14,nv),(15,vA l.length),(16,vA p.1)]) (fun p=>p.2) (fun _=>n0)
   (fun p=>p.1<=l.length/\H.n+1<=p.2.n/\(∀j,j<H.n->j≠bw->hJ nv≠some j->p.2.get j=H.get j)/\WorkC n0 bw p.2 nv (DK (DO l) l p.1)/\IsPar l p.2 H.n) (fun p=>l.length-p.1) (0,U) ⟨by omega,Nat.le_of_eq hn.symm,fun j hj _ _=>hX.old j hj,wU,hp⟩ ?_ ?_
  ·refine(MB (lo2:=n0) (by omega)).trans (RB _ zSl)
  rintro⟨i,X⟩ ⟨hi,xn,xo,xw,xp⟩
  simp only at hi xn xo xw xp ⊢
  simp -dsimp only[go_sem,bA,aA,reduceCtorEq,zf,zh]
  refine aB (fun h=>?_) (fun h=>?_)<;>simp -dsimp only[go_sem,bA,aA,reduceCtorEq,h]
  ·obtain⟨x,hx⟩:=zu h
   have hcl:=fk (DO l) l i
   have hcx:=zmC (f:=DO l) hx
   have hkn:hJ nv≠some H.n:=fun e=>by have:=(Mg hW.nod e).2.1;omega
   rcases xw.nod with⟨e0,_⟩|⟨k,rfl,hk1,hk2⟩
   ·rw[e0] at hcl;simp at hcl;omega
   have ltk:=zq hk2
   have hkb:k≠bw:=fun e=>xw.ne (by rw[e];rfl)
   have hkm:k≠H.n:=fun e=>hkn (by rw[<-e];rfl)
   rw[hcl] at xw hkn hW wU ⊢
   have hic:i<l.length:=h
   obtain⟨c,clk,p1,p2,p3⟩:=xp.ex
   obtain⟨X1,hX1⟩:∃X1,(X.push (.cells zNode 38)).set X.n (.cells (za x) 38)=X1:=⟨_,rfl⟩
   have a1:X1.n=X.n+1:=by rw[<-hX1,kA,iA]
   have a2:X1.get X.n=some (.cells (za x) 38):=by rw[<-hX1,dA,if_pos ⟨rfl,by rw[iA];omega⟩]
   have a3:Gw X X1:=⟨by omega,fun j hj=>by rw[<-hX1,dA,if_neg (fun h=>absurd h.1 (by omega)),zj j hj]⟩
   have hlook:aO fA X1 58 (.mp H.n) (.agg (ze x.rev)) false=some (vA ((EK l x.rev:Nat):Int)):=by rw[Z3 (c:=c) (clk:=clk) (a3.get p1) x.rev,p3]
   have e3:((0:Int)<((EK l x.rev:Nat):Int))=(0<EK l x.rev):=by simp
   have bv:=a3.get xw.var
   have bk:=a3.get hk2
   have ltk1:k<X1.n:=by omega
   obtain⟨C1,C2,sp1,sp2,fC⟩:=KU hcx
   simp -dsimp only[go_sem,bA,aA,reduceCtorEq,h,hk2,vX hcx,hX1,a2,hlook,e3]
   refine aB (fun h2=>?_) (fun h2=>?_)<;>simp -dsimp only[go_sem,bA,aA,reduceCtorEq,h2]
   ·refine DR.wr _ xA [(4,10)] (by kernel_rfl) (by kernel_rfl) ?_
    have vz:zG O1=some [vA 0,vA 0,gE .empty,.lit (.slice none 0 0),.lit (.slice none 0 0)]:=rfl
    have oz:([vA 0,vA 0,gE .empty,.lit (.slice none 0 0),.lit (.slice none 0 0)]:List V).all HB=true:=rfl
    simp -dsimp only[go_sem,bA,aA,reduceCtorEq,bv,h,bk,sp1,sp2,ltk1,vz,oz]
    generalize hX2:(X1.set k (.cells C1 38)).set k (.cells C2 38)=X2
    have b1:X2.n=X1.n:=by rw[<-hX2,kA,kA]
    have b2:X2.get k=some (.cells C2 38):=by rw[<-hX2,dA,if_pos ⟨rfl,by rw[kA];exact ltk1⟩]
    have b3:∀j,j≠k->X2.get j=X1.get j:=fun j hj=>by rw[<-hX2,dA,if_neg (fun h=>hj h.1),dA,if_neg (fun h=>hj h.1)]
    have hset:(DK (DO l) l i).set i ⟨x.rev,x.parent,x.deleted,0,.zero⟩=DK (DO l) l (i+1):=by
     rw[<-ziB hx,DO,if_pos h2]
    rw[hset] at fC
    refine Again.wk (H2:=X2.set k (.cells (row za (DK (DO l) l (i+1))) 38)) (HWk.fzs (lo:=n0) b2 hk1 fC) (by have:=xw.lo;omega) ?_
    have b4:∀j,j≠k->(X2.set k (.cells (row za (DK (DO l) l (i+1))) 38)).get j=X1.get j:=fun j hj=>by rw[dA,if_neg (fun h=>hj h.1),b3 j hj]
    refine zAg (i+1,X2.set k (.cells (row za (DK (DO l) l (i+1))) 38)) ?_
    dsimp only
    refine⟨h,by rw[kA];omega,fun j hj h1 h2=>?_,⟨xw.lo,by rw[b4 _ (fun e=>hkb e.symm)];exact bv,.inr ⟨k,by rw[fk],hk1,by rw[dA,if_pos ⟨rfl,by omega⟩]⟩,xw.ne⟩,c,clk,?_,p2,p3⟩
    ·have hjk:j≠k:=fun e=>h2 (by rw[e];rfl)
     rw[b4 j hjk,a3.old j (by omega),xo j hj h1 h2]
    ·rw[b4 _ (fun e=>hkm e.symm),a3.get p1]
   ·refine zAg (i+1,X1) ?_
    dsimp only
    refine⟨h,by omega,fun j hj h1 h2=>by rw[a3.old j (by omega),xo j hj h1 h2],?_,xp.gw a3⟩
    rw[zlJ hx (by rw[DO,if_neg h2])]
    have:=xw.gw a3
    exact this
  ·refine zAg (some X) ?_
   dsimp only
   rw[znO (by omega)] at xw
   exact⟨xn,xo,xw⟩
 ·rintro X ⟨x1,x2,x3⟩
  generalize hl1:l.map (DO l)=l1 at x3
  have hl1l:l1.length<=1048575:=by rw[<-hl1,bC];exact hl
  refine PA zm ?_
  simp -dsimp only[go_sem,bA,reduceCtorEq,zf,zh]
  refine oB ?_
  simp -dsimp only[go_sem,bA,aA,reduceCtorEq]
  refine AQ l1 hl1l n0 bw nv X x3 _ ?_
  generalize hks:(yJ l1 (zS l1)).map (·.rev)=ks
  simp -dsimp only[go_sem]
  generalize hY:((X.push (mapM ks)).push (.cells [.lit (.map none)] 58)).set (X.n+1) (.cells [.mp X.n] 58)=Y
  have y1:Y.n=X.n+2:=by rw[<-hY,kA,iA,iA]
  have y2:Y.get (X.n+1)=some (.cells [.mp X.n] 58):=by rw[<-hY,dA,if_pos ⟨rfl,by rw[iA,iA];omega⟩]
  have y3:Gw X Y:=⟨by omega,fun j hj=>by rw[<-hY,dA,if_neg (fun h=>absurd h.1 (by omega)),zj _ (by rw[iA];omega),zj _ hj]⟩
  have y4:Y.get X.n=some (mapM ks):=by rw[<-hY,dA,if_neg (fun h=>absurd h.1 (by omega)),zj _ (by rw[iA];omega),yA,if_pos rfl]
  have wY:=x3.gw y3
  have hlo:=hW.lo
  refine DC zm (ι:=Heap×V) (fun _=>[(0,.ptr bw 0)]) (fun p=>p.1) (fun _=>n0) (fun p=>H.n<=p.1.n/\(∀j,j<H.n->j≠bw->hJ nv≠some j->p.1.get j=H.get j)/\(∀j,hJ p.2=some j->hJ nv=some j)/\WorkC n0 bw p.1 p.2 (l1.filter fun n=>!decide (BQ l1 n.rev=0))) ?_ ?_
  ·rcases x3.nod with⟨e0,rfl⟩|⟨k,rfl,hk1,hk2⟩
   ·have vn:zG (.lit (.slice none 0 0))=some [.lit (.slice none 0 0)]:=rfl
    simp -dsimp only[go_sem,bA,aA,reduceCtorEq,wY.var]
    refine oB ?_
    simp -dsimp only[go_sem,bA,aA,reduceCtorEq]
    refine yY _ _ _ ?_
    have ltb:bw<Y.n:=by omega
    simp -dsimp only[go_sem,aA,reduceCtorEq,wY.var]
    refine zAg (some (Y.set bw (.cells [.lit (.slice none 0 0)] 55),.lit (.slice none 0 0))) ?_
    dsimp only
    refine⟨by rw[kA];omega,fun j hj h1 h2=>by rw[dA,if_neg (fun h=>h1 h.1),y3.old j (by omega),x2 j hj h1 h2],fun j h=>h,⟨hlo,by rw[dA,if_pos ⟨rfl,ltb⟩],.inl ⟨by rw[e0];rfl,rfl⟩,fun h=>by cases h⟩⟩
   ·have ltk:=zq hk2
    have hkb:k≠bw:=fun e=>x3.ne (by rw[e];rfl)
    have hkY:=y3.get hk2
    have ltb:bw<Y.n:=by omega
    have hpred:zqI (.fn (.func 82) [] [.ptr (X.n+1) 0]) k Y l1 (fun n=>decide (BQ l1 n.rev=0)):=fun Z hZ x hx Q hQ=>MVal.fn (m_82 x (GH ks).1 (GH ks).2 (X.n+1) X.n Z (by rw[hZ.old _ (by omega) (by omega),y2]) (by rw[hZ.old _ (by omega) (by omega),y4];rfl) Q (by rw[<-hks];exact hQ))
    have ln1:∀v:V,[v].length=1:=fun _=>rfl
    simp -dsimp only[go_sem,bA,aA,reduceCtorEq,wY.var]
    refine oB ?_
    simp -dsimp only[go_sem,bA,aA,reduceCtorEq]
    refine qd l1 _ _ (by omega) k Y hkY hpred _ ?_
    intro Z lo2 m tl hZ hlo2 hm htl hZk
    have zn:=hZ.n
    have zb:Z.get bw=some (.cells [.sl k 0 l1.length l1.length (some 41)] 55):=by rw[hZ.old _ ltb (Ne.symm hkb),wY.var]
    have ltz:bw<Z.n:=by omega
    simp -dsimp only[go_sem,aA,reduceCtorEq,zb]
    have hfl:(l1.filter fun n=>!decide (BQ l1 n.rev=0)).length<=l1.length:=tD _ _
    have s1:(Z.set bw (.cells [.sl k 0 m l1.length (some 41)] 55)).get bw=some (.cells [.sl k 0 m l1.length (some 41)] 55):=by rw[dA,if_pos ⟨rfl,ltz⟩]
    have s2:(Z.set bw (.cells [.sl k 0 m l1.length (some 41)] 55)).get k=some (.cells (row za (l1.filter fun n=>!decide (BQ l1 n.rev=0))++tl) 38):=by rw[dA,if_neg (fun h=>hkb h.1)];exact hZk
    have s3:∀j,j≠bw->(Z.set bw (.cells [.sl k 0 m l1.length (some 41)] 55)).get j=Z.get j:=fun j hj=>by rw[dA,if_neg (fun h=>hj h.1)]
    refine Again.wk (HWk.room (lo:=n0) (z:=41) s1 s2 (Ne.symm hkb) (by omega) (.inl rfl) hlo hk1) (by omega) ?_
    have t3:∀j,j≠bw->j≠k->(((Z.set bw (.cells [.sl k 0 m l1.length (some 41)] 55)).set bw (.cells [.sl k 0 m m (some 41)] 55)).set k (.cells (row za (l1.filter fun n=>!decide (BQ l1 n.rev=0))) 38)).get j=Z.get j:=fun j h1 h2=>by rw[dA,if_neg (fun h=>h2 h.1),dA,if_neg (fun h=>h1 h.1),s3 j h1]
    refine zAg (some (((Z.set bw (.cells [.sl k 0 m l1.length (some 41)] 55)).set bw (.cells [.sl k 0 m m (some 41)] 55)).set k (.cells (row za (l1.filter fun n=>!decide (BQ l1 n.rev=0))) 38),.sl k 0 m m (some 41))) ?_
    dsimp only
    refine⟨by rw[kA,kA,kA];omega,fun j hj h1 h2=>?_,fun j h=>h,⟨hlo,?_,.inr ⟨k,by rw[hm],hk1,by rw[dA,if_pos ⟨rfl,by rw[kA,kA];omega⟩]⟩,x3.ne⟩⟩
    ·have hjk:j≠k:=fun e=>h2 (by rw[e];rfl)
     rw[t3 j h1 hjk,hZ.old j (by omega) hjk,y3.old j (by omega),x2 j hj h1 h2]
    ·rw[dA,if_neg (fun h=>hkb h.1.symm),dA,if_pos ⟨rfl,by rw[kA];exact ltz⟩]
  ·rintro⟨R,nv2⟩ ⟨r1,r2,r3,r4⟩
   have hrp:jM l=(l1.filter fun n=>!decide (BQ l1 n.rev=0)).map (iO (l1.filter fun n=>!decide (BQ l1 n.rev=0))):=by rw[jM,hl1]
   have hl2l:(l1.filter fun n=>!decide (BQ l1 n.rev=0)).length<=1048575:=Nat.le_trans (tD _ _) hl1l
   generalize (l1.filter fun n=>!decide (BQ l1 n.rev=0))=l2 at r4 hrp hl2l
   simp only at r1 r2 r3 r4
   have lenR:∀Y,qH fA Y 22 nv2=some (vA l2.length):=fun Y=>r4.nod.s.len
   refine LB zm ?_
   simp -dsimp only[go_sem,bA,aA,reduceCtorEq,zf,zh,r4.var,lenR]
   refine WW.loop zm (ι:=Nat×Heap) (fun p=>[(0,.ptr bw 0),(61,nv2),(62,vA l2.length),(63,vA p.1)]) (fun p=>p.2) (fun _=>n0)
    (fun p=>p.1<=l2.length/\H.n<=p.2.n/\(∀j,j<H.n->j≠bw->hJ nv≠some j->p.2.get j=H.get j)/\WorkC n0 bw p.2 nv2 (DK (iO l2) l2 p.1)) (fun p=>l2.length-p.1) (0,R) ⟨by omega,r1,r2,r4⟩ ?_ ?_
   ·refine(MB (lo2:=n0) (by omega)).trans (RB _ zSl)
   rintro⟨i,X4⟩ ⟨hi,xn,xo,xw⟩
   simp only at hi xn xo xw ⊢
   simp -dsimp only[go_sem,bA,aA,reduceCtorEq,zf,zh]
   refine aB (fun h=>?_) (fun h=>?_)<;>simp -dsimp only[go_sem,bA,aA,reduceCtorEq,h]
   ·obtain⟨x,hx⟩:=zu h
    have hcl:=fk (iO l2) l2 i
    have hcx:=zmC (f:=iO l2) hx
    rcases xw.nod with⟨e0,_⟩|⟨k,rfl,hk1,hk2⟩
    ·rw[e0] at hcl;simp at hcl;omega
    have ltk:=zq hk2
    have hkb:k≠bw:=fun e=>xw.ne (by rw[e];rfl)
    have hkk:hJ nv=some k:=r3 k rfl
    obtain⟨X1,hX1⟩:∃X1,(X4.push (.cells zNode 38)).set X4.n (.cells (za x) 38)=X1:=⟨_,rfl⟩
    have a1:X1.n=X4.n+1:=by rw[<-hX1,kA,iA]
    have a2:X1.get X4.n=some (.cells (za x) 38):=by rw[<-hX1,dA,if_pos ⟨rfl,by rw[iA];omega⟩]
    have a3:Gw X4 X1:=⟨by omega,fun j hj=>by rw[<-hX1,dA,if_neg (fun h=>absurd h.1 (by omega)),zj j hj]⟩
    have w1:=xw.gw a3
    have bv:=a3.get xw.var
    have bk:=a3.get hk2
    have ltk1:k<X1.n:=by omega
    have hac:aH (DK (iO l2) l2 i) x.parent=aH l2 x.parent:=(eT (QP (fun n=>by unfold iO;split<;>rfl) l2 i) x.parent).2
    have sp:=zpd hcx .zero
    have vz:zG (.agg (ze .zero))=some (ze .zero):=rfl
    rw[hcl] at bv w1 ⊢
    simp -dsimp only[go_sem,bA,aA,reduceCtorEq,h,hk2,vX hcx,hX1,a2]
    refine oB ?_
    simp -dsimp only[go_sem,bA,aA,reduceCtorEq]
    refine UT (DK (iO l2) l2 i) (by rw[hcl];exact hl2l) n0 bw _ x.parent X1 w1 _ ?_
    rw[hac]
    cases hh:aH l2 x.parent
    ·simp -dsimp only[go_sem,aA,reduceCtorEq]
     refine DR.wr _ ((CA (AO) xA)) [(4,6)] (by kernel_rfl) (by kernel_rfl) ?_
     simp -dsimp only[go_sem,bA,aA,reduceCtorEq,bv,h,bk,sp,vz,zi,UR]
     have hset:(DK (iO l2) l2 i).set i ⟨x.rev,.zero,x.deleted,x.has,x.body⟩=DK (iO l2) l2 (i+1):=by
      rw[<-ziB hx,iO,if_neg (by rw[hh];exact Bool.false_ne_true)]
     rw[hset]
     refine zAg (i+1,X1.set k (.cells (row za (DK (iO l2) l2 (i+1))) 38)) ?_
     dsimp only
     have b4:∀j,j≠k->(X1.set k (.cells (row za (DK (iO l2) l2 (i+1))) 38)).get j=X1.get j:=fun j hj=>by rw[dA,if_neg (fun h=>hj h.1)]
     refine⟨h,by rw[kA];omega,fun j hj h1 h2=>?_,⟨xw.lo,by rw[b4 _ (fun e=>hkb e.symm)];exact bv,.inr ⟨k,by rw[fk],hk1,by rw[dA,if_pos ⟨rfl,ltk1⟩]⟩,w1.ne⟩⟩
     have hjk:j≠k:=fun e=>h2 (by rw[e];exact hkk)
     rw[b4 j hjk,a3.old j (by omega),xo j hj h1 h2]
    ·simp -dsimp only[go_sem,bA,aA,reduceCtorEq]
     refine zAg (i+1,X1) ?_
     dsimp only
     refine⟨h,by omega,fun j hj h1 h2=>by rw[a3.old j (by omega),xo j hj h1 h2],?_⟩
     rw[zlJ hx (by rw[iO,if_pos hh])]
     exact w1
   ·rw[znO (by omega),<-hrp] at xw
    exact Res.at (lo2:=n0) (by omega) (nB (h:=.mk) (hQ X4 nv2 xn xo r3 xw))
end
section
open Go Go.Tw
open Classical
theorem dc(l:List UInt8)(hl:l.length<=1048576)(H:Heap)(Q:OR->Prop)(hQ:∀X k lo,Gw H X->H.n<=lo->(l≠[]->H.n<=k/\X.get k=some (.cells (row zT l) 5))->Q ⟨XH 1 l k,X,lo⟩):MCall Cx 118 [NB zT l] H Q:=by
 have e1:∀cs n,jE fA .eql 76 (.ps cs n) (.lit (.slice none 0 0))=some (.lit (.bool false)):=W3 TA
 have e2:jE fA .eql 76 .void (.lit (.slice none 0 0))=some (.lit (.bool false)):=V2 TA
 have e3:jE fA .eql 76 (.lit (.slice none 0 0)) (.lit (.slice none 0 0))=some (.lit (.bool true)):=P3 TA
 have e4:∀H,zx fA H 76 0 []=some ⟨.sl H.n 0 0 0 none,H.push (.cells [] 5),H.n⟩:=fun H=>KS TA iM dM
 refine MCall.pn (fun h0 _=>?_) (fun h0 _=>?_) ?_
 ·have hl0:l=[]:=WA.1 h0
  subst hl0
  refine QA zm (fn:=Tryz.f118) rK rfl (by decide) (k:=8) rfl (rs:=[.tmp 2]) rfl ?_
  simp -dsimp only[go_sem,bA,aA,reduceCtorEq]
  simp -dsimp only[go_sem,bA,aA,reduceCtorEq,gA,e3]
  exact HC (.pn [] 0) (by omega) .nil (hQ H 0 H.n .refl (jA _) fun h=>absurd rfl h)
 ·have hl0:l=[]:=WA.1 h0
  subst hl0
  refine QA zm (fn:=Tryz.f118) rK rfl (by decide) (k:=8) rfl (rs:=[.tmp 2]) rfl ?_
  simp -dsimp only[go_sem,bA,aA,reduceCtorEq]
  simp -dsimp only[go_sem,bA,aA,reduceCtorEq,e2,e4]
  refine rB (gM (n:=0) (new:=[]) TA TA (by intro q h;cases h) MN dM uT rfl rfl rfl rfl (by omega)) ?_
  simp -dsimp only[go_sem,bA,aA,reduceCtorEq,gA]
  exact HC (.pn [] 0) (by omega) (Fz.slice 0 (jA _) (by simp -dsimp only[go_sem];rfl) (jA _) rfl rfl) (hQ H 0 H.n .refl (jA _) fun h=>absurd rfl h)
 ·refine QA zm (fn:=Tryz.f118) rK rfl (by decide) (k:=8) rfl (rs:=[.tmp 2]) rfl ?_
  simp -dsimp only[go_sem,bA,aA,reduceCtorEq]
  simp -dsimp only[go_sem,bA,aA,reduceCtorEq,e1,e4]
  refine rB (gM (n:=l.length) (new:=row zT l) TA TA (by intro q h;cases h) MN dM uT rfl ?_ (mL aV _) (zr wK l) hl) ?_
  ·show(if _ then _ else _)=_
   rw[if_pos ⟨jA _,by rw[zr wK];exact jA _⟩,<-zr wK l,FB]
  by_cases h0:l.length=0
  ·have hl0:l=[]:=WA.1 h0
   subst hl0
   simp -dsimp only[go_sem,bA,aA,reduceCtorEq,gA,h0]
   exact HC (.pn [] 0) (by omega) (Fz.slice 0 (jA _) (by simp -dsimp only[go_sem];rfl) (jA _) rfl rfl) (hQ H 0 H.n .refl (jA _) fun h=>absurd rfl h)
  ·have hne:l≠[]:=fun h=>h0 (by rw[h];rfl)
   simp -dsimp only[go_sem,bA,aA,cA,reduceCtorEq,gA,h0]
   have:=hQ ((H.push (.cells [] 5)).push (.cells (row zT l) 5)) (H.n+1) H.n (Gw.push.trans .push) (jA _) fun _=>⟨by omega,by simp -dsimp only[go_sem,reduceCtorEq]⟩
   rw[XH,if_neg hne] at this
   exact nB this
end
section
open Go Go.Tw
open Classical
def PC(h:List UInt32)(r n s:V):List V:=h.map qC++[r,n,s]
theorem rN{h:List UInt32}(hh:h.length=8)(r n s:V):(PC h r n s).length=11:=by simp[PC,hh]
theorem iN{h:List UInt32}(hh:h.length=8)(r n s:V):(PC h r n s)[8]?=some r:=by
 rw[PC,gC (by simp[hh])]
 simp[hh]
theorem j5{h:List UInt32}(hh:h.length=8)(r n s:V):(PC h r n s)[9]?=some n:=by
 rw[PC,gC (by simp[hh])]
 simp[hh]
theorem DT{h:List UInt32}(hh:h.length=8)(r n s:V):(PC h r n s)[10]?=some s:=by
 rw[PC,gC (by simp[hh])]
 simp[hh]
theorem dg0{h:List UInt32}(hh:h.length=8)(r n s:V):(PC h r n s)[0]?=some (qC (h.getD 0 0)):=by
 rw[PC,List.getElem?_append_left (by simp[hh])]
 exact BG (by omega)
theorem Fh{h:List UInt32}(hh:h.length=8)(r n s:V):QE fA 125 (PC h r n s) 0=some (.agg (h.map qC)):=by
 rw[TM fA _ zqF zmX,if_pos (by rw[rN hh];omega),UA,PC,List.take_left' (by simp[hh])]
theorem ET{h:List UInt32}(hh:h.length=8)(r n s:V):QE fA 127 (PC h r n s) 0=some (.agg (PC h r n s)):=Y1 VS oR (rN hh ..)
theorem m5{h:List UInt32}(hh:h.length=8)(r n s x:V):zD (PC h r n s) 8 [x]=some (PC h x n s):=by
 have:=eN (h.map qC) [r] [n,s] [x] (o:=8) (by simp[hh]) rfl
 simpa[PC] using this
theorem ds9{h:List UInt32}(hh:h.length=8)(r n s x:V):zD (PC h r n s) 9 [x]=some (PC h r x s):=by
 have:=eN (h.map qC++[r]) [n] [s] [x] (o:=9) (by simp[hh]) rfl
 simpa[PC] using this
theorem ds0{h g:List UInt32}(hh:h.length=8)(hg:g.length=8)(r n s:V):zD (PC h r n s) 0 (g.map qC)=some (PC g r n s):=by
 have:=eN [] (h.map qC) [r,n,s] (g.map qC) (o:=0) rfl (by simp[hh,hg])
 simpa[PC] using this
theorem SP{h g:List UInt32}(hh:h.length=8)(hg:g.length=8)(r n s r' n' s':V):zD (PC h r n s) 0 (PC g r' n' s')=some (PC g r' n' s'):=DM _ _ (by rw[rN hh,rN hg])
theorem Na{h:List UInt32}(hh:h.length=8)(x:UInt32)(r n s:V):zD (PC h r n s) 0 [qC x]=some (PC (h.set 0 x) r n s):=by
 obtain⟨a,l,rfl⟩:∃a l,h=a::l:=by
  cases h with
  | nil=>simp at hh
  | cons a l=>exact⟨a,l,rfl⟩
 have:=eN [] [qC a] (l.map qC++[r,n,s]) [qC x] (o:=0) rfl rfl
 simpa[PC] using this
theorem XR(h:List UInt32){r n s:V}(hr:HB r=true)(hn:HB n=true)(hs:HB s=true):(PC h r n s).all HB=true:=by
 rw[PC,List.all_append,RR]
 simp[hr,hn,hs]
@[go_sem] theorem Vf:zE fA 127=some (PC (oA 8 0) (.lit (.slice none 0 0)) (TC 0) (vA 0)):=by kernel_rfl
noncomputable def PV:List V->Heap->Option OR:=PL (fun p:Int=>match p with|n=>[vA n]) fun p=>match p with|n=>.lit (.bool (decide (1<=n)&&decide (n<=32)))
theorem Yb(n:Int)(H:Heap)(Q:OR->Prop)(hQ:Q ⟨.lit (.bool (decide (1<=n)&&decide (n<=32))),H,H.n⟩):MCall Cx 114 [vA n] H Q:=by
 refine QA zm (fn:=Tryz.f114) Tryz.func114 rfl (by decide) (k:=9) rfl (rs:=[.tmp 2]) rfl ?_
 simp -dsimp only[go_sem,bA,aA,reduceCtorEq]
 refine GD.dec (fun h1=>?_) (fun h1=>?_)<;>simp -dsimp only[go_sem,bA,aA,reduceCtorEq,gA,h1]
 ·refine AA (by omega) rfl ?_
  simpa[h1] using hQ
 ·refine AA (by omega) rfl ?_
  simpa[h1] using hQ
theorem EQ:CI Cx 114 PV:=EM fun p H Q hQ=>match p,hQ with|n,hQ=>Yb n H Q hQ
@[go_sem] theorem e_114(n:Int)(H:Heap):PV [vA n] H=some ⟨.lit (.bool (decide (1<=n)&&decide (n<=32))),H,H.n⟩:=FM (by simp+contextual) n H
theorem ZP(b:UInt8):VJ (zT b)=true:=rfl
def aM(s:vM):V:=.agg (PC s.h (NB zT s.rest) (TC s.n) (vA 16))
theorem Df(l:List UInt32):QF (l.map qC)=true:=o7 l
theorem zp5{Z:Nat->Prop}{H:Heap}(h:List UInt32){r u n s:V}(hr:Fz Z H r u)(hn:V.bf n=true)(hs:V.bf s=true):Fz Z H (.agg (PC h r n s)) (.agg (PC h u n s)):=
 .agg _ _ ((Fzs.self (Df h)).append (.cons _ _ _ _ hr (.cons _ _ _ _ (.self _ hn) (.cons _ _ _ _ (.self _ hs) .nil))))
theorem zpm{f:Nat->Option Nat}{Z:Nat->Prop}{H:Heap}(h:List UInt32){v u n s:V}{e:TypeId}(hv:RN f Z H v u)(hn:V.bf n=true)(hs:V.bf s=true):RNb f Z H (.cells (PC h v n s) e) (.cells (PC h u n s) e):=
 RNb.cells (by simp[PC]) (RNs.append (.self (Df h)) (.cons hv (RNs.self (by simp[QF,hn,hs]))) rfl)
@[go_sem] theorem V4:fL fA 127 [(0,.agg (ivW.map qC)),(3,vA 16)]=some (.agg (PC ivW (.lit (.slice none 0 0)) (TC 0) (vA 16))):=by kernel_rfl
theorem m_96(H:Heap)(Q:OR->Prop)(hQ:Q ⟨.tup [aM (QI 16),vA 0],H,H.n⟩):MCall Cx 96 [vA 16] H Q:=by
 refine mB (fn:=Tryz.f96) Tryz.func96 rfl (by decide) (k:=22) rfl (rs:=[.cell 2 127,.tmp 3]) rfl ?_
 have r8:(oA 8 (0:UInt32)).length=8:=rfl
 refine PA zm ?_
 simp -dsimp only[go_sem,bA,gA]
 refine PA zm ?_
 simp -dsimp only[go_sem,bA,aA,reduceCtorEq]
 refine aD _ ((CA (EQ) xA)) ?_
 have e1:((1:Int)<=16)=True:=by simp
 have e2:((16:Int)<=32)=True:=by simp
 simp -dsimp only[go_sem,bA,aA,reduceCtorEq,e1,e2]
 refine PA zm ?_
 simp -dsimp only[go_sem,bA]
 refine aD _ ((CA (FQ) xA)) ?_
 have o1:(PC ivW (.lit (.slice none 0 0)) (TC 0) (vA 16)).all HB=true:=XR ivW rfl rfl rfl
 simp -dsimp only[go_sem,bA,aA,cA,reduceCtorEq,rN d4,SP r8 d4,o1]
 have w1:IntKind.u32.wrap 16=(((16:UInt32).toNat:Nat):Int):=by decide
 have w2:(16842752:Int)=(((16842752:UInt32).toNat:Nat):Int):=by decide
 refine PA zm ?_
 generalize hiv:ivW=iv
 have liv:iv.length=8:=by rw[<-hiv];rfl
 simp -dsimp only[go_sem,bA,aA,cA,reduceCtorEq,w1,w2,dg0 liv,Na liv]
 refine LB zm ?_
 have l2:(iv.set 0 (iv.getD 0 0 ^^^ (16842752 ^^^ 16))).length=8:=by rw[qB,liv]
 have o2:(PC (iv.set 0 (iv.getD 0 0 ^^^ (16842752 ^^^ 16))) (.lit (.slice none 0 0)) (TC 0) (vA 16)).all HB=true:=XR _ rfl rfl rfl
 simp -dsimp only[go_sem,bA,aA,cA,reduceCtorEq,ET l2,rN l2,o2,SP r8 l2]
 refine HC _ (by omega) (.tup _ _ (.cons _ _ _ _ (zp5 _ .nil rfl rfl) (.cons _ _ _ _ (.self _ rfl) .nil))) ?_
 have e3:QI 16=⟨iv.set 0 (iv.getD 0 0 ^^^ (16842752 ^^^ 16)),[],0⟩:=by rw[<-hiv];rfl
 rw[e3] at hQ
 exact hQ
theorem zi6{l:List UInt8}(h:64<=l.length):(V.pn ((row zT l).take 64) 64)=NB zT (l.take 64):=by
 have e:(l.take 64).length=64:=by rw[JB];omega
 have:=qO wK l 64
 rw[wB] at this
 rw[NB,e,this]
theorem zjE{l:List UInt8}:(V.pn (((row zT l).drop 64).take ((l.length-64)*1)) (l.length-64))=NB zT (l.drop 64):=by
 have:=gg wK l 64
 rw[wB] at this
 have h2:(row zT (l.drop 64)).length=l.length-64:=by rw[zr wK,ZB];omega
 rw[NB,ZB,this,wB,uA (by omega)]
theorem TW(cs:List V)(n:Nat):lH fA 76 (.pn cs n) none (some (vA 64)) none=if 64<=n then some (.pn (cs.take (64*1)) 64) else none:=N0 cs n .i64 64
theorem UW(cs:List V)(n:Nat):lH fA 76 (.pn cs n) (some (vA 64)) none none=if 64<=n then some (.pn ((cs.drop (64*1)).take ((n-64)*1)) (n-64)) else none:=Q0 cs n .i64 64
theorem jd(s:vM)(hs:s.h.length=8)(hn:s.n<18446744073709551616)(b:List UInt8)(hl:s.rest.length+b.length<=1048576)(H:Heap)(Q:OR->Prop)(hQ:Q ⟨aM (HI s b),H,H.n⟩):MCall Cx 97 [aM s,NB zT b] H Q:=by
 refine mB (fn:=Tryz.f97) Tryz.func97 rfl (by decide) (k:=37) rfl (rs:=[.cell 4 127]) rfl ?_
 have r8:(oA 8 (0:UInt32)).length=8:=rfl
 obtain⟨h,rest,n⟩:=s
 simp only at hs hn hl
 simp only[aM]
 refine PA zm ?_
 simp -dsimp only[go_sem,bA,cA,reduceCtorEq,gA]
 refine PA zm ?_
 simp -dsimp only[go_sem,bA,aA,cA,reduceCtorEq,iN hs,qT _ (NB zT rest) (NB zT b) _ _ rfl rfl rfl rfl]
 refine oB ?_
 simp -dsimp only[go_sem,bA,aA,reduceCtorEq]
 generalize hB3:((H.push (.cells (PC h (NB zT rest) (TC n) (vA 16)) 127)).push (.cells (PC (oA 8 0) (.lit (.slice none 0 0)) (TC 0) (vA 0)) 127)).push (.cells [NB zT rest,NB zT b] 76)=B3
 have b3n:B3.n=H.n+3:=by rw[<-hB3];simp -dsimp only[go_sem,cA]
 have b30:B3.get H.n=some (.cells (PC h (NB zT rest) (TC n) (vA 16)) 127):=by rw[<-hB3];simp -dsimp only[go_sem,cA,reduceCtorEq]
 have b31:B3.get (H.n+1)=some (.cells (PC (oA 8 0) (.lit (.slice none 0 0)) (TC 0) (vA 0)) 127):=by rw[<-hB3];simp -dsimp only[go_sem,aA,cA,reduceCtorEq]
 have b32:B3.get (H.n+2)=some (.cells [NB zT rest,NB zT b] 76):=by rw[<-hB3];simp -dsimp only[go_sem,aA,cA,reduceCtorEq]
 have b3o:∀j,j<H.n->B3.get j=H.get j:=fun j hj=>by rw[<-hB3,zj _ (by rw[iA,iA];omega),zj _ (by rw[iA];omega),zj _ hj]
 clear hB3
 have hflat:[rest,b].flatten=rest++b:=by simp
 refine MCall.lend_own (args':=[NB aN [rest,b]]) (.one (Fz.slice 2 trivial b32 (jA _) rfl (UH zqq _))) (ac [rest,b] (by simp) (by rw[hflat,qA];exact hl) B3 (fun r=>∃X,r.v=pG 1 (rest++b) B3.n/\r.H=X/\B3.n<=X.n/\(∀j,j<B3.n->X.get j=B3.get j)/\X.n<=B3.n+1/\(X.n=B3.n\/rest++b≠[])/\(rest++b≠[]->X.get B3.n=some (.cells (row zT (rest++b)) 5))) fun X lo _ h0 h1=>?_) ?_
 ·rw[hflat] at h0 h1
  refine⟨X,by rw[hflat],rfl,?_⟩
  by_cases e:rest++b=[]
  ·have:=h0 e
   subst this
   exact⟨jA _,fun _ _=>rfl,by omega,.inl rfl,fun h=>absurd e h⟩
  ·obtain⟨k1,k2,k3⟩:=h1 e
   exact⟨by omega,k2,by omega,.inr e,fun _=>k3⟩
 rintro r ⟨X,hv,rfl,xn,xo,xn2,xe,xc⟩
 refine⟨?_,xo,fun j hj1 hj2=>?_,?_⟩
 ·rw[hv]
  by_cases e:rest++b=[]
  ·rw[e];rfl
  ·rw[ZR e];rfl
 ·rcases xe with xe|xe
  ·omega
  ·obtain rfl:j=B3.n:=by omega
   exact⟨_,_,xc xe,zp7 ZP _⟩
 rw[hv]
 generalize r.H=X at xn xo xn2 xe xc
 clear hv r
 have x0:X.get H.n=some (.cells (PC h (NB zT rest) (TC n) (vA 16)) 127):=by rw[xo _ (by omega),b30]
 have vcb:zG (pG 1 (rest++b) B3.n)=some [pG 1 (rest++b) B3.n]:=by
  by_cases e:rest++b=[]
  ·rw[e];rfl
  ·rw[ZR e];rfl
 have vob:[pG 1 (rest++b) B3.n].all HB=true:=by
  by_cases e:rest++b=[]
  ·rw[e];rfl
  ·rw[ZR e];rfl
 simp -dsimp only[go_sem,aA,cA,reduceCtorEq,x0,vcb,vob,m5 hs]
 have lB:∀B,(X.set H.n B).get (H.n+1)=X.get (H.n+1):=fun B=>by rw[dA,if_neg (fun g=>absurd g.1 (by omega))]
 refine WW.frz [.cells (PC h (NB zT (rest++b)) (TC n) (vA 16)) 127,.cells (PC (oA 8 0) (.lit (.slice none 0 0)) (TC 0) (vA 0)) 127] [(2,.ptr H.n 0),(4,.ptr (H.n+1) 0)] ?_ ?_ ?_ (fun b e=>nomatch e) ?_ ?_ ?_
 ·rw[kA];simp only[HA,SA];omega
 ·intro j hj
  rw[dA,if_neg (fun g=>absurd g.1 (by omega)),xo j (by omega),b3o j hj]
 ·omega
 ·intro i B hB
  match i,hB with
  | 0,hB=>
   injection hB with hB
   subst hB
   exact⟨_,by rw[pE,dA,if_pos ⟨rfl,by omega⟩],zpm h (RN.fz (Fz.buf wK UM (fun _=>by simp only[HA,SA];omega) (fun e=>by rw[dA,if_neg (fun g=>absurd g.1 (by omega)),xc e]))) rfl rfl⟩
  | 1,hB=>
   injection hB with hB
   subst hB
   exact⟨_,by rw[lB,xo _ (by omega),b31],RNb.one (by rw[PC,nN,Df];rfl)⟩
  | i+2,hB=>simp at hB
 ·intro p hp
  simp only[List.mem_cons,JA,or_false] at hp
  rcases hp with rfl|rfl
  ·exact RN.same (by simp -dsimp only[go_sem,aA,reduceCtorEq]) (by simp[V.ok])
  ·exact RN.same (by simp -dsimp only[go_sem,aA,reduceCtorEq]) (by simp[V.ok])
 clear x0 vcb vob lB xn xo xn2 xe xc b3n b30 b31 b32 b3o hflat
 have hp:Heap.pushes H [.cells (PC h (NB zT (rest++b)) (TC n) (vA 16)) 127,.cells (PC (oA 8 0) (.lit (.slice none 0 0)) (TC 0) (vA 0)) 127]=(H.push (.cells (PC h (NB zT (rest++b)) (TC n) (vA 16)) 127)).push (.cells (PC (oA 8 0) (.lit (.slice none 0 0)) (TC 0) (vA 0)) 127):=rfl
 rw[hp]
 generalize hY:(H.push (.cells (PC h (NB zT (rest++b)) (TC n) (vA 16)) 127)).push (.cells (PC (oA 8 0) (.lit (.slice none 0 0)) (TC 0) (vA 0)) 127)=Y
 have yn:Y.n=H.n+2:=by rw[<-hY];simp -dsimp only[go_sem,cA]
 have y0:Y.get H.n=some (.cells (PC h (NB zT (rest++b)) (TC n) (vA 16)) 127):=by rw[<-hY];simp -dsimp only[go_sem,reduceCtorEq]
 have y1:Y.get (H.n+1)=some (.cells (PC (oA 8 0) (.lit (.slice none 0 0)) (TC 0) (vA 0)) 127):=by rw[<-hY];simp -dsimp only[go_sem,reduceCtorEq]
 clear hp hY
 refine DC zm (ι:=Heap) (fun _=>[(2,.ptr H.n 0),(4,.ptr (H.n+1) 0)]) (fun p=>p) (fun _=>H.n) (fun p=>H.n+2<=p.n/\p.get H.n=some (.cells (PC (HI ⟨h,rest,n⟩ b).h (NB zT (HI ⟨h,rest,n⟩ b).rest) (TC (HI ⟨h,rest,n⟩ b).n) (vA 16)) 127)/\p.get (H.n+1)=some (.cells (PC (oA 8 0) (.lit (.slice none 0 0)) (TC 0) (vA 0)) 127)) ?_ ?_
 ·simp -dsimp only[go_sem]
  refine dD (ι:=vM×Heap) (fun p=>[(2,.ptr H.n 0),(4,.ptr (H.n+1) 0)]) (fun p=>p.2) (fun _=>H.n) (fun p=>p.2.n=H.n+2/\p.1.h.length=8/\p.1.n<18446744073709551616/\p.1.rest.length<=1048576/\FL p.1.h p.1.n p.1.rest=HI ⟨h,rest,n⟩ b/\p.2.get H.n=some (.cells (PC p.1.h (NB zT p.1.rest) (TC p.1.n) (vA 16)) 127)/\p.2.get (H.n+1)=some (.cells (PC (oA 8 0) (.lit (.slice none 0 0)) (TC 0) (vA 0)) 127)) (fun p=>p.1.rest.length) (⟨h,rest++b,n⟩,Y) ?_ ?_ ?_
  ·exact⟨yn,hs,hn,by rw[qA];exact hl,rfl,y0,y1⟩
  ·refine(MB (lo2:=H.n) (by omega)).trans (RB _ zSl)
  rintro⟨⟨g,l,m⟩,X⟩ ⟨xn,hg,hm,hll,hgo,x0,x1⟩
  simp only at xn hg hm hll hgo x0 x1 ⊢
  refine PA zm ?_
  simp -dsimp only[go_sem,bA,aA,zf,zh,x0,iN hg]
  refine aB (fun k=>?_) (fun k=>?_)<;>simp -dsimp only[go_sem,k]
  ·have k64:64<l.length:=by omega
   have k64':64<=l.length:=by omega
   refine MD ?_
   have w1:IntKind.u64.wrap ((m:Int)+64)=(((m+64) % 18446744073709551616:Nat):Int):=by
    rw[show(m:Int)+64=((m+64:Nat):Int) by omega,T6]
   have hm2:(m+64) % 18446744073709551616<18446744073709551616:=NH _ (by omega)
   refine PA zm ?_
   simp -dsimp only[go_sem,bA,aA,x0,j5 hg,w1,ds9 hg]
   generalize hm':(m+64) % 18446744073709551616=m' at hm2
   have z0:(X.set H.n (.cells (PC g (NB zT l) (TC m') (vA 16)) 127)).get H.n=some (.cells (PC g (NB zT l) (TC m') (vA 16)) 127):=by rw[dA,if_pos ⟨rfl,by omega⟩]
   have z1:(X.set H.n (.cells (PC g (NB zT l) (TC m') (vA 16)) 127)).get (H.n+1)=some (.cells (PC (oA 8 0) (.lit (.slice none 0 0)) (TC 0) (vA 0)) 127):=by rw[dA,if_neg (fun g=>absurd g.1 (by omega)),x1]
   have zn:(X.set H.n (.cells (PC g (NB zT l) (TC m') (vA 16)) 127)).n=H.n+2:=by rw[kA,xn]
   generalize X.set H.n (.cells (PC g (NB zT l) (TC m') (vA 16)) 127)=Z at z0 z1 zn
   refine yC ?_
   refine BD zm 9 (by decide) (by kernel_rfl) ?_
   dsimp only[NA,iB]
   refine JC _ ((CA (wN (rW g hg (l.take 64) (by rw[JB];omega) m' false Z _ rfl)) xA)) (by kernel_rfl) ?_
   simp -dsimp only[go_sem,bA,aA,qE,z0,Fh hg,iN hg,j5 hg,TW,k64',zi6 k64']
   have lg:(oL g (l.take 64) m' false).length=8:=kg ..
   generalize hg':oL g (l.take 64) m' false=g' at lg
   simp -dsimp only[go_sem,bC,lg,RR,ds0 hg lg]
   have u0:(Z.set H.n (.cells (PC g' (NB zT l) (TC m') (vA 16)) 127)).get H.n=some (.cells (PC g' (NB zT l) (TC m') (vA 16)) 127):=by rw[dA,if_pos ⟨rfl,by omega⟩]
   have u1:(Z.set H.n (.cells (PC g' (NB zT l) (TC m') (vA 16)) 127)).get (H.n+1)=some (.cells (PC (oA 8 0) (.lit (.slice none 0 0)) (TC 0) (vA 0)) 127):=by rw[dA,if_neg (fun g=>absurd g.1 (by omega)),z1]
   have un:(Z.set H.n (.cells (PC g' (NB zT l) (TC m') (vA 16)) 127)).n=H.n+2:=by rw[kA,zn]
   generalize Z.set H.n (.cells (PC g' (NB zT l) (TC m') (vA 16)) 127)=U at u0 u1 un
   refine LB zm ?_
   simp -dsimp only[go_sem,bA,aA,qE,u0,iN lg,UW,k64',zjE,m5 lg]
   have hdl:(l.drop 64).length=l.length-64:=ZB ..
   refine zAg (⟨g',l.drop 64,m'⟩,U.set H.n (.cells (PC g' (NB zT (l.drop 64)) (TC m') (vA 16)) 127)) ?_
   ·dsimp only
    refine⟨by rw[kA,un],lg,hm2,by rw[ZB];omega,?_,by rw[dA,if_pos ⟨rfl,by omega⟩],by rw[dA,if_neg (fun g=>absurd g.1 (by omega)),u1]⟩
    rw[<-hgo,m7 k64,hm',hg']
  ·have k64:l.length<=64:=by omega
   rw[XU k64] at hgo
   refine zAg (some X) ?_
   dsimp only
   rw[<-hgo]
   exact⟨by omega,x0,x1⟩
 ·rintro X ⟨xn,x0,x1⟩
  have hw:=yj _ h n (rest++b) (jA _) hs hn
  have hwr:=zgQ _ h n (rest++b) (jA _)
  rw[qA] at hwr
  generalize hr:HI ⟨h,rest,n⟩ b=w at x0 hQ
  have hr2:FL h n (rest++b)=w:=hr
  rw[hr2] at hw hwr
  obtain⟨w1,w2,w3⟩:=hw
  refine PA zm ?_
  simp -dsimp only[go_sem,bA,aA,zf,zh,x0,iN w1]
  refine oB ?_
  simp -dsimp only[go_sem,bA,aA]
  refine dc w.rest (by omega) X _ fun Y k lo gY hlo hk=>?_
  have y0':=gY.get x0
  have y1':=gY.get x1
  have yn':=gY.n
  have vcc:zG (XH 1 w.rest k)=some [XH 1 w.rest k]:=by
   unfold XH;split<;>rfl
  have voc:[XH 1 w.rest k].all HB=true:=by
   unfold XH;split<;>rfl
  simp -dsimp only[go_sem,y0',vcc,voc,m5 w1]
  refine LB zm ?_
  have z0:(Y.set H.n (.cells (PC w.h (XH 1 w.rest k) (TC w.n) (vA 16)) 127)).get H.n=some (.cells (PC w.h (XH 1 w.rest k) (TC w.n) (vA 16)) 127):=by rw[dA,if_pos ⟨rfl,by omega⟩]
  have z1:(Y.set H.n (.cells (PC w.h (XH 1 w.rest k) (TC w.n) (vA 16)) 127)).get (H.n+1)=some (.cells (PC (oA 8 0) (.lit (.slice none 0 0)) (TC 0) (vA 0)) 127):=by rw[dA,if_neg (fun g=>absurd g.1 (by omega)),y1']
  have zk:w.rest≠[]->X.n<=k/\(Y.set H.n (.cells (PC w.h (XH 1 w.rest k) (TC w.n) (vA 16)) 127)).get k=some (.cells (row zT w.rest) 5):=fun e=>by
   obtain⟨k1,k2⟩:=hk e
   exact⟨k1,by rw[dA,if_neg (fun g=>absurd g.1 (by omega)),k2]⟩
  have zn:(Y.set H.n (.cells (PC w.h (XH 1 w.rest k) (TC w.n) (vA 16)) 127)).n=Y.n:=by rw[kA]
  generalize Y.set H.n (.cells (PC w.h (XH 1 w.rest k) (TC w.n) (vA 16)) 127)=Z at z0 z1 zn zk
  have od:(PC w.h (XH 1 w.rest k) (TC w.n) (vA 16)).all HB=true:=XR _ (by simpa using voc) rfl rfl
  have hlt:H.n+1<Z.n:=by omega
  simp -dsimp only[go_sem,bA,aA,z0,z1,ET w1,rN w1,od,SP r8 w1,hlt]
  refine HC _ (by omega) (zp5 w.h (u:=NB zT w.rest) ?_ rfl rfl) hQ
  by_cases e:w.rest=[]
  ·rw[XH,if_pos e,e]
   exact .self _ rfl
  ·obtain⟨k1,k2⟩:=zk e
   rw[XH,if_neg e]
   exact Fz.slice (w.rest.length*1) (by omega) (by rw[dA,if_neg (fun g=>absurd g.1 (by omega)),k2]) (jA _) (by rw[UA,qO wK,FB]) (UH UM _)
end
section
open Go Go.Tw
open Classical
@[go_sem] theorem uj:zE fA 143=some (row zT (oA 64 0)):=by kernel_rfl
theorem EP(s:vM):V.bf (aM s)=true:=by
 show QF (PC s.h _ _ _)=true
 rw[PC,nN,Df]
 simp[QF,V.bf,UH UM]
theorem zi1{s:vM}(h:s.rest.length<=64):HI s []=s:=by
 rw[HI,MA,XU h]
theorem znC(l:List UInt32):V.fl (.agg (l.map qC))=true:=by
 show VJ (l.map qC)=true
 induction l with
 | nil=>rfl
 | cons x l ih=>simp[VJ,V.fl,ih]
theorem yR(x:UInt32):IntKind.u8.wrap (x.toNat:Int)=((x.toUInt8).toNat:Int):=by
 simp only[IntKind.wrap,IntKind.bits,IntKind.signed]
 simp
theorem zmD{H:Heap}{b:Nat}{rest:List UInt8}{n:Nat}{e:TypeId}(hb:H.get b=some (.cells (row zT (oA n 0)) e))(hr:rest.length<=n):
  xO fA H 76 (.sl b 0 n n none) (NB zT rest)=some ⟨.lit (.int .i64 (min rest.length n:Nat)),H.set b (.cells (row zT (rest++oA (n-rest.length) 0)) e),min b H.n⟩:=by
 refine P7 (m:=rest.length) TA iM rfl (new:=row zT rest) ?_ hb (mL aV rest) ?_
 ·rw[show min rest.length n=rest.length by omega]
  show(if _ then _ else _)=_
  rw[if_pos ⟨jA _,by rw[zr wK];omega⟩,wB,uA (by rw[zr wK];omega)]
 ·rw[SL,SL,SL,Ie (by simpa using hr)]
  simp
def JM(g:List UInt32)(i:Nat):UInt8:=(g.getD (i / 4) 0>>>UInt32.ofNat (8*(i % 4))).toUInt8
theorem m_98(s:vM)(hs:s.h.length=8)(hn:s.n<18446744073709551616)(hr:s.rest.length<=64)(H:Heap)(Q:OR->Prop)(hQ:Q ⟨NB zT (AM s 16),H,H.n⟩):MCall Cx 98 [aM s] H Q:=by
 refine mB (fn:=Tryz.f98) Tryz.func98 rfl (by decide) (k:=47) rfl (rs:=[.tmp 2]) rfl ?_
 refine PA zm ?_
 rw[aM]
 simp -dsimp only[go_sem,bA,gA]
 refine PA zm ?_
 simp -dsimp only[go_sem,bA,aA,reduceCtorEq,ET hs]
 refine oB ?_
 simp -dsimp only[go_sem,aA,reduceCtorEq]
 refine MCall.cv (args':=[aM s,NB zT []]) (.two (.self _ (EP s)) .nil) (jd s hs hn [] (by simp;omega) _ _ ?_)
 rw[zi1 hr,aM]
 have o1:(PC s.h (NB zT s.rest) (TC s.n) (vA 16)).all HB=true:=XR _ rfl rfl rfl
 simp -dsimp only[go_sem,gA,rN hs,o1,SP hs hs]
 refine PA zm ?_
 simp -dsimp only[go_sem,bA,aA,reduceCtorEq,DT hs]
 refine aD _ ((CA (EQ) xA)) ?_
 have e1:((1:Int)<=16)=True:=by simp
 have e2:((16:Int)<=32)=True:=by simp
 simp -dsimp only[go_sem,bA,aA,reduceCtorEq,e1,e2]
 refine PA zm ?_
 simp -dsimp only[go_sem,bA]
 generalize hX:((H.push (.cells (PC s.h (NB zT s.rest) (TC s.n) (vA 16)) 127)).set H.n (.cells (PC s.h (NB zT s.rest) (TC s.n) (vA 16)) 127)).push (.cells (row zT (oA 64 0)) 143)=X
 have xn:X.n=H.n+2:=by rw[<-hX];simp -dsimp only[go_sem,cA]
 have x0:X.get H.n=some (.cells (PC s.h (NB zT s.rest) (TC s.n) (vA 16)) 127):=by rw[<-hX];simp -dsimp only[go_sem,bA,reduceCtorEq]
 have x1:X.get (H.n+1)=some (.cells (row zT (oA 64 0)) 143):=by rw[<-hX];simp -dsimp only[go_sem,bA,reduceCtorEq]
 clear hX o1 e1 e2
 refine WW.keep [(1,.ptr H.n 0),(3,.ptr (H.n+1) 0)] zSl ?_
 refine yC ?_
 refine BD zm 3 (by decide) (by kernel_rfl) ?_
 dsimp only[NA,iB]
 refine JC _ xA (by kernel_rfl) ?_
 simp -dsimp only[go_sem,bA,aA,zf,zh,x0,iN hs]
 refine rB (zmD x1 hr) ?_
 simp -dsimp only[go_sem]
 generalize hend:s.rest++oA (64-s.rest.length) 0=fin
 have lf:fin.length=64:=by rw[<-hend,qA,LD];omega
 have y0:(X.set (H.n+1) (.cells (row zT fin) 143)).get H.n=some (.cells (PC s.h (NB zT s.rest) (TC s.n) (vA 16)) 127):=by rw[dA,if_neg (fun g=>absurd g.1 (by omega)),x0]
 have y1:(X.set (H.n+1) (.cells (row zT fin) 143)).get (H.n+1)=some (.cells (row zT fin) 143):=by rw[dA,if_pos ⟨rfl,by omega⟩]
 have yn:(X.set (H.n+1) (.cells (row zT fin) 143)).n=H.n+2:=by rw[kA,xn]
 generalize X.set (H.n+1) (.cells (row zT fin) 143)=Y at y0 y1 yn
 have hm2:(s.n+s.rest.length) % 18446744073709551616<18446744073709551616:=NH _ (by omega)
 have w1:IntKind.u64.wrap (s.rest.length:Int)=(s.rest.length:Int):=xJ (by omega) (by omega)
 have w2:IntKind.u64.wrap ((s.n:Int)+(s.rest.length:Int))=(((s.n+s.rest.length) % 18446744073709551616:Nat):Int):=by
  rw[<-Int.natCast_add,T6]
 generalize hm':(s.n+s.rest.length) % 18446744073709551616=m' at hm2 w2
 refine yC ?_
 refine BD zm 12 (by decide) (by kernel_rfl) ?_
 dsimp only[NA,iB]
 have lg:(oL s.h fin m' true).length=8:=kg ..
 refine JC _ ((CA (Z7 (xs:=[.agg (s.h.map qC),.sl (H.n+1) 0 64 64 none,TC m',.lit (.bool true)]) [.agg (s.h.map qC),NB zT fin,TC m',.lit (.bool true)]
  (.cons _ _ _ _ (.self _ (o7 _)) (.cons _ _ _ _ (lf▸Fz.slice 64 trivial y1 (by omega) (by rw[UA,uA (by rw[zr wK,lf];omega)]) (UH UM _)) (.cons _ _ _ _ (.self _ rfl) (.cons _ _ _ _ (.self _ rfl) .nil))))
  (znC _) (rW s.h hs fin lf m' true Y _ rfl)) xA)) (by kernel_rfl) ?_
 have hsum:AM s 16=(CB 16).map (JM (oL s.h fin m' true)):=by
  rw[AM,hend,hm']
  rfl
 generalize hg:oL s.h fin m' true=g at lg hsum
 simp -dsimp only[go_sem,bA,aA,y0,Fh hs,iN hs,j5 hs,w1,w2,bC,lg,RR,yM (l:=g) (m:=oA 8 0) (by rw[lg];rfl)]
 generalize hZ:(Y.push (.cells ((oA 8 (0:UInt32)).map qC) 125)).set Y.n (.cells (g.map qC) 125)=Z
 have zn:Z.n=H.n+3:=by rw[<-hZ,kA,iA,yn]
 have z0:Z.get H.n=some (.cells (PC s.h (NB zT s.rest) (TC s.n) (vA 16)) 127):=by rw[<-hZ,dA,if_neg (fun g=>absurd g.1 (by omega)),zj _ (by omega),y0]
 have z2:Z.get (H.n+2)=some (.cells (g.map qC) 125):=by rw[<-hZ,dA,if_pos ⟨by omega,by rw[iA];omega⟩]
 have eY:(V.ptr Y.n 0)=.ptr (H.n+2) 0:=by rw[yn]
 clear hZ
 refine WW.keep [(1,.ptr H.n 0),(4,.ptr (H.n+2) 0)] (by rw[<-eY];(focus (simp -dsimp only[go_sem,aA,List.forall_mem_cons,JA,false_implies,implies_true]<;>(try simp (disch:=omega) only[zw,xJ,vK,AK])<;>(try simp)<;>(try omega)))) ?_
 refine PA zm ?_
 simp -dsimp only[go_sem,bA]
 refine PA zm ?_
 simp -dsimp only[go_sem,bA,aA,z0,DT hs]
 refine dD (ι:=Nat×List UInt8×Heap×Nat) (fun p=>[(4,.ptr (H.n+2) 0),(5,iH p.2.1 p.2.2.2),(29,vA 16),(30,vA p.1)]) (fun p=>p.2.2.1) (fun _=>H.n)
  (fun p=>p.1<=16/\p.2.1=(CB p.1).map (JM g)/\TJ Z 0 [] p.2.2.1 p.2.2.2 p.2.1) (fun p=>16-p.1) (0,[],Z,0) ⟨by omega,rfl,Bf.refl (fun h=>absurd rfl h)⟩ ?_ ?_
 ·refine(MB (lo2:=H.n) (by omega)).trans (RB _ zSl)
 rintro⟨i,t,U,k⟩ ⟨hi,ht,hB⟩
 simp only at hi ht hB ⊢
 have un:=hB.n
 have ul:=hB.lob
 have l0:lob Z 0 ([]:List UInt8)=Z.n:=if_pos rfl
 have u2:U.get (H.n+2)=some (.cells (g.map qC) 125):=by rw[hB.old _ (by omega) (.inr rfl),z2]
 have tl:t.length=i:=by rw[ht,bC,List.length_range]
 refine PA zm ?_
 simp -dsimp only[go_sem,bA,aA,zf,zh]
 refine PA zm ?_
 simp -dsimp only[go_sem,aA]
 refine aB (fun h=>?_) (fun h=>?_)<;>simp -dsimp only[go_sem,h]
 ·have q1:(i:Int).tdiv 4=((i / 4:Nat):Int):=(Int.ofNat_tdiv i 4).symm
  have q2:IntKind.i64.wrap ((i / 4:Nat):Int)=((i / 4:Nat):Int):=zjR (by omega)
  have q3:(i:Int).tmod 4=((i % 4:Nat):Int):=(Int.ofNat_tmod i 4).symm
  have q4:IntKind.i64.wrap (8*((i % 4:Nat):Int))=((8*(i % 4):Nat):Int):=by rw[zw (by omega) (by omega)];omega
  have q5:(0:Int)<=((8*(i % 4):Nat):Int):=by omega
  have q6:((8*(i % 4):Nat):Int)<32:=by omega
  have q7:i / 4<8:=by omega
  have q8:(((8*(i % 4):Nat):Int)).toNat=8*(i % 4):=by omega
  refine yC ?_
  refine MD ?_
  refine PA zm ?_
  simp -dsimp only[go_sem,bA,aA]
  refine LB zm ?_
  simp -dsimp only[go_sem,bA,aA,u2,nV _ _ _ _ _ (show(4:Int)≠0 by decide),J3 _ _ _ _ _ (show(4:Int)≠0 by decide),q1,q2,q3,q4,q5,q6,q7,q8,yR,wB,bB,BG (l:=g) (i:=i / 4) (by omega)]
  refine rM (JM g i) rfl hB.cell (by omega) fun Y2 k2 lo2 hB2 hlo2=>?_
  have yn2:=hB2.n
  simp -dsimp only[go_sem,bA,aA]
  refine LB zm ?_
  simp -dsimp only[go_sem,bA,aA]
  refine zAg (i+1,t++[JM g i],Y2,k2) ?_
  dsimp only
  refine⟨by omega,?_,hB.trans hB2⟩
  rw[List.range_succ,QC,<-ht]
  rfl
 ·obtain rfl:i=16:=by omega
  refine LB zm ?_
  simp -dsimp only[go_sem,bA,aA]
  rw[hsum,<-ht] at hQ
  refine HC _ (by omega) (Fz.buf wK UM (fun e=>?_) hB.cell) hQ
  rcases hB.new with⟨_,h2⟩|h2
  ·exact absurd h2 e
  ·omega
end
section
open Go Go.Tw
open Classical
theorem znV:(QI 16).h.length=8/\(QI 16).n<18446744073709551616/\(QI 16).rest=[]:=⟨by simp[QI,d4],by simp[QI],rfl⟩
theorem zjP{s:vM}(h:s.h.length=8)(hn:s.n<18446744073709551616)(b:List UInt8):(HI s b).h.length=8/\(HI s b).n<18446744073709551616/\(HI s b).rest.length<=64:=yj _ s.h s.n (s.rest++b) (jA _) h hn
theorem m_71(ls:List (List UInt8))(hl:ls.length<=1048576)(hs:ls.flatten.length<=1000000)(H:Heap)(Q:OR->Prop)(hQ:Q ⟨.tup [NB zT (oV ls.flatten),vA 0],H,H.n⟩):MCall Cx 71 [vA 16,NB aN ls] H Q:=by
 obtain⟨b1,b2,b3⟩:=znV
 have r8:(oA 8 (0:UInt32)).length=8:=rfl
 refine mB (fn:=Tryz.f71) Tryz.func71 rfl (by decide) (k:=30) rfl (rs:=[.tmp 4,.tmp 5]) rfl ?_
 refine PA zm ?_
 simp -dsimp only[go_sem,bA,cA,gA]
 refine PA zm ?_
 simp -dsimp only[go_sem,bA,aA,reduceCtorEq]
 refine oB ?_
 simp -dsimp only[go_sem,bA,aA,reduceCtorEq]
 refine m_96 _ _ ?_
 have o1:(PC (QI 16).h (NB zT (QI 16).rest) (TC (QI 16).n) (vA 16)).all HB=true:=XR _ rfl rfl rfl
 have v1:zG (aM (QI 16))=some (PC (QI 16).h (NB zT (QI 16).rest) (TC (QI 16).n) (vA 16)):=rfl
 simp -dsimp only[go_sem,bA,aA,reduceCtorEq,gA,v1,rN b1,o1,SP r8 b1]
 refine PA zm ?_
 simp -dsimp only[go_sem,bA,aA,reduceCtorEq]
 have hbl:∀i,(HI (QI 16) (ls.take i).flatten).h.length=8/\(HI (QI 16) (ls.take i).flatten).n<18446744073709551616/\(HI (QI 16) (ls.take i).flatten).rest.length<=64:=fun i=>zjP b1 b2 _
 have h0:HI (QI 16) (ls.take 0).flatten=QI 16:=zi1 (by rw[b3];simp)
 refine DC zm (ι:=Heap) (fun _=>[(6,.ptr H.n 0)]) (fun p=>p) (fun _=>H.n) (fun p=>H.n<p.n/\p.get H.n=some (.cells (PC (HI (QI 16) ls.flatten).h (NB zT (HI (QI 16) ls.flatten).rest) (TC (HI (QI 16) ls.flatten).n) (vA 16)) 127)) ?_ ?_
 ·simp -dsimp only[go_sem,bA,aA,reduceCtorEq]
  refine dD (ι:=Nat×Heap) (fun p=>[(6,.ptr H.n 0),(18,NB aN ls),(19,vA ls.length),(20,vA p.1)]) (fun p=>p.2) (fun _=>H.n) (fun p=>p.1<=ls.length/\p.2.n=H.n+1/\p.2.get H.n=some (.cells (PC (HI (QI 16) (ls.take p.1).flatten).h (NB zT (HI (QI 16) (ls.take p.1).flatten).rest) (TC (HI (QI 16) (ls.take p.1).flatten).n) (vA 16)) 127)) (fun p=>ls.length-p.1)
   (0,(H.push (.cells (PC (oA 8 0) (.lit (.slice none 0 0)) (TC 0) (vA 0)) 127)).set H.n (.cells (PC (QI 16).h (NB zT (QI 16).rest) (TC (QI 16).n) (vA 16)) 127)) ?_ ?_ ?_
  ·refine⟨KB _,by rw[kA,iA],?_⟩
   rw[h0,dA,if_pos ⟨rfl,by rw[iA];omega⟩]
  ·refine(MB (lo2:=H.n) (by omega)).trans (RB _ zSl)
  rintro⟨i,X⟩ ⟨hi,xn,x0⟩
  simp only at hi xn x0 ⊢
  obtain⟨c1,c2,c3⟩:=hbl i
  refine PA zm ?_
  simp -dsimp only[go_sem,bA,aA,zf,zh]
  refine PA zm ?_
  simp -dsimp only[go_sem,aA]
  refine aB (fun k=>?_) (fun k=>?_)
  ·obtain⟨x,hx⟩:=zu k
   have hle:=T7 ls (i+1)
   rw[mX hx,qA] at hle
   simp -dsimp only[go_sem,k]
   refine yC ?_
   refine MD ?_
   refine PA zm ?_
   simp -dsimp only[go_sem,bA,aA,k,z7 Jj hx]
   refine LB zm ?_
   simp -dsimp only[go_sem,bA,aA,x0,ET c1]
   refine oB ?_
   simp -dsimp only[go_sem,aA]
   refine jd (HI (QI 16) (ls.take i).flatten) c1 c2 x (by omega) _ _ ?_
   have hw:HI (HI (QI 16) (ls.take i).flatten) x=HI (QI 16) (ls.take (i+1)).flatten:=by rw[zjQ,<-mX hx]
   rw[hw]
   obtain⟨d1,d2,d3⟩:=hbl (i+1)
   generalize hW:HI (QI 16) (ls.take (i+1)).flatten=W at d1 d2 d3
   have o2:(PC W.h (NB zT W.rest) (TC W.n) (vA 16)).all HB=true:=XR _ rfl rfl rfl
   have v2:zG (aM W)=some (PC W.h (NB zT W.rest) (TC W.n) (vA 16)):=rfl
   simp -dsimp only[go_sem,aA,v2,rN d1,o2,x0,SP c1 d1]
   refine LB zm ?_
   simp -dsimp only[go_sem,bA,aA]
   refine zAg (i+1,X.set H.n (.cells (PC W.h (NB zT W.rest) (TC W.n) (vA 16)) 127)) ?_
   dsimp only
   rw[hW]
   exact⟨k,by rw[kA,xn],by rw[dA,if_pos ⟨rfl,by omega⟩]⟩
  ·simp -dsimp only[go_sem,k]
   rw[uA (by omega)] at x0
   refine zAg (some X) ?_
   exact⟨by omega,x0⟩
 ·rintro X ⟨xn,x0⟩
  obtain⟨c1,c2,c3⟩:=zjP b1 b2 ls.flatten
  refine LB zm ?_
  generalize hW:HI (QI 16) ls.flatten=W at x0 c1 c2 c3
  simp -dsimp only[go_sem,bA,aA,zf,zh,x0,ET c1]
  refine oB ?_
  simp -dsimp only[go_sem,bA,aA]
  refine m_98 W c1 c2 c3 _ _ ?_
  simp -dsimp only[go_sem]
  refine AA (by omega) (by simp[V.bf,QF,UH UM]) ?_
  rw[oV,hW] at hQ
  exact hQ
theorem zgV(b:List UInt8):(oV b).length=16:=by simp[oV,AM]
def aS(b:List UInt8):gO:=⟨(oV b).toArray,by simp[zgV]⟩
theorem zjA(b:List UInt8):FH (aS b)=row zT (oV b):=by
 rw[SL]
 simp[FH,aS,Vector.toList]
@[go_sem] theorem Uf:zE fA 30=some (row zT (oA 16 0)):=by kernel_rfl
theorem m_43(ls:List (List UInt8))(hl:ls.length<=1048576)(hs:ls.flatten.length<=1000000)(H:Heap)(Q:OR->Prop)(hQ:Q ⟨.agg (FH (aS ls.flatten)),H,H.n⟩):MCall Cx 43 [NB aN ls] H Q:=by
 refine mB (fn:=Tryz.f43) Tryz.func43 rfl (by decide) (k:=14) rfl (rs:=[.cell 2 30]) rfl ?_
 refine PA zm ?_
 simp -dsimp only[go_sem,bA,gA]
 refine PA zm ?_
 simp -dsimp only[go_sem,bA,aA,reduceCtorEq]
 refine oB ?_
 simp -dsimp only[go_sem,bA,aA,reduceCtorEq]
 refine m_71 ls hl hs _ _ ?_
 simp -dsimp only[go_sem,bA,aA,reduceCtorEq]
 refine LB zm ?_
 simp -dsimp only[go_sem,bA,aA,reduceCtorEq]
 have l16:=zgV ls.flatten
 rw[zjA] at hQ
 generalize oV ls.flatten=t at hQ l16
 have lr:(row zT t).length=16:=by rw[zr wK,l16]
 refine rB (zmD (n:=16) (e:=30) (by simp -dsimp only[go_sem]) (by omega)) ?_
 rw[l16,CE,lG,MA]
 have w:QE fA 30 (row zT t) 0=some (.agg (row zT t)):=Y1 zqE zl7 lr
 have sp:zD (row zT t) 0 (row zT t)=some (row zT t):=DM _ _ rfl
 have on:(row zT t).all HB=true:=mL aV t
 simp -dsimp only[go_sem,bA,aA,reduceCtorEq,gA,w,sp,on,lr]
 exact AA (by omega) (UH UM t) hQ
end
section
open Go Go.Tw
open Classical
theorem PN(x:UInt32)(n:Nat)(h0:0<n)(hn:n<32)(H:Heap)(Q:OR->Prop)(hQ:Q ⟨qC (LM x n),H,H.n⟩):MCall Cx 165 [qC x,vA n] H Q:=by
 refine mB (fn:=Tryz.f165) Tryz.func165 rfl (by decide) (k:=13) rfl (rs:=[.tmp 4]) rfl ?_
 refine LB zm ?_
 simp -dsimp only[go_sem,bA,cA,gA]
 have e1:(0:Int)<=(n:Int):=by omega
 have e2:(n:Int)<32:=by omega
 have e3:IntKind.i64.wrap (32-(n:Int))=((32-n:Nat):Int):=by rw[zw (by omega) (by omega)];omega
 have e4:(0:Int)<=((32-n:Nat):Int):=by omega
 have e5:((32-n:Nat):Int)<32:=by omega
 have e6:((n:Int)).toNat=n:=by omega
 have e7:(((32-n:Nat):Int)).toNat=32-n:=by omega
 refine JC _ xA (by kernel_rfl) ?_
 simp -dsimp only[go_sem,bA,aA,reduceCtorEq,gA,e1,e2,e3,e4,e5,e6,e7]
 exact AA (by omega) rfl hQ
theorem G0(x:UInt32)(H:Heap):MCall Cx 165 [qC x,vA 16] H (·=⟨qC (LM x 16),H,H.n⟩):=PN x 16 (by omega) (by omega) H _ rfl
theorem F0(x:UInt32)(H:Heap):MCall Cx 165 [qC x,vA 12] H (·=⟨qC (LM x 12),H,H.n⟩):=PN x 12 (by omega) (by omega) H _ rfl
theorem ve(x:UInt32)(H:Heap):MCall Cx 165 [qC x,vA 8] H (·=⟨qC (LM x 8),H,H.n⟩):=PN x 8 (by omega) (by omega) H _ rfl
theorem ue(x:UInt32)(H:Heap):MCall Cx 165 [qC x,vA 7] H (·=⟨qC (LM x 7),H,H.n⟩):=PN x 7 (by omega) (by omega) H _ rfl
theorem NX(v:List UInt32)(hv:v.length=16)(q:Nat×Nat×Nat×Nat)(ha:q.1<16)(hb:q.2.1<16)(hc:q.2.2.1<16)(hd:q.2.2.2<16)(x y:UInt32)(bv:Nat)(e:TypeId)(H:Heap)
  (gv:H.get bv=some (.cells (v.map qC) e)) (Q:OR->Prop) (hQ:∀X lo,Upd H X bv (XK v q x y) e->min bv H.n<=lo->Q ⟨.tup [],X,lo⟩):MCall Cx 147 [.sl bv 0 16 16 none,vA (q.1:Nat),vA (q.2.1:Nat),vA (q.2.2.1:Nat),vA (q.2.2.2:Nat),qC x,qC y] H Q:=by
 obtain⟨a,b,c,d⟩:=q
 simp only at ha hb hc hd hQ ⊢
 refine mB (fn:=Tryz.f147) Tryz.func147 rfl (by decide) (k:=118) rfl (rs:=[]) rfl ?_
 have hbn:=zq gv
 have U0:Upd H H bv v e:=⟨rfl,gv,fun _ _=>rfl⟩
 refine yC ?_
 refine BD zm 14 (by decide) (by kernel_rfl) ?_
 dsimp only[NA,iB]
 refine JC _ xA (by kernel_rfl) ?_
 simp -dsimp only[go_sem,bA,aA,cA,reduceCtorEq,U0.at_,ha,hb,wB,bB,BG (l:=v) (i:=a) (by omega),BG (l:=v) (i:=b) (by omega)]
 refine rB (by rw[YK (l:=v) (i:=a) _ (by omega)];rfl) ?_
 simp -dsimp only[go_sem,cA,gA]
 generalize hv1:v.set a (v.getD a 0+v.getD b 0+x)=v1
 have l1:v1.length=16:=by rw[<-hv1,qB,hv]
 have U1:=U0.set (u:=v1)
 generalize H.set bv (.cells (v1.map qC) e)=X1 at U1
 have n1:=U1.n
 refine WB (min bv H.n) [(0,.sl bv 0 16 16 none),(1,vA (a:Nat)),(2,vA (b:Nat)),(3,vA (c:Nat)),(4,vA (d:Nat)),(5,qC x),(6,qC y)] (by omega) zSl ?_
 refine yC ?_
 refine BD zm 13 (by decide) (by kernel_rfl) ?_
 dsimp only[NA,iB]
 refine JC _ ((CA (wN (G0 (v1.getD d 0 ^^^ v1.getD a 0) X1)) xA)) (by kernel_rfl) ?_
 simp -dsimp only[go_sem,bA,aA,reduceCtorEq,zf,zh,U1.at_,ha,hd,wB,bB,BG (l:=v1) (i:=d) (by omega),BG (l:=v1) (i:=a) (by omega)]
 refine rB (by rw[YK (l:=v1) (i:=d) _ (by omega)];rfl) ?_
 simp -dsimp only[go_sem]
 generalize hv2:v1.set d (LM (v1.getD d 0 ^^^ v1.getD a 0) 16)=v2
 have l2:v2.length=16:=by rw[<-hv2,qB,l1]
 have U2:=U1.set (u:=v2)
 generalize X1.set bv (.cells (v2.map qC) e)=X2 at U2
 have n2:=U2.n
 refine WB (min bv H.n) [(0,.sl bv 0 16 16 none),(1,vA (a:Nat)),(2,vA (b:Nat)),(3,vA (c:Nat)),(4,vA (d:Nat)),(5,qC x),(6,qC y)] (by omega) zSl ?_
 refine yC ?_
 refine BD zm 12 (by decide) (by kernel_rfl) ?_
 dsimp only[NA,iB]
 refine JC _ xA (by kernel_rfl) ?_
 simp -dsimp only[go_sem,bA,aA,reduceCtorEq,zf,zh,U2.at_,hc,hd,wB,bB,BG (l:=v2) (i:=c) (by omega),BG (l:=v2) (i:=d) (by omega)]
 refine rB (by rw[YK (l:=v2) (i:=c) _ (by omega)];rfl) ?_
 simp -dsimp only[go_sem]
 generalize hv3:v2.set c (v2.getD c 0+v2.getD d 0)=v3
 have l3:v3.length=16:=by rw[<-hv3,qB,l2]
 have U3:=U2.set (u:=v3)
 generalize X2.set bv (.cells (v3.map qC) e)=X3 at U3
 have n3:=U3.n
 refine WB (min bv H.n) [(0,.sl bv 0 16 16 none),(1,vA (a:Nat)),(2,vA (b:Nat)),(3,vA (c:Nat)),(4,vA (d:Nat)),(5,qC x),(6,qC y)] (by omega) zSl ?_
 refine yC ?_
 refine BD zm 13 (by decide) (by kernel_rfl) ?_
 dsimp only[NA,iB]
 refine JC _ ((CA (wN (F0 (v3.getD b 0 ^^^ v3.getD c 0) X3)) xA)) (by kernel_rfl) ?_
 simp -dsimp only[go_sem,bA,aA,reduceCtorEq,zf,zh,U3.at_,hb,hc,wB,bB,BG (l:=v3) (i:=b) (by omega),BG (l:=v3) (i:=c) (by omega)]
 refine rB (by rw[YK (l:=v3) (i:=b) _ (by omega)];rfl) ?_
 simp -dsimp only[go_sem]
 generalize hv4:v3.set b (LM (v3.getD b 0 ^^^ v3.getD c 0) 12)=v4
 have l4:v4.length=16:=by rw[<-hv4,qB,l3]
 have U4:=U3.set (u:=v4)
 generalize X3.set bv (.cells (v4.map qC) e)=X4 at U4
 have n4:=U4.n
 refine WB (min bv H.n) [(0,.sl bv 0 16 16 none),(1,vA (a:Nat)),(2,vA (b:Nat)),(3,vA (c:Nat)),(4,vA (d:Nat)),(5,qC x),(6,qC y)] (by omega) zSl ?_
 refine yC ?_
 refine BD zm 14 (by decide) (by kernel_rfl) ?_
 dsimp only[NA,iB]
 refine JC _ xA (by kernel_rfl) ?_
 simp -dsimp only[go_sem,bA,aA,reduceCtorEq,zf,zh,U4.at_,ha,hb,wB,bB,BG (l:=v4) (i:=a) (by omega),BG (l:=v4) (i:=b) (by omega)]
 refine rB (by rw[YK (l:=v4) (i:=a) _ (by omega)];rfl) ?_
 simp -dsimp only[go_sem]
 generalize hv5:v4.set a (v4.getD a 0+v4.getD b 0+y)=v5
 have l5:v5.length=16:=by rw[<-hv5,qB,l4]
 have U5:=U4.set (u:=v5)
 generalize X4.set bv (.cells (v5.map qC) e)=X5 at U5
 have n5:=U5.n
 refine WB (min bv H.n) [(0,.sl bv 0 16 16 none),(1,vA (a:Nat)),(2,vA (b:Nat)),(3,vA (c:Nat)),(4,vA (d:Nat)),(5,qC x),(6,qC y)] (by omega) zSl ?_
 refine yC ?_
 refine BD zm 13 (by decide) (by kernel_rfl) ?_
 dsimp only[NA,iB]
 refine JC _ ((CA (wN (ve (v5.getD d 0 ^^^ v5.getD a 0) X5)) xA)) (by kernel_rfl) ?_
 simp -dsimp only[go_sem,bA,aA,reduceCtorEq,zf,zh,U5.at_,ha,hd,wB,bB,BG (l:=v5) (i:=d) (by omega),BG (l:=v5) (i:=a) (by omega)]
 refine rB (by rw[YK (l:=v5) (i:=d) _ (by omega)];rfl) ?_
 simp -dsimp only[go_sem]
 generalize hv6:v5.set d (LM (v5.getD d 0 ^^^ v5.getD a 0) 8)=v6
 have l6:v6.length=16:=by rw[<-hv6,qB,l5]
 have U6:=U5.set (u:=v6)
 generalize X5.set bv (.cells (v6.map qC) e)=X6 at U6
 have n6:=U6.n
 refine WB (min bv H.n) [(0,.sl bv 0 16 16 none),(1,vA (a:Nat)),(2,vA (b:Nat)),(3,vA (c:Nat)),(4,vA (d:Nat)),(5,qC x),(6,qC y)] (by omega) zSl ?_
 refine yC ?_
 refine BD zm 12 (by decide) (by kernel_rfl) ?_
 dsimp only[NA,iB]
 refine JC _ xA (by kernel_rfl) ?_
 simp -dsimp only[go_sem,bA,aA,reduceCtorEq,zf,zh,U6.at_,hc,hd,wB,bB,BG (l:=v6) (i:=c) (by omega),BG (l:=v6) (i:=d) (by omega)]
 refine rB (by rw[YK (l:=v6) (i:=c) _ (by omega)];rfl) ?_
 simp -dsimp only[go_sem]
 generalize hv7:v6.set c (v6.getD c 0+v6.getD d 0)=v7
 have l7:v7.length=16:=by rw[<-hv7,qB,l6]
 have U7:=U6.set (u:=v7)
 generalize X6.set bv (.cells (v7.map qC) e)=X7 at U7
 have n7:=U7.n
 refine WB (min bv H.n) [(0,.sl bv 0 16 16 none),(1,vA (a:Nat)),(2,vA (b:Nat)),(3,vA (c:Nat)),(4,vA (d:Nat)),(5,qC x),(6,qC y)] (by omega) zSl ?_
 refine BD zm 13 (by decide) (by kernel_rfl) ?_
 dsimp only[NA,iB]
 refine JC _ ((CA (wN (ue (v7.getD b 0 ^^^ v7.getD c 0) X7)) xA)) (by kernel_rfl) ?_
 simp -dsimp only[go_sem,bA,aA,reduceCtorEq,zf,zh,U7.at_,hb,hc,wB,bB,BG (l:=v7) (i:=b) (by omega),BG (l:=v7) (i:=c) (by omega)]
 refine rB (by rw[YK (l:=v7) (i:=b) _ (by omega)];rfl) ?_
 simp -dsimp only[go_sem]
 have ea:gS v a b c d x 16 12=v4:=by
  rw[<-hv4,<-hv3,<-hv2,<-hv1,UInt32.add_assoc]
  rfl
 have eb:gS v4 a b c d y 8 7=v7.set b (LM (v7.getD b 0 ^^^ v7.getD c 0) 7):=by
  rw[<-hv7,<-hv6,<-hv5,UInt32.add_assoc]
  rfl
 have e1:XK v (a,b,c,d) x y=v7.set b (LM (v7.getD b 0 ^^^ v7.getD c 0) 7):=by
  show gS (gS v a b c d x 16 12) a b c d y 8 7=_
  rw[ea,eb]
 refine nB (hQ _ _ ?_ (by omega))
 rw[e1]
 exact U7.set
end
end Go.Proofs.YtookdinfaoelaaaGreatDoor
