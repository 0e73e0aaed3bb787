/- Own work for this claim, part 17 of 17. PROVED: at all arguments of bulk at most 1048576 'TreeMay' returns true and its arguments read behind the call as they read before: of any two trees the program and the document's answer say alike whether they may be and whether they are the same, an own copy is one, and what is written to it leaves the tree as it was; and the chapter's examples. CONDITIONS: none of this text's own; what the given row and card say: the three tables of the library that the row lists hold at the call's beginning what the card ties to the program's text. -/
import Derived.Test.YtookdinfaoelaaaGreatDoorX15
import Derived.Test.YtookdinfaoelaaaGreatDoorX05
import Derived.Test.YtookdinfaoelaaaGreatDoorX10
import Derived.Test.YtookdinfaoelaaaGreatDoorX09
import Derived.Test.YtookdinfaoelaaaGreatDoorCards
import Derived.Test.YtookdinfaoelaaaGreatDoorTie
import Derived.WalkKit
import Derived.ProofKit
import Derived.OpenShut
import Derived.Deep.DeepHandedRow
import Derived.Lib.LaidTab
import Derived.LaidSub
set_option linter.all false
set_option maxRecDepth 100000
set_option maxHeartbeats 4000000
open Bool renaming and_eq_true→wA,not_eq_true'→oC,true_and→MC
open Go.DataW renaming trod→UC,trod_struct→EG
open Go.Proofs.Tryz renaming checked→pK,f3→lJ,func3→OJ,prog→fA,underlying24→gI,underlying29→wE,underlying3→bD,underlying4→tF,underlying47→GB,underlying9→cD
open Go.Tw.GRev renaming zero→TB
open Go.Tw.Heap renaming get_push→yA,get_set→dA,n_push→iA,n_set→kA,pushes→wC
open Go.Tw.MCall renaming of→QA,ofW→mB
open Go.Tw.MV renaming fn→oB
open Go.Tw.RN renaming same→SC
open Go.Tw.RNb renaming one→UD
open Go.Tw.Res renaming bf→AA,fz→HC,same→nB
open Go.Tw.Tab.OK renaming cons→CA,nil→xA
open Go.Tw.VRs renaming append→eE
open Go.Tw.WW renaming seq→yC,sq→PA,still→sC,vc→LB
open List renaming any_eq_false→vE,append_assoc→XA,append_nil→MA,drop_drop→JE,drop_eq_nil_of_le→DI,drop_succ_cons→JD,drop_zero→UA,filter_append→KE,filter_eq_self→jG,getElem?_cons_zero→YA,getElem?_eq_getElem→sA,getElem?_eq_some_iff→rA,length_append→qA,length_cons→HA,length_eq_zero_iff→WA,length_nil→SA,length_take→JB,mem_cons→IB,mem_of_getElem?→IA,not_mem_nil→JA,take_add_one→yB,take_append_drop→eC,take_append_of_le_length→jB,take_left'→mC,take_length→FB,take_of_length_le→uA,take_succ_cons→NA,take_zero→iB
open Nat renaming add_assoc→WD,beq→kB,le_refl→jA,le_trans→cB,lt_irrefl→VG,min_self→gA,one_mul→dF,reduceAdd→cA,reduceEqDiff→aA,reduceLT→bA,zero_mul→JG
open Option renaming bind_eq_bind→pA,bind_some→KA
open Option.some renaming inj→OI,injEq→lA
namespace Go.Proofs.YtookdinfaoelaaaGreatDoor
section
open Go Go.Tw
open Classical
def AL(l:List GNode)(r:GRev):List GRev:=((kI l 32 r).take 16).map (·.rev)
structure w9(way:List GNode)(H:Heap)(bl:Nat)(T:Tr V)(A B:Code)(sta:LoopState)(pd:Option Code)(n:Nat)(X:Heap):Prop where
 loop:X.get bl=some (.loop (lI 31 T) [18] A B sta pd)
 le:n<=16
 big:bl<X.n
 gw:Gw H X
 var:∃k,X.get H.n=some (.cells [pG 17 ((way.take n).map (·.rev)) k] 47)/\((way.take n).map (·.rev)≠[]->bl<k/\X.get k=some (.cells (row ze ((way.take n).map (·.rev))) 32))
@[go_sem] theorem vj:zE fA 47=some [.lit (.slice none 0 0)]:=by kernel_rfl
theorem zkf(H:Heap)(s:List GRev)(b:Nat):qH fA H 47 (pG 17 s b)=some (vA s.length):=zmp GB 17 s b
theorem m_17(t:GTree)(hT:iP t.nodes)(r:GRev)(H:Heap)(Q:OR->Prop)(hQ:Q ⟨.tup [NB ze (if SJ t.nodes then AL t.nodes r else []),vA (if SJ t.nodes then(if(AL t.nodes r).length=0 then 4 else 0) else 1)],H,H.n⟩):MCall Cx 17 [.agg (zp t),.agg (ze r)] H Q:=by
 refine mB (fn:=Tryz.f17) Tryz.func17 rfl (by decide) (k:=31) rfl (rs:=[.tmp 4,.tmp 5]) rfl ?_
 refine PA zm ?_
 simp -dsimp only[go_sem,bA,aA,cA,reduceCtorEq,gA]
 refine WW.cut zm (ι:=Unit) (fun _=>[(2,.ptr H.n 0),(3,.ptr (H.n+1) 0)]) (fun _=>(H.push (.cells (zp t) 24)).push (.cells (ze r) 32)) (fun _=>H.n) (fun _=>SJ t.nodes=true) ?_ ?_
 ·simp -dsimp only[go_sem,bA,aA,reduceCtorEq]
  refine oB ?_
  simp -dsimp only[go_sem,bA,aA,reduceCtorEq]
  refine W2 t (by have:=hT.len;omega) hT.ok _ _ ?_
  cases hm:SJ t.nodes
  ·simp -dsimp only[go_sem,bA,aA,cA,reduceCtorEq]
   rw[hm] at hQ
   exact HC (.tup [NB ze [],vA 1]) (by omega) (.tup _ _ (.two .nil (.self _ rfl))) hQ
  ·simp -dsimp only[go_sem,aA,cA,reduceCtorEq]
   refine zAg (some ()) ?_
   trivial
 ·rintro⟨⟩ hm
  rw[hm] at hQ
  simp only[if_true] at hQ
  refine PA zm ?_
  simp -dsimp only[go_sem,bA,aA,cA,reduceCtorEq,zf,zh]
  refine WW.plain [(3,.pp (ze r)),(6,AH t.nodes)] (by omega) (fun b e=>by cases e) ?_ ?_
  ·intro p hp
   simp only[IB,JA,or_false] at hp
   rcases hp with rfl|rfl
   ·simp -dsimp only[go_sem,aA]
    exact .ptr (H.n+1) 0 (ze r) 32 17 _ (by omega) (by simp -dsimp only[go_sem,aA,cA,reduceCtorEq]) (by rw[UA,uA (by rw[zi];exact jA _)];exact Fzs.self (zz r))
   ·simp -dsimp only[go_sem,aA]
    exact .ptr (H.n+2) 0 (zp t) 55 1 _ (by omega) (by simp -dsimp only[go_sem,aA,cA,reduceCtorEq]) (Fzs.self (CM t))
  refine LB zm ?_
  simp -dsimp only[go_sem,bA,aA,zf,zh]
  refine oB ?_
  simp -dsimp only[go_sem,aA,gA]
  refine Tc t.nodes r _ _ ?_
  simp -dsimp only[go_sem,cA]
  generalize hY:((H.push (.cells [.lit (.slice none 0 0)] 47)).push (.cells [AH t.nodes] 53)).push (.cells (ze r) 32)=Y
  have y1:Y.n=H.n+3:=by rw[<-hY];simp -dsimp only[go_sem,cA]
  have y2:Y.get H.n=some (.cells [.lit (.slice none 0 0)] 47):=by rw[<-hY];simp -dsimp only[go_sem,cA,reduceCtorEq]
  have y3:Y.get (H.n+1)=some (.cells [AH t.nodes] 53):=by rw[<-hY];simp -dsimp only[go_sem,aA,cA,reduceCtorEq]
  have y4:Y.get (H.n+2)=some (.cells (ze r) 32):=by rw[<-hY];simp -dsimp only[go_sem,aA,cA,reduceCtorEq]
  have y5:Gw H Y:=⟨by omega,fun j hj=>by rw[<-hY,zj _ (by simp -dsimp only[go_sem,cA];omega),zj _ (by simp -dsimp only[go_sem];omega),zj _ hj]⟩
  refine WW.keep [(7,.ptr H.n 0),(17,.fn (.func 83) [] [.ptr (H.n+1) 0,.ptr (H.n+2) 0])] zSl ?_
  refine Hk rfl (first:=[]) (cap:=[.ptr (H.n+1) 0,.ptr (H.n+2) 0]) (by simp -dsimp only[go_sem,aA,zf,zh]) Tryz.func83 rfl (by decide) fun A B hA hB=>?_
  generalize hT0:jH [(7,.ptr H.n 0),(17,.fn (.func 83) [] [.ptr (H.n+1) 0,.ptr (H.n+2) 0])]=T0
  have t7:PD T0 7=.ptr H.n 0:=by rw[<-hT0];simp -dsimp only[go_sem,aA,zf,zh]
  have hl:=hT.len
  refine Yc t.nodes (by omega) (by omega) r (.yld Y.n) (H.n+1) (H.n+2) H.n (by omega) (by omega)
   (w9 (kI t.nodes 32 r) H Y.n T0 A B .ready none)
   (w9 (kI t.nodes 32 r) H Y.n T0 A B .done (some (.exit 0)) 16) ⟨?_,?_⟩ _ ?_ ?_ ?_ ?_ _ ?_
  ·intro n Z y hI hy Q' hgo hstop
   obtain⟨z1,z2,z3,z4,k,z5,z6⟩:=hI
   refine MVal.round z1 (by rw[eV];decide) [(7,.ptr H.n 0),(18,.agg (za y))] ?_ ?_
   ·simp only[List.forall_mem_cons,JA,false_implies,implies_true,and_true,Vj,I2 (show 7<31 by decide),t7]
    simp
   rw[eV,hA]
   refine LB zm ?_
   simp -dsimp only[go_sem,bA,aA,gA,zf,zh]
   generalize hZ1:(Z.push (.cells zNode 38)).set Z.n (.cells (za y) 38)=Z1
   have a1:Z1.n=Z.n+1:=by rw[<-hZ1,kA,iA]
   have a2:Z1.get Z.n=some (.cells (za y) 38):=by rw[<-hZ1,dA,if_pos ⟨rfl,by rw[iA];omega⟩]
   have a3:∀j,j<Z.n->Z1.get j=Z.get j:=fun j hj=>by rw[<-hZ1,dA,if_neg (fun h=>absurd h.1 (by omega)),zj j hj]
   refine⟨rfl,lI 31 T0,[18],A,B,none,by rw[a3 _ z3,z1],?_⟩
   dsimp only
   generalize hZ2:Z1.set Y.n (.loop (lI 31 T0) [18] A B .busy none)=Z2
   have b1:Z2.n=Z.n+1:=by rw[<-hZ2,kA,a1]
   have b2:Z2.get Y.n=some (.loop (lI 31 T0) [18] A B .busy none):=by rw[<-hZ2,dA,if_pos ⟨rfl,by omega⟩]
   have b3:∀j,j<Z.n->j≠Y.n->Z2.get j=Z.get j:=fun j hj hjn=>by rw[<-hZ2,dA,if_neg (fun h=>hjn h.1),a3 j hj]
   have b4:Z2.get Z.n=some (.cells (za y) 38):=by rw[<-hZ2,dA,if_neg (fun h=>absurd h.1 (by omega)),a2]
   have hlt:=(rA.1 hy).1
   have hL:((kI t.nodes 32 r).take n).length=n:=by rw[JB];omega
   generalize hW:((kI t.nodes 32 r).take n).map (·.rev)=ws at z5 z6
   have hwl:ws.length=n:=by rw[<-hW,List.length_map,hL]
   have c2:Z2.get H.n=some (.cells [pG 17 ws k] 47):=by rw[b3 _ (by omega) (by omega),z5]
   rw[hB]
   refine LB zm ?_
   simp -dsimp only[go_sem,bA,aA,c2,zkf,hwl]
   refine BR.dec (fun g=>?_) (fun g=>?_)<;>simp -dsimp only[go_sem,bA,aA,reduceCtorEq,g]
   ·have hn16:n=16:=by omega
    refine⟨lI 31 T0,[18],A,B,.busy,none,b2,?_⟩
    dsimp only[eS,YR,uN]
    have f:∀j,j≠Y.n->j<Z.n->(Z2.set Y.n (.loop (lI 31 T0) [18] A B .done (some (.exit 0)))).get j=Z.get j:=fun j h1 h2=>by rw[dA,if_neg (fun h=>h1 h.1),b3 _ h2 h1]
    refine hstop _ _ ⟨by rw[dA,if_pos ⟨rfl,by omega⟩],jA _,by rw[kA];omega,⟨by rw[kA];omega,fun j hj=>by rw[f _ (by omega) (by omega),z4.old j hj]⟩,k,?_,fun hne=>?_⟩ (by omega) (by rw[kA];omega)
    ·rw[f _ (by omega) (by omega),<-hn16,hW,z5]
    ·rw[<-hn16,hW] at hne ⊢
     exact⟨(z6 hne).1,by rw[f _ (by have:=(z6 hne).1;omega) (zq (z6 hne).2)];exact(z6 hne).2⟩
   ·have hn16:n<16:=by omega
    simp -dsimp only[go_sem,bA,aA,b4,c2]
    refine I9 (x:=y.rev) (fun hne=>?_) (by rw[yA,if_pos rfl]) (by omega) fun W k2 hBf=>?_
    ·rw[zj _ (by have:=zq (z6 hne).2;omega),b3 _ (zq (z6 hne).2) (by have:=(z6 hne).1;omega)]
     exact(z6 hne).2
    obtain⟨f1,f2,f3,f4⟩:=hBf
    rw[iA,b1] at f1 f2 f4
    have hne2:ws++[y.rev]≠[]:=by simp
    have old:∀j,j<=Y.n->W.get j=Z2.get j:=fun j hj=>by
     rw[f2 _ (by omega) ?_,zj _ (by omega)]
     by_cases e:ws=[]
     ·exact .inr e
     ·exact .inl (by have:=(z6 e).1;omega)
    have w2:W.get H.n=some (.cells [pG 17 ws k] 47):=by rw[old _ (by omega),c2]
    have ltw:H.n<W.n:=by omega
    have ob:[pG 17 (ws++[y.rev]) k2].all V.one=true:=by simp[qk]
    have lb:[pG 17 (ws++[y.rev]) k2].length=1:=rfl
    have sp:∀a b:V,zD [a] 0 [b]=some [b]:=fun _ _=>rfl
    have k2n:Y.n<k2:=by
     rcases f4 with⟨_,h4⟩|h4
     ·exact absurd (congrArg List.length h4) (by simp)
     ·omega
    have hlob:H.n<=lob (Z2.push (.cells (ze y.rev) 32)) k ws:=by
     unfold lob
     split
     ·rw[iA];omega
     ·rename_i e;have:=(z6 e).1;rw[iA];omega
    simp -dsimp only[go_sem,aA,w2,zo5,ob,lb,sp]
    refine⟨lI 31 T0,[18],A,B,.busy,none,by rw[dA,if_neg (fun h=>absurd h.1 (by omega)),old _ (jA _),b2],?_⟩
    dsimp only[eS,YR,uN]
    generalize hX3:(W.set H.n (.cells [pG 17 (ws++[y.rev]) k2] 47)).set Y.n (.loop (lI 31 T0) [18] A B .ready none)=X3
    have x3:∀j,j≠H.n->j≠Y.n->X3.get j=W.get j:=fun j h1 h2=>by rw[<-hX3,dA,if_neg (fun h=>h2 h.1),dA,if_neg (fun h=>h1 h.1)]
    have x3n:X3.n=W.n:=by rw[<-hX3,kA,kA]
    have e3:((kI t.nodes 32 r).take (n+1)).map (·.rev)=ws++[y.rev]:=by rw[yB,hy,<-hW];simp
    refine hgo _ _ ⟨by rw[<-hX3,dA,if_pos ⟨rfl,by rw[kA];omega⟩],by omega,by omega,⟨by omega,fun j hj=>?_⟩,k2,?_,fun _=>⟨k2n,?_⟩⟩ (by omega) (by omega) ?_ ?_
    ·rw[x3 _ (by omega) (by omega),old _ (by omega),b3 _ (by omega) (by omega),z4.old j hj]
    ·rw[<-hX3,dA,if_neg (fun h=>absurd h.1 (by omega)),dA,if_pos ⟨rfl,ltw⟩,e3]
    ·rw[x3 _ (by omega) (by omega),e3]
     exact f3 hne2
    ·rw[x3 _ (by omega) (by omega),old _ (by omega),b3 _ (by omega) (by omega)]
    ·rw[x3 _ (by omega) (by omega),old _ (by omega),b3 _ (by omega) (by omega)]
  ·intro n Z B' hI hb'
   obtain⟨z1,z2,z3,z4,k,z5,z6⟩:=hI
   have f:∀j,j≠H.n+2->(Z.set (H.n+2) B').get j=Z.get j:=fun j hj=>by rw[dA,if_neg (fun h=>hj h.1)]
   exact⟨by rw[f _ (by omega),z1],z2,by rw[kA];exact z3,⟨by rw[kA];exact z4.n,fun j hj=>by rw[f _ (by omega),z4.old j hj]⟩,k,by rw[f _ (by omega),z5],fun hne=>⟨(z6 hne).1,by rw[f _ (by have:=(z6 hne).1;omega)];exact(z6 hne).2⟩⟩
  ·rw[zj _ (by omega)];exact y3
  ·rw[zj _ (by omega)];exact y4
  ·have f:∀j,j<Y.n->(Y.push (.loop (lI 31 T0) [18] A B .ready none)).get j=Y.get j:=fun j hj=>zj j hj
   exact⟨by rw[yA,if_pos rfl],by omega,by rw[iA];omega,y5.trans .push,0,by rw[f _ (by omega),y2];rfl,fun h=>absurd rfl h⟩
  ·rw[iA];omega
  ·intro Z lo' hfin hlo'
   rcases hfin with hI|hE
   ·obtain⟨z1,z2,z3,z4,k,z5,z6⟩:=hI
    have en:((kI t.nodes 32 r).take (kI t.nodes 32 r).length).map (·.rev)=AL t.nodes r:=by rw[AL,FB,uA z2]
    rw[en] at z5 z6
    refine⟨_,_,_,_,.ready,none,z1,by decide,?_⟩
    dsimp only
    generalize hR:Z.set Y.n (.loop (lI 31 T0) [18] A B .exhausted none)=R
    have r1:R.get H.n=some (.cells [pG 17 (AL t.nodes r) k] 47):=by rw[<-hR,dA,if_neg (fun h=>absurd h.1 (by omega)),z5]
    have r2:AL t.nodes r≠[]->Y.n<k/\R.get k=some (.cells (row ze (AL t.nodes r)) 32):=fun hne=>⟨(z6 hne).1,by rw[<-hR,dA,if_neg (fun h=>absurd h.1 (by have:=(z6 hne).1;omega))];exact(z6 hne).2⟩
    have r3:R.n=Z.n:=by rw[<-hR,kA]
    clear hR
    subst hT0
    simp -dsimp only[go_sem,bA,aA,zf,zh,r1,zkf]
    by_cases g:(AL t.nodes r).length=0
    ·have g2:AL t.nodes r=[]:=WA.1 g
     rw[if_pos g,g2] at hQ
     have e0:(((0:Nat):Int)=0)=True:=by simp
     simp -dsimp only[go_sem,bA,aA,e0,g]
     exact HC (.tup [NB ze [],vA 4]) (by omega) (.tup _ _ (.two .nil (.self _ rfl))) hQ
    ·rw[if_neg g] at hQ
     have e0:(((AL t.nodes r).length:Int)=0)=False:=by simp;exact fun h=>g (by rw[h];rfl)
     simp -dsimp only[go_sem,bA,aA,e0,r1]
     exact HC (.tup [NB ze (AL t.nodes r),vA 0]) (by omega) (.tup _ _ (.two (Fz.buf (e:=32) zi zz (fun hne=>by have:=(r2 hne).1;show H.n<=k;omega) fun hne=>(r2 hne).2) (.self _ rfl))) hQ
   ·obtain⟨z1,z2,z3,z4,k,z5,z6⟩:=hE
    have en:((kI t.nodes 32 r).take 16).map (·.rev)=AL t.nodes r:=rfl
    rw[en] at z5 z6
    refine⟨_,_,_,_,.done,some (.exit 0),z1,by decide,?_⟩
    dsimp only
    generalize hR:Z.set Y.n (.loop (lI 31 T0) [18] A B .exhausted (some (.exit 0)))=R
    have r1:R.get H.n=some (.cells [pG 17 (AL t.nodes r) k] 47):=by rw[<-hR,dA,if_neg (fun h=>absurd h.1 (by omega)),z5]
    have r2:AL t.nodes r≠[]->Y.n<k/\R.get k=some (.cells (row ze (AL t.nodes r)) 32):=fun hne=>⟨(z6 hne).1,by rw[<-hR,dA,if_neg (fun h=>absurd h.1 (by have:=(z6 hne).1;omega))];exact(z6 hne).2⟩
    have r3:R.n=Z.n:=by rw[<-hR,kA]
    clear hR
    subst hT0
    refine LB zm ?_
    simp -dsimp only[go_sem,bA,aA,zf,zh,r1,zkf]
    by_cases g:(AL t.nodes r).length=0
    ·have g2:AL t.nodes r=[]:=WA.1 g
     rw[if_pos g,g2] at hQ
     have e0:(((0:Nat):Int)=0)=True:=by simp
     simp -dsimp only[go_sem,bA,aA,e0,g]
     exact HC (.tup [NB ze [],vA 4]) (by omega) (.tup _ _ (.two .nil (.self _ rfl))) hQ
    ·rw[if_neg g] at hQ
     have e0:(((AL t.nodes r).length:Int)=0)=False:=by simp;exact fun h=>g (by rw[h];rfl)
     simp -dsimp only[go_sem,bA,aA,e0,r1]
     exact HC (.tup [NB ze (AL t.nodes r),vA 0]) (by omega) (.tup _ _ (.two (Fz.buf (e:=32) zi zz (fun hne=>by have:=(r2 hne).1;show H.n<=k;omega) fun hne=>(r2 hne).2) (.self _ rfl))) hQ
end
section
open Go Go.Tw
def DQ(v:GV):Prop:=v.wf/\GN v/\ML v
theorem HZ{k n:Int}{t:ByteArray}{l:List GV}{ks:List ByteArray}(h1:l.length<=1048576)(h2:ks.length<=1048576)(h3:t.size<=1048576)(h4:∀s∈ks,s.size<=1048576)(h5:-9223372036854775808<=n/\n<=9223372036854775807)(hl:∀x∈l,DQ x):DQ (.mk k n t l ks):=by
 have hw:∀l:List GV,(∀x∈l,DQ x)->GV.wfs l:=fun l=>by
  induction l with
  | nil=>exact fun _=>trivial
  | cons x l ih=>exact fun h=>⟨(h x (by simp)).1,ih fun y hy=>h y (by simp[hy])⟩
 have hn:∀l:List GV,(∀x∈l,DQ x)->G8 l:=fun l=>by
  induction l with
  | nil=>exact fun _=>trivial
  | cons x l ih=>exact fun h=>⟨(h x (by simp)).2.1,ih fun y hy=>h y (by simp[hy])⟩
 have hm:∀l:List GV,(∀x∈l,DQ x)->SN l:=fun l=>by
  induction l with
  | nil=>exact fun _=>trivial
  | cons x l ih=>exact fun h=>⟨(h x (by simp)).2.2,ih fun y hy=>h y (by simp[hy])⟩
 exact⟨⟨by omega,by omega,by omega,fun s hs=>by have:=h4 s hs;omega,hw l hl⟩,⟨h5,hn l hl⟩,⟨h4,hm l hl⟩⟩
section
variable {H:Type} {enc:TypeId×Value->H} {w:World} {base:Nat} {spare:Nat->Bool} {held:Bool}
theorem IP(d:DataW H):1<=Rows.uptoBulk d:=by
 cases d with
 | lit l=>cases l<;>simp[Rows.uptoBulk]
 | nil=>simp[Rows.uptoBulk]
 | ptr d=>simp[Rows.uptoBulk]
 | slice elems spare=>simp[Rows.uptoBulk]
 | agg parts=>simp[Rows.uptoBulk]
 | iface t d=>simp[Rows.uptoBulk]
 | map entries=>simp[Rows.uptoBulk]
 | held h=>simp[Rows.uptoBulk]
theorem zlO{d:DataW H}{l:List (DataW H)}(h:d∈l):Rows.uptoBulk d<=Rows.uptoBulkAll l:=by
 induction l with
 | nil=>cases h
 | cons x r ih=>
  simp only[Rows.uptoBulkAll]
  cases IB.1 h with
  | inl e=>subst e;omega
  | inr e=>have:=ih e;omega
theorem zmI(l:List (DataW H)):l.length<=Rows.uptoBulkAll l:=by
 induction l with
 | nil=>simp[Rows.uptoBulkAll]
 | cons x r ih=>have:=IP x;simp only[Rows.uptoBulkAll,HA];omega
theorem Z6{d:DataW H}{el sp:List (DataW H)}(e:d=.slice el sp){B:Nat}(h:Rows.uptoBulk d<=B):el.length+1<=B/\∀x∈el,Rows.uptoBulk x<=B:=by
 subst e
 simp only[Rows.uptoBulk] at h
 have:=zmI el
 exact⟨by omega,fun x hx=>by have:=zlO hx;omega⟩
theorem qg{xs:List (DataW H×List MemPlace)}{B:Nat}(h:Rows.uptoBulk (.agg (xs.map (·.1)))<=B){i:Nat}{y:DataW H×List MemPlace}(hi:xs[i]?=some y):Rows.uptoBulk y.1+1<=B:=by
 simp only[Rows.uptoBulk] at h
 have:=zlO (d:=y.1) (l:=xs.map (·.1)) (List.mem_map.2 ⟨y,IA hi,rfl⟩)
 omega
theorem T3{α:Type}(l:List α)(a k:Nat):l.drop a=(l.drop a).take k++l.drop (a+k):=by
 rw[<-JE,eC]
theorem co3:Tryz.prog.cellsOf 3=1:=by decide+kernel
theorem co2:Tryz.prog.cellsOf 2=1:=by decide+kernel
theorem co9:Tryz.prog.cellsOf 9=1:=by decide+kernel
theorem coLV:Tryz.prog.cellsOf 33=1:=by decide+kernel
theorem coLS:Tryz.prog.cellsOf 34=1:=by decide+kernel
theorem coLN:Tryz.prog.cellsOf 22=1:=by decide+kernel
theorem coV:Tryz.prog.cellsOf 36=5:=by decide+kernel
theorem coR:Tryz.prog.cellsOf 32=17:=by decide+kernel
theorem coN:Tryz.prog.cellsOf 38=41:=by decide+kernel
theorem coT:Tryz.prog.cellsOf 24=1:=by decide+kernel
theorem coU:Tryz.prog.cellsOf 29=1:=by decide+kernel
theorem coS:Tryz.prog.cellsOf 30=16:=by decide+kernel
theorem coB:Tryz.prog.cellsOf 5=1:=by decide+kernel
theorem Eg{t:TypeId}{k:IntKind}(ht:Tryz.prog.underlying t=some (.int k)){fuel:Nat}{cs:List Value}{x:DataW H×List MemPlace}(h:UC enc fA w base spare held fuel t cs=some x):
  ∃n:Int,RDs fA w [.lit (.int k n)] cs/\(Lit.int k n).wf=true:=by
 obtain⟨n,rfl,_,hw⟩:=DataW.trod_int ht h
 exact⟨n,RDs.one rfl,hw⟩
theorem dR{t:TypeId}(ht:Tryz.prog.underlying t=some .string){fuel:Nat}{cs:List Value}{x:DataW H×List MemPlace}(h:UC enc fA w base spare held fuel t cs=some x):
  ∃s:ByteArray,RDs fA w [gE s] cs/\s.size+1<=Rows.uptoBulk x.1:=by
 obtain⟨s,rfl,rfl,hw⟩:=DataW.trod_string ht h
 refine⟨s,RDs.one rfl,?_⟩
 simp only[Rows.uptoBulk,Array.length_toList]
 exact jA _
theorem bR{fuel:Nat}{cs:List Value}{x:DataW H×List MemPlace}(h:UC enc fA w base spare held fuel 32 cs=some x):∃r:GRev,RDs fA w (ze r) cs:=by
 obtain⟨xs,n,_,_,hl,hx,hf⟩:=EG Tryz.underlying32 h
 rw[coR] at hl
 have f0:UC enc fA w base spare held n 29 ((cs.drop 0).take (Tryz.prog.cellsOf 29))=xs[0]?:=hf 0 _ rfl
 have f1:UC enc fA w base spare held n 30 ((cs.drop 1).take (Tryz.prog.cellsOf 30))=xs[1]?:=hf 1 _ rfl
 simp only[coU,coS] at f0 f1
 rw[sA (by rw[hx];decide)] at f0 f1
 obtain⟨g,h0,_⟩:=Eg wE f0
 obtain⟨s,h1⟩:=C0 Tryz.underlying30 Tryz.underlying5 coB coS f1
 refine⟨⟨g,s⟩,?_⟩
 have e:cs=(cs.drop 0).take 1++(cs.drop 1).take 16:=by
  have h2:=T3 cs 0 1
  have h3:=T3 cs 1 16
  rw[DI (by omega:cs.length<=1+16),MA] at h3
  rw[<-h3]
  rwa [UA] at h2 ⊢
 rw[e]
 exact eE h0 h1
theorem re:∀(N fuel:Nat),fuel<N->∀(cs:List Value) (x:DataW H×List MemPlace),UC enc fA w base spare held fuel 36 cs=some x->Rows.uptoBulk x.1<=1048576->∃v:GV,RDs fA w (zR v) cs/\DQ v
 | 0,fuel,hN,_,_,_,_=>by omega
 | N+1,fuel,hN,cs,x,h,hb=>by
  obtain⟨xs,n,rfl,hxe,hl,hx,hf⟩:=EG Tryz.underlying36 h
  rw[hxe] at hb
  rw[coV] at hl
  have f0:UC enc fA w base spare held n 3 ((cs.drop 0).take (Tryz.prog.cellsOf 3))=xs[0]?:=hf 0 _ rfl
  have f1:UC enc fA w base spare held n 2 ((cs.drop 1).take (Tryz.prog.cellsOf 2))=xs[1]?:=hf 1 _ rfl
  have f2:UC enc fA w base spare held n 9 ((cs.drop 2).take (Tryz.prog.cellsOf 9))=xs[2]?:=hf 2 _ rfl
  have f3:UC enc fA w base spare held n 33 ((cs.drop 3).take (Tryz.prog.cellsOf 33))=xs[3]?:=hf 3 _ rfl
  have f4:UC enc fA w base spare held n 34 ((cs.drop 4).take (Tryz.prog.cellsOf 34))=xs[4]?:=hf 4 _ rfl
  simp only[co3,co2,co9,coLV,coLS] at f0 f1 f2 f3 f4
  rw[sA (by rw[hx];decide)] at f0 f1 f2 f3 f4
  have b2:=qg hb (sA (show 2<xs.length by rw[hx];decide))
  have b3:=qg hb (sA (show 3<xs.length by rw[hx];decide))
  have b4:=qg hb (sA (show 4<xs.length by rw[hx];decide))
  obtain⟨k,h0,_⟩:=Eg bD f0
  obtain⟨z,h1,hz⟩:=Eg Tryz.underlying2 f1
  obtain⟨t,h2,ht⟩:=dR cD f2
  obtain⟨l,h3,hlo,hll⟩:=cR (ok:=DQ) (by decide:0<5) zF Tryz.underlying33 coV (d:=(xs[3]'(by rw[hx];decide)).1) (ps:=(xs[3]'(by rw[hx];decide)).2) f3 fun m cs' D Pl hm hD ⟨el,sp,e,hmem⟩=>
   re N m (by omega) cs' (D,Pl) hD (cB ((Z6 e (B:=1048575) (by omega)).2 D hmem) (by omega))
  obtain⟨ks,h4,hko,hkl⟩:=cR (ok:=fun s:ByteArray=>s.size<=1048576) (by decide:0<1) zC Tryz.underlying34 co9 (d:=(xs[4]'(by rw[hx];decide)).1) (ps:=(xs[4]'(by rw[hx];decide)).2) f4 fun m cs' D Pl hm hD ⟨el,sp,e,hmem⟩=>by
   obtain⟨s,q1,q2⟩:=dR cD hD
   have:=(Z6 e (B:=1048575) (by omega)).2 D hmem
   exact⟨s,q1,by simp only at q2;omega⟩
  have ll:l.length<=1048576:=by
   rcases hll with rfl|⟨el,sp,e,hel⟩
   ·simp
   ·have:=(Z6 e (B:=1048575) (by omega)).1;omega
  have kl:ks.length<=1048576:=by
   rcases hkl with rfl|⟨el,sp,e,hel⟩
   ·simp
   ·have:=(Z6 e (B:=1048575) (by omega)).1;omega
  have hz':-9223372036854775808<=z/\z<=9223372036854775807:=by
   simpa[Lit.wf,IntKind.min,IntKind.max,IntKind.signed,IntKind.bits] using hz
  refine⟨.mk k z t l ks,?_,HZ ll kl (by omega) hko hz' hlo⟩
  match cs,hl with
  | [c0,c1,c2,c3,c4],_=>
   simp only[UA,JD,NA,iB] at h0 h1 h2 h3 h4
   rw[WJ]
   exact eE h0 (eE h1 (eE h2 (eE h3 h4)))
theorem FU{fuel:Nat}{cs:List Value}{x:DataW H×List MemPlace}(h:UC enc fA w base spare held fuel 38 cs=some x)(hb:Rows.uptoBulk x.1<=1048576):∃n:GNode,RDs fA w (za n) cs/\DQ n.body:=by
 obtain⟨xs,m,_,hxe,hl,hx,hf⟩:=EG Tryz.underlying38 h
 rw[hxe] at hb
 rw[coN] at hl
 have f0:UC enc fA w base spare held m 32 ((cs.drop 0).take (Tryz.prog.cellsOf 32))=xs[0]?:=hf 0 _ rfl
 have f1:UC enc fA w base spare held m 32 ((cs.drop 17).take (Tryz.prog.cellsOf 32))=xs[1]?:=hf 1 _ rfl
 have f2:UC enc fA w base spare held m 3 ((cs.drop 34).take (Tryz.prog.cellsOf 3))=xs[2]?:=hf 2 _ rfl
 have f3:UC enc fA w base spare held m 3 ((cs.drop 35).take (Tryz.prog.cellsOf 3))=xs[3]?:=hf 3 _ rfl
 have f4:UC enc fA w base spare held m 36 ((cs.drop 36).take (Tryz.prog.cellsOf 36))=xs[4]?:=hf 4 _ rfl
 simp only[co3,coR,coV] at f0 f1 f2 f3 f4
 rw[sA (by rw[hx];decide)] at f0 f1 f2 f3 f4
 have b4:=qg hb (sA (show 4<xs.length by rw[hx];decide))
 obtain⟨r,h0⟩:=bR f0
 obtain⟨p,h1⟩:=bR f1
 obtain⟨d,h2,_⟩:=Eg bD f2
 obtain⟨a,h3,_⟩:=Eg bD f3
 obtain⟨v,h4,hv⟩:=re _ _ (Nat.lt_succ_self _) _ _ f4 (by omega)
 refine⟨⟨r,p,d,a,v⟩,?_,hv⟩
 have e0:=T3 cs 0 17
 have e1:=T3 cs 17 17
 have e2:=T3 cs 34 1
 have e3:=T3 cs 35 1
 have e4:=T3 cs 36 5
 rw[DI (by omega:cs.length<=36+5),MA] at e4
 have e:cs=(cs.drop 0).take 17++((cs.drop 17).take 17++((cs.drop 34).take 1++((cs.drop 35).take 1++(cs.drop 36).take 5))):=by
  rw[<-e4,<-e3,<-e2,<-e1,<-e0,UA]
 rw[e]
 exact eE h0 (eE h1 (eE h2 (eE h3 h4)))
theorem zpo{fuel:Nat}{cs:List Value}{x:DataW H×List MemPlace}(h:UC enc fA w base spare held fuel 24 cs=some x)(hb:Rows.uptoBulk x.1<=1048576):∃t:GTree,RDs fA w (zp t) cs/\t.nodes.length<=1048575/\∀n∈t.nodes,DQ n.body:=by
 obtain⟨xs,m,_,hxe,hl,hx,hf⟩:=EG gI h
 rw[hxe] at hb
 rw[coT] at hl
 have f0:UC enc fA w base spare held m 22 ((cs.drop 0).take (Tryz.prog.cellsOf 22))=xs[0]?:=hf 0 _ rfl
 simp only[coLN] at f0
 rw[sA (by rw[hx];decide)] at f0
 have b0:=qg hb (sA (show 0<xs.length by rw[hx];decide))
 obtain⟨l,h0,hlo,hll⟩:=cR (ok:=fun n:GNode=>DQ n.body) (by decide:0<41) zg Tryz.underlying22 coN (d:=(xs[0]'(by rw[hx];decide)).1) (ps:=(xs[0]'(by rw[hx];decide)).2) f0 fun m cs' D Pl hm hD ⟨el,sp,e,hmem⟩=>
  FU hD (cB ((Z6 e (B:=1048575) (by omega)).2 D hmem) (by omega))
 refine⟨⟨l⟩,?_,?_,hlo⟩
 ·match cs,hl with
  | [c0],_=>exact h0
 ·show l.length<=1048575
  rcases hll with rfl|⟨el,sp,e,hel⟩
  ·simp
  ·have:=(Z6 e (B:=1048575) (by omega)).1;omega
end
theorem zkE{l:List GNode}(h1:l.length<=1048575)(h2:∀n∈l,DQ n.body)(hL:yN l=false):zqG l:=by
 have hp:∀n∈l,YJ 20 n.body<=4000:=fun n hn=>by
  unfold yN at hL
  rw[Bool.or_eq_false_iff] at hL
  have:=vE.1 hL.2 n hn
  unfold K4 at this
  simpa using this
 have ht:∀n∈l,CK n.body/\(ED n.body).length+5<=230*(YJ 20 n.body).toNat:=fun n hn=>xR 20 (jA _) n.body (h2 n hn).2.2 (h2 n hn).2.1 (hp n hn)
 exact⟨h1,⟨by omega,fun n hn=>(h2 n hn).1⟩,fun n hn=>⟨(h2 n hn).1,(h2 n hn).2.1,fun _=>by have:=(ht n hn).2;have:=hp n hn;omega⟩,fun n hn=>(ht n hn).1⟩
end
section
open Go Go.Tw
open Classical
theorem zoC(t:GTree)(hT:iP t.nodes)(hm:SJ t.nodes=true)(hz:HO .zero)(hv:ZL .zero=true)(y:GNode)(ys:List GNode)(hl:bO t.nodes=y::ys)(hd:y.deleted=0)(H:Heap)(Q:OR->Prop)
  (hQ:Q ⟨.tup [.agg (zp ⟨[]⟩),.agg (ze .zero),vA 7],H,H.n⟩):MCall Cx 14 [.agg (zp t),.agg (ze .zero),vA 0,.agg (zR .zero)] H Q:=by
 have hn:=hT.len
 have cT:∀H:Heap,MCall Cx 6 [.agg (zp t)] H (·=⟨.lit (.bool true),H,H.n⟩):=fun H=>W2 t (by omega) hT.ok H _ (by rw[hm])
 have cV:∀H:Heap,MCall Cx 44 [.agg (zR .zero)] H (·=⟨.lit (.bool true),H,H.n⟩):=fun H=>vZ kO .zero hz.1 hz.2.1 hz.2.2 H _ (by rw[hv])
 refine mB (fn:=Tryz.f14) Tryz.func14 rfl (by decide) (k:=135) rfl (rs:=[.cell 8 24,.cell 9 32,.tmp 10]) rfl ?_
 refine PA zm ?_
 simp -dsimp only[go_sem,bA,aA,cA,reduceCtorEq,gA]
 refine PA zm ?_
 simp -dsimp only[go_sem]
 refine DR.wr _ ((CA (uO cT) (CA (uO cV) (CA (AO) xA)))) [(17,18)] (by kernel_rfl) (by kernel_rfl) ?_
 simp -dsimp only[go_sem,bA,aA,cA,reduceCtorEq,gA]
 refine PA zm ?_
 simp -dsimp only[go_sem,bA,aA,cA,reduceCtorEq]
 refine oB ?_
 simp -dsimp only[go_sem,bA,aA,cA,reduceCtorEq]
 refine xZ t hT _ _ ?_
 rw[hl]
 simp -dsimp only[go_sem,cA]
 have z2:∀a:V,zD oJ 0 [a]=some [a]:=fun _=>rfl
 have e1:((0:Int)<(((y::ys).length:Nat):Int))=True:=by simp
 have e2:(0<(y::ys).length)=True:=by simp
 have rowy:∃o,row za (y::ys)=za y++o:=⟨_,rfl⟩
 refine PA zm ?_
 simp -dsimp only[go_sem]
 refine DR.wr _ ((CA (AO) xA)) [(0,1)] (by kernel_rfl) (by kernel_rfl) ?_
 simp -dsimp only[go_sem,bA,aA,cA,reduceCtorEq,hd,e1,e2,iJ]
 have vct:∀a:V,zG (.agg [a])=some [a]:=fun _=>rfl
 have wht:∀a:V,QE fA 24 [a] 0=some (.agg [a]):=fun _=>rO vV kV rfl
 have on0:([.lit (.slice none 0 0)]:List V).all V.one=true:=rfl
 refine MV.tab _ ((CA (AO) xA)) ?_
 simp -dsimp only[go_sem,bA,aA,cA,reduceCtorEq,z2,vct,wht,on0]
 exact HC (.tup [.agg (zp ⟨[]⟩),.agg (ze .zero),vA 7]) (by omega) (.tup _ _ (.cons _ _ _ _ (.agg _ _ (.one .nil)) (.two (.self _ (zz _)) (.self _ rfl)))) hQ
theorem zqo(X:Heap)(a b:GRev):zx fA X 47 2 [(0,.agg (ze a)),(1,.agg (ze b))]=some ⟨.sl X.n 0 2 2 none,X.push (.cells (ze a++ze b) 32),X.n⟩:=by
 have la:=zi a
 have lb:=zi b
 have lz:=zi .zero
 have h1:zD (ze .zero++ze .zero) 0 (ze a)=some (ze a++ze .zero):=eN [] (ze .zero) (ze .zero) (ze a) (o:=0) rfl (by rw[la,lz])
 have h2:zD (ze a++ze .zero) 17 (ze b)=some (ze a++ze b):=by
  have:=eN (ze a) (ze .zero) [] (ze b) (o:=17) la (by rw[lb,lz])
  simpa using this
 simp only[zx,GB,YN,sk,pA,KA,bH,MA,ZM,tf,la,lb,lz,JG,dF,h1,h2,if_true]
 rw[if_pos ⟨by omega,trivial⟩]
theorem zpg(b:Nat):lH fA 47 (.sl b 0 2 2 none) none (some (vA 1)) none=some (.sl b 0 1 2 none):=by
 have h1:fS (vA 1) 2=some 1:=rfl
 simp[lH,GB,YN,SK,MM,pM,sM,QS,h1]
theorem zoD(hz:HO .zero)(hzt:CK .zero)(hv:ZL .zero=true)(r1:GRev)(hr1:xM .zero 0 .zero=(r1,0))(hm:SJ []=true)(m:List GNode)(c:Nat)(hi:tM [] [r1] 0 .zero=(m,c,0))(H:Heap)(Q:OR->Prop)
  (hQ:Q ⟨.tup [.agg (zp ⟨m⟩),.agg (ze r1),vA 0],H,H.n⟩):MCall Cx 14 [.agg (zp ⟨[]⟩),.agg (ze .zero),vA 0,.agg (zR .zero)] H Q:=by
 have hT:iP (⟨[]⟩:GTree).nodes:=⟨by simp,(show mV [] from by simp[mV]),(fun n h=>by cases h),(fun n h=>by cases h)⟩
 have cT:∀H:Heap,MCall Cx 6 [.agg (zp ⟨[]⟩)] H (·=⟨.lit (.bool true),H,H.n⟩):=fun H=>W2 ⟨[]⟩ (by simp) hT.ok H _ (by rw[hm])
 have cV:∀H:Heap,MCall Cx 44 [.agg (zR .zero)] H (·=⟨.lit (.bool true),H,H.n⟩):=fun H=>vZ kO .zero hz.1 hz.2.1 hz.2.2 H _ (by rw[hv])
 have hl:bO []=[]:=by rw[bO,hm,if_pos rfl];rfl
 refine mB (fn:=Tryz.f14) Tryz.func14 rfl (by decide) (k:=135) rfl (rs:=[.cell 8 24,.cell 9 32,.tmp 10]) rfl ?_
 refine PA zm ?_
 simp -dsimp only[go_sem,bA,aA,cA,reduceCtorEq,gA]
 refine PA zm ?_
 simp -dsimp only[go_sem]
 refine DR.wr _ ((CA (uO cT) (CA (uO cV) (CA (AO) xA)))) [(17,18)] (by kernel_rfl) (by kernel_rfl) ?_
 simp -dsimp only[go_sem,bA,aA,cA,reduceCtorEq,gA]
 refine PA zm ?_
 simp -dsimp only[go_sem,bA,aA,cA,reduceCtorEq]
 refine oB ?_
 simp -dsimp only[go_sem,bA,aA,cA,reduceCtorEq]
 refine xZ ⟨[]⟩ hT _ _ ?_
 rw[hl]
 simp -dsimp only[go_sem,cA]
 have e1:((0:Int)<(([]:List GNode).length:Nat))=False:=by simp
 have e2:((0:Int)<((0:Nat):Int))=False:=by simp
 have e3:((0:Int)<0)=False:=by simp
 refine PA zm ?_
 simp -dsimp only[go_sem]
 refine DR.wr _ ((CA (AO) xA)) [(0,1)] (by kernel_rfl) (by kernel_rfl) ?_
 simp -dsimp only[go_sem,bA,aA,cA,reduceCtorEq,gA,e1]
 refine DR.wr _ ((CA (AO) xA)) [(0,1)] (by kernel_rfl) (by kernel_rfl) ?_
 simp -dsimp only[go_sem,bA,aA,cA,reduceCtorEq,e1]
 refine DR.wr _ ((CA (AO) xA)) [(0,1)] (by kernel_rfl) (by kernel_rfl) ?_
 simp -dsimp only[go_sem,bA,aA,cA,reduceCtorEq,gA]
 refine PA zm ?_
 simp -dsimp only[go_sem,bA,aA,cA,reduceCtorEq]
 refine oB ?_
 simp -dsimp only[go_sem,bA,aA,reduceCtorEq]
 refine Ak kO .zero 0 .zero _ _ hz ?_
 rw[hr1]
 simp -dsimp only[go_sem,bA,aA,cA,reduceCtorEq]
 refine PA zm ?_
 simp -dsimp only[go_sem,bA,aA,cA,reduceCtorEq]
 refine PA zm ?_
 simp -dsimp only[go_sem,bA,aA,cA,reduceCtorEq]
 refine PA zm ?_
 simp -dsimp only[go_sem,bA,aA,cA,reduceCtorEq]
 refine oB ?_
 simp -dsimp only[go_sem,aA,reduceCtorEq]
 have e4:aH [] r1=false:=by simp[aH]
 refine MCall.lend_flat (.two (.ptr (H.n+6) 0 (zp ⟨[]⟩) 55 1 _ trivial (by simp -dsimp only[go_sem,bA,aA,cA,reduceCtorEq]) (.one (.self _ (UH zK [])))) (.self _ (zz r1))) rfl (yZ [] r1 (by simp) _ _ rfl) ?_
 simp -dsimp only[go_sem,aA,cA,reduceCtorEq,e4]
 refine PA zm ?_
 simp -dsimp only[go_sem,bA,aA,cA,reduceCtorEq,zqo]
 refine PA zm ?_
 simp -dsimp only[go_sem]
 refine DR.wr _ ((CA (AO) xA)) [(0,1)] (by kernel_rfl) (by kernel_rfl) ?_
 simp -dsimp only[go_sem,bA,aA,cA,reduceCtorEq,zpg]
 have lr:=zi r1
 refine WW.frz [.cells (zp ⟨[]⟩) 24,.cells (ze .zero) 32,.cells (zR .zero) 36,.cells oJ 24,.cells (ze .zero) 32,.cells (ze r1) 32]
  [(2,vA 0),(4,.ptr H.n 0),(7,.ptr (H.n+2) 0),(8,.ptr (H.n+3) 0),(9,.ptr (H.n+4) 0),(12,.ptr (H.n+5) 0),(15,NB ze [r1])] ?_ ?_ ?_ (fun b e=>by cases e) ?_ ?_ ?_
 ·simp only[HA,SA,iA,kA];omega
 ·(focus (intro b hb;(try simp only[yA,dA,iA,kA] at hb ⊢)<;>(try (repeat' split))<;>first|rfl|omega|(exfalso;omega)))
 ·omega
 ·intro i B hB
  match i,hB with
  | 0,hB=>injection hB with hB;subst hB;exact⟨_,by simp -dsimp only[go_sem,bA,cA,reduceCtorEq],UD (CM _)⟩
  | 1,hB=>injection hB with hB;subst hB;exact⟨_,by simp -dsimp only[go_sem,bA,aA,cA,reduceCtorEq],UD (zz _)⟩
  | 2,hB=>injection hB with hB;subst hB;exact⟨_,by simp -dsimp only[go_sem,bA,aA,cA,reduceCtorEq],UD (TL _)⟩
  | 3,hB=>injection hB with hB;subst hB;exact⟨_,by simp -dsimp only[go_sem,bA,aA,cA,reduceCtorEq],UD (by decide)⟩
  | 4,hB=>injection hB with hB;subst hB;exact⟨_,by simp -dsimp only[go_sem,bA,aA,cA,reduceCtorEq],UD (zz _)⟩
  | 5,hB=>injection hB with hB;subst hB;exact⟨_,by simp -dsimp only[go_sem,bA,aA,cA,reduceCtorEq],UD (zz _)⟩
 ·intro p hp
  simp only[IB,JA,or_false,HA,SA] at hp ⊢
  rcases hp with rfl|rfl|rfl|rfl|rfl|rfl|rfl
  ·exact SC (by simp -dsimp only[go_sem,aA,reduceCtorEq]) rfl
  ·exact SC (by simp -dsimp only[go_sem,aA,reduceCtorEq]) (by simp[V.ok])
  ·exact SC (by simp -dsimp only[go_sem,aA,reduceCtorEq]) (by simp[V.ok])
  ·exact SC (by simp -dsimp only[go_sem,aA,reduceCtorEq]) (by simp[V.ok])
  ·exact SC (by simp -dsimp only[go_sem,aA,reduceCtorEq]) (by simp[V.ok])
  ·exact SC (by simp -dsimp only[go_sem,aA,reduceCtorEq]) (by simp[V.ok])
  ·refine RN.fz ?_
   simp -dsimp only[go_sem,aA,cA,reduceCtorEq]
   have:=Fz.slice (Z:=fun b=>H.n+6<=b) (H:=(((((((((H.push (.cells (zp ⟨[]⟩) 24)).push (.cells (ze .zero) 32)).push (.cells (zR .zero) 36)).push (.cells oJ 24)).push (.cells (ze .zero) 32)).push (.cells (ze .zero) 32)).set (H.n+5) (.cells (ze r1) 32)).push (.cells (zp ⟨[]⟩) 55)).push (.cells (ze r1++ze .zero) 32))) (b:=H.n+7) (off:=0) (len:=1) (cap:=2) (opn:=none) (cs:=ze r1++ze .zero) (e:=32) 17 (by omega) (by simp -dsimp only[go_sem,bA,aA,cA,reduceCtorEq]) (by decide) (by rw[UA,mC lr]) (zz r1)
   show Fz _ _ _ (.pn (row ze [r1]) 1)
   rw[show row ze [r1]=ze r1 by rw[iJ];exact MA _]
   exact this
 simp -dsimp only[go_sem,wC]
 refine PA zm ?_
 simp -dsimp only[go_sem,bA,aA,cA,reduceCtorEq]
 refine oB ?_
 simp -dsimp only[go_sem,bA,aA]
 refine sZ ⟨[]⟩ hT [r1] (by simp) 0 .zero hz hzt _ _ ?_
 have hi1:(tM (⟨[]⟩:GTree).nodes [r1] 0 .zero)=(m,c,0):=hi
 rw[hi1]
 simp -dsimp only[go_sem,bA,aA,cA,reduceCtorEq]
 refine PA zm ?_
 simp -dsimp only[go_sem,bA,aA,cA]
 have wht:∀a:V,QE fA 24 [a] 0=some (.agg [a]):=fun _=>rO vV kV rfl
 have spz:zD oJ 0 (zp ⟨m⟩)=some (zp ⟨m⟩):=rfl
 refine PA zm ?_
 simp -dsimp only[go_sem]
 refine DR.wr _ ((xA)) [(0,1),(1,2)] (by kernel_rfl) (by kernel_rfl) ?_
 simp -dsimp only[go_sem,bA,aA,cA,reduceCtorEq,spz]
 refine LB zm ?_
 simp -dsimp only[go_sem,bA,aA,cA,reduceCtorEq]
 exact AA (by omega) (by simp[V.bf,QF,CM,zz]) hQ
end
section
open Go Go.Tw
open Classical
theorem m_57(l:List GRev)(hl:l.length<=1048576)(H:Heap)(Q:OR->Prop)(hQ:∀X k lo,Gw H X->H.n<=lo->(l≠[]->H.n<=k/\X.get k=some (.cells (row ze l) 32))->Q ⟨XH 17 l k,X,lo⟩):MCall Cx 57 [NB ze l] H Q:=by
 have e1:∀cs n,jE fA .eql 47 (.ps cs n) (.lit (.slice none 0 0))=some (.lit (.bool false)):=W3 GB
 have e2:jE fA .eql 47 .void (.lit (.slice none 0 0))=some (.lit (.bool false)):=V2 GB
 have e3:jE fA .eql 47 (.lit (.slice none 0 0)) (.lit (.slice none 0 0))=some (.lit (.bool true)):=P3 GB
 have e4:∀H,zx fA H 47 0 []=some ⟨.sl H.n 0 0 0 none,H.push (.cells [] 32),H.n⟩:=fun H=>KS GB YN B8
 refine MCall.pn (fun h0 _=>?_) (fun h0 _=>?_) ?_
 ·have hl0:l=[]:=WA.1 h0
  subst hl0
  refine QA zm (fn:=Tryz.f57) Tryz.func57 rfl (by decide) (k:=8) rfl (rs:=[.tmp 2]) rfl ?_
  simp -dsimp only[go_sem,bA,aA,reduceCtorEq]
  simp -dsimp only[go_sem,bA,aA,reduceCtorEq,gA,e3]
  exact HC (.pn [] 0) (by omega) .nil (hQ H 0 H.n .refl (jA _) fun h=>absurd rfl h)
 ·have hl0:l=[]:=WA.1 h0
  subst hl0
  refine QA zm (fn:=Tryz.f57) Tryz.func57 rfl (by decide) (k:=8) rfl (rs:=[.tmp 2]) rfl ?_
  simp -dsimp only[go_sem,bA,aA,reduceCtorEq]
  simp -dsimp only[go_sem,bA,aA,reduceCtorEq,e2,e4]
  refine OO.intro (gM (n:=0) (new:=[]) GB GB (by intro q h;cases h) gl B8 KN rfl rfl rfl rfl (by omega)) ?_
  simp -dsimp only[go_sem,bA,aA,reduceCtorEq,gA]
  exact HC (.pn [] 0) (by omega) (Fz.slice 0 (jA _) (by simp -dsimp only[go_sem];rfl) (jA _) rfl rfl) (hQ H 0 H.n .refl (jA _) fun h=>absurd rfl h)
 ·refine QA zm (fn:=Tryz.f57) Tryz.func57 rfl (by decide) (k:=8) rfl (rs:=[.tmp 2]) rfl ?_
  simp -dsimp only[go_sem,bA,aA,reduceCtorEq]
  simp -dsimp only[go_sem,bA,aA,reduceCtorEq,e1,e4]
  refine OO.intro (gM (n:=l.length) (new:=row ze l) GB GB (by intro q h;cases h) gl B8 KN rfl ?_ (mL UR _) (zr zi l) hl) ?_
  ·show(if _ then _ else _)=_
   rw[if_pos ⟨jA _,by rw[zr zi];exact jA _⟩,<-zr zi l,FB]
  by_cases h0:l.length=0
  ·have hl0:l=[]:=WA.1 h0
   subst hl0
   simp -dsimp only[go_sem,bA,aA,reduceCtorEq,gA,h0]
   exact HC (.pn [] 0) (by omega) (Fz.slice 0 (jA _) (by simp -dsimp only[go_sem];rfl) (jA _) rfl rfl) (hQ H 0 H.n .refl (jA _) fun h=>absurd rfl h)
  ·have hne:l≠[]:=fun h=>h0 (by rw[h];rfl)
   simp -dsimp only[go_sem,bA,aA,cA,reduceCtorEq,gA,h0]
   have:=hQ ((H.push (.cells [] 32)).push (.cells (row ze l) 32)) (H.n+1) H.n (Gw.push.trans .push) (jA _) fun _=>⟨by omega,by simp -dsimp only[go_sem,reduceCtorEq]⟩
   rw[XH,if_neg hne] at this
   exact nB this
theorem ZZ{l:List GRev}{i:Nat}{x:GRev}(hx:l[i]?=some x)(tl:List V):QE fA 32 (row ze l++tl) (i*17)=some (.agg (ze x)):=by
 have hi:=(rA.1 hx).1
 have hm:i*17+17<=l.length*17:=by omega
 rw[TM fA 32 Kg YN,if_pos (by rw[qA,zr zi];omega),List.drop_append_of_le_length (by rw[zr zi];omega),z7 zi hx]
 simp only[XA]
 rw[jB (by rw[zi];exact jA _),uA (by rw[zi];exact jA _)]
theorem zpt{l:List GRev}{i:Nat}{x:GRev}(hx:l[i]?=some x):QE fA 32 (row ze l) (i*17)=some (.agg (ze x)):=by
 have:=ZZ hx []
 rwa [MA] at this
abbrev jP(f:V)(k:Nat)(H:Heap)(l:List GRev)(p:GRev->Bool):Prop:=∀X,Kp k H X->∀x∈l,∀Q:OR->Prop,Q ⟨.lit (.bool (p x)),X,X.n⟩->MVal Cx f [.agg (ze x)] X Q
theorem o_84(l:List GRev)(f:V)(p:GRev->Bool)(hl:l.length<=9223372036854775807)(k:Nat)(H:Heap)(hk:H.get k=some (.cells (row ze l) 32))(hf:jP f k H l p)(Q:OR->Prop)(hQ:Q ⟨vA (CL p l),H,H.n⟩):
  MCall Cx 84 [.sl k 0 l.length l.length (some 17),f] H Q:=by
 refine QA zm (fn:=Tryz.f84) Tryz.func84 rfl (by decide) (k:=19) rfl (rs:=[.tmp 4]) rfl ?_
 simp -dsimp only[go_sem,bA,aA,cA,reduceCtorEq,gA]
 refine sC zm (fun i:Nat=>[(0,.sl k 0 l.length l.length (some 17)),(1,f),(7,vA l.length),(8,vA i)]) (fun i=>i<=l.length/\(l.take i).all (fun x=>!p x)=true) (fun i=>l.length-i) 0 ⟨by omega,rfl⟩ zSl ?_
 rintro i ⟨hi,hj⟩
 simp -dsimp only[go_sem,bA,aA,reduceCtorEq,zf,zh]
 refine BR.dec (fun h=>?_) (fun h=>?_)<;>simp -dsimp only[go_sem,bA,aA,reduceCtorEq,gA,h]
 ·obtain⟨x,hx⟩:=zu h
  simp -dsimp only[go_sem,bA,aA,reduceCtorEq,h,hk,zpt hx]
  refine⟨hf H .refl x (IA hx) _ ?_⟩
  simp -dsimp only[go_sem,aA,reduceCtorEq,h]
  refine BR.split (fun h2=>?_) (fun h2=>?_)<;>simp -dsimp only[go_sem,bA,aA,reduceCtorEq,gA,h,h2]
  ·refine nB ?_
   rw[ng hx h2 hj] at hQ
   exact hQ
  ·refine zAg (i+1) ?_
   exact⟨by omega,VM hx hj (by simp[h2])⟩
 ·refine nB ?_
  rw[Qf (pN (i:=i) (by omega) hj)] at hQ
  exact hQ
theorem zhY{b i n:Nat}(hi:i<n):lH fA 47 (.sl b 0 n n (some 17)) (some (vA i)) none none=some (.sl b (i*17) (n-i) (n-i) (some 17)):=by
 have h1:¬n<n:=VG _
 have h2:i<=n:=by omega
 have h3:¬n=i:=by omega
 simp[lH,GB,YN,SK,MM,pM,sM,iV,QS,h1,h2,h3]
theorem zhu{b i n:Nat}(hi:i<=n)(hn:0<n):lH fA 47 (.sl b 0 n n (some 17)) none (some (vA i)) none=some (.sl b 0 i n (some 17)):=by
 have h1:¬n<n:=VG _
 have h3:¬n=0:=by omega
 simp[lH,GB,YN,SK,MM,pM,sM,iV,QS,h1,hi,h3]
theorem zmE{H:Heap}{k off n:Nat}{cs:List V}{e:TypeId}(hk:H.get k=some (.cells cs e))(hn:0<n)(hl:off+n*17<=cs.length)(hb:QF cs=true):∃c,GX fA H 47 (.sl k off n n (some 17))=some ⟨EH,H.set k (.cells c e),min k H.n⟩/\c.take off=cs.take off/\QF c=true:=by
 have hz:(ze TB).length=17:=by decide
 obtain⟨m,rfl⟩:∃m,n=m+1:=⟨n-1,by omega⟩
 refine⟨cs.take off++bH (ze TB) (m+1)++cs.drop (off+(bH (ze TB) (m+1)).length),?_,?_,?_⟩
 ·have h1:(ze TB).all V.one=true:=by decide
  have h2:zD cs off (bH (ze TB) (m+1))=some (cs.take off++bH (ze TB) (m+1)++cs.drop (off+(bH (ze TB) (m+1)).length)):=by
   unfold zD;rw[if_pos (by rw[N2,hz];exact hl)]
  simp only[GX,GB,sk,pA,KA,hk,h1,if_true,h2]
 ·rw[XA,jB (by rw[JB];omega),List.take_take,gA]
 ·rw[nN,nN,znT _ _ hb,ik _ _ hb,zlQ (by decide)];rfl
theorem o_56(l:List GRev)(f:V)(p:GRev->Bool)(hl:l.length<=1048576)(k:Nat)(H:Heap)(hk:H.get k=some (.cells (row ze l) 32))(hf:jP f k H l p)(Q:OR->Prop)
  (hQ:∀X lo m tl,Kp k H X->min k H.n<=lo->m=(l.filter fun x=>!p x).length->QF tl=true->X.get k=some (.cells (row ze (l.filter fun x=>!p x)++tl) 32)->Q ⟨.sl k 0 m l.length (some 17),X,lo⟩):
  MCall Cx 56 [.sl k 0 l.length l.length (some 17),f] H Q:=by
 refine QA zm (fn:=Tryz.f56) Tryz.func56 rfl (by decide) (k:=42) rfl (rs:=[.tmp 4]) rfl ?_
 simp -dsimp only[go_sem,bA,aA,cA,reduceCtorEq]
 refine oB ?_
 simp -dsimp only[go_sem,bA,aA,cA,reduceCtorEq]
 refine o_84 l f p (by omega) k H hk hf _ ?_
 simp -dsimp only[go_sem,aA,cA,reduceCtorEq]
 rcases hz:l.findIdx? p with _|i0
 ·have hzi:CL p l=-1:=by simp[CL,hz]
  rw[hzi]
  simp -dsimp only[go_sem,bA,aA,cA,reduceCtorEq,gA]
  have hfil:(l.filter fun x=>!p x)=l:=by
   rw[jG]
   intro x hx
   rw[List.findIdx?_eq_none_iff] at hz
   simp[hz x hx]
  exact nB (hQ H H.n l.length [] .refl (by omega) (by rw[hfil]) rfl (by rw[hfil,MA];exact hk))
 ·have hzi:CL p l=(i0:Nat):=by simp[CL,hz]
  obtain⟨hi0,hp0,hj0⟩:=List.findIdx?_eq_some_iff_getElem.1 hz
  rw[hzi]
  have e1:((i0:Int)=-1)=False:=by simp
  have e2:IntKind.i64.wrap ((i0:Int)+1)=((i0+1:Nat):Int):=PR (by omega)
  simp -dsimp only[go_sem,bA,aA,cA,reduceCtorEq,gA,e1,e2]
  refine WW.loop zm (ι:=Nat×Nat×List GRev×Heap) (fun q=>[(0,.sl k 0 l.length l.length (some 17)),(1,f),(5,vA q.2.1),(6,vA q.1)]) (fun q=>q.2.2.2) (fun _=>min k H.n)
   (fun q=>q.1<=l.length/\q.2.1<q.1/\q.2.2.1.length=l.length/\q.2.2.1.take q.2.1=(l.take q.1).filter (fun x=>!p x)/\q.2.2.1.drop q.1=l.drop q.1/\Kp k H q.2.2.2/\q.2.2.2.get k=some (.cells (row ze q.2.2.1) 32)) (fun q=>l.length-q.1) (i0+1,i0,l,H) ?_ ?_ ?_
  ·refine⟨by omega,by simp,rfl,?_,rfl,.refl,hk⟩
   simp only
   have:l.take (i0+1)=l.take i0++[l[i0]]:=by rw[yB,sA hi0];rfl
   rw[this,KE]
   have h2:[l[i0]].filter (fun x=>!p x)=[]:=by simp[hp0]
   rw[h2,MA]
   symm
   rw[jG]
   intro x hx
   obtain⟨j,hj,rfl⟩:=List.mem_take_iff_getElem.1 hx
   have:=hj0 j (by omega)
   simpa using this
  ·refine(Sub.lower (lo2:=min k H.n) (by omega)).trans (Sub.keep _ zSl)
  rintro⟨j,i,l',X⟩ ⟨hj,hij,hl',hta,hdr,hX,hkX⟩
  simp only at hj hij hl' hta hdr hX hkX ⊢
  have hn:=hX.n
  have hkn:=zq hkX
  simp -dsimp only[go_sem,bA,aA,reduceCtorEq,zf,zh]
  refine BR.dec (fun h=>?_) (fun h=>?_)<;>simp -dsimp only[go_sem,bA,aA,reduceCtorEq,h]
  ·obtain⟨x,hx⟩:=zu h
   have hx':l'[j]?=some x:=by
    have:=congrArg (fun m:List GRev=>m[0]?) hdr
    simpa[hx] using this
   simp -dsimp only[go_sem,bA,aA,reduceCtorEq,h,hkX,zpt hx']
   generalize hX1:(X.push (.cells (ze TB) 32)).set X.n (.cells (ze x) 32)=X1
   have a1:X1.n=X.n+1:=by rw[<-hX1,kA,iA]
   have a2:X1.get X.n=some (.cells (ze x) 32):=by rw[<-hX1,dA,if_pos ⟨rfl,by rw[iA];omega⟩]
   have a3:∀j,j<X.n->X1.get j=X.get j:=fun j hj=>by rw[<-hX1,dA,if_neg (fun h=>absurd h.1 (by omega)),zj j hj]
   have hX1':Kp k H X1:=⟨by omega,fun j hj hjk=>by rw[a3 j (by omega),hX.old j hj hjk]⟩
   have hk1:X1.get k=some (.cells (row ze l') 32):=by rw[a3 k hkn,hkX]
   have htk:l.take (j+1)=l.take j++[x]:=by rw[yB,hx];rfl
   have hdr1:∀m:List GRev,m.drop j=l.drop j->m.drop (j+1)=l.drop (j+1):=fun m hm=>by rw[<-JE,hm,JE]
   refine⟨hf X1 hX1' x (IA hx) _ ?_⟩
   simp -dsimp only[go_sem,bA,aA,reduceCtorEq]
   refine BR.nspl (fun h2=>?_) (fun h2=>?_)<;>simp -dsimp only[go_sem,bA,aA,reduceCtorEq,h2]
   ·have hil:i<l'.length:=by omega
    have hil2:i<l.length:=by omega
    have eY:IntKind.i64.wrap ((i:Int)+1)=((i+1:Nat):Int):=PR (by omega)
    simp -dsimp only[go_sem,bA,aA,reduceCtorEq,a2,hil2,hk1,W6 zi x hil,eY]
    generalize hY:X1.set k (.cells (row ze (l'.set i x)) 32)=Y
    have y1:Y.n=X1.n:=by rw[<-hY,kA]
    refine zAg (j+1,i+1,l'.set i x,Y) ?_
    dsimp only
    refine⟨h,by omega,by simpa using hl',?_,?_,⟨by omega,fun j hj hjk=>by rw[<-hY,dA,if_neg (fun h=>hjk h.1),hX1'.old j hj hjk]⟩,by rw[<-hY,dA,if_pos ⟨rfl,zq hk1⟩]⟩
    ·have h3:[x].filter (fun x=>!p x)=[x]:=by simp[h2]
     rw[htk,KE,h3,<-hta,yB,List.getElem?_set_self hil,List.take_set_of_le (jA i)]
     rfl
    ·rw[List.drop_set_of_lt (by omega)]
     exact hdr1 l' hdr
   ·refine zAg (j+1,i,l',X1) ?_
    dsimp only
    have h3:[x].filter (fun x=>!p x)=[]:=by simp[h2]
    exact⟨h,by omega,hl',by rw[htk,KE,h3,MA,hta],hdr1 l' hdr,hX1',hk1⟩
  ·have hjl:j=l.length:=by omega
   have hta':l'.take i=l.filter fun x=>!p x:=by rw[hta,hjl,FB]
   have hil:i<l.length:=by omega
   have hm:i=(l.filter fun x=>!p x).length:=by rw[<-hta',JB];omega
   obtain⟨c,hc1,hc2,hc3⟩:=zmE (off:=i*17) (n:=l.length-i) hkX (by omega) (by rw[zr zi,hl',<-Nat.add_mul];exact Nat.le_of_eq (by rw[show i+(l.length-i)=l.length by omega])) (UH zz _)
   simp -dsimp only[go_sem,aA,reduceCtorEq,zhY hil]
   refine OO.intro hc1 ?_
   simp -dsimp only[go_sem,bA,aA,reduceCtorEq,zhu (Nat.le_of_lt hil) (by omega:0<l.length)]
   refine nB ?_
   have hcc:row ze (l.filter fun x=>!p x)++c.drop (i*17)=c:=by
    rw[<-hta',<-qO zi l' i,<-hc2,eC]
   refine hQ _ _ i (c.drop (i*17)) ⟨by rw[kA];omega,fun j hj hjk=>by rw[dA,if_neg (fun h=>hjk h.1),hX.old j hj hjk]⟩ (by omega) hm (ik _ _ hc3) (by rw[dA,if_pos ⟨rfl,hkn⟩,hcc])
@[go_sem] theorem F7:zE fA 4=some [.lit (.bool false)]:=by kernel_rfl
theorem AY(f:V)(H:Heap)(Q:OR->Prop)(hQ:Q ⟨.pn [] 0,H,H.n⟩):MCall Cx 56 [.pn [] 0,f] H Q:=by
 have hi:∀Q:OR->Prop,Q ⟨vA (-1),H,H.n⟩->MCall Cx 84 [.pn [] 0,f] H Q:=fun Q hQ=>by
  refine QA zm (fn:=Tryz.f84) Tryz.func84 rfl (by decide) (k:=19) rfl (rs:=[.tmp 4]) rfl ?_
  simp -dsimp only[go_sem,bA,aA,cA,reduceCtorEq,gA]
  refine sC zm (fun _:Unit=>[(0,.pn [] 0),(1,f),(7,vA 0),(8,vA 0)]) (fun _=>True) (fun _=>0) () trivial zSl ?_
  rintro⟨⟩ _
  have e0:((0:Int)<0)=False:=by simp
  simp -dsimp only[go_sem,bA,aA,reduceCtorEq,gA,zf,zh,e0]
  exact nB hQ
 refine QA zm (fn:=Tryz.f56) Tryz.func56 rfl (by decide) (k:=42) rfl (rs:=[.tmp 4]) rfl ?_
 simp -dsimp only[go_sem,bA,aA,cA,reduceCtorEq]
 refine oB ?_
 simp -dsimp only[go_sem,bA,aA,cA,reduceCtorEq]
 refine hi _ ?_
 simp -dsimp only[go_sem,bA,aA,cA,reduceCtorEq,gA]
 exact nB hQ
theorem m_58(l:List GNode)(hl:l.length<4611686018427387904)(m:Bool)(r:GRev)(H:Heap)(Q:OR->Prop)(hQ:Q ⟨.lit (.bool (m&&aH l r)),H,H.n⟩):MCall Cx 58 [.agg (ze r),.pp [.lit (.bool m)],.pp [AH l]] H Q:=by
 refine QA zm (fn:=Tryz.f58) Tryz.func58 rfl (by decide) (k:=11) rfl (rs:=[.tmp 4]) rfl ?_
 simp -dsimp only[go_sem,bA,aA,cA,reduceCtorEq]
 cases m
 ·simp -dsimp only[go_sem,bA,aA,cA,reduceCtorEq,gA]
  exact AA (by omega) rfl hQ
 ·simp -dsimp only[go_sem,bA,aA,cA,reduceCtorEq]
  refine MV.tab _ ((CA (KQ) xA)) ?_
  simp -dsimp only[go_sem,bA,aA,cA,reduceCtorEq,gA,il _ _ hl]
  rw[MC] at hQ
  exact AA (by omega) rfl hQ
noncomputable def AV(l:List GNode)(rs:List GRev):List GRev:=rs.filter fun r=>!(SJ l&&aH l r)
theorem m_18(t:GTree)(hT:iP t.nodes)(rs:List GRev)(hr:rs.length<=1048576)(H:Heap)(Q:OR->Prop)(hQ:Q ⟨NB ze (AV t.nodes rs),H,H.n⟩):MCall Cx 18 [.agg (zp t),NB ze rs] H Q:=by
 have hl:=hT.len
 refine mB (fn:=Tryz.f18) Tryz.func18 rfl (by decide) (k:=16) rfl (rs:=[.tmp 4]) rfl ?_
 refine PA zm ?_
 simp -dsimp only[go_sem,bA,cA,reduceCtorEq,gA]
 refine PA zm ?_
 simp -dsimp only[go_sem,bA,aA,cA,reduceCtorEq]
 refine PA zm ?_
 simp -dsimp only[go_sem,bA,aA,cA,reduceCtorEq]
 refine oB ?_
 simp -dsimp only[go_sem,bA,aA,reduceCtorEq]
 refine W2 t (by omega) hT.ok _ _ ?_
 simp -dsimp only[go_sem,cA]
 generalize hX:(((((H.push (.cells (zp t) 24)).push (.cells (zp t) 55)).push (.cells [.lit (.pointer none)] 53)).set (H.n+2) (.cells [.ptr (H.n+1) 0] 53)).push (.cells [.lit (.bool false)] 4)).set (H.n+3) (.cells [.lit (.bool (SJ t.nodes))] 4)=X
 have x1:X.get (H.n+1)=some (.cells (zp t) 55):=by rw[<-hX];simp -dsimp only[go_sem,bA,aA,cA,reduceCtorEq]
 have x2:X.get (H.n+2)=some (.cells [.ptr (H.n+1) 0] 53):=by rw[<-hX];simp -dsimp only[go_sem,bA,aA,cA,reduceCtorEq]
 have x3:X.get (H.n+3)=some (.cells [.lit (.bool (SJ t.nodes))] 4):=by rw[<-hX];simp -dsimp only[go_sem,bA,aA,cA,reduceCtorEq]
 clear hX
 refine WW.plain [(1,NB ze rs),(5,.pp [AH t.nodes]),(6,.pp [.lit (.bool (SJ t.nodes))])] (by omega) (fun b e=>by cases e) ?_ ?_
 ·intro p hp
  simp only[IB,JA,or_false] at hp
  rcases hp with rfl|rfl|rfl
  ·simp -dsimp only[go_sem,aA,reduceCtorEq]
   exact .self _ (UH zz _)
  ·simp -dsimp only[go_sem,aA,reduceCtorEq]
   exact .ptr (H.n+2) 0 _ 53 1 _ (by omega) x2 (.one (.ptr (H.n+1) 0 (zp t) 55 1 _ (by omega) x1 (Fzs.self (CM t))))
  ·simp -dsimp only[go_sem,aA,reduceCtorEq]
   exact .ptr (H.n+3) 0 _ 4 1 _ (by omega) x3 (.one (.self _ rfl))
 refine LB zm ?_
 simp -dsimp only[go_sem,bA,aA,zf,zh]
 refine oB ?_
 simp -dsimp only[go_sem,bA,aA]
 refine m_57 rs hr H _ fun Y k lo hY hlo hk=>?_
 have yn:=hY.n
 by_cases hne:rs=[]
 ·subst hne
  rw[XH,if_pos rfl]
  simp -dsimp only[go_sem]
  refine oB ?_
  simp -dsimp only[go_sem,bA,aA,gA]
  refine AY _ _ _ ?_
  simp -dsimp only[go_sem]
  exact HC (.pn [] 0) (by omega) (.self _ rfl) hQ
 ·obtain⟨h1,h2⟩:=hk hne
  rw[XH,if_neg hne]
  simp -dsimp only[go_sem]
  refine oB ?_
  simp -dsimp only[go_sem,bA,aA,gA]
  refine o_56 rs _ (fun r=>SJ t.nodes&&aH t.nodes r) hr k Y h2 (fun X hX x hx Q hQ=>MVal.fn (m_58 t.nodes (by omega) (SJ t.nodes) x X Q hQ)) _ ?_
  intro X lo2 m tl hX hlo2 hm htl hXk
  have xn:=hX.n
  replace hXk:X.get k=some (.cells (row ze (AV t.nodes rs)++tl) 32):=hXk
  simp -dsimp only[go_sem]
  refine HC _ (by omega) ?_ hQ
  show Fz _ X (.sl k 0 m rs.length (some 17)) (.pn (row ze (AV t.nodes rs)) (AV t.nodes rs).length)
  have hm:m=(AV t.nodes rs).length:=hm
  subst hm
  refine Fz.sl k 0 _ _ _ _ _ ((AV t.nodes rs).length*17) _ h1 hXk (List.length_filter_le _ _) ?_
  rw[UA,mC (zr zi _)]
  exact Fzs.self (UH zz _)
end
section
open Go Go.Tw
open Classical
def TI:GRev:=⟨1,⟨#[228,146,164,192,5,30,73,157,75,251,63,149,79,124,117,77],rfl⟩⟩
def gL:GRev:=⟨2,⟨#[13,249,229,198,229,91,201,222,251,219,213,68,135,149,49,16],rfl⟩⟩
def dN:GRev:=⟨2,⟨#[94,192,196,74,206,158,175,120,50,169,226,156,107,10,19,180],rfl⟩⟩
def EN:GV:=.mk 2 0 .empty [] []
def bM:GNode:=⟨TI,.zero,0,1,.zero⟩
def RJ:GNode:=⟨TI,.zero,0,0,.zero⟩
def awN2:GNode:=⟨gL,TI,0,1,EN⟩
def iL:GNode:=⟨dN,TI,1,1,.zero⟩
theorem zqu:xM .zero 0 .zero=(TI,0):=by decide+kernel
theorem uP:xM TI 0 EN=(gL,0):=by decide+kernel
theorem vP:xM TI 1 .zero=(dN,0):=by decide+kernel
def uU:List GNode->Bool
 | x::y::l=>decide (RI x.rev y.rev<0)&&uU (y::l)
 | _=>true
theorem zpB:∀{l:List GNode},uU l=true->KM l
 | [],_=>fun j x y hx _=>by simp at hx
 | [a],_=>fun j x y _ hy=>by simp at hy
 | a::b::l,h=>fun j x y hx hy=>by
  rw[uU,wA,decide_eq_true_eq] at h
  cases j with
  | zero=>
   simp only[YA,List.getElem?_cons_succ,Nat.zero_add,lA] at hx hy
   rw[<-hx,<-hy];exact h.1
  | succ j=>exact zpB h.2 j x y hx hy
def ON:List GRev->Bool
 | x::y::l=>BK x&&decide (x.gen=y.gen+1)&&ON (y::l)
 | [x]=>BK x
 | []=>true
theorem zmn:∀{l:List GRev},ON l=true->∀i,i<l.length->v8 l i
 | [],_,i,hi=>by cases hi
 | [a],h,i,hi=>by
  simp only[HA,SA] at hi
  obtain rfl:i=0:=by omega
  exact⟨a,rfl,h,fun p hp=>absurd hp (by omega)⟩
 | a::b::l,h,i,hi=>by
  rw[ON,wA,wA,decide_eq_true_eq] at h
  match i with
  | 0=>exact⟨a,rfl,h.1.1,fun p hp=>absurd hp (by omega)⟩
  | 1=>
   obtain⟨r,h1,h2,_⟩:=zmn h.2 0 (by simp)
   refine⟨r,h1,h2,fun p _ hp=>?_⟩
   simp only[YA,Nat.sub_self,lA] at h1 hp
   rw[<-hp,<-h1];exact h.1.2
  | i+2=>
   obtain⟨r,h1,h2,h3⟩:=zmn h.2 (i+1) (by simpa using hi)
   exact⟨r,h1,h2,fun p _ hp=>h3 p (by omega) hp⟩
theorem zkq{l:List GRev}(h:ON l=true)(h1:1<=l.length)(h2:l.length<=16):XL l=true:=by
 unfold XL
 rw[decide_eq_true (zmn h),decide_eq_true h1,decide_eq_true h2];rfl
noncomputable def gQ(l:List GNode)(n:GNode)(leaf:Bool):Bool:=
 AN l n&&(if leaf then decide (n.has=1)&&decide ((xM n.parent n.deleted n.body).2=0)&&decide ((xM n.parent n.deleted n.body).1=n.rev) else decide (n.has=0))
theorem RT{l:List GNode}{n:GNode}{leaf:Bool}(h:gQ l n leaf=true)(hb:n.has=0->n.body=.zero):BN xM l n leaf=true:=by
 unfold gQ at h
 unfold BN
 cases leaf
 ·simp only[wA,Bool.false_eq_true,if_false,decide_eq_true_eq] at h ⊢
  exact⟨h.1,h.2,hb h.2⟩
 ·exact h
theorem Zk{l:List GNode}(h1:(decide (l.length<=32)&&decide ((zS l).length<=8))=true)(h2:uU l=true)(h3:(l.all fun n=>!decide (BH (GH ((yJ l (zS l)).map (·.rev))).1 n.rev=0)&&gQ l n (decide (BH (GH (l.map (·.parent))).1 n.rev=0)))=true)
  (hb:∀n∈l,n.has=0->n.body=.zero):SJ l=true:=by
 unfold SJ mS
 rw[h1,decide_eq_true (zpB h2)]
 simp only[MC,oC,vE,Bool.or_eq_true,oC,not_or,Bool.not_eq_false]
 intro n hn
 have:=List.all_eq_true.1 h3 n hn
 simp only[wA,oC] at this
 exact⟨by simpa using this.1,RT this.2 (hb n hn)⟩
theorem zqw:SJ []=true:=Zk (by decide+kernel) (by decide+kernel) (by decide+kernel) (by simp)
theorem zmO:SJ [bM]=true:=Zk (by decide+kernel) (by decide+kernel) (by decide+kernel) (by simp[bM])
theorem jT:SJ [RJ,awN2]=true:=Zk (by decide+kernel) (by decide+kernel) (by decide+kernel) (by simp[RJ,awN2])
theorem zmN:SJ [RJ,awN2,iL]=true:=Zk (by decide+kernel) (by decide+kernel) (by decide+kernel) (by simp[RJ,awN2,iL])
theorem ZX:XL [TI]=true:=zkq (by decide+kernel) (by decide) (by decide)
theorem aY:XL [gL,TI]=true:=zkq (by decide+kernel) (by decide) (by decide)
theorem bY:XL [dN,TI]=true:=zkq (by decide+kernel) (by decide) (by decide)
theorem zpZ{l m:List GNode}{path:List GRev}{d:Int}{body:GV}{c:Nat}(h1:SJ l=true)(h2:XL path=true)(h3:(!(decide (path.length=1)&&decide (1<(path.getD 0 .zero).gen)))=true)(h4:xM (eO path 0) d body=(path.getD 0 .zero,0))
  {s:List GNode} (h5:MO path d body l path.length=some s) (h6:jM s=m) (h7:decide (32<m.length)=false) (h8:decide (8<(zS m).length)=false) (h9:tV l m=c):tM l path d body=(m,c,0):=by
 have e:jS l path d body=true:=by unfold jS;rw[h1,h2,h3,h4];simp
 unfold tM
 rw[if_pos e,h5]
 subst h6
 simp only
 rw[if_neg (by rw[decide_eq_false_iff_not] at h7 h8;omega),h9]
theorem fT:tM [] [TI] 0 .zero=([bM],1,0):=zpZ zqw ZX (by decide+kernel) zqu (s:=[bM]) (by kernel_rfl) (by kernel_rfl) (by decide+kernel) (by decide+kernel) (by decide+kernel)
theorem gT:tM [bM] [gL,TI] 0 EN=([RJ,awN2],1,0):=zpZ zmO aY (by decide+kernel) uP (s:=[bM,awN2]) (by kernel_rfl) (by kernel_rfl) (by decide+kernel) (by decide+kernel) (by decide+kernel)
theorem iT:tM [RJ,awN2] [dN,TI] 1 .zero=([RJ,awN2,iL],1,0):=zpZ jT bY (by decide+kernel) vP (s:=[RJ,awN2,iL]) (by kernel_rfl) (by kernel_rfl) (by decide+kernel) (by decide+kernel) (by decide+kernel)
theorem zoO:bO [bM]=[bM]:=by rw[bO,zmO,if_pos rfl];kernel_rfl
theorem zjJ:bO [RJ,awN2,iL]=[awN2,iL]:=by rw[bO,zmN,if_pos rfl];kernel_rfl
theorem dY:IR [RJ,awN2,iL]=awN2:=by rw[IR,zjJ];rfl
theorem wP:AL [RJ,awN2,iL] gL=[gL,TI]:=by decide+kernel
theorem kT:AV [RJ,awN2,iL] [gL,dN,TI]=[]:=by rw[AV,zmN];decide+kernel
theorem V3:HO .zero:=⟨by simp[GV.zero,GV.wf,GV.wfs],by simp[GV.zero,GN,G8],fun _=>by simp[GV.zero,ED]⟩
theorem Uk:HO EN:=⟨by simp[EN,GV.wf,GV.wfs],by simp[EN,GN,G8],fun _=>by simp[EN,ED]⟩
theorem zqs:CK .zero:=by simp[GV.zero,CK,b8]
theorem AP:CK EN:=by simp[EN,CK,b8]
theorem zqv:ZL .zero=true:=by decide+kernel
end
section
open Go Go.Tw
open Classical
theorem ziH:fL fA 36 [(0,vA 2)]=some (.agg [vA 2,vA 0,gE .empty,.lit (.slice none 0 0),.lit (.slice none 0 0)]):=by kernel_rfl
theorem dQ(Z:Nat->Prop)(H:Heap):Fz Z H (.agg [vA 2,vA 0,gE .empty,.lit (.slice none 0 0),.lit (.slice none 0 0)]) (.agg (zR EN)):=by
 rw[WJ]
 exact .agg _ _ (.cons _ _ _ _ (.self _ rfl) (.cons _ _ _ _ (.self _ rfl) (.cons _ _ _ _ (.self _ rfl) (.cons _ _ _ _ .nil (.cons _ _ _ _ .nil .nil)))))
theorem xP(l:List GNode)(h:l.length<=1048575)(hb:∀n∈l,n.body=.zero\/n.body=EN):iP l:=
 ⟨h,⟨by omega,fun n hn=>by rcases hb n hn with e|e<;>rw[e];exact V3.1;exact Uk.1⟩,fun n hn=>by rcases hb n hn with e|e<;>rw[e];exact V3;exact Uk,fun n hn=>by rcases hb n hn with e|e<;>rw[e];exact zqs;exact AP⟩
theorem yP:iP [bM]:=xP _ (by decide) (by simp[bM])
theorem cY:iP [RJ,awN2]:=xP _ (by decide) (by simp[RJ,awN2])
theorem zqt:iP [RJ,awN2,iL]:=xP _ (by decide) (by simp[RJ,awN2,iL])
theorem zmi(p:GRev)(d:Int)(v:GV)(u:V)(r:GRev)(hv:HO v)(hu:∀X,Fz (fun _=>False) X u (.agg (zR v)))(hr:xM p d v=(r,0))(H:Heap)(Q:OR->Prop)(hQ:Q ⟨.tup [.agg (ze r),vA 0],H,H.n⟩):MCall Cx 13 [.agg (ze p),vA d,u] H Q:=by
 refine MCall.cv (.cons _ _ _ _ (.self _ (zz p)) (.cons _ _ _ _ (.self _ rfl) (.one (hu H)))) ?_
 refine Ak kO p d v _ _ hv ?_
 rw[hr]
 exact hQ
theorem znS(X:Heap)(a b:GRev):zx fA X 47 2 [(0,.agg (ze a)),(1,.agg (ze b))]=some ⟨.sl X.n 0 2 2 none,X.push (.cells (row ze [a,b]) 32),X.n⟩:=by
 rw[zqo,iJ,iJ,show row ze []=[] from rfl,MA]
theorem FP(X:Heap)(a b c:GRev):zx fA X 47 3 [(0,.agg (ze a)),(1,.agg (ze b)),(2,.agg (ze c))]=some ⟨.sl X.n 0 3 3 none,X.push (.cells (row ze [a,b,c]) 32),X.n⟩:=by
 have la:=zi a
 have lb:=zi b
 have lc:=zi c
 have lz:=zi .zero
 have h1:zD (ze .zero++(ze .zero++ze .zero)) 0 (ze a)=some (ze a++(ze .zero++ze .zero)):=by
  have:=eN [] (ze .zero) (ze .zero++ze .zero) (ze a) (o:=0) rfl (by rw[la,lz])
  simpa using this
 have h2:zD (ze a++(ze .zero++ze .zero)) 17 (ze b)=some (ze a++(ze b++ze .zero)):=by
  have:=eN (ze a) (ze .zero) (ze .zero) (ze b) (o:=17) la (by rw[lb,lz])
  simpa using this
 have h3:zD (ze a++(ze b++ze .zero)) 34 (ze c)=some (ze a++(ze b++ze c)):=by
  have:=eN (ze a++ze b) (ze .zero) [] (ze c) (o:=34) (by rw[qA,la,lb]) (by rw[lc,lz])
  simpa using this
 rw[iJ,iJ,iJ,show row ze []=[] from rfl,MA]
 simp only[zx,GB,YN,sk,pA,KA,bH,MA,ZM,tf,la,lb,lc,lz,JG,dF,Nat.reduceMul,h1,h2,h3,if_true]
 rw[if_pos ⟨by omega,trivial⟩]
theorem zms{Z:Nat->Prop}{X:Heap}{b n:Nat}(l:List GRev)(hn:l.length=n)(hz:Z b)(hg:X.get b=some (.cells (row ze l) 32)):Fz Z X (.sl b 0 n n none) (NB ze l):=by
 subst hn
 refine Fz.slice (l.length*17) hz hg (jA _) ?_ (UH zz l)
 rw[UA]
 exact uA (by rw[zr zi];omega)
theorem zmr{H:Heap}{b:Nat}(hb:b<H.n):b≠H.n/\∀k,b≠H.n+k:=⟨by omega,fun k=>by omega⟩
theorem BP:zqM:=by
 intro H Q hQ
 refine mB (fn:=Tryz.f5) Tryz.func5 rfl (by decide) (k:=143) rfl (rs:=[.tmp 0]) rfl ?_
 refine PA zm ?_
 simp -dsimp only[go_sem,bA,gA]
 refine PA zm ?_
 simp -dsimp only[go_sem,bA,aA,reduceCtorEq]
 refine oB ?_
 simp -dsimp only[go_sem,bA,aA,reduceCtorEq]
 refine zmi .zero 0 .zero _ TI V3 (fun X=>G3 _ X) zqu _ _ ?_
 simp -dsimp only[go_sem,bA,aA,reduceCtorEq,gA]
 refine PA zm ?_
 simp -dsimp only[go_sem,bA,aA,reduceCtorEq,ziH]
 refine oB ?_
 simp -dsimp only[go_sem,bA,aA,reduceCtorEq]
 refine zmi TI 0 EN _ gL Uk (fun X=>dQ _ X) uP _ _ ?_
 simp -dsimp only[go_sem,bA,aA,cA,reduceCtorEq]
 refine PA zm ?_
 simp -dsimp only[go_sem,bA,aA,cA,reduceCtorEq]
 refine oB ?_
 simp -dsimp only[go_sem,bA,aA,reduceCtorEq]
 refine zmi TI 1 .zero _ dN V3 (fun X=>G3 _ X) vP _ _ ?_
 simp -dsimp only[go_sem,bA,aA,cA,reduceCtorEq]
 refine PA zm ?_
 simp -dsimp only[go_sem,bA,aA,reduceCtorEq]
 refine oB ?_
 simp -dsimp only[go_sem,bA,aA,reduceCtorEq]
 refine MCall.cv (.cons _ _ _ _ (.agg _ _ (.one .nil)) (.cons _ _ _ _ (.self _ (zz .zero)) (.cons _ _ _ _ (.self _ rfl) (.one (G3 _ _))))) ?_
 refine zoD V3 zqs zqv TI zqu zqw [bM] 1 fT _ _ ?_
 have wht:∀a:V,QE fA 24 [a] 0=some (.agg [a]):=fun _=>rO vV kV rfl
 have spz:∀m,zD oJ 0 (zp ⟨m⟩)=some (zp ⟨m⟩):=fun m=>rfl
 simp -dsimp only[go_sem,bA,aA,cA,reduceCtorEq,spz]
 refine PA zm ?_
 simp -dsimp only[go_sem,bA,aA,cA,reduceCtorEq]
 refine oB ?_
 simp -dsimp only[go_sem,bA,aA,reduceCtorEq]
 refine MCall.cv (.cons _ _ _ _ (.self _ (CM ⟨[bM]⟩)) (.cons _ _ _ _ (.self _ (zz .zero)) (.cons _ _ _ _ (.self _ rfl) (.one (G3 _ _))))) ?_
 refine zoC ⟨[bM]⟩ yP zmO V3 zqv bM [] zoO rfl _ _ ?_
 simp -dsimp only[go_sem,bA,aA,cA,reduceCtorEq,spz]
 refine yC ?_
 refine WW.cutr 5 _ _ (by conv=>lhs;simp only[NA,iB]) (by conv=>lhs;simp only[JD,UA]) ?_
 simp -dsimp only[go_sem,bA,aA,cA,reduceCtorEq,znS,ziH]
 refine CutO.frz [.cells (ze TI) 32,.cells (ze gL) 32,.cells (ze dN) 32,.cells (zp ⟨[bM]⟩) 24,.cells (ze TI) 32]
  [(1,.ptr H.n 0),(3,.ptr (H.n+1) 0),(5,.ptr (H.n+2) 0),(8,.ptr (H.n+4) 0),(9,vA 0),(12,vA 7),(58,.agg (zp ⟨[bM]⟩)),(61,NB ze [gL,TI]),(62,.agg (zR EN))] ?_ ?_ ?_ (fun b e=>by cases e) ?_ ?_ ?_
 ·simp only[HA,SA,iA,kA];omega
 ·intro b hb
  obtain⟨n0,n1⟩:=zmr hb
  simp[yA,dA,iA,kA,WD,n0,n1]
 ·omega
 ·intro i B hB
  match i,hB with
  | 0,hB=>injection hB with hB;subst hB;exact⟨_,by simp -dsimp only[go_sem,bA,cA,reduceCtorEq],UD (zz _)⟩
  | 1,hB=>injection hB with hB;subst hB;exact⟨_,by simp -dsimp only[go_sem,bA,aA,cA,reduceCtorEq],UD (zz _)⟩
  | 2,hB=>injection hB with hB;subst hB;exact⟨_,by simp -dsimp only[go_sem,bA,aA,cA,reduceCtorEq],UD (zz _)⟩
  | 3,hB=>injection hB with hB;subst hB;exact⟨_,by simp -dsimp only[go_sem,bA,aA,cA,reduceCtorEq],UD (CM _)⟩
  | 4,hB=>injection hB with hB;subst hB;exact⟨_,by simp -dsimp only[go_sem,bA,aA,cA,reduceCtorEq],UD (zz _)⟩
 ·intro p hp
  simp only[IB,JA,or_false,HA,SA] at hp ⊢
  rcases hp with rfl|rfl|rfl|rfl|rfl|rfl|rfl|rfl|rfl
  ·exact SC (by simp -dsimp only[go_sem,aA,reduceCtorEq]) (by simp[V.ok])
  ·exact SC (by simp -dsimp only[go_sem,aA,reduceCtorEq]) (by simp[V.ok])
  ·exact SC (by simp -dsimp only[go_sem,aA,reduceCtorEq]) (by simp[V.ok])
  ·exact SC (by simp -dsimp only[go_sem,aA,reduceCtorEq]) (by simp[V.ok])
  ·exact SC (by simp -dsimp only[go_sem,aA,reduceCtorEq]) rfl
  ·exact SC (by simp -dsimp only[go_sem,aA,reduceCtorEq]) rfl
  ·exact SC (by simp -dsimp only[go_sem,aA,reduceCtorEq]) (H4 _ _ (CM _))
  ·refine RN.fz ?_
   simp -dsimp only[go_sem,aA,cA,reduceCtorEq]
   exact zms [gL,TI] rfl (by omega) (by simp -dsimp only[go_sem,bA,aA,cA,reduceCtorEq])
  ·refine RN.fz ?_
   simp -dsimp only[go_sem,aA,cA,reduceCtorEq]
   exact dQ _ _
 simp -dsimp only[go_sem,bA,aA,wC]
 refine oB ?_
 simp -dsimp only[go_sem,bA,aA]
 refine sZ ⟨[bM]⟩ yP [gL,TI] (by simp) 0 EN Uk AP _ _ ?_
 rw[show tM (⟨[bM]⟩:GTree).nodes [gL,TI] 0 EN=([RJ,awN2],1,0) from gT]
 simp -dsimp only[go_sem,bA,aA,cA,reduceCtorEq,spz]
 refine yC ?_
 refine WW.cutr 5 _ _ (by conv=>lhs;simp only[NA,iB]) (by conv=>lhs;simp only[JD,UA]) ?_
 simp -dsimp only[go_sem,bA,aA,cA,reduceCtorEq,znS]
 refine CutO.frz [.cells (ze TI) 32,.cells (ze gL) 32,.cells (ze dN) 32,.cells (zp ⟨[bM]⟩) 24,.cells (ze TI) 32]
  [(1,.ptr H.n 0),(3,.ptr (H.n+1) 0),(5,.ptr (H.n+2) 0),(8,.ptr (H.n+4) 0),(9,vA 0),(12,vA 7),(14,vA ((1:Nat):Int)),(15,vA 0),(68,.agg (zp ⟨[RJ,awN2]⟩)),(71,NB ze [dN,TI]),(72,.agg (zR .zero))] ?_ ?_ ?_ (fun b e=>by cases e) ?_ ?_ ?_
 ·simp only[HA,SA,iA,kA];omega
 ·intro b hb
  obtain⟨n0,n1⟩:=zmr hb
  simp[yA,dA,iA,kA,WD,n0,n1]
 ·omega
 ·intro i B hB
  match i,hB with
  | 0,hB=>injection hB with hB;subst hB;exact⟨_,by simp -dsimp only[go_sem,bA,cA,reduceCtorEq],UD (zz _)⟩
  | 1,hB=>injection hB with hB;subst hB;exact⟨_,by simp -dsimp only[go_sem,bA,aA,cA,reduceCtorEq],UD (zz _)⟩
  | 2,hB=>injection hB with hB;subst hB;exact⟨_,by simp -dsimp only[go_sem,bA,aA,cA,reduceCtorEq],UD (zz _)⟩
  | 3,hB=>injection hB with hB;subst hB;exact⟨_,by simp -dsimp only[go_sem,bA,aA,cA,reduceCtorEq],UD (CM _)⟩
  | 4,hB=>injection hB with hB;subst hB;exact⟨_,by simp -dsimp only[go_sem,bA,aA,cA,reduceCtorEq],UD (zz _)⟩
 ·intro p hp
  simp only[IB,JA,or_false,HA,SA] at hp ⊢
  rcases hp with rfl|rfl|rfl|rfl|rfl|rfl|rfl|rfl|rfl|rfl|rfl
  ·exact SC (by simp -dsimp only[go_sem,aA]) (by simp[V.ok])
  ·exact SC (by simp -dsimp only[go_sem,aA]) (by simp[V.ok])
  ·exact SC (by simp -dsimp only[go_sem,aA]) (by simp[V.ok])
  ·exact SC (by simp -dsimp only[go_sem,aA]) (by simp[V.ok])
  ·exact SC (by simp -dsimp only[go_sem,aA]) rfl
  ·exact SC (by simp -dsimp only[go_sem,aA]) rfl
  ·exact SC (by simp -dsimp only[go_sem,aA]) rfl
  ·exact SC (by simp -dsimp only[go_sem,aA]) rfl
  ·exact SC (by simp -dsimp only[go_sem,aA]) (H4 _ _ (CM _))
  ·refine RN.fz ?_
   simp -dsimp only[go_sem,aA,cA]
   exact zms [dN,TI] rfl (by omega) (by simp -dsimp only[go_sem,bA,aA,cA,reduceCtorEq])
  ·refine RN.fz ?_
   simp -dsimp only[go_sem,aA,cA]
   exact G3 _ _
 simp -dsimp only[go_sem,bA,aA,wC]
 refine oB ?_
 simp -dsimp only[go_sem,bA,aA]
 refine sZ ⟨[RJ,awN2]⟩ cY [dN,TI] (by simp) 1 .zero V3 zqs _ _ ?_
 rw[show tM (⟨[RJ,awN2]⟩:GTree).nodes [dN,TI] 1 .zero=([RJ,awN2,iL],1,0) from iT]
 simp -dsimp only[go_sem,bA,aA,cA,reduceCtorEq,spz]
 refine PA zm ?_
 simp -dsimp only[go_sem,bA,aA,cA,reduceCtorEq]
 refine oB ?_
 simp -dsimp only[go_sem,bA,aA]
 refine m_16 ⟨[RJ,awN2,iL]⟩ zqt _ _ ?_
 rw[show IR (⟨[RJ,awN2,iL]⟩:GTree).nodes=awN2 from dY,show bO (⟨[RJ,awN2,iL]⟩:GTree).nodes=[awN2,iL] from zjJ]
 simp -dsimp only[go_sem,bA,aA,cA,reduceCtorEq]
 refine PA zm ?_
 simp -dsimp only[go_sem,bA,aA,cA,reduceCtorEq]
 refine oB ?_
 simp -dsimp only[go_sem,bA,aA]
 refine m_17 ⟨[RJ,awN2,iL]⟩ zqt gL _ _ ?_
 rw[show SJ (⟨[RJ,awN2,iL]⟩:GTree).nodes=true from zmN,show AL (⟨[RJ,awN2,iL]⟩:GTree).nodes gL=[gL,TI] from wP,if_pos rfl,if_pos rfl,if_neg (by decide)]
 simp -dsimp only[go_sem,bA,aA,cA]
 refine yC ?_
 refine WW.cutr 51 _ _ (by conv=>lhs;simp only[NA,iB]) (by conv=>lhs;simp only[JD,UA]) ?_
 have w2:awN2.rev=gL:=rfl
 have b1:(((1:Nat):Int)=1)=True:=by simp
 have b2:((([gL,TI]:List GRev).length:Int)=2)=True:=by simp
 have b3:([awN2,iL]:List GNode).isEmpty=false:=rfl
 simp -dsimp only[go_sem,bA,aA,cA,reduceCtorEq,FP,w2,b1,b2,b3,decide_true,Bool.not_false]
 refine CutO.frz [] [(133,.lit (.bool true)),(134,.agg (zp ⟨[RJ,awN2,iL]⟩)),(138,NB ze [gL,dN,TI])] ?_ ?_ ?_ (fun b e=>by cases e) ?_ ?_ ?_
 ·simp only[SA,iA,kA];omega
 ·intro b hb
  obtain⟨n0,n1⟩:=zmr hb
  simp[yA,dA,iA,kA,WD,n0,n1]
 ·omega
 ·intro i B hB
  cases hB
 ·intro p hp
  simp only[IB,JA,or_false,SA] at hp ⊢
  rcases hp with rfl|rfl|rfl
  ·exact SC (by simp -dsimp only[go_sem,aA]) rfl
  ·exact SC (by simp -dsimp only[go_sem,aA]) (H4 _ _ (CM _))
  ·refine RN.fz ?_
   simp -dsimp only[go_sem,aA]
   exact zms [gL,dN,TI] rfl (by omega) (by simp -dsimp only[go_sem,bA,aA,cA,reduceCtorEq])
 simp -dsimp only[go_sem,bA,aA,wC]
 refine oB ?_
 simp -dsimp only[go_sem,bA,aA]
 refine m_18 ⟨[RJ,awN2,iL]⟩ zqt [gL,dN,TI] (by simp) _ _ ?_
 rw[show AV (⟨[RJ,awN2,iL]⟩:GTree).nodes [gL,dN,TI]=[] from kT]
 simp -dsimp only[go_sem,bA,aA,gA]
 refine LB zm ?_
 have b4:((([]:List GRev).length:Int)=0)=True:=by simp
 simp -dsimp only[go_sem,reduceCtorEq,b4,decide_true]
 exact AA (by omega) rfl hQ
end
section
open Go Go.Tw Go.ChangeShapes Go.WideShapes Go.ChangeAt Go.RowKit
theorem own:ownKnob Tryz.prog.godebug=none:=by kernel_rfl
theorem O9:Tryz.f3.body=some (lY lJ):=by kernel_rfl
theorem zpU:laidOutB fA=true:=by kernel_rfl
theorem NY : Tryz.prog.globalNamed "internal/strconv.uint64pow10" = some 1 := by kernel_rfl
def powZ:List Int:=[1,10,100,1000,10000,100000,1000000,10000000,100000000,1000000000,10000000000,100000000000,1000000000000,10000000000000,100000000000000,1000000000000000,10000000000000000,100000000000000000,1000000000000000000,10000000000000000000]
theorem powV:pow10V=(powZ.map fun z=>Value.int .u64 z).map V.lit:=by kernel_rfl
theorem wb{W:World}(h:laidMetH fA Rows.treeMayUptoRow.laid W):GW Cx W:=by
 have h1 := h.filter (fun x => x.1 == "internal/strconv.uint64pow10")
 have h2 : laidMet fA [("internal/strconv.uint64pow10", Lib.tabData .u64 powZ)] W := h1
 have ht : Lib.TabIs fA W "internal/strconv.uint64pow10" .u64 powZ := Lib.tabIs_of_head (rest := []) NY (t := (Tryz.prog.globals[1]'(by decide +kernel)).type) (by kernel_rfl) (by kernel_rfl : Tryz.prog.underlying _ = some (.array 20 29)) wE coU (by kernel_rfl) h2
 intro g cs hg
 have hc:(bif kB g 1 then some pow10V else none)=some cs:=hg
 have e1:g=1:=by
  cases hb:kB g 1 with
  | true=>exact Nat.eq_of_beq_eq_true hb
  | false=>rw[hb] at hc;cases hc
 subst e1
 have e2:pow10V=cs:=OI hc
 subst e2
 have c0:=ht.cell NY 0 (by decide)
 refine⟨(zqi c0).1,powZ.map fun z=>Value.int .u64 z,by rw[powV];exact zm7 _,fun i c hi=>?_⟩
 rw[List.getElem?_map,Option.map_eq_some_iff] at hi
 obtain⟨z,h3,rfl⟩:=hi
 have:=ht.cell NY i (rA.1 h3).1
 rw[List.getD_eq_getElem?_getD,h3] at this
 simpa using this
theorem zqg(H:Type)(enc:TypeId×Value->H)(W:World)(base:Nat)(args:Array Value)(ds gs:List (DataW H))(before:List MemPlace)
  (hval:∀(j:Nat) t v,Tryz.f3.params[j]?=some t->args[j]?=some v->Value.okWide fA W .any base t v)
  (hW:DataW.Whole enc fA Tryz.f3.params.toList Rows.treeMaySpec.vars false W args.toList ds gs before) (hk:Rows.uptoSmall H (ds++gs)=true) (hL:laidMetH fA Rows.treeMayUptoRow.laid W):
  Calls fA 3 args W fun e W'=>∃v,e=.returned v/\Rows.treeMaySpec.post enc fA lJ false true false false W args v W':=by
 have hW':=hW
 obtain⟨p,q,hA0,hV,rfl,hfz,hnd⟩:=hW
 have hA:DataW.TrodAll enc fA W 0 (fun _=>true) true Tryz.f3.params.toList args.toList ds p:=hA0
 rw[Tryz.params3] at hA hval
 obtain⟨v0,v1,d0,d1,p0,p1,rfl,rfl,rfl,h0,h1⟩:=trodAll_two hA
 obtain⟨rfl,rfl⟩:=trodVars_none hV
 obtain⟨x0,rfl,_⟩:=okWide_struct gI (hval 0 24 v0 rfl rfl)
 obtain⟨x1,rfl,_⟩:=okWide_struct gI (hval 1 24 v1 rfl rfl)
 have hb:Rows.uptoBulkAll ([d0,d1]++[])<=1048576:=of_decide_eq_true hk
 simp only[MA,Rows.uptoBulkAll] at hb
 obtain⟨n0,k0⟩:=id h0
 obtain⟨n1,k1⟩:=id h1
 obtain⟨a,ra,la,oa⟩:=zpo k0 (by simp only;omega)
 obtain⟨b,rb,lb,ob⟩:=zpo k1 (by simp only;omega)
 have hv:RDs fA W [.agg (zp a),.agg (zp b)] #[Value.agg x0,Value.agg x1].toList:=RDs.cons ⟨x0,rfl,ra⟩ (RDs.one ⟨x1,rfl,rb⟩)
 have hM:MCall Cx 3 [.agg (zp a),.agg (zp b)] .empty (·=⟨.lit (.bool true),.empty,0⟩):=zl3 BP a b (fun h1 h2=>⟨zkE la oa h1,zkE lb ob h2⟩) .empty _ rfl
 clear hA0
 simp only[MA] at hW'
 refine(MCall.calls (C:=Cx) OJ O9 (by decide+kernel) (wb hL) hv _ hM).mono fun e W' ⟨he,hg⟩=>?_
 subst he
 have hlt:=hW'.lt
 have same:∀x∈p0++p1,W.sameAt W' x:=fun x hx=>hg.same (by simpa using hlt x hx)
 exact⟨_,rfl,zoj (pa:=p0++p1) (pv:=[]) hW' (fun _ _ _=>trodAll_cons_mk (shut_bool tF _) trodAll_mk0)
  (fun sp hsp=>trodAll_mk2 (WideElems.Trod_stays zpU (by kernel_rfl) (of_decide_eq_true (by kernel_rfl)) h0 (fun x hx=>same x (by simp[hx])) fun x hx=>hsp x (by simp[hx]))
   (WideElems.Trod_stays zpU (by kernel_rfl) (of_decide_eq_true (by kernel_rfl)) h1 (fun x hx=>same x (by simp[hx])) fun x hx=>hsp x (by simp[hx]))) (fun _ _=>rfl) (by simp)
  hg (ok_one (by kernel_rfl) rfl (okWide_bool_mk tF _))⟩
def bZ(k:IntKind)(l:List Int):Obj->Obj
 | .cells _ t frozen=>.cells (l.map (Value.int k)).toArray t frozen
 | o=>o
noncomputable def zii(os:Os):World:=
 { World.holding fA os ⟨#[],#[],[]⟩ with heap:=(((World.holding fA os ⟨#[],#[],[]⟩).heap.modify 1 (bZ .u64 powZ)).modify 2 (bZ .u8 [0,1,28,2,29,14,24,3,30,22,20,15,25,17,4,8,31,27,13,23,21,19,16,7,26,12,18,6,11,5,10,9])).modify 3 (bZ .u8 [0,1,56,2,57,49,28,3,61,58,42,50,38,29,17,4,62,47,59,36,45,43,51,22,53,39,33,30,24,18,12,5,63,55,48,27,60,41,37,16,46,35,44,21,52,32,23,11,54,26,40,15,34,20,31,10,25,14,19,9,13,8,7,6]) }
def wit:Array Value:=#[.agg #[.slice none 0 0],.agg #[.slice none 0 0]]
theorem nQ(os:Os):laidMet fA Rows.treeMayUptoRow.laid ((zii os).forCall (fun _ _=>0) ⟨#[],wit,[]⟩).memory:=
 laidMet_of_run' 80 (by kernel_rfl) (by kernel_rfl)
theorem se(os:Os){H:Type}(enc:TypeId×Value->H):∃places,DataW.whole enc fA ((zii os).forCall (fun _ _=>0) ⟨#[],wit,[]⟩).memory Tryz.f3.params.toList Rows.treeMaySpec.vars false wit.toList 8=some ([.agg [.nil],.agg [.nil]],[],places):=
 ⟨[],by kernel_rfl⟩
theorem pZ(os:Os)(started:os.Started)(H:Type)(enc:TypeId×Value->H)(F:Stop.Interp):
  ReturnsInHanded {} pK os 3 .any ((Rows.OpenSpec.upto Rows.treeMaySpec).preRow enc fA lJ Rows.treeMayUptoRow.domain false Rows.treeMayUptoRow.laid) (((Rows.OpenSpec.upto Rows.treeMaySpec).at F).post enc fA lJ false true false false):=by
 obtain⟨places,hx⟩:=se os enc
 refine returnsInHanded_of_row (C:=pK) (s:=Rows.OpenSpec.upto Rows.treeMaySpec) own started (by kernel_rfl) OJ
  (witness_row_at (enc:=enc) (C:=pK) false (zii os) wit rfl (by kernel_rfl) (by kernel_rfl) (by kernel_rfl)
   (OpenSpec.preRow_of_cond 8 hx (by kernel_rfl) (fun k hk=>by cases hk;kernel_rfl) (by kernel_rfl) (nQ os))) ?_
 intro W base args ds gs before hval hW _ hcond _ hL _ _
 exact zqg H enc W base args ds gs before hval hW (hcond _ rfl) hL
theorem said:Rows.TreeMayUptoSaid:=
 OpenClaim.holds_of_cond 3 lJ rfl rfl rfl rfl rfl rfl rfl ⟨rfl,rfl,rfl,rfl,rfl⟩ rfl rfl rfl rfl rfl (by kernel_rfl) OJ (by kernel_rfl)
  (of_decide_eq_true (by kernel_rfl)) (by unfold Func.isWrapper;first|(rw[if_pos (by decide+kernel)];kernel_rfl)|(rw[if_neg (by decide+kernel)];exact⟨rfl,rfl⟩))
  (fun os started H enc _ F=>by rw[OpenClaim.pre_eq_preRow];exact pZ os started H enc F)
theorem plain (f : FuncId) (fn : Func) (hf : Tryz.pinned.checked.prog.funcNamed "tidewrack/tidewracklaw07.TreeMay" = some f) (hfn : Tryz.pinned.checked.prog.funcs[f]? = some fn) :
  false=Tryz.pinned.checked.prog.looks []/\∀(j:Nat) t,fn.params[j]?=some t->Tryz.pinned.checked.prog.wantsStandIn t=false:=by
 obtain rfl : f = 3 := OI ((show Tryz.prog.funcNamed "tidewrack/tidewracklaw07.TreeMay" = some 3 by kernel_rfl).symm.trans hf) |>.symm
 obtain rfl:fn=lJ:=(OI (Tryz.func3.symm.trans hfn)).symm
 refine⟨by kernel_rfl,fun j t ht=>?_⟩
 rw[Tryz.params3] at ht
 have hm:=Array.mem_of_getElem? ht
 simp only[List.mem_toArray,IB,JA,or_false,or_self] at hm
 subst hm
 exact(show Tryz.prog.wantsStandIn 24=false by kernel_rfl)
theorem treeMay_holds:Rows.TreeMayUptoCardSaid:=
 Claim7.holds_tied_plain_at .later [] _ _ _ _ said (fun _ h=>by cases h) (by kernel_rfl) (fun _ h=>by cases h) treeMayUpto_row_tie rfl ⟨rfl,rfl⟩ (by kernel_rfl) rfl plain (by kernel_rfl)
end
end Go.Proofs.YtookdinfaoelaaaGreatDoor
