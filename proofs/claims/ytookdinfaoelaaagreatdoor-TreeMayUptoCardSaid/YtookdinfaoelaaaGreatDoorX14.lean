/- Own work for this claim, part 15 of 17. No condition of its own. -/
import Derived.Test.YtookdinfaoelaaaGreatDoorX13
import Derived.Test.YtookdinfaoelaaaGreatDoorX06
import Derived.Shelf.Strconv.Itoa1
import Derived.Test.YtookdinfaoelaaaGreatDoorX09
import Derived.Test.YtookdinfaoelaaaGreatDoorX10
import Derived.Lib.ItoaLen
set_option linter.all false
set_option maxRecDepth 100000
set_option maxHeartbeats 4000000
open Bool renaming and_eq_true→wA,eq_iff_iff→YB
open Go.IntKind renaming bits→GC,signed→xC,wrap→tC
open Go.Lib renaming decDigits→VB,decDigits_length→XE,itoa→xE,nDigits→YC
open Go.Proofs.Tryz renaming isAgg3→fI,isAgg4→gJ,isAgg95→sK,prog→fA,sizeOf3→yH,sizeOf4→FI,sizeOf9→tK,sizeOf95→DJ,underlying3→bD,underlying4→tF,underlying76→TA,underlying9→cD,underlying95→XF,zeroValue3→tG,zeroValue4→gH,zeroValue9→PI,zeroValue95→xI
open Go.RowKit.Below renaming refl→KG
open Go.Tw.Again renaming keep→AC
open Go.Tw.BR renaming dec→aB
open Go.Tw.Heap renaming get_push→yA,get_set→dA,n_push→iA,n_set→kA
open Go.Tw.MCall renaming of→QA,ofW→mB
open Go.Tw.MV renaming fn→oB
open Go.Tw.OO renaming intro→rB
open Go.Tw.Res renaming bf→AA,same→nB
open Go.Tw.Sub renaming keep→RB,lower→MB
open Go.Tw.Tab.OK renaming cons→CA,nil→xA
open Go.Tw.WW renaming blk→MD,cut→DC,keepl→WB,loopW→dD,seq→yC,sq→PA,vc→LB
open Int renaming natCast_add→cH,ofNat_tdiv→IE,ofNat_tmod→oF
open List renaming all_eq_true→gB,append_assoc→XA,append_nil→MA,drop_zero→UA,forall_mem_cons→OA,getD_eq_getElem?_getD→DA,getElem?_map→uB,getElem?_set→KD,length_append→qA,length_cons→HA,length_drop→ZB,length_map→bC,length_nil→SA,length_pos_iff→lF,length_replicate→LD,length_set→qB,map_append→QC,map_singleton→KJ,mem_cons→IB,nil_append→DD,not_mem_nil→JA,range→CB,range_succ→KF,replicate→oA,set_eq_take_append_cons_drop→OC,singleton_append→PG,take_append_of_le_length→jB,take_length→FB,take_zero→iB
open Nat renaming div_div_eq_div_mul→BE,div_le_self→MI,div_lt_of_lt_mul→XG,le_refl→jA,lt_of_le_of_lt→MH,lt_of_lt_of_le→vB,min_self→gA,mod_eq_of_lt→kC,mod_lt→NH,mul_one→wB,pow_add→AG,pow_le_pow_right→YG,pow_zero→wH,reduceAdd→cA,reduceEqDiff→aA,reduceLT→bA,reduceMul→qE,reducePow→XD,zero_add→bB,zero_le→KB,zero_lt_one→BC
open UInt8 renaming ofNat→GA
namespace Go.Proofs.YtookdinfaoelaaaGreatDoor
section
open Go Go.Tw
open Classical
@[go_sem] theorem mY:fL fA 127 [(3,vA 16)]=some (.agg (PC (oA 8 0) (.lit (.slice none 0 0)) (TC 0) (vA 16))):=by kernel_rfl
theorem dsi{h:List UInt32}{i:Nat}(hi:i<h.length)(x:UInt32)(r n s:V):zD (PC h r n s) i [qC x]=some (PC (h.set i x) r n s):=by
 have e:zD (h.map qC++[r,n,s]) i [qC x]=some ((h.map qC).set i (qC x)++[r,n,s]):=by
  unfold zD
  rw[if_pos (by simp;omega)]
  congr 1
  rw[OC,if_pos (by simpa using hi)]
  rw[jB (by simp;omega),List.drop_append_of_le_length (by simp;omega)]
  simp
 rw[PC,e,PC,List.map_set]
def bg:Nat->List UInt32
 | 0=>oA 8 0
 | i+1=>(bg i).set i (ivW.getD i 0)
theorem pQ:∀i,(bg i).length=8
 | 0=>rfl
 | i+1=>by rw[bg,qB,pQ i]
theorem bg_8:bg 8=ivW:=by decide
theorem Vb(H:Heap)(Q:OR->Prop)(hQ:Q ⟨aM (QI 16),H,H.n⟩):MCall Cx 112 [vA 16] H Q:=by
 refine mB (fn:=Tryz.f112) Tryz.func112 rfl (by decide) (k:=26) rfl (rs:=[.cell 2 127]) rfl ?_
 have r8:(oA 8 (0:UInt32)).length=8:=rfl
 have o1:(PC (oA 8 (0:UInt32)) (.lit (.slice none 0 0)) (TC 0) (vA 16)).all V.one=true:=XR _ rfl rfl rfl
 refine PA zm ?_
 simp -dsimp only[go_sem,bA,gA]
 refine PA zm ?_
 simp -dsimp only[go_sem,bA,aA,cA,reduceCtorEq,rN r8,SP r8 r8,o1]
 generalize hX:((H.push (.cells (PC (oA 8 0) (.lit (.slice none 0 0)) (TC 0) (vA 0)) 127)).push (.cells (PC (oA 8 0) (.lit (.slice none 0 0)) (TC 0) (vA 0)) 127)).set (H.n+1) (.cells (PC (oA 8 0) (.lit (.slice none 0 0)) (TC 0) (vA 16)) 127)=X
 have xn:X.n=H.n+2:=by rw[<-hX];simp -dsimp only[go_sem,cA]
 have x0:X.get H.n=some (.cells (PC (oA 8 0) (.lit (.slice none 0 0)) (TC 0) (vA 0)) 127):=by rw[<-hX];simp -dsimp only[go_sem,bA,cA,reduceCtorEq]
 have x1:X.get (H.n+1)=some (.cells (PC (bg 0) (.lit (.slice none 0 0)) (TC 0) (vA 16)) 127):=by rw[<-hX];simp -dsimp only[go_sem,bA,cA,reduceCtorEq];rfl
 clear hX o1
 refine DC zm (ι:=Heap) (fun _=>[(0,vA 16),(2,.ptr H.n 0),(3,.ptr (H.n+1) 0)]) (fun p=>p) (fun _=>H.n) (fun p=>p.n=H.n+2/\p.get H.n=some (.cells (PC (oA 8 0) (.lit (.slice none 0 0)) (TC 0) (vA 0)) 127)/\p.get (H.n+1)=some (.cells (PC ivW (.lit (.slice none 0 0)) (TC 0) (vA 16)) 127)) ?_ ?_
 ·simp -dsimp only[go_sem,bA]
  refine dD (ι:=Nat×Heap) (fun p=>[(0,vA 16),(2,.ptr H.n 0),(3,.ptr (H.n+1) 0),(4,vA p.1)]) (fun p=>p.2) (fun _=>H.n) (fun p=>p.1<=8/\p.2.n=H.n+2/\p.2.get H.n=some (.cells (PC (oA 8 0) (.lit (.slice none 0 0)) (TC 0) (vA 0)) 127)/\p.2.get (H.n+1)=some (.cells (PC (bg p.1) (.lit (.slice none 0 0)) (TC 0) (vA 16)) 127)) (fun p=>8-p.1) (0,X) ⟨by omega,xn,x0,x1⟩ ?_ ?_
  ·refine(MB (lo2:=H.n) (by omega)).trans (RB _ zSl)
  rintro⟨i,Y⟩ ⟨hi,yn,y0,y1⟩
  simp only at hi yn y0 y1 ⊢
  refine PA zm ?_
  simp -dsimp only[go_sem,bA,aA,reduceCtorEq,zf,zh]
  refine aB (fun k=>?_) (fun k=>?_)<;>simp -dsimp only[go_sem,aA,reduceCtorEq,k]
  ·have hi8:i<8:=by omega
   have lb:=pQ i
   refine yC ?_
   refine MD ?_
   refine LB zm ?_
   simp -dsimp only[go_sem,bA,aA,reduceCtorEq]
   refine MV.tab _ ((CA (HQ) xA)) ?_
   simp -dsimp only[go_sem,bA,aA,reduceCtorEq,iW i hi8,hi8,y1,wB,bB]
   refine rB (by rw[dsi (by omega)];rfl) ?_
   simp -dsimp only[go_sem,aA,reduceCtorEq]
   refine LB zm ?_
   simp -dsimp only[go_sem,bA,aA,reduceCtorEq]
   refine zAg (i+1,Y.set (H.n+1) (.cells (PC (bg (i+1)) (.lit (.slice none 0 0)) (TC 0) (vA 16)) 127)) ?_
   dsimp only
   exact⟨by omega,by rw[kA,yn],by rw[dA,if_neg (fun g=>absurd g.1 (by omega)),y0],by rw[dA,if_pos ⟨rfl,by omega⟩]⟩
  ·obtain rfl:i=8:=by omega
   rw[bg_8] at y1
   refine zAg (some Y) ?_
   exact⟨yn,y0,y1⟩
 rintro Y ⟨yn,y0,y1⟩
 have w1:IntKind.u32.wrap 16=(((16:UInt32).toNat:Nat):Int):=by decide
 have w2:(16842752:Int)=(((16842752:UInt32).toNat:Nat):Int):=by decide
 refine PA zm ?_
 generalize hiv:ivW=iv at y1
 have liv:iv.length=8:=by rw[<-hiv];rfl
 simp -dsimp only[go_sem,bA,aA,reduceCtorEq,zf,zh,y1,w1,w2,dg0 liv,Na liv]
 rw[UInt32.xor_assoc]
 have l2:(iv.set 0 (iv.getD 0 0 ^^^ (16842752 ^^^ 16))).length=8:=by rw[qB,liv]
 have o2:(PC (iv.set 0 (iv.getD 0 0 ^^^ (16842752 ^^^ 16))) (.lit (.slice none 0 0)) (TC 0) (vA 16)).all V.one=true:=XR _ rfl rfl rfl
 have z0:(Y.set (H.n+1) (.cells (PC (iv.set 0 (iv.getD 0 0 ^^^ (16842752 ^^^ 16))) (.lit (.slice none 0 0)) (TC 0) (vA 16)) 127)).get H.n=some (.cells (PC (oA 8 0) (.lit (.slice none 0 0)) (TC 0) (vA 0)) 127):=by rw[dA,if_neg (fun g=>absurd g.1 (by omega)),y0]
 have z1:(Y.set (H.n+1) (.cells (PC (iv.set 0 (iv.getD 0 0 ^^^ (16842752 ^^^ 16))) (.lit (.slice none 0 0)) (TC 0) (vA 16)) 127)).get (H.n+1)=some (.cells (PC (iv.set 0 (iv.getD 0 0 ^^^ (16842752 ^^^ 16))) (.lit (.slice none 0 0)) (TC 0) (vA 16)) 127):=by rw[dA,if_pos ⟨rfl,by omega⟩]
 have zn:(Y.set (H.n+1) (.cells (PC (iv.set 0 (iv.getD 0 0 ^^^ (16842752 ^^^ 16))) (.lit (.slice none 0 0)) (TC 0) (vA 16)) 127)).n=H.n+2:=by rw[kA,yn]
 generalize Y.set (H.n+1) (.cells (PC (iv.set 0 (iv.getD 0 0 ^^^ (16842752 ^^^ 16))) (.lit (.slice none 0 0)) (TC 0) (vA 16)) 127)=Z at z0 z1 zn
 refine LB zm ?_
 have hlt:H.n<Z.n:=by omega
 simp -dsimp only[go_sem,bA,aA,reduceCtorEq,z0,z1,ET l2,rN l2,o2,SP r8 l2,hlt]
 refine Res.fz _ (by omega) (zp5 _ .nil rfl rfl) ?_
 have e3:QI 16=⟨iv.set 0 (iv.getD 0 0 ^^^ (16842752 ^^^ 16)),[],0⟩:=by rw[<-hiv];rfl
 rw[e3] at hQ
 exact hQ
structure AnyB(n:Nat)(X:Heap)(v:V)(t:List UInt8):Prop where
 ex:(t=[]/\∃k cs e,n<=k/\v=.sl k 0 0 0 none/\X.get k=some (.cells cs e))\/(t≠[]/\∃k,n<=k/\v=.sl k 0 t.length t.length (some 1)/\X.get k=some (.cells (row zT t) 5))
theorem AnyB.fz{n:Nat}{X:Heap}{v:V}{t:List UInt8}{Z:Nat->Prop}(h:AnyB n X v t)(hZ:∀b,n<=b->Z b):Fz Z X v (NB zT t):=by
 rcases h.ex with⟨rfl,k,cs,e,h1,rfl,h2⟩|⟨h0,k,h1,rfl,h2⟩
 ·exact Fz.slice 0 (hZ _ h1) h2 (jA _) rfl rfl
 ·exact Fz.slice (t.length*1) (hZ _ h1) h2 (jA _) (by rw[UA,qO wK,FB]) (UH UM _)
theorem AnyB.vc{n:Nat}{X:Heap}{v:V}{t:List UInt8}(h:AnyB n X v t):zG v=some [v]/\[v].all V.one=true:=by
 rcases h.ex with⟨rfl,k,cs,e,h1,rfl,h2⟩|⟨h0,k,h1,rfl,h2⟩<;>exact⟨rfl,rfl⟩
theorem AnyB.of{n:Nat}{X Y:Heap}{v:V}{t:List UInt8}(h:AnyB n X v t)(ho:∀j,n<=j->j<X.n->Y.get j=X.get j):AnyB n Y v t:=by
 rcases h.ex with⟨rfl,k,cs,e,h1,rfl,h2⟩|⟨h0,k,h1,rfl,h2⟩
 ·exact⟨.inl ⟨rfl,k,cs,e,h1,rfl,by rw[ho _ h1 (zq h2),h2]⟩⟩
 ·exact⟨.inr ⟨h0,k,h1,rfl,by rw[ho _ h1 (zq h2),h2]⟩⟩
theorem znY{n:Nat}{X:Heap}{v x:V}{t new:List UInt8}{K:OR->Prop}{h:Hid K}(hn:n<=X.n)(ht:AnyB n X v t)(hsm:t.length+new.length<=1048576)(hlen:mJ x=some new.length)(hcells:cellsOf X 1 new.length x=some (row zT new))
  (k:∀Y w lo,X.n<=Y.n->(∀j,j<n->Y.get j=X.get j)->AnyB n Y w (t++new)->n<=lo->K ⟨w,Y,lo⟩):OO (DH fA X 76 76 v x) K h:=by
 obtain⟨i,hi,h2,h3⟩:=F4
 have hall:(row zT new).all V.one=true:=mL aV new
 have hrl:(row zT new).length=new.length:=by rw[zr wK];omega
 rcases ht.ex with⟨rfl,b,cs,e,h1,rfl,hb⟩|⟨h0,b,h1,rfl,hb⟩
 ·by_cases hnew:new=[]
  ·subst hnew
   refine rB (r:=⟨.sl b 0 0 0 none,X,X.n⟩) ?_ (k X _ _ (jA _) (fun _ _=>rfl) ht hn)
   unfold DH
   rw[TA]
   have hc0:cellsOf X 1 0 x=some []:=hcells
   have hl0:mJ x=some 0:=hlen
   simp[hi,h2,h3,hl0,hc0,NS]
  ·have hp:0<new.length:=lF.2 hnew
   refine rB (r:=⟨.sl X.n 0 (0+new.length) (0+new.length) (some 1),X.push (.cells ((cs.drop 0).take (0*1)++row zT new) 5),X.n⟩) ?_ ?_
   ·unfold DH
    rw[TA]
    simp only[hi,hlen,h2,hcells,NS,Option.bind_eq_bind,Option.bind_some,h3,hall,hrl,hb]
    rw[if_neg (by simp),if_neg (by omega),if_neg (by omega),if_neg (by simp;omega)]
    rfl
   ·simp only[bB,Nat.zero_mul,iB,DD]
    exact k _ _ _ (by rw[iA];omega) (fun j hj=>zj j (by omega)) ⟨.inr ⟨by simpa using hnew,X.n,hn,by simp,by rw[yA,if_pos rfl];simp⟩⟩ hn
 ·by_cases hnew:new=[]
  ·subst hnew
   refine rB (r:=⟨.sl b 0 t.length t.length (some 1),X,X.n⟩) ?_ (k X _ _ (jA _) (fun _ _=>rfl) (by rw[MA];exact ht) hn)
   unfold DH
   rw[TA]
   have hc0:cellsOf X 1 0 x=some []:=hcells
   have hl0:mJ x=some 0:=hlen
   simp[hi,h2,h3,hl0,hc0,NS]
  ·have hp:0<new.length:=lF.2 hnew
   rw[<-ZR h0]
   refine pP (new:=new) (fun _=>hb) hlen hp hcells hsm fun Y k' lo hB hlo=>?_
   have hne:t++new≠[]:=by simp[h0]
   have hl:lob X b t=min b X.n:=if_neg h0
   have hkn:=zq hb
   have eb:iH (t++new) k'=.sl k' 0 (t++new).length (t++new).length (some 1):=ZR hne
   rw[eb]
   refine k Y _ lo hB.n (fun j hj=>hB.old j (by omega) (.inl (by omega))) ⟨.inr ⟨hne,k',?_,rfl,hB.cell hne⟩⟩ (by omega)
   rcases hB.new with⟨rfl,_⟩|h5
   ·exact h1
   ·omega
theorem zmQ{n:Nat}{X:Heap}{v:V}{t new:List UInt8}{K:OR->Prop}{h:Hid K}(hn:n<=X.n)(ht:AnyB n X v t)(hsm:t.length+new.length<=1048576)
  (k:∀Y w lo,X.n<=Y.n->(∀j,j<n->Y.get j=X.get j)->AnyB n Y w (t++new)->n<=lo->K ⟨w,Y,lo⟩):OO (DH fA X 76 76 v (NB zT new)) K h:=by
 refine znY hn ht hsm rfl ?_ k
 show(if _ then _ else _)=_
 have hrl:(row zT new).length=new.length:=by rw[zr wK];omega
 rw[if_pos ⟨jA _,by rw[hrl];omega⟩,wB,List.take_of_length_le (by omega)]
theorem Ub(s:vM)(hs:s.h.length=8)(hn:s.n<18446744073709551616)(b:List UInt8)(hl:s.rest.length+b.length<=1048576)(H:Heap)(Q:OR->Prop)(hQ:Q ⟨aM (HI s b),H,H.n⟩):MCall Cx 111 [aM s,NB zT b] H Q:=by
 refine mB (fn:=Tryz.f111) Tryz.func111 rfl (by decide) (k:=34) rfl (rs:=[.cell 4 127]) rfl ?_
 have r8:(oA 8 (0:UInt32)).length=8:=rfl
 obtain⟨h,rest,n⟩:=s
 simp only at hs hn hl
 simp only[aM]
 have bsz:∀X,zx fA X 76 0 []=some ⟨.sl X.n 0 0 0 none,X.push (.cells [] 5),X.n⟩:=fun X=>KS TA iM dM
 refine PA zm ?_
 simp -dsimp only[go_sem,bA,cA,reduceCtorEq,gA]
 refine PA zm ?_
 simp -dsimp only[go_sem,bA,aA,cA,reduceCtorEq,iN hs,bsz]
 generalize hB3:((H.push (.cells (PC h (NB zT rest) (TC n) (vA 16)) 127)).push (.cells (PC (oA 8 0) (.lit (.slice none 0 0)) (TC 0) (vA 0)) 127)).push (.cells [] 5)=B3
 have b3n:B3.n=H.n+3:=by rw[<-hB3];simp -dsimp only[go_sem,cA]
 have b30:B3.get H.n=some (.cells (PC h (NB zT rest) (TC n) (vA 16)) 127):=by rw[<-hB3];simp -dsimp only[go_sem,cA,reduceCtorEq]
 have b31:B3.get (H.n+1)=some (.cells (PC (oA 8 0) (.lit (.slice none 0 0)) (TC 0) (vA 0)) 127):=by rw[<-hB3];simp -dsimp only[go_sem,aA,cA,reduceCtorEq]
 have b32:B3.get (H.n+2)=some (.cells [] 5):=by rw[<-hB3];simp -dsimp only[go_sem,aA,cA,reduceCtorEq]
 have b3o:∀j,j<H.n->B3.get j=H.get j:=fun j hj=>by rw[<-hB3,zj _ (by rw[iA,iA];omega),zj _ (by rw[iA];omega),zj _ hj]
 clear hB3
 refine zmQ (n:=H.n+2) (t:=[]) (by omega) ⟨.inl ⟨rfl,H.n+2,_,_,jA _,rfl,b32⟩⟩ (by simp;omega) fun X1 v1 lo1 x1n x1o a1 hlo1=>?_
 simp -dsimp only[go_sem,bA,aA,reduceCtorEq]
 refine zmQ (n:=H.n+2) (by omega) a1 (by simpa using hl) fun X v2 lo2 xn xo2 a2 hlo2=>?_
 rw[DD] at a2
 have xo:∀j,j<H.n+2->X.get j=B3.get j:=fun j hj=>by rw[xo2 j hj,x1o j hj]
 have x0:X.get H.n=some (.cells (PC h (NB zT rest) (TC n) (vA 16)) 127):=by rw[xo _ (by omega),b30]
 obtain⟨vcb,vob⟩:=a2.vc
 simp -dsimp only[go_sem,bA,aA,reduceCtorEq,x0,vcb,vob,m5 hs]
 have lB:∀B,(X.set H.n B).get (H.n+1)=X.get (H.n+1):=fun B=>by rw[dA,if_neg (fun g=>absurd g.1 (by omega))]
 refine WW.frz [.cells (PC h (NB zT (rest++b)) (TC n) (vA 16)) 127,.cells (PC (oA 8 0) (.lit (.slice none 0 0)) (TC 0) (vA 0)) 127] [(2,.ptr H.n 0),(4,.ptr (H.n+1) 0)] ?_ ?_ ?_ (fun b e=>nomatch e) ?_ ?_ ?_
 ·rw[kA];simp only[HA,SA];omega
 ·intro j hj
  rw[dA,if_neg (fun g=>absurd g.1 (by omega)),xo j (by omega),b3o j hj]
 ·omega
 ·intro i B hB
  match i,hB with
  | 0,hB=>
   injection hB with hB
   subst hB
   exact⟨_,by rw[Nat.add_zero,dA,if_pos ⟨rfl,by omega⟩],zpm h (RN.fz ((a2.of (Y:=X.set H.n (.cells (PC h v2 (TC n) (vA 16)) 127)) fun j h1 h2=>by rw[dA,if_neg (fun g=>absurd g.1 (by omega))]).fz fun b hb=>by simp only[HA,SA];omega)) rfl rfl⟩
  | 1,hB=>
   injection hB with hB
   subst hB
   exact⟨_,by rw[lB,xo _ (by omega),b31],RNb.one (by rw[PC,nN,Df];rfl)⟩
  | i+2,hB=>simp at hB
 ·intro p hp
  simp only[IB,JA,or_false] at hp
  rcases hp with rfl|rfl
  ·exact RN.same (by simp -dsimp only[go_sem,aA,reduceCtorEq]) (by simp[V.ok])
  ·exact RN.same (by simp -dsimp only[go_sem,aA,reduceCtorEq]) (by simp[V.ok])
 clear x0 vcb vob lB xn xo xo2 x1n x1o a1 a2 b3n b30 b31 b32 b3o
 have hp:Heap.pushes H [.cells (PC h (NB zT (rest++b)) (TC n) (vA 16)) 127,.cells (PC (oA 8 0) (.lit (.slice none 0 0)) (TC 0) (vA 0)) 127]=(H.push (.cells (PC h (NB zT (rest++b)) (TC n) (vA 16)) 127)).push (.cells (PC (oA 8 0) (.lit (.slice none 0 0)) (TC 0) (vA 0)) 127):=rfl
 rw[hp]
 generalize hY:(H.push (.cells (PC h (NB zT (rest++b)) (TC n) (vA 16)) 127)).push (.cells (PC (oA 8 0) (.lit (.slice none 0 0)) (TC 0) (vA 0)) 127)=Y
 have yn:Y.n=H.n+2:=by rw[<-hY];simp -dsimp only[go_sem,cA]
 have y0:Y.get H.n=some (.cells (PC h (NB zT (rest++b)) (TC n) (vA 16)) 127):=by rw[<-hY];simp -dsimp only[go_sem,reduceCtorEq]
 have y1:Y.get (H.n+1)=some (.cells (PC (oA 8 0) (.lit (.slice none 0 0)) (TC 0) (vA 0)) 127):=by rw[<-hY];simp -dsimp only[go_sem,reduceCtorEq]
 clear hp hY
 refine DC zm (ι:=Heap) (fun _=>[(2,.ptr H.n 0),(4,.ptr (H.n+1) 0)]) (fun p=>p) (fun _=>H.n) (fun p=>H.n+2<=p.n/\p.get H.n=some (.cells (PC (HI ⟨h,rest,n⟩ b).h (NB zT (HI ⟨h,rest,n⟩ b).rest) (TC (HI ⟨h,rest,n⟩ b).n) (vA 16)) 127)/\p.get (H.n+1)=some (.cells (PC (oA 8 0) (.lit (.slice none 0 0)) (TC 0) (vA 0)) 127)) ?_ ?_
 ·simp -dsimp only[go_sem]
  refine dD (ι:=vM×Heap) (fun p=>[(2,.ptr H.n 0),(4,.ptr (H.n+1) 0)]) (fun p=>p.2) (fun _=>H.n) (fun p=>p.2.n=H.n+2/\p.1.h.length=8/\p.1.n<18446744073709551616/\p.1.rest.length<=1048576/\FL p.1.h p.1.n p.1.rest=HI ⟨h,rest,n⟩ b/\p.2.get H.n=some (.cells (PC p.1.h (NB zT p.1.rest) (TC p.1.n) (vA 16)) 127)/\p.2.get (H.n+1)=some (.cells (PC (oA 8 0) (.lit (.slice none 0 0)) (TC 0) (vA 0)) 127)) (fun p=>p.1.rest.length) (⟨h,rest++b,n⟩,Y) ?_ ?_ ?_
  ·exact⟨yn,hs,hn,by rw[qA];exact hl,rfl,y0,y1⟩
  ·refine(MB (lo2:=H.n) (by omega)).trans (RB _ zSl)
  rintro⟨⟨g,l,m⟩,X⟩ ⟨xn,hg,hm,hll,hgo,x0,x1⟩
  simp only at xn hg hm hll hgo x0 x1 ⊢
  refine PA zm ?_
  simp -dsimp only[go_sem,bA,aA,zf,zh,x0,iN hg]
  refine aB (fun k=>?_) (fun k=>?_)<;>simp -dsimp only[go_sem,k]
  ·have k64:64<l.length:=by omega
   have k64':64<=l.length:=by omega
   refine MD ?_
   have w1:IntKind.u64.wrap ((m:Int)+64)=(((m+64) % 18446744073709551616:Nat):Int):=by
    rw[show(m:Int)+64=((m+64:Nat):Int) by omega,T6]
   have hm2:(m+64) % 18446744073709551616<18446744073709551616:=NH _ (by omega)
   refine PA zm ?_
   simp -dsimp only[go_sem,bA,aA,x0,j5 hg,w1,ds9 hg]
   generalize hm':(m+64) % 18446744073709551616=m' at hm2
   have z0:(X.set H.n (.cells (PC g (NB zT l) (TC m') (vA 16)) 127)).get H.n=some (.cells (PC g (NB zT l) (TC m') (vA 16)) 127):=by rw[dA,if_pos ⟨rfl,by omega⟩]
   have z1:(X.set H.n (.cells (PC g (NB zT l) (TC m') (vA 16)) 127)).get (H.n+1)=some (.cells (PC (oA 8 0) (.lit (.slice none 0 0)) (TC 0) (vA 0)) 127):=by rw[dA,if_neg (fun g=>absurd g.1 (by omega)),x1]
   have zn:(X.set H.n (.cells (PC g (NB zT l) (TC m') (vA 16)) 127)).n=H.n+2:=by rw[kA,xn]
   generalize X.set H.n (.cells (PC g (NB zT l) (TC m') (vA 16)) 127)=Z at z0 z1 zn
   refine yC ?_
   refine WW.bar zm 9 (by decide) (by kernel_rfl) ?_
   dsimp only[List.take_succ_cons,iB]
   refine DR.of _ ((CA (wN (tW g hg (l.take 64) (by rw[List.length_take];omega) m' hm2 false Z _ rfl)) xA)) (by kernel_rfl) ?_
   simp -dsimp only[go_sem,bA,aA,qE,z0,Fh hg,iN hg,j5 hg,TW,k64',zi6 k64']
   have lg:(oL g (l.take 64) m' false).length=8:=kg ..
   generalize hg':oL g (l.take 64) m' false=g' at lg
   simp -dsimp only[go_sem,bC,lg,RR,ds0 hg lg]
   have u0:(Z.set H.n (.cells (PC g' (NB zT l) (TC m') (vA 16)) 127)).get H.n=some (.cells (PC g' (NB zT l) (TC m') (vA 16)) 127):=by rw[dA,if_pos ⟨rfl,by omega⟩]
   have u1:(Z.set H.n (.cells (PC g' (NB zT l) (TC m') (vA 16)) 127)).get (H.n+1)=some (.cells (PC (oA 8 0) (.lit (.slice none 0 0)) (TC 0) (vA 0)) 127):=by rw[dA,if_neg (fun g=>absurd g.1 (by omega)),z1]
   have un:(Z.set H.n (.cells (PC g' (NB zT l) (TC m') (vA 16)) 127)).n=H.n+2:=by rw[kA,zn]
   generalize Z.set H.n (.cells (PC g' (NB zT l) (TC m') (vA 16)) 127)=U at u0 u1 un
   refine LB zm ?_
   simp -dsimp only[go_sem,bA,aA,qE,u0,iN lg,UW,k64',zjE,m5 lg]
   have hdl:(l.drop 64).length=l.length-64:=ZB ..
   refine zAg (⟨g',l.drop 64,m'⟩,U.set H.n (.cells (PC g' (NB zT (l.drop 64)) (TC m') (vA 16)) 127)) ?_
   ·dsimp only
    refine⟨by rw[kA,un],lg,hm2,by rw[ZB];omega,?_,by rw[dA,if_pos ⟨rfl,by omega⟩],by rw[dA,if_neg (fun g=>absurd g.1 (by omega)),u1]⟩
    rw[<-hgo,m7 k64,hm',hg']
  ·have k64:l.length<=64:=by omega
   rw[XU k64] at hgo
   refine zAg (some X) ?_
   dsimp only
   rw[<-hgo]
   exact⟨by omega,x0,x1⟩
 ·rintro X ⟨xn,x0,x1⟩
  have hw:=yj _ h n (rest++b) (jA _) hs hn
  have hwr:=zgQ _ h n (rest++b) (jA _)
  rw[qA] at hwr
  generalize hr:HI ⟨h,rest,n⟩ b=w at x0 hQ
  have hr2:FL h n (rest++b)=w:=hr
  rw[hr2] at hw hwr
  obtain⟨w1,w2,w3⟩:=hw
  refine LB zm ?_
  have od:(PC w.h (NB zT w.rest) (TC w.n) (vA 16)).all V.one=true:=XR _ rfl rfl rfl
  have hlt:H.n+1<X.n:=by omega
  simp -dsimp only[go_sem,bA,aA,zf,zh,x0,x1,ET w1,rN w1,od,SP r8 w1,hlt]
  exact AA (by omega) (EP w) hQ
theorem zmP{n:Nat}{X:Heap}{v:V}{t:List UInt8}(ht:AnyB n X v t):DH fA X 76 76 v (.lit (.slice none 0 0))=some ⟨v,X,X.n⟩:=by
 obtain⟨i,hi,h2,h3⟩:=F4
 rcases ht.ex with⟨rfl,k,cs,e,h1,rfl,hb⟩|⟨h0,k,h1,rfl,hb⟩<;>
 ·unfold DH
  rw[TA]
  simp[hi,h2,h3,mJ,cellsOf,NS]
theorem zoY(s:vM)(hs:s.h.length=8)(hr:s.rest.length<=64)(H:Heap)(Q:OR->Prop)(hQ:∀X v lo,H.n<=X.n->(∀j,j<H.n->X.get j=H.get j)->AnyB H.n X v s.rest->H.n<=lo->Q ⟨.agg (PC s.h v (TC s.n) (vA 16)),X,lo⟩):MCall Cx 111 [aM s,.lit (.slice none 0 0)] H Q:=by
 refine mB (fn:=Tryz.f111) Tryz.func111 rfl (by decide) (k:=34) rfl (rs:=[.cell 4 127]) rfl ?_
 have r8:(oA 8 (0:UInt32)).length=8:=rfl
 obtain⟨h,rest,n⟩:=s
 simp only at hs hr hQ
 simp only[aM]
 have bsz:∀X,zx fA X 76 0 []=some ⟨.sl X.n 0 0 0 none,X.push (.cells [] 5),X.n⟩:=fun X=>KS TA iM dM
 refine PA zm ?_
 simp -dsimp only[go_sem,bA,cA,reduceCtorEq,gA]
 refine PA zm ?_
 simp -dsimp only[go_sem,bA,aA,cA,reduceCtorEq,iN hs,bsz]
 generalize hB3:((H.push (.cells (PC h (NB zT rest) (TC n) (vA 16)) 127)).push (.cells (PC (oA 8 0) (.lit (.slice none 0 0)) (TC 0) (vA 0)) 127)).push (.cells [] 5)=B3
 have b3n:B3.n=H.n+3:=by rw[<-hB3];simp -dsimp only[go_sem,cA]
 have b30:B3.get H.n=some (.cells (PC h (NB zT rest) (TC n) (vA 16)) 127):=by rw[<-hB3];simp -dsimp only[go_sem,cA,reduceCtorEq]
 have b31:B3.get (H.n+1)=some (.cells (PC (oA 8 0) (.lit (.slice none 0 0)) (TC 0) (vA 0)) 127):=by rw[<-hB3];simp -dsimp only[go_sem,aA,cA,reduceCtorEq]
 have b32:B3.get (H.n+2)=some (.cells [] 5):=by rw[<-hB3];simp -dsimp only[go_sem,aA,cA,reduceCtorEq]
 have b3o:∀j,j<H.n->B3.get j=H.get j:=fun j hj=>by rw[<-hB3,zj _ (by rw[iA,iA];omega),zj _ (by rw[iA];omega),zj _ hj]
 clear hB3
 refine zmQ (n:=H.n+2) (t:=[]) (by omega) ⟨.inl ⟨rfl,H.n+2,_,_,jA _,rfl,b32⟩⟩ (by simp;omega) fun X v2 lo2 xn xo2 a2 hlo2=>?_
 simp -dsimp only[go_sem,bA,aA,reduceCtorEq]
 refine rB (zmP a2) ?_
 rw[DD] at a2
 have xo:∀j,j<H.n+2->X.get j=B3.get j:=xo2
 have x0:X.get H.n=some (.cells (PC h (NB zT rest) (TC n) (vA 16)) 127):=by rw[xo _ (by omega),b30]
 obtain⟨vcb,vob⟩:=a2.vc
 simp -dsimp only[go_sem,bA,aA,reduceCtorEq,x0,vcb,vob,m5 hs]
 have z0:(X.set H.n (.cells (PC h v2 (TC n) (vA 16)) 127)).get H.n=some (.cells (PC h v2 (TC n) (vA 16)) 127):=by rw[dA,if_pos ⟨rfl,by omega⟩]
 have zo:∀j,j≠H.n->(X.set H.n (.cells (PC h v2 (TC n) (vA 16)) 127)).get j=X.get j:=fun j hj=>by rw[dA,if_neg (fun g=>hj g.1)]
 have zn:(X.set H.n (.cells (PC h v2 (TC n) (vA 16)) 127)).n=X.n:=kA ..
 generalize X.set H.n (.cells (PC h v2 (TC n) (vA 16)) 127)=Z at z0 zo zn
 have z1:Z.get (H.n+1)=some (.cells (PC (oA 8 0) (.lit (.slice none 0 0)) (TC 0) (vA 0)) 127):=by rw[zo _ (by omega),xo _ (by omega),b31]
 have a3:AnyB (H.n+2) Z v2 rest:=a2.of fun j h1 h2=>zo j (by omega)
 have hlen:∀G:Heap,qH fA G 76 v2=some (vA rest.length):=fun G=>by
  rcases a3.ex with⟨rfl,k,cs,e,h1,rfl,hb⟩|⟨h0,k,h1,rfl,hb⟩
  ·exact Ij ..
  ·exact Ij ..
 have vco:V.one v2=true:=by simpa using vob
 have hk:((64:Int)<(rest.length:Int))=False:=eq_false (by omega)
 have hlo3:H.n<=lo2:=by omega
 have d8:(PC h v2 (TC n) (vA 16))[8]?=some v2:=iN hs ..
 refine WB H.n [(2,.ptr H.n 0),(4,.ptr (H.n+1) 0)] (by omega) zSl ?_
 refine PA zm ?_
 simp -dsimp only[go_sem]
 refine dD (ι:=Unit) (fun _=>[(2,.ptr H.n 0),(4,.ptr (H.n+1) 0)]) (fun _=>Z) (fun _=>H.n) (fun _=>True) (fun _=>0) () trivial (RB _ zSl) ?_
 rintro⟨⟩ _
 refine PA zm ?_
 simp -dsimp only[go_sem,bA,aA,zf,zh,z0,d8,hlen,hk]
 refine LB zm ?_
 have od:(PC h v2 (TC n) (vA 16)).all V.one=true:=XR _ vco rfl rfl
 have hlt:H.n+1<Z.n:=by omega
 simp -dsimp only[go_sem,bA,aA,z0,z1,ET hs,rN hs,od,SP r8 hs,hlt]
 refine nB (hQ _ v2 _ (by rw[kA];omega) (fun j hj=>by rw[dA,if_neg (fun g=>absurd g.1 (by omega)),zo j (by omega),xo j (by omega),b3o j hj]) ?_ (by omega))
 have a4:=a3.of (Y:=Z.set (H.n+1) (.cells (PC h v2 (TC n) (vA 16)) 127)) fun j h1 h2=>by rw[dA,if_neg (fun g=>absurd g.1 (by omega))]
 rcases a4.ex with⟨rfl,k,cs,e,h1,rfl,hb⟩|⟨h0,k,h1,rfl,hb⟩
 ·exact⟨.inl ⟨rfl,k,cs,e,by omega,rfl,hb⟩⟩
 ·exact⟨.inr ⟨h0,k,by omega,rfl,hb⟩⟩
end
section
open Go Go.Tw
open Classical
mutual
def KX:GV->Prop
 | .mk k n t l ks=>(0<=k/\k<=6/\(k=6->ks.length=l.length))/\Fg l
def Fg:List GV->Prop
 | []=>True
 | v::vs=>KX v/\Fg vs
end
theorem zjx:∀{l:List GV},Fg l->∀x∈l,KX x
 | [],_,x,hx=>by cases hx
 | v::vs,h,x,hx=>by
  rcases IB.1 hx with rfl|hx
  ·exact h.1
  ·exact zjx h.2 x hx
theorem zqa{v:GV}(h:KX v):0<=v.kind/\v.kind<=6/\(v.kind=6->v.keys.length=v.list.length):=by cases v;exact h.1
theorem zqb{v:GV}(h:KX v):∀x∈v.list,KX x:=by cases v;exact zjx h.2
theorem wR{v:GV}(h:v.kind=5\/v.kind=6):ED v=(if v.kind=5 then 91 else 123)::(EJ (decide (v.kind=6)) v.keys (v.list.map ED) v.list.length++[if v.kind=5 then 93 else 125]):=by
 cases v with
 | mk k n t l ks=>
  simp only[GV.kind,GV.keys,GV.list] at *
  rcases h with rfl|rfl<;>simp[ED,s7]
theorem BZ(v:GV)(hv:KX v)(hw:v.wf)(hnu:GN v)(hsm:(ED v).length<=1048576)(H:Heap)(Q:OR->Prop)(hQ:Q ⟨gE (AI (ED v)),H,H.n⟩):MCall Cx 67 [.agg (zR v)] H Q:=by
 have hrec:∀x∈v.list,(ED x).length<=1048576->∀H Q,Q ⟨gE (AI (ED x)),H,H.n⟩->MCall Cx 67 [.agg (zR x)] H Q:=fun x hx hl H Q hQ=>BZ x (zqb hv x hx) (GV.wf_mem hw x hx) (zj8 hnu x hx) hl H Q hQ
 refine mB (fn:=Tryz.f67) Tryz.func67 rfl (by decide) (k:=63) rfl (rs:=[.tmp 2]) rfl ?_
 have hnum:=zng hnu
 obtain⟨kl,ku,hkeys⟩:=zqa hv
 refine PA zm ?_
 simp -dsimp only[go_sem,bA,gA]
 refine PA zm ?_
 by_cases k0:v.kind=0
 ·have ht:ED v=[110,117,108,108]:=by cases v;simp[GV.kind] at *;simp[ED, *]
  rw[ht] at hQ
  simp -dsimp only[go_sem,bA,aA,reduceCtorEq,k0]
  exact AA (by omega) rfl hQ
 by_cases k1:v.kind=1
 ·have ht:ED v=[102,97,108,115,101]:=by cases v;simp[GV.kind] at k1;simp[ED,k1]
  rw[ht] at hQ
  simp -dsimp only[go_sem,bA,aA,reduceCtorEq,k1]
  exact AA (by omega) rfl hQ
 by_cases k2:v.kind=2
 ·have ht:ED v=[116,114,117,101]:=by cases v;simp[GV.kind] at k2;simp[ED,k2]
  rw[ht] at hQ
  simp -dsimp only[go_sem,bA,aA,reduceCtorEq,k2]
  exact AA (by omega) rfl hQ
 by_cases k3:v.kind=3
 ·have ht:ED v=xE v.num:=by cases v;simp[GV.kind] at k3;simp[ED,k3,GV.num]
  rw[ht] at hQ
  simp -dsimp only[go_sem,bA,aA,reduceCtorEq,k3]
  refine oB ?_
  simp -dsimp only[go_sem,bA,aA,reduceCtorEq]
  refine m_91 v.num hnum.1 hnum.2 _ _ ?_
  simp -dsimp only[go_sem]
  exact AA (by omega) rfl hQ
 by_cases k4:v.kind=4
 ·have ht:ED v=pJ v.text:=by cases v;simp[GV.kind] at k4;simp[ED,k4,GV.text]
  rw[ht] at hQ hsm
  simp -dsimp only[go_sem,bA,aA,reduceCtorEq,k4]
  refine oB ?_
  simp -dsimp only[go_sem,bA,aA,reduceCtorEq]
  refine ad v.text hsm _ _ ?_
  simp -dsimp only[go_sem]
  exact AA (by omega) rfl hQ
 simp -dsimp only[go_sem,bA,aA,reduceCtorEq,k0,k1,k2,k3,k4]
 obtain⟨obj,hobj⟩:∃obj:Bool,obj=decide (v.kind=6):=⟨_,rfl⟩
 have k56:v.kind=5\/v.kind=6:=by omega
 have htx:=wR k56
 rw[<-hobj] at htx
 have hlen:∀i,i<=v.list.length->(EJ obj v.keys (v.list.map ED) i).length+2<=1048576:=fun i hi=>by
  have:=zgY obj v.keys (v.list.map ED) i v.list.length hi
  have:=congrArg List.length htx
  simp only[HA,qA,SA] at this
  omega
 have e0:(V.lit (.string ⟨#[]⟩))=gE (AI []):=rfl
 have e44:(V.lit (.string ⟨#[44]⟩))=gE (AI [44]):=rfl
 have e58:(V.lit (.string ⟨#[58]⟩))=gE (AI [58]):=rfl
 have hg0:(H.push (.cells (zR v) 36)).get H.n=some (.cells (zR v) 36):=by rw[yA,if_pos rfl]
 have hn0:(H.push (.cells (zR v) 36)).n=H.n+1:=iA ..
 generalize H.push (.cells (zR v) 36)=X at hg0 hn0
 refine PA zm ?_
 simp -dsimp only[go_sem,bA]
 refine DC zm (ι:=Unit) (fun _=>[(1,.ptr H.n 0),(3,gE (AI (EJ obj v.keys (v.list.map ED) v.list.length)))]) (fun _=>X) (fun _=>H.n) (fun _=>True) ?_ ?_
 ·simp -dsimp only[go_sem,bA]
  refine dD (ι:=Nat×List UInt8) (fun p=>[(1,.ptr H.n 0),(3,gE (AI p.2)),(4,vA p.1)]) (fun _=>X) (fun _=>H.n) (fun p=>p.1<=v.list.length/\p.2=EJ obj v.keys (v.list.map ED) p.1) (fun p=>v.list.length-p.1) (0,[]) ⟨KB _,rfl⟩ ?_ ?_
  ·dsimp only
   rw[<-e0]
   refine(MB (lo2:=H.n) (by omega)).trans (RB _ zSl)
  rintro⟨i,t⟩ ⟨hi,ht⟩
  simp only at hi ht ⊢
  have hle:=GV.wf_list hw
  have hlt:=hlen i hi
  rw[<-ht] at hlt
  refine PA zm ?_
  simp -dsimp only[go_sem,bA,aA,zf,zh,hg0]
  refine aB (fun h=>?_) (fun h=>?_)<;>simp -dsimp only[go_sem,aA,h]
  ·obtain⟨x,hx⟩:=zu h
   have hmx:=List.mem_of_getElem? hx
   have hlen1:=hlen (i+1) h
   have hjs:EJ obj v.keys (v.list.map ED) (i+1)=EJ obj v.keys (v.list.map ED) i++((if i=0 then [] else [44])++((if obj then pJ (v.keys.getD i .empty)++[58] else [])++ED x)):=by
    rw[EJ,DA (l:=v.list.map ED),uB,hx];rfl
   rw[hjs,<-ht] at hlen1
   simp only[qA] at hlen1
   refine yC ?_
   refine MD ?_
   refine DC zm (ι:=List UInt8) (fun u=>[(1,.ptr H.n 0),(3,gE (AI u)),(4,vA i)]) (fun _=>X) (fun _=>H.n) (fun u=>u=t++(if i=0 then [] else [44])) ?_ ?_
   ·simp -dsimp only[go_sem,bA,aA]
    refine aB (fun g=>?_) (fun g=>?_)<;>simp -dsimp only[go_sem,bA,aA,g]
    ·have hi0:i≠0:=by omega
     rw[if_neg hi0] at hlen1
     simp only[HA,SA] at hlen1
     have e:=vL 9 t [44] (by simp;omega)
     rw[<-e44] at e
     simp -dsimp only[go_sem,bA,aA,e]
     refine zAg (some (t++[44])) ?_
     rw[if_neg hi0]
    ·have hi0:i=0:=by omega
     refine zAg (some t) ?_
     rw[if_pos hi0,MA]
   rintro u hu
   have hul:u.length=t.length+(if i=0 then([]:List UInt8) else [44]).length:=by rw[hu,qA]
   refine DC zm (ι:=List UInt8) (fun w=>[(1,.ptr H.n 0),(3,gE (AI w)),(4,vA i)]) (fun _=>X) (fun _=>H.n) (fun w=>w=u++(if obj then pJ (v.keys.getD i .empty)++[58] else [])) ?_ ?_
   ·simp -dsimp only[go_sem,bA,aA,zf,zh,hg0]
    refine aB (fun g=>?_) (fun g=>?_)<;>simp -dsimp only[go_sem,bA,aA,g]
    ·have hot:obj=true:=by rw[hobj];simpa using g
     have hkl:v.keys.length=v.list.length:=hkeys g
     obtain⟨y,hy⟩:=zu (l:=v.keys) (i:=i) (by omega)
     have hik:i<v.keys.length:=by omega
     simp -dsimp only[go_sem,bA,aA,g,hg0,hik,z7 zC hy]
     have hky:v.keys.getD i .empty=y:=by rw[DA,hy];rfl
     rw[hky,hot] at hlen1
     simp only[if_true,qA,HA,SA] at hlen1
     have e:=vL 9 u (pJ y) (by omega)
     have e2:=vL 9 (u++pJ y) [58] (by simp;omega)
     rw[<-e58] at e2
     refine oB ?_
     simp -dsimp only[go_sem,bA,aA]
     refine ad y (by omega) _ _ ?_
     simp -dsimp only[go_sem,bA,aA,e,e2]
     refine zAg (some (u++pJ y++[58])) ?_
     rw[hky,hot,if_pos rfl,XA]
    ·have hot:obj=false:=by rw[hobj];simpa using g
     refine zAg (some u) ?_
     rw[hot];simp
   rintro w hw'
   have hwl:w.length+(ED x).length<=1048576:=by
    rw[hw',qA]
    omega
   have e:=vL 9 w (ED x) (by omega)
   refine LB zm ?_
   simp -dsimp only[go_sem,bA,aA,zf,zh,hg0,h,z7 zF hx]
   refine oB ?_
   simp -dsimp only[go_sem,bA,aA]
   refine hrec x hmx (by omega) _ _ ?_
   simp -dsimp only[go_sem,bA,aA,e]
   refine WB H.n [(1,.ptr H.n 0),(3,gE (AI (w++ED x))),(4,vA i)] (by omega) zSl ?_
   refine LB zm ?_
   simp -dsimp only[go_sem,bA,aA,zf,zh]
   refine AC (i+1,w++ED x) ⟨h,?_⟩ (by dsimp only;omega) ?_ rfl ?_
   ·dsimp only
    rw[hw',hu,ht,hjs]
    simp
   ·show ∀q∈[(1,.ptr H.n 0),(3,gE (AI (w++ED x))),(4,vA ((i+1:Nat):Int))],_
    (focus (simp -dsimp only[go_sem,aA,OA,JA,false_implies,implies_true]<;>(try simp (disch:=omega) only[zw])<;>(try simp)<;>(try omega)))
   ·show H.n<=_
    omega
  ·have e:i=v.list.length:=by omega
   rw[e] at ht
   rw[ht]
   refine AC (some ()) trivial BC ?_ rfl ?_
   ·show ∀q∈[(1,.ptr H.n 0),(3,gE (AI (EJ obj v.keys (v.list.map ED) v.list.length)))],_
    (focus (simp -dsimp only[go_sem,aA,OA,JA,false_implies,implies_true]<;>(try simp (disch:=omega) only[zw,xJ,vK,AK])<;>(try simp)<;>(try omega)))
   ·show H.n<=_
    omega
 rintro⟨⟩ _
 have hlv:=hlen _ (jA _)
 generalize EJ obj v.keys (v.list.map ED) v.list.length=t at htx hlv
 refine LB zm ?_
 simp -dsimp only[go_sem,bA,aA,zf,zh,hg0]
 rcases k56 with k5|k6
 ·have e:=vL 9 [91] t (by simp;omega)
  have e':=vL 9 (91::t) [93] (by simp;omega)
  have c1:gE (AI [91])=(V.lit (.string ⟨#[91]⟩)):=rfl
  have c2:gE (AI [93])=(V.lit (.string ⟨#[93]⟩)):=rfl
  rw[c1] at e
  rw[c2] at e'
  rw[if_pos k5,if_pos k5] at htx
  rw[htx] at hQ
  simp -dsimp only[go_sem,bA,aA,k5,e,e']
  refine AA (by omega) rfl hQ
 ·have n5:¬v.kind=5:=by omega
  have e:=vL 9 [123] t (by simp;omega)
  have e':=vL 9 (123::t) [125] (by simp;omega)
  have c1:gE (AI [123])=(V.lit (.string ⟨#[123]⟩)):=rfl
  have c2:gE (AI [125])=(V.lit (.string ⟨#[125]⟩)):=rfl
  rw[c1] at e
  rw[c2] at e'
  rw[if_neg n5,if_neg n5] at htx
  rw[htx] at hQ
  simp -dsimp only[go_sem,bA,aA,n5,e,e']
  refine AA (by omega) rfl hQ
termination_by SizeOf.sizeOf v
decreasing_by exact GV.size_mem hx
end
section
open Go Go.Tw Go.Shelf Go.Proofs
def Tryz.lays283_ren:Go.Shelf.Ren:=⟨fun|283=>148|n=>n,fun|3=>3|9=>9|4=>4|n=>n,fun|n=>n⟩
theorem Tryz.lays283:Go.Proofs.Lays.n283 fA Tryz.lays283_ren:={
 mixed:=by kernel_rfl
 f283:=Tryz.func148.trans (congrArg some (by kernel_rfl))
 t3:=bD
 a3:=fI
 z3:=yH
 v3:=tG
 t4:=tF
 a4:=gJ
 z4:=FI
 v4:=gH
 t9:=cD
 a9:=Tryz.isAgg9
 z9:=tK
 v9:=PI}
def Tryz.lays129_ren:Go.Shelf.Ren:=⟨fun|129=>145|n=>n,fun|53=>29|3=>3|4=>4|46=>95|5=>5|9=>9|n=>n,fun|n=>n⟩
theorem Tryz.lays129:Go.Proofs.Lays.n129 fA Tryz.lays129_ren:={
 mixed:=by kernel_rfl
 f129:=Tryz.func145.trans (congrArg some (by kernel_rfl))
 t3:=bD
 a3:=fI
 z3:=yH
 v3:=tG
 t4:=tF
 a4:=gJ
 z4:=FI
 v4:=gH
 t5:=Tryz.underlying5
 a5:=Tryz.isAgg5
 z5:=Tryz.sizeOf5
 v5:=Tryz.zeroValue5
 t9:=cD
 a9:=Tryz.isAgg9
 z9:=tK
 v9:=PI
 t46:=XF
 a46:=sK
 z46:=DJ
 v46:=xI
 t53:=Tryz.underlying29
 a53:=Tryz.isAgg29
 z53:=Tryz.sizeOf29
 v53:=Tryz.zeroValue29}
def Tryz.lays317_ren:Go.Shelf.Ren:=⟨fun|317=>166|n=>n,fun|3=>3|46=>95|n=>n,fun|n=>n⟩
theorem Tryz.lays317:Go.Proofs.Lays.n317 fA Tryz.lays317_ren:={
 mixed:=by kernel_rfl
 f317:=Tryz.func166.trans (congrArg some (by kernel_rfl))
 t3:=bD
 a3:=fI
 z3:=yH
 v3:=tG
 t46:=XF
 a46:=sK
 z46:=DJ
 v46:=xI}
def Tryz.lays318_ren:Go.Shelf.Ren:=⟨fun|318=>167|n=>n,fun|3=>3|4=>4|n=>n,fun|n=>n⟩
theorem Tryz.lays318:Go.Proofs.Lays.n318 fA Tryz.lays318_ren:={
 mixed:=by kernel_rfl
 f318:=Tryz.func167.trans (congrArg some (by kernel_rfl))
 t3:=bD
 a3:=fI
 z3:=yH
 v3:=tG
 t4:=tF
 a4:=gJ
 z4:=FI
 v4:=gH}
theorem zpR:Tryz.lays283_ren.f 283=148:=by kernel_rfl
theorem zpT:Tryz.lays129_ren.f 129=145:=by kernel_rfl
theorem zpQ:Tryz.lays317_ren.f 317=166:=by kernel_rfl
theorem zpP:Tryz.lays318_ren.f 318=167:=by kernel_rfl
theorem Dc(i:Nat)(hi:i<100)(H:Heap)(Q:OR->Prop)(hQ:Q ⟨gE (AI (VB i)),H,H.n⟩):MCall Cx 148 [vA i] H Q:=by
 refine pf (xs:=[.int .i64 i]) Tryz.func148 rfl (by decide) (fun w=>?_) hQ
 have h:=Any.internal_strconv_small Tryz.lays283 i hi w
 rw[zpR] at h
 exact Calls.mono h fun e w' ⟨a,b⟩=>⟨a,by subst b;exact KG _ _⟩
theorem vW(u:Nat)(hu:u<18446744073709551616)(H:Heap)(Q:OR->Prop)(hQ:Q ⟨vA (Lib.bitLen u),H,H.n⟩):MCall Cx 145 [.lit (.int .u64 u)] H Q:=by
 refine pf (xs:=[.int .u64 u]) Tryz.func145 rfl (by decide) (fun w=>?_) hQ
 have h:=Any.bits_Len64 Tryz.lays129 u w (by omega) (by omega)
 rw[zpT] at h
 exact Calls.mono h fun e w' ⟨a,b⟩=>⟨a,by subst b;exact KG _ _⟩
theorem Ic(x:Nat)(hx:x<=64)(H:Heap)(Q:OR->Prop)(hQ:Q ⟨vA (Lib.l10 x),H,H.n⟩):MCall Cx 166 [vA x] H Q:=by
 refine pf (xs:=[.int .i64 x]) Tryz.func166 rfl (by decide) (fun w=>?_) hQ
 have h:=Any.internal_strconv_log10Pow2 Tryz.lays317 x hx w
 rw[zpQ] at h
 exact Calls.mono h fun e w' ⟨a,b⟩=>⟨a,by subst b;exact KG _ _⟩
theorem Jc(b:Bool)(H:Heap)(Q:OR->Prop)(hQ:Q ⟨vA (if b then 1 else 0),H,H.n⟩):MCall Cx 167 [.lit (.bool b)] H Q:=by
 refine pf (xs:=[.bool b]) Tryz.func167 rfl (by decide) (fun w=>?_) hQ
 have h:=Any.internal_strconv_bool2_int Tryz.lays318 b w
 rw[zpP] at h
 exact Calls.mono h fun e w' ⟨a,b⟩=>⟨a,by subst b;exact KG _ _⟩
theorem Ec(u:Nat)(h1:1<=u)(h2:u<18446744073709551616)(H:Heap)(Q:OR->Prop)(hQ:Q ⟨vA (YC u),H,H.n⟩):MCall Cx 149 [.lit (.int .u64 u)] H Q:=by
 obtain⟨hnd,h19⟩:=Lib.numDigits_eq u h1 h2
 have hL:Lib.bitLen u<=64:=Lib.bitLen_le u 64 (jA _) h2
 refine QA zm (fn:=Tryz.f149) Tryz.func149 rfl (by decide) (k:=15) rfl (rs:=[.tmp 2]) rfl ?_
 simp -dsimp only[go_sem,bA,aA,reduceCtorEq]
 refine oB ?_
 simp -dsimp only[go_sem,bA,aA,reduceCtorEq]
 refine vW u h2 _ _ ?_
 simp -dsimp only[go_sem]
 refine oB ?_
 simp -dsimp only[go_sem,bA,aA,reduceCtorEq]
 refine Ic _ hL _ _ ?_
 have hq:∀i,i<20->pow10V.drop (i*1)=.lit (.int .u64 ((10 ^ i:Nat):Int))::pow10V.drop (i+1):=fun i hi=>by
  rw[wB,List.drop_eq_getElem_cons (by simpa[pow10V] using hi)]
  simp[pow10V]
 generalize Lib.l10 (Lib.bitLen u)=q at hnd h19
 have hq':=hq q (by omega)
 have q20:q<20:=by omega
 generalize 10 ^ q=T at hnd hq'
 simp -dsimp only[go_sem,bA,aA,reduceCtorEq,q20,hq']
 refine oB ?_
 simp -dsimp only[go_sem,bA,aA,reduceCtorEq]
 refine Jc _ _ _ ?_
 simp -dsimp only[go_sem,bA,aA,reduceCtorEq,gA]
 by_cases hT:T<=u
 ·rw[if_pos hT] at hnd
  rw[if_pos (decide_eq_true hT),zw (by omega) (by omega),show((q:Int)+1)=((YC u:Nat):Int) by omega]
  exact AA (by omega) rfl hQ
 ·rw[if_neg hT] at hnd
  rw[if_neg (by simpa using hT),zw (by omega) (by omega),show((q:Int)+0)=((YC u:Nat):Int) by omega]
  exact AA (by omega) rfl hQ
end
section
open Go Go.Tw
open Classical
def gW(u k:Nat):UInt8:=GA (48+u / 10 ^ k % 10)
def xg:List UInt8:=(CB 100).flatMap fun i=>[GA (48+i / 10),GA (48+i % 10)]
theorem zi9:∀i:Fin 100,xg[2*i.val]?=some (GA (48+i.val / 10))/\xg[2*i.val+1]?=some (GA (48+i.val % 10)):=by decide+kernel
theorem sm_hi{x:Nat}(h:x<100):xg[x*2]?=some (GA (48+x / 10)):=by rw[Nat.mul_comm];exact(zi9 ⟨x,h⟩).1
theorem sm_lo{x:Nat}(h:x<100):xg[x*2+1]?=some (GA (48+x % 10)):=by rw[Nat.mul_comm];exact(zi9 ⟨x,h⟩).2
def Wrote(u nd m:Nat)(cs z:List UInt8):Prop:=cs.length=z.length/\m<=nd/\∀j,(m<=j->j<nd->cs[j]?=some (gW u (nd-1-j)))/\(nd<=j->cs[j]?=z[j]?)
theorem Wrote.one{u nd m:Nat}{cs z:List UInt8}(h:Wrote u nd (m+1) cs z)(hz:nd<=z.length)(c:UInt8)(hc:c=gW u (nd-1-m)):Wrote u nd m (cs.set m c) z:=by
 obtain⟨h1,h2,h3⟩:=h
 refine⟨by rw[qB,h1],by omega,fun j=>⟨fun a b=>?_,fun a=>?_⟩⟩
 ·rw[KD]
  by_cases e:m=j
  ·subst e
   rw[if_pos rfl,if_pos (by omega),hc]
  ·rw[if_neg e]
   exact(h3 j).1 (by omega) b
 ·rw[KD,if_neg (by omega)]
  exact(h3 j).2 a
theorem YM(u k i:Nat):gW u (k+i)=GA (48+u / 10 ^ k / 10 ^ i % 10):=by rw[gW,AG,BE]
theorem BY(u:Nat):VB u=(CB (YC u)).map fun j=>gW u (YC u-1-j):=by
 induction u using Nat.strongRecOn with
 | _ u ih=>
  by_cases h:u<10
  ·rw[znN _ h,Lib.nDigits_small h]
   simp[gW,kC h,KF]
  ·rw[znM _ h,Lib.nDigits_big h,ih (u / 10) (by omega),KF,QC]
   congr 1
   ·refine List.map_congr_left fun j hj=>?_
    rw[List.mem_range] at hj
    have e:YC (u / 10)+1-1-j=1+(YC (u / 10)-1-j):=by omega
    rw[e,YM,gW,Nat.pow_one]
   ·simp[gW]
theorem zoX{u:Nat}{cs z:List UInt8}(h:Wrote u (YC u) 0 cs z)(hz:YC u<=z.length):cs=VB u++z.drop (YC u):=by
 obtain⟨h1,h2,h3⟩:=h
 have hl:=XE u
 refine List.ext_getElem? fun j=>?_
 rcases Nat.lt_or_ge j (YC u) with g|g
 ·rw[(h3 j).1 (KB _) g,List.getElem?_append_left (by omega),BY,uB,List.getElem?_range g]
  rfl
 ·rw[(h3 j).2 g,List.getElem?_append_right (by omega),List.getElem?_drop,hl]
  congr 1
  omega
theorem oN{cs:List UInt8}{i:Nat}(h:i<cs.length)(c:UInt8):zD (row zT cs) i [PE c]=some (row zT (cs.set i c)):=by
 have e1:row zT cs=(cs.take i).map PE++[PE cs[i]]++(cs.drop (i+1)).map PE:=by
  rw[SL,<-KJ (f:=PE),<-QC,<-QC]
  congr 1
  rw[XA,PG,List.getElem_cons_drop,List.take_append_drop]
 have e2:row zT (cs.set i c)=(cs.take i).map PE++[PE c]++(cs.drop (i+1)).map PE:=by
  rw[SL,<-KJ (f:=PE),<-QC,<-QC]
  congr 1
  rw[XA,PG,OC,if_pos h]
 rw[e1,e2]
 exact eN _ _ _ _ (by simp;omega) rfl
theorem qf{n:Nat}(h:n<4294967296):IntKind.u32.wrap (n:Int)=(n:Int):=by
 simp only[tC,GC,xC]
 simp
 omega
theorem zkI:(([48,48,48,49,48,50,48,51,48,52,48,53,48,54,48,55,48,56,48,57,49,48,49,49,49,50,49,51,49,52,49,53,49,54,49,55,49,56,49,57,50,48,50,49,50,50,50,51,50,52].append [50,53,50,54,50,55,50,56,50,57,51,48,51,49,51,50,51,51,51,52,51,53,51,54,51,55,51,56,51,57,52,48,52,49,52,50,52,51,52,52,52,53,52,54,52,55,52,56,52,57]).append ([53,48,53,49,53,50,53,51,53,52,53,53,53,54,53,55,53,56,53,57,54,48,54,49,54,50,54,51,54,52,54,53,54,54,54,55,54,56,54,57,55,48,55,49,55,50,55,51,55,52].append [55,53,55,54,55,55,55,56,55,57,56,48,56,49,56,50,56,51,56,52,56,53,56,54,56,55,56,56,56,57,57,48,57,49,57,50,57,51,57,52,57,53,57,54,57,55,57,56,57,57]):List UInt8)=xg:=by kernel_rfl
theorem kN{x:Nat}(h:x<100):(([48,48,48,49,48,50,48,51,48,52,48,53,48,54,48,55,48,56,48,57,49,48,49,49,49,50,49,51,49,52,49,53,49,54,49,55,49,56,49,57,50,48,50,49,50,50,50,51,50,52].append [50,53,50,54,50,55,50,56,50,57,51,48,51,49,51,50,51,51,51,52,51,53,51,54,51,55,51,56,51,57,52,48,52,49,52,50,52,51,52,52,52,53,52,54,52,55,52,56,52,57]).append ([53,48,53,49,53,50,53,51,53,52,53,53,53,54,53,55,53,56,53,57,54,48,54,49,54,50,54,51,54,52,54,53,54,54,54,55,54,56,54,57,55,48,55,49,55,50,55,51,55,52].append [55,53,55,54,55,55,55,56,55,57,56,48,56,49,56,50,56,51,56,52,56,53,56,54,56,55,56,56,56,57,57,48,57,49,57,50,57,51,57,52,57,53,57,54,57,55,57,56,57,57]):List UInt8)[x*2+1]?=some (GA (48+x % 10)):=by rw[zkI,sm_lo h]
theorem jN{x:Nat}(h:x<100):(([48,48,48,49,48,50,48,51,48,52,48,53,48,54,48,55,48,56,48,57,49,48,49,49,49,50,49,51,49,52,49,53,49,54,49,55,49,56,49,57,50,48,50,49,50,50,50,51,50,52].append [50,53,50,54,50,55,50,56,50,57,51,48,51,49,51,50,51,51,51,52,51,53,51,54,51,55,51,56,51,57,52,48,52,49,52,50,52,51,52,52,52,53,52,54,52,55,52,56,52,57]).append ([53,48,53,49,53,50,53,51,53,52,53,53,53,54,53,55,53,56,53,57,54,48,54,49,54,50,54,51,54,52,54,53,54,54,54,55,54,56,54,57,55,48,55,49,55,50,55,51,55,52].append [55,53,55,54,55,55,55,56,55,57,56,48,56,49,56,50,56,51,56,52,56,53,56,54,56,55,56,56,56,57,57,48,57,49,57,50,57,51,57,52,57,53,57,54,57,55,57,56,57,57]):List UInt8)[x*2]?=some (GA (48+x / 10)):=by rw[zkI,sm_hi h]
theorem OO.keepS{o:Option (List V)}{cs:List V}{f:List V->OR}{K:OR->Prop}{h:Hid K}(e:o=some cs)(k:K (f cs)):OO (o.bind fun c=>some (f c)) K h:=rB (by rw[e];rfl) k
theorem fR(k:IntKind)(t:TypeId)(a b:Nat)(hb:b≠0):jE fA .rem t (.lit (.int k a)) (.lit (.int k b))=some (.lit (.int k ((a % b:Nat):Int))):=by
 rw[J3 _ _ _ _ _ (by omega),<-oF]
theorem TN(t:TypeId)(a b:Nat)(hb:b≠0)(ha:a<4294967296):jE fA .quo t (.lit (.int .u32 a)) (.lit (.int .u32 b))=some (.lit (.int .u32 ((a / b:Nat):Int))):=by
 rw[nV _ _ _ _ _ (by omega),<-IE,qf (MH (MI ..) ha)]
theorem qe(t:TypeId)(a b:Nat)(hb:b≠0)(ha:a<18446744073709551616):jE fA .quo t (.lit (.int .u64 a)) (.lit (.int .u64 b))=some (.lit (.int .u64 ((a / b:Nat):Int))):=by
 rw[nV _ _ _ _ _ (by omega),<-IE,T6,kC (MH (MI ..) ha)]
theorem yW{a b:Nat}(h:a*b<4294967296):IntKind.u32.wrap ((a:Int)*(b:Int))=((a*b:Nat):Int):=by rw[<-Int.natCast_mul,qf h]
theorem mP{a b:Nat}(h:a+b<4294967296):IntKind.u32.wrap ((a:Int)+(b:Int))=((a+b:Nat):Int):=by rw[<-cH,qf h]
theorem Fc(u nd:Nat)(hu:u<18446744073709551616)(hnd:nd<=20)(hlt:u<10 ^ nd)(z:List UInt8)(hz:nd<=z.length)(b cap:Nat)(tag:Option Nat)(e:TypeId)(H:Heap)(hb:H.get b=some (.cells (row zT z) e))(Q:OR->Prop)(hQ:∀X cs lo,X.n=H.n->X.get b=some (.cells (row zT cs) e)->(∀j,j≠b->X.get j=H.get j)->Wrote u nd 0 cs z->min b H.n<=lo->Q ⟨.tup [],X,lo⟩):
  MCall Cx 150 [.sl b 0 nd cap tag,.lit (.int .u64 u)] H Q:=by
 refine mB (fn:=Tryz.f150) Tryz.func150 rfl (by decide) (k:=167) rfl (rs:=[]) rfl ?_
 have hbn:=zq hb
 have hmb:min b H.n=b:=by omega
 rw[hmb] at hQ
 clear hmb
 refine PA zm ?_
 simp -dsimp only[go_sem,bA,aA,cA,reduceCtorEq,gA]
 refine DC zm (ι:=Nat×List UInt8×Heap) (fun p=>[(0,.sl b 0 nd cap tag),(1,.lit (.int .u64 ((u / 10 ^ (nd-p.1):Nat):Int))),(4,vA p.1)]) (fun p=>p.2.2) (fun _=>b) (fun p=>p.1<8/\Wrote u nd p.1 p.2.1 z/\p.2.2.n=H.n/\p.2.2.get b=some (.cells (row zT p.2.1) e)/\∀j,j≠b->p.2.2.get j=H.get j) ?_ ?_
 ·simp -dsimp only[go_sem]
  refine dD (ι:=Nat×List UInt8×Heap) (fun p=>[(0,.sl b 0 nd cap tag),(1,.lit (.int .u64 ((u / 10 ^ (nd-p.1):Nat):Int))),(4,vA p.1)]) (fun p=>p.2.2) (fun _=>b)
   (fun p=>Wrote u nd p.1 p.2.1 z/\p.2.2.n=H.n/\p.2.2.get b=some (.cells (row zT p.2.1) e)/\∀j,j≠b->p.2.2.get j=H.get j) (fun p=>p.1) (nd,z,H) ⟨⟨rfl,jA _,fun j=>⟨fun h1 h2=>by omega,fun _=>rfl⟩⟩,rfl,hb,fun _ _=>rfl⟩ ?_ ?_
  ·dsimp only
   rw[Nat.sub_self,wH,Nat.div_one]
   refine(MB (lo2:=b) (by omega)).trans (RB _ zSl)
  rintro⟨m,cs,X⟩ ⟨hw,xn,xb,xo⟩
  simp only at hw xn xb xo ⊢
  obtain⟨v,hv⟩:∃v,u / 10 ^ (nd-m)=v:=⟨_,rfl⟩
  rw[hv]
  have hvu:v<18446744073709551616:=by rw[<-hv];exact MH (MI ..) hu
  have hm:=hw.2.1
  have hcl:=hw.1
  refine PA zm ?_
  simp -dsimp only[go_sem,bA,aA,reduceCtorEq,zf,zh]
  refine aB (fun h=>?_) (fun h=>?_)<;>simp -dsimp only[go_sem,aA,reduceCtorEq,h]
  ·refine MD ?_
   refine PA zm ?_
   have r1:jE fA .rem 29 (.lit (.int .u64 v)) (.lit (.int .u64 100000000))=some (.lit (.int .u64 ((v % 100000000:Nat):Int))):=fR .u64 _ v 100000000 (by omega)
   have w1:=qf (n:=v % 100000000) (by omega)
   simp -dsimp only[go_sem,bA,aA,reduceCtorEq,r1,w1]
   have r2:jE fA .quo 29 (.lit (.int .u64 v)) (.lit (.int .u64 100000000))=some (.lit (.int .u64 ((v / 100000000:Nat):Int))):=qe _ v 100000000 (by omega) hvu
   have hx8:v % 100000000<100000000:=NH _ (by omega)
   obtain⟨x,hx⟩:∃x,v % 100000000=x:=⟨_,rfl⟩
   rw[hx] at hx8 ⊢
   refine PA zm ?_
   simp -dsimp only[go_sem,bA,aA,reduceCtorEq,r2]
   have r3:jE fA .quo 124 (.lit (.int .u32 x)) (.lit (.int .u32 10000))=some (.lit (.int .u32 ((x / 10000:Nat):Int))):=TN _ x 10000 (by omega) (by omega)
   have r4:jE fA .rem 124 (.lit (.int .u32 x)) (.lit (.int .u32 10000))=some (.lit (.int .u32 ((x % 10000:Nat):Int))):=fR .u32 _ x 10000 (by omega)
   refine WB b [(0,.sl b 0 nd cap tag),(1,.lit (.int .u64 ((v / 100000000:Nat):Int))),(4,vA m),(5,.lit (.int .u32 (x:Int)))] (by omega) zSl ?_
   refine PA zm ?_
   simp -dsimp only[go_sem,bA,aA,reduceCtorEq,zf,zh,r3,r4]
   obtain⟨y,hy⟩:∃y,x % 10000=y:=⟨_,rfl⟩
   obtain⟨w,hw'⟩:∃w,x / 10000=w:=⟨_,rfl⟩
   have hy4:y<10000:=by omega
   have hw4:w<10000:=by omega
   rw[hy,hw']
   refine WB b [(0,.sl b 0 nd cap tag),(1,.lit (.int .u64 ((v / 100000000:Nat):Int))),(4,vA m),(6,.lit (.int .u32 (w:Int))),(7,.lit (.int .u32 (y:Int)))] (by omega) zSl ?_
   have r5:∀y:Nat,y<10000->jE fA .quo 124 (.lit (.int .u32 y)) (.lit (.int .u32 100))=some (.lit (.int .u32 ((y / 100:Nat):Int))):=fun y h=>TN _ y 100 (by omega) (by omega)
   have r6:∀y:Nat,jE fA .rem 124 (.lit (.int .u32 y)) (.lit (.int .u32 100))=some (.lit (.int .u32 ((y % 100:Nat):Int))):=fun y=>fR .u32 _ y 100 (by omega)
   have r7:∀y:Nat,y<100->IntKind.u32.wrap ((y:Int)*2)=((y*2:Nat):Int):=fun y h=>yW (b:=2) (by omega)
   refine PA zm ?_
   simp -dsimp only[go_sem,bA,aA,reduceCtorEq,zf,zh,r5 y hy4,r6 y,r7 (y / 100) (by omega),r7 (y % 100) (by omega)]
   refine WB b [(0,.sl b 0 nd cap tag),(1,.lit (.int .u64 ((v / 100000000:Nat):Int))),(4,vA m),(6,.lit (.int .u32 (w:Int))),(8,.lit (.int .u32 ((y / 100*2:Nat):Int))),(9,.lit (.int .u32 ((y % 100*2:Nat):Int)))] (by omega) zSl ?_
   refine PA zm ?_
   simp -dsimp only[go_sem,bA,aA,reduceCtorEq,zf,zh,r5 w hw4,r6 w,r7 (w / 100) (by omega),r7 (w % 100) (by omega)]
   refine WB b [(0,.sl b 0 nd cap tag),(1,.lit (.int .u64 ((v / 100000000:Nat):Int))),(4,vA m),(8,.lit (.int .u32 ((y / 100*2:Nat):Int))),(9,.lit (.int .u32 ((y % 100*2:Nat):Int))),(10,.lit (.int .u32 ((w / 100*2:Nat):Int))),(11,.lit (.int .u32 ((w % 100*2:Nat):Int)))] (by omega) zSl ?_
   have r8:∀y:Nat,y<100->IntKind.u32.wrap (((y*2:Nat):Int)+1)=((y*2+1:Nat):Int):=fun y h=>mP (b:=1) (by omega)
   have hm8:8<=m:=by omega
   clear r1 r2 r3 r4 r5 r6 r7 w1
   have hw0:Wrote u nd (m-0) cs z:=hw
   have j1a:IntKind.i64.wrap ((m:Int)-1)=((m-1:Nat):Int):=by rw[zw (by omega) (by omega)];omega
   have j2a:IntKind.i64.wrap ((m:Int)-2)=((m-2:Nat):Int):=by rw[zw (by omega) (by omega)];omega
   have p1a:m-1<nd:=by omega
   have p2a:m-2<nd:=by omega
   have hx100a:y % 100<100:=by omega
   refine PA zm ?_
   simp -dsimp only[go_sem,zf,zh]
   refine DR.wr _ xA [] (by kernel_rfl) (by kernel_rfl) ?_
   simp -dsimp only[go_sem,bA,aA,reduceCtorEq,r8 (y % 100) hx100a,kN hx100a,jN hx100a,j1a,j2a,p1a,p2a,xb,bB,wB,oN (cs:=cs) (i:=m-1) (by have:=hw0.1;omega),hbn,xn]
   refine OO.keepS (oN (cs:=cs.set (m-1) (GA (48+y % 100 % 10))) (i:=m-2) (by have:=hw0.1;rw[qB];omega) (GA (48+y % 100 / 10))) ?_
   simp -dsimp only[go_sem,aA,reduceCtorEq]
   have w1a:Wrote u nd (m-1) (cs.set (m-1) (GA (48+y % 100 % 10))) z:=Wrote.one (by rw[show m-1+1=m-0 by omega];exact hw0) hz _ (by
    rw[show nd-1-(m-1)=nd-m+0 by omega,YM,hv]
    congr 2
    simp only[wH]
    omega)
   have w2a:Wrote u nd (m-2) ((cs.set (m-1) (GA (48+y % 100 % 10))).set (m-2) (GA (48+y % 100 / 10))) z:=Wrote.one (by rw[show m-2+1=m-1 by omega];exact w1a) hz _ (by
    rw[show nd-1-(m-2)=nd-m+1 by omega,YM,hv]
    congr 2
    simp only[XD]
    omega)
   generalize hXa:(X.set b (.cells (row zT (cs.set (m-1) (GA (48+y % 100 % 10)))) e)).set b (.cells (row zT ((cs.set (m-1) (GA (48+y % 100 % 10))).set (m-2) (GA (48+y % 100 / 10)))) e)=Xa
   generalize hcsa:(cs.set (m-1) (GA (48+y % 100 % 10))).set (m-2) (GA (48+y % 100 / 10))=csa at hXa w2a
   have xna:Xa.n=H.n:=by rw[<-hXa,kA,kA,xn]
   have xba:Xa.get b=some (.cells (row zT csa) e):=by rw[<-hXa,dA,if_pos ⟨rfl,by rw[kA,xn];exact hbn⟩]
   have xoa:∀j,j≠b->Xa.get j=H.get j:=fun j hj=>by rw[<-hXa,dA,if_neg (fun h=>absurd h.1 (by omega)),dA,if_neg (fun h=>absurd h.1 (by omega)),xo j hj]
   clear hXa w1a hcsa
   refine WB b [(0,.sl b 0 nd cap tag),(1,.lit (.int .u64 ((v / 100000000:Nat):Int))),(4,vA m),(8,.lit (.int .u32 ((y / 100*2:Nat):Int))),(10,.lit (.int .u32 ((w / 100*2:Nat):Int))),(11,.lit (.int .u32 ((w % 100*2:Nat):Int)))] (by omega) zSl ?_
   have j3b:IntKind.i64.wrap ((m:Int)-3)=((m-3:Nat):Int):=by rw[zw (by omega) (by omega)];omega
   have j4b:IntKind.i64.wrap ((m:Int)-4)=((m-4:Nat):Int):=by rw[zw (by omega) (by omega)];omega
   have p3b:m-3<nd:=by omega
   have p4b:m-4<nd:=by omega
   have hx100b:y / 100<100:=by omega
   refine PA zm ?_
   simp -dsimp only[go_sem,zf,zh]
   refine DR.wr _ xA [] (by kernel_rfl) (by kernel_rfl) ?_
   simp -dsimp only[go_sem,bA,aA,reduceCtorEq,r8 (y / 100) hx100b,kN hx100b,jN hx100b,j3b,j4b,p3b,p4b,xba,bB,wB,oN (cs:=csa) (i:=m-3) (by have:=w2a.1;omega),hbn,xna]
   refine OO.keepS (oN (cs:=csa.set (m-3) (GA (48+y / 100 % 10))) (i:=m-4) (by have:=w2a.1;rw[qB];omega) (GA (48+y / 100 / 10))) ?_
   simp -dsimp only[go_sem,aA,reduceCtorEq]
   have w1b:Wrote u nd (m-3) (csa.set (m-3) (GA (48+y / 100 % 10))) z:=Wrote.one (by rw[show m-3+1=m-2 by omega];exact w2a) hz _ (by
    rw[show nd-1-(m-3)=nd-m+2 by omega,YM,hv]
    congr 2
    simp only[XD]
    omega)
   have w2b:Wrote u nd (m-4) ((csa.set (m-3) (GA (48+y / 100 % 10))).set (m-4) (GA (48+y / 100 / 10))) z:=Wrote.one (by rw[show m-4+1=m-3 by omega];exact w1b) hz _ (by
    rw[show nd-1-(m-4)=nd-m+3 by omega,YM,hv]
    congr 2
    simp only[XD]
    omega)
   generalize hXb:(Xa.set b (.cells (row zT (csa.set (m-3) (GA (48+y / 100 % 10)))) e)).set b (.cells (row zT ((csa.set (m-3) (GA (48+y / 100 % 10))).set (m-4) (GA (48+y / 100 / 10)))) e)=Xb
   generalize hcsb:(csa.set (m-3) (GA (48+y / 100 % 10))).set (m-4) (GA (48+y / 100 / 10))=csb at hXb w2b
   have xnb:Xb.n=H.n:=by rw[<-hXb,kA,kA,xna]
   have xbb:Xb.get b=some (.cells (row zT csb) e):=by rw[<-hXb,dA,if_pos ⟨rfl,by rw[kA,xna];exact hbn⟩]
   have xob:∀j,j≠b->Xb.get j=H.get j:=fun j hj=>by rw[<-hXb,dA,if_neg (fun h=>absurd h.1 (by omega)),dA,if_neg (fun h=>absurd h.1 (by omega)),xoa j hj]
   clear hXb w1b hcsb
   refine WB b [(0,.sl b 0 nd cap tag),(1,.lit (.int .u64 ((v / 100000000:Nat):Int))),(4,vA m),(10,.lit (.int .u32 ((w / 100*2:Nat):Int))),(11,.lit (.int .u32 ((w % 100*2:Nat):Int)))] (by omega) zSl ?_
   have j5c:IntKind.i64.wrap ((m:Int)-5)=((m-5:Nat):Int):=by rw[zw (by omega) (by omega)];omega
   have j6c:IntKind.i64.wrap ((m:Int)-6)=((m-6:Nat):Int):=by rw[zw (by omega) (by omega)];omega
   have p5c:m-5<nd:=by omega
   have p6c:m-6<nd:=by omega
   have hx100c:w % 100<100:=by omega
   refine PA zm ?_
   simp -dsimp only[go_sem,zf,zh]
   refine DR.wr _ xA [] (by kernel_rfl) (by kernel_rfl) ?_
   simp -dsimp only[go_sem,bA,aA,reduceCtorEq,r8 (w % 100) hx100c,kN hx100c,jN hx100c,j5c,j6c,p5c,p6c,xbb,bB,wB,oN (cs:=csb) (i:=m-5) (by have:=w2b.1;omega),hbn,xnb]
   refine OO.keepS (oN (cs:=csb.set (m-5) (GA (48+w % 100 % 10))) (i:=m-6) (by have:=w2b.1;rw[qB];omega) (GA (48+w % 100 / 10))) ?_
   simp -dsimp only[go_sem,aA,reduceCtorEq]
   have w1c:Wrote u nd (m-5) (csb.set (m-5) (GA (48+w % 100 % 10))) z:=Wrote.one (by rw[show m-5+1=m-4 by omega];exact w2b) hz _ (by
    rw[show nd-1-(m-5)=nd-m+4 by omega,YM,hv]
    congr 2
    simp only[XD]
    omega)
   have w2c:Wrote u nd (m-6) ((csb.set (m-5) (GA (48+w % 100 % 10))).set (m-6) (GA (48+w % 100 / 10))) z:=Wrote.one (by rw[show m-6+1=m-5 by omega];exact w1c) hz _ (by
    rw[show nd-1-(m-6)=nd-m+5 by omega,YM,hv]
    congr 2
    simp only[XD]
    omega)
   generalize hXc:(Xb.set b (.cells (row zT (csb.set (m-5) (GA (48+w % 100 % 10)))) e)).set b (.cells (row zT ((csb.set (m-5) (GA (48+w % 100 % 10))).set (m-6) (GA (48+w % 100 / 10)))) e)=Xc
   generalize hcsc:(csb.set (m-5) (GA (48+w % 100 % 10))).set (m-6) (GA (48+w % 100 / 10))=csc at hXc w2c
   have xnc:Xc.n=H.n:=by rw[<-hXc,kA,kA,xnb]
   have xbc:Xc.get b=some (.cells (row zT csc) e):=by rw[<-hXc,dA,if_pos ⟨rfl,by rw[kA,xnb];exact hbn⟩]
   have xoc:∀j,j≠b->Xc.get j=H.get j:=fun j hj=>by rw[<-hXc,dA,if_neg (fun h=>absurd h.1 (by omega)),dA,if_neg (fun h=>absurd h.1 (by omega)),xob j hj]
   clear hXc w1c hcsc
   refine WB b [(0,.sl b 0 nd cap tag),(1,.lit (.int .u64 ((v / 100000000:Nat):Int))),(4,vA m),(10,.lit (.int .u32 ((w / 100*2:Nat):Int)))] (by omega) zSl ?_
   have j7d:IntKind.i64.wrap ((m:Int)-7)=((m-7:Nat):Int):=by rw[zw (by omega) (by omega)];omega
   have j8d:IntKind.i64.wrap ((m:Int)-8)=((m-8:Nat):Int):=by rw[zw (by omega) (by omega)];omega
   have p7d:m-7<nd:=by omega
   have p8d:m-8<nd:=by omega
   have hx100d:w / 100<100:=by omega
   refine PA zm ?_
   simp -dsimp only[go_sem,zf,zh]
   refine DR.wr _ xA [] (by kernel_rfl) (by kernel_rfl) ?_
   simp -dsimp only[go_sem,bA,aA,reduceCtorEq,r8 (w / 100) hx100d,kN hx100d,jN hx100d,j7d,j8d,p7d,p8d,xbc,bB,wB,oN (cs:=csc) (i:=m-7) (by have:=w2c.1;omega),hbn,xnc]
   refine OO.keepS (oN (cs:=csc.set (m-7) (GA (48+w / 100 % 10))) (i:=m-8) (by have:=w2c.1;rw[qB];omega) (GA (48+w / 100 / 10))) ?_
   simp -dsimp only[go_sem,aA,reduceCtorEq]
   have w1d:Wrote u nd (m-7) (csc.set (m-7) (GA (48+w / 100 % 10))) z:=Wrote.one (by rw[show m-7+1=m-6 by omega];exact w2c) hz _ (by
    rw[show nd-1-(m-7)=nd-m+6 by omega,YM,hv]
    congr 2
    simp only[XD]
    omega)
   have w2d:Wrote u nd (m-8) ((csc.set (m-7) (GA (48+w / 100 % 10))).set (m-8) (GA (48+w / 100 / 10))) z:=Wrote.one (by rw[show m-8+1=m-7 by omega];exact w1d) hz _ (by
    rw[show nd-1-(m-8)=nd-m+7 by omega,YM,hv]
    congr 2
    simp only[XD]
    omega)
   generalize hXd:(Xc.set b (.cells (row zT (csc.set (m-7) (GA (48+w / 100 % 10)))) e)).set b (.cells (row zT ((csc.set (m-7) (GA (48+w / 100 % 10))).set (m-8) (GA (48+w / 100 / 10)))) e)=Xd
   generalize hcsd:(csc.set (m-7) (GA (48+w / 100 % 10))).set (m-8) (GA (48+w / 100 / 10))=csd at hXd w2d
   have xnd:Xd.n=H.n:=by rw[<-hXd,kA,kA,xnc]
   have xbd:Xd.get b=some (.cells (row zT csd) e):=by rw[<-hXd,dA,if_pos ⟨rfl,by rw[kA,xnc];exact hbn⟩]
   have xod:∀j,j≠b->Xd.get j=H.get j:=fun j hj=>by rw[<-hXd,dA,if_neg (fun h=>absurd h.1 (by omega)),dA,if_neg (fun h=>absurd h.1 (by omega)),xoc j hj]
   clear hXd w1d hcsd
   refine WB b [(0,.sl b 0 nd cap tag),(1,.lit (.int .u64 ((v / 100000000:Nat):Int))),(4,vA m)] (by omega) zSl ?_
   have j8:IntKind.i64.wrap ((m:Int)-8)=((m-8:Nat):Int):=by rw[zw (by omega) (by omega)];omega
   have ev:v / 100000000=u / 10 ^ (nd-(m-8)):=by
    rw[<-hv,BE,show nd-(m-8)=nd-m+8 by omega,AG]
   refine LB zm ?_
   simp -dsimp only[go_sem,bA,aA,reduceCtorEq,zf,zh,j8]
   refine AC (m-8,csd,Xd) ⟨w2d,xnd,xbd,xod⟩ (by dsimp only;omega) ?_ rfl ?_
   ·dsimp only
    rw[<-ev]
    (focus (simp -dsimp only[go_sem,aA,reduceCtorEq,OA,JA,false_implies,implies_true]<;>(try simp (disch:=omega) only[zw,xJ,vK,AK])<;>(try simp)<;>(try omega)))
   ·show b<=_
    omega
  ·refine AC (some (m,cs,X)) ⟨by dsimp only;omega,hw,xn,xb,xo⟩ BC ?_ rfl ?_
   ·dsimp only
    rw[hv]
    (focus (simp -dsimp only[go_sem,aA,reduceCtorEq,OA,JA,false_implies,implies_true]<;>(try simp (disch:=omega) only[zw,xJ,vK,AK])<;>(try simp)<;>(try omega)))
   ·show b<=_
    omega
 rintro⟨m,cs,X⟩ ⟨hm8,hw,xn,xb,xo⟩
 dsimp only at hm8 hw xn xb xo ⊢
 have hm:=hw.2.1
 have hvm:u / 10 ^ (nd-m)<10 ^ m:=XG (by rw[<-AG,show nd-m+m=nd by omega];exact hlt)
 have hv7:u / 10 ^ (nd-m)<10 ^ 7:=vB hvm (YG (by omega) (by omega))
 have w32:=qf (n:=u / 10 ^ (nd-m)) (Nat.lt_trans hv7 (by decide))
 have r5:∀y:Nat,y<100000000->jE fA .quo 124 (.lit (.int .u32 y)) (.lit (.int .u32 100))=some (.lit (.int .u32 ((y / 100:Nat):Int))):=fun y h=>TN _ y 100 (by omega) (by omega)
 have r6:∀y:Nat,jE fA .rem 124 (.lit (.int .u32 y)) (.lit (.int .u32 100))=some (.lit (.int .u32 ((y % 100:Nat):Int))):=fun y=>fR .u32 _ y 100 (by omega)
 have r7:∀y:Nat,y<100->IntKind.u32.wrap ((y:Int)*2)=((y*2:Nat):Int):=fun y h=>yW (b:=2) (by omega)
 have r8:∀y:Nat,y<100->IntKind.u32.wrap (((y*2:Nat):Int)+1)=((y*2+1:Nat):Int):=fun y h=>mP (b:=1) (by omega)
 refine PA zm ?_
 simp -dsimp only[go_sem,bA,aA,reduceCtorEq,zf,zh,w32]
 clear w32
 refine WB b [(0,.sl b 0 nd cap tag),(4,vA m),(12,.lit (.int .u32 ((u / 10 ^ (nd-m):Nat):Int)))] (by omega) zSl ?_
 refine DC zm (ι:=Nat×List UInt8×Heap) (fun p=>[(0,.sl b 0 nd cap tag),(4,vA p.1),(12,.lit (.int .u32 ((u / 10 ^ (nd-p.1):Nat):Int)))]) (fun p=>p.2.2) (fun _=>b) (fun p=>p.1<4/\Wrote u nd p.1 p.2.1 z/\p.2.2.n=H.n/\p.2.2.get b=some (.cells (row zT p.2.1) e)/\∀j,j≠b->p.2.2.get j=H.get j) ?_ ?_
 ·obtain⟨v,hv⟩:∃v,u / 10 ^ (nd-m)=v:=⟨_,rfl⟩
  rw[hv] at hvm hv7 ⊢
  have hv8:v<10000000:=hv7
  have r3:jE fA .quo 124 (.lit (.int .u32 v)) (.lit (.int .u32 10000))=some (.lit (.int .u32 ((v / 10000:Nat):Int))):=TN _ v 10000 (by omega) (by omega)
  have r4:jE fA .rem 124 (.lit (.int .u32 v)) (.lit (.int .u32 10000))=some (.lit (.int .u32 ((v % 10000:Nat):Int))):=fR .u32 _ v 10000 (by omega)
  simp -dsimp only[go_sem,bA,aA,reduceCtorEq,zf,zh]
  refine aB (fun h=>?_) (fun h=>?_)<;>simp -dsimp only[go_sem,bA,aA,reduceCtorEq,h,r4,r3,r5 (v % 10000) (by omega),r6 (v % 10000),r7 (v % 10000 / 100) (by omega),r7 (v % 10000 % 100) (by omega)]
  ·have hm4:4<=m:=by omega
   have j9:IntKind.i64.wrap ((m:Int)-4)=((m-4:Nat):Int):=by rw[zw (by omega) (by omega)];omega
   have hw0:Wrote u nd (m-0) cs z:=hw
   have j1a:IntKind.i64.wrap ((m:Int)-1)=((m-1:Nat):Int):=by rw[zw (by omega) (by omega)];omega
   have j2a:IntKind.i64.wrap ((m:Int)-2)=((m-2:Nat):Int):=by rw[zw (by omega) (by omega)];omega
   have p1a:m-1<nd:=by omega
   have p2a:m-2<nd:=by omega
   have hx100a:v % 10000 % 100<100:=by omega
   refine DR.wr _ xA [] (by kernel_rfl) (by kernel_rfl) ?_
   simp -dsimp only[go_sem,bA,aA,reduceCtorEq,r8 (v % 10000 % 100) hx100a,kN hx100a,jN hx100a,j1a,j2a,p1a,p2a,xb,bB,wB,oN (cs:=cs) (i:=m-1) (by have:=hw0.1;omega),hbn,xn]
   refine OO.keepS (oN (cs:=cs.set (m-1) (GA (48+v % 10000 % 100 % 10))) (i:=m-2) (by have:=hw0.1;rw[qB];omega) (GA (48+v % 10000 % 100 / 10))) ?_
   simp -dsimp only[go_sem,aA,reduceCtorEq]
   have w1a:Wrote u nd (m-1) (cs.set (m-1) (GA (48+v % 10000 % 100 % 10))) z:=Wrote.one (by rw[show m-1+1=m-0 by omega];exact hw0) hz _ (by
    rw[show nd-1-(m-1)=nd-m+0 by omega,YM,hv]
    congr 2
    simp only[wH]
    omega)
   have w2a:Wrote u nd (m-2) ((cs.set (m-1) (GA (48+v % 10000 % 100 % 10))).set (m-2) (GA (48+v % 10000 % 100 / 10))) z:=Wrote.one (by rw[show m-2+1=m-1 by omega];exact w1a) hz _ (by
    rw[show nd-1-(m-2)=nd-m+1 by omega,YM,hv]
    congr 2
    simp only[XD]
    omega)
   generalize hXa:(X.set b (.cells (row zT (cs.set (m-1) (GA (48+v % 10000 % 100 % 10)))) e)).set b (.cells (row zT ((cs.set (m-1) (GA (48+v % 10000 % 100 % 10))).set (m-2) (GA (48+v % 10000 % 100 / 10)))) e)=Xa
   generalize hcsa:(cs.set (m-1) (GA (48+v % 10000 % 100 % 10))).set (m-2) (GA (48+v % 10000 % 100 / 10))=csa at hXa w2a
   have xna:Xa.n=H.n:=by rw[<-hXa,kA,kA,xn]
   have xba:Xa.get b=some (.cells (row zT csa) e):=by rw[<-hXa,dA,if_pos ⟨rfl,by rw[kA,xn];exact hbn⟩]
   have xoa:∀j,j≠b->Xa.get j=H.get j:=fun j hj=>by rw[<-hXa,dA,if_neg (fun h=>absurd h.1 (by omega)),dA,if_neg (fun h=>absurd h.1 (by omega)),xo j hj]
   clear hXa w1a hcsa
   have j3b:IntKind.i64.wrap ((m:Int)-3)=((m-3:Nat):Int):=by rw[zw (by omega) (by omega)];omega
   have j4b:IntKind.i64.wrap ((m:Int)-4)=((m-4:Nat):Int):=by rw[zw (by omega) (by omega)];omega
   have p3b:m-3<nd:=by omega
   have p4b:m-4<nd:=by omega
   have hx100b:v % 10000 / 100<100:=by omega
   refine DR.wr _ xA [] (by kernel_rfl) (by kernel_rfl) ?_
   simp -dsimp only[go_sem,bA,aA,reduceCtorEq,r8 (v % 10000 / 100) hx100b,kN hx100b,jN hx100b,j3b,j4b,p3b,p4b,xba,bB,wB,oN (cs:=csa) (i:=m-3) (by have:=w2a.1;omega),hbn,xna]
   refine OO.keepS (oN (cs:=csa.set (m-3) (GA (48+v % 10000 / 100 % 10))) (i:=m-4) (by have:=w2a.1;rw[qB];omega) (GA (48+v % 10000 / 100 / 10))) ?_
   simp -dsimp only[go_sem,bA,aA,reduceCtorEq,j9]
   have w1b:Wrote u nd (m-3) (csa.set (m-3) (GA (48+v % 10000 / 100 % 10))) z:=Wrote.one (by rw[show m-3+1=m-2 by omega];exact w2a) hz _ (by
    rw[show nd-1-(m-3)=nd-m+2 by omega,YM,hv]
    congr 2
    simp only[XD]
    omega)
   have w2b:Wrote u nd (m-4) ((csa.set (m-3) (GA (48+v % 10000 / 100 % 10))).set (m-4) (GA (48+v % 10000 / 100 / 10))) z:=Wrote.one (by rw[show m-4+1=m-3 by omega];exact w1b) hz _ (by
    rw[show nd-1-(m-4)=nd-m+3 by omega,YM,hv]
    congr 2
    simp only[XD]
    omega)
   generalize hXb:(Xa.set b (.cells (row zT (csa.set (m-3) (GA (48+v % 10000 / 100 % 10)))) e)).set b (.cells (row zT ((csa.set (m-3) (GA (48+v % 10000 / 100 % 10))).set (m-4) (GA (48+v % 10000 / 100 / 10)))) e)=Xb
   generalize hcsb:(csa.set (m-3) (GA (48+v % 10000 / 100 % 10))).set (m-4) (GA (48+v % 10000 / 100 / 10))=csb at hXb w2b
   have xnb:Xb.n=H.n:=by rw[<-hXb,kA,kA,xna]
   have xbb:Xb.get b=some (.cells (row zT csb) e):=by rw[<-hXb,dA,if_pos ⟨rfl,by rw[kA,xna];exact hbn⟩]
   have xob:∀j,j≠b->Xb.get j=H.get j:=fun j hj=>by rw[<-hXb,dA,if_neg (fun h=>absurd h.1 (by omega)),dA,if_neg (fun h=>absurd h.1 (by omega)),xoa j hj]
   clear hXb w1b hcsb
   have ev:v / 10000=u / 10 ^ (nd-(m-4)):=by
    rw[<-hv,BE,show nd-(m-4)=nd-m+4 by omega,AG]
   refine AC (some (m-4,csb,Xb)) ⟨by dsimp only;omega,w2b,xnb,xbb,xob⟩ BC ?_ rfl ?_
   ·dsimp only
    rw[<-ev]
    (focus (simp -dsimp only[go_sem,aA,reduceCtorEq,OA,JA,false_implies,implies_true]<;>(try simp (disch:=omega) only[zw,xJ,vK,AK])<;>(try simp)<;>(try omega)))
   ·show b<=_
    omega
  ·refine AC (some (m,cs,X)) ⟨by dsimp only;omega,hw,xn,xb,xo⟩ BC ?_ rfl ?_
   ·dsimp only
    rw[hv]
    (focus (simp -dsimp only[go_sem,aA,reduceCtorEq,OA,JA,false_implies,implies_true]<;>(try simp (disch:=omega) only[zw,xJ,vK,AK])<;>(try simp)<;>(try omega)))
   ·show b<=_
    omega
 clear hw xn xb xo hvm hv7 hm8 hm
 clear m cs X
 rintro⟨m,cs,X⟩ ⟨hm8,hw,xn,xb,xo⟩
 dsimp only at hm8 hw xn xb xo ⊢
 have hm:=hw.2.1
 have hvm:u / 10 ^ (nd-m)<10 ^ m:=XG (by rw[<-AG,show nd-m+m=nd by omega];exact hlt)
 have hv7:u / 10 ^ (nd-m)<10 ^ 3:=vB hvm (YG (by omega) (by omega))
 refine DC zm (ι:=Nat×List UInt8×Heap) (fun p=>[(0,.sl b 0 nd cap tag),(4,vA p.1),(12,.lit (.int .u32 ((u / 10 ^ (nd-p.1):Nat):Int)))]) (fun p=>p.2.2) (fun _=>b) (fun p=>p.1<2/\Wrote u nd p.1 p.2.1 z/\p.2.2.n=H.n/\p.2.2.get b=some (.cells (row zT p.2.1) e)/\∀j,j≠b->p.2.2.get j=H.get j) ?_ ?_
 ·obtain⟨v,hv⟩:∃v,u / 10 ^ (nd-m)=v:=⟨_,rfl⟩
  rw[hv] at hvm hv7 ⊢
  have hv8:v<1000:=hv7
  simp -dsimp only[go_sem,bA,aA,reduceCtorEq,zf,zh]
  refine aB (fun h=>?_) (fun h=>?_)<;>simp -dsimp only[go_sem,bA,aA,reduceCtorEq,h,r6 v,r7 (v % 100) (by omega),r5 v (by omega)]
  ·have hm2:2<=m:=by omega
   have j9:IntKind.i64.wrap ((m:Int)-2)=((m-2:Nat):Int):=by rw[zw (by omega) (by omega)];omega
   have hw0:Wrote u nd (m-0) cs z:=hw
   have j1a:IntKind.i64.wrap ((m:Int)-1)=((m-1:Nat):Int):=by rw[zw (by omega) (by omega)];omega
   have j2a:IntKind.i64.wrap ((m:Int)-2)=((m-2:Nat):Int):=by rw[zw (by omega) (by omega)];omega
   have p1a:m-1<nd:=by omega
   have p2a:m-2<nd:=by omega
   have hx100a:v % 100<100:=by omega
   refine DR.wr _ xA [] (by kernel_rfl) (by kernel_rfl) ?_
   simp -dsimp only[go_sem,bA,aA,reduceCtorEq,r8 (v % 100) hx100a,kN hx100a,jN hx100a,j1a,j2a,p1a,p2a,xb,bB,wB,oN (cs:=cs) (i:=m-1) (by have:=hw0.1;omega),hbn,xn]
   refine OO.keepS (oN (cs:=cs.set (m-1) (GA (48+v % 100 % 10))) (i:=m-2) (by have:=hw0.1;rw[qB];omega) (GA (48+v % 100 / 10))) ?_
   simp -dsimp only[go_sem,bA,aA,reduceCtorEq,j9]
   have w1a:Wrote u nd (m-1) (cs.set (m-1) (GA (48+v % 100 % 10))) z:=Wrote.one (by rw[show m-1+1=m-0 by omega];exact hw0) hz _ (by
    rw[show nd-1-(m-1)=nd-m+0 by omega,YM,hv]
    congr 2
    simp only[wH]
    omega)
   have w2a:Wrote u nd (m-2) ((cs.set (m-1) (GA (48+v % 100 % 10))).set (m-2) (GA (48+v % 100 / 10))) z:=Wrote.one (by rw[show m-2+1=m-1 by omega];exact w1a) hz _ (by
    rw[show nd-1-(m-2)=nd-m+1 by omega,YM,hv]
    congr 2
    simp only[XD]
    omega)
   generalize hXa:(X.set b (.cells (row zT (cs.set (m-1) (GA (48+v % 100 % 10)))) e)).set b (.cells (row zT ((cs.set (m-1) (GA (48+v % 100 % 10))).set (m-2) (GA (48+v % 100 / 10)))) e)=Xa
   generalize hcsa:(cs.set (m-1) (GA (48+v % 100 % 10))).set (m-2) (GA (48+v % 100 / 10))=csa at hXa w2a
   have xna:Xa.n=H.n:=by rw[<-hXa,kA,kA,xn]
   have xba:Xa.get b=some (.cells (row zT csa) e):=by rw[<-hXa,dA,if_pos ⟨rfl,by rw[kA,xn];exact hbn⟩]
   have xoa:∀j,j≠b->Xa.get j=H.get j:=fun j hj=>by rw[<-hXa,dA,if_neg (fun h=>absurd h.1 (by omega)),dA,if_neg (fun h=>absurd h.1 (by omega)),xo j hj]
   clear hXa w1a hcsa
   have ev:v / 100=u / 10 ^ (nd-(m-2)):=by
    rw[<-hv,BE,show nd-(m-2)=nd-m+2 by omega,AG]
   refine AC (some (m-2,csa,Xa)) ⟨by dsimp only;omega,w2a,xna,xba,xoa⟩ BC ?_ rfl ?_
   ·dsimp only
    rw[<-ev]
    (focus (simp -dsimp only[go_sem,aA,reduceCtorEq,OA,JA,false_implies,implies_true]<;>(try simp (disch:=omega) only[zw,xJ,vK,AK])<;>(try simp)<;>(try omega)))
   ·show b<=_
    omega
  ·refine AC (some (m,cs,X)) ⟨by dsimp only;omega,hw,xn,xb,xo⟩ BC ?_ rfl ?_
   ·dsimp only
    rw[hv]
    (focus (simp -dsimp only[go_sem,aA,reduceCtorEq,OA,JA,false_implies,implies_true]<;>(try simp (disch:=omega) only[zw,xJ,vK,AK])<;>(try simp)<;>(try omega)))
   ·show b<=_
    omega
 clear hw xn xb xo hvm hv7 hm8 hm
 clear m cs X
 rintro⟨m,cs,X⟩ ⟨hm8,hw,xn,xb,xo⟩
 dsimp only at hm8 hw xn xb xo ⊢
 have hm:=hw.2.1
 have hvm:u / 10 ^ (nd-m)<10 ^ m:=XG (by rw[<-AG,show nd-m+m=nd by omega];exact hlt)
 have hv7:u / 10 ^ (nd-m)<10 ^ 1:=vB hvm (YG (by omega) (by omega))
 have hz0:min b H.n=b:=by omega
 refine LB zm ?_
 obtain⟨v,hv⟩:∃v,u / 10 ^ (nd-m)=v:=⟨_,rfl⟩
 rw[hv] at hv7 ⊢
 have hv1:v<10:=hv7
 simp -dsimp only[go_sem,bA,aA,reduceCtorEq,zf,zh]
 have i0:0<nd->zv fA 76 (.sl b 0 nd cap tag) (.lit (.int .i64 ((0:Nat):Int)))=some (.ptr b 0):=fun h=>by simp -dsimp only[go_sem,qE,h]
 have a1:IntKind.u32.wrap (48+((v:Nat):Int))=((48+v:Nat):Int):=mP (a:=48) (by omega)
 have a2:IntKind.u8.wrap ((48+v:Nat):Int)=((GA (48+v)).toNat:Int):=by
  rw[vK (by omega) (by omega),UInt8.toNat_ofNat',kC (show 48+v<2 ^ 8 by omega)]
 refine aB (fun h=>?_) (fun h=>?_)<;>simp -dsimp only[go_sem,bA,aA,reduceCtorEq,h,a1,a2]
 ·have hm1:m=1:=by omega
  refine OV.intro (i0 (by omega)) ?_
  simp -dsimp only[go_sem,aA,reduceCtorEq,xb]
  have w1:Wrote u nd 0 (cs.set 0 (GA (48+v))) z:=Wrote.one (by rw[hm1] at hw;exact hw) hz _ (by
   rw[hm1] at hv
   rw[show nd-1-0=nd-1+0 by omega,YM,wH,Nat.div_one,hv]
   congr 2
   omega)
  refine OO.keepS (oN (cs:=cs) (i:=0) (by have:=hw.1;omega) (GA (48+v))) ?_
  simp -dsimp only[go_sem,aA,reduceCtorEq]
  refine nB (hQ _ _ _ ?_ ?_ ?_ w1 (by omega))
  ·rw[kA,xn]
  ·rw[dA,if_pos ⟨rfl,by rw[xn];exact hbn⟩]
  ·intro j hj
   rw[dA,if_neg (fun h=>absurd h.1 (by omega)),xo j hj]
 ·have hm0:m=0:=by omega
  subst hm0
  exact nB (hQ _ _ _ xn xb xo hw (by omega))
end
section
open Go Go.Tw
open Classical
def aP(x:UInt32):Nat->UInt32
 | 0=>x
 | k+1=>aP x k / 256
theorem znK(x:UInt32):∀k,(aP x k).toNat=x.toNat / 256 ^ k
 | 0=>by simp[aP]
 | k+1=>by
  rw[aP,UInt32.toNat_div,znK x k,show(256:UInt32).toNat=256 from rfl,BE,Nat.pow_succ]
theorem RP(x:UInt32)(k:Nat)(hk:k<4):(aP x k).toUInt8=(x>>>UInt32.ofNat (8*k)).toUInt8:=by
 have e:aP x k=x>>>UInt32.ofNat (8*k):=by
  apply UInt32.toNat_inj.1
  rw[znK,UInt32.toNat_shiftRight,Nat.shiftRight_eq_div_pow]
  have:(UInt32.ofNat (8*k)).toNat % 32=8*k:=by
   rw[UInt32.toNat_ofNat',kC (show 8*k<2 ^ 32 by omega),kC (by omega)]
  rw[this,Nat.pow_mul]
 rw[e]
theorem Ze(P:Program)(t:TypeId)(x:UInt32):jE P .rem t (qC x) (.lit (.int .u32 256))=some (qC (x % 256)):=by
 rw[J3 _ _ _ _ _ (by decide)]
 have:(x.toNat:Int).tmod 256=((x % 256).toNat:Int):=by
  rw[UInt32.toNat_mod]
  exact(oF x.toNat 256).symm
 rw[this]
theorem Ye(P:Program)(t:TypeId)(x:UInt32):jE P .quo t (qC x) (.lit (.int .u32 256))=some (qC (x / 256)):=by
 rw[nV _ _ _ _ _ (by decide)]
 have:(x.toNat:Int).tdiv 256=((x / 256).toNat:Int):=by
  rw[UInt32.toNat_div]
  exact(IE x.toNat 256).symm
 rw[this,Aj]
theorem Y0(x:UInt32):(x % 256).toUInt8=x.toUInt8:=by
 apply UInt8.toNat_inj.1
 simp
theorem AnyB.len{n:Nat}{X:Heap}{v:V}{t:List UInt8}(h:AnyB n X v t)(G:Heap):qH fA G 76 v=some (vA t.length):=by
 rcases h.ex with⟨rfl,k,cs,e,h1,rfl,hb⟩|⟨h0,k,h1,rfl,hb⟩
 ·exact Ij ..
 ·exact Ij ..
theorem Tb(s:vM)(hs:s.h.length=8)(hn:s.n<18446744073709551616)(hr:s.rest.length<=64)(H:Heap)(Q:OR->Prop)(hQ:Q ⟨NB zT (AM s 16),H,H.n⟩):MCall Cx 110 [aM s] H Q:=by
 refine mB (fn:=Tryz.f110) Tryz.func110 rfl (by decide) (k:=65) rfl (rs:=[.tmp 2]) rfl ?_
 refine PA zm ?_
 rw[aM]
 simp -dsimp only[go_sem,bA,gA]
 refine PA zm ?_
 simp -dsimp only[go_sem,bA,aA,reduceCtorEq,ET hs]
 refine oB ?_
 simp -dsimp only[go_sem,aA,reduceCtorEq]
 refine zoY s hs hr _ _ fun X v lo xn xo av hlo=>?_
 rw[iA] at xn xo av hlo
 obtain⟨vcv,vov⟩:=av.vc
 have vo:V.one v=true:=by simpa using vov
 have o1:(PC s.h v (TC s.n) (vA 16)).all V.one=true:=XR _ vo rfl rfl
 have x0:X.get H.n=some (.cells (PC s.h (NB zT s.rest) (TC s.n) (vA 16)) 127):=by rw[xo _ (by omega)];simp -dsimp only[go_sem]
 simp -dsimp only[go_sem,x0,rN hs,o1,SP hs hs]
 have y0:(X.set H.n (.cells (PC s.h v (TC s.n) (vA 16)) 127)).get H.n=some (.cells (PC s.h v (TC s.n) (vA 16)) 127):=by rw[dA,if_pos ⟨rfl,by omega⟩]
 have yn:(X.set H.n (.cells (PC s.h v (TC s.n) (vA 16)) 127)).n=X.n:=kA ..
 have ay:AnyB (H.n+1) (X.set H.n (.cells (PC s.h v (TC s.n) (vA 16)) 127)) v s.rest:=av.of fun j h1 h2=>by rw[dA,if_neg (fun g=>absurd g.1 (by omega))]
 generalize X.set H.n (.cells (PC s.h v (TC s.n) (vA 16)) 127)=Y at y0 yn ay
 clear x0 av o1 vov
 refine WB H.n [(1,.ptr H.n 0)] (by omega) zSl ?_
 refine PA zm ?_
 simp -dsimp only[go_sem,bA]
 refine PA zm ?_
 simp -dsimp only[go_sem,bA,aA,y0,DT hs,Int.reduceLT]
 refine PA zm ?_
 have w1:IntKind.u64.wrap (s.rest.length:Int)=(s.rest.length:Int):=xJ (by omega) (by omega)
 have w2:IntKind.u64.wrap ((s.n:Int)+(s.rest.length:Int))=(((s.n+s.rest.length) % 18446744073709551616:Nat):Int):=by
  rw[<-cH,T6]
 simp -dsimp only[go_sem,bA,aA,y0,j5 hs,iN hs,ay.len,w1,w2]
 have hm2:(s.n+s.rest.length) % 18446744073709551616<18446744073709551616:=NH _ (by omega)
 generalize hm':(s.n+s.rest.length) % 18446744073709551616=m' at hm2 w2
 refine PA zm ?_
 simp -dsimp only[go_sem,bA,aA,y0,iN hs]
 generalize hend:s.rest++oA (64-s.rest.length) 0=fin
 have lf:fin.length=64:=by rw[<-hend,qA,LD];omega
 refine DC zm (ι:=Heap×V) (fun p=>[(1,.ptr H.n 0),(3,.lit (.slice none 0 0)),(4,TC m'),(5,p.2)]) (fun p=>p.1) (fun _=>H.n) (fun p=>H.n+1<=p.1.n/\p.1.get H.n=some (.cells (PC s.h v (TC s.n) (vA 16)) 127)/\AnyB (H.n+1) p.1 p.2 fin) ?_ ?_
 ·simp -dsimp only[go_sem]
  refine dD (ι:=Nat×Heap×V) (fun p=>[(1,.ptr H.n 0),(3,.lit (.slice none 0 0)),(4,TC m'),(5,p.2.2)]) (fun p=>p.2.1) (fun _=>H.n) (fun p=>p.1+s.rest.length<=64/\H.n+1<=p.2.1.n/\p.2.1.get H.n=some (.cells (PC s.h v (TC s.n) (vA 16)) 127)/\AnyB (H.n+1) p.2.1 p.2.2 (s.rest++oA p.1 0)) (fun p=>64-p.1) (0,Y,v) ⟨by omega,by dsimp only;omega,y0,by simpa using ay⟩ ?_ ?_
  ·refine(MB (lo2:=H.n) (by omega)).trans (RB _ zSl)
  rintro⟨i,U,w⟩ ⟨hi,un,u0,au⟩
  simp only at hi un u0 au ⊢
  have lt:(s.rest++oA i (0:UInt8)).length=s.rest.length+i:=by simp
  refine PA zm ?_
  simp -dsimp only[go_sem,bA,aA,zf,zh,au.len,lt]
  refine aB (fun k=>?_) (fun k=>?_)<;>simp -dsimp only[go_sem,aA,k]
  ·refine MD ?_
   refine LB zm ?_
   simp -dsimp only[go_sem,bA,aA]
   refine znY (n:=H.n+1) (X:=U.push (.cells [.lit (.int .u8 0)] 5)) (t:=s.rest++oA i 0) (new:=[0]) (by rw[iA];omega) (au.of fun j h1 h2=>zj j h2) (by rw[lt];simp;omega) rfl ?_ fun Z z lo2 zn zo az hlo2=>?_
   ·show(match (U.push (.cells [.lit (.int .u8 0)] 5)).get U.n with|some (.cells cs _)=>_|_=>none)=_
    rw[yA,if_pos rfl]
    rfl
   rw[iA] at zn
   have eap:s.rest++oA i 0++[0]=s.rest++oA (i+1) (0:UInt8):=by rw[XA,<-List.replicate_succ']
   rw[eap] at az
   have hlo4:H.n<=lo2:=by omega
   simp -dsimp only[go_sem,bA,aA]
   (refine AC (i+1,Z,z) ?_ ?_ ?_ ?_ ?_;rotate_left;((try dsimp only);omega);(focus (simp -dsimp only[go_sem,aA,OA,JA,false_implies,implies_true]<;>(try simp (disch:=omega) only[zw,xJ,vK,AK])<;>(try simp)<;>(try omega)));rfl;((try dsimp only);omega))
   dsimp only
   exact⟨by omega,by omega,by rw[zo _ (by omega),zj _ (by omega),u0],az⟩
  ·have hi2:i=64-s.rest.length:=by omega
   rw[hi2,hend] at au
   refine AC (some (U,w)) ⟨by omega,u0,au⟩ BC ?_ rfl ?_
   ·show ∀q∈[(1,V.ptr H.n 0),(3,.lit (.slice none 0 0)),(4,TC m'),(5,w)],_
    (focus (simp -dsimp only[go_sem,aA,OA,JA,false_implies,implies_true]<;>(try simp (disch:=omega) only[zw,xJ,vK,AK])<;>(try simp)<;>(try omega)))
   ·show H.n<=_
    omega
 rintro⟨U,w⟩ ⟨un,u0,au⟩
 dsimp only at un u0 au
 have hsum:AM s 16=(CB 16).map (JM (oL s.h fin m' true)):=by
  rw[AM,hend,hm']
  rfl
 have lg:(oL s.h fin m' true).length=8:=kg ..
 refine PA zm ?_
 simp -dsimp only[go_sem,bA,aA,zf,zh,u0,Fh hs]
 refine oB ?_
 simp -dsimp only[go_sem,bA,aA]
 refine MCall.lend_flat (args':=[.agg (s.h.map qC),NB zT fin,TC m',.lit (.bool true)]) (.cons _ _ _ _ (.self _ (o7 _)) (.cons _ _ _ _ (au.fz fun _ _=>trivial) (.cons _ _ _ _ (.self _ rfl) (.cons _ _ _ _ (.self _ rfl) .nil)))) (znC _) (tW s.h hs fin lf m' hm2 true U _ rfl) ?_
 generalize hg:oL s.h fin m' true=g at lg hsum
 simp -dsimp only[go_sem,aA,bC,lg,RR,yM (l:=g) (m:=oA 8 0) (by rw[lg];rfl)]
 have z0:((U.push (.cells ((oA 8 (0:UInt32)).map qC) 125)).set U.n (.cells (g.map qC) 125)).get H.n=some (.cells (PC s.h v (TC s.n) (vA 16)) 127):=by rw[dA,if_neg (fun g=>absurd g.1 (by omega)),zj _ (by omega),u0]
 have z2:((U.push (.cells ((oA 8 (0:UInt32)).map qC) 125)).set U.n (.cells (g.map qC) 125)).get U.n=some (.cells (g.map qC) 125):=by rw[dA,if_pos ⟨rfl,by rw[iA];omega⟩]
 have zn:((U.push (.cells ((oA 8 (0:UInt32)).map qC) 125)).set U.n (.cells (g.map qC) 125)).n=U.n+1:=by rw[kA,iA]
 generalize (U.push (.cells ((oA 8 (0:UInt32)).map qC) 125)).set U.n (.cells (g.map qC) 125)=Z at z0 z2 zn
 generalize hgb:U.n=gb at z2 zn un
 have gbn:H.n<gb:=by omega
 refine WB H.n [(1,.ptr H.n 0),(3,.lit (.slice none 0 0)),(6,.ptr gb 0)] (by omega) (by rw[<-hgb];(focus (simp -dsimp only[go_sem,aA,OA,JA,false_implies,implies_true]<;>(try simp (disch:=omega) only[zw,xJ,vK,AK])<;>(try simp)<;>(try omega)))) ?_
 have l0:lob Z 0 ([]:List UInt8)=Z.n:=if_pos rfl
 refine DC zm (ι:=Heap×Nat) (fun p=>[(3,iH ((CB 16).map (JM g)) p.2)]) (fun p=>p.1) (fun _=>H.n) (fun p=>TJ Z 0 [] p.1 p.2 ((CB 16).map (JM g))) ?_ ?_
 ·simp -dsimp only[go_sem,bA]
  refine dD (ι:=Nat×List UInt8×Heap×Nat) (fun p=>[(1,.ptr H.n 0),(3,iH p.2.1 p.2.2.2),(6,.ptr gb 0),(7,vA p.1)]) (fun p=>p.2.2.1) (fun _=>H.n)
   (fun p=>p.1<=8/\p.2.1=(CB (min 16 (4*p.1))).map (JM g)/\TJ Z 0 [] p.2.2.1 p.2.2.2 p.2.1) (fun p=>8-p.1) (0,[],Z,0) ⟨by omega,rfl,Bf.refl (fun h=>absurd rfl h)⟩ ?_ ?_
  ·refine(MB (lo2:=H.n) (by omega)).trans (RB _ zSl)
  rintro⟨i,t,Y2,k⟩ ⟨hi,ht,hB⟩
  simp only at hi ht hB ⊢
  have yn2:=hB.n
  have yl:=hB.lob
  have y2:Y2.get gb=some (.cells (g.map qC) 125):=by rw[hB.old _ (by omega) (.inr rfl),z2]
  have y00:Y2.get H.n=some (.cells (PC s.h v (TC s.n) (vA 16)) 127):=by rw[hB.old _ (by omega) (.inr rfl),z0]
  refine PA zm ?_
  simp -dsimp only[go_sem,bA,aA,zf,zh]
  refine aB (fun h=>?_) (fun h=>?_)<;>simp -dsimp only[go_sem,aA,h]
  ·have hi8:i<8:=by omega
   refine yC ?_
   refine MD ?_
   refine PA zm ?_
   simp -dsimp only[go_sem,bA,aA,hi8,y2,wB,bB,BG (l:=g) (i:=i) (by omega)]
   refine WB H.n [(1,.ptr H.n 0),(3,iH t k),(6,.ptr gb 0),(7,vA i),(8,qC (g.getD i 0))] (by omega) zSl ?_
   refine PA zm ?_
   simp -dsimp only[go_sem,bA,zf,zh]
   refine MD ?_
   refine dD (ι:=Nat×List UInt8×Heap×Nat) (fun p=>[(1,.ptr H.n 0),(3,iH p.2.1 p.2.2.2),(6,.ptr gb 0),(7,vA i),(8,qC (aP (g.getD i 0) p.1)),(9,vA p.1)]) (fun p=>p.2.2.1) (fun _=>H.n)
    (fun p=>p.1<=4/\p.2.1=(CB (min 16 (4*i+p.1))).map (JM g)/\TJ Z 0 [] p.2.2.1 p.2.2.2 p.2.1) (fun p=>4-p.1) (0,t,Y2,k) ⟨by omega,ht,hB⟩ ?_ ?_
   ·dsimp only[aP]
    refine(MB (lo2:=H.n) (by omega)).trans (RB _ zSl)
   clear ht hB yn2 yl y2 y00
   rintro⟨q,t,Y2,k⟩ ⟨hq,ht,hB⟩
   simp only at hq ht hB ⊢
   have yn2:=hB.n
   have yl:=hB.lob
   have y00:Y2.get H.n=some (.cells (PC s.h v (TC s.n) (vA 16)) 127):=by rw[hB.old _ (by omega) (.inr rfl),z0]
   have tl:t.length=min 16 (4*i+q):=by rw[ht,bC,List.length_range]
   refine PA zm ?_
   simp -dsimp only[go_sem,bA,aA,zf,zh]
   refine aB (fun h4=>?_) (fun h4=>?_)<;>simp -dsimp only[go_sem,aA,h4]
   ·have hq4:q<4:=by omega
    refine yC ?_
    refine MD ?_
    refine DC zm (ι:=List UInt8×Heap×Nat) (fun p=>[(1,.ptr H.n 0),(3,iH p.1 p.2.2),(6,.ptr gb 0),(7,vA i),(8,qC (aP (g.getD i 0) q)),(9,vA q)]) (fun p=>p.2.1) (fun _=>H.n) (fun p=>p.1=(CB (min 16 (4*i+q+1))).map (JM g)/\TJ Z 0 [] p.2.1 p.2.2 p.1) ?_ ?_
    ·simp -dsimp only[go_sem,bA,aA,zmp TA,y00,DT hs]
     refine aB (fun c=>?_) (fun c=>?_)
     ·have hlt:4*i+q<16:=by omega
      have ho:JM g (4*i+q)=(aP (g.getD i 0) q % 256).toUInt8:=by
       rw[Y0,RP _ _ hq4,JM,show(4*i+q) / 4=i by omega,show(4*i+q) % 4=q by omega]
      simp -dsimp only[go_sem,bA,aA,c,Ze,yR]
      refine rM (JM g (4*i+q)) (by rw[ho]) hB.cell (by omega) fun Y3 k3 lo3 hB3 hlo3=>?_
      have yn3:=hB3.n
      have hlo4:H.n<=lo3:=by
       have:=t8 Y2 k t
       omega
      simp -dsimp only[go_sem,bA,aA]
      refine AC (some (t++[JM g (4*i+q)],Y3,k3)) ⟨?_,hB.trans hB3⟩ BC ?_ rfl ?_
      ·rw[ht,show min 16 (4*i+q+1)=min 16 (4*i+q)+1 by omega,KF,QC,show min 16 (4*i+q)=4*i+q by omega]
       rfl
      ·show ∀u∈[(1,V.ptr H.n 0),(3,iH (t++[JM g (4*i+q)]) k3),(6,.ptr gb 0),(7,vA i),(8,qC (aP (g.getD i 0) q)),(9,vA q)],_
       (focus (simp -dsimp only[go_sem,aA,OA,JA,false_implies,implies_true]<;>(try simp (disch:=omega) only[zw,xJ,vK,AK])<;>(try simp)<;>(try omega)))
      ·show H.n<=_
       omega
     ·simp -dsimp only[go_sem,aA,c]
      refine AC (some (t,Y2,k)) ⟨?_,hB⟩ BC ?_ rfl ?_
      ·rw[ht,show min 16 (4*i+q+1)=min 16 (4*i+q) by omega]
      ·show ∀u∈[(1,V.ptr H.n 0),(3,iH t k),(6,.ptr gb 0),(7,vA i),(8,qC (aP (g.getD i 0) q)),(9,vA q)],_
       (focus (simp -dsimp only[go_sem,aA,OA,JA,false_implies,implies_true]<;>(try simp (disch:=omega) only[zw,xJ,vK,AK])<;>(try simp)<;>(try omega)))
      ·show H.n<=_
       omega
    clear ht hB yn2 yl y00 tl
    rintro⟨t,Y2,k⟩ ⟨ht,hB⟩
    dsimp only at ht hB ⊢
    have yn2:=hB.n
    refine LB zm ?_
    simp -dsimp only[go_sem,bA,aA,zf,zh,Ye]
    refine LB zm ?_
    simp -dsimp only[go_sem,bA,aA]
    (refine AC (q+1,t,Y2,k) ?_ ?_ ?_ ?_ ?_;rotate_left;((try dsimp only);omega);(focus (simp -dsimp only[go_sem,aA,OA,JA,false_implies,implies_true]<;>(try simp (disch:=omega) only[zw])<;>(try simp)<;>(try omega)));rfl;((try dsimp only);omega))
    ·exact⟨by dsimp only;omega,ht,hB⟩
   ·obtain rfl:q=4:=by omega
    refine LB zm ?_
    simp -dsimp only[go_sem,bA,aA]
    (refine AC (i+1,t,Y2,k) ?_ ?_ ?_ ?_ ?_;rotate_left;((try dsimp only);omega);(focus (simp -dsimp only[go_sem,aA,OA,JA,false_implies,implies_true]<;>(try simp (disch:=omega) only[zw])<;>(try simp)<;>(try omega)));rfl;((try dsimp only);omega))
    exact⟨by dsimp only;omega,by rw[ht,show 4*(i+1)=4*i+4 by omega],hB⟩
  ·obtain rfl:i=8:=by omega
   have et:t=(CB 16).map (JM g):=ht
   refine AC (some (Y2,k)) (by rw[<-et];exact hB) BC ?_ rfl ?_
   ·show ∀u∈[(3,iH ((CB 16).map (JM g)) k)],_
    rw[<-et]
    (focus (simp -dsimp only[go_sem,aA,OA,JA,false_implies,implies_true]<;>(try simp (disch:=omega) only[zw,xJ,vK,AK])<;>(try simp)<;>(try omega)))
   ·show H.n<=_
    omega
 rintro⟨Y2,k⟩ hB
 dsimp only at hB ⊢
 have yn2:=hB.n
 refine LB zm ?_
 simp -dsimp only[go_sem,bA,aA,zf,zh]
 rw[hsum] at hQ
 refine Res.fz _ (by omega) (Fz.buf wK UM (fun e=>?_) hB.cell) hQ
 rcases hB.new with⟨_,h2⟩|h2
 ·exact absurd h2 e
 ·omega
end
section
open Go Go.Tw
open Classical
theorem Cf(f:GV->Int):∀(l:List GV) (a k:Int),l.foldl (fun a x=>max a (f x)) a<=k↔a<=k/\∀x∈l,f x<=k
 | [],a,k=>by simp
 | x::l,a,k=>by
  rw[List.foldl_cons,Cf f l]
  simp only[IB,forall_eq_or_imp,Int.max_le,and_assoc]
theorem zg0(f:GV->Int)(l:List GV)(a:Int):a<=l.foldl (fun a x=>max a (f x)) a:=((Cf f l a _).1 (Int.le_refl _)).1
theorem znL:∀(d:Nat),d<=20->∀v,0<=VK d v/\VK d v<=20+d
 | 0,_,v=>by simp[VK]
 | d+1,h,v=>by
  have h1:=zg0 (VK d) v.list 0
  have h2:=(Cf (VK d) v.list 0 (20+d)).2 ⟨by omega,fun x _=>(znL d (by omega) x).2⟩
  rw[VK,zw (by omega) (by omega)]
  omega
theorem zqe{d:Nat}(h:d<=19)(v:GV):VK (d+1) v=v.list.foldl (fun a x=>max a (VK d x)) 0+1:=by
 have h1:=zg0 (VK d) v.list 0
 have h2:=(Cf (VK d) v.list 0 (20+d)).2 ⟨by omega,fun x _=>(znL d (by omega) x).2⟩
 rw[VK,zw (by omega) (by omega)]
theorem Ef:∀(d:Nat),d<=20->∀(v:GV) (n:Nat),n<d->nJ v n=(decide (VK d v<=n)&&qM v)
 | 0,_,v,n,hn=>by omega
 | d+1,h,v,n,hn=>by
  have h1:=zg0 (VK d) v.list 0
  rw[vf,I7,zqe (by omega)]
  cases n with
  | zero=>
   have:¬v.list.foldl (fun a x=>max a (VK d x)) 0+1<=((0:Nat):Int):=by omega
   rw[decide_eq_false this];rfl
  | succ m=>
   have e:(((m+1:Nat):Int)-1)=(m:Int):=by omega
   have e1:decide ((1:Int)<=((m+1:Nat):Int))=true:=decide_eq_true (by omega)
   have e2:decide (v.list.foldl (fun a x=>max a (VK d x)) 0+1<=((m+1:Nat):Int))=v.list.all fun x=>decide (VK d x<=(m:Int)):=by
    rw[YB,decide_eq_true_eq,gB]
    have:=Cf (VK d) v.list 0 m
    constructor
    ·intro g x hx
     exact decide_eq_true ((this.1 (by omega)).2 x hx)
    ·intro g
     have:=this.2 ⟨by omega,fun x hx=>of_decide_eq_true (g x hx)⟩
     omega
   have e3:(v.list.all fun x=>nJ x (m:Int))=((v.list.all fun x=>decide (VK d x<=(m:Int)))&&v.list.all qM):=by
    rw[YB,wA,gB,gB,gB]
    constructor
    ·intro g
     exact⟨fun x hx=>by have:=g x hx;rw[Ef d (by omega) x m (by omega),wA] at this;exact this.1,fun x hx=>by have:=g x hx;rw[Ef d (by omega) x m (by omega),wA] at this;exact this.2⟩
    ·intro g x hx
     rw[Ef d (by omega) x m (by omega),wA]
     exact⟨g.1 x hx,g.2 x hx⟩
   have e4:DL v.keys 0=x8 v.keys:=rfl
   rw[e,e1,e2,e3,e4]
   cases z8 v<;>cases x8 v.keys<;>simp
theorem KY{v:GV}(h:z8 v=true):0<=v.kind/\v.kind<=6/\(v.kind=6->v.keys.length=v.list.length):=by
 simp only[z8,wA,Bool.or_eq_true,decide_eq_true_eq] at h
 exact⟨h.1.1.1.1.1.1.1,h.1.1.1.1.1.1.2,fun e=>h.1.2.resolve_left (fun g=>g e)⟩
theorem zlC:∀{l:List GV},(∀x∈l,KX x)->Fg l
 | [],_=>trivial
 | v::vs,h=>⟨h v (List.mem_cons_self ..),zlC fun x hx=>h x (List.mem_cons_of_mem _ hx)⟩
theorem zix(v:GV)(h:qM v=true):KX v:=by
 have h':=h
 rw[I7,wA,wA,gB] at h
 have ht:=KY h.1.1
 have hl:Fg v.list:=zlC fun x hx=>zix x (h.2 x hx)
 cases v
 exact⟨ht,hl⟩
termination_by SizeOf.sizeOf v
decreasing_by exact GV.size_mem hx
theorem m_66(v:GV)(hw:v.wf)(hnu:GN v)(hsm:nJ v 8=true->(ED v).length<=1048576)(H:Heap)(Q:OR->Prop)(hQ:Q ⟨.lit (.bool (ZL v)),H,H.n⟩):MCall Cx 66 [.agg (zR v)] H Q:=by
 have hsh:nJ v 8=(decide (VK 15 v<=8)&&qM v):=Ef 15 (by omega) v 8 (by omega)
 refine QA zm (fn:=Tryz.f66) Tryz.func66 rfl (by decide) (k:=16) rfl (rs:=[.tmp 2]) rfl ?_
 simp -dsimp only[go_sem,bA,aA,reduceCtorEq]
 refine oB ?_
 refine m_89 15 (by omega) v hw _ _ ?_
 simp -dsimp only[go_sem,bA,aA,reduceCtorEq]
 refine GD.dec (fun h=>?_) (fun h=>?_)<;>simp -dsimp only[go_sem,bA,aA,reduceCtorEq,gA,h]
 ·rw[decide_eq_true h,Bool.true_and] at hsh
  refine MV.tab _ ((CA (Od) xA)) ?_
  simp -dsimp only[go_sem,bA,aA,reduceCtorEq,h,e_90 v hw]
  refine GD.split (fun g=>?_) (fun g=>?_)<;>simp -dsimp only[go_sem,bA,aA,reduceCtorEq,gA,h,g]
  ·have hs8:nJ v 8=true:=hsh.trans g
   refine oB ?_
   refine BZ v (zix v g) hw hnu (hsm hs8) _ _ ?_
   simp -dsimp only[go_sem,bA,aA,reduceCtorEq,gA,h,g,fg]
   refine AA (by omega) rfl ?_
   have e:(((ED v).length:Int)<=512)=((ED v).length<=512):=by simp;omega
   simpa[ZL,hs8,e] using hQ
  ·refine AA (by omega) rfl ?_
   have hs8:nJ v 8=false:=hsh.trans (by simpa using g)
   simpa[ZL,hs8] using hQ
 ·refine AA (by omega) rfl ?_
  have hs8:nJ v 8=false:=by
   refine hsh.trans ?_
   rw[decide_eq_false h];rfl
  simpa[ZL,hs8] using hQ
end
section
open Go Go.Tw
open Classical
theorem z24:zE fA 179=some (row zT (oA 24 0)):=by kernel_rfl
theorem uW(s:List UInt8)(b:Nat)(u:Nat)(h1:1<=u\/u<100)(hu:u<18446744073709551616)(H:Heap)(hb:s≠[]->H.get b=some (.cells (row zT s) 5))(hsm:s.length+(VB u).length<=1048576)(Q:OR->Prop)(hQ:∀X k lo,TJ H b s X k (s++VB u)->lob H b s<=lo->Q ⟨iH (s++VB u) k,X,lo⟩):
  MCall Cx 128 [iH s b,.lit (.int .u64 u),vA 10] H Q:=by
 refine mB (fn:=Tryz.f128) Tryz.func128 rfl (by decide) (k:=36) rfl (rs:=[.tmp 6]) rfl ?_
 have hl0:=t8 H b s
 have hdl:=XE u
 have hdp:=Lib.nDigits_pos u
 refine PA zm ?_
 simp -dsimp only[go_sem,bA,cA,gA]
 refine PA zm ?_
 by_cases h:u<100
 ·have hc:((u:Int)<100):=by omega
  have w1:IntKind.i64.wrap (u:Int)=(u:Int):=zw (by omega) (by omega)
  simp -dsimp only[go_sem,bA,aA,reduceCtorEq,hc,w1]
  refine oB ?_
  simp -dsimp only[go_sem,bA,aA,reduceCtorEq]
  refine Dc u h _ _ ?_
  simp -dsimp only[go_sem]
  have esb:sB (AI (VB u))=VB u:=rfl
  refine Rg hb (by rw[fg];omega) (by rw[fg];exact hsm) fun X k lo hB hlo=>?_
  rw[esb] at hB ⊢
  have hn:=hB.n
  simp -dsimp only[go_sem,bA,aA,reduceCtorEq,gA]
  exact nB (hQ X k _ hB (by omega))
 ·have hc:¬((u:Int)<100):=by omega
  have hnd:YC u<=20:=Lib.nDigits_le20 u hu
  have hlt:=Lib.lt_pow_nDigits u
  have h1':1<=u:=by omega
  simp -dsimp only[go_sem,bA,aA,reduceCtorEq,hc,z24]
  generalize hY:H.push (.cells (row zT (oA 24 0)) 179)=Y
  have yn:Y.n=H.n+1:=by rw[<-hY,iA]
  have yb:Y.get H.n=some (.cells (row zT (oA 24 0)) 179):=by rw[<-hY,yA,if_pos rfl]
  have yo:∀j,j<H.n->Y.get j=H.get j:=fun j hj=>by rw[<-hY,zj _ hj]
  clear hY
  refine oB ?_
  simp -dsimp only[go_sem,bA,aA,reduceCtorEq]
  refine Ec u h1' hu _ _ ?_
  simp -dsimp only[go_sem]
  have hs:lH fA 179 (.ptr H.n 0) none (some (vA (YC u))) none=some (.sl H.n 0 (YC u) 24 none):=by
   have:=zfm (i:=((YC u:Nat):Int)) Tryz.underlying179 iM H.n 0 .i64 (by omega) (by omega)
   simpa using this
  simp -dsimp only[go_sem,bA,aA,reduceCtorEq,hs]
  refine oB ?_
  simp -dsimp only[go_sem,bA,aA,reduceCtorEq]
  refine Fc u (YC u) hu hnd hlt (oA 24 0) (by rw[LD];omega) H.n 24 none _ Y yb _ fun X cs lo xn xb xo hw hlo=>?_
  have hcs:=zoX hw (by rw[LD];omega)
  simp -dsimp only[go_sem,bA,aA,reduceCtorEq,hs]
  have hbH:s≠[]->b<H.n:=fun e=>zq (hb e)
  have hbX:s≠[]->X.get b=some (.cells (row zT s) 5):=fun e=>by
   have:=hbH e
   rw[xo b (by omega),yo b this,hb e]
  have hcells:cellsOf X 1 (VB u).length (.sl H.n 0 (YC u) 24 none)=some (row zT (VB u)):=by
   rw[Go.Tw.cells_sl xb (by omega) (by rw[zr wK,hcs,qA];omega),hcs]
   rw[UA,qO wK,jB (jA _),FB]
  refine pP (new:=VB u) hbX (by rw[hdl];rfl) (by omega) hcells hsm fun Z k lo2 hB hlo2=>?_
  have hn:=hB.n
  have hB2:TJ H b s Z k (s++VB u):=hB.pre (by omega) (fun j hj=>by rw[xo j (by omega),yo j hj]) (by
   by_cases e:s=[]
   ·exact .inl e
   ·exact .inr (hbH e))
  have hl2:lob H b s<=lob X b s:=by
   unfold lob
   split<;>omega
  simp -dsimp only[go_sem,bA,aA,reduceCtorEq,gA]
  exact nB (hQ Z k _ hB2 (by omega))
theorem Wb(s:List UInt8)(b:Nat)(n:Int)(H:Heap)(Q:OR->Prop)(h1:-9223372036854775808<=n)(h2:n<=9223372036854775807)(hb:s≠[]->H.get b=some (.cells (row zT s) 5))(hsm:s.length+(xE n).length<=1048576)(hQ:∀X k lo,TJ H b s X k (s++xE n)->lob H b s<=lo->Q ⟨iH (s++xE n) k,X,lo⟩):
  MCall Cx 113 [iH s b,vA n,vA 10] H Q:=by
 refine mB (fn:=Tryz.f113) Tryz.func113 rfl (by decide) (k:=21) rfl (rs:=[.tmp 6]) rfl ?_
 have hl0:=t8 H b s
 refine PA zm ?_
 simp -dsimp only[go_sem,bA,cA,gA]
 refine PA zm ?_
 simp -dsimp only[go_sem,bA,aA,reduceCtorEq,gA]
 refine LB zm ?_
 simp -dsimp only[go_sem,bA,aA,reduceCtorEq]
 refine aB (fun h=>?_) (fun h=>?_)<;>simp -dsimp only[go_sem,bA,aA,reduceCtorEq,h]
 ·rw[xE,if_pos h] at hQ hsm
  rw[HA] at hsm
  refine rM 45 rfl hb (by omega) fun X k lo hB hlo=>?_
  have hn:=hB.n
  have hl:=hB.lob
  have e1:IntKind.u64.wrap (-IntKind.u64.wrap n)=((n.natAbs:Nat):Int):=by
   simp only[tC,GC,xC]
   simp
   omega
  have e2:IntKind.u64.wrap (0-IntKind.u64.wrap n)=((n.natAbs:Nat):Int):=by
   rw[Int.zero_sub,e1]
  simp -dsimp only[go_sem,bA,aA,reduceCtorEq,e2]
  refine oB ?_
  simp -dsimp only[go_sem,bA,aA,reduceCtorEq,gA]
  refine uW (s++[45]) k n.natAbs (by omega) (by omega) X hB.cell (by rw[qA,List.length_singleton];omega) _ fun Y k2 lo2 hB2 hlo2=>?_
  have hn2:=hB2.n
  have hB3:=hB.trans hB2
  have ea:s++[45]++VB n.natAbs=s++45::VB n.natAbs:=by simp
  rw[ea] at hB3 ⊢
  simp -dsimp only[go_sem]
  exact nB (hQ Y k2 _ hB3 (by omega))
 ·have hn0:0<=n:=by omega
  rw[xE,if_neg h] at hQ hsm
  have e1:IntKind.u64.wrap n=((n.toNat:Nat):Int):=by
   rw[show n=((n.toNat:Nat):Int) by omega,T6]
   simp
   omega
  simp -dsimp only[go_sem,e1]
  refine oB ?_
  simp -dsimp only[go_sem,bA,aA,reduceCtorEq,gA]
  refine uW s b n.toNat (by omega) (by omega) H hb hsm _ fun Y k2 lo2 hB2 hlo2=>?_
  have hn2:=hB2.n
  simp -dsimp only[go_sem]
  exact nB (hQ Y k2 _ hB2 (by omega))
theorem kO:bP:=by
 intro s b n H Q h1 h2 hb hsm hQ
 refine mB (fn:=Tryz.f94) Tryz.func94 rfl (by decide) (k:=11) rfl (rs:=[.tmp 6]) rfl ?_
 have hl0:=t8 H b s
 refine LB zm ?_
 simp -dsimp only[go_sem,bA,aA,cA,reduceCtorEq]
 refine oB ?_
 simp -dsimp only[go_sem,bA,aA,cA,reduceCtorEq,gA]
 refine Wb s b n H _ h1 h2 hb hsm fun X k lo hB hlo=>?_
 have hn:=hB.n
 simp -dsimp only[go_sem]
 exact nB (hQ X k _ hB (by omega))
end
end Go.Proofs.YtookdinfaoelaaaGreatDoor
