/- Own work for this claim, part 14 of 17. No condition of its own. -/
import Derived.Test.YtookdinfaoelaaaGreatDoorX12
import Derived.Test.YtookdinfaoelaaaGreatDoorX09
import Derived.Test.YtookdinfaoelaaaGreatDoorX11
set_option linter.all false
set_option maxRecDepth 100000
set_option maxHeartbeats 4000000
open Go.Lib renaming decDigits→VB,itoa→xE,nDigits→YC
open Go.Proofs.Tryz renaming prog→fA,underlying114→CC,underlying155→lE,underlying5→pD,underlying76→TA,underlying9→cD
open Go.Tw.Again renaming keep→AC
open Go.Tw.BR renaming dec→aB
open Go.Tw.DR renaming of→JC
open Go.Tw.Fz renaming slice→nC
open Go.Tw.GRev renaming zero→TB
open Go.Tw.Heap renaming get_push→yA,get_set→dA,n_push→iA,n_set→kA
open Go.Tw.MCall renaming ofW→mB
open Go.Tw.OO renaming intro→rB
open Go.Tw.Res renaming bf→AA
open Go.Tw.Sub renaming keep→RB,lower→MB
open Go.Tw.Tab.OK renaming cons→CA,nil→xA
open Go.Tw.WW renaming bar→BD,blk→MD,cut→DC,keepl→WB,loopW→dD,seq→yC,sq→PA,vc→LB
open Int renaming natAbs_natCast→GJ,ofNat_tdiv→IE,ofNat_tmod→oF
open List renaming append_nil→MA,forall_mem_cons→OA,getD_eq_getElem?_getD→DA,getElem?_eq_getElem→sA,getElem?_map→uB,length→PB,length_append→qA,length_cons→HA,length_map→bC,length_nil→SA,length_set→qB,mem_cons→IB,mem_map→oE,not_mem_nil→JA,range→CB,range_succ→KF,replicate→oA,take_of_length_le→uA,take_succ_cons→NA,take_zero→iB
open Nat renaming le_min→LH,le_refl→jA,le_trans→cB,min_self→gA,mod_eq_of_lt→kC,mul_one→wB,reduceAdd→cA,reduceEqDiff→aA,reduceLT→bA,shiftLeft_add_eq_or_of_lt→wF,shiftLeft_eq→DE,zero_add→bB,zero_lt_one→BC
open Option renaming bind_eq_bind→pA,bind_some→KA,map_some→SB
open UInt32 renaming ofNat→pB,toNat_inj→TG
open UInt8 renaming ofNat→GA,toNat_ofNat'→xG
namespace Go.Proofs.YtookdinfaoelaaaGreatDoor
section
open Go Go.Tw
open Classical
theorem CR(l:List UInt32):∀v∈l.map qC,zG v=some [v]:=by
 intro v hv
 obtain⟨x,_,rfl⟩:=oE.1 hv
 rfl
theorem JS(l:List Int):∀v∈l.map vA,zG v=some [v]:=by
 intro v hv
 obtain⟨x,_,rfl⟩:=oE.1 hv
 rfl
theorem P9(X:Heap):zx fA X 155 8 [(0,.lit (.int .u32 1779033703)),(1,.lit (.int .u32 3144134277)),(2,.lit (.int .u32 1013904242)),(3,.lit (.int .u32 2773480762)),(4,.lit (.int .u32 1359893119)),(5,.lit (.int .u32 2600822924)),(6,.lit (.int .u32 528734635)),(7,.lit (.int .u32 1541459225))]=some ⟨.sl X.n 0 8 8 none,X.push (.cells (ivW.map qC) 124),X.n⟩:=by
 have e:([(0,.lit (.int .u32 1779033703)),(1,.lit (.int .u32 3144134277)),(2,.lit (.int .u32 1013904242)),(3,.lit (.int .u32 2773480762)),(4,.lit (.int .u32 1359893119)),(5,.lit (.int .u32 2600822924)),(6,.lit (.int .u32 528734635)),(7,.lit (.int .u32 1541459225))]:List (Nat×V))=((ivW.map qC).zipIdx.map fun p=>(p.2,p.1)):=by kernel_rfl
 rw[e]
 exact WN lE qN C4 (ivW.map qC) (CR _) (by decide)
noncomputable def SV:List V->Heap->Option OR:=by
 classical
 exact GK (fun p:Nat=>match p with|i=>[vA (i:Int)]) fun p H=>match p with|i=>if i<8 then some ⟨qC (ivW.getD i 0),H,H.n⟩ else none
theorem qc(i:Nat)(hp:i<8)(H:Heap)(Q:OR->Prop)(hQ:Q ⟨qC (ivW.getD i 0),H,H.n⟩):MCall Cx 127 [vA (i:Int)] H Q:=by
 refine mB (fn:=Tryz.f127) Tryz.func127 rfl (by decide) (k:=9) rfl (rs:=[.tmp 2]) rfl ?_
 refine LB zm ?_
 simp -dsimp only[go_sem,bA,aA,reduceCtorEq,gA,P9,hp,wB,bB,BG (l:=ivW) (i:=i) hp]
 exact AA (by omega) rfl hQ
theorem HQ:CI Cx 127 SV:=kL fun i H r hr=>by
 simp only at hr
 split at hr
 ·rename_i hp
  injection hr with hr
  subst hr
  exact qc i hp H _ rfl
 ·cases hr
theorem iW(i:Nat)(hp:i<8)(H:Heap):SV [vA (i:Int)] H=some ⟨qC (ivW.getD i 0),H,H.n⟩:=by
 refine(lL (by simp+contextual [Int.ofNat_inj]) i H).trans ?_
 exact if_pos hp
theorem Q9(X:Heap):zx fA X 114 16 [(0,vA 0),(1,vA 1),(2,vA 2),(3,vA 3),(4,vA 4),(5,vA 5),(6,vA 6),(7,vA 7),(8,vA 8),(9,vA 9),(10,vA 10),(11,vA 11),(12,vA 12),(13,vA 13),(14,vA 14),(15,vA 15)]=some ⟨.sl X.n 0 16 16 none,X.push (.cells (row zW [0,1,2,3,4,5,6,7,8,9,10,11,12,13,14,15]) 3),X.n⟩:=by
 have e:([(0,vA 0),(1,vA 1),(2,vA 2),(3,vA 3),(4,vA 4),(5,vA 5),(6,vA 6),(7,vA 7),(8,vA 8),(9,vA 9),(10,vA 10),(11,vA 11),(12,vA 12),(13,vA 13),(14,vA 14),(15,vA 15)]:List (Nat×V))=((([0,1,2,3,4,5,6,7,8,9,10,11,12,13,14,15]:List Int).map vA).zipIdx.map fun p=>(p.2,p.1)):=by kernel_rfl
 rw[e]
 exact WN CC WM lS (([0,1,2,3,4,5,6,7,8,9,10,11,12,13,14,15]:List Int).map vA) (JS _) (by decide)
theorem R9(X:Heap):zx fA X 114 16 [(0,vA 14),(1,vA 10),(2,vA 4),(3,vA 8),(4,vA 9),(5,vA 15),(6,vA 13),(7,vA 6),(8,vA 1),(9,vA 12),(10,vA 0),(11,vA 2),(12,vA 11),(13,vA 7),(14,vA 5),(15,vA 3)]=some ⟨.sl X.n 0 16 16 none,X.push (.cells (row zW [14,10,4,8,9,15,13,6,1,12,0,2,11,7,5,3]) 3),X.n⟩:=by
 have e:([(0,vA 14),(1,vA 10),(2,vA 4),(3,vA 8),(4,vA 9),(5,vA 15),(6,vA 13),(7,vA 6),(8,vA 1),(9,vA 12),(10,vA 0),(11,vA 2),(12,vA 11),(13,vA 7),(14,vA 5),(15,vA 3)]:List (Nat×V))=((([14,10,4,8,9,15,13,6,1,12,0,2,11,7,5,3]:List Int).map vA).zipIdx.map fun p=>(p.2,p.1)):=by kernel_rfl
 rw[e]
 exact WN CC WM lS (([14,10,4,8,9,15,13,6,1,12,0,2,11,7,5,3]:List Int).map vA) (JS _) (by decide)
theorem S9(X:Heap):zx fA X 114 16 [(0,vA 11),(1,vA 8),(2,vA 12),(3,vA 0),(4,vA 5),(5,vA 2),(6,vA 15),(7,vA 13),(8,vA 10),(9,vA 14),(10,vA 3),(11,vA 6),(12,vA 7),(13,vA 1),(14,vA 9),(15,vA 4)]=some ⟨.sl X.n 0 16 16 none,X.push (.cells (row zW [11,8,12,0,5,2,15,13,10,14,3,6,7,1,9,4]) 3),X.n⟩:=by
 have e:([(0,vA 11),(1,vA 8),(2,vA 12),(3,vA 0),(4,vA 5),(5,vA 2),(6,vA 15),(7,vA 13),(8,vA 10),(9,vA 14),(10,vA 3),(11,vA 6),(12,vA 7),(13,vA 1),(14,vA 9),(15,vA 4)]:List (Nat×V))=((([11,8,12,0,5,2,15,13,10,14,3,6,7,1,9,4]:List Int).map vA).zipIdx.map fun p=>(p.2,p.1)):=by kernel_rfl
 rw[e]
 exact WN CC WM lS (([11,8,12,0,5,2,15,13,10,14,3,6,7,1,9,4]:List Int).map vA) (JS _) (by decide)
theorem T9(X:Heap):zx fA X 114 16 [(0,vA 7),(1,vA 9),(2,vA 3),(3,vA 1),(4,vA 13),(5,vA 12),(6,vA 11),(7,vA 14),(8,vA 2),(9,vA 6),(10,vA 5),(11,vA 10),(12,vA 4),(13,vA 0),(14,vA 15),(15,vA 8)]=some ⟨.sl X.n 0 16 16 none,X.push (.cells (row zW [7,9,3,1,13,12,11,14,2,6,5,10,4,0,15,8]) 3),X.n⟩:=by
 have e:([(0,vA 7),(1,vA 9),(2,vA 3),(3,vA 1),(4,vA 13),(5,vA 12),(6,vA 11),(7,vA 14),(8,vA 2),(9,vA 6),(10,vA 5),(11,vA 10),(12,vA 4),(13,vA 0),(14,vA 15),(15,vA 8)]:List (Nat×V))=((([7,9,3,1,13,12,11,14,2,6,5,10,4,0,15,8]:List Int).map vA).zipIdx.map fun p=>(p.2,p.1)):=by kernel_rfl
 rw[e]
 exact WN CC WM lS (([7,9,3,1,13,12,11,14,2,6,5,10,4,0,15,8]:List Int).map vA) (JS _) (by decide)
theorem U9(X:Heap):zx fA X 114 16 [(0,vA 9),(1,vA 0),(2,vA 5),(3,vA 7),(4,vA 2),(5,vA 4),(6,vA 10),(7,vA 15),(8,vA 14),(9,vA 1),(10,vA 11),(11,vA 12),(12,vA 6),(13,vA 8),(14,vA 3),(15,vA 13)]=some ⟨.sl X.n 0 16 16 none,X.push (.cells (row zW [9,0,5,7,2,4,10,15,14,1,11,12,6,8,3,13]) 3),X.n⟩:=by
 have e:([(0,vA 9),(1,vA 0),(2,vA 5),(3,vA 7),(4,vA 2),(5,vA 4),(6,vA 10),(7,vA 15),(8,vA 14),(9,vA 1),(10,vA 11),(11,vA 12),(12,vA 6),(13,vA 8),(14,vA 3),(15,vA 13)]:List (Nat×V))=((([9,0,5,7,2,4,10,15,14,1,11,12,6,8,3,13]:List Int).map vA).zipIdx.map fun p=>(p.2,p.1)):=by kernel_rfl
 rw[e]
 exact WN CC WM lS (([9,0,5,7,2,4,10,15,14,1,11,12,6,8,3,13]:List Int).map vA) (JS _) (by decide)
theorem V9(X:Heap):zx fA X 114 16 [(0,vA 2),(1,vA 12),(2,vA 6),(3,vA 10),(4,vA 0),(5,vA 11),(6,vA 8),(7,vA 3),(8,vA 4),(9,vA 13),(10,vA 7),(11,vA 5),(12,vA 15),(13,vA 14),(14,vA 1),(15,vA 9)]=some ⟨.sl X.n 0 16 16 none,X.push (.cells (row zW [2,12,6,10,0,11,8,3,4,13,7,5,15,14,1,9]) 3),X.n⟩:=by
 have e:([(0,vA 2),(1,vA 12),(2,vA 6),(3,vA 10),(4,vA 0),(5,vA 11),(6,vA 8),(7,vA 3),(8,vA 4),(9,vA 13),(10,vA 7),(11,vA 5),(12,vA 15),(13,vA 14),(14,vA 1),(15,vA 9)]:List (Nat×V))=((([2,12,6,10,0,11,8,3,4,13,7,5,15,14,1,9]:List Int).map vA).zipIdx.map fun p=>(p.2,p.1)):=by kernel_rfl
 rw[e]
 exact WN CC WM lS (([2,12,6,10,0,11,8,3,4,13,7,5,15,14,1,9]:List Int).map vA) (JS _) (by decide)
theorem W9(X:Heap):zx fA X 114 16 [(0,vA 12),(1,vA 5),(2,vA 1),(3,vA 15),(4,vA 14),(5,vA 13),(6,vA 4),(7,vA 10),(8,vA 0),(9,vA 7),(10,vA 6),(11,vA 3),(12,vA 9),(13,vA 2),(14,vA 8),(15,vA 11)]=some ⟨.sl X.n 0 16 16 none,X.push (.cells (row zW [12,5,1,15,14,13,4,10,0,7,6,3,9,2,8,11]) 3),X.n⟩:=by
 have e:([(0,vA 12),(1,vA 5),(2,vA 1),(3,vA 15),(4,vA 14),(5,vA 13),(6,vA 4),(7,vA 10),(8,vA 0),(9,vA 7),(10,vA 6),(11,vA 3),(12,vA 9),(13,vA 2),(14,vA 8),(15,vA 11)]:List (Nat×V))=((([12,5,1,15,14,13,4,10,0,7,6,3,9,2,8,11]:List Int).map vA).zipIdx.map fun p=>(p.2,p.1)):=by kernel_rfl
 rw[e]
 exact WN CC WM lS (([12,5,1,15,14,13,4,10,0,7,6,3,9,2,8,11]:List Int).map vA) (JS _) (by decide)
theorem X9(X:Heap):zx fA X 114 16 [(0,vA 13),(1,vA 11),(2,vA 7),(3,vA 14),(4,vA 12),(5,vA 1),(6,vA 3),(7,vA 9),(8,vA 5),(9,vA 0),(10,vA 15),(11,vA 4),(12,vA 8),(13,vA 6),(14,vA 2),(15,vA 10)]=some ⟨.sl X.n 0 16 16 none,X.push (.cells (row zW [13,11,7,14,12,1,3,9,5,0,15,4,8,6,2,10]) 3),X.n⟩:=by
 have e:([(0,vA 13),(1,vA 11),(2,vA 7),(3,vA 14),(4,vA 12),(5,vA 1),(6,vA 3),(7,vA 9),(8,vA 5),(9,vA 0),(10,vA 15),(11,vA 4),(12,vA 8),(13,vA 6),(14,vA 2),(15,vA 10)]:List (Nat×V))=((([13,11,7,14,12,1,3,9,5,0,15,4,8,6,2,10]:List Int).map vA).zipIdx.map fun p=>(p.2,p.1)):=by kernel_rfl
 rw[e]
 exact WN CC WM lS (([13,11,7,14,12,1,3,9,5,0,15,4,8,6,2,10]:List Int).map vA) (JS _) (by decide)
theorem Y9(X:Heap):zx fA X 114 16 [(0,vA 6),(1,vA 15),(2,vA 14),(3,vA 9),(4,vA 11),(5,vA 3),(6,vA 0),(7,vA 8),(8,vA 12),(9,vA 2),(10,vA 13),(11,vA 7),(12,vA 1),(13,vA 4),(14,vA 10),(15,vA 5)]=some ⟨.sl X.n 0 16 16 none,X.push (.cells (row zW [6,15,14,9,11,3,0,8,12,2,13,7,1,4,10,5]) 3),X.n⟩:=by
 have e:([(0,vA 6),(1,vA 15),(2,vA 14),(3,vA 9),(4,vA 11),(5,vA 3),(6,vA 0),(7,vA 8),(8,vA 12),(9,vA 2),(10,vA 13),(11,vA 7),(12,vA 1),(13,vA 4),(14,vA 10),(15,vA 5)]:List (Nat×V))=((([6,15,14,9,11,3,0,8,12,2,13,7,1,4,10,5]:List Int).map vA).zipIdx.map fun p=>(p.2,p.1)):=by kernel_rfl
 rw[e]
 exact WN CC WM lS (([6,15,14,9,11,3,0,8,12,2,13,7,1,4,10,5]:List Int).map vA) (JS _) (by decide)
theorem Z9(X:Heap):zx fA X 114 16 [(0,vA 10),(1,vA 2),(2,vA 8),(3,vA 4),(4,vA 7),(5,vA 6),(6,vA 1),(7,vA 5),(8,vA 15),(9,vA 11),(10,vA 9),(11,vA 14),(12,vA 3),(13,vA 12),(14,vA 13),(15,vA 0)]=some ⟨.sl X.n 0 16 16 none,X.push (.cells (row zW [10,2,8,4,7,6,1,5,15,11,9,14,3,12,13,0]) 3),X.n⟩:=by
 have e:([(0,vA 10),(1,vA 2),(2,vA 8),(3,vA 4),(4,vA 7),(5,vA 6),(6,vA 1),(7,vA 5),(8,vA 15),(9,vA 11),(10,vA 9),(11,vA 14),(12,vA 3),(13,vA 12),(14,vA 13),(15,vA 0)]:List (Nat×V))=((([10,2,8,4,7,6,1,5,15,11,9,14,3,12,13,0]:List Int).map vA).zipIdx.map fun p=>(p.2,p.1)):=by kernel_rfl
 rw[e]
 exact WN CC WM lS (([10,2,8,4,7,6,1,5,15,11,9,14,3,12,13,0]:List Int).map vA) (JS _) (by decide)
def CN(l:List Int):List V:=[NB zW l]
theorem zpL(l:List Int):(CN l).length=1:=rfl
@[go_sem] theorem N9(l:List Int)(r:List V):(CN l++r)[0]?=some (NB zW l):=rfl
theorem DS(n:Int):QF (zW n)=true:=rfl
def ordersI:List (List Int):=[[0,1,2,3,4,5,6,7,8,9,10,11,12,13,14,15],[14,10,4,8,9,15,13,6,1,12,0,2,11,7,5,3],[11,8,12,0,5,2,15,13,10,14,3,6,7,1,9,4],[7,9,3,1,13,12,11,14,2,6,5,10,4,0,15,8],[9,0,5,7,2,4,10,15,14,1,11,12,6,8,3,13],[2,12,6,10,0,11,8,3,4,13,7,5,15,14,1,9],[12,5,1,15,14,13,4,10,0,7,6,3,9,2,8,11],[13,11,7,14,12,1,3,9,5,0,15,4,8,6,2,10],[6,15,14,9,11,3,0,8,12,2,13,7,1,4,10,5],[10,2,8,4,7,6,1,5,15,11,9,14,3,12,13,0]]
theorem zon:ordersI=ordersW.map fun o=>o.map Int.ofNat:=by kernel_rfl
theorem aa(H X:Heap):zx fA X 175 10 [((0:Nat),V.sl H.n 0 16 16 none),((1:Nat),V.sl (H.n+1) 0 16 16 none),((2:Nat),V.sl (H.n+2) 0 16 16 none),((3:Nat),V.sl (H.n+3) 0 16 16 none),((4:Nat),V.sl (H.n+4) 0 16 16 none),((5:Nat),V.sl (H.n+5) 0 16 16 none),((6:Nat),V.sl (H.n+6) 0 16 16 none),((7:Nat),V.sl (H.n+7) 0 16 16 none),((8:Nat),V.sl (H.n+8) 0 16 16 none),((9:Nat),V.sl (H.n+9) 0 16 16 none)]=some ⟨.sl X.n 0 10 10 none,X.push (.cells [V.sl H.n 0 16 16 none,V.sl (H.n+1) 0 16 16 none,V.sl (H.n+2) 0 16 16 none,V.sl (H.n+3) 0 16 16 none,V.sl (H.n+4) 0 16 16 none,V.sl (H.n+5) 0 16 16 none,V.sl (H.n+6) 0 16 16 none,V.sl (H.n+7) 0 16 16 none,V.sl (H.n+8) 0 16 16 none,V.sl (H.n+9) 0 16 16 none] 114),X.n⟩:=by
 exact WN Tryz.underlying175 zmY B4 [V.sl H.n 0 16 16 none,V.sl (H.n+1) 0 16 16 none,V.sl (H.n+2) 0 16 16 none,V.sl (H.n+3) 0 16 16 none,V.sl (H.n+4) 0 16 16 none,V.sl (H.n+5) 0 16 16 none,V.sl (H.n+6) 0 16 16 none,V.sl (H.n+7) 0 16 16 none,V.sl (H.n+8) 0 16 16 none,V.sl (H.n+9) 0 16 16 none] (by
  intro u hu
  simp only[IB,JA,or_false] at hu
  rcases hu with rfl|rfl|rfl|rfl|rfl|rfl|rfl|rfl|rfl|rfl<;>rfl) (by simp)
theorem Cc(H:Heap)(Q:OR->Prop)(hQ:Q ⟨NB CN ordersI,H,H.n⟩):MCall Cx 146 [] H Q:=by
 refine mB (fn:=Tryz.f146) Tryz.func146 rfl (by decide) (k:=12) rfl (rs:=[.tmp 0]) rfl ?_
 refine LB zm ?_
 simp -dsimp only[go_sem,bA,aA,cA,reduceCtorEq,gA,Q9,R9,S9,T9,U9,V9,W9,X9,Y9,Z9,aa H]
 refine Res.fz (NB CN ordersI) (by omega) ?_ hQ
 refine .sl _ _ _ _ _ _ _ 10 _ (by omega) (by simp -dsimp only[go_sem,aA,cA,reduceCtorEq];rfl) (jA _) ?_
 show Fzs _ _ [V.sl H.n 0 16 16 none,V.sl (H.n+1) 0 16 16 none,V.sl (H.n+2) 0 16 16 none,V.sl (H.n+3) 0 16 16 none,V.sl (H.n+4) 0 16 16 none,V.sl (H.n+5) 0 16 16 none,V.sl (H.n+6) 0 16 16 none,V.sl (H.n+7) 0 16 16 none,V.sl (H.n+8) 0 16 16 none,V.sl (H.n+9) 0 16 16 none] [NB zW [0,1,2,3,4,5,6,7,8,9,10,11,12,13,14,15],NB zW [14,10,4,8,9,15,13,6,1,12,0,2,11,7,5,3],NB zW [11,8,12,0,5,2,15,13,10,14,3,6,7,1,9,4],NB zW [7,9,3,1,13,12,11,14,2,6,5,10,4,0,15,8],NB zW [9,0,5,7,2,4,10,15,14,1,11,12,6,8,3,13],NB zW [2,12,6,10,0,11,8,3,4,13,7,5,15,14,1,9],NB zW [12,5,1,15,14,13,4,10,0,7,6,3,9,2,8,11],NB zW [13,11,7,14,12,1,3,9,5,0,15,4,8,6,2,10],NB zW [6,15,14,9,11,3,0,8,12,2,13,7,1,4,10,5],NB zW [10,2,8,4,7,6,1,5,15,11,9,14,3,12,13,0]]
 refine .cons _ _ _ _ (nC 16 (by omega) (by simp -dsimp only[go_sem,cA,reduceCtorEq];rfl) (jA _) rfl (UH DS [0,1,2,3,4,5,6,7,8,9,10,11,12,13,14,15])) ?_
 refine .cons _ _ _ _ (nC 16 (by omega) (by simp -dsimp only[go_sem,aA,cA,reduceCtorEq];rfl) (jA _) rfl (UH DS [14,10,4,8,9,15,13,6,1,12,0,2,11,7,5,3])) ?_
 refine .cons _ _ _ _ (nC 16 (by omega) (by simp -dsimp only[go_sem,aA,cA,reduceCtorEq];rfl) (jA _) rfl (UH DS [11,8,12,0,5,2,15,13,10,14,3,6,7,1,9,4])) ?_
 refine .cons _ _ _ _ (nC 16 (by omega) (by simp -dsimp only[go_sem,aA,cA,reduceCtorEq];rfl) (jA _) rfl (UH DS [7,9,3,1,13,12,11,14,2,6,5,10,4,0,15,8])) ?_
 refine .cons _ _ _ _ (nC 16 (by omega) (by simp -dsimp only[go_sem,aA,cA,reduceCtorEq];rfl) (jA _) rfl (UH DS [9,0,5,7,2,4,10,15,14,1,11,12,6,8,3,13])) ?_
 refine .cons _ _ _ _ (nC 16 (by omega) (by simp -dsimp only[go_sem,aA,cA,reduceCtorEq];rfl) (jA _) rfl (UH DS [2,12,6,10,0,11,8,3,4,13,7,5,15,14,1,9])) ?_
 refine .cons _ _ _ _ (nC 16 (by omega) (by simp -dsimp only[go_sem,aA,cA,reduceCtorEq];rfl) (jA _) rfl (UH DS [12,5,1,15,14,13,4,10,0,7,6,3,9,2,8,11])) ?_
 refine .cons _ _ _ _ (nC 16 (by omega) (by simp -dsimp only[go_sem,aA,cA,reduceCtorEq];rfl) (jA _) rfl (UH DS [13,11,7,14,12,1,3,9,5,0,15,4,8,6,2,10])) ?_
 refine .cons _ _ _ _ (nC 16 (by omega) (by simp -dsimp only[go_sem,aA,cA,reduceCtorEq];rfl) (jA _) rfl (UH DS [6,15,14,9,11,3,0,8,12,2,13,7,1,4,10,5])) ?_
 refine .cons _ _ _ _ (nC 16 (by omega) (by simp -dsimp only[go_sem,aA,cA,reduceCtorEq];rfl) (jA _) rfl (UH DS [10,2,8,4,7,6,1,5,15,11,9,14,3,12,13,0])) ?_
 exact .nil
end
section
open Go Go.Tw
open Classical
def hb(x:Int):UInt8:=GA (IntKind.u8.wrap x).toNat
theorem kf(x:Int):0<=IntKind.u8.wrap x/\IntKind.u8.wrap x<256:=by
 simp only[IntKind.wrap,IntKind.bits,IntKind.signed]
 simp
 omega
theorem zql(x:Int):PE (hb x)=.lit (.int .u8 (IntKind.u8.wrap x)):=by
 obtain⟨h1,h2⟩:=kf x
 have:(hb x).toNat=(IntKind.u8.wrap x).toNat:=by
  rw[hb,xG]
  exact kC (by omega)
 rw[PE,this]
 congr 2
 omega
def FJ(g:Int)(i:Nat):UInt8:=hb (g.fdiv (2 ^ min (8*i) 64))
def SH(p:GRev)(d:Int):List UInt8:=[hb d,FJ p.gen 7,FJ p.gen 6,FJ p.gen 5,FJ p.gen 4,FJ p.gen 3,FJ p.gen 2,FJ p.gen 1,FJ p.gen 0]
def qJ(p:GRev)(d:Int)(ok:Bool):Bool:=(decide (p≠.zero)&&!BK p)||(decide (d≠0)&&decide (d≠1))||!ok
noncomputable def xM(p:GRev)(d:Int)(v:GV):GRev×Int:=
 if qJ p d (ZL v) then(.zero,1) else if p.gen=4611686018427387903 then(.zero,11) else(⟨IntKind.u64.wrap (p.gen+1),aS (SH p d++p.sum.toList++ED v)⟩,0)
def eM(t:List UInt8)(k:Nat):V:=if t.length=1 then .sl k 0 1 1 none else pG 1 t k
theorem Ig{X:Heap}{t:List UInt8}{k:Nat}{v:V}(c:UInt8){K:OR->Prop}{h:Hid K}(hv:v=PE c)(hk:X.get k=some (.cells (row zT t) 5))(ht:t≠[])(hsm:t.length<1048576)
  (kk:∀Y k',X.n<=Y.n->X.n<=k'->Y.get k'=some (.cells (row zT (t++[c])) 5)->(∀j,j<X.n->j≠k->Y.get j=X.get j)->∀lo,min k X.n<=lo->K ⟨eM (t++[c]) k',Y,lo⟩):OO (DH fA (X.push (.cells [v] 5)) 76 76 (eM t k) (.sl X.n 0 1 1 none)) K h:=by
 have hkn:=zq hk
 have htp:0<t.length:=List.length_pos_iff.2 ht
 by_cases h1:t.length=1
 ·subst hv
  obtain⟨a,rfl⟩:∃a,t=[a]:=by
   match t,h1 with
   | [a],_=>exact⟨a,rfl⟩
  obtain⟨i,hi,h2,h3⟩:=F4
  refine rB (r:=⟨.sl (X.n+1) 0 2 2 (some 1),(X.push (.cells [PE c] 5)).push (.cells (row zT [a,c]) 5),X.n+1⟩) ?_ ?_
  ·have g1:(X.push (.cells [PE c] 5)).get k=some (.cells (row zT [a]) 5):=by rw[zj _ hkn,hk]
   have g2:(X.push (.cells [PE c] 5)).get X.n=some (.cells [PE c] 5):=by rw[yA,if_pos rfl]
   have e:eM [a] k=.sl k 0 1 1 none:=rfl
   rw[e]
   unfold DH
   rw[TA]
   simp only[hi,h2,h3,mJ,cellsOf,g1,g2,NS,pA,KA]
   simp[V.one,row,zT,iA]
  ·have:=kk ((X.push (.cells [PE c] 5)).push (.cells (row zT [a,c]) 5)) (X.n+1) (by rw[iA,iA];omega) (by omega) (by rw[yA,if_pos (by rw[iA])];rfl) (fun j hj _=>by rw[zj _ (by rw[iA];omega),zj _ hj]) (X.n+1) (by omega)
   have e:eM ([a]++[c]) (X.n+1)=.sl (X.n+1) 0 2 2 (some 1):=rfl
   rw[e] at this
   exact this
 ·have e1:eM t k=iH t k:=if_neg h1
  rw[e1]
  refine rM c hv (fun _=>hk) (by omega) fun Y k' lo hB hlo=>?_
  have hn:=hB.n
  have hne:t++[c]≠[]:=by simp
  have e2:eM (t++[c]) k'=iH (t++[c]) k':=if_neg (by rw[qA];simp;omega)
  have hl:lob X k t=min k X.n:=if_neg ht
  have:=kk Y k' hn ?_ (hB.cell hne) (fun j hj hjk=>hB.old j hj (.inl hjk)) lo (by omega)
  ·rw[e2] at this;exact this
  ·rcases hB.new with⟨_,h2⟩|h2
   ·have:=congrArg PB h2
    simp at this
   ·exact h2
theorem AT(H:Heap)(s:ByteArray)(hs:s.size<=1048576):bL fA H 9 76 (gE s)=some ⟨.sl H.n 0 s.size s.size (some 1),H.push (.cells (row zT (sB s)) 5),H.n⟩:=by
 unfold bL
 rw[cD,TA]
 simp only[pD,iM]
 rw[if_pos ⟨by omega,trivial⟩,SL]
theorem zol:(match Tryz.prog.underlying 32 with|some (.struct fs)=>L2 fA fs.toList|_=>none)=some [(0,1),(1,16)]:=by kernel_rfl
theorem zlP(g:Int)(s:gO):fL fA 32 [(0,.lit (.int .u64 g)),(1,.agg (FH s))]=some (.agg (ze ⟨g,s⟩)):=by
 have hp:=zol
 unfold fL
 rw[sk]
 cases hu:Tryz.prog.underlying 32 with
 | none=>rw[hu] at hp;cases hp
 | some d=>
  rw[hu] at hp
  cases d with
  | struct fs=>
   simp only at hp
   have h1:zD (ze TB) 0 [TC g]=some (TC g::FH GRev.zero.sum):=rfl
   have h2:zD (TC g::FH GRev.zero.sum) 1 (FH s)=some (ze ⟨g,s⟩):=by
    have:=eN [TC g] (FH GRev.zero.sum) [] (FH s) (o:=1) rfl (by rw[zX,zX])
    simpa[ze] using this
   have l2:=zX s
   simp only[hp,pA,KA,ZM,List.getElem?_cons_zero,List.getElem?_cons_succ,zob,tf,HA,SA,h1,l2,h2,if_true]
  | _=>cases hp
theorem zlz(s:gO):V.fl (.agg (FH s))=true:=by
 show VJ (FH s)=true
 unfold FH
 induction s.toList with
 | nil=>rfl
 | cons x l ih=>simp[VJ,V.fl,ih]
theorem qL(r:GRev)(n:Int):V.bf (.tup [.agg (ze r),vA n])=true:=by simp[V.bf,QF,zz]
def HO(v:GV):Prop:=v.wf/\GN v/\(nJ v 8=true->(ED v).length<=1048576)
theorem Ak(hAI:bP):Lk HO xM:=by
 intro p d v H Q ⟨hw,hnu,hsm⟩ hQ
 refine mB (fn:=Tryz.f13) Tryz.func13 rfl (by decide) (k:=71) rfl (rs:=[.cell 6 32,.tmp 7]) rfl ?_
 refine PA zm ?_
 simp -dsimp only[go_sem,bA,aA,cA,reduceCtorEq,gA]
 refine PA zm ?_
 simp -dsimp only[go_sem,bA,aA,cA,reduceCtorEq]
 refine MV.fn ?_
 simp -dsimp only[go_sem,bA,aA,reduceCtorEq]
 refine m_41 hAI v hw hnu hsm _ _ ?_
 simp -dsimp only[go_sem,bA,aA,cA,reduceCtorEq]
 obtain⟨mv,hmv⟩:∃b,ZL v=b:=⟨_,rfl⟩
 have e0:(cS v).2=if mv then 0 else 1:=by rw[cS,<-hmv];split<;>rfl
 rw[e0]
 have hQ2:Q ⟨.tup [.agg (ze (if qJ p d mv then(TB,(1:Int)) else if p.gen=4611686018427387903 then(.zero,11) else(⟨IntKind.u64.wrap (p.gen+1),aS (SH p d++p.sum.toList++ED v)⟩,0)).1),vA (if qJ p d mv then(TB,(1:Int)) else if p.gen=4611686018427387903 then(.zero,11) else(⟨IntKind.u64.wrap (p.gen+1),aS (SH p d++p.sum.toList++ED v)⟩,0)).2],H,H.n⟩:=by
  rw[xM,hmv] at hQ;exact hQ
 clear hQ
 have hpr:(cS v).1=if mv then⟨(ED v).toArray⟩ else .empty:=by rw[cS,<-hmv];split<;>rfl
 generalize (cS v).1=ps at hpr
 refine DC zm (ι:=Unit) (fun _=>[(1,vA d),(3,.ptr H.n 0),(6,.ptr (H.n+2) 0),(8,gE ps)]) (fun _=>((H.push (.cells (ze p) 32)).push (.cells (zR v) 36)).push (.cells (ze TB) 32)) (fun _=>H.n) (fun _=>qJ p d mv=false/\p.gen≠4611686018427387903) ?_ ?_
 ·have hbad:qJ p d mv=true->Q ⟨.tup [.agg (ze .zero),vA 1],H,H.n⟩:=fun h=>by
   rw[if_pos h] at hQ2;exact hQ2
  have e2:((0:Int)≠0)=False:=by simp
  have e3:((1:Int)≠0)=True:=by simp
  simp -dsimp only[go_sem,bA,aA,cA,reduceCtorEq]
  refine GD.dec (fun h1=>?_) (fun h1=>?_)<;>simp -dsimp only[go_sem,bA,aA,cA,reduceCtorEq,h1]
  ·refine MV.tab _ ((CA (JQ) xA)) ?_
   cases h2:BK p<;>simp -dsimp only[go_sem,bA,aA,cA,reduceCtorEq,h1,h2]
   ·exact AA (by omega) (qL _ _) (hbad (by simp[qJ,h1,h2]))
   refine GD.dec (fun h3=>?_) (fun h3=>?_)<;>simp -dsimp only[go_sem,bA,aA,reduceCtorEq,h1,h3]
   ·refine GD.dec (fun h4=>?_) (fun h4=>?_)<;>simp -dsimp only[go_sem,bA,aA,cA,reduceCtorEq,h1,h3,h4]
    ·exact AA (by omega) (qL _ _) (hbad (by simp[qJ,h1,h2,h3,h4]))
    cases mv<;>simp -dsimp only[go_sem,bA,aA,cA,reduceCtorEq,h1,h3,h4]
    ·exact AA (by omega) (qL _ _) (hbad (by simp[qJ]))
    refine aB (fun hs=>?_) (fun hs=>?_)<;>simp -dsimp only[go_sem,bA,aA,cA,reduceCtorEq,h1,h3,h4,hs]
    ·refine AA (by omega) (qL _ _) ?_
     rw[if_neg (by simp[qJ,h1,h2,h3,h4]),if_pos hs] at hQ2
     exact hQ2
    ·refine zAg (some ()) ?_
     exact⟨by simp[qJ,h1,h2,h3,h4],hs⟩
   ·skip
    cases mv<;>simp -dsimp only[go_sem,bA,aA,cA,reduceCtorEq,h1,h3]
    ·exact AA (by omega) (qL _ _) (hbad (by simp[qJ]))
    refine aB (fun hs=>?_) (fun hs=>?_)<;>simp -dsimp only[go_sem,bA,aA,cA,reduceCtorEq,h1,h3,hs]
    ·refine AA (by omega) (qL _ _) ?_
     rw[if_neg (by simp[qJ,h1,h2,h3]),if_pos hs] at hQ2
     exact hQ2
    ·refine zAg (some ()) ?_
     exact⟨by simp[qJ,h1,h2,h3],hs⟩
  ·skip
   refine GD.dec (fun h3=>?_) (fun h3=>?_)<;>simp -dsimp only[go_sem,bA,aA,reduceCtorEq,h1,h3]
   ·refine GD.dec (fun h4=>?_) (fun h4=>?_)<;>simp -dsimp only[go_sem,bA,aA,cA,reduceCtorEq,h1,h3,h4]
    ·exact AA (by omega) (qL _ _) (hbad (by simp[qJ,h1,h3,h4]))
    cases mv<;>simp -dsimp only[go_sem,bA,aA,cA,reduceCtorEq,h1,h3,h4]
    ·exact AA (by omega) (qL _ _) (hbad (by simp[qJ]))
    refine aB (fun hs=>?_) (fun hs=>?_)<;>simp -dsimp only[go_sem,bA,aA,cA,reduceCtorEq,h1,h3,h4,hs]
    ·refine AA (by omega) (qL _ _) ?_
     rw[if_neg (by simp[qJ,h1,h3,h4]),if_pos hs] at hQ2
     exact hQ2
    ·refine zAg (some ()) ?_
     exact⟨by simp[qJ,h1,h3,h4],hs⟩
   ·skip
    cases mv<;>simp -dsimp only[go_sem,bA,aA,cA,reduceCtorEq,h1,h3]
    ·exact AA (by omega) (qL _ _) (hbad (by simp[qJ]))
    refine aB (fun hs=>?_) (fun hs=>?_)<;>simp -dsimp only[go_sem,bA,aA,cA,reduceCtorEq,h1,h3,hs]
    ·refine AA (by omega) (qL _ _) ?_
     rw[if_neg (by simp[qJ,h1,h3]),if_pos hs] at hQ2
     exact hQ2
    ·refine zAg (some ()) ?_
     exact⟨by simp[qJ,h1,h3],hs⟩
 ·rintro⟨⟩ ⟨hg,hs⟩
  have hmt:mv=true:=by
   cases mv with
   | true=>rfl
   | false=>simp[qJ] at hg
  subst hmt
  rw[if_pos rfl] at hpr
  subst hpr
  rw[if_neg (by rw[hg];exact Bool.false_ne_true),if_neg hs] at hQ2
  generalize hX:((H.push (.cells (ze p) 32)).push (.cells (zR v) 36)).push (.cells (ze TB) 32)=X
  have xn:X.n=H.n+3:=by rw[<-hX];simp -dsimp only[go_sem,cA]
  have x0:X.get H.n=some (.cells (ze p) 32):=by rw[<-hX];simp -dsimp only[go_sem,cA,reduceCtorEq]
  have x2:X.get (H.n+2)=some (.cells (ze TB) 32):=by rw[<-hX];simp -dsimp only[go_sem,aA,cA,reduceCtorEq]
  clear hX
  refine PA zm ?_
  simp -dsimp only[go_sem,bA,aA,zf,zh]
  refine DC zm (ι:=Heap×Nat) (fun p'=>[(3,.ptr H.n 0),(6,.ptr (H.n+2) 0),(8,gE ⟨(ED v).toArray⟩),(10,iH (SH p d) p'.2)]) (fun p'=>p'.1) (fun _=>H.n) (fun p'=>H.n+3<=p'.2/\p'.1.get p'.2=some (.cells (row zT (SH p d)) 5)/\p'.1.get H.n=some (.cells (ze p) 32)/\p'.1.get (H.n+2)=some (.cells (ze TB) 32)) ?_ ?_
  ·simp -dsimp only[go_sem,bA]
   refine dD (ι:=Nat×List UInt8×Heap×Nat) (fun q=>[(3,.ptr H.n 0),(6,.ptr (H.n+2) 0),(8,gE ⟨(ED v).toArray⟩),(10,eM q.2.1 q.2.2.2),(11,vA (7-(q.1:Int)))]) (fun q=>q.2.2.1) (fun _=>H.n)
    (fun q=>q.1<=8/\q.2.1=(SH p d).take (q.1+1)/\H.n+3<=q.2.2.2/\q.2.2.1.get q.2.2.2=some (.cells (row zT q.2.1) 5)/\q.2.2.1.get H.n=some (.cells (ze p) 32)/\q.2.2.1.get (H.n+2)=some (.cells (ze TB) 32)) (fun q=>8-q.1) (0,[hb d],X.push (.cells [PE (hb d)] 5),X.n) ?_ ?_ ?_
   ·dsimp only
    exact⟨by omega,rfl,by omega,by rw[yA,if_pos rfl];rfl,by rw[zj _ (by omega),x0],by rw[zj _ (by omega),x2]⟩
   ·dsimp only
    rw[zql]
    have e7:(7:Int)-((0:Nat):Int)=7:=by omega
    have eh:eM [hb d] X.n=.sl X.n 0 1 1 none:=rfl
    rw[e7,eh]
    refine(MB (lo2:=H.n) (by omega)).trans (RB _ zSl)
    done
   rintro⟨i,t,Y,k⟩ ⟨hi,ht,hk,yk,y0,y2⟩
   simp only at hi ht hk yk y0 y2 ⊢
   have kn:=zq yk
   have tl:t.length=i+1:=by rw[ht,List.length_take,show(SH p d).length=9 from rfl];omega
   have htn:t≠[]:=fun e=>by rw[e] at tl;simp at tl
   refine PA zm ?_
   simp -dsimp only[go_sem,bA,aA,zf,zh]
   refine aB (fun h=>?_) (fun h=>?_)<;>simp -dsimp only[go_sem,aA,h]
   ·have hi7:i<=7:=by omega
    have w1:IntKind.i64.wrap (8*(7-(i:Int)))=((8*(7-i):Nat):Int):=by rw[zw (by omega) (by omega)];omega
    have w2:(((8*(7-i):Nat):Int)<0)=False:=eq_false (by omega)
    have w3:(((8*(7-i):Nat):Int)).toNat=8*(7-i):=by omega
    have w4:IntKind.i64.wrap (7-(i:Int)-1)=7-((i+1:Nat):Int):=by rw[zw (by omega) (by omega)];omega
    refine yC ?_
    refine MD ?_
    refine LB zm ?_
    simp -dsimp only[go_sem,bA,aA,y0,w1,w2,w3]
    refine Ig (FJ p.gen (7-i)) (by rw[FJ,zql]) yk htn (by omega) fun Z k2 zn hk2 zk zo lo2 hlo2=>?_
    have hlo3:H.n<=lo2:=cB (LH.2 ⟨by omega,by omega⟩) hlo2
    clear hlo2
    simp -dsimp only[go_sem,bA,aA]
    refine LB zm ?_
    simp -dsimp only[go_sem,bA,aA,w4]
    have hnx:t++[FJ p.gen (7-i)]=(SH p d).take (i+1+1):=by
     have h9:(SH p d)[i+1]?=some (FJ p.gen (7-i)):=by
      have:∀i,i<=7->(SH p d)[i+1]?=some (FJ p.gen (7-i)):=fun i hi=>by
       match i,hi with
       | 0,_=>rfl
       | 1,_=>rfl
       | 2,_=>rfl
       | 3,_=>rfl
       | 4,_=>rfl
       | 5,_=>rfl
       | 6,_=>rfl
       | 7,_=>rfl
       | i+8,h=>omega
      exact this i hi7
     rw[List.take_add_one (i:=i+1),h9,ht]
     rfl
    refine zAg (i+1,t++[FJ p.gen (7-i)],Z,k2) ?_
    dsimp only
    exact⟨by omega,hnx,by omega,zk,by rw[zo _ (by omega) (by omega),y0],by rw[zo _ (by omega) (by omega),y2]⟩
   ·obtain rfl:i=8:=by omega
    have et:t=SH p d:=ht
    subst et
    refine AC (some (Y,k)) ⟨hk,yk,y0,y2⟩ BC ?_ rfl ?_
    ·show ∀q∈[(3,V.ptr H.n 0),(6,.ptr (H.n+2) 0),(8,gE ⟨(ED v).toArray⟩),(10,iH (SH p d) k)],_
     have eh:eM (SH p d) k=iH (SH p d) k:=rfl
     rw[<-eh]
     (focus (simp -dsimp only[go_sem,aA,OA,JA,false_implies,implies_true]<;>(try simp (disch:=omega) only[zw,xJ,vK,AK])<;>(try simp)<;>(try omega)))
    ·show H.n<=_
     omega
  ·rintro⟨Y,k⟩ ⟨hk,yk,y0,y2⟩
   dsimp only at hk yk y0 y2
   have kn:=zq yk
   have ebuf:iH (SH p d) k=.sl k 0 9 9 (some 1):=rfl
   have tsz:(⟨(ED v).toArray⟩:ByteArray).size=(ED v).length:=rfl
   have t512:(ED v).length<=512:=by
    simp only[ZL,Bool.and_eq_true,decide_eq_true_eq] at hmv
    exact hmv.2
   have sl16:p.sum.toList.length=16:=by simp
   rw[ebuf]
   generalize hY2:(Y.push (.cells (row zT (ED v)) 5)).push (.cells [.sl k 0 9 9 (some 1),.sl H.n 1 16 16 none,.sl Y.n 0 (ED v).length (ED v).length (some 1)] 76)=Y2
   have z1:Y2.get k=some (.cells (row zT (SH p d)) 5):=by rw[<-hY2,zj _ (by rw[iA];omega),zj _ kn,yk]
   have z0:Y2.get H.n=some (.cells (ze p) 32):=by rw[<-hY2,zj _ (by rw[iA];omega),zj _ (by omega),y0]
   have zt:Y2.get Y.n=some (.cells (row zT (ED v)) 5):=by rw[<-hY2,zj _ (by rw[iA];omega),yA,if_pos rfl]
   have z3:Y2.get (Y.n+1)=some (.cells [.sl k 0 9 9 (some 1),.sl H.n 1 16 16 none,.sl Y.n 0 (ED v).length (ED v).length (some 1)] 76):=by rw[<-hY2,yA,if_pos (by rw[iA])]
   have z2:Y2.get (H.n+2)=some (.cells (ze TB) 32):=by rw[<-hY2,zj _ (by rw[iA];omega),zj _ (by omega),y2]
   have zn:Y2.n=Y.n+2:=by rw[<-hY2,iA,iA]
   have f1:Fz (fun _=>True) Y2 (.sl k 0 9 9 (some 1)) (NB zT (SH p d)):=nC 9 trivial z1 (jA _) rfl (UH UM _)
   have f2:Fz (fun _=>True) Y2 (.sl H.n 1 16 16 none) (NB zT p.sum.toList):=by
    have e:NB zT p.sum.toList=.pn (row zT p.sum.toList) 16:=by rw[NB,sl16]
    rw[e]
    refine nC 16 trivial z0 (jA _) ?_ (UH UM _)
    rw[SL]
    show(FH p.sum).take 16=_
    rw[uA (by rw[zX];omega)]
    rfl
   have f3:Fz (fun _=>True) Y2 (.sl Y.n 0 (ED v).length (ED v).length (some 1)) (NB zT (ED v)):=nC ((ED v).length*1) trivial zt (jA _) (by rw[List.drop_zero,qO wK,List.take_length]) (UH UM _)
   have fl3:[SH p d,p.sum.toList,ED v].flatten=SH p d++p.sum.toList++ED v:=by simp
   have fz:Fzs (fun _=>True) Y2 [.sl (Y.n+1) 0 3 3 none] [NB aN [SH p d,p.sum.toList,ED v]]:=
    .one (.sl _ _ _ _ _ _ _ 3 _ trivial z3 (jA _) (.cons _ _ _ _ f1 (.cons _ _ _ _ f2 (.cons _ _ _ _ f3 .nil))))
   refine yC ?_
   refine BD zm 11 (by decide) (by kernel_rfl) ?_
   dsimp only[NA,iB]
   refine JC _ ((CA (Z7 (xs:=[.sl (Y.n+1) 0 3 3 none]) [NB aN [SH p d,p.sum.toList,ED v]] fz (zlz _) (m_43 [SH p d,p.sum.toList,ED v] (by simp) (by rw[fl3,qA,qA,sl16,show(SH p d).length=9 from rfl];omega) Y2 _ rfl)) xA)) (by kernel_rfl) ?_
   have bs3:∀X:Heap,zx fA X 100 3 [(0,.sl k 0 9 9 (some 1)),(1,.sl H.n 1 16 16 none),(2,.sl Y.n 0 (ED v).length (ED v).length (some 1))]=some ⟨.sl X.n 0 3 3 none,X.push (.cells [.sl k 0 9 9 (some 1),.sl H.n 1 16 16 none,.sl Y.n 0 (ED v).length (ED v).length (some 1)] 76),X.n⟩:=fun X=>WN Tryz.underlying100 zl6 LX [_,_,_] (by intro u hu;simp only[IB,JA,or_false] at hu;rcases hu with rfl|rfl|rfl<;>rfl) (by simp)
   have csb:=AT Y ⟨(ED v).toArray⟩ (by rw[tsz];omega)
   have esb:sB ⟨(ED v).toArray⟩=ED v:=rfl
   rw[tsz,esb] at csb
   simp -dsimp only[go_sem,bA,aA,zf,zh,y0,csb,bs3,hY2,fl3,zlP]
   generalize hr:(⟨IntKind.u64.wrap (p.gen+1),aS (SH p d++p.sum.toList++ED v)⟩:GRev)=r at hQ2
   have lr:=zi r
   have or1:=UR r
   have sp:zD (ze TB) 0 (ze r)=some (ze r):=DM _ _ (by rw[zi,zi])
   have hlt:H.n+2<Y2.n:=by omega
   simp -dsimp only[go_sem,bA,z2,lr,or1,sp]
   refine LB zm ?_
   simp -dsimp only[go_sem,aA,hlt]
   exact AA (by omega) (qL _ _) hQ2
end
section
open Go Go.Tw
open Classical
theorem EZ(P:Program)(t:TypeId)(x:UInt32):jE P .mul t (.lit (.int .u32 256)) (qC x)=some (qC (256*x))/\jE P .mul t (.lit (.int .u32 65536)) (qC x)=some (qC (65536*x))/\jE P .mul t (.lit (.int .u32 16777216)) (qC x)=some (qC (16777216*x)):=⟨zo1 P t 256 x,zo1 P t 65536 x,zo1 P t 16777216 x⟩
@[go_sem high] theorem mul1(P:Program)(t:TypeId)(x:UInt32):jE P .mul t (.lit (.int .u32 256)) (.lit (.int .u32 x.toNat))=some (qC (256*x)):=(EZ P t x).1
@[go_sem high] theorem mul2(P:Program)(t:TypeId)(x:UInt32):jE P .mul t (.lit (.int .u32 65536)) (.lit (.int .u32 x.toNat))=some (qC (65536*x)):=(EZ P t x).2.1
@[go_sem high] theorem mul3(P:Program)(t:TypeId)(x:UInt32):jE P .mul t (.lit (.int .u32 16777216)) (.lit (.int .u32 x.toNat))=some (qC (16777216*x)):=(EZ P t x).2.2
theorem SU(a b c d:UInt8):a.toUInt32+(256:UInt32)*b.toUInt32+(65536:UInt32)*c.toUInt32+(16777216:UInt32)*d.toUInt32=a.toUInt32||| (b.toUInt32 <<< 8)||| (c.toUInt32 <<< 16)||| (d.toUInt32 <<< 24):=by
 have ha:=a.toNat_lt
 have hb:=b.toNat_lt
 have hc:=c.toNat_lt
 have hd:=d.toNat_lt
 apply TG.1
 simp only[UInt32.toNat_add,UInt32.toNat_mul,UInt32.toNat_or,UInt32.toNat_shiftLeft,UInt8.toNat_toUInt32]
 have e8:(8:UInt32).toNat % 32=8:=rfl
 have e16:(16:UInt32).toNat % 32=16:=rfl
 have e24:(24:UInt32).toNat % 32=24:=rfl
 have f1:(256:UInt32).toNat=256:=rfl
 have f2:(65536:UInt32).toNat=65536:=rfl
 have f3:(16777216:UInt32).toNat=16777216:=rfl
 rw[e8,e16,e24,f1,f2,f3]
 have s1:b.toNat <<< 8 % 2 ^ 32=b.toNat <<< 8:=kC (by rw[DE];omega)
 have s2:c.toNat <<< 16 % 2 ^ 32=c.toNat <<< 16:=kC (by rw[DE];omega)
 have s3:d.toNat <<< 24 % 2 ^ 32=d.toNat <<< 24:=kC (by rw[DE];omega)
 rw[s1,s2,s3]
 have o1:a.toNat||| b.toNat <<< 8=b.toNat <<< 8+a.toNat:=by rw[Nat.or_comm,wF (by omega)]
 have l1:b.toNat <<< 8+a.toNat<2 ^ 16:=by rw[DE];omega
 have o2:(b.toNat <<< 8+a.toNat)||| c.toNat <<< 16=c.toNat <<< 16+(b.toNat <<< 8+a.toNat):=by rw[Nat.or_comm,wF l1]
 have l2:c.toNat <<< 16+(b.toNat <<< 8+a.toNat)<2 ^ 24:=by simp only[DE] at *;omega
 have o3:(c.toNat <<< 16+(b.toNat <<< 8+a.toNat))||| d.toNat <<< 24=d.toNat <<< 24+(c.toNat <<< 16+(b.toNat <<< 8+a.toNat)):=by rw[Nat.or_comm,wF l2]
 rw[o1,o2,o3]
 simp only[DE]
 omega
def dX(b:List UInt8)(i:Nat):UInt32:=w8 b (4*i)+256*w8 b (4*i+1)+65536*w8 b (4*i+2)+16777216*w8 b (4*i+3)
theorem JR(b:List UInt8)(i:Nat):dX b i=SO b i:=SU _ _ _ _
theorem zjh(H:Heap):kX fA H 155 (vA 16) (vA 16)=some ⟨.sl H.n 0 16 16 none,H.push (.cells ((oA 16 (0:UInt32)).map qC) 124),H.n⟩:=by
 have h:(Tryz.prog.info? 124).map (fun i=>(i.size,i.bytes))=some (1,4):=by kernel_rfl
 have hz:zE fA 124=some [qC 0]:=by kernel_rfl
 cases e:Tryz.prog.info? 124 with
 | none=>rw[e] at h;cases h
 | some i=>
  rw[e] at h
  simp only[SB,Option.some.injEq,Prod.mk.injEq] at h
  unfold kX
  rw[lE]
  simp only[e,hz,pA,KA,h.1,h.2]
  rw[if_pos (by decide)]
  rfl
def UO(h:List UInt32):Nat->List UInt32
 | 0=>oA 16 0
 | i+1=>((UO h i).set i (h.getD i 0)).set (i+8) (ivW.getD i 0)
theorem zlm(h:List UInt32):∀i,(UO h i).length=16
 | 0=>rfl
 | i+1=>by rw[UO,qB,qB,zlm h i]
theorem GU(h:List UInt32)(hh:h.length=8):UO h 8=h++ivW:=by
 match h,hh with
 | [a,b,c,d,e,f,g,i],_=>rfl
theorem YY(b:Nat):zv fA 155 (.sl b 0 16 16 none) (vA 12)=some (.ptr b 12):=by
 rw[mQ lE qN b 0 16 16 none .i64 12 (by decide)];rfl
theorem ZY(b:Nat):zv fA 155 (.sl b 0 16 16 none) (vA 13)=some (.ptr b 13):=by
 rw[mQ lE qN b 0 16 16 none .i64 13 (by decide)];rfl
theorem aZ(b:Nat):zv fA 155 (.sl b 0 16 16 none) (vA 14)=some (.ptr b 14):=by
 rw[mQ lE qN b 0 16 16 none .i64 14 (by decide)];rfl
theorem xorC(P:Program)(t:TypeId)(x:UInt32):jE P .xor t (.lit (.int .u32 x.toNat)) (.lit (.int .u32 4294967295))=some (qC (0xffffffff ^^^ x)):=by
 rw[UInt32.xor_comm]
 exact GR P t x 0xffffffff
theorem PM(ow:List Nat)(ho:ow.length=16)(j:Nat)(hj:j<16):zv fA 114 (NB zW (ow.map Int.ofNat)) (vA (j:Int))=some (.pp (zW ((ow.getD j 0:Nat):Int)++row zW ((ow.map Int.ofNat).drop (j+1)))):=by
 have hl:(ow.map Int.ofNat).length=16:=by rw[bC,ho]
 have hx:(ow.map Int.ofNat)[j]?=some ((ow.getD j 0:Nat):Int):=by
  rw[uB,DA,sA (by omega)]
  rfl
 rw[zpX,hl,if_pos hj,z7 zgW hx]
structure MixR(H X:Heap)(h m v:List UInt32):Prop where
 n:H.n+4<=X.n
 h:X.get H.n=some (.cells (h.map qC) 125)
 r:X.get (H.n+1)=some (.cells ((oA 8 (0:UInt32)).map qC) 125)
 m:X.get (H.n+2)=some (.cells (m.map qC) 124)
 v:X.get (H.n+3)=some (.cells (v.map qC) 124)
theorem MixR.setv{H X:Heap}{h m v:List UInt32}(k:MixR H X h m v)(u:List UInt32):MixR H (X.set (H.n+3) (.cells (u.map qC) 124)) h m u:=by
 have hn:=k.n
 have wo:∀B j,j≠H.n+3->(X.set (H.n+3) B).get j=X.get j:=fun B j hj=>by rw[dA,if_neg (fun g=>hj g.1)]
 exact⟨by rw[kA];exact hn,by rw[wo _ _ (by omega),k.h],by rw[wo _ _ (by omega),k.r],by rw[wo _ _ (by omega),k.m],by rw[dA,if_pos ⟨rfl,by omega⟩]⟩
theorem MixR.upd{H X Y:Heap}{h m v u:List UInt32}(k:MixR H X h m v)(hU:Upd X Y (H.n+3) u 124):MixR H Y h m u:=by
 have hn:=k.n
 exact⟨by rw[hU.n];exact hn,by rw[hU.old _ (by omega),k.h],by rw[hU.old _ (by omega),k.r],by rw[hU.old _ (by omega),k.m],hU.at_⟩
theorem tW(h:List UInt32)(hh:h.length=8)(b:List UInt8)(hb:b.length=64)(n:Nat)(hn:n<18446744073709551616)(last:Bool)(H:Heap)(Q:OR->Prop)(hQ:Q ⟨.agg ((oL h b n last).map qC),H,H.n⟩):MCall Cx 126 [.agg (h.map qC),NB zT b,TC n,.lit (.bool last)] H Q:=by
 refine mB (fn:=Tryz.f126) Tryz.func126 rfl (by decide) (k:=242) rfl (rs:=[.cell 8 125]) rfl ?_
 refine PA zm ?_
 simp -dsimp only[go_sem,bA,cA,reduceCtorEq,gA]
 refine PA zm ?_
 simp -dsimp only[go_sem,bA,aA,cA,reduceCtorEq,zjh]
 generalize hX:((H.push (.cells (h.map qC) 125)).push (.cells ((oA 8 (0:UInt32)).map qC) 125)).push (.cells ((oA 16 (0:UInt32)).map qC) 124)=X
 have xn:X.n=H.n+3:=by rw[<-hX];simp -dsimp only[go_sem,cA]
 have x0:X.get H.n=some (.cells (h.map qC) 125):=by rw[<-hX];simp -dsimp only[go_sem,cA,reduceCtorEq]
 have x1:X.get (H.n+1)=some (.cells ((oA 8 (0:UInt32)).map qC) 125):=by rw[<-hX];simp -dsimp only[go_sem,aA,cA,reduceCtorEq]
 have x2:X.get (H.n+2)=some (.cells ((oA 16 (0:UInt32)).map qC) 124):=by rw[<-hX];simp -dsimp only[go_sem,aA,cA,reduceCtorEq]
 clear hX
 refine DC zm (ι:=Heap) (fun _=>[(2,TC n),(3,.lit (.bool last)),(4,.ptr H.n 0),(8,.ptr (H.n+1) 0),(9,.sl (H.n+2) 0 16 16 none)]) (fun p=>p) (fun _=>H.n) (fun p=>p.n=H.n+3/\p.get H.n=some (.cells (h.map qC) 125)/\p.get (H.n+1)=some (.cells ((oA 8 (0:UInt32)).map qC) 125)/\p.get (H.n+2)=some (.cells ((UL b).map qC) 124)) ?_ ?_
 ·simp -dsimp only[go_sem,bA]
  refine dD (ι:=Nat×Heap) (fun p=>[(1,NB zT b),(2,TC n),(3,.lit (.bool last)),(4,.ptr H.n 0),(8,.ptr (H.n+1) 0),(9,.sl (H.n+2) 0 16 16 none),(10,vA p.1)]) (fun p=>p.2) (fun _=>H.n) (fun p=>p.1<=16/\p.2.n=H.n+3/\p.2.get H.n=some (.cells (h.map qC) 125)/\p.2.get (H.n+1)=some (.cells ((oA 8 (0:UInt32)).map qC) 125)/\p.2.get (H.n+2)=some (.cells (((CB p.1).map (SO b)++oA (16-p.1) 0).map qC) 124)) (fun p=>16-p.1) (0,X) ⟨by omega,xn,x0,x1,x2⟩ ?_ ?_
  ·refine(MB (lo2:=H.n) (by omega)).trans (RB _ zSl)
  rintro⟨i,Y⟩ ⟨hi,yn,y0,y1,y2⟩
  simp only at hi yn y0 y1 y2 ⊢
  refine PA zm ?_
  simp -dsimp only[go_sem,bA,aA,zf,zh]
  refine aB (fun k=>?_) (fun k=>?_)<;>simp -dsimp only[go_sem,aA,k]
  ·have hi16:i<16:=by omega
   obtain⟨b0,e0⟩:=zu (l:=b) (i:=4*i) (by omega)
   obtain⟨b1,e1⟩:=zu (l:=b) (i:=4*i+1) (by omega)
   obtain⟨b2,e2⟩:=zu (l:=b) (i:=4*i+2) (by omega)
   obtain⟨b3,e3⟩:=zu (l:=b) (i:=4*i+3) (by omega)
   have w0:IntKind.i64.wrap (4*(i:Int))=((4*i:Nat):Int):=by rw[zw (by omega) (by omega)];omega
   have w1:IntKind.i64.wrap (((4*i:Nat):Int)+1)=((4*i+1:Nat):Int):=by rw[zw (by omega) (by omega)];omega
   have w2:IntKind.i64.wrap (((4*i:Nat):Int)+2)=((4*i+2:Nat):Int):=by rw[zw (by omega) (by omega)];omega
   have w3:IntKind.i64.wrap (((4*i:Nat):Int)+3)=((4*i+3:Nat):Int):=by rw[zw (by omega) (by omega)];omega
   have c0:4*i<b.length:=by omega
   have c1:4*i+1<b.length:=by omega
   have c2:4*i+2<b.length:=by omega
   have c3:4*i+3<b.length:=by omega
   have r0:(row zT b)[4*i]?=some (PE b0):=by rw[SL,uB,e0];rfl
   have r1:(row zT b)[4*i+1]?=some (PE b1):=by rw[SL,uB,e1];rfl
   have r2:(row zT b)[4*i+2]?=some (PE b2):=by rw[SL,uB,e2];rfl
   have r3:(row zT b)[4*i+3]?=some (PE b3):=by rw[SL,uB,e3];rfl
   refine yC ?_
   refine MD ?_
   refine BD zm 36 (by decide) (by kernel_rfl) ?_
   dsimp only[NA,iB]
   refine JC _ xA (by kernel_rfl) ?_
   simp -dsimp only[go_sem,bA,aA,w0,w1,w2,w3,c0,c1,c2,c3,hi16,r0,r1,r2,r3,AR,wB,bB,y2]
   have hw:b0.toUInt32+256*b1.toUInt32+65536*b2.toUInt32+16777216*b3.toUInt32=SO b i:=by
    rw[<-JR,dX,w8,w8,w8,w8,DA,DA,DA,DA,e0,e1,e2,e3]
    rfl
   have lw:((CB i).map (SO b)++oA (16-i) 0).length=16:=by simp;omega
   have hset:((CB i).map (SO b)++oA (16-i) 0).set i (SO b i)=(CB (i+1)).map (SO b)++oA (16-(i+1)) 0:=by
    obtain⟨m,hm⟩:∃m,16-i=m+1:=⟨15-i,by omega⟩
    rw[hm,List.replicate_succ,List.set_append_right _ _ (by simp),KF,List.map_append,show 16-(i+1)=m by omega]
    simp
   refine rB (by rw[YK (l:=(CB i).map (SO b)++oA (16-i) 0) (i:=i) _ (by omega)];rfl) ?_
   simp -dsimp only[go_sem]
   rw[hw,hset]
   refine WB H.n [(1,NB zT b),(2,TC n),(3,.lit (.bool last)),(4,.ptr H.n 0),(8,.ptr (H.n+1) 0),(9,.sl (H.n+2) 0 16 16 none),(10,vA i)] (by omega) zSl ?_
   refine LB zm ?_
   simp -dsimp only[go_sem,bA,aA,zf,zh]
   refine zAg (i+1,Y.set (H.n+2) (.cells (((CB i++[i]).map (SO b)++oA (16-(i+1)) 0).map qC) 124)) ?_
   dsimp only
   have wo:∀B j,j≠H.n+2->(Y.set (H.n+2) B).get j=Y.get j:=fun B j hj=>by rw[dA,if_neg (fun g=>hj g.1)]
   exact⟨by omega,by rw[kA,yn],by rw[wo _ _ (by omega),y0],by rw[wo _ _ (by omega),y1],by rw[dA,if_pos ⟨rfl,by omega⟩,KF]⟩
  ·obtain rfl:i=16:=by omega
   rw[Nat.sub_self,List.replicate_zero,MA] at y2
   refine zAg (some Y) ?_
   exact⟨yn,y0,y1,y2⟩
 ·rintro Y ⟨yn,y0,y1,y2⟩
  generalize hm0:UL b=m at y2
  have lm:m.length=16:=by rw[<-hm0,Y6]
  refine PA zm ?_
  simp -dsimp only[go_sem,bA,aA,zf,zh,zjh]
  have M0:MixR H (Y.push (.cells ((oA 16 (0:UInt32)).map qC) 124)) h m (UO h 0):=
   ⟨by rw[iA];omega,by rw[zj _ (by omega),y0],by rw[zj _ (by omega),y1],by rw[zj _ (by omega),y2],by rw[yA,if_pos (by omega)];rfl⟩
  have eY:(V.sl Y.n 0 16 16 none)=.sl (H.n+3) 0 16 16 none:=by rw[yn]
  have zn:(Y.push (.cells ((oA 16 (0:UInt32)).map qC) 124)).n=H.n+4:=by rw[iA,yn]
  generalize Y.push (.cells ((oA 16 (0:UInt32)).map qC) 124)=Z at M0 zn
  refine WB H.n [(2,TC n),(3,.lit (.bool last)),(4,.ptr H.n 0),(8,.ptr (H.n+1) 0),(9,.sl (H.n+2) 0 16 16 none),(11,.sl (H.n+3) 0 16 16 none)] (by omega) (by rw[<-eY];(focus (simp -dsimp only[go_sem,aA,OA,JA,false_implies,implies_true]<;>(try simp (disch:=omega) only[zw,xJ,vK,AK])<;>(try simp)<;>(try omega)))) ?_
  refine DC zm (ι:=Heap) (fun _=>[(2,TC n),(3,.lit (.bool last)),(4,.ptr H.n 0),(8,.ptr (H.n+1) 0),(9,.sl (H.n+2) 0 16 16 none),(11,.sl (H.n+3) 0 16 16 none)]) (fun p=>p) (fun _=>H.n) (fun p=>MixR H p h m (h++ivW)) ?_ ?_
  ·simp -dsimp only[go_sem,bA,zf,zh]
   refine dD (ι:=Nat×Heap) (fun p=>[(2,TC n),(3,.lit (.bool last)),(4,.ptr H.n 0),(8,.ptr (H.n+1) 0),(9,.sl (H.n+2) 0 16 16 none),(11,.sl (H.n+3) 0 16 16 none),(12,vA p.1)]) (fun p=>p.2) (fun _=>H.n) (fun p=>p.1<=8/\MixR H p.2 h m (UO h p.1)) (fun p=>8-p.1) (0,Z) ⟨by omega,M0⟩ ?_ ?_
   ·refine(MB (lo2:=H.n) (by omega)).trans (RB _ zSl)
   rintro⟨i,U⟩ ⟨hi,MU⟩
   simp only at hi MU ⊢
   have un:=MU.n
   refine PA zm ?_
   simp -dsimp only[go_sem,bA,aA,zf,zh]
   refine aB (fun k=>?_) (fun k=>?_)<;>simp -dsimp only[go_sem,aA,k]
   ·have hi8:i<8:=by omega
    have hi16:i<16:=by omega
    have hi16':i+8<16:=by omega
    have w1:IntKind.i64.wrap ((i:Int)+8)=((i+8:Nat):Int):=by rw[zw (by omega) (by omega)];omega
    have lr:=zlm h i
    refine yC ?_
    refine MD ?_
    refine PA zm ?_
    simp -dsimp only[go_sem,bA,aA,hi8,hi16,MU.h,MU.v,wB,bB,BG (l:=h) (i:=i) (by omega)]
    refine rB (by rw[YK (l:=UO h i) (i:=i) _ (by omega)];rfl) ?_
    simp -dsimp only[go_sem,aA]
    have MU2:=MU.setv ((UO h i).set i (h.getD i 0))
    have un2:(U.set (H.n+3) (.cells (((UO h i).set i (h.getD i 0)).map qC) 124)).n=U.n:=by rw[kA]
    generalize U.set (H.n+3) (.cells (((UO h i).set i (h.getD i 0)).map qC) 124)=U2 at MU2 un2
    refine LB zm ?_
    simp -dsimp only[go_sem,bA,aA]
    refine MV.tab _ ((CA (HQ) xA)) ?_
    simp -dsimp only[go_sem,bA,aA,iW i hi8,w1,hi16',MU2.v,wB,bB]
    refine rB (by rw[YK (l:=(UO h i).set i (h.getD i 0)) (i:=i+8) _ (by rw[qB];omega)];rfl) ?_
    simp -dsimp only[go_sem,aA]
    refine LB zm ?_
    simp -dsimp only[go_sem,bA,aA]
    refine zAg (i+1,U2.set (H.n+3) (.cells ((UO h (i+1)).map qC) 124)) ?_
    exact⟨by dsimp only;omega,MU2.setv _⟩
   ·obtain rfl:i=8:=by omega
    rw[GU h hh] at MU
    refine zAg (some U) ?_
    exact MU
  intro U MU
  have un:=MU.n
  generalize hv:h++ivW=v at MU
  have lv:v.length=16:=by rw[<-hv,qA,hh];rfl
  have q1:((n:Int)).tmod 4294967296=((n % 4294967296:Nat):Int):=(oF n 4294967296).symm
  have q2:((n:Int)).tdiv 4294967296=((n / 4294967296:Nat):Int):=(IE n 4294967296).symm
  have q3:IntKind.u64.wrap ((n / 4294967296:Nat):Int)=((n / 4294967296:Nat):Int):=xJ (by omega) (by omega)
  have q4:pB (n % 4294967296)=pB n:=by
   apply TG.1
   simp[UInt32.toNat_ofNat']
  refine PA zm ?_
  simp -dsimp only[go_sem,bA,aA,zf,zh,YY,MU.v,BG (l:=v) (i:=12) (by omega),J3 _ _ _ _ _ (show(4294967296:Int)≠0 by decide),q1,Ik (n % 4294967296),q4]
  refine rB (by rw[YK (l:=v) (i:=12) _ (by omega)];rfl) ?_
  simp -dsimp only[go_sem,aA]
  have M2:=MU.setv (v.set 12 (v.getD 12 0 ^^^ pB n))
  have n2:=M2.n
  generalize U.set (H.n+3) (.cells ((v.set 12 (v.getD 12 0 ^^^ pB n)).map qC) 124)=U2 at M2 n2
  generalize hv2:v.set 12 (v.getD 12 0 ^^^ pB n)=v2 at M2
  have lv2:v2.length=16:=by rw[<-hv2,qB,lv]
  refine WB H.n [(2,TC n),(3,.lit (.bool last)),(4,.ptr H.n 0),(8,.ptr (H.n+1) 0),(9,.sl (H.n+2) 0 16 16 none),(11,.sl (H.n+3) 0 16 16 none)] (by omega) zSl ?_
  refine PA zm ?_
  simp -dsimp only[go_sem,bA,aA,zf,zh,ZY,M2.v,BG (l:=v2) (i:=13) (by omega),nV _ _ _ _ _ (show(4294967296:Int)≠0 by decide),q2,q3,Ik (n / 4294967296)]
  refine rB (by rw[YK (l:=v2) (i:=13) _ (by omega)];rfl) ?_
  simp -dsimp only[go_sem,aA]
  have M3:=M2.setv (v2.set 13 (v2.getD 13 0 ^^^ pB (n / 4294967296)))
  have n3:=M3.n
  generalize U2.set (H.n+3) (.cells ((v2.set 13 (v2.getD 13 0 ^^^ pB (n / 4294967296))).map qC) 124)=U3 at M3 n3
  generalize hv3:v2.set 13 (v2.getD 13 0 ^^^ pB (n / 4294967296))=v3 at M3
  have lv3:v3.length=16:=by rw[<-hv3,qB,lv2]
  refine WB H.n [(3,.lit (.bool last)),(4,.ptr H.n 0),(8,.ptr (H.n+1) 0),(9,.sl (H.n+2) 0 16 16 none),(11,.sl (H.n+3) 0 16 16 none)] (by omega) zSl ?_
  refine DC zm (ι:=Heap) (fun _=>[(4,.ptr H.n 0),(8,.ptr (H.n+1) 0),(9,.sl (H.n+2) 0 16 16 none),(11,.sl (H.n+3) 0 16 16 none)]) (fun p=>p) (fun _=>H.n) (fun p=>MixR H p h m (RL h n last)) ?_ ?_
  ·have hr:∀q,q=(if last then v3.set 14 (0xffffffff ^^^ v3.getD 14 0) else v3)->q=RL h n last:=fun q hq=>by
    rw[hq,<-hv3,<-hv2,<-hv];rfl
   cases last
   ·simp -dsimp only[go_sem,bA,aA,zf,zh]
    refine zAg (some U3) ?_
    dsimp only
    rw[<-hr v3 rfl]
    exact M3
   ·simp -dsimp only[go_sem,bA,aA,zf,zh,aZ,M3.v,BG (l:=v3) (i:=14) (by omega),xorC]
    refine rB (by rw[YK (l:=v3) (i:=14) _ (by omega)];rfl) ?_
    simp -dsimp only[go_sem,aA]
    refine zAg (some (U3.set (H.n+3) (.cells ((v3.set 14 (0xffffffff ^^^ v3.getD 14 0)).map qC) 124))) ?_
    dsimp only
    rw[<-hr _ rfl]
    exact M3.setv _
  intro W MW
  clear M2 M3 MU hv hv2 hv3 lv lv2 lv3 q1 q2 q3 q4
  generalize hv0:RL h n last=v0 at MW
  have lv0:v0.length=16:=by rw[<-hv0,znp h hh]
  have wn:=MW.n
  refine PA zm ?_
  simp -dsimp only[go_sem,bA,zf,zh]
  refine MV.fn ?_
  simp -dsimp only[go_sem,bA,aA]
  refine Cc _ _ ?_
  simp -dsimp only[go_sem]
  refine WB H.n [(4,.ptr H.n 0),(8,.ptr (H.n+1) 0),(9,.sl (H.n+2) 0 16 16 none),(11,.sl (H.n+3) 0 16 16 none),(13,NB CN ordersI)] (by omega) zSl ?_
  refine DC zm (ι:=Heap) (fun _=>[(4,.ptr H.n 0),(8,.ptr (H.n+1) 0),(11,.sl (H.n+3) 0 16 16 none)]) (fun p=>p) (fun _=>H.n) (fun p=>MixR H p h m (eL m v0 10)) ?_ ?_
  ·simp -dsimp only[go_sem,bA,zf,zh]
   refine dD (ι:=Nat×Heap) (fun p=>[(4,.ptr H.n 0),(8,.ptr (H.n+1) 0),(9,.sl (H.n+2) 0 16 16 none),(11,.sl (H.n+3) 0 16 16 none),(13,NB CN ordersI),(14,vA p.1)]) (fun p=>p.2) (fun _=>H.n) (fun p=>p.1<=10/\MixR H p.2 h m (eL m v0 p.1)) (fun p=>10-p.1) (0,W) ⟨by omega,MW⟩ ?_ ?_
   ·refine(MB (lo2:=H.n) (by omega)).trans (RB _ zSl)
   rintro⟨i,X0⟩ ⟨hi,M0⟩
   simp only at hi M0 ⊢
   have n0:=M0.n
   refine PA zm ?_
   simp -dsimp only[go_sem,bA,aA,zf,zh]
   refine aB (fun k=>?_) (fun k=>?_)<;>simp -dsimp only[go_sem,aA,k]
   ·have hi10:i<10:=by omega
    have hi10':i<ordersI.length:=hi10
    have hx:ordersI[i]?=some ((ordersW.getD i []).map Int.ofNat):=by
     rw[zon,uB,DA,sA (show i<ordersW.length from hi10)]
     rfl
    have low:(ordersW.getD i []).length=16:=(by decide:∀i<10,(ordersW.getD i []).length=16) i hi10
    have olt:=RQ i hi10
    have hrs:=rounds_succ m v0 hi10
    have lr:(eL m v0 i).length=16:=by rw[Af m v0 i hi,lv0]
    refine yC ?_
    refine MD ?_
    refine PA zm ?_
    simp -dsimp only[go_sem,bA,aA,hi10',z7 zpL hx]
    generalize ordersW.getD i []=ow at low olt hrs
    generalize hr0:eL m v0 i=u0 at M0 lr hrs
    refine WB H.n [(4,.ptr H.n 0),(8,.ptr (H.n+1) 0),(9,.sl (H.n+2) 0 16 16 none),(11,.sl (H.n+3) 0 16 16 none),(13,NB CN ordersI),(14,vA i),(15,NB zW (ow.map Int.ofNat))] (by omega) zSl ?_
    have a0:zv fA 114 (NB zW (ow.map Int.ofNat)) (vA 0)=_:=PM ow low 0 (by omega)
    have b0:zv fA 114 (NB zW (ow.map Int.ofNat)) (vA 1)=_:=PM ow low 1 (by omega)
    have ca0:=olt 0 (by omega)
    have cb0:=olt 1 (by omega)
    refine yC ?_
    refine BD zm 13 (by decide) (by kernel_rfl) ?_
    dsimp only[NA,iB]
    refine JC _ xA (by kernel_rfl) ?_
    simp -dsimp only[go_sem,bA,aA,cA,zf,zh,a0,b0,ca0,cb0,M0.m,wB,bB,BG (l:=m) (i:=ow.getD 0 0) (by omega),BG (l:=m) (i:=ow.getD 1 0) (by omega)]
    refine MV.fn ?_
    simp -dsimp only[go_sem]
    refine NX u0 lr (0,4,8,12) (by decide) (by decide) (by decide) (by decide) _ _ (H.n+3) _ X0 M0.v _ fun X1 lo1 hU1 hlo1=>?_
    have hlo1':H.n<=lo1:=by omega
    clear hlo1
    have M1:=M0.upd hU1
    have l1:(XK u0 (0,4,8,12) (m.getD (ow.getD 0 0) 0) (m.getD (ow.getD 1 0) 0)).length=16:=by rw[BS,lr]
    generalize hs1:XK u0 (0,4,8,12) (m.getD (ow.getD 0 0) 0) (m.getD (ow.getD 1 0) 0)=u1 at M1 l1
    have n1:=M1.n
    clear hU1
    simp -dsimp only[go_sem]
    refine WB H.n [(4,.ptr H.n 0),(8,.ptr (H.n+1) 0),(9,.sl (H.n+2) 0 16 16 none),(11,.sl (H.n+3) 0 16 16 none),(13,NB CN ordersI),(14,vA i),(15,NB zW (ow.map Int.ofNat))] (by omega) zSl ?_
    have a1:zv fA 114 (NB zW (ow.map Int.ofNat)) (vA 2)=_:=PM ow low 2 (by omega)
    have b1:zv fA 114 (NB zW (ow.map Int.ofNat)) (vA 3)=_:=PM ow low 3 (by omega)
    have ca1:=olt 2 (by omega)
    have cb1:=olt 3 (by omega)
    refine yC ?_
    refine BD zm 13 (by decide) (by kernel_rfl) ?_
    dsimp only[NA,iB]
    refine JC _ xA (by kernel_rfl) ?_
    simp -dsimp only[go_sem,bA,aA,cA,zf,zh,a1,b1,ca1,cb1,M1.m,wB,bB,BG (l:=m) (i:=ow.getD 2 0) (by omega),BG (l:=m) (i:=ow.getD 3 0) (by omega)]
    refine MV.fn ?_
    simp -dsimp only[go_sem]
    refine NX u1 l1 (1,5,9,13) (by decide) (by decide) (by decide) (by decide) _ _ (H.n+3) _ X1 M1.v _ fun X2 lo2 hU2 hlo2=>?_
    have hlo2':H.n<=lo2:=by omega
    clear hlo2
    have M2:=M1.upd hU2
    have l2:(XK u1 (1,5,9,13) (m.getD (ow.getD 2 0) 0) (m.getD (ow.getD 3 0) 0)).length=16:=by rw[BS,l1]
    generalize hs2:XK u1 (1,5,9,13) (m.getD (ow.getD 2 0) 0) (m.getD (ow.getD 3 0) 0)=u2 at M2 l2
    have n2:=M2.n
    clear hU2
    simp -dsimp only[go_sem]
    refine WB H.n [(4,.ptr H.n 0),(8,.ptr (H.n+1) 0),(9,.sl (H.n+2) 0 16 16 none),(11,.sl (H.n+3) 0 16 16 none),(13,NB CN ordersI),(14,vA i),(15,NB zW (ow.map Int.ofNat))] (by omega) zSl ?_
    have a2:zv fA 114 (NB zW (ow.map Int.ofNat)) (vA 4)=_:=PM ow low 4 (by omega)
    have b2:zv fA 114 (NB zW (ow.map Int.ofNat)) (vA 5)=_:=PM ow low 5 (by omega)
    have ca2:=olt 4 (by omega)
    have cb2:=olt 5 (by omega)
    refine yC ?_
    refine BD zm 13 (by decide) (by kernel_rfl) ?_
    dsimp only[NA,iB]
    refine JC _ xA (by kernel_rfl) ?_
    simp -dsimp only[go_sem,bA,aA,cA,zf,zh,a2,b2,ca2,cb2,M2.m,wB,bB,BG (l:=m) (i:=ow.getD 4 0) (by omega),BG (l:=m) (i:=ow.getD 5 0) (by omega)]
    refine MV.fn ?_
    simp -dsimp only[go_sem]
    refine NX u2 l2 (2,6,10,14) (by decide) (by decide) (by decide) (by decide) _ _ (H.n+3) _ X2 M2.v _ fun X3 lo3 hU3 hlo3=>?_
    have hlo3':H.n<=lo3:=by omega
    clear hlo3
    have M3:=M2.upd hU3
    have l3:(XK u2 (2,6,10,14) (m.getD (ow.getD 4 0) 0) (m.getD (ow.getD 5 0) 0)).length=16:=by rw[BS,l2]
    generalize hs3:XK u2 (2,6,10,14) (m.getD (ow.getD 4 0) 0) (m.getD (ow.getD 5 0) 0)=u3 at M3 l3
    have n3:=M3.n
    clear hU3
    simp -dsimp only[go_sem]
    refine WB H.n [(4,.ptr H.n 0),(8,.ptr (H.n+1) 0),(9,.sl (H.n+2) 0 16 16 none),(11,.sl (H.n+3) 0 16 16 none),(13,NB CN ordersI),(14,vA i),(15,NB zW (ow.map Int.ofNat))] (by omega) zSl ?_
    have a3:zv fA 114 (NB zW (ow.map Int.ofNat)) (vA 6)=_:=PM ow low 6 (by omega)
    have b3:zv fA 114 (NB zW (ow.map Int.ofNat)) (vA 7)=_:=PM ow low 7 (by omega)
    have ca3:=olt 6 (by omega)
    have cb3:=olt 7 (by omega)
    refine yC ?_
    refine BD zm 13 (by decide) (by kernel_rfl) ?_
    dsimp only[NA,iB]
    refine JC _ xA (by kernel_rfl) ?_
    simp -dsimp only[go_sem,bA,aA,cA,zf,zh,a3,b3,ca3,cb3,M3.m,wB,bB,BG (l:=m) (i:=ow.getD 6 0) (by omega),BG (l:=m) (i:=ow.getD 7 0) (by omega)]
    refine MV.fn ?_
    simp -dsimp only[go_sem]
    refine NX u3 l3 (3,7,11,15) (by decide) (by decide) (by decide) (by decide) _ _ (H.n+3) _ X3 M3.v _ fun X4 lo4 hU4 hlo4=>?_
    have hlo4':H.n<=lo4:=by omega
    clear hlo4
    have M4:=M3.upd hU4
    have l4:(XK u3 (3,7,11,15) (m.getD (ow.getD 6 0) 0) (m.getD (ow.getD 7 0) 0)).length=16:=by rw[BS,l3]
    generalize hs4:XK u3 (3,7,11,15) (m.getD (ow.getD 6 0) 0) (m.getD (ow.getD 7 0) 0)=u4 at M4 l4
    have n4:=M4.n
    clear hU4
    simp -dsimp only[go_sem]
    refine WB H.n [(4,.ptr H.n 0),(8,.ptr (H.n+1) 0),(9,.sl (H.n+2) 0 16 16 none),(11,.sl (H.n+3) 0 16 16 none),(13,NB CN ordersI),(14,vA i),(15,NB zW (ow.map Int.ofNat))] (by omega) zSl ?_
    have a4:zv fA 114 (NB zW (ow.map Int.ofNat)) (vA 8)=_:=PM ow low 8 (by omega)
    have b4:zv fA 114 (NB zW (ow.map Int.ofNat)) (vA 9)=_:=PM ow low 9 (by omega)
    have ca4:=olt 8 (by omega)
    have cb4:=olt 9 (by omega)
    refine yC ?_
    refine BD zm 13 (by decide) (by kernel_rfl) ?_
    dsimp only[NA,iB]
    refine JC _ xA (by kernel_rfl) ?_
    simp -dsimp only[go_sem,bA,aA,cA,zf,zh,a4,b4,ca4,cb4,M4.m,wB,bB,BG (l:=m) (i:=ow.getD 8 0) (by omega),BG (l:=m) (i:=ow.getD 9 0) (by omega)]
    refine MV.fn ?_
    simp -dsimp only[go_sem]
    refine NX u4 l4 (0,5,10,15) (by decide) (by decide) (by decide) (by decide) _ _ (H.n+3) _ X4 M4.v _ fun X5 lo5 hU5 hlo5=>?_
    have hlo5':H.n<=lo5:=by omega
    clear hlo5
    have M5:=M4.upd hU5
    have l5:(XK u4 (0,5,10,15) (m.getD (ow.getD 8 0) 0) (m.getD (ow.getD 9 0) 0)).length=16:=by rw[BS,l4]
    generalize hs5:XK u4 (0,5,10,15) (m.getD (ow.getD 8 0) 0) (m.getD (ow.getD 9 0) 0)=u5 at M5 l5
    have n5:=M5.n
    clear hU5
    simp -dsimp only[go_sem]
    refine WB H.n [(4,.ptr H.n 0),(8,.ptr (H.n+1) 0),(9,.sl (H.n+2) 0 16 16 none),(11,.sl (H.n+3) 0 16 16 none),(13,NB CN ordersI),(14,vA i),(15,NB zW (ow.map Int.ofNat))] (by omega) zSl ?_
    have a5:zv fA 114 (NB zW (ow.map Int.ofNat)) (vA 10)=_:=PM ow low 10 (by omega)
    have b5:zv fA 114 (NB zW (ow.map Int.ofNat)) (vA 11)=_:=PM ow low 11 (by omega)
    have ca5:=olt 10 (by omega)
    have cb5:=olt 11 (by omega)
    refine yC ?_
    refine BD zm 13 (by decide) (by kernel_rfl) ?_
    dsimp only[NA,iB]
    refine JC _ xA (by kernel_rfl) ?_
    simp -dsimp only[go_sem,bA,aA,cA,zf,zh,a5,b5,ca5,cb5,M5.m,wB,bB,BG (l:=m) (i:=ow.getD 10 0) (by omega),BG (l:=m) (i:=ow.getD 11 0) (by omega)]
    refine MV.fn ?_
    simp -dsimp only[go_sem]
    refine NX u5 l5 (1,6,11,12) (by decide) (by decide) (by decide) (by decide) _ _ (H.n+3) _ X5 M5.v _ fun X6 lo6 hU6 hlo6=>?_
    have hlo6':H.n<=lo6:=by omega
    clear hlo6
    have M6:=M5.upd hU6
    have l6:(XK u5 (1,6,11,12) (m.getD (ow.getD 10 0) 0) (m.getD (ow.getD 11 0) 0)).length=16:=by rw[BS,l5]
    generalize hs6:XK u5 (1,6,11,12) (m.getD (ow.getD 10 0) 0) (m.getD (ow.getD 11 0) 0)=u6 at M6 l6
    have n6:=M6.n
    clear hU6
    simp -dsimp only[go_sem]
    refine WB H.n [(4,.ptr H.n 0),(8,.ptr (H.n+1) 0),(9,.sl (H.n+2) 0 16 16 none),(11,.sl (H.n+3) 0 16 16 none),(13,NB CN ordersI),(14,vA i),(15,NB zW (ow.map Int.ofNat))] (by omega) zSl ?_
    have a6:zv fA 114 (NB zW (ow.map Int.ofNat)) (vA 12)=_:=PM ow low 12 (by omega)
    have b6:zv fA 114 (NB zW (ow.map Int.ofNat)) (vA 13)=_:=PM ow low 13 (by omega)
    have ca6:=olt 12 (by omega)
    have cb6:=olt 13 (by omega)
    refine yC ?_
    refine BD zm 13 (by decide) (by kernel_rfl) ?_
    dsimp only[NA,iB]
    refine JC _ xA (by kernel_rfl) ?_
    simp -dsimp only[go_sem,bA,aA,cA,zf,zh,a6,b6,ca6,cb6,M6.m,wB,bB,BG (l:=m) (i:=ow.getD 12 0) (by omega),BG (l:=m) (i:=ow.getD 13 0) (by omega)]
    refine MV.fn ?_
    simp -dsimp only[go_sem]
    refine NX u6 l6 (2,7,8,13) (by decide) (by decide) (by decide) (by decide) _ _ (H.n+3) _ X6 M6.v _ fun X7 lo7 hU7 hlo7=>?_
    have hlo7':H.n<=lo7:=by omega
    clear hlo7
    have M7:=M6.upd hU7
    have l7:(XK u6 (2,7,8,13) (m.getD (ow.getD 12 0) 0) (m.getD (ow.getD 13 0) 0)).length=16:=by rw[BS,l6]
    generalize hs7:XK u6 (2,7,8,13) (m.getD (ow.getD 12 0) 0) (m.getD (ow.getD 13 0) 0)=u7 at M7 l7
    have n7:=M7.n
    clear hU7
    simp -dsimp only[go_sem]
    refine WB H.n [(4,.ptr H.n 0),(8,.ptr (H.n+1) 0),(9,.sl (H.n+2) 0 16 16 none),(11,.sl (H.n+3) 0 16 16 none),(13,NB CN ordersI),(14,vA i),(15,NB zW (ow.map Int.ofNat))] (by omega) zSl ?_
    have a7:zv fA 114 (NB zW (ow.map Int.ofNat)) (vA 14)=_:=PM ow low 14 (by omega)
    have b7:zv fA 114 (NB zW (ow.map Int.ofNat)) (vA 15)=_:=PM ow low 15 (by omega)
    have ca7:=olt 14 (by omega)
    have cb7:=olt 15 (by omega)
    refine BD zm 13 (by decide) (by kernel_rfl) ?_
    dsimp only[NA,iB]
    refine JC _ xA (by kernel_rfl) ?_
    simp -dsimp only[go_sem,bA,aA,cA,zf,zh,a7,b7,ca7,cb7,M7.m,wB,bB,BG (l:=m) (i:=ow.getD 14 0) (by omega),BG (l:=m) (i:=ow.getD 15 0) (by omega)]
    refine MV.fn ?_
    simp -dsimp only[go_sem]
    refine NX u7 l7 (3,4,9,14) (by decide) (by decide) (by decide) (by decide) _ _ (H.n+3) _ X7 M7.v _ fun X8 lo8 hU8 hlo8=>?_
    have hlo8':H.n<=lo8:=by omega
    clear hlo8
    have M8:=M7.upd hU8
    have l8:(XK u7 (3,4,9,14) (m.getD (ow.getD 14 0) 0) (m.getD (ow.getD 15 0) 0)).length=16:=by rw[BS,l7]
    generalize hs8:XK u7 (3,4,9,14) (m.getD (ow.getD 14 0) 0) (m.getD (ow.getD 15 0) 0)=u8 at M8 l8
    have n8:=M8.n
    clear hU8
    simp -dsimp only[go_sem]
    have hq:eL m v0 (i+1)=u8:=by
     rw[hrs,<-pe]
     have e1:qs m ow u0 1=u1:=hs1
     have e2:qs m ow u0 2=u2:=by rw[<-hs2,<-e1];rfl
     have e3:qs m ow u0 3=u3:=by rw[<-hs3,<-e2];rfl
     have e4:qs m ow u0 4=u4:=by rw[<-hs4,<-e3];rfl
     have e5:qs m ow u0 5=u5:=by rw[<-hs5,<-e4];rfl
     have e6:qs m ow u0 6=u6:=by rw[<-hs6,<-e5];rfl
     have e7:qs m ow u0 7=u7:=by rw[<-hs7,<-e6];rfl
     rw[<-hs8,<-e7];rfl
    refine WB H.n [(4,.ptr H.n 0),(8,.ptr (H.n+1) 0),(9,.sl (H.n+2) 0 16 16 none),(11,.sl (H.n+3) 0 16 16 none),(13,NB CN ordersI),(14,vA i)] (by omega) zSl ?_
    refine LB zm ?_
    simp -dsimp only[go_sem,bA,aA,zf,zh]
    refine zAg (i+1,X8) ?_
    dsimp only
    rw[hq]
    exact⟨by omega,M8⟩
   ·obtain rfl:i=10:=by omega
    refine zAg (some X0) ?_
    exact M0
  intro Z MZ
  have zn:=MZ.n
  have lr:(eL m v0 10).length=16:=by rw[Af m v0 10 (by omega),lv0]
  have hfin:(CB 8).map (fun i=>h.getD i 0 ^^^ ((eL m v0 10).getD i 0 ^^^ (eL m v0 10).getD (i+8) 0))=oL h b n last:=by
   rw[oL,hm0,hv0]
   rfl
  rw[<-XP h _ hh] at hfin
  generalize hrv:eL m v0 10=v at MZ lr hfin
  refine DC zm (ι:=Heap) (fun _=>[(4,.ptr H.n 0),(8,.ptr (H.n+1) 0)]) (fun p=>p) (fun _=>H.n) (fun p=>MixR H p (ZK h v 8) m v) ?_ ?_
  ·simp -dsimp only[go_sem,bA,zf,zh]
   refine dD (ι:=Nat×Heap) (fun p=>[(4,.ptr H.n 0),(8,.ptr (H.n+1) 0),(11,.sl (H.n+3) 0 16 16 none),(16,vA p.1)]) (fun p=>p.2) (fun _=>H.n) (fun p=>p.1<=8/\MixR H p.2 (ZK h v p.1) m v) (fun p=>8-p.1) (0,Z) ⟨by omega,MZ⟩ ?_ ?_
   ·refine(MB (lo2:=H.n) (by omega)).trans (RB _ zSl)
   rintro⟨i,X⟩ ⟨hi,MX⟩
   simp only at hi MX ⊢
   have xn:=MX.n
   have lf:(ZK h v i).length=8:=by rw[qX,hh]
   refine PA zm ?_
   simp -dsimp only[go_sem,bA,aA,zf,zh]
   refine aB (fun g=>?_) (fun g=>?_)<;>simp -dsimp only[go_sem,aA,g]
   ·have hi8:i<8:=by omega
    have hi16:i<16:=by omega
    have hi16':i+8<16:=by omega
    have w1:IntKind.i64.wrap ((i:Int)+8)=((i+8:Nat):Int):=by rw[zw (by omega) (by omega)];omega
    refine yC ?_
    refine MD ?_
    refine BD zm 16 (by decide) (by kernel_rfl) ?_
    dsimp only[NA,iB]
    refine JC _ xA (by kernel_rfl) ?_
    simp -dsimp only[go_sem,bA,aA,MX.h,MX.v,hi8,hi16,hi16',w1,wB,bB,BG (l:=ZK h v i) (i:=i) (by omega),BG (l:=v) (i:=i) (by omega),BG (l:=v) (i:=i+8) (by omega)]
    refine rB (by rw[YK (l:=ZK h v i) (i:=i) _ (by omega)];rfl) ?_
    simp -dsimp only[go_sem]
    rw[UInt32.xor_assoc]
    refine LB zm ?_
    simp -dsimp only[go_sem,bA,aA]
    refine zAg (i+1,X.set H.n (.cells ((ZK h v (i+1)).map qC) 125)) ?_
    dsimp only
    have wo:∀B j,j≠H.n->(X.set H.n B).get j=X.get j:=fun B j hj=>by rw[dA,if_neg (fun h=>hj h.1)]
    exact⟨by omega,⟨by rw[kA];omega,by rw[dA,if_pos ⟨rfl,by omega⟩],by rw[wo _ _ (by omega),MX.r],by rw[wo _ _ (by omega),MX.m],by rw[wo _ _ (by omega),MX.v]⟩⟩
   ·obtain rfl:i=8:=by omega
    refine zAg (some X) ?_
    exact MX
  ·intro X MX
   have xn:=MX.n
   have lf:(ZK h v 8).length=8:=by rw[qX,hh]
   refine LB zm ?_
   have hlt:H.n+1<X.n:=by omega
   simp -dsimp only[go_sem,bA,aA,zf,zh,MX.h,MX.r,zo0 lf,bC,lf,RR,yM (l:=ZK h v 8) (m:=oA 8 0) (by rw[lf];rfl),hlt]
   rw[hfin]
   exact AA (by omega) (o7 _) hQ
end
section
open Go Go.Tw
open Classical
def AI(l:List UInt8):ByteArray:=⟨l.toArray⟩
theorem fg(l:List UInt8):(AI l).size=l.length:=rfl
theorem zl4(a b:List UInt8):AI a++AI b=AI (a++b):=by
 apply ByteArray.ext
 simp[AI,ByteArray.data_append]
theorem vL(t:TypeId)(a b:List UInt8)(h:a.length+b.length<=9223372036854775807):jE fA .add t (gE (AI a)) (gE (AI b))=some (gE (AI (a++b))):=by
 have:(AI a).size+(AI b).size<=9223372036854775807:=h
 simp only[jE,S3,this,if_true,SB,zl4]
theorem PY{t:List UInt8}{k:Nat}(h:t.length≠1):eM t k=iH t k:=if_neg h
theorem ad(x:ByteArray)(hsm:(pJ x).length<=1048576)(H:Heap)(Q:OR->Prop)(hQ:Q ⟨gE (AI (pJ x)),H,H.n⟩):MCall Cx 92 [gE x] H Q:=by
 refine mB (fn:=Tryz.f92) Tryz.func92 rfl (by decide) (k:=35) rfl (rs:=[.tmp 2]) rfl ?_
 have hql:(pJ x).length=(QK (sB x)).length+2:=by simp[pJ]
 have hge:=zmw (sB x)
 rw[Bg] at hge
 refine PA zm ?_
 simp -dsimp only[go_sem,bA,gA]
 refine PA zm ?_
 simp -dsimp only[go_sem,bA,aA,reduceCtorEq,gA]
 refine DC zm (ι:=List UInt8×Heap×Nat) (fun p=>[(3,eM p.1 p.2.2)]) (fun p=>p.2.1) (fun _=>H.n) (fun p=>p.1=34::QK (sB x)/\H.n<=p.2.2/\p.2.1.get p.2.2=some (.cells (row zT p.1) 5)) ?_ ?_
 ·simp -dsimp only[go_sem,bA]
  refine dD (ι:=Nat×List UInt8×Heap×Nat) (fun p=>[(0,gE x),(3,eM p.2.1 p.2.2.2),(4,vA p.1)]) (fun p=>p.2.2.1) (fun _=>H.n)
   (fun p=>p.1<=x.size/\p.2.1=34::QK ((sB x).take p.1)/\H.n<=p.2.2.2/\p.2.2.1.get p.2.2.2=some (.cells (row zT p.2.1) 5)) (fun p=>x.size-p.1) (0,[34],H.push (.cells [.lit (.int .u8 34)] 5),H.n) ⟨by omega,by simp[QK],by dsimp only;omega,by rw[yA,if_pos rfl];rfl⟩ ?_ ?_
  ·have eh:eM [34] H.n=.sl H.n 0 1 1 none:=rfl
   dsimp only
   rw[eh]
   refine(MB (lo2:=H.n) (by omega)).trans (RB _ zSl)
  rintro⟨i,t,X,k⟩ ⟨hi,ht,hk,xk⟩
  simp only at hi ht hk xk ⊢
  have kn:=zq xk
  have htl:t.length=1+(QK ((sB x).take i)).length:=by rw[ht,HA];omega
  have hem:=Pj (sB x) i
  have htn:t≠[]:=by rw[ht];simp
  refine PA zm ?_
  simp -dsimp only[go_sem,bA,aA,reduceCtorEq,zf,zh]
  refine aB (fun h=>?_) (fun h=>?_)<;>simp -dsimp only[go_sem,aA,reduceCtorEq,h]
  ·obtain⟨c,hc⟩:=Go.Tw.byte_at h
   have e34:=Q7 c 34 (by decide)
   have e92:=Q7 c 92 (by decide)
   have hem1:=Pj (sB x) (i+1)
   rw[Oj (l:=sB x) hc,qA] at hem1
   refine yC ?_
   refine MD ?_
   refine DC zm (ι:=List UInt8×Heap×Nat) (fun p=>[(0,gE x),(3,eM p.1 p.2.2),(4,vA i)]) (fun p=>p.2.1) (fun _=>H.n) (fun p=>p.1=t++(if c=34\/c=92 then [92] else [])/\H.n<=p.2.2/\p.2.1.get p.2.2=some (.cells (row zT p.1) 5)) ?_ ?_
   ·simp -dsimp only[go_sem,bA,aA,reduceCtorEq,hc]
    by_cases hs:c=34\/c=92
    ·rw[if_pos hs] at hem1
     simp only[HA,SA] at hem1
     have fin:∀(Y:Heap) (k':Nat),H.n<=k'->Y.get k'=some (.cells (row zT (t++[92])) 5)->t++[92]=t++(if c=34\/c=92 then [92] else [])/\H.n<=k'/\Y.get k'=some (.cells (row zT (t++[92])) 5):=fun Y k' h1 h2=>⟨by rw[if_pos hs],h1,h2⟩
     refine GD.dec (fun h1=>?_) (fun h1=>?_)<;>simp -dsimp only[go_sem,bA,aA,reduceCtorEq,h1,hc]
     ·refine Ig 92 rfl xk htn (by omega) fun Y k' yn hk' yk yo lo hlo=>?_
      have hlo3:H.n<=lo:=cB (LH.2 ⟨by omega,by omega⟩) hlo
      clear hlo
      simp -dsimp only[go_sem,bA,aA,reduceCtorEq]
      refine AC (some (t++[92],Y,k')) (fin Y k' (by omega) yk) BC ?_ rfl ?_
      ·show ∀q∈[(0,gE x),(3,eM (t++[92]) k'),(4,vA i)],_
       (focus (simp -dsimp only[go_sem,aA,reduceCtorEq,OA,JA,false_implies,implies_true]<;>(try simp (disch:=omega) only[zw,xJ,vK,AK])<;>(try simp)<;>(try omega)))
      ·show H.n<=_
       omega
     refine aB (fun h2=>?_) (fun h2=>?_)<;>simp -dsimp only[go_sem,bA,aA,reduceCtorEq,h2]
     ·refine Ig 92 rfl xk htn (by omega) fun Y k' yn hk' yk yo lo hlo=>?_
      have hlo3:H.n<=lo:=cB (LH.2 ⟨by omega,by omega⟩) hlo
      clear hlo
      simp -dsimp only[go_sem,bA,aA,reduceCtorEq]
      refine AC (some (t++[92],Y,k')) (fin Y k' (by omega) yk) BC ?_ rfl ?_
      ·show ∀q∈[(0,gE x),(3,eM (t++[92]) k'),(4,vA i)],_
       (focus (simp -dsimp only[go_sem,aA,reduceCtorEq,OA,JA,false_implies,implies_true]<;>(try simp (disch:=omega) only[zw,xJ,vK,AK])<;>(try simp)<;>(try omega)))
      ·show H.n<=_
       omega
     ·exfalso
      rcases hs with rfl|rfl
      ·exact h1 rfl
      ·exact h2 rfl
    ·have c34:¬((c.toNat:Int)=34):=fun e=>hs (.inl (Eq.mp e34 e))
     have c92:¬((c.toNat:Int)=92):=fun e=>hs (.inr (Eq.mp e92 e))
     simp -dsimp only[go_sem,bA,aA,reduceCtorEq,c34,c92,hc]
     refine AC (some (t,X,k)) ⟨by rw[if_neg hs,MA],hk,xk⟩ BC ?_ rfl ?_
     ·show ∀q∈[(0,gE x),(3,eM t k),(4,vA i)],_
      (focus (simp -dsimp only[go_sem,aA,reduceCtorEq,OA,JA,false_implies,implies_true]<;>(try simp (disch:=omega) only[zw,xJ,vK,AK])<;>(try simp)<;>(try omega)))
     ·show H.n<=_
      omega
   rintro⟨u,Y,k'⟩ ⟨hu,hk',yk⟩
   dsimp only at hu hk' yk ⊢
   have kn':=zq yk
   have ul:u.length+1=t.length+(if c=34\/c=92 then [92,c] else [c]).length:=by rw[hu,qA];split<;>simp
   have un:u≠[]:=by rw[hu];simp[htn]
   refine LB zm ?_
   simp -dsimp only[go_sem,bA,aA,reduceCtorEq,zf,zh,hc]
   refine Ig c rfl yk un (by omega) fun Z k2 zn hk2 zk zo lo hlo=>?_
   have hlo3:H.n<=lo:=cB (LH.2 ⟨by omega,by omega⟩) hlo
   clear hlo
   simp -dsimp only[go_sem,bA,aA,reduceCtorEq]
   refine LB zm ?_
   simp -dsimp only[go_sem,bA,aA,reduceCtorEq]
   refine zAg (i+1,u++[c],Z,k2) ?_
   dsimp only
   refine⟨by omega,?_,by omega,zk⟩
   rw[hu,ht,Oj hc]
   split<;>simp
  ·have e:(sB x).take i=sB x:=uA (by rw[Bg];omega)
   rw[e] at ht
   refine AC (some (t,X,k)) ⟨ht,hk,xk⟩ BC ?_ rfl ?_
   ·show ∀q∈[(3,eM t k)],_
    (focus (simp -dsimp only[go_sem,aA,reduceCtorEq,OA,JA,false_implies,implies_true]<;>(try simp (disch:=omega) only[zw,xJ,vK,AK])<;>(try simp)<;>(try omega)))
   ·show H.n<=_
    omega
 rintro⟨t,X,k⟩ ⟨ht,hk,xk⟩
 dsimp only at ht hk xk ⊢
 have kn:=zq xk
 have tl:t.length+1=(pJ x).length:=by rw[ht,hql];simp
 have htn:t≠[]:=by rw[ht];simp
 refine LB zm ?_
 simp -dsimp only[go_sem,bA,aA,zf,zh]
 refine Ig 34 rfl xk htn (by omega) fun Y k' yn hk' yk yo lo hlo=>?_
 have hlo3:H.n<=lo:=cB (LH.2 ⟨by omega,by omega⟩) hlo
 clear hlo
 have eq:t++[34]=pJ x:=by rw[ht];simp[pJ]
 rw[eq,PY (t:=pJ x) (by omega)]
 rw[eq] at yk
 simp -dsimp only[go_sem,bA,aA]
 refine rB (znP (fun _=>yk)) ?_
 simp -dsimp only[go_sem,bA,aA]
 exact AA (by omega) rfl hQ
theorem Ja(X:Heap)(c:UInt8):bL fA (X.push (.cells [PE c] 5)) 76 9 (.sl X.n 0 1 1 none)=some ⟨gE (AI [c]),X.push (.cells [PE c] 5),(X.push (.cells [PE c] 5)).n⟩:=by
 have g:(X.push (.cells [PE c] 5)).get X.n=some (.cells [PE c] 5):=by rw[yA,if_pos rfl]
 unfold bL
 rw[TA,cD]
 simp only[pD,mJ,cellsOf,g,pA,KA]
 simp[EL,AI]
theorem znM(u:Nat)(h:¬u<10):VB u=VB (u / 10)++[GA (48+u % 10)]:=by rw[VB,dif_neg h]
theorem znN(u:Nat)(h:u<10):VB u=[GA (48+u)]:=by rw[VB,dif_pos h]
theorem td10(m:Int):(m.tmod 10=((m.natAbs % 10:Nat):Int)/\m.tdiv 10=((m.natAbs / 10:Nat):Int)/\0<=m)\/(m.tmod 10=-((m.natAbs % 10:Nat):Int)/\m.tdiv 10=-((m.natAbs / 10:Nat):Int)/\m<0):=by
 rcases Int.lt_or_le m 0 with h|h
 ·right
  obtain⟨k,rfl⟩:∃k:Nat,m=-(k:Int):=⟨m.natAbs,by omega⟩
  rw[Int.neg_tmod,Int.neg_tdiv,Int.natAbs_neg,GJ]
  exact⟨by rw[oF];rfl,by rw[IE];rfl,h⟩
 ·left
  obtain⟨k,rfl⟩:=Int.eq_ofNat_of_zero_le h
  rw[GJ]
  exact⟨(oF k 10).symm,(IE k 10).symm,h⟩
theorem CT:∀u:Nat,u<10 ^ 19->(VB u).length<=19:=fun u h=>by
 rw[Lib.decDigits_length]
 have h1:=Lib.lt_pow_nDigits u
 rcases Nat.lt_or_ge 19 (YC u) with g|g
 ·exfalso
  have:∀k u,u<10 ^ k->1<=k->YC u<=k:=by
   intro k
   induction k with
   | zero=>intro u _ h;omega
   | succ k ih=>
    intro u hu _
    by_cases hs:u<10
    ·rw[Lib.nDigits_small hs];omega
    ·rw[Lib.nDigits_big hs]
     have hk:1<=k:=by
      rcases Nat.eq_zero_or_pos k with rfl|h
      ·simp at hu;omega
      ·exact h
     have:=ih (u / 10) (by rw[Nat.pow_succ] at hu;omega) hk
     omega
  have:=this 19 u h (by omega)
  omega
 ·exact g
theorem m_91(n:Int)(h1:-9223372036854775808<=n)(h2:n<=9223372036854775807)(H:Heap)(Q:OR->Prop)(hQ:Q ⟨gE (AI (xE n)),H,H.n⟩):MCall Cx 91 [vA n] H Q:=by
 refine mB (fn:=Tryz.f91) Tryz.func91 rfl (by decide) (k:=29) rfl (rs:=[.tmp 2]) rfl ?_
 have hnl:=CT n.natAbs (by omega)
 have e0:(V.lit (.string ⟨#[]⟩))=gE (AI []):=rfl
 refine PA zm ?_
 simp -dsimp only[go_sem,bA,gA]
 refine PA zm ?_
 simp -dsimp only[go_sem,bA,aA,reduceCtorEq,gA]
 refine PA zm ?_
 simp -dsimp only[go_sem,bA,gA]
 refine DC zm (ι:=Heap) (fun _=>[(3,.lit (.bool (decide (n<0)))),(4,gE (AI (VB n.natAbs)))]) (fun p=>p) (fun _=>H.n) (fun p=>H.n<=p.n) ?_ ?_
 ·simp -dsimp only[go_sem]
  refine dD (ι:=Int×List UInt8×Heap) (fun p=>[(0,vA p.1),(3,.lit (.bool (decide (n<0)))),(4,gE (AI p.2.1))]) (fun p=>p.2.2) (fun _=>H.n)
   (fun p=>VB n.natAbs=VB p.1.natAbs++p.2.1/\-9223372036854775808<=p.1/\p.1<=9223372036854775807/\H.n<=p.2.2.n) (fun p=>p.1.natAbs) (n,[],H) ⟨by simp,h1,h2,jA _⟩ ?_ ?_
  ·dsimp only
   rw[<-e0]
   refine(MB (lo2:=H.n) (by omega)).trans (RB _ zSl)
  rintro⟨m,s,X⟩ ⟨hd,hm1,hm2,xn⟩
  simp only at hd hm1 hm2 xn ⊢
  refine MD ?_
  refine PA zm ?_
  simp -dsimp only[go_sem,bA,aA,reduceCtorEq,zf,zh,J3 _ _ _ _ _ (show(10:Int)≠0 by decide)]
  have td:=td10 m
  have hsl:(VB m.natAbs).length+s.length<=19:=by
   have:=congrArg PB hd
   rw[qA] at this
   omega
  refine DC zm (ι:=Unit) (fun _=>[(0,vA m),(3,.lit (.bool (decide (n<0)))),(4,gE (AI s)),(5,vA ((m.natAbs % 10:Nat):Int))]) (fun _=>X) (fun _=>H.n) (fun _=>True) ?_ ?_
  ·simp -dsimp only[go_sem,bA,aA,reduceCtorEq]
   refine aB (fun k=>?_) (fun k=>?_)<;>simp -dsimp only[go_sem,bA,aA,reduceCtorEq,k]
   ·have e:IntKind.i64.wrap (0-m.tmod 10)=((m.natAbs % 10:Nat):Int):=by
     rcases td with⟨t1,_,_⟩|⟨t1,_,_⟩
     ·omega
     ·rw[t1,zw (by omega) (by omega)];omega
    rw[e]
    refine zAg (some ()) ?_
    trivial
   ·have e:m.tmod 10=((m.natAbs % 10:Nat):Int):=by
     rcases td with⟨t1,_,_⟩|⟨t1,_,_⟩
     ·exact t1
     ·omega
    rw[e]
    refine zAg (some ()) ?_
    trivial
  rintro⟨⟩ _
  have e1:IntKind.i64.wrap (48+((m.natAbs % 10:Nat):Int))=((48+m.natAbs % 10:Nat):Int):=by rw[zw (by omega) (by omega)];omega
  have e2:IntKind.u8.wrap ((48+m.natAbs % 10:Nat):Int)=((GA (48+m.natAbs % 10)).toNat:Int):=by
   rw[vK (by omega) (by omega),xG,kC (show 48+m.natAbs % 10<2 ^ 8 by omega)]
  have e3:IntKind.i64.wrap (m.tdiv 10)=m.tdiv 10:=by
   rcases td with⟨_,t2,_⟩|⟨_,t2,_⟩
   ·rw[t2,zw (by omega) (by omega)]
   ·rw[t2,zw (by omega) (by omega)]
  generalize hcc:GA (48+m.natAbs % 10)=c at e2
  refine PA zm ?_
  simp -dsimp only[go_sem,bA,aA,reduceCtorEq,zf,zh,e1,e2,Ja,vL _ [c] s (by simp;omega)]
  have hn2:(X.push (.cells [PE c] 5)).n=X.n+1:=iA ..
  generalize X.push (.cells [PE c] 5)=X2 at hn2
  refine WB H.n [(0,vA m),(3,.lit (.bool (decide (n<0)))),(4,gE (AI ([c]++s)))] (by omega) zSl ?_
  refine PA zm ?_
  simp -dsimp only[go_sem,bA,aA,reduceCtorEq,zf,zh,nV _ _ _ _ _ (show(10:Int)≠0 by decide),e3]
  have hm10:(m.tdiv 10).natAbs=m.natAbs / 10:=by
   rcases td with⟨_,t2,_⟩|⟨_,t2,_⟩<;>omega
  refine LB zm ?_
  simp -dsimp only[go_sem,bA,aA,reduceCtorEq]
  refine aB (fun k=>?_) (fun k=>?_)<;>simp -dsimp only[go_sem,reduceCtorEq,k]
  ·have hs:m.natAbs<10:=by omega
   have e4:VB n.natAbs=[c]++s:=by rw[hd,znN _ hs,<-hcc,kC hs]
   refine AC (some X2) (show H.n<=X2.n by omega) BC ?_ rfl ?_
   ·show ∀q∈[(3,.lit (.bool (decide (n<0)))),(4,gE (AI (VB n.natAbs)))],_
    rw[e4]
    (focus (simp -dsimp only[go_sem,aA,reduceCtorEq,OA,JA,false_implies,implies_true]<;>(try simp (disch:=omega) only[zw,xJ,vK,AK])<;>(try simp)<;>(try omega)))
   ·show H.n<=_
    omega
  ·refine zAg (m.tdiv 10,[c]++s,X2) ?_
   ·dsimp only
    refine⟨?_,by omega,by omega,by omega⟩
    rw[hd,hm10,znM _ (by omega),<-hcc,List.append_assoc]
 ·rintro X (xn:H.n<=X.n)
  refine LB zm ?_
  have e45:(V.lit (.string ⟨#[45]⟩))=gE (AI [45]):=rfl
  have e5:=vL 9 [45] (VB n.natAbs) (by simp;omega)
  rw[<-e45] at e5
  by_cases k:n<0
  ·simp -dsimp only[go_sem,bA,aA,zf,zh,k,e5]
   refine AA (by omega) rfl ?_
   rw[xE,if_pos k] at hQ
   exact hQ
  ·simp -dsimp only[go_sem,bA,aA,zf,zh,k]
   refine AA (by omega) rfl ?_
   rw[xE,if_neg k,show n.toNat=n.natAbs by omega] at hQ
   exact hQ
end
end Go.Proofs.YtookdinfaoelaaaGreatDoor
