/- Own work for this claim, part 3 of 17. No condition of its own. -/
import Derived.Test.YtookdinfaoelaaaGreatDoorX01
import Derived.Orders
import Derived.OrdersIn
import Derived.TacticsIn
import Derived.RangeFuncLeaves
import Derived.LoopNIn
import Derived.RangeFuncRecord
import Derived.RangeFuncNested
set_option linter.all false
set_option maxRecDepth 100000
set_option maxHeartbeats 4000000
open Array renaming ext'→xF,getD_eq_getD_getElem?→EC,getElem?_setIfInBounds→jD,getElem?_toList→rD,toList_inj→dG
open Go.Builtin renaming append_→pC,cap_→eG,clear_→EE,copy_→MF,len_→vD
open Go.Deferred renaming ofValue→nD
open Go.Instr renaming sameBits→HE
open Go.Region renaming binds→LC,wanted→oD
open Go.Result renaming andThen_ok→EA
open Go.Sem renaming run_bind→VA,run_pure→xB
open Go.World renaming shape?→XB
open List renaming findIdx?_cons→IJ,getElem?_cons_zero→YA,getElem?_drop→rC,getElem?_eq_getElem→sA,getElem?_eq_some_iff→rA,getElem?_toArray→sD,map_congr_left→mF,range→CB,zip_cons_cons→MJ
open Nat renaming beq→kB,ble→DF,blt→mD,eq_of_beq_eq_true→KC,le_refl→jA,sub_zero→HG,zero_add→bB
open Option renaming bind_eq_bind→pA,bind_eq_some_iff→nA,bind_some→KA,getD_some→SG,map_eq_some_iff→BA,map_some→SB
open Option.some renaming injEq→lA
open Prod.mk renaming injEq→dB
namespace Go.Tw
section
section
variable {P:PH} {s:Nat->Option Nat} {H:Heap} {w:World}
theorem MRs.length:∀{es:List (V×V×Nat)} {cs:List MapEntry},MRs P s H w es cs->cs.length=es.length
 | [],cs,h=>by simp only[MRs] at h;subst h;rfl
 | (k,v,b)::es,cs,h=>by
  obtain⟨e,cs',rfl,_,_,_,h⟩:=h
  simp[MRs.length h]
theorem MRs.get:∀{es:List (V×V×Nat)} {cs:List MapEntry} {i:Nat} {k v:V} {b:Nat},MRs P s H w es cs->es[i]?=some (k,v,b)->∃e,cs[i]?=some e/\VH P s H w k e.key/\VH P s H w v e.val/\e.born=b
 | [],cs,i,k,v,b,h,hi=>by simp at hi
 | (k,v,b)::es,cs,0,k',v',b',h,hi=>by
  obtain⟨e,cs',rfl,h1,h2,h3,h⟩:=h
  simp only[YA,lA,dB] at hi
  obtain⟨rfl,rfl,rfl⟩:=hi
  exact⟨e,rfl,h1,h2,h3⟩
 | (k,v,b)::es,cs,i+1,k',v',b',h,hi=>by
  obtain⟨e,cs',rfl,h1,h2,h3,h⟩:=h
  simp only[List.getElem?_cons_succ] at hi ⊢
  exact MRs.get h hi
theorem MRs.set:∀{es:List (V×V×Nat)} {cs:List MapEntry} (i:Nat) {k v:V} {e:MapEntry},MRs P s H w es cs->VH P s H w k e.key->VH P s H w v e.val->MRs P s H w (es.set i (k,v,e.born)) (cs.set i e)
 | [],cs,i,k,v,e,h,_,_=>by simp only[MRs] at h;subst h;simp[MRs]
 | (k,v,b)::es,cs,0,k',v',e',h,hk,hv=>by
  obtain⟨e,cs',rfl,h1,h2,h3,h⟩:=h
  exact⟨e',cs',rfl,hk,hv,rfl,h⟩
 | (k,v,b)::es,cs,i+1,k',v',e',h,hk,hv=>by
  obtain⟨e,cs',rfl,h1,h2,h3,h⟩:=h
  exact⟨e,_,rfl,h1,h2,h3,MRs.set i h hk hv⟩
theorem MRs.snoc:∀{es:List (V×V×Nat)} {cs:List MapEntry} {k v:V} {e:MapEntry},MRs P s H w es cs->VH P s H w k e.key->VH P s H w v e.val->MRs P s H w (es++[(k,v,e.born)]) (cs++[e])
 | [],cs,k,v,e,h,hk,hv=>by simp only[MRs] at h;subst h;exact⟨e,[],rfl,hk,hv,rfl,rfl⟩
 | (k,v,b)::es,cs,k',v',e',h,hk,hv=>by
  obtain⟨e,cs',rfl,h1,h2,h3,h⟩:=h
  exact⟨e,_,rfl,h1,h2,h3,MRs.snoc h hk hv⟩
theorem zjn{x y:V}{cx cy:Value}{d pr}(h:OX x y=some true)(hx:VR (szP P) s d pr w x cx)(hy:VR (szP P) s d pr w y cy):cx=cy/\∀n,HE n cx cx=true:=by
 unfold OX at h
 split at h
 ·simp only[VR] at hx hy;subst hx;subst hy
  injection h with h
  have:=eq_of_beq h
  subst this
  exact⟨rfl,fun n=>by simp[HE]⟩
 ·simp only[VR] at hx hy;subst hx;subst hy
  split at h
  ·rename_i e;subst e
   injection h with h
   have:=eq_of_beq h
   subst this
   exact⟨rfl,fun n=>by simp[HE]⟩
  ·cases h
 ·rename_i a b
  simp only[VR] at hx hy;subst hx;subst hy
  injection h with h
  have h1:=eq_of_beq h
  have:a=b:=by
   obtain⟨⟨x⟩⟩:=a
   obtain⟨⟨y⟩⟩:=b
   have:x=y:=h1
   subst this
   rfl
  subst this
  refine⟨rfl,fun n=>?_⟩
  have:(a==a)=true:=by rw[zlN];simp
  simpa[HE] using this
 ·cases h
theorem zif{d pr}:∀{xs ys:List V} {cx cy:List Value},PO xs ys=some true->VRs (szP P) s d pr w xs cx->VRs (szP P) s d pr w ys cy->cx=cy/\∀n,(cx.zip cx).all (fun(x,y)=>HE n x y)=true
 | [],[],cx,cy,h,hx,hy=>by
  simp only[VRs] at hx hy
  subst hx;subst hy
  exact⟨rfl,fun n=>rfl⟩
 | [],_::_,cx,cy,h,hx,hy=>by simp[PO] at h
 | _::_,[],cx,cy,h,hx,hy=>by simp[PO] at h
 | x::xs,y::ys,cx,cy,h,hx,hy=>by
  obtain⟨c1,c2,rfl,h1,hx⟩:=hx
  obtain⟨e1,e2,rfl,g1,hy⟩:=hy
  simp only[PO,pA,nA] at h
  obtain⟨a,ha,b,hb,h⟩:=h
  injection h with h
  simp only[Bool.and_eq_true] at h
  obtain⟨rfl,rfl⟩:=h
  obtain⟨rfl,k1⟩:=zjn ha h1 g1
  obtain⟨rfl,k2⟩:=zif hb hx hy
  exact⟨rfl,fun n=>by simp[k1 n,MJ];simpa using k2 n⟩
theorem zjd{x y:V}{cx cy:Value}{d pr}(h:lV x y=some true)(hx:VR (szP P) s d pr w x cx)(hy:VR (szP P) s d pr w y cy):cx=cy/\HE 10000 cx cx=true:=by
 unfold lV at h
 split at h
 ·obtain⟨ax,rfl,hx⟩:=hx
  obtain⟨ay,rfl,hy⟩:=hy
  obtain⟨e,hk⟩:=zif h hx hy
  have:ax=ay:=dG.1 e
  subst this
  refine⟨rfl,?_⟩
  show(ax.size==ax.size&&(ax.toList.zip ax.toList).all fun(x,y)=>HE 9999 x y)=true
  rw[hk 9999];simp
 ·obtain⟨e,hk⟩:=zjn h hx hy
  exact⟨e,hk 10000⟩
theorem zki{kt:TypeId}{k:V}:∀(es:List (V×V×Nat)) (i0 i:Nat) (v:V) (b:Nat),JK P kt k es i0=some (some (i,v,b))->∃j k',i=i0+j/\es[j]?=some (k',v,b)/\lV k k'=some true
 | [],i0,i,v,b,h=>by simp[JK] at h
 | (k',v',b')::es,i0,i,v,b,h=>by
  simp only[JK,pA,nA] at h
  obtain⟨a,ha,a',hb,h⟩:=h
  split at h
  ·rename_i e
   subst e
   cases a with
   | true=>
    simp only[if_true,lA,dB] at h
    obtain⟨rfl,rfl,rfl⟩:=h
    exact⟨0,k',rfl,rfl,hb⟩
   | false=>
    simp only[Bool.false_eq_true,if_false] at h
    obtain⟨j,k2,e1,e2,e3⟩:=zki es (i0+1) i v b h
    exact⟨j+1,k2,by omega,by simpa using e2,e3⟩
  ·cases h
theorem zgP{arr:Array MapEntry}{i:Nat}{e:MapEntry}(h:arr.toList[i]?=some e)(f:MapEntry->MapEntry):(arr.modify i f).toList=arr.toList.set i (f e):=by
 apply List.ext_getElem?
 intro j
 rw[rD,Array.getElem?_modify,List.getElem?_set]
 have hi:i<arr.toList.length:=(rA.1 h).1
 by_cases e1:i=j
 ·subst e1
  rw[if_pos rfl,if_pos rfl,if_pos hi,<-rD,h]
  rfl
 ·rw[if_neg e1,if_neg e1,rD]
theorem zns{old new:Value}(h:old=new)(hs:HE 10000 old old=true):(Instr.keyThatStays old new).run P w=.ok new w:=by
 subst h
 simp[Instr.keyThatStays,hs]
theorem ug(hr:HR P s H w){b g:Nat}(hb:s b=some g){arr arr':Array MapEntry}{clk clk':Nat}{es':List (V×V×Nat)}(ho:w.heap[g]?=some (.map arr clk))(h:MRs P s H w es' arr'.toList):
  HR P s (VL H b es' clk') (put w g (.map arr' clk'))/\Ext (min b H.n) s H w s (VL H b es' clk') (put w g (.map arr' clk')):=by
 have hbn:=(hr.lt hb).1
 have hmin:min b H.n=b:=by omega
 rw[hmin]
 refine d7 hr hb ho ⟨arr',rfl,h⟩ fun x hx=>?_
 simp[XB,ho] at hx
theorem zhl(hr:HR P s H w){t:TypeId}{m k v:V}{cm ck cv:Value}{r:OR}(h:pj P H t m k v=some r)(hm:VH P s H w m cm)(hk:VH P s H w k ck)(hv:VH P s H w v cv):UnitOK P s H w r ((Instr.mapUpdate t cm ck cv).run P w):=by
 unfold pj at h
 split at h
 ·rename_i kt et b hu
  split at h
  ·rename_i hko
   simp only[pA,nA] at h
   obtain⟨⟨es,clk⟩,hes,f,hf,h⟩:=h
   obtain⟨b',g,arr,e,h1,h2,rfl,h3,h4⟩:=ig hr hes hm
   injection e with e
   subst e
   obtain⟨d,hkd⟩:=ziu hko
   obtain⟨r',hr1,hr2⟩:=zg3 hk hkd hf h4
   have hck:=If (w:=w) 9 kt k ck hko hk 10000 false (by decide)
   simp only at h
   split at h
   ·rename_i i pv born
    injection h with h
    subst h
    obtain⟨c,rfl,hc⟩:=hr2
    obtain⟨j,k',e1,e2,e3⟩:=zki es 0 i pv born hf
    simp only[bB] at e1
    subst e1
    obtain⟨en,q1,q2,q3,rfl⟩:=h4.get e2
    obtain⟨s1,s2⟩:=zjd e3 hk q2
    have hst:=zns (P:=P) (w:=w) s1.symm (s1▸s2)
    have q1':arr[i]?=some en:=by simpa using q1
    have hset:=h4.set i (e:={ en with key:=ck,val:=cv }) hk hv
    rw[<-zgP q1 (fun e=>{ e with key:=ck,val:=cv })] at hset
    obtain⟨m1,m2⟩:=ug (clk':=clk) hr h1 h3 hset
    refine⟨rfl,s,_,?_,m1,m2⟩
    simp only[Instr.mapUpdate,VA,zA hu,EA,S2 h3,hck,hr1,q1',SB,SG,hst,Mf h3]
   ·injection h with h
    subst h
    simp only[jO] at hr2
    subst hr2
    have hsn:=h4.snoc (e:={ key:=ck,val:=cv,born:=clk }) hk hv
    have hps:(arr.push { key:=ck,val:=cv,born:=clk }).toList=arr.toList++[{ key:=ck,val:=cv,born:=clk }]:=by simp
    rw[<-hps] at hsn
    obtain⟨m1,m2⟩:=ug (clk':=clk+1) hr h1 h3 hsn
    refine⟨rfl,s,_,?_,m1,m2⟩
    simp only[Instr.mapUpdate,VA,zA hu,EA,S2 h3,hck,hr1,Mf h3]
  ·cases h
 ·cases h
theorem zmk(hr:HR P s H w){t:TypeId}{m k:V}{cm ck:Value}{r:OR}(h:gV P H t m k=some r)(hm:VH P s H w m cm)(hk:VH P s H w k ck):ValOK P s H w r ((Instr.mapEntry t cm ck).run P w):=by
 unfold gV at h
 split at h
 ·rename_i kt et b hu
  split at h
  ·rename_i hko
   simp only[pA,nA] at h
   obtain⟨⟨es,clk⟩,hes,f,hf,h⟩:=h
   obtain⟨b',g,arr,e,h1,h2,rfl,h3,h4⟩:=ig hr hes hm
   injection e with e
   subst e
   obtain⟨d,hkd⟩:=ziu hko
   obtain⟨r',hr1,hr2⟩:=zg3 hk hkd hf h4
   have hck:=If (w:=w) 9 kt k ck hko hk 10000 false (by decide)
   simp only at h
   split at h
   ·rename_i i pv born
    injection h with h
    subst h
    obtain⟨c,rfl,hc⟩:=hr2
    obtain⟨j,k',e1,e2,e3⟩:=zki es 0 i pv born hf
    simp only[bB] at e1
    subst e1
    obtain⟨en,q1,q2,q3,rfl⟩:=h4.get e2
    obtain⟨s1,s2⟩:=zjd e3 hk q2
    have hst:=zns (P:=P) (w:=w) s1.symm (s1▸s2)
    have q1':arr[i]?=some en:=by simpa using q1
    have hset:=h4.set i (e:={ en with key:=ck }) hk q3
    rw[<-zgP q1 (fun e=>{ e with key:=ck })] at hset
    obtain⟨m1,m2⟩:=ug (clk':=clk) hr h1 h3 hset
    refine⟨s,.tuple #[c,goInt en.born],_,?_,⟨#[c,goInt en.born],rfl,c,[goInt en.born],rfl,m2.vh hc,goInt en.born,[],rfl,rfl,rfl⟩,m1,m2⟩
    simp only[Instr.mapEntry,VA,zA hu,EA,S2 h3,hck,hr1,q1',SB,SG,hst,Mf h3,xB]
   ·simp only[nA] at h
    obtain⟨z,hz,h⟩:=h
    injection h with h
    subst h
    simp only[jO] at hr2
    subst hr2
    obtain⟨cz,hz1,hz2⟩:=zi0 (s:=s) (d:=RC H) (pr:=RE P s w) (w:=w) hz
    have hsn:=h4.snoc (e:={ key:=ck,val:=cz,born:=clk }) hk hz2
    have hps:(arr.push { key:=ck,val:=cz,born:=clk }).toList=arr.toList++[{ key:=ck,val:=cz,born:=clk }]:=by simp
    rw[<-hps] at hsn
    obtain⟨m1,m2⟩:=ug (clk':=clk+1) hr h1 h3 hsn
    refine⟨s,.tuple #[cz,goInt clk],_,?_,⟨#[cz,goInt clk],rfl,cz,[goInt clk],rfl,m2.vh hz2,goInt clk,[],rfl,rfl,rfl⟩,m1,m2⟩
    simp only[Instr.mapEntry,VA,zA hu,EA,S2 h3,hck,hr1,hz1,Mf h3,xB]
  ·cases h
 ·cases h
theorem zle(hr:HR P s H w){t:TypeId}{m k:V}{cm ck:Value}{r:OR}(h:tO P H t m k=some r)(hm:VH P s H w m cm)(hk:VH P s H w k ck):ValOK P s H w r ((Instr.mapEntry t cm ck).run P w):=by
 unfold tO at h
 split at h
 ·rename_i r' h1
  cases hp:xV P t k H r'.H m with
  | true=>rw[hp] at h;injection h with h;subst h;exact zmk hr h1 hm hk
  | false=>rw[hp] at h;cases h
 ·cases h
theorem ziv(n:Int):∀(es:List (V×V×Nat)) (cs:List MapEntry) (i0 i:Nat) (k:V),sX n es i0=some (i,k)->MRs P s H w es cs->∃j,i=i0+j/\List.findIdx? (fun e:MapEntry=>(e.born:Int)==n) cs=some j/\∃v b,es[j]?=some (k,v,b)
 | [],cs,i0,i,k,h,_=>by simp[sX] at h
 | (k',v,b)::es,cs,i0,i,k,h,hm=>by
  obtain⟨e,cs',rfl,h1,h2,h3,hm⟩:=hm
  simp only[sX] at h
  by_cases hb:(b:Int)=n
  ·rw[if_pos hb] at h
   injection h with h
   simp only[dB] at h
   obtain⟨rfl,rfl⟩:=h
   exact⟨0,rfl,by simp[IJ,h3,hb],v,b,rfl⟩
  ·rw[if_neg hb] at h
   obtain⟨j,e1,e2,v',b',e3⟩:=ziv n es cs' (i0+1) i k h hm
   have:((e.born:Int)==n)=false:=by rw[h3];simpa using hb
   exact⟨j+1,by omega,by simp[IJ,this,e2],v',b',by simpa using e3⟩
theorem zkn(hr:HR P s H w){t:TypeId}{m st v:V}{cm cs cv:Value}{r:OR}(h:c7 H m st v=some r)(hm:VH P s H w m cm)(hs:VH P s H w st cs)(hv:VH P s H w v cv):UnitOK P s H w r ((Instr.entryStore t cm cs cv).run P w):=by
 unfold c7 at h
 split at h
 ·rename_i b k n
  simp only[pA,nA] at h
  obtain⟨⟨es,clk⟩,hes,⟨i,k'⟩,hf,e,he,h⟩:=h
  injection h with h
  subst h
  obtain⟨b',g,arr,eb,h1,h2,rfl,h3,h4⟩:=ig hr hes hm
  injection eb with eb
  subst eb
  simp only[VH,VR] at hs
  subst hs
  obtain⟨j,e1,e2,v',b2,e3⟩:=ziv n es arr.toList 0 i k' hf h4
  simp only[bB] at e1
  subst e1
  simp only at he
  rw[e3] at he
  injection he with he
  subst he
  obtain⟨en,q1,q2,q3,rfl⟩:=h4.get e3
  have hset:=h4.set i (e:={ en with val:=cv }) q2 hv
  rw[<-zgP q1 (fun e=>{ e with val:=cv })] at hset
  obtain⟨m1,m2⟩:=ug (clk':=clk) hr h1 h3 hset
  refine⟨rfl,s,_,?_,m1,m2⟩
  have hfi:arr.findIdx? (fun e=>(e.born:Int)==n)=some i:=by
   rw[<-e2,<-List.findIdx?_toArray]
  simp only[Instr.entryStore,VA,S2 h3,EA,asInt,asIntOf,xB,hfi,Mf h3]
 ·cases h
theorem zpN(hr:HR P s H w){t ty:TypeId}{x v:V}{cx:Value}(h:qH P H t x=some v)(hx:VH P s H w x cx)(ts:Array TypeId)(hts:ts[0]?=some t):∃c,(vD ts ty #[cx]).run P w=.ok c w/\VH P s H w v c:=by
 unfold qH at h
 split at h
 ·rename_i kt et hu
  split at h
  ·injection h with h
   subst h
   simp only[VH,VR] at hx
   subst hx
   exact⟨_,by simp[vD,hts,zA hu];rfl,rfl⟩
  ·obtain⟨⟨es,clk⟩,hes,h⟩:=BA.1 h
   subst h
   obtain⟨b,g,arr,rfl,h1,h2,rfl,h3,h4⟩:=ig hr hes hx
   have hl:=h4.length
   refine⟨goInt arr.size,by simp[vD,hts,zA hu,S2 h3],?_⟩
   simp only[VH,VR,goInt]
   simp at hl
   rw[hl]
 ·rename_i hno
  unfold oO at h
  split at h
  ·rename_i hu
   split at h
   ·injection h with h;subst h;simp only[VH,VR] at hx;subst hx
    exact⟨_,by simp[vD,hts,zA hu];rfl,rfl⟩
   ·cases h
  ·rename_i n e hu
   injection h with h;subst h
   refine⟨goInt n,?_,rfl⟩
   simp only[vD,hts,sD,YA,VA,zA hu,EA]
   rfl
  ·rename_i arr hu
   split at h
   ·rename_i n e hu2
    injection h with h;subst h
    refine⟨goInt n,?_,rfl⟩
    simp only[vD,hts,sD,YA,VA,zA hu,zA hu2,EA]
    rfl
   ·cases h
  ·rename_i e hu
   split at h<;>first
    | (cases h;done)
    | (injection h with h;subst h)
   ·simp only[VH,VR] at hx;subst hx;exact⟨_,by simp[vD,hts,zA hu];rfl,rfl⟩
   ·obtain⟨q,cap',rfl,_⟩:=hx;exact⟨_,by simp[vD,hts,zA hu];rfl,rfl⟩
   ·obtain⟨g,off,cap,cs,rfl,_⟩:=hx;exact⟨_,by simp[vD,hts,zA hu];rfl,rfl⟩
   ·obtain⟨a,cap,rfl⟩:=zhE hx;exact⟨_,by simp[vD,hts,zA hu];rfl,rfl⟩
   ·obtain⟨a,rfl⟩:=hx;exact⟨_,by simp[vD,hts,zA hu];rfl,rfl⟩
   ·obtain⟨a,c,rfl⟩:=hx;exact⟨_,by simp[vD,hts,zA hu];rfl,rfl⟩
  ·rename_i kt et hu
   exact absurd hu (hno kt et)
  ·cases h
theorem zos(hr:HR P s H w)(t:TypeId):ValOK P s H w ⟨.mp H.n,H.push (.map [] 0),H.n⟩ ((Instr.makeMap t none).run P w):=by
 have hB:BR P s H w (.map [] 0) (.map #[] 0):=⟨#[],rfl,rfl⟩
 obtain⟨h1,h2⟩:=j7 hr hB
 refine⟨_,.map (some w.heap.size),_,?_,⟨_,rfl,.inr (by simp)⟩,h1,h2⟩
 simp[Instr.makeMap]
end
end
section
section
variable {P:PH} {s:Nat->Option Nat} {H:Heap} {w:World}
theorem ValOK.op{res:OR}{m:Sem Value}(h:ValOK P s H w res (m.run P w)):SS P s H w res ((do pure (.value (<-m)):Sem Next).run P w):=by
 obtain⟨s',c,w',h1,h2,h3,h4⟩:=h
 exact⟨s',c,w',.inl (by simp[h1]),h2,h3,h4⟩
theorem UnitOK.op{res:OR}{m:Sem Unit}(h:UnitOK P s H w res (m.run P w)):SS P s H w res ((do m;pure .skip:Sem Next).run P w):=by
 obtain⟨h0,s',w',h1,h3,h4⟩:=h
 refine⟨s',undef,w',.inr ⟨by simp[h1],rfl⟩,?_,h3,h4⟩
 rw[h0]
 exact⟨#[],rfl,by simp[VRs]⟩
theorem VRs.ofMap{r:Operand->V}{e:Operand->Value}{d pr}(hre:∀x,VR (szP P) s d pr w (r x) (e x)):∀(l:List Operand),VRs (szP P) s d pr w (l.map r) (l.map e)
 | []=>by simp[VRs]
 | x::l=>⟨_,_,rfl,hre x,VRs.ofMap hre l⟩
theorem cW{ps:Array Operand}{e:Operand->Value}{x:Operand}(h:ps[0]?=some x):∃l,(ps.map e)=(e x::l).toArray/\∃q,ps=(x::q).toArray/\l=q.map e:=by
 obtain⟨ps⟩:=ps
 cases ps with
 | nil=>simp at h
 | cons a t=>
  simp at h
  subst h
  exact⟨t.map e,by simp,t,rfl,rfl⟩
theorem QZ(hr:HR P s H w){r:Operand->V}{e:Operand->Value}(hre:∀x,VH P s H w (r x) (e x)){o:Oper}{res:OR}(h:opV P r H o.op=some res):SS P s H w res ((execOp e o).run P w):=by
 have one:∀v c,res=⟨v,H,H.n⟩->(execOp e o).run P w=.ok (.value c) w->VH P s H w v c->SS P s H w res ((execOp e o).run P w):=by
  intro v c e1 h1 h2
  subst e1
  exact⟨s,c,w,.inl h1,h2,hr,Ext.refl s H w⟩
 obtain⟨dst,op,type,pos,after,guard⟩:=o
 simp only at h
 cases op<;>simp only[opV] at h<;>(try (cases h;done))
 case move x=>simp only[keep,SB,lA] at h;exact one _ _ h.symm rfl (hre x)
 case assign x=>simp only[keep,SB,lA] at h;exact one _ _ h.symm rfl (hre x)
 case pick c a b=>
  split at h
  ·rename_i t ht
   simp only[keep,SB,lA] at h
   have hc:=hre c
   rw[ht] at hc
   simp only[VH,VR] at hc
   refine one _ (if t then e a else e b) h.symm (by simp[execOp,hc,asBool]) ?_
   cases t
   ·exact hre b
   ·exact hre a
  ·cases h
 case alloc t=>exact(alloc_ok hr h).op
 case box t x=>exact(box_ok hr h (hre x)).op
 case build t ps=>
  have hp:PRs P s (RC H) (RE P s w) w (ps.toList.map fun p=>(p.1,r p.2)) (ps.toList.map fun p=>(p.1,e p.2)):=PRs.map hre ps.toList
  have:=zdj (m:=Instr.build t (ps.toList.map fun p=>(p.1,e p.2)).toArray) hr h fun v hv=>HP hv hp
  have e1:(ps.toList.map fun p=>(p.1,e p.2)).toArray=ps.map fun(i,x)=>(i,e x):=by
   apply dG.1;simp
  rw[e1] at this
  exact this.op
 case buildSlice t len ps=>
  have hp:PRs P s (RC H) (RE P s w) w (ps.toList.map fun p=>(p.1,r p.2)) (ps.toList.map fun p=>(p.1,e p.2)):=PRs.map hre ps.toList
  have:=zkt hr h hp
  have e1:(ps.toList.map fun p=>(p.1,e p.2)).toArray=ps.map fun(i,x)=>(i,e x):=by
   apply dG.1;simp
  rw[e1] at this
  exact this.op
 case load t a=>exact(zdj hr h fun v hv=>zpK hr hv (hre a)).op
 case store t a x=>exact(store_ok hr h (hre a) (hre x)).op
 case nilCheck x=>
  obtain⟨v,hv,h⟩:=BA.1 h
  obtain⟨h1,rfl⟩:=zk9 hv (hre x)
  exact one _ _ h.symm h1 (hre x)
 case binOp op t x y yt=>
  obtain⟨v,hv,h⟩:=BA.1 h
  obtain⟨c,h1,h2,h3⟩:=iY hv (hre x) (hre y) x y
  exact one _ c h.symm (by simp[execOp,h1,h2]) h3
 case unOp op t x=>exact(zdj hr h fun v hv=>un_ok hv (hre x)).op
 case convert src dst' x=>exact(zoF hr h (hre x)).op
 case makeInterface t x=>
  split at h
  ·cases h
  ·rename_i u hni hu
   simp only[keep,SB,lA] at h
   refine one _ (.iface t (e x)) h.symm ?_ ⟨_,rfl,hre x⟩
   simp only[execOp,Instr.makeInterface,VA,zA hu,EA]
   cases u<;>first
    | (exact absurd rfl (hni _))
    | rfl
  ·cases h
 case makeFunc f a b=>
  simp only[keep,SB,lA] at h
  refine one _ (.func f (a.map e) (b.map e)) h.symm (by simp[execOp,Instr.makeFunc]) ⟨_,_,rfl,?_,?_⟩
  ·simpa using VRs.ofMap hre a.toList
  ·simpa using VRs.ofMap hre b.toList
 case makeMap t rr=>
  cases rr with
  | none=>
   simp only[lA] at h
   subst h
   exact(zos hr t).op
  | some x=>cases h
 case makeSlice t l c=>exact(zlf hr h (hre l) (hre c)).op
 case slice t x l hh m=>exact(zdj hr h fun v hv=>slice_ok hv (hre x) (OVR.map hre l) (OVR.map hre hh) (OVR.map hre m)).op
 case fieldAddr t x f=>exact(zdj hr h fun v hv=>zlA hv (hre x)).op
 case field t x f=>exact(zdj hr h fun v hv=>field_ok hv (hre x)).op
 case indexAddr t x i=>exact(zdj hr h fun v hv=>zls hv (hre x) (hre i)).op
 case index t x i=>exact(zdj hr h fun v hv=>index_ok hv (hre x) (hre i)).op
 case lookup t m k ok=>exact(zdj hr h fun v hv=>zpJ hr hv (hre m) (hre k)).op
 case mapUpdate t m k v=>exact(zhl hr h (hre m) (hre k) (hre v)).op
 case insert t m k v=>exact(zhl hr h (hre m) (hre k) (hre v)).op
 case mapEntry t m k=>exact(zle hr h (hre m) (hre k)).op
 case entryStore t m st v=>exact(zkn hr h (hre m) (hre st) (hre v)).op
 case typeAssert x t t' ok=>exact(zdj hr h fun v hv=>zjT hv (hre x)).op
 case extract x i=>exact(zdj hr h fun v hv=>zoz hv (hre x)).op
 case call c=>
  obtain⟨callee,args,ats⟩:=c
  simp only at h
  have run1:∀b,(execOp e ⟨dst,.call ⟨.builtin b,args,ats⟩,type,pos,after,guard⟩)=(do
    let d <-(pure { target:=.builtin b ats type (args.map fun|.const _=>true|_=>false),args:=args.map e }:Sem Deferred)
    invoke d.target d.args):=fun b=>rfl
  split at h
  ·split at h
   ·rename_i t x ht hx
    obtain⟨l,el,q,rfl,rfl⟩:=cW (e:=e) hx
    obtain⟨v,hv,h⟩:=BA.1 h
    obtain⟨c,h1,h2⟩:=zpN (ty:=type) hr hv (hre x) ats ht
    refine one v c h.symm ?_ h2
    rw[run1]
    simp only[VA,xB,EA,invoke,builtin,el]
    have e2:(vD ats type (e x::q.map e).toArray).run P w=(vD ats type #[e x]).run P w:=by
     simp[vD]
    rw[e2,h1]
    rfl
   ·cases h
  ·split at h
   ·rename_i t x ht hx
    obtain⟨l,el,q,rfl,rfl⟩:=cW (e:=e) hx
    obtain⟨v,hv,h⟩:=BA.1 h
    obtain⟨c,h1,h2⟩:=tY (ty:=type) hv (hre x) ats ht
    refine one v c h.symm ?_ h2
    rw[run1]
    simp only[VA,xB,EA,invoke,builtin,el]
    have e2:(eG ats type (e x::q.map e).toArray).run P w=(eG ats type #[e x]).run P w:=by
     simp[eG]
    rw[e2,h1]
    rfl
   ·cases h
  ·split at h
   ·rename_i x rest hx
    obtain⟨v,hv,h⟩:=BA.1 h
    have hl:=VRs.ofMap hre args.toList
    rw[hx] at hl
    obtain⟨c0,cs,ec,hc0,hcs⟩:=hl
    obtain⟨c,h1,h2⟩:=zmt (g:=Builtin.max2) (fun x y v cx cy=>eU) rest cs x v c0 hv hc0 hcs
    refine one v c h.symm ?_ h2
    rw[run1]
    have e2:(args.map e).toList=c0::cs:=by simpa using ec
    simp only[VA,xB,EA,invoke,builtin,Builtin.max_,e2,h1]
   ·cases h
  ·split at h
   ·rename_i x rest hx
    obtain⟨v,hv,h⟩:=BA.1 h
    have hl:=VRs.ofMap hre args.toList
    rw[hx] at hl
    obtain⟨c0,cs,ec,hc0,hcs⟩:=hl
    obtain⟨c,h1,h2⟩:=zmt (g:=Builtin.min2) (fun x y v cx cy=>iU) rest cs x v c0 hv hc0 hcs
    refine one v c h.symm ?_ h2
    rw[run1]
    have e2:(args.map e).toList=c0::cs:=by simpa using ec
    simp only[VA,xB,EA,invoke,builtin,Builtin.min_,e2,h1]
   ·cases h
  ·split at h
   ·rename_i t0 t1 x y h0 h1 hx hy
    have:=zqz (ty:=type) hr h (hre x) (hre y)
    have key:(pC ats type (args.map e)).run P w=(pC #[t0,t1] type #[e x,e y]).run P w:=by
     simp[pC,h0,h1,hx,hy]
    rw[run1]
    have h2:=this.op
    rw[<-key] at this
    exact this.op
   ·cases h
  ·split at h
   ·rename_i t0 x y h0 hx hy
    have:=BT (ty:=type) hr h (hre x) (hre y) ats h0
    have key:(MF ats type (args.map e)).run P w=(MF ats type #[e x,e y]).run P w:=by
     simp[MF,hx,hy]
    rw[run1]
    rw[<-key] at this
    exact this.op
   ·cases h
  ·split at h
   ·rename_i t0 x h0 hx
    have:=KP (ty:=type) hr h (hre x) ats h0
    have key:(EE ats type (args.map e)).run P w=(EE ats type #[e x]).run P w:=by
     simp[EE,hx]
    rw[run1]
    rw[<-key] at this
    exact this.op
   ·cases h
  ·cases h
end
end
inductive FT where
 | leaf
 | node (g:Nat) (f:Func) (l r:FT)
inductive Sm where
 | pure (F:List V->Option V)
 | mem (F:List V->Heap->Option OR)
structure Ctx where
 P:Program
 G:Nat->Option (List V)
 S:FuncId->Option Sm
 ft:FT:=.leaf
structure St where
 T:Tr V
 H:Heap
 lo:Nat
 deriving Inhabited
def PD(T:Tr V)(t:Nat):V:=(T.get t).getD .any
def YO(T:Tr V)(t:Nat)(v:V):Tr V:=Tr.set (t+1) T t v
def HD(C:Ctx)(T:Tr V):Operand->V
 | .tmp t=>PD T t
 | .const v=>lN v
 | .global g=>match C.G g with
  | some cs=>.pp cs
  | none=>.gptr g 0
 | .func f=>.fn (.func f) [] []
inductive Ex where
 | normal
 | exit (id:Nat)
 | ret
 deriving DecidableEq,Inhabited
inductive Eff where
 | none
 | al
 | rd (b:Nat)
 | wr (b:Nat)
 | ap (b x:Nat)
 | lk (b:Nat) (t:TypeId) (k:V)
 | en (b:Nat) (t:TypeId) (k:V)
 | sr
 | ca
 | sw
 deriving Inhabited
def Hg:Eff->Eff->Bool
 | .none,_=>false
 | _,.none=>false
 | .sw,_=>true
 | _,.sw=>true
 | .al,_=>false
 | _,.al=>false
 | .wr b,.rd b'=>kB b b'
 | .rd b,.wr b'=>kB b b'
 | .wr b,.wr b'=>kB b b'
 | .ap b _,.rd b'=>kB b b'
 | .rd b,.ap b' _=>kB b b'
 | .ap b x,.wr b'=>kB b b'||kB x b'
 | .wr b,.ap b' x=>kB b b'||kB b x
 | .ap b x,.ap b' x'=>kB b b'||kB x b'||kB b x'
 | .ap _ _,_=>true
 | _,.ap _ _=>true
 | .wr _,_=>true
 | _,.wr _=>true
 | .rd _,_=>false
 | _,.rd _=>false
 | .sr,.sr=>false
 | .sr,.ca=>false
 | .ca,.sr=>false
 | .ca,.ca=>false
 | _,_=>true
def Eff.plain:Eff->Eff
 | .lk b _ _=>.rd b
 | .en b _ _=>.wr b
 | e=>e
def HX(k k':V):Bool:=
 match lV k k' with
 | some b=>b
 | none=>false
def oI(a b:Eff):Bool:=
 match a,b with
 | .lk b t k,.en b' t' k'=>kB b b'&&!(kB t t'&&HX k k')
 | .en b' t' k',.lk b t k=>kB b b'&&!(kB t t'&&HX k k')
 | a,b=>Hg a.plain b.plain
def E8(x:V)(d:Nat):Nat:=
 match x with
 | .sl b _ _ _ _=>b
 | _=>d
def FF(r:Operand->V)(H:Heap)(o:Op)(res:OR):Eff:=
 match o with
 | .load _ a=>match r a with
  | .ptr b _=>.rd b
  | _=>.none
 | .store _ a _=>match r a with
  | .ptr b _=>.wr b
  | _=>.sw
 | .alloc _|.box _ _|.buildSlice _ _ _|.makeSlice _ _ _|.makeMap _ _=>.al
 | .move _|.assign _|.pick _ _ _|.build _ _|.nilCheck _|.binOp _ _ _ _ _|.unOp _ _ _|.makeInterface _ _|.makeFunc _ _ _|.slice _ _ _ _ _
 | .fieldAddr _ _ _|.field _ _ _|.indexAddr _ _ _|.index _ _ _|.typeAssert _ _ _ _|.extract _ _=>.none
 | .lookup t m k ok=>match r m with
  | .mp b=>bif ok then .rd b else .lk b t (r k)
  | .lit _=>.none
  | _=>.sw
 | .mapEntry t m k=>match r m with
  | .mp b=>.en b t (r k)
  | _=>.sw
 | .convert _ _ x=>match r x with
  | .lit (.int _ _)=>.none
  | _=>bif kB res.lo H.n then .sr else .sw
 | .call c=>match c.callee with
  | .builtin .len=>match c.args[0]? with
   | some x=>match r x with
    | .mp b=>match H.get b with
     | some _=>.rd b
     | none=>.sw
    | .lit _=>.none
    | .sl _ _ _ _ _=>.none
    | .ps _ _=>.none
    | .pn _ _=>.none
    | _=>.sw
   | none=>.sw
  | .builtin .append=>bif kB res.lo H.n then .sr else match res.v with
   | .sl n _ _ _ _=>bif kB n H.n then .ap res.lo (match c.args[1]? with
     | some x=>E8 (r x) res.lo
     | none=>res.lo) else .sw
   | _=>.sw
  | .builtin .cap=>.none
  | .builtin .max=>.none
  | .builtin .min=>.none
  | .value _=>bif kB res.lo H.n then .ca else .sw
  | .invoke _ _=>bif kB res.lo H.n then .ca else .sw
  | _=>.sw
 | _=>bif kB res.lo H.n then .sr else .sw
def XJ(ops:Array Oper)(T:Tr V)(o:Oper):Option Bool:=
 match o.guard with
 | none=>some true
 | some (j,want)=>match (ops[j]?).bind (·.dst) with
  | none=>none
  | some d=>match PD T d with
   | .lit (.bool b)=>some (bif want then b else !b)
   | .tup []=>some false
   | _=>none
def OG(T:Tr V)(dst:Option Tmp)(v:V):Tr V:=
 match dst with
 | some d=>YO T d v
 | none=>T
def nL(nt:Nat)(dst:Option Tmp):Bool:=
 match dst with
 | some d=>mD d nt
 | none=>true
def g8(ops:Array Oper)(d:Tmp):List Nat:=(CB ops.size).filter fun i=>((ops[i]?).bind (·.dst))==some d
def force{α:Type}(n:Nat)(k:Nat->α):α:=
 match n with
 | 0=>k 0
 | m+1=>k (m+1)
def EX(acc:List Nat)(len:Nat):List Edge->Nat
 | []=>0
 | e::es=>bif LC .any e&&mD e.on len then(2 ^ e.on||| acc.getD (len-1-e.on) 0)||| EX acc len es else EX acc len es
def LS:Nat->List Oper->List Nat->List Nat
 | _,[],acc=>acc
 | j,o::r,acc=>force (EX acc j o.after.toList) fun m=>LS (j+1) r (m::acc)
def xN(ops:Array Oper):List Nat:=(LS 0 ops.toList []).reverse
def HM(ops:Array Oper)(j i:Nat):Bool:=((xN ops).getD j 0).testBit i
def wV(ops:Array Oper):Bool:=
 (CB ops.size).all fun j=>match ops[j]? with
  | none=>false
  | some o=>
   (o.after.all fun e=>!LC .any e||mD e.on j)&&
   (match o.dst with|none=>true|some d=>g8 ops d==[j])&&
   ((o.looksAt ops).all fun t=>(g8 ops t).all fun i=>kB i j||(bif mD i j then HM ops j i else HM ops i j))
def yV:List Eff->List Nat->Nat->List (Nat×Eff)->Bool
 | [],_,_,_=>true
 | _::_,[],_,_=>false
 | e::es,m::ms,j,seen=>(seen.all fun p=>!oI p.2 e||m.testBit p.1)&&yV es ms (j+1) (match e with|.none=>seen|_=>(j,e)::seen)
def O3(ops:Array Oper)(effs:List Eff):Bool:=yV effs (xN ops) 0 []
def ZJ:List V->Nat->Tr V->Tr V
 | [],_,T=>T
 | v::vs,i,T=>ZJ vs (i+1) (YO T i v)
def aL(C:Ctx)(T:Tr V)(H:Heap):List ResultVar->Option (List V)
 | []=>some []
 | .tmp t::r=>(aL C T H r).map (PD T t::·)
 | .cell a t::r=>do
  let v <-zeO C.P H t (PD T a)
  let vs <-aL C T H r
  some (v::vs)
def YL:List V->V
 | [v]=>v
 | vs=>.tup vs
def kM(H:Heap):Nat->V->Option V
 | 0,_=>none
 | n+1,v=>
  match v with
  | .lit x=>some (.lit x)
  | .ps cells len=>(cells.mapM (kM H n)).map fun c=>.ps c len
  | .pn cells len=>(cells.mapM (kM H n)).map fun c=>.pn c len
  | .pp cells=>(cells.mapM (kM H n)).map .pp
  | .agg cells=>(cells.mapM (kM H n)).map .agg
  | .tup vs=>(vs.mapM (kM H n)).map .tup
  | .ifc t v=>(kM H n v).map (.ifc t)
  | .ptr b off=>match H.get b with
   | some (.cells cs _)=>((cs.drop off).mapM (kM H n)).map .pp
   | _=>none
  | .sl b off len cap opn=>match H.get b with
   | some (.cells cs _)=>bif DF len cap then((match opn with|some z=>(cs.drop off).take (len*z)|none=>cs.drop off).mapM (kM H n)).map fun c=>.ps c len else none
   | _=>none
  | .zs=>some .zs
  | .void=>some .void
  | _=>none
def rsV(P:Program)(cv:V->List V->Heap->Option OR)(r:Operand->V)(H:Heap)(op:Op):Option OR:=
 match op with
 | .call c=>match c.callee with
  | .value f=>cv (r f) (c.args.toList.map r) H
  | .invoke x name=>cv (.fn (.method name) [r x] []) (c.args.toList.map r) H
  | _=>opV P r H op
 | _=>opV P r H op
def sO:Code->Bool
 | .region _ ops _=>ops.toList.any fun o=>match o.op with
  | .defer _=>true
  | _=>false
 | .seq a b=>sO a||sO b
 | .cond _ a b=>sO a||sO b
 | .block _ a=>sO a
 | .loop a=>sO a
 | .scope a=>sO a
 | .rangeFunc _ _ a b=>sO a||sO b
 | _=>false
def defers(P:Program)(g:FuncId):Bool:=
 match P.funcs[g]? with
 | some fn=>match fn.body with
  | some b=>sO b
  | none=>true
 | none=>true
def zih(ops:List Oper):Option (List Oper×Option Tmp×Operand×List Operand):=
 match ops.reverse with
 | o::r=>match o.op,o.guard with
  | .defer c,none=>match c.callee with
   | .value f=>some (r.reverse,o.dst,f,c.args.toList)
   | _=>none
  | _,_=>none
 | []=>none
def mN(H:Heap):Option Nat->Bool
 | none=>true
 | some b=>match H.get b with
  | some (.loop _ _ _ _ _ _)=>true
  | _=>false
def BX:List Tmp->List V->Tr V->Tr V
 | t::ts,v::vs,T=>BX ts vs (YO T t v)
 | _,_,T=>T
def uN:Ex->Option Code
 | .normal=>none
 | .exit i=>some (.exit i)
 | .ret=>some .ret
def YR:Ex->LoopState
 | .normal=>.ready
 | _=>.done
def eS:Ex->Bool
 | .normal=>true
 | _=>false
def mU(st:St)(o:Option (Ex×St)):Option (Ex×St×List (V×List V)):=
 match o with
 | some (x,st')=>some (x,⟨st'.T,st'.H,min st.lo st'.lo⟩,[])
 | none=>none
mutual
def AJ(C:Ctx):Nat->Option Nat->Nat->Code->St->Option (Ex×St)
 | 0,_,_,_,_=>none
 | n+1,ro,nt,c,st=>
  match c with
  | .skip=>some (.normal,st)
  | .label _=>some (.normal,st)
  | .region _ ops draw=>
   bif draw then
    bif wV ops then
     match IK C n nt ops ops.toList st with
     | some (effs,st')=>bif O3 ops effs then some (.normal,st') else none
     | none=>none
    else none
   else match IK C n nt ops ops.toList st with
    | some (_,st')=>some (.normal,st')
    | none=>none
  | .seq a b=>match AJ C n ro nt a st with
   | some (.normal,st')=>AJ C n ro nt b st'
   | r=>r
  | .cond c a b=>match HD C st.T c with
   | .lit (.bool t)=>bif t then AJ C n ro nt a st else AJ C n ro nt b st
   | _=>none
  | .block id body=>match AJ C n ro nt body st with
   | some (.exit i,st')=>bif kB i id then some (.normal,st') else some (.exit i,st')
   | r=>r
  | .loop body=>match AJ C n ro nt body st with
   | some (.normal,st')=>AJ C n ro nt (.loop body) st'
   | r=>r
  | .exit id=>some (.exit id,st)
  | .ret=>some (.ret,st)
  | .rangeFunc f params assign body=>
   bif mN st.H ro then
    match HD C st.T f with
    | .fn (.func g) first cap=>match C.S g with
     | none=>match DN C n g (first++[.yld st.H.n]++cap) (st.H.push (.loop ((CB nt).map (PD st.T)) params.toList assign body .ready none)) with
      | some r=>match r.H.get st.H.n with
       | some (.loop ts ps as0 bd state pend)=>
        match state with
        | .busy=>none
        | _=>match pend with
         | none=>some (.normal,⟨st.T,r.H.set st.H.n (.loop ts ps as0 bd .exhausted pend),min st.lo r.lo⟩)
         | some c=>AJ C n ro nt c ⟨st.T,r.H.set st.H.n (.loop ts ps as0 bd .exhausted pend),min st.lo r.lo⟩
       | _=>none
      | none=>none
     | some _=>none
    | _=>none
   else none
  | _=>none
def IK(C:Ctx):Nat->Nat->Array Oper->List Oper->St->Option (List Eff×St)
 | 0,_,_,_,_=>none
 | n+1,nt,ops,[],st=>some ([],st)
 | n+1,nt,ops,o::rest,st=>
  match TO C n nt ops o st with
  | some (e,st')=>match IK C n nt ops rest st' with
   | some (es,st2)=>some (e::es,st2)
   | none=>none
  | none=>none
def TO(C:Ctx):Nat->Nat->Array Oper->Oper->St->Option (Eff×St)
 | 0,_,_,_,_=>none
 | n+1,nt,ops,o,st=>
  bif nL nt o.dst then
   match XJ ops st.T o with
   | none=>none
   | some false=>some (.none,⟨OG st.T o.dst EH,st.H,st.lo⟩)
   | some true=>
    match rsV C.P (KK C n) (HD C st.T) st.H o.op with
    | some r=>some (FF (HD C st.T) st.H o.op r,⟨OG st.T o.dst r.v,r.H,min st.lo r.lo⟩)
    | none=>none
  else none
def KK(C:Ctx):Nat->V->List V->Heap->Option OR
 | 0,_,_,_=>none
 | n+1,f,args,H=>
  match f with
  | .fn (.func g) first cap=>DN C n g (first++args++cap) H
  | .fn (.method name) first cap=>match first++args with
   | .ifc t v::rest=>match Y7 C.P t name with
    | some g=>DN C n g (v::rest) H
    | none=>none
   | _=>none
  | .yld b=>match H.get b with
   | some (.loop ts ps as0 bd state _)=>
    match state with
    | .ready=>
     bif kB args.length ps.length&&ps.all (fun p=>mD p ts.length) then
      match AJ C n (some b) ts.length as0 ⟨BX ps args (ZJ ts 0 .nil),H,H.n⟩ with
      | some (.normal,st1)=>match st1.H.get b with
       | some (.loop ts1 ps1 as1 bd1 state1 pend1)=>
        match state1 with
        | .ready=>match AJ C n (some b) ts.length bd ⟨st1.T,st1.H.set b (.loop ts1 ps1 as1 bd1 .busy pend1),min st1.lo b⟩ with
         | some (x,st3)=>match st3.H.get b with
          | some (.loop ts3 ps3 as3 bd3 _ _)=>some ⟨.lit (.bool (eS x)),st3.H.set b (.loop ts3 ps3 as3 bd3 (YR x) (uN x)),min st3.lo b⟩
          | _=>none
         | none=>none
        | _=>none
       | _=>none
      | _=>none
     else none
    | _=>none
   | _=>none
  | _=>none
def DN(C:Ctx):Nat->FuncId->List V->Heap->Option OR
 | 0,_,_,_=>none
 | n+1,g,args,H=>
  match C.S g with
  | some (.pure F)=>do
   let as0 <-args.mapM (kM H 50)
   let v <-F as0
   some ⟨v,H,H.n⟩
  | some (.mem F)=>F args H
  | none=>
   match C.P.funcs[g]? with
   | some fn=>match fn.body with
    | some body => bif fn.name == "runtime.NumGoroutine" then none else
     bif sO body then
      match JX C n (max args.length fn.ntmps) body ⟨ZJ args 0 .nil,H,H.n⟩ with
      | some (x,st,ds)=>match x with
       | .exit _=>none
       | _=>match IX C n ds st.H st.lo with
        | some (H',lo')=>match aL C st.T H' fn.results.toList with
         | some vs=>some ⟨YL vs,H',lo'⟩
         | none=>none
        | none=>none
      | none=>none
     else
     match AJ C n none (max args.length fn.ntmps) body ⟨ZJ args 0 .nil,H,H.n⟩ with
     | some (.normal,st)=>do
      let vs <-aL C st.T st.H fn.results.toList
      some ⟨YL vs,st.H,st.lo⟩
     | some (.ret,st)=>do
      let vs <-aL C st.T st.H fn.results.toList
      some ⟨YL vs,st.H,st.lo⟩
     | _=>none
    | none=>none
   | none=>none
def JX(C:Ctx):Nat->Nat->Code->St->Option (Ex×St×List (V×List V))
 | 0,_,_,_=>none
 | n+1,nt,c,st=>
  match c with
  | .seq a b=>match JX C n nt a st with
   | some (x,st',ds)=>match x with
    | .normal=>match JX C n nt b st' with
     | some (y,st2,ds2)=>some (y,st2,ds2++ds)
     | none=>none
    | x=>some (x,st',ds)
   | none=>none
  | .region id ops draw=>match zih ops.toList with
   | some (init,dst,f,args)=>bif draw then none else
    bif nL nt dst then
     match IK C n nt ops init st with
     | some (_,st')=>match HD C st'.T f with
      | .fn g a b=>some (.normal,⟨OG st'.T dst EH,st'.H,min st.lo st'.lo⟩,[(.fn g a b,args.map (HD C st'.T))])
      | _=>none
     | none=>none
    else none
   | none=>mU st (AJ C n none nt (.region id ops draw) st)
  | c=>mU st (AJ C n none nt c st)
def IX(C:Ctx):Nat->List (V×List V)->Heap->Nat->Option (Heap×Nat)
 | 0,_,_,_=>none
 | n+1,[],H,lo=>some (H,lo)
 | n+1,(f,args)::ds,H,lo=>
  match f with
  | .fn (.func g) first cap=>match C.S g with
   | some _=>none
   | none=>bif defers C.P g then none else
    match DN C n g (first++args++cap) H with
    | some r=>IX C n ds r.H (min lo r.lo)
    | none=>none
  | _=>none
end
section
inductive NV where
 | ptr
 | sl (len cap:Nat) (opn:Option Nat)
 | mp
def NV.at:NV->Nat->V
 | .ptr,n=>.ptr n 0
 | .sl l c o,n=>.sl n 0 l c o
 | .mp,n=>.mp n
def dz(c:Option Nat)(H:Heap):Heap:=
 match c with
 | none=>H
 | some c=>H.set c .dead
def EffOK(P:Program)(cv:V->List V->Heap->Option OR)(ρ:Operand->V)(H:Heap)(op:Op)(r:OR):Eff->Prop
 | .none=>r.H=H/\r.lo=H.n/\∀H',rsV P cv ρ H' op=some ⟨r.v,H',H'.n⟩
 | .rd b=>r.H=H/\r.lo=H.n/\(H.get b).isSome=true/\∀H',H'.get b=H.get b->rsV P cv ρ H' op=some ⟨r.v,H',H'.n⟩
 | .wr b=>∃B,B≠.dead/\r.v=EH/\r.H=H.set b B/\r.lo=min b H.n/\(H.get b).isSome=true/\H.get b≠some .dead/\(∃t a x off,op=.store t a x/\ρ a=.ptr b off)/\∀H',H'.get b=H.get b->rsV P cv ρ H' op=some ⟨EH,H'.set b B,min b H'.n⟩
 | .al=>∃B nv,B≠.dead/\r=⟨NV.at nv H.n,H.push B,H.n⟩/\∀H',rsV P cv ρ H' op=some ⟨NV.at nv H'.n,H'.push B,H'.n⟩
 | .ap b x=>∃B nv,B≠.dead/\r=⟨NV.at nv H.n,dz (some b) (H.push B),min b H.n⟩/\(H.get b).isSome=true/\(H.get x).isSome=true/\H.get b≠some .dead/\(∃y∈op.operands,∃off l c o,ρ y=.sl b off l c o)/\
   ∀H',H'.get b=H.get b->H'.get x=H.get x->rsV P cv ρ H' op=some ⟨NV.at nv H'.n,dz (some b) (H'.push B),min b H'.n⟩
 | .lk b t k=>r.H=H/\r.lo=H.n/\(H.get b).isSome=true/\nM P t k (H.get b)=some r.v/\∀H',nM P t k (H'.get b)=some r.v->rsV P cv ρ H' op=some ⟨r.v,H',H'.n⟩
 | .en b t k=>∃B,B≠.dead/\r.H=H.set b B/\r.lo=min b H.n/\(H.get b).isSome=true/\H.get b≠some .dead/\(∃y∈op.operands,ρ y=.mp b)/\nM P t k (some B)=nM P t k (H.get b)/\
   ∀H',H'.get b=H.get b->rsV P cv ρ H' op=some ⟨r.v,H'.set b B,min b H'.n⟩
 | .sr=>r.lo=H.n
 | .ca=>r.lo=H.n
 | .sw=>True
section
variable {P:Program} {cv:V->List V->Heap->Option OR} {ρ:Operand->V} {H:Heap} {r:OR}
theorem EffOK.kp{op:Op}{v:Option V}(h:∀H',rsV P cv ρ H' op=keep H' v)(hr:rsV P cv ρ H op=some r):EffOK P cv ρ H op r .none:=by
 rw[h] at hr
 obtain⟨u,rfl,rfl⟩:=BA.1 hr
 exact⟨rfl,rfl,fun H'=>h H'⟩
theorem EffOK.keepRd{op:Op}{v:Heap->Option V}{b:Nat}(h:∀H',rsV P cv ρ H' op=keep H' (v H'))(hv:∀H',H'.get b=H.get b->v H'=v H)(hs:v H≠none->(H.get b).isSome=true)(hr:rsV P cv ρ H op=some r):EffOK P cv ρ H op r (.rd b):=by
 rw[h] at hr
 obtain⟨u,h1,rfl⟩:=BA.1 hr
 exact⟨rfl,rfl,hs (by rw[h1];simp),fun H' hH=>by rw[h,hv H' hH,h1];rfl⟩
theorem EffOK.big{op:Op}{e:Eff}(he:e=.sr\/e=.ca):EffOK P cv ρ H op r (bif kB r.lo H.n then e else .sw):=by
 cases h:kB r.lo H.n with
 | false=>trivial
 | true=>
  have:=KC h
  rcases he with rfl|rfl<;>exact this
theorem zkr{H H':Heap}{sz n:Nat}{x:V}(h:∀b off len cap opn,x=.sl b off len cap opn->H'.get b=H.get b):cellsOf H' sz n x=cellsOf H sz n x:=by
 cases x with
 | sl b off len cap opn=>simp only[cellsOf,h b off len cap opn rfl]
 | lit v=>
  cases v<;>(try rfl)
  case slice a _ _=>cases a<;>rfl
 | _=>rfl
theorem zqA{t0 t1:TypeId}{s x:V}{b:Nat}(h:DH P H t0 t1 s x=some r)(hlo:¬r.lo=H.n){off l c:Nat}{o:Option Nat}(hv:r.v=.sl H.n off l c o)(hb:b=E8 x r.lo):
  ∃B nv b0,B≠.dead/\r.lo=b0/\r=⟨NV.at nv H.n,dz (some b0) (H.push B),min b0 H.n⟩/\(H.get b0).isSome=true/\(H.get b).isSome=true/\H.get b0≠some .dead/\(∃off l c o,s=.sl b0 off l c o)/\
   ∀H',H'.get b0=H.get b0->H'.get b=H.get b->DH P H' t0 t1 s x=some ⟨NV.at nv H'.n,dz (some b0) (H'.push B),min b0 H'.n⟩:=by
 unfold DH at h
 split at h
 ·exfalso
  unfold S7 at h
  split at h
  ·simp only[pA,nA] at h
   obtain⟨i,hi,zc,hzc,h⟩:=h
   split at h
   ·injection h with h;subst h;exact hlo rfl
   ·cases h
  ·simp only[pA,nA] at h
   obtain⟨i,hi,zc,hzc,h⟩:=h
   split at h
   ·split at h
    ·injection h with h;subst h;exact hlo rfl
    ·cases h
   ·cases h
  ·cases h
 ·rename_i elem d1 hd1 hu hu1
  simp only[pA,nA] at h
  obtain⟨i,hi,n,hn,new,hnew,zc,hzc,h⟩:=h
  split at h
  ·cases h
  ·rename_i hc
   split at h
   ·rename_i h0
    exfalso
    split at h<;>first
     | (cases h;done)
     | (injection h with h;subst h;exact hlo rfl)
     | skip
    split at h
    ·injection h with h;subst h;exact hlo rfl
    ·cases h
   ·rename_i h0
    split at h
    ·split at h
     ·injection h with h;subst h;exact absurd rfl hlo
     ·cases h
    ·split at h
     ·injection h with h;subst h;exact absurd rfl hlo
     ·cases h
    ·rename_i b0 off0 len cap opn
     split at h
     ·rename_i cs e hg
      have hbn:=Heap.get_lt hg
      split at h
      ·obtain⟨c',hsp,h⟩:=nA.1 h
       injection h with h
       subst h
       injection hv with hv
       omega
      ·rename_i hfit
       split at h
       ·cases h
       ·rename_i hcc
        split at h
        ·rename_i hopn
         split at h
         ·rename_i h3
          injection h with h
          subst h
          have hmin:min b0 H.n=b0:=by omega
          have hcell:∀H':Heap,H'.get b0=H.get b0->H'.get b=H.get b->cellsOf H' i.size n x=cellsOf H i.size n x:=by
           intro H' h1 h2
           refine zkr fun bx ox lx cx px hx=>?_
           subst hx
           simp only[E8] at hb
           rw[<-hb]
           exact h2
          have hbs:(H.get b).isSome=true:=by
           cases x
           case sl bx _ _ _ _=>
            simp only[E8] at hb
            subst hb
            simp only[cellsOf] at hnew
            cases hx:H.get b with
            | none=>rw[hx] at hnew;cases hnew
            | some B=>rfl
           all_goals
            simp only[E8] at hb
            rw[hb,hmin,hg]
            rfl
          refine⟨.cells (cs.take (len*i.size)++new) elem,.sl (len+n) (len+n) (some i.size),b0,by simp,hmin,rfl,by rw[hg];rfl,hbs,by rw[hg];simp,⟨_,_,_,_,rfl⟩,fun H' h1 h2=>?_⟩
          unfold DH
          have hnew':=hcell H' h1 h2
          rw[hnew] at hnew'
          rw[hu,hu1]
          cases d1<;>first
           | exact absurd rfl (hd1 _)
           | (simp only[hi,hn,hnew',hzc,pA,KA,if_neg hc,if_neg h0,h1,hg,if_neg hfit,if_neg hcc,if_pos hopn,if_pos h3];rfl)
         ·cases h
        ·injection h with h;subst h;exact absurd rfl hlo
     ·cases h
    ·cases h
 ·cases h
theorem zlh(H:Heap)(t:TypeId)(b:Nat)(k:V):aO P H t (.mp b) k false=match P.underlying t with
  | some (.map kt et)=>if oM P 9 kt k then nM P t k (H.get b) else none
  | _=>none:=by
 unfold aO nM
 cases hu:P.underlying t with
 | none=>rfl
 | some d=>
  cases d with
  | map kt et=>
   simp only
   by_cases hk:oM P 9 kt k=true
   ·rw[if_pos hk,if_pos hk]
    simp only[mO,mM]
    cases hb:H.get b with
    | none=>rfl
    | some B=>
     cases B with
     | map es clk=>
      simp only[SB,pA,KA]
      cases hf:JK P kt k es 0 with
      | none=>rfl
      | some q=>
       cases q with
       | none=>
        simp only[KA]
        cases tX P et<;>rfl
       | some q=>rfl
     | _=>rfl
   ·rw[if_neg hk,if_neg hk]
  | _=>rfl
theorem Mj{kt:TypeId}{k:V}:∀{es:List (V×V×Nat)} {i j:Nat} {v:V} {n:Nat},JK P kt k es i=some (some (j,v,n))->i<=j/\∃k',es[j-i]?=some (k',v,n)
 | [],i,j,v,n,h=>by simp[JK] at h
 | (k',v',n')::es,i,j,v,n,h=>by
  simp only[JK,pA,nA] at h
  obtain⟨a,ha,b,hb,h⟩:=h
  split at h
  ·split at h
   ·simp only[lA,dB] at h
    obtain⟨rfl,rfl,rfl⟩:=h
    exact⟨jA _,k',by simp⟩
   ·obtain⟨h1,k2,h2⟩:=Mj h
    refine⟨by omega,k2,?_⟩
    rw[show j-i=(j-(i+1))+1 by omega]
    simpa using h2
  ·cases h
theorem zl8{H:Heap}{b:Nat}(h:b<H.n)(B:Blk):(H.set b B).get b=some B:=by
 rw[Heap.get_set,if_pos ⟨rfl,h⟩]
theorem TP{t:TypeId}{b:Nat}{k:V}(h:tO P H t (.mp b) k=some r):∃B,B≠.dead/\r.H=H.set b B/\r.lo=min b H.n/\(H.get b).isSome=true/\H.get b≠some .dead/\nM P t k (some B)=nM P t k (H.get b)/\
   ∀H',H'.get b=H.get b->tO P H' t (.mp b) k=some ⟨r.v,H'.set b B,min b H'.n⟩:=by
 unfold tO at h
 split at h
 ·rename_i r' h1
  cases hp:xV P t k H r'.H (.mp b) with
  | false=>rw[hp] at h;cases h
  | true=>
   rw[hp] at h
   injection h with h
   subst h
   have hv:=h1
   unfold gV at h1
   split at h1
   ·rename_i kt et b' hu hm
    injection hm with hm
    subst hm
    split at h1
    ·rename_i hk
     simp only[pA,nA] at h1
     obtain⟨⟨es,clk⟩,hes,f,hf,h1⟩:=h1
     have hg:H.get b=some (.map es clk):=by
      simp only[mM] at hes
      split at hes
      ·rename_i es' clk' hb;injection hes with hes;injection hes with e1 e2;subst e1 e2;exact hb
      ·cases hes
     have hbn:=Heap.get_lt hg
     have key:∀es' clk' v,r'=⟨v,VL H b es' clk',min b H.n⟩->(∀H',H'.get b=H.get b->gV P H' t (.mp b) k=some ⟨v,VL H' b es' clk',min b H'.n⟩)->nM P t k (some (.map es' clk'))=nM P t k (H.get b)->∃B,B≠.dead/\r'.H=H.set b B/\r'.lo=min b H.n/\(H.get b).isSome=true/\H.get b≠some .dead/\nM P t k (some B)=nM P t k (H.get b)/\
       ∀H',H'.get b=H.get b->tO P H' t (.mp b) k=some ⟨r'.v,H'.set b B,min b H'.n⟩:=by
      intro es' clk' v e hall hl
      refine⟨.map es' clk',by simp,by rw[e];rfl,by rw[e],by rw[hg];rfl,by rw[hg];simp,hl,fun H' hH=>?_⟩
      unfold tO
      rw[hall H' hH]
      simp only
      have hb':b<H'.n:=Heap.get_lt (hH.trans hg)
      have e1:(VL H' b es' clk').get b=(VL H b es' clk').get b:=by
       rw[VL,VL,zl8 hb',zl8 hbn]
      have e2:xV P t k H' (VL H' b es' clk') (.mp b)=xV P t k H (VL H b es' clk') (.mp b):=by
       unfold xV
       simp only[hu,hH,e1]
      rw[e] at hp
      rw[e2,hp,e]
      rfl
     have hput:∀es' clk',r'.H=VL H b es' clk'->∀q,JK P kt k es 0=some q->∃j v n,JK P kt k es' 0=some (some (j,v,n))/\(match q with|some (i,_,_)=>j=i|none=>j=es.length):=by
      intro es' clk' e q hq
      unfold xV at hp
      simp only[hu,hg] at hp
      have hg':r'.H.get b=some (.map es' clk'):=by rw[e];exact zl8 hbn _
      rw[hg'] at hp
      simp only[hq] at hp
      cases hf':JK P kt k es' 0 with
      | none=>rw[hf'] at hp;cases q with|none=>cases hp|some q=>cases hp
      | some q'=>
       rw[hf'] at hp
       cases q' with
       | none=>cases q with|none=>cases hp|some q=>cases hp
       | some q'=>
        obtain⟨j,v,n⟩:=q'
        refine⟨j,v,n,rfl,?_⟩
        cases q with
        | none=>exact KC hp
        | some q=>exact(KC hp).symm
     simp only at h1
     split at h1
     ·rename_i i v born
      injection h1 with h1
      obtain⟨_,k0,hat⟩:=Mj hf
      simp only[HG] at hat
      have hi:i<es.length:=(rA.1 hat).1
      obtain⟨j,v',n',q1,q2⟩:=hput (es.set i (k,v,born)) clk (by rw[<-h1]) _ hf
      simp only at q2
      subst q2
      obtain⟨_,k1,hat'⟩:=Mj q1
      rw[HG,List.getElem?_set_self hi] at hat'
      injection hat' with hat'
      simp only[dB] at hat'
      obtain⟨_,rfl,rfl⟩:=hat'
      refine key _ _ _ h1.symm (fun H' hH=>?_) ?_
      ·unfold gV
       simp only[hu,if_pos hk,mM,hH,hg,pA,KA,hf]
      ·simp only[nM,hu,hg,q1,hf]
     ·simp only[nA] at h1
      obtain⟨z,hz,h1⟩:=h1
      injection h1 with h1
      obtain⟨j,v',n',q1,q2⟩:=hput (es++[(k,z,clk)]) (clk+1) (by rw[<-h1]) _ hf
      simp only at q2
      subst q2
      obtain⟨_,k1,hat'⟩:=Mj q1
      rw[HG] at hat'
      simp only[jA,List.getElem?_append_right,Nat.sub_self,YA,lA,dB] at hat'
      obtain⟨_,rfl,rfl⟩:=hat'
      refine key _ _ _ h1.symm (fun H' hH=>?_) ?_
      ·unfold gV
       simp only[hu,if_pos hk,mM,hH,hg,pA,KA,hf,hz]
      ·simp only[nM,hu,hg,q1,hf,KA,hz]
    ·cases h1
   ·cases h1
 ·cases h
theorem HY{op:Op}(hr:rsV P cv ρ H op=some r):EffOK P cv ρ H op r (FF ρ H op r):=by
 cases op<;>simp only[FF]<;>(try exact EffOK.big (.inl rfl))
 case alloc t=>
  simp only[rsV,opV,uV,pA,nA,lA] at hr
  obtain⟨zc,hz,rfl⟩:=hr
  exact⟨.cells zc t,.ptr,by simp,rfl,fun H'=>by simp only[rsV,opV,uV,hz];rfl⟩
 case box t x=>
  simp only[rsV,opV,JL,pA,nA,lA] at hr
  obtain⟨zc,hz,rfl⟩:=hr
  exact⟨.cells zc t,.ptr,by simp,rfl,fun H'=>by simp only[rsV,opV,JL,hz];rfl⟩
 case buildSlice t len ps=>
  simp only[rsV,opV,zx] at hr
  split at hr
  ·rename_i elem hu
   simp only[pA,nA] at hr
   obtain⟨sz,h1,zc,h2,hr⟩:=hr
   split at hr
   ·rename_i hc
    simp only[nA,lA] at hr
    obtain⟨c,h3,rfl⟩:=hr
    refine⟨.cells c elem,.sl len len none,by simp,rfl,fun H'=>?_⟩
    simp only[rsV,opV,zx,hu,h1,h2,pA,KA,if_pos hc,h3]
    rfl
   ·cases hr
  ·cases hr
 case makeSlice t l c=>
  simp only[rsV,opV,kX] at hr
  split at hr
  ·rename_i elem _ l' _ c' hu hl hc
   simp only[pA,nA] at hr
   obtain⟨i,h1,zc,h2,hr⟩:=hr
   split at hr
   ·rename_i hcc
    simp only[lA] at hr
    obtain rfl:=hr
    refine⟨.cells (bH zc c'.toNat) elem,.sl l'.toNat c'.toNat none,by simp,rfl,fun H'=>?_⟩
    simp only[rsV,opV,kX,hu,hl,hc,h1,h2,pA,KA,if_pos hcc]
    rfl
   ·cases hr
  ·cases hr
 case makeMap t o=>
  cases o with
  | none=>
   simp only[rsV,opV,lA] at hr
   obtain rfl:=hr
   exact⟨.map [] 0,.mp,by simp,rfl,fun H'=>rfl⟩
  | some o=>cases hr
 case move x=>exact EffOK.kp (v:=some (ρ x)) (fun H'=>rfl) hr
 case assign x=>exact EffOK.kp (v:=some (ρ x)) (fun H'=>rfl) hr
 case pick c a b=>
  simp only[rsV,opV] at hr
  split at hr
  ·rename_i t ht
   refine EffOK.kp (v:=some (if t then ρ a else ρ b)) (fun H'=>by simp only[rsV,opV,ht]) (by simp only[rsV,opV,ht];exact hr)
  ·cases hr
 case build t ps=>exact EffOK.kp (fun H'=>rfl) hr
 case nilCheck x=>exact EffOK.kp (fun H'=>rfl) hr
 case binOp=>exact EffOK.kp (fun H'=>rfl) hr
 case unOp=>exact EffOK.kp (fun H'=>rfl) hr
 case makeInterface t x=>
  simp only[rsV,opV] at hr
  split at hr
  ·cases hr
  ·rename_i d hn hd
   refine EffOK.kp (v:=some (.ifc t (ρ x))) (fun H'=>?_) ?_
   ·simp only[rsV,opV]
    split
    ·rename_i q hq;rw[hd] at hq;injection hq with hq;exact absurd hq (fun e=>hn _ e)
    ·rfl
    ·rename_i hq;rw[hd] at hq;cases hq
   ·simp only[rsV,opV]
    split
    ·rename_i q hq;rw[hd] at hq;injection hq with hq;exact absurd hq (fun e=>hn _ e)
    ·exact hr
    ·rename_i hq;rw[hd] at hq;cases hq
  ·cases hr
 case makeFunc f a b=>exact EffOK.kp (v:=some (.fn f (a.toList.map ρ) (b.toList.map ρ))) (fun H'=>rfl) hr
 case slice=>exact EffOK.kp (fun H'=>rfl) hr
 case fieldAddr=>exact EffOK.kp (fun H'=>rfl) hr
 case field=>exact EffOK.kp (fun H'=>rfl) hr
 case indexAddr=>exact EffOK.kp (fun H'=>rfl) hr
 case index=>exact EffOK.kp (fun H'=>rfl) hr
 case typeAssert=>exact EffOK.kp (fun H'=>rfl) hr
 case extract=>exact EffOK.kp (fun H'=>rfl) hr
 case load t a=>
  cases ha:ρ a<;>simp only
  case ptr b off=>
   refine EffOK.keepRd (v:=fun H'=>zeO P H' t (.ptr b off)) (fun H'=>by simp only[rsV,opV,ha]) (fun H' hH=>by simp only[zeO,I3,hH]) (fun hn=>?_) hr
   simp only[zeO,I3] at hn
   cases hb:H.get b with
   | none=>simp[hb] at hn
   | some B=>rfl
  case pp cells=>exact EffOK.kp (v:=zeO P .empty t (.pp cells)) (fun H'=>by simp only[rsV,opV,ha];rfl) hr
  all_goals
   simp only[rsV,opV,ha,zeO,I3] at hr
   cases hr
 case store t a x=>
  cases ha:ρ a<;>simp only<;>(try trivial)
  case ptr b off=>
   simp only[rsV,opV,ha,qV] at hr
   split at hr
   ·rename_i cs e hb
    simp only[pA,nA] at hr
    obtain⟨vc,hv,n,hn,hr⟩:=hr
    split at hr
    ·rename_i hc
     simp only[nA,lA] at hr
     obtain⟨c,h1,rfl⟩:=hr
     refine⟨.cells c e,by simp,rfl,rfl,rfl,by rw[hb];rfl,by rw[hb];simp,⟨t,a,x,off,rfl,ha⟩,fun H' hH=>?_⟩
     simp only[rsV,opV,ha,qV,hH,hb,hv,hn,pA,KA]
     rw[if_pos hc]
     simp[h1]
    ·cases hr
   ·cases hr
 case mapEntry t m k=>
  cases hm:ρ m<;>simp only<;>(try trivial)
  case mp b=>
   simp only[rsV,opV,hm] at hr
   obtain⟨B,k1,k2,k3,k4,k5,k6,k7⟩:=TP hr
   exact⟨B,k1,k2,k3,k4,k5,⟨m,by simp[Op.operands],hm⟩,k6,fun H' hH=>by simp only[rsV,opV,hm];exact k7 H' hH⟩
 case lookup t m k ok=>
  cases hm:ρ m<;>simp only<;>(try trivial)
  case mp b=>
   cases ok with
   | true=>
    refine EffOK.keepRd (v:=fun H'=>aO P H' t (.mp b) (ρ k) true) (fun H'=>by simp only[rsV,opV,hm]) (fun H' hH=>by simp only[aO,mO,mM,hH]) (fun hn=>?_) hr
    cases hb:H.get b with
    | none=>exact absurd (by simp only[aO,mO,mM,hb];split<;>simp) hn
    | some B=>rfl
   | false=>
    simp only[cond_false]
    simp only[rsV,opV,hm] at hr
    obtain⟨u,h1,rfl⟩:=BA.1 hr
    have h1':=h1
    rw[zlh] at h1
    split at h1
    ·rename_i kt et hu
     split at h1
     ·rename_i hk
      have hs:(H.get b).isSome=true:=by
       cases hb:H.get b with
       | none=>rw[hb] at h1;simp[nM,hu] at h1
       | some B=>rfl
      refine⟨rfl,rfl,hs,h1,fun H' hH=>?_⟩
      simp only[rsV,opV,hm]
      rw[zlh,hu]
      simp only
      rw[if_pos hk,hH]
      rfl
     ·cases h1
    ·cases h1
  case lit v=>
   refine EffOK.kp (v:=aO P .empty t (.lit v) (ρ k) ok) (fun H'=>?_) hr
   simp only[rsV,opV,hm]
   cases v<;>(try rfl)
   case map q=>cases q<;>rfl
 case convert s d x=>
  cases hx:ρ x<;>(try exact EffOK.big (.inl rfl))
  case lit v=>
   cases v<;>(try exact EffOK.big (.inl rfl))
   case int k n=>
    refine EffOK.kp (v:=(bL P .empty s d (.lit (.int k n))).map (·.v)) (fun H'=>?_) hr
    simp only[rsV,opV,hx]
    unfold bL
    cases h1:P.underlying s with
    | none=>rfl
    | some a=>
     cases h2:P.underlying d with
     | none=>rfl
     | some b=>
      cases b<;>(try rfl)
      case string=>
       cases a<;>(try rfl)
       case slice e=>
        simp only
        cases h3:P.underlying e with
        | none=>rfl
        | some q=>
         cases q<;>(try rfl)
         case int k=>cases k<;>rfl
      case slice=>cases a<;>rfl
 case call c=>
  obtain⟨callee,args,argTypes⟩:=c
  cases callee with
  | value f=>exact EffOK.big (.inr rfl)
  | invoke a b=>exact EffOK.big (.inr rfl)
  | builtin q=>
   cases q<;>simp only<;>(try trivial)
   case append=>
    cases hlo:kB r.lo H.n with
    | true=>exact KC hlo
    | false=>
     simp only[cond_false]
     split
     ·rename_i n off l c o hv
      cases hn:kB n H.n with
      | false=>trivial
      | true=>
       simp only[cond_true]
       obtain rfl:=KC hn
       simp only[rsV,opV] at hr
       split at hr
       ·rename_i t0 t1 s x h0 h1 h2 h3
        have hlo':¬r.lo=H.n:=fun e=>by rw[BJ e] at hlo;cases hlo
        obtain⟨B,nv,b0,k1,k2,k3,k4,k5,k6,k7,k8⟩:=zqA (b:=E8 (ρ x) r.lo) hr hlo' hv rfl
        simp only[h3]
        have hmem:s∈(Op.call ⟨.builtin .append,args,argTypes⟩).operands:=by
         simp only[Op.operands]
         have:=List.mem_of_getElem? (show args.toList[0]?=some s by simpa using h2)
         simp only[Call.operands]
         simpa using this
        refine⟨B,nv,k1,by rw[k2];exact k3,by rw[k2];exact k4,k5,by rw[k2];exact k6,⟨s,hmem,by rw[k2];exact k7⟩,fun H' e1 e2=>?_⟩
        rw[k2] at e1 ⊢
        simp only[rsV,opV,h0,h1,h2,h3]
        exact k8 H' e1 e2
       ·cases hr
     ·trivial
   case len=>
    cases h0:args[0]? with
    | none=>trivial
    | some x=>
     simp only
     simp only[rsV,opV,h0] at hr
     cases ht:argTypes[0]? with
     | none=>simp[ht] at hr
     | some t=>
      simp only[ht] at hr
      cases hx:ρ x<;>simp only<;>(try trivial)
      case mp b=>
       cases hb:H.get b with
       | none=>trivial
       | some B=>exact EffOK.keepRd (v:=fun H'=>qH P H' t (.mp b)) (fun H'=>by simp only[rsV,opV,h0,ht,hx]) (fun H' hH=>by simp only[qH,mM,hH]) (fun hn=>by rw[hb];rfl) (by simp only[rsV,opV,h0,ht];exact hr)
      all_goals
       refine EffOK.kp (v:=qH P .empty t (ρ x)) (fun H'=>?_) (by simp only[rsV,opV,h0,ht];exact hr)
       simp only[rsV,opV,h0,ht,hx]
       have e:∀x:V,(∀b,x≠.mp b)->qH P H' t x=qH P .empty t x:=by
        intro x hx
        unfold qH
        split
        ·cases x<;>(try rfl)
         case mp b=>exact absurd rfl (hx b)
         case lit v=>
          cases v<;>(try rfl)
          case map q=>cases q<;>rfl
        ·rfl
       rw[e _ (fun b=>by simp)]
   case cap=>
    simp only[rsV,opV] at hr
    split at hr
    ·rename_i t x h1 h2
     exact EffOK.kp (v:=KL P t (ρ x)) (fun H'=>by simp only[rsV,opV,h1,h2]) (by simp only[rsV,opV,h1,h2];exact hr)
    ·cases hr
   case max=>
    simp only[rsV,opV] at hr
    split at hr
    ·rename_i x rest h1
     exact EffOK.kp (v:=kS J4 x rest) (fun H'=>by simp only[rsV,opV,h1]) (by simp only[rsV,opV,h1];exact hr)
    ·cases hr
   case min=>
    simp only[rsV,opV] at hr
    split at hr
    ·rename_i x rest h1
     exact EffOK.kp (v:=kS QN x rest) (fun H'=>by simp only[rsV,opV,h1]) (by simp only[rsV,opV,h1];exact hr)
    ·cases hr
end
end
theorem g7{P:Program}{cv:V->List V->Heap->Option OR}{ρ ρ':Operand->V}{H:Heap}(op:Op)(h:∀x∈op.operands,ρ x=ρ' x):rsV P cv ρ H op=rsV P cv ρ' H op:=by
 have pairs:∀ps:Array (Nat×Operand),(∀x∈(ps.toList.map (·.2)),ρ x=ρ' x)->(ps.toList.map fun p=>(p.1,ρ p.2))=(ps.toList.map fun p=>(p.1,ρ' p.2)):=fun ps hp=>
  mF fun p hm=>by rw[hp p.2 (List.mem_map.2 ⟨p,hm,rfl⟩)]
 cases op<;>simp only[Op.operands] at h<;>simp only[rsV,opV]
 case build t ps=>rw[pairs ps fun x hx=>h x (by simpa using hx)]
 case buildSlice t n ps=>rw[pairs ps fun x hx=>h x (by simpa using hx)]
 case makeFunc fn first captured=>
  rw[mF (l:=first.toList) fun x hx=>h x (by simp at hx;simp[hx]),mF (l:=captured.toList) fun x hx=>h x (by simp at hx;simp[hx])]
 case makeMap t r=>cases r<;>rfl
 case slice t x lo hi mx=>
  have h0:ρ x=ρ' x:=h x (by simp)
  have e:∀q:Option Operand,(∀y,q=some y->ρ y=ρ' y)->q.map ρ=q.map ρ':=fun q hq=>by cases q<;>simp_all
  rw[h0,e lo fun y hy=>h y (by subst hy;simp),e hi fun y hy=>h y (by subst hy;simp),e mx fun y hy=>h y (by subst hy;simp)]
 case call c=>
  obtain⟨callee,args,argTypes⟩:=c
  have ha:∀x∈args.toList,ρ x=ρ' x:=fun x hx=>h x (by simp at hx;simp[Call.operands,hx])
  have hm:args.toList.map ρ=args.toList.map ρ':=mF ha
  have h1:∀(i:Nat) x,args[i]?=some x->ρ x=ρ' x:=fun i x hx=>ha x (by simp;exact Array.mem_of_getElem? hx)
  cases callee with
  | value f=>
   have hf:ρ f=ρ' f:=h f (by simp[Call.operands])
   simp only[hm,hf]
  | invoke a b=>
   have hf:ρ a=ρ' a:=h a (by simp[Call.operands])
   simp only[hm,hf]
  | builtin q=>
   cases q<;>simp only[hm]<;>(try rfl)
   all_goals
    obtain⟨l⟩:=args
    match l,h1 with
    | [],_=>simp
    | [x],h1=>have e:=h1 0 x rfl;cases argTypes[0]?<;>cases argTypes[1]?<;>simp[e]
    | x::y::l,h1=>have e:=h1 0 x rfl;have e':=h1 1 y rfl;cases argTypes[0]?<;>cases argTypes[1]?<;>simp[e,e']
 all_goals (first|rfl|(simp_all;done))
section
def GW(C:Ctx)(w:World):Prop:=∀g cs,C.G g=some cs->g<w.heap.size/\∃vs,VRs (szP C.P) (fun _=>none) (fun _=>False) (fun _=>False) w cs vs/\HoldsAt w ⟨g,0,none⟩ vs
abbrev Ctx.ph(C:Ctx)(h:Nat->Prop):PH:=⟨C.P,h⟩
def GOK(C:Ctx)(h:Nat->Prop)(s:Nat->Option Nat)(w:World):Prop:=(∀g,h g->g<w.heap.size)/\∀g cs,C.G g=some cs->RE (C.ph h) s w g/\∃vs,VRs (szP C.P) (fun _=>none) (fun _=>False) (fun _=>False) w cs vs/\HoldsAt w ⟨g,0,none⟩ vs
def CallF(P:Program)(f:FuncId)(args:Array Value)(w:World)(Q:Value->World->Prop):Prop:=
 match (callFunc f args).run P w with
 | .ok (.value v) w'=>Q v w'
 | .ok (.enter g as0) w'=>Calls P g as0 w' fun e w''=>∃v,e=.returned v/\Q v w''
 | _=>False
def Contract(C:Ctx)(g:FuncId)(F:List V->Option V):Prop:=
 ∀(w:World) (vs:List V) (cs:Array Value) (v:V),GW C w->VRs (szP C.P) (fun _=>none) (fun _=>False) (fun g=>g<w.heap.size) w vs cs.toList->F vs=some v->
  CallF C.P g cs w fun c w'=>VR (szP C.P) (fun _=>none) (fun _=>False) (fun g=>w.heap.size<=g/\g<w'.heap.size) w' v c/\RowKit.Below w.heap.size w w'/\(∀g x,w.shape? g=some x->w'.shape? g=some x)
def MCall(C:Ctx)(g:FuncId)(args:List V)(H:Heap)(Q:OR->Prop):Prop:=
 ∀(h:Nat->Prop) (s:Nat->Option Nat) (w:World) (cas:Array Value) (K:Value->World->Prop),
  HR (C.ph h) s H w->GOK C h s w->UG (C.ph h) s H w args cas.toList->
  (∀r,Q r->∀c w' s',VH (C.ph h) s' r.H w' r.v c->HR (C.ph h) s' r.H w'->Ext r.lo s H w s' r.H w'->K c w')->CallF C.P g cas w K
def Sm.OK(C:Ctx)(g:FuncId):Sm->Prop
 | .pure F=>Contract C g F
 | .mem F=>∀args H r,F args H=some r->MCall C g args H (·=r)
structure DV(C:Ctx):Prop where
 mix:C.P.follows .mixedOrders=true
 sums:∀g F,C.S g=some F->F.OK C g
structure yK where
 s:Nat->Option Nat
 H:Heap
 w:World
 base:List Deferred
abbrev WF(wro:Option Nat):Fence:={ Fence.wide with round:=wro }
def Rd(s:Nat->Option Nat)(H:Heap):Option Nat->Option Nat->Prop
 | none,none=>True
 | some b,some l=>RC H b\/s b=some l
 | _,_=>False
def mark(r:Nat):Deferred:={ target:=.collected r,args:=#[] }
def Marks(P:PH)(lo:Nat)(s:Nat->Option Nat)(w:World)(base ds:List Deferred):Prop:=
 ∃rs:List Nat,ds=rs.map mark++base/\rs.Nodup/\∀r∈rs,lo<=r/\RE P s w r/\w.heap[r]?=some (.deferred (some []))
structure SR(C:Ctx)(h:Nat->Prop)(nt:Nat)(ro wro:Option Nat)(o:yK)(s:Nat->Option Nat)(w:World)(st:St)(a:Act):Prop where
 ob:∀b g,o.s b=some g->b<o.H.n
 hr:HR (C.ph h) s st.H w
 gk:GOK C h s w
 ln:st.lo<=o.H.n
 ext:Ext st.lo o.s o.H o.w s st.H w
 sz:a.tmps.size=nt
 df:Marks (C.ph h) o.w.heap.size s w o.base a.defers
 rd:Rd s st.H ro wro
 tm:∀t,VH (C.ph h) s st.H w (PD st.T t) (a.tmps.getD t undef)
theorem VRs.mono'{z:TypeId->Nat}{s s':Nat->Option Nat}{d d' pr pr':Nat->Prop}{w w':World}(G:HL s s' d d' pr pr' w w'){vs:List V}{cs:List Value}(h:VRs z s d pr w vs cs):VRs z s' d' pr' w' vs cs:=VRs.mono G vs cs h
section
variable {C:Ctx} {nt:Nat} {ro wro:Option Nat} {o:yK} {s s':Nat->Option Nat} {H H':Heap} {w w':World} {st:St} {a:Act} {lo:Nat} {h:Nat->Prop}
theorem GOK.ext(hk:GOK C h s w)(E:Ext lo s H w s' H' w'):GOK C h s' w':=by
 refine⟨fun g hg=>Nat.lt_of_lt_of_le (hk.1 g hg) E.size,?_⟩
 intro g cs hg
 obtain⟨hp,vs,h1,h2⟩:=hk.2 g cs hg
 have hw:=E.frame g hp.1 fun b hb=>absurd hb (hp.2.1 b)
 exact⟨(E.grow (P:=C.ph h)).hp g hp,vs,h1.mono' ⟨fun _ h=>h,fun _ _ h=>.inl h,fun _ h=>h,fun _ (h:False)=>h.elim,E.shp⟩,h2.keep (Sf hw)⟩
theorem GOK.gw(hk:GOK C h s w):GW C w:=fun g cs hg=>⟨(hk.2 g cs hg).1.1,(hk.2 g cs hg).2⟩
theorem Marks.ext{P:PH}{l:Nat}{base ds:List Deferred}(hm:Marks P l s w base ds)(E:Ext lo s H w s' H' w'):Marks P l s' w' base ds:=by
 obtain⟨rs,e,hn,hr⟩:=hm
 refine⟨rs,e,hn,fun r hrs=>?_⟩
 obtain⟨h1,h2,h3⟩:=hr r hrs
 exact⟨h1,E.grow.hp r h2,by rw[E.frame r h2.1 fun b hb=>absurd hb (h2.2.1 b)];exact h3⟩
theorem Rd.ext(hr:Rd s H ro wro)(E:Ext lo s H w s' H' w'):Rd s' H' ro wro:=by
 cases ro<;>cases wro<;>simp only[Rd] at hr ⊢
 rcases hr with hr|hr
 ·exact .inl (E.dd _ hr)
 ·rcases E.ss _ _ hr with h1|⟨h1,_⟩
  ·exact .inr h1
  ·exact .inl h1
theorem XM(hg:GOK C h s w){T:Tr V}(ht:∀t,VH (C.ph h) s H w (PD T t) (a.tmps.getD t undef))(x:Operand):VH (C.ph h) s H w (HD C T x) (a.eval x):=by
 cases x with
 | tmp t=>exact ht t
 | const v=>exact Xk v
 | func f=>exact⟨#[],#[],rfl,by simp[VRs],by simp[VRs]⟩
 | global g=>
  simp only[HD,Act.eval]
  split
  ·rename_i cs hc
   obtain⟨hp,vs,h1,h2⟩:=hg.2 g cs hc
   exact⟨g,0,vs,rfl,hp,h1.mono' ⟨fun _ (h:False)=>h.elim,fun _ _ (h:none=some _)=>(nomatch h),fun _ (h:False)=>h.elim,fun _ (h:False)=>h.elim,fun _ _ h=>h⟩,h2⟩
  ·exact rfl
theorem QM(T:Tr V)(t u:Nat)(v:V):PD (YO T t v) u=if u=t then v else PD T u:=by
 simp only[PD,YO]
 rw[Tr.get_set _ _ _ _ _ (by omega)]
 by_cases e:u=t<;>simp[e]
theorem zpq{dst:Option Tmp}(hd:nL nt dst=true)(hs:a.tmps.size=nt){T:Tr V}(ht:∀t,VH (C.ph h) s H w (PD T t) (a.tmps.getD t undef)){v:V}{c:Value}(hv:VH (C.ph h) s H w v c)(t:Nat):
  VH (C.ph h) s H w (PD (OG T dst v) t) ((a.put dst c).tmps.getD t undef):=by
 cases dst with
 | none=>exact ht t
 | some d=>
  simp only[nL,Nat.blt_eq] at hd
  simp only[OG,Act.put,QM]
  rw[EC,jD]
  by_cases e:d=t
  ·subst e
   simp[hs,hd]
   exact hv
  ·rw[if_neg (fun h=>e h.symm),if_neg e,<-EC]
   exact ht t
theorem zh3(a:Act)(dst:Option Tmp)(c:Value):(a.put dst c).tmps.size=a.tmps.size:=by cases dst<;>simp[Act.put]
theorem zfx(a:Act)(dst:Option Tmp)(c:Value):(a.put dst c).defers=a.defers:=by cases dst<;>simp[Act.put]
def eP(P:Program)(wro:Option Nat)(cf:Value)(cas:List Value)(w:World)(K:Value->World->Prop):Prop:=
 (∃name xs ys t x rest g,cf=.func (.method name) xs ys/\xs++cas.toArray=#[.iface t x]++rest/\Y7 P t name=some g/\CallF P g (#[x]++rest) w K)\/
 (∃g xs ys,cf=.func (.func g) xs ys/\CallF P g (xs++cas.toArray++ys) w K)\/
 (∃l fn tmps assign body,cf=.func (.yield l) #[] #[]/\(Instr.yield l cas.toArray).run P w=.ok (.round l fn tmps assign body) w/\
  RoundIn (WF wro) 0 P l fn tmps assign body w fun e w'=>∃v,e=.returned v/\K v w')
def zn4(C:Ctx)(cv:V->List V->Heap->Option OR):Prop:=
 ∀(h:Nat->Prop) (wro:Option Nat) (s:Nat->Option Nat) (H:Heap) (w:World) (f:V) (args:List V) (cf:Value) (cas:List Value) (r:OR) (K:Value->World->Prop),
  HR (C.ph h) s H w->GOK C h s w->VH (C.ph h) s H w f cf->UG (C.ph h) s H w args cas->cv f args H=some r->
  (∀c w' s',VH (C.ph h) s' r.H w' r.v c->HR (C.ph h) s' r.H w'->Ext r.lo s H w s' r.H w'->K c w')->eP C.P wro cf cas w K
theorem zfP{P:Program}{f:FuncId}{args:Array Value}{R:Ending->World->Prop}(n:Nat)(h:Calls P f args w R):CallsIn (WF wro) n P f args w R:=by
 have h1:CallsIn Fence.wide n P f args w R:=callsIn_wide.2 h
 exact h1
theorem CallF.upon{P:Program}{f:FuncId}{args:Array Value}{Q:Value->World->Prop}(h:CallF P f args w Q){o:Oper}{K:Act->World->Prop}{Q':Exit->Act->World->Prop}
  (hk:∀v w',Q v w'->K (a.put o.dst v) w'):o.uponIn (WF wro) 0 P a K Q' ((callFunc f args).run P w):=by
 unfold CallF at h
 split at h
 ·rename_i v w' e
  rw[e]
  exact hk _ _ h
 ·rename_i g as0 w' e
  rw[e]
  refine⟨fun hd=>by simp[Fence.wide] at hd,?_⟩
  exact zfP _ (Calls.mono h fun e w'' he=>by
   obtain⟨v,rfl,h⟩:=he
   exact hk _ _ h)
 ·exact h.elim
def RO(C:Ctx)(cv:V->List V->Heap->Option OR):Prop:=
 ∀(h:Nat->Prop) (wro:Option Nat) (s:Nat->Option Nat) (H:Heap) (w:World) (ρ:Operand->V) (o:Oper) (r:OR) (a:Act) (K:Act->World->Prop) (Q:Exit->Act->World->Prop),
  HR (C.ph h) s H w->GOK C h s w->(∀x∈o.op.operands,VH (C.ph h) s H w (ρ x) (a.eval x))->rsV C.P cv ρ H o.op=some r->
  (∀c w' s',VH (C.ph h) s' r.H w' r.v c->HR (C.ph h) s' r.H w'->Ext r.lo s H w s' r.H w'->K (a.put o.dst c) w')->
  o.wpIn (WF wro) 0 C.P a w K Q
theorem ak{P:Program}{w:World}{t:TypeId}{name:String}{g:FuncId}(h:Y7 P t name=some g)(x:Value)(rest:Array Value):
  (invoke (.fn (.method name) #[]) (#[.iface t x]++rest)).run P w=(callFunc g (#[x]++rest)).run P w:=by
 have h0:(#[Value.iface t x]++rest)[0]?=some (.iface t x):=by rw[Array.getElem?_append_left (by simp)];rfl
 have h1:(#[Value.iface t x]++rest).extract 1 (#[Value.iface t x]++rest).size=rest:=by
  apply xF
  simp
 have hm:=(zic (w:=w) h (P.types.size+99) x).1
 simp only[invoke,h0,h1,callMethod,VA,run_program,EA,Made.depth]
 rw[show P.types.size+100=P.types.size+99+1 from rfl,hm]
 rfl
open Classical in
theorem PQ{cv:V->List V->Heap->Option OR}(hc:zn4 C cv):RO C cv:=by
 intro hd wro s H w ρ0 o r a K Q hr hg he0 h0 hk
 let ρ:Operand->V:=fun x=>if x∈o.op.operands then ρ0 x else EH
 let ev:Operand->Value:=fun x=>if x∈o.op.operands then a.eval x else undef
 have he:∀x,VH (C.ph hd) s H w (ρ x) (ev x):=by
  intro x
  simp only[ρ,ev]
  by_cases hx:x∈o.op.operands
  ·rw[if_pos hx,if_pos hx];exact he0 x hx
  ·rw[if_neg hx,if_neg hx];exact⟨#[],rfl,by simp[VRs]⟩
 have h:rsV C.P cv ρ H o.op=some r:=by
  rw[<-h0]
  exact g7 o.op fun x hx=>if_pos hx
 have hsel:∀cs b,o.op≠.select cs b:=by
  intro cs b e
  rw[e] at h
  simp[rsV,opV] at h
 have hdef:∀c,o.op≠.defer c:=by
  intro c e
  rw[e] at h
  simp[rsV,opV] at h
 have hev:(o.semAt (WF wro).round a.eval)=execOp ev o:=by
  rw[Oper.semAt_eq _ _ _ hdef]
  exact execOp_congr o hsel fun x hx=>(if_pos hx).symm
 refine⟨fun _ _=>trivial,?_⟩
 rw[hev]
 have plain:opV C.P ρ H o.op=some r->o.uponIn (WF wro) 0 C.P a K Q ((execOp ev o).run C.P w):=by
  intro h
  obtain⟨s',c,w',h1,h2,h3,h4⟩:=QZ hr he h
  have:=hk c w' s' h2 h3 h4
  rcases h1 with h1|⟨h1,e⟩
  ·rw[h1];exact this
  ·rw[h1];subst e;exact this
 unfold rsV at h
 split at h
 ·rename_i c ho
  split at h
  ·rename_i f hf
   have ha:UG (C.ph hd) s H w (c.args.toList.map ρ) (c.args.toList.map ev):=VRs.ofMap he _
   have e3:(c.args.toList.map ev).toArray=c.args.map ev:=by
    apply xF
    simp
   rcases hc hd wro s H w (ρ f) _ (ev f) _ r (fun c w'=>K (a.put o.dst c) w') hr hg (he f) ha h hk with⟨name,xs,ys,t,x,rest,g,e,ex,hm,hcall⟩|⟨g,xs,ys,e,hcall⟩|⟨l,fn,tmps,assign,body,e,hy,hround⟩
   ·rw[e3] at ex
    have e2:(execOp ev o).run C.P w=(callFunc g (#[x]++rest)).run C.P w:=by
     rw[<-ak hm x rest,<-ex]
     simp[execOp,ho,resolve,hf,e,nD]
     rfl
    rw[e2]
    exact hcall.upon fun v w' h=>h
   ·have e2:(execOp ev o).run C.P w=(callFunc g (xs++(c.args.toList.map ev).toArray++ys)).run C.P w:=by
     rw[e3]
     simp[execOp,ho,resolve,hf,e,nD,invoke]
    rw[e2]
    exact hcall.upon fun v w' h=>h
   ·have e2:(execOp ev o).run C.P w=(Instr.yield l (c.args.toList.map ev).toArray).run C.P w:=by
     rw[e3]
     simp[execOp,ho,resolve,hf,e,nD,invoke]
    rw[e2,hy]
    refine⟨fun hd=>by simp[Fence.wide] at hd,?_⟩
    exact RoundIn.mono hround fun e w'' he=>by
     obtain⟨v,rfl,h⟩:=he
     exact h
  ·rename_i xr name hf
   have ha:UG (C.ph hd) s H w (c.args.toList.map ρ) (c.args.toList.map ev):=VRs.ofMap he _
   have e3:(c.args.toList.map ev).toArray=c.args.map ev:=by
    apply xF
    simp
   have hfv:VH (C.ph hd) s H w (.fn (.method name) [ρ xr] []) (.func (.method name) #[ev xr] #[]):=⟨#[ev xr],#[],rfl,⟨_,_,rfl,he xr,rfl⟩,rfl⟩
   rcases hc hd wro s H w _ _ _ _ r (fun c w'=>K (a.put o.dst c) w') hr hg hfv ha h hk with⟨name',xs,ys,t,x,rest,g,e,ex,hm,hcall⟩|⟨g,xs,ys,e,hcall⟩|⟨l,fn,tmps,assign,body,e,hy,hround⟩
   ·injection e with e1 e2 e4
    injection e1 with e1
    subst e1 e2 e4
    rw[e3] at ex
    have e2:(execOp ev o).run C.P w=(callFunc g (#[x]++rest)).run C.P w:=by
     rw[<-ak hm x rest,<-ex]
     simp[execOp,ho,resolve,hf]
    rw[e2]
    exact hcall.upon fun v w' h=>h
   ·injection e with e1;cases e1
   ·injection e with e1;cases e1
  ·exact plain (by simpa only[ho] using h)
 ·exact plain h
theorem Bj{ops:Array Oper}{T:Tr V}(ht:∀t,VH (C.ph h) s H w (PD T t) (a.tmps.getD t undef)){o:Oper}{r:Bool}(hw:XJ ops T o=some r):oD o (yielded ops a.tmps)=r:=by
 unfold XJ at hw
 unfold oD
 split at hw
 ·rename_i hg
  rw[hg]
  simpa using hw
 ·rename_i j want hg
  rw[hg]
  simp only
  split at hw
  ·cases hw
  ·rename_i d hd
   split at hw
   ·rename_i b hb
    have h1:=ht d
    rw[hb] at h1
    simp only[VH,VR] at h1
    have h2:a.tmps[d]?=some (.bool b):=by
     rw[EC] at h1
     cases e:a.tmps[d]? with
     | none=>rw[e] at h1;simp[undef] at h1
     | some x=>rw[e] at h1;simpa using h1
    have h3:yielded ops a.tmps j=some b:=by simp[yielded,hd,h2]
    rw[h3]
    simp only[lA] at hw
    subst hw
    cases b<;>cases want<;>rfl
   ·rename_i hb
    have h1:=ht d
    rw[hb] at h1
    obtain⟨xs,h1,h2⟩:=h1
    have h3:yielded ops a.tmps j=none:=by
     simp only[yielded,hd]
     rw[EC] at h1
     cases e:a.tmps[d]? with
     | none=>simp[e]
     | some x=>rw[e] at h1;simp at h1;simp[e,h1]
    rw[h3]
    simp only[lA] at hw
    subst hw
    cases want<;>rfl
   ·cases hw
end
end
section
section
variable {C:Ctx} {nt:Nat} {ro wro:Option Nat} {o:yK} {s s':Nat->Option Nat} {H H':Heap} {w w':World} {st st':St} {a:Act} {lo:Nat} {h:Nat->Prop}
theorem SR.step(R:SR C h nt ro wro o s w st a){dst:Option Tmp}(hd:nL nt dst=true){r:OR}{c:Value}{s':Nat->Option Nat}{w':World}
  (hv:VH (C.ph h) s' r.H w' r.v c) (hr:HR (C.ph h) s' r.H w') (E:Ext r.lo s st.H w s' r.H w'):SR C h nt ro wro o s' w' ⟨OG st.T dst r.v,r.H,min st.lo r.lo⟩ (a.put dst c) where
 ob:=R.ob
 hr:=hr
 gk:=R.gk.ext E
 ln:=Nat.le_trans (Nat.min_le_left _ _) R.ln
 ext:=R.ext.trans R.ob E
 sz:=by rw[zh3];exact R.sz
 df:=by rw[zfx];exact R.df.ext E
 rd:=R.rd.ext E
 tm:=fun t=>zpq hd R.sz (fun t=>E.vh (R.tm t)) hv t
theorem zm2{n:Nat}{cv:V->List V->Heap->Option OR}(hcv:cv=KK C n)(hop:RO C cv){ops:Array Oper}{x:Oper}{e:Eff}(he:TO C (n+1) nt ops x st=some (e,st'))(R:SR C h nt ro wro o s w st a)
  (K:Act->World->Prop) (Q:Exit->Act->World->Prop) (hk:∀s' w' a' l,SR C h nt ro wro o s' w' st' a'->st'.lo=min st.lo l->Ext l s st.H w s' st'.H w'->K a' w'):
  if oD x (yielded ops a.tmps) then x.wpIn (WF wro) 0 C.P a w K Q else(∀f,x.about C.P w a.eval=some f->(WF wro).fn f)/\K (a.put x.dst undef) w:=by
 subst hcv
 simp only[TO] at he
 cases hd:nL nt x.dst with
 | false=>simp[hd] at he
 | true=>
  simp only[hd,cond_true] at he
  cases hw:XJ ops st.T x with
  | none=>simp[hw] at he
  | some b=>
   rw[Bj R.tm hw]
   cases b with
   | false=>
    simp only[hw,lA,dB] at he
    obtain⟨_,rfl⟩:=he
    simp only[Bool.false_eq_true,if_false]
    refine⟨fun _ _=>trivial,?_⟩
    refine hk s w _ st.H.n ?_ (by have:=R.ln;have:=R.ext.hn;simp only;omega) (Ext.refl _ _ _)
    have:=R.step hd (r:=⟨EH,st.H,st.H.n⟩) (c:=undef) ⟨#[],rfl,by simp[VRs]⟩ R.hr (Ext.refl _ _ _)
    exact⟨this.ob,this.hr,this.gk,R.ln,R.ext,this.sz,this.df,this.rd,this.tm⟩
   | true=>
    simp only[hw] at he
    cases hr:rsV C.P (KK C n) (HD C st.T) st.H x.op with
    | none=>simp[hr] at he
    | some r=>
     simp only[hr,lA,dB] at he
     obtain⟨_,rfl⟩:=he
     simp only[if_true]
     exact hop h wro s st.H w (HD C st.T) x r a K Q R.hr R.gk (fun x _=>XM R.gk R.tm x) hr fun c w' s' h1 h2 h3=>hk s' w' _ r.lo (R.step hd h1 h2 h3) rfl h3
theorem zkM:∀(n:Nat) (hop:∀m,m<n->RO C (KK C m)) {ops:Array Oper} (l rest:List Oper) {s:Nat->Option Nat} {w:World} {st st':St} {a:Act} {es:List Eff} (he:IK C n nt ops l st=some (es,st')) (R:SR C h nt ro wro o s w st a)
  (Q:Exit->Act->World->Prop) (hk:∀s' w' a',SR C h nt ro wro o s' w' st' a'->wpListIn (WF wro) 0 C.P ops Q rest a' w'),wpListIn (WF wro) 0 C.P ops Q (l++rest) a w
 | 0,_,_,l,_,_,_,_,_,_,_,he,_,_,_=>by simp[IK] at he
 | n+1,hop,ops,[],rest,s,w,st,st',a,es,he,R,Q,hk=>by
  simp only[IK,lA,dB] at he
  obtain⟨_,rfl⟩:=he
  exact hk s w a R
 | n+1,hop,ops,x::l,rest,s,w,st,st',a,es,he,R,Q,hk=>by
  simp only[IK] at he
  split at he
  ·rename_i e st1 h1
   split at he
   ·rename_i es' st2 h2
    simp only[lA,dB] at he
    obtain⟨_,rfl⟩:=he
    refine wpListIn_step fun K hK=>?_
    cases n with
    | zero=>simp[TO] at h1
    | succ n=>exact zm2 rfl (hop n (by omega)) h1 R K Q fun s' w' a' _ R' _ _=>hK _ _ (zkM (n+1) (fun m hm=>hop m (by omega)) l rest h2 R' Q hk)
   ·cases he
  ·cases he
theorem zkN:∀(n:Nat) (hop:∀m,m<n->RO C (KK C m)) {ops:Array Oper} (l:List Oper) {s:Nat->Option Nat} {w:World} {st st':St} {a:Act} {es:List Eff} (he:IK C n nt ops l st=some (es,st')) (R:SR C h nt ro wro o s w st a)
  (Q:Exit->Act->World->Prop) (hk:∀s' w' a',SR C h nt ro wro o s' w' st' a'->Q .normal a' w'),wpListIn (WF wro) 0 C.P ops Q l a w
 | 0,_,_,l,_,_,_,_,_,_,he,_,_,_=>by simp[IK] at he
 | n+1,hop,ops,[],s,w,st,st',a,es,he,R,Q,hk=>by
  simp only[IK,lA,dB] at he
  obtain⟨_,rfl⟩:=he
  exact hk s w a R
 | n+1,hop,ops,x::rest,s,w,st,st',a,es,he,R,Q,hk=>by
  simp only[IK] at he
  split at he
  ·rename_i e st1 h1
   split at he
   ·rename_i es' st2 h2
    simp only[lA,dB] at he
    obtain⟨_,rfl⟩:=he
    refine wpListIn_step fun K hK=>?_
    cases n with
    | zero=>simp[TO] at h1
    | succ n=>exact zm2 rfl (hop n (by omega)) h1 R K Q fun s' w' a' _ R' _ _=>hK _ _ (zkN (n+1) (fun m hm=>hop m (by omega)) rest h2 R' Q hk)
   ·cases he
  ·cases he
theorem zpH{α β:Type}{f:α->Option β}:∀{l:List α} {r:List β},l.mapM f=some r->r.length=l.length/\∀(i:Nat) x y,l[i]?=some x->r[i]?=some y->f x=some y
 | [],r,h=>by simp at h;subst h;simp
 | x::l,r,h=>by
  simp only[List.mapM_cons,pA,nA,Option.pure_def,lA] at h
  obtain⟨y,hy,ys,hys,rfl⟩:=h
  obtain⟨h1,h2⟩:=zpH hys
  refine⟨by simp[h1],fun i u v hu hv=>?_⟩
  cases i with
  | zero=>simp at hu hv;subst hu;subst hv;exact hy
  | succ i=>simp at hu hv;exact h2 i u v hu hv
theorem zkc{P:PH}{f:V->Option V}{w:World}{s s':Nat->Option Nat}{d d' pr pr':Nat->Prop}(hf:∀v u c,f v=some u->VR (szP P) s d pr w v c->VR (szP P) s' d' pr' w u c){vs us:List V}{cs:List Value}(h:vs.mapM f=some us)(hv:VRs (szP P) s d pr w vs cs):VRs (szP P) s' d' pr' w us cs:=by
 obtain⟨h1,h2⟩:=zpH h
 refine VRs.mk (by rw[h1,hv.length]) fun i u c hu hc=>?_
 have hi:i<vs.length:=by
  have:=(rA.1 hu).1
  omega
 obtain⟨c',h3,h4⟩:=hv.get (sA hi)
 rw[hc] at h3
 injection h3 with h3
 subst h3
 exact hf _ _ _ (h2 i _ _ (sA hi) hu) h4
theorem Rj{P:PH}(hr:HR P s H w):∀(n:Nat) {v u:V} {c:Value},kM H n v=some u->VH P s H w v c->VR (szP P) (fun _=>none) (fun _=>False) (fun g=>g<w.heap.size) w u c
 | 0,_,_,_,h,_=>by simp[kM] at h
 | n+1,v,u,c,h,hv=>by
  have ih:∀{vs us:List V} {cs:List Value},vs.mapM (kM H n)=some us->UG P s H w vs cs->VRs (szP P) (fun _=>none) (fun _=>False) (fun g=>g<w.heap.size) w us cs:=fun h1 h2=>zkc (fun v u c h h'=>Rj hr n h h') h1 h2
  simp only[kM] at h
  split at h
  ·injection h with h;subst h;exact hv
  ·rename_i cells len
   obtain⟨us,h1,rfl⟩:=BA.1 h
   obtain⟨g,off,cap,cs,e,hl,hg,hvs,ha⟩:=hv
   exact⟨g,off,cap,cs,e,hl,hg.1,ih h1 hvs,ha⟩
  ·rename_i cells len
   obtain⟨us,h1,rfl⟩:=BA.1 h
   rcases hv with⟨e1,e2,e3⟩|⟨g,off,cap,cs,e,hl,hg,hvs,ha⟩
   ·subst e2
    have:us=[]:=by simpa using h1.symm
    exact .inl ⟨e1,this,e3⟩
   ·exact .inr ⟨g,off,cap,cs,e,hl,hg.1,ih h1 hvs,ha⟩
  ·rename_i cells
   obtain⟨us,h1,rfl⟩:=BA.1 h
   obtain⟨g,off,cs,e,hg,hvs,ha⟩:=hv
   exact⟨g,off,cs,e,hg.1,ih h1 hvs,ha⟩
  ·rename_i cells
   obtain⟨us,h1,rfl⟩:=BA.1 h
   obtain⟨xs,e,hvs⟩:=hv
   exact⟨xs,e,ih h1 hvs⟩
  ·rename_i vs
   obtain⟨us,h1,rfl⟩:=BA.1 h
   obtain⟨xs,e,hvs⟩:=hv
   exact⟨xs,e,ih h1 hvs⟩
  ·rename_i t v
   obtain⟨us,h1,rfl⟩:=BA.1 h
   obtain⟨x,e,hvs⟩:=hv
   exact⟨x,e,Rj hr n h1 hvs⟩
  ·rename_i b off
   split at h
   ·rename_i cs e hb
    obtain⟨us,h1,rfl⟩:=BA.1 h
    obtain⟨q,rfl,hq⟩:=hv
    obtain⟨g,h2,rfl⟩:=hr.live hb (by simp) hq
    obtain⟨arr,fr,h3,h4,_,_⟩:=hr.cells hb h2
    refine⟨g,off,_,rfl,(hr.lt h2).2,ih h1 (h4.drop off),?_⟩
    intro i c hi
    rw[rC] at hi
    simpa using ZU h3 _ _ _ hi
   ·cases h
  ·rename_i b off len cap opn
   split at h
   ·rename_i cs e hb
    cases hl:DF len cap with
    | false=>simp[hl] at h
    | true=>
     simp only[hl,cond_true] at h
     obtain⟨us,h1,rfl⟩:=BA.1 h
     obtain⟨q,cap',rfl,hc1,hc2,hq⟩:=hv
     obtain⟨g,h2,rfl,_⟩:=hr.live hb (by simp) hq
     obtain⟨arr,fr,h3,h4,_,_⟩:=hr.cells hb h2
     have hl:=Nat.le_of_ble_eq_true hl
     cases opn with
     | none=>
      refine⟨g,off,cap',_,rfl,by omega,(hr.lt h2).2,ih h1 (h4.drop off),?_⟩
      intro i c hi
      rw[rC] at hi
      simpa using ZU h3 _ _ _ hi
     | some z=>
      refine⟨g,off,cap',_,rfl,by omega,(hr.lt h2).2,ih h1 ((h4.drop off).take _),?_⟩
      intro i c hi
      rw[List.getElem?_take] at hi
      split at hi
      ·rw[rC] at hi
       simpa using ZU h3 _ _ _ hi
      ·cases hi
   ·cases h
  ·injection h with h;subst h;exact hv
  ·injection h with h;subst h;exact hv
  ·cases h
end
end
section
section
variable {P:PH} {s s':Nat->Option Nat} {H H':Heap} {w w':World} {lo:Nat}
theorem zox(hr:HR P s H w)(o:Obj):HR P s H (w.alloc o)/\Ext H.n s H w s H (w.alloc o):=by
 have hold:∀y,y<w.heap.size->(w.alloc o).heap[y]?=w.heap[y]?:=fun y hy=>by
  show(w.heap.push o)[y]?=_
  rw[Array.getElem?_push,if_neg (by omega)]
 have E:Ext H.n s H w s H (w.alloc o):=by
  refine⟨rfl,rfl,rfl,by simp,jA _,fun _ h=>h,fun _ _ h=>.inl h,fun g hg _=>hold g hg,fun _ _ h=>.inl h,fun y x hx=>?_,fun _ _ _=>rfl,fun b h1 h2=>by omega⟩
  have hg:y<w.heap.size:=by
   rcases Nat.lt_or_ge y w.heap.size with h'|h'
   ·exact h'
   ·simp[XB,Array.getElem?_eq_none h'] at hx
  simp only[XB] at hx ⊢
  rw[hold y hg];exact hx
 exact⟨⟨fun b g hb=>by
  obtain⟨B,q,h1,h2,h3⟩:=hr.dom b g hb
  exact⟨B,q,h1,by rw[hold g (hr.lt hb).2];exact h2,h3.mono E.grow⟩,hr.inj⟩,E⟩
theorem bV(hr:HR P s H w){b l:Nat}{ts:List V}{ps:List Tmp}{as0 bd:Code}{st:LoopState}{pd:Option Code}(hb:H.get b=some (.loop ts ps as0 bd st pd))(hl:RC H b\/s b=some l):
  s b=some l/\∃L:Loop,w.heap[l]?=some (.loop L)/\L.params=ps.toArray/\L.assign=as0/\L.body=bd/\L.state=st/\L.pending=pd/\UG P s H w ts L.tmps.toList:=by
 have hs:s b=some l:=by
  rcases hl with hl|hl
  ·rw[RC,hb] at hl;cases hl
  ·exact hl
 obtain⟨B,o,h1,h2,h3⟩:=hr.dom b l hs
 rw[hb] at h1
 injection h1 with h1
 subst h1
 obtain⟨L,rfl,k⟩:=h3
 exact⟨hs,L,h2,k⟩
theorem C7(hr:HR P s H w){b l:Nat}(hs:s b=some l){ts:List V}{ps:List Tmp}{as0 bd:Code}{st:LoopState}{pd:Option Code}{L:Loop}(hl:w.heap[l]?=some (.loop L))(h1:L.params=ps.toArray)(h2:L.assign=as0)(h3:L.body=bd)
  (hv:UG P s H w ts L.tmps.toList) (L':Loop) (e1:L'.params=L.params) (e2:L'.assign=L.assign) (e3:L'.body=L.body) (e4:L'.tmps=L.tmps) (e5:L'.state=st) (e6:L'.pending=pd):
  HR P s (H.set b (.loop ts ps as0 bd st pd)) (w.putObj l (.loop L'))/\Ext b s H w s (H.set b (.loop ts ps as0 bd st pd)) (w.putObj l (.loop L')):=by
 refine d7 hr hs hl ⟨L',rfl,by rw[e1,h1],by rw[e2,h2],by rw[e3,h3],e5,e6,by rw[e4];exact hv⟩ fun x hx=>?_
 simp only[XB,hl] at hx
 cases hx
theorem zoV{nt:Nat}:∀(ps:List Tmp) (vs:List V) (cs:List Value) (T:Tr V) (tmps:Array Value),UG P s H w vs cs->tmps.size=nt->(∀t,VH P s H w (PD T t) (tmps.getD t undef))->(∀p∈ps,p<nt)->ps.length=vs.length->
  let tmps':=(ps.zip cs).foldl (fun(tmps:Array Value) (x:Tmp×Value)=>tmps.setIfInBounds x.1 x.2) tmps
  tmps'.size=nt/\∀t,VH P s H w (PD (BX ps vs T) t) (tmps'.getD t undef)
 | [],vs,cs,T,tmps,hv,hs,ht,hp,hl=>⟨hs,by simpa[BX] using ht⟩
 | p::ps,[],cs,T,tmps,hv,hs,ht,hp,hl=>by simp at hl
 | p::ps,v::vs,cs,T,tmps,hv,hs,ht,hp,hl=>by
  obtain⟨c,cs',rfl,h1,h2⟩:=hv
  simp only[MJ,List.foldl_cons,BX]
  refine zoV ps vs cs' (YO T p v) _ h2 (by simp[hs]) (fun t=>?_) (fun q hq=>hp q (.tail _ hq)) (by simpa using hl)
  rw[QM,EC,jD]
  have hpn:=hp p (.head _)
  by_cases e:p=t
  ·subst e
   simp[hs,hpn]
   exact h1
  ·rw[if_neg (fun h=>e h.symm),if_neg e,<-EC]
   exact ht t
theorem zpf{nt:Nat}{T:Tr V}{tmps:Array Value}(hs:tmps.size=nt)(ht:∀t,VH P s H w (PD T t) (tmps.getD t undef)):UG P s H w ((CB nt).map (PD T)) tmps.toList:=by
 refine VRs.mk (by simp[hs]) fun i v c hv hc=>?_
 simp only[List.getElem?_map] at hv
 have hi:i<nt:=by
  have:=(rA.1 hc).1
  simpa[hs] using this
 rw[List.getElem?_range hi] at hv
 simp only[SB,lA] at hv
 subst hv
 have:=ht i
 rw[EC] at this
 have e:tmps[i]?=some c:=by simpa using hc
 rw[e] at this
 exact this
end
end
end Go.Tw
