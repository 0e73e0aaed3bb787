/- Own work for this claim, part 2 of 17. No condition of its own. -/
import Derived.Test.YtookdinfaoelaaaGreatDoorX00
import Derived.WalkKit
import Derived.Laws.BytesArg
import Derived.Lib.ConvBytes
set_option linter.all false
set_option maxRecDepth 100000
set_option maxHeartbeats 4000000
open Array renaming ext_getElem?→uG,getElem?_eq_none→FD,getElem?_eq_some_iff→LA,getElem?_push→qD,getElem?_setIfInBounds→jD,length_toList→cC,size_append→uD,toList_append→kF,toList_map→qI
open Bool renaming and_eq_true→wA,false_eq_true→ZA,not_false→rE,not_true→iF
open Go.Builtin renaming append_→pC,cap_→eG,clear_→EE,copy_→MF,firstCells→UB,growBy→CG,zeroCells→dC
open Go.Instr renaming checkKey→GE,sliceAt→OF,sliceBounds→aE,sureAddr→bE
open Go.IntKind renaming bits→GC,signed→xC,wrap→tC
open Go.Lib renaming bytesCells→jC,bytesWorld→pF
open Go.Result renaming andThen_ok→EA
open Go.Sem renaming run_bind→VA,run_pure→xB
open Go.World renaming shape?→XB
open Int renaming toNat_natCast→uE
open List renaming all_cons→CD,eq_nil_of_length_eq_zero→sE,flatten_cons→gK,getElem?_cons_succ→BB,getElem?_cons_zero→YA,getElem?_map→uB,getElem?_take→xD,getElem?_toArray→sD,length_append→qA,length_cons→HA,length_take→JB,replicate→oA,take_append→vI,take_append_of_le_length→jB,take_of_length_le→uA,take_take→rF
open Nat renaming add_mul→ZC,add_zero→pE,le_refl→jA,min_self→gA,mul_le_mul_left→vJ,mul_le_mul_right→cF,zero_add→bB,zero_le→KB
open Option renaming bind_eq_bind→pA,bind_eq_some_iff→nA,isSome_none→iD,map_eq_some_iff→BA,map_some→SB
open Option.some renaming injEq→lA
open Prod.mk renaming injEq→dB
namespace Go.Tw
section
section
variable {P:Program} {s:Nat->Option Nat} {d:Nat->Prop} {pr:Nat->Prop} {w:World}
def OVR(P:Program)(s:Nat->Option Nat)(d:Nat->Prop)(pr:Nat->Prop)(w:World):Option V->Option Value->Prop
 | none,c=>c=none
 | some v,c=>∃x,c=some x/\VR (szP P) s d pr w v x
theorem OVR.map{r:Operand->V}{e:Operand->Value}(hr:∀x,VR (szP P) s d pr w (r x) (e x))(o:Option Operand):OVR P s d pr w (o.map r) (o.map e):=by
 cases o with
 | none=>rfl
 | some x=>exact⟨_,rfl,hr x⟩
theorem K7{v:V}{y y' n:Nat}{c:Value}(h:fS v y=some n)(hv:VR (szP P) s d pr w v c)(hy:y<=y')(code:BoundsCode):(Instr.sliceBound c y' code).run P w=.ok n w/\n<=y:=by
 unfold fS at h
 split at h
 ·split at h
  ·rename_i k i hb
   injection h with h
   subst h
   simp only[VR] at hv
   subst hv
   refine⟨?_,by omega⟩
   have:0<=i/\i<=(y':Int):=by omega
   simp[Instr.sliceBound,asIntOf,this]
  ·cases h
 ·cases h
theorem CS{len cap cap' l h m:Nat}{lo hi mx:Option V}{clo chi cmx:Option Value}(hb:SK len cap lo hi mx=some (l,h,m))
  (h1:OVR P s d pr w lo clo) (h2:OVR P s d pr w hi chi) (h3:OVR P s d pr w mx cmx) (hc:cap<=cap') (b:Bool):
  (aE b len cap' clo chi cmx).run P w=.ok (l,h,if mx.isSome then m else cap') w/\l<=h/\(mx=none->m=cap)/\(mx.isSome=true->m<=cap/\h<=m)/\(hi=none->h=len)/\(hi.isSome=true->h<=cap):=by
 simp only[SK,nA] at hb
 obtain⟨m1,hm,hh,hh1,ll,hl,hb⟩:=hb
 injection hb with hb
 simp only[dB] at hb
 obtain⟨rfl,rfl,rfl⟩:=hb
 cases mx with
 | none=>
  simp only[OVR] at h3
  subst h3
  simp only[MM,lA] at hm
  subst hm
  cases hi with
  | none=>
   simp only[OVR] at h2
   subst h2
   simp only[pM,lA] at hh1
   subst hh1
   cases lo with
   | none=>
    simp only[OVR] at h1
    subst h1
    simp only[sM,lA] at hl
    subst hl
    simp[aE]
   | some v=>
    obtain⟨c,rfl,h1⟩:=h1
    obtain⟨e1,e2⟩:=K7 (w:=w) hl h1 (jA _) .sliceB
    simp[aE,e1,e2]
  | some u=>
   obtain⟨cu,rfl,h2⟩:=h2
   obtain⟨e3,e4⟩:=K7 (w:=w) hh1 h2 hc (if b then .sliceAcap else .sliceAlen)
   cases lo with
   | none=>
    simp only[OVR] at h1
    subst h1
    simp only[sM,lA] at hl
    subst hl
    simp[aE,e3,e4]
   | some v=>
    obtain⟨c,rfl,h1⟩:=h1
    obtain⟨e1,e2⟩:=K7 (w:=w) hl h1 (jA _) .sliceB
    simp[aE,e1,e2,e3,e4]
 | some mv=>
  obtain⟨cm,rfl,h3⟩:=h3
  simp only[MM] at hm
  obtain⟨e5,e6⟩:=K7 (w:=w) hm h3 hc (if b then .slice3Acap else .slice3Alen)
  cases hi with
  | none=>simp[pM] at hh1
  | some u=>
   obtain⟨cu,rfl,h2⟩:=h2
   simp only[pM] at hh1
   obtain⟨e3,e4⟩:=K7 (w:=w) hh1 h2 (jA _) .slice3B
   cases lo with
   | none=>
    simp only[OVR] at h1
    subst h1
    simp only[sM,lA] at hl
    subst hl
    simp[aE,e3,e4,e5,e6]
    omega
   | some v=>
    obtain⟨c,rfl,h1⟩:=h1
    obtain⟨e1,e2⟩:=K7 (w:=w) hl h1 (jA _) .slice3C
    simp[aE,e1,e2,e3,e4,e5,e6]
    omega
theorem nX{t elem:TypeId}{a:Option Addr}{len cap sz:Nat}{clo chi cmx:Option Value}{b:Nat×Nat×Nat}(hu:P.underlying t=some (.slice elem))(hsz:EF P elem=some sz)
  (hb:(aE true len cap clo chi cmx).run P w=.ok b w):(OF t (.slice a len cap) clo chi cmx).run P w=.ok (.slice (if b.2.2=b.1 then a else a.map (·.add (b.1*sz))) (b.2.1-b.1) (b.2.2-b.1)) w:=by
 simp only[OF,Instr.slice,VA,zA hu,EA,hb,xK hsz,xB]
theorem slice_ok{t:TypeId}{x v:V}{lo hi mx:Option V}{cx:Value}{clo chi cmx:Option Value}(h:lH P t x lo hi mx=some v)(hx:VR (szP P) s d pr w x cx)
  (h1:OVR P s d pr w lo clo) (h2:OVR P s d pr w hi chi) (h3:OVR P s d pr w mx cmx):∃c,(OF t cx clo chi cmx).run P w=.ok c w/\VR (szP P) s d pr w v c:=by
 unfold lH at h
 split at h
 ·rename_i n elem hu
  simp only[pA,nA] at h
  obtain⟨⟨l,hh,m⟩,hb,sz,hsz,h⟩:=h
  obtain⟨hr,f1,f2,f3,f4,f5⟩:=CS (w:=w) hb h1 h2 h3 (jA n) false
  have hm:(if mx.isSome=true then m else n)=m:=by
   cases mx with
   | none=>simp[f2 rfl]
   | some _=>rfl
  rw[hm] at hr
  simp only at h
  split at h
  ·rename_i b off
   injection h with h;subst h
   obtain⟨q,rfl,hq⟩:=hx
   refine⟨.slice (some (if m=l then q else q.add (l*sz))) (hh-l) (m-l),by simp[OF,zA hu,bE,hr,xK hsz],_,_,rfl,jA _,fun _=>rfl,?_⟩
   rcases hq with hq|⟨g,e1,rfl⟩
   ·exact .inl hq
   ·refine .inr ⟨g,e1,?_,fun k e=>by cases e⟩
    split<;>simp[wO]
  ·rename_i cells
   obtain⟨g,off,cs,rfl,hg,hc,ha⟩:=hx
   split at h
   ·rename_i e
    injection h with h;subst h
    have hhl:hh=l:=by
     cases mx with
     | none=>
      cases hi with
      | none=>have:=f4 rfl;have:=f2 rfl;omega
      | some _=>have:=f5 rfl;have:=f2 rfl;omega
     | some _=>have:=(f3 rfl).2;omega
    subst e;subst hhl
    exact⟨.slice (some ⟨g,off,none⟩) 0 0,by simp[OF,zA hu,bE,hr,xK hsz],⟨g,off,none⟩,by simp⟩
   ·rename_i e
    injection h with h;subst h
    have hml:hh<=m:=by
     cases mx with
     | none=>
      cases hi with
      | none=>have:=f4 rfl;have:=f2 rfl;omega
      | some _=>have:=f5 rfl;have:=f2 rfl;omega
     | some _=>exact(f3 rfl).2
    exact⟨.slice (some (Addr.add ⟨g,off,none⟩ (l*sz))) (hh-l) (m-l),by simp[OF,zA hu,bE,hr,xK hsz,e],g,off+l*sz,m-l,_,by rw[wO],by omega,hg,hc.drop (l*sz),pX ha⟩
  ·cases h
 ·rename_i hu
  split at h
  ·rename_i st
   simp only[VR] at hx
   subst hx
   split at h
   ·cases h
   ·rename_i hn
    simp only[pA,nA] at h
    obtain⟨⟨l,hh,m⟩,hb,h⟩:=h
    injection h with h;subst h
    have h3':OVR P s d pr w none none:=rfl
    obtain⟨hr,_⟩:=CS (w:=w) hb h1 h2 h3' (jA st.size) false
    have hcm:cmx=none:=by
     cases mx with
     | none=>exact h3
     | some _=>simp at hn
    subst hcm
    exact⟨.string (st.extract l hh),by simp[OF,Instr.slice,zA hu,hr],rfl⟩
  ·cases h
 ·rename_i elem hu
  simp only[pA,nA] at h
  obtain⟨sz,hsz,h⟩:=h
  split at h
  ·obtain⟨⟨l,hh,m⟩,hb,h⟩:=nA.1 h
   injection h with h;subst h
   simp only[VR] at hx
   subst hx
   obtain⟨hr,f1,f2,f3,f4,f5⟩:=CS (w:=w) hb h1 h2 h3 (jA 0) true
   refine⟨_,nX hu hsz hr,?_⟩
   have hh0:hh=0:=by
    cases hi with
    | none=>exact f4 rfl
    | some _=>have:=f5 rfl;omega
   have hm0:(if mx.isSome=true then m else 0)=0:=by
    cases mx with
    | none=>rfl
    | some _=>have:=(f3 rfl).1;simp;omega
   have hl0:l=0:=by omega
   simp[hm0,hl0,hh0,VR]
  ·obtain⟨⟨l,hh,m⟩,hb,h⟩:=nA.1 h
   injection h with h;subst h
   obtain⟨a,rfl⟩:=hx
   obtain⟨hr,f1,f2,f3,f4,f5⟩:=CS (w:=w) hb h1 h2 h3 (jA 0) true
   refine⟨_,nX hu hsz hr,?_⟩
   have hh0:hh=0:=by
    cases hi with
    | none=>exact f4 rfl
    | some _=>have:=f5 rfl;omega
   have hm0:(if mx.isSome=true then m else 0)=0:=by
    cases mx with
    | none=>rfl
    | some _=>have:=(f3 rfl).1;simp;omega
   have hl0:l=0:=by omega
   simp[hm0,hl0,hh0,VR]
  ·obtain⟨⟨l,hh,m⟩,hb,h⟩:=nA.1 h
   injection h with h;subst h
   obtain⟨a,cap',rfl⟩:=hx
   obtain⟨hr,f1,f2,f3,f4,f5⟩:=CS (w:=w) hb h1 h2 h3 (KB cap') true
   refine⟨_,nX hu hsz hr,?_⟩
   have hh0:hh=0:=by
    cases hi with
    | none=>exact f4 rfl
    | some _=>have:=f5 rfl;omega
   have hl0:l=0:=by omega
   subst hl0;subst hh0
   cases mx with
   | none=>
    simp only[iD,ZA,if_false,VR]
    by_cases e:cap'=0
    ·exact⟨a,cap',by simp[e]⟩
    ·exact⟨a.add (0*sz),cap',by simp[e]⟩
   | some _=>
    have hm0:m=0:=by have:=(f3 rfl).1;omega
    simp[VR,hm0]
  ·rename_i b off len cap opn
   obtain⟨⟨l,hh,m⟩,hb,h6⟩:=nA.1 h
   clear h
   rename _=>h
   obtain⟨q,cap',rfl,g2,g3,hq⟩:=hx
   obtain⟨hr,f1,f2,f3,f4,f5⟩:=CS (w:=w) hb h1 h2 h3 g2 true
   refine⟨_,nX hu hsz hr,?_⟩
   simp only[QS] at h
   split at h
   ·cases h
   rename_i hlc
   split at h
   ·rename_i hc
    injection h with h;subst h
    have hm:(if mx.isSome=true then m else cap')=m:=by
     cases mx with
     | none=>
      have:opn=none:=by simpa using hc
      have:=g3 this
      have:=f2 rfl
      simp;omega
     | some _=>rfl
    simp only[hm]
    refine⟨if m=l then q else q.add (l*sz),m-l,by split<;>simp,jA _,fun _=>rfl,?_⟩
    rcases hq with hq|⟨g,e1,rfl,_⟩
    ·exact .inl hq
    ·refine .inr ⟨g,e1,?_,fun k e=>by cases e⟩
     split<;>simp[wO]
   ·rename_i hc
    have hmx:mx=none:=by
     cases mx with
     | none=>rfl
     | some _=>simp at hc
    subst hmx
    have hmc:=f2 rfl
    subst hmc
    simp only[iD,ZA,if_false]
    have hhc:hh<=m:=by
     cases hi with
     | none=>have:=f4 rfl;omega
     | some _=>exact f5 rfl
    split at h
    ·rename_i e
     injection h with h;subst h
     subst e
     have hh0:hh-m=0:=by omega
     rw[hh0]
     by_cases e:cap'=m
     ·exact⟨q,cap'-m,by simp[e]⟩
     ·exact⟨q.add (m*sz),cap'-m,by simp[e]⟩
    ·rename_i e
     split at h
     ·rename_i eo
      injection h with h;subst h
      subst eo
      have hlm:l<m:=by omega
      have hne:¬cap'=l:=by omega
      refine⟨q.add (l*sz),cap'-l,by simp[hne],by omega,fun e=>by(cases e),?_⟩
      rcases hq with hq|⟨g,e1,rfl,e4⟩
      ·exact .inl hq
      ·refine .inr ⟨g,e1,wO ..,fun k hk=>?_⟩
       injection hk with hk
       subst hk
       obtain⟨el,n,hn,hle⟩:=e4 sz rfl
       refine⟨el,n,hn,?_⟩
       have:l*sz+(cap'-l)*sz=cap'*sz:=by rw[<-ZC];congr 1;omega
       omega
     ·cases h
  ·rename_i cells len
   obtain⟨⟨l,hh,m⟩,hb,h⟩:=nA.1 h
   obtain⟨g,off,cap,cs,rfl,hl,hg,hc,ha⟩:=hx
   obtain⟨hr,f1,f2,f3,f4,f5⟩:=CS (w:=w) hb h1 h2 h3 hl true
   refine⟨_,nX hu hsz hr,?_⟩
   have hhm:hh<=(if mx.isSome=true then m else cap):=by
    cases mx with
    | none=>
     simp only[iD,ZA,if_false]
     cases hi with
     | none=>have:=f4 rfl;omega
     | some _=>have:=f5 rfl;omega
    | some _=>simpa using(f3 rfl).2
   simp only at h
   split at h
   ·rename_i e
    injection h with h;subst h
    simp only[wA,decide_eq_true_eq] at e
    obtain⟨e1,e2⟩:=e
    simp only[e1,if_true] at hhm ⊢
    subst e2
    have:hh=m:=by omega
    subst this
    exact⟨⟨g,off,none⟩,by simp⟩
   ·rename_i e
    injection h with h;subst h
    generalize hk:(if mx.isSome=true then m else cap)=k at hhm ⊢
    by_cases hkl:k=l
    ·have hhl:hh-l=0:=by omega
     exact⟨g,off,k-l,[],by simp[hkl],by omega,hg,by simp[hhl,VRs],fun i c hi=>by simp at hi⟩
    ·exact⟨g,off+l*sz,k-l,_,by simp[hkl,wO],by omega,hg,(hc.drop (l*sz)).take ((hh-l)*sz),WU (pX ha)⟩
  ·rename_i cells len
   split at h
   ·cases h
   ·rename_i hmx
    have hmx:mx=none:=by
     cases mx with
     | none=>rfl
     | some _=>simp at hmx
    subst hmx
    obtain⟨⟨l,hh,m⟩,hb,h⟩:=nA.1 h
    injection h with h;subst h
    rcases hx with⟨rfl,rfl,rfl|⟨a,cap',rfl⟩⟩|⟨g,off,cap,cs,rfl,hl,hg,hc,ha⟩
    ·obtain⟨hr,f1,f2,f3,f4,f5⟩:=CS (w:=w) hb h1 h2 h3 (jA 0) true
     refine⟨_,nX hu hsz hr,?_⟩
     have hh0:hh=0:=by
      cases hi with
      | none=>exact f4 rfl
      | some _=>have:=f5 rfl;have:=f2 rfl;omega
     have hl0:l=0:=by omega
     exact .inl ⟨by show hh-l=0;omega,by simp,.inl (by simp[hl0,hh0])⟩
    ·obtain⟨hr,f1,f2,f3,f4,f5⟩:=CS (w:=w) hb h1 h2 h3 (KB cap') true
     refine⟨_,nX hu hsz hr,?_⟩
     have hh0:hh=0:=by
      cases hi with
      | none=>exact f4 rfl
      | some _=>have:=f5 rfl;have:=f2 rfl;omega
     have hl0:l=0:=by omega
     refine .inl ⟨by show hh-l=0;omega,by simp,.inr ?_⟩
     subst hl0;subst hh0
     by_cases e:cap'=0
     ·exact⟨a,cap',by simp[e]⟩
     ·exact⟨a.add (0*sz),cap',by simp[e]⟩
    ·obtain⟨hr,f1,f2,f3,f4,f5⟩:=CS (w:=w) hb h1 h2 h3 hl true
     refine⟨_,nX hu hsz hr,?_⟩
     have hhm:hh<=cap:=by
      cases hi with
      | none=>have:=f4 rfl;omega
      | some _=>have:=f5 rfl;have:=f2 rfl;omega
     simp only[iD,ZA,if_false]
     by_cases hkl:cap=l
     ·have hhl:hh-l=0:=by omega
      exact .inr ⟨g,off,cap-l,[],by simp[hkl],by omega,hg,by simp[hhl,VRs],fun i c hi=>by simp at hi⟩
     ·exact .inr ⟨g,off+l*sz,cap-l,_,by simp[hkl,wO],by omega,hg,(hc.drop (l*sz)).take ((hh-l)*sz),WU (pX ha)⟩
  ·cases h
 ·cases h
end
end
section
section
variable {P:PH} {s:Nat->Option Nat} {H:Heap} {w:World}
def SS(P:PH)(s:Nat->Option Nat)(H:Heap)(w:World)(r:OR)(res:Result Next):Prop:=
 ∃s' c w',(res=.ok (.value c) w'\/(res=.ok .skip w'/\c=undef))/\VH P s' r.H w' r.v c/\HR P s' r.H w'/\Ext r.lo s H w s' r.H w'
def ValOK(P:PH)(s:Nat->Option Nat)(H:Heap)(w:World)(r:OR)(res:Result Value):Prop:=
 ∃s' c w',res=.ok c w'/\VH P s' r.H w' r.v c/\HR P s' r.H w'/\Ext r.lo s H w s' r.H w'
def UnitOK(P:PH)(s:Nat->Option Nat)(H:Heap)(w:World)(r:OR)(res:Result Unit):Prop:=
 r.v=EH/\∃s' w',res=.ok () w'/\HR P s' r.H w'/\Ext r.lo s H w s' r.H w'
theorem zdj(hr:HR P s H w){o:Option V}{r:OR}{m:Sem Value}(h:keep H o=some r)(hm:∀v,o=some v->∃c,m.run P w=.ok c w/\VH P s H w v c):ValOK P s H w r (m.run P w):=by
 obtain⟨v,rfl,rfl⟩:=BA.1 h
 obtain⟨c,h1,h2⟩:=hm v rfl
 exact⟨s,c,w,h1,h2,hr,Ext.refl s H w⟩
theorem zmg{x v:V}{cx:Value}(h:zib x=some v)(hx:VH P s H w x cx):
  (match cx with
  | .pointer none|.nilIface|.nilFunc=>(runtimePanic .nilDeref:Sem Next)
  | .func (.method name) first captured=>
   match (first[0]?:Option Value) with
   | some .nilIface=>runtimePanic .nilDeref
   | some (.iface t w)=>do
    if(<-nilAhead ((<-program).types.size+Made.depth) t w name) !=some false then
     unsupported (.noEntry "op/nilCheck.the method's receiver behind this interface value is a nil pointer, or cannot be seen to be none, and the arguments act or may panic (ledger 612)")
    pure (.value (.func (.method name) first captured))
   | _=>pure (.value (.func (.method name) first captured))
  | x=>pure (.value x)).run P w=.ok (.value cx) w/\v=x:=by
 unfold zib at h
 split at h<;>first
  | (cases h;done)
  | (injection h with h;subst h;refine⟨?_,rfl⟩;simp only[VH,VR] at hx)
 ·obtain⟨q,rfl,_⟩:=hx;rfl
 ·obtain⟨g,off,cs,rfl,_⟩:=hx;rfl
 ·obtain⟨q,rfl,_⟩:=hx;rfl
 ·obtain⟨q,rfl,_⟩:=hx;rfl
 ·obtain⟨q,r,rfl,_⟩:=hx;rfl
 ·obtain⟨q,r,rfl,_⟩:=hx;rfl
 ·obtain⟨q,r,rfl,_⟩:=hx;rfl
theorem run_typeInfo{P:Program}{w:World}{t:TypeId}{i:TypeInfo}(h:P.info? t=some i):(typeInfo t).run P w=.ok i w:=uX h
theorem zic{P:Program}{w:World}{t:TypeId}{name:String}{f:FuncId}(h:Y7 P t name=some f)(n:Nat)(v:Value):
  (method (n+1) t v name).run P w=.ok (f,v) w/\(nilAhead (n+1) t v name).run P w=.ok (some false) w:=by
 unfold Y7 at h
 split at h
 ·rename_i i hi
  split at h
  ·rename_i m hm
   cases hp:m.path.isEmpty with
   | false=>rw[hp] at h;cases h
   | true=>
    rw[hp] at h
    simp only[cond_true] at h
    have hpath:m.path.toList=[]:=by simpa using hp
    have hu:∀d,P.underlying t=some d->(underlying t).run P w=.ok d w:=fun d hd=>zA hd
    split at h
    ·rename_i g el hf hd
     injection h with h
     subst h
     constructor
     ·simp only[method,VA,run_typeInfo hi,EA,hm,hpath,follow,xB,hf,receiverAt,hu _ hd,Place.get]
     ·simp only[nilAhead,VA,run_typeInfo hi,EA,hm,hpath,followBlind,xB,hf]
    ·cases h
    ·rename_i g d hd' hf hd
     injection h with h
     subst h
     have hnp:∀el,d≠.pointer el:=fun el e=>hd' el e
     constructor
     ·simp only[method,VA,run_typeInfo hi,EA,hm,hpath,follow,xB,hf,receiverAt,hu _ hd,Place.get]
      try (cases d<;>first
       | rfl
       | exact absurd rfl (hnp _))
     ·simp only[nilAhead,VA,run_typeInfo hi,EA,hm,hpath,followBlind,xB,hf,hu _ hd]
      try (cases d<;>first
       | rfl
       | exact absurd rfl (hnp _))
    ·cases h
  ·cases h
 ·cases h
theorem zk9{x v:V}{cx:Value}(h:fV P.P x=some v)(hx:VH P s H w x cx):
  (match cx with
  | .pointer none|.nilIface|.nilFunc=>(runtimePanic .nilDeref:Sem Next)
  | .func (.method name) first captured=>
   match (first[0]?:Option Value) with
   | some .nilIface=>runtimePanic .nilDeref
   | some (.iface t w)=>do
    if(<-nilAhead ((<-program).types.size+Made.depth) t w name) !=some false then
     unsupported (.noEntry "op/nilCheck.the method's receiver behind this interface value is a nil pointer, or cannot be seen to be none, and the arguments act or may panic (ledger 612)")
    pure (.value (.func (.method name) first captured))
   | _=>pure (.value (.func (.method name) first captured))
  | x=>pure (.value x)).run P w=.ok (.value cx) w/\v=x:=by
 unfold fV at h
 split at h
 ·rename_i name t u rest cap
  split at h
  ·rename_i hm
   injection h with h
   subst h
   refine⟨?_,rfl⟩
   obtain⟨f,hf⟩:=Option.isSome_iff_exists.1 hm
   obtain⟨xs,ys,rfl,h1,h2⟩:=hx
   obtain⟨c,cs,hc,⟨q,rfl,_⟩,_⟩:=h1
   have h0:xs[0]?=some (.iface t q):=by
    have:xs.toList[0]?=some (.iface t q):=by rw[hc];rfl
    simpa using this
   have hn:=(zic (w:=w) hf (P.P.types.size+99) q).2
   simp only[h0,VA,run_program,EA,Made.depth]
   rw[show P.P.types.size+100=P.P.types.size+99+1 from rfl,hn]
   simp
  ·cases h
 ·exact zmg h hx
theorem ziK{g:Nat}{arr:Array Value}{e:TypeId}{fr:Nat×Nat}(h:w.heap[g]?=some (.cells arr e fr))(off:Nat):w.cell? ⟨g,off,none⟩=arr[off]?:=by
 simp[World.cell?,h]
theorem ZU{g:Nat}{arr:Array Value}{e:TypeId}{fr:Nat×Nat}(h:w.heap[g]?=some (.cells arr e fr))(n:Nat):HoldsAt w ⟨g,0,none⟩ (arr.toList.take n):=by
 intro i c hi
 rw[xD] at hi
 split at hi
 ·simpa[ziK h] using hi
 ·cases hi
theorem HR.cells(hr:HR P s H w){b:Nat}{cs:List V}{e:TypeId}(h:H.get b=some (.cells cs e)){g:Nat}(hb:s b=some g):
  ∃arr fr,w.heap[g]?=some (.cells arr e fr)/\UG P s H w cs (arr.toList.take cs.length)/\FrOK P e arr.size fr/\cs.length<=arr.size:=by
 obtain⟨B,o,h1,h2,h3⟩:=hr.dom b g hb
 rw[h] at h1
 injection h1 with h1
 subst h1
 obtain⟨arr,fr,rfl,h4,h5⟩:=h3
 have:=h4.length
 simp at this
 exact⟨arr,fr,h2,h4,h5,by omega⟩
theorem HR.live(hr:HR P s H w){b:Nat}{B:Blk}(h:H.get b=some B)(hB:B≠.dead){q:Prop}(hd:RC H b\/q):q:=by
 rcases hd with hd|hd
 ·rw[RC,h] at hd
  injection hd with hd
  exact absurd hd hB
 ·exact hd
theorem nj{g off:Nat}{cs:List Value}(h:HoldsAt w ⟨g,off,none⟩ cs):(loadCells ⟨g,off,none⟩ cs.length).run P w=.ok cs.toArray w:=
 run_loadCells_list w ⟨g,off,none⟩ cs fun j v hj=>by rw[wO];exact h j v hj
theorem zjm{t:TypeId}{cells:List V}{off o0 g:Nat}{v:V}{cs:List Value}{d:Nat->Prop}{pr:Nat->Prop}(h:QE P t cells off=some v)(hv:VRs (szP P) s d pr w cells cs)(ha:HoldsAt w ⟨g,o0,none⟩ cs):
  ∃c,(loadVar t ⟨g,o0+off,none⟩).run P w=.ok c w/\VR (szP P) s d pr w v c:=by
 simp only[QE,pA,nA] at h
 obtain⟨b,hb,h⟩:=h
 cases b with
 | true=>
  simp only[if_true,nA] at h
  obtain⟨n,hn,h⟩:=h
  split at h
  ·rename_i hl
   injection h with h
   subst h
   have hlen:((cs.drop off).take n).length=n:=by
    have:=hv.length
    simp;omega
   have hh:HoldsAt w ⟨g,o0+off,none⟩ ((cs.drop off).take n):=WU (pX ha)
   have:=nj (P:=P) hh
   rw[hlen] at this
   exact⟨.agg ((cs.drop off).take n).toArray,by simp[loadVar,Xj hb,xK hn,this],_,rfl,(hv.drop off).take n⟩
  ·cases h
 | false=>
  simp only[ZA,if_false] at h
  obtain⟨c,h1,h2⟩:=hv.get h
  have:=ha off c h1
  exact⟨c,by simp[loadVar,Xj hb,this],h2⟩
theorem zpK(hr:HR P s H w){t:TypeId}{x v:V}{cx:Value}(h:zeO P H t x=some v)(hx:VH P s H w x cx):∃c,(Instr.loadAt t cx).run P w=.ok c w/\VH P s H w v c:=by
 simp only[zeO,pA,nA] at h
 obtain⟨⟨cells,off⟩,hc,h⟩:=h
 unfold I3 at hc
 split at hc
 ·rename_i b o
  split at hc
  ·rename_i cs e hg
   injection hc with hc
   simp only[dB] at hc
   obtain⟨rfl,rfl⟩:=hc
   obtain⟨q,rfl,hq⟩:=hx
   obtain⟨g,h1,rfl⟩:=hr.live hg (by simp) hq
   obtain⟨arr,fr,h2,h3,_,_⟩:=hr.cells hg h1
   obtain⟨c,h4,h5⟩:=zjm (o0:=0) h h3 (ZU h2 _)
   exact⟨c,by simpa[Instr.loadAt,bE] using h4,h5⟩
  ·cases hc
 ·rename_i cs
  injection hc with hc
  simp only[dB] at hc
  obtain⟨rfl,rfl⟩:=hc
  obtain⟨g,o,cs',rfl,hg,hv,ha⟩:=hx
  obtain⟨c,h4,h5⟩:=zjm (off:=0) h hv ha
  exact⟨c,by simpa[Instr.loadAt,bE] using h4,h5⟩
 ·cases hc
theorem DU(g:Nat)(o o':Obj):put (put w g o) g o'=put w g o':=by
 simp only[put]
 congr 1
 apply uG
 intro i
 simp only[jD,Array.size_setIfInBounds]
 by_cases e:g=i
 ·subst e;by_cases l:g<w.heap.size<;>simp[l]
 ·simp[e]
theorem ZQ{g:Nat}{o:Obj}(h:w.heap[g]?=some o):put w g o=w:=by
 have:w.heap.setIfInBounds g o=w.heap:=by
  apply uG
  intro i
  rw[jD]
  by_cases e:g=i
  ·subst e
   have h':=(LA.1 h).1
   rw[if_pos rfl,if_pos h',h]
  ·simp[e]
 simp only[put,this]
theorem zl9{g off:Nat}{arr:Array Value}{e:TypeId}{fr:Nat×Nat}(h:w.heap[g]?=some (.cells arr e fr))(v:Value):w.setCell ⟨g,off,none⟩ v=put w g (.cells (arr.setIfInBounds off v) e fr):=by
 simp only[World.setCell,put]
 congr 1
 apply uG
 intro i
 rw[Array.getElem?_modify,jD]
 by_cases e:g=i
 ·subst e
  have h':=(LA.1 h).1
  rw[if_pos rfl,if_pos rfl,if_pos h',h]
  simp
 ·simp[e]
theorem V6{g o:Nat}{e:TypeId}{fr:Nat×Nat}:∀(vs:List Value) (i:Nat) (arr:Array Value) (w:World),w.heap[g]?=some (.cells arr e fr)->FrOK P e arr.size fr->
  o+i+vs.length<=arr.size->(∀v∈vs,v.oneCell'=true)->
  ∃arr',(storeCells ⟨g,o,none⟩ vs i).run P w=.ok () (put w g (.cells arr' e fr))/\arr'.toList=arr.toList.take (o+i)++vs++arr.toList.drop (o+i+vs.length)/\arr'.size=arr.size
 | [],i,arr,w,h,hf,hl,ho=>⟨arr,by simp[storeCells,ZQ h],by simp,rfl⟩
 | v::vs,i,arr,w,h,hf,hl,ho=>by
  simp only[HA] at hl
  have hlt:o+i<arr.size:=by omega
  have hc:w.cell? ⟨g,o+i,none⟩=some arr[o+i]:=by rw[ziK h];simp[hlt]
  have hfr:w.frozen? ⟨g,o+i,none⟩=false:=by
   have:=hf.1 (o+i) hlt
   simp only[World.frozen?,h]
   exact this
  have hst:=run_store P w ⟨g,o+i,none⟩ v .plain (ho v (by simp))
  rw[hc] at hst
  simp only[hfr,ZA,if_false] at hst
  rw[zl9 h] at hst
  have hg:=(LA.1 h).1
  obtain⟨arr',h1,h2,h3⟩:=V6 (o:=o) vs (i+1) (arr.setIfInBounds (o+i) v) (put w g (.cells (arr.setIfInBounds (o+i) v) e fr)) (by rw[ZN,if_pos ⟨rfl,hg⟩]) (by simpa using hf) (by simp;omega) (fun u hu=>ho u (by simp[hu]))
  refine⟨arr',?_,?_,by simpa using h3⟩
  ·simp only[storeCells,VA,wO,hst,EA,h1,DU]
  ·rw[h2]
   apply List.ext_getElem?
   intro j
   simp only[Array.toList_setIfInBounds,List.getElem?_append,qA,JB,List.length_set,cC,xD,List.getElem?_drop,List.getElem?_set,HA]
   have m1:min (o+(i+1)) arr.size=o+i+1:=by omega
   have m2:min (o+i) arr.size=o+i:=by omega
   rw[m1,m2]
   by_cases c1:j<o+i
   ·have:j<o+i+1:=by omega
    have:j<o+i+1+vs.length:=by omega
    have:j<o+i+(vs.length+1):=by omega
    have:j<o+(i+1):=by omega
    have:¬o+i=j:=by omega
    simp[*]
   ·by_cases c2:j=o+i
    ·subst c2
     have e1:o+i<o+i+1+vs.length:=by omega
     have e2:o+i<o+(i+1):=by omega
     simp[e1,e2,hlt]
    ·by_cases c3:j<o+i+1+vs.length
     ·have e1:¬j<o+i+1:=by omega
      have e2:j<o+i+(vs.length+1):=by omega
      have e3:j-(o+i)=(j-(o+i+1))+1:=by omega
      simp[c1,c3,e1,e2,e3]
     ·have e1:¬j<o+i+1:=by omega
      have e2:¬j<o+i+(vs.length+1):=by omega
      have e4:o+(i+1)+vs.length+(j-(o+i+1+vs.length))=j:=by omega
      have e5:o+i+(vs.length+1)+(j-(o+i+(vs.length+1)))=j:=by omega
      have e6:¬o+i=j:=by omega
      simp[c3,e2,e4,e5,e6]
theorem Hj{cs new out:List V}{off:Nat}{e:TypeId}{arr arr':Array Value}{fr:Nat×Nat}{ys:List Value}(hsp:zD cs off new=some out)(h3:UG P s H w cs (arr.toList.take cs.length))(hn:UG P s H w new ys)(hle:cs.length<=arr.size)
  (hf:FrOK P e arr.size fr) (ha:arr'.toList=arr.toList.take off++ys++arr.toList.drop (off+ys.length)) (hs:arr'.size=arr.size):BR P s H w (.cells out e) (.cells arr' e fr):=by
 refine⟨arr',fr,rfl,?_,by rw[hs];exact hf⟩
 have:=zkH hsp h3 hn
 obtain⟨hl,ho⟩:=A2 hsp
 have hol:out.length=cs.length:=by rw[ho];simp;omega
 have hyl:=hn.length
 rw[hol,ha]
 have e1:((arr.toList.take off++ys++arr.toList.drop (off+ys.length)).take cs.length)=(arr.toList.take cs.length).take off++ys++(arr.toList.take cs.length).drop (off+ys.length):=by
  rw[vI,vI]
  simp only[qA,JB,cC]
  have m1:min off arr.size=off:=by omega
  rw[m1,rF,rF,List.drop_take,uA (l:=ys) (by omega)]
  have m2:min cs.length off=off:=by omega
  have m3:min off cs.length=off:=by omega
  have m4:cs.length-(off+ys.length)=cs.length-(off+ys.length):=rfl
  rw[m2,m3]
 rw[e1]
 exact this
theorem Kf{g:Nat}{arr arr':Array Value}{e:TypeId}{fr:Nat×Nat}(h:w.heap[g]?=some (.cells arr e fr))(hs:arr'.size=arr.size):∀x,XB w g=some x->XB (put w g (.cells arr' e fr)) g=some x:=by
 intro x hx
 have hg:=(LA.1 h).1
 simp only[XB,h,ZN,hg,and_self,if_true] at hx ⊢
 rw[hs];exact hx
theorem store_ok(hr:HR P s H w){t:TypeId}{x v:V}{cx cv:Value}{r:OR}(h:qV P H t x v=some r)(hx:VH P s H w x cx)(hv:VH P s H w v cv):UnitOK P s H w r ((Instr.storeAt t cx cv).run P w):=by
 unfold qV at h
 split at h
 ·rename_i b off
  split at h
  ·rename_i cs e hg
   simp only[pA,nA] at h
   obtain⟨vc,hvc,n,hn,h⟩:=h
   split at h
   ·rename_i hcond
    obtain⟨c,hsp,h⟩:=nA.1 h
    injection h with h
    subst h
    obtain⟨q,rfl,hq⟩:=hx
    obtain⟨g,h1,rfl⟩:=hr.live hg (by simp) hq
    obtain⟨arr,fr,h2,h3,h4,h5⟩:=hr.cells hg h1
    have hcells:=dg hvc hv
    have hlen:cv.cells.size=vc.length:=by have:=hcells.length;simpa using this
    obtain⟨hl,_⟩:=A2 hsp
    obtain⟨arr',k1,k2,k3⟩:=V6 (P:=P) (o:=off) cv.cells.toList 0 arr w h2 h4 (by simp;omega) (vg hcond.2 hcells)
    have hB:BR P s H w (.cells c e) (.cells arr' e fr):=Hj hsp h3 hcells h5 h4 (by simpa using k2) k3
    have hbn:=(hr.lt h1).1
    obtain⟨m1,m2⟩:=d7 hr h1 h2 hB (Kf h2 k3)
    refine⟨rfl,s,put w g (.cells arr' e fr),?_,m1,?_⟩
    ·have:¬(cv.cells.size≠n):=by omega
     simp[Instr.storeAt,bE,storeVar,xK hn,hlen,hcond.1,k1]
    ·have:min b H.n=b:=by omega
     rw[this];exact m2
   ·cases h
  ·cases h
 ·cases h
theorem PX{c:List V}{e:TypeId}{arr:Array Value}(h:UG P s H w c arr.toList):BR P s H w (.cells c e) (.cells arr e):=by
 refine⟨arr,(0,0),rfl,?_,.zero⟩
 have:=h.length
 simp at this
 rw[uA (by simp;omega)]
 exact h
theorem Yk(hr:HR P s H w){c:List V}{e:TypeId}{arr:Array Value}(h:UG P s H w c arr.toList):
  ∃s',HR P s' (H.push (.cells c e)) (w.alloc (.cells arr e))/\Ext H.n s H w s' (H.push (.cells c e)) (w.alloc (.cells arr e))/\s' H.n=some w.heap.size:=by
 obtain⟨h1,h2⟩:=j7 hr (PX h)
 exact⟨_,h1,h2,by simp⟩
theorem P1{t:TypeId}{zc:List V}{d pr}(h:zE P t=some zc):∃i z,P.P.info? t=some i/\i.zero=some z/\VRs (szP P) s d pr w zc z.cells.toList:=by
 simp only[zE,pA,nA] at h
 obtain⟨i,hi,z,hz,hzc⟩:=h
 exact⟨i,z,hi,hz,dg hzc (Xk z)⟩
theorem alloc_ok(hr:HR P s H w){t:TypeId}{r:OR}(h:uV P H t=some r):ValOK P s H w r ((Instr.alloc t true (.tuple #[])).run P w):=by
 simp only[uV,pA,nA] at h
 obtain⟨zc,hzc,h⟩:=h
 injection h with h
 subst h
 obtain⟨i,z,hi,hz,hv⟩:=P1 (s:=s) (w:=w) (d:=RC H) (pr:=RE P s w) hzc
 obtain⟨s',h1,h2,h3⟩:=Yk (e:=t) hr hv
 exact⟨s',.pointer (some ⟨w.heap.size,0,none⟩),_,by simp[Instr.alloc,XN hi hz,newVar,newRow],⟨_,rfl,.inr ⟨_,h3,rfl⟩⟩,h1,h2⟩
theorem box_ok(hr:HR P s H w){t:TypeId}{x:V}{cx:Value}{r:OR}(h:JL H t x=some r)(hx:VH P s H w x cx):ValOK P s H w r ((Instr.box t cx).run P w):=by
 simp only[JL,pA,nA] at h
 obtain⟨c,hc,h⟩:=h
 injection h with h
 subst h
 obtain⟨s',h1,h2,h3⟩:=Yk (e:=t) hr (dg hc hx)
 exact⟨s',.pointer (some ⟨w.heap.size,0,none⟩),_,by simp[Instr.box,newVar,newRow],⟨_,rfl,.inr ⟨_,h3,rfl⟩⟩,h1,h2⟩
theorem E7{d pr}{zc:List V}{z:Array Value}(hz:VRs (szP P) s d pr w zc z.toList):∀n,VRs (szP P) s d pr w (bH zc n) ((oA n z.toList).flatten)
 | 0=>by simp[bH,VRs]
 | n+1=>by
  simp only[bH,List.replicate_succ,gK]
  exact hz.append (E7 hz n)
theorem N2(zc:List V):∀n,(bH zc n).length=n*zc.length
 | 0=>by simp[bH]
 | n+1=>by simp[bH,N2 zc n,ZC];omega
theorem yf(z:Array Value)(n:Nat):((Array.range (n*z.size)).map (z[· % z.size]!)).toList=(oA n z.toList).flatten:=by
 induction n with
 | zero=>simp
 | succ n ih=>
  rw[List.replicate_succ',List.flatten_append,<-ih]
  simp only[qI,Array.toList_range,Nat.succ_mul,List.range_add,List.map_append,List.map_map,gK,List.flatten_nil,List.append_nil]
  congr 1
  apply List.ext_getElem
  ·simp
  ·intro i h1 h2
   simp at h1
   simp[Nat.add_mod,Nat.mod_eq_of_lt h1,h1]
end
end
section
section
variable {P:PH} {s:Nat->Option Nat} {H:Heap} {w:World}
theorem zkt(hr:HR P s H w){t:TypeId}{len:Nat}{ps:List (Nat×V)}{qs:List (Nat×Value)}{r:OR}(h:zx P H t len ps=some r)(hp:PRs P s (RC H) (RE P s w) w ps qs):
  ValOK P s H w r ((Instr.buildSlice t len qs.toArray).run P w):=by
 unfold zx at h
 split at h
 ·rename_i elem hu
  simp only[pA,nA] at h
  obtain⟨sz,hsz,zc,hzc,h⟩:=h
  split at h
  ·rename_i hc
   obtain⟨c,hf,h⟩:=nA.1 h
   injection h with h
   subst h
   obtain⟨i,z,hi,hz,hv⟩:=P1 (s:=s) (w:=w) (d:=RC H) (pr:=RE P s w) hzc
   have hzs:z.cells.size=sz:=by have:=hv.length;simp at this;omega
   have hcells:∃cs0:Array Value,(if len*sz=0 then(pure #[]:Sem (Array Value)) else do pure (<-zeroValue elem).cells).run P w=.ok cs0 w/\
     UG P s H w (bH zc len) ((Array.range (len*sz)).map (cs0[· % cs0.size]!)).toList:=by
    by_cases h0:len*sz=0
    ·refine⟨#[],by simp[h0],?_⟩
     have:bH zc len=[]:=sE (by rw[N2,hc.2];exact h0)
     rw[this,h0]
     simp[VRs]
    ·refine⟨z.cells,by simp[h0,XN hi hz],?_⟩
     rw[<-hzs,yf]
     exact E7 hv len
   obtain⟨cs0,k1,k2⟩:=hcells
   obtain⟨cs',k3,k4⟩:=Dk (fun i=>some (i*sz,sz)) ps qs _ c _ hf k2 hp
   obtain⟨s',h1,h2,h3⟩:=Yk (e:=elem) hr k4
   refine⟨s',.slice (some ⟨w.heap.size,0,none⟩) len len,_,?_,⟨_,len,rfl,jA _,fun _=>rfl,.inr ⟨_,h3,rfl,fun k e=>by cases e⟩⟩,h1,h2⟩
   have hle:¬len*sz>2 ^ 24:=by have:=hc.1;omega
   have hle':len*sz<=2 ^ 24:=by omega
   by_cases h0:len*sz=0
   ·rw[if_pos h0] at k1
    simp only[xB] at k1
    injection k1 with k1
    subst k1
    rw[h0] at k3
    simp[Instr.buildSlice,zA hu,xK hsz,h0,newRow]
    rw[show(fun x:Nat=>(#[]:Array Value)[x % (#[]:Array Value).size]!)=fun x=>(#[]:Array Value)[x % 0]! from rfl] at k3
    simp at k3
    simp[k3]
   ·rw[if_neg h0] at k1
    simp only[VA,XN hi hz,EA,xB] at k1
    injection k1 with k1
    subst k1
    simp[Instr.buildSlice,zA hu,xK hsz,h0,hle',XN hi hz,k3,newRow]
  ·cases h
 ·cases h
theorem zlf(hr:HR P s H w){t:TypeId}{l c:V}{cl cc:Value}{r:OR}(h:kX P H t l c=some r)(hl:VH P s H w l cl)(hc:VH P s H w c cc):
  ValOK P s H w r ((Instr.makeSlice t cl cc).run P w):=by
 unfold kX at h
 split at h
 ·rename_i elem k1 l k2 c hu
  simp only[VH,VR] at hl hc
  subst hl;subst hc
  simp only[pA,nA] at h
  obtain⟨i,hi,zc,hzc,h⟩:=h
  split at h
  ·rename_i hb
   injection h with h
   subst h
   obtain⟨i',z,hi',hz,hv⟩:=P1 (s:=s) (w:=w) (d:=RC H) (pr:=RE P s w) hzc
   have:i'=i:=by rw[hi] at hi';injection hi' with h;exact h.symm
   subst this
   obtain⟨b1,b2,b3,b4,b5⟩:=hb
   have hzs:z.cells.size=i'.size:=by have:=hv.length;simp at this;omega
   have hcells:∃cs0:Array Value,(if c.toNat*i'.size=0 then(pure #[]:Sem (Array Value)) else do pure (<-zeroValue elem).cells).run P w=.ok cs0 w/\
     UG P s H w (bH zc c.toNat) ((Array.range (c.toNat*i'.size)).map (cs0[· % cs0.size]!)).toList:=by
    by_cases h0:c.toNat*i'.size=0
    ·refine⟨#[],by simp only[h0,if_true];rfl,?_⟩
     have:bH zc c.toNat=[]:=sE (by rw[N2,b5];exact h0)
     rw[this,h0]
     simp[VRs]
    ·refine⟨z.cells,by simp only[h0,if_false,VA,XN hi hz,EA,xB],?_⟩
     rw[<-hzs,yf]
     exact E7 hv c.toNat
   obtain⟨cs0,k1,k2⟩:=hcells
   obtain⟨s',h1,h2,h3⟩:=Yk (e:=elem) hr k2
   refine⟨s',.slice (some ⟨w.heap.size,0,none⟩) l.toNat c.toNat,_,?_,⟨_,c.toNat,rfl,jA _,fun _=>rfl,.inr ⟨_,h3,rfl,fun k e=>by cases e⟩⟩,h1,h2⟩
   have w1:IntKind.i64.wrap l=l:=by
    simp[tC,GC,xC];omega
   have w2:IntKind.i64.wrap c=c:=by
    simp[tC,GC,xC];omega
   have hbig:¬((i'.bytes:Int)*c>2 ^ 48):=by
    have:(i'.bytes:Int)*c=c*i'.bytes:=Int.mul_comm _ _
    rw[this];omega
   have hgo:(decide (c<0)||decide ((i'.bytes:Int)*c>2 ^ 48)||decide (l<0)||decide (l>c))=false:=by
    simp only[Bool.or_eq_false_iff,decide_eq_false_iff_not]
    refine⟨⟨⟨by omega,hbig⟩,by omega⟩,by omega⟩
   have hsz:(sizeOf elem).run P w=.ok i'.size w:=xK (by simp[EF,hi])
   have hgo':(decide (c<0)||decide (2 ^ 48<(i'.bytes:Int)*c)||decide (l<0)||decide (c<l))=false:=hgo
   by_cases h0:c.toNat*i'.size=0
   ·rw[if_pos h0] at k1
    simp only[xB] at k1
    injection k1 with k1
    subst k1
    simp only[Instr.makeSlice,VA,zA hu,EA,asInt,asIntOf,xB,uX hi,w1,w2]
    rw[if_neg (by rw[hgo];simp)]
    simp[hsz,h0,newRow]
   ·rw[if_neg h0] at k1
    simp only[VA,XN hi hz,EA,xB] at k1
    injection k1 with k1
    subst k1
    simp only[Instr.makeSlice,VA,zA hu,EA,asInt,asIntOf,xB,uX hi,w1,w2]
    rw[if_neg (by rw[hgo];simp)]
    simp[hsz,h0,XN hi hz,newRow]
  ·cases h
 ·cases h
theorem zkl(s:ByteArray)(n:Nat):(s.extract 0 n).data.toList=s.data.toList.take n:=by
 simp[ByteArray.data_extract,Array.toList_extract,List.extract]
theorem znq{x:V}{n:Nat}{cx:Value}{d pr}(h:mJ x=some n)(hx:VR (szP P) s d pr w x cx):(Builtin.lenOf cx).run P w=.ok n w:=by
 unfold mJ at h
 split at h<;>first
  | (cases h;done)
  | (injection h with h;subst h;simp only[VR] at hx)
 ·subst hx;rfl
 ·obtain⟨a,rfl⟩:=hx;rfl
 ·obtain⟨a,c,rfl⟩:=hx;rfl
 ·subst hx;rfl
 ·obtain⟨g,off,cap,cs,rfl,_⟩:=hx;rfl
 ·rcases hx with⟨rfl,_,rfl|⟨a,c,rfl⟩⟩|⟨g,off,cap,cs,rfl,_⟩<;>rfl
 ·obtain⟨q,cap',rfl,_⟩:=hx;rfl
theorem rf(hr:HR P s H w){x:V}{sz n:Nat}{new:List V}{cx:Value}(h:cellsOf H sz n x=some new)(hx:VH P s H w x cx):
  ∃arr,(UB sz n cx).run P w=.ok arr w/\UG P s H w new arr.toList:=by
 unfold cellsOf at h
 split at h
 ·split at h
  ·injection h with h;subst h
   simp only[VH,VR] at hx;subst hx
   exact⟨#[],by simp[UB],by simp[VRs]⟩
  ·cases h
 ·split at h
  ·rename_i h0
   injection h with h;subst h;subst h0
   obtain⟨a,rfl⟩:=hx
   exact⟨#[],by simp[UB,loadCells,loadCellsFrom],by simp[VRs]⟩
  ·cases h
 ·split at h
  ·rename_i h0
   injection h with h;subst h;subst h0
   obtain⟨a,c,rfl⟩:=hx
   exact⟨#[],by simp[UB,loadCells,loadCellsFrom],by simp[VRs]⟩
  ·cases h
 ·rename_i st
  split at h
  ·injection h with h;subst h
   simp only[VH,VR] at hx;subst hx
   refine⟨(st.extract 0 n).data.map fun b=>.int .u8 b.toNat,by simp[UB],?_⟩
   rw[qI,zkl]
   refine VRs.mk (by simp) fun i v c hv hc=>?_
   simp only[uB] at hv hc
   cases hq:(st.data.toList.take n)[i]? with
   | none=>rw[hq] at hv;simp at hv
   | some b=>
    rw[hq] at hv hc
    simp only[SB,lA] at hv hc
    subst hv;subst hc
    simp[VR]
  ·cases h
 ·split at h
  ·rename_i hb
   injection h with h;subst h
   obtain⟨g,off,cap,cs,rfl,hl,hg,hc,ha⟩:=hx
   have hlen:(cs.take (n*sz)).length=n*sz:=by have:=hc.length;simp;omega
   have:=nj (P:=P) (WU (n:=n*sz) ha)
   rw[hlen] at this
   exact⟨_,by simpa[UB] using this,by simpa using hc.take (n*sz)⟩
  ·cases h
 ·split at h
  ·rename_i hb
   injection h with h;subst h
   rcases hx with⟨rfl,rfl,rfl|⟨a,c,rfl⟩⟩|⟨g,off,cap,cs,rfl,hl,hg,hc,ha⟩
   ·exact⟨#[],by simp[UB],by simp[VRs]⟩
   ·have h0:n=0:=by omega
    subst h0
    exact⟨#[],by simp[UB,loadCells,loadCellsFrom],by simp[VRs]⟩
   ·have hlen:(cs.take (n*sz)).length=n*sz:=by have:=hc.length;simp;omega
    have:=nj (P:=P) (WU (n:=n*sz) ha)
    rw[hlen] at this
    exact⟨_,by simpa[UB] using this,by simpa using hc.take (n*sz)⟩
  ·cases h
 ·rename_i b off len cap opn
  split at h
  ·rename_i cs e hg
   split at h
   ·rename_i hb
    injection h with h;subst h
    obtain⟨q,cap',rfl,_,_,hq⟩:=hx
    obtain⟨g,h1,rfl,_⟩:=hr.live hg (by simp) hq
    obtain⟨arr,fr,h2,h3,_,h5⟩:=hr.cells hg h1
    have hh:=WU (n:=n*sz) (pX (n:=off) (ZU h2 cs.length))
    have hlen:(((arr.toList.take cs.length).drop off).take (n*sz)).length=n*sz:=by simp;omega
    have:=nj (P:=P) hh
    rw[hlen] at this
    exact⟨_,by simpa[UB] using this,by simpa using(h3.drop off).take (n*sz)⟩
   ·cases h
  ·cases h
 ·cases h
theorem zlt(n:Nat):∀(r c:Nat),c<n->CG n r c<=2*n+192
 | 0,c,h=>by simp[CG];omega
 | r+1,c,h=>by
  simp only[CG]
  rw[if_neg (by omega)]
  by_cases h':c+(c+768) / 4<n
  ·exact zlt n r _ h'
  ·cases r with
   | zero=>simp only[CG];omega
   | succ r=>simp only[CG];rw[if_pos (by omega)];omega
theorem zor{n c:Nat}(h:c<n):Builtin.nextslicecap n c<=2*n+192:=by
 unfold Builtin.nextslicecap
 split
 ·omega
 ·split
  ·omega
  ·exact zlt n 4 c h
theorem zeN{n c b:Nat}(h:c<n)(hb:n*b<=1099511627776):¬Builtin.nextslicecap n c*b>2 ^ 48:=by
 have h1:=cF b (zor h)
 have h2:(2*n+192)*b=2*(n*b)+192*b:=by rw[ZC,Nat.mul_assoc]
 have h3:1*b<=n*b:=cF b (by omega)
 omega
theorem HR.drew(hr:HR P s H w):HR P s H w.drew:=
 ⟨fun b g hb=>let ⟨B,o,h1,h2,h3⟩:=hr.dom b g hb;⟨B,o,h1,h2,h3.mono (Ext.drew s H w).grow⟩,hr.inj⟩
theorem zeY{t0 t1 ty elem:TypeId}{i:TypeInfo}{d1:TypeDesc}(hu:P.P.underlying t0=some (.slice elem))(hu1:P.P.underlying t1=some d1)(hd1:∀k,d1≠.int k)(hi:P.P.info? elem=some i)(hb0:0<i.bytes){z:Value}(hz:i.zero=some z)
  {base:Option Addr} {len cap n:Nat} {x:Value} (hn:(Builtin.lenOf x).run P w=.ok n w) (hlt:cap<len+n) (hroom:(len+n)*i.bytes<=1099511627776)
  {old new:Array Value} (ho:(UB i.size len (.slice base len cap)).run P w.drew=.ok old w.drew) (hnw:(UB i.size n x).run P w.drew=.ok new w.drew):
  ∃cap',(pC #[t0,t1] ty #[.slice base len cap,x]).run P w=.ok (.slice (some ⟨w.heap.size,0,none⟩) (len+n) cap') (w.drew.alloc (.cells (old++new++dC z.cells (cap'-(len+n))) elem))/\len+n<=cap':=by
 have hd:(match d1 with|.int _=>true|_=>false)=false:=by cases d1<;>first|rfl|exact absurd rfl (hd1 _)
 let q:Question:=.appendCap (len+n) cap elem
 refine⟨q.cut (w.tape w.drawn q),?_,?_⟩
 ·have hsz:(sizeOf elem).run P w=.ok i.size w:=xK (by simp[EF,hi])
  have hnot:¬len+n<=cap:=by omega
  have hb:¬i.bytes=0:=by omega
  simp only[pC,sD,YA,BB,VA,zA hu,zA hu1,EA,hsz,xB,ZA,if_false,hn,hnot]
  simp only[Sem.run_ite,VA,uX hi,EA,xB,hb,false_or,and_false,if_false,rE,if_true]
  have hnr:=zeN hlt hroom
  rw[if_neg hnr]
  simp only[run_choose,Question.forced,ZA,if_false,EA,run_askRoom]
  have hdw:({ heap:=w.heap,tape:=w.tape,drawn:=w.drawn+1,os:=w.os,output:=w.output }:World)=w.drew:=rfl
  rw[hdw,ho]
  simp only[EA,hnw,XN (w:=w.drew) hi hz]
  simp only[newRow,VA,run_newObj,EA,xB]
  rfl
 ·show len+n<=len+n+_
  omega
theorem ziO{t0 t1 ty elem:TypeId}{sz:Nat}{d1:TypeDesc}(hu:P.P.underlying t0=some (.slice elem))(hu1:P.P.underlying t1=some d1)(hd1:∀k,d1≠.int k)(hsz:EF P elem=some sz)
  {a:Addr} {len cap n:Nat} {x:Value} {w':World} (hn:(Builtin.lenOf x).run P w=.ok n w) (hle:len+n<=cap) {new:Array Value} (hnw:(UB sz n x).run P w=.ok new w)
  (hst:(storeCells (a.add (len*sz)) new.toList).run P w=.ok () w'):
  (pC #[t0,t1] ty #[.slice (some a) len cap,x]).run P w=.ok (.slice (some a) (len+n) cap) w':=by
 have hd:(match d1 with|.int _=>true|_=>false)=false:=by cases d1<;>first|rfl|exact absurd rfl (hd1 _)
 simp only[pC,sD,YA,BB,VA,zA hu,zA hu1,EA,xK hsz,xB,ZA,if_false,hn,hle,if_true,rE,hnw,hst]
theorem ziZ{t0 t1 ty elem:TypeId}{sz:Nat}{d1:TypeDesc}(hu:P.P.underlying t0=some (.slice elem))(hu1:P.P.underlying t1=some d1)(hd1:∀k,d1≠.int k)(hsz:EF P elem=some sz)
  {base:Option Addr} {len cap:Nat} {x:Value} (hn:(Builtin.lenOf x).run P w=.ok 0 w) (hle:len<=cap) {new:Array Value} (hnw:(UB sz 0 x).run P w=.ok new w) (h0:new.toList=[]):
  (pC #[t0,t1] ty #[.slice base len cap,x]).run P w=.ok (.slice base len cap) w:=by
 have hd:(match d1 with|.int _=>true|_=>false)=false:=by cases d1<;>first|rfl|exact absurd rfl (hd1 _)
 cases base with
 | none=>simp only[pC,sD,YA,BB,VA,zA hu,zA hu1,EA,xK hsz,xB,ZA,if_false,hn,pE,hle,if_true,rE,hnw]
 | some a=>simp only[pC,sD,YA,BB,VA,zA hu,zA hu1,EA,xK hsz,xB,ZA,if_false,hn,pE,hle,if_true,rE,hnw,h0,storeCells]
theorem nf(z:Array Value)(n:Nat):(dC z n).size=n*z.size:=by simp[dC]
theorem rj(hr:HR P s H w){c:List V}{e:TypeId}{arr rest:Array Value}(h:UG P s H w.drew c arr.toList):
  ∃s',HR P s' (H.push (.cells c e)) (w.drew.alloc (.cells (arr++rest) e))/\Ext H.n s H w s' (H.push (.cells c e)) (w.drew.alloc (.cells (arr++rest) e))/\s' H.n=some w.heap.size:=by
 have hl:=h.length
 have hB:BR P s H w.drew (.cells c e) (.cells (arr++rest) e):=by
  refine⟨arr++rest,(0,0),rfl,?_,.zero⟩
  rw[kF,jB (by omega),uA (by omega)]
  exact h
 obtain⟨h1,h2⟩:=j7 hr.drew hB
 have h3:=Ext.trans (fun b g hb=>(hr.lt hb).1) (Ext.drew s H w) h2
 rw[gA] at h3
 exact⟨_,h1,h3,by simp⟩
theorem Lf(w:World)(o:Array Value)(e:TypeId):(w.alloc (.cells o e)).shape? w.heap.size=some (e,o.size):=by
 have:(w.alloc (.cells o e)).heap[w.heap.size]?=some (.cells o e):=by
  show(w.heap.push _)[w.heap.size]?=_
  simp
 simp only[XB,this]
theorem zoP(hr:HR P s H w){t0 t1 ty elem:TypeId}{q:IntKind}(hu:P.P.underlying t0=some (.slice elem))(hu1:P.P.underlying t1=some (.int q)){x y:V}{cx cy:Value}{r:OR}(h:S7 P H elem x y=some r)(hx:VH P s H w x cx)(hy:VH P s H w y cy):
  ValOK P s H w r ((pC #[t0,t1] ty #[cx,cy]).run P w):=by
 unfold S7 at h
 split at h
 ·rename_i k l
  simp only[VH,VR] at hx hy
  subst hx hy
  simp only[pA,nA] at h
  obtain⟨i,hi,zc,hzc,h⟩:=h
  split at h
  ·rename_i hc
   injection h with h
   subst h
   obtain⟨hl0,hb0,hs0,hzl,hroom⟩:=hc
   obtain⟨n,rfl⟩:∃n:Nat,l=(n:Int):=⟨l.toNat,by omega⟩
   simp only[uE] at hroom ⊢
   have hn0:0<n:=by omega
   have hn1:n*1<=n*i.bytes:=vJ n hb0
   obtain⟨i',z,hi',hz,hzv⟩:=P1 (s:=s) (w:=w.drew) (d:=RC H) (pr:=RE P s w.drew) hzc
   have:i'=i:=by rw[hi] at hi';injection hi' with h;exact h.symm
   subst this
   have hzs:z.cells.size=i'.size:=by have:=hzv.length;simp at this;omega
   have hz0:UG P s H w.drew (bH zc n) (dC z.cells n).toList:=by
    have:(dC z.cells n).toList=(oA n z.cells.toList).flatten:=by
     rw[<-yf];rfl
    rw[this]
    exact E7 hzv n
   have w1:IntKind.i64.wrap (n:Int)=n:=by
    simp[tC,GC,xC];omega
   let qq:Question:=.appendCap (0+n) 0 elem
   have k2:0+n<=qq.cut (w.tape w.drawn qq):=by
    show 0+n<=0+n+_
    omega
   have k1:(pC #[t0,t1] ty #[.slice none 0 0,.int k n]).run P w=.ok (.slice (some ⟨w.heap.size,0,none⟩) (0+n) (qq.cut (w.tape w.drawn qq))) (w.drew.alloc (.cells (#[]++dC z.cells n++dC z.cells (qq.cut (w.tape w.drawn qq)-(0+n))) elem)):=by
    have hsz:(sizeOf elem).run P w=.ok i'.size w:=xK (by simp[EF,hi])
    have hnot:¬0+n<=0:=by omega
    have hb:¬i'.bytes=0:=by omega
    have hneg:¬((n:Int)<0):=by omega
    have hbig:¬((n:Int)*(i'.bytes:Int)>2 ^ 48):=by
     have:((n*i'.bytes:Nat):Int)=(n:Int)*(i'.bytes:Int):=by simp
     omega
    have hns:¬n*i'.size=0:=by
     intro e
     rcases Nat.mul_eq_zero.1 e with e|e<;>omega
    have hmax:¬(((0+n:Nat):Int)>IntKind.i64.max):=by
     simp[IntKind.max,GC,xC];omega
    simp only[pC,sD,YA,BB,VA,zA hu,zA hu1,EA,hsz,xB,if_true,asInt,asIntOf,w1,hneg,if_false,uX hi,Sem.run_ite,hbig,uE,hnot]
    simp only[hmax,false_and,if_false]
    have hnr:=zeN (n:=0+n) (c:=0) (b:=i'.bytes) (by omega) (by simpa using hroom)
    rw[if_neg hnr]
    simp only[run_choose,Question.forced,ZA,if_false,EA,run_askRoom]
    have hdw:({ heap:=w.heap,tape:=w.tape,drawn:=w.drawn+1,os:=w.os,output:=w.output }:World)=w.drew:=rfl
    rw[hdw]
    have hfc:(UB i'.size 0 (.slice none 0 0)).run P w.drew=.ok #[] w.drew:=by simp[UB]
    simp only[hfc,EA,iF,ZA,if_false,hns,XN (w:=w.drew) hi hz]
    simp only[newRow,VA,run_newObj,EA,xB]
    rfl
   obtain⟨s',m1,m2,m3⟩:=rj (e:=elem) (rest:=dC z.cells (qq.cut (w.tape w.drawn qq)-(0+n))) hr hz0
   refine⟨s',_,_,k1,?_,by simpa using m1,by simpa using m2⟩
   refine⟨_,qq.cut (w.tape w.drawn qq),by simp,by omega,fun e=>(by cases e),.inr ⟨_,m3,rfl,fun k e=>?_⟩⟩
   injection e with e
   subst e
   refine⟨elem,_,by simpa using Lf w.drew _ _,?_⟩
   simp only[uD,nf,hzs]
   have e2:qq.cut (w.tape w.drawn qq)*i'.size=n*i'.size+(qq.cut (w.tape w.drawn qq)-(0+n))*i'.size:=by rw[<-ZC];congr 1;omega
   simp only[bB] at *;omega
  ·cases h
 ·rename_i b off len cap k l
  simp only[VH,VR] at hy
  subst hy
  simp only[pA,nA] at h
  obtain⟨i,hi,zc,hzc,h⟩:=h
  split at h
  ·rename_i cs e hg
   split at h
   ·rename_i hc
    injection h with h
    subst h
    obtain⟨hl0,hb0,hs0,hzl,hcap,hroom,hoff⟩:=hc
    obtain⟨n,rfl⟩:∃n:Nat,l=(n:Int):=⟨l.toNat,by omega⟩
    simp only[uE] at hroom hcap ⊢
    obtain⟨q0,cap0,rfl,g2,g3,hq⟩:=hx
    obtain rfl:=g3 rfl
    obtain⟨g,h1,rfl,hop⟩:=hr.live hg (by simp) hq
    have hn0:0<n:=by omega
    have hself:cellsOf H i.size len (.sl b off len cap0 none)=some ((cs.drop off).take (len*i.size)):=by
     simp[cellsOf,hg,hoff]
    have hxd:VH P s H w.drew (.sl b off len cap0 none) (.slice (some ⟨g,off,none⟩) len cap0):=(Ext.drew s H w).vh ⟨_,cap0,rfl,jA _,fun _=>rfl,.inr ⟨g,h1,rfl,fun k e=>by cases e⟩⟩
    obtain⟨old,ho1,ho2⟩:=rf hr.drew hself hxd
    have hn1:(len+n)*1<=(len+n)*i.bytes:=vJ _ hb0
    have hn2:n*i.bytes<=(len+n)*i.bytes:=cF _ (by omega)
    obtain⟨i',z,hi',hz,hzv⟩:=P1 (s:=s) (w:=w.drew) (d:=RC H) (pr:=RE P s w.drew) hzc
    have:i'=i:=by rw[hi] at hi';injection hi' with h;exact h.symm
    subst this
    have hzs:z.cells.size=i'.size:=by have:=hzv.length;simp at this;omega
    have hz0:UG P s H w.drew (bH zc n) (dC z.cells n).toList:=by
     have:(dC z.cells n).toList=(oA n z.cells.toList).flatten:=by
      rw[<-yf];rfl
     rw[this]
     exact E7 hzv n
    have hzz:UG P s H w.drew ((cs.drop off).take (len*i'.size)++bH zc n) (old++dC z.cells n).toList:=by
     rw[kF]
     exact ho2.append hz0
    have w1:IntKind.i64.wrap (n:Int)=n:=by
     simp[tC,GC,xC];omega
    let qq:Question:=.appendCap (len+n) cap0 elem
    have k2:len+n<=qq.cut (w.tape w.drawn qq):=by
     show len+n<=len+n+_
     omega
    have k1:(pC #[t0,t1] ty #[.slice (some ⟨g,off,none⟩) len cap0,.int k n]).run P w=.ok (.slice (some ⟨w.heap.size,0,none⟩) (len+n) (qq.cut (w.tape w.drawn qq))) (w.drew.alloc (.cells (old++dC z.cells n++dC z.cells (qq.cut (w.tape w.drawn qq)-(len+n))) elem)):=by
     have hsz:(sizeOf elem).run P w=.ok i'.size w:=xK (by simp[EF,hi])
     have hnot:¬len+n<=cap0:=by omega
     have hb:¬i'.bytes=0:=by omega
     have hneg:¬((n:Int)<0):=by omega
     have hbig:¬((n:Int)*(i'.bytes:Int)>2 ^ 48):=by
      have:((n*i'.bytes:Nat):Int)=(n:Int)*(i'.bytes:Int):=by simp
      omega
     have hns:¬n*i'.size=0:=by
      intro e
      rcases Nat.mul_eq_zero.1 e with e|e<;>omega
     have hmax:¬(((len+n:Nat):Int)>IntKind.i64.max):=by
      simp[IntKind.max,GC,xC];omega
     simp only[pC,sD,YA,BB,VA,zA hu,zA hu1,EA,hsz,xB,if_true,asInt,asIntOf,w1,hneg,if_false,uX hi,Sem.run_ite,hbig,uE,hnot]
     simp only[hmax,false_and,if_false]
     have hnr:=zeN (n:=len+n) (c:=cap0) (b:=i'.bytes) (by omega) hroom
     rw[if_neg hnr]
     simp only[run_choose,Question.forced,ZA,if_false,EA,run_askRoom]
     have hdw:({ heap:=w.heap,tape:=w.tape,drawn:=w.drawn+1,os:=w.os,output:=w.output }:World)=w.drew:=rfl
     rw[hdw]
     simp only[ho1,EA,iF,ZA,if_false,hns,XN (w:=w.drew) hi hz]
     simp only[newRow,VA,run_newObj,EA,xB]
     rfl
    obtain⟨s',m1,m2,m3⟩:=rj (e:=elem) (rest:=dC z.cells (qq.cut (w.tape w.drawn qq)-(len+n))) hr hzz
    refine⟨s',_,_,k1,?_,m1,m2⟩
    refine⟨_,qq.cut (w.tape w.drawn qq),rfl,k2,fun e=>(by cases e),.inr ⟨_,m3,rfl,fun k e=>?_⟩⟩
    injection e with e
    subst e
    refine⟨elem,_,Lf w.drew _ _,?_⟩
    have hol:old.size=len*i'.size:=by
     have:=ho2.length
     simp at this
     omega
    simp only[uD,nf,hzs,hol]
    have e2:qq.cut (w.tape w.drawn qq)*i'.size=len*i'.size+n*i'.size+(qq.cut (w.tape w.drawn qq)-(len+n))*i'.size:=by rw[<-ZC,<-ZC];congr 1;omega
    omega
   ·cases h
  ·cases h
 ·cases h
theorem zqz(hr:HR P s H w){t0 t1 ty:TypeId}{x y:V}{cx cy:Value}{r:OR}(h:DH P H t0 t1 x y=some r)(hx:VH P s H w x cx)(hy:VH P s H w y cy):
  ValOK P s H w r ((pC #[t0,t1] ty #[cx,cy]).run P w):=by
 unfold DH at h
 split at h
 ·rename_i elem q hu hu1
  exact zoP hr hu hu1 h hx hy
 ·rename_i elem d1 hd1 hu hu1
  have hd1':∀k,d1≠.int k:=fun k e=>hd1 k e
  simp only[pA,nA] at h
  obtain⟨i,hi,n,hn,new,hnew,zc,hzc,h⟩:=h
  split at h
  ·cases h
  ·rename_i hc
   simp only[Decidable.not_not] at hc
   obtain⟨hb0,hzl,hone,hnl⟩:=hc
   have hsz:EF P elem=some i.size:=by simp[EF,hi]
   have hcn:=znq (w:=w) hn hy
   obtain⟨arr,ha1,ha2⟩:=rf hr hnew hy
   obtain⟨arrd,hd2,hd3⟩:=rf hr.drew hnew ((Ext.drew s H w).vh hy)
   obtain⟨i',z,hi',hz,hzv⟩:=P1 (s:=s) (w:=w) (d:=RC H) (pr:=RE P s w) hzc
   have:i'=i:=by rw[hi] at hi';injection hi' with h;exact h.symm
   subst this
   have hzs:z.cells.size=i'.size:=by have:=hzv.length;simp at this;omega
   have hal:=ha2.length
   have hdl:=hd3.length
   split at h
   ·rename_i h0
    subst h0
    have harr:arr.toList=[]:=by apply sE;rw[hal,hnl];simp
    have fin:∀base len cap,cx=.slice base len cap->len<=cap->r=⟨x,H,H.n⟩->ValOK P s H w r ((pC #[t0,t1] ty #[cx,cy]).run P w):=by
     intro base len cap e hle er
     subst e;subst er
     exact⟨s,_,w,ziZ hu hu1 hd1' hsz hcn hle ha1 harr,hx,hr,Ext.refl s H w⟩
    split at h<;>first
     | (cases h;done)
     | skip
    ·injection h with h;simp only[VH,VR] at hx;exact fin none 0 0 hx (jA _) h.symm
    ·injection h with h;obtain⟨a,e⟩:=hx;exact fin (some a) 0 0 e (jA _) h.symm
    ·injection h with h;obtain⟨a,c,e⟩:=hx;exact fin (some a) 0 c e (KB _) h.symm
    ·injection h with h;obtain⟨g,off,cap,cs,e,hl,_⟩:=hx;exact fin _ _ cap e hl h.symm
    ·injection h with h
     rcases hx with⟨rfl,_,e|⟨a,c,e⟩⟩|⟨g,off,cap,cs,e,hl,_⟩
     ·exact fin none 0 0 e (jA _) h.symm
     ·exact fin (some a) 0 c e (KB _) h.symm
     ·exact fin _ _ cap e hl h.symm
    ·rename_i b off len cap opn
     split at h
     ·rename_i hle
      injection h with h;obtain⟨q,cap',e,h2,_⟩:=hx;exact fin _ _ cap' e (by omega) h.symm
     ·cases h
   ·rename_i h0
    have fresh:∀base,cx=.slice base 0 0->(∀w',(UB i'.size 0 (.slice base 0 0)).run P w'=.ok #[] w')->n*i'.bytes<=1099511627776->r=⟨.sl H.n 0 n n (some i'.size),H.push (.cells new elem),H.n⟩->ValOK P s H w r ((pC #[t0,t1] ty #[cx,cy]).run P w):=by
     intro base e hf hb er
     subst e;subst er
     obtain⟨cap',k1,k2⟩:=zeY (ty:=ty) hu hu1 hd1' hi hb0 hz (base:=base) (len:=0) (cap:=0) hcn (by omega) (by simpa using hb) (hf _) hd2
     obtain⟨s',m1,m2,m3⟩:=rj (e:=elem) (rest:=dC z.cells (cap'-(0+n))) hr hd3
     refine⟨s',_,_,k1,?_,?_,?_⟩
     ·refine⟨_,cap',by simp,by omega,fun e=>(by cases e),.inr ⟨_,m3,rfl,fun k e=>?_⟩⟩
      injection e with e
      subst e
      refine⟨elem,_,by simpa using Lf w.drew _ _,?_⟩
      simp only[uD,nf,hzs]
      have e1:arrd.size=n*i'.size:=by rw[<-cC,hdl,hnl]
      have e2:cap'*i'.size=n*i'.size+(cap'-(0+n))*i'.size:=by rw[<-ZC];congr 1;omega
      have e3:(cap'-(0+n))*i'.size=(cap'-n)*i'.size:=by rw[bB]
      simp only[bB] at *
      omega
     ·simpa using m1
     ·simpa using m2
    split at h
    ·split at h
     ·rename_i hb
      injection h with h
      simp only[VH,VR] at hx
      exact fresh none hx (fun w'=>by simp[UB]) hb h.symm
     ·cases h
    ·split at h
     ·rename_i hb
      injection h with h
      obtain⟨a,e⟩:=hx
      exact fresh (some a) e (fun w'=>by simp[UB,loadCells,loadCellsFrom]) hb h.symm
     ·cases h
    ·rename_i b off len cap opn
     split at h
     ·rename_i cs e hg
      obtain⟨q,cap',rfl,g2,g3,hq⟩:=hx
      obtain⟨g,h1,rfl,hop⟩:=hr.live hg (by simp) hq
      obtain⟨arr0,fr,h2,h3,h4,h5⟩:=hr.cells hg h1
      have hbn:=(hr.lt h1).1
      have hmin:min b H.n=b:=by omega
      split at h
      ·rename_i hfit
       obtain⟨c,hsp,h⟩:=nA.1 h
       injection h with h
       subst h
       obtain⟨hl,_⟩:=A2 hsp
       obtain⟨arr',k1,k2,k3⟩:=V6 (P:=P) (o:=off+len*i'.size) arr.toList 0 arr0 w h2 h4 (by rw[hal];omega) (vg hone ha2)
       have hB:BR P s H w (.cells c e) (.cells arr' e fr):=Hj hsp h3 ha2 h5 h4 (by simpa using k2) k3
       obtain⟨m1,m2⟩:=d7 hr h1 h2 hB (Kf h2 k3)
       refine⟨s,_,_,ziO hu hu1 hd1' hsz hcn (by omega) ha1 (by rw[wO];exact k1),?_,m1,by rw[hmin];exact m2⟩
       exact⟨_,cap',rfl,g2,g3,.inr ⟨g,h1,rfl,fun k hk=>let ⟨el,m,q1,q2⟩:=hop k hk;⟨el,m,m2.shp _ _ q1,q2⟩⟩⟩
      ·rename_i hfit
       split at h
       ·cases h
       ·rename_i hc
        simp only[Decidable.not_not] at hc
        obtain⟨hroom,hoff,hlc⟩:=hc
        have hself:cellsOf H i'.size len (.sl b off len cap opn)=some ((cs.drop off).take (len*i'.size)):=by
         simp[cellsOf,hg,hoff]
        have hxd:VH P s H w.drew (.sl b off len cap opn) (.slice (some ⟨g,off,none⟩) len cap'):=(Ext.drew s H w).vh ⟨_,cap',rfl,g2,g3,.inr ⟨g,h1,rfl,hop⟩⟩
        obtain⟨old,ho1,ho2⟩:=rf hr.drew hself hxd
        have hol:=ho2.length
        split at h
        ·rename_i hopn
         split at h
         ·rename_i hcc
          obtain⟨rfl,rfl,rfl⟩:=hcc
          injection h with h
          subst h
          obtain⟨el,sz,q1,q2⟩:=hop _ rfl
          have hsh:el=e/\sz=arr0.size:=by
           simp only[XB,h2] at q1
           injection q1 with q1
           simp only[dB] at q1
           exact⟨q1.1.symm,q1.2.symm⟩
          obtain⟨rfl,rfl⟩:=hsh
          by_cases hin:len+n<=cap'
          ·have hroom2:len*i'.size+n*i'.size<=cap'*i'.size:=by rw[<-ZC];exact cF _ hin
           obtain⟨arr',k1,k2,k3⟩:=V6 (P:=P) (o:=0+len*i'.size) arr.toList 0 arr0 w h2 h4 (by rw[hal,hnl];omega) (vg hone ha2)
           have hB:BR P s H w (.cells (cs.take (len*i'.size)++new) el) (.cells arr' el fr):=by
            refine⟨arr',fr,rfl,?_,by rw[k3];exact h4⟩
            rw[k2]
            have hk:(arr0.toList.take (0+len*i'.size+0)).length=len*i'.size:=by simp;omega
            have e1:(cs.take (len*i'.size)++new).length=(arr0.toList.take (0+len*i'.size+0)++arr.toList).length:=by rw[qA,qA,hk,hal];simp;omega
            have e2:(arr0.toList.take (0+len*i'.size+0)++arr.toList++arr0.toList.drop (0+len*i'.size+0+arr.toList.length)).take (arr0.toList.take (0+len*i'.size+0)++arr.toList).length=(arr0.toList.take cs.length).take (len*i'.size)++arr.toList:=by
             rw[jB (jA _),uA (l:=arr0.toList.take (0+len*i'.size+0)++arr.toList) (jA _),rF]
             congr 2
             omega
            rw[e1,e2]
            exact(h3.take _).append ha2
           obtain⟨m1,m2⟩:=zp1 hr h1 h2 hB (Kf h2 k3)
           refine⟨_,_,_,ziO hu hu1 hd1' hsz hcn hin ha1 (by rw[wO];exact k1),?_,m1,by rw[hmin];exact m2⟩
           refine⟨_,cap',rfl,by omega,fun e=>(by cases e),.inr ⟨g,by simp,rfl,fun k hk=>?_⟩⟩
           injection hk with hk
           subst hk
           exact⟨el,arr0.size,m2.shp _ _ q1,q2⟩
          ·obtain⟨cap2,k1,k2⟩:=zeY (ty:=ty) hu hu1 hd1' hi hb0 hz (base:=some ⟨g,0,none⟩) (len:=len) (cap:=cap') hcn (by omega) hroom ho1 hd2
           have hB:BR P s H w.drew (.cells (cs.take (len*i'.size)++new) el) (.cells (old++arrd++dC z.cells (cap2-(len+n))) el):=by
            refine⟨_,(0,0),rfl,?_,.zero⟩
            have e0:(cs.take (len*i'.size)++new).length=(old.toList++arrd.toList).length:=by rw[qA,qA,hol,hdl];simp
            simp only[kF]
            rw[e0,jB (jA _),uA (l:=old.toList++arrd.toList) (jA _)]
            exact VRs.append (by simpa using ho2) hd3
           obtain⟨m1,m2⟩:=zp2 hr.drew h1 hB
           have m3:=Ext.trans (fun b g hb=>(hr.lt hb).1) (Ext.drew s H w) m2
           have hmin2:min H.n b=b:=by omega
           rw[hmin2] at m3
           refine⟨_,_,_,k1,?_,m1,by rw[hmin];exact m3⟩
           refine⟨_,cap2,rfl,by omega,fun e=>(by cases e),.inr ⟨w.heap.size,by simp,rfl,fun k hk=>?_⟩⟩
           injection hk with hk
           subst hk
           refine⟨el,_,Lf w.drew _ _,?_⟩
           simp only[uD,nf,hzs]
           have e1:arrd.size=n*i'.size:=by rw[<-cC,hdl,hnl]
           have e3:old.size=len*i'.size:=by rw[<-cC,hol];simp;omega
           have e2:cap2*i'.size=len*i'.size+n*i'.size+(cap2-(len+n))*i'.size:=by rw[<-ZC,<-ZC];congr 1;omega
           omega
         ·cases h
        ·rename_i hopn
         injection h with h
         subst h
         have hex:cap'=cap:=g3 (by simpa using hopn)
         subst hex
         obtain⟨cap2,k1,k2⟩:=zeY (ty:=ty) hu hu1 hd1' hi hb0 hz (base:=some ⟨g,off,none⟩) (len:=len) (cap:=cap') hcn (by omega) hroom ho1 hd2
         have happ:UG P s H w.drew ((cs.drop off).take (len*i'.size)++new) (old++arrd).toList:=by
          rw[kF];exact ho2.append hd3
         obtain⟨s',m1,m2,m3⟩:=rj (e:=elem) (rest:=dC z.cells (cap2-(len+n))) hr happ
         refine⟨s',_,_,k1,?_,m1,m2⟩
         refine⟨_,cap2,rfl,by omega,fun e=>(by cases e),.inr ⟨_,m3,rfl,fun k e=>?_⟩⟩
         injection e with e
         subst e
         refine⟨elem,_,Lf w.drew _ _,?_⟩
         simp only[uD,nf,hzs]
         have e1:arrd.size=n*i'.size:=by rw[<-cC,hdl,hnl]
         have e3:old.size=len*i'.size:=by rw[<-cC,hol];simp;omega
         have e2:cap2*i'.size=len*i'.size+n*i'.size+(cap2-(len+n))*i'.size:=by rw[<-ZC,<-ZC];congr 1;omega
         omega
     ·cases h
    ·cases h
 ·cases h
end
end
section
section
variable {P:PH} {s:Nat->Option Nat} {H:Heap} {w:World}
theorem zpF(a b:Nat):Nat.min a b=min a b:=rfl
theorem BT(hr:HR P s H w){t ty:TypeId}{x y:V}{cx cy:Value}{r:OR}(h:xO P H t x y=some r)(hx:VH P s H w x cx)(hy:VH P s H w y cy)(ts:Array TypeId)(hts:ts[0]?=some t):
  ValOK P s H w r ((MF ts ty #[cx,cy]).run P w):=by
 unfold xO at h
 split at h
 ·rename_i elem hu
  simp only[pA,nA] at h
  obtain⟨sz,hsz,d,hd,n0,hn0,new,hnew,h⟩:=h
  have hc0:=znq (w:=w) hn0 hy
  obtain⟨arr,ha1,ha2⟩:=rf hr hnew hy
  have hal:=ha2.length
  have idle:∀base cap,cx=.slice base d cap->min n0 d=0->new=[]->r=⟨.lit (.int .i64 (min n0 d:Nat)),H,H.n⟩->ValOK P s H w r ((MF ts ty #[cx,cy]).run P w):=by
   intro base cap e h0 hn er
   subst e;subst er;subst hn
   have harr:arr.toList=[]:=by apply sE;rw[hal];rfl
   have he:arr=#[]:=by apply Array.toList_inj.1;rw[harr]
   subst he
   refine⟨s,_,w,?_,rfl,hr,Ext.refl s H w⟩
   cases base<;>simp[MF,hts,zA hu,hc0,xK hsz,zpF,ha1,goInt,storeCells]
  have h00:min n0 d=0->new=[]:=by
   intro e
   rw[e] at hnew
   unfold cellsOf at hnew
   split at hnew<;>first
    | (split at hnew<;>first|(injection hnew with hnew;subst hnew;simp;done)|(cases hnew;done)|(split at hnew<;>first|(injection hnew with hnew;subst hnew;simp;done)|(cases hnew;done)))
    | (cases hnew;done)
  split at h
  ·split at h
   ·rename_i e
    injection h with h
    simp only[VH,VR] at hx
    simp only[mJ,lA] at hd
    subst hd
    exact idle none _ hx e (h00 e) h.symm
   ·cases h
  ·split at h
   ·rename_i e
    injection h with h
    obtain⟨a,hx⟩:=hx
    simp only[mJ,lA] at hd
    subst hd
    exact idle (some a) _ hx e (h00 e) h.symm
   ·cases h
  ·split at h
   ·rename_i e
    injection h with h
    obtain⟨a,c,hx⟩:=hx
    simp only[mJ,lA] at hd
    subst hd
    exact idle (some a) _ hx e (h00 e) h.symm
   ·cases h
  ·split at h
   ·rename_i e
    injection h with h
    obtain⟨g,off,cap,cs,hx,_⟩:=hx
    simp only[mJ,lA] at hd
    subst hd
    exact idle _ cap hx e (h00 e) h.symm
   ·cases h
  ·rename_i b off len cap opn
   split at h
   ·rename_i cs e hg
    split at h
    ·rename_i hone
     obtain⟨c,hsp,h⟩:=nA.1 h
     injection h with h
     subst h
     simp only[mJ,lA] at hd
     subst hd
     obtain⟨q,cap',rfl,g2,g3,hq⟩:=hx
     obtain⟨g,h1,rfl,hop⟩:=hr.live hg (by simp) hq
     obtain⟨arr0,fr,h2,h3,h4,h5⟩:=hr.cells hg h1
     have hbn:=(hr.lt h1).1
     have hmin:min b H.n=b:=by omega
     obtain⟨hl,_⟩:=A2 hsp
     obtain⟨arr',k1,k2,k3⟩:=V6 (P:=P) (o:=off) arr.toList 0 arr0 w h2 h4 (by rw[hal];omega) (vg hone ha2)
     have hB:BR P s H w (.cells c e) (.cells arr' e fr):=Hj hsp h3 ha2 h5 h4 (by simpa using k2) k3
     obtain⟨m1,m2⟩:=d7 hr h1 h2 hB (Kf h2 k3)
     refine⟨s,_,_,?_,rfl,m1,by rw[hmin];exact m2⟩
     simp[MF,hts,zA hu,hc0,xK hsz,zpF,ha1,goInt,k1]
    ·cases h
   ·cases h
  ·cases h
 ·cases h
theorem zkA{zc:List V}(h:zc.all V.one=true):∀n,(bH zc n).all V.one=true
 | 0=>rfl
 | n+1=>by simp only[bH,List.all_append,h,Bool.true_and];exact zkA h n
theorem KP(hr:HR P s H w){t ty:TypeId}{x:V}{cx:Value}{r:OR}(h:GX P H t x=some r)(hx:VH P s H w x cx)(ts:Array TypeId)(hts:ts[0]?=some t):
  ValOK P s H w r ((EE ts ty #[cx]).run P w):=by
 unfold GX at h
 split at h
 ·rename_i elem hu
  simp only[pA,nA] at h
  obtain⟨zc,hzc,h⟩:=h
  obtain⟨i',z,hi',hz,hzv⟩:=P1 (s:=s) (w:=w) (d:=RC H) (pr:=RE P s w) hzc
  have idle:∀base len cap,cx=.slice base len cap->(base=none\/len=0)->r=⟨EH,H,H.n⟩->ValOK P s H w r ((EE ts ty #[cx]).run P w):=by
   intro base len cap e h0 er
   subst e;subst er
   refine⟨s,.tuple #[],w,?_,⟨#[],rfl,by simp[VRs]⟩,hr,Ext.refl s H w⟩
   rcases h0 with rfl|rfl
   ·simp[EE,hts,zA hu]
   ·cases base<;>simp[EE,hts,zA hu]
  split at h
  ·injection h with h;simp only[VH,VR] at hx;exact idle _ _ _ hx (.inl rfl) h.symm
  ·injection h with h;obtain⟨a,hx⟩:=hx;exact idle _ _ _ hx (.inr rfl) h.symm
  ·injection h with h;obtain⟨a,c,hx⟩:=hx;exact idle _ _ _ hx (.inr rfl) h.symm
  ·injection h with h;obtain⟨q,cap',hx,_⟩:=hx;exact idle _ _ _ hx (.inr rfl) h.symm
  ·rename_i b off len cap opn hl0
   split at h
   ·rename_i cs e hg
    split at h
    ·rename_i hone
     obtain⟨c,hsp,h⟩:=nA.1 h
     injection h with h
     subst h
     obtain⟨q,cap',rfl,g2,g3,hq⟩:=hx
     obtain⟨g,h1,rfl,hop⟩:=hr.live hg (by simp) hq
     obtain⟨arr0,fr,h2,h3,h4,h5⟩:=hr.cells hg h1
     have hbn:=(hr.lt h1).1
     have hmin:min b H.n=b:=by omega
     obtain⟨hl,_⟩:=A2 hsp
     have hzz:=E7 hzv len
     have hzl:=hzz.length
     have hzall:(bH zc len).all V.one=true:=zkA hone len
     obtain⟨arr',k1,k2,k3⟩:=V6 (P:=P) (o:=off) (oA len z.cells.toList).flatten 0 arr0 w h2 h4 (by rw[hzl];omega) (vg hzall hzz)
     have hB:BR P s H w (.cells c e) (.cells arr' e fr):=Hj hsp h3 hzz h5 h4 (by simpa using k2) k3
     obtain⟨m1,m2⟩:=d7 hr h1 h2 hB (Kf h2 k3)
     refine⟨s,.tuple #[],_,?_,⟨#[],rfl,by simp[VRs]⟩,m1,by rw[hmin];exact m2⟩
     have hzc:(dC z.cells len).toList=(oA len z.cells.toList).flatten:=by
      rw[<-yf];rfl
     have hlen:len≠0:=by
      intro e0;exact hl0 e0
     obtain⟨l1,rfl⟩:∃l1,len=l1+1:=⟨len-1,by omega⟩
     simp[EE,hts,zA hu,XN hi' hz,hzc,k1]
    ·cases h
   ·cases h
  ·cases h
 ·cases h
theorem tY{t ty:TypeId}{x v:V}{cx:Value}{d pr}(h:KL P t x=some v)(hx:VR (szP P) s d pr w x cx)(ts:Array TypeId)(hts:ts[0]?=some t):∃c,(eG ts ty #[cx]).run P w=.ok c w/\VR (szP P) s d pr w v c:=by
 unfold KL at h
 split at h
 ·rename_i e hu
  split at h<;>first
   | (cases h;done)
   | (injection h with h;subst h)
  ·simp only[VR] at hx;subst hx;exact⟨_,by simp[eG,hts,zA hu];rfl,rfl⟩
  ·obtain⟨q,cap',rfl,_,h3,_⟩:=hx
   have:=h3 rfl
   subst this
   exact⟨_,by simp[eG,hts,zA hu];rfl,rfl⟩
  ·obtain⟨a,rfl⟩:=hx;exact⟨_,by simp[eG,hts,zA hu];rfl,rfl⟩
 ·cases h
theorem zjT{x v:V}{xt t:TypeId}{ok:Bool}{cx:Value}{d pr}(h:zft P x t ok=some v)(hx:VR (szP P) s d pr w x cx):∃c,(Instr.typeAssert cx xt t ok).run P w=.ok c w/\VR (szP P) s d pr w v c:=by
 unfold zft at h
 split at h
 ·cases h
 ·rename_i u hni hu
  split at h
  ·rename_i t' v'
   split at h
   ·rename_i e
    injection h with h
    subst e;subst h
    obtain⟨y,rfl,hy⟩:=hx
    have hrun:(Instr.typeAssert (.iface t' y) xt t' ok).run P w=.ok (if ok then .tuple #[y,.bool true] else y) w:=by
     simp only[Instr.typeAssert,VA,zA hu,EA]
     cases u<;>first
      | (exact absurd rfl (hni _))
      | simp
    refine⟨_,hrun,?_⟩
    cases ok with
    | false=>simpa using hy
    | true=>exact⟨#[y,.bool true],rfl,y,[.bool true],rfl,hy,.bool true,[],rfl,rfl,rfl⟩
   ·cases h
  ·cases h
 ·cases h
end
end
section
section
variable {P:PH} {s:Nat->Option Nat} {H:Heap} {w:World}
theorem zhc{d pr}:∀(cs:List V) (vs:List Value) (b:List UInt8),EL cs=some b->VRs (szP P) s d pr w cs vs->
  ∃xs:List Int,vs=xs.map (fun n=>.int .u8 n)/\b=xs.map fun n=>UInt8.ofNat n.toNat
 | [],vs,b,h,hv=>by
  simp only[EL,lA] at h
  simp only[VRs] at hv
  subst h;subst hv
  exact⟨[],rfl,rfl⟩
 | c::cs,vs,b,h,hv=>by
  obtain⟨x,vs',rfl,h1,hv⟩:=hv
  unfold EL at h
  split at h
  ·rename_i e;cases e
  ·rename_i n r e
   injection e with e1 e2
   subst e1;subst e2
   obtain⟨b',hb,rfl⟩:=BA.1 h
   simp only[VR] at h1
   subst h1
   obtain⟨xs,rfl,rfl⟩:=zhc cs vs' b' hb hv
   exact⟨n::xs,rfl,rfl⟩
  ·cases h
theorem zdH{g off len cap:Nat}{src dst e:TypeId}{cs:List V}{vs:List Value}{b:List UInt8}{d pr}(hs:P.P.underlying src=some (.slice e))(he:P.P.underlying e=some (.int .u8))(hd:P.P.underlying dst=some .string)
  (hb:EL cs=some b) (hv:VRs (szP P) s d pr w cs vs) (ha:HoldsAt w ⟨g,off,none⟩ vs) (hl:cs.length=len):
  (convert src dst (.slice (some ⟨g,off,none⟩) len cap)).run P w=.ok (.string ⟨b.toArray⟩) w:=by
 obtain⟨xs,rfl,rfl⟩:=zhc cs vs b hb hv
 have hx:xs.length=len:=by have:=hv.length;simp at this;omega
 refine run_convert_bytes_arg w src e hs he g off len cap xs hx (fun i hi=>?_) dst hd
 have:=ha i (.int .u8 (xs.getD i 0)) (by simp[List.getElem?_eq_getElem (show i<xs.length by omega),List.getD_eq_getElem?_getD])
 exact this
theorem zks(w:World)(e:TypeId)(st:ByteArray):pF w e st=w.drew.alloc (.cells (jC w e st) e ((jC w e st).size,(jC w e st).size+1)):=by
 have hh:(pF w e st).heap=(w.drew.alloc (.cells (jC w e st) e ((jC w e st).size,(jC w e st).size+1))).heap:=by
  apply uG
  intro i
  show _=(w.heap.push _)[i]?
  rcases Nat.lt_trichotomy i w.heap.size with h|h|h
  ·rw[Lib.bytesWorld_at_old w e st i h,qD,if_neg (by omega)]
  ·subst h
   rw[Lib.bytesWorld_at_new,qD,if_pos rfl]
  ·rw[FD (by rw[Lib.bytesWorld_size];omega),FD (by simp;omega)]
 have h1:(pF w e st).tape=w.tape:=rfl
 have h2:(pF w e st).drawn=w.drawn+1:=rfl
 have h3:(pF w e st).os=w.os:=rfl
 have h4:(pF w e st).output=w.output:=rfl
 cases hq:pF w e st with
 | mk a b c d f=>
  rw[hq] at hh h1 h2 h3 h4
  simp only at hh h1 h2 h3 h4
  subst hh;subst h1;subst h2;subst h3;subst h4
  rfl
theorem zoF(hr:HR P s H w){src dst:TypeId}{x:V}{cx:Value}{r:OR}(h:bL P H src dst x=some r)(hx:VH P s H w x cx):ValOK P s H w r ((convert src dst cx).run P w):=by
 have same:∀v c,r=⟨v,H,H.n⟩->(convert src dst cx).run P w=.ok c w->VH P s H w v c->ValOK P s H w r ((convert src dst cx).run P w):=by
  intro v c e h1 h2
  subst e
  exact⟨s,c,w,h1,h2,hr,Ext.refl s H w⟩
 unfold bL at h
 split at h
 ·rename_i u k k' n hu hd
  injection h with h
  simp only[VH,VR] at hx
  subst hx
  exact same _ _ h.symm (by simp[convert,zA hu,zA hd,Conv.intToInt]) rfl
 ·rename_i u st hu hd
  injection h with h
  simp only[VH,VR] at hx
  subst hx
  refine same _ _ h.symm ?_ rfl
  cases u<;>simp[convert,zA hu,zA hd]
 ·rename_i e st hu hd
  split at h
  ·rename_i he
   split at h
   ·rename_i hc
    injection h with h
    subst h
    simp only[VH,VR] at hx
    subst hx
    have hrun:=Lib.run_convert_string_bytes (P:=P) w src dst e st hu hd he
    rw[zks] at hrun
    have hcsz:(jC w e st).size=grownCap w st.size 0 e/\st.size<=grownCap w st.size 0 e:=by
     have h1:st.size<=grownCap w st.size 0 e:=by
      show st.size<=st.size+_
      omega
     refine⟨?_,h1⟩
     simp[jC]
     show st.size+_=_
     omega
    have hv:UG P s H w.drew (st.data.toList.map fun b=>V.lit (.int .u8 b.toNat)) ((jC w e st).toList.take (st.data.toList.map fun b=>V.lit (.int .u8 b.toNat)).length):=by
     have e1:(jC w e st).toList.take (st.data.toList.map fun b=>V.lit (.int .u8 b.toNat)).length=st.data.toList.map fun b=>Value.int .u8 b.toNat:=by
      simp only[jC,kF,qI,List.length_map]
      rw[jB (by simp),uA (by simp)]
     rw[e1]
     refine VRs.mk (by simp) fun i v c hv hc=>?_
     simp only[uB] at hv hc
     cases hq:st.data.toList[i]? with
     | none=>rw[hq] at hv;simp at hv
     | some b=>
      rw[hq] at hv hc
      simp only[SB,lA] at hv hc
      subst hv;subst hc
      rfl
    have hB:BR P s H w.drew (.cells (st.data.toList.map fun b=>V.lit (.int .u8 b.toNat)) e) (.cells (jC w e st) e ((jC w e st).size,(jC w e st).size+1)):=by
     refine⟨_,_,rfl,hv,fun i hi=>?_,fun hne=>absurd he hne⟩
     simp;omega
    obtain⟨m1,m2⟩:=j7 hr.drew hB
    have m3:=Ext.trans (fun b g hb=>(hr.lt hb).1) (Ext.drew s H w) m2
    rw[gA] at m3
    refine⟨_,_,_,hrun,?_,m1,m3⟩
    refine⟨_,_,rfl,hcsz.2,fun e=>(by cases e),.inr ⟨w.heap.size,by simp,rfl,fun k hk=>?_⟩⟩
    injection hk with hk
    subst hk
    refine⟨e,(jC w e st).size,?_,by rw[hcsz.1];omega⟩
    have:(w.drew.alloc (.cells (jC w e st) e ((jC w e st).size,(jC w e st).size+1))).heap[w.heap.size]?=some (.cells (jC w e st) e ((jC w e st).size,(jC w e st).size+1)):=by
     show(w.heap.push _)[w.heap.size]?=_
     simp
    simp only[XB,this]
   ·cases h
  ·cases h
 ·rename_i e l c hu hd
  split at h
  ·rename_i he
   injection h with h
   simp only[VH,VR] at hx
   subst hx
   exact same _ _ h.symm (run_convert_bytes_nil w src e hu he l c dst hd) rfl
  ·cases h
 ·rename_i e hu hd hno1 hno2
  split at h
  ·rename_i he
   simp only[pA,nA] at h
   obtain⟨n,hn,h⟩:=h
   split at h
   ·rename_i b off len cap opn
    simp only[nA] at h
    obtain⟨c,hc,bs,hb,h⟩:=h
    injection h with h
    simp only[mJ,lA] at hn
    subst hn
    unfold cellsOf at hc
    simp only at hc
    split at hc
    ·rename_i cs e' hg
     split at hc
     ·rename_i hbd
      injection hc with hc
      subst hc
      obtain⟨q,cap',rfl,g2,g3,hq⟩:=hx
      obtain⟨g,h1,rfl,hop⟩:=hr.live hg (by simp) hq
      obtain⟨arr0,fr,h2,h3,h4,h5⟩:=hr.cells hg h1
      have hh:=WU (n:=len*1) (pX (n:=off) (ZU h2 cs.length))
      simp only[bB] at hh
      exact same _ _ h.symm (zdH hu he hd hb ((h3.drop off).take (len*1)) hh (by simp;omega)) rfl
     ·cases hc
    ·cases hc
   ·rename_i cells len
    simp only[nA] at h
    obtain⟨c,hc,bs,hb,h⟩:=h
    injection h with h
    simp only[mJ,lA] at hn
    subst hn
    unfold cellsOf at hc
    simp only at hc
    split at hc
    ·rename_i hbd
     injection hc with hc
     subst hc
     obtain⟨g,off,cap,cs,rfl,hl,hg,hv,ha⟩:=hx
     exact same _ _ h.symm (zdH hu he hd hb (hv.take (len*1)) (WU ha) (by simp;omega)) rfl
    ·cases hc
   ·rename_i cells len
    simp only[nA] at h
    obtain⟨c,hc,bs,hb,h⟩:=h
    injection h with h
    simp only[mJ,lA] at hn
    subst hn
    unfold cellsOf at hc
    simp only at hc
    split at hc
    ·rename_i hbd
     injection hc with hc
     subst hc
     rcases hx with⟨rfl,rfl,rfl|⟨a,cap,rfl⟩⟩|⟨g,off,cap,cs,rfl,hl,hg,hv,ha⟩
     ·have hbs:bs=[]:=by simpa[EL] using hb.symm
      subst hbs
      exact same _ _ h.symm (run_convert_bytes_nil w src e hu he 0 0 dst hd) rfl
     ·have hbs:bs=[]:=by simpa[EL] using hb.symm
      subst hbs
      obtain⟨ab,ao,sp⟩:=a
      refine same _ _ h.symm ?_ rfl
      simp[convert,zA hu,zA hd,zA he,Conv.bytesToString,loadCells,loadCellsFrom]
      rfl
     ·exact same _ _ h.symm (zdH hu he hd hb (hv.take (len*1)) (WU ha) (by simp;omega)) rfl
    ·cases hc
   ·injection h with h
    obtain⟨a,rfl⟩:=hx
    obtain⟨ab,ao,sp⟩:=a
    refine same _ _ h.symm ?_ rfl
    simp[convert,zA hu,zA hd,zA he,Conv.bytesToString,loadCells,loadCellsFrom]
   ·injection h with h
    obtain⟨a,cap,rfl⟩:=hx
    refine same _ _ h.symm ?_ rfl
    simp[convert,zA hu,zA hd,zA he,Conv.bytesToString,loadCells,loadCellsFrom]
   ·cases h
  ·cases h
 ·cases h
end
end
section
section
variable {P:PH} {s:Nat->Option Nat} {H:Heap} {w:World}
theorem If{dd pr}:∀(n:Nat) (t:TypeId) (k:V) (ck:Value),oM P n t k=true->VR (szP P) s dd pr w k ck->∀(m:Nat) (e:Bool),n<=m->(GE e m t ck).run P w=.ok () w
 | 0,t,k,ck,h,_,m,e,_=>by simp[oM] at h
 | n+1,t,k,ck,h,hv,0,e,hm=>by omega
 | n+1,t,k,ck,h,hv,m+1,e,hm=>by
  simp only[oM] at h
  have plainCase:∀(d:TypeDesc),P.P.underlying t=some d->(∀x,d≠.interface x)->(∀x y,d≠.array x y)->(∀x,d≠.struct x)->(GE e (m+1) t ck).run P w=.ok () w:=by
   intro d hu h1 h2 h3
   simp only[GE,VA,zA hu,EA]
   cases d<;>first
    | (exact absurd rfl (h1 _))
    | (exact absurd rfl (h2 _ _))
    | (exact absurd rfl (h3 _))
    | rfl
  split at h
  ·rename_i hu;exact plainCase _ hu (by simp) (by simp) (by simp)
  ·rename_i hu;exact plainCase _ hu (by simp) (by simp) (by simp)
  ·rename_i hu;exact plainCase _ hu (by simp) (by simp) (by simp)
  ·rename_i fields hu
   split at h
   ·rename_i cs
    obtain⟨xs,rfl,hxs⟩:=hv
    simp only[GE,VA,zA hu,EA]
    rw[<-Array.forIn_toList]
    have hall:=h
    generalize fields.toList=fs at hall
    clear h hu
    induction fs with
    | nil=>simp
    | cons f fs ih=>
     simp only[CD,wA] at hall
     obtain⟨h1,h2⟩:=hall
     split at h1
     ·rename_i x hx
      obtain⟨c,hc1,hc2⟩:=yX (w:=w) hx hxs
      have hck:=If n f.type x c h1 hc2 m e (by omega)
      simp only[List.forIn_cons,VA]
      by_cases hnm : f.name = "_"
      ·simp only[hnm,ne_eq,not_true_eq_false,if_false,xB,EA]
       exact ih h2
      ·simp only[hnm,ne_eq,not_false_eq_true,if_true,VA,hc1,hck,EA,xB]
       exact ih h2
     ·cases h1
   ·cases h
  ·rename_i len elem hu
   split at h
   ·rename_i cs n' hn
    obtain⟨xs,rfl,hxs⟩:=hv
    simp only[GE,VA,zA hu,EA]
    simp only[Std.Legacy.Range.forIn_eq_forIn_range',Std.Legacy.Range.size,Nat.sub_zero,Nat.add_one_sub_one,Nat.div_one]
    rw[List.range_eq_range'] at h
    have hall:=h
    generalize List.range' 0 len=is at hall
    clear h hu
    induction is with
    | nil=>simp
    | cons j is ih=>
     simp only[CD,wA] at hall
     obtain⟨h1,h2⟩:=hall
     split at h1
     ·rename_i x hx
      obtain⟨c,hc1,hc2⟩:=yX (w:=w) hx hxs
      have hck:=If n elem x c h1 hc2 m e (by omega)
      simp only[List.forIn_cons,VA,xK hn,hc1,hck,EA,xB]
      exact ih h2
     ·cases h1
   ·cases h
  ·cases h
def jO(P:PH)(s:Nat->Option Nat)(H:Heap)(w:World):Option (Nat×V×Nat)->Option (Nat×Value)->Prop
 | none,r=>r=none
 | some (i,v,_),r=>∃c,r=some (i,c)/\VH P s H w v c
theorem zgn(kt:TypeId)(k:V)(ck:Value)(hk:VH P s H w k ck):∀(es:List (V×V×Nat)) (cs:List MapEntry) (i:Nat) (f:Option (Nat×V×Nat)),JK P kt k es i=some f->MRs P s H w es cs->
  ∃r,(Instr.findAsking kt ck cs i).run P w=.ok r w/\jO P s H w f r
 | [],cs,i,f,h,hm=>by
  simp only[JK,lA] at h
  simp only[MRs] at hm
  subst h;subst hm
  exact⟨none,rfl,rfl⟩
 | (k',v,b)::es,cs,i,f,h,hm=>by
  obtain⟨e,cs',rfl,h1,h2,h3,hm⟩:=hm
  simp only[JK,pA,nA] at h
  obtain⟨a,ha,b',hb,h⟩:=h
  have heq:=Gg (w:=w) 9 kt k k' a ck e.key ha hk h1 Op.maxDepth (by decide)
  split at h
  ·cases a with
   | true=>
    simp only[if_true,lA] at h
    subst h
    exact⟨some (i,e.val),by simp[Instr.findAsking,Op.equal,heq],e.val,rfl,h2⟩
   | false=>
    simp only[ZA,if_false] at h
    obtain⟨r,hr1,hr2⟩:=zgn kt k ck hk es cs' (i+1) f h hm
    exact⟨r,by simpa[Instr.findAsking,Op.equal,heq] using hr1,hr2⟩
  ·cases h
theorem zja{kt:TypeId}{k k':V}{ck ck':Value}{a b:Bool}{d:TypeDesc}(hu:P.P.underlying kt=some d)(hk:VH P s H w k ck)(hk':VH P s H w k' ck')(ha:UJ P 9 kt k k'=some a)(hb:Instr.sameNow d ck ck'=some b):b=a:=by
 have h9:=Gg (w:=w) 9 kt k k' a ck ck' ha hk hk' (8+1) (jA _)
 unfold Instr.sameNow at hb
 split at hb
 ·rename_i q k1 x k2 y
  split at hb
  ·rename_i e;subst e
   injection hb with hb
   subst hb
   rw[run_equalIn_int w 8 kt k1 q x y hu] at h9
   injection h9
  ·cases hb
 ·rename_i x y
  injection hb with hb
  subst hb
  rw[run_equalIn_string w 8 kt x y hu] at h9
  injection h9 with h9
  rw[<-h9,beq_toListBytes]
 ·rename_i x y
  injection hb with hb
  subst hb
  rw[run_equalIn_bool' w 8 kt x y hu] at h9
  injection h9
 ·cases hb
theorem zjw{kt:TypeId}{d:TypeDesc}(hu:P.P.underlying kt=some d)(k:V)(ck:Value)(hk:VH P s H w k ck):∀(es:List (V×V×Nat)) (cs:List MapEntry) (i:Nat) (f:Option (Nat×V×Nat)) (r:Option (Nat×Value)),
  JK P kt k es i=some f->MRs P s H w es cs->Instr.findNow d ck cs i=some r->jO P s H w f r
 | [],cs,i,f,r,h,hm,hr=>by
  simp only[JK,lA] at h
  simp only[MRs] at hm
  subst h;subst hm
  simp only[Instr.findNow,lA] at hr
  exact hr.symm
 | (k',v,b)::es,cs,i,f,r,h,hm,hr=>by
  obtain⟨e,cs',rfl,h1,h2,h3,hm⟩:=hm
  simp only[JK,pA,nA] at h
  obtain⟨a,ha,b',hb,h⟩:=h
  simp only[Instr.findNow] at hr
  split at hr
  ·rename_i hs
   have:=zja hu hk h1 ha hs
   subst this
   split at h
   ·simp only[if_true,lA] at h
    subst h
    injection hr with hr
    exact⟨e.val,hr.symm,h2⟩
   ·cases h
  ·rename_i hs
   have:=zja hu hk h1 ha hs
   subst this
   split at h
   ·simp only[ZA,if_false] at h
    exact zjw hu k ck hk es cs' (i+1) f r h hm hr
   ·cases h
  ·cases hr
theorem zg3{kt:TypeId}{k:V}{ck:Value}(hk:VH P s H w k ck){es:List (V×V×Nat)}{cs:List MapEntry}{f:Option (Nat×V×Nat)}{d:TypeDesc}(hu:P.P.underlying kt=some d)(h:JK P kt k es 0=some f)(hm:MRs P s H w es cs):
  ∃r,(Instr.findKey kt ck cs).run P w=.ok r w/\jO P s H w f r:=by
 unfold Instr.findKey
 rw[VA,zA hu,EA]
 cases hn:Instr.findNow d ck cs 0 with
 | some r=>exact⟨r,rfl,zjw hu k ck hk es cs 0 f r h hm hn⟩
 | none=>exact zgn kt k ck hk es cs 0 f h hm
theorem ziu{kt:TypeId}{k:V}(h:oM P 9 kt k=true):∃d,P.P.underlying kt=some d:=by
 cases hu:P.P.underlying kt with
 | none=>unfold oM at h;rw[hu] at h;cases h
 | some d=>exact⟨d,rfl⟩
theorem HR.mapAt(hr:HR P s H w){b:Nat}{es:List (V×V×Nat)}{clk:Nat}(h:H.get b=some (.map es clk)){g:Nat}(hb:s b=some g):∃arr,w.heap[g]?=some (.map arr clk)/\MRs P s H w es arr.toList:=by
 obtain⟨B,o,h1,h2,h3⟩:=hr.dom b g hb
 rw[h] at h1
 injection h1 with h1
 subst h1
 obtain⟨arr,rfl,h4⟩:=h3
 exact⟨arr,h2,h4⟩
theorem S2{g:Nat}{arr:Array MapEntry}{clk:Nat}(h:w.heap[g]?=some (.map arr clk)):(getObj g).run P w=.ok (.map arr clk) w:=by
 simp[getObj,Sem.run,h]
theorem Mf{g:Nat}{arr:Array MapEntry}{clk:Nat}(h:w.heap[g]?=some (.map arr clk))(o:Obj):(setObj g o).run P w=.ok () (put w g o):=by
 simp[setObj,Sem.run,h,put]
theorem zi0{t:TypeId}{v:V}{d pr}(h:tX P t=some v):∃z,(zeroValue t).run P w=.ok z w/\VR (szP P) s d pr w v z:=by
 simp only[tX,pA,nA] at h
 obtain⟨i,hi,z,hz,h⟩:=h
 injection h with h
 subst h
 exact⟨z,XN hi hz,Xk z⟩
theorem ig(hr:HR P s H w){m:V}{cm:Value}{es:List (V×V×Nat)}{clk:Nat}(h:mM H m=some (es,clk))(hm:VH P s H w m cm):∃b g arr,m=.mp b/\s b=some g/\H.get b=some (.map es clk)/\cm=.map (some g)/\w.heap[g]?=some (.map arr clk)/\MRs P s H w es arr.toList:=by
 unfold mM at h
 split at h
 ·rename_i b
  split at h
  ·rename_i es' clk' hg
   injection h with h
   simp only[dB] at h
   obtain⟨rfl,rfl⟩:=h
   obtain⟨q,rfl,hq⟩:=hm
   have h1:=hr.live hg (by simp) hq
   obtain⟨arr,h2,h3⟩:=hr.mapAt hg h1
   exact⟨b,q,arr,rfl,h1,hg,rfl,h2,h3⟩
  ·cases h
 ·cases h
def D7(et kt:TypeId)(ck:Value)(ok:Bool)(es:Array MapEntry):Sem Value:=do
 GE es.isEmpty 10000 kt ck
 match <-Instr.findKey kt ck es.toList with
 | some (_,v)=>pure (if ok then .tuple #[v,.bool true] else v)
 | none=>do
  let z <-zeroValue et
  pure (if ok then .tuple #[z,.bool false] else z)
theorem zml{t kt et:TypeId}(hu:P.P.underlying t=some (.map kt et))(ck:Value)(ok:Bool):
  (Instr.lookup t (.map none) ck ok).run P w=(D7 et kt ck ok #[]).run P w/\
  ∀(g:Nat) (arr:Array MapEntry) (clk:Nat),w.heap[g]?=some (.map arr clk)->(Instr.lookup t (.map (some g)) ck ok).run P w=(D7 et kt ck ok arr).run P w:=by
 have key:∀arr:Array MapEntry,(((GE arr.isEmpty 10000 kt ck).run P w).andThen fun a_1 w'=>
    (Sem.run P (Instr.findKey kt ck arr.toList) w').andThen fun a w'=>
     Sem.run P
      (match a with
      | some (_,v)=>do
       let x <-pure (v,true)
       pure (if ok=true then Value.tuple #[x.fst,Value.bool x.snd] else x.fst)
      | none=>do
       let z <-zeroValue et
       let x <-pure (z,false)
       pure (if ok=true then Value.tuple #[x.fst,Value.bool x.snd] else x.fst)) w')=(D7 et kt ck ok arr).run P w:=by
  intro arr
  simp only[D7,VA]
  cases (GE arr.isEmpty 10000 kt ck).run P w with
  | halt a b=>rfl
  | ok a w1=>
   simp only[EA]
   cases (Instr.findKey kt ck arr.toList).run P w1 with
   | halt a b=>rfl
   | ok r w2=>
    simp only[EA]
    cases r with
    | none=>
     simp only[VA]
     cases (zeroValue et).run P w2 with
     | halt a b=>rfl
     | ok z w3=>simp
    | some p=>simp
 constructor
 ·simp only[Instr.lookup,VA,zA hu,EA,xB]
  exact key #[]
 ·intro g arr clk hg
  simp only[Instr.lookup,VA,zA hu,EA,S2 hg,xB]
  exact key arr
theorem zpJ(hr:HR P s H w){t:TypeId}{m k v:V}{ok:Bool}{cm ck:Value}(h:aO P H t m k ok=some v)(hm:VH P s H w m cm)(hk:VH P s H w k ck):∃c,(Instr.lookup t cm ck ok).run P w=.ok c w/\VH P s H w v c:=by
 unfold aO at h
 split at h
 ·rename_i kt et hu
  split at h
  ·rename_i hko
   simp only[pA,nA] at h
   obtain⟨es,hes,f,hf,h⟩:=h
   obtain⟨d,hkd⟩:=ziu hko
   obtain⟨ht1,ht2⟩:=zml (w:=w) hu ck ok
   have fin:∀arr:Array MapEntry,MRs P s H w es arr.toList->∃c,(D7 et kt ck ok arr).run P w=.ok c w/\VH P s H w v c:=by
    intro arr hmr
    obtain⟨r,hr1,hr2⟩:=zg3 hk hkd hf hmr
    have hck:=If (w:=w) 9 kt k ck hko hk 10000 arr.isEmpty (by decide)
    simp only[D7,VA,hck,EA,hr1]
    cases f with
    | none=>
     simp only[jO] at hr2
     subst hr2
     simp only[nA] at h
     obtain⟨z,hz,h⟩:=h
     injection h with h
     subst h
     obtain⟨cz,hz1,hz2⟩:=zi0 (s:=s) (d:=RC H) (pr:=RE P s w) (w:=w) hz
     simp only[VA,hz1,EA,xB]
     refine⟨_,rfl,?_⟩
     cases ok with
     | false=>simpa using hz2
     | true=>exact⟨#[cz,.bool false],rfl,cz,[.bool false],rfl,hz2,.bool false,[],rfl,rfl,rfl⟩
    | some p=>
     obtain⟨i,pv,pb⟩:=p
     obtain⟨c,rfl,hc⟩:=hr2
     simp only[lA] at h
     subst h
     simp only[xB]
     refine⟨_,rfl,?_⟩
     cases ok with
     | false=>simpa using hc
     | true=>exact⟨#[c,.bool true],rfl,c,[.bool true],rfl,hc,.bool true,[],rfl,rfl,rfl⟩
   unfold mO at hes
   split at hes
   ·simp only[lA] at hes
    subst hes
    simp only[VH,VR] at hm
    subst hm
    obtain⟨c,h1,h2⟩:=fin #[] rfl
    exact⟨c,ht1.trans h1,h2⟩
   ·obtain⟨p,hp,rfl⟩:=BA.1 hes
    obtain⟨es',clk⟩:=p
    obtain⟨b,g,arr,rfl,h1,h2,rfl,h3,h4⟩:=ig hr hp hm
    obtain⟨c,k1,k2⟩:=fin arr h4
    exact⟨c,(ht2 g arr clk h3).trans k1,k2⟩
  ·cases h
 ·cases h
end
end
end Go.Tw
