/- Own work for this claim, part 1 of 17. No condition of its own. -/
import Derived.Calls
import Derived.Tactics
import Derived.Below
import Derived.Laws.World
import Derived.Laws.Sem
import Derived.Laws.Cells
import Derived.ChangeSame
import Derived.Carry
import Derived.ChangeAt
import Derived.Laws.Entries
import Derived.Laws.StructEq
import Derived.Laws.Strings
import Derived.ChangeKeysEq
set_option linter.all false
set_option maxRecDepth 100000
set_option maxHeartbeats 4000000
open Array renaming getElem?_eq_none→FD,getElem?_eq_some_iff→LA,getElem?_push→qD
open BitVec renaming ofInt→EB
open Go.Op renaming equalIn→WC
open Go.Result renaming andThen_ok→EA
open Go.Sem renaming run_bind→VA,run_pure→xB
open Go.World renaming shape?→XB
open List renaming getElem?_append→ZE,getElem?_drop→rC,getElem?_take→xD,length_cons→HA
open Nat renaming add_assoc→WD,beq→kB,blt→mD,le_refl→jA,le_trans→cB,lt_of_lt_of_le→vB,lt_or_ge→RA
open Option renaming bind_eq_bind→pA,bind_eq_some_iff→nA,map_eq_some_iff→BA
open Option.some renaming injEq→lA
section
namespace Go.Tw
inductive V where
 | lit (v:Value)
 | ptr (b off:Nat)
 | gptr (g off:Nat)
 | sl (b off len cap:Nat) (opn:Option Nat)
 | zs
 | void
 | mp (b:Nat)
 | ps (cells:List V) (len:Nat)
 | pn (cells:List V) (len:Nat)
 | pp (cells:List V)
 | fn (f:Fn) (first captured:List V)
 | yld (b:Nat)
 | ifc (t:TypeId) (v:V)
 | agg (cells:List V)
 | tup (vs:List V)
 | any
 deriving Inhabited
def HoldsAt(w:World)(a:Addr)(cs:List Value):Prop:=∀i c,cs[i]?=some c->w.cell? ⟨a.block,a.off+i,none⟩=some c
mutual
def VR(z:TypeId->Nat)(s:Nat->Option Nat)(d:Nat->Prop)(pr:Nat->Prop)(w:World):V->Value->Prop
 | .lit v,c=>c=v
 | .ptr b off,c=>∃x,c=.pointer (some x)/\(d b\/∃g,s b=some g/\x=⟨g,off,none⟩)
 | .gptr g off,c=>c=.pointer (some ⟨g,off,none⟩)
 | .sl b off len cap opn,c=>∃x cap',c=.slice (some x) len cap'/\cap<=cap'/\(opn=none->cap'=cap)/\(d b\/∃g,s b=some g/\x=⟨g,off,none⟩/\(∀k,opn=some k->∃e n,w.shape? g=some (e,n)/\off+cap'*k<=n))
 | .zs,c=>∃a,c=.slice (some a) 0 0
 | .void,c=>∃a cap,c=.slice (some a) 0 cap
 | .mp b,c=>∃x,c=.map (some x)/\(d b\/s b=some x)
 | .ps cells len,c=>∃g off cap cs,c=.slice (some ⟨g,off,none⟩) len cap/\len<=cap/\pr g/\VRs z s d pr w cells cs/\HoldsAt w ⟨g,off,none⟩ cs
 | .pn cells len,c=>(len=0/\cells=[]/\(c=.slice none 0 0\/∃a cap,c=.slice (some a) 0 cap))\/∃g off cap cs,c=.slice (some ⟨g,off,none⟩) len cap/\len<=cap/\pr g/\VRs z s d pr w cells cs/\HoldsAt w ⟨g,off,none⟩ cs
 | .pp cells,c=>∃g off cs,c=.pointer (some ⟨g,off,none⟩)/\pr g/\VRs z s d pr w cells cs/\HoldsAt w ⟨g,off,none⟩ cs
 | .fn f first cap,c=>∃xs ys,c=.func f xs ys/\VRs z s d pr w first xs.toList/\VRs z s d pr w cap ys.toList
 | .yld b,c=>∃x,c=.func (.yield x) #[] #[]/\(d b\/s b=some x)
 | .ifc t v,c=>∃x,c=.iface t x/\VR z s d pr w v x
 | .agg cells,c=>∃xs,c=.agg xs/\VRs z s d pr w cells xs.toList
 | .tup vs,c=>∃xs,c=.tuple xs/\VRs z s d pr w vs xs.toList
 | .any,c=>True
def VRs(z:TypeId->Nat)(s:Nat->Option Nat)(d:Nat->Prop)(pr:Nat->Prop)(w:World):List V->List Value->Prop
 | [],cs=>cs=[]
 | v::vs,cs=>∃c cs',cs=c::cs'/\VR z s d pr w v c/\VRs z s d pr w vs cs'
end
section mono
variable {z:TypeId->Nat} {s s':Nat->Option Nat} {d d':Nat->Prop} {pr pr':Nat->Prop} {w w':World}
theorem Sf{w w':World}{g:Nat}(h:w'.heap[g]?=w.heap[g]?)(off:Nat)(c:Value)(hc:w.cell? ⟨g,off,none⟩=some c):w'.cell? ⟨g,off,none⟩=some c:=by
 simp only[World.cell?] at hc ⊢
 rw[h]
 exact hc
theorem HoldsAt.keep{a:Addr}{cs:List Value}(h:HoldsAt w a cs)(hb:∀off c,w.cell? ⟨a.block,off,none⟩=some c->w'.cell? ⟨a.block,off,none⟩=some c):HoldsAt w' a cs:=
 fun i c hi=>hb _ _ (h i c hi)
structure HL(s s':Nat->Option Nat)(d d':Nat->Prop)(pr pr':Nat->Prop)(w w':World):Prop where
 hd:∀b,d b->d' b
 hs:∀b g,s b=some g->s' b=some g\/d' b
 hp:∀g,pr g->pr' g
 hw:∀g,pr g->∀off c,w.cell? ⟨g,off,none⟩=some c->w'.cell? ⟨g,off,none⟩=some c
 hz:∀g x,w.shape? g=some x->w'.shape? g=some x
mutual
theorem VR.mono(G:HL s s' d d' pr pr' w w'):∀(v:V) (c:Value),VR z s d pr w v c->VR z s' d' pr' w' v c
 | .lit v,c,h=>h
 | .ptr b off,c,h=>by
  obtain⟨x,e,h⟩:=h
  refine⟨x,e,?_⟩
  rcases h with h|⟨g,h,e⟩
  ·exact .inl (G.hd _ h)
  ·rcases G.hs b g h with h'|h'
   ·exact .inr ⟨g,h',e⟩
   ·exact .inl h'
 | .gptr g off,c,h=>h
 | .sl b off len cap opn,c,h=>by
  obtain⟨x,cap',e,e2,e3,h⟩:=h
  refine⟨x,cap',e,e2,e3,?_⟩
  rcases h with h|⟨g,h,e1,e4⟩
  ·exact .inl (G.hd _ h)
  ·rcases G.hs b g h with h'|h'
   ·exact .inr ⟨g,h',e1,fun k ho=>let ⟨e,n,hn,hl⟩:=e4 k ho;⟨e,n,G.hz _ _ hn,hl⟩⟩
   ·exact .inl h'
 | .zs,c,h=>h
 | .void,c,h=>h
 | .mp b,c,h=>by
  obtain⟨x,e,h⟩:=h
  refine⟨x,e,?_⟩
  rcases h with h|h
  ·exact .inl (G.hd _ h)
  ·rcases G.hs b x h with h'|h'
   ·exact .inr h'
   ·exact .inl h'
 | .ps cells len,c,h=>by
  obtain⟨g,off,cap,cs,e,hl,hg,hv,ha⟩:=h
  exact⟨g,off,cap,cs,e,hl,G.hp _ hg,VRs.mono G cells cs hv,ha.keep (G.hw g hg)⟩
 | .pn cells len,c,h=>by
  rcases h with h|⟨g,off,cap,cs,e,hl,hg,hv,ha⟩
  ·exact .inl h
  ·exact .inr ⟨g,off,cap,cs,e,hl,G.hp _ hg,VRs.mono G cells cs hv,ha.keep (G.hw g hg)⟩
 | .pp cells,c,h=>by
  obtain⟨g,off,cs,e,hg,hv,ha⟩:=h
  exact⟨g,off,cs,e,G.hp _ hg,VRs.mono G cells cs hv,ha.keep (G.hw g hg)⟩
 | .fn f first cap,c,h=>by
  obtain⟨xs,ys,e,h1,h2⟩:=h
  exact⟨xs,ys,e,VRs.mono G first _ h1,VRs.mono G cap _ h2⟩
 | .yld b,c,h=>by
  obtain⟨x,e,h⟩:=h
  refine⟨x,e,?_⟩
  rcases h with h|h
  ·exact .inl (G.hd _ h)
  ·rcases G.hs b x h with h'|h'
   ·exact .inr h'
   ·exact .inl h'
 | .ifc t v,c,h=>by
  obtain⟨x,e,h⟩:=h
  exact⟨x,e,VR.mono G v x h⟩
 | .agg cells,c,h=>by
  obtain⟨xs,e,h⟩:=h
  exact⟨xs,e,VRs.mono G cells _ h⟩
 | .tup vs,c,h=>by
  obtain⟨xs,e,h⟩:=h
  exact⟨xs,e,VRs.mono G vs _ h⟩
 | .any,c,h=>h
theorem VRs.mono(G:HL s s' d d' pr pr' w w'):∀(vs:List V) (cs:List Value),VRs z s d pr w vs cs->VRs z s' d' pr' w' vs cs
 | [],cs,h=>h
 | v::vs,cs,h=>by
  obtain⟨c,cs',e,h1,h2⟩:=h
  exact⟨c,cs',e,VR.mono G v c h1,VRs.mono G vs cs' h2⟩
end
end mono
theorem zhE{z:TypeId->Nat}{s:Nat->Option Nat}{d:Nat->Prop}{pr:Nat->Prop}{w:World}{cells:List V}{len:Nat}{c:Value}(h:VR z s d pr w (.pn cells len) c):∃a cap,c=.slice a len cap:=by
 rcases h with⟨rfl,_,rfl|⟨a,cap,rfl⟩⟩|⟨g,off,cap,cs,rfl,_⟩
 ·exact⟨_,_,rfl⟩
 ·exact⟨_,_,rfl⟩
 ·exact⟨_,_,rfl⟩
section lists
variable {z:TypeId->Nat} {s:Nat->Option Nat} {d:Nat->Prop} {pr:Nat->Prop} {w:World}
theorem VRs.length:∀{vs:List V} {cs:List Value},VRs z s d pr w vs cs->cs.length=vs.length
 | [],cs,h=>by simp only[VRs] at h;subst h;rfl
 | v::vs,cs,h=>by
  simp only[VRs] at h
  obtain⟨c,cs',rfl,_,h⟩:=h
  simp[VRs.length h]
theorem VRs.get:∀{vs:List V} {cs:List Value} {i:Nat} {v:V},VRs z s d pr w vs cs->vs[i]?=some v->∃c,cs[i]?=some c/\VR z s d pr w v c
 | [],cs,i,v,h,hi=>by simp at hi
 | v::vs,cs,0,u,h,hi=>by
  simp only[VRs] at h
  obtain⟨c,cs',rfl,h1,h⟩:=h
  simp only[List.getElem?_cons_zero,lA] at hi
  subst hi
  exact⟨c,rfl,h1⟩
 | v::vs,cs,i+1,u,h,hi=>by
  simp only[VRs] at h
  obtain⟨c,cs',rfl,h1,h⟩:=h
  simp only[List.getElem?_cons_succ] at hi ⊢
  exact VRs.get h hi
theorem VRs.take:∀{vs:List V} {cs:List Value} (n:Nat),VRs z s d pr w vs cs->VRs z s d pr w (vs.take n) (cs.take n)
 | _,_,0,h=>by simp[VRs]
 | [],cs,n+1,h=>by simp only[VRs] at h;subst h;simp[VRs]
 | v::vs,cs,n+1,h=>by
  simp only[VRs] at h
  obtain⟨c,cs',rfl,h1,h⟩:=h
  exact⟨c,_,rfl,h1,VRs.take n h⟩
theorem VRs.drop:∀{vs:List V} {cs:List Value} (n:Nat),VRs z s d pr w vs cs->VRs z s d pr w (vs.drop n) (cs.drop n)
 | _,_,0,h=>by simpa using h
 | [],cs,n+1,h=>by simp only[VRs] at h;subst h;simp[VRs]
 | v::vs,cs,n+1,h=>by
  simp only[VRs] at h
  obtain⟨c,cs',rfl,h1,h⟩:=h
  simpa using VRs.drop n h
theorem VRs.append:∀{vs us:List V} {cs ds:List Value},VRs z s d pr w vs cs->VRs z s d pr w us ds->VRs z s d pr w (vs++us) (cs++ds)
 | [],us,cs,ds,h,k=>by simp only[VRs] at h;subst h;simpa using k
 | v::vs,us,cs,ds,h,k=>by
  simp only[VRs] at h
  obtain⟨c,cs',rfl,h1,h⟩:=h
  exact⟨c,_,rfl,h1,VRs.append h k⟩
theorem VRs.mk:∀{vs:List V} {cs:List Value},vs.length=cs.length->(∀(i:Nat) (v:V) (c:Value),vs[i]?=some v->cs[i]?=some c->VR z s d pr w v c)->VRs z s d pr w vs cs
 | [],[],_,_=>by simp[VRs]
 | [],_::_,h,_=>by simp at h
 | _::_,[],h,_=>by simp at h
 | v::vs,c::cs,h,k=>⟨c,cs,rfl,k 0 v c rfl rfl,VRs.mk (by simpa using h) fun i u x hu hx=>k (i+1) u x (by simpa using hu) (by simpa using hx)⟩
end lists
inductive Tr(α:Type) where
 | nil
 | node (a:Option α) (l r:Tr α)
 deriving Inhabited
theorem bN{a b:Nat}(h:a≠b):kB a b=false:=by
 cases e:kB a b
 ·rfl
 ·exact absurd (Nat.eq_of_beq_eq_true e) h
theorem BJ{a b:Nat}(h:a=b):kB a b=true:=by
 subst h
 exact Nat.beq_refl a
namespace Tr
variable {α:Type}
def get:Tr α->Nat->Option α
 | .nil,_=>none
 | .node a l r,k=>bif kB k 0 then a else bif kB (k % 2) 1 then l.get (k / 2) else r.get (k / 2-1)
def kids:Tr α->Option α×Tr α×Tr α
 | .nil=>(none,.nil,.nil)
 | .node a l r=>(a,l,r)
def set:Nat->Tr α->Nat->α->Tr α
 | 0,t,_,_=>t
 | f+1,t,k,x=>match t.kids with
  | (a,l,r)=>bif kB k 0 then .node (some x) l r else bif kB (k % 2) 1 then .node a (set f l (k / 2) x) r else .node a l (set f r (k / 2-1) x)
theorem get_kids(t:Tr α)(k:Nat):t.get k=bif kB k 0 then t.kids.1 else bif kB (k % 2) 1 then t.kids.2.1.get (k / 2) else t.kids.2.2.get (k / 2-1):=by
 cases t with
 | nil=>simp[get,kids]
 | node a l r=>rfl
theorem get_set:∀(f:Nat) (t:Tr α) (k j:Nat) (x:α),k<f->(set f t k x).get j=if j=k then some x else t.get j
 | 0,t,k,j,x,h=>by omega
 | f+1,t,k,j,x,h=>by
  rw[get_kids t j]
  simp only[set]
  rcases t.kids with⟨a,l,r⟩
  simp only
  by_cases hk:k=0
  ·subst hk
   simp only[cond_true,get,show kB 0 0=true from rfl]
   by_cases hj:j=0
   ·subst hj;simp
   ·have:kB j 0=false:=bN hj
    simp[this,hj]
  ·have hkb:kB k 0=false:=bN (by omega)
   simp only[hkb,cond_false]
   by_cases hp:k % 2=1
   ·have hpb:kB (k % 2) 1=true:=BJ (by omega)
    simp only[hpb,cond_true,get]
    by_cases hj:j=0
    ·subst hj
     have:¬(0=k):=by omega
     simp[this]
    ·have hjb:kB j 0=false:=bN (by omega)
     simp only[hjb,cond_false]
     by_cases hq:j % 2=1
     ·have hqb:kB (j % 2) 1=true:=BJ (by omega)
      simp only[hqb,cond_true]
      rw[get_set f l (k / 2) (j / 2) x (by omega)]
      by_cases e:j=k
      ·subst e;simp
      ·have:¬(j / 2=k / 2):=by omega
       simp[e,this]
     ·have hqb:kB (j % 2) 1=false:=bN (by omega)
      simp only[hqb,cond_false]
      have:¬(j=k):=by intro e;subst e;exact hq hp
      simp[this]
   ·have hpb:kB (k % 2) 1=false:=bN (by omega)
    simp only[hpb,cond_false,get]
    by_cases hj:j=0
    ·subst hj
     have:¬(0=k):=by omega
     simp[this]
    ·have hjb:kB j 0=false:=bN (by omega)
     simp only[hjb,cond_false]
     by_cases hq:j % 2=1
     ·have hqb:kB (j % 2) 1=true:=BJ (by omega)
      simp only[hqb,cond_true]
      have:¬(j=k):=by intro e;subst e;exact hp hq
      simp[this]
     ·have hqb:kB (j % 2) 1=false:=bN (by omega)
      simp only[hqb,cond_false]
      rw[get_set f r (k / 2-1) (j / 2-1) x (by omega)]
      by_cases e:j=k
      ·subst e;simp
      ·have:¬(j / 2-1=k / 2-1):=by omega
       simp[e,this]
end Tr
inductive Blk where
 | cells (cs:List V) (elem:TypeId)
 | map (es:List (V×V×Nat)) (clock:Nat)
 | loop (tmps:List V) (params:List Tmp) (assign body:Code) (state:LoopState) (pending:Option Code)
 | dead
 deriving Inhabited
structure Heap where
 n:Nat
 t:Tr Blk
 deriving Inhabited
namespace Heap
def get(H:Heap)(b:Nat):Option Blk:=bif mD b H.n then H.t.get b else none
def push(H:Heap)(x:Blk):Heap:=⟨H.n+1,Tr.set (H.n+1) H.t H.n x⟩
def set(H:Heap)(b:Nat)(x:Blk):Heap:=bif mD b H.n then⟨H.n,Tr.set (b+1) H.t b x⟩ else H
def empty:Heap:=⟨0,.nil⟩
theorem blt_eq(a b:Nat):mD a b=decide (a<b):=by
 rw[Bool.eq_iff_iff];simp[Nat.blt_eq]
theorem get_eq(H:Heap)(b:Nat):H.get b=if b<H.n then H.t.get b else none:=by
 simp only[get,blt_eq];by_cases h:b<H.n<;>simp[h]
theorem get_lt{H:Heap}{b:Nat}{x:Blk}(h:H.get b=some x):b<H.n:=by
 rw[get_eq] at h;split at h<;>simp_all
theorem get_push(H:Heap)(x:Blk)(b:Nat):(H.push x).get b=if b=H.n then some x else H.get b:=by
 rw[get_eq,get_eq]
 simp only[push]
 rw[Tr.get_set _ _ _ _ _ (by omega)]
 by_cases e:b=H.n
 ·simp[e]
 ·by_cases l:b<H.n
  ·have:b<H.n+1:=by omega
   simp[e,l,this]
  ·have:¬b<H.n+1:=by omega
   simp[e,l,this]
theorem n_push(H:Heap)(x:Blk):(H.push x).n=H.n+1:=rfl
theorem n_set(H:Heap)(b:Nat)(x:Blk):(H.set b x).n=H.n:=by simp only[set,blt_eq];by_cases h:b<H.n<;>simp[h]
theorem get_set(H:Heap)(b:Nat)(x:Blk)(j:Nat):(H.set b x).get j=if j=b/\b<H.n then some x else H.get j:=by
 simp only[set,blt_eq]
 by_cases l:b<H.n
 ·simp only[l,decide_true,cond_true,get_eq]
  rw[Tr.get_set _ _ _ _ _ (by omega)]
  by_cases e:j=b
  ·subst e;simp[l]
  ·simp[e]
 ·simp[l]
end Heap
end Go.Tw
end
namespace Go.Tw
section
open Go.ChangeShapes Go.WideShapes Go.ChangeAt Go.RowKit
theorem zoj{H:Type}{enc:TypeId×Value->H}{P:Program}{f:Func}{s:ChangeSpec}{apart fresh handsOn again:Bool}{W W':World}{args:Array Value}{v:Value}{ds gs:List (DataW H)}{before pa pv:List MemPlace}
  (hW:DataW.Whole enc P f.params.toList s.vars apart W args.toList ds gs before)
  (hres:∀(b:Nat) (sp:Nat->Bool) (hd:Bool),DataW.TrodAll enc P W' b sp hd f.resultTypes.toList (v.resultList f.resultTypes.size) (s.fn H (ds++gs)).results [])
  (hargs:∀sp:Nat->Bool,(∀p∈before,sp p.block=true)->DataW.TrodAll enc P W' 0 sp true f.params.toList args.toList (s.fn H (ds++gs)).args pa)
  (hvars:∀sp:Nat->Bool,(∀p∈before,sp p.block=true)->DataW.TrodVars enc P W' sp s.vars (s.fn H (ds++gs)).vars pv)
  (hps:before=pa++pv) (hB:Below W.heap.size W W')
  (hok:∀(j:Nat) (t:TypeId) (r:Value),f.resultTypes[j]?=some t->(v.resultList f.resultTypes.size)[j]?=some r->Value.okWide P W' .any 0 t r):
  s.post enc P f apart fresh handsOn again W args v W':=by
 have hlt:=hW.lt
 have hsp:∀p∈before,(fun b=>decide (b<W.heap.size)) p.block=true:=fun p hp=>decide_eq_true (by simpa using hlt p hp)
 refine⟨ds,gs,before,[],pa,pv,hW,hres _ _ _,hargs _ hsp,hvars _ hsp,hB.frame _,fun _=>?_⟩
 obtain⟨_,_,_,_,_,hz,hn⟩:=hW
 refine⟨hok,_,_,([]++pa)++pv,⟨[]++pa,pv,trodAll_append (hargs _ (fun _ _=>rfl)) (hres _ _ _),hvars _ (fun _ _=>rfl),rfl,fun b off hp=>?_,fun ha=>?_⟩,fun p hp _=>?_⟩
 ·have hm:MemPlace.cell b off∈before:=by rw[hps];simpa using hp
  rw[hB.frozen (by simpa[MemPlace.block] using hlt _ hm)]
  exact hz b off hm
 ·have:=hn ha
  rw[hps] at this
  simpa using this
 ·rw[hps];simpa using hp
end
def szP(P:Program)(t:TypeId):Nat:=((P.info? t).map (·.size)).getD 0
def EF(P:Program)(t:TypeId):Option Nat:=(P.info? t).map (·.size)
def uM(P:Program)(t:TypeId):Option Bool:=
 match P.underlying t with
 | some (.struct _)=>some true
 | some (.array _ _)=>some true
 | some _=>some false
 | none=>none
def lN:Value->V
 | .agg cs=>.agg (cs.toList.map .lit)
 | .func f xs ys=>if xs.size=0/\ys.size=0 then .fn f [] [] else .lit (.func f xs ys)
 | v=>.lit v
def V.one:V->Bool
 | .agg _|.tup _|.lit (.agg _)|.lit (.tuple _)|.any=>false
 | _=>true
def zG:V->Option (List V)
 | .agg cs=>some cs
 | .lit (.agg _)=>none
 | .any=>none
 | v=>some [v]
def QE(P:Program)(t:TypeId)(cells:List V)(off:Nat):Option V:=do
 let b <-uM P t
 if b then do
  let n <-EF P t
  if off+n<=cells.length then some (.agg ((cells.drop off).take n)) else none
 else cells[off]?
def zD(cs:List V)(off:Nat)(new:List V):Option (List V):=
 if off+new.length<=cs.length then some (cs.take off++new++cs.drop (off+new.length)) else none
def ZM(place:Nat->Option (Nat×Nat))(cells:List V):List (Nat×V)->Option (List V)
 | []=>some cells
 | (i,v)::rest=>do
  let p <-place i
  let vc <-zG v
  if vc.length=p.2 then do
   let c <-zD cells p.1 vc
   ZM place c rest
  else none
def L2(P:Program):List Field->Option (List (Nat×Nat))
 | []=>some []
 | f::fs=>do
  let n <-EF P f.type
  let r <-L2 P fs
  some ((f.offset,n)::r)
def zE(P:Program)(t:TypeId):Option (List V):=do
 let i <-P.info? t
 let z <-i.zero
 zG (lN z)
def fL(P:Program)(t:TypeId)(parts:List (Nat×V)):Option V:=do
 let zc <-zE P t
 match P.underlying t with
 | some (.struct fields)=>do
  let ps <-L2 P fields.toList
  let c <-ZM (fun i=>ps[i]?) zc parts
  some (.agg c)
 | some (.array _ elem)=>do
  let n <-EF P elem
  let c <-ZM (fun i=>some (i*n,n)) zc parts
  some (.agg c)
 | _=>none
def WL(op:BinOp)(k:IntKind)(a b:Int):Option Value:=
 match op with
 | .add=>some (.int k (k.wrap (a+b)))
 | .sub=>some (.int k (k.wrap (a-b)))
 | .mul=>some (.int k (k.wrap (a*b)))
 | .quo=>if b=0 then none else some (.int k (k.wrap (a.tdiv b)))
 | .rem=>if b=0 then none else some (.int k (a.tmod b))
 | .and=>some (.int k (k.wrap ((EB k.bits a&&& EB k.bits b).toNat)))
 | .or=>some (.int k (k.wrap ((EB k.bits a||| EB k.bits b).toNat)))
 | .xor=>some (.int k (k.wrap ((EB k.bits a ^^^ EB k.bits b).toNat)))
 | .andNot=>some (.int k (k.wrap ((EB k.bits a&&& ~~~ EB k.bits b).toNat)))
 | .eql=>some (.bool (a==b))
 | .neq=>some (.bool (a !=b))
 | .lss=>some (.bool (a<b))
 | .leq=>some (.bool (a<=b))
 | .gtr=>some (.bool (a>b))
 | .geq=>some (.bool (a≥b))
 | _=>none
def w7(op:BinOp)(k:IntKind)(a b:Int):Option Value:=
 if b<0 then none else
 match op with
 | .shl=>some (.int k (k.wrap (a*2 ^ (min b.toNat k.bits))))
 | .shr=>some (.int k (a.fdiv (2 ^ (min b.toNat k.bits))))
 | _=>none
def bytes(s:ByteArray):List UInt8:=s.data.toList
def S3(op:BinOp)(x y:ByteArray):Option Value:=
 match op with
 | .add=>if x.size+y.size<=9223372036854775807 then some (.string (x++y)) else none
 | .eql=>some (.bool (bytes x==bytes y))
 | .neq=>some (.bool !(bytes x==bytes y))
 | .lss=>some (.bool (Op.bytesLess (bytes x) (bytes y)))
 | .leq=>some (.bool (Op.bytesLess (bytes x) (bytes y)||bytes x==bytes y))
 | .gtr=>some (.bool !(Op.bytesLess (bytes x) (bytes y)||bytes x==bytes y))
 | .geq=>some (.bool !(Op.bytesLess (bytes x) (bytes y)))
 | _=>none
def nil?:V->Option Bool
 | .lit (.pointer none)|.lit (.slice none _ _)|.lit (.map none)|.lit .nilFunc|.lit .nilIface=>some true
 | .ptr ..|.pp _|.sl ..|.ps ..|.zs|.void|.mp _|.fn ..|.yld _|.ifc ..|.gptr ..=>some false
 | _=>none
def S1(P:Program)(eq:TypeId->V->V->Option Bool)(xs ys:List V):List Field->Option Bool
 | []=>some true
 | f::fs=>
  if f.name = "_" then none else do
   let a <-QE P f.type xs f.offset
   let b <-QE P f.type ys f.offset
   let r <-eq f.type a b
   if r then S1 P eq xs ys fs else some false
def YU(P:Program)(eq:V->V->Option Bool)(elem:TypeId)(n:Nat)(xs ys:List V):(left i:Nat)->Option Bool
 | 0,_=>some true
 | l+1,i=>do
  let a <-QE P elem xs (i*n)
  let b <-QE P elem ys (i*n)
  let r <-eq a b
  if r then YU P eq elem n xs ys l (i+1) else some false
def UJ(P:Program):Nat->TypeId->V->V->Option Bool
 | 0,_,_,_=>none
 | d+1,t,x,y=>
  match P.underlying t with
  | some .bool=>match x,y with
   | .lit (.bool a),.lit (.bool b)=>some (a==b)
   | _,_=>none
  | some (.int _)=>match x,y with
   | .lit (.int k a),.lit (.int k' b)=>if k=k' then some (a==b) else none
   | _,_=>none
  | some .string=>match x,y with
   | .lit (.string a),.lit (.string b)=>some (bytes a==bytes b)
   | _,_=>none
  | some (.struct fields)=>match x,y with
   | .agg xs,.agg ys=>if P.stoodInHeld t then none else S1 P (UJ P d) xs ys fields.toList
   | _,_=>none
  | some (.array len elem)=>match x,y with
   | .agg xs,.agg ys=>do
    let n <-EF P elem
    YU P (UJ P d elem) elem n xs ys len 0
   | _,_=>none
  | some (.pointer _)=>match x,y with
   | .lit (.pointer none),.lit (.pointer none)=>some true
   | .lit (.pointer none),.ptr _ _=>some false
   | .lit (.pointer none),.pp _=>some false
   | .ptr _ _,.lit (.pointer none)=>some false
   | .pp _,.lit (.pointer none)=>some false
   | _,_=>none
  | some (.slice _)=>match x,y with
   | .lit (.slice none _ _),.lit (.slice none _ _)=>some true
   | .sl ..,.lit (.slice none _ _)=>some false
   | .ps ..,.lit (.slice none _ _)=>some false
   | .zs,.lit (.slice none _ _)=>some false
   | .void,.lit (.slice none _ _)=>some false
   | _,_=>none
  | some (.map _ _)=>match x,y with
   | .lit (.map none),.lit (.map none)=>some true
   | .mp _,.lit (.map none)=>some false
   | _,_=>none
  | some (.func _ _ _)=>match x,y with
   | .lit .nilFunc,.lit .nilFunc=>some true
   | .fn ..,.lit .nilFunc=>some false
   | _,_=>none
  | some (.interface _)=>match x,y with
   | .ifc ..,.lit .nilIface=>some false
   | .lit .nilIface,.ifc ..=>some false
   | _,_=>none
  | _=>none
def WK:Value->Nat
 | .bool _=>0|.int _ _=>1|.float _ _=>2|.complex _ _ _=>3|.string _=>4|.pointer _=>5|.slice _ _ _=>6|.map _=>7
 | .chan _=>8|.func _ _ _=>9|.nilFunc=>10|.iface _ _=>11|.nilIface=>12|.agg _=>13|.tuple _=>14
def LL:V->Nat
 | .lit v=>WK v
 | .ptr ..|.gptr ..|.pp _=>5
 | .sl ..|.zs|.void|.ps ..|.pn ..=>6
 | .mp _=>7
 | .fn ..|.yld _=>9
 | .ifc ..=>11
 | .agg _=>13
 | .tup _=>14
 | .any=>99
def CV(P:Program)(t:TypeId)(x y:V):Option Bool:=
 if LL x=99\/LL y=99 then none
 else if LL x=13/\LL y=13 then(if P.eqGuardType P.depth t then none else UJ P 9 t x y)
 else if LL x=12/\LL y=12 then none
 else if LL x=LL y/\(LL x=1\/LL x=2\/LL x=3\/LL x=4) then none
 else UJ P 9 t x y
def jE(P:Program)(op:BinOp)(t:TypeId)(x y:V):Option V:=
 match x,y with
 | .lit (.int k a),.lit (.int k' b)=>
  (match op with
  | .shl=>w7 .shl k a b
  | .shr=>w7 .shr k a b
  | _=>if k=k' then WL op k a b else none).map .lit
 | .lit (.string a),.lit (.string b)=>(S3 op a b).map .lit
 | _,_=>
  match op with
  | .eql=>(CV P t x y).map fun r=>.lit (.bool r)
  | .neq=>(CV P t x y).map fun r=>.lit (.bool !r)
  | _=>none
def PU(op:UnOp)(x:V):Option V:=
 match op,x with
 | .neg,.lit (.int k n)=>some (.lit (.int k (k.wrap (0-n))))
 | .xor,.lit (.int k n)=>some (.lit (.int k (k.wrap ((EB k.bits (if k.signed then -1 else k.max) ^^^ EB k.bits n).toNat))))
 | .not,.lit (.bool b)=>some (.lit (.bool !b))
 | _,_=>none
def II(x:V)(n:Nat):Option V:=
 match x with
 | .ptr b off=>some (.ptr b (off+n))
 | .pp cells=>some (.pp (cells.drop n))
 | _=>none
def dL(P:Program)(s:TypeId)(x:V)(i:Nat):Option V:=
 match P.underlying s with
 | some (.struct fields)=>do
  let f <-fields[i]?
  let n <-EF P f.type
  if n=0 then none else II x f.offset
 | _=>none
def Rk(P:Program)(s:TypeId)(x:V)(i:Nat):Option V:=
 match P.underlying s,x with
 | some (.struct fields),.agg cs=>do
  let f <-fields[i]?
  QE P f.type cs f.offset
 | _,_=>none
def zv(P:Program)(t:TypeId)(x ix:V):Option V:=
 match ix with
 | .lit (.int _ i)=>
  match P.underlying t with
  | some (.array len elem)=>do
   let n <-EF P elem
   if 0<=i/\i<len then II x (i.toNat*n) else none
  | some (.slice elem)=>do
   let n <-EF P elem
   match x with
   | .sl b off len _ _=>if 0<=i/\i<len then some (.ptr b (off+i.toNat*n)) else none
   | .ps cells len=>if 0<=i/\i<len then some (.pp (cells.drop (i.toNat*n))) else none
   | .pn cells len=>if 0<=i/\i<len then some (.pp (cells.drop (i.toNat*n))) else none
   | _=>none
  | _=>none
 | _=>none
def vN(P:Program)(t:TypeId)(x ix:V):Option V:=
 match ix with
 | .lit (.int _ i)=>
  match P.underlying t,x with
  | some (.array len elem),.agg cs=>do
   let n <-EF P elem
   if 0<=i/\i<len then QE P elem cs (i.toNat*n) else none
  | some .string,.lit (.string s)=>if 0<=i then(s.data.toList[i.toNat]?).map fun b=>.lit (.int .u8 b.toNat) else none
  | _,_=>none
 | _=>none
def fS(x:V)(y:Nat):Option Nat:=
 match x with
 | .lit (.int _ i)=>if 0<=i/\i<=y then some i.toNat else none
 | _=>none
def MM(cap:Nat):Option V->Option Nat
 | some v=>fS v cap
 | none=>some cap
def pM(len cap m:Nat):Option V->Option V->Option Nat
 | some v,some _=>fS v m
 | some v,none=>fS v cap
 | none,none=>some len
 | none,some _=>none
def sM(h:Nat):Option V->Option Nat
 | some v=>fS v h
 | none=>some 0
def SK(len cap:Nat)(low high max:Option V):Option (Nat×Nat×Nat):=
 (MM cap max).bind fun m=>(pM len cap m high max).bind fun h=>(sM h low).bind fun l=>some (l,h,m)
def QS(b off len cap:Nat)(opn:Option Nat)(sz:Nat)(mx:Bool)(l h m:Nat):Option V:=
 if cap<len then none
 else if mx||opn.isNone then some (.sl b (if m=l then off else off+l*sz) (h-l) (m-l) none)
 else if m=l then some .void
 else if opn=some sz then some (.sl b (off+l*sz) (h-l) (m-l) (some sz))
 else none
def lH(P:Program)(t:TypeId)(x:V)(low high max:Option V):Option V:=
 match P.underlying t with
 | some (.array n elem)=>do
  let (l,h,m) <-SK n n low high max
  let sz <-EF P elem
  match x with
  | .ptr b off=>some (.sl b (if m=l then off else off+l*sz) (h-l) (m-l) none)
  | .pp cells=>if m=l then some .zs else some (.ps (cells.drop (l*sz)) (h-l))
  | _=>none
 | some .string=>
  match x with
  | .lit (.string s)=>if max.isSome then none else do
   let (l,h,_) <-SK s.size s.size low high none
   some (.lit (.string (s.extract l h)))
  | _=>none
 | some (.slice elem)=>do
  let sz <-EF P elem
  match x with
  | .lit (.slice none 0 0)=>do
   let _ <-SK 0 0 low high max
   some (.lit (.slice none 0 0))
  | .zs=>do
   let _ <-SK 0 0 low high max
   some .zs
  | .void=>do
   let _ <-SK 0 0 low high max
   some (if max.isSome then .zs else .void)
  | .sl b off len cap opn=>do
   let t <-SK len cap low high max
   QS b off len cap opn sz max.isSome t.1 t.2.1 t.2.2
  | .ps cells len=>do
   let (l,h,m) <-SK len len low high max
   if max.isSome&&m=l then some .zs
   else some (.ps ((cells.drop (l*sz)).take ((h-l)*sz)) (h-l))
  | .pn cells len=>if max.isSome then none else do
   let (l,h,_) <-SK len len low high none
   some (.pn ((cells.drop (l*sz)).take ((h-l)*sz)) (h-l))
  | _=>none
 | _=>none
def J7(x:V)(i:Nat):Option V:=
 match x with
 | .tup vs=>vs[i]?
 | _=>none
def zib(x:V):Option V:=
 match x with
 | .ptr ..|.pp _|.ifc ..|.yld _=>some x
 | .fn (.func f) a b=>some x
 | .fn (.methodOf t n) a b=>some x
 | .fn (.via t p f q) a b=>some x
 | _=>none
def Y7(P:Program)(t:TypeId)(name:String):Option FuncId:=
 match P.info? t with
 | some i=>match i.methods.find? (·.name==name) with
  | some m=>bif m.path.isEmpty then
    (match m.func,P.underlying t with
    | some (f,true),some (.pointer _)=>some f
    | some (f,false),some (.pointer _)=>none
    | some (f,false),some _=>some f
    | _,_=>none) else none
  | none=>none
 | none=>none
def fV(P:Program)(x:V):Option V:=
 match x with
 | .fn (.method name) (.ifc t v::rest) cap=>if(Y7 P t name).isSome then some x else none
 | x=>zib x
def oO(P:Program)(t:TypeId)(x:V):Option V:=
 match P.underlying t with
 | some .string=>match x with
  | .lit (.string s)=>some (.lit (.int .i64 s.size))
  | _=>none
 | some (.array n _)=>some (.lit (.int .i64 n))
 | some (.pointer arr)=>match P.underlying arr with
  | some (.array n _)=>some (.lit (.int .i64 n))
  | _=>none
 | some (.slice _)=>match x with
  | .lit (.slice none n _)=>some (.lit (.int .i64 n))
  | .sl _ _ len _ _=>some (.lit (.int .i64 len))
  | .ps _ len=>some (.lit (.int .i64 len))
  | .pn _ len=>some (.lit (.int .i64 len))
  | .zs=>some (.lit (.int .i64 0))
  | .void=>some (.lit (.int .i64 0))
  | _=>none
 | some (.map _ _)=>match x with
  | .lit (.map none)=>some (.lit (.int .i64 0))
  | _=>none
 | _=>none
def KL(P:Program)(t:TypeId)(x:V):Option V:=
 match P.underlying t with
 | some (.slice _)=>match x with
  | .lit (.slice none _ n)=>some (.lit (.int .i64 n))
  | .sl _ _ _ cap none=>some (.lit (.int .i64 cap))
  | .zs=>some (.lit (.int .i64 0))
  | _=>none
 | _=>none
def J4(x y:V):Option V:=
 match x,y with
 | .lit (.int k a),.lit (.int _ b)=>some (.lit (.int k (if b>a then b else a)))
 | _,_=>none
def QN(x y:V):Option V:=
 match x,y with
 | .lit (.int k a),.lit (.int _ b)=>some (.lit (.int k (if b<a then b else a)))
 | _,_=>none
def kS(f:V->V->Option V)(x:V):List V->Option V
 | []=>some x
 | y::r=>do let z <-f x y;kS f z r
structure OR where
 v:V
 H:Heap
 lo:Nat
 deriving Inhabited
def EH:V:=.tup []
def keep(H:Heap)(o:Option V):Option OR:=o.map fun v=>⟨v,H,H.n⟩
def uV(P:Program)(H:Heap)(t:TypeId):Option OR:=do
 let zc <-zE P t
 some ⟨.ptr H.n 0,H.push (.cells zc t),H.n⟩
def JL(H:Heap)(t:TypeId)(x:V):Option OR:=do
 let c <-zG x
 some ⟨.ptr H.n 0,H.push (.cells c t),H.n⟩
def bH(zc:List V):Nat->List V
 | 0=>[]
 | n+1=>zc++bH zc n
def zx(P:Program)(H:Heap)(t:TypeId)(len:Nat)(parts:List (Nat×V)):Option OR:=
 match P.underlying t with
 | some (.slice elem)=>do
  let sz <-EF P elem
  let zc <-zE P elem
  if len*sz<=16777216/\zc.length=sz then do
   let c <-ZM (fun i=>some (i*sz,sz)) (bH zc len) parts
   some ⟨.sl H.n 0 len len none,H.push (.cells c elem),H.n⟩
  else none
 | _=>none
def kX(P:Program)(H:Heap)(t:TypeId)(l c:V):Option OR:=
 match P.underlying t,l,c with
 | some (.slice elem),.lit (.int _ l),.lit (.int _ c)=>do
  let i <-P.info? elem
  let zc <-zE P elem
  if 0<=l/\l<=c/\c*i.bytes<=1099511627776/\c<=1099511627776/\zc.length=i.size then
   some ⟨.sl H.n 0 l.toNat c.toNat none,H.push (.cells (bH zc c.toNat) elem),H.n⟩
  else none
 | _,_,_=>none
def I3(H:Heap)(x:V):Option (List V×Nat):=
 match x with
 | .ptr b off=>match H.get b with
  | some (.cells cs _)=>some (cs,off)
  | _=>none
 | .pp cells=>some (cells,0)
 | _=>none
def zeO(P:Program)(H:Heap)(t:TypeId)(x:V):Option V:=do
 let c <-I3 H x
 QE P t c.1 c.2
def qV(P:Program)(H:Heap)(t:TypeId)(x v:V):Option OR:=
 match x with
 | .ptr b off=>match H.get b with
  | some (.cells cs e)=>do
   let vc <-zG v
   let n <-EF P t
   if vc.length=n/\vc.all V.one then do
    let c <-zD cs off vc
    some ⟨EH,H.set b (.cells c e),min b H.n⟩
   else none
  | _=>none
 | _=>none
def cellsOf(H:Heap)(sz n:Nat)(x:V):Option (List V):=
 match x with
 | .lit (.slice none _ _)=>if n=0 then some [] else none
 | .zs=>if n=0 then some [] else none
 | .void=>if n=0 then some [] else none
 | .lit (.string s)=>if n<=s.size then some ((s.data.toList.take n).map fun b=>.lit (.int .u8 b.toNat)) else none
 | .ps cells len=>if n<=len/\n*sz<=cells.length then some (cells.take (n*sz)) else none
 | .pn cells len=>if n<=len/\n*sz<=cells.length then some (cells.take (n*sz)) else none
 | .sl b off len _ _=>match H.get b with
  | some (.cells cs _)=>if n<=len/\off+n*sz<=cs.length then some ((cs.drop off).take (n*sz)) else none
  | _=>none
 | _=>none
def mJ:V->Option Nat
 | .lit (.slice none n _)=>some n
 | .zs=>some 0
 | .void=>some 0
 | .lit (.string s)=>some s.size
 | .ps _ len=>some len
 | .pn _ len=>some len
 | .sl _ _ len _ _=>some len
 | _=>none
def S7(P:Program)(H:Heap)(elem:TypeId)(s x:V):Option OR:=
 match s,x with
 | .lit (.slice none 0 0),.lit (.int _ l)=>do
  let i <-P.info? elem
  let zc <-zE P elem
  if 0<l/\0<i.bytes/\0<i.size/\zc.length=i.size/\l.toNat*i.bytes<=1099511627776 then
   some ⟨.sl H.n 0 l.toNat l.toNat (some i.size),H.push (.cells (bH zc l.toNat) elem),H.n⟩
  else none
 | .sl b off len cap none,.lit (.int _ l)=>do
  let i <-P.info? elem
  let zc <-zE P elem
  match H.get b with
  | some (.cells cs _)=>
   if 0<l/\0<i.bytes/\0<i.size/\zc.length=i.size/\cap<len+l.toNat/\(len+l.toNat)*i.bytes<=1099511627776/\off+len*i.size<=cs.length then
    some ⟨.sl H.n 0 (len+l.toNat) (len+l.toNat) (some i.size),H.push (.cells ((cs.drop off).take (len*i.size)++bH zc l.toNat) elem),H.n⟩
   else none
  | _=>none
 | _,_=>none
def DH(P:Program)(H:Heap)(t0 t1:TypeId)(s x:V):Option OR:=
 match P.underlying t0,P.underlying t1 with
 | some (.slice elem),some (.int _)=>S7 P H elem s x
 | some (.slice elem),some _=>do
  let i <-P.info? elem
  let n <-mJ x
  let new <-cellsOf H i.size n x
  let zc <-zE P elem
  if ¬(0<i.bytes/\zc.length=i.size/\new.all V.one/\new.length=n*i.size) then none else
  if n=0 then
   match s with
   | .lit (.slice none 0 0)|.zs|.void|.ps ..|.pn ..=>some ⟨s,H,H.n⟩
   | .sl _ _ len cap _=>if len<=cap then some ⟨s,H,H.n⟩ else none
   | _=>none
  else
  match s with
  | .lit (.slice none 0 0)=>if n*i.bytes<=1099511627776 then some ⟨.sl H.n 0 n n (some i.size),H.push (.cells new elem),H.n⟩ else none
  | .zs=>if n*i.bytes<=1099511627776 then some ⟨.sl H.n 0 n n (some i.size),H.push (.cells new elem),H.n⟩ else none
  | .sl b off len cap opn=>
   match H.get b with
   | some (.cells cs e)=>
    if len+n<=cap then(zD cs (off+len*i.size) new).bind fun c=>some ⟨.sl b off (len+n) cap opn,H.set b (.cells c e),min b H.n⟩
    else if ¬((len+n)*i.bytes<=1099511627776/\off+len*i.size<=cs.length/\len<=cap) then none
    else if opn.isSome then
     if off=0/\e=elem/\opn=some i.size then some ⟨.sl H.n 0 (len+n) (len+n) (some i.size),(H.push (.cells (cs.take (len*i.size)++new) elem)).set b .dead,min b H.n⟩ else none
    else some ⟨.sl H.n 0 (len+n) (len+n) (some i.size),H.push (.cells ((cs.drop off).take (len*i.size)++new) elem),H.n⟩
   | _=>none
  | _=>none
 | _,_=>none
def xO(P:Program)(H:Heap)(t:TypeId)(dst src:V):Option OR:=
 match P.underlying t with
 | some (.slice elem)=>do
  let sz <-EF P elem
  let d <-mJ dst
  let n0 <-mJ src
  let n:=min n0 d
  let new <-cellsOf H sz n src
  match dst with
  | .lit (.slice none _ _)|.zs|.void=>if n=0 then some ⟨.lit (.int .i64 n),H,H.n⟩ else none
  | .ps ..=>if n=0 then some ⟨.lit (.int .i64 n),H,H.n⟩ else none
  | .sl b off _ _ _=>match H.get b with
   | some (.cells cs e)=>if new.all V.one then(zD cs off new).bind fun c=>some ⟨.lit (.int .i64 n),H.set b (.cells c e),min b H.n⟩ else none
   | _=>none
  | _=>none
 | _=>none
def GX(P:Program)(H:Heap)(t:TypeId)(x:V):Option OR:=
 match P.underlying t with
 | some (.slice elem)=>do
  let zc <-zE P elem
  match x with
  | .lit (.slice none _ _)|.zs|.void=>some ⟨EH,H,H.n⟩
  | .sl _ _ 0 _ _=>some ⟨EH,H,H.n⟩
  | .sl b off len _ _=>match H.get b with
   | some (.cells cs e)=>if zc.all V.one then(zD cs off (bH zc len)).bind fun c=>some ⟨EH,H.set b (.cells c e),min b H.n⟩ else none
   | _=>none
  | _=>none
 | _=>none
def EL:List V->Option (List UInt8)
 | []=>some []
 | .lit (.int .u8 n)::r=>(EL r).map (UInt8.ofNat n.toNat::·)
 | _=>none
def bL(P:Program)(H:Heap)(src dst:TypeId)(x:V):Option OR:=
 match P.underlying src,P.underlying dst,x with
 | some _,some (.int k),.lit (.int _ n)=>some ⟨.lit (.int k (k.wrap n)),H,H.n⟩
 | some _,some .string,.lit (.string s)=>some ⟨.lit (.string s),H,H.n⟩
 | some .string,some (.slice e),.lit (.string s)=>
  match P.underlying e with
  | some (.int .u8)=>if s.size<=1099511627776/\EF P e=some 1 then
    some ⟨.sl H.n 0 s.size s.size (some 1),H.push (.cells (s.data.toList.map fun b=>.lit (.int .u8 b.toNat)) e),H.n⟩
   else none
  | _=>none
 | some (.slice e),some .string,.lit (.slice none _ _)=>
  match P.underlying e with
  | some (.int .u8)=>some ⟨.lit (.string .empty),H,H.n⟩
  | _=>none
 | some (.slice e),some .string,x=>
  match P.underlying e with
  | some (.int .u8)=>do
   let n <-mJ x
   match x with
   | .sl ..=>do
    let c <-cellsOf H 1 n x
    let b <-EL c
    some ⟨.lit (.string ⟨b.toArray⟩),H,H.n⟩
   | .ps ..=>do
    let c <-cellsOf H 1 n x
    let b <-EL c
    some ⟨.lit (.string ⟨b.toArray⟩),H,H.n⟩
   | .pn ..=>do
    let c <-cellsOf H 1 n x
    let b <-EL c
    some ⟨.lit (.string ⟨b.toArray⟩),H,H.n⟩
   | .zs=>some ⟨.lit (.string .empty),H,H.n⟩
   | .void=>some ⟨.lit (.string .empty),H,H.n⟩
   | _=>none
  | _=>none
 | _,_,_=>none
def OX:V->V->Option Bool
 | .lit (.bool a),.lit (.bool b)=>some (a==b)
 | .lit (.int k a),.lit (.int k' b)=>if k=k' then some (a==b) else none
 | .lit (.string a),.lit (.string b)=>some (bytes a==bytes b)
 | _,_=>none
def PO:List V->List V->Option Bool
 | [],[]=>some true
 | x::xs,y::ys=>do
  let a <-OX x y
  let b <-PO xs ys
  some (a&&b)
 | _,_=>none
def lV:V->V->Option Bool
 | .agg xs,.agg ys=>PO xs ys
 | x,y=>OX x y
def JK(P:Program)(kt:TypeId)(k:V):List (V×V×Nat)->Nat->Option (Option (Nat×V×Nat))
 | [],_=>some none
 | (k',v,born)::es,i=>do
  let a <-UJ P 9 kt k k'
  let b <-lV k k'
  if a=b then(if a then some (some (i,v,born)) else JK P kt k es (i+1)) else none
def oM(P:Program):Nat->TypeId->V->Bool
 | 0,_,_=>false
 | d+1,t,k=>
  match P.underlying t with
  | some .bool|some (.int _)|some .string=>(match k with|.lit _=>true|_=>false)
  | some (.struct fields)=>match k with
   | .agg cs=>fields.toList.all fun f=>match QE P f.type cs f.offset with
    | some x=>oM P d f.type x
    | none=>false
   | _=>false
  | some (.array len elem)=>match k,EF P elem with
   | .agg cs,some n=>(List.range len).all fun i=>match QE P elem cs (i*n) with
    | some x=>oM P d elem x
    | none=>false
   | _,_=>false
  | _=>false
def mM(H:Heap)(x:V):Option (List (V×V×Nat)×Nat):=
 match x with
 | .mp b=>match H.get b with
  | some (.map es clk)=>some (es,clk)
  | _=>none
 | _=>none
def tX(P:Program)(t:TypeId):Option V:=do
 let i <-P.info? t
 let z <-i.zero
 some (lN z)
def mO(H:Heap)(m:V):Option (List (V×V×Nat)):=
 match m with
 | .lit (.map none)=>some []
 | m=>(mM H m).map (·.1)
def aO(P:Program)(H:Heap)(t:TypeId)(m k:V)(ok:Bool):Option V:=
 match P.underlying t with
 | some (.map kt et)=>
  if oM P 9 kt k then do
   let es <-mO H m
   let f <-JK P kt k es 0
   match f with
   | some (_,v,_)=>some (if ok then .tup [v,.lit (.bool true)] else v)
   | none=>do
    let z <-tX P et
    some (if ok then .tup [z,.lit (.bool false)] else z)
  else none
 | _=>none
def VL(H:Heap)(b:Nat)(es:List (V×V×Nat))(clk:Nat):Heap:=H.set b (.map es clk)
def pj(P:Program)(H:Heap)(t:TypeId)(m k v:V):Option OR:=
 match P.underlying t,m with
 | some (.map kt _),.mp b=>
  if oM P 9 kt k then do
   let (es,clk) <-mM H m
   let f <-JK P kt k es 0
   match f with
   | some (i,_,born)=>some ⟨EH,VL H b (es.set i (k,v,born)) clk,min b H.n⟩
   | none=>some ⟨EH,VL H b (es++[(k,v,clk)]) (clk+1),min b H.n⟩
  else none
 | _,_=>none
def gV(P:Program)(H:Heap)(t:TypeId)(m k:V):Option OR:=
 match P.underlying t,m with
 | some (.map kt et),.mp b=>
  if oM P 9 kt k then do
   let (es,clk) <-mM H m
   let f <-JK P kt k es 0
   match f with
   | some (i,v,born)=>some ⟨.tup [v,.lit (.int .i64 born)],VL H b (es.set i (k,v,born)) clk,min b H.n⟩
   | none=>do
    let z <-tX P et
    some ⟨.tup [z,.lit (.int .i64 clk)],VL H b (es++[(k,z,clk)]) (clk+1),min b H.n⟩
  else none
 | _,_=>none
def nM(P:Program)(t:TypeId)(k:V)(B:Option Blk):Option V:=
 match P.underlying t with
 | some (.map kt et)=>match B with
  | some (.map es _)=>(JK P kt k es 0).bind fun f=>match f with
   | some (_,v,_)=>some v
   | none=>tX P et
  | _=>none
 | _=>none
def xV(P:Program)(t:TypeId)(k:V)(H H':Heap)(m:V):Bool:=
 match P.underlying t,m with
 | some (.map kt _),.mp b=>match H.get b,H'.get b with
  | some (.map es _),some (.map es' _)=>match JK P kt k es 0,JK P kt k es' 0 with
   | some (some (i,_,_)),some (some (j,_,_))=>kB i j
   | some none,some (some (j,_,_))=>kB j es.length
   | _,_=>false
  | _,_=>false
 | _,_=>false
def tO(P:Program)(H:Heap)(t:TypeId)(m k:V):Option OR:=
 match gV P H t m k with
 | some r=>bif xV P t k H r.H m then some r else none
 | none=>none
def sX(n:Int):List (V×V×Nat)->Nat->Option (Nat×V)
 | [],_=>none
 | (k,_,born)::es,i=>if(born:Int)=n then some (i,k) else sX n es (i+1)
def c7(H:Heap)(m stamp v:V):Option OR:=
 match m,stamp with
 | .mp b,.lit (.int _ n)=>do
  let (es,clk) <-mM H m
  let (i,k) <-sX n es 0
  let e <-es[i]?
  some ⟨EH,VL H b (es.set i (k,v,e.2.2)) clk,min b H.n⟩
 | _,_=>none
def qH(P:Program)(H:Heap)(t:TypeId)(x:V):Option V:=
 match P.underlying t with
 | some (.map _ _)=>match x with
  | .lit (.map none)=>some (.lit (.int .i64 0))
  | x=>(mM H x).map fun m=>.lit (.int .i64 m.1.length)
 | _=>oO P t x
def zft(P:Program)(x:V)(asserted:TypeId)(ok:Bool):Option V:=
 match P.underlying asserted with
 | some (.interface _)=>none
 | some _=>match x with
  | .ifc t v=>if t=asserted then some (if ok then .tup [v,.lit (.bool true)] else v) else none
  | _=>none
 | none=>none
def opV(P:Program)(r:Operand->V)(H:Heap)(o:Op):Option OR:=
 match o with
 | .move x=>keep H (some (r x))
 | .assign x=>keep H (some (r x))
 | .pick c a b=>match r c with
  | .lit (.bool t)=>keep H (some (if t then r a else r b))
  | _=>none
 | .alloc t=>uV P H t
 | .box t x=>JL H t (r x)
 | .build t ps=>keep H (fL P t (ps.toList.map fun p=>(p.1,r p.2)))
 | .buildSlice t len ps=>zx P H t len (ps.toList.map fun p=>(p.1,r p.2))
 | .load t a=>keep H (zeO P H t (r a))
 | .store t a x=>qV P H t (r a) (r x)
 | .nilCheck x=>keep H (fV P (r x))
 | .binOp op t x y _=>keep H (jE P op t (r x) (r y))
 | .unOp op _ x=>keep H (PU op (r x))
 | .convert s d x=>bL P H s d (r x)
 | .makeInterface t x=>match P.underlying t with
  | some (.interface _)=>none
  | some _=>keep H (some (.ifc t (r x)))
  | none=>none
 | .makeFunc f a b=>keep H (some (.fn f (a.toList.map r) (b.toList.map r)))
 | .makeMap t none=>some ⟨.mp H.n,H.push (.map [] 0),H.n⟩
 | .makeSlice t l c=>kX P H t (r l) (r c)
 | .slice t x l h m=>keep H (lH P t (r x) (l.map r) (h.map r) (m.map r))
 | .fieldAddr s x f=>keep H (dL P s (r x) f)
 | .field s x f=>keep H (Rk P s (r x) f)
 | .indexAddr t x i=>keep H (zv P t (r x) (r i))
 | .index t x i=>keep H (vN P t (r x) (r i))
 | .lookup t m k ok=>keep H (aO P H t (r m) (r k) ok)
 | .mapUpdate t m k v=>pj P H t (r m) (r k) (r v)
 | .insert t m k v=>pj P H t (r m) (r k) (r v)
 | .mapEntry t m k=>tO P H t (r m) (r k)
 | .entryStore t m s v=>c7 H (r m) (r s) (r v)
 | .typeAssert x _ t ok=>keep H (zft P (r x) t ok)
 | .extract x i=>keep H (J7 (r x) i)
 | .call c=>match c.callee with
  | .builtin .len=>match c.argTypes[0]?,c.args[0]? with
   | some t,some x=>keep H (qH P H t (r x))
   | _,_=>none
  | .builtin .cap=>match c.argTypes[0]?,c.args[0]? with
   | some t,some x=>keep H (KL P t (r x))
   | _,_=>none
  | .builtin .max=>match c.args.toList.map r with
   | x::rest=>keep H (kS J4 x rest)
   | []=>none
  | .builtin .min=>match c.args.toList.map r with
   | x::rest=>keep H (kS QN x rest)
   | []=>none
  | .builtin .append=>match c.argTypes[0]?,c.argTypes[1]?,c.args[0]?,c.args[1]? with
   | some t0,some t1,some s,some x=>DH P H t0 t1 (r s) (r x)
   | _,_,_,_=>none
  | .builtin .copy=>match c.argTypes[0]?,c.args[0]?,c.args[1]? with
   | some t0,some s,some x=>xO P H t0 (r s) (r x)
   | _,_,_=>none
  | .builtin .clear=>match c.argTypes[0]?,c.args[0]? with
   | some t0,some s=>GX P H t0 (r s)
   | _,_=>none
  | _=>none
 | _=>none
section
def RC(H:Heap)(b:Nat):Prop:=H.get b=some .dead
structure PH where
 P:Program
 hid:Nat->Prop
instance:Coe PH Program:=⟨PH.P⟩
def RE(P:PH)(s:Nat->Option Nat)(w:World)(g:Nat):Prop:=g<w.heap.size/\(∀b,s b≠some g)/\¬P.hid g
abbrev VH(P:PH)(s:Nat->Option Nat)(H:Heap)(w:World):V->Value->Prop:=VR (szP P) s (RC H) (RE P s w) w
abbrev UG(P:PH)(s:Nat->Option Nat)(H:Heap)(w:World):List V->List Value->Prop:=VRs (szP P) s (RC H) (RE P s w) w
def MRs(P:PH)(s:Nat->Option Nat)(H:Heap)(w:World):List (V×V×Nat)->List MapEntry->Prop
 | [],es=>es=[]
 | (k,v,b)::r,es=>∃e es',es=e::es'/\VH P s H w k e.key/\VH P s H w v e.val/\e.born=b/\MRs P s H w r es'
def FrOK(P:Program)(e:TypeId)(n:Nat)(fr:Nat×Nat):Prop:=(∀i,i<n->(decide (fr.1<=i)&&decide (i<fr.2))=false)/\(P.underlying e≠some (.int .u8)->(decide (fr.1<=n)&&decide (n<fr.2))=false)
theorem FrOK.zero{P:Program}{e:TypeId}{n:Nat}:FrOK P e n (0,0):=⟨fun i _=>by simp,fun _=>by simp⟩
def BR(P:PH)(s:Nat->Option Nat)(H:Heap)(w:World):Blk->Obj->Prop
 | .cells cs e,o=>∃arr fr,o=.cells arr e fr/\UG P s H w cs (arr.toList.take cs.length)/\FrOK P e arr.size fr
 | .map es clk,o=>∃arr,o=.map arr clk/\MRs P s H w es arr.toList
 | .loop tmps params assign body st pend,o=>∃l:Loop,o=.loop l/\l.params=params.toArray/\l.assign=assign/\l.body=body/\l.state=st/\l.pending=pend/\UG P s H w tmps l.tmps.toList
 | .dead,_=>False
structure HR(P:PH)(s:Nat->Option Nat)(H:Heap)(w:World):Prop where
 dom:∀b g,s b=some g->∃B o,H.get b=some B/\w.heap[g]?=some o/\BR P s H w B o
 inj:∀b b' g,s b=some g->s b'=some g->b=b'
structure Ext(lo:Nat)(s:Nat->Option Nat)(H:Heap)(w:World)(s':Nat->Option Nat)(H':Heap)(w':World):Prop where
 os:w'.os=w.os
 tape:w'.tape=w.tape
 output:w'.output=w.output
 size:w.heap.size<=w'.heap.size
 hn:H.n<=H'.n
 dd:∀b,RC H b->RC H' b
 ss:∀b g,s b=some g->s' b=some g\/(RC H' b/\lo<=b)
 frame:∀g,g<w.heap.size->(∀b,s b=some g->b<lo)->w'.heap[g]?=w.heap[g]?
 fresh:∀b g,s' b=some g->s b=some g\/(H.n<=b/\(w.heap.size<=g\/∃b0,lo<=b0/\s b0=some g))
 shp:∀g x,w.shape? g=some x->w'.shape? g=some x
 old:∀b,b<lo->b<H.n->H'.get b=H.get b
 cov:∀b,H.n<=b->b<H'.n->RC H' b\/∃g,s' b=some g
section
variable {P:PH} {s s' s2:Nat->Option Nat} {H H' H2:Heap} {w w' w2:World} {lo lo':Nat}
theorem HR.lt(h:HR P s H w){b g:Nat}(hb:s b=some g):b<H.n/\g<w.heap.size:=by
 obtain⟨B,o,h1,h2,_⟩:=h.dom b g hb
 refine⟨Heap.get_lt h1,?_⟩
 rcases RA g w.heap.size with h'|h'
 ·exact h'
 ·simp[FD h'] at h2
theorem HR.alive(h:HR P s H w){b g:Nat}(hb:s b=some g):¬RC H b:=by
 obtain⟨B,o,h1,h2,h3⟩:=h.dom b g hb
 intro hd
 rw[RC,h1] at hd
 injection hd with hd
 subst hd
 exact h3
theorem Ext.grow(E:Ext lo s H w s' H' w'):HL s s' (RC H) (RC H') (RE P s w) (RE P s' w') w w' where
 hd:=E.dd
 hs:=fun b g h=>(E.ss b g h).imp id (·.1)
 hp:=fun g ⟨h1,h2,h0⟩=>⟨vB h1 E.size,(fun b hb=>by
  rcases E.fresh b g hb with h|⟨_,h|⟨b0,_,h⟩⟩
  ·exact h2 _ h
  ·omega
  ·exact h2 _ h),h0⟩
 hw:=fun g ⟨h1,h2,_⟩=>Sf (E.frame g h1 fun b hb=>absurd hb (h2 b))
 hz:=E.shp
theorem Ext.vh(E:Ext lo s H w s' H' w'){v:V}{c:Value}(h:VH P s H w v c):VH P s' H' w' v c:=VR.mono E.grow v c h
theorem Ext.vhs(E:Ext lo s H w s' H' w'){vs:List V}{cs:List Value}(h:UG P s H w vs cs):UG P s' H' w' vs cs:=VRs.mono E.grow vs cs h
theorem Ext.refl(s:Nat->Option Nat)(H:Heap)(w:World):Ext H.n s H w s H w:=
 ⟨rfl,rfl,rfl,jA _,jA _,fun _ h=>h,fun _ _ h=>.inl h,fun _ _ _=>rfl,fun _ _ h=>.inl h,fun _ _ h=>h,fun _ _ _=>rfl,fun b h h'=>by omega⟩
theorem Ext.drew(s:Nat->Option Nat)(H:Heap)(w:World):Ext H.n s H w s H w.drew:=
 ⟨rfl,rfl,rfl,jA _,jA _,fun _ h=>h,fun _ _ h=>.inl h,fun _ _ _=>rfl,fun _ _ h=>.inl h,fun _ _ h=>h,fun _ _ _=>rfl,fun b h h'=>by omega⟩
theorem Ext.trans(hw:∀b g,s b=some g->b<H.n)(E:Ext lo s H w s' H' w')(F:Ext lo' s' H' w' s2 H2 w2):Ext (min lo lo') s H w s2 H2 w2 where
 os:=F.os.trans E.os
 tape:=F.tape.trans E.tape
 output:=F.output.trans E.output
 size:=cB E.size F.size
 hn:=cB E.hn F.hn
 dd:=fun b h=>F.dd b (E.dd b h)
 ss:=fun b g h=>by
  rcases E.ss b g h with h1|⟨h1,h2⟩
  ·rcases F.ss b g h1 with h3|⟨h3,h4⟩
   ·exact .inl h3
   ·exact .inr ⟨h3,by omega⟩
  ·exact .inr ⟨F.dd b h1,by omega⟩
 frame:=fun g hg hb=>by
  rw[F.frame g (vB hg E.size) ?_,E.frame g hg fun b h=>by have:=hb b h;omega]
  intro b h
  rcases E.fresh b g h with h1|⟨_,h1|⟨b0,h1,h2⟩⟩
  ·have:=hb b h1;omega
  ·omega
  ·have:=hb b0 h2;omega
 fresh:=fun b g h=>by
  rcases F.fresh b g h with h1|⟨h0,h1⟩
  ·rcases E.fresh b g h1 with h2|⟨h2,h3⟩
   ·exact .inl h2
   ·refine .inr ⟨h2,?_⟩
    rcases h3 with h3|⟨b0,h3,h4⟩
    ·exact .inl h3
    ·exact .inr ⟨b0,by omega,h4⟩
  ·refine .inr ⟨cB E.hn h0,?_⟩
   rcases h1 with h1|⟨b0,h1,h2⟩
   ·exact .inl (cB E.size h1)
   ·rcases E.fresh b0 g h2 with h3|⟨_,h3|⟨b1,h3,h4⟩⟩
    ·exact .inr ⟨b0,by omega,h3⟩
    ·exact .inl h3
    ·exact .inr ⟨b1,by omega,h4⟩
 shp:=fun g x h=>F.shp g x (E.shp g x h)
 old:=fun b h hn=>by
  rw[F.old b (by omega) (vB hn E.hn),E.old b (by omega) hn]
 cov:=fun b h1 h2=>by
  by_cases h:b<H'.n
  ·rcases E.cov b h1 h with h3|⟨g,h3⟩
   ·exact .inl (F.dd b h3)
   ·rcases F.ss b g h3 with h4|⟨h4,_⟩
    ·exact .inr ⟨g,h4⟩
    ·exact .inl h4
  ·exact F.cov b (by omega) h2
theorem Ext.weak(E:Ext lo s H w s' H' w'){l:Nat}(h:l<=lo):Ext l s H w s' H' w' where
 os:=E.os
 tape:=E.tape
 output:=E.output
 size:=E.size
 hn:=E.hn
 dd:=E.dd
 ss:=fun b g h'=>(E.ss b g h').imp id fun⟨a,c⟩=>⟨a,cB h c⟩
 frame:=fun g hg hb=>E.frame g hg fun b h'=>vB (hb b h') h
 fresh:=fun b g h'=>(E.fresh b g h').imp id fun⟨a,c⟩=>⟨a,c.imp id fun⟨b0,x,y⟩=>⟨b0,cB h x,y⟩⟩
 shp:=E.shp
 old:=fun b hb=>E.old b (vB hb h)
 cov:=E.cov
theorem MRs.mono(E:HL s s' (RC H) (RC H') (RE P s w) (RE P s' w') w w'):∀{es:List (V×V×Nat)} {as0:List MapEntry},MRs P s H w es as0->MRs P s' H' w' es as0
 | [],as0,h=>h
 | (k,v,b)::r,as0,h=>by
  obtain⟨e,es',he,h1,h2,h3,h4⟩:=h
  exact⟨e,es',he,VR.mono E _ _ h1,VR.mono E _ _ h2,h3,MRs.mono E h4⟩
theorem BR.mono(E:HL s s' (RC H) (RC H') (RE P s w) (RE P s' w') w w'){B:Blk}{o:Obj}(h:BR P s H w B o):BR P s' H' w' B o:=by
 cases B with
 | cells cs e=>
  obtain⟨arr,fr,h1,h2,h3⟩:=h
  exact⟨arr,fr,h1,VRs.mono E _ _ h2,h3⟩
 | map es clk=>
  obtain⟨arr,h1,h2⟩:=h
  exact⟨arr,h1,h2.mono E⟩
 | loop tmps params assign body st pend=>
  obtain⟨l,h0,h2,h3,h4,h5,h6,h7⟩:=h
  exact⟨l,h0,h2,h3,h4,h5,h6,VRs.mono E _ _ h7⟩
 | dead=>exact h
theorem j7(h:HR P s H w){B:Blk}{o:Obj}(hB:BR P s H w B o):
  HR P (fun b=>if b=H.n then some w.heap.size else s b) (H.push B) (w.alloc o)/\
  Ext H.n s H w (fun b=>if b=H.n then some w.heap.size else s b) (H.push B) (w.alloc o):=by
 have hB0:B≠.dead:=by intro e;subst e;exact hB
 have hnone:s H.n=none:=by
  cases e:s H.n with
  | none=>rfl
  | some g=>have:=(h.lt e).1;omega
 have E:Ext H.n s H w (fun b=>if b=H.n then some w.heap.size else s b) (H.push B) (w.alloc o):=by
  refine⟨rfl,rfl,rfl,by simp,by rw[Heap.n_push];omega,fun b hb=>?_,fun b g hb=>.inl ?_,fun g hg _=>?_,fun b g hb=>?_,fun g x hx=>?_,fun b _ hn=>?_,fun b h1 h2=>.inr ⟨w.heap.size,if_pos (by rw[Heap.n_push] at h2;omega)⟩⟩
  ·have:=Heap.get_lt hb
   show(H.push B).get b=_
   rw[Heap.get_push,if_neg (by omega)];exact hb
  ·have:=(h.lt hb).1
   show(if b=H.n then _ else _)=_
   rw[if_neg (by omega)];exact hb
  ·show(w.heap.push o)[g]?=_
   rw[qD,if_neg (by omega)]
  ·by_cases e:b=H.n
   ·rw[if_pos e] at hb
    injection hb with hb
    exact .inr ⟨by omega,.inl (by omega)⟩
   ·rw[if_neg e] at hb
    exact .inl hb
  ·have hg:g<w.heap.size:=by
    rcases RA g w.heap.size with h'|h'
    ·exact h'
    ·simp[XB,FD h'] at hx
   simp only[XB] at hx ⊢
   show(match (w.heap.push o)[g]? with|some (.cells c elem _)=>_|_=>_)=_
   rw[qD,if_neg (by omega)];exact hx
  ·rw[Heap.get_push,if_neg (by omega)]
 refine⟨⟨fun b g hb=>?_,fun b b' g hb hb'=>?_⟩,E⟩
 ·by_cases e:b=H.n
  ·rw[if_pos e] at hb
   injection hb with hb
   subst hb
   refine⟨B,o,by rw[Heap.get_push,if_pos e],?_,hB.mono E.grow⟩
   show(w.heap.push o)[w.heap.size]?=_
   simp
  ·rw[if_neg e] at hb
   obtain⟨B',o',h1,h2,h3⟩:=h.dom b g hb
   refine⟨B',o',by rw[Heap.get_push,if_neg e];exact h1,?_,h3.mono E.grow⟩
   show(w.heap.push o)[g]?=_
   have:=(h.lt hb).2
   rw[qD,if_neg (by omega)];exact h2
 ·have key:∀x,(if x=H.n then some w.heap.size else s x)=some g->x=H.n/\g=w.heap.size\/x≠H.n/\s x=some g:=by
   intro x hx
   by_cases e:x=H.n
   ·rw[if_pos e] at hx;injection hx with hx;exact .inl ⟨e,hx.symm⟩
   ·rw[if_neg e] at hx;exact .inr ⟨e,hx⟩
  rcases key b hb with⟨e1,e2⟩|⟨e1,e2⟩<;>rcases key b' hb' with⟨f1,f2⟩|⟨f1,f2⟩
  ·omega
  ·have:=(h.lt f2).2;omega
  ·have:=(h.lt e2).2;omega
  ·exact h.inj b b' g e2 f2
def put(w:World)(g:Nat)(o:Obj):World:={ w with heap:=w.heap.setIfInBounds g o }
theorem ZN(w:World)(g:Nat)(o:Obj)(i:Nat):(put w g o).heap[i]?=if i=g/\g<w.heap.size then some o else w.heap[i]?:=by
 show(w.heap.setIfInBounds g o)[i]?=_
 rw[Array.getElem?_setIfInBounds]
 by_cases e:g=i
 ·subst e;by_cases l:g<w.heap.size<;>simp[l]
 ·have:¬i=g:=fun h=>e h.symm
  simp[e,this]
theorem A7(w:World)(g:Nat)(o:Obj):(put w g o).heap.size=w.heap.size:=by simp[put]
theorem d7(h:HR P s H w){b g:Nat}(hb:s b=some g){B:Blk}{o o0:Obj}(ho:w.heap[g]?=some o0)(hB:BR P s H w B o)
  (hs:∀x,XB w g=some x->XB (put w g o) g=some x):HR P s (H.set b B) (put w g o)/\Ext b s H w s (H.set b B) (put w g o):=by
 obtain⟨hb1,hg1⟩:=h.lt hb
 have hB0:B≠.dead:=by intro e;subst e;exact hB
 have E:Ext b s H w s (H.set b B) (put w g o):=by
  refine⟨rfl,rfl,rfl,by rw[A7];omega,by rw[Heap.n_set];omega,fun x hx=>?_,fun x y hx=>.inl hx,fun y hy hx=>?_,fun x y hx=>.inl hx,fun y x hx=>?_,fun x hx _=>?_,fun x h1 h2=>by rw[Heap.n_set] at h2;omega⟩
  ·show(H.set b B).get x=_
   rw[Heap.get_set]
   by_cases e:x=b
   ·subst e;exact absurd hx (h.alive hb)
   ·rw[if_neg (fun h=>e h.1)];exact hx
  ·rw[ZN,if_neg]
   rintro⟨rfl,_⟩
   have:=hx b hb
   omega
  ·by_cases e:y=g
   ·subst e;exact hs x hx
   ·simp only[XB] at hx ⊢
    rw[ZN,if_neg (fun h=>e h.1)];exact hx
  ·rw[Heap.get_set,if_neg (fun h=>by omega)]
 refine⟨⟨fun x y hx=>?_,h.inj⟩,E⟩
 by_cases e:x=b
 ·subst e
  have:y=g:=by rw[hb] at hx;injection hx with hx;exact hx.symm
  subst this
  exact⟨B,o,by rw[Heap.get_set,if_pos ⟨rfl,hb1⟩],by rw[ZN,if_pos ⟨rfl,hg1⟩],hB.mono E.grow⟩
 ·obtain⟨B',o',h1,h2,h3⟩:=h.dom x y hx
  have hy:y≠g:=fun hy=>e (h.inj x b y hx (hy▸hb))
  exact⟨B',o',by rw[Heap.get_set,if_neg (fun h=>e h.1)];exact h1,by rw[ZN,if_neg (fun h=>hy h.1)];exact h2,h3.mono E.grow⟩
theorem zp1(h:HR P s H w){b g:Nat}(hb:s b=some g){B:Blk}{o o0:Obj}(ho:w.heap[g]?=some o0)(hB:BR P s H w B o)
  (hs:∀x,XB w g=some x->XB (put w g o) g=some x):
  HR P (fun x=>if x=H.n then some g else if x=b then none else s x) ((H.push B).set b .dead) (put w g o)/\
  Ext b s H w (fun x=>if x=H.n then some g else if x=b then none else s x) ((H.push B).set b .dead) (put w g o):=by
 obtain⟨hb1,hg1⟩:=h.lt hb
 have hB0:B≠.dead:=by intro e;subst e;exact hB
 have hget:∀x,((H.push B).set b .dead).get x=if x=b then some .dead else if x=H.n then some B else H.get x:=by
  intro x
  rw[Heap.get_set,Heap.get_push,Heap.n_push]
  by_cases e:x=b
  ·rw[if_pos ⟨e,by omega⟩,if_pos e]
  ·rw[if_neg (fun h=>e h.1),if_neg e]
 have E:Ext b s H w (fun x=>if x=H.n then some g else if x=b then none else s x) ((H.push B).set b .dead) (put w g o):=by
  refine⟨rfl,rfl,rfl,by rw[A7];omega,by rw[Heap.n_set,Heap.n_push];omega,fun x hx=>?_,fun x y hx=>?_,fun y hy hx=>?_,fun x y hx=>?_,fun y x hx=>?_,fun x hx hn=>?_,fun x h1 h2=>.inr ⟨g,if_pos (by rw[Heap.n_set,Heap.n_push] at h2;omega)⟩⟩
  ·have:=Heap.get_lt hx
   show _=_
   rw[hget]
   by_cases e:x=b
   ·rw[if_pos e]
   ·rw[if_neg e,if_neg (by omega)];exact hx
  ·have:=(h.lt hx).1
   by_cases e:x=b
   ·refine .inr ⟨?_,by omega⟩
    show _=_
    rw[hget,if_pos e]
   ·refine .inl ?_
    show(if x=H.n then _ else _)=_
    rw[if_neg (by omega),if_neg e];exact hx
  ·rw[ZN,if_neg]
   rintro⟨rfl,_⟩
   have:=hx b hb
   omega
  ·by_cases e:x=H.n
   ·rw[if_pos e] at hx
    injection hx with hx
    subst hx
    exact .inr ⟨by omega,.inr ⟨b,jA _,hb⟩⟩
   ·rw[if_neg e] at hx
    by_cases e':x=b
    ·rw[if_pos e'] at hx;cases hx
    ·rw[if_neg e'] at hx;exact .inl hx
  ·by_cases e:y=g
   ·subst e;exact hs x hx
   ·simp only[XB] at hx ⊢
    rw[ZN,if_neg (fun h=>e h.1)];exact hx
  ·rw[hget,if_neg (by omega),if_neg (by omega)]
 refine⟨⟨fun x y hx=>?_,fun x x' y hx hx'=>?_⟩,E⟩
 ·by_cases e:x=H.n
  ·rw[if_pos e] at hx
   injection hx with hx
   subst hx
   exact⟨B,o,by rw[hget,if_neg (by omega),if_pos e],by rw[ZN,if_pos ⟨rfl,hg1⟩],hB.mono E.grow⟩
  ·rw[if_neg e] at hx
   by_cases e':x=b
   ·rw[if_pos e'] at hx;cases hx
   ·rw[if_neg e'] at hx
    obtain⟨B',o',h1,h2,h3⟩:=h.dom x y hx
    have hy:y≠g:=fun hy=>e' (h.inj x b y hx (hy▸hb))
    exact⟨B',o',by rw[hget,if_neg e',if_neg e];exact h1,by rw[ZN,if_neg (fun h=>hy h.1)];exact h2,h3.mono E.grow⟩
 ·have key:∀z,(if z=H.n then some g else if z=b then none else s z)=some y->(z=H.n/\y=g)\/(z≠b/\s z=some y):=by
   intro z hz
   by_cases e:z=H.n
   ·rw[if_pos e] at hz;injection hz with hz;exact .inl ⟨e,hz.symm⟩
   ·rw[if_neg e] at hz
    by_cases e':z=b
    ·rw[if_pos e'] at hz;cases hz
    ·rw[if_neg e'] at hz;exact .inr ⟨e',hz⟩
  rcases key x hx with⟨e1,e2⟩|⟨e1,e2⟩<;>rcases key x' hx' with⟨f1,f2⟩|⟨f1,f2⟩
  ·omega
  ·subst e2;exact absurd (h.inj x' b y f2 hb) f1
  ·subst f2;exact absurd (h.inj x b y e2 hb) e1
  ·exact h.inj x x' y e2 f2
theorem zp2(h:HR P s H w){b g:Nat}(hb:s b=some g){B:Blk}{o:Obj}(hB:BR P s H w B o):
  HR P (fun x=>if x=H.n then some w.heap.size else if x=b then none else s x) ((H.push B).set b .dead) (w.alloc o)/\
  Ext b s H w (fun x=>if x=H.n then some w.heap.size else if x=b then none else s x) ((H.push B).set b .dead) (w.alloc o):=by
 obtain⟨hb1,hg1⟩:=h.lt hb
 have hB0:B≠.dead:=by intro e;subst e;exact hB
 have hget:∀x,((H.push B).set b .dead).get x=if x=b then some .dead else if x=H.n then some B else H.get x:=by
  intro x
  rw[Heap.get_set,Heap.get_push,Heap.n_push]
  by_cases e:x=b
  ·rw[if_pos ⟨e,by omega⟩,if_pos e]
  ·rw[if_neg (fun h=>e h.1),if_neg e]
 have hold:∀y,y<w.heap.size->(w.alloc o).heap[y]?=w.heap[y]?:=fun y hy=>by
  show(w.heap.push o)[y]?=_
  rw[qD,if_neg (by omega)]
 have E:Ext b s H w (fun x=>if x=H.n then some w.heap.size else if x=b then none else s x) ((H.push B).set b .dead) (w.alloc o):=by
  refine⟨rfl,rfl,rfl,by simp,by rw[Heap.n_set,Heap.n_push];omega,fun x hx=>?_,fun x y hx=>?_,fun y hy hx=>hold y hy,fun x y hx=>?_,fun y x hx=>?_,fun x hx hn=>?_,fun x h1 h2=>.inr ⟨w.heap.size,if_pos (by rw[Heap.n_set,Heap.n_push] at h2;omega)⟩⟩
  ·have:=Heap.get_lt hx
   show _=_
   rw[hget]
   by_cases e:x=b
   ·rw[if_pos e]
   ·rw[if_neg e,if_neg (by omega)];exact hx
  ·have:=(h.lt hx).1
   by_cases e:x=b
   ·refine .inr ⟨?_,by omega⟩
    show _=_
    rw[hget,if_pos e]
   ·refine .inl ?_
    show(if x=H.n then _ else _)=_
    rw[if_neg (by omega),if_neg e];exact hx
  ·by_cases e:x=H.n
   ·rw[if_pos e] at hx
    injection hx with hx
    exact .inr ⟨by omega,.inl (by omega)⟩
   ·rw[if_neg e] at hx
    by_cases e':x=b
    ·rw[if_pos e'] at hx;cases hx
    ·rw[if_neg e'] at hx;exact .inl hx
  ·have hg:y<w.heap.size:=by
    rcases RA y w.heap.size with h'|h'
    ·exact h'
    ·simp[XB,FD h'] at hx
   simp only[XB] at hx ⊢
   rw[hold y hg];exact hx
  ·rw[hget,if_neg (by omega),if_neg (by omega)]
 refine⟨⟨fun x y hx=>?_,fun x x' y hx hx'=>?_⟩,E⟩
 ·by_cases e:x=H.n
  ·rw[if_pos e] at hx
   injection hx with hx
   subst hx
   refine⟨B,o,by rw[hget,if_neg (by omega),if_pos e],?_,hB.mono E.grow⟩
   show(w.heap.push o)[w.heap.size]?=_
   simp
  ·rw[if_neg e] at hx
   by_cases e':x=b
   ·rw[if_pos e'] at hx;cases hx
   ·rw[if_neg e'] at hx
    obtain⟨B',o',h1,h2,h3⟩:=h.dom x y hx
    exact⟨B',o',by rw[hget,if_neg e',if_neg e];exact h1,by rw[hold y (h.lt hx).2];exact h2,h3.mono E.grow⟩
 ·have key:∀z,(if z=H.n then some w.heap.size else if z=b then none else s z)=some y->(z=H.n/\y=w.heap.size)\/s z=some y:=by
   intro z hz
   by_cases e:z=H.n
   ·rw[if_pos e] at hz;injection hz with hz;exact .inl ⟨e,hz.symm⟩
   ·rw[if_neg e] at hz
    by_cases e':z=b
    ·rw[if_pos e'] at hz;cases hz
    ·rw[if_neg e'] at hz;exact .inr hz
  rcases key x hx with⟨e1,e2⟩|e2<;>rcases key x' hx' with⟨f1,f2⟩|f2
  ·omega
  ·have:=(h.lt f2).2;omega
  ·have:=(h.lt e2).2;omega
  ·exact h.inj x x' y e2 f2
end
end
section
section
variable {P:Program} {s:Nat->Option Nat} {d:Nat->Prop} {pr:Nat->Prop} {w:World}
theorem zA{t:TypeId}{x:TypeDesc}(h:P.underlying t=some x):(underlying t).run P w=.ok x w:=run_underlying h w
theorem uX{t:TypeId}{i:TypeInfo}(h:P.info? t=some i):(typeInfo t).run P w=.ok i w:=by
 simp[typeInfo,h]
theorem xK{t:TypeId}{n:Nat}(h:EF P t=some n):(sizeOf t).run P w=.ok n w:=by
 unfold EF at h
 obtain⟨i,hi,rfl⟩:=BA.1 h
 simp[sizeOf,uX hi]
theorem Xj{t:TypeId}{b:Bool}(h:uM P t=some b):(isAgg t).run P w=.ok b w:=by
 unfold uM at h
 split at h<;>simp_all [isAgg,zA]
theorem XN{t:TypeId}{i:TypeInfo}{z:Value}(h:P.info? t=some i)(hz:i.zero=some z):(zeroValue t).run P w=.ok z w:=by
 simp[zeroValue,uX h,hz]
theorem Xk(v:Value):VR (szP P) s d pr w (lN v) v:=by
 unfold lN
 split
 ·rename_i cs
  refine⟨cs,rfl,?_⟩
  refine VRs.mk (by simp) fun i v c hv hc=>?_
  simp only[List.getElem?_map,hc,Option.map_some,lA] at hv
  subst hv
  simp[VR]
 ·rename_i f xs ys
  split
  ·rename_i h
   refine⟨xs,ys,rfl,?_,?_⟩
   ·have:xs.toList=[]:=by simpa using h.1
    rw[this];simp[VRs]
   ·have:ys.toList=[]:=by simpa using h.2
    rw[this];simp[VRs]
  ·simp[VR]
 ·simp[VR]
theorem dg{v:V}{vs:List V}{c:Value}(h:zG v=some vs)(hv:VR (szP P) s d pr w v c):VRs (szP P) s d pr w vs c.cells.toList:=by
 have one:∀c:Value,(∀xs,c≠.agg xs)->VR (szP P) s d pr w v c->VRs (szP P) s d pr w [v] c.cells.toList:=by
  intro c hc hv
  have:c.cells=#[c]:=by cases c<;>first|rfl|exact absurd rfl (hc _)
  rw[this]
  exact⟨c,[],rfl,hv,by simp[VRs]⟩
 cases v with
 | agg cs=>
  simp only[zG,lA] at h
  subst h
  obtain⟨xs,rfl,h⟩:=hv
  exact h
 | lit x=>
  cases x<;>first
   | (simp only[zG] at h;cases h;done)
   | (simp only[zG,lA] at h;subst h;refine one c ?_ hv;intro xs e;simp only[VR] at hv;rw[e] at hv;cases hv)
 | ptr b off=>simp only[zG,lA] at h;subst h;refine one c ?_ hv;obtain⟨x,rfl,_⟩:=hv;intro xs e;cases e
 | gptr g off=>simp only[zG,lA] at h;subst h;refine one c ?_ hv;simp only[VR] at hv;subst hv;intro xs e;cases e
 | sl b off len cap opn=>simp only[zG,lA] at h;subst h;refine one c ?_ hv;obtain⟨x,cap',rfl,_⟩:=hv;intro xs e;cases e
 | zs=>simp only[zG,lA] at h;subst h;refine one c ?_ hv;obtain⟨x,rfl⟩:=hv;intro xs e;cases e
 | void=>simp only[zG,lA] at h;subst h;refine one c ?_ hv;obtain⟨x,cap',rfl⟩:=hv;intro xs e;cases e
 | mp b=>simp only[zG,lA] at h;subst h;refine one c ?_ hv;obtain⟨x,rfl,_⟩:=hv;intro xs e;cases e
 | ps cells len=>simp only[zG,lA] at h;subst h;refine one c ?_ hv;obtain⟨g,off,cap,cs,rfl,_⟩:=hv;intro xs e;cases e
 | pn cells len=>simp only[zG,lA] at h;subst h;refine one c ?_ hv;obtain⟨a,cap,rfl⟩:=zhE hv;intro xs e;cases e
 | pp cells=>simp only[zG,lA] at h;subst h;refine one c ?_ hv;obtain⟨g,off,cs,rfl,_⟩:=hv;intro xs e;cases e
 | fn f a b=>simp only[zG,lA] at h;subst h;refine one c ?_ hv;obtain⟨x,y,rfl,_⟩:=hv;intro xs e;cases e
 | yld b=>simp only[zG,lA] at h;subst h;refine one c ?_ hv;obtain⟨x,rfl,_⟩:=hv;intro xs e;cases e
 | ifc t v=>simp only[zG,lA] at h;subst h;refine one c ?_ hv;obtain⟨x,rfl,_⟩:=hv;intro xs e;cases e
 | tup vs=>simp only[zG,lA] at h;subst h;refine one c ?_ hv;obtain⟨x,rfl,_⟩:=hv;intro xs e;cases e
 | any=>simp[zG] at h
theorem PZ{v:V}{c:Value}(h:V.one v=true)(hv:VR (szP P) s d pr w v c):c.oneCell'=true:=by
 cases v with
 | agg cs=>simp[V.one] at h
 | tup cs=>simp[V.one] at h
 | any=>simp[V.one] at h
 | lit x=>simp only[VR] at hv;subst hv;cases c<;>first|rfl|simp[V.one] at h
 | ptr b off=>obtain⟨x,rfl,_⟩:=hv;rfl
 | gptr g off=>simp only[VR] at hv;subst hv;rfl
 | sl b off len cap opn=>obtain⟨x,cap',rfl,_⟩:=hv;rfl
 | zs=>obtain⟨x,rfl⟩:=hv;rfl
 | void=>obtain⟨x,cap',rfl⟩:=hv;rfl
 | mp b=>obtain⟨x,rfl,_⟩:=hv;rfl
 | ps cells len=>obtain⟨g,off,cap,cs,rfl,_⟩:=hv;rfl
 | pn cells len=>obtain⟨a,cap,rfl⟩:=zhE hv;rfl
 | pp cells=>obtain⟨g,off,cs,rfl,_⟩:=hv;rfl
 | fn f a b=>obtain⟨x,y,rfl,_⟩:=hv;rfl
 | yld b=>obtain⟨x,rfl,_⟩:=hv;rfl
 | ifc t v=>obtain⟨x,rfl,_⟩:=hv;rfl
theorem vg{vs:List V}{cs:List Value}(h:vs.all V.one=true)(hv:VRs (szP P) s d pr w vs cs):∀c∈cs,c.oneCell'=true:=by
 intro c hc
 obtain⟨i,hi⟩:=List.getElem?_of_mem hc
 have hl:=hv.length
 have hlt:i<vs.length:=by
  rcases RA i vs.length with h'|h'
  ·exact h'
  ·rw[List.getElem?_eq_none (by omega)] at hi;cases hi
 obtain⟨c',h1,h2⟩:=hv.get (List.getElem?_eq_getElem hlt)
 rw[hi] at h1
 injection h1 with h1
 subst h1
 exact PZ (List.all_eq_true.1 h _ (List.getElem_mem hlt)) h2
theorem yX{t:TypeId}{cells:List V}{off:Nat}{v:V}{cs:Array Value}(h:QE P t cells off=some v)(hv:VRs (szP P) s d pr w cells cs.toList):∃c,(part t cs off).run P w=.ok c w/\VR (szP P) s d pr w v c:=by
 simp only[QE,pA,nA] at h
 obtain⟨b,hb,h⟩:=h
 cases b with
 | true=>
  simp only[if_true,nA] at h
  obtain⟨n,hn,h⟩:=h
  split at h
  ·rename_i hl
   injection h with h
   subst h
   refine⟨.agg (cs.extract off (off+n)),by simp[part,Xj hb,xK hn],_,rfl,?_⟩
   have:(cs.extract off (off+n)).toList=(cs.toList.drop off).take n:=by
    simp[Array.toList_extract,List.extract]
   rw[this]
   exact(hv.drop off).take n
  ·cases h
 | false=>
  simp only[Bool.false_eq_true,if_false] at h
  obtain⟨c,h1,h2⟩:=hv.get h
  have h1':cs[off]?=some c:=by simpa using h1
  exact⟨c,by simp[part,Xj hb,h1'],h2⟩
theorem A2{cs new out:List V}{off:Nat}(h:zD cs off new=some out):off+new.length<=cs.length/\out=cs.take off++new++cs.drop (off+new.length):=by
 unfold zD at h
 split at h
 ·rename_i hl;injection h with h;exact⟨hl,h.symm⟩
 ·cases h
theorem zkH{cs new out:List V}{off:Nat}{xs ys:List Value}(h:zD cs off new=some out)(hv:VRs (szP P) s d pr w cs xs)(hn:VRs (szP P) s d pr w new ys):VRs (szP P) s d pr w out (xs.take off++ys++xs.drop (off+ys.length)):=by
 obtain⟨hl,rfl⟩:=A2 h
 rw[hn.length]
 exact((hv.take off).append hn).append (hv.drop _)
theorem zlw(off:Nat):∀(vc:List Value) (k:Nat) (cells:Array Value),off+k+vc.length<=cells.size->
  ((vc.zipIdx k).foldl (fun cs x=>cs.setIfInBounds (off+x.2) x.1) cells).toList=cells.toList.take (off+k)++vc++cells.toList.drop (off+k+vc.length)
 | [],k,cells,h=>by simp
 | v::vc,k,cells,h=>by
  simp only[List.zipIdx_cons,List.foldl_cons]
  rw[zlw off vc (k+1) _ (by simp at h ⊢;omega)]
  simp only[HA] at h
  apply List.ext_getElem?
  intro i
  have hk:off+k<cells.size:=by omega
  simp only[Array.toList_setIfInBounds]
  rw[ZE,ZE,ZE,ZE]
  simp only[List.length_append,List.length_take,List.length_set,Array.length_toList,xD,rC,List.getElem?_set,HA]
  have m1:min (off+(k+1)) cells.size=off+k+1:=by omega
  have m2:min (off+k) cells.size=off+k:=by omega
  rw[m1,m2]
  by_cases c1:i<off+k
  ·have:i<off+k+1:=by omega
   have:i<off+k+1+vc.length:=by omega
   have:i<off+k+(vc.length+1):=by omega
   have:i<off+(k+1):=by omega
   have:¬off+k=i:=by omega
   simp[*]
  ·by_cases c2:i=off+k
   ·subst c2
    have e1:off+k<off+k+1+vc.length:=by omega
    have e2:off+k<off+(k+1):=by omega
    simp[e1,e2,hk]
   ·by_cases c3:i<off+k+1+vc.length
    ·have e1:¬i<off+k+1:=by omega
     have e2:i<off+k+(vc.length+1):=by omega
     have e3:i-(off+k)=(i-(off+k+1))+1:=by omega
     simp[c1,c3,e1,e2,e3]
    ·have e1:¬i<off+k+1:=by omega
     have e2:¬i<off+k+(vc.length+1):=by omega
     have e4:off+(k+1)+vc.length+(i-(off+k+1+vc.length))=i:=by omega
     have e5:off+k+(vc.length+1)+(i-(off+k+(vc.length+1)))=i:=by omega
     have e6:¬off+k=i:=by omega
     simp[c3,e2,e4,e5,e6]
def PRs(P:Program)(s:Nat->Option Nat)(d:Nat->Prop)(pr:Nat->Prop)(w:World):List (Nat×V)->List (Nat×Value)->Prop
 | [],ys=>ys=[]
 | (i,v)::xs,ys=>∃c ys',ys=(i,c)::ys'/\VR (szP P) s d pr w v c/\PRs P s d pr w xs ys'
theorem PRs.map{r:Operand->V}{e:Operand->Value}(hr:∀x,VR (szP P) s d pr w (r x) (e x)):∀(l:List (Nat×Operand)),PRs P s d pr w (l.map fun p=>(p.1,r p.2)) (l.map fun p=>(p.1,e p.2))
 | []=>by simp[PRs]
 | p::l=>⟨_,_,rfl,hr _,PRs.map hr l⟩
theorem Dk(place:Nat->Option (Nat×Nat)):∀(ps:List (Nat×V)) (qs:List (Nat×Value)) (cells out:List V) (cs:Array Value),ZM place cells ps=some out->VRs (szP P) s d pr w cells cs.toList->PRs P s d pr w ps qs->
  ∃cs',Instr.fill place cs qs=some cs'/\VRs (szP P) s d pr w out cs'.toList
 | [],qs,cells,out,cs,h,hv,hp=>by
  simp only[ZM,lA] at h
  simp only[PRs] at hp
  subst h;subst hp
  exact⟨cs,rfl,hv⟩
 | (i,v)::ps,qs,cells,out,cs,h,hv,hp=>by
  obtain⟨c,qs',rfl,hc,hp⟩:=hp
  simp only[ZM,pA,nA] at h
  obtain⟨⟨off,sz⟩,hpl,vc,hvc,h⟩:=h
  split at h
  ·rename_i hsz
   obtain⟨c1,hsp,h⟩:=nA.1 h
   have hcells:=dg hvc hc
   have hlen:c.cells.size=vc.length:=by have:=hcells.length;simpa using this
   obtain⟨hl,_⟩:=A2 hsp
   have hcsz:cs.size=cells.length:=by have:=hv.length;simpa using this
   simp only at hsz hl
   have hgo:¬(c.cells.size≠sz||decide (off+c.cells.size>cs.size))=true:=by
    simp;omega
   simp only[Instr.fill,hpl]
   rw[if_neg hgo]
   refine Dk place ps qs' c1 out _ h ?_ hp
   have:=zkH hsp hv hcells
   have hf:=zlw off c.cells.toList 0 cs (by simp;omega)
   rw[<-Array.foldl_toList,Array.toList_zipIdx]
   have ef:(fun(cs:Array Value) (x:Value×Nat)=>match x with|(c,j)=>cs.setIfInBounds (off+j) c)=(fun cs x=>cs.setIfInBounds (off+x.2) x.1):=by
    funext cs x;rfl
   rw[ef,hf]
   simpa using this
  ·cases h
theorem zkY:∀(fs:List Field) (ps:List (Nat×Nat)),L2 P fs=some ps->(fs.mapM (m:=Sem) fun f=>do pure (f.offset,<-sizeOf f.type)).run P w=.ok ps w
 | [],ps,h=>by
  simp only[L2,lA] at h
  subst h
  simp
 | f::fs,ps,h=>by
  simp only[L2,pA,nA] at h
  obtain⟨n,hn,r,hr,h⟩:=h
  injection h with h
  subst h
  have ih:=zkY fs r hr
  simp only[List.mapM_cons,VA,xK hn,EA,xB,ih]
theorem HP{t:TypeId}{ps:List (Nat×V)}{qs:List (Nat×Value)}{v:V}(h:fL P t ps=some v)(hp:PRs P s d pr w ps qs):∃c,(Instr.build t qs.toArray).run P w=.ok c w/\VR (szP P) s d pr w v c:=by
 simp only[fL,zE,pA,nA] at h
 obtain⟨zc,⟨i,hi,z,hz,hzc⟩,h⟩:=h
 have hzr:VRs (szP P) s d pr w zc z.cells.toList:=dg hzc (Xk z)
 split at h
 ·rename_i fields hu
  obtain⟨ps',hps,h⟩:=nA.1 h
  obtain⟨c,hc,h⟩:=nA.1 h
  injection h with h
  subst h
  obtain⟨cs',h1,h2⟩:=Dk (fun i=>ps'[i]?) ps qs zc c z.cells hc hzr hp
  have hpl:=zkY (w:=w) fields.toList ps' hps
  refine⟨.agg cs',?_,cs',rfl,h2⟩
  have hm:(fields.mapM (m:=Sem) fun f=>do pure (f.offset,<-sizeOf f.type)).run P w=.ok ps'.toArray w:=by
   rw[<-Array.toArray_toList (xs:=fields),List.mapM_toArray]
   simp only[Sem.run_map]
   rw[show(fields.toList.toArray.toList)=fields.toList by simp] at *
   rw[hpl]
   simp
  simp only[Instr.build,VA,XN hi hz,EA,zA hu,hm]
  have:(fun x:Nat=>ps'.toArray[x]?)=fun i=>ps'[i]?:=by funext x;simp
  rw[this,h1]
  simp
 ·rename_i n elem hu
  obtain⟨sz,hsz,h⟩:=nA.1 h
  obtain⟨c,hc,h⟩:=nA.1 h
  injection h with h
  subst h
  obtain⟨cs',h1,h2⟩:=Dk (fun i=>some (i*sz,sz)) ps qs zc c z.cells hc hzr hp
  refine⟨.agg cs',?_,cs',rfl,h2⟩
  simp only[Instr.build,VA,XN hi hz,EA,zA hu,xK hsz,h1,xB]
 ·cases h
end
end
section
section
variable {P:Program} {s:Nat->Option Nat} {d:Nat->Prop} {pr:Nat->Prop} {w:World}
theorem ziy(n:Nat)(eq:TypeId->V->V->Option Bool)(m:Nat)
  (ih:∀(t:TypeId) (x y:V) (r:Bool) (cx cy:Value),eq t x y=some r->VR (szP P) s d pr w x cx->VR (szP P) s d pr w y cy->(WC m t cx cy).run P w=.ok r w)
  (xs ys:List V) (cx cy:Array Value) (hx:VRs (szP P) s d pr w xs cx.toList) (hy:VRs (szP P) s d pr w ys cy.toList):
  ∀(fs:List Field) (r:Bool),S1 P eq xs ys fs=some r->(Op.eqFields m cx cy fs).run P w=.ok r w
 | [],r,h=>by
  simp only[S1,lA] at h
  subst h
  simp[Op.eqFields]
 | f::fs,r,h=>by
  simp only[S1] at h
  split at h
  ·cases h
  ·rename_i hn
   simp only[pA,nA] at h
   obtain⟨a,ha,b,hb,q,hq,h⟩:=h
   obtain⟨ca,ha1,ha2⟩:=yX (w:=w) ha hx
   obtain⟨cb,hb1,hb2⟩:=yX (w:=w) hb hy
   have hq':=ih _ _ _ _ _ _ hq ha2 hb2
   simp only[Op.eqFields,ne_eq,hn,not_false_eq_true,if_true,VA,ha1,hb1,hq',EA]
   cases q with
   | false=>simp at h;subst h;simp
   | true=>
    simp only[if_true] at h
    simpa using ziy n eq m ih xs ys cx cy hx hy fs r h
theorem zjy(eq:V->V->Option Bool)(elem:TypeId)(c m:Nat)
  (ih:∀(x y:V) (r:Bool) (cx cy:Value),eq x y=some r->VR (szP P) s d pr w x cx->VR (szP P) s d pr w y cy->(WC m elem cx cy).run P w=.ok r w)
  (xs ys:List V) (cx cy:Array Value) (hx:VRs (szP P) s d pr w xs cx.toList) (hy:VRs (szP P) s d pr w ys cy.toList):
  ∀(l i:Nat) (r:Bool),YU P eq elem c xs ys l i=some r->(Op.eqItems m elem c cx cy (List.range' i l)).run P w=.ok r w
 | 0,i,r,h=>by
  simp only[YU,lA] at h
  subst h
  simp[Op.eqItems]
 | l+1,i,r,h=>by
  simp only[YU,pA,nA] at h
  obtain⟨a,ha,b,hb,q,hq,h⟩:=h
  obtain⟨ca,ha1,ha2⟩:=yX (w:=w) ha hx
  obtain⟨cb,hb1,hb2⟩:=yX (w:=w) hb hy
  have hq':=ih _ _ _ _ _ hq ha2 hb2
  simp only[List.range'_succ,Op.eqItems,VA,ha1,hb1,hq',EA]
  cases q with
  | false=>simp at h;subst h;simp
  | true=>
   simp only[if_true] at h
   simpa using zjy eq elem c m ih xs ys cx cy hx hy l (i+1) r h
theorem zlN(a b:ByteArray):(a==b)=(bytes a==bytes b):=by
 rw[beq_toListBytes,ByteArray.toList_eq,ByteArray.toList_eq];rfl
theorem Gg:∀(n:Nat) (t:TypeId) (x y:V) (r:Bool) (cx cy:Value),UJ P n t x y=some r->VR (szP P) s d pr w x cx->VR (szP P) s d pr w y cy->
  ∀m,n<=m->(WC m t cx cy).run P w=.ok r w
 | 0,t,x,y,r,cx,cy,h,_,_,m,_=>by simp[UJ] at h
 | n+1,t,x,y,r,cx,cy,h,hx,hy,0,hm=>by omega
 | n+1,t,x,y,r,cx,cy,h,hx,hy,m+1,hm=>by
  simp only[UJ] at h
  split at h
  ·rename_i hu
   split at h
   ·simp only[VR] at hx hy;subst hx;subst hy
    injection h with h;subst h
    simp[WC,zA hu]
   ·cases h
  ·rename_i hu
   split at h
   ·simp only[VR] at hx hy;subst hx;subst hy
    split at h
    ·rename_i hk;subst hk;injection h with h;subst h
     simp[WC,zA hu]
    ·cases h
   ·cases h
  ·rename_i hu
   split at h
   ·simp only[VR] at hx hy;subst hx;subst hy
    injection h with h;subst h
    simp[WC,zA hu,zlN]
   ·cases h
  ·rename_i fields hu
   split at h
   ·obtain⟨ax,rfl,hx⟩:=hx
    obtain⟨ay,rfl,hy⟩:=hy
    split at h
    ·cases h
    ·rename_i hs
     have hf:P.fieldsOf t=fields:=by simp[Program.fieldsOf,hu]
     rw[run_equalIn_struct w m t ax ay (by rw[hf];exact hu) (by simpa using hs),hf]
     exact ziy n (UJ P n) m (fun t x y r cx cy h1 h2 h3=>Gg n t x y r cx cy h1 h2 h3 m (by omega)) _ _ ax ay hx hy _ r h
   ·cases h
  ·rename_i len elem hu
   split at h
   ·obtain⟨ax,rfl,hx⟩:=hx
    obtain⟨ay,rfl,hy⟩:=hy
    simp only[pA,nA] at h
    obtain⟨c,hc,h⟩:=h
    have hc0:=hc
    unfold EF at hc
    obtain⟨i,hi,rfl⟩:=BA.1 hc
    have hce:P.cellsOf elem=i.size:=by simp[Program.cellsOf,hi]
    rw[run_equalIn_array w m ax ay hu hi,hce,List.range_eq_range']
    exact zjy (UJ P n elem) elem i.size m (fun x y r cx cy h1 h2 h3=>Gg n elem x y r cx cy h1 h2 h3 m (by omega)) _ _ ax ay hx hy len 0 r h
   ·cases h
  ·rename_i e hu
   split at h
   all_goals (first|(cases h;done)|(injection h with h;subst h))
   ·simp only[VR] at hx hy;subst hx;subst hy;simp[WC,zA hu]
   ·simp only[VR] at hx;subst hx
    obtain⟨q,rfl,hq⟩:=hy
    simp[WC,zA hu]
   ·simp only[VR] at hx;subst hx
    obtain⟨g,off,cs,rfl,_⟩:=hy
    simp[WC,zA hu]
   ·simp only[VR] at hy;subst hy
    obtain⟨q,rfl,hq⟩:=hx
    simp[WC,zA hu]
   ·simp only[VR] at hy;subst hy
    obtain⟨g,off,cs,rfl,_⟩:=hx
    simp[WC,zA hu]
  ·rename_i e hu
   split at h
   all_goals (first|(cases h;done)|(injection h with h;subst h))
   ·simp only[VR] at hx hy;subst hx;subst hy;simp[WC,zA hu]
   ·simp only[VR] at hy;subst hy
    obtain⟨q,cap',rfl,hq⟩:=hx
    simp[WC,zA hu]
   ·simp only[VR] at hy;subst hy
    obtain⟨g,off,cap,cs,rfl,_⟩:=hx
    simp[WC,zA hu]
   ·simp only[VR] at hy;subst hy
    obtain⟨a,rfl⟩:=hx
    simp[WC,zA hu]
   ·simp only[VR] at hy;subst hy
    obtain⟨a,cap,rfl⟩:=hx
    simp[WC,zA hu]
  ·rename_i k e hu
   split at h
   all_goals (first|(cases h;done)|(injection h with h;subst h))
   ·simp only[VR] at hx hy;subst hx;subst hy;simp[WC,zA hu]
   ·simp only[VR] at hy;subst hy
    obtain⟨q,rfl,hq⟩:=hx
    simp[WC,zA hu]
  ·rename_i a b c hu
   split at h
   all_goals (first|(cases h;done)|(injection h with h;subst h))
   ·simp only[VR] at hx hy;subst hx;subst hy;simp[WC,zA hu]
   ·simp only[VR] at hy;subst hy
    obtain⟨xs,ys,rfl,_⟩:=hx
    simp[WC,zA hu]
  ·rename_i a hu
   split at h
   all_goals (first|(cases h;done)|(injection h with h;subst h))
   ·simp only[VR] at hy;subst hy
    obtain⟨q,rfl,_⟩:=hx
    simp[WC,zA hu]
   ·simp only[VR] at hx;subst hx
    obtain⟨q,rfl,_⟩:=hy
    simp[WC,zA hu]
  ·cases h
end
end
section
section
variable {P:Program} {s:Nat->Option Nat} {d:Nat->Prop} {pr:Nat->Prop} {w:World}
theorem zmz(op:BinOp)(t:TypeId)(ox oy:Operand)(k k':IntKind)(a b:Int):(eqGuard op t ox oy (.int k a) (.int k' b)).run P w=.ok () w:=by
 cases op<;>simp[eqGuard]
theorem zmy(op:BinOp)(t:TypeId)(ox oy:Operand)(a b:ByteArray):(eqGuard op t ox oy (.string a) (.string b)).run P w=.ok () w:=by
 cases op<;>simp[eqGuard]
theorem zpY{op:BinOp}{t:TypeId}{k:IntKind}{a b:Int}{v:Value}(h1:op≠.shl)(h2:op≠.shr)(h:WL op k a b=some v):(binOp op t (.int k a) (.int k b)).run P w=.ok v w:=by
 cases op
 case shl=>exact absurd rfl h1
 case shr=>exact absurd rfl h2
 case quo=>
  simp only[WL] at h
  split at h
  ·cases h
  ·rename_i hb;injection h with h;subst h;simp[binOp,Op.intDiv,hb]
 case rem=>
  simp only[WL] at h
  split at h
  ·cases h
  ·rename_i hb;injection h with h;subst h;simp[binOp,Op.intDiv,hb]
 all_goals
  simp only[WL,lA] at h
  subst h
  simp[binOp,Op.intArith,Op.intBits,Op.intCmp]
theorem zmZ{op:BinOp}{t:TypeId}{k k':IntKind}{a b:Int}{v:Value}(ho:op=.shl\/op=.shr)(h:w7 op k a b=some v):(binOp op t (.int k a) (.int k' b)).run P w=.ok v w:=by
 simp only[w7] at h
 split at h
 ·cases h
 ·rename_i hb
  rcases ho with rfl|rfl
  ·simp only[lA] at h;subst h;simp[binOp,Op.shift,hb]
  ·simp only[lA] at h;subst h;simp[binOp,Op.shift,hb]
theorem zpb{op:BinOp}{t:TypeId}{a b:ByteArray}{v:Value}(h:S3 op a b=some v):(binOp op t (.string a) (.string b)).run P w=.ok v w:=by
 cases op
 case add=>
  simp only[S3] at h
  split at h
  ·rename_i hl
   injection h with h;subst h
   have hle:¬(((a.size+b.size:Nat):Int)>IntKind.i64.max):=by
    have:IntKind.i64.max=9223372036854775807:=by decide
    rw[this];omega
   simp only[binOp,Op.stringOp]
   rw[if_neg hle]
   rfl
  ·cases h
 all_goals
  simp only[S3] at h
  first
   | (cases h;done)
   | (injection h with h;subst h;simp[binOp,Op.stringOp,ByteArray.toList_eq,bytes])
theorem NP{v:V}{c:Value}(h:VR (szP P) s d pr w v c)(h9:LL v≠99):WK c=LL v:=by
 cases v<;>simp only[VR] at h
 case any=>exact absurd rfl h9
 case lit=>subst h;rfl
 case ptr=>obtain⟨x,rfl,_⟩:=h;rfl
 case gptr=>subst h;rfl
 case sl=>obtain⟨x,cap',rfl,_⟩:=h;rfl
 case zs=>obtain⟨x,rfl⟩:=h;rfl
 case void=>obtain⟨x,cap',rfl⟩:=h;rfl
 case mp=>obtain⟨x,rfl,_⟩:=h;rfl
 case ps=>obtain⟨g,off,cap,cs,rfl,_⟩:=h;rfl
 case pn=>obtain⟨a,cap,rfl⟩:=zhE (z:=szP P) (s:=s) (d:=d) (pr:=pr) (w:=w) h;rfl
 case pp=>obtain⟨g,off,cs,rfl,_⟩:=h;rfl
 case fn=>obtain⟨x,y,rfl,_⟩:=h;rfl
 case yld=>obtain⟨x,rfl,_⟩:=h;rfl
 case ifc=>obtain⟨x,rfl,_⟩:=h;rfl
 case agg=>obtain⟨x,rfl,_⟩:=h;rfl
 case tup=>obtain⟨x,rfl,_⟩:=h;rfl
theorem zlG(op:BinOp)(t:TypeId)(ox oy:Operand)(cx cy:Value)(h1:¬(WK cx=13/\WK cy=13))(h2:¬(WK cx=12/\WK cy=12)):(eqGuard op t ox oy cx cy).run P w=.ok () w:=by
 have e:(match cx,cy with
   | .nilIface,.nilIface=>(do
    if(ox matches .const _)||(oy matches .const _) then return
    if ← Op.eqGuardIn Op.maxDepth t cx cy then unsupported (.noEntry "binop/eql: two nil values of an interface type with methods, neither of them the literal nil") : Sem Unit)
   | .agg _,.agg _=>do
    if !(<-program).eqGuardType (<-program).depth t then return
    if ← Op.eqGuardIn Op.maxDepth t cx cy then unsupported (.noEntry "binop/eql: two nil values of an interface type with methods, in a part of a struct or an array")
   | _,_=>pure ())=pure ():=by
  split
  ·exact absurd ⟨rfl,rfl⟩ h2
  ·exact absurd ⟨rfl,rfl⟩ h1
  ·rfl
 cases op<;>first
  | (simp[eqGuard];done)
  | (simp only[eqGuard];(try simp only[Bool.not_true,Bool.false_eq_true,if_false]);split<;>first|rfl|exact absurd ⟨rfl,rfl⟩ h1|exact absurd ⟨rfl,rfl⟩ h2)
theorem binOp_eql(t:TypeId)(cx cy:Value)(h:¬(WK cx=WK cy/\(WK cx=1\/WK cx=2\/WK cx=3\/WK cx=4))):
  binOp .eql t cx cy=(do pure (.bool (<-Op.equal t cx cy)):Sem Value)/\binOp .neq t cx cy=(do pure (.bool (!(<-Op.equal t cx cy))):Sem Value):=by
 cases cx<;>cases cy<;>first
  | (exact⟨rfl,rfl⟩)
  | (exfalso;exact h (by simp[WK]))
theorem znI{t:TypeId}{x y:V}{r:Bool}{cx cy:Value}(h:CV P t x y=some r)(hx:VR (szP P) s d pr w x cx)(hy:VR (szP P) s d pr w y cy)(op:BinOp)(ox oy:Operand):
  (eqGuard op t ox oy cx cy).run P w=.ok () w/\(Op.equal t cx cy).run P w=.ok r w/\¬(WK cx=WK cy/\(WK cx=1\/WK cx=2\/WK cx=3\/WK cx=4)):=by
 have key:UJ P 9 t x y=some r->(Op.equal t cx cy).run P w=.ok r w:=fun h=>Gg 9 t x y r cx cy h hx hy Op.maxDepth (by decide)
 unfold CV at h
 split at h
 ·cases h
 rename_i h9
 have tx:=NP hx (fun h=>h9 (.inl h))
 have ty:=NP hy (fun h=>h9 (.inr h))
 rw[<-tx,<-ty] at h
 split at h
 ·rename_i h13
  split at h
  ·cases h
  ·rename_i hg
   refine⟨?_,key h,by omega⟩
   have e1:∃ax,cx=.agg ax:=by
    have:=h13.1
    cases cx<;>first|exact⟨_,rfl⟩|(exfalso;simp[WK] at this;done)
   have e2:∃ay,cy=.agg ay:=by
    have:=h13.2
    cases cy<;>first|exact⟨_,rfl⟩|(exfalso;simp[WK] at this;done)
   obtain⟨ax,rfl⟩:=e1
   obtain⟨ay,rfl⟩:=e2
   exact run_eqGuard_agg w op t ox oy ax ay (by simpa using hg)
 ·rename_i h13
  split at h
  ·cases h
  ·rename_i h12
   split at h
   ·cases h
   ·rename_i h4
    exact⟨zlG op t ox oy cx cy h13 h12,key h,h4⟩
theorem iY{op:BinOp}{t:TypeId}{x y v:V}{cx cy:Value}(h:jE P op t x y=some v)(hx:VR (szP P) s d pr w x cx)(hy:VR (szP P) s d pr w y cy)(ox oy:Operand):
  ∃c,(eqGuard op t ox oy cx cy).run P w=.ok () w/\(binOp op t cx cy).run P w=.ok c w/\VR (szP P) s d pr w v c:=by
 unfold jE at h
 split at h
 ·rename_i k a k' b
  simp only[VR] at hx hy
  subst hx;subst hy
  obtain⟨c,hc,rfl⟩:=BA.1 h
  refine⟨c,zmz ..,?_,by simp[VR]⟩
  split at hc
  ·exact zmZ (.inl rfl) hc
  ·exact zmZ (.inr rfl) hc
  ·rename_i h1 h2
   split at hc
   ·rename_i hk;subst hk
    exact zpY (fun e=>h1 e) (fun e=>h2 e) hc
   ·cases hc
 ·rename_i a b
  simp only[VR] at hx hy
  subst hx;subst hy
  obtain⟨c,hc,rfl⟩:=BA.1 h
  exact⟨c,zmy ..,zpb hc,by simp[VR]⟩
 ·split at h
  ·obtain⟨r,hr,rfl⟩:=BA.1 h
   obtain⟨e1,e2,e3⟩:=znI hr hx hy .eql ox oy
   refine⟨.bool r,e1,?_,by simp[VR]⟩
   rw[(binOp_eql t cx cy e3).1]
   simp[e2]
  ·obtain⟨r,hr,rfl⟩:=BA.1 h
   obtain⟨e1,e2,e3⟩:=znI hr hx hy .neq ox oy
   refine⟨.bool !r,e1,?_,by simp[VR]⟩
   rw[(binOp_eql t cx cy e3).2]
   simp[e2]
  ·cases h
theorem un_ok{op:UnOp}{x v:V}{cx:Value}(h:PU op x=some v)(hx:VR (szP P) s d pr w x cx):∃c,(Op.unary op cx).run P w=.ok c w/\VR (szP P) s d pr w v c:=by
 unfold PU at h
 split at h<;>first
  | (cases h;done)
  | (simp only[VR] at hx;subst hx;injection h with h;subst h;exact⟨_,rfl,rfl⟩)
theorem zkW{x v:V}{n:Nat}{cx:Value}(h:II x n=some v)(hx:VR (szP P) s d pr w x cx):∃a:Addr,cx=.pointer (some a)/\VR (szP P) s d pr w v (.pointer (some (a.add n))):=by
 unfold II at h
 split at h
 ·rename_i b off
  injection h with h;subst h
  obtain⟨q,rfl,hq⟩:=hx
  refine⟨q,rfl,_,rfl,?_⟩
  rcases hq with hq|⟨g,h1,rfl⟩
  ·exact .inl hq
  ·refine .inr ⟨g,h1,?_⟩
   unfold Addr.add
   split<;>simp_all
 ·rename_i cells
  injection h with h;subst h
  obtain⟨g,off,cs,rfl,hg,hc,ha⟩:=hx
  refine⟨_,rfl,g,off+n,cs.drop n,?_,hg,hc.drop n,?_⟩
  ·unfold Addr.add
   split<;>simp_all
  ·intro i c hi
   have:=ha (n+i) c (by simpa[rC] using hi)
   simpa[WD] using this
 ·cases h
theorem zlA{t:TypeId}{x v:V}{i:Nat}{cx:Value}(h:dL P t x i=some v)(hx:VR (szP P) s d pr w x cx):∃c,(Instr.fieldAt t cx i).run P w=.ok c w/\VR (szP P) s d pr w v c:=by
 unfold dL at h
 split at h
 ·rename_i fields hu
  simp only[pA,nA] at h
  obtain⟨f,hf,n,hn,h⟩:=h
  split at h
  ·cases h
  ·rename_i h0
   obtain⟨a,rfl,hv⟩:=zkW h hx
   exact⟨_,by simp[Instr.fieldAt,zA hu,hf,Instr.sureAddr,fieldPlace,xK hn,h0],hv⟩
 ·cases h
theorem field_ok{t:TypeId}{x v:V}{i:Nat}{cx:Value}(h:Rk P t x i=some v)(hx:VR (szP P) s d pr w x cx):∃c,(Instr.field t cx i).run P w=.ok c w/\VR (szP P) s d pr w v c:=by
 unfold Rk at h
 split at h
 ·rename_i fields cs hu
  simp only[pA,nA] at h
  obtain⟨f,hf,h⟩:=h
  obtain⟨xs,rfl,hx⟩:=hx
  obtain⟨c,h1,h2⟩:=yX (w:=w) h hx
  exact⟨c,by simp[Instr.field,zA hu,hf,asAgg,h1],h2⟩
 ·cases h
theorem pX{g off n:Nat}{cs:List Value}(ha:HoldsAt w ⟨g,off,none⟩ cs):HoldsAt w ⟨g,off+n,none⟩ (cs.drop n):=by
 intro i c hi
 have:=ha (n+i) c (by simpa[rC] using hi)
 simpa[WD] using this
theorem WU{a:Addr}{n:Nat}{cs:List Value}(ha:HoldsAt w a cs):HoldsAt w a (cs.take n):=by
 intro i c hi
 refine ha i c ?_
 rw[xD] at hi
 split at hi
 ·exact hi
 ·cases hi
theorem wO(g off n:Nat):(⟨g,off,none⟩:Addr).add n=⟨g,off+n,none⟩:=by
 unfold Addr.add;split<;>simp_all
theorem zls{t:TypeId}{x ix v:V}{cx ci:Value}(h:zv P t x ix=some v)(hx:VR (szP P) s d pr w x cx)(hi:VR (szP P) s d pr w ix ci):∃c,(Instr.indexAt t cx ci).run P w=.ok c w/\VR (szP P) s d pr w v c:=by
 unfold zv at h
 split at h
 ·rename_i k i
  simp only[VR] at hi
  subst hi
  split at h
  ·rename_i len elem hu
   simp only[pA,nA] at h
   obtain⟨n,hn,h⟩:=h
   split at h
   ·rename_i hb
    obtain⟨a,rfl,hv⟩:=zkW h hx
    exact⟨_,by simp[Instr.indexAt,asIntOf,zA hu,Instr.sureAddr,hb,xK hn],hv⟩
   ·cases h
  ·rename_i elem hu
   simp only[pA,nA] at h
   obtain⟨n,hn,h⟩:=h
   split at h
   ·rename_i b off len cap opn
    split at h
    ·rename_i hb
     injection h with h;subst h
     obtain⟨q,cap',rfl,_,_,hq⟩:=hx
     refine⟨.pointer (some (q.add (i.toNat*n))),by simp[Instr.indexAt,asIntOf,zA hu,hb,xK hn],_,rfl,?_⟩
     rcases hq with hq|⟨g,h1,rfl,_⟩
     ·exact .inl hq
     ·exact .inr ⟨g,h1,wO ..⟩
    ·cases h
   ·rename_i cells len
    split at h
    ·rename_i hb
     injection h with h;subst h
     obtain⟨g,off,cap,cs,rfl,hl,hg,hc,ha⟩:=hx
     refine⟨.pointer (some (Addr.add ⟨g,off,none⟩ (i.toNat*n))),by simp[Instr.indexAt,asIntOf,zA hu,hb,xK hn],g,_,_,by rw[wO],hg,hc.drop (i.toNat*n),pX ha⟩
    ·cases h
   ·rename_i cells len
    split at h
    ·rename_i hb
     injection h with h;subst h
     rcases hx with⟨rfl,_⟩|⟨g,off,cap,cs,rfl,hl,hg,hc,ha⟩
     ·omega
     ·exact⟨.pointer (some (Addr.add ⟨g,off,none⟩ (i.toNat*n))),by simp[Instr.indexAt,asIntOf,zA hu,hb,xK hn],g,_,_,by rw[wO],hg,hc.drop (i.toNat*n),pX ha⟩
    ·cases h
   ·cases h
  ·cases h
 ·cases h
theorem index_ok{t:TypeId}{x ix v:V}{cx ci:Value}(h:vN P t x ix=some v)(hx:VR (szP P) s d pr w x cx)(hi:VR (szP P) s d pr w ix ci):∃c,(Instr.index t cx ci).run P w=.ok c w/\VR (szP P) s d pr w v c:=by
 unfold vN at h
 split at h
 ·rename_i k i
  simp only[VR] at hi
  subst hi
  split at h
  ·rename_i len elem cs hu
   simp only[pA,nA] at h
   obtain⟨n,hn,h⟩:=h
   split at h
   ·rename_i hb
    obtain⟨xs,rfl,hx⟩:=hx
    obtain⟨c,h1,h2⟩:=yX (w:=w) h hx
    exact⟨c,by simp[Instr.index,asIntOf,zA hu,hb,xK hn,h1],h2⟩
   ·cases h
  ·rename_i st hu
   split at h
   ·rename_i h0
    simp only[VR] at hx
    subst hx
    obtain⟨b,hb,rfl⟩:=BA.1 h
    have hb':st[i.toNat]?=some b:=by
     rw[Array.getElem?_toList] at hb
     have hlt:i.toNat<st.data.size:=(LA.1 hb).1
     have:st[i.toNat]?=some (st[i.toNat]'hlt):=by
      exact getElem?_pos st i.toNat hlt
     rw[this]
     have h2:=(LA.1 hb).2
     exact congrArg some h2
    exact⟨.int .u8 b.toNat,by simp[Instr.index,asIntOf,zA hu,h0,hb'],by simp[VR]⟩
   ·cases h
  ·cases h
 ·cases h
theorem zoz{x v:V}{i:Nat}{cx:Value}(h:J7 x i=some v)(hx:VR (szP P) s d pr w x cx):∃c,(Instr.extract cx i).run P w=.ok c w/\VR (szP P) s d pr w v c:=by
 unfold J7 at h
 split at h
 ·obtain⟨xs,rfl,hx⟩:=hx
  obtain⟨c,h1,h2⟩:=hx.get h
  have h1':xs[i]?=some c:=by simpa using h1
  exact⟨c,by simp[Instr.extract,h1'],h2⟩
 ·cases h
theorem eU{x y v:V}{cx cy:Value}(h:J4 x y=some v)(hx:VR (szP P) s d pr w x cx)(hy:VR (szP P) s d pr w y cy):∃c,(Builtin.max2 cx cy).run P w=.ok c w/\VR (szP P) s d pr w v c:=by
 unfold J4 at h
 split at h
 ·simp only[VR] at hx hy;subst hx;subst hy;injection h with h;subst h
  exact⟨_,by simp[Builtin.max2];rfl,by simp[VR]⟩
 ·cases h
theorem iU{x y v:V}{cx cy:Value}(h:QN x y=some v)(hx:VR (szP P) s d pr w x cx)(hy:VR (szP P) s d pr w y cy):∃c,(Builtin.min2 cx cy).run P w=.ok c w/\VR (szP P) s d pr w v c:=by
 unfold QN at h
 split at h
 ·simp only[VR] at hx hy;subst hx;subst hy;injection h with h;subst h
  exact⟨_,by simp[Builtin.min2];rfl,by simp[VR]⟩
 ·cases h
theorem zmt{f:V->V->Option V}{g:Value->Value->Sem Value}(hf:∀x y v cx cy,f x y=some v->VR (szP P) s d pr w x cx->VR (szP P) s d pr w y cy->∃c,(g cx cy).run P w=.ok c w/\VR (szP P) s d pr w v c):
  ∀(ys:List V) (cys:List Value) (x v:V) (cx:Value),kS f x ys=some v->VR (szP P) s d pr w x cx->VRs (szP P) s d pr w ys cys->∃c,(cys.foldlM g cx).run P w=.ok c w/\VR (szP P) s d pr w v c
 | [],cys,x,v,cx,h,hx,hy=>by
  simp only[kS,lA] at h
  simp only[VRs] at hy
  subst h;subst hy
  exact⟨cx,by simp,hx⟩
 | y::ys,cys,x,v,cx,h,hx,hy=>by
  obtain⟨cy,cys',rfl,h1,hy⟩:=hy
  simp only[kS,pA,nA] at h
  obtain⟨z,hz,h⟩:=h
  obtain⟨cz,hz1,hz2⟩:=hf _ _ _ _ _ hz hx h1
  obtain⟨c,hc1,hc2⟩:=zmt hf ys cys' z v cz h hz2 hy
  exact⟨c,by simp[List.foldlM_cons,hz1,hc1],hc2⟩
end
end
end Go.Tw
