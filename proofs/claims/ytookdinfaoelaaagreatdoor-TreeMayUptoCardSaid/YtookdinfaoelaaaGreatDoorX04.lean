/- Own work for this claim, part 5 of 17. No condition of its own. -/
import Derived.Test.YtookdinfaoelaaaGreatDoorX03
import Derived.Lib.Bytealg
set_option linter.all false
set_option maxRecDepth 100000
set_option maxHeartbeats 4000000
open Array renaming ext'→xF,getElem?_eq_some_iff→LA,length_toList→cC
open Bool renaming and_eq_true→wA,false_eq_true→ZA
open Go.Deferred renaming ofValue→nD
open Go.Extern.BytealgCompare renaming compare→uF
open Go.Extern.Bytes renaming bytesOf→eD,loadBytes→AF
open Go.Region renaming ready→aC,wanted→oD
open Go.Tw.Heap renaming get_lt→vC,get_push→yA,get_set→dA,n_set→kA
open List renaming countP_cons→sI,getElem?_take→xD,length_take→JB,mem_range→yD,nodup_nil→dE,range→CB
open Nat renaming beq→kB,ble→DF,le_of_ble_eq_true→QG,le_refl→jA,le_trans→cB,lt_of_lt_of_le→vB,lt_or_ge→RA,min_eq_left→LF,zero_le→KB
open Option renaming isSome_iff_exists→XC
namespace Go.Tw
section
section
variable {C:Ctx} {h:Nat->Prop} {nt:Nat} {ro wro:Option Nat} {o:yK} {ops:Array Oper} {f:Nat->St} {r:Nat->OR} {e:Nat->Eff} {b:Nat->Bool} {cv:Nat->V->List V->Heap->Option OR} {s0:Nat->Option Nat} {w0:World} {a0:Act}
variable {S:Nat->Bool} {HS:Heap} {σ:Nat->Option Nat} {T:Tr V} {w:World} {a:Act} {i:Nat} {x:Oper} {K:Act->World->Prop} {Q:Exit->Act->World->Prop}
theorem Env.n0(E:Env C h nt ro wro o ops f r e b cv s0 w0 a0)(M:Mid C h nt ro wro o ops f r s0 w0 S HS σ T w a):(f 0).H.n<=HS.n/\(f ops.size).lo<=(f 0).H.n:=by
 have h1:=E.mono (KB ops.size) (jA _)
 have h2:=(E.lo ops.size (jA _)).1
 have h3:=E.R.ln
 have h4:=E.R.ext.hn
 exact⟨M.nn▸h1,by omega⟩
theorem Mid.direct(E:Env C h nt ro wro o ops f r e b cv s0 w0 a0)(M:Mid C h nt ro wro o ops f r s0 w0 S HS σ T w a)(N:Next ops S i x){HS':Heap}{l:Nat}
  (h1:rsV C.P (cv i) (HD C T) HS x.op=some ⟨(r i).v,HS',l⟩) (hn:HS'.n=HS.n) (hl:(f ops.size).lo<=l) (nb:(f (i+1)).H.n=(f i).H.n)
  (cont:∀c,c<HS'.n->∃m,m<=ops.size/\c<(f m).H.n/\HS'.get c=(f m).H.get c/\∀j,j<ops.size->Wr f j c->(FK S i j=true↔j<m))
  (unw:∀k,k<ops.size->k≠i->S k=false->∀c,(f k).H.n<=c->c<(f (k+1)).H.n->¬Wr f i c)
  (hK:∀HS' σ' T' w' a',Mid C h nt ro wro o ops f r s0 w0 (FK S i) HS' σ' T' w' a'->K a' w'):x.wpIn (WF wro) 0 C.P a w K Q:=by
 refine(E.step N.hx).op h wro σ HS w (HD C T) x _ a K Q M.hr M.gk (fun y _=>XM M.gk M.tm y) h1 fun c w' σ' hv hr ex=>?_
 refine hK _ _ _ _ _ (M.next E N hr hv (Pc.ofExt ex hl (E.n0 M).1) hn cont (fun k hk hne hS c g h1 h2 hg=>?_) (fun c h1 h2=>by omega) unw)
 rcases ex.fresh c g hg with h3|⟨h3,_⟩
 ·exact M.unb k hk hS c g h1 h2 h3
 ·have:=E.mono (j:=k+1) (k:=ops.size) hk (jA _)
  rw[<-M.nn] at this
  omega
theorem Mid.same(E:Env C h nt ro wro o ops f r e b cv s0 w0 a0)(M:Mid C h nt ro wro o ops f r s0 w0 S HS σ T w a)(N:Next ops S i x)(hw:∀c,¬Wr f i c):
  ∀c,c<HS.n->∃m,m<=ops.size/\c<(f m).H.n/\HS.get c=(f m).H.get c/\∀j,j<ops.size->Wr f j c->(FK S i j=true↔j<m):=by
 intro c hc
 obtain⟨m,h1,h2,h3,h4⟩:=M.cont c hc
 refine⟨m,h1,h2,h3,fun j hj hwj=>?_⟩
 have:j≠i:=fun e=>hw c (e▸hwj)
 rw[cO this]
 exact h4 j hj hwj
theorem Mid.quiet(E:Env C h nt ro wro o ops f r e b cv s0 w0 a0)(M:Mid C h nt ro wro o ops f r s0 w0 S HS σ T w a)(N:Next ops S i x)(hb:b i=true)(he:e i=.none\/∃c,e i=.rd c)
  (hK:∀HS' σ' T' w' a',Mid C h nt ro wro o ops f r s0 w0 (FK S i) HS' σ' T' w' a'->K a' w'):x.wpIn (WF wro) 0 C.P a w K Q:=by
 have hi:=N.lt
 have hw:∀c,¬Wr f i c:=by
  intro c hc
  rcases E.writer hi hc with h1|⟨_,h1⟩|h1|⟨_,_,h1⟩<;>rcases he with h2|⟨c',h2⟩<;>rw[h1] at h2<;>cases h2
 have nb:(f (i+1)).H.n=(f i).H.n:=by rw[(E.hstep hi).2,E.noH hi (he.imp id .inl)]
 have h0:=E.eff N.hx hb
 have h1:rsV C.P (cv i) (HD C T) HS x.op=some ⟨(r i).v,HS,HS.n⟩:=by
  rw[g7 x.op (O2 fun t ht=>E.slot M N ht)]
  rcases he with he|⟨c,he⟩<;>rw[he] at h0
  ·exact h0.2.2 HS
  ·obtain⟨_,_,h2,h3⟩:=h0
   refine h3 HS (E.seen M N ?_ ?_)
   ·obtain⟨B,hB⟩:=XC.1 h2
    exact vC hB
   ·intro j hj hne hwj
    refine E.ordered N hj hne ?_
    rw[he]
    rcases E.writer hj hwj with h4|⟨_,h4⟩|h4|⟨_,_,h4⟩<;>rw[h4]
    ·exact BJ rfl
    ·exact BJ rfl
    ·rfl
    ·exact BJ rfl
 exact M.direct E N h1 rfl (by have:=E.n0 M;omega) nb (M.same E N hw) (fun _ _ _ _ c _ _=>hw c) hK
theorem Mid.skip(E:Env C h nt ro wro o ops f r e b cv s0 w0 a0)(M:Mid C h nt ro wro o ops f r s0 w0 S HS σ T w a)(N:Next ops S i x)(hb:b i=false):
  Mid C h nt ro wro o ops f r s0 w0 (FK S i) HS σ (OG T x.dst (r i).v) w (a.put x.dst undef):=by
 have hi:=N.lt
 obtain⟨h1,h2,h3⟩:=(E.step N.hx).no hb
 have hw:∀c,¬Wr f i c:=by
  intro c hc
  rcases E.writer hi hc with h4|⟨_,h4⟩|h4|⟨_,_,h4⟩<;>rw[h2] at h4<;>cases h4
 have nb:(f (i+1)).H.n=(f i).H.n:=by rw[h3]
 exact M.next E N M.hr (by rw[h1];exact⟨#[],rfl,by simp[VRs]⟩) (Pc.refl _ _ _ _ _) rfl (M.same E N hw) (fun k hk _ hS c g=>M.unb k hk hS c g) (fun c h1 h2=>by omega) (fun _ _ _ _ c _ _=>hw c)
structure Wrote(C:Ctx)(f:Nat->St)(r:Nat->OR)(cv:Nat->V->List V->Heap->Option OR)(i c0:Nat)(x:Oper)(B:Blk):Prop where
 hH:(r i).H=(f i).H.set c0 B
 hlo:(r i).lo=min c0 (f i).H.n
 hs:((f i).H.get c0).isSome=true
 hnd:(f i).H.get c0≠some .dead
 hop:∃y∈x.op.operands,(∃off,HD C (f i).T y=.ptr c0 off)\/HD C (f i).T y=.mp c0
 hall:∀H',H'.get c0=(f i).H.get c0->rsV C.P (cv i) (HD C (f i).T) H' x.op=some ⟨(r i).v,H'.set c0 B,min c0 H'.n⟩
theorem Mid.write(E:Env C h nt ro wro o ops f r e b cv s0 w0 a0)(M:Mid C h nt ro wro o ops f r s0 w0 S HS σ T w a)(N:Next ops S i x)(hb:b i=true){c0:Nat}{B:Blk}(W:Wrote C f r cv i c0 x B)
  (ord:∀j,j<ops.size->j≠i->Wr f j c0->(S j=true↔j<i))
  (hK:∀HS' σ' T' w' a',Mid C h nt ro wro o ops f r s0 w0 (FK S i) HS' σ' T' w' a'->K a' w'):x.wpIn (WF wro) 0 C.P a w K Q:=by
 have hi:=N.lt
 obtain⟨hH,hlo,hs,hnd,hop,hall⟩:=W
 have hc0:c0<(f i).H.n:=by
  obtain⟨B',hB'⟩:=XC.1 hs
  exact vC hB'
 have hseen:=E.seen M N hc0 ord
 have hn1:(f (i+1)).H=(f i).H.set c0 B:=by rw[(E.hstep hi).2,hH]
 have hwr:∀c,Wr f i c->c=c0:=by
  intro c hw
  unfold Wr at hw
  rw[hn1,dA] at hw
  by_cases e:c=c0
  ·exact e
  ·rw[if_neg (fun h=>e h.1)] at hw;exact absurd rfl hw.2
 have nb:(f (i+1)).H.n=(f i).H.n:=by rw[hn1,kA]
 have hN:HS.n=(f ops.size).H.n:=M.nn
 have hle:(f i).H.n<=HS.n:=by rw[hN];exact E.mono (by omega) (jA _)
 have hmap:∃g,σ c0=some g:=by
  obtain⟨p,hpo,hp⟩:=hop
  have h1:=XM M.gk M.tm p
  rw[O2 (C:=C) (fun t ht=>E.slot M N ht) p hpo] at h1
  rcases hp with⟨off,hp⟩|hp<;>rw[hp] at h1
  ·obtain⟨q,_,h2⟩:=h1
   rcases h2 with h2|⟨g,h2,_⟩
   ·rw[RC,hseen] at h2;exact absurd h2 hnd
   ·exact⟨g,h2⟩
  ·obtain⟨q,_,h2⟩:=h1
   rcases h2 with h2|h2
   ·rw[RC,hseen] at h2;exact absurd h2 hnd
   ·exact⟨q,h2⟩
 have h1:rsV C.P (cv i) (HD C T) HS x.op=some ⟨(r i).v,HS.set c0 B,min c0 HS.n⟩:=by
  rw[g7 x.op (O2 fun t ht=>E.slot M N ht)]
  exact hall HS hseen
 refine M.direct E N h1 (by rw[kA]) ?_ nb (fun c hc=>?_) (fun k hk hne hS c h2 h3 hwc=>?_) hK
 ·have:=(E.lo ops.size (jA _)).2 i hi hb
  rw[hlo] at this
  have:=E.n0 M
  omega
 ·rw[kA] at hc
  by_cases ec:c=c0
  ·subst ec
   refine⟨i+1,hi,by omega,?_,fun j hj hwj=>?_⟩
   ·rw[hn1,dA,dA,if_pos ⟨rfl,by omega⟩,if_pos ⟨rfl,by omega⟩]
   ·by_cases ej:j=i
    ·subst ej;rw[K3];simp
    ·rw[cO ej,ord j hj ej hwj]
     omega
  ·obtain⟨m,g1,g2,g3,g4⟩:=M.cont c hc
   refine⟨m,g1,g2,?_,fun j hj hwj=>?_⟩
   ·rw[dA,if_neg (fun h=>ec h.1)];exact g3
   ·have:j≠i:=by
     intro ej
     subst ej
     exact ec (hwr c hwj)
    rw[cO this]
    exact g4 j hj hwj
 ·obtain⟨g,hg⟩:=hmap
  obtain rfl:=hwr c hwc
  exact M.unb k hk hS c g h2 h3 hg
theorem Mid.wr(E:Env C h nt ro wro o ops f r e b cv s0 w0 a0)(M:Mid C h nt ro wro o ops f r s0 w0 S HS σ T w a)(N:Next ops S i x)(hb:b i=true){c0:Nat}(he:e i=.wr c0)
  (hK:∀HS' σ' T' w' a',Mid C h nt ro wro o ops f r s0 w0 (FK S i) HS' σ' T' w' a'->K a' w'):x.wpIn (WF wro) 0 C.P a w K Q:=by
 have h0:=E.eff N.hx hb
 rw[he] at h0
 obtain⟨B,hB,hv,hH,hlo,hs,hnd,⟨t,p,y,off,hop,hp⟩,hall⟩:=h0
 refine M.write E N hb (B:=B) ⟨hH,hlo,hs,hnd,⟨p,by rw[hop];simp[Op.operands],.inl ⟨off,hp⟩⟩,fun H' hH'=>by rw[hv];exact hall H' hH'⟩ (fun j hj hne hwj=>?_) hK
 refine E.ordered N hj hne ?_
 rw[he]
 rcases E.writer hj hwj with h4|⟨_,h4⟩|h4|⟨_,_,h4⟩<;>rw[h4]
 ·exact BJ rfl
 ·show(kB _ _||kB _ _)=true
  rw[BJ rfl];rfl
 ·rfl
 ·exact BJ rfl
theorem Mid.en(E:Env C h nt ro wro o ops f r e b cv s0 w0 a0)(M:Mid C h nt ro wro o ops f r s0 w0 S HS σ T w a)(N:Next ops S i x)(hb:b i=true){c0:Nat}{t:TypeId}{q:V}(he:e i=.en c0 t q)
  (hK:∀HS' σ' T' w' a',Mid C h nt ro wro o ops f r s0 w0 (FK S i) HS' σ' T' w' a'->K a' w'):x.wpIn (WF wro) 0 C.P a w K Q:=by
 have h0:=E.eff N.hx hb
 rw[he] at h0
 obtain⟨B,hB,hH,hlo,hs,hnd,⟨p,hpo,hp⟩,_,hall⟩:=h0
 refine M.write E N hb (B:=B) ⟨hH,hlo,hs,hnd,⟨p,hpo,.inr hp⟩,hall⟩ (fun j hj hne hwj=>?_) hK
 refine E.ordered N hj hne ?_
 rw[he]
 rcases E.writer hj hwj with h4|⟨_,h4⟩|h4|⟨_,_,h4⟩<;>rw[h4]
 ·exact BJ rfl
 ·show(kB _ _||kB _ _)=true
  rw[BJ rfl];rfl
 ·rfl
 ·exact BJ rfl
theorem Env.looks(E:Env C h nt ro wro o ops f r e b cv s0 w0 a0){c:Nat}{t:TypeId}{q:V}{m m':Nat}(hm:m<=m')(hk:m'<=ops.size)(hw:∀k,m<=k->k<m'->Wr f k c->e k=.en c t q)(hc:c<(f m).H.n):
  nM C.P t q ((f m').H.get c)=nM C.P t q ((f m).H.get c):=by
 induction m' with
 | zero=>have:m=0:=(by omega);subst this;rfl
 | succ k ih=>
  by_cases l:m=k+1
  ·subst l;rfl
  ·have h1:=ih (by omega) (by omega) (fun k' h1 h2=>hw k' h1 (by omega))
   have h3:c<(f k).H.n:=vB hc (E.mono (by omega) (by omega))
   rw[<-h1]
   by_cases hwr:Wr f k c
   ·have he:=hw k (by omega) (by omega) hwr
    have hx:ops[k]?=some ops[k]:=by simp[show k<ops.size by omega]
    obtain⟨g1,g2⟩:=E.hstep (k:=k) (by omega)
    cases hb:b k with
    | false=>
     obtain⟨h4,_⟩:=(E.step hx).no hb
     rw[g2,h4]
    | true=>
     have h0:=E.eff hx hb
     rw[he] at h0
     obtain⟨B,_,hH,_,_,_,_,hl,_⟩:=h0
     rw[g2,hH,dA,if_pos ⟨rfl,h3⟩]
     exact hl
   ·have:(f (k+1)).H.get c=(f k).H.get c:=Classical.byContradiction fun hn=>hwr ⟨h3,hn⟩
    rw[this]
theorem Mid.look(E:Env C h nt ro wro o ops f r e b cv s0 w0 a0)(M:Mid C h nt ro wro o ops f r s0 w0 S HS σ T w a)(N:Next ops S i x)(hb:b i=true){c:Nat}{t:TypeId}{q:V}(he:e i=.lk c t q)
  (hK:∀HS' σ' T' w' a',Mid C h nt ro wro o ops f r s0 w0 (FK S i) HS' σ' T' w' a'->K a' w'):x.wpIn (WF wro) 0 C.P a w K Q:=by
 have hi:=N.lt
 have hw:∀c,¬Wr f i c:=by
  intro c hc
  rcases E.writer hi hc with h1|⟨_,h1⟩|h1|⟨_,_,h1⟩<;>rw[he] at h1<;>cases h1
 have nb:(f (i+1)).H.n=(f i).H.n:=by rw[(E.hstep hi).2,E.noH hi (.inr (.inr ⟨_,_,_,he⟩))]
 have h0:=E.eff N.hx hb
 rw[he] at h0
 obtain⟨_,_,h2,h4,h3⟩:=h0
 have hc:c<(f i).H.n:=by
  obtain⟨B,hB⟩:=XC.1 h2
  exact vC hB
 have key:∀j,j<ops.size->Wr f j c->¬(S j=true↔j<i)->e j=.en c t q:=by
  intro j hj hwj hn
  have hne:j≠i:=fun e'=>hw c (e'▸hwj)
  have hcl:oI (e i) (e j)=false:=by
   cases h:oI (e i) (e j) with
   | false=>rfl
   | true=>exact absurd (E.ordered N hj hne h) hn
  rw[he] at hcl
  rcases E.writer hj hwj with h5|⟨_,h5⟩|h5|⟨t',q',h5⟩<;>rw[h5] at hcl
  ·have:oI (.lk c t q) (.wr c)=kB c c:=rfl
   rw[this,BJ rfl] at hcl;cases hcl
  ·rename_i x'
   have:oI (.lk c t q) (.ap c x')=kB c c:=rfl
   rw[this,BJ rfl] at hcl;cases hcl
  ·cases hcl
  ·have:oI (.lk c t q) (.en c t' q')=(kB c c&&!(kB t t'&&HX q q')):=rfl
   rw[this,BJ (a:=c) rfl] at hcl
   simp only[Bool.true_and,Bool.not_eq_false',wA] at hcl
   rw[h5,Nat.eq_of_beq_eq_true hcl.1,lR hcl.2]
 have hl:nM C.P t q (HS.get c)=some (r i).v:=by
  obtain⟨m,hm,hcm,hge,hj⟩:=M.cont c (by rw[M.nn];exact vB hc (E.mono (by omega) (jA _)))
  rw[hge,<-h4]
  rcases RA i m with l|l
  ·refine E.looks (by omega) hm (fun k h1 h2 hk=>key k (by omega) hk fun h=>?_) hc
   have hS:=(hj k (by omega) hk).2 h2
   have hne:k≠i:=fun e'=>hw c (e'▸hk)
   have:=h.1 hS
   omega
  ·refine(E.looks l (by omega) (fun k h1 h2 hk=>key k (by omega) hk fun h=>?_) hcm).symm
   have:=(hj k (by omega) hk).1 (h.2 h2)
   omega
 have h1:rsV C.P (cv i) (HD C T) HS x.op=some ⟨(r i).v,HS,HS.n⟩:=by
  rw[g7 x.op (O2 fun t ht=>E.slot M N ht)]
  exact h3 HS hl
 exact M.direct E N h1 rfl (by have:=E.n0 M;omega) nb (M.same E N hw) (fun _ _ _ _ c _ _=>hw c) hK
end
end
section
section
variable {C:Ctx} {h:Nat->Prop} {nt:Nat} {ro wro:Option Nat} {o:yK} {ops:Array Oper} {f:Nat->St} {r:Nat->OR} {e:Nat->Eff} {b:Nat->Bool} {cv:Nat->V->List V->Heap->Option OR} {s0:Nat->Option Nat} {w0:World} {a0:Act}
variable {S:Nat->Bool} {HS:Heap} {σ:Nat->Option Nat} {T:Tr V} {w:World} {a:Act} {i:Nat} {x:Oper} {K:Act->World->Prop} {Q:Exit->Act->World->Prop}
theorem GT(c:Option Nat)(H:Heap):(dz c H).n=H.n:=by cases c<;>simp[dz,kA]
theorem c8(c:Option Nat)(H:Heap)(y:Nat):(dz c H).get y=if c=some y/\y<H.n then some .dead else H.get y:=by
 cases c with
 | none=>simp[dz]
 | some c=>
  simp only[dz,dA]
  by_cases e:y=c
  ·subst e;simp
  ·have:¬(c=y):=fun h=>e h.symm
   simp[e,this]
theorem NV.move{P P':PH}{s s':Nat->Option Nat}{H H':Heap}{w:World}{nv:NV}{n n' g:Nat}(hd:¬RC H n)(hs:s n=some g)(hs':s' n'=some g){c:Value}(h:VH P s H w (nv.at n) c):VH P' s' H' w (nv.at n') c:=by
 cases nv with
 | ptr=>
  obtain⟨x,e,h⟩:=h
  refine⟨x,e,?_⟩
  rcases h with h|⟨g2,h,e2⟩
  ·exact absurd h hd
  ·rw[hs] at h;injection h with h;subst h;exact .inr ⟨g,hs',e2⟩
 | sl l cp o=>
  obtain⟨x,cap',e,k1,k2,h⟩:=h
  refine⟨x,cap',e,k1,k2,?_⟩
  rcases h with h|⟨g2,h,e2,e3⟩
  ·exact absurd h hd
  ·rw[hs] at h;injection h with h;subst h;exact .inr ⟨g,hs',e2,e3⟩
 | mp=>
  obtain⟨x,e,h⟩:=h
  refine⟨x,e,?_⟩
  rcases h with h|h
  ·exact absurd h hd
  ·rw[hs] at h;injection h with h;subst h;exact .inr hs'
theorem Mid.born(E:Env C h nt ro wro o ops f r e b cv s0 w0 a0)(M:Mid C h nt ro wro o ops f r s0 w0 S HS σ T w a)(N:Next ops S i x){B:Blk}{nv:NV}{c0:Option Nat}{lo1:Nat}(hB:B≠.dead)
  (hH:(f (i+1)).H=dz c0 ((f i).H.push B)) (hv:(r i).v=nv.at (f i).H.n) (hall:rsV C.P (cv i) (HD C T) HS x.op=some ⟨nv.at HS.n,dz c0 (HS.push B),lo1⟩) (hl:(f ops.size).lo<=lo1)
  (hc:∀c,c0=some c->c<(f i).H.n/\(∃g,σ c=some g)/\∀j,j<ops.size->j≠i->Wr f j c->(S j=true↔j<i))
  (hK:∀HS' σ' T' w' a',Mid C h nt ro wro o ops f r s0 w0 (FK S i) HS' σ' T' w' a'->K a' w'):x.wpIn (WF wro) 0 C.P a w K Q:=by
 have hi:=N.lt
 have hn1:(f (i+1)).H.n=(f i).H.n+1:=by rw[hH,GT];rfl
 have hle:(f (i+1)).H.n<=HS.n:=by rw[M.nn];exact E.mono (by omega) (jA _)
 have hcn:∀c,c0=some c->c≠(f i).H.n/\c≠HS.n:=fun c e=>by have:=(hc c e).1;omega
 have hgn:HS.get (f i).H.n=some B:=by
  rw[E.seen_new M N (jA _) (by omega),hH,c8,yA,if_pos rfl,if_neg]
  rintro⟨e,_⟩
  exact(hcn _ e).1 rfl
 have hnone:∀g,σ (f i).H.n≠some g:=fun g=>M.unb i hi N.no _ g (jA _) (by omega)
 have hwr:∀c,Wr f i c->c0=some c:=by
  intro c hw
  unfold Wr at hw
  rw[hH,c8,yA,if_neg (c:=c=(f i).H.n) (by omega)] at hw
  by_cases e:c0=some c/\c<((f i).H.push B).n
  ·exact e.1
  ·rw[if_neg e] at hw;exact absurd rfl hw.2
 refine(E.step N.hx).op h wro σ HS w (HD C T) x _ a K Q M.hr M.gk (fun y _=>XM M.gk M.tm y) hall fun cv' w' σ1 hvv hr1 ex=>?_
 simp only at hvv hr1 ex
 have hg1:∀y,(dz c0 (HS.push B)).get y=if c0=some y then some .dead else if y=HS.n then some B else HS.get y:=by
  intro y
  rw[c8,yA]
  by_cases e:c0=some y
  ·have:=(hc y e).1
   have:y<HS.n+1:=by omega
   rw[if_pos ⟨e,this⟩,if_pos e]
  ·rw[if_neg (fun h=>e h.1),if_neg e]
 have hg':∀y,(dz c0 HS).get y=if c0=some y then some .dead else HS.get y:=by
  intro y
  rw[c8]
  by_cases e:c0=some y
  ·have:=(hc y e).1
   have:y<HS.n:=by omega
   rw[if_pos ⟨e,this⟩,if_pos e]
  ·rw[if_neg (fun h=>e h.1),if_neg e]
 have hN0:c0≠some HS.n:=fun e=>(hcn _ e).2 rfl
 have hnd1:¬RC (dz c0 (HS.push B)) HS.n:=by
  rw[RC,hg1,if_neg hN0,if_pos rfl]
  intro e;injection e with e;exact hB e
 have hn0:(dz c0 (HS.push B)).n=HS.n+1:=by rw[GT];rfl
 obtain⟨g0,hg0⟩:∃g0,σ1 HS.n=some g0:=(ex.cov HS.n (jA _) (by rw[hn0];omega)).resolve_left hnd1
 have hfr:∀y g,y≠HS.n->σ1 y=some g->σ y=some g:=by
  intro y g hy hs
  rcases ex.fresh y g hs with h1|⟨h1,_⟩
  ·exact h1
  ·have:=(hr1.lt hs).1;rw[hn0] at this;omega
 have hcz:∀y g,c0=some y->σ1 y≠some g:=by
  intro y g e hs
  refine hr1.alive hs ?_
  rw[RC,hg1,if_pos e]
 have hkeep:∀y g,σ y=some g->c0≠some y->σ1 y=some g:=by
  intro y g hs hne
  rcases ex.ss y g hs with h1|⟨h1,_⟩
  ·exact h1
  ·exfalso
   have hy:=(M.hr.lt hs).1
   rw[RC,hg1,if_neg hne,if_neg (by omega)] at h1
   exact M.hr.alive hs h1
 let σ':Nat->Option Nat:=fun y=>if y=(f i).H.n then some g0 else if c0=some y then none else σ y
 have hσ:∀{y g},σ' y=some g->(y=(f i).H.n/\g=g0)\/(y≠(f i).H.n/\c0≠some y/\σ y=some g):=by
  intro y g hy
  simp only[σ'] at hy
  by_cases e:y=(f i).H.n
  ·rw[if_pos e] at hy;injection hy with hy;exact .inl ⟨e,hy.symm⟩
  ·rw[if_neg e] at hy
   by_cases e':c0=some y
   ·rw[if_pos e'] at hy;cases hy
   ·rw[if_neg e'] at hy;exact .inr ⟨e,e',hy⟩
 have hkp:∀y g,σ y=some g->c0≠some y->σ' y=some g:=by
  intro y g hs hne
  have:y≠(f i).H.n:=fun e=>hnone g (e▸hs)
  simp only[σ']
  rw[if_neg this,if_neg hne]
  exact hs
 have hdd:∀y,y≠HS.n->RC (dz c0 (HS.push B)) y->RC (dz c0 HS) y:=by
  intro y hy hd
  rw[RC,hg1] at hd
  rw[RC,hg']
  by_cases e:c0=some y
  ·rw[if_pos e]
  ·rw[if_neg e] at hd ⊢
   rw[if_neg hy] at hd
   exact hd
 have hprot:∀g,RE (C.ph h) σ1 w' g->RE (C.ph h) σ' w' g:=by
  rintro g ⟨p1,p2,p3⟩
  refine⟨p1,fun y hy=>?_,p3⟩
  rcases hσ hy with⟨_,e⟩|⟨_,h2,h3⟩
  ·exact p2 HS.n (e▸hg0)
  ·exact p2 y (hkeep y g h3 h2)
 have cut:∀(s2:Nat->Option Nat) (d2:Nat->Prop),(∀y,(d2 y\/∃g2,s2 y=some g2)->y≠HS.n)->FV σ1 s2 σ' (RC (dz c0 (HS.push B))) d2 (RC (dz c0 HS)) (RE (C.ph h) σ1 w') (RE (C.ph h) σ' w'):=by
  intro s2 d2 hy2
  refine⟨fun y g hs h2=>.inl ?_,fun y hd h2=>hdd y (hy2 y h2) hd,hprot⟩
  have hy:=hy2 y h2
  exact hkp y g (hfr y g hy hs) fun e=>hcz y g e hs
 have hr':HR (C.ph h) σ' (dz c0 HS) w':=by
  refine⟨fun y g hy=>?_,fun y y' g hy hy'=>?_⟩
  ·rcases hσ hy with⟨rfl,rfl⟩|⟨h1,h2,h3⟩
   ·obtain⟨B1,o1,q1,q2,q3⟩:=hr1.dom HS.n g hg0
    rw[hg1,if_neg hN0,if_pos rfl] at q1
    injection q1 with q1
    subst q1
    obtain⟨sg,wg,ag,G⟩:=Ok E.run E.R (i+1) hi
    have hgb:(f (i+1)).H.get (f i).H.n=some B:=by
     rw[hH,c8,yA,if_pos rfl,if_neg]
     rintro⟨e,_⟩
     exact(hcn _ e).1 rfl
    have hsg:∃g',sg (f i).H.n=some g':=(G.news _ (E.mono (KB _) (by omega)) (by omega)).resolve_left (by rw[RC,hgb];intro e;injection e with e;exact hB e)
    obtain⟨g',hsg⟩:=hsg
    obtain⟨B2,o2,l1,l2,l3⟩:=G.sr.hr.dom _ g' hsg
    rw[hgb] at l1
    injection l1 with l1
    subst l1
    refine⟨B,o1,?_,q2,BR.cut (P:=C.ph h) (P2:=C.ph h) (P':=C.ph h) rfl rfl (cut sg (RC (f (i+1)).H) fun y hy=>?_) q3 l3⟩
    ·rw[hg',if_neg (fun e=>(hcn _ e).1 rfl)];exact hgn
    ·rcases hy with hy|⟨g2,hy⟩
     ·have:=vC hy;omega
     ·have:=(G.sr.hr.lt hy).1;omega
   ·obtain⟨B1,o1,q1,q2,q3⟩:=hr1.dom y g (hkeep y g h3 h2)
    have hyn:=(M.hr.lt h3).1
    rw[hg1,if_neg h2,if_neg (by omega)] at q1
    obtain⟨B2,o2,l1,l2,l3⟩:=M.hr.dom y g h3
    rw[q1] at l1
    injection l1 with l1
    subst l1
    refine⟨B1,o1,by rw[hg',if_neg h2];exact q1,q2,BR.cut (P:=C.ph h) (P2:=C.ph h) (P':=C.ph h) rfl rfl (cut σ (RC HS) fun y hy=>?_) q3 l3⟩
    rcases hy with hy|⟨g2,hy⟩
    ·have:=vC hy;omega
    ·have:=(M.hr.lt hy).1;omega
  ·rcases hσ hy with⟨e1,e2⟩|⟨h1,h2,h3⟩<;>rcases hσ hy' with⟨e3,e4⟩|⟨h4,h5,h6⟩
   ·omega
   ·exfalso
    subst e2
    have:=hr1.inj HS.n y' g hg0 (hkeep y' g h6 h5)
    have:=(M.hr.lt h6).1
    omega
   ·exfalso
    subst e4
    have:=hr1.inj HS.n y g hg0 (hkeep y g h3 h2)
    have:=(M.hr.lt h3).1
    omega
   ·exact M.hr.inj y y' g h3 h6
 have pc:Pc (f ops.size).lo (f 0).H.n σ HS w σ' (dz c0 HS) w':=by
  refine⟨ex.os,ex.tape,ex.output,ex.size,fun y hy=>?_,fun y g hs=>?_,fun g hg hb=>ex.frame g hg fun y hy=>vB (hb y hy) hl,fun y g hy=>?_,ex.shp⟩
  ·rw[RC,hg']
   by_cases e:c0=some y
   ·rw[if_pos e]
   ·rw[if_neg e];exact hy
  ·by_cases e:c0=some y
   ·refine .inr ⟨by rw[RC,hg',if_pos e],?_⟩
    rcases ex.ss y g hs with h1|⟨_,h1⟩
    ·exact absurd h1 (hcz y g e)
    ·exact cB hl h1
   ·exact .inl (hkp y g hs e)
  ·rcases hσ hy with⟨e1,rfl⟩|⟨_,_,h3⟩
   ·refine .inr ⟨by rw[e1];exact E.mono (KB _) (by omega),?_⟩
    rcases ex.fresh HS.n g hg0 with h1|⟨_,h1⟩
    ·have:=(M.hr.lt h1).1;omega
    ·exact h1.imp id fun⟨b0,q1,q2⟩=>⟨b0,cB hl q1,q2⟩
   ·exact .inl h3
 refine hK _ _ _ _ _ (M.next E N hr' (c:=cv') ?_ pc (GT _ _) (fun c hcl=>?_) (fun k hk hne hS c g h1 h2 hg=>?_) (fun c h1 h2=>?_) (fun k hk hne hS c h1 h2 hwc=>?_))
 ·rw[hv]
  exact NV.move hnd1 hg0 (if_pos rfl) hvv
 ·rw[GT] at hcl
  by_cases ec:c0=some c
  ·obtain⟨q1,_,q3⟩:=hc c ec
   refine⟨i+1,hi,by omega,?_,fun j hj hwj=>?_⟩
   ·rw[hg',if_pos ec,hH,c8,if_pos ⟨ec,by rw[Heap.n_push];omega⟩]
   ·by_cases ej:j=i
    ·subst ej;rw[K3];simp
    ·rw[cO ej,q3 j hj ej hwj]
     omega
  ·obtain⟨m,q1,q2,q3,q4⟩:=M.cont c hcl
   refine⟨m,q1,q2,by rw[hg',if_neg ec];exact q3,fun j hj hwj=>?_⟩
   have:j≠i:=fun ej=>ec (hwr c (ej▸hwj))
   rw[cO this]
   exact q4 j hj hwj
 ·rcases hσ hg with⟨e1,_⟩|⟨_,_,h3⟩
  ·rcases RA k i with l|l
   ·have:=E.mono (j:=k+1) (k:=i) l (by omega);omega
   ·have:=E.mono (j:=i+1) (k:=k) (by omega) (by omega);omega
  ·exact M.unb k hk hS c g h1 h2 h3
 ·exact .inr ⟨g0,if_pos (by omega)⟩
 ·obtain⟨_,⟨g,hg⟩,_⟩:=hc c (hwr c hwc)
  exact M.unb k hk hS c g h1 h2 hg
theorem Mid.alloc(E:Env C h nt ro wro o ops f r e b cv s0 w0 a0)(M:Mid C h nt ro wro o ops f r s0 w0 S HS σ T w a)(N:Next ops S i x)(hb:b i=true)(he:e i=.al)
  (hK:∀HS' σ' T' w' a',Mid C h nt ro wro o ops f r s0 w0 (FK S i) HS' σ' T' w' a'->K a' w'):x.wpIn (WF wro) 0 C.P a w K Q:=by
 have hi:=N.lt
 have h0:=E.eff N.hx hb
 rw[he] at h0
 obtain⟨B,nv,h1,h2,h3⟩:=h0
 refine M.born E N (c0:=none) (lo1:=HS.n) h1 ?_ (by rw[h2]) ?_ (by have:=E.n0 M;omega) (fun c hc=>(by cases hc)) hK
 ·rw[(E.hstep hi).2,h2];rfl
 ·rw[g7 x.op (O2 fun t ht=>E.slot M N ht)]
  exact h3 HS
theorem Mid.grow(E:Env C h nt ro wro o ops f r e b cv s0 w0 a0)(M:Mid C h nt ro wro o ops f r s0 w0 S HS σ T w a)(N:Next ops S i x)(hb:b i=true){cb cx:Nat}(he:e i=.ap cb cx)
  (hK:∀HS' σ' T' w' a',Mid C h nt ro wro o ops f r s0 w0 (FK S i) HS' σ' T' w' a'->K a' w'):x.wpIn (WF wro) 0 C.P a w K Q:=by
 have hi:=N.lt
 have h0:=E.eff N.hx hb
 rw[he] at h0
 obtain⟨B,nv,h1,h2,h4,h5,h6,⟨y,hy,off,l,cp,op,hy2⟩,h3⟩:=h0
 have hcb:cb<(f i).H.n:=by
  obtain⟨B',hB'⟩:=XC.1 h4
  exact vC hB'
 have hcx:cx<(f i).H.n:=by
  obtain⟨B',hB'⟩:=XC.1 h5
  exact vC hB'
 have ordb:∀j,j<ops.size->j≠i->Wr f j cb->(S j=true↔j<i):=by
  intro j hj hne hwj
  refine E.ordered N hj hne ?_
  rw[he]
  rcases E.writer hj hwj with h4|⟨_,h4⟩|h4|⟨_,_,h4⟩<;>rw[h4]
  ·show(kB _ _||kB _ _)=true
   rw[BJ rfl];rfl
  ·show(kB _ _||kB _ _||kB _ _)=true
   rw[BJ rfl];rfl
  ·rfl
  ·show(kB _ _||kB _ _)=true
   rw[BJ rfl];rfl
 have ordx:∀j,j<ops.size->j≠i->Wr f j cx->(S j=true↔j<i):=by
  intro j hj hne hwj
  refine E.ordered N hj hne ?_
  rw[he]
  rcases E.writer hj hwj with h4|⟨_,h4⟩|h4|⟨_,_,h4⟩<;>rw[h4]
  ·show(kB _ _||kB cx cx)=true
   rw[BJ (a:=cx) rfl];simp
  ·show(kB _ _||kB cx cx||kB _ _)=true
   rw[BJ (a:=cx) rfl];simp
  ·rfl
  ·show(kB _ _||kB cx cx)=true
   rw[BJ (a:=cx) rfl];simp
 have sb:=E.seen M N hcb ordb
 have sx:=E.seen M N hcx ordx
 have hmap:∃g,σ cb=some g:=by
  have h1:=XM M.gk M.tm y
  rw[O2 (C:=C) (fun t ht=>E.slot M N ht) y hy,hy2] at h1
  obtain⟨q,cap',_,_,_,h2⟩:=h1
  rcases h2 with h2|⟨g,h2,_⟩
  ·rw[RC,sb] at h2;exact absurd h2 h6
  ·exact⟨g,h2⟩
 refine M.born E N (c0:=some cb) (lo1:=min cb HS.n) h1 ?_ (by rw[h2]) ?_ ?_ (fun c hc=>?_) hK
 ·rw[(E.hstep hi).2,h2]
 ·rw[g7 x.op (O2 fun t ht=>E.slot M N ht)]
  exact h3 HS sb sx
 ·have:=(E.lo ops.size (jA _)).2 i hi hb
  rw[h2] at this
  simp only at this
  have:=E.n0 M
  omega
 ·injection hc with hc
  subst hc
  exact⟨hcb,hmap,ordb⟩
theorem Mid.view(E:Env C h nt ro wro o ops f r e b cv s0 w0 a0)(M:Mid C h nt ro wro o ops f r s0 w0 S HS σ T w a)(N:Next ops S i x)(hb:b i=true)(he:e i=.sr\/e i=.ca\/e i=.sw)
  (hK:∀HS' σ' T' w' a',Mid C h nt ro wro o ops f r s0 w0 (FK S i) HS' σ' T' w' a'->K a' w'):x.wpIn (WF wro) 0 C.P a w K Q:=by
 have hi:=N.lt
 have ord:∀c j,j<ops.size->j≠i->Wr f j c->(S j=true↔j<i):=by
  intro c j hj hne hwj
  refine E.ordered N hj hne ?_
  rcases E.writer hj hwj with h4|⟨_,h4⟩|h4|⟨_,_,h4⟩<;>rw[h4]<;>rcases he with he|he|he<;>rw[he]<;>rfl
 have seen:∀c,c<(f i).H.n->HS.get c=(f i).H.get c:=fun c hc=>E.seen M N hc (ord c)
 have hn01:(f i).H.n<=(f (i+1)).H.n:=E.mono (by omega) hi
 have hn1N:(f (i+1)).H.n<=HS.n:=by rw[M.nn];exact E.mono hi (jA _)
 have hr1:(f (i+1)).H=(r i).H:=(E.hstep hi).2
 obtain⟨sg,wg,ag,G⟩:=Ok E.run E.R i (by omega)
 let hid:Nat->Prop:=fun g=>h g\/∃c,(f i).H.n<=c/\σ c=some g
 let σ':Nat->Option Nat:=fun c=>if c<(f i).H.n then σ c else none
 have hσ:∀{c g},σ' c=some g->c<(f i).H.n/\σ c=some g:=by
  intro c g hc
  simp only[σ'] at hc
  split at hc
  ·exact⟨by assumption,hc⟩
  ·cases hc
 have X:FV σ sg σ' (RC HS) (RC (f i).H) (RC (f i).H) (RE (C.ph h) σ w) (RE (C.ph hid) σ' w):=by
  refine⟨fun c g hc h2=>?_,fun c hc h2=>?_,fun g hg=>⟨hg.1,fun c hc=>hg.2.1 c (hσ hc).2,fun hh=>?_⟩⟩
  ·rcases h2 with h2|⟨g2,h2⟩
   ·exact .inr h2
   ·refine .inl ?_
    simp only[σ']
    rw[if_pos (G.sr.hr.lt h2).1]
    exact hc
  ·rcases h2 with h2|⟨g2,h2⟩
   ·exact h2
   ·rw[RC,<-seen c (G.sr.hr.lt h2).1];exact hc
  ·rcases hh with hh|⟨c,_,hc⟩
   ·exact hg.2.2 hh
   ·exact hg.2.1 c hc
 have hrV:HR (C.ph hid) σ' (f i).H w:=by
  refine⟨fun c g hc=>?_,fun c c' g hc hc'=>M.hr.inj c c' g (hσ hc).2 (hσ hc').2⟩
  obtain⟨hcn,hc⟩:=hσ hc
  obtain⟨B,q,k1,k2,k3⟩:=M.hr.dom c g hc
  have k1':(f i).H.get c=some B:=by rw[<-seen c hcn];exact k1
  have hnd:¬RC (f i).H c:=by
   intro hd
   rw[RC,k1'] at hd
   injection hd with hd
   subst hd
   exact k3
  have hsg:∃g',sg c=some g':=by
   rcases M.pc.fresh c g hc with h1|⟨h1,_⟩
   ·exact(G.olds c g h1).resolve_left hnd
   ·exact(G.news c h1 hcn).resolve_left hnd
  obtain⟨g',hg'⟩:=hsg
  obtain⟨B2,q2,l1,l2,l3⟩:=G.sr.hr.dom c g' hg'
  rw[k1'] at l1
  injection l1 with l1
  subst l1
  exact⟨B,q,k1',k2,BR.cut (P:=C.ph h) (P2:=C.ph h) (P':=C.ph hid) rfl rfl X k3 l3⟩
 have gkV:GOK C hid σ' w:=by
  refine⟨fun g hg=>?_,fun g cs hg=>⟨X.p g (M.gk.2 g cs hg).1,(M.gk.2 g cs hg).2⟩⟩
  rcases hg with hg|⟨c,_,hc⟩
  ·exact M.gk.1 g hg
  ·exact(M.hr.lt hc).2
 have base:=XM (C:=C) (H:=(f i).H) (a:={ tmps:=#[],defers:=[] }) gkV (T:=.nil) (fun t=>by simp[PD,Tr.get,VR])
 have opnd:∀y∈x.op.operands,VH (C.ph hid) σ' (f i).H w (HD C (f i).T y) (a.eval y):=by
  intro y hy
  cases y with
  | tmp t=>
   have ht:t∈x.looksAt ops:=List.mem_append_left _ (List.mem_filterMap.2 ⟨.tmp t,by simpa using hy,rfl⟩)
   have h1:=M.tm t
   rw[E.slot M N ht] at h1
   exact VH.cut (P:=C.ph h) (P2:=C.ph h) (P':=C.ph hid) rfl rfl X h1 (G.sr.tm t)
  | const v=>exact base (.const v)
  | global g=>exact base (.global g)
  | func g=>exact base (.func g)
 refine(E.step N.hx).op hid wro σ' (f i).H w (HD C (f i).T) x (r i) a K Q hrV gkV opnd ((E.step N.hx).yes hb).1 fun c w' s' hv hr' ex=>?_
 rw[<-hr1] at hv hr' ex
 obtain⟨HS',hnS,hget⟩:=Heap.mk_of HS.n (fun c=>if c<(f (i+1)).H.n then(f (i+1)).H.get c else HS.get c)
 have hlt:∀c,c<(f (i+1)).H.n->HS'.get c=(f (i+1)).H.get c:=fun c hc=>by rw[hget,if_pos (by omega),if_pos hc]
 have hge:∀c,(f (i+1)).H.n<=c->HS'.get c=HS.get c:=fun c hc=>by
  rw[hget]
  by_cases l:c<HS.n
  ·rw[if_pos l,if_neg (by omega)]
  ·rw[if_neg l,Heap.get_eq,if_neg l]
 let σ2:Nat->Option Nat:=fun c=>if c<(f (i+1)).H.n then s' c else σ c
 have σlt:∀{c},c<(f (i+1)).H.n->σ2 c=s' c:=fun hc=>if_pos hc
 have σge:∀{c},(f (i+1)).H.n<=c->σ2 c=σ c:=fun hc=>if_neg (by omega)
 have hlo:(f ops.size).lo<=(r i).lo:=(E.lo ops.size (jA _)).2 i hi hb
 have pc:Pc (f ops.size).lo (f 0).H.n σ HS w σ2 HS' w':=by
  refine⟨ex.os,ex.tape,ex.output,ex.size,fun c hc=>?_,fun c g hc=>?_,fun g hg hq=>?_,fun c g hc=>?_,ex.shp⟩
  ·rcases RA c (f (i+1)).H.n with l|l
   ·show HS'.get c=_
    rw[hlt c l]
    rcases RA c (f i).H.n with l2|l2
    ·exact ex.dd c (by rw[RC,<-seen c l2];exact hc)
    ·rw[<-E.seen_new M N l2 l];exact hc
   ·show HS'.get c=_
    rw[hge c l];exact hc
  ·rcases RA c (f (i+1)).H.n with l|l
   ·rcases RA c (f i).H.n with l2|l2
    ·have hc':σ' c=some g:=by simp only[σ'];rw[if_pos l2];exact hc
     rcases ex.ss c g hc' with h1|⟨h1,h2⟩
     ·exact .inl (by rw[σlt l];exact h1)
     ·refine .inr ⟨?_,by omega⟩
      show HS'.get c=_
      rw[hlt c l];exact h1
    ·exact absurd hc (M.unb i hi N.no c g l2 l)
   ·exact .inl (by rw[σge l];exact hc)
  ·exact ex.frame g hg fun c hc=>vB (hq c (hσ hc).2) hlo
  ·rcases RA c (f (i+1)).H.n with l|l
   ·rw[σlt l] at hc
    rcases ex.fresh c g hc with h1|⟨h1,h2⟩
    ·exact .inl (hσ h1).2
    ·refine .inr ⟨cB (E.mono (KB i) (by omega)) h1,?_⟩
     rcases h2 with h2|⟨b0,h2,h3⟩
     ·exact .inl h2
     ·exact .inr ⟨b0,by omega,(hσ h3).2⟩
   ·rw[σge l] at hc;exact .inl hc
 have G1:HL s' σ2 (RC (f (i+1)).H) (RC HS') (RE (C.ph hid) s' w') (RE (C.ph h) σ2 w') w' w':=by
  refine⟨fun c hc=>?_,fun c g hc=>.inl ?_,fun g hg=>⟨hg.1,fun c hc=>?_,fun hh=>hg.2.2 (.inl hh)⟩,fun _ _ _ _ h=>h,fun _ _ h=>h⟩
  ·show HS'.get c=_
   rw[hlt c (vC hc)];exact hc
  ·rw[σlt (hr'.lt hc).1];exact hc
  ·rcases RA c (f (i+1)).H.n with l|l
   ·rw[σlt l] at hc;exact hg.2.1 c hc
   ·rw[σge l] at hc;exact hg.2.2 (.inr ⟨c,by omega,hc⟩)
 have hr2:HR (C.ph h) σ2 HS' w':=by
  refine⟨fun c g hc=>?_,fun c c' g hc hc'=>?_⟩
  ·rcases RA c (f (i+1)).H.n with l|l
   ·rw[σlt l] at hc
    obtain⟨B,q,k1,k2,k3⟩:=hr'.dom c g hc
    exact⟨B,q,by rw[hlt c l];exact k1,k2,BR.mono2 (P:=C.ph hid) (P':=C.ph h) rfl G1 k3⟩
   ·rw[σge l] at hc
    obtain⟨B,q,k1,k2,k3⟩:=M.hr.dom c g hc
    refine⟨B,q,by rw[hge c l];exact k1,?_,k3.mono pc.grow⟩
    rw[ex.frame g (M.hr.lt hc).2 fun c' hc'=>?_]
    ·exact k2
    ·have:=M.hr.inj c' c g (hσ hc').2 hc
     have:=(hσ hc').1
     omega
  ·have key:∀c c',c<(f (i+1)).H.n->(f (i+1)).H.n<=c'->s' c=some g->σ c'=some g->False:=by
    intro c c' l l' hc hc'
    rcases ex.fresh c g hc with h1|⟨h1,h2⟩
    ·have:=M.hr.inj c c' g (hσ h1).2 hc';omega
    ·rcases h2 with h2|⟨b0,h2,h3⟩
     ·have:=(M.hr.lt hc').2;omega
     ·have:=M.hr.inj b0 c' g (hσ h3).2 hc'
      have:=(hσ h3).1
      omega
   rcases RA c (f (i+1)).H.n with l|l<;>rcases RA c' (f (i+1)).H.n with l'|l'
   ·rw[σlt l] at hc;rw[σlt l'] at hc'
    exact hr'.inj c c' g hc hc'
   ·rw[σlt l] at hc;rw[σge l'] at hc'
    exact(key c c' l l' hc hc').elim
   ·rw[σge l] at hc;rw[σlt l'] at hc'
    exact(key c' c l' l hc' hc).elim
   ·rw[σge l] at hc;rw[σge l'] at hc'
    exact M.hr.inj c c' g hc hc'
 refine hK _ _ _ _ _ (M.next E N hr2 (VR.mono G1 _ _ hv) pc hnS (fun c hc=>?_) (fun k hk hne hS c g h1 h2 hg=>?_) (fun c h1 h2=>?_) (fun k hk hne hS c h1 h2 hwc=>?_))
 ·rcases RA c (f (i+1)).H.n with l|l
  ·refine⟨i+1,hi,l,hlt c l,fun j hj hwj=>?_⟩
   by_cases ej:j=i
   ·subst ej;rw[K3];simp
   ·rw[cO ej,ord c j hj ej hwj]
    omega
  ·obtain⟨m,g1,g2,g3,g4⟩:=M.cont c (by rw[hnS] at hc;exact hc)
   refine⟨m,g1,g2,by rw[hge c l];exact g3,fun j hj hwj=>?_⟩
   have:j≠i:=by
    intro ej
    subst ej
    have:=hwj.1
    omega
   rw[cO this]
   exact g4 j hj hwj
 ·rcases RA k i with l|l
  ·have h3:=E.mono (j:=k+1) (k:=i) l (by omega)
   rw[σlt (by omega)] at hg
   rcases ex.fresh c g hg with h4|⟨h4,_⟩
   ·exact M.unb k hk hS c g h1 h2 (hσ h4).2
   ·omega
  ·have h3:=E.mono (j:=i+1) (k:=k) (by omega) (by omega)
   rw[σge (by omega)] at hg
   exact M.unb k hk hS c g h1 h2 hg
 ·rcases ex.cov c h1 h2 with h3|⟨g,h3⟩
  ·refine .inl ?_
   show HS'.get c=_
   rw[hlt c h2];exact h3
  ·exact .inr ⟨g,by rw[σlt h2];exact h3⟩
 ·have hki:k<i:=by
   rcases RA k i with l|l
   ·exact l
   ·have h3:=E.mono (j:=i) (k:=k) l (by omega)
    have:=hwc.1
    omega
  have hbk:=E.birth hk (by omega)
  rcases E.writer hi hwc with h5|⟨_,h5⟩|h5|⟨_,_,h5⟩
  ·rcases he with he|he|he<;>rw[he] at h5<;>cases h5
  ·rcases he with he|he|he<;>rw[he] at h5<;>cases h5
  rotate_left
  ·rcases he with he|he|he<;>rw[he] at h5<;>cases h5
  ·have hc:oI (e i) (e k)=true:=by
    rw[h5]
    cases hek:e k<;>first|rfl|exact absurd hek hbk
   have:=(E.ordered N hk hne hc).2 hki
   rw[hS] at this
   cases this
end
end
section
section
variable {C:Ctx} {h:Nat->Prop} {nt:Nat} {ro wro:Option Nat} {o:yK} {ops:Array Oper} {f:Nat->St} {r:Nat->OR} {e:Nat->Eff} {b:Nat->Bool} {cv:Nat->V->List V->Heap->Option OR} {s0:Nat->Option Nat} {w0:World} {a0:Act}
variable {S:Nat->Bool} {HS:Heap} {σ:Nat->Option Nat} {T:Tr V} {w:World} {a:Act} {i:Nat} {x:Oper} {K:Act->World->Prop} {Q:Exit->Act->World->Prop}
theorem Mid.step(E:Env C h nt ro wro o ops f r e b cv s0 w0 a0)(M:Mid C h nt ro wro o ops f r s0 w0 S HS σ T w a)(N:Next ops S i x)
  (hK:∀HS' σ' T' w' a',Mid C h nt ro wro o ops f r s0 w0 (FK S i) HS' σ' T' w' a'->K a' w'):wpOpIn (WF wro) 0 C.P ops Q i K a w:=by
 have hw:oD x (yielded ops a.tmps)=b i:=by
  refine Bj M.tm ?_
  rw[zkD fun t ht=>E.slot M N ht]
  exact(E.step N.hx).want
 unfold wpOpIn
 simp only[N.hx,hw]
 cases hb:b i with
 | false=>exact⟨fun _ _=>trivial,hK _ _ _ _ _ (M.skip E N hb)⟩
 | true=>
  simp only[if_true]
  cases he:e i with
  | none=>exact M.quiet E N hb (.inl he) hK
  | al=>exact M.alloc E N hb he hK
  | rd c=>exact M.quiet E N hb (.inr ⟨c,he⟩) hK
  | wr c=>exact M.wr E N hb he hK
  | lk c t q=>exact M.look E N hb he hK
  | en c t q=>exact M.en E N hb he hK
  | ap c x=>exact M.grow E N hb he hK
  | sr=>exact M.view E N hb (.inl he) hK
  | ca=>exact M.view E N hb (.inr (.inl he)) hK
  | sw=>exact M.view E N hb (.inr (.inr he)) hK
theorem Env.born(E:Env C h nt ro wro o ops f r e b cv s0 w0 a0){c:Nat}(hc:(f 0).H.n<=c):∀k,k<=ops.size->c<(f k).H.n->∃j,j<ops.size/\(f j).H.n<=c/\c<(f (j+1)).H.n
 | 0,_,h=>by omega
 | k+1,hk,h=>by
  rcases RA c (f k).H.n with l|l
  ·exact E.born hc k (by omega) l
  ·exact⟨k,hk,l,h⟩
theorem Mid.done(E:Env C h nt ro wro o ops f r e b cv s0 w0 a0)(M:Mid C h nt ro wro o ops f r s0 w0 S HS σ T w a)(hS:∀j,j<ops.size->S j=true):SR C h nt ro wro o σ w (f ops.size) a:=by
 have hget:∀c,HS.get c=(f ops.size).H.get c:=by
  intro c
  rcases RA c HS.n with l|l
  ·obtain⟨m,h1,h2,h3,h4⟩:=M.cont c l
   rw[h3]
   refine(E.const h1 (jA _) (fun k hk1 hk2 hw=>?_) h2).symm
   have:=(h4 k hk2 hw).1 (hS k hk2)
   omega
  ·rw[Heap.get_eq,Heap.get_eq,if_neg (by omega),if_neg (by have:=M.nn;omega)]
 have hD:∀c,RC HS c->RC (f ops.size).H c:=fun c hc=>by rw[RC,<-hget];exact hc
 have G:HL σ σ (RC HS) (RC (f ops.size).H) (RE (C.ph h) σ w) (RE (C.ph h) σ w) w w:=⟨hD,fun _ _ h=>.inl h,fun _ h=>h,fun _ _ _ _ h=>h,fun _ _ h=>h⟩
 have hT:∀t,PD T t=PD (f ops.size).T t:=by
  intro t
  obtain⟨h1,h2⟩:=M.ts t
  obtain⟨h3,h4⟩:=E.slots t ops.size (jA _)
  by_cases hw:∃(j:Nat) (y:Oper),ops[j]?=some y/\y.dst=some t
  ·obtain⟨j,y,hy,hd⟩:=hw
   have hj:j<ops.size:=(LA.1 hy).1
   rw[h1 j y hy hd,h3 j y hy hd,if_pos (hS j hj),if_pos hj]
  ·have hn:∀(j:Nat) (y:Oper),ops[j]?=some y->y.dst≠some t:=fun j y hy hd=>hw ⟨j,y,hy,hd⟩
   rw[h2 hn,h4 hn]
 have X:Ext (f ops.size).lo s0 (f 0).H w0 σ (f ops.size).H w:=by
  refine⟨M.pc.os,M.pc.tape,M.pc.output,M.pc.size,E.mono (KB _) (jA _),fun c hc=>hD c (M.pc.dd c hc),fun c g hc=>(M.pc.ss c g hc).imp id fun⟨a,d⟩=>⟨hD c a,d⟩,M.pc.frame,M.pc.fresh,M.pc.shp,fun c hc hc0=>?_,fun c h1 h2=>?_⟩
  ·refine E.const (KB _) (jA _) (fun k _ hk hw=>?_) hc0
   obtain⟨h1,h2⟩:=E.hstep hk
   refine hw.2 ?_
   rw[h2]
   refine h1.old c ?_ hw.1
   cases hb:b k with
   | true=>exact vB hc ((E.lo ops.size (jA _)).2 k hk hb)
   | false=>
    have hx:ops[k]?=some ops[k]:=by simp[hk]
    rw[((E.step hx).no hb).1]
    exact hw.1
  ·obtain⟨k,hk,h3,h4⟩:=E.born h1 ops.size (jA _) h2
   exact(M.cov k hk (hS k hk) c h3 h4).imp (hD c) id
 have hlo:=(E.lo ops.size (jA _)).1
 refine⟨E.R.ob,⟨fun c g hc=>?_,M.hr.inj⟩,M.gk,cB hlo E.R.ln,?_,M.sz,M.df,?_,fun t=>?_⟩
 ·obtain⟨B,q,h1,h2,h3⟩:=M.hr.dom c g hc
  exact⟨B,q,by rw[<-hget];exact h1,h2,h3.mono G⟩
 ·have:=E.R.ext.trans E.R.ob X
  rwa [show min (f 0).lo (f ops.size).lo=(f ops.size).lo by omega] at this
 ·have hrd:=M.rd
  cases ro<;>cases wro<;>simp only[Rd] at hrd ⊢
  exact hrd.imp (hD _) id
 ·rw[<-hT]
  exact VR.mono G _ _ (M.tm t)
theorem zjH{S:Nat->Bool}{i:Nat}(hS:S i=false):∀(l:List Nat),i∈l->(l.countP fun j=>!FK S i j)<l.countP fun j=>!S j
 | [],h=>by simp at h
 | j::l,h=>by
  have mono:∀l:List Nat,(l.countP fun j=>!FK S i j)<=l.countP fun j=>!S j:=fun l=>List.countP_mono_left fun j _ hj=>by
   simp only[Bool.not_eq_true'] at hj ⊢
   exact(sf hj).2
  rw[sI,sI]
  by_cases e:i=j
  ·subst e
   have h1:=mono l
   rw[K3,hS]
   simp only[Bool.not_true,Bool.not_false,if_true]
   simp
   omega
  ·have h1:=zjH hS l (by
    cases h with
    | head=>exact absurd rfl e
    | tail _ h=>exact h)
   rw[cO (fun h=>e h.symm)]
   omega
theorem WX(E:Env C h nt ro wro o ops f r e b cv s0 w0 a0)(hQ:∀s' w' a',SR C h nt ro wro o s' w' (f ops.size) a'->Q .normal a' w'):
  ∀(fuel:Nat) (listed:Array Bool) (S:Nat->Bool) (HS:Heap) (σ:Nat->Option Nat) (T:Tr V) (a:Act) (w:World),listed.size=ops.size->(∀j,j<ops.size->listed.getD j false=S j)->
   ((CB ops.size).countP fun j=>!S j)<=fuel->rV ops (fun j=>S j=true)->Mid C h nt ro wro o ops f r s0 w0 S HS σ T w a->wpAnyIn (WF wro) 0 C.P .any ops Q fuel listed a w:=by
 have getD2:∀(listed:Array Bool) (j:Nat),j<listed.size->listed.getD j true=listed.getD j false:=by
  intro listed j hj
  simp[hj]
 have back:∀(listed:Array Bool) (S:Nat->Bool),listed.size=ops.size->(∀j,j<ops.size->listed.getD j false=S j)->aC .any ops listed=[]->∀j,j<ops.size->S j=true:=by
  intro listed S hl hS hr j
  induction j using Nat.strongRecOn with
  | _ j ih=>
   intro hj
   cases hs:S j with
   | true=>rfl
   | false=>
    exfalso
    have hx:ops[j]?=some ops[j]:=by simp[hj]
    have:j∈aC .any ops listed:=mem_ready.2 ⟨by rw[getD2 _ _ (by omega),hS j hj,hs],ops[j],hx,fun e he hb=>by
     have hlt:=E.reg.back j _ hx e he hb
     rw[hS e.on (by omega)]
     exact ih e.on hlt (by omega)⟩
    rw[hr] at this
    cases this
 intro fuel
 induction fuel with
 | zero=>
  intro listed S HS σ T a w hl hS hc hcl M
  have hall:∀j,j<ops.size->S j=true:=by
   intro j hj
   have h0:=List.countP_eq_zero.1 (Nat.le_zero.1 hc) j (yD.2 hj)
   simpa using h0
  refine⟨?_,hQ σ w a (M.done E hall)⟩
  cases hr:aC .any ops listed with
  | nil=>rfl
  | cons j rest=>
   have hj:j∈aC .any ops listed:=by rw[hr];exact .head _
   obtain⟨h1,y,h2,_⟩:=mem_ready.1 hj
   have hlt:j<ops.size:=(LA.1 h2).1
   rw[getD2 _ _ (by omega),hS j hlt,hall j hlt] at h1
   cases h1
 | succ fuel ih=>
  intro listed S HS σ T a w hl hS hc hcl M
  refine⟨fun hr=>hQ σ w a (M.done E (back listed S hl hS hr)),fun i hi=>?_⟩
  obtain⟨h1,y,h2,h3⟩:=mem_ready.1 hi
  have hlt:i<ops.size:=(LA.1 h2).1
  have hSi:S i=false:=by rw[getD2 _ _ (by omega),hS i hlt] at h1;exact h1
  have hed:∀e∈y.after,Region.binds .any e=true->S e.on=true:=fun e he hb=>by
   have:=E.reg.back i y h2 e he hb
   rw[<-hS e.on (by omega)]
   exact h3 e he hb
  have N:Next ops S i y:=⟨h2,hSi,hed,hcl⟩
  refine M.step E N fun HS' σ' T' w' a' M'=>ih _ (FK S i) HS' σ' T' a' w' (by simp[hl]) (fun j hj=>?_) ?_ (fun j x hj hx e he hb=>?_) M'
  ·by_cases ej:j=i
   ·subst ej
    rw[K3]
    simp[hl,hj]
   ·rw[cO ej,getD_set_ne false (fun h=>ej h.symm)]
    exact hS j hj
  ·have:=zjH hSi (CB ops.size) (yD.2 hlt)
   omega
  ·show FK S i e.on=true
   have hSe:S e.on=true:=by
    by_cases ej:j=i
    ·subst ej
     rw[h2] at hx
     injection hx with hx
     subst hx
     exact hed e he hb
    ·exact hcl j x (by have hj:FK S i j=true:=hj;rwa [cO ej] at hj) hx e he hb
   simp[FK,hSe]
end
theorem jX(C:Ctx):Fj C:=by
 intro n nt ro wro o h s w st st' a ops es Q hop hreg hrun hord R hQ
 obtain⟨f,r,e,b,cv,h0,hN,hl,he,hR⟩:=kR n ops.toList st st' es hop hrun
 rw[cC] at hN hl he
 subst h0
 subst hN
 have E:Env C h nt ro wro o ops f r e b cv s w a:=⟨hR,R,eR hreg,fun i j hij hj hc=>SQ hord hij (he i (by omega)) (he j hj) hc⟩
 have hm0:=E.mono (KB ops.size) (jA _)
 have hex:∃HS:Heap,HS.n=(f ops.size).H.n/\(∀c,c<(f 0).H.n->HS.get c=(f 0).H.get c)/\∀k,k<ops.size->∀c,(f k).H.n<=c->c<(f (k+1)).H.n->HS.get c=(f (k+1)).H.get c:=by
  classical
  let bk:Nat->Nat:=fun c=>if hc:∃k,k<ops.size/\(f k).H.n<=c/\c<(f (k+1)).H.n then Classical.choose hc+1 else 0
  obtain⟨HS,h1,h2⟩:=Heap.mk_of (f ops.size).H.n (fun c=>(f (bk c)).H.get c)
  have uniq:∀k k' c,k<ops.size->k'<ops.size->(f k).H.n<=c->c<(f (k+1)).H.n->(f k').H.n<=c->c<(f (k'+1)).H.n->k=k':=by
   intro k k' c hk hk' a1 a2 b1 b2
   rcases Nat.lt_trichotomy k k' with l|l|l
   ·have:=E.mono (j:=k+1) (k:=k') l (by omega);omega
   ·exact l
   ·have:=E.mono (j:=k'+1) (k:=k) l (by omega);omega
  refine⟨HS,h1,fun c hc=>?_,fun k hk c a1 a2=>?_⟩
  ·rw[h2,if_pos (by omega)]
   have:bk c=0:=by
    simp only[bk]
    rw[dif_neg]
    rintro⟨k,hk,a1,_⟩
    have:=E.mono (KB k) (by omega)
    omega
   rw[this]
  ·have:=E.mono (j:=k+1) (k:=ops.size) hk (jA _)
   rw[h2,if_pos (by omega)]
   have hc:∃k,k<ops.size/\(f k).H.n<=c/\c<(f (k+1)).H.n:=⟨k,hk,a1,a2⟩
   have:bk c=k+1:=by
    simp only[bk]
    rw[dif_pos hc]
    have hs:=Classical.choose_spec hc
    rw[uniq _ k c hs.1 hk hs.2.1 hs.2.2 a1 a2]
   rw[this]
 obtain⟨HS,hn,hold,hnew⟩:=hex
 have hdead:∀c,RC (f 0).H c->RC HS c:=fun c hc=>by rw[RC,hold c (vC hc)];exact hc
 have G:HL s s (RC (f 0).H) (RC HS) (RE (C.ph h) s w) (RE (C.ph h) s w) w w:=⟨hdead,fun _ _ h=>.inl h,fun _ h=>h,fun _ _ _ _ h=>h,fun _ _ h=>h⟩
 have M:Mid C h nt ro wro o ops f r s w (fun _=>false) HS s (f 0).T w a:=by
  refine⟨⟨fun c g hc=>?_,R.hr.inj⟩,R.gk,R.sz,R.df,?_,fun t=>VR.mono G _ _ (R.tm t),fun t=>⟨fun j x hj hd=>rfl,fun _=>rfl⟩,hn,fun c hc=>?_,fun k hk _ c g h1 h2 hg=>?_,fun k hk hS=>absurd hS (by simp),fun k hk _ c h1 h2 j hj hS=>absurd hS (by simp),?_⟩
  ·obtain⟨B,q,h1,h2,h3⟩:=R.hr.dom c g hc
   exact⟨B,q,by rw[hold c (R.hr.lt hc).1];exact h1,h2,h3.mono G⟩
  ·have hrd:=R.rd
   cases ro<;>cases wro<;>simp only[Rd] at hrd ⊢
   exact hrd.imp (hdead _) id
  ·rcases RA c (f 0).H.n with l|l
   ·exact⟨0,KB _,l,hold c l,fun j hj hw=>by simp⟩
   ·obtain⟨k,hk,h3,h4⟩:=E.born l ops.size (jA _) (by omega)
    refine⟨k+1,hk,h4,hnew k hk c h3 h4,fun j hj hw=>?_⟩
    have:k+1<=j:=by
     rcases RA k j with l'|l'
     ·exact l'
     ·have:=E.mono (j:=j) (k:=k) l' (by omega)
      have:=hw.1
      omega
    constructor
    ·intro h;cases h
    ·intro h;omega
  ·have:=E.mono (KB k) (by omega)
   have:=(R.hr.lt hg).1
   omega
  ·exact⟨rfl,rfl,rfl,jA _,hdead,fun _ _ h=>.inl h,fun _ _ _=>rfl,fun _ _ h=>.inl h,fun _ _ h=>h⟩
 refine WX E hQ ops.size _ (fun _=>false) HS s (f 0).T a w (by simp) (fun j hj=>by simp[hj]) ?_ (fun j x hj=>absurd hj (by simp)) M
 exact cB (List.countP_le_length) (by simp)
end
theorem zh1{P:Program}{cv:V->List V->Heap->Option OR}{r:Operand->V}{H:Heap}{op:Op}(h:∀c f,op=.call c->c.callee≠.value f)(h':∀c x name,op=.call c->c.callee≠.invoke x name):rsV P cv r H op=opV P r H op:=by
 unfold rsV
 split
 ·rename_i c
  split
  ·rename_i f hf
   exact absurd hf (h c f rfl)
  ·rename_i x name hf
   exact absurd hf (h' c x name rfl)
  ·rfl
 ·rfl
section
def jH:List (Nat×V)->Tr V
 | []=>.nil
 | (t,v)::r=>YO (jH r) t v
theorem zjU:∀(l:List (Nat×V)) (t:Nat),PD (jH l) t=.any\/∃p∈l,p.1=t/\PD (jH l) t=p.2
 | [],t=>.inl (by simp[jH,PD,Tr.get])
 | (u,v)::r,t=>by
  rw[jH,QM]
  by_cases e:t=u
  ·rw[if_pos e];exact .inr ⟨(u,v),.head _,e.symm,rfl⟩
  ·rw[if_neg e]
   rcases zjU r t with h|⟨p,h1,h2,h3⟩
   ·exact .inl h
   ·exact .inr ⟨p,.tail _ h1,h2,h3⟩
section
variable {C:Ctx} {nt:Nat} {ro wro:Option Nat} {o:yK} {s:Nat->Option Nat} {w:World} {st st':St} {a:Act} {h:Nat->Prop} {Q:Exit->Act->World->Prop}
theorem SR.keep(R:SR C h nt ro wro o s w st a)(l:List (Nat×V))(hl:∀p∈l,PD st.T p.1=p.2):SR C h nt ro wro o s w ⟨jH l,st.H,st.lo⟩ a:=
 ⟨R.ob,R.hr,R.gk,R.ln,R.ext,R.sz,R.df,R.rd,fun t=>by
  show VH (C.ph h) s st.H w (PD (jH l) t) _
  rcases zjU l t with e|⟨p,h1,h2,h3⟩
  ·rw[e];simp[VR]
  ·rw[h3,<-hl p h1,h2];exact R.tm t⟩
theorem zpr{h:Nat->Prop}(hh:∀g,¬h g){cs:List Value}{vs:List V}{H:Heap}(hv:VRs (szP C.P) (fun _=>none) (fun _=>False) (fun g=>g<w.heap.size) w vs cs):UG (C.ph h) (fun _=>none) H w vs cs:=
 VRs.mono ⟨fun _ (h:False)=>h.elim,fun _ _ h=>.inl h,fun g hg=>⟨hg,fun b hb=>(by cases hb),hh g⟩,fun _ _ _ _ h=>h,fun _ _ h=>h⟩ _ _ hv
theorem SR.start{cas:Array Value}{vs:List V}(hg:GW C w)(hv:VRs (szP C.P) (fun _=>none) (fun _=>False) (fun g=>g<w.heap.size) w vs cas.toList)(k:Nat):
  SR C (fun _=>False) (max vs.length k) none none ⟨fun _=>none,.empty,w,[]⟩ (fun _=>none) w ⟨ZJ vs 0 .nil,.empty,0⟩ { tmps:=cas++Array.replicate (k-cas.size) undef,defers:=[] }:=by
 have hl:=hv.length
 have hr:HR (C.ph fun _=>False) (fun _=>none) .empty w:=⟨fun b g hb=>(by cases hb),fun b b' g hb=>(by cases hb)⟩
 have hgk:GOK C (fun _=>False) (fun _=>none) w:=⟨fun g hg=>hg.elim,fun g cs hc=>⟨⟨(hg g cs hc).1,fun b hb=>(by cases hb),fun hh=>hh⟩,(hg g cs hc).2⟩⟩
 have hv':UG (C.ph fun _=>False) (fun _=>none) .empty w vs cas.toList:=zpr (h:=fun _=>False) (fun _ h=>h) hv
 refine⟨fun b g hb=>(by cases hb),hr,hgk,KB _,Ext.refl (fun _=>none) Heap.empty w,?_,⟨[],rfl,dE,fun r hr=>by cases hr⟩,trivial,F3 hv' _⟩
 simp only[cC] at hl
 simp only[Array.size_append,Array.size_replicate]
 omega
end
def lY(f:Func):Code:=f.body.getD .skip
end
section
structure Og(C:Ctx)(h:Nat->Prop)(H0:Heap)(o:yK):Prop where
 e:o.H=H0
 hb:∀g,h g->g<o.w.heap.size
 hr:HR (C.ph h) o.s o.H o.w
def W(C:Ctx)(nt:Nat)(ro:Option Nat)(H0:Heap)(c:Code)(st:St)(Q:Ex->St->Prop):Prop:=
 ∀(h:Nat->Prop) (wro:Option Nat) (o:yK) (s:Nat->Option Nat) (w:World) (a:Act) (Qw:Exit->Act->World->Prop),
  Og C h H0 o->SR C h nt ro wro o s w st a->
  (∀x st' s' w' a',Q x st'->SR C h nt ro wro o s' w' st' a'->Qw x.to a' w')->c.wpIn (WF wro) 0 C.P Qw a w
def MVal(C:Ctx)(f:V)(args:List V)(H:Heap)(Q:OR->Prop):Prop:=
 ∀(h:Nat->Prop) (wro:Option Nat) (s:Nat->Option Nat) (w:World) (cf:Value) (cas:List Value) (K:Value->World->Prop),
  HR (C.ph h) s H w->GOK C h s w->VH (C.ph h) s H w f cf->UG (C.ph h) s H w args cas->
  (∀r,Q r->∀c w' s',VH (C.ph h) s' r.H w' r.v c->HR (C.ph h) s' r.H w'->Ext r.lo s H w s' r.H w'->K c w')->eP C.P wro cf cas w K
def Sub(C:Ctx)(nt:Nat)(ro:Option Nat)(H0:Heap)(st st2:St):Prop:=
 ∀(h:Nat->Prop) (wro:Option Nat) (o:yK) (s:Nat->Option Nat) (w:World) (a:Act),
  Og C h H0 o->SR C h nt ro wro o s w st a->∃s2,SR C h nt ro wro o s2 w st2 a
section
variable {C:Ctx} {nt:Nat} {ro:Option Nat} {H0:Heap} {st st2:St} {Q Q':Ex->St->Prop}
theorem Sub.refl:Sub C nt ro H0 st st:=fun _ _ _ s _ _ _ R=>⟨s,R⟩
theorem Sub.trans{st3:St}(h:Sub C nt ro H0 st st2)(k:Sub C nt ro H0 st2 st3):Sub C nt ro H0 st st3:=fun h' wro o s w a og R=>
 let ⟨_,R2⟩:=h h' wro o s w a og R
 k h' wro o _ w a og R2
theorem W.pre(h:Sub C nt ro H0 st st2){c:Code}(k:W C nt ro H0 c st2 Q):W C nt ro H0 c st Q:=fun h' wro o s w a Qw og R hk=>
 let ⟨s2,R2⟩:=h h' wro o s w a og R
 k h' wro o s2 w a Qw og R2 hk
theorem W.mono{c:Code}(k:W C nt ro H0 c st Q)(hq:∀x st',Q x st'->Q' x st'):W C nt ro H0 c st Q':=fun h' wro o s w a Qw og R hk=>
 k h' wro o s w a Qw og R fun x st' s' w' a' q R'=>hk x st' s' w' a' (hq x st' q) R'
theorem MCall.mono{g:FuncId}{args:List V}{H:Heap}{Q Q':OR->Prop}(k:MCall C g args H Q)(hq:∀r,Q r->Q' r):MCall C g args H Q':=fun h s w cas K h1 h2 h3 h4=>
 k h s w cas K h1 h2 h3 fun r q=>h4 r (hq r q)
theorem MVal.fn{g:FuncId}{first cap args:List V}{H:Heap}{Q:OR->Prop}(k:MCall C g (first++args++cap) H Q):MVal C (.fn (.func g) first cap) args H Q:=by
 intro h wro s w cf cas K hr hg hf ha hk
 obtain⟨xs,ys,e,h1,h2⟩:=hf
 refine .inr (.inl ⟨g,xs,ys,e,k h s w _ K hr hg ?_ hk⟩)
 have:=(h1.append ha).append h2
 simpa using this
theorem MVal.yld{b:Nat}{args ts:List V}{ps:List Tmp}{as0 bd:Code}{pend:Option Code}{H:Heap}{Q:OR->Prop}(hb:H.get b=some (.loop ts ps as0 bd .ready pend))(hlen:args.length=ps.length)(hps:∀p∈ps,p<ts.length)
  (k:W C ts.length (some b) H as0 ⟨BX ps args (ZJ ts 0 .nil),H,H.n⟩ fun x st1=>x=.normal/\∃ts1 ps1 as1 bd1 pend1,st1.H.get b=some (.loop ts1 ps1 as1 bd1 .ready pend1)/\
   W C ts.length (some b) H bd ⟨st1.T,st1.H.set b (.loop ts1 ps1 as1 bd1 .busy pend1),min st1.lo b⟩ fun x st3=>∃ts3 ps3 as3 bd3 state3 pend3,st3.H.get b=some (.loop ts3 ps3 as3 bd3 state3 pend3)/\
    Q ⟨.lit (.bool (eS x)),st3.H.set b (.loop ts3 ps3 as3 bd3 (YR x) (uN x)),min st3.lo b⟩):MVal C (.yld b) args H Q:=by
 intro h wro s w cf cas K hr hg hf ha hk
 obtain⟨l,rfl,hl⟩:=hf
 obtain⟨hs,L,h1,h2,h3,h4,h5,h6,h7⟩:=bV hr hb hl
 subst h3 h4
 have hsize:cas.toArray.size=L.params.size:=by rw[h2];simp only[List.size_toArray];have:=ha.length;omega
 refine .inr (.inr ⟨l,_,_,_,_,rfl,run_yield h1 hsize,?_⟩)
 have htm0:∀t,VH (C.ph h) s H w (PD (ZJ ts 0 .nil) t) (L.tmps.getD t undef):=fun t=>by
  have:=F3 (C:=C) (h:=h) (cas:=L.tmps) h7 0 t
  simpa using this
 obtain⟨hsz,htm⟩:=zoV (nt:=ts.length) ps args cas (ZJ ts 0 .nil) L.tmps ha (by have:=h7.length;simpa using this) htm0 hps hlen.symm
 have R:SR C h ts.length (some b) (some l) ⟨s,H,w,[]⟩ s w ⟨BX ps args (ZJ ts 0 .nil),H,H.n⟩ { tmps:=(L.params.zip cas.toArray).foldl (fun(tmps:Array Value) (x:Tmp×Value)=>tmps.setIfInBounds x.1 x.2) L.tmps,defers:=[] }:=by
  rw[h2,zlv]
  exact⟨fun b g hb=>(hr.lt hb).1,hr,hg,jA _,Ext.refl _ _ _,hsz,⟨[],rfl,dE,fun r hr=>by cases hr⟩,.inr hs,htm⟩
 refine roundIn_of_wpIn (F:=WF wro) (R:=fun e w'=>∃v,e=.returned v/\K v w') trivial ?_
 have og:Og C h H ⟨s,H,w,[]⟩:=⟨rfl,hg.1,hr⟩
 refine k h (some l) _ s w _ _ og R fun x st1 s1 w1 a1 q1 R1=>?_
 obtain⟨rfl,ts1,ps1,as1,bd1,pend1,hb1,k2⟩:=q1
 obtain⟨k0,L1,k1,q2,k3,k4,k5,k6,k7⟩:=bV R1.hr hb1 R1.rd
 obtain⟨m1,m2⟩:=C7 R1.hr k0 (st:=.busy) (pd:=pend1) k1 q2 k3 k4 k7 { L1 with state:=.busy } rfl rfl rfl rfl rfl k6
 refine⟨_,run_beginRound k1 k5,?_⟩
 have R2:=R1.turn m1 m2
 refine k2 h (some l) _ s1 _ a1 _ og R2 fun x st3 s3 w3 a3 q3 R3=>?_
 obtain⟨ts3,ps3,as3,bd3,state3,pend3,hb3,hQ⟩:=q3
 obtain⟨q0,L3,q1,q2,q3,q4,q5,q6,q7⟩:=bV R3.hr hb3 R3.rd
 have fin:∀(jump:Option Code),uN x=jump->∃v w',(Instr.endRound l jump).run C.P w3=.ok v w'/\∃v',Ending.returned v=.returned v'/\K v' w':=by
  intro jump hj
  obtain⟨m3,m4⟩:=C7 R3.hr q0 (st:=YR x) (pd:=uN x) q1 q2 q3 q4 q7 { L3 with state:=if jump.isNone then .ready else .done,pending:=jump } rfl rfl rfl rfl (by subst hj;cases x<;>rfl) hj.symm
  refine⟨_,_,run_endRound jump q1,_,rfl,?_⟩
  have R4:=R3.turn m3 m4
  refine hk _ hQ _ _ s3 ?_ m3 R4.ext
  subst hj
  cases x<;>simp[VR,eS,uN]
 cases x with
 | normal=>exact fin none rfl
 | ret=>exact fin _ rfl
 | exit i=>exact fin _ rfl
def OQ(o:Option OR)(Q:OR->Prop):Prop:=
 match o with
 | some r=>Q r
 | none=>False
def BM(C:Ctx)(r:Operand->V)(H:Heap)(op:Op)(Q:OR->Prop):Prop:=
 match op with
 | .call c=>match c.callee with
  | .value f=>MVal C (r f) (c.args.toList.map r) H Q
  | .invoke x name=>MVal C (.fn (.method name) [r x] []) (c.args.toList.map r) H Q
  | _=>OQ (opV C.P r H op) Q
 | _=>OQ (opV C.P r H op) Q
theorem zo6{ρ:Operand->V}{H:Heap}{o:Oper}{Q:OR->Prop}{h:Nat->Prop}{wro:Option Nat}{s:Nat->Option Nat}{w:World}{a:Act}{K:Act->World->Prop}{Qe:Exit->Act->World->Prop}(hv:BM C ρ H o.op Q)
  (hr:HR (C.ph h) s H w) (hg:GOK C h s w) (he:∀x,VH (C.ph h) s H w (ρ x) (a.eval x)) (hk:∀r,Q r->∀c w' s',VH (C.ph h) s' r.H w' r.v c->HR (C.ph h) s' r.H w'->Ext r.lo s H w s' r.H w'->K (a.put o.dst c) w'):o.wpIn (WF wro) 0 C.P a w K Qe:=by
 have plain:OQ (opV C.P ρ H o.op) Q->o.wpIn (WF wro) 0 C.P a w K Qe:=by
  intro hq
  cases hop:opV C.P ρ H o.op with
  | none=>rw[hop] at hq;exact hq.elim
  | some r=>
   rw[hop] at hq
   refine PQ (C:=C) (cv:=fun _ _ _=>none) (fun _ _ _ _ _ _ _ _ _ _ _ _ _ _ _ h=>by cases h) h wro s H w ρ o r a K Qe hr hg (fun x _=>he x) ?_ (hk r hq)
   rw[zh1]
   ·exact hop
   ·intro c f e1 e2
    rw[e1] at hop
    simp only[opV,e2] at hop
    cases hop
   ·intro c x name e1 e2
    rw[e1] at hop
    simp only[opV,e2] at hop
    cases hop
 unfold BM at hv
 split at hv
 ·rename_i c ho
  have hdef:∀c,o.op≠.defer c:=by intro c e;rw[ho] at e;cases e
  have ha:UG (C.ph h) s H w (c.args.toList.map ρ) (c.args.toList.map a.eval):=VRs.ofMap he _
  have e3:(c.args.toList.map a.eval).toArray=c.args.map a.eval:=by
   apply xF
   simp
  split at hv
  ·rename_i f hf
   refine⟨fun _ _=>trivial,?_⟩
   rw[Oper.semAt_eq _ _ _ hdef]
   rcases hv h wro s w (a.eval f) _ (fun c w'=>K (a.put o.dst c) w') hr hg (he f) ha hk with⟨name,xs,ys,t,x,rest,g,e,ex,hm,hcall⟩|⟨g,xs,ys,e,hcall⟩|⟨l,fn,tmps,assign,body,e,hy,hround⟩
   ·rw[e3] at ex
    have e2:(execOp a.eval o).run C.P w=(callFunc g (#[x]++rest)).run C.P w:=by
     rw[<-ak hm x rest,<-ex]
     simp[execOp,ho,resolve,hf,e,nD]
     rfl
    rw[e2]
    exact hcall.upon fun v w' h=>h
   ·have e2:(execOp a.eval o).run C.P w=(callFunc g (xs++(c.args.toList.map a.eval).toArray++ys)).run C.P w:=by
     rw[e3]
     simp[execOp,ho,resolve,hf,e,nD,invoke]
    rw[e2]
    exact hcall.upon fun v w' h=>h
   ·have e2:(execOp a.eval o).run C.P w=(Instr.yield l (c.args.toList.map a.eval).toArray).run C.P w:=by
     rw[e3]
     simp[execOp,ho,resolve,hf,e,nD,invoke]
    rw[e2,hy]
    refine⟨fun hd=>by simp[Fence.wide] at hd,?_⟩
    exact RoundIn.mono hround fun e w'' he=>by
     obtain⟨v,rfl,h⟩:=he
     exact h
  ·rename_i xr name hf
   refine⟨fun _ _=>trivial,?_⟩
   rw[Oper.semAt_eq _ _ _ hdef]
   have hfv:VH (C.ph h) s H w (.fn (.method name) [ρ xr] []) (.func (.method name) #[a.eval xr] #[]):=⟨#[a.eval xr],#[],rfl,⟨_,_,rfl,he xr,rfl⟩,rfl⟩
   rcases hv h wro s w _ _ (fun c w'=>K (a.put o.dst c) w') hr hg hfv ha hk with⟨name',xs,ys,t,x,rest,g,e,ex,hm,hcall⟩|⟨g,xs,ys,e,hcall⟩|⟨l,fn,tmps,assign,body,e,hy,hround⟩
   ·injection e with e1 e2 e4
    injection e1 with e1
    subst e1 e2 e4
    rw[e3] at ex
    have e2:(execOp a.eval o).run C.P w=(callFunc g (#[x]++rest)).run C.P w:=by
     rw[<-ak hm x rest,<-ex]
     simp[execOp,ho,resolve,hf]
    rw[e2]
    exact hcall.upon fun v w' h=>h
   ·injection e with e1;cases e1
   ·injection e with e1;cases e1
  ·exact plain hv
 ·exact plain hv
def Oe(C:Ctx)(ds:List (Option Tmp))(o:Oper)(st:St)(K:OR->Prop):Prop:=
 match o.guard with
 | none=>BM C (HD C st.T) st.H o.op K
 | some (j,want)=>match (ds[j]?).join with
  | none=>False
  | some d=>match PD st.T d with
   | .lit (.bool b)=>bif (bif want then b else !b) then BM C (HD C st.T) st.H o.op K else K ⟨EH,st.H,st.H.n⟩
   | .tup []=>K ⟨EH,st.H,st.H.n⟩
   | _=>False
def lM(C:Ctx)(nt:Nat)(ds:List (Option Tmp)):List Oper->St->(St->Prop)->Prop
 | [],st,Q=>Q st
 | o::l,st,Q=>nL nt o.dst=true/\Oe C ds o st fun r=>lM C nt ds l ⟨OG st.T o.dst r.v,r.H,min st.lo r.lo⟩ Q
theorem F2{h:Nat->Prop}{wro:Option Nat}{o:yK}{ops:Array Oper}{Qw:Exit->Act->World->Prop}{Qo:St->Prop}(hk:∀st' s' w' a',Qo st'->SR C h nt ro wro o s' w' st' a'->Qw .normal a' w'):
  ∀(l:List Oper) (st:St) (s:Nat->Option Nat) (w:World) (a:Act),lM C nt (ops.toList.map (·.dst)) l st Qo->SR C h nt ro wro o s w st a->wpListIn (WF wro) 0 C.P ops Qw l a w
 | [],st,s,w,a,hv,R=>hk st s w a hv R
 | x::l,st,s,w,a,hv,R=>by
  obtain⟨hd,hv⟩:=hv
  refine wpListIn_step fun K hK=>?_
  have skip:lM C nt (ops.toList.map (·.dst)) l ⟨OG st.T x.dst EH,st.H,min st.lo st.H.n⟩ Qo->K (a.put x.dst undef) w:=fun hv=>by
   refine hK _ _ (F2 hk l _ s w _ hv ?_)
   exact R.step hd (r:=⟨EH,st.H,st.H.n⟩) (c:=undef) ⟨#[],rfl,by simp[VRs]⟩ R.hr (Ext.refl _ _ _)
  have go:BM C (HD C st.T) st.H x.op (fun r=>lM C nt (ops.toList.map (·.dst)) l ⟨OG st.T x.dst r.v,r.H,min st.lo r.lo⟩ Qo)->x.wpIn (WF wro) 0 C.P a w K Qw:=fun hv=>
   zo6 hv R.hr R.gk (fun y=>XM R.gk R.tm y) fun r hr c w' s' h1 h2 h3=>hK _ _ (F2 hk l _ s' w' _ hr (R.step hd h1 h2 h3))
  unfold Oe at hv
  have hw:∀r,XJ ops st.T x=some r->oD x (yielded ops a.tmps)=r:=fun r hr=>Bj R.tm hr
  split at hv
  ·rename_i hgd
   rw[hw true (by simp only[XJ,hgd])]
   exact go hv
  ·rename_i j want hgd
   split at hv
   ·exact hv.elim
   ·rename_i d hdd
    replace hdd:(ops[j]?).bind (·.dst)=some d:=by
     rw[<-hdd,List.getElem?_map,Array.getElem?_toList]
     cases ops[j]?<;>rfl
    split at hv
    ·rename_i b hb
     rw[hw (bif want then b else !b) (by simp only[XJ,hgd,hdd,hb])]
     cases hbw:(bif want then b else !b) with
     | true=>rw[hbw] at hv;exact go hv
     | false=>
      rw[hbw] at hv
      simp only[ZA,if_false]
      exact⟨fun _ _=>trivial,skip hv⟩
    ·rename_i hb
     rw[hw false (by simp only[XJ,hgd,hdd,hb])]
     simp only[ZA,if_false]
     exact⟨fun _ _=>trivial,skip hv⟩
    ·exact hv.elim
def vO(C:Ctx)(nt:Nat)(ops:Array Oper)(st:St)(Q:St->Prop):Prop:=
 wV ops=true/\∃(S':FuncId->Option Sm),(∀g F,S' g=some F->F.OK C g)/\∃n es st',IK { C with S:=S' } n nt ops ops.toList st=some (es,st')/\O3 ops es=true/\Q st'
theorem Sm.OK.of_same{S':FuncId->Option Sm}{g:FuncId}:∀{F:Sm},F.OK C g->F.OK { C with S:=S' } g
 | .pure _,h=>h
 | .mem _,h=>h
theorem SR.of_same{S':FuncId->Option Sm}{h:Nat->Prop}{wro:Option Nat}{o:yK}{s:Nat->Option Nat}{w:World}{a:Act}(R:SR C h nt ro wro o s w st a):SR { C with S:=S' } h nt ro wro o s w st a:=
 ⟨R.ob,R.hr,R.gk,R.ln,R.ext,R.sz,R.df,R.rd,R.tm⟩
theorem SR.to_same{S':FuncId->Option Sm}{h:Nat->Prop}{wro:Option Nat}{o:yK}{s:Nat->Option Nat}{w:World}{a:Act}(R:SR { C with S:=S' } h nt ro wro o s w st a):SR C h nt ro wro o s w st a:=
 ⟨R.ob,R.hr,R.gk,R.ln,R.ext,R.sz,R.df,R.rd,R.tm⟩
theorem zo7(hmix:C.P.follows .mixedOrders=true){ops:Array Oper}{i:Nat}{Qo:St->Prop}(hv:vO C nt ops st Qo):W C nt ro H0 (.region i ops true) st fun x st'=>x=.normal/\Qo st':=by
 intro h wro o s w a Qw og R hk
 obtain⟨h1,S',hS,n,es,st',h2,h3,h4⟩:=hv
 have hC:DV { C with S:=S' }:=⟨hmix,fun g F hF=>(hS g F hF).of_same⟩
 exact wpIn_region_any hmix (jX { C with S:=S' } n nt ro wro o h s _ st st' a ops es Qw (fun m hm=>(UN hC (jX _) m).2.2) h1 h2 h3 (SR.of_same R).drew fun s' w' a' R'=>hk _ _ _ _ _ ⟨rfl,h4⟩ (SR.to_same R'))
def vc(C:Ctx)(nt:Nat)(ro:Option Nat)(H0:Heap):Code->St->(Ex->St->Prop)->Prop
 | .skip,st,Q=>Q .normal st
 | .label _,st,Q=>Q .normal st
 | .region _ ops draw,st,Q=>bif draw then vO C nt ops st (Q .normal) else lM C nt (ops.toList.map (·.dst)) ops.toList st (Q .normal)
 | .seq a b,st,Q=>vc C nt ro H0 a st fun x st'=>match x with
  | .normal=>vc C nt ro H0 b st' Q
  | x=>Q x st'
 | .cond c a b,st,Q=>match HD C st.T c with
  | .lit (.bool t)=>bif t then vc C nt ro H0 a st Q else vc C nt ro H0 b st Q
  | _=>False
 | .block id b,st,Q=>vc C nt ro H0 b st fun x st'=>match x with
  | .exit i=>bif kB i id then Q .normal st' else Q (.exit i) st'
  | x=>Q x st'
 | .exit i,st,Q=>Q (.exit i) st
 | .ret,st,Q=>Q .ret st
 | c,st,Q=>W C nt ro H0 c st Q
theorem Re(hmix:C.P.follows .mixedOrders=true):∀(c:Code) (st:St) (Q:Ex->St->Prop),vc C nt ro H0 c st Q->W C nt ro H0 c st Q:=by
 intro c
 induction c with
 | skip=>intro st Q hv h wro o s w a Qw og R hk;exact wpIn_skip (hk _ _ _ _ _ hv R)
 | label l=>intro st Q hv h wro o s w a Qw og R hk;exact wpIn_label (hk _ _ _ _ _ hv R)
 | exit i=>intro st Q hv h wro o s w a Qw og R hk;exact wpIn_exit (hk _ _ _ _ _ hv R)
 | ret=>intro st Q hv h wro o s w a Qw og R hk;exact wpIn_ret (hk _ _ _ _ _ hv R)
 | region i ops draw=>
  intro st Q hv
  cases draw with
  | true=>
   have hv:vO C nt ops st (Q .normal):=hv
   refine(zo7 hmix hv).mono ?_
   rintro x st' ⟨rfl,q⟩
   exact q
  | false=>
   have hv:lM C nt (ops.toList.map (·.dst)) ops.toList st (Q .normal):=hv
   intro h wro o s w a Qw og R hk
   exact wpIn_region_list (F2 (fun st' s' w' a' q R'=>hk .normal st' s' w' a' q R') _ _ _ _ _ hv R)
 | seq b d ihb ihd=>
  intro st Q hv h wro o s w a Qw og R hk
  refine wpIn_seq (ihb st _ hv h wro o s w a _ og R fun x st1 s1 w1 a1 q R1=>?_)
  cases x with
  | normal=>exact ihd st1 Q q h wro o s1 w1 a1 Qw og R1 hk
  | exit i=>exact hk _ _ _ _ _ q R1
  | ret=>exact hk _ _ _ _ _ q R1
 | cond q b d ihb ihd=>
  intro st Q hv h wro o s w a Qw og R hk
  unfold vc at hv
  split at hv
  ·rename_i t ht
   have h1:=XM R.gk R.tm q
   rw[ht] at h1
   simp only[VH,VR] at h1
   refine wpIn_cond h1 ?_
   cases t with
   | true=>exact ihb st Q hv h wro o s w a Qw og R hk
   | false=>exact ihd st Q hv h wro o s w a Qw og R hk
  ·exact hv.elim
 | block id b ih=>
  intro st Q hv h wro o s w a Qw og R hk
  refine wpIn_block (ih st _ hv h wro o s w a _ og R fun x st1 s1 w1 a1 q R1=>?_)
  cases x with
  | normal=>exact hk _ _ _ _ _ q R1
  | exit i=>
   simp only[Ex.to,Exit.inBlock]
   by_cases e:i=id
   ·rw[if_pos e]
    simp only[BJ e,cond_true] at q
    exact hk _ _ _ _ _ q R1
   ·rw[if_neg e]
    simp only[bN e,cond_false] at q
    exact hk _ _ _ _ _ q R1
  | ret=>exact hk _ _ _ _ _ q R1
 | _=>intro st Q hv;exact hv
theorem W.loop{ι:Type}(S:ι->St)(inv:ι->Prop)(m:ι->Nat)(i0:ι){b:Code}(h0:inv i0)(hs:Sub C nt ro H0 st (S i0))
  (hb:∀i,inv i->W C nt ro H0 b (S i) fun x st'=>match x with
   | .normal=>∃j,inv j/\m j<m i/\Sub C nt ro H0 st' (S j)
   | x=>Q x st'):W C nt ro H0 (.loop b) st Q:=by
 intro h wro o s w a Qw og R hk
 obtain⟨s2,R2⟩:=hs h wro o s w a og R
 have go:∀(k:Nat) (i:ι) (s:Nat->Option Nat) (w:World) (a:Act),m i<k->inv i->SR C h nt ro wro o s w (S i) a->Code.roundsIn (WF wro) 0 C.P b Qw k a w:=by
  intro k
  induction k with
  | zero=>intro i s w a hm;omega
  | succ k ih=>
   intro i s w a hm hi R
   rw[roundsIn_succ]
   refine hb i hi h wro o s w a _ og R fun x st1 s1 w1 a1 q R1=>?_
   cases x with
   | normal=>
    obtain⟨j,hj,hlt,hsub⟩:=q
    obtain⟨s3,R3⟩:=hsub h wro o s1 w1 a1 og R1
    exact ih j s3 w1 a1 (by omega) hj R3
   | exit i=>exact hk _ _ _ _ _ q R1
   | ret=>exact hk _ _ _ _ _ q R1
 exact wpIn_loop_rounds _ (go (m i0+1) i0 s2 w a (by omega) h0 R2)
theorem W.range {q : Operand} {ps : Array Tmp} {assign body : Code} {g : FuncId} {fn : Func} {first cap : List V} (hro : mN st.H ro = true) (hq : HD C st.T q = .fn (.func g) first cap) (hf : C.P.funcs[g]? = some fn) (hb : fn.body.isSome = true) (hn : fn.name ≠ "runtime.NumGoroutine")
  (k:MCall C g (first++[.yld st.H.n]++cap) (st.H.push (.loop ((CB nt).map (PD st.T)) ps.toList assign body .ready none)) fun r=>
   ∃ts ps' as0 bd sta pd,r.H.get st.H.n=some (.loop ts ps' as0 bd sta pd)/\sta≠.busy/\match pd with
    | none=>Q .normal ⟨st.T,r.H.set st.H.n (.loop ts ps' as0 bd .exhausted pd),min st.lo r.lo⟩
    | some c=>W C nt ro H0 c ⟨st.T,r.H.set st.H.n (.loop ts ps' as0 bd .exhausted pd),min st.lo r.lo⟩ Q):W C nt ro H0 (.rangeFunc q ps assign body) st Q:=by
 intro h wro o s w a Qw og R hk
 have hv:=XM R.gk R.tm q
 rw[hq] at hv
 obtain⟨xs,ys,ev,hx,hy⟩:=hv
 refine wpIn_rangeFunc fun fn' _=>?_
 obtain⟨l,mark,w₁,s₁,h1,h2,R1,E1⟩:=zjz R hro fn' ps assign body
 have hargs:UG (C.ph h) s₁ (st.H.push (.loop ((CB nt).map (PD st.T)) ps.toList assign body .ready none)) w₁ (first++[.yld st.H.n]++cap) (xs++#[Value.func (.yield l) #[] #[]]++ys).toList:=by
  have h3:UG (C.ph h) s₁ (st.H.push (.loop ((CB nt).map (PD st.T)) ps.toList assign body .ready none)) w₁ [.yld st.H.n] [Value.func (.yield l) #[] #[]]:=⟨_,_,rfl,⟨l,rfl,.inr h2⟩,rfl⟩
  have:=((E1.vhs hx).append h3).append (E1.vhs hy)
  simpa using this
 have hrun:(callFunc g (xs++#[Value.func (.yield l) #[] #[]]++ys)).run C.P w₁=.ok (.enter g (xs++#[Value.func (.yield l) #[] #[]]++ys)) w₁:=by
  obtain⟨bd,hb⟩:=XC.1 hb
  simp[callFunc,hf,hn,hb]
 refine⟨l,mark,w₁,{ target:=.fn (.func g) ys,args:=xs++#[Value.func (.yield l) #[] #[]] },w₁,g,xs++#[Value.func (.yield l) #[] #[]]++ys,w₁,h1,?_,fun _ _=>trivial,?_,fun hd=>by simp[Fence.wide] at hd,?_⟩
 ·show(nD (a.eval q) _).run C.P w₁=_
  rw[ev]
  simp[nD,Act.eval]
 ·simpa[invoke] using hrun
 ·have hc:CallF C.P g (xs++#[Value.func (.yield l) #[] #[]]++ys) w₁ (fun c w'=>rangePost (WF wro) 0 C.P l Qw { a with defers:=mark++a.defers } (.returned c) w'):=by
   refine k h s₁ w₁ _ _ R1.hr R1.gk hargs fun r hr c w' s' k1 k2 k3=>?_
   obtain⟨ts,ps',as0,bd,sta,pd,hb,hsta,hQ⟩:=hr
   have R2:=R1.turn k2 k3
   have hdead:RC r.H st.H.n\/s' st.H.n=some l:=(k3.ss _ _ h2).elim .inr fun x=>.inl x.1
   obtain⟨q1,L,q2,q3,q4,q5,q6,q7,q8⟩:=bV k2 hb hdead
   obtain⟨m1,m2⟩:=C7 k2 q1 (st:=.exhausted) (pd:=pd) q2 q3 q4 q5 q8 { L with state:=.exhausted } rfl rfl rfl rfl rfl q7
   have R3:=R2.turn m1 m2
   have e:min (min st.lo r.lo) st.H.n=min st.lo r.lo:=by have:=R.lon;omega
   simp only[e] at R3
   refine⟨_,_,run_endLoop q2 (by rw[q6];exact hsta),?_⟩
   subst q7
   cases hj:L.pending with
   | none=>simp only[hj] at hQ R3 ⊢;exact hk _ _ _ _ _ hQ R3
   | some cc=>simp only[hj] at hQ R3 ⊢;exact hQ h wro o s' _ _ Qw og R3 hk
  unfold CallF at hc
  rw[hrun] at hc
  simp only at hc
  exact zfP _ (Calls.mono hc fun e w'' hh=>by
   obtain⟨v,rfl,h4⟩:=hh
   exact h4)
end
end
section
def i7:V->Option (List UInt8)
 | .lit (.string s)=>some s.data.toList
 | .lit (.slice none _ _)=>some []
 | .ps cells len=>bif DF len cells.length then EL (cells.take len) else none
 | .pn cells len=>bif DF len cells.length then EL (cells.take len) else none
 | _=>none
section
variable {P:Program} {z:TypeId->Nat} {w:World}
theorem zed{pr:Nat->Prop}:∀(cells:List V) (bs:List UInt8) (cs:List Value) (g off:Nat) (acc:ByteArray),EL cells=some bs->VRs z (fun _=>none) (fun _=>False) pr w cells cs->HoldsAt w ⟨g,off,none⟩ cs->
  (AF ⟨g,off,none⟩ cells.length acc).run P w=.ok ⟨acc.data++bs.toArray⟩ w
 | [],bs,cs,g,off,acc,h,_,_=>by
  simp only[EL,Option.some.injEq] at h
  subst h
  simp[AF]
 | v::r,bs,cs,g,off,acc,h,hv,ha=>by
  unfold EL at h
  split at h
  ·cases ‹v::r=[]›
  ·rename_i n r' e
   injection e with e1 e2
   subst e1 e2
   obtain⟨bs',h1,rfl⟩:=Option.map_eq_some_iff.1 h
   obtain⟨c,cs',rfl,hc,hcs⟩:=hv
   simp only[VR] at hc
   subst hc
   have h0:w.cell? ⟨g,off,none⟩=some (.int .u8 n):=by simpa using ha 0 _ rfl
   have ih:=zed r bs' cs' g (off+1) (acc.push n.toNat.toUInt8) h1 hcs (fun i c hi=>by
    have:=ha (i+1) c (by simpa using hi)
    simpa[Nat.add_assoc,Nat.add_comm 1 i] using this)
   have hl:(load ⟨g,off,none⟩:Sem Value).run P w=.ok (.int .u8 n) w:=by simp[load,Sem.run,h0]
   simp only[List.length_cons,AF,Sem.run_bind,hl,Result.andThen_ok]
   have e:(⟨g,off,none⟩:Addr).add 1=⟨g,off+1,none⟩:=by simp[Addr.add]
   rw[e,ih]
   simp
  ·cases h
theorem zf5{pr:Nat->Prop}{v:V}{c:Value}{bs:List UInt8}(h:i7 v=some bs)(hv:VR z (fun _=>none) (fun _=>False) pr w v c):(eD c).run P w=.ok ⟨bs.toArray⟩ w:=by
 unfold i7 at h
 split at h
 ·rename_i s
  simp only[VR] at hv
  subst hv
  injection h with h
  subst h
  simp[eD]
 ·simp only[VR] at hv
  subst hv
  injection h with h
  subst h
  simp[eD]
  rfl
 ·rename_i cells len
  cases hl:DF len cells.length with
  | false=>rw[hl] at h;cases h
  | true=>
   rw[hl] at h
   have hl:=QG hl
   obtain⟨g,off,cap,cs,rfl,_,_,hvs,ha⟩:=hv
   have:=zed (P:=P) (cells.take len) bs (cs.take len) g off .empty h (hvs.take len) (fun i c hi=>by
    rw[xD] at hi
    split at hi
    ·exact ha i c hi
    ·cases hi)
   rw[JB,LF hl] at this
   simpa[eD] using this
 ·rename_i cells len
  cases hl:DF len cells.length with
  | false=>rw[hl] at h;cases h
  | true=>
   rw[hl] at h
   have hl:=QG hl
   rcases hv with⟨rfl,rfl,rfl|⟨a,cap,rfl⟩⟩|⟨g,off,cap,cs,rfl,_,_,hvs,ha⟩
   ·have h:some ([]:List UInt8)=some bs:=h
    injection h with h
    subst h
    simp[eD]
    rfl
   ·have h:some ([]:List UInt8)=some bs:=h
    injection h with h
    subst h
    simp[eD,AF]
    rfl
   ·have:=zed (P:=P) (cells.take len) bs (cs.take len) g off .empty h (hvs.take len) (fun i c hi=>by
     rw[xD] at hi
     split at hi
     ·exact ha i c hi
     ·cases hi)
    rw[JB,LF hl] at this
    simpa[eD] using this
 ·cases h
end
def xY:List V->Option V
 | [a,b]=>match i7 a,i7 b with
  | some x,some y=>some (.lit (.int .i64 (Lib.compareBytes x y)))
  | _,_=>none
 | _=>none
theorem zlK {C : Ctx} {g : FuncId} {fn : Func} (hf : C.P.funcs[g]? = some fn) (hname : (fn.name == "runtime.NumGoroutine") = false) (hb : fn.body.isNone = true) (hn : Extern.findNext fn = none) (he : Extern.find fn = some uF) : Contract C g xY := by
 intro w vs cs v hg hv h
 unfold xY at h
 split at h
 ·rename_i a b
  split at h
  ·rename_i x y hx hy
   injection h with h
   subst h
   obtain⟨ca,cs1,e1,ha,cb,cs2,e2,hb2,e3⟩:=hv
   have hcs:cs=#[ca,cb]:=by
    apply xF
    rw[e1,e2,e3]
   subst hcs
   unfold CallF
   rw[run_callFunc_extern hf hname hb hn he]
   have hr:(uF #[ca,cb]).run C.P w=.ok (.int .i64 (Lib.compareBytes x y)) w:=by
    change Sem.run C.P (do pure (goInt (Extern.BytealgCompare.cmp (<-eD ca) (<-eD cb)))) w=_
    simp only[Sem.run_bind,zf5 hx ha,zf5 hy hb2,Result.andThen_ok,Sem.run_pure,Lib.cmp_eq]
    rfl
   rw[hr]
   exact⟨rfl,⟨rfl,rfl,rfl,jA _,fun _ _=>rfl⟩,fun _ _ h=>h⟩
  ·cases h
 ·cases h
end
section
mutual
def V.bf:V->Bool
 | .ptr _ _=>false
 | .sl _ _ _ _ _=>false
 | .mp _=>false
 | .yld _=>false
 | .ps cs _=>QF cs
 | .pn cs _=>QF cs
 | .pp cs=>QF cs
 | .fn _ a b=>QF a&&QF b
 | .ifc _ v=>V.bf v
 | .agg cs=>QF cs
 | .tup cs=>QF cs
 | .lit _=>true
 | .gptr _ _=>true
 | .zs=>true
 | .void=>true
 | .any=>true
def QF:List V->Bool
 | []=>true
 | v::vs=>V.bf v&&QF vs
end
mutual
theorem R7{z:TypeId->Nat}{s s':Nat->Option Nat}{d d' pr pr':Nat->Prop}{w:World}(hp:∀g,pr g->pr' g):∀(v:V) (c:Value),V.bf v=true->VR z s d pr w v c->VR z s' d' pr' w v c
 | .lit x,c,_,h=>h
 | .gptr _ _,c,_,h=>h
 | .zs,c,_,h=>h
 | .void,c,_,h=>h
 | .any,c,_,h=>h
 | .ps cs n,c,hf,h=>by
  obtain⟨g,off,cap,xs,e,hl,hg,hv,ha⟩:=h
  exact⟨g,off,cap,xs,e,hl,hp g hg,dV hp cs _ hf hv,ha⟩
 | .pn cs n,c,hf,h=>by
  rcases h with h|⟨g,off,cap,xs,e,hl,hg,hv,ha⟩
  ·exact .inl h
  ·exact .inr ⟨g,off,cap,xs,e,hl,hp g hg,dV hp cs _ hf hv,ha⟩
 | .pp cs,c,hf,h=>by
  obtain⟨g,off,xs,e,hg,hv,ha⟩:=h
  exact⟨g,off,xs,e,hp g hg,dV hp cs _ hf hv,ha⟩
 | .fn f a b,c,hf,h=>by
  obtain⟨xs,ys,e,h1,h2⟩:=h
  simp only[V.bf,wA] at hf
  exact⟨xs,ys,e,dV hp a _ hf.1 h1,dV hp b _ hf.2 h2⟩
 | .ifc t v,c,hf,h=>by
  obtain⟨x,e,h⟩:=h
  exact⟨x,e,R7 hp v x hf h⟩
 | .agg cs,c,hf,h=>by
  obtain⟨xs,e,hv⟩:=h
  exact⟨xs,e,dV hp cs _ hf hv⟩
 | .tup cs,c,hf,h=>by
  obtain⟨xs,e,hv⟩:=h
  exact⟨xs,e,dV hp cs _ hf hv⟩
 | .ptr _ _,_,hf,_=>by cases hf
 | .sl _ _ _ _ _,_,hf,_=>by cases hf
 | .mp _,_,hf,_=>by cases hf
 | .yld _,_,hf,_=>by cases hf
theorem dV{z:TypeId->Nat}{s s':Nat->Option Nat}{d d' pr pr':Nat->Prop}{w:World}(hp:∀g,pr g->pr' g):∀(vs:List V) (cs:List Value),QF vs=true->VRs z s d pr w vs cs->VRs z s' d' pr' w vs cs
 | [],cs,_,h=>h
 | v::vs,cs,hf,h=>by
  obtain⟨c,cs',e,h1,h2⟩:=h
  simp only[QF,wA] at hf
  exact⟨c,cs',e,R7 hp v c hf.1 h1,dV hp vs cs' hf.2 h2⟩
end
theorem nN:∀(xs ys:List V),QF (xs++ys)=(QF xs&&QF ys)
 | [],ys=>by simp[QF]
 | x::xs,ys=>by simp[QF,nN xs ys,Bool.and_assoc]
section
variable (f:Nat->Option Nat) (Z:Nat->Prop) (H:Heap)
mutual
def rn:V->V->Prop
 | .ptr b off,u=>u=.any\/(∃j,f b=some j/\u=.ptr j off)
 | .sl b off len cap opn,u=>u=.any\/(∃j,f b=some j/\u=.sl j off len cap opn)\/
   (Z b/\len<=cap/\∃cs e k,H.get b=some (.cells cs e)/\QF cs=true/\u=.pn ((cs.drop off).take k) len)
 | .mp b,u=>u=.any\/∃j,f b=some j/\u=.mp j
 | .yld b,u=>u=.any\/∃j,f b=some j/\u=.yld j
 | .ps cs n,u=>u=.any\/((u=.ps cs n\/u=.pn cs n)/\QL cs cs)
 | .pn cs n,u=>u=.any\/(u=.pn cs n/\QL cs cs)
 | .pp cs,u=>u=.any\/(u=.pp cs/\QL cs cs)
 | .fn g a b,u=>u=.any\/∃a' b',u=.fn g a' b'/\QL a a'/\QL b b'
 | .ifc t v,u=>u=.any\/∃v',u=.ifc t v'/\rn v v'
 | .agg xs,u=>u=.any\/(QF xs=true/\u=.agg xs)\/∃ys,u=.agg ys/\QL xs ys
 | .tup xs,u=>u=.any\/(QF xs=true/\u=.tup xs)\/∃ys,u=.tup ys/\QL xs ys
 | .lit x,u=>u=.any\/u=.lit x\/(x=.slice none 0 0/\u=.pn [] 0)
 | .gptr g o,u=>u=.any\/u=.gptr g o
 | .zs,u=>u=.any\/u=.zs\/u=.pn [] 0
 | .void,u=>u=.any\/u=.void\/u=.pn [] 0
 | .any,u=>u=.any
def QL:List V->List V->Prop
 | [],us=>us=[]
 | v::vs,us=>∃u us',us=u::us'/\rn v u/\QL vs us'
end
end
section
variable {f:Nat->Option Nat} {Z:Nat->Prop} {H:Heap}
mutual
theorem PW:∀v,V.bf v=true->rn f Z H v v
 | .lit x,_=>by simp[rn]
 | .gptr _ _,_=>by simp[rn]
 | .zs,_=>by simp[rn]
 | .void,_=>by simp[rn]
 | .any,_=>by simp[rn]
 | .ps cs n,h=>.inr ⟨.inl rfl,CX cs h⟩
 | .pn cs n,h=>.inr ⟨rfl,CX cs h⟩
 | .pp cs,h=>.inr ⟨rfl,CX cs h⟩
 | .fn g a b,h=>by
  simp only[V.bf,wA] at h
  exact .inr ⟨a,b,rfl,CX a h.1,CX b h.2⟩
 | .ifc t v,h=>.inr ⟨v,rfl,PW v h⟩
 | .agg cs,h=>by simp only[V.bf] at h;simp[rn,h]
 | .tup cs,h=>by simp only[V.bf] at h;simp[rn,h]
 | .ptr _ _,hf=>by cases hf
 | .sl _ _ _ _ _,hf=>by cases hf
 | .mp _,hf=>by cases hf
 | .yld _,hf=>by cases hf
theorem CX:∀vs,QF vs=true->QL f Z H vs vs
 | [],_=>rfl
 | v::vs,h=>by
  simp only[QF,wA] at h
  exact⟨v,vs,rfl,PW v h.1,CX vs h.2⟩
end
theorem zjb:∀{vs us:List V},QL f Z H vs us->us.length=vs.length
 | [],us,h=>by simp only[QL] at h;subst h;rfl
 | v::vs,us,h=>by
  obtain⟨u,us',rfl,_,h⟩:=h
  simp[zjb h]
structure US(z:TypeId->Nat)(s s2:Nat->Option Nat)(d d2 pr pr2:Nat->Prop)(w:World)(f:Nat->Option Nat)(Z:Nat->Prop)(H:Heap):Prop where
 p:∀g,pr g->pr2 g
 f:∀b j,f b=some j->(d b->d2 j)/\∀g,s b=some g->s2 j=some g
 z:∀b cs e,Z b->H.get b=some (.cells cs e)->¬d b/\∀g,s b=some g->pr2 g/\∃arr,VRs z s d pr w cs arr/\HoldsAt w ⟨g,0,none⟩ arr
variable {z:TypeId->Nat} {s s2:Nat->Option Nat} {d d2 pr pr2:Nat->Prop} {w:World}
mutual
theorem Qg(G:US z s s2 d d2 pr pr2 w f Z H):∀(v u:V) (c:Value),rn f Z H v u->VR z s d pr w v c->VR z s2 d2 pr2 w u c
 | .lit x,u,c,h,hv=>by
  rcases h with rfl|rfl|⟨rfl,rfl⟩
  ·trivial
  ·exact hv
  ·exact .inl ⟨rfl,rfl,.inl hv⟩
 | .gptr g o,u,c,h,hv=>by
  rcases h with rfl|rfl
  ·trivial
  ·exact hv
 | .zs,u,c,h,hv=>by
  rcases h with rfl|rfl|rfl
  ·trivial
  ·exact hv
  ·obtain⟨a,e⟩:=hv;exact .inl ⟨rfl,rfl,.inr ⟨a,0,e⟩⟩
 | .void,u,c,h,hv=>by
  rcases h with rfl|rfl|rfl
  ·trivial
  ·exact hv
  ·obtain⟨a,k,e⟩:=hv;exact .inl ⟨rfl,rfl,.inr ⟨a,k,e⟩⟩
 | .any,u,c,h,hv=>by
  have h:u=.any:=h
  subst h;trivial
 | .ptr b off,u,c,h,hv=>by
  rcases h with rfl|⟨j,hj,rfl⟩
  ·trivial
  ·obtain⟨x,e,hx⟩:=hv
   exact⟨x,e,hx.imp (G.f b j hj).1 fun⟨g,h1,h2⟩=>⟨g,(G.f b j hj).2 g h1,h2⟩⟩
 | .mp b,u,c,h,hv=>by
  rcases h with rfl|⟨j,hj,rfl⟩
  ·trivial
  ·obtain⟨x,e,hx⟩:=hv
   exact⟨x,e,hx.imp (G.f b j hj).1 ((G.f b j hj).2 x)⟩
 | .yld b,u,c,h,hv=>by
  rcases h with rfl|⟨j,hj,rfl⟩
  ·trivial
  ·obtain⟨x,e,hx⟩:=hv
   exact⟨x,e,hx.imp (G.f b j hj).1 ((G.f b j hj).2 x)⟩
 | .sl b off len cap opn,u,c,h,hv=>by
  rcases h with rfl|⟨j,hj,rfl⟩|⟨hz,hlc,cs,e,k,hg,hb,rfl⟩
  ·trivial
  ·obtain⟨x,cap',e,e2,e3,hx⟩:=hv
   exact⟨x,cap',e,e2,e3,hx.imp (G.f b j hj).1 fun⟨g,h1,h2,h3⟩=>⟨g,(G.f b j hj).2 g h1,h2,h3⟩⟩
  ·obtain⟨x,cap',e1,e2,e3,hx⟩:=hv
   obtain⟨hnd,hz⟩:=G.z b cs e hz hg
   rcases hx with hx|⟨g,h1,rfl,_⟩
   ·exact absurd hx hnd
   ·obtain⟨q1,arr,q2,q3⟩:=hz g h1
    replace q2:=dV (s':=s2) (d':=d2) G.p _ _ hb q2
    refine .inr ⟨g,off,cap',_,e1,by omega,q1,(q2.drop off).take k,?_⟩
    intro i c hi
    rw[xD] at hi
    split at hi
    ·rw[List.getElem?_drop] at hi
     simpa using q3 _ _ hi
    ·cases hi
 | .ps cs n,u,c,h,hv=>by
  rcases h with rfl|⟨e,hb⟩
  ·trivial
  ·obtain⟨g,off,cap,xs,e1,hl,hg,hv,ha⟩:=hv
   have:VR z s2 d2 pr2 w (.ps cs n) c:=⟨g,off,cap,xs,e1,hl,G.p g hg,bS G cs cs _ hb hv,ha⟩
   rcases e with rfl|rfl
   ·exact this
   ·exact .inr this
 | .pn cs n,u,c,h,hv=>by
  rcases h with rfl|⟨rfl,hb⟩
  ·trivial
  ·rcases hv with hv|⟨g,off,cap,xs,e1,hl,hg,hv,ha⟩
   ·exact .inl hv
   ·exact .inr ⟨g,off,cap,xs,e1,hl,G.p g hg,bS G cs cs _ hb hv,ha⟩
 | .pp cs,u,c,h,hv=>by
  rcases h with rfl|⟨rfl,hb⟩
  ·trivial
  ·obtain⟨g,off,xs,e1,hg,hv,ha⟩:=hv
   exact⟨g,off,xs,e1,G.p g hg,bS G cs cs _ hb hv,ha⟩
 | .fn g a b,u,c,h,hv=>by
  rcases h with rfl|⟨a',b',rfl,h1,h2⟩
  ·trivial
  ·obtain⟨xs,ys,e,k1,k2⟩:=hv
   exact⟨xs,ys,e,bS G a a' _ h1 k1,bS G b b' _ h2 k2⟩
 | .ifc t v,u,c,h,hv=>by
  rcases h with rfl|⟨v',rfl,h1⟩
  ·trivial
  ·obtain⟨x,e,k⟩:=hv
   exact⟨x,e,Qg G v v' _ h1 k⟩
 | .agg xs,u,c,h,hv=>by
  rcases h with rfl|⟨hb,rfl⟩|⟨ys,rfl,h1⟩
  ·trivial
  ·exact R7 G.p (.agg xs) _ hb hv
  ·obtain⟨cs,e,k⟩:=hv
   exact⟨cs,e,bS G xs ys _ h1 k⟩
 | .tup xs,u,c,h,hv=>by
  rcases h with rfl|⟨hb,rfl⟩|⟨ys,rfl,h1⟩
  ·trivial
  ·exact R7 G.p (.tup xs) _ hb hv
  ·obtain⟨cs,e,k⟩:=hv
   exact⟨cs,e,bS G xs ys _ h1 k⟩
theorem bS(G:US z s s2 d d2 pr pr2 w f Z H):∀(vs us:List V) (cs:List Value),QL f Z H vs us->VRs z s d pr w vs cs->VRs z s2 d2 pr2 w us cs
 | [],us,cs,h,hv=>by
  have h:us=[]:=h
  subst h;exact hv
 | v::vs,us,cs,h,hv=>by
  obtain⟨u,us',rfl,h1,h2⟩:=h
  obtain⟨c,cs',e,k1,k2⟩:=hv
  exact⟨c,cs',e,Qg G v u c h1 k1,bS G vs us' cs' h2 k2⟩
end
end
def E0(f:Nat->Option Nat)(Z:Nat->Prop)(H:Heap):List (V×V×Nat)->List (V×V×Nat)->Prop
 | [],es=>es=[]
 | (k,v,b)::r,es=>∃k' v' r',es=(k',v',b)::r'/\rn f Z H k k'/\rn f Z H v v'/\E0 f Z H r r'
def uS(f:Nat->Option Nat)(Z:Nat->Prop)(H:Heap):Blk->Blk->Prop
 | .cells cs e,B=>∃cs',B=.cells cs' e/\QL f Z H cs cs'
 | .map es clk,B=>∃es',B=.map es' clk/\E0 f Z H es es'
 | .loop ts ps as0 bd st pd,B=>∃ts',B=.loop ts' ps as0 bd st pd/\QL f Z H ts ts'
 | .dead,B=>B=.dead
theorem gR{P:PH}{s s2:Nat->Option Nat}{H H2:Heap}{w:World}{f:Nat->Option Nat}{Z:Nat->Prop}(G:US (szP P) s s2 (RC H) (RC H2) (RE P s w) (RE P s2 w) w f Z H):∀(es es2:List (V×V×Nat)) (as0:List MapEntry),E0 f Z H es es2->MRs P s H w es as0->MRs P s2 H2 w es2 as0
 | [],es2,as0,h,hv=>by
  have h:es2=[]:=h
  subst h;exact hv
 | (k,v,b)::r,es2,as0,h,hv=>by
  obtain⟨k',v',r',rfl,h1,h2,h3⟩:=h
  obtain⟨e,es',he,q1,q2,q3,q4⟩:=hv
  exact⟨e,es',he,Qg G k k' _ h1 q1,Qg G v v' _ h2 q2,q3,gR G r r' es' h3 q4⟩
theorem Gk{P:PH}{s s2:Nat->Option Nat}{H H2:Heap}{w:World}{f:Nat->Option Nat}{Z:Nat->Prop}(G:US (szP P) s s2 (RC H) (RC H2) (RE P s w) (RE P s2 w) w f Z H){B B2:Blk}{o:Obj}(h:uS f Z H B B2)(hv:BR P s H w B o):BR P s2 H2 w B2 o:=by
 cases B with
 | cells cs e=>
  obtain⟨cs',rfl,h1⟩:=h
  obtain⟨arr,fr,e1,h2,h3⟩:=hv
  refine⟨arr,fr,e1,?_,h3⟩
  rw[zjb h1]
  exact bS G _ _ _ h1 h2
 | map es clk=>
  obtain⟨es',rfl,h1⟩:=h
  obtain⟨arr,e1,h2⟩:=hv
  exact⟨arr,e1,gR G _ _ _ h1 h2⟩
 | loop ts ps as0 bd st pd=>
  obtain⟨ts',rfl,h1⟩:=h
  obtain⟨l,h0,h2,h3,h4,h5,h6,h7⟩:=hv
  exact⟨l,h0,h2,h3,h4,h5,h6,bS G _ _ _ h1 h7⟩
 | dead=>exact hv.elim
mutual
theorem jk{z:TypeId->Nat}{s:Nat->Option Nat}{d pr:Nat->Prop}{w:World}{f:Nat->Option Nat}{Z:Nat->Prop}{H:Heap}(hlt:∀i,(d i\/∃g,s i=some g)->f i=some i):∀(v:V) (c:Value),VR z s d pr w v c->rn f Z H v v
 | .lit x,_,_=>by simp[rn]
 | .gptr _ _,_,_=>by simp[rn]
 | .zs,_,_=>by simp[rn]
 | .void,_,_=>by simp[rn]
 | .any,_,_=>by simp[rn]
 | .ptr b off,c,h=>by
  obtain⟨x,_,hx⟩:=h
  exact .inr ⟨b,hlt b (hx.imp id fun⟨g,h,_⟩=>⟨g,h⟩),rfl⟩
 | .sl b off len cap opn,c,h=>by
  obtain⟨x,cap',_,_,_,hx⟩:=h
  exact .inr (.inl ⟨b,hlt b (hx.imp id fun⟨g,h,_⟩=>⟨g,h⟩),rfl⟩)
 | .mp b,c,h=>by
  obtain⟨x,_,hx⟩:=h
  exact .inr ⟨b,hlt b (hx.imp id fun h=>⟨x,h⟩),rfl⟩
 | .yld b,c,h=>by
  obtain⟨x,_,hx⟩:=h
  exact .inr ⟨b,hlt b (hx.imp id fun h=>⟨x,h⟩),rfl⟩
 | .ps cs n,c,h=>by
  obtain⟨g,off,cap,xs,e,hl,hg,hv,ha⟩:=h
  exact .inr ⟨.inl rfl,ES hlt cs _ hv⟩
 | .pn cs n,c,h=>by
  rcases h with⟨_,rfl,_⟩|⟨g,off,cap,xs,e,hl,hg,hv,ha⟩
  ·exact .inr ⟨rfl,rfl⟩
  ·exact .inr ⟨rfl,ES hlt cs _ hv⟩
 | .pp cs,c,h=>by
  obtain⟨g,off,xs,e,hg,hv,ha⟩:=h
  exact .inr ⟨rfl,ES hlt cs _ hv⟩
 | .fn g a b,c,h=>by
  obtain⟨xs,ys,e,h1,h2⟩:=h
  exact .inr ⟨a,b,rfl,ES hlt a _ h1,ES hlt b _ h2⟩
 | .ifc t v,c,h=>by
  obtain⟨x,e,h⟩:=h
  exact .inr ⟨v,rfl,jk hlt v _ h⟩
 | .agg cs,c,h=>by
  obtain⟨xs,e,hv⟩:=h
  exact .inr (.inr ⟨cs,rfl,ES hlt cs _ hv⟩)
 | .tup cs,c,h=>by
  obtain⟨xs,e,hv⟩:=h
  exact .inr (.inr ⟨cs,rfl,ES hlt cs _ hv⟩)
theorem ES{z:TypeId->Nat}{s:Nat->Option Nat}{d pr:Nat->Prop}{w:World}{f:Nat->Option Nat}{Z:Nat->Prop}{H:Heap}(hlt:∀i,(d i\/∃g,s i=some g)->f i=some i):∀(vs:List V) (cs:List Value),VRs z s d pr w vs cs->QL f Z H vs vs
 | [],_,_=>rfl
 | v::vs,cs,h=>by
  obtain⟨c,cs',e,h1,h2⟩:=h
  exact⟨v,vs,rfl,jk hlt v c h1,ES hlt vs cs' h2⟩
end
theorem zkR{P:PH}{s:Nat->Option Nat}{H0 H:Heap}{w:World}{f:Nat->Option Nat}{Z:Nat->Prop}(hlt:∀i,(RC H0 i\/∃g,s i=some g)->f i=some i):∀(es:List (V×V×Nat)) (as0:List MapEntry),MRs P s H0 w es as0->E0 f Z H es es
 | [],_,_=>rfl
 | (k,v,b)::r,as0,h=>by
  obtain⟨e,es',he,q1,q2,q3,q4⟩:=h
  exact⟨k,v,r,rfl,jk hlt k _ q1,jk hlt v _ q2,zkR hlt r es' q4⟩
theorem zm4{P:PH}{s:Nat->Option Nat}{H0 H:Heap}{w:World}{f:Nat->Option Nat}{Z:Nat->Prop}(hlt:∀i,(RC H0 i\/∃g,s i=some g)->f i=some i){B:Blk}{o:Obj}(h:BR P s H0 w B o):uS f Z H B B:=by
 cases B with
 | cells cs e=>
  obtain⟨arr,fr,e1,h2,h3⟩:=h
  exact⟨cs,rfl,ES hlt cs _ h2⟩
 | map es clk=>
  obtain⟨arr,e1,h2⟩:=h
  exact⟨es,rfl,zkR hlt es _ h2⟩
 | loop ts ps as0 bd st pd=>
  obtain⟨l,h0,h2,h3,h4,h5,h6,h7⟩:=h
  exact⟨ts,rfl,ES hlt ts _ h7⟩
 | dead=>rfl
def RN(f:Nat->Option Nat)(Z:Nat->Prop)(H:Heap)(v u:V):Prop:=
 ∀(z:TypeId->Nat) (s s2:Nat->Option Nat) (d d2 pr pr2:Nat->Prop) (w:World),US z s s2 d d2 pr pr2 w f Z H->∀c,VR z s d pr w v c->VR z s2 d2 pr2 w u c
theorem RN.of{f:Nat->Option Nat}{Z:Nat->Prop}{H:Heap}{v u:V}(h:rn f Z H v u):RN f Z H v u:=fun _ _ _ _ _ _ _ _ G c hv=>Qg G v u c h hv
theorem Sub.ren{C:Ctx}{nt:Nat}{ro:Option Nat}{H0:Heap}{st st2:St}(f fi:Nat->Option Nat)(Z:Nat->Prop)
  (hfi:∀b j,f b=some j↔fi j=some b) (hold:∀b,b<H0.n->f b=some b) (hnew:∀b j,f b=some j->H0.n<=b->H0.n<=j)
  (hsur:∀j,H0.n<=j->j<st2.H.n->RC st2.H j\/∃b,f b=some j/\b<st.H.n)
  (hblk:∀b j B,f b=some j->st.H.get b=some B->(b<H0.n/\(st.H.get b=H0.get b\/b<st.lo)/\st2.H.get b=H0.get b)\/∃B2,st2.H.get j=some B2/\uS f Z st.H B B2)
  (hZ:∀b,Z b->H0.n<=b/\f b=none/\H0.n<=st.lo) (hn:H0.n<=st2.H.n) (hro:∀b,ro=some b->b<H0.n)
  (hT:∀t,RN f Z st.H (PD st.T t) (PD st2.T t)) (hlo:st2.lo<=st.lo) (hsame:∀b,b<st2.lo->b<H0.n->st2.H.get b=H0.get b):Sub C nt ro H0 st st2:=by
 intro h wro o s w a ⟨e1,e2,h0⟩ R
 subst e1
 let s2:Nat->Option Nat:=fun j=>(fi j).bind s
 have hs2:∀j g,s2 j=some g↔∃b,f b=some j/\s b=some g:=by
  intro j g
  simp only[s2,Option.bind_eq_some_iff]
  constructor
  ·rintro⟨b,h1,h2⟩;exact⟨b,(hfi b j).2 h1,h2⟩
  ·rintro⟨b,h1,h2⟩;exact⟨b,(hfi b j).1 h1,h2⟩
 have hinj:∀b b' j,f b=some j->f b'=some j->b=b':=by
  intro b b' j h1 h2
  have:=(hfi b j).1 h1
  rw[(hfi b' j).1 h2] at this
  injection this with this
  exact this.symm
 have hPr:∀g,RE (C.ph h) s w g->RE (C.ph h) s2 w g:=by
  rintro g ⟨h1,h2,h3⟩
  refine⟨h1,fun j hj=>?_,h3⟩
  obtain⟨b,_,hb⟩:=(hs2 j g).1 hj
  exact h2 b hb
 have hD:∀b j,f b=some j->RC st.H b->RC st2.H j:=by
  intro b j hf hd
  rcases hblk b j .dead hf hd with⟨h1,h2,h3⟩|⟨B2,h1,h2⟩
  ·replace h2:st.H.get b=o.H.get b:=h2.elim id fun h2=>R.ext.old b h2 h1
   have:=hold b h1
   rw[hf] at this
   injection this with this
   subst this
   rw[RC,h3,<-h2]
   exact hd
  ·have h2:B2=.dead:=h2
   rw[RC,h1,h2]
 have hzp:∀b g,Z b->s b=some g->RE (C.ph h) s2 w g:=by
  intro b g hz hb
  obtain⟨z1,z2,z3⟩:=hZ b hz
  refine⟨(R.hr.lt hb).2,fun j hj=>?_,fun hh=>?_⟩
  ·obtain⟨b',h1,h2⟩:=(hs2 j g).1 hj
   rw[R.hr.inj b b' g hb h2] at z2
   rw[h1] at z2
   cases z2
  ·rcases R.ext.fresh b g hb with h1|⟨_,h1|⟨b0,h1,h2⟩⟩
   ·have:=R.ob b g h1;omega
   ·have:=e2 g hh;omega
   ·have:=R.ob b0 g h2;omega
 have G:US (szP (C.ph h)) s s2 (RC st.H) (RC st2.H) (RE (C.ph h) s w) (RE (C.ph h) s2 w) w f Z st.H:=by
  refine⟨hPr,fun b j hf=>⟨hD b j hf,fun g hg=>(hs2 j g).2 ⟨b,hf,hg⟩⟩,fun b cs e hz hg=>⟨?_,fun g hs=>⟨hzp b g hz hs,?_⟩⟩⟩
  ·intro hd
   rw[RC,hg] at hd
   cases hd
  ·obtain⟨arr,fr,h3,h4,_,_⟩:=R.hr.cells hg hs
   exact⟨_,h4,ZU h3 cs.length⟩
 refine⟨s2,R.ob,⟨?_,?_⟩,⟨R.gk.1,fun g cs hc=>?_⟩,by have:=R.ln;omega,?_,R.sz,?_,?_,fun t=>hT t _ _ _ _ _ _ _ _ G _ (R.tm t)⟩
 ·intro j g hj
  obtain⟨b,h1,h2⟩:=(hs2 j g).1 hj
  obtain⟨B,q,k1,k2,k3⟩:=R.hr.dom b g h2
  rcases hblk b j B h1 k1 with⟨q1,q2,q3⟩|⟨B2,k4,k5⟩
  ·replace q2:st.H.get b=o.H.get b:=q2.elim id fun q2=>R.ext.old b q2 q1
   have:=hold b q1
   rw[h1] at this
   injection this with this
   subst this
   have hb0:o.s j=some g:=by
    rcases R.ext.fresh j g h2 with h3|⟨h3,_⟩
    ·exact h3
    ·omega
   obtain⟨B',q0,m1,m2,m3⟩:=h0.dom j g hb0
   rw[<-q2,k1] at m1
   injection m1 with m1
   subst m1
   have hlt:∀i,(RC o.H i\/∃g,o.s i=some g)->f i=some i:=by
    rintro i (hi|⟨g',hi⟩)
    ·exact hold i (vC hi)
    ·exact hold i (R.ob i g' hi)
   exact⟨B,q,by rw[q3,<-q2];exact k1,k2,Gk G (zm4 hlt m3) k3⟩
  ·exact⟨B2,q,k4,k2,Gk G k5 k3⟩
 ·intro j j' g hj hj'
  obtain⟨b,h1,h2⟩:=(hs2 j g).1 hj
  obtain⟨b',h3,h4⟩:=(hs2 j' g).1 hj'
  have:=R.hr.inj b b' g h2 h4
  subst this
  rw[h1] at h3
  injection h3
 ·obtain⟨q1,q2⟩:=R.gk.2 g cs hc
  exact⟨hPr g q1,q2⟩
 ·have E:=R.ext
  refine⟨E.os,E.tape,E.output,E.size,hn,fun b hd=>?_,fun b g hb=>?_,fun g hg hb=>E.frame g hg fun b k=>vB (hb b k) hlo,fun j g hj=>?_,E.shp,fun b h1 h2=>?_,fun j h1 h2=>?_⟩
  ·have hlt:=vC hd
   exact hD b b (hold b hlt) (E.dd b hd)
  ·have hlt:=R.ob b g hb
   rcases E.ss b g hb with h1|⟨h1,h2⟩
   ·exact .inl ((hs2 b g).2 ⟨b,hold b hlt,h1⟩)
   ·exact .inr ⟨hD b b (hold b hlt) h1,by omega⟩
  ·obtain⟨b,h1,h2⟩:=(hs2 j g).1 hj
   rcases E.fresh b g h2 with h3|⟨h3,h4⟩
   ·have:=hold b (R.ob b g h3)
    rw[h1] at this
    injection this with this
    subst this
    exact .inl h3
   ·refine .inr ⟨hnew b j h1 h3,h4.imp id fun⟨b0,k1,k2⟩=>⟨b0,by omega,k2⟩⟩
  ·exact hsame b h1 h2
  ·rcases hsur j h1 h2 with h0|⟨b,h3,h4⟩
   ·exact .inl h0
   have h5:o.H.n<=b:=by
    rcases RA b o.H.n with h6|h6
    ·rw[hold b h6] at h3
     injection h3 with h3
     omega
    ·exact h6
   rcases E.cov b h5 h4 with h6|⟨g,h6⟩
   ·exact .inl (hD b j h3 h6)
   ·exact .inr ⟨g,(hs2 j g).2 ⟨b,h3,h6⟩⟩
 ·obtain⟨rs,q1,q2,q3⟩:=R.df
  refine⟨rs,q1,q2,fun r hr=>?_⟩
  obtain⟨k1,k2,k3⟩:=q3 r hr
  exact⟨k1,hPr r k2,k3⟩
 ·have hrd:=R.rd
  cases ro with
  | none=>cases wro<;>exact hrd
  | some b=>
   cases wro with
   | none=>exact hrd
   | some l=>
    have hb:=hro b rfl
    rcases hrd with h1|h1
    ·exact .inl (hD b b (hold b hb) h1)
    ·exact .inr ((hs2 b l).2 ⟨b,hold b hb,h1⟩)
def pI(n:Nat)(b:Nat):Option Nat:=if b<n then some b else none
theorem Sub.keep{C:Ctx}{nt:Nat}{ro:Option Nat}{H0:Heap}{st:St}(l:List (Nat×V))(hl:∀p∈l,PD st.T p.1=p.2):Sub C nt ro H0 st ⟨jH l,st.H,st.lo⟩:=fun _ _ _ s _ _ _ R=>⟨s,R.keep l hl⟩
theorem Sub.lower{C:Ctx}{nt:Nat}{ro:Option Nat}{H0:Heap}{T:Tr V}{H:Heap}{lo lo2:Nat}(h:lo2<=lo):Sub C nt ro H0 ⟨T,H,lo⟩ ⟨T,H,lo2⟩:=fun _ _ _ s _ _ _ R=>
 ⟨s,R.ob,R.hr,R.gk,cB h R.ln,R.ext.weak h,R.sz,R.df,R.rd,R.tm⟩
theorem Dg{f:Nat->Option Nat}{Z:Nat->Prop}{H:Heap}{T:Tr V}(l:List (Nat×V))(hl:∀p∈l,RN f Z H (PD T p.1) p.2)(t:Nat):RN f Z H (PD T t) (PD (jH l) t):=by
 rcases zjU l t with e|⟨p,h1,h2,h3⟩
 ·rw[e];exact fun _ _ _ _ _ _ _ _ _ _ _=>trivial
 ·rw[h3,<-h2];exact hl p h1
theorem Sub.drop{C:Ctx}{nt:Nat}{ro:Option Nat}{H0:Heap}{T:Tr V}{H:Heap}{lo:Nat}(l:List (Nat×V))(hlo:H0.n<=lo)(hro:∀b,ro=some b->b<H0.n)
  (hl:∀p∈l,RN (pI H0.n) (fun b=>H0.n<=b) H (PD T p.1) p.2):Sub C nt ro H0 ⟨T,H,lo⟩ ⟨jH l,H0,H0.n⟩:=by
 have hf:∀b j,pI H0.n b=some j↔b<H0.n/\j=b:=by
  intro b j
  unfold pI
  by_cases e:b<H0.n
  ·rw[if_pos e];simp[e,eq_comm]
  ·rw[if_neg e];simp[e]
 refine Sub.ren (pI H0.n) (pI H0.n) (fun b=>H0.n<=b) ?_ ?_ ?_ ?_ ?_ ?_ (jA _) hro (Dg l hl) hlo fun _ _ _=>rfl
 ·intro b j
  rw[hf,hf]
  constructor
  ·rintro⟨h,rfl⟩;exact⟨h,rfl⟩
  ·rintro⟨h,rfl⟩;exact⟨h,rfl⟩
 ·intro b h;exact(hf b b).2 ⟨h,rfl⟩
 ·intro b j h hb;have:=((hf b j).1 h).1;omega
 ·intro j h1 h2;exact absurd h2 (by simp only;omega)
 ·intro b j B h hB
  obtain⟨h1,rfl⟩:=(hf b j).1 h
  exact .inl ⟨h1,.inr (by simp only;omega),rfl⟩
 ·intro b h
  refine⟨h,?_,hlo⟩
  unfold pI
  rw[if_neg (by omega)]
end
end Go.Tw
