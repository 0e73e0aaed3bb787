/- Own work for this claim, part 7 of 17. No condition of its own. -/
import Derived.Test.YtookdinfaoelaaaGreatDoorX05
import Derived.Test.YtookdinfaoelaaaGreatDoorRows
import Derived.KernelRfl
set_option linter.all false
set_option maxRecDepth 100000
set_option maxHeartbeats 4000000
open Bool renaming false_eq_true→ZA,not_false→rE,not_true→iF
open Go.IntKind renaming wrap→tC
open Go.Lib renaming compareBytes→fB
open Go.Proofs.Tryz renaming prog→fA,underlying100→vG,underlying114→CC,underlying124→PJ,underlying125→QH,underlying22→FA,underlying29→wE,underlying3→bD,underlying30→UF,underlying33→OB,underlying34→iC,underlying47→GB,underlying5→pD,underlying76→TA,underlying9→cD,underlying95→XF
open Go.Tw.BR renaming dec→aB
open Go.Tw.GD renaming dec→AB
open Go.Tw.Heap renaming get_push→yA,get_set→dA,n_push→iA,n_set→kA
open Go.Tw.MCall renaming of→QA
open Go.Tw.MV renaming tab→aD
open Go.Tw.Res renaming bf→AA
open Go.Tw.Tab.OK renaming cons→CA,nil→xA
open List renaming all_eq_true→gB,append_assoc→XA,drop_eq_getElem_cons→DB,drop_zero→UA,ext_getElem?→YE,getElem?_cons_zero→YA,getElem?_eq_getElem→sA,getElem?_eq_none→kE,getElem?_eq_some_iff→rA,length→PB,length_append→qA,length_eq_zero_iff→WA,mem_of_getElem?→IA,nodup_nil→dE,take_left→dJ,take_left'→mC,take_length→FB,take_of_length_le→uA
open Nat renaming ble→DF,blt→mD,le_refl→jA,le_trans→cB,lt_of_lt_of_le→vB,lt_or_ge→RA,min_self→gA,not_lt→NJ,one_mul→dF,reduceAdd→cA,reduceEqDiff→aA,reduceLT→bA,zero_add→bB,zero_mul→JG
open Option renaming bind_eq_bind→pA,bind_some→KA,isSome_none→iD,map_eq_some_iff→BA
open Option.some renaming injEq→lA
namespace Go.Tw
section
def Heap.pushes(H:Heap):List Blk->Heap
 | []=>H
 | B::r=>Heap.pushes (H.push B) r
theorem p7:∀(l:List Blk) (H:Heap),(Heap.pushes H l).n=H.n+l.length
 | [],H=>rfl
 | B::r,H=>by rw[Heap.pushes,p7 r,iA,List.length_cons];omega
theorem T1:∀(l:List Blk) (H:Heap) (b:Nat),b<H.n->(Heap.pushes H l).get b=H.get b
 | [],H,b,h=>rfl
 | B::r,H,b,h=>by rw[Heap.pushes,T1 r _ b (by rw[iA];omega),yA,if_neg (by omega)]
theorem zgJ:∀(l:List Blk) (H:Heap) (i:Nat) (B:Blk),l[i]?=some B->(Heap.pushes H l).get (H.n+i)=some B
 | [],H,i,B,h=>by simp at h
 | C::r,H,0,B,h=>by
  simp only[YA,lA] at h
  subst h
  rw[Heap.pushes,T1 r _ _ (by rw[iA];omega),yA,if_pos (by omega)]
 | C::r,H,i+1,B,h=>by
  rw[Heap.pushes]
  have:=zgJ r (H.push C) i B (by simpa using h)
  rw[iA] at this
  rw[show H.n+(i+1)=H.n+1+i by omega]
  exact this
def RK(n:Nat)(ks:List Nat)(b:Nat):Option Nat:=if b<n then some b else(ks.idxOf? b).map (n+·)
def A5(n:Nat)(ks:List Nat)(j:Nat):Option Nat:=if j<n then some j else ks[j-n]?
theorem j2:∀(ks:List Nat) (b i:Nat),ks.Nodup->(ks.idxOf? b=some i↔ks[i]?=some b)
 | [],b,i,_=>by simp[List.idxOf?]
 | k::ks,b,i,h=>by
  have h2:=List.nodup_cons.1 h
  rw[List.idxOf?_cons]
  by_cases e:k=b
  ·subst e
   simp only[beq_self_eq_true,if_true,lA]
   constructor
   ·rintro rfl;rfl
   ·intro hi
    cases i with
    | zero=>rfl
    | succ i=>
     simp only[List.getElem?_cons_succ] at hi
     exact absurd (IA hi) h2.1
  ·have:(k==b)=false:=by simpa using e
   simp only[this,ZA,if_false,BA]
   constructor
   ·rintro⟨j,hj,rfl⟩
    simpa using(j2 ks b j h2.2).1 hj
   ·intro hi
    cases i with
    | zero=>simp at hi;exact absurd hi e
    | succ i=>exact⟨i,(j2 ks b i h2.2).2 (by simpa using hi),rfl⟩
section more
variable {f f':Nat->Option Nat} {Z:Nat->Prop} {H:Heap} (hf:∀b j,f b=some j->f' b=some j)
include hf
mutual
theorem tg:∀(v u:V),rn f Z H v u->rn f' Z H v u
 | .ptr b off,u,h=>h.imp id fun⟨j,h1,h2⟩=>⟨j,hf b j h1,h2⟩
 | .sl b off len cap opn,u,h=>h.imp id fun h=>h.imp (fun⟨j,h1,h2⟩=>⟨j,hf b j h1,h2⟩) id
 | .mp b,u,h=>h.imp id fun⟨j,h1,h2⟩=>⟨j,hf b j h1,h2⟩
 | .yld b,u,h=>h.imp id fun⟨j,h1,h2⟩=>⟨j,hf b j h1,h2⟩
 | .ps cs n,u,h=>h.imp id fun⟨h1,h2⟩=>⟨h1,FS cs cs h2⟩
 | .pn cs n,u,h=>h.imp id fun⟨h1,h2⟩=>⟨h1,FS cs cs h2⟩
 | .pp cs,u,h=>h.imp id fun⟨h1,h2⟩=>⟨h1,FS cs cs h2⟩
 | .fn g a b,u,h=>h.imp id fun⟨a',b',h1,h2,h3⟩=>⟨a',b',h1,FS a a' h2,FS b b' h3⟩
 | .ifc t v,u,h=>h.imp id fun⟨v',h1,h2⟩=>⟨v',h1,tg v v' h2⟩
 | .agg xs,u,h=>h.imp id fun h=>h.imp id fun⟨ys,h1,h2⟩=>⟨ys,h1,FS xs ys h2⟩
 | .tup xs,u,h=>h.imp id fun h=>h.imp id fun⟨ys,h1,h2⟩=>⟨ys,h1,FS xs ys h2⟩
 | .lit x,u,h=>h
 | .gptr g o,u,h=>h
 | .zs,u,h=>h
 | .void,u,h=>h
 | .any,u,h=>h
theorem FS:∀(vs us:List V),QL f Z H vs us->QL f' Z H vs us
 | [],us,h=>h
 | v::vs,us,h=>by
  obtain⟨u,us',rfl,h1,h2⟩:=h
  exact⟨u,us',rfl,tg v u h1,FS vs us' h2⟩
end
theorem zm3:∀(es es':List (V×V×Nat)),E0 f Z H es es'->E0 f' Z H es es'
 | [],es',h=>h
 | (k,v,b)::r,es',h=>by
  obtain⟨k',v',r',rfl,h1,h2,h3⟩:=h
  exact⟨k',v',r',rfl,tg hf k k' h1,tg hf v v' h2,zm3 r r' h3⟩
theorem zm6{B B':Blk}(h:uS f Z H B B'):uS f' Z H B B':=by
 cases B with
 | cells cs e=>obtain⟨cs',rfl,h1⟩:=h;exact⟨cs',rfl,FS hf _ _ h1⟩
 | map es clk=>obtain⟨es',rfl,h1⟩:=h;exact⟨es',rfl,zm3 hf _ _ h1⟩
 | loop ts ps as0 bd st pd=>obtain⟨ts',rfl,h1⟩:=h;exact⟨ts',rfl,FS hf _ _ h1⟩
 | dead=>exact h
end more
theorem Sub.moves{C:Ctx}{nt:Nat}{ro:Option Nat}{H0:Heap}{T:Tr V}{H':Heap}{lo':Nat}(H:Heap)(ks:List Nat)(Bs:List Blk)(lo:Nat)(l:List (Nat×V))(hg:Grn H0 H)(hks:ks.Nodup)(hkn:∀k∈ks,H.n<=k/\k<H'.n)(hlen:Bs.length=ks.length)(hn:H.n<=H'.n)(he:∀b,b<H.n->H'.get b=H.get b)
  (hB:∀(i k:Nat) (B:Blk),ks[i]?=some k->Bs[i]?=some B->∃B',H'.get k=some B'/\uS (RK H.n ks) (fun b=>H.n<=b/\b ∉ ks) H' B' B)
  (hlo:H0.n<=lo') (hlo2:H0.n<=lo) (hlo3:lo<=lo') (hold:∀b,b<H0.n->H.get b=H0.get b) (hro:∀b,ro=some b->b<H0.n)
  (hl:∀p∈l,RN (RK H.n ks) (fun b=>H.n<=b/\b ∉ ks) H' (PD T p.1) p.2):Sub C nt ro H0 ⟨T,H',lo'⟩ ⟨jH l,Heap.pushes H Bs,lo⟩:=by
 have hn0:=hg.n
 have hf:∀b j,RK H.n ks b=some j↔(b<H.n/\j=b)\/(H.n<=j/\ks[j-H.n]?=some b):=by
  intro b j
  unfold RK
  by_cases e:b<H.n
  ·rw[if_pos e]
   constructor
   ·intro h;injection h with h;exact .inl ⟨e,h.symm⟩
   ·rintro(⟨_,rfl⟩|⟨h1,h2⟩)
    ·rfl
    ·have:=(hkn b (IA h2)).1;omega
  ·rw[if_neg e,BA]
   constructor
   ·rintro⟨i,hi,rfl⟩
    exact .inr ⟨by omega,by rw[Nat.add_sub_cancel_left];exact(j2 ks b i hks).1 hi⟩
   ·rintro(⟨h1,_⟩|⟨h1,h2⟩)
    ·exact absurd h1 e
    ·exact⟨j-H.n,(j2 ks b _ hks).2 h2,by omega⟩
 have hgm:∀b j,A5 H.n ks j=some b↔(j<H.n/\j=b)\/(H.n<=j/\ks[j-H.n]?=some b):=by
  intro b j
  unfold A5
  by_cases e:j<H.n
  ·rw[if_pos e]
   constructor
   ·intro h;injection h with h;exact .inl ⟨e,h⟩
   ·rintro(⟨_,rfl⟩|⟨h1,h2⟩)
    ·rfl
    ·omega
  ·rw[if_neg e]
   constructor
   ·intro h;exact .inr ⟨by omega,h⟩
   ·rintro(⟨h1,_⟩|⟨h1,h2⟩)
    ·exact absurd h1 e
    ·exact h2
 have okf:∀b,b<H.n->RK H.n ks b=some b:=fun b h=>(hf b b).2 (.inl ⟨h,rfl⟩)
 refine Sub.ren (RK H.n ks) (A5 H.n ks) (fun b=>H.n<=b/\b ∉ ks) ?_ ?_ ?_ ?_ ?_ ?_ (by simp only[p7];omega) hro (Dg l hl) hlo3 fun b _ h=>by simp only;rw[T1 _ _ _ (by omega)];exact hold b h
 ·intro b j
  rw[hf,hgm]
  constructor
  ·rintro(⟨h,rfl⟩|h)
   ·exact .inl ⟨h,rfl⟩
   ·exact .inr h
  ·rintro(⟨h,rfl⟩|h)
   ·exact .inl ⟨h,rfl⟩
   ·exact .inr h
 ·intro b h;exact okf b (by omega)
 ·intro b j h hb
  rcases (hf b j).1 h with⟨h1,rfl⟩|⟨h1,h2⟩<;>omega
 ·intro j h1 h2
  right
  simp only[p7] at h2
  rcases RA j H.n with h3|h3
  ·exact⟨j,okf j h3,by simp only;omega⟩
  ·have h4:j-H.n<ks.length:=by omega
   refine⟨ks[j-H.n],(hf _ _).2 (.inr ⟨h3,sA h4⟩),(hkn _ (List.getElem_mem h4)).2⟩
 ·intro b j B h hBb
  simp only at hBb ⊢
  rcases (hf b j).1 h with⟨h1,rfl⟩|⟨h1,h2⟩
  ·rw[T1 _ _ _ h1]
   rcases hg.blk j h1 with⟨h2,h3⟩|⟨B',h2,h3⟩
   ·exact .inl ⟨h2,.inr (by omega),h3⟩
   ·right
    rw[he j h1,h2] at hBb
    injection hBb with hBb
    subst hBb
    refine⟨B',h2,?_⟩
    have h4:uS (pI H.n) (fun b=>H.n<=b/\b ∉ ks) H' B' B':=xj h3
    exact zm6 (fun b j hb=>by
     unfold pI at hb
     split at hb
     ·injection hb with hb;subst hb;exact okf _ ‹_›
     ·cases hb) h4
  ·right
   have h4:j-H.n<Bs.length:=by rw[hlen];exact(rA.1 h2).1
   obtain⟨B',h5,h6⟩:=hB (j-H.n) b Bs[j-H.n] h2 (sA h4)
   rw[h5] at hBb
   injection hBb with hBb
   subst hBb
   refine⟨Bs[j-H.n],?_,h6⟩
   have:=zgJ Bs H (j-H.n) _ (sA h4)
   rw[show H.n+(j-H.n)=j by omega] at this
   exact this
 ·rintro b ⟨h,h2⟩
  refine⟨by omega,?_,hlo⟩
  cases e:RK H.n ks b with
  | none=>rfl
  | some j=>
   rcases (hf b j).1 e with⟨h3,_⟩|⟨_,h3⟩
   ·omega
   ·exact absurd (IA h3) h2
end
section
section
variable {P:Program} {t e:TypeId} {H:Heap}
theorem iV(k:IntKind)(i m:Nat):fS (.lit (.int k (i:Nat))) m=if i<=m then some i else none:=by
 simp[fS]
theorem zh0{n z:Nat}(h:P.underlying t=some (.array n e))(hz:EF P e=some z)(b off:Nat):lH P t (.ptr b off) none none none=some (.sl b off n n none):=by
 simp[lH,h,hz,SK,MM,pM,sM]
theorem zkJ{z:Nat}(h:P.underlying t=some (.slice e))(hz:EF P e=some z)(cs:List V)(n:Nat)(k:IntKind)(i:Nat):lH P t (.pn cs n) (some (.lit (.int k (i:Nat)))) none none=if i<=n then some (.pn ((cs.drop (i*z)).take ((n-i)*z)) (n-i)) else none:=by
 simp only[lH,h,hz,SK,MM,pM,sM,iV,KA,iD]
 by_cases hi:i<=n<;>simp[hi]
theorem zjY{z:Nat}(h:P.underlying t=some (.slice e))(hz:EF P e=some z)(cs:List V)(n:Nat)(k:IntKind)(i:Nat):lH P t (.pn cs n) none (some (.lit (.int k (i:Nat)))) none=if i<=n then some (.pn (cs.take (i*z)) i) else none:=by
 simp only[lH,h,hz,SK,MM,pM,sM,iV,KA,iD]
 by_cases hi:i<=n<;>simp[hi]
theorem zeA{z:Nat}(h:P.underlying t=some (.slice e))(hz:EF P e=some z)(b off n c:Nat)(k:IntKind)(i:Nat)(hc:n<=c):lH P t (.sl b off n c none) (some (.lit (.int k (i:Nat)))) none none=if i<=n then some (.sl b (if c=i then off else off+i*z) (n-i) (c-i) none) else none:=by
 simp only[lH,h,hz,SK,MM,pM,sM,iV,KA,iD,QS]
 by_cases hi:i<=n<;>simp[hi,NJ.2 hc]
theorem zf0{z:Nat}(h:P.underlying t=some (.slice e))(hz:EF P e=some z)(b off n c:Nat)(k:IntKind)(i:Nat)(hc:n<=c):lH P t (.sl b off n c none) none (some (.lit (.int k (i:Nat)))) none=if i<=c then some (.sl b off i c none) else none:=by
 simp only[lH,h,hz,SK,MM,pM,sM,iV,KA,iD,QS]
 by_cases hi:i<=c<;>simp[hi,NJ.2 hc]
theorem zoW(zc:List V):bH zc 1=zc:=by simp[bH]
theorem DM(zc vc:List V)(h:vc.length=zc.length):zD zc 0 vc=some vc:=by
 unfold zD
 rw[if_pos (by omega)]
 simp[h]
theorem lj{z:Nat}(h:P.underlying t=some (.slice e))(hz:EF P e=some z)(hzl:(zE P e).map PB=some z)(hsm:z<=16777216)(v:V):zx P H t 1 [(0,v)]=(zG v).bind fun vc=>if vc.length=z then some ⟨.sl H.n 0 1 1 none,H.push (.cells vc e),H.n⟩ else none:=by
 obtain⟨zc,hzc,hl⟩:=BA.1 hzl
 subst hl
 simp only[zx,h,hz,hzc,pA,KA,dF,and_true,hsm,if_true,zoW,ZM,JG]
 cases zG v with
 | none=>rfl
 | some vc=>
  simp only[KA]
  by_cases hvc:vc.length=zc.length
  ·simp only[hvc,if_true,DM zc vc hvc,KA]
  ·simp only[hvc,if_false,Option.bind_none]
theorem zfq{z:Nat}(h:P.underlying t=some (.slice e))(hz:EF P e=some z)(hzl:(zE P e).map PB=some z)(hsm:2*z<=16777216)(v u:V)(vc uc:List V)(hv:zG v=some vc)(hu:zG u=some uc)(hlv:vc.length=z)(hlu:uc.length=z):
  zx P H t 2 [(0,v),(1,u)]=some ⟨.sl H.n 0 2 2 none,H.push (.cells (vc++uc) e),H.n⟩:=by
 obtain⟨zc,hzc,hl⟩:=BA.1 hzl
 subst hl
 have e1:bH zc 2=zc++zc:=by simp[bH]
 have e2:zD (zc++zc) 0 vc=some (vc++zc):=by
  unfold zD
  rw[if_pos (by simp;omega)]
  simp[hlv]
 have e3:zD (vc++zc) zc.length uc=some (vc++uc):=by
  unfold zD
  rw[if_pos (by simp;omega),<-hlv]
  simp[hlu,hlv]
 simp only[zx,h,hz,hzc,pA,KA,hsm,and_self,if_true,e1,ZM,JG,dF,hv,hu,hlv,hlu,e2,e3]
def OM(z n b:Nat):V:=if n=0 then .lit (.slice none 0 0) else .sl b 0 n n (some z)
def lO(n:Nat)(cs:List V)(e:TypeId):Blk:=if n=0 then .dead else .cells cs e
def HN(H:Heap)(b n:Nat)(cs:List V)(e:TypeId):Heap:=if n=0 then H.push (.cells cs e) else(H.push (.cells cs e)).set b .dead
theorem aW(H:Heap)(b n:Nat)(cs:List V)(e:TypeId):(HN H b n cs e).n=H.n+1:=by
 unfold HN
 split
 ·rw[iA]
 ·rw[kA,iA]
theorem ZS(H:Heap)(b n:Nat)(cs:List V)(e:TypeId)(hb:b<H.n):(HN H b n cs e).get H.n=some (.cells cs e):=by
 unfold HN
 split
 ·rw[yA,if_pos rfl]
 ·rw[dA,if_neg (by rintro⟨h,_⟩;omega),yA,if_pos rfl]
theorem zqC(H:Heap)(b n:Nat)(cs:List V)(e:TypeId){b':Nat}(h:b'≠b)(h2:b'<H.n):(HN H b n cs e).get b'=H.get b':=by
 unfold HN
 split
 ·rw[yA,if_neg (by omega)]
 ·rw[dA,if_neg (by rintro⟨h,_⟩;omega),yA,if_neg (by omega)]
def bytesOf(P:Program)(e:TypeId):Nat:=((P.info? e).map (·.bytes)).getD 0
theorem zha{z:Nat}{t1:TypeId}{d:TypeDesc}{new cs:List V}{x:V}{b n k:Nat}(h:P.underlying t=some (.slice e))(h1:P.underlying t1=some d)(hd:∀q,d≠.int q)(hz:(P.info? e).map (·.size)=some z)(hzl:(zE P e).map PB=some z)(hby:(mD 0 (bytesOf P e)&&DF (bytesOf P e) 1048576)=true)
  (hx:mJ x=some k) (hk:0<k) (hc:cellsOf H z k x=some new) (hone:new.all V.one=true) (hl:new.length=k*z) (hb:n≠0->H.get b=some (.cells cs e)) (hcs:cs.length=n*z) (hsm:n+k<=1048576):
  DH P H t t1 (OM z n b) x=some ⟨.sl H.n 0 (n+k) (n+k) (some z),HN H b n (cs++new) e,if n=0 then H.n else min b H.n⟩:=by
 obtain⟨i,hi,rfl⟩:=BA.1 hz
 obtain⟨zc,hzc,hzl⟩:=BA.1 hzl
 have eby:bytesOf P e=i.bytes:=by simp[bytesOf,hi]
 rw[eby,Bool.and_eq_true,Nat.blt_eq,Nat.ble_eq] at hby
 obtain⟨hby,hby2⟩:=hby
 replace hsm:(n+k)*i.bytes<=1099511627776:=cB (Nat.mul_le_mul hsm hby2) (by decide)
 have hk0:k≠0:=by omega
 have hok:¬¬(0<i.bytes/\zc.length=i.size/\new.all V.one=true/\new.length=k*i.size):=fun hh=>hh ⟨hby,hzl,hone,hl⟩
 unfold DH
 rw[h,h1]
 cases d with
 | int q=>exact absurd rfl (hd q)
 | _=>
  simp only[hi,hx,hc,hzc,pA,KA,if_neg hok,if_neg hk0]
  by_cases hn:n=0
  ·subst hn
   have:cs=[]:=WA.1 (by simpa using hcs)
   subst this
   have hs2:k*i.bytes<=1099511627776:=by simpa using hsm
   simp only[OM,HN,if_true,hs2,bB,List.nil_append]
  ·have e1:¬(n+k<=n):=by omega
   have e2:¬¬((n+k)*i.bytes<=1099511627776/\0+n*i.size<=cs.length/\n<=n):=fun hh=>hh ⟨hsm,by omega,jA _⟩
   simp only[OM,HN,if_neg hn,hb hn,if_neg e1,Option.isSome_some,if_true,and_self,<-hcs,FB]
   simp only[hsm,bB,jA,and_self,not_true_eq_false,if_false]
end
section
variable {P:Program} {t:TypeId} {H:Heap}
@[go_sem] theorem nT(k q:IntKind)(a b:Int):jE P .shl t (.lit (.int k a)) (.lit (.int q b))=if b<0 then none else some (.lit (.int k (k.wrap (a*2 ^ (min b.toNat k.bits))))):=by
 simp only[jE,w7]
 split<;>rfl
@[go_sem] theorem oT(k q:IntKind)(a b:Int):jE P .shr t (.lit (.int k a)) (.lit (.int q b))=if b<0 then none else some (.lit (.int k (a.fdiv (2 ^ (min b.toNat k.bits))))):=by
 simp only[jE,w7]
 split<;>rfl
theorem Rf{k k':IntKind}(s u:TypeId)(h:P.underlying u=some (.int k))(n:Int)(hs:(P.underlying s).isSome=true):bL P H s u (.lit (.int k' n))=some ⟨.lit (.int k (k.wrap n)),H,H.n⟩:=by
 obtain⟨d,hd⟩:=Option.isSome_iff_exists.1 hs
 exact PP s u hd h n
@[go_sem] theorem nW:((1:Int)<0)=False:=by simp
end
theorem iQ(n:Nat):(n:Int).fdiv (2 ^ (min (1:Int).toNat 64))=((n / 2:Nat):Int):=by
 show(n:Int).fdiv (2 ^ 1)=_
 rw[Int.fdiv_eq_ediv_of_nonneg _ (by decide)]
 simp
end
end Go.Tw
namespace Go.Proofs.YtookdinfaoelaaaGreatDoor
section
open Go Go.Tw
def pow10V:List V:=(List.range 20).map fun i=>.lit (.int .u64 ((10 ^ i:Nat):Int))
noncomputable def Cx:Ctx:={ P:=fA,G:=fun g=>bif Nat.beq g 1 then some pow10V else none,S:=fun _=>none }
@[go_sem] theorem Ji(T:Tr V):HD Cx T (.global 1)=.pp pow10V:=rfl
@[go_sem] theorem Cx_P:Cx.P=fA:=rfl
theorem zm:Cx.P.follows .mixedOrders=true:=by kernel_rfl
@[go_sem] theorem size_2:EF fA 2=some 1:=by kernel_rfl
@[go_sem] theorem WM:EF fA 3=some 1:=by kernel_rfl
@[go_sem] theorem size_4:EF fA 4=some 1:=by kernel_rfl
@[go_sem] theorem iM:EF fA 5=some 1:=by kernel_rfl
@[go_sem] theorem zpi:EF fA 9=some 1:=by kernel_rfl
@[go_sem] theorem Qi:EF fA 22=some 1:=by kernel_rfl
@[go_sem] theorem kV:EF fA 24=some 1:=by kernel_rfl
@[go_sem] theorem JU:EF fA 29=some 1:=by kernel_rfl
@[go_sem] theorem zl7:EF fA 30=some 16:=by kernel_rfl
@[go_sem] theorem YN:EF fA 32=some 17:=by kernel_rfl
@[go_sem] theorem Ri:EF fA 33=some 1:=by kernel_rfl
@[go_sem] theorem Si:EF fA 34=some 1:=by kernel_rfl
@[go_sem] theorem jV:EF fA 36=some 5:=by kernel_rfl
@[go_sem] theorem NK:EF fA 38=some 41:=by kernel_rfl
@[go_sem] theorem Ti:EF fA 47=some 1:=by kernel_rfl
@[go_sem] theorem Ui:EF fA 53=some 1:=by kernel_rfl
@[go_sem] theorem Vi:EF fA 58=some 1:=by kernel_rfl
@[go_sem] theorem zl6:EF fA 76=some 1:=by kernel_rfl
@[go_sem] theorem zmY:EF fA 114=some 1:=by kernel_rfl
@[go_sem] theorem qN:EF fA 124=some 1:=by kernel_rfl
@[go_sem] theorem zmX:EF fA 125=some 8:=by kernel_rfl
@[go_sem] theorem oR:EF fA 127=some 11:=by kernel_rfl
@[go_sem] theorem pR:EF fA 153=some 16:=by kernel_rfl
@[go_sem] theorem qR:EF fA 156=some 10:=by kernel_rfl
@[go_sem] theorem rR:EF fA 161=some 4:=by kernel_rfl
@[go_sem] theorem He:EF fA 185=some 1:=by kernel_rfl
theorem lS:(zE fA 3).map PB=some 1:=by kernel_rfl
theorem dM:(zE fA 5).map PB=some 1:=by kernel_rfl
theorem MN:(Tryz.prog.info? 5).map (·.size)=some 1:=by kernel_rfl
theorem uT:(mD 0 (bytesOf fA 5)&&DF (bytesOf fA 5) 1048576)=true:=by kernel_rfl
theorem BO:(zE fA 9).map PB=some 1:=by kernel_rfl
theorem NN:(Tryz.prog.info? 9).map (·.size)=some 1:=by kernel_rfl
theorem vT:(mD 0 (bytesOf fA 9)&&DF (bytesOf fA 9) 1048576)=true:=by kernel_rfl
theorem B8:(zE fA 32).map PB=some 17:=by kernel_rfl
theorem gl:(Tryz.prog.info? 32).map (·.size)=some 17:=by kernel_rfl
theorem KN:(mD 0 (bytesOf fA 32)&&DF (bytesOf fA 32) 1048576)=true:=by kernel_rfl
theorem A8:(zE fA 36).map PB=some 5:=by kernel_rfl
theorem dl:(Tryz.prog.info? 36).map (·.size)=some 5:=by kernel_rfl
theorem LN:(mD 0 (bytesOf fA 36)&&DF (bytesOf fA 36) 1048576)=true:=by kernel_rfl
theorem FN:(zE fA 38).map PB=some 41:=by kernel_rfl
theorem QO:(Tryz.prog.info? 38).map (·.size)=some 41:=by kernel_rfl
theorem XO:(mD 0 (bytesOf fA 38)&&DF (bytesOf fA 38) 1048576)=true:=by kernel_rfl
theorem LX:(zE fA 76).map PB=some 1:=by kernel_rfl
theorem B4:(zE fA 114).map PB=some 1:=by kernel_rfl
theorem C4:(zE fA 124).map PB=some 1:=by kernel_rfl
@[go_sem] theorem part_2(cs:List V)(o:Nat):QE fA 2 cs o=cs[o]?:=SM fA 2 (by kernel_rfl) cs o
@[go_sem] theorem uis_2:(Tryz.prog.underlying 2).isSome=true:=by rw[Tryz.underlying2];rfl
@[go_sem] theorem part_3(cs:List V)(o:Nat):QE fA 3 cs o=cs[o]?:=SM fA 3 (by kernel_rfl) cs o
@[go_sem] theorem cvi_3(H:Heap)(s:TypeId)(q:IntKind)(n:Int)(hs:(Tryz.prog.underlying s).isSome=true):bL fA H s 3 (.lit (.int q n))=some ⟨.lit (.int .i64 (tC .i64 n)),H,H.n⟩:=Rf s 3 bD n hs
@[go_sem] theorem uis_3:(Tryz.prog.underlying 3).isSome=true:=by rw[bD];rfl
@[go_sem] theorem part_4(cs:List V)(o:Nat):QE fA 4 cs o=cs[o]?:=SM fA 4 (by kernel_rfl) cs o
@[go_sem] theorem WQ(cs:List V)(o:Nat):QE fA 5 cs o=cs[o]?:=SM fA 5 (by kernel_rfl) cs o
@[go_sem] theorem cvi_5(H:Heap)(s:TypeId)(q:IntKind)(n:Int)(hs:(Tryz.prog.underlying s).isSome=true):bL fA H s 5 (.lit (.int q n))=some ⟨.lit (.int .u8 (tC .u8 n)),H,H.n⟩:=Rf s 5 pD n hs
@[go_sem] theorem uis_5:(Tryz.prog.underlying 5).isSome=true:=by rw[pD];rfl
@[go_sem] theorem part_9(cs:List V)(o:Nat):QE fA 9 cs o=cs[o]?:=SM fA 9 (by kernel_rfl) cs o
@[go_sem] theorem Z5(H:Heap)(s:ByteArray):qH fA H 9 (.lit (.string s))=some (.lit (.int .i64 s.size)):=XT cD s
@[go_sem] theorem Hb(s:ByteArray)(q:IntKind)(i:Nat):vN fA 9 (.lit (.string s)) (.lit (.int q (i:Nat)))=(s.data.toList[i]?).map PE:=zow cD s q i
@[go_sem] theorem ni(cs:List V)(o:Nat):QE fA 22 cs o=cs[o]?:=SM fA 22 (by kernel_rfl) cs o
@[go_sem] theorem P5(H:Heap)(cs:List V)(n:Nat):qH fA H 22 (.pn cs n)=some (.lit (.int .i64 n)):=dS FA cs n
@[go_sem] theorem W5(H:Heap)(b o n c:Nat)(p:Option Nat):qH fA H 22 (.sl b o n c p)=some (.lit (.int .i64 n)):=sV FA b o n c p
@[go_sem] theorem iZ(H:Heap)(n m:Nat):qH fA H 22 (.lit (.slice none n m))=some (.lit (.int .i64 n)):=C3 FA n m
@[go_sem] theorem kQ(cs:List V)(l:Nat)(q:IntKind)(i:Nat):zv fA 22 (.pn cs l) (.lit (.int q (i:Nat)))=if i<l then some (.pp (cs.drop (i*41))) else none:=oX FA NK cs l q i
@[go_sem] theorem Db(b o l c:Nat)(p:Option Nat)(q:IntKind)(i:Nat):zv fA 22 (.sl b o l c p) (.lit (.int q (i:Nat)))=if i<l then some (.ptr b (o+i*41)) else none:=Pf FA NK b o l c p q i
@[go_sem] theorem D5(cs:List V)(l:Nat)(q:IntKind):zv fA 22 (.pn cs l) (.lit (.int q 0))=if 0<l then some (.pp cs) else none:=by have:=kQ cs l q 0;simpa using this
@[go_sem] theorem bs1_22(H:Heap)(v:V):zx fA H 22 1 [(0,v)]=(zG v).bind fun vc=>if vc.length=41 then some ⟨.sl H.n 0 1 1 none,H.push (.cells vc 38),H.n⟩ else none:=lj FA NK FN (by decide) v
theorem vV:uM fA 24=some true:=by kernel_rfl
theorem AU(cs:List V)(o:Nat):QE fA 24 cs o=if o+1<=cs.length then some (.agg ((cs.drop o).take 1)) else none:=TM fA 24 vV kV cs o
@[go_sem] theorem Mh(x:V):dL fA 24 x 0=II x 0:=by kernel_rfl
@[go_sem] theorem zpz(cs:List V)(o:Nat):QE fA 29 cs o=cs[o]?:=SM fA 29 (by kernel_rfl) cs o
@[go_sem] theorem cvi_29(H:Heap)(s:TypeId)(q:IntKind)(n:Int)(hs:(Tryz.prog.underlying s).isSome=true):bL fA H s 29 (.lit (.int q n))=some ⟨.lit (.int .u64 (tC .u64 n)),H,H.n⟩:=Rf s 29 wE n hs
@[go_sem] theorem uis_29:(Tryz.prog.underlying 29).isSome=true:=by rw[wE];rfl
theorem zqE:uM fA 30=some true:=by kernel_rfl
theorem BU(cs:List V)(o:Nat):QE fA 30 cs o=if o+16<=cs.length then some (.agg ((cs.drop o).take 16)) else none:=TM fA 30 zqE zl7 cs o
@[go_sem] theorem slA_30(b off:Nat):lH fA 30 (.ptr b off) none none none=some (.sl b off 16 16 none):=zh0 UF iM b off
@[go_sem] theorem C5(x:V)(q:IntKind)(i:Nat):zv fA 30 x (.lit (.int q (i:Nat)))=if i<16 then II x (i*1) else none:=Cj UF iM x q i
theorem Kg:uM fA 32=some true:=by kernel_rfl
theorem V7(cs:List V)(o:Nat):QE fA 32 cs o=if o+17<=cs.length then some (.agg ((cs.drop o).take 17)) else none:=TM fA 32 Kg YN cs o
@[go_sem] theorem Nh(x:V):dL fA 32 x 0=II x 0:=by kernel_rfl
@[go_sem] theorem Oh(x:V):dL fA 32 x 1=II x 1:=by kernel_rfl
@[go_sem] theorem oi(cs:List V)(o:Nat):QE fA 33 cs o=cs[o]?:=SM fA 33 (by kernel_rfl) cs o
@[go_sem] theorem Q5(H:Heap)(cs:List V)(n:Nat):qH fA H 33 (.pn cs n)=some (.lit (.int .i64 n)):=dS OB cs n
@[go_sem] theorem jZ(H:Heap)(n m:Nat):qH fA H 33 (.lit (.slice none n m))=some (.lit (.int .i64 n)):=C3 OB n m
@[go_sem] theorem Ab(cs:List V)(l:Nat)(q:IntKind)(i:Nat):zv fA 33 (.pn cs l) (.lit (.int q (i:Nat)))=if i<l then some (.pp (cs.drop (i*5))) else none:=oX OB jV cs l q i
@[go_sem] theorem Eb(b o l c:Nat)(p:Option Nat)(q:IntKind)(i:Nat):zv fA 33 (.sl b o l c p) (.lit (.int q (i:Nat)))=if i<l then some (.ptr b (o+i*5)) else none:=Pf OB jV b o l c p q i
@[go_sem] theorem bs1_33(H:Heap)(v:V):zx fA H 33 1 [(0,v)]=(zG v).bind fun vc=>if vc.length=5 then some ⟨.sl H.n 0 1 1 none,H.push (.cells vc 36),H.n⟩ else none:=lj OB jV A8 (by decide) v
@[go_sem] theorem pi(cs:List V)(o:Nat):QE fA 34 cs o=cs[o]?:=SM fA 34 (by kernel_rfl) cs o
@[go_sem] theorem R5(H:Heap)(cs:List V)(n:Nat):qH fA H 34 (.pn cs n)=some (.lit (.int .i64 n)):=dS iC cs n
@[go_sem] theorem kZ(H:Heap)(n m:Nat):qH fA H 34 (.lit (.slice none n m))=some (.lit (.int .i64 n)):=C3 iC n m
@[go_sem] theorem Bb(cs:List V)(l:Nat)(q:IntKind)(i:Nat):zv fA 34 (.pn cs l) (.lit (.int q (i:Nat)))=if i<l then some (.pp (cs.drop (i*1))) else none:=oX iC zpi cs l q i
theorem Jg:uM fA 36=some true:=by kernel_rfl
theorem pk(cs:List V)(o:Nat):QE fA 36 cs o=if o+5<=cs.length then some (.agg ((cs.drop o).take 5)) else none:=TM fA 36 Jg jV cs o
@[go_sem] theorem Ph(x:V):dL fA 36 x 0=II x 0:=by kernel_rfl
@[go_sem] theorem Qh(x:V):dL fA 36 x 1=II x 1:=by kernel_rfl
@[go_sem] theorem Rh(x:V):dL fA 36 x 2=II x 2:=by kernel_rfl
@[go_sem] theorem Sh(x:V):dL fA 36 x 3=II x 3:=by kernel_rfl
@[go_sem] theorem Th(x:V):dL fA 36 x 4=II x 4:=by kernel_rfl
theorem m8:uM fA 38=some true:=by kernel_rfl
theorem zpy(cs:List V)(o:Nat):QE fA 38 cs o=if o+41<=cs.length then some (.agg ((cs.drop o).take 41)) else none:=TM fA 38 m8 NK cs o
@[go_sem] theorem Uh(x:V):dL fA 38 x 0=II x 0:=by kernel_rfl
@[go_sem] theorem Vh(x:V):dL fA 38 x 1=II x 17:=by kernel_rfl
@[go_sem] theorem Wh(x:V):dL fA 38 x 2=II x 34:=by kernel_rfl
@[go_sem] theorem Xh(x:V):dL fA 38 x 3=II x 35:=by kernel_rfl
@[go_sem] theorem Yh(x:V):dL fA 38 x 4=II x 36:=by kernel_rfl
@[go_sem] theorem qi(cs:List V)(o:Nat):QE fA 47 cs o=cs[o]?:=SM fA 47 (by kernel_rfl) cs o
@[go_sem] theorem S5(H:Heap)(cs:List V)(n:Nat):qH fA H 47 (.pn cs n)=some (.lit (.int .i64 n)):=dS GB cs n
@[go_sem] theorem Y5(H:Heap)(b o n c:Nat)(p:Option Nat):qH fA H 47 (.sl b o n c p)=some (.lit (.int .i64 n)):=sV GB b o n c p
@[go_sem] theorem lQ(cs:List V)(l:Nat)(q:IntKind)(i:Nat):zv fA 47 (.pn cs l) (.lit (.int q (i:Nat)))=if i<l then some (.pp (cs.drop (i*17))) else none:=oX GB YN cs l q i
@[go_sem] theorem Fb(b o l c:Nat)(p:Option Nat)(q:IntKind)(i:Nat):zv fA 47 (.sl b o l c p) (.lit (.int q (i:Nat)))=if i<l then some (.ptr b (o+i*17)) else none:=Pf GB YN b o l c p q i
@[go_sem] theorem E5(cs:List V)(l:Nat)(q:IntKind):zv fA 47 (.pn cs l) (.lit (.int q 0))=if 0<l then some (.pp cs) else none:=by have:=lQ cs l q 0;simpa using this
@[go_sem] theorem bs1_47(H:Heap)(v:V):zx fA H 47 1 [(0,v)]=(zG v).bind fun vc=>if vc.length=17 then some ⟨.sl H.n 0 1 1 none,H.push (.cells vc 32),H.n⟩ else none:=lj GB YN B8 (by decide) v
theorem H9{H:Heap}{new cs:List V}{x:V}{b n k:Nat}(hx:mJ x=some k)(hk:0<k)(hc:cellsOf H 17 k x=some new)(hone:new.all V.one=true)(hl:new.length=k*17)(hb:n≠0->H.get b=some (.cells cs 32))(hcs:cs.length=n*17)(hsm:n+k<=1048576):DH fA H 47 47 (OM 17 n b) x=some ⟨.sl H.n 0 (n+k) (n+k) (some 17),HN H b n (cs++new) 32,if n=0 then H.n else min b H.n⟩:=zha GB GB (by intro q h;cases h) gl B8 KN hx hk hc hone hl hb hcs hsm
@[go_sem] theorem ri(cs:List V)(o:Nat):QE fA 53 cs o=cs[o]?:=SM fA 53 (by kernel_rfl) cs o
@[go_sem] theorem Zh(x:V):dL fA 55 x 0=II x 0:=by kernel_rfl
@[go_sem] theorem si(cs:List V)(o:Nat):QE fA 58 cs o=cs[o]?:=SM fA 58 (by kernel_rfl) cs o
@[go_sem] theorem ti(cs:List V)(o:Nat):QE fA 76 cs o=cs[o]?:=SM fA 76 (by kernel_rfl) cs o
@[go_sem] theorem T5(H:Heap)(cs:List V)(n:Nat):qH fA H 76 (.pn cs n)=some (.lit (.int .i64 n)):=dS TA cs n
@[go_sem] theorem Ij(H:Heap)(b o n c:Nat)(p:Option Nat):qH fA H 76 (.sl b o n c p)=some (.lit (.int .i64 n)):=sV TA b o n c p
@[go_sem] theorem lZ(H:Heap)(n m:Nat):qH fA H 76 (.lit (.slice none n m))=some (.lit (.int .i64 n)):=C3 TA n m
@[go_sem] theorem Cb(cs:List V)(l:Nat)(q:IntKind)(i:Nat):zv fA 76 (.pn cs l) (.lit (.int q (i:Nat)))=if i<l then some (.pp (cs.drop (i*1))) else none:=oX TA iM cs l q i
@[go_sem] theorem Gb(b o l c:Nat)(p:Option Nat)(q:IntKind)(i:Nat):zv fA 76 (.sl b o l c p) (.lit (.int q (i:Nat)))=if i<l then some (.ptr b (o+i*1)) else none:=Pf TA iM b o l c p q i
@[go_sem] theorem bs1_76(H:Heap)(v:V):zx fA H 76 1 [(0,v)]=(zG v).bind fun vc=>if vc.length=1 then some ⟨.sl H.n 0 1 1 none,H.push (.cells vc 5),H.n⟩ else none:=lj TA iM dM (by decide) v
@[go_sem] theorem Q0(cs:List V)(n:Nat)(q:IntKind)(i:Nat):lH fA 76 (.pn cs n) (some (.lit (.int q (i:Nat)))) none none=if i<=n then some (.pn ((cs.drop (i*1)).take ((n-i)*1)) (n-i)) else none:=zkJ TA iM cs n q i
@[go_sem] theorem N0(cs:List V)(n:Nat)(q:IntKind)(i:Nat):lH fA 76 (.pn cs n) none (some (.lit (.int q (i:Nat)))) none=if i<=n then some (.pn (cs.take (i*1)) i) else none:=zjY TA iM cs n q i
@[go_sem] theorem cvi_95(H:Heap)(s:TypeId)(q:IntKind)(n:Int)(hs:(Tryz.prog.underlying s).isSome=true):bL fA H s 95 (.lit (.int q n))=some ⟨.lit (.int .u64 (tC .u64 n)),H,H.n⟩:=Rf s 95 XF n hs
@[go_sem] theorem uis_95:(Tryz.prog.underlying 95).isSome=true:=by rw[XF];rfl
@[go_sem] theorem nZ(H:Heap)(cs:List V)(n:Nat):qH fA H 100 (.pn cs n)=some (.lit (.int .i64 n)):=dS vG cs n
@[go_sem] theorem F5(cs:List V)(l:Nat)(q:IntKind)(i:Nat):zv fA 100 (.pn cs l) (.lit (.int q (i:Nat)))=if i<l then some (.pp (cs.drop (i*1))) else none:=oX vG zl6 cs l q i
theorem qT(H:Heap)(v u:V)(vc uc:List V)(hv:zG v=some vc)(hu:zG u=some uc)(hlv:vc.length=1)(hlu:uc.length=1):zx fA H 100 2 [(0,v),(1,u)]=some ⟨.sl H.n 0 2 2 none,H.push (.cells (vc++uc) 76),H.n⟩:=zfq vG zl6 LX (by decide) v u vc uc hv hu hlv hlu
@[go_sem] theorem Yd(cs:List V)(o:Nat):QE fA 114 cs o=cs[o]?:=SM fA 114 (by kernel_rfl) cs o
@[go_sem] theorem oZ(H:Heap)(cs:List V)(n:Nat):qH fA H 114 (.pn cs n)=some (.lit (.int .i64 n)):=dS CC cs n
@[go_sem] theorem zpX(cs:List V)(l:Nat)(q:IntKind)(i:Nat):zv fA 114 (.pn cs l) (.lit (.int q (i:Nat)))=if i<l then some (.pp (cs.drop (i*1))) else none:=oX CC WM cs l q i
theorem zqp(H:Heap)(v u:V)(vc uc:List V)(hv:zG v=some vc)(hu:zG u=some uc)(hlv:vc.length=1)(hlu:uc.length=1):zx fA H 114 2 [(0,v),(1,u)]=some ⟨.sl H.n 0 2 2 none,H.push (.cells (vc++uc) 3),H.n⟩:=zfq CC WM lS (by decide) v u vc uc hv hu hlv hlu
@[go_sem] theorem Zd(cs:List V)(o:Nat):QE fA 124 cs o=cs[o]?:=SM fA 124 (by kernel_rfl) cs o
@[go_sem] theorem Eh(H:Heap)(s:TypeId)(q:IntKind)(n:Int)(hs:(Tryz.prog.underlying s).isSome=true):bL fA H s 124 (.lit (.int q n))=some ⟨.lit (.int .u32 (tC .u32 n)),H,H.n⟩:=Rf s 124 PJ n hs
@[go_sem] theorem aj:(Tryz.prog.underlying 124).isSome=true:=by rw[PJ];rfl
theorem zqF:uM fA 125=some true:=by kernel_rfl
@[go_sem] theorem Wi(b off:Nat):lH fA 125 (.ptr b off) none none none=some (.sl b off 8 8 none):=zh0 QH qN b off
@[go_sem] theorem SY(x:V)(q:IntKind)(i:Nat):zv fA 125 x (.lit (.int q (i:Nat)))=if i<8 then II x (i*1) else none:=Cj QH qN x q i
theorem VS:uM fA 127=some true:=by kernel_rfl
@[go_sem] theorem db(x:V):dL fA 127 x 0=II x 0:=by kernel_rfl
@[go_sem] theorem ib(x:V):dL fA 127 x 1=II x 8:=by kernel_rfl
@[go_sem] theorem jb(x:V):dL fA 127 x 2=II x 9:=by kernel_rfl
@[go_sem] theorem mb(x:V):dL fA 127 x 3=II x 10:=by kernel_rfl
@[go_sem] theorem Xi(b off:Nat):lH fA 143 (.ptr b off) none none none=some (.sl b off 64 64 none):=zh0 Tryz.underlying143 iM b off
theorem WS:uM fA 153=some true:=by kernel_rfl
@[go_sem] theorem TY(x:V)(q:IntKind)(i:Nat):zv fA 153 x (.lit (.int q (i:Nat)))=if i<16 then II x (i*1) else none:=Cj Tryz.underlying153 qN x q i
@[go_sem] theorem H5(b o l c:Nat)(p:Option Nat)(q:IntKind)(i:Nat):zv fA 155 (.sl b o l c p) (.lit (.int q (i:Nat)))=if i<l then some (.ptr b (o+i*1)) else none:=Pf Tryz.underlying155 qN b o l c p q i
theorem XS:uM fA 156=some true:=by kernel_rfl
theorem YS:uM fA 161=some true:=by kernel_rfl
@[go_sem] theorem G5(cs:List V)(l:Nat)(q:IntKind)(i:Nat):zv fA 175 (.pn cs l) (.lit (.int q (i:Nat)))=if i<l then some (.pp (cs.drop (i*1))) else none:=oX Tryz.underlying175 zmY cs l q i
@[go_sem] theorem ae(cs:List V)(o:Nat):QE fA 185 cs o=cs[o]?:=SM fA 185 (by kernel_rfl) cs o
@[go_sem] theorem UY(x:V)(q:IntKind)(i:Nat):zv fA 201 x (.lit (.int q (i:Nat)))=if i<20 then II x (i*1) else none:=Cj Tryz.underlying201 JU x q i
end
end Go.Proofs.YtookdinfaoelaaaGreatDoor
namespace Go.Tw
theorem KT{P:Program}{t e:TypeId}{n:Nat}(h:P.underlying t=some (.array n e))(d:Nat)(xs ys:List V):UJ P (d+1) t (.agg xs) (.agg ys)=(EF P e).bind fun z=>YU P (UJ P d e) e z xs ys n 0:=by
 unfold UJ;rw[h];rfl
theorem zoA{P:Program}{t:TypeId}{fs:Array Field}(h:P.underlying t=some (.struct fs))(hs:P.stoodInHeld t=false)(d:Nat)(xs ys:List V):UJ P (d+1) t (.agg xs) (.agg ys)=S1 P (UJ P d) xs ys fs.toList:=by
 unfold UJ;rw[h];simp[hs]
theorem zqc{P:Program}{t:TypeId}{q:IntKind}(h:P.underlying t=some (.int q))(d:Nat)(k:IntKind)(a b:Int):UJ P (d+1) t (.lit (.int k a)) (.lit (.int k b))=some (decide (a=b)):=by
 unfold UJ;rw[h];simp;rfl
theorem zmL{P:Program}{t:TypeId}(hg:P.eqGuardType P.depth t=false)(xs ys:List V):jE P .eql t (.agg xs) (.agg ys)=(UJ P 9 t (.agg xs) (.agg ys)).map fun r=>.lit (.bool r):=by
 simp[jE,CV,LL,hg]
theorem zmK{P:Program}{t:TypeId}(hg:P.eqGuardType P.depth t=false)(xs ys:List V):jE P .neq t (.agg xs) (.agg ys)=(UJ P 9 t (.agg xs) (.agg ys)).map fun r=>.lit (.bool !r):=by
 simp[jE,CV,LL,hg]
end Go.Tw
namespace Go.Proofs.YtookdinfaoelaaaGreatDoor
section
open Go Go.Tw
theorem gN(A B D:List V){o n:Nat}(hA:A.length=o)(hB:B.length=n):((A++B++D).drop o).take n=B:=by
 subst hA hB
 rw[XA,List.drop_left,dJ]
theorem GO(A D:List V)(v:V){o:Nat}(hA:A.length=o):(A++[v]++D)[o]?=some v:=by
 subst hA
 rw[XA,List.getElem?_append_right (jA _),Nat.sub_self]
 rfl
theorem eN(A B D B':List V){o:Nat}(hA:A.length=o)(hB:B.length=B'.length):zD (A++B++D) o B'=some (A++B'++D):=by
 subst hA
 unfold zD
 have e1:(A++B++D).take A.length=A:=by rw[XA,dJ]
 have e2:(A++B++D).drop (A.length+B'.length)=D:=by rw[<-hB,<-qA,List.drop_left]
 rw[if_pos (by simp[hB]),e1,e2]
def zV:List V:=[vA 0,vA 0,gE .empty,.lit (.slice none 0 0),.lit (.slice none 0 0)]
def zNode:List V:=ze GRev.zero++(ze GRev.zero++(vA 0::vA 0::zV))
def oJ:List V:=[.lit (.slice none 0 0)]
@[go_sem] theorem sk:zE fA 32=some (ze GRev.zero):=by kernel_rfl
@[go_sem] theorem ff(x:GRev):QE fA 32 (ze x) 0=some (.agg (ze x)):=by
 rw[V7,if_pos (by simp[zi])];rw[UA,uA (by simp[zi])]
@[go_sem] theorem Q6(x:GRev)(r:List V):QE fA 32 (ze x++r) 0=some (.agg (ze x)):=by
 rw[V7,if_pos (by simp[zi])];rw[UA,mC (zi x)]
@[go_sem] theorem zpw(x:GRev):(ze x)[0]?=some (.lit (.int .u64 x.gen)):=by
 have e:ze x=([])++([.lit (.int .u64 x.gen)])++(FH x.sum):=by
  simp[ze,ze]
 rw[e,GO _ _ _ (by simp)]
@[go_sem] theorem ee(x:GRev)(r:List V):(ze x++r)[0]?=some (.lit (.int .u64 x.gen)):=by
 have e:ze x=([])++([.lit (.int .u64 x.gen)])++(FH x.sum):=by
  simp[ze,ze]
 rw[e,XA _ _ r,GO _ _ _ (by simp)]
@[go_sem] theorem zpv(x:GRev):QE fA 30 (ze x) 1=some (.agg (FH x.sum)):=by
 have e:ze x=([.lit (.int .u64 x.gen)])++(FH x.sum)++([]):=by
  simp[ze,ze]
 rw[BU,if_pos (by rw[zi];decide),e,gN _ _ _ (by simp) (by simp[zX])]
@[go_sem] theorem tj:zE fA 36=some zV:=by kernel_rfl
@[go_sem] theorem gf(x:GV):QE fA 36 (zR x) 0=some (.agg (zR x)):=by
 rw[pk,if_pos (by simp[zF])];rw[UA,uA (by simp[zF])]
@[go_sem] theorem R6(x:GV)(r:List V):QE fA 36 (zR x++r) 0=some (.agg (zR x)):=by
 rw[pk,if_pos (by simp[zF])];rw[UA,mC (zF x)]
@[go_sem] theorem vi(x:GV):(zR x)[0]?=some (.lit (.int .i64 x.kind)):=by
 have e:zR x=([])++([.lit (.int .i64 x.kind)])++([.lit (.int .i64 x.num)]++[.lit (.string x.text)]++[NB zR x.list]++[NB RH x.keys]):=by
  simp[WJ,WJ,NB]
 rw[e,GO _ _ _ (by simp)]
@[go_sem] theorem wi(x:GV):(zR x)[1]?=some (.lit (.int .i64 x.num)):=by
 have e:zR x=([.lit (.int .i64 x.kind)])++([.lit (.int .i64 x.num)])++([.lit (.string x.text)]++[NB zR x.list]++[NB RH x.keys]):=by
  simp[WJ,WJ,NB]
 rw[e,GO _ _ _ (by simp)]
@[go_sem] theorem xi(x:GV):(zR x)[2]?=some (.lit (.string x.text)):=by
 have e:zR x=([.lit (.int .i64 x.kind)]++[.lit (.int .i64 x.num)])++([.lit (.string x.text)])++([NB zR x.list]++[NB RH x.keys]):=by
  simp[WJ,WJ,NB]
 rw[e,GO _ _ _ (by simp)]
@[go_sem] theorem yi(x:GV):(zR x)[3]?=some (NB zR x.list):=by
 have e:zR x=([.lit (.int .i64 x.kind)]++[.lit (.int .i64 x.num)]++[.lit (.string x.text)])++([NB zR x.list])++([NB RH x.keys]):=by
  simp[WJ,WJ,NB]
 rw[e,GO _ _ _ (by simp)]
@[go_sem] theorem Ai(x:GV):(zR x)[4]?=some (NB RH x.keys):=by
 have e:zR x=([.lit (.int .i64 x.kind)]++[.lit (.int .i64 x.num)]++[.lit (.string x.text)]++[NB zR x.list])++([NB RH x.keys])++([]):=by
  simp[WJ,WJ,NB]
 rw[e,GO _ _ _ (by simp)]
@[go_sem] theorem zl2:zE fA 38=some zNode:=by kernel_rfl
@[go_sem] theorem jf(x:GNode):QE fA 38 (za x) 0=some (.agg (za x)):=by
 rw[zpy,if_pos (by simp[zg])];rw[UA,uA (by simp[zg])]
@[go_sem] theorem S6(x:GNode)(r:List V):QE fA 38 (za x++r) 0=some (.agg (za x)):=by
 rw[zpy,if_pos (by simp[zg])];rw[UA,mC (zg x)]
@[go_sem] theorem Bi(x:GNode):QE fA 32 (za x) 0=some (.agg (ze x.rev)):=by
 have e:za x=([])++(ze x.rev)++(ze x.parent++[.lit (.int .i64 x.deleted)]++[.lit (.int .i64 x.has)]++zR x.body):=by
  simp[za,WJ,NB]
 rw[V7,if_pos (by rw[zg];decide),e,gN _ _ _ (by simp) (by simp[zi])]
@[go_sem] theorem fe(x:GNode)(r:List V):QE fA 32 (za x++r) 0=some (.agg (ze x.rev)):=by
 have e:za x=([])++(ze x.rev)++(ze x.parent++[.lit (.int .i64 x.deleted)]++[.lit (.int .i64 x.has)]++zR x.body):=by
  simp[za,WJ,NB]
 rw[V7,if_pos (by simp[zg];omega),e,XA _ _ r,gN _ _ _ (by simp) (by simp[zi])]
@[go_sem] theorem o6(x:GNode):(za x)[0]?=some (.lit (.int .u64 x.rev.gen)):=by
 have e:za x=([])++([.lit (.int .u64 x.rev.gen)])++(FH x.rev.sum++ze x.parent++[.lit (.int .i64 x.deleted)]++[.lit (.int .i64 x.has)]++zR x.body):=by
  simp[za,WJ,NB,ze]
 rw[e,GO _ _ _ (by simp)]
@[go_sem] theorem Ci(x:GNode):QE fA 32 (za x) 17=some (.agg (ze x.parent)):=by
 have e:za x=(ze x.rev)++(ze x.parent)++([.lit (.int .i64 x.deleted)]++[.lit (.int .i64 x.has)]++zR x.body):=by
  simp[za,WJ,NB]
 rw[V7,if_pos (by rw[zg];decide),e,gN _ _ _ (by simp[zi]) (by simp[zi])]
@[go_sem] theorem ie(x:GNode)(r:List V):QE fA 32 (za x++r) 17=some (.agg (ze x.parent)):=by
 have e:za x=(ze x.rev)++(ze x.parent)++([.lit (.int .i64 x.deleted)]++[.lit (.int .i64 x.has)]++zR x.body):=by
  simp[za,WJ,NB]
 rw[V7,if_pos (by simp[zg];omega),e,XA _ _ r,gN _ _ _ (by simp[zi]) (by simp[zi])]
@[go_sem] theorem p6(x:GNode):(za x)[17]?=some (.lit (.int .u64 x.parent.gen)):=by
 have e:za x=(ze x.rev)++([.lit (.int .u64 x.parent.gen)])++(FH x.parent.sum++[.lit (.int .i64 x.deleted)]++[.lit (.int .i64 x.has)]++zR x.body):=by
  simp[za,WJ,NB,ze]
 rw[e,GO _ _ _ (by simp[zi])]
@[go_sem] theorem Di(x:GNode):(za x)[34]?=some (.lit (.int .i64 x.deleted)):=by
 have e:za x=(ze x.rev++ze x.parent)++([.lit (.int .i64 x.deleted)])++([.lit (.int .i64 x.has)]++zR x.body):=by
  simp[za,WJ,NB]
 rw[e,GO _ _ _ (by simp[zi])]
@[go_sem] theorem je(x:GNode)(r:List V):(za x++r)[34]?=some (.lit (.int .i64 x.deleted)):=by
 have e:za x=(ze x.rev++ze x.parent)++([.lit (.int .i64 x.deleted)])++([.lit (.int .i64 x.has)]++zR x.body):=by
  simp[za,WJ,NB]
 rw[e,XA _ _ r,GO _ _ _ (by simp[zi])]
@[go_sem] theorem Ei(x:GNode):(za x)[35]?=some (.lit (.int .i64 x.has)):=by
 have e:za x=(ze x.rev++ze x.parent++[.lit (.int .i64 x.deleted)])++([.lit (.int .i64 x.has)])++(zR x.body):=by
  simp[za,WJ,NB]
 rw[e,GO _ _ _ (by simp[zi])]
@[go_sem] theorem Fi(x:GNode):QE fA 36 (za x) 36=some (.agg (zR x.body)):=by
 have e:za x=(ze x.rev++ze x.parent++[.lit (.int .i64 x.deleted)]++[.lit (.int .i64 x.has)])++(zR x.body)++([]):=by
  simp[za,WJ,NB]
 rw[pk,if_pos (by rw[zg];decide),e,gN _ _ _ (by simp[zi]) (by simp[zF])]
@[go_sem] theorem ke(x:GNode)(r:List V):QE fA 36 (za x++r) 36=some (.agg (zR x.body)):=by
 have e:za x=(ze x.rev++ze x.parent++[.lit (.int .i64 x.deleted)]++[.lit (.int .i64 x.has)])++(zR x.body)++([]):=by
  simp[za,WJ,NB]
 rw[pk,if_pos (by simp[zg]),e,XA _ _ r,gN _ _ _ (by simp[zi]) (by simp[zF])]
@[go_sem] theorem sj:zE fA 24=some oJ:=by kernel_rfl
@[go_sem] theorem af(x:GTree):QE fA 24 (zp x) 0=some (.agg (zp x)):=by
 rw[AU,if_pos (by simp[zU])];rw[UA,uA (by simp[zU])]
@[go_sem] theorem ui(x:GTree):(zp x)[0]?=some (NB za x.nodes):=by
 have e:zp x=([])++([NB za x.nodes])++([]):=by
  simp[zp,NB]
 rw[e,GO _ _ _ (by simp)]
end
end Go.Proofs.YtookdinfaoelaaaGreatDoor
namespace Go.Tw
section
mutual
def GV.wf:GV->Prop
 | .mk k n t l ks=>l.length<=9223372036854775807/\ks.length<=9223372036854775807/\t.size<=9223372036854775807/\(∀s∈ks,s.size<=9223372036854775807)/\GV.wfs l
def GV.wfs:List GV->Prop
 | []=>True
 | v::vs=>GV.wf v/\GV.wfs vs
end
theorem GV.wfs_mem:∀{l:List GV},GV.wfs l->∀x∈l,x.wf
 | [],_,x,hx=>by cases hx
 | v::vs,h,x,hx=>by
  rcases List.mem_cons.1 hx with rfl|hx
  ·exact h.1
  ·exact GV.wfs_mem h.2 x hx
theorem GV.wf_list{v:GV}(h:v.wf):v.list.length<=9223372036854775807:=by cases v;exact h.1
theorem GV.wf_keys{v:GV}(h:v.wf):v.keys.length<=9223372036854775807:=by cases v;exact h.2.1
theorem GV.wf_text{v:GV}(h:v.wf):v.text.size<=9223372036854775807:=by cases v;exact h.2.2.1
theorem GV.wf_key{v:GV}(h:v.wf):∀s∈v.keys,s.size<=9223372036854775807:=by cases v;exact h.2.2.2.1
theorem GV.wf_mem{v:GV}(h:v.wf):∀x∈v.list,x.wf:=by cases v;exact GV.wfs_mem h.2.2.2.2
theorem GV.ext_iff{a b:GV}:a=b↔a.kind=b.kind/\a.num=b.num/\a.text=b.text/\a.keys=b.keys/\a.list=b.list:=by
 cases a;cases b
 simp only[GV.mk.injEq,GV.kind,GV.num,GV.text,GV.keys,GV.list]
 constructor
 ·rintro⟨h1,h2,h3,h4,h5⟩;exact⟨h1,h2,h3,h5,h4⟩
 ·rintro⟨h1,h2,h3,h4,h5⟩;exact⟨h1,h2,h3,h5,h4⟩
theorem GV.size_mem{v x:GV}(h:x∈v.list):SizeOf.sizeOf x<SizeOf.sizeOf v:=by
 cases v with
 | mk k n t l ks=>
  have h:x∈l:=h
  have:=List.sizeOf_lt_of_mem h
  simp only[GV.mk.sizeOf_spec]
  omega
theorem zu{α:Type}{l:List α}{i:Nat}(h:i<l.length):∃x,l[i]?=some x:=⟨_,sA h⟩
theorem i8{α:Type}{l m:List α}(hl:l.length=m.length)(h:∀j,j<l.length->l[j]?=m[j]?):l=m:=by
 apply YE
 intro j
 rcases RA j l.length with h'|h'
 ·exact h j h'
 ·rw[kE h',kE (by omega)]
theorem zO{α:Type}{e:α->List V}(h:∀x,QF (e x)=true)(n:Nat)(l:List α):nI n (row e l)=true:=tN n _ (UH h l)
theorem NR(n:Nat)(v:GV):nI n (zR v)=true:=tN n _ (TL v)
theorem MR(n:Nat)(v:GRev):nI n (ze v)=true:=tN n _ (zz v)
theorem fX(n:Nat)(v:gO):nI n (FH v)=true:=tN n _ (zjI v)
theorem eX(n:Nat)(v:GNode):nI n (za v)=true:=tN n _ (zK v)
theorem JO(n:Nat)(v:GTree):nI n (zp v)=true:=tN n _ (CM v)
theorem gX(n:Nat)(v:ByteArray):nI n (RH v)=true:=rfl
theorem iX(n:Nat)(v:Int):nI n (zW v)=true:=rfl
theorem lX(n:Nat)(l:List UInt8):nI n (l.map PE)=true:=tN n _ (Tj l)
section
variable {ι:Type} {C:Ctx} {nt:Nat} {ro:Option Nat} {H0:Heap} {S:ι->List (Nat×V)} {Hs:ι->Heap} {ls:ι->Nat} {inv:ι->Prop} {m:ι->Nat} {i:ι} {T:Tr V} {H:Heap} {lo:Nat}
theorem Again.rest{h:Hid (S,Hs,ls,inv,m,i)}(j:ι)(hj:inv j)(hm:m j<m i)(hT:∀p∈S j,PD T p.1=p.2)(hok:(S j).all (fun p=>V.ok (Hs j).n p.2)=true)(hg:Grn H0 (Hs j))(hn:(Hs j).n<=H.n)(he:∀b,b<(Hs j).n->H.get b=(Hs j).get b)(hlo:H0.n<=lo)(hlo2:H0.n<=ls j)(hlo3:ls j<=lo)(hold:∀b,b<H0.n->(Hs j).get b=H0.get b)
  (hro:∀b,ro=some b->b<H0.n):Again C nt ro H0 S Hs ls inv m i T H lo h:=
 Again.back j hj hm (fun p hp=>RN.same (hT p hp) (gB.1 hok p hp)) hg hn he hlo hlo2 hlo3 hold hro
end
theorem BR.ndec{p:Prop}{_:Decidable p}{A B:Prop}{hh:Hid (A,B)}(h:¬p->A)(k:p->B):EV (.lit (.bool (!decide p))) A B hh:=by
 by_cases e:p
 ·simp only[e,decide_true,iF,zn6];exact k e
 ·simp only[e,decide_false,rE,zqL];exact h e
theorem GD.ndec{p:Prop}{_:Decidable p}{w:Bool}{A B:Prop}{hh:Hid (A,B)}(h:¬p->GD (.lit (.bool true)) w A B hh)(k:p->GD (.lit (.bool false)) w A B hh):GD (.lit (.bool (!decide p))) w A B hh:=by
 by_cases e:p
 ·simp only[e,decide_true,iF];exact k e
 ·simp only[e,decide_false,rE];exact h e
theorem BR.nspl{b:Bool}{A B:Prop}{hh:Hid (A,B)}(h:b=false->A)(k:b=true->B):EV (.lit (.bool (!b))) A B hh:=by
 cases b
 ·exact h rfl
 ·exact k rfl
theorem GNode.ext_iff'{a b:GNode}:a=b↔a.rev=b.rev/\a.parent=b.parent/\a.deleted=b.deleted/\a.has=b.has/\a.body=b.body:=by
 cases a;cases b;simp
def mV(l:List GNode):Prop:=l.length<=9223372036854775807/\∀n∈l,n.body.wf
theorem GTree.ext_iff'{a b:GTree}:a=b↔a.nodes=b.nodes:=by cases a;cases b;simp
theorem VM{α:Type}{p:α->Bool}{l:List α}{i:Nat}{x:α}(hx:l[i]?=some x)(h:(l.take i).all p=true)(hp:p x=true):(l.take (i+1)).all p=true:=by
 obtain⟨hi,rfl⟩:=rA.1 hx
 rw[List.take_add_one,List.all_append,h]
 simp[sA hi,hp]
theorem L7{α:Type}{p:α->Bool}{l:List α}{i:Nat}{x:α}(hx:l[i]?=some x)(hp:p x=false):l.all p=false:=by
 rw[List.all_eq_false]
 exact⟨x,IA hx,by simp[hp]⟩
theorem pN{α:Type}{p:α->Bool}{l:List α}{i:Nat}(hi:l.length<=i)(h:(l.take i).all p=true):l.all p=true:=by
 rwa [uA hi] at h
theorem Sj(s:ByteArray):s.data.toList.length=s.size:=rfl
theorem byte_at{s:ByteArray}{i:Nat}(h:i<s.size):∃b,s.data.toList[i]?=some b:=zu (by rw[Sj];exact h)
theorem zAb{ι:Type}{C:Ctx}{nt:Nat}{ro:Option Nat}{H0:Heap}{S:ι->List (Nat×V)}{Hs:ι->Heap}{ls:ι->Nat}{inv:ι->Prop}{m:ι->Nat}{i:ι}{T:Tr V}{H:Heap}{lo:Nat}{h:Hid (S,Hs,ls,inv,m,i)}(j:ι)(hj:inv j)(hm:m j<m i:=by(focus ((try dsimp only)<;>(try simp only[Heap.n_push,Heap.n_set])<;>omega)))(hT:∀p∈S j,PD T p.1=p.2:=by(focus (simp -dsimp only[go_sem,Nat.reduceLT,Nat.reduceLeDiff,Nat.reduceEqDiff,Nat.reduceAdd,Nat.reduceMul,Nat.reduceSub,reduceCtorEq,Fin.isValue,Nat.min_self,List.forall_mem_cons,List.not_mem_nil,false_implies,implies_true,forall_const]<;>(try simp (disch:=omega) only[zw,xJ,vK,AK])<;>(try simp)<;>(try omega))))(hok:(S j).all (fun p=>V.ok (Hs j).n p.2)=true:=by(focus (simp[Blk.ok,V.ok,nI,UU,zO TL,zO zz,zO zK,zO KO,zO (e:=zW) (fun _=>rfl),NR,MR,fX,eX,JO,gX,iX,lX,Heap.n_push,Heap.n_set]<;>(try omega))))(hg:Grn H0 (Hs j):=by(focus (repeat (first|exact Grn.refl|refine Grn.push ?_ (by(focus (simp[Blk.ok,V.ok,nI,UU,zO TL,zO zz,zO zK,zO KO,zO (e:=zW) (fun _=>rfl),NR,MR,fX,eX,JO,gX,iX,lX,Heap.n_push,Heap.n_set]<;>(try omega))))|refine Grn.set ?_ (by simp only[Heap.n_push,Heap.n_set];omega) (by(focus (simp[Blk.ok,V.ok,nI,UU,zO TL,zO zz,zO zK,zO KO,zO (e:=zW) (fun _=>rfl),NR,MR,fX,eX,JO,gX,iX,lX,Heap.n_push,Heap.n_set]<;>(try omega))))))))(hn:(Hs j).n<=H.n:=by(focus ((try dsimp only)<;>(try simp only[Heap.n_push,Heap.n_set])<;>omega)))(he:∀b,b<(Hs j).n->H.get b=(Hs j).get b:=by(focus ((try dsimp only)<;>(focus (intro b hb;(try simp only[Heap.get_push,Heap.get_set,Heap.n_push,Heap.n_set] at hb ⊢)<;>(try (repeat' split))<;>first|rfl|omega|(exfalso;omega))))))(hlo:H0.n<=lo:=by(focus ((try dsimp only)<;>(try simp only[Heap.n_push,Heap.n_set])<;>omega)))(hlo2:H0.n<=ls j:=by(focus ((try dsimp only)<;>(try simp only[Heap.n_push,Heap.n_set])<;>omega)))(hlo3:ls j<=lo:=by(focus ((try dsimp only)<;>(try simp only[Heap.n_push,Heap.n_set])<;>omega)))(hold:∀b,b<H0.n->(Hs j).get b=H0.get b:=by(focus ((try dsimp only)<;>(focus (intro b hb;(try simp only[Heap.get_push,Heap.get_set,Heap.n_push,Heap.n_set] at hb ⊢)<;>(try (repeat' split))<;>first|rfl|omega|(exfalso;omega))))))(hro:∀b,ro=some b->b<H0.n:=by(intro b e;cases e)):Again C nt ro H0 S Hs ls inv m i T H lo h:=Again.rest j hj hm hT hok hg hn he hlo hlo2 hlo3 hold hro
end
end Go.Tw
namespace Go.Proofs.YtookdinfaoelaaaGreatDoor
section
open Go Go.Tw
theorem UP(d:Nat)(a b:UInt8):UJ fA (d+1) 5 (PE a) (PE b)=some (decide (a=b)):=by
 rw[zqc pD]
 simp only[lA,decide_eq_decide]
 constructor
 ·intro h;exact UInt8.toNat_inj.1 (by exact_mod_cast h)
 ·rintro rfl;rfl
theorem znH(d:Nat)(l m:List UInt8):∀(k i:Nat),l.length=i+k->m.length=i+k->(∀j,j<i->l[j]?=m[j]?)->YU fA (UJ fA (d+1) 5) 5 1 (l.map PE) (m.map PE) k i=some (decide (l=m))
 | 0,i,h1,h2,h3=>by
  have:l=m:=by
   apply YE
   intro j
   rcases RA j i with h|h
   ·exact h3 j h
   ·rw[kE (by omega),kE (by omega)]
  simp[YU,this]
 | k+1,i,h1,h2,h3=>by
  have e1:l[i]?=some l[i]:=sA (by omega)
  have e2:m[i]?=some m[i]:=sA (by omega)
  simp only[YU,Nat.mul_one,WQ,List.getElem?_map,e1,e2,Option.map_some,pA,KA,UP]
  by_cases h:l[i]=m[i]
  ·simp only[h,decide_true,if_true]
   refine znH d l m k (i+1) (by omega) (by omega) fun j hj=>?_
   rcases RA j i with h'|h'
   ·exact h3 j h'
   ·have:j=i:=by omega
    subst this
    rw[e1,e2,h]
  ·simp only[h,decide_false,ZA,if_false,lA]
   have:l≠m:=by rintro rfl;exact h rfl
   simp[this]
theorem MT(d:Nat)(s t:gO):UJ fA (d+2) 30 (.agg (FH s)) (.agg (FH t))=some (decide (s=t)):=by
 rw[KT UF,iM,KA,zho,zho,znH d s.toList t.toList 16 0 (by simp) (by simp) (by simp)]
 simp only[lA,decide_eq_decide]
 exact⟨fun h=>Vector.toList_inj.1 h,fun h=>by rw[h]⟩
theorem zmx(d:Nat)(a b:GRev):UJ fA (d+3) 32 (.agg (ze a)) (.agg (ze b))=some (decide (a=b)):=by
 have hst:Tryz.prog.stoodInHeld 32=false:=by kernel_rfl
 rw[zoA Tryz.underlying32 hst]
 have e0:=zpw
 have e1:=zpv
 simp only[S1,zpz,e0,e1,zqc wE,MT,pA,KA]
 obtain⟨g,s⟩:=a
 obtain⟨g',s'⟩:=b
 by_cases h:g=g'<;>by_cases h2:s=s'<;>simp[h,h2]
theorem znz:Tryz.prog.eqGuardType Tryz.prog.depth 32=false:=by kernel_rfl
@[go_sem] theorem eq_rev(a b:GRev):jE fA .eql 32 (.agg (ze a)) (.agg (ze b))=some (.lit (.bool (decide (a=b)))):=by
 rw[zmL znz,zmx 6];rfl
@[go_sem] theorem ne_rev(a b:GRev):jE fA .neq 32 (.agg (ze a)) (.agg (ze b))=some (.lit (.bool (decide (a≠b)))):=by
 rw[zmK znz,zmx 6];simp
@[go_sem] theorem ld(n k:Nat):min n (n+k)=n:=by omega
attribute [go_sem] ne_eq not_false_eq_true not_true_eq_false Nat.add_lt_add_iff_left Nat.lt_add_right_iff_pos false_and and_false
attribute [go_sem] zF B7 zi UR zg VN zU zgM
@[go_sem] theorem KW(t:GTree):(zp t).all V.one=true:=rfl
@[go_sem] theorem spz_V(x:GV):zD zV 0 (zR x)=some (zR x):=DM _ _ (by rw[zF];rfl)
@[go_sem] theorem Zi(y x:GRev):zD (ze y) 0 (ze x)=some (ze x):=DM _ _ (by rw[zi,zi])
@[go_sem] theorem Je(x:GNode):zD zNode 0 (za x)=some (za x):=DM _ _ (by rw[zg];simp[zNode,zi,zV])
@[go_sem] theorem Ke(x:GTree):zD oJ 0 (zp x)=some (zp x):=DM _ _ (by rw[zU];rfl)
end
end Go.Proofs.YtookdinfaoelaaaGreatDoor
namespace Go.Tw
section
open Classical
theorem zo2{z:TypeId->Nat}{s:Nat->Option Nat}{d pr:Nat->Prop}{w:World}:∀{xs cs:List Value},VRs z s d pr w (xs.map .lit) cs->cs=xs
 | [],cs,h=>h
 | x::xs,cs,h=>by
  obtain⟨c,cs',rfl,h1,h2⟩:=h
  have h1:c=x:=h1
  rw[h1,zo2 h2]
theorem zjF(H:Heap)(n:Nat):∀xs:List Value,(xs.map V.lit).mapM (kM H (n+1))=some (xs.map V.lit)
 | []=>rfl
 | x::xs=>by
  have:=zjF H n xs
  simp only[List.map_cons,List.mapM_cons,this]
  rfl
theorem zmM{w w':World}(h:RowKit.Below w.heap.size w w'):∀g x,w.shape? g=some x->w'.shape? g=some x:=by
 intro g x hx
 have hg:g<w.heap.size:=by
  rcases RA g w.heap.size with h'|h'
  ·exact h'
  ·simp[World.shape?,Array.getElem?_eq_none h'] at hx
 simp only[World.shape?] at hx ⊢
 rw[h.block g hg]
 exact hx
theorem pf {C : Ctx} {g : FuncId} {fn : Func} {body : Code} (hf : C.P.funcs[g]? = some fn) (hb : fn.body = some body) (hn : fn.name ≠ "runtime.NumGoroutine") {xs : List Value} {v : Value} (h : ∀ w, Calls C.P g xs.toArray w fun e w' => e = .returned v ∧ RowKit.Below w.heap.size w w')
  {H:Heap} {Q:OR->Prop} (hQ:Q ⟨.lit v,H,H.n⟩):MCall C g (xs.map .lit) H Q:=by
 refine Contract.mcall (F:=fun vs=>if vs=xs.map .lit then some (.lit v) else none) (fun w vs cs v' hg hv hF=>?_) (zjF H 49 xs) (if_pos rfl) hQ
 simp only at hF
 split at hF
 ·rename_i e
  injection hF with hF
  subst hF e
  have e:=zo2 hv
  have e:cs=xs.toArray:=by apply Array.ext';simpa using e
  subst e
  have h0:(callFunc g xs.toArray).run C.P w=.ok (.enter g xs.toArray) w:=by simp[callFunc,hf,hn,hb]
  unfold CallF
  rw[h0]
  simp only
  exact Calls.mono (h w) fun e w' ⟨he,hw⟩=>⟨v,he,rfl,hw,zmM hw⟩
 ·cases hF
end
end Go.Tw
namespace Go.Proofs.YtookdinfaoelaaaGreatDoor
section
open Go Go.Tw
def BK(r:GRev):Bool:=decide (1<=r.gen)&&decide (r.gen<=4611686018427387903)
noncomputable def U8:List V->Heap->Option OR:=PL (fun p:GRev=>match p with|x=>[.agg (ze x)]) fun p=>match p with|x=>.lit (.bool (BK x))
theorem m_42(x:GRev)(H:Heap)(Q:OR->Prop)(hQ:Q ⟨.lit (.bool (BK x)),H,H.n⟩):MCall Cx 42 [.agg (ze x)] H Q:=by
 refine QA zm (fn:=Tryz.f42) Tryz.func42 rfl (by decide) (k:=11) rfl (rs:=[.tmp 2]) rfl ?_
 simp -dsimp only[go_sem,bA,aA,reduceCtorEq]
 refine AB (fun h=>?_) (fun h=>?_)<;>simp -dsimp only[go_sem,bA,aA,reduceCtorEq,gA,h]<;>refine AA (by omega) rfl ?_
 ·simpa[BK,h] using hQ
 ·simpa[BK,h] using hQ
theorem JQ:CI Cx 42 U8:=EM fun p H Q hQ=>match p,hQ with|x,hQ=>m_42 x H Q hQ
@[go_sem] theorem e_42(x:GRev)(H:Heap):U8 [.agg (ze x)] H=some ⟨.lit (.bool (BK x)),H,H.n⟩:=FM (by simp+contextual [zQ]) x H
def PK(a b:Int):Int:=if a<b then -1 else if b<a then 1 else 0
noncomputable def k9:List V->Heap->Option OR:=PL (fun p:Int=>match p with|x=>[TC x]) fun p=>match p with|x=>.lit (.bool false)
theorem m_85(x:Int)(H:Heap)(Q:OR->Prop)(hQ:Q ⟨.lit (.bool false),H,H.n⟩):MCall Cx 85 [TC x] H Q:=by
 refine QA zm (fn:=Tryz.f85) Tryz.func85 rfl (by decide) (k:=6) rfl (rs:=[.tmp 2]) rfl ?_
 simp -dsimp only[go_sem,bA,aA,reduceCtorEq,gA]
 refine AA (by omega) rfl ?_
 simpa using hQ
theorem IW:CI Cx 85 k9:=EM fun p H Q hQ=>match p,hQ with|x,hQ=>m_85 x H Q hQ
@[go_sem] theorem e_85(x:Int)(H:Heap):k9 [TC x] H=some ⟨.lit (.bool false),H,H.n⟩:=FM (by simp+contextual) x H
noncomputable def RV:List V->Heap->Option OR:=PL (fun p:Int=>match p with|x=>[vA x]) fun p=>match p with|x=>.lit (.bool false)
theorem oc(x:Int)(H:Heap)(Q:OR->Prop)(hQ:Q ⟨.lit (.bool false),H,H.n⟩):MCall Cx 124 [vA x] H Q:=by
 refine QA zm (fn:=Tryz.f124) Tryz.func124 rfl (by decide) (k:=6) rfl (rs:=[.tmp 2]) rfl ?_
 simp -dsimp only[go_sem,bA,aA,reduceCtorEq,gA]
 refine AA (by omega) rfl ?_
 simpa using hQ
theorem GQ:CI Cx 124 RV:=EM fun p H Q hQ=>match p,hQ with|x,hQ=>oc x H Q hQ
@[go_sem] theorem e_124(x:Int)(H:Heap):RV [vA x] H=some ⟨.lit (.bool false),H,H.n⟩:=FM (by simp+contextual) x H
noncomputable def b9:List V->Heap->Option OR:=PL (fun p:Int×Int=>match p with|(a,b)=>[TC a,TC b]) fun p=>match p with|(a,b)=>vA (PK a b)
theorem m_62(a:Int)(b:Int)(H:Heap)(Q:OR->Prop)(hQ:Q ⟨vA (PK a b),H,H.n⟩):MCall Cx 62 [TC a,TC b] H Q:=by
 refine QA zm (fn:=Tryz.f62) Tryz.func62 rfl (by decide) (k:=20) rfl (rs:=[.tmp 4]) rfl ?_
 simp -dsimp only[go_sem,bA,aA,cA,reduceCtorEq]
 refine aD _ ((CA (IW) xA)) ?_
 simp -dsimp only[go_sem,bA,aA,cA,reduceCtorEq]
 refine aD _ ((CA (IW) xA)) ?_
 simp -dsimp only[go_sem,bA,aA,cA,reduceCtorEq]
 unfold PK at hQ
 refine aB (fun h=>?_) (fun h=>?_)
 ·simp -dsimp only[go_sem,bA,aA,cA,reduceCtorEq,gA]
  refine AA (by omega) rfl ?_
  simpa[h] using hQ
 ·simp -dsimp only[go_sem,bA,aA,cA,reduceCtorEq]
  refine aB (fun h2=>?_) (fun h2=>?_)<;>simp -dsimp only[go_sem,bA,aA,cA,reduceCtorEq,gA]<;>refine AA (by omega) rfl ?_<;>simpa[h,h2] using hQ
theorem Ed:CI Cx 62 b9:=EM fun p H Q hQ=>match p,hQ with|(a,b),hQ=>m_62 a b H Q hQ
@[go_sem] theorem e_62(a:Int)(b:Int)(H:Heap):b9 [TC a,TC b] H=some ⟨vA (PK a b),H,H.n⟩:=FM (by simp+contextual) (a,b) H
noncomputable def JV:List V->Heap->Option OR:=PL (fun p:Int×Int=>match p with|(a,b)=>[vA a,vA b]) fun p=>match p with|(a,b)=>vA (PK a b)
theorem Pb(a:Int)(b:Int)(H:Heap)(Q:OR->Prop)(hQ:Q ⟨vA (PK a b),H,H.n⟩):MCall Cx 106 [vA a,vA b] H Q:=by
 refine QA zm (fn:=Tryz.f106) Tryz.func106 rfl (by decide) (k:=20) rfl (rs:=[.tmp 4]) rfl ?_
 simp -dsimp only[go_sem,bA,aA,cA,reduceCtorEq]
 refine aD _ ((CA (GQ) xA)) ?_
 simp -dsimp only[go_sem,bA,aA,cA,reduceCtorEq]
 refine aD _ ((CA (GQ) xA)) ?_
 simp -dsimp only[go_sem,bA,aA,cA,reduceCtorEq]
 unfold PK at hQ
 refine aB (fun h=>?_) (fun h=>?_)
 ·simp -dsimp only[go_sem,bA,aA,cA,reduceCtorEq,gA]
  refine AA (by omega) rfl ?_
  simpa[h] using hQ
 ·simp -dsimp only[go_sem,bA,aA,cA,reduceCtorEq]
  refine aB (fun h2=>?_) (fun h2=>?_)<;>simp -dsimp only[go_sem,bA,aA,cA,reduceCtorEq,gA]<;>refine AA (by omega) rfl ?_<;>simpa[h,h2] using hQ
theorem JZ:CI Cx 106 JV:=EM fun p H Q hQ=>match p,hQ with|(a,b),hQ=>Pb a b H Q hQ
@[go_sem] theorem e_106(a:Int)(b:Int)(H:Heap):JV [vA a,vA b] H=some ⟨vA (PK a b),H,H.n⟩:=FM (by simp+contextual) (a,b) H
noncomputable def m9:List V->Heap->Option OR:=PL (fun p:(List UInt8)×(List UInt8)=>match p with|(x,y)=>[sL x,sL y]) fun p=>match p with|(x,y)=>vA (fB x y)
theorem m_86(x:List UInt8)(y:List UInt8)(H:Heap)(Q:OR->Prop)(hQ:Q ⟨vA (fB x y),H,H.n⟩):MCall Cx 86 [sL x,sL y] H Q:=by
 exact ziX (C:=Cx) Tryz.func86 (by decide) rfl rfl rfl x y hQ
theorem Md:CI Cx 86 m9:=EM fun p H Q hQ=>match p,hQ with|(x,y),hQ=>m_86 x y H Q hQ
@[go_sem] theorem e_86(x:List UInt8)(y:List UInt8)(H:Heap):m9 [sL x,sL y] H=some ⟨vA (fB x y),H,H.n⟩:=FM (by simp+contextual [zZ]) (x,y) H
theorem m_63(x:List UInt8)(y:List UInt8)(H:Heap)(Q:OR->Prop)(hQ:Q ⟨vA (fB x y),H,H.n⟩):MCall Cx 63 [sL x,sL y] H Q:=by
 refine QA zm (fn:=Tryz.f63) Tryz.func63 rfl (by decide) (k:=8) rfl (rs:=[.tmp 4]) rfl ?_
 simp -dsimp only[go_sem,bA,aA,cA,reduceCtorEq]
 refine aD _ ((CA (Md) xA)) ?_
 simp -dsimp only[go_sem,bA,aA,cA,reduceCtorEq,gA]
 exact AA (by omega) rfl hQ
def fM:List Int->Int
 | []=>0
 | x::l=>if x=0 then fM l else x
theorem QQ{l:List Int}{i:Nat}(hi:l[i]?=some 0):fM (l.drop (i+1))=fM (l.drop i):=by
 obtain⟨h,e⟩:=rA.1 hi
 rw[DB h,e,fM,if_pos rfl]
theorem tU{l:List Int}{i:Nat}{x:Int}(hi:l[i]?=some x)(hx:x≠0):fM (l.drop i)=x:=by
 obtain⟨h,e⟩:=rA.1 hi
 rw[DB h,e,fM,if_neg hx]
theorem Uc(l:List Int)(hp:l.length<4611686018427387904)(H:Heap)(Q:OR->Prop)(hQ:Q ⟨vA (fM l),H,H.n⟩):MCall Cx 61 [NB zW l] H Q:=by
 refine QA zm (fn:=Tryz.f61) Tryz.func61 rfl (by decide) (k:=18) rfl (rs:=[.tmp 2]) rfl ?_
 simp -dsimp only[go_sem,bA,aA,reduceCtorEq,gA]
 refine WW.still zm (fun i:Nat=>[(6,NB zW l),(7,vA l.length),(8,vA i),(3,vA 0)]) (fun i=>i<=l.length/\fM (l.drop i)=fM l) (fun i=>l.length-i) 0 ⟨by omega,rfl⟩ zSl ?_
 rintro i ⟨hi,hz⟩
 simp -dsimp only[go_sem,bA,aA]
 refine aB (fun h=>?_) (fun h=>?_)<;>simp -dsimp only[go_sem,bA,aA,gA]
 ·obtain⟨x,hx⟩:∃x,l[i]?=some x:=⟨_,sA (by omega)⟩
  simp -dsimp only[go_sem,bA,aA,h,if_true,z7 zgW hx]
  refine aB (fun h2=>?_) (fun h2=>?_)<;>simp -dsimp only[go_sem,bA,aA,gA]
  ·exact AA (by omega) rfl (by rw[tU hx h2] at hz;rw[hz];exact hQ)
  ·refine zAg (i+1) ?_
   refine⟨by omega,?_⟩
   have:x=0:=by simpa using h2
   subst this
   rw[QQ hx,hz]
 ·refine AA (by omega) rfl ?_
  have:i=l.length:=by omega
  subst this
  rw[List.drop_length] at hz
  rw[show(0:Int)=fM l from hz]
  exact hQ
end
end Go.Proofs.YtookdinfaoelaaaGreatDoor
namespace Go.Tw
section
theorem oQ{P:Program}{t e:TypeId}{H:Heap}(h:P.underlying t=some (.slice e))(z n b:Nat):qH P H t (OM z n b)=some (.lit (.int .i64 n)):=by
 unfold OM
 by_cases e:n=0
 ·subst e;rw[if_pos rfl];exact C3 h 0 0
 ·rw[if_neg e];exact sV h b 0 n n (some z)
theorem oP(z b:Nat):OM z 0 b=.lit (.slice none 0 0):=rfl
theorem Fk{z n b:Nat}(h:0<n):OM z n b=.sl b 0 n n (some z):=if_neg (by omega)
theorem zmR{n:Nat}{cs:List V}{e:TypeId}(h:0<n):lO n cs e=.cells cs e:=if_neg (by omega)
theorem Sub.dead{C:Ctx}{nt:Nat}{ro:Option Nat}{H0:Heap}{T:Tr V}{H:Heap}{lo:Nat}(l:List (Nat×V))(hg:Grn H0 H)(hlo:H0.n<=lo)(hold:∀b,b<H0.n->H.get b=H0.get b)(hro:∀b,ro=some b->b<H0.n)
  (hT:∀p∈l,PD T p.1=p.2) (hok:l.all (fun p=>V.ok H.n p.2)=true):Sub C nt ro H0 ⟨T,H,lo⟩ ⟨jH l,H.push .dead,lo⟩:=by
 have hf:∀b j,pI H.n b=some j↔b<H.n/\j=b:=by
  intro b j
  unfold pI
  by_cases e:b<H.n
  ·rw[if_pos e];simp[e,eq_comm]
  ·rw[if_neg e];simp[e]
 have hn0:=hg.n
 refine Sub.ren (pI H.n) (pI H.n) (fun b=>False) ?_ ?_ ?_ ?_ ?_ ?_ (by simp only[iA];omega) hro (Dg l fun p hp=>RN.same (hT p hp) (gB.1 hok p hp)) (jA _) fun b _ h=>?_
 ·intro b j
  rw[hf,hf]
  constructor
  ·rintro⟨h,rfl⟩;exact⟨h,rfl⟩
  ·rintro⟨h,rfl⟩;exact⟨h,rfl⟩
 ·intro b h;exact(hf b b).2 ⟨by omega,rfl⟩
 ·intro b j h hb;have:=((hf b j).1 h).2;omega
 ·intro j h1 h2
  simp only[iA] at h2
  by_cases e:j=H.n
  ·left;rw[RC];simp only;rw[yA,if_pos e]
  ·exact .inr ⟨j,(hf j j).2 ⟨by omega,rfl⟩,by simp only;omega⟩
 ·intro b j B h hB
  obtain⟨h1,rfl⟩:=(hf b j).1 h
  simp only at hB ⊢
  rw[yA,if_neg (by omega)]
  rcases hg.blk j h1 with⟨h2,h3⟩|⟨B',h2,h3⟩
  ·exact .inl ⟨h2,.inl h3,h3⟩
  ·rw[h2] at hB
   injection hB with hB
   subst hB
   exact .inr ⟨B',h2,xj h3⟩
 ·intro b h;exact h.elim
 ·simp only
  rw[yA,if_neg (by omega)]
  exact hold b h
section
variable {ι:Type} {C:Ctx} {nt:Nat} {ro:Option Nat} {H0:Heap} {S:ι->List (Nat×V)} {Hs:ι->Heap} {ls:ι->Nat} {inv:ι->Prop} {m:ι->Nat} {i:ι} {T:Tr V} {H:Heap} {lo:Nat}
theorem Again.grow{h:Hid (S,Hs,ls,inv,m,i)}(j:ι)(B:Heap)(k:Nat)(n:Nat)(cs:List V)(e:TypeId)(hj:inv j)(hm:m j<m i)(eH:Hs j=B.push (lO n cs e))(h0:0<n)(hk:H.get k=some (.cells cs e))(hkn:B.n<=k/\k<H.n)(hcs:QF cs=true)
  (hT:∀p∈S j,RN (RK B.n [k]) (fun b=>B.n<=b/\b ∉ [k]) H (PD T p.1) p.2) (hg:Grn H0 B) (hn:B.n<=H.n) (he:∀b,b<B.n->H.get b=B.get b) (hlo:H0.n<=lo) (hlo2:H0.n<=ls j) (hlo3:ls j<=lo) (hold:∀b,b<H0.n->B.get b=H0.get b)
  (hro:∀b,ro=some b->b<H0.n):Again C nt ro H0 S Hs ls inv m i T H lo h:=by
 refine⟨j,hj,hm,?_⟩
 rw[eH]
 have:=Sub.moves (C:=C) (nt:=nt) (ro:=ro) (T:=T) B [k] [lO n cs e] (ls j) (S j) hg (by simp) (by simpa using hkn) rfl hn he (fun i k' B' h1 h2=>?_) hlo hlo2 hlo3 hold hro hT
 ·exact this
 ·cases i with
  | zero=>
   simp only[YA,lA] at h1 h2
   subst h1 h2
   rw[zmR h0]
   exact⟨_,hk,cs,rfl,CX cs hcs⟩
  | succ i=>simp at h1
end
theorem RN.moved{n k off len cap:Nat}{opn:Option Nat}{Z:Nat->Prop}{H:Heap}(h:n<=k):RN (RK n [k]) Z H (.sl k off len cap opn) (.sl n off len cap opn):=by
 refine .of (.inr (.inl ⟨n,?_,rfl⟩))
 unfold RK
 rw[if_neg (by omega)]
 simp[List.idxOf?]
theorem RN.stays{n:Nat}{ks:List Nat}{Z:Nat->Prop}{H:Heap}{v u:V}(h:v=u)(hk:V.ok n u=true):RN (RK n ks) Z H v u:=by
 subst h
 refine .of ?_
 have:rn (pI n) Z H v v:=y7 v hk
 exact tg (fun b j hb=>by
  unfold pI at hb
  split at hb
  ·injection hb with hb;subst hb;unfold RK;rw[if_pos ‹_›]
  ·cases hb) v v this
end
end Go.Tw
namespace Go.Proofs.YtookdinfaoelaaaGreatDoor
section
open Go Go.Tw
theorem zmV(a:GRev):((ze a).drop 1).take 16=a.sum.toList.map PE:=by
 show(FH a.sum).take 16=_
 rw[uA (by simp[zX])]
 rfl
def RI(a b:GRev):Int:=fM [PK a.gen b.gen,fB a.sum.toList b.sum.toList]
noncomputable def J8:List V->Heap->Option OR:=PL (fun p:GRev×GRev=>match p with|(a,b)=>[.agg (ze a),.agg (ze b)]) fun p=>match p with|(a,b)=>vA (RI a b)
theorem m_20(a:GRev)(b:GRev)(H:Heap)(Q:OR->Prop)(hQ:Q ⟨vA (RI a b),H,H.n⟩):MCall Cx 20 [.agg (ze a),.agg (ze b)] H Q:=by
 refine QA zm (fn:=Tryz.f20) Tryz.func20 rfl (by decide) (k:=17) rfl (rs:=[.tmp 4]) rfl ?_
 simp -dsimp only[go_sem,bA,aA,cA,reduceCtorEq,gA]
 refine DR.of _ ((CA (Ed) (CA (Z7 (g:=63) (xs:=[.sl H.n 1 16 16 none,.sl (H.n+1) 1 16 16 none]) (H:=(H.push (.cells (ze a) 32)).push (.cells (ze b) 32)) [sL a.sum.toList,sL b.sum.toList] (Fzs.two ?_ ?_) rfl (m_63 a.sum.toList b.sum.toList _ _ rfl)) (CA (Z7 (g:=61) (xs:=[.sl (H.n+2) 0 2 2 none]) (H:=((H.push (.cells (ze a) 32)).push (.cells (ze b) 32)).push (.cells (zW (PK a.gen b.gen)++zW (fB a.sum.toList b.sum.toList)) 3)) [NB zW [PK a.gen b.gen,fB a.sum.toList b.sum.toList]] (.one ?_) rfl (Uc _ (by simp) _ _ rfl)) xA)))) (by kernel_rfl) ?_
 ·have:=Fz.slice (Z:=fun _=>True) (H:=(H.push (.cells (ze a) 32)).push (.cells (ze b) 32)) (b:=H.n) (off:=1) (len:=16) (cap:=16) (opn:=none) (cs:=ze a) (e:=32) 16 trivial (by simp -dsimp only[go_sem,reduceCtorEq]) (by decide) (zmV a) (Tj _)
  rw[sL,show a.sum.toList.length=16 by simp];exact this
 ·have:=Fz.slice (Z:=fun _=>True) (H:=(H.push (.cells (ze a) 32)).push (.cells (ze b) 32)) (b:=H.n+1) (off:=1) (len:=16) (cap:=16) (opn:=none) (cs:=ze b) (e:=32) 16 trivial (by simp -dsimp only[go_sem,reduceCtorEq]) (by decide) (zmV b) (Tj _)
  rw[sL,show b.sum.toList.length=16 by simp];exact this
 ·exact Fz.slice 2 trivial (by simp -dsimp only[go_sem,aA,cA,reduceCtorEq];rfl) (by decide) rfl rfl
 ·simp -dsimp only[go_sem,bA,aA,cA,reduceCtorEq]
  refine CQ.intro (zqp _ _ _ _ _ rfl rfl rfl rfl) ?_
  simp -dsimp only[go_sem,bA,aA,cA,reduceCtorEq]
  refine CQ.intro (rP _ _ _) ?_
  simp -dsimp only[go_sem,bA,aA,cA,reduceCtorEq]
  exact AA (by omega) rfl hQ
theorem IQ:CI Cx 20 J8:=EM fun p H Q hQ=>match p,hQ with|(a,b),hQ=>m_20 a b H Q hQ
@[go_sem] theorem e_20(a:GRev)(b:GRev)(H:Heap):J8 [.agg (ze a),.agg (ze b)] H=some ⟨vA (RI a b),H,H.n⟩:=FM (by simp+contextual [zQ]) (a,b) H
noncomputable def i9:List V->Heap->Option OR:=PL (fun p:GNode×GRev=>match p with|(n,r)=>[.agg (za n),.agg (ze r)]) fun p=>match p with|(n,r)=>vA (RI n.rev r)
theorem m_77(n:GNode)(r:GRev)(H:Heap)(Q:OR->Prop)(hQ:Q ⟨vA (RI n.rev r),H,H.n⟩):MCall Cx 77 [.agg (za n),.agg (ze r)] H Q:=by
 refine QA zm (fn:=Tryz.f77) Tryz.func77 rfl (by decide) (k:=9) rfl (rs:=[.tmp 4]) rfl ?_
 simp -dsimp only[go_sem,bA,aA,cA,reduceCtorEq]
 refine aD _ ((CA (IQ) xA)) ?_
 simp -dsimp only[go_sem,bA,aA,cA,reduceCtorEq,gA]
 exact AA (by omega) rfl hQ
theorem HW:CI Cx 77 i9:=EM fun p H Q hQ=>match p,hQ with|(n,r),hQ=>m_77 n r H Q hQ
@[go_sem] theorem e_77(n:GNode)(r:GRev)(H:Heap):i9 [.agg (za n),.agg (ze r)] H=some ⟨vA (RI n.rev r),H,H.n⟩:=FM (by simp+contextual [zQ,zJ]) (n,r) H
def rL(f:Nat->Bool)(i j:Nat):Nat:=
 if h:i<j then(if f ((i+j) / 2) then rL f ((i+j) / 2+1) j else rL f i ((i+j) / 2)) else i
termination_by j-i
decreasing_by all_goals omega
def SI(l:List GNode)(i:Nat):GNode:=l.getD i .zero
def CH(l:List GNode)(r:GRev):Nat:=rL (fun i=>decide (RI (SI l i).rev r<0)) 0 l.length
def aH(l:List GNode)(r:GRev):Bool:=decide (CH l r<l.length)&&decide (RI (SI l (CH l r)).rev r=0)
noncomputable def g9:List V->Heap->Option OR:=by
 classical
 exact GK (fun p:(List GNode)×GRev=>match p with|(l,r)=>[NB za l,.agg (ze r),.fn (.func 77) [] []]) fun p H=>match p with|(l,r)=>if l.length<4611686018427387904 then some ⟨.tup [vA (CH l r),.lit (.bool (aH l r))],H,H.n⟩ else none
theorem m_76(l:List GNode)(r:GRev)(hp:l.length<4611686018427387904)(H:Heap)(Q:OR->Prop)(hQ:Q ⟨.tup [vA (CH l r),.lit (.bool (aH l r))],H,H.n⟩):MCall Cx 76 [NB za l,.agg (ze r),.fn (.func 77) [] []] H Q:=by
 refine QA zm (fn:=Tryz.f76) Tryz.func76 rfl (by decide) (k:=49) rfl (rs:=[.tmp 6,.tmp 7]) rfl ?_
 simp -dsimp only[go_sem,bA,aA,cA,reduceCtorEq,gA]
 refine WW.still zm (fun p:Nat×Nat=>[(0,NB za l),(2,.fn (.func 77) [] []),(4,.ptr H.n 0),(8,vA l.length),(9,vA p.1),(10,vA p.2)]) (fun p=>p.1<=p.2/\p.2<=l.length/\rL (fun i=>decide (RI (SI l i).rev r<0)) p.1 p.2=CH l r) (fun p=>p.2-p.1) (0,l.length) ⟨by simp,by simp,rfl⟩ zSl ?_
 rintro⟨i,j⟩ ⟨h1,h2,h3⟩
 simp only at h1 h2 h3
 simp -dsimp only[go_sem,bA,aA,reduceCtorEq,zf,zh]
 refine aB (fun h=>?_) (fun h=>?_)
 ·simp -dsimp only[go_sem,bA,aA,reduceCtorEq]
  have e:tC .i64 ((tC .u64 (tC .i64 ((i:Int)+(j:Int)))).fdiv (2 ^ min (Int.toNat 1) 64))=(((i+j) / 2:Nat):Int):=by
   rw[zw (n:=(i:Int)+j) (by omega) (by omega),xJ (by omega) (by omega)]
   rw[show((i:Int)+(j:Int))=((i+j:Nat):Int) by simp]
   rw[iQ,zw (by omega) (by omega)]
  simp only[e]
  have hlt:(i+j) / 2<l.length:=by omega
  have hx:l[(i+j) / 2]?=some (SI l ((i+j) / 2)):=by simp[SI,sA hlt]
  refine DR.of _ ((CA (HW) xA)) (by kernel_rfl) ?_
  simp -dsimp only[go_sem,bA,aA,reduceCtorEq,hlt,z7 zg hx]
  rw[rL,dif_pos (by omega)] at h3
  refine aB (fun h4=>?_) (fun h4=>?_)
  ·simp -dsimp only[go_sem,bA,aA,reduceCtorEq]
   refine zAg ((i+j) / 2+1,j) ?_
   rw[if_pos (by simpa using h4)] at h3
   exact⟨by simp only;omega,h2,h3⟩
  ·simp -dsimp only[go_sem,bA,aA,reduceCtorEq]
   refine zAg (i,(i+j) / 2) ?_
   rw[if_neg (by simpa using h4)] at h3
   exact⟨by simp only;omega,by simp only;omega,h3⟩
 ·have:i=j:=by omega
  subst this
  rw[rL,dif_neg (by omega)] at h3
  subst h3
  simp -dsimp only[go_sem,aA,reduceCtorEq]
  refine DR.of _ ((CA (HW) xA)) (by kernel_rfl) ?_
  simp -dsimp only[go_sem,bA,aA,reduceCtorEq]
  refine AB (fun h4=>?_) (fun h4=>?_)
  ·have hx:l[CH l r]?=some (SI l (CH l r)):=by simp[SI,sA h4]
   simp -dsimp only[go_sem,bA,aA,reduceCtorEq,h4,z7 zg hx]
   refine AA (by omega) rfl ?_
   simpa[aH,h4] using hQ
  ·simp -dsimp only[go_sem,bA,aA,reduceCtorEq,gA,h4]
   refine AA (by omega) rfl ?_
   simpa[aH,h4] using hQ
theorem Ld:CI Cx 76 g9:=kL fun p H r hr=>by
 obtain⟨l,r⟩:=p
 simp only at hr
 split at hr
 ·rename_i hp
  injection hr with hr
  subst hr
  exact m_76 l r hp H _ rfl
 ·cases hr
theorem e_76(l:List GNode)(r:GRev)(hp:l.length<4611686018427387904)(H:Heap):g9 [NB za l,.agg (ze r),.fn (.func 77) [] []] H=some ⟨.tup [vA (CH l r),.lit (.bool (aH l r))],H,H.n⟩:=by
 refine(lL (by simp+contextual [zQ,zH]) (l,r) H).trans ?_
 exact if_pos hp
abbrev AH(l:List GNode):V:=.pp [NB za l]
noncomputable def Z8:List V->Heap->Option OR:=by
 classical
 exact GK (fun p:(List GNode)×GRev=>match p with|(l,r)=>[AH l,.agg (ze r)]) fun p H=>match p with|(l,r)=>if l.length<4611686018427387904 then some ⟨.tup [vA (CH l r),.lit (.bool (aH l r))],H,H.n⟩ else none
theorem Sc(l:List GNode)(r:GRev)(hp:l.length<4611686018427387904)(H:Heap)(Q:OR->Prop)(hQ:Q ⟨.tup [vA (CH l r),.lit (.bool (aH l r))],H,H.n⟩):MCall Cx 51 [AH l,.agg (ze r)] H Q:=by
 refine QA zm (fn:=Tryz.f51) Tryz.func51 rfl (by decide) (k:=15) rfl (rs:=[.tmp 4,.tmp 5]) rfl ?_
 simp -dsimp only[go_sem,bA,cA,reduceCtorEq,gA]
 refine DR.of _ ((CA (Ld) xA)) (by kernel_rfl) ?_
 simp -dsimp only[go_sem,bA,aA,reduceCtorEq,e_76,hp]
 exact AA (by omega) rfl hQ
theorem FW:CI Cx 51 Z8:=kL fun p H r hr=>by
 obtain⟨l,r⟩:=p
 simp only at hr
 split at hr
 ·rename_i hp
  injection hr with hr
  subst hr
  exact Sc l r hp H _ rfl
 ·cases hr
theorem Sa(l:List GNode)(r:GRev)(hp:l.length<4611686018427387904)(H:Heap):Z8 [AH l,.agg (ze r)] H=some ⟨.tup [vA (CH l r),.lit (.bool (aH l r))],H,H.n⟩:=by
 refine(lL (by simp+contextual [zQ,zH]) (l,r) H).trans ?_
 exact if_pos hp
noncomputable def W8:List V->Heap->Option OR:=by
 classical
 exact GK (fun p:(List GNode)×GRev=>match p with|(l,r)=>[AH l,.agg (ze r)]) fun p H=>match p with|(l,r)=>if l.length<4611686018427387904 then some ⟨.lit (.bool (aH l r)),H,H.n⟩ else none
theorem yZ(l:List GNode)(r:GRev)(hp:l.length<4611686018427387904)(H:Heap)(Q:OR->Prop)(hQ:Q ⟨.lit (.bool (aH l r)),H,H.n⟩):MCall Cx 48 [AH l,.agg (ze r)] H Q:=by
 refine QA zm (fn:=Tryz.f48) Tryz.func48 rfl (by decide) (k:=14) rfl (rs:=[.tmp 4]) rfl ?_
 simp -dsimp only[go_sem,bA,aA,cA,reduceCtorEq]
 refine aD _ ((CA (FW) xA)) ?_
 simp -dsimp only[go_sem,bA,aA,cA,reduceCtorEq,gA,Sa,hp]
 exact AA (by omega) rfl hQ
theorem KQ:CI Cx 48 W8:=kL fun p H r hr=>by
 obtain⟨l,r⟩:=p
 simp only at hr
 split at hr
 ·rename_i hp
  injection hr with hr
  subst hr
  exact yZ l r hp H _ rfl
 ·cases hr
theorem il(l:List GNode)(r:GRev)(hp:l.length<4611686018427387904)(H:Heap):W8 [AH l,.agg (ze r)] H=some ⟨.lit (.bool (aH l r)),H,H.n⟩:=by
 refine(lL (by simp+contextual [zQ,zH]) (l,r) H).trans ?_
 exact if_pos hp
end
end Go.Proofs.YtookdinfaoelaaaGreatDoor
namespace Go.Tw
section
theorem zq{H:Heap}{b:Nat}{B:Blk}(h:H.get b=some B):b<H.n:=Heap.get_lt h
def lob{α:Type}(H:Heap)(b:Nat)(s:List α):Nat:=if s=[] then H.n else min b H.n
theorem t8{α:Type}(H:Heap)(b:Nat)(s:List α):lob H b s<=H.n:=by unfold lob;split<;>omega
def pG{α:Type}(z:Nat)(s:List α)(b:Nat):V:=OM z s.length b
structure Bf{α:Type}(c:α->List V)(e:TypeId)(H:Heap)(b:Nat)(s:List α)(X:Heap)(k:Nat)(t:List α):Prop where
 n:H.n<=X.n
 old:∀j,j<H.n->(j≠b\/s=[])->X.get j=H.get j
 cell:t≠[]->X.get k=some (.cells (row c t) e)
 new:(k=b/\t=s)\/H.n<=k
section
variable {α:Type} {c:α->List V} {e:TypeId} {H X Y:Heap} {b k l:Nat} {s t u:List α}
theorem Bf.refl(hb:s≠[]->H.get b=some (.cells (row c s) e)):Bf c e H b s H b s:=⟨jA _,fun _ _ _=>rfl,hb,.inl ⟨rfl,rfl⟩⟩
theorem Bf.trans(h:Bf c e H b s X k t)(g:Bf c e X k t Y l u):Bf c e H b s Y l u:=by
 refine⟨cB h.n g.n,fun j hj hb=>?_,g.cell,?_⟩
 ·rw[g.old j (vB hj h.n) ?_,h.old j hj hb]
  rcases h.new with⟨rfl,rfl⟩|h1
  ·exact hb
  ·left;omega
 ·rcases g.new with⟨rfl,rfl⟩|h1
  ·exact h.new
  ·right;exact cB h.n h1
theorem Bf.skip(h:Bf c e H b s X k t)(hn:X.n<=Y.n)(ho:∀j,j<X.n->Y.get j=X.get j):Bf c e H b s Y k t:=by
 refine⟨cB h.n hn,fun j hj hb=>?_,fun ht=>?_,h.new⟩
 ·rw[ho j (vB hj h.n),h.old j hj hb]
 ·have:=h.cell ht
  rw[ho k (zq this),this]
theorem Bf.pre{H':Heap}(hn:H'.n<=H.n)(ho:∀j,j<H'.n->H.get j=H'.get j)(hbn:s=[]\/b<H'.n)(h:Bf c e H b s X k t):Bf c e H' b s X k t:=by
 refine⟨cB hn h.n,fun j hj hb=>?_,h.cell,?_⟩
 ·rw[h.old j (vB hj hn) hb,ho j hj]
 ·rcases h.new with h1|h1
  ·exact .inl h1
  ·right;omega
theorem Bf.lob(h:Bf c e H b s X k t):lob H b s<=lob X k t:=by
 have hn:=h.n
 have h1:(k=b/\(t=[]↔s=[]))\/H.n<=k:=h.new.imp (fun⟨h1,h2⟩=>⟨h1,by rw[h2]⟩) id
 unfold Tw.lob
 by_cases e1:s=[]<;>by_cases e2:t=[]<;>simp only[e1,e2,if_true,if_false,iff_true,iff_false,not_true_eq_false,and_false,and_true,false_or] at h1 ⊢<;>omega
theorem znm{B:Blk}:lob H b s<=lob (H.push B) b s:=by
 unfold Tw.lob
 rw[iA]
 split<;>omega
theorem zj{B:Blk}:∀j,j<H.n->(H.push B).get j=H.get j:=fun j hj=>by rw[yA,if_neg (by omega)]
end
theorem Tf{α:Type}{c:α->List V}{z:Nat}{P:Program}{t t1 e:TypeId}{d:TypeDesc}{H:Heap}{s new:List α}{x:V}{b:Nat}{K:OR->Prop}{h:Hid K}(hz0:∀x,(c x).length=z)(h0:P.underlying t=some (.slice e))(h1:P.underlying t1=some d)(hd:∀q,d≠.int q)(hz:(P.info? e).map (·.size)=some z)(hzl:(zE P e).map PB=some z)(hby:(mD 0 (bytesOf P e)&&DF (bytesOf P e) 1048576)=true)
  (hb:s≠[]->H.get b=some (.cells (row c s) e)) (hx:mJ x=some new.length) (hk:0<new.length) (hc:cellsOf H z new.length x=some (row c new)) (hone:(row c new).all V.one=true) (hsm:s.length+new.length<=1048576)
  (k:∀X k,Bf c e H b s X k (s++new)->K ⟨pG z (s++new) k,X,lob H b s⟩):OO (DH P H t t1 (pG z s b) x) K h:=by
 have hs:s.length≠0↔s≠[]:=by rw[Ne,WA]
 refine OO.intro (zha h0 h1 hd hz hzl hby hx hk hc hone (zr hz0 new) (fun hn=>hb (hs.1 hn)) (zr hz0 s) hsm) ?_
 have hne:s++new≠[]:=by
  intro e
  rw[List.append_eq_nil_iff] at e
  rw[e.2] at hk
  simp at hk
 have:=k (HN H b s.length (row c s++row c new) e) H.n ⟨by rw[aW];omega,fun j hj hjb=>?_,fun _=>?_,.inr (jA _)⟩
 ·have e1:pG z (s++new) H.n=.sl H.n 0 (s.length+new.length) (s.length+new.length) (some z):=by
   rw[pG,Fk (by rw[qA];omega),qA]
  rw[e1] at this
  have e2:lob H b s=if s.length=0 then H.n else min b H.n:=by
   unfold lob
   by_cases e:s=[]
   ·rw[if_pos e,if_pos (by rw[e];rfl)]
   ·rw[if_neg e,if_neg (by simpa using e)]
  rw[e2] at this
  exact this
 ·rcases hjb with hjb|rfl
  ·exact zqC H b _ _ e hjb hj
  ·simp only[List.length_nil,HN,if_true]
   rw[yA,if_neg (by omega)]
 ·rw[TR]
  unfold HN
  by_cases e0:s.length=0
  ·rw[if_pos e0,yA,if_pos rfl]
  ·rw[if_neg e0]
   have:=zq (hb (hs.1 e0))
   rw[dA,if_neg (by rintro⟨h,_⟩;omega),yA,if_pos rfl]
@[go_sem] theorem nh{α:Type}(z b:Nat):pG z ([]:List α) b=.lit (.slice none 0 0):=rfl
theorem ZR{α:Type}{z b:Nat}{s:List α}(h:s≠[]):pG z s b=.sl b 0 s.length s.length (some z):=by
 rw[pG,Fk]
 exact List.length_pos_iff.2 h
theorem zmp{α:Type}{P:Program}{t e:TypeId}{H:Heap}(h:P.underlying t=some (.slice e))(z:Nat)(s:List α)(b:Nat):qH P H t (pG z s b)=some (.lit (.int .i64 s.length)):=oQ h z s.length b
def zT(b:UInt8):List V:=[PE b]
theorem SL:∀l:List UInt8,row zT l=l.map PE
 | []=>rfl
 | x::l=>by rw[iJ,SL l];rfl
theorem wK(b:UInt8):(zT b).length=1:=rfl
theorem UM(b:UInt8):QF (zT b)=true:=rfl
theorem aV(b:UInt8):(zT b).all V.one=true:=rfl
abbrev sB(s:ByteArray):List UInt8:=s.data.toList
theorem Bg(s:ByteArray):(sB s).length=s.size:=rfl
theorem zqh(H:Heap)(z:Nat)(s:ByteArray):cellsOf H z (sB s).length (gE s)=some (row zT (sB s)):=by
 have:(sB s).length<=s.size:=jA _
 show(if _ then _ else _)=_
 rw[if_pos this,SL,uA (jA _)]
theorem Fz.buf{α:Type}{c:α->List V}{z:Nat}{e:TypeId}{Z:Nat->Prop}{H:Heap}{b:Nat}{s:List α}(hz0:∀x,(c x).length=z)(hbf:∀x,QF (c x)=true)(hZ:s≠[]->Z b)(hg:s≠[]->H.get b=some (.cells (row c s) e)):Fz Z H (pG z s b) (NB c s):=by
 by_cases h:s=[]
 ·subst h;exact .nil
 ·rw[ZR h]
  exact Fz.slice (s.length*z) (hZ h) (hg h) (jA _) (by rw[UA,qO hz0,FB]) (UH hbf _)
end
end Go.Tw
namespace Go.Proofs.YtookdinfaoelaaaGreatDoor
section
open Go Go.Tw
open Classical
noncomputable def n9:List V->Heap->Option OR:=by
 classical
 exact GK (fun p:(List ByteArray)×(List ByteArray)=>match p with|(l,m)=>[NB RH l,NB RH m]) fun p H=>match p with|(l,m)=>if l.length<=9223372036854775807 then some ⟨.lit (.bool (decide (l=m))),H,H.n⟩ else none
theorem m_87(l:List ByteArray)(m:List ByteArray)(hp:l.length<=9223372036854775807)(H:Heap)(Q:OR->Prop)(hQ:Q ⟨.lit (.bool (decide (l=m))),H,H.n⟩):MCall Cx 87 [NB RH l,NB RH m] H Q:=by
 refine QA zm (fn:=Tryz.f87) Tryz.func87 rfl (by decide) (k:=26) rfl (rs:=[.tmp 4]) rfl ?_
 simp -dsimp only[go_sem,bA,aA,cA,reduceCtorEq]
 refine aB (fun h=>?_) (fun h=>?_)
 ·simp -dsimp only[go_sem,bA,aA,cA,reduceCtorEq,gA]
  refine AA (by omega) rfl ?_
  have:l≠m:=by rintro rfl;exact h rfl
  simpa[this] using hQ
 ·have hlm:l.length=m.length:=by simp at h;omega
  simp -dsimp only[go_sem,bA,aA,cA,reduceCtorEq,gA]
  refine WW.still zm (fun i:Nat=>[(0,NB RH l),(1,NB RH m),(12,vA l.length),(13,vA i)]) (fun i=>i<=l.length/\∀j,j<i->l[j]?=m[j]?) (fun i=>l.length-i) 0 ⟨by omega,fun j hj=>by omega⟩ zSl ?_
  rintro i ⟨hi,hj⟩
  simp -dsimp only[go_sem,bA,aA,reduceCtorEq,zf,zh]
  refine aB (fun h2=>?_) (fun h2=>?_)
  ·obtain⟨x,hx⟩:=zu h2
   obtain⟨y,hy⟩:=zu (l:=m) (i:=i) (by omega)
   simp -dsimp only[go_sem,bA,aA,reduceCtorEq,gA]
   refine DR.of _ xA (by kernel_rfl) ?_
   simp -dsimp only[go_sem,bA,aA,reduceCtorEq,h2,hlm▸h2,z7 zC hx,z7 zC hy]
   refine aB (fun h3=>?_) (fun h3=>?_)
   ·simp -dsimp only[go_sem,bA,aA,reduceCtorEq,gA]
    refine AA (by omega) rfl ?_
    have:l≠m:=by
     rintro rfl
     rw[hx] at hy
     injection hy with hy
     exact h3 hy
    simpa[this] using hQ
   ·simp -dsimp only[go_sem,bA,aA,reduceCtorEq,gA]
    refine zAg (i+1) ?_
    refine⟨by omega,fun j hj'=>?_⟩
    rcases RA j i with h'|h'
    ·exact hj j h'
    ·have:j=i:=by omega
     subst this
     rw[hx,hy]
     simpa using h3
  ·simp -dsimp only[go_sem,bA,aA,reduceCtorEq,gA]
   refine AA (by omega) rfl ?_
   have:l=m:=i8 hlm fun j hj'=>hj j (by omega)
   simpa[this] using hQ
theorem Nd:CI Cx 87 n9:=kL fun p H r hr=>by
 obtain⟨l,m⟩:=p
 simp only at hr
 split at hr
 ·rename_i hp
  injection hr with hr
  subst hr
  exact m_87 l m hp H _ rfl
 ·cases hr
theorem e_87(l:List ByteArray)(m:List ByteArray)(hp:l.length<=9223372036854775807)(H:Heap):n9 [NB RH l,NB RH m] H=some ⟨.lit (.bool (decide (l=m))),H,H.n⟩:=by
 refine(lL (by simp+contextual [zL]) (l,m) H).trans ?_
 exact if_pos hp
theorem Mc(l m:List GV)(hl:l.length<=9223372036854775807)(hf:∀x∈l,∀(y:GV) (H:Heap) (Q:OR->Prop),Q ⟨.lit (.bool (decide (x=y))),H,H.n⟩->MCall Cx 65 [.agg (zR x),.agg (zR y)] H Q)(H:Heap)(Q:OR->Prop)(hQ:Q ⟨.lit (.bool (decide (l=m))),H,H.n⟩):
  MCall Cx 88 [NB zR l,NB zR m,.fn (.func 65) [] []] H Q:=by
 refine QA zm (fn:=Tryz.f88) Tryz.func88 rfl (by decide) (k:=32) rfl (rs:=[.tmp 6]) rfl ?_
 simp -dsimp only[go_sem,bA,aA,cA,reduceCtorEq]
 refine aB (fun h=>?_) (fun h=>?_)
 ·simp -dsimp only[go_sem,bA,aA,cA,reduceCtorEq,gA]
  refine AA (by omega) rfl ?_
  have:l≠m:=by rintro rfl;exact h rfl
  simpa[this] using hQ
 ·have hlm:l.length=m.length:=by simp at h;omega
  simp -dsimp only[go_sem,bA,aA,cA,reduceCtorEq,gA]
  refine WW.still zm (fun i:Nat=>[(0,NB zR l),(1,NB zR m),(2,.fn (.func 65) [] []),(15,NB zR l),(16,vA l.length),(17,vA i)]) (fun i=>i<=l.length/\∀j,j<i->l[j]?=m[j]?) (fun i=>l.length-i) 0 ⟨by omega,fun j hj=>by omega⟩ zSl ?_
  rintro i ⟨hi,hj⟩
  simp -dsimp only[go_sem,bA,aA,reduceCtorEq,zf,zh]
  refine aB (fun h2=>?_) (fun h2=>?_)
  ·obtain⟨x,hx⟩:=zu h2
   obtain⟨y,hy⟩:=zu (l:=m) (i:=i) (by omega)
   simp -dsimp only[go_sem,bA,aA,cA,reduceCtorEq,h2,hlm▸h2,z7 zF hx,z7 zF hy]
   refine MV.fn ?_
   simp -dsimp only[go_sem,bA,aA,reduceCtorEq]
   refine hf x (IA hx) y _ _ ?_
   simp -dsimp only[go_sem,aA,reduceCtorEq]
   refine BR.ndec (fun h3=>?_) (fun h3=>?_)
   ·simp -dsimp only[go_sem,bA,aA,cA,reduceCtorEq,gA]
    refine AA (by omega) rfl ?_
    have:l≠m:=by
     rintro rfl
     rw[hx] at hy
     injection hy with hy
     exact h3 hy
    simpa[this] using hQ
   ·simp -dsimp only[go_sem,bA,aA,cA,reduceCtorEq,gA]
    refine zAb (i+1) ?_
    refine⟨by omega,fun j hj'=>?_⟩
    rcases RA j i with h'|h'
    ·exact hj j h'
    ·have:j=i:=by omega
     subst this
     rw[hx,hy,h3]
  ·simp -dsimp only[go_sem,bA,aA,reduceCtorEq,gA]
   refine AA (by omega) rfl ?_
   have:l=m:=i8 hlm fun j hj'=>hj j (by omega)
   simpa[this] using hQ
noncomputable def c9:List V->Heap->Option OR:=by
 classical
 exact GK (fun p:GV×GV=>match p with|(a,b)=>[.agg (zR a),.agg (zR b)]) fun p H=>match p with|(a,b)=>if a.wf then some ⟨.lit (.bool (decide (a=b))),H,H.n⟩ else none
theorem AZ(a:GV)(b:GV)(hp:a.wf)(H:Heap)(Q:OR->Prop)(hQ:Q ⟨.lit (.bool (decide (a=b))),H,H.n⟩):MCall Cx 65 [.agg (zR a),.agg (zR b)] H Q:=by
 have h293:∀H Q,Q ⟨.lit (.bool (decide (a.list=b.list))),H,H.n⟩->MCall Cx 88 [NB zR a.list,NB zR b.list,.fn (.func 65) [] []] H Q:=
  Mc a.list b.list (GV.wf_list hp) fun x hx y H Q hQ=>AZ x y (GV.wf_mem hp x hx) H Q hQ
 refine QA zm (fn:=Tryz.f65) Tryz.func65 rfl (by decide) (k:=38) rfl (rs:=[.tmp 4]) rfl ?_
 simp -dsimp only[go_sem,bA,aA,cA,reduceCtorEq]
 rw[show(a=b)=_ from propext GV.ext_iff] at hQ
 refine AB (fun h1=>?_) (fun h1=>?_)<;>simp -dsimp only[go_sem,bA,aA,cA,reduceCtorEq,gA,h1]
 ·refine AB (fun h2=>?_) (fun h2=>?_)<;>simp -dsimp only[go_sem,bA,aA,cA,reduceCtorEq,gA,h2]
  ·refine AB (fun h3=>?_) (fun h3=>?_)<;>simp -dsimp only[go_sem,bA,aA,cA,reduceCtorEq,gA,h3]
   ·refine aD _ ((CA (Nd) xA)) ?_
    simp -dsimp only[go_sem,bA,aA,cA,reduceCtorEq,e_87 _ _ (GV.wf_keys hp),h1,h2,h3]
    refine AB (fun h4=>?_) (fun h4=>?_)<;>simp -dsimp only[go_sem,bA,aA,cA,reduceCtorEq,gA,h1,h2,h3,h4]
    ·refine MV.fn ?_
     simp -dsimp only[go_sem,bA,aA,cA,reduceCtorEq]
     refine h293 _ _ ?_
     simp -dsimp only[go_sem,bA,aA,cA,reduceCtorEq,gA,h1,h2,h3,h4]
     refine AA (by omega) rfl ?_
     simpa[h1,h2,h3,h4] using hQ
    ·refine AA (by omega) rfl ?_
     simpa[h1,h2,h3,h4] using hQ
   ·refine AA (by omega) rfl ?_
    simpa[h1,h2,h3] using hQ
  ·refine AA (by omega) rfl ?_
   simpa[h1,h2] using hQ
 ·refine AA (by omega) rfl ?_
  simpa[h1] using hQ
termination_by SizeOf.sizeOf a
decreasing_by exact GV.size_mem hx
theorem Gd:CI Cx 65 c9:=kL fun p H r hr=>by
 obtain⟨a,b⟩:=p
 simp only at hr
 split at hr
 ·rename_i hp
  injection hr with hr
  subst hr
  exact AZ a b hp H _ rfl
 ·cases hr
theorem e_65(a:GV)(b:GV)(hp:a.wf)(H:Heap):c9 [.agg (zR a),.agg (zR b)] H=some ⟨.lit (.bool (decide (a=b))),H,H.n⟩:=by
 refine(lL (by simp+contextual [kj]) (a,b) H).trans ?_
 exact if_pos hp
noncomputable def S8:List V->Heap->Option OR:=by
 classical
 exact GK (fun p:GNode×GNode=>match p with|(a,b)=>[.agg (za a),.agg (za b)]) fun p H=>match p with|(a,b)=>if a.body.wf then some ⟨.lit (.bool (decide (a=b))),H,H.n⟩ else none
theorem m_35(a:GNode)(b:GNode)(hp:a.body.wf)(H:Heap)(Q:OR->Prop)(hQ:Q ⟨.lit (.bool (decide (a=b))),H,H.n⟩):MCall Cx 35 [.agg (za a),.agg (za b)] H Q:=by
 refine QA zm (fn:=Tryz.f35) Tryz.func35 rfl (by decide) (k:=38) rfl (rs:=[.tmp 4]) rfl ?_
 simp -dsimp only[go_sem,bA,aA,cA,reduceCtorEq]
 rw[show(a=b)=_ from propext GNode.ext_iff'] at hQ
 refine AB (fun h1=>?_) (fun h1=>?_)<;>simp -dsimp only[go_sem,bA,aA,cA,reduceCtorEq,gA,h1]
 ·refine AB (fun h2=>?_) (fun h2=>?_)<;>simp -dsimp only[go_sem,bA,aA,cA,reduceCtorEq,gA,h1,h2]
  ·refine AB (fun h3=>?_) (fun h3=>?_)<;>simp -dsimp only[go_sem,bA,aA,cA,reduceCtorEq,gA,h1,h2,h3]
   ·refine AB (fun h4=>?_) (fun h4=>?_)<;>simp -dsimp only[go_sem,bA,aA,cA,reduceCtorEq,gA,h1,h2,h3,h4]
    ·refine aD _ ((CA (Gd) xA)) ?_
     simp -dsimp only[go_sem,bA,aA,cA,reduceCtorEq,gA,e_65 _ _ hp,h1,h2,h3,h4]
     refine AA (by omega) rfl ?_
     simpa[h1,h2,h3,h4] using hQ
    ·refine AA (by omega) rfl ?_
     simpa[h1,h2,h3,h4] using hQ
   ·refine AA (by omega) rfl ?_
    simpa[h1,h2,h3] using hQ
  ·refine AA (by omega) rfl ?_
   simpa[h1,h2] using hQ
 ·refine AA (by omega) rfl ?_
  simpa[h1] using hQ
theorem Bd:CI Cx 35 S8:=kL fun p H r hr=>by
 obtain⟨a,b⟩:=p
 simp only at hr
 split at hr
 ·rename_i hp
  injection hr with hr
  subst hr
  exact m_35 a b hp H _ rfl
 ·cases hr
theorem e_35(a:GNode)(b:GNode)(hp:a.body.wf)(H:Heap):S8 [.agg (za a),.agg (za b)] H=some ⟨.lit (.bool (decide (a=b))),H,H.n⟩:=by
 refine(lL (by simp+contextual [zJ]) (a,b) H).trans ?_
 exact if_pos hp
noncomputable def R8:List V->Heap->Option OR:=by
 classical
 exact GK (fun p:(List GNode)×(List GNode)=>match p with|(l,m)=>[NB za l,NB za m,.fn (.func 35) [] []]) fun p H=>match p with|(l,m)=>if mV l then some ⟨.lit (.bool (decide (l=m))),H,H.n⟩ else none
theorem m_34(l:List GNode)(m:List GNode)(hp:mV l)(H:Heap)(Q:OR->Prop)(hQ:Q ⟨.lit (.bool (decide (l=m))),H,H.n⟩):MCall Cx 34 [NB za l,NB za m,.fn (.func 35) [] []] H Q:=by
 refine QA zm (fn:=Tryz.f34) Tryz.func34 rfl (by decide) (k:=32) rfl (rs:=[.tmp 6]) rfl ?_
 simp -dsimp only[go_sem,bA,aA,cA,reduceCtorEq]
 obtain⟨hl,hf⟩:=hp
 refine aB (fun h=>?_) (fun h=>?_)
 ·simp -dsimp only[go_sem,bA,aA,cA,reduceCtorEq,gA]
  refine AA (by omega) rfl ?_
  have:l≠m:=by rintro rfl;exact h rfl
  simpa[this] using hQ
 ·have hlm:l.length=m.length:=by simp at h;omega
  simp -dsimp only[go_sem,bA,aA,cA,reduceCtorEq,gA]
  refine WW.still zm (fun i:Nat=>[(0,NB za l),(1,NB za m),(2,.fn (.func 35) [] []),(15,NB za l),(16,vA l.length),(17,vA i)]) (fun i=>i<=l.length/\∀j,j<i->l[j]?=m[j]?) (fun i=>l.length-i) 0 ⟨by omega,fun j hj=>by omega⟩ zSl ?_
  rintro i ⟨hi,hj⟩
  simp -dsimp only[go_sem,bA,aA,reduceCtorEq,zf,zh]
  refine aB (fun h2=>?_) (fun h2=>?_)
  ·obtain⟨x,hx⟩:=zu h2
   obtain⟨y,hy⟩:=zu (l:=m) (i:=i) (by omega)
   simp -dsimp only[go_sem,bA,aA,cA,reduceCtorEq,h2,hlm▸h2,z7 zg hx,z7 zg hy]
   refine aD _ ((CA (Bd) xA)) ?_
   simp -dsimp only[go_sem,bA,aA,cA,reduceCtorEq,e_35 _ _ (hf x (IA hx))]
   refine BR.ndec (fun h3=>?_) (fun h3=>?_)
   ·simp -dsimp only[go_sem,bA,aA,cA,reduceCtorEq,gA]
    refine AA (by omega) rfl ?_
    have:l≠m:=by
     rintro rfl
     rw[hx] at hy
     injection hy with hy
     exact h3 hy
    simpa[this] using hQ
   ·simp -dsimp only[go_sem,bA,aA,cA,reduceCtorEq,gA]
    refine zAb (i+1) ?_
    refine⟨by omega,fun j hj'=>?_⟩
    rcases RA j i with h'|h'
    ·exact hj j h'
    ·have:j=i:=by omega
     subst this
     rw[hx,hy,h3]
  ·simp -dsimp only[go_sem,bA,aA,reduceCtorEq,gA]
   refine AA (by omega) rfl ?_
   have:l=m:=i8 hlm fun j hj'=>hj j (by omega)
   simpa[this] using hQ
theorem Ad:CI Cx 34 R8:=kL fun p H r hr=>by
 obtain⟨l,m⟩:=p
 simp only at hr
 split at hr
 ·rename_i hp
  injection hr with hr
  subst hr
  exact m_34 l m hp H _ rfl
 ·cases hr
theorem e_34(l:List GNode)(m:List GNode)(hp:mV l)(H:Heap):R8 [NB za l,NB za m,.fn (.func 35) [] []] H=some ⟨.lit (.bool (decide (l=m))),H,H.n⟩:=by
 refine(lL (by simp+contextual [zH]) (l,m) H).trans ?_
 exact if_pos hp
theorem m_8(a:GTree)(b:GTree)(hp:mV a.nodes)(H:Heap)(Q:OR->Prop)(hQ:Q ⟨.lit (.bool (decide (a=b))),H,H.n⟩):MCall Cx 8 [.agg (zp a),.agg (zp b)] H Q:=by
 refine QA zm (fn:=Tryz.f8) Tryz.func8 rfl (by decide) (k:=10) rfl (rs:=[.tmp 4]) rfl ?_
 simp -dsimp only[go_sem,bA,aA,cA,reduceCtorEq]
 refine aD _ ((CA (Ad) xA)) ?_
 simp -dsimp only[go_sem,bA,aA,cA,reduceCtorEq,gA,e_34 _ _ hp]
 refine AA (by omega) rfl ?_
 rw[show(a=b)=_ from propext GTree.ext_iff'] at hQ
 rw[show decide (a.nodes=b.nodes)=@decide (a.nodes=b.nodes) (propDecidable _) by congr]
 exact hQ
end
end Go.Proofs.YtookdinfaoelaaaGreatDoor
namespace Go.Tw
section
attribute [go_sem ↓] zlX
section
variable {C:Ctx} {nt:Nat} {ro:Option Nat} {H0:Heap} {T:Tr V} {H:Heap} {lo:Nat} {Q:Ex->St->Prop}
theorem W.seq{a b:Code}{st:St}(h:W C nt ro H0 a st fun x st1=>match x with|.normal=>W C nt ro H0 b st1 Q|x=>Q x st1):W C nt ro H0 (.seq a b) st Q:=by
 intro h' wro o s w a' Qw og R hk
 refine wpIn_seq (h h' wro o s w a' _ og R fun x st1 s1 w1 a1 q R1=>?_)
 cases x with
 | normal=>exact q h' wro o s1 w1 a1 Qw og R1 hk
 | ret=>exact hk _ _ _ _ _ q R1
 | exit i=>exact hk _ _ _ _ _ q R1
def B9(C:Ctx)(nt:Nat)(ro:Option Nat)(H0:Heap)(b:Code)(Q:Ex->St->Prop)(x:Ex)(st:St):Prop:=
 match x with
 | .normal=>WW C nt ro H0 b st.T st.H st.lo Q .mk
 | x=>Q x st
@[go_sem ↓] theorem VX(b:Code):B9 C nt ro H0 b Q .normal ⟨T,H,lo⟩=WW C nt ro H0 b T H lo Q .mk:=rfl
@[go_sem ↓] theorem C9(b:Code)(i:Nat)(st:St):B9 C nt ro H0 b Q (.exit i) st=Q (.exit i) st:=rfl
@[go_sem ↓] theorem Zg(b:Code)(st:St):B9 C nt ro H0 b Q .ret st=Q .ret st:=rfl
theorem WW.sq{a b:Code}{h:Hid (Code.seq a b,Q)}(hmix:C.P.follows .mixedOrders=true)(k:VC C nt ro H0 a T H lo (B9 C nt ro H0 b Q) .mk):WW C nt ro H0 (.seq a b) T H lo Q h:=by
 refine⟨W.seq ((W.of_VC hmix k).mono fun x st q=>?_)⟩
 cases x with
 | normal=>exact q.out
 | ret=>exact q
 | exit i=>exact q
theorem WW.vc{c:Code}{h:Hid (c,Q)}(hmix:C.P.follows .mixedOrders=true)(k:VC C nt ro H0 c T H lo Q .mk):WW C nt ro H0 c T H lo Q h:=⟨W.of_VC hmix k⟩
theorem WW.pre{c:Code}{h:Hid (c,Q)}{T2:Tr V}{H2:Heap}{lo2:Nat}(hs:Sub C nt ro H0 ⟨T,H,lo⟩ ⟨T2,H2,lo2⟩)(k:WW C nt ro H0 c T2 H2 lo2 Q .mk):WW C nt ro H0 c T H lo Q h:=⟨W.pre hs k.out⟩
theorem WW.cut{ι:Type}{a b:Code}{h:Hid (Code.seq a b,Q)}(hmix:C.P.follows .mixedOrders=true)(S:ι->List (Nat×V))(Hs:ι->Heap)(ls:ι->Nat)(inv:ι->Prop)
  (h1:VC C nt ro H0 a T H lo (SX C nt ro H0 (fun o:Option ι=>match o with|some i=>S i|none=>[]) (fun o=>match o with|some i=>Hs i|none=>H0) (fun o=>match o with|some i=>ls i|none=>0) (fun o=>match o with|some i=>inv i|none=>True) (fun o=>match o with|some i=>0|none=>1) none Q) .mk)
  (h2:∀i,inv i->WW C nt ro H0 b (jH (S i)) (Hs i) (ls i) Q .mk):WW C nt ro H0 (.seq a b) T H lo Q h:=by
 refine⟨W.seq ((W.of_VC hmix h1).mono fun x st q=>?_)⟩
 cases x with
 | normal=>
  obtain⟨j,hj,hm,hs⟩:=q
  cases j with
  | none=>exact absurd hm (Nat.lt_irrefl 1)
  | some j=>exact W.pre hs (h2 j hj).out
 | ret=>exact q
 | exit i=>exact q
theorem WW.keep{c:Code}{h:Hid (c,Q)}(l:List (Nat×V))(hT:∀p∈l,PD T p.1=p.2)(k:WW C nt ro H0 c (jH l) H lo Q .mk):WW C nt ro H0 c T H lo Q h:=⟨W.pre (Sub.keep l hT) k.out⟩
theorem WW.rest{c:Code}{h:Hid (c,Q)}(l:List (Nat×V))(H2:Heap)(lo2:Nat)(hT:∀p∈l,PD T p.1=p.2)(hok:l.all (fun p=>V.ok H2.n p.2)=true)(hg:Grn H0 H2)(hn:H2.n<=H.n)(he:∀b,b<H2.n->H.get b=H2.get b)(hlo:H0.n<=lo)(hlo2:H0.n<=lo2)(hlo3:lo2<=lo)(hold:∀b,b<H0.n->H2.get b=H0.get b)
  (hro:∀b,ro=some b->b<H0.n) (k:WW C nt ro H0 c (jH l) H2 lo2 Q .mk):WW C nt ro H0 c T H lo Q h:=
 ⟨W.pre (Sub.back H2 lo2 l hg hn he hlo hlo2 hlo3 hold hro fun p hp=>RN.same (hT p hp) (gB.1 hok p hp)) k.out⟩
end
section
variable {C:Ctx} {nt:Nat} {ro:Option Nat} {H0:Heap} {T:Tr V} {H:Heap} {lo:Nat} {Q:Ex->St->Prop}
theorem WW.loopW{ι:Type}{b:Code}{h:Hid (Code.loop b,Q)}(S:ι->List (Nat×V))(Hs:ι->Heap)(ls:ι->Nat)(inv:ι->Prop)(m:ι->Nat)(i0:ι)
  (h0:inv i0) (hs:Sub C nt ro H0 ⟨T,H,lo⟩ ⟨jH (S i0),Hs i0,ls i0⟩)
  (hb:∀i,inv i->WW C nt ro H0 b (jH (S i)) (Hs i) (ls i) (SX C nt ro H0 S Hs ls inv m i Q) .mk):WW C nt ro H0 (.loop b) T H lo Q h:=by
 refine⟨W.loop (fun i=>⟨jH (S i),Hs i,ls i⟩) inv m i0 h0 hs fun i hi=>(hb i hi).out.mono fun x st q=>?_⟩
 cases x with
 | normal=>exact q
 | ret=>exact q
 | exit k=>exact q
theorem WW.seq{a b:Code}{h:Hid (Code.seq a b,Q)}(k:WW C nt ro H0 a T H lo (B9 C nt ro H0 b Q) .mk):WW C nt ro H0 (.seq a b) T H lo Q h:=by
 refine⟨W.seq (k.out.mono fun x st q=>?_)⟩
 cases x with
 | normal=>exact q.out
 | ret=>exact q
 | exit i=>exact q
theorem WW.blk{id:Nat}{b:Code}{h:Hid (Code.block id b,Q)}(k:WW C nt ro H0 b T H lo (oS id Q) .mk):WW C nt ro H0 (.block id b) T H lo Q h:=by
 refine⟨fun h' wro o s w a Qw og R hk=>wpIn_block (k.out h' wro o s w a _ og R fun x st1 s1 w1 a1 q R1=>?_)⟩
 cases x with
 | normal=>exact hk _ _ _ _ _ q R1
 | ret=>exact hk _ _ _ _ _ q R1
 | exit i=>
  by_cases e:i=id
  ·subst e
   have q:Q .normal st1:=by simpa[oS] using q
   have:=hk _ _ _ _ _ q R1
   simpa[Ex.to,Exit.inBlock] using this
  ·have q:Q (.exit i) st1:=by rw[zlX _ _ _ _ e] at q;exact q
   have:=hk _ _ _ _ _ q R1
   simpa[Ex.to,Exit.inBlock,e] using this
end
theorem MCall.ofW {C : Ctx} {g : FuncId} {fn : Func} {body : Code} (hf : C.P.funcs[g]? = some fn) (hb : fn.body = some body) (hn : fn.name ≠ "runtime.NumGoroutine") {args : List V} {H : Heap} {Q : OR → Prop} {k : Nat} (hk : max args.length fn.ntmps = k) {rs : List ResultVar} (hrs : fn.results.toList = rs)
  (hW:WW C k none H body (ZJ args 0 .nil) H H.n (Ends C H rs Q) .mk):MCall C g args H Q:=by
 intro h s w cas K hr hg ha hK
 subst hk hrs
 have h0:(callFunc g cas).run C.P w=.ok (.enter g cas) w:=by simp[callFunc,hf,hn,hb]
 have hl:=ha.length
 have R:SR C h (max args.length fn.ntmps) none none ⟨s,H,w,[]⟩ s w ⟨ZJ args 0 .nil,H,H.n⟩ { tmps:=cas++Array.replicate (fn.ntmps-cas.size) undef,defers:=[] }:=by
  refine⟨fun b g hb=>(hr.lt hb).1,hr,hg,jA _,Ext.refl _ _ _,?_,⟨[],rfl,dE,fun r hr=>by cases hr⟩,trivial,F3 ha _⟩
  simp only[Array.length_toList] at hl
  simp only[Array.size_append,Array.size_replicate]
  omega
 have og:Og C h H ⟨s,H,w,[]⟩:=⟨rfl,hg.1,hr⟩
 unfold CallF
 rw[h0]
 simp only
 refine(callsIn_wide (n:=0)).1 (callsIn_of_wp_marks hf hb trivial ?_)
 refine hW.out h none _ s w _ _ og R fun x st s' w' a' q R'=>?_
 have key:OL (aL C st.T st.H fn.results.toList) (fun vs=>Res C H (YL vs) st.H st.lo Q .mk) .mk->LeavesInM Fence.wide 0 C.P fn a'.tmps (fun e w'=>∃v,e=.returned v/\K v w') a'.defers .returning w':=by
  rintro⟨vs,h1,u,H2,lo2,hsub,hQ⟩
  obtain⟨rs,e,hn,hm⟩:=R'.df
  simp only[List.append_nil] at e
  rw[e]
  refine mg rs w' R'.hr R'.ext R'.tm hn hm fun w2 k1 k2 k3=>?_
  obtain⟨c,h3,h4⟩:=xf (a:=a') k1 k3 h1
  refine⟨c,h3,c,rfl,?_⟩
  have R2:SR C h 1 none none ⟨s,H,w,[]⟩ s' w2 ⟨jH [(0,YL vs)],st.H,st.lo⟩ { tmps:=#[c],defers:=[] }:=by
   refine⟨R'.ob,k1,hg.ext k2,R'.ln,k2,rfl,⟨[],rfl,dE,fun r hr=>by cases hr⟩,trivial,fun t=>?_⟩
   show VH (C.ph h) s' st.H w2 (PD (YO .nil 0 (YL vs)) t) _
   rw[QM]
   by_cases e:t=0
   ·rw[if_pos e,e];exact h4
   ·rw[if_neg e];exact True.intro
  obtain⟨s2,R3⟩:=hsub h none _ s' w2 _ og R2
  have h5:=R3.tm 0
  have e5:PD (jH [(0,u)]) 0=u:=by
   show PD (YO .nil 0 u) 0=u
   rw[QM,if_pos rfl]
  simp only[e5] at h5
  exact hK _ hQ c w2 s2 h5 R3.hr R3.ext
 cases x with
 | normal=>exact key q
 | ret=>exact key q
 | exit i=>exact q.elim
end
end Go.Tw
