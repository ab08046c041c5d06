/- Part of the proof. Conditions: none. -/
import Derived.Test.YtnhpkhblghgpdaaGreatDoorXaf
import Derived.Shelf.SlSortCmp.NoneTotal
import Derived.KernelRfl
import Derived.Test.YtnhpkhblghgpdaaGreatDoorProg
set_option linter.unusedSectionVars false
set_option linter.unusedSimpArgs false
set_option linter.unusedVariables false
set_option linter.defProp false
set_option maxRecDepth 100000
set_option maxHeartbeats 8000000
namespace Go.Proofs
open Go.DM
def kE(c:cK)(t:Nat):Prop:=¬(((t:Int)=c.kind/\c.read.getD t default≠0)\/((t:Int)≠c.kind/\c.read.getD t default≠-1/\(c.read.getD t default<1\/c.read.getD t default>60000)))
def pR(c:cK)(aL:Int):Prop:=(¬(c.kind< -1\/c.kind>=aL\/(c.read.length:Int)≠aL\/c.delete<1\/(c.delete>60000/\c.delete≠1099511627776)))/\∀t,t<aL.toNat->kE c t
instance(c:cK)(t:Nat):Decidable (kE c t):=by unfold kE;infer_instance
instance(c:cK)(aL:Int):Decidable (pR c aL):=by unfold pR;infer_instance
def kz(l:List cK)(aL:Int):Prop:=∀i,i<l.length->pR (l.getD i default) aL
instance(l:List cK)(aL:Int):Decidable (kz l aL):=by unfold kz;infer_instance
def yJ(l:bO)(t:Nat):Prop:=¬(l.getD t default<1\/l.getD t default>60000)
instance(l:bO)(t:Nat):Decidable (yJ l t):=by unfold yJ;infer_instance
def NH(x:Input)(aL:Int):Prop:=(¬(aL<0\/(x.aw.length:Int)>60\/(x.insert.length:Int)≠aL\/x.swap<0\/x.swap>60000\/¬kz x.aw aL))/\∀t,t<aL.toNat->yJ x.insert t
instance(x:Input)(aL:Int):Decidable (NH x aL):=by unfold NH;infer_instance
def t58(c:cK)(aL:Int)(h:aL<=1000000000000):bl aj 63 [.agg c.enc,ti aL] (.bool (decide (pR c aL))):=by
 have aC:=okE;obtain⟨v,hv⟩:=bb (decide (pR c aL));rw[hv];have cZ:¬pR c aL->v=false:=λh=>by rw[<-hv];simp[h]
 have c7:pR c aL↔(¬(c.kind< -1\/c.kind>=aL\/(c.read.length:Int)≠aL\/c.delete<1\/(c.delete>60000/\c.delete≠1099511627776)))/\∀t,t<aL.toNat->kE c t:=Iff.rfl;refine c58.ok (by simp) (aO ?_);simp[cK.enc];apply aa.ag aC fw [1,2];simp[Lm];refine aa.le (Le.bi (o:=[]) (l:=[(1,.v (ti aL)),(2,.v (.box [ti c.kind,.sl (aG c.read),ti c.delete]))]) (ba:=1200) ?_ ?_ ?_ ?_) ?_;iterate 4(·simp)
 apply aa.seq;obtain⟨b,hb⟩:=bb (decide (c.kind< -1\/c.kind>=aL\/(c.read.length:Int)≠aL\/c.delete<1\/(c.delete>60000/\c.delete≠1099511627776)):Bool);refine aa.cz aC fw [(1,.v (ti aL)),(2,.v (.box [ti c.kind,.sl (aG c.read),ti c.delete])),(37,.v (.bool b))] ?_ ?_
 ·by_cases q1:c.kind< -1
  ·have fp:b=true:=by rw[<-hb];simp[q1]
   simp[wj,q1,fp]
  ·by_cases q2:aL<=c.kind
   ·have fp:b=true:=by rw[<-hb];simp[q2]
    simp[wj,q1,q2,fp]
   ·by_cases q3:(c.read.length:Int)=aL
    ·by_cases q4:c.delete<1
     ·have fp:b=true:=by rw[<-hb];simp[q4]
      simp[wj,q1,q2,q3,q4,fp]
     ·by_cases q5:60000<c.delete
      ·by_cases q6:c.delete=1099511627776
       ·have fp:b=false:=by rw[<-hb];simp only[Zaz];omega
        simp[wj,q1,q2,q3,q4,q5,q6,fp]
       ·have fp:b=true:=by rw[<-hb];simp[q5,q6]
        simp[wj,q1,q2,q3,q4,q5,q6,fp]
      ·have fp:b=false:=by rw[<-hb];simp only[Zaz];omega
       simp[wj,q1,q2,q3,q4,q5,fp]
    ·have fp:b=true:=by rw[<-hb];simp[q3]
     simp[wj,q1,q2,q3,fp]
 refine aa.cond rfl (λh=>?_) (λh=>?_)
 ·rw[h]at hb;simp only[Zau]at hb;apply aa.ag aC fw [4];simp[Ri];apply aa.ret;rw[cZ λe=>(c7.1 e).1 hb];simp[uI]
 rw[h]at hb;simp only[Zaz]at hb;obtain⟨n,hn⟩:=bb c.read.length;have hnt:aL=(n:Int):=by omega
 subst hnt;apply aa.skip;simp;apply aa.seq;apply aa.ag aC fw [1,2,5];simp[GW];apply aa.block;refine aa.loop (λy:Nat=>⟨DM.look [(1,.v (ti n)),(2,.v (.box [ti c.kind,.sl (aG c.read),ti c.delete])),(5,.v (ti y))],cM [],2000,1000,[]⟩)
  (λy=>y<=n/\∀t,t<y->kE c t) (λy=>n-y) 0 (Le.bi (o:=[]) ?_ ?_ ?_ ?_) (by simp) (λy hy=>?_)
 iterate 4(·simp)
 obtain⟨lq,fJ⟩:=hy;apply aa.seq;apply aa.ag aC fw [1,2,5,40];simp[d58r4];refine aa.cond rfl (λcR=>?_) (λcR=>?_)
 ·simp at cR;have KD:y<c.read.length:=by omega
  have r1:=cE KD;obtain⟨u,hu⟩:=bb (c.read.getD y default);rw[hu]at r1;have hro:kE c y↔¬(((y:Int)=c.kind/\u≠0)\/((y:Int)≠c.kind/\u≠-1/\(u<1\/u>60000))):=by unfold kE;rw[hu]
  obtain⟨kd,hkd⟩:=bb c.kind;rw[hkd]at hro⊢;apply aa.skip;simp;apply aa.seq;apply aa.block;apply aa.ag aC fw [1,2,5,6];simp[d58r5,r1,KD];obtain⟨b2,fH⟩:=bb (decide (((y:Int)=kd/\u≠0)\/((y:Int)≠kd/\u≠-1/\(u<1\/u>60000))):Bool);refine aa.cz aC fw [(1,.v (ti n)),(2,.v (.box [ti kd,.sl (aG c.read),ti c.delete])),(5,.v (ti y)),(73,.v (.bool b2))] ?_ ?_
  ·by_cases q1:(y:Int)=kd
   ·by_cases q2:u=0
    ·have fp:b2=false:=by rw[<-fH];simp[q1,q2]
     simp[Ft,q1,q2,fp]
    ·have fp:b2=true:=by rw[<-fH];simp[q1,q2]
     simp[Ft,q1,q2,fp]
   ·by_cases q2:u= -1
    ·have fp:b2=false:=by rw[<-fH];simp[q1,q2]
     simp[Ft,q1,q2,fp]
    ·by_cases q3:u<1
     ·have fp:b2=true:=by rw[<-fH];simp[q1,q2,q3]
      simp[Ft,q1,q2,q3,fp]
     ·by_cases q4:60000<u
      ·have fp:b2=true:=by rw[<-fH];simp[q1,q2,q4]
       simp[Ft,q1,q2,q3,q4,fp]
      ·have fp:b2=false:=by rw[<-fH];simp only[Zaz];omega
       simp[Ft,q1,q2,q3,q4,fp]
  refine aa.cond rfl (λh=>?_) (λh=>?_)
  ·rw[h]at fH;simp only[Zau]at fH;apply aa.ag aC fw [4];simp[d58r7];apply aa.ret;rw[cZ λe=>hro.1 ((c7.1 e).2 y (by simpa using cR)) fH];simp[uI]
  ·rw[h]at fH;simp only[Zaz]at fH;apply aa.skip;simp;apply aa.fK aC fw [1,2,5];simp[d58r8];rw[aF (by omega)];refine⟨y+1,Le.bi (o:=[]) ?_ ?_ ?_ ?_,⟨by omega,λi hi=>?_⟩,by omega⟩;iterate 4(·simp)
   ·by_cases e:i=y
    ·subst e;exact hro.2 fH
    ·exact fJ i (by omega)
 simp at cR;apply aa.exit;simp;apply aa.ag aC fw [4];simp[d58r9];apply aa.ret;have:v=true:=by
  rw[<-hv,Zau];exact c7.2 ⟨by omega,λi hi=>fJ i (by simp at hi;omega)⟩
 rw[this];simp[uI]
abbrev spec58:DM.Spec:=cT (λts=>∃(c:cK) (t:Int),ts=[.agg c.enc,ti t]/\t<=1000000000000) (fun|[.agg c,.int _ t]=>.bool (decide (pR (sP c) t))|_=>.bool false) true
def ok58:ay aj (bu [(63,spec58)]):=by
 refine ay.cons ay.nil ?_;rintro ts ⟨c,t,rfl,h⟩;exact⟨by simpa using t58 c t h,λ_=>rfl⟩
def t45(l:List cK)(aL:Int)(h1:l.length<=1000000000000)(h2:aL<=1000000000000):bl aj 37 [.sl (cY l),ti aL] (.bool (decide (kz l aL))):=by
 have aC:=ok58;obtain⟨v,hv⟩:=bb (decide (kz l aL));rw[hv];have cZ:¬kz l aL->v=false:=λh=>by rw[<-hv];simp[h]
 refine c45.ok (by simp) (aO ?_);simp;apply aa.ag aC fw [0,1];simp[K8];apply aa.seq;apply aa.ag aC fw [0,1,5];simp[Ed];apply aa.block;refine aa.loop (λj:Nat=>⟨DM.look [(0,.v (.sl (cY l))),(1,.v (ti aL)),(5,.v (ti j))],cM [],2000,1000,[]⟩)
  (λj=>j<=l.length/\∀i,i<j->pR (l.getD i default) aL) (λj=>l.length-j) 0 (Le.bi (o:=[]) ?_ ?_ ?_ ?_) (by simp) (λj hj=>?_)
 iterate 4(·simp)
 obtain⟨lq,fJ⟩:=hj;apply aa.seq;apply aa.ag aC fw [0,1,5,9];simp[K9];refine aa.cond rfl (λcR=>?_) (λcR=>?_)
 ·simp at cR;have r1:=jJ cR;apply aa.skip;simp;apply aa.seq;apply aa.block;obtain⟨u,hu⟩:=bb (l.getD j default);rw[hu]at r1;apply aa.ag aC fw [0,1,5,18];obtain⟨a,b,c⟩:=u;simp[La,cR,r1,cK.enc];rw[show sP [ti a,T.sl (aG b),ti c]=⟨a,b,c⟩from pn ⟨a,b,c⟩];refine⟨⟨⟨a,b,c⟩,aL,⟨⟨rfl,rfl,rfl⟩,rfl⟩,h2⟩, ?_⟩;refine aa.cond rfl (λh=>?_) (λh=>?_)
  ·simp at h;apply aa.ag aC fw [4];simp[Lb];apply aa.ret;rw[cZ λe=>h (by have:=e j cR;rw[hu]at this;exact this)];simp[wT]
  ·simp at h;apply aa.skip;simp;apply aa.fK aC fw [0,1,5];simp[d45r5];rw[aF (by omega)];refine⟨j+1,Le.bi (o:=[]) ?_ ?_ ?_ ?_,⟨by omega,λi hi=>?_⟩,by omega⟩;iterate 4(·simp)
   ·by_cases e:i=j
    ·subst e;show pR (l.getD i default) aL;rw[hu];exact h
    ·exact fJ i (by omega)
 simp at cR;apply aa.exit;simp;apply aa.ag aC fw [4];simp[d45r6];apply aa.ret;have:v=true:=by
  rw[<-hv,Zau];exact λi hi=>fJ i (by omega)
 rw[this];simp[wT]
abbrev spec45:DM.Spec:=cT (λts=>∃(l:List cK) (t:Int),ts=[.sl (cY l),ti t]/\l.length<=1000000000000/\t<=1000000000000) (fun|[.sl c,.int _ t]=>.bool (decide (kz (CO c) t))|_=>.bool false) true
def ok45:ay aj (bu [(37,spec45)]):=by
 refine ay.cons ay.nil ?_;rintro ts ⟨c,t,rfl,h1,h2⟩;exact⟨by simpa using t45 c t h1 h2,λ_=>rfl⟩
def t28(x:Input)(aL:Int)(ht:aL<=1000000000000):bl aj 23 [x.enc,ti aL] (.bool (decide (NH x aL))):=by
 have aC:=ok45;obtain⟨v,hv⟩:=bb (decide (NH x aL));rw[hv];have cZ:¬NH x aL->v=false:=λh=>by rw[<-hv];simp[h]
 have c7:NH x aL↔(¬(aL<0\/(x.aw.length:Int)>60\/(x.insert.length:Int)≠aL\/x.swap<0\/x.swap>60000\/¬kz x.aw aL))/\∀t,t<aL.toNat->yJ x.insert t:=Iff.rfl;refine c28.ok (by simp) (aO ?_);simp[Input.enc];apply aa.ag aC fw [1,2];simp[d28r0];refine aa.le (Le.bi (o:=[]) (l:=[(1,.v (ti aL)),(2,.v (.box [.sl (cY x.aw),.sl (aG x.insert),ti x.swap]))]) (ba:=1200) ?_ ?_ ?_ ?_) ?_;iterate 4(·simp)
 apply aa.seq;obtain⟨b,hb⟩:=bb (decide (aL<0\/(x.aw.length:Int)>60\/(x.insert.length:Int)≠aL\/x.swap<0\/x.swap>60000\/¬kz x.aw aL):Bool);refine aa.cz aC fw [(1,.v (ti aL)),(2,.v (.box [.sl (cY x.aw),.sl (aG x.insert),ti x.swap])),(37,.v (.bool b))] ?_ ?_
 ·by_cases q1:aL<0
  ·have fp:b=true:=by rw[<-hb];simp[q1]
   simp[BR,q1,fp]
  ·by_cases q2:60<(x.aw.length:Int)
   ·have fp:b=true:=by rw[<-hb];simp[q2]
    simp[BR,q1,q2,fp]
   ·by_cases q3:(x.insert.length:Int)=aL
    ·by_cases q4:x.swap<0
     ·have fp:b=true:=by rw[<-hb];simp[q4]
      simp[BR,q1,q2,q3,q4,fp]
     ·by_cases q5:60000<x.swap
      ·have fp:b=true:=by rw[<-hb];simp[q5]
       simp[BR,q1,q2,q3,q4,q5,fp]
      ·by_cases q6:kz x.aw aL
       ·have fp:b=false:=by rw[<-hb];simp only[Zaz];rintro(h|h|h|h|h|h)<;>first|omega|exact h q6
        simp[BR,q1,q2,q3,q4,q5,q6,fp];exact⟨x.aw,aL,⟨rfl,rfl⟩,by omega,ht⟩
       ·have fp:b=true:=by rw[<-hb];simp[q6]
        simp[BR,q1,q2,q3,q4,q5,q6,fp];exact⟨x.aw,aL,⟨rfl,rfl⟩,by omega,ht⟩
    ·have fp:b=true:=by rw[<-hb];simp[q3]
     simp[BR,q1,q2,q3,fp]
 refine aa.cond rfl (λh=>?_) (λh=>?_)
 ·rw[h]at hb;simp only[Zau]at hb;apply aa.ag aC fw [4];simp[d28r2];apply aa.ret;rw[cZ λe=>(c7.1 e).1 hb];simp[Jr]
 rw[h]at hb;simp only[Zaz]at hb;have HL:(x.insert.length:Int)=aL:=by
  by_cases e:(x.insert.length:Int)=aL
  ·exact e
  ·exact Zar (.inr (.inr (.inl e))) hb
 obtain⟨n,hn⟩:=bb x.insert.length;rw[hn]at HL;subst HL;apply aa.skip;simp;apply aa.seq;apply aa.ag aC fw [1,2,5];simp[d28r3];apply aa.block;refine aa.loop (λy:Nat=>⟨DM.look [(1,.v (ti n)),(2,.v (.box [.sl (cY x.aw),.sl (aG x.insert),ti x.swap])),(5,.v (ti y))],cM [],2000,1000,[]⟩)
  (λy=>y<=n/\∀t,t<y->yJ x.insert t) (λy=>n-y) 0 (Le.bi (o:=[]) ?_ ?_ ?_ ?_) (by simp) (λy hy=>?_)
 iterate 4(·simp)
 obtain⟨lq,fJ⟩:=hy;apply aa.seq;apply aa.ag aC fw [1,2,5,40];simp[d28r4];refine aa.cond rfl (λcR=>?_) (λcR=>?_)
 ·simp at cR;have KD:y<x.insert.length:=by omega
  have r1:=cE KD;obtain⟨u,hu⟩:=bb (x.insert.getD y default);rw[hu]at r1;have hro:yJ x.insert y↔¬(u<1\/u>60000):=by unfold yJ;rw[hu]
  apply aa.skip;simp;apply aa.seq;apply aa.block;refine aa.cz aC fw [(1,.v (ti n)),(2,.v (.box [.sl (cY x.aw),.sl (aG x.insert),ti x.swap])),(5,.v (ti y)),(56,.v (.bool (decide (u<1\/60000<u))))] ?_ ?_
  ·by_cases q1:u<1
   ·simp[d28r5,r1,KD,q1]
   ·by_cases q2:60000<u<;>simp[d28r5,r1,KD,q1,q2]
  refine aa.cond rfl (λh=>?_) (λh=>?_)
  ·simp only[Zau]at h;apply aa.ag aC fw [4];simp[d28r6];apply aa.ret;rw[cZ λe=>hro.1 ((c7.1 e).2 y (by simpa using cR)) h];simp[Jr]
  ·simp only[Zaz]at h;apply aa.skip;simp;apply aa.fK aC fw [1,2,5];simp[d28r7];rw[aF (by omega)];refine⟨y+1,Le.bi (o:=[]) ?_ ?_ ?_ ?_,⟨by omega,λi hi=>?_⟩,by omega⟩;iterate 4(·simp)
   ·by_cases e:i=y
    ·subst e;exact hro.2 h
    ·exact fJ i (by omega)
 simp at cR;apply aa.exit;simp;apply aa.ag aC fw [4];simp[d28r8];apply aa.ret;have:v=true:=by
  rw[<-hv,Zau];exact c7.2 ⟨hb,λi hi=>fJ i (by simp at hi;omega)⟩
 rw[this];simp[Jr]
def yK{a b:Int}(ha:0<=a)(hb:0<=b):0<=zS a b:=by unfold zS;split<;>omega
section
variable{w9:Nat}{es:List (Nat×T×DV)}
def Mu(es:List (Nat×T×DV)):Prop:=∀e∈es,∃a:cw,e.2.2=.v (.agg a.enc)
def same_low{f:bq}{N n:Nat}{l0 l1:cV}(aT:dh f N)(h0:∀p∈l0,N<=p.1)(h1:∀p∈l1,N<=p.1)(hn:f n≠none):sameAt (aM l0 f) (aM l1 f) n:=by
 obtain⟨o,ho⟩:=ZbP.1 hn;have hlt:=(aT n o ho).1;refine⟨o,o, ?_, ?_,be o⟩
 ·rw[fj λo' h=>by have:=h0 _ h;simp only at this;omega];exact ho
 ·rw[fj λo' h=>by have:=h1 _ h;simp only at this;omega];exact ho
def addE_val{k:T}{c:Int}{y:DV}{e:Nat×T×DV}(h:e∈rC k c y w9 es):e.2.2=y\/∃e'∈es,e.2.2=e'.2.2:=by
 unfold rC at h;split at h
 ·rename_i hbt;clear hbt;unfold HJ at h;split at h
  ·rename_i i hi;clear hi;induction es generalizing i with
   |nil=>simp at h
   |cons e0 es ih=>
    cases i with
    |zero=>
     simp only[Zco,Zah]at h;rcases h with rfl|h
     ·exact .inl rfl
     ·exact .inr ⟨e,by simp[h],rfl⟩
    |succ i=>
     simp only[Zb4,Zah]at h;rcases h with rfl|h
     ·exact .inr ⟨e,by simp,rfl⟩
     ·rcases ih i h with h|⟨e',h1,h2⟩
      ·exact .inl h
      ·exact .inr ⟨e',by simp[h1],h2⟩
  ·rcases Zaq.1 h with h|h
   ·exact .inr ⟨e,h,rfl⟩
   ·simp only[Zan]at h;subst h;exact .inl rfl
 ·exact .inr ⟨e,h,rfl⟩
def k48:bB->bq->fI
 |[.ptr b 0,.agg [.v (.int .i64 f),.v (.int .i64 t),.v (.int .i64 x),.v (.int .i64 c),d]],ab=>
  match ab b with
  |some (.box [_,_,_,.iE m])=>match ab m with
   |some (.map cj agg w9 es)=>⟨cj=mn/\agg=true/\Mu es/\kp d/\∀n∈aN d,ab n≠none,.v (.eo []),
     ew ab m (.map mn true (xb (keyOf f t x) c w9 es) (rC (keyOf f t x) c (.agg [.v (ti f),.v (ti t),.v (ti x),.v (ti c),d]) w9 es))⟩
   |_=>⟨False,.undef,ab⟩
  |_=>⟨False,.undef,ab⟩
 |_,ab=>⟨False,.undef,ab⟩
def t48{f0:bq}{b m:Nat}{c1 c2 c3:DV}{f t x c:Int}{d:DV}{N:Nat}(hN:∀r,N<=r->f0 r=none)(hb:f0 b=some (.box [c1,c2,c3,.iE m]))(hm:f0 m=some (.map mn true w9 es))(he:Mu es)(hd:kp d)(Vx:∀n∈aN d,f0 n≠none):
  aR aj 75 [.ptr b 0,.agg [.v (ti f),.v (ti t),.v (ti x),.v (ti c),d]] f0 ⟨True,.v (.eo []),ew f0 m (.map mn true (xb (keyOf f t x) c w9 es) (rC (keyOf f t x) c (.agg [.v (ti f),.v (ti t),.v (ti x),.v (ti c),d]) w9 es))⟩:=by
 have aC:=cF;refine c48.pQ hN (by simp) λaT=>?_;have UN:b<N:=(aT b _ hb).1;have BS:m<N:=(aT m _ hm).1;have AK:b≠m:=λe=>by rw[e,hm]at hb;cases hb
 have nb:∀k,b≠N+k:=λk=>by omega
 have nm:∀k,m≠N+k:=λk=>by omega
 simp;apply aa.ag aC fw [0,3];simp[d48r0];apply aa.ag aC fw [0,3,4];simp[d48r1];obtain⟨k,hk⟩:=bb (keyOf f t x);have wH:T.agg [ti f,ti t,ti x]=k:=hk;rw[hk];refine aa.le (Le.dV (l1:=[(N+49,.box [.v (ti f),.v (ti t),.v (ti x)]),(N+4,.box [.v (ti f),.v (ti t),.v (ti x),.v (ti c),d])]) (l:=[(0,.ptr b 0),(3,.ptr (N+4) 0),(4,.ptr (N+49) 0)]) (ba:=N+100) aT ?_ ?_ ?_ ?_ ?_) ?_
 ·omega
 ·simp
 ·simp[bK]
 ·refine⟨⟨.box [.v (ti f),.v (ti t),.v (ti x)],by simp[Nat.add_assoc],.inl (by simp),by omega⟩,⟨.box [.v (ti f),.v (ti t),.v (ti x),.v (ti c),d],by simp[Nat.add_assoc],.inr ⟨rfl,λn hn=>?_⟩,by omega⟩,trivial⟩;refine same_low aT ?_ ?_ (Vx n (by simpa [aZ,bM,aN]using hn))
  ·simp;omega
  ·simp
 ·simp[hb,nb,Nat.add_assoc]
 have hko:eM mn true k:=by rw[<-hk];simp[keyOf]
 have H:∀(q1 q2 q3 q5:DV) (oc:Int) (fnd:Bool),fnd=(qP k es).isSome->(∀e,qP k es=some e->oc=Js e.2.2)->
   aa aj 43 ((DC.region false d48r3).seq (DC.cond (bQ.tmp 36) (DC.region true d48r4) DC.skip))
    (DK Pp ⟨True,.v (.eo []),ew f0 m (.map mn true (xb k c w9 es) (rC k c (.agg [.v (ti f),.v (ti t),.v (ti x),.v (ti c),d]) w9 es))⟩)
    ⟨DM.look [(0,.ptr b 0),(3,.ptr (N+4) 0),(4,.ptr (N+49) 0),(5,.ptr (N+106) 0),(6,.v (.bool fnd))],
     aM [(N+106,.box [q1,q2,q3,.v (ti oc),q5]),(N+106,.box [.v (ti 0),.v (ti 0),.v (ti 0),.v (ti 0),.aW]),(N+49,.box [.v (ti f),.v (ti t),.v (ti x)]),(N+4,.box [.v (ti f),.v (ti t),.v (ti x),.v (ti c),d])] f0,N+144,N,[]⟩:=by
  intro q1 q2 q3 q5 oc fnd hfnd hoc;have hbet:w8 k c es=(decide (c<1099511627776)&&(!fnd||decide (c<oc))):=by
   unfold w8;cases hf:qP k es with
   |none=>simp[hf]at hfnd;simp[hfnd]
   |some e=>simp[hf]at hfnd;simp[hfnd,hoc e hf]
  obtain⟨y,hy⟩:=bb (DV.agg [.v (ti f),.v (ti t),.v (ti x),.v (ti c),d]);have Fq:∀n∈aN y,f0 n≠none:=by
   intro n hn;refine Vx n ?_;rw[<-hy]at hn;simpa [aN,bM]using hn
  have pP:∀e∈es,aN e.2.2=[]:=λe he'=>by obtain⟨a,ha⟩:=he e he';rw[ha];rfl
  rw[hy];refine aa.to ⟨DM.look [],aM [(m,.map mn true (xb k c w9 es) (rC k c y w9 es))] f0,N+1000,N,[]⟩ ?_ (by simp[Pp];rfl);refine aa.cz aC fw [(0,.ptr b 0),(3,.ptr (N+4) 0),(4,.ptr (N+49) 0),(36,.v (.bool (w8 k c es)))] ?_ ?_
  ·by_cases s1:c<1099511627776<;>cases fnd<;>by_cases s2:c<oc<;>simp[d48r3,s1,s2,hbet]
  refine aa.cond rfl (λh=>?_) (λh=>?_)
  ·apply aa.fK aC fw [];simp[-eM,d48r4,Nat.add_assoc,nb,nm,hb,hm,wH,hko];refine Le.dV (l:=[]) aT ?_ ?_ ?_ ?_ ?_
   ·omega
   ·simp;omega
   ·simp[bK];omega
   ·refine⟨⟨.map mn true (xb k c w9 es) (rC k c y w9 es),by simp[xb,rC,h,hy],.inr ⟨rfl,λn hn=>?_⟩,λ_=>be _⟩,trivial⟩
    ·simp only[aZ,ZaV]at hn;obtain⟨e,he',hn⟩:=hn;rcases addE_val he' with h'|⟨e',h',h''⟩
     ·rw[h']at hn;obtain⟨o,ho⟩:=ZbP.1 (Fq n hn);have hlt:=(aT n o ho).1;by_cases hnm:n=m
      ·subst hnm;exact⟨.map mn true (xb k c w9 es) (rC k c y w9 es),.map mn true (xb k c w9 es) (rC k c y w9 es),by simp[xb,rC,h,hy],by simp,be _⟩
      ·refine⟨o,o, ?_, ?_,be o⟩
       ·simp[hnm,show n≠N+106 by omega,show n≠N+49 by omega,show n≠N+4 by omega,ho]
       ·simp[hnm,ho]
     ·rw[h'',pP e' h']at hn;cases hn
   ·simp
  ·refine aa.skip ⟨rfl,Le.dV (l:=[]) aT ?_ ?_ ?_ ?_ ?_⟩
   ·omega
   ·simp;omega
   ·simp[bK];omega
   ·refine⟨⟨.map mn true w9 es,by simp[nm,hm],.inr ⟨by simp[xb,rC,h],λn hn=>?_⟩,λ_=>by simp[jt]⟩,trivial⟩
    ·simp only[aZ,ZaV]at hn;obtain⟨e,he',hn⟩:=hn;rw[pP e he']at hn;cases hn
   ·simp
 apply aa.ag aC fw [0,3,4,5,6];cases hf:qP k es with
 |none=>
  simp[-eM,d48r2,Nat.add_assoc,nb,nm,hb,hm,wH,hko,hf];exact H _ _ _ _ 0 false (by simp[hf]) (by simp[hf])
 |some e=>
  obtain⟨a,ha⟩:=he e (Zb8 hf);simp[-eM,d48r2,Nat.add_assoc,nb,nm,hb,hm,wH,hko,hf,ha,cw.enc];exact H _ _ _ _ a.aH true (by simp[hf]) (by intro e' he';rw[hf]at he';cases he';simp[ha,cw.enc,Js])
end
section
variable{al:List cw}{f0:bq}
def Mv(ts:aK):Prop:=∃l:List (Int×Int),ts=[.sl (ia l)]/\l.length<=1000000
def fn49:aK->List (aK)
 |[.sl av]=>av
 |_=>[]
abbrev Γ4:pI:=bu [(75,eS k48),(76,yj Mv fn49 117 2)]
def ok4:ay aj Γ4:=by
 refine ay.gS (ay.Yp ay.nil ?_) ?_
 ·rintro ts ⟨l,rfl,h⟩;exact t49 l h
 ·intro args ab h;unfold k48 at h⊢;split at h
  ·rename_i b f t x c d aI;split at h
   ·rename_i c1 c2 c3 m hb;split at h
    ·rename_i cj agg w9 es hm;obtain⟨rfl,rfl,he,hd,Vx⟩:=h;refine⟨λN hN=>?_,λr hr=>?_⟩
     ·exact aR.of (t48 hN hb hm he hd Vx) (by simp[]) (by simp[])
     ·simp only[];exact vq hm hr
    ·exact h.elim
   ·exact h.elim
  ·exact h.elim
def Pu{a b:bq}{k:T}{c:Int}{y y':DV}{w9:Nat}{es:List (Nat×T×DV)}(hy:iL a b id y y')(he:Mu es):jF a b id (rC k c y w9 es) (rC k c y' w9 es):=by
 have self:∀{l:List (Nat×T×DV)},Mu l->jF a b id l l:=λ{l} hl=>ph λe h=>by obtain⟨x,hx⟩:=hl e h;rw[hx];simp
 unfold rC;split
 ·rename_i hbt;clear hbt;unfold HJ;split
  ·rename_i i hi;clear hi;induction es generalizing i with
   |nil=>simp[jF]
   |cons e es ih=>
    cases i with
    |zero=>simp only[Zco,jF];exact⟨trivial,trivial,hy,self λe' h=>he e' (by simp[h])⟩
    |succ i=>
     simp only[Zb4,jF];obtain⟨x,hx⟩:=he e (by simp);exact⟨trivial,trivial,by rw[hx];simp,ih (λe' h=>he e' (by simp[h])) i⟩
  ·rename_i hn;clear hn;induction es with
   |nil=>simp only[ZaG,jF];exact⟨trivial,trivial,hy,trivial⟩
   |cons e es ih=>
    simp only[ZaM,jF];obtain⟨x,hx⟩:=he e (by simp);exact⟨trivial,trivial,by rw[hx];simp,ih λe' h=>he e' (by simp[h])⟩
 ·exact self he
def ga(al:List cw):Mu (entries al):=Wd al
def Ha{a b:bq}{c:cw}{d:DV}(hd:iL a b id d (.v (.sl (ia c.ops)))):
  eA a b (.map mn true (xb c.key c.aH al.length (entries al)) (rC c.key c.aH (.agg [.v (ti c.f),.v (ti c.t),.v (ti c.term),.v (ti c.aH),d]) al.length (entries al))) (cL (wv al c)):=by
 obtain⟨h1,h2⟩:=Jt c al;refine .inl ?_;unfold cL;rw[<-h1,<-h2];simp only[nS];refine⟨trivial,trivial,trivial,Pu ?_ (ga al)⟩;simp[cw.enc,hd]
def AL(l:List (Int×Int))(a b:Int):ia l++[[ti a,ti b]]=ia (l++[(a,b)]):=by simp[ia]
def Pv{N m r r2 aJ ba v:Nat}{tm:dw}{l:fA}{o2:Ob}(c:cw){av:List (aK)}(aT:dh f0 N)(hm:m<N)(hr:N<=r)(xV:N<=r2)(hn:N<=ba)(eF:av=ia c.ops)
  (ik:fR (aM [(m,.map mn true (xb c.key c.aH al.length (entries al)) (rC c.key c.aH (.agg [.v (ti c.f),.v (ti c.t),.v (ti c.term),.v (ti c.aH),.bA r v]) al.length (entries al))),(r,.arr v 117 2 av),(r2,o2),(m,.map mn true al.length (entries al))] f0) (aM [(m,cL (wv al c))] f0) id tm l):
  Le ⟨tm,ew (aM [(r,.arr v 117 2 av),(r2,o2),(m,.map mn true al.length (entries al))] f0) m (.map mn true (xb c.key c.aH al.length (entries al)) (rC c.key c.aH (.agg [.v (ti c.f),.v (ti c.t),.v (ti c.term),.v (ti c.aH),.bA r v]) al.length (entries al))),aJ,N,[]⟩
   ⟨DM.look l,aM [(m,cL (wv al c))] f0,ba,N,[]⟩:=by
 subst eF;rw[jT];refine Le.dV aT hn ?_ ?_ ?_ ik
 ·simp;omega
 ·simp[bK];omega
 ·refine⟨⟨_,by simp,Ha (d:=.bA r v) ?_,λ_=>by simp[jt,cL]⟩,trivial⟩;simp[show r≠m by omega];exact bL aT hr (by simp;omega)
def Wf(al:List cw):aZ (cL al)=[]:=by
 simp only[cL,aZ,List.flatMap_eq_nil_iff];intro e he;obtain⟨a,ha⟩:=ga al e he;rw[ha];rfl
def rE{a b:bq}(al:List cw):eA a b (cL al) (cL al):=.inr ⟨rfl,λn hn=>by rw[Wf]at hn;cases hn⟩
def cI(al:List cw)(cs:List cw):List cw:=cs.foldl wv al
def ib(al cs ds:List cw):cI al (cs++ds)=cI (cI al cs) ds:=by simp[cI]
def mf(read:bO)(i m aH:Int)(ops:List (Int×Int))(n:Nat):List cw:=
 (List.range n).flatMap λt=>if 0<=read.getD t 0 then [⟨2*i,2*m+2,t,aH+read.getD t 0,ops++[(1,(t:Int))]⟩]else []
def Pw(read:bO)(i m aH:Int)(ops:List (Int×Int))(n:Nat):mf read i m aH ops (n+1)=mf read i m aH ops n++(if 0<=read.getD n 0 then [⟨2*i,2*m+2,n,aH+read.getD n 0,ops++[(1,(n:Int))]⟩]else []):=by
 simp[mf,ZaR]
def UO(c:cK):Prop:=c.read.length<=1000000/\∀p∈c.read,p<=1099511627776
def t47{b m:Nat}{x:Input}{i j:Nat}{aH:Int}{ops:List (Int×Int)}{N:Nat}(hN:∀r,N<=r->f0 r=none)(hb:f0 b=some (.box (df x m)))(hm:f0 m=some (cL al))
  (hi:i<=1000000) (hj:j<x.aw.length) (hl:x.aw.length<=1000000) (hc:UO (x.aw.getD j default)) (uG:0<=aH/\aH<=1099511627776) (hops:ops.length<=1000000):
  aR aj 74 [.ptr b 0,.v (ti i),.v (ti j),.v (ti aH),.v (.sl (ia ops))] f0 ⟨True,.v (.eo []),ew f0 m (cL (cI al (mf (x.aw.getD j default).read i j aH ops (x.aw.getD j default).read.length)))⟩:=by
 have aC:=ok4;refine c47.pQ hN (by simp) λaT=>?_;have UN:b<N:=(aT b _ hb).1;have BS:m<N:=(aT m _ hm).1;have AK:b≠m:=λe=>by rw[e,hm]at hb;cases hb
 have nb:∀k,b≠N+k:=λk=>by omega
 have nm:∀k,m≠N+k:=λk=>by omega
 have hrow:=jJ hj;obtain⟨col,hcol⟩:=bb (x.aw.getD j default);rw[hcol]at hrow hc⊢;obtain⟨kd,read,del⟩:=col;simp only at hc⊢;obtain⟨bU,gI⟩:=hc;simp only at bU gI;have eF:∀r∈ia ops,r.length=2:=by intro r hr;simp only[ia,Zak]at hr;obtain⟨c,_,rfl⟩:=hr;rfl
 simp;apply aa.ag aC fw [0,1,2,3,4,20,21,22];simp[d47r0,hb,df,hj,hrow,cK.enc];refine aa.to ⟨DM.look [],aM [(m,cL (cI al (mf read i j aH ops read.length)))] f0,N+1000,N,[]⟩ ?_ (by simp[d47res];rfl);apply aa.block;refine aa.loop (λy:Nat=>⟨DM.look [(0,.ptr b 0),(1,.v (ti i)),(2,.v (ti j)),(3,.v (ti aH)),(4,.v (.sl (ia ops))),(20,.v (.sl (aG read))),(21,.v (ti read.length)),(22,.v (ti y))],aM [(m,cL (cI al (mf read i j aH ops y)))] f0,N+200,N,[]⟩)
  (λy=>y<=read.length) (λy=>read.length-y) 0 (Le.dV aT ?_ ?_ ?_ ?_ ?_) (by simp) (λy hy=>?_)
 ·omega
 ·simp;omega
 ·simp[bK]
 ·exact⟨⟨cL al,by simp[hm],by simpa [mf,cI]using rE al,λ_=>trivial⟩,trivial⟩
 ·simp[hb,AK]
 apply aa.ag aC fw [0,1,2,3,4,20,21,22,23];simp[d47r1];apply aa.seq;refine aa.cond rfl (λcR=>?_) (λcR=>?_)
 ·simp at cR;apply aa.skip;simp;apply aa.seq;apply aa.block;have xV:=cE cR;obtain⟨p,hp⟩:=bb (read.getD y default);have hp0:read.getD y 0=p:=hp;have hpm:p<=1099511627776:=gI p (by rw[<-hp];simp[List.getD,cR]);rw[hp]at xV;apply aa.ag aC fw [0,1,2,3,4,10,11,20,21,22];simp[d47r2,xV,cR];apply aa.ag aC fw [0,1,2,3,4,10,11,20,21,22,28];simp[d47r3];have nU:=Pw read i j aH ops y;rw[hp0]at nU;obtain⟨aly,Wg⟩:=bb (cI al (mf read i j aH ops y));rw[Wg];refine aa.to ⟨DM.look [(0,.ptr b 0),(1,.v (ti i)),(2,.v (ti j)),(3,.v (ti aH)),(4,.v (.sl (ia ops))),(20,.v (.sl (aG read))),(21,.v (ti read.length)),(22,.v (ti y))],aM [(m,cL (cI al (mf read i j aH ops (y+1))))] f0,N+1000,N,[]⟩ ?_ ?_
  ·refine aa.cond rfl (λhd=>?_) (λhd=>?_)
   ·simp at hd;refine aa.pe aC fw (rs:=Po) (.inr ⟨_,rfl⟩) (by kernel_rfl) [0,1,2,3,4,20,21,22] ?_;have w1:IntKind.i64.wrap (2*(i:Int))=2*i:=aF (by omega);have w2:IntKind.i64.wrap (2*(j:Int))=2*j:=aF (by omega);have w3:IntKind.i64.wrap (2*(j:Int)+2)=2*j+2:=aF (by omega);have w4:IntKind.i64.wrap (aH+p)=aH+p:=aF (by omega);simp[Po,w1,w2,w3,w4,fn49,Mv,fU,dK,k48,hb,df,AK,cL,ga,Nat.add_assoc,nb,nm];refine⟨⟨ops,rfl,hops⟩,by omega,λn hn=>?_, ?_⟩
    ·simp only[aN,Zan]at hn;subst hn;simp
    ·have e:cI al (mf read i j aH ops (y+1))=wv aly ⟨2*i,2*j+2,y,aH+p,ops++[(1,(y:Int))]⟩:=by
      rw[nU,Zai hd,ib,Wg];rfl
     rw[e];refine Pv ⟨2*i,2*j+2,y,aH+p,ops++[(1,(y:Int))]⟩ aT BS ?_ ?_ ?_ (AL _ _ _) ?_
     ·omega
     ·omega
     ·omega
     ·simp[hb,AK]
   ·simp at hd;have e:cI al (mf read i j aH ops (y+1))=aly:=by
     rw[nU,Zab (by omega),ZaC,Wg]
    rw[e];refine aa.skip ⟨rfl,Le.dV aT ?_ ?_ ?_ ?_ ?_⟩
    ·omega
    ·simp;omega
    ·simp[bK]
    ·exact⟨⟨cL aly,by simp[cL],rE _,λ_=>be _⟩,trivial⟩
    ·simp[hb,AK]
  ·apply aa.fK aC fw [0,1,2,3,4,20,21,22];simp[d47r5];rw[aF (by omega)];refine⟨y+1,Le.dV aT ?_ ?_ ?_ ?_ ?_,by omega,by omega⟩
   ·omega
   ·simp;omega
   ·simp[bK]
   ·exact⟨⟨_,by simp,rE _,λ_=>be _⟩,trivial⟩
   ·simp[hb,AK]
 ·simp at cR;have:y=read.length:=by omega
  subst this;apply aa.exit;refine⟨rfl, ?_⟩;refine Le.dV (l:=[]) aT ?_ ?_ ?_ ?_ ?_
  ·omega
  ·simp;omega
  ·simp[bK]
  ·exact⟨⟨_,by simp,rE _,λ_=>be _⟩,trivial⟩
  ·simp
end
section
variable{ab:bq}{al:List cw}
def gr(ab:bq)(b:Nat):Input×Nat:=
 match ab b with
 |some (.box [.v (.sl c),.v (.sl i),.v (.int .i64 s),.iE m])=>(⟨CO c,lS i,s⟩,m)
 |_=>(⟨[],[],0⟩,0)
def CP{b m:Nat}{x:Input}(h:ab b=some (.box (df x m))):gr ab b=(x,m):=by
 simp[gr,h,df]
def AM(ab:bq)(m:Nat):List cw:=
 match ab m with
 |some (.map _ _ _ es)=>es.map λe=>match e.2.2 with|.v (.agg r)=>wZ r|_=>default
 |_=>[]
def Hb{m:Nat}(h:ab m=some (cL al)):AM ab m=al:=by
 simp only[AM,h,cL,entries,Zc4];rw[show(List.map ((λe=>match e.2.2 with|DV.v (T.agg r)=>wZ r|_=>default)∘λp=>(p.2,p.1.key,DV.v (T.agg p.1.enc))) al.zipIdx)=al.zipIdx.map Prod.fst from Zbq λp _=>by simp];simp
def k31:bB->bq->fI
 |[.ptr b 0,.v (.int .i64 i),.v (.int .i64 j)],ab=>⟨ab b=some (.box (df (gr ab b).1 (gr ab b).2))/\0<=i/\i<=j/\j<=(gr ab b).1.aw.length/\tj (gr ab b).1.aw,
   .v (.eo [ti (gV (((gr ab b).1.aw.take j.toNat).drop i.toNat) 0),.sl (ia (gz (j.toNat-i.toNat)))]),ab⟩
 |_,ab=>⟨False,.undef,ab⟩
def AN{b m:Nat}{x:Input}{i j:Nat}(h:ab b=some (.box (df x m))):
  k31 [.ptr b 0,.v (ti i),.v (ti j)] ab=⟨i<=j/\j<=x.aw.length/\tj x.aw,.v (.eo [ti (gV ((x.aw.take j).drop i) 0),.sl (ia (gz (j-i)))]),ab⟩:=by
 simp only[k31,CP h,h,Zag,true_and,Int.ofNat_le,ZcB];try omega
def k50:bB->bq->fI
 |[.ptr b 0,.v (.int .i64 i)],ab=>⟨ab b=some (.box (df (gr ab b).1 (gr ab b).2))/\0<=i/\i<=1000000/\(gr ab b).1.aw.length<=1000000,.v (.bool (dc (gr ab b).1 i.toNat)),ab⟩
 |_,ab=>⟨False,.undef,ab⟩
def k50_eq{b m:Nat}{x:Input}{i:Nat}(h:ab b=some (.box (df x m))):
  k50 [.ptr b 0,.v (ti i)] ab=⟨i<=1000000/\x.aw.length<=1000000,.v (.bool (dc x i)),ab⟩:=by
 simp only[k50,CP h,h,Zag,fI.mk.injEq,and_self,and_true,true_and,eq_iff_iff,ZcB];try omega
def k47:bB->bq->fI
 |[.ptr b 0,.v (.int .i64 i),.v (.int .i64 j),.v (.int .i64 aH),.v (.sl ops)],ab=>
  ⟨ab b=some (.box (df (gr ab b).1 (gr ab b).2))/\ab (gr ab b).2=some (cL (AM ab (gr ab b).2))/\ops=ia (AG ops)/\0<=i/\i<=1000000/\0<=j/\j<(gr ab b).1.aw.length/\(gr ab b).1.aw.length<=1000000/\UO ((gr ab b).1.aw.getD j.toNat default)/\0<=aH/\aH<=1099511627776/\(AG ops).length<=1000000,.v (.eo []),
   ew ab (gr ab b).2 (cL (cI (AM ab (gr ab b).2) (mf ((gr ab b).1.aw.getD j.toNat default).read i.toNat j.toNat aH (AG ops) ((gr ab b).1.aw.getD j.toNat default).read.length)))⟩
 |_,ab=>⟨False,.undef,ab⟩
def k47_eq{b m:Nat}{x:Input}{i j:Nat}{aH:Int}{ops:List (Int×Int)}(h:ab b=some (.box (df x m)))(hm:ab m=some (cL al)):
  k47 [.ptr b 0,.v (ti i),.v (ti j),.v (ti aH),.v (.sl (ia ops))] ab=⟨i<=1000000/\j<x.aw.length/\x.aw.length<=1000000/\UO (x.aw.getD j default)/\0<=aH/\aH<=1099511627776/\ops.length<=1000000,.v (.eo []),
   ew ab m (cL (cI al (mf (x.aw.getD j default).read i j aH ops (x.aw.getD j default).read.length)))⟩:=by
 simp only[k47,CP h,h,Hb hm,hm,Zag,Pr,true_and,Int.ofNat_lt,ZcB,show((i:Int)<=1000000)=(i<=1000000)from propext ⟨λh=>by omega,λh=>by omega⟩]
abbrev Γ5:pI:=bu [(75,eS k48),(74,eS k47),(48,eS k31),(77,eS k50),(76,yj Mv fn49 117 2)]
def ok5:ay aj Γ5:=by
 refine ay.gS (ay.gS (ay.gS (ay.gS (ay.Yp ay.nil ?_) ?_) ?_) ?_) ?_
 ·rintro ts ⟨l,rfl,h⟩;exact t49 l h
 ·intro args ab h;unfold k50 at h⊢;split at h
  ·rename_i aI b i;obtain⟨hb,h1,h2,h3⟩:=h;obtain⟨i,rfl⟩:=Zae h1;refine⟨λN hN=>?_,λr hr=>hr⟩;exact aR.of (t50 hN hb (by omega) h3) (by simp) (by simp)
  ·exact h.elim
 ·intro args ab h;unfold k31 at h⊢;split at h
  ·rename_i aI b i j;obtain⟨hb,h1,h2,h3,h4⟩:=h;obtain⟨i,rfl⟩:=Zae h1;obtain⟨j,rfl⟩:=Zae (show 0<=j by omega);refine⟨λN hN=>?_,λr hr=>hr⟩;exact aR.of (t31 hN hb (by omega) (by omega) h4) (by simp) (by simp)
  ·exact h.elim
 ·intro args ab h;unfold k47 at h⊢;split at h
  ·rename_i aI b i j aH ops;obtain⟨hb,hm,ho,h1,h2,h3,h4,h5,h6,h7,h8,h9⟩:=h;obtain⟨i,rfl⟩:=Zae h1;obtain⟨j,rfl⟩:=Zae h3;refine⟨λN hN=>?_,λr hr=>vq hm hr⟩;rw[ho];exact aR.of (t47 hN hb hm (by omega) (by omega) h5 h6 ⟨h7,h8⟩ h9) (by simp) (by simp)
  ·exact h.elim
 ·intro args ab h;exact(ok4 75 (eS k48) rfl).st k48 rfl args ab h
end
section
variable{f0:bq}{al:List cw}
def og(x:Input)(i m:Nat):Int:=gV ((x.aw.take m).drop i) 0
def tZ(b7:bO)(i m aH:Int)(ops:List (Int×Int))(n:Nat):List cw:=
 (List.range n).map λ(t:Nat)=>⟨2*i,2*m,(t:Int),aH+b7.getD t 0,ops++[(3,(t:Int))]⟩
def Wh(b7:bO)(i m aH:Int)(ops:List (Int×Int))(n:Nat):tZ b7 i m aH ops (n+1)=tZ b7 i m aH ops n++[⟨2*i,2*m,n,aH+b7.getD n 0,ops++[(3,(n:Int))]⟩]:=by
 simp[tZ,ZaR]
def Bg(x:Input)(i m:Nat):List cw:=mf (x.aw.getD m default).read i m (og x i m) (gz (m-i)) (x.aw.getD m default).read.length
def th(x:Input)(i m:Nat):List cw:=
 (if i<m then Bg x i (m-1)else [])++(tZ x.insert i m (og x i m) (gz (m-i)) x.insert.length++
  (if dc x m then [⟨2*i,2*m+1,(x.aw.getD (m+1) default).kind,og x i m+x.swap,gz (m-i)++[(4,0)]⟩]else []))
def zf(x:Input)(i m:Nat):List cw:=(List.range (m-i)).flatMap λe=>th x i (i+e)
def t6(x:Input)(i:Nat):List cw:=zf x i (x.aw.length+1)++(if dc x i then [⟨2*i+1,2*i+4,(x.aw.getD i default).kind,0,[]⟩]else [])
def Px(x:Input){i m:Nat}(h:i<=m):zf x i (m+1)=zf x i m++th x i m:=by
 unfold zf;rw[show m+1-i=(m-i)+1 by omega,ZaR,Zcv];simp[show i+(m-i)=m by omega]
def OI(x:Input):Prop:=tj x.aw/\(∀c∈x.aw,UO c)/\x.insert.length<=1000000/\(∀p∈x.insert,0<=p/\p<=1099511627776)/\0<=x.swap/\x.swap<=1099511627776
def g0{x:Input}(h:tj x.aw)(i m:Nat):0<=og x i m/\og x i m<=1099511627776:=
 wn (λc hc=>(h.2 c (ZaE (ZbW hc))).1) 0 (by omega)
def sQ{N m aJ ba:Nat}{tm:dw}{l:fA}{L:cV}(aT:dh f0 N)(hm:m<N)(hn:N<=ba)(hL:∀p∈L,p.1=m\/N<=p.1)(ho:aM L f0 m=some (cL al))
  (ik:fR (aM L f0) (aM [(m,cL al)] f0) id tm l):
  Le ⟨tm,aM L f0,aJ,N,[]⟩ ⟨DM.look l,aM [(m,cL al)] f0,ba,N,[]⟩:=by
 refine Le.dV aT hn ?_ ?_ ?_ ik
 ·simp;omega
 ·induction L with
  |nil=>trivial
  |cons p L ih=>
   have:∀(L:cV),(∀p∈L,p.1=m\/N<=p.1)->bK N [(m,cL al)] L:=by
    intro L;induction L with
    |nil=>intro _;trivial
    |cons q L ih=>
     intro h;refine⟨λhq=>?_,ih λp hp=>h p (by simp[hp])⟩;rcases h q (by simp)with h|h
     ·exact⟨cL al,by simp[h]⟩
     ·omega
   exact this _ hL
 ·exact⟨⟨cL al,ho,rE al,λ_=>be _⟩,trivial⟩
def t30{b m:Nat}{x:Input}{i:Nat}{N:Nat}(hN:∀r,N<=r->f0 r=none)(hb:f0 b=some (.box (df x m)))(hm:f0 m=some (cL al))
  (hi:i<=x.aw.length) (hx:OI x):
  aR aj 47 [.ptr b 0,.v (ti i)] f0 ⟨True,.v (.eo []),ew f0 m (cL (cI al (t6 x i)))⟩:=by
 have aC:=ok5;refine c30.pQ hN (by simp) λaT=>?_;have UN:b<N:=(aT b _ hb).1;have BS:m<N:=(aT m _ hm).1;have AK:b≠m:=λe=>by rw[e,hm]at hb;cases hb
 have nb:∀k,b≠N+k:=λk=>by omega
 have nm:∀k,m≠N+k:=λk=>by omega
 obtain⟨hd,oj,hins,hinp,hsw0,Nx⟩:=hx;have hl:=hd.1;simp;apply aa.ag aC fw [0,1,4];simp[d30r0,hb,df];apply aa.seq;apply aa.ag aC fw [0,1,4,5];simp[d30r1];refine aa.to ⟨DM.look [(0,.ptr b 0),(1,.v (ti i))],aM [(m,cL (cI al (zf x i (x.aw.length+1))))] f0,N+1000,N,[]⟩ ?_ ?_
 ·apply aa.block;refine aa.loop (λy:Nat=>⟨DM.look [(0,.ptr b 0),(1,.v (ti i)),(4,.v (ti x.aw.length)),(5,.v (ti y))],aM [(m,cL (cI al (zf x i y)))] f0,N+1000,N,[]⟩)
   (λy=>i<=y/\y<=x.aw.length+1) (λy=>x.aw.length+1-y) i (Le.dV aT ?_ ?_ ?_ ?_ ?_) (by omega) (λy hy=>?_)
  ·omega
  ·simp;omega
  ·simp[bK]
  ·exact⟨⟨cL al,by simp[hm],by simpa [zf,cI]using rE al,λ_=>trivial⟩,trivial⟩
  ·simp[hb,AK]
  obtain⟨lq,fJ⟩:=hy;apply aa.seq;apply aa.ag aC fw [0,1,4,5,21];simp[d30r2];refine aa.cond rfl (λcR=>?_) (λcR=>?_)
  ·simp at cR;apply aa.skip;simp;obtain⟨aH,uG⟩:=bb (og x i y);have zO:0<=aH/\aH<=1099511627776:=by rw[<-uG];exact g0 hd i y
   have hcost':gV ((x.aw.take y).drop i) 0=aH:=uG;obtain⟨aly,Wg⟩:=bb (cI al (zf x i y));rw[Wg];apply aa.seq;refine aa.to ⟨DM.look [(0,.ptr b 0),(1,.v (ti i)),(4,.v (ti x.aw.length)),(5,.v (ti y))],aM [(m,cL (cI aly (th x i y)))] f0,N+1000,N,[]⟩ ?_ ?_
   ·apply aa.block;apply aa.seq;refine aa.pe aC fw (rs:=Pk) (.inr ⟨_,rfl⟩) (by kernel_rfl) [0,1,4,5,6,7] ?_;simp[Pk,AN (x:=x) (m:=m),hb,AK,lq,cR,hd,hcost'];apply aa.seq;obtain⟨al1,hal1⟩:=bb (cI aly (if i<y then Bg x i (y-1)else []));refine aa.to ⟨DM.look [(0,.ptr b 0),(1,.v (ti i)),(4,.v (ti x.aw.length)),(5,.v (ti y)),(6,.v (ti aH)),(7,.v (.sl (ia (gz (y-i)))))],aM [(m,cL al1)] f0,N+1000,N,[]⟩ ?_ ?_
    ·apply aa.ag aC fw [0,1,4,5,6,7,33];simp[d30r4];refine aa.cond rfl (λh=>?_) (λh=>?_)
     ·simp at h;obtain⟨q,hq⟩:∃q,y=q+1:=⟨y-1,by omega⟩;have hwq:IntKind.i64.wrap ((y:Int)-1)=(q:Int):=by rw[aF (by omega)];omega
      have hiq:i<=q:=by omega
      have hql:q<=x.aw.length:=by omega
      have hql2:q<x.aw.length:=by omega
      obtain⟨c2,gI⟩:=bb (og x i q);have hc2b:0<=c2/\c2<=1099511627776:=by rw[<-gI];exact g0 hd i q
      have hc2':gV ((x.aw.take q).drop i) 0=c2:=gI;refine aa.seq (aa.pe aC fw (rs:=Pm) (.inr ⟨_,rfl⟩) (by kernel_rfl) [0,1,4,5,6,7,8,9] ?_);simp[Pm,AN (x:=x) (m:=m),hb,AK,hwq,hiq,hql,hd,hc2'];refine aa.pe aC fw (rs:=Pn) (.inr ⟨_,rfl⟩) (by kernel_rfl) [0,1,4,5,6,7] ?_;simp[Pn,k47_eq (x:=x) (m:=m) (al:=aly),hb,AK,hwq];refine⟨⟨by omega,hql2,hl, ?_,hc2b.1,hc2b.2,by simp[gz];omega⟩, ?_⟩
      ·rw[Zas hql2];exact oj _ (Zbe hql2)
      ·rw[jT];have e:cI aly (mf (x.aw[q]?.getD default).read i q c2 (gz (q-i)) (x.aw[q]?.getD default).read.length)=al1:=by
        rw[<-hal1,Zai h];simp[Bg,show y-1=q by omega,gI]
       rw[e];exact sQ aT BS (by omega) (by simp) (by simp) (by simp[hb,AK])
     ·simp at h;have e:aly=al1:=by rw[<-hal1,Zab (by omega)];rfl
      rw[e];exact aa.skip ⟨rfl,sQ aT BS (by omega) (by simp) (by simp) (by simp[hb,AK])⟩
    apply aa.seq;obtain⟨al2,hal2⟩:=bb (cI al1 (tZ x.insert i y aH (gz (y-i)) x.insert.length));refine aa.to ⟨DM.look [(0,.ptr b 0),(1,.v (ti i)),(4,.v (ti x.aw.length)),(5,.v (ti y)),(6,.v (ti aH)),(7,.v (.sl (ia (gz (y-i)))))],aM [(m,cL al2)] f0,N+1000,N,[]⟩ ?_ ?_
    ·apply aa.ag aC fw [0,1,4,5,6,7,53,54,55];simp[d30r7,hb,AK,df];apply aa.block;refine aa.loop (λz:Nat=>⟨DM.look [(0,.ptr b 0),(1,.v (ti i)),(4,.v (ti x.aw.length)),(5,.v (ti y)),(6,.v (ti aH)),(7,.v (.sl (ia (gz (y-i))))),(53,.v (.sl (aG x.insert))),(54,.v (ti x.insert.length)),(55,.v (ti z))],aM [(m,cL (cI al1 (tZ x.insert i y aH (gz (y-i)) z)))] f0,N+1000,N,[]⟩)
      (λz=>z<=x.insert.length) (λz=>x.insert.length-z) 0 ?_ (by omega) (λz hz=>?_)
     ·exact sQ aT BS (by omega) (by simp) (by simp[tZ,cI]) (by simp[hb,AK])
     apply aa.ag aC fw [0,1,4,5,6,7,53,54,55,56];simp[d30r8];apply aa.seq;refine aa.cond rfl (λh=>?_) (λh=>?_)
     ·simp at h;apply aa.skip;simp;apply aa.seq;apply aa.block;obtain⟨p,hp⟩:=bb (x.insert.getD z default);have hr:=cE h;have hpb:=hinp p (by rw[<-hp];simp[List.getD,h]);have hp0:x.insert.getD z 0=p:=hp;have nU:=Wh x.insert i y aH (gz (y-i)) z;rw[hp0]at nU;rw[hp]at hr;apply aa.ag aC fw [0,1,4,5,6,7,10,11,53,54,55];simp[d30r9,hr,h];obtain⟨alz,halz⟩:=bb (cI al1 (tZ x.insert i y aH (gz (y-i)) z));rw[halz];refine aa.to ⟨DM.look [(0,.ptr b 0),(1,.v (ti i)),(4,.v (ti x.aw.length)),(5,.v (ti y)),(6,.v (ti aH)),(7,.v (.sl (ia (gz (y-i))))),(53,.v (.sl (aG x.insert))),(54,.v (ti x.insert.length)),(55,.v (ti z))],aM [(m,cL (cI al1 (tZ x.insert i y aH (gz (y-i)) (z+1))))] f0,N+1000,N,[]⟩ ?_ ?_
      ·refine aa.pe aC fw (rs:=Jm) (.inr ⟨_,rfl⟩) (by kernel_rfl) [0,1,4,5,6,7,53,54,55] ?_;have w1:IntKind.i64.wrap (2*(i:Int))=2*i:=aF (by omega);have w2:IntKind.i64.wrap (2*(y:Int))=2*y:=aF (by omega);have w4:IntKind.i64.wrap (aH+p)=aH+p:=aF (by omega);have fl:(gz (y-i)).length=y-i:=by simp[gz]
       simp[Jm,w1,w2,w4,fn49,Mv,fU,dK,k48,hb,df,AK,cL,ga,Nat.add_assoc,nb,nm];refine⟨⟨_,rfl,by omega⟩,by omega,λn hn=>?_, ?_⟩
       ·simp only[aN,Zan]at hn;subst hn;simp
       ·have e:cI al1 (tZ x.insert i y aH (gz (y-i)) (z+1))=wv alz ⟨2*i,2*y,z,aH+p,gz (y-i)++[(3,(z:Int))]⟩:=by
         rw[nU,ib,halz];rfl
        rw[e];refine Pv ⟨2*i,2*y,z,aH+p,gz (y-i)++[(3,(z:Int))]⟩ aT BS ?_ ?_ ?_ (AL _ _ _) ?_
        ·omega
        ·omega
        ·omega
        ·simp[hb,AK]
      ·apply aa.fK aC fw [0,1,4,5,6,7,53,54,55];simp[d30r11];rw[aF (by omega)];exact⟨z+1,sQ aT BS (by omega) (by simp) (by simp) (by simp[hb,AK]),by omega,by omega⟩
     ·simp at h;have:z=x.insert.length:=by omega
      subst this;refine aa.exit ⟨rfl, ?_⟩;rw[hal2];exact sQ aT BS (by omega) (by simp) (by simp) (by simp[hb,AK])
    refine aa.jR aC fw (rs:=Jn) (.inr ⟨_,rfl⟩) (by kernel_rfl) [0,1,4,5,6,7,80] ?_;simp[Jn,k50_eq (x:=x) (m:=m),hb,AK];refine⟨⟨by omega,hl⟩, ?_⟩;have QT:cI aly (th x i y)=cI al2 (if dc x y then [⟨2*i,2*y+1,(x.aw.getD (y+1) default).kind,aH+x.swap,gz (y-i)++[(4,0)]⟩]else []):=by
     rw[<-hal2,<-hal1,<-ib,<-ib];simp[th,uG]
    refine aa.cond rfl (λh=>?_) (λh=>?_)
    ·rw[QT,Zai h];have hsw2:y+1<x.aw.length:=by simp[dc]at h;exact h.1
     have hr:DM.rowAt (cY x.aw) ((y:Int)+1)=_:=jJ hsw2;obtain⟨c2,gI⟩:=bb (x.aw.getD (y+1) default);rw[gI]at hr⊢;have w0:IntKind.i64.wrap ((y:Int)+1)=y+1:=aF (by omega);have w1:IntKind.i64.wrap (2*(i:Int))=2*i:=aF (by omega);have w2:IntKind.i64.wrap (2*(y:Int))=2*y:=aF (by omega);have w3:IntKind.i64.wrap (2*(y:Int)+1)=2*y+1:=aF (by omega);have w4:IntKind.i64.wrap (aH+x.swap)=aH+x.swap:=aF (by omega);have fl:(gz (y-i)).length=y-i:=by simp[gz]
     have hlt1:((y:Int)+1<x.aw.length)=True:=by simp;omega
     have hlt2:(0<=(y:Int)+1)=True:=by simp;omega
     refine aa.pe aC fw (rs:=c5 (K1 b N) (eR Jo [none,none,none,none,none,none,none,none,none,none,some [0],none,none,some [],none,some [],none,none,none,none,none,some [0],none,none,some [],none,none,some [1239]])) (.inl rfl) (by rw[dX (VX UN)];kernel_rfl) [0,1,4,5] ?_;simp[c5,fk,eR,cP,bG,aN,bM,K1,Jo,w0,w1,w2,w3,w4,hr,hlt1,hlt2,cK.enc,fn49,Mv,fU,dK,k48,hb,df,AK,cL,ga,Nat.add_assoc,nb,nm];refine⟨⟨_,rfl,by omega⟩,by omega, ?_⟩;refine Pv ⟨2*i,2*y+1,c2.kind,aH+x.swap,gz (y-i)++[(4,0)]⟩ aT BS ?_ ?_ ?_ (AL _ _ _) ?_
     ·omega
     ·omega
     ·omega
     ·simp[hb,AK]
    ·rw[QT,Zab (by simp[h])];exact aa.skip ⟨rfl,sQ aT BS (by omega) (by simp) (by simp[cI]) (by simp[hb,AK])⟩
   ·apply aa.fK aC fw [0,1,4,5];simp[d30r14];rw[aF (by omega)];refine⟨y+1,sQ aT BS (by omega) (by simp) (by simp;rw[Px x lq,ib,Wg]) (by simp[hb,AK]),⟨by omega,by omega⟩,by omega⟩
  ·simp at cR;have:y=x.aw.length+1:=by omega
   subst this;refine aa.exit ⟨rfl, ?_⟩;exact sQ aT BS (by omega) (by simp) (by simp) (by simp[hb,AK])
 ·obtain⟨al3,hal3⟩:=bb (cI al (zf x i (x.aw.length+1)));have QT:cI al (t6 x i)=cI al3 (if dc x i then [⟨2*i+1,2*i+4,(x.aw.getD i default).kind,0,[]⟩]else []):=by
   rw[<-hal3,<-ib];rfl
  rw[hal3];refine aa.jR aC fw (rs:=Jp) (.inr ⟨_,rfl⟩) (by kernel_rfl) [0,1,113] ?_;simp[Jp,k50_eq (x:=x) (m:=m),hb,AK];refine⟨⟨by omega,hl⟩, ?_⟩;refine aa.to ⟨DM.look [],aM [(m,cL (cI al (t6 x i)))] f0,N+1000,N,[]⟩ ?_ (by simp[d30res];rfl);refine aa.cond rfl (λh=>?_) (λh=>?_)
  ·rw[QT,Zai h];have hsw2:i<x.aw.length:=by simp[dc]at h;omega
   have hr:=jJ hsw2;obtain⟨c2,gI⟩:=bb (x.aw.getD i default);rw[gI]at hr⊢;have w1:IntKind.i64.wrap (2*(i:Int))=2*i:=aF (by omega);have w2:IntKind.i64.wrap (2*(i:Int)+1)=2*i+1:=aF (by omega);have w3:IntKind.i64.wrap (2*(i:Int)+4)=2*i+4:=aF (by omega);refine aa.pe aC fw (rs:=Jq) (.inr ⟨_,rfl⟩) (by kernel_rfl) [] ?_;simp[Jq,w1,w2,w3,hr,hsw2,cK.enc,k48,hb,df,AK,cL,ga,Nat.add_assoc];refine⟨λn hn=>(by simp[aN]at hn), ?_⟩;rw[jT];refine Le.dV (l:=[]) aT (by omega) (by simp;omega) (by simp[bK]) ⟨⟨_,by simp;exact⟨rfl,rfl⟩,Ha (c:=⟨2*i+1,2*i+4,c2.kind,0,[]⟩) (d:=.aW) ?_,λ_=>by simp[jt]⟩,trivial⟩ (by simp);simp[ia]
  ·rw[QT,Zab (by simp[h])];exact aa.skip ⟨rfl,sQ aT BS (by omega) (by simp) (by simp[cI]) (by simp)⟩
end
def gu(a:cw)(p:Bool×List cw)(b:cw):Bool×List cw:=
 if p.1=false/\aY b a=true then(true,p.2++[if a.aH<b.aH then a else b])
 else if p.1=false/\before a b then(true,p.2++[a]++[b])
 else(p.1,p.2++[b])
def sR(a:cw)(l:List cw):Bool×List cw:=l.foldl (gu a) (false,[])
def xQ(l:List cw)(a:cw):List cw:=
 if 1099511627776<=a.aH then l else if(sR a l).1 then(sR a l).2 else(sR a l).2++[a]
section
variable{α:Type}
@[simp] def decArc_enc'(a b c d:Int)(o:List (Int×Int)):wZ [ti a,ti b,ti c,ti d,.sl (ia o)]=⟨a,b,c,d,o⟩:=w6 ⟨a,b,c,d,o⟩
@[simp] def decArc_nil'(a b c d:Int):wZ [ti a,ti b,ti c,ti d,.sl []]=⟨a,b,c,d,[]⟩:=w6 ⟨a,b,c,d,[]⟩
def ft{α:Type}(f:Nat->List α)(i m:Nat):List α:=(List.range (m-i)).flatMap λe=>f (i+e)
def ft_succ(f:Nat->List α){i m:Nat}(h:i<=m):ft f i (m+1)=ft f i m++f m:=by
 unfold ft;rw[show m+1-i=(m-i)+1 by omega,ZaR,Zcv];simp[show i+(m-i)=m by omega]
def ft_nil(f:Nat->List α)(i:Nat):ft f i i=[]:=by simp[ft]
def NS(x:Input)(m t:Nat):Int:=(x.aw.getD m default).read.getD t default
def rA(x:Input)(i m t:Nat):List cw:=if m<x.aw.length/\0<=NS x m t then [⟨2*i,2*m+2,t,zS (og x i m) (NS x m t),gz (m-i)++[(1,(t:Int))]⟩]else []
def rS(x:Input)(i m:Nat):List cw:=if dc x m then [⟨2*i,2*m+1,(x.aw.getD (m+1) default).kind,zS (og x i m) x.swap,gz (m-i)++[(4,0)]⟩]else []
def rM(x:Input)(i m:Nat):List cw:=ft (rA x i m) 0 x.insert.length++rS x i m
def rT(x:Input)(i:Nat):List cw:=if dc x i then [⟨2*i+1,2*i+4,(x.aw.getD i default).kind,0,[]⟩]else []
def rI(x:Input)(i:Nat):List cw:=ft (rM x i) i (x.aw.length+1)++rT x i
def iT(x:Input)(i m t:Nat):List cw:=[⟨2*i,2*m,t,zS (og x i m) (x.insert.getD t default),gz (m-i)++[(3,(t:Int))]⟩]
def iM(x:Input)(i m:Nat):List cw:=ft (iT x i m) 0 x.insert.length
def iI(x:Input)(i:Nat):List cw:=ft (iM x i) i (x.aw.length+1)
def kJ(l cs:List cw):List cw:=cs.foldl xQ l
def vY(l cs ds:List cw):kJ l (cs++ds)=kJ (kJ l cs) ds:=by simp[kJ]
def jo(x:Input):List cw:=kJ (kJ [] (ft (rI x) 0 (x.aw.length+1))) (ft (iI x) 0 (x.aw.length+1))
def zU(x:Input)(k:Nat):bO:=(List.range (2*x.aw.length+1)).map λs=>if s<k then(if s % 2=0 then og x (s/2) x.aw.length else 1099511627776)else 0
def ci(x:Input):aV:=⟨2*x.aw.length+1,jo x,zU x (2*x.aw.length+1)⟩
def Jy(a:cw)(p:Bool×List cw)(b:cw):(gu a p b).2.length+p.1.toNat<=p.2.length+1+(gu a p b).1.toNat:=by
 unfold gu;cases hp:p.1 with
 |true=>simp
 |false=>
  simp only[true_and,Bool.toNat_false];split
  ·simp
  ·split<;>simp
def MA(a:cw)(l:List cw):(sR a l).2.length<=l.length+(sR a l).1.toNat:=by
 have key:∀(l:List cw) (p:Bool×List cw),(l.foldl (gu a) p).2.length+p.1.toNat<=p.2.length+l.length+(l.foldl (gu a) p).1.toNat:=by
  intro l;induction l with
  |nil=>intro p;simp
  |cons b l ih=>
   intro p;simp only[ZaN,Za5];have h:=ih (gu a p b);have hs:=Jy a p b;omega
 have h:=key l (false,[]);simpa [sR]using h
def putL_len(l:List cw)(a:cw):(xQ l a).length<=l.length+1:=by
 have h:=MA a l;unfold xQ;split
 ·omega
 ·split
  ·rename_i hd;rw[hd]at h;simpa using h
  ·rename_i hd;simp only[Zc3]at hd;rw[hd]at h;simp at h⊢;omega
def Fv(cs:List cw):∀l:List cw,(kJ l cs).length<=l.length+cs.length:=by
 induction cs with
 |nil=>intro l;simp[kJ]
 |cons c cs ih=>
  intro l;have h1:=ih (xQ l c);have h2:=putL_len l c;have e:kJ l (c::cs)=kJ (xQ l c) cs:=rfl;rw[e];simp only[Za5];omega
def rA_len(x:Input)(i m t:Nat):(rA x i m t).length<=1:=by unfold rA;split<;>simp
def rS_len(x:Input)(i m:Nat):(rS x i m).length<=1:=by unfold rS;split<;>simp
def rT_len(x:Input)(i:Nat):(rT x i).length<=1:=by unfold rT;split<;>simp
def AR{f:Nat->List α}{B:Nat}(h:∀k,(f k).length<=B)(i m:Nat):(ft f i m).length<=(m-i)*B:=by
 unfold ft;have:∀k,((List.range k).flatMap λe=>f (i+e)).length<=k*B:=by
  intro k;induction k with
  |zero=>simp
  |succ k ih=>
   rw[ZaR,Zcv,ZaK,Nat.succ_mul];have:=h (i+k);simp only[Zbt,List.flatMap_nil,ZaC];omega
 exact this _
def rM_len(x:Input)(i m:Nat)(h:x.insert.length<=100):(rM x i m).length<=101:=by
 unfold rM;have h1:=AR (rA_len x i m) 0 x.insert.length;have h2:=rS_len x i m;rw[ZaK];omega
def rI_len(x:Input)(i:Nat)(h:x.insert.length<=100)(hn:x.aw.length<=60):(rI x i).length<=7000:=by
 unfold rI;have h1:=AR (f:=rM x i) (B:=101) (λk=>rM_len x i k h) i (x.aw.length+1);have h2:=rT_len x i;rw[ZaK];omega
def iM_len(x:Input)(i m:Nat)(h:x.insert.length<=100):(iM x i m).length<=100:=by
 unfold iM;have h1:=AR (f:=iT x i m) (B:=1) (λk=>by simp[iT]) 0 x.insert.length;omega
def iI_len(x:Input)(i:Nat)(h:x.insert.length<=100)(hn:x.aw.length<=60):(iI x i).length<=7000:=by
 unfold iI;have h1:=AR (f:=iM x i) (B:=100) (λk=>iM_len x i k h) i (x.aw.length+1);omega
end
open Go.DM Go.DM.Ve
section
variable(good:aK->Prop)(cmpF:aK->aK->Int)
abbrev zR(x y:aK):Bool:=decide (cmpF x y<0)
variable{good cmpF}
end
def qY:Nat:=1000000000
section
variable{al:List cw}
def cN(a:cw):aK:=[ti a.f,ti a.t,ti a.term]
def tu(r:aK):Prop:=∃f t x:Int,r=[ti f,ti t,ti x]
def ko(r:aK):Int×Int×Int:=(dH (r.getD 0 (ti 0)),dH (r.getD 1 (ti 0)),dH (r.getD 2 (ti 0)))
def lt3(a b:Int×Int×Int):Prop:=a.1<b.1\/(a.1=b.1/\(a.2.1<b.2.1\/(a.2.1=b.2.1/\a.2.2<b.2.2)))
def or3(a b c d e f:Int):UP [tG a d,tG b e,tG c f]<0↔lt3 (a,b,c) (d,e,f):=by
 simp only[UP,tG,lt3];by_cases h1:a<d
 ·simp[h1]
 ·by_cases h2:d<a
  ·have:a≠d:=by omega
   simp[h1,h2,this]
  ·have:a=d:=by omega
   subst this;by_cases h3:b<e
   ·simp[h3]
   ·by_cases h4:e<b
    ·have:b≠e:=by omega
     simp[h3,h4,this]
    ·have:b=e:=by omega
     subst this;by_cases h5:c<f
     ·simp[h5]
     ·by_cases h6:f<c
      ·have:¬c<f:=by omega
       simp[h5,h6]
      ·simp[h5,h6]
def UQ(x y:aK):zR fa x y=true↔lt3 (ko x) (ko y):=by
 simp only[zR,Zau];exact or3 _ _ _ _ _ _
def u7(x y:aK):zR fa x y=false↔¬lt3 (ko x) (ko y):=by
 rw[<-UQ];simp
def Kh:SWO (zR fa):=by
 refine⟨λx=>?_,λx y z h1 h2=>?_,λx y z h1 h2=>?_⟩
 ·rw[u7];unfold lt3;omega
 ·rw[UQ]at h1 h2⊢;unfold lt3 at h1 h2⊢;omega
 ·rw[u7]at h1 h2⊢;unfold lt3 at h1 h2⊢;omega
def eqvK{x y:aK}(h:rR (zR fa) x y=true):ko x=ko y:=by
 simp only[rR,Zam,Zbf,u7]at h;unfold lt3 at h;generalize ko x=p at h⊢;generalize ko y=q at h⊢;obtain⟨a1,a2,a3⟩:=p;obtain⟨b1,b2,b3⟩:=q;simp only[Zav]at h⊢;omega
def AQ{x y:aK}(hx:tu x)(hy:tu y)(h:ko x=ko y):x=y:=by
 obtain⟨a,b,c,rfl⟩:=hx;obtain⟨d,e,f,rfl⟩:=hy;simp[ko,dH]at h;simp[h]
def Jx{l:List (aK)}(hg:∀x∈l,tu x)(hn:l.Nodup)(z:aK):(l.filter (rR (zR fa) z)).length<=1:=by
 have Gf:(l.filter (rR (zR fa) z)).Nodup:=hn.filter _;have d0:∀x∈l.filter (rR (zR fa) z),tu x/\ko x=ko z:=by
  intro x hx;rw[Zbj]at hx;exact⟨hg x hx.1,(eqvK hx.2).symm⟩
 match hl:l.filter (rR (zR fa) z),Gf,d0 with
 |[],_,_=>simp
 |[a],_,_=>simp
 |a::b::l,Gf,d0=>
  exfalso;have h1:=d0 a (by simp);have h2:=d0 b (by simp);have:=AQ h1.1 h2.1 (h1.2.trans h2.2.symm);subst this;simp at Gf
def Py{l1 l2:List (aK)}(hp:l1.Perm l2)(hg:∀x∈l2,tu x)(hn:l2.Nodup):kj (zR fa) l1=kj (zR fa) l2:=by
 refine KS Kh (rY Kh l2) λx=>?_;rw[yy Kh];have h1:=hp.filter (rR (zR fa) x);have h2:=Jx hg hn x;cases h:l2.filter (rR (zR fa) x)with
 |nil=>rw[h]at h1;exact(List.Perm.eq_nil h1).symm
 |cons a t=>
  rw[h]at h1 h2;have:t=[]:=by cases t with
   |nil=>rfl
   |cons b t=>simp at h2
  subst this;exact(List.perm_singleton.1 h1).symm
def rX{a b:cw}:cN a=cN b↔aY a b=true:=by simp[cN,aY]
def PA(h:(al.map cN).Nodup)(a:cw):((wv al a).map cN).Nodup:=by
 unfold wv;split
 ·cases hf:al.findIdx? (aY a)with
  |none=>
   simp only;rw[ZaZ,Zb7];refine⟨h,by simp, ?_⟩;intro x hx y hy;simp only[ZaA,ZbL,Zan]at hy;subst hy;obtain⟨b,hb,rfl⟩:=Zak.1 hx;intro e;rw[Zb9]at hf;have:=hf b hb;rw[rX.1 e.symm]at this;cases this
  |some i=>
   simp only;split
   ·have hi:=vF hf;rw[Zbm]at hf;have hk:cN a=cN al[i]:=rX.2 hf.2.1;rw[Zcd,hk];have:(al.map cN).set i (cN al[i])=al.map cN:=by
     apply Zbw
     ·simp
     ·intro k h1 h2;rw[Zb1];split
      ·rename_i e;subst e;simp
      ·rfl
    rw[this];exact h
   ·exact h
 ·exact h
def xS(cs:List cw):∀{al:List cw},(al.map cN).Nodup->((cI al cs).map cN).Nodup:=by
 induction cs with
 |nil=>intro al h;exact h
 |cons c cs ih=>intro al h;exact ih (PA h c)
def qN(al:List cw)(r:aK):cw:=(al.find? (aY ⟨(ko r).1,(ko r).2.1,(ko r).2.2,0,[]⟩)).getD default
def find_idx{α:Type}(p:α->Bool)(l:List α):l.find? p=(l.findIdx? p).bind λi=>l[i]? :=by
 induction l with
 |nil=>rfl
 |cons x l ih=>
  rw[Za6,Zbh];cases h:p x with
  |true=>simp
  |false=>simp[ih];cases l.findIdx? p<;>simp
def u5{a:cw}(h:a∈al):aY a (qN al (cN a))=true/\qN al (cN a)∈al/\∃i,qP a.key (entries al)=some (i,(qN al (cN a)).key,.v (.agg (qN al (cN a)).enc)):=by
 have e:aY ⟨(ko (cN a)).1,(ko (cN a)).2.1,(ko (cN a)).2.2,0,[]⟩=aY a:=by
  funext b;simp[aY,ko,cN,dH]
 unfold qN;rw[e,yD,qa,find_idx];cases hf:al.findIdx? (aY a)with
 |none=>
  rw[Zb9]at hf;have:=hf a h;simp[aY]at this
 |some i=>
  have hi:=vF hf;rw[Zbm]at hf;simp only[Zcr,gU,Zas hi,Za8,Zbd];exact⟨hf.2.1,Zbe hi,i,rfl⟩
def km(al:List cw):List cw:=(kj (zR fa) (al.map cN)).map (qN al)
def Wl{sn:cO}(h1:sn.Nodup)(h2:∀i∈sn,i<al.length)(h3:∀i,i<al.length->i∈sn):(sn.map λi=>cN (al.getD i default)).Perm (al.map cN):=by
 have hp:sn.Perm (List.range al.length):=(List.perm_ext_iff_of_nodup h1 List.nodup_range).2 λi=>by
  rw[Za2];exact⟨h2 i,h3 i⟩
 have:=hp.map λi=>cN (al.getD i default);refine this.trans (List.Perm.of_eq ?_);apply Zbw
 ·simp
 ·intro k k1 k2;simp at k2;simp[k2]
end
open Go.Shelf
def Mz:Go.Shelf.Ren:=⟨fun|6=>49|15=>79|14=>78|28=>116|29=>117|20=>108|21=>109|22=>110|23=>111|24=>112|25=>113|26=>114|27=>115|46=>135|47=>136|48=>137|49=>138|50=>139|57=>149|n=>n,fun|22=>102|24=>104|25=>106|3=>3|39=>129|0=>0|53=>175|55=>178|4=>4|46=>184|45=>183|50=>188|5=>5|9=>9|66=>212|70=>216|76=>222|77=>196|n=>n,fun|n=>n⟩
def sortLay:SlLaysF0.n6 aj Mz where
 mixed:=by kernel_rfl
 f6:=⟨Tryz.f49.name,by decide+kernel,Tryz.func49.trans (congrArg some (by kernel_rfl))⟩
 f14:=⟨Tryz.f78.name,by decide+kernel,Tryz.func78.trans (congrArg some (by kernel_rfl))⟩
 f15:=Tryz.func79.trans (congrArg some (by kernel_rfl))
 f20:=⟨Tryz.f108.name,by decide+kernel,Tryz.func108.trans (congrArg some (by kernel_rfl))⟩
 f21:=⟨Tryz.f109.name,by decide+kernel,Tryz.func109.trans (congrArg some (by kernel_rfl))⟩
 f22:=⟨Tryz.f110.name,by decide+kernel,Tryz.func110.trans (congrArg some (by kernel_rfl))⟩
 f23:=⟨Tryz.f111.name,by decide+kernel,Tryz.func111.trans (congrArg some (by kernel_rfl))⟩
 f24:=⟨Tryz.f112.name,by decide+kernel,Tryz.func112.trans (congrArg some (by kernel_rfl))⟩
 f25:=⟨Tryz.f113.name,by decide+kernel,Tryz.func113.trans (congrArg some (by kernel_rfl))⟩
 f26:=⟨Tryz.f114.name,by decide+kernel,Tryz.func114.trans (congrArg some (by kernel_rfl))⟩
 f27:=⟨Tryz.f115.name,by decide+kernel,Tryz.func115.trans (congrArg some (by kernel_rfl))⟩
 f28:=Tryz.func116.trans (congrArg some (by kernel_rfl))
 f29:=Tryz.func117.trans (congrArg some (by kernel_rfl))
 f46:=⟨Tryz.f135.name,by decide+kernel,Tryz.func135.trans (congrArg some (by kernel_rfl))⟩
 f47:=Tryz.func136.trans (congrArg some (by kernel_rfl))
 f48:=Tryz.func137.trans (congrArg some (by kernel_rfl))
 f49:=⟨Tryz.f138.name,by decide+kernel,Tryz.func138.trans (congrArg some (by kernel_rfl))⟩
 f50:=⟨Tryz.f139.name,by decide+kernel,Tryz.func139.trans (congrArg some (by kernel_rfl))⟩
 f57:=⟨Tryz.f149.name,by decide+kernel,Tryz.func149.trans (congrArg some (by kernel_rfl))⟩
 t0:=Tryz.underlying0
 a0:=Tryz.isAgg0
 z0:=Tryz.sizeOf0
 v0:=Tryz.zeroValue0
 t3:=Tryz.underlying3
 a3:=Tryz.isAgg3
 z3:=Tryz.sizeOf3
 v3:=Tryz.zeroValue3
 t4:=Tryz.underlying4
 a4:=Tryz.isAgg4
 z4:=Tryz.sizeOf4
 v4:=Tryz.zeroValue4
 t5:=Tryz.underlying5
 a5:=Tryz.isAgg5
 z5:=Tryz.sizeOf5
 v5:=Tryz.zeroValue5
 t9:=Tryz.underlying9
 a9:=Tryz.isAgg9
 z9:=Tryz.sizeOf9
 v9:=Tryz.zeroValue9
 t22:=Tryz.underlying102
 a22:=Tryz.isAgg102
 z22:=Tryz.sizeOf102
 v22:=Tryz.zeroValue102
 t25:=Tryz.underlying106
 a25:=Tryz.isAgg106
 z25:=Tryz.sizeOf106
 v25:=Tryz.zeroValue106
 t39:=Tryz.underlying129
 a39:=Tryz.isAgg129
 z39:=Tryz.sizeOf129
 v39:=Tryz.zeroValue129
 t45:=Tryz.underlying183
 a45:=Tryz.isAgg183
 z45:=Tryz.sizeOf183
 v45:=Tryz.zeroValue183
 t46:=Tryz.underlying184
 a46:=Tryz.isAgg184
 z46:=Tryz.sizeOf184
 v46:=Tryz.zeroValue184
 t50:=Tryz.underlying188
 a50:=Tryz.isAgg188
 z50:=Tryz.sizeOf188
 v50:=Tryz.zeroValue188
 t53:=Tryz.underlying175
 a53:=Tryz.isAgg175
 z53:=Tryz.sizeOf175
 v53:=Tryz.zeroValue175
 t55:=Tryz.underlying178
 a55:=Tryz.isAgg178
 z55:=Tryz.sizeOf178
 v55:=Tryz.zeroValue178
 t66:=Tryz.underlying212
 a66:=Tryz.isAgg212
 z66:=Tryz.sizeOf212
 v66:=Tryz.zeroValue212
 t70:=Tryz.underlying216
 a70:=Tryz.isAgg216
 z70:=Tryz.sizeOf216
 v70:=Tryz.zeroValue216
 t76:=Tryz.underlying222
 a76:=Tryz.isAgg222
 z76:=Tryz.sizeOf222
 v76:=Tryz.zeroValue222
 t77:=Tryz.underlying196
 a77:=Tryz.isAgg196
 z77:=Tryz.sizeOf196
 v77:=Tryz.zeroValue196
def Xm(x y:ov 3):Int:=fa (iN x) (iN y)
def row3(x:ov 3):∃a b c:Int,x.1=[a,b,c]:=by
 obtain⟨l,hl⟩:=x
 match l,hl with
 |[a,b,c],_=>exact⟨a,b,c,rfl⟩
def good_row(x:ov 3):tu (iN x):=by
 obtain⟨a,b,c,h⟩:=row3 x;exact⟨a,b,c,by unfold iN;rw[h];rfl⟩
def row_good{r:aK}(h:tu r):∃x:ov 3,iN x=r:=by
 obtain⟨a,b,c,rfl⟩:=h;exact⟨⟨[a,b,c],rfl⟩,rfl⟩
def Hc:∀{D:List (aK)},(∀x∈D,tu x)->∃E:List (ov 3),E.map iN=D
 |[],_=>⟨[],rfl⟩
 |r::D,h=>by
  obtain⟨x,hx⟩:=row_good (h r (by simp));obtain⟨E,hE⟩:=Hc λy hy=>h y (Zbg _ hy);exact⟨x::E,by simp[hx,hE]⟩
def lt_cfK(x y:ov 3):ltOf Xm x y=zR fa (iN x) (iN y):=rfl
def CQ:Go.Sort.SWO (ltOf Xm):=
 ⟨λx=>Kh.irrefl _,λx y z=>Kh.trans _ _ _,λx y z=>Kh.ntrans _ _ _⟩
def rowN_inj{k:Nat}{x y:ov k}(h:iN x=iN y):x=y:=by
 apply Subtype.ext;unfold iN at h;have key:∀(l m:bO),l.map tI=m.map tI->l=m:=by
  intro l;induction l with
  |nil=>intro m h;cases m with
   |nil=>rfl
   |cons b m=>cases h
  |cons a l ih=>intro m h;cases m with
   |nil=>cases h
   |cons b m=>
    simp only[ZaA,Za1,T.int.injEq,true_and]at h;rw[h.1,ih m h.2]
 exact key _ _ h
def tot_cfK(x y:ov 3)(h1:ltOf Xm x y=false)(h2:ltOf Xm y x=false):x=y:=by
 rw[lt_cfK]at h1 h2;exact rowN_inj (AQ (good_row x) (good_row y) (eqvK (by simp[rR,h1,h2])))
def sortN_eq(E:List (ov 3)):kj (zR fa) (E.map iN)=(BC Xm E).map iN:=by
 refine KS Kh ?_ λz=>?_
 ·unfold wB;rw[ZcD];have h:=List.pairwise_mergeSort (le:=λx y=> !(ltOf Xm) y x) (λa b c h1 h2=>by
   simp only[Zbf]at h1 h2⊢;exact CQ.ntrans _ _ _ h2 h1) (λa b=>by
   cases e:ltOf Xm b a with
   |false=>rfl
   |true=>
    cases e2:ltOf Xm a b with
    |false=>rfl
    |true=>
     have:=CQ.trans _ _ _ e e2;rw[CQ.irrefl]at this;cases this) E
  exact h.imp λ{a b} hab=>by rw[Zbf]at hab;exact hab
 ·have hp:((BC Xm E).map iN).Perm (E.map iN):=(List.mergeSort_perm E _).map _;have h1:=hp.filter (rR (zR fa) z);have d0:∀w∈(E.map iN).filter (rR (zR fa) z),∀u∈(E.map iN).filter (rR (zR fa) z),w=u:=by
   intro w hw u hu;rw[Zbj]at hw hu;obtain⟨x,_,rfl⟩:=Zak.1 hw.1;obtain⟨y,_,rfl⟩:=Zak.1 hu.1;exact AQ (good_row x) (good_row y) ((eqvK hw.2).symm.trans (eqvK hu.2))
  generalize (E.map iN).filter (rR (zR fa) z)=l at h1 d0;generalize ((BC Xm E).map iN).filter (rR (zR fa) z)=l' at h1;apply Zbw h1.length_eq;intro i q1 q2;exact d0 _ (h1.subset (Zbe q1)) _ (Zbe q2)
theorem PB [bI](x y:ov 3):bl aj 50 [.agg (iN x),.agg (iN y)] (tI (Xm x y)):=by
 obtain⟨a,b,c,h⟩:=good_row x;obtain⟨d,e,f,k⟩:=good_row y;unfold Xm;rw[h,k];exact t33 a b c d e f
def t32(D:List (aK)){ab:bq}{r bD e:Nat}(gH:ab r=some (.arr bD e 3 D))(eF:∀x∈D,tu x)(h4:D.length<=qY):
  aR aj 49 [.bA r bD,.v (.fn (.func 50) [])] ab ⟨True,.v (.eo []),ew ab r (.arr bD e 3 (kj (zR fa) D))⟩:=by
 obtain⟨E,rfl⟩:=Hc eF;rw[sortN_eq];unfold qY at h4;exact KR (k:=3) sortLay (by omega) (λw=>Tryz.isAgg104 w) (λw=>Tryz.sizeOf104 w) (@PB bI.none) CQ tot_cfK E gH (by simp at h4;omega)
def k32(good:aK->Prop)(cmpF:aK->aK->Int):bB->bq->fI
 |[.bA r bD,.v (.fn (.func c) bY)],ab=>match ab r with
  |some (.arr cg e sz D)=>⟨bD=cg/\sz=3/\c=50/\bY=[]/\(∀x∈D,good x)/\D.length<=qY/\D.length<=1000000000,
    .v (.eo []),ew ab r (.arr bD e 3 (kj (zR cmpF) D))⟩
  |_=>⟨False,.undef,ab⟩
 |_,ab=>⟨False,.undef,ab⟩
def ok32{l:List (Nat×DM.Spec)}(h:ay aj (bu l)):ay aj (bu ((49,eS (k32 tu fa))::l)):=by
 refine ay.gS h ?_;intro args ab h;unfold k32 at h⊢;split at h
 ·split at h
  ·rename_i c bY _ cg e sz D gH;obtain⟨rfl,rfl,rfl,rfl,h1,h4,h5⟩:=h;refine⟨λN hN=>?_,λk hk=>vq gH hk⟩;simp only[];exact(t32 D gH h1 h4).of rfl rfl
  ·exact h.elim
 ·exact h.elim
section
variable{ab:bq}{al:List cw}
def k30:bB->bq->fI
 |[.ptr b 0,.v (.int .i64 i)],ab=>
  ⟨ab b=some (.box (df (gr ab b).1 (gr ab b).2))/\ab (gr ab b).2=some (cL (AM ab (gr ab b).2))/\0<=i/\i<=(gr ab b).1.aw.length/\OI (gr ab b).1,.v (.eo []),
   ew ab (gr ab b).2 (cL (cI (AM ab (gr ab b).2) (t6 (gr ab b).1 i.toNat)))⟩
 |_,ab=>⟨False,.undef,ab⟩
def k30_eq{b m:Nat}{x:Input}{i:Nat}(h:ab b=some (.box (df x m)))(hm:ab m=some (cL al)):
  k30 [.ptr b 0,.v (ti i)] ab=⟨i<=x.aw.length/\OI x,.v (.eo []),ew ab m (cL (cI al (t6 x i)))⟩:=by
 simp only[k30,CP h,h,Hb hm,hm,Zag,true_and,Int.ofNat_le,ZcB]
abbrev Γ7:pI:=bu [(47,eS k30),(49,eS (k32 tu fa)),(48,eS k31),(46,yj pre29 fn29 3 1)]
def ok7:ay aj Γ7:=by
 refine ay.gS (ok32 (ay.gS (ay.Yp ay.nil ?_) ?_)) ?_
 ·rintro ts ⟨v,n,rfl,h1,h2⟩;have:=t29 v n h1 h2;simpa [fn29,aG]using this
 ·exact(ok5 48 (eS k31) rfl).st k31 rfl
 ·intro args ab h;unfold k30 at h⊢;split at h
  ·rename_i aI b i;obtain⟨hb,hm,h1,h2,h3⟩:=h;obtain⟨i,rfl⟩:=Zae h1;refine⟨λN hN=>?_,λr hr=>vq hm hr⟩;exact aR.of (t30 hN hb hm (by omega) h3) (by simp) (by simp)
  ·exact h.elim
def d12r8R:ai:=[
 a 2 5 36 [],
 l 36 37 [0],
 n 6 38,
 o (.bin .mul (i 2) (t 38)) 39 [2],
 n 3 40,
 n 6 41,
 n 4 42,
 o (.callR 48 [(t 40),(t 41),(t 42)]) 43 [4,5,6],
 m 43 35 [7],
 e 0 35 44 [8],
 e 1 35 45 [8],
 x 1 37 39 46 (k [1,3] 9),
 S 1 46 44 (k [11,9,7] 9)]
def k31_read{b m:Nat}{x:Input}{i j:Nat}(h:ab b=some (.box (df x m))):
  wD k31 [.ptr b 0,.v (ti i),.v (ti j)] ab=(i<=j/\j<=x.aw.length/\tj x.aw)/\
   (k31 [.ptr b 0,.v (ti i),.v (ti j)] (Bi ab [.ptr b 0,.v (ti i),.v (ti j)])).val=.v (.eo [ti (gV ((x.aw.take j).drop i) 0),.sl (ia (gz (j-i)))]):=by
 have hr:Bi ab [.ptr b 0,.v (ti i),.v (ti j)] b=some (.box (df x m)):=by simp[Bi,bM,aN,h]
 refine⟨?_,by rw[AN hr]⟩;unfold wD;apply propext;constructor
 ·intro H;have:=H ab (λ_ _=>rfl);rw[AN h]at this;exact this.1
 ·intro H o ho;have hb:o b=some (.box (df x m)):=by rw[ho b (by simp[bM,aN]),h]
  rw[AN hb,AN hr];exact⟨H,rfl,rfl⟩
def xR(x:Input)(y:Nat):List cw:=(List.range y).flatMap (t6 x)
def Wi(x:Input)(y:Nat):xR x (y+1)=xR x y++t6 x y:=by simp[xR,ZaR]
def gW(x:Input)(n y:Nat):List (aK):=(List.range n).map λs=>[ti (if s % 2=0/\s/2<y then og x (s/2) x.aw.length else 1099511627776)]
def Mw(x:Input){n y:Nat}(h:2*y<n):(gW x n y).set (2*y) [ti (og x y x.aw.length)]=gW x n (y+1):=by
 apply Zbw
 ·simp[gW]
 ·intro k h1 h2;rw[Zb1];simp only[gW,ZbQ,ZbS];split
  ·rename_i e;subst e;rw[Zai (by omega),show 2*y/2=y by omega]
  ·rename_i e;by_cases hk:k % 2=0/\k/2<y
   ·rw[Zai hk,Zai (by omega)]
   ·rw[Zab hk,Zab (by omega)]
def Mx(x:Input)(n y:Nat):(gW x n y).length=n:=by simp[gW]
def Jv(x:Input)(n:Nat):gW x n 0=List.replicate n [ti 1099511627776]:=by
 apply Zbw
 ·simp[gW]
 ·intro k h1 h2;simp[gW]
def vG(a b:bq)(σ:Nat->Nat)(cs cs':bB):nS a b σ (.box cs) (.box cs')=ij a b σ cs cs':=rfl
def vH(a b:bq)(σ:Nat->Nat)(v v' e e' sz iG:Nat)(av eN:List (aK)):nS a b σ (.arr v e sz av) (.arr v' e' iG eN)=(e=e'/\sz=iG/\av=eN):=rfl
def uN(a b:bq)(al:List cw):nS a b id (cL al) (cL al):=by
 simp only[cL,nS];exact⟨trivial,trivial,trivial,ph λe he=>by obtain⟨x,hx⟩:=ga al e he;rw[hx];simp⟩
def BT{e:Nat×T×DV}(h:e∈entries al):∃i,i<al.length/\e=(i,(al.getD i default).key,.v (.agg (al.getD i default).enc)):=by
 obtain⟨i,hi,rfl⟩:=ZaO h;rw[ld]at hi;refine⟨i,hi, ?_⟩;have:=gU al i;rw[Zas (by rw[ld];exact hi),Zas hi]at this;simp only[Za8,Zaa]at this;rw[this];simp[List.getD,hi]
def Jw{i:Nat}(h:i<al.length):(entries al).find? (λe=>e.1==i)=some (i,(al.getD i default).key,.v (.agg (al.getD i default).enc)):=by
 rw[ZcO];have hg:∀(j:Nat) (hj:j<(entries al).length),(entries al)[j]=(j,(al.getD j default).key,.v (.agg (al.getD j default).enc)):=by
  intro j hj;rw[ld]at hj;have:=gU al j;rw[Zas (by rw[ld];exact hj),Zas hj]at this;simp only[Za8,Zaa]at this;rw[this];simp[List.getD,hj]
 refine⟨by simp,i,by rw[ld];exact h,hg _ _,λj hj=>?_⟩;rw[hg];simp;omega
def AO:∀(n:Nat) {l:cO},l.Nodup->(∀i∈l,i<n)->l.length<=n
 |0,l,_,h=>by cases l with
  |nil=>simp
  |cons a l=>exact Zar (h a (by simp)) (by omega)
 |n+1,l,hn,h=>by
  by_cases hm:n∈l
  ·have h1:=List.length_erase_of_mem hm;have h2:=AO n (l:=l.erase n) (hn.erase n) (λi hi=>by
    have:=h i (List.mem_of_mem_erase hi);have bT:i≠n:=λe=>by subst e;exact(List.Nodup.not_mem_erase hn) hi
    omega)
   omega
  ·have:=AO n hn (λi hi=>by
    have:=h i hi;have bT:i≠n:=λe=>hm (e▸hi);omega)
   omega
def mU(a b:bq)(al:List cw):jF a b id (entries al) (entries al):=ph λe he=>by obtain⟨x,hx⟩:=ga al e he;rw[hx];simp
def Wj{α:Type}{f:α->aK}{l:List α}{y:Nat}{a:α}(h:y<l.length)(ha:l[y]=a):(l.take (y+1)).map f=(l.take y).map f++[f a]:=by
 rw[ZbO,Zas h,ha];simp
def lE(x:Input):List cw:=cI [] (xR x (x.aw.length+1))
def zT(x:Input):bO:=(List.range (2*x.aw.length+1)).map λs=>if s % 2=0 then og x (s/2) x.aw.length else 1099511627776
def nK(x:Input):aV:=⟨2*x.aw.length+1,km (lE x),zT x⟩
def My(x:Input):gW x (2*x.aw.length+1) (x.aw.length+1)=aG (zT x):=by
 simp only[gW,zT,aG,Zc4];apply Zbq;intro s hs;simp only[Za2]at hs;by_cases h:s % 2=0
 ·simp only[Function.comp_apply,h,if_true,true_and];rw[Zai (by omega)]
 ·simp[h]
@[simp] def isMap_mapOb(al:List cw):qW (some (cL al)):=by simp[qW,cL]
def t12(x:Input)(hx:OI x)(tV:(lE x).length<=qY)(fH:(lE x).length<=1000000000):bl aj 29 [x.enc] (nK x).enc:=by
 have aC:=ok7;have hl:=hx.1.1;refine c12.ok (by simp) (aO ?_);simp[Input.enc];apply aa.ag aC fw [1,2];simp[d12r0];apply aa.ag aC fw [1,2,3];simp[d12r1];apply aa.ag aC fw [2,3,4];simp[d12r2];obtain⟨n2,hn2⟩:=bb (2*x.aw.length+1);have w1:IntKind.i64.wrap (2*(x.aw.length:Int))=2*x.aw.length:=aF (by omega);have w2:IntKind.i64.wrap (2*(x.aw.length:Int)+1)=(n2:Int):=by rw[aF (by omega)];omega
 refine aa.jR aC fw (rs:=Pi) (.inr ⟨_,rfl⟩) (by kernel_rfl) [2,3,4,5] ?_;simp[Pi,w1,w2,pre29,fn29,fU];refine⟨⟨1099511627776,n2,⟨rfl,rfl⟩,by omega,by omega⟩, ?_⟩;obtain⟨n,hn⟩:=bb x.aw.length;rw[hn]at hn2 hl;apply aa.seq;have w3:IntKind.i64.wrap ((n:Int)+1)=((n+1:Nat):Int):=by rw[aF (by omega)];omega
 apply aa.ag aC fw [2,3,4,5,28,29];simp[d12r4,hn,w3];obtain⟨n1,Wk⟩:=bb (n+1);rw[show((n:Int)+1)=(n1:Int)by omega];refine aa.to ⟨DM.look [(2,.ptr 1003 0),(3,.ptr 1098 0),(5,.ptr 1255 0)],cM [(1003,.box [.v (ti 0),.aW,.aW]),(1098,.box (df x 1096)),(1096,cL (cI [] (xR x n1))),(1255,.box [.v (ti n2),.aW,.bA 1275 0]),(1275,.arr 0 3 1 (gW x n2 n1))],3000,1000,[]⟩ ?_ ?_
 ·apply aa.block;refine aa.loop (λy:Nat=>⟨DM.look [(2,.ptr 1003 0),(3,.ptr 1098 0),(4,.v (ti n)),(5,.ptr 1255 0),(28,.v (ti n1)),(29,.v (ti y))],cM [(1003,.box [.v (ti 0),.aW,.aW]),(1098,.box (df x 1096)),(1096,cL (cI [] (xR x y))),(1255,.box [.v (ti n2),.aW,.bA 1275 0]),(1275,.arr 0 3 1 (gW x n2 y))],3000,1000,[]⟩)
   (λy=>y<=n1) (λy=>n1-y) 0 (Le.bi ?_ ?_ ?_ ?_) (by simp) (λy hy=>?_)
  ·simp
  ·simp[]
  ·simp[df,cL,entries,xR,cI,Jv,pg,jF,qW]
  ·simp
  apply aa.ag aC fw [2,3,4,5,28,29,30];simp[d12r5];apply aa.seq;refine aa.cond rfl (λcR=>?_) (λcR=>?_)
  ·simp at cR;apply aa.skip;simp;apply aa.seq;apply aa.block;apply aa.ag aC fw [2,3,4,5,6,28,29];simp[d12r6];refine aa.jR aC fw (rs:=Pj) (.inr ⟨_,rfl⟩) (by kernel_rfl) [2,3,4,5,6,28,29] ?_;simp[Pj,k30_eq (x:=x) (m:=1096) (al:=cI [] (xR x y))];refine⟨⟨by omega,hx⟩, ?_⟩;obtain⟨al2,hal2⟩:=bb (cI (cI [] (xR x y)) (t6 x y));have hal2':cI [] (xR x (y+1))=al2:=by rw[Wi,ib,hal2]
   rw[hal2,ky];refine aa.le (Le.bi (o:=[(1003,.box [.v (ti 0),.aW,.aW]),(1098,.box (df x 1096)),(1096,cL al2),(1255,.box [.v (ti n2),.aW,.bA 1275 0]),(1275,.arr 0 3 1 (gW x n2 y))]) (l:=[(2,.ptr 1003 0),(3,.ptr 1098 0),(4,.v (ti n)),(5,.ptr 1255 0),(6,.v (ti y)),(28,.v (ti n1)),(29,.v (ti y))]) (ba:=4000) ?_ ?_ ?_ ?_) ?_
   ·simp
   ·simp
   ·simp[-nS,vG,vH,uN,df,pg]
   ·simp
   have Fq:y<=n:=by omega
   have w4:IntKind.i64.wrap (2*(y:Int))=((2*y:Nat):Int):=by rw[aF (by omega)];omega
   obtain⟨y2,fJ⟩:=bb (2*y);rw[fJ]at w4;have zW:y2<n2:=by omega
   have hdc:gV ((x.aw.take n).drop y) 0=og x y n:=rfl;have N7:DM.rowAt (gW x n2 y) (y2:Int)=[ti 1099511627776]:=by
    have e:(2*(y:Int)).toNat=y2:=by omega
    subst fJ;simp[DM.rowAt,gW,e,zW]
   have xK:=Mw x (n:=n2) (y:=y) (by omega);rw[fJ,hn]at xK;have hd:=hx.1;refine aa.pe aC fw (rs:=d12r8R) (.inr ⟨_,rfl⟩) (by kernel_rfl) [2,3,4,5,28,29] ?_;simp[d12r8R,k31_read (x:=x) (m:=1096),hn,w4,hd,Fq,Mx,zW,hdc,N7,xK];apply aa.fK aC fw [2,3,4,5,28,29];simp[d12r9];rw[aF (by omega)];refine⟨y+1,Le.bi ?_ ?_ ?_ ?_,by omega,by omega⟩
   ·simp
   ·simp
   ·simp[-nS,vG,vH,uN,df,pg,hal2']
   ·simp
  ·simp at cR;have:y=n1:=by omega
   subst this;refine aa.exit ⟨rfl,Le.bi ?_ ?_ ?_ ?_⟩
   ·simp
   ·simp
   ·simp[-nS,vG,vH,uN,df,pg]
   ·simp
 ·obtain⟨al,hal⟩:=bb (cI [] (xR x n1));obtain⟨fr,xK⟩:=bb (gW x n2 n1);rw[hal,xK];apply aa.ag aC fw [2,3,5,7];simp[d12r10];apply aa.seq;apply aa.ag aC fw [2,3,5,7,52];simp[d12r11,df,cL];refine aa.le (Le.vr (k:=7) 104 (sz:=3) (by omega) (by simp)) ?_;rw[ky];apply aa.block;refine aa.loop (λsn:cO=>⟨DM.look [(2,.ptr 1003 0),(3,.ptr 1098 0),(5,.ptr 1255 0),(7,.bA 3166 0),(52,.iter 3136)],cM [(1003,.box [.v (ti 0),.aW,.aW]),(1098,.box (df x 1096)),(1096,cL al),(1255,.box [.v (ti n2),.aW,.bA 1275 0]),(1275,.arr 0 3 1 fr),(3166,.arr 0 104 3 (sn.map λi=>cN (al.getD i default))),(3136,.iter 1096 al.length sn al.length)],4000,1000,[]⟩)
   (λsn=>sn.Nodup/\∀i∈sn,i<al.length) (λsn=>al.length-sn.length) [] (Le.bi ?_ ?_ ?_ ?_) (by simp) (λsn hs=>?_)
  ·simp
  ·simp
  ·simp[-nS,vG,vH,df,pg];simp[nS,cL,qW];exact ph λe he=>by obtain⟨x,hx⟩:=ga al e he;rw[hx];simp
  ·simp[Ys,DT]
  obtain⟨J4,hs2⟩:=hs;apply aa.seq;refine aa.next (r:=3136) (m:=1096) (s:=al.length) (l:=al.length) (c:=al.length) (sn:=sn) (cj:=mn) (agg:=true) (es:=entries al) (by simp) (by simp) (by simp[cL]) (λe he=>?_) (Zaf _) (λYg=>?_) (λe he bT=>?_)
  ·obtain⟨i,hi,rfl⟩:=BT he;exact hi
  ·simp;have hp:=Wl J4 hs2 λi hi=>Yg _ (Zax (by rw[gU,Zas hi];rfl:(entries al)[i]? =some (i,al[i].key,.v (.agg al[i].enc))));have hgood:∀r∈sn.map (λi=>cN (al.getD i default)),tu r:=by
    intro r hr;obtain⟨i,_,rfl⟩:=Zak.1 hr;exact⟨_,_,_,rfl⟩
   have dM:(sn.map (λi=>cN (al.getD i default))).length=al.length:=by rw[hp.length_eq];simp
   have yd:(al.map cN).Nodup:=by rw[<-hal];exact xS _ (by simp)
   have hso:kj (zR fa) (sn.map (λi=>cN (al.getD i default)))=kj (zR fa) (al.map cN):=Py hp (λr hr=>by
    obtain⟨a,_,rfl⟩:=Zak.1 hr;exact⟨_,_,_,rfl⟩) yd
   have hala:lE x=al:=by unfold lE;rw[hn,Wk,hal]
   rw[hala]at tV fH;rw[<-dM]at tV fH;obtain⟨av,eF⟩:=bb (sn.map (λi=>cN (al.getD i default)));have hrows':sn.map (λi=>cN (al[i]?.getD default))=av:=eF;rw[eF]at tV fH hgood hso dM;rw[hrows'];apply aa.seq;refine aa.cond rfl (λh=>by cases h) (λ_=>?_);apply aa.exit;simp;refine aa.jR aC fw (rs:=Jl) (.inr ⟨_,rfl⟩) (by kernel_rfl) [2,3,5,7] ?_;simp[Jl,k32,hso,tV,fH];refine⟨hgood, ?_⟩;obtain⟨ks,hks⟩:=bb (kj (zR fa) (al.map cN));have hksl:ks.length=al.length:=by rw[<-hks,xT];simp
   have hksm:∀r∈ks,∃a∈al,cN a=r:=by
    intro r hr;rw[<-hks,u6]at hr;obtain⟨a,ha,rfl⟩:=Zak.1 hr;exact⟨a,ha,rfl⟩
   rw[hks,ky];refine aa.le (Le.bi (o:=[(1003,.box [.v (ti 0),.aW,.aW]),(1098,.box (df x 1096)),(1096,cL al),(1255,.box [.v (ti n2),.aW,.bA 1275 0]),(1275,.arr 0 3 1 fr),(3166,.arr 0 104 3 ks)]) (l:=[(2,.ptr 1003 0),(3,.ptr 1098 0),(5,.ptr 1255 0),(7,.bA 3166 0)]) (ba:=4500) ?_ ?_ ?_ ?_) ?_
   ·simp
   ·simp
   ·simp[df,pg,qW,mU,cL]
   ·simp
   refine aa.le (Le.Cx 1255 1 108 (sz:=5) (cs:=[.v (ti n2),.aW,.bA 1275 0]) (by omega) (by simp) (by simp)) ?_;rw[ky,ky];apply aa.seq;apply aa.ag aC fw [2,3,5,63,64,65];simp[d12r15,hksl];refine aa.to ⟨DM.look [(2,.ptr 1003 0),(5,.ptr 1255 0)],cM [(1003,.box [.v (ti 0),.aW,.aW]),(1255,.box [.v (ti n2),.bA 4500 0,.bA 1275 0]),(1275,.arr 0 3 1 fr),(4500,.arr 0 108 5 (j7 (km al)))],6000,1000,[]⟩ ?_ ?_
   ·apply aa.block;refine aa.loop (λy:Nat=>⟨DM.look [(2,.ptr 1003 0),(3,.ptr 1098 0),(5,.ptr 1255 0),(63,.bA 3166 0),(64,.v (ti al.length)),(65,.v (ti y))],cM [(1003,.box [.v (ti 0),.aW,.aW]),(1098,.box (df x 1096)),(1096,cL al),(1255,.box [.v (ti n2),.bA 4500 0,.bA 1275 0]),(1275,.arr 0 3 1 fr),(3166,.arr 0 104 3 ks),(4500,.arr 0 108 5 (j7 ((ks.take y).map (qN al))))],6000,1000,[]⟩)
     (λy=>y<=al.length) (λy=>al.length-y) 0 (Le.bi ?_ ?_ ?_ ?_) (by simp) (λy hy=>?_)
    ·simp
    ·simp
    ·simp[df,pg,qW,mU,cL,j7]
    ·simp
    apply aa.ag aC fw [2,3,5,63,64,65,66];simp[d12r16];apply aa.seq;refine aa.cond rfl (λcR=>?_) (λcR=>?_)
    ·simp at cR;apply aa.skip;simp;apply aa.seq;apply aa.block;obtain⟨r,hr⟩:=bb (ks[y]'(by omega));obtain⟨a,ha,hak⟩:=hksm r (by rw[<-hr];exact Zbe _);have hrow:DM.rowAt ks y=cN a:=by rw[hak,<-hr];simp[DM.rowAt,hksl,cR]
     obtain⟨l1,l2,i,l3⟩:=u5 ha;have htake:=Wj (f:=λr=>(qN al r).enc) (by omega) hr;obtain⟨c,hc⟩:=bb (qN al (cN a));rw[hc]at l3;rw[<-hak,hc]at htake;have htake':j7 (List.take (y+1) (List.map (qN al) ks))=j7 (List.take y (List.map (qN al) ks))++[[ti c.f,ti c.t,ti c.term,ti c.aH,.sl (ia c.ops)]]:=by
      have:=htake;simp only[j7,List.map_take,Zc4]at this⊢;exact this
     simp only[cw.key,keyOf]at l3;apply aa.ag aC fw [2,3,5,10,63,64,65];simp[d12r17,hrow,hksl,cR,cN];apply aa.fK aC fw [2,3,5,63,64,65];simp[d12r18,df,cL,l3,cw.enc,dK,fU];refine⟨⟨by omega,by omega⟩, ?_⟩;apply aa.fK aC fw [2,3,5,63,64,65];simp[d12r19];rw[aF (by omega)];refine⟨y+1,Le.bi ?_ ?_ ?_ ?_,by omega,by omega⟩
     ·simp
     ·simp
     ·simp[pg,qW,mU,htake']
     ·simp
    ·simp at cR;have:y=al.length:=by omega
     subst this;refine aa.exit ⟨rfl,Le.bi ?_ ?_ ?_ ?_⟩
     ·simp
     ·simp
     ·simp[km,hks];rw[ZaX (by simp;omega)]
     ·simp
   ·apply aa.ag aC fw [2];simp[d12r20];apply aa.ret;have lr:fr=aG (zT x):=by rw[<-xK,<-Wk,<-hn2,<-hn];exact My x
    simp[d12res,nK,aV.enc,hala,lr,hn];omega
  ·obtain⟨i,hi,rfl⟩:=BT he;have hfind:=Jw hi;obtain⟨a,ha⟩:=bb (al.getD i default);rw[ha]at hfind;simp only at bT;simp;apply aa.seq;refine aa.cond rfl (λ_=>?_) (λh=>by cases h);apply aa.skip;simp;apply aa.block;apply aa.ag aC fw [2,3,5,7,8,52];simp[d12r12,cL,hfind,cw.key,keyOf];apply aa.fK aC fw [2,3,5,7,52];simp[d12r13,dK,fU];have dM:=AO al.length (l:=i::sn) (by simp[bT,J4]) (by simp;exact⟨hi,hs2⟩);simp at dM;have hala:lE x=al:=by unfold lE;rw[hn,Wk,hal]
   rw[hala]at fH;have ha':al[i]?.getD default=a:=ha;refine⟨⟨by omega,by omega⟩,sn++[i],Le.bi ?_ ?_ ?_ ?_,⟨?_, ?_⟩, ?_⟩
   ·simp
   ·simp
   ·simp[df,pg,qW,mU,ha',cN]
   ·simp[Ys,DT]
   ·rw[Zb7];exact⟨J4,by simp,by simp;intro q hq e;subst e;exact bT hq⟩
   ·intro j hj;rw[Zaq,Zan]at hj;rcases hj with h|h
    ·exact hs2 j h
    ·omega
   ·simp;omega
end
def BU{a b:cw}{l:List cw}(h:b∈(sR a l).2):b∈l\/b=a:=by
 have key:∀(l:List cw) (p:Bool×List cw),b∈(l.foldl (gu a) p).2->b∈p.2\/b∈l\/b=a:=by
  intro l;induction l with
  |nil=>intro p h;exact .inl h
  |cons c l ih=>
   intro p h;rcases ih _ h with h|h|h
   ·unfold gu at h;split at h
    ·simp only[Zaq,Zan]at h;rcases h with h|h
     ·exact .inl h
     ·split at h
      ·exact .inr (.inr h)
      ·exact .inr (.inl (by simp[h]))
    ·split at h
     ·simp only[Zaq,Zan]at h;rcases h with(h|h)|h
      ·exact .inl h
      ·exact .inr (.inr h)
      ·exact .inr (.inl (by simp[h]))
     ·simp only[Zaq,Zan]at h;rcases h with h|h
      ·exact .inl h
      ·exact .inr (.inl (by simp[h]))
   ·exact .inr (.inl (by simp[h]))
   ·exact .inr (.inr h)
 rcases key l (false,[]) h with h|h|h
 ·simp at h
 ·exact .inl h
 ·exact .inr h
def mem_putL{a b:cw}{l:List cw}(h:b∈xQ l a):b∈l\/b=a:=by
 unfold xQ at h;split at h
 ·exact .inl h
 ·split at h
  ·exact BU h
  ·rw[Zaq,Zan]at h;rcases h with h|h
   ·exact BU h
   ·exact .inr h
def xd{b:cw}:∀(cs l:List cw),b∈kJ l cs->b∈l\/b∈cs
 |[],l,h=>.inl h
 |c::cs,l,h=>by
  rcases xd cs (xQ l c) h with h|h
  ·rcases mem_putL h with h|h
   ·exact .inl h
   ·exact .inr (by simp[h])
  ·exact .inr (by simp[h])
def gC{α:Type}{f:Nat->List α}{i m:Nat}{a:α}(h:a∈ft f i m):∃k,i<=k/\k<m/\a∈f k:=by
 unfold ft at h;obtain⟨e,he,ha⟩:=ZaV.1 h;rw[Za2]at he;exact⟨i+e,by omega,by omega,ha⟩
def arcGood(n:Nat)(a:cw):Prop:=0<=a.f/\a.f<(2*n+1:Nat)/\0<=a.t/\a.t<(2*n+1:Nat)/\a.ops.length<=1000000/\0<=a.aH
def Fw(n:Nat):(gz n).length=n:=by simp[gz]
def Jf{x:Input}(hx:OI x)(hn:x.aw.length<=60):∀a∈jo x,arcGood x.aw.length a:=by
 obtain⟨hd,oj,hins,hinp,hsw0,Nx⟩:=hx;have hdb:=g0 hd;intro a ha;unfold jo at ha;rcases xd _ _ ha with ha|ha
 ·rcases xd _ _ ha with ha|ha
  ·cases ha
  ·obtain⟨i,_,hi,ha⟩:=gC ha;unfold rI at ha;rcases Zaq.1 ha with ha|ha
   ·obtain⟨m,QD,NX,ha⟩:=gC ha;unfold rM at ha;rcases Zaq.1 ha with ha|ha
    ·obtain⟨t,_,ht,ha⟩:=gC ha;unfold rA at ha;split at ha
     ·rename_i hc;rw[Zan]at ha;subst ha;have:=yK (hdb i m).1 hc.2;refine⟨by simp only;omega,by simp only;omega,by simp only;omega,by simp only;omega,by simp[Fw];omega,this⟩
     ·cases ha
    ·unfold rS at ha;split at ha
     ·rename_i hc;have Xb:m+1<x.aw.length:=by simp[dc]at hc;exact hc.1
      rw[Zan]at ha;subst ha;have:=yK (hdb i m).1 hsw0;refine⟨by simp only;omega,by simp only;omega,by simp only;omega,by simp only;omega,by simp[Fw];omega,this⟩
     ·cases ha
   ·unfold rT at ha;split at ha
    ·rename_i hc;have Xb:i+1<x.aw.length:=by simp[dc]at hc;exact hc.1
     rw[Zan]at ha;subst ha;refine⟨by simp only;omega,by simp only;omega,by simp only;omega,by simp only;omega,by simp,by simp⟩
    ·cases ha
 ·obtain⟨i,_,hi,ha⟩:=gC ha;unfold iI at ha;obtain⟨m,QD,NX,ha⟩:=gC ha;unfold iM at ha;obtain⟨t,_,ht,ha⟩:=gC ha;unfold iT at ha;rw[Zan]at ha;subst ha;have:=yK (hdb i m).1 (hinp (x.insert.getD t default) (by simp[List.getD,ht])).1;refine⟨by simp only;omega,by simp only;omega,by simp only;omega,by simp only;omega,by simp[Fw];omega,this⟩
def OJ(x:Input)(k:Nat):(zU x k).length=2*x.aw.length+1:=by simp[zU]
def BL{x:Input}(ht:x.insert.length<=100)(hn:x.aw.length<=60):(jo x).length<=900000:=by
 unfold jo;have h1:=Fv (ft (iI x) 0 (x.aw.length+1)) (kJ [] (ft (rI x) 0 (x.aw.length+1)));have h2:=Fv (ft (rI x) 0 (x.aw.length+1)) [];have h3:=AR (f:=iI x) (B:=7000) (λk=>iI_len x k ht hn) 0 (x.aw.length+1);have h4:=AR (f:=rI x) (B:=7000) (λk=>rI_len x k ht hn) 0 (x.aw.length+1);simp at h2;omega
section
variable{al:List cw}
def gM{a b:cw}:aY a b=true↔a.f=b.f/\a.t=b.t/\a.term=b.term:=by simp[aY]
def HA(a:cw):aY a a=true:=by simp[aY]
def lA(a b:cw):aY a b=aY b a:=by
 simp only[aY,decide_eq_decide];omega
def rW{a b:cw}(h:aY a b=true)(k:cw):aY k a=aY k b:=by
 rw[gM]at h;simp only[aY,decide_eq_decide];omega
def before_irrefl(a:cw):¬before a a:=by unfold before;omega
def before_trans{a b c:cw}(h:before a b)(h2:before b c):before a c:=by unfold before at*;omega
def HB{a b:cw}(h:before a b):¬before b a:=by unfold before at*;omega
def C4{a b:cw}(h:before a b):aY a b=false:=by
 cases e:aY a b with
 |false=>rfl
 |true=>rw[gM]at e;unfold before at h;omega
def C5{a b:cw}(h1:aY a b=false)(h2:¬before a b):before b a:=by
 have:¬(a.f=b.f/\a.t=b.t/\a.term=b.term):=λe=>by rw[gM.2 e]at h1;cases h1
 unfold before at*;omega
def Kd{a b c:cw}(h:aY a b=true)(h2:before a c):before b c:=by
 rw[gM]at h;unfold before at*;omega
def tX(k:cw)(o:Option cw)(a:cw):Option cw:=
 if a.aH<1099511627776/\aY k a=true then
  match o with
  |none=>some a
  |some b=>if a.aH<b.aH then some a else some b
 else o
def NP(a:cw):List cw->List cw
 |[]=>[a]
 |b::l=>if aY a b=true then(if a.aH<b.aH then a else b)::l else b::NP a l
def addL_eq{a:cw}(h:a.aH<1099511627776)(al:List cw):wv al a=NP a al:=by
 unfold wv;rw[Zai h];induction al with
 |nil=>simp[NP]
 |cons b l ih=>
  rw[Zbh];unfold NP;cases e:aY a b with
  |true=>simp;split<;>rfl
  |false=>
   simp;rw[<-ih];cases hf:l.findIdx? (aY a)with
   |none=>simp
   |some i=>simp;split<;>rfl
def Gr(k a:cw):∀l:List cw,(NP a l).find? (aY k)=if aY k a=true then(match l.find? (aY k)with|none=>some a|some b=>if a.aH<b.aH then some a else some b)else l.find? (aY k)
 |[]=>by unfold NP;rw[Za6];cases aY k a<;>simp
 |b::l=>by
  unfold NP;split
  ·rename_i e;have h1:=rW e k;have h2:aY k (if a.aH<b.aH then a else b)=aY k b:=by split<;>simp[h1]
   rw[Za6,Za6,h2,h1];cases h3:aY k b with
   |true=>simp;split<;>rfl
   |false=>simp
  ·rename_i e;rw[Za6,Za6];cases h3:aY k b with
   |true=>
    have:aY k a=false:=by
     cases h4:aY k a with
     |false=>rfl
     |true=>
      exfalso;apply e;rw[gM]at h3 h4⊢;omega
    simp[this]
   |false=>simp only[];exact Gr k a l
def Ke(k:cw)(cs:List cw):∀al:List cw,(cI al cs).find? (aY k)=cs.foldl (tX k) (al.find? (aY k)):=by
 induction cs with
 |nil=>intro al;rfl
 |cons c cs ih=>
  intro al;show(cI (wv al c) cs).find? (aY k)=_;rw[ih,ZaN]
  congr 1
  by_cases hc:c.aH<1099511627776
  ·rw[addL_eq hc,Gr];unfold tX;simp[hc]
  ·unfold wv tX;rw[Zab hc,Zab (λe=>hc e.1)]
def xO(a:cw):List cw->List cw
 |[]=>[a]
 |b::l=>if aY b a=true then(if a.aH<b.aH then a else b)::l else if before a b then a::b::l else b::xO a l
def xP(a:cw)(l fX:List cw):l.foldl (gu a) (true,fX)=(true,fX++l):=by
 induction l generalizing fX with
 |nil=>simp
 |cons b l ih=>simp only[ZaN,gu];simp[ih]
def HC(a:cw)(p:Bool×List cw):List cw:=if p.1=true then p.2 else p.2++[a]
def Ba(a:cw):∀(l fX:List cw),HC a (l.foldl (gu a) (false,fX))=fX++xO a l
 |[],fX=>by simp[xO,HC]
 |b::l,fX=>by
  rw[ZaN];unfold xO;by_cases h1:aY b a=true
  ·have:gu a (false,fX) b=(true,fX++[if a.aH<b.aH then a else b]):=by simp[gu,h1]
   rw[this,xP];simp[h1,HC]
  ·by_cases h2:before a b
   ·have:gu a (false,fX) b=(true,fX++[a]++[b]):=by simp[gu,h1,h2]
    rw[this,xP];simp[h1,h2,HC]
   ·have:gu a (false,fX) b=(false,fX++[b]):=by simp[gu,h1,h2]
    rw[this,Ba a l];simp[h1,h2]
def Qp{a:cw}(h:a.aH<1099511627776)(l:List cw):xQ l a=xO a l:=by
 unfold xQ;rw[Zab (by omega)];have:=Ba a l [];simp only[ZaG]at this;exact this
def Kf{a c:cw}:∀{l:List cw},c∈xO a l->c=a\/c∈l
 |[],h=>by simp[xO]at h;exact .inl h
 |b::l,h=>by
  unfold xO at h;split at h
  ·rcases Zah.1 h with h|h
   ·split at h
    ·exact .inl h
    ·exact .inr (by simp[h])
   ·exact .inr (by simp[h])
  ·split at h
   ·rcases Zah.1 h with h|h
    ·exact .inl h
    ·exact .inr h
   ·rcases Zah.1 h with h|h
    ·exact .inr (by simp[h])
    ·rcases Kf h with h|h
     ·exact .inl h
     ·exact .inr (by simp[h])
def Bb{a:cw}:∀{l:List cw},l.Pairwise before->(xO a l).Pairwise before
 |[],_=>by simp[xO]
 |b::l,h=>by
  rw[Za0]at h;unfold xO;split
  ·rename_i e;rw[Za0];refine⟨λc hc=>?_,h.2⟩;split
   ·exact Kd e (h.1 c hc)
   ·exact h.1 c hc
  ·rename_i e;split
   ·rename_i e2;rw[Za0];refine⟨λc hc=>?_,Za0.2 h⟩;rcases Zah.1 hc with rfl|hc
    ·exact e2
    ·exact before_trans e2 (h.1 c hc)
   ·rename_i e2;rw[Za0];refine⟨λc hc=>?_,Bb h.2⟩;rcases Kf hc with rfl|hc
    ·exact C5 (by rw[lA];simpa using e) e2
    ·exact h.1 c hc
def Gs(k a:cw):∀l:List cw,l.Pairwise before->(xO a l).find? (aY k)=if aY k a=true then(match l.find? (aY k)with|none=>some a|some b=>if a.aH<b.aH then some a else some b)else l.find? (aY k)
 |[],_=>by unfold xO;rw[Za6];cases aY k a<;>simp
 |b::l,h=>by
  rw[Za0]at h;unfold xO;split
  ·rename_i e;rw[lA]at e;have h1:=rW e k;have h2:aY k (if a.aH<b.aH then a else b)=aY k b:=by split<;>simp[h1]
   rw[Za6,Za6,h2,h1];cases h3:aY k b with
   |true=>simp;split<;>rfl
   |false=>simp
  ·rename_i e;split
   ·rename_i e2;rw[Za6];cases h3:aY k a with
    |true=>
     have:(b::l).find? (aY k)=none:=by
      rw[ZcX];intro c hc hk;have hb:before a c:=by
       rcases Zah.1 hc with rfl|hc
       ·exact e2
       ·exact before_trans e2 (h.1 c hc)
      have:=C4 hb;rw[gM]at h3 hk;rw[gM.2 (by omega)]at this;cases this
     rw[this];rfl
    |false=>rfl
   ·rename_i e2;rw[Za6,Za6];cases h3:aY k b with
    |true=>
     have:aY k a=false:=by
      cases h4:aY k a with
      |false=>rfl
      |true=>
       exfalso;apply e;rw[gM]at h3 h4⊢;omega
     simp[this]
    |false=>simp only[];exact Gs k a l h.2
def Bc{l:List cw}(h:l.Pairwise before)(a:cw):(xQ l a).Pairwise before:=by
 by_cases hc:a.aH<1099511627776
 ·rw[Qp hc];exact Bb h
 ·unfold xQ;rw[Zai (by omega)];exact h
def vX(cs:List cw):∀{al:List cw},al.Pairwise before->(kJ al cs).Pairwise before:=by
 induction cs with
 |nil=>intro al h;exact h
 |cons c cs ih=>intro al h;exact ih (Bc h c)
def Bd(k:cw)(cs:List cw):∀{al:List cw},al.Pairwise before->(kJ al cs).find? (aY k)=cs.foldl (tX k) (al.find? (aY k)):=by
 induction cs with
 |nil=>intro al h;rfl
 |cons c cs ih=>
  intro al h;show(kJ (xQ al c) cs).find? (aY k)=_;rw[ih (Bc h c),ZaN]
  congr 1
  by_cases hc:c.aH<1099511627776
  ·rw[Qp hc,Gs k c al h];unfold tX;simp[hc]
  ·unfold xQ tX;rw[Zai (by omega),Zab (λe=>hc e.1)]
def qL:∀{l:List cw},l.Pairwise (λa b=>aY a b=false)->∀a,a∈l↔l.find? (aY a)=some a
 |[],_,a=>by simp
 |b::l,h,a=>by
  rw[Za0]at h;rw[Za6,Zah];cases e:aY a b with
  |true=>
   simp only[Zaa];constructor
   ·rintro(h2|h2)
    ·exact h2.symm
    ·have:=h.1 a h2;rw[lA,e]at this;cases this
   ·exact λh2=>.inl h2.symm
  |false=>
   rw[<-qL h.2 a];constructor
   ·rintro(h2|h2)
    ·subst h2;rw[HA]at e;cases e
    ·exact h2
   ·exact .inr
def C6:∀{l1 l2:List cw},l1.Pairwise before->l2.Pairwise before->(∀a,a∈l1↔a∈l2)->l1=l2
 |[],[],_,_,_=>rfl
 |[],b::t,_,_,h=>Zar ((h b).2 (by simp)) (by simp)
 |a::t,[],_,_,h=>Zar ((h a).1 (by simp)) (by simp)
 |a::t1,b::t2,h1,h2,h=>by
  rw[Za0]at h1 h2;have e:a=b:=by
   have ha:=(h a).1 (by simp);have hb:=(h b).2 (by simp);rcases Zah.1 ha with ha|ha
   ·exact ha
   ·rcases Zah.1 hb with hb|hb
    ·exact hb.symm
    ·exact Zar (h1.1 b hb) (HB (h2.1 a ha))
  subst e
  congr 1
  refine C6 h1.2 h2.2 λx=>?_;constructor
  ·intro hx;rcases Zah.1 ((h x).1 (by simp[hx]))with e|e
   ·subst e;exact Zar (h1.1 x hx) (before_irrefl x)
   ·exact e
  ·intro hx;rcases Zah.1 ((h x).2 (by simp[hx]))with e|e
   ·subst e;exact Zar (h2.1 x hx) (before_irrefl x)
   ·exact e
def Be{l:List cw}(h:l.Pairwise before):l.Pairwise (λa b=>aY a b=false):=h.imp C4
def ww{l:List cw}(h:(l.map cN).Nodup):l.Pairwise (λa b=>aY a b=false):=by
 unfold List.Nodup at h;rw[ZcD]at h;refine h.imp λ{a b} hab=>?_;cases e:aY a b with
 |false=>rfl
 |true=>exact Zar (rX.2 e) hab
def Gt{α:Type}(lt:α->α->Bool)(x:α):∀l:List α,(qM lt x l).Perm (x::l)
 |[]=>Zdc _
 |y::ys=>by
  simp only[qM];split
  ·exact((Gt lt x ys).cons y).trans (List.Perm.swap x y ys)
  ·exact Zdc _
def Kg{α:Type}(lt:α->α->Bool)(l:List α):(kj lt l).Perm l:=by
 have key:∀(l fX:List α),(l.foldl (λfX x=>qM lt x fX) fX).Perm (l++fX):=by
  intro l;induction l with
  |nil=>intro fX;exact Zdc _
  |cons x l ih=>
   intro fX;rw[ZaN];refine(ih _).trans ?_;refine((Gt lt x fX).append_left l).trans ?_;exact List.perm_middle
 unfold kj C7;refine(List.reverse_perm _).trans ?_;simpa using key l []
def wA(h:(al.map cN).Nodup){a:cw}(ha:a∈al):qN al (cN a)=a:=by
 have h1:=(u5 ha).1;have h2:=(u5 ha).2.1;have h3:=(qL (ww h) a).1 ha;have h4:=(qL (ww h) _).1 h2;have e:aY (qN al (cN a))=aY a:=by
  funext b;rw[lA _ b,lA _ b];exact(rW h1 b).symm
 rw[e,h3]at h4;exact(ZbU h4).symm
def HD(h:(al.map cN).Nodup)(a:cw):a∈km al↔a∈al:=by
 unfold km;rw[Zak];constructor
 ·rintro⟨r,hr,rfl⟩;rw[u6]at hr;obtain⟨b,hb,rfl⟩:=Zak.1 hr;exact(u5 hb).2.1
 ·intro ha;exact⟨cN a,by rw[u6];exact Zak.2 ⟨a,ha,rfl⟩,wA h ha⟩
def B3(h:(al.map cN).Nodup):(km al).Pairwise before:=by
 unfold km;rw[ZcD];have h1:(kj (zR fa) (al.map cN)).Nodup:=(Kg _ _).symm.nodup h;have h2:=rY Kh (al.map cN);unfold wB at h2;unfold List.Nodup at h1;refine(h1.and h2).imp_of_mem λ{r s} hr hs mt=>?_;rw[u6]at hr hs;obtain⟨a,ha,rfl⟩:=Zak.1 hr;obtain⟨b,hb,rfl⟩:=Zak.1 hs;rw[wA h ha,wA h hb];have h3:aY a b=false:=by
  cases e:aY a b with
  |false=>rfl
  |true=>exact Zar (rX.2 e) mt.1
 by_cases fH:before a b
 ·exact fH
 ·exfalso;have h4:=C5 h3 fH;have h5:=mt.2;rw[u7]at h5;apply h5;simp only[cN,ko,dH,lt3,List.getD_cons_zero,Zcu];exact h4
end
section
variable{aH:Int}{ops:List (Int×Int)}
def pK(k a:cw):Bool:=aY k a&&decide (a.aH<1099511627776)
def Bf(k:cw)(cs:List cw):∀o,cs.foldl (tX k) o=(cs.filter (pK k)).foldl (tX k) o:=by
 induction cs with
 |nil=>intro o;rfl
 |cons c cs ih=>
  intro o;rw[ZaN,Za4,ih];split
  ·rfl
  ·rename_i h
   congr 1
   unfold tX;rw[Zab];rintro⟨h1,h2⟩;apply h;simp[pK,h1,h2]
def tY{α β:Type}(p:β->Bool)(f:α->List β)(l:List α):(l.flatMap f).filter p=l.flatMap λa=>(f a).filter p:=by
 induction l with
 |nil=>rfl
 |cons a l ih=>simp[Zbt,List.filter_append,ih]
def mu{p:cw->Bool}{f:Nat->List cw}{i:Nat}(k0:Nat)(h:∀k,k≠k0->(f k).filter p=[]):∀m,(ft f i m).filter p=if i<=k0/\k0<m then(f k0).filter p else []:=by
 intro m;by_cases him:m<=i
 ·rw[show ft f i m=[]by unfold ft;rw[show m-i=0 by omega];rfl,Zab (by omega)];rfl
 obtain⟨d,rfl⟩:∃d,m=i+d:=⟨m-i,by omega⟩;clear him;induction d with
 |zero=>rw[ZbV,ft_nil,Zab (by omega)];rfl
 |succ d ih=>
  rw[<-Nat.add_assoc,ft_succ f (by omega),List.filter_append,ih];by_cases e:i+d=k0
  ·rw[Zab (by omega),Zai (by omega),e];rfl
  ·rw[h _ e];by_cases e2:i<=k0/\k0<i+d
   ·rw[Zai e2,Zai (by omega)];simp
   ·rw[Zab e2,Zab (by omega)];rfl
def dQ{p:cw->Bool}{l:List cw}(h:∀a∈l,p a=false):l.filter p=[]:=by
 rw[List.filter_eq_nil_iff];intro a ha;simp[h a ha]
def lD{k a:cw}(h:¬(k.f=a.f/\k.t=a.t/\k.term=a.term)):pK k a=false:=by
 have:aY k a=false:=by
  cases e:aY k a with
  |false=>rfl
  |true=>exact Zar (gM.1 e) h
 simp[pK,this]
def NQ{k:cw}{f t x c d:Int}{o:List (Int×Int)}(hc:0<=c)(hd:0<=d):[(⟨f,t,x,c+d,o⟩:cw)].filter (pK k)=[(⟨f,t,x,zS c d,o⟩:cw)].filter (pK k):=by
 by_cases h:c+d<1099511627776
 ·have:zS c d=c+d:=by unfold zS;rw[Zab (by omega)]
  rw[this]
 ·have:zS c d=1099511627776:=by unfold zS;rw[Zai (by omega)]
  rw[this];have h1:pK k ⟨f,t,x,c+d,o⟩=false:=by simp[pK,h]
  have h2:pK k ⟨f,t,x,1099511627776,o⟩=false:=by simp[pK]
  simp[h1,h2]
def Gu{read:bO}{i m:Int}{n:Nat}{a:cw}(h:a∈mf read i m aH ops n):∃t:Nat,t<n/\0<=read.getD t 0/\a=⟨2*i,2*m+2,t,aH+read.getD t 0,ops++[(1,(t:Int))]⟩:=by
 unfold mf at h;rw[ZaV]at h;obtain⟨t,ht,h⟩:=h;rw[Za2]at ht;split at h
 ·rw[Zan]at h;exact⟨t,ht,by assumption,h⟩
 ·simp at h
def Xt{b7:bO}{i m:Int}{n:Nat}{a:cw}(h:a∈tZ b7 i m aH ops n):∃t:Nat,t<n/\a=⟨2*i,2*m,(t:Int),aH+b7.getD t 0,ops++[(3,(t:Int))]⟩:=by
 unfold tZ at h;rw[Zak]at h;obtain⟨t,ht,h⟩:=h;rw[Za2]at ht;exact⟨t,ht,h.symm⟩
def C8(x:Input)(i m:Nat):List cw:=if dc x m then [⟨2*i,2*m+1,(x.aw.getD (m+1) default).kind,og x i m+x.swap,gz (m-i)++[(4,0)]⟩]else []
def Gv{x:Input}{i m:Nat}{a:cw}(h:a∈C8 x i m):dc x m=true/\a=⟨2*i,2*m+1,(x.aw.getD (m+1) default).kind,og x i m+x.swap,gz (m-i)++[(4,0)]⟩:=by
 unfold C8 at h;split at h
 ·exact⟨by assumption,by simpa using h⟩
 ·simp at h
def Xu{x:Input}{i m:Nat}{a:cw}(h:a∈rS x i m):dc x m=true/\a.f=2*i/\a.t=2*m+1:=by
 unfold rS at h;split at h
 ·simp at h;subst h;exact⟨by assumption,rfl,rfl⟩
 ·simp at h
def HE{x:Input}{i:Nat}{a:cw}(h:a∈rT x i):dc x i=true/\a=⟨2*i+1,2*i+4,(x.aw.getD i default).kind,0,[]⟩:=by
 unfold rT at h;split at h
 ·exact⟨by assumption,by simpa using h⟩
 ·simp at h
def NR{x:Input}{i m t:Nat}{a:cw}(h:a∈rA x i m t):m<x.aw.length/\a.f=2*i/\a.t=2*m+2/\a.term=t:=by
 unfold rA at h;split at h
 ·rename_i h2;simp at h;subst h;exact⟨h2.1,rfl,rfl,rfl⟩
 ·simp at h
def mem_iT{x:Input}{i m t:Nat}{a:cw}(h:a∈iT x i m t):a.f=2*i/\a.t=2*m/\a.term=t:=by
 simp[iT]at h;subst h;exact⟨rfl,rfl,rfl⟩
def Ki(x:Input)(i:Nat):t6 x i=ft (th x i) i (x.aw.length+1)++rT x i:=rfl
def Vf{x:Input}{i m:Nat}{a:cw}(h:a∈th x i m):(i<m/\a∈Bg x i (m-1))\/a∈tZ x.insert i m (og x i m) (gz (m-i)) x.insert.length\/a∈C8 x i m:=by
 unfold th at h;rw[Zaq,Zaq]at h;rcases h with h|h|h
 ·split at h
  ·exact .inl ⟨by assumption,h⟩
  ·simp at h
 ·exact .inr (.inl h)
 ·exact .inr (.inr h)
def HF{x:Input}{i m:Nat}{a:cw}(h:a∈th x i m):a.f=2*i/\(a.t=2*m\/a.t=2*m+1):=by
 rcases Vf h with⟨h1,h⟩|h|h
 ·obtain⟨t,_,_,rfl⟩:=Gu h;exact⟨rfl,.inl (by simp only;omega)⟩
 ·obtain⟨t,_,rfl⟩:=Xt h;exact⟨rfl,.inl rfl⟩
 ·obtain⟨_,rfl⟩:=Gv h;exact⟨rfl,.inr rfl⟩
def fromL_f{x:Input}{i:Nat}{a:cw}(h:a∈t6 x i):a.f=2*i\/a.f=2*i+1:=by
 rw[Ki,Zaq]at h;rcases h with h|h
 ·obtain⟨m,_,_,h⟩:=gC h;exact .inl (HF h).1
 ·obtain⟨_,rfl⟩:=HE h;exact .inr rfl
def rM_f{x:Input}{i m:Nat}{a:cw}(h:a∈rM x i m):a.f=2*i/\(a.t=2*m+2/\m<x.aw.length\/a.t=2*m+1):=by
 unfold rM at h;rw[Zaq]at h;rcases h with h|h
 ·obtain⟨t,_,_,h⟩:=gC h;have:=NR h;exact⟨this.2.1,.inl ⟨this.2.2.1,this.1⟩⟩
 ·have:=Xu h;exact⟨this.2.1,.inr this.2.2⟩
def rI_f{x:Input}{i:Nat}{a:cw}(h:a∈rI x i):a.f=2*i\/a.f=2*i+1:=by
 unfold rI at h;rw[Zaq]at h;rcases h with h|h
 ·obtain⟨m,_,_,h⟩:=gC h;exact .inl (rM_f h).1
 ·obtain⟨_,rfl⟩:=HE h;exact .inr rfl
def iM_f{x:Input}{i m:Nat}{a:cw}(h:a∈iM x i m):a.f=2*i/\a.t=2*m:=by
 unfold iM at h;obtain⟨t,_,_,h⟩:=gC h;have:=mem_iT h;exact⟨this.1,this.2.1⟩
def iI_f{x:Input}{i:Nat}{a:cw}(h:a∈iI x i):a.f=2*i:=by
 unfold iI at h;obtain⟨m,_,_,h⟩:=gC h;exact(iM_f h).1
def nnX(x:Input):Prop:=(∀p∈x.insert,0<=p)/\0<=x.swap
def Kj{x:Input}(hn:nnX x)(hd:tj x.aw)(k:cw)(i m:Nat):(C8 x i m).filter (pK k)=(rS x i m).filter (pK k):=by
 unfold C8 rS;split
 ·exact NQ (g0 hd i m).1 hn.2
 ·rfl
def Kk{x:Input}(hd:tj x.aw)(hr:∀c∈x.aw,c.read.length=x.insert.length)(k:cw){i m:Nat}(hm:m<x.aw.length):(Bg x i m).filter (pK k)=(ft (rA x i m) 0 x.insert.length).filter (pK k):=by
 have hc:(x.aw.getD m default).read.length=x.insert.length:=hr _ (by simp[List.getD,hm]);unfold Bg mf ft;rw[hc,tY,tY,Zcb]
 congr 1
 funext t;rw[Zbi];unfold rA NS;have hcol:(default:Int)=0:=rfl;rw[hcol];by_cases h:0<=(x.aw.getD m default).read.getD t 0
 ·rw[Zai h,Zai ⟨hm,h⟩];exact NQ (g0 hd i m).1 h
 ·rw[Zab h,Zab (λe=>h e.2)]
def C9{x:Input}(hn:nnX x)(hd:tj x.aw)(k:cw)(i m:Nat):(tZ x.insert i m (og x i m) (gz (m-i)) x.insert.length).filter (pK k)=(iM x i m).filter (pK k):=by
 unfold tZ iM ft;rw[tY,Zcb];have:∀l:cO,(∀t∈l,t<x.insert.length)->(l.map λ(t:Nat)=>(⟨2*i,2*m,(t:Int),og x i m+x.insert.getD t 0,gz (m-i)++[(3,(t:Int))]⟩:cw)).filter (pK k)=l.flatMap λt=>(iT x i m (0+t)).filter (pK k):=by
  intro l;induction l with
  |nil=>intro _;rfl
  |cons t l ih=>
   intro ht;rw[ZaA,Zbt,<-ih λt h=>ht t (by simp[h])];have e:iT x i m (0+t)=[⟨2*i,2*m,t,zS (og x i m) (x.insert.getD t default),gz (m-i)++[(3,(t:Int))]⟩]:=by rw[Zbi];rfl
   have HG:=ht t (by simp);have hp:0<=x.insert.getD t 0:=hn.1 _ (by simp[List.getD,HG]);rw[e,<-List.singleton_append (l:=List.map _ l),List.filter_append]
   congr 1
   exact NQ (g0 hd i m).1 hp
 exact this _ λt ht=>Za2.1 ht
def NT{x:Input}(hn:nnX x)(hd:tj x.aw)(hr:∀c∈x.aw,c.read.length=x.insert.length)(k:cw):
  (xR x (x.aw.length+1)).filter (pK k)=(ft (rI x) 0 (x.aw.length+1)++ft (iI x) 0 (x.aw.length+1)).filter (pK k):=by
 have e1:xR x (x.aw.length+1)=ft (t6 x) 0 (x.aw.length+1):=by simp[xR,ft]
 obtain⟨n,hN⟩:=bb x.aw.length;rw[e1,List.filter_append];have out:∀(f:Nat->List cw),(∀i,∀a∈f i,a.f=2*i\/a.f=2*i+1)->∀j,j≠(k.f/2).toNat->(f j).filter (pK k)=[]:=by
  intro f hf j hj;refine dQ λa ha=>lD λe=>hj ?_;have:=hf j a ha;omega
 rw[mu _ (out _ λi a=>fromL_f),mu _ (out _ λi a=>rI_f),mu _ (out _ λi a h=>.inl (iI_f h))];obtain⟨i,hi⟩:=bb ((k.f/2).toNat);rw[hi];by_cases hin:0<=i/\i<x.aw.length+1
 case neg=>rw[Zab hin,Zab hin,Zab hin];rfl
 rw[Zai hin,Zai hin,Zai hin];rw[Ki];unfold rI iI;rw[List.filter_append,List.filter_append];by_cases hodd:k.f=2*i
 case neg=>
  have h1:(ft (th x i) i (x.aw.length+1)).filter (pK k)=[]:=dQ λa ha=>lD λe=>by
   obtain⟨m,_,_,h⟩:=gC ha;have:=(HF h).1;omega
  have h2:(ft (rM x i) i (x.aw.length+1)).filter (pK k)=[]:=dQ λa ha=>lD λe=>by
   obtain⟨m,_,_,h⟩:=gC ha;have:=(rM_f h).1;omega
  have h3:(ft (iM x i) i (x.aw.length+1)).filter (pK k)=[]:=dQ λa ha=>lD λe=>by
   obtain⟨m,_,_,h⟩:=gC ha;have:=(iM_f h).1;omega
  rw[h1,h2,h3];simp
 have hT:(rT x i).filter (pK k)=[]:=dQ λa ha=>lD λe=>by
  obtain⟨_,rfl⟩:=HE ha;simp only at e;omega
 rw[hT,ZaC,ZaC];have outC:∀m,m≠(k.t/2).toNat->(th x i m).filter (pK k)=[]:=λm hm=>dQ λa ha=>lD λe=>by
  have:=(HF ha).2;omega
 have outI:∀m,m≠(k.t/2).toNat->(iM x i m).filter (pK k)=[]:=λm hm=>dQ λa ha=>lD λe=>by
  have:=(iM_f ha).2;omega
 rw[mu _ outC,mu _ outI];obtain⟨m,hm⟩:=bb ((k.t/2).toNat);rw[hm]at outC outI⊢;have hcand:(th x i m).filter (pK k)=(if i<m then Bg x i (m-1)else []).filter (pK k)++((tZ x.insert i m (og x i m) (gz (m-i)) x.insert.length).filter (pK k)++(C8 x i m).filter (pK k)):=by
  rw[<-List.filter_append,<-List.filter_append];rfl
 by_cases hev:k.t=2*m
 ·
  have Nx:(C8 x i m).filter (pK k)=[]:=dQ λa ha=>lD λe=>by
   obtain⟨_,rfl⟩:=Gv ha;simp only at e;omega
  have outR:∀j,j≠(if m=0 then n+1 else m-1)->(rM x i j).filter (pK k)=[]:=λj hj=>dQ λa ha=>lD λe=>by
   have:=(rM_f ha).2;split at hj<;>omega
  rw[mu _ outR,hcand,Nx,ZaC,C9 hn hd k i m];by_cases hm0:m=0
  ·rw[Zai hm0];have h5:¬(i<=n+1/\n+1<x.aw.length+1):=by omega
   have h6:¬i<m:=by omega
   rw[Zab h5,Zab h6];simp
  ·rw[Zab hm0];obtain⟨q,rfl⟩:∃q,m=q+1:=⟨m-1,by omega⟩;rw[Zcz];have hrM:(rM x i q).filter (pK k)=(ft (rA x i q) 0 x.insert.length).filter (pK k):=by
    have:(rS x i q).filter (pK k)=[]:=dQ λa ha=>lD λe=>by
     have:=(Xu ha).2.2;omega
    unfold rM;rw[List.filter_append,this,ZaC]
   by_cases hq:q<x.aw.length
   ·by_cases hiq:i<q+1
    ·rw[Zai hiq,Zai ⟨by omega,by omega⟩,Zai ⟨by omega,by omega⟩,hrM,Kk hd hr k hq];rw[Zai ⟨by omega,by omega⟩]
    ·rw[Zab hiq];by_cases hiq2:i=q+1
     ·rw[Zai ⟨by omega,by omega⟩,Zab (by omega),Zai ⟨by omega,by omega⟩];simp
     ·rw[Zab (by omega),Zab (by omega),Zab (by omega)];simp
   ·have hz:(rM x i q).filter (pK k)=[]:=by
     rw[hrM];refine dQ λa ha=>?_;obtain⟨t,_,_,h⟩:=gC ha;exact Zar (NR h).1 hq
    rw[hz,Zab (by omega)];have h5:¬(i<=q+1/\q+1<x.aw.length+1):=by omega
    rw[Zab h5];simp
 ·
  have outR:∀j,j≠m->(rM x i j).filter (pK k)=[]:=λj hj=>dQ λa ha=>lD λe=>by
   have:=(rM_f ha).2;omega
  rw[mu _ outR];have h1:(iM x i m).filter (pK k)=[]:=dQ λa ha=>lD λe=>by
   have:=(iM_f ha).2;omega
  have h2:(tZ x.insert i m (og x i m) (gz (m-i)) x.insert.length).filter (pK k)=[]:=by rw[C9 hn hd,h1]
  have h3:(if i<m then Bg x i (m-1)else []).filter (pK k)=[]:=dQ λa ha=>lD λe=>by
   split at ha
   ·obtain⟨t,_,_,rfl⟩:=Gu ha;simp only at e;omega
   ·simp at ha
  have h4:(rM x i m).filter (pK k)=(rS x i m).filter (pK k):=by
   have:(ft (rA x i m) 0 x.insert.length).filter (pK k)=[]:=dQ λa ha=>lD λe=>by
    obtain⟨t,_,_,h⟩:=gC ha;have:=(NR h).2.2.1;omega
   unfold rM;rw[List.filter_append,this,ZaG]
  rw[hcand,h1,h2,h3,h4,Kj hn hd];simp
def qt(x:Input):((lE x).map cN).Nodup:=xS _ (by simp)
def lF(x:Input):(jo x).Pairwise before:=vX _ (vX _ List.Pairwise.nil)
def Gw{x:Input}(hn:nnX x)(hd:tj x.aw)(hr:∀c∈x.aw,c.read.length=x.insert.length):km (lE x)=jo x:=by
 refine C6 (B3 (qt x)) (lF x) λa=>?_;rw[HD (qt x),qL (ww (qt x)),qL (Be (lF x))];unfold lE jo;rw[Ke,<-vY,Bd _ _ List.Pairwise.nil,Bf,NT hn hd hr,<-Bf]
def Xv(x:Input):zT x=zU x (2*x.aw.length+1):=by
 unfold zT zU;apply Zbq;intro s hs;rw[Za2]at hs;rw[Zai hs]
def NU{x:Input}(hn:nnX x)(hd:tj x.aw)(hr:∀c∈x.aw,c.read.length=x.insert.length):nK x=ci x:=by
 unfold nK ci;rw[Gw hn hd hr,Xv]
end
def Xw(k:cw)(cs:List cw):∀o a,cs.foldl (tX k) o=some a->o=some a\/(a∈cs/\a.aH<1099511627776):=by
 induction cs with
 |nil=>intro o a h;exact .inl h
 |cons c cs ih=>
  intro o a h;rw[ZaN]at h;rcases ih _ _ h with h|⟨h1,h2⟩
  ·unfold tX at h;split at h
   ·rename_i hc;split at h
    ·simp only[Zaa]at h;subst h;exact .inr ⟨by simp,hc.1⟩
    ·split at h
     ·simp only[Zaa]at h;subst h;exact .inr ⟨by simp,hc.1⟩
     ·exact .inl h
   ·exact .inl h
  ·exact .inr ⟨by simp[h1],h2⟩
def Bh{x:Input}{a:cw}(h:a∈jo x):(a∈ft (rI x) 0 (x.aw.length+1)\/a∈ft (iI x) 0 (x.aw.length+1))/\a.aH<1099511627776:=by
 have h1:=(qL (Be (lF x)) a).1 h;unfold jo at h1;rw[<-vY,Bd _ _ List.Pairwise.nil]at h1;rcases Xw _ _ _ _ h1 with h2|⟨h2,h3⟩
 ·cases h2
 ·exact⟨Zaq.1 h2,h3⟩
def Xx{a b:Int}(ha:0<=a)(hb:1<=b):1<=zS a b:=by unfold zS;split<;>omega
def HH(al:List cw):(km al).length=al.length:=by simp[km,xT]
section
variable{α:Type}{ts:aK}
def intTy:Ty:=.int .i64
def Wm:maxLen=9223372036854775807:=by decide
def rows_of{enc:α->aK}{av:List (aK)}(h:∀r∈av,∃x,r=enc x):∃l:List α,av=l.map enc:=by
 induction av with
 |nil=>exact⟨[],rfl⟩
 |cons r av ih=>
  obtain⟨x,rfl⟩:=h r (Zbl ..);obtain⟨l,rfl⟩:=ih λr hr=>h r (Zbg _ hr);exact⟨x::l,rfl⟩
def lT(h:Ty.pO (.int .i64) ts):∃x,ts=[ti x]:=by
 simp only[Ty.pO]at h;obtain⟨x,rfl,_⟩:=h;exact⟨x,rfl⟩
def zg{enc:α->aK}{e:Ty}(he:∀r,Ty.pO e r->∃x,r=enc x)(h:Ty.pO (.slice e) ts):∃l:List α,ts=[.sl (l.map enc)]/\l.length<=9223372036854775807:=by
 simp only[Ty.pO]at h;obtain⟨av,rfl,hl,hr⟩:=h;obtain⟨l,rfl⟩:=rows_of λr gD=>he r (hr r gD);rw[Wm,Zbn]at hl;exact⟨l,rfl,hl⟩
def all_cons{t:Ty}{vQ:List Ty}(h:Ty.kL (t::vQ) ts):∃a b,ts=a++b/\t.pO a/\Ty.kL vQ b:=by simpa only[Ty.kL]using h
def CR(h:Ty.kL [] ts):ts=[]:=by simpa only[Ty.kL]using h
def seq_of{fs:List Ty}(h:Ty.pO (.seq fs) ts):Ty.kL fs ts:=by simpa only[Ty.pO]using h
def colTy:Ty:=.seq [.int .i64,.slice intTy,.int .i64]
def Jz:Ty:=.seq [.slice colTy,.slice intTy,.int .i64]
def col_of(h:colTy.pO ts):∃r:cK,ts=r.enc:=by
 obtain⟨_,_,rfl,h1,h⟩:=all_cons (seq_of h);obtain⟨_,_,rfl,h2,h⟩:=all_cons h;obtain⟨_,_,rfl,h3,h⟩:=all_cons h;obtain rfl:=CR h;obtain⟨a,rfl⟩:=lT h1;obtain⟨l,rfl,hl⟩:=zg (λr=>lT) h2;obtain⟨c,rfl⟩:=lT h3;exact⟨⟨a,l,c⟩,rfl⟩
def input_of{x:T}(h:Jz.arg x):∃l:Input,x=l.enc/\l.aw.length<=9223372036854775807/\l.insert.length<=9223372036854775807:=by
 unfold Jz Ty.arg at h;obtain⟨ts,rfl,h⟩:=h;obtain⟨_,_,rfl,h1,h⟩:=all_cons h;obtain⟨_,_,rfl,h2,h⟩:=all_cons h;obtain⟨_,_,rfl,h3,h⟩:=all_cons h;obtain rfl:=CR h;obtain⟨l,rfl,hl⟩:=zg (λr=>col_of) h1;obtain⟨f,rfl,hf⟩:=zg (λr=>lT) h2;obtain⟨a,rfl⟩:=lT h3;exact⟨⟨l,f,a⟩,rfl,hl,hf⟩
end
namespace cC
section
variable{α:Type}
structure di where
 (kind head a b cq origin:Int)
 deriving DecidableEq,Inhabited
abbrev Cf:=List di
structure aD where
 (aL an start:Int)
 au:Cf
structure c8 where
 (aH size:Int)
 deriving DecidableEq,Inhabited
abbrev bR:=List c8
structure Cell where
 (aH size qE arg:Int)
 deriving DecidableEq,Inhabited
abbrev eV:=List Cell
structure d6 where
 (an bn:Int)
 cells:eV
abbrev Cell.val(c:Cell):c8:=⟨c.aH,c.size⟩
def cF:ay aj (bu []):=ay.nil
def di.enc(r:di):aK:=[ti r.kind,ti r.head,ti r.a,ti r.b,ti r.cq,ti r.origin]
def aU(l:Cf):List (aK):=l.map di.enc
def aD.enc(n:aD):T:=.agg [ti n.aL,ti n.an,ti n.start,.sl (aU n.au)]
def bC(l:bR):List (aK):=l.map λv=>[ti v.aH,ti v.size]
def Cell.enc(c:Cell):aK:=[ti c.aH,ti c.size,ti c.qE,ti c.arg]
def cu(l:eV):List (aK):=l.map Cell.enc
def d6.enc(c:d6):T:=.agg [ti c.an,ti c.bn,.sl (cu c.cells)]
def jW:aK->di
 |[a,b,c,d,e,f]=>⟨dH a,dH b,dH c,dH d,dH e,dH f⟩
 |_=>default
def Fi(l:List (aK)):Cf:=l.map jW
def mT(l:List (aK)):bR:=l.map fun|[a,b]=>⟨dH a,dH b⟩|_=>default
def Jg:aK->Cell
 |[a,b,c,d]=>⟨dH a,dH b,dH c,dH d⟩
 |_=>default
def Fj(l:List (aK)):eV:=l.map Jg
def Mm:T->aD
 |.agg [a,b,c,.sl r]=>⟨dH a,dH b,dH c,Fi r⟩
 |_=>⟨0,0,0,[]⟩
def Pc:T->d6
 |.agg [a,b,.sl r]=>⟨dH a,dH b,Fj r⟩
 |_=>⟨0,0,[]⟩
@[simp] def p8(r:di):jW r.enc=r:=by simp[jW,di.enc,dH]
@[simp] def decRules_enc(l:Cf):Fi (aU l)=l:=gq p8 l
@[simp] def decVals_enc(l:bR):mT (bC l)=l:=gq (λ_=>rfl) l
@[simp] def Mn(r:Cell):Jg r.enc=r:=by simp[Jg,Cell.enc,dH]
@[simp] def decCells_enc(l:eV):Fj (cu l)=l:=gq Mn l
@[simp] def decN_enc'(a b c:Int)(l:Cf):Mm (.agg [ti a,ti b,ti c,.sl (aU l)])=⟨a,b,c,l⟩:=by simp[Mm,dH]
@[simp] def decN_enc(n:aD):Mm n.enc=n:=by simp[aD.enc]
@[simp] def decC_enc'(a b:Int)(l:eV):Pc (.agg [ti a,ti b,.sl (cu l)])=⟨a,b,l⟩:=by simp[Pc,dH]
@[simp] def decC_enc(n:d6):Pc n.enc=n:=by simp[d6.enc]
@[simp] def rulesT_len(l:Cf):(aU l).length=l.length:=by simp[aU]
@[simp] def valsT_len(l:bR):(bC l).length=l.length:=by simp[bC]
@[simp] def cellsT_len(l:eV):(cu l).length=l.length:=by simp[cu]
def kZ{l:Cf}{y:Nat}(h:y<l.length):DM.rowAt (aU l) y=(l.getD y default).enc:=by simp[DM.rowAt,aU,h]
def dd{l:bR}{y:Nat}(h:y<l.length):DM.rowAt (bC l) y=[ti (l.getD y default).aH,ti (l.getD y default).size]:=by simp[DM.rowAt,bC,h]
def BO{l:eV}{y:Nat}(h:y<l.length):DM.rowAt (cu l) y=(l.getD y default).enc:=by simp[DM.rowAt,cu,h]
@[simp] def V6:bC []=[]:=rfl
@[simp] def cellsT_nil:cu []=[]:=rfl
def bm [Inhabited α]{l:List α}{i:Nat}(h:i<l.length):l.getD i default∈l:=by simp[List.getD,h]
def c8.lt(a b:c8):Prop:=a.aH<b.aH\/(a.aH=b.aH/\a.size<b.size)
instance(a b:c8):Decidable (a.lt b):=by unfold c8.lt;infer_instance
def t92(u v:c8):bl aj 97 [.agg [ti u.aH,ti u.size],.agg [ti v.aH,ti v.size]] (.bool (decide (u.lt v))):=by
 obtain⟨a,b⟩:=u;obtain⟨c,d⟩:=v;obtain⟨c1,bU⟩:=bb (decide ((⟨a,b⟩:c8).lt ⟨c,d⟩):Bool);rw[bU];simp only[c8.lt]at bU;have aC:=cF;refine c92.ok (by simp) (aO ?_);simp;apply aa.ag aC fw [2,3];simp[d92r0];refine aa.le (Le.bi (o:=[]) (l:=[(2,.v (.box [ti a,ti b])),(3,.v (.box [ti c,ti d]))]) (ba:=1200) ?_ ?_ ?_ ?_) ?_;iterate 4(·simp)
 refine aa.cz aC fw [(4,.v (.bool c1))] ?_ ?_
 ·by_cases q1:a<c
  ·have:c1=true:=by rw[<-bU];simp[q1]
   simp[K7,q1,this]
  ·by_cases q2:a=c
   ·subst q2;by_cases q3:b<d
    ·have:c1=true:=by rw[<-bU];simp[q3]
     simp[K7,q3,this]
    ·have:c1=false:=by rw[<-bU];simp[q3]
     simp[K7,q3,this]
   ·have:c1=false:=by rw[<-bU];simp[q1,q2]
    simp[K7,q1,q2,this]
 apply aa.ret;simp[YZ]
def fW:Int->Int->bR->c8
 |c,s,[]=>⟨c,s⟩
 |c,s,v::l=>fW (min (c+v.aH) 1099511627776) (min (s+v.size) 1099511627776) l
def dU(c:Int)(l:bR):c8:=if(fW c 1 l).aH>=1099511627776 then⟨1099511627776,0⟩else fW c 1 l
def Fk(c s:Int)(l:bR)(v:c8):fW c s (l++[v])=⟨min ((fW c s l).aH+v.aH) 1099511627776,min ((fW c s l).size+v.size) 1099511627776⟩:=by
 induction l generalizing c s with
 |nil=>rfl
 |cons x l ih=>simp only[ZaM,fW,ih]
def jj(v:c8):Prop:=0<=v.aH/\v.aH<=1099511627776/\0<=v.size/\v.size<=1099511627776
def uM{l:bR}(h:∀v∈l,jj v):∀{c s:Int},0<=c->c<=4000000000000->0<=s->s<=1099511627776->0<=(fW c s l).aH/\(fW c s l).aH<=4000000000000/\0<=(fW c s l).size/\(fW c s l).size<=1099511627776:=by
 induction l with
 |nil=>intro c s h1 h2 h3 h4;exact⟨h1,h2,h3,h4⟩
 |cons x l ih=>
  intro c s h1 h2 h3 h4;obtain⟨g1,g2,g3,g4⟩:=h x (by simp);exact ih (λv hv=>h v (by simp[hv])) (by omega) (by omega) (by omega) (by omega)
def ju{c:Int}{l:bR}(h:∀v∈l,jj v)(h1:0<=c)(h2:c<=4000000000000):jj (dU c l):=by
 have:=uM (c:=c) (s:=1) h h1 h2 (by omega) (by omega);unfold dU jj;split
 ·simp
 ·omega
def cW [Inhabited α]{l:List α}{i:Nat}(h:i<l.length):l.take (i+1)=l.take i++[l.getD i default]:=by
 rw[ZbO,Zas h];simp[List.getD,h]
def t69(c:Int)(l:bR)(h:∀v∈l,jj v)(h1:0<=c)(h2:c<=4000000000000)(h3:l.length<=1000000):bl aj 95 [ti c,.sl (bC l)] (.agg [ti (dU c l).aH,ti (dU c l).size]):=by
 have aC:=cF;refine c69.ok (by simp) (aO ?_);simp;apply aa.ag aC fw [0,1,4];simp[d69r0];apply aa.ag aC fw [1,4,5,6];simp[d69r1];apply aa.seq;apply aa.ag aC fw [1,4,5,6,7];simp[d69r2];apply aa.block;refine aa.loop (λy:Nat=>⟨DM.look [(1,.v (.sl (bC l))),(4,.ptr 1005 0),(5,.v (ti (fW c 1 (l.take y)).aH)),(6,.v (ti (fW c 1 (l.take y)).size)),(7,.v (ti y))],cM [(1005,.box [.v (ti 0),.v (ti 0)])],2000,1000,[]⟩)
  (λy=>y<=l.length) (λy=>l.length-y) 0 (Le.bi ?_ ?_ ?_ ?_) (by simp) (λy hy=>?_)
 iterate 3(·simp)
 ·simp[fW]
 apply aa.seq;apply aa.ag aC fw [1,4,5,6,7,12];simp[d69r3];refine aa.cond rfl (λcR=>?_) (λcR=>?_)
 ·have cR:y<l.length:=by simpa using cR
  apply aa.skip;simp;apply aa.seq;apply aa.block;have rv:=dd cR;obtain⟨v,hv⟩:=bb (l.getD y default);rw[hv]at rv;have hov:=h v (by rw[<-hv];exact bm cR);obtain⟨o1,o2,o3,o4⟩:=hov;obtain⟨b1,b2,b3,b4⟩:=uM (c:=c) (s:=1) (l:=l.take y) (λv hv=>h v (ZaE hv)) h1 h2 (by omega) (by omega);apply aa.fK aC fw [1,4,5,6,7];simp[d69r4,cR,rv];apply aa.fK aC fw [1,4,5,6,7];simp[d69r5];rw[aF (by omega),aF (by omega),aF (by omega)];refine⟨y+1,Le.bi ?_ ?_ ?_ ?_,by omega,by omega⟩;iterate 3(·simp)
  ·simp[cW cR,Fk,-List.getD_eq_getElem?_getD,hv]
 ·have fJ:y=l.length:=by simp at cR;omega
  subst fJ;rw[ZbM];apply aa.exit;simp;apply aa.seq;apply aa.ag aC fw [4,5,6,32];simp[d69r6];refine aa.cond rfl (λh7=>?_) (λh7=>?_)
  ·have h7:(fW c 1 l).aH>=1099511627776:=by simpa using h7
   apply aa.ag aC fw [4];simp[d69r7];apply aa.ret;simp[OK,dU,h7]
  ·have h7:¬(fW c 1 l).aH>=1099511627776:=by simpa using h7
   apply aa.skip;simp;apply aa.ag aC fw [4];simp[d69r8];apply aa.ret;simp[OK,dU,h7]
def lP:Cell:=⟨1099511627776,0,-1,0⟩
def lR(n s:Int):Int:=n*s*(s+1)/2
def g9{a b A B:Int}(h1:0<=a)(h2:a<=A)(h3:0<=b)(h4:b<=B):0<=a*b/\a*b<=A*B:=by
 refine⟨Zcq h1 h3, ?_⟩;exact Int.mul_le_mul h2 h4 h3 (by omega)
def pre(st:Int):Nat->Int
 |0=>0
 |n+1=>pre st n+st-n
def k9{st:Int}(h:st<=1000):∀n:Nat,(n:Int)<=st->0<=pre st n/\pre st n<=1000*n
 |0,_=>by simp[pre]
 |n+1,hn=>by
  have:=k9 h n (by omega);simp only[pre];omega
def ef(n st:Int)(f t:Nat):Int:=(pre st f+t-f)*n
def jV(a:Cell)(v:c8)(r g:Int):Cell:=if v.aH>=1099511627776 then a else if v.lt a.val\/(v=a.val/\(r<a.qE\/(r=a.qE/\g<a.arg)))then⟨v.aH,v.size,r,g⟩else a
abbrev s92:DM.Spec:=cT (λts=>∃a b c d,ts=[.agg [ti a,ti b],.agg [ti c,ti d]]) (fun|[.agg [.int _ a,.int _ b],.agg [.int _ c,.int _ d]]=>.bool (decide ((⟨a,b⟩:c8).lt ⟨c,d⟩))|_=>.bool false) true
end
section
variable{d:Int}
@[simp] def Pd{a b:Cf}:aU a=aU b↔a=b:=⟨λh=>by have:=congrArg Fi h;simpa using this,λh=>by rw[h]⟩
@[simp] def rn{a b:bR}:bC a=bC b↔a=b:=⟨λh=>by have:=congrArg mT h;simpa using this,λh=>by rw[h]⟩
@[simp] def Pe{a b:eV}:cu a=cu b↔a=b:=⟨λh=>by have:=congrArg Fj h;simpa using this,λh=>by rw[h]⟩
@[simp] def G5{a b:bO}:aG a=aG b↔a=b:=⟨λh=>by have:=congrArg lS h;simpa using this,λh=>by rw[h]⟩
@[simp] def V7{a b:List cw}:j7 a=j7 b↔a=b:=⟨λh=>by have:=congrArg Jh h;simpa using this,λh=>by rw[h]⟩
@[simp] def opsT_inj{a b:List (Int×Int)}:ia a=ia b↔a=b:=⟨λh=>by have:=congrArg AG h;simpa using this,λh=>by rw[h]⟩
@[simp] def colsT_inj{a b:List cK}:cY a=cY b↔a=b:=⟨λh=>by have:=congrArg CO h;simpa using this,λh=>by rw[h]⟩
@[simp] def V8{l:bR}:[]=bC l↔l=[]:=by rw[<-V6,rn];exact eq_comm
@[simp] def one_valsT{a b:Int}{l:bR}:[[ti a,ti b]]=bC l↔l=[⟨a,b⟩]:=by rw[show [[ti a,ti b]]=bC [⟨a,b⟩]from rfl,rn];exact eq_comm
@[simp] def two_valsT{a b c:Int}{l:bR}:[[ti a,ti b],[ti c,ti d]]=bC l↔l=[⟨a,b⟩,⟨c,d⟩]:=by rw[show [[ti a,ti b],[ti c,ti d]]=bC [⟨a,b⟩,⟨c,d⟩]from rfl,rn];exact eq_comm
@[simp] def decVals_nil:mT []=[]:=rfl
@[simp] def decVals_one{a b:Int}:mT [[ti a,ti b]]=[⟨a,b⟩]:=rfl
@[simp] def decVals_two{a b c:Int}:mT [[ti a,ti b],[ti c,ti d]]=[⟨a,b⟩,⟨c,d⟩]:=rfl
def NJ(c:d6)(h f t:Int):Cell:=
 if h<0\/h>=c.an\/f<0\/t<f\/t>=c.bn then lP else c.cells.getD (ef c.an c.bn f.toNat t.toNat+h).toNat lP
def NI(c:d6):Prop:=0<=c.an/\c.an<=1000/\0<=c.bn/\c.bn<=1000/\c.cells.length<=1000000000000/\∀x∈c.cells,jj x.val
def Mo:jj lP.val:=by simp[jj,lP]
def aaC{c:d6}(hc:NI c)(h f t:Int):jj (NJ c h f t).val:=by
 unfold NJ;split
 ·exact Mo
 ·rw[List.getD];cases e:c.cells[(ef c.an c.bn f.toNat t.toNat+h).toNat]? with
  |none=>exact Mo
  |some x=>exact hc.2.2.2.2.2 x (Zax e)
def sM{n st:Int}{f t:Nat}(h1:0<=n)(h2:n<=1000)(h3:st<=1000)(h4:(f:Int)<=st)(h5:t<=1000)(h6:f<=t):0<=ef n st f t/\ef n st f t<=2000000000:=by
 have hb:=k9 h3 f h4;have:=g9 (a:=pre st f+t-f) (A:=2000000) (b:=n) (B:=1000) (by omega) (by omega) h1 h2;unfold ef;omega
def eJ(c:d6)(own:eV)(fr to h f t:Int):c8:=if f=fr/\t=to then(own.getD h.toNat default).val else(NJ c h f t).val
def vPre(c:d6)(own:eV)(fr to h f t:Int):Prop:=NI c/\own.length<=1000000/\(f=fr/\t=to->0<=h/\h<own.length)
def G2{c:d6}{own:eV}{fr to h f t:Int}(h1:vPre c own fr to h f t)(h2:∀x∈own,jj x.val):jj (eJ c own fr to h f t):=by
 unfold eJ;split
 ·rename_i e;have:=h1.2.2 e;exact h2 _ (bm (by omega))
 ·exact aaC h1.1 _ _ _
end
structure kh where
 (x h t:Int)
 deriving DecidableEq,Inhabited
def kh.enc(e:kh):aK:=[ti e.x,ti e.h,ti e.t]
def dF(l:List kh):List (aK):=l.map kh.enc
def xj:aK->kh
 |[a,b,c]=>⟨dH a,dH b,dH c⟩
 |_=>default
@[simp] def xk(e:kh):xj e.enc=e:=by simp[xj,kh.enc,dH]
@[simp] def vI{a b:List kh}:dF a=dF b↔a=b:=⟨λh=>by
 have:=congrArg (List.map xj) h;simpa [dF,gq xk]using this,λh=>by rw[h]⟩
@[simp] def Wn(l:List kh):(dF l).length=l.length:=by simp[dF]
def dG{l:List kh}{y:Nat}(h:y<l.length):DM.rowAt (dF l) y=(l.getD y default).enc:=by simp[DM.rowAt,dF,h]
def lg(l:List kh)(i:Nat)(e:kh):dF (l.set i e)=(dF l).set i e.enc:=by simp[dF,Zcd]
def sS(a b:List kh):dF (a++b)=dF a++dF b:=by simp[dF]
def xl(a:List kh)(n:Nat):(dF a).take n=dF (a.take n):=by simp[dF,List.map_take]
abbrev Pl:=List (Nat×Int×Int)
def uO(l:Pl):List (Nat×T×DV):=l.map λe=>(e.1,ti e.2.1,.v (ti e.2.2))
@[simp] def JA{a b:Pl}:uO a=uO b↔a=b:=⟨λh=>by
 unfold uO at h;refine List.map_inj_right (f:=λe:Nat×Int×Int=>(e.1,ti e.2.1,DV.v (ti e.2.2))) ?_|>.1 h
 rintro⟨a,b,c⟩ ⟨a',b',c'⟩ h;simpa using h,λh=>by rw[h]⟩
def sV(l:Pl)(k:Int):Option Nat:=l.findIdx? λe=>e.2.1==k
def jM(l:Pl)(k:Int):Option Int:=(l.find? λe=>e.2.1==k).map (·.2.2)
def d8(l:Pl)(c:Nat)(k v:Int):Pl:=match sV l k with
 |some i=>l.modify i λe=>(e.1,e.2.1,v)
 |none=>l++[(c,k,v)]
def wr(l:Pl)(c:Nat)(k:Int):Nat:=match sV l k with
 |some _=>c
 |none=>c+1
def nD(l:Pl)(k:Int):Pl:=match sV l k with
 |some i=>l.eraseIdx i
 |none=>l
def U4(a b:Int):gO (ti a) (ti b)=(b==a):=by
 simp only[gO];by_cases h:a=b
 ·simp[h]
 ·have:¬b=a:=λe=>h e.symm;simp[h,this]
def zI(l:Pl)(k:Int):(uO l).findIdx? (λe=>gO (ti k) e.2.1)=sV l k:=by
 unfold uO sV;rw[List.findIdx?_map]
 congr 1
 funext e;simp only[Function.comp,U4]
def Na(l:Pl)(k:Int):qP (ti k) (uO l)=(l.find? λe=>e.2.1==k).map λe=>(e.1,ti e.2.1,.v (ti e.2.2)):=by
 unfold qP uO;rw[List.find?_map]
 congr 2
 funext e;simp only[Function.comp,U4]
def lm{α β:Type}{f:α->β}{g:α->α}{g':β->β}(h:∀a,g' (f a)=f (g a)):∀(l:List α) (i:Nat),(l.map f).modify i g'=(l.modify i g).map f
 |[],i=>by cases i<;>simp
 |a::l,0=>by simp[h]
 |a::l,i+1=>by simp[lm h l i]
def qH{α β:Type}{f:α->β}:∀(l:List α) (i:Nat),(l.map f).eraseIdx i=(l.eraseIdx i).map f
 |[],i=>by simp
 |a::l,0=>by simp
 |a::l,i+1=>by simp[qH l i]
def MS(l:Pl)(c:Nat)(k v:Int):HJ (ti k) (.v (ti v)) c (uO l)=uO (d8 l c k v):=by
 unfold HJ d8;rw[zI];cases sV l k with
 |none=>simp[uO]
 |some i=>exact lm (f:=λe:Nat×Int×Int=>(e.1,ti e.2.1,DV.v (ti e.2.2))) (g:=λe=>(e.1,e.2.1,v)) (g':=λe=>(e.1,e.2.1,DV.v (ti v))) (λ_=>rfl) l i
def FK(l:Pl)(c:Nat)(k:Int):oR (ti k) c (uO l)=wr l c k:=by
 unfold oR wr;rw[zI];cases sV l k<;>rfl
def MU(l:Pl)(k:Int):delE (ti k) (uO l)=uO (nD l k):=by
 unfold delE nD;rw[zI];cases sV l k with
 |none=>rfl
 |some i=>exact qH l i
def pA(l:Pl):Prop:=(l.map (·.1)).Nodup
def zJ{α:Type}{p:α->Bool}:∀{l:List α} {i:Nat},l.findIdx? p=some i->∃a,l[i]? =some a/\p a=true/\l.find? p=some a
 |[],i,h=>by simp at h
 |a::l,i,h=>by
  rw[Zbh]at h;by_cases hp:p a=true
  ·simp only[hp,if_true,Zaa]at h;subst h;exact⟨a,rfl,hp,by simp[hp]⟩
  ·simp only[hp,ZaW,if_false,Zac]at h;obtain⟨j,hj,rfl⟩:=h;obtain⟨b,h1,h2,h3⟩:=zJ hj;exact⟨b,by simpa using h1,h2,by simp[hp,h3]⟩
def Ht:∀{l:Pl} {i:Nat} {e:Nat×Int×Int},pA l->l[i]? =some e->(uO l).findIdx? (λx=>(x.1:Int)==(e.1:Int))=some i
 |[],i,e,_,h=>by simp at h
 |a::l,0,e,hk,h=>by
  simp only[ZaF,Zaa]at h;subst h;simp[uO,Zbh]
 |a::l,i+1,e,hk,h=>by
  simp only[Zbb]at h;simp only[pA,ZaA,Zcw]at hk;have bT:¬a.1=e.1:=λq=>hk.1 (q▸Zak.2 ⟨e,Zax h,rfl⟩);have ih:=Ht (l:=l) hk.2 h;unfold uO at ih⊢;rw[ZaA,Zbh];have:¬(((a.1:Int)==(e.1:Int))=true):=by simp;omega
  simp only[this,ih];rfl
def zz{l:Pl}{k v:Int}{i:Nat}{e:Nat×Int×Int}(hk:pA l)(hi:sV l k=some i)(he:l[i]? =some e)(c:Nat):setB (e.1:Int) (.v (ti v)) (uO l)=some (uO (d8 l c k v)):=by
 unfold setB;rw[Ht hk he];unfold d8;rw[hi];simp only[Za8,Zaa];exact lm (f:=λe:Nat×Int×Int=>(e.1,ti e.2.1,DV.v (ti e.2.2))) (g:=λe=>(e.1,e.2.1,v)) (g':=λe=>(e.1,e.2.1,DV.v (ti v))) (λ_=>rfl) l i
def zA{l:Pl}{c:Nat}{k v:Int}(hk:pA l)(hc:∀e∈l,e.1<c):pA (d8 l c k v)/\∀e∈d8 l c k v,e.1<wr l c k:=by
 unfold d8 wr;cases h:sV l k with
 |none=>
  refine⟨?_,λe he=>?_⟩
  ·unfold pA;rw[ZaZ,Zb7];refine⟨hk,by simp,λa ha b hb=>?_⟩;obtain⟨e,he,rfl⟩:=Zak.1 ha;simp at hb;have:=hc e he;omega
  ·rcases Zaq.1 he with he|he
   ·have:=hc e he;simp only;omega
   ·simp at he;subst he;simp
 |some i=>
  have hm:((l.modify i λe=>(e.1,e.2.1,v)).map (·.1))=l.map (·.1):=by
   have h1:=lm (f:=λe:Nat×Int×Int=>e.1) (g:=λe=>(e.1,e.2.1,v)) (g':=id) (λ_=>rfl) l i;rw[Zdd]at h1;exact h1.symm
  refine⟨by unfold pA;rw[hm];exact hk,λe he=>?_⟩;have:e.1∈l.map (·.1):=by rw[<-hm];exact Zak.2 ⟨e,he,rfl⟩
  obtain⟨e',he',h2⟩:=Zak.1 this;have:=hc e' he';show e.1<c;omega
section
variable{f:bq}
structure LV where
 (sp rb:Nat)
 cs:bB
 ak:bR
structure LV.at(v:LV)(f:bq)(a:Nat):Prop where
 a:f a=some (.box [.ptr v.sp 0])
 sp:f v.sp=some (.box v.cs)
 c:v.cs[12]? =some (.bA v.rb 0)
 rb:f v.rb=some (.arr 0 63 2 (bC v.ak))
def LV.Cg{v w:LV}{a:Nat}(h:v.at f a)(k:w.at f a):v=w:=by
 obtain⟨sp,rb,cs,ak⟩:=v;obtain⟨sp',rb',cs',best'⟩:=w;obtain⟨h1,h2,h3,h4⟩:=h;obtain⟨k1,k2,k3,k4⟩:=k;simp only at h1 h2 h3 h4 k1 k2 k3 k4;rw[h1]at k1;simp only[Zaa,Ob.box.injEq,Za1,DV.ptr.injEq,and_true]at k1;subst k1;rw[h2]at k2;simp only[Zaa,Ob.box.injEq]at k2;subst k2;rw[h3]at k3;simp only[Zaa,DV.bA.injEq,and_true]at k3;subst k3;rw[h4]at k4;simp only[Zaa,Ob.arr.injEq,rn,true_and]at k4;subst k4;rfl
open Classical in
noncomputable def Hu(f:bq)(a:Nat):LV:=if h:∃v:LV,v.at f a then Classical.choose h else⟨0,0,[],[]⟩
def Ng{v:LV}{a:Nat}(h:v.at f a):Hu f a=v:=by
 have hx:∃v:LV,v.at f a:=⟨v,h⟩;unfold Hu;rw[ZcV hx];exact LV.Cg (Classical.choose_spec hx) h
def bv(ak:bR)(x:Int):c8:=ak.getD x.toNat default
noncomputable def k55:bB->bq->fI
 |[.v (.int .i64 x),.v (.int .i64 y),.ptr a 0],f=>⟨(∃v:LV,v.at f a)/\(0<=x/\x<(Hu f a).ak.length)/\(0<=y/\y<(Hu f a).ak.length),.v (.bool (decide ((bv (Hu f a).ak x).lt (bv (Hu f a).ak y)))),f⟩
 |_,f=>⟨False,.undef,f⟩
def k55_eq{v:LV}{a:Nat}{x y:Int}(h:v.at f a):k55 [.v (ti x),.v (ti y),.ptr a 0] f=⟨(0<=x/\x<v.ak.length)/\(0<=y/\y<v.ak.length),.v (.bool (decide ((bv v.ak x).lt (bv v.ak y)))),f⟩:=by
 have hx:∃v:LV,v.at f a:=⟨v,h⟩;simp only[k55,Ng h,hx,true_and]
def t56(u v:c8):bl aj 84 [.agg [ti u.aH,ti u.size],.agg [ti v.aH,ti v.size]] (.bool (decide (u.lt v))):=by
 obtain⟨a,b⟩:=u;obtain⟨c,d⟩:=v;obtain⟨c1,bU⟩:=bb (decide ((⟨a,b⟩:c8).lt ⟨c,d⟩):Bool);rw[bU];simp only[c8.lt]at bU;have aC:=cF;refine c56.ok (by simp) (aO ?_);simp;apply aa.ag aC fw [2,3];simp[d56r0];refine aa.le (Le.bi (o:=[]) (l:=[(2,.v (.box [ti a,ti b])),(3,.v (.box [ti c,ti d]))]) (ba:=1200) ?_ ?_ ?_ ?_) ?_;iterate 4(·simp)
 refine aa.cz aC fw [(4,.v (.bool c1))] ?_ ?_
 ·by_cases q1:a<c
  ·have:c1=true:=by rw[<-bU];simp[q1]
   simp[Ld,q1,this]
  ·by_cases q2:a=c
   ·subst q2;by_cases q3:b<d
    ·have:c1=true:=by rw[<-bU];simp[q3]
     simp[Ld,q3,this]
    ·have:c1=false:=by rw[<-bU];simp[q3]
     simp[Ld,q3,this]
   ·have:c1=false:=by rw[<-bU];simp[q1,q2]
    simp[Ld,q1,q2,this]
 apply aa.ret;simp[Zn]
def JV{l:bR}(h:∀v∈l,jj v):∀{c s:Int},0<=c->c<=1099511627776->0<=s->s<=1099511627776->0<=(fW c s l).aH/\(fW c s l).aH<=1099511627776:=by
 induction l with
 |nil=>intro c s h1 h2 h3 h4;exact⟨h1,h2⟩
 |cons x l ih=>
  intro c s h1 h2 h3 h4;obtain⟨g1,g2,g3,g4⟩:=h x (by simp);exact ih (λv hv=>h v (by simp[hv])) (by omega) (by omega) (by omega) (by omega)
def comb_min{c:Int}{l:bR}(h:∀v∈l,jj v):dU (min c 1099511627776) l=dU c l:=by
 have key:∀(l:bR) (c s:Int),(∀v∈l,jj v)->l≠[]->fW (min c 1099511627776) s l=fW c s l:=by
  intro l c s h hl;cases l with
  |nil=>exact Zar rfl hl
  |cons v l=>
   have hv:=(h v (by simp)).1;simp only[fW];rw[show min (min c 1099511627776+v.aH) 1099511627776=min (c+v.aH) 1099511627776 by omega]
 cases l with
 |nil=>
  unfold dU fW;simp only;split<;>split<;>first|rfl|(exfalso;omega)|(congr 1;omega)
 |cons v l=>
  unfold dU;rw[key _ _ _ h (by simp)]
def t84(c:Int)(l:bR)(h:∀v∈l,jj v)(h1:0<=c)(h2:c<=4000000000000)(h3:l.length<=1000000):bl aj 123 [ti c,.sl (bC l)] (.agg [ti (dU c l).aH,ti (dU c l).size]):=by
 obtain⟨R,hR⟩:=bb (dU c l);rw[hR];rw[<-comb_min h]at hR;obtain⟨c0,Xa⟩:=bb (min c 1099511627776);have bU:0<=c0/\c0<=1099511627776:=by omega
 rw[Xa]at hR;have aC:=cF;refine c84.ok (by simp) (aO ?_);simp;apply aa.ag aC fw [0,1,4];simp[d84r0];refine aa.le (Le.bi (o:=[(1005,.box [.v (ti 0),.v (ti 0)])]) (l:=[(0,.v (ti c)),(1,.v (.sl (bC l))),(4,.ptr 1005 0)]) (ba:=1094) ?_ ?_ ?_ ?_) ?_;iterate 4(·simp)
 apply aa.ag aC fw [1,4,5];simp[d84r1,Xa];refine aa.le (Le.bi (o:=[(1005,.box [.v (ti 0),.v (ti 0)]),(1100,.box [.v (ti c0),.v (ti 1)])]) (l:=[(1,.v (.sl (bC l))),(4,.ptr 1005 0),(5,.ptr 1100 0)]) (ba:=1200) ?_ ?_ ?_ ?_) ?_;iterate 4(·simp)
 apply aa.seq;apply aa.ag aC fw [4,5,11,12,13];simp[d84r2];apply aa.block;refine aa.loop (λi:Nat=>⟨DM.look [(4,.ptr 1005 0),(5,.ptr 1100 0),(11,.v (.sl (bC l))),(12,.v (ti l.length)),(13,.v (ti i))],cM [(1005,.box [.v (ti 0),.v (ti 0)]),(1100,.box [.v (ti (fW c0 1 (l.take i)).aH),.v (ti (fW c0 1 (l.take i)).size)])],1400,1000,[]⟩)
  (λi=>i<=l.length) (λi=>l.length-i) 0 (Le.bi ?_ ?_ ?_ ?_) (by simp) (λi hi=>?_)
 ·simp
 ·simp
 ·simp[fW]
 ·simp
 obtain⟨A,hA⟩:=bb (fW c0 1 (l.take i));rw[hA];apply aa.ag aC fw [4,5,11,12,13,14];simp[d84r3];apply aa.seq;refine aa.cond rfl (λh3c=>?_) (λh3c=>?_)
 ·have As:i<l.length:=by simpa using h3c
  apply aa.skip;simp;apply aa.seq;apply aa.block;have rv:=dd As;have hvm:=h _ (bm As);have hst:fW c0 1 (l.take (i+1))=⟨min (A.aH+(l.getD i default).aH) 1099511627776,min (A.size+(l.getD i default).size) 1099511627776⟩:=by rw[cW As,Fk,hA]
  have hAb:=uM (c:=c0) (s:=1) (l:=l.take i) (λv hv=>h v (ZaE hv)) bU.1 (by omega) (by omega) (by omega);rw[hA]at hAb;obtain⟨⟨vc,vs⟩,hv⟩:=bb (l.getD i default);rw[hv]at rv hvm hst;obtain⟨g1,g2,g3,g4⟩:=hvm;simp only at g1 g2 g3 g4 hst;obtain⟨ac,asz⟩:=A;simp only at hAb hst;apply aa.ag aC fw [4,5,7,11,12,13];simp[d84r4,As,rv];refine aa.le (Le.bi (o:=[(1005,.box [.v (ti 0),.v (ti 0)]),(1100,.box [.v (ti ac),.v (ti asz)])]) (l:=[(4,.ptr 1005 0),(5,.ptr 1100 0),(7,.v (.box [ti vc,ti vs])),(11,.v (.sl (bC l))),(12,.v (ti l.length)),(13,.v (ti i))]) (ba:=1500) ?_ ?_ ?_ ?_) ?_;iterate 4(·simp)
  apply aa.ag aC fw [4,5,7,11,12,13];simp[d84r5,aF (x:=ac+vc) (by omega)];refine aa.le (Le.bi (o:=[(1005,.box [.v (ti 0),.v (ti 0)]),(1100,.box [.v (ti (min (ac+vc) 1099511627776)),.v (ti asz)])]) (l:=[(4,.ptr 1005 0),(5,.ptr 1100 0),(7,.v (.box [ti vc,ti vs])),(11,.v (.sl (bC l))),(12,.v (ti l.length)),(13,.v (ti i))]) (ba:=1600) ?_ ?_ ?_ ?_) ?_;iterate 4(·simp)
  apply aa.fK aC fw [4,5,11,12,13];simp[d84r6,aF (x:=asz+vs) (by omega)];apply aa.fK aC fw [4,5,11,12,13];simp[d84r7];rw[aF (x:=(i:Int)+1) (by omega)];refine⟨i+1,Le.bi ?_ ?_ ?_ ?_,by omega,by omega⟩
  ·simp
  ·simp
  ·simp[hst]
  ·simp
 ·have hi2:i=l.length:=by simp at h3c;omega
  subst hi2;rw[ZbM]at hA;apply aa.exit;simp;apply aa.seq;apply aa.ag aC fw [4,5,34];simp[d84r8];refine aa.cond rfl (λh8=>?_) (λh8=>?_)
  ·have h8:A.aH=1099511627776:=by simpa using h8
   have zQ:R=⟨1099511627776,0⟩:=by rw[<-hR];unfold dU;rw[hA];simp[h8]
   apply aa.ag aC fw [4];simp[d84r9];apply aa.ret;simp[OO,zQ]
  ·have h8:¬A.aH=1099511627776:=by simpa using h8
   have hAb:=JV (c:=c0) (s:=1) (l:=l) h bU.1 bU.2 (by omega) (by omega);rw[hA]at hAb;have zQ:R=A:=by rw[<-hR];unfold dU;rw[hA,Zab (by omega)]
   apply aa.skip;simp;apply aa.ag aC fw [4];simp[Zo];apply aa.ret;simp[OO,zQ]
end
end cC
end Go.Proofs
