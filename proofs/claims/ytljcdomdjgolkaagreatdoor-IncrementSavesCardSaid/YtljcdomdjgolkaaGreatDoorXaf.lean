/- Part of the proof. Conditions: none. -/
import Derived.Test.YtljcdomdjgolkaaGreatDoorXae
import Derived.Test.YtljcdomdjgolkaaGreatDoorXad
import Derived.Test.YtljcdomdjgolkaaGreatDoorXac
import Derived.KernelRfl
import Derived.Shelf.SlSortCmp.NoneTotal
import Derived.Test.YtljcdomdjgolkaaGreatDoorProg
set_option linter.unusedSectionVars false
set_option linter.unusedSimpArgs false
set_option linter.unusedVariables false
set_option maxHeartbeats 16000000
set_option maxRecDepth 100000
namespace Go.Proofs
open Go.DM
def nD(c:bC)(t:Nat):Prop:=¬(((t:Int)=c.kind/\c.read.getD t default≠0)\/((t:Int)≠c.kind/\c.read.getD t default≠-1/\(c.read.getD t default<1\/c.read.getD t default>60000)))
def y9(c:bC)(aW:Int):Prop:=(¬(c.kind< -1\/c.kind>=aW\/(c.read.length:Int)≠aW\/c.delete<1\/(c.delete>60000/\c.delete≠1099511627776)))/\∀t,t<aW.toNat->nD c t
instance(c:bC)(t:Nat):Decidable (nD c t):=by unfold nD;infer_instance
instance(c:bC)(aW:Int):Decidable (y9 c aW):=by unfold y9;infer_instance
def nj(l:List bC)(aW:Int):Prop:=∀i,i<l.length->y9 (l.getD i default) aW
instance(l:List bC)(aW:Int):Decidable (nj l aW):=by unfold nj;infer_instance
def D5(l:List Int)(t:Nat):Prop:=¬(l.getD t default<1\/l.getD t default>60000)
instance(l:List Int)(t:Nat):Decidable (D5 l t):=by unfold D5;infer_instance
def Dj(x:Input)(aW:Int):Prop:=(¬(aW<0\/(x.aj.length:Int)>60\/(x.insert.length:Int)≠aW\/x.swap<0\/x.swap>60000\/¬nj x.aj aW))/\∀t,t<aW.toNat->D5 x.insert t
instance(x:Input)(aW:Int):Decidable (Dj x aW):=by unfold Dj;infer_instance
def mw(x:Input)(tokens:Int):Prop:=((x.aj.length:Int)<=tokens/\(x.insert.length:Int)<=5)/\Dj x x.insert.length
instance(x:Input)(tokens:Int):Decidable (mw x tokens):=by unfold mw;infer_instance
theorem t58(c:bC)(aW:Int)(h:aW<=1000000000000):aU Tryz.prog 65 [.agg c.enc,ti aW] (.bool (decide (y9 c aW))):=by
 have ay:=okE;obtain⟨v,hv⟩:∃v,decide (y9 c aW)=v:=⟨_,rfl⟩;rw[hv];have bad:¬y9 c aW->v=false:=λh=>by rw[<-hv];simp[h]
 have cY:y9 c aW↔(¬(c.kind< -1\/c.kind>=aW\/(c.read.length:Int)≠aW\/c.delete<1\/(c.delete>60000/\c.delete≠1099511627776)))/\∀t,t<aW.toNat->nD c t:=Iff.rfl;refine c58.ok (by simp) (aK ?_);simp[bC.enc];refine aa.ab ay fw [1,2] ?_;simp[HO];refine aa.le (Le.aC (o:=[]) (l:=[(1,.v (ti aW)),(2,.v (.box [ti c.kind,.sl (aB c.read),ti c.delete]))]) (nxt':=1200) ?_ ?_ ?_ ?_) ?_;iterate 4(·simp)
 refine aa.seq ?_;obtain⟨b,hb⟩:∃b:Bool,decide (c.kind< -1\/c.kind>=aW\/(c.read.length:Int)≠aW\/c.delete<1\/(c.delete>60000/\c.delete≠1099511627776))=b:=⟨_,rfl⟩;refine aa.bY ay fw [(1,.v (ti aW)),(2,.v (.box [ti c.kind,.sl (aB c.read),ti c.delete])),(37,.v (.bool b))] ?_ ?_
 ·by_cases q1:c.kind< -1
  ·have mJ:b=true:=by rw[<-hb];simp[q1]
   simp[tq,q1,mJ]
  ·by_cases q2:aW<=c.kind
   ·have mJ:b=true:=by rw[<-hb];simp[q2]
    simp[tq,q1,q2,mJ]
   ·by_cases q3:(c.read.length:Int)=aW
    ·by_cases q4:c.delete<1
     ·have mJ:b=true:=by rw[<-hb];simp[q4]
      simp[tq,q1,q2,q3,q4,mJ]
     ·by_cases q5:60000<c.delete
      ·by_cases q6:c.delete=1099511627776
       ·have mJ:b=false:=by rw[<-hb];simp only[decide_eq_false_iff_not];omega
        simp[tq,q1,q2,q3,q4,q5,q6,mJ]
       ·have mJ:b=true:=by rw[<-hb];simp[q5,q6]
        simp[tq,q1,q2,q3,q4,q5,q6,mJ]
      ·have mJ:b=false:=by rw[<-hb];simp only[decide_eq_false_iff_not];omega
       simp[tq,q1,q2,q3,q4,q5,mJ]
    ·have mJ:b=true:=by rw[<-hb];simp[q3]
     simp[tq,q1,q2,q3,mJ]
 refine aa.cond rfl (λh=>?_) (λh=>?_)
 ·rw[h]at hb;simp only[decide_eq_true_eq]at hb;refine aa.ab ay fw [4] ?_;simp[Nb];refine aa.ret ?_;rw[bad λe=>(cY.1 e).1 hb];simp[rJ]
 rw[h]at hb;simp only[decide_eq_false_iff_not]at hb;obtain⟨n,hn⟩:∃n,c.read.length=n:=⟨_,rfl⟩;have hnt:aW=(n:Int):=by omega
 subst hnt;refine aa.skip ?_;simp;refine aa.seq ?_;refine aa.ab ay fw [1,2,5] ?_;simp[Di];refine aa.block ?_;refine aa.loop (λy:Nat=>⟨DM.look [(1,.v (ti n)),(2,.v (.box [ti c.kind,.sl (aB c.read),ti c.delete])),(5,.v (ti y))],cC [],2000,1000,[]⟩)
  (λy=>y<=n/\∀t,t<y->nD c t) (λy=>n-y) 0 (Le.aC (o:=[]) ?_ ?_ ?_ ?_) (by simp) (λy hy=>?_)
 iterate 4(·simp)
 obtain⟨jU,fl⟩:=hy;refine aa.seq ?_;refine aa.ab ay fw [1,2,5,40] ?_;simp[d58r4];refine aa.cond rfl (λbM=>?_) (λbM=>?_)
 ·simp at bM;have PV:y<c.read.length:=by omega
  have r1:=cO PV;obtain⟨u,hu⟩:∃u,c.read.getD y default=u:=⟨_,rfl⟩;rw[hu]at r1;have jV:nD c y↔¬(((y:Int)=c.kind/\u≠0)\/((y:Int)≠c.kind/\u≠-1/\(u<1\/u>60000))):=by unfold nD;rw[hu]
  obtain⟨kd,hkd⟩:∃k,c.kind=k:=⟨_,rfl⟩;rw[hkd]at jV⊢;refine aa.skip ?_;simp;refine aa.seq ?_;refine aa.block ?_;refine aa.ab ay fw [1,2,5,6] ?_;simp[d58r5,r1,PV];obtain⟨b2,kz⟩:∃b:Bool,decide (((y:Int)=kd/\u≠0)\/((y:Int)≠kd/\u≠-1/\(u<1\/u>60000)))=b:=⟨_,rfl⟩;refine aa.bY ay fw [(1,.v (ti n)),(2,.v (.box [ti kd,.sl (aB c.read),ti c.delete])),(5,.v (ti y)),(73,.v (.bool b2))] ?_ ?_
  ·by_cases q1:(y:Int)=kd
   ·by_cases q2:u=0
    ·have mJ:b2=false:=by rw[<-kz];simp[q1,q2]
     simp[BA,q1,q2,mJ]
    ·have mJ:b2=true:=by rw[<-kz];simp[q1,q2]
     simp[BA,q1,q2,mJ]
   ·by_cases q2:u= -1
    ·have mJ:b2=false:=by rw[<-kz];simp[q1,q2]
     simp[BA,q1,q2,mJ]
    ·by_cases q3:u<1
     ·have mJ:b2=true:=by rw[<-kz];simp[q1,q2,q3]
      simp[BA,q1,q2,q3,mJ]
     ·by_cases q4:60000<u
      ·have mJ:b2=true:=by rw[<-kz];simp[q1,q2,q4]
       simp[BA,q1,q2,q3,q4,mJ]
      ·have mJ:b2=false:=by rw[<-kz];simp only[decide_eq_false_iff_not];omega
       simp[BA,q1,q2,q3,q4,mJ]
  refine aa.cond rfl (λh=>?_) (λh=>?_)
  ·rw[h]at kz;simp only[decide_eq_true_eq]at kz;refine aa.ab ay fw [4] ?_;simp[d58r7];refine aa.ret ?_;rw[bad λe=>jV.1 ((cY.1 e).2 y (by simpa using bM)) kz];simp[rJ]
  ·rw[h]at kz;simp only[decide_eq_false_iff_not]at kz;refine aa.skip ?_;simp;refine aa.dm ay fw [1,2,5] ?_;simp[d58r8];rw[au (by omega)];refine⟨y+1,Le.aC (o:=[]) ?_ ?_ ?_ ?_,⟨by omega,λi hi=>?_⟩,by omega⟩;iterate 4(·simp)
   ·by_cases e:i=y
    ·subst e;exact jV.2 kz
    ·exact fl i (by omega)
 simp at bM;refine aa.exit ?_;simp;refine aa.ab ay fw [4] ?_;simp[d58r9];refine aa.ret ?_;have:v=true:=by
  rw[<-hv,decide_eq_true_eq];exact cY.2 ⟨by omega,λi hi=>fl i (by simp at hi;omega)⟩
 rw[this];simp[rJ]
abbrev spec58:DM.Spec:=cy (λts=>∃(c:bC) (t:Int),ts=[.agg c.enc,ti t]/\t<=1000000000000) (fun|[.agg c,.int _ t]=>.bool (decide (y9 (BB c) t))|_=>.bool false) true
theorem ok58:aw Tryz.prog (aX [(65,spec58)]):=by
 refine aw.cons aw.nil ?_;rintro ts ⟨c,t,rfl,h⟩;exact⟨by simpa using t58 c t h,λ_=>rfl⟩
theorem t45(l:List bC)(aW:Int)(h1:l.length<=1000000000000)(h2:aW<=1000000000000):aU Tryz.prog 43 [.sl (aV l),ti aW] (.bool (decide (nj l aW))):=by
 have ay:=ok58;obtain⟨v,hv⟩:∃v,decide (nj l aW)=v:=⟨_,rfl⟩;rw[hv];have bad:¬nj l aW->v=false:=λh=>by rw[<-hv];simp[h]
 refine c45.ok (by simp) (aK ?_);simp;refine aa.ab ay fw [0,1] ?_;simp[GY];refine aa.seq ?_;refine aa.ab ay fw [0,1,5] ?_;simp[A0];refine aa.block ?_;refine aa.loop (λj:Nat=>⟨DM.look [(0,.v (.sl (aV l))),(1,.v (ti aW)),(5,.v (ti j))],cC [],2000,1000,[]⟩)
  (λj=>j<=l.length/\∀i,i<j->y9 (l.getD i default) aW) (λj=>l.length-j) 0 (Le.aC (o:=[]) ?_ ?_ ?_ ?_) (by simp) (λj hj=>?_)
 iterate 4(·simp)
 obtain⟨jU,fl⟩:=hj;refine aa.seq ?_;refine aa.ab ay fw [0,1,5,9] ?_;simp[GZ];refine aa.cond rfl (λbM=>?_) (λbM=>?_)
 ·simp at bM;have r1:=dR bM;refine aa.skip ?_;simp;refine aa.seq ?_;refine aa.block ?_;obtain⟨u,hu⟩:∃u,l.getD j default=u:=⟨_,rfl⟩;rw[hu]at r1;refine aa.ab ay fw [0,1,5,18] ?_;obtain⟨a,b,c⟩:=u;simp[G0,bM,r1,bC.enc];rw[show BB [ti a,T.sl (aB b),ti c]=⟨a,b,c⟩from BC ⟨a,b,c⟩];refine⟨⟨⟨a,b,c⟩,aW,⟨⟨rfl,rfl,rfl⟩,rfl⟩,h2⟩, ?_⟩;refine aa.cond rfl (λh=>?_) (λh=>?_)
  ·simp at h;refine aa.ab ay fw [4] ?_;simp[Ha];refine aa.ret ?_;rw[bad λe=>h (by have:=e j bM;rw[hu]at this;exact this)];simp[tZ]
  ·simp at h;refine aa.skip ?_;simp;refine aa.dm ay fw [0,1,5] ?_;simp[d45r5];rw[au (by omega)];refine⟨j+1,Le.aC (o:=[]) ?_ ?_ ?_ ?_,⟨by omega,λi hi=>?_⟩,by omega⟩;iterate 4(·simp)
   ·by_cases e:i=j
    ·subst e;show y9 (l.getD i default) aW;rw[hu];exact h
    ·exact fl i (by omega)
 simp at bM;refine aa.exit ?_;simp;refine aa.ab ay fw [4] ?_;simp[d45r6];refine aa.ret ?_;have:v=true:=by
  rw[<-hv,decide_eq_true_eq];exact λi hi=>fl i (by omega)
 rw[this];simp[tZ]
abbrev spec45:DM.Spec:=cy (λts=>∃(l:List bC) (t:Int),ts=[.sl (aV l),ti t]/\l.length<=1000000000000/\t<=1000000000000) (fun|[.sl c,.int _ t]=>.bool (decide (nj (fJ c) t))|_=>.bool false) true
theorem ok45:aw Tryz.prog (aX [(43,spec45)]):=by
 refine aw.cons aw.nil ?_;rintro ts ⟨c,t,rfl,h1,h2⟩;exact⟨by simpa using t45 c t h1 h2,λ_=>rfl⟩
theorem t28(x:Input)(aW:Int)(ht:aW<=1000000000000):aU Tryz.prog 21 [x.enc,ti aW] (.bool (decide (Dj x aW))):=by
 have ay:=ok45;obtain⟨v,hv⟩:∃v,decide (Dj x aW)=v:=⟨_,rfl⟩;rw[hv];have bad:¬Dj x aW->v=false:=λh=>by rw[<-hv];simp[h]
 have cY:Dj x aW↔(¬(aW<0\/(x.aj.length:Int)>60\/(x.insert.length:Int)≠aW\/x.swap<0\/x.swap>60000\/¬nj x.aj aW))/\∀t,t<aW.toNat->D5 x.insert t:=Iff.rfl;refine c28.ok (by simp) (aK ?_);simp[Input.enc];refine aa.ab ay fw [1,2] ?_;simp[d28r0];refine aa.le (Le.aC (o:=[]) (l:=[(1,.v (ti aW)),(2,.v (.box [.sl (aV x.aj),.sl (aB x.insert),ti x.swap]))]) (nxt':=1200) ?_ ?_ ?_ ?_) ?_;iterate 4(·simp)
 refine aa.seq ?_;obtain⟨b,hb⟩:∃b:Bool,decide (aW<0\/(x.aj.length:Int)>60\/(x.insert.length:Int)≠aW\/x.swap<0\/x.swap>60000\/¬nj x.aj aW)=b:=⟨_,rfl⟩;refine aa.bY ay fw [(1,.v (ti aW)),(2,.v (.box [.sl (aV x.aj),.sl (aB x.insert),ti x.swap])),(37,.v (.bool b))] ?_ ?_
 ·by_cases q1:aW<0
  ·have mJ:b=true:=by rw[<-hb];simp[q1]
   simp[yM,q1,mJ]
  ·by_cases q2:60<(x.aj.length:Int)
   ·have mJ:b=true:=by rw[<-hb];simp[q2]
    simp[yM,q1,q2,mJ]
   ·by_cases q3:(x.insert.length:Int)=aW
    ·by_cases q4:x.swap<0
     ·have mJ:b=true:=by rw[<-hb];simp[q4]
      simp[yM,q1,q2,q3,q4,mJ]
     ·by_cases q5:60000<x.swap
      ·have mJ:b=true:=by rw[<-hb];simp[q5]
       simp[yM,q1,q2,q3,q4,q5,mJ]
      ·by_cases q6:nj x.aj aW
       ·have mJ:b=false:=by rw[<-hb];simp only[decide_eq_false_iff_not];rintro(h|h|h|h|h|h)<;>first|omega|exact h q6
        simp[yM,q1,q2,q3,q4,q5,q6,mJ];exact⟨x.aj,aW,⟨rfl,rfl⟩,by omega,ht⟩
       ·have mJ:b=true:=by rw[<-hb];simp[q6]
        simp[yM,q1,q2,q3,q4,q5,q6,mJ];exact⟨x.aj,aW,⟨rfl,rfl⟩,by omega,ht⟩
    ·have mJ:b=true:=by rw[<-hb];simp[q3]
     simp[yM,q1,q2,q3,mJ]
 refine aa.cond rfl (λh=>?_) (λh=>?_)
 ·rw[h]at hb;simp only[decide_eq_true_eq]at hb;refine aa.ab ay fw [4] ?_;simp[d28r2];refine aa.ret ?_;rw[bad λe=>(cY.1 e).1 hb];simp[Fm]
 rw[h]at hb;simp only[decide_eq_false_iff_not]at hb;have Qb:(x.insert.length:Int)=aW:=by
  by_cases e:(x.insert.length:Int)=aW
  ·exact e
  ·exact absurd (.inr (.inr (.inl e))) hb
 obtain⟨n,hn⟩:∃n,x.insert.length=n:=⟨_,rfl⟩;rw[hn]at Qb;subst Qb;refine aa.skip ?_;simp;refine aa.seq ?_;refine aa.ab ay fw [1,2,5] ?_;simp[d28r3];refine aa.block ?_;refine aa.loop (λy:Nat=>⟨DM.look [(1,.v (ti n)),(2,.v (.box [.sl (aV x.aj),.sl (aB x.insert),ti x.swap])),(5,.v (ti y))],cC [],2000,1000,[]⟩)
  (λy=>y<=n/\∀t,t<y->D5 x.insert t) (λy=>n-y) 0 (Le.aC (o:=[]) ?_ ?_ ?_ ?_) (by simp) (λy hy=>?_)
 iterate 4(·simp)
 obtain⟨jU,fl⟩:=hy;refine aa.seq ?_;refine aa.ab ay fw [1,2,5,40] ?_;simp[d28r4];refine aa.cond rfl (λbM=>?_) (λbM=>?_)
 ·simp at bM;have PV:y<x.insert.length:=by omega
  have r1:=cO PV;obtain⟨u,hu⟩:∃u,x.insert.getD y default=u:=⟨_,rfl⟩;rw[hu]at r1;have jV:D5 x.insert y↔¬(u<1\/u>60000):=by unfold D5;rw[hu]
  refine aa.skip ?_;simp;refine aa.seq ?_;refine aa.block ?_;refine aa.bY ay fw [(1,.v (ti n)),(2,.v (.box [.sl (aV x.aj),.sl (aB x.insert),ti x.swap])),(5,.v (ti y)),(56,.v (.bool (decide (u<1\/60000<u))))] ?_ ?_
  ·by_cases q1:u<1
   ·simp[UE,r1,PV,q1]
   ·by_cases q2:60000<u<;>simp[UE,r1,PV,q1,q2]
  refine aa.cond rfl (λh=>?_) (λh=>?_)
  ·simp only[decide_eq_true_eq]at h;refine aa.ab ay fw [4] ?_;simp[d28r6];refine aa.ret ?_;rw[bad λe=>jV.1 ((cY.1 e).2 y (by simpa using bM)) h];simp[Fm]
  ·simp only[decide_eq_false_iff_not]at h;refine aa.skip ?_;simp;refine aa.dm ay fw [1,2,5] ?_;simp[d28r7];rw[au (by omega)];refine⟨y+1,Le.aC (o:=[]) ?_ ?_ ?_ ?_,⟨by omega,λi hi=>?_⟩,by omega⟩;iterate 4(·simp)
   ·by_cases e:i=y
    ·subst e;exact jV.2 h
    ·exact fl i (by omega)
 simp at bM;refine aa.exit ?_;simp;refine aa.ab ay fw [4] ?_;simp[d28r8];refine aa.ret ?_;have:v=true:=by
  rw[<-hv,decide_eq_true_eq];exact cY.2 ⟨hb,λi hi=>fl i (by simp at hi;omega)⟩
 rw[this];simp[Fm]
theorem uN{a b:Int}(ha:0<=a)(hb:0<=b):0<=jJ a b:=by unfold jJ;split<;>omega
def Ip(es:List (Nat×T×DV)):Prop:=∀e∈es,∃a:bn,e.2.2=.v (.agg a.enc)
theorem U8{f:aT}{N n:Nat}{l0 l1:List (Nat×Ob)}(bd:dO f N)(h0:∀p∈l0,N<=p.1)(h1:∀p∈l1,N<=p.1)(hn:f n≠none):sameAt (over l0 f) (over l1 f) n:=by
 obtain⟨o,ho⟩:=ZbO.1 hn;have cW:=(bd n o ho).1;refine⟨o,o, ?_, ?_,bu o⟩
 ·rw[ee λo' h=>by have:=h0 _ h;simp only at this;omega];exact ho
 ·rw[ee λo' h=>by have:=h1 _ h;simp only at this;omega];exact ho
theorem U9{k:T}{c:Int}{y:DV}{wD:Nat}{es:List (Nat×T×DV)}{e:Nat×T×DV}(h:e∈oP k c y wD es):e.2.2=y\/∃e'∈es,e.2.2=e'.2.2:=by
 unfold oP at h;split at h
 ·rename_i hbt;clear hbt;unfold D9 at h;split at h
  ·rename_i i hi;clear hi;induction es generalizing i with
   |nil=>simp at h
   |cons e0 es ih=>
    cases i with
    |zero=>
     simp only[Zb3,Zag]at h;rcases h with rfl|h
     ·exact .inl rfl
     ·exact .inr ⟨e,by simp[h],rfl⟩
    |succ i=>
     simp only[ZbN,Zag]at h;rcases h with rfl|h
     ·exact .inr ⟨e,by simp,rfl⟩
     ·rcases ih i h with h|⟨e',h1,h2⟩
      ·exact .inl h
      ·exact .inr ⟨e',by simp[h1],h2⟩
  ·rcases Zao.1 h with h|h
   ·exact .inr ⟨e,h,rfl⟩
   ·simp only[Zah]at h;subst h;exact .inl rfl
 ·exact .inr ⟨e,h,rfl⟩
def XP:List DV->aT->iC
 |[.ptr b 0,.agg [.v (.int .i64 f),.v (.int .i64 t),.v (.int .i64 x),.v (.int .i64 c),d]],objs=>
  match objs b with
  |some (.box [_,_,_,.iA m])=>match objs m with
   |some (.map shs agg wD es)=>⟨shs=kv/\agg=true/\Ip es/\jg d/\∀n∈names d,objs n≠none,.v (.eG []),
     cZ objs m (.map kv true (um (keyOf f t x) c wD es) (oP (keyOf f t x) c (.agg [.v (ti f),.v (ti t),.v (ti x),.v (ti c),d]) wD es))⟩
   |_=>⟨False,.undef,objs⟩
  |_=>⟨False,.undef,objs⟩
 |_,objs=>⟨False,.undef,objs⟩
theorem t48{f0:aT}{b m wD:Nat}{c1 c2 c3:DV}{es:List (Nat×T×DV)}{f t x c:Int}{d:DV}{N:Nat}(hN:∀r,N<=r->f0 r=none)(hb:f0 b=some (.box [c1,c2,c3,.iA m]))(hm:f0 m=some (.map kv true wD es))(he:Ip es)(hd:jg d)(Ex:∀n∈names d,f0 n≠none):
  aZ Tryz.prog 73 [.ptr b 0,.agg [.v (ti f),.v (ti t),.v (ti x),.v (ti c),d]] f0 ⟨True,.v (.eG []),cZ f0 m (.map kv true (um (keyOf f t x) c wD es) (oP (keyOf f t x) c (.agg [.v (ti f),.v (ti t),.v (ti x),.v (ti c),d]) wD es))⟩:=by
 have ay:=ej;refine c48.uG hN (by simp) λbd=>?_;have WD:b<N:=(bd b _ hb).1;have Ft:m<N:=(bd m _ hm).1;have xF:b≠m:=λe=>by rw[e,hm]at hb;cases hb
 have nb:∀k,b≠N+k:=λk=>by omega
 have nm:∀k,m≠N+k:=λk=>by omega
 simp;refine aa.ab ay fw [0,3] ?_;simp[d48r0];refine aa.ab ay fw [0,3,4] ?_;simp[d48r1];obtain⟨k,hk⟩:∃k,keyOf f t x=k:=⟨_,rfl⟩;have qY:T.agg [ti f,ti t,ti x]=k:=hk;rw[hk];refine aa.le (Le.fp (l1:=[(N+49,.box [.v (ti f),.v (ti t),.v (ti x)]),(N+4,.box [.v (ti f),.v (ti t),.v (ti x),.v (ti c),d])]) (l:=[(0,.ptr b 0),(3,.ptr (N+4) 0),(4,.ptr (N+49) 0)]) (nxt':=N+100) bd ?_ ?_ ?_ ?_ ?_) ?_
 ·omega
 ·simp
 ·simp[bZ]
 ·refine⟨⟨.box [.v (ti f),.v (ti t),.v (ti x)],by simp[Nat.add_assoc],.inl (by simp),by omega⟩,⟨.box [.v (ti f),.v (ti t),.v (ti x),.v (ti c),d],by simp[Nat.add_assoc],.inr ⟨rfl,λn hn=>?_⟩,by omega⟩,trivial⟩;refine U8 bd ?_ ?_ (Ex n (by simpa [bF,bJ,names]using hn))
  ·simp;omega
  ·simp
 ·simp[hb,nb,Nat.add_assoc]
 have hko:dh kv true k:=by rw[<-hk];simp[keyOf]
 have H:∀(q1 q2 q3 q5:DV) (oc:Int) (fnd:Bool),fnd=(ov k es).isSome->(∀e,ov k es=some e->oc=Fq e.2.2)->
   aa Tryz.prog 43 ((DC.region false Uq).seq (DC.cond (bp.tmp 36) (DC.region true Ur) DC.skip))
    (Xl K8 ⟨True,.v (.eG []),cZ f0 m (.map kv true (um k c wD es) (oP k c (.agg [.v (ti f),.v (ti t),.v (ti x),.v (ti c),d]) wD es))⟩)
    ⟨DM.look [(0,.ptr b 0),(3,.ptr (N+4) 0),(4,.ptr (N+49) 0),(5,.ptr (N+106) 0),(6,.v (.bool fnd))],
     over [(N+106,.box [q1,q2,q3,.v (ti oc),q5]),(N+106,.box [.v (ti 0),.v (ti 0),.v (ti 0),.v (ti 0),.aH]),(N+49,.box [.v (ti f),.v (ti t),.v (ti x)]),(N+4,.box [.v (ti f),.v (ti t),.v (ti x),.v (ti c),d])] f0,N+144,N,[]⟩:=by
  intro q1 q2 q3 q5 oc fnd XQ hoc;have hbet:better k c es=(decide (c<1099511627776)&&(!fnd||decide (c<oc))):=by
   unfold better;cases hf:ov k es with
   |none=>simp[hf]at XQ;simp[XQ]
   |some e=>simp[hf]at XQ;simp[XQ,hoc e hf]
  obtain⟨y,hy⟩:∃y,DV.agg [.v (ti f),.v (ti t),.v (ti x),.v (ti c),d]=y:=⟨_,rfl⟩;have hyn:∀n∈names y,f0 n≠none:=by
   intro n hn;refine Ex n ?_;rw[<-hy]at hn;simpa [names,bJ]using hn
  have oW:∀e∈es,names e.2.2=[]:=λe WE=>by obtain⟨a,ha⟩:=he e WE;rw[ha];rfl
  rw[hy];refine aa.to ⟨DM.look [],over [(m,.map kv true (um k c wD es) (oP k c y wD es))] f0,N+1000,N,[]⟩ ?_ (by simp[K8];rfl);refine aa.bY ay fw [(0,.ptr b 0),(3,.ptr (N+4) 0),(4,.ptr (N+49) 0),(36,.v (.bool (better k c es)))] ?_ ?_
  ·by_cases s1:c<1099511627776<;>cases fnd<;>by_cases s2:c<oc<;>simp[Uq,s1,s2,hbet]
  refine aa.cond rfl (λh=>?_) (λh=>?_)
  ·refine aa.dm ay fw [] ?_;simp[-dh,Ur,Nat.add_assoc,nb,nm,hb,hm,qY,hko];refine Le.fp (l:=[]) bd ?_ ?_ ?_ ?_ ?_
   ·omega
   ·simp;omega
   ·simp[bZ];omega
   ·refine⟨⟨.map kv true (um k c wD es) (oP k c y wD es),by simp[um,oP,h,hy],.inr ⟨rfl,λn hn=>?_⟩,λ_=>bu _⟩,trivial⟩
    ·simp only[bF,ZaV]at hn;obtain⟨e,WE,hn⟩:=hn;rcases U9 WE with h'|⟨e',h',h''⟩
     ·rw[h']at hn;obtain⟨o,ho⟩:=ZbO.1 (hyn n hn);have cW:=(bd n o ho).1;by_cases hnm:n=m
      ·subst hnm;exact⟨.map kv true (um k c wD es) (oP k c y wD es),.map kv true (um k c wD es) (oP k c y wD es),by simp[um,oP,h,hy],by simp,bu _⟩
      ·refine⟨o,o, ?_, ?_,bu o⟩
       ·simp[hnm,show n≠N+106 by omega,show n≠N+49 by omega,show n≠N+4 by omega,ho]
       ·simp[hnm,ho]
     ·rw[h'',oW e' h']at hn;cases hn
   ·simp
  ·refine aa.skip ⟨rfl,Le.fp (l:=[]) bd ?_ ?_ ?_ ?_ ?_⟩
   ·omega
   ·simp;omega
   ·simp[bZ];omega
   ·refine⟨⟨.map kv true wD es,by simp[nm,hm],.inr ⟨by simp[um,oP,h],λn hn=>?_⟩,λ_=>by simp[gV]⟩,trivial⟩
    ·simp only[bF,ZaV]at hn;obtain⟨e,WE,hn⟩:=hn;rw[oW e WE]at hn;cases hn
   ·simp
 refine aa.ab ay fw [0,3,4,5,6] ?_;cases hf:ov k es with
 |none=>
  simp[-dh,Up,Nat.add_assoc,nb,nm,hb,hm,qY,hko,hf];exact H _ _ _ _ 0 false (by simp[hf]) (by simp[hf])
 |some e=>
  obtain⟨a,ha⟩:=he e (ZbQ hf);simp[-dh,Up,Nat.add_assoc,nb,nm,hb,hm,qY,hko,hf,ha,bn.enc];exact H _ _ _ _ a.cost true (by simp[hf]) (by intro e' WE;rw[hf]at WE;cases WE;simp[ha,bn.enc,Fq])
def Iq(ts:List T):Prop:=∃l:List (Int×Int),ts=[.sl (cR l)]/\l.length<=1000000
def Va:List T->List (List T)
 |[.sl rows]=>rows
 |_=>[]
abbrev Γ4:Env:=aX [(73,fa XP),(74,ve Iq Va 75 2)]
theorem ok4:aw Tryz.prog Γ4:=by
 refine aw.gU (aw.QY aw.nil ?_) ?_
 ·rintro ts ⟨l,rfl,h⟩;exact t49 l h
 ·intro args objs h;unfold XP at h⊢;split at h
  ·rename_i b f t x c d aA;split at h
   ·rename_i c1 c2 c3 m hb;split at h
    ·rename_i shs agg wD es hm;obtain⟨rfl,rfl,he,hd,Ex⟩:=h;refine⟨λN hN=>?_,λr hr=>?_⟩
     ·exact aZ.of (t48 hN hb hm he hd Ex) (by simp[]) (by simp[])
     ·simp only[];exact sy hm hr
    ·exact h.elim
   ·exact h.elim
  ·exact h.elim
theorem Lc{a b:aT}{k:T}{c:Int}{y y':DV}{wD:Nat}{es:List (Nat×T×DV)}(hy:jj a b id y y')(he:Ip es):iR a b id (oP k c y wD es) (oP k c y' wD es):=by
 have self:∀{l:List (Nat×T×DV)},Ip l->iR a b id l l:=λ{l} hl=>mR λe h=>by obtain⟨x,hx⟩:=hl e h;rw[hx];simp
 unfold oP;split
 ·rename_i hbt;clear hbt;unfold D9;split
  ·rename_i i hi;clear hi;induction es generalizing i with
   |nil=>simp[iR]
   |cons e es ih=>
    cases i with
    |zero=>simp only[Zb3,iR];exact⟨trivial,trivial,hy,self λe' h=>he e' (by simp[h])⟩
    |succ i=>
     simp only[ZbN,iR];obtain⟨x,hx⟩:=he e (by simp);exact⟨trivial,trivial,by rw[hx];simp,ih (λe' h=>he e' (by simp[h])) i⟩
  ·rename_i hn;clear hn;induction es with
   |nil=>simp only[ZaK,iR];exact⟨trivial,trivial,hy,trivial⟩
   |cons e es ih=>
    simp only[ZaH,iR];obtain⟨x,hx⟩:=he e (by simp);exact⟨trivial,trivial,by rw[hx];simp,ih λe' h=>he e' (by simp[h])⟩
 ·exact self he
theorem eB(al:List bn):Ip (entries al):=O9 al
theorem Dx{a b:aT}{al:List bn}{c:bn}{d:DV}(hd:jj a b id d (.v (.sl (cR c.ops)))):
  iq a b (.map kv true (um c.key c.cost al.length (entries al)) (oP c.key c.cost (.agg [.v (ti c.f),.v (ti c.t),.v (ti c.term),.v (ti c.cost),d]) al.length (entries al))) (bU (tC al c)):=by
 obtain⟨h1,h2⟩:=Fs c al;refine .inl ?_;unfold bU;rw[<-h1,<-h2];simp only[lS];refine⟨trivial,trivial,trivial,Lc ?_ (eB al)⟩;simp[bn.enc,hd]
theorem xG(l:List (Int×Int))(a b:Int):cR l++[[ti a,ti b]]=cR (l++[(a,b)]):=by simp[cR]
theorem Ld{f0:aT}{N m r r2 nxt nxt' v:Nat}{tm:Nat->DV}{l:List (Nat×DV)}{o2:Ob}{al:List bn}(c:bn){rows:List (List T)}(bd:dO f0 N)(hm:m<N)(hr:N<=r)(pZ:N<=r2)(hn:N<=nxt')(cS:rows=cR c.ops)
  (ja:gq (over [(m,.map kv true (um c.key c.cost al.length (entries al)) (oP c.key c.cost (.agg [.v (ti c.f),.v (ti c.t),.v (ti c.term),.v (ti c.cost),.bk r v]) al.length (entries al))),(r,.arr v 75 2 rows),(r2,o2),(m,.map kv true al.length (entries al))] f0) (over [(m,bU (tC al c))] f0) id tm l):
  Le ⟨tm,cZ (over [(r,.arr v 75 2 rows),(r2,o2),(m,.map kv true al.length (entries al))] f0) m (.map kv true (um c.key c.cost al.length (entries al)) (oP c.key c.cost (.agg [.v (ti c.f),.v (ti c.t),.v (ti c.term),.v (ti c.cost),.bk r v]) al.length (entries al))),nxt,N,[]⟩
   ⟨DM.look l,over [(m,bU (tC al c))] f0,nxt',N,[]⟩:=by
 subst cS;rw[kN];refine Le.fp bd hn ?_ ?_ ?_ ja
 ·simp;omega
 ·simp[bZ];omega
 ·refine⟨⟨_,by simp,Dx (d:=.bk r v) ?_,λ_=>by simp[gV,bU]⟩,trivial⟩;simp[show r≠m by omega];exact cT bd hr (by simp;omega)
theorem Pb(al:List bn):bF (bU al)=[]:=by
 simp only[bU,bF,List.flatMap_eq_nil_iff];intro e he;obtain⟨a,ha⟩:=eB al e he;rw[ha];rfl
theorem oQ{a b:aT}(al:List bn):iq a b (bU al) (bU al):=.inr ⟨rfl,λn hn=>by rw[Pb]at hn;cases hn⟩
def bS(al:List bn)(cs:List bn):List bn:=cs.foldl tC al
theorem fE(al cs ds:List bn):bS al (cs++ds)=bS (bS al cs) ds:=by simp[bS]
def km(read:List Int)(i m cost:Int)(ops:List (Int×Int))(n:Nat):List bn:=
 (List.range n).flatMap λt=>if 0<=read.getD t 0 then [⟨2*i,2*m+2,t,cost+read.getD t 0,ops++[(1,(t:Int))]⟩]else []
theorem Lf(read:List Int)(i m cost:Int)(ops:List (Int×Int))(n:Nat):km read i m cost ops (n+1)=km read i m cost ops n++(if 0<=read.getD n 0 then [⟨2*i,2*m+2,n,cost+read.getD n 0,ops++[(1,(n:Int))]⟩]else []):=by
 simp[km,ZaE]
def Nr(c:bC):Prop:=c.read.length<=1000000/\∀p∈c.read,p<=1099511627776
theorem t47{f0:aT}{b m:Nat}{x:Input}{al:List bn}{i j:Nat}{cost:Int}{ops:List (Int×Int)}{N:Nat}(hN:∀r,N<=r->f0 r=none)(hb:f0 b=some (.box (cj x m)))(hm:f0 m=some (bU al))
  (hi:i<=1000000) (hj:j<x.aj.length) (hl:x.aj.length<=1000000) (hc:Nr (x.aj.getD j default)) (qF:0<=cost/\cost<=1099511627776) (hops:ops.length<=1000000):
  aZ Tryz.prog 72 [.ptr b 0,.v (ti i),.v (ti j),.v (ti cost),.v (.sl (cR ops))] f0 ⟨True,.v (.eG []),cZ f0 m (bU (bS al (km (x.aj.getD j default).read i j cost ops (x.aj.getD j default).read.length)))⟩:=by
 have ay:=ok4;refine c47.uG hN (by simp) λbd=>?_;have WD:b<N:=(bd b _ hb).1;have Ft:m<N:=(bd m _ hm).1;have xF:b≠m:=λe=>by rw[e,hm]at hb;cases hb
 have nb:∀k,b≠N+k:=λk=>by omega
 have nm:∀k,m≠N+k:=λk=>by omega
 have lX:=dR hj;obtain⟨col,hcol⟩:∃c,x.aj.getD j default=c:=⟨_,rfl⟩;rw[hcol]at lX hc⊢;obtain⟨kd,read,del⟩:=col;simp only at hc⊢;obtain⟨bb,dL⟩:=hc;simp only at bb dL;have cS:∀r∈cR ops,r.length=2:=by intro r hr;simp only[cR,Zal]at hr;obtain⟨c,_,rfl⟩:=hr;rfl
 simp;refine aa.ab ay fw [0,1,2,3,4,20,21,22] ?_;simp[d47r0,hb,cj,hj,lX,bC.enc];refine aa.to ⟨DM.look [],over [(m,bU (bS al (km read i j cost ops read.length)))] f0,N+1000,N,[]⟩ ?_ (by simp[Uo];rfl);refine aa.block ?_;refine aa.loop (λy:Nat=>⟨DM.look [(0,.ptr b 0),(1,.v (ti i)),(2,.v (ti j)),(3,.v (ti cost)),(4,.v (.sl (cR ops))),(20,.v (.sl (aB read))),(21,.v (ti read.length)),(22,.v (ti y))],over [(m,bU (bS al (km read i j cost ops y)))] f0,N+200,N,[]⟩)
  (λy=>y<=read.length) (λy=>read.length-y) 0 (Le.fp bd ?_ ?_ ?_ ?_ ?_) (by simp) (λy hy=>?_)
 ·omega
 ·simp;omega
 ·simp[bZ]
 ·exact⟨⟨bU al,by simp[hm],by simpa [km,bS]using oQ al,λ_=>trivial⟩,trivial⟩
 ·simp[hb,xF]
 refine aa.ab ay fw [0,1,2,3,4,20,21,22,23] ?_;simp[d47r1];refine aa.seq ?_;refine aa.cond rfl (λbM=>?_) (λbM=>?_)
 ·simp at bM;refine aa.skip ?_;simp;refine aa.seq ?_;refine aa.block ?_;have pZ:=cO bM;obtain⟨p,hp⟩:∃p,read.getD y default=p:=⟨_,rfl⟩;have hp0:read.getD y 0=p:=hp;have hpm:p<=1099511627776:=dL p (by rw[<-hp];simp[List.getD,bM]);rw[hp]at pZ;refine aa.ab ay fw [0,1,2,3,4,10,11,20,21,22] ?_;simp[d47r2,pZ,bM];refine aa.ab ay fw [0,1,2,3,4,10,11,20,21,22,28] ?_;simp[d47r3];have kx:=Lf read i j cost ops y;rw[hp0]at kx;obtain⟨WG,Pc⟩:∃l,bS al (km read i j cost ops y)=l:=⟨_,rfl⟩;rw[Pc];refine aa.to ⟨DM.look [(0,.ptr b 0),(1,.v (ti i)),(2,.v (ti j)),(3,.v (ti cost)),(4,.v (.sl (cR ops))),(20,.v (.sl (aB read))),(21,.v (ti read.length)),(22,.v (ti y))],over [(m,bU (bS al (km read i j cost ops (y+1))))] f0,N+1000,N,[]⟩ ?_ ?_
  ·refine aa.cond rfl (λhd=>?_) (λhd=>?_)
   ·simp at hd;refine aa.tR ay fw (rs:=K7) (.inr ⟨_,rfl⟩) (by kernel_rfl) [0,1,2,3,4,20,21,22] ?_;have w1:IntKind.i64.wrap (2*(i:Int))=2*i:=au (by omega);have w2:IntKind.i64.wrap (2*(j:Int))=2*j:=au (by omega);have w3:IntKind.i64.wrap (2*(j:Int)+2)=2*j+2:=au (by omega);have w4:IntKind.i64.wrap (cost+p)=cost+p:=au (by omega);simp[K7,w1,w2,w3,w4,Va,Iq,chunk,cH,XP,hb,cj,xF,bU,eB,Nat.add_assoc,nb,nm];refine⟨⟨ops,rfl,hops⟩,by omega,λn hn=>?_, ?_⟩
    ·simp only[names,Zah]at hn;subst hn;simp
    ·have e:bS al (km read i j cost ops (y+1))=tC WG ⟨2*i,2*j+2,y,cost+p,ops++[(1,(y:Int))]⟩:=by
      rw[kx,if_pos hd,fE,Pc];rfl
     rw[e];refine Ld ⟨2*i,2*j+2,y,cost+p,ops++[(1,(y:Int))]⟩ bd Ft ?_ ?_ ?_ (xG _ _ _) ?_
     ·omega
     ·omega
     ·omega
     ·simp[hb,xF]
   ·simp at hd;have e:bS al (km read i j cost ops (y+1))=WG:=by
     rw[kx,if_neg (by omega),ZaJ,Pc]
    rw[e];refine aa.skip ⟨rfl,Le.fp bd ?_ ?_ ?_ ?_ ?_⟩
    ·omega
    ·simp;omega
    ·simp[bZ]
    ·exact⟨⟨bU WG,by simp[bU],oQ _,λ_=>bu _⟩,trivial⟩
    ·simp[hb,xF]
  ·refine aa.dm ay fw [0,1,2,3,4,20,21,22] ?_;simp[d47r5];rw[au (by omega)];refine⟨y+1,Le.fp bd ?_ ?_ ?_ ?_ ?_,by omega,by omega⟩
   ·omega
   ·simp;omega
   ·simp[bZ]
   ·exact⟨⟨_,by simp,oQ _,λ_=>bu _⟩,trivial⟩
   ·simp[hb,xF]
 ·simp at bM;have:y=read.length:=by omega
  subst this;refine aa.exit ?_;refine⟨rfl, ?_⟩;refine Le.fp (l:=[]) bd ?_ ?_ ?_ ?_ ?_
  ·omega
  ·simp;omega
  ·simp[bZ]
  ·exact⟨⟨_,by simp,oQ _,λ_=>bu _⟩,trivial⟩
  ·simp
def eR(objs:aT)(b:Nat):Input×Nat:=
 match objs b with
 |some (.box [.v (.sl c),.v (.sl i),.v (.int .i64 s),.iA m])=>(⟨fJ c,fq i,s⟩,m)
 |_=>(⟨[],[],0⟩,0)
theorem zB{objs:aT}{b m:Nat}{x:Input}(h:objs b=some (.box (cj x m))):eR objs b=(x,m):=by
 simp[eR,h,cj]
def xH(objs:aT)(m:Nat):List bn:=
 match objs m with
 |some (.map _ _ _ es)=>es.map λe=>match e.2.2 with|.v (.agg r)=>lM r|_=>default
 |_=>[]
theorem Dy{objs:aT}{m:Nat}{al:List bn}(h:objs m=some (bU al)):xH objs m=al:=by
 simp only[xH,h,bU,entries,ZcL];rw[show(List.map ((λe=>match e.2.2 with|DV.v (T.agg r)=>lM r|_=>default)∘λp=>(p.2,p.1.key,DV.v (T.agg p.1.enc))) al.zipIdx)=al.zipIdx.map Prod.fst from Zbq λp _=>by simp];simp
def XR:List DV->aT->iC
 |[.ptr b 0,.v (.int .i64 i),.v (.int .i64 j)],objs=>⟨objs b=some (.box (cj (eR objs b).1 (eR objs b).2))/\0<=i/\i<=j/\j<=(eR objs b).1.aj.length/\ni (eR objs b).1.aj,
   .v (.eG [ti (dY (((eR objs b).1.aj.take j.toNat).drop i.toNat) 0),.sl (cR (dd (j.toNat-i.toNat)))]),objs⟩
 |_,objs=>⟨False,.undef,objs⟩
theorem xI{objs:aT}{b m:Nat}{x:Input}{i j:Nat}(h:objs b=some (.box (cj x m))):
  XR [.ptr b 0,.v (ti i),.v (ti j)] objs=⟨i<=j/\j<=x.aj.length/\ni x.aj,.v (.eG [ti (dY ((x.aj.take j).drop i) 0),.sl (cR (dd (j-i)))]),objs⟩:=by
 simp only[XR,zB h,h,Zak,true_and,Int.ofNat_le,Zcg];try omega
def k50:List DV->aT->iC
 |[.ptr b 0,.v (.int .i64 i)],objs=>⟨objs b=some (.box (cj (eR objs b).1 (eR objs b).2))/\0<=i/\i<=1000000/\(eR objs b).1.aj.length<=1000000,.v (.bool (bX (eR objs b).1 i.toNat)),objs⟩
 |_,objs=>⟨False,.undef,objs⟩
theorem Vb{objs:aT}{b m:Nat}{x:Input}{i:Nat}(h:objs b=some (.box (cj x m))):
  k50 [.ptr b 0,.v (ti i)] objs=⟨i<=1000000/\x.aj.length<=1000000,.v (.bool (bX x i)),objs⟩:=by
 simp only[k50,zB h,h,Zak,iC.mk.injEq,and_self,and_true,true_and,eq_iff_iff,Zcg];try omega
def k47:List DV->aT->iC
 |[.ptr b 0,.v (.int .i64 i),.v (.int .i64 j),.v (.int .i64 cost),.v (.sl ops)],objs=>
  ⟨objs b=some (.box (cj (eR objs b).1 (eR objs b).2))/\objs (eR objs b).2=some (bU (xH objs (eR objs b).2))/\ops=cR (xB ops)/\0<=i/\i<=1000000/\0<=j/\j<(eR objs b).1.aj.length/\(eR objs b).1.aj.length<=1000000/\Nr ((eR objs b).1.aj.getD j.toNat default)/\0<=cost/\cost<=1099511627776/\(xB ops).length<=1000000,.v (.eG []),
   cZ objs (eR objs b).2 (bU (bS (xH objs (eR objs b).2) (km ((eR objs b).1.aj.getD j.toNat default).read i.toNat j.toNat cost (xB ops) ((eR objs b).1.aj.getD j.toNat default).read.length)))⟩
 |_,objs=>⟨False,.undef,objs⟩
theorem k47_eq{objs:aT}{b m:Nat}{x:Input}{al:List bn}{i j:Nat}{cost:Int}{ops:List (Int×Int)}(h:objs b=some (.box (cj x m)))(hm:objs m=some (bU al)):
  k47 [.ptr b 0,.v (ti i),.v (ti j),.v (ti cost),.v (.sl (cR ops))] objs=⟨i<=1000000/\j<x.aj.length/\x.aj.length<=1000000/\Nr (x.aj.getD j default)/\0<=cost/\cost<=1099511627776/\ops.length<=1000000,.v (.eG []),
   cZ objs m (bU (bS al (km (x.aj.getD j default).read i j cost ops (x.aj.getD j default).read.length)))⟩:=by
 simp only[k47,zB h,h,Dy hm,hm,Zak,K9,true_and,Int.ofNat_lt,Zcg,show((i:Int)<=1000000)=(i<=1000000)from propext ⟨λh=>by omega,λh=>by omega⟩]
abbrev Γ5:Env:=aX [(73,fa XP),(72,fa k47),(50,fa XR),(75,fa k50),(74,ve Iq Va 75 2)]
theorem ok5:aw Tryz.prog Γ5:=by
 refine aw.gU (aw.gU (aw.gU (aw.gU (aw.QY aw.nil ?_) ?_) ?_) ?_) ?_
 ·rintro ts ⟨l,rfl,h⟩;exact t49 l h
 ·intro args objs h;unfold k50 at h⊢;split at h
  ·rename_i aA b i;obtain⟨hb,h1,h2,h3⟩:=h;obtain⟨i,rfl⟩:=Zad h1;refine⟨λN hN=>?_,λr hr=>hr⟩;exact aZ.of (t50 hN hb (by omega) h3) (by simp) (by simp)
  ·exact h.elim
 ·intro args objs h;unfold XR at h⊢;split at h
  ·rename_i aA b i j;obtain⟨hb,h1,h2,h3,h4⟩:=h;obtain⟨i,rfl⟩:=Zad h1;obtain⟨j,rfl⟩:=Zad (show 0<=j by omega);refine⟨λN hN=>?_,λr hr=>hr⟩;exact aZ.of (t31 hN hb (by omega) (by omega) h4) (by simp) (by simp)
  ·exact h.elim
 ·intro args objs h;unfold k47 at h⊢;split at h
  ·rename_i aA b i j cost ops;obtain⟨hb,hm,ho,h1,h2,h3,h4,h5,h6,h7,h8,h9⟩:=h;obtain⟨i,rfl⟩:=Zad h1;obtain⟨j,rfl⟩:=Zad h3;refine⟨λN hN=>?_,λr hr=>sy hm hr⟩;rw[ho];exact aZ.of (t47 hN hb hm (by omega) (by omega) h5 h6 ⟨h7,h8⟩ h9) (by simp) (by simp)
  ·exact h.elim
 ·intro args objs h;exact(ok4 73 (fa XP) rfl).st XP rfl args objs h
def fY(x:Input)(i m:Nat):Int:=dY ((x.aj.take m).drop i) 0
def qD(ins:List Int)(i m cost:Int)(ops:List (Int×Int))(n:Nat):List bn:=
 (List.range n).map λ(t:Nat)=>⟨2*i,2*m,(t:Int),cost+ins.getD t 0,ops++[(3,(t:Int))]⟩
theorem Pd(ins:List Int)(i m cost:Int)(ops:List (Int×Int))(n:Nat):qD ins i m cost ops (n+1)=qD ins i m cost ops n++[⟨2*i,2*m,n,cost+ins.getD n 0,ops++[(3,(n:Int))]⟩]:=by
 simp[qD,ZaE]
def x6(x:Input)(i m:Nat):List bn:=km (x.aj.getD m default).read i m (fY x i m) (dd (m-i)) (x.aj.getD m default).read.length
def pV(x:Input)(i m:Nat):List bn:=
 (if i<m then x6 x i (m-1)else [])++(qD x.insert i m (fY x i m) (dd (m-i)) x.insert.length++
  (if bX x m then [⟨2*i,2*m+1,(x.aj.getD (m+1) default).kind,fY x i m+x.swap,dd (m-i)++[(4,0)]⟩]else []))
def vW(x:Input)(i m:Nat):List bn:=(List.range (m-i)).flatMap λe=>pV x i (i+e)
def qE(x:Input)(i:Nat):List bn:=vW x i (x.aj.length+1)++(if bX x i then [⟨2*i+1,2*i+4,(x.aj.getD i default).kind,0,[]⟩]else [])
theorem Lg(x:Input){i m:Nat}(h:i<=m):vW x i (m+1)=vW x i m++pV x i m:=by
 unfold vW;rw[show m+1-i=(m-i)+1 by omega,ZaE,Zcu];simp[show i+(m-i)=m by omega]
def H2(x:Input):Prop:=ni x.aj/\(∀c∈x.aj,Nr c)/\x.insert.length<=1000000/\(∀p∈x.insert,0<=p/\p<=1099511627776)/\0<=x.swap/\x.swap<=1099511627776
theorem eF{x:Input}(h:ni x.aj)(i m:Nat):0<=fY x i m/\fY x i m<=1099511627776:=
 nV (λc hc=>(h.2 c (Zav (Zbv hc))).1) 0 (by omega)
theorem pO{f0:aT}{N m nxt nxt':Nat}{tm:Nat->DV}{l:List (Nat×DV)}{L:List (Nat×Ob)}{al:List bn}(bd:dO f0 N)(hm:m<N)(hn:N<=nxt')(hL:∀p∈L,p.1=m\/N<=p.1)(ho:over L f0 m=some (bU al))
  (ja:gq (over L f0) (over [(m,bU al)] f0) id tm l):
  Le ⟨tm,over L f0,nxt,N,[]⟩ ⟨DM.look l,over [(m,bU al)] f0,nxt',N,[]⟩:=by
 refine Le.fp bd hn ?_ ?_ ?_ ja
 ·simp;omega
 ·induction L with
  |nil=>trivial
  |cons p L ih=>
   have:∀(L:List (Nat×Ob)),(∀p∈L,p.1=m\/N<=p.1)->bZ N [(m,bU al)] L:=by
    intro L;induction L with
    |nil=>intro _;trivial
    |cons q L ih=>
     intro h;refine⟨λhq=>?_,ih λp hp=>h p (by simp[hp])⟩;rcases h q (by simp)with h|h
     ·exact⟨bU al,by simp[h]⟩
     ·omega
   exact this _ hL
 ·exact⟨⟨bU al,ho,oQ al,λ_=>bu _⟩,trivial⟩
theorem t30{f0:aT}{b m:Nat}{x:Input}{al:List bn}{i:Nat}{N:Nat}(hN:∀r,N<=r->f0 r=none)(hb:f0 b=some (.box (cj x m)))(hm:f0 m=some (bU al))
  (hi:i<=x.aj.length) (hx:H2 x):
  aZ Tryz.prog 49 [.ptr b 0,.v (ti i)] f0 ⟨True,.v (.eG []),cZ f0 m (bU (bS al (qE x i)))⟩:=by
 have ay:=ok5;refine c30.uG hN (by simp) λbd=>?_;have WD:b<N:=(bd b _ hb).1;have Ft:m<N:=(bd m _ hm).1;have xF:b≠m:=λe=>by rw[e,hm]at hb;cases hb
 have nb:∀k,b≠N+k:=λk=>by omega
 have nm:∀k,m≠N+k:=λk=>by omega
 obtain⟨hd,mE,hins,Vc,hsw0,zR⟩:=hx;have hl:=hd.1;simp;refine aa.ab ay fw [0,1,4] ?_;simp[d30r0,hb,cj];refine aa.seq ?_;refine aa.ab ay fw [0,1,4,5] ?_;simp[d30r1];refine aa.to ⟨DM.look [(0,.ptr b 0),(1,.v (ti i))],over [(m,bU (bS al (vW x i (x.aj.length+1))))] f0,N+1000,N,[]⟩ ?_ ?_
 ·refine aa.block ?_;refine aa.loop (λy:Nat=>⟨DM.look [(0,.ptr b 0),(1,.v (ti i)),(4,.v (ti x.aj.length)),(5,.v (ti y))],over [(m,bU (bS al (vW x i y)))] f0,N+1000,N,[]⟩)
   (λy=>i<=y/\y<=x.aj.length+1) (λy=>x.aj.length+1-y) i (Le.fp bd ?_ ?_ ?_ ?_ ?_) (by omega) (λy hy=>?_)
  ·omega
  ·simp;omega
  ·simp[bZ]
  ·exact⟨⟨bU al,by simp[hm],by simpa [vW,bS]using oQ al,λ_=>trivial⟩,trivial⟩
  ·simp[hb,xF]
  obtain⟨jU,fl⟩:=hy;refine aa.seq ?_;refine aa.ab ay fw [0,1,4,5,21] ?_;simp[d30r2];refine aa.cond rfl (λbM=>?_) (λbM=>?_)
  ·simp at bM;refine aa.skip ?_;simp;obtain⟨cost,qF⟩:∃c,fY x i y=c:=⟨_,rfl⟩;have uD:0<=cost/\cost<=1099511627776:=by rw[<-qF];exact eF hd i y
   have hcost':dY ((x.aj.take y).drop i) 0=cost:=qF;obtain⟨WG,Pc⟩:∃l,bS al (vW x i y)=l:=⟨_,rfl⟩;rw[Pc];refine aa.seq ?_;refine aa.to ⟨DM.look [(0,.ptr b 0),(1,.v (ti i)),(4,.v (ti x.aj.length)),(5,.v (ti y))],over [(m,bU (bS WG (pV x i y)))] f0,N+1000,N,[]⟩ ?_ ?_
   ·refine aa.block ?_;refine aa.seq ?_;refine aa.tR ay fw (rs:=K4) (.inr ⟨_,rfl⟩) (by kernel_rfl) [0,1,4,5,6,7] ?_;simp[K4,xI (x:=x) (m:=m),hb,xF,jU,bM,hd,hcost'];refine aa.seq ?_;obtain⟨Ir,Lh⟩:∃l,bS WG (if i<y then x6 x i (y-1)else [])=l:=⟨_,rfl⟩;refine aa.to ⟨DM.look [(0,.ptr b 0),(1,.v (ti i)),(4,.v (ti x.aj.length)),(5,.v (ti y)),(6,.v (ti cost)),(7,.v (.sl (cR (dd (y-i)))))],over [(m,bU Ir)] f0,N+1000,N,[]⟩ ?_ ?_
    ·refine aa.ab ay fw [0,1,4,5,6,7,33] ?_;simp[d30r4];refine aa.cond rfl (λh=>?_) (λh=>?_)
     ·simp at h;obtain⟨q,hq⟩:∃q,y=q+1:=⟨y-1,by omega⟩;have hwq:IntKind.i64.wrap ((y:Int)-1)=(q:Int):=by rw[au (by omega)];omega
      have hiq:i<=q:=by omega
      have hql:q<=x.aj.length:=by omega
      have hql2:q<x.aj.length:=by omega
      obtain⟨c2,dL⟩:∃c,fY x i q=c:=⟨_,rfl⟩;have hc2b:0<=c2/\c2<=1099511627776:=by rw[<-dL];exact eF hd i q
      have hc2':dY ((x.aj.take q).drop i) 0=c2:=dL;refine aa.seq (aa.tR ay fw (rs:=K5) (.inr ⟨_,rfl⟩) (by kernel_rfl) [0,1,4,5,6,7,8,9] ?_);simp[K5,xI (x:=x) (m:=m),hb,xF,hwq,hiq,hql,hd,hc2'];refine aa.tR ay fw (rs:=K6) (.inr ⟨_,rfl⟩) (by kernel_rfl) [0,1,4,5,6,7] ?_;simp[K6,k47_eq (x:=x) (m:=m) (al:=WG),hb,xF,hwq];refine⟨⟨by omega,hql2,hl, ?_,hc2b.1,hc2b.2,by simp[dd];omega⟩, ?_⟩
      ·rw[Zan hql2];exact mE _ (Zbj hql2)
      ·rw[kN];have e:bS WG (km (x.aj[q]?.getD default).read i q c2 (dd (q-i)) (x.aj[q]?.getD default).read.length)=Ir:=by
        rw[<-Lh,if_pos h];simp[x6,show y-1=q by omega,dL]
       rw[e];exact pO bd Ft (by omega) (by simp) (by simp) (by simp[hb,xF])
     ·simp at h;have e:WG=Ir:=by rw[<-Lh,if_neg (by omega)];rfl
      rw[e];exact aa.skip ⟨rfl,pO bd Ft (by omega) (by simp) (by simp) (by simp[hb,xF])⟩
    refine aa.seq ?_;obtain⟨Jq,xJ⟩:∃l,bS Ir (qD x.insert i y cost (dd (y-i)) x.insert.length)=l:=⟨_,rfl⟩;refine aa.to ⟨DM.look [(0,.ptr b 0),(1,.v (ti i)),(4,.v (ti x.aj.length)),(5,.v (ti y)),(6,.v (ti cost)),(7,.v (.sl (cR (dd (y-i)))))],over [(m,bU Jq)] f0,N+1000,N,[]⟩ ?_ ?_
    ·refine aa.ab ay fw [0,1,4,5,6,7,53,54,55] ?_;simp[d30r7,hb,xF,cj];refine aa.block ?_;refine aa.loop (λz:Nat=>⟨DM.look [(0,.ptr b 0),(1,.v (ti i)),(4,.v (ti x.aj.length)),(5,.v (ti y)),(6,.v (ti cost)),(7,.v (.sl (cR (dd (y-i))))),(53,.v (.sl (aB x.insert))),(54,.v (ti x.insert.length)),(55,.v (ti z))],over [(m,bU (bS Ir (qD x.insert i y cost (dd (y-i)) z)))] f0,N+1000,N,[]⟩)
      (λz=>z<=x.insert.length) (λz=>x.insert.length-z) 0 ?_ (by omega) (λz hz=>?_)
     ·exact pO bd Ft (by omega) (by simp) (by simp[qD,bS]) (by simp[hb,xF])
     refine aa.ab ay fw [0,1,4,5,6,7,53,54,55,56] ?_;simp[d30r8];refine aa.seq ?_;refine aa.cond rfl (λh=>?_) (λh=>?_)
     ·simp at h;refine aa.skip ?_;simp;refine aa.seq ?_;refine aa.block ?_;obtain⟨p,hp⟩:∃p,x.insert.getD z default=p:=⟨_,rfl⟩;have hr:=cO h;have PU:=Vc p (by rw[<-hp];simp[List.getD,h]);have hp0:x.insert.getD z 0=p:=hp;have kx:=Pd x.insert i y cost (dd (y-i)) z;rw[hp0]at kx;rw[hp]at hr;refine aa.ab ay fw [0,1,4,5,6,7,10,11,53,54,55] ?_;simp[d30r9,hr,h];obtain⟨alz,halz⟩:∃l,bS Ir (qD x.insert i y cost (dd (y-i)) z)=l:=⟨_,rfl⟩;rw[halz];refine aa.to ⟨DM.look [(0,.ptr b 0),(1,.v (ti i)),(4,.v (ti x.aj.length)),(5,.v (ti y)),(6,.v (ti cost)),(7,.v (.sl (cR (dd (y-i))))),(53,.v (.sl (aB x.insert))),(54,.v (ti x.insert.length)),(55,.v (ti z))],over [(m,bU (bS Ir (qD x.insert i y cost (dd (y-i)) (z+1))))] f0,N+1000,N,[]⟩ ?_ ?_
      ·refine aa.tR ay fw (rs:=Fh) (.inr ⟨_,rfl⟩) (by kernel_rfl) [0,1,4,5,6,7,53,54,55] ?_;have w1:IntKind.i64.wrap (2*(i:Int))=2*i:=au (by omega);have w2:IntKind.i64.wrap (2*(y:Int))=2*y:=au (by omega);have w4:IntKind.i64.wrap (cost+p)=cost+p:=au (by omega);have jr:(dd (y-i)).length=y-i:=by simp[dd]
       simp[Fh,w1,w2,w4,Va,Iq,chunk,cH,XP,hb,cj,xF,bU,eB,Nat.add_assoc,nb,nm];refine⟨⟨_,rfl,by omega⟩,by omega,λn hn=>?_, ?_⟩
       ·simp only[names,Zah]at hn;subst hn;simp
       ·have e:bS Ir (qD x.insert i y cost (dd (y-i)) (z+1))=tC alz ⟨2*i,2*y,z,cost+p,dd (y-i)++[(3,(z:Int))]⟩:=by
         rw[kx,fE,halz];rfl
        rw[e];refine Ld ⟨2*i,2*y,z,cost+p,dd (y-i)++[(3,(z:Int))]⟩ bd Ft ?_ ?_ ?_ (xG _ _ _) ?_
        ·omega
        ·omega
        ·omega
        ·simp[hb,xF]
      ·refine aa.dm ay fw [0,1,4,5,6,7,53,54,55] ?_;simp[Ul];rw[au (by omega)];exact⟨z+1,pO bd Ft (by omega) (by simp) (by simp) (by simp[hb,xF]),by omega,by omega⟩
     ·simp at h;have:z=x.insert.length:=by omega
      subst this;refine aa.exit ⟨rfl, ?_⟩;rw[xJ];exact pO bd Ft (by omega) (by simp) (by simp) (by simp[hb,xF])
    refine aa.iG ay fw (rs:=Fi) (.inr ⟨_,rfl⟩) (by kernel_rfl) [0,1,4,5,6,7,80] ?_;simp[Fi,Vb (x:=x) (m:=m),hb,xF];refine⟨⟨by omega,hl⟩, ?_⟩;have Wz:bS WG (pV x i y)=bS Jq (if bX x y then [⟨2*i,2*y+1,(x.aj.getD (y+1) default).kind,cost+x.swap,dd (y-i)++[(4,0)]⟩]else []):=by
     rw[<-xJ,<-Lh,<-fE,<-fE];simp[pV,qF]
    refine aa.cond rfl (λh=>?_) (λh=>?_)
    ·rw[Wz,if_pos h];have Is:y+1<x.aj.length:=by simp[bX]at h;exact h.1
     have hr:DM.rowAt (aV x.aj) ((y:Int)+1)=_:=dR Is;obtain⟨c2,dL⟩:∃c,x.aj.getD (y+1) default=c:=⟨_,rfl⟩;rw[dL]at hr⊢;have w0:IntKind.i64.wrap ((y:Int)+1)=y+1:=au (by omega);have w1:IntKind.i64.wrap (2*(i:Int))=2*i:=au (by omega);have w2:IntKind.i64.wrap (2*(y:Int))=2*y:=au (by omega);have w3:IntKind.i64.wrap (2*(y:Int)+1)=2*y+1:=au (by omega);have w4:IntKind.i64.wrap (cost+x.swap)=cost+x.swap:=au (by omega);have jr:(dd (y-i)).length=y-i:=by simp[dd]
     have hlt1:((y:Int)+1<x.aj.length)=True:=by simp;omega
     have Fe:(0<=(y:Int)+1)=True:=by simp;omega
     refine aa.tR ay fw (rs:=db (GV b N) (fm Fj [none,none,none,none,none,none,none,none,none,none,some [0],none,none,some [],none,some [],none,none,none,none,none,some [0],none,none,some [],none,none,some [1239]])) (.inl rfl) (by rw[gr (OQ WD)];kernel_rfl) [0,1,4,5] ?_;simp[db,gJ,fm,b8,bm,names,bJ,GV,Fj,w0,w1,w2,w3,w4,hr,hlt1,Fe,bC.enc,Va,Iq,chunk,cH,XP,hb,cj,xF,bU,eB,Nat.add_assoc,nb,nm];refine⟨⟨_,rfl,by omega⟩,by omega, ?_⟩;refine Ld ⟨2*i,2*y+1,c2.kind,cost+x.swap,dd (y-i)++[(4,0)]⟩ bd Ft ?_ ?_ ?_ (xG _ _ _) ?_
     ·omega
     ·omega
     ·omega
     ·simp[hb,xF]
    ·rw[Wz,if_neg (by simp[h])];exact aa.skip ⟨rfl,pO bd Ft (by omega) (by simp) (by simp[bS]) (by simp[hb,xF])⟩
   ·refine aa.dm ay fw [0,1,4,5] ?_;simp[Um];rw[au (by omega)];refine⟨y+1,pO bd Ft (by omega) (by simp) (by simp;rw[Lg x jU,fE,Pc]) (by simp[hb,xF]),⟨by omega,by omega⟩,by omega⟩
  ·simp at bM;have:y=x.aj.length+1:=by omega
   subst this;refine aa.exit ⟨rfl, ?_⟩;exact pO bd Ft (by omega) (by simp) (by simp) (by simp[hb,xF])
 ·obtain⟨al3,Pe⟩:∃l,bS al (vW x i (x.aj.length+1))=l:=⟨_,rfl⟩;have Wz:bS al (qE x i)=bS al3 (if bX x i then [⟨2*i+1,2*i+4,(x.aj.getD i default).kind,0,[]⟩]else []):=by
   rw[<-Pe,<-fE];rfl
  rw[Pe];refine aa.iG ay fw (rs:=Fk) (.inr ⟨_,rfl⟩) (by kernel_rfl) [0,1,113] ?_;simp[Fk,Vb (x:=x) (m:=m),hb,xF];refine⟨⟨by omega,hl⟩, ?_⟩;refine aa.to ⟨DM.look [],over [(m,bU (bS al (qE x i)))] f0,N+1000,N,[]⟩ ?_ (by simp[Un];rfl);refine aa.cond rfl (λh=>?_) (λh=>?_)
  ·rw[Wz,if_pos h];have Is:i<x.aj.length:=by simp[bX]at h;omega
   have hr:=dR Is;obtain⟨c2,dL⟩:∃c,x.aj.getD i default=c:=⟨_,rfl⟩;rw[dL]at hr⊢;have w1:IntKind.i64.wrap (2*(i:Int))=2*i:=au (by omega);have w2:IntKind.i64.wrap (2*(i:Int)+1)=2*i+1:=au (by omega);have w3:IntKind.i64.wrap (2*(i:Int)+4)=2*i+4:=au (by omega);refine aa.tR ay fw (rs:=Fl) (.inr ⟨_,rfl⟩) (by kernel_rfl) [] ?_;simp[Fl,w1,w2,w3,hr,Is,bC.enc,XP,hb,cj,xF,bU,eB,Nat.add_assoc];refine⟨λn hn=>(by simp[names]at hn), ?_⟩;rw[kN];refine Le.fp (l:=[]) bd (by omega) (by simp;omega) (by simp[bZ]) ⟨⟨_,by simp;exact⟨rfl,rfl⟩,Dx (c:=⟨2*i+1,2*i+4,c2.kind,0,[]⟩) (d:=.aH) ?_,λ_=>by simp[gV]⟩,trivial⟩ (by simp);simp[cR]
  ·rw[Wz,if_neg (by simp[h])];exact aa.skip ⟨rfl,pO bd Ft (by omega) (by simp) (by simp[bS]) (by simp)⟩
def Hf:List RO:=[
 o (.box (t 0)) 1 [],
 o (.alloc [(.v (.int .i64 0)),.aH,.aH]) 2 []]
def Hg:List RO:=[
 a 0 1 15 [],
 l 15 16 [0],
 o (.len (t 16)) 17 [1],
 m 17 3 [2,0,1,2]]
def d14r2:List RO:=[
 o (.bQ (.cw .aH)) 4 []]
def d14r3:List RO:=[
 o (.bQ (i 0)) 5 []]
def d14r4:List RO:=[
 n 5 18,
 n 3 19,
 b .leq 18 19 20 [0,1]]
def d14r5:List RO:=[
 n 5 23,
 m 23 6 [0,0]]
def d14r6:List RO:=[
 n 6 24,
 n 3 25,
 b .leq 24 25 26 [0,1]]
def d14r7:List RO:=[
 L 3 1 29 [],
 n 5 30,
 n 6 31,
 o (.call 26 [(t 29),(t 30),(t 31)]) 32 [0,1,2],
 m 32 7 [3,3,0,1,2,3]]
def d14r8:List RO:=[
 o (.bQ (i 0)) 8 []]
def d14r9:List RO:=[
 n 8 33,
 a 1 1 34 [],
 l 34 35 [1],
 o (.len (t 35)) 36 [2],
 b .lss 33 36 37 [0,3]]
def Fp:List RO:=[
 n 6 40,
 n 3 41,
 b .lss 40 41 42 [0,1],
 m 42 43 [2],
 u 0 1 44 43 true [3],
 v 44 45 43 true [4,3],
 w 6 46 43 true [3],
 g (.idxAddr 3 (t 45) (t 46)) 47 43 true [5,6,3],
 u 1 47 48 43 true [7,3],
 v 48 49 43 true [8,3],
 w 8 50 43 true [3],
 g (.idxAddr 1 (t 49) (t 50)) 51 43 true [9,10,3],
 v 51 52 43 true [11,3],
 g (.bin .geq (t 52) (i 0)) 53 43 true [12,3],
 q 43 53 54 [3,13]]
def UF:List RO:=[
 n 4 55,
 n 5 56,
 o (.bin .mul (i 2) (t 56)) 57 [1],
 n 6 58,
 o (.bin .mul (i 2) (t 58)) 59 [3],
 o (.bin .add (t 59) (i 2)) 60 [4],
 n 8 61,
 n 7 62,
 a 0 1 63 [],
 l 63 64 [8],
 n 6 65,
 x 3 64 65 66 [9,10],
 a 1 66 67 [11],
 l 67 68 [12],
 n 8 69,
 x 1 68 69 70 [13,14],
 l 70 71 [15],
 o (.call 28 [(t 62),(t 71)]) 72 [7,16],
 n 6 73,
 n 5 74,
 b .sub 73 74 75 [18,19],
 n 8 76,
 o (.build [(.v (.int .i64 0)),(.v (.int .i64 0))] [(0,1,(i 1)),(1,1,(t 76))]) 77 [21],
 o (.call 29 [(t 75),(t 77)]) 78 [20,22,17],
 o (.build [(.v (.int .i64 0)),(.v (.int .i64 0)),(.v (.int .i64 0)),(.v (.int .i64 0)),.aH] [(0,1,(t 57)),(1,1,(t 60)),(2,1,(t 61)),(3,1,(t 72)),(4,1,(t 78))]) 79 [2,5,6,17,23],
 o (.call 27 [(t 55),(t 79)]) 80 [0,24,23],
 m 80 4 (k [25,25] 25)]
def UG:List RO:=[
 n 8 38,
 o (.bin .add (t 38) (i 1)) 39 [0],
 m 39 8 [1,0,1]]
def UH:List RO:=[
 L 3 1 81 [],
 n 6 82,
 o (.call 30 [(t 81),(t 82)]) 83 [0,1]]
def UI:List RO:=[
 n 4 84,
 n 5 85,
 o (.bin .mul (i 2) (t 85)) 86 [1],
 n 6 87,
 o (.bin .mul (i 2) (t 87)) 88 [3],
 o (.bin .add (t 88) (i 1)) 89 [4],
 a 0 1 90 [],
 l 90 91 [6],
 n 6 92,
 o (.bin .add (t 92) (i 1)) 93 [8],
 x 3 91 93 94 [7,9],
 a 0 94 95 [10],
 l 95 96 [11],
 n 7 97,
 a 2 1 98 [],
 l 98 99 [14],
 o (.call 28 [(t 97),(t 99)]) 100 [13,15],
 n 6 101,
 n 5 102,
 b .sub 101 102 103 [17,18],
 o (.build [(.v (.int .i64 0)),(.v (.int .i64 0))] [(0,1,(i 4))]) 104 [],
 o (.call 29 [(t 103),(t 104)]) 105 [19,20,16],
 o (.build [(.v (.int .i64 0)),(.v (.int .i64 0)),(.v (.int .i64 0)),(.v (.int .i64 0)),.aH] [(0,1,(t 86)),(1,1,(t 89)),(2,1,(t 96)),(3,1,(t 100)),(4,1,(t 105))]) 106 [2,5,12,16,21],
 o (.call 27 [(t 84),(t 106)]) 107 [0,22,21],
 m 107 4 (k [23,23] 23)]
def UJ:List RO:=[
 n 6 27,
 o (.bin .add (t 27) (i 1)) 28 [0],
 m 28 6 [1,0,1]]
def UK:List RO:=[
 L 3 1 108 [],
 n 5 109,
 o (.call 30 [(t 108),(t 109)]) 110 [0,1]]
def UL:List RO:=[
 n 4 111,
 n 5 112,
 o (.bin .mul (i 2) (t 112)) 113 [1],
 o (.bin .add (t 113) (i 1)) 114 [2],
 n 5 115,
 o (.bin .mul (i 2) (t 115)) 116 [4],
 o (.bin .add (t 116) (i 4)) 117 [5],
 a 0 1 118 [],
 l 118 119 [7],
 n 5 120,
 x 3 119 120 121 [8,9],
 a 0 121 122 [10],
 l 122 123 [11],
 o (.build [(.v (.int .i64 0)),(.v (.int .i64 0)),(.v (.int .i64 0)),(.v (.int .i64 0)),.aH] [(0,1,(t 114)),(1,1,(t 117)),(2,1,(t 123))]) 124 [3,6,12],
 o (.call 27 [(t 111),(t 124)]) 125 [0,13],
 m 125 4 (k [14,14] 14)]
def UM:List RO:=[
 n 5 21,
 o (.bin .add (t 21) (i 1)) 22 [0],
 m 22 5 [1,0,1]]
def UN:List RO:=[
 o (.bQ (i 0)) 9 []]
def UO:List RO:=[
 n 9 126,
 n 3 127,
 b .leq 126 127 128 [0,1]]
def UP:List RO:=[
 n 9 131,
 m 131 10 [0,0]]
def UQ:List RO:=[
 n 10 132,
 n 3 133,
 b .leq 132 133 134 [0,1]]
def UR:List RO:=[
 o (.bQ (i 0)) 11 []]
def US:List RO:=[
 n 11 137,
 a 1 1 138 [],
 l 138 139 [1],
 o (.len (t 139)) 140 [2],
 b .lss 137 140 141 [0,3]]
def UT:List RO:=[
 n 4 144,
 n 9 145,
 o (.bin .mul (i 2) (t 145)) 146 [1],
 n 10 147,
 o (.bin .mul (i 2) (t 147)) 148 [3],
 n 11 149,
 L 3 1 150 [],
 n 9 151,
 n 10 152,
 o (.call 26 [(t 150),(t 151),(t 152)]) 153 [6,7,8],
 a 1 1 154 [],
 l 154 155 [10],
 n 11 156,
 x 1 155 156 157 [11,12],
 l 157 158 [13],
 o (.call 28 [(t 153),(t 158)]) 159 [9,14,9],
 n 10 160,
 n 9 161,
 b .sub 160 161 162 [16,17],
 n 11 163,
 o (.build [(.v (.int .i64 0)),(.v (.int .i64 0))] [(0,1,(i 3)),(1,1,(t 163))]) 164 [19],
 o (.call 29 [(t 162),(t 164)]) 165 [18,20,15],
 o (.build [(.v (.int .i64 0)),(.v (.int .i64 0)),(.v (.int .i64 0)),(.v (.int .i64 0)),.aH] [(0,1,(t 146)),(1,1,(t 148)),(2,1,(t 149)),(3,1,(t 159)),(4,1,(t 165))]) 166 [2,4,5,15,21],
 o (.call 27 [(t 144),(t 166)]) 167 [0,22,21],
 m 167 4 (k [23,23] 23)]
def UU:List RO:=[
 n 11 142,
 o (.bin .add (t 142) (i 1)) 143 [0],
 m 143 11 [1,0,1]]
def UW:List RO:=[
 n 10 135,
 o (.bin .add (t 135) (i 1)) 136 [0],
 m 136 10 [1,0,1]]
def UX:List RO:=[
 n 9 129,
 o (.bin .add (t 129) (i 1)) 130 [0],
 m 130 9 [1,0,1]]
def UY:List RO:=[
 n 3 168,
 o (.bin .mul (i 2) (t 168)) 169 [0],
 o (.bin .add (t 169) (i 1)) 170 [1],
 n 4 171,
 o (.build [(.v (.int .i64 0)),.aH,.aH] [(0,1,(t 170)),(1,1,(t 171))]) 172 [2,3],
 o (.alloc [(.v (.int .i64 0)),.aH,.aH]) 12 [],
 S 3 12 172 (k [5,4] 5)]
def UZ:List RO:=[
 n 3 173,
 o (.bin .mul (i 2) (t 173)) 174 [0],
 o (.bin .add (t 174) (i 1)) 175 [1],
 o (.mkSlice 3 1 8 [(.int .i64 0)] (t 175)) 176 [2,2],
 m 176 13 [3,0,1,2,3]]
def U0:List RO:=[
 o (.bQ (i 0)) 14 []]
def U1:List RO:=[
 n 14 177,
 n 13 178,
 o (.len (t 178)) 179 [1],
 b .lss 177 179 180 [0,2]]
def U2:List RO:=[
 n 13 183,
 n 14 184,
 x 1 183 184 185 [0,1,0,1],
 s (.store 1 (t 185) (i 1099511627776)) [2,0,1]]
def U3:List RO:=[
 n 14 186,
 o (.bin .rem (t 186) (i 2)) 187 [0],
 o (.bin .eql (t 187) (i 0)) 188 [1]]
def U4:List RO:=[
 n 13 189,
 n 14 190,
 L 3 1 191 [],
 n 14 192,
 o (.bin .quo (t 192) (i 2)) 193 [3],
 n 3 194,
 o (.call 26 [(t 191),(t 193),(t 194)]) 195 [2,4,5],
 x 1 189 190 196 (k [0,1] 6),
 S 1 196 195 (k [7,6,6] 6)]
def U5:List RO:=[
 n 14 181,
 o (.bin .add (t 181) (i 1)) 182 [0],
 m 182 14 [1,0,1]]
def U6:List RO:=[
 n 13 197,
 a 2 12 198 [0],
 S 1 198 197 [1,0,0]]
def U7:List RO:=[
 L 3 12 199 [],
 S 3 2 199 [0,0]]
def d14:DC:=(j (y Hf)
 (j (y Hg)
 (j (y d14r2)
 (j (j (y d14r3)
 (.block 0 (.loop (j (j (y d14r4)
 (.cond (.tmp 20) .skip
 (.exit 0)))
 (j (.block 1 (j (j (y d14r5)
 (.block 2 (.loop (j (j (y d14r6)
 (.cond (.tmp 26) .skip
 (.exit 2)))
 (j (.block 3 (j (y d14r7)
 (j (j (y d14r8)
 (.block 4 (.loop (j (j (y d14r9)
 (.cond (.tmp 37) .skip
 (.exit 4)))
 (j (.block 5 (j (y Fp)
 (.cond (.tmp 54) (y UF)
 .skip)))
 (y UG))))))
 (j (y UH)
 (.cond (.tmp 83) (Y UI)
 .skip)))))
 (y UJ))))))
 (j (y UK)
 (.cond (.tmp 110) (y UL)
 .skip))))
 (y UM))))))
 (j (j (y UN)
 (.block 6 (.loop (j (j (y UO)
 (.cond (.tmp 128) .skip
 (.exit 6)))
 (j (.block 7 (j (y UP)
 (.block 8 (.loop (j (j (y UQ)
 (.cond (.tmp 134) .skip
 (.exit 8)))
 (j (.block 9 (j (y UR)
 (.block 10 (.loop (j (j (y US)
 (.cond (.tmp 141) .skip
 (.exit 10)))
 (j (.block 11 (Y UT))
 (y UU)))))))
 (y UW)))))))
 (y UX))))))
 (j (y UY)
 (j (y UZ)
 (j (j (y U0)
 (.block 12 (.loop (j (j (y U1)
 (.cond (.tmp 180) .skip
 (.exit 12)))
 (j (.block 13 (j (y U2)
 (j (y U3)
 (.cond (.tmp 188) (y U4)
 .skip))))
 (y U5))))))
 (j (y U6)
 (j (y U7)
 .ret))))))))))
def A7:List bO:=[.cell 2 3 true]
theorem c14 [Laid]:aQ Tryz.prog 12 200 d14 A7:=⟨Tryz.f12,by kernel_rfl,by kernel_rfl,by kernel_rfl,by kernel_rfl,by kernel_rfl⟩
def Ht:List RO:=[
 o (.box (t 0)) 3 [],
 o (.bQ (i 0)) 6 []]
def Hu:List RO:=[
 o (.bQ (i 0)) 7 []]
def Hv:List RO:=[
 n 1 9,
 m 9 8 [0,0]]
def Hw:List RO:=[
 n 8 10,
 n 2 11,
 b .lss 10 11 12 [0,1]]
def Hx:List RO:=[
 n 7 15,
 a 0 3 16 [],
 l 16 17 [1],
 n 8 18,
 x 3 17 18 19 [2,3],
 a 2 19 20 [4],
 l 20 21 [5],
 o (.call 28 [(t 15),(t 21)]) 22 [0,6],
 m 22 7 (k [7,7] 7)]
def Hy:List RO:=[
 n 8 13,
 o (.bin .add (t 13) (i 1)) 14 [0],
 m 14 8 [1,0,1]]
def Hz:List RO:=[
 n 7 23,
 m 23 6 [0,0]]
def d34:DC:=(j (y Ht)
 (j (y Hu)
 (j (j (y Hv)
 (.block 0 (.loop (j (j (y Hw)
 (.cond (.tmp 12) .skip
 (.exit 0)))
 (j (.block 1 (y Hx))
 (y Hy))))))
 (j (y Hz)
 .ret))))
def xp:List bO:=[.slot 6]
theorem c34 [Laid]:aQ Tryz.prog 26 24 d34 xp:=⟨Tryz.f26,by kernel_rfl,by kernel_rfl,by kernel_rfl,by kernel_rfl,by kernel_rfl⟩
def HQ:List RO:=[
 o (.box (t 1)) 3 [],
 o (.bQ (.cw .aH)) 4 []]
def HR:List RO:=[
 a 3 3 8 [],
 l 8 9 [0],
 o (.bin .geq (t 9) (i 1099511627776)) 10 [1]]
def HS:List RO:=[
 n 0 11,
 m 11 4 [0,0]]
def HT:List RO:=[
 o (.bQ (.cw .aH)) 5 []]
def HU:List RO:=[
 o (.bQ (.cw (.v (.bool false)))) 6 []]
def HV:List RO:=[
 o (.bQ (i 0)) 7 []]
def HW:List RO:=[
 n 7 12,
 n 0 13,
 o (.len (t 13)) 14 [1],
 b .lss 12 14 15 [0,2]]
def vF:List RO:=[
 n 6 18,
 o (.un .not (t 18)) 19 [0],
 m 19 20 [1],
 w 0 21 20 true [2],
 w 7 22 20 true [2],
 g (.idxAddr 5 (t 21) (t 22)) 23 20 true [3,4,2],
 u 0 23 24 20 true [5,2],
 v 24 25 20 true [6,2],
 u 0 3 26 20 true [2],
 v 26 27 20 true [8,2],
 g (.bin .eql (t 25) (t 27)) 28 20 true [7,9,2],
 q 20 28 29 [2,10],
 m 29 30 [11,2],
 w 0 31 30 true [12],
 w 7 32 30 true [12],
 g (.idxAddr 5 (t 31) (t 32)) 33 30 true [13,14,12],
 u 1 33 34 30 true [15,12],
 v 34 35 30 true [16,12],
 u 1 3 36 30 true [12],
 v 36 37 30 true [18,12],
 g (.bin .eql (t 35) (t 37)) 38 30 true [17,19,12],
 q 30 38 39 [12,20],
 m 39 40 [21,12],
 w 0 41 40 true [22],
 w 7 42 40 true [22],
 g (.idxAddr 5 (t 41) (t 42)) 43 40 true [23,24,22],
 u 2 43 44 40 true [25,22],
 v 44 45 40 true [26,22],
 u 2 3 46 40 true [22],
 v 46 47 40 true [28,22],
 g (.bin .eql (t 45) (t 47)) 48 40 true [27,29,22],
 q 40 48 49 [22,30]]
def HX:List RO:=[
 o (.bQ (.cw (.v (.bool true)))) 6 []]
def HY:List RO:=[
 a 3 3 50 [],
 l 50 51 [0],
 n 0 52,
 n 7 53,
 x 5 52 53 54 [2,3],
 a 3 54 55 [4],
 l 55 56 [5],
 b .lss 51 56 57 [1,6]]
def Bg:List RO:=[
 n 5 58,
 L 5 3 59 [],
 o (.bslice 1 5 [(.v (.int .i64 0)),(.v (.int .i64 0)),(.v (.int .i64 0)),(.v (.int .i64 0)),.aH] [(0,5,(t 59))]) 60 [1],
 o (.append 77 5 56 (t 58) (t 60)) 61 [0,2],
 m 61 5 [3,3,0,1,2,3]]
def ub:List RO:=[
 n 6 62,
 o (.un .not (t 62)) 63 [0],
 m 63 64 [1],
 g (.load 5 true (t 3)) 65 64 true [2],
 w 0 66 64 true [2],
 w 7 67 64 true [2],
 g (.idxAddr 5 (t 66) (t 67)) 68 64 true [4,5,2],
 g (.load 5 true (t 68)) 69 64 true [6,2],
 g (.call 47 [(t 65),(t 69)]) 70 64 true [3,7,2,2],
 q 64 70 71 [2,8]]
def E4:List RO:=[
 o (.bQ (.cw (.v (.bool true)))) 6 []]
def Bh:List RO:=[
 n 5 72,
 L 5 3 73 [],
 o (.bslice 1 5 [(.v (.int .i64 0)),(.v (.int .i64 0)),(.v (.int .i64 0)),(.v (.int .i64 0)),.aH] [(0,5,(t 73))]) 74 [1],
 o (.append 77 5 56 (t 72) (t 74)) 75 [0,2],
 m 75 5 [3,3,0,1,2,3]]
def Bi:List RO:=[
 n 5 76,
 n 0 77,
 n 7 78,
 x 5 77 78 79 [1,2],
 L 5 79 80 [3],
 o (.bslice 1 5 [(.v (.int .i64 0)),(.v (.int .i64 0)),(.v (.int .i64 0)),(.v (.int .i64 0)),.aH] [(0,5,(t 80))]) 81 [4],
 o (.append 77 5 56 (t 76) (t 81)) 82 [0,5],
 m 82 5 (k [6,6] 6)]
def Bj:List RO:=[
 n 7 16,
 o (.bin .add (t 16) (i 1)) 17 [0],
 m 17 7 [1,0,1]]
def Bk:List RO:=[
 n 6 83,
 o (.un .not (t 83)) 84 [0]]
def Bl:List RO:=[
 n 5 85,
 L 5 3 86 [],
 o (.bslice 1 5 [(.v (.int .i64 0)),(.v (.int .i64 0)),(.v (.int .i64 0)),(.v (.int .i64 0)),.aH] [(0,5,(t 86))]) 87 [1],
 o (.append 77 5 56 (t 85) (t 87)) 88 [0,2],
 m 88 5 [3,3,0,1,2,3]]
def Bm:List RO:=[
 n 5 89,
 m 89 4 [0,0]]
def d35:DC:=(j (y HQ)
 (j (j (y HR)
 (.cond (.tmp 10) (j (y HS)
 .ret)
 .skip))
 (j (y HT)
 (j (y HU)
 (j (j (y HV)
 (.block 0 (.loop (j (j (y HW)
 (.cond (.tmp 15) .skip
 (.exit 0)))
 (j (.block 1 (j (j (Y vF)
 (.cond (.tmp 49) (j (y HX)
 (j (Y HY)
 (.cond (.tmp 57) (j (y Bg)
 (.exit 1))
 .skip)))
 .skip))
 (j (j (Y ub)
 (.cond (.tmp 71) (j (y E4)
 (y Bh))
 .skip))
 (y Bi))))
 (y Bj))))))
 (j (j (y Bk)
 (.cond (.tmp 84) (y Bl)
 .skip))
 (j (y Bm)
 .ret)))))))
def Bn:List bO:=[.slot 4]
theorem c35 [Laid]:aQ Tryz.prog 27 90 d35 Bn:=⟨Tryz.f27,by kernel_rfl,by kernel_rfl,by kernel_rfl,by kernel_rfl,by kernel_rfl⟩
def HD:List RO:=[
 o (.box (t 1)) 3 [],
 o (.bQ (.cw .aH)) 4 []]
def tp:List RO:=[
 o (.bQ (.cw .aH)) 5 []]
def HE:List RO:=[
 o (.bQ (i 0)) 6 []]
def HF:List RO:=[
 n 6 7,
 n 0 8,
 b .lss 7 8 9 [0,1]]
def yI:List RO:=[
 n 5 12,
 o (.build [(.v (.int .i64 0)),(.v (.int .i64 0))] [(0,1,(i 2))]) 13 [],
 o (.bslice 1 2 [(.v (.int .i64 0)),(.v (.int .i64 0))] [(0,2,(t 13))]) 14 [1],
 o (.append 75 2 16 (t 12) (t 14)) 15 [0,2],
 m 15 5 [3,3,0,1,2,3]]
def MZ:List RO:=[
 n 6 10,
 o (.bin .add (t 10) (i 1)) 11 [0],
 m 11 6 [1,0,1]]
def HG:List RO:=[
 n 5 16,
 L 2 3 17 [],
 o (.bslice 1 2 [(.v (.int .i64 0)),(.v (.int .i64 0))] [(0,2,(t 17))]) 18 [1],
 o (.append 75 2 16 (t 16) (t 18)) 19 [0,2],
 m 19 4 [3,3,0,1,2,3]]
def d37:DC:=(j (y HD)
 (j (y tp)
 (j (j (y HE)
 (.block 0 (.loop (j (j (y HF)
 (.cond (.tmp 9) .skip
 (.exit 0)))
 (j (.block 1 (y yI))
 (y MZ))))))
 (j (y HG)
 .ret))))
def xq:List bO:=[.slot 4]
theorem c37 [Laid]:aQ Tryz.prog 29 20 d37 xq:=⟨Tryz.f29,by kernel_rfl,by kernel_rfl,by kernel_rfl,by kernel_rfl,by kernel_rfl⟩
def He:List RO:=[
 o (.box (t 0)) 2 [],
 o (.bQ (.cw (.v (.bool false)))) 4 []]
def Dh:List RO:=[
 n 1 5,
 o (.bin .add (t 5) (i 1)) 6 [0],
 a 0 2 7 [],
 l 7 8 [2],
 o (.len (t 8)) 9 [3],
 b .lss 6 9 10 [1,4],
 m 10 11 [5],
 u 2 2 12 11 true [6],
 v 12 13 11 true [7,6],
 g (.bin .gtr (t 13) (i 0)) 14 11 true [8,6],
 q 11 14 15 [6,9],
 m 15 16 [10,6],
 u 0 2 17 16 true [11],
 v 17 18 16 true [12,11],
 w 1 19 16 true [11],
 g (.idxAddr 3 (t 18) (t 19)) 20 16 true [13,14,11],
 u 0 20 21 16 true [15,11],
 v 21 22 16 true [16,11],
 g (.bin .geq (t 22) (i 0)) 23 16 true [17,11],
 q 16 23 24 [11,18],
 m 24 25 [19,11],
 u 0 2 26 25 true [20],
 v 26 27 25 true [21,20],
 w 1 28 25 true [20],
 g (.bin .add (t 28) (i 1)) 29 25 true [23,20],
 g (.idxAddr 3 (t 27) (t 29)) 30 25 true [22,24,20],
 u 0 30 31 25 true [25,20],
 v 31 32 25 true [26,20],
 g (.bin .geq (t 32) (i 0)) 33 25 true [27,20],
 q 25 33 34 [20,28],
 m 34 4 (k [29,20] 29)]
def d38:DC:=(j (y He)
 (j (y Dh)
 .ret))
def A6:List bO:=[.slot 4]
theorem c38 [Laid]:aQ Tryz.prog 30 35 d38 A6:=⟨Tryz.f30,by kernel_rfl,by kernel_rfl,by kernel_rfl,by kernel_rfl,by kernel_rfl⟩
theorem Vl{c d:Int}(hc:0<=c/\c<=1099511627776)(hd:0<=d):jJ c d=min (c+d) 1099511627776:=by
 unfold jJ;split<;>omega
theorem t34(x:Input)(i m:Nat)(him:i<=m)(hm:m<=x.aj.length)(hd:ni x.aj):aU Tryz.prog 26 [x.enc,ti i,ti m] (ti (fY x i m)):=by
 have ay:=XY;obtain⟨part,tw⟩:∃p,(x.aj.take m).drop i=p:=⟨_,rfl⟩;have PT:part.length=m-i:=by rw[<-tw];simp;omega
 have hpd:∀c∈part,0<=c.delete/\c.delete<=1099511627776:=λc hc=>hd.2 c (by rw[<-tw]at hc;exact Zav (Zbv hc));have hpg:∀k,i+k<m->part.getD k default=x.aj.getD (i+k) default:=by
  intro k hk;rw[<-tw];have:i+k<x.aj.length:=by omega
  simp[List.getD,Zbb,hk]
 have hlen:=hd.1;unfold fY;rw[tw];refine c34.ok (by simp) (aK ?_);simp[Input.enc];refine aa.ab ay fw [1,2,3] ?_;simp[Ht];refine aa.le (Le.aC (o:=[]) (l:=[(1,.v (ti i)),(2,.v (ti m)),(3,.v (.box [.sl (aV x.aj),.sl (aB x.insert),ti x.swap]))]) (nxt':=1200) ?_ ?_ ?_ ?_) ?_;iterate 4(·simp)
 refine aa.ab ay fw [1,2,3,7] ?_;simp[Hu];refine aa.seq ?_;refine aa.ab ay fw [2,3,7,8] ?_;simp[Hv];refine aa.block ?_;refine aa.loop (λy:Nat=>⟨DM.look [(2,.v (ti m)),(3,.v (.box [.sl (aV x.aj),.sl (aB x.insert),ti x.swap])),(7,.v (ti (dY (part.take y) 0))),(8,.v (ti ((i+y:Nat):Int)))],cC [],2000,1000,[]⟩)
  (λy=>y<=part.length) (λy=>part.length-y) 0 (Le.aC (o:=[]) ?_ ?_ ?_ ?_) (by simp) (λy hy=>?_)
 iterate 3(·simp)
 ·simp[dY]
 obtain⟨k,hk⟩:∃k,i+y=k:=⟨_,rfl⟩;rw[hk];have PW:=nV (l:=part.take y) (λc hc=>(hpd c (Zav hc)).1) 0 (by omega);refine aa.seq ?_;refine aa.ab ay fw [2,3,7,8,12] ?_;simp[Hw];refine aa.cond rfl (λbM=>?_) (λbM=>?_)
 ·simp at bM;have hyp:y<part.length:=by omega
  have WB:k<x.aj.length:=by omega
  have hr:=dR WB;have hg:=hpg y (by omega);rw[hk]at hg;obtain⟨c,hc⟩:∃c,x.aj.getD k default=c:=⟨_,rfl⟩;rw[hc]at hr hg;have hpy:part[y]=c:=by simpa [List.getD,hyp]using hg
  have Wz:=hpd c (by rw[<-hpy];exact Zbj hyp);have N2:part.take (y+1)=part.take y++[c]:=by rw[Zbw,Zan hyp,hpy];rfl
  obtain⟨u,hu⟩:∃u,dY (part.take y) 0=u:=⟨_,rfl⟩;rw[hu]at PW⊢;refine aa.skip ?_;simp;refine aa.seq ?_;refine aa.block ?_;refine aa.dm ay fw [2,3,7,8] ?_;simp[Hx,WB,hr,bC.enc];refine⟨⟨u,c.delete,⟨rfl,rfl⟩,by omega,by omega⟩, ?_⟩;refine aa.dm ay fw [2,3,7,8] ?_;simp[Hy];rw[au (by omega)];refine⟨y+1,Le.aC (o:=[]) ?_ ?_ ?_ ?_,by omega,by omega⟩;iterate 3(·simp)
  ·simp[N2,vV,hu,Vl PW Wz.1];omega
 ·simp at bM;have tf:y=part.length:=by omega
  subst tf;refine aa.exit ?_;simp;refine aa.ab ay fw [6] ?_;simp[Hz];refine aa.ret ?_;simp[xp]
theorem t38(x:Input)(m:Nat)(hm:m<=1000000)(hl:x.aj.length<=1000000):aU Tryz.prog 30 [x.enc,ti m] (.bool (bX x m)):=by
 have ay:=okE;obtain⟨v,hv⟩:∃v,bX x m=v:=⟨_,rfl⟩;rw[hv];refine c38.ok (by simp) (aK ?_);simp[Input.enc];refine aa.ab ay fw [1,2] ?_;simp[He];refine aa.le (Le.aC (o:=[]) (l:=[(1,.v (ti m)),(2,.v (.box [.sl (aV x.aj),.sl (aB x.insert),ti x.swap]))]) (nxt':=1200) ?_ ?_ ?_ ?_) ?_;iterate 4(·simp)
 have hw:IntKind.i64.wrap ((m:Int)+1)=m+1:=au (by omega);refine aa.bY ay fw [(4,.v (.bool v))] ?_ ?_
 ·by_cases h1:m+1<x.aj.length
  ·have lQ:=dR (l:=x.aj) (y:=m) (by omega);have pZ:DM.rowAt (aV x.aj) ((m:Int)+1)=(x.aj.getD (m+1) default).enc:=dR (l:=x.aj) h1;obtain⟨c1,bb⟩:∃c,x.aj.getD m default=c:=⟨_,rfl⟩;obtain⟨c2,dL⟩:∃c,x.aj.getD (m+1) default=c:=⟨_,rfl⟩;rw[bb]at lQ;rw[dL]at pZ;have Ol:((m:Int)+1<x.aj.length)=True:=by simp;omega
   have hd3:(0<=(m:Int)+1)=True:=by simp;omega
   have hd4:m<x.aj.length:=by omega
   have zR:v=(decide (0<x.swap)&&(decide (0<=c1.kind)&&decide (0<=c2.kind))):=by
    rw[<-hv];unfold bX;rw[bb,dL];simp[h1]
   by_cases s1:0<x.swap<;>by_cases s2:0<=c1.kind<;>by_cases s3:0<=c2.kind<;>simp[Dh,hw,lQ,pZ,Ol,hd3,hd4,bC.enc,s1,s2,s3,zR]
  ·have Ol:((m:Int)+1<x.aj.length)=False:=by simp;omega
   have zR:v=false:=by rw[<-hv];simp[bX];intros;omega
   simp[Dh,hw,Ol,zR]
 refine aa.ret ?_;simp[A6]
theorem t37(n:Nat)(a b:Int)(hn:n<=1000000):aU Tryz.prog 29 [ti n,.agg [ti a,ti b]] (.sl (cR (dd n++[(a,b)]))):=by
 have ay:=okE;refine c37.ok (by simp) (aK ?_);simp;refine aa.ab ay fw [0,3] ?_;simp[HD];refine aa.ab ay fw [0,3,5] ?_;simp[tp];refine aa.seq ?_;refine aa.le (Le.aC (o:=[]) (l:=[(0,.v (ti n)),(3,.v (.box [ti a,ti b])),(5,.aH)]) (nxt':=1200) ?_ ?_ ?_ ?_) ?_;iterate 4(·simp)
 refine aa.le (Le.l9 (k:=5) 75 (sz:=2) (by omega) (by simp)) ?_;rw[iu];refine aa.ab ay fw [0,3,5,6] ?_;simp[HE];refine aa.block ?_;refine aa.loop (λy:Nat=>⟨DM.look [(0,.v (ti n)),(3,.v (.box [ti a,ti b])),(5,.bk 1200 0),(6,.v (ti y))],cC [(1200,.arr 0 75 2 (cR (dd y)))],2000,1000,[]⟩)
  (λy=>y<=n) (λy=>n-y) 0 (Le.aC ?_ ?_ ?_ ?_) (by simp) (λy hy=>?_)
 ·simp
 ·simp
 ·simp[dd,cR]
 ·simp
 refine aa.seq ?_;refine aa.ab ay fw [0,3,5,6,9] ?_;simp[HF];have hd:(dd y).length=y:=by simp[dd]
 refine aa.cond rfl (λbM=>?_) (λbM=>?_)
 ·simp at bM;refine aa.skip ?_;simp;refine aa.seq ?_;refine aa.block ?_;refine aa.dm ay fw [0,3,5,6] ?_;simp[yI,cH,chunk,hd];refine⟨by omega, ?_⟩;refine aa.dm ay fw [0,3,5,6] ?_;simp[MZ];rw[au (by omega)];refine⟨y+1,Le.aC ?_ ?_ ?_ ?_,by omega,by omega⟩
  ·simp
  ·simp
  ·simp[cR,dd,ZbR]
  ·simp
 ·simp at bM;have tf:y=n:=by omega
  subst tf;refine aa.exit ?_;simp;refine aa.ab ay fw [4] ?_;simp[HG,cH,chunk,hd];refine⟨by omega, ?_⟩;refine aa.ret ?_;simp[xq,cR]
def dp(a:bn)(p:Bool×List bn)(b:bn):Bool×List bn:=
 if p.1=false/\sameKey b a=true then(true,p.2++[if a.cost<b.cost then a else b])
 else if p.1=false/\before a b then(true,p.2++[a]++[b])
 else(p.1,p.2++[b])
def eW(a:bn)(l:List bn):Bool×List bn:=l.foldl (dp a) (false,[])
def oZ(l:List bn)(a:bn):List bn:=
 if 1099511627776<=a.cost then l else if(eW a l).1 then(eW a l).2 else(eW a l).2++[a]
theorem Fx{a:bn}{l:List bn}{y:Nat}(h:y<l.length):eW a (l.take (y+1))=dp a (eW a (l.take y)) (l.getD y default):=by
 unfold eW;rw[Zbw,Zan h,Zat];simp[List.getD,h]
theorem Iz(a:bn)(p:Bool×List bn)(b:bn):(dp a p b).2.length<=p.2.length+2:=by
 unfold dp;split
 ·simp
 ·split<;>simp
theorem pP(l:List bn)(a:bn):ba (l++[a])=ba l++[a.enc]:=by simp[ba]
theorem t35(l:List bn)(a:bn)(hl:l.length<=1000000000):aU Tryz.prog 27 [.sl (ba l),.agg a.enc] (.sl (ba (oZ l a))):=by
 have ay:=ok39;obtain⟨R,hR⟩:∃R,oZ l a=R:=⟨_,rfl⟩;rw[hR];unfold oZ at hR;obtain⟨af,at',ax,ac,ao⟩:=a;obtain⟨a,ha⟩:∃a:bn,(⟨af,at',ax,ac,ao⟩:bn)=a:=⟨_,rfl⟩;have haf:a.f=af:=by rw[<-ha]
 have dH:a.t=at':=by rw[<-ha]
 have hax:a.term=ax:=by rw[<-ha]
 have hac:a.cost=ac:=by rw[<-ha]
 have XZ:a.enc=[ti af,ti at',ti ax,ti ac,.sl (cR ao)]:=by rw[<-ha];rfl
 refine c35.ok (by simp) (aK ?_);rw[ha]at hR;simp[bn.enc];refine aa.ab ay fw [0,3] ?_;simp[HQ];refine aa.le (Le.aC (o:=[]) (l:=[(0,.v (.sl (ba l))),(3,.v (.box [ti af,ti at',ti ax,ti ac,.sl (cR ao)]))]) (nxt':=1200) ?_ ?_ ?_ ?_) ?_;iterate 4(·simp)
 refine aa.seq ?_;refine aa.ab ay fw [0,3,10] ?_;simp[HR];refine aa.cond rfl (λh=>?_) (λh=>?_)
 ·simp at h;rw[if_pos (by rw[hac];exact h)]at hR;subst hR;refine aa.ab ay fw [4] ?_;simp[HS];refine aa.ret ?_;simp[Bn]
 simp at h;rw[if_neg (by rw[hac];omega)]at hR;refine aa.skip ?_;simp;refine aa.ab ay fw [0,3,5] ?_;simp[HT];refine aa.le (Le.aC (o:=[]) (l:=[(0,.v (.sl (ba l))),(3,.v (.box [ti af,ti at',ti ax,ti ac,.sl (cR ao)])),(5,.aH)]) (nxt':=1500) ?_ ?_ ?_ ?_) ?_;iterate 4(·simp)
 refine aa.le (Le.l9 (k:=5) 77 (sz:=5) (by omega) (by simp)) ?_;rw[iu];refine aa.ab ay fw [0,3,5,6] ?_;simp[HU];refine aa.seq ?_;refine aa.ab ay fw [0,3,5,6,7] ?_;simp[HV];obtain⟨L,hL⟩:∃L,l.length=L:=⟨_,rfl⟩;rw[hL]at hl;refine aa.block ?_;refine aa.loop (λy:Nat=>⟨DM.look [(0,.v (.sl (ba l))),(3,.v (.box [ti af,ti at',ti ax,ti ac,.sl (cR ao)])),(5,.bk 1500 0),(6,.v (.bool (eW a (l.take y)).1)),(7,.v (ti y))],cC [(1500,.arr 0 77 5 (ba (eW a (l.take y)).2))],2000,1000,[]⟩)
  (λy=>y<=L/\(eW a (l.take y)).2.length<=2*y) (λy=>L-y) 0 (Le.aC ?_ ?_ ?_ ?_) (by simp[eW]) (λy hy=>?_)
 ·simp
 ·simp
 ·simp[eW,ba]
 ·simp[eW]
 obtain⟨jU,fl⟩:=hy;refine aa.seq ?_;refine aa.ab ay fw [0,3,5,6,7,15] ?_;simp[HW,hL];refine aa.cond rfl (λbM=>?_) (λbM=>?_)
 ·simp at bM;have tf:y<l.length:=by omega
  have hr:=kS tf;have kx:=Fx (a:=a) tf;obtain⟨b,hb⟩:∃b,l.getD y default=b:=⟨_,rfl⟩;rw[hb]at hr kx;obtain⟨p,hp⟩:∃p,eW a (l.take y)=p:=⟨_,rfl⟩;rw[hp]at kx fl⊢;have hlen2:=Iz a p b;obtain⟨dn,out⟩:=p;simp only at fl hlen2⊢;obtain⟨bf,bt,bx,bc,bo⟩:=b;have hsk:sameKey ⟨bf,bt,bx,bc,bo⟩ a=decide (bf=af/\bt=at'/\bx=ax):=by simp only[sameKey,haf,dH,hax]
  refine aa.skip ?_;simp;refine aa.seq ?_;obtain⟨q,hq⟩:∃q,dp a (dn,out) ⟨bf,bt,bx,bc,bo⟩=q:=⟨_,rfl⟩;rw[hq]at kx hlen2;unfold dp at hq;simp only[hsk]at hq;refine aa.to ⟨DM.look [(0,.v (.sl (ba l))),(3,.v (.box [ti af,ti at',ti ax,ti ac,.sl (cR ao)])),(5,.bk 1500 0),(6,.v (.bool q.1)),(7,.v (ti y))],cC [(1500,.arr 0 77 5 (ba q.2))],3000,1000,[]⟩ ?_ ?_
  ·refine aa.block ?_;refine aa.seq ?_;have hprow:[ti bf,ti bt,ti bx,ti bc,.sl (cR bo)]=(⟨bf,bt,bx,bc,bo⟩:bn).enc:=rfl;obtain⟨c1,bb⟩:∃c:Bool,decide (dn=false/\(bf=af/\bt=at'/\bx=ax))=c:=⟨_,rfl⟩;refine aa.bY ay fw [(0,.v (.sl (ba l))),(3,.v (.box [ti af,ti at',ti ax,ti ac,.sl (cR ao)])),(5,.bk 1500 0),(6,.v (.bool dn)),(7,.v (ti y)),(49,.v (.bool c1))] ?_ ?_
   ·cases dn with
    |true=>
     have:c1=false:=by rw[<-bb];simp
     simp[vF,this]
    |false=>
     by_cases q1:bf=af
     ·by_cases q2:bt=at'
      ·by_cases q3:bx=ax
       ·have:c1=true:=by rw[<-bb];simp[q1,q2,q3]
        simp[vF,hr,bM,hL,bn.enc,q1,q2,q3,this]
       ·have:c1=false:=by rw[<-bb];simp[q3]
        simp[vF,hr,bM,hL,bn.enc,q1,q2,q3,this]
      ·have:c1=false:=by rw[<-bb];simp[q2]
       simp[vF,hr,bM,hL,bn.enc,q1,q2,this]
     ·have:c1=false:=by rw[<-bb];simp[q1]
      simp[vF,hr,bM,hL,bn.enc,q1,this]
   have tail:∀(dn':Bool) (X0:List bn),X0.length<=out.length+1->q=(dn',X0++[⟨bf,bt,bx,bc,bo⟩])->∀nx,aa Tryz.prog 90 (.region false Bi) (tP 1 λe s=>e=Exit.normal/\Le s ⟨DM.look [(0,.v (.sl (ba l))),(3,.v (.box [ti af,ti at',ti ax,ti ac,.sl (cR ao)])),(5,.bk 1500 0),(6,.v (.bool q.1)),(7,.v (ti y))],cC [(1500,.arr 0 77 5 (ba q.2))],3000,1000,[]⟩)
     ⟨DM.look [(0,.v (.sl (ba l))),(3,.v (.box [ti af,ti at',ti ax,ti ac,.sl (cR ao)])),(5,.bk 1500 0),(6,.v (.bool dn')),(7,.v (ti y))],cC [(1500,.arr 0 77 5 (ba X0))],nx,1000,[]⟩:=by
    intro dn' X0 ho hqq nx;refine aa.dm ay fw [0,3,5,6,7] ?_;simp[Bi,hr,bM,hL,bn.enc,cH,chunk];refine⟨by omega,Le.aC ?_ ?_ ?_ ?_⟩
    ·simp
    ·simp
    ·simp[hqq,pP,bn.enc]
    ·simp[hqq]
   refine aa.cond rfl (λh1=>?_) (λh1=>?_)
   ·rw[h1]at bb;simp only[decide_eq_true_eq]at bb;obtain⟨Ex,Qz⟩:=bb;subst Ex;rw[if_pos ⟨rfl,by simpa using Qz⟩]at hq;refine aa.ab ay fw [0,3,5,6,7] ?_;simp[HX];refine aa.ab ay fw [0,3,5,6,7,57] ?_;simp[HY,hr,bM,hL,bn.enc];refine aa.cond rfl (λh2=>?_) (λh2=>?_)
    ·simp at h2;refine aa.ab ay fw [0,3,5,6,7] ?_;simp[Bg,cH,chunk];refine⟨by omega, ?_⟩;refine aa.exit ?_;simp;rw[if_pos (by rw[hac];exact h2)]at hq;subst hq;refine Le.aC ?_ ?_ ?_ ?_
     ·simp
     ·simp
     ·simp[pP,XZ]
     ·simp
    ·simp at h2;rw[if_neg (by rw[hac];omega)]at hq;refine aa.skip ?_;simp;refine aa.le (Le.aC (o:=[(1500,.arr 0 77 5 (ba out))]) (l:=[(0,.v (.sl (ba l))),(3,.v (.box [ti af,ti at',ti ax,ti ac,.sl (cR ao)])),(5,.bk 1500 0),(6,.v (.bool true)),(7,.v (ti y))]) (nxt':=4000) ?_ ?_ ?_ ?_) ?_;iterate 4(·simp)
     refine aa.seq ?_;refine aa.bY ay fw [(0,.v (.sl (ba l))),(3,.v (.box [ti af,ti at',ti ax,ti ac,.sl (cR ao)])),(5,.bk 1500 0),(6,.v (.bool true)),(7,.v (ti y)),(71,.v (.bool false))] (by simp[ub]) ?_;refine aa.cond rfl (λh=>by cases h) (λ_=>?_);refine aa.skip ?_;simp;refine aa.le (Le.aC (o:=[(1500,.arr 0 77 5 (ba out))]) (l:=[(0,.v (.sl (ba l))),(3,.v (.box [ti af,ti at',ti ax,ti ac,.sl (cR ao)])),(5,.bk 1500 0),(6,.v (.bool true)),(7,.v (ti y))]) (nxt':=5000) ?_ ?_ ?_ ?_) ?_;iterate 4(·simp)
     exact tail true out (by omega) hq.symm 5000
   ·rw[h1]at bb;simp only[decide_eq_false_iff_not]at bb;rw[if_neg (λh=>bb ⟨h.1,by simpa using h.2⟩)]at hq;refine aa.skip ?_;simp;refine aa.le (Le.aC (o:=[(1500,.arr 0 77 5 (ba out))]) (l:=[(0,.v (.sl (ba l))),(3,.v (.box [ti af,ti at',ti ax,ti ac,.sl (cR ao)])),(5,.bk 1500 0),(6,.v (.bool dn)),(7,.v (ti y))]) (nxt':=4000) ?_ ?_ ?_ ?_) ?_;iterate 4(·simp)
    refine aa.seq ?_;obtain⟨c2,dL⟩:∃c:Bool,decide (dn=false/\before a ⟨bf,bt,bx,bc,bo⟩)=c:=⟨_,rfl⟩;refine aa.bY ay fw [(0,.v (.sl (ba l))),(3,.v (.box [ti af,ti at',ti ax,ti ac,.sl (cR ao)])),(5,.bk 1500 0),(6,.v (.bool dn)),(7,.v (ti y)),(71,.v (.bool c2))] ?_ ?_
    ·cases dn with
     |true=>
      have:c2=false:=by rw[<-dL];simp
      simp[ub,this]
     |false=>
      have:c2=decide (before a ⟨bf,bt,bx,bc,bo⟩):=by rw[<-dL];simp
      simp[ub,hr,bM,hL,bn.enc,this];rw[show lM [ti bf,ti bt,ti bx,ti bc,T.sl (cR bo)]=⟨bf,bt,bx,bc,bo⟩from mU ⟨bf,bt,bx,bc,bo⟩,show lM [ti af,ti at',ti ax,ti ac,T.sl (cR ao)]=a by rw[<-XZ];exact mU a];exact⟨⟨⟨⟨af,at',ax,ac,ao⟩,rfl,rfl,rfl,rfl,rfl⟩,⟨⟨bf,bt,bx,bc,bo⟩,rfl,rfl,rfl,rfl,rfl⟩⟩,Iff.rfl⟩
    refine aa.cond rfl (λh2=>?_) (λh2=>?_)
    ·rw[h2]at dL;simp only[decide_eq_true_eq]at dL;obtain⟨Ex,Mq⟩:=dL;subst Ex;rw[if_pos ⟨rfl,Mq⟩]at hq;refine aa.ab ay fw [0,3,5,6,7] ?_;simp[E4];refine aa.dm ay fw [0,3,5,6,7] ?_;simp[Bh,cH,chunk];refine⟨by omega, ?_⟩;refine aa.le (Le.aC (o:=[(1500,.arr 0 77 5 (ba (out++[a])))]) (l:=[(0,.v (.sl (ba l))),(3,.v (.box [ti af,ti at',ti ax,ti ac,.sl (cR ao)])),(5,.bk 1500 0),(6,.v (.bool true)),(7,.v (ti y))]) (nxt':=5000) ?_ ?_ ?_ ?_) ?_
     ·simp
     ·simp
     ·simp[pP,XZ]
     ·simp
     exact tail true (out++[a]) (by simp) hq.symm 5000
    ·rw[h2]at dL;simp only[decide_eq_false_iff_not]at dL;rw[if_neg dL]at hq;refine aa.skip ?_;simp;refine aa.le (Le.aC (o:=[(1500,.arr 0 77 5 (ba out))]) (l:=[(0,.v (.sl (ba l))),(3,.v (.box [ti af,ti at',ti ax,ti ac,.sl (cR ao)])),(5,.bk 1500 0),(6,.v (.bool dn)),(7,.v (ti y))]) (nxt':=5000) ?_ ?_ ?_ ?_) ?_;iterate 4(·simp)
     exact tail dn out (by omega) hq.symm 5000
  ·refine aa.dm ay fw [0,3,5,6,7] ?_;simp[Bj];rw[au (by omega)];refine⟨y+1,Le.aC ?_ ?_ ?_ ?_,⟨by omega,by rw[kx];omega⟩,by omega⟩
   ·simp
   ·simp
   ·simp[kx]
   ·simp[kx]
 simp at bM;have tf:y=l.length:=by omega
 subst tf;rw[Zbn]at fl⊢;obtain⟨p,hp⟩:∃p,eW a l=p:=⟨_,rfl⟩;rw[hp]at hR fl⊢;obtain⟨dn,out⟩:=p;simp only at hR fl⊢;refine aa.exit ?_;simp;refine aa.seq ?_;refine aa.ab ay fw [3,5,84] ?_;simp[Bk];refine aa.to ⟨DM.look [(5,.bk 1500 0)],cC [(1500,.arr 0 77 5 (ba R))],9000,1000,[]⟩ ?_ ?_
 ·refine aa.cond rfl (λh3=>?_) (λh3=>?_)
  ·simp at h3;subst h3;rw[if_neg (by simp)]at hR;refine aa.dm ay fw [5] ?_;simp[Bl,cH,chunk];refine⟨by omega,Le.aC ?_ ?_ ?_ ?_⟩
   ·simp
   ·simp
   ·simp[<-hR,pP,XZ]
   ·simp
  ·simp at h3;subst h3;rw[if_pos rfl]at hR;subst hR;refine aa.skip ⟨rfl,Le.aC ?_ ?_ ?_ ?_⟩;iterate 3(·simp)
   ·simp
 refine aa.ab ay fw [4] ?_;simp[Bm];refine aa.ret ?_;simp[Bn]
@[simp] theorem decArc_enc'(a b c d:Int)(o:List (Int×Int)):lM [ti a,ti b,ti c,ti d,.sl (cR o)]=⟨a,b,c,d,o⟩:=mU ⟨a,b,c,d,o⟩
@[simp] theorem decArc_nil'(a b c d:Int):lM [ti a,ti b,ti c,ti d,.sl []]=⟨a,b,c,d,[]⟩:=mU ⟨a,b,c,d,[]⟩
def ft{α:Type}(f:Nat->List α)(i m:Nat):List α:=(List.range (m-i)).flatMap λe=>f (i+e)
theorem o7{α:Type}(f:Nat->List α){i m:Nat}(h:i<=m):ft f i (m+1)=ft f i m++f m:=by
 unfold ft;rw[show m+1-i=(m-i)+1 by omega,ZaE,Zcu];simp[show i+(m-i)=m by omega]
theorem tF{α:Type}(f:Nat->List α)(i:Nat):ft f i i=[]:=by simp[ft]
def lI(x:Input)(m t:Nat):Int:=(x.aj.getD m default).read.getD t default
def rA(x:Input)(i m t:Nat):List bn:=if m<x.aj.length/\0<=lI x m t then [⟨2*i,2*m+2,t,jJ (fY x i m) (lI x m t),dd (m-i)++[(1,(t:Int))]⟩]else []
def rS(x:Input)(i m:Nat):List bn:=if bX x m then [⟨2*i,2*m+1,(x.aj.getD (m+1) default).kind,jJ (fY x i m) x.swap,dd (m-i)++[(4,0)]⟩]else []
def rM(x:Input)(i m:Nat):List bn:=ft (rA x i m) 0 x.insert.length++rS x i m
def rT(x:Input)(i:Nat):List bn:=if bX x i then [⟨2*i+1,2*i+4,(x.aj.getD i default).kind,0,[]⟩]else []
def rI(x:Input)(i:Nat):List bn:=ft (rM x i) i (x.aj.length+1)++rT x i
def iT(x:Input)(i m t:Nat):List bn:=[⟨2*i,2*m,t,jJ (fY x i m) (x.insert.getD t default),dd (m-i)++[(3,(t:Int))]⟩]
def iM(x:Input)(i m:Nat):List bn:=ft (iT x i m) 0 x.insert.length
def iI(x:Input)(i:Nat):List bn:=ft (iM x i) i (x.aj.length+1)
def bl(l cs:List bn):List bn:=cs.foldl oZ l
theorem cU(l cs ds:List bn):bl l (cs++ds)=bl (bl l cs) ds:=by simp[bl]
def dS(x:Input):List bn:=bl (bl [] (ft (rI x) 0 (x.aj.length+1))) (ft (iI x) 0 (x.aj.length+1))
def dU(x:Input)(k:Nat):List Int:=(List.range (2*x.aj.length+1)).map λs=>if s<k then(if s % 2=0 then fY x (s/2) x.aj.length else 1099511627776)else 0
def aI(x:Input):aL:=⟨2*x.aj.length+1,dS x,dU x (2*x.aj.length+1)⟩
theorem Fy(a:bn)(p:Bool×List bn)(b:bn):(dp a p b).2.length+p.1.toNat<=p.2.length+1+(dp a p b).1.toNat:=by
 unfold dp;cases hp:p.1 with
 |true=>simp
 |false=>
  simp only[true_and,Bool.toNat_false];split
  ·simp
  ·split<;>simp
theorem IA(a:bn)(l:List bn):(eW a l).2.length<=l.length+(eW a l).1.toNat:=by
 have key:∀(l:List bn) (p:Bool×List bn),(l.foldl (dp a) p).2.length+p.1.toNat<=p.2.length+l.length+(l.foldl (dp a) p).1.toNat:=by
  intro l;induction l with
  |nil=>intro p;simp
  |cons b l ih=>
   intro p;simp only[ZaB,Zba];have h:=ih (dp a p b);have hs:=Fy a p b;omega
 have h:=key l (false,[]);simpa [eW]using h
theorem Vm(l:List bn)(a:bn):(oZ l a).length<=l.length+1:=by
 have h:=IA a l;unfold oZ;split
 ·omega
 ·split
  ·rename_i hd;rw[hd]at h;simpa using h
  ·rename_i hd;simp only[ZcK]at hd;rw[hd]at h;simp at h⊢;omega
theorem iv(cs:List bn):∀l:List bn,(bl l cs).length<=l.length+cs.length:=by
 induction cs with
 |nil=>intro l;simp[bl]
 |cons c cs ih=>
  intro l;have h1:=ih (oZ l c);have h2:=Vm l c;have e:bl l (c::cs)=bl (oZ l c) cs:=rfl;rw[e];simp only[Zba];omega
theorem Vn(x:Input)(i m t:Nat):(rA x i m t).length<=1:=by unfold rA;split<;>simp
theorem rS_len(x:Input)(i m:Nat):(rS x i m).length<=1:=by unfold rS;split<;>simp
theorem rT_len(x:Input)(i:Nat):(rT x i).length<=1:=by unfold rT;split<;>simp
theorem lN{α:Type}{f:Nat->List α}{B:Nat}(h:∀k,(f k).length<=B)(i m:Nat):(ft f i m).length<=(m-i)*B:=by
 unfold ft;have:∀k,((List.range k).flatMap λe=>f (i+e)).length<=k*B:=by
  intro k;induction k with
  |zero=>simp
  |succ k ih=>
   rw[ZaE,Zcu,ZaA,Nat.succ_mul];have:=h (i+k);simp only[Zbo,List.flatMap_nil,ZaJ];omega
 exact this _
theorem Vo(x:Input)(i m:Nat)(h:x.insert.length<=100):(rM x i m).length<=101:=by
 unfold rM;have h1:=lN (Vn x i m) 0 x.insert.length;have h2:=rS_len x i m;rw[ZaA];omega
theorem Vp(x:Input)(i:Nat)(h:x.insert.length<=100)(hn:x.aj.length<=60):(rI x i).length<=7000:=by
 unfold rI;have h1:=lN (f:=rM x i) (B:=101) (λk=>Vo x i k h) i (x.aj.length+1);have h2:=rT_len x i;rw[ZaA];omega
theorem Vq(x:Input)(i m:Nat)(h:x.insert.length<=100):(iM x i m).length<=100:=by
 unfold iM;have h1:=lN (f:=iT x i m) (B:=1) (λk=>by simp[iT]) 0 x.insert.length;omega
theorem Vr(x:Input)(i:Nat)(h:x.insert.length<=100)(hn:x.aj.length<=60):(iI x i).length<=7000:=by
 unfold iI;have h1:=lN (f:=iM x i) (B:=100) (λk=>Vq x i k h) i (x.aj.length+1);omega
abbrev s34(x:Input):DM.Spec:=cy (λts=>∃i m:Nat,ts=[x.enc,ti i,ti m]/\i<=m/\m<=x.aj.length) (fun|[_,.int _ i,.int _ m]=>ti (fY x i.toNat m.toNat)|_=>.bool false) true
abbrev s38(x:Input):DM.Spec:=cy (λts=>∃m:Nat,ts=[x.enc,ti m]/\m<=1000000) (fun|[_,.int _ m]=>.bool (bX x m.toNat)|_=>.bool false) true
abbrev s37:DM.Spec:=cy (λts=>∃(n:Nat) (a b:Int),ts=[ti n,.agg [ti a,ti b]]/\n<=1000000) (fun|[.int _ n,.agg [.int _ a,.int _ b]]=>.sl (cR (dd n.toNat++[(a,b)]))|_=>.bool false) false
abbrev s35:DM.Spec:=cy (λts=>∃(l:List bn) (a:bn),ts=[.sl (ba l),.agg a.enc]/\l.length<=1000000000) (fun|[.sl l,.agg a]=>.sl (ba (oZ (zA l) (lM a)))|_=>.bool false) false
abbrev Γ14(x:Input):Env:=aX [(26,s34 x),(30,s38 x),(29,s37),(27,s35),(28,Vk)]
theorem TO(x:Input)(hd:ni x.aj):aw Tryz.prog (Γ14 x):=by
 refine aw.cons (aw.cons (aw.cons (aw.cons XY ?_) ?_) ?_) ?_
 ·rintro ts ⟨l,a,rfl,h⟩;exact⟨by simpa using t35 l a h,λh=>by cases h⟩
 ·rintro ts ⟨n,a,b,rfl,h⟩;exact⟨by simpa using t37 n a b h,λh=>by cases h⟩
 ·rintro ts ⟨m,rfl,h⟩;exact⟨by simpa using t38 x m h hd.1,λ_=>rfl⟩
 ·rintro ts ⟨i,m,rfl,h1,h2⟩;exact⟨by simpa using t34 x i m h1 h2 hd,λ_=>rfl⟩
theorem t14(x:Input)(hx:H2 x)(hn60:x.aj.length<=60)(ht:x.insert.length<=100)(hread:∀c∈x.aj,c.read.length=x.insert.length):aU Tryz.prog 12 [x.enc] (aI x).enc:=by
 have ay:=TO x hx.1;have AM:T.agg [.sl (aV x.aj),.sl (aB x.insert),ti x.swap]=x.enc:=rfl;obtain⟨hd,mE,hins,Vc,hsw0,zR⟩:=hx;obtain⟨n,hn⟩:∃n,x.aj.length=n:=⟨_,rfl⟩;obtain⟨tm,ja⟩:∃n,x.insert.length=n:=⟨_,rfl⟩;have YK:=eF hd;have lenA:∀y,y<=n+1->(bl [] (ft (rI x) 0 y)).length<=430000:=by
  intro y hy;have h1:=iv (ft (rI x) 0 y) [];have h2:=lN (f:=rI x) (B:=7000) (λk=>Vp x k ht hn60) 0 y;simp at h1;omega
 obtain⟨R,hR⟩:∃R,(aI x).enc=R:=⟨_,rfl⟩;refine c14.ok (by simp) (aK ?_);rw[hR];simp only[aI,dS]at hR;simp[Input.enc];refine aa.ab ay fw [1,2] ?_;simp[Hf];refine aa.le (Le.aC (o:=[(1003,.box [.v (ti 0),.aH,.aH])]) (l:=[(1,.v (.box [.sl (aV x.aj),.sl (aB x.insert),ti x.swap])),(2,.ptr 1003 0)]) (nxt':=1500) ?_ ?_ ?_ ?_) ?_;iterate 4(·simp)
 refine aa.ab ay fw [1,2,3] ?_;simp[Hg,hn];refine aa.ab ay fw [1,2,3,4] ?_;simp[d14r2];refine aa.seq ?_;refine aa.le (Le.aC (o:=[(1003,.box [.v (ti 0),.aH,.aH])]) (l:=[(1,.v (.box [.sl (aV x.aj),.sl (aB x.insert),ti x.swap])),(2,.ptr 1003 0),(3,.v (ti n)),(4,.v (.sl (ba [])))]) (nxt':=2500) ?_ ?_ ?_ ?_) ?_;iterate 3(·simp)
 ·simp[ba]
 refine aa.ab ay fw [1,2,3,4,5] ?_;simp[d14r3];obtain⟨Ir,Lh⟩:∃l,bl [] (ft (rI x) 0 (n+1))=l:=⟨_,rfl⟩;have lal1:Ir.length<=430000:=by rw[<-Lh];exact lenA _ (by omega)
 refine aa.to ⟨DM.look [(1,.v (.box [.sl (aV x.aj),.sl (aB x.insert),ti x.swap])),(2,.ptr 1003 0),(3,.v (ti n)),(4,.v (.sl (ba Ir)))],cC [(1003,.box [.v (ti 0),.aH,.aH])],100000,1000,[]⟩ ?_ ?_
 ·refine aa.block ?_;refine aa.loop (λy:Nat=>⟨DM.look [(1,.v (.box [.sl (aV x.aj),.sl (aB x.insert),ti x.swap])),(2,.ptr 1003 0),(3,.v (ti n)),(4,.v (.sl (ba (bl [] (ft (rI x) 0 y))))),(5,.v (ti y))],cC [(1003,.box [.v (ti 0),.aH,.aH])],10000,1000,[]⟩)
   (λy=>y<=n+1) (λy=>n+1-y) 0 (Le.aC ?_ ?_ ?_ ?_) (by simp) (λy hy=>?_)
  iterate 3(·simp)
  ·simp[tF,bl]
  have lal:=lenA y hy;have Ln:=o7 (rI x) (Zbf y);obtain⟨al,ko⟩:∃l,bl [] (ft (rI x) 0 y)=l:=⟨_,rfl⟩;have qd:bl [] (ft (rI x) 0 (y+1))=bl al (rI x y):=by rw[Ln,cU,ko]
  rw[ko]at lal⊢;refine aa.seq ?_;refine aa.ab ay fw [1,2,3,4,5,20] ?_;simp[d14r4];refine aa.cond rfl (λbM=>?_) (λbM=>?_)
  ·simp at bM;have w2y:IntKind.i64.wrap (2*(y:Int))=2*y:=au (by omega);refine aa.skip ?_;simp;refine aa.seq ?_;refine aa.to ⟨DM.look [(1,.v (.box [.sl (aV x.aj),.sl (aB x.insert),ti x.swap])),(2,.ptr 1003 0),(3,.v (ti n)),(4,.v (.sl (ba (bl al (rI x y))))),(5,.v (ti y))],cC [(1003,.box [.v (ti 0),.aH,.aH])],50000,1000,[]⟩ ?_ ?_
   ·refine aa.block ?_;refine aa.seq ?_;refine aa.ab ay fw [1,2,3,4,5,6] ?_;simp[d14r5];obtain⟨Jq,xJ⟩:∃l,bl al (ft (rM x y) y (n+1))=l:=⟨_,rfl⟩;have lB:∀m,m<=n+1->(bl al (ft (rM x y) y m)).length<=440000:=by
     intro m hm;have h1:=iv (ft (rM x y) y m) al;have h2:=lN (f:=rM x y) (B:=101) (λk=>Vo x y k ht) y m;omega
    have lal2:Jq.length<=440000:=by rw[<-xJ];exact lB _ (by omega)
    have mG:bl al (rI x y)=bl Jq (rT x y):=by rw[<-xJ,<-cU];unfold rI;rw[hn]
    refine aa.to ⟨DM.look [(1,.v (.box [.sl (aV x.aj),.sl (aB x.insert),ti x.swap])),(2,.ptr 1003 0),(3,.v (ti n)),(4,.v (.sl (ba Jq))),(5,.v (ti y))],cC [(1003,.box [.v (ti 0),.aH,.aH])],40000,1000,[]⟩ ?_ ?_
    ·refine aa.block ?_;refine aa.loop (λm:Nat=>⟨DM.look [(1,.v (.box [.sl (aV x.aj),.sl (aB x.insert),ti x.swap])),(2,.ptr 1003 0),(3,.v (ti n)),(4,.v (.sl (ba (bl al (ft (rM x y) y m))))),(5,.v (ti y)),(6,.v (ti m))],cC [(1003,.box [.v (ti 0),.aH,.aH])],20000,1000,[]⟩)
      (λm=>y<=m/\m<=n+1) (λm=>n+1-m) y (Le.aC ?_ ?_ ?_ ?_) (by omega) (λm hm=>?_)
     iterate 3(·simp)
     ·simp[tF,bl]
     obtain⟨wA,Eg⟩:=hm;have lalm:=lB m Eg;have Lo:=o7 (rM x y) wA;obtain⟨F3,Lp⟩:∃l,bl al (ft (rM x y) y m)=l:=⟨_,rfl⟩;have Lq:bl al (ft (rM x y) y (m+1))=bl F3 (rM x y m):=by rw[Lo,cU,Lp]
     rw[Lp]at lalm⊢;refine aa.seq ?_;refine aa.ab ay fw [1,2,3,4,5,6,26] ?_;simp[d14r6];refine aa.cond rfl (λEe=>?_) (λEe=>?_)
     ·simp at Ee;have w2m:IntKind.i64.wrap (2*(m:Int))=2*m:=au (by omega);have w2m1:IntKind.i64.wrap (2*(m:Int)+1)=2*m+1:=au (by omega);have w2m2:IntKind.i64.wrap (2*(m:Int)+2)=2*m+2:=au (by omega);have wm1:IntKind.i64.wrap ((m:Int)+1)=m+1:=au (by omega);have wmy:IntKind.i64.wrap ((m:Int)-y)=((m-y:Nat):Int):=by rw[au (by omega)];omega
      obtain⟨d,hdd⟩:∃d,fY x y m=d:=⟨_,rfl⟩;have hdb':=YK y m;rw[hdd]at hdb';refine aa.skip ?_;simp;refine aa.seq ?_;refine aa.to ⟨DM.look [(1,.v (.box [.sl (aV x.aj),.sl (aB x.insert),ti x.swap])),(2,.ptr 1003 0),(3,.v (ti n)),(4,.v (.sl (ba (bl F3 (rM x y m))))),(5,.v (ti y)),(6,.v (ti m))],cC [(1003,.box [.v (ti 0),.aH,.aH])],40000,1000,[]⟩ ?_ ?_
      ·refine aa.block ?_;refine aa.ab ay fw [1,2,3,4,5,6,7] ?_;simp[d14r7,AM,hdd];refine⟨⟨y,m,⟨rfl,rfl⟩,wA,by omega⟩, ?_⟩;refine aa.seq ?_;refine aa.ab ay fw [1,2,3,4,5,6,7,8] ?_;simp[d14r8];obtain⟨al3,Pe⟩:∃l,bl F3 (ft (rA x y m) 0 tm)=l:=⟨_,rfl⟩;have lC:∀t,t<=tm->(bl F3 (ft (rA x y m) 0 t)).length<=450000:=by
        intro t W6;have h1:=iv (ft (rA x y m) 0 t) F3;have h2:=lN (f:=rA x y m) (B:=1) (λk=>Vn x y m k) 0 t;omega
       have lal3:al3.length<=450000:=by rw[<-Pe];exact lC _ (by omega)
       have hfin3:bl F3 (rM x y m)=bl al3 (rS x y m):=by rw[<-Pe,<-cU];unfold rM;rw[ja]
       refine aa.to ⟨DM.look [(1,.v (.box [.sl (aV x.aj),.sl (aB x.insert),ti x.swap])),(2,.ptr 1003 0),(3,.v (ti n)),(4,.v (.sl (ba al3))),(5,.v (ti y)),(6,.v (ti m)),(7,.v (ti d))],cC [(1003,.box [.v (ti 0),.aH,.aH])],40000,1000,[]⟩ ?_ ?_
       ·refine aa.block ?_;refine aa.loop (λt:Nat=>⟨DM.look [(1,.v (.box [.sl (aV x.aj),.sl (aB x.insert),ti x.swap])),(2,.ptr 1003 0),(3,.v (ti n)),(4,.v (.sl (ba (bl F3 (ft (rA x y m) 0 t))))),(5,.v (ti y)),(6,.v (ti m)),(7,.v (ti d)),(8,.v (ti t))],cC [(1003,.box [.v (ti 0),.aH,.aH])],30000,1000,[]⟩)
         (λt=>t<=tm) (λt=>tm-t) 0 (Le.aC ?_ ?_ ?_ ?_) (by simp) (λt W6=>?_)
        iterate 3(·simp)
        ·simp[tF,bl]
        have lalt:=lC t W6;have Lr:=o7 (rA x y m) (Zbf t);obtain⟨alt,halt⟩:∃l,bl F3 (ft (rA x y m) 0 t)=l:=⟨_,rfl⟩;have BE:bl F3 (ft (rA x y m) 0 (t+1))=bl alt (rA x y m t):=by rw[Lr,cU,halt]
        rw[halt]at lalt⊢;refine aa.seq ?_;refine aa.ab ay fw [1,2,3,4,5,6,7,8,37] ?_;simp[d14r9,ja];refine aa.cond rfl (λhct=>?_) (λhct=>?_)
        ·simp at hct;refine aa.skip ?_;simp;refine aa.seq ?_;obtain⟨q,hq⟩:∃q,rA x y m t=q:=⟨_,rfl⟩;rw[hq]at BE;unfold rA at hq;rw[hdd,hn]at hq;refine aa.to ⟨DM.look [(1,.v (.box [.sl (aV x.aj),.sl (aB x.insert),ti x.swap])),(2,.ptr 1003 0),(3,.v (ti n)),(4,.v (.sl (ba (bl alt q)))),(5,.v (ti y)),(6,.v (ti m)),(7,.v (ti d)),(8,.v (ti t))],cC [(1003,.box [.v (ti 0),.aH,.aH])],40000,1000,[]⟩ ?_ ?_
         ·refine aa.block ?_;obtain⟨c,hc⟩:∃c:Bool,decide (m<n/\0<=lI x m t)=c:=⟨_,rfl⟩;by_cases PN:m<n
          ·have hmc:m<x.aj.length:=by omega
           have J9:=dR hmc;obtain⟨cl,bd⟩:∃c,x.aj.getD m default=c:=⟨_,rfl⟩;have hclm:cl∈x.aj:=by rw[<-bd];simp[List.getD,hmc]
           have PO:=hread cl hclm;have hcok:=mE cl hclm;rw[bd]at J9;have htr:t<cl.read.length:=by omega
           have tK:=cO htr;have Gt:lI x m t=cl.read.getD t default:=by unfold lI;rw[bd]
           rw[Gt]at hq hc;obtain⟨u,hu⟩:∃u,cl.read.getD t default=u:=⟨_,rfl⟩;rw[hu]at tK hq hc;refine aa.bY ay fw [(1,.v (.box [.sl (aV x.aj),.sl (aB x.insert),ti x.swap])),(2,.ptr 1003 0),(3,.v (ti n)),(4,.v (.sl (ba alt))),(5,.v (ti y)),(6,.v (ti m)),(7,.v (ti d)),(8,.v (ti t)),(54,.v (.bool c))] ?_ ?_
           ·by_cases q2:0<=u
            ·have Ah:c=true:=by rw[<-hc];simp[PN,q2]
             simp[Fp,PN,hn,J9,bC.enc,htr,tK,q2,Ah]
            ·have Ah:c=false:=by rw[<-hc];simp[q2]
             simp[Fp,PN,hn,J9,bC.enc,htr,tK,q2,Ah]
           refine aa.cond rfl (λh=>?_) (λh=>?_)
           ·rw[h]at hc;simp only[decide_eq_true_eq]at hc;rw[if_pos hc]at hq;have hub:u<=1099511627776:=hcok.2 u (by rw[<-hu];simp[List.getD,htr]);subst hq;refine aa.dm ay fw [1,2,3,4,5,6,7,8] ?_;simp[UF,w2y,w2m,w2m2,wmy,PN,hn,J9,bC.enc,htr,tK];refine⟨⟨d,u,⟨rfl,rfl⟩,by omega,by omega⟩,⟨m-y,rfl,by omega⟩,⟨alt,⟨rfl,⟨⟨2*y,2*m+2,t,jJ d u,dd (m-y)++[(1,(t:Int))]⟩,rfl⟩⟩,by omega⟩,Le.aC ?_ ?_ ?_ ?_⟩;iterate 3(·simp)
            ·simp[bl]
           ·rw[h]at hc;simp only[decide_eq_false_iff_not]at hc;rw[if_neg hc]at hq;subst hq;refine aa.skip ⟨rfl,Le.aC ?_ ?_ ?_ ?_⟩;iterate 3(·simp)
            ·simp[bl]
          ·have Ah:c=false:=by rw[<-hc];simp[PN]
           rw[if_neg (λh=>PN h.1)]at hq;subst hq;refine aa.bY ay fw [(1,.v (.box [.sl (aV x.aj),.sl (aB x.insert),ti x.swap])),(2,.ptr 1003 0),(3,.v (ti n)),(4,.v (.sl (ba alt))),(5,.v (ti y)),(6,.v (ti m)),(7,.v (ti d)),(8,.v (ti t)),(54,.v (.bool false))] ?_ ?_
           ·simp[Fp,PN]
           refine aa.cond rfl (λh=>by cases h) (λ_=>?_);refine aa.skip ⟨rfl,Le.aC ?_ ?_ ?_ ?_⟩;iterate 3(·simp)
           ·simp[bl]
         ·refine aa.dm ay fw [1,2,3,4,5,6,7,8] ?_;simp[UG];rw[au (by omega)];refine⟨t+1,Le.aC ?_ ?_ ?_ ?_,by omega,by omega⟩;iterate 3(·simp)
          ·simp[BE]
        ·simp at hct;have:t=tm:=by omega
         subst this;refine aa.exit ⟨rfl,Le.aC ?_ ?_ ?_ ?_⟩;iterate 3(·simp)
         ·simp[<-Pe,halt]
       simp;refine aa.ab ay fw [1,2,3,4,5,6,7,83] ?_;simp[UH,AM];refine⟨⟨m,rfl,by omega⟩, ?_⟩;rw[hfin3];obtain⟨q,hq⟩:∃q,rS x y m=q:=⟨_,rfl⟩;rw[hq];unfold rS at hq;rw[hdd]at hq;refine aa.cond rfl (λh=>?_) (λh=>?_)
       ·rw[if_pos h]at hq;have Is:m+1<x.aj.length:=by simp[bX]at h;exact h.1
        have J9:DM.rowAt (aV x.aj) ((m:Int)+1)=_:=dR Is;obtain⟨cl,bd⟩:∃c,x.aj.getD (m+1) default=c:=⟨_,rfl⟩;rw[bd]at J9 hq;have hlt1:((m:Int)+1<n)=True:=by simp;omega
        have Fe:(0<=(m:Int)+1)=True:=by simp;omega
        subst hq;refine aa.dm ay fw [1,2,3,4,5,6] ?_;simp[UI,w2y,w2m,w2m1,wm1,wmy,hn,J9,hlt1,Fe,bC.enc];refine⟨⟨d,x.swap,⟨rfl,rfl⟩,by omega,by omega⟩,⟨m-y,rfl,by omega⟩,⟨al3,⟨rfl,⟨⟨2*y,2*m+1,cl.kind,jJ d x.swap,dd (m-y)++[(4,0)]⟩,rfl⟩⟩,by omega⟩,Le.aC ?_ ?_ ?_ ?_⟩;iterate 3(·simp)
        ·simp[bl]
       ·rw[if_neg (by simp[h])]at hq;subst hq;refine aa.skip ⟨rfl,Le.aC ?_ ?_ ?_ ?_⟩;iterate 3(·simp)
        ·simp[bl]
      ·refine aa.dm ay fw [1,2,3,4,5,6] ?_;simp[UJ];rw[au (by omega)];refine⟨m+1,Le.aC ?_ ?_ ?_ ?_,by omega,by omega⟩;iterate 3(·simp)
       ·simp[Lq]
     ·simp at Ee;have:m=n+1:=by omega
      subst this;refine aa.exit ⟨rfl,Le.aC ?_ ?_ ?_ ?_⟩;iterate 3(·simp)
      ·simp[<-xJ,Lp]
    simp;refine aa.ab ay fw [1,2,3,4,5,110] ?_;simp[UK,AM];refine⟨⟨y,rfl,by omega⟩, ?_⟩;rw[mG];obtain⟨q,hq⟩:∃q,rT x y=q:=⟨_,rfl⟩;rw[hq];unfold rT at hq;refine aa.cond rfl (λh=>?_) (λh=>?_)
    ·rw[if_pos h]at hq;have Is:y<x.aj.length:=by simp[bX]at h;omega
     have J9:=dR Is;obtain⟨cl,bd⟩:∃c,x.aj.getD y default=c:=⟨_,rfl⟩;rw[bd]at J9 hq;have w2y1:IntKind.i64.wrap (2*(y:Int)+1)=2*y+1:=au (by omega);have w2y4:IntKind.i64.wrap (2*(y:Int)+4)=2*y+4:=au (by omega);have hyn:y<n:=by omega
     subst hq;refine aa.dm ay fw [1,2,3,4,5] ?_;simp[UL,w2y,w2y1,w2y4,hn,J9,hyn,bC.enc];refine⟨⟨Jq,⟨rfl,⟨⟨2*y+1,2*y+4,cl.kind,0,[]⟩,rfl⟩⟩,by omega⟩,Le.aC ?_ ?_ ?_ ?_⟩;iterate 3(·simp)
     ·simp[bl]
    ·rw[if_neg (by simp[h])]at hq;subst hq;refine aa.skip ⟨rfl,Le.aC ?_ ?_ ?_ ?_⟩;iterate 3(·simp)
     ·simp[bl]
   ·refine aa.dm ay fw [1,2,3,4,5] ?_;simp[UM];rw[au (by omega)];refine⟨y+1,Le.aC ?_ ?_ ?_ ?_,by omega,by omega⟩;iterate 3(·simp)
    ·simp[qd]
  ·simp at bM;have:y=n+1:=by omega
   subst this;refine aa.exit ⟨rfl,Le.aC ?_ ?_ ?_ ?_⟩;iterate 3(·simp)
   ·simp[<-Lh,ko]
 simp;refine aa.seq ?_;refine aa.ab ay fw [1,2,3,4,9] ?_;simp[UN];obtain⟨Jq,xJ⟩:∃l,bl Ir (ft (iI x) 0 (n+1))=l:=⟨_,rfl⟩;have Pj:∀y,y<=n+1->(bl Ir (ft (iI x) 0 y)).length<=900000:=by
  intro y hy;have h1:=iv (ft (iI x) 0 y) Ir;have h2:=lN (f:=iI x) (B:=7000) (λk=>Vr x k ht hn60) 0 y;omega
 refine aa.to ⟨DM.look [(1,.v (.box [.sl (aV x.aj),.sl (aB x.insert),ti x.swap])),(2,.ptr 1003 0),(3,.v (ti n)),(4,.v (.sl (ba Jq)))],cC [(1003,.box [.v (ti 0),.aH,.aH])],100000,1000,[]⟩ ?_ ?_
 ·refine aa.block ?_;refine aa.loop (λy:Nat=>⟨DM.look [(1,.v (.box [.sl (aV x.aj),.sl (aB x.insert),ti x.swap])),(2,.ptr 1003 0),(3,.v (ti n)),(4,.v (.sl (ba (bl Ir (ft (iI x) 0 y))))),(9,.v (ti y))],cC [(1003,.box [.v (ti 0),.aH,.aH])],110000,1000,[]⟩)
   (λy=>y<=n+1) (λy=>n+1-y) 0 (Le.aC ?_ ?_ ?_ ?_) (by simp) (λy hy=>?_)
  iterate 3(·simp)
  ·simp[tF,bl]
  have lal:=Pj y hy;have Ln:=o7 (iI x) (Zbf y);obtain⟨al,ko⟩:∃l,bl Ir (ft (iI x) 0 y)=l:=⟨_,rfl⟩;have qd:bl Ir (ft (iI x) 0 (y+1))=bl al (iI x y):=by rw[Ln,cU,ko]
  rw[ko]at lal⊢;refine aa.seq ?_;refine aa.ab ay fw [1,2,3,4,9,128] ?_;simp[UO];refine aa.cond rfl (λbM=>?_) (λbM=>?_)
  ·simp at bM;have w2y:IntKind.i64.wrap (2*(y:Int))=2*y:=au (by omega);refine aa.skip ?_;simp;refine aa.seq ?_;refine aa.to ⟨DM.look [(1,.v (.box [.sl (aV x.aj),.sl (aB x.insert),ti x.swap])),(2,.ptr 1003 0),(3,.v (ti n)),(4,.v (.sl (ba (bl al (iI x y))))),(9,.v (ti y))],cC [(1003,.box [.v (ti 0),.aH,.aH])],150000,1000,[]⟩ ?_ ?_
   ·refine aa.block ?_;refine aa.ab ay fw [1,2,3,4,9,10] ?_;simp[UP];have lB:∀m,m<=n+1->(bl al (ft (iM x y) y m)).length<=910000:=by
     intro m hm;have h1:=iv (ft (iM x y) y m) al;have h2:=lN (f:=iM x y) (B:=100) (λk=>Vq x y k ht) y m;omega
    refine aa.block ?_;refine aa.loop (λm:Nat=>⟨DM.look [(1,.v (.box [.sl (aV x.aj),.sl (aB x.insert),ti x.swap])),(2,.ptr 1003 0),(3,.v (ti n)),(4,.v (.sl (ba (bl al (ft (iM x y) y m))))),(9,.v (ti y)),(10,.v (ti m))],cC [(1003,.box [.v (ti 0),.aH,.aH])],120000,1000,[]⟩)
     (λm=>y<=m/\m<=n+1) (λm=>n+1-m) y (Le.aC ?_ ?_ ?_ ?_) (by omega) (λm hm=>?_)
    iterate 3(·simp)
    ·simp[tF,bl]
    obtain⟨wA,Eg⟩:=hm;have lalm:=lB m Eg;have Lo:=o7 (iM x y) wA;obtain⟨F3,Lp⟩:∃l,bl al (ft (iM x y) y m)=l:=⟨_,rfl⟩;have Lq:bl al (ft (iM x y) y (m+1))=bl F3 (iM x y m):=by rw[Lo,cU,Lp]
    rw[Lp]at lalm⊢;refine aa.seq ?_;refine aa.ab ay fw [1,2,3,4,9,10,134] ?_;simp[UQ];refine aa.cond rfl (λEe=>?_) (λEe=>?_)
    ·simp at Ee;have w2m:IntKind.i64.wrap (2*(m:Int))=2*m:=au (by omega);have wmy:IntKind.i64.wrap ((m:Int)-y)=((m-y:Nat):Int):=by rw[au (by omega)];omega
     obtain⟨d,hdd⟩:∃d,fY x y m=d:=⟨_,rfl⟩;have hdb':=YK y m;rw[hdd]at hdb';refine aa.skip ?_;simp;refine aa.seq ?_;refine aa.to ⟨DM.look [(1,.v (.box [.sl (aV x.aj),.sl (aB x.insert),ti x.swap])),(2,.ptr 1003 0),(3,.v (ti n)),(4,.v (.sl (ba (bl F3 (iM x y m))))),(9,.v (ti y)),(10,.v (ti m))],cC [(1003,.box [.v (ti 0),.aH,.aH])],140000,1000,[]⟩ ?_ ?_
     ·refine aa.block ?_;refine aa.ab ay fw [1,2,3,4,9,10,11] ?_;simp[UR];have lC:∀t,t<=tm->(bl F3 (ft (iT x y m) 0 t)).length<=920000:=by
       intro t W6;have h1:=iv (ft (iT x y m) 0 t) F3;have h2:=lN (f:=iT x y m) (B:=1) (λk=>by simp[iT]) 0 t;omega
      refine aa.block ?_;refine aa.loop (λt:Nat=>⟨DM.look [(1,.v (.box [.sl (aV x.aj),.sl (aB x.insert),ti x.swap])),(2,.ptr 1003 0),(3,.v (ti n)),(4,.v (.sl (ba (bl F3 (ft (iT x y m) 0 t))))),(9,.v (ti y)),(10,.v (ti m)),(11,.v (ti t))],cC [(1003,.box [.v (ti 0),.aH,.aH])],130000,1000,[]⟩)
       (λt=>t<=tm) (λt=>tm-t) 0 (Le.aC ?_ ?_ ?_ ?_) (by simp) (λt W6=>?_)
      iterate 3(·simp)
      ·simp[tF,bl]
      have lalt:=lC t W6;have Lr:=o7 (iT x y m) (Zbf t);obtain⟨alt,halt⟩:∃l,bl F3 (ft (iT x y m) 0 t)=l:=⟨_,rfl⟩;have BE:bl F3 (ft (iT x y m) 0 (t+1))=bl alt (iT x y m t):=by rw[Lr,cU,halt]
      rw[halt]at lalt⊢;refine aa.seq ?_;refine aa.ab ay fw [1,2,3,4,9,10,11,141] ?_;simp[US,ja];refine aa.cond rfl (λhct=>?_) (λhct=>?_)
      ·simp at hct;refine aa.skip ?_;simp;refine aa.seq ?_;refine aa.block ?_;have htx:t<x.insert.length:=by omega
       have tK:=cO htx;obtain⟨u,hu⟩:∃u,x.insert.getD t default=u:=⟨_,rfl⟩;have hub:=Vc u (by rw[<-hu];simp[List.getD,htx]);have hiT:iT x y m t=[⟨2*y,2*m,t,jJ d u,dd (m-y)++[(3,(t:Int))]⟩]:=by unfold iT;rw[hdd,hu]
       rw[hu]at tK;refine aa.dm ay fw [1,2,3,4,9,10,11] ?_;simp[UT,AM,hdd,w2y,w2m,wmy,ja,tK,hct];refine⟨⟨y,m,⟨rfl,rfl⟩,wA,by omega⟩,⟨d,u,⟨rfl,rfl⟩,by omega,by omega⟩,⟨m-y,rfl,by omega⟩,⟨alt,⟨rfl,⟨⟨2*y,2*m,t,jJ d u,dd (m-y)++[(3,(t:Int))]⟩,rfl⟩⟩,by omega⟩, ?_⟩;refine aa.dm ay fw [1,2,3,4,9,10,11] ?_;simp[UU];rw[au (by omega)];refine⟨t+1,Le.aC ?_ ?_ ?_ ?_,by omega,by omega⟩;iterate 3(·simp)
       ·rw[hiT]at BE;have O5:bl F3 (ft (iT x y m) 0 (t+1))=oZ alt ⟨2*y,2*m,t,jJ d u,dd (m-y)++[(3,(t:Int))]⟩:=BE;simp[O5]
      ·simp at hct;have:t=tm:=by omega
       subst this;refine aa.exit ⟨rfl,Le.aC ?_ ?_ ?_ ?_⟩;iterate 3(·simp)
       ·simp[<-halt,iM,ja]
     ·refine aa.dm ay fw [1,2,3,4,9,10] ?_;simp[UW];rw[au (by omega)];refine⟨m+1,Le.aC ?_ ?_ ?_ ?_,by omega,by omega⟩;iterate 3(·simp)
      ·simp[Lq]
    ·simp at Ee;have:m=n+1:=by omega
     subst this;refine aa.exit ⟨rfl,Le.aC ?_ ?_ ?_ ?_⟩;iterate 3(·simp)
     ·simp[<-Lp,iI,hn]
   ·refine aa.dm ay fw [1,2,3,4,9] ?_;simp[UX];rw[au (by omega)];refine⟨y+1,Le.aC ?_ ?_ ?_ ?_,by omega,by omega⟩;iterate 3(·simp)
    ·simp[qd]
  ·simp at bM;have:y=n+1:=by omega
   subst this;refine aa.exit ⟨rfl,Le.aC ?_ ?_ ?_ ?_⟩;iterate 3(·simp)
   ·simp[<-xJ,ko]
 simp;have lal2:Jq.length<=900000:=by rw[<-xJ];exact Pj _ (by omega)
 obtain⟨N,hN⟩:∃N,2*n+1=N:=⟨_,rfl⟩;have w2n:IntKind.i64.wrap (2*(n:Int))=2*n:=au (by omega);have w2n1:IntKind.i64.wrap (2*(n:Int)+1)=(N:Int):=by rw[au (by omega)];omega
 refine aa.ab ay fw [1,2,3,12] ?_;simp[UY,w2n,w2n1];refine aa.ab ay fw [1,2,3,12,13] ?_;simp[UZ,w2n,w2n1];refine⟨by simp[cH];omega, ?_⟩;refine aa.seq ?_;refine aa.ab ay fw [1,2,3,12,13,14] ?_;simp[U0];have PO:(dU x 0).length=N:=by simp[dU,hn,hN]
 have IB:∀k,(dU x k).length=N:=λk=>by simp[dU,hn,hN]
 have hF0:List.replicate N [T.int IntKind.i64 0]=aB (dU x 0):=by
  rw[<-hN,<-hn];apply ZbB
  ·simp[dU,aB]
  ·intro i h1 h2;simp[dU,aB]
 have hFs:∀k,k<N->(dU x k).set k (if k % 2=0 then fY x (k/2) n else 1099511627776)=dU x (k+1):=by
  intro k hk;rw[<-hn];apply ZbB
  ·simp[dU]
  ·intro i h1 h2;rw[Zca];simp only[dU,Zcm,ZcB];by_cases e:k=i
   ·subst e;simp
   ·rw[if_neg e];have hq:(i<k+1)=(i<k):=propext ⟨λh=>by omega,λh=>by omega⟩;simp only[hq]
 rw[hF0];refine aa.block ?_;refine aa.loop (λk:Nat=>⟨DM.look [(1,.v (.box [.sl (aV x.aj),.sl (aB x.insert),ti x.swap])),(2,.ptr 1003 0),(3,.v (ti n)),(12,.ptr 100013 0),(13,.bk 100378 0),(14,.v (ti k))],cC [(1003,.box [.v (ti 0),.aH,.aH]),(100013,.box [.v (ti N),.v (.sl (ba Jq)),.aH]),(100378,.arr 0 3 1 (aB (dU x k)))],200000,1000,[]⟩)
  (λk=>k<=N) (λk=>N-k) 0 (Le.aC ?_ ?_ ?_ ?_) (by simp) (λk hk=>?_)
 iterate 4(·simp)
 refine aa.seq ?_;refine aa.ab ay fw [1,2,3,12,13,14,180] ?_;simp[U1,IB];refine aa.cond rfl (λuF=>?_) (λuF=>?_)
 ·simp at uF;have hrw:DM.rowAt (aB (dU x k)) (k:Int)=[ti ((dU x k).getD k default)]:=cO (by rw[IB];exact uF);have hrw2:DM.rowAt (aB ((dU x k).set k 1099511627776)) (k:Int)=[ti (((dU x k).set k 1099511627776).getD k default)]:=cO (by rw[ZcN,IB];exact uF);have hs:=hFs k uF;refine aa.skip ?_;simp;refine aa.seq ?_;refine aa.to ⟨DM.look [(1,.v (.box [.sl (aV x.aj),.sl (aB x.insert),ti x.swap])),(2,.ptr 1003 0),(3,.v (ti n)),(12,.ptr 100013 0),(13,.bk 100378 0),(14,.v (ti k))],cC [(1003,.box [.v (ti 0),.aH,.aH]),(100013,.box [.v (ti N),.v (.sl (ba Jq)),.aH]),(100378,.arr 0 3 1 (aB (dU x (k+1))))],300000,1000,[]⟩ ?_ ?_
  ·refine aa.block ?_;refine aa.ab ay fw [1,2,3,12,13,14] ?_;simp[U2,IB,uF,hrw];rw[show(aB (dU x k)).set k [T.int IntKind.i64 1099511627776]=aB ((dU x k).set k 1099511627776)from Iy _ _ _];refine aa.le (Le.aC (o:=[(1003,.box [.v (ti 0),.aH,.aH]),(100013,.box [.v (ti N),.v (.sl (ba Jq)),.aH]),(100378,.arr 0 3 1 (aB ((dU x k).set k 1099511627776)))]) (l:=[(1,.v (.box [.sl (aV x.aj),.sl (aB x.insert),ti x.swap])),(2,.ptr 1003 0),(3,.v (ti n)),(12,.ptr 100013 0),(13,.bk 100378 0),(14,.v (ti k))]) (nxt':=210000) ?_ ?_ ?_ ?_) ?_;iterate 4(·simp)
   have wm:(k:Int).tmod 2=k % 2:=AD (by omega);have wd:(k:Int).tdiv 2=((k/2:Nat):Int):=by rw[oK (by omega)];omega
   have ww:IntKind.i64.wrap ((k:Int) % 2)=k % 2:=au (by omega);have ww2:IntKind.i64.wrap ((k/2:Nat):Int)=((k/2:Nat):Int):=au (by omega);obtain⟨h2,hh2⟩:∃h,k/2=h:=⟨_,rfl⟩;rw[hh2]at wd ww2 hs;refine aa.ab ay fw [1,2,3,12,13,14,188] ?_;simp[U3,wm];refine aa.cond rfl (λh=>?_) (λh=>?_)
   ·simp at h;have qY:k % 2=0:=by omega
    rw[if_pos qY]at hs;refine aa.dm ay fw [1,2,3,12,13,14] ?_;simp[U4,AM,wd,ww2,IB,uF,hrw2];refine⟨⟨h2,n,⟨rfl,rfl⟩,by omega,by omega⟩,Le.aC ?_ ?_ ?_ ?_⟩
    ·simp
    ·simp
    ·simp[<-hs,<-Iy]
    ·simp
   ·simp at h;have qY:¬k % 2=0:=by omega
    rw[if_neg qY]at hs;refine aa.skip ⟨rfl,Le.aC ?_ ?_ ?_ ?_⟩
    ·simp
    ·simp
    ·simp[hs]
    ·simp
  ·refine aa.dm ay fw [1,2,3,12,13,14] ?_;simp[U5];rw[au (by omega)];refine⟨k+1,Le.aC ?_ ?_ ?_ ?_,by omega,by omega⟩;iterate 3(·simp)
   ·simp
 ·simp at uF;have:k=N:=by omega
  subst this;refine aa.exit ?_;simp;refine aa.ab ay fw [2,12] ?_;simp[U6];refine aa.ab ay fw [2] ?_;simp[U7];refine aa.ret ?_;subst hR;rw[hn,hN,Lh,xJ];simp[A7,aL.enc];omega
end Go.Proofs
namespace Go.Proofs
open Go.DM Go.DM.NS
section
variable(good:List T->Prop)(XU:List T->List T->Int)
abbrev wF(x y:List T):Bool:=decide (XU x y<0)
variable{good XU}
end
end Go.Proofs
namespace Go.Proofs
open Go.DM Go.DM.NS
def oq:Nat:=1000000000
end Go.Proofs
namespace Go.Proofs
open Go.DM Go.DM.NS
def bV(a:bn):List T:=[ti a.f,ti a.t,ti a.term]
def qc(r:List T):Prop:=∃f t x:Int,r=[ti f,ti t,ti x]
def je(r:List T):Int×Int×Int:=(cX (r.getD 0 (ti 0)),cX (r.getD 1 (ti 0)),cX (r.getD 2 (ti 0)))
def WO(a b:Int×Int×Int):Prop:=a.1<b.1\/(a.1=b.1/\(a.2.1<b.2.1\/(a.2.1=b.2.1/\a.2.2<b.2.2)))
theorem or3(a b c d e f:Int):Ns [qq a d,qq b e,qq c f]<0↔WO (a,b,c) (d,e,f):=by
 simp only[Ns,qq,WO];by_cases h1:a<d
 ·simp[h1]
 ·by_cases h2:d<a
  ·have:a≠d:=by omega
   simp[h1,h2,this]
  ·have:a=d:=by omega
   subst this;by_cases h3:b<e
   ·simp[h3]
   ·by_cases h4:e<b
    ·have:b≠e:=by omega
     simp[h3,h4,this]
    ·have:b=e:=by omega
     subst this;by_cases h5:c<f
     ·simp[h5]
     ·by_cases h6:f<c
      ·have:¬c<f:=by omega
       simp[h5,h6]
      ·simp[h5,h6]
theorem Nt(x y:List T):wF dy x y=true↔WO (je x) (je y):=by
 simp only[wF,decide_eq_true_eq];exact or3 _ _ _ _ _ _
theorem sd(x y:List T):wF dy x y=false↔¬WO (je x) (je y):=by
 rw[<-Nt];simp
theorem Gc:SWO (wF dy):=by
 refine⟨λx=>?_,λx y z h1 h2=>?_,λx y z h1 h2=>?_⟩
 ·rw[sd];unfold WO;omega
 ·rw[Nt]at h1 h2⊢;unfold WO at h1 h2⊢;omega
 ·rw[sd]at h1 h2⊢;unfold WO at h1 h2⊢;omega
theorem XW{x y:List T}(h:eqv (wF dy) x y=true):je x=je y:=by
 simp only[eqv,Zam,Zbg,sd]at h;unfold WO at h;generalize je x=p at h⊢;generalize je y=q at h⊢;obtain⟨a1,a2,a3⟩:=p;obtain⟨b1,b2,b3⟩:=q;simp only[Zar]at h⊢;omega
theorem xM{x y:List T}(hx:qc x)(hy:qc y)(h:je x=je y):x=y:=by
 obtain⟨a,b,c,rfl⟩:=hx;obtain⟨d,e,f,rfl⟩:=hy;simp[je,cX]at h;simp[h]
theorem Fw{l:List (List T)}(hg:∀x∈l,qc x)(hn:l.Nodup)(z:List T):(l.filter (eqv (wF dy) z)).length<=1:=by
 have Cr:(l.filter (eqv (wF dy) z)).Nodup:=hn.filter _;have dJ:∀x∈l.filter (eqv (wF dy) z),qc x/\je x=je z:=by
  intro x hx;rw[ZaO]at hx;exact⟨hg x hx.1,(XW hx.2).symm⟩
 match hl:l.filter (eqv (wF dy) z),Cr,dJ with
 |[],_,_=>simp
 |[a],_,_=>simp
 |a::b::l,Cr,dJ=>
  exfalso;have h1:=dJ a (by simp);have h2:=dJ b (by simp);have:=xM h1.1 h2.1 (h1.2.trans h2.2.symm);subst this;simp at Cr
theorem Li{l1 l2:List (List T)}(hp:l1.Perm l2)(hg:∀x∈l2,qc x)(hn:l2.Nodup):jc (wF dy) l1=jc (wF dy) l2:=by
 refine GN Gc (o6 Gc l2) λx=>?_;rw[vm Gc];have h1:=hp.filter (eqv (wF dy) x);have h2:=Fw hg hn x;cases h:l2.filter (eqv (wF dy) x)with
 |nil=>rw[h]at h1;exact(List.Perm.eq_nil h1).symm
 |cons a t=>
  rw[h]at h1 h2;have:t=[]:=by cases t with
   |nil=>rfl
   |cons b t=>simp at h2
  subst this;exact(List.perm_singleton.1 h1).symm
theorem o5{a b:bn}:bV a=bV b↔sameKey a b=true:=by simp[bV,sameKey]
theorem Lk{al:List bn}(h:(al.map bV).Nodup)(a:bn):((tC al a).map bV).Nodup:=by
 unfold tC;split
 ·cases hf:al.findIdx? (sameKey a)with
  |none=>
   simp only;rw[ZaP,ZbP];refine⟨h,by simp, ?_⟩;intro x hx y hy;simp only[Zau,ZbX,Zah]at hy;subst hy;obtain⟨b,hb,rfl⟩:=Zal.1 hx;intro e;rw[ZcH]at hf;have:=hf b hb;rw[o5.1 e.symm]at this;cases this
  |some i=>
   simp only;split
   ·have hi:=sI hf;rw[ZbA]at hf;have hk:bV a=bV al[i]:=o5.2 hf.2.1;rw[ZbJ,hk];have:(al.map bV).set i (bV al[i])=al.map bV:=by
     apply ZbB
     ·simp
     ·intro k h1 h2;rw[Zca];split
      ·rename_i e;subst e;simp
      ·rfl
    rw[this];exact h
   ·exact h
 ·exact h
theorem uM(cs:List bn):∀{al:List bn},(al.map bV).Nodup->((bS al cs).map bV).Nodup:=by
 induction cs with
 |nil=>intro al h;exact h
 |cons c cs ih=>intro al h;exact ih (Lk h c)
def oj(al:List bn)(r:List T):bn:=(al.find? (sameKey ⟨(je r).1,(je r).2.1,(je r).2.2,0,[]⟩)).getD default
theorem Vg{α:Type}(p:α->Bool)(l:List α):l.find? p=(l.findIdx? p).bind λi=>l[i]? :=by
 induction l with
 |nil=>rfl
 |cons x l ih=>
  rw[ZaN,Za4];cases h:p x with
  |true=>simp
  |false=>simp[ih];cases l.findIdx? p<;>simp
theorem sb{al:List bn}{a:bn}(h:a∈al):sameKey a (oj al (bV a))=true/\oj al (bV a)∈al/\∃i,ov a.key (entries al)=some (i,(oj al (bV a)).key,.v (.agg (oj al (bV a)).enc)):=by
 have e:sameKey ⟨(je (bV a)).1,(je (bV a)).2.1,(je (bV a)).2.2,0,[]⟩=sameKey a:=by
  funext b;simp[sameKey,je,bV,cX]
 unfold oj;rw[e,vv,nC,Vg];cases hf:al.findIdx? (sameKey a)with
 |none=>
  rw[ZcH]at hf;have:=hf a h;simp[sameKey]at this
 |some i=>
  have hi:=sI hf;rw[ZbA]at hf;simp only[Zb8,fu,Zan hi,Za1,Zbc];exact⟨hf.2.1,Zbj hi,i,rfl⟩
def jd(al:List bn):List bn:=(jc (wF dy) (al.map bV)).map (oj al)
theorem Ph{al:List bn}{sn:List Nat}(h1:sn.Nodup)(h2:∀i∈sn,i<al.length)(h3:∀i,i<al.length->i∈sn):(sn.map λi=>bV (al.getD i default)).Perm (al.map bV):=by
 have hp:sn.Perm (List.range al.length):=(List.perm_ext_iff_of_nodup h1 List.nodup_range).2 λi=>by
  rw[ZaQ];exact⟨h2 i,h3 i⟩
 have:=hp.map λi=>bV (al.getD i default);refine this.trans (List.Perm.of_eq ?_);apply ZbB
 ·simp
 ·intro k k1 k2;simp at k2;simp[k2]
end Go.Proofs
namespace Go.Proofs
open Go.Shelf
def Ix:Go.Shelf.Ren:=⟨fun|6=>51|15=>77|14=>76|28=>104|29=>105|20=>96|21=>97|22=>98|23=>99|24=>100|25=>101|26=>102|27=>103|46=>112|47=>113|48=>114|49=>115|50=>116|57=>118|n=>n,fun|22=>104|24=>106|25=>108|3=>3|39=>134|0=>0|53=>159|55=>162|4=>4|46=>168|45=>167|50=>151|5=>5|9=>9|66=>180|70=>178|76=>185|77=>148|n=>n,fun|n=>n⟩
theorem XV:SlLaysF0.n6 Tryz.prog Ix where
 mixed:=by kernel_rfl
 f6:=⟨Tryz.f51.name,by decide+kernel,Tryz.func51.trans (congrArg some (by kernel_rfl))⟩
 f14:=⟨Tryz.f76.name,by decide+kernel,Tryz.func76.trans (congrArg some (by kernel_rfl))⟩
 f15:=Tryz.func77.trans (congrArg some (by kernel_rfl))
 f20:=⟨Tryz.f96.name,by decide+kernel,Tryz.func96.trans (congrArg some (by kernel_rfl))⟩
 f21:=⟨Tryz.f97.name,by decide+kernel,Tryz.func97.trans (congrArg some (by kernel_rfl))⟩
 f22:=⟨Tryz.f98.name,by decide+kernel,Tryz.func98.trans (congrArg some (by kernel_rfl))⟩
 f23:=⟨Tryz.f99.name,by decide+kernel,Tryz.func99.trans (congrArg some (by kernel_rfl))⟩
 f24:=⟨Tryz.f100.name,by decide+kernel,Tryz.func100.trans (congrArg some (by kernel_rfl))⟩
 f25:=⟨Tryz.f101.name,by decide+kernel,Tryz.func101.trans (congrArg some (by kernel_rfl))⟩
 f26:=⟨Tryz.f102.name,by decide+kernel,Tryz.func102.trans (congrArg some (by kernel_rfl))⟩
 f27:=⟨Tryz.f103.name,by decide+kernel,Tryz.func103.trans (congrArg some (by kernel_rfl))⟩
 f28:=Tryz.func104.trans (congrArg some (by kernel_rfl))
 f29:=Tryz.func105.trans (congrArg some (by kernel_rfl))
 f46:=⟨Tryz.f112.name,by decide+kernel,Tryz.func112.trans (congrArg some (by kernel_rfl))⟩
 f47:=Tryz.func113.trans (congrArg some (by kernel_rfl))
 f48:=Tryz.func114.trans (congrArg some (by kernel_rfl))
 f49:=⟨Tryz.f115.name,by decide+kernel,Tryz.func115.trans (congrArg some (by kernel_rfl))⟩
 f50:=⟨Tryz.f116.name,by decide+kernel,Tryz.func116.trans (congrArg some (by kernel_rfl))⟩
 f57:=⟨Tryz.f118.name,by decide+kernel,Tryz.func118.trans (congrArg some (by kernel_rfl))⟩
 t0:=Tryz.underlying0
 a0:=Tryz.isAgg0
 z0:=Tryz.sizeOf0
 v0:=Tryz.zeroValue0
 t3:=Tryz.underlying3
 a3:=Tryz.isAgg3
 z3:=Tryz.sizeOf3
 v3:=Tryz.zeroValue3
 t4:=Tryz.underlying4
 a4:=Tryz.isAgg4
 z4:=Tryz.sizeOf4
 v4:=Tryz.zeroValue4
 t5:=Tryz.underlying5
 a5:=Tryz.isAgg5
 z5:=Tryz.sizeOf5
 v5:=Tryz.zeroValue5
 t9:=Tryz.underlying9
 a9:=Tryz.isAgg9
 z9:=Tryz.sizeOf9
 v9:=Tryz.zeroValue9
 t22:=Tryz.underlying104
 a22:=Tryz.isAgg104
 z22:=Tryz.sizeOf104
 v22:=Tryz.zeroValue104
 t25:=Tryz.underlying108
 a25:=Tryz.isAgg108
 z25:=Tryz.sizeOf108
 v25:=Tryz.zeroValue108
 t39:=Tryz.underlying134
 a39:=Tryz.isAgg134
 z39:=Tryz.sizeOf134
 v39:=Tryz.zeroValue134
 t45:=Tryz.underlying167
 a45:=Tryz.isAgg167
 z45:=Tryz.sizeOf167
 v45:=Tryz.zeroValue167
 t46:=Tryz.underlying168
 a46:=Tryz.isAgg168
 z46:=Tryz.sizeOf168
 v46:=Tryz.zeroValue168
 t50:=Tryz.underlying151
 a50:=Tryz.isAgg151
 z50:=Tryz.sizeOf151
 v50:=Tryz.zeroValue151
 t53:=Tryz.underlying159
 a53:=Tryz.isAgg159
 z53:=Tryz.sizeOf159
 v53:=Tryz.zeroValue159
 t55:=Tryz.underlying162
 a55:=Tryz.isAgg162
 z55:=Tryz.sizeOf162
 v55:=Tryz.zeroValue162
 t66:=Tryz.underlying180
 a66:=Tryz.isAgg180
 z66:=Tryz.sizeOf180
 v66:=Tryz.zeroValue180
 t70:=Tryz.underlying178
 a70:=Tryz.isAgg178
 z70:=Tryz.sizeOf178
 v70:=Tryz.zeroValue178
 t76:=Tryz.underlying185
 a76:=Tryz.isAgg185
 z76:=Tryz.sizeOf185
 v76:=Tryz.zeroValue185
 t77:=Tryz.underlying148
 a77:=Tryz.isAgg148
 z77:=Tryz.sizeOf148
 v77:=Tryz.zeroValue148
end Go.Proofs
namespace Go.Proofs
open Go.DM Go.DM.NS
def P0(x y:l7 3):Int:=dy (gp x) (gp y)
theorem row3(x:l7 3):∃a b c:Int,x.1=[a,b,c]:=by
 obtain⟨l,hl⟩:=x
 match l,hl with
 |[a,b,c],_=>exact⟨a,b,c,rfl⟩
theorem good_row(x:l7 3):qc (gp x):=by
 obtain⟨a,b,c,h⟩:=row3 x;exact⟨a,b,c,by unfold gp;rw[h];rfl⟩
theorem Vh{r:List T}(h:qc r):∃x:l7 3,gp x=r:=by
 obtain⟨a,b,c,rfl⟩:=h;exact⟨⟨[a,b,c],rfl⟩,rfl⟩
theorem Dz:∀{D:List (List T)},(∀x∈D,qc x)->∃E:List (l7 3),E.map gp=D
 |[],_=>⟨[],rfl⟩
 |r::D,h=>by
  obtain⟨x,hx⟩:=Vh (h r (by simp));obtain⟨E,hE⟩:=Dz λy hy=>h y (ZaW _ hy);exact⟨x::E,by simp[hx,hE]⟩
theorem lt_cfK(x y:l7 3):ltOf P0 x y=wF dy (gp x) (gp y):=rfl
theorem zC:Go.Sort.SWO (ltOf P0):=
 ⟨λx=>Gc.irrefl _,λx y z=>Gc.trans _ _ _,λx y z=>Gc.ntrans _ _ _⟩
theorem Vi{k:Nat}{x y:l7 k}(h:gp x=gp y):x=y:=by
 apply Subtype.ext;unfold gp at h;have key:∀(l m:List Int),l.map tI=m.map tI->l=m:=by
  intro l;induction l with
  |nil=>intro m h;cases m with
   |nil=>rfl
   |cons b m=>cases h
  |cons a l ih=>intro m h;cases m with
   |nil=>cases h
   |cons b m=>
    simp only[Zau,Za6,T.int.injEq,true_and]at h;rw[h.1,ih m h.2]
 exact key _ _ h
theorem XX(x y:l7 3)(h1:ltOf P0 x y=false)(h2:ltOf P0 y x=false):x=y:=by
 rw[lt_cfK]at h1 h2;exact Vi (xM (good_row x) (good_row y) (XW (by simp[eqv,h1,h2])))
theorem Vj(E:List (l7 3)):jc (wF dy) (E.map gp)=(yz P0 E).map gp:=by
 refine GN Gc ?_ λz=>?_
 ·unfold tE;rw[Zci];have h:=List.pairwise_mergeSort (le:=λx y=> !(ltOf P0) y x) (λa b c h1 h2=>by
   simp only[Zbg]at h1 h2⊢;exact zC.ntrans _ _ _ h2 h1) (λa b=>by
   cases e:ltOf P0 b a with
   |false=>rfl
   |true=>
    cases e2:ltOf P0 a b with
    |false=>rfl
    |true=>
     have:=zC.trans _ _ _ e e2;rw[zC.irrefl]at this;cases this) E
  exact h.imp λ{a b} YF=>by rw[Zbg]at YF;exact YF
 ·have hp:((yz P0 E).map gp).Perm (E.map gp):=(List.mergeSort_perm E _).map _;have h1:=hp.filter (eqv (wF dy) z);have dJ:∀w∈(E.map gp).filter (eqv (wF dy) z),∀u∈(E.map gp).filter (eqv (wF dy) z),w=u:=by
   intro w hw u hu;rw[ZaO]at hw hu;obtain⟨x,_,rfl⟩:=Zal.1 hw.1;obtain⟨y,_,rfl⟩:=Zal.1 hu.1;exact xM (good_row x) (good_row y) ((XW hw.2).symm.trans (XW hu.2))
  generalize (E.map gp).filter (eqv (wF dy) z)=l at h1 dJ;generalize ((yz P0 E).map gp).filter (eqv (wF dy) z)=l' at h1;apply ZbB h1.length_eq;intro i q1 q2;exact dJ _ (h1.subset (Zbj q1)) _ (Zbj q2)
theorem Ll [Laid](x y:l7 3):aU Tryz.prog 52 [.agg (gp x),.agg (gp y)] (tI (P0 x y)):=by
 obtain⟨a,b,c,h⟩:=good_row x;obtain⟨d,e,f,k⟩:=good_row y;unfold P0;rw[h,k];exact t33 a b c d e f
theorem t32(D:List (List T)){objs:aT}{r ver e:Nat}(fG:objs r=some (.arr ver e 3 D))(cS:∀x∈D,qc x)(h4:D.length<=oq):
  aZ Tryz.prog 51 [.bk r ver,.v (.fn (.func 52) [])] objs ⟨True,.v (.eG []),cZ objs r (.arr ver e 3 (jc (wF dy) D))⟩:=by
 obtain⟨E,rfl⟩:=Dz cS;rw[Vj];unfold oq at h4;exact GJ (k:=3) XV (by omega) (λw=>Tryz.isAgg106 w) (λw=>Tryz.sizeOf106 w) (@Ll Laid.none) zC XX E fG (by simp at h4;omega)
def k32(good:List T->Prop)(XU:List T->List T->Int):List DV->aT->iC
 |[.bk r ver,.v (.fn (.func c) caps)],objs=>match objs r with
  |some (.arr ver' e sz D)=>⟨ver=ver'/\sz=3/\c=52/\caps=[]/\(∀x∈D,good x)/\D.length<=oq/\D.length<=1000000000,
    .v (.eG []),cZ objs r (.arr ver e 3 (jc (wF XU) D))⟩
  |_=>⟨False,.undef,objs⟩
 |_,objs=>⟨False,.undef,objs⟩
theorem ok32{l:List (Nat×DM.Spec)}(h:aw Tryz.prog (aX l)):aw Tryz.prog (aX ((51,fa (k32 qc dy))::l)):=by
 refine aw.gU h ?_;intro args objs h;unfold k32 at h⊢;split at h
 ·split at h
  ·rename_i c caps _ ver' e sz D fG;obtain⟨rfl,rfl,rfl,rfl,h1,h4,h5⟩:=h;refine⟨λN hN=>?_,λk hk=>sy fG hk⟩;simp only[];exact(t32 D fG h1 h4).of rfl rfl
  ·exact h.elim
 ·exact h.elim
end Go.Proofs
namespace Go.Proofs
open Go.DM Go.DM.NS
def k30:List DV->aT->iC
 |[.ptr b 0,.v (.int .i64 i)],objs=>
  ⟨objs b=some (.box (cj (eR objs b).1 (eR objs b).2))/\objs (eR objs b).2=some (bU (xH objs (eR objs b).2))/\0<=i/\i<=(eR objs b).1.aj.length/\H2 (eR objs b).1,.v (.eG []),
   cZ objs (eR objs b).2 (bU (bS (xH objs (eR objs b).2) (qE (eR objs b).1 i.toNat)))⟩
 |_,objs=>⟨False,.undef,objs⟩
theorem k30_eq{objs:aT}{b m:Nat}{x:Input}{al:List bn}{i:Nat}(h:objs b=some (.box (cj x m)))(hm:objs m=some (bU al)):
  k30 [.ptr b 0,.v (ti i)] objs=⟨i<=x.aj.length/\H2 x,.v (.eG []),cZ objs m (bU (bS al (qE x i)))⟩:=by
 simp only[k30,zB h,h,Dy hm,hm,Zak,true_and,Int.ofNat_le,Zcg]
abbrev Γ7:Env:=aX [(49,fa k30),(51,fa (k32 qc dy)),(50,fa XR),(48,ve pre29 fn29 3 1)]
theorem ok7:aw Tryz.prog Γ7:=by
 refine aw.gU (ok32 (aw.gU (aw.QY aw.nil ?_) ?_)) ?_
 ·rintro ts ⟨v,n,rfl,h1,h2⟩;have:=t29 v n h1 h2;simpa [fn29,aB]using this
 ·exact(ok5 50 (fa XR) rfl).st XR rfl
 ·intro args objs h;unfold k30 at h⊢;split at h
  ·rename_i aA b i;obtain⟨hb,hm,h1,h2,h3⟩:=h;obtain⟨i,rfl⟩:=Zad h1;refine⟨λN hN=>?_,λr hr=>sy hm hr⟩;exact aZ.of (t30 hN hb hm (by omega) h3) (by simp) (by simp)
  ·exact h.elim
def Vd:List RO:=[
 a 2 5 36 [],
 l 36 37 [0],
 n 6 38,
 o (.bin .mul (i 2) (t 38)) 39 [2],
 n 3 40,
 n 6 41,
 n 4 42,
 o (.callR 50 [(t 40),(t 41),(t 42)]) 43 [4,5,6],
 m 43 35 [7],
 e 0 35 44 [8],
 e 1 35 45 [8],
 x 1 37 39 46 (k [1,3] 9),
 S 1 46 44 (k [11,9,7] 9)]
theorem Ve{objs:aT}{b m:Nat}{x:Input}{i j:Nat}(h:objs b=some (.box (cj x m))):
  wJ XR [.ptr b 0,.v (ti i),.v (ti j)] objs=(i<=j/\j<=x.aj.length/\ni x.aj)/\
   (XR [.ptr b 0,.v (ti i),.v (ti j)] (ya objs [.ptr b 0,.v (ti i),.v (ti j)])).val=.v (.eG [ti (dY ((x.aj.take j).drop i) 0),.sl (cR (dd (j-i)))]):=by
 have hr:ya objs [.ptr b 0,.v (ti i),.v (ti j)] b=some (.box (cj x m)):=by simp[ya,bJ,names,h]
 refine⟨?_,by rw[xI hr]⟩;unfold wJ;apply propext;constructor
 ·intro H;have:=H objs (λ_ _=>rfl);rw[xI h]at this;exact this.1
 ·intro H o ho;have hb:o b=some (.box (cj x m)):=by rw[ho b (by simp[bJ,names]),h]
  rw[xI hb,xI hr];exact⟨H,rfl,rfl⟩
def uL(x:Input)(y:Nat):List bn:=(List.range y).flatMap (qE x)
theorem Pf(x:Input)(y:Nat):uL x (y+1)=uL x y++qE x y:=by simp[uL,ZaE]
def fz(x:Input)(n y:Nat):List (List T):=(List.range n).map λs=>[ti (if s % 2=0/\s/2<y then fY x (s/2) x.aj.length else 1099511627776)]
theorem Iu(x:Input){n y:Nat}(h:2*y<n):(fz x n y).set (2*y) [ti (fY x y x.aj.length)]=fz x n (y+1):=by
 apply ZbB
 ·simp[fz]
 ·intro k h1 h2;rw[Zca];simp only[fz,Zcm,ZcB];split
  ·rename_i e;subst e;rw[if_pos (by omega),show 2*y/2=y by omega]
  ·rename_i e;by_cases hk:k % 2=0/\k/2<y
   ·rw[if_pos hk,if_pos (by omega)]
   ·rw[if_neg hk,if_neg (by omega)]
theorem Iv(x:Input)(n y:Nat):(fz x n y).length=n:=by simp[fz]
theorem Fu(x:Input)(n:Nat):fz x n 0=List.replicate n [ti 1099511627776]:=by
 apply ZbB
 ·simp[fz]
 ·intro k h1 h2;simp[fz]
theorem sJ(a b:aT)(σ:Nat->Nat)(cs qL:List DV):lS a b σ (.box cs) (.box qL)=jC a b σ cs qL:=rfl
theorem sL(a b:aT)(σ:Nat->Nat)(v v' e e' sz ga:Nat)(rows di:List (List T)):lS a b σ (.arr v e sz rows) (.arr v' e' ga di)=(e=e'/\sz=ga/\rows=di):=rfl
theorem rU(a b:aT)(al:List bn):lS a b id (bU al) (bU al):=by
 simp only[bU,lS];exact⟨trivial,trivial,trivial,mR λe he=>by obtain⟨x,hx⟩:=eB al e he;rw[hx];simp⟩
theorem yN{al:List bn}{e:Nat×T×DV}(h:e∈entries al):∃i,i<al.length/\e=(i,(al.getD i default).key,.v (.agg (al.getD i default).enc)):=by
 obtain⟨i,hi,rfl⟩:=ZaZ h;rw[jG]at hi;refine⟨i,hi, ?_⟩;have:=fu al i;rw[Zan (by rw[jG];exact hi),Zan hi]at this;simp only[Za1,Zaa]at this;rw[this];simp[List.getD,hi]
theorem Fv{al:List bn}{i:Nat}(h:i<al.length):(entries al).find? (λe=>e.1==i)=some (i,(al.getD i default).key,.v (.agg (al.getD i default).enc)):=by
 rw[Zcr];have hg:∀(j:Nat) (hj:j<(entries al).length),(entries al)[j]=(j,(al.getD j default).key,.v (.agg (al.getD j default).enc)):=by
  intro j hj;rw[jG]at hj;have:=fu al j;rw[Zan (by rw[jG];exact hj),Zan hj]at this;simp only[Za1,Zaa]at this;rw[this];simp[List.getD,hj]
 refine⟨by simp,i,by rw[jG];exact h,hg _ _,λj hj=>?_⟩;rw[hg];simp;omega
theorem xK:∀(n:Nat) {l:List Nat},l.Nodup->(∀i∈l,i<n)->l.length<=n
 |0,l,_,h=>by cases l with
  |nil=>simp
  |cons a l=>exact absurd (h a (by simp)) (by omega)
 |n+1,l,hn,h=>by
  by_cases hm:n∈l
  ·have h1:=List.length_erase_of_mem hm;have h2:=xK n (l:=l.erase n) (hn.erase n) (λi hi=>by
    have:=h i (List.mem_of_mem_erase hi);have bG:i≠n:=λe=>by subst e;exact(List.Nodup.not_mem_erase hn) hi
    omega)
   omega
  ·have:=xK n hn (λi hi=>by
    have:=h i hi;have bG:i≠n:=λe=>hm (e▸hi);omega)
   omega
theorem lj(a b:aT)(al:List bn):iR a b id (entries al) (entries al):=mR λe he=>by obtain⟨x,hx⟩:=eB al e he;rw[hx];simp
theorem Pg{α:Type}{f:α->List T}{l:List α}{y:Nat}{a:α}(h:y<l.length)(ha:l[y]=a):(l.take (y+1)).map f=(l.take y).map f++[f a]:=by
 rw[Zbw,Zan h,ha];simp
def jP(x:Input):List bn:=bS [] (uL x (x.aj.length+1))
def wG(x:Input):List Int:=(List.range (2*x.aj.length+1)).map λs=>if s % 2=0 then fY x (s/2) x.aj.length else 1099511627776
def jn(x:Input):aL:=⟨2*x.aj.length+1,jd (jP x),wG x⟩
theorem Iw(x:Input):fz x (2*x.aj.length+1) (x.aj.length+1)=aB (wG x):=by
 simp only[fz,wG,aB,ZcL];apply Zbq;intro s hs;simp only[ZaQ]at hs;by_cases h:s % 2=0
 ·simp only[Function.comp_apply,h,if_true,true_and];rw[if_pos (by omega)]
 ·simp[h]
@[simp] theorem isMap_mapOb(al:List bn):isMap (some (bU al)):=by simp[isMap,bU]
theorem t12(x:Input)(hx:H2 x)(GI:(jP x).length<=oq)(kz:(jP x).length<=1000000000):aU Tryz.prog 32 [x.enc] (jn x).enc:=by
 have ay:=ok7;have hl:=hx.1.1;refine c12.ok (by simp) (aK ?_);simp[Input.enc];refine aa.ab ay fw [1,2] ?_;simp[d12r0];refine aa.ab ay fw [1,2,3] ?_;simp[d12r1];refine aa.ab ay fw [2,3,4] ?_;simp[d12r2];obtain⟨n2,O5⟩:∃n,2*x.aj.length+1=n:=⟨_,rfl⟩;have w1:IntKind.i64.wrap (2*(x.aj.length:Int))=2*x.aj.length:=au (by omega);have w2:IntKind.i64.wrap (2*(x.aj.length:Int)+1)=(n2:Int):=by rw[au (by omega)];omega
 refine aa.iG ay fw (rs:=K2) (.inr ⟨_,rfl⟩) (by kernel_rfl) [2,3,4,5] ?_;simp[K2,w1,w2,pre29,fn29,chunk];refine⟨⟨1099511627776,n2,⟨rfl,rfl⟩,by omega,by omega⟩, ?_⟩;obtain⟨n,hn⟩:∃n,x.aj.length=n:=⟨_,rfl⟩;rw[hn]at O5 hl;refine aa.seq ?_;have w3:IntKind.i64.wrap ((n:Int)+1)=((n+1:Nat):Int):=by rw[au (by omega)];omega
 refine aa.ab ay fw [2,3,4,5,28,29] ?_;simp[d12r4,hn,w3];obtain⟨n1,PZ⟩:∃n1,n+1=n1:=⟨_,rfl⟩;rw[show((n:Int)+1)=(n1:Int)by omega];refine aa.to ⟨DM.look [(2,.ptr 1003 0),(3,.ptr 1098 0),(5,.ptr 1255 0)],cC [(1003,.box [.v (ti 0),.aH,.aH]),(1098,.box (cj x 1096)),(1096,bU (bS [] (uL x n1))),(1255,.box [.v (ti n2),.aH,.bk 1275 0]),(1275,.arr 0 3 1 (fz x n2 n1))],3000,1000,[]⟩ ?_ ?_
 ·refine aa.block ?_;refine aa.loop (λy:Nat=>⟨DM.look [(2,.ptr 1003 0),(3,.ptr 1098 0),(4,.v (ti n)),(5,.ptr 1255 0),(28,.v (ti n1)),(29,.v (ti y))],cC [(1003,.box [.v (ti 0),.aH,.aH]),(1098,.box (cj x 1096)),(1096,bU (bS [] (uL x y))),(1255,.box [.v (ti n2),.aH,.bk 1275 0]),(1275,.arr 0 3 1 (fz x n2 y))],3000,1000,[]⟩)
   (λy=>y<=n1) (λy=>n1-y) 0 (Le.aC ?_ ?_ ?_ ?_) (by simp) (λy hy=>?_)
  ·simp
  ·simp[]
  ·simp[cj,bU,entries,uL,bS,Fu,nQ,iR,isMap]
  ·simp
  refine aa.ab ay fw [2,3,4,5,28,29,30] ?_;simp[d12r5];refine aa.seq ?_;refine aa.cond rfl (λbM=>?_) (λbM=>?_)
  ·simp at bM;refine aa.skip ?_;simp;refine aa.seq ?_;refine aa.block ?_;refine aa.ab ay fw [2,3,4,5,6,28,29] ?_;simp[d12r6];refine aa.iG ay fw (rs:=K3) (.inr ⟨_,rfl⟩) (by kernel_rfl) [2,3,4,5,6,28,29] ?_;simp[K3,k30_eq (x:=x) (m:=1096) (al:=bS [] (uL x y))];refine⟨⟨by omega,hx⟩, ?_⟩;obtain⟨Jq,xJ⟩:∃l,bS (bS [] (uL x y)) (qE x y)=l:=⟨_,rfl⟩;have hal2':bS [] (uL x (y+1))=Jq:=by rw[Pf,fE,xJ]
   rw[xJ,iu];refine aa.le (Le.aC (o:=[(1003,.box [.v (ti 0),.aH,.aH]),(1098,.box (cj x 1096)),(1096,bU Jq),(1255,.box [.v (ti n2),.aH,.bk 1275 0]),(1275,.arr 0 3 1 (fz x n2 y))]) (l:=[(2,.ptr 1003 0),(3,.ptr 1098 0),(4,.v (ti n)),(5,.ptr 1255 0),(6,.v (ti y)),(28,.v (ti n1)),(29,.v (ti y))]) (nxt':=4000) ?_ ?_ ?_ ?_) ?_
   ·simp
   ·simp
   ·simp[-lS,sJ,sL,rU,cj,nQ]
   ·simp
   have hyn:y<=n:=by omega
   have w4:IntKind.i64.wrap (2*(y:Int))=((2*y:Nat):Int):=by rw[au (by omega)];omega
   obtain⟨y2,fl⟩:∃y2,2*y=y2:=⟨_,rfl⟩;rw[fl]at w4;have tf:y2<n2:=by omega
   have hdc:dY ((x.aj.take n).drop y) 0=fY x y n:=rfl;have Gt:DM.rowAt (fz x n2 y) (y2:Int)=[ti 1099511627776]:=by
    have e:(2*(y:Int)).toNat=y2:=by omega
    subst fl;simp[DM.rowAt,fz,e,tf]
   have wq:=Iu x (n:=n2) (y:=y) (by omega);rw[fl,hn]at wq;have hd:=hx.1;refine aa.tR ay fw (rs:=Vd) (.inr ⟨_,rfl⟩) (by kernel_rfl) [2,3,4,5,28,29] ?_;simp[Vd,Ve (x:=x) (m:=1096),hn,w4,hd,hyn,Iv,tf,hdc,Gt,wq];refine aa.dm ay fw [2,3,4,5,28,29] ?_;simp[d12r9];rw[au (by omega)];refine⟨y+1,Le.aC ?_ ?_ ?_ ?_,by omega,by omega⟩
   ·simp
   ·simp
   ·simp[-lS,sJ,sL,rU,cj,nQ,hal2']
   ·simp
  ·simp at bM;have:y=n1:=by omega
   subst this;refine aa.exit ⟨rfl,Le.aC ?_ ?_ ?_ ?_⟩
   ·simp
   ·simp
   ·simp[-lS,sJ,sL,rU,cj,nQ]
   ·simp
 ·obtain⟨al,ko⟩:∃l,bS [] (uL x n1)=l:=⟨_,rfl⟩;obtain⟨fr,wq⟩:∃l,fz x n2 n1=l:=⟨_,rfl⟩;rw[ko,wq];refine aa.ab ay fw [2,3,5,7] ?_;simp[Ua];refine aa.seq ?_;refine aa.ab ay fw [2,3,5,7,52] ?_;simp[Ub,cj,bU];refine aa.le (Le.l9 (k:=7) 106 (sz:=3) (by omega) (by simp)) ?_;rw[iu];refine aa.block ?_;refine aa.loop (λsn:List Nat=>⟨DM.look [(2,.ptr 1003 0),(3,.ptr 1098 0),(5,.ptr 1255 0),(7,.bk 3166 0),(52,.iter 3136)],cC [(1003,.box [.v (ti 0),.aH,.aH]),(1098,.box (cj x 1096)),(1096,bU al),(1255,.box [.v (ti n2),.aH,.bk 1275 0]),(1275,.arr 0 3 1 fr),(3166,.arr 0 106 3 (sn.map λi=>bV (al.getD i default))),(3136,.iter 1096 al.length sn al.length)],4000,1000,[]⟩)
   (λsn=>sn.Nodup/\∀i∈sn,i<al.length) (λsn=>al.length-sn.length) [] (Le.aC ?_ ?_ ?_ ?_) (by simp) (λsn hs=>?_)
  ·simp
  ·simp
  ·simp[-lS,sJ,sL,cj,nQ];simp[lS,bU,isMap];exact mR λe he=>by obtain⟨x,hx⟩:=eB al e he;rw[hx];simp
  ·simp[Q2,AG]
  obtain⟨Ke,N8⟩:=hs;refine aa.seq ?_;refine aa.next (r:=3136) (m:=1096) (s:=al.length) (l:=al.length) (c:=al.length) (sn:=sn) (shs:=kv) (agg:=true) (es:=entries al) (by simp) (by simp) (by simp[bU]) (λe he=>?_) (Zae _) (λQQ=>?_) (λe he bG=>?_)
  ·obtain⟨i,hi,rfl⟩:=yN he;exact hi
  ·simp;have hp:=Ph Ke N8 λi hi=>QQ _ (Zaq (by rw[fu,Zan hi];rfl:(entries al)[i]? =some (i,al[i].key,.v (.agg al[i].enc))));have hgood:∀r∈sn.map (λi=>bV (al.getD i default)),qc r:=by
    intro r hr;obtain⟨i,_,rfl⟩:=Zal.1 hr;exact⟨_,_,_,rfl⟩
   have hlen:(sn.map (λi=>bV (al.getD i default))).length=al.length:=by rw[hp.length_eq];simp
   have zc:(al.map bV).Nodup:=by rw[<-ko];exact uM _ (by simp)
   have XN:jc (wF dy) (sn.map (λi=>bV (al.getD i default)))=jc (wF dy) (al.map bV):=Li hp (λr hr=>by
    obtain⟨a,_,rfl⟩:=Zal.1 hr;exact⟨_,_,_,rfl⟩) zc
   have XS:jP x=al:=by unfold jP;rw[hn,PZ,ko]
   rw[XS]at GI kz;rw[<-hlen]at GI kz;obtain⟨rows,cS⟩:∃r,sn.map (λi=>bV (al.getD i default))=r:=⟨_,rfl⟩;have hrows':sn.map (λi=>bV (al[i]?.getD default))=rows:=cS;rw[cS]at GI kz hgood XN hlen;rw[hrows'];refine aa.seq ?_;refine aa.cond rfl (λh=>by cases h) (λ_=>?_);refine aa.exit ?_;simp;refine aa.iG ay fw (rs:=Fg) (.inr ⟨_,rfl⟩) (by kernel_rfl) [2,3,5,7] ?_;simp[Fg,k32,XN,GI,kz];refine⟨hgood, ?_⟩;obtain⟨ks,hks⟩:∃ks,jc (wF dy) (al.map bV)=ks:=⟨_,rfl⟩;have hksl:ks.length=al.length:=by rw[<-hks,uO];simp
   have hksm:∀r∈ks,∃a∈al,bV a=r:=by
    intro r hr;rw[<-hks,sc]at hr;obtain⟨a,ha,rfl⟩:=Zal.1 hr;exact⟨a,ha,rfl⟩
   rw[hks,iu];refine aa.le (Le.aC (o:=[(1003,.box [.v (ti 0),.aH,.aH]),(1098,.box (cj x 1096)),(1096,bU al),(1255,.box [.v (ti n2),.aH,.bk 1275 0]),(1275,.arr 0 3 1 fr),(3166,.arr 0 106 3 ks)]) (l:=[(2,.ptr 1003 0),(3,.ptr 1098 0),(5,.ptr 1255 0),(7,.bk 3166 0)]) (nxt':=4500) ?_ ?_ ?_ ?_) ?_
   ·simp
   ·simp
   ·simp[cj,nQ,isMap,lj,bU]
   ·simp
   refine aa.le (Le.MM 1255 1 77 (sz:=5) (cs:=[.v (ti n2),.aH,.bk 1275 0]) (by omega) (by simp) (by simp)) ?_;rw[iu,iu];refine aa.seq ?_;refine aa.ab ay fw [2,3,5,63,64,65] ?_;simp[Ue,hksl];refine aa.to ⟨DM.look [(2,.ptr 1003 0),(5,.ptr 1255 0)],cC [(1003,.box [.v (ti 0),.aH,.aH]),(1255,.box [.v (ti n2),.bk 4500 0,.bk 1275 0]),(1275,.arr 0 3 1 fr),(4500,.arr 0 77 5 (ba (jd al)))],6000,1000,[]⟩ ?_ ?_
   ·refine aa.block ?_;refine aa.loop (λy:Nat=>⟨DM.look [(2,.ptr 1003 0),(3,.ptr 1098 0),(5,.ptr 1255 0),(63,.bk 3166 0),(64,.v (ti al.length)),(65,.v (ti y))],cC [(1003,.box [.v (ti 0),.aH,.aH]),(1098,.box (cj x 1096)),(1096,bU al),(1255,.box [.v (ti n2),.bk 4500 0,.bk 1275 0]),(1275,.arr 0 3 1 fr),(3166,.arr 0 106 3 ks),(4500,.arr 0 77 5 (ba ((ks.take y).map (oj al))))],6000,1000,[]⟩)
     (λy=>y<=al.length) (λy=>al.length-y) 0 (Le.aC ?_ ?_ ?_ ?_) (by simp) (λy hy=>?_)
    ·simp
    ·simp
    ·simp[cj,nQ,isMap,lj,bU,ba]
    ·simp
    refine aa.ab ay fw [2,3,5,63,64,65,66] ?_;simp[Uf];refine aa.seq ?_;refine aa.cond rfl (λbM=>?_) (λbM=>?_)
    ·simp at bM;refine aa.skip ?_;simp;refine aa.seq ?_;refine aa.block ?_;obtain⟨r,hr⟩:∃r,ks[y]'(by omega)=r:=⟨_,rfl⟩;obtain⟨a,ha,hak⟩:=hksm r (by rw[<-hr];exact Zbj _);have lX:DM.rowAt ks y=bV a:=by rw[hak,<-hr];simp[DM.rowAt,hksl,bM]
     obtain⟨l1,l2,i,l3⟩:=sb ha;have htake:=Pg (f:=λr=>(oj al r).enc) (by omega) hr;obtain⟨c,hc⟩:∃c,oj al (bV a)=c:=⟨_,rfl⟩;rw[hc]at l3;rw[<-hak,hc]at htake;have htake':ba (List.take (y+1) (List.map (oj al) ks))=ba (List.take y (List.map (oj al) ks))++[[ti c.f,ti c.t,ti c.term,ti c.cost,.sl (cR c.ops)]]:=by
      have:=htake;simp only[ba,List.map_take,ZcL]at this⊢;exact this
     simp only[bn.key,keyOf]at l3;refine aa.ab ay fw [2,3,5,10,63,64,65] ?_;simp[Ug,lX,hksl,bM,bV];refine aa.dm ay fw [2,3,5,63,64,65] ?_;simp[Uh,cj,bU,l3,bn.enc,cH,chunk];refine⟨⟨by omega,by omega⟩, ?_⟩;refine aa.dm ay fw [2,3,5,63,64,65] ?_;simp[Ui];rw[au (by omega)];refine⟨y+1,Le.aC ?_ ?_ ?_ ?_,by omega,by omega⟩
     ·simp
     ·simp
     ·simp[nQ,isMap,lj,htake']
     ·simp
    ·simp at bM;have:y=al.length:=by omega
     subst this;refine aa.exit ⟨rfl,Le.aC ?_ ?_ ?_ ?_⟩
     ·simp
     ·simp
     ·simp[jd,hks];rw[Za3 (by simp;omega)]
     ·simp
   ·refine aa.ab ay fw [2] ?_;simp[Uj];refine aa.ret ?_;have mG:fr=aB (wG x):=by rw[<-wq,<-PZ,<-O5,<-hn];exact Iw x
    simp[Uk,jn,aL.enc,XS,mG,hn];omega
  ·obtain⟨i,hi,rfl⟩:=yN he;have hfind:=Fv hi;obtain⟨a,ha⟩:∃a,al.getD i default=a:=⟨_,rfl⟩;rw[ha]at hfind;simp only at bG;simp;refine aa.seq ?_;refine aa.cond rfl (λ_=>?_) (λh=>by cases h);refine aa.skip ?_;simp;refine aa.block ?_;refine aa.ab ay fw [2,3,5,7,8,52] ?_;simp[Uc,bU,hfind,bn.key,keyOf];refine aa.dm ay fw [2,3,5,7,52] ?_;simp[Ud,cH,chunk];have hlen:=xK al.length (l:=i::sn) (by simp[bG,Ke]) (by simp;exact⟨hi,N8⟩);simp at hlen;have XS:jP x=al:=by unfold jP;rw[hn,PZ,ko]
   rw[XS]at kz;have ha':al[i]?.getD default=a:=ha;refine⟨⟨by omega,by omega⟩,sn++[i],Le.aC ?_ ?_ ?_ ?_,⟨?_, ?_⟩, ?_⟩
   ·simp
   ·simp
   ·simp[cj,nQ,isMap,lj,ha',bV]
   ·simp[Q2,AG]
   ·rw[ZbP];exact⟨Ke,by simp,by simp;intro q hq e;subst e;exact bG hq⟩
   ·intro j hj;rw[Zao,Zah]at hj;rcases hj with h|h
    ·exact N8 j h
    ·omega
   ·simp;omega
end Go.Proofs
namespace Go.Proofs
open Go.DM Go.DM.NS
end Go.Proofs
