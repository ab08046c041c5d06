/- Part of the proof. Conditions: none. -/
import Derived.Test.YtljcdomdjgolkaaGreatDoorXae
import Derived.Test.YtljcdomdjgolkaaGreatDoorXad
import Derived.Test.YtljcdomdjgolkaaGreatDoorXac
import Derived.KernelRfl
import Derived.Shelf.SlSortCmp.NoneTotal
import Derived.Test.YtljcdomdjgolkaaGreatDoorProg
set_option linter.unusedSectionVars false
set_option linter.unusedSimpArgs false
set_option linter.unusedVariables false
set_option maxHeartbeats 16000000
set_option maxRecDepth 100000
namespace Go.Proofs
open Go.DM
def nA(c:bC)(t:Nat):Prop:=¬(((t:Int)=c.kind/\c.read.getD t default≠0)\/((t:Int)≠c.kind/\c.read.getD t default≠-1/\(c.read.getD t default<1\/c.read.getD t default>60000)))
def yU(c:bC)(aV:Int):Prop:=(¬(c.kind< -1\/c.kind>=aV\/(c.read.length:Int)≠aV\/c.delete<1\/(c.delete>60000/\c.delete≠1099511627776)))/\∀t,t<aV.toNat->nA c t
instance(c:bC)(t:Nat):Decidable (nA c t):=by unfold nA;infer_instance
instance(c:bC)(aV:Int):Decidable (yU c aV):=by unfold yU;infer_instance
def ng(l:List bC)(aV:Int):Prop:=∀i,i<l.length->yU (l.getD i default) aV
instance(l:List bC)(aV:Int):Decidable (ng l aV):=by unfold ng;infer_instance
def DS(l:List Int)(t:Nat):Prop:=¬(l.getD t default<1\/l.getD t default>60000)
instance(l:List Int)(t:Nat):Decidable (DS l t):=by unfold DS;infer_instance
def C7(x:Input)(aV:Int):Prop:=(¬(aV<0\/(x.aj.length:Int)>60\/(x.insert.length:Int)≠aV\/x.swap<0\/x.swap>60000\/¬ng x.aj aV))/\∀t,t<aV.toNat->DS x.insert t
instance(x:Input)(aV:Int):Decidable (C7 x aV):=by unfold C7;infer_instance
def mq(x:Input)(tokens:Int):Prop:=((x.aj.length:Int)<=tokens/\(x.insert.length:Int)<=5)/\C7 x x.insert.length
instance(x:Input)(tokens:Int):Decidable (mq x tokens):=by unfold mq;infer_instance
theorem t58(c:bC)(aV:Int)(h:aV<=1000000000000):aT Tryz.prog 65 [.agg c.enc,ti aV] (.bool (decide (yU c aV))):=by
 have ay:=okE;obtain⟨v,hv⟩:∃v,decide (yU c aV)=v:=⟨_,rfl⟩;rw[hv];have bad:¬yU c aV->v=false:=λh=>by rw[<-hv];simp[h]
 have cY:yU c aV↔(¬(c.kind< -1\/c.kind>=aV\/(c.read.length:Int)≠aV\/c.delete<1\/(c.delete>60000/\c.delete≠1099511627776)))/\∀t,t<aV.toNat->nA c t:=Iff.rfl;refine c58.ok (by simp) (aJ ?_);simp[bC.enc];refine aa.ab ay fw [1,2] ?_;simp[HC];refine aa.le (Le.aD (o:=[]) (l:=[(1,.v (ti aV)),(2,.v (.box [ti c.kind,.sl (aB c.read),ti c.delete]))]) (nxt':=1200) ?_ ?_ ?_ ?_) ?_;iterate 4(·simp)
 refine aa.seq ?_;obtain⟨b,hb⟩:∃b:Bool,decide (c.kind< -1\/c.kind>=aV\/(c.read.length:Int)≠aV\/c.delete<1\/(c.delete>60000/\c.delete≠1099511627776))=b:=⟨_,rfl⟩;refine aa.bZ ay fw [(1,.v (ti aV)),(2,.v (.box [ti c.kind,.sl (aB c.read),ti c.delete])),(37,.v (.bool b))] ?_ ?_
 ·by_cases q1:c.kind< -1
  ·have mG:b=true:=by rw[<-hb];simp[q1]
   simp[tg,q1,mG]
  ·by_cases q2:aV<=c.kind
   ·have mG:b=true:=by rw[<-hb];simp[q2]
    simp[tg,q1,q2,mG]
   ·by_cases q3:(c.read.length:Int)=aV
    ·by_cases q4:c.delete<1
     ·have mG:b=true:=by rw[<-hb];simp[q4]
      simp[tg,q1,q2,q3,q4,mG]
     ·by_cases q5:60000<c.delete
      ·by_cases q6:c.delete=1099511627776
       ·have mG:b=false:=by rw[<-hb];simp only[decide_eq_false_iff_not];omega
        simp[tg,q1,q2,q3,q4,q5,q6,mG]
       ·have mG:b=true:=by rw[<-hb];simp[q5,q6]
        simp[tg,q1,q2,q3,q4,q5,q6,mG]
      ·have mG:b=false:=by rw[<-hb];simp only[decide_eq_false_iff_not];omega
       simp[tg,q1,q2,q3,q4,q5,mG]
    ·have mG:b=true:=by rw[<-hb];simp[q3]
     simp[tg,q1,q2,q3,mG]
 refine aa.cond rfl (λh=>?_) (λh=>?_)
 ·rw[h]at hb;simp only[decide_eq_true_eq]at hb;refine aa.ab ay fw [4] ?_;simp[MX];refine aa.ret ?_;rw[bad λe=>(cY.1 e).1 hb];simp[rD]
 rw[h]at hb;simp only[decide_eq_false_iff_not]at hb;obtain⟨n,hn⟩:∃n,c.read.length=n:=⟨_,rfl⟩;have hnt:aV=(n:Int):=by omega
 subst hnt;refine aa.skip ?_;simp;refine aa.seq ?_;refine aa.ab ay fw [1,2,5] ?_;simp[C6];refine aa.block ?_;refine aa.loop (λy:Nat=>⟨DM.look [(1,.v (ti n)),(2,.v (.box [ti c.kind,.sl (aB c.read),ti c.delete])),(5,.v (ti y))],cE [],2000,1000,[]⟩)
  (λy=>y<=n/\∀t,t<y->nA c t) (λy=>n-y) 0 (Le.aD (o:=[]) ?_ ?_ ?_ ?_) (by simp) (λy hy=>?_)
 iterate 4(·simp)
 obtain⟨jQ,fg⟩:=hy;refine aa.seq ?_;refine aa.ab ay fw [1,2,5,40] ?_;simp[d58r4];refine aa.cond rfl (λbM=>?_) (λbM=>?_)
 ·simp at bM;have PC:y<c.read.length:=by omega
  have r1:=cP PC;obtain⟨u,hu⟩:∃u,c.read.getD y default=u:=⟨_,rfl⟩;rw[hu]at r1;have jR:nA c y↔¬(((y:Int)=c.kind/\u≠0)\/((y:Int)≠c.kind/\u≠-1/\(u<1\/u>60000))):=by unfold nA;rw[hu]
  obtain⟨kd,hkd⟩:∃k,c.kind=k:=⟨_,rfl⟩;rw[hkd]at jR⊢;refine aa.skip ?_;simp;refine aa.seq ?_;refine aa.block ?_;refine aa.ab ay fw [1,2,5,6] ?_;simp[d58r5,r1,PC];obtain⟨b2,kU⟩:∃b:Bool,decide (((y:Int)=kd/\u≠0)\/((y:Int)≠kd/\u≠-1/\(u<1\/u>60000)))=b:=⟨_,rfl⟩;refine aa.bZ ay fw [(1,.v (ti n)),(2,.v (.box [ti kd,.sl (aB c.read),ti c.delete])),(5,.v (ti y)),(73,.v (.bool b2))] ?_ ?_
  ·by_cases q1:(y:Int)=kd
   ·by_cases q2:u=0
    ·have mG:b2=false:=by rw[<-kU];simp[q1,q2]
     simp[Bo,q1,q2,mG]
    ·have mG:b2=true:=by rw[<-kU];simp[q1,q2]
     simp[Bo,q1,q2,mG]
   ·by_cases q2:u= -1
    ·have mG:b2=false:=by rw[<-kU];simp[q1,q2]
     simp[Bo,q1,q2,mG]
    ·by_cases q3:u<1
     ·have mG:b2=true:=by rw[<-kU];simp[q1,q2,q3]
      simp[Bo,q1,q2,q3,mG]
     ·by_cases q4:60000<u
      ·have mG:b2=true:=by rw[<-kU];simp[q1,q2,q4]
       simp[Bo,q1,q2,q3,q4,mG]
      ·have mG:b2=false:=by rw[<-kU];simp only[decide_eq_false_iff_not];omega
       simp[Bo,q1,q2,q3,q4,mG]
  refine aa.cond rfl (λh=>?_) (λh=>?_)
  ·rw[h]at kU;simp only[decide_eq_true_eq]at kU;refine aa.ab ay fw [4] ?_;simp[d58r7];refine aa.ret ?_;rw[bad λe=>jR.1 ((cY.1 e).2 y (by simpa using bM)) kU];simp[rD]
  ·rw[h]at kU;simp only[decide_eq_false_iff_not]at kU;refine aa.skip ?_;simp;refine aa.dv ay fw [1,2,5] ?_;simp[d58r8];rw[au (by omega)];refine⟨y+1,Le.aD (o:=[]) ?_ ?_ ?_ ?_,⟨by omega,λi hi=>?_⟩,by omega⟩;iterate 4(·simp)
   ·by_cases e:i=y
    ·subst e;exact jR.2 kU
    ·exact fg i (by omega)
 simp at bM;refine aa.exit ?_;simp;refine aa.ab ay fw [4] ?_;simp[d58r9];refine aa.ret ?_;have:v=true:=by
  rw[<-hv,decide_eq_true_eq];exact cY.2 ⟨by omega,λi hi=>fg i (by simp at hi;omega)⟩
 rw[this];simp[rD]
abbrev spec58:DM.Spec:=ct (λts=>∃(c:bC) (t:Int),ts=[.agg c.enc,ti t]/\t<=1000000000000) (fun|[.agg c,.int _ t]=>.bool (decide (yU (Bp c) t))|_=>.bool false) true
theorem ok58:aw Tryz.prog (aW [(65,spec58)]):=by
 refine aw.cons aw.nil ?_;rintro ts ⟨c,t,rfl,h⟩;exact⟨by simpa using t58 c t h,λ_=>rfl⟩
theorem t45(l:List bC)(aV:Int)(h1:l.length<=1000000000000)(h2:aV<=1000000000000):aT Tryz.prog 43 [.sl (aZ l),ti aV] (.bool (decide (ng l aV))):=by
 have ay:=ok58;obtain⟨v,hv⟩:∃v,decide (ng l aV)=v:=⟨_,rfl⟩;rw[hv];have bad:¬ng l aV->v=false:=λh=>by rw[<-hv];simp[h]
 refine c45.ok (by simp) (aJ ?_);simp;refine aa.ab ay fw [0,1] ?_;simp[GL];refine aa.seq ?_;refine aa.ab ay fw [0,1,5] ?_;simp[AO];refine aa.block ?_;refine aa.loop (λj:Nat=>⟨DM.look [(0,.v (.sl (aZ l))),(1,.v (ti aV)),(5,.v (ti j))],cE [],2000,1000,[]⟩)
  (λj=>j<=l.length/\∀i,i<j->yU (l.getD i default) aV) (λj=>l.length-j) 0 (Le.aD (o:=[]) ?_ ?_ ?_ ?_) (by simp) (λj hj=>?_)
 iterate 4(·simp)
 obtain⟨jQ,fg⟩:=hj;refine aa.seq ?_;refine aa.ab ay fw [0,1,5,9] ?_;simp[GM];refine aa.cond rfl (λbM=>?_) (λbM=>?_)
 ·simp at bM;have r1:=dO bM;refine aa.skip ?_;simp;refine aa.seq ?_;refine aa.block ?_;obtain⟨u,hu⟩:∃u,l.getD j default=u:=⟨_,rfl⟩;rw[hu]at r1;refine aa.ab ay fw [0,1,5,18] ?_;obtain⟨a,b,c⟩:=u;simp[GN,bM,r1,bC.enc];rw[show Bp [ti a,T.sl (aB b),ti c]=⟨a,b,c⟩from Bq ⟨a,b,c⟩];refine⟨⟨⟨a,b,c⟩,aV,⟨⟨rfl,rfl,rfl⟩,rfl⟩,h2⟩, ?_⟩;refine aa.cond rfl (λh=>?_) (λh=>?_)
  ·simp at h;refine aa.ab ay fw [4] ?_;simp[GO];refine aa.ret ?_;rw[bad λe=>h (by have:=e j bM;rw[hu]at this;exact this)];simp[tT]
  ·simp at h;refine aa.skip ?_;simp;refine aa.dv ay fw [0,1,5] ?_;simp[d45r5];rw[au (by omega)];refine⟨j+1,Le.aD (o:=[]) ?_ ?_ ?_ ?_,⟨by omega,λi hi=>?_⟩,by omega⟩;iterate 4(·simp)
   ·by_cases e:i=j
    ·subst e;show yU (l.getD i default) aV;rw[hu];exact h
    ·exact fg i (by omega)
 simp at bM;refine aa.exit ?_;simp;refine aa.ab ay fw [4] ?_;simp[d45r6];refine aa.ret ?_;have:v=true:=by
  rw[<-hv,decide_eq_true_eq];exact λi hi=>fg i (by omega)
 rw[this];simp[tT]
abbrev spec45:DM.Spec:=ct (λts=>∃(l:List bC) (t:Int),ts=[.sl (aZ l),ti t]/\l.length<=1000000000000/\t<=1000000000000) (fun|[.sl c,.int _ t]=>.bool (decide (ng (fH c) t))|_=>.bool false) true
theorem ok45:aw Tryz.prog (aW [(43,spec45)]):=by
 refine aw.cons aw.nil ?_;rintro ts ⟨c,t,rfl,h1,h2⟩;exact⟨by simpa using t45 c t h1 h2,λ_=>rfl⟩
theorem t28(x:Input)(aV:Int)(ht:aV<=1000000000000):aT Tryz.prog 21 [x.enc,ti aV] (.bool (decide (C7 x aV))):=by
 have ay:=ok45;obtain⟨v,hv⟩:∃v,decide (C7 x aV)=v:=⟨_,rfl⟩;rw[hv];have bad:¬C7 x aV->v=false:=λh=>by rw[<-hv];simp[h]
 have cY:C7 x aV↔(¬(aV<0\/(x.aj.length:Int)>60\/(x.insert.length:Int)≠aV\/x.swap<0\/x.swap>60000\/¬ng x.aj aV))/\∀t,t<aV.toNat->DS x.insert t:=Iff.rfl;refine c28.ok (by simp) (aJ ?_);simp[Input.enc];refine aa.ab ay fw [1,2] ?_;simp[d28r0];refine aa.le (Le.aD (o:=[]) (l:=[(1,.v (ti aV)),(2,.v (.box [.sl (aZ x.aj),.sl (aB x.insert),ti x.swap]))]) (nxt':=1200) ?_ ?_ ?_ ?_) ?_;iterate 4(·simp)
 refine aa.seq ?_;obtain⟨b,hb⟩:∃b:Bool,decide (aV<0\/(x.aj.length:Int)>60\/(x.insert.length:Int)≠aV\/x.swap<0\/x.swap>60000\/¬ng x.aj aV)=b:=⟨_,rfl⟩;refine aa.bZ ay fw [(1,.v (ti aV)),(2,.v (.box [.sl (aZ x.aj),.sl (aB x.insert),ti x.swap])),(37,.v (.bool b))] ?_ ?_
 ·by_cases q1:aV<0
  ·have mG:b=true:=by rw[<-hb];simp[q1]
   simp[yD,q1,mG]
  ·by_cases q2:60<(x.aj.length:Int)
   ·have mG:b=true:=by rw[<-hb];simp[q2]
    simp[yD,q1,q2,mG]
   ·by_cases q3:(x.insert.length:Int)=aV
    ·by_cases q4:x.swap<0
     ·have mG:b=true:=by rw[<-hb];simp[q4]
      simp[yD,q1,q2,q3,q4,mG]
     ·by_cases q5:60000<x.swap
      ·have mG:b=true:=by rw[<-hb];simp[q5]
       simp[yD,q1,q2,q3,q4,q5,mG]
      ·by_cases q6:ng x.aj aV
       ·have mG:b=false:=by rw[<-hb];simp only[decide_eq_false_iff_not];rintro(h|h|h|h|h|h)<;>first|omega|exact h q6
        simp[yD,q1,q2,q3,q4,q5,q6,mG];exact⟨x.aj,aV,⟨rfl,rfl⟩,by omega,ht⟩
       ·have mG:b=true:=by rw[<-hb];simp[q6]
        simp[yD,q1,q2,q3,q4,q5,q6,mG];exact⟨x.aj,aV,⟨rfl,rfl⟩,by omega,ht⟩
    ·have mG:b=true:=by rw[<-hb];simp[q3]
     simp[yD,q1,q2,q3,mG]
 refine aa.cond rfl (λh=>?_) (λh=>?_)
 ·rw[h]at hb;simp only[decide_eq_true_eq]at hb;refine aa.ab ay fw [4] ?_;simp[d28r2];refine aa.ret ?_;rw[bad λe=>(cY.1 e).1 hb];simp[Fa]
 rw[h]at hb;simp only[decide_eq_false_iff_not]at hb;have Wf:(x.insert.length:Int)=aV:=by
  by_cases e:(x.insert.length:Int)=aV
  ·exact e
  ·exact absurd (.inr (.inr (.inl e))) hb
 obtain⟨n,hn⟩:∃n,x.insert.length=n:=⟨_,rfl⟩;rw[hn]at Wf;subst Wf;refine aa.skip ?_;simp;refine aa.seq ?_;refine aa.ab ay fw [1,2,5] ?_;simp[d28r3];refine aa.block ?_;refine aa.loop (λy:Nat=>⟨DM.look [(1,.v (ti n)),(2,.v (.box [.sl (aZ x.aj),.sl (aB x.insert),ti x.swap])),(5,.v (ti y))],cE [],2000,1000,[]⟩)
  (λy=>y<=n/\∀t,t<y->DS x.insert t) (λy=>n-y) 0 (Le.aD (o:=[]) ?_ ?_ ?_ ?_) (by simp) (λy hy=>?_)
 iterate 4(·simp)
 obtain⟨jQ,fg⟩:=hy;refine aa.seq ?_;refine aa.ab ay fw [1,2,5,40] ?_;simp[d28r4];refine aa.cond rfl (λbM=>?_) (λbM=>?_)
 ·simp at bM;have PC:y<x.insert.length:=by omega
  have r1:=cP PC;obtain⟨u,hu⟩:∃u,x.insert.getD y default=u:=⟨_,rfl⟩;rw[hu]at r1;have jR:DS x.insert y↔¬(u<1\/u>60000):=by unfold DS;rw[hu]
  refine aa.skip ?_;simp;refine aa.seq ?_;refine aa.block ?_;refine aa.bZ ay fw [(1,.v (ti n)),(2,.v (.box [.sl (aZ x.aj),.sl (aB x.insert),ti x.swap])),(5,.v (ti y)),(56,.v (.bool (decide (u<1\/60000<u))))] ?_ ?_
  ·by_cases q1:u<1
   ·simp[Uo,r1,PC,q1]
   ·by_cases q2:60000<u<;>simp[Uo,r1,PC,q1,q2]
  refine aa.cond rfl (λh=>?_) (λh=>?_)
  ·simp only[decide_eq_true_eq]at h;refine aa.ab ay fw [4] ?_;simp[d28r6];refine aa.ret ?_;rw[bad λe=>jR.1 ((cY.1 e).2 y (by simpa using bM)) h];simp[Fa]
  ·simp only[decide_eq_false_iff_not]at h;refine aa.skip ?_;simp;refine aa.dv ay fw [1,2,5] ?_;simp[d28r7];rw[au (by omega)];refine⟨y+1,Le.aD (o:=[]) ?_ ?_ ?_ ?_,⟨by omega,λi hi=>?_⟩,by omega⟩;iterate 4(·simp)
   ·by_cases e:i=y
    ·subst e;exact jR.2 h
    ·exact fg i (by omega)
 simp at bM;refine aa.exit ?_;simp;refine aa.ab ay fw [4] ?_;simp[d28r8];refine aa.ret ?_;have:v=true:=by
  rw[<-hv,decide_eq_true_eq];exact cY.2 ⟨hb,λi hi=>fg i (by simp at hi;omega)⟩
 rw[this];simp[Fa]
theorem uG{a b:Int}(ha:0<=a)(hb:0<=b):0<=jF a b:=by unfold jF;split<;>omega
def Ia(es:List (Nat×T×DV)):Prop:=∀e∈es,∃a:bn,e.2.2=.v (.agg a.enc)
theorem UR{f:aU}{N n:Nat}{l0 l1:List (Nat×Ob)}(bd:dL f N)(h0:∀p∈l0,N<=p.1)(h1:∀p∈l1,N<=p.1)(hn:f n≠none):sameAt (over l0 f) (over l1 f) n:=by
 obtain⟨o,ho⟩:=ZbO.1 hn;have cW:=(bd n o ho).1;refine⟨o,o, ?_, ?_,bu o⟩
 ·rw[ee λo' h=>by have:=h0 _ h;simp only at this;omega];exact ho
 ·rw[ee λo' h=>by have:=h1 _ h;simp only at this;omega];exact ho
theorem US{k:T}{c:Int}{y:DV}{wv:Nat}{es:List (Nat×T×DV)}{e:Nat×T×DV}(h:e∈oN k c y wv es):e.2.2=y\/∃e'∈es,e.2.2=e'.2.2:=by
 unfold oN at h;split at h
 ·rename_i hbt;clear hbt;unfold DX at h;split at h
  ·rename_i i hi;clear hi;induction es generalizing i with
   |nil=>simp at h
   |cons e0 es ih=>
    cases i with
    |zero=>
     simp only[Zb3,Zag]at h;rcases h with rfl|h
     ·exact .inl rfl
     ·exact .inr ⟨e,by simp[h],rfl⟩
    |succ i=>
     simp only[ZbN,Zag]at h;rcases h with rfl|h
     ·exact .inr ⟨e,by simp,rfl⟩
     ·rcases ih i h with h|⟨e',h1,h2⟩
      ·exact .inl h
      ·exact .inr ⟨e',by simp[h1],h2⟩
  ·rcases Zao.1 h with h|h
   ·exact .inr ⟨e,h,rfl⟩
   ·simp only[Zah]at h;subst h;exact .inl rfl
 ·exact .inr ⟨e,h,rfl⟩
def XE:List DV->aU->iu
 |[.ptr b 0,.agg [.v (.int .i64 f),.v (.int .i64 t),.v (.int .i64 x),.v (.int .i64 c),d]],objs=>
  match objs b with
  |some (.box [_,_,_,.iq m])=>match objs m with
   |some (.map shs agg wv es)=>⟨shs=kp/\agg=true/\Ia es/\jd d/\∀n∈names d,objs n≠none,.v (.eD []),
     cZ objs m (.map kp true (uf (keyOf f t x) c wv es) (oN (keyOf f t x) c (.agg [.v (ti f),.v (ti t),.v (ti x),.v (ti c),d]) wv es))⟩
   |_=>⟨False,.undef,objs⟩
  |_=>⟨False,.undef,objs⟩
 |_,objs=>⟨False,.undef,objs⟩
theorem t48{f0:aU}{b m wv:Nat}{c1 c2 c3:DV}{es:List (Nat×T×DV)}{f t x c:Int}{d:DV}{N:Nat}(hN:∀r,N<=r->f0 r=none)(hb:f0 b=some (.box [c1,c2,c3,.iq m]))(hm:f0 m=some (.map kp true wv es))(he:Ia es)(hd:jd d)(El:∀n∈names d,f0 n≠none):
  aY Tryz.prog 73 [.ptr b 0,.agg [.v (ti f),.v (ti t),.v (ti x),.v (ti c),d]] f0 ⟨True,.v (.eD []),cZ f0 m (.map kp true (uf (keyOf f t x) c wv es) (oN (keyOf f t x) c (.agg [.v (ti f),.v (ti t),.v (ti x),.v (ti c),d]) wv es))⟩:=by
 have ay:=dY;refine c48.uy hN (by simp) λbd=>?_;have Wr:b<N:=(bd b _ hb).1;have Fg:m<N:=(bd m _ hm).1;have xx:b≠m:=λe=>by rw[e,hm]at hb;cases hb
 have nb:∀k,b≠N+k:=λk=>by omega
 have nm:∀k,m≠N+k:=λk=>by omega
 simp;refine aa.ab ay fw [0,3] ?_;simp[d48r0];refine aa.ab ay fw [0,3,4] ?_;simp[d48r1];obtain⟨k,hk⟩:∃k,keyOf f t x=k:=⟨_,rfl⟩;have qT:T.agg [ti f,ti t,ti x]=k:=hk;rw[hk];refine aa.le (Le.fl (l1:=[(N+49,.box [.v (ti f),.v (ti t),.v (ti x)]),(N+4,.box [.v (ti f),.v (ti t),.v (ti x),.v (ti c),d])]) (l:=[(0,.ptr b 0),(3,.ptr (N+4) 0),(4,.ptr (N+49) 0)]) (nxt':=N+100) bd ?_ ?_ ?_ ?_ ?_) ?_
 ·omega
 ·simp
 ·simp[bY]
 ·refine⟨⟨.box [.v (ti f),.v (ti t),.v (ti x)],by simp[Nat.add_assoc],.inl (by simp),by omega⟩,⟨.box [.v (ti f),.v (ti t),.v (ti x),.v (ti c),d],by simp[Nat.add_assoc],.inr ⟨rfl,λn hn=>?_⟩,by omega⟩,trivial⟩;refine UR bd ?_ ?_ (El n (by simpa [bF,bJ,names]using hn))
  ·simp;omega
  ·simp
 ·simp[hb,nb,Nat.add_assoc]
 have hko:dg kp true k:=by rw[<-hk];simp[keyOf]
 have H:∀(q1 q2 q3 q5:DV) (oc:Int) (fnd:Bool),fnd=(oq k es).isSome->(∀e,oq k es=some e->oc=Fe e.2.2)->
   aa Tryz.prog 43 ((DC.region false Ua).seq (DC.cond (bp.tmp 36) (DC.region true Ub) DC.skip))
    (W9 KZ ⟨True,.v (.eD []),cZ f0 m (.map kp true (uf k c wv es) (oN k c (.agg [.v (ti f),.v (ti t),.v (ti x),.v (ti c),d]) wv es))⟩)
    ⟨DM.look [(0,.ptr b 0),(3,.ptr (N+4) 0),(4,.ptr (N+49) 0),(5,.ptr (N+106) 0),(6,.v (.bool fnd))],
     over [(N+106,.box [q1,q2,q3,.v (ti oc),q5]),(N+106,.box [.v (ti 0),.v (ti 0),.v (ti 0),.v (ti 0),.aI]),(N+49,.box [.v (ti f),.v (ti t),.v (ti x)]),(N+4,.box [.v (ti f),.v (ti t),.v (ti x),.v (ti c),d])] f0,N+144,N,[]⟩:=by
  intro q1 q2 q3 q5 oc fnd XF hoc;have hbet:better k c es=(decide (c<1099511627776)&&(!fnd||decide (c<oc))):=by
   unfold better;cases hf:oq k es with
   |none=>simp[hf]at XF;simp[XF]
   |some e=>simp[hf]at XF;simp[XF,hoc e hf]
  obtain⟨y,hy⟩:∃y,DV.agg [.v (ti f),.v (ti t),.v (ti x),.v (ti c),d]=y:=⟨_,rfl⟩;have hyn:∀n∈names y,f0 n≠none:=by
   intro n hn;refine El n ?_;rw[<-hy]at hn;simpa [names,bJ]using hn
  have oT:∀e∈es,names e.2.2=[]:=λe Ws=>by obtain⟨a,ha⟩:=he e Ws;rw[ha];rfl
  rw[hy];refine aa.to ⟨DM.look [],over [(m,.map kp true (uf k c wv es) (oN k c y wv es))] f0,N+1000,N,[]⟩ ?_ (by simp[KZ];rfl);refine aa.bZ ay fw [(0,.ptr b 0),(3,.ptr (N+4) 0),(4,.ptr (N+49) 0),(36,.v (.bool (better k c es)))] ?_ ?_
  ·by_cases s1:c<1099511627776<;>cases fnd<;>by_cases s2:c<oc<;>simp[Ua,s1,s2,hbet]
  refine aa.cond rfl (λh=>?_) (λh=>?_)
  ·refine aa.dv ay fw [] ?_;simp[-dg,Ub,Nat.add_assoc,nb,nm,hb,hm,qT,hko];refine Le.fl (l:=[]) bd ?_ ?_ ?_ ?_ ?_
   ·omega
   ·simp;omega
   ·simp[bY];omega
   ·refine⟨⟨.map kp true (uf k c wv es) (oN k c y wv es),by simp[uf,oN,h,hy],.inr ⟨rfl,λn hn=>?_⟩,λ_=>bu _⟩,trivial⟩
    ·simp only[bF,ZaU]at hn;obtain⟨e,Ws,hn⟩:=hn;rcases US Ws with h'|⟨e',h',h''⟩
     ·rw[h']at hn;obtain⟨o,ho⟩:=ZbO.1 (hyn n hn);have cW:=(bd n o ho).1;by_cases hnm:n=m
      ·subst hnm;exact⟨.map kp true (uf k c wv es) (oN k c y wv es),.map kp true (uf k c wv es) (oN k c y wv es),by simp[uf,oN,h,hy],by simp,bu _⟩
      ·refine⟨o,o, ?_, ?_,bu o⟩
       ·simp[hnm,show n≠N+106 by omega,show n≠N+49 by omega,show n≠N+4 by omega,ho]
       ·simp[hnm,ho]
     ·rw[h'',oT e' h']at hn;cases hn
   ·simp
  ·refine aa.skip ⟨rfl,Le.fl (l:=[]) bd ?_ ?_ ?_ ?_ ?_⟩
   ·omega
   ·simp;omega
   ·simp[bY];omega
   ·refine⟨⟨.map kp true wv es,by simp[nm,hm],.inr ⟨by simp[uf,oN,h],λn hn=>?_⟩,λ_=>by simp[gR]⟩,trivial⟩
    ·simp only[bF,ZaU]at hn;obtain⟨e,Ws,hn⟩:=hn;rw[oT e Ws]at hn;cases hn
   ·simp
 refine aa.ab ay fw [0,3,4,5,6] ?_;cases hf:oq k es with
 |none=>
  simp[-dg,T9,Nat.add_assoc,nb,nm,hb,hm,qT,hko,hf];exact H _ _ _ _ 0 false (by simp[hf]) (by simp[hf])
 |some e=>
  obtain⟨a,ha⟩:=he e (ZbQ hf);simp[-dg,T9,Nat.add_assoc,nb,nm,hb,hm,qT,hko,hf,ha,bn.enc];exact H _ _ _ _ a.cost true (by simp[hf]) (by intro e' Ws;rw[hf]at Ws;cases Ws;simp[ha,bn.enc,Fe])
def Ib(ts:List T):Prop:=∃l:List (Int×Int),ts=[.sl (cR l)]/\l.length<=1000000
def UT:List T->List (List T)
 |[.sl rows]=>rows
 |_=>[]
abbrev Γ4:Env:=aW [(73,eX XE),(74,u0 Ib UT 75 2)]
theorem ok4:aw Tryz.prog Γ4:=by
 refine aw.gQ (aw.QH aw.nil ?_) ?_
 ·rintro ts ⟨l,rfl,h⟩;exact t49 l h
 ·intro args objs h;unfold XE at h⊢;split at h
  ·rename_i b f t x c d aA;split at h
   ·rename_i c1 c2 c3 m hb;split at h
    ·rename_i shs agg wv es hm;obtain⟨rfl,rfl,he,hd,El⟩:=h;refine⟨λN hN=>?_,λr hr=>?_⟩
     ·exact aY.of (t48 hN hb hm he hd El) (by simp[]) (by simp[])
     ·simp only[];exact si hm hr
    ·exact h.elim
   ·exact h.elim
  ·exact h.elim
theorem K3{a b:aU}{k:T}{c:Int}{y y':DV}{wv:Nat}{es:List (Nat×T×DV)}(hy:jg a b id y y')(he:Ia es):iL a b id (oN k c y wv es) (oN k c y' wv es):=by
 have self:∀{l:List (Nat×T×DV)},Ia l->iL a b id l l:=λ{l} hl=>mO λe h=>by obtain⟨x,hx⟩:=hl e h;rw[hx];simp
 unfold oN;split
 ·rename_i hbt;clear hbt;unfold DX;split
  ·rename_i i hi;clear hi;induction es generalizing i with
   |nil=>simp[iL]
   |cons e es ih=>
    cases i with
    |zero=>simp only[Zb3,iL];exact⟨trivial,trivial,hy,self λe' h=>he e' (by simp[h])⟩
    |succ i=>
     simp only[ZbN,iL];obtain⟨x,hx⟩:=he e (by simp);exact⟨trivial,trivial,by rw[hx];simp,ih (λe' h=>he e' (by simp[h])) i⟩
  ·rename_i hn;clear hn;induction es with
   |nil=>simp only[ZaK,iL];exact⟨trivial,trivial,hy,trivial⟩
   |cons e es ih=>
    simp only[ZaH,iL];obtain⟨x,hx⟩:=he e (by simp);exact⟨trivial,trivial,by rw[hx];simp,ih λe' h=>he e' (by simp[h])⟩
 ·exact self he
theorem ez(al:List bn):Ia (entries al):=OT al
theorem Dk{a b:aU}{al:List bn}{c:bn}{d:DV}(hd:jg a b id d (.v (.sl (cR c.ops)))):
  ij a b (.map kp true (uf c.key c.cost al.length (entries al)) (oN c.key c.cost (.agg [.v (ti c.f),.v (ti c.t),.v (ti c.term),.v (ti c.cost),d]) al.length (entries al))) (bU (tt al c)):=by
 obtain⟨h1,h2⟩:=Ff c al;refine .inl ?_;unfold bU;rw[<-h1,<-h2];simp only[lQ];refine⟨trivial,trivial,trivial,K3 ?_ (ez al)⟩;simp[bn.enc,hd]
theorem xy(l:List (Int×Int))(a b:Int):cR l++[[ti a,ti b]]=cR (l++[(a,b)]):=by simp[cR]
theorem K4{f0:aU}{N m r r2 nxt nxt' v:Nat}{tm:Nat->DV}{l:List (Nat×DV)}{o2:Ob}{al:List bn}(c:bn){rows:List (List T)}(bd:dL f0 N)(hm:m<N)(hr:N<=r)(pT:N<=r2)(hn:N<=nxt')(cS:rows=cR c.ops)
  (iX:gj (over [(m,.map kp true (uf c.key c.cost al.length (entries al)) (oN c.key c.cost (.agg [.v (ti c.f),.v (ti c.t),.v (ti c.term),.v (ti c.cost),.bk r v]) al.length (entries al))),(r,.arr v 75 2 rows),(r2,o2),(m,.map kp true al.length (entries al))] f0) (over [(m,bU (tt al c))] f0) id tm l):
  Le ⟨tm,cZ (over [(r,.arr v 75 2 rows),(r2,o2),(m,.map kp true al.length (entries al))] f0) m (.map kp true (uf c.key c.cost al.length (entries al)) (oN c.key c.cost (.agg [.v (ti c.f),.v (ti c.t),.v (ti c.term),.v (ti c.cost),.bk r v]) al.length (entries al))),nxt,N,[]⟩
   ⟨DM.look l,over [(m,bU (tt al c))] f0,nxt',N,[]⟩:=by
 subst cS;rw[kI];refine Le.fl bd hn ?_ ?_ ?_ iX
 ·simp;omega
 ·simp[bY];omega
 ·refine⟨⟨_,by simp,Dk (d:=.bk r v) ?_,λ_=>by simp[gR,bU]⟩,trivial⟩;simp[show r≠m by omega];exact cT bd hr (by simp;omega)
theorem OV(al:List bn):bF (bU al)=[]:=by
 simp only[bU,bF,List.flatMap_eq_nil_iff];intro e he;obtain⟨a,ha⟩:=ez al e he;rw[ha];rfl
theorem oO{a b:aU}(al:List bn):ij a b (bU al) (bU al):=.inr ⟨rfl,λn hn=>by rw[OV]at hn;cases hn⟩
def bS(al:List bn)(cs:List bn):List bn:=cs.foldl tt al
theorem fC(al cs ds:List bn):bS al (cs++ds)=bS (bS al cs) ds:=by simp[bS]
def kh(read:List Int)(i m cost:Int)(ops:List (Int×Int))(n:Nat):List bn:=
 (List.range n).flatMap λt=>if 0<=read.getD t 0 then [⟨2*i,2*m+2,t,cost+read.getD t 0,ops++[(1,(t:Int))]⟩]else []
theorem K5(read:List Int)(i m cost:Int)(ops:List (Int×Int))(n:Nat):kh read i m cost ops (n+1)=kh read i m cost ops n++(if 0<=read.getD n 0 then [⟨2*i,2*m+2,n,cost+read.getD n 0,ops++[(1,(n:Int))]⟩]else []):=by
 simp[kh,ZaD]
def Nd(c:bC):Prop:=c.read.length<=1000000/\∀p∈c.read,p<=1099511627776
theorem t47{f0:aU}{b m:Nat}{x:Input}{al:List bn}{i j:Nat}{cost:Int}{ops:List (Int×Int)}{N:Nat}(hN:∀r,N<=r->f0 r=none)(hb:f0 b=some (.box (ch x m)))(hm:f0 m=some (bU al))
  (hi:i<=1000000) (hj:j<x.aj.length) (hl:x.aj.length<=1000000) (hc:Nd (x.aj.getD j default)) (qA:0<=cost/\cost<=1099511627776) (hops:ops.length<=1000000):
  aY Tryz.prog 72 [.ptr b 0,.v (ti i),.v (ti j),.v (ti cost),.v (.sl (cR ops))] f0 ⟨True,.v (.eD []),cZ f0 m (bU (bS al (kh (x.aj.getD j default).read i j cost ops (x.aj.getD j default).read.length)))⟩:=by
 have ay:=ok4;refine c47.uy hN (by simp) λbd=>?_;have Wr:b<N:=(bd b _ hb).1;have Fg:m<N:=(bd m _ hm).1;have xx:b≠m:=λe=>by rw[e,hm]at hb;cases hb
 have nb:∀k,b≠N+k:=λk=>by omega
 have nm:∀k,m≠N+k:=λk=>by omega
 have lV:=dO hj;obtain⟨col,hcol⟩:∃c,x.aj.getD j default=c:=⟨_,rfl⟩;rw[hcol]at lV hc⊢;obtain⟨kd,read,del⟩:=col;simp only at hc⊢;obtain⟨bb,dR⟩:=hc;simp only at bb dR;have cS:∀r∈cR ops,r.length=2:=by intro r hr;simp only[cR,Zal]at hr;obtain⟨c,_,rfl⟩:=hr;rfl
 simp;refine aa.ab ay fw [0,1,2,3,4,20,21,22] ?_;simp[d47r0,hb,ch,hj,lV,bC.enc];refine aa.to ⟨DM.look [],over [(m,bU (bS al (kh read i j cost ops read.length)))] f0,N+1000,N,[]⟩ ?_ (by simp[T8];rfl);refine aa.block ?_;refine aa.loop (λy:Nat=>⟨DM.look [(0,.ptr b 0),(1,.v (ti i)),(2,.v (ti j)),(3,.v (ti cost)),(4,.v (.sl (cR ops))),(20,.v (.sl (aB read))),(21,.v (ti read.length)),(22,.v (ti y))],over [(m,bU (bS al (kh read i j cost ops y)))] f0,N+200,N,[]⟩)
  (λy=>y<=read.length) (λy=>read.length-y) 0 (Le.fl bd ?_ ?_ ?_ ?_ ?_) (by simp) (λy hy=>?_)
 ·omega
 ·simp;omega
 ·simp[bY]
 ·exact⟨⟨bU al,by simp[hm],by simpa [kh,bS]using oO al,λ_=>trivial⟩,trivial⟩
 ·simp[hb,xx]
 refine aa.ab ay fw [0,1,2,3,4,20,21,22,23] ?_;simp[d47r1];refine aa.seq ?_;refine aa.cond rfl (λbM=>?_) (λbM=>?_)
 ·simp at bM;refine aa.skip ?_;simp;refine aa.seq ?_;refine aa.block ?_;have pT:=cP bM;obtain⟨p,hp⟩:∃p,read.getD y default=p:=⟨_,rfl⟩;have hp0:read.getD y 0=p:=hp;have hpm:p<=1099511627776:=dR p (by rw[<-hp];simp[List.getD,bM]);rw[hp]at pT;refine aa.ab ay fw [0,1,2,3,4,10,11,20,21,22] ?_;simp[d47r2,pT,bM];refine aa.ab ay fw [0,1,2,3,4,10,11,20,21,22,28] ?_;simp[d47r3];have kq:=K5 read i j cost ops y;rw[hp0]at kq;obtain⟨Wt,OW⟩:∃l,bS al (kh read i j cost ops y)=l:=⟨_,rfl⟩;rw[OW];refine aa.to ⟨DM.look [(0,.ptr b 0),(1,.v (ti i)),(2,.v (ti j)),(3,.v (ti cost)),(4,.v (.sl (cR ops))),(20,.v (.sl (aB read))),(21,.v (ti read.length)),(22,.v (ti y))],over [(m,bU (bS al (kh read i j cost ops (y+1))))] f0,N+1000,N,[]⟩ ?_ ?_
  ·refine aa.cond rfl (λhd=>?_) (λhd=>?_)
   ·simp at hd;refine aa.tL ay fw (rs:=KY) (.inr ⟨_,rfl⟩) (by kernel_rfl) [0,1,2,3,4,20,21,22] ?_;have w1:IntKind.i64.wrap (2*(i:Int))=2*i:=au (by omega);have w2:IntKind.i64.wrap (2*(j:Int))=2*j:=au (by omega);have w3:IntKind.i64.wrap (2*(j:Int)+2)=2*j+2:=au (by omega);have w4:IntKind.i64.wrap (cost+p)=cost+p:=au (by omega);simp[KY,w1,w2,w3,w4,UT,Ib,chunk,cG,XE,hb,ch,xx,bU,ez,Nat.add_assoc,nb,nm];refine⟨⟨ops,rfl,hops⟩,by omega,λn hn=>?_, ?_⟩
    ·simp only[names,Zah]at hn;subst hn;simp
    ·have e:bS al (kh read i j cost ops (y+1))=tt Wt ⟨2*i,2*j+2,y,cost+p,ops++[(1,(y:Int))]⟩:=by
      rw[kq,if_pos hd,fC,OW];rfl
     rw[e];refine K4 ⟨2*i,2*j+2,y,cost+p,ops++[(1,(y:Int))]⟩ bd Fg ?_ ?_ ?_ (xy _ _ _) ?_
     ·omega
     ·omega
     ·omega
     ·simp[hb,xx]
   ·simp at hd;have e:bS al (kh read i j cost ops (y+1))=Wt:=by
     rw[kq,if_neg (by omega),ZaJ,OW]
    rw[e];refine aa.skip ⟨rfl,Le.fl bd ?_ ?_ ?_ ?_ ?_⟩
    ·omega
    ·simp;omega
    ·simp[bY]
    ·exact⟨⟨bU Wt,by simp[bU],oO _,λ_=>bu _⟩,trivial⟩
    ·simp[hb,xx]
  ·refine aa.dv ay fw [0,1,2,3,4,20,21,22] ?_;simp[d47r5];rw[au (by omega)];refine⟨y+1,Le.fl bd ?_ ?_ ?_ ?_ ?_,by omega,by omega⟩
   ·omega
   ·simp;omega
   ·simp[bY]
   ·exact⟨⟨_,by simp,oO _,λ_=>bu _⟩,trivial⟩
   ·simp[hb,xx]
 ·simp at bM;have:y=read.length:=by omega
  subst this;refine aa.exit ?_;refine⟨rfl, ?_⟩;refine Le.fl (l:=[]) bd ?_ ?_ ?_ ?_ ?_
  ·omega
  ·simp;omega
  ·simp[bY]
  ·exact⟨⟨_,by simp,oO _,λ_=>bu _⟩,trivial⟩
  ·simp
def eO(objs:aU)(b:Nat):Input×Nat:=
 match objs b with
 |some (.box [.v (.sl c),.v (.sl i),.v (.int .i64 s),.iq m])=>(⟨fH c,fo i,s⟩,m)
 |_=>(⟨[],[],0⟩,0)
theorem zn{objs:aU}{b m:Nat}{x:Input}(h:objs b=some (.box (ch x m))):eO objs b=(x,m):=by
 simp[eO,h,ch]
def xz(objs:aU)(m:Nat):List bn:=
 match objs m with
 |some (.map _ _ _ es)=>es.map λe=>match e.2.2 with|.v (.agg r)=>lK r|_=>default
 |_=>[]
theorem Dl{objs:aU}{m:Nat}{al:List bn}(h:objs m=some (bU al)):xz objs m=al:=by
 simp only[xz,h,bU,entries,ZcK];rw[show(List.map ((λe=>match e.2.2 with|DV.v (T.agg r)=>lK r|_=>default)∘λp=>(p.2,p.1.key,DV.v (T.agg p.1.enc))) al.zipIdx)=al.zipIdx.map Prod.fst from Zbq λp _=>by simp];simp
def XG:List DV->aU->iu
 |[.ptr b 0,.v (.int .i64 i),.v (.int .i64 j)],objs=>⟨objs b=some (.box (ch (eO objs b).1 (eO objs b).2))/\0<=i/\i<=j/\j<=(eO objs b).1.aj.length/\nf (eO objs b).1.aj,
   .v (.eD [ti (dX (((eO objs b).1.aj.take j.toNat).drop i.toNat) 0),.sl (cR (dc (j.toNat-i.toNat)))]),objs⟩
 |_,objs=>⟨False,.undef,objs⟩
theorem xA{objs:aU}{b m:Nat}{x:Input}{i j:Nat}(h:objs b=some (.box (ch x m))):
  XG [.ptr b 0,.v (ti i),.v (ti j)] objs=⟨i<=j/\j<=x.aj.length/\nf x.aj,.v (.eD [ti (dX ((x.aj.take j).drop i) 0),.sl (cR (dc (j-i)))]),objs⟩:=by
 simp only[XG,zn h,h,Zak,true_and,Int.ofNat_le,Zcf];try omega
def k50:List DV->aU->iu
 |[.ptr b 0,.v (.int .i64 i)],objs=>⟨objs b=some (.box (ch (eO objs b).1 (eO objs b).2))/\0<=i/\i<=1000000/\(eO objs b).1.aj.length<=1000000,.v (.bool (bX (eO objs b).1 i.toNat)),objs⟩
 |_,objs=>⟨False,.undef,objs⟩
theorem UU{objs:aU}{b m:Nat}{x:Input}{i:Nat}(h:objs b=some (.box (ch x m))):
  k50 [.ptr b 0,.v (ti i)] objs=⟨i<=1000000/\x.aj.length<=1000000,.v (.bool (bX x i)),objs⟩:=by
 simp only[k50,zn h,h,Zak,iu.mk.injEq,and_self,and_true,true_and,eq_iff_iff,Zcf];try omega
def k47:List DV->aU->iu
 |[.ptr b 0,.v (.int .i64 i),.v (.int .i64 j),.v (.int .i64 cost),.v (.sl ops)],objs=>
  ⟨objs b=some (.box (ch (eO objs b).1 (eO objs b).2))/\objs (eO objs b).2=some (bU (xz objs (eO objs b).2))/\ops=cR (xp ops)/\0<=i/\i<=1000000/\0<=j/\j<(eO objs b).1.aj.length/\(eO objs b).1.aj.length<=1000000/\Nd ((eO objs b).1.aj.getD j.toNat default)/\0<=cost/\cost<=1099511627776/\(xp ops).length<=1000000,.v (.eD []),
   cZ objs (eO objs b).2 (bU (bS (xz objs (eO objs b).2) (kh ((eO objs b).1.aj.getD j.toNat default).read i.toNat j.toNat cost (xp ops) ((eO objs b).1.aj.getD j.toNat default).read.length)))⟩
 |_,objs=>⟨False,.undef,objs⟩
theorem k47_eq{objs:aU}{b m:Nat}{x:Input}{al:List bn}{i j:Nat}{cost:Int}{ops:List (Int×Int)}(h:objs b=some (.box (ch x m)))(hm:objs m=some (bU al)):
  k47 [.ptr b 0,.v (ti i),.v (ti j),.v (ti cost),.v (.sl (cR ops))] objs=⟨i<=1000000/\j<x.aj.length/\x.aj.length<=1000000/\Nd (x.aj.getD j default)/\0<=cost/\cost<=1099511627776/\ops.length<=1000000,.v (.eD []),
   cZ objs m (bU (bS al (kh (x.aj.getD j default).read i j cost ops (x.aj.getD j default).read.length)))⟩:=by
 simp only[k47,zn h,h,Dl hm,hm,Zak,K0,true_and,Int.ofNat_lt,Zcf,show((i:Int)<=1000000)=(i<=1000000)from propext ⟨λh=>by omega,λh=>by omega⟩]
abbrev Γ5:Env:=aW [(73,eX XE),(72,eX k47),(50,eX XG),(75,eX k50),(74,u0 Ib UT 75 2)]
theorem ok5:aw Tryz.prog Γ5:=by
 refine aw.gQ (aw.gQ (aw.gQ (aw.gQ (aw.QH aw.nil ?_) ?_) ?_) ?_) ?_
 ·rintro ts ⟨l,rfl,h⟩;exact t49 l h
 ·intro args objs h;unfold k50 at h⊢;split at h
  ·rename_i aA b i;obtain⟨hb,h1,h2,h3⟩:=h;obtain⟨i,rfl⟩:=Zad h1;refine⟨λN hN=>?_,λr hr=>hr⟩;exact aY.of (t50 hN hb (by omega) h3) (by simp) (by simp)
  ·exact h.elim
 ·intro args objs h;unfold XG at h⊢;split at h
  ·rename_i aA b i j;obtain⟨hb,h1,h2,h3,h4⟩:=h;obtain⟨i,rfl⟩:=Zad h1;obtain⟨j,rfl⟩:=Zad (show 0<=j by omega);refine⟨λN hN=>?_,λr hr=>hr⟩;exact aY.of (t31 hN hb (by omega) (by omega) h4) (by simp) (by simp)
  ·exact h.elim
 ·intro args objs h;unfold k47 at h⊢;split at h
  ·rename_i aA b i j cost ops;obtain⟨hb,hm,ho,h1,h2,h3,h4,h5,h6,h7,h8,h9⟩:=h;obtain⟨i,rfl⟩:=Zad h1;obtain⟨j,rfl⟩:=Zad h3;refine⟨λN hN=>?_,λr hr=>si hm hr⟩;rw[ho];exact aY.of (t47 hN hb hm (by omega) (by omega) h5 h6 ⟨h7,h8⟩ h9) (by simp) (by simp)
  ·exact h.elim
 ·intro args objs h;exact(ok4 73 (eX XE) rfl).st XE rfl args objs h
def fU(x:Input)(i m:Nat):Int:=dX ((x.aj.take m).drop i) 0
def qy(ins:List Int)(i m cost:Int)(ops:List (Int×Int))(n:Nat):List bn:=
 (List.range n).map λ(t:Nat)=>⟨2*i,2*m,(t:Int),cost+ins.getD t 0,ops++[(3,(t:Int))]⟩
theorem OX(ins:List Int)(i m cost:Int)(ops:List (Int×Int))(n:Nat):qy ins i m cost ops (n+1)=qy ins i m cost ops n++[⟨2*i,2*m,n,cost+ins.getD n 0,ops++[(3,(n:Int))]⟩]:=by
 simp[qy,ZaD]
def xT(x:Input)(i m:Nat):List bn:=kh (x.aj.getD m default).read i m (fU x i m) (dc (m-i)) (x.aj.getD m default).read.length
def pQ(x:Input)(i m:Nat):List bn:=
 (if i<m then xT x i (m-1)else [])++(qy x.insert i m (fU x i m) (dc (m-i)) x.insert.length++
  (if bX x m then [⟨2*i,2*m+1,(x.aj.getD (m+1) default).kind,fU x i m+x.swap,dc (m-i)++[(4,0)]⟩]else []))
def vP(x:Input)(i m:Nat):List bn:=(List.range (m-i)).flatMap λe=>pQ x i (i+e)
def qz(x:Input)(i:Nat):List bn:=vP x i (x.aj.length+1)++(if bX x i then [⟨2*i+1,2*i+4,(x.aj.getD i default).kind,0,[]⟩]else [])
theorem K6(x:Input){i m:Nat}(h:i<=m):vP x i (m+1)=vP x i m++pQ x i m:=by
 unfold vP;rw[show m+1-i=(m-i)+1 by omega,ZaD,Zct];simp[show i+(m-i)=m by omega]
def HP(x:Input):Prop:=nf x.aj/\(∀c∈x.aj,Nd c)/\x.insert.length<=1000000/\(∀p∈x.insert,0<=p/\p<=1099511627776)/\0<=x.swap/\x.swap<=1099511627776
theorem eC{x:Input}(h:nf x.aj)(i m:Nat):0<=fU x i m/\fU x i m<=1099511627776:=
 nS (λc hc=>(h.2 c (Zav (Zbv hc))).1) 0 (by omega)
theorem pI{f0:aU}{N m nxt nxt':Nat}{tm:Nat->DV}{l:List (Nat×DV)}{L:List (Nat×Ob)}{al:List bn}(bd:dL f0 N)(hm:m<N)(hn:N<=nxt')(hL:∀p∈L,p.1=m\/N<=p.1)(ho:over L f0 m=some (bU al))
  (iX:gj (over L f0) (over [(m,bU al)] f0) id tm l):
  Le ⟨tm,over L f0,nxt,N,[]⟩ ⟨DM.look l,over [(m,bU al)] f0,nxt',N,[]⟩:=by
 refine Le.fl bd hn ?_ ?_ ?_ iX
 ·simp;omega
 ·induction L with
  |nil=>trivial
  |cons p L ih=>
   have:∀(L:List (Nat×Ob)),(∀p∈L,p.1=m\/N<=p.1)->bY N [(m,bU al)] L:=by
    intro L;induction L with
    |nil=>intro _;trivial
    |cons q L ih=>
     intro h;refine⟨λhq=>?_,ih λp hp=>h p (by simp[hp])⟩;rcases h q (by simp)with h|h
     ·exact⟨bU al,by simp[h]⟩
     ·omega
   exact this _ hL
 ·exact⟨⟨bU al,ho,oO al,λ_=>bu _⟩,trivial⟩
theorem t30{f0:aU}{b m:Nat}{x:Input}{al:List bn}{i:Nat}{N:Nat}(hN:∀r,N<=r->f0 r=none)(hb:f0 b=some (.box (ch x m)))(hm:f0 m=some (bU al))
  (hi:i<=x.aj.length) (hx:HP x):
  aY Tryz.prog 49 [.ptr b 0,.v (ti i)] f0 ⟨True,.v (.eD []),cZ f0 m (bU (bS al (qz x i)))⟩:=by
 have ay:=ok5;refine c30.uy hN (by simp) λbd=>?_;have Wr:b<N:=(bd b _ hb).1;have Fg:m<N:=(bd m _ hm).1;have xx:b≠m:=λe=>by rw[e,hm]at hb;cases hb
 have nb:∀k,b≠N+k:=λk=>by omega
 have nm:∀k,m≠N+k:=λk=>by omega
 obtain⟨hd,mA,hins,UW,hsw0,zF⟩:=hx;have hl:=hd.1;simp;refine aa.ab ay fw [0,1,4] ?_;simp[d30r0,hb,ch];refine aa.seq ?_;refine aa.ab ay fw [0,1,4,5] ?_;simp[d30r1];refine aa.to ⟨DM.look [(0,.ptr b 0),(1,.v (ti i))],over [(m,bU (bS al (vP x i (x.aj.length+1))))] f0,N+1000,N,[]⟩ ?_ ?_
 ·refine aa.block ?_;refine aa.loop (λy:Nat=>⟨DM.look [(0,.ptr b 0),(1,.v (ti i)),(4,.v (ti x.aj.length)),(5,.v (ti y))],over [(m,bU (bS al (vP x i y)))] f0,N+1000,N,[]⟩)
   (λy=>i<=y/\y<=x.aj.length+1) (λy=>x.aj.length+1-y) i (Le.fl bd ?_ ?_ ?_ ?_ ?_) (by omega) (λy hy=>?_)
  ·omega
  ·simp;omega
  ·simp[bY]
  ·exact⟨⟨bU al,by simp[hm],by simpa [vP,bS]using oO al,λ_=>trivial⟩,trivial⟩
  ·simp[hb,xx]
  obtain⟨jQ,fg⟩:=hy;refine aa.seq ?_;refine aa.ab ay fw [0,1,4,5,21] ?_;simp[d30r2];refine aa.cond rfl (λbM=>?_) (λbM=>?_)
  ·simp at bM;refine aa.skip ?_;simp;obtain⟨cost,qA⟩:∃c,fU x i y=c:=⟨_,rfl⟩;have uw:0<=cost/\cost<=1099511627776:=by rw[<-qA];exact eC hd i y
   have hcost':dX ((x.aj.take y).drop i) 0=cost:=qA;obtain⟨Wt,OW⟩:∃l,bS al (vP x i y)=l:=⟨_,rfl⟩;rw[OW];refine aa.seq ?_;refine aa.to ⟨DM.look [(0,.ptr b 0),(1,.v (ti i)),(4,.v (ti x.aj.length)),(5,.v (ti y))],over [(m,bU (bS Wt (pQ x i y)))] f0,N+1000,N,[]⟩ ?_ ?_
   ·refine aa.block ?_;refine aa.seq ?_;refine aa.tL ay fw (rs:=KV) (.inr ⟨_,rfl⟩) (by kernel_rfl) [0,1,4,5,6,7] ?_;simp[KV,xA (x:=x) (m:=m),hb,xx,jQ,bM,hd,hcost'];refine aa.seq ?_;obtain⟨Ic,K7⟩:∃l,bS Wt (if i<y then xT x i (y-1)else [])=l:=⟨_,rfl⟩;refine aa.to ⟨DM.look [(0,.ptr b 0),(1,.v (ti i)),(4,.v (ti x.aj.length)),(5,.v (ti y)),(6,.v (ti cost)),(7,.v (.sl (cR (dc (y-i)))))],over [(m,bU Ic)] f0,N+1000,N,[]⟩ ?_ ?_
    ·refine aa.ab ay fw [0,1,4,5,6,7,33] ?_;simp[d30r4];refine aa.cond rfl (λh=>?_) (λh=>?_)
     ·simp at h;obtain⟨q,hq⟩:∃q,y=q+1:=⟨y-1,by omega⟩;have hwq:IntKind.i64.wrap ((y:Int)-1)=(q:Int):=by rw[au (by omega)];omega
      have hiq:i<=q:=by omega
      have hql:q<=x.aj.length:=by omega
      have hql2:q<x.aj.length:=by omega
      obtain⟨c2,dR⟩:∃c,fU x i q=c:=⟨_,rfl⟩;have hc2b:0<=c2/\c2<=1099511627776:=by rw[<-dR];exact eC hd i q
      have hc2':dX ((x.aj.take q).drop i) 0=c2:=dR;refine aa.seq (aa.tL ay fw (rs:=KW) (.inr ⟨_,rfl⟩) (by kernel_rfl) [0,1,4,5,6,7,8,9] ?_);simp[KW,xA (x:=x) (m:=m),hb,xx,hwq,hiq,hql,hd,hc2'];refine aa.tL ay fw (rs:=KX) (.inr ⟨_,rfl⟩) (by kernel_rfl) [0,1,4,5,6,7] ?_;simp[KX,k47_eq (x:=x) (m:=m) (al:=Wt),hb,xx,hwq];refine⟨⟨by omega,hql2,hl, ?_,hc2b.1,hc2b.2,by simp[dc];omega⟩, ?_⟩
      ·rw[Zan hql2];exact mA _ (Zbi hql2)
      ·rw[kI];have e:bS Wt (kh (x.aj[q]?.getD default).read i q c2 (dc (q-i)) (x.aj[q]?.getD default).read.length)=Ic:=by
        rw[<-K7,if_pos h];simp[xT,show y-1=q by omega,dR]
       rw[e];exact pI bd Fg (by omega) (by simp) (by simp) (by simp[hb,xx])
     ·simp at h;have e:Wt=Ic:=by rw[<-K7,if_neg (by omega)];rfl
      rw[e];exact aa.skip ⟨rfl,pI bd Fg (by omega) (by simp) (by simp) (by simp[hb,xx])⟩
    refine aa.seq ?_;obtain⟨Jg,xB⟩:∃l,bS Ic (qy x.insert i y cost (dc (y-i)) x.insert.length)=l:=⟨_,rfl⟩;refine aa.to ⟨DM.look [(0,.ptr b 0),(1,.v (ti i)),(4,.v (ti x.aj.length)),(5,.v (ti y)),(6,.v (ti cost)),(7,.v (.sl (cR (dc (y-i)))))],over [(m,bU Jg)] f0,N+1000,N,[]⟩ ?_ ?_
    ·refine aa.ab ay fw [0,1,4,5,6,7,53,54,55] ?_;simp[d30r7,hb,xx,ch];refine aa.block ?_;refine aa.loop (λz:Nat=>⟨DM.look [(0,.ptr b 0),(1,.v (ti i)),(4,.v (ti x.aj.length)),(5,.v (ti y)),(6,.v (ti cost)),(7,.v (.sl (cR (dc (y-i))))),(53,.v (.sl (aB x.insert))),(54,.v (ti x.insert.length)),(55,.v (ti z))],over [(m,bU (bS Ic (qy x.insert i y cost (dc (y-i)) z)))] f0,N+1000,N,[]⟩)
      (λz=>z<=x.insert.length) (λz=>x.insert.length-z) 0 ?_ (by omega) (λz hz=>?_)
     ·exact pI bd Fg (by omega) (by simp) (by simp[qy,bS]) (by simp[hb,xx])
     refine aa.ab ay fw [0,1,4,5,6,7,53,54,55,56] ?_;simp[d30r8];refine aa.seq ?_;refine aa.cond rfl (λh=>?_) (λh=>?_)
     ·simp at h;refine aa.skip ?_;simp;refine aa.seq ?_;refine aa.block ?_;obtain⟨p,hp⟩:∃p,x.insert.getD z default=p:=⟨_,rfl⟩;have hr:=cP h;have PA:=UW p (by rw[<-hp];simp[List.getD,h]);have hp0:x.insert.getD z 0=p:=hp;have kq:=OX x.insert i y cost (dc (y-i)) z;rw[hp0]at kq;rw[hp]at hr;refine aa.ab ay fw [0,1,4,5,6,7,10,11,53,54,55] ?_;simp[d30r9,hr,h];obtain⟨alz,halz⟩:∃l,bS Ic (qy x.insert i y cost (dc (y-i)) z)=l:=⟨_,rfl⟩;rw[halz];refine aa.to ⟨DM.look [(0,.ptr b 0),(1,.v (ti i)),(4,.v (ti x.aj.length)),(5,.v (ti y)),(6,.v (ti cost)),(7,.v (.sl (cR (dc (y-i))))),(53,.v (.sl (aB x.insert))),(54,.v (ti x.insert.length)),(55,.v (ti z))],over [(m,bU (bS Ic (qy x.insert i y cost (dc (y-i)) (z+1))))] f0,N+1000,N,[]⟩ ?_ ?_
      ·refine aa.tL ay fw (rs:=E5) (.inr ⟨_,rfl⟩) (by kernel_rfl) [0,1,4,5,6,7,53,54,55] ?_;have w1:IntKind.i64.wrap (2*(i:Int))=2*i:=au (by omega);have w2:IntKind.i64.wrap (2*(y:Int))=2*y:=au (by omega);have w4:IntKind.i64.wrap (cost+p)=cost+p:=au (by omega);have jm:(dc (y-i)).length=y-i:=by simp[dc]
       simp[E5,w1,w2,w4,UT,Ib,chunk,cG,XE,hb,ch,xx,bU,ez,Nat.add_assoc,nb,nm];refine⟨⟨_,rfl,by omega⟩,by omega,λn hn=>?_, ?_⟩
       ·simp only[names,Zah]at hn;subst hn;simp
       ·have e:bS Ic (qy x.insert i y cost (dc (y-i)) (z+1))=tt alz ⟨2*i,2*y,z,cost+p,dc (y-i)++[(3,(z:Int))]⟩:=by
         rw[kq,fC,halz];rfl
        rw[e];refine K4 ⟨2*i,2*y,z,cost+p,dc (y-i)++[(3,(z:Int))]⟩ bd Fg ?_ ?_ ?_ (xy _ _ _) ?_
        ·omega
        ·omega
        ·omega
        ·simp[hb,xx]
      ·refine aa.dv ay fw [0,1,4,5,6,7,53,54,55] ?_;simp[T5];rw[au (by omega)];exact⟨z+1,pI bd Fg (by omega) (by simp) (by simp) (by simp[hb,xx]),by omega,by omega⟩
     ·simp at h;have:z=x.insert.length:=by omega
      subst this;refine aa.exit ⟨rfl, ?_⟩;rw[xB];exact pI bd Fg (by omega) (by simp) (by simp) (by simp[hb,xx])
    refine aa.iA ay fw (rs:=E6) (.inr ⟨_,rfl⟩) (by kernel_rfl) [0,1,4,5,6,7,80] ?_;simp[E6,UU (x:=x) (m:=m),hb,xx];refine⟨⟨by omega,hl⟩, ?_⟩;have Wm:bS Wt (pQ x i y)=bS Jg (if bX x y then [⟨2*i,2*y+1,(x.aj.getD (y+1) default).kind,cost+x.swap,dc (y-i)++[(4,0)]⟩]else []):=by
     rw[<-xB,<-K7,<-fC,<-fC];simp[pQ,qA]
    refine aa.cond rfl (λh=>?_) (λh=>?_)
    ·rw[Wm,if_pos h];have Ie:y+1<x.aj.length:=by simp[bX]at h;exact h.1
     have hr:DM.rowAt (aZ x.aj) ((y:Int)+1)=_:=dO Ie;obtain⟨c2,dR⟩:∃c,x.aj.getD (y+1) default=c:=⟨_,rfl⟩;rw[dR]at hr⊢;have w0:IntKind.i64.wrap ((y:Int)+1)=y+1:=au (by omega);have w1:IntKind.i64.wrap (2*(i:Int))=2*i:=au (by omega);have w2:IntKind.i64.wrap (2*(y:Int))=2*y:=au (by omega);have w3:IntKind.i64.wrap (2*(y:Int)+1)=2*y+1:=au (by omega);have w4:IntKind.i64.wrap (cost+x.swap)=cost+x.swap:=au (by omega);have jm:(dc (y-i)).length=y-i:=by simp[dc]
     have hlt1:((y:Int)+1<x.aj.length)=True:=by simp;omega
     have E0:(0<=(y:Int)+1)=True:=by simp;omega
     refine aa.tL ay fw (rs:=da (GI b N) (fj E7 [none,none,none,none,none,none,none,none,none,none,some [0],none,none,some [],none,some [],none,none,none,none,none,some [0],none,none,some [],none,none,some [1239]])) (.inl rfl) (by rw[gk (OB Wr)];kernel_rfl) [0,1,4,5] ?_;simp[da,gE,fj,b8,bm,names,bJ,GI,E7,w0,w1,w2,w3,w4,hr,hlt1,E0,bC.enc,UT,Ib,chunk,cG,XE,hb,ch,xx,bU,ez,Nat.add_assoc,nb,nm];refine⟨⟨_,rfl,by omega⟩,by omega, ?_⟩;refine K4 ⟨2*i,2*y+1,c2.kind,cost+x.swap,dc (y-i)++[(4,0)]⟩ bd Fg ?_ ?_ ?_ (xy _ _ _) ?_
     ·omega
     ·omega
     ·omega
     ·simp[hb,xx]
    ·rw[Wm,if_neg (by simp[h])];exact aa.skip ⟨rfl,pI bd Fg (by omega) (by simp) (by simp[bS]) (by simp[hb,xx])⟩
   ·refine aa.dv ay fw [0,1,4,5] ?_;simp[T6];rw[au (by omega)];refine⟨y+1,pI bd Fg (by omega) (by simp) (by simp;rw[K6 x jQ,fC,OW]) (by simp[hb,xx]),⟨by omega,by omega⟩,by omega⟩
  ·simp at bM;have:y=x.aj.length+1:=by omega
   subst this;refine aa.exit ⟨rfl, ?_⟩;exact pI bd Fg (by omega) (by simp) (by simp) (by simp[hb,xx])
 ·obtain⟨al3,OY⟩:∃l,bS al (vP x i (x.aj.length+1))=l:=⟨_,rfl⟩;have Wm:bS al (qz x i)=bS al3 (if bX x i then [⟨2*i+1,2*i+4,(x.aj.getD i default).kind,0,[]⟩]else []):=by
   rw[<-OY,<-fC];rfl
  rw[OY];refine aa.iA ay fw (rs:=E8) (.inr ⟨_,rfl⟩) (by kernel_rfl) [0,1,113] ?_;simp[E8,UU (x:=x) (m:=m),hb,xx];refine⟨⟨by omega,hl⟩, ?_⟩;refine aa.to ⟨DM.look [],over [(m,bU (bS al (qz x i)))] f0,N+1000,N,[]⟩ ?_ (by simp[T7];rfl);refine aa.cond rfl (λh=>?_) (λh=>?_)
  ·rw[Wm,if_pos h];have Ie:i<x.aj.length:=by simp[bX]at h;omega
   have hr:=dO Ie;obtain⟨c2,dR⟩:∃c,x.aj.getD i default=c:=⟨_,rfl⟩;rw[dR]at hr⊢;have w1:IntKind.i64.wrap (2*(i:Int))=2*i:=au (by omega);have w2:IntKind.i64.wrap (2*(i:Int)+1)=2*i+1:=au (by omega);have w3:IntKind.i64.wrap (2*(i:Int)+4)=2*i+4:=au (by omega);refine aa.tL ay fw (rs:=E9) (.inr ⟨_,rfl⟩) (by kernel_rfl) [] ?_;simp[E9,w1,w2,w3,hr,Ie,bC.enc,XE,hb,ch,xx,bU,ez,Nat.add_assoc];refine⟨λn hn=>(by simp[names]at hn), ?_⟩;rw[kI];refine Le.fl (l:=[]) bd (by omega) (by simp;omega) (by simp[bY]) ⟨⟨_,by simp;exact⟨rfl,rfl⟩,Dk (c:=⟨2*i+1,2*i+4,c2.kind,0,[]⟩) (d:=.aI) ?_,λ_=>by simp[gR]⟩,trivial⟩ (by simp);simp[cR]
  ·rw[Wm,if_neg (by simp[h])];exact aa.skip ⟨rfl,pI bd Fg (by omega) (by simp) (by simp[bS]) (by simp)⟩
def GU:List RO:=[
 o (.box (t 0)) 1 [],
 o (.alloc [(.v (.int .i64 0)),.aI,.aI]) 2 []]
def GV:List RO:=[
 a 0 1 15 [],
 l 15 16 [0],
 o (.len (t 16)) 17 [1],
 m 17 3 [2,0,1,2]]
def d14r2:List RO:=[
 o (.bP (.cm .aI)) 4 []]
def d14r3:List RO:=[
 o (.bP (i 0)) 5 []]
def d14r4:List RO:=[
 n 5 18,
 n 3 19,
 b .leq 18 19 20 [0,1]]
def d14r5:List RO:=[
 n 5 23,
 m 23 6 [0,0]]
def d14r6:List RO:=[
 n 6 24,
 n 3 25,
 b .leq 24 25 26 [0,1]]
def d14r7:List RO:=[
 L 3 1 29 [],
 n 5 30,
 n 6 31,
 o (.call 26 [(t 29),(t 30),(t 31)]) 32 [0,1,2],
 m 32 7 [3,3,0,1,2,3]]
def d14r8:List RO:=[
 o (.bP (i 0)) 8 []]
def d14r9:List RO:=[
 n 8 33,
 a 1 1 34 [],
 l 34 35 [1],
 o (.len (t 35)) 36 [2],
 b .lss 33 36 37 [0,3]]
def Fc:List RO:=[
 n 6 40,
 n 3 41,
 b .lss 40 41 42 [0,1],
 m 42 43 [2],
 u 0 1 44 43 true [3],
 v 44 45 43 true [4,3],
 w 6 46 43 true [3],
 g (.idxAddr 3 (t 45) (t 46)) 47 43 true [5,6,3],
 u 1 47 48 43 true [7,3],
 v 48 49 43 true [8,3],
 w 8 50 43 true [3],
 g (.idxAddr 1 (t 49) (t 50)) 51 43 true [9,10,3],
 v 51 52 43 true [11,3],
 g (.bin .geq (t 52) (i 0)) 53 43 true [12,3],
 q 43 53 54 [3,13]]
def Up:List RO:=[
 n 4 55,
 n 5 56,
 o (.bin .mul (i 2) (t 56)) 57 [1],
 n 6 58,
 o (.bin .mul (i 2) (t 58)) 59 [3],
 o (.bin .add (t 59) (i 2)) 60 [4],
 n 8 61,
 n 7 62,
 a 0 1 63 [],
 l 63 64 [8],
 n 6 65,
 x 3 64 65 66 [9,10],
 a 1 66 67 [11],
 l 67 68 [12],
 n 8 69,
 x 1 68 69 70 [13,14],
 l 70 71 [15],
 o (.call 28 [(t 62),(t 71)]) 72 [7,16],
 n 6 73,
 n 5 74,
 b .sub 73 74 75 [18,19],
 n 8 76,
 o (.build [(.v (.int .i64 0)),(.v (.int .i64 0))] [(0,1,(i 1)),(1,1,(t 76))]) 77 [21],
 o (.call 29 [(t 75),(t 77)]) 78 [20,22,17],
 o (.build [(.v (.int .i64 0)),(.v (.int .i64 0)),(.v (.int .i64 0)),(.v (.int .i64 0)),.aI] [(0,1,(t 57)),(1,1,(t 60)),(2,1,(t 61)),(3,1,(t 72)),(4,1,(t 78))]) 79 [2,5,6,17,23],
 o (.call 27 [(t 55),(t 79)]) 80 [0,24,23],
 m 80 4 (k [25,25] 25)]
def Uq:List RO:=[
 n 8 38,
 o (.bin .add (t 38) (i 1)) 39 [0],
 m 39 8 [1,0,1]]
def Ur:List RO:=[
 L 3 1 81 [],
 n 6 82,
 o (.call 30 [(t 81),(t 82)]) 83 [0,1]]
def Us:List RO:=[
 n 4 84,
 n 5 85,
 o (.bin .mul (i 2) (t 85)) 86 [1],
 n 6 87,
 o (.bin .mul (i 2) (t 87)) 88 [3],
 o (.bin .add (t 88) (i 1)) 89 [4],
 a 0 1 90 [],
 l 90 91 [6],
 n 6 92,
 o (.bin .add (t 92) (i 1)) 93 [8],
 x 3 91 93 94 [7,9],
 a 0 94 95 [10],
 l 95 96 [11],
 n 7 97,
 a 2 1 98 [],
 l 98 99 [14],
 o (.call 28 [(t 97),(t 99)]) 100 [13,15],
 n 6 101,
 n 5 102,
 b .sub 101 102 103 [17,18],
 o (.build [(.v (.int .i64 0)),(.v (.int .i64 0))] [(0,1,(i 4))]) 104 [],
 o (.call 29 [(t 103),(t 104)]) 105 [19,20,16],
 o (.build [(.v (.int .i64 0)),(.v (.int .i64 0)),(.v (.int .i64 0)),(.v (.int .i64 0)),.aI] [(0,1,(t 86)),(1,1,(t 89)),(2,1,(t 96)),(3,1,(t 100)),(4,1,(t 105))]) 106 [2,5,12,16,21],
 o (.call 27 [(t 84),(t 106)]) 107 [0,22,21],
 m 107 4 (k [23,23] 23)]
def Ut:List RO:=[
 n 6 27,
 o (.bin .add (t 27) (i 1)) 28 [0],
 m 28 6 [1,0,1]]
def Uu:List RO:=[
 L 3 1 108 [],
 n 5 109,
 o (.call 30 [(t 108),(t 109)]) 110 [0,1]]
def Uv:List RO:=[
 n 4 111,
 n 5 112,
 o (.bin .mul (i 2) (t 112)) 113 [1],
 o (.bin .add (t 113) (i 1)) 114 [2],
 n 5 115,
 o (.bin .mul (i 2) (t 115)) 116 [4],
 o (.bin .add (t 116) (i 4)) 117 [5],
 a 0 1 118 [],
 l 118 119 [7],
 n 5 120,
 x 3 119 120 121 [8,9],
 a 0 121 122 [10],
 l 122 123 [11],
 o (.build [(.v (.int .i64 0)),(.v (.int .i64 0)),(.v (.int .i64 0)),(.v (.int .i64 0)),.aI] [(0,1,(t 114)),(1,1,(t 117)),(2,1,(t 123))]) 124 [3,6,12],
 o (.call 27 [(t 111),(t 124)]) 125 [0,13],
 m 125 4 (k [14,14] 14)]
def Uw:List RO:=[
 n 5 21,
 o (.bin .add (t 21) (i 1)) 22 [0],
 m 22 5 [1,0,1]]
def Ux:List RO:=[
 o (.bP (i 0)) 9 []]
def Uy:List RO:=[
 n 9 126,
 n 3 127,
 b .leq 126 127 128 [0,1]]
def Uz:List RO:=[
 n 9 131,
 m 131 10 [0,0]]
def UA:List RO:=[
 n 10 132,
 n 3 133,
 b .leq 132 133 134 [0,1]]
def UB:List RO:=[
 o (.bP (i 0)) 11 []]
def UC:List RO:=[
 n 11 137,
 a 1 1 138 [],
 l 138 139 [1],
 o (.len (t 139)) 140 [2],
 b .lss 137 140 141 [0,3]]
def UD:List RO:=[
 n 4 144,
 n 9 145,
 o (.bin .mul (i 2) (t 145)) 146 [1],
 n 10 147,
 o (.bin .mul (i 2) (t 147)) 148 [3],
 n 11 149,
 L 3 1 150 [],
 n 9 151,
 n 10 152,
 o (.call 26 [(t 150),(t 151),(t 152)]) 153 [6,7,8],
 a 1 1 154 [],
 l 154 155 [10],
 n 11 156,
 x 1 155 156 157 [11,12],
 l 157 158 [13],
 o (.call 28 [(t 153),(t 158)]) 159 [9,14,9],
 n 10 160,
 n 9 161,
 b .sub 160 161 162 [16,17],
 n 11 163,
 o (.build [(.v (.int .i64 0)),(.v (.int .i64 0))] [(0,1,(i 3)),(1,1,(t 163))]) 164 [19],
 o (.call 29 [(t 162),(t 164)]) 165 [18,20,15],
 o (.build [(.v (.int .i64 0)),(.v (.int .i64 0)),(.v (.int .i64 0)),(.v (.int .i64 0)),.aI] [(0,1,(t 146)),(1,1,(t 148)),(2,1,(t 149)),(3,1,(t 159)),(4,1,(t 165))]) 166 [2,4,5,15,21],
 o (.call 27 [(t 144),(t 166)]) 167 [0,22,21],
 m 167 4 (k [23,23] 23)]
def UE:List RO:=[
 n 11 142,
 o (.bin .add (t 142) (i 1)) 143 [0],
 m 143 11 [1,0,1]]
def UF:List RO:=[
 n 10 135,
 o (.bin .add (t 135) (i 1)) 136 [0],
 m 136 10 [1,0,1]]
def UG:List RO:=[
 n 9 129,
 o (.bin .add (t 129) (i 1)) 130 [0],
 m 130 9 [1,0,1]]
def UH:List RO:=[
 n 3 168,
 o (.bin .mul (i 2) (t 168)) 169 [0],
 o (.bin .add (t 169) (i 1)) 170 [1],
 n 4 171,
 o (.build [(.v (.int .i64 0)),.aI,.aI] [(0,1,(t 170)),(1,1,(t 171))]) 172 [2,3],
 o (.alloc [(.v (.int .i64 0)),.aI,.aI]) 12 [],
 S 3 12 172 (k [5,4] 5)]
def UI:List RO:=[
 n 3 173,
 o (.bin .mul (i 2) (t 173)) 174 [0],
 o (.bin .add (t 174) (i 1)) 175 [1],
 o (.mkSlice 3 1 8 [(.int .i64 0)] (t 175)) 176 [2,2],
 m 176 13 [3,0,1,2,3]]
def UJ:List RO:=[
 o (.bP (i 0)) 14 []]
def UK:List RO:=[
 n 14 177,
 n 13 178,
 o (.len (t 178)) 179 [1],
 b .lss 177 179 180 [0,2]]
def UL:List RO:=[
 n 13 183,
 n 14 184,
 x 1 183 184 185 [0,1,0,1],
 s (.store 1 (t 185) (i 1099511627776)) [2,0,1]]
def UM:List RO:=[
 n 14 186,
 o (.bin .rem (t 186) (i 2)) 187 [0],
 o (.bin .eql (t 187) (i 0)) 188 [1]]
def UN:List RO:=[
 n 13 189,
 n 14 190,
 L 3 1 191 [],
 n 14 192,
 o (.bin .quo (t 192) (i 2)) 193 [3],
 n 3 194,
 o (.call 26 [(t 191),(t 193),(t 194)]) 195 [2,4,5],
 x 1 189 190 196 (k [0,1] 6),
 S 1 196 195 (k [7,6,6] 6)]
def UO:List RO:=[
 n 14 181,
 o (.bin .add (t 181) (i 1)) 182 [0],
 m 182 14 [1,0,1]]
def UP:List RO:=[
 n 13 197,
 a 2 12 198 [0],
 S 1 198 197 [1,0,0]]
def UQ:List RO:=[
 L 3 12 199 [],
 S 3 2 199 [0,0]]
def d14:DC:=(j (y GU)
 (j (y GV)
 (j (y d14r2)
 (j (j (y d14r3)
 (.block 0 (.loop (j (j (y d14r4)
 (.cond (.tmp 20) .skip
 (.exit 0)))
 (j (.block 1 (j (j (y d14r5)
 (.block 2 (.loop (j (j (y d14r6)
 (.cond (.tmp 26) .skip
 (.exit 2)))
 (j (.block 3 (j (y d14r7)
 (j (j (y d14r8)
 (.block 4 (.loop (j (j (y d14r9)
 (.cond (.tmp 37) .skip
 (.exit 4)))
 (j (.block 5 (j (y Fc)
 (.cond (.tmp 54) (y Up)
 .skip)))
 (y Uq))))))
 (j (y Ur)
 (.cond (.tmp 83) (Y Us)
 .skip)))))
 (y Ut))))))
 (j (y Uu)
 (.cond (.tmp 110) (y Uv)
 .skip))))
 (y Uw))))))
 (j (j (y Ux)
 (.block 6 (.loop (j (j (y Uy)
 (.cond (.tmp 128) .skip
 (.exit 6)))
 (j (.block 7 (j (y Uz)
 (.block 8 (.loop (j (j (y UA)
 (.cond (.tmp 134) .skip
 (.exit 8)))
 (j (.block 9 (j (y UB)
 (.block 10 (.loop (j (j (y UC)
 (.cond (.tmp 141) .skip
 (.exit 10)))
 (j (.block 11 (Y UD))
 (y UE)))))))
 (y UF)))))))
 (y UG))))))
 (j (y UH)
 (j (y UI)
 (j (j (y UJ)
 (.block 12 (.loop (j (j (y UK)
 (.cond (.tmp 180) .skip
 (.exit 12)))
 (j (.block 13 (j (y UL)
 (j (y UM)
 (.cond (.tmp 188) (y UN)
 .skip))))
 (y UO))))))
 (j (y UP)
 (j (y UQ)
 .ret))))))))))
def AV:List bN:=[.cell 2 3 true]
theorem c14 [Laid]:aQ Tryz.prog 12 200 d14 AV:=⟨Tryz.f12,by kernel_rfl,by kernel_rfl,by kernel_rfl,by kernel_rfl,by kernel_rfl⟩
def Hh:List RO:=[
 o (.box (t 0)) 3 [],
 o (.bP (i 0)) 6 []]
def Hi:List RO:=[
 o (.bP (i 0)) 7 []]
def Hj:List RO:=[
 n 1 9,
 m 9 8 [0,0]]
def Hk:List RO:=[
 n 8 10,
 n 2 11,
 b .lss 10 11 12 [0,1]]
def Hl:List RO:=[
 n 7 15,
 a 0 3 16 [],
 l 16 17 [1],
 n 8 18,
 x 3 17 18 19 [2,3],
 a 2 19 20 [4],
 l 20 21 [5],
 o (.call 28 [(t 15),(t 21)]) 22 [0,6],
 m 22 7 (k [7,7] 7)]
def Hm:List RO:=[
 n 8 13,
 o (.bin .add (t 13) (i 1)) 14 [0],
 m 14 8 [1,0,1]]
def Hn:List RO:=[
 n 7 23,
 m 23 6 [0,0]]
def d34:DC:=(j (y Hh)
 (j (y Hi)
 (j (j (y Hj)
 (.block 0 (.loop (j (j (y Hk)
 (.cond (.tmp 12) .skip
 (.exit 0)))
 (j (.block 1 (y Hl))
 (y Hm))))))
 (j (y Hn)
 .ret))))
def xd:List bN:=[.slot 6]
theorem c34 [Laid]:aQ Tryz.prog 26 24 d34 xd:=⟨Tryz.f26,by kernel_rfl,by kernel_rfl,by kernel_rfl,by kernel_rfl,by kernel_rfl⟩
def HE:List RO:=[
 o (.box (t 1)) 3 [],
 o (.bP (.cm .aI)) 4 []]
def HF:List RO:=[
 a 3 3 8 [],
 l 8 9 [0],
 o (.bin .geq (t 9) (i 1099511627776)) 10 [1]]
def HG:List RO:=[
 n 0 11,
 m 11 4 [0,0]]
def HH:List RO:=[
 o (.bP (.cm .aI)) 5 []]
def HI:List RO:=[
 o (.bP (.cm (.v (.bool false)))) 6 []]
def HJ:List RO:=[
 o (.bP (i 0)) 7 []]
def HK:List RO:=[
 n 7 12,
 n 0 13,
 o (.len (t 13)) 14 [1],
 b .lss 12 14 15 [0,2]]
def vw:List RO:=[
 n 6 18,
 o (.un .not (t 18)) 19 [0],
 m 19 20 [1],
 w 0 21 20 true [2],
 w 7 22 20 true [2],
 g (.idxAddr 5 (t 21) (t 22)) 23 20 true [3,4,2],
 u 0 23 24 20 true [5,2],
 v 24 25 20 true [6,2],
 u 0 3 26 20 true [2],
 v 26 27 20 true [8,2],
 g (.bin .eql (t 25) (t 27)) 28 20 true [7,9,2],
 q 20 28 29 [2,10],
 m 29 30 [11,2],
 w 0 31 30 true [12],
 w 7 32 30 true [12],
 g (.idxAddr 5 (t 31) (t 32)) 33 30 true [13,14,12],
 u 1 33 34 30 true [15,12],
 v 34 35 30 true [16,12],
 u 1 3 36 30 true [12],
 v 36 37 30 true [18,12],
 g (.bin .eql (t 35) (t 37)) 38 30 true [17,19,12],
 q 30 38 39 [12,20],
 m 39 40 [21,12],
 w 0 41 40 true [22],
 w 7 42 40 true [22],
 g (.idxAddr 5 (t 41) (t 42)) 43 40 true [23,24,22],
 u 2 43 44 40 true [25,22],
 v 44 45 40 true [26,22],
 u 2 3 46 40 true [22],
 v 46 47 40 true [28,22],
 g (.bin .eql (t 45) (t 47)) 48 40 true [27,29,22],
 q 40 48 49 [22,30]]
def HL:List RO:=[
 o (.bP (.cm (.v (.bool true)))) 6 []]
def HM:List RO:=[
 a 3 3 50 [],
 l 50 51 [0],
 n 0 52,
 n 7 53,
 x 5 52 53 54 [2,3],
 a 3 54 55 [4],
 l 55 56 [5],
 b .lss 51 56 57 [1,6]]
def A4:List RO:=[
 n 5 58,
 L 5 3 59 [],
 o (.bslice 1 5 [(.v (.int .i64 0)),(.v (.int .i64 0)),(.v (.int .i64 0)),(.v (.int .i64 0)),.aI] [(0,5,(t 59))]) 60 [1],
 o (.append 77 5 56 (t 58) (t 60)) 61 [0,2],
 m 61 5 [3,3,0,1,2,3]]
def tV:List RO:=[
 n 6 62,
 o (.un .not (t 62)) 63 [0],
 m 63 64 [1],
 g (.load 5 true (t 3)) 65 64 true [2],
 w 0 66 64 true [2],
 w 7 67 64 true [2],
 g (.idxAddr 5 (t 66) (t 67)) 68 64 true [4,5,2],
 g (.load 5 true (t 68)) 69 64 true [6,2],
 g (.call 47 [(t 65),(t 69)]) 70 64 true [3,7,2,2],
 q 64 70 71 [2,8]]
def ER:List RO:=[
 o (.bP (.cm (.v (.bool true)))) 6 []]
def A5:List RO:=[
 n 5 72,
 L 5 3 73 [],
 o (.bslice 1 5 [(.v (.int .i64 0)),(.v (.int .i64 0)),(.v (.int .i64 0)),(.v (.int .i64 0)),.aI] [(0,5,(t 73))]) 74 [1],
 o (.append 77 5 56 (t 72) (t 74)) 75 [0,2],
 m 75 5 [3,3,0,1,2,3]]
def A6:List RO:=[
 n 5 76,
 n 0 77,
 n 7 78,
 x 5 77 78 79 [1,2],
 L 5 79 80 [3],
 o (.bslice 1 5 [(.v (.int .i64 0)),(.v (.int .i64 0)),(.v (.int .i64 0)),(.v (.int .i64 0)),.aI] [(0,5,(t 80))]) 81 [4],
 o (.append 77 5 56 (t 76) (t 81)) 82 [0,5],
 m 82 5 (k [6,6] 6)]
def A7:List RO:=[
 n 7 16,
 o (.bin .add (t 16) (i 1)) 17 [0],
 m 17 7 [1,0,1]]
def A8:List RO:=[
 n 6 83,
 o (.un .not (t 83)) 84 [0]]
def A9:List RO:=[
 n 5 85,
 L 5 3 86 [],
 o (.bslice 1 5 [(.v (.int .i64 0)),(.v (.int .i64 0)),(.v (.int .i64 0)),(.v (.int .i64 0)),.aI] [(0,5,(t 86))]) 87 [1],
 o (.append 77 5 56 (t 85) (t 87)) 88 [0,2],
 m 88 5 [3,3,0,1,2,3]]
def Ba:List RO:=[
 n 5 89,
 m 89 4 [0,0]]
def d35:DC:=(j (y HE)
 (j (j (y HF)
 (.cond (.tmp 10) (j (y HG)
 .ret)
 .skip))
 (j (y HH)
 (j (y HI)
 (j (j (y HJ)
 (.block 0 (.loop (j (j (y HK)
 (.cond (.tmp 15) .skip
 (.exit 0)))
 (j (.block 1 (j (j (Y vw)
 (.cond (.tmp 49) (j (y HL)
 (j (Y HM)
 (.cond (.tmp 57) (j (y A4)
 (.exit 1))
 .skip)))
 .skip))
 (j (j (Y tV)
 (.cond (.tmp 71) (j (y ER)
 (y A5))
 .skip))
 (y A6))))
 (y A7))))))
 (j (j (y A8)
 (.cond (.tmp 84) (y A9)
 .skip))
 (j (y Ba)
 .ret)))))))
def Bb:List bN:=[.slot 4]
theorem c35 [Laid]:aQ Tryz.prog 27 90 d35 Bb:=⟨Tryz.f27,by kernel_rfl,by kernel_rfl,by kernel_rfl,by kernel_rfl,by kernel_rfl⟩
def Hr:List RO:=[
 o (.box (t 1)) 3 [],
 o (.bP (.cm .aI)) 4 []]
def tf:List RO:=[
 o (.bP (.cm .aI)) 5 []]
def Hs:List RO:=[
 o (.bP (i 0)) 6 []]
def Ht:List RO:=[
 n 6 7,
 n 0 8,
 b .lss 7 8 9 [0,1]]
def yz:List RO:=[
 n 5 12,
 o (.build [(.v (.int .i64 0)),(.v (.int .i64 0))] [(0,1,(i 2))]) 13 [],
 o (.bslice 1 2 [(.v (.int .i64 0)),(.v (.int .i64 0))] [(0,2,(t 13))]) 14 [1],
 o (.append 75 2 16 (t 12) (t 14)) 15 [0,2],
 m 15 5 [3,3,0,1,2,3]]
def MN:List RO:=[
 n 6 10,
 o (.bin .add (t 10) (i 1)) 11 [0],
 m 11 6 [1,0,1]]
def Hu:List RO:=[
 n 5 16,
 L 2 3 17 [],
 o (.bslice 1 2 [(.v (.int .i64 0)),(.v (.int .i64 0))] [(0,2,(t 17))]) 18 [1],
 o (.append 75 2 16 (t 16) (t 18)) 19 [0,2],
 m 19 4 [3,3,0,1,2,3]]
def d37:DC:=(j (y Hr)
 (j (y tf)
 (j (j (y Hs)
 (.block 0 (.loop (j (j (y Ht)
 (.cond (.tmp 9) .skip
 (.exit 0)))
 (j (.block 1 (y yz))
 (y MN))))))
 (j (y Hu)
 .ret))))
def xi:List bN:=[.slot 4]
theorem c37 [Laid]:aQ Tryz.prog 29 20 d37 xi:=⟨Tryz.f29,by kernel_rfl,by kernel_rfl,by kernel_rfl,by kernel_rfl,by kernel_rfl⟩
def GS:List RO:=[
 o (.box (t 0)) 2 [],
 o (.bP (.cm (.v (.bool false)))) 4 []]
def C5:List RO:=[
 n 1 5,
 o (.bin .add (t 5) (i 1)) 6 [0],
 a 0 2 7 [],
 l 7 8 [2],
 o (.len (t 8)) 9 [3],
 b .lss 6 9 10 [1,4],
 m 10 11 [5],
 u 2 2 12 11 true [6],
 v 12 13 11 true [7,6],
 g (.bin .gtr (t 13) (i 0)) 14 11 true [8,6],
 q 11 14 15 [6,9],
 m 15 16 [10,6],
 u 0 2 17 16 true [11],
 v 17 18 16 true [12,11],
 w 1 19 16 true [11],
 g (.idxAddr 3 (t 18) (t 19)) 20 16 true [13,14,11],
 u 0 20 21 16 true [15,11],
 v 21 22 16 true [16,11],
 g (.bin .geq (t 22) (i 0)) 23 16 true [17,11],
 q 16 23 24 [11,18],
 m 24 25 [19,11],
 u 0 2 26 25 true [20],
 v 26 27 25 true [21,20],
 w 1 28 25 true [20],
 g (.bin .add (t 28) (i 1)) 29 25 true [23,20],
 g (.idxAddr 3 (t 27) (t 29)) 30 25 true [22,24,20],
 u 0 30 31 25 true [25,20],
 v 31 32 25 true [26,20],
 g (.bin .geq (t 32) (i 0)) 33 25 true [27,20],
 q 25 33 34 [20,28],
 m 34 4 (k [29,20] 29)]
def d38:DC:=(j (y GS)
 (j (y C5)
 .ret))
def AU:List bN:=[.slot 4]
theorem c38 [Laid]:aQ Tryz.prog 30 35 d38 AU:=⟨Tryz.f30,by kernel_rfl,by kernel_rfl,by kernel_rfl,by kernel_rfl,by kernel_rfl⟩
theorem U5{c d:Int}(hc:0<=c/\c<=1099511627776)(hd:0<=d):jF c d=min (c+d) 1099511627776:=by
 unfold jF;split<;>omega
theorem t34(x:Input)(i m:Nat)(him:i<=m)(hm:m<=x.aj.length)(hd:nf x.aj):aT Tryz.prog 26 [x.enc,ti i,ti m] (ti (fU x i m)):=by
 have ay:=XN;obtain⟨part,tn⟩:∃p,(x.aj.take m).drop i=p:=⟨_,rfl⟩;have Pz:part.length=m-i:=by rw[<-tn];simp;omega
 have hpd:∀c∈part,0<=c.delete/\c.delete<=1099511627776:=λc hc=>hd.2 c (by rw[<-tn]at hc;exact Zav (Zbv hc));have hpg:∀k,i+k<m->part.getD k default=x.aj.getD (i+k) default:=by
  intro k hk;rw[<-tn];have:i+k<x.aj.length:=by omega
  simp[List.getD,Zbb,hk]
 have hlen:=hd.1;unfold fU;rw[tn];refine c34.ok (by simp) (aJ ?_);simp[Input.enc];refine aa.ab ay fw [1,2,3] ?_;simp[Hh];refine aa.le (Le.aD (o:=[]) (l:=[(1,.v (ti i)),(2,.v (ti m)),(3,.v (.box [.sl (aZ x.aj),.sl (aB x.insert),ti x.swap]))]) (nxt':=1200) ?_ ?_ ?_ ?_) ?_;iterate 4(·simp)
 refine aa.ab ay fw [1,2,3,7] ?_;simp[Hi];refine aa.seq ?_;refine aa.ab ay fw [2,3,7,8] ?_;simp[Hj];refine aa.block ?_;refine aa.loop (λy:Nat=>⟨DM.look [(2,.v (ti m)),(3,.v (.box [.sl (aZ x.aj),.sl (aB x.insert),ti x.swap])),(7,.v (ti (dX (part.take y) 0))),(8,.v (ti ((i+y:Nat):Int)))],cE [],2000,1000,[]⟩)
  (λy=>y<=part.length) (λy=>part.length-y) 0 (Le.aD (o:=[]) ?_ ?_ ?_ ?_) (by simp) (λy hy=>?_)
 iterate 3(·simp)
 ·simp[dX]
 obtain⟨k,hk⟩:∃k,i+y=k:=⟨_,rfl⟩;rw[hk];have PD:=nS (l:=part.take y) (λc hc=>(hpd c (Zav hc)).1) 0 (by omega);refine aa.seq ?_;refine aa.ab ay fw [2,3,7,8,12] ?_;simp[Hk];refine aa.cond rfl (λbM=>?_) (λbM=>?_)
 ·simp at bM;have hyp:y<part.length:=by omega
  have Wo:k<x.aj.length:=by omega
  have hr:=dO Wo;have hg:=hpg y (by omega);rw[hk]at hg;obtain⟨c,hc⟩:∃c,x.aj.getD k default=c:=⟨_,rfl⟩;rw[hc]at hr hg;have hpy:part[y]=c:=by simpa [List.getD,hyp]using hg
  have Wm:=hpd c (by rw[<-hpy];exact Zbi hyp);have NP:part.take (y+1)=part.take y++[c]:=by rw[Zbw,Zan hyp,hpy];rfl
  obtain⟨u,hu⟩:∃u,dX (part.take y) 0=u:=⟨_,rfl⟩;rw[hu]at PD⊢;refine aa.skip ?_;simp;refine aa.seq ?_;refine aa.block ?_;refine aa.dv ay fw [2,3,7,8] ?_;simp[Hl,Wo,hr,bC.enc];refine⟨⟨u,c.delete,⟨rfl,rfl⟩,by omega,by omega⟩, ?_⟩;refine aa.dv ay fw [2,3,7,8] ?_;simp[Hm];rw[au (by omega)];refine⟨y+1,Le.aD (o:=[]) ?_ ?_ ?_ ?_,by omega,by omega⟩;iterate 3(·simp)
  ·simp[NP,vO,hu,U5 PD Wm.1];omega
 ·simp at bM;have sX:y=part.length:=by omega
  subst sX;refine aa.exit ?_;simp;refine aa.ab ay fw [6] ?_;simp[Hn];refine aa.ret ?_;simp[xd]
theorem t38(x:Input)(m:Nat)(hm:m<=1000000)(hl:x.aj.length<=1000000):aT Tryz.prog 30 [x.enc,ti m] (.bool (bX x m)):=by
 have ay:=okE;obtain⟨v,hv⟩:∃v,bX x m=v:=⟨_,rfl⟩;rw[hv];refine c38.ok (by simp) (aJ ?_);simp[Input.enc];refine aa.ab ay fw [1,2] ?_;simp[GS];refine aa.le (Le.aD (o:=[]) (l:=[(1,.v (ti m)),(2,.v (.box [.sl (aZ x.aj),.sl (aB x.insert),ti x.swap]))]) (nxt':=1200) ?_ ?_ ?_ ?_) ?_;iterate 4(·simp)
 have hw:IntKind.i64.wrap ((m:Int)+1)=m+1:=au (by omega);refine aa.bZ ay fw [(4,.v (.bool v))] ?_ ?_
 ·by_cases h1:m+1<x.aj.length
  ·have lO:=dO (l:=x.aj) (y:=m) (by omega);have pT:DM.rowAt (aZ x.aj) ((m:Int)+1)=(x.aj.getD (m+1) default).enc:=dO (l:=x.aj) h1;obtain⟨c1,bb⟩:∃c,x.aj.getD m default=c:=⟨_,rfl⟩;obtain⟨c2,dR⟩:∃c,x.aj.getD (m+1) default=c:=⟨_,rfl⟩;rw[bb]at lO;rw[dR]at pT;have N4:((m:Int)+1<x.aj.length)=True:=by simp;omega
   have hd3:(0<=(m:Int)+1)=True:=by simp;omega
   have hd4:m<x.aj.length:=by omega
   have zF:v=(decide (0<x.swap)&&(decide (0<=c1.kind)&&decide (0<=c2.kind))):=by
    rw[<-hv];unfold bX;rw[bb,dR];simp[h1]
   by_cases s1:0<x.swap<;>by_cases s2:0<=c1.kind<;>by_cases s3:0<=c2.kind<;>simp[C5,hw,lO,pT,N4,hd3,hd4,bC.enc,s1,s2,s3,zF]
  ·have N4:((m:Int)+1<x.aj.length)=False:=by simp;omega
   have zF:v=false:=by rw[<-hv];simp[bX];intros;omega
   simp[C5,hw,N4,zF]
 refine aa.ret ?_;simp[AU]
theorem t37(n:Nat)(a b:Int)(hn:n<=1000000):aT Tryz.prog 29 [ti n,.agg [ti a,ti b]] (.sl (cR (dc n++[(a,b)]))):=by
 have ay:=okE;refine c37.ok (by simp) (aJ ?_);simp;refine aa.ab ay fw [0,3] ?_;simp[Hr];refine aa.ab ay fw [0,3,5] ?_;simp[tf];refine aa.seq ?_;refine aa.le (Le.aD (o:=[]) (l:=[(0,.v (ti n)),(3,.v (.box [ti a,ti b])),(5,.aI)]) (nxt':=1200) ?_ ?_ ?_ ?_) ?_;iterate 4(·simp)
 refine aa.le (Le.l7 (k:=5) 75 (sz:=2) (by omega) (by simp)) ?_;rw[ik];refine aa.ab ay fw [0,3,5,6] ?_;simp[Hs];refine aa.block ?_;refine aa.loop (λy:Nat=>⟨DM.look [(0,.v (ti n)),(3,.v (.box [ti a,ti b])),(5,.bk 1200 0),(6,.v (ti y))],cE [(1200,.arr 0 75 2 (cR (dc y)))],2000,1000,[]⟩)
  (λy=>y<=n) (λy=>n-y) 0 (Le.aD ?_ ?_ ?_ ?_) (by simp) (λy hy=>?_)
 ·simp
 ·simp
 ·simp[dc,cR]
 ·simp
 refine aa.seq ?_;refine aa.ab ay fw [0,3,5,6,9] ?_;simp[Ht];have hd:(dc y).length=y:=by simp[dc]
 refine aa.cond rfl (λbM=>?_) (λbM=>?_)
 ·simp at bM;refine aa.skip ?_;simp;refine aa.seq ?_;refine aa.block ?_;refine aa.dv ay fw [0,3,5,6] ?_;simp[yz,cG,chunk,hd];refine⟨by omega, ?_⟩;refine aa.dv ay fw [0,3,5,6] ?_;simp[MN];rw[au (by omega)];refine⟨y+1,Le.aD ?_ ?_ ?_ ?_,by omega,by omega⟩
  ·simp
  ·simp
  ·simp[cR,dc,ZbR]
  ·simp
 ·simp at bM;have sX:y=n:=by omega
  subst sX;refine aa.exit ?_;simp;refine aa.ab ay fw [4] ?_;simp[Hu,cG,chunk,hd];refine⟨by omega, ?_⟩;refine aa.ret ?_;simp[xi,cR]
def dj(a:bn)(p:Bool×List bn)(b:bn):Bool×List bn:=
 if p.1=false/\sameKey b a=true then(true,p.2++[if a.cost<b.cost then a else b])
 else if p.1=false/\before a b then(true,p.2++[a]++[b])
 else(p.1,p.2++[b])
def eR(a:bn)(l:List bn):Bool×List bn:=l.foldl (dj a) (false,[])
def oV(l:List bn)(a:bn):List bn:=
 if 1099511627776<=a.cost then l else if(eR a l).1 then(eR a l).2 else(eR a l).2++[a]
theorem Fk{a:bn}{l:List bn}{y:Nat}(h:y<l.length):eR a (l.take (y+1))=dj a (eR a (l.take y)) (l.getD y default):=by
 unfold eR;rw[Zbw,Zan h,Zat];simp[List.getD,h]
theorem Il(a:bn)(p:Bool×List bn)(b:bn):(dj a p b).2.length<=p.2.length+2:=by
 unfold dj;split
 ·simp
 ·split<;>simp
theorem pJ(l:List bn)(a:bn):ba (l++[a])=ba l++[a.enc]:=by simp[ba]
theorem t35(l:List bn)(a:bn)(hl:l.length<=1000000000):aT Tryz.prog 27 [.sl (ba l),.agg a.enc] (.sl (ba (oV l a))):=by
 have ay:=ok39;obtain⟨R,hR⟩:∃R,oV l a=R:=⟨_,rfl⟩;rw[hR];unfold oV at hR;obtain⟨af,at',ax,ac,ao⟩:=a;obtain⟨a,ha⟩:∃a:bn,(⟨af,at',ax,ac,ao⟩:bn)=a:=⟨_,rfl⟩;have haf:a.f=af:=by rw[<-ha]
 have dF:a.t=at':=by rw[<-ha]
 have hax:a.term=ax:=by rw[<-ha]
 have hac:a.cost=ac:=by rw[<-ha]
 have XO:a.enc=[ti af,ti at',ti ax,ti ac,.sl (cR ao)]:=by rw[<-ha];rfl
 refine c35.ok (by simp) (aJ ?_);rw[ha]at hR;simp[bn.enc];refine aa.ab ay fw [0,3] ?_;simp[HE];refine aa.le (Le.aD (o:=[]) (l:=[(0,.v (.sl (ba l))),(3,.v (.box [ti af,ti at',ti ax,ti ac,.sl (cR ao)]))]) (nxt':=1200) ?_ ?_ ?_ ?_) ?_;iterate 4(·simp)
 refine aa.seq ?_;refine aa.ab ay fw [0,3,10] ?_;simp[HF];refine aa.cond rfl (λh=>?_) (λh=>?_)
 ·simp at h;rw[if_pos (by rw[hac];exact h)]at hR;subst hR;refine aa.ab ay fw [4] ?_;simp[HG];refine aa.ret ?_;simp[Bb]
 simp at h;rw[if_neg (by rw[hac];omega)]at hR;refine aa.skip ?_;simp;refine aa.ab ay fw [0,3,5] ?_;simp[HH];refine aa.le (Le.aD (o:=[]) (l:=[(0,.v (.sl (ba l))),(3,.v (.box [ti af,ti at',ti ax,ti ac,.sl (cR ao)])),(5,.aI)]) (nxt':=1500) ?_ ?_ ?_ ?_) ?_;iterate 4(·simp)
 refine aa.le (Le.l7 (k:=5) 77 (sz:=5) (by omega) (by simp)) ?_;rw[ik];refine aa.ab ay fw [0,3,5,6] ?_;simp[HI];refine aa.seq ?_;refine aa.ab ay fw [0,3,5,6,7] ?_;simp[HJ];obtain⟨L,hL⟩:∃L,l.length=L:=⟨_,rfl⟩;rw[hL]at hl;refine aa.block ?_;refine aa.loop (λy:Nat=>⟨DM.look [(0,.v (.sl (ba l))),(3,.v (.box [ti af,ti at',ti ax,ti ac,.sl (cR ao)])),(5,.bk 1500 0),(6,.v (.bool (eR a (l.take y)).1)),(7,.v (ti y))],cE [(1500,.arr 0 77 5 (ba (eR a (l.take y)).2))],2000,1000,[]⟩)
  (λy=>y<=L/\(eR a (l.take y)).2.length<=2*y) (λy=>L-y) 0 (Le.aD ?_ ?_ ?_ ?_) (by simp[eR]) (λy hy=>?_)
 ·simp
 ·simp
 ·simp[eR,ba]
 ·simp[eR]
 obtain⟨jQ,fg⟩:=hy;refine aa.seq ?_;refine aa.ab ay fw [0,3,5,6,7,15] ?_;simp[HK,hL];refine aa.cond rfl (λbM=>?_) (λbM=>?_)
 ·simp at bM;have sX:y<l.length:=by omega
  have hr:=kN sX;have kq:=Fk (a:=a) sX;obtain⟨b,hb⟩:∃b,l.getD y default=b:=⟨_,rfl⟩;rw[hb]at hr kq;obtain⟨p,hp⟩:∃p,eR a (l.take y)=p:=⟨_,rfl⟩;rw[hp]at kq fg⊢;have hlen2:=Il a p b;obtain⟨dn,out⟩:=p;simp only at fg hlen2⊢;obtain⟨bf,bt,bx,bc,bo⟩:=b;have hsk:sameKey ⟨bf,bt,bx,bc,bo⟩ a=decide (bf=af/\bt=at'/\bx=ax):=by simp only[sameKey,haf,dF,hax]
  refine aa.skip ?_;simp;refine aa.seq ?_;obtain⟨q,hq⟩:∃q,dj a (dn,out) ⟨bf,bt,bx,bc,bo⟩=q:=⟨_,rfl⟩;rw[hq]at kq hlen2;unfold dj at hq;simp only[hsk]at hq;refine aa.to ⟨DM.look [(0,.v (.sl (ba l))),(3,.v (.box [ti af,ti at',ti ax,ti ac,.sl (cR ao)])),(5,.bk 1500 0),(6,.v (.bool q.1)),(7,.v (ti y))],cE [(1500,.arr 0 77 5 (ba q.2))],3000,1000,[]⟩ ?_ ?_
  ·refine aa.block ?_;refine aa.seq ?_;have hprow:[ti bf,ti bt,ti bx,ti bc,.sl (cR bo)]=(⟨bf,bt,bx,bc,bo⟩:bn).enc:=rfl;obtain⟨c1,bb⟩:∃c:Bool,decide (dn=false/\(bf=af/\bt=at'/\bx=ax))=c:=⟨_,rfl⟩;refine aa.bZ ay fw [(0,.v (.sl (ba l))),(3,.v (.box [ti af,ti at',ti ax,ti ac,.sl (cR ao)])),(5,.bk 1500 0),(6,.v (.bool dn)),(7,.v (ti y)),(49,.v (.bool c1))] ?_ ?_
   ·cases dn with
    |true=>
     have:c1=false:=by rw[<-bb];simp
     simp[vw,this]
    |false=>
     by_cases q1:bf=af
     ·by_cases q2:bt=at'
      ·by_cases q3:bx=ax
       ·have:c1=true:=by rw[<-bb];simp[q1,q2,q3]
        simp[vw,hr,bM,hL,bn.enc,q1,q2,q3,this]
       ·have:c1=false:=by rw[<-bb];simp[q3]
        simp[vw,hr,bM,hL,bn.enc,q1,q2,q3,this]
      ·have:c1=false:=by rw[<-bb];simp[q2]
       simp[vw,hr,bM,hL,bn.enc,q1,q2,this]
     ·have:c1=false:=by rw[<-bb];simp[q1]
      simp[vw,hr,bM,hL,bn.enc,q1,this]
   have tail:∀(dn':Bool) (XP:List bn),XP.length<=out.length+1->q=(dn',XP++[⟨bf,bt,bx,bc,bo⟩])->∀nx,aa Tryz.prog 90 (.region false A6) (tJ 1 λe s=>e=Exit.normal/\Le s ⟨DM.look [(0,.v (.sl (ba l))),(3,.v (.box [ti af,ti at',ti ax,ti ac,.sl (cR ao)])),(5,.bk 1500 0),(6,.v (.bool q.1)),(7,.v (ti y))],cE [(1500,.arr 0 77 5 (ba q.2))],3000,1000,[]⟩)
     ⟨DM.look [(0,.v (.sl (ba l))),(3,.v (.box [ti af,ti at',ti ax,ti ac,.sl (cR ao)])),(5,.bk 1500 0),(6,.v (.bool dn')),(7,.v (ti y))],cE [(1500,.arr 0 77 5 (ba XP))],nx,1000,[]⟩:=by
    intro dn' XP ho hqq nx;refine aa.dv ay fw [0,3,5,6,7] ?_;simp[A6,hr,bM,hL,bn.enc,cG,chunk];refine⟨by omega,Le.aD ?_ ?_ ?_ ?_⟩
    ·simp
    ·simp
    ·simp[hqq,pJ,bn.enc]
    ·simp[hqq]
   refine aa.cond rfl (λh1=>?_) (λh1=>?_)
   ·rw[h1]at bb;simp only[decide_eq_true_eq]at bb;obtain⟨El,Qi⟩:=bb;subst El;rw[if_pos ⟨rfl,by simpa using Qi⟩]at hq;refine aa.ab ay fw [0,3,5,6,7] ?_;simp[HL];refine aa.ab ay fw [0,3,5,6,7,57] ?_;simp[HM,hr,bM,hL,bn.enc];refine aa.cond rfl (λh2=>?_) (λh2=>?_)
    ·simp at h2;refine aa.ab ay fw [0,3,5,6,7] ?_;simp[A4,cG,chunk];refine⟨by omega, ?_⟩;refine aa.exit ?_;simp;rw[if_pos (by rw[hac];exact h2)]at hq;subst hq;refine Le.aD ?_ ?_ ?_ ?_
     ·simp
     ·simp
     ·simp[pJ,XO]
     ·simp
    ·simp at h2;rw[if_neg (by rw[hac];omega)]at hq;refine aa.skip ?_;simp;refine aa.le (Le.aD (o:=[(1500,.arr 0 77 5 (ba out))]) (l:=[(0,.v (.sl (ba l))),(3,.v (.box [ti af,ti at',ti ax,ti ac,.sl (cR ao)])),(5,.bk 1500 0),(6,.v (.bool true)),(7,.v (ti y))]) (nxt':=4000) ?_ ?_ ?_ ?_) ?_;iterate 4(·simp)
     refine aa.seq ?_;refine aa.bZ ay fw [(0,.v (.sl (ba l))),(3,.v (.box [ti af,ti at',ti ax,ti ac,.sl (cR ao)])),(5,.bk 1500 0),(6,.v (.bool true)),(7,.v (ti y)),(71,.v (.bool false))] (by simp[tV]) ?_;refine aa.cond rfl (λh=>by cases h) (λ_=>?_);refine aa.skip ?_;simp;refine aa.le (Le.aD (o:=[(1500,.arr 0 77 5 (ba out))]) (l:=[(0,.v (.sl (ba l))),(3,.v (.box [ti af,ti at',ti ax,ti ac,.sl (cR ao)])),(5,.bk 1500 0),(6,.v (.bool true)),(7,.v (ti y))]) (nxt':=5000) ?_ ?_ ?_ ?_) ?_;iterate 4(·simp)
     exact tail true out (by omega) hq.symm 5000
   ·rw[h1]at bb;simp only[decide_eq_false_iff_not]at bb;rw[if_neg (λh=>bb ⟨h.1,by simpa using h.2⟩)]at hq;refine aa.skip ?_;simp;refine aa.le (Le.aD (o:=[(1500,.arr 0 77 5 (ba out))]) (l:=[(0,.v (.sl (ba l))),(3,.v (.box [ti af,ti at',ti ax,ti ac,.sl (cR ao)])),(5,.bk 1500 0),(6,.v (.bool dn)),(7,.v (ti y))]) (nxt':=4000) ?_ ?_ ?_ ?_) ?_;iterate 4(·simp)
    refine aa.seq ?_;obtain⟨c2,dR⟩:∃c:Bool,decide (dn=false/\before a ⟨bf,bt,bx,bc,bo⟩)=c:=⟨_,rfl⟩;refine aa.bZ ay fw [(0,.v (.sl (ba l))),(3,.v (.box [ti af,ti at',ti ax,ti ac,.sl (cR ao)])),(5,.bk 1500 0),(6,.v (.bool dn)),(7,.v (ti y)),(71,.v (.bool c2))] ?_ ?_
    ·cases dn with
     |true=>
      have:c2=false:=by rw[<-dR];simp
      simp[tV,this]
     |false=>
      have:c2=decide (before a ⟨bf,bt,bx,bc,bo⟩):=by rw[<-dR];simp
      simp[tV,hr,bM,hL,bn.enc,this];rw[show lK [ti bf,ti bt,ti bx,ti bc,T.sl (cR bo)]=⟨bf,bt,bx,bc,bo⟩from mR ⟨bf,bt,bx,bc,bo⟩,show lK [ti af,ti at',ti ax,ti ac,T.sl (cR ao)]=a by rw[<-XO];exact mR a];exact⟨⟨⟨⟨af,at',ax,ac,ao⟩,rfl,rfl,rfl,rfl,rfl⟩,⟨⟨bf,bt,bx,bc,bo⟩,rfl,rfl,rfl,rfl,rfl⟩⟩,Iff.rfl⟩
    refine aa.cond rfl (λh2=>?_) (λh2=>?_)
    ·rw[h2]at dR;simp only[decide_eq_true_eq]at dR;obtain⟨El,Me⟩:=dR;subst El;rw[if_pos ⟨rfl,Me⟩]at hq;refine aa.ab ay fw [0,3,5,6,7] ?_;simp[ER];refine aa.dv ay fw [0,3,5,6,7] ?_;simp[A5,cG,chunk];refine⟨by omega, ?_⟩;refine aa.le (Le.aD (o:=[(1500,.arr 0 77 5 (ba (out++[a])))]) (l:=[(0,.v (.sl (ba l))),(3,.v (.box [ti af,ti at',ti ax,ti ac,.sl (cR ao)])),(5,.bk 1500 0),(6,.v (.bool true)),(7,.v (ti y))]) (nxt':=5000) ?_ ?_ ?_ ?_) ?_
     ·simp
     ·simp
     ·simp[pJ,XO]
     ·simp
     exact tail true (out++[a]) (by simp) hq.symm 5000
    ·rw[h2]at dR;simp only[decide_eq_false_iff_not]at dR;rw[if_neg dR]at hq;refine aa.skip ?_;simp;refine aa.le (Le.aD (o:=[(1500,.arr 0 77 5 (ba out))]) (l:=[(0,.v (.sl (ba l))),(3,.v (.box [ti af,ti at',ti ax,ti ac,.sl (cR ao)])),(5,.bk 1500 0),(6,.v (.bool dn)),(7,.v (ti y))]) (nxt':=5000) ?_ ?_ ?_ ?_) ?_;iterate 4(·simp)
     exact tail dn out (by omega) hq.symm 5000
  ·refine aa.dv ay fw [0,3,5,6,7] ?_;simp[A7];rw[au (by omega)];refine⟨y+1,Le.aD ?_ ?_ ?_ ?_,⟨by omega,by rw[kq];omega⟩,by omega⟩
   ·simp
   ·simp
   ·simp[kq]
   ·simp[kq]
 simp at bM;have sX:y=l.length:=by omega
 subst sX;rw[Zbn]at fg⊢;obtain⟨p,hp⟩:∃p,eR a l=p:=⟨_,rfl⟩;rw[hp]at hR fg⊢;obtain⟨dn,out⟩:=p;simp only at hR fg⊢;refine aa.exit ?_;simp;refine aa.seq ?_;refine aa.ab ay fw [3,5,84] ?_;simp[A8];refine aa.to ⟨DM.look [(5,.bk 1500 0)],cE [(1500,.arr 0 77 5 (ba R))],9000,1000,[]⟩ ?_ ?_
 ·refine aa.cond rfl (λh3=>?_) (λh3=>?_)
  ·simp at h3;subst h3;rw[if_neg (by simp)]at hR;refine aa.dv ay fw [5] ?_;simp[A9,cG,chunk];refine⟨by omega,Le.aD ?_ ?_ ?_ ?_⟩
   ·simp
   ·simp
   ·simp[<-hR,pJ,XO]
   ·simp
  ·simp at h3;subst h3;rw[if_pos rfl]at hR;subst hR;refine aa.skip ⟨rfl,Le.aD ?_ ?_ ?_ ?_⟩;iterate 3(·simp)
   ·simp
 refine aa.ab ay fw [4] ?_;simp[Ba];refine aa.ret ?_;simp[Bb]
@[simp] theorem decArc_enc'(a b c d:Int)(o:List (Int×Int)):lK [ti a,ti b,ti c,ti d,.sl (cR o)]=⟨a,b,c,d,o⟩:=mR ⟨a,b,c,d,o⟩
@[simp] theorem decArc_nil'(a b c d:Int):lK [ti a,ti b,ti c,ti d,.sl []]=⟨a,b,c,d,[]⟩:=mR ⟨a,b,c,d,[]⟩
def ft{α:Type}(f:Nat->List α)(i m:Nat):List α:=(List.range (m-i)).flatMap λe=>f (i+e)
theorem oY{α:Type}(f:Nat->List α){i m:Nat}(h:i<=m):ft f i (m+1)=ft f i m++f m:=by
 unfold ft;rw[show m+1-i=(m-i)+1 by omega,ZaD,Zct];simp[show i+(m-i)=m by omega]
theorem tz{α:Type}(f:Nat->List α)(i:Nat):ft f i i=[]:=by simp[ft]
def lG(x:Input)(m t:Nat):Int:=(x.aj.getD m default).read.getD t default
def rA(x:Input)(i m t:Nat):List bn:=if m<x.aj.length/\0<=lG x m t then [⟨2*i,2*m+2,t,jF (fU x i m) (lG x m t),dc (m-i)++[(1,(t:Int))]⟩]else []
def rS(x:Input)(i m:Nat):List bn:=if bX x m then [⟨2*i,2*m+1,(x.aj.getD (m+1) default).kind,jF (fU x i m) x.swap,dc (m-i)++[(4,0)]⟩]else []
def rM(x:Input)(i m:Nat):List bn:=ft (rA x i m) 0 x.insert.length++rS x i m
def rT(x:Input)(i:Nat):List bn:=if bX x i then [⟨2*i+1,2*i+4,(x.aj.getD i default).kind,0,[]⟩]else []
def rI(x:Input)(i:Nat):List bn:=ft (rM x i) i (x.aj.length+1)++rT x i
def iT(x:Input)(i m t:Nat):List bn:=[⟨2*i,2*m,t,jF (fU x i m) (x.insert.getD t default),dc (m-i)++[(3,(t:Int))]⟩]
def iM(x:Input)(i m:Nat):List bn:=ft (iT x i m) 0 x.insert.length
def iI(x:Input)(i:Nat):List bn:=ft (iM x i) i (x.aj.length+1)
def bl(l cs:List bn):List bn:=cs.foldl oV l
theorem cU(l cs ds:List bn):bl l (cs++ds)=bl (bl l cs) ds:=by simp[bl]
def dP(x:Input):List bn:=bl (bl [] (ft (rI x) 0 (x.aj.length+1))) (ft (iI x) 0 (x.aj.length+1))
def dS(x:Input)(k:Nat):List Int:=(List.range (2*x.aj.length+1)).map λs=>if s<k then(if s % 2=0 then fU x (s/2) x.aj.length else 1099511627776)else 0
def aH(x:Input):aL:=⟨2*x.aj.length+1,dP x,dS x (2*x.aj.length+1)⟩
theorem Fl(a:bn)(p:Bool×List bn)(b:bn):(dj a p b).2.length+p.1.toNat<=p.2.length+1+(dj a p b).1.toNat:=by
 unfold dj;cases hp:p.1 with
 |true=>simp
 |false=>
  simp only[true_and,Bool.toNat_false];split
  ·simp
  ·split<;>simp
theorem Im(a:bn)(l:List bn):(eR a l).2.length<=l.length+(eR a l).1.toNat:=by
 have key:∀(l:List bn) (p:Bool×List bn),(l.foldl (dj a) p).2.length+p.1.toNat<=p.2.length+l.length+(l.foldl (dj a) p).1.toNat:=by
  intro l;induction l with
  |nil=>intro p;simp
  |cons b l ih=>
   intro p;simp only[ZaB,Za9];have h:=ih (dj a p b);have hs:=Fl a p b;omega
 have h:=key l (false,[]);simpa [eR]using h
theorem U6(l:List bn)(a:bn):(oV l a).length<=l.length+1:=by
 have h:=Im a l;unfold oV;split
 ·omega
 ·split
  ·rename_i hd;rw[hd]at h;simpa using h
  ·rename_i hd;simp only[ZcJ]at hd;rw[hd]at h;simp at h⊢;omega
theorem il(cs:List bn):∀l:List bn,(bl l cs).length<=l.length+cs.length:=by
 induction cs with
 |nil=>intro l;simp[bl]
 |cons c cs ih=>
  intro l;have h1:=ih (oV l c);have h2:=U6 l c;have e:bl l (c::cs)=bl (oV l c) cs:=rfl;rw[e];simp only[Za9];omega
theorem U7(x:Input)(i m t:Nat):(rA x i m t).length<=1:=by unfold rA;split<;>simp
theorem rS_len(x:Input)(i m:Nat):(rS x i m).length<=1:=by unfold rS;split<;>simp
theorem rT_len(x:Input)(i:Nat):(rT x i).length<=1:=by unfold rT;split<;>simp
theorem lL{α:Type}{f:Nat->List α}{B:Nat}(h:∀k,(f k).length<=B)(i m:Nat):(ft f i m).length<=(m-i)*B:=by
 unfold ft;have:∀k,((List.range k).flatMap λe=>f (i+e)).length<=k*B:=by
  intro k;induction k with
  |zero=>simp
  |succ k ih=>
   rw[ZaD,Zct,ZaA,Nat.succ_mul];have:=h (i+k);simp only[Zbo,List.flatMap_nil,ZaJ];omega
 exact this _
theorem U8(x:Input)(i m:Nat)(h:x.insert.length<=100):(rM x i m).length<=101:=by
 unfold rM;have h1:=lL (U7 x i m) 0 x.insert.length;have h2:=rS_len x i m;rw[ZaA];omega
theorem U9(x:Input)(i:Nat)(h:x.insert.length<=100)(hn:x.aj.length<=60):(rI x i).length<=7000:=by
 unfold rI;have h1:=lL (f:=rM x i) (B:=101) (λk=>U8 x i k h) i (x.aj.length+1);have h2:=rT_len x i;rw[ZaA];omega
theorem Va(x:Input)(i m:Nat)(h:x.insert.length<=100):(iM x i m).length<=100:=by
 unfold iM;have h1:=lL (f:=iT x i m) (B:=1) (λk=>by simp[iT]) 0 x.insert.length;omega
theorem Vb(x:Input)(i:Nat)(h:x.insert.length<=100)(hn:x.aj.length<=60):(iI x i).length<=7000:=by
 unfold iI;have h1:=lL (f:=iM x i) (B:=100) (λk=>Va x i k h) i (x.aj.length+1);omega
abbrev s34(x:Input):DM.Spec:=ct (λts=>∃i m:Nat,ts=[x.enc,ti i,ti m]/\i<=m/\m<=x.aj.length) (fun|[_,.int _ i,.int _ m]=>ti (fU x i.toNat m.toNat)|_=>.bool false) true
abbrev s38(x:Input):DM.Spec:=ct (λts=>∃m:Nat,ts=[x.enc,ti m]/\m<=1000000) (fun|[_,.int _ m]=>.bool (bX x m.toNat)|_=>.bool false) true
abbrev s37:DM.Spec:=ct (λts=>∃(n:Nat) (a b:Int),ts=[ti n,.agg [ti a,ti b]]/\n<=1000000) (fun|[.int _ n,.agg [.int _ a,.int _ b]]=>.sl (cR (dc n.toNat++[(a,b)]))|_=>.bool false) false
abbrev s35:DM.Spec:=ct (λts=>∃(l:List bn) (a:bn),ts=[.sl (ba l),.agg a.enc]/\l.length<=1000000000) (fun|[.sl l,.agg a]=>.sl (ba (oV (zm l) (lK a)))|_=>.bool false) false
abbrev Γ14(x:Input):Env:=aW [(26,s34 x),(30,s38 x),(29,s37),(27,s35),(28,U4)]
theorem Tw(x:Input)(hd:nf x.aj):aw Tryz.prog (Γ14 x):=by
 refine aw.cons (aw.cons (aw.cons (aw.cons XN ?_) ?_) ?_) ?_
 ·rintro ts ⟨l,a,rfl,h⟩;exact⟨by simpa using t35 l a h,λh=>by cases h⟩
 ·rintro ts ⟨n,a,b,rfl,h⟩;exact⟨by simpa using t37 n a b h,λh=>by cases h⟩
 ·rintro ts ⟨m,rfl,h⟩;exact⟨by simpa using t38 x m h hd.1,λ_=>rfl⟩
 ·rintro ts ⟨i,m,rfl,h1,h2⟩;exact⟨by simpa using t34 x i m h1 h2 hd,λ_=>rfl⟩
theorem t14(x:Input)(hx:HP x)(hn60:x.aj.length<=60)(ht:x.insert.length<=100)(hread:∀c∈x.aj,c.read.length=x.insert.length):aT Tryz.prog 12 [x.enc] (aH x).enc:=by
 have ay:=Tw x hx.1;have Az:T.agg [.sl (aZ x.aj),.sl (aB x.insert),ti x.swap]=x.enc:=rfl;obtain⟨hd,mA,hins,UW,hsw0,zF⟩:=hx;obtain⟨n,hn⟩:∃n,x.aj.length=n:=⟨_,rfl⟩;obtain⟨tm,iX⟩:∃n,x.insert.length=n:=⟨_,rfl⟩;have Yz:=eC hd;have lenA:∀y,y<=n+1->(bl [] (ft (rI x) 0 y)).length<=430000:=by
  intro y hy;have h1:=il (ft (rI x) 0 y) [];have h2:=lL (f:=rI x) (B:=7000) (λk=>U9 x k ht hn60) 0 y;simp at h1;omega
 obtain⟨R,hR⟩:∃R,(aH x).enc=R:=⟨_,rfl⟩;refine c14.ok (by simp) (aJ ?_);rw[hR];simp only[aH,dP]at hR;simp[Input.enc];refine aa.ab ay fw [1,2] ?_;simp[GU];refine aa.le (Le.aD (o:=[(1003,.box [.v (ti 0),.aI,.aI])]) (l:=[(1,.v (.box [.sl (aZ x.aj),.sl (aB x.insert),ti x.swap])),(2,.ptr 1003 0)]) (nxt':=1500) ?_ ?_ ?_ ?_) ?_;iterate 4(·simp)
 refine aa.ab ay fw [1,2,3] ?_;simp[GV,hn];refine aa.ab ay fw [1,2,3,4] ?_;simp[d14r2];refine aa.seq ?_;refine aa.le (Le.aD (o:=[(1003,.box [.v (ti 0),.aI,.aI])]) (l:=[(1,.v (.box [.sl (aZ x.aj),.sl (aB x.insert),ti x.swap])),(2,.ptr 1003 0),(3,.v (ti n)),(4,.v (.sl (ba [])))]) (nxt':=2500) ?_ ?_ ?_ ?_) ?_;iterate 3(·simp)
 ·simp[ba]
 refine aa.ab ay fw [1,2,3,4,5] ?_;simp[d14r3];obtain⟨Ic,K7⟩:∃l,bl [] (ft (rI x) 0 (n+1))=l:=⟨_,rfl⟩;have lal1:Ic.length<=430000:=by rw[<-K7];exact lenA _ (by omega)
 refine aa.to ⟨DM.look [(1,.v (.box [.sl (aZ x.aj),.sl (aB x.insert),ti x.swap])),(2,.ptr 1003 0),(3,.v (ti n)),(4,.v (.sl (ba Ic)))],cE [(1003,.box [.v (ti 0),.aI,.aI])],100000,1000,[]⟩ ?_ ?_
 ·refine aa.block ?_;refine aa.loop (λy:Nat=>⟨DM.look [(1,.v (.box [.sl (aZ x.aj),.sl (aB x.insert),ti x.swap])),(2,.ptr 1003 0),(3,.v (ti n)),(4,.v (.sl (ba (bl [] (ft (rI x) 0 y))))),(5,.v (ti y))],cE [(1003,.box [.v (ti 0),.aI,.aI])],10000,1000,[]⟩)
   (λy=>y<=n+1) (λy=>n+1-y) 0 (Le.aD ?_ ?_ ?_ ?_) (by simp) (λy hy=>?_)
  iterate 3(·simp)
  ·simp[tz,bl]
  have lal:=lenA y hy;have Ld:=oY (rI x) (Zbf y);obtain⟨al,kj⟩:∃l,bl [] (ft (rI x) 0 y)=l:=⟨_,rfl⟩;have p8:bl [] (ft (rI x) 0 (y+1))=bl al (rI x y):=by rw[Ld,cU,kj]
  rw[kj]at lal⊢;refine aa.seq ?_;refine aa.ab ay fw [1,2,3,4,5,20] ?_;simp[d14r4];refine aa.cond rfl (λbM=>?_) (λbM=>?_)
  ·simp at bM;have w2y:IntKind.i64.wrap (2*(y:Int))=2*y:=au (by omega);refine aa.skip ?_;simp;refine aa.seq ?_;refine aa.to ⟨DM.look [(1,.v (.box [.sl (aZ x.aj),.sl (aB x.insert),ti x.swap])),(2,.ptr 1003 0),(3,.v (ti n)),(4,.v (.sl (ba (bl al (rI x y))))),(5,.v (ti y))],cE [(1003,.box [.v (ti 0),.aI,.aI])],50000,1000,[]⟩ ?_ ?_
   ·refine aa.block ?_;refine aa.seq ?_;refine aa.ab ay fw [1,2,3,4,5,6] ?_;simp[d14r5];obtain⟨Jg,xB⟩:∃l,bl al (ft (rM x y) y (n+1))=l:=⟨_,rfl⟩;have lB:∀m,m<=n+1->(bl al (ft (rM x y) y m)).length<=440000:=by
     intro m hm;have h1:=il (ft (rM x y) y m) al;have h2:=lL (f:=rM x y) (B:=101) (λk=>U8 x y k ht) y m;omega
    have lal2:Jg.length<=440000:=by rw[<-xB];exact lB _ (by omega)
    have mD:bl al (rI x y)=bl Jg (rT x y):=by rw[<-xB,<-cU];unfold rI;rw[hn]
    refine aa.to ⟨DM.look [(1,.v (.box [.sl (aZ x.aj),.sl (aB x.insert),ti x.swap])),(2,.ptr 1003 0),(3,.v (ti n)),(4,.v (.sl (ba Jg))),(5,.v (ti y))],cE [(1003,.box [.v (ti 0),.aI,.aI])],40000,1000,[]⟩ ?_ ?_
    ·refine aa.block ?_;refine aa.loop (λm:Nat=>⟨DM.look [(1,.v (.box [.sl (aZ x.aj),.sl (aB x.insert),ti x.swap])),(2,.ptr 1003 0),(3,.v (ti n)),(4,.v (.sl (ba (bl al (ft (rM x y) y m))))),(5,.v (ti y)),(6,.v (ti m))],cE [(1003,.box [.v (ti 0),.aI,.aI])],20000,1000,[]⟩)
      (λm=>y<=m/\m<=n+1) (λm=>n+1-m) y (Le.aD ?_ ?_ ?_ ?_) (by omega) (λm hm=>?_)
     iterate 3(·simp)
     ·simp[tz,bl]
     obtain⟨wk,D5⟩:=hm;have lalm:=lB m D5;have Lf:=oY (rM x y) wk;obtain⟨FQ,Lg⟩:∃l,bl al (ft (rM x y) y m)=l:=⟨_,rfl⟩;have Lh:bl al (ft (rM x y) y (m+1))=bl FQ (rM x y m):=by rw[Lf,cU,Lg]
     rw[Lg]at lalm⊢;refine aa.seq ?_;refine aa.ab ay fw [1,2,3,4,5,6,26] ?_;simp[d14r6];refine aa.cond rfl (λD3=>?_) (λD3=>?_)
     ·simp at D3;have w2m:IntKind.i64.wrap (2*(m:Int))=2*m:=au (by omega);have w2m1:IntKind.i64.wrap (2*(m:Int)+1)=2*m+1:=au (by omega);have w2m2:IntKind.i64.wrap (2*(m:Int)+2)=2*m+2:=au (by omega);have wm1:IntKind.i64.wrap ((m:Int)+1)=m+1:=au (by omega);have wmy:IntKind.i64.wrap ((m:Int)-y)=((m-y:Nat):Int):=by rw[au (by omega)];omega
      obtain⟨d,hdd⟩:∃d,fU x y m=d:=⟨_,rfl⟩;have hdb':=Yz y m;rw[hdd]at hdb';refine aa.skip ?_;simp;refine aa.seq ?_;refine aa.to ⟨DM.look [(1,.v (.box [.sl (aZ x.aj),.sl (aB x.insert),ti x.swap])),(2,.ptr 1003 0),(3,.v (ti n)),(4,.v (.sl (ba (bl FQ (rM x y m))))),(5,.v (ti y)),(6,.v (ti m))],cE [(1003,.box [.v (ti 0),.aI,.aI])],40000,1000,[]⟩ ?_ ?_
      ·refine aa.block ?_;refine aa.ab ay fw [1,2,3,4,5,6,7] ?_;simp[d14r7,Az,hdd];refine⟨⟨y,m,⟨rfl,rfl⟩,wk,by omega⟩, ?_⟩;refine aa.seq ?_;refine aa.ab ay fw [1,2,3,4,5,6,7,8] ?_;simp[d14r8];obtain⟨al3,OY⟩:∃l,bl FQ (ft (rA x y m) 0 tm)=l:=⟨_,rfl⟩;have lC:∀t,t<=tm->(bl FQ (ft (rA x y m) 0 t)).length<=450000:=by
        intro t WQ;have h1:=il (ft (rA x y m) 0 t) FQ;have h2:=lL (f:=rA x y m) (B:=1) (λk=>U7 x y m k) 0 t;omega
       have lal3:al3.length<=450000:=by rw[<-OY];exact lC _ (by omega)
       have hfin3:bl FQ (rM x y m)=bl al3 (rS x y m):=by rw[<-OY,<-cU];unfold rM;rw[iX]
       refine aa.to ⟨DM.look [(1,.v (.box [.sl (aZ x.aj),.sl (aB x.insert),ti x.swap])),(2,.ptr 1003 0),(3,.v (ti n)),(4,.v (.sl (ba al3))),(5,.v (ti y)),(6,.v (ti m)),(7,.v (ti d))],cE [(1003,.box [.v (ti 0),.aI,.aI])],40000,1000,[]⟩ ?_ ?_
       ·refine aa.block ?_;refine aa.loop (λt:Nat=>⟨DM.look [(1,.v (.box [.sl (aZ x.aj),.sl (aB x.insert),ti x.swap])),(2,.ptr 1003 0),(3,.v (ti n)),(4,.v (.sl (ba (bl FQ (ft (rA x y m) 0 t))))),(5,.v (ti y)),(6,.v (ti m)),(7,.v (ti d)),(8,.v (ti t))],cE [(1003,.box [.v (ti 0),.aI,.aI])],30000,1000,[]⟩)
         (λt=>t<=tm) (λt=>tm-t) 0 (Le.aD ?_ ?_ ?_ ?_) (by simp) (λt WQ=>?_)
        iterate 3(·simp)
        ·simp[tz,bl]
        have lalt:=lC t WQ;have Li:=oY (rA x y m) (Zbf t);obtain⟨alt,halt⟩:∃l,bl FQ (ft (rA x y m) 0 t)=l:=⟨_,rfl⟩;have Bs:bl FQ (ft (rA x y m) 0 (t+1))=bl alt (rA x y m t):=by rw[Li,cU,halt]
        rw[halt]at lalt⊢;refine aa.seq ?_;refine aa.ab ay fw [1,2,3,4,5,6,7,8,37] ?_;simp[d14r9,iX];refine aa.cond rfl (λhct=>?_) (λhct=>?_)
        ·simp at hct;refine aa.skip ?_;simp;refine aa.seq ?_;obtain⟨q,hq⟩:∃q,rA x y m t=q:=⟨_,rfl⟩;rw[hq]at Bs;unfold rA at hq;rw[hdd,hn]at hq;refine aa.to ⟨DM.look [(1,.v (.box [.sl (aZ x.aj),.sl (aB x.insert),ti x.swap])),(2,.ptr 1003 0),(3,.v (ti n)),(4,.v (.sl (ba (bl alt q)))),(5,.v (ti y)),(6,.v (ti m)),(7,.v (ti d)),(8,.v (ti t))],cE [(1003,.box [.v (ti 0),.aI,.aI])],40000,1000,[]⟩ ?_ ?_
         ·refine aa.block ?_;obtain⟨c,hc⟩:∃c:Bool,decide (m<n/\0<=lG x m t)=c:=⟨_,rfl⟩;by_cases Pw:m<n
          ·have hmc:m<x.aj.length:=by omega
           have J0:=dO hmc;obtain⟨cl,bd⟩:∃c,x.aj.getD m default=c:=⟨_,rfl⟩;have hclm:cl∈x.aj:=by rw[<-bd];simp[List.getD,hmc]
           have Px:=hread cl hclm;have hcok:=mA cl hclm;rw[bd]at J0;have htr:t<cl.read.length:=by omega
           have tD:=cP htr;have Gh:lG x m t=cl.read.getD t default:=by unfold lG;rw[bd]
           rw[Gh]at hq hc;obtain⟨u,hu⟩:∃u,cl.read.getD t default=u:=⟨_,rfl⟩;rw[hu]at tD hq hc;refine aa.bZ ay fw [(1,.v (.box [.sl (aZ x.aj),.sl (aB x.insert),ti x.swap])),(2,.ptr 1003 0),(3,.v (ti n)),(4,.v (.sl (ba alt))),(5,.v (ti y)),(6,.v (ti m)),(7,.v (ti d)),(8,.v (ti t)),(54,.v (.bool c))] ?_ ?_
           ·by_cases q2:0<=u
            ·have zX:c=true:=by rw[<-hc];simp[Pw,q2]
             simp[Fc,Pw,hn,J0,bC.enc,htr,tD,q2,zX]
            ·have zX:c=false:=by rw[<-hc];simp[q2]
             simp[Fc,Pw,hn,J0,bC.enc,htr,tD,q2,zX]
           refine aa.cond rfl (λh=>?_) (λh=>?_)
           ·rw[h]at hc;simp only[decide_eq_true_eq]at hc;rw[if_pos hc]at hq;have hub:u<=1099511627776:=hcok.2 u (by rw[<-hu];simp[List.getD,htr]);subst hq;refine aa.dv ay fw [1,2,3,4,5,6,7,8] ?_;simp[Up,w2y,w2m,w2m2,wmy,Pw,hn,J0,bC.enc,htr,tD];refine⟨⟨d,u,⟨rfl,rfl⟩,by omega,by omega⟩,⟨m-y,rfl,by omega⟩,⟨alt,⟨rfl,⟨⟨2*y,2*m+2,t,jF d u,dc (m-y)++[(1,(t:Int))]⟩,rfl⟩⟩,by omega⟩,Le.aD ?_ ?_ ?_ ?_⟩;iterate 3(·simp)
            ·simp[bl]
           ·rw[h]at hc;simp only[decide_eq_false_iff_not]at hc;rw[if_neg hc]at hq;subst hq;refine aa.skip ⟨rfl,Le.aD ?_ ?_ ?_ ?_⟩;iterate 3(·simp)
            ·simp[bl]
          ·have zX:c=false:=by rw[<-hc];simp[Pw]
           rw[if_neg (λh=>Pw h.1)]at hq;subst hq;refine aa.bZ ay fw [(1,.v (.box [.sl (aZ x.aj),.sl (aB x.insert),ti x.swap])),(2,.ptr 1003 0),(3,.v (ti n)),(4,.v (.sl (ba alt))),(5,.v (ti y)),(6,.v (ti m)),(7,.v (ti d)),(8,.v (ti t)),(54,.v (.bool false))] ?_ ?_
           ·simp[Fc,Pw]
           refine aa.cond rfl (λh=>by cases h) (λ_=>?_);refine aa.skip ⟨rfl,Le.aD ?_ ?_ ?_ ?_⟩;iterate 3(·simp)
           ·simp[bl]
         ·refine aa.dv ay fw [1,2,3,4,5,6,7,8] ?_;simp[Uq];rw[au (by omega)];refine⟨t+1,Le.aD ?_ ?_ ?_ ?_,by omega,by omega⟩;iterate 3(·simp)
          ·simp[Bs]
        ·simp at hct;have:t=tm:=by omega
         subst this;refine aa.exit ⟨rfl,Le.aD ?_ ?_ ?_ ?_⟩;iterate 3(·simp)
         ·simp[<-OY,halt]
       simp;refine aa.ab ay fw [1,2,3,4,5,6,7,83] ?_;simp[Ur,Az];refine⟨⟨m,rfl,by omega⟩, ?_⟩;rw[hfin3];obtain⟨q,hq⟩:∃q,rS x y m=q:=⟨_,rfl⟩;rw[hq];unfold rS at hq;rw[hdd]at hq;refine aa.cond rfl (λh=>?_) (λh=>?_)
       ·rw[if_pos h]at hq;have Ie:m+1<x.aj.length:=by simp[bX]at h;exact h.1
        have J0:DM.rowAt (aZ x.aj) ((m:Int)+1)=_:=dO Ie;obtain⟨cl,bd⟩:∃c,x.aj.getD (m+1) default=c:=⟨_,rfl⟩;rw[bd]at J0 hq;have hlt1:((m:Int)+1<n)=True:=by simp;omega
        have E0:(0<=(m:Int)+1)=True:=by simp;omega
        subst hq;refine aa.dv ay fw [1,2,3,4,5,6] ?_;simp[Us,w2y,w2m,w2m1,wm1,wmy,hn,J0,hlt1,E0,bC.enc];refine⟨⟨d,x.swap,⟨rfl,rfl⟩,by omega,by omega⟩,⟨m-y,rfl,by omega⟩,⟨al3,⟨rfl,⟨⟨2*y,2*m+1,cl.kind,jF d x.swap,dc (m-y)++[(4,0)]⟩,rfl⟩⟩,by omega⟩,Le.aD ?_ ?_ ?_ ?_⟩;iterate 3(·simp)
        ·simp[bl]
       ·rw[if_neg (by simp[h])]at hq;subst hq;refine aa.skip ⟨rfl,Le.aD ?_ ?_ ?_ ?_⟩;iterate 3(·simp)
        ·simp[bl]
      ·refine aa.dv ay fw [1,2,3,4,5,6] ?_;simp[Ut];rw[au (by omega)];refine⟨m+1,Le.aD ?_ ?_ ?_ ?_,by omega,by omega⟩;iterate 3(·simp)
       ·simp[Lh]
     ·simp at D3;have:m=n+1:=by omega
      subst this;refine aa.exit ⟨rfl,Le.aD ?_ ?_ ?_ ?_⟩;iterate 3(·simp)
      ·simp[<-xB,Lg]
    simp;refine aa.ab ay fw [1,2,3,4,5,110] ?_;simp[Uu,Az];refine⟨⟨y,rfl,by omega⟩, ?_⟩;rw[mD];obtain⟨q,hq⟩:∃q,rT x y=q:=⟨_,rfl⟩;rw[hq];unfold rT at hq;refine aa.cond rfl (λh=>?_) (λh=>?_)
    ·rw[if_pos h]at hq;have Ie:y<x.aj.length:=by simp[bX]at h;omega
     have J0:=dO Ie;obtain⟨cl,bd⟩:∃c,x.aj.getD y default=c:=⟨_,rfl⟩;rw[bd]at J0 hq;have w2y1:IntKind.i64.wrap (2*(y:Int)+1)=2*y+1:=au (by omega);have w2y4:IntKind.i64.wrap (2*(y:Int)+4)=2*y+4:=au (by omega);have hyn:y<n:=by omega
     subst hq;refine aa.dv ay fw [1,2,3,4,5] ?_;simp[Uv,w2y,w2y1,w2y4,hn,J0,hyn,bC.enc];refine⟨⟨Jg,⟨rfl,⟨⟨2*y+1,2*y+4,cl.kind,0,[]⟩,rfl⟩⟩,by omega⟩,Le.aD ?_ ?_ ?_ ?_⟩;iterate 3(·simp)
     ·simp[bl]
    ·rw[if_neg (by simp[h])]at hq;subst hq;refine aa.skip ⟨rfl,Le.aD ?_ ?_ ?_ ?_⟩;iterate 3(·simp)
     ·simp[bl]
   ·refine aa.dv ay fw [1,2,3,4,5] ?_;simp[Uw];rw[au (by omega)];refine⟨y+1,Le.aD ?_ ?_ ?_ ?_,by omega,by omega⟩;iterate 3(·simp)
    ·simp[p8]
  ·simp at bM;have:y=n+1:=by omega
   subst this;refine aa.exit ⟨rfl,Le.aD ?_ ?_ ?_ ?_⟩;iterate 3(·simp)
   ·simp[<-K7,kj]
 simp;refine aa.seq ?_;refine aa.ab ay fw [1,2,3,4,9] ?_;simp[Ux];obtain⟨Jg,xB⟩:∃l,bl Ic (ft (iI x) 0 (n+1))=l:=⟨_,rfl⟩;have O2:∀y,y<=n+1->(bl Ic (ft (iI x) 0 y)).length<=900000:=by
  intro y hy;have h1:=il (ft (iI x) 0 y) Ic;have h2:=lL (f:=iI x) (B:=7000) (λk=>Vb x k ht hn60) 0 y;omega
 refine aa.to ⟨DM.look [(1,.v (.box [.sl (aZ x.aj),.sl (aB x.insert),ti x.swap])),(2,.ptr 1003 0),(3,.v (ti n)),(4,.v (.sl (ba Jg)))],cE [(1003,.box [.v (ti 0),.aI,.aI])],100000,1000,[]⟩ ?_ ?_
 ·refine aa.block ?_;refine aa.loop (λy:Nat=>⟨DM.look [(1,.v (.box [.sl (aZ x.aj),.sl (aB x.insert),ti x.swap])),(2,.ptr 1003 0),(3,.v (ti n)),(4,.v (.sl (ba (bl Ic (ft (iI x) 0 y))))),(9,.v (ti y))],cE [(1003,.box [.v (ti 0),.aI,.aI])],110000,1000,[]⟩)
   (λy=>y<=n+1) (λy=>n+1-y) 0 (Le.aD ?_ ?_ ?_ ?_) (by simp) (λy hy=>?_)
  iterate 3(·simp)
  ·simp[tz,bl]
  have lal:=O2 y hy;have Ld:=oY (iI x) (Zbf y);obtain⟨al,kj⟩:∃l,bl Ic (ft (iI x) 0 y)=l:=⟨_,rfl⟩;have p8:bl Ic (ft (iI x) 0 (y+1))=bl al (iI x y):=by rw[Ld,cU,kj]
  rw[kj]at lal⊢;refine aa.seq ?_;refine aa.ab ay fw [1,2,3,4,9,128] ?_;simp[Uy];refine aa.cond rfl (λbM=>?_) (λbM=>?_)
  ·simp at bM;have w2y:IntKind.i64.wrap (2*(y:Int))=2*y:=au (by omega);refine aa.skip ?_;simp;refine aa.seq ?_;refine aa.to ⟨DM.look [(1,.v (.box [.sl (aZ x.aj),.sl (aB x.insert),ti x.swap])),(2,.ptr 1003 0),(3,.v (ti n)),(4,.v (.sl (ba (bl al (iI x y))))),(9,.v (ti y))],cE [(1003,.box [.v (ti 0),.aI,.aI])],150000,1000,[]⟩ ?_ ?_
   ·refine aa.block ?_;refine aa.ab ay fw [1,2,3,4,9,10] ?_;simp[Uz];have lB:∀m,m<=n+1->(bl al (ft (iM x y) y m)).length<=910000:=by
     intro m hm;have h1:=il (ft (iM x y) y m) al;have h2:=lL (f:=iM x y) (B:=100) (λk=>Va x y k ht) y m;omega
    refine aa.block ?_;refine aa.loop (λm:Nat=>⟨DM.look [(1,.v (.box [.sl (aZ x.aj),.sl (aB x.insert),ti x.swap])),(2,.ptr 1003 0),(3,.v (ti n)),(4,.v (.sl (ba (bl al (ft (iM x y) y m))))),(9,.v (ti y)),(10,.v (ti m))],cE [(1003,.box [.v (ti 0),.aI,.aI])],120000,1000,[]⟩)
     (λm=>y<=m/\m<=n+1) (λm=>n+1-m) y (Le.aD ?_ ?_ ?_ ?_) (by omega) (λm hm=>?_)
    iterate 3(·simp)
    ·simp[tz,bl]
    obtain⟨wk,D5⟩:=hm;have lalm:=lB m D5;have Lf:=oY (iM x y) wk;obtain⟨FQ,Lg⟩:∃l,bl al (ft (iM x y) y m)=l:=⟨_,rfl⟩;have Lh:bl al (ft (iM x y) y (m+1))=bl FQ (iM x y m):=by rw[Lf,cU,Lg]
    rw[Lg]at lalm⊢;refine aa.seq ?_;refine aa.ab ay fw [1,2,3,4,9,10,134] ?_;simp[UA];refine aa.cond rfl (λD3=>?_) (λD3=>?_)
    ·simp at D3;have w2m:IntKind.i64.wrap (2*(m:Int))=2*m:=au (by omega);have wmy:IntKind.i64.wrap ((m:Int)-y)=((m-y:Nat):Int):=by rw[au (by omega)];omega
     obtain⟨d,hdd⟩:∃d,fU x y m=d:=⟨_,rfl⟩;have hdb':=Yz y m;rw[hdd]at hdb';refine aa.skip ?_;simp;refine aa.seq ?_;refine aa.to ⟨DM.look [(1,.v (.box [.sl (aZ x.aj),.sl (aB x.insert),ti x.swap])),(2,.ptr 1003 0),(3,.v (ti n)),(4,.v (.sl (ba (bl FQ (iM x y m))))),(9,.v (ti y)),(10,.v (ti m))],cE [(1003,.box [.v (ti 0),.aI,.aI])],140000,1000,[]⟩ ?_ ?_
     ·refine aa.block ?_;refine aa.ab ay fw [1,2,3,4,9,10,11] ?_;simp[UB];have lC:∀t,t<=tm->(bl FQ (ft (iT x y m) 0 t)).length<=920000:=by
       intro t WQ;have h1:=il (ft (iT x y m) 0 t) FQ;have h2:=lL (f:=iT x y m) (B:=1) (λk=>by simp[iT]) 0 t;omega
      refine aa.block ?_;refine aa.loop (λt:Nat=>⟨DM.look [(1,.v (.box [.sl (aZ x.aj),.sl (aB x.insert),ti x.swap])),(2,.ptr 1003 0),(3,.v (ti n)),(4,.v (.sl (ba (bl FQ (ft (iT x y m) 0 t))))),(9,.v (ti y)),(10,.v (ti m)),(11,.v (ti t))],cE [(1003,.box [.v (ti 0),.aI,.aI])],130000,1000,[]⟩)
       (λt=>t<=tm) (λt=>tm-t) 0 (Le.aD ?_ ?_ ?_ ?_) (by simp) (λt WQ=>?_)
      iterate 3(·simp)
      ·simp[tz,bl]
      have lalt:=lC t WQ;have Li:=oY (iT x y m) (Zbf t);obtain⟨alt,halt⟩:∃l,bl FQ (ft (iT x y m) 0 t)=l:=⟨_,rfl⟩;have Bs:bl FQ (ft (iT x y m) 0 (t+1))=bl alt (iT x y m t):=by rw[Li,cU,halt]
      rw[halt]at lalt⊢;refine aa.seq ?_;refine aa.ab ay fw [1,2,3,4,9,10,11,141] ?_;simp[UC,iX];refine aa.cond rfl (λhct=>?_) (λhct=>?_)
      ·simp at hct;refine aa.skip ?_;simp;refine aa.seq ?_;refine aa.block ?_;have htx:t<x.insert.length:=by omega
       have tD:=cP htx;obtain⟨u,hu⟩:∃u,x.insert.getD t default=u:=⟨_,rfl⟩;have hub:=UW u (by rw[<-hu];simp[List.getD,htx]);have hiT:iT x y m t=[⟨2*y,2*m,t,jF d u,dc (m-y)++[(3,(t:Int))]⟩]:=by unfold iT;rw[hdd,hu]
       rw[hu]at tD;refine aa.dv ay fw [1,2,3,4,9,10,11] ?_;simp[UD,Az,hdd,w2y,w2m,wmy,iX,tD,hct];refine⟨⟨y,m,⟨rfl,rfl⟩,wk,by omega⟩,⟨d,u,⟨rfl,rfl⟩,by omega,by omega⟩,⟨m-y,rfl,by omega⟩,⟨alt,⟨rfl,⟨⟨2*y,2*m,t,jF d u,dc (m-y)++[(3,(t:Int))]⟩,rfl⟩⟩,by omega⟩, ?_⟩;refine aa.dv ay fw [1,2,3,4,9,10,11] ?_;simp[UE];rw[au (by omega)];refine⟨t+1,Le.aD ?_ ?_ ?_ ?_,by omega,by omega⟩;iterate 3(·simp)
       ·rw[hiT]at Bs;have TO:bl FQ (ft (iT x y m) 0 (t+1))=oV alt ⟨2*y,2*m,t,jF d u,dc (m-y)++[(3,(t:Int))]⟩:=Bs;simp[TO]
      ·simp at hct;have:t=tm:=by omega
       subst this;refine aa.exit ⟨rfl,Le.aD ?_ ?_ ?_ ?_⟩;iterate 3(·simp)
       ·simp[<-halt,iM,iX]
     ·refine aa.dv ay fw [1,2,3,4,9,10] ?_;simp[UF];rw[au (by omega)];refine⟨m+1,Le.aD ?_ ?_ ?_ ?_,by omega,by omega⟩;iterate 3(·simp)
      ·simp[Lh]
    ·simp at D3;have:m=n+1:=by omega
     subst this;refine aa.exit ⟨rfl,Le.aD ?_ ?_ ?_ ?_⟩;iterate 3(·simp)
     ·simp[<-Lg,iI,hn]
   ·refine aa.dv ay fw [1,2,3,4,9] ?_;simp[UG];rw[au (by omega)];refine⟨y+1,Le.aD ?_ ?_ ?_ ?_,by omega,by omega⟩;iterate 3(·simp)
    ·simp[p8]
  ·simp at bM;have:y=n+1:=by omega
   subst this;refine aa.exit ⟨rfl,Le.aD ?_ ?_ ?_ ?_⟩;iterate 3(·simp)
   ·simp[<-xB,kj]
 simp;have lal2:Jg.length<=900000:=by rw[<-xB];exact O2 _ (by omega)
 obtain⟨N,hN⟩:∃N,2*n+1=N:=⟨_,rfl⟩;have w2n:IntKind.i64.wrap (2*(n:Int))=2*n:=au (by omega);have w2n1:IntKind.i64.wrap (2*(n:Int)+1)=(N:Int):=by rw[au (by omega)];omega
 refine aa.ab ay fw [1,2,3,12] ?_;simp[UH,w2n,w2n1];refine aa.ab ay fw [1,2,3,12,13] ?_;simp[UI,w2n,w2n1];refine⟨by simp[cG];omega, ?_⟩;refine aa.seq ?_;refine aa.ab ay fw [1,2,3,12,13,14] ?_;simp[UJ];have Px:(dS x 0).length=N:=by simp[dS,hn,hN]
 have Io:∀k,(dS x k).length=N:=λk=>by simp[dS,hn,hN]
 have hF0:List.replicate N [T.int IntKind.i64 0]=aB (dS x 0):=by
  rw[<-hN,<-hn];apply ZbB
  ·simp[dS,aB]
  ·intro i h1 h2;simp[dS,aB]
 have hFs:∀k,k<N->(dS x k).set k (if k % 2=0 then fU x (k/2) n else 1099511627776)=dS x (k+1):=by
  intro k hk;rw[<-hn];apply ZbB
  ·simp[dS]
  ·intro i h1 h2;rw[Zb9];simp only[dS,Zcl,ZcA];by_cases e:k=i
   ·subst e;simp
   ·rw[if_neg e];have hq:(i<k+1)=(i<k):=propext ⟨λh=>by omega,λh=>by omega⟩;simp only[hq]
 rw[hF0];refine aa.block ?_;refine aa.loop (λk:Nat=>⟨DM.look [(1,.v (.box [.sl (aZ x.aj),.sl (aB x.insert),ti x.swap])),(2,.ptr 1003 0),(3,.v (ti n)),(12,.ptr 100013 0),(13,.bk 100378 0),(14,.v (ti k))],cE [(1003,.box [.v (ti 0),.aI,.aI]),(100013,.box [.v (ti N),.v (.sl (ba Jg)),.aI]),(100378,.arr 0 3 1 (aB (dS x k)))],200000,1000,[]⟩)
  (λk=>k<=N) (λk=>N-k) 0 (Le.aD ?_ ?_ ?_ ?_) (by simp) (λk hk=>?_)
 iterate 4(·simp)
 refine aa.seq ?_;refine aa.ab ay fw [1,2,3,12,13,14,180] ?_;simp[UK,Io];refine aa.cond rfl (λwu=>?_) (λwu=>?_)
 ·simp at wu;have hrw:DM.rowAt (aB (dS x k)) (k:Int)=[ti ((dS x k).getD k default)]:=cP (by rw[Io];exact wu);have hrw2:DM.rowAt (aB ((dS x k).set k 1099511627776)) (k:Int)=[ti (((dS x k).set k 1099511627776).getD k default)]:=cP (by rw[ZcM,Io];exact wu);have hs:=hFs k wu;refine aa.skip ?_;simp;refine aa.seq ?_;refine aa.to ⟨DM.look [(1,.v (.box [.sl (aZ x.aj),.sl (aB x.insert),ti x.swap])),(2,.ptr 1003 0),(3,.v (ti n)),(12,.ptr 100013 0),(13,.bk 100378 0),(14,.v (ti k))],cE [(1003,.box [.v (ti 0),.aI,.aI]),(100013,.box [.v (ti N),.v (.sl (ba Jg)),.aI]),(100378,.arr 0 3 1 (aB (dS x (k+1))))],300000,1000,[]⟩ ?_ ?_
  ·refine aa.block ?_;refine aa.ab ay fw [1,2,3,12,13,14] ?_;simp[UL,Io,wu,hrw];rw[show(aB (dS x k)).set k [T.int IntKind.i64 1099511627776]=aB ((dS x k).set k 1099511627776)from Ik _ _ _];refine aa.le (Le.aD (o:=[(1003,.box [.v (ti 0),.aI,.aI]),(100013,.box [.v (ti N),.v (.sl (ba Jg)),.aI]),(100378,.arr 0 3 1 (aB ((dS x k).set k 1099511627776)))]) (l:=[(1,.v (.box [.sl (aZ x.aj),.sl (aB x.insert),ti x.swap])),(2,.ptr 1003 0),(3,.v (ti n)),(12,.ptr 100013 0),(13,.bk 100378 0),(14,.v (ti k))]) (nxt':=210000) ?_ ?_ ?_ ?_) ?_;iterate 4(·simp)
   have wm:(k:Int).tmod 2=k % 2:=Gq (by omega);have wd:(k:Int).tdiv 2=((k/2:Nat):Int):=by rw[pY (by omega)];omega
   have ww:IntKind.i64.wrap ((k:Int) % 2)=k % 2:=au (by omega);have ww2:IntKind.i64.wrap ((k/2:Nat):Int)=((k/2:Nat):Int):=au (by omega);obtain⟨h2,hh2⟩:∃h,k/2=h:=⟨_,rfl⟩;rw[hh2]at wd ww2 hs;refine aa.ab ay fw [1,2,3,12,13,14,188] ?_;simp[UM,wm];refine aa.cond rfl (λh=>?_) (λh=>?_)
   ·simp at h;have qT:k % 2=0:=by omega
    rw[if_pos qT]at hs;refine aa.dv ay fw [1,2,3,12,13,14] ?_;simp[UN,Az,wd,ww2,Io,wu,hrw2];refine⟨⟨h2,n,⟨rfl,rfl⟩,by omega,by omega⟩,Le.aD ?_ ?_ ?_ ?_⟩
    ·simp
    ·simp
    ·simp[<-hs,<-Ik]
    ·simp
   ·simp at h;have qT:¬k % 2=0:=by omega
    rw[if_neg qT]at hs;refine aa.skip ⟨rfl,Le.aD ?_ ?_ ?_ ?_⟩
    ·simp
    ·simp
    ·simp[hs]
    ·simp
  ·refine aa.dv ay fw [1,2,3,12,13,14] ?_;simp[UO];rw[au (by omega)];refine⟨k+1,Le.aD ?_ ?_ ?_ ?_,by omega,by omega⟩;iterate 3(·simp)
   ·simp
 ·simp at wu;have:k=N:=by omega
  subst this;refine aa.exit ?_;simp;refine aa.ab ay fw [2,12] ?_;simp[UP];refine aa.ab ay fw [2] ?_;simp[UQ];refine aa.ret ?_;subst hR;rw[hn,hN,K7,xB];simp[AV,aL.enc];omega
end Go.Proofs
namespace Go.Proofs
open Go.DM Go.DM.NF
section
variable(good:List T->Prop)(XJ:List T->List T->Int)
abbrev wy(x y:List T):Bool:=decide (XJ x y<0)
variable{good XJ}
end
end Go.Proofs
namespace Go.Proofs
open Go.DM Go.DM.NF
def og:Nat:=1000000000
end Go.Proofs
namespace Go.Proofs
open Go.DM Go.DM.NF
def bW(a:bn):List T:=[ti a.f,ti a.t,ti a.term]
def p7(r:List T):Prop:=∃f t x:Int,r=[ti f,ti t,ti x]
def ja(r:List T):Int×Int×Int:=(cX (r.getD 0 (ti 0)),cX (r.getD 1 (ti 0)),cX (r.getD 2 (ti 0)))
def WB(a b:Int×Int×Int):Prop:=a.1<b.1\/(a.1=b.1/\(a.2.1<b.2.1\/(a.2.1=b.2.1/\a.2.2<b.2.2)))
theorem or3(a b c d e f:Int):Nf [qi a d,qi b e,qi c f]<0↔WB (a,b,c) (d,e,f):=by
 simp only[Nf,qi,WB];by_cases h1:a<d
 ·simp[h1]
 ·by_cases h2:d<a
  ·have:a≠d:=by omega
   simp[h1,h2,this]
  ·have:a=d:=by omega
   subst this;by_cases h3:b<e
   ·simp[h3]
   ·by_cases h4:e<b
    ·have:b≠e:=by omega
     simp[h3,h4,this]
    ·have:b=e:=by omega
     subst this;by_cases h5:c<f
     ·simp[h5]
     ·by_cases h6:f<c
      ·have:¬c<f:=by omega
       simp[h5,h6]
      ·simp[h5,h6]
theorem Ng(x y:List T):wy dw x y=true↔WB (ja x) (ja y):=by
 simp only[wy,decide_eq_true_eq];exact or3 _ _ _ _ _ _
theorem rY(x y:List T):wy dw x y=false↔¬WB (ja x) (ja y):=by
 rw[<-Ng];simp
theorem F1:SWO (wy dw):=by
 refine⟨λx=>?_,λx y z h1 h2=>?_,λx y z h1 h2=>?_⟩
 ·rw[rY];unfold WB;omega
 ·rw[Ng]at h1 h2⊢;unfold WB at h1 h2⊢;omega
 ·rw[rY]at h1 h2⊢;unfold WB at h1 h2⊢;omega
theorem XL{x y:List T}(h:eqv (wy dw) x y=true):ja x=ja y:=by
 simp only[eqv,Zam,Zbl,rY]at h;unfold WB at h;generalize ja x=p at h⊢;generalize ja y=q at h⊢;obtain⟨a1,a2,a3⟩:=p;obtain⟨b1,b2,b3⟩:=q;simp only[Zar]at h⊢;omega
theorem xE{x y:List T}(hx:p7 x)(hy:p7 y)(h:ja x=ja y):x=y:=by
 obtain⟨a,b,c,rfl⟩:=hx;obtain⟨d,e,f,rfl⟩:=hy;simp[ja,cX]at h;simp[h]
theorem Fj{l:List (List T)}(hg:∀x∈l,p7 x)(hn:l.Nodup)(z:List T):(l.filter (eqv (wy dw) z)).length<=1:=by
 have Ce:(l.filter (eqv (wy dw) z)).Nodup:=hn.filter _;have dH:∀x∈l.filter (eqv (wy dw) z),p7 x/\ja x=ja z:=by
  intro x hx;rw[ZaN]at hx;exact⟨hg x hx.1,(XL hx.2).symm⟩
 match hl:l.filter (eqv (wy dw) z),Ce,dH with
 |[],_,_=>simp
 |[a],_,_=>simp
 |a::b::l,Ce,dH=>
  exfalso;have h1:=dH a (by simp);have h2:=dH b (by simp);have:=xE h1.1 h2.1 (h1.2.trans h2.2.symm);subst this;simp at Ce
theorem K8{l1 l2:List (List T)}(hp:l1.Perm l2)(hg:∀x∈l2,p7 x)(hn:l2.Nodup):iY (wy dw) l1=iY (wy dw) l2:=by
 refine GA F1 (oX F1 l2) λx=>?_;rw[vd F1];have h1:=hp.filter (eqv (wy dw) x);have h2:=Fj hg hn x;cases h:l2.filter (eqv (wy dw) x)with
 |nil=>rw[h]at h1;exact(List.Perm.eq_nil h1).symm
 |cons a t=>
  rw[h]at h1 h2;have:t=[]:=by cases t with
   |nil=>rfl
   |cons b t=>simp at h2
  subst this;exact(List.perm_singleton.1 h1).symm
theorem oW{a b:bn}:bW a=bW b↔sameKey a b=true:=by simp[bW,sameKey]
theorem La{al:List bn}(h:(al.map bW).Nodup)(a:bn):((tt al a).map bW).Nodup:=by
 unfold tt;split
 ·cases hf:al.findIdx? (sameKey a)with
  |none=>
   simp only;rw[ZaO,ZbP];refine⟨h,by simp, ?_⟩;intro x hx y hy;simp only[Zau,ZbX,Zah]at hy;subst hy;obtain⟨b,hb,rfl⟩:=Zal.1 hx;intro e;rw[ZcG]at hf;have:=hf b hb;rw[oW.1 e.symm]at this;cases this
  |some i=>
   simp only;split
   ·have hi:=sC hf;rw[ZbA]at hf;have hk:bW a=bW al[i]:=oW.2 hf.2.1;rw[ZbJ,hk];have:(al.map bW).set i (bW al[i])=al.map bW:=by
     apply ZbB
     ·simp
     ·intro k h1 h2;rw[Zb9];split
      ·rename_i e;subst e;simp
      ·rfl
    rw[this];exact h
   ·exact h
 ·exact h
theorem uF(cs:List bn):∀{al:List bn},(al.map bW).Nodup->((bS al cs).map bW).Nodup:=by
 induction cs with
 |nil=>intro al h;exact h
 |cons c cs ih=>intro al h;exact ih (La h c)
def oe(al:List bn)(r:List T):bn:=(al.find? (sameKey ⟨(ja r).1,(ja r).2.1,(ja r).2.2,0,[]⟩)).getD default
theorem U0{α:Type}(p:α->Bool)(l:List α):l.find? p=(l.findIdx? p).bind λi=>l[i]? :=by
 induction l with
 |nil=>rfl
 |cons x l ih=>
  rw[ZaM,Za3];cases h:p x with
  |true=>simp
  |false=>simp[ih];cases l.findIdx? p<;>simp
theorem rW{al:List bn}{a:bn}(h:a∈al):sameKey a (oe al (bW a))=true/\oe al (bW a)∈al/\∃i,oq a.key (entries al)=some (i,(oe al (bW a)).key,.v (.agg (oe al (bW a)).enc)):=by
 have e:sameKey ⟨(ja (bW a)).1,(ja (bW a)).2.1,(ja (bW a)).2.2,0,[]⟩=sameKey a:=by
  funext b;simp[sameKey,ja,bW,cX]
 unfold oe;rw[e,vk,nz,U0];cases hf:al.findIdx? (sameKey a)with
 |none=>
  rw[ZcG]at hf;have:=hf a h;simp[sameKey]at this
 |some i=>
  have hi:=sC hf;rw[ZbA]at hf;simp only[Zb7,fp,Zan hi,Za0,Zbc];exact⟨hf.2.1,Zbi hi,i,rfl⟩
def iZ(al:List bn):List bn:=(iY (wy dw) (al.map bW)).map (oe al)
theorem O1{al:List bn}{sn:List Nat}(h1:sn.Nodup)(h2:∀i∈sn,i<al.length)(h3:∀i,i<al.length->i∈sn):(sn.map λi=>bW (al.getD i default)).Perm (al.map bW):=by
 have hp:sn.Perm (List.range al.length):=(List.perm_ext_iff_of_nodup h1 List.nodup_range).2 λi=>by
  rw[ZaP];exact⟨h2 i,h3 i⟩
 have:=hp.map λi=>bW (al.getD i default);refine this.trans (List.Perm.of_eq ?_);apply ZbB
 ·simp
 ·intro k k1 k2;simp at k2;simp[k2]
end Go.Proofs
namespace Go.Proofs
open Go.Shelf
def Ij:Go.Shelf.Ren:=⟨fun|6=>51|15=>77|14=>76|28=>104|29=>105|20=>96|21=>97|22=>98|23=>99|24=>100|25=>101|26=>102|27=>103|46=>112|47=>113|48=>114|49=>115|50=>116|57=>118|n=>n,fun|22=>104|24=>106|25=>108|3=>3|39=>134|0=>0|53=>159|55=>162|4=>4|46=>168|45=>167|50=>151|5=>5|9=>9|66=>180|70=>178|76=>185|77=>148|n=>n,fun|n=>n⟩
theorem XK:SlLaysF0.n6 Tryz.prog Ij where
 mixed:=by kernel_rfl
 f6:=⟨Tryz.f51.name,by decide+kernel,Tryz.func51.trans (congrArg some (by kernel_rfl))⟩
 f14:=⟨Tryz.f76.name,by decide+kernel,Tryz.func76.trans (congrArg some (by kernel_rfl))⟩
 f15:=Tryz.func77.trans (congrArg some (by kernel_rfl))
 f20:=⟨Tryz.f96.name,by decide+kernel,Tryz.func96.trans (congrArg some (by kernel_rfl))⟩
 f21:=⟨Tryz.f97.name,by decide+kernel,Tryz.func97.trans (congrArg some (by kernel_rfl))⟩
 f22:=⟨Tryz.f98.name,by decide+kernel,Tryz.func98.trans (congrArg some (by kernel_rfl))⟩
 f23:=⟨Tryz.f99.name,by decide+kernel,Tryz.func99.trans (congrArg some (by kernel_rfl))⟩
 f24:=⟨Tryz.f100.name,by decide+kernel,Tryz.func100.trans (congrArg some (by kernel_rfl))⟩
 f25:=⟨Tryz.f101.name,by decide+kernel,Tryz.func101.trans (congrArg some (by kernel_rfl))⟩
 f26:=⟨Tryz.f102.name,by decide+kernel,Tryz.func102.trans (congrArg some (by kernel_rfl))⟩
 f27:=⟨Tryz.f103.name,by decide+kernel,Tryz.func103.trans (congrArg some (by kernel_rfl))⟩
 f28:=Tryz.func104.trans (congrArg some (by kernel_rfl))
 f29:=Tryz.func105.trans (congrArg some (by kernel_rfl))
 f46:=⟨Tryz.f112.name,by decide+kernel,Tryz.func112.trans (congrArg some (by kernel_rfl))⟩
 f47:=Tryz.func113.trans (congrArg some (by kernel_rfl))
 f48:=Tryz.func114.trans (congrArg some (by kernel_rfl))
 f49:=⟨Tryz.f115.name,by decide+kernel,Tryz.func115.trans (congrArg some (by kernel_rfl))⟩
 f50:=⟨Tryz.f116.name,by decide+kernel,Tryz.func116.trans (congrArg some (by kernel_rfl))⟩
 f57:=⟨Tryz.f118.name,by decide+kernel,Tryz.func118.trans (congrArg some (by kernel_rfl))⟩
 t0:=Tryz.underlying0
 a0:=Tryz.isAgg0
 z0:=Tryz.sizeOf0
 v0:=Tryz.zeroValue0
 t3:=Tryz.underlying3
 a3:=Tryz.isAgg3
 z3:=Tryz.sizeOf3
 v3:=Tryz.zeroValue3
 t4:=Tryz.underlying4
 a4:=Tryz.isAgg4
 z4:=Tryz.sizeOf4
 v4:=Tryz.zeroValue4
 t5:=Tryz.underlying5
 a5:=Tryz.isAgg5
 z5:=Tryz.sizeOf5
 v5:=Tryz.zeroValue5
 t9:=Tryz.underlying9
 a9:=Tryz.isAgg9
 z9:=Tryz.sizeOf9
 v9:=Tryz.zeroValue9
 t22:=Tryz.underlying104
 a22:=Tryz.isAgg104
 z22:=Tryz.sizeOf104
 v22:=Tryz.zeroValue104
 t25:=Tryz.underlying108
 a25:=Tryz.isAgg108
 z25:=Tryz.sizeOf108
 v25:=Tryz.zeroValue108
 t39:=Tryz.underlying134
 a39:=Tryz.isAgg134
 z39:=Tryz.sizeOf134
 v39:=Tryz.zeroValue134
 t45:=Tryz.underlying167
 a45:=Tryz.isAgg167
 z45:=Tryz.sizeOf167
 v45:=Tryz.zeroValue167
 t46:=Tryz.underlying168
 a46:=Tryz.isAgg168
 z46:=Tryz.sizeOf168
 v46:=Tryz.zeroValue168
 t50:=Tryz.underlying151
 a50:=Tryz.isAgg151
 z50:=Tryz.sizeOf151
 v50:=Tryz.zeroValue151
 t53:=Tryz.underlying159
 a53:=Tryz.isAgg159
 z53:=Tryz.sizeOf159
 v53:=Tryz.zeroValue159
 t55:=Tryz.underlying162
 a55:=Tryz.isAgg162
 z55:=Tryz.sizeOf162
 v55:=Tryz.zeroValue162
 t66:=Tryz.underlying180
 a66:=Tryz.isAgg180
 z66:=Tryz.sizeOf180
 v66:=Tryz.zeroValue180
 t70:=Tryz.underlying178
 a70:=Tryz.isAgg178
 z70:=Tryz.sizeOf178
 v70:=Tryz.zeroValue178
 t76:=Tryz.underlying185
 a76:=Tryz.isAgg185
 z76:=Tryz.sizeOf185
 v76:=Tryz.zeroValue185
 t77:=Tryz.underlying148
 a77:=Tryz.isAgg148
 z77:=Tryz.sizeOf148
 v77:=Tryz.zeroValue148
end Go.Proofs
namespace Go.Proofs
open Go.DM Go.DM.NF
def PG(x y:lY 3):Int:=dw (gh x) (gh y)
theorem row3(x:lY 3):∃a b c:Int,x.1=[a,b,c]:=by
 obtain⟨l,hl⟩:=x
 match l,hl with
 |[a,b,c],_=>exact⟨a,b,c,rfl⟩
theorem good_row(x:lY 3):p7 (gh x):=by
 obtain⟨a,b,c,h⟩:=row3 x;exact⟨a,b,c,by unfold gh;rw[h];rfl⟩
theorem U1{r:List T}(h:p7 r):∃x:lY 3,gh x=r:=by
 obtain⟨a,b,c,rfl⟩:=h;exact⟨⟨[a,b,c],rfl⟩,rfl⟩
theorem Dm:∀{D:List (List T)},(∀x∈D,p7 x)->∃E:List (lY 3),E.map gh=D
 |[],_=>⟨[],rfl⟩
 |r::D,h=>by
  obtain⟨x,hx⟩:=U1 (h r (by simp));obtain⟨E,hE⟩:=Dm λy hy=>h y (ZaV _ hy);exact⟨x::E,by simp[hx,hE]⟩
theorem lt_cfK(x y:lY 3):ltOf PG x y=wy dw (gh x) (gh y):=rfl
theorem zo:Go.Sort.SWO (ltOf PG):=
 ⟨λx=>F1.irrefl _,λx y z=>F1.trans _ _ _,λx y z=>F1.ntrans _ _ _⟩
theorem U2{k:Nat}{x y:lY k}(h:gh x=gh y):x=y:=by
 apply Subtype.ext;unfold gh at h;have key:∀(l m:List Int),l.map tI=m.map tI->l=m:=by
  intro l;induction l with
  |nil=>intro m h;cases m with
   |nil=>rfl
   |cons b m=>cases h
  |cons a l ih=>intro m h;cases m with
   |nil=>cases h
   |cons b m=>
    simp only[Zau,Za5,T.int.injEq,true_and]at h;rw[h.1,ih m h.2]
 exact key _ _ h
theorem XM(x y:lY 3)(h1:ltOf PG x y=false)(h2:ltOf PG y x=false):x=y:=by
 rw[lt_cfK]at h1 h2;exact U2 (xE (good_row x) (good_row y) (XL (by simp[eqv,h1,h2])))
theorem U3(E:List (lY 3)):iY (wy dw) (E.map gh)=(ym PG E).map gh:=by
 refine GA F1 ?_ λz=>?_
 ·unfold tw;rw[Zch];have h:=List.pairwise_mergeSort (le:=λx y=> !(ltOf PG) y x) (λa b c h1 h2=>by
   simp only[Zbl]at h1 h2⊢;exact zo.ntrans _ _ _ h2 h1) (λa b=>by
   cases e:ltOf PG b a with
   |false=>rfl
   |true=>
    cases e2:ltOf PG a b with
    |false=>rfl
    |true=>
     have:=zo.trans _ _ _ e e2;rw[zo.irrefl]at this;cases this) E
  exact h.imp λ{a b} Yu=>by rw[Zbl]at Yu;exact Yu
 ·have hp:((ym PG E).map gh).Perm (E.map gh):=(List.mergeSort_perm E _).map _;have h1:=hp.filter (eqv (wy dw) z);have dH:∀w∈(E.map gh).filter (eqv (wy dw) z),∀u∈(E.map gh).filter (eqv (wy dw) z),w=u:=by
   intro w hw u hu;rw[ZaN]at hw hu;obtain⟨x,_,rfl⟩:=Zal.1 hw.1;obtain⟨y,_,rfl⟩:=Zal.1 hu.1;exact xE (good_row x) (good_row y) ((XL hw.2).symm.trans (XL hu.2))
  generalize (E.map gh).filter (eqv (wy dw) z)=l at h1 dH;generalize ((ym PG E).map gh).filter (eqv (wy dw) z)=l' at h1;apply ZbB h1.length_eq;intro i q1 q2;exact dH _ (h1.subset (Zbi q1)) _ (Zbi q2)
theorem Lb [Laid](x y:lY 3):aT Tryz.prog 52 [.agg (gh x),.agg (gh y)] (tI (PG x y)):=by
 obtain⟨a,b,c,h⟩:=good_row x;obtain⟨d,e,f,k⟩:=good_row y;unfold PG;rw[h,k];exact t33 a b c d e f
theorem t32(D:List (List T)){objs:aU}{r ver e:Nat}(fE:objs r=some (.arr ver e 3 D))(cS:∀x∈D,p7 x)(h4:D.length<=og):
  aY Tryz.prog 51 [.bk r ver,.v (.fn (.func 52) [])] objs ⟨True,.v (.eD []),cZ objs r (.arr ver e 3 (iY (wy dw) D))⟩:=by
 obtain⟨E,rfl⟩:=Dm cS;rw[U3];unfold og at h4;exact Gx (k:=3) XK (by omega) (λw=>Tryz.isAgg106 w) (λw=>Tryz.sizeOf106 w) (@Lb Laid.none) zo XM E fE (by simp at h4;omega)
def k32(good:List T->Prop)(XJ:List T->List T->Int):List DV->aU->iu
 |[.bk r ver,.v (.fn (.func c) caps)],objs=>match objs r with
  |some (.arr ver' e sz D)=>⟨ver=ver'/\sz=3/\c=52/\caps=[]/\(∀x∈D,good x)/\D.length<=og/\D.length<=1000000000,
    .v (.eD []),cZ objs r (.arr ver e 3 (iY (wy XJ) D))⟩
  |_=>⟨False,.undef,objs⟩
 |_,objs=>⟨False,.undef,objs⟩
theorem ok32{l:List (Nat×DM.Spec)}(h:aw Tryz.prog (aW l)):aw Tryz.prog (aW ((51,eX (k32 p7 dw))::l)):=by
 refine aw.gQ h ?_;intro args objs h;unfold k32 at h⊢;split at h
 ·split at h
  ·rename_i c caps _ ver' e sz D fE;obtain⟨rfl,rfl,rfl,rfl,h1,h4,h5⟩:=h;refine⟨λN hN=>?_,λk hk=>si fE hk⟩;simp only[];exact(t32 D fE h1 h4).of rfl rfl
  ·exact h.elim
 ·exact h.elim
end Go.Proofs
namespace Go.Proofs
open Go.DM Go.DM.NF
def k30:List DV->aU->iu
 |[.ptr b 0,.v (.int .i64 i)],objs=>
  ⟨objs b=some (.box (ch (eO objs b).1 (eO objs b).2))/\objs (eO objs b).2=some (bU (xz objs (eO objs b).2))/\0<=i/\i<=(eO objs b).1.aj.length/\HP (eO objs b).1,.v (.eD []),
   cZ objs (eO objs b).2 (bU (bS (xz objs (eO objs b).2) (qz (eO objs b).1 i.toNat)))⟩
 |_,objs=>⟨False,.undef,objs⟩
theorem k30_eq{objs:aU}{b m:Nat}{x:Input}{al:List bn}{i:Nat}(h:objs b=some (.box (ch x m)))(hm:objs m=some (bU al)):
  k30 [.ptr b 0,.v (ti i)] objs=⟨i<=x.aj.length/\HP x,.v (.eD []),cZ objs m (bU (bS al (qz x i)))⟩:=by
 simp only[k30,zn h,h,Dl hm,hm,Zak,true_and,Int.ofNat_le,Zcf]
abbrev Γ7:Env:=aW [(49,eX k30),(51,eX (k32 p7 dw)),(50,eX XG),(48,u0 pre29 fn29 3 1)]
theorem ok7:aw Tryz.prog Γ7:=by
 refine aw.gQ (ok32 (aw.gQ (aw.QH aw.nil ?_) ?_)) ?_
 ·rintro ts ⟨v,n,rfl,h1,h2⟩;have:=t29 v n h1 h2;simpa [fn29,aB]using this
 ·exact(ok5 50 (eX XG) rfl).st XG rfl
 ·intro args objs h;unfold k30 at h⊢;split at h
  ·rename_i aA b i;obtain⟨hb,hm,h1,h2,h3⟩:=h;obtain⟨i,rfl⟩:=Zad h1;refine⟨λN hN=>?_,λr hr=>si hm hr⟩;exact aY.of (t30 hN hb hm (by omega) h3) (by simp) (by simp)
  ·exact h.elim
def UX:List RO:=[
 a 2 5 36 [],
 l 36 37 [0],
 n 6 38,
 o (.bin .mul (i 2) (t 38)) 39 [2],
 n 3 40,
 n 6 41,
 n 4 42,
 o (.callR 50 [(t 40),(t 41),(t 42)]) 43 [4,5,6],
 m 43 35 [7],
 e 0 35 44 [8],
 e 1 35 45 [8],
 x 1 37 39 46 (k [1,3] 9),
 S 1 46 44 (k [11,9,7] 9)]
theorem UY{objs:aU}{b m:Nat}{x:Input}{i j:Nat}(h:objs b=some (.box (ch x m))):
  wD XG [.ptr b 0,.v (ti i),.v (ti j)] objs=(i<=j/\j<=x.aj.length/\nf x.aj)/\
   (XG [.ptr b 0,.v (ti i),.v (ti j)] (xX objs [.ptr b 0,.v (ti i),.v (ti j)])).val=.v (.eD [ti (dX ((x.aj.take j).drop i) 0),.sl (cR (dc (j-i)))]):=by
 have hr:xX objs [.ptr b 0,.v (ti i),.v (ti j)] b=some (.box (ch x m)):=by simp[xX,bJ,names,h]
 refine⟨?_,by rw[xA hr]⟩;unfold wD;apply propext;constructor
 ·intro H;have:=H objs (λ_ _=>rfl);rw[xA h]at this;exact this.1
 ·intro H o ho;have hb:o b=some (.box (ch x m)):=by rw[ho b (by simp[bJ,names]),h]
  rw[xA hb,xA hr];exact⟨H,rfl,rfl⟩
def uE(x:Input)(y:Nat):List bn:=(List.range y).flatMap (qz x)
theorem OZ(x:Input)(y:Nat):uE x (y+1)=uE x y++qz x y:=by simp[uE,ZaD]
def fq(x:Input)(n y:Nat):List (List T):=(List.range n).map λs=>[ti (if s % 2=0/\s/2<y then fU x (s/2) x.aj.length else 1099511627776)]
theorem Ig(x:Input){n y:Nat}(h:2*y<n):(fq x n y).set (2*y) [ti (fU x y x.aj.length)]=fq x n (y+1):=by
 apply ZbB
 ·simp[fq]
 ·intro k h1 h2;rw[Zb9];simp only[fq,Zcl,ZcA];split
  ·rename_i e;subst e;rw[if_pos (by omega),show 2*y/2=y by omega]
  ·rename_i e;by_cases hk:k % 2=0/\k/2<y
   ·rw[if_pos hk,if_pos (by omega)]
   ·rw[if_neg hk,if_neg (by omega)]
theorem Ih(x:Input)(n y:Nat):(fq x n y).length=n:=by simp[fq]
theorem Fh(x:Input)(n:Nat):fq x n 0=List.replicate n [ti 1099511627776]:=by
 apply ZbB
 ·simp[fq]
 ·intro k h1 h2;simp[fq]
theorem sD(a b:aU)(σ:Nat->Nat)(cs qH:List DV):lQ a b σ (.box cs) (.box qH)=jy a b σ cs qH:=rfl
theorem sE(a b:aU)(σ:Nat->Nat)(v v' e e' sz fW:Nat)(rows dh:List (List T)):lQ a b σ (.arr v e sz rows) (.arr v' e' fW dh)=(e=e'/\sz=fW/\rows=dh):=rfl
theorem rL(a b:aU)(al:List bn):lQ a b id (bU al) (bU al):=by
 simp only[bU,lQ];exact⟨trivial,trivial,trivial,mO λe he=>by obtain⟨x,hx⟩:=ez al e he;rw[hx];simp⟩
theorem yE{al:List bn}{e:Nat×T×DV}(h:e∈entries al):∃i,i<al.length/\e=(i,(al.getD i default).key,.v (.agg (al.getD i default).enc)):=by
 obtain⟨i,hi,rfl⟩:=ZaY h;rw[jC]at hi;refine⟨i,hi, ?_⟩;have:=fp al i;rw[Zan (by rw[jC];exact hi),Zan hi]at this;simp only[Za0,Zaa]at this;rw[this];simp[List.getD,hi]
theorem Fi{al:List bn}{i:Nat}(h:i<al.length):(entries al).find? (λe=>e.1==i)=some (i,(al.getD i default).key,.v (.agg (al.getD i default).enc)):=by
 rw[Zcq];have hg:∀(j:Nat) (hj:j<(entries al).length),(entries al)[j]=(j,(al.getD j default).key,.v (.agg (al.getD j default).enc)):=by
  intro j hj;rw[jC]at hj;have:=fp al j;rw[Zan (by rw[jC];exact hj),Zan hj]at this;simp only[Za0,Zaa]at this;rw[this];simp[List.getD,hj]
 refine⟨by simp,i,by rw[jC];exact h,hg _ _,λj hj=>?_⟩;rw[hg];simp;omega
theorem xC:∀(n:Nat) {l:List Nat},l.Nodup->(∀i∈l,i<n)->l.length<=n
 |0,l,_,h=>by cases l with
  |nil=>simp
  |cons a l=>exact absurd (h a (by simp)) (by omega)
 |n+1,l,hn,h=>by
  by_cases hm:n∈l
  ·have h1:=List.length_erase_of_mem hm;have h2:=xC n (l:=l.erase n) (hn.erase n) (λi hi=>by
    have:=h i (List.mem_of_mem_erase hi);have bG:i≠n:=λe=>by subst e;exact(List.Nodup.not_mem_erase hn) hi
    omega)
   omega
  ·have:=xC n hn (λi hi=>by
    have:=h i hi;have bG:i≠n:=λe=>hm (e▸hi);omega)
   omega
theorem la(a b:aU)(al:List bn):iL a b id (entries al) (entries al):=mO λe he=>by obtain⟨x,hx⟩:=ez al e he;rw[hx];simp
theorem O0{α:Type}{f:α->List T}{l:List α}{y:Nat}{a:α}(h:y<l.length)(ha:l[y]=a):(l.take (y+1)).map f=(l.take y).map f++[f a]:=by
 rw[Zbw,Zan h,ha];simp
def jL(x:Input):List bn:=bS [] (uE x (x.aj.length+1))
def wA(x:Input):List Int:=(List.range (2*x.aj.length+1)).map λs=>if s % 2=0 then fU x (s/2) x.aj.length else 1099511627776
def iR(x:Input):aL:=⟨2*x.aj.length+1,iZ (jL x),wA x⟩
theorem Ii(x:Input):fq x (2*x.aj.length+1) (x.aj.length+1)=aB (wA x):=by
 simp only[fq,wA,aB,ZcK];apply Zbq;intro s hs;simp only[ZaP]at hs;by_cases h:s % 2=0
 ·simp only[Function.comp_apply,h,if_true,true_and];rw[if_pos (by omega)]
 ·simp[h]
@[simp] theorem isMap_mapOb(al:List bn):isMap (some (bU al)):=by simp[isMap,bU]
theorem t12(x:Input)(hx:HP x)(Jf:(jL x).length<=og)(kU:(jL x).length<=1000000000):aT Tryz.prog 32 [x.enc] (iR x).enc:=by
 have ay:=ok7;have hl:=hx.1.1;refine c12.ok (by simp) (aJ ?_);simp[Input.enc];refine aa.ab ay fw [1,2] ?_;simp[d12r0];refine aa.ab ay fw [1,2,3] ?_;simp[d12r1];refine aa.ab ay fw [2,3,4] ?_;simp[d12r2];obtain⟨n2,TO⟩:∃n,2*x.aj.length+1=n:=⟨_,rfl⟩;have w1:IntKind.i64.wrap (2*(x.aj.length:Int))=2*x.aj.length:=au (by omega);have w2:IntKind.i64.wrap (2*(x.aj.length:Int)+1)=(n2:Int):=by rw[au (by omega)];omega
 refine aa.iA ay fw (rs:=KT) (.inr ⟨_,rfl⟩) (by kernel_rfl) [2,3,4,5] ?_;simp[KT,w1,w2,pre29,fn29,chunk];refine⟨⟨1099511627776,n2,⟨rfl,rfl⟩,by omega,by omega⟩, ?_⟩;obtain⟨n,hn⟩:∃n,x.aj.length=n:=⟨_,rfl⟩;rw[hn]at TO hl;refine aa.seq ?_;have w3:IntKind.i64.wrap ((n:Int)+1)=((n+1:Nat):Int):=by rw[au (by omega)];omega
 refine aa.ab ay fw [2,3,4,5,28,29] ?_;simp[d12r4,hn,w3];obtain⟨n1,Wp⟩:∃n1,n+1=n1:=⟨_,rfl⟩;rw[show((n:Int)+1)=(n1:Int)by omega];refine aa.to ⟨DM.look [(2,.ptr 1003 0),(3,.ptr 1098 0),(5,.ptr 1255 0)],cE [(1003,.box [.v (ti 0),.aI,.aI]),(1098,.box (ch x 1096)),(1096,bU (bS [] (uE x n1))),(1255,.box [.v (ti n2),.aI,.bk 1275 0]),(1275,.arr 0 3 1 (fq x n2 n1))],3000,1000,[]⟩ ?_ ?_
 ·refine aa.block ?_;refine aa.loop (λy:Nat=>⟨DM.look [(2,.ptr 1003 0),(3,.ptr 1098 0),(4,.v (ti n)),(5,.ptr 1255 0),(28,.v (ti n1)),(29,.v (ti y))],cE [(1003,.box [.v (ti 0),.aI,.aI]),(1098,.box (ch x 1096)),(1096,bU (bS [] (uE x y))),(1255,.box [.v (ti n2),.aI,.bk 1275 0]),(1275,.arr 0 3 1 (fq x n2 y))],3000,1000,[]⟩)
   (λy=>y<=n1) (λy=>n1-y) 0 (Le.aD ?_ ?_ ?_ ?_) (by simp) (λy hy=>?_)
  ·simp
  ·simp[]
  ·simp[ch,bU,entries,uE,bS,Fh,nN,iL,isMap]
  ·simp
  refine aa.ab ay fw [2,3,4,5,28,29,30] ?_;simp[d12r5];refine aa.seq ?_;refine aa.cond rfl (λbM=>?_) (λbM=>?_)
  ·simp at bM;refine aa.skip ?_;simp;refine aa.seq ?_;refine aa.block ?_;refine aa.ab ay fw [2,3,4,5,6,28,29] ?_;simp[d12r6];refine aa.iA ay fw (rs:=KU) (.inr ⟨_,rfl⟩) (by kernel_rfl) [2,3,4,5,6,28,29] ?_;simp[KU,k30_eq (x:=x) (m:=1096) (al:=bS [] (uE x y))];refine⟨⟨by omega,hx⟩, ?_⟩;obtain⟨Jg,xB⟩:∃l,bS (bS [] (uE x y)) (qz x y)=l:=⟨_,rfl⟩;have hal2':bS [] (uE x (y+1))=Jg:=by rw[OZ,fC,xB]
   rw[xB,ik];refine aa.le (Le.aD (o:=[(1003,.box [.v (ti 0),.aI,.aI]),(1098,.box (ch x 1096)),(1096,bU Jg),(1255,.box [.v (ti n2),.aI,.bk 1275 0]),(1275,.arr 0 3 1 (fq x n2 y))]) (l:=[(2,.ptr 1003 0),(3,.ptr 1098 0),(4,.v (ti n)),(5,.ptr 1255 0),(6,.v (ti y)),(28,.v (ti n1)),(29,.v (ti y))]) (nxt':=4000) ?_ ?_ ?_ ?_) ?_
   ·simp
   ·simp
   ·simp[-lQ,sD,sE,rL,ch,nN]
   ·simp
   have hyn:y<=n:=by omega
   have w4:IntKind.i64.wrap (2*(y:Int))=((2*y:Nat):Int):=by rw[au (by omega)];omega
   obtain⟨y2,fg⟩:∃y2,2*y=y2:=⟨_,rfl⟩;rw[fg]at w4;have sX:y2<n2:=by omega
   have hdc:dX ((x.aj.take n).drop y) 0=fU x y n:=rfl;have Gh:DM.rowAt (fq x n2 y) (y2:Int)=[ti 1099511627776]:=by
    have e:(2*(y:Int)).toNat=y2:=by omega
    subst fg;simp[DM.rowAt,fq,e,sX]
   have we:=Ig x (n:=n2) (y:=y) (by omega);rw[fg,hn]at we;have hd:=hx.1;refine aa.tL ay fw (rs:=UX) (.inr ⟨_,rfl⟩) (by kernel_rfl) [2,3,4,5,28,29] ?_;simp[UX,UY (x:=x) (m:=1096),hn,w4,hd,hyn,Ih,sX,hdc,Gh,we];refine aa.dv ay fw [2,3,4,5,28,29] ?_;simp[d12r9];rw[au (by omega)];refine⟨y+1,Le.aD ?_ ?_ ?_ ?_,by omega,by omega⟩
   ·simp
   ·simp
   ·simp[-lQ,sD,sE,rL,ch,nN,hal2']
   ·simp
  ·simp at bM;have:y=n1:=by omega
   subst this;refine aa.exit ⟨rfl,Le.aD ?_ ?_ ?_ ?_⟩
   ·simp
   ·simp
   ·simp[-lQ,sD,sE,rL,ch,nN]
   ·simp
 ·obtain⟨al,kj⟩:∃l,bS [] (uE x n1)=l:=⟨_,rfl⟩;obtain⟨fr,we⟩:∃l,fq x n2 n1=l:=⟨_,rfl⟩;rw[kj,we];refine aa.ab ay fw [2,3,5,7] ?_;simp[TU];refine aa.seq ?_;refine aa.ab ay fw [2,3,5,7,52] ?_;simp[TV,ch,bU];refine aa.le (Le.l7 (k:=7) 106 (sz:=3) (by omega) (by simp)) ?_;rw[ik];refine aa.block ?_;refine aa.loop (λsn:List Nat=>⟨DM.look [(2,.ptr 1003 0),(3,.ptr 1098 0),(5,.ptr 1255 0),(7,.bk 3166 0),(52,.iter 3136)],cE [(1003,.box [.v (ti 0),.aI,.aI]),(1098,.box (ch x 1096)),(1096,bU al),(1255,.box [.v (ti n2),.aI,.bk 1275 0]),(1275,.arr 0 3 1 fr),(3166,.arr 0 106 3 (sn.map λi=>bW (al.getD i default))),(3136,.iter 1096 al.length sn al.length)],4000,1000,[]⟩)
   (λsn=>sn.Nodup/\∀i∈sn,i<al.length) (λsn=>al.length-sn.length) [] (Le.aD ?_ ?_ ?_ ?_) (by simp) (λsn hs=>?_)
  ·simp
  ·simp
  ·simp[-lQ,sD,sE,ch,nN];simp[lQ,bU,isMap];exact mO λe he=>by obtain⟨x,hx⟩:=ez al e he;rw[hx];simp
  ·simp[QL,As]
  obtain⟨J5,NU⟩:=hs;refine aa.seq ?_;refine aa.next (r:=3136) (m:=1096) (s:=al.length) (l:=al.length) (c:=al.length) (sn:=sn) (shs:=kp) (agg:=true) (es:=entries al) (by simp) (by simp) (by simp[bU]) (λe he=>?_) (Zae _) (λQA=>?_) (λe he bG=>?_)
  ·obtain⟨i,hi,rfl⟩:=yE he;exact hi
  ·simp;have hp:=O1 J5 NU λi hi=>QA _ (Zaq (by rw[fp,Zan hi];rfl:(entries al)[i]? =some (i,al[i].key,.v (.agg al[i].enc))));have hgood:∀r∈sn.map (λi=>bW (al.getD i default)),p7 r:=by
    intro r hr;obtain⟨i,_,rfl⟩:=Zal.1 hr;exact⟨_,_,_,rfl⟩
   have hlen:(sn.map (λi=>bW (al.getD i default))).length=al.length:=by rw[hp.length_eq];simp
   have yX:(al.map bW).Nodup:=by rw[<-kj];exact uF _ (by simp)
   have XC:iY (wy dw) (sn.map (λi=>bW (al.getD i default)))=iY (wy dw) (al.map bW):=K8 hp (λr hr=>by
    obtain⟨a,_,rfl⟩:=Zal.1 hr;exact⟨_,_,_,rfl⟩) yX
   have XH:jL x=al:=by unfold jL;rw[hn,Wp,kj]
   rw[XH]at Jf kU;rw[<-hlen]at Jf kU;obtain⟨rows,cS⟩:∃r,sn.map (λi=>bW (al.getD i default))=r:=⟨_,rfl⟩;have hrows':sn.map (λi=>bW (al[i]?.getD default))=rows:=cS;rw[cS]at Jf kU hgood XC hlen;rw[hrows'];refine aa.seq ?_;refine aa.cond rfl (λh=>by cases h) (λ_=>?_);refine aa.exit ?_;simp;refine aa.iA ay fw (rs:=E4) (.inr ⟨_,rfl⟩) (by kernel_rfl) [2,3,5,7] ?_;simp[E4,k32,XC,Jf,kU];refine⟨hgood, ?_⟩;obtain⟨ks,hks⟩:∃ks,iY (wy dw) (al.map bW)=ks:=⟨_,rfl⟩;have hksl:ks.length=al.length:=by rw[<-hks,uH];simp
   have hksm:∀r∈ks,∃a∈al,bW a=r:=by
    intro r hr;rw[<-hks,rX]at hr;obtain⟨a,ha,rfl⟩:=Zal.1 hr;exact⟨a,ha,rfl⟩
   rw[hks,ik];refine aa.le (Le.aD (o:=[(1003,.box [.v (ti 0),.aI,.aI]),(1098,.box (ch x 1096)),(1096,bU al),(1255,.box [.v (ti n2),.aI,.bk 1275 0]),(1275,.arr 0 3 1 fr),(3166,.arr 0 106 3 ks)]) (l:=[(2,.ptr 1003 0),(3,.ptr 1098 0),(5,.ptr 1255 0),(7,.bk 3166 0)]) (nxt':=4500) ?_ ?_ ?_ ?_) ?_
   ·simp
   ·simp
   ·simp[ch,nN,isMap,la,bU]
   ·simp
   refine aa.le (Le.MA 1255 1 77 (sz:=5) (cs:=[.v (ti n2),.aI,.bk 1275 0]) (by omega) (by simp) (by simp)) ?_;rw[ik,ik];refine aa.seq ?_;refine aa.ab ay fw [2,3,5,63,64,65] ?_;simp[TY,hksl];refine aa.to ⟨DM.look [(2,.ptr 1003 0),(5,.ptr 1255 0)],cE [(1003,.box [.v (ti 0),.aI,.aI]),(1255,.box [.v (ti n2),.bk 4500 0,.bk 1275 0]),(1275,.arr 0 3 1 fr),(4500,.arr 0 77 5 (ba (iZ al)))],6000,1000,[]⟩ ?_ ?_
   ·refine aa.block ?_;refine aa.loop (λy:Nat=>⟨DM.look [(2,.ptr 1003 0),(3,.ptr 1098 0),(5,.ptr 1255 0),(63,.bk 3166 0),(64,.v (ti al.length)),(65,.v (ti y))],cE [(1003,.box [.v (ti 0),.aI,.aI]),(1098,.box (ch x 1096)),(1096,bU al),(1255,.box [.v (ti n2),.bk 4500 0,.bk 1275 0]),(1275,.arr 0 3 1 fr),(3166,.arr 0 106 3 ks),(4500,.arr 0 77 5 (ba ((ks.take y).map (oe al))))],6000,1000,[]⟩)
     (λy=>y<=al.length) (λy=>al.length-y) 0 (Le.aD ?_ ?_ ?_ ?_) (by simp) (λy hy=>?_)
    ·simp
    ·simp
    ·simp[ch,nN,isMap,la,bU,ba]
    ·simp
    refine aa.ab ay fw [2,3,5,63,64,65,66] ?_;simp[TZ];refine aa.seq ?_;refine aa.cond rfl (λbM=>?_) (λbM=>?_)
    ·simp at bM;refine aa.skip ?_;simp;refine aa.seq ?_;refine aa.block ?_;obtain⟨r,hr⟩:∃r,ks[y]'(by omega)=r:=⟨_,rfl⟩;obtain⟨a,ha,hak⟩:=hksm r (by rw[<-hr];exact Zbi _);have lV:DM.rowAt ks y=bW a:=by rw[hak,<-hr];simp[DM.rowAt,hksl,bM]
     obtain⟨l1,l2,i,l3⟩:=rW ha;have htake:=O0 (f:=λr=>(oe al r).enc) (by omega) hr;obtain⟨c,hc⟩:∃c,oe al (bW a)=c:=⟨_,rfl⟩;rw[hc]at l3;rw[<-hak,hc]at htake;have htake':ba (List.take (y+1) (List.map (oe al) ks))=ba (List.take y (List.map (oe al) ks))++[[ti c.f,ti c.t,ti c.term,ti c.cost,.sl (cR c.ops)]]:=by
      have:=htake;simp only[ba,List.map_take,ZcK]at this⊢;exact this
     simp only[bn.key,keyOf]at l3;refine aa.ab ay fw [2,3,5,10,63,64,65] ?_;simp[T0,lV,hksl,bM,bW];refine aa.dv ay fw [2,3,5,63,64,65] ?_;simp[T1,ch,bU,l3,bn.enc,cG,chunk];refine⟨⟨by omega,by omega⟩, ?_⟩;refine aa.dv ay fw [2,3,5,63,64,65] ?_;simp[T2];rw[au (by omega)];refine⟨y+1,Le.aD ?_ ?_ ?_ ?_,by omega,by omega⟩
     ·simp
     ·simp
     ·simp[nN,isMap,la,htake']
     ·simp
    ·simp at bM;have:y=al.length:=by omega
     subst this;refine aa.exit ⟨rfl,Le.aD ?_ ?_ ?_ ?_⟩
     ·simp
     ·simp
     ·simp[iZ,hks];rw[Za2 (by simp;omega)]
     ·simp
   ·refine aa.ab ay fw [2] ?_;simp[T3];refine aa.ret ?_;have mD:fr=aB (wA x):=by rw[<-we,<-Wp,<-TO,<-hn];exact Ii x
    simp[T4,iR,aL.enc,XH,mD,hn];omega
  ·obtain⟨i,hi,rfl⟩:=yE he;have hfind:=Fi hi;obtain⟨a,ha⟩:∃a,al.getD i default=a:=⟨_,rfl⟩;rw[ha]at hfind;simp only at bG;simp;refine aa.seq ?_;refine aa.cond rfl (λ_=>?_) (λh=>by cases h);refine aa.skip ?_;simp;refine aa.block ?_;refine aa.ab ay fw [2,3,5,7,8,52] ?_;simp[TW,bU,hfind,bn.key,keyOf];refine aa.dv ay fw [2,3,5,7,52] ?_;simp[TX,cG,chunk];have hlen:=xC al.length (l:=i::sn) (by simp[bG,J5]) (by simp;exact⟨hi,NU⟩);simp at hlen;have XH:jL x=al:=by unfold jL;rw[hn,Wp,kj]
   rw[XH]at kU;have ha':al[i]?.getD default=a:=ha;refine⟨⟨by omega,by omega⟩,sn++[i],Le.aD ?_ ?_ ?_ ?_,⟨?_, ?_⟩, ?_⟩
   ·simp
   ·simp
   ·simp[ch,nN,isMap,la,ha',bW]
   ·simp[QL,As]
   ·rw[ZbP];exact⟨J5,by simp,by simp;intro q hq e;subst e;exact bG hq⟩
   ·intro j hj;rw[Zao,Zah]at hj;rcases hj with h|h
    ·exact NU j h
    ·omega
   ·simp;omega
end Go.Proofs
namespace Go.Proofs
open Go.DM Go.DM.NF
end Go.Proofs
