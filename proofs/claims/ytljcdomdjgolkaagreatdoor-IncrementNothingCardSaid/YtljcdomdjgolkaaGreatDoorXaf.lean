/- Part of the proof. Conditions: none. -/
import Derived.Test.YtljcdomdjgolkaaGreatDoorXae
import Derived.Test.YtljcdomdjgolkaaGreatDoorXad
import Derived.Test.YtljcdomdjgolkaaGreatDoorXac
import Derived.KernelRfl
import Derived.Shelf.SlSortCmp.NoneTotal
import Derived.Test.YtljcdomdjgolkaaGreatDoorProg
set_option linter.unusedSectionVars false
set_option linter.unusedSimpArgs false
set_option linter.unusedVariables false
set_option maxHeartbeats 16000000
set_option maxRecDepth 100000
namespace Go.Proofs
open Go.DM
def nC(c:bD)(t:Nat):Prop:=¬(((t:Int)=c.kind/\c.read.getD t default≠0)\/((t:Int)≠c.kind/\c.read.getD t default≠-1/\(c.read.getD t default<1\/c.read.getD t default>60000)))
def yZ(c:bD)(aV:Int):Prop:=(¬(c.kind< -1\/c.kind>=aV\/(c.read.length:Int)≠aV\/c.delete<1\/(c.delete>60000/\c.delete≠1099511627776)))/\∀t,t<aV.toNat->nC c t
instance(c:bD)(t:Nat):Decidable (nC c t):=by unfold nC;infer_instance
instance(c:bD)(aV:Int):Decidable (yZ c aV):=by unfold yZ;infer_instance
def nh(l:List bD)(aV:Int):Prop:=∀i,i<l.length->yZ (l.getD i default) aV
instance(l:List bD)(aV:Int):Decidable (nh l aV):=by unfold nh;infer_instance
def D2(l:List Int)(t:Nat):Prop:=¬(l.getD t default<1\/l.getD t default>60000)
instance(l:List Int)(t:Nat):Decidable (D2 l t):=by unfold D2;infer_instance
def De(x:Input)(aV:Int):Prop:=(¬(aV<0\/(x.aj.length:Int)>60\/(x.insert.length:Int)≠aV\/x.swap<0\/x.swap>60000\/¬nh x.aj aV))/\∀t,t<aV.toNat->D2 x.insert t
instance(x:Input)(aV:Int):Decidable (De x aV):=by unfold De;infer_instance
def mr(x:Input)(tokens:Int):Prop:=((x.aj.length:Int)<=tokens/\(x.insert.length:Int)<=5)/\De x x.insert.length
instance(x:Input)(tokens:Int):Decidable (mr x tokens):=by unfold mr;infer_instance
theorem t58(c:bD)(aV:Int)(h:aV<=1000000000000):aT Tryz.prog 65 [.agg c.enc,ti aV] (.bool (decide (yZ c aV))):=by
 have aw:=okE;obtain⟨v,hv⟩:∃v,decide (yZ c aV)=v:=⟨_,rfl⟩;rw[hv];have bad:¬yZ c aV->v=false:=λh=>by rw[<-hv];simp[h]
 have cY:yZ c aV↔(¬(c.kind< -1\/c.kind>=aV\/(c.read.length:Int)≠aV\/c.delete<1\/(c.delete>60000/\c.delete≠1099511627776)))/\∀t,t<aV.toNat->nC c t:=Iff.rfl;refine c58.ok (by simp) (aJ ?_);simp[bD.enc];refine aa.ab aw fw [1,2] ?_;simp[HO];refine aa.le (Le.aC (o:=[]) (l:=[(1,.v (ti aV)),(2,.v (.box [ti c.kind,.sl (aB c.read),ti c.delete]))]) (nxt':=1200) ?_ ?_ ?_ ?_) ?_;iterate 4(·simp)
 refine aa.seq ?_;obtain⟨b,hb⟩:∃b:Bool,decide (c.kind< -1\/c.kind>=aV\/(c.read.length:Int)≠aV\/c.delete<1\/(c.delete>60000/\c.delete≠1099511627776))=b:=⟨_,rfl⟩;refine aa.bY aw fw [(1,.v (ti aV)),(2,.v (.box [ti c.kind,.sl (aB c.read),ti c.delete])),(37,.v (.bool b))] ?_ ?_
 ·by_cases q1:c.kind< -1
  ·have mH:b=true:=by rw[<-hb];simp[q1]
   simp[tj,q1,mH]
  ·by_cases q2:aV<=c.kind
   ·have mH:b=true:=by rw[<-hb];simp[q2]
    simp[tj,q1,q2,mH]
   ·by_cases q3:(c.read.length:Int)=aV
    ·by_cases q4:c.delete<1
     ·have mH:b=true:=by rw[<-hb];simp[q4]
      simp[tj,q1,q2,q3,q4,mH]
     ·by_cases q5:60000<c.delete
      ·by_cases q6:c.delete=1099511627776
       ·have mH:b=false:=by rw[<-hb];simp only[decide_eq_false_iff_not];omega
        simp[tj,q1,q2,q3,q4,q5,q6,mH]
       ·have mH:b=true:=by rw[<-hb];simp[q5,q6]
        simp[tj,q1,q2,q3,q4,q5,q6,mH]
      ·have mH:b=false:=by rw[<-hb];simp only[decide_eq_false_iff_not];omega
       simp[tj,q1,q2,q3,q4,q5,mH]
    ·have mH:b=true:=by rw[<-hb];simp[q3]
     simp[tj,q1,q2,q3,mH]
 refine aa.cond rfl (λh=>?_) (λh=>?_)
 ·rw[h]at hb;simp only[decide_eq_true_eq]at hb;refine aa.ab aw fw [4] ?_;simp[Nc];refine aa.ret ?_;rw[bad λe=>(cY.1 e).1 hb];simp[rE]
 rw[h]at hb;simp only[decide_eq_false_iff_not]at hb;obtain⟨n,hn⟩:∃n,c.read.length=n:=⟨_,rfl⟩;have hnt:aV=(n:Int):=by omega
 subst hnt;refine aa.skip ?_;simp;refine aa.seq ?_;refine aa.ab aw fw [1,2,5] ?_;simp[Dd];refine aa.block ?_;refine aa.loop (λy:Nat=>⟨DM.look [(1,.v (ti n)),(2,.v (.box [ti c.kind,.sl (aB c.read),ti c.delete])),(5,.v (ti y))],cA [],2000,1000,[]⟩)
  (λy=>y<=n/\∀t,t<y->nC c t) (λy=>n-y) 0 (Le.aC (o:=[]) ?_ ?_ ?_ ?_) (by simp) (λy hy=>?_)
 iterate 4(·simp)
 obtain⟨jR,fl⟩:=hy;refine aa.seq ?_;refine aa.ab aw fw [1,2,5,40] ?_;simp[d58r4];refine aa.cond rfl (λbM=>?_) (λbM=>?_)
 ·simp at bM;have PX:y<c.read.length:=by omega
  have r1:=cO PX;obtain⟨u,hu⟩:∃u,c.read.getD y default=u:=⟨_,rfl⟩;rw[hu]at r1;have jS:nC c y↔¬(((y:Int)=c.kind/\u≠0)\/((y:Int)≠c.kind/\u≠-1/\(u<1\/u>60000))):=by unfold nC;rw[hu]
  obtain⟨kd,hkd⟩:∃k,c.kind=k:=⟨_,rfl⟩;rw[hkd]at jS⊢;refine aa.skip ?_;simp;refine aa.seq ?_;refine aa.block ?_;refine aa.ab aw fw [1,2,5,6] ?_;simp[d58r5,r1,PX];obtain⟨b2,kv⟩:∃b:Bool,decide (((y:Int)=kd/\u≠0)\/((y:Int)≠kd/\u≠-1/\(u<1\/u>60000)))=b:=⟨_,rfl⟩;refine aa.bY aw fw [(1,.v (ti n)),(2,.v (.box [ti kd,.sl (aB c.read),ti c.delete])),(5,.v (ti y)),(73,.v (.bool b2))] ?_ ?_
  ·by_cases q1:(y:Int)=kd
   ·by_cases q2:u=0
    ·have mH:b2=false:=by rw[<-kv];simp[q1,q2]
     simp[Bu,q1,q2,mH]
    ·have mH:b2=true:=by rw[<-kv];simp[q1,q2]
     simp[Bu,q1,q2,mH]
   ·by_cases q2:u= -1
    ·have mH:b2=false:=by rw[<-kv];simp[q1,q2]
     simp[Bu,q1,q2,mH]
    ·by_cases q3:u<1
     ·have mH:b2=true:=by rw[<-kv];simp[q1,q2,q3]
      simp[Bu,q1,q2,q3,mH]
     ·by_cases q4:60000<u
      ·have mH:b2=true:=by rw[<-kv];simp[q1,q2,q4]
       simp[Bu,q1,q2,q3,q4,mH]
      ·have mH:b2=false:=by rw[<-kv];simp only[decide_eq_false_iff_not];omega
       simp[Bu,q1,q2,q3,q4,mH]
  refine aa.cond rfl (λh=>?_) (λh=>?_)
  ·rw[h]at kv;simp only[decide_eq_true_eq]at kv;refine aa.ab aw fw [4] ?_;simp[d58r7];refine aa.ret ?_;rw[bad λe=>jS.1 ((cY.1 e).2 y (by simpa using bM)) kv];simp[rE]
  ·rw[h]at kv;simp only[decide_eq_false_iff_not]at kv;refine aa.skip ?_;simp;refine aa.dp aw fw [1,2,5] ?_;simp[d58r8];rw[au (by omega)];refine⟨y+1,Le.aC (o:=[]) ?_ ?_ ?_ ?_,⟨by omega,λi hi=>?_⟩,by omega⟩;iterate 4(·simp)
   ·by_cases e:i=y
    ·subst e;exact jS.2 kv
    ·exact fl i (by omega)
 simp at bM;refine aa.exit ?_;simp;refine aa.ab aw fw [4] ?_;simp[d58r9];refine aa.ret ?_;have:v=true:=by
  rw[<-hv,decide_eq_true_eq];exact cY.2 ⟨by omega,λi hi=>fl i (by simp at hi;omega)⟩
 rw[this];simp[rE]
abbrev spec58:DM.Spec:=cy (λts=>∃(c:bD) (t:Int),ts=[.agg c.enc,ti t]/\t<=1000000000000) (fun|[.agg c,.int _ t]=>.bool (decide (yZ (Bv c) t))|_=>.bool false) true
theorem ok58:ay Tryz.prog (aW [(65,spec58)]):=by
 refine ay.cons ay.nil ?_;rintro ts ⟨c,t,rfl,h⟩;exact⟨by simpa using t58 c t h,λ_=>rfl⟩
theorem t45(l:List bD)(aV:Int)(h1:l.length<=1000000000000)(h2:aV<=1000000000000):aT Tryz.prog 43 [.sl (aZ l),ti aV] (.bool (decide (nh l aV))):=by
 have aw:=ok58;obtain⟨v,hv⟩:∃v,decide (nh l aV)=v:=⟨_,rfl⟩;rw[hv];have bad:¬nh l aV->v=false:=λh=>by rw[<-hv];simp[h]
 refine c45.ok (by simp) (aJ ?_);simp;refine aa.ab aw fw [0,1] ?_;simp[GY];refine aa.seq ?_;refine aa.ab aw fw [0,1,5] ?_;simp[AU];refine aa.block ?_;refine aa.loop (λj:Nat=>⟨DM.look [(0,.v (.sl (aZ l))),(1,.v (ti aV)),(5,.v (ti j))],cA [],2000,1000,[]⟩)
  (λj=>j<=l.length/\∀i,i<j->yZ (l.getD i default) aV) (λj=>l.length-j) 0 (Le.aC (o:=[]) ?_ ?_ ?_ ?_) (by simp) (λj hj=>?_)
 iterate 4(·simp)
 obtain⟨jR,fl⟩:=hj;refine aa.seq ?_;refine aa.ab aw fw [0,1,5,9] ?_;simp[GZ];refine aa.cond rfl (λbM=>?_) (λbM=>?_)
 ·simp at bM;have r1:=dR bM;refine aa.skip ?_;simp;refine aa.seq ?_;refine aa.block ?_;obtain⟨u,hu⟩:∃u,l.getD j default=u:=⟨_,rfl⟩;rw[hu]at r1;refine aa.ab aw fw [0,1,5,18] ?_;obtain⟨a,b,c⟩:=u;simp[G0,bM,r1,bD.enc];rw[show Bv [ti a,T.sl (aB b),ti c]=⟨a,b,c⟩from Bw ⟨a,b,c⟩];refine⟨⟨⟨a,b,c⟩,aV,⟨⟨rfl,rfl,rfl⟩,rfl⟩,h2⟩, ?_⟩;refine aa.cond rfl (λh=>?_) (λh=>?_)
  ·simp at h;refine aa.ab aw fw [4] ?_;simp[Ha];refine aa.ret ?_;rw[bad λe=>h (by have:=e j bM;rw[hu]at this;exact this)];simp[tW]
  ·simp at h;refine aa.skip ?_;simp;refine aa.dp aw fw [0,1,5] ?_;simp[d45r5];rw[au (by omega)];refine⟨j+1,Le.aC (o:=[]) ?_ ?_ ?_ ?_,⟨by omega,λi hi=>?_⟩,by omega⟩;iterate 4(·simp)
   ·by_cases e:i=j
    ·subst e;show yZ (l.getD i default) aV;rw[hu];exact h
    ·exact fl i (by omega)
 simp at bM;refine aa.exit ?_;simp;refine aa.ab aw fw [4] ?_;simp[d45r6];refine aa.ret ?_;have:v=true:=by
  rw[<-hv,decide_eq_true_eq];exact λi hi=>fl i (by omega)
 rw[this];simp[tW]
abbrev spec45:DM.Spec:=cy (λts=>∃(l:List bD) (t:Int),ts=[.sl (aZ l),ti t]/\l.length<=1000000000000/\t<=1000000000000) (fun|[.sl c,.int _ t]=>.bool (decide (nh (eS c) t))|_=>.bool false) true
theorem ok45:ay Tryz.prog (aW [(43,spec45)]):=by
 refine ay.cons ay.nil ?_;rintro ts ⟨c,t,rfl,h1,h2⟩;exact⟨by simpa using t45 c t h1 h2,λ_=>rfl⟩
theorem t28(x:Input)(aV:Int)(ht:aV<=1000000000000):aT Tryz.prog 21 [x.enc,ti aV] (.bool (decide (De x aV))):=by
 have aw:=ok45;obtain⟨v,hv⟩:∃v,decide (De x aV)=v:=⟨_,rfl⟩;rw[hv];have bad:¬De x aV->v=false:=λh=>by rw[<-hv];simp[h]
 have cY:De x aV↔(¬(aV<0\/(x.aj.length:Int)>60\/(x.insert.length:Int)≠aV\/x.swap<0\/x.swap>60000\/¬nh x.aj aV))/\∀t,t<aV.toNat->D2 x.insert t:=Iff.rfl;refine c28.ok (by simp) (aJ ?_);simp[Input.enc];refine aa.ab aw fw [1,2] ?_;simp[d28r0];refine aa.le (Le.aC (o:=[]) (l:=[(1,.v (ti aV)),(2,.v (.box [.sl (aZ x.aj),.sl (aB x.insert),ti x.swap]))]) (nxt':=1200) ?_ ?_ ?_ ?_) ?_;iterate 4(·simp)
 refine aa.seq ?_;obtain⟨b,hb⟩:∃b:Bool,decide (aV<0\/(x.aj.length:Int)>60\/(x.insert.length:Int)≠aV\/x.swap<0\/x.swap>60000\/¬nh x.aj aV)=b:=⟨_,rfl⟩;refine aa.bY aw fw [(1,.v (ti aV)),(2,.v (.box [.sl (aZ x.aj),.sl (aB x.insert),ti x.swap])),(37,.v (.bool b))] ?_ ?_
 ·by_cases q1:aV<0
  ·have mH:b=true:=by rw[<-hb];simp[q1]
   simp[yI,q1,mH]
  ·by_cases q2:60<(x.aj.length:Int)
   ·have mH:b=true:=by rw[<-hb];simp[q2]
    simp[yI,q1,q2,mH]
   ·by_cases q3:(x.insert.length:Int)=aV
    ·by_cases q4:x.swap<0
     ·have mH:b=true:=by rw[<-hb];simp[q4]
      simp[yI,q1,q2,q3,q4,mH]
     ·by_cases q5:60000<x.swap
      ·have mH:b=true:=by rw[<-hb];simp[q5]
       simp[yI,q1,q2,q3,q4,q5,mH]
      ·by_cases q6:nh x.aj aV
       ·have mH:b=false:=by rw[<-hb];simp only[decide_eq_false_iff_not];rintro(h|h|h|h|h|h)<;>first|omega|exact h q6
        simp[yI,q1,q2,q3,q4,q5,q6,mH];exact⟨x.aj,aV,⟨rfl,rfl⟩,by omega,ht⟩
       ·have mH:b=true:=by rw[<-hb];simp[q6]
        simp[yI,q1,q2,q3,q4,q5,q6,mH];exact⟨x.aj,aV,⟨rfl,rfl⟩,by omega,ht⟩
    ·have mH:b=true:=by rw[<-hb];simp[q3]
     simp[yI,q1,q2,q3,mH]
 refine aa.cond rfl (λh=>?_) (λh=>?_)
 ·rw[h]at hb;simp only[decide_eq_true_eq]at hb;refine aa.ab aw fw [4] ?_;simp[d28r2];refine aa.ret ?_;rw[bad λe=>(cY.1 e).1 hb];simp[Fk]
 rw[h]at hb;simp only[decide_eq_false_iff_not]at hb;have Qd:(x.insert.length:Int)=aV:=by
  by_cases e:(x.insert.length:Int)=aV
  ·exact e
  ·exact absurd (.inr (.inr (.inl e))) hb
 obtain⟨n,hn⟩:∃n,x.insert.length=n:=⟨_,rfl⟩;rw[hn]at Qd;subst Qd;refine aa.skip ?_;simp;refine aa.seq ?_;refine aa.ab aw fw [1,2,5] ?_;simp[d28r3];refine aa.block ?_;refine aa.loop (λy:Nat=>⟨DM.look [(1,.v (ti n)),(2,.v (.box [.sl (aZ x.aj),.sl (aB x.insert),ti x.swap])),(5,.v (ti y))],cA [],2000,1000,[]⟩)
  (λy=>y<=n/\∀t,t<y->D2 x.insert t) (λy=>n-y) 0 (Le.aC (o:=[]) ?_ ?_ ?_ ?_) (by simp) (λy hy=>?_)
 iterate 4(·simp)
 obtain⟨jR,fl⟩:=hy;refine aa.seq ?_;refine aa.ab aw fw [1,2,5,40] ?_;simp[d28r4];refine aa.cond rfl (λbM=>?_) (λbM=>?_)
 ·simp at bM;have PX:y<x.insert.length:=by omega
  have r1:=cO PX;obtain⟨u,hu⟩:∃u,x.insert.getD y default=u:=⟨_,rfl⟩;rw[hu]at r1;have jS:D2 x.insert y↔¬(u<1\/u>60000):=by unfold D2;rw[hu]
  refine aa.skip ?_;simp;refine aa.seq ?_;refine aa.block ?_;refine aa.bY aw fw [(1,.v (ti n)),(2,.v (.box [.sl (aZ x.aj),.sl (aB x.insert),ti x.swap])),(5,.v (ti y)),(56,.v (.bool (decide (u<1\/60000<u))))] ?_ ?_
  ·by_cases q1:u<1
   ·simp[UG,r1,PX,q1]
   ·by_cases q2:60000<u<;>simp[UG,r1,PX,q1,q2]
  refine aa.cond rfl (λh=>?_) (λh=>?_)
  ·simp only[decide_eq_true_eq]at h;refine aa.ab aw fw [4] ?_;simp[d28r6];refine aa.ret ?_;rw[bad λe=>jS.1 ((cY.1 e).2 y (by simpa using bM)) h];simp[Fk]
  ·simp only[decide_eq_false_iff_not]at h;refine aa.skip ?_;simp;refine aa.dp aw fw [1,2,5] ?_;simp[d28r7];rw[au (by omega)];refine⟨y+1,Le.aC (o:=[]) ?_ ?_ ?_ ?_,⟨by omega,λi hi=>?_⟩,by omega⟩;iterate 4(·simp)
   ·by_cases e:i=y
    ·subst e;exact jS.2 h
    ·exact fl i (by omega)
 simp at bM;refine aa.exit ?_;simp;refine aa.ab aw fw [4] ?_;simp[d28r8];refine aa.ret ?_;have:v=true:=by
  rw[<-hv,decide_eq_true_eq];exact cY.2 ⟨hb,λi hi=>fl i (by simp at hi;omega)⟩
 rw[this];simp[Fk]
theorem uJ{a b:Int}(ha:0<=a)(hb:0<=b):0<=jG a b:=by unfold jG;split<;>omega
def Ip(es:List (Nat×T×DV)):Prop:=∀e∈es,∃a:bn,e.2.2=.v (.agg a.enc)
theorem Va{f:aU}{N n:Nat}{l0 l1:List (Nat×Ob)}(bd:dO f N)(h0:∀p∈l0,N<=p.1)(h1:∀p∈l1,N<=p.1)(hn:f n≠none):sameAt (over l0 f) (over l1 f) n:=by
 obtain⟨o,ho⟩:=ZbO.1 hn;have cW:=(bd n o ho).1;refine⟨o,o, ?_, ?_,bu o⟩
 ·rw[ej λo' h=>by have:=h0 _ h;simp only at this;omega];exact ho
 ·rw[ej λo' h=>by have:=h1 _ h;simp only at this;omega];exact ho
theorem Vb{k:T}{c:Int}{y:DV}{wB:Nat}{es:List (Nat×T×DV)}{e:Nat×T×DV}(h:e∈oO k c y wB es):e.2.2=y\/∃e'∈es,e.2.2=e'.2.2:=by
 unfold oO at h;split at h
 ·rename_i hbt;clear hbt;unfold D6 at h;split at h
  ·rename_i i hi;clear hi;induction es generalizing i with
   |nil=>simp at h
   |cons e0 es ih=>
    cases i with
    |zero=>
     simp only[Zb3,Zag]at h;rcases h with rfl|h
     ·exact .inl rfl
     ·exact .inr ⟨e,by simp[h],rfl⟩
    |succ i=>
     simp only[ZbN,Zag]at h;rcases h with rfl|h
     ·exact .inr ⟨e,by simp,rfl⟩
     ·rcases ih i h with h|⟨e',h1,h2⟩
      ·exact .inl h
      ·exact .inr ⟨e',by simp[h1],h2⟩
  ·rcases Zao.1 h with h|h
   ·exact .inr ⟨e,h,rfl⟩
   ·simp only[Zah]at h;subst h;exact .inl rfl
 ·exact .inr ⟨e,h,rfl⟩
def XR:List DV->aU->iw
 |[.ptr b 0,.agg [.v (.int .i64 f),.v (.int .i64 t),.v (.int .i64 x),.v (.int .i64 c),d]],objs=>
  match objs b with
  |some (.box [_,_,_,.iv m])=>match objs m with
   |some (.map shs agg wB es)=>⟨shs=kq/\agg=true/\Ip es/\je d/\∀n∈names d,objs n≠none,.v (.eF []),
     cZ objs m (.map kq true (ui (keyOf f t x) c wB es) (oO (keyOf f t x) c (.agg [.v (ti f),.v (ti t),.v (ti x),.v (ti c),d]) wB es))⟩
   |_=>⟨False,.undef,objs⟩
  |_=>⟨False,.undef,objs⟩
 |_,objs=>⟨False,.undef,objs⟩
theorem t48{f0:aU}{b m wB:Nat}{c1 c2 c3:DV}{es:List (Nat×T×DV)}{f t x c:Int}{d:DV}{N:Nat}(hN:∀r,N<=r->f0 r=none)(hb:f0 b=some (.box [c1,c2,c3,.iv m]))(hm:f0 m=some (.map kq true wB es))(he:Ip es)(hd:je d)(Eu:∀n∈names d,f0 n≠none):
  aY Tryz.prog 73 [.ptr b 0,.agg [.v (ti f),.v (ti t),.v (ti x),.v (ti c),d]] f0 ⟨True,.v (.eF []),cZ f0 m (.map kq true (ui (keyOf f t x) c wB es) (oO (keyOf f t x) c (.agg [.v (ti f),.v (ti t),.v (ti x),.v (ti c),d]) wB es))⟩:=by
 have aw:=ed;refine c48.uC hN (by simp) λbd=>?_;have WE:b<N:=(bd b _ hb).1;have Fq:m<N:=(bd m _ hm).1;have xC:b≠m:=λe=>by rw[e,hm]at hb;cases hb
 have nb:∀k,b≠N+k:=λk=>by omega
 have nm:∀k,m≠N+k:=λk=>by omega
 simp;refine aa.ab aw fw [0,3] ?_;simp[d48r0];refine aa.ab aw fw [0,3,4] ?_;simp[d48r1];obtain⟨k,hk⟩:∃k,keyOf f t x=k:=⟨_,rfl⟩;have qU:T.agg [ti f,ti t,ti x]=k:=hk;rw[hk];refine aa.le (Le.fp (l1:=[(N+49,.box [.v (ti f),.v (ti t),.v (ti x)]),(N+4,.box [.v (ti f),.v (ti t),.v (ti x),.v (ti c),d])]) (l:=[(0,.ptr b 0),(3,.ptr (N+4) 0),(4,.ptr (N+49) 0)]) (nxt':=N+100) bd ?_ ?_ ?_ ?_ ?_) ?_
 ·omega
 ·simp
 ·simp[bZ]
 ·refine⟨⟨.box [.v (ti f),.v (ti t),.v (ti x)],by simp[Nat.add_assoc],.inl (by simp),by omega⟩,⟨.box [.v (ti f),.v (ti t),.v (ti x),.v (ti c),d],by simp[Nat.add_assoc],.inr ⟨rfl,λn hn=>?_⟩,by omega⟩,trivial⟩;refine Va bd ?_ ?_ (Eu n (by simpa [bF,bJ,names]using hn))
  ·simp;omega
  ·simp
 ·simp[hb,nb,Nat.add_assoc]
 have hko:dh kq true k:=by rw[<-hk];simp[keyOf]
 have H:∀(q1 q2 q3 q5:DV) (oc:Int) (fnd:Bool),fnd=(ou k es).isSome->(∀e,ou k es=some e->oc=Fo e.2.2)->
   aa Tryz.prog 43 ((DC.region false Us).seq (DC.cond (bp.tmp 36) (DC.region true Ut) DC.skip))
    (Xm K9 ⟨True,.v (.eF []),cZ f0 m (.map kq true (ui k c wB es) (oO k c (.agg [.v (ti f),.v (ti t),.v (ti x),.v (ti c),d]) wB es))⟩)
    ⟨DM.look [(0,.ptr b 0),(3,.ptr (N+4) 0),(4,.ptr (N+49) 0),(5,.ptr (N+106) 0),(6,.v (.bool fnd))],
     over [(N+106,.box [q1,q2,q3,.v (ti oc),q5]),(N+106,.box [.v (ti 0),.v (ti 0),.v (ti 0),.v (ti 0),.aI]),(N+49,.box [.v (ti f),.v (ti t),.v (ti x)]),(N+4,.box [.v (ti f),.v (ti t),.v (ti x),.v (ti c),d])] f0,N+144,N,[]⟩:=by
  intro q1 q2 q3 q5 oc fnd XS hoc;have hbet:better k c es=(decide (c<1099511627776)&&(!fnd||decide (c<oc))):=by
   unfold better;cases hf:ou k es with
   |none=>simp[hf]at XS;simp[XS]
   |some e=>simp[hf]at XS;simp[XS,hoc e hf]
  obtain⟨y,hy⟩:∃y,DV.agg [.v (ti f),.v (ti t),.v (ti x),.v (ti c),d]=y:=⟨_,rfl⟩;have hyn:∀n∈names y,f0 n≠none:=by
   intro n hn;refine Eu n ?_;rw[<-hy]at hn;simpa [names,bJ]using hn
  have oV:∀e∈es,names e.2.2=[]:=λe WG=>by obtain⟨a,ha⟩:=he e WG;rw[ha];rfl
  rw[hy];refine aa.to ⟨DM.look [],over [(m,.map kq true (ui k c wB es) (oO k c y wB es))] f0,N+1000,N,[]⟩ ?_ (by simp[K9];rfl);refine aa.bY aw fw [(0,.ptr b 0),(3,.ptr (N+4) 0),(4,.ptr (N+49) 0),(36,.v (.bool (better k c es)))] ?_ ?_
  ·by_cases s1:c<1099511627776<;>cases fnd<;>by_cases s2:c<oc<;>simp[Us,s1,s2,hbet]
  refine aa.cond rfl (λh=>?_) (λh=>?_)
  ·refine aa.dp aw fw [] ?_;simp[-dh,Ut,Nat.add_assoc,nb,nm,hb,hm,qU,hko];refine Le.fp (l:=[]) bd ?_ ?_ ?_ ?_ ?_
   ·omega
   ·simp;omega
   ·simp[bZ];omega
   ·refine⟨⟨.map kq true (ui k c wB es) (oO k c y wB es),by simp[ui,oO,h,hy],.inr ⟨rfl,λn hn=>?_⟩,λ_=>bu _⟩,trivial⟩
    ·simp only[bF,ZaV]at hn;obtain⟨e,WG,hn⟩:=hn;rcases Vb WG with h'|⟨e',h',h''⟩
     ·rw[h']at hn;obtain⟨o,ho⟩:=ZbO.1 (hyn n hn);have cW:=(bd n o ho).1;by_cases hnm:n=m
      ·subst hnm;exact⟨.map kq true (ui k c wB es) (oO k c y wB es),.map kq true (ui k c wB es) (oO k c y wB es),by simp[ui,oO,h,hy],by simp,bu _⟩
      ·refine⟨o,o, ?_, ?_,bu o⟩
       ·simp[hnm,show n≠N+106 by omega,show n≠N+49 by omega,show n≠N+4 by omega,ho]
       ·simp[hnm,ho]
     ·rw[h'',oV e' h']at hn;cases hn
   ·simp
  ·refine aa.skip ⟨rfl,Le.fp (l:=[]) bd ?_ ?_ ?_ ?_ ?_⟩
   ·omega
   ·simp;omega
   ·simp[bZ];omega
   ·refine⟨⟨.map kq true wB es,by simp[nm,hm],.inr ⟨by simp[ui,oO,h],λn hn=>?_⟩,λ_=>by simp[gT]⟩,trivial⟩
    ·simp only[bF,ZaV]at hn;obtain⟨e,WG,hn⟩:=hn;rw[oV e WG]at hn;cases hn
   ·simp
 refine aa.ab aw fw [0,3,4,5,6] ?_;cases hf:ou k es with
 |none=>
  simp[-dh,Ur,Nat.add_assoc,nb,nm,hb,hm,qU,hko,hf];exact H _ _ _ _ 0 false (by simp[hf]) (by simp[hf])
 |some e=>
  obtain⟨a,ha⟩:=he e (ZbQ hf);simp[-dh,Ur,Nat.add_assoc,nb,nm,hb,hm,qU,hko,hf,ha,bn.enc];exact H _ _ _ _ a.cost true (by simp[hf]) (by intro e' WG;rw[hf]at WG;cases WG;simp[ha,bn.enc,Fo])
def Iq(ts:List T):Prop:=∃l:List (Int×Int),ts=[.sl (cR l)]/\l.length<=1000000
def Vc:List T->List (List T)
 |[.sl rows]=>rows
 |_=>[]
abbrev Γ4:Env:=aW [(73,fa XR),(74,u6 Iq Vc 75 2)]
theorem ok4:ay Tryz.prog Γ4:=by
 refine ay.gS (ay.Q0 ay.nil ?_) ?_
 ·rintro ts ⟨l,rfl,h⟩;exact t49 l h
 ·intro args objs h;unfold XR at h⊢;split at h
  ·rename_i b f t x c d aA;split at h
   ·rename_i c1 c2 c3 m hb;split at h
    ·rename_i shs agg wB es hm;obtain⟨rfl,rfl,he,hd,Eu⟩:=h;refine⟨λN hN=>?_,λr hr=>?_⟩
     ·exact aY.of (t48 hN hb hm he hd Eu) (by simp[]) (by simp[])
     ·simp only[];exact sk hm hr
    ·exact h.elim
   ·exact h.elim
  ·exact h.elim
theorem Ld{a b:aU}{k:T}{c:Int}{y y':DV}{wB:Nat}{es:List (Nat×T×DV)}(hy:jh a b id y y')(he:Ip es):iO a b id (oO k c y wB es) (oO k c y' wB es):=by
 have self:∀{l:List (Nat×T×DV)},Ip l->iO a b id l l:=λ{l} hl=>mP λe h=>by obtain⟨x,hx⟩:=hl e h;rw[hx];simp
 unfold oO;split
 ·rename_i hbt;clear hbt;unfold D6;split
  ·rename_i i hi;clear hi;induction es generalizing i with
   |nil=>simp[iO]
   |cons e es ih=>
    cases i with
    |zero=>simp only[Zb3,iO];exact⟨trivial,trivial,hy,self λe' h=>he e' (by simp[h])⟩
    |succ i=>
     simp only[ZbN,iO];obtain⟨x,hx⟩:=he e (by simp);exact⟨trivial,trivial,by rw[hx];simp,ih (λe' h=>he e' (by simp[h])) i⟩
  ·rename_i hn;clear hn;induction es with
   |nil=>simp only[ZaK,iO];exact⟨trivial,trivial,hy,trivial⟩
   |cons e es ih=>
    simp only[ZaH,iO];obtain⟨x,hx⟩:=he e (by simp);exact⟨trivial,trivial,by rw[hx];simp,ih λe' h=>he e' (by simp[h])⟩
 ·exact self he
theorem eB(al:List bn):Ip (entries al):=O9 al
theorem Dt{a b:aU}{al:List bn}{c:bn}{d:DV}(hd:jh a b id d (.v (.sl (cR c.ops)))):
  il a b (.map kq true (ui c.key c.cost al.length (entries al)) (oO c.key c.cost (.agg [.v (ti c.f),.v (ti c.t),.v (ti c.term),.v (ti c.cost),d]) al.length (entries al))) (bU (tA al c)):=by
 obtain⟨h1,h2⟩:=Fp c al;refine .inl ?_;unfold bU;rw[<-h1,<-h2];simp only[lR];refine⟨trivial,trivial,trivial,Ld ?_ (eB al)⟩;simp[bn.enc,hd]
theorem xD(l:List (Int×Int))(a b:Int):cR l++[[ti a,ti b]]=cR (l++[(a,b)]):=by simp[cR]
theorem Lf{f0:aU}{N m r r2 nxt nxt' v:Nat}{tm:Nat->DV}{l:List (Nat×DV)}{o2:Ob}{al:List bn}(c:bn){rows:List (List T)}(bd:dO f0 N)(hm:m<N)(hr:N<=r)(pV:N<=r2)(hn:N<=nxt')(cS:rows=cR c.ops)
  (iY:gm (over [(m,.map kq true (ui c.key c.cost al.length (entries al)) (oO c.key c.cost (.agg [.v (ti c.f),.v (ti c.t),.v (ti c.term),.v (ti c.cost),.bk r v]) al.length (entries al))),(r,.arr v 75 2 rows),(r2,o2),(m,.map kq true al.length (entries al))] f0) (over [(m,bU (tA al c))] f0) id tm l):
  Le ⟨tm,cZ (over [(r,.arr v 75 2 rows),(r2,o2),(m,.map kq true al.length (entries al))] f0) m (.map kq true (ui c.key c.cost al.length (entries al)) (oO c.key c.cost (.agg [.v (ti c.f),.v (ti c.t),.v (ti c.term),.v (ti c.cost),.bk r v]) al.length (entries al))),nxt,N,[]⟩
   ⟨DM.look l,over [(m,bU (tA al c))] f0,nxt',N,[]⟩:=by
 subst cS;rw[kK];refine Le.fp bd hn ?_ ?_ ?_ iY
 ·simp;omega
 ·simp[bZ];omega
 ·refine⟨⟨_,by simp,Dt (d:=.bk r v) ?_,λ_=>by simp[gT,bU]⟩,trivial⟩;simp[show r≠m by omega];exact cT bd hr (by simp;omega)
theorem Pb(al:List bn):bF (bU al)=[]:=by
 simp only[bU,bF,List.flatMap_eq_nil_iff];intro e he;obtain⟨a,ha⟩:=eB al e he;rw[ha];rfl
theorem oP{a b:aU}(al:List bn):il a b (bU al) (bU al):=.inr ⟨rfl,λn hn=>by rw[Pb]at hn;cases hn⟩
def bS(al:List bn)(cs:List bn):List bn:=cs.foldl tA al
theorem fF(al cs ds:List bn):bS al (cs++ds)=bS (bS al cs) ds:=by simp[bS]
def kj(read:List Int)(i m cost:Int)(ops:List (Int×Int))(n:Nat):List bn:=
 (List.range n).flatMap λt=>if 0<=read.getD t 0 then [⟨2*i,2*m+2,t,cost+read.getD t 0,ops++[(1,(t:Int))]⟩]else []
theorem Lg(read:List Int)(i m cost:Int)(ops:List (Int×Int))(n:Nat):kj read i m cost ops (n+1)=kj read i m cost ops n++(if 0<=read.getD n 0 then [⟨2*i,2*m+2,n,cost+read.getD n 0,ops++[(1,(n:Int))]⟩]else []):=by
 simp[kj,ZaE]
def Ns(c:bD):Prop:=c.read.length<=1000000/\∀p∈c.read,p<=1099511627776
theorem t47{f0:aU}{b m:Nat}{x:Input}{al:List bn}{i j:Nat}{cost:Int}{ops:List (Int×Int)}{N:Nat}(hN:∀r,N<=r->f0 r=none)(hb:f0 b=some (.box (ch x m)))(hm:f0 m=some (bU al))
  (hi:i<=1000000) (hj:j<x.aj.length) (hl:x.aj.length<=1000000) (hc:Ns (x.aj.getD j default)) (qC:0<=cost/\cost<=1099511627776) (hops:ops.length<=1000000):
  aY Tryz.prog 72 [.ptr b 0,.v (ti i),.v (ti j),.v (ti cost),.v (.sl (cR ops))] f0 ⟨True,.v (.eF []),cZ f0 m (bU (bS al (kj (x.aj.getD j default).read i j cost ops (x.aj.getD j default).read.length)))⟩:=by
 have aw:=ok4;refine c47.uC hN (by simp) λbd=>?_;have WE:b<N:=(bd b _ hb).1;have Fq:m<N:=(bd m _ hm).1;have xC:b≠m:=λe=>by rw[e,hm]at hb;cases hb
 have nb:∀k,b≠N+k:=λk=>by omega
 have nm:∀k,m≠N+k:=λk=>by omega
 have lW:=dR hj;obtain⟨col,hcol⟩:∃c,x.aj.getD j default=c:=⟨_,rfl⟩;rw[hcol]at lW hc⊢;obtain⟨kd,read,del⟩:=col;simp only at hc⊢;obtain⟨bb,dG⟩:=hc;simp only at bb dG;have cS:∀r∈cR ops,r.length=2:=by intro r hr;simp only[cR,Zal]at hr;obtain⟨c,_,rfl⟩:=hr;rfl
 simp;refine aa.ab aw fw [0,1,2,3,4,20,21,22] ?_;simp[d47r0,hb,ch,hj,lW,bD.enc];refine aa.to ⟨DM.look [],over [(m,bU (bS al (kj read i j cost ops read.length)))] f0,N+1000,N,[]⟩ ?_ (by simp[Uq];rfl);refine aa.block ?_;refine aa.loop (λy:Nat=>⟨DM.look [(0,.ptr b 0),(1,.v (ti i)),(2,.v (ti j)),(3,.v (ti cost)),(4,.v (.sl (cR ops))),(20,.v (.sl (aB read))),(21,.v (ti read.length)),(22,.v (ti y))],over [(m,bU (bS al (kj read i j cost ops y)))] f0,N+200,N,[]⟩)
  (λy=>y<=read.length) (λy=>read.length-y) 0 (Le.fp bd ?_ ?_ ?_ ?_ ?_) (by simp) (λy hy=>?_)
 ·omega
 ·simp;omega
 ·simp[bZ]
 ·exact⟨⟨bU al,by simp[hm],by simpa [kj,bS]using oP al,λ_=>trivial⟩,trivial⟩
 ·simp[hb,xC]
 refine aa.ab aw fw [0,1,2,3,4,20,21,22,23] ?_;simp[d47r1];refine aa.seq ?_;refine aa.cond rfl (λbM=>?_) (λbM=>?_)
 ·simp at bM;refine aa.skip ?_;simp;refine aa.seq ?_;refine aa.block ?_;have pV:=cO bM;obtain⟨p,hp⟩:∃p,read.getD y default=p:=⟨_,rfl⟩;have hp0:read.getD y 0=p:=hp;have hpm:p<=1099511627776:=dG p (by rw[<-hp];simp[List.getD,bM]);rw[hp]at pV;refine aa.ab aw fw [0,1,2,3,4,10,11,20,21,22] ?_;simp[d47r2,pV,bM];refine aa.ab aw fw [0,1,2,3,4,10,11,20,21,22,28] ?_;simp[d47r3];have kr:=Lg read i j cost ops y;rw[hp0]at kr;obtain⟨WH,Pc⟩:∃l,bS al (kj read i j cost ops y)=l:=⟨_,rfl⟩;rw[Pc];refine aa.to ⟨DM.look [(0,.ptr b 0),(1,.v (ti i)),(2,.v (ti j)),(3,.v (ti cost)),(4,.v (.sl (cR ops))),(20,.v (.sl (aB read))),(21,.v (ti read.length)),(22,.v (ti y))],over [(m,bU (bS al (kj read i j cost ops (y+1))))] f0,N+1000,N,[]⟩ ?_ ?_
  ·refine aa.cond rfl (λhd=>?_) (λhd=>?_)
   ·simp at hd;refine aa.tO aw fw (rs:=K8) (.inr ⟨_,rfl⟩) (by kernel_rfl) [0,1,2,3,4,20,21,22] ?_;have w1:IntKind.i64.wrap (2*(i:Int))=2*i:=au (by omega);have w2:IntKind.i64.wrap (2*(j:Int))=2*j:=au (by omega);have w3:IntKind.i64.wrap (2*(j:Int)+2)=2*j+2:=au (by omega);have w4:IntKind.i64.wrap (cost+p)=cost+p:=au (by omega);simp[K8,w1,w2,w3,w4,Vc,Iq,chunk,cG,XR,hb,ch,xC,bU,eB,Nat.add_assoc,nb,nm];refine⟨⟨ops,rfl,hops⟩,by omega,λn hn=>?_, ?_⟩
    ·simp only[names,Zah]at hn;subst hn;simp
    ·have e:bS al (kj read i j cost ops (y+1))=tA WH ⟨2*i,2*j+2,y,cost+p,ops++[(1,(y:Int))]⟩:=by
      rw[kr,if_pos hd,fF,Pc];rfl
     rw[e];refine Lf ⟨2*i,2*j+2,y,cost+p,ops++[(1,(y:Int))]⟩ bd Fq ?_ ?_ ?_ (xD _ _ _) ?_
     ·omega
     ·omega
     ·omega
     ·simp[hb,xC]
   ·simp at hd;have e:bS al (kj read i j cost ops (y+1))=WH:=by
     rw[kr,if_neg (by omega),ZaJ,Pc]
    rw[e];refine aa.skip ⟨rfl,Le.fp bd ?_ ?_ ?_ ?_ ?_⟩
    ·omega
    ·simp;omega
    ·simp[bZ]
    ·exact⟨⟨bU WH,by simp[bU],oP _,λ_=>bu _⟩,trivial⟩
    ·simp[hb,xC]
  ·refine aa.dp aw fw [0,1,2,3,4,20,21,22] ?_;simp[d47r5];rw[au (by omega)];refine⟨y+1,Le.fp bd ?_ ?_ ?_ ?_ ?_,by omega,by omega⟩
   ·omega
   ·simp;omega
   ·simp[bZ]
   ·exact⟨⟨_,by simp,oP _,λ_=>bu _⟩,trivial⟩
   ·simp[hb,xC]
 ·simp at bM;have:y=read.length:=by omega
  subst this;refine aa.exit ?_;refine⟨rfl, ?_⟩;refine Le.fp (l:=[]) bd ?_ ?_ ?_ ?_ ?_
  ·omega
  ·simp;omega
  ·simp[bZ]
  ·exact⟨⟨_,by simp,oP _,λ_=>bu _⟩,trivial⟩
  ·simp
def eQ(objs:aU)(b:Nat):Input×Nat:=
 match objs b with
 |some (.box [.v (.sl c),.v (.sl i),.v (.int .i64 s),.iv m])=>(⟨eS c,fu i,s⟩,m)
 |_=>(⟨[],[],0⟩,0)
theorem zu{objs:aU}{b m:Nat}{x:Input}(h:objs b=some (.box (ch x m))):eQ objs b=(x,m):=by
 simp[eQ,h,ch]
def xE(objs:aU)(m:Nat):List bn:=
 match objs m with
 |some (.map _ _ _ es)=>es.map λe=>match e.2.2 with|.v (.agg r)=>lL r|_=>default
 |_=>[]
theorem Du{objs:aU}{m:Nat}{al:List bn}(h:objs m=some (bU al)):xE objs m=al:=by
 simp only[xE,h,bU,entries,ZcL];rw[show(List.map ((λe=>match e.2.2 with|DV.v (T.agg r)=>lL r|_=>default)∘λp=>(p.2,p.1.key,DV.v (T.agg p.1.enc))) al.zipIdx)=al.zipIdx.map Prod.fst from Zbq λp _=>by simp];simp
def XT:List DV->aU->iw
 |[.ptr b 0,.v (.int .i64 i),.v (.int .i64 j)],objs=>⟨objs b=some (.box (ch (eQ objs b).1 (eQ objs b).2))/\0<=i/\i<=j/\j<=(eQ objs b).1.aj.length/\ng (eQ objs b).1.aj,
   .v (.eF [ti (dZ (((eQ objs b).1.aj.take j.toNat).drop i.toNat) 0),.sl (cR (dd (j.toNat-i.toNat)))]),objs⟩
 |_,objs=>⟨False,.undef,objs⟩
theorem xF{objs:aU}{b m:Nat}{x:Input}{i j:Nat}(h:objs b=some (.box (ch x m))):
  XT [.ptr b 0,.v (ti i),.v (ti j)] objs=⟨i<=j/\j<=x.aj.length/\ng x.aj,.v (.eF [ti (dZ ((x.aj.take j).drop i) 0),.sl (cR (dd (j-i)))]),objs⟩:=by
 simp only[XT,zu h,h,Zak,true_and,Int.ofNat_le,Zcg];try omega
def k50:List DV->aU->iw
 |[.ptr b 0,.v (.int .i64 i)],objs=>⟨objs b=some (.box (ch (eQ objs b).1 (eQ objs b).2))/\0<=i/\i<=1000000/\(eQ objs b).1.aj.length<=1000000,.v (.bool (bX (eQ objs b).1 i.toNat)),objs⟩
 |_,objs=>⟨False,.undef,objs⟩
theorem Vd{objs:aU}{b m:Nat}{x:Input}{i:Nat}(h:objs b=some (.box (ch x m))):
  k50 [.ptr b 0,.v (ti i)] objs=⟨i<=1000000/\x.aj.length<=1000000,.v (.bool (bX x i)),objs⟩:=by
 simp only[k50,zu h,h,Zak,iw.mk.injEq,and_self,and_true,true_and,eq_iff_iff,Zcg];try omega
def k47:List DV->aU->iw
 |[.ptr b 0,.v (.int .i64 i),.v (.int .i64 j),.v (.int .i64 cost),.v (.sl ops)],objs=>
  ⟨objs b=some (.box (ch (eQ objs b).1 (eQ objs b).2))/\objs (eQ objs b).2=some (bU (xE objs (eQ objs b).2))/\ops=cR (xy ops)/\0<=i/\i<=1000000/\0<=j/\j<(eQ objs b).1.aj.length/\(eQ objs b).1.aj.length<=1000000/\Ns ((eQ objs b).1.aj.getD j.toNat default)/\0<=cost/\cost<=1099511627776/\(xy ops).length<=1000000,.v (.eF []),
   cZ objs (eQ objs b).2 (bU (bS (xE objs (eQ objs b).2) (kj ((eQ objs b).1.aj.getD j.toNat default).read i.toNat j.toNat cost (xy ops) ((eQ objs b).1.aj.getD j.toNat default).read.length)))⟩
 |_,objs=>⟨False,.undef,objs⟩
theorem k47_eq{objs:aU}{b m:Nat}{x:Input}{al:List bn}{i j:Nat}{cost:Int}{ops:List (Int×Int)}(h:objs b=some (.box (ch x m)))(hm:objs m=some (bU al)):
  k47 [.ptr b 0,.v (ti i),.v (ti j),.v (ti cost),.v (.sl (cR ops))] objs=⟨i<=1000000/\j<x.aj.length/\x.aj.length<=1000000/\Ns (x.aj.getD j default)/\0<=cost/\cost<=1099511627776/\ops.length<=1000000,.v (.eF []),
   cZ objs m (bU (bS al (kj (x.aj.getD j default).read i j cost ops (x.aj.getD j default).read.length)))⟩:=by
 simp only[k47,zu h,h,Du hm,hm,Zak,La,true_and,Int.ofNat_lt,Zcg,show((i:Int)<=1000000)=(i<=1000000)from propext ⟨λh=>by omega,λh=>by omega⟩]
abbrev Γ5:Env:=aW [(73,fa XR),(72,fa k47),(50,fa XT),(75,fa k50),(74,u6 Iq Vc 75 2)]
theorem ok5:ay Tryz.prog Γ5:=by
 refine ay.gS (ay.gS (ay.gS (ay.gS (ay.Q0 ay.nil ?_) ?_) ?_) ?_) ?_
 ·rintro ts ⟨l,rfl,h⟩;exact t49 l h
 ·intro args objs h;unfold k50 at h⊢;split at h
  ·rename_i aA b i;obtain⟨hb,h1,h2,h3⟩:=h;obtain⟨i,rfl⟩:=Zad h1;refine⟨λN hN=>?_,λr hr=>hr⟩;exact aY.of (t50 hN hb (by omega) h3) (by simp) (by simp)
  ·exact h.elim
 ·intro args objs h;unfold XT at h⊢;split at h
  ·rename_i aA b i j;obtain⟨hb,h1,h2,h3,h4⟩:=h;obtain⟨i,rfl⟩:=Zad h1;obtain⟨j,rfl⟩:=Zad (show 0<=j by omega);refine⟨λN hN=>?_,λr hr=>hr⟩;exact aY.of (t31 hN hb (by omega) (by omega) h4) (by simp) (by simp)
  ·exact h.elim
 ·intro args objs h;unfold k47 at h⊢;split at h
  ·rename_i aA b i j cost ops;obtain⟨hb,hm,ho,h1,h2,h3,h4,h5,h6,h7,h8,h9⟩:=h;obtain⟨i,rfl⟩:=Zad h1;obtain⟨j,rfl⟩:=Zad h3;refine⟨λN hN=>?_,λr hr=>sk hm hr⟩;rw[ho];exact aY.of (t47 hN hb hm (by omega) (by omega) h5 h6 ⟨h7,h8⟩ h9) (by simp) (by simp)
  ·exact h.elim
 ·intro args objs h;exact(ok4 73 (fa XR) rfl).st XR rfl args objs h
def fW(x:Input)(i m:Nat):Int:=dZ ((x.aj.take m).drop i) 0
def qz(ins:List Int)(i m cost:Int)(ops:List (Int×Int))(n:Nat):List bn:=
 (List.range n).map λ(t:Nat)=>⟨2*i,2*m,(t:Int),cost+ins.getD t 0,ops++[(3,(t:Int))]⟩
theorem Pd(ins:List Int)(i m cost:Int)(ops:List (Int×Int))(n:Nat):qz ins i m cost ops (n+1)=qz ins i m cost ops n++[⟨2*i,2*m,n,cost+ins.getD n 0,ops++[(3,(n:Int))]⟩]:=by
 simp[qz,ZaE]
def xY(x:Input)(i m:Nat):List bn:=kj (x.aj.getD m default).read i m (fW x i m) (dd (m-i)) (x.aj.getD m default).read.length
def pS(x:Input)(i m:Nat):List bn:=
 (if i<m then xY x i (m-1)else [])++(qz x.insert i m (fW x i m) (dd (m-i)) x.insert.length++
  (if bX x m then [⟨2*i,2*m+1,(x.aj.getD (m+1) default).kind,fW x i m+x.swap,dd (m-i)++[(4,0)]⟩]else []))
def vS(x:Input)(i m:Nat):List bn:=(List.range (m-i)).flatMap λe=>pS x i (i+e)
def qA(x:Input)(i:Nat):List bn:=vS x i (x.aj.length+1)++(if bX x i then [⟨2*i+1,2*i+4,(x.aj.getD i default).kind,0,[]⟩]else [])
theorem Lh(x:Input){i m:Nat}(h:i<=m):vS x i (m+1)=vS x i m++pS x i m:=by
 unfold vS;rw[show m+1-i=(m-i)+1 by omega,ZaE,Zcu];simp[show i+(m-i)=m by omega]
def H2(x:Input):Prop:=ng x.aj/\(∀c∈x.aj,Ns c)/\x.insert.length<=1000000/\(∀p∈x.insert,0<=p/\p<=1099511627776)/\0<=x.swap/\x.swap<=1099511627776
theorem eE{x:Input}(h:ng x.aj)(i m:Nat):0<=fW x i m/\fW x i m<=1099511627776:=
 nT (λc hc=>(h.2 c (Zav (Zbv hc))).1) 0 (by omega)
theorem pL{f0:aU}{N m nxt nxt':Nat}{tm:Nat->DV}{l:List (Nat×DV)}{L:List (Nat×Ob)}{al:List bn}(bd:dO f0 N)(hm:m<N)(hn:N<=nxt')(hL:∀p∈L,p.1=m\/N<=p.1)(ho:over L f0 m=some (bU al))
  (iY:gm (over L f0) (over [(m,bU al)] f0) id tm l):
  Le ⟨tm,over L f0,nxt,N,[]⟩ ⟨DM.look l,over [(m,bU al)] f0,nxt',N,[]⟩:=by
 refine Le.fp bd hn ?_ ?_ ?_ iY
 ·simp;omega
 ·induction L with
  |nil=>trivial
  |cons p L ih=>
   have:∀(L:List (Nat×Ob)),(∀p∈L,p.1=m\/N<=p.1)->bZ N [(m,bU al)] L:=by
    intro L;induction L with
    |nil=>intro _;trivial
    |cons q L ih=>
     intro h;refine⟨λhq=>?_,ih λp hp=>h p (by simp[hp])⟩;rcases h q (by simp)with h|h
     ·exact⟨bU al,by simp[h]⟩
     ·omega
   exact this _ hL
 ·exact⟨⟨bU al,ho,oP al,λ_=>bu _⟩,trivial⟩
theorem t30{f0:aU}{b m:Nat}{x:Input}{al:List bn}{i:Nat}{N:Nat}(hN:∀r,N<=r->f0 r=none)(hb:f0 b=some (.box (ch x m)))(hm:f0 m=some (bU al))
  (hi:i<=x.aj.length) (hx:H2 x):
  aY Tryz.prog 49 [.ptr b 0,.v (ti i)] f0 ⟨True,.v (.eF []),cZ f0 m (bU (bS al (qA x i)))⟩:=by
 have aw:=ok5;refine c30.uC hN (by simp) λbd=>?_;have WE:b<N:=(bd b _ hb).1;have Fq:m<N:=(bd m _ hm).1;have xC:b≠m:=λe=>by rw[e,hm]at hb;cases hb
 have nb:∀k,b≠N+k:=λk=>by omega
 have nm:∀k,m≠N+k:=λk=>by omega
 obtain⟨hd,mC,hins,Ve,hsw0,zL⟩:=hx;have hl:=hd.1;simp;refine aa.ab aw fw [0,1,4] ?_;simp[d30r0,hb,ch];refine aa.seq ?_;refine aa.ab aw fw [0,1,4,5] ?_;simp[d30r1];refine aa.to ⟨DM.look [(0,.ptr b 0),(1,.v (ti i))],over [(m,bU (bS al (vS x i (x.aj.length+1))))] f0,N+1000,N,[]⟩ ?_ ?_
 ·refine aa.block ?_;refine aa.loop (λy:Nat=>⟨DM.look [(0,.ptr b 0),(1,.v (ti i)),(4,.v (ti x.aj.length)),(5,.v (ti y))],over [(m,bU (bS al (vS x i y)))] f0,N+1000,N,[]⟩)
   (λy=>i<=y/\y<=x.aj.length+1) (λy=>x.aj.length+1-y) i (Le.fp bd ?_ ?_ ?_ ?_ ?_) (by omega) (λy hy=>?_)
  ·omega
  ·simp;omega
  ·simp[bZ]
  ·exact⟨⟨bU al,by simp[hm],by simpa [vS,bS]using oP al,λ_=>trivial⟩,trivial⟩
  ·simp[hb,xC]
  obtain⟨jR,fl⟩:=hy;refine aa.seq ?_;refine aa.ab aw fw [0,1,4,5,21] ?_;simp[d30r2];refine aa.cond rfl (λbM=>?_) (λbM=>?_)
  ·simp at bM;refine aa.skip ?_;simp;obtain⟨cost,qC⟩:∃c,fW x i y=c:=⟨_,rfl⟩;have uA:0<=cost/\cost<=1099511627776:=by rw[<-qC];exact eE hd i y
   have hcost':dZ ((x.aj.take y).drop i) 0=cost:=qC;obtain⟨WH,Pc⟩:∃l,bS al (vS x i y)=l:=⟨_,rfl⟩;rw[Pc];refine aa.seq ?_;refine aa.to ⟨DM.look [(0,.ptr b 0),(1,.v (ti i)),(4,.v (ti x.aj.length)),(5,.v (ti y))],over [(m,bU (bS WH (pS x i y)))] f0,N+1000,N,[]⟩ ?_ ?_
   ·refine aa.block ?_;refine aa.seq ?_;refine aa.tO aw fw (rs:=K5) (.inr ⟨_,rfl⟩) (by kernel_rfl) [0,1,4,5,6,7] ?_;simp[K5,xF (x:=x) (m:=m),hb,xC,jR,bM,hd,hcost'];refine aa.seq ?_;obtain⟨Ir,Li⟩:∃l,bS WH (if i<y then xY x i (y-1)else [])=l:=⟨_,rfl⟩;refine aa.to ⟨DM.look [(0,.ptr b 0),(1,.v (ti i)),(4,.v (ti x.aj.length)),(5,.v (ti y)),(6,.v (ti cost)),(7,.v (.sl (cR (dd (y-i)))))],over [(m,bU Ir)] f0,N+1000,N,[]⟩ ?_ ?_
    ·refine aa.ab aw fw [0,1,4,5,6,7,33] ?_;simp[d30r4];refine aa.cond rfl (λh=>?_) (λh=>?_)
     ·simp at h;obtain⟨q,hq⟩:∃q,y=q+1:=⟨y-1,by omega⟩;have hwq:IntKind.i64.wrap ((y:Int)-1)=(q:Int):=by rw[au (by omega)];omega
      have hiq:i<=q:=by omega
      have hql:q<=x.aj.length:=by omega
      have hql2:q<x.aj.length:=by omega
      obtain⟨c2,dG⟩:∃c,fW x i q=c:=⟨_,rfl⟩;have hc2b:0<=c2/\c2<=1099511627776:=by rw[<-dG];exact eE hd i q
      have hc2':dZ ((x.aj.take q).drop i) 0=c2:=dG;refine aa.seq (aa.tO aw fw (rs:=K6) (.inr ⟨_,rfl⟩) (by kernel_rfl) [0,1,4,5,6,7,8,9] ?_);simp[K6,xF (x:=x) (m:=m),hb,xC,hwq,hiq,hql,hd,hc2'];refine aa.tO aw fw (rs:=K7) (.inr ⟨_,rfl⟩) (by kernel_rfl) [0,1,4,5,6,7] ?_;simp[K7,k47_eq (x:=x) (m:=m) (al:=WH),hb,xC,hwq];refine⟨⟨by omega,hql2,hl, ?_,hc2b.1,hc2b.2,by simp[dd];omega⟩, ?_⟩
      ·rw[Zan hql2];exact mC _ (Zbi hql2)
      ·rw[kK];have e:bS WH (kj (x.aj[q]?.getD default).read i q c2 (dd (q-i)) (x.aj[q]?.getD default).read.length)=Ir:=by
        rw[<-Li,if_pos h];simp[xY,show y-1=q by omega,dG]
       rw[e];exact pL bd Fq (by omega) (by simp) (by simp) (by simp[hb,xC])
     ·simp at h;have e:WH=Ir:=by rw[<-Li,if_neg (by omega)];rfl
      rw[e];exact aa.skip ⟨rfl,pL bd Fq (by omega) (by simp) (by simp) (by simp[hb,xC])⟩
    refine aa.seq ?_;obtain⟨Jr,xG⟩:∃l,bS Ir (qz x.insert i y cost (dd (y-i)) x.insert.length)=l:=⟨_,rfl⟩;refine aa.to ⟨DM.look [(0,.ptr b 0),(1,.v (ti i)),(4,.v (ti x.aj.length)),(5,.v (ti y)),(6,.v (ti cost)),(7,.v (.sl (cR (dd (y-i)))))],over [(m,bU Jr)] f0,N+1000,N,[]⟩ ?_ ?_
    ·refine aa.ab aw fw [0,1,4,5,6,7,53,54,55] ?_;simp[d30r7,hb,xC,ch];refine aa.block ?_;refine aa.loop (λz:Nat=>⟨DM.look [(0,.ptr b 0),(1,.v (ti i)),(4,.v (ti x.aj.length)),(5,.v (ti y)),(6,.v (ti cost)),(7,.v (.sl (cR (dd (y-i))))),(53,.v (.sl (aB x.insert))),(54,.v (ti x.insert.length)),(55,.v (ti z))],over [(m,bU (bS Ir (qz x.insert i y cost (dd (y-i)) z)))] f0,N+1000,N,[]⟩)
      (λz=>z<=x.insert.length) (λz=>x.insert.length-z) 0 ?_ (by omega) (λz hz=>?_)
     ·exact pL bd Fq (by omega) (by simp) (by simp[qz,bS]) (by simp[hb,xC])
     refine aa.ab aw fw [0,1,4,5,6,7,53,54,55,56] ?_;simp[d30r8];refine aa.seq ?_;refine aa.cond rfl (λh=>?_) (λh=>?_)
     ·simp at h;refine aa.skip ?_;simp;refine aa.seq ?_;refine aa.block ?_;obtain⟨p,hp⟩:∃p,x.insert.getD z default=p:=⟨_,rfl⟩;have hr:=cO h;have PW:=Ve p (by rw[<-hp];simp[List.getD,h]);have hp0:x.insert.getD z 0=p:=hp;have kr:=Pd x.insert i y cost (dd (y-i)) z;rw[hp0]at kr;rw[hp]at hr;refine aa.ab aw fw [0,1,4,5,6,7,10,11,53,54,55] ?_;simp[d30r9,hr,h];obtain⟨alz,halz⟩:∃l,bS Ir (qz x.insert i y cost (dd (y-i)) z)=l:=⟨_,rfl⟩;rw[halz];refine aa.to ⟨DM.look [(0,.ptr b 0),(1,.v (ti i)),(4,.v (ti x.aj.length)),(5,.v (ti y)),(6,.v (ti cost)),(7,.v (.sl (cR (dd (y-i))))),(53,.v (.sl (aB x.insert))),(54,.v (ti x.insert.length)),(55,.v (ti z))],over [(m,bU (bS Ir (qz x.insert i y cost (dd (y-i)) (z+1))))] f0,N+1000,N,[]⟩ ?_ ?_
      ·refine aa.tO aw fw (rs:=Ff) (.inr ⟨_,rfl⟩) (by kernel_rfl) [0,1,4,5,6,7,53,54,55] ?_;have w1:IntKind.i64.wrap (2*(i:Int))=2*i:=au (by omega);have w2:IntKind.i64.wrap (2*(y:Int))=2*y:=au (by omega);have w4:IntKind.i64.wrap (cost+p)=cost+p:=au (by omega);have jn:(dd (y-i)).length=y-i:=by simp[dd]
       simp[Ff,w1,w2,w4,Vc,Iq,chunk,cG,XR,hb,ch,xC,bU,eB,Nat.add_assoc,nb,nm];refine⟨⟨_,rfl,by omega⟩,by omega,λn hn=>?_, ?_⟩
       ·simp only[names,Zah]at hn;subst hn;simp
       ·have e:bS Ir (qz x.insert i y cost (dd (y-i)) (z+1))=tA alz ⟨2*i,2*y,z,cost+p,dd (y-i)++[(3,(z:Int))]⟩:=by
         rw[kr,fF,halz];rfl
        rw[e];refine Lf ⟨2*i,2*y,z,cost+p,dd (y-i)++[(3,(z:Int))]⟩ bd Fq ?_ ?_ ?_ (xD _ _ _) ?_
        ·omega
        ·omega
        ·omega
        ·simp[hb,xC]
      ·refine aa.dp aw fw [0,1,4,5,6,7,53,54,55] ?_;simp[Un];rw[au (by omega)];exact⟨z+1,pL bd Fq (by omega) (by simp) (by simp) (by simp[hb,xC]),by omega,by omega⟩
     ·simp at h;have:z=x.insert.length:=by omega
      subst this;refine aa.exit ⟨rfl, ?_⟩;rw[xG];exact pL bd Fq (by omega) (by simp) (by simp) (by simp[hb,xC])
    refine aa.iD aw fw (rs:=Fg) (.inr ⟨_,rfl⟩) (by kernel_rfl) [0,1,4,5,6,7,80] ?_;simp[Fg,Vd (x:=x) (m:=m),hb,xC];refine⟨⟨by omega,hl⟩, ?_⟩;have WA:bS WH (pS x i y)=bS Jr (if bX x y then [⟨2*i,2*y+1,(x.aj.getD (y+1) default).kind,cost+x.swap,dd (y-i)++[(4,0)]⟩]else []):=by
     rw[<-xG,<-Li,<-fF,<-fF];simp[pS,qC]
    refine aa.cond rfl (λh=>?_) (λh=>?_)
    ·rw[WA,if_pos h];have Is:y+1<x.aj.length:=by simp[bX]at h;exact h.1
     have hr:DM.rowAt (aZ x.aj) ((y:Int)+1)=_:=dR Is;obtain⟨c2,dG⟩:∃c,x.aj.getD (y+1) default=c:=⟨_,rfl⟩;rw[dG]at hr⊢;have w0:IntKind.i64.wrap ((y:Int)+1)=y+1:=au (by omega);have w1:IntKind.i64.wrap (2*(i:Int))=2*i:=au (by omega);have w2:IntKind.i64.wrap (2*(y:Int))=2*y:=au (by omega);have w3:IntKind.i64.wrap (2*(y:Int)+1)=2*y+1:=au (by omega);have w4:IntKind.i64.wrap (cost+x.swap)=cost+x.swap:=au (by omega);have jn:(dd (y-i)).length=y-i:=by simp[dd]
     have hlt1:((y:Int)+1<x.aj.length)=True:=by simp;omega
     have Fb:(0<=(y:Int)+1)=True:=by simp;omega
     refine aa.tO aw fw (rs:=db (GV b N) (fm Fh [none,none,none,none,none,none,none,none,none,none,some [0],none,none,some [],none,some [],none,none,none,none,none,some [0],none,none,some [],none,none,some [1239]])) (.inl rfl) (by rw[gn (OS WE)];kernel_rfl) [0,1,4,5] ?_;simp[db,gG,fm,b8,bm,names,bJ,GV,Fh,w0,w1,w2,w3,w4,hr,hlt1,Fb,bD.enc,Vc,Iq,chunk,cG,XR,hb,ch,xC,bU,eB,Nat.add_assoc,nb,nm];refine⟨⟨_,rfl,by omega⟩,by omega, ?_⟩;refine Lf ⟨2*i,2*y+1,c2.kind,cost+x.swap,dd (y-i)++[(4,0)]⟩ bd Fq ?_ ?_ ?_ (xD _ _ _) ?_
     ·omega
     ·omega
     ·omega
     ·simp[hb,xC]
    ·rw[WA,if_neg (by simp[h])];exact aa.skip ⟨rfl,pL bd Fq (by omega) (by simp) (by simp[bS]) (by simp[hb,xC])⟩
   ·refine aa.dp aw fw [0,1,4,5] ?_;simp[Uo];rw[au (by omega)];refine⟨y+1,pL bd Fq (by omega) (by simp) (by simp;rw[Lh x jR,fF,Pc]) (by simp[hb,xC]),⟨by omega,by omega⟩,by omega⟩
  ·simp at bM;have:y=x.aj.length+1:=by omega
   subst this;refine aa.exit ⟨rfl, ?_⟩;exact pL bd Fq (by omega) (by simp) (by simp) (by simp[hb,xC])
 ·obtain⟨al3,Pe⟩:∃l,bS al (vS x i (x.aj.length+1))=l:=⟨_,rfl⟩;have WA:bS al (qA x i)=bS al3 (if bX x i then [⟨2*i+1,2*i+4,(x.aj.getD i default).kind,0,[]⟩]else []):=by
   rw[<-Pe,<-fF];rfl
  rw[Pe];refine aa.iD aw fw (rs:=Fi) (.inr ⟨_,rfl⟩) (by kernel_rfl) [0,1,113] ?_;simp[Fi,Vd (x:=x) (m:=m),hb,xC];refine⟨⟨by omega,hl⟩, ?_⟩;refine aa.to ⟨DM.look [],over [(m,bU (bS al (qA x i)))] f0,N+1000,N,[]⟩ ?_ (by simp[Up];rfl);refine aa.cond rfl (λh=>?_) (λh=>?_)
  ·rw[WA,if_pos h];have Is:i<x.aj.length:=by simp[bX]at h;omega
   have hr:=dR Is;obtain⟨c2,dG⟩:∃c,x.aj.getD i default=c:=⟨_,rfl⟩;rw[dG]at hr⊢;have w1:IntKind.i64.wrap (2*(i:Int))=2*i:=au (by omega);have w2:IntKind.i64.wrap (2*(i:Int)+1)=2*i+1:=au (by omega);have w3:IntKind.i64.wrap (2*(i:Int)+4)=2*i+4:=au (by omega);refine aa.tO aw fw (rs:=Fj) (.inr ⟨_,rfl⟩) (by kernel_rfl) [] ?_;simp[Fj,w1,w2,w3,hr,Is,bD.enc,XR,hb,ch,xC,bU,eB,Nat.add_assoc];refine⟨λn hn=>(by simp[names]at hn), ?_⟩;rw[kK];refine Le.fp (l:=[]) bd (by omega) (by simp;omega) (by simp[bZ]) ⟨⟨_,by simp;exact⟨rfl,rfl⟩,Dt (c:=⟨2*i+1,2*i+4,c2.kind,0,[]⟩) (d:=.aI) ?_,λ_=>by simp[gT]⟩,trivial⟩ (by simp);simp[cR]
  ·rw[WA,if_neg (by simp[h])];exact aa.skip ⟨rfl,pL bd Fq (by omega) (by simp) (by simp[bS]) (by simp)⟩
def Hf:List RO:=[
 o (.box (t 0)) 1 [],
 o (.alloc [(.v (.int .i64 0)),.aI,.aI]) 2 []]
def Hg:List RO:=[
 a 0 1 15 [],
 l 15 16 [0],
 o (.len (t 16)) 17 [1],
 m 17 3 [2,0,1,2]]
def d14r2:List RO:=[
 o (.bP (.cq .aI)) 4 []]
def d14r3:List RO:=[
 o (.bP (i 0)) 5 []]
def d14r4:List RO:=[
 n 5 18,
 n 3 19,
 b .leq 18 19 20 [0,1]]
def d14r5:List RO:=[
 n 5 23,
 m 23 6 [0,0]]
def d14r6:List RO:=[
 n 6 24,
 n 3 25,
 b .leq 24 25 26 [0,1]]
def d14r7:List RO:=[
 L 3 1 29 [],
 n 5 30,
 n 6 31,
 o (.call 26 [(t 29),(t 30),(t 31)]) 32 [0,1,2],
 m 32 7 [3,3,0,1,2,3]]
def d14r8:List RO:=[
 o (.bP (i 0)) 8 []]
def d14r9:List RO:=[
 n 8 33,
 a 1 1 34 [],
 l 34 35 [1],
 o (.len (t 35)) 36 [2],
 b .lss 33 36 37 [0,3]]
def Fm:List RO:=[
 n 6 40,
 n 3 41,
 b .lss 40 41 42 [0,1],
 m 42 43 [2],
 u 0 1 44 43 true [3],
 v 44 45 43 true [4,3],
 w 6 46 43 true [3],
 g (.idxAddr 3 (t 45) (t 46)) 47 43 true [5,6,3],
 u 1 47 48 43 true [7,3],
 v 48 49 43 true [8,3],
 w 8 50 43 true [3],
 g (.idxAddr 1 (t 49) (t 50)) 51 43 true [9,10,3],
 v 51 52 43 true [11,3],
 g (.bin .geq (t 52) (i 0)) 53 43 true [12,3],
 q 43 53 54 [3,13]]
def UH:List RO:=[
 n 4 55,
 n 5 56,
 o (.bin .mul (i 2) (t 56)) 57 [1],
 n 6 58,
 o (.bin .mul (i 2) (t 58)) 59 [3],
 o (.bin .add (t 59) (i 2)) 60 [4],
 n 8 61,
 n 7 62,
 a 0 1 63 [],
 l 63 64 [8],
 n 6 65,
 x 3 64 65 66 [9,10],
 a 1 66 67 [11],
 l 67 68 [12],
 n 8 69,
 x 1 68 69 70 [13,14],
 l 70 71 [15],
 o (.call 28 [(t 62),(t 71)]) 72 [7,16],
 n 6 73,
 n 5 74,
 b .sub 73 74 75 [18,19],
 n 8 76,
 o (.build [(.v (.int .i64 0)),(.v (.int .i64 0))] [(0,1,(i 1)),(1,1,(t 76))]) 77 [21],
 o (.call 29 [(t 75),(t 77)]) 78 [20,22,17],
 o (.build [(.v (.int .i64 0)),(.v (.int .i64 0)),(.v (.int .i64 0)),(.v (.int .i64 0)),.aI] [(0,1,(t 57)),(1,1,(t 60)),(2,1,(t 61)),(3,1,(t 72)),(4,1,(t 78))]) 79 [2,5,6,17,23],
 o (.call 27 [(t 55),(t 79)]) 80 [0,24,23],
 m 80 4 (k [25,25] 25)]
def UI:List RO:=[
 n 8 38,
 o (.bin .add (t 38) (i 1)) 39 [0],
 m 39 8 [1,0,1]]
def UJ:List RO:=[
 L 3 1 81 [],
 n 6 82,
 o (.call 30 [(t 81),(t 82)]) 83 [0,1]]
def UK:List RO:=[
 n 4 84,
 n 5 85,
 o (.bin .mul (i 2) (t 85)) 86 [1],
 n 6 87,
 o (.bin .mul (i 2) (t 87)) 88 [3],
 o (.bin .add (t 88) (i 1)) 89 [4],
 a 0 1 90 [],
 l 90 91 [6],
 n 6 92,
 o (.bin .add (t 92) (i 1)) 93 [8],
 x 3 91 93 94 [7,9],
 a 0 94 95 [10],
 l 95 96 [11],
 n 7 97,
 a 2 1 98 [],
 l 98 99 [14],
 o (.call 28 [(t 97),(t 99)]) 100 [13,15],
 n 6 101,
 n 5 102,
 b .sub 101 102 103 [17,18],
 o (.build [(.v (.int .i64 0)),(.v (.int .i64 0))] [(0,1,(i 4))]) 104 [],
 o (.call 29 [(t 103),(t 104)]) 105 [19,20,16],
 o (.build [(.v (.int .i64 0)),(.v (.int .i64 0)),(.v (.int .i64 0)),(.v (.int .i64 0)),.aI] [(0,1,(t 86)),(1,1,(t 89)),(2,1,(t 96)),(3,1,(t 100)),(4,1,(t 105))]) 106 [2,5,12,16,21],
 o (.call 27 [(t 84),(t 106)]) 107 [0,22,21],
 m 107 4 (k [23,23] 23)]
def UL:List RO:=[
 n 6 27,
 o (.bin .add (t 27) (i 1)) 28 [0],
 m 28 6 [1,0,1]]
def UM:List RO:=[
 L 3 1 108 [],
 n 5 109,
 o (.call 30 [(t 108),(t 109)]) 110 [0,1]]
def UN:List RO:=[
 n 4 111,
 n 5 112,
 o (.bin .mul (i 2) (t 112)) 113 [1],
 o (.bin .add (t 113) (i 1)) 114 [2],
 n 5 115,
 o (.bin .mul (i 2) (t 115)) 116 [4],
 o (.bin .add (t 116) (i 4)) 117 [5],
 a 0 1 118 [],
 l 118 119 [7],
 n 5 120,
 x 3 119 120 121 [8,9],
 a 0 121 122 [10],
 l 122 123 [11],
 o (.build [(.v (.int .i64 0)),(.v (.int .i64 0)),(.v (.int .i64 0)),(.v (.int .i64 0)),.aI] [(0,1,(t 114)),(1,1,(t 117)),(2,1,(t 123))]) 124 [3,6,12],
 o (.call 27 [(t 111),(t 124)]) 125 [0,13],
 m 125 4 (k [14,14] 14)]
def UO:List RO:=[
 n 5 21,
 o (.bin .add (t 21) (i 1)) 22 [0],
 m 22 5 [1,0,1]]
def UP:List RO:=[
 o (.bP (i 0)) 9 []]
def UQ:List RO:=[
 n 9 126,
 n 3 127,
 b .leq 126 127 128 [0,1]]
def UR:List RO:=[
 n 9 131,
 m 131 10 [0,0]]
def US:List RO:=[
 n 10 132,
 n 3 133,
 b .leq 132 133 134 [0,1]]
def UT:List RO:=[
 o (.bP (i 0)) 11 []]
def UU:List RO:=[
 n 11 137,
 a 1 1 138 [],
 l 138 139 [1],
 o (.len (t 139)) 140 [2],
 b .lss 137 140 141 [0,3]]
def UW:List RO:=[
 n 4 144,
 n 9 145,
 o (.bin .mul (i 2) (t 145)) 146 [1],
 n 10 147,
 o (.bin .mul (i 2) (t 147)) 148 [3],
 n 11 149,
 L 3 1 150 [],
 n 9 151,
 n 10 152,
 o (.call 26 [(t 150),(t 151),(t 152)]) 153 [6,7,8],
 a 1 1 154 [],
 l 154 155 [10],
 n 11 156,
 x 1 155 156 157 [11,12],
 l 157 158 [13],
 o (.call 28 [(t 153),(t 158)]) 159 [9,14,9],
 n 10 160,
 n 9 161,
 b .sub 160 161 162 [16,17],
 n 11 163,
 o (.build [(.v (.int .i64 0)),(.v (.int .i64 0))] [(0,1,(i 3)),(1,1,(t 163))]) 164 [19],
 o (.call 29 [(t 162),(t 164)]) 165 [18,20,15],
 o (.build [(.v (.int .i64 0)),(.v (.int .i64 0)),(.v (.int .i64 0)),(.v (.int .i64 0)),.aI] [(0,1,(t 146)),(1,1,(t 148)),(2,1,(t 149)),(3,1,(t 159)),(4,1,(t 165))]) 166 [2,4,5,15,21],
 o (.call 27 [(t 144),(t 166)]) 167 [0,22,21],
 m 167 4 (k [23,23] 23)]
def UX:List RO:=[
 n 11 142,
 o (.bin .add (t 142) (i 1)) 143 [0],
 m 143 11 [1,0,1]]
def UY:List RO:=[
 n 10 135,
 o (.bin .add (t 135) (i 1)) 136 [0],
 m 136 10 [1,0,1]]
def UZ:List RO:=[
 n 9 129,
 o (.bin .add (t 129) (i 1)) 130 [0],
 m 130 9 [1,0,1]]
def U0:List RO:=[
 n 3 168,
 o (.bin .mul (i 2) (t 168)) 169 [0],
 o (.bin .add (t 169) (i 1)) 170 [1],
 n 4 171,
 o (.build [(.v (.int .i64 0)),.aI,.aI] [(0,1,(t 170)),(1,1,(t 171))]) 172 [2,3],
 o (.alloc [(.v (.int .i64 0)),.aI,.aI]) 12 [],
 S 3 12 172 (k [5,4] 5)]
def U1:List RO:=[
 n 3 173,
 o (.bin .mul (i 2) (t 173)) 174 [0],
 o (.bin .add (t 174) (i 1)) 175 [1],
 o (.mkSlice 3 1 8 [(.int .i64 0)] (t 175)) 176 [2,2],
 m 176 13 [3,0,1,2,3]]
def U2:List RO:=[
 o (.bP (i 0)) 14 []]
def U3:List RO:=[
 n 14 177,
 n 13 178,
 o (.len (t 178)) 179 [1],
 b .lss 177 179 180 [0,2]]
def U4:List RO:=[
 n 13 183,
 n 14 184,
 x 1 183 184 185 [0,1,0,1],
 s (.store 1 (t 185) (i 1099511627776)) [2,0,1]]
def U5:List RO:=[
 n 14 186,
 o (.bin .rem (t 186) (i 2)) 187 [0],
 o (.bin .eql (t 187) (i 0)) 188 [1]]
def U6:List RO:=[
 n 13 189,
 n 14 190,
 L 3 1 191 [],
 n 14 192,
 o (.bin .quo (t 192) (i 2)) 193 [3],
 n 3 194,
 o (.call 26 [(t 191),(t 193),(t 194)]) 195 [2,4,5],
 x 1 189 190 196 (k [0,1] 6),
 S 1 196 195 (k [7,6,6] 6)]
def U7:List RO:=[
 n 14 181,
 o (.bin .add (t 181) (i 1)) 182 [0],
 m 182 14 [1,0,1]]
def U8:List RO:=[
 n 13 197,
 a 2 12 198 [0],
 S 1 198 197 [1,0,0]]
def U9:List RO:=[
 L 3 12 199 [],
 S 3 2 199 [0,0]]
def d14:DC:=(j (y Hf)
 (j (y Hg)
 (j (y d14r2)
 (j (j (y d14r3)
 (.block 0 (.loop (j (j (y d14r4)
 (.cond (.tmp 20) .skip
 (.exit 0)))
 (j (.block 1 (j (j (y d14r5)
 (.block 2 (.loop (j (j (y d14r6)
 (.cond (.tmp 26) .skip
 (.exit 2)))
 (j (.block 3 (j (y d14r7)
 (j (j (y d14r8)
 (.block 4 (.loop (j (j (y d14r9)
 (.cond (.tmp 37) .skip
 (.exit 4)))
 (j (.block 5 (j (y Fm)
 (.cond (.tmp 54) (y UH)
 .skip)))
 (y UI))))))
 (j (y UJ)
 (.cond (.tmp 83) (Y UK)
 .skip)))))
 (y UL))))))
 (j (y UM)
 (.cond (.tmp 110) (y UN)
 .skip))))
 (y UO))))))
 (j (j (y UP)
 (.block 6 (.loop (j (j (y UQ)
 (.cond (.tmp 128) .skip
 (.exit 6)))
 (j (.block 7 (j (y UR)
 (.block 8 (.loop (j (j (y US)
 (.cond (.tmp 134) .skip
 (.exit 8)))
 (j (.block 9 (j (y UT)
 (.block 10 (.loop (j (j (y UU)
 (.cond (.tmp 141) .skip
 (.exit 10)))
 (j (.block 11 (Y UW))
 (y UX)))))))
 (y UY)))))))
 (y UZ))))))
 (j (y U0)
 (j (y U1)
 (j (j (y U2)
 (.block 12 (.loop (j (j (y U3)
 (.cond (.tmp 180) .skip
 (.exit 12)))
 (j (.block 13 (j (y U4)
 (j (y U5)
 (.cond (.tmp 188) (y U6)
 .skip))))
 (y U7))))))
 (j (y U8)
 (j (y U9)
 .ret))))))))))
def A1:List bN:=[.cell 2 3 true]
theorem c14 [Laid]:aQ Tryz.prog 12 200 d14 A1:=⟨Tryz.f12,by kernel_rfl,by kernel_rfl,by kernel_rfl,by kernel_rfl,by kernel_rfl⟩
def Ht:List RO:=[
 o (.box (t 0)) 3 [],
 o (.bP (i 0)) 6 []]
def Hu:List RO:=[
 o (.bP (i 0)) 7 []]
def Hv:List RO:=[
 n 1 9,
 m 9 8 [0,0]]
def Hw:List RO:=[
 n 8 10,
 n 2 11,
 b .lss 10 11 12 [0,1]]
def Hx:List RO:=[
 n 7 15,
 a 0 3 16 [],
 l 16 17 [1],
 n 8 18,
 x 3 17 18 19 [2,3],
 a 2 19 20 [4],
 l 20 21 [5],
 o (.call 28 [(t 15),(t 21)]) 22 [0,6],
 m 22 7 (k [7,7] 7)]
def Hy:List RO:=[
 n 8 13,
 o (.bin .add (t 13) (i 1)) 14 [0],
 m 14 8 [1,0,1]]
def Hz:List RO:=[
 n 7 23,
 m 23 6 [0,0]]
def d34:DC:=(j (y Ht)
 (j (y Hu)
 (j (j (y Hv)
 (.block 0 (.loop (j (j (y Hw)
 (.cond (.tmp 12) .skip
 (.exit 0)))
 (j (.block 1 (y Hx))
 (y Hy))))))
 (j (y Hz)
 .ret))))
def xm:List bN:=[.slot 6]
theorem c34 [Laid]:aQ Tryz.prog 26 24 d34 xm:=⟨Tryz.f26,by kernel_rfl,by kernel_rfl,by kernel_rfl,by kernel_rfl,by kernel_rfl⟩
def HQ:List RO:=[
 o (.box (t 1)) 3 [],
 o (.bP (.cq .aI)) 4 []]
def HR:List RO:=[
 a 3 3 8 [],
 l 8 9 [0],
 o (.bin .geq (t 9) (i 1099511627776)) 10 [1]]
def HS:List RO:=[
 n 0 11,
 m 11 4 [0,0]]
def HT:List RO:=[
 o (.bP (.cq .aI)) 5 []]
def HU:List RO:=[
 o (.bP (.cq (.v (.bool false)))) 6 []]
def HV:List RO:=[
 o (.bP (i 0)) 7 []]
def HW:List RO:=[
 n 7 12,
 n 0 13,
 o (.len (t 13)) 14 [1],
 b .lss 12 14 15 [0,2]]
def vA:List RO:=[
 n 6 18,
 o (.un .not (t 18)) 19 [0],
 m 19 20 [1],
 w 0 21 20 true [2],
 w 7 22 20 true [2],
 g (.idxAddr 5 (t 21) (t 22)) 23 20 true [3,4,2],
 u 0 23 24 20 true [5,2],
 v 24 25 20 true [6,2],
 u 0 3 26 20 true [2],
 v 26 27 20 true [8,2],
 g (.bin .eql (t 25) (t 27)) 28 20 true [7,9,2],
 q 20 28 29 [2,10],
 m 29 30 [11,2],
 w 0 31 30 true [12],
 w 7 32 30 true [12],
 g (.idxAddr 5 (t 31) (t 32)) 33 30 true [13,14,12],
 u 1 33 34 30 true [15,12],
 v 34 35 30 true [16,12],
 u 1 3 36 30 true [12],
 v 36 37 30 true [18,12],
 g (.bin .eql (t 35) (t 37)) 38 30 true [17,19,12],
 q 30 38 39 [12,20],
 m 39 40 [21,12],
 w 0 41 40 true [22],
 w 7 42 40 true [22],
 g (.idxAddr 5 (t 41) (t 42)) 43 40 true [23,24,22],
 u 2 43 44 40 true [25,22],
 v 44 45 40 true [26,22],
 u 2 3 46 40 true [22],
 v 46 47 40 true [28,22],
 g (.bin .eql (t 45) (t 47)) 48 40 true [27,29,22],
 q 40 48 49 [22,30]]
def HX:List RO:=[
 o (.bP (.cq (.v (.bool true)))) 6 []]
def HY:List RO:=[
 a 3 3 50 [],
 l 50 51 [0],
 n 0 52,
 n 7 53,
 x 5 52 53 54 [2,3],
 a 3 54 55 [4],
 l 55 56 [5],
 b .lss 51 56 57 [1,6]]
def Ba:List RO:=[
 n 5 58,
 L 5 3 59 [],
 o (.bslice 1 5 [(.v (.int .i64 0)),(.v (.int .i64 0)),(.v (.int .i64 0)),(.v (.int .i64 0)),.aI] [(0,5,(t 59))]) 60 [1],
 o (.append 77 5 56 (t 58) (t 60)) 61 [0,2],
 m 61 5 [3,3,0,1,2,3]]
def tY:List RO:=[
 n 6 62,
 o (.un .not (t 62)) 63 [0],
 m 63 64 [1],
 g (.load 5 true (t 3)) 65 64 true [2],
 w 0 66 64 true [2],
 w 7 67 64 true [2],
 g (.idxAddr 5 (t 66) (t 67)) 68 64 true [4,5,2],
 g (.load 5 true (t 68)) 69 64 true [6,2],
 g (.call 47 [(t 65),(t 69)]) 70 64 true [3,7,2,2],
 q 64 70 71 [2,8]]
def EZ:List RO:=[
 o (.bP (.cq (.v (.bool true)))) 6 []]
def Bb:List RO:=[
 n 5 72,
 L 5 3 73 [],
 o (.bslice 1 5 [(.v (.int .i64 0)),(.v (.int .i64 0)),(.v (.int .i64 0)),(.v (.int .i64 0)),.aI] [(0,5,(t 73))]) 74 [1],
 o (.append 77 5 56 (t 72) (t 74)) 75 [0,2],
 m 75 5 [3,3,0,1,2,3]]
def Bc:List RO:=[
 n 5 76,
 n 0 77,
 n 7 78,
 x 5 77 78 79 [1,2],
 L 5 79 80 [3],
 o (.bslice 1 5 [(.v (.int .i64 0)),(.v (.int .i64 0)),(.v (.int .i64 0)),(.v (.int .i64 0)),.aI] [(0,5,(t 80))]) 81 [4],
 o (.append 77 5 56 (t 76) (t 81)) 82 [0,5],
 m 82 5 (k [6,6] 6)]
def Bd:List RO:=[
 n 7 16,
 o (.bin .add (t 16) (i 1)) 17 [0],
 m 17 7 [1,0,1]]
def Be:List RO:=[
 n 6 83,
 o (.un .not (t 83)) 84 [0]]
def Bf:List RO:=[
 n 5 85,
 L 5 3 86 [],
 o (.bslice 1 5 [(.v (.int .i64 0)),(.v (.int .i64 0)),(.v (.int .i64 0)),(.v (.int .i64 0)),.aI] [(0,5,(t 86))]) 87 [1],
 o (.append 77 5 56 (t 85) (t 87)) 88 [0,2],
 m 88 5 [3,3,0,1,2,3]]
def Bg:List RO:=[
 n 5 89,
 m 89 4 [0,0]]
def d35:DC:=(j (y HQ)
 (j (j (y HR)
 (.cond (.tmp 10) (j (y HS)
 .ret)
 .skip))
 (j (y HT)
 (j (y HU)
 (j (j (y HV)
 (.block 0 (.loop (j (j (y HW)
 (.cond (.tmp 15) .skip
 (.exit 0)))
 (j (.block 1 (j (j (Y vA)
 (.cond (.tmp 49) (j (y HX)
 (j (Y HY)
 (.cond (.tmp 57) (j (y Ba)
 (.exit 1))
 .skip)))
 .skip))
 (j (j (Y tY)
 (.cond (.tmp 71) (j (y EZ)
 (y Bb))
 .skip))
 (y Bc))))
 (y Bd))))))
 (j (j (y Be)
 (.cond (.tmp 84) (y Bf)
 .skip))
 (j (y Bg)
 .ret)))))))
def Bh:List bN:=[.slot 4]
theorem c35 [Laid]:aQ Tryz.prog 27 90 d35 Bh:=⟨Tryz.f27,by kernel_rfl,by kernel_rfl,by kernel_rfl,by kernel_rfl,by kernel_rfl⟩
def HD:List RO:=[
 o (.box (t 1)) 3 [],
 o (.bP (.cq .aI)) 4 []]
def th:List RO:=[
 o (.bP (.cq .aI)) 5 []]
def HE:List RO:=[
 o (.bP (i 0)) 6 []]
def HF:List RO:=[
 n 6 7,
 n 0 8,
 b .lss 7 8 9 [0,1]]
def yE:List RO:=[
 n 5 12,
 o (.build [(.v (.int .i64 0)),(.v (.int .i64 0))] [(0,1,(i 2))]) 13 [],
 o (.bslice 1 2 [(.v (.int .i64 0)),(.v (.int .i64 0))] [(0,2,(t 13))]) 14 [1],
 o (.append 75 2 16 (t 12) (t 14)) 15 [0,2],
 m 15 5 [3,3,0,1,2,3]]
def M0:List RO:=[
 n 6 10,
 o (.bin .add (t 10) (i 1)) 11 [0],
 m 11 6 [1,0,1]]
def HG:List RO:=[
 n 5 16,
 L 2 3 17 [],
 o (.bslice 1 2 [(.v (.int .i64 0)),(.v (.int .i64 0))] [(0,2,(t 17))]) 18 [1],
 o (.append 75 2 16 (t 16) (t 18)) 19 [0,2],
 m 19 4 [3,3,0,1,2,3]]
def d37:DC:=(j (y HD)
 (j (y th)
 (j (j (y HE)
 (.block 0 (.loop (j (j (y HF)
 (.cond (.tmp 9) .skip
 (.exit 0)))
 (j (.block 1 (y yE))
 (y M0))))))
 (j (y HG)
 .ret))))
def xn:List bN:=[.slot 4]
theorem c37 [Laid]:aQ Tryz.prog 29 20 d37 xn:=⟨Tryz.f29,by kernel_rfl,by kernel_rfl,by kernel_rfl,by kernel_rfl,by kernel_rfl⟩
def He:List RO:=[
 o (.box (t 0)) 2 [],
 o (.bP (.cq (.v (.bool false)))) 4 []]
def Dc:List RO:=[
 n 1 5,
 o (.bin .add (t 5) (i 1)) 6 [0],
 a 0 2 7 [],
 l 7 8 [2],
 o (.len (t 8)) 9 [3],
 b .lss 6 9 10 [1,4],
 m 10 11 [5],
 u 2 2 12 11 true [6],
 v 12 13 11 true [7,6],
 g (.bin .gtr (t 13) (i 0)) 14 11 true [8,6],
 q 11 14 15 [6,9],
 m 15 16 [10,6],
 u 0 2 17 16 true [11],
 v 17 18 16 true [12,11],
 w 1 19 16 true [11],
 g (.idxAddr 3 (t 18) (t 19)) 20 16 true [13,14,11],
 u 0 20 21 16 true [15,11],
 v 21 22 16 true [16,11],
 g (.bin .geq (t 22) (i 0)) 23 16 true [17,11],
 q 16 23 24 [11,18],
 m 24 25 [19,11],
 u 0 2 26 25 true [20],
 v 26 27 25 true [21,20],
 w 1 28 25 true [20],
 g (.bin .add (t 28) (i 1)) 29 25 true [23,20],
 g (.idxAddr 3 (t 27) (t 29)) 30 25 true [22,24,20],
 u 0 30 31 25 true [25,20],
 v 31 32 25 true [26,20],
 g (.bin .geq (t 32) (i 0)) 33 25 true [27,20],
 q 25 33 34 [20,28],
 m 34 4 (k [29,20] 29)]
def d38:DC:=(j (y He)
 (j (y Dc)
 .ret))
def A0:List bN:=[.slot 4]
theorem c38 [Laid]:aQ Tryz.prog 30 35 d38 A0:=⟨Tryz.f30,by kernel_rfl,by kernel_rfl,by kernel_rfl,by kernel_rfl,by kernel_rfl⟩
theorem Vn{c d:Int}(hc:0<=c/\c<=1099511627776)(hd:0<=d):jG c d=min (c+d) 1099511627776:=by
 unfold jG;split<;>omega
theorem t34(x:Input)(i m:Nat)(him:i<=m)(hm:m<=x.aj.length)(hd:ng x.aj):aT Tryz.prog 26 [x.enc,ti i,ti m] (ti (fW x i m)):=by
 have aw:=X0;obtain⟨part,tq⟩:∃p,(x.aj.take m).drop i=p:=⟨_,rfl⟩;have PV:part.length=m-i:=by rw[<-tq];simp;omega
 have hpd:∀c∈part,0<=c.delete/\c.delete<=1099511627776:=λc hc=>hd.2 c (by rw[<-tq]at hc;exact Zav (Zbv hc));have hpg:∀k,i+k<m->part.getD k default=x.aj.getD (i+k) default:=by
  intro k hk;rw[<-tq];have:i+k<x.aj.length:=by omega
  simp[List.getD,Zbb,hk]
 have hlen:=hd.1;unfold fW;rw[tq];refine c34.ok (by simp) (aJ ?_);simp[Input.enc];refine aa.ab aw fw [1,2,3] ?_;simp[Ht];refine aa.le (Le.aC (o:=[]) (l:=[(1,.v (ti i)),(2,.v (ti m)),(3,.v (.box [.sl (aZ x.aj),.sl (aB x.insert),ti x.swap]))]) (nxt':=1200) ?_ ?_ ?_ ?_) ?_;iterate 4(·simp)
 refine aa.ab aw fw [1,2,3,7] ?_;simp[Hu];refine aa.seq ?_;refine aa.ab aw fw [2,3,7,8] ?_;simp[Hv];refine aa.block ?_;refine aa.loop (λy:Nat=>⟨DM.look [(2,.v (ti m)),(3,.v (.box [.sl (aZ x.aj),.sl (aB x.insert),ti x.swap])),(7,.v (ti (dZ (part.take y) 0))),(8,.v (ti ((i+y:Nat):Int)))],cA [],2000,1000,[]⟩)
  (λy=>y<=part.length) (λy=>part.length-y) 0 (Le.aC (o:=[]) ?_ ?_ ?_ ?_) (by simp) (λy hy=>?_)
 iterate 3(·simp)
 ·simp[dZ]
 obtain⟨k,hk⟩:∃k,i+y=k:=⟨_,rfl⟩;rw[hk];have PY:=nT (l:=part.take y) (λc hc=>(hpd c (Zav hc)).1) 0 (by omega);refine aa.seq ?_;refine aa.ab aw fw [2,3,7,8,12] ?_;simp[Hw];refine aa.cond rfl (λbM=>?_) (λbM=>?_)
 ·simp at bM;have hyp:y<part.length:=by omega
  have WC:k<x.aj.length:=by omega
  have hr:=dR WC;have hg:=hpg y (by omega);rw[hk]at hg;obtain⟨c,hc⟩:∃c,x.aj.getD k default=c:=⟨_,rfl⟩;rw[hc]at hr hg;have hpy:part[y]=c:=by simpa [List.getD,hyp]using hg
  have WA:=hpd c (by rw[<-hpy];exact Zbi hyp);have N3:part.take (y+1)=part.take y++[c]:=by rw[Zbw,Zan hyp,hpy];rfl
  obtain⟨u,hu⟩:∃u,dZ (part.take y) 0=u:=⟨_,rfl⟩;rw[hu]at PY⊢;refine aa.skip ?_;simp;refine aa.seq ?_;refine aa.block ?_;refine aa.dp aw fw [2,3,7,8] ?_;simp[Hx,WC,hr,bD.enc];refine⟨⟨u,c.delete,⟨rfl,rfl⟩,by omega,by omega⟩, ?_⟩;refine aa.dp aw fw [2,3,7,8] ?_;simp[Hy];rw[au (by omega)];refine⟨y+1,Le.aC (o:=[]) ?_ ?_ ?_ ?_,by omega,by omega⟩;iterate 3(·simp)
  ·simp[N3,vR,hu,Vn PY WA.1];omega
 ·simp at bM;have sZ:y=part.length:=by omega
  subst sZ;refine aa.exit ?_;simp;refine aa.ab aw fw [6] ?_;simp[Hz];refine aa.ret ?_;simp[xm]
theorem t38(x:Input)(m:Nat)(hm:m<=1000000)(hl:x.aj.length<=1000000):aT Tryz.prog 30 [x.enc,ti m] (.bool (bX x m)):=by
 have aw:=okE;obtain⟨v,hv⟩:∃v,bX x m=v:=⟨_,rfl⟩;rw[hv];refine c38.ok (by simp) (aJ ?_);simp[Input.enc];refine aa.ab aw fw [1,2] ?_;simp[He];refine aa.le (Le.aC (o:=[]) (l:=[(1,.v (ti m)),(2,.v (.box [.sl (aZ x.aj),.sl (aB x.insert),ti x.swap]))]) (nxt':=1200) ?_ ?_ ?_ ?_) ?_;iterate 4(·simp)
 have hw:IntKind.i64.wrap ((m:Int)+1)=m+1:=au (by omega);refine aa.bY aw fw [(4,.v (.bool v))] ?_ ?_
 ·by_cases h1:m+1<x.aj.length
  ·have lP:=dR (l:=x.aj) (y:=m) (by omega);have pV:DM.rowAt (aZ x.aj) ((m:Int)+1)=(x.aj.getD (m+1) default).enc:=dR (l:=x.aj) h1;obtain⟨c1,bb⟩:∃c,x.aj.getD m default=c:=⟨_,rfl⟩;obtain⟨c2,dG⟩:∃c,x.aj.getD (m+1) default=c:=⟨_,rfl⟩;rw[bb]at lP;rw[dG]at pV;have Om:((m:Int)+1<x.aj.length)=True:=by simp;omega
   have hd3:(0<=(m:Int)+1)=True:=by simp;omega
   have hd4:m<x.aj.length:=by omega
   have zL:v=(decide (0<x.swap)&&(decide (0<=c1.kind)&&decide (0<=c2.kind))):=by
    rw[<-hv];unfold bX;rw[bb,dG];simp[h1]
   by_cases s1:0<x.swap<;>by_cases s2:0<=c1.kind<;>by_cases s3:0<=c2.kind<;>simp[Dc,hw,lP,pV,Om,hd3,hd4,bD.enc,s1,s2,s3,zL]
  ·have Om:((m:Int)+1<x.aj.length)=False:=by simp;omega
   have zL:v=false:=by rw[<-hv];simp[bX];intros;omega
   simp[Dc,hw,Om,zL]
 refine aa.ret ?_;simp[A0]
theorem t37(n:Nat)(a b:Int)(hn:n<=1000000):aT Tryz.prog 29 [ti n,.agg [ti a,ti b]] (.sl (cR (dd n++[(a,b)]))):=by
 have aw:=okE;refine c37.ok (by simp) (aJ ?_);simp;refine aa.ab aw fw [0,3] ?_;simp[HD];refine aa.ab aw fw [0,3,5] ?_;simp[th];refine aa.seq ?_;refine aa.le (Le.aC (o:=[]) (l:=[(0,.v (ti n)),(3,.v (.box [ti a,ti b])),(5,.aI)]) (nxt':=1200) ?_ ?_ ?_ ?_) ?_;iterate 4(·simp)
 refine aa.le (Le.l8 (k:=5) 75 (sz:=2) (by omega) (by simp)) ?_;rw[im];refine aa.ab aw fw [0,3,5,6] ?_;simp[HE];refine aa.block ?_;refine aa.loop (λy:Nat=>⟨DM.look [(0,.v (ti n)),(3,.v (.box [ti a,ti b])),(5,.bk 1200 0),(6,.v (ti y))],cA [(1200,.arr 0 75 2 (cR (dd y)))],2000,1000,[]⟩)
  (λy=>y<=n) (λy=>n-y) 0 (Le.aC ?_ ?_ ?_ ?_) (by simp) (λy hy=>?_)
 ·simp
 ·simp
 ·simp[dd,cR]
 ·simp
 refine aa.seq ?_;refine aa.ab aw fw [0,3,5,6,9] ?_;simp[HF];have hd:(dd y).length=y:=by simp[dd]
 refine aa.cond rfl (λbM=>?_) (λbM=>?_)
 ·simp at bM;refine aa.skip ?_;simp;refine aa.seq ?_;refine aa.block ?_;refine aa.dp aw fw [0,3,5,6] ?_;simp[yE,cG,chunk,hd];refine⟨by omega, ?_⟩;refine aa.dp aw fw [0,3,5,6] ?_;simp[M0];rw[au (by omega)];refine⟨y+1,Le.aC ?_ ?_ ?_ ?_,by omega,by omega⟩
  ·simp
  ·simp
  ·simp[cR,dd,ZbR]
  ·simp
 ·simp at bM;have sZ:y=n:=by omega
  subst sZ;refine aa.exit ?_;simp;refine aa.ab aw fw [4] ?_;simp[HG,cG,chunk,hd];refine⟨by omega, ?_⟩;refine aa.ret ?_;simp[xn,cR]
def dq(a:bn)(p:Bool×List bn)(b:bn):Bool×List bn:=
 if p.1=false/\sameKey b a=true then(true,p.2++[if a.cost<b.cost then a else b])
 else if p.1=false/\before a b then(true,p.2++[a]++[b])
 else(p.1,p.2++[b])
def eW(a:bn)(l:List bn):Bool×List bn:=l.foldl (dq a) (false,[])
def oX(l:List bn)(a:bn):List bn:=
 if 1099511627776<=a.cost then l else if(eW a l).1 then(eW a l).2 else(eW a l).2++[a]
theorem Fv{a:bn}{l:List bn}{y:Nat}(h:y<l.length):eW a (l.take (y+1))=dq a (eW a (l.take y)) (l.getD y default):=by
 unfold eW;rw[Zbw,Zan h,Zat];simp[List.getD,h]
theorem Iz(a:bn)(p:Bool×List bn)(b:bn):(dq a p b).2.length<=p.2.length+2:=by
 unfold dq;split
 ·simp
 ·split<;>simp
theorem pM(l:List bn)(a:bn):ba (l++[a])=ba l++[a.enc]:=by simp[ba]
theorem t35(l:List bn)(a:bn)(hl:l.length<=1000000000):aT Tryz.prog 27 [.sl (ba l),.agg a.enc] (.sl (ba (oX l a))):=by
 have aw:=ok39;obtain⟨R,hR⟩:∃R,oX l a=R:=⟨_,rfl⟩;rw[hR];unfold oX at hR;obtain⟨af,at',ax,ac,ao⟩:=a;obtain⟨a,ha⟩:∃a:bn,(⟨af,at',ax,ac,ao⟩:bn)=a:=⟨_,rfl⟩;have haf:a.f=af:=by rw[<-ha]
 have dI:a.t=at':=by rw[<-ha]
 have hax:a.term=ax:=by rw[<-ha]
 have hac:a.cost=ac:=by rw[<-ha]
 have X1:a.enc=[ti af,ti at',ti ax,ti ac,.sl (cR ao)]:=by rw[<-ha];rfl
 refine c35.ok (by simp) (aJ ?_);rw[ha]at hR;simp[bn.enc];refine aa.ab aw fw [0,3] ?_;simp[HQ];refine aa.le (Le.aC (o:=[]) (l:=[(0,.v (.sl (ba l))),(3,.v (.box [ti af,ti at',ti ax,ti ac,.sl (cR ao)]))]) (nxt':=1200) ?_ ?_ ?_ ?_) ?_;iterate 4(·simp)
 refine aa.seq ?_;refine aa.ab aw fw [0,3,10] ?_;simp[HR];refine aa.cond rfl (λh=>?_) (λh=>?_)
 ·simp at h;rw[if_pos (by rw[hac];exact h)]at hR;subst hR;refine aa.ab aw fw [4] ?_;simp[HS];refine aa.ret ?_;simp[Bh]
 simp at h;rw[if_neg (by rw[hac];omega)]at hR;refine aa.skip ?_;simp;refine aa.ab aw fw [0,3,5] ?_;simp[HT];refine aa.le (Le.aC (o:=[]) (l:=[(0,.v (.sl (ba l))),(3,.v (.box [ti af,ti at',ti ax,ti ac,.sl (cR ao)])),(5,.aI)]) (nxt':=1500) ?_ ?_ ?_ ?_) ?_;iterate 4(·simp)
 refine aa.le (Le.l8 (k:=5) 77 (sz:=5) (by omega) (by simp)) ?_;rw[im];refine aa.ab aw fw [0,3,5,6] ?_;simp[HU];refine aa.seq ?_;refine aa.ab aw fw [0,3,5,6,7] ?_;simp[HV];obtain⟨L,hL⟩:∃L,l.length=L:=⟨_,rfl⟩;rw[hL]at hl;refine aa.block ?_;refine aa.loop (λy:Nat=>⟨DM.look [(0,.v (.sl (ba l))),(3,.v (.box [ti af,ti at',ti ax,ti ac,.sl (cR ao)])),(5,.bk 1500 0),(6,.v (.bool (eW a (l.take y)).1)),(7,.v (ti y))],cA [(1500,.arr 0 77 5 (ba (eW a (l.take y)).2))],2000,1000,[]⟩)
  (λy=>y<=L/\(eW a (l.take y)).2.length<=2*y) (λy=>L-y) 0 (Le.aC ?_ ?_ ?_ ?_) (by simp[eW]) (λy hy=>?_)
 ·simp
 ·simp
 ·simp[eW,ba]
 ·simp[eW]
 obtain⟨jR,fl⟩:=hy;refine aa.seq ?_;refine aa.ab aw fw [0,3,5,6,7,15] ?_;simp[HW,hL];refine aa.cond rfl (λbM=>?_) (λbM=>?_)
 ·simp at bM;have sZ:y<l.length:=by omega
  have hr:=kP sZ;have kr:=Fv (a:=a) sZ;obtain⟨b,hb⟩:∃b,l.getD y default=b:=⟨_,rfl⟩;rw[hb]at hr kr;obtain⟨p,hp⟩:∃p,eW a (l.take y)=p:=⟨_,rfl⟩;rw[hp]at kr fl⊢;have hlen2:=Iz a p b;obtain⟨dn,out⟩:=p;simp only at fl hlen2⊢;obtain⟨bf,bt,bx,bc,bo⟩:=b;have hsk:sameKey ⟨bf,bt,bx,bc,bo⟩ a=decide (bf=af/\bt=at'/\bx=ax):=by simp only[sameKey,haf,dI,hax]
  refine aa.skip ?_;simp;refine aa.seq ?_;obtain⟨q,hq⟩:∃q,dq a (dn,out) ⟨bf,bt,bx,bc,bo⟩=q:=⟨_,rfl⟩;rw[hq]at kr hlen2;unfold dq at hq;simp only[hsk]at hq;refine aa.to ⟨DM.look [(0,.v (.sl (ba l))),(3,.v (.box [ti af,ti at',ti ax,ti ac,.sl (cR ao)])),(5,.bk 1500 0),(6,.v (.bool q.1)),(7,.v (ti y))],cA [(1500,.arr 0 77 5 (ba q.2))],3000,1000,[]⟩ ?_ ?_
  ·refine aa.block ?_;refine aa.seq ?_;have hprow:[ti bf,ti bt,ti bx,ti bc,.sl (cR bo)]=(⟨bf,bt,bx,bc,bo⟩:bn).enc:=rfl;obtain⟨c1,bb⟩:∃c:Bool,decide (dn=false/\(bf=af/\bt=at'/\bx=ax))=c:=⟨_,rfl⟩;refine aa.bY aw fw [(0,.v (.sl (ba l))),(3,.v (.box [ti af,ti at',ti ax,ti ac,.sl (cR ao)])),(5,.bk 1500 0),(6,.v (.bool dn)),(7,.v (ti y)),(49,.v (.bool c1))] ?_ ?_
   ·cases dn with
    |true=>
     have:c1=false:=by rw[<-bb];simp
     simp[vA,this]
    |false=>
     by_cases q1:bf=af
     ·by_cases q2:bt=at'
      ·by_cases q3:bx=ax
       ·have:c1=true:=by rw[<-bb];simp[q1,q2,q3]
        simp[vA,hr,bM,hL,bn.enc,q1,q2,q3,this]
       ·have:c1=false:=by rw[<-bb];simp[q3]
        simp[vA,hr,bM,hL,bn.enc,q1,q2,q3,this]
      ·have:c1=false:=by rw[<-bb];simp[q2]
       simp[vA,hr,bM,hL,bn.enc,q1,q2,this]
     ·have:c1=false:=by rw[<-bb];simp[q1]
      simp[vA,hr,bM,hL,bn.enc,q1,this]
   have tail:∀(dn':Bool) (X2:List bn),X2.length<=out.length+1->q=(dn',X2++[⟨bf,bt,bx,bc,bo⟩])->∀nx,aa Tryz.prog 90 (.region false Bc) (tN 1 λe s=>e=Exit.normal/\Le s ⟨DM.look [(0,.v (.sl (ba l))),(3,.v (.box [ti af,ti at',ti ax,ti ac,.sl (cR ao)])),(5,.bk 1500 0),(6,.v (.bool q.1)),(7,.v (ti y))],cA [(1500,.arr 0 77 5 (ba q.2))],3000,1000,[]⟩)
     ⟨DM.look [(0,.v (.sl (ba l))),(3,.v (.box [ti af,ti at',ti ax,ti ac,.sl (cR ao)])),(5,.bk 1500 0),(6,.v (.bool dn')),(7,.v (ti y))],cA [(1500,.arr 0 77 5 (ba X2))],nx,1000,[]⟩:=by
    intro dn' X2 ho hqq nx;refine aa.dp aw fw [0,3,5,6,7] ?_;simp[Bc,hr,bM,hL,bn.enc,cG,chunk];refine⟨by omega,Le.aC ?_ ?_ ?_ ?_⟩
    ·simp
    ·simp
    ·simp[hqq,pM,bn.enc]
    ·simp[hqq]
   refine aa.cond rfl (λh1=>?_) (λh1=>?_)
   ·rw[h1]at bb;simp only[decide_eq_true_eq]at bb;obtain⟨Eu,QB⟩:=bb;subst Eu;rw[if_pos ⟨rfl,by simpa using QB⟩]at hq;refine aa.ab aw fw [0,3,5,6,7] ?_;simp[HX];refine aa.ab aw fw [0,3,5,6,7,57] ?_;simp[HY,hr,bM,hL,bn.enc];refine aa.cond rfl (λh2=>?_) (λh2=>?_)
    ·simp at h2;refine aa.ab aw fw [0,3,5,6,7] ?_;simp[Ba,cG,chunk];refine⟨by omega, ?_⟩;refine aa.exit ?_;simp;rw[if_pos (by rw[hac];exact h2)]at hq;subst hq;refine Le.aC ?_ ?_ ?_ ?_
     ·simp
     ·simp
     ·simp[pM,X1]
     ·simp
    ·simp at h2;rw[if_neg (by rw[hac];omega)]at hq;refine aa.skip ?_;simp;refine aa.le (Le.aC (o:=[(1500,.arr 0 77 5 (ba out))]) (l:=[(0,.v (.sl (ba l))),(3,.v (.box [ti af,ti at',ti ax,ti ac,.sl (cR ao)])),(5,.bk 1500 0),(6,.v (.bool true)),(7,.v (ti y))]) (nxt':=4000) ?_ ?_ ?_ ?_) ?_;iterate 4(·simp)
     refine aa.seq ?_;refine aa.bY aw fw [(0,.v (.sl (ba l))),(3,.v (.box [ti af,ti at',ti ax,ti ac,.sl (cR ao)])),(5,.bk 1500 0),(6,.v (.bool true)),(7,.v (ti y)),(71,.v (.bool false))] (by simp[tY]) ?_;refine aa.cond rfl (λh=>by cases h) (λ_=>?_);refine aa.skip ?_;simp;refine aa.le (Le.aC (o:=[(1500,.arr 0 77 5 (ba out))]) (l:=[(0,.v (.sl (ba l))),(3,.v (.box [ti af,ti at',ti ax,ti ac,.sl (cR ao)])),(5,.bk 1500 0),(6,.v (.bool true)),(7,.v (ti y))]) (nxt':=5000) ?_ ?_ ?_ ?_) ?_;iterate 4(·simp)
     exact tail true out (by omega) hq.symm 5000
   ·rw[h1]at bb;simp only[decide_eq_false_iff_not]at bb;rw[if_neg (λh=>bb ⟨h.1,by simpa using h.2⟩)]at hq;refine aa.skip ?_;simp;refine aa.le (Le.aC (o:=[(1500,.arr 0 77 5 (ba out))]) (l:=[(0,.v (.sl (ba l))),(3,.v (.box [ti af,ti at',ti ax,ti ac,.sl (cR ao)])),(5,.bk 1500 0),(6,.v (.bool dn)),(7,.v (ti y))]) (nxt':=4000) ?_ ?_ ?_ ?_) ?_;iterate 4(·simp)
    refine aa.seq ?_;obtain⟨c2,dG⟩:∃c:Bool,decide (dn=false/\before a ⟨bf,bt,bx,bc,bo⟩)=c:=⟨_,rfl⟩;refine aa.bY aw fw [(0,.v (.sl (ba l))),(3,.v (.box [ti af,ti at',ti ax,ti ac,.sl (cR ao)])),(5,.bk 1500 0),(6,.v (.bool dn)),(7,.v (ti y)),(71,.v (.bool c2))] ?_ ?_
    ·cases dn with
     |true=>
      have:c2=false:=by rw[<-dG];simp
      simp[tY,this]
     |false=>
      have:c2=decide (before a ⟨bf,bt,bx,bc,bo⟩):=by rw[<-dG];simp
      simp[tY,hr,bM,hL,bn.enc,this];rw[show lL [ti bf,ti bt,ti bx,ti bc,T.sl (cR bo)]=⟨bf,bt,bx,bc,bo⟩from mS ⟨bf,bt,bx,bc,bo⟩,show lL [ti af,ti at',ti ax,ti ac,T.sl (cR ao)]=a by rw[<-X1];exact mS a];exact⟨⟨⟨⟨af,at',ax,ac,ao⟩,rfl,rfl,rfl,rfl,rfl⟩,⟨⟨bf,bt,bx,bc,bo⟩,rfl,rfl,rfl,rfl,rfl⟩⟩,Iff.rfl⟩
    refine aa.cond rfl (λh2=>?_) (λh2=>?_)
    ·rw[h2]at dG;simp only[decide_eq_true_eq]at dG;obtain⟨Eu,Mq⟩:=dG;subst Eu;rw[if_pos ⟨rfl,Mq⟩]at hq;refine aa.ab aw fw [0,3,5,6,7] ?_;simp[EZ];refine aa.dp aw fw [0,3,5,6,7] ?_;simp[Bb,cG,chunk];refine⟨by omega, ?_⟩;refine aa.le (Le.aC (o:=[(1500,.arr 0 77 5 (ba (out++[a])))]) (l:=[(0,.v (.sl (ba l))),(3,.v (.box [ti af,ti at',ti ax,ti ac,.sl (cR ao)])),(5,.bk 1500 0),(6,.v (.bool true)),(7,.v (ti y))]) (nxt':=5000) ?_ ?_ ?_ ?_) ?_
     ·simp
     ·simp
     ·simp[pM,X1]
     ·simp
     exact tail true (out++[a]) (by simp) hq.symm 5000
    ·rw[h2]at dG;simp only[decide_eq_false_iff_not]at dG;rw[if_neg dG]at hq;refine aa.skip ?_;simp;refine aa.le (Le.aC (o:=[(1500,.arr 0 77 5 (ba out))]) (l:=[(0,.v (.sl (ba l))),(3,.v (.box [ti af,ti at',ti ax,ti ac,.sl (cR ao)])),(5,.bk 1500 0),(6,.v (.bool dn)),(7,.v (ti y))]) (nxt':=5000) ?_ ?_ ?_ ?_) ?_;iterate 4(·simp)
     exact tail dn out (by omega) hq.symm 5000
  ·refine aa.dp aw fw [0,3,5,6,7] ?_;simp[Bd];rw[au (by omega)];refine⟨y+1,Le.aC ?_ ?_ ?_ ?_,⟨by omega,by rw[kr];omega⟩,by omega⟩
   ·simp
   ·simp
   ·simp[kr]
   ·simp[kr]
 simp at bM;have sZ:y=l.length:=by omega
 subst sZ;rw[Zbn]at fl⊢;obtain⟨p,hp⟩:∃p,eW a l=p:=⟨_,rfl⟩;rw[hp]at hR fl⊢;obtain⟨dn,out⟩:=p;simp only at hR fl⊢;refine aa.exit ?_;simp;refine aa.seq ?_;refine aa.ab aw fw [3,5,84] ?_;simp[Be];refine aa.to ⟨DM.look [(5,.bk 1500 0)],cA [(1500,.arr 0 77 5 (ba R))],9000,1000,[]⟩ ?_ ?_
 ·refine aa.cond rfl (λh3=>?_) (λh3=>?_)
  ·simp at h3;subst h3;rw[if_neg (by simp)]at hR;refine aa.dp aw fw [5] ?_;simp[Bf,cG,chunk];refine⟨by omega,Le.aC ?_ ?_ ?_ ?_⟩
   ·simp
   ·simp
   ·simp[<-hR,pM,X1]
   ·simp
  ·simp at h3;subst h3;rw[if_pos rfl]at hR;subst hR;refine aa.skip ⟨rfl,Le.aC ?_ ?_ ?_ ?_⟩;iterate 3(·simp)
   ·simp
 refine aa.ab aw fw [4] ?_;simp[Bg];refine aa.ret ?_;simp[Bh]
@[simp] theorem decArc_enc'(a b c d:Int)(o:List (Int×Int)):lL [ti a,ti b,ti c,ti d,.sl (cR o)]=⟨a,b,c,d,o⟩:=mS ⟨a,b,c,d,o⟩
@[simp] theorem decArc_nil'(a b c d:Int):lL [ti a,ti b,ti c,ti d,.sl []]=⟨a,b,c,d,[]⟩:=mS ⟨a,b,c,d,[]⟩
def ft{α:Type}(f:Nat->List α)(i m:Nat):List α:=(List.range (m-i)).flatMap λe=>f (i+e)
theorem o5{α:Type}(f:Nat->List α){i m:Nat}(h:i<=m):ft f i (m+1)=ft f i m++f m:=by
 unfold ft;rw[show m+1-i=(m-i)+1 by omega,ZaE,Zcu];simp[show i+(m-i)=m by omega]
theorem tD{α:Type}(f:Nat->List α)(i:Nat):ft f i i=[]:=by simp[ft]
def lH(x:Input)(m t:Nat):Int:=(x.aj.getD m default).read.getD t default
def rA(x:Input)(i m t:Nat):List bn:=if m<x.aj.length/\0<=lH x m t then [⟨2*i,2*m+2,t,jG (fW x i m) (lH x m t),dd (m-i)++[(1,(t:Int))]⟩]else []
def rS(x:Input)(i m:Nat):List bn:=if bX x m then [⟨2*i,2*m+1,(x.aj.getD (m+1) default).kind,jG (fW x i m) x.swap,dd (m-i)++[(4,0)]⟩]else []
def rM(x:Input)(i m:Nat):List bn:=ft (rA x i m) 0 x.insert.length++rS x i m
def rT(x:Input)(i:Nat):List bn:=if bX x i then [⟨2*i+1,2*i+4,(x.aj.getD i default).kind,0,[]⟩]else []
def rI(x:Input)(i:Nat):List bn:=ft (rM x i) i (x.aj.length+1)++rT x i
def iT(x:Input)(i m t:Nat):List bn:=[⟨2*i,2*m,t,jG (fW x i m) (x.insert.getD t default),dd (m-i)++[(3,(t:Int))]⟩]
def iM(x:Input)(i m:Nat):List bn:=ft (iT x i m) 0 x.insert.length
def iI(x:Input)(i:Nat):List bn:=ft (iM x i) i (x.aj.length+1)
def bl(l cs:List bn):List bn:=cs.foldl oX l
theorem cU(l cs ds:List bn):bl l (cs++ds)=bl (bl l cs) ds:=by simp[bl]
def dS(x:Input):List bn:=bl (bl [] (ft (rI x) 0 (x.aj.length+1))) (ft (iI x) 0 (x.aj.length+1))
def dU(x:Input)(k:Nat):List Int:=(List.range (2*x.aj.length+1)).map λs=>if s<k then(if s % 2=0 then fW x (s/2) x.aj.length else 1099511627776)else 0
def aH(x:Input):aM:=⟨2*x.aj.length+1,dS x,dU x (2*x.aj.length+1)⟩
theorem Fw(a:bn)(p:Bool×List bn)(b:bn):(dq a p b).2.length+p.1.toNat<=p.2.length+1+(dq a p b).1.toNat:=by
 unfold dq;cases hp:p.1 with
 |true=>simp
 |false=>
  simp only[true_and,Bool.toNat_false];split
  ·simp
  ·split<;>simp
theorem IA(a:bn)(l:List bn):(eW a l).2.length<=l.length+(eW a l).1.toNat:=by
 have key:∀(l:List bn) (p:Bool×List bn),(l.foldl (dq a) p).2.length+p.1.toNat<=p.2.length+l.length+(l.foldl (dq a) p).1.toNat:=by
  intro l;induction l with
  |nil=>intro p;simp
  |cons b l ih=>
   intro p;simp only[ZaB,Zba];have h:=ih (dq a p b);have hs:=Fw a p b;omega
 have h:=key l (false,[]);simpa [eW]using h
theorem Vo(l:List bn)(a:bn):(oX l a).length<=l.length+1:=by
 have h:=IA a l;unfold oX;split
 ·omega
 ·split
  ·rename_i hd;rw[hd]at h;simpa using h
  ·rename_i hd;simp only[ZcK]at hd;rw[hd]at h;simp at h⊢;omega
theorem iq(cs:List bn):∀l:List bn,(bl l cs).length<=l.length+cs.length:=by
 induction cs with
 |nil=>intro l;simp[bl]
 |cons c cs ih=>
  intro l;have h1:=ih (oX l c);have h2:=Vo l c;have e:bl l (c::cs)=bl (oX l c) cs:=rfl;rw[e];simp only[Zba];omega
theorem Vp(x:Input)(i m t:Nat):(rA x i m t).length<=1:=by unfold rA;split<;>simp
theorem rS_len(x:Input)(i m:Nat):(rS x i m).length<=1:=by unfold rS;split<;>simp
theorem rT_len(x:Input)(i:Nat):(rT x i).length<=1:=by unfold rT;split<;>simp
theorem lM{α:Type}{f:Nat->List α}{B:Nat}(h:∀k,(f k).length<=B)(i m:Nat):(ft f i m).length<=(m-i)*B:=by
 unfold ft;have:∀k,((List.range k).flatMap λe=>f (i+e)).length<=k*B:=by
  intro k;induction k with
  |zero=>simp
  |succ k ih=>
   rw[ZaE,Zcu,ZaA,Nat.succ_mul];have:=h (i+k);simp only[Zbo,List.flatMap_nil,ZaJ];omega
 exact this _
theorem Vq(x:Input)(i m:Nat)(h:x.insert.length<=100):(rM x i m).length<=101:=by
 unfold rM;have h1:=lM (Vp x i m) 0 x.insert.length;have h2:=rS_len x i m;rw[ZaA];omega
theorem Vr(x:Input)(i:Nat)(h:x.insert.length<=100)(hn:x.aj.length<=60):(rI x i).length<=7000:=by
 unfold rI;have h1:=lM (f:=rM x i) (B:=101) (λk=>Vq x i k h) i (x.aj.length+1);have h2:=rT_len x i;rw[ZaA];omega
theorem Vt(x:Input)(i m:Nat)(h:x.insert.length<=100):(iM x i m).length<=100:=by
 unfold iM;have h1:=lM (f:=iT x i m) (B:=1) (λk=>by simp[iT]) 0 x.insert.length;omega
theorem Vu(x:Input)(i:Nat)(h:x.insert.length<=100)(hn:x.aj.length<=60):(iI x i).length<=7000:=by
 unfold iI;have h1:=lM (f:=iM x i) (B:=100) (λk=>Vt x i k h) i (x.aj.length+1);omega
abbrev s34(x:Input):DM.Spec:=cy (λts=>∃i m:Nat,ts=[x.enc,ti i,ti m]/\i<=m/\m<=x.aj.length) (fun|[_,.int _ i,.int _ m]=>ti (fW x i.toNat m.toNat)|_=>.bool false) true
abbrev s38(x:Input):DM.Spec:=cy (λts=>∃m:Nat,ts=[x.enc,ti m]/\m<=1000000) (fun|[_,.int _ m]=>.bool (bX x m.toNat)|_=>.bool false) true
abbrev s37:DM.Spec:=cy (λts=>∃(n:Nat) (a b:Int),ts=[ti n,.agg [ti a,ti b]]/\n<=1000000) (fun|[.int _ n,.agg [.int _ a,.int _ b]]=>.sl (cR (dd n.toNat++[(a,b)]))|_=>.bool false) false
abbrev s35:DM.Spec:=cy (λts=>∃(l:List bn) (a:bn),ts=[.sl (ba l),.agg a.enc]/\l.length<=1000000000) (fun|[.sl l,.agg a]=>.sl (ba (oX (zt l) (lL a)))|_=>.bool false) false
abbrev Γ14(x:Input):Env:=aW [(26,s34 x),(30,s38 x),(29,s37),(27,s35),(28,Vm)]
theorem TQ(x:Input)(hd:ng x.aj):ay Tryz.prog (Γ14 x):=by
 refine ay.cons (ay.cons (ay.cons (ay.cons X0 ?_) ?_) ?_) ?_
 ·rintro ts ⟨l,a,rfl,h⟩;exact⟨by simpa using t35 l a h,λh=>by cases h⟩
 ·rintro ts ⟨n,a,b,rfl,h⟩;exact⟨by simpa using t37 n a b h,λh=>by cases h⟩
 ·rintro ts ⟨m,rfl,h⟩;exact⟨by simpa using t38 x m h hd.1,λ_=>rfl⟩
 ·rintro ts ⟨i,m,rfl,h1,h2⟩;exact⟨by simpa using t34 x i m h1 h2 hd,λ_=>rfl⟩
theorem t14(x:Input)(hx:H2 x)(hn60:x.aj.length<=60)(ht:x.insert.length<=100)(hread:∀c∈x.aj,c.read.length=x.insert.length):aT Tryz.prog 12 [x.enc] (aH x).enc:=by
 have aw:=TQ x hx.1;have AG:T.agg [.sl (aZ x.aj),.sl (aB x.insert),ti x.swap]=x.enc:=rfl;obtain⟨hd,mC,hins,Ve,hsw0,zL⟩:=hx;obtain⟨n,hn⟩:∃n,x.aj.length=n:=⟨_,rfl⟩;obtain⟨tm,iY⟩:∃n,x.insert.length=n:=⟨_,rfl⟩;have YN:=eE hd;have lenA:∀y,y<=n+1->(bl [] (ft (rI x) 0 y)).length<=430000:=by
  intro y hy;have h1:=iq (ft (rI x) 0 y) [];have h2:=lM (f:=rI x) (B:=7000) (λk=>Vr x k ht hn60) 0 y;simp at h1;omega
 obtain⟨R,hR⟩:∃R,(aH x).enc=R:=⟨_,rfl⟩;refine c14.ok (by simp) (aJ ?_);rw[hR];simp only[aH,dS]at hR;simp[Input.enc];refine aa.ab aw fw [1,2] ?_;simp[Hf];refine aa.le (Le.aC (o:=[(1003,.box [.v (ti 0),.aI,.aI])]) (l:=[(1,.v (.box [.sl (aZ x.aj),.sl (aB x.insert),ti x.swap])),(2,.ptr 1003 0)]) (nxt':=1500) ?_ ?_ ?_ ?_) ?_;iterate 4(·simp)
 refine aa.ab aw fw [1,2,3] ?_;simp[Hg,hn];refine aa.ab aw fw [1,2,3,4] ?_;simp[d14r2];refine aa.seq ?_;refine aa.le (Le.aC (o:=[(1003,.box [.v (ti 0),.aI,.aI])]) (l:=[(1,.v (.box [.sl (aZ x.aj),.sl (aB x.insert),ti x.swap])),(2,.ptr 1003 0),(3,.v (ti n)),(4,.v (.sl (ba [])))]) (nxt':=2500) ?_ ?_ ?_ ?_) ?_;iterate 3(·simp)
 ·simp[ba]
 refine aa.ab aw fw [1,2,3,4,5] ?_;simp[d14r3];obtain⟨Ir,Li⟩:∃l,bl [] (ft (rI x) 0 (n+1))=l:=⟨_,rfl⟩;have lal1:Ir.length<=430000:=by rw[<-Li];exact lenA _ (by omega)
 refine aa.to ⟨DM.look [(1,.v (.box [.sl (aZ x.aj),.sl (aB x.insert),ti x.swap])),(2,.ptr 1003 0),(3,.v (ti n)),(4,.v (.sl (ba Ir)))],cA [(1003,.box [.v (ti 0),.aI,.aI])],100000,1000,[]⟩ ?_ ?_
 ·refine aa.block ?_;refine aa.loop (λy:Nat=>⟨DM.look [(1,.v (.box [.sl (aZ x.aj),.sl (aB x.insert),ti x.swap])),(2,.ptr 1003 0),(3,.v (ti n)),(4,.v (.sl (ba (bl [] (ft (rI x) 0 y))))),(5,.v (ti y))],cA [(1003,.box [.v (ti 0),.aI,.aI])],10000,1000,[]⟩)
   (λy=>y<=n+1) (λy=>n+1-y) 0 (Le.aC ?_ ?_ ?_ ?_) (by simp) (λy hy=>?_)
  iterate 3(·simp)
  ·simp[tD,bl]
  have lal:=lenA y hy;have Lo:=o5 (rI x) (Zbf y);obtain⟨al,kl⟩:∃l,bl [] (ft (rI x) 0 y)=l:=⟨_,rfl⟩;have qa:bl [] (ft (rI x) 0 (y+1))=bl al (rI x y):=by rw[Lo,cU,kl]
  rw[kl]at lal⊢;refine aa.seq ?_;refine aa.ab aw fw [1,2,3,4,5,20] ?_;simp[d14r4];refine aa.cond rfl (λbM=>?_) (λbM=>?_)
  ·simp at bM;have w2y:IntKind.i64.wrap (2*(y:Int))=2*y:=au (by omega);refine aa.skip ?_;simp;refine aa.seq ?_;refine aa.to ⟨DM.look [(1,.v (.box [.sl (aZ x.aj),.sl (aB x.insert),ti x.swap])),(2,.ptr 1003 0),(3,.v (ti n)),(4,.v (.sl (ba (bl al (rI x y))))),(5,.v (ti y))],cA [(1003,.box [.v (ti 0),.aI,.aI])],50000,1000,[]⟩ ?_ ?_
   ·refine aa.block ?_;refine aa.seq ?_;refine aa.ab aw fw [1,2,3,4,5,6] ?_;simp[d14r5];obtain⟨Jr,xG⟩:∃l,bl al (ft (rM x y) y (n+1))=l:=⟨_,rfl⟩;have lB:∀m,m<=n+1->(bl al (ft (rM x y) y m)).length<=440000:=by
     intro m hm;have h1:=iq (ft (rM x y) y m) al;have h2:=lM (f:=rM x y) (B:=101) (λk=>Vq x y k ht) y m;omega
    have lal2:Jr.length<=440000:=by rw[<-xG];exact lB _ (by omega)
    have mE:bl al (rI x y)=bl Jr (rT x y):=by rw[<-xG,<-cU];unfold rI;rw[hn]
    refine aa.to ⟨DM.look [(1,.v (.box [.sl (aZ x.aj),.sl (aB x.insert),ti x.swap])),(2,.ptr 1003 0),(3,.v (ti n)),(4,.v (.sl (ba Jr))),(5,.v (ti y))],cA [(1003,.box [.v (ti 0),.aI,.aI])],40000,1000,[]⟩ ?_ ?_
    ·refine aa.block ?_;refine aa.loop (λm:Nat=>⟨DM.look [(1,.v (.box [.sl (aZ x.aj),.sl (aB x.insert),ti x.swap])),(2,.ptr 1003 0),(3,.v (ti n)),(4,.v (.sl (ba (bl al (ft (rM x y) y m))))),(5,.v (ti y)),(6,.v (ti m))],cA [(1003,.box [.v (ti 0),.aI,.aI])],20000,1000,[]⟩)
      (λm=>y<=m/\m<=n+1) (λm=>n+1-m) y (Le.aC ?_ ?_ ?_ ?_) (by omega) (λm hm=>?_)
     iterate 3(·simp)
     ·simp[tD,bl]
     obtain⟨wu,Ed⟩:=hm;have lalm:=lB m Ed;have Lp:=o5 (rM x y) wu;obtain⟨F3,Lq⟩:∃l,bl al (ft (rM x y) y m)=l:=⟨_,rfl⟩;have Lr:bl al (ft (rM x y) y (m+1))=bl F3 (rM x y m):=by rw[Lp,cU,Lq]
     rw[Lq]at lalm⊢;refine aa.seq ?_;refine aa.ab aw fw [1,2,3,4,5,6,26] ?_;simp[d14r6];refine aa.cond rfl (λEb=>?_) (λEb=>?_)
     ·simp at Eb;have w2m:IntKind.i64.wrap (2*(m:Int))=2*m:=au (by omega);have w2m1:IntKind.i64.wrap (2*(m:Int)+1)=2*m+1:=au (by omega);have w2m2:IntKind.i64.wrap (2*(m:Int)+2)=2*m+2:=au (by omega);have wm1:IntKind.i64.wrap ((m:Int)+1)=m+1:=au (by omega);have wmy:IntKind.i64.wrap ((m:Int)-y)=((m-y:Nat):Int):=by rw[au (by omega)];omega
      obtain⟨d,hdd⟩:∃d,fW x y m=d:=⟨_,rfl⟩;have hdb':=YN y m;rw[hdd]at hdb';refine aa.skip ?_;simp;refine aa.seq ?_;refine aa.to ⟨DM.look [(1,.v (.box [.sl (aZ x.aj),.sl (aB x.insert),ti x.swap])),(2,.ptr 1003 0),(3,.v (ti n)),(4,.v (.sl (ba (bl F3 (rM x y m))))),(5,.v (ti y)),(6,.v (ti m))],cA [(1003,.box [.v (ti 0),.aI,.aI])],40000,1000,[]⟩ ?_ ?_
      ·refine aa.block ?_;refine aa.ab aw fw [1,2,3,4,5,6,7] ?_;simp[d14r7,AG,hdd];refine⟨⟨y,m,⟨rfl,rfl⟩,wu,by omega⟩, ?_⟩;refine aa.seq ?_;refine aa.ab aw fw [1,2,3,4,5,6,7,8] ?_;simp[d14r8];obtain⟨al3,Pe⟩:∃l,bl F3 (ft (rA x y m) 0 tm)=l:=⟨_,rfl⟩;have lC:∀t,t<=tm->(bl F3 (ft (rA x y m) 0 t)).length<=450000:=by
        intro t W7;have h1:=iq (ft (rA x y m) 0 t) F3;have h2:=lM (f:=rA x y m) (B:=1) (λk=>Vp x y m k) 0 t;omega
       have lal3:al3.length<=450000:=by rw[<-Pe];exact lC _ (by omega)
       have hfin3:bl F3 (rM x y m)=bl al3 (rS x y m):=by rw[<-Pe,<-cU];unfold rM;rw[iY]
       refine aa.to ⟨DM.look [(1,.v (.box [.sl (aZ x.aj),.sl (aB x.insert),ti x.swap])),(2,.ptr 1003 0),(3,.v (ti n)),(4,.v (.sl (ba al3))),(5,.v (ti y)),(6,.v (ti m)),(7,.v (ti d))],cA [(1003,.box [.v (ti 0),.aI,.aI])],40000,1000,[]⟩ ?_ ?_
       ·refine aa.block ?_;refine aa.loop (λt:Nat=>⟨DM.look [(1,.v (.box [.sl (aZ x.aj),.sl (aB x.insert),ti x.swap])),(2,.ptr 1003 0),(3,.v (ti n)),(4,.v (.sl (ba (bl F3 (ft (rA x y m) 0 t))))),(5,.v (ti y)),(6,.v (ti m)),(7,.v (ti d)),(8,.v (ti t))],cA [(1003,.box [.v (ti 0),.aI,.aI])],30000,1000,[]⟩)
         (λt=>t<=tm) (λt=>tm-t) 0 (Le.aC ?_ ?_ ?_ ?_) (by simp) (λt W7=>?_)
        iterate 3(·simp)
        ·simp[tD,bl]
        have lalt:=lC t W7;have Ls:=o5 (rA x y m) (Zbf t);obtain⟨alt,halt⟩:∃l,bl F3 (ft (rA x y m) 0 t)=l:=⟨_,rfl⟩;have By:bl F3 (ft (rA x y m) 0 (t+1))=bl alt (rA x y m t):=by rw[Ls,cU,halt]
        rw[halt]at lalt⊢;refine aa.seq ?_;refine aa.ab aw fw [1,2,3,4,5,6,7,8,37] ?_;simp[d14r9,iY];refine aa.cond rfl (λhct=>?_) (λhct=>?_)
        ·simp at hct;refine aa.skip ?_;simp;refine aa.seq ?_;obtain⟨q,hq⟩:∃q,rA x y m t=q:=⟨_,rfl⟩;rw[hq]at By;unfold rA at hq;rw[hdd,hn]at hq;refine aa.to ⟨DM.look [(1,.v (.box [.sl (aZ x.aj),.sl (aB x.insert),ti x.swap])),(2,.ptr 1003 0),(3,.v (ti n)),(4,.v (.sl (ba (bl alt q)))),(5,.v (ti y)),(6,.v (ti m)),(7,.v (ti d)),(8,.v (ti t))],cA [(1003,.box [.v (ti 0),.aI,.aI])],40000,1000,[]⟩ ?_ ?_
         ·refine aa.block ?_;obtain⟨c,hc⟩:∃c:Bool,decide (m<n/\0<=lH x m t)=c:=⟨_,rfl⟩;by_cases PQ:m<n
          ·have hmc:m<x.aj.length:=by omega
           have Ka:=dR hmc;obtain⟨cl,bd⟩:∃c,x.aj.getD m default=c:=⟨_,rfl⟩;have hclm:cl∈x.aj:=by rw[<-bd];simp[List.getD,hmc]
           have PT:=hread cl hclm;have hcok:=mC cl hclm;rw[bd]at Ka;have htr:t<cl.read.length:=by omega
           have tH:=cO htr;have Gt:lH x m t=cl.read.getD t default:=by unfold lH;rw[bd]
           rw[Gt]at hq hc;obtain⟨u,hu⟩:∃u,cl.read.getD t default=u:=⟨_,rfl⟩;rw[hu]at tH hq hc;refine aa.bY aw fw [(1,.v (.box [.sl (aZ x.aj),.sl (aB x.insert),ti x.swap])),(2,.ptr 1003 0),(3,.v (ti n)),(4,.v (.sl (ba alt))),(5,.v (ti y)),(6,.v (ti m)),(7,.v (ti d)),(8,.v (ti t)),(54,.v (.bool c))] ?_ ?_
           ·by_cases q2:0<=u
            ·have Ab:c=true:=by rw[<-hc];simp[PQ,q2]
             simp[Fm,PQ,hn,Ka,bD.enc,htr,tH,q2,Ab]
            ·have Ab:c=false:=by rw[<-hc];simp[q2]
             simp[Fm,PQ,hn,Ka,bD.enc,htr,tH,q2,Ab]
           refine aa.cond rfl (λh=>?_) (λh=>?_)
           ·rw[h]at hc;simp only[decide_eq_true_eq]at hc;rw[if_pos hc]at hq;have hub:u<=1099511627776:=hcok.2 u (by rw[<-hu];simp[List.getD,htr]);subst hq;refine aa.dp aw fw [1,2,3,4,5,6,7,8] ?_;simp[UH,w2y,w2m,w2m2,wmy,PQ,hn,Ka,bD.enc,htr,tH];refine⟨⟨d,u,⟨rfl,rfl⟩,by omega,by omega⟩,⟨m-y,rfl,by omega⟩,⟨alt,⟨rfl,⟨⟨2*y,2*m+2,t,jG d u,dd (m-y)++[(1,(t:Int))]⟩,rfl⟩⟩,by omega⟩,Le.aC ?_ ?_ ?_ ?_⟩;iterate 3(·simp)
            ·simp[bl]
           ·rw[h]at hc;simp only[decide_eq_false_iff_not]at hc;rw[if_neg hc]at hq;subst hq;refine aa.skip ⟨rfl,Le.aC ?_ ?_ ?_ ?_⟩;iterate 3(·simp)
            ·simp[bl]
          ·have Ab:c=false:=by rw[<-hc];simp[PQ]
           rw[if_neg (λh=>PQ h.1)]at hq;subst hq;refine aa.bY aw fw [(1,.v (.box [.sl (aZ x.aj),.sl (aB x.insert),ti x.swap])),(2,.ptr 1003 0),(3,.v (ti n)),(4,.v (.sl (ba alt))),(5,.v (ti y)),(6,.v (ti m)),(7,.v (ti d)),(8,.v (ti t)),(54,.v (.bool false))] ?_ ?_
           ·simp[Fm,PQ]
           refine aa.cond rfl (λh=>by cases h) (λ_=>?_);refine aa.skip ⟨rfl,Le.aC ?_ ?_ ?_ ?_⟩;iterate 3(·simp)
           ·simp[bl]
         ·refine aa.dp aw fw [1,2,3,4,5,6,7,8] ?_;simp[UI];rw[au (by omega)];refine⟨t+1,Le.aC ?_ ?_ ?_ ?_,by omega,by omega⟩;iterate 3(·simp)
          ·simp[By]
        ·simp at hct;have:t=tm:=by omega
         subst this;refine aa.exit ⟨rfl,Le.aC ?_ ?_ ?_ ?_⟩;iterate 3(·simp)
         ·simp[<-Pe,halt]
       simp;refine aa.ab aw fw [1,2,3,4,5,6,7,83] ?_;simp[UJ,AG];refine⟨⟨m,rfl,by omega⟩, ?_⟩;rw[hfin3];obtain⟨q,hq⟩:∃q,rS x y m=q:=⟨_,rfl⟩;rw[hq];unfold rS at hq;rw[hdd]at hq;refine aa.cond rfl (λh=>?_) (λh=>?_)
       ·rw[if_pos h]at hq;have Is:m+1<x.aj.length:=by simp[bX]at h;exact h.1
        have Ka:DM.rowAt (aZ x.aj) ((m:Int)+1)=_:=dR Is;obtain⟨cl,bd⟩:∃c,x.aj.getD (m+1) default=c:=⟨_,rfl⟩;rw[bd]at Ka hq;have hlt1:((m:Int)+1<n)=True:=by simp;omega
        have Fb:(0<=(m:Int)+1)=True:=by simp;omega
        subst hq;refine aa.dp aw fw [1,2,3,4,5,6] ?_;simp[UK,w2y,w2m,w2m1,wm1,wmy,hn,Ka,hlt1,Fb,bD.enc];refine⟨⟨d,x.swap,⟨rfl,rfl⟩,by omega,by omega⟩,⟨m-y,rfl,by omega⟩,⟨al3,⟨rfl,⟨⟨2*y,2*m+1,cl.kind,jG d x.swap,dd (m-y)++[(4,0)]⟩,rfl⟩⟩,by omega⟩,Le.aC ?_ ?_ ?_ ?_⟩;iterate 3(·simp)
        ·simp[bl]
       ·rw[if_neg (by simp[h])]at hq;subst hq;refine aa.skip ⟨rfl,Le.aC ?_ ?_ ?_ ?_⟩;iterate 3(·simp)
        ·simp[bl]
      ·refine aa.dp aw fw [1,2,3,4,5,6] ?_;simp[UL];rw[au (by omega)];refine⟨m+1,Le.aC ?_ ?_ ?_ ?_,by omega,by omega⟩;iterate 3(·simp)
       ·simp[Lr]
     ·simp at Eb;have:m=n+1:=by omega
      subst this;refine aa.exit ⟨rfl,Le.aC ?_ ?_ ?_ ?_⟩;iterate 3(·simp)
      ·simp[<-xG,Lq]
    simp;refine aa.ab aw fw [1,2,3,4,5,110] ?_;simp[UM,AG];refine⟨⟨y,rfl,by omega⟩, ?_⟩;rw[mE];obtain⟨q,hq⟩:∃q,rT x y=q:=⟨_,rfl⟩;rw[hq];unfold rT at hq;refine aa.cond rfl (λh=>?_) (λh=>?_)
    ·rw[if_pos h]at hq;have Is:y<x.aj.length:=by simp[bX]at h;omega
     have Ka:=dR Is;obtain⟨cl,bd⟩:∃c,x.aj.getD y default=c:=⟨_,rfl⟩;rw[bd]at Ka hq;have w2y1:IntKind.i64.wrap (2*(y:Int)+1)=2*y+1:=au (by omega);have w2y4:IntKind.i64.wrap (2*(y:Int)+4)=2*y+4:=au (by omega);have hyn:y<n:=by omega
     subst hq;refine aa.dp aw fw [1,2,3,4,5] ?_;simp[UN,w2y,w2y1,w2y4,hn,Ka,hyn,bD.enc];refine⟨⟨Jr,⟨rfl,⟨⟨2*y+1,2*y+4,cl.kind,0,[]⟩,rfl⟩⟩,by omega⟩,Le.aC ?_ ?_ ?_ ?_⟩;iterate 3(·simp)
     ·simp[bl]
    ·rw[if_neg (by simp[h])]at hq;subst hq;refine aa.skip ⟨rfl,Le.aC ?_ ?_ ?_ ?_⟩;iterate 3(·simp)
     ·simp[bl]
   ·refine aa.dp aw fw [1,2,3,4,5] ?_;simp[UO];rw[au (by omega)];refine⟨y+1,Le.aC ?_ ?_ ?_ ?_,by omega,by omega⟩;iterate 3(·simp)
    ·simp[qa]
  ·simp at bM;have:y=n+1:=by omega
   subst this;refine aa.exit ⟨rfl,Le.aC ?_ ?_ ?_ ?_⟩;iterate 3(·simp)
   ·simp[<-Li,kl]
 simp;refine aa.seq ?_;refine aa.ab aw fw [1,2,3,4,9] ?_;simp[UP];obtain⟨Jr,xG⟩:∃l,bl Ir (ft (iI x) 0 (n+1))=l:=⟨_,rfl⟩;have Pj:∀y,y<=n+1->(bl Ir (ft (iI x) 0 y)).length<=900000:=by
  intro y hy;have h1:=iq (ft (iI x) 0 y) Ir;have h2:=lM (f:=iI x) (B:=7000) (λk=>Vu x k ht hn60) 0 y;omega
 refine aa.to ⟨DM.look [(1,.v (.box [.sl (aZ x.aj),.sl (aB x.insert),ti x.swap])),(2,.ptr 1003 0),(3,.v (ti n)),(4,.v (.sl (ba Jr)))],cA [(1003,.box [.v (ti 0),.aI,.aI])],100000,1000,[]⟩ ?_ ?_
 ·refine aa.block ?_;refine aa.loop (λy:Nat=>⟨DM.look [(1,.v (.box [.sl (aZ x.aj),.sl (aB x.insert),ti x.swap])),(2,.ptr 1003 0),(3,.v (ti n)),(4,.v (.sl (ba (bl Ir (ft (iI x) 0 y))))),(9,.v (ti y))],cA [(1003,.box [.v (ti 0),.aI,.aI])],110000,1000,[]⟩)
   (λy=>y<=n+1) (λy=>n+1-y) 0 (Le.aC ?_ ?_ ?_ ?_) (by simp) (λy hy=>?_)
  iterate 3(·simp)
  ·simp[tD,bl]
  have lal:=Pj y hy;have Lo:=o5 (iI x) (Zbf y);obtain⟨al,kl⟩:∃l,bl Ir (ft (iI x) 0 y)=l:=⟨_,rfl⟩;have qa:bl Ir (ft (iI x) 0 (y+1))=bl al (iI x y):=by rw[Lo,cU,kl]
  rw[kl]at lal⊢;refine aa.seq ?_;refine aa.ab aw fw [1,2,3,4,9,128] ?_;simp[UQ];refine aa.cond rfl (λbM=>?_) (λbM=>?_)
  ·simp at bM;have w2y:IntKind.i64.wrap (2*(y:Int))=2*y:=au (by omega);refine aa.skip ?_;simp;refine aa.seq ?_;refine aa.to ⟨DM.look [(1,.v (.box [.sl (aZ x.aj),.sl (aB x.insert),ti x.swap])),(2,.ptr 1003 0),(3,.v (ti n)),(4,.v (.sl (ba (bl al (iI x y))))),(9,.v (ti y))],cA [(1003,.box [.v (ti 0),.aI,.aI])],150000,1000,[]⟩ ?_ ?_
   ·refine aa.block ?_;refine aa.ab aw fw [1,2,3,4,9,10] ?_;simp[UR];have lB:∀m,m<=n+1->(bl al (ft (iM x y) y m)).length<=910000:=by
     intro m hm;have h1:=iq (ft (iM x y) y m) al;have h2:=lM (f:=iM x y) (B:=100) (λk=>Vt x y k ht) y m;omega
    refine aa.block ?_;refine aa.loop (λm:Nat=>⟨DM.look [(1,.v (.box [.sl (aZ x.aj),.sl (aB x.insert),ti x.swap])),(2,.ptr 1003 0),(3,.v (ti n)),(4,.v (.sl (ba (bl al (ft (iM x y) y m))))),(9,.v (ti y)),(10,.v (ti m))],cA [(1003,.box [.v (ti 0),.aI,.aI])],120000,1000,[]⟩)
     (λm=>y<=m/\m<=n+1) (λm=>n+1-m) y (Le.aC ?_ ?_ ?_ ?_) (by omega) (λm hm=>?_)
    iterate 3(·simp)
    ·simp[tD,bl]
    obtain⟨wu,Ed⟩:=hm;have lalm:=lB m Ed;have Lp:=o5 (iM x y) wu;obtain⟨F3,Lq⟩:∃l,bl al (ft (iM x y) y m)=l:=⟨_,rfl⟩;have Lr:bl al (ft (iM x y) y (m+1))=bl F3 (iM x y m):=by rw[Lp,cU,Lq]
    rw[Lq]at lalm⊢;refine aa.seq ?_;refine aa.ab aw fw [1,2,3,4,9,10,134] ?_;simp[US];refine aa.cond rfl (λEb=>?_) (λEb=>?_)
    ·simp at Eb;have w2m:IntKind.i64.wrap (2*(m:Int))=2*m:=au (by omega);have wmy:IntKind.i64.wrap ((m:Int)-y)=((m-y:Nat):Int):=by rw[au (by omega)];omega
     obtain⟨d,hdd⟩:∃d,fW x y m=d:=⟨_,rfl⟩;have hdb':=YN y m;rw[hdd]at hdb';refine aa.skip ?_;simp;refine aa.seq ?_;refine aa.to ⟨DM.look [(1,.v (.box [.sl (aZ x.aj),.sl (aB x.insert),ti x.swap])),(2,.ptr 1003 0),(3,.v (ti n)),(4,.v (.sl (ba (bl F3 (iM x y m))))),(9,.v (ti y)),(10,.v (ti m))],cA [(1003,.box [.v (ti 0),.aI,.aI])],140000,1000,[]⟩ ?_ ?_
     ·refine aa.block ?_;refine aa.ab aw fw [1,2,3,4,9,10,11] ?_;simp[UT];have lC:∀t,t<=tm->(bl F3 (ft (iT x y m) 0 t)).length<=920000:=by
       intro t W7;have h1:=iq (ft (iT x y m) 0 t) F3;have h2:=lM (f:=iT x y m) (B:=1) (λk=>by simp[iT]) 0 t;omega
      refine aa.block ?_;refine aa.loop (λt:Nat=>⟨DM.look [(1,.v (.box [.sl (aZ x.aj),.sl (aB x.insert),ti x.swap])),(2,.ptr 1003 0),(3,.v (ti n)),(4,.v (.sl (ba (bl F3 (ft (iT x y m) 0 t))))),(9,.v (ti y)),(10,.v (ti m)),(11,.v (ti t))],cA [(1003,.box [.v (ti 0),.aI,.aI])],130000,1000,[]⟩)
       (λt=>t<=tm) (λt=>tm-t) 0 (Le.aC ?_ ?_ ?_ ?_) (by simp) (λt W7=>?_)
      iterate 3(·simp)
      ·simp[tD,bl]
      have lalt:=lC t W7;have Ls:=o5 (iT x y m) (Zbf t);obtain⟨alt,halt⟩:∃l,bl F3 (ft (iT x y m) 0 t)=l:=⟨_,rfl⟩;have By:bl F3 (ft (iT x y m) 0 (t+1))=bl alt (iT x y m t):=by rw[Ls,cU,halt]
      rw[halt]at lalt⊢;refine aa.seq ?_;refine aa.ab aw fw [1,2,3,4,9,10,11,141] ?_;simp[UU,iY];refine aa.cond rfl (λhct=>?_) (λhct=>?_)
      ·simp at hct;refine aa.skip ?_;simp;refine aa.seq ?_;refine aa.block ?_;have htx:t<x.insert.length:=by omega
       have tH:=cO htx;obtain⟨u,hu⟩:∃u,x.insert.getD t default=u:=⟨_,rfl⟩;have hub:=Ve u (by rw[<-hu];simp[List.getD,htx]);have hiT:iT x y m t=[⟨2*y,2*m,t,jG d u,dd (m-y)++[(3,(t:Int))]⟩]:=by unfold iT;rw[hdd,hu]
       rw[hu]at tH;refine aa.dp aw fw [1,2,3,4,9,10,11] ?_;simp[UW,AG,hdd,w2y,w2m,wmy,iY,tH,hct];refine⟨⟨y,m,⟨rfl,rfl⟩,wu,by omega⟩,⟨d,u,⟨rfl,rfl⟩,by omega,by omega⟩,⟨m-y,rfl,by omega⟩,⟨alt,⟨rfl,⟨⟨2*y,2*m,t,jG d u,dd (m-y)++[(3,(t:Int))]⟩,rfl⟩⟩,by omega⟩, ?_⟩;refine aa.dp aw fw [1,2,3,4,9,10,11] ?_;simp[UX];rw[au (by omega)];refine⟨t+1,Le.aC ?_ ?_ ?_ ?_,by omega,by omega⟩;iterate 3(·simp)
       ·rw[hiT]at By;have O5:bl F3 (ft (iT x y m) 0 (t+1))=oX alt ⟨2*y,2*m,t,jG d u,dd (m-y)++[(3,(t:Int))]⟩:=By;simp[O5]
      ·simp at hct;have:t=tm:=by omega
       subst this;refine aa.exit ⟨rfl,Le.aC ?_ ?_ ?_ ?_⟩;iterate 3(·simp)
       ·simp[<-halt,iM,iY]
     ·refine aa.dp aw fw [1,2,3,4,9,10] ?_;simp[UY];rw[au (by omega)];refine⟨m+1,Le.aC ?_ ?_ ?_ ?_,by omega,by omega⟩;iterate 3(·simp)
      ·simp[Lr]
    ·simp at Eb;have:m=n+1:=by omega
     subst this;refine aa.exit ⟨rfl,Le.aC ?_ ?_ ?_ ?_⟩;iterate 3(·simp)
     ·simp[<-Lq,iI,hn]
   ·refine aa.dp aw fw [1,2,3,4,9] ?_;simp[UZ];rw[au (by omega)];refine⟨y+1,Le.aC ?_ ?_ ?_ ?_,by omega,by omega⟩;iterate 3(·simp)
    ·simp[qa]
  ·simp at bM;have:y=n+1:=by omega
   subst this;refine aa.exit ⟨rfl,Le.aC ?_ ?_ ?_ ?_⟩;iterate 3(·simp)
   ·simp[<-xG,kl]
 simp;have lal2:Jr.length<=900000:=by rw[<-xG];exact Pj _ (by omega)
 obtain⟨N,hN⟩:∃N,2*n+1=N:=⟨_,rfl⟩;have w2n:IntKind.i64.wrap (2*(n:Int))=2*n:=au (by omega);have w2n1:IntKind.i64.wrap (2*(n:Int)+1)=(N:Int):=by rw[au (by omega)];omega
 refine aa.ab aw fw [1,2,3,12] ?_;simp[U0,w2n,w2n1];refine aa.ab aw fw [1,2,3,12,13] ?_;simp[U1,w2n,w2n1];refine⟨by simp[cG];omega, ?_⟩;refine aa.seq ?_;refine aa.ab aw fw [1,2,3,12,13,14] ?_;simp[U2];have PT:(dU x 0).length=N:=by simp[dU,hn,hN]
 have IB:∀k,(dU x k).length=N:=λk=>by simp[dU,hn,hN]
 have hF0:List.replicate N [T.int IntKind.i64 0]=aB (dU x 0):=by
  rw[<-hN,<-hn];apply ZbB
  ·simp[dU,aB]
  ·intro i h1 h2;simp[dU,aB]
 have hFs:∀k,k<N->(dU x k).set k (if k % 2=0 then fW x (k/2) n else 1099511627776)=dU x (k+1):=by
  intro k hk;rw[<-hn];apply ZbB
  ·simp[dU]
  ·intro i h1 h2;rw[Zca];simp only[dU,Zcm,ZcB];by_cases e:k=i
   ·subst e;simp
   ·rw[if_neg e];have hq:(i<k+1)=(i<k):=propext ⟨λh=>by omega,λh=>by omega⟩;simp only[hq]
 rw[hF0];refine aa.block ?_;refine aa.loop (λk:Nat=>⟨DM.look [(1,.v (.box [.sl (aZ x.aj),.sl (aB x.insert),ti x.swap])),(2,.ptr 1003 0),(3,.v (ti n)),(12,.ptr 100013 0),(13,.bk 100378 0),(14,.v (ti k))],cA [(1003,.box [.v (ti 0),.aI,.aI]),(100013,.box [.v (ti N),.v (.sl (ba Jr)),.aI]),(100378,.arr 0 3 1 (aB (dU x k)))],200000,1000,[]⟩)
  (λk=>k<=N) (λk=>N-k) 0 (Le.aC ?_ ?_ ?_ ?_) (by simp) (λk hk=>?_)
 iterate 4(·simp)
 refine aa.seq ?_;refine aa.ab aw fw [1,2,3,12,13,14,180] ?_;simp[U3,IB];refine aa.cond rfl (λwA=>?_) (λwA=>?_)
 ·simp at wA;have hrw:DM.rowAt (aB (dU x k)) (k:Int)=[ti ((dU x k).getD k default)]:=cO (by rw[IB];exact wA);have hrw2:DM.rowAt (aB ((dU x k).set k 1099511627776)) (k:Int)=[ti (((dU x k).set k 1099511627776).getD k default)]:=cO (by rw[ZcN,IB];exact wA);have hs:=hFs k wA;refine aa.skip ?_;simp;refine aa.seq ?_;refine aa.to ⟨DM.look [(1,.v (.box [.sl (aZ x.aj),.sl (aB x.insert),ti x.swap])),(2,.ptr 1003 0),(3,.v (ti n)),(12,.ptr 100013 0),(13,.bk 100378 0),(14,.v (ti k))],cA [(1003,.box [.v (ti 0),.aI,.aI]),(100013,.box [.v (ti N),.v (.sl (ba Jr)),.aI]),(100378,.arr 0 3 1 (aB (dU x (k+1))))],300000,1000,[]⟩ ?_ ?_
  ·refine aa.block ?_;refine aa.ab aw fw [1,2,3,12,13,14] ?_;simp[U4,IB,wA,hrw];rw[show(aB (dU x k)).set k [T.int IntKind.i64 1099511627776]=aB ((dU x k).set k 1099511627776)from Iy _ _ _];refine aa.le (Le.aC (o:=[(1003,.box [.v (ti 0),.aI,.aI]),(100013,.box [.v (ti N),.v (.sl (ba Jr)),.aI]),(100378,.arr 0 3 1 (aB ((dU x k).set k 1099511627776)))]) (l:=[(1,.v (.box [.sl (aZ x.aj),.sl (aB x.insert),ti x.swap])),(2,.ptr 1003 0),(3,.v (ti n)),(12,.ptr 100013 0),(13,.bk 100378 0),(14,.v (ti k))]) (nxt':=210000) ?_ ?_ ?_ ?_) ?_;iterate 4(·simp)
   have wm:(k:Int).tmod 2=k % 2:=GB (by omega);have wd:(k:Int).tdiv 2=((k/2:Nat):Int):=by rw[p0 (by omega)];omega
   have ww:IntKind.i64.wrap ((k:Int) % 2)=k % 2:=au (by omega);have ww2:IntKind.i64.wrap ((k/2:Nat):Int)=((k/2:Nat):Int):=au (by omega);obtain⟨h2,hh2⟩:∃h,k/2=h:=⟨_,rfl⟩;rw[hh2]at wd ww2 hs;refine aa.ab aw fw [1,2,3,12,13,14,188] ?_;simp[U5,wm];refine aa.cond rfl (λh=>?_) (λh=>?_)
   ·simp at h;have qU:k % 2=0:=by omega
    rw[if_pos qU]at hs;refine aa.dp aw fw [1,2,3,12,13,14] ?_;simp[U6,AG,wd,ww2,IB,wA,hrw2];refine⟨⟨h2,n,⟨rfl,rfl⟩,by omega,by omega⟩,Le.aC ?_ ?_ ?_ ?_⟩
    ·simp
    ·simp
    ·simp[<-hs,<-Iy]
    ·simp
   ·simp at h;have qU:¬k % 2=0:=by omega
    rw[if_neg qU]at hs;refine aa.skip ⟨rfl,Le.aC ?_ ?_ ?_ ?_⟩
    ·simp
    ·simp
    ·simp[hs]
    ·simp
  ·refine aa.dp aw fw [1,2,3,12,13,14] ?_;simp[U7];rw[au (by omega)];refine⟨k+1,Le.aC ?_ ?_ ?_ ?_,by omega,by omega⟩;iterate 3(·simp)
   ·simp
 ·simp at wA;have:k=N:=by omega
  subst this;refine aa.exit ?_;simp;refine aa.ab aw fw [2,12] ?_;simp[U8];refine aa.ab aw fw [2] ?_;simp[U9];refine aa.ret ?_;subst hR;rw[hn,hN,Li,xG];simp[A1,aM.enc];omega
end Go.Proofs
namespace Go.Proofs
open Go.DM Go.DM.NT
section
variable(good:List T->Prop)(XW:List T->List T->Int)
abbrev wD(x y:List T):Bool:=decide (XW x y<0)
variable{good XW}
end
end Go.Proofs
namespace Go.Proofs
open Go.DM Go.DM.NT
def oi:Nat:=1000000000
end Go.Proofs
namespace Go.Proofs
open Go.DM Go.DM.NT
def bW(a:bn):List T:=[ti a.f,ti a.t,ti a.term]
def p9(r:List T):Prop:=∃f t x:Int,r=[ti f,ti t,ti x]
def jc(r:List T):Int×Int×Int:=(cX (r.getD 0 (ti 0)),cX (r.getD 1 (ti 0)),cX (r.getD 2 (ti 0)))
def WQ(a b:Int×Int×Int):Prop:=a.1<b.1\/(a.1=b.1/\(a.2.1<b.2.1\/(a.2.1=b.2.1/\a.2.2<b.2.2)))
theorem or3(a b c d e f:Int):Nt [qk a d,qk b e,qk c f]<0↔WQ (a,b,c) (d,e,f):=by
 simp only[Nt,qk,WQ];by_cases h1:a<d
 ·simp[h1]
 ·by_cases h2:d<a
  ·have:a≠d:=by omega
   simp[h1,h2,this]
  ·have:a=d:=by omega
   subst this;by_cases h3:b<e
   ·simp[h3]
   ·by_cases h4:e<b
    ·have:b≠e:=by omega
     simp[h3,h4,this]
    ·have:b=e:=by omega
     subst this;by_cases h5:c<f
     ·simp[h5]
     ·by_cases h6:f<c
      ·have:¬c<f:=by omega
       simp[h5,h6]
      ·simp[h5,h6]
theorem Nu(x y:List T):wD dy x y=true↔WQ (jc x) (jc y):=by
 simp only[wD,decide_eq_true_eq];exact or3 _ _ _ _ _ _
theorem r8(x y:List T):wD dy x y=false↔¬WQ (jc x) (jc y):=by
 rw[<-Nu];simp
theorem Gc:SWO (wD dy):=by
 refine⟨λx=>?_,λx y z h1 h2=>?_,λx y z h1 h2=>?_⟩
 ·rw[r8];unfold WQ;omega
 ·rw[Nu]at h1 h2⊢;unfold WQ at h1 h2⊢;omega
 ·rw[r8]at h1 h2⊢;unfold WQ at h1 h2⊢;omega
theorem XY{x y:List T}(h:eqv (wD dy) x y=true):jc x=jc y:=by
 simp only[eqv,Zam,Zbl,r8]at h;unfold WQ at h;generalize jc x=p at h⊢;generalize jc y=q at h⊢;obtain⟨a1,a2,a3⟩:=p;obtain⟨b1,b2,b3⟩:=q;simp only[Zar]at h⊢;omega
theorem xJ{x y:List T}(hx:p9 x)(hy:p9 y)(h:jc x=jc y):x=y:=by
 obtain⟨a,b,c,rfl⟩:=hx;obtain⟨d,e,f,rfl⟩:=hy;simp[jc,cX]at h;simp[h]
theorem Fu{l:List (List T)}(hg:∀x∈l,p9 x)(hn:l.Nodup)(z:List T):(l.filter (eqv (wD dy) z)).length<=1:=by
 have Cl:(l.filter (eqv (wD dy) z)).Nodup:=hn.filter _;have dK:∀x∈l.filter (eqv (wD dy) z),p9 x/\jc x=jc z:=by
  intro x hx;rw[ZaO]at hx;exact⟨hg x hx.1,(XY hx.2).symm⟩
 match hl:l.filter (eqv (wD dy) z),Cl,dK with
 |[],_,_=>simp
 |[a],_,_=>simp
 |a::b::l,Cl,dK=>
  exfalso;have h1:=dK a (by simp);have h2:=dK b (by simp);have:=xJ h1.1 h2.1 (h1.2.trans h2.2.symm);subst this;simp at Cl
theorem Lj{l1 l2:List (List T)}(hp:l1.Perm l2)(hg:∀x∈l2,p9 x)(hn:l2.Nodup):iZ (wD dy) l1=iZ (wD dy) l2:=by
 refine GN Gc (oZ Gc l2) λx=>?_;rw[vh Gc];have h1:=hp.filter (eqv (wD dy) x);have h2:=Fu hg hn x;cases h:l2.filter (eqv (wD dy) x)with
 |nil=>rw[h]at h1;exact(List.Perm.eq_nil h1).symm
 |cons a t=>
  rw[h]at h1 h2;have:t=[]:=by cases t with
   |nil=>rfl
   |cons b t=>simp at h2
  subst this;exact(List.perm_singleton.1 h1).symm
theorem oY{a b:bn}:bW a=bW b↔sameKey a b=true:=by simp[bW,sameKey]
theorem Ll{al:List bn}(h:(al.map bW).Nodup)(a:bn):((tA al a).map bW).Nodup:=by
 unfold tA;split
 ·cases hf:al.findIdx? (sameKey a)with
  |none=>
   simp only;rw[ZaP,ZbP];refine⟨h,by simp, ?_⟩;intro x hx y hy;simp only[Zau,ZbX,Zah]at hy;subst hy;obtain⟨b,hb,rfl⟩:=Zal.1 hx;intro e;rw[ZcH]at hf;have:=hf b hb;rw[oY.1 e.symm]at this;cases this
  |some i=>
   simp only;split
   ·have hi:=sD hf;rw[ZbA]at hf;have hk:bW a=bW al[i]:=oY.2 hf.2.1;rw[ZbJ,hk];have:(al.map bW).set i (bW al[i])=al.map bW:=by
     apply ZbB
     ·simp
     ·intro k h1 h2;rw[Zca];split
      ·rename_i e;subst e;simp
      ·rfl
    rw[this];exact h
   ·exact h
 ·exact h
theorem uI(cs:List bn):∀{al:List bn},(al.map bW).Nodup->((bS al cs).map bW).Nodup:=by
 induction cs with
 |nil=>intro al h;exact h
 |cons c cs ih=>intro al h;exact ih (Ll h c)
def og(al:List bn)(r:List T):bn:=(al.find? (sameKey ⟨(jc r).1,(jc r).2.1,(jc r).2.2,0,[]⟩)).getD default
theorem Vi{α:Type}(p:α->Bool)(l:List α):l.find? p=(l.findIdx? p).bind λi=>l[i]? :=by
 induction l with
 |nil=>rfl
 |cons x l ih=>
  rw[ZaN,Za4];cases h:p x with
  |true=>simp
  |false=>simp[ih];cases l.findIdx? p<;>simp
theorem rY{al:List bn}{a:bn}(h:a∈al):sameKey a (og al (bW a))=true/\og al (bW a)∈al/\∃i,ou a.key (entries al)=some (i,(og al (bW a)).key,.v (.agg (og al (bW a)).enc)):=by
 have e:sameKey ⟨(jc (bW a)).1,(jc (bW a)).2.1,(jc (bW a)).2.2,0,[]⟩=sameKey a:=by
  funext b;simp[sameKey,jc,bW,cX]
 unfold og;rw[e,vo,nB,Vi];cases hf:al.findIdx? (sameKey a)with
 |none=>
  rw[ZcH]at hf;have:=hf a h;simp[sameKey]at this
 |some i=>
  have hi:=sD hf;rw[ZbA]at hf;simp only[Zb8,fz,Zan hi,Za1,Zbc];exact⟨hf.2.1,Zbi hi,i,rfl⟩
def ja(al:List bn):List bn:=(iZ (wD dy) (al.map bW)).map (og al)
theorem Ph{al:List bn}{sn:List Nat}(h1:sn.Nodup)(h2:∀i∈sn,i<al.length)(h3:∀i,i<al.length->i∈sn):(sn.map λi=>bW (al.getD i default)).Perm (al.map bW):=by
 have hp:sn.Perm (List.range al.length):=(List.perm_ext_iff_of_nodup h1 List.nodup_range).2 λi=>by
  rw[ZaQ];exact⟨h2 i,h3 i⟩
 have:=hp.map λi=>bW (al.getD i default);refine this.trans (List.Perm.of_eq ?_);apply ZbB
 ·simp
 ·intro k k1 k2;simp at k2;simp[k2]
end Go.Proofs
namespace Go.Proofs
open Go.Shelf
def Ix:Go.Shelf.Ren:=⟨fun|6=>51|15=>77|14=>76|28=>104|29=>105|20=>96|21=>97|22=>98|23=>99|24=>100|25=>101|26=>102|27=>103|46=>112|47=>113|48=>114|49=>115|50=>116|57=>118|n=>n,fun|22=>104|24=>106|25=>108|3=>3|39=>134|0=>0|53=>159|55=>162|4=>4|46=>168|45=>167|50=>151|5=>5|9=>9|66=>180|70=>178|76=>185|77=>148|n=>n,fun|n=>n⟩
theorem XX:SlLaysF0.n6 Tryz.prog Ix where
 mixed:=by kernel_rfl
 f6:=⟨Tryz.f51.name,by decide+kernel,Tryz.func51.trans (congrArg some (by kernel_rfl))⟩
 f14:=⟨Tryz.f76.name,by decide+kernel,Tryz.func76.trans (congrArg some (by kernel_rfl))⟩
 f15:=Tryz.func77.trans (congrArg some (by kernel_rfl))
 f20:=⟨Tryz.f96.name,by decide+kernel,Tryz.func96.trans (congrArg some (by kernel_rfl))⟩
 f21:=⟨Tryz.f97.name,by decide+kernel,Tryz.func97.trans (congrArg some (by kernel_rfl))⟩
 f22:=⟨Tryz.f98.name,by decide+kernel,Tryz.func98.trans (congrArg some (by kernel_rfl))⟩
 f23:=⟨Tryz.f99.name,by decide+kernel,Tryz.func99.trans (congrArg some (by kernel_rfl))⟩
 f24:=⟨Tryz.f100.name,by decide+kernel,Tryz.func100.trans (congrArg some (by kernel_rfl))⟩
 f25:=⟨Tryz.f101.name,by decide+kernel,Tryz.func101.trans (congrArg some (by kernel_rfl))⟩
 f26:=⟨Tryz.f102.name,by decide+kernel,Tryz.func102.trans (congrArg some (by kernel_rfl))⟩
 f27:=⟨Tryz.f103.name,by decide+kernel,Tryz.func103.trans (congrArg some (by kernel_rfl))⟩
 f28:=Tryz.func104.trans (congrArg some (by kernel_rfl))
 f29:=Tryz.func105.trans (congrArg some (by kernel_rfl))
 f46:=⟨Tryz.f112.name,by decide+kernel,Tryz.func112.trans (congrArg some (by kernel_rfl))⟩
 f47:=Tryz.func113.trans (congrArg some (by kernel_rfl))
 f48:=Tryz.func114.trans (congrArg some (by kernel_rfl))
 f49:=⟨Tryz.f115.name,by decide+kernel,Tryz.func115.trans (congrArg some (by kernel_rfl))⟩
 f50:=⟨Tryz.f116.name,by decide+kernel,Tryz.func116.trans (congrArg some (by kernel_rfl))⟩
 f57:=⟨Tryz.f118.name,by decide+kernel,Tryz.func118.trans (congrArg some (by kernel_rfl))⟩
 t0:=Tryz.underlying0
 a0:=Tryz.isAgg0
 z0:=Tryz.sizeOf0
 v0:=Tryz.zeroValue0
 t3:=Tryz.underlying3
 a3:=Tryz.isAgg3
 z3:=Tryz.sizeOf3
 v3:=Tryz.zeroValue3
 t4:=Tryz.underlying4
 a4:=Tryz.isAgg4
 z4:=Tryz.sizeOf4
 v4:=Tryz.zeroValue4
 t5:=Tryz.underlying5
 a5:=Tryz.isAgg5
 z5:=Tryz.sizeOf5
 v5:=Tryz.zeroValue5
 t9:=Tryz.underlying9
 a9:=Tryz.isAgg9
 z9:=Tryz.sizeOf9
 v9:=Tryz.zeroValue9
 t22:=Tryz.underlying104
 a22:=Tryz.isAgg104
 z22:=Tryz.sizeOf104
 v22:=Tryz.zeroValue104
 t25:=Tryz.underlying108
 a25:=Tryz.isAgg108
 z25:=Tryz.sizeOf108
 v25:=Tryz.zeroValue108
 t39:=Tryz.underlying134
 a39:=Tryz.isAgg134
 z39:=Tryz.sizeOf134
 v39:=Tryz.zeroValue134
 t45:=Tryz.underlying167
 a45:=Tryz.isAgg167
 z45:=Tryz.sizeOf167
 v45:=Tryz.zeroValue167
 t46:=Tryz.underlying168
 a46:=Tryz.isAgg168
 z46:=Tryz.sizeOf168
 v46:=Tryz.zeroValue168
 t50:=Tryz.underlying151
 a50:=Tryz.isAgg151
 z50:=Tryz.sizeOf151
 v50:=Tryz.zeroValue151
 t53:=Tryz.underlying159
 a53:=Tryz.isAgg159
 z53:=Tryz.sizeOf159
 v53:=Tryz.zeroValue159
 t55:=Tryz.underlying162
 a55:=Tryz.isAgg162
 z55:=Tryz.sizeOf162
 v55:=Tryz.zeroValue162
 t66:=Tryz.underlying180
 a66:=Tryz.isAgg180
 z66:=Tryz.sizeOf180
 v66:=Tryz.zeroValue180
 t70:=Tryz.underlying178
 a70:=Tryz.isAgg178
 z70:=Tryz.sizeOf178
 v70:=Tryz.zeroValue178
 t76:=Tryz.underlying185
 a76:=Tryz.isAgg185
 z76:=Tryz.sizeOf185
 v76:=Tryz.zeroValue185
 t77:=Tryz.underlying148
 a77:=Tryz.isAgg148
 z77:=Tryz.sizeOf148
 v77:=Tryz.zeroValue148
end Go.Proofs
namespace Go.Proofs
open Go.DM Go.DM.NT
def P2(x y:lZ 3):Int:=dy (gk x) (gk y)
theorem row3(x:lZ 3):∃a b c:Int,x.1=[a,b,c]:=by
 obtain⟨l,hl⟩:=x
 match l,hl with
 |[a,b,c],_=>exact⟨a,b,c,rfl⟩
theorem good_row(x:lZ 3):p9 (gk x):=by
 obtain⟨a,b,c,h⟩:=row3 x;exact⟨a,b,c,by unfold gk;rw[h];rfl⟩
theorem Vj{r:List T}(h:p9 r):∃x:lZ 3,gk x=r:=by
 obtain⟨a,b,c,rfl⟩:=h;exact⟨⟨[a,b,c],rfl⟩,rfl⟩
theorem Dv:∀{D:List (List T)},(∀x∈D,p9 x)->∃E:List (lZ 3),E.map gk=D
 |[],_=>⟨[],rfl⟩
 |r::D,h=>by
  obtain⟨x,hx⟩:=Vj (h r (by simp));obtain⟨E,hE⟩:=Dv λy hy=>h y (ZaW _ hy);exact⟨x::E,by simp[hx,hE]⟩
theorem lt_cfK(x y:lZ 3):ltOf P2 x y=wD dy (gk x) (gk y):=rfl
theorem zw:Go.Sort.SWO (ltOf P2):=
 ⟨λx=>Gc.irrefl _,λx y z=>Gc.trans _ _ _,λx y z=>Gc.ntrans _ _ _⟩
theorem Vk{k:Nat}{x y:lZ k}(h:gk x=gk y):x=y:=by
 apply Subtype.ext;unfold gk at h;have key:∀(l m:List Int),l.map tI=m.map tI->l=m:=by
  intro l;induction l with
  |nil=>intro m h;cases m with
   |nil=>rfl
   |cons b m=>cases h
  |cons a l ih=>intro m h;cases m with
   |nil=>cases h
   |cons b m=>
    simp only[Zau,Za6,T.int.injEq,true_and]at h;rw[h.1,ih m h.2]
 exact key _ _ h
theorem XZ(x y:lZ 3)(h1:ltOf P2 x y=false)(h2:ltOf P2 y x=false):x=y:=by
 rw[lt_cfK]at h1 h2;exact Vk (xJ (good_row x) (good_row y) (XY (by simp[eqv,h1,h2])))
theorem Vl(E:List (lZ 3)):iZ (wD dy) (E.map gk)=(yu P2 E).map gk:=by
 refine GN Gc ?_ λz=>?_
 ·unfold tC;rw[Zci];have h:=List.pairwise_mergeSort (le:=λx y=> !(ltOf P2) y x) (λa b c h1 h2=>by
   simp only[Zbl]at h1 h2⊢;exact zw.ntrans _ _ _ h2 h1) (λa b=>by
   cases e:ltOf P2 b a with
   |false=>rfl
   |true=>
    cases e2:ltOf P2 a b with
    |false=>rfl
    |true=>
     have:=zw.trans _ _ _ e e2;rw[zw.irrefl]at this;cases this) E
  exact h.imp λ{a b} YI=>by rw[Zbl]at YI;exact YI
 ·have hp:((yu P2 E).map gk).Perm (E.map gk):=(List.mergeSort_perm E _).map _;have h1:=hp.filter (eqv (wD dy) z);have dK:∀w∈(E.map gk).filter (eqv (wD dy) z),∀u∈(E.map gk).filter (eqv (wD dy) z),w=u:=by
   intro w hw u hu;rw[ZaO]at hw hu;obtain⟨x,_,rfl⟩:=Zal.1 hw.1;obtain⟨y,_,rfl⟩:=Zal.1 hu.1;exact xJ (good_row x) (good_row y) ((XY hw.2).symm.trans (XY hu.2))
  generalize (E.map gk).filter (eqv (wD dy) z)=l at h1 dK;generalize ((yu P2 E).map gk).filter (eqv (wD dy) z)=l' at h1;apply ZbB h1.length_eq;intro i q1 q2;exact dK _ (h1.subset (Zbi q1)) _ (Zbi q2)
theorem Lm [Laid](x y:lZ 3):aT Tryz.prog 52 [.agg (gk x),.agg (gk y)] (tI (P2 x y)):=by
 obtain⟨a,b,c,h⟩:=good_row x;obtain⟨d,e,f,k⟩:=good_row y;unfold P2;rw[h,k];exact t33 a b c d e f
theorem t32(D:List (List T)){objs:aU}{r ver e:Nat}(fH:objs r=some (.arr ver e 3 D))(cS:∀x∈D,p9 x)(h4:D.length<=oi):
  aY Tryz.prog 51 [.bk r ver,.v (.fn (.func 52) [])] objs ⟨True,.v (.eF []),cZ objs r (.arr ver e 3 (iZ (wD dy) D))⟩:=by
 obtain⟨E,rfl⟩:=Dv cS;rw[Vl];unfold oi at h4;exact GK (k:=3) XX (by omega) (λw=>Tryz.isAgg106 w) (λw=>Tryz.sizeOf106 w) (@Lm Laid.none) zw XZ E fH (by simp at h4;omega)
def k32(good:List T->Prop)(XW:List T->List T->Int):List DV->aU->iw
 |[.bk r ver,.v (.fn (.func c) caps)],objs=>match objs r with
  |some (.arr ver' e sz D)=>⟨ver=ver'/\sz=3/\c=52/\caps=[]/\(∀x∈D,good x)/\D.length<=oi/\D.length<=1000000000,
    .v (.eF []),cZ objs r (.arr ver e 3 (iZ (wD XW) D))⟩
  |_=>⟨False,.undef,objs⟩
 |_,objs=>⟨False,.undef,objs⟩
theorem ok32{l:List (Nat×DM.Spec)}(h:ay Tryz.prog (aW l)):ay Tryz.prog (aW ((51,fa (k32 p9 dy))::l)):=by
 refine ay.gS h ?_;intro args objs h;unfold k32 at h⊢;split at h
 ·split at h
  ·rename_i c caps _ ver' e sz D fH;obtain⟨rfl,rfl,rfl,rfl,h1,h4,h5⟩:=h;refine⟨λN hN=>?_,λk hk=>sk fH hk⟩;simp only[];exact(t32 D fH h1 h4).of rfl rfl
  ·exact h.elim
 ·exact h.elim
end Go.Proofs
namespace Go.Proofs
open Go.DM Go.DM.NT
def k30:List DV->aU->iw
 |[.ptr b 0,.v (.int .i64 i)],objs=>
  ⟨objs b=some (.box (ch (eQ objs b).1 (eQ objs b).2))/\objs (eQ objs b).2=some (bU (xE objs (eQ objs b).2))/\0<=i/\i<=(eQ objs b).1.aj.length/\H2 (eQ objs b).1,.v (.eF []),
   cZ objs (eQ objs b).2 (bU (bS (xE objs (eQ objs b).2) (qA (eQ objs b).1 i.toNat)))⟩
 |_,objs=>⟨False,.undef,objs⟩
theorem k30_eq{objs:aU}{b m:Nat}{x:Input}{al:List bn}{i:Nat}(h:objs b=some (.box (ch x m)))(hm:objs m=some (bU al)):
  k30 [.ptr b 0,.v (ti i)] objs=⟨i<=x.aj.length/\H2 x,.v (.eF []),cZ objs m (bU (bS al (qA x i)))⟩:=by
 simp only[k30,zu h,h,Du hm,hm,Zak,true_and,Int.ofNat_le,Zcg]
abbrev Γ7:Env:=aW [(49,fa k30),(51,fa (k32 p9 dy)),(50,fa XT),(48,u6 pre29 fn29 3 1)]
theorem ok7:ay Tryz.prog Γ7:=by
 refine ay.gS (ok32 (ay.gS (ay.Q0 ay.nil ?_) ?_)) ?_
 ·rintro ts ⟨v,n,rfl,h1,h2⟩;have:=t29 v n h1 h2;simpa [fn29,aB]using this
 ·exact(ok5 50 (fa XT) rfl).st XT rfl
 ·intro args objs h;unfold k30 at h⊢;split at h
  ·rename_i aA b i;obtain⟨hb,hm,h1,h2,h3⟩:=h;obtain⟨i,rfl⟩:=Zad h1;refine⟨λN hN=>?_,λr hr=>sk hm hr⟩;exact aY.of (t30 hN hb hm (by omega) h3) (by simp) (by simp)
  ·exact h.elim
def Vf:List RO:=[
 a 2 5 36 [],
 l 36 37 [0],
 n 6 38,
 o (.bin .mul (i 2) (t 38)) 39 [2],
 n 3 40,
 n 6 41,
 n 4 42,
 o (.callR 50 [(t 40),(t 41),(t 42)]) 43 [4,5,6],
 m 43 35 [7],
 e 0 35 44 [8],
 e 1 35 45 [8],
 x 1 37 39 46 (k [1,3] 9),
 S 1 46 44 (k [11,9,7] 9)]
theorem Vg{objs:aU}{b m:Nat}{x:Input}{i j:Nat}(h:objs b=some (.box (ch x m))):
  wH XT [.ptr b 0,.v (ti i),.v (ti j)] objs=(i<=j/\j<=x.aj.length/\ng x.aj)/\
   (XT [.ptr b 0,.v (ti i),.v (ti j)] (x7 objs [.ptr b 0,.v (ti i),.v (ti j)])).val=.v (.eF [ti (dZ ((x.aj.take j).drop i) 0),.sl (cR (dd (j-i)))]):=by
 have hr:x7 objs [.ptr b 0,.v (ti i),.v (ti j)] b=some (.box (ch x m)):=by simp[x7,bJ,names,h]
 refine⟨?_,by rw[xF hr]⟩;unfold wH;apply propext;constructor
 ·intro H;have:=H objs (λ_ _=>rfl);rw[xF h]at this;exact this.1
 ·intro H o ho;have hb:o b=some (.box (ch x m)):=by rw[ho b (by simp[bJ,names]),h]
  rw[xF hb,xF hr];exact⟨H,rfl,rfl⟩
def uH(x:Input)(y:Nat):List bn:=(List.range y).flatMap (qA x)
theorem Pf(x:Input)(y:Nat):uH x (y+1)=uH x y++qA x y:=by simp[uH,ZaE]
def fA(x:Input)(n y:Nat):List (List T):=(List.range n).map λs=>[ti (if s % 2=0/\s/2<y then fW x (s/2) x.aj.length else 1099511627776)]
theorem Iu(x:Input){n y:Nat}(h:2*y<n):(fA x n y).set (2*y) [ti (fW x y x.aj.length)]=fA x n (y+1):=by
 apply ZbB
 ·simp[fA]
 ·intro k h1 h2;rw[Zca];simp only[fA,Zcm,ZcB];split
  ·rename_i e;subst e;rw[if_pos (by omega),show 2*y/2=y by omega]
  ·rename_i e;by_cases hk:k % 2=0/\k/2<y
   ·rw[if_pos hk,if_pos (by omega)]
   ·rw[if_neg hk,if_neg (by omega)]
theorem Iv(x:Input)(n y:Nat):(fA x n y).length=n:=by simp[fA]
theorem Fs(x:Input)(n:Nat):fA x n 0=List.replicate n [ti 1099511627776]:=by
 apply ZbB
 ·simp[fA]
 ·intro k h1 h2;simp[fA]
theorem sE(a b:aU)(σ:Nat->Nat)(cs qI:List DV):lR a b σ (.box cs) (.box qI)=jz a b σ cs qI:=rfl
theorem sF(a b:aU)(σ:Nat->Nat)(v v' e e' sz fY:Nat)(rows di:List (List T)):lR a b σ (.arr v e sz rows) (.arr v' e' fY di)=(e=e'/\sz=fY/\rows=di):=rfl
theorem rO(a b:aU)(al:List bn):lR a b id (bU al) (bU al):=by
 simp only[bU,lR];exact⟨trivial,trivial,trivial,mP λe he=>by obtain⟨x,hx⟩:=eB al e he;rw[hx];simp⟩
theorem yJ{al:List bn}{e:Nat×T×DV}(h:e∈entries al):∃i,i<al.length/\e=(i,(al.getD i default).key,.v (.agg (al.getD i default).enc)):=by
 obtain⟨i,hi,rfl⟩:=ZaZ h;rw[jD]at hi;refine⟨i,hi, ?_⟩;have:=fz al i;rw[Zan (by rw[jD];exact hi),Zan hi]at this;simp only[Za1,Zaa]at this;rw[this];simp[List.getD,hi]
theorem Ft{al:List bn}{i:Nat}(h:i<al.length):(entries al).find? (λe=>e.1==i)=some (i,(al.getD i default).key,.v (.agg (al.getD i default).enc)):=by
 rw[Zcr];have hg:∀(j:Nat) (hj:j<(entries al).length),(entries al)[j]=(j,(al.getD j default).key,.v (.agg (al.getD j default).enc)):=by
  intro j hj;rw[jD]at hj;have:=fz al j;rw[Zan (by rw[jD];exact hj),Zan hj]at this;simp only[Za1,Zaa]at this;rw[this];simp[List.getD,hj]
 refine⟨by simp,i,by rw[jD];exact h,hg _ _,λj hj=>?_⟩;rw[hg];simp;omega
theorem xH:∀(n:Nat) {l:List Nat},l.Nodup->(∀i∈l,i<n)->l.length<=n
 |0,l,_,h=>by cases l with
  |nil=>simp
  |cons a l=>exact absurd (h a (by simp)) (by omega)
 |n+1,l,hn,h=>by
  by_cases hm:n∈l
  ·have h1:=List.length_erase_of_mem hm;have h2:=xH n (l:=l.erase n) (hn.erase n) (λi hi=>by
    have:=h i (List.mem_of_mem_erase hi);have bG:i≠n:=λe=>by subst e;exact(List.Nodup.not_mem_erase hn) hi
    omega)
   omega
  ·have:=xH n hn (λi hi=>by
    have:=h i hi;have bG:i≠n:=λe=>hm (e▸hi);omega)
   omega
theorem lg(a b:aU)(al:List bn):iO a b id (entries al) (entries al):=mP λe he=>by obtain⟨x,hx⟩:=eB al e he;rw[hx];simp
theorem Pg{α:Type}{f:α->List T}{l:List α}{y:Nat}{a:α}(h:y<l.length)(ha:l[y]=a):(l.take (y+1)).map f=(l.take y).map f++[f a]:=by
 rw[Zbw,Zan h,ha];simp
def jM(x:Input):List bn:=bS [] (uH x (x.aj.length+1))
def wE(x:Input):List Int:=(List.range (2*x.aj.length+1)).map λs=>if s % 2=0 then fW x (s/2) x.aj.length else 1099511627776
def iS(x:Input):aM:=⟨2*x.aj.length+1,ja (jM x),wE x⟩
theorem Iw(x:Input):fA x (2*x.aj.length+1) (x.aj.length+1)=aB (wE x):=by
 simp only[fA,wE,aB,ZcL];apply Zbq;intro s hs;simp only[ZaQ]at hs;by_cases h:s % 2=0
 ·simp only[Function.comp_apply,h,if_true,true_and];rw[if_pos (by omega)]
 ·simp[h]
@[simp] theorem isMap_mapOb(al:List bn):isMap (some (bU al)):=by simp[isMap,bU]
theorem t12(x:Input)(hx:H2 x)(GJ:(jM x).length<=oi)(kv:(jM x).length<=1000000000):aT Tryz.prog 32 [x.enc] (iS x).enc:=by
 have aw:=ok7;have hl:=hx.1.1;refine c12.ok (by simp) (aJ ?_);simp[Input.enc];refine aa.ab aw fw [1,2] ?_;simp[d12r0];refine aa.ab aw fw [1,2,3] ?_;simp[d12r1];refine aa.ab aw fw [2,3,4] ?_;simp[d12r2];obtain⟨n2,O5⟩:∃n,2*x.aj.length+1=n:=⟨_,rfl⟩;have w1:IntKind.i64.wrap (2*(x.aj.length:Int))=2*x.aj.length:=au (by omega);have w2:IntKind.i64.wrap (2*(x.aj.length:Int)+1)=(n2:Int):=by rw[au (by omega)];omega
 refine aa.iD aw fw (rs:=K3) (.inr ⟨_,rfl⟩) (by kernel_rfl) [2,3,4,5] ?_;simp[K3,w1,w2,pre29,fn29,chunk];refine⟨⟨1099511627776,n2,⟨rfl,rfl⟩,by omega,by omega⟩, ?_⟩;obtain⟨n,hn⟩:∃n,x.aj.length=n:=⟨_,rfl⟩;rw[hn]at O5 hl;refine aa.seq ?_;have w3:IntKind.i64.wrap ((n:Int)+1)=((n+1:Nat):Int):=by rw[au (by omega)];omega
 refine aa.ab aw fw [2,3,4,5,28,29] ?_;simp[d12r4,hn,w3];obtain⟨n1,P1⟩:∃n1,n+1=n1:=⟨_,rfl⟩;rw[show((n:Int)+1)=(n1:Int)by omega];refine aa.to ⟨DM.look [(2,.ptr 1003 0),(3,.ptr 1098 0),(5,.ptr 1255 0)],cA [(1003,.box [.v (ti 0),.aI,.aI]),(1098,.box (ch x 1096)),(1096,bU (bS [] (uH x n1))),(1255,.box [.v (ti n2),.aI,.bk 1275 0]),(1275,.arr 0 3 1 (fA x n2 n1))],3000,1000,[]⟩ ?_ ?_
 ·refine aa.block ?_;refine aa.loop (λy:Nat=>⟨DM.look [(2,.ptr 1003 0),(3,.ptr 1098 0),(4,.v (ti n)),(5,.ptr 1255 0),(28,.v (ti n1)),(29,.v (ti y))],cA [(1003,.box [.v (ti 0),.aI,.aI]),(1098,.box (ch x 1096)),(1096,bU (bS [] (uH x y))),(1255,.box [.v (ti n2),.aI,.bk 1275 0]),(1275,.arr 0 3 1 (fA x n2 y))],3000,1000,[]⟩)
   (λy=>y<=n1) (λy=>n1-y) 0 (Le.aC ?_ ?_ ?_ ?_) (by simp) (λy hy=>?_)
  ·simp
  ·simp[]
  ·simp[ch,bU,entries,uH,bS,Fs,nP,iO,isMap]
  ·simp
  refine aa.ab aw fw [2,3,4,5,28,29,30] ?_;simp[d12r5];refine aa.seq ?_;refine aa.cond rfl (λbM=>?_) (λbM=>?_)
  ·simp at bM;refine aa.skip ?_;simp;refine aa.seq ?_;refine aa.block ?_;refine aa.ab aw fw [2,3,4,5,6,28,29] ?_;simp[d12r6];refine aa.iD aw fw (rs:=K4) (.inr ⟨_,rfl⟩) (by kernel_rfl) [2,3,4,5,6,28,29] ?_;simp[K4,k30_eq (x:=x) (m:=1096) (al:=bS [] (uH x y))];refine⟨⟨by omega,hx⟩, ?_⟩;obtain⟨Jr,xG⟩:∃l,bS (bS [] (uH x y)) (qA x y)=l:=⟨_,rfl⟩;have hal2':bS [] (uH x (y+1))=Jr:=by rw[Pf,fF,xG]
   rw[xG,im];refine aa.le (Le.aC (o:=[(1003,.box [.v (ti 0),.aI,.aI]),(1098,.box (ch x 1096)),(1096,bU Jr),(1255,.box [.v (ti n2),.aI,.bk 1275 0]),(1275,.arr 0 3 1 (fA x n2 y))]) (l:=[(2,.ptr 1003 0),(3,.ptr 1098 0),(4,.v (ti n)),(5,.ptr 1255 0),(6,.v (ti y)),(28,.v (ti n1)),(29,.v (ti y))]) (nxt':=4000) ?_ ?_ ?_ ?_) ?_
   ·simp
   ·simp
   ·simp[-lR,sE,sF,rO,ch,nP]
   ·simp
   have hyn:y<=n:=by omega
   have w4:IntKind.i64.wrap (2*(y:Int))=((2*y:Nat):Int):=by rw[au (by omega)];omega
   obtain⟨y2,fl⟩:∃y2,2*y=y2:=⟨_,rfl⟩;rw[fl]at w4;have sZ:y2<n2:=by omega
   have hdc:dZ ((x.aj.take n).drop y) 0=fW x y n:=rfl;have Gt:DM.rowAt (fA x n2 y) (y2:Int)=[ti 1099511627776]:=by
    have e:(2*(y:Int)).toNat=y2:=by omega
    subst fl;simp[DM.rowAt,fA,e,sZ]
   have wi:=Iu x (n:=n2) (y:=y) (by omega);rw[fl,hn]at wi;have hd:=hx.1;refine aa.tO aw fw (rs:=Vf) (.inr ⟨_,rfl⟩) (by kernel_rfl) [2,3,4,5,28,29] ?_;simp[Vf,Vg (x:=x) (m:=1096),hn,w4,hd,hyn,Iv,sZ,hdc,Gt,wi];refine aa.dp aw fw [2,3,4,5,28,29] ?_;simp[d12r9];rw[au (by omega)];refine⟨y+1,Le.aC ?_ ?_ ?_ ?_,by omega,by omega⟩
   ·simp
   ·simp
   ·simp[-lR,sE,sF,rO,ch,nP,hal2']
   ·simp
  ·simp at bM;have:y=n1:=by omega
   subst this;refine aa.exit ⟨rfl,Le.aC ?_ ?_ ?_ ?_⟩
   ·simp
   ·simp
   ·simp[-lR,sE,sF,rO,ch,nP]
   ·simp
 ·obtain⟨al,kl⟩:∃l,bS [] (uH x n1)=l:=⟨_,rfl⟩;obtain⟨fr,wi⟩:∃l,fA x n2 n1=l:=⟨_,rfl⟩;rw[kl,wi];refine aa.ab aw fw [2,3,5,7] ?_;simp[Uc];refine aa.seq ?_;refine aa.ab aw fw [2,3,5,7,52] ?_;simp[Ud,ch,bU];refine aa.le (Le.l8 (k:=7) 106 (sz:=3) (by omega) (by simp)) ?_;rw[im];refine aa.block ?_;refine aa.loop (λsn:List Nat=>⟨DM.look [(2,.ptr 1003 0),(3,.ptr 1098 0),(5,.ptr 1255 0),(7,.bk 3166 0),(52,.iter 3136)],cA [(1003,.box [.v (ti 0),.aI,.aI]),(1098,.box (ch x 1096)),(1096,bU al),(1255,.box [.v (ti n2),.aI,.bk 1275 0]),(1275,.arr 0 3 1 fr),(3166,.arr 0 106 3 (sn.map λi=>bW (al.getD i default))),(3136,.iter 1096 al.length sn al.length)],4000,1000,[]⟩)
   (λsn=>sn.Nodup/\∀i∈sn,i<al.length) (λsn=>al.length-sn.length) [] (Le.aC ?_ ?_ ?_ ?_) (by simp) (λsn hs=>?_)
  ·simp
  ·simp
  ·simp[-lR,sE,sF,ch,nP];simp[lR,bU,isMap];exact mP λe he=>by obtain⟨x,hx⟩:=eB al e he;rw[hx];simp
  ·simp[Q4,Az]
  obtain⟨Kf,N9⟩:=hs;refine aa.seq ?_;refine aa.next (r:=3136) (m:=1096) (s:=al.length) (l:=al.length) (c:=al.length) (sn:=sn) (shs:=kq) (agg:=true) (es:=entries al) (by simp) (by simp) (by simp[bU]) (λe he=>?_) (Zae _) (λQS=>?_) (λe he bG=>?_)
  ·obtain⟨i,hi,rfl⟩:=yJ he;exact hi
  ·simp;have hp:=Ph Kf N9 λi hi=>QS _ (Zaq (by rw[fz,Zan hi];rfl:(entries al)[i]? =some (i,al[i].key,.v (.agg al[i].enc))));have hgood:∀r∈sn.map (λi=>bW (al.getD i default)),p9 r:=by
    intro r hr;obtain⟨i,_,rfl⟩:=Zal.1 hr;exact⟨_,_,_,rfl⟩
   have hlen:(sn.map (λi=>bW (al.getD i default))).length=al.length:=by rw[hp.length_eq];simp
   have y7:(al.map bW).Nodup:=by rw[<-kl];exact uI _ (by simp)
   have XP:iZ (wD dy) (sn.map (λi=>bW (al.getD i default)))=iZ (wD dy) (al.map bW):=Lj hp (λr hr=>by
    obtain⟨a,_,rfl⟩:=Zal.1 hr;exact⟨_,_,_,rfl⟩) y7
   have XU:jM x=al:=by unfold jM;rw[hn,P1,kl]
   rw[XU]at GJ kv;rw[<-hlen]at GJ kv;obtain⟨rows,cS⟩:∃r,sn.map (λi=>bW (al.getD i default))=r:=⟨_,rfl⟩;have hrows':sn.map (λi=>bW (al[i]?.getD default))=rows:=cS;rw[cS]at GJ kv hgood XP hlen;rw[hrows'];refine aa.seq ?_;refine aa.cond rfl (λh=>by cases h) (λ_=>?_);refine aa.exit ?_;simp;refine aa.iD aw fw (rs:=Fe) (.inr ⟨_,rfl⟩) (by kernel_rfl) [2,3,5,7] ?_;simp[Fe,k32,XP,GJ,kv];refine⟨hgood, ?_⟩;obtain⟨ks,hks⟩:∃ks,iZ (wD dy) (al.map bW)=ks:=⟨_,rfl⟩;have hksl:ks.length=al.length:=by rw[<-hks,uK];simp
   have hksm:∀r∈ks,∃a∈al,bW a=r:=by
    intro r hr;rw[<-hks,rZ]at hr;obtain⟨a,ha,rfl⟩:=Zal.1 hr;exact⟨a,ha,rfl⟩
   rw[hks,im];refine aa.le (Le.aC (o:=[(1003,.box [.v (ti 0),.aI,.aI]),(1098,.box (ch x 1096)),(1096,bU al),(1255,.box [.v (ti n2),.aI,.bk 1275 0]),(1275,.arr 0 3 1 fr),(3166,.arr 0 106 3 ks)]) (l:=[(2,.ptr 1003 0),(3,.ptr 1098 0),(5,.ptr 1255 0),(7,.bk 3166 0)]) (nxt':=4500) ?_ ?_ ?_ ?_) ?_
   ·simp
   ·simp
   ·simp[ch,nP,isMap,lg,bU]
   ·simp
   refine aa.le (Le.MM 1255 1 77 (sz:=5) (cs:=[.v (ti n2),.aI,.bk 1275 0]) (by omega) (by simp) (by simp)) ?_;rw[im,im];refine aa.seq ?_;refine aa.ab aw fw [2,3,5,63,64,65] ?_;simp[Ug,hksl];refine aa.to ⟨DM.look [(2,.ptr 1003 0),(5,.ptr 1255 0)],cA [(1003,.box [.v (ti 0),.aI,.aI]),(1255,.box [.v (ti n2),.bk 4500 0,.bk 1275 0]),(1275,.arr 0 3 1 fr),(4500,.arr 0 77 5 (ba (ja al)))],6000,1000,[]⟩ ?_ ?_
   ·refine aa.block ?_;refine aa.loop (λy:Nat=>⟨DM.look [(2,.ptr 1003 0),(3,.ptr 1098 0),(5,.ptr 1255 0),(63,.bk 3166 0),(64,.v (ti al.length)),(65,.v (ti y))],cA [(1003,.box [.v (ti 0),.aI,.aI]),(1098,.box (ch x 1096)),(1096,bU al),(1255,.box [.v (ti n2),.bk 4500 0,.bk 1275 0]),(1275,.arr 0 3 1 fr),(3166,.arr 0 106 3 ks),(4500,.arr 0 77 5 (ba ((ks.take y).map (og al))))],6000,1000,[]⟩)
     (λy=>y<=al.length) (λy=>al.length-y) 0 (Le.aC ?_ ?_ ?_ ?_) (by simp) (λy hy=>?_)
    ·simp
    ·simp
    ·simp[ch,nP,isMap,lg,bU,ba]
    ·simp
    refine aa.ab aw fw [2,3,5,63,64,65,66] ?_;simp[Uh];refine aa.seq ?_;refine aa.cond rfl (λbM=>?_) (λbM=>?_)
    ·simp at bM;refine aa.skip ?_;simp;refine aa.seq ?_;refine aa.block ?_;obtain⟨r,hr⟩:∃r,ks[y]'(by omega)=r:=⟨_,rfl⟩;obtain⟨a,ha,hak⟩:=hksm r (by rw[<-hr];exact Zbi _);have lW:DM.rowAt ks y=bW a:=by rw[hak,<-hr];simp[DM.rowAt,hksl,bM]
     obtain⟨l1,l2,i,l3⟩:=rY ha;have htake:=Pg (f:=λr=>(og al r).enc) (by omega) hr;obtain⟨c,hc⟩:∃c,og al (bW a)=c:=⟨_,rfl⟩;rw[hc]at l3;rw[<-hak,hc]at htake;have htake':ba (List.take (y+1) (List.map (og al) ks))=ba (List.take y (List.map (og al) ks))++[[ti c.f,ti c.t,ti c.term,ti c.cost,.sl (cR c.ops)]]:=by
      have:=htake;simp only[ba,List.map_take,ZcL]at this⊢;exact this
     simp only[bn.key,keyOf]at l3;refine aa.ab aw fw [2,3,5,10,63,64,65] ?_;simp[Ui,lW,hksl,bM,bW];refine aa.dp aw fw [2,3,5,63,64,65] ?_;simp[Uj,ch,bU,l3,bn.enc,cG,chunk];refine⟨⟨by omega,by omega⟩, ?_⟩;refine aa.dp aw fw [2,3,5,63,64,65] ?_;simp[Uk];rw[au (by omega)];refine⟨y+1,Le.aC ?_ ?_ ?_ ?_,by omega,by omega⟩
     ·simp
     ·simp
     ·simp[nP,isMap,lg,htake']
     ·simp
    ·simp at bM;have:y=al.length:=by omega
     subst this;refine aa.exit ⟨rfl,Le.aC ?_ ?_ ?_ ?_⟩
     ·simp
     ·simp
     ·simp[ja,hks];rw[Za3 (by simp;omega)]
     ·simp
   ·refine aa.ab aw fw [2] ?_;simp[Ul];refine aa.ret ?_;have mE:fr=aB (wE x):=by rw[<-wi,<-P1,<-O5,<-hn];exact Iw x
    simp[Um,iS,aM.enc,XU,mE,hn];omega
  ·obtain⟨i,hi,rfl⟩:=yJ he;have hfind:=Ft hi;obtain⟨a,ha⟩:∃a,al.getD i default=a:=⟨_,rfl⟩;rw[ha]at hfind;simp only at bG;simp;refine aa.seq ?_;refine aa.cond rfl (λ_=>?_) (λh=>by cases h);refine aa.skip ?_;simp;refine aa.block ?_;refine aa.ab aw fw [2,3,5,7,8,52] ?_;simp[Ue,bU,hfind,bn.key,keyOf];refine aa.dp aw fw [2,3,5,7,52] ?_;simp[Uf,cG,chunk];have hlen:=xH al.length (l:=i::sn) (by simp[bG,Kf]) (by simp;exact⟨hi,N9⟩);simp at hlen;have XU:jM x=al:=by unfold jM;rw[hn,P1,kl]
   rw[XU]at kv;have ha':al[i]?.getD default=a:=ha;refine⟨⟨by omega,by omega⟩,sn++[i],Le.aC ?_ ?_ ?_ ?_,⟨?_, ?_⟩, ?_⟩
   ·simp
   ·simp
   ·simp[ch,nP,isMap,lg,ha',bW]
   ·simp[Q4,Az]
   ·rw[ZbP];exact⟨Kf,by simp,by simp;intro q hq e;subst e;exact bG hq⟩
   ·intro j hj;rw[Zao,Zah]at hj;rcases hj with h|h
    ·exact N9 j h
    ·omega
   ·simp;omega
end Go.Proofs
namespace Go.Proofs
open Go.DM Go.DM.NT
end Go.Proofs
