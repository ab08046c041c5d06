/- Part of the proof. Conditions: none. -/
import Derived.Test.YtljcdomdjgolkaaGreatDoorXae
import Derived.Test.YtljcdomdjgolkaaGreatDoorXad
import Derived.Test.YtljcdomdjgolkaaGreatDoorXac
import Derived.KernelRfl
import Derived.Shelf.SlSortCmp.NoneTotal
import Derived.Test.YtljcdomdjgolkaaGreatDoorProg
set_option linter.unusedSectionVars false
set_option linter.unusedSimpArgs false
set_option linter.unusedVariables false
set_option maxHeartbeats 16000000
set_option maxRecDepth 100000
namespace Go.Proofs
open Go.DM
def nJ(c:bD)(t:Nat):Prop:=¬(((t:Int)=c.kind/\c.read.getD t default≠0)\/((t:Int)≠c.kind/\c.read.getD t default≠-1/\(c.read.getD t default<1\/c.read.getD t default>60000)))
def zj(c:bD)(aV:Int):Prop:=(¬(c.kind< -1\/c.kind>=aV\/(c.read.length:Int)≠aV\/c.delete<1\/(c.delete>60000/\c.delete≠1099511627776)))/\∀t,t<aV.toNat->nJ c t
instance(c:bD)(t:Nat):Decidable (nJ c t):=by unfold nJ;infer_instance
instance(c:bD)(aV:Int):Decidable (zj c aV):=by unfold zj;infer_instance
def nz(l:List bD)(aV:Int):Prop:=∀i,i<l.length->zj (l.getD i default) aV
instance(l:List bD)(aV:Int):Decidable (nz l aV):=by unfold nz;infer_instance
def Ep(l:List Int)(t:Nat):Prop:=¬(l.getD t default<1\/l.getD t default>60000)
instance(l:List Int)(t:Nat):Decidable (Ep l t):=by unfold Ep;infer_instance
def DD(x:Input)(aV:Int):Prop:=(¬(aV<0\/(x.aj.length:Int)>60\/(x.insert.length:Int)≠aV\/x.swap<0\/x.swap>60000\/¬nz x.aj aV))/\∀t,t<aV.toNat->Ep x.insert t
instance(x:Input)(aV:Int):Decidable (DD x aV):=by unfold DD;infer_instance
def mE(x:Input)(tokens:Int):Prop:=((x.aj.length:Int)<=tokens/\(x.insert.length:Int)<=5)/\DD x x.insert.length
instance(x:Input)(tokens:Int):Decidable (mE x tokens):=by unfold mE;infer_instance
theorem t58(c:bD)(aV:Int)(h:aV<=1000000000000):aT Tryz.prog 65 [.agg c.enc,ti aV] (.bool (decide (zj c aV))):=by
 have aw:=okE;obtain⟨v,hv⟩:∃v,decide (zj c aV)=v:=⟨_,rfl⟩;rw[hv];have bad:¬zj c aV->v=false:=λh=>by rw[<-hv];simp[h]
 have c6:zj c aV↔(¬(c.kind< -1\/c.kind>=aV\/(c.read.length:Int)≠aV\/c.delete<1\/(c.delete>60000/\c.delete≠1099511627776)))/\∀t,t<aV.toNat->nJ c t:=Iff.rfl;refine c58.ok (by simp) (aK ?_);simp[bD.enc];refine aa.ab aw fw [1,2] ?_;simp[Ih];refine aa.le (Le.aD (o:=[]) (l:=[(1,.v (ti aV)),(2,.v (.box [ti c.kind,.sl (aC c.read),ti c.delete]))]) (nxt':=1200) ?_ ?_ ?_ ?_) ?_;iterate 4(·simp)
 refine aa.seq ?_;obtain⟨b,hb⟩:∃b:Bool,decide (c.kind< -1\/c.kind>=aV\/(c.read.length:Int)≠aV\/c.delete<1\/(c.delete>60000/\c.delete≠1099511627776))=b:=⟨_,rfl⟩;refine aa.b7 aw fw [(1,.v (ti aV)),(2,.v (.box [ti c.kind,.sl (aC c.read),ti c.delete])),(37,.v (.bool b))] ?_ ?_
 ·by_cases q1:c.kind< -1
  ·have mO:b=true:=by rw[<-hb];simp[q1]
   simp[tB,q1,mO]
  ·by_cases q2:aV<=c.kind
   ·have mO:b=true:=by rw[<-hb];simp[q2]
    simp[tB,q1,q2,mO]
   ·by_cases q3:(c.read.length:Int)=aV
    ·by_cases q4:c.delete<1
     ·have mO:b=true:=by rw[<-hb];simp[q4]
      simp[tB,q1,q2,q3,q4,mO]
     ·by_cases q5:60000<c.delete
      ·by_cases q6:c.delete=1099511627776
       ·have mO:b=false:=by rw[<-hb];simp only[decide_eq_false_iff_not];omega
        simp[tB,q1,q2,q3,q4,q5,q6,mO]
       ·have mO:b=true:=by rw[<-hb];simp[q5,q6]
        simp[tB,q1,q2,q3,q4,q5,q6,mO]
      ·have mO:b=false:=by rw[<-hb];simp only[decide_eq_false_iff_not];omega
       simp[tB,q1,q2,q3,q4,q5,mO]
    ·have mO:b=true:=by rw[<-hb];simp[q3]
     simp[tB,q1,q2,q3,mO]
 refine aa.cond rfl (λh=>?_) (λh=>?_)
 ·rw[h]at hb;simp only[decide_eq_true_eq]at hb;refine aa.ab aw fw [4] ?_;simp[NL];refine aa.ret ?_;rw[bad λe=>(c6.1 e).1 hb];simp[rW]
 rw[h]at hb;simp only[decide_eq_false_iff_not]at hb;obtain⟨n,hn⟩:∃n,c.read.length=n:=⟨_,rfl⟩;have hnt:aV=(n:Int):=by omega
 subst hnt;refine aa.skip ?_;simp;refine aa.seq ?_;refine aa.ab aw fw [1,2,5] ?_;simp[DB];refine aa.block ?_;refine aa.loop (λy:Nat=>⟨DM.look [(1,.v (ti n)),(2,.v (.box [ti c.kind,.sl (aC c.read),ti c.delete])),(5,.v (ti y))],cE [],2000,1000,[]⟩)
  (λy=>y<=n/\∀t,t<y->nJ c t) (λy=>n-y) 0 (Le.aD (o:=[]) ?_ ?_ ?_ ?_) (by simp) (λy hy=>?_)
 iterate 4(·simp)
 obtain⟨jV,fg⟩:=hy;refine aa.seq ?_;refine aa.ab aw fw [1,2,5,40] ?_;simp[afw];refine aa.cond rfl (λbK=>?_) (λbK=>?_)
 ·simp at bK;have Qv:y<c.read.length:=by omega
  have r1:=cR Qv;obtain⟨u,hu⟩:∃u,c.read.getD y default=u:=⟨_,rfl⟩;rw[hu]at r1;have jW:nJ c y↔¬(((y:Int)=c.kind/\u≠0)\/((y:Int)≠c.kind/\u≠-1/\(u<1\/u>60000))):=by unfold nJ;rw[hu]
  obtain⟨kd,hkd⟩:∃k,c.kind=k:=⟨_,rfl⟩;rw[hkd]at jW⊢;refine aa.skip ?_;simp;refine aa.seq ?_;refine aa.block ?_;refine aa.ab aw fw [1,2,5,6] ?_;simp[afx,r1,Qv];obtain⟨b2,kp⟩:∃b:Bool,decide (((y:Int)=kd/\u≠0)\/((y:Int)≠kd/\u≠-1/\(u<1\/u>60000)))=b:=⟨_,rfl⟩;refine aa.b7 aw fw [(1,.v (ti n)),(2,.v (.box [ti kd,.sl (aC c.read),ti c.delete])),(5,.v (ti y)),(73,.v (.bool b2))] ?_ ?_
  ·by_cases q1:(y:Int)=kd
   ·by_cases q2:u=0
    ·have mO:b2=false:=by rw[<-kp];simp[q1,q2]
     simp[BN,q1,q2,mO]
    ·have mO:b2=true:=by rw[<-kp];simp[q1,q2]
     simp[BN,q1,q2,mO]
   ·by_cases q2:u= -1
    ·have mO:b2=false:=by rw[<-kp];simp[q1,q2]
     simp[BN,q1,q2,mO]
    ·by_cases q3:u<1
     ·have mO:b2=true:=by rw[<-kp];simp[q1,q2,q3]
      simp[BN,q1,q2,q3,mO]
     ·by_cases q4:60000<u
      ·have mO:b2=true:=by rw[<-kp];simp[q1,q2,q4]
       simp[BN,q1,q2,q3,q4,mO]
      ·have mO:b2=false:=by rw[<-kp];simp only[decide_eq_false_iff_not];omega
       simp[BN,q1,q2,q3,q4,mO]
  refine aa.cond rfl (λh=>?_) (λh=>?_)
  ·rw[h]at kp;simp only[decide_eq_true_eq]at kp;refine aa.ab aw fw [4] ?_;simp[afy];refine aa.ret ?_;rw[bad λe=>jW.1 ((c6.1 e).2 y (by simpa using bK)) kp];simp[rW]
  ·rw[h]at kp;simp only[decide_eq_false_iff_not]at kp;refine aa.skip ?_;simp;refine aa.dc aw fw [1,2,5] ?_;simp[afz];rw[au (by omega)];refine⟨y+1,Le.aD (o:=[]) ?_ ?_ ?_ ?_,⟨by omega,λi hi=>?_⟩,by omega⟩;iterate 4(·simp)
   ·by_cases e:i=y
    ·subst e;exact jW.2 kp
    ·exact fg i (by omega)
 simp at bK;refine aa.exit ?_;simp;refine aa.ab aw fw [4] ?_;simp[afA];refine aa.ret ?_;have:v=true:=by
  rw[<-hv,decide_eq_true_eq];exact c6.2 ⟨by omega,λi hi=>fg i (by simp at hi;omega)⟩
 rw[this];simp[rW]
abbrev spec58:DM.Spec:=cz (λts=>∃(c:bD) (t:Int),ts=[.agg c.enc,ti t]/\t<=1000000000000) (fun|[.agg c,.int _ t]=>.bool (decide (zj (BO c) t))|_=>.bool false) true
theorem ok58:ay Tryz.prog (aW [(65,spec58)]):=by
 refine ay.cons ay.nil ?_;rintro ts ⟨c,t,rfl,h⟩;exact⟨by simpa using t58 c t h,λ_=>rfl⟩
theorem t45(l:List bD)(aV:Int)(h1:l.length<=1000000000000)(h2:aV<=1000000000000):aT Tryz.prog 43 [.sl (ba l),ti aV] (.bool (decide (nz l aV))):=by
 have aw:=ok58;obtain⟨v,hv⟩:∃v,decide (nz l aV)=v:=⟨_,rfl⟩;rw[hv];have bad:¬nz l aV->v=false:=λh=>by rw[<-hv];simp[h]
 refine c45.ok (by simp) (aK ?_);simp;refine aa.ab aw fw [0,1] ?_;simp[Hs];refine aa.seq ?_;refine aa.ab aw fw [0,1,5] ?_;simp[Ba];refine aa.block ?_;refine aa.loop (λj:Nat=>⟨DM.look [(0,.v (.sl (ba l))),(1,.v (ti aV)),(5,.v (ti j))],cE [],2000,1000,[]⟩)
  (λj=>j<=l.length/\∀i,i<j->zj (l.getD i default) aV) (λj=>l.length-j) 0 (Le.aD (o:=[]) ?_ ?_ ?_ ?_) (by simp) (λj hj=>?_)
 iterate 4(·simp)
 obtain⟨jV,fg⟩:=hj;refine aa.seq ?_;refine aa.ab aw fw [0,1,5,9] ?_;simp[Ht];refine aa.cond rfl (λbK=>?_) (λbK=>?_)
 ·simp at bK;have r1:=dR bK;refine aa.skip ?_;simp;refine aa.seq ?_;refine aa.block ?_;obtain⟨u,hu⟩:∃u,l.getD j default=u:=⟨_,rfl⟩;rw[hu]at r1;refine aa.ab aw fw [0,1,5,18] ?_;obtain⟨a,b,c⟩:=u;simp[Hu,bK,r1,bD.enc];rw[show BO [ti a,T.sl (aC b),ti c]=⟨a,b,c⟩from BP ⟨a,b,c⟩];refine⟨⟨⟨a,b,c⟩,aV,⟨⟨rfl,rfl,rfl⟩,rfl⟩,h2⟩, ?_⟩;refine aa.cond rfl (λh=>?_) (λh=>?_)
  ·simp at h;refine aa.ab aw fw [4] ?_;simp[Hv];refine aa.ret ?_;rw[bad λe=>h (by have:=e j bK;rw[hu]at this;exact this)];simp[uh]
  ·simp at h;refine aa.skip ?_;simp;refine aa.dc aw fw [0,1,5] ?_;simp[afu];rw[au (by omega)];refine⟨j+1,Le.aD (o:=[]) ?_ ?_ ?_ ?_,⟨by omega,λi hi=>?_⟩,by omega⟩;iterate 4(·simp)
   ·by_cases e:i=j
    ·subst e;show zj (l.getD i default) aV;rw[hu];exact h
    ·exact fg i (by omega)
 simp at bK;refine aa.exit ?_;simp;refine aa.ab aw fw [4] ?_;simp[afv];refine aa.ret ?_;have:v=true:=by
  rw[<-hv,decide_eq_true_eq];exact λi hi=>fg i (by omega)
 rw[this];simp[uh]
abbrev spec45:DM.Spec:=cz (λts=>∃(l:List bD) (t:Int),ts=[.sl (ba l),ti t]/\l.length<=1000000000000/\t<=1000000000000) (fun|[.sl c,.int _ t]=>.bool (decide (nz (fL c) t))|_=>.bool false) true
theorem ok45:ay Tryz.prog (aW [(43,spec45)]):=by
 refine ay.cons ay.nil ?_;rintro ts ⟨c,t,rfl,h1,h2⟩;exact⟨by simpa using t45 c t h1 h2,λ_=>rfl⟩
theorem t28(x:Input)(aV:Int)(ht:aV<=1000000000000):aT Tryz.prog 21 [x.enc,ti aV] (.bool (decide (DD x aV))):=by
 have aw:=ok45;obtain⟨v,hv⟩:∃v,decide (DD x aV)=v:=⟨_,rfl⟩;rw[hv];have bad:¬DD x aV->v=false:=λh=>by rw[<-hv];simp[h]
 have c6:DD x aV↔(¬(aV<0\/(x.aj.length:Int)>60\/(x.insert.length:Int)≠aV\/x.swap<0\/x.swap>60000\/¬nz x.aj aV))/\∀t,t<aV.toNat->Ep x.insert t:=Iff.rfl;refine c28.ok (by simp) (aK ?_);simp[Input.enc];refine aa.ab aw fw [1,2] ?_;simp[afn];refine aa.le (Le.aD (o:=[]) (l:=[(1,.v (ti aV)),(2,.v (.box [.sl (ba x.aj),.sl (aC x.insert),ti x.swap]))]) (nxt':=1200) ?_ ?_ ?_ ?_) ?_;iterate 4(·simp)
 refine aa.seq ?_;obtain⟨b,hb⟩:∃b:Bool,decide (aV<0\/(x.aj.length:Int)>60\/(x.insert.length:Int)≠aV\/x.swap<0\/x.swap>60000\/¬nz x.aj aV)=b:=⟨_,rfl⟩;refine aa.b7 aw fw [(1,.v (ti aV)),(2,.v (.box [.sl (ba x.aj),.sl (aC x.insert),ti x.swap])),(37,.v (.bool b))] ?_ ?_
 ·by_cases q1:aV<0
  ·have mO:b=true:=by rw[<-hb];simp[q1]
   simp[yW,q1,mO]
  ·by_cases q2:60<(x.aj.length:Int)
   ·have mO:b=true:=by rw[<-hb];simp[q2]
    simp[yW,q1,q2,mO]
   ·by_cases q3:(x.insert.length:Int)=aV
    ·by_cases q4:x.swap<0
     ·have mO:b=true:=by rw[<-hb];simp[q4]
      simp[yW,q1,q2,q3,q4,mO]
     ·by_cases q5:60000<x.swap
      ·have mO:b=true:=by rw[<-hb];simp[q5]
       simp[yW,q1,q2,q3,q4,q5,mO]
      ·by_cases q6:nz x.aj aV
       ·have mO:b=false:=by rw[<-hb];simp only[decide_eq_false_iff_not];rintro(h|h|h|h|h|h)<;>first|omega|exact h q6
        simp[yW,q1,q2,q3,q4,q5,q6,mO];exact⟨x.aj,aV,⟨rfl,rfl⟩,by omega,ht⟩
       ·have mO:b=true:=by rw[<-hb];simp[q6]
        simp[yW,q1,q2,q3,q4,q5,q6,mO];exact⟨x.aj,aV,⟨rfl,rfl⟩,by omega,ht⟩
    ·have mO:b=true:=by rw[<-hb];simp[q3]
     simp[yW,q1,q2,q3,mO]
 refine aa.cond rfl (λh=>?_) (λh=>?_)
 ·rw[h]at hb;simp only[decide_eq_true_eq]at hb;refine aa.ab aw fw [4] ?_;simp[afo];refine aa.ret ?_;rw[bad λe=>(c6.1 e).1 hb];simp[FM]
 rw[h]at hb;simp only[decide_eq_false_iff_not]at hb;have Xv:(x.insert.length:Int)=aV:=by
  by_cases e:(x.insert.length:Int)=aV
  ·exact e
  ·exact absurd (.inr (.inr (.inl e))) hb
 obtain⟨n,hn⟩:∃n,x.insert.length=n:=⟨_,rfl⟩;rw[hn]at Xv;subst Xv;refine aa.skip ?_;simp;refine aa.seq ?_;refine aa.ab aw fw [1,2,5] ?_;simp[afp];refine aa.block ?_;refine aa.loop (λy:Nat=>⟨DM.look [(1,.v (ti n)),(2,.v (.box [.sl (ba x.aj),.sl (aC x.insert),ti x.swap])),(5,.v (ti y))],cE [],2000,1000,[]⟩)
  (λy=>y<=n/\∀t,t<y->Ep x.insert t) (λy=>n-y) 0 (Le.aD (o:=[]) ?_ ?_ ?_ ?_) (by simp) (λy hy=>?_)
 iterate 4(·simp)
 obtain⟨jV,fg⟩:=hy;refine aa.seq ?_;refine aa.ab aw fw [1,2,5,40] ?_;simp[afq];refine aa.cond rfl (λbK=>?_) (λbK=>?_)
 ·simp at bK;have Qv:y<x.insert.length:=by omega
  have r1:=cR Qv;obtain⟨u,hu⟩:∃u,x.insert.getD y default=u:=⟨_,rfl⟩;rw[hu]at r1;have jW:Ep x.insert y↔¬(u<1\/u>60000):=by unfold Ep;rw[hu]
  refine aa.skip ?_;simp;refine aa.seq ?_;refine aa.block ?_;refine aa.b7 aw fw [(1,.v (ti n)),(2,.v (.box [.sl (ba x.aj),.sl (aC x.insert),ti x.swap])),(5,.v (ti y)),(56,.v (.bool (decide (u<1\/60000<u))))] ?_ ?_
  ·by_cases q1:u<1
   ·simp[VB,r1,Qv,q1]
   ·by_cases q2:60000<u<;>simp[VB,r1,Qv,q1,q2]
  refine aa.cond rfl (λh=>?_) (λh=>?_)
  ·simp only[decide_eq_true_eq]at h;refine aa.ab aw fw [4] ?_;simp[afr];refine aa.ret ?_;rw[bad λe=>jW.1 ((c6.1 e).2 y (by simpa using bK)) h];simp[FM]
  ·simp only[decide_eq_false_iff_not]at h;refine aa.skip ?_;simp;refine aa.dc aw fw [1,2,5] ?_;simp[afs];rw[au (by omega)];refine⟨y+1,Le.aD (o:=[]) ?_ ?_ ?_ ?_,⟨by omega,λi hi=>?_⟩,by omega⟩;iterate 4(·simp)
   ·by_cases e:i=y
    ·subst e;exact jW.2 h
    ·exact fg i (by omega)
 simp at bK;refine aa.exit ?_;simp;refine aa.ab aw fw [4] ?_;simp[aft];refine aa.ret ?_;have:v=true:=by
  rw[<-hv,decide_eq_true_eq];exact c6.2 ⟨hb,λi hi=>fg i (by simp at hi;omega)⟩
 rw[this];simp[FM]
theorem uT{a b:Int}(ha:0<=a)(hb:0<=b):0<=jK a b:=by unfold jK;split<;>omega
def IS(es:List (Nat×T×DV)):Prop:=∀e∈es,∃a:bn,e.2.2=.v (.agg a.enc)
theorem We{f:aU}{N n:Nat}{l0 l1:List (Nat×Ob)}(bj:dO f N)(h0:∀p∈l0,N<=p.1)(h1:∀p∈l1,N<=p.1)(hn:f n≠none):sameAt (over l0 f) (over l1 f) n:=by
 obtain⟨o,ho⟩:=ZbO.1 hn;have cV:=(bj n o ho).1;refine⟨o,o, ?_, ?_,bu o⟩
 ·rw[ej λo' h=>by have:=h0 _ h;simp only at this;omega];exact ho
 ·rw[ej λo' h=>by have:=h1 _ h;simp only at this;omega];exact ho
theorem Wf{k:T}{c:Int}{y:DV}{wM:Nat}{es:List (Nat×T×DV)}{e:Nat×T×DV}(h:e∈oX k c y wM es):e.2.2=y\/∃e'∈es,e.2.2=e'.2.2:=by
 unfold oX at h;split at h
 ·rename_i hbt;clear hbt;unfold Eu at h;split at h
  ·rename_i i hi;clear hi;induction es generalizing i with
   |nil=>simp at h
   |cons e0 es ih=>
    cases i with
    |zero=>
     simp only[Zb4,Zag]at h;rcases h with rfl|h
     ·exact .inl rfl
     ·exact .inr ⟨e,by simp[h],rfl⟩
    |succ i=>
     simp only[ZbN,Zag]at h;rcases h with rfl|h
     ·exact .inr ⟨e,by simp,rfl⟩
     ·rcases ih i h with h|⟨e',h1,h2⟩
      ·exact .inl h
      ·exact .inr ⟨e',by simp[h1],h2⟩
  ·rcases Zao.1 h with h|h
   ·exact .inr ⟨e,h,rfl⟩
   ·simp only[Zah]at h;subst h;exact .inl rfl
 ·exact .inr ⟨e,h,rfl⟩
def YN:List DV->aU->iD
 |[.ptr b 0,.agg [.v (.int .i64 f),.v (.int .i64 t),.v (.int .i64 x),.v (.int .i64 c),d]],objs=>
  match objs b with
  |some (.box [_,_,_,.iC m])=>match objs m with
   |some (.map shs agg wM es)=>⟨shs=kH/\agg=true/\IS es/\ji d/\∀n∈names d,objs n≠none,.v (.eC []),
     c7 objs m (.map kH true (uy (keyOf f t x) c wM es) (oX (keyOf f t x) c (.agg [.v (ti f),.v (ti t),.v (ti x),.v (ti c),d]) wM es))⟩
   |_=>⟨False,.undef,objs⟩
  |_=>⟨False,.undef,objs⟩
 |_,objs=>⟨False,.undef,objs⟩
theorem t48{f0:aU}{b m wM:Nat}{c1 c2 c3:DV}{es:List (Nat×T×DV)}{f t x c:Int}{d:DV}{N:Nat}(hN:∀r,N<=r->f0 r=none)(hb:f0 b=some (.box [c1,c2,c3,.iC m]))(hm:f0 m=some (.map kH true wM es))(he:IS es)(hd:ji d)(ES:∀n∈names d,f0 n≠none):
  aZ Tryz.prog 73 [.ptr b 0,.agg [.v (ti f),.v (ti t),.v (ti x),.v (ti c),d]] f0 ⟨True,.v (.eC []),c7 f0 m (.map kH true (uy (keyOf f t x) c wM es) (oX (keyOf f t x) c (.agg [.v (ti f),.v (ti t),.v (ti x),.v (ti c),d]) wM es))⟩:=by
 have aw:=dZ;refine c48.uM hN (by simp) λbj=>?_;have XE:b<N:=(bj b _ hb).1;have FQ:m<N:=(bj m _ hm).1;have xM:b≠m:=λe=>by rw[e,hm]at hb;cases hb
 have nb:∀k,b≠N+k:=λk=>by omega
 have nm:∀k,m≠N+k:=λk=>by omega
 simp;refine aa.ab aw fw [0,3] ?_;simp[aeY];refine aa.ab aw fw [0,3,4] ?_;simp[aeZ];obtain⟨k,hk⟩:∃k,keyOf f t x=k:=⟨_,rfl⟩;have rF:T.agg [ti f,ti t,ti x]=k:=hk;rw[hk];refine aa.le (Le.fp (l1:=[(N+49,.box [.v (ti f),.v (ti t),.v (ti x)]),(N+4,.box [.v (ti f),.v (ti t),.v (ti x),.v (ti c),d])]) (l:=[(0,.ptr b 0),(3,.ptr (N+4) 0),(4,.ptr (N+49) 0)]) (nxt':=N+100) bj ?_ ?_ ?_ ?_ ?_) ?_
 ·omega
 ·simp
 ·simp[ca]
 ·refine⟨⟨.box [.v (ti f),.v (ti t),.v (ti x)],by simp[Nat.add_assoc],.inl (by simp),by omega⟩,⟨.box [.v (ti f),.v (ti t),.v (ti x),.v (ti c),d],by simp[Nat.add_assoc],.inr ⟨rfl,λn hn=>?_⟩,by omega⟩,trivial⟩;refine We bj ?_ ?_ (ES n (by simpa [bG,bM,names]using hn))
  ·simp;omega
  ·simp
 ·simp[hb,nb,Nat.add_assoc]
 have hko:dm kH true k:=by rw[<-hk];simp[keyOf]
 have H:∀(q1 q2 q3 q5:DV) (oc:Int) (fnd:Bool),fnd=(oH k es).isSome->(∀e,oH k es=some e->oc=FO e.2.2)->
   aa Tryz.prog 43 ((DC.region false Vm).seq (DC.cond (bp.tmp 36) (DC.region true Vn) DC.skip))
    (Yi LH ⟨True,.v (.eC []),c7 f0 m (.map kH true (uy k c wM es) (oX k c (.agg [.v (ti f),.v (ti t),.v (ti x),.v (ti c),d]) wM es))⟩)
    ⟨DM.look [(0,.ptr b 0),(3,.ptr (N+4) 0),(4,.ptr (N+49) 0),(5,.ptr (N+106) 0),(6,.v (.bool fnd))],
     over [(N+106,.box [q1,q2,q3,.v (ti oc),q5]),(N+106,.box [.v (ti 0),.v (ti 0),.v (ti 0),.v (ti 0),.aJ]),(N+49,.box [.v (ti f),.v (ti t),.v (ti x)]),(N+4,.box [.v (ti f),.v (ti t),.v (ti x),.v (ti c),d])] f0,N+144,N,[]⟩:=by
  intro q1 q2 q3 q5 oc fnd YO hoc;have hbet:better k c es=(decide (c<1099511627776)&&(!fnd||decide (c<oc))):=by
   unfold better;cases hf:oH k es with
   |none=>simp[hf]at YO;simp[YO]
   |some e=>simp[hf]at YO;simp[YO,hoc e hf]
  obtain⟨y,hy⟩:∃y,DV.agg [.v (ti f),.v (ti t),.v (ti x),.v (ti c),d]=y:=⟨_,rfl⟩;have hyn:∀n∈names y,f0 n≠none:=by
   intro n hn;refine ES n ?_;rw[<-hy]at hn;simpa [names,bM]using hn
  have pa:∀e∈es,names e.2.2=[]:=λe XF=>by obtain⟨a,ha⟩:=he e XF;rw[ha];rfl
  rw[hy];refine aa.to ⟨DM.look [],over [(m,.map kH true (uy k c wM es) (oX k c y wM es))] f0,N+1000,N,[]⟩ ?_ (by simp[LH];rfl);refine aa.b7 aw fw [(0,.ptr b 0),(3,.ptr (N+4) 0),(4,.ptr (N+49) 0),(36,.v (.bool (better k c es)))] ?_ ?_
  ·by_cases s1:c<1099511627776<;>cases fnd<;>by_cases s2:c<oc<;>simp[Vm,s1,s2,hbet]
  refine aa.cond rfl (λh=>?_) (λh=>?_)
  ·refine aa.dc aw fw [] ?_;simp[-dm,Vn,Nat.add_assoc,nb,nm,hb,hm,rF,hko];refine Le.fp (l:=[]) bj ?_ ?_ ?_ ?_ ?_
   ·omega
   ·simp;omega
   ·simp[ca];omega
   ·refine⟨⟨.map kH true (uy k c wM es) (oX k c y wM es),by simp[uy,oX,h,hy],.inr ⟨rfl,λn hn=>?_⟩,λ_=>bu _⟩,trivial⟩
    ·simp only[bG,ZaU]at hn;obtain⟨e,XF,hn⟩:=hn;rcases Wf XF with h'|⟨e',h',h''⟩
     ·rw[h']at hn;obtain⟨o,ho⟩:=ZbO.1 (hyn n hn);have cV:=(bj n o ho).1;by_cases hnm:n=m
      ·subst hnm;exact⟨.map kH true (uy k c wM es) (oX k c y wM es),.map kH true (uy k c wM es) (oX k c y wM es),by simp[uy,oX,h,hy],by simp,bu _⟩
      ·refine⟨o,o, ?_, ?_,bu o⟩
       ·simp[hnm,show n≠N+106 by omega,show n≠N+49 by omega,show n≠N+4 by omega,ho]
       ·simp[hnm,ho]
     ·rw[h'',pa e' h']at hn;cases hn
   ·simp
  ·refine aa.skip ⟨rfl,Le.fp (l:=[]) bj ?_ ?_ ?_ ?_ ?_⟩
   ·omega
   ·simp;omega
   ·simp[ca];omega
   ·refine⟨⟨.map kH true wM es,by simp[nm,hm],.inr ⟨by simp[uy,oX,h],λn hn=>?_⟩,λ_=>by simp[gW]⟩,trivial⟩
    ·simp only[bG,ZaU]at hn;obtain⟨e,XF,hn⟩:=hn;rw[pa e XF]at hn;cases hn
   ·simp
 refine aa.ab aw fw [0,3,4,5,6] ?_;cases hf:oH k es with
 |none=>
  simp[-dm,Vl,Nat.add_assoc,nb,nm,hb,hm,rF,hko,hf];exact H _ _ _ _ 0 false (by simp[hf]) (by simp[hf])
 |some e=>
  obtain⟨a,ha⟩:=he e (ZbQ hf);simp[-dm,Vl,Nat.add_assoc,nb,nm,hb,hm,rF,hko,hf,ha,bn.enc];exact H _ _ _ _ a.cost true (by simp[hf]) (by intro e' XF;rw[hf]at XF;cases XF;simp[ha,bn.enc,FO])
def IT(ts:List T):Prop:=∃l:List (Int×Int),ts=[.sl (cT l)]/\l.length<=1000000
def Wg:List T->List (List T)
 |[.sl rows]=>rows
 |_=>[]
abbrev Γ4:Env:=aW [(73,fa YN),(74,vm IT Wg 75 2)]
theorem ok4:ay Tryz.prog Γ4:=by
 refine ay.gV (ay.Ry ay.nil ?_) ?_
 ·rintro ts ⟨l,rfl,h⟩;exact t49 l h
 ·intro args objs h;unfold YN at h⊢;split at h
  ·rename_i b f t x c d aB;split at h
   ·rename_i c1 c2 c3 m hb;split at h
    ·rename_i shs agg wM es hm;obtain⟨rfl,rfl,he,hd,ES⟩:=h;refine⟨λN hN=>?_,λr hr=>?_⟩
     ·exact aZ.of (t48 hN hb hm he hd ES) (by simp[]) (by simp[])
     ·simp only[];exact sG hm hr
    ·exact h.elim
   ·exact h.elim
  ·exact h.elim
theorem LL{a b:aU}{k:T}{c:Int}{y y':DV}{wM:Nat}{es:List (Nat×T×DV)}(hy:jl a b id y y')(he:IS es):iV a b id (oX k c y wM es) (oX k c y' wM es):=by
 have self:∀{l:List (Nat×T×DV)},IS l->iV a b id l l:=λ{l} hl=>mW λe h=>by obtain⟨x,hx⟩:=hl e h;rw[hx];simp
 unfold oX;split
 ·rename_i hbt;clear hbt;unfold Eu;split
  ·rename_i i hi;clear hi;induction es generalizing i with
   |nil=>simp[iV]
   |cons e es ih=>
    cases i with
    |zero=>simp only[Zb4,iV];exact⟨trivial,trivial,hy,self λe' h=>he e' (by simp[h])⟩
    |succ i=>
     simp only[ZbN,iV];obtain⟨x,hx⟩:=he e (by simp);exact⟨trivial,trivial,by rw[hx];simp,ih (λe' h=>he e' (by simp[h])) i⟩
  ·rename_i hn;clear hn;induction es with
   |nil=>simp only[ZaL,iV];exact⟨trivial,trivial,hy,trivial⟩
   |cons e es ih=>
    simp only[ZaH,iV];obtain⟨x,hx⟩:=he e (by simp);exact⟨trivial,trivial,by rw[hx];simp,ih λe' h=>he e' (by simp[h])⟩
 ·exact self he
theorem eB(al:List bn):IS (entries al):=PG al
theorem DR{a b:aU}{al:List bn}{c:bn}{d:DV}(hd:jl a b id d (.v (.sl (cT c.ops)))):
  iv a b (.map kH true (uy c.key c.cost al.length (entries al)) (oX c.key c.cost (.agg [.v (ti c.f),.v (ti c.t),.v (ti c.term),.v (ti c.cost),d]) al.length (entries al))) (bY (tL al c)):=by
 obtain⟨h1,h2⟩:=FP c al;refine .inl ?_;unfold bY;rw[<-h1,<-h2];simp only[l7];refine⟨trivial,trivial,trivial,LL ?_ (eB al)⟩;simp[bn.enc,hd]
theorem xN(l:List (Int×Int))(a b:Int):cT l++[[ti a,ti b]]=cT (l++[(a,b)]):=by simp[cT]
theorem LM{f0:aU}{N m r r2 nxt nxt' v:Nat}{tm:Nat->DV}{l:List (Nat×DV)}{o2:Ob}{al:List bn}(c:bn){rows:List (List T)}(bj:dO f0 N)(hm:m<N)(hr:N<=r)(qa:N<=r2)(hn:N<=nxt')(cU:rows=cT c.ops)
  (jd:gp (over [(m,.map kH true (uy c.key c.cost al.length (entries al)) (oX c.key c.cost (.agg [.v (ti c.f),.v (ti c.t),.v (ti c.term),.v (ti c.cost),.bd r v]) al.length (entries al))),(r,.arr v 75 2 rows),(r2,o2),(m,.map kH true al.length (entries al))] f0) (over [(m,bY (tL al c))] f0) id tm l):
  Le ⟨tm,c7 (over [(r,.arr v 75 2 rows),(r2,o2),(m,.map kH true al.length (entries al))] f0) m (.map kH true (uy c.key c.cost al.length (entries al)) (oX c.key c.cost (.agg [.v (ti c.f),.v (ti c.t),.v (ti c.term),.v (ti c.cost),.bd r v]) al.length (entries al))),nxt,N,[]⟩
   ⟨DM.look l,over [(m,bY (tL al c))] f0,nxt',N,[]⟩:=by
 subst cU;rw[kS];refine Le.fp bj hn ?_ ?_ ?_ jd
 ·simp;omega
 ·simp[ca];omega
 ·refine⟨⟨_,by simp,DR (d:=.bd r v) ?_,λ_=>by simp[gW,bY]⟩,trivial⟩;simp[show r≠m by omega];exact cW bj hr (by simp;omega)
theorem PJ(al:List bn):bG (bY al)=[]:=by
 simp only[bY,bG,List.flatMap_eq_nil_iff];intro e he;obtain⟨a,ha⟩:=eB al e he;rw[ha];rfl
theorem oY{a b:aU}(al:List bn):iv a b (bY al) (bY al):=.inr ⟨rfl,λn hn=>by rw[PJ]at hn;cases hn⟩
def bW(al:List bn)(cs:List bn):List bn:=cs.foldl tL al
theorem fF(al cs ds:List bn):bW al (cs++ds)=bW (bW al cs) ds:=by simp[bW]
def kv(read:List Int)(i m cost:Int)(ops:List (Int×Int))(n:Nat):List bn:=
 (List.range n).flatMap λt=>if 0<=read.getD t 0 then [⟨2*i,2*m+2,t,cost+read.getD t 0,ops++[(1,(t:Int))]⟩]else []
theorem LN(read:List Int)(i m cost:Int)(ops:List (Int×Int))(n:Nat):kv read i m cost ops (n+1)=kv read i m cost ops n++(if 0<=read.getD n 0 then [⟨2*i,2*m+2,n,cost+read.getD n 0,ops++[(1,(n:Int))]⟩]else []):=by
 simp[kv,Zax]
def NZ(c:bD):Prop:=c.read.length<=1000000/\∀p∈c.read,p<=1099511627776
theorem t47{f0:aU}{b m:Nat}{x:Input}{al:List bn}{i j:Nat}{cost:Int}{ops:List (Int×Int)}{N:Nat}(hN:∀r,N<=r->f0 r=none)(hb:f0 b=some (.box (cu x m)))(hm:f0 m=some (bY al))
  (hi:i<=1000000) (hj:j<x.aj.length) (hl:x.aj.length<=1000000) (hc:NZ (x.aj.getD j default)) (qO:0<=cost/\cost<=1099511627776) (hops:ops.length<=1000000):
  aZ Tryz.prog 72 [.ptr b 0,.v (ti i),.v (ti j),.v (ti cost),.v (.sl (cT ops))] f0 ⟨True,.v (.eC []),c7 f0 m (bY (bW al (kv (x.aj.getD j default).read i j cost ops (x.aj.getD j default).read.length)))⟩:=by
 have aw:=ok4;refine c47.uM hN (by simp) λbj=>?_;have XE:b<N:=(bj b _ hb).1;have FQ:m<N:=(bj m _ hm).1;have xM:b≠m:=λe=>by rw[e,hm]at hb;cases hb
 have nb:∀k,b≠N+k:=λk=>by omega
 have nm:∀k,m≠N+k:=λk=>by omega
 have me:=dR hj;obtain⟨col,hcol⟩:∃c,x.aj.getD j default=c:=⟨_,rfl⟩;rw[hcol]at me hc⊢;obtain⟨kd,read,del⟩:=col;simp only at hc⊢;obtain⟨aX,dU⟩:=hc;simp only at aX dU;have cU:∀r∈cT ops,r.length=2:=by intro r hr;simp only[cT,Zal]at hr;obtain⟨c,_,rfl⟩:=hr;rfl
 simp;refine aa.ab aw fw [0,1,2,3,4,20,21,22] ?_;simp[aeT,hb,cu,hj,me,bD.enc];refine aa.to ⟨DM.look [],over [(m,bY (bW al (kv read i j cost ops read.length)))] f0,N+1000,N,[]⟩ ?_ (by simp[Vk];rfl);refine aa.block ?_;refine aa.loop (λy:Nat=>⟨DM.look [(0,.ptr b 0),(1,.v (ti i)),(2,.v (ti j)),(3,.v (ti cost)),(4,.v (.sl (cT ops))),(20,.v (.sl (aC read))),(21,.v (ti read.length)),(22,.v (ti y))],over [(m,bY (bW al (kv read i j cost ops y)))] f0,N+200,N,[]⟩)
  (λy=>y<=read.length) (λy=>read.length-y) 0 (Le.fp bj ?_ ?_ ?_ ?_ ?_) (by simp) (λy hy=>?_)
 ·omega
 ·simp;omega
 ·simp[ca]
 ·exact⟨⟨bY al,by simp[hm],by simpa [kv,bW]using oY al,λ_=>trivial⟩,trivial⟩
 ·simp[hb,xM]
 refine aa.ab aw fw [0,1,2,3,4,20,21,22,23] ?_;simp[aeU];refine aa.seq ?_;refine aa.cond rfl (λbK=>?_) (λbK=>?_)
 ·simp at bK;refine aa.skip ?_;simp;refine aa.seq ?_;refine aa.block ?_;have qa:=cR bK;obtain⟨p,hp⟩:∃p,read.getD y default=p:=⟨_,rfl⟩;have hp0:read.getD y 0=p:=hp;have hpm:p<=1099511627776:=dU p (by rw[<-hp];simp[List.getD,bK]);rw[hp]at qa;refine aa.ab aw fw [0,1,2,3,4,10,11,20,21,22] ?_;simp[aeV,qa,bK];refine aa.ab aw fw [0,1,2,3,4,10,11,20,21,22,28] ?_;simp[aeW];have kI:=LN read i j cost ops y;rw[hp0]at kI;obtain⟨XG,PK⟩:∃l,bW al (kv read i j cost ops y)=l:=⟨_,rfl⟩;rw[PK];refine aa.to ⟨DM.look [(0,.ptr b 0),(1,.v (ti i)),(2,.v (ti j)),(3,.v (ti cost)),(4,.v (.sl (cT ops))),(20,.v (.sl (aC read))),(21,.v (ti read.length)),(22,.v (ti y))],over [(m,bY (bW al (kv read i j cost ops (y+1))))] f0,N+1000,N,[]⟩ ?_ ?_
  ·refine aa.cond rfl (λhd=>?_) (λhd=>?_)
   ·simp at hd;refine aa.tZ aw fw (rs:=LG) (.inr ⟨_,rfl⟩) (by kernel_rfl) [0,1,2,3,4,20,21,22] ?_;have w1:IntKind.i64.wrap (2*(i:Int))=2*i:=au (by omega);have w2:IntKind.i64.wrap (2*(j:Int))=2*j:=au (by omega);have w3:IntKind.i64.wrap (2*(j:Int)+2)=2*j+2:=au (by omega);have w4:IntKind.i64.wrap (cost+p)=cost+p:=au (by omega);simp[LG,w1,w2,w3,w4,Wg,IT,chunk,cF,YN,hb,cu,xM,bY,eB,Nat.add_assoc,nb,nm];refine⟨⟨ops,rfl,hops⟩,by omega,λn hn=>?_, ?_⟩
    ·simp only[names,Zah]at hn;subst hn;simp
    ·have e:bW al (kv read i j cost ops (y+1))=tL XG ⟨2*i,2*j+2,y,cost+p,ops++[(1,(y:Int))]⟩:=by
      rw[kI,if_pos hd,fF,PK];rfl
     rw[e];refine LM ⟨2*i,2*j+2,y,cost+p,ops++[(1,(y:Int))]⟩ bj FQ ?_ ?_ ?_ (xN _ _ _) ?_
     ·omega
     ·omega
     ·omega
     ·simp[hb,xM]
   ·simp at hd;have e:bW al (kv read i j cost ops (y+1))=XG:=by
     rw[kI,if_neg (by omega),ZaJ,PK]
    rw[e];refine aa.skip ⟨rfl,Le.fp bj ?_ ?_ ?_ ?_ ?_⟩
    ·omega
    ·simp;omega
    ·simp[ca]
    ·exact⟨⟨bY XG,by simp[bY],oY _,λ_=>bu _⟩,trivial⟩
    ·simp[hb,xM]
  ·refine aa.dc aw fw [0,1,2,3,4,20,21,22] ?_;simp[aeX];rw[au (by omega)];refine⟨y+1,Le.fp bj ?_ ?_ ?_ ?_ ?_,by omega,by omega⟩
   ·omega
   ·simp;omega
   ·simp[ca]
   ·exact⟨⟨_,by simp,oY _,λ_=>bu _⟩,trivial⟩
   ·simp[hb,xM]
 ·simp at bK;have:y=read.length:=by omega
  subst this;refine aa.exit ?_;refine⟨rfl, ?_⟩;refine Le.fp (l:=[]) bj ?_ ?_ ?_ ?_ ?_
  ·omega
  ·simp;omega
  ·simp[ca]
  ·exact⟨⟨_,by simp,oY _,λ_=>bu _⟩,trivial⟩
  ·simp
def eR(objs:aU)(b:Nat):Input×Nat:=
 match objs b with
 |some (.box [.v (.sl c),.v (.sl i),.v (.int .i64 s),.iC m])=>(⟨fL c,fu i,s⟩,m)
 |_=>(⟨[],[],0⟩,0)
theorem zM{objs:aU}{b m:Nat}{x:Input}(h:objs b=some (.box (cu x m))):eR objs b=(x,m):=by
 simp[eR,h,cu]
def xO(objs:aU)(m:Nat):List bn:=
 match objs m with
 |some (.map _ _ _ es)=>es.map λe=>match e.2.2 with|.v (.agg r)=>lT r|_=>default
 |_=>[]
theorem DS{objs:aU}{m:Nat}{al:List bn}(h:objs m=some (bY al)):xO objs m=al:=by
 simp only[xO,h,bY,entries,ZcM];rw[show(List.map ((λe=>match e.2.2 with|DV.v (T.agg r)=>lT r|_=>default)∘λp=>(p.2,p.1.key,DV.v (T.agg p.1.enc))) al.zipIdx)=al.zipIdx.map Prod.fst from Zbq λp _=>by simp];simp
def YP:List DV->aU->iD
 |[.ptr b 0,.v (.int .i64 i),.v (.int .i64 j)],objs=>⟨objs b=some (.box (cu (eR objs b).1 (eR objs b).2))/\0<=i/\i<=j/\j<=(eR objs b).1.aj.length/\ny (eR objs b).1.aj,
   .v (.eC [ti (ed (((eR objs b).1.aj.take j.toNat).drop i.toNat) 0),.sl (cT (dg (j.toNat-i.toNat)))]),objs⟩
 |_,objs=>⟨False,.undef,objs⟩
theorem xP{objs:aU}{b m:Nat}{x:Input}{i j:Nat}(h:objs b=some (.box (cu x m))):
  YP [.ptr b 0,.v (ti i),.v (ti j)] objs=⟨i<=j/\j<=x.aj.length/\ny x.aj,.v (.eC [ti (ed ((x.aj.take j).drop i) 0),.sl (cT (dg (j-i)))]),objs⟩:=by
 simp only[YP,zM h,h,Zai,true_and,Int.ofNat_le,Zcg];try omega
def k50:List DV->aU->iD
 |[.ptr b 0,.v (.int .i64 i)],objs=>⟨objs b=some (.box (cu (eR objs b).1 (eR objs b).2))/\0<=i/\i<=1000000/\(eR objs b).1.aj.length<=1000000,.v (.bool (b8 (eR objs b).1 i.toNat)),objs⟩
 |_,objs=>⟨False,.undef,objs⟩
theorem Wh{objs:aU}{b m:Nat}{x:Input}{i:Nat}(h:objs b=some (.box (cu x m))):
  k50 [.ptr b 0,.v (ti i)] objs=⟨i<=1000000/\x.aj.length<=1000000,.v (.bool (b8 x i)),objs⟩:=by
 simp only[k50,zM h,h,Zai,iD.mk.injEq,and_self,and_true,true_and,eq_iff_iff,Zcg];try omega
def k47:List DV->aU->iD
 |[.ptr b 0,.v (.int .i64 i),.v (.int .i64 j),.v (.int .i64 cost),.v (.sl ops)],objs=>
  ⟨objs b=some (.box (cu (eR objs b).1 (eR objs b).2))/\objs (eR objs b).2=some (bY (xO objs (eR objs b).2))/\ops=cT (xI ops)/\0<=i/\i<=1000000/\0<=j/\j<(eR objs b).1.aj.length/\(eR objs b).1.aj.length<=1000000/\NZ ((eR objs b).1.aj.getD j.toNat default)/\0<=cost/\cost<=1099511627776/\(xI ops).length<=1000000,.v (.eC []),
   c7 objs (eR objs b).2 (bY (bW (xO objs (eR objs b).2) (kv ((eR objs b).1.aj.getD j.toNat default).read i.toNat j.toNat cost (xI ops) ((eR objs b).1.aj.getD j.toNat default).read.length)))⟩
 |_,objs=>⟨False,.undef,objs⟩
theorem k47_eq{objs:aU}{b m:Nat}{x:Input}{al:List bn}{i j:Nat}{cost:Int}{ops:List (Int×Int)}(h:objs b=some (.box (cu x m)))(hm:objs m=some (bY al)):
  k47 [.ptr b 0,.v (ti i),.v (ti j),.v (ti cost),.v (.sl (cT ops))] objs=⟨i<=1000000/\j<x.aj.length/\x.aj.length<=1000000/\NZ (x.aj.getD j default)/\0<=cost/\cost<=1099511627776/\ops.length<=1000000,.v (.eC []),
   c7 objs m (bY (bW al (kv (x.aj.getD j default).read i j cost ops (x.aj.getD j default).read.length)))⟩:=by
 simp only[k47,zM h,h,DS hm,hm,Zai,LI,true_and,Int.ofNat_lt,Zcg,show((i:Int)<=1000000)=(i<=1000000)from propext ⟨λh=>by omega,λh=>by omega⟩]
abbrev Γ5:Env:=aW [(73,fa YN),(72,fa k47),(50,fa YP),(75,fa k50),(74,vm IT Wg 75 2)]
theorem ok5:ay Tryz.prog Γ5:=by
 refine ay.gV (ay.gV (ay.gV (ay.gV (ay.Ry ay.nil ?_) ?_) ?_) ?_) ?_
 ·rintro ts ⟨l,rfl,h⟩;exact t49 l h
 ·intro args objs h;unfold k50 at h⊢;split at h
  ·rename_i aB b i;obtain⟨hb,h1,h2,h3⟩:=h;obtain⟨i,rfl⟩:=Zad h1;refine⟨λN hN=>?_,λr hr=>hr⟩;exact aZ.of (t50 hN hb (by omega) h3) (by simp) (by simp)
  ·exact h.elim
 ·intro args objs h;unfold YP at h⊢;split at h
  ·rename_i aB b i j;obtain⟨hb,h1,h2,h3,h4⟩:=h;obtain⟨i,rfl⟩:=Zad h1;obtain⟨j,rfl⟩:=Zad (show 0<=j by omega);refine⟨λN hN=>?_,λr hr=>hr⟩;exact aZ.of (t31 hN hb (by omega) (by omega) h4) (by simp) (by simp)
  ·exact h.elim
 ·intro args objs h;unfold k47 at h⊢;split at h
  ·rename_i aB b i j cost ops;obtain⟨hb,hm,ho,h1,h2,h3,h4,h5,h6,h7,h8,h9⟩:=h;obtain⟨i,rfl⟩:=Zad h1;obtain⟨j,rfl⟩:=Zad h3;refine⟨λN hN=>?_,λr hr=>sG hm hr⟩;rw[ho];exact aZ.of (t47 hN hb hm (by omega) (by omega) h5 h6 ⟨h7,h8⟩ h9) (by simp) (by simp)
  ·exact h.elim
 ·intro args objs h;exact(ok4 73 (fa YN) rfl).st YN rfl args objs h
def fZ(x:Input)(i m:Nat):Int:=ed ((x.aj.take m).drop i) 0
def qM(ins:List Int)(i m cost:Int)(ops:List (Int×Int))(n:Nat):List bn:=
 (List.range n).map λ(t:Nat)=>⟨2*i,2*m,(t:Int),cost+ins.getD t 0,ops++[(3,(t:Int))]⟩
theorem PL(ins:List Int)(i m cost:Int)(ops:List (Int×Int))(n:Nat):qM ins i m cost ops (n+1)=qM ins i m cost ops n++[⟨2*i,2*m,n,cost+ins.getD n 0,ops++[(3,(n:Int))]⟩]:=by
 simp[qM,Zax]
def yf(x:Input)(i m:Nat):List bn:=kv (x.aj.getD m default).read i m (fZ x i m) (dg (m-i)) (x.aj.getD m default).read.length
def p7(x:Input)(i m:Nat):List bn:=
 (if i<m then yf x i (m-1)else [])++(qM x.insert i m (fZ x i m) (dg (m-i)) x.insert.length++
  (if b8 x m then [⟨2*i,2*m+1,(x.aj.getD (m+1) default).kind,fZ x i m+x.swap,dg (m-i)++[(4,0)]⟩]else []))
def wa(x:Input)(i m:Nat):List bn:=(List.range (m-i)).flatMap λe=>p7 x i (i+e)
def qN(x:Input)(i:Nat):List bn:=wa x i (x.aj.length+1)++(if b8 x i then [⟨2*i+1,2*i+4,(x.aj.getD i default).kind,0,[]⟩]else [])
theorem LO(x:Input){i m:Nat}(h:i<=m):wa x i (m+1)=wa x i m++p7 x i m:=by
 unfold wa;rw[show m+1-i=(m-i)+1 by omega,Zax,Zcu];simp[show i+(m-i)=m by omega]
def Iw(x:Input):Prop:=ny x.aj/\(∀c∈x.aj,NZ c)/\x.insert.length<=1000000/\(∀p∈x.insert,0<=p/\p<=1099511627776)/\0<=x.swap/\x.swap<=1099511627776
theorem eF{x:Input}(h:ny x.aj)(i m:Nat):0<=fZ x i m/\fZ x i m<=1099511627776:=
 oe (λc hc=>(h.2 c (Zav (Zbv hc))).1) 0 (by omega)
theorem pV{f0:aU}{N m nxt nxt':Nat}{tm:Nat->DV}{l:List (Nat×DV)}{L:List (Nat×Ob)}{al:List bn}(bj:dO f0 N)(hm:m<N)(hn:N<=nxt')(hL:∀p∈L,p.1=m\/N<=p.1)(ho:over L f0 m=some (bY al))
  (jd:gp (over L f0) (over [(m,bY al)] f0) id tm l):
  Le ⟨tm,over L f0,nxt,N,[]⟩ ⟨DM.look l,over [(m,bY al)] f0,nxt',N,[]⟩:=by
 refine Le.fp bj hn ?_ ?_ ?_ jd
 ·simp;omega
 ·induction L with
  |nil=>trivial
  |cons p L ih=>
   have:∀(L:List (Nat×Ob)),(∀p∈L,p.1=m\/N<=p.1)->ca N [(m,bY al)] L:=by
    intro L;induction L with
    |nil=>intro _;trivial
    |cons q L ih=>
     intro h;refine⟨λhq=>?_,ih λp hp=>h p (by simp[hp])⟩;rcases h q (by simp)with h|h
     ·exact⟨bY al,by simp[h]⟩
     ·omega
   exact this _ hL
 ·exact⟨⟨bY al,ho,oY al,λ_=>bu _⟩,trivial⟩
theorem t30{f0:aU}{b m:Nat}{x:Input}{al:List bn}{i:Nat}{N:Nat}(hN:∀r,N<=r->f0 r=none)(hb:f0 b=some (.box (cu x m)))(hm:f0 m=some (bY al))
  (hi:i<=x.aj.length) (hx:Iw x):
  aZ Tryz.prog 49 [.ptr b 0,.v (ti i)] f0 ⟨True,.v (.eC []),c7 f0 m (bY (bW al (qN x i)))⟩:=by
 have aw:=ok5;refine c30.uM hN (by simp) λbj=>?_;have XE:b<N:=(bj b _ hb).1;have FQ:m<N:=(bj m _ hm).1;have xM:b≠m:=λe=>by rw[e,hm]at hb;cases hb
 have nb:∀k,b≠N+k:=λk=>by omega
 have nm:∀k,m≠N+k:=λk=>by omega
 obtain⟨hd,lz,hins,Wi,hsw0,z8⟩:=hx;have hl:=hd.1;simp;refine aa.ab aw fw [0,1,4] ?_;simp[aeE,hb,cu];refine aa.seq ?_;refine aa.ab aw fw [0,1,4,5] ?_;simp[aeF];refine aa.to ⟨DM.look [(0,.ptr b 0),(1,.v (ti i))],over [(m,bY (bW al (wa x i (x.aj.length+1))))] f0,N+1000,N,[]⟩ ?_ ?_
 ·refine aa.block ?_;refine aa.loop (λy:Nat=>⟨DM.look [(0,.ptr b 0),(1,.v (ti i)),(4,.v (ti x.aj.length)),(5,.v (ti y))],over [(m,bY (bW al (wa x i y)))] f0,N+1000,N,[]⟩)
   (λy=>i<=y/\y<=x.aj.length+1) (λy=>x.aj.length+1-y) i (Le.fp bj ?_ ?_ ?_ ?_ ?_) (by omega) (λy hy=>?_)
  ·omega
  ·simp;omega
  ·simp[ca]
  ·exact⟨⟨bY al,by simp[hm],by simpa [wa,bW]using oY al,λ_=>trivial⟩,trivial⟩
  ·simp[hb,xM]
  obtain⟨jV,fg⟩:=hy;refine aa.seq ?_;refine aa.ab aw fw [0,1,4,5,21] ?_;simp[aeG];refine aa.cond rfl (λbK=>?_) (λbK=>?_)
  ·simp at bK;refine aa.skip ?_;simp;obtain⟨cost,qO⟩:∃c,fZ x i y=c:=⟨_,rfl⟩;have tT:0<=cost/\cost<=1099511627776:=by rw[<-qO];exact eF hd i y
   have hcost':ed ((x.aj.take y).drop i) 0=cost:=qO;obtain⟨XG,PK⟩:∃l,bW al (wa x i y)=l:=⟨_,rfl⟩;rw[PK];refine aa.seq ?_;refine aa.to ⟨DM.look [(0,.ptr b 0),(1,.v (ti i)),(4,.v (ti x.aj.length)),(5,.v (ti y))],over [(m,bY (bW XG (p7 x i y)))] f0,N+1000,N,[]⟩ ?_ ?_
   ·refine aa.block ?_;refine aa.seq ?_;refine aa.tZ aw fw (rs:=LC) (.inr ⟨_,rfl⟩) (by kernel_rfl) [0,1,4,5,6,7] ?_;simp[LC,xP (x:=x) (m:=m),hb,xM,jV,bK,hd,hcost'];refine aa.seq ?_;obtain⟨IU,LP⟩:∃l,bW XG (if i<y then yf x i (y-1)else [])=l:=⟨_,rfl⟩;refine aa.to ⟨DM.look [(0,.ptr b 0),(1,.v (ti i)),(4,.v (ti x.aj.length)),(5,.v (ti y)),(6,.v (ti cost)),(7,.v (.sl (cT (dg (y-i)))))],over [(m,bY IU)] f0,N+1000,N,[]⟩ ?_ ?_
    ·refine aa.ab aw fw [0,1,4,5,6,7,33] ?_;simp[aeH];refine aa.cond rfl (λh=>?_) (λh=>?_)
     ·simp at h;obtain⟨q,hq⟩:∃q,y=q+1:=⟨y-1,by omega⟩;have hwq:IntKind.i64.wrap ((y:Int)-1)=(q:Int):=by rw[au (by omega)];omega
      have hiq:i<=q:=by omega
      have hql:q<=x.aj.length:=by omega
      have hql2:q<x.aj.length:=by omega
      obtain⟨c2,dU⟩:∃c,fZ x i q=c:=⟨_,rfl⟩;have hc2b:0<=c2/\c2<=1099511627776:=by rw[<-dU];exact eF hd i q
      have hc2':ed ((x.aj.take q).drop i) 0=c2:=dU;refine aa.seq (aa.tZ aw fw (rs:=LD) (.inr ⟨_,rfl⟩) (by kernel_rfl) [0,1,4,5,6,7,8,9] ?_);simp[LD,xP (x:=x) (m:=m),hb,xM,hwq,hiq,hql,hd,hc2'];refine aa.tZ aw fw (rs:=LF) (.inr ⟨_,rfl⟩) (by kernel_rfl) [0,1,4,5,6,7] ?_;simp[LF,k47_eq (x:=x) (m:=m) (al:=XG),hb,xM,hwq];refine⟨⟨by omega,hql2,hl, ?_,hc2b.1,hc2b.2,by simp[dg];omega⟩, ?_⟩
      ·rw[Zan hql2];exact lz _ (Zbj hql2)
      ·rw[kS];have e:bW XG (kv (x.aj[q]?.getD default).read i q c2 (dg (q-i)) (x.aj[q]?.getD default).read.length)=IU:=by
        rw[<-LP,if_pos h];simp[yf,show y-1=q by omega,dU]
       rw[e];exact pV bj FQ (by omega) (by simp) (by simp) (by simp[hb,xM])
     ·simp at h;have e:XG=IU:=by rw[<-LP,if_neg (by omega)];rfl
      rw[e];exact aa.skip ⟨rfl,pV bj FQ (by omega) (by simp) (by simp) (by simp[hb,xM])⟩
    refine aa.seq ?_;obtain⟨JT,xQ⟩:∃l,bW IU (qM x.insert i y cost (dg (y-i)) x.insert.length)=l:=⟨_,rfl⟩;refine aa.to ⟨DM.look [(0,.ptr b 0),(1,.v (ti i)),(4,.v (ti x.aj.length)),(5,.v (ti y)),(6,.v (ti cost)),(7,.v (.sl (cT (dg (y-i)))))],over [(m,bY JT)] f0,N+1000,N,[]⟩ ?_ ?_
    ·refine aa.ab aw fw [0,1,4,5,6,7,53,54,55] ?_;simp[aeI,hb,xM,cu];refine aa.block ?_;refine aa.loop (λz:Nat=>⟨DM.look [(0,.ptr b 0),(1,.v (ti i)),(4,.v (ti x.aj.length)),(5,.v (ti y)),(6,.v (ti cost)),(7,.v (.sl (cT (dg (y-i))))),(53,.v (.sl (aC x.insert))),(54,.v (ti x.insert.length)),(55,.v (ti z))],over [(m,bY (bW IU (qM x.insert i y cost (dg (y-i)) z)))] f0,N+1000,N,[]⟩)
      (λz=>z<=x.insert.length) (λz=>x.insert.length-z) 0 ?_ (by omega) (λz hz=>?_)
     ·exact pV bj FQ (by omega) (by simp) (by simp[qM,bW]) (by simp[hb,xM])
     refine aa.ab aw fw [0,1,4,5,6,7,53,54,55,56] ?_;simp[aeJ];refine aa.seq ?_;refine aa.cond rfl (λh=>?_) (λh=>?_)
     ·simp at h;refine aa.skip ?_;simp;refine aa.seq ?_;refine aa.block ?_;obtain⟨p,hp⟩:∃p,x.insert.getD z default=p:=⟨_,rfl⟩;have hr:=cR h;have Qt:=Wi p (by rw[<-hp];simp[List.getD,h]);have hp0:x.insert.getD z 0=p:=hp;have kI:=PL x.insert i y cost (dg (y-i)) z;rw[hp0]at kI;rw[hp]at hr;refine aa.ab aw fw [0,1,4,5,6,7,10,11,53,54,55] ?_;simp[aeK,hr,h];obtain⟨alz,halz⟩:∃l,bW IU (qM x.insert i y cost (dg (y-i)) z)=l:=⟨_,rfl⟩;rw[halz];refine aa.to ⟨DM.look [(0,.ptr b 0),(1,.v (ti i)),(4,.v (ti x.aj.length)),(5,.v (ti y)),(6,.v (ti cost)),(7,.v (.sl (cT (dg (y-i))))),(53,.v (.sl (aC x.insert))),(54,.v (ti x.insert.length)),(55,.v (ti z))],over [(m,bY (bW IU (qM x.insert i y cost (dg (y-i)) (z+1))))] f0,N+1000,N,[]⟩ ?_ ?_
      ·refine aa.tZ aw fw (rs:=FH) (.inr ⟨_,rfl⟩) (by kernel_rfl) [0,1,4,5,6,7,53,54,55] ?_;have w1:IntKind.i64.wrap (2*(i:Int))=2*i:=au (by omega);have w2:IntKind.i64.wrap (2*(y:Int))=2*y:=au (by omega);have w4:IntKind.i64.wrap (cost+p)=cost+p:=au (by omega);have jt:(dg (y-i)).length=y-i:=by simp[dg]
       simp[FH,w1,w2,w4,Wg,IT,chunk,cF,YN,hb,cu,xM,bY,eB,Nat.add_assoc,nb,nm];refine⟨⟨_,rfl,by omega⟩,by omega,λn hn=>?_, ?_⟩
       ·simp only[names,Zah]at hn;subst hn;simp
       ·have e:bW IU (qM x.insert i y cost (dg (y-i)) (z+1))=tL alz ⟨2*i,2*y,z,cost+p,dg (y-i)++[(3,(z:Int))]⟩:=by
         rw[kI,fF,halz];rfl
        rw[e];refine LM ⟨2*i,2*y,z,cost+p,dg (y-i)++[(3,(z:Int))]⟩ bj FQ ?_ ?_ ?_ (xN _ _ _) ?_
        ·omega
        ·omega
        ·omega
        ·simp[hb,xM]
      ·refine aa.dc aw fw [0,1,4,5,6,7,53,54,55] ?_;simp[Vh];rw[au (by omega)];exact⟨z+1,pV bj FQ (by omega) (by simp) (by simp) (by simp[hb,xM]),by omega,by omega⟩
     ·simp at h;have:z=x.insert.length:=by omega
      subst this;refine aa.exit ⟨rfl, ?_⟩;rw[xQ];exact pV bj FQ (by omega) (by simp) (by simp) (by simp[hb,xM])
    refine aa.iH aw fw (rs:=FI) (.inr ⟨_,rfl⟩) (by kernel_rfl) [0,1,4,5,6,7,80] ?_;simp[FI,Wh (x:=x) (m:=m),hb,xM];refine⟨⟨by omega,hl⟩, ?_⟩;have XC:bW XG (p7 x i y)=bW JT (if b8 x y then [⟨2*i,2*y+1,(x.aj.getD (y+1) default).kind,cost+x.swap,dg (y-i)++[(4,0)]⟩]else []):=by
     rw[<-xQ,<-LP,<-fF,<-fF];simp[p7,qO]
    refine aa.cond rfl (λh=>?_) (λh=>?_)
    ·rw[XC,if_pos h];have IW:y+1<x.aj.length:=by simp[b8]at h;exact h.1
     have hr:DM.rowAt (ba x.aj) ((y:Int)+1)=_:=dR IW;obtain⟨c2,dU⟩:∃c,x.aj.getD (y+1) default=c:=⟨_,rfl⟩;rw[dU]at hr⊢;have w0:IntKind.i64.wrap ((y:Int)+1)=y+1:=au (by omega);have w1:IntKind.i64.wrap (2*(i:Int))=2*i:=au (by omega);have w2:IntKind.i64.wrap (2*(y:Int))=2*y:=au (by omega);have w3:IntKind.i64.wrap (2*(y:Int)+1)=2*y+1:=au (by omega);have w4:IntKind.i64.wrap (cost+x.swap)=cost+x.swap:=au (by omega);have jt:(dg (y-i)).length=y-i:=by simp[dg]
     have hlt1:((y:Int)+1<x.aj.length)=True:=by simp;omega
     have zp:(0<=(y:Int)+1)=True:=by simp;omega
     refine aa.tZ aw fw (rs:=dd (Hp b N) (fm FJ [none,none,none,none,none,none,none,none,none,none,some [0],none,none,some [],none,some [],none,none,none,none,none,some [0],none,none,some [],none,none,some [1239]])) (.inl rfl) (by rw[gq (Pn XE)];kernel_rfl) [0,1,4,5] ?_;simp[dd,gK,fm,ch,bm,names,bM,Hp,FJ,w0,w1,w2,w3,w4,hr,hlt1,zp,bD.enc,Wg,IT,chunk,cF,YN,hb,cu,xM,bY,eB,Nat.add_assoc,nb,nm];refine⟨⟨_,rfl,by omega⟩,by omega, ?_⟩;refine LM ⟨2*i,2*y+1,c2.kind,cost+x.swap,dg (y-i)++[(4,0)]⟩ bj FQ ?_ ?_ ?_ (xN _ _ _) ?_
     ·omega
     ·omega
     ·omega
     ·simp[hb,xM]
    ·rw[XC,if_neg (by simp[h])];exact aa.skip ⟨rfl,pV bj FQ (by omega) (by simp) (by simp[bW]) (by simp[hb,xM])⟩
   ·refine aa.dc aw fw [0,1,4,5] ?_;simp[Vi];rw[au (by omega)];refine⟨y+1,pV bj FQ (by omega) (by simp) (by simp;rw[LO x jV,fF,PK]) (by simp[hb,xM]),⟨by omega,by omega⟩,by omega⟩
  ·simp at bK;have:y=x.aj.length+1:=by omega
   subst this;refine aa.exit ⟨rfl, ?_⟩;exact pV bj FQ (by omega) (by simp) (by simp) (by simp[hb,xM])
 ·obtain⟨al3,PM⟩:∃l,bW al (wa x i (x.aj.length+1))=l:=⟨_,rfl⟩;have XC:bW al (qN x i)=bW al3 (if b8 x i then [⟨2*i+1,2*i+4,(x.aj.getD i default).kind,0,[]⟩]else []):=by
   rw[<-PM,<-fF];rfl
  rw[PM];refine aa.iH aw fw (rs:=FK) (.inr ⟨_,rfl⟩) (by kernel_rfl) [0,1,113] ?_;simp[FK,Wh (x:=x) (m:=m),hb,xM];refine⟨⟨by omega,hl⟩, ?_⟩;refine aa.to ⟨DM.look [],over [(m,bY (bW al (qN x i)))] f0,N+1000,N,[]⟩ ?_ (by simp[Vj];rfl);refine aa.cond rfl (λh=>?_) (λh=>?_)
  ·rw[XC,if_pos h];have IW:i<x.aj.length:=by simp[b8]at h;omega
   have hr:=dR IW;obtain⟨c2,dU⟩:∃c,x.aj.getD i default=c:=⟨_,rfl⟩;rw[dU]at hr⊢;have w1:IntKind.i64.wrap (2*(i:Int))=2*i:=au (by omega);have w2:IntKind.i64.wrap (2*(i:Int)+1)=2*i+1:=au (by omega);have w3:IntKind.i64.wrap (2*(i:Int)+4)=2*i+4:=au (by omega);refine aa.tZ aw fw (rs:=FL) (.inr ⟨_,rfl⟩) (by kernel_rfl) [] ?_;simp[FL,w1,w2,w3,hr,IW,bD.enc,YN,hb,cu,xM,bY,eB,Nat.add_assoc];refine⟨λn hn=>(by simp[names]at hn), ?_⟩;rw[kS];refine Le.fp (l:=[]) bj (by omega) (by simp;omega) (by simp[ca]) ⟨⟨_,by simp;exact⟨rfl,rfl⟩,DR (c:=⟨2*i+1,2*i+4,c2.kind,0,[]⟩) (d:=.aJ) ?_,λ_=>by simp[gW]⟩,trivial⟩ (by simp);simp[cT]
  ·rw[XC,if_neg (by simp[h])];exact aa.skip ⟨rfl,pV bj FQ (by omega) (by simp) (by simp[bW]) (by simp)⟩
def HF:List RO:=[
 o (.box (t 0)) 1 [],
 o (.alloc [(.v (.int .i64 0)),.aJ,.aJ]) 2 []]
def HG:List RO:=[
 a 0 1 15 [],
 l 15 16 [0],
 o (.len (t 16)) 17 [1],
 m 17 3 [2,0,1,2]]
def afB:List RO:=[
 o (.bL (.cm .aJ)) 4 []]
def afC:List RO:=[
 o (.bL (i 0)) 5 []]
def afD:List RO:=[
 n 5 18,
 n 3 19,
 b .leq 18 19 20 [0,1]]
def afE:List RO:=[
 n 5 23,
 m 23 6 [0,0]]
def afF:List RO:=[
 n 6 24,
 n 3 25,
 b .leq 24 25 26 [0,1]]
def afG:List RO:=[
 L 3 1 29 [],
 n 5 30,
 n 6 31,
 o (.call 26 [(t 29),(t 30),(t 31)]) 32 [0,1,2],
 m 32 7 [3,3,0,1,2,3]]
def afH:List RO:=[
 o (.bL (i 0)) 8 []]
def afI:List RO:=[
 n 8 33,
 a 1 1 34 [],
 l 34 35 [1],
 o (.len (t 35)) 36 [2],
 b .lss 33 36 37 [0,3]]
def FN:List RO:=[
 n 6 40,
 n 3 41,
 b .lss 40 41 42 [0,1],
 m 42 43 [2],
 u 0 1 44 43 true [3],
 v 44 45 43 true [4,3],
 w 6 46 43 true [3],
 g (.idxAddr 3 (t 45) (t 46)) 47 43 true [5,6,3],
 u 1 47 48 43 true [7,3],
 v 48 49 43 true [8,3],
 w 8 50 43 true [3],
 g (.idxAddr 1 (t 49) (t 50)) 51 43 true [9,10,3],
 v 51 52 43 true [11,3],
 g (.bin .geq (t 52) (i 0)) 53 43 true [12,3],
 q 43 53 54 [3,13]]
def VC:List RO:=[
 n 4 55,
 n 5 56,
 o (.bin .mul (i 2) (t 56)) 57 [1],
 n 6 58,
 o (.bin .mul (i 2) (t 58)) 59 [3],
 o (.bin .add (t 59) (i 2)) 60 [4],
 n 8 61,
 n 7 62,
 a 0 1 63 [],
 l 63 64 [8],
 n 6 65,
 x 3 64 65 66 [9,10],
 a 1 66 67 [11],
 l 67 68 [12],
 n 8 69,
 x 1 68 69 70 [13,14],
 l 70 71 [15],
 o (.call 28 [(t 62),(t 71)]) 72 [7,16],
 n 6 73,
 n 5 74,
 b .sub 73 74 75 [18,19],
 n 8 76,
 o (.build [(.v (.int .i64 0)),(.v (.int .i64 0))] [(0,1,(i 1)),(1,1,(t 76))]) 77 [21],
 o (.call 29 [(t 75),(t 77)]) 78 [20,22,17],
 o (.build [(.v (.int .i64 0)),(.v (.int .i64 0)),(.v (.int .i64 0)),(.v (.int .i64 0)),.aJ] [(0,1,(t 57)),(1,1,(t 60)),(2,1,(t 61)),(3,1,(t 72)),(4,1,(t 78))]) 79 [2,5,6,17,23],
 o (.call 27 [(t 55),(t 79)]) 80 [0,24,23],
 m 80 4 (k [25,25] 25)]
def VD:List RO:=[
 n 8 38,
 o (.bin .add (t 38) (i 1)) 39 [0],
 m 39 8 [1,0,1]]
def VE:List RO:=[
 L 3 1 81 [],
 n 6 82,
 o (.call 30 [(t 81),(t 82)]) 83 [0,1]]
def VF:List RO:=[
 n 4 84,
 n 5 85,
 o (.bin .mul (i 2) (t 85)) 86 [1],
 n 6 87,
 o (.bin .mul (i 2) (t 87)) 88 [3],
 o (.bin .add (t 88) (i 1)) 89 [4],
 a 0 1 90 [],
 l 90 91 [6],
 n 6 92,
 o (.bin .add (t 92) (i 1)) 93 [8],
 x 3 91 93 94 [7,9],
 a 0 94 95 [10],
 l 95 96 [11],
 n 7 97,
 a 2 1 98 [],
 l 98 99 [14],
 o (.call 28 [(t 97),(t 99)]) 100 [13,15],
 n 6 101,
 n 5 102,
 b .sub 101 102 103 [17,18],
 o (.build [(.v (.int .i64 0)),(.v (.int .i64 0))] [(0,1,(i 4))]) 104 [],
 o (.call 29 [(t 103),(t 104)]) 105 [19,20,16],
 o (.build [(.v (.int .i64 0)),(.v (.int .i64 0)),(.v (.int .i64 0)),(.v (.int .i64 0)),.aJ] [(0,1,(t 86)),(1,1,(t 89)),(2,1,(t 96)),(3,1,(t 100)),(4,1,(t 105))]) 106 [2,5,12,16,21],
 o (.call 27 [(t 84),(t 106)]) 107 [0,22,21],
 m 107 4 (k [23,23] 23)]
def VG:List RO:=[
 n 6 27,
 o (.bin .add (t 27) (i 1)) 28 [0],
 m 28 6 [1,0,1]]
def VH:List RO:=[
 L 3 1 108 [],
 n 5 109,
 o (.call 30 [(t 108),(t 109)]) 110 [0,1]]
def VI:List RO:=[
 n 4 111,
 n 5 112,
 o (.bin .mul (i 2) (t 112)) 113 [1],
 o (.bin .add (t 113) (i 1)) 114 [2],
 n 5 115,
 o (.bin .mul (i 2) (t 115)) 116 [4],
 o (.bin .add (t 116) (i 4)) 117 [5],
 a 0 1 118 [],
 l 118 119 [7],
 n 5 120,
 x 3 119 120 121 [8,9],
 a 0 121 122 [10],
 l 122 123 [11],
 o (.build [(.v (.int .i64 0)),(.v (.int .i64 0)),(.v (.int .i64 0)),(.v (.int .i64 0)),.aJ] [(0,1,(t 114)),(1,1,(t 117)),(2,1,(t 123))]) 124 [3,6,12],
 o (.call 27 [(t 111),(t 124)]) 125 [0,13],
 m 125 4 (k [14,14] 14)]
def VJ:List RO:=[
 n 5 21,
 o (.bin .add (t 21) (i 1)) 22 [0],
 m 22 5 [1,0,1]]
def VK:List RO:=[
 o (.bL (i 0)) 9 []]
def VL:List RO:=[
 n 9 126,
 n 3 127,
 b .leq 126 127 128 [0,1]]
def VN:List RO:=[
 n 9 131,
 m 131 10 [0,0]]
def VO:List RO:=[
 n 10 132,
 n 3 133,
 b .leq 132 133 134 [0,1]]
def VP:List RO:=[
 o (.bL (i 0)) 11 []]
def VQ:List RO:=[
 n 11 137,
 a 1 1 138 [],
 l 138 139 [1],
 o (.len (t 139)) 140 [2],
 b .lss 137 140 141 [0,3]]
def VR:List RO:=[
 n 4 144,
 n 9 145,
 o (.bin .mul (i 2) (t 145)) 146 [1],
 n 10 147,
 o (.bin .mul (i 2) (t 147)) 148 [3],
 n 11 149,
 L 3 1 150 [],
 n 9 151,
 n 10 152,
 o (.call 26 [(t 150),(t 151),(t 152)]) 153 [6,7,8],
 a 1 1 154 [],
 l 154 155 [10],
 n 11 156,
 x 1 155 156 157 [11,12],
 l 157 158 [13],
 o (.call 28 [(t 153),(t 158)]) 159 [9,14,9],
 n 10 160,
 n 9 161,
 b .sub 160 161 162 [16,17],
 n 11 163,
 o (.build [(.v (.int .i64 0)),(.v (.int .i64 0))] [(0,1,(i 3)),(1,1,(t 163))]) 164 [19],
 o (.call 29 [(t 162),(t 164)]) 165 [18,20,15],
 o (.build [(.v (.int .i64 0)),(.v (.int .i64 0)),(.v (.int .i64 0)),(.v (.int .i64 0)),.aJ] [(0,1,(t 146)),(1,1,(t 148)),(2,1,(t 149)),(3,1,(t 159)),(4,1,(t 165))]) 166 [2,4,5,15,21],
 o (.call 27 [(t 144),(t 166)]) 167 [0,22,21],
 m 167 4 (k [23,23] 23)]
def VS:List RO:=[
 n 11 142,
 o (.bin .add (t 142) (i 1)) 143 [0],
 m 143 11 [1,0,1]]
def VT:List RO:=[
 n 10 135,
 o (.bin .add (t 135) (i 1)) 136 [0],
 m 136 10 [1,0,1]]
def VU:List RO:=[
 n 9 129,
 o (.bin .add (t 129) (i 1)) 130 [0],
 m 130 9 [1,0,1]]
def VV:List RO:=[
 n 3 168,
 o (.bin .mul (i 2) (t 168)) 169 [0],
 o (.bin .add (t 169) (i 1)) 170 [1],
 n 4 171,
 o (.build [(.v (.int .i64 0)),.aJ,.aJ] [(0,1,(t 170)),(1,1,(t 171))]) 172 [2,3],
 o (.alloc [(.v (.int .i64 0)),.aJ,.aJ]) 12 [],
 S 3 12 172 (k [5,4] 5)]
def VW:List RO:=[
 n 3 173,
 o (.bin .mul (i 2) (t 173)) 174 [0],
 o (.bin .add (t 174) (i 1)) 175 [1],
 o (.mkSlice 3 1 8 [(.int .i64 0)] (t 175)) 176 [2,2],
 m 176 13 [3,0,1,2,3]]
def VX:List RO:=[
 o (.bL (i 0)) 14 []]
def VY:List RO:=[
 n 14 177,
 n 13 178,
 o (.len (t 178)) 179 [1],
 b .lss 177 179 180 [0,2]]
def VZ:List RO:=[
 n 13 183,
 n 14 184,
 x 1 183 184 185 [0,1,0,1],
 s (.store 1 (t 185) (i 1099511627776)) [2,0,1]]
def V0:List RO:=[
 n 14 186,
 o (.bin .rem (t 186) (i 2)) 187 [0],
 o (.bin .eql (t 187) (i 0)) 188 [1]]
def Wa:List RO:=[
 n 13 189,
 n 14 190,
 L 3 1 191 [],
 n 14 192,
 o (.bin .quo (t 192) (i 2)) 193 [3],
 n 3 194,
 o (.call 26 [(t 191),(t 193),(t 194)]) 195 [2,4,5],
 x 1 189 190 196 (k [0,1] 6),
 S 1 196 195 (k [7,6,6] 6)]
def Wb:List RO:=[
 n 14 181,
 o (.bin .add (t 181) (i 1)) 182 [0],
 m 182 14 [1,0,1]]
def Wc:List RO:=[
 n 13 197,
 a 2 12 198 [0],
 S 1 198 197 [1,0,0]]
def Wd:List RO:=[
 L 3 12 199 [],
 S 3 2 199 [0,0]]
def d14:DC:=(j (y HF)
 (j (y HG)
 (j (y afB)
 (j (j (y afC)
 (.block 0 (.loop (j (j (y afD)
 (.cond (.tmp 20) .skip
 (.exit 0)))
 (j (.block 1 (j (j (y afE)
 (.block 2 (.loop (j (j (y afF)
 (.cond (.tmp 26) .skip
 (.exit 2)))
 (j (.block 3 (j (y afG)
 (j (j (y afH)
 (.block 4 (.loop (j (j (y afI)
 (.cond (.tmp 37) .skip
 (.exit 4)))
 (j (.block 5 (j (y FN)
 (.cond (.tmp 54) (y VC)
 .skip)))
 (y VD))))))
 (j (y VE)
 (.cond (.tmp 83) (Y VF)
 .skip)))))
 (y VG))))))
 (j (y VH)
 (.cond (.tmp 110) (y VI)
 .skip))))
 (y VJ))))))
 (j (j (y VK)
 (.block 6 (.loop (j (j (y VL)
 (.cond (.tmp 128) .skip
 (.exit 6)))
 (j (.block 7 (j (y VN)
 (.block 8 (.loop (j (j (y VO)
 (.cond (.tmp 134) .skip
 (.exit 8)))
 (j (.block 9 (j (y VP)
 (.block 10 (.loop (j (j (y VQ)
 (.cond (.tmp 141) .skip
 (.exit 10)))
 (j (.block 11 (Y VR))
 (y VS)))))))
 (y VT)))))))
 (y VU))))))
 (j (y VV)
 (j (y VW)
 (j (j (y VX)
 (.block 12 (.loop (j (j (y VY)
 (.cond (.tmp 180) .skip
 (.exit 12)))
 (j (.block 13 (j (y VZ)
 (j (y V0)
 (.cond (.tmp 188) (y Wa)
 .skip))))
 (y Wb))))))
 (j (y Wc)
 (j (y Wd)
 .ret))))))))))
def Bi:List bO:=[.cell 2 3 true]
theorem c14 [Laid]:aO Tryz.prog 12 200 d14 Bi:=⟨Tryz.f12,by kernel_rfl,by kernel_rfl,by kernel_rfl,by kernel_rfl,by kernel_rfl⟩
def HT:List RO:=[
 o (.box (t 0)) 3 [],
 o (.bL (i 0)) 6 []]
def HU:List RO:=[
 o (.bL (i 0)) 7 []]
def HV:List RO:=[
 n 1 9,
 m 9 8 [0,0]]
def HW:List RO:=[
 n 8 10,
 n 2 11,
 b .lss 10 11 12 [0,1]]
def HX:List RO:=[
 n 7 15,
 a 0 3 16 [],
 l 16 17 [1],
 n 8 18,
 x 3 17 18 19 [2,3],
 a 2 19 20 [4],
 l 20 21 [5],
 o (.call 28 [(t 15),(t 21)]) 22 [0,6],
 m 22 7 (k [7,7] 7)]
def HY:List RO:=[
 n 8 13,
 o (.bin .add (t 13) (i 1)) 14 [0],
 m 14 8 [1,0,1]]
def HZ:List RO:=[
 n 7 23,
 m 23 6 [0,0]]
def d34:DC:=(j (y HT)
 (j (y HU)
 (j (j (y HV)
 (.block 0 (.loop (j (j (y HW)
 (.cond (.tmp 12) .skip
 (.exit 0)))
 (j (.block 1 (y HX))
 (y HY))))))
 (j (y HZ)
 .ret))))
def xz:List bO:=[.slot 6]
theorem c34 [Laid]:aO Tryz.prog 26 24 d34 xz:=⟨Tryz.f26,by kernel_rfl,by kernel_rfl,by kernel_rfl,by kernel_rfl,by kernel_rfl⟩
def Ij:List RO:=[
 o (.box (t 1)) 3 [],
 o (.bL (.cm .aJ)) 4 []]
def Ik:List RO:=[
 a 3 3 8 [],
 l 8 9 [0],
 o (.bin .geq (t 9) (i 1099511627776)) 10 [1]]
def Il:List RO:=[
 n 0 11,
 m 11 4 [0,0]]
def Im:List RO:=[
 o (.bL (.cm .aJ)) 5 []]
def Io:List RO:=[
 o (.bL (.cm (.v (.bool false)))) 6 []]
def Ip:List RO:=[
 o (.bL (i 0)) 7 []]
def Iq:List RO:=[
 n 7 12,
 n 0 13,
 o (.len (t 13)) 14 [1],
 b .lss 12 14 15 [0,2]]
def vL:List RO:=[
 n 6 18,
 o (.un .not (t 18)) 19 [0],
 m 19 20 [1],
 w 0 21 20 true [2],
 w 7 22 20 true [2],
 g (.idxAddr 5 (t 21) (t 22)) 23 20 true [3,4,2],
 u 0 23 24 20 true [5,2],
 v 24 25 20 true [6,2],
 u 0 3 26 20 true [2],
 v 26 27 20 true [8,2],
 g (.bin .eql (t 25) (t 27)) 28 20 true [7,9,2],
 q 20 28 29 [2,10],
 m 29 30 [11,2],
 w 0 31 30 true [12],
 w 7 32 30 true [12],
 g (.idxAddr 5 (t 31) (t 32)) 33 30 true [13,14,12],
 u 1 33 34 30 true [15,12],
 v 34 35 30 true [16,12],
 u 1 3 36 30 true [12],
 v 36 37 30 true [18,12],
 g (.bin .eql (t 35) (t 37)) 38 30 true [17,19,12],
 q 30 38 39 [12,20],
 m 39 40 [21,12],
 w 0 41 40 true [22],
 w 7 42 40 true [22],
 g (.idxAddr 5 (t 41) (t 42)) 43 40 true [23,24,22],
 u 2 43 44 40 true [25,22],
 v 44 45 40 true [26,22],
 u 2 3 46 40 true [22],
 v 46 47 40 true [28,22],
 g (.bin .eql (t 45) (t 47)) 48 40 true [27,29,22],
 q 40 48 49 [22,30]]
def Ir:List RO:=[
 o (.bL (.cm (.v (.bool true)))) 6 []]
def Is:List RO:=[
 a 3 3 50 [],
 l 50 51 [0],
 n 0 52,
 n 7 53,
 x 5 52 53 54 [2,3],
 a 3 54 55 [4],
 l 55 56 [5],
 b .lss 51 56 57 [1,6]]
def Br:List RO:=[
 n 5 58,
 L 5 3 59 [],
 o (.bslice 1 5 [(.v (.int .i64 0)),(.v (.int .i64 0)),(.v (.int .i64 0)),(.v (.int .i64 0)),.aJ] [(0,5,(t 59))]) 60 [1],
 o (.append 77 5 56 (t 58) (t 60)) 61 [0,2],
 m 61 5 [3,3,0,1,2,3]]
def uj:List RO:=[
 n 6 62,
 o (.un .not (t 62)) 63 [0],
 m 63 64 [1],
 g (.load 5 true (t 3)) 65 64 true [2],
 w 0 66 64 true [2],
 w 7 67 64 true [2],
 g (.idxAddr 5 (t 66) (t 67)) 68 64 true [4,5,2],
 g (.load 5 true (t 68)) 69 64 true [6,2],
 g (.call 47 [(t 65),(t 69)]) 70 64 true [3,7,2,2],
 q 64 70 71 [2,8]]
def Fs:List RO:=[
 o (.bL (.cm (.v (.bool true)))) 6 []]
def Bs:List RO:=[
 n 5 72,
 L 5 3 73 [],
 o (.bslice 1 5 [(.v (.int .i64 0)),(.v (.int .i64 0)),(.v (.int .i64 0)),(.v (.int .i64 0)),.aJ] [(0,5,(t 73))]) 74 [1],
 o (.append 77 5 56 (t 72) (t 74)) 75 [0,2],
 m 75 5 [3,3,0,1,2,3]]
def Bt:List RO:=[
 n 5 76,
 n 0 77,
 n 7 78,
 x 5 77 78 79 [1,2],
 L 5 79 80 [3],
 o (.bslice 1 5 [(.v (.int .i64 0)),(.v (.int .i64 0)),(.v (.int .i64 0)),(.v (.int .i64 0)),.aJ] [(0,5,(t 80))]) 81 [4],
 o (.append 77 5 56 (t 76) (t 81)) 82 [0,5],
 m 82 5 (k [6,6] 6)]
def Bu:List RO:=[
 n 7 16,
 o (.bin .add (t 16) (i 1)) 17 [0],
 m 17 7 [1,0,1]]
def Bv:List RO:=[
 n 6 83,
 o (.un .not (t 83)) 84 [0]]
def Bw:List RO:=[
 n 5 85,
 L 5 3 86 [],
 o (.bslice 1 5 [(.v (.int .i64 0)),(.v (.int .i64 0)),(.v (.int .i64 0)),(.v (.int .i64 0)),.aJ] [(0,5,(t 86))]) 87 [1],
 o (.append 77 5 56 (t 85) (t 87)) 88 [0,2],
 m 88 5 [3,3,0,1,2,3]]
def Bx:List RO:=[
 n 5 89,
 m 89 4 [0,0]]
def d35:DC:=(j (y Ij)
 (j (j (y Ik)
 (.cond (.tmp 10) (j (y Il)
 .ret)
 .skip))
 (j (y Im)
 (j (y Io)
 (j (j (y Ip)
 (.block 0 (.loop (j (j (y Iq)
 (.cond (.tmp 15) .skip
 (.exit 0)))
 (j (.block 1 (j (j (Y vL)
 (.cond (.tmp 49) (j (y Ir)
 (j (Y Is)
 (.cond (.tmp 57) (j (y Br)
 (.exit 1))
 .skip)))
 .skip))
 (j (j (Y uj)
 (.cond (.tmp 71) (j (y Fs)
 (y Bs))
 .skip))
 (y Bt))))
 (y Bu))))))
 (j (j (y Bv)
 (.cond (.tmp 84) (y Bw)
 .skip))
 (j (y Bx)
 .ret)))))))
def By:List bO:=[.slot 4]
theorem c35 [Laid]:aO Tryz.prog 27 90 d35 By:=⟨Tryz.f27,by kernel_rfl,by kernel_rfl,by kernel_rfl,by kernel_rfl,by kernel_rfl⟩
def H4:List RO:=[
 o (.box (t 1)) 3 [],
 o (.bL (.cm .aJ)) 4 []]
def tA:List RO:=[
 o (.bL (.cm .aJ)) 5 []]
def H5:List RO:=[
 o (.bL (i 0)) 6 []]
def H6:List RO:=[
 n 6 7,
 n 0 8,
 b .lss 7 8 9 [0,1]]
def yQ:List RO:=[
 n 5 12,
 o (.build [(.v (.int .i64 0)),(.v (.int .i64 0))] [(0,1,(i 2))]) 13 [],
 o (.bslice 1 2 [(.v (.int .i64 0)),(.v (.int .i64 0))] [(0,2,(t 13))]) 14 [1],
 o (.append 75 2 16 (t 12) (t 14)) 15 [0,2],
 m 15 5 [3,3,0,1,2,3]]
def NA:List RO:=[
 n 6 10,
 o (.bin .add (t 10) (i 1)) 11 [0],
 m 11 6 [1,0,1]]
def H7:List RO:=[
 n 5 16,
 L 2 3 17 [],
 o (.bslice 1 2 [(.v (.int .i64 0)),(.v (.int .i64 0))] [(0,2,(t 17))]) 18 [1],
 o (.append 75 2 16 (t 16) (t 18)) 19 [0,2],
 m 19 4 [3,3,0,1,2,3]]
def d37:DC:=(j (y H4)
 (j (y tA)
 (j (j (y H5)
 (.block 0 (.loop (j (j (y H6)
 (.cond (.tmp 9) .skip
 (.exit 0)))
 (j (.block 1 (y yQ))
 (y NA))))))
 (j (y H7)
 .ret))))
def xA:List bO:=[.slot 4]
theorem c37 [Laid]:aO Tryz.prog 29 20 d37 xA:=⟨Tryz.f29,by kernel_rfl,by kernel_rfl,by kernel_rfl,by kernel_rfl,by kernel_rfl⟩
def HE:List RO:=[
 o (.box (t 0)) 2 [],
 o (.bL (.cm (.v (.bool false)))) 4 []]
def DA:List RO:=[
 n 1 5,
 o (.bin .add (t 5) (i 1)) 6 [0],
 a 0 2 7 [],
 l 7 8 [2],
 o (.len (t 8)) 9 [3],
 b .lss 6 9 10 [1,4],
 m 10 11 [5],
 u 2 2 12 11 true [6],
 v 12 13 11 true [7,6],
 g (.bin .gtr (t 13) (i 0)) 14 11 true [8,6],
 q 11 14 15 [6,9],
 m 15 16 [10,6],
 u 0 2 17 16 true [11],
 v 17 18 16 true [12,11],
 w 1 19 16 true [11],
 g (.idxAddr 3 (t 18) (t 19)) 20 16 true [13,14,11],
 u 0 20 21 16 true [15,11],
 v 21 22 16 true [16,11],
 g (.bin .geq (t 22) (i 0)) 23 16 true [17,11],
 q 16 23 24 [11,18],
 m 24 25 [19,11],
 u 0 2 26 25 true [20],
 v 26 27 25 true [21,20],
 w 1 28 25 true [20],
 g (.bin .add (t 28) (i 1)) 29 25 true [23,20],
 g (.idxAddr 3 (t 27) (t 29)) 30 25 true [22,24,20],
 u 0 30 31 25 true [25,20],
 v 31 32 25 true [26,20],
 g (.bin .geq (t 32) (i 0)) 33 25 true [27,20],
 q 25 33 34 [20,28],
 m 34 4 (k [29,20] 29)]
def d38:DC:=(j (y HE)
 (j (y DA)
 .ret))
def Bh:List bO:=[.slot 4]
theorem c38 [Laid]:aO Tryz.prog 30 35 d38 Bh:=⟨Tryz.f30,by kernel_rfl,by kernel_rfl,by kernel_rfl,by kernel_rfl,by kernel_rfl⟩
theorem Ws{c d:Int}(hc:0<=c/\c<=1099511627776)(hd:0<=d):jK c d=min (c+d) 1099511627776:=by
 unfold jK;split<;>omega
theorem t34(x:Input)(i m:Nat)(him:i<=m)(hm:m<=x.aj.length)(hd:ny x.aj):aT Tryz.prog 26 [x.enc,ti i,ti m] (ti (fZ x i m)):=by
 have aw:=YW;obtain⟨part,tG⟩:∃p,(x.aj.take m).drop i=p:=⟨_,rfl⟩;have Qr:part.length=m-i:=by rw[<-tG];simp;omega
 have hpd:∀c∈part,0<=c.delete/\c.delete<=1099511627776:=λc hc=>hd.2 c (by rw[<-tG]at hc;exact Zav (Zbv hc));have hpg:∀k,i+k<m->part.getD k default=x.aj.getD (i+k) default:=by
  intro k hk;rw[<-tG];have:i+k<x.aj.length:=by omega
  simp[List.getD,Zbb,hk]
 have hlen:=hd.1;unfold fZ;rw[tG];refine c34.ok (by simp) (aK ?_);simp[Input.enc];refine aa.ab aw fw [1,2,3] ?_;simp[HT];refine aa.le (Le.aD (o:=[]) (l:=[(1,.v (ti i)),(2,.v (ti m)),(3,.v (.box [.sl (ba x.aj),.sl (aC x.insert),ti x.swap]))]) (nxt':=1200) ?_ ?_ ?_ ?_) ?_;iterate 4(·simp)
 refine aa.ab aw fw [1,2,3,7] ?_;simp[HU];refine aa.seq ?_;refine aa.ab aw fw [2,3,7,8] ?_;simp[HV];refine aa.block ?_;refine aa.loop (λy:Nat=>⟨DM.look [(2,.v (ti m)),(3,.v (.box [.sl (ba x.aj),.sl (aC x.insert),ti x.swap])),(7,.v (ti (ed (part.take y) 0))),(8,.v (ti ((i+y:Nat):Int)))],cE [],2000,1000,[]⟩)
  (λy=>y<=part.length) (λy=>part.length-y) 0 (Le.aD (o:=[]) ?_ ?_ ?_ ?_) (by simp) (λy hy=>?_)
 iterate 3(·simp)
 ·simp[ed]
 obtain⟨k,hk⟩:∃k,i+y=k:=⟨_,rfl⟩;rw[hk];have Qw:=oe (l:=part.take y) (λc hc=>(hpd c (Zav hc)).1) 0 (by omega);refine aa.seq ?_;refine aa.ab aw fw [2,3,7,8,12] ?_;simp[HW];refine aa.cond rfl (λbK=>?_) (λbK=>?_)
 ·simp at bK;have hyp:y<part.length:=by omega
  have QA:k<x.aj.length:=by omega
  have hr:=dR QA;have hg:=hpg y (by omega);rw[hk]at hg;obtain⟨c,hc⟩:∃c,x.aj.getD k default=c:=⟨_,rfl⟩;rw[hc]at hr hg;have hpy:part[y]=c:=by simpa [List.getD,hyp]using hg
  have XC:=hpd c (by rw[<-hpy];exact Zbj hyp);have OE:part.take (y+1)=part.take y++[c]:=by rw[Zbw,Zan hyp,hpy];rfl
  obtain⟨u,hu⟩:∃u,ed (part.take y) 0=u:=⟨_,rfl⟩;rw[hu]at Qw⊢;refine aa.skip ?_;simp;refine aa.seq ?_;refine aa.block ?_;refine aa.dc aw fw [2,3,7,8] ?_;simp[HX,QA,hr,bD.enc];refine⟨⟨u,c.delete,⟨rfl,rfl⟩,by omega,by omega⟩, ?_⟩;refine aa.dc aw fw [2,3,7,8] ?_;simp[HY];rw[au (by omega)];refine⟨y+1,Le.aD (o:=[]) ?_ ?_ ?_ ?_,by omega,by omega⟩;iterate 3(·simp)
  ·simp[OE,v8,hu,Ws Qw XC.1];omega
 ·simp at bK;have tp:y=part.length:=by omega
  subst tp;refine aa.exit ?_;simp;refine aa.ab aw fw [6] ?_;simp[HZ];refine aa.ret ?_;simp[xz]
theorem t38(x:Input)(m:Nat)(hm:m<=1000000)(hl:x.aj.length<=1000000):aT Tryz.prog 30 [x.enc,ti m] (.bool (b8 x m)):=by
 have aw:=okE;obtain⟨v,hv⟩:∃v,b8 x m=v:=⟨_,rfl⟩;rw[hv];refine c38.ok (by simp) (aK ?_);simp[Input.enc];refine aa.ab aw fw [1,2] ?_;simp[HE];refine aa.le (Le.aD (o:=[]) (l:=[(1,.v (ti m)),(2,.v (.box [.sl (ba x.aj),.sl (aC x.insert),ti x.swap]))]) (nxt':=1200) ?_ ?_ ?_ ?_) ?_;iterate 4(·simp)
 have hw:IntKind.i64.wrap ((m:Int)+1)=m+1:=au (by omega);refine aa.b7 aw fw [(4,.v (.bool v))] ?_ ?_
 ·by_cases h1:m+1<x.aj.length
  ·have lX:=dR (l:=x.aj) (y:=m) (by omega);have qa:DM.rowAt (ba x.aj) ((m:Int)+1)=(x.aj.getD (m+1) default).enc:=dR (l:=x.aj) h1;obtain⟨c1,aX⟩:∃c,x.aj.getD m default=c:=⟨_,rfl⟩;obtain⟨c2,dU⟩:∃c,x.aj.getD (m+1) default=c:=⟨_,rfl⟩;rw[aX]at lX;rw[dU]at qa;have OT:((m:Int)+1<x.aj.length)=True:=by simp;omega
   have hd3:(0<=(m:Int)+1)=True:=by simp;omega
   have hd4:m<x.aj.length:=by omega
   have z8:v=(decide (0<x.swap)&&(decide (0<=c1.kind)&&decide (0<=c2.kind))):=by
    rw[<-hv];unfold b8;rw[aX,dU];simp[h1]
   by_cases s1:0<x.swap<;>by_cases s2:0<=c1.kind<;>by_cases s3:0<=c2.kind<;>simp[DA,hw,lX,qa,OT,hd3,hd4,bD.enc,s1,s2,s3,z8]
  ·have OT:((m:Int)+1<x.aj.length)=False:=by simp;omega
   have z8:v=false:=by rw[<-hv];simp[b8];intros;omega
   simp[DA,hw,OT,z8]
 refine aa.ret ?_;simp[Bh]
theorem t37(n:Nat)(a b:Int)(hn:n<=1000000):aT Tryz.prog 29 [ti n,.agg [ti a,ti b]] (.sl (cT (dg n++[(a,b)]))):=by
 have aw:=okE;refine c37.ok (by simp) (aK ?_);simp;refine aa.ab aw fw [0,3] ?_;simp[H4];refine aa.ab aw fw [0,3,5] ?_;simp[tA];refine aa.seq ?_;refine aa.le (Le.aD (o:=[]) (l:=[(0,.v (ti n)),(3,.v (.box [ti a,ti b])),(5,.aJ)]) (nxt':=1200) ?_ ?_ ?_ ?_) ?_;iterate 4(·simp)
 refine aa.le (Le.ml (k:=5) 75 (sz:=2) (by omega) (by simp)) ?_;rw[iw];refine aa.ab aw fw [0,3,5,6] ?_;simp[H5];refine aa.block ?_;refine aa.loop (λy:Nat=>⟨DM.look [(0,.v (ti n)),(3,.v (.box [ti a,ti b])),(5,.bd 1200 0),(6,.v (ti y))],cE [(1200,.arr 0 75 2 (cT (dg y)))],2000,1000,[]⟩)
  (λy=>y<=n) (λy=>n-y) 0 (Le.aD ?_ ?_ ?_ ?_) (by simp) (λy hy=>?_)
 ·simp
 ·simp
 ·simp[dg,cT]
 ·simp
 refine aa.seq ?_;refine aa.ab aw fw [0,3,5,6,9] ?_;simp[H6];have hd:(dg y).length=y:=by simp[dg]
 refine aa.cond rfl (λbK=>?_) (λbK=>?_)
 ·simp at bK;refine aa.skip ?_;simp;refine aa.seq ?_;refine aa.block ?_;refine aa.dc aw fw [0,3,5,6] ?_;simp[yQ,cF,chunk,hd];refine⟨by omega, ?_⟩;refine aa.dc aw fw [0,3,5,6] ?_;simp[NA];rw[au (by omega)];refine⟨y+1,Le.aD ?_ ?_ ?_ ?_,by omega,by omega⟩
  ·simp
  ·simp
  ·simp[cT,dg,ZbR]
  ·simp
 ·simp at bK;have tp:y=n:=by omega
  subst tp;refine aa.exit ?_;simp;refine aa.ab aw fw [4] ?_;simp[H7,cF,chunk,hd];refine⟨by omega, ?_⟩;refine aa.ret ?_;simp[xA,cT]
def dt(a:bn)(p:Bool×List bn)(b:bn):Bool×List bn:=
 if p.1=false/\sameKey b a=true then(true,p.2++[if a.cost<b.cost then a else b])
 else if p.1=false/\before a b then(true,p.2++[a]++[b])
 else(p.1,p.2++[b])
def eW(a:bn)(l:List bn):Bool×List bn:=l.foldl (dt a) (false,[])
def pc(l:List bn)(a:bn):List bn:=
 if 1099511627776<=a.cost then l else if(eW a l).1 then(eW a l).2 else(eW a l).2++[a]
theorem FV{a:bn}{l:List bn}{y:Nat}(h:y<l.length):eW a (l.take (y+1))=dt a (eW a (l.take y)) (l.getD y default):=by
 unfold eW;rw[Zbw,Zan h,Zat];simp[List.getD,h]
theorem I2(a:bn)(p:Bool×List bn)(b:bn):(dt a p b).2.length<=p.2.length+2:=by
 unfold dt;split
 ·simp
 ·split<;>simp
theorem pW(l:List bn)(a:bn):bb (l++[a])=bb l++[a.enc]:=by simp[bb]
theorem t35(l:List bn)(a:bn)(hl:l.length<=1000000000):aT Tryz.prog 27 [.sl (bb l),.agg a.enc] (.sl (bb (pc l a))):=by
 have aw:=ok39;obtain⟨R,hR⟩:∃R,pc l a=R:=⟨_,rfl⟩;rw[hR];unfold pc at hR;obtain⟨af,at',ax,ac,ao⟩:=a;obtain⟨a,ha⟩:∃a:bn,(⟨af,at',ax,ac,ao⟩:bn)=a:=⟨_,rfl⟩;have haf:a.f=af:=by rw[<-ha]
 have dy:a.t=at':=by rw[<-ha]
 have hax:a.term=ax:=by rw[<-ha]
 have hac:a.cost=ac:=by rw[<-ha]
 have YX:a.enc=[ti af,ti at',ti ax,ti ac,.sl (cT ao)]:=by rw[<-ha];rfl
 refine c35.ok (by simp) (aK ?_);rw[ha]at hR;simp[bn.enc];refine aa.ab aw fw [0,3] ?_;simp[Ij];refine aa.le (Le.aD (o:=[]) (l:=[(0,.v (.sl (bb l))),(3,.v (.box [ti af,ti at',ti ax,ti ac,.sl (cT ao)]))]) (nxt':=1200) ?_ ?_ ?_ ?_) ?_;iterate 4(·simp)
 refine aa.seq ?_;refine aa.ab aw fw [0,3,10] ?_;simp[Ik];refine aa.cond rfl (λh=>?_) (λh=>?_)
 ·simp at h;rw[if_pos (by rw[hac];exact h)]at hR;subst hR;refine aa.ab aw fw [4] ?_;simp[Il];refine aa.ret ?_;simp[By]
 simp at h;rw[if_neg (by rw[hac];omega)]at hR;refine aa.skip ?_;simp;refine aa.ab aw fw [0,3,5] ?_;simp[Im];refine aa.le (Le.aD (o:=[]) (l:=[(0,.v (.sl (bb l))),(3,.v (.box [ti af,ti at',ti ax,ti ac,.sl (cT ao)])),(5,.aJ)]) (nxt':=1500) ?_ ?_ ?_ ?_) ?_;iterate 4(·simp)
 refine aa.le (Le.ml (k:=5) 77 (sz:=5) (by omega) (by simp)) ?_;rw[iw];refine aa.ab aw fw [0,3,5,6] ?_;simp[Io];refine aa.seq ?_;refine aa.ab aw fw [0,3,5,6,7] ?_;simp[Ip];obtain⟨L,hL⟩:∃L,l.length=L:=⟨_,rfl⟩;rw[hL]at hl;refine aa.block ?_;refine aa.loop (λy:Nat=>⟨DM.look [(0,.v (.sl (bb l))),(3,.v (.box [ti af,ti at',ti ax,ti ac,.sl (cT ao)])),(5,.bd 1500 0),(6,.v (.bool (eW a (l.take y)).1)),(7,.v (ti y))],cE [(1500,.arr 0 77 5 (bb (eW a (l.take y)).2))],2000,1000,[]⟩)
  (λy=>y<=L/\(eW a (l.take y)).2.length<=2*y) (λy=>L-y) 0 (Le.aD ?_ ?_ ?_ ?_) (by simp[eW]) (λy hy=>?_)
 ·simp
 ·simp
 ·simp[eW,bb]
 ·simp[eW]
 obtain⟨jV,fg⟩:=hy;refine aa.seq ?_;refine aa.ab aw fw [0,3,5,6,7,15] ?_;simp[Iq,hL];refine aa.cond rfl (λbK=>?_) (λbK=>?_)
 ·simp at bK;have tp:y<l.length:=by omega
  have hr:=kY tp;have kI:=FV (a:=a) tp;obtain⟨b,hb⟩:∃b,l.getD y default=b:=⟨_,rfl⟩;rw[hb]at hr kI;obtain⟨p,hp⟩:∃p,eW a (l.take y)=p:=⟨_,rfl⟩;rw[hp]at kI fg⊢;have hlen2:=I2 a p b;obtain⟨dn,out⟩:=p;simp only at fg hlen2⊢;obtain⟨bf,bt,bx,bc,bo⟩:=b;have hsk:sameKey ⟨bf,bt,bx,bc,bo⟩ a=decide (bf=af/\bt=at'/\bx=ax):=by simp only[sameKey,haf,dy,hax]
  refine aa.skip ?_;simp;refine aa.seq ?_;obtain⟨q,hq⟩:∃q,dt a (dn,out) ⟨bf,bt,bx,bc,bo⟩=q:=⟨_,rfl⟩;rw[hq]at kI hlen2;unfold dt at hq;simp only[hsk]at hq;refine aa.to ⟨DM.look [(0,.v (.sl (bb l))),(3,.v (.box [ti af,ti at',ti ax,ti ac,.sl (cT ao)])),(5,.bd 1500 0),(6,.v (.bool q.1)),(7,.v (ti y))],cE [(1500,.arr 0 77 5 (bb q.2))],3000,1000,[]⟩ ?_ ?_
  ·refine aa.block ?_;refine aa.seq ?_;have hprow:[ti bf,ti bt,ti bx,ti bc,.sl (cT bo)]=(⟨bf,bt,bx,bc,bo⟩:bn).enc:=rfl;obtain⟨c1,aX⟩:∃c:Bool,decide (dn=false/\(bf=af/\bt=at'/\bx=ax))=c:=⟨_,rfl⟩;refine aa.b7 aw fw [(0,.v (.sl (bb l))),(3,.v (.box [ti af,ti at',ti ax,ti ac,.sl (cT ao)])),(5,.bd 1500 0),(6,.v (.bool dn)),(7,.v (ti y)),(49,.v (.bool c1))] ?_ ?_
   ·cases dn with
    |true=>
     have:c1=false:=by rw[<-aX];simp
     simp[vL,this]
    |false=>
     by_cases q1:bf=af
     ·by_cases q2:bt=at'
      ·by_cases q3:bx=ax
       ·have:c1=true:=by rw[<-aX];simp[q1,q2,q3]
        simp[vL,hr,bK,hL,bn.enc,q1,q2,q3,this]
       ·have:c1=false:=by rw[<-aX];simp[q3]
        simp[vL,hr,bK,hL,bn.enc,q1,q2,q3,this]
      ·have:c1=false:=by rw[<-aX];simp[q2]
       simp[vL,hr,bK,hL,bn.enc,q1,q2,this]
     ·have:c1=false:=by rw[<-aX];simp[q1]
      simp[vL,hr,bK,hL,bn.enc,q1,this]
   have tail:∀(dn':Bool) (YY:List bn),YY.length<=out.length+1->q=(dn',YY++[⟨bf,bt,bx,bc,bo⟩])->∀nx,aa Tryz.prog 90 (.region false Bt) (tY 1 λe s=>e=Exit.normal/\Le s ⟨DM.look [(0,.v (.sl (bb l))),(3,.v (.box [ti af,ti at',ti ax,ti ac,.sl (cT ao)])),(5,.bd 1500 0),(6,.v (.bool q.1)),(7,.v (ti y))],cE [(1500,.arr 0 77 5 (bb q.2))],3000,1000,[]⟩)
     ⟨DM.look [(0,.v (.sl (bb l))),(3,.v (.box [ti af,ti at',ti ax,ti ac,.sl (cT ao)])),(5,.bd 1500 0),(6,.v (.bool dn')),(7,.v (ti y))],cE [(1500,.arr 0 77 5 (bb YY))],nx,1000,[]⟩:=by
    intro dn' YY ho hqq nx;refine aa.dc aw fw [0,3,5,6,7] ?_;simp[Bt,hr,bK,hL,bn.enc,cF,chunk];refine⟨by omega,Le.aD ?_ ?_ ?_ ?_⟩
    ·simp
    ·simp
    ·simp[hqq,pW,bn.enc]
    ·simp[hqq]
   refine aa.cond rfl (λh1=>?_) (λh1=>?_)
   ·rw[h1]at aX;simp only[decide_eq_true_eq]at aX;obtain⟨ES,Q9⟩:=aX;subst ES;rw[if_pos ⟨rfl,by simpa using Q9⟩]at hq;refine aa.ab aw fw [0,3,5,6,7] ?_;simp[Ir];refine aa.ab aw fw [0,3,5,6,7,57] ?_;simp[Is,hr,bK,hL,bn.enc];refine aa.cond rfl (λh2=>?_) (λh2=>?_)
    ·simp at h2;refine aa.ab aw fw [0,3,5,6,7] ?_;simp[Br,cF,chunk];refine⟨by omega, ?_⟩;refine aa.exit ?_;simp;rw[if_pos (by rw[hac];exact h2)]at hq;subst hq;refine Le.aD ?_ ?_ ?_ ?_
     ·simp
     ·simp
     ·simp[pW,YX]
     ·simp
    ·simp at h2;rw[if_neg (by rw[hac];omega)]at hq;refine aa.skip ?_;simp;refine aa.le (Le.aD (o:=[(1500,.arr 0 77 5 (bb out))]) (l:=[(0,.v (.sl (bb l))),(3,.v (.box [ti af,ti at',ti ax,ti ac,.sl (cT ao)])),(5,.bd 1500 0),(6,.v (.bool true)),(7,.v (ti y))]) (nxt':=4000) ?_ ?_ ?_ ?_) ?_;iterate 4(·simp)
     refine aa.seq ?_;refine aa.b7 aw fw [(0,.v (.sl (bb l))),(3,.v (.box [ti af,ti at',ti ax,ti ac,.sl (cT ao)])),(5,.bd 1500 0),(6,.v (.bool true)),(7,.v (ti y)),(71,.v (.bool false))] (by simp[uj]) ?_;refine aa.cond rfl (λh=>by cases h) (λ_=>?_);refine aa.skip ?_;simp;refine aa.le (Le.aD (o:=[(1500,.arr 0 77 5 (bb out))]) (l:=[(0,.v (.sl (bb l))),(3,.v (.box [ti af,ti at',ti ax,ti ac,.sl (cT ao)])),(5,.bd 1500 0),(6,.v (.bool true)),(7,.v (ti y))]) (nxt':=5000) ?_ ?_ ?_ ?_) ?_;iterate 4(·simp)
     exact tail true out (by omega) hq.symm 5000
   ·rw[h1]at aX;simp only[decide_eq_false_iff_not]at aX;rw[if_neg (λh=>aX ⟨h.1,by simpa using h.2⟩)]at hq;refine aa.skip ?_;simp;refine aa.le (Le.aD (o:=[(1500,.arr 0 77 5 (bb out))]) (l:=[(0,.v (.sl (bb l))),(3,.v (.box [ti af,ti at',ti ax,ti ac,.sl (cT ao)])),(5,.bd 1500 0),(6,.v (.bool dn)),(7,.v (ti y))]) (nxt':=4000) ?_ ?_ ?_ ?_) ?_;iterate 4(·simp)
    refine aa.seq ?_;obtain⟨c2,dU⟩:∃c:Bool,decide (dn=false/\before a ⟨bf,bt,bx,bc,bo⟩)=c:=⟨_,rfl⟩;refine aa.b7 aw fw [(0,.v (.sl (bb l))),(3,.v (.box [ti af,ti at',ti ax,ti ac,.sl (cT ao)])),(5,.bd 1500 0),(6,.v (.bool dn)),(7,.v (ti y)),(71,.v (.bool c2))] ?_ ?_
    ·cases dn with
     |true=>
      have:c2=false:=by rw[<-dU];simp
      simp[uj,this]
     |false=>
      have:c2=decide (before a ⟨bf,bt,bx,bc,bo⟩):=by rw[<-dU];simp
      simp[uj,hr,bK,hL,bn.enc,this];rw[show lT [ti bf,ti bt,ti bx,ti bc,T.sl (cT bo)]=⟨bf,bt,bx,bc,bo⟩from nf ⟨bf,bt,bx,bc,bo⟩,show lT [ti af,ti at',ti ax,ti ac,T.sl (cT ao)]=a by rw[<-YX];exact nf a];exact⟨⟨⟨⟨af,at',ax,ac,ao⟩,rfl,rfl,rfl,rfl,rfl⟩,⟨⟨bf,bt,bx,bc,bo⟩,rfl,rfl,rfl,rfl,rfl⟩⟩,Iff.rfl⟩
    refine aa.cond rfl (λh2=>?_) (λh2=>?_)
    ·rw[h2]at dU;simp only[decide_eq_true_eq]at dU;obtain⟨ES,MW⟩:=dU;subst ES;rw[if_pos ⟨rfl,MW⟩]at hq;refine aa.ab aw fw [0,3,5,6,7] ?_;simp[Fs];refine aa.dc aw fw [0,3,5,6,7] ?_;simp[Bs,cF,chunk];refine⟨by omega, ?_⟩;refine aa.le (Le.aD (o:=[(1500,.arr 0 77 5 (bb (out++[a])))]) (l:=[(0,.v (.sl (bb l))),(3,.v (.box [ti af,ti at',ti ax,ti ac,.sl (cT ao)])),(5,.bd 1500 0),(6,.v (.bool true)),(7,.v (ti y))]) (nxt':=5000) ?_ ?_ ?_ ?_) ?_
     ·simp
     ·simp
     ·simp[pW,YX]
     ·simp
     exact tail true (out++[a]) (by simp) hq.symm 5000
    ·rw[h2]at dU;simp only[decide_eq_false_iff_not]at dU;rw[if_neg dU]at hq;refine aa.skip ?_;simp;refine aa.le (Le.aD (o:=[(1500,.arr 0 77 5 (bb out))]) (l:=[(0,.v (.sl (bb l))),(3,.v (.box [ti af,ti at',ti ax,ti ac,.sl (cT ao)])),(5,.bd 1500 0),(6,.v (.bool dn)),(7,.v (ti y))]) (nxt':=5000) ?_ ?_ ?_ ?_) ?_;iterate 4(·simp)
     exact tail dn out (by omega) hq.symm 5000
  ·refine aa.dc aw fw [0,3,5,6,7] ?_;simp[Bu];rw[au (by omega)];refine⟨y+1,Le.aD ?_ ?_ ?_ ?_,⟨by omega,by rw[kI];omega⟩,by omega⟩
   ·simp
   ·simp
   ·simp[kI]
   ·simp[kI]
 simp at bK;have tp:y=l.length:=by omega
 subst tp;rw[Zbd]at fg⊢;obtain⟨p,hp⟩:∃p,eW a l=p:=⟨_,rfl⟩;rw[hp]at hR fg⊢;obtain⟨dn,out⟩:=p;simp only at hR fg⊢;refine aa.exit ?_;simp;refine aa.seq ?_;refine aa.ab aw fw [3,5,84] ?_;simp[Bv];refine aa.to ⟨DM.look [(5,.bd 1500 0)],cE [(1500,.arr 0 77 5 (bb R))],9000,1000,[]⟩ ?_ ?_
 ·refine aa.cond rfl (λh3=>?_) (λh3=>?_)
  ·simp at h3;subst h3;rw[if_neg (by simp)]at hR;refine aa.dc aw fw [5] ?_;simp[Bw,cF,chunk];refine⟨by omega,Le.aD ?_ ?_ ?_ ?_⟩
   ·simp
   ·simp
   ·simp[<-hR,pW,YX]
   ·simp
  ·simp at h3;subst h3;rw[if_pos rfl]at hR;subst hR;refine aa.skip ⟨rfl,Le.aD ?_ ?_ ?_ ?_⟩;iterate 3(·simp)
   ·simp
 refine aa.ab aw fw [4] ?_;simp[Bx];refine aa.ret ?_;simp[By]
@[simp] theorem decArc_enc'(a b c d:Int)(o:List (Int×Int)):lT [ti a,ti b,ti c,ti d,.sl (cT o)]=⟨a,b,c,d,o⟩:=nf ⟨a,b,c,d,o⟩
@[simp] theorem decArc_nil'(a b c d:Int):lT [ti a,ti b,ti c,ti d,.sl []]=⟨a,b,c,d,[]⟩:=nf ⟨a,b,c,d,[]⟩
def ft{α:Type}(f:Nat->List α)(i m:Nat):List α:=(List.range (m-i)).flatMap λe=>f (i+e)
theorem pf{α:Type}(f:Nat->List α){i m:Nat}(h:i<=m):ft f i (m+1)=ft f i m++f m:=by
 unfold ft;rw[show m+1-i=(m-i)+1 by omega,Zax,Zcu];simp[show i+(m-i)=m by omega]
theorem tO{α:Type}(f:Nat->List α)(i:Nat):ft f i i=[]:=by simp[ft]
def lO(x:Input)(m t:Nat):Int:=(x.aj.getD m default).read.getD t default
def rA(x:Input)(i m t:Nat):List bn:=if m<x.aj.length/\0<=lO x m t then [⟨2*i,2*m+2,t,jK (fZ x i m) (lO x m t),dg (m-i)++[(1,(t:Int))]⟩]else []
def rS(x:Input)(i m:Nat):List bn:=if b8 x m then [⟨2*i,2*m+1,(x.aj.getD (m+1) default).kind,jK (fZ x i m) x.swap,dg (m-i)++[(4,0)]⟩]else []
def rM(x:Input)(i m:Nat):List bn:=ft (rA x i m) 0 x.insert.length++rS x i m
def rT(x:Input)(i:Nat):List bn:=if b8 x i then [⟨2*i+1,2*i+4,(x.aj.getD i default).kind,0,[]⟩]else []
def rI(x:Input)(i:Nat):List bn:=ft (rM x i) i (x.aj.length+1)++rT x i
def iT(x:Input)(i m t:Nat):List bn:=[⟨2*i,2*m,t,jK (fZ x i m) (x.insert.getD t default),dg (m-i)++[(3,(t:Int))]⟩]
def iM(x:Input)(i m:Nat):List bn:=ft (iT x i m) 0 x.insert.length
def iI(x:Input)(i:Nat):List bn:=ft (iM x i) i (x.aj.length+1)
def bl(l cs:List bn):List bn:=cs.foldl pc l
theorem cX(l cs ds:List bn):bl l (cs++ds)=bl (bl l cs) ds:=by simp[bl]
def dS(x:Input):List bn:=bl (bl [] (ft (rI x) 0 (x.aj.length+1))) (ft (iI x) 0 (x.aj.length+1))
def dV(x:Input)(k:Nat):List Int:=(List.range (2*x.aj.length+1)).map λs=>if s<k then(if s % 2=0 then fZ x (s/2) x.aj.length else 1099511627776)else 0
def aA(x:Input):aM:=⟨2*x.aj.length+1,dS x,dV x (2*x.aj.length+1)⟩
theorem FW(a:bn)(p:Bool×List bn)(b:bn):(dt a p b).2.length+p.1.toNat<=p.2.length+1+(dt a p b).1.toNat:=by
 unfold dt;cases hp:p.1 with
 |true=>simp
 |false=>
  simp only[true_and,Bool.toNat_false];split
  ·simp
  ·split<;>simp
theorem I3(a:bn)(l:List bn):(eW a l).2.length<=l.length+(eW a l).1.toNat:=by
 have key:∀(l:List bn) (p:Bool×List bn),(l.foldl (dt a) p).2.length+p.1.toNat<=p.2.length+l.length+(l.foldl (dt a) p).1.toNat:=by
  intro l;induction l with
  |nil=>intro p;simp
  |cons b l ih=>
   intro p;simp only[Zaz,Za9];have h:=ih (dt a p b);have hs:=FW a p b;omega
 have h:=key l (false,[]);simpa [eW]using h
theorem Wt(l:List bn)(a:bn):(pc l a).length<=l.length+1:=by
 have h:=I3 a l;unfold pc;split
 ·omega
 ·split
  ·rename_i hd;rw[hd]at h;simpa using h
  ·rename_i hd;simp only[ZcL]at hd;rw[hd]at h;simp at h⊢;omega
theorem iy(cs:List bn):∀l:List bn,(bl l cs).length<=l.length+cs.length:=by
 induction cs with
 |nil=>intro l;simp[bl]
 |cons c cs ih=>
  intro l;have h1:=ih (pc l c);have h2:=Wt l c;have e:bl l (c::cs)=bl (pc l c) cs:=rfl;rw[e];simp only[Za9];omega
theorem Wu(x:Input)(i m t:Nat):(rA x i m t).length<=1:=by unfold rA;split<;>simp
theorem rS_len(x:Input)(i m:Nat):(rS x i m).length<=1:=by unfold rS;split<;>simp
theorem rT_len(x:Input)(i:Nat):(rT x i).length<=1:=by unfold rT;split<;>simp
theorem lU{α:Type}{f:Nat->List α}{B:Nat}(h:∀k,(f k).length<=B)(i m:Nat):(ft f i m).length<=(m-i)*B:=by
 unfold ft;have:∀k,((List.range k).flatMap λe=>f (i+e)).length<=k*B:=by
  intro k;induction k with
  |zero=>simp
  |succ k ih=>
   rw[Zax,Zcu,ZaB,Nat.succ_mul];have:=h (i+k);simp only[Zbo,List.flatMap_nil,ZaJ];omega
 exact this _
theorem Wv(x:Input)(i m:Nat)(h:x.insert.length<=100):(rM x i m).length<=101:=by
 unfold rM;have h1:=lU (Wu x i m) 0 x.insert.length;have h2:=rS_len x i m;rw[ZaB];omega
theorem Ww(x:Input)(i:Nat)(h:x.insert.length<=100)(hn:x.aj.length<=60):(rI x i).length<=7000:=by
 unfold rI;have h1:=lU (f:=rM x i) (B:=101) (λk=>Wv x i k h) i (x.aj.length+1);have h2:=rT_len x i;rw[ZaB];omega
theorem Wx(x:Input)(i m:Nat)(h:x.insert.length<=100):(iM x i m).length<=100:=by
 unfold iM;have h1:=lU (f:=iT x i m) (B:=1) (λk=>by simp[iT]) 0 x.insert.length;omega
theorem Wy(x:Input)(i:Nat)(h:x.insert.length<=100)(hn:x.aj.length<=60):(iI x i).length<=7000:=by
 unfold iI;have h1:=lU (f:=iM x i) (B:=100) (λk=>Wx x i k h) i (x.aj.length+1);omega
abbrev s34(x:Input):DM.Spec:=cz (λts=>∃i m:Nat,ts=[x.enc,ti i,ti m]/\i<=m/\m<=x.aj.length) (fun|[_,.int _ i,.int _ m]=>ti (fZ x i.toNat m.toNat)|_=>.bool false) true
abbrev s38(x:Input):DM.Spec:=cz (λts=>∃m:Nat,ts=[x.enc,ti m]/\m<=1000000) (fun|[_,.int _ m]=>.bool (b8 x m.toNat)|_=>.bool false) true
abbrev s37:DM.Spec:=cz (λts=>∃(n:Nat) (a b:Int),ts=[ti n,.agg [ti a,ti b]]/\n<=1000000) (fun|[.int _ n,.agg [.int _ a,.int _ b]]=>.sl (cT (dg n.toNat++[(a,b)]))|_=>.bool false) false
abbrev s35:DM.Spec:=cz (λts=>∃(l:List bn) (a:bn),ts=[.sl (bb l),.agg a.enc]/\l.length<=1000000000) (fun|[.sl l,.agg a]=>.sl (bb (pc (zL l) (lT a)))|_=>.bool false) false
abbrev Γ14(x:Input):Env:=aW [(26,s34 x),(30,s38 x),(29,s37),(27,s35),(28,Wr)]
theorem UH(x:Input)(hd:ny x.aj):ay Tryz.prog (Γ14 x):=by
 refine ay.cons (ay.cons (ay.cons (ay.cons YW ?_) ?_) ?_) ?_
 ·rintro ts ⟨l,a,rfl,h⟩;exact⟨by simpa using t35 l a h,λh=>by cases h⟩
 ·rintro ts ⟨n,a,b,rfl,h⟩;exact⟨by simpa using t37 n a b h,λh=>by cases h⟩
 ·rintro ts ⟨m,rfl,h⟩;exact⟨by simpa using t38 x m h hd.1,λ_=>rfl⟩
 ·rintro ts ⟨i,m,rfl,h1,h2⟩;exact⟨by simpa using t34 x i m h1 h2 hd,λ_=>rfl⟩
theorem t14(x:Input)(hx:Iw x)(hn60:x.aj.length<=60)(ht:x.insert.length<=100)(hread:∀c∈x.aj,c.read.length=x.insert.length):aT Tryz.prog 12 [x.enc] (aA x).enc:=by
 have aw:=UH x hx.1;have AW:T.agg [.sl (ba x.aj),.sl (aC x.insert),ti x.swap]=x.enc:=rfl;obtain⟨hd,lz,hins,Wi,hsw0,z8⟩:=hx;obtain⟨n,hn⟩:∃n,x.aj.length=n:=⟨_,rfl⟩;obtain⟨tm,jd⟩:∃n,x.insert.length=n:=⟨_,rfl⟩;have ZI:=eF hd;have lenA:∀y,y<=n+1->(bl [] (ft (rI x) 0 y)).length<=430000:=by
  intro y hy;have h1:=iy (ft (rI x) 0 y) [];have h2:=lU (f:=rI x) (B:=7000) (λk=>Ww x k ht hn60) 0 y;simp at h1;omega
 obtain⟨R,hR⟩:∃R,(aA x).enc=R:=⟨_,rfl⟩;refine c14.ok (by simp) (aK ?_);rw[hR];simp only[aA,dS]at hR;simp[Input.enc];refine aa.ab aw fw [1,2] ?_;simp[HF];refine aa.le (Le.aD (o:=[(1003,.box [.v (ti 0),.aJ,.aJ])]) (l:=[(1,.v (.box [.sl (ba x.aj),.sl (aC x.insert),ti x.swap])),(2,.ptr 1003 0)]) (nxt':=1500) ?_ ?_ ?_ ?_) ?_;iterate 4(·simp)
 refine aa.ab aw fw [1,2,3] ?_;simp[HG,hn];refine aa.ab aw fw [1,2,3,4] ?_;simp[afB];refine aa.seq ?_;refine aa.le (Le.aD (o:=[(1003,.box [.v (ti 0),.aJ,.aJ])]) (l:=[(1,.v (.box [.sl (ba x.aj),.sl (aC x.insert),ti x.swap])),(2,.ptr 1003 0),(3,.v (ti n)),(4,.v (.sl (bb [])))]) (nxt':=2500) ?_ ?_ ?_ ?_) ?_;iterate 3(·simp)
 ·simp[bb]
 refine aa.ab aw fw [1,2,3,4,5] ?_;simp[afC];obtain⟨IU,LP⟩:∃l,bl [] (ft (rI x) 0 (n+1))=l:=⟨_,rfl⟩;have lal1:IU.length<=430000:=by rw[<-LP];exact lenA _ (by omega)
 refine aa.to ⟨DM.look [(1,.v (.box [.sl (ba x.aj),.sl (aC x.insert),ti x.swap])),(2,.ptr 1003 0),(3,.v (ti n)),(4,.v (.sl (bb IU)))],cE [(1003,.box [.v (ti 0),.aJ,.aJ])],100000,1000,[]⟩ ?_ ?_
 ·refine aa.block ?_;refine aa.loop (λy:Nat=>⟨DM.look [(1,.v (.box [.sl (ba x.aj),.sl (aC x.insert),ti x.swap])),(2,.ptr 1003 0),(3,.v (ti n)),(4,.v (.sl (bb (bl [] (ft (rI x) 0 y))))),(5,.v (ti y))],cE [(1003,.box [.v (ti 0),.aJ,.aJ])],10000,1000,[]⟩)
   (λy=>y<=n+1) (λy=>n+1-y) 0 (Le.aD ?_ ?_ ?_ ?_) (by simp) (λy hy=>?_)
  iterate 3(·simp)
  ·simp[tO,bl]
  have lal:=lenA y hy;have LX:=pf (rI x) (Zbg y);obtain⟨al,ky⟩:∃l,bl [] (ft (rI x) 0 y)=l:=⟨_,rfl⟩;have qn:bl [] (ft (rI x) 0 (y+1))=bl al (rI x y):=by rw[LX,cX,ky]
  rw[ky]at lal⊢;refine aa.seq ?_;refine aa.ab aw fw [1,2,3,4,5,20] ?_;simp[afD];refine aa.cond rfl (λbK=>?_) (λbK=>?_)
  ·simp at bK;have w2y:IntKind.i64.wrap (2*(y:Int))=2*y:=au (by omega);refine aa.skip ?_;simp;refine aa.seq ?_;refine aa.to ⟨DM.look [(1,.v (.box [.sl (ba x.aj),.sl (aC x.insert),ti x.swap])),(2,.ptr 1003 0),(3,.v (ti n)),(4,.v (.sl (bb (bl al (rI x y))))),(5,.v (ti y))],cE [(1003,.box [.v (ti 0),.aJ,.aJ])],50000,1000,[]⟩ ?_ ?_
   ·refine aa.block ?_;refine aa.seq ?_;refine aa.ab aw fw [1,2,3,4,5,6] ?_;simp[afE];obtain⟨JT,xQ⟩:∃l,bl al (ft (rM x y) y (n+1))=l:=⟨_,rfl⟩;have lB:∀m,m<=n+1->(bl al (ft (rM x y) y m)).length<=440000:=by
     intro m hm;have h1:=iy (ft (rM x y) y m) al;have h2:=lU (f:=rM x y) (B:=101) (λk=>Wv x y k ht) y m;omega
    have lal2:JT.length<=440000:=by rw[<-xQ];exact lB _ (by omega)
    have mL:bl al (rI x y)=bl JT (rT x y):=by rw[<-xQ,<-cX];unfold rI;rw[hn]
    refine aa.to ⟨DM.look [(1,.v (.box [.sl (ba x.aj),.sl (aC x.insert),ti x.swap])),(2,.ptr 1003 0),(3,.v (ti n)),(4,.v (.sl (bb JT))),(5,.v (ti y))],cE [(1003,.box [.v (ti 0),.aJ,.aJ])],40000,1000,[]⟩ ?_ ?_
    ·refine aa.block ?_;refine aa.loop (λm:Nat=>⟨DM.look [(1,.v (.box [.sl (ba x.aj),.sl (aC x.insert),ti x.swap])),(2,.ptr 1003 0),(3,.v (ti n)),(4,.v (.sl (bb (bl al (ft (rM x y) y m))))),(5,.v (ti y)),(6,.v (ti m))],cE [(1003,.box [.v (ti 0),.aJ,.aJ])],20000,1000,[]⟩)
      (λm=>y<=m/\m<=n+1) (λm=>n+1-m) y (Le.aD ?_ ?_ ?_ ?_) (by omega) (λm hm=>?_)
     iterate 3(·simp)
     ·simp[tO,bl]
     obtain⟨wH,EB⟩:=hm;have lalm:=lB m EB;have LY:=pf (rM x y) wH;obtain⟨Gr,LZ⟩:∃l,bl al (ft (rM x y) y m)=l:=⟨_,rfl⟩;have L5:bl al (ft (rM x y) y (m+1))=bl Gr (rM x y m):=by rw[LY,cX,LZ]
     rw[LZ]at lalm⊢;refine aa.seq ?_;refine aa.ab aw fw [1,2,3,4,5,6,26] ?_;simp[afF];refine aa.cond rfl (λEz=>?_) (λEz=>?_)
     ·simp at Ez;have w2m:IntKind.i64.wrap (2*(m:Int))=2*m:=au (by omega);have w2m1:IntKind.i64.wrap (2*(m:Int)+1)=2*m+1:=au (by omega);have w2m2:IntKind.i64.wrap (2*(m:Int)+2)=2*m+2:=au (by omega);have wm1:IntKind.i64.wrap ((m:Int)+1)=m+1:=au (by omega);have wmy:IntKind.i64.wrap ((m:Int)-y)=((m-y:Nat):Int):=by rw[au (by omega)];omega
      obtain⟨d,hdd⟩:∃d,fZ x y m=d:=⟨_,rfl⟩;have hdb':=ZI y m;rw[hdd]at hdb';refine aa.skip ?_;simp;refine aa.seq ?_;refine aa.to ⟨DM.look [(1,.v (.box [.sl (ba x.aj),.sl (aC x.insert),ti x.swap])),(2,.ptr 1003 0),(3,.v (ti n)),(4,.v (.sl (bb (bl Gr (rM x y m))))),(5,.v (ti y)),(6,.v (ti m))],cE [(1003,.box [.v (ti 0),.aJ,.aJ])],40000,1000,[]⟩ ?_ ?_
      ·refine aa.block ?_;refine aa.ab aw fw [1,2,3,4,5,6,7] ?_;simp[afG,AW,hdd];refine⟨⟨y,m,⟨rfl,rfl⟩,wH,by omega⟩, ?_⟩;refine aa.seq ?_;refine aa.ab aw fw [1,2,3,4,5,6,7,8] ?_;simp[afH];obtain⟨al3,PM⟩:∃l,bl Gr (ft (rA x y m) 0 tm)=l:=⟨_,rfl⟩;have lC:∀t,t<=tm->(bl Gr (ft (rA x y m) 0 t)).length<=450000:=by
        intro t X2;have h1:=iy (ft (rA x y m) 0 t) Gr;have h2:=lU (f:=rA x y m) (B:=1) (λk=>Wu x y m k) 0 t;omega
       have lal3:al3.length<=450000:=by rw[<-PM];exact lC _ (by omega)
       have hfin3:bl Gr (rM x y m)=bl al3 (rS x y m):=by rw[<-PM,<-cX];unfold rM;rw[jd]
       refine aa.to ⟨DM.look [(1,.v (.box [.sl (ba x.aj),.sl (aC x.insert),ti x.swap])),(2,.ptr 1003 0),(3,.v (ti n)),(4,.v (.sl (bb al3))),(5,.v (ti y)),(6,.v (ti m)),(7,.v (ti d))],cE [(1003,.box [.v (ti 0),.aJ,.aJ])],40000,1000,[]⟩ ?_ ?_
       ·refine aa.block ?_;refine aa.loop (λt:Nat=>⟨DM.look [(1,.v (.box [.sl (ba x.aj),.sl (aC x.insert),ti x.swap])),(2,.ptr 1003 0),(3,.v (ti n)),(4,.v (.sl (bb (bl Gr (ft (rA x y m) 0 t))))),(5,.v (ti y)),(6,.v (ti m)),(7,.v (ti d)),(8,.v (ti t))],cE [(1003,.box [.v (ti 0),.aJ,.aJ])],30000,1000,[]⟩)
         (λt=>t<=tm) (λt=>tm-t) 0 (Le.aD ?_ ?_ ?_ ?_) (by simp) (λt X2=>?_)
        iterate 3(·simp)
        ·simp[tO,bl]
        have lalt:=lC t X2;have L6:=pf (rA x y m) (Zbg t);obtain⟨alt,halt⟩:∃l,bl Gr (ft (rA x y m) 0 t)=l:=⟨_,rfl⟩;have BR:bl Gr (ft (rA x y m) 0 (t+1))=bl alt (rA x y m t):=by rw[L6,cX,halt]
        rw[halt]at lalt⊢;refine aa.seq ?_;refine aa.ab aw fw [1,2,3,4,5,6,7,8,37] ?_;simp[afI,jd];refine aa.cond rfl (λhct=>?_) (λhct=>?_)
        ·simp at hct;refine aa.skip ?_;simp;refine aa.seq ?_;obtain⟨q,hq⟩:∃q,rA x y m t=q:=⟨_,rfl⟩;rw[hq]at BR;unfold rA at hq;rw[hdd,hn]at hq;refine aa.to ⟨DM.look [(1,.v (.box [.sl (ba x.aj),.sl (aC x.insert),ti x.swap])),(2,.ptr 1003 0),(3,.v (ti n)),(4,.v (.sl (bb (bl alt q)))),(5,.v (ti y)),(6,.v (ti m)),(7,.v (ti d)),(8,.v (ti t))],cE [(1003,.box [.v (ti 0),.aJ,.aJ])],40000,1000,[]⟩ ?_ ?_
         ·refine aa.block ?_;obtain⟨c,hc⟩:∃c:Bool,decide (m<n/\0<=lO x m t)=c:=⟨_,rfl⟩;by_cases Qo:m<n
          ·have hmc:m<x.aj.length:=by omega
           have KD:=dR hmc;obtain⟨cl,bj⟩:∃c,x.aj.getD m default=c:=⟨_,rfl⟩;have hclm:cl∈x.aj:=by rw[<-bj];simp[List.getD,hmc]
           have Qp:=hread cl hclm;have hcok:=lz cl hclm;rw[bj]at KD;have htr:t<cl.read.length:=by omega
           have tS:=cR htr;have GR:lO x m t=cl.read.getD t default:=by unfold lO;rw[bj]
           rw[GR]at hq hc;obtain⟨u,hu⟩:∃u,cl.read.getD t default=u:=⟨_,rfl⟩;rw[hu]at tS hq hc;refine aa.b7 aw fw [(1,.v (.box [.sl (ba x.aj),.sl (aC x.insert),ti x.swap])),(2,.ptr 1003 0),(3,.v (ti n)),(4,.v (.sl (bb alt))),(5,.v (ti y)),(6,.v (ti m)),(7,.v (ti d)),(8,.v (ti t)),(54,.v (.bool c))] ?_ ?_
           ·by_cases q2:0<=u
            ·have Ar:c=true:=by rw[<-hc];simp[Qo,q2]
             simp[FN,Qo,hn,KD,bD.enc,htr,tS,q2,Ar]
            ·have Ar:c=false:=by rw[<-hc];simp[q2]
             simp[FN,Qo,hn,KD,bD.enc,htr,tS,q2,Ar]
           refine aa.cond rfl (λh=>?_) (λh=>?_)
           ·rw[h]at hc;simp only[decide_eq_true_eq]at hc;rw[if_pos hc]at hq;have hub:u<=1099511627776:=hcok.2 u (by rw[<-hu];simp[List.getD,htr]);subst hq;refine aa.dc aw fw [1,2,3,4,5,6,7,8] ?_;simp[VC,w2y,w2m,w2m2,wmy,Qo,hn,KD,bD.enc,htr,tS];refine⟨⟨d,u,⟨rfl,rfl⟩,by omega,by omega⟩,⟨m-y,rfl,by omega⟩,⟨alt,⟨rfl,⟨⟨2*y,2*m+2,t,jK d u,dg (m-y)++[(1,(t:Int))]⟩,rfl⟩⟩,by omega⟩,Le.aD ?_ ?_ ?_ ?_⟩;iterate 3(·simp)
            ·simp[bl]
           ·rw[h]at hc;simp only[decide_eq_false_iff_not]at hc;rw[if_neg hc]at hq;subst hq;refine aa.skip ⟨rfl,Le.aD ?_ ?_ ?_ ?_⟩;iterate 3(·simp)
            ·simp[bl]
          ·have Ar:c=false:=by rw[<-hc];simp[Qo]
           rw[if_neg (λh=>Qo h.1)]at hq;subst hq;refine aa.b7 aw fw [(1,.v (.box [.sl (ba x.aj),.sl (aC x.insert),ti x.swap])),(2,.ptr 1003 0),(3,.v (ti n)),(4,.v (.sl (bb alt))),(5,.v (ti y)),(6,.v (ti m)),(7,.v (ti d)),(8,.v (ti t)),(54,.v (.bool false))] ?_ ?_
           ·simp[FN,Qo]
           refine aa.cond rfl (λh=>by cases h) (λ_=>?_);refine aa.skip ⟨rfl,Le.aD ?_ ?_ ?_ ?_⟩;iterate 3(·simp)
           ·simp[bl]
         ·refine aa.dc aw fw [1,2,3,4,5,6,7,8] ?_;simp[VD];rw[au (by omega)];refine⟨t+1,Le.aD ?_ ?_ ?_ ?_,by omega,by omega⟩;iterate 3(·simp)
          ·simp[BR]
        ·simp at hct;have:t=tm:=by omega
         subst this;refine aa.exit ⟨rfl,Le.aD ?_ ?_ ?_ ?_⟩;iterate 3(·simp)
         ·simp[<-PM,halt]
       simp;refine aa.ab aw fw [1,2,3,4,5,6,7,83] ?_;simp[VE,AW];refine⟨⟨m,rfl,by omega⟩, ?_⟩;rw[hfin3];obtain⟨q,hq⟩:∃q,rS x y m=q:=⟨_,rfl⟩;rw[hq];unfold rS at hq;rw[hdd]at hq;refine aa.cond rfl (λh=>?_) (λh=>?_)
       ·rw[if_pos h]at hq;have IW:m+1<x.aj.length:=by simp[b8]at h;exact h.1
        have KD:DM.rowAt (ba x.aj) ((m:Int)+1)=_:=dR IW;obtain⟨cl,bj⟩:∃c,x.aj.getD (m+1) default=c:=⟨_,rfl⟩;rw[bj]at KD hq;have hlt1:((m:Int)+1<n)=True:=by simp;omega
        have zp:(0<=(m:Int)+1)=True:=by simp;omega
        subst hq;refine aa.dc aw fw [1,2,3,4,5,6] ?_;simp[VF,w2y,w2m,w2m1,wm1,wmy,hn,KD,hlt1,zp,bD.enc];refine⟨⟨d,x.swap,⟨rfl,rfl⟩,by omega,by omega⟩,⟨m-y,rfl,by omega⟩,⟨al3,⟨rfl,⟨⟨2*y,2*m+1,cl.kind,jK d x.swap,dg (m-y)++[(4,0)]⟩,rfl⟩⟩,by omega⟩,Le.aD ?_ ?_ ?_ ?_⟩;iterate 3(·simp)
        ·simp[bl]
       ·rw[if_neg (by simp[h])]at hq;subst hq;refine aa.skip ⟨rfl,Le.aD ?_ ?_ ?_ ?_⟩;iterate 3(·simp)
        ·simp[bl]
      ·refine aa.dc aw fw [1,2,3,4,5,6] ?_;simp[VG];rw[au (by omega)];refine⟨m+1,Le.aD ?_ ?_ ?_ ?_,by omega,by omega⟩;iterate 3(·simp)
       ·simp[L5]
     ·simp at Ez;have:m=n+1:=by omega
      subst this;refine aa.exit ⟨rfl,Le.aD ?_ ?_ ?_ ?_⟩;iterate 3(·simp)
      ·simp[<-xQ,LZ]
    simp;refine aa.ab aw fw [1,2,3,4,5,110] ?_;simp[VH,AW];refine⟨⟨y,rfl,by omega⟩, ?_⟩;rw[mL];obtain⟨q,hq⟩:∃q,rT x y=q:=⟨_,rfl⟩;rw[hq];unfold rT at hq;refine aa.cond rfl (λh=>?_) (λh=>?_)
    ·rw[if_pos h]at hq;have IW:y<x.aj.length:=by simp[b8]at h;omega
     have KD:=dR IW;obtain⟨cl,bj⟩:∃c,x.aj.getD y default=c:=⟨_,rfl⟩;rw[bj]at KD hq;have w2y1:IntKind.i64.wrap (2*(y:Int)+1)=2*y+1:=au (by omega);have w2y4:IntKind.i64.wrap (2*(y:Int)+4)=2*y+4:=au (by omega);have hyn:y<n:=by omega
     subst hq;refine aa.dc aw fw [1,2,3,4,5] ?_;simp[VI,w2y,w2y1,w2y4,hn,KD,hyn,bD.enc];refine⟨⟨JT,⟨rfl,⟨⟨2*y+1,2*y+4,cl.kind,0,[]⟩,rfl⟩⟩,by omega⟩,Le.aD ?_ ?_ ?_ ?_⟩;iterate 3(·simp)
     ·simp[bl]
    ·rw[if_neg (by simp[h])]at hq;subst hq;refine aa.skip ⟨rfl,Le.aD ?_ ?_ ?_ ?_⟩;iterate 3(·simp)
     ·simp[bl]
   ·refine aa.dc aw fw [1,2,3,4,5] ?_;simp[VJ];rw[au (by omega)];refine⟨y+1,Le.aD ?_ ?_ ?_ ?_,by omega,by omega⟩;iterate 3(·simp)
    ·simp[qn]
  ·simp at bK;have:y=n+1:=by omega
   subst this;refine aa.exit ⟨rfl,Le.aD ?_ ?_ ?_ ?_⟩;iterate 3(·simp)
   ·simp[<-LP,ky]
 simp;refine aa.seq ?_;refine aa.ab aw fw [1,2,3,4,9] ?_;simp[VK];obtain⟨JT,xQ⟩:∃l,bl IU (ft (iI x) 0 (n+1))=l:=⟨_,rfl⟩;have PT:∀y,y<=n+1->(bl IU (ft (iI x) 0 y)).length<=900000:=by
  intro y hy;have h1:=iy (ft (iI x) 0 y) IU;have h2:=lU (f:=iI x) (B:=7000) (λk=>Wy x k ht hn60) 0 y;omega
 refine aa.to ⟨DM.look [(1,.v (.box [.sl (ba x.aj),.sl (aC x.insert),ti x.swap])),(2,.ptr 1003 0),(3,.v (ti n)),(4,.v (.sl (bb JT)))],cE [(1003,.box [.v (ti 0),.aJ,.aJ])],100000,1000,[]⟩ ?_ ?_
 ·refine aa.block ?_;refine aa.loop (λy:Nat=>⟨DM.look [(1,.v (.box [.sl (ba x.aj),.sl (aC x.insert),ti x.swap])),(2,.ptr 1003 0),(3,.v (ti n)),(4,.v (.sl (bb (bl IU (ft (iI x) 0 y))))),(9,.v (ti y))],cE [(1003,.box [.v (ti 0),.aJ,.aJ])],110000,1000,[]⟩)
   (λy=>y<=n+1) (λy=>n+1-y) 0 (Le.aD ?_ ?_ ?_ ?_) (by simp) (λy hy=>?_)
  iterate 3(·simp)
  ·simp[tO,bl]
  have lal:=PT y hy;have LX:=pf (iI x) (Zbg y);obtain⟨al,ky⟩:∃l,bl IU (ft (iI x) 0 y)=l:=⟨_,rfl⟩;have qn:bl IU (ft (iI x) 0 (y+1))=bl al (iI x y):=by rw[LX,cX,ky]
  rw[ky]at lal⊢;refine aa.seq ?_;refine aa.ab aw fw [1,2,3,4,9,128] ?_;simp[VL];refine aa.cond rfl (λbK=>?_) (λbK=>?_)
  ·simp at bK;have w2y:IntKind.i64.wrap (2*(y:Int))=2*y:=au (by omega);refine aa.skip ?_;simp;refine aa.seq ?_;refine aa.to ⟨DM.look [(1,.v (.box [.sl (ba x.aj),.sl (aC x.insert),ti x.swap])),(2,.ptr 1003 0),(3,.v (ti n)),(4,.v (.sl (bb (bl al (iI x y))))),(9,.v (ti y))],cE [(1003,.box [.v (ti 0),.aJ,.aJ])],150000,1000,[]⟩ ?_ ?_
   ·refine aa.block ?_;refine aa.ab aw fw [1,2,3,4,9,10] ?_;simp[VN];have lB:∀m,m<=n+1->(bl al (ft (iM x y) y m)).length<=910000:=by
     intro m hm;have h1:=iy (ft (iM x y) y m) al;have h2:=lU (f:=iM x y) (B:=100) (λk=>Wx x y k ht) y m;omega
    refine aa.block ?_;refine aa.loop (λm:Nat=>⟨DM.look [(1,.v (.box [.sl (ba x.aj),.sl (aC x.insert),ti x.swap])),(2,.ptr 1003 0),(3,.v (ti n)),(4,.v (.sl (bb (bl al (ft (iM x y) y m))))),(9,.v (ti y)),(10,.v (ti m))],cE [(1003,.box [.v (ti 0),.aJ,.aJ])],120000,1000,[]⟩)
     (λm=>y<=m/\m<=n+1) (λm=>n+1-m) y (Le.aD ?_ ?_ ?_ ?_) (by omega) (λm hm=>?_)
    iterate 3(·simp)
    ·simp[tO,bl]
    obtain⟨wH,EB⟩:=hm;have lalm:=lB m EB;have LY:=pf (iM x y) wH;obtain⟨Gr,LZ⟩:∃l,bl al (ft (iM x y) y m)=l:=⟨_,rfl⟩;have L5:bl al (ft (iM x y) y (m+1))=bl Gr (iM x y m):=by rw[LY,cX,LZ]
    rw[LZ]at lalm⊢;refine aa.seq ?_;refine aa.ab aw fw [1,2,3,4,9,10,134] ?_;simp[VO];refine aa.cond rfl (λEz=>?_) (λEz=>?_)
    ·simp at Ez;have w2m:IntKind.i64.wrap (2*(m:Int))=2*m:=au (by omega);have wmy:IntKind.i64.wrap ((m:Int)-y)=((m-y:Nat):Int):=by rw[au (by omega)];omega
     obtain⟨d,hdd⟩:∃d,fZ x y m=d:=⟨_,rfl⟩;have hdb':=ZI y m;rw[hdd]at hdb';refine aa.skip ?_;simp;refine aa.seq ?_;refine aa.to ⟨DM.look [(1,.v (.box [.sl (ba x.aj),.sl (aC x.insert),ti x.swap])),(2,.ptr 1003 0),(3,.v (ti n)),(4,.v (.sl (bb (bl Gr (iM x y m))))),(9,.v (ti y)),(10,.v (ti m))],cE [(1003,.box [.v (ti 0),.aJ,.aJ])],140000,1000,[]⟩ ?_ ?_
     ·refine aa.block ?_;refine aa.ab aw fw [1,2,3,4,9,10,11] ?_;simp[VP];have lC:∀t,t<=tm->(bl Gr (ft (iT x y m) 0 t)).length<=920000:=by
       intro t X2;have h1:=iy (ft (iT x y m) 0 t) Gr;have h2:=lU (f:=iT x y m) (B:=1) (λk=>by simp[iT]) 0 t;omega
      refine aa.block ?_;refine aa.loop (λt:Nat=>⟨DM.look [(1,.v (.box [.sl (ba x.aj),.sl (aC x.insert),ti x.swap])),(2,.ptr 1003 0),(3,.v (ti n)),(4,.v (.sl (bb (bl Gr (ft (iT x y m) 0 t))))),(9,.v (ti y)),(10,.v (ti m)),(11,.v (ti t))],cE [(1003,.box [.v (ti 0),.aJ,.aJ])],130000,1000,[]⟩)
       (λt=>t<=tm) (λt=>tm-t) 0 (Le.aD ?_ ?_ ?_ ?_) (by simp) (λt X2=>?_)
      iterate 3(·simp)
      ·simp[tO,bl]
      have lalt:=lC t X2;have L6:=pf (iT x y m) (Zbg t);obtain⟨alt,halt⟩:∃l,bl Gr (ft (iT x y m) 0 t)=l:=⟨_,rfl⟩;have BR:bl Gr (ft (iT x y m) 0 (t+1))=bl alt (iT x y m t):=by rw[L6,cX,halt]
      rw[halt]at lalt⊢;refine aa.seq ?_;refine aa.ab aw fw [1,2,3,4,9,10,11,141] ?_;simp[VQ,jd];refine aa.cond rfl (λhct=>?_) (λhct=>?_)
      ·simp at hct;refine aa.skip ?_;simp;refine aa.seq ?_;refine aa.block ?_;have htx:t<x.insert.length:=by omega
       have tS:=cR htx;obtain⟨u,hu⟩:∃u,x.insert.getD t default=u:=⟨_,rfl⟩;have hub:=Wi u (by rw[<-hu];simp[List.getD,htx]);have hiT:iT x y m t=[⟨2*y,2*m,t,jK d u,dg (m-y)++[(3,(t:Int))]⟩]:=by unfold iT;rw[hdd,hu]
       rw[hu]at tS;refine aa.dc aw fw [1,2,3,4,9,10,11] ?_;simp[VR,AW,hdd,w2y,w2m,wmy,jd,tS,hct];refine⟨⟨y,m,⟨rfl,rfl⟩,wH,by omega⟩,⟨d,u,⟨rfl,rfl⟩,by omega,by omega⟩,⟨m-y,rfl,by omega⟩,⟨alt,⟨rfl,⟨⟨2*y,2*m,t,jK d u,dg (m-y)++[(3,(t:Int))]⟩,rfl⟩⟩,by omega⟩, ?_⟩;refine aa.dc aw fw [1,2,3,4,9,10,11] ?_;simp[VS];rw[au (by omega)];refine⟨t+1,Le.aD ?_ ?_ ?_ ?_,by omega,by omega⟩;iterate 3(·simp)
       ·rw[hiT]at BR;have Pu:bl Gr (ft (iT x y m) 0 (t+1))=pc alt ⟨2*y,2*m,t,jK d u,dg (m-y)++[(3,(t:Int))]⟩:=BR;simp[Pu]
      ·simp at hct;have:t=tm:=by omega
       subst this;refine aa.exit ⟨rfl,Le.aD ?_ ?_ ?_ ?_⟩;iterate 3(·simp)
       ·simp[<-halt,iM,jd]
     ·refine aa.dc aw fw [1,2,3,4,9,10] ?_;simp[VT];rw[au (by omega)];refine⟨m+1,Le.aD ?_ ?_ ?_ ?_,by omega,by omega⟩;iterate 3(·simp)
      ·simp[L5]
    ·simp at Ez;have:m=n+1:=by omega
     subst this;refine aa.exit ⟨rfl,Le.aD ?_ ?_ ?_ ?_⟩;iterate 3(·simp)
     ·simp[<-LZ,iI,hn]
   ·refine aa.dc aw fw [1,2,3,4,9] ?_;simp[VU];rw[au (by omega)];refine⟨y+1,Le.aD ?_ ?_ ?_ ?_,by omega,by omega⟩;iterate 3(·simp)
    ·simp[qn]
  ·simp at bK;have:y=n+1:=by omega
   subst this;refine aa.exit ⟨rfl,Le.aD ?_ ?_ ?_ ?_⟩;iterate 3(·simp)
   ·simp[<-xQ,ky]
 simp;have lal2:JT.length<=900000:=by rw[<-xQ];exact PT _ (by omega)
 obtain⟨N,hN⟩:∃N,2*n+1=N:=⟨_,rfl⟩;have w2n:IntKind.i64.wrap (2*(n:Int))=2*n:=au (by omega);have w2n1:IntKind.i64.wrap (2*(n:Int)+1)=(N:Int):=by rw[au (by omega)];omega
 refine aa.ab aw fw [1,2,3,12] ?_;simp[VV,w2n,w2n1];refine aa.ab aw fw [1,2,3,12,13] ?_;simp[VW,w2n,w2n1];refine⟨by simp[cF];omega, ?_⟩;refine aa.seq ?_;refine aa.ab aw fw [1,2,3,12,13,14] ?_;simp[VX];have Qp:(dV x 0).length=N:=by simp[dV,hn,hN]
 have I4:∀k,(dV x k).length=N:=λk=>by simp[dV,hn,hN]
 have hF0:List.replicate N [T.int IntKind.i64 0]=aC (dV x 0):=by
  rw[<-hN,<-hn];apply ZbB
  ·simp[dV,aC]
  ·intro i h1 h2;simp[dV,aC]
 have hFs:∀k,k<N->(dV x k).set k (if k % 2=0 then fZ x (k/2) n else 1099511627776)=dV x (k+1):=by
  intro k hk;rw[<-hn];apply ZbB
  ·simp[dV]
  ·intro i h1 h2;rw[Zca];simp only[dV,Zcl,ZcB];by_cases e:k=i
   ·subst e;simp
   ·rw[if_neg e];have hq:(i<k+1)=(i<k):=propext ⟨λh=>by omega,λh=>by omega⟩;simp only[hq]
 rw[hF0];refine aa.block ?_;refine aa.loop (λk:Nat=>⟨DM.look [(1,.v (.box [.sl (ba x.aj),.sl (aC x.insert),ti x.swap])),(2,.ptr 1003 0),(3,.v (ti n)),(12,.ptr 100013 0),(13,.bd 100378 0),(14,.v (ti k))],cE [(1003,.box [.v (ti 0),.aJ,.aJ]),(100013,.box [.v (ti N),.v (.sl (bb JT)),.aJ]),(100378,.arr 0 3 1 (aC (dV x k)))],200000,1000,[]⟩)
  (λk=>k<=N) (λk=>N-k) 0 (Le.aD ?_ ?_ ?_ ?_) (by simp) (λk hk=>?_)
 iterate 4(·simp)
 refine aa.seq ?_;refine aa.ab aw fw [1,2,3,12,13,14,180] ?_;simp[VY,I4];refine aa.cond rfl (λwL=>?_) (λwL=>?_)
 ·simp at wL;have hrw:DM.rowAt (aC (dV x k)) (k:Int)=[ti ((dV x k).getD k default)]:=cR (by rw[I4];exact wL);have hrw2:DM.rowAt (aC ((dV x k).set k 1099511627776)) (k:Int)=[ti (((dV x k).set k 1099511627776).getD k default)]:=cR (by rw[Zcn,I4];exact wL);have hs:=hFs k wL;refine aa.skip ?_;simp;refine aa.seq ?_;refine aa.to ⟨DM.look [(1,.v (.box [.sl (ba x.aj),.sl (aC x.insert),ti x.swap])),(2,.ptr 1003 0),(3,.v (ti n)),(12,.ptr 100013 0),(13,.bd 100378 0),(14,.v (ti k))],cE [(1003,.box [.v (ti 0),.aJ,.aJ]),(100013,.box [.v (ti N),.v (.sl (bb JT)),.aJ]),(100378,.arr 0 3 1 (aC (dV x (k+1))))],300000,1000,[]⟩ ?_ ?_
  ·refine aa.block ?_;refine aa.ab aw fw [1,2,3,12,13,14] ?_;simp[VZ,I4,wL,hrw];rw[show(aC (dV x k)).set k [T.int IntKind.i64 1099511627776]=aC ((dV x k).set k 1099511627776)from I1 _ _ _];refine aa.le (Le.aD (o:=[(1003,.box [.v (ti 0),.aJ,.aJ]),(100013,.box [.v (ti N),.v (.sl (bb JT)),.aJ]),(100378,.arr 0 3 1 (aC ((dV x k).set k 1099511627776)))]) (l:=[(1,.v (.box [.sl (ba x.aj),.sl (aC x.insert),ti x.swap])),(2,.ptr 1003 0),(3,.v (ti n)),(12,.ptr 100013 0),(13,.bd 100378 0),(14,.v (ti k))]) (nxt':=210000) ?_ ?_ ?_ ?_) ?_;iterate 4(·simp)
   have wm:(k:Int).tmod 2=k % 2:=yD (by omega);have wd:(k:Int).tdiv 2=((k/2:Nat):Int):=by rw[lZ (by omega)];omega
   have ww:IntKind.i64.wrap ((k:Int) % 2)=k % 2:=au (by omega);have ww2:IntKind.i64.wrap ((k/2:Nat):Int)=((k/2:Nat):Int):=au (by omega);obtain⟨h2,hh2⟩:∃h,k/2=h:=⟨_,rfl⟩;rw[hh2]at wd ww2 hs;refine aa.ab aw fw [1,2,3,12,13,14,188] ?_;simp[V0,wm];refine aa.cond rfl (λh=>?_) (λh=>?_)
   ·simp at h;have rF:k % 2=0:=by omega
    rw[if_pos rF]at hs;refine aa.dc aw fw [1,2,3,12,13,14] ?_;simp[Wa,AW,wd,ww2,I4,wL,hrw2];refine⟨⟨h2,n,⟨rfl,rfl⟩,by omega,by omega⟩,Le.aD ?_ ?_ ?_ ?_⟩
    ·simp
    ·simp
    ·simp[<-hs,<-I1]
    ·simp
   ·simp at h;have rF:¬k % 2=0:=by omega
    rw[if_neg rF]at hs;refine aa.skip ⟨rfl,Le.aD ?_ ?_ ?_ ?_⟩
    ·simp
    ·simp
    ·simp[hs]
    ·simp
  ·refine aa.dc aw fw [1,2,3,12,13,14] ?_;simp[Wb];rw[au (by omega)];refine⟨k+1,Le.aD ?_ ?_ ?_ ?_,by omega,by omega⟩;iterate 3(·simp)
   ·simp
 ·simp at wL;have:k=N:=by omega
  subst this;refine aa.exit ?_;simp;refine aa.ab aw fw [2,12] ?_;simp[Wc];refine aa.ab aw fw [2] ?_;simp[Wd];refine aa.ret ?_;subst hR;rw[hn,hN,LP,xQ];simp[Bi,aM.enc];omega
end Go.Proofs
namespace Go.Proofs
open Go.DM Go.DM.Ou
section
variable(good:List T->Prop)(YS:List T->List T->Int)
abbrev wO(x y:List T):Bool:=decide (YS x y<0)
variable{good YS}
end
end Go.Proofs
namespace Go.Proofs
open Go.DM Go.DM.Ou
def oE:Nat:=1000000000
end Go.Proofs
namespace Go.Proofs
open Go.DM Go.DM.Ou
def bZ(a:bn):List T:=[ti a.f,ti a.t,ti a.term]
def ql(r:List T):Prop:=∃f t x:Int,r=[ti f,ti t,ti x]
def jg(r:List T):Int×Int×Int:=(cZ (r.getD 0 (ti 0)),cZ (r.getD 1 (ti 0)),cZ (r.getD 2 (ti 0)))
def XP(a b:Int×Int×Int):Prop:=a.1<b.1\/(a.1=b.1/\(a.2.1<b.2.1\/(a.2.1=b.2.1/\a.2.2<b.2.2)))
theorem or3(a b c d e f:Int):N0 [qD a d,qD b e,qD c f]<0↔XP (a,b,c) (d,e,f):=by
 simp only[N0,qD,XP];by_cases h1:a<d
 ·simp[h1]
 ·by_cases h2:d<a
  ·have:a≠d:=by omega
   simp[h1,h2,this]
  ·have:a=d:=by omega
   subst this;by_cases h3:b<e
   ·simp[h3]
   ·by_cases h4:e<b
    ·have:b≠e:=by omega
     simp[h3,h4,this]
    ·have:b=e:=by omega
     subst this;by_cases h5:c<f
     ·simp[h5]
     ·by_cases h6:f<c
      ·have:¬c<f:=by omega
       simp[h5,h6]
      ·simp[h5,h6]
theorem N1(x y:List T):wO dD x y=true↔XP (jg x) (jg y):=by
 simp only[wO,decide_eq_true_eq];exact or3 _ _ _ _ _ _
theorem sj(x y:List T):wO dD x y=false↔¬XP (jg x) (jg y):=by
 rw[<-N1];simp
theorem GA:SWO (wO dD):=by
 refine⟨λx=>?_,λx y z h1 h2=>?_,λx y z h1 h2=>?_⟩
 ·rw[sj];unfold XP;omega
 ·rw[N1]at h1 h2⊢;unfold XP at h1 h2⊢;omega
 ·rw[sj]at h1 h2⊢;unfold XP at h1 h2⊢;omega
theorem YU{x y:List T}(h:eqv (wO dD) x y=true):jg x=jg y:=by
 simp only[eqv,Zam,Zbm,sj]at h;unfold XP at h;generalize jg x=p at h⊢;generalize jg y=q at h⊢;obtain⟨a1,a2,a3⟩:=p;obtain⟨b1,b2,b3⟩:=q;simp only[Zar]at h⊢;omega
theorem xT{x y:List T}(hx:ql x)(hy:ql y)(h:jg x=jg y):x=y:=by
 obtain⟨a,b,c,rfl⟩:=hx;obtain⟨d,e,f,rfl⟩:=hy;simp[jg,cZ]at h;simp[h]
theorem FU{l:List (List T)}(hg:∀x∈l,ql x)(hn:l.Nodup)(z:List T):(l.filter (eqv (wO dD) z)).length<=1:=by
 have CG:(l.filter (eqv (wO dD) z)).Nodup:=hn.filter _;have dK:∀x∈l.filter (eqv (wO dD) z),ql x/\jg x=jg z:=by
  intro x hx;rw[ZaP]at hx;exact⟨hg x hx.1,(YU hx.2).symm⟩
 match hl:l.filter (eqv (wO dD) z),CG,dK with
 |[],_,_=>simp
 |[a],_,_=>simp
 |a::b::l,CG,dK=>
  exfalso;have h1:=dK a (by simp);have h2:=dK b (by simp);have:=xT h1.1 h2.1 (h1.2.trans h2.2.symm);subst this;simp at CG
theorem LQ{l1 l2:List (List T)}(hp:l1.Perm l2)(hg:∀x∈l2,ql x)(hn:l2.Nodup):je (wO dD) l1=je (wO dD) l2:=by
 refine Hi GA (pe GA l2) λx=>?_;rw[vv GA];have h1:=hp.filter (eqv (wO dD) x);have h2:=FU hg hn x;cases h:l2.filter (eqv (wO dD) x)with
 |nil=>rw[h]at h1;exact(List.Perm.eq_nil h1).symm
 |cons a t=>
  rw[h]at h1 h2;have:t=[]:=by cases t with
   |nil=>rfl
   |cons b t=>simp at h2
  subst this;exact(List.perm_singleton.1 h1).symm
theorem pd{a b:bn}:bZ a=bZ b↔sameKey a b=true:=by simp[bZ,sameKey]
theorem LS{al:List bn}(h:(al.map bZ).Nodup)(a:bn):((tL al a).map bZ).Nodup:=by
 unfold tL;split
 ·cases hf:al.findIdx? (sameKey a)with
  |none=>
   simp only;rw[ZaQ,ZbP];refine⟨h,by simp, ?_⟩;intro x hx y hy;simp only[Zau,ZbY,Zah]at hy;subst hy;obtain⟨b,hb,rfl⟩:=Zal.1 hx;intro e;rw[ZcH]at hf;have:=hf b hb;rw[pd.1 e.symm]at this;cases this
  |some i=>
   simp only;split
   ·have hi:=sQ hf;rw[ZbA]at hf;have hk:bZ a=bZ al[i]:=pd.2 hf.2.1;rw[ZbJ,hk];have:(al.map bZ).set i (bZ al[i])=al.map bZ:=by
     apply ZbB
     ·simp
     ·intro k h1 h2;rw[Zca];split
      ·rename_i e;subst e;simp
      ·rfl
    rw[this];exact h
   ·exact h
 ·exact h
theorem uS(cs:List bn):∀{al:List bn},(al.map bZ).Nodup->((bW al cs).map bZ).Nodup:=by
 induction cs with
 |nil=>intro al h;exact h
 |cons c cs ih=>intro al h;exact ih (LS h c)
def oD(al:List bn)(r:List T):bn:=(al.find? (sameKey ⟨(jg r).1,(jg r).2.1,(jg r).2.2,0,[]⟩)).getD default
theorem Wn{α:Type}(p:α->Bool)(l:List α):l.find? p=(l.findIdx? p).bind λi=>l[i]? :=by
 induction l with
 |nil=>rfl
 |cons x l ih=>
  rw[ZaO,Za3];cases h:p x with
  |true=>simp
  |false=>simp[ih];cases l.findIdx? p<;>simp
theorem sh{al:List bn}{a:bn}(h:a∈al):sameKey a (oD al (bZ a))=true/\oD al (bZ a)∈al/\∃i,oH a.key (entries al)=some (i,(oD al (bZ a)).key,.v (.agg (oD al (bZ a)).enc)):=by
 have e:sameKey ⟨(jg (bZ a)).1,(jg (bZ a)).2.1,(jg (bZ a)).2.2,0,[]⟩=sameKey a:=by
  funext b;simp[sameKey,jg,bZ,cZ]
 unfold oD;rw[e,vD,nI,Wn];cases hf:al.findIdx? (sameKey a)with
 |none=>
  rw[ZcH]at hf;have:=hf a h;simp[sameKey]at this
 |some i=>
  have hi:=sQ hf;rw[ZbA]at hf;simp only[Zb8,fz,Zan hi,Za0,Zbc];exact⟨hf.2.1,Zbj hi,i,rfl⟩
def jf(al:List bn):List bn:=(je (wO dD) (al.map bZ)).map (oD al)
theorem PQ{al:List bn}{sn:List Nat}(h1:sn.Nodup)(h2:∀i∈sn,i<al.length)(h3:∀i,i<al.length->i∈sn):(sn.map λi=>bZ (al.getD i default)).Perm (al.map bZ):=by
 have hp:sn.Perm (List.range al.length):=(List.perm_ext_iff_of_nodup h1 List.nodup_range).2 λi=>by
  rw[ZaM];exact⟨h2 i,h3 i⟩
 have:=hp.map λi=>bZ (al.getD i default);refine this.trans (List.Perm.of_eq ?_);apply ZbB
 ·simp
 ·intro k k1 k2;simp at k2;simp[k2]
end Go.Proofs
namespace Go.Proofs
open Go.Shelf
def I0:Go.Shelf.Ren:=⟨fun|6=>51|15=>77|14=>76|28=>104|29=>105|20=>96|21=>97|22=>98|23=>99|24=>100|25=>101|26=>102|27=>103|46=>112|47=>113|48=>114|49=>115|50=>116|57=>118|n=>n,fun|22=>104|24=>106|25=>108|3=>3|39=>134|0=>0|53=>159|55=>162|4=>4|46=>168|45=>167|50=>151|5=>5|9=>9|66=>180|70=>178|76=>185|77=>148|n=>n,fun|n=>n⟩
theorem YT:SlLaysF0.n6 Tryz.prog I0 where
 mixed:=by kernel_rfl
 f6:=⟨Tryz.f51.name,by decide+kernel,Tryz.func51.trans (congrArg some (by kernel_rfl))⟩
 f14:=⟨Tryz.f76.name,by decide+kernel,Tryz.func76.trans (congrArg some (by kernel_rfl))⟩
 f15:=Tryz.func77.trans (congrArg some (by kernel_rfl))
 f20:=⟨Tryz.f96.name,by decide+kernel,Tryz.func96.trans (congrArg some (by kernel_rfl))⟩
 f21:=⟨Tryz.f97.name,by decide+kernel,Tryz.func97.trans (congrArg some (by kernel_rfl))⟩
 f22:=⟨Tryz.f98.name,by decide+kernel,Tryz.func98.trans (congrArg some (by kernel_rfl))⟩
 f23:=⟨Tryz.f99.name,by decide+kernel,Tryz.func99.trans (congrArg some (by kernel_rfl))⟩
 f24:=⟨Tryz.f100.name,by decide+kernel,Tryz.func100.trans (congrArg some (by kernel_rfl))⟩
 f25:=⟨Tryz.f101.name,by decide+kernel,Tryz.func101.trans (congrArg some (by kernel_rfl))⟩
 f26:=⟨Tryz.f102.name,by decide+kernel,Tryz.func102.trans (congrArg some (by kernel_rfl))⟩
 f27:=⟨Tryz.f103.name,by decide+kernel,Tryz.func103.trans (congrArg some (by kernel_rfl))⟩
 f28:=Tryz.func104.trans (congrArg some (by kernel_rfl))
 f29:=Tryz.func105.trans (congrArg some (by kernel_rfl))
 f46:=⟨Tryz.f112.name,by decide+kernel,Tryz.func112.trans (congrArg some (by kernel_rfl))⟩
 f47:=Tryz.func113.trans (congrArg some (by kernel_rfl))
 f48:=Tryz.func114.trans (congrArg some (by kernel_rfl))
 f49:=⟨Tryz.f115.name,by decide+kernel,Tryz.func115.trans (congrArg some (by kernel_rfl))⟩
 f50:=⟨Tryz.f116.name,by decide+kernel,Tryz.func116.trans (congrArg some (by kernel_rfl))⟩
 f57:=⟨Tryz.f118.name,by decide+kernel,Tryz.func118.trans (congrArg some (by kernel_rfl))⟩
 t0:=Tryz.underlying0
 a0:=Tryz.isAgg0
 z0:=Tryz.sizeOf0
 v0:=Tryz.zeroValue0
 t3:=Tryz.underlying3
 a3:=Tryz.isAgg3
 z3:=Tryz.sizeOf3
 v3:=Tryz.zeroValue3
 t4:=Tryz.underlying4
 a4:=Tryz.isAgg4
 z4:=Tryz.sizeOf4
 v4:=Tryz.zeroValue4
 t5:=Tryz.underlying5
 a5:=Tryz.isAgg5
 z5:=Tryz.sizeOf5
 v5:=Tryz.zeroValue5
 t9:=Tryz.underlying9
 a9:=Tryz.isAgg9
 z9:=Tryz.sizeOf9
 v9:=Tryz.zeroValue9
 t22:=Tryz.underlying104
 a22:=Tryz.isAgg104
 z22:=Tryz.sizeOf104
 v22:=Tryz.zeroValue104
 t25:=Tryz.underlying108
 a25:=Tryz.isAgg108
 z25:=Tryz.sizeOf108
 v25:=Tryz.zeroValue108
 t39:=Tryz.underlying134
 a39:=Tryz.isAgg134
 z39:=Tryz.sizeOf134
 v39:=Tryz.zeroValue134
 t45:=Tryz.underlying167
 a45:=Tryz.isAgg167
 z45:=Tryz.sizeOf167
 v45:=Tryz.zeroValue167
 t46:=Tryz.underlying168
 a46:=Tryz.isAgg168
 z46:=Tryz.sizeOf168
 v46:=Tryz.zeroValue168
 t50:=Tryz.underlying151
 a50:=Tryz.isAgg151
 z50:=Tryz.sizeOf151
 v50:=Tryz.zeroValue151
 t53:=Tryz.underlying159
 a53:=Tryz.isAgg159
 z53:=Tryz.sizeOf159
 v53:=Tryz.zeroValue159
 t55:=Tryz.underlying162
 a55:=Tryz.isAgg162
 z55:=Tryz.sizeOf162
 v55:=Tryz.zeroValue162
 t66:=Tryz.underlying180
 a66:=Tryz.isAgg180
 z66:=Tryz.sizeOf180
 v66:=Tryz.zeroValue180
 t70:=Tryz.underlying178
 a70:=Tryz.isAgg178
 z70:=Tryz.sizeOf178
 v70:=Tryz.zeroValue178
 t76:=Tryz.underlying185
 a76:=Tryz.isAgg185
 z76:=Tryz.sizeOf185
 v76:=Tryz.zeroValue185
 t77:=Tryz.underlying148
 a77:=Tryz.isAgg148
 z77:=Tryz.sizeOf148
 v77:=Tryz.zeroValue148
end Go.Proofs
namespace Go.Proofs
open Go.DM Go.DM.Ou
def QB(x y:mh 3):Int:=dD (gn x) (gn y)
theorem row3(x:mh 3):∃a b c:Int,x.1=[a,b,c]:=by
 obtain⟨l,hl⟩:=x
 match l,hl with
 |[a,b,c],_=>exact⟨a,b,c,rfl⟩
theorem good_row(x:mh 3):ql (gn x):=by
 obtain⟨a,b,c,h⟩:=row3 x;exact⟨a,b,c,by unfold gn;rw[h];rfl⟩
theorem Wo{r:List T}(h:ql r):∃x:mh 3,gn x=r:=by
 obtain⟨a,b,c,rfl⟩:=h;exact⟨⟨[a,b,c],rfl⟩,rfl⟩
theorem DT:∀{D:List (List T)},(∀x∈D,ql x)->∃E:List (mh 3),E.map gn=D
 |[],_=>⟨[],rfl⟩
 |r::D,h=>by
  obtain⟨x,hx⟩:=Wo (h r (by simp));obtain⟨E,hE⟩:=DT λy hy=>h y (ZaV _ hy);exact⟨x::E,by simp[hx,hE]⟩
theorem lt_cfK(x y:mh 3):ltOf QB x y=wO dD (gn x) (gn y):=rfl
theorem zN:Go.Sort.SWO (ltOf QB):=
 ⟨λx=>GA.irrefl _,λx y z=>GA.trans _ _ _,λx y z=>GA.ntrans _ _ _⟩
theorem Wp{k:Nat}{x y:mh k}(h:gn x=gn y):x=y:=by
 apply Subtype.ext;unfold gn at h;have key:∀(l m:List Int),l.map tI=m.map tI->l=m:=by
  intro l;induction l with
  |nil=>intro m h;cases m with
   |nil=>rfl
   |cons b m=>cases h
  |cons a l ih=>intro m h;cases m with
   |nil=>cases h
   |cons b m=>
    simp only[Zau,Za5,T.int.injEq,true_and]at h;rw[h.1,ih m h.2]
 exact key _ _ h
theorem YV(x y:mh 3)(h1:ltOf QB x y=false)(h2:ltOf QB y x=false):x=y:=by
 rw[lt_cfK]at h1 h2;exact Wp (xT (good_row x) (good_row y) (YU (by simp[eqv,h1,h2])))
theorem Wq(E:List (mh 3)):je (wO dD) (E.map gn)=(yH QB E).map gn:=by
 refine Hi GA ?_ λz=>?_
 ·unfold tN;rw[Zch];have h:=List.pairwise_mergeSort (le:=λx y=> !(ltOf QB) y x) (λa b c h1 h2=>by
   simp only[Zbm]at h1 h2⊢;exact zN.ntrans _ _ _ h2 h1) (λa b=>by
   cases e:ltOf QB b a with
   |false=>rfl
   |true=>
    cases e2:ltOf QB a b with
    |false=>rfl
    |true=>
     have:=zN.trans _ _ _ e e2;rw[zN.irrefl]at this;cases this) E
  exact h.imp λ{a b} ZD=>by rw[Zbm]at ZD;exact ZD
 ·have hp:((yH QB E).map gn).Perm (E.map gn):=(List.mergeSort_perm E _).map _;have h1:=hp.filter (eqv (wO dD) z);have dK:∀w∈(E.map gn).filter (eqv (wO dD) z),∀u∈(E.map gn).filter (eqv (wO dD) z),w=u:=by
   intro w hw u hu;rw[ZaP]at hw hu;obtain⟨x,_,rfl⟩:=Zal.1 hw.1;obtain⟨y,_,rfl⟩:=Zal.1 hu.1;exact xT (good_row x) (good_row y) ((YU hw.2).symm.trans (YU hu.2))
  generalize (E.map gn).filter (eqv (wO dD) z)=l at h1 dK;generalize ((yH QB E).map gn).filter (eqv (wO dD) z)=l' at h1;apply ZbB h1.length_eq;intro i q1 q2;exact dK _ (h1.subset (Zbj q1)) _ (Zbj q2)
theorem LU [Laid](x y:mh 3):aT Tryz.prog 52 [.agg (gn x),.agg (gn y)] (tI (QB x y)):=by
 obtain⟨a,b,c,h⟩:=good_row x;obtain⟨d,e,f,k⟩:=good_row y;unfold QB;rw[h,k];exact t33 a b c d e f
theorem t32(D:List (List T)){objs:aU}{r ver e:Nat}(fH:objs r=some (.arr ver e 3 D))(cU:∀x∈D,ql x)(h4:D.length<=oE):
  aZ Tryz.prog 51 [.bd r ver,.v (.fn (.func 52) [])] objs ⟨True,.v (.eC []),c7 objs r (.arr ver e 3 (je (wO dD) D))⟩:=by
 obtain⟨E,rfl⟩:=DT cU;rw[Wq];unfold oE at h4;exact Hf (k:=3) YT (by omega) (λw=>Tryz.isAgg106 w) (λw=>Tryz.sizeOf106 w) (@LU Laid.none) zN YV E fH (by simp at h4;omega)
def k32(good:List T->Prop)(YS:List T->List T->Int):List DV->aU->iD
 |[.bd r ver,.v (.fn (.func c) caps)],objs=>match objs r with
  |some (.arr ver' e sz D)=>⟨ver=ver'/\sz=3/\c=52/\caps=[]/\(∀x∈D,good x)/\D.length<=oE/\D.length<=1000000000,
    .v (.eC []),c7 objs r (.arr ver e 3 (je (wO YS) D))⟩
  |_=>⟨False,.undef,objs⟩
 |_,objs=>⟨False,.undef,objs⟩
theorem ok32{l:List (Nat×DM.Spec)}(h:ay Tryz.prog (aW l)):ay Tryz.prog (aW ((51,fa (k32 ql dD))::l)):=by
 refine ay.gV h ?_;intro args objs h;unfold k32 at h⊢;split at h
 ·split at h
  ·rename_i c caps _ ver' e sz D fH;obtain⟨rfl,rfl,rfl,rfl,h1,h4,h5⟩:=h;refine⟨λN hN=>?_,λk hk=>sG fH hk⟩;simp only[];exact(t32 D fH h1 h4).of rfl rfl
  ·exact h.elim
 ·exact h.elim
end Go.Proofs
namespace Go.Proofs
open Go.DM Go.DM.Ou
def k30:List DV->aU->iD
 |[.ptr b 0,.v (.int .i64 i)],objs=>
  ⟨objs b=some (.box (cu (eR objs b).1 (eR objs b).2))/\objs (eR objs b).2=some (bY (xO objs (eR objs b).2))/\0<=i/\i<=(eR objs b).1.aj.length/\Iw (eR objs b).1,.v (.eC []),
   c7 objs (eR objs b).2 (bY (bW (xO objs (eR objs b).2) (qN (eR objs b).1 i.toNat)))⟩
 |_,objs=>⟨False,.undef,objs⟩
theorem k30_eq{objs:aU}{b m:Nat}{x:Input}{al:List bn}{i:Nat}(h:objs b=some (.box (cu x m)))(hm:objs m=some (bY al)):
  k30 [.ptr b 0,.v (ti i)] objs=⟨i<=x.aj.length/\Iw x,.v (.eC []),c7 objs m (bY (bW al (qN x i)))⟩:=by
 simp only[k30,zM h,h,DS hm,hm,Zai,true_and,Int.ofNat_le,Zcg]
abbrev Γ7:Env:=aW [(49,fa k30),(51,fa (k32 ql dD)),(50,fa YP),(48,vm afL fn29 3 1)]
theorem ok7:ay Tryz.prog Γ7:=by
 refine ay.gV (ok32 (ay.gV (ay.Ry ay.nil ?_) ?_)) ?_
 ·rintro ts ⟨v,n,rfl,h1,h2⟩;have:=t29 v n h1 h2;simpa [fn29,aC]using this
 ·exact(ok5 50 (fa YP) rfl).st YP rfl
 ·intro args objs h;unfold k30 at h⊢;split at h
  ·rename_i aB b i;obtain⟨hb,hm,h1,h2,h3⟩:=h;obtain⟨i,rfl⟩:=Zad h1;refine⟨λN hN=>?_,λr hr=>sG hm hr⟩;exact aZ.of (t30 hN hb hm (by omega) h3) (by simp) (by simp)
  ·exact h.elim
def Wj:List RO:=[
 a 2 5 36 [],
 l 36 37 [0],
 n 6 38,
 o (.bin .mul (i 2) (t 38)) 39 [2],
 n 3 40,
 n 6 41,
 n 4 42,
 o (.callR 50 [(t 40),(t 41),(t 42)]) 43 [4,5,6],
 m 43 35 [7],
 e 0 35 44 [8],
 e 1 35 45 [8],
 x 1 37 39 46 (k [1,3] 9),
 S 1 46 44 (k [11,9,7] 9)]
theorem Wl{objs:aU}{b m:Nat}{x:Input}{i j:Nat}(h:objs b=some (.box (cu x m))):
  wS YP [.ptr b 0,.v (ti i),.v (ti j)] objs=(i<=j/\j<=x.aj.length/\ny x.aj)/\
   (YP [.ptr b 0,.v (ti i),.v (ti j)] (yj objs [.ptr b 0,.v (ti i),.v (ti j)])).val=.v (.eC [ti (ed ((x.aj.take j).drop i) 0),.sl (cT (dg (j-i)))]):=by
 have hr:yj objs [.ptr b 0,.v (ti i),.v (ti j)] b=some (.box (cu x m)):=by simp[yj,bM,names,h]
 refine⟨?_,by rw[xP hr]⟩;unfold wS;apply propext;constructor
 ·intro H;have:=H objs (λ_ _=>rfl);rw[xP h]at this;exact this.1
 ·intro H o ho;have hb:o b=some (.box (cu x m)):=by rw[ho b (by simp[bM,names]),h]
  rw[xP hb,xP hr];exact⟨H,rfl,rfl⟩
def uR(x:Input)(y:Nat):List bn:=(List.range y).flatMap (qN x)
theorem PN(x:Input)(y:Nat):uR x (y+1)=uR x y++qN x y:=by simp[uR,Zax]
def fA(x:Input)(n y:Nat):List (List T):=(List.range n).map λs=>[ti (if s % 2=0/\s/2<y then fZ x (s/2) x.aj.length else 1099511627776)]
theorem IX(x:Input){n y:Nat}(h:2*y<n):(fA x n y).set (2*y) [ti (fZ x y x.aj.length)]=fA x n (y+1):=by
 apply ZbB
 ·simp[fA]
 ·intro k h1 h2;rw[Zca];simp only[fA,Zcl,ZcB];split
  ·rename_i e;subst e;rw[if_pos (by omega),show 2*y/2=y by omega]
  ·rename_i e;by_cases hk:k % 2=0/\k/2<y
   ·rw[if_pos hk,if_pos (by omega)]
   ·rw[if_neg hk,if_neg (by omega)]
theorem IY(x:Input)(n y:Nat):(fA x n y).length=n:=by simp[fA]
theorem FR(x:Input)(n:Nat):fA x n 0=List.replicate n [ti 1099511627776]:=by
 apply ZbB
 ·simp[fA]
 ·intro k h1 h2;simp[fA]
theorem sR(a b:aU)(σ:Nat->Nat)(cs qU:List DV):l7 a b σ (.box cs) (.box qU)=jD a b σ cs qU:=rfl
theorem sS(a b:aU)(σ:Nat->Nat)(v v' e e' sz gb:Nat)(rows dp:List (List T)):l7 a b σ (.arr v e sz rows) (.arr v' e' gb dp)=(e=e'/\sz=gb/\rows=dp):=rfl
theorem sa(a b:aU)(al:List bn):l7 a b id (bY al) (bY al):=by
 simp only[bY,l7];exact⟨trivial,trivial,trivial,mW λe he=>by obtain⟨x,hx⟩:=eB al e he;rw[hx];simp⟩
theorem yX{al:List bn}{e:Nat×T×DV}(h:e∈entries al):∃i,i<al.length/\e=(i,(al.getD i default).key,.v (.agg (al.getD i default).enc)):=by
 obtain⟨i,hi,rfl⟩:=ZaY h;rw[jH]at hi;refine⟨i,hi, ?_⟩;have:=fz al i;rw[Zan (by rw[jH];exact hi),Zan hi]at this;simp only[Za0,Zaa]at this;rw[this];simp[List.getD,hi]
theorem FT{al:List bn}{i:Nat}(h:i<al.length):(entries al).find? (λe=>e.1==i)=some (i,(al.getD i default).key,.v (.agg (al.getD i default).enc)):=by
 rw[Zcr];have hg:∀(j:Nat) (hj:j<(entries al).length),(entries al)[j]=(j,(al.getD j default).key,.v (.agg (al.getD j default).enc)):=by
  intro j hj;rw[jH]at hj;have:=fz al j;rw[Zan (by rw[jH];exact hj),Zan hj]at this;simp only[Za0,Zaa]at this;rw[this];simp[List.getD,hj]
 refine⟨by simp,i,by rw[jH];exact h,hg _ _,λj hj=>?_⟩;rw[hg];simp;omega
theorem xR:∀(n:Nat) {l:List Nat},l.Nodup->(∀i∈l,i<n)->l.length<=n
 |0,l,_,h=>by cases l with
  |nil=>simp
  |cons a l=>exact absurd (h a (by simp)) (by omega)
 |n+1,l,hn,h=>by
  by_cases hm:n∈l
  ·have h1:=List.length_erase_of_mem hm;have h2:=xR n (l:=l.erase n) (hn.erase n) (λi hi=>by
    have:=h i (List.mem_of_mem_erase hi);have bH:i≠n:=λe=>by subst e;exact(List.Nodup.not_mem_erase hn) hi
    omega)
   omega
  ·have:=xR n hn (λi hi=>by
    have:=h i hi;have bH:i≠n:=λe=>hm (e▸hi);omega)
   omega
theorem lr(a b:aU)(al:List bn):iV a b id (entries al) (entries al):=mW λe he=>by obtain⟨x,hx⟩:=eB al e he;rw[hx];simp
theorem PO{α:Type}{f:α->List T}{l:List α}{y:Nat}{a:α}(h:y<l.length)(ha:l[y]=a):(l.take (y+1)).map f=(l.take y).map f++[f a]:=by
 rw[Zbw,Zan h,ha];simp
def jQ(x:Input):List bn:=bW [] (uR x (x.aj.length+1))
def wP(x:Input):List Int:=(List.range (2*x.aj.length+1)).map λs=>if s % 2=0 then fZ x (s/2) x.aj.length else 1099511627776
def fQ(x:Input):aM:=⟨2*x.aj.length+1,jf (jQ x),wP x⟩
theorem IZ(x:Input):fA x (2*x.aj.length+1) (x.aj.length+1)=aC (wP x):=by
 simp only[fA,wP,aC,ZcM];apply Zbq;intro s hs;simp only[ZaM]at hs;by_cases h:s % 2=0
 ·simp only[Function.comp_apply,h,if_true,true_and];rw[if_pos (by omega)]
 ·simp[h]
@[simp] theorem afM(al:List bn):isMap (some (bY al)):=by simp[isMap,bY]
theorem t12(x:Input)(hx:Iw x)(Dk:(jQ x).length<=oE)(kp:(jQ x).length<=1000000000):aT Tryz.prog 32 [x.enc] (fQ x).enc:=by
 have aw:=ok7;have hl:=hx.1.1;refine c12.ok (by simp) (aK ?_);simp[Input.enc];refine aa.ab aw fw [1,2] ?_;simp[aex];refine aa.ab aw fw [1,2,3] ?_;simp[aey];refine aa.ab aw fw [2,3,4] ?_;simp[aez];obtain⟨n2,Pu⟩:∃n,2*x.aj.length+1=n:=⟨_,rfl⟩;have w1:IntKind.i64.wrap (2*(x.aj.length:Int))=2*x.aj.length:=au (by omega);have w2:IntKind.i64.wrap (2*(x.aj.length:Int)+1)=(n2:Int):=by rw[au (by omega)];omega
 refine aa.iH aw fw (rs:=LA) (.inr ⟨_,rfl⟩) (by kernel_rfl) [2,3,4,5] ?_;simp[LA,w1,w2,afL,fn29,chunk];refine⟨⟨1099511627776,n2,⟨rfl,rfl⟩,by omega,by omega⟩, ?_⟩;obtain⟨n,hn⟩:∃n,x.aj.length=n:=⟨_,rfl⟩;rw[hn]at Pu hl;refine aa.seq ?_;have w3:IntKind.i64.wrap ((n:Int)+1)=((n+1:Nat):Int):=by rw[au (by omega)];omega
 refine aa.ab aw fw [2,3,4,5,28,29] ?_;simp[aeA,hn,w3];obtain⟨n1,Qy⟩:∃n1,n+1=n1:=⟨_,rfl⟩;rw[show((n:Int)+1)=(n1:Int)by omega];refine aa.to ⟨DM.look [(2,.ptr 1003 0),(3,.ptr 1098 0),(5,.ptr 1255 0)],cE [(1003,.box [.v (ti 0),.aJ,.aJ]),(1098,.box (cu x 1096)),(1096,bY (bW [] (uR x n1))),(1255,.box [.v (ti n2),.aJ,.bd 1275 0]),(1275,.arr 0 3 1 (fA x n2 n1))],3000,1000,[]⟩ ?_ ?_
 ·refine aa.block ?_;refine aa.loop (λy:Nat=>⟨DM.look [(2,.ptr 1003 0),(3,.ptr 1098 0),(4,.v (ti n)),(5,.ptr 1255 0),(28,.v (ti n1)),(29,.v (ti y))],cE [(1003,.box [.v (ti 0),.aJ,.aJ]),(1098,.box (cu x 1096)),(1096,bY (bW [] (uR x y))),(1255,.box [.v (ti n2),.aJ,.bd 1275 0]),(1275,.arr 0 3 1 (fA x n2 y))],3000,1000,[]⟩)
   (λy=>y<=n1) (λy=>n1-y) 0 (Le.aD ?_ ?_ ?_ ?_) (by simp) (λy hy=>?_)
  ·simp
  ·simp[]
  ·simp[cu,bY,entries,uR,bW,FR,nW,iV,isMap]
  ·simp
  refine aa.ab aw fw [2,3,4,5,28,29,30] ?_;simp[aeB];refine aa.seq ?_;refine aa.cond rfl (λbK=>?_) (λbK=>?_)
  ·simp at bK;refine aa.skip ?_;simp;refine aa.seq ?_;refine aa.block ?_;refine aa.ab aw fw [2,3,4,5,6,28,29] ?_;simp[aeC];refine aa.iH aw fw (rs:=LB) (.inr ⟨_,rfl⟩) (by kernel_rfl) [2,3,4,5,6,28,29] ?_;simp[LB,k30_eq (x:=x) (m:=1096) (al:=bW [] (uR x y))];refine⟨⟨by omega,hx⟩, ?_⟩;obtain⟨JT,xQ⟩:∃l,bW (bW [] (uR x y)) (qN x y)=l:=⟨_,rfl⟩;have hal2':bW [] (uR x (y+1))=JT:=by rw[PN,fF,xQ]
   rw[xQ,iw];refine aa.le (Le.aD (o:=[(1003,.box [.v (ti 0),.aJ,.aJ]),(1098,.box (cu x 1096)),(1096,bY JT),(1255,.box [.v (ti n2),.aJ,.bd 1275 0]),(1275,.arr 0 3 1 (fA x n2 y))]) (l:=[(2,.ptr 1003 0),(3,.ptr 1098 0),(4,.v (ti n)),(5,.ptr 1255 0),(6,.v (ti y)),(28,.v (ti n1)),(29,.v (ti y))]) (nxt':=4000) ?_ ?_ ?_ ?_) ?_
   ·simp
   ·simp
   ·simp[-l7,sR,sS,sa,cu,nW]
   ·simp
   have hyn:y<=n:=by omega
   have w4:IntKind.i64.wrap (2*(y:Int))=((2*y:Nat):Int):=by rw[au (by omega)];omega
   obtain⟨y2,fg⟩:∃y2,2*y=y2:=⟨_,rfl⟩;rw[fg]at w4;have tp:y2<n2:=by omega
   have hdc:ed ((x.aj.take n).drop y) 0=fZ x y n:=rfl;have GR:DM.rowAt (fA x n2 y) (y2:Int)=[ti 1099511627776]:=by
    have e:(2*(y:Int)).toNat=y2:=by omega
    subst fg;simp[DM.rowAt,fA,e,tp]
   have wC:=IX x (n:=n2) (y:=y) (by omega);rw[fg,hn]at wC;have hd:=hx.1;refine aa.tZ aw fw (rs:=Wj) (.inr ⟨_,rfl⟩) (by kernel_rfl) [2,3,4,5,28,29] ?_;simp[Wj,Wl (x:=x) (m:=1096),hn,w4,hd,hyn,IY,tp,hdc,GR,wC];refine aa.dc aw fw [2,3,4,5,28,29] ?_;simp[aeD];rw[au (by omega)];refine⟨y+1,Le.aD ?_ ?_ ?_ ?_,by omega,by omega⟩
   ·simp
   ·simp
   ·simp[-l7,sR,sS,sa,cu,nW,hal2']
   ·simp
  ·simp at bK;have:y=n1:=by omega
   subst this;refine aa.exit ⟨rfl,Le.aD ?_ ?_ ?_ ?_⟩
   ·simp
   ·simp
   ·simp[-l7,sR,sS,sa,cu,nW]
   ·simp
 ·obtain⟨al,ky⟩:∃l,bW [] (uR x n1)=l:=⟨_,rfl⟩;obtain⟨fr,wC⟩:∃l,fA x n2 n1=l:=⟨_,rfl⟩;rw[ky,wC];refine aa.ab aw fw [2,3,5,7] ?_;simp[U6];refine aa.seq ?_;refine aa.ab aw fw [2,3,5,7,52] ?_;simp[U7,cu,bY];refine aa.le (Le.ml (k:=7) 106 (sz:=3) (by omega) (by simp)) ?_;rw[iw];refine aa.block ?_;refine aa.loop (λsn:List Nat=>⟨DM.look [(2,.ptr 1003 0),(3,.ptr 1098 0),(5,.ptr 1255 0),(7,.bd 3166 0),(52,.iter 3136)],cE [(1003,.box [.v (ti 0),.aJ,.aJ]),(1098,.box (cu x 1096)),(1096,bY al),(1255,.box [.v (ti n2),.aJ,.bd 1275 0]),(1275,.arr 0 3 1 fr),(3166,.arr 0 106 3 (sn.map λi=>bZ (al.getD i default))),(3136,.iter 1096 al.length sn al.length)],4000,1000,[]⟩)
   (λsn=>sn.Nodup/\∀i∈sn,i<al.length) (λsn=>al.length-sn.length) [] (Le.aD ?_ ?_ ?_ ?_) (by simp) (λsn hs=>?_)
  ·simp
  ·simp
  ·simp[-l7,sR,sS,cu,nW];simp[l7,bY,isMap];exact mW λe he=>by obtain⟨x,hx⟩:=eB al e he;rw[hx];simp
  ·simp[RC,AQ]
  obtain⟨JS,JN⟩:=hs;refine aa.seq ?_;refine aa.next (r:=3136) (m:=1096) (s:=al.length) (l:=al.length) (c:=al.length) (sn:=sn) (shs:=kH) (agg:=true) (es:=entries al) (by simp) (by simp) (by simp[bY]) (λe he=>?_) (Zae _) (λRr=>?_) (λe he bH=>?_)
  ·obtain⟨i,hi,rfl⟩:=yX he;exact hi
  ·simp;have hp:=PQ JS JN λi hi=>Rr _ (Zaq (by rw[fz,Zan hi];rfl:(entries al)[i]? =some (i,al[i].key,.v (.agg al[i].enc))));have afN:∀r∈sn.map (λi=>bZ (al.getD i default)),ql r:=by
    intro r hr;obtain⟨i,_,rfl⟩:=Zal.1 hr;exact⟨_,_,_,rfl⟩
   have hlen:(sn.map (λi=>bZ (al.getD i default))).length=al.length:=by rw[hp.length_eq];simp
   have zm:(al.map bZ).Nodup:=by rw[<-ky];exact uS _ (by simp)
   have YL:je (wO dD) (sn.map (λi=>bZ (al.getD i default)))=je (wO dD) (al.map bZ):=LQ hp (λr hr=>by
    obtain⟨a,_,rfl⟩:=Zal.1 hr;exact⟨_,_,_,rfl⟩) zm
   have YQ:jQ x=al:=by unfold jQ;rw[hn,Qy,ky]
   rw[YQ]at Dk kp;rw[<-hlen]at Dk kp;obtain⟨rows,cU⟩:∃r,sn.map (λi=>bZ (al.getD i default))=r:=⟨_,rfl⟩;have hrows':sn.map (λi=>bZ (al[i]?.getD default))=rows:=cU;rw[cU]at Dk kp afN YL hlen;rw[hrows'];refine aa.seq ?_;refine aa.cond rfl (λh=>by cases h) (λ_=>?_);refine aa.exit ?_;simp;refine aa.iH aw fw (rs:=FG) (.inr ⟨_,rfl⟩) (by kernel_rfl) [2,3,5,7] ?_;simp[FG,k32,YL,Dk,kp];refine⟨afN, ?_⟩;obtain⟨ks,hks⟩:∃ks,je (wO dD) (al.map bZ)=ks:=⟨_,rfl⟩;have hksl:ks.length=al.length:=by rw[<-hks,uU];simp
   have hksm:∀r∈ks,∃a∈al,bZ a=r:=by
    intro r hr;rw[<-hks,si]at hr;obtain⟨a,ha,rfl⟩:=Zal.1 hr;exact⟨a,ha,rfl⟩
   rw[hks,iw];refine aa.le (Le.aD (o:=[(1003,.box [.v (ti 0),.aJ,.aJ]),(1098,.box (cu x 1096)),(1096,bY al),(1255,.box [.v (ti n2),.aJ,.bd 1275 0]),(1275,.arr 0 3 1 fr),(3166,.arr 0 106 3 ks)]) (l:=[(2,.ptr 1003 0),(3,.ptr 1098 0),(5,.ptr 1255 0),(7,.bd 3166 0)]) (nxt':=4500) ?_ ?_ ?_ ?_) ?_
   ·simp
   ·simp
   ·simp[cu,nW,isMap,lr,bY]
   ·simp
   refine aa.le (Le.Nn 1255 1 77 (sz:=5) (cs:=[.v (ti n2),.aJ,.bd 1275 0]) (by omega) (by simp) (by simp)) ?_;rw[iw,iw];refine aa.seq ?_;refine aa.ab aw fw [2,3,5,63,64,65] ?_;simp[Va,hksl];refine aa.to ⟨DM.look [(2,.ptr 1003 0),(5,.ptr 1255 0)],cE [(1003,.box [.v (ti 0),.aJ,.aJ]),(1255,.box [.v (ti n2),.bd 4500 0,.bd 1275 0]),(1275,.arr 0 3 1 fr),(4500,.arr 0 77 5 (bb (jf al)))],6000,1000,[]⟩ ?_ ?_
   ·refine aa.block ?_;refine aa.loop (λy:Nat=>⟨DM.look [(2,.ptr 1003 0),(3,.ptr 1098 0),(5,.ptr 1255 0),(63,.bd 3166 0),(64,.v (ti al.length)),(65,.v (ti y))],cE [(1003,.box [.v (ti 0),.aJ,.aJ]),(1098,.box (cu x 1096)),(1096,bY al),(1255,.box [.v (ti n2),.bd 4500 0,.bd 1275 0]),(1275,.arr 0 3 1 fr),(3166,.arr 0 106 3 ks),(4500,.arr 0 77 5 (bb ((ks.take y).map (oD al))))],6000,1000,[]⟩)
     (λy=>y<=al.length) (λy=>al.length-y) 0 (Le.aD ?_ ?_ ?_ ?_) (by simp) (λy hy=>?_)
    ·simp
    ·simp
    ·simp[cu,nW,isMap,lr,bY,bb]
    ·simp
    refine aa.ab aw fw [2,3,5,63,64,65,66] ?_;simp[Vb];refine aa.seq ?_;refine aa.cond rfl (λbK=>?_) (λbK=>?_)
    ·simp at bK;refine aa.skip ?_;simp;refine aa.seq ?_;refine aa.block ?_;obtain⟨r,hr⟩:∃r,ks[y]'(by omega)=r:=⟨_,rfl⟩;obtain⟨a,ha,hak⟩:=hksm r (by rw[<-hr];exact Zbj _);have me:DM.rowAt ks y=bZ a:=by rw[hak,<-hr];simp[DM.rowAt,hksl,bK]
     obtain⟨l1,l2,i,l3⟩:=sh ha;have afO:=PO (f:=λr=>(oD al r).enc) (by omega) hr;obtain⟨c,hc⟩:∃c,oD al (bZ a)=c:=⟨_,rfl⟩;rw[hc]at l3;rw[<-hak,hc]at afO;have htake':bb (List.take (y+1) (List.map (oD al) ks))=bb (List.take y (List.map (oD al) ks))++[[ti c.f,ti c.t,ti c.term,ti c.cost,.sl (cT c.ops)]]:=by
      have:=afO;simp only[bb,List.map_take,ZcM]at this⊢;exact this
     simp only[bn.key,keyOf]at l3;refine aa.ab aw fw [2,3,5,10,63,64,65] ?_;simp[Vc,me,hksl,bK,bZ];refine aa.dc aw fw [2,3,5,63,64,65] ?_;simp[Vd,cu,bY,l3,bn.enc,cF,chunk];refine⟨⟨by omega,by omega⟩, ?_⟩;refine aa.dc aw fw [2,3,5,63,64,65] ?_;simp[Ve];rw[au (by omega)];refine⟨y+1,Le.aD ?_ ?_ ?_ ?_,by omega,by omega⟩
     ·simp
     ·simp
     ·simp[nW,isMap,lr,htake']
     ·simp
    ·simp at bK;have:y=al.length:=by omega
     subst this;refine aa.exit ⟨rfl,Le.aD ?_ ?_ ?_ ?_⟩
     ·simp
     ·simp
     ·simp[jf,hks];rw[Za2 (by simp;omega)]
     ·simp
   ·refine aa.ab aw fw [2] ?_;simp[Vf];refine aa.ret ?_;have mL:fr=aC (wP x):=by rw[<-wC,<-Qy,<-Pu,<-hn];exact IZ x
    simp[Vg,fQ,aM.enc,YQ,mL,hn];omega
  ·obtain⟨i,hi,rfl⟩:=yX he;have afP:=FT hi;obtain⟨a,ha⟩:∃a,al.getD i default=a:=⟨_,rfl⟩;rw[ha]at afP;simp only at bH;simp;refine aa.seq ?_;refine aa.cond rfl (λ_=>?_) (λh=>by cases h);refine aa.skip ?_;simp;refine aa.block ?_;refine aa.ab aw fw [2,3,5,7,8,52] ?_;simp[U8,bY,afP,bn.key,keyOf];refine aa.dc aw fw [2,3,5,7,52] ?_;simp[U9,cF,chunk];have hlen:=xR al.length (l:=i::sn) (by simp[bH,JS]) (by simp;exact⟨hi,JN⟩);simp at hlen;have YQ:jQ x=al:=by unfold jQ;rw[hn,Qy,ky]
   rw[YQ]at kp;have ha':al[i]?.getD default=a:=ha;refine⟨⟨by omega,by omega⟩,sn++[i],Le.aD ?_ ?_ ?_ ?_,⟨?_, ?_⟩, ?_⟩
   ·simp
   ·simp
   ·simp[cu,nW,isMap,lr,ha',bZ]
   ·simp[RC,AQ]
   ·rw[ZbP];exact⟨JS,by simp,by simp;intro q hq e;subst e;exact bH hq⟩
   ·intro j hj;rw[Zao,Zah]at hj;rcases hj with h|h
    ·exact JN j h
    ·omega
   ·simp;omega
end Go.Proofs
namespace Go.Proofs
open Go.DM Go.DM.Ou
end Go.Proofs
