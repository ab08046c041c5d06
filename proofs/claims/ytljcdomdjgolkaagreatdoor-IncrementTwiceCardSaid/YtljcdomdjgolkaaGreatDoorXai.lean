/- Part of the proof. Conditions: none. -/
import Derived.Test.YtljcdomdjgolkaaGreatDoorXah
import Derived.Test.YtljcdomdjgolkaaGreatDoorXaf
import Derived.Test.YtljcdomdjgolkaaGreatDoorXag
import Derived.Deep.Strs
import Derived.Lib.LaidTab
set_option linter.unusedSectionVars false
set_option linter.unusedSimpArgs false
set_option linter.unusedVariables false
set_option maxHeartbeats 8000000
set_option maxRecDepth 20000
namespace Go.Proofs
namespace cu
open Go.DM
def kindOk(n:aG)(r:bD):Prop:=
 if r.kind=1 then r.a=0/\r.b=0 else if r.kind=2 then r.a>=0/\r.a<n.aV/\r.b=0 else if r.kind=3 then r.a>=0/\r.a<n.an/\r.b=0
 else if r.kind=4 then r.a>=0/\r.a<n.an/\r.b>=0/\r.b<n.an else False
instance(n:aG)(r:bD):Decidable (kindOk n r):=by unfold kindOk;infer_instance
def lJ(n:aG)(r:bD):Prop:=¬(r.head<0\/r.head>=n.an\/r.bE<0\/r.bE>1000\/r.origin< -1)
instance(n:aG)(r:bD):Decidable (lJ n r):=by unfold lJ;infer_instance
def H4(n:aG):Prop:=¬(n.aV<0\/n.aV>120\/n.an<1\/n.an>1000\/n.start<0\/n.start>=n.an\/(n.rules.length:Int)>600)
instance(n:aG):Decidable (H4 n):=by unfold H4;infer_instance
def eM(n:aG):Prop:=H4 n/\∀i,i<n.rules.length->lJ n (n.rules.getD i default)/\kindOk n (n.rules.getD i default)
instance(n:aG):Decidable (eM n):=by unfold eM;infer_instance
theorem eM.ok{n:aG}(h:eM n):oJ n:=by
 obtain⟨h1,h2⟩:=h;unfold H4 at h1;refine⟨by omega,by omega,by omega,λr hr=>?_⟩;obtain⟨i,hi,rfl⟩:=ZaY hr;obtain⟨h3,h4⟩:=h2 i hi;rw[show n.rules.getD i default=n.rules[i]by simp[List.getD,hi]]at h3 h4;unfold lJ at h3;unfold kindOk at h4;unfold tZ;refine⟨by omega,by omega,by omega,by omega, ?_⟩;split at h4
 ·exact .inl (by assumption)
 ·split at h4
  ·exact .inr (.inl ⟨by assumption,by omega,by omega⟩)
  ·split at h4
   ·exact .inr (.inr (.inl ⟨by assumption,by omega,by omega⟩))
   ·split at h4
    ·exact .inr (.inr (.inr ⟨by assumption,by omega,by omega,by omega,by omega⟩))
    ·exact h4.elim
theorem t20(n:aG)(hl:n.rules.length<=9223372036854775807):aT Tryz.prog 20 [n.enc] (.bool (decide (eM n))):=by
 obtain⟨nt,nn,ns,rules⟩:=n;obtain⟨v,hv⟩:∃v,decide (eM ⟨nt,nn,ns,rules⟩)=v:=⟨_,rfl⟩;rw[hv];simp only at hl;have cY:eM ⟨nt,nn,ns,rules⟩↔H4 ⟨nt,nn,ns,rules⟩/\∀i,i<rules.length->lJ ⟨nt,nn,ns,rules⟩ (rules.getD i default)/\kindOk ⟨nt,nn,ns,rules⟩ (rules.getD i default):=Iff.rfl;have bad:¬eM ⟨nt,nn,ns,rules⟩->v=false:=λh=>by rw[<-hv];simp[h]
 have ay:=dY;refine c20.ok (by simp) (aJ ?_);simp[aG.enc];refine aa.ab ay fw [1] ?_;simp[ZX];refine aa.le (Le.aD (o:=[]) (l:=[(1,.v (.box [ti nt,ti nn,ti ns,.sl (aS rules)]))]) (nxt':=1200) ?_ ?_ ?_ ?_) ?_;iterate 4(·simp)
 refine aa.seq ?_;obtain⟨c1,bb⟩:∃c1:Bool,decide (nt<0\/nt>120\/nn<1\/nn>1000\/ns<0\/ns>=nn\/(rules.length:Int)>600)=c1:=⟨_,rfl⟩;refine aa.bZ ay fw [(1,.v (.box [ti nt,ti nn,ti ns,.sl (aS rules)])),(41,.v (.bool c1))] ?_ ?_
 ·by_cases q1:nt<0
  ·have:c1=true:=by rw[<-bb];simp[q1]
   simp[vt,q1,this]
  ·skip
   by_cases q2:nt>120
   ·have:c1=true:=by rw[<-bb];simp[q2]
    simp[vt,q1,q2,this]
   ·skip
    by_cases q3:nn<1
    ·have:c1=true:=by rw[<-bb];simp[q3]
     simp[vt,q1,q2,q3,this]
    ·skip
     by_cases q4:nn>1000
     ·have:c1=true:=by rw[<-bb];simp[q4]
      simp[vt,q1,q2,q3,q4,this]
     ·skip
      by_cases q5:ns<0
      ·have:c1=true:=by rw[<-bb];simp[q5]
       simp[vt,q1,q2,q3,q4,q5,this]
      ·skip
       by_cases q6:ns>=nn
       ·have:c1=true:=by rw[<-bb];simp[q6]
        simp[vt,q1,q2,q3,q4,q5,q6,this]
       ·skip
        by_cases q7:(rules.length:Int)>600
        ·have:c1=true:=by rw[<-bb];simp[q7]
         simp[vt,q1,q2,q3,q4,q5,q6,q7,this]
        ·skip
         have:c1=false:=by rw[<-bb];simp[q1,q2,q3,q4,q5,q6,q7]
         simp[vt,q1,q2,q3,q4,q5,q6,q7,this]
 refine aa.cond rfl (λh1=>?_) (λh1=>?_)
 ·rw[h1]at bb;have bb:=of_decide_eq_true bb;refine aa.ab ay fw [2] ?_;simp[ZY];refine aa.ret ?_;rw[bad λh=>(cY.1 h).1 bb];simp[pA]
 ·rw[h1]at bb;have bb:=of_decide_eq_false bb;refine aa.skip ?_;simp;refine aa.seq ?_;refine aa.ab ay fw [1,3] ?_;simp[ZZ];refine aa.block ?_;refine aa.loop (λy:Nat=>⟨DM.look [(1,.v (.box [ti nt,ti nn,ti ns,.sl (aS rules)])),(3,.v (ti y))],cE [],2000,1000,[]⟩)
   (λy=>y<=rules.length/\∀i,i<y->lJ ⟨nt,nn,ns,rules⟩ (rules.getD i default)/\kindOk ⟨nt,nn,ns,rules⟩ (rules.getD i default)) (λy=>rules.length-y) 0 (Le.aD (o:=[]) ?_ ?_ ?_ ?_) (by simp) (λy hy=>?_)
  iterate 4(·simp)
  obtain⟨jQ,fg⟩:=hy;refine aa.seq ?_;refine aa.ab ay fw [1,3,46] ?_;simp[Z0];refine aa.cond rfl (λbM=>?_) (λbM=>?_)
  ·have bM:y<rules.length:=by simpa using bM
   refine aa.skip ?_;simp;refine aa.seq ?_;refine aa.block ?_;have rr:=fR bM;obtain⟨⟨rk,rh,ra,rb,rp,rg⟩,hr⟩:∃r,rules.getD y default=r:=⟨_,rfl⟩;rw[hr]at rr;refine aa.ab ay fw [1,3,4] ?_;simp[Z1,bM,rr,bD.enc];refine aa.le (Le.aD (o:=[]) (l:=[(1,.v (.box [ti nt,ti nn,ti ns,.sl (aS rules)])),(3,.v (ti y)),(4,.v (.box [ti rk,ti rh,ti ra,ti rb,ti rp,ti rg]))]) (nxt':=2400) ?_ ?_ ?_ ?_) ?_;iterate 4(·simp)
   refine aa.seq ?_;obtain⟨c2,dR⟩:∃c2:Bool,decide (rh<0\/rh>=nn\/rp<0\/rp>1000\/rg< -1)=c2:=⟨_,rfl⟩;refine aa.bZ ay fw [(1,.v (.box [ti nt,ti nn,ti ns,.sl (aS rules)])),(3,.v (ti y)),(4,.v (.box [ti rk,ti rh,ti ra,ti rb,ti rp,ti rg])),(78,.v (.bool c2))] ?_ ?_
   ·by_cases q1:rh<0
    ·have:c2=true:=by rw[<-dR];simp[q1]
     simp[AP,q1,this]
    ·skip
     by_cases q2:rh>=nn
     ·have:c2=true:=by rw[<-dR];simp[q2]
      simp[AP,q1,q2,this]
     ·skip
      by_cases q3:rp<0
      ·have:c2=true:=by rw[<-dR];simp[q3]
       simp[AP,q1,q2,q3,this]
      ·skip
       by_cases q4:rp>1000
       ·have:c2=true:=by rw[<-dR];simp[q4]
        simp[AP,q1,q2,q3,q4,this]
       ·skip
        by_cases q5:rg< -1
        ·have:c2=true:=by rw[<-dR];simp[q5]
         simp[AP,q1,q2,q3,q4,q5,this]
        ·skip
         have:c2=false:=by rw[<-dR];simp[q1,q2,q3,q4,q5]
         simp[AP,q1,q2,q3,q4,q5,this]
   refine aa.cond rfl (λh2=>?_) (λh2=>?_)
   ·rw[h2]at dR;have dR:=of_decide_eq_true dR;refine aa.ab ay fw [2] ?_;simp[Z2];refine aa.ret ?_;rw[bad λh=>((cY.1 h).2 y bM).1 (by rw[hr];exact dR)];simp[pA]
   ·rw[h2]at dR;have dR:lJ ⟨nt,nn,ns,rules⟩ ⟨rk,rh,ra,rb,rp,rg⟩:=of_decide_eq_false dR;refine aa.skip ?_;simp;obtain⟨k1,qd⟩:∃k1:Bool,decide (kindOk ⟨nt,nn,ns,rules⟩ ⟨rk,rh,ra,rb,rp,rg⟩)=k1:=⟨_,rfl⟩;have wo:=qd;have qd:k1=true↔kindOk ⟨nt,nn,ns,rules⟩ ⟨rk,rh,ra,rb,rp,rg⟩:=by rw[<-wo,decide_eq_true_iff]
    simp only[kindOk]at qd;refine aa.ab ay fw [1,3,4,5] ?_;simp[Z3];refine aa.seq ?_;refine aa.ab ay fw [1,3,4,5,80] ?_;simp[Z4];refine aa.block ?_;refine aa.ab ay fw [1,3,4,5,80,81] ?_;simp[Ro];refine aa.cond rfl (λg1=>?_) (λg1=>?_)
    ·have g1:rk=1:=by simpa using g1
     rw[if_pos g1]at qd;have qT:decide (ra=0/\rb=0)=k1:=by cases k1<;>simp at qd⊢<;>first|exact qd|omega
     refine aa.Eu ay fw [(1,.v (.box [ti nt,ti nn,ti ns,.sl (aS rules)])),(3,.v (ti y)),(5,.v (.bool k1))] ?_ ?_
     ·by_cases q1:ra=0
      ·skip
       by_cases q2:rb=0
       ·skip
        have:k1=true:=by rw[<-qT];simp[q1,q2]
        simp[EE,q1,q2,this]
       ·have:k1=false:=by rw[<-qT];simp[q2]
        simp[EE,q1,q2,this]
      ·have:k1=false:=by rw[<-qT];simp[q1]
       simp[EE,q1,this]
     refine aa.ab ay fw [1,3,150] ?_;simp[wZ];refine aa.cond rfl (λh5=>?_) (λh5=>?_)
     ·skip
      refine aa.ab ay fw [2] ?_;simp[w6];refine aa.ret ?_;rw[bad λh=>by
       have h6:=((cY.1 h).2 y bM).2;rw[hr]at h6;rw[decide_eq_true h6]at wo
       simp_all]
      simp[pA]
     ·skip
      refine aa.skip ?_;simp;have qd:kindOk ⟨nt,nn,ns,rules⟩ ⟨rk,rh,ra,rb,rp,rg⟩:=of_decide_eq_true (by rw[wo];simp_all);refine aa.dv ay fw [1,3] ?_;simp[w7];rw[au (x:=(y:Int)+1) (by omega)];refine⟨y+1,Le.aD (o:=[]) ?_ ?_ ?_ ?_,⟨by omega,λi hi=>?_⟩,by omega⟩;iterate 4(·simp)
      ·by_cases e:i=y
       ·subst e;show lJ _ (rules.getD i default)/\kindOk _ (rules.getD i default);rw[hr];exact⟨dR,qd⟩
       ·exact fg i (by omega)
    ·have g1:¬rk=1:=by simpa using g1
     rw[if_neg g1]at qd;refine aa.ab ay fw [1,3,4,5,80,91] ?_;simp[Rp];refine aa.cond rfl (λg2=>?_) (λg2=>?_)
     ·have g2:rk=2:=by simpa using g2
      rw[if_pos g2]at qd;have qT:decide (ra>=0/\ra<nt/\rb=0)=k1:=by cases k1<;>simp at qd⊢<;>first|exact qd|omega
      refine aa.Eu ay fw [(1,.v (.box [ti nt,ti nn,ti ns,.sl (aS rules)])),(3,.v (ti y)),(5,.v (.bool k1))] ?_ ?_
      ·by_cases q1:ra>=0
       ·skip
        by_cases q2:ra<nt
        ·skip
         by_cases q3:rb=0
         ·skip
          have:k1=true:=by rw[<-qT];simp[q1,q2,q3]
          simp[AQ,q1,q2,q3,this]
         ·have:k1=false:=by rw[<-qT];simp[q3]
          simp[AQ,q1,q2,q3,this]
        ·have:k1=false:=by rw[<-qT];simp[q2]
         simp[AQ,q1,q2,this]
       ·have:k1=false:=by rw[<-qT];simp[q1]
        simp[AQ,q1,this]
      refine aa.ab ay fw [1,3,150] ?_;simp[wZ];refine aa.cond rfl (λh5=>?_) (λh5=>?_)
      ·skip
       refine aa.ab ay fw [2] ?_;simp[w6];refine aa.ret ?_;rw[bad λh=>by
        have h6:=((cY.1 h).2 y bM).2;rw[hr]at h6;rw[decide_eq_true h6]at wo
        simp_all]
       simp[pA]
      ·skip
       refine aa.skip ?_;simp;have qd:kindOk ⟨nt,nn,ns,rules⟩ ⟨rk,rh,ra,rb,rp,rg⟩:=of_decide_eq_true (by rw[wo];simp_all);refine aa.dv ay fw [1,3] ?_;simp[w7];rw[au (x:=(y:Int)+1) (by omega)];refine⟨y+1,Le.aD (o:=[]) ?_ ?_ ?_ ?_,⟨by omega,λi hi=>?_⟩,by omega⟩;iterate 4(·simp)
       ·by_cases e:i=y
        ·subst e;show lJ _ (rules.getD i default)/\kindOk _ (rules.getD i default);rw[hr];exact⟨dR,qd⟩
        ·exact fg i (by omega)
     ·have g2:¬rk=2:=by simpa using g2
      rw[if_neg g2]at qd;refine aa.ab ay fw [1,3,4,5,80,108] ?_;simp[Rq];refine aa.cond rfl (λg3=>?_) (λg3=>?_)
      ·have g3:rk=3:=by simpa using g3
       rw[if_pos g3]at qd;have qT:decide (ra>=0/\ra<nn/\rb=0)=k1:=by cases k1<;>simp at qd⊢<;>first|exact qd|omega
       refine aa.Eu ay fw [(1,.v (.box [ti nt,ti nn,ti ns,.sl (aS rules)])),(3,.v (ti y)),(5,.v (.bool k1))] ?_ ?_
       ·by_cases q1:ra>=0
        ·skip
         by_cases q2:ra<nn
         ·skip
          by_cases q3:rb=0
          ·skip
           have:k1=true:=by rw[<-qT];simp[q1,q2,q3]
           simp[AR,q1,q2,q3,this]
          ·have:k1=false:=by rw[<-qT];simp[q3]
           simp[AR,q1,q2,q3,this]
         ·have:k1=false:=by rw[<-qT];simp[q2]
          simp[AR,q1,q2,this]
        ·have:k1=false:=by rw[<-qT];simp[q1]
         simp[AR,q1,this]
       refine aa.ab ay fw [1,3,150] ?_;simp[wZ];refine aa.cond rfl (λh5=>?_) (λh5=>?_)
       ·skip
        refine aa.ab ay fw [2] ?_;simp[w6];refine aa.ret ?_;rw[bad λh=>by
         have h6:=((cY.1 h).2 y bM).2;rw[hr]at h6;rw[decide_eq_true h6]at wo
         simp_all]
        simp[pA]
       ·skip
        refine aa.skip ?_;simp;have qd:kindOk ⟨nt,nn,ns,rules⟩ ⟨rk,rh,ra,rb,rp,rg⟩:=of_decide_eq_true (by rw[wo];simp_all);refine aa.dv ay fw [1,3] ?_;simp[w7];rw[au (x:=(y:Int)+1) (by omega)];refine⟨y+1,Le.aD (o:=[]) ?_ ?_ ?_ ?_,⟨by omega,λi hi=>?_⟩,by omega⟩;iterate 4(·simp)
        ·by_cases e:i=y
         ·subst e;show lJ _ (rules.getD i default)/\kindOk _ (rules.getD i default);rw[hr];exact⟨dR,qd⟩
         ·exact fg i (by omega)
      ·have g3:¬rk=3:=by simpa using g3
       rw[if_neg g3]at qd;refine aa.ab ay fw [1,3,4,5,125] ?_;simp[Rr];refine aa.cond rfl (λg4=>?_) (λg4=>?_)
       ·have g4:rk=4:=by simpa using g4
        rw[if_pos g4]at qd;have qT:decide (ra>=0/\ra<nn/\rb>=0/\rb<nn)=k1:=by cases k1<;>simp at qd⊢<;>first|exact qd|omega
        refine aa.Eu ay fw [(1,.v (.box [ti nt,ti nn,ti ns,.sl (aS rules)])),(3,.v (ti y)),(5,.v (.bool k1))] ?_ ?_
        ·by_cases q1:ra>=0
         ·skip
          by_cases q2:ra<nn
          ·skip
           by_cases q3:rb>=0
           ·skip
            by_cases q4:rb<nn
            ·skip
             have:k1=true:=by rw[<-qT];simp[q1,q2,q3,q4]
             simp[wY,q1,q2,q3,q4,this]
            ·have:k1=false:=by rw[<-qT];simp[q4]
             simp[wY,q1,q2,q3,q4,this]
           ·have:k1=false:=by rw[<-qT];simp[q3]
            simp[wY,q1,q2,q3,this]
          ·have:k1=false:=by rw[<-qT];simp[q2]
           simp[wY,q1,q2,this]
         ·have:k1=false:=by rw[<-qT];simp[q1]
          simp[wY,q1,this]
        refine aa.ab ay fw [1,3,150] ?_;simp[wZ];refine aa.cond rfl (λh5=>?_) (λh5=>?_)
        ·skip
         refine aa.ab ay fw [2] ?_;simp[w6];refine aa.ret ?_;rw[bad λh=>by
          have h6:=((cY.1 h).2 y bM).2;rw[hr]at h6;rw[decide_eq_true h6]at wo
          simp_all]
         simp[pA]
        ·skip
         refine aa.skip ?_;simp;have qd:kindOk ⟨nt,nn,ns,rules⟩ ⟨rk,rh,ra,rb,rp,rg⟩:=of_decide_eq_true (by rw[wo];simp_all);refine aa.dv ay fw [1,3] ?_;simp[w7];rw[au (x:=(y:Int)+1) (by omega)];refine⟨y+1,Le.aD (o:=[]) ?_ ?_ ?_ ?_,⟨by omega,λi hi=>?_⟩,by omega⟩;iterate 4(·simp)
         ·by_cases e:i=y
          ·subst e;show lJ _ (rules.getD i default)/\kindOk _ (rules.getD i default);rw[hr];exact⟨dR,qd⟩
          ·exact fg i (by omega)
       ·have g4:¬rk=4:=by simpa using g4
        rw[if_neg g4]at qd;have qT:k1=false:=by cases k1<;>simp at qd⊢
        rw[qT]at wo;refine aa.skip ?_;simp;refine aa.ab ay fw [1,3,150] ?_;simp[wZ];refine aa.cond rfl (λh5=>?_) (λh5=>?_)
        ·skip
         refine aa.ab ay fw [2] ?_;simp[w6];refine aa.ret ?_;rw[bad λh=>by
          have h6:=((cY.1 h).2 y bM).2;rw[hr]at h6;rw[decide_eq_true h6]at wo
          simp_all]
         simp[pA]
        ·skip
         refine aa.skip ?_;simp;have qd:kindOk ⟨nt,nn,ns,rules⟩ ⟨rk,rh,ra,rb,rp,rg⟩:=of_decide_eq_true (by rw[wo];simp_all);refine aa.dv ay fw [1,3] ?_;simp[w7];rw[au (x:=(y:Int)+1) (by omega)];refine⟨y+1,Le.aD (o:=[]) ?_ ?_ ?_ ?_,⟨by omega,λi hi=>?_⟩,by omega⟩;iterate 4(·simp)
         ·by_cases e:i=y
          ·subst e;show lJ _ (rules.getD i default)/\kindOk _ (rules.getD i default);rw[hr];exact⟨dR,qd⟩
          ·exact fg i (by omega)
  ·have Wq:y=rules.length:=by simp at bM;omega
   subst Wq;refine aa.exit ?_;simp;refine aa.ab ay fw [2] ?_;simp[Rs];refine aa.ret ?_;have:v=true:=by rw[<-hv];exact decide_eq_true (cY.2 ⟨bb,fg⟩)
   rw[this];simp[pA]
structure di where
 head:Int
 tj:List Int
 (cost l0 l1:Int)
 deriving DecidableEq,Inhabited
def di.enc(e:di):List T:=[ti e.head,.sl (aB e.tj),ti e.cost,ti e.l0,ti e.l1]
def cj(l:List di):List (List T):=l.map di.enc
def TS:List T->di
 |[a,.sl b,c,d,e]=>⟨cX a,fo b,cX c,cX d,cX e⟩
 |_=>default
def Bm(l:List (List T)):List di:=l.map TS
@[simp] theorem OP(r:di):TS r.enc=r:=by simp[TS,di.enc,cX]
@[simp] theorem decHEs_enc(l:List di):Bm (cj l)=l:=fA OP l
@[simp] theorem hedgesT_len(l:List di):(cj l).length=l.length:=by simp[cj]
@[simp] theorem hedgesT_inj{a b:List di}:cj a=cj b↔a=b:=⟨λh=>by have:=congrArg Bm h;simpa using this,λh=>by rw[h]⟩
theorem vM{l:List di}{y:Nat}(h:y<l.length):DM.rowAt (cj l) y=(l.getD y default).enc:=by simp[DM.rowAt,cj,h]
def j5(r:bD):List Int:=if r.kind=3 then [r.a]else if r.kind=4 then [r.a,r.b]else []
theorem t93(r:bD):aT Tryz.prog 93 [.agg r.enc] (.sl (aB (j5 r))):=by
 obtain⟨rk,rh,ra,rb,rp,rg⟩:=r;obtain⟨R,hR⟩:∃R,j5 ⟨rk,rh,ra,rb,rp,rg⟩=R:=⟨_,rfl⟩;rw[hR];simp only[j5]at hR;have ay:=dY;refine c93.ok (by simp) (aJ ?_);simp[bD.enc];refine aa.ab ay fw [1] ?_;simp[Zr];refine aa.le (Le.aD (o:=[]) (l:=[(1,.v (.box [ti rk,ti rh,ti ra,ti rb,ti rp,ti rg]))]) (nxt':=1200) ?_ ?_ ?_ ?_) ?_;iterate 4(·simp)
 refine aa.seq ?_;refine aa.ab ay fw [1,4] ?_;simp[Zs];refine aa.block ?_;refine aa.ab ay fw [1,4,5] ?_;simp[Zt];refine aa.cond rfl (λh1=>?_) (λh1=>?_)
 ·have h1:rk=3:=by simpa using h1
  rw[if_pos h1]at hR;subst hR;refine aa.ab ay fw [2] ?_;simp[Zu,chunk];refine aa.ret ?_;simp[EB,aB]
 ·have h1:¬rk=3:=by simpa using h1
  rw[if_neg h1]at hR;refine aa.ab ay fw [1,10] ?_;simp[Zv];refine aa.cond rfl (λh2=>?_) (λh2=>?_)
  ·have h2:rk=4:=by simpa using h2
   rw[if_pos h2]at hR;subst hR;refine aa.ab ay fw [2] ?_;simp[Zw,chunk];refine aa.ret ?_;simp[EB,aB]
  ·have h2:¬rk=4:=by simpa using h2
   rw[if_neg h2]at hR;subst hR;refine aa.skip ?_;simp;refine aa.ab ay fw [2] ?_;simp[Zx];refine aa.ret ?_;simp[EB,aB]
def fB(v:List br)(ts:List Int):List br:=ts.map λt=>v.getD t.toNat default
theorem t91(e:di)(v:List br)(h:∀t∈e.tj,0<=t/\t<v.length)(hl:e.tj.length<=1000000):lI Tryz.prog 91 [.agg e.enc,.sl (bI v)] 55 2 (bI (fB v e.tj)):=by
 obtain⟨eh,ts,ec,e0,e1⟩:=e;simp only at h hl;have ay:=dY;refine c91.okF (by simp) (aJ ?_);simp[di.enc];refine aa.ab ay fw [1,2] ?_;simp[Za];refine aa.le (Le.aD (o:=[]) (l:=[(1,.v (.sl (bI v))),(2,.v (.box [ti eh,.sl (aB ts),ti ec,ti e0,ti e1]))]) (nxt':=1200) ?_ ?_ ?_ ?_) ?_;iterate 4(·simp)
 refine aa.ab ay fw [1,2,5] ?_;simp[Zb];refine aa.le (Le.aD (o:=[]) (l:=[(1,.v (.sl (bI v))),(2,.v (.box [ti eh,.sl (aB ts),ti ec,ti e0,ti e1])),(5,.aI)]) (nxt':=1400) ?_ ?_ ?_ ?_) ?_;iterate 4(·simp)
 refine aa.le (Le.l7 (k:=5) 55 (sz:=2) (by omega) (by simp)) ?_;rw[ik];refine aa.seq ?_;refine aa.ab ay fw [1,2,5,6] ?_;simp[Zc];refine aa.block ?_;refine aa.loop (λy:Nat=>⟨DM.look [(1,.v (.sl (bI v))),(2,.v (.box [ti eh,.sl (aB ts),ti ec,ti e0,ti e1])),(5,.bk 1400 0),(6,.v (ti y))],cE [(1400,.arr 0 55 2 (bI (fB v (ts.take y))))],1600,1000,[]⟩)
  (λy=>y<=ts.length) (λy=>ts.length-y) 0 (Le.aD ?_ ?_ ?_ ?_) (by simp) (λy hy=>?_)
 ·simp
 ·simp
 ·simp[fB]
 ·simp
 refine aa.seq ?_;refine aa.ab ay fw [1,2,5,6,11] ?_;simp[Zd];refine aa.cond rfl (λbM=>?_) (λbM=>?_)
 ·have bM:y<ts.length:=by simpa using bM
  refine aa.skip ?_;simp;refine aa.seq ?_;refine aa.block ?_;have rt:=cP bM;obtain⟨t,ht⟩:∃t,ts.getD y default=t:=⟨_,rfl⟩;rw[ht]at rt;obtain⟨q1,q2⟩:=h t (by rw[<-ht];exact bw bM);obtain⟨t,rfl⟩:=Zad q1;have q2:t<v.length:=by omega
  have rv:=dM q2;obtain⟨w,hw⟩:∃w,v.getD t default=w:=⟨_,rfl⟩;rw[hw]at rv;have hS:bI (fB v (ts.take (y+1)))=bI (fB v (ts.take y))++[[ti w.cost,ti w.size]]:=by
   rw[cN bM,ht];simp only[fB,ZaO,Zau,ZbX,Zak,hw,bI]
  have hTl:(fB v (ts.take y)).length<=1000000:=by simp[fB];omega
  refine aa.dv ay fw [1,2,5,6] ?_;simp[Ze,bM,rt,q2,rv,cG,chunk];repeat (refine⟨by omega, ?_⟩)
  refine aa.dv ay fw [1,2,5,6] ?_;simp[Zf];rw[au (x:=(y:Int)+1) (by omega)];refine⟨y+1,Le.aD ?_ ?_ ?_ ?_,by omega,by omega⟩
  ·simp
  ·simp
  ·simp[hS]
  ·simp
 ·have fg:y=ts.length:=by simp at bM;omega
  subst fg;rw[Zbn];refine aa.exit ?_;simp;refine aa.ab ay fw [4] ?_;simp[Zg];refine aa.ret ?_;exact .inr ⟨1400,0,by simp,by simp⟩
def E3(ins:List Int)(i:Nat):Prop:=¬(ins.getD i default<1\/ins.getD i default>60000)
instance(ins:List Int)(i:Nat):Decidable (E3 ins i):=by unfold E3;infer_instance
def eQ(n:aG)(ins:List Int):Prop:=(ins.length:Int)=n.aV/\∀i,i<ins.length->E3 ins i
instance(n:aG)(ins:List Int):Decidable (eQ n ins):=by unfold eQ;infer_instance
theorem t44(n:aG)(ins:List Int)(hl:ins.length<=9223372036854775807):aT Tryz.prog 44 [n.enc,.sl (aB ins)] (.bool (decide (eQ n ins))):=by
 obtain⟨nt,nn,ns,rules⟩:=n;obtain⟨v,hv⟩:∃v,decide (eQ ⟨nt,nn,ns,rules⟩ ins)=v:=⟨_,rfl⟩;rw[hv];have cY:eQ ⟨nt,nn,ns,rules⟩ ins↔(ins.length:Int)=nt/\∀i,i<ins.length->E3 ins i:=Iff.rfl;have bad:¬eQ ⟨nt,nn,ns,rules⟩ ins->v=false:=λh=>by rw[<-hv];simp[h]
 have ay:=dY;refine c44.ok (by simp) (aJ ?_);simp[aG.enc];refine aa.ab ay fw [1,2] ?_;simp[ZG];refine aa.le (Le.aD (o:=[]) (l:=[(1,.v (.sl (aB ins))),(2,.v (.box [ti nt,ti nn,ti ns,.sl (aS rules)]))]) (nxt':=1200) ?_ ?_ ?_ ?_) ?_;iterate 4(·simp)
 refine aa.seq ?_;refine aa.ab ay fw [1,10] ?_;simp[ZH];refine aa.cond rfl (λh1=>?_) (λh1=>?_)
 ·have h1:¬(ins.length:Int)=nt:=by simpa using h1
  refine aa.ab ay fw [4] ?_;simp[ZI];refine aa.ret ?_;rw[bad λh=>h1 (cY.1 h).1];simp[EC]
 ·have h1:(ins.length:Int)=nt:=by simpa using h1
  refine aa.skip ?_;simp;refine aa.seq ?_;refine aa.ab ay fw [1,5] ?_;simp[ZJ];refine aa.block ?_;refine aa.loop (λy:Nat=>⟨DM.look [(1,.v (.sl (aB ins))),(5,.v (ti y))],cE [],2000,1000,[]⟩)
   (λy=>y<=ins.length/\∀i,i<y->E3 ins i) (λy=>ins.length-y) 0 (Le.aD (o:=[]) ?_ ?_ ?_ ?_) (by simp) (λy hy=>?_)
  iterate 4(·simp)
  obtain⟨jQ,fg⟩:=hy;refine aa.seq ?_;refine aa.ab ay fw [1,5,14] ?_;simp[ZK];refine aa.cond rfl (λbM=>?_) (λbM=>?_)
  ·have bM:y<ins.length:=by simpa using bM
   refine aa.skip ?_;simp;refine aa.seq ?_;refine aa.block ?_;have rr:=cP bM;obtain⟨x,hx⟩:∃x,ins.getD y default=x:=⟨_,rfl⟩;rw[hx]at rr;obtain⟨c2,dR⟩:∃c2:Bool,decide (x<1\/x>60000)=c2:=⟨_,rfl⟩;refine aa.bZ ay fw [(1,.v (.sl (aB ins))),(5,.v (ti y)),(28,.v (.bool c2))] ?_ ?_
   ·by_cases q1:x<1
    ·have:c2=true:=by rw[<-dR];simp[q1]
     simp[MH,q1,this,bM,rr]
    ·skip
     by_cases q2:x>60000
     ·have:c2=true:=by rw[<-dR];simp[q2]
      simp[MH,q1,q2,this,bM,rr]
     ·skip
      have:c2=false:=by rw[<-dR];simp[q1,q2]
      simp[MH,q1,q2,this,bM,rr]
   refine aa.cond rfl (λh2=>?_) (λh2=>?_)
   ·rw[h2]at dR;have dR:=of_decide_eq_true dR;refine aa.ab ay fw [4] ?_;simp[ZL];refine aa.ret ?_;rw[bad λh=>by have:=(cY.1 h).2 y bM;unfold E3 at this;rw[hx]at this;exact this dR];simp[EC]
   ·rw[h2]at dR;have dR:=of_decide_eq_false dR;refine aa.skip ?_;simp;refine aa.dv ay fw [1,5] ?_;simp[ZM];rw[au (x:=(y:Int)+1) (by omega)];refine⟨y+1,Le.aD (o:=[]) ?_ ?_ ?_ ?_,⟨by omega,λi hi=>?_⟩,by omega⟩;iterate 4(·simp)
    ·by_cases e:i=y
     ·subst e;unfold E3;rw[hx];exact dR
     ·exact fg i (by omega)
  ·have Wq:y=ins.length:=by simp at bM;omega
   subst Wq;refine aa.exit ?_;simp;refine aa.ab ay fw [4] ?_;simp[ZN];refine aa.ret ?_;have:v=true:=by rw[<-hv];exact decide_eq_true (cY.2 ⟨h1,fg⟩)
   rw[this];simp[EC]
def jB(ins:List Int)(r:bD):di:=⟨r.head,j5 r,if r.kind=2 then r.bE+ins.getD r.a.toNat default else r.bE,0,0⟩
def ua(n:aG)(ins:List Int):List di:=n.rules.map (jB ins)
abbrev s93:DM.Spec:=ct (λts=>∃a b c d e f,ts=[.agg [ti a,ti b,ti c,ti d,ti e,ti f]]) (fun|[.agg r]=>.sl (aB (j5 (pD r)))|_=>.bool false) false
theorem ok93:aw Tryz.prog (aW [(93,s93)]):=by
 refine aw.cons aw.nil ?_;rintro ts ⟨a,b,c,d,e,f,rfl⟩;exact⟨by simpa [bD.enc,pD,cX]using t93 ⟨a,b,c,d,e,f⟩,λh=>by cases h⟩
theorem KP(r:bD):(j5 r).length<=2:=by unfold j5;split<;>(try split)<;>simp
theorem t67(n:aG)(ins:List Int)(hn:oJ n)(hp:eQ n ins):aT Tryz.prog 67 [n.enc,.sl (aB ins)] (.agg [ti n.an,.sl (cj (ua n ins))]):=by
 obtain⟨nt,nn,ns,rules⟩:=n;obtain⟨n1,n2,n3,n4⟩:=hn;obtain⟨p1,p2⟩:=hp;simp only[ua]at n1 n2 n3 n4 p1 p2⊢;have ay:=ok93;refine c67.ok (by simp) (aJ ?_);simp[aG.enc];refine aa.ab ay fw [1,2,4] ?_;simp[Zy];refine aa.le (Le.aD (o:=[(1005,.box [.v (ti 0),.aI])]) (l:=[(1,.v (.sl (aB ins))),(2,.v (.box [ti nt,ti nn,ti ns,.sl (aS rules)])),(4,.ptr 1005 0)]) (nxt':=1200) ?_ ?_ ?_ ?_) ?_;iterate 4(·simp)
 refine aa.ab ay fw [1,2,4,5] ?_;simp[Zz];refine aa.le (Le.aD (o:=[(1005,.box [.v (ti 0),.aI])]) (l:=[(1,.v (.sl (aB ins))),(2,.v (.box [ti nt,ti nn,ti ns,.sl (aS rules)])),(4,.ptr 1005 0),(5,.aI)]) (nxt':=1400) ?_ ?_ ?_ ?_) ?_;iterate 4(·simp)
 refine aa.le (Le.l7 (k:=5) 156 (sz:=5) (by omega) (by simp)) ?_;rw[ik];refine aa.seq ?_;refine aa.ab ay fw [1,2,4,5,6] ?_;simp[ZA];refine aa.block ?_;refine aa.loop (λy:Nat=>⟨DM.look [(1,.v (.sl (aB ins))),(2,.v (.box [ti nt,ti nn,ti ns,.sl (aS rules)])),(4,.ptr 1005 0),(5,.bk 1400 0),(6,.v (ti y))],cE [(1005,.box [.v (ti 0),.aI]),(1400,.arr 0 156 5 (cj ((rules.take y).map (jB ins))))],1600,1000,[]⟩)
  (λy=>y<=rules.length) (λy=>rules.length-y) 0 (Le.aD ?_ ?_ ?_ ?_) (by simp) (λy hy=>?_)
 ·simp
 ·simp
 ·simp[cj]
 ·simp
 refine aa.seq ?_;refine aa.ab ay fw [1,2,4,5,6,13] ?_;simp[ZB];refine aa.cond rfl (λbM=>?_) (λbM=>?_)
 ·have bM:y<rules.length:=by simpa using bM
  refine aa.skip ?_;simp;refine aa.seq ?_;refine aa.block ?_;have rr:=fR bM;obtain⟨⟨rk,rh,ra,rb,rp,rg⟩,hr⟩:∃r,rules.getD y default=r:=⟨_,rfl⟩;rw[hr]at rr;have jR:=n4 ⟨rk,rh,ra,rb,rp,rg⟩ (by rw[<-hr];exact bw bM);obtain⟨q1,q2,q3,q4,q5⟩:=jR;simp only at q1 q2 q3 q4 q5;refine aa.ab ay fw [1,2,4,5,6,7] ?_;simp[ZC,bM,rr,bD.enc];refine aa.le (Le.aD (o:=[(1005,.box [.v (ti 0),.aI]),(1400,.arr 0 156 5 (cj ((rules.take y).map (jB ins))))]) (l:=[(1,.v (.sl (aB ins))),(2,.v (.box [ti nt,ti nn,ti ns,.sl (aS rules)])),(4,.ptr 1005 0),(5,.bk 1400 0),(6,.v (ti y)),(7,.v (.box [ti rk,ti rh,ti ra,ti rb,ti rp,ti rg]))]) (nxt':=2400) ?_ ?_ ?_ ?_) ?_;iterate 4(·simp)
  refine aa.ab ay fw [1,2,4,5,6,7,8] ?_;simp[ZD];refine aa.seq ?_;refine aa.ab ay fw [1,2,4,5,6,7,8,25] ?_;simp[ZE];refine aa.cond rfl (λh6=>?_) (λh6=>?_)
  ·have h6:rk=2:=by simpa using h6
   have Gh:0<=ra/\ra<ins.length:=by omega
   obtain⟨a,rfl⟩:=Zad Gh.1;have kj:a<ins.length:=by omega
   have ri:=cP kj;have hpi:=p2 a kj;unfold E3 at hpi;obtain⟨x,hx⟩:∃x,ins.getD a default=x:=⟨_,rfl⟩;rw[hx]at ri hpi;have hE:jB ins ⟨rk,rh,a,rb,rp,rg⟩=⟨rh,j5 ⟨rk,rh,a,rb,rp,rg⟩,rp+x,0,0⟩:=by unfold jB;simp only[if_pos h6,Zak,hx]
   refine aa.dv ay fw [1,2,4,5,6,7,8] ?_;simp[ZF,kj,ri,au (x:=rp+x) (by omega)];refine aa.dv ay fw [1,2,4,5,6] ?_;simp[Rk,pD,cX,chunk,cG];repeat (refine⟨by omega, ?_⟩)
   have hS:∀ec,jB ins (rules.getD y default)=⟨rh,j5 (rules.getD y default),ec,0,0⟩->cj ((rules.map (jB ins)).take (y+1))=cj ((rules.map (jB ins)).take y)++[[ti rh,.sl (aB (j5 (rules.getD y default))),ti ec,ti 0,ti 0]]:=by
    intro ec h;rw[<-List.map_take,cN bM,ZaO,cj,ZaO,List.map_take];simp only[Zau,ZbX,h,di.enc,cj]
   rw[hr]at hS;have hS:=hS _ hE;refine aa.dv ay fw [1,2,4,5,6] ?_;simp[Rl];rw[au (x:=(y:Int)+1) (by omega)];refine⟨y+1,Le.aD ?_ ?_ ?_ ?_,by omega,by omega⟩
   ·simp
   ·simp
   ·simp[hS]
   ·simp
  ·have h6:¬rk=2:=by simpa using h6
   have hE:jB ins ⟨rk,rh,ra,rb,rp,rg⟩=⟨rh,j5 ⟨rk,rh,ra,rb,rp,rg⟩,rp,0,0⟩:=by unfold jB;simp only[if_neg h6]
   refine aa.skip ?_;simp;refine aa.dv ay fw [1,2,4,5,6] ?_;simp[Rk,pD,cX,chunk,cG];repeat (refine⟨by omega, ?_⟩)
   have hS:∀ec,jB ins (rules.getD y default)=⟨rh,j5 (rules.getD y default),ec,0,0⟩->cj ((rules.map (jB ins)).take (y+1))=cj ((rules.map (jB ins)).take y)++[[ti rh,.sl (aB (j5 (rules.getD y default))),ti ec,ti 0,ti 0]]:=by
    intro ec h;rw[<-List.map_take,cN bM,ZaO,cj,ZaO,List.map_take];simp only[Zau,ZbX,h,di.enc,cj]
   rw[hr]at hS;have hS:=hS _ hE;refine aa.dv ay fw [1,2,4,5,6] ?_;simp[Rl];rw[au (x:=(y:Int)+1) (by omega)];refine⟨y+1,Le.aD ?_ ?_ ?_ ?_,by omega,by omega⟩
   ·simp
   ·simp
   ·simp[hS]
   ·simp
 ·have fg:y=rules.length:=by simp at bM;omega
  subst fg;rw[show(rules.map (jB ins)).take rules.length=rules.map (jB ins)from Za2 (by simp)];refine aa.exit ?_;simp;refine aa.ab ay fw [4] ?_;simp[Rm];refine aa.ret ?_;simp[Rn]
theorem sy(l:List br)(i:Nat)(x:br):bI (l.set i x)=(bI l).set i [ti x.cost,ti x.size]:=by simp[bI,ZbJ]
theorem sA(l:List Int)(i:Nat)(x:Int):aB (l.set i x)=(aB l).set i [ti x]:=by simp[aB,ZbJ]
theorem XD{α:Type}(a b:α){n y:Nat}(h:y<n):(List.replicate y a++List.replicate (n-y) b).set y a=List.replicate (y+1) a++List.replicate (n-(y+1)) b:=by
 rw[Zb5 _ _ (by simp)];simp only[ZbC,Nat.sub_self];rw[show n-y=(n-(y+1))+1 by omega,Za6,Zcd,ZbR (n:=y),List.append_assoc];rfl
def Bn(nd:Int)(e:di):Prop:=0<=e.head/\e.head<nd/\(∀t∈e.tj,0<=t/\t<nd)/\0<=e.cost/\e.cost<=4000000000000/\e.tj.length<=1000000
def hOk(nd:Int)(es:List di):Prop:=0<=nd/\nd<=1000000/\es.length<=1000000/\∀e∈es,Bn nd e
def OQ(nd:Int)(v:List br):Prop:=(v.length:Int)=nd/\∀x∈v,kJ x
def Dg(x:br):Nat:=x.cost.toNat*2199023255552+x.size.toNat
def iO(v:List br):Nat:=(v.map Dg).sum
theorem Dh{own:List br}{h:Nat}{y:br}(hh:h<own.length)(hy:Dg y<Dg (own.getD h default)):iO (own.set h y)<iO own:=by
 induction own generalizing h with
 |nil=>simp at hh
 |cons x own ih=>
  cases h with
  |zero=>simp[iO]at hy⊢;omega
  |succ h=>
   have:=ih (h:=h) (by simpa using hh) (by simpa using hy);simp[iO]at this⊢;omega
theorem Nb{a b:br}(ha:kJ a)(hb:kJ b)(h:a.lt b):Dg a<Dg b:=by
 obtain⟨a1,a2,a3,a4⟩:=ha;obtain⟨b1,b2,b3,b4⟩:=hb;unfold br.lt at h;unfold Dg;omega
def vN(v:List br)(e:di):List br:=if(comb e.cost (fB v e.tj)).lt (v.getD e.head.toNat default)then v.set e.head.toNat (comb e.cost (fB v e.tj))else v
theorem xu{nd:Int}{v:List br}{ts:List Int}(hv:OQ nd v)(h:∀t∈ts,0<=t/\t<nd):∀x∈fB v ts,kJ x:=by
 intro x hx;simp only[fB,Zal]at hx;obtain⟨t,ht,rfl⟩:=hx;have:=h t ht;have:=hv.1;exact hv.2 _ (bw (by omega))
theorem H5{nd:Int}{v:List br}{e:di}(he:Bn nd e)(hv:OQ nd v):OQ nd (vN v e)/\(vN v e=v\/iO (vN v e)<iO v):=by
 obtain⟨e1,e2,e3,e4,e5,e6⟩:=he;have hc:=iC (c:=e.cost) (l:=fB v e.tj) (xu hv e3) e4 e5;have hh:e.head.toNat<v.length:=by have:=hv.1;omega
 unfold vN;split
 ·rename_i h;refine⟨⟨by simpa using hv.1,λx hx=>?_⟩,.inr (Dh hh (Nb hc (hv.2 _ (bw hh)) h))⟩;rcases ZaZ hx with h|rfl
  ·exact hv.2 x h
  ·exact hc
 ·exact⟨hv,.inl rfl⟩
def ew(es:List di)(v:List br)(y:Nat):List br:=(List.range y).foldl (λv k=>vN v (es.getD k default)) v
theorem rJ(es:List di)(v:List br)(y:Nat):ew es v (y+1)=vN (ew es v y) (es.getD y default):=by simp[ew,ZaD,Zat]
theorem xw{nd:Int}{es:List di}(hh:hOk nd es){v:List br}(hv:OQ nd v):∀y,y<=es.length->OQ nd (ew es v y)/\(ew es v y=v\/iO (ew es v y)<iO v)
 |0,_=>⟨hv,.inl rfl⟩
 |y+1,hy=>by
  obtain⟨h1,h2⟩:=xw hh hv y (by omega);obtain⟨h3,h4⟩:=H5 (hh.2.2.2 _ (bw (l:=es) (i:=y) (by omega))) h1;rw[rJ];refine⟨h3, ?_⟩;rcases h4 with e|h4
  ·rw[e];exact h2
  ·rcases h2 with e|h2
   ·rw[e]at h4⊢;exact .inr h4
   ·exact .inr (by omega)
def rK(es:List di):Nat->List br->List br
 |0,v=>v
 |f+1,v=>if ew es v es.length=v then v else rK es f (ew es v es.length)
theorem KQ{es:List di}{v:List br}{f:Nat}{R:List br}(hs:ew es v es.length=v\/iO (ew es v es.length)<iO v)(h1:iO v<f)(h2:rK es f v=R):
  (ew es v es.length≠v->iO (ew es v es.length)<iO v/\∃f,iO (ew es v es.length)<f/\rK es f (ew es v es.length)=R)/\(ew es v es.length=v->v=R):=by
 cases f with
 |zero=>omega
 |succ f=>
  unfold rK at h2;refine⟨λbG=>?_,λe=>?_⟩
  ·rw[if_neg bG]at h2;have:=hs.resolve_left bG;exact⟨this,f,by omega,h2⟩
  ·rwa [if_pos e]at h2
def KS(nd:Int):List br:=List.replicate nd.toNat ⟨1099511627776,0⟩
def ub(nd:Int)(es:List di):List br:=rK es (iO (KS nd)+1) (KS nd)
theorem Di{nd:Int}{es:List di}(hh:hOk nd es):∀f v,iO v<f->OQ nd v->OQ nd (rK es f v)
 |0,v,h,_=>by omega
 |f+1,v,h,hv=>by
  obtain⟨h1,h2⟩:=xw hh hv es.length (Zae _);unfold rK;split
  ·exact hv
  ·rename_i bG;exact Di hh f _ (by have:=h2.resolve_left bG;omega) h1
theorem Nc{nd:Int}{es:List di}(hh:hOk nd es):OQ nd (KS nd):=by
 refine⟨by have:=hh.1;simp only[KS,ZbC];omega,λx hx=>?_⟩;rw[ZbG hx];simp[kJ]
theorem Dj{nd:Int}{es:List di}(hh:hOk nd es):OQ nd (ub nd es):=Di hh _ _ (by omega) (Nc hh)
def stepG(es:List di)(v:List br)(g:List Int)(j:Nat):List Int:=
 if(v.getD (es.getD (es.length-1-j) default).head.toNat default).cost<1099511627776/\comb (es.getD (es.length-1-j) default).cost (fB v (es.getD (es.length-1-j) default).tj)=v.getD (es.getD (es.length-1-j) default).head.toNat default then g.set (es.getD (es.length-1-j) default).head.toNat ((es.length-1-j:Nat):Int)else g
def tl(es:List di)(v:List br)(nd:Int)(j:Nat):List Int:=(List.range j).foldl (stepG es v) (List.replicate nd.toNat (-1))
theorem ud(es:List di)(v:List br)(nd:Int)(y:Nat):tl es v nd (y+1)=stepG es v (tl es v nd y) y:=by simp[tl,ZaD,Zat]
theorem OS(es:List di)(v:List br){nd:Int}(h:0<=nd)(y:Nat):((tl es v nd y).length:Int)=nd:=by
 induction y with
 |zero=>simp[tl];omega
 |succ y ih=>
  rw[ud];unfold stepG;split
  ·simpa using ih
  ·exact ih
structure VM where
 v:List br
 more:Bool
abbrev s91:DM.Spec:=yi (λts=>∃a b c d e v,ts=[.agg [ti a,.sl (aB b),ti c,ti d,ti e],.sl (bI v)]/\(∀t∈b,0<=t/\t<v.length)/\b.length<=1000000) (fun|[.agg [_,.sl b,_,_,_],.sl v]=>bI (fB (k9 v) (fo b))|_=>[]) 55 2
theorem H6(l:List br):ga.gC (bI l).flatten=true:=by
 induction l with
 |nil=>rfl
 |cons x l ih=>simpa [bI,ga.gC,ga]using ih
theorem okSo:aw Tryz.prog (aW [(91,s91),(69,s69),(92,s92)]):=by
 refine aw.QI (aw.cons (aw.cons aw.nil ?_) ?_) ?_
 ·rintro ts ⟨a,b,c,d,rfl⟩;exact⟨t92 ⟨a,b⟩ ⟨c,d⟩,λ_=>rfl⟩
 ·rintro ts ⟨c,l,rfl,h1,h2,h3,h4⟩;exact⟨by simpa using t69 c l h1 h2 h3 h4,λ_=>rfl⟩
 ·rintro ts ⟨a,b,c,d,e,v,rfl,h1,h2⟩;exact⟨by simpa [di.enc]using t91 ⟨a,b,c,d,e⟩ v h1 h2,H6 _⟩
theorem t66(nd:Int)(es:List di)(hh:hOk nd es):aT Tryz.prog 66 [.agg [ti nd,.sl (cj es)]] (.eD [.sl (bI (ub nd es)),.sl (aB (tl es (ub nd es) nd es.length))]):=by
 obtain⟨R,hR⟩:∃R,ub nd es=R:=⟨_,rfl⟩;have hRo:OQ nd R:=hR▸Dj hh;rw[hR];have h0:=Nc hh;have zF:=λ(v:List br) (hv:OQ nd v)=>xw hh hv;have lE:=λ(v:List br) (hv:OQ nd v) (e:di) (he:Bn nd e)=>H5 he hv;obtain⟨g1,g2,g3,g4⟩:=hh;have ay:=okSo;refine c66.ok (by simp) (aJ ?_);simp;refine aa.ab ay fw [1] ?_;simp[Zh];refine aa.le (Le.aD (o:=[]) (l:=[(1,.v (.box [ti nd,.sl (cj es)]))]) (nxt':=1200) ?_ ?_ ?_ ?_) ?_;iterate 4(·simp)
 refine aa.ab ay fw [1,4] ?_;simp[Zi,and_assoc,cG];repeat (refine⟨by omega, ?_⟩)
 refine aa.le (Le.aD (o:=[(1217,.arr 0 55 2 (bI ((List.replicate nd.toNat (⟨0,0⟩:br)))))]) (l:=[(1,.v (.box [ti nd,.sl (cj es)])),(4,.bk 1217 0)]) (nxt':=1400) ?_ ?_ ?_ ?_) ?_
 ·simp
 ·simp
 ·simp[bI]
 ·simp
 refine aa.ab ay fw [1,4,5] ?_;simp[Zj,and_assoc,cG];repeat (refine⟨by omega, ?_⟩)
 refine aa.le (Le.aD (o:=[(1217,.arr 0 55 2 (bI ((List.replicate nd.toNat (⟨0,0⟩:br))))),(1420,.arr 0 3 1 (aB (List.replicate nd.toNat 0)))]) (l:=[(1,.v (.box [ti nd,.sl (cj es)])),(4,.bk 1217 0),(5,.bk 1420 0)]) (nxt':=1600) ?_ ?_ ?_ ?_) ?_
 ·simp
 ·simp
 ·simp[bI,aB]
 ·simp
 refine aa.seq ?_;refine aa.ab ay fw [1,4,5,6] ?_;simp[Zk];refine aa.block ?_;refine aa.loop (λy:Nat=>⟨DM.look [(1,.v (.box [ti nd,.sl (cj es)])),(4,.bk 1217 0),(5,.bk 1420 0),(6,.v (ti y))],cE [(1217,.arr 0 55 2 (bI (List.replicate y (⟨1099511627776,0⟩:br)++List.replicate (nd.toNat-y) (⟨0,0⟩:br)))),(1420,.arr 0 3 1 (aB (List.replicate y (-1:Int)++List.replicate (nd.toNat-y) (0:Int))))],2000,1000,[]⟩)
  (λy=>y<=nd.toNat) (λy=>nd.toNat-y) 0 (Le.aD ?_ ?_ ?_ ?_) (by simp) (λy hy=>?_)
 iterate 4(·simp)
 obtain⟨A,hA⟩:∃A,List.replicate y (⟨1099511627776,0⟩:br)++List.replicate (nd.toNat-y) (⟨0,0⟩:br)=A:=⟨_,rfl⟩;obtain⟨E,hE⟩:∃E,List.replicate y (-1:Int)++List.replicate (nd.toNat-y) (0:Int)=E:=⟨_,rfl⟩;have hAl:A.length=nd.toNat:=by rw[<-hA];simp;omega
 have hEl:E.length=nd.toNat:=by rw[<-hE];simp;omega
 rw[hA,hE];refine aa.seq ?_;refine aa.ab ay fw [1,4,5,6,23] ?_;simp[Zl];refine aa.cond rfl (λbM=>?_) (λbM=>?_)
 ·have bM:(y:Int)<nd:=by simpa using bM
  have hyn:y<nd.toNat:=by omega
  refine aa.skip ?_;simp;refine aa.seq ?_;refine aa.block ?_;have ra:=dM (l:=A) (y:=y) (by omega);have re:=cP (l:=E) (y:=y) (by omega);have q1:y<A.length:=by omega
  have q2:y<E.length:=by omega
  refine aa.dv ay fw [1,4,5,6] ?_;simp[Zm,q1,q2,ra,re];refine aa.dv ay fw [1,4,5,6] ?_;simp[Zn];rw[au (x:=(y:Int)+1) (by omega)];refine⟨y+1,Le.aD ?_ ?_ ?_ ?_,by omega,by omega⟩
  ·simp
  ·simp
  ·simp only[<-XD _ _ hyn,hA,hE,sy,sA];simp
  ·simp
 ·have fg:y=nd.toNat:=by simp at bM;omega
  subst fg;have tK:A=KS nd:=by rw[<-hA];simp[KS]
  have hE2:E=List.replicate nd.toNat (-1):=by rw[<-hE];simp
  subst tK;subst hE2;refine aa.exit ?_;simp;refine aa.seq ?_;refine aa.ab ay fw [1,4,5,7] ?_;simp[Zo];refine aa.block ?_;refine aa.loop (λz:VM=>⟨DM.look [(1,.v (.box [ti nd,.sl (cj es)])),(4,.bk 1217 0),(5,.bk 1420 0),(7,.v (.bool z.more))],cE [(1217,.arr 0 55 2 (bI (z.v))),(1420,.arr 0 3 1 (aB (List.replicate nd.toNat (-1))))],3000,1000,[]⟩)
   (λz=>OQ nd z.v/\(z.more=true->∃f,iO z.v<f/\rK es f z.v=R)/\(z.more=false->z.v=R)) (λz=>2*iO z.v+(if z.more then 1 else 0)) ⟨KS nd,true⟩ (Le.aD ?_ ?_ ?_ ?_) (⟨h0,λ_=>⟨_,ZbV _,hR⟩,λh=>by cases h⟩) (λz hy=>?_)
  iterate 4(·simp)
  obtain⟨own,more⟩:=z;obtain⟨hz1,Xh,Xz⟩:=hy;simp only at hz1 Xh Xz⊢;refine aa.seq ?_;refine aa.ab ay fw [1,4,5,33] ?_;simp[Zp];refine aa.cond rfl (λhm=>?_) (λhm=>?_)
  ·have hm:more=true:=by simpa using hm
   subst hm;obtain⟨f,hf1,XA⟩:=Xh rfl;refine aa.skip ?_;simp;refine aa.block ?_;refine aa.ab ay fw [1,4,5,7] ?_;simp[Zq];refine aa.ab ay fw [1,4,5,7,8] ?_;simp[Q6];refine aa.block ?_;refine aa.loop (λy:Nat=>⟨DM.look [(1,.v (.box [ti nd,.sl (cj es)])),(4,.bk 1217 0),(5,.bk 1420 0),(7,.v (.bool (decide (ew es own y≠own)))),(8,.v (ti y))],cE [(1217,.arr 0 55 2 (bI (ew es own y))),(1420,.arr 0 3 1 (aB (List.replicate nd.toNat (-1))))],4000,1000,[]⟩)
    (λy=>y<=es.length) (λy=>es.length-y) 0 (Le.aD ?_ ?_ ?_ ?_) (by simp) (λy Wq=>?_)
   ·simp
   ·simp[ew]
   ·simp[ew]
   ·simp[ew]
   obtain⟨O,hO⟩:∃O,ew es own y=O:=⟨_,rfl⟩;obtain⟨pn,Ms⟩:=zF own hz1 y Wq;rw[hO]at pn Ms;obtain⟨m1,wk⟩:∃m1:Bool,decide (O≠own)=m1:=⟨_,rfl⟩;rw[hO,wk];refine aa.seq ?_;refine aa.ab ay fw [1,4,5,7,8,38] ?_;simp[Q7];refine aa.cond rfl (λbM=>?_) (λbM=>?_)
   ·have bM:y<es.length:=by simpa using bM
    refine aa.skip ?_;simp;refine aa.seq ?_;refine aa.block ?_;have rr:=vM bM;obtain⟨⟨xh,xt,xc,x0,x1⟩,hx⟩:∃x,es.getD y default=x:=⟨_,rfl⟩;rw[hx]at rr;have hxo:Bn nd ⟨xh,xt,xc,x0,x1⟩:=g4 _ (by rw[<-hx];exact bw bM);have XC:=lE O pn _ hxo;obtain⟨q1,q2,q3,q4,q5,q6⟩:=hxo;simp only at q1 q2 q3 q4 q5 q6;obtain⟨xh,rfl⟩:=Zad q1;refine aa.ab ay fw [1,4,5,7,8,9] ?_;simp[Q8,bM,rr,di.enc];refine aa.le (Le.aD (o:=[(1217,.arr 0 55 2 (bI (O))),(1420,.arr 0 3 1 (aB (List.replicate nd.toNat (-1))))]) (l:=[(1,.v (.box [ti nd,.sl (cj es)])),(4,.bk 1217 0),(5,.bk 1420 0),(7,.v (.bool m1)),(8,.v (ti y)),(9,.v (.box [ti xh,.sl (aB xt),ti xc,ti x0,ti x1]))]) (nxt':=4200) ?_ ?_ ?_ ?_) ?_;iterate 4(·simp)
    have ht3:∀t∈xt,0<=t/\t<O.length:=λt ht=>by have:=q3 t ht;have:=pn.1;omega
    have htv:=xu pn q3;have DR:(fB O xt).length<=1000000:=by simpa [fB]using q6
    obtain⟨⟨wc,wz⟩,hw⟩:∃w,comb xc (fB O xt)=w:=⟨_,rfl⟩;refine aa.iA ay fw (rs:=fj EA [none,some [],some [],none,some [1217],some [4251],none,some [4211]]) (.inr ⟨_,rfl⟩) (by kernel_rfl) [1,4,5,7,8,9,10] ?_;simp[EA,fj,b8,bm,names,and_assoc,q6,DR,hw];refine⟨ht3,htv, ?_⟩;repeat (refine⟨by omega, ?_⟩)
    refine aa.le (Le.aD (o:=[(1217,.arr 0 55 2 (bI (O))),(1420,.arr 0 3 1 (aB (List.replicate nd.toNat (-1))))]) (l:=[(1,.v (.box [ti nd,.sl (cj es)])),(4,.bk 1217 0),(5,.bk 1420 0),(7,.v (.bool m1)),(8,.v (ti y)),(9,.v (.box [ti xh,.sl (aB xt),ti xc,ti x0,ti x1])),(10,.v (.box [ti wc,ti wz]))]) (nxt':=4400) ?_ ?_ ?_ ?_) ?_;iterate 4(·simp)
    have KM:xh<O.length:=by have:=pn.1;omega
    have ro:=dM KM;obtain⟨⟨uc,uz⟩,hu⟩:∃w,O.getD xh default=w:=⟨_,rfl⟩;rw[hu]at ro;obtain⟨c1,bb⟩:∃c1:Bool,decide ((⟨wc,wz⟩:br).lt ⟨uc,uz⟩)=c1:=⟨_,rfl⟩;refine aa.ab ay fw [1,4,5,7,8,9,10,58] ?_;simp[Q9,KM,ro,bb];refine aa.cond rfl (λh5=>?_) (λh5=>?_)
    ·have h5:c1=true:=by simpa using h5
     rw[h5]at bb;have bb:=of_decide_eq_true bb;have hS0:vN O ⟨xh,xt,xc,x0,x1⟩=O.set xh ⟨wc,wz⟩:=by unfold vN;simp only[hw,hu,Zak];rw[if_pos bb]
     have yC:ew es own (y+1)=O.set xh ⟨wc,wz⟩:=by rw[rJ,hO,hx,hS0]
     have bG:¬ew es own (y+1)=own:=by
      intro e;have h6:iO (O.set xh ⟨wc,wz⟩)<iO O:=by
       refine Dh KM ?_;rw[hu];exact Nb (by rw[<-hw];exact iC htv q4 q5) (by rw[<-hu];exact pn.2 _ (bw KM)) bb
      rw[<-yC,e]at h6;rcases Ms with h|h
      ·rw[h]at h6;omega
      ·omega
     refine aa.ab ay fw [1,4,5,8] ?_;simp[Ra,KM,ro];refine aa.dv ay fw [1,4,5,7,8] ?_;simp[Rb];refine aa.dv ay fw [1,4,5,7,8] ?_;simp[J7];rw[au (x:=(y:Int)+1) (by omega)];refine⟨y+1,Le.aD ?_ ?_ ?_ ?_,by omega,by omega⟩
     ·simp
     ·simp
     ·simp[yC,sy]
     ·simp;simpa using bG
    ·have h5:c1=false:=by simpa using h5
     rw[h5]at bb;have bb:=of_decide_eq_false bb;have yC:ew es own (y+1)=O:=by rw[rJ,hO,hx];unfold vN;simp only[hw,hu,Zak];rw[if_neg bb]
     have bG:=wk;rw[<-yC]at bG;refine aa.skip ?_;simp;refine aa.dv ay fw [1,4,5,7,8] ?_;simp[J7];rw[au (x:=(y:Int)+1) (by omega)];refine⟨y+1,Le.aD ?_ ?_ ?_ ?_,by omega,by omega⟩
     ·simp
     ·simp
     ·simp[yC,sy]
     ·simp;simpa using bG
   ·have wN:y=es.length:=by simp at bM;omega
    subst wN;have CM:=KQ (zF own hz1 _ (Zae _)).2 hf1 XA;simp only[hO]at CM;have hdec:2*iO O+(if m1 then 1 else 0)<2*iO own+1:=by
     by_cases e:O=own
     ·have D5:m1=false:=by rw[<-wk];simp[e]
      subst D5;rw[e];simp
     ·have:=(CM.1 e).1;cases m1<;>simp<;>omega
    refine aa.exit ?_;simp;refine⟨⟨O,m1⟩,Le.aD ?_ ?_ ?_ ?_,⟨pn,λh=>(CM.1 (of_decide_eq_true (wk.trans h))).2,λh=>by have e:=Classical.not_not.1 (of_decide_eq_false (wk.trans h));simp only;rw[e];exact CM.2 e⟩,by simpa using hdec⟩;iterate 3(·simp)
    ·simp
  ·have hm:more=false:=by simpa using hm
   subst hm;have Xz:=Xz rfl;subst Xz;refine aa.exit ?_;simp;refine aa.seq ?_;refine aa.ab ay fw [1,4,5,11] ?_;simp[Rc,au (x:=(es.length:Int)-1) (by omega)];refine aa.block ?_;refine aa.loop (λj:Nat=>⟨DM.look [(1,.v (.box [ti nd,.sl (cj es)])),(4,.bk 1217 0),(5,.bk 1420 0),(11,.v (ti ((es.length:Int)-1-j)))],cE [(1217,.arr 0 55 2 (bI (own))),(1420,.arr 0 3 1 (aB (tl es own nd j)))],5000,1000,[]⟩)
    (λj=>j<=es.length) (λj=>es.length-j) 0 (Le.aD ?_ ?_ ?_ ?_) (by simp) (λj hj=>?_)
   ·simp
   ·simp
   ·simp[tl]
   ·simp
   obtain⟨G,hG⟩:∃G,tl es own nd j=G:=⟨_,rfl⟩;have hGl:=OS es own g1 j;rw[hG]at hGl;rw[hG];obtain⟨k,hk⟩:∃k,(es.length:Int)-1-j=k:=⟨_,rfl⟩;rw[hk];refine aa.seq ?_;refine aa.ab ay fw [1,4,5,11,69] ?_;simp[Re];refine aa.cond rfl (λh9=>?_) (λh9=>?_)
   ·have h9:0<=k:=by simpa using h9
    obtain⟨k,rfl⟩:=Zad h9;have Wo:k<es.length:=by omega
    have hke:es.length-1-j=k:=by omega
    refine aa.skip ?_;simp;refine aa.seq ?_;refine aa.block ?_;have rr:=vM Wo;obtain⟨⟨xh,xt,xc,x0,x1⟩,hx⟩:∃x,es.getD k default=x:=⟨_,rfl⟩;rw[hx]at rr;have hxo:Bn nd ⟨xh,xt,xc,x0,x1⟩:=g4 _ (by rw[<-hx];exact bw Wo);obtain⟨q1,q2,q3,q4,q5,q6⟩:=hxo;simp only at q1 q2 q3 q4 q5 q6;obtain⟨xh,rfl⟩:=Zad q1;refine aa.ab ay fw [1,4,5,11,12] ?_;simp[Rf,Wo,rr,di.enc];refine aa.le (Le.aD (o:=[(1217,.arr 0 55 2 (bI (own))),(1420,.arr 0 3 1 (aB (G)))]) (l:=[(1,.v (.box [ti nd,.sl (cj es)])),(4,.bk 1217 0),(5,.bk 1420 0),(11,.v (ti k)),(12,.v (.box [ti xh,.sl (aB xt),ti xc,ti x0,ti x1]))]) (nxt':=5200) ?_ ?_ ?_ ?_) ?_;iterate 4(·simp)
    have KM:xh<own.length:=by have:=hRo.1;omega
    have ro:=dM KM;obtain⟨⟨uc,uz⟩,hu⟩:∃w,own.getD xh default=w:=⟨_,rfl⟩;rw[hu]at ro;refine aa.ab ay fw [1,4,5,11,12,13] ?_;simp[Rg,KM,ro];refine aa.le (Le.aD (o:=[(1217,.arr 0 55 2 (bI (own))),(1420,.arr 0 3 1 (aB (G)))]) (l:=[(1,.v (.box [ti nd,.sl (cj es)])),(4,.bk 1217 0),(5,.bk 1420 0),(11,.v (ti k)),(12,.v (.box [ti xh,.sl (aB xt),ti xc,ti x0,ti x1])),(13,.v (.box [ti uc,ti uz]))]) (nxt':=5400) ?_ ?_ ?_ ?_) ?_;iterate 4(·simp)
    have ht3:∀t∈xt,0<=t/\t<own.length:=λt ht=>by have:=q3 t ht;have:=hRo.1;omega
    have htv:=xu hRo q3;have DR:(fB own xt).length<=1000000:=by simpa [fB]using q6
    obtain⟨⟨wc,wz⟩,hw⟩:∃w,comb xc (fB own xt)=w:=⟨_,rfl⟩;obtain⟨c1,bb⟩:∃c1:Bool,decide (uc<1099511627776/\(⟨wc,wz⟩:br)=⟨uc,uz⟩)=c1:=⟨_,rfl⟩;refine aa.seq ?_;refine aa.to ⟨DM.look [(1,.v (.box [ti nd,.sl (cj es)])),(4,.bk 1217 0),(5,.bk 1420 0),(11,.v (ti k)),(12,.v (.box [ti xh,.sl (aB xt),ti xc,ti x0,ti x1])),(94,.v (.bool c1))],cE [(1217,.arr 0 55 2 (bI (own))),(1420,.arr 0 3 1 (aB (G)))],6000,1000,[]⟩ ?_ ?_
    ·by_cases k1:uc<1099511627776
     ·refine aa.tL ay fw (rs:=fj vq [none,some [],none,none,none,some [],some [],none,some [1217],some [5491],some [],some [],none]) (.inr ⟨_,rfl⟩) (by kernel_rfl) [1,4,5,11,12,94] ?_;simp[fj,vq,b8,bm,names,and_assoc,k1,q6,DR,hw];refine⟨ht3,htv,by omega,by omega, ?_⟩;have:c1=(decide (wc=uc)&&decide (wz=uz)):=by rw[<-bb];simp[k1]
      rw[this];exact Le.aD (by simp) (by simp) (by simp) (by simp)
     ·have:c1=false:=by rw[<-bb];simp[k1]
      refine aa.tL ay fw (rs:=fj vq [none,some [],none,none,none,some [],some [],none,some [1217],some [5491],some [],some [],none]) (.inr ⟨_,rfl⟩) (by kernel_rfl) [1,4,5,11,12,94] ?_;simp[fj,vq,b8,bm,names,k1];subst this;exact Le.aD (by simp) (by simp) (by simp) (by simp)
    simp only[Al];refine aa.cond rfl (λh8=>?_) (λh8=>?_)
    ·have h8:c1=true:=by simpa using h8
     rw[h8]at bb;have bb:=of_decide_eq_true bb;have hS2:stepG es own G j=G.set xh (k:Int):=by unfold stepG;rw[hke,hx];simp only[hw,hu,Zak];rw[if_pos bb]
     have hgl2:xh<G.length:=by omega
     have rg:=cP hgl2;refine aa.dv ay fw [1,4,5,11] ?_;simp[Rh,hgl2,rg];refine aa.dv ay fw [1,4,5,11] ?_;simp[J8];rw[au (x:=(k:Int)-1) (by omega)];refine⟨j+1,Le.aD ?_ ?_ ?_ ?_,by omega,by omega⟩
     ·simp
     ·simp
     ·simp[ud,hG,hS2,sA]
     ·simp;omega
    ·have h8:c1=false:=by simpa using h8
     rw[h8]at bb;have bb:=of_decide_eq_false bb;have hS2:stepG es own G j=G:=by unfold stepG;rw[hke,hx];simp only[hw,hu,Zak];rw[if_neg bb]
     refine aa.skip ?_;simp;refine aa.dv ay fw [1,4,5,11] ?_;simp[J8];rw[au (x:=(k:Int)-1) (by omega)];refine⟨j+1,Le.aD ?_ ?_ ?_ ?_,by omega,by omega⟩
     ·simp
     ·simp
     ·simp[ud,hG,hS2,sA]
     ·simp;omega
   ·have h9:¬0<=k:=by simpa using h9
    have YQ:j=es.length:=by omega
    subst YQ;subst hG;refine aa.exit ?_;simp;refine aa.ab ay fw [2,3] ?_;simp[Ri];refine aa.ret ?_;simp[Rj]
theorem H7{n:aG}{ins:List Int}(hn:eM n)(hp:eQ n ins):hOk n.an (ua n ins):=by
 have h:=hn.ok;obtain⟨p1,p2⟩:=hp;refine⟨by have:=h.1;omega,by have:=h.2.1;omega,by simp only[ua,Zbt];have:=h.2.2.1;omega,λe he=>?_⟩;simp only[ua,Zal]at he;obtain⟨r,hr,rfl⟩:=he;obtain⟨q1,q2,q3,q4,q5⟩:=h.2.2.2 r hr;have hc:0<=(jB ins r).cost/\(jB ins r).cost<=4000000000000:=by
  unfold jB;split
  ·rename_i h2;have ha:r.a.toNat<ins.length:=by omega
   have:=p2 _ ha;unfold E3 at this;simp only;omega
  ·simp only;omega
 refine⟨q1,q2,λt ht=>?_,hc.1,hc.2,by have:=KP r;simp only[jB];omega⟩;simp only[jB,j5]at ht;split at ht
 ·simp only[Zah]at ht;omega
 ·split at ht
  ·simp only[Zag,Zap,or_false]at ht;omega
  ·cases ht
def j6(n:aG)(ins:List Int):List br:=if eM n/\eQ n ins then ub n.an (ua n ins)else []
abbrev s20:DM.Spec:=ct (λts=>∃a b c l,ts=[.agg [ti a,ti b,ti c,.sl (aS l)]]/\l.length<=9223372036854775807) (fun|[n]=>.bool (decide (eM (nP n)))|_=>.bool false) true
abbrev s44:DM.Spec:=ct (λts=>∃a b c l i,ts=[.agg [ti a,ti b,ti c,.sl (aS l)],.sl (aB i)]/\i.length<=9223372036854775807) (fun|[n,.sl i]=>.bool (decide (eQ (nP n) (fo i)))|_=>.bool false) true
abbrev s67:DM.Spec:=ct (λts=>∃a b c l i,ts=[.agg [ti a,ti b,ti c,.sl (aS l)],.sl (aB i)]/\oJ ⟨a,b,c,l⟩/\eQ ⟨a,b,c,l⟩ i) (fun|[n,.sl i]=>.agg [ti (nP n).an,.sl (cj (ua (nP n) (fo i)))]|_=>.bool false) false
abbrev s66:DM.Spec:=ct (λts=>∃nd es,ts=[.agg [ti nd,.sl (cj es)]]/\hOk nd es) (fun|[.agg [.int _ nd,.sl es]]=>.eD [.sl (bI (ub nd (Bm es))),.sl (aB (tl (Bm es) (ub nd (Bm es)) nd es.length))]|_=>.bool false) false
abbrev s45:DM.Spec:=ct (λts=>∃a b c l i,ts=[.agg [ti a,ti b,ti c,.sl (aS l)],.sl (aB i)]/\l.length<=9223372036854775807/\i.length<=9223372036854775807) (fun|[n,.sl i]=>.sl (bI (j6 (nP n) (fo i)))|_=>.bool false) false
theorem okV1:aw Tryz.prog (aW [(20,s20),(44,s44),(67,s67),(66,s66)]):=by
 refine aw.cons (aw.cons (aw.cons (aw.cons aw.nil ?_) ?_) ?_) ?_
 ·rintro ts ⟨nd,es,rfl,h⟩;exact⟨by simpa using t66 nd es h,λh=>by cases h⟩
 ·rintro ts ⟨a,b,c,l,i,rfl,h1,h2⟩;exact⟨by simpa [aG.enc]using t67 ⟨a,b,c,l⟩ i h1 h2,λh=>by cases h⟩
 ·rintro ts ⟨a,b,c,l,i,rfl,h⟩;exact⟨by simpa [aG.enc]using t44 ⟨a,b,c,l⟩ i h,λ_=>rfl⟩
 ·rintro ts ⟨a,b,c,l,rfl,h⟩;exact⟨by simpa [aG.enc]using t20 ⟨a,b,c,l⟩ h,λ_=>rfl⟩
theorem t45(n:aG)(ins:List Int)(h1:n.rules.length<=9223372036854775807)(h2:ins.length<=9223372036854775807):aT Tryz.prog 45 [n.enc,.sl (aB ins)] (.sl (bI (j6 n ins))):=by
 obtain⟨R,hR⟩:∃R,j6 n ins=R:=⟨_,rfl⟩;rw[hR];unfold j6 at hR;obtain⟨nt,nn,ns,rules⟩:=n;simp only at h1;have ay:=okV1;refine c45.ok (by simp) (aJ ?_);simp[aG.enc];refine aa.ab ay fw [1,2] ?_;simp[GL];refine aa.le (Le.aD (o:=[]) (l:=[(1,.v (.sl (aB ins))),(2,.v (.box [ti nt,ti nn,ti ns,.sl (aS rules)]))]) (nxt':=1200) ?_ ?_ ?_ ?_) ?_;iterate 4(·simp)
 refine aa.seq ?_;obtain⟨c1,bb⟩:∃c1:Bool,decide (¬eM ⟨nt,nn,ns,rules⟩\/¬eQ ⟨nt,nn,ns,rules⟩ ins)=c1:=⟨_,rfl⟩;refine aa.bZ ay fw [(1,.v (.sl (aB ins))),(2,.v (.box [ti nt,ti nn,ti ns,.sl (aS rules)])),(15,.v (.bool c1))] ?_ ?_
 ·by_cases q1:eM ⟨nt,nn,ns,rules⟩
  ·by_cases q2:eQ ⟨nt,nn,ns,rules⟩ ins
   ·have:c1=false:=by rw[<-bb];simp[q1,q2]
    simp[AO,and_assoc,h1,h2,q1,q2,this]
   ·have:c1=true:=by rw[<-bb];simp[q2]
    simp[AO,and_assoc,h1,h2,q1,q2,this]
  ·have:c1=true:=by rw[<-bb];simp[q1]
   simp[AO,and_assoc,h1,q1,this]
 refine aa.cond rfl (λg=>?_) (λg=>?_)
 ·rw[g]at bb;have bb:=of_decide_eq_true bb;rw[if_neg (λh=>bb.elim (λq=>q h.1) (λq=>q h.2))]at hR;subst hR;refine aa.ab ay fw [4] ?_;simp[GM];refine aa.ret ?_;simp[tT]
 ·rw[g]at bb;have bb:=of_decide_eq_false bb;simp only[not_or,Classical.not_not]at bb;obtain⟨za,ji⟩:=bb;refine aa.skip ?_;simp;rw[if_pos ⟨za,ji⟩]at hR;have hg:=H7 za ji;have hn:=za.ok;simp only at hR hg;refine aa.ab ay fw [5] ?_;simp[GN,and_assoc,hn,ji,hg,hR];refine aa.ab ay fw [4] ?_;simp[GO];refine aa.ret ?_;simp[tT]
def ue(v:List br)(i:Nat):Prop:=¬(v.getD i default).size>1000
instance(v:List br)(i:Nat):Decidable (ue v i):=by unfold ue;infer_instance
def Ck(n:aG)(ins:List Int):Prop:=(eM n/\eQ n ins)/\∀i,i<(j6 n ins).length->ue (j6 n ins) i
instance(n:aG)(ins:List Int):Decidable (Ck n ins):=by unfold Ck;infer_instance
theorem okV2:aw Tryz.prog (aW [(20,s20),(44,s44),(45,s45)]):=by
 refine aw.cons (aw.cons (aw.cons aw.nil ?_) ?_) ?_
 ·rintro ts ⟨a,b,c,l,i,rfl,h1,h2⟩;exact⟨by simpa [aG.enc]using t45 ⟨a,b,c,l⟩ i h1 h2,λh=>by cases h⟩
 ·rintro ts ⟨a,b,c,l,i,rfl,h⟩;exact⟨by simpa [aG.enc]using t44 ⟨a,b,c,l⟩ i h,λ_=>rfl⟩
 ·rintro ts ⟨a,b,c,l,rfl,h⟩;exact⟨by simpa [aG.enc]using t20 ⟨a,b,c,l⟩ h,λ_=>rfl⟩
theorem H8{n:aG}{ins:List Int}(h1:eM n)(h2:eQ n ins):(j6 n ins).length<=1000:=by
 unfold j6;rw[if_pos ⟨h1,h2⟩];have:=(Dj (H7 h1 h2)).1;have:=h1.ok.2.1;omega
theorem t22(n:aG)(ins:List Int)(h1:n.rules.length<=9223372036854775807)(h2:ins.length<=9223372036854775807):aT Tryz.prog 22 [n.enc,.sl (aB ins)] (.bool (decide (Ck n ins))):=by
 obtain⟨v,hv⟩:∃v,decide (Ck n ins)=v:=⟨_,rfl⟩;rw[hv];have cY:Ck n ins↔(eM n/\eQ n ins)/\∀i,i<(j6 n ins).length->ue (j6 n ins) i:=Iff.rfl;have bad:¬Ck n ins->v=false:=λh=>by rw[<-hv];simp[h]
 have TT:=λa b=>H8 (n:=n) (ins:=ins) a b;obtain⟨V,hV⟩:∃V,j6 n ins=V:=⟨_,rfl⟩;rw[hV]at cY TT;obtain⟨nt,nn,ns,rules⟩:=n;simp only at h1;have ay:=okV2;refine c22.ok (by simp) (aJ ?_);simp[aG.enc];refine aa.ab ay fw [1,2] ?_;simp[ZO];refine aa.le (Le.aD (o:=[]) (l:=[(1,.v (.sl (aB ins))),(2,.v (.box [ti nt,ti nn,ti ns,.sl (aS rules)]))]) (nxt':=1200) ?_ ?_ ?_ ?_) ?_;iterate 4(·simp)
 refine aa.seq ?_;obtain⟨c1,bb⟩:∃c1:Bool,decide (¬eM ⟨nt,nn,ns,rules⟩\/¬eQ ⟨nt,nn,ns,rules⟩ ins)=c1:=⟨_,rfl⟩;refine aa.bZ ay fw [(1,.v (.sl (aB ins))),(2,.v (.box [ti nt,ti nn,ti ns,.sl (aS rules)])),(15,.v (.bool c1))] ?_ ?_
 ·by_cases q1:eM ⟨nt,nn,ns,rules⟩
  ·by_cases q2:eQ ⟨nt,nn,ns,rules⟩ ins
   ·have:c1=false:=by rw[<-bb];simp[q1,q2]
    simp[MI,and_assoc,h1,h2,q1,q2,this]
   ·have:c1=true:=by rw[<-bb];simp[q2]
    simp[MI,and_assoc,h1,h2,q1,q2,this]
  ·have:c1=true:=by rw[<-bb];simp[q1]
   simp[MI,and_assoc,h1,q1,this]
 refine aa.cond rfl (λg=>?_) (λg=>?_)
 ·rw[g]at bb;have bb:=of_decide_eq_true bb;refine aa.ab ay fw [4] ?_;simp[ZP];refine aa.ret ?_;rw[bad λh=>bb.elim (λq=>q (cY.1 h).1.1) (λq=>q (cY.1 h).1.2)];simp[ED]
 ·rw[g]at bb;have bb:=of_decide_eq_false bb;simp only[not_or,Classical.not_not]at bb;obtain⟨za,ji⟩:=bb;refine aa.skip ?_;simp;have hVl:=TT za ji;refine aa.ab ay fw [5] ?_;simp[ZQ,and_assoc,h1,h2,hV];refine aa.seq ?_;refine aa.ab ay fw [5,6] ?_;simp[ZR];refine aa.block ?_;refine aa.loop (λy:Nat=>⟨DM.look [(5,.v (.sl (bI V))),(6,.v (ti y))],cE [],2000,1000,[]⟩)
   (λy=>y<=V.length/\∀i,i<y->ue V i) (λy=>V.length-y) 0 (Le.aD (o:=[]) ?_ ?_ ?_ ?_) (by simp) (λy hy=>?_)
  iterate 4(·simp)
  obtain⟨jQ,fg⟩:=hy;refine aa.seq ?_;refine aa.ab ay fw [5,6,22] ?_;simp[ZS];refine aa.cond rfl (λbM=>?_) (λbM=>?_)
  ·have bM:y<V.length:=by simpa using bM
   refine aa.skip ?_;simp;refine aa.seq ?_;refine aa.block ?_;have rr:=dM bM;obtain⟨x,hx⟩:∃x,V.getD y default=x:=⟨_,rfl⟩;rw[hx]at rr;refine aa.ab ay fw [5,6,30] ?_;simp[ZT,bM,rr];refine aa.cond rfl (λh8=>?_) (λh8=>?_)
   ·have h8:x.size>1000:=by simpa using h8
    refine aa.ab ay fw [4] ?_;simp[ZU];refine aa.ret ?_;rw[bad λh=>by have:=(cY.1 h).2 y bM;unfold ue at this;rw[hx]at this;exact this h8];simp[ED]
   ·have h8:¬x.size>1000:=by simpa using h8
    refine aa.skip ?_;simp;refine aa.dv ay fw [5,6] ?_;simp[ZV];rw[au (x:=(y:Int)+1) (by omega)];refine⟨y+1,Le.aD (o:=[]) ?_ ?_ ?_ ?_,⟨by omega,λi hi=>?_⟩,by omega⟩;iterate 4(·simp)
    ·by_cases e:i=y
     ·subst e;unfold ue;rw[hx];exact h8
     ·exact fg i (by omega)
  ·have Wq:y=V.length:=by simp at bM;omega
   subst Wq;refine aa.exit ?_;simp;refine aa.ab ay fw [4] ?_;simp[ZW];refine aa.ret ?_;have:v=true:=by rw[<-hv];exact decide_eq_true (cY.2 ⟨⟨za,ji⟩,fg⟩)
   rw[this];simp[ED]
def Cj(z:Ask):Prop:=(¬((z.n.rules.length:Int)>14\/z.n.an>8\/z.n.aV>5\/¬eM z.n\/(z.x.aj.length:Int)>4\/(z.new.length:Int)>3\/¬C7 z.x z.n.aV\/z.fr<0\/z.od<0\/z.fr>z.x.aj.length\/z.od>z.x.aj.length-z.fr))/\C7 (nQ z) z.n.aV/\Ck z.n z.x.insert
instance(z:Ask):Decidable (Cj z):=by unfold Cj;infer_instance
abbrev s21:DM.Spec:=ct (λts=>∃a b c t,ts=[.agg [.sl (aZ a),.sl (aB b),ti c],ti t]/\t<=1000000000000) (fun|[x,.int _ t]=>.bool (decide (C7 (Ci x) t))|_=>.bool false) true
abbrev s22:DM.Spec:=ct (λts=>∃a b c l i,ts=[.agg [ti a,ti b,ti c,.sl (aS l)],.sl (aB i)]/\l.length<=9223372036854775807/\i.length<=9223372036854775807) (fun|[n,.sl i]=>.bool (decide (Ck (nP n) (fo i)))|_=>.bool false) true
abbrev s14:DM.Spec:=ct (λts=>∃nt nn ns rules cK ins sw fr od new,ts=[.agg [ti nt,ti nn,ti ns,.sl (aS rules),.sl (aZ cK),.sl (aB ins),ti sw,ti fr,ti od,.sl (aZ new)]]/\Xo ⟨⟨nt,nn,ns,rules⟩,⟨cK,ins,sw⟩,fr,od,new⟩)
 (fun|[.agg [_,_,_,_,.sl c,.sl i,.int _ s,.int _ fr,.int _ od,.sl nw]]=>.agg [.sl (aZ (cw ⟨fH c,fo i,s⟩ fr.toNat od.toNat (fH nw)).aj),.sl (aB (cw ⟨fH c,fo i,s⟩ fr.toNat od.toNat (fH nw)).insert),ti (cw ⟨fH c,fo i,s⟩ fr.toNat od.toNat (fH nw)).swap]|_=>.bool false) false
theorem Tw{l:List (Nat×DM.Spec)}(h:aw Tryz.prog (aW l)):aw Tryz.prog (aW ((14,s14)::l)):=by
 refine aw.cons h ?_;rintro ts ⟨nt,nn,ns,rules,cK,ins,sw,fr,od,new,rfl,h⟩;exact⟨by simpa [Ask.enc,Input.enc,nQ]using t14 ⟨⟨nt,nn,ns,rules⟩,⟨cK,ins,sw⟩,fr,od,new⟩ h,λh=>by cases h⟩
theorem okM:aw Tryz.prog (aW [(14,s14),(20,s20),(21,s21),(22,s22)]):=by
 refine Tw (aw.cons (aw.cons (aw.cons aw.nil ?_) ?_) ?_)
 ·rintro ts ⟨a,b,c,l,i,rfl,h1,h2⟩;exact⟨by simpa [aG.enc]using t22 ⟨a,b,c,l⟩ i h1 h2,λ_=>rfl⟩
 ·rintro ts ⟨a,b,c,t,rfl,h⟩;exact⟨by simpa [Input.enc]using t28 ⟨a,b,c⟩ t h,λ_=>rfl⟩
 ·rintro ts ⟨a,b,c,l,rfl,h⟩;exact⟨by simpa [aG.enc]using t20 ⟨a,b,c,l⟩ h,λ_=>rfl⟩
theorem t9(z:Ask)(hl:z.n.rules.length<=9223372036854775807/\z.x.insert.length<=9223372036854775807):aT Tryz.prog 9 [z.enc] (.bool (decide (Cj z))):=by
 obtain⟨⟨nt,nn,ns,rules⟩,⟨cK,ins,sw⟩,fr,od,new⟩:=z;obtain⟨wq,qc⟩:=hl;simp only at wq qc;obtain⟨v,hv⟩:∃v,decide (Cj ⟨⟨nt,nn,ns,rules⟩,⟨cK,ins,sw⟩,fr,od,new⟩)=v:=⟨_,rfl⟩;rw[hv];have cY:Cj ⟨⟨nt,nn,ns,rules⟩,⟨cK,ins,sw⟩,fr,od,new⟩↔(¬((rules.length:Int)>14\/nn>8\/nt>5\/¬eM ⟨nt,nn,ns,rules⟩\/(cK.length:Int)>4\/(new.length:Int)>3\/¬C7 ⟨cK,ins,sw⟩ nt\/fr<0\/od<0\/fr>cK.length\/od>cK.length-fr))/\C7 (nQ ⟨⟨nt,nn,ns,rules⟩,⟨cK,ins,sw⟩,fr,od,new⟩) nt/\Ck ⟨nt,nn,ns,rules⟩ ins:=Iff.rfl;have bad:¬Cj ⟨⟨nt,nn,ns,rules⟩,⟨cK,ins,sw⟩,fr,od,new⟩->v=false:=λh=>by rw[<-hv];simp[h]
 have ay:=okM;refine c9.ok (by simp) (aJ ?_);simp[Ask.enc];refine aa.ab ay fw [1] ?_;simp[d9r0];refine aa.le (Le.aD (o:=[]) (l:=[(1,.v (.box [ti nt,ti nn,ti ns,.sl (aS rules),.sl (aZ cK),.sl (aB ins),ti sw,ti fr,ti od,.sl (aZ new)]))]) (nxt':=1200) ?_ ?_ ?_ ?_) ?_;iterate 4(·simp)
 refine aa.seq ?_;obtain⟨c1,bb⟩:∃c1:Bool,decide ((rules.length:Int)>14\/nn>8\/nt>5\/¬eM ⟨nt,nn,ns,rules⟩\/(cK.length:Int)>4\/(new.length:Int)>3\/¬C7 ⟨cK,ins,sw⟩ nt\/fr<0\/od<0\/fr>cK.length\/od>cK.length-fr)=c1:=⟨_,rfl⟩;refine aa.bZ ay fw [(1,.v (.box [ti nt,ti nn,ti ns,.sl (aS rules),.sl (aZ cK),.sl (aB ins),ti sw,ti fr,ti od,.sl (aZ new)])),(78,.v (.bool c1))] ?_ ?_
 ·by_cases q1:(rules.length:Int)>14
  ·have:c1=true:=by rw[<-bb];simp[q1]
   simp[xb,and_assoc,q1,this]
  ·skip
   by_cases q2:nn>8
   ·have:c1=true:=by rw[<-bb];simp[q2]
    simp[xb,and_assoc,q1,q2,this]
   ·skip
    by_cases q3:nt>5
    ·have:c1=true:=by rw[<-bb];simp[q3]
     simp[xb,and_assoc,q1,q2,q3,this]
    ·skip
     have lO:rules.length<=9223372036854775807:=by omega
     by_cases q4:¬eM ⟨nt,nn,ns,rules⟩
     ·have:c1=true:=by rw[<-bb];simp[q4]
      simp[xb,and_assoc,q1,q2,q3,q4,this,lO]
     ·skip
      have q4:=Classical.not_not.1 q4;by_cases q5:(cK.length:Int)>4
      ·have:c1=true:=by rw[<-bb];simp[q5]
       simp[xb,and_assoc,q1,q2,q3,q4,q5,this,lO]
      ·skip
       by_cases q6:(new.length:Int)>3
       ·have:c1=true:=by rw[<-bb];simp[q6]
        simp[xb,and_assoc,q1,q2,q3,q4,q5,q6,this,lO]
       ·skip
        have pT:nt<=1000000000000:=by omega
        by_cases q7:¬C7 ⟨cK,ins,sw⟩ nt
        ·have:c1=true:=by rw[<-bb];simp[q7]
         simp[xb,and_assoc,q1,q2,q3,q4,q5,q6,q7,this,lO,pT]
        ·skip
         have q7:=Classical.not_not.1 q7;by_cases q8:fr<0
         ·have:c1=true:=by rw[<-bb];simp[q8]
          simp[xb,and_assoc,q1,q2,q3,q4,q5,q6,q7,q8,this,lO,pT]
         ·skip
          by_cases q9:od<0
          ·have:c1=true:=by rw[<-bb];simp[q9]
           simp[xb,and_assoc,q1,q2,q3,q4,q5,q6,q7,q8,q9,this,lO,pT]
          ·skip
           by_cases Wn:fr>cK.length
           ·have:c1=true:=by rw[<-bb];simp[Wn]
            simp[xb,and_assoc,q1,q2,q3,q4,q5,q6,q7,q8,q9,Wn,this,lO,pT]
           ·skip
            have w3:IntKind.i64.wrap ((cK.length:Int)-fr)=(cK.length:Int)-fr:=au (by omega);by_cases q11:od>cK.length-fr
            ·have:c1=true:=by rw[<-bb];simp[q11]
             simp[xb,and_assoc,q1,q2,q3,q4,q5,q6,q7,q8,q9,Wn,q11,this,lO,pT,w3]
            ·skip
             have:c1=false:=by rw[<-bb];simp[q1,q2,q3,q4,q5,q6,q7,q8,q9,Wn,q11]
             simp[xb,and_assoc,q1,q2,q3,q4,q5,q6,q7,q8,q9,Wn,q11,this,lO,pT,w3]
 refine aa.cond rfl (λg=>?_) (λg=>?_)
 ·rw[g]at bb;have bb:=of_decide_eq_true bb;refine aa.ab ay fw [2] ?_;simp[d9r2];refine aa.ret ?_;rw[bad λh=>(cY.1 h).1 bb];simp[R5]
 ·rw[g]at bb;have bb:=of_decide_eq_false bb;have qJ:Xo ⟨⟨nt,nn,ns,rules⟩,⟨cK,ins,sw⟩,fr,od,new⟩:=by
   refine⟨?_, ?_, ?_, ?_, ?_, ?_⟩<;>simp only<;>omega
  refine aa.skip ?_;simp;have pT:nt<=1000000000000:=by omega
  obtain⟨A,hA⟩:∃A,cw ⟨cK,ins,sw⟩ fr.toNat od.toNat new=A:=⟨_,rfl⟩;have ji:(decide (C7 A nt)&&decide (Ck ⟨nt,nn,ns,rules⟩ ins))=v:=by
   rw[<-hv,<-Bool.decide_and,decide_eq_decide,cY,show nQ ⟨⟨nt,nn,ns,rules⟩,⟨cK,ins,sw⟩,fr,od,new⟩=A from hA];exact⟨λh=>⟨bb,h⟩,λh=>h.2⟩
  obtain⟨ac,ai,az⟩:=A;refine aa.bZ ay fw [(2,.v (.bool v))] ?_ ?_
  ·by_cases q1:C7 ⟨ac,ai,az⟩ nt
   ·simp[d9r3,and_assoc,qJ,hA,pT,wq,qc,q1]at ji⊢;exact ji
   ·simp[d9r3,and_assoc,qJ,hA,pT,wq,qc,q1]at ji⊢;exact ji
  refine aa.ret ?_;simp[R5]
def jW(x:Input):Prop:=HP x/\x.aj.length<=60/\x.insert.length<=100/\∀c∈x.aj,c.read.length=x.insert.length
theorem nu{x:Input}(h:jW x):vy (aH x):=by
 obtain⟨h1,h2,h3,h4⟩:=h;have hs:(aH x).aN=2*x.aj.length+1:=rfl;have ha:(aH x).aC=dP x:=rfl;refine⟨by omega,by omega,by rw[ha];have:=xV h3 h2;omega,λa hm=>?_⟩;rw[ha]at hm;have h5:=(EV h1 h2 a hm).2.2.2.2.2;have h6:=(xU hm).2;omega
theorem Tx{x:Input}{t:Int}(h:C7 x t)(ht:t<=5):jW x:=by
 have h1:=h.1;have hl:(x.insert.length:Int)=t:=by
  by_cases e:(x.insert.length:Int)=t
  ·exact e
  ·exact absurd (.inr (.inr (.inl e))) h1
 have h2:(x.aj.length:Int)<=60:=by
  by_cases e:(x.aj.length:Int)>60
  ·exact absurd (.inr (.inl e)) h1
  ·omega
 obtain⟨g1,g2,g3,g4⟩:=rZ (x:=x) (k:=60) ⟨⟨h2,by omega⟩,by rw[hl];exact h⟩;exact⟨g1,g2,by omega,g4⟩
def iS(l:List Bool):List (List T):=l.map λb=>[.bool b]
@[simp] theorem boolsT_len(l:List Bool):(iS l).length=l.length:=by simp[iS]
theorem KH(l:List Bool)(i:Nat)(b:Bool):iS (l.set i b)=(iS l).set i [.bool b]:=by simp[iS,ZbJ]
theorem rF{l:List Bool}{y:Nat}(h:y<l.length):DM.rowAt (iS l) y=[.bool (l.getD y default)]:=by simp[DM.rowAt,iS,h]
def Tz(k cf co cn:Int):Prop:=cf<0\/co<0\/cn<0\/cf>k\/cn>k-cf
instance(k cf co cn:Int):Decidable (Tz k cf co cn):=by unfold Tz;infer_instance
theorem C8{n:aG}{l:aL}(hn:oJ n)(hl:vy l):fI n l (iR n l):=by
 have:=vA hn hl l.aN.toNat (by have:=hl.1;omega);exact this
abbrev s12:DM.Spec:=ct (λts=>∃a b c,ts=[.agg [.sl (aZ a),.sl (aB b),ti c]]/\jW ⟨a,b,c⟩) (fun|[x]=>.agg [ti (aH (Ci x)).aN,.sl (ba (aH (Ci x)).aC),.sl (aB (aH (Ci x)).final)]|_=>.bool false) false
abbrev s11:DM.Spec:=ct (λts=>∃nt nn ns rules ls aC fin,ts=[.agg [ti nt,ti nn,ti ns,.sl (aS rules)],.agg [ti ls,.sl (ba aC),.sl (aB fin)]]/\oJ ⟨nt,nn,ns,rules⟩/\vy ⟨ls,aC,fin⟩)
 (fun|[n,l]=>.agg [ti (nP n).an,ti (tW l).aN,.sl (aM (iR (nP n) (tW l)))]|_=>.bool false) false
inductive eN(n:aG)(l:aL):Int->Nat->Nat->Nat->Int->br->Prop
 |empty {s k:Nat} {r:bD} (hk:n.rules[k]? =some r) (h1:r.kind=1) (hv:(comb r.bE []).cost<1099511627776):eN n l r.head s s k s (comb r.bE [])
 |term {s t k a:Nat} {r:bD} {x:bn} (hk:n.rules[k]? =some r) (h1:r.kind=2) (ha:l.aC[a]? =some x) (h2:x.f=s) (h3:x.t=t) (h4:x.term=r.a)
   (hv:(comb (r.bE+x.cost) []).cost<1099511627776):eN n l r.head s t k a (comb (r.bE+x.cost) [])
 |unary {s t k k1:Nat} {g1:Int} {r:bD} {v:br} (hk:n.rules[k]? =some r) (h1:r.kind=3) (d:eN n l r.a s t k1 g1 v) (hv:(comb r.bE [v]).cost<1099511627776):eN n l r.head s t k s (comb r.bE [v])
 |binary {s m t k k1 k2:Nat} {g1 g2:Int} {r:bD} {v w:br} (hk:n.rules[k]? =some r) (h1:r.kind=4) (hs:s<=m) (ht:m<=t) (d1:eN n l r.a s m k1 g1 v) (d2:eN n l r.b m t k2 g2 w)
   (hv:(comb r.bE [v,w]).cost<1099511627776):eN n l r.head s t k m (comb r.bE [v,w])
def Xp(n:aG)(l:aL)(h:Int)(s t:Nat)(v:br):Prop:=∃k g,eN n l h s t k g v
def vC(k:Int)(g:Int)(k':Int)(g':Int):Prop:=k<k'\/(k=k'/\g<=g')
structure Good(n:aG)(l:aL)(h:Int)(s t:Nat)(x:Cell):Prop where
 least:∀v,Xp n l h s t v->¬v.lt x.val
 top:x=eY\/((∃k:Nat,x.eu=k/\eN n l h s t k x.arg x.val)/\∀(k':Nat) g',eN n l h s t k' g' x.val->vC x.eu x.arg k' g')
theorem eN.fin{n:aG}{l:aL}{h:Int}{s t k:Nat}{g:Int}{v:br}(d:eN n l h s t k g v):v.cost<1099511627776:=by
 cases d<;>assumption
theorem Xp.fin{n:aG}{l:aL}{h:Int}{s t:Nat}{v:br}(d:Xp n l h s t v):v.cost<1099511627776:=by
 obtain⟨k,g,d⟩:=d;exact d.fin
theorem br.antisymm{a b:br}(h1:¬a.lt b)(h2:¬b.lt a):a=b:=by
 obtain⟨a1,a2⟩:=a;obtain⟨b1,b2⟩:=b;simp only[br.lt]at h1 h2;have:a1=b1:=by omega
 have:a2=b2:=by omega
 simp[*]
theorem Cell.ext'{a b:Cell}(h1:a.val=b.val)(h2:a.eu=b.eu)(h3:a.arg=b.arg):a=b:=by
 obtain⟨a1,a2,a3,a4⟩:=a;obtain⟨b1,b2,b3,b4⟩:=b;simp only[Cell.val,br.mk.injEq]at h1 h2 h3;simp[h1,h2,h3]
theorem Good.val_eq{n:aG}{l:aL}{h:Int}{s t:Nat}{x y:Cell}(hx:Good n l h s t x)(hy:Good n l h s t y):x.val=y.val:=by
 have key:∀{x y:Cell},Good n l h s t x->Good n l h s t y->x=eY->x.val=y.val:=by
  intro x y hx hy e;subst e;rcases hy.top with rfl|⟨⟨k,_,d⟩,_⟩
  ·rfl
  ·exact absurd (show y.val.lt eY.val by left;exact d.fin) (hx.least _ ⟨k,_,d⟩)
 rcases hx.top with e|⟨⟨k,_,d⟩,_⟩
 ·exact key hx hy e
 ·rcases hy.top with e|⟨⟨k',_,d'⟩,_⟩
  ·exact(key hy hx e).symm
  ·exact br.antisymm (hy.least _ ⟨k,_,d⟩) (hx.least _ ⟨k',_,d'⟩)
theorem Good.unique{n:aG}{l:aL}{h:Int}{s t:Nat}{x y:Cell}(hx:Good n l h s t x)(hy:Good n l h s t y):x=y:=by
 have hv:=hx.val_eq hy;rcases hx.top with e|⟨⟨k,e1,d⟩,m⟩
 ·rcases hy.top with e'|⟨⟨k',_,d'⟩,_⟩
  ·rw[e,e']
  ·have:=d'.fin;rw[<-hv,e]at this;exact absurd this (by decide)
 ·rcases hy.top with e'|⟨⟨k',e2,d'⟩,m'⟩
  ·have:=d.fin;rw[hv,e']at this;exact absurd this (by decide)
  ·have a:=m k' y.arg (hv▸d');have b:=m' k x.arg (hv▸d);unfold vC at a b;refine Cell.ext' hv ?_ ?_<;>omega
theorem TA(c:Int)(v:br):comb c [v]=if min (c+v.cost) 1099511627776>=1099511627776 then⟨1099511627776,0⟩else⟨min (c+v.cost) 1099511627776,min (1+v.size) 1099511627776⟩:=rfl
theorem TB(c:Int)(v w:br):comb c [v,w]=if min (min (c+v.cost) 1099511627776+w.cost) 1099511627776>=1099511627776 then⟨1099511627776,0⟩else⟨min (min (c+v.cost) 1099511627776+w.cost) 1099511627776,min (min (1+v.size) 1099511627776+w.size) 1099511627776⟩:=rfl
theorem C9{c:Int}{v:br}(hc:0<=c)(h:(comb c [v]).cost<1099511627776):v.cost<1099511627776:=by
 rw[TA]at h;split at h
 ·simp at h
 ·simp only at h;omega
theorem Da{c:Int}{v w:br}(hc:0<=c)(hv:0<=v.cost)(hw:0<=w.cost)(h:(comb c [v,w]).cost<1099511627776):v.cost<1099511627776/\w.cost<1099511627776:=by
 rw[TB]at h;split at h
 ·simp at h
 ·simp only at h;omega
theorem tX{c:Int}{v v':br}(h:¬v.lt v'):¬(comb c [v]).lt (comb c [v']):=by
 rw[TA,TA];unfold br.lt at h⊢;split<;>split<;>simp only<;>omega
theorem tY{c:Int}{v v' w w':br}(p1:0<=v.cost)(p2:0<=v'.cost)(p3:0<=w.cost)(p4:0<=w'.cost)(hv:¬v.lt v')(hw:¬w.lt w'):¬(comb c [v,w]).lt (comb c [v',w']):=by
 rw[TB,TB];unfold br.lt at hv hw⊢;split<;>split<;>simp only<;>omega
theorem nv{a b c:br}(h:¬b.lt a)(k:¬c.lt b):¬c.lt a:=by
 unfold br.lt at*
 omega
def mQ(n:aG)(l:aL)(c:bV)(own:List Cell)(s t:Nat)(k:Nat)(g:Int)(v:br):Prop:=
 ∃r,n.rules[k]? =some r/\((r.kind=1/\s=t/\g=s/\v=comb r.bE [])\/
  (r.kind=2/\∃(a:Nat) (x:bn),l.aC[a]? =some x/\x.f=s/\x.t=t/\x.term=r.a/\g=a/\v=comb (r.bE+x.cost) [])\/
  (r.kind=3/\g=s/\v=comb r.bE [cy c own s t r.a s t])\/
  (r.kind=4/\∃d:Nat,s+d<=t/\g=s+d/\v=comb r.bE [cy c own s t r.a s (s+d),cy c own s t r.b (s+d) t]))
theorem jX(x:Cell)(v:br)(i g:Int):dy x v i g=x\/(v.cost<1099511627776/\¬x.val.lt v/\dy x v i g=⟨v.cost,v.size,i,g⟩):=by
 unfold dy;split
 ·exact .inl rfl
 ·rename_i h;split
  ·rename_i h2;refine .inr ⟨by omega, ?_,rfl⟩;rcases h2 with h2|⟨rfl,_⟩
   ·unfold br.lt at*;omega
   ·unfold br.lt;omega
  ·exact .inl rfl
theorem pF{x:Cell}{v:br}{i g:Int}(h:dy x v i g=x)(hv:v.cost<1099511627776):¬v.lt x.val/\(v=x.val->vC x.eu x.arg i g):=by
 obtain⟨xc,xs,xr,xa⟩:=x;obtain⟨vc,vs⟩:=v;unfold dy at h;rw[if_neg (by simp only at hv⊢;omega)]at h;split at h
 ·rename_i h2;simp only[Cell.mk.injEq]at h;obtain⟨rfl,rfl,rfl,rfl⟩:=h;simp only[Cell.val,br.lt]at h2;exfalso;rcases h2 with h2|⟨_,h2⟩<;>omega
 ·rename_i h2;simp only[not_or,not_and]at h2;refine⟨h2.1,λe=>?_⟩;have:=h2.2 e;unfold vC;simp only at this⊢;omega
theorem vD{n:aG}{l:aL}{c:bV}{own:List Cell}{s t k:Nat}{r:bD}(hk:n.rules[k]? =some r)(PV:r.kind=1\/r.kind=2\/r.kind=3\/r.kind=4)(lE:s<=t)(x:Cell):
  lr r l c own s t k x=x\/∃g v,mQ n l c own s t k g v/\v.cost<1099511627776/\¬x.val.lt v/\lr r l c own s t k x=⟨v.cost,v.size,k,g⟩:=by
 have fold:∀(f:Cell->Nat->Cell) (N:Nat),(∀y j,j<N->f y j=y\/∃g v,mQ n l c own s t k g v/\v.cost<1099511627776/\¬y.val.lt v/\f y j=⟨v.cost,v.size,k,g⟩)->
   (List.range N).foldl f x=x\/∃g v,mQ n l c own s t k g v/\v.cost<1099511627776/\¬x.val.lt v/\(List.range N).foldl f x=⟨v.cost,v.size,k,g⟩:=by
  intro f N;induction N with
  |zero=>intro _;exact .inl rfl
  |succ N ih=>
   intro h;rw[ZaD,Zat];have ih:=ih λy j hj=>h y j (by omega);simp only[ZaB,ZbU];obtain⟨y,hy⟩:∃y,(List.range N).foldl f x=y:=⟨_,rfl⟩;rw[hy]at ih⊢;rcases h y N (by omega)with e|⟨g,v,h1,h2,h3,h4⟩
   ·rw[e];exact ih
   ·refine .inr ⟨g,v,h1,h2, ?_,h4⟩;rcases ih with rfl|⟨g',v',_,_,h3',rfl⟩
    ·exact h3
    ·have h3'':¬(⟨v'.cost,v'.size⟩:br).lt v:=h3;exact nv h3'' h3'
 have one:∀(y:Cell) (v:br) (g:Int),mQ n l c own s t k g v->dy y v k g=y\/∃g v,mQ n l c own s t k g v/\v.cost<1099511627776/\¬y.val.lt v/\dy y v k g=⟨v.cost,v.size,k,g⟩:=by
  intro y v g hi;rcases jX y v k g with e|⟨h1,h2,h3⟩
  ·exact .inl e
  ·exact .inr ⟨g,v,hi,h1,h2,h3⟩
 unfold lr;split
 ·rename_i h1;split
  ·rename_i h2;rcases jX x (comb r.bE []) k s with e|⟨h3,h4,h5⟩
   ·exact .inl e
   ·exact .inr ⟨_,_,⟨r,hk,.inl ⟨h1,by omega,rfl,rfl⟩⟩,h3,h4,h5⟩
  ·exact .inl rfl
 ·split
  ·rename_i h1;refine fold _ _ λy j hj=>?_;unfold stepT;split
   ·rename_i h2;have ha:l.aC[j]? =some (l.aC.getD j default):=by simp[List.getD,hj]
    rcases jX y (comb (r.bE+(l.aC.getD j default).cost) []) k j with e|⟨h3,h4,h5⟩
    ·exact .inl e
    ·exact .inr ⟨_,_,⟨r,hk,.inr (.inl ⟨h1,j,_,ha,h2.1,h2.2.1,h2.2.2,rfl,rfl⟩)⟩,h3,h4,h5⟩
   ·exact .inl rfl
  ·split
   ·rename_i h1;rcases jX x (comb r.bE [cy c own s t r.a s t]) k s with e|⟨h3,h4,h5⟩
    ·exact .inl e
    ·exact .inr ⟨_,_,⟨r,hk,.inr (.inr (.inl ⟨h1,rfl,rfl⟩))⟩,h3,h4,h5⟩
   ·rename_i h1 h2 h3;have h4:r.kind=4:=by omega
    refine fold _ _ λy j hj=>?_;unfold p0;rcases jX y (comb r.bE [cy c own s t r.a s (s+j),cy c own s t r.b (s+j) t]) k (s+j)with e|⟨h5,h6,h7⟩
    ·exact .inl e
    ·exact .inr ⟨_,_,⟨r,hk,.inr (.inr (.inr ⟨h4,j,by omega,rfl,rfl⟩))⟩,h5,h6,h7⟩
theorem Bd{f:Cell->Nat->Cell}:∀{N:Nat},(∀x k,k<N->kK x->goes x (f x k))->∀x,kK x->(List.range N).foldl f x=x->∀k,k<N->f x k=x
 |0,_,_,_,_,k,h=>by omega
 |N+1,hf,x,hx,he,k,hk=>by
  rw[ZaD,Zat]at he;simp only[ZaB,ZbU]at he;have h1:=xm (λx k hk=>hf x k (by omega)) x hx (N:=N);obtain⟨z,hz⟩:∃z,(List.range N).foldl f x=z:=⟨_,rfl⟩;rw[hz]at h1 he;have h2:=hf z N (by omega) h1.1;rw[he]at h2;have e:z=x:=by
   rcases h1.2 with e|h1
   ·exact e
   ·rcases h2.2 with e|h2
    ·exact e.symm
    ·omega
  subst e;by_cases hkN:k=N
  ·subst hkN;exact he
  ·exact Bd (λx k hk=>hf x k (by omega)) z hx hz k (by omega)
theorem dT{n:aG}(hn:oJ n){k:Nat}{r:bD}(h:n.rules[k]? =some r):tZ n r/\k<n.rules.length/\n.rules.getD k default=r:=by
 have hk:=(Zas.1 h).1;exact⟨hn.2.2.2 r (Zaq h),hk,by simp[List.getD,h]⟩
theorem Db{n:aG}{r:bD}(h:tZ n r):r.kind=1\/r.kind=2\/r.kind=3\/r.kind=4:=by
 obtain⟨_,_,_,_,h⟩:=h;omega
section
variable{n:aG}{l:aL}{c:bV}{s t:Nat}
structure lu(n:aG)(l:aL)(c:bV)(s t:Nat):Prop where
 hn:oJ n
 hl:vy l
 hc:Cl c
 ar:∀a∈l.aC,a.f<=a.t
 st:s<=t
 tm:t<=1000
 PF:∀(h:Int) (s' t':Nat),0<=h->h<n.an->s<=s'->s'<=t'->t'<=t->(s'≠s\/t'≠t)->Good n l h s' t' (lF c h s' t')
def PS(n:aG)(l:aL)(c:bV)(s t:Nat)(own:List Cell):Prop:=
 ∀h:Nat,h<own.length->own.getD h default=eY\/(Xp n l h s t (own.getD h default).val/\
  ∃(k:Nat) (g:Int) (v:br),mQ n l c own s t k g v/\(∃r,n.rules[k]? =some r/\r.head=h)/\(own.getD h default).eu=k/\(own.getD h default).arg=g/\¬(own.getD h default).val.lt v)
theorem fP(C:lu n l c s t){own:List Cell}(ho:kL n own){h:Int}(h0:0<=h)(h1:h<n.an)(f t':Int):kJ (cy c own s t h f t'):=
 oK ⟨C.hc,by have:=ho.1;have:=C.hn.2.1;omega,λ_=>⟨h0,by have:=ho.1;omega⟩⟩ ho.ok.2
theorem xn(C:lu n l c s t){own:List Cell}(ho:kL n own)(hp:PS n l c s t own){h:Int}{s' t':Nat}(h0:0<=h)(h1:h<n.an)(a1:s<=s')(a2:s'<=t')(a3:t'<=t)
  (hf:(cy c own s t h s' t').cost<1099511627776):Xp n l h s' t' (cy c own s t h s' t'):=by
 obtain⟨h,rfl⟩:=Zad h0;unfold cy at hf⊢;split
 ·rename_i e;rw[if_pos e]at hf;have e1:s'=s:=by omega
  have e2:t'=t:=by omega
  subst e1 e2;simp only[Zak]at hf⊢;rcases hp h (by have:=ho.1;omega)with e|⟨d,_⟩
  ·rw[e]at hf;exact absurd hf (by decide)
  ·exact d
 ·rename_i e;rw[if_neg e]at hf;rcases(C.PF h s' t' h0 h1 a1 a2 a3 (by omega)).top with e|⟨⟨k,_,d⟩,_⟩
  ·rw[e]at hf;exact absurd hf (by decide)
  ·exact⟨k,_,d⟩
theorem HQ(C:lu n l c s t){own:List Cell}(ho:kL n own)(hp:PS n l c s t own){k:Nat}{g:Int}{v:br}{r:bD}(hk:n.rules[k]? =some r)(h:mQ n l c own s t k g v)(hf:v.cost<1099511627776):eN n l r.head s t k g v:=by
 obtain⟨r',sQ,h⟩:=h;rw[hk]at sQ;cases sQ;obtain⟨q1,q2,q3,q4,q5⟩:=(dT C.hn hk).1;rcases h with⟨h1,rfl,rfl,rfl⟩|⟨h1,a,x,ha,h2,h3,h4,rfl,rfl⟩|⟨h1,rfl,rfl⟩|⟨h1,d,hd,rfl,rfl⟩
 ·exact eN.empty hk h1 hf
 ·exact eN.term hk h1 ha h2 h3 h4 hf
 ·obtain⟨k1,g1,d1⟩:=xn C ho hp (h:=r.a) (by omega) (by omega) (Zae s) C.st (Zae t) (C9 q3 hf);exact eN.unary hk h1 d1 hf
 ·have o1:=fP C ho (h:=r.a) (by omega) (by omega) s (s+d);have o2:=fP C ho (h:=r.b) (by omega) (by omega) (s+d) t;have hff:=Da q3 o1.1 o2.1 hf;have e:((s:Int)+d)=((s+d:Nat):Int):=by omega
  rw[e]at hf hff⊢;obtain⟨k1,g1,d1⟩:=xn C ho hp (h:=r.a) (by omega) (by omega) (Zae s) (by omega) hd hff.1;obtain⟨k2,g2,d2⟩:=xn C ho hp (h:=r.b) (by omega) (by omega) (by omega) hd (Zae t) hff.2;exact eN.binary hk h1 (by omega) hd d1 d2 hf
theorem Dc(C:lu n l c s t){own own':List Cell}(ho:kL n own)(fY:kL n own')(hm:∀(h f t':Int),0<=h->h<n.an->¬(cy c own s t h f t').lt (cy c own' s t h f t')){k:Nat}{g:Int}{v:br}(h:mQ n l c own s t k g v):
  ∃v',mQ n l c own' s t k g v'/\¬v.lt v':=by
 obtain⟨r,hk,h⟩:=h;obtain⟨q1,q2,q3,q4,q5⟩:=(dT C.hn hk).1;rcases h with⟨h1,rfl,rfl,rfl⟩|⟨h1,a,x,ha,h2,h3,h4,rfl,rfl⟩|⟨h1,rfl,rfl⟩|⟨h1,d,hd,rfl,rfl⟩
 ·exact⟨_,⟨r,hk,.inl ⟨h1,rfl,rfl,rfl⟩⟩,by unfold br.lt;omega⟩
 ·exact⟨_,⟨r,hk,.inr (.inl ⟨h1,a,x,ha,h2,h3,h4,rfl,rfl⟩)⟩,by unfold br.lt;omega⟩
 ·exact⟨_,⟨r,hk,.inr (.inr (.inl ⟨h1,rfl,rfl⟩))⟩,tX (hm _ _ _ (by omega) (by omega))⟩
 ·refine⟨_,⟨r,hk,.inr (.inr (.inr ⟨h1,d,hd,rfl,rfl⟩))⟩,tY ?_ ?_ ?_ ?_ (hm _ _ _ (by omega) (by omega)) (hm _ _ _ (by omega) (by omega))⟩
  ·exact(fP C ho (by omega) (by omega) _ _).1
  ·exact(fP C fY (by omega) (by omega) _ _).1
  ·exact(fP C ho (by omega) (by omega) _ _).1
  ·exact(fP C fY (by omega) (by omega) _ _).1
theorem HR{own:List Cell}{i h:Nat}{y:Cell}(hi:i<own.length):(own.set i y).getD h default=if h=i then y else own.getD h default:=by
 simp only[List.getD,Zbx];by_cases e:i=h
 ·subst e;simp[hi]
 ·have e':¬h=i:=λx=>e x.symm;simp[e,e']
theorem M1(C:lu n l c s t){own:List Cell}{k:Nat}(ho:kL n own)(hk:k<n.rules.length)(hp:PS n l c s t own):PS n l c s t (oL n l c s t own k):=by
 have fY:=(Be C.hn C.hl C.hc ho hk C.st C.tm).1;have hr:n.rules[k]? =some (n.rules.getD k default):=by simp[List.getD,hk]
 obtain⟨r,er⟩:∃r,n.rules.getD k default=r:=⟨_,rfl⟩;unfold oL at fY⊢;unfold dI at fY⊢;rw[er]at hr fY⊢;have jR:=(dT C.hn hr).1;obtain⟨hd,ehd⟩:=Zad jR.1;have jm:hd<own.length:=by have:=ho.1;have:=jR.2.1;omega
 rw[ehd]at fY⊢;simp only[Zak]at fY⊢;obtain⟨x,hx⟩:∃x,own.getD hd default=x:=⟨_,rfl⟩;rw[hx]at fY⊢;rcases vD (c:=c) (own:=own) hr (Db jR) C.st x with e|⟨g,v,hi,hf,hle,e⟩
 ·rw[e,<-hx,Bf rfl];exact hp
 ·rw[e]at fY⊢;have hm:∀(h f t':Int),0<=h->h<n.an->¬(cy c own s t h f t').lt (cy c (own.set hd ⟨v.cost,v.size,k,g⟩) s t h f t'):=by
   intro h f t' h0 h1;unfold cy;split
   ·rw[HR jm];split
    ·rename_i e2;rw[e2,hx];exact hle
    ·unfold br.lt;omega
   ·unfold br.lt;omega
  have hder:=HQ C ho hp hr hi hf;intro h hh;rw[HR jm];split
  ·rename_i e2;subst e2;obtain⟨v',ni,OG⟩:=Dc C ho fY hm hi;exact .inr ⟨⟨k,g,by rw[<-ehd];exact hder⟩,k,g,v',ni,⟨r,hr,ehd⟩,rfl,rfl,OG⟩
  ·rcases hp h (by simpa using hh)with e3|⟨d,k1,g1,v1,hi1,lO,h2,h3,h4⟩
   ·exact .inl e3
   ·obtain⟨v',ni,OG⟩:=Dc C ho fY hm hi1;exact .inr ⟨d,k1,g1,v',ni,lO,h2,h3,nv OG h4⟩
theorem M3(C:lu n l c s t):PS n l c s t (Cm n):=by
 intro h hh;left;have hh:h<n.an.toNat:=by simpa [Cm]using hh
 simp[Cm,List.getD,hh]
theorem Bg(C:lu n l c s t){own:List Cell}(ho:kL n own)(yW:KI n l c s t own){k:Nat}{g:Int}{v:br}{r:bD}(hk:n.rules[k]? =some r)(h:mQ n l c own s t k g v)(hf:v.cost<1099511627776):
  ¬v.lt (own.getD r.head.toNat default).val/\(v=(own.getD r.head.toNat default).val->vC (own.getD r.head.toNat default).eu (own.getD r.head.toNat default).arg k g):=by
 obtain⟨r',sQ,h⟩:=h;rw[hk]at sQ;cases sQ;obtain⟨jR,Wo,hkd⟩:=dT C.hn hk;have FP:=yW k Wo;unfold dI at FP;rw[hkd]at FP;obtain⟨q1,q2,q3,q4,q5⟩:=jR;have Qq:kK (own.getD r.head.toNat default):=ho.2 _ (bw (by have:=ho.1;omega));obtain⟨x,hx⟩:∃x,own.getD r.head.toNat default=x:=⟨_,rfl⟩;rw[hx]at FP Qq⊢;have hk6:=C.hn.2.2.1;have wq:=C.hl.2.2.1;have lE:=C.st;have iX:=C.tm;unfold lr at FP;rcases h with⟨h1,rfl,rfl,rfl⟩|⟨h1,a,y,ha,h2,h3,h4,rfl,rfl⟩|⟨h1,rfl,rfl⟩|⟨h1,d,hd,rfl,rfl⟩
 ·rw[if_pos h1,if_pos rfl]at FP;exact pF FP hf
 ·rw[if_neg (by omega),if_pos h1]at FP;have kj:=(Zas.1 ha).1;have Wj:l.aC.getD a default=y:=by simp[List.getD,ha]
  have:=Bd (λx k hk hx=>by
   unfold stepT;split
   ·have:=C.hl.2.2.2 (l.aC.getD k default) (bw hk);exact jz hx (iC vE (by omega) (by omega)) (by omega) (by omega) (by omega) (by omega)
   ·exact su hx) x Qq FP a kj
  unfold stepT at this;rw[Wj,if_pos ⟨h2,h3,h4⟩]at this;exact pF this hf
 ·rw[if_neg (by omega),if_neg (by omega),if_pos h1]at FP;exact pF FP hf
 ·rw[if_neg (by omega),if_neg (by omega),if_neg (by omega)]at FP;have:=Bd (λx k hk hx=>by
   unfold p0;refine jz hx (iC (λv hv=>?_) q3 (by omega)) (by omega) (by omega) (by omega) (by omega);simp only[Zag,Zap,or_false]at hv;rcases hv with rfl|rfl<;>exact fP C ho (by omega) (by omega) _ _) x Qq FP d (by omega)
  unfold p0 at this;exact pF this hf
theorem eN.le(ha:∀a∈l.aC,a.f<=a.t){h:Int}{s' t' k:Nat}{g:Int}{v:br}(d:eN n l h s' t' k g v):s'<=t':=by
 induction d with
 |empty _ _ _=>exact Zae _
 |term _ _ hx h2 h3 _ _=>have:=ha _ (Zaq hx);omega
 |unary _ _ _ _ ih=>exact ih
 |binary _ _ _ _ _ _ _ ih1 N8=>omega
theorem eN.pos(hn:oJ n)(hl:vy l){h:Int}{s' t' k:Nat}{g:Int}{v:br}(d:eN n l h s' t' k g v):kJ v:=by
 induction d with
 |empty hk _ _=>exact iC vE (dT hn hk).1.2.2.1 (by have:=(dT hn hk).1.2.2.2.1;omega)
 |term hk _ hx _ _ _ _=>exact iC vE (by have:=(dT hn hk).1.2.2.1;have:=hl.2.2.2 _ (Zaq hx);omega) (by have:=(dT hn hk).1.2.2.2.1;have:=hl.2.2.2 _ (Zaq hx);omega)
 |unary hk _ _ _ ih=>exact iC (λv hv=>by simp only[Zah]at hv;subst hv;exact ih) (dT hn hk).1.2.2.1 (by have:=(dT hn hk).1.2.2.2.1;omega)
 |binary hk _ _ _ _ _ _ ih1 N8=>exact iC (λv hv=>by simp only[Zag,Zap,or_false]at hv;rcases hv with rfl|rfl<;>assumption) (dT hn hk).1.2.2.1 (by have:=(dT hn hk).1.2.2.2.1;omega)
theorem HS(C:lu n l c s t){own:List Cell}(ho:kL n own)(yW:KI n l c s t own){h:Int}{s' t' k:Nat}{g:Int}{v:br}(d:eN n l h s' t' k g v):
  s<=s'->t'<=t->¬v.lt (cy c own s t h s' t'):=by
 have out:∀{h:Int} {s' t':Nat} {v:br},0<=h->h<n.an->s<=s'->s'<=t'->t'<=t->(s'≠s\/t'≠t)->Xp n l h s' t' v->¬v.lt (cy c own s t h s' t'):=by
  intro h s' t' v h0 h1 a1 a2 a3 bG d;unfold cy;rw[if_neg (by omega)];exact(C.PF h s' t' h0 h1 a1 a2 a3 bG).least v d
 have onn:∀{r:bD} {k:Nat} {g:Int} {v v':br},n.rules[k]? =some r->mQ n l c own s t k g v'->¬v.lt v'->v.cost<1099511627776->¬v.lt (cy c own s t r.head s t):=by
  intro r k g v v' hk hi hle hf;unfold cy;rw[if_pos ⟨rfl,rfl⟩];have TC:v'.cost<1099511627776:=by unfold br.lt at hle;omega
  exact nv (Bg C ho yW hk hi TC).1 hle
 induction d with
 | @empty s0 k r hk h1 hv=>
  intro a1 a2;obtain⟨q1,q2,q3,q4,q5⟩:=(dT C.hn hk).1;by_cases e:s0=s/\s0=t
  ·obtain⟨rfl,rfl⟩:=e;exact onn hk ⟨r,hk,.inl ⟨h1,rfl,rfl,rfl⟩⟩ (by unfold br.lt;omega) hv
  ·exact out q1 q2 a1 (Zae _) a2 (by omega) ⟨k,_,eN.empty hk h1 hv⟩
 | @term s0 t0 k a r x hk h1 ha h2 h3 h4 hv=>
  intro a1 a2;obtain⟨q1,q2,q3,q4,q5⟩:=(dT C.hn hk).1;by_cases e:s0=s/\t0=t
  ·obtain⟨rfl,rfl⟩:=e;exact onn hk ⟨r,hk,.inr (.inl ⟨h1,a,x,ha,h2,h3,h4,rfl,rfl⟩)⟩ (by unfold br.lt;omega) hv
  ·exact out q1 q2 a1 (by have:=C.ar x (Zaq ha);omega) a2 (by omega) ⟨k,_,eN.term hk h1 ha h2 h3 h4 hv⟩
 | @unary s0 t0 k k1 g1 r v hk h1 d hv ih=>
  intro a1 a2;obtain⟨q1,q2,q3,q4,q5⟩:=(dT C.hn hk).1;by_cases e:s0=s/\t0=t
  ·obtain⟨rfl,rfl⟩:=e;exact onn hk ⟨r,hk,.inr (.inr (.inl ⟨h1,rfl,rfl⟩))⟩ (tX (ih (Zae _) (Zae _))) hv
  ·exact out q1 q2 a1 (d.le C.ar) a2 (by omega) ⟨k,_,eN.unary hk h1 d hv⟩
 | @binary s0 m t0 k k1 k2 g1 g2 r v w hk h1 hs ht d1 d2 hv ih1 N8=>
  intro a1 a2;obtain⟨q1,q2,q3,q4,q5⟩:=(dT C.hn hk).1;by_cases e:s0=s/\t0=t
  ·obtain⟨rfl,rfl⟩:=e;have em:(m:Int)=(s0:Int)+((m-s0:Nat):Int):=by omega
   refine onn hk ⟨r,hk,.inr (.inr (.inr ⟨h1,m-s0,by omega,rfl,rfl⟩))⟩ (tY ?_ ?_ ?_ ?_ ?_ ?_) hv
   ·exact(d1.pos C.hn C.hl).1
   ·exact(fP C ho (by omega) (by omega) _ _).1
   ·exact(d2.pos C.hn C.hl).1
   ·exact(fP C ho (by omega) (by omega) _ _).1
   ·rw[<-em];exact ih1 (Zae _) ht
   ·rw[<-em];exact N8 hs (Zae _)
  ·exact out q1 q2 a1 (by omega) a2 (by omega) ⟨k,_,eN.binary hk h1 hs ht d1 d2 hv⟩
theorem TD(C:lu n l c s t){own:List Cell}(ho:kL n own)(yW:KI n l c s t own){h:Int}{k:Nat}{g:Int}{v:br}(d:eN n l h s t k g v):
  ∃r v',n.rules[k]? =some r/\r.head=h/\mQ n l c own s t k g v'/\¬v.lt v':=by
 have hle:=λ{h:Int} {s' t' k:Nat} {g:Int} {v:br} (d:eN n l h s' t' k g v)=>HS C ho yW d;cases d with
 | @empty s0 k r hk h1 hv=>exact⟨r,_,hk,rfl,⟨r,hk,.inl ⟨h1,rfl,rfl,rfl⟩⟩,by unfold br.lt;omega⟩
 | @term s0 t0 k a r x hk h1 ha h2 h3 h4 hv=>exact⟨r,_,hk,rfl,⟨r,hk,.inr (.inl ⟨h1,a,x,ha,h2,h3,h4,rfl,rfl⟩)⟩,by unfold br.lt;omega⟩
 | @unary s0 t0 k k1 g1 r v hk h1 d hv=>
  exact⟨r,_,hk,rfl,⟨r,hk,.inr (.inr (.inl ⟨h1,rfl,rfl⟩))⟩,tX (hle d (Zae _) (Zae _))⟩
 | @binary s0 m t0 k k1 k2 g1 g2 r v w hk h1 hs ht d1 d2 hv=>
  obtain⟨q1,q2,q3,q4,q5⟩:=(dT C.hn hk).1;have em:(m:Int)=(s:Int)+((m-s:Nat):Int):=by omega
  refine⟨r,_,hk,rfl,⟨r,hk,.inr (.inr (.inr ⟨h1,m-s,by omega,em,rfl⟩))⟩,tY ?_ ?_ ?_ ?_ ?_ ?_⟩
  ·exact(d1.pos C.hn C.hl).1
  ·exact(fP C ho (by omega) (by omega) _ _).1
  ·exact(d2.pos C.hn C.hl).1
  ·exact(fP C ho (by omega) (by omega) _ _).1
  ·rw[<-em];exact hle d1 (Zae _) ht
  ·rw[<-em];exact hle d2 hs (Zae _)
theorem HT(C:lu n l c s t){own:List Cell}(ho:kL n own)(hp:PS n l c s t own)(yW:KI n l c s t own)(h:Nat)(hh:(h:Int)<n.an):Good n l h s t (own.getD h default):=by
 have hl:h<own.length:=by have:=ho.1;omega
 have cY:cy c own s t h s t=(own.getD h default).val:=by unfold cy;rw[if_pos ⟨rfl,rfl⟩];rfl
 refine⟨λv ⟨k,g,d⟩=>?_, ?_⟩
 ·rw[<-cY];exact HS C ho yW d (Zae _) (Zae _)
 ·rcases hp h hl with e|⟨hd,k,g,v,hi,⟨r,hk,hr⟩,h2,h3,hle⟩
  ·exact .inl e
  ·right;have hf:=hd.fin;have hvf:v.cost<1099511627776:=by unfold br.lt at hle;omega
   have hx:=Bg C ho yW hk hi hvf;rw[hr]at hx;simp only[Zak]at hx;have he:v=(own.getD h default).val:=br.antisymm hx.1 hle;refine⟨⟨k,h2, ?_⟩,λk' g' d=>?_⟩
   ·have:=HQ C ho hp hk hi hvf;rw[hr,he]at this;rw[h3];exact this
   ·obtain⟨r',v',sQ,fa,ni,OG⟩:=TD C ho yW d;have hvf':v'.cost<1099511627776:=by unfold br.lt at OG;omega
    have fX:=Bg C ho yW sQ ni hvf';rw[fa]at fX;simp only[Zak]at fX;exact fX.2 (br.antisymm fX.1 OG)
theorem xo(C:lu n l c s t)(h:Nat)(hh:(h:Int)<n.an):Good n l h s t ((jh n l c s t).getD h default):=by
 obtain⟨h1,h2,h3⟩:=Bh C.hn C.hl C.hc C.st C.tm (PS n l c s t) (M3 C) (λown k ho hk hp=>M1 C ho hk hp);exact HT C h1 h2 h3 h hh
end
abbrev s18:DM.Spec:=ct (λts=>∃h f t cf co cn st,ts=[.agg [ti h,ti f,ti t],.agg [ti cf,ti co,ti cn],ti st]/\1<=st/\st<=10000)
 (fun|[.agg [.int _ h,.int _ f,.int _ t],.agg [.int _ cf,.int _ co,.int _ cn],.int _ st]=>.eD [.agg [ti (iN h f t cf co cn st).h,ti (iN h f t cf co cn st).f,ti (iN h f t cf co cn st).t],.bool (iN h f t cf co cn st).ok]|_=>.bool false) true
theorem ok18{l:List (Nat×DM.Spec)}(h:aw Tryz.prog (aW l)):aw Tryz.prog (aW ((18,s18)::l)):=by
 refine aw.cons h ?_;rintro ts ⟨h,f,t,cf,co,cn,st,rfl,h1,h2⟩;exact⟨by simpa [KR.enc]using t18 h f t cf co cn st h1 h2,λ_=>rfl⟩
theorem t13e:aT Tryz.prog 13 [.agg [ti 1,ti 1,ti 0,.sl []],.agg [ti 0,ti 0,.sl []],.agg [.sl [],.sl [[ti 1]],ti 0],.agg [ti 0,ti 0,ti 0]] (.eD [.agg [ti 0,ti 0,.sl []],ti 0,ti 13]):=by
 have ay:=dY;refine c13.ok (by simp) (aJ ?_);simp;refine aa.ab ay fw [4,5,6,7,8,9,10] ?_;simp[R7];refine aa.le (Le.aD (o:=[(1009,.box [.v (ti 0),.v (ti 0),.aI])]) (l:=[(4,.v (.box [ti 1,ti 1,ti 0,.sl []])),(5,.v (.box [ti 0,ti 0,.sl []])),(6,.v (.box [.sl [],.sl [[ti 1]],ti 0])),(7,.v (.box [ti 0,ti 0,ti 0])),(8,.ptr 1009 0),(9,(.v (.int .i64 0))),(10,(.v (.int .i64 0)))]) (nxt':=1200) ?_ ?_ ?_ ?_) ?_;iterate 4(·simp)
 refine aa.ab ay fw [4,5,6,7,8,11] ?_;simp[R8];refine aa.seq ?_;refine aa.bZ ay fw [(4,.v (.box [ti 1,ti 1,ti 0,.sl []])),(5,.v (.box [ti 0,ti 0,.sl []])),(6,.v (.box [.sl [],.sl [[ti 1]],ti 0])),(7,.v (.box [ti 0,ti 0,ti 0])),(8,.ptr 1009 0),(11,.v (ti 0)),(53,.v (.bool false))] ?_ ?_
 ·simp[R9]
 refine aa.cond rfl (λg=>?_) (λg=>?_)
 ·exact absurd g (by simp)
 ·refine aa.skip ?_;simp;refine aa.seq ?_;refine aa.bZ ay fw [(4,.v (.box [ti 1,ti 1,ti 0,.sl []])),(5,.v (.box [ti 0,ti 0,.sl []])),(6,.v (.box [.sl [],.sl [[ti 1]],ti 0])),(7,.v (.box [ti 0,ti 0,ti 0])),(8,.ptr 1009 0),(95,.v (.bool true))] ?_ ?_
  ·simp[Sa]
  refine aa.cond rfl (λg2=>?_) (λg2=>?_)
  ·refine aa.ab ay fw [8,9,10] ?_;simp[abr];refine aa.ret ?_;simp[Kf]
  ·refine aa.skip ?_;simp;exact absurd g2 (by simp)
abbrev s13e:DM.Spec:=ct (λts=>ts=[.agg [ti 1,ti 1,ti 0,.sl []],.agg [ti 0,ti 0,.sl []],.agg [.sl [],.sl [[ti 1]],ti 0],.agg [ti 0,ti 0,ti 0]]) (λ_=>.eD [.agg [ti 0,ti 0,.sl []],ti 0,ti 13]) false
theorem okA:aw Tryz.prog (aW [(18,s18),(13,s13e)]):=by
 refine ok18 (aw.cons aw.nil ?_);rintro ts rfl;exact⟨t13e,λh=>by cases h⟩
theorem kA:iN 2 0 2 1 1 1 7=⟨2,0,2,true⟩:=rfl
theorem kB:iN 1 4 6 1 1 1 7=⟨1,4,6,true⟩:=rfl
theorem kC:iN 0 2 4 1 1 1 7=⟨0,0,0,false⟩:=rfl
theorem kD:iN 0 0 1 1 1 1 7=⟨0,0,0,false⟩:=rfl
theorem kE:iN 0 4 6 1 0 2 7=⟨0,8,10,true⟩:=rfl
theorem t10:aT Tryz.prog 10 [] (.bool true):=by
 have ay:=okA;refine c10.ok (by simp) (aJ ?_);simp;refine aa.ab ay fw [] ?_;simp[aa6];refine aa.ab ay fw [1] ?_;simp[aa7];refine aa.ab ay fw [1,2,3] ?_;simp[aa8,kA];refine⟨⟨_,_,_,_,_,_,_,⟨⟨rfl,rfl,rfl⟩,⟨rfl,rfl,rfl⟩,rfl⟩,by omega,by omega⟩, ?_⟩;try simp only[kA,kB,kC,kD,kE]
 refine aa.ab ay fw [1,2,3,4,5] ?_;simp[aa9,kB];refine⟨⟨_,_,_,_,_,_,_,⟨⟨rfl,rfl,rfl⟩,⟨rfl,rfl,rfl⟩,rfl⟩,by omega,by omega⟩, ?_⟩;try simp only[kA,kB,kC,kD,kE]
 refine aa.ab ay fw [1,2,3,4,5,7] ?_;simp[aba,kC];refine⟨⟨_,_,_,_,_,_,_,⟨⟨rfl,rfl,rfl⟩,⟨rfl,rfl,rfl⟩,rfl⟩,by omega,by omega⟩, ?_⟩;try simp only[kA,kB,kC,kD,kE]
 refine aa.ab ay fw [2,3,4,5,7,9] ?_;simp[abb,kD];refine⟨⟨_,_,_,_,_,_,_,⟨⟨rfl,rfl,rfl⟩,⟨rfl,rfl,rfl⟩,rfl⟩,by omega,by omega⟩, ?_⟩;try simp only[kA,kB,kC,kD,kE]
 refine aa.ab ay fw [2,3,4,5,7,9,10,11] ?_;simp[abc,kE];refine⟨⟨_,_,_,_,_,_,_,⟨⟨rfl,rfl,rfl⟩,⟨rfl,rfl,rfl⟩,rfl⟩,by omega,by omega⟩, ?_⟩;try simp only[kA,kB,kC,kD,kE]
 refine aa.ab ay fw [2,3,4,5,7,9,10,11,14] ?_;simp[abd];refine⟨by first|rfl|simp[chunk], ?_⟩;refine aa.ab ay fw [0] ?_;simp[abe];refine aa.ret ?_;simp[R6]
theorem HU{p p' nn h h':Int}(a1:0<=h)(a2:h<nn)(b1:0<=h')(b2:h'<nn)(e:p*nn+h=p'*nn+h'):p=p'/\h=h':=by
 have key:∀{p p' h h':Int},0<=h->h<nn->0<=h'->h'<nn->p*nn+h=p'*nn+h'->¬p<p':=by
  intro p p' h h' a1 a2 b1 b2 e cW;have h1:(p+1)*nn<=p'*nn:=ZbZ (by omega) (by omega);have h2:(p+1)*nn=p*nn+nn:=by grind
  omega
 have h1:=key a1 a2 b1 b2 e;have h2:=key b1 b2 a1 a2 e.symm;have:p=p':=by omega
 subst this;exact⟨rfl,by omega⟩
theorem OH{nn st:Int}{s t s' t':Nat}{h h':Int}(a1:0<=h)(a2:h<nn)(b1:0<=h')(b2:h'<nn)(c1:s<=t)(c2:(t:Int)<st)(d1:s'<=t')(d2:(t':Int)<st)
  (e:cJ nn st s t+h=cJ nn st s' t'+h'):s=s'/\t=t'/\h=h':=by
 unfold cJ at e;obtain⟨e1,e2⟩:=HU a1 a2 b1 b2 e;have key:∀{s t s' t':Nat},s<=t->(t:Int)<st->s'<=t'->(t':Int)<st->pre st s+t-s=pre st s'+t'-s'->¬s<s':=by
  intro s t s' t' c1 c2 d1 d2 e cW;have:=Bi (st:=st) (f:=s+1) (k:=s') (by omega) (by omega);simp only[pre]at this;omega
 have h1:=key c1 c2 d1 d2 e1;have h2:=key d1 d2 c1 c2 e1.symm;have:s=s':=by omega
 subst this;exact⟨rfl,by omega,e2⟩
theorem TE(cells own:List Cell)(mi y:Nat)(hl:mi+y<=cells.length)(i:Nat)(d:Cell):(l8 cells own mi y).getD i d=if mi<=i/\i<mi+y then own.getD (i-mi) default else cells.getD i d:=by
 induction y with
 |zero=>simp only[l8,List.range_zero,ZbU];rw[if_neg (by omega)]
 |succ y ih=>
  rw[ml];have ih:=ih (by omega);by_cases e:i=mi+y
  ·subst e;rw[if_pos (by omega),show mi+y-mi=y by omega];simp only[List.getD,Zbx,vF];rw[if_pos trivial,if_pos (by omega)];rfl
  ·have:((l8 cells own mi y).set (mi+y) (own.getD y default)).getD i d=(l8 cells own mi y).getD i d:=by
    simp only[List.getD,Zbx];rw[if_neg (λx=>e x.symm)]
   rw[this,ih];by_cases h:mi<=i/\i<mi+y
   ·rw[if_pos h,if_pos (by omega)]
   ·rw[if_neg h,if_neg (by omega)]
section
variable{n:aG}{l:aL}
theorem TF{c:bV}{h:Int}{s t:Nat}(h0:0<=h)(h1:h<c.an)(c1:s<=t)(c2:(t:Int)<c.aN):lF c h s t=c.cells.getD (cJ c.an c.aN s t+h).toNat eY:=by
 unfold lF;rw[if_neg (by omega)];simp
def HV(n:aG)(l:aL)(cells:List Cell)(len f:Nat):Prop:=
 ∀(h:Int) (s t:Nat),0<=h->h<n.an->s<=t->(t:Int)<l.aN->(t-s<len\/(t-s=len/\s<f))->Good n l h s t (lF ⟨n.an,l.aN,cells⟩ h s t)
theorem OI(hn:oJ n)(hl:vy l)(ha:∀a∈l.aC,a.f<=a.t){cells:List Cell}{len f:Nat}(hc:fI n l cells)(hf:((f+len:Nat):Int)<l.aN)(hd:HV n l cells len f):HV n l (rG n l len cells f) len (f+1):=by
 have h1:=hn.1;have h2:=hn.2.1;have h3:=hl.1;have h4:=hl.2.1;have C:lu n l ⟨n.an,l.aN,cells⟩ f (f+len):=⟨hn,hl,hc.ok hn hl,ha,by omega,by omega,λh s' t' a1 a2 a3 a4 a5 a6=>hd h s' t' a1 a2 a4 (by omega) (by omega)⟩;have hg:=xo C;have eS:=vG hn hl C.hc C.st C.tm;rw[show((f+len:Nat):Int)=(f:Int)+len by omega]at hg eS;obtain⟨own,ho⟩:∃own,jh n l ⟨n.an,l.aN,cells⟩ f ((f:Int)+len)=own:=⟨_,rfl⟩;rw[ho]at hg eS;have M4:=jY (n:=n.an) (st:=l.aN) (f:=f) (t:=f+len) (by omega) h2 h4 (by omega) (by omega) (by omega);have cW:=vH (nn:=n.an) (st:=l.aN) (f:=f) (t:=f+len) (by omega) (by omega) (by omega) (i:=n.an-1) (by omega);have bd:=hc.1;intro h s t a1 a2 a3 a4 a5;unfold rG;rw[ho,TF a1 a2 a3 a4];simp only;have hsb:=jY (n:=n.an) (st:=l.aN) (f:=s) (t:=t) (by omega) h2 h4 (by omega) (by omega) (by omega);rw[TE _ _ _ _ (by omega)];split
 ·rename_i e;have hx:cJ n.an l.aN s t+h=cJ n.an l.aN f (f+len)+(((cJ n.an l.aN s t+h).toNat-(cJ n.an l.aN f (f+len)).toNat:Nat):Int):=by omega
  obtain⟨e1,e2,e3⟩:=OH a1 a2 (by omega) (by omega) a3 a4 (by omega) (by omega) hx;subst e1 e2;obtain⟨h,rfl⟩:=Zad a1;have e4:(cJ n.an l.aN s (s+len)+(h:Int)).toNat-(cJ n.an l.aN s (s+len)).toNat=h:=by omega
  rw[e4];exact hg h a2
 ·rename_i e;have bG:¬(s=f/\t=f+len):=by
   rintro⟨rfl,rfl⟩;omega
  have:=hd h s t a1 a2 a3 a4 (by omega);rw[TF a1 a2 a3 a4]at this;exact this
theorem Bj(hn:oJ n)(hl:vy l)(ha:∀a∈l.aC,a.f<=a.t){cells:List Cell}{len:Nat}(hc:fI n l cells)(hd:HV n l cells len 0):∀k,((k+len:Nat):Int)<=l.aN->HV n l ((List.range k).foldl (rG n l len) cells) len k
 |0,_=>hd
 |k+1,hk=>by
  rw[ZaD,Zat];have h4:=hl.2.1;exact OI hn hl ha (vI hn hl hc k (by omega)) (by omega) (Bj hn hl ha hc hd k (by omega))
theorem Dd(hn:oJ n)(hl:vy l)(ha:∀a∈l.aC,a.f<=a.t):∀k:Nat,(k:Int)<=l.aN->HV n l ((List.range k).foldl (HW n l) (List.replicate (dN n.an l.aN).toNat ⟨0,0,0,0⟩)) k 0:=by
 intro k;induction k with
 |zero=>
  intro _ h s t a1 a2 a3 a4 a5;omega
 |succ k ih=>
  intro hk;rw[ZaD,Zat];have h4:=hl.2.1;have:=Bj hn hl ha (vA hn hl k (by omega)) (ih (by omega)) (l.aN.toNat-k) (by omega);intro h s t a1 a2 a3 a4 a5;exact this h s t a1 a2 a3 a4 (by omega)
theorem kM(hn:oJ n)(hl:vy l)(ha:∀a∈l.aC,a.f<=a.t){h:Int}{s t:Nat}(a1:0<=h)(a2:h<n.an)(a3:s<=t)(a4:(t:Int)<l.aN):Good n l h s t (lF (cz n l) h s t):=by
 have h3:=hl.1;exact Dd hn hl ha l.aN.toNat (by omega) h s t a1 a2 a3 a4 (by omega)
end
def jZ(l:List bn)(f t e c:Int):Prop:=∃a∈l,a.f=f/\a.t=t/\a.term=e/\a.cost=c
theorem pk2(a b:bn):pK a b=true↔b.cost<1099511627776/\sameKey a b=true:=by
 unfold pK;rw[Zam,decide_eq_true_eq];exact and_comm
theorem EW(a b:bn):pK a b=true↔b.cost<1099511627776/\a.f=b.f/\a.t=b.t/\a.term=b.term:=by
 rw[pk2,sameKey_iff]
theorem Bk(k:bn):∀(cs:List bn) (o:Option bn),(∀b,o=some b->pK k b=true)->match cs.foldl (fL k) o with
  |none=>o=none/\∀b∈cs,pK k b=false
  |some r=>(o=some r\/r∈cs)/\pK k r=true/\(∀b,o=some b->r.cost<=b.cost)/\∀b∈cs,pK k b=true->r.cost<=b.cost
 |[],o,ho=>by
  cases o with
  |none=>exact⟨rfl,λb h=>by cases h⟩
  |some b=>exact⟨.inl rfl,ho b rfl,λc h=>by cases h;omega,λb h=>by cases h⟩
 |c::cs,o,ho=>by
  rw[ZaB];have ih:=Bk k cs (fL k o c);have hs:∀b,fL k o c=some b->(o=some b\/b=c)/\pK k b=true/\(∀d,o=some d->b.cost<=d.cost)/\(pK k c=true->b.cost<=c.cost):=by
   intro b hb;unfold fL at hb;split at hb
   ·rename_i hc;have hpc:pK k c=true:=(pk2 k c).2 hc;cases o with
    |none=>simp only[Zaa]at hb;subst hb;exact⟨.inr rfl,hpc,λd h=>(by cases h),λ_=>by omega⟩
    |some d=>
     simp only at hb;split at hb
     ·simp only[Zaa]at hb;subst hb;exact⟨.inr rfl,hpc,λd h=>(by cases h;omega),λ_=>by omega⟩
     ·simp only[Zaa]at hb;subst hb;exact⟨.inl rfl,ho _ rfl,λd h=>(by cases h;omega),λ_=>by omega⟩
   ·rename_i hc;subst hb;refine⟨.inl rfl,ho b rfl,λd h=>by cases h;omega,λh=>?_⟩;exfalso;exact hc ((pk2 k c).1 h)
  have ih:=ih λb hb=>(hs b hb).2.1;cases e:cs.foldl (fL k) (fL k o c)with
  |none=>
   rw[e]at ih;simp only at ih⊢;obtain⟨i1,i2⟩:=ih;have h1:o=none/\pK k c=false:=by
    unfold fL at i1;split at i1
    ·cases o with
     |none=>cases i1
     |some d=>simp only at i1;split at i1<;>cases i1
    ·rename_i hc;refine⟨i1, ?_⟩;cases hp:pK k c with
     |false=>rfl
     |true=>
      exfalso;exact hc ((pk2 k c).1 hp)
   refine⟨h1.1,λb hb=>?_⟩;rcases Zag.1 hb with rfl|hb
   ·exact h1.2
   ·exact i2 b hb
  |some r=>
   rw[e]at ih;simp only at ih⊢;obtain⟨i1,i2,i3,i4⟩:=ih;refine⟨?_,i2, ?_, ?_⟩
   ·rcases i1 with i1|i1
    ·rcases(hs r i1).1 with h|rfl
     ·exact .inl h
     ·exact .inr (Za4 ..)
    ·exact .inr (ZaV _ i1)
   ·intro b hb;cases lE:fL k o c with
    |none=>
     unfold fL at lE;rw[hb]at lE;split at lE
     ·simp only at lE;split at lE<;>cases lE
     ·cases lE
    |some d=>have:=i3 d lE;have:=(hs d lE).2.2.1 b hb;omega
   ·intro b hb hp;rcases Zag.1 hb with rfl|hb
    ·cases lE:fL k o b with
     |none=>
      unfold fL at lE;have hp':=(pk2 k b).1 hp;rw[if_pos hp']at lE;cases o with
      |none=>cases lE
      |some d=>simp only at lE;split at lE<;>cases lE
     |some d=>have:=i3 d lE;have:=(hs d lE).2.2.2 hp;omega
    ·exact i4 b hb hp
theorem pG(x:Input)(f t e c:Int):jZ (dP x) f t e c↔(jZ (wB x) f t e c/\c<1099511627776/\∀c',jZ (wB x) f t e c'->c'<1099511627776->c<=c'):=by
 constructor
 ·rintro⟨a,ha,rfl,rfl,rfl,rfl⟩;rw[xW]at ha;have hm:=Bk a ((wB x).filter (pK a)) none (λb h=>by cases h);rw[ha]at hm;simp only at hm;obtain⟨h1,h2,_,h4⟩:=hm;have h1:a∈(wB x).filter (pK a):=h1.resolve_left (λh=>by cases h);refine⟨⟨a,(ZaN.1 h1).1,rfl,rfl,rfl,rfl⟩,((EW a a).1 h2).1, ?_⟩;rintro c' ⟨b,hb,e1,e2,e3,rfl⟩ zX;have hp:pK a b=true:=(EW a b).2 ⟨zX,e1.symm,e2.symm,e3.symm⟩;exact h4 b (ZaN.2 ⟨hb,hp⟩) hp
 ·rintro⟨⟨b,hb,rfl,rfl,rfl,rfl⟩,hc,Em⟩;have hm:=Bk b ((wB x).filter (pK b)) none (λb h=>by cases h);have PA:pK b b=true:=(EW b b).2 ⟨hc,rfl,rfl,rfl⟩;cases e:((wB x).filter (pK b)).foldl (fL b) none with
  |none=>
   rw[e]at hm;have:=hm.2 b (ZaN.2 ⟨hb,PA⟩);rw[PA]at this;cases this
  |some r=>
   rw[e]at hm;simp only at hm;obtain⟨h1,h2,_,h4⟩:=hm;have h1:r∈(wB x).filter (pK b):=h1.resolve_left (λh=>by cases h);obtain⟨r1,r2,r3,r4⟩:=(EW b r).1 h2;have hpe:pK r=pK b:=by
    funext y;unfold pK sameKey;simp only[r2,r3,r4]
   have hse:fL r=fL b:=by
    funext o y;unfold fL sameKey;simp only[r2,r3,r4]
   refine⟨r, ?_,r2.symm,r3.symm,r4.symm, ?_⟩
   ·rw[xW,hpe,hse];exact e
   ·have l1:=h4 b (ZaN.2 ⟨hb,PA⟩) PA;have l2:=Em r.cost ⟨r,(ZaN.1 h1).1,r2.symm,r3.symm,r4.symm,rfl⟩ r1;omega
def Cand(x:Input)(f t e c:Int):Prop:=
 (∃i m k:Nat,i<=m/\m<x.aj.length/\k<x.insert.length/\0<=lG x m k/\f=2*i/\t=2*m+2/\e=k/\c=jF (fU x i m) (lG x m k))\/
 (∃i m:Nat,i<=m/\bX x m=true/\f=2*i/\t=2*m+1/\e=(x.aj.getD (m+1) default).kind/\c=jF (fU x i m) x.swap)\/
 (∃i:Nat,bX x i=true/\f=2*i+1/\t=2*i+4/\e=(x.aj.getD i default).kind/\c=0)\/
 (∃i m k:Nat,i<=m/\m<=x.aj.length/\k<x.insert.length/\f=2*i/\t=2*m/\e=k/\c=jF (fU x i m) (x.insert.getD k default))
theorem sv{x:Input}{m:Nat}(h:bX x m=true):m+1<x.aj.length:=by
 unfold bX at h;exact(of_decide_eq_true h).1
theorem iD{α:Type}{f:Nat->List α}{i m k:Nat}{a:α}(h1:i<=k)(h2:k<m)(h:a∈f k):a∈ft f i m:=by
 unfold ft;rw[ZaU];exact⟨k-i,by rw[ZaP];omega,by rw[show i+(k-i)=k by omega];exact h⟩
theorem vJ(x:Input)(f t e c:Int):jZ (wB x) f t e c↔Cand x f t e c:=by
 constructor
 ·rintro⟨a,ha,rfl,rfl,rfl,rfl⟩;unfold wB at ha;rcases Zao.1 ha with ha|ha
  ·obtain⟨i,_,hi,ha⟩:=dx ha;unfold rI at ha;rcases Zao.1 ha with ha|ha
   ·obtain⟨m,h1,h2,ha⟩:=dx ha;unfold rM at ha;rcases Zao.1 ha with ha|ha
    ·obtain⟨k,_,hk,ha⟩:=dx ha;unfold rA at ha;split at ha
     ·rename_i hr;simp only[Zah]at ha;subst ha;exact .inl ⟨i,m,k,h1,hr.1,hk,hr.2,rfl,rfl,rfl,rfl⟩
     ·cases ha
    ·unfold rS at ha;split at ha
     ·rename_i hr;simp only[Zah]at ha;subst ha;exact .inr (.inl ⟨i,m,h1,hr,rfl,rfl,rfl,rfl⟩)
     ·cases ha
   ·obtain⟨hr,rfl⟩:=zC ha;exact .inr (.inr (.inl ⟨i,hr,rfl,rfl,rfl,rfl⟩))
  ·obtain⟨i,_,hi,ha⟩:=dx ha;unfold iI at ha;obtain⟨m,h1,h2,ha⟩:=dx ha;unfold iM at ha;obtain⟨k,_,hk,ha⟩:=dx ha;unfold iT at ha;simp only[Zah]at ha;subst ha;exact .inr (.inr (.inr ⟨i,m,k,h1,by omega,hk,rfl,rfl,rfl,rfl⟩))
 ·unfold jZ wB;rintro(⟨i,m,k,h1,h2,h3,h4,rfl,rfl,rfl,rfl⟩|⟨i,m,h1,h2,rfl,rfl,rfl,rfl⟩|⟨i,h2,rfl,rfl,rfl,rfl⟩|⟨i,m,k,h1,h2,h3,rfl,rfl,rfl,rfl⟩)
  ·refine⟨⟨2*i,2*m+2,k,jF (fU x i m) (lG x m k),dc (m-i)++[(1,(k:Int))]⟩,Zao.2 (.inl ?_),rfl,rfl,rfl,rfl⟩;refine iD (k:=i) (by omega) (by omega) ?_;unfold rI;refine Zao.2 (.inl (iD (k:=m) h1 (by omega) ?_));unfold rM;refine Zao.2 (.inl (iD (k:=k) (by omega) h3 ?_));unfold rA;rw[if_pos ⟨h2,h4⟩];simp
  ·have:=sv h2;refine⟨⟨2*i,2*m+1,(x.aj.getD (m+1) default).kind,jF (fU x i m) x.swap,dc (m-i)++[(4,0)]⟩,Zao.2 (.inl ?_),rfl,rfl,rfl,rfl⟩;refine iD (k:=i) (by omega) (by omega) ?_;unfold rI;refine Zao.2 (.inl (iD (k:=m) h1 (by omega) ?_));unfold rM;refine Zao.2 (.inr ?_);unfold rS;rw[if_pos h2];simp
  ·have:=sv h2;refine⟨⟨2*i+1,2*i+4,(x.aj.getD i default).kind,0,[]⟩,Zao.2 (.inl ?_),rfl,rfl,rfl,rfl⟩;refine iD (k:=i) (by omega) (by omega) ?_;unfold rI;refine Zao.2 (.inr ?_);unfold rT;rw[if_pos h2];simp
  ·refine⟨⟨2*i,2*m,k,jF (fU x i m) (x.insert.getD k default),dc (m-i)++[(3,(k:Int))]⟩,Zao.2 (.inr ?_),rfl,rfl,rfl,rfl⟩;refine iD (k:=i) (by omega) (by omega) ?_;unfold iI;refine iD (k:=m) h1 (by omega) ?_;unfold iM;refine iD (k:=k) (by omega) h3 ?_;unfold iT;simp
structure OJ(x x':Input)(a b w:Nat):Prop where
 l1:a+w<=x.aj.length
 l2:b+w<=x'.aj.length
 ins:x.insert=x'.insert
 sw:x.swap=x'.swap
 col:∀j,j<w->x.aj.getD (a+j) default=x'.aj.getD (b+j) default
theorem OJ.symm{x x':Input}{a b w:Nat}(h:OJ x x' a b w):OJ x' x b a w:=⟨h.l2,h.l1,h.ins.symm,h.sw.symm,λj hj=>(h.col j hj).symm⟩
theorem EX{x x':Input}{a b w:Nat}(h:OJ x x' a b w){p q:Nat}(hq:q<=w):fU x (a+p) (a+q)=fU x' (b+p) (b+q):=by
 unfold fU
 congr 1
 apply Zbk;intro j;simp only[Zbb,ZaF];have h1:=h.l1;have h2:=h.l2;by_cases hj:p+j<q
 ·rw[if_pos (by omega),if_pos (by omega)];have:=h.col (p+j) (by omega);rw[Zan (by omega),Zan (by omega)];have e1:x.aj.getD (a+(p+j)) default=x.aj[a+p+j]'(by omega):=by simp[List.getD,show a+(p+j)=a+p+j by omega,show a+p+j<x.aj.length by omega]
  have e2:x'.aj.getD (b+(p+j)) default=x'.aj[b+p+j]'(by omega):=by simp[List.getD,show b+(p+j)=b+p+j by omega,show b+p+j<x'.aj.length by omega]
  rw[<-e1,<-e2,this]
 ·rw[if_neg (by omega),if_neg (by omega)]
def reach(x x':Input)(a b w:Nat)(T:Int):Prop:=(T % 2=1/\(T-1)/2+2<=a+w)\/(T % 2=0/\T/2<=a+w)\/(a+w=x.aj.length/\b+w=x'.aj.length)
theorem HX{x x':Input}{a b w:Nat}(h:OJ x x' a b w){q:Nat}(hr:q+2<=w\/(a+w=x.aj.length/\b+w=x'.aj.length))(hs:bX x (a+q)=true):
  bX x' (b+q)=true/\(x.aj.getD (a+q) default).kind=(x'.aj.getD (b+q) default).kind/\(x.aj.getD (a+q+1) default).kind=(x'.aj.getD (b+q+1) default).kind:=by
 have cW:=sv hs;have hw:q+2<=w:=by
  rcases hr with hr|hr
  ·exact hr
  ·omega
 have c1:=h.col q (by omega);have c2:=h.col (q+1) (by omega);rw[<-Nat.add_assoc,<-Nat.add_assoc]at c2;unfold bX at hs⊢;have hs:=of_decide_eq_true hs;rw[c1,c2,h.sw]at hs;have h2:=h.l2;exact⟨decide_eq_true ⟨by omega,hs.2.1,hs.2.2.1,hs.2.2.2⟩,by rw[c1],by rw[c2]⟩
theorem HY{x x':Input}{a b w:Nat}(h:OJ x x' a b w){T:Int}(hT:T<=2*(a+w:Nat))(hr:reach x x' a b w T){f t e c:Int}(hf:2*(a:Int)<=f)(ht:t<=T)(hb:T % 2=0->t≠T-1)(hc:Cand x f t e c):
  Cand x' (f+2*b-2*a) (t+2*b-2*a) e c:=by
 have h1:=h.l1;have h2:=h.l2;have sw:∀q:Nat,2*(q:Int)+1<=T-2*a->(T % 2=0->2*(q:Int)+1≠T-2*a-1)->q+2<=w\/(a+w=x.aj.length/\b+w=x'.aj.length):=by
  intro q k1 k2;unfold reach at hr;rcases hr with hr|hr|hr
  ·left;omega
  ·left;have:=k2 hr.1;omega
  ·exact .inr hr
 rcases hc with⟨i,m,k,q1,q2,q3,q4,rfl,rfl,rfl,rfl⟩|⟨i,m,q1,q2,rfl,rfl,rfl,rfl⟩|⟨i,q2,rfl,rfl,rfl,rfl⟩|⟨i,m,k,q1,q2,q3,rfl,rfl,rfl,rfl⟩
 ·obtain⟨p,rfl⟩:∃p,i=a+p:=⟨i-a,by omega⟩;obtain⟨q,rfl⟩:∃q,m=a+q:=⟨m-a,by omega⟩;have hc:=h.col q (by omega);have hre:lG x (a+q) k=lG x' (b+q) k:=by unfold lG;rw[hc]
  exact .inl ⟨b+p,b+q,k,by omega,by omega,by rw[<-h.ins];exact q3,by rw[<-hre];exact q4,by omega,by omega,rfl,by rw[EX h (by omega),hre]⟩
 ·obtain⟨p,rfl⟩:∃p,i=a+p:=⟨i-a,by omega⟩;obtain⟨q,rfl⟩:∃q,m=a+q:=⟨m-a,by omega⟩;have hs:=HX h (sw q (by omega) (λe=>by have:=hb e;omega)) q2;have:=sv q2;exact .inr (.inl ⟨b+p,b+q,by omega,hs.1,by omega,by omega,hs.2.2,by rw[EX h (by omega),h.sw]⟩)
 ·obtain⟨q,rfl⟩:∃q,i=a+q:=⟨i-a,by omega⟩;have hs:=HX h (q:=q) (.inl (by omega)) q2;exact .inr (.inr (.inl ⟨b+q,hs.1,by omega,by omega,hs.2.1,rfl⟩))
 ·obtain⟨p,rfl⟩:∃p,i=a+p:=⟨i-a,by omega⟩;obtain⟨q,rfl⟩:∃q,m=a+q:=⟨m-a,by omega⟩;exact .inr (.inr (.inr ⟨b+p,b+q,k,by omega,by omega,by rw[<-h.ins];exact q3,by omega,by omega,rfl,by rw[EX h (by omega),h.ins]⟩))
theorem reach.symm{x x':Input}{a b w:Nat}{T:Int}(h:reach x x' a b w T):reach x' x b a w (T+2*b-2*a):=by
 unfold reach at h⊢;rcases h with h|h|h
 ·left;omega
 ·right;left;omega
 ·right;right;exact⟨h.2,h.1⟩
theorem Xq{x x':Input}{a b w:Nat}(h:OJ x x' a b w){T:Int}(hT:T<=2*(a+w:Nat))(hr:reach x x' a b w T){f t e c:Int}(hf:2*(a:Int)<=f)(ht:t<=T)(hb:T % 2=0->t≠T-1):
  jZ (dP x) f t e c↔jZ (dP x') (f+2*b-2*a) (t+2*b-2*a) e c:=by
 have key:∀{c:Int},jZ (wB x) f t e c↔jZ (wB x') (f+2*b-2*a) (t+2*b-2*a) e c:=by
  intro c;rw[vJ,vJ];refine⟨HY h hT hr hf ht hb,λhc=>?_⟩;have:=HY h.symm (T:=T+2*b-2*a) (by omega) hr.symm (f:=f+2*b-2*a) (t:=t+2*b-2*a) (by omega) (by omega) (by omega) hc;rw[show f+2*b-2*a+2*a-2*b=f by omega,show t+2*b-2*a+2*a-2*b=t by omega]at this;exact this
 rw[pG,pG,key];constructor
 ·rintro⟨h1,h2,h3⟩;exact⟨h1,h2,λc' zX=>h3 c' (key.2 zX)⟩
 ·rintro⟨h1,h2,h3⟩;exact⟨h1,h2,λc' zX=>h3 c' (key.1 zX)⟩
theorem Xr{x:Input}{f t e c:Int}(h:jZ (dP x) f t e c)(ho:f % 2=1):t=f+3:=by
 have:=(vJ x f t e c).1 ((pG x f t e c).1 h).1;rcases this with⟨i,m,k,_,_,_,_,rfl,_⟩|⟨i,m,_,_,rfl,_⟩|⟨i,_,rfl,rfl,_⟩|⟨i,m,k,_,_,_,rfl,_⟩<;>omega
structure Sim(l l':aL)(s t s':Nat):Prop where
 aC:∀f to e c:Int,s<=f->to<=t->((t:Int) % 2=0->to≠t-1)->(jZ l.aC f to e c↔jZ l'.aC (f-s+s') (to-s+s') e c)
 gap:(t:Int) % 2=0->∀to e c:Int,jZ l.aC (t-1) to e c->t<to
theorem no_der{n:aG}{l:aL}{h:Int}{p q k:Nat}{g:Int}{v:br}(d:eN n l h p q k g v)(ha:∀a∈l.aC,a.f<=a.t):(∀to e c:Int,jZ l.aC p to e c->q<to)->p=q:=by
 induction d with
 |empty _ _ _=>intro _;rfl
 | @term s t k a r x hk h1 hx h2 h3 h4 hv=>
  intro ux;have:=ux x.t x.term x.cost ⟨x,Zaq hx,h2,rfl,rfl,rfl⟩;omega
 |unary _ _ _ _ ih=>exact ih
 | @binary s m t k k1 k2 g1 g2 r v w hk h1 hs ht d1 d2 hv ih1 N8=>
  intro ux;have e:s=m:=ih1 λto e c h=>by have:=ux to e c h;omega
  subst e;exact N8 ux
theorem M6{n:aG}{l l':aL}{s t s':Nat}(S:Sim l l' s t s')(ha:∀a∈l.aC,a.f<=a.t){h:Int}{p q k:Nat}{g:Int}{v:br}(d:eN n l h p q k g v):
  s<=p->q<=t->((t:Int) % 2=0->(q:Int)≠t-1)->∃g',eN n l' h (p-s+s') (q-s+s') k g' v/\((∀r,n.rules[k]? =some r->r.kind≠2)->g'=g-s+s'):=by
 induction d with
 | @empty s0 k r hk h1 hv=>
  intro a1 a2 a3;exact⟨_,eN.empty hk h1 hv,λ_=>by omega⟩
 | @term s0 t0 k a r x hk h1 hx h2 h3 h4 hv=>
  intro a1 a2 a3;obtain⟨x',hm,e1,e2,e3,e4⟩:=(S.aC x.f x.t x.term x.cost (by omega) (by omega) (by rw[h3];exact a3)).1 ⟨x,Zaq hx,rfl,rfl,rfl,rfl⟩;obtain⟨a',ha'⟩:=List.mem_iff_getElem?.1 hm;have hle:=ha x (Zaq hx);refine⟨(a':Int), ?_,λbG=>absurd h1 (bG r hk)⟩;have:=eN.term (n:=n) (l:=l') (s:=s0-s+s') (t:=t0-s+s') hk h1 ha' (by omega) (by omega) (by rw[e3];exact h4) (by rw[e4];exact hv);rw[e4]at this;exact this
 | @unary s0 t0 k k1 g1 r v hk h1 d hv ih=>
  intro a1 a2 a3;obtain⟨g',d',_⟩:=ih a1 a2 a3;exact⟨_,eN.unary hk h1 d' hv,λ_=>by omega⟩
 | @binary s0 m t0 k k1 k2 g1 g2 r v w hk h1 hs ht d1 d2 hv ih1 N8=>
  intro a1 a2 a3;have hm:(t:Int) % 2=0->(m:Int)≠t-1:=by
   intro e1 e2;have e3:t0=t:=by have:=a3 e1;omega
   have:=no_der d2 ha λto e c hx=>by
    rw[e2]at hx;have:=S.gap e1 to e c hx;omega
   omega
  obtain⟨g1',d1',_⟩:=ih1 a1 (by omega) hm;obtain⟨g2',d2',_⟩:=N8 (by omega) a2 a3;exact⟨_,eN.binary hk h1 (by omega) (by omega) d1' d2' hv,λ_=>by omega⟩
theorem TG{n:aG}{l l':aL}{s t s' t':Nat}(lE:s<=t)(et:t'=t-s+s')(S:Sim l l' s t s')(S':Sim l' l s' t' s)(ha:∀a∈l.aC,a.f<=a.t)(ha':∀a∈l'.aC,a.f<=a.t){h:Int}{x y:Cell}
  (hx:Good n l h s t x) (hy:Good n l' h s' t' y):x.val=y.val/\x.eu=y.eu/\(∀(k:Nat) r,n.rules[k]? =some r->x.eu=k->r.kind≠2->y.arg=x.arg-s+s'):=by
 have fwd:∀{k:Nat} {g:Int} {v:br},eN n l h s t k g v->∃g',eN n l' h s' t' k g' v/\((∀r,n.rules[k]? =some r->r.kind≠2)->g'=g-s+s'):=by
  intro k g v d;have:=M6 S ha d (Zae _) (Zae _) (by omega);rw[show s-s+s'=s' by omega,<-et]at this;exact this
 have bwd:∀{k:Nat} {g:Int} {v:br},eN n l' h s' t' k g v->∃g',eN n l h s t k g' v/\((∀r,n.rules[k]? =some r->r.kind≠2)->g'=g-s'+s):=by
  intro k g v d;have:=M6 S' ha' d (Zae _) (Zae _) (by omega);rw[show s'-s'+s=s by omega,show t'-s'+s=t by omega]at this;exact this
 have ada:∀{v:br},v.cost<1099511627776->v.lt eY.val:=λh=>.inl h;rcases hx.top with ex|⟨⟨k,ek,d⟩,Em⟩
 ·rcases hy.top with ey|⟨⟨k',_,d'⟩,_⟩
  ·subst ex ey;refine⟨rfl,rfl,λk r _ h _=>?_⟩;simp only[eY]at h;omega
  ·obtain⟨g',d2,_⟩:=bwd d';subst ex;exact absurd (ada d2.fin) (hx.least _ ⟨_,_,d2⟩)
 ·obtain⟨g',d2,hg⟩:=fwd d;rcases hy.top with ey|⟨⟨k',ek',d'⟩,hmin'⟩
  ·subst ey;exact absurd (ada d2.fin) (hy.least _ ⟨_,_,d2⟩)
  ·obtain⟨g2',d2',hg'⟩:=bwd d';have hv:x.val=y.val:=br.antisymm (hy.least _ ⟨_,_,d2⟩) (hx.least _ ⟨_,_,d2'⟩);have m1:=Em k' g2' (by rw[hv];exact d2');have m2:=hmin' k g' (by rw[<-hv];exact d2);unfold vC at m1 m2;have er:x.eu=y.eu:=by omega
   refine⟨hv,er,λk0 r wo e0 bG=>?_⟩;have ekk:k=k0:=by omega
   have ekk':k'=k0:=by omega
   subst ekk ekk';have h1:=hg λr' fa=>by rw[wo]at fa;cases fa;exact bG
   have h2:=hg' λr' fa=>by rw[wo]at fa;cases fa;exact bG
   omega
theorem M7{x x':Input}{a b w:Nat}(h:OJ x x' a b w){s t:Nat}(hs:2*a<=s)(hT:t<=2*(a+w))(hr:reach x x' a b w t):Sim (aH x) (aH x') s t (s+2*b-2*a):=by
 refine⟨λf to e c h1 h2 h3=>?_,λhe to e c hx=>?_⟩
 ·have:=Xq h (T:=t) (by omega) hr (f:=f) (t:=to) (e:=e) (c:=c) (by omega) h2 h3;rw[show f-(s:Int)+((s+2*b-2*a:Nat):Int)=f+2*b-2*a by omega,show to-(s:Int)+((s+2*b-2*a:Nat):Int)=to+2*b-2*a by omega];exact this
 ·have:=Xr hx (by omega);omega
theorem nR{x:Input}(h:jW x):∀a∈(aH x).aC,a.f<=a.t:=by
 intro a ha;have:=(vJ x a.f a.t a.term a.cost).1 ((pG x _ _ _ _).1 ⟨a,ha,rfl,rfl,rfl,rfl⟩).1;rcases this with⟨i,m,k,_,_,_,_,h1,h2,_⟩|⟨i,m,_,_,h1,h2,_⟩|⟨i,_,h1,h2,_⟩|⟨i,m,k,_,_,_,h1,h2,_⟩<;>omega
theorem De{n:aG}{x x':Input}{a b w:Nat}(hn:oJ n)(hx:jW x)(fX:jW x')(h:OJ x x' a b w){hd:Int}{s t:Nat}(h0:0<=hd)(h1:hd<n.an)(lE:s<=t)(hs:2*a<=s)(hT:t<=2*(a+w))(hr:reach x x' a b w t):
  ∃k,k=t+2*b-2*a/\(lF (cz n (aH x)) hd s t).val=(lF (cz n (aH x')) hd (s+2*b-2*a:Nat) k).val/\(lF (cz n (aH x)) hd s t).eu=(lF (cz n (aH x')) hd (s+2*b-2*a:Nat) k).eu/\
   (∀(k0:Nat) r,n.rules[k0]? =some r->(lF (cz n (aH x)) hd s t).eu=k0->r.kind≠2->(lF (cz n (aH x')) hd (s+2*b-2*a:Nat) k).arg=(lF (cz n (aH x)) hd s t).arg+2*b-2*a):=by
 obtain⟨t',ht'⟩:∃t',t+2*b-2*a=t':=⟨_,rfl⟩;have l1:=h.l1;have l2:=h.l2;have S:=M7 h hs hT hr;have S':=M7 h.symm (s:=s+2*b-2*a) (t:=t') (by omega) (by omega) (by have:=reach.symm hr;rw[show((t:Int)+2*b-2*a)=(t':Int)by omega]at this;exact this);rw[show s+2*b-2*a+2*a-2*b=s by omega]at S';have J5:(aH x).aN=2*x.aj.length+1:=rfl;have NU:(aH x').aN=2*x'.aj.length+1:=rfl;have g1:=kM hn (nu hx) (nR hx) h0 h1 lE (by omega);have g2:=kM hn (nu fX) (nR fX) h0 h1 (s:=s+2*b-2*a) (t:=t') (by omega) (by omega);obtain⟨r1,r2,r3⟩:=TG lE (by omega) S S' (nR hx) (nR fX) g1 g2;refine⟨t',ht'.symm,r1,r2,λk0 r hk he bG=>?_⟩;have:=r3 k0 r hk he bG;omega
theorem H0{α:Type}{d:α}{a b:List α}{i:Nat}:(a++b).getD i d=if i<a.length then a.getD i d else b.getD (i-a.length) d:=by
 simp only[List.getD,Zb8];split<;>rfl
theorem xq{x:Input}{fr od:Nat}{new:List bC}(h1:fr<=x.aj.length)(h2:od<=x.aj.length-fr):(cw x fr od new).aj.length=x.aj.length-od+new.length:=by
 simp only[cw,ZaA,Zaw,Za8];omega
theorem KL{x:Input}{fr od:Nat}{new:List bC}(h1:fr<=x.aj.length)(h2:od<=x.aj.length-fr):OJ x (cw x fr od new) 0 0 fr:=by
 refine⟨by omega,by rw[xq h1 h2];omega,rfl,rfl,λj hj=>?_⟩;simp only[cw,ZaX];rw[List.append_assoc,H0,if_pos (by rw[Zaw];omega)];simp only[List.getD,ZaF];rw[if_pos hj]
theorem H2{x:Input}{fr od:Nat}{new:List bC}(h1:fr<=x.aj.length)(h2:od<=x.aj.length-fr):OJ x (cw x fr od new) (fr+od) (fr+new.length) (x.aj.length-(fr+od)):=by
 refine⟨by omega,by rw[xq h1 h2];omega,rfl,rfl,λj hj=>?_⟩;simp only[cw];rw[H0,if_neg (by rw[ZaA,Zaw];omega)];simp only[List.getD,Zbb,ZaA,Zaw];rw[show fr+od+(fr+new.length+j-(min fr x.aj.length+new.length))=fr+od+j by omega]
theorem OM{z:Ask}(h:Cj z):oJ z.n/\jW z.x/\jW (nQ z)/\Xo z/\(z.x.aj.length:Int)<=4/\(z.new.length:Int)<=3:=by
 obtain⟨h1,h2,_⟩:=h;have h3:z.n.aV<=5:=by omega
 have h4:eM z.n:=Classical.not_not.1 λc=>h1 (.inr (.inr (.inr (.inl c))));have h5:C7 z.x z.n.aV:=Classical.not_not.1 λc=>h1 (.inr (.inr (.inr (.inr (.inr (.inr (.inl c)))))));exact⟨h4.ok,Tx h5 h3,Tx h2 h3,⟨by omega,by omega,by omega,by omega,by omega,by omega⟩,by omega,by omega⟩
abbrev s9:DM.Spec:=ct (λts=>∃nt nn ns rules cK ins sw fr od new,ts=[.agg [ti nt,ti nn,ti ns,.sl (aS rules),.sl (aZ cK),.sl (aB ins),ti sw,ti fr,ti od,.sl (aZ new)]]/\rules.length<=9223372036854775807/\ins.length<=9223372036854775807)
 (fun|[.agg [.int _ nt,.int _ nn,.int _ ns,.sl r,.sl c,.sl i,.int _ s,.int _ fr,.int _ od,.sl nw]]=>.bool (decide (Cj ⟨⟨nt,nn,ns,vx r⟩,⟨fH c,fo i,s⟩,fr,od,fH nw⟩))|_=>.bool false) true
abbrev s10:DM.Spec:=ct (λts=>ts=[]) (λ_=>.bool true) true
abbrev s15:DM.Spec:=ct (λts=>∃nt nn ns rules cK ins sw fr od new,ts=[.agg [ti nt,ti nn,ti ns,.sl (aS rules),.sl (aZ cK),.sl (aB ins),ti sw,ti fr,ti od,.sl (aZ new)]])
 (fun|[.agg [_,_,_,_,_,_,_,.int _ fr,.int _ od,.sl nw]]=>.agg [ti fr,ti od,ti nw.length]|_=>.bool false) true
theorem ok9{l:List (Nat×DM.Spec)}(h:aw Tryz.prog (aW l)):aw Tryz.prog (aW ((9,s9)::(10,s10)::(15,s15)::l)):=by
 refine aw.cons (aw.cons (aw.cons h ?_) ?_) ?_
 ·rintro ts ⟨nt,nn,ns,rules,cK,ins,sw,fr,od,new,rfl⟩;exact⟨by simpa [Ask.enc]using t15 ⟨⟨nt,nn,ns,rules⟩,⟨cK,ins,sw⟩,fr,od,new⟩,λ_=>rfl⟩
 ·rintro ts rfl;exact⟨t10,λ_=>rfl⟩
 ·rintro ts ⟨nt,nn,ns,rules,cK,ins,sw,fr,od,new,rfl,h1,h2⟩;exact⟨by simpa [Ask.enc]using t9 ⟨⟨nt,nn,ns,rules⟩,⟨cK,ins,sw⟩,fr,od,new⟩ ⟨h1,h2⟩,λ_=>rfl⟩
theorem TI{l:List (Nat×DM.Spec)}(h:aw Tryz.prog (aW l)):aw Tryz.prog (aW ((12,s12)::(11,s11)::(19,s19)::l)):=by
 refine aw.cons (aw.cons (aw.cons h ?_) ?_) ?_
 ·rintro ts ⟨cn,cs,cl,h,f,t,rfl,h1⟩;exact⟨by simpa [bV.enc,Cell.enc]using t19 ⟨cn,cs,cl⟩ h f t h1,λ_=>rfl⟩
 ·rintro ts ⟨nt,nn,ns,rules,ls,aC,fin,rfl,h1,h2⟩;exact⟨by simpa [aG.enc,aL.enc,bV.enc,cz]using t11 ⟨nt,nn,ns,rules⟩ ⟨ls,aC,fin⟩ h1 h2,λh=>by cases h⟩
 ·rintro ts ⟨a,b,c,rfl,h1,h2,h3,h4⟩;exact⟨by simpa [Input.enc,aL.enc]using _root_.Go.Proofs.t14 ⟨a,b,c⟩ h1 h2 h3 h4,λh=>by cases h⟩
end cu
end Go.Proofs
namespace Go.Proofs
namespace cu
open Go.DM Go.ChangeShapes Go.Deep
def TJ:Ty:=.seq [.int .i64,.int .i64,.int .i64,.int .i64,.int .i64,.int .i64]
def TK:Ty:=.seq [.int .i64,.int .i64,.int .i64,.slice TJ]
def TL:Ty:=.seq [TK,Xt,.int .i64,.int .i64,.slice TM]
theorem Xu{ts:List T}(h:TJ.has ts):∃r:bD,ts=r.enc:=by
 obtain⟨_,_,rfl,h1,h⟩:=all_cons (EY h);obtain⟨_,_,rfl,h2,h⟩:=all_cons h;obtain⟨_,_,rfl,h3,h⟩:=all_cons h;obtain⟨_,_,rfl,h4,h⟩:=all_cons h;obtain⟨_,_,rfl,h5,h⟩:=all_cons h;obtain⟨_,_,rfl,h6,h⟩:=all_cons h;obtain rfl:=all_nil h;obtain⟨a,rfl⟩:=iU h1;obtain⟨b,rfl⟩:=iU h2;obtain⟨c,rfl⟩:=iU h3;obtain⟨d,rfl⟩:=iU h4;obtain⟨e,rfl⟩:=iU h5;obtain⟨f,rfl⟩:=iU h6;exact⟨⟨a,b,c,d,e,f⟩,rfl⟩
theorem ask_of{x:T}(h:TL.arg x):∃z:Ask,x=z.enc/\z.n.rules.length<=9223372036854775807/\z.x.insert.length<=9223372036854775807:=by
 unfold TL Ty.arg at h;obtain⟨ts,rfl,h⟩:=h;obtain⟨_,_,rfl,h1,h⟩:=all_cons h;obtain⟨_,_,rfl,h2,h⟩:=all_cons h;obtain⟨_,_,rfl,h3,h⟩:=all_cons h;obtain⟨_,_,rfl,h4,h⟩:=all_cons h;obtain⟨_,_,rfl,h5,h⟩:=all_cons h;obtain rfl:=all_nil h;obtain⟨_,_,rfl,n1,h1⟩:=all_cons (EY h1);obtain⟨_,_,rfl,n2,h1⟩:=all_cons h1;obtain⟨_,_,rfl,n3,h1⟩:=all_cons h1;obtain⟨_,_,rfl,n4,h1⟩:=all_cons h1;obtain rfl:=all_nil h1;obtain⟨_,_,rfl,x1,h2⟩:=all_cons (EY h2);obtain⟨_,_,rfl,x2,h2⟩:=all_cons h2;obtain⟨_,_,rfl,x3,h2⟩:=all_cons h2;obtain rfl:=all_nil h2;obtain⟨nt,rfl⟩:=iU n1;obtain⟨nn,rfl⟩:=iU n2;obtain⟨ns,rfl⟩:=iU n3;obtain⟨rules,rfl,hr⟩:=rH (λr=>Xu) n4;obtain⟨cK,rfl,hc⟩:=rH (λr=>TN) x1;obtain⟨ins,rfl,hi⟩:=rH (λr=>iU) x2;obtain⟨sw,rfl⟩:=iU x3;obtain⟨fr,rfl⟩:=iU h3;obtain⟨od,rfl⟩:=iU h4;obtain⟨new,rfl,hn⟩:=rH (λr=>TN) h5;exact⟨⟨⟨nt,nn,ns,rules⟩,⟨cK,ins,sw⟩,fr,od,new⟩,rfl,hr,hi⟩
abbrev M8:List (String×DataW Unit):=[("emendate/chart.none",.agg [.agg [.lit (.int .i64 1099511627776),.lit (.int .i64 0)],.lit (.int .i64 (-1)),.lit (.int .i64 0)])]
theorem gNone:Tryz.prog.globalNamed "emendate/chart.none" =some 0:=by kernel_rfl
theorem tNone:(Tryz.prog.globals[0]?).map (·.type)=some 57:=by kernel_rfl
theorem uCell:Tryz.prog.underlying 57=some (.struct #[⟨"Value",55,0,false, "", "",0⟩,⟨"Rule",3,2,false, "", "",16⟩,⟨"Arg",3,3,false, "", "",24⟩]):=by kernel_rfl
theorem uVal:Tryz.prog.underlying 55=some (.struct #[⟨"Cost",3,0,false, "", "",0⟩,⟨"Size",3,1,false, "", "",8⟩]):=by kernel_rfl
theorem Xv:Tryz.prog.underlying 3=some (.int .i64):=by kernel_rfl
theorem Xw:Tryz.prog.cellsOf 57=4:=by kernel_rfl
theorem Xx:Tryz.prog.cellsOf 55=2:=by kernel_rfl
theorem cells3:Tryz.prog.cellsOf 3=1:=by kernel_rfl
theorem cs4{cs:List Value}(h:cs.length=4):∃a b c d,cs=[a,b,c,d]:=by
 match cs,h with
 |[a,b,c,d],_=>exact⟨a,b,c,d,rfl⟩
theorem Xy{W:World}(h:laidMet Tryz.prog M8 W):W.cell? ⟨0,0,none⟩=some (.int .i64 1099511627776)/\W.cell? ⟨0,1,none⟩=some (.int .i64 0)/\W.cell? ⟨0,2,none⟩=some (.int .i64 (-1))/\W.cell? ⟨0,3,none⟩=some (.int .i64 0):=by
 obtain⟨ps,⟨g,t,cs,fuel,p,q,hg,ht,hv,hd,_,_⟩,_⟩:=h;obtain rfl:=ZbK (gNone.symm.trans hg);obtain rfl:=ZbK (tNone.symm.trans ht);obtain⟨y0,y1,y2,n,ex,hl,e0,e1,e2⟩:=trod_struct3 uCell hd;rw[Xw]at hl;obtain⟨v0,v1,v2,v3,mA⟩:=cs4 hl;rw[mA]at e0 e1 e2;obtain⟨z0,z1,m,ey,qc,f0,f1⟩:=trod_struct2 uVal e0;simp only[Xx,cells3,List.drop_zero,ZbY,List.take_zero,List.drop_succ_cons]at e1 e2 f0 f1;obtain⟨i1,r1,rfl,_⟩:=DataW.trod_int Xv e1;obtain⟨i2,r2,rfl,_⟩:=DataW.trod_int Xv e2;obtain⟨i3,r3,rfl,_⟩:=DataW.trod_int Xv f0;obtain⟨i4,r4,rfl,_⟩:=DataW.trod_int Xv f1;subst ey;have ex:=(congrArg Prod.fst ex).symm;simp only[DataW.agg.injEq,Za5,DataW.lit.injEq,Lit.int.injEq,and_true,true_and,Za5]at ex r1 r2 r3 r4;obtain⟨⟨rfl,rfl⟩,rfl,rfl⟩:=ex;subst r1 r2 r3 r4;have hc:cs= #[.int .i64 1099511627776,.int .i64 0,.int .i64 (-1),.int .i64 0]:=by
  apply Array.toList_inj.1;rw[mA]
 subst hc;exact⟨World.var?_cell hg hv 0,World.var?_cell hg hv 1,World.var?_cell hg hv 2,World.var?_cell hg hv 3⟩
theorem laidOk{W:World}(h:laidMet Tryz.prog M8 W):zH W λ_=>False:=by
 obtain⟨h0,h1,h2,h3⟩:=Xy h;intro p hp;obtain rfl:p=_:=Zah.1 hp;refine⟨(Mu h0).1,λx=>x, ?_⟩;simp only[cV,aR,and_true,ZaX,Nat.reduceAdd];exact⟨⟨_,h0,rfl,rfl⟩,⟨_,h1,rfl,rfl⟩,⟨_,h2,rfl,rfl⟩,⟨_,h3,rfl,rfl⟩⟩
structure tp where
 (x h t:Int)
 deriving DecidableEq,Inhabited
def tp.enc(e:tp):List T:=[ti e.x,ti e.h,ti e.t]
def fS(l:List tp):List (List T):=l.map tp.enc
def Lj:List T->tp
 |[a,b,c]=>⟨cX a,cX b,cX c⟩
 |_=>default
@[simp] theorem Lk(e:tp):Lj e.enc=e:=by simp[Lj,tp.enc,cX]
@[simp] theorem Dn{a b:List tp}:fS a=fS b↔a=b:=⟨λh=>by
 have:=congrArg (List.map Lj) h;simpa [fS,fA Lk]using this,λh=>by rw[h]⟩
@[simp] theorem entsT_len(l:List tp):(fS l).length=l.length:=by simp[fS]
theorem gm{l:List tp}{y:Nat}(h:y<l.length):DM.rowAt (fS l) y=(l.getD y default).enc:=by simp[DM.rowAt,fS,h]
theorem sF(l:List tp)(i:Nat)(e:tp):fS (l.set i e)=(fS l).set i e.enc:=by simp[fS,ZbJ]
theorem Fm(a b:List tp):fS (a++b)=fS a++fS b:=by simp[fS]
theorem Ll(a:List tp)(n:Nat):(fS a).take n=fS (a.take n):=by simp[fS,List.map_take]
abbrev Pl:=List (Nat×Int×Int)
def wx(l:Pl):List (Nat×T×DV):=l.map λe=>(e.1,ti e.2.1,.v (ti e.2.2))
@[simp] theorem Nh{a b:Pl}:wx a=wx b↔a=b:=⟨λh=>by
 unfold wx at h;refine List.map_inj_right (f:=λe:Nat×Int×Int=>(e.1,ti e.2.1,DV.v (ti e.2.2))) ?_|>.1 h
 rintro⟨a,b,c⟩ ⟨a',b',c'⟩ h;simpa using h,λh=>by rw[h]⟩
def sG(l:Pl)(k:Int):Option Nat:=l.findIdx? λe=>e.2.1==k
def jD(l:Pl)(k:Int):Option Int:=(l.find? λe=>e.2.1==k).map (·.2.2)
def eA(l:Pl)(c:Nat)(k v:Int):Pl:=match sG l k with
 |some i=>l.modify i λe=>(e.1,e.2.1,v)
 |none=>l++[(c,k,v)]
def Bu(l:Pl)(c:Nat)(k:Int):Nat:=match sG l k with
 |some _=>c
 |none=>c+1
def nB(l:Pl)(k:Int):Pl:=match sG l k with
 |some i=>l.eraseIdx i
 |none=>l
theorem Ni(a b:Int):eZ (ti a) (ti b)=(b==a):=by
 simp only[eZ];by_cases h:a=b
 ·simp[h]
 ·have:¬b=a:=λe=>h e.symm;simp[h,this]
theorem vQ(l:Pl)(k:Int):(wx l).findIdx? (λe=>eZ (ti k) e.2.1)=sG l k:=by
 unfold wx sG;rw[List.findIdx?_map]
 congr 1
 funext e;simp only[Function.comp,Ni]
theorem Ip(l:Pl)(k:Int):oq (ti k) (wx l)=(l.find? λe=>e.2.1==k).map λe=>(e.1,ti e.2.1,.v (ti e.2.2)):=by
 unfold oq wx;rw[List.find?_map]
 congr 2
 funext e;simp only[Function.comp,Ni]
theorem jE{α β:Type}{f:α->β}{g:α->α}{g':β->β}(h:∀a,g' (f a)=f (g a)):∀(l:List α) (i:Nat),(l.map f).modify i g'=(l.modify i g).map f
 |[],i=>by cases i<;>simp
 |a::l,0=>by simp[h]
 |a::l,i+1=>by simp[jE h l i]
theorem nT{α β:Type}{f:α->β}:∀(l:List α) (i:Nat),(l.map f).eraseIdx i=(l.eraseIdx i).map f
 |[],i=>by simp
 |a::l,0=>by simp
 |a::l,i+1=>by simp[nT l i]
theorem Vd(l:Pl)(c:Nat)(k v:Int):DX (ti k) (.v (ti v)) c (wx l)=wx (eA l c k v):=by
 unfold DX eA;rw[vQ];cases sG l k with
 |none=>simp[wx]
 |some i=>exact jE (f:=λe:Nat×Int×Int=>(e.1,ti e.2.1,DV.v (ti e.2.2))) (g:=λe=>(e.1,e.2.1,v)) (g':=λe=>(e.1,e.2.1,DV.v (ti v))) (λ_=>rfl) l i
theorem Lm(l:Pl)(c:Nat)(k:Int):mw (ti k) c (wx l)=Bu l c k:=by
 unfold mw Bu;rw[vQ];cases sG l k<;>rfl
theorem Ve(l:Pl)(k:Int):WH (ti k) (wx l)=wx (nB l k):=by
 unfold WH nB;rw[vQ];cases sG l k with
 |none=>rfl
 |some i=>exact nT l i
def qj(l:Pl):Prop:=(l.map (·.1)).Nodup
theorem vR{α:Type}{p:α->Bool}:∀{l:List α} {i:Nat},l.findIdx? p=some i->∃a,l[i]? =some a/\p a=true/\l.find? p=some a
 |[],i,h=>by simp at h
 |a::l,i,h=>by
  rw[Za3]at h;by_cases hp:p a=true
  ·simp only[hp,if_true,Zaa]at h;subst h;exact⟨a,rfl,hp,by simp[hp]⟩
  ·simp only[hp,ZaS,if_false,Zab]at h;obtain⟨j,hj,rfl⟩:=h;obtain⟨b,h1,h2,h3⟩:=vR hj;exact⟨b,by simpa using h1,h2,by simp[hp,h3]⟩
theorem Dp:∀{l:Pl} {i:Nat} {e:Nat×Int×Int},qj l->l[i]? =some e->(wx l).findIdx? (λx=>(x.1:Int)==(e.1:Int))=some i
 |[],i,e,_,h=>by simp at h
 |a::l,0,e,hk,h=>by
  simp only[ZaG,Zaa]at h;subst h;simp[wx,Za3]
 |a::l,i+1,e,hk,h=>by
  simp only[ZaW]at h;simp only[qj,Zau,ZbM]at hk;have bG:¬a.1=e.1:=λq=>hk.1 (q▸Zal.2 ⟨e,Zaq h,rfl⟩);have ih:=Dp (l:=l) hk.2 h;unfold wx at ih⊢;rw[Zau,Za3];have:¬(((a.1:Int)==(e.1:Int))=true):=by simp;omega
  simp only[this,ih];rfl
theorem Iq{l:Pl}{k v:Int}{i:Nat}{e:Nat×Int×Int}(hk:qj l)(hi:sG l k=some i)(he:l[i]? =some e)(c:Nat):WK (e.1:Int) (.v (ti v)) (wx l)=some (wx (eA l c k v)):=by
 unfold WK;rw[Dp hk he];unfold eA;rw[hi];simp only[Za0,Zaa];exact jE (f:=λe:Nat×Int×Int=>(e.1,ti e.2.1,DV.v (ti e.2.2))) (g:=λe=>(e.1,e.2.1,v)) (g':=λe=>(e.1,e.2.1,DV.v (ti v))) (λ_=>rfl) l i
theorem Ir{l:Pl}{c:Nat}{k v:Int}(hk:qj l)(hc:∀e∈l,e.1<c):qj (eA l c k v)/\∀e∈eA l c k v,e.1<Bu l c k:=by
 unfold eA Bu;cases h:sG l k with
 |none=>
  refine⟨?_,λe he=>?_⟩
  ·unfold qj;rw[ZaO,ZbP];refine⟨hk,by simp,λa ha b hb=>?_⟩;obtain⟨e,he,rfl⟩:=Zal.1 ha;simp at hb;have:=hc e he;omega
  ·rcases Zao.1 he with he|he
   ·have:=hc e he;simp only;omega
   ·simp at he;subst he;simp
 |some i=>
  have hm:((l.modify i λe=>(e.1,e.2.1,v)).map (·.1))=l.map (·.1):=by
   have h1:=jE (f:=λe:Nat×Int×Int=>e.1) (g:=λe=>(e.1,e.2.1,v)) (g':=id) (λ_=>rfl) l i;rw[ZcR]at h1;exact h1.symm
  refine⟨by unfold qj;rw[hm];exact hk,λe he=>?_⟩;have:e.1∈l.map (·.1):=by rw[<-hm];exact Zal.2 ⟨e,he,rfl⟩
  obtain⟨e',Ws,h2⟩:=Zal.1 this;have:=hc e' Ws;show e.1<c;omega
end cu
end Go.Proofs
