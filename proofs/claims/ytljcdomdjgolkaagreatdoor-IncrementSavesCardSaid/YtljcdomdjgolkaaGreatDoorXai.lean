/- Part of the proof. Conditions: none. -/
import Derived.Test.YtljcdomdjgolkaaGreatDoorXah
import Derived.Test.YtljcdomdjgolkaaGreatDoorXaf
import Derived.Test.YtljcdomdjgolkaaGreatDoorXag
import Derived.Deep.Strs
import Derived.Lib.LaidTab
set_option linter.unusedSectionVars false
set_option linter.unusedSimpArgs false
set_option linter.unusedVariables false
set_option maxHeartbeats 8000000
set_option maxRecDepth 20000
namespace Go.Proofs
namespace cq
open Go.DM
def kindOk(n:aG)(r:bD):Prop:=
 if r.kind=1 then r.a=0/\r.b=0 else if r.kind=2 then r.a>=0/\r.a<n.aW/\r.b=0 else if r.kind=3 then r.a>=0/\r.a<n.an/\r.b=0
 else if r.kind=4 then r.a>=0/\r.a<n.an/\r.b>=0/\r.b<n.an else False
instance(n:aG)(r:bD):Decidable (kindOk n r):=by unfold kindOk;infer_instance
def lL(n:aG)(r:bD):Prop:=¬(r.head<0\/r.head>=n.an\/r.bE<0\/r.bE>1000\/r.origin< -1)
instance(n:aG)(r:bD):Decidable (lL n r):=by unfold lL;infer_instance
def Ii(n:aG):Prop:=¬(n.aW<0\/n.aW>120\/n.an<1\/n.an>1000\/n.start<0\/n.start>=n.an\/(n.rules.length:Int)>600)
instance(n:aG):Decidable (Ii n):=by unfold Ii;infer_instance
def eP(n:aG):Prop:=Ii n/\∀i,i<n.rules.length->lL n (n.rules.getD i default)/\kindOk n (n.rules.getD i default)
instance(n:aG):Decidable (eP n):=by unfold eP;infer_instance
theorem eP.ok{n:aG}(h:eP n):oX n:=by
 obtain⟨h1,h2⟩:=h;unfold Ii at h1;refine⟨by omega,by omega,by omega,λr hr=>?_⟩;obtain⟨i,hi,rfl⟩:=ZaZ hr;obtain⟨h3,h4⟩:=h2 i hi;rw[show n.rules.getD i default=n.rules[i]by simp[List.getD,hi]]at h3 h4;unfold lL at h3;unfold kindOk at h4;unfold ug;refine⟨by omega,by omega,by omega,by omega, ?_⟩;split at h4
 ·exact .inl (by assumption)
 ·split at h4
  ·exact .inr (.inl ⟨by assumption,by omega,by omega⟩)
  ·split at h4
   ·exact .inr (.inr (.inl ⟨by assumption,by omega,by omega⟩))
   ·split at h4
    ·exact .inr (.inr (.inr ⟨by assumption,by omega,by omega,by omega,by omega⟩))
    ·exact h4.elim
theorem t20(n:aG)(hl:n.rules.length<=9223372036854775807):aU Tryz.prog 20 [n.enc] (.bool (decide (eP n))):=by
 obtain⟨nt,nn,ns,rules⟩:=n;obtain⟨v,hv⟩:∃v,decide (eP ⟨nt,nn,ns,rules⟩)=v:=⟨_,rfl⟩;rw[hv];simp only at hl;have cY:eP ⟨nt,nn,ns,rules⟩↔Ii ⟨nt,nn,ns,rules⟩/\∀i,i<rules.length->lL ⟨nt,nn,ns,rules⟩ (rules.getD i default)/\kindOk ⟨nt,nn,ns,rules⟩ (rules.getD i default):=Iff.rfl;have bad:¬eP ⟨nt,nn,ns,rules⟩->v=false:=λh=>by rw[<-hv];simp[h]
 have ay:=ej;refine c20.ok (by simp) (aK ?_);simp[aG.enc];refine aa.ab ay fw [1] ?_;simp[Z9];refine aa.le (Le.aC (o:=[]) (l:=[(1,.v (.box [ti nt,ti nn,ti ns,.sl (aR rules)]))]) (nxt':=1200) ?_ ?_ ?_ ?_) ?_;iterate 4(·simp)
 refine aa.seq ?_;obtain⟨c1,bb⟩:∃c1:Bool,decide (nt<0\/nt>120\/nn<1\/nn>1000\/ns<0\/ns>=nn\/(rules.length:Int)>600)=c1:=⟨_,rfl⟩;refine aa.bY ay fw [(1,.v (.box [ti nt,ti nn,ti ns,.sl (aR rules)])),(41,.v (.bool c1))] ?_ ?_
 ·by_cases q1:nt<0
  ·have:c1=true:=by rw[<-bb];simp[q1]
   simp[vC,q1,this]
  ·skip
   by_cases q2:nt>120
   ·have:c1=true:=by rw[<-bb];simp[q2]
    simp[vC,q1,q2,this]
   ·skip
    by_cases q3:nn<1
    ·have:c1=true:=by rw[<-bb];simp[q3]
     simp[vC,q1,q2,q3,this]
    ·skip
     by_cases q4:nn>1000
     ·have:c1=true:=by rw[<-bb];simp[q4]
      simp[vC,q1,q2,q3,q4,this]
     ·skip
      by_cases q5:ns<0
      ·have:c1=true:=by rw[<-bb];simp[q5]
       simp[vC,q1,q2,q3,q4,q5,this]
      ·skip
       by_cases q6:ns>=nn
       ·have:c1=true:=by rw[<-bb];simp[q6]
        simp[vC,q1,q2,q3,q4,q5,q6,this]
       ·skip
        by_cases q7:(rules.length:Int)>600
        ·have:c1=true:=by rw[<-bb];simp[q7]
         simp[vC,q1,q2,q3,q4,q5,q6,q7,this]
        ·skip
         have:c1=false:=by rw[<-bb];simp[q1,q2,q3,q4,q5,q6,q7]
         simp[vC,q1,q2,q3,q4,q5,q6,q7,this]
 refine aa.cond rfl (λh1=>?_) (λh1=>?_)
 ·rw[h1]at bb;have bb:=of_decide_eq_true bb;refine aa.ab ay fw [2] ?_;simp[aaa];refine aa.ret ?_;rw[bad λh=>(cY.1 h).1 bb];simp[pE]
 ·rw[h1]at bb;have bb:=of_decide_eq_false bb;refine aa.skip ?_;simp;refine aa.seq ?_;refine aa.ab ay fw [1,3] ?_;simp[aab];refine aa.block ?_;refine aa.loop (λy:Nat=>⟨DM.look [(1,.v (.box [ti nt,ti nn,ti ns,.sl (aR rules)])),(3,.v (ti y))],cC [],2000,1000,[]⟩)
   (λy=>y<=rules.length/\∀i,i<y->lL ⟨nt,nn,ns,rules⟩ (rules.getD i default)/\kindOk ⟨nt,nn,ns,rules⟩ (rules.getD i default)) (λy=>rules.length-y) 0 (Le.aC (o:=[]) ?_ ?_ ?_ ?_) (by simp) (λy hy=>?_)
  iterate 4(·simp)
  obtain⟨jU,fl⟩:=hy;refine aa.seq ?_;refine aa.ab ay fw [1,3,46] ?_;simp[aac];refine aa.cond rfl (λbM=>?_) (λbM=>?_)
  ·have bM:y<rules.length:=by simpa using bM
   refine aa.skip ?_;simp;refine aa.seq ?_;refine aa.block ?_;have rr:=fT bM;obtain⟨⟨rk,rh,ra,rb,rp,rg⟩,hr⟩:∃r,rules.getD y default=r:=⟨_,rfl⟩;rw[hr]at rr;refine aa.ab ay fw [1,3,4] ?_;simp[aad,bM,rr,bD.enc];refine aa.le (Le.aC (o:=[]) (l:=[(1,.v (.box [ti nt,ti nn,ti ns,.sl (aR rules)])),(3,.v (ti y)),(4,.v (.box [ti rk,ti rh,ti ra,ti rb,ti rp,ti rg]))]) (nxt':=2400) ?_ ?_ ?_ ?_) ?_;iterate 4(·simp)
   refine aa.seq ?_;obtain⟨c2,dL⟩:∃c2:Bool,decide (rh<0\/rh>=nn\/rp<0\/rp>1000\/rg< -1)=c2:=⟨_,rfl⟩;refine aa.bY ay fw [(1,.v (.box [ti nt,ti nn,ti ns,.sl (aR rules)])),(3,.v (ti y)),(4,.v (.box [ti rk,ti rh,ti ra,ti rb,ti rp,ti rg])),(78,.v (.bool c2))] ?_ ?_
   ·by_cases q1:rh<0
    ·have:c2=true:=by rw[<-dL];simp[q1]
     simp[A1,q1,this]
    ·skip
     by_cases q2:rh>=nn
     ·have:c2=true:=by rw[<-dL];simp[q2]
      simp[A1,q1,q2,this]
     ·skip
      by_cases q3:rp<0
      ·have:c2=true:=by rw[<-dL];simp[q3]
       simp[A1,q1,q2,q3,this]
      ·skip
       by_cases q4:rp>1000
       ·have:c2=true:=by rw[<-dL];simp[q4]
        simp[A1,q1,q2,q3,q4,this]
       ·skip
        by_cases q5:rg< -1
        ·have:c2=true:=by rw[<-dL];simp[q5]
         simp[A1,q1,q2,q3,q4,q5,this]
        ·skip
         have:c2=false:=by rw[<-dL];simp[q1,q2,q3,q4,q5]
         simp[A1,q1,q2,q3,q4,q5,this]
   refine aa.cond rfl (λh2=>?_) (λh2=>?_)
   ·rw[h2]at dL;have dL:=of_decide_eq_true dL;refine aa.ab ay fw [2] ?_;simp[aae];refine aa.ret ?_;rw[bad λh=>((cY.1 h).2 y bM).1 (by rw[hr];exact dL)];simp[pE]
   ·rw[h2]at dL;have dL:lL ⟨nt,nn,ns,rules⟩ ⟨rk,rh,ra,rb,rp,rg⟩:=of_decide_eq_false dL;refine aa.skip ?_;simp;obtain⟨k1,qk⟩:∃k1:Bool,decide (kindOk ⟨nt,nn,ns,rules⟩ ⟨rk,rh,ra,rb,rp,rg⟩)=k1:=⟨_,rfl⟩;have wB:=qk;have qk:k1=true↔kindOk ⟨nt,nn,ns,rules⟩ ⟨rk,rh,ra,rb,rp,rg⟩:=by rw[<-wB,decide_eq_true_iff]
    simp only[kindOk]at qk;refine aa.ab ay fw [1,3,4,5] ?_;simp[aaf];refine aa.seq ?_;refine aa.ab ay fw [1,3,4,5,80] ?_;simp[aag];refine aa.block ?_;refine aa.ab ay fw [1,3,4,5,80,81] ?_;simp[RD];refine aa.cond rfl (λg1=>?_) (λg1=>?_)
    ·have g1:rk=1:=by simpa using g1
     rw[if_pos g1]at qk;have qY:decide (ra=0/\rb=0)=k1:=by cases k1<;>simp at qk⊢<;>first|exact qk|omega
     refine aa.EF ay fw [(1,.v (.box [ti nt,ti nn,ti ns,.sl (aR rules)])),(3,.v (ti y)),(5,.v (.bool k1))] ?_ ?_
     ·by_cases q1:ra=0
      ·skip
       by_cases q2:rb=0
       ·skip
        have:k1=true:=by rw[<-qY];simp[q1,q2]
        simp[EP,q1,q2,this]
       ·have:k1=false:=by rw[<-qY];simp[q2]
        simp[EP,q1,q2,this]
      ·have:k1=false:=by rw[<-qY];simp[q1]
       simp[EP,q1,this]
     refine aa.ab ay fw [1,3,150] ?_;simp[xk];refine aa.cond rfl (λh5=>?_) (λh5=>?_)
     ·skip
      refine aa.ab ay fw [2] ?_;simp[xl];refine aa.ret ?_;rw[bad λh=>by
       have h6:=((cY.1 h).2 y bM).2;rw[hr]at h6;rw[decide_eq_true h6]at wB
       simp_all]
      simp[pE]
     ·skip
      refine aa.skip ?_;simp;have qk:kindOk ⟨nt,nn,ns,rules⟩ ⟨rk,rh,ra,rb,rp,rg⟩:=of_decide_eq_true (by rw[wB];simp_all);refine aa.dm ay fw [1,3] ?_;simp[xm];rw[au (x:=(y:Int)+1) (by omega)];refine⟨y+1,Le.aC (o:=[]) ?_ ?_ ?_ ?_,⟨by omega,λi hi=>?_⟩,by omega⟩;iterate 4(·simp)
      ·by_cases e:i=y
       ·subst e;show lL _ (rules.getD i default)/\kindOk _ (rules.getD i default);rw[hr];exact⟨dL,qk⟩
       ·exact fl i (by omega)
    ·have g1:¬rk=1:=by simpa using g1
     rw[if_neg g1]at qk;refine aa.ab ay fw [1,3,4,5,80,91] ?_;simp[RE];refine aa.cond rfl (λg2=>?_) (λg2=>?_)
     ·have g2:rk=2:=by simpa using g2
      rw[if_pos g2]at qk;have qY:decide (ra>=0/\ra<nt/\rb=0)=k1:=by cases k1<;>simp at qk⊢<;>first|exact qk|omega
      refine aa.EF ay fw [(1,.v (.box [ti nt,ti nn,ti ns,.sl (aR rules)])),(3,.v (ti y)),(5,.v (.bool k1))] ?_ ?_
      ·by_cases q1:ra>=0
       ·skip
        by_cases q2:ra<nt
        ·skip
         by_cases q3:rb=0
         ·skip
          have:k1=true:=by rw[<-qY];simp[q1,q2,q3]
          simp[A2,q1,q2,q3,this]
         ·have:k1=false:=by rw[<-qY];simp[q3]
          simp[A2,q1,q2,q3,this]
        ·have:k1=false:=by rw[<-qY];simp[q2]
         simp[A2,q1,q2,this]
       ·have:k1=false:=by rw[<-qY];simp[q1]
        simp[A2,q1,this]
      refine aa.ab ay fw [1,3,150] ?_;simp[xk];refine aa.cond rfl (λh5=>?_) (λh5=>?_)
      ·skip
       refine aa.ab ay fw [2] ?_;simp[xl];refine aa.ret ?_;rw[bad λh=>by
        have h6:=((cY.1 h).2 y bM).2;rw[hr]at h6;rw[decide_eq_true h6]at wB
        simp_all]
       simp[pE]
      ·skip
       refine aa.skip ?_;simp;have qk:kindOk ⟨nt,nn,ns,rules⟩ ⟨rk,rh,ra,rb,rp,rg⟩:=of_decide_eq_true (by rw[wB];simp_all);refine aa.dm ay fw [1,3] ?_;simp[xm];rw[au (x:=(y:Int)+1) (by omega)];refine⟨y+1,Le.aC (o:=[]) ?_ ?_ ?_ ?_,⟨by omega,λi hi=>?_⟩,by omega⟩;iterate 4(·simp)
       ·by_cases e:i=y
        ·subst e;show lL _ (rules.getD i default)/\kindOk _ (rules.getD i default);rw[hr];exact⟨dL,qk⟩
        ·exact fl i (by omega)
     ·have g2:¬rk=2:=by simpa using g2
      rw[if_neg g2]at qk;refine aa.ab ay fw [1,3,4,5,80,108] ?_;simp[RF];refine aa.cond rfl (λg3=>?_) (λg3=>?_)
      ·have g3:rk=3:=by simpa using g3
       rw[if_pos g3]at qk;have qY:decide (ra>=0/\ra<nn/\rb=0)=k1:=by cases k1<;>simp at qk⊢<;>first|exact qk|omega
       refine aa.EF ay fw [(1,.v (.box [ti nt,ti nn,ti ns,.sl (aR rules)])),(3,.v (ti y)),(5,.v (.bool k1))] ?_ ?_
       ·by_cases q1:ra>=0
        ·skip
         by_cases q2:ra<nn
         ·skip
          by_cases q3:rb=0
          ·skip
           have:k1=true:=by rw[<-qY];simp[q1,q2,q3]
           simp[A3,q1,q2,q3,this]
          ·have:k1=false:=by rw[<-qY];simp[q3]
           simp[A3,q1,q2,q3,this]
         ·have:k1=false:=by rw[<-qY];simp[q2]
          simp[A3,q1,q2,this]
        ·have:k1=false:=by rw[<-qY];simp[q1]
         simp[A3,q1,this]
       refine aa.ab ay fw [1,3,150] ?_;simp[xk];refine aa.cond rfl (λh5=>?_) (λh5=>?_)
       ·skip
        refine aa.ab ay fw [2] ?_;simp[xl];refine aa.ret ?_;rw[bad λh=>by
         have h6:=((cY.1 h).2 y bM).2;rw[hr]at h6;rw[decide_eq_true h6]at wB
         simp_all]
        simp[pE]
       ·skip
        refine aa.skip ?_;simp;have qk:kindOk ⟨nt,nn,ns,rules⟩ ⟨rk,rh,ra,rb,rp,rg⟩:=of_decide_eq_true (by rw[wB];simp_all);refine aa.dm ay fw [1,3] ?_;simp[xm];rw[au (x:=(y:Int)+1) (by omega)];refine⟨y+1,Le.aC (o:=[]) ?_ ?_ ?_ ?_,⟨by omega,λi hi=>?_⟩,by omega⟩;iterate 4(·simp)
        ·by_cases e:i=y
         ·subst e;show lL _ (rules.getD i default)/\kindOk _ (rules.getD i default);rw[hr];exact⟨dL,qk⟩
         ·exact fl i (by omega)
      ·have g3:¬rk=3:=by simpa using g3
       rw[if_neg g3]at qk;refine aa.ab ay fw [1,3,4,5,125] ?_;simp[RG];refine aa.cond rfl (λg4=>?_) (λg4=>?_)
       ·have g4:rk=4:=by simpa using g4
        rw[if_pos g4]at qk;have qY:decide (ra>=0/\ra<nn/\rb>=0/\rb<nn)=k1:=by cases k1<;>simp at qk⊢<;>first|exact qk|omega
        refine aa.EF ay fw [(1,.v (.box [ti nt,ti nn,ti ns,.sl (aR rules)])),(3,.v (ti y)),(5,.v (.bool k1))] ?_ ?_
        ·by_cases q1:ra>=0
         ·skip
          by_cases q2:ra<nn
          ·skip
           by_cases q3:rb>=0
           ·skip
            by_cases q4:rb<nn
            ·skip
             have:k1=true:=by rw[<-qY];simp[q1,q2,q3,q4]
             simp[xj,q1,q2,q3,q4,this]
            ·have:k1=false:=by rw[<-qY];simp[q4]
             simp[xj,q1,q2,q3,q4,this]
           ·have:k1=false:=by rw[<-qY];simp[q3]
            simp[xj,q1,q2,q3,this]
          ·have:k1=false:=by rw[<-qY];simp[q2]
           simp[xj,q1,q2,this]
         ·have:k1=false:=by rw[<-qY];simp[q1]
          simp[xj,q1,this]
        refine aa.ab ay fw [1,3,150] ?_;simp[xk];refine aa.cond rfl (λh5=>?_) (λh5=>?_)
        ·skip
         refine aa.ab ay fw [2] ?_;simp[xl];refine aa.ret ?_;rw[bad λh=>by
          have h6:=((cY.1 h).2 y bM).2;rw[hr]at h6;rw[decide_eq_true h6]at wB
          simp_all]
         simp[pE]
        ·skip
         refine aa.skip ?_;simp;have qk:kindOk ⟨nt,nn,ns,rules⟩ ⟨rk,rh,ra,rb,rp,rg⟩:=of_decide_eq_true (by rw[wB];simp_all);refine aa.dm ay fw [1,3] ?_;simp[xm];rw[au (x:=(y:Int)+1) (by omega)];refine⟨y+1,Le.aC (o:=[]) ?_ ?_ ?_ ?_,⟨by omega,λi hi=>?_⟩,by omega⟩;iterate 4(·simp)
         ·by_cases e:i=y
          ·subst e;show lL _ (rules.getD i default)/\kindOk _ (rules.getD i default);rw[hr];exact⟨dL,qk⟩
          ·exact fl i (by omega)
       ·have g4:¬rk=4:=by simpa using g4
        rw[if_neg g4]at qk;have qY:k1=false:=by cases k1<;>simp at qk⊢
        rw[qY]at wB;refine aa.skip ?_;simp;refine aa.ab ay fw [1,3,150] ?_;simp[xk];refine aa.cond rfl (λh5=>?_) (λh5=>?_)
        ·skip
         refine aa.ab ay fw [2] ?_;simp[xl];refine aa.ret ?_;rw[bad λh=>by
          have h6:=((cY.1 h).2 y bM).2;rw[hr]at h6;rw[decide_eq_true h6]at wB
          simp_all]
         simp[pE]
        ·skip
         refine aa.skip ?_;simp;have qk:kindOk ⟨nt,nn,ns,rules⟩ ⟨rk,rh,ra,rb,rp,rg⟩:=of_decide_eq_true (by rw[wB];simp_all);refine aa.dm ay fw [1,3] ?_;simp[xm];rw[au (x:=(y:Int)+1) (by omega)];refine⟨y+1,Le.aC (o:=[]) ?_ ?_ ?_ ?_,⟨by omega,λi hi=>?_⟩,by omega⟩;iterate 4(·simp)
         ·by_cases e:i=y
          ·subst e;show lL _ (rules.getD i default)/\kindOk _ (rules.getD i default);rw[hr];exact⟨dL,qk⟩
          ·exact fl i (by omega)
  ·have WC:y=rules.length:=by simp at bM;omega
   subst WC;refine aa.exit ?_;simp;refine aa.ab ay fw [2] ?_;simp[RH];refine aa.ret ?_;have:v=true:=by rw[<-hv];exact decide_eq_true (cY.2 ⟨bb,fl⟩)
   rw[this];simp[pE]
structure dj where
 head:Int
 tt:List Int
 (cost l0 l1:Int)
 deriving DecidableEq,Inhabited
def dj.enc(e:dj):List T:=[ti e.head,.sl (aB e.tt),ti e.cost,ti e.l0,ti e.l1]
def cm(l:List dj):List (List T):=l.map dj.enc
def T8:List T->dj
 |[a,.sl b,c,d,e]=>⟨cX a,fq b,cX c,cX d,cX e⟩
 |_=>default
def By(l:List (List T)):List dj:=l.map T8
@[simp] theorem O6(r:dj):T8 r.enc=r:=by simp[T8,dj.enc,cX]
@[simp] theorem decHEs_enc(l:List dj):By (cm l)=l:=fC O6 l
@[simp] theorem hedgesT_len(l:List dj):(cm l).length=l.length:=by simp[cm]
@[simp] theorem hedgesT_inj{a b:List dj}:cm a=cm b↔a=b:=⟨λh=>by have:=congrArg By h;simpa using this,λh=>by rw[h]⟩
theorem vT{l:List dj}{y:Nat}(h:y<l.length):DM.rowAt (cm l) y=(l.getD y default).enc:=by simp[DM.rowAt,cm,h]
def j8(r:bD):List Int:=if r.kind=3 then [r.a]else if r.kind=4 then [r.a,r.b]else []
theorem t93(r:bD):aU Tryz.prog 93 [.agg r.enc] (.sl (aB (j8 r))):=by
 obtain⟨rk,rh,ra,rb,rp,rg⟩:=r;obtain⟨R,hR⟩:∃R,j8 ⟨rk,rh,ra,rb,rp,rg⟩=R:=⟨_,rfl⟩;rw[hR];simp only[j8]at hR;have ay:=ej;refine c93.ok (by simp) (aK ?_);simp[bD.enc];refine aa.ab ay fw [1] ?_;simp[ZD];refine aa.le (Le.aC (o:=[]) (l:=[(1,.v (.box [ti rk,ti rh,ti ra,ti rb,ti rp,ti rg]))]) (nxt':=1200) ?_ ?_ ?_ ?_) ?_;iterate 4(·simp)
 refine aa.seq ?_;refine aa.ab ay fw [1,4] ?_;simp[ZE];refine aa.block ?_;refine aa.ab ay fw [1,4,5] ?_;simp[ZF];refine aa.cond rfl (λh1=>?_) (λh1=>?_)
 ·have h1:rk=3:=by simpa using h1
  rw[if_pos h1]at hR;subst hR;refine aa.ab ay fw [2] ?_;simp[ZG,chunk];refine aa.ret ?_;simp[EM,aB]
 ·have h1:¬rk=3:=by simpa using h1
  rw[if_neg h1]at hR;refine aa.ab ay fw [1,10] ?_;simp[ZH];refine aa.cond rfl (λh2=>?_) (λh2=>?_)
  ·have h2:rk=4:=by simpa using h2
   rw[if_pos h2]at hR;subst hR;refine aa.ab ay fw [2] ?_;simp[ZI,chunk];refine aa.ret ?_;simp[EM,aB]
  ·have h2:¬rk=4:=by simpa using h2
   rw[if_neg h2]at hR;subst hR;refine aa.skip ?_;simp;refine aa.ab ay fw [2] ?_;simp[ZJ];refine aa.ret ?_;simp[EM,aB]
def fD(v:List br)(ts:List Int):List br:=ts.map λt=>v.getD t.toNat default
theorem t91(e:dj)(v:List br)(h:∀t∈e.tt,0<=t/\t<v.length)(hl:e.tt.length<=1000000):lK Tryz.prog 91 [.agg e.enc,.sl (bI v)] 55 2 (bI (fD v e.tt)):=by
 obtain⟨eh,ts,ec,e0,e1⟩:=e;simp only at h hl;have ay:=ej;refine c91.okF (by simp) (aK ?_);simp[dj.enc];refine aa.ab ay fw [1,2] ?_;simp[Zm];refine aa.le (Le.aC (o:=[]) (l:=[(1,.v (.sl (bI v))),(2,.v (.box [ti eh,.sl (aB ts),ti ec,ti e0,ti e1]))]) (nxt':=1200) ?_ ?_ ?_ ?_) ?_;iterate 4(·simp)
 refine aa.ab ay fw [1,2,5] ?_;simp[Zn];refine aa.le (Le.aC (o:=[]) (l:=[(1,.v (.sl (bI v))),(2,.v (.box [ti eh,.sl (aB ts),ti ec,ti e0,ti e1])),(5,.aH)]) (nxt':=1400) ?_ ?_ ?_ ?_) ?_;iterate 4(·simp)
 refine aa.le (Le.l9 (k:=5) 55 (sz:=2) (by omega) (by simp)) ?_;rw[iu];refine aa.seq ?_;refine aa.ab ay fw [1,2,5,6] ?_;simp[Zo];refine aa.block ?_;refine aa.loop (λy:Nat=>⟨DM.look [(1,.v (.sl (bI v))),(2,.v (.box [ti eh,.sl (aB ts),ti ec,ti e0,ti e1])),(5,.bk 1400 0),(6,.v (ti y))],cC [(1400,.arr 0 55 2 (bI (fD v (ts.take y))))],1600,1000,[]⟩)
  (λy=>y<=ts.length) (λy=>ts.length-y) 0 (Le.aC ?_ ?_ ?_ ?_) (by simp) (λy hy=>?_)
 ·simp
 ·simp
 ·simp[fD]
 ·simp
 refine aa.seq ?_;refine aa.ab ay fw [1,2,5,6,11] ?_;simp[Zp];refine aa.cond rfl (λbM=>?_) (λbM=>?_)
 ·have bM:y<ts.length:=by simpa using bM
  refine aa.skip ?_;simp;refine aa.seq ?_;refine aa.block ?_;have rt:=cO bM;obtain⟨t,ht⟩:∃t,ts.getD y default=t:=⟨_,rfl⟩;rw[ht]at rt;obtain⟨q1,q2⟩:=h t (by rw[<-ht];exact bw bM);obtain⟨t,rfl⟩:=Zad q1;have q2:t<v.length:=by omega
  have rv:=dP q2;obtain⟨w,hw⟩:∃w,v.getD t default=w:=⟨_,rfl⟩;rw[hw]at rv;have hS:bI (fD v (ts.take (y+1)))=bI (fD v (ts.take y))++[[ti w.cost,ti w.size]]:=by
   rw[cN bM,ht];simp only[fD,ZaP,Zau,ZbX,Zak,hw,bI]
  have hTl:(fD v (ts.take y)).length<=1000000:=by simp[fD];omega
  refine aa.dm ay fw [1,2,5,6] ?_;simp[Zq,bM,rt,q2,rv,cH,chunk];repeat (refine⟨by omega, ?_⟩)
  refine aa.dm ay fw [1,2,5,6] ?_;simp[Zr];rw[au (x:=(y:Int)+1) (by omega)];refine⟨y+1,Le.aC ?_ ?_ ?_ ?_,by omega,by omega⟩
  ·simp
  ·simp
  ·simp[hS]
  ·simp
 ·have fl:y=ts.length:=by simp at bM;omega
  subst fl;rw[Zbn];refine aa.exit ?_;simp;refine aa.ab ay fw [4] ?_;simp[Zs];refine aa.ret ?_;exact .inr ⟨1400,0,by simp,by simp⟩
def Ff(ins:List Int)(i:Nat):Prop:=¬(ins.getD i default<1\/ins.getD i default>60000)
instance(ins:List Int)(i:Nat):Decidable (Ff ins i):=by unfold Ff;infer_instance
def eV(n:aG)(ins:List Int):Prop:=(ins.length:Int)=n.aW/\∀i,i<ins.length->Ff ins i
instance(n:aG)(ins:List Int):Decidable (eV n ins):=by unfold eV;infer_instance
theorem t44(n:aG)(ins:List Int)(hl:ins.length<=9223372036854775807):aU Tryz.prog 44 [n.enc,.sl (aB ins)] (.bool (decide (eV n ins))):=by
 obtain⟨nt,nn,ns,rules⟩:=n;obtain⟨v,hv⟩:∃v,decide (eV ⟨nt,nn,ns,rules⟩ ins)=v:=⟨_,rfl⟩;rw[hv];have cY:eV ⟨nt,nn,ns,rules⟩ ins↔(ins.length:Int)=nt/\∀i,i<ins.length->Ff ins i:=Iff.rfl;have bad:¬eV ⟨nt,nn,ns,rules⟩ ins->v=false:=λh=>by rw[<-hv];simp[h]
 have ay:=ej;refine c44.ok (by simp) (aK ?_);simp[aG.enc];refine aa.ab ay fw [1,2] ?_;simp[ZS];refine aa.le (Le.aC (o:=[]) (l:=[(1,.v (.sl (aB ins))),(2,.v (.box [ti nt,ti nn,ti ns,.sl (aR rules)]))]) (nxt':=1200) ?_ ?_ ?_ ?_) ?_;iterate 4(·simp)
 refine aa.seq ?_;refine aa.ab ay fw [1,10] ?_;simp[ZT];refine aa.cond rfl (λh1=>?_) (λh1=>?_)
 ·have h1:¬(ins.length:Int)=nt:=by simpa using h1
  refine aa.ab ay fw [4] ?_;simp[ZU];refine aa.ret ?_;rw[bad λh=>h1 (cY.1 h).1];simp[EN]
 ·have h1:(ins.length:Int)=nt:=by simpa using h1
  refine aa.skip ?_;simp;refine aa.seq ?_;refine aa.ab ay fw [1,5] ?_;simp[ZV];refine aa.block ?_;refine aa.loop (λy:Nat=>⟨DM.look [(1,.v (.sl (aB ins))),(5,.v (ti y))],cC [],2000,1000,[]⟩)
   (λy=>y<=ins.length/\∀i,i<y->Ff ins i) (λy=>ins.length-y) 0 (Le.aC (o:=[]) ?_ ?_ ?_ ?_) (by simp) (λy hy=>?_)
  iterate 4(·simp)
  obtain⟨jU,fl⟩:=hy;refine aa.seq ?_;refine aa.ab ay fw [1,5,14] ?_;simp[ZW];refine aa.cond rfl (λbM=>?_) (λbM=>?_)
  ·have bM:y<ins.length:=by simpa using bM
   refine aa.skip ?_;simp;refine aa.seq ?_;refine aa.block ?_;have rr:=cO bM;obtain⟨x,hx⟩:∃x,ins.getD y default=x:=⟨_,rfl⟩;rw[hx]at rr;obtain⟨c2,dL⟩:∃c2:Bool,decide (x<1\/x>60000)=c2:=⟨_,rfl⟩;refine aa.bY ay fw [(1,.v (.sl (aB ins))),(5,.v (ti y)),(28,.v (.bool c2))] ?_ ?_
   ·by_cases q1:x<1
    ·have:c2=true:=by rw[<-dL];simp[q1]
     simp[MT,q1,this,bM,rr]
    ·skip
     by_cases q2:x>60000
     ·have:c2=true:=by rw[<-dL];simp[q2]
      simp[MT,q1,q2,this,bM,rr]
     ·skip
      have:c2=false:=by rw[<-dL];simp[q1,q2]
      simp[MT,q1,q2,this,bM,rr]
   refine aa.cond rfl (λh2=>?_) (λh2=>?_)
   ·rw[h2]at dL;have dL:=of_decide_eq_true dL;refine aa.ab ay fw [4] ?_;simp[ZX];refine aa.ret ?_;rw[bad λh=>by have:=(cY.1 h).2 y bM;unfold Ff at this;rw[hx]at this;exact this dL];simp[EN]
   ·rw[h2]at dL;have dL:=of_decide_eq_false dL;refine aa.skip ?_;simp;refine aa.dm ay fw [1,5] ?_;simp[ZY];rw[au (x:=(y:Int)+1) (by omega)];refine⟨y+1,Le.aC (o:=[]) ?_ ?_ ?_ ?_,⟨by omega,λi hi=>?_⟩,by omega⟩;iterate 4(·simp)
    ·by_cases e:i=y
     ·subst e;unfold Ff;rw[hx];exact dL
     ·exact fl i (by omega)
  ·have WC:y=ins.length:=by simp at bM;omega
   subst WC;refine aa.exit ?_;simp;refine aa.ab ay fw [4] ?_;simp[ZZ];refine aa.ret ?_;have:v=true:=by rw[<-hv];exact decide_eq_true (cY.2 ⟨h1,fl⟩)
   rw[this];simp[EN]
def jF(ins:List Int)(r:bD):dj:=⟨r.head,j8 r,if r.kind=2 then r.bE+ins.getD r.a.toNat default else r.bE,0,0⟩
def uh(n:aG)(ins:List Int):List dj:=n.rules.map (jF ins)
abbrev s93:DM.Spec:=cy (λts=>∃a b c d e f,ts=[.agg [ti a,ti b,ti c,ti d,ti e,ti f]]) (fun|[.agg r]=>.sl (aB (j8 (pH r)))|_=>.bool false) false
theorem ok93:aw Tryz.prog (aX [(93,s93)]):=by
 refine aw.cons aw.nil ?_;rintro ts ⟨a,b,c,d,e,f,rfl⟩;exact⟨by simpa [bD.enc,pH,cX]using t93 ⟨a,b,c,d,e,f⟩,λh=>by cases h⟩
theorem KZ(r:bD):(j8 r).length<=2:=by unfold j8;split<;>(try split)<;>simp
theorem t67(n:aG)(ins:List Int)(hn:oX n)(hp:eV n ins):aU Tryz.prog 67 [n.enc,.sl (aB ins)] (.agg [ti n.an,.sl (cm (uh n ins))]):=by
 obtain⟨nt,nn,ns,rules⟩:=n;obtain⟨n1,n2,n3,n4⟩:=hn;obtain⟨p1,p2⟩:=hp;simp only[uh]at n1 n2 n3 n4 p1 p2⊢;have ay:=ok93;refine c67.ok (by simp) (aK ?_);simp[aG.enc];refine aa.ab ay fw [1,2,4] ?_;simp[ZK];refine aa.le (Le.aC (o:=[(1005,.box [.v (ti 0),.aH])]) (l:=[(1,.v (.sl (aB ins))),(2,.v (.box [ti nt,ti nn,ti ns,.sl (aR rules)])),(4,.ptr 1005 0)]) (nxt':=1200) ?_ ?_ ?_ ?_) ?_;iterate 4(·simp)
 refine aa.ab ay fw [1,2,4,5] ?_;simp[ZL];refine aa.le (Le.aC (o:=[(1005,.box [.v (ti 0),.aH])]) (l:=[(1,.v (.sl (aB ins))),(2,.v (.box [ti nt,ti nn,ti ns,.sl (aR rules)])),(4,.ptr 1005 0),(5,.aH)]) (nxt':=1400) ?_ ?_ ?_ ?_) ?_;iterate 4(·simp)
 refine aa.le (Le.l9 (k:=5) 156 (sz:=5) (by omega) (by simp)) ?_;rw[iu];refine aa.seq ?_;refine aa.ab ay fw [1,2,4,5,6] ?_;simp[ZM];refine aa.block ?_;refine aa.loop (λy:Nat=>⟨DM.look [(1,.v (.sl (aB ins))),(2,.v (.box [ti nt,ti nn,ti ns,.sl (aR rules)])),(4,.ptr 1005 0),(5,.bk 1400 0),(6,.v (ti y))],cC [(1005,.box [.v (ti 0),.aH]),(1400,.arr 0 156 5 (cm ((rules.take y).map (jF ins))))],1600,1000,[]⟩)
  (λy=>y<=rules.length) (λy=>rules.length-y) 0 (Le.aC ?_ ?_ ?_ ?_) (by simp) (λy hy=>?_)
 ·simp
 ·simp
 ·simp[cm]
 ·simp
 refine aa.seq ?_;refine aa.ab ay fw [1,2,4,5,6,13] ?_;simp[ZN];refine aa.cond rfl (λbM=>?_) (λbM=>?_)
 ·have bM:y<rules.length:=by simpa using bM
  refine aa.skip ?_;simp;refine aa.seq ?_;refine aa.block ?_;have rr:=fT bM;obtain⟨⟨rk,rh,ra,rb,rp,rg⟩,hr⟩:∃r,rules.getD y default=r:=⟨_,rfl⟩;rw[hr]at rr;have jV:=n4 ⟨rk,rh,ra,rb,rp,rg⟩ (by rw[<-hr];exact bw bM);obtain⟨q1,q2,q3,q4,q5⟩:=jV;simp only at q1 q2 q3 q4 q5;refine aa.ab ay fw [1,2,4,5,6,7] ?_;simp[ZO,bM,rr,bD.enc];refine aa.le (Le.aC (o:=[(1005,.box [.v (ti 0),.aH]),(1400,.arr 0 156 5 (cm ((rules.take y).map (jF ins))))]) (l:=[(1,.v (.sl (aB ins))),(2,.v (.box [ti nt,ti nn,ti ns,.sl (aR rules)])),(4,.ptr 1005 0),(5,.bk 1400 0),(6,.v (ti y)),(7,.v (.box [ti rk,ti rh,ti ra,ti rb,ti rp,ti rg]))]) (nxt':=2400) ?_ ?_ ?_ ?_) ?_;iterate 4(·simp)
  refine aa.ab ay fw [1,2,4,5,6,7,8] ?_;simp[ZP];refine aa.seq ?_;refine aa.ab ay fw [1,2,4,5,6,7,8,25] ?_;simp[ZQ];refine aa.cond rfl (λh6=>?_) (λh6=>?_)
  ·have h6:rk=2:=by simpa using h6
   have Gt:0<=ra/\ra<ins.length:=by omega
   obtain⟨a,rfl⟩:=Zad Gt.1;have ko:a<ins.length:=by omega
   have ri:=cO ko;have hpi:=p2 a ko;unfold Ff at hpi;obtain⟨x,hx⟩:∃x,ins.getD a default=x:=⟨_,rfl⟩;rw[hx]at ri hpi;have hE:jF ins ⟨rk,rh,a,rb,rp,rg⟩=⟨rh,j8 ⟨rk,rh,a,rb,rp,rg⟩,rp+x,0,0⟩:=by unfold jF;simp only[if_pos h6,Zak,hx]
   refine aa.dm ay fw [1,2,4,5,6,7,8] ?_;simp[ZR,ko,ri,au (x:=rp+x) (by omega)];refine aa.dm ay fw [1,2,4,5,6] ?_;simp[Rz,pH,cX,chunk,cH];repeat (refine⟨by omega, ?_⟩)
   have hS:∀ec,jF ins (rules.getD y default)=⟨rh,j8 (rules.getD y default),ec,0,0⟩->cm ((rules.map (jF ins)).take (y+1))=cm ((rules.map (jF ins)).take y)++[[ti rh,.sl (aB (j8 (rules.getD y default))),ti ec,ti 0,ti 0]]:=by
    intro ec h;rw[<-List.map_take,cN bM,ZaP,cm,ZaP,List.map_take];simp only[Zau,ZbX,h,dj.enc,cm]
   rw[hr]at hS;have hS:=hS _ hE;refine aa.dm ay fw [1,2,4,5,6] ?_;simp[RA];rw[au (x:=(y:Int)+1) (by omega)];refine⟨y+1,Le.aC ?_ ?_ ?_ ?_,by omega,by omega⟩
   ·simp
   ·simp
   ·simp[hS]
   ·simp
  ·have h6:¬rk=2:=by simpa using h6
   have hE:jF ins ⟨rk,rh,ra,rb,rp,rg⟩=⟨rh,j8 ⟨rk,rh,ra,rb,rp,rg⟩,rp,0,0⟩:=by unfold jF;simp only[if_neg h6]
   refine aa.skip ?_;simp;refine aa.dm ay fw [1,2,4,5,6] ?_;simp[Rz,pH,cX,chunk,cH];repeat (refine⟨by omega, ?_⟩)
   have hS:∀ec,jF ins (rules.getD y default)=⟨rh,j8 (rules.getD y default),ec,0,0⟩->cm ((rules.map (jF ins)).take (y+1))=cm ((rules.map (jF ins)).take y)++[[ti rh,.sl (aB (j8 (rules.getD y default))),ti ec,ti 0,ti 0]]:=by
    intro ec h;rw[<-List.map_take,cN bM,ZaP,cm,ZaP,List.map_take];simp only[Zau,ZbX,h,dj.enc,cm]
   rw[hr]at hS;have hS:=hS _ hE;refine aa.dm ay fw [1,2,4,5,6] ?_;simp[RA];rw[au (x:=(y:Int)+1) (by omega)];refine⟨y+1,Le.aC ?_ ?_ ?_ ?_,by omega,by omega⟩
   ·simp
   ·simp
   ·simp[hS]
   ·simp
 ·have fl:y=rules.length:=by simp at bM;omega
  subst fl;rw[show(rules.map (jF ins)).take rules.length=rules.map (jF ins)from Za3 (by simp)];refine aa.exit ?_;simp;refine aa.ab ay fw [4] ?_;simp[RB];refine aa.ret ?_;simp[RC]
theorem sG(l:List br)(i:Nat)(x:br):bI (l.set i x)=(bI l).set i [ti x.cost,ti x.size]:=by simp[bI,ZbJ]
theorem sH(l:List Int)(i:Nat)(x:Int):aB (l.set i x)=(aB l).set i [ti x]:=by simp[aB,ZbJ]
theorem XO{α:Type}(a b:α){n y:Nat}(h:y<n):(List.replicate y a++List.replicate (n-y) b).set y a=List.replicate (y+1) a++List.replicate (n-(y+1)) b:=by
 rw[Zb5 _ _ (by simp)];simp only[ZbC,Nat.sub_self];rw[show n-y=(n-(y+1))+1 by omega,Za7,Zce,ZbR (n:=y),List.append_assoc];rfl
def Bz(nd:Int)(e:dj):Prop:=0<=e.head/\e.head<nd/\(∀t∈e.tt,0<=t/\t<nd)/\0<=e.cost/\e.cost<=4000000000000/\e.tt.length<=1000000
def hOk(nd:Int)(es:List dj):Prop:=0<=nd/\nd<=1000000/\es.length<=1000000/\∀e∈es,Bz nd e
def O7(nd:Int)(v:List br):Prop:=(v.length:Int)=nd/\∀x∈v,kO x
def Dt(x:br):Nat:=x.cost.toNat*2199023255552+x.size.toNat
def iS(v:List br):Nat:=(v.map Dt).sum
theorem Du{own:List br}{h:Nat}{y:br}(hh:h<own.length)(hy:Dt y<Dt (own.getD h default)):iS (own.set h y)<iS own:=by
 induction own generalizing h with
 |nil=>simp at hh
 |cons x own ih=>
  cases h with
  |zero=>simp[iS]at hy⊢;omega
  |succ h=>
   have:=ih (h:=h) (by simpa using hh) (by simpa using hy);simp[iS]at this⊢;omega
theorem Np{a b:br}(ha:kO a)(hb:kO b)(h:a.lt b):Dt a<Dt b:=by
 obtain⟨a1,a2,a3,a4⟩:=ha;obtain⟨b1,b2,b3,b4⟩:=hb;unfold br.lt at h;unfold Dt;omega
def vU(v:List br)(e:dj):List br:=if(comb e.cost (fD v e.tt)).lt (v.getD e.head.toNat default)then v.set e.head.toNat (comb e.cost (fD v e.tt))else v
theorem xD{nd:Int}{v:List br}{ts:List Int}(hv:O7 nd v)(h:∀t∈ts,0<=t/\t<nd):∀x∈fD v ts,kO x:=by
 intro x hx;simp only[fD,Zal]at hx;obtain⟨t,ht,rfl⟩:=hx;have:=h t ht;have:=hv.1;exact hv.2 _ (bw (by omega))
theorem Ij{nd:Int}{v:List br}{e:dj}(he:Bz nd e)(hv:O7 nd v):O7 nd (vU v e)/\(vU v e=v\/iS (vU v e)<iS v):=by
 obtain⟨e1,e2,e3,e4,e5,e6⟩:=he;have hc:=iH (c:=e.cost) (l:=fD v e.tt) (xD hv e3) e4 e5;have hh:e.head.toNat<v.length:=by have:=hv.1;omega
 unfold vU;split
 ·rename_i h;refine⟨⟨by simpa using hv.1,λx hx=>?_⟩,.inr (Du hh (Np hc (hv.2 _ (bw hh)) h))⟩;rcases Za0 hx with h|rfl
  ·exact hv.2 x h
  ·exact hc
 ·exact⟨hv,.inl rfl⟩
def eA(es:List dj)(v:List br)(y:Nat):List br:=(List.range y).foldl (λv k=>vU v (es.getD k default)) v
theorem rP(es:List dj)(v:List br)(y:Nat):eA es v (y+1)=vU (eA es v y) (es.getD y default):=by simp[eA,ZaE,Zat]
theorem xE{nd:Int}{es:List dj}(hh:hOk nd es){v:List br}(hv:O7 nd v):∀y,y<=es.length->O7 nd (eA es v y)/\(eA es v y=v\/iS (eA es v y)<iS v)
 |0,_=>⟨hv,.inl rfl⟩
 |y+1,hy=>by
  obtain⟨h1,h2⟩:=xE hh hv y (by omega);obtain⟨h3,h4⟩:=Ij (hh.2.2.2 _ (bw (l:=es) (i:=y) (by omega))) h1;rw[rP];refine⟨h3, ?_⟩;rcases h4 with e|h4
  ·rw[e];exact h2
  ·rcases h2 with e|h2
   ·rw[e]at h4⊢;exact .inr h4
   ·exact .inr (by omega)
def rQ(es:List dj):Nat->List br->List br
 |0,v=>v
 |f+1,v=>if eA es v es.length=v then v else rQ es f (eA es v es.length)
theorem K0{es:List dj}{v:List br}{f:Nat}{R:List br}(hs:eA es v es.length=v\/iS (eA es v es.length)<iS v)(h1:iS v<f)(h2:rQ es f v=R):
  (eA es v es.length≠v->iS (eA es v es.length)<iS v/\∃f,iS (eA es v es.length)<f/\rQ es f (eA es v es.length)=R)/\(eA es v es.length=v->v=R):=by
 cases f with
 |zero=>omega
 |succ f=>
  unfold rQ at h2;refine⟨λbG=>?_,λe=>?_⟩
  ·rw[if_neg bG]at h2;have:=hs.resolve_left bG;exact⟨this,f,by omega,h2⟩
  ·rwa [if_pos e]at h2
def K1(nd:Int):List br:=List.replicate nd.toNat ⟨1099511627776,0⟩
def ui(nd:Int)(es:List dj):List br:=rQ es (iS (K1 nd)+1) (K1 nd)
theorem Dv{nd:Int}{es:List dj}(hh:hOk nd es):∀f v,iS v<f->O7 nd v->O7 nd (rQ es f v)
 |0,v,h,_=>by omega
 |f+1,v,h,hv=>by
  obtain⟨h1,h2⟩:=xE hh hv es.length (Zae _);unfold rQ;split
  ·exact hv
  ·rename_i bG;exact Dv hh f _ (by have:=h2.resolve_left bG;omega) h1
theorem Nq{nd:Int}{es:List dj}(hh:hOk nd es):O7 nd (K1 nd):=by
 refine⟨by have:=hh.1;simp only[K1,ZbC];omega,λx hx=>?_⟩;rw[ZbG hx];simp[kO]
theorem Dw{nd:Int}{es:List dj}(hh:hOk nd es):O7 nd (ui nd es):=Dv hh _ _ (by omega) (Nq hh)
def stepG(es:List dj)(v:List br)(g:List Int)(j:Nat):List Int:=
 if(v.getD (es.getD (es.length-1-j) default).head.toNat default).cost<1099511627776/\comb (es.getD (es.length-1-j) default).cost (fD v (es.getD (es.length-1-j) default).tt)=v.getD (es.getD (es.length-1-j) default).head.toNat default then g.set (es.getD (es.length-1-j) default).head.toNat ((es.length-1-j:Nat):Int)else g
def tu(es:List dj)(v:List br)(nd:Int)(j:Nat):List Int:=(List.range j).foldl (stepG es v) (List.replicate nd.toNat (-1))
theorem uj(es:List dj)(v:List br)(nd:Int)(y:Nat):tu es v nd (y+1)=stepG es v (tu es v nd y) y:=by simp[tu,ZaE,Zat]
theorem O8(es:List dj)(v:List br){nd:Int}(h:0<=nd)(y:Nat):((tu es v nd y).length:Int)=nd:=by
 induction y with
 |zero=>simp[tu];omega
 |succ y ih=>
  rw[uj];unfold stepG;split
  ·simpa using ih
  ·exact ih
structure VM where
 v:List br
 more:Bool
abbrev s91:DM.Spec:=yw (λts=>∃a b c d e v,ts=[.agg [ti a,.sl (aB b),ti c,ti d,ti e],.sl (bI v)]/\(∀t∈b,0<=t/\t<v.length)/\b.length<=1000000) (fun|[.agg [_,.sl b,_,_,_],.sl v]=>bI (fD (lg v) (fq b))|_=>[]) 55 2
theorem Ik(l:List br):gj.gH (bI l).flatten=true:=by
 induction l with
 |nil=>rfl
 |cons x l ih=>simpa [bI,gj.gH,gj]using ih
theorem okSo:aw Tryz.prog (aX [(91,s91),(69,s69),(92,s92)]):=by
 refine aw.QZ (aw.cons (aw.cons aw.nil ?_) ?_) ?_
 ·rintro ts ⟨a,b,c,d,rfl⟩;exact⟨t92 ⟨a,b⟩ ⟨c,d⟩,λ_=>rfl⟩
 ·rintro ts ⟨c,l,rfl,h1,h2,h3,h4⟩;exact⟨by simpa using t69 c l h1 h2 h3 h4,λ_=>rfl⟩
 ·rintro ts ⟨a,b,c,d,e,v,rfl,h1,h2⟩;exact⟨by simpa [dj.enc]using t91 ⟨a,b,c,d,e⟩ v h1 h2,Ik _⟩
theorem t66(nd:Int)(es:List dj)(hh:hOk nd es):aU Tryz.prog 66 [.agg [ti nd,.sl (cm es)]] (.eG [.sl (bI (ui nd es)),.sl (aB (tu es (ui nd es) nd es.length))]):=by
 obtain⟨R,hR⟩:∃R,ui nd es=R:=⟨_,rfl⟩;have hRo:O7 nd R:=hR▸Dw hh;rw[hR];have h0:=Nq hh;have zR:=λ(v:List br) (hv:O7 nd v)=>xE hh hv;have lG:=λ(v:List br) (hv:O7 nd v) (e:dj) (he:Bz nd e)=>Ij he hv;obtain⟨g1,g2,g3,g4⟩:=hh;have ay:=okSo;refine c66.ok (by simp) (aK ?_);simp;refine aa.ab ay fw [1] ?_;simp[Zt];refine aa.le (Le.aC (o:=[]) (l:=[(1,.v (.box [ti nd,.sl (cm es)]))]) (nxt':=1200) ?_ ?_ ?_ ?_) ?_;iterate 4(·simp)
 refine aa.ab ay fw [1,4] ?_;simp[Zu,and_assoc,cH];repeat (refine⟨by omega, ?_⟩)
 refine aa.le (Le.aC (o:=[(1217,.arr 0 55 2 (bI ((List.replicate nd.toNat (⟨0,0⟩:br)))))]) (l:=[(1,.v (.box [ti nd,.sl (cm es)])),(4,.bk 1217 0)]) (nxt':=1400) ?_ ?_ ?_ ?_) ?_
 ·simp
 ·simp
 ·simp[bI]
 ·simp
 refine aa.ab ay fw [1,4,5] ?_;simp[Zv,and_assoc,cH];repeat (refine⟨by omega, ?_⟩)
 refine aa.le (Le.aC (o:=[(1217,.arr 0 55 2 (bI ((List.replicate nd.toNat (⟨0,0⟩:br))))),(1420,.arr 0 3 1 (aB (List.replicate nd.toNat 0)))]) (l:=[(1,.v (.box [ti nd,.sl (cm es)])),(4,.bk 1217 0),(5,.bk 1420 0)]) (nxt':=1600) ?_ ?_ ?_ ?_) ?_
 ·simp
 ·simp
 ·simp[bI,aB]
 ·simp
 refine aa.seq ?_;refine aa.ab ay fw [1,4,5,6] ?_;simp[Zw];refine aa.block ?_;refine aa.loop (λy:Nat=>⟨DM.look [(1,.v (.box [ti nd,.sl (cm es)])),(4,.bk 1217 0),(5,.bk 1420 0),(6,.v (ti y))],cC [(1217,.arr 0 55 2 (bI (List.replicate y (⟨1099511627776,0⟩:br)++List.replicate (nd.toNat-y) (⟨0,0⟩:br)))),(1420,.arr 0 3 1 (aB (List.replicate y (-1:Int)++List.replicate (nd.toNat-y) (0:Int))))],2000,1000,[]⟩)
  (λy=>y<=nd.toNat) (λy=>nd.toNat-y) 0 (Le.aC ?_ ?_ ?_ ?_) (by simp) (λy hy=>?_)
 iterate 4(·simp)
 obtain⟨A,hA⟩:∃A,List.replicate y (⟨1099511627776,0⟩:br)++List.replicate (nd.toNat-y) (⟨0,0⟩:br)=A:=⟨_,rfl⟩;obtain⟨E,hE⟩:∃E,List.replicate y (-1:Int)++List.replicate (nd.toNat-y) (0:Int)=E:=⟨_,rfl⟩;have hAl:A.length=nd.toNat:=by rw[<-hA];simp;omega
 have hEl:E.length=nd.toNat:=by rw[<-hE];simp;omega
 rw[hA,hE];refine aa.seq ?_;refine aa.ab ay fw [1,4,5,6,23] ?_;simp[Zx];refine aa.cond rfl (λbM=>?_) (λbM=>?_)
 ·have bM:(y:Int)<nd:=by simpa using bM
  have hyn:y<nd.toNat:=by omega
  refine aa.skip ?_;simp;refine aa.seq ?_;refine aa.block ?_;have ra:=dP (l:=A) (y:=y) (by omega);have re:=cO (l:=E) (y:=y) (by omega);have q1:y<A.length:=by omega
  have q2:y<E.length:=by omega
  refine aa.dm ay fw [1,4,5,6] ?_;simp[Zy,q1,q2,ra,re];refine aa.dm ay fw [1,4,5,6] ?_;simp[Zz];rw[au (x:=(y:Int)+1) (by omega)];refine⟨y+1,Le.aC ?_ ?_ ?_ ?_,by omega,by omega⟩
  ·simp
  ·simp
  ·simp only[<-XO _ _ hyn,hA,hE,sG,sH];simp
  ·simp
 ·have fl:y=nd.toNat:=by simp at bM;omega
  subst fl;have tQ:A=K1 nd:=by rw[<-hA];simp[K1]
  have hE2:E=List.replicate nd.toNat (-1):=by rw[<-hE];simp
  subst tQ;subst hE2;refine aa.exit ?_;simp;refine aa.seq ?_;refine aa.ab ay fw [1,4,5,7] ?_;simp[ZA];refine aa.block ?_;refine aa.loop (λz:VM=>⟨DM.look [(1,.v (.box [ti nd,.sl (cm es)])),(4,.bk 1217 0),(5,.bk 1420 0),(7,.v (.bool z.more))],cC [(1217,.arr 0 55 2 (bI (z.v))),(1420,.arr 0 3 1 (aB (List.replicate nd.toNat (-1))))],3000,1000,[]⟩)
   (λz=>O7 nd z.v/\(z.more=true->∃f,iS z.v<f/\rQ es f z.v=R)/\(z.more=false->z.v=R)) (λz=>2*iS z.v+(if z.more then 1 else 0)) ⟨K1 nd,true⟩ (Le.aC ?_ ?_ ?_ ?_) (⟨h0,λ_=>⟨_,ZbV _,hR⟩,λh=>by cases h⟩) (λz hy=>?_)
  iterate 4(·simp)
  obtain⟨own,more⟩:=z;obtain⟨hz1,Xt,XK⟩:=hy;simp only at hz1 Xt XK⊢;refine aa.seq ?_;refine aa.ab ay fw [1,4,5,33] ?_;simp[ZB];refine aa.cond rfl (λhm=>?_) (λhm=>?_)
  ·have hm:more=true:=by simpa using hm
   subst hm;obtain⟨f,hf1,XL⟩:=Xt rfl;refine aa.skip ?_;simp;refine aa.block ?_;refine aa.ab ay fw [1,4,5,7] ?_;simp[ZC];refine aa.ab ay fw [1,4,5,7,8] ?_;simp[Rm];refine aa.block ?_;refine aa.loop (λy:Nat=>⟨DM.look [(1,.v (.box [ti nd,.sl (cm es)])),(4,.bk 1217 0),(5,.bk 1420 0),(7,.v (.bool (decide (eA es own y≠own)))),(8,.v (ti y))],cC [(1217,.arr 0 55 2 (bI (eA es own y))),(1420,.arr 0 3 1 (aB (List.replicate nd.toNat (-1))))],4000,1000,[]⟩)
    (λy=>y<=es.length) (λy=>es.length-y) 0 (Le.aC ?_ ?_ ?_ ?_) (by simp) (λy WC=>?_)
   ·simp
   ·simp[eA]
   ·simp[eA]
   ·simp[eA]
   obtain⟨O,hO⟩:∃O,eA es own y=O:=⟨_,rfl⟩;obtain⟨pw,ME⟩:=zR own hz1 y WC;rw[hO]at pw ME;obtain⟨m1,wA⟩:∃m1:Bool,decide (O≠own)=m1:=⟨_,rfl⟩;rw[hO,wA];refine aa.seq ?_;refine aa.ab ay fw [1,4,5,7,8,38] ?_;simp[Rn];refine aa.cond rfl (λbM=>?_) (λbM=>?_)
   ·have bM:y<es.length:=by simpa using bM
    refine aa.skip ?_;simp;refine aa.seq ?_;refine aa.block ?_;have rr:=vT bM;obtain⟨⟨xh,xt,xc,x0,x1⟩,hx⟩:∃x,es.getD y default=x:=⟨_,rfl⟩;rw[hx]at rr;have hxo:Bz nd ⟨xh,xt,xc,x0,x1⟩:=g4 _ (by rw[<-hx];exact bw bM);have XN:=lG O pw _ hxo;obtain⟨q1,q2,q3,q4,q5,q6⟩:=hxo;simp only at q1 q2 q3 q4 q5 q6;obtain⟨xh,rfl⟩:=Zad q1;refine aa.ab ay fw [1,4,5,7,8,9] ?_;simp[Ro,bM,rr,dj.enc];refine aa.le (Le.aC (o:=[(1217,.arr 0 55 2 (bI (O))),(1420,.arr 0 3 1 (aB (List.replicate nd.toNat (-1))))]) (l:=[(1,.v (.box [ti nd,.sl (cm es)])),(4,.bk 1217 0),(5,.bk 1420 0),(7,.v (.bool m1)),(8,.v (ti y)),(9,.v (.box [ti xh,.sl (aB xt),ti xc,ti x0,ti x1]))]) (nxt':=4200) ?_ ?_ ?_ ?_) ?_;iterate 4(·simp)
    have ht3:∀t∈xt,0<=t/\t<O.length:=λt ht=>by have:=q3 t ht;have:=pw.1;omega
    have htv:=xD pw q3;have D4:(fD O xt).length<=1000000:=by simpa [fD]using q6
    obtain⟨⟨wc,wz⟩,hw⟩:∃w,comb xc (fD O xt)=w:=⟨_,rfl⟩;refine aa.iG ay fw (rs:=fm EL [none,some [],some [],none,some [1217],some [4251],none,some [4211]]) (.inr ⟨_,rfl⟩) (by kernel_rfl) [1,4,5,7,8,9,10] ?_;simp[EL,fm,b8,bm,names,and_assoc,q6,D4,hw];refine⟨ht3,htv, ?_⟩;repeat (refine⟨by omega, ?_⟩)
    refine aa.le (Le.aC (o:=[(1217,.arr 0 55 2 (bI (O))),(1420,.arr 0 3 1 (aB (List.replicate nd.toNat (-1))))]) (l:=[(1,.v (.box [ti nd,.sl (cm es)])),(4,.bk 1217 0),(5,.bk 1420 0),(7,.v (.bool m1)),(8,.v (ti y)),(9,.v (.box [ti xh,.sl (aB xt),ti xc,ti x0,ti x1])),(10,.v (.box [ti wc,ti wz]))]) (nxt':=4400) ?_ ?_ ?_ ?_) ?_;iterate 4(·simp)
    have KX:xh<O.length:=by have:=pw.1;omega
    have ro:=dP KX;obtain⟨⟨uc,uz⟩,hu⟩:∃w,O.getD xh default=w:=⟨_,rfl⟩;rw[hu]at ro;obtain⟨c1,bb⟩:∃c1:Bool,decide ((⟨wc,wz⟩:br).lt ⟨uc,uz⟩)=c1:=⟨_,rfl⟩;refine aa.ab ay fw [1,4,5,7,8,9,10,58] ?_;simp[Rp,KX,ro,bb];refine aa.cond rfl (λh5=>?_) (λh5=>?_)
    ·have h5:c1=true:=by simpa using h5
     rw[h5]at bb;have bb:=of_decide_eq_true bb;have hS0:vU O ⟨xh,xt,xc,x0,x1⟩=O.set xh ⟨wc,wz⟩:=by unfold vU;simp only[hw,hu,Zak];rw[if_pos bb]
     have yL:eA es own (y+1)=O.set xh ⟨wc,wz⟩:=by rw[rP,hO,hx,hS0]
     have bG:¬eA es own (y+1)=own:=by
      intro e;have h6:iS (O.set xh ⟨wc,wz⟩)<iS O:=by
       refine Du KX ?_;rw[hu];exact Np (by rw[<-hw];exact iH htv q4 q5) (by rw[<-hu];exact pw.2 _ (bw KX)) bb
      rw[<-yL,e]at h6;rcases ME with h|h
      ·rw[h]at h6;omega
      ·omega
     refine aa.ab ay fw [1,4,5,8] ?_;simp[Rq,KX,ro];refine aa.dm ay fw [1,4,5,7,8] ?_;simp[Rr];refine aa.dm ay fw [1,4,5,7,8] ?_;simp[Kg];rw[au (x:=(y:Int)+1) (by omega)];refine⟨y+1,Le.aC ?_ ?_ ?_ ?_,by omega,by omega⟩
     ·simp
     ·simp
     ·simp[yL,sG]
     ·simp;simpa using bG
    ·have h5:c1=false:=by simpa using h5
     rw[h5]at bb;have bb:=of_decide_eq_false bb;have yL:eA es own (y+1)=O:=by rw[rP,hO,hx];unfold vU;simp only[hw,hu,Zak];rw[if_neg bb]
     have bG:=wA;rw[<-yL]at bG;refine aa.skip ?_;simp;refine aa.dm ay fw [1,4,5,7,8] ?_;simp[Kg];rw[au (x:=(y:Int)+1) (by omega)];refine⟨y+1,Le.aC ?_ ?_ ?_ ?_,by omega,by omega⟩
     ·simp
     ·simp
     ·simp[yL,sG]
     ·simp;simpa using bG
   ·have wT:y=es.length:=by simp at bM;omega
    subst wT;have CZ:=K0 (zR own hz1 _ (Zae _)).2 hf1 XL;simp only[hO]at CZ;have hdec:2*iS O+(if m1 then 1 else 0)<2*iS own+1:=by
     by_cases e:O=own
     ·have Eg:m1=false:=by rw[<-wA];simp[e]
      subst Eg;rw[e];simp
     ·have:=(CZ.1 e).1;cases m1<;>simp<;>omega
    refine aa.exit ?_;simp;refine⟨⟨O,m1⟩,Le.aC ?_ ?_ ?_ ?_,⟨pw,λh=>(CZ.1 (of_decide_eq_true (wA.trans h))).2,λh=>by have e:=Classical.not_not.1 (of_decide_eq_false (wA.trans h));simp only;rw[e];exact CZ.2 e⟩,by simpa using hdec⟩;iterate 3(·simp)
    ·simp
  ·have hm:more=false:=by simpa using hm
   subst hm;have XK:=XK rfl;subst XK;refine aa.exit ?_;simp;refine aa.seq ?_;refine aa.ab ay fw [1,4,5,11] ?_;simp[Rs,au (x:=(es.length:Int)-1) (by omega)];refine aa.block ?_;refine aa.loop (λj:Nat=>⟨DM.look [(1,.v (.box [ti nd,.sl (cm es)])),(4,.bk 1217 0),(5,.bk 1420 0),(11,.v (ti ((es.length:Int)-1-j)))],cC [(1217,.arr 0 55 2 (bI (own))),(1420,.arr 0 3 1 (aB (tu es own nd j)))],5000,1000,[]⟩)
    (λj=>j<=es.length) (λj=>es.length-j) 0 (Le.aC ?_ ?_ ?_ ?_) (by simp) (λj hj=>?_)
   ·simp
   ·simp
   ·simp[tu]
   ·simp
   obtain⟨G,hG⟩:∃G,tu es own nd j=G:=⟨_,rfl⟩;have hGl:=O8 es own g1 j;rw[hG]at hGl;rw[hG];obtain⟨k,hk⟩:∃k,(es.length:Int)-1-j=k:=⟨_,rfl⟩;rw[hk];refine aa.seq ?_;refine aa.ab ay fw [1,4,5,11,69] ?_;simp[Rt];refine aa.cond rfl (λh9=>?_) (λh9=>?_)
   ·have h9:0<=k:=by simpa using h9
    obtain⟨k,rfl⟩:=Zad h9;have WB:k<es.length:=by omega
    have hke:es.length-1-j=k:=by omega
    refine aa.skip ?_;simp;refine aa.seq ?_;refine aa.block ?_;have rr:=vT WB;obtain⟨⟨xh,xt,xc,x0,x1⟩,hx⟩:∃x,es.getD k default=x:=⟨_,rfl⟩;rw[hx]at rr;have hxo:Bz nd ⟨xh,xt,xc,x0,x1⟩:=g4 _ (by rw[<-hx];exact bw WB);obtain⟨q1,q2,q3,q4,q5,q6⟩:=hxo;simp only at q1 q2 q3 q4 q5 q6;obtain⟨xh,rfl⟩:=Zad q1;refine aa.ab ay fw [1,4,5,11,12] ?_;simp[Ru,WB,rr,dj.enc];refine aa.le (Le.aC (o:=[(1217,.arr 0 55 2 (bI (own))),(1420,.arr 0 3 1 (aB (G)))]) (l:=[(1,.v (.box [ti nd,.sl (cm es)])),(4,.bk 1217 0),(5,.bk 1420 0),(11,.v (ti k)),(12,.v (.box [ti xh,.sl (aB xt),ti xc,ti x0,ti x1]))]) (nxt':=5200) ?_ ?_ ?_ ?_) ?_;iterate 4(·simp)
    have KX:xh<own.length:=by have:=hRo.1;omega
    have ro:=dP KX;obtain⟨⟨uc,uz⟩,hu⟩:∃w,own.getD xh default=w:=⟨_,rfl⟩;rw[hu]at ro;refine aa.ab ay fw [1,4,5,11,12,13] ?_;simp[Rv,KX,ro];refine aa.le (Le.aC (o:=[(1217,.arr 0 55 2 (bI (own))),(1420,.arr 0 3 1 (aB (G)))]) (l:=[(1,.v (.box [ti nd,.sl (cm es)])),(4,.bk 1217 0),(5,.bk 1420 0),(11,.v (ti k)),(12,.v (.box [ti xh,.sl (aB xt),ti xc,ti x0,ti x1])),(13,.v (.box [ti uc,ti uz]))]) (nxt':=5400) ?_ ?_ ?_ ?_) ?_;iterate 4(·simp)
    have ht3:∀t∈xt,0<=t/\t<own.length:=λt ht=>by have:=q3 t ht;have:=hRo.1;omega
    have htv:=xD hRo q3;have D4:(fD own xt).length<=1000000:=by simpa [fD]using q6
    obtain⟨⟨wc,wz⟩,hw⟩:∃w,comb xc (fD own xt)=w:=⟨_,rfl⟩;obtain⟨c1,bb⟩:∃c1:Bool,decide (uc<1099511627776/\(⟨wc,wz⟩:br)=⟨uc,uz⟩)=c1:=⟨_,rfl⟩;refine aa.seq ?_;refine aa.to ⟨DM.look [(1,.v (.box [ti nd,.sl (cm es)])),(4,.bk 1217 0),(5,.bk 1420 0),(11,.v (ti k)),(12,.v (.box [ti xh,.sl (aB xt),ti xc,ti x0,ti x1])),(94,.v (.bool c1))],cC [(1217,.arr 0 55 2 (bI (own))),(1420,.arr 0 3 1 (aB (G)))],6000,1000,[]⟩ ?_ ?_
    ·by_cases k1:uc<1099511627776
     ·refine aa.tR ay fw (rs:=fm vA [none,some [],none,none,none,some [],some [],none,some [1217],some [5491],some [],some [],none]) (.inr ⟨_,rfl⟩) (by kernel_rfl) [1,4,5,11,12,94] ?_;simp[fm,vA,b8,bm,names,and_assoc,k1,q6,D4,hw];refine⟨ht3,htv,by omega,by omega, ?_⟩;have:c1=(decide (wc=uc)&&decide (wz=uz)):=by rw[<-bb];simp[k1]
      rw[this];exact Le.aC (by simp) (by simp) (by simp) (by simp)
     ·have:c1=false:=by rw[<-bb];simp[k1]
      refine aa.tR ay fw (rs:=fm vA [none,some [],none,none,none,some [],some [],none,some [1217],some [5491],some [],some [],none]) (.inr ⟨_,rfl⟩) (by kernel_rfl) [1,4,5,11,12,94] ?_;simp[fm,vA,b8,bm,names,k1];subst this;exact Le.aC (by simp) (by simp) (by simp) (by simp)
    simp only[yr];refine aa.cond rfl (λh8=>?_) (λh8=>?_)
    ·have h8:c1=true:=by simpa using h8
     rw[h8]at bb;have bb:=of_decide_eq_true bb;have hS2:stepG es own G j=G.set xh (k:Int):=by unfold stepG;rw[hke,hx];simp only[hw,hu,Zak];rw[if_pos bb]
     have hgl2:xh<G.length:=by omega
     have rg:=cO hgl2;refine aa.dm ay fw [1,4,5,11] ?_;simp[Rw,hgl2,rg];refine aa.dm ay fw [1,4,5,11] ?_;simp[Kh];rw[au (x:=(k:Int)-1) (by omega)];refine⟨j+1,Le.aC ?_ ?_ ?_ ?_,by omega,by omega⟩
     ·simp
     ·simp
     ·simp[uj,hG,hS2,sH]
     ·simp;omega
    ·have h8:c1=false:=by simpa using h8
     rw[h8]at bb;have bb:=of_decide_eq_false bb;have hS2:stepG es own G j=G:=by unfold stepG;rw[hke,hx];simp only[hw,hu,Zak];rw[if_neg bb]
     refine aa.skip ?_;simp;refine aa.dm ay fw [1,4,5,11] ?_;simp[Kh];rw[au (x:=(k:Int)-1) (by omega)];refine⟨j+1,Le.aC ?_ ?_ ?_ ?_,by omega,by omega⟩
     ·simp
     ·simp
     ·simp[uj,hG,hS2,sH]
     ·simp;omega
   ·have h9:¬0<=k:=by simpa using h9
    have Y2:j=es.length:=by omega
    subst Y2;subst hG;refine aa.exit ?_;simp;refine aa.ab ay fw [2,3] ?_;simp[Rx];refine aa.ret ?_;simp[Ry]
theorem Il{n:aG}{ins:List Int}(hn:eP n)(hp:eV n ins):hOk n.an (uh n ins):=by
 have h:=hn.ok;obtain⟨p1,p2⟩:=hp;refine⟨by have:=h.1;omega,by have:=h.2.1;omega,by simp only[uh,Zbt];have:=h.2.2.1;omega,λe he=>?_⟩;simp only[uh,Zal]at he;obtain⟨r,hr,rfl⟩:=he;obtain⟨q1,q2,q3,q4,q5⟩:=h.2.2.2 r hr;have hc:0<=(jF ins r).cost/\(jF ins r).cost<=4000000000000:=by
  unfold jF;split
  ·rename_i h2;have ha:r.a.toNat<ins.length:=by omega
   have:=p2 _ ha;unfold Ff at this;simp only;omega
  ·simp only;omega
 refine⟨q1,q2,λt ht=>?_,hc.1,hc.2,by have:=KZ r;simp only[jF];omega⟩;simp only[jF,j8]at ht;split at ht
 ·simp only[Zah]at ht;omega
 ·split at ht
  ·simp only[Zag,Zap,or_false]at ht;omega
  ·cases ht
def j9(n:aG)(ins:List Int):List br:=if eP n/\eV n ins then ui n.an (uh n ins)else []
abbrev s20:DM.Spec:=cy (λts=>∃a b c l,ts=[.agg [ti a,ti b,ti c,.sl (aR l)]]/\l.length<=9223372036854775807) (fun|[n]=>.bool (decide (eP (nS n)))|_=>.bool false) true
abbrev s44:DM.Spec:=cy (λts=>∃a b c l i,ts=[.agg [ti a,ti b,ti c,.sl (aR l)],.sl (aB i)]/\i.length<=9223372036854775807) (fun|[n,.sl i]=>.bool (decide (eV (nS n) (fq i)))|_=>.bool false) true
abbrev s67:DM.Spec:=cy (λts=>∃a b c l i,ts=[.agg [ti a,ti b,ti c,.sl (aR l)],.sl (aB i)]/\oX ⟨a,b,c,l⟩/\eV ⟨a,b,c,l⟩ i) (fun|[n,.sl i]=>.agg [ti (nS n).an,.sl (cm (uh (nS n) (fq i)))]|_=>.bool false) false
abbrev s66:DM.Spec:=cy (λts=>∃nd es,ts=[.agg [ti nd,.sl (cm es)]]/\hOk nd es) (fun|[.agg [.int _ nd,.sl es]]=>.eG [.sl (bI (ui nd (By es))),.sl (aB (tu (By es) (ui nd (By es)) nd es.length))]|_=>.bool false) false
abbrev s45:DM.Spec:=cy (λts=>∃a b c l i,ts=[.agg [ti a,ti b,ti c,.sl (aR l)],.sl (aB i)]/\l.length<=9223372036854775807/\i.length<=9223372036854775807) (fun|[n,.sl i]=>.sl (bI (j9 (nS n) (fq i)))|_=>.bool false) false
theorem okV1:aw Tryz.prog (aX [(20,s20),(44,s44),(67,s67),(66,s66)]):=by
 refine aw.cons (aw.cons (aw.cons (aw.cons aw.nil ?_) ?_) ?_) ?_
 ·rintro ts ⟨nd,es,rfl,h⟩;exact⟨by simpa using t66 nd es h,λh=>by cases h⟩
 ·rintro ts ⟨a,b,c,l,i,rfl,h1,h2⟩;exact⟨by simpa [aG.enc]using t67 ⟨a,b,c,l⟩ i h1 h2,λh=>by cases h⟩
 ·rintro ts ⟨a,b,c,l,i,rfl,h⟩;exact⟨by simpa [aG.enc]using t44 ⟨a,b,c,l⟩ i h,λ_=>rfl⟩
 ·rintro ts ⟨a,b,c,l,rfl,h⟩;exact⟨by simpa [aG.enc]using t20 ⟨a,b,c,l⟩ h,λ_=>rfl⟩
theorem t45(n:aG)(ins:List Int)(h1:n.rules.length<=9223372036854775807)(h2:ins.length<=9223372036854775807):aU Tryz.prog 45 [n.enc,.sl (aB ins)] (.sl (bI (j9 n ins))):=by
 obtain⟨R,hR⟩:∃R,j9 n ins=R:=⟨_,rfl⟩;rw[hR];unfold j9 at hR;obtain⟨nt,nn,ns,rules⟩:=n;simp only at h1;have ay:=okV1;refine c45.ok (by simp) (aK ?_);simp[aG.enc];refine aa.ab ay fw [1,2] ?_;simp[GY];refine aa.le (Le.aC (o:=[]) (l:=[(1,.v (.sl (aB ins))),(2,.v (.box [ti nt,ti nn,ti ns,.sl (aR rules)]))]) (nxt':=1200) ?_ ?_ ?_ ?_) ?_;iterate 4(·simp)
 refine aa.seq ?_;obtain⟨c1,bb⟩:∃c1:Bool,decide (¬eP ⟨nt,nn,ns,rules⟩\/¬eV ⟨nt,nn,ns,rules⟩ ins)=c1:=⟨_,rfl⟩;refine aa.bY ay fw [(1,.v (.sl (aB ins))),(2,.v (.box [ti nt,ti nn,ti ns,.sl (aR rules)])),(15,.v (.bool c1))] ?_ ?_
 ·by_cases q1:eP ⟨nt,nn,ns,rules⟩
  ·by_cases q2:eV ⟨nt,nn,ns,rules⟩ ins
   ·have:c1=false:=by rw[<-bb];simp[q1,q2]
    simp[A0,and_assoc,h1,h2,q1,q2,this]
   ·have:c1=true:=by rw[<-bb];simp[q2]
    simp[A0,and_assoc,h1,h2,q1,q2,this]
  ·have:c1=true:=by rw[<-bb];simp[q1]
   simp[A0,and_assoc,h1,q1,this]
 refine aa.cond rfl (λg=>?_) (λg=>?_)
 ·rw[g]at bb;have bb:=of_decide_eq_true bb;rw[if_neg (λh=>bb.elim (λq=>q h.1) (λq=>q h.2))]at hR;subst hR;refine aa.ab ay fw [4] ?_;simp[GZ];refine aa.ret ?_;simp[tZ]
 ·rw[g]at bb;have bb:=of_decide_eq_false bb;simp only[not_or,Classical.not_not]at bb;obtain⟨zm,jl⟩:=bb;refine aa.skip ?_;simp;rw[if_pos ⟨zm,jl⟩]at hR;have hg:=Il zm jl;have hn:=zm.ok;simp only at hR hg;refine aa.ab ay fw [5] ?_;simp[G0,and_assoc,hn,jl,hg,hR];refine aa.ab ay fw [4] ?_;simp[Ha];refine aa.ret ?_;simp[tZ]
def uk(v:List br)(i:Nat):Prop:=¬(v.getD i default).size>1000
instance(v:List br)(i:Nat):Decidable (uk v i):=by unfold uk;infer_instance
def Cx(n:aG)(ins:List Int):Prop:=(eP n/\eV n ins)/\∀i,i<(j9 n ins).length->uk (j9 n ins) i
instance(n:aG)(ins:List Int):Decidable (Cx n ins):=by unfold Cx;infer_instance
theorem okV2:aw Tryz.prog (aX [(20,s20),(44,s44),(45,s45)]):=by
 refine aw.cons (aw.cons (aw.cons aw.nil ?_) ?_) ?_
 ·rintro ts ⟨a,b,c,l,i,rfl,h1,h2⟩;exact⟨by simpa [aG.enc]using t45 ⟨a,b,c,l⟩ i h1 h2,λh=>by cases h⟩
 ·rintro ts ⟨a,b,c,l,i,rfl,h⟩;exact⟨by simpa [aG.enc]using t44 ⟨a,b,c,l⟩ i h,λ_=>rfl⟩
 ·rintro ts ⟨a,b,c,l,rfl,h⟩;exact⟨by simpa [aG.enc]using t20 ⟨a,b,c,l⟩ h,λ_=>rfl⟩
theorem Im{n:aG}{ins:List Int}(h1:eP n)(h2:eV n ins):(j9 n ins).length<=1000:=by
 unfold j9;rw[if_pos ⟨h1,h2⟩];have:=(Dw (Il h1 h2)).1;have:=h1.ok.2.1;omega
theorem t22(n:aG)(ins:List Int)(h1:n.rules.length<=9223372036854775807)(h2:ins.length<=9223372036854775807):aU Tryz.prog 22 [n.enc,.sl (aB ins)] (.bool (decide (Cx n ins))):=by
 obtain⟨v,hv⟩:∃v,decide (Cx n ins)=v:=⟨_,rfl⟩;rw[hv];have cY:Cx n ins↔(eP n/\eV n ins)/\∀i,i<(j9 n ins).length->uk (j9 n ins) i:=Iff.rfl;have bad:¬Cx n ins->v=false:=λh=>by rw[<-hv];simp[h]
 have T9:=λa b=>Im (n:=n) (ins:=ins) a b;obtain⟨V,hV⟩:∃V,j9 n ins=V:=⟨_,rfl⟩;rw[hV]at cY T9;obtain⟨nt,nn,ns,rules⟩:=n;simp only at h1;have ay:=okV2;refine c22.ok (by simp) (aK ?_);simp[aG.enc];refine aa.ab ay fw [1,2] ?_;simp[Z0];refine aa.le (Le.aC (o:=[]) (l:=[(1,.v (.sl (aB ins))),(2,.v (.box [ti nt,ti nn,ti ns,.sl (aR rules)]))]) (nxt':=1200) ?_ ?_ ?_ ?_) ?_;iterate 4(·simp)
 refine aa.seq ?_;obtain⟨c1,bb⟩:∃c1:Bool,decide (¬eP ⟨nt,nn,ns,rules⟩\/¬eV ⟨nt,nn,ns,rules⟩ ins)=c1:=⟨_,rfl⟩;refine aa.bY ay fw [(1,.v (.sl (aB ins))),(2,.v (.box [ti nt,ti nn,ti ns,.sl (aR rules)])),(15,.v (.bool c1))] ?_ ?_
 ·by_cases q1:eP ⟨nt,nn,ns,rules⟩
  ·by_cases q2:eV ⟨nt,nn,ns,rules⟩ ins
   ·have:c1=false:=by rw[<-bb];simp[q1,q2]
    simp[MU,and_assoc,h1,h2,q1,q2,this]
   ·have:c1=true:=by rw[<-bb];simp[q2]
    simp[MU,and_assoc,h1,h2,q1,q2,this]
  ·have:c1=true:=by rw[<-bb];simp[q1]
   simp[MU,and_assoc,h1,q1,this]
 refine aa.cond rfl (λg=>?_) (λg=>?_)
 ·rw[g]at bb;have bb:=of_decide_eq_true bb;refine aa.ab ay fw [4] ?_;simp[Z1];refine aa.ret ?_;rw[bad λh=>bb.elim (λq=>q (cY.1 h).1.1) (λq=>q (cY.1 h).1.2)];simp[EO]
 ·rw[g]at bb;have bb:=of_decide_eq_false bb;simp only[not_or,Classical.not_not]at bb;obtain⟨zm,jl⟩:=bb;refine aa.skip ?_;simp;have hVl:=T9 zm jl;refine aa.ab ay fw [5] ?_;simp[Z2,and_assoc,h1,h2,hV];refine aa.seq ?_;refine aa.ab ay fw [5,6] ?_;simp[Z3];refine aa.block ?_;refine aa.loop (λy:Nat=>⟨DM.look [(5,.v (.sl (bI V))),(6,.v (ti y))],cC [],2000,1000,[]⟩)
   (λy=>y<=V.length/\∀i,i<y->uk V i) (λy=>V.length-y) 0 (Le.aC (o:=[]) ?_ ?_ ?_ ?_) (by simp) (λy hy=>?_)
  iterate 4(·simp)
  obtain⟨jU,fl⟩:=hy;refine aa.seq ?_;refine aa.ab ay fw [5,6,22] ?_;simp[Z4];refine aa.cond rfl (λbM=>?_) (λbM=>?_)
  ·have bM:y<V.length:=by simpa using bM
   refine aa.skip ?_;simp;refine aa.seq ?_;refine aa.block ?_;have rr:=dP bM;obtain⟨x,hx⟩:∃x,V.getD y default=x:=⟨_,rfl⟩;rw[hx]at rr;refine aa.ab ay fw [5,6,30] ?_;simp[Z5,bM,rr];refine aa.cond rfl (λh8=>?_) (λh8=>?_)
   ·have h8:x.size>1000:=by simpa using h8
    refine aa.ab ay fw [4] ?_;simp[Z6];refine aa.ret ?_;rw[bad λh=>by have:=(cY.1 h).2 y bM;unfold uk at this;rw[hx]at this;exact this h8];simp[EO]
   ·have h8:¬x.size>1000:=by simpa using h8
    refine aa.skip ?_;simp;refine aa.dm ay fw [5,6] ?_;simp[Z7];rw[au (x:=(y:Int)+1) (by omega)];refine⟨y+1,Le.aC (o:=[]) ?_ ?_ ?_ ?_,⟨by omega,λi hi=>?_⟩,by omega⟩;iterate 4(·simp)
    ·by_cases e:i=y
     ·subst e;unfold uk;rw[hx];exact h8
     ·exact fl i (by omega)
  ·have WC:y=V.length:=by simp at bM;omega
   subst WC;refine aa.exit ?_;simp;refine aa.ab ay fw [4] ?_;simp[Z8];refine aa.ret ?_;have:v=true:=by rw[<-hv];exact decide_eq_true (cY.2 ⟨⟨zm,jl⟩,fl⟩)
   rw[this];simp[EO]
def zf(z:Ask):Prop:=(¬((z.n.rules.length:Int)>14\/z.n.an>8\/z.n.aW>5\/¬eP z.n\/(z.x.aj.length:Int)>4\/(z.new.length:Int)>3\/¬Dj z.x z.n.aW\/z.fr<0\/z.od<0\/z.fr>z.x.aj.length\/z.od>z.x.aj.length-z.fr))/\Dj (nT z) z.n.aW/\Cx z.n z.x.insert
instance(z:Ask):Decidable (zf z):=by unfold zf;infer_instance
abbrev s21:DM.Spec:=cy (λts=>∃a b c t,ts=[.agg [.sl (aV a),.sl (aB b),ti c],ti t]/\t<=1000000000000) (fun|[x,.int _ t]=>.bool (decide (Dj (Cw x) t))|_=>.bool false) true
abbrev s22:DM.Spec:=cy (λts=>∃a b c l i,ts=[.agg [ti a,ti b,ti c,.sl (aR l)],.sl (aB i)]/\l.length<=9223372036854775807/\i.length<=9223372036854775807) (fun|[n,.sl i]=>.bool (decide (Cx (nS n) (fq i)))|_=>.bool false) true
abbrev s14:DM.Spec:=cy (λts=>∃nt nn ns rules ct ins sw fr od new,ts=[.agg [ti nt,ti nn,ti ns,.sl (aR rules),.sl (aV ct),.sl (aB ins),ti sw,ti fr,ti od,.sl (aV new)]]/\TN ⟨⟨nt,nn,ns,rules⟩,⟨ct,ins,sw⟩,fr,od,new⟩)
 (fun|[.agg [_,_,_,_,.sl c,.sl i,.int _ s,.int _ fr,.int _ od,.sl nw]]=>.agg [.sl (aV (cz ⟨fJ c,fq i,s⟩ fr.toNat od.toNat (fJ nw)).aj),.sl (aB (cz ⟨fJ c,fq i,s⟩ fr.toNat od.toNat (fJ nw)).insert),ti (cz ⟨fJ c,fq i,s⟩ fr.toNat od.toNat (fJ nw)).swap]|_=>.bool false) false
theorem TO{l:List (Nat×DM.Spec)}(h:aw Tryz.prog (aX l)):aw Tryz.prog (aX ((14,s14)::l)):=by
 refine aw.cons h ?_;rintro ts ⟨nt,nn,ns,rules,ct,ins,sw,fr,od,new,rfl,h⟩;exact⟨by simpa [Ask.enc,Input.enc,nT]using t14 ⟨⟨nt,nn,ns,rules⟩,⟨ct,ins,sw⟩,fr,od,new⟩ h,λh=>by cases h⟩
theorem okM:aw Tryz.prog (aX [(14,s14),(20,s20),(21,s21),(22,s22)]):=by
 refine TO (aw.cons (aw.cons (aw.cons aw.nil ?_) ?_) ?_)
 ·rintro ts ⟨a,b,c,l,i,rfl,h1,h2⟩;exact⟨by simpa [aG.enc]using t22 ⟨a,b,c,l⟩ i h1 h2,λ_=>rfl⟩
 ·rintro ts ⟨a,b,c,t,rfl,h⟩;exact⟨by simpa [Input.enc]using t28 ⟨a,b,c⟩ t h,λ_=>rfl⟩
 ·rintro ts ⟨a,b,c,l,rfl,h⟩;exact⟨by simpa [aG.enc]using t20 ⟨a,b,c,l⟩ h,λ_=>rfl⟩
theorem t9(z:Ask)(hl:z.n.rules.length<=9223372036854775807/\z.x.insert.length<=9223372036854775807):aU Tryz.prog 9 [z.enc] (.bool (decide (zf z))):=by
 obtain⟨⟨nt,nn,ns,rules⟩,⟨ct,ins,sw⟩,fr,od,new⟩:=z;obtain⟨wC,qj⟩:=hl;simp only at wC qj;obtain⟨v,hv⟩:∃v,decide (zf ⟨⟨nt,nn,ns,rules⟩,⟨ct,ins,sw⟩,fr,od,new⟩)=v:=⟨_,rfl⟩;rw[hv];have cY:zf ⟨⟨nt,nn,ns,rules⟩,⟨ct,ins,sw⟩,fr,od,new⟩↔(¬((rules.length:Int)>14\/nn>8\/nt>5\/¬eP ⟨nt,nn,ns,rules⟩\/(ct.length:Int)>4\/(new.length:Int)>3\/¬Dj ⟨ct,ins,sw⟩ nt\/fr<0\/od<0\/fr>ct.length\/od>ct.length-fr))/\Dj (nT ⟨⟨nt,nn,ns,rules⟩,⟨ct,ins,sw⟩,fr,od,new⟩) nt/\Cx ⟨nt,nn,ns,rules⟩ ins:=Iff.rfl;have bad:¬zf ⟨⟨nt,nn,ns,rules⟩,⟨ct,ins,sw⟩,fr,od,new⟩->v=false:=λh=>by rw[<-hv];simp[h]
 have ay:=okM;refine c9.ok (by simp) (aK ?_);simp[Ask.enc];refine aa.ab ay fw [1] ?_;simp[d9r0];refine aa.le (Le.aC (o:=[]) (l:=[(1,.v (.box [ti nt,ti nn,ti ns,.sl (aR rules),.sl (aV ct),.sl (aB ins),ti sw,ti fr,ti od,.sl (aV new)]))]) (nxt':=1200) ?_ ?_ ?_ ?_) ?_;iterate 4(·simp)
 refine aa.seq ?_;obtain⟨c1,bb⟩:∃c1:Bool,decide ((rules.length:Int)>14\/nn>8\/nt>5\/¬eP ⟨nt,nn,ns,rules⟩\/(ct.length:Int)>4\/(new.length:Int)>3\/¬Dj ⟨ct,ins,sw⟩ nt\/fr<0\/od<0\/fr>ct.length\/od>ct.length-fr)=c1:=⟨_,rfl⟩;refine aa.bY ay fw [(1,.v (.box [ti nt,ti nn,ti ns,.sl (aR rules),.sl (aV ct),.sl (aB ins),ti sw,ti fr,ti od,.sl (aV new)])),(78,.v (.bool c1))] ?_ ?_
 ·by_cases q1:(rules.length:Int)>14
  ·have:c1=true:=by rw[<-bb];simp[q1]
   simp[xo,and_assoc,q1,this]
  ·skip
   by_cases q2:nn>8
   ·have:c1=true:=by rw[<-bb];simp[q2]
    simp[xo,and_assoc,q1,q2,this]
   ·skip
    by_cases q3:nt>5
    ·have:c1=true:=by rw[<-bb];simp[q3]
     simp[xo,and_assoc,q1,q2,q3,this]
    ·skip
     have lQ:rules.length<=9223372036854775807:=by omega
     by_cases q4:¬eP ⟨nt,nn,ns,rules⟩
     ·have:c1=true:=by rw[<-bb];simp[q4]
      simp[xo,and_assoc,q1,q2,q3,q4,this,lQ]
     ·skip
      have q4:=Classical.not_not.1 q4;by_cases q5:(ct.length:Int)>4
      ·have:c1=true:=by rw[<-bb];simp[q5]
       simp[xo,and_assoc,q1,q2,q3,q4,q5,this,lQ]
      ·skip
       by_cases q6:(new.length:Int)>3
       ·have:c1=true:=by rw[<-bb];simp[q6]
        simp[xo,and_assoc,q1,q2,q3,q4,q5,q6,this,lQ]
       ·skip
        have pZ:nt<=1000000000000:=by omega
        by_cases q7:¬Dj ⟨ct,ins,sw⟩ nt
        ·have:c1=true:=by rw[<-bb];simp[q7]
         simp[xo,and_assoc,q1,q2,q3,q4,q5,q6,q7,this,lQ,pZ]
        ·skip
         have q7:=Classical.not_not.1 q7;by_cases q8:fr<0
         ·have:c1=true:=by rw[<-bb];simp[q8]
          simp[xo,and_assoc,q1,q2,q3,q4,q5,q6,q7,q8,this,lQ,pZ]
         ·skip
          by_cases q9:od<0
          ·have:c1=true:=by rw[<-bb];simp[q9]
           simp[xo,and_assoc,q1,q2,q3,q4,q5,q6,q7,q8,q9,this,lQ,pZ]
          ·skip
           by_cases WA:fr>ct.length
           ·have:c1=true:=by rw[<-bb];simp[WA]
            simp[xo,and_assoc,q1,q2,q3,q4,q5,q6,q7,q8,q9,WA,this,lQ,pZ]
           ·skip
            have w3:IntKind.i64.wrap ((ct.length:Int)-fr)=(ct.length:Int)-fr:=au (by omega);by_cases q11:od>ct.length-fr
            ·have:c1=true:=by rw[<-bb];simp[q11]
             simp[xo,and_assoc,q1,q2,q3,q4,q5,q6,q7,q8,q9,WA,q11,this,lQ,pZ,w3]
            ·skip
             have:c1=false:=by rw[<-bb];simp[q1,q2,q3,q4,q5,q6,q7,q8,q9,WA,q11]
             simp[xo,and_assoc,q1,q2,q3,q4,q5,q6,q7,q8,q9,WA,q11,this,lQ,pZ,w3]
 refine aa.cond rfl (λg=>?_) (λg=>?_)
 ·rw[g]at bb;have bb:=of_decide_eq_true bb;refine aa.ab ay fw [2] ?_;simp[d9r2];refine aa.ret ?_;rw[bad λh=>(cY.1 h).1 bb];simp[Sj]
 ·rw[g]at bb;have bb:=of_decide_eq_false bb;have qN:TN ⟨⟨nt,nn,ns,rules⟩,⟨ct,ins,sw⟩,fr,od,new⟩:=by
   refine⟨?_, ?_, ?_, ?_, ?_, ?_⟩<;>simp only<;>omega
  refine aa.skip ?_;simp;have pZ:nt<=1000000000000:=by omega
  obtain⟨A,hA⟩:∃A,cz ⟨ct,ins,sw⟩ fr.toNat od.toNat new=A:=⟨_,rfl⟩;have jl:(decide (Dj A nt)&&decide (Cx ⟨nt,nn,ns,rules⟩ ins))=v:=by
   rw[<-hv,<-Bool.decide_and,decide_eq_decide,cY,show nT ⟨⟨nt,nn,ns,rules⟩,⟨ct,ins,sw⟩,fr,od,new⟩=A from hA];exact⟨λh=>⟨bb,h⟩,λh=>h.2⟩
  obtain⟨ac,ai,az⟩:=A;refine aa.bY ay fw [(2,.v (.bool v))] ?_ ?_
  ·by_cases q1:Dj ⟨ac,ai,az⟩ nt
   ·simp[d9r3,and_assoc,qN,hA,pZ,wC,qj,q1]at jl⊢;exact jl
   ·simp[d9r3,and_assoc,qN,hA,pZ,wC,qj,q1]at jl⊢;exact jl
  refine aa.ret ?_;simp[Sj]
def ku(x:Input):Prop:=H2 x/\x.aj.length<=60/\x.insert.length<=100/\∀c∈x.aj,c.read.length=x.insert.length
theorem pJ{x:Input}(h:ku x):vH (aI x):=by
 obtain⟨h1,h2,h3,h4⟩:=h;have hs:(aI x).aP=2*x.aj.length+1:=rfl;have ha:(aI x).aD=dS x:=rfl;refine⟨by omega,by omega,by rw[ha];have:=x8 h3 h2;omega,λa hm=>?_⟩;rw[ha]at hm;have h5:=(E8 h1 h2 a hm).2.2.2.2.2;have h6:=(x7 hm).2;omega
theorem TP{x:Input}{t:Int}(h:Dj x t)(ht:t<=5):ku x:=by
 have h1:=h.1;have hl:(x.insert.length:Int)=t:=by
  by_cases e:(x.insert.length:Int)=t
  ·exact e
  ·exact absurd (.inr (.inr (.inl e))) h1
 have h2:(x.aj.length:Int)<=60:=by
  by_cases e:(x.aj.length:Int)>60
  ·exact absurd (.inr (.inl e)) h1
  ·omega
 obtain⟨g1,g2,g3,g4⟩:=se (x:=x) (k:=60) ⟨⟨h2,by omega⟩,by rw[hl];exact h⟩;exact⟨g1,g2,by omega,g4⟩
def iW(l:List Bool):List (List T):=l.map λb=>[.bool b]
@[simp] theorem boolsT_len(l:List Bool):(iW l).length=l.length:=by simp[iW]
theorem KS(l:List Bool)(i:Nat)(b:Bool):iW (l.set i b)=(iW l).set i [.bool b]:=by simp[iW,ZbJ]
theorem rL{l:List Bool}{y:Nat}(h:y<l.length):DM.rowAt (iW l) y=[.bool (l.getD y default)]:=by simp[DM.rowAt,iW,h]
def TQ(k cf co cn:Int):Prop:=cf<0\/co<0\/cn<0\/cf>k\/cn>k-cf
instance(k cf co cn:Int):Decidable (TQ k cf co cn):=by unfold TQ;infer_instance
theorem OV{n:aG}{l:aL}(hn:oX n)(hl:vH l):fK n l (jn n l):=by
 have:=vI hn hl l.aP.toNat (by have:=hl.1;omega);exact this
abbrev s12:DM.Spec:=cy (λts=>∃a b c,ts=[.agg [.sl (aV a),.sl (aB b),ti c]]/\ku ⟨a,b,c⟩) (fun|[x]=>.agg [ti (aI (Cw x)).aP,.sl (ba (aI (Cw x)).aD),.sl (aB (aI (Cw x)).final)]|_=>.bool false) false
abbrev s11:DM.Spec:=cy (λts=>∃nt nn ns rules ls aD fin,ts=[.agg [ti nt,ti nn,ti ns,.sl (aR rules)],.agg [ti ls,.sl (ba aD),.sl (aB fin)]]/\oX ⟨nt,nn,ns,rules⟩/\vH ⟨ls,aD,fin⟩)
 (fun|[n,l]=>.agg [ti (nS n).an,ti (ud l).aP,.sl (aM (jn (nS n) (ud l)))]|_=>.bool false) false
inductive eQ(n:aG)(l:aL):Int->Nat->Nat->Nat->Int->br->Prop
 |empty {s k:Nat} {r:bD} (hk:n.rules[k]? =some r) (h1:r.kind=1) (hv:(comb r.bE []).cost<1099511627776):eQ n l r.head s s k s (comb r.bE [])
 |term {s t k a:Nat} {r:bD} {x:bn} (hk:n.rules[k]? =some r) (h1:r.kind=2) (ha:l.aD[a]? =some x) (h2:x.f=s) (h3:x.t=t) (h4:x.term=r.a)
   (hv:(comb (r.bE+x.cost) []).cost<1099511627776):eQ n l r.head s t k a (comb (r.bE+x.cost) [])
 |unary {s t k k1:Nat} {g1:Int} {r:bD} {v:br} (hk:n.rules[k]? =some r) (h1:r.kind=3) (d:eQ n l r.a s t k1 g1 v) (hv:(comb r.bE [v]).cost<1099511627776):eQ n l r.head s t k s (comb r.bE [v])
 |binary {s m t k k1 k2:Nat} {g1 g2:Int} {r:bD} {v w:br} (hk:n.rules[k]? =some r) (h1:r.kind=4) (hs:s<=m) (ht:m<=t) (d1:eQ n l r.a s m k1 g1 v) (d2:eQ n l r.b m t k2 g2 w)
   (hv:(comb r.bE [v,w]).cost<1099511627776):eQ n l r.head s t k m (comb r.bE [v,w])
def XA(n:aG)(l:aL)(h:Int)(s t:Nat)(v:br):Prop:=∃k g,eQ n l h s t k g v
def vJ(k:Int)(g:Int)(k':Int)(g':Int):Prop:=k<k'\/(k=k'/\g<=g')
structure Good(n:aG)(l:aL)(h:Int)(s t:Nat)(x:Cell):Prop where
 least:∀v,XA n l h s t v->¬v.lt x.val
 top:x=fc\/((∃k:Nat,x.ez=k/\eQ n l h s t k x.arg x.val)/\∀(k':Nat) g',eQ n l h s t k' g' x.val->vJ x.ez x.arg k' g')
theorem eQ.fin{n:aG}{l:aL}{h:Int}{s t k:Nat}{g:Int}{v:br}(d:eQ n l h s t k g v):v.cost<1099511627776:=by
 cases d<;>assumption
theorem XA.fin{n:aG}{l:aL}{h:Int}{s t:Nat}{v:br}(d:XA n l h s t v):v.cost<1099511627776:=by
 obtain⟨k,g,d⟩:=d;exact d.fin
theorem br.antisymm{a b:br}(h1:¬a.lt b)(h2:¬b.lt a):a=b:=by
 obtain⟨a1,a2⟩:=a;obtain⟨b1,b2⟩:=b;simp only[br.lt]at h1 h2;have:a1=b1:=by omega
 have:a2=b2:=by omega
 simp[*]
theorem Cell.ext'{a b:Cell}(h1:a.val=b.val)(h2:a.ez=b.ez)(h3:a.arg=b.arg):a=b:=by
 obtain⟨a1,a2,a3,a4⟩:=a;obtain⟨b1,b2,b3,b4⟩:=b;simp only[Cell.val,br.mk.injEq]at h1 h2 h3;simp[h1,h2,h3]
theorem Good.val_eq{n:aG}{l:aL}{h:Int}{s t:Nat}{x y:Cell}(hx:Good n l h s t x)(hy:Good n l h s t y):x.val=y.val:=by
 have key:∀{x y:Cell},Good n l h s t x->Good n l h s t y->x=fc->x.val=y.val:=by
  intro x y hx hy e;subst e;rcases hy.top with rfl|⟨⟨k,_,d⟩,_⟩
  ·rfl
  ·exact absurd (show y.val.lt fc.val by left;exact d.fin) (hx.least _ ⟨k,_,d⟩)
 rcases hx.top with e|⟨⟨k,_,d⟩,_⟩
 ·exact key hx hy e
 ·rcases hy.top with e|⟨⟨k',_,d'⟩,_⟩
  ·exact(key hy hx e).symm
  ·exact br.antisymm (hy.least _ ⟨k,_,d⟩) (hx.least _ ⟨k',_,d'⟩)
theorem Good.unique{n:aG}{l:aL}{h:Int}{s t:Nat}{x y:Cell}(hx:Good n l h s t x)(hy:Good n l h s t y):x=y:=by
 have hv:=hx.val_eq hy;rcases hx.top with e|⟨⟨k,e1,d⟩,m⟩
 ·rcases hy.top with e'|⟨⟨k',_,d'⟩,_⟩
  ·rw[e,e']
  ·have:=d'.fin;rw[<-hv,e]at this;exact absurd this (by decide)
 ·rcases hy.top with e'|⟨⟨k',e2,d'⟩,m'⟩
  ·have:=d.fin;rw[hv,e']at this;exact absurd this (by decide)
  ·have a:=m k' y.arg (hv▸d');have b:=m' k x.arg (hv▸d);unfold vJ at a b;refine Cell.ext' hv ?_ ?_<;>omega
theorem TR(c:Int)(v:br):comb c [v]=if min (c+v.cost) 1099511627776>=1099511627776 then⟨1099511627776,0⟩else⟨min (c+v.cost) 1099511627776,min (1+v.size) 1099511627776⟩:=rfl
theorem TS(c:Int)(v w:br):comb c [v,w]=if min (min (c+v.cost) 1099511627776+w.cost) 1099511627776>=1099511627776 then⟨1099511627776,0⟩else⟨min (min (c+v.cost) 1099511627776+w.cost) 1099511627776,min (min (1+v.size) 1099511627776+w.size) 1099511627776⟩:=rfl
theorem Dk{c:Int}{v:br}(hc:0<=c)(h:(comb c [v]).cost<1099511627776):v.cost<1099511627776:=by
 rw[TR]at h;split at h
 ·simp at h
 ·simp only at h;omega
theorem Dl{c:Int}{v w:br}(hc:0<=c)(hv:0<=v.cost)(hw:0<=w.cost)(h:(comb c [v,w]).cost<1099511627776):v.cost<1099511627776/\w.cost<1099511627776:=by
 rw[TS]at h;split at h
 ·simp at h
 ·simp only at h;omega
theorem ue{c:Int}{v v':br}(h:¬v.lt v'):¬(comb c [v]).lt (comb c [v']):=by
 rw[TR,TR];unfold br.lt at h⊢;split<;>split<;>simp only<;>omega
theorem uf{c:Int}{v v' w w':br}(p1:0<=v.cost)(p2:0<=v'.cost)(p3:0<=w.cost)(p4:0<=w'.cost)(hv:¬v.lt v')(hw:¬w.lt w'):¬(comb c [v,w]).lt (comb c [v',w']):=by
 rw[TS,TS];unfold br.lt at hv hw⊢;split<;>split<;>simp only<;>omega
theorem nA{a b c:br}(h:¬b.lt a)(k:¬c.lt b):¬c.lt a:=by
 unfold br.lt at*
 omega
def mT(n:aG)(l:aL)(c:bW)(own:List Cell)(s t:Nat)(k:Nat)(g:Int)(v:br):Prop:=
 ∃r,n.rules[k]? =some r/\((r.kind=1/\s=t/\g=s/\v=comb r.bE [])\/
  (r.kind=2/\∃(a:Nat) (x:bn),l.aD[a]? =some x/\x.f=s/\x.t=t/\x.term=r.a/\g=a/\v=comb (r.bE+x.cost) [])\/
  (r.kind=3/\g=s/\v=comb r.bE [cA c own s t r.a s t])\/
  (r.kind=4/\∃d:Nat,s+d<=t/\g=s+d/\v=comb r.bE [cA c own s t r.a s (s+d),cA c own s t r.b (s+d) t]))
theorem j5(x:Cell)(v:br)(i g:Int):dD x v i g=x\/(v.cost<1099511627776/\¬x.val.lt v/\dD x v i g=⟨v.cost,v.size,i,g⟩):=by
 unfold dD;split
 ·exact .inl rfl
 ·rename_i h;split
  ·rename_i h2;refine .inr ⟨by omega, ?_,rfl⟩;rcases h2 with h2|⟨rfl,_⟩
   ·unfold br.lt at*;omega
   ·unfold br.lt;omega
  ·exact .inl rfl
theorem pL{x:Cell}{v:br}{i g:Int}(h:dD x v i g=x)(hv:v.cost<1099511627776):¬v.lt x.val/\(v=x.val->vJ x.ez x.arg i g):=by
 obtain⟨xc,xs,xr,xa⟩:=x;obtain⟨vc,vs⟩:=v;unfold dD at h;rw[if_neg (by simp only at hv⊢;omega)]at h;split at h
 ·rename_i h2;simp only[Cell.mk.injEq]at h;obtain⟨rfl,rfl,rfl,rfl⟩:=h;simp only[Cell.val,br.lt]at h2;exfalso;rcases h2 with h2|⟨_,h2⟩<;>omega
 ·rename_i h2;simp only[not_or,not_and]at h2;refine⟨h2.1,λe=>?_⟩;have:=h2.2 e;unfold vJ;simp only at this⊢;omega
theorem vK{n:aG}{l:aL}{c:bW}{own:List Cell}{s t k:Nat}{r:bD}(hk:n.rules[k]? =some r)(Qa:r.kind=1\/r.kind=2\/r.kind=3\/r.kind=4)(lG:s<=t)(x:Cell):
  lz r l c own s t k x=x\/∃g v,mT n l c own s t k g v/\v.cost<1099511627776/\¬x.val.lt v/\lz r l c own s t k x=⟨v.cost,v.size,k,g⟩:=by
 have fold:∀(f:Cell->Nat->Cell) (N:Nat),(∀y j,j<N->f y j=y\/∃g v,mT n l c own s t k g v/\v.cost<1099511627776/\¬y.val.lt v/\f y j=⟨v.cost,v.size,k,g⟩)->
   (List.range N).foldl f x=x\/∃g v,mT n l c own s t k g v/\v.cost<1099511627776/\¬x.val.lt v/\(List.range N).foldl f x=⟨v.cost,v.size,k,g⟩:=by
  intro f N;induction N with
  |zero=>intro _;exact .inl rfl
  |succ N ih=>
   intro h;rw[ZaE,Zat];have ih:=ih λy j hj=>h y j (by omega);simp only[ZaB,ZbU];obtain⟨y,hy⟩:∃y,(List.range N).foldl f x=y:=⟨_,rfl⟩;rw[hy]at ih⊢;rcases h y N (by omega)with e|⟨g,v,h1,h2,h3,h4⟩
   ·rw[e];exact ih
   ·refine .inr ⟨g,v,h1,h2, ?_,h4⟩;rcases ih with rfl|⟨g',v',_,_,h3',rfl⟩
    ·exact h3
    ·have h3'':¬(⟨v'.cost,v'.size⟩:br).lt v:=h3;exact nA h3'' h3'
 have one:∀(y:Cell) (v:br) (g:Int),mT n l c own s t k g v->dD y v k g=y\/∃g v,mT n l c own s t k g v/\v.cost<1099511627776/\¬y.val.lt v/\dD y v k g=⟨v.cost,v.size,k,g⟩:=by
  intro y v g hi;rcases j5 y v k g with e|⟨h1,h2,h3⟩
  ·exact .inl e
  ·exact .inr ⟨g,v,hi,h1,h2,h3⟩
 unfold lz;split
 ·rename_i h1;split
  ·rename_i h2;rcases j5 x (comb r.bE []) k s with e|⟨h3,h4,h5⟩
   ·exact .inl e
   ·exact .inr ⟨_,_,⟨r,hk,.inl ⟨h1,by omega,rfl,rfl⟩⟩,h3,h4,h5⟩
  ·exact .inl rfl
 ·split
  ·rename_i h1;refine fold _ _ λy j hj=>?_;unfold stepT;split
   ·rename_i h2;have ha:l.aD[j]? =some (l.aD.getD j default):=by simp[List.getD,hj]
    rcases j5 y (comb (r.bE+(l.aD.getD j default).cost) []) k j with e|⟨h3,h4,h5⟩
    ·exact .inl e
    ·exact .inr ⟨_,_,⟨r,hk,.inr (.inl ⟨h1,j,_,ha,h2.1,h2.2.1,h2.2.2,rfl,rfl⟩)⟩,h3,h4,h5⟩
   ·exact .inl rfl
  ·split
   ·rename_i h1;rcases j5 x (comb r.bE [cA c own s t r.a s t]) k s with e|⟨h3,h4,h5⟩
    ·exact .inl e
    ·exact .inr ⟨_,_,⟨r,hk,.inr (.inr (.inl ⟨h1,rfl,rfl⟩))⟩,h3,h4,h5⟩
   ·rename_i h1 h2 h3;have h4:r.kind=4:=by omega
    refine fold _ _ λy j hj=>?_;unfold qa;rcases j5 y (comb r.bE [cA c own s t r.a s (s+j),cA c own s t r.b (s+j) t]) k (s+j)with e|⟨h5,h6,h7⟩
    ·exact .inl e
    ·exact .inr ⟨_,_,⟨r,hk,.inr (.inr (.inr ⟨h4,j,by omega,rfl,rfl⟩))⟩,h5,h6,h7⟩
theorem Bp{f:Cell->Nat->Cell}:∀{N:Nat},(∀x k,k<N->kP x->goes x (f x k))->∀x,kP x->(List.range N).foldl f x=x->∀k,k<N->f x k=x
 |0,_,_,_,_,k,h=>by omega
 |N+1,hf,x,hx,he,k,hk=>by
  rw[ZaE,Zat]at he;simp only[ZaB,ZbU]at he;have h1:=xy (λx k hk=>hf x k (by omega)) x hx (N:=N);obtain⟨z,hz⟩:∃z,(List.range N).foldl f x=z:=⟨_,rfl⟩;rw[hz]at h1 he;have h2:=hf z N (by omega) h1.1;rw[he]at h2;have e:z=x:=by
   rcases h1.2 with e|h1
   ·exact e
   ·rcases h2.2 with e|h2
    ·exact e.symm
    ·omega
  subst e;by_cases hkN:k=N
  ·subst hkN;exact he
  ·exact Bp (λx k hk=>hf x k (by omega)) z hx hz k (by omega)
theorem dV{n:aG}(hn:oX n){k:Nat}{r:bD}(h:n.rules[k]? =some r):ug n r/\k<n.rules.length/\n.rules.getD k default=r:=by
 have hk:=(Zas.1 h).1;exact⟨hn.2.2.2 r (Zaq h),hk,by simp[List.getD,h]⟩
theorem Dm{n:aG}{r:bD}(h:ug n r):r.kind=1\/r.kind=2\/r.kind=3\/r.kind=4:=by
 obtain⟨_,_,_,_,h⟩:=h;omega
section
variable{n:aG}{l:aL}{c:bW}{s t:Nat}
structure lA(n:aG)(l:aL)(c:bW)(s t:Nat):Prop where
 hn:oX n
 hl:vH l
 hc:Cy c
 ar:∀a∈l.aD,a.f<=a.t
 st:s<=t
 tm:t<=1000
 PY:∀(h:Int) (s' t':Nat),0<=h->h<n.an->s<=s'->s'<=t'->t'<=t->(s'≠s\/t'≠t)->Good n l h s' t' (lH c h s' t')
def PS(n:aG)(l:aL)(c:bW)(s t:Nat)(own:List Cell):Prop:=
 ∀h:Nat,h<own.length->own.getD h default=fc\/(XA n l h s t (own.getD h default).val/\
  ∃(k:Nat) (g:Int) (v:br),mT n l c own s t k g v/\(∃r,n.rules[k]? =some r/\r.head=h)/\(own.getD h default).ez=k/\(own.getD h default).arg=g/\¬(own.getD h default).val.lt v)
theorem fR(C:lA n l c s t){own:List Cell}(ho:kQ n own){h:Int}(h0:0<=h)(h1:h<n.an)(f t':Int):kO (cA c own s t h f t'):=
 oM ⟨C.hc,by have:=ho.1;have:=C.hn.2.1;omega,λ_=>⟨h0,by have:=ho.1;omega⟩⟩ ho.ok.2
theorem xz(C:lA n l c s t){own:List Cell}(ho:kQ n own)(hp:PS n l c s t own){h:Int}{s' t':Nat}(h0:0<=h)(h1:h<n.an)(a1:s<=s')(a2:s'<=t')(a3:t'<=t)
  (hf:(cA c own s t h s' t').cost<1099511627776):XA n l h s' t' (cA c own s t h s' t'):=by
 obtain⟨h,rfl⟩:=Zad h0;unfold cA at hf⊢;split
 ·rename_i e;rw[if_pos e]at hf;have e1:s'=s:=by omega
  have e2:t'=t:=by omega
  subst e1 e2;simp only[Zak]at hf⊢;rcases hp h (by have:=ho.1;omega)with e|⟨d,_⟩
  ·rw[e]at hf;exact absurd hf (by decide)
  ·exact d
 ·rename_i e;rw[if_neg e]at hf;rcases(C.PY h s' t' h0 h1 a1 a2 a3 (by omega)).top with e|⟨⟨k,_,d⟩,_⟩
  ·rw[e]at hf;exact absurd hf (by decide)
  ·exact⟨k,_,d⟩
theorem H3(C:lA n l c s t){own:List Cell}(ho:kQ n own)(hp:PS n l c s t own){k:Nat}{g:Int}{v:br}{r:bD}(hk:n.rules[k]? =some r)(h:mT n l c own s t k g v)(hf:v.cost<1099511627776):eQ n l r.head s t k g v:=by
 obtain⟨r',sW,h⟩:=h;rw[hk]at sW;cases sW;obtain⟨q1,q2,q3,q4,q5⟩:=(dV C.hn hk).1;rcases h with⟨h1,rfl,rfl,rfl⟩|⟨h1,a,x,ha,h2,h3,h4,rfl,rfl⟩|⟨h1,rfl,rfl⟩|⟨h1,d,hd,rfl,rfl⟩
 ·exact eQ.empty hk h1 hf
 ·exact eQ.term hk h1 ha h2 h3 h4 hf
 ·obtain⟨k1,g1,d1⟩:=xz C ho hp (h:=r.a) (by omega) (by omega) (Zae s) C.st (Zae t) (Dk q3 hf);exact eQ.unary hk h1 d1 hf
 ·have o1:=fR C ho (h:=r.a) (by omega) (by omega) s (s+d);have o2:=fR C ho (h:=r.b) (by omega) (by omega) (s+d) t;have hff:=Dl q3 o1.1 o2.1 hf;have e:((s:Int)+d)=((s+d:Nat):Int):=by omega
  rw[e]at hf hff⊢;obtain⟨k1,g1,d1⟩:=xz C ho hp (h:=r.a) (by omega) (by omega) (Zae s) (by omega) hd hff.1;obtain⟨k2,g2,d2⟩:=xz C ho hp (h:=r.b) (by omega) (by omega) (by omega) hd (Zae t) hff.2;exact eQ.binary hk h1 (by omega) hd d1 d2 hf
theorem Dn(C:lA n l c s t){own own':List Cell}(ho:kQ n own)(gf:kQ n own')(hm:∀(h f t':Int),0<=h->h<n.an->¬(cA c own s t h f t').lt (cA c own' s t h f t')){k:Nat}{g:Int}{v:br}(h:mT n l c own s t k g v):
  ∃v',mT n l c own' s t k g v'/\¬v.lt v':=by
 obtain⟨r,hk,h⟩:=h;obtain⟨q1,q2,q3,q4,q5⟩:=(dV C.hn hk).1;rcases h with⟨h1,rfl,rfl,rfl⟩|⟨h1,a,x,ha,h2,h3,h4,rfl,rfl⟩|⟨h1,rfl,rfl⟩|⟨h1,d,hd,rfl,rfl⟩
 ·exact⟨_,⟨r,hk,.inl ⟨h1,rfl,rfl,rfl⟩⟩,by unfold br.lt;omega⟩
 ·exact⟨_,⟨r,hk,.inr (.inl ⟨h1,a,x,ha,h2,h3,h4,rfl,rfl⟩)⟩,by unfold br.lt;omega⟩
 ·exact⟨_,⟨r,hk,.inr (.inr (.inl ⟨h1,rfl,rfl⟩))⟩,ue (hm _ _ _ (by omega) (by omega))⟩
 ·refine⟨_,⟨r,hk,.inr (.inr (.inr ⟨h1,d,hd,rfl,rfl⟩))⟩,uf ?_ ?_ ?_ ?_ (hm _ _ _ (by omega) (by omega)) (hm _ _ _ (by omega) (by omega))⟩
  ·exact(fR C ho (by omega) (by omega) _ _).1
  ·exact(fR C gf (by omega) (by omega) _ _).1
  ·exact(fR C ho (by omega) (by omega) _ _).1
  ·exact(fR C gf (by omega) (by omega) _ _).1
theorem H4{own:List Cell}{i h:Nat}{y:Cell}(hi:i<own.length):(own.set i y).getD h default=if h=i then y else own.getD h default:=by
 simp only[List.getD,Zbx];by_cases e:i=h
 ·subst e;simp[hi]
 ·have e':¬h=i:=λx=>e x.symm;simp[e,e']
theorem Ng(C:lA n l c s t){own:List Cell}{k:Nat}(ho:kQ n own)(hk:k<n.rules.length)(hp:PS n l c s t own):PS n l c s t (oN n l c s t own k):=by
 have gf:=(Bq C.hn C.hl C.hc ho hk C.st C.tm).1;have hr:n.rules[k]? =some (n.rules.getD k default):=by simp[List.getD,hk]
 obtain⟨r,er⟩:∃r,n.rules.getD k default=r:=⟨_,rfl⟩;unfold oN at gf⊢;unfold dK at gf⊢;rw[er]at hr gf⊢;have jV:=(dV C.hn hr).1;obtain⟨hd,ehd⟩:=Zad jV.1;have jr:hd<own.length:=by have:=ho.1;have:=jV.2.1;omega
 rw[ehd]at gf⊢;simp only[Zak]at gf⊢;obtain⟨x,hx⟩:∃x,own.getD hd default=x:=⟨_,rfl⟩;rw[hx]at gf⊢;rcases vK (c:=c) (own:=own) hr (Dm jV) C.st x with e|⟨g,v,hi,hf,hle,e⟩
 ·rw[e,<-hx,Br rfl];exact hp
 ·rw[e]at gf⊢;have hm:∀(h f t':Int),0<=h->h<n.an->¬(cA c own s t h f t').lt (cA c (own.set hd ⟨v.cost,v.size,k,g⟩) s t h f t'):=by
   intro h f t' h0 h1;unfold cA;split
   ·rw[H4 jr];split
    ·rename_i e2;rw[e2,hx];exact hle
    ·unfold br.lt;omega
   ·unfold br.lt;omega
  have hder:=H3 C ho hp hr hi hf;intro h hh;rw[H4 jr];split
  ·rename_i e2;subst e2;obtain⟨v',nr,OW⟩:=Dn C ho gf hm hi;exact .inr ⟨⟨k,g,by rw[<-ehd];exact hder⟩,k,g,v',nr,⟨r,hr,ehd⟩,rfl,rfl,OW⟩
  ·rcases hp h (by simpa using hh)with e3|⟨d,k1,g1,v1,hi1,lQ,h2,h3,h4⟩
   ·exact .inl e3
   ·obtain⟨v',nr,OW⟩:=Dn C ho gf hm hi1;exact .inr ⟨d,k1,g1,v',nr,lQ,h2,h3,nA OW h4⟩
theorem Nh(C:lA n l c s t):PS n l c s t (Cz n):=by
 intro h hh;left;have hh:h<n.an.toNat:=by simpa [Cz]using hh
 simp[Cz,List.getD,hh]
theorem Bs(C:lA n l c s t){own:List Cell}(ho:kQ n own)(zb:KT n l c s t own){k:Nat}{g:Int}{v:br}{r:bD}(hk:n.rules[k]? =some r)(h:mT n l c own s t k g v)(hf:v.cost<1099511627776):
  ¬v.lt (own.getD r.head.toNat default).val/\(v=(own.getD r.head.toNat default).val->vJ (own.getD r.head.toNat default).ez (own.getD r.head.toNat default).arg k g):=by
 obtain⟨r',sW,h⟩:=h;rw[hk]at sW;cases sW;obtain⟨jV,WB,hkd⟩:=dV C.hn hk;have F2:=zb k WB;unfold dK at F2;rw[hkd]at F2;obtain⟨q1,q2,q3,q4,q5⟩:=jV;have QH:kP (own.getD r.head.toNat default):=ho.2 _ (bw (by have:=ho.1;omega));obtain⟨x,hx⟩:∃x,own.getD r.head.toNat default=x:=⟨_,rfl⟩;rw[hx]at F2 QH⊢;have hk6:=C.hn.2.2.1;have wC:=C.hl.2.2.1;have lG:=C.st;have ja:=C.tm;unfold lz at F2;rcases h with⟨h1,rfl,rfl,rfl⟩|⟨h1,a,y,ha,h2,h3,h4,rfl,rfl⟩|⟨h1,rfl,rfl⟩|⟨h1,d,hd,rfl,rfl⟩
 ·rw[if_pos h1,if_pos rfl]at F2;exact pL F2 hf
 ·rw[if_neg (by omega),if_pos h1]at F2;have ko:=(Zas.1 ha).1;have Wx:l.aD.getD a default=y:=by simp[List.getD,ha]
  have:=Bp (λx k hk hx=>by
   unfold stepT;split
   ·have:=C.hl.2.2.2 (l.aD.getD k default) (bw hk);exact jD hx (iH vL (by omega) (by omega)) (by omega) (by omega) (by omega) (by omega)
   ·exact sD hx) x QH F2 a ko
  unfold stepT at this;rw[Wx,if_pos ⟨h2,h3,h4⟩]at this;exact pL this hf
 ·rw[if_neg (by omega),if_neg (by omega),if_pos h1]at F2;exact pL F2 hf
 ·rw[if_neg (by omega),if_neg (by omega),if_neg (by omega)]at F2;have:=Bp (λx k hk hx=>by
   unfold qa;refine jD hx (iH (λv hv=>?_) q3 (by omega)) (by omega) (by omega) (by omega) (by omega);simp only[Zag,Zap,or_false]at hv;rcases hv with rfl|rfl<;>exact fR C ho (by omega) (by omega) _ _) x QH F2 d (by omega)
  unfold qa at this;exact pL this hf
theorem eQ.le(ha:∀a∈l.aD,a.f<=a.t){h:Int}{s' t' k:Nat}{g:Int}{v:br}(d:eQ n l h s' t' k g v):s'<=t':=by
 induction d with
 |empty _ _ _=>exact Zae _
 |term _ _ hx h2 h3 _ _=>have:=ha _ (Zaq hx);omega
 |unary _ _ _ _ ih=>exact ih
 |binary _ _ _ _ _ _ _ ih1 Oq=>omega
theorem eQ.pos(hn:oX n)(hl:vH l){h:Int}{s' t' k:Nat}{g:Int}{v:br}(d:eQ n l h s' t' k g v):kO v:=by
 induction d with
 |empty hk _ _=>exact iH vL (dV hn hk).1.2.2.1 (by have:=(dV hn hk).1.2.2.2.1;omega)
 |term hk _ hx _ _ _ _=>exact iH vL (by have:=(dV hn hk).1.2.2.1;have:=hl.2.2.2 _ (Zaq hx);omega) (by have:=(dV hn hk).1.2.2.2.1;have:=hl.2.2.2 _ (Zaq hx);omega)
 |unary hk _ _ _ ih=>exact iH (λv hv=>by simp only[Zah]at hv;subst hv;exact ih) (dV hn hk).1.2.2.1 (by have:=(dV hn hk).1.2.2.2.1;omega)
 |binary hk _ _ _ _ _ _ ih1 Oq=>exact iH (λv hv=>by simp only[Zag,Zap,or_false]at hv;rcases hv with rfl|rfl<;>assumption) (dV hn hk).1.2.2.1 (by have:=(dV hn hk).1.2.2.2.1;omega)
theorem H5(C:lA n l c s t){own:List Cell}(ho:kQ n own)(zb:KT n l c s t own){h:Int}{s' t' k:Nat}{g:Int}{v:br}(d:eQ n l h s' t' k g v):
  s<=s'->t'<=t->¬v.lt (cA c own s t h s' t'):=by
 have out:∀{h:Int} {s' t':Nat} {v:br},0<=h->h<n.an->s<=s'->s'<=t'->t'<=t->(s'≠s\/t'≠t)->XA n l h s' t' v->¬v.lt (cA c own s t h s' t'):=by
  intro h s' t' v h0 h1 a1 a2 a3 bG d;unfold cA;rw[if_neg (by omega)];exact(C.PY h s' t' h0 h1 a1 a2 a3 bG).least v d
 have onn:∀{r:bD} {k:Nat} {g:Int} {v v':br},n.rules[k]? =some r->mT n l c own s t k g v'->¬v.lt v'->v.cost<1099511627776->¬v.lt (cA c own s t r.head s t):=by
  intro r k g v v' hk hi hle hf;unfold cA;rw[if_pos ⟨rfl,rfl⟩];have TT:v'.cost<1099511627776:=by unfold br.lt at hle;omega
  exact nA (Bs C ho zb hk hi TT).1 hle
 induction d with
 | @empty s0 k r hk h1 hv=>
  intro a1 a2;obtain⟨q1,q2,q3,q4,q5⟩:=(dV C.hn hk).1;by_cases e:s0=s/\s0=t
  ·obtain⟨rfl,rfl⟩:=e;exact onn hk ⟨r,hk,.inl ⟨h1,rfl,rfl,rfl⟩⟩ (by unfold br.lt;omega) hv
  ·exact out q1 q2 a1 (Zae _) a2 (by omega) ⟨k,_,eQ.empty hk h1 hv⟩
 | @term s0 t0 k a r x hk h1 ha h2 h3 h4 hv=>
  intro a1 a2;obtain⟨q1,q2,q3,q4,q5⟩:=(dV C.hn hk).1;by_cases e:s0=s/\t0=t
  ·obtain⟨rfl,rfl⟩:=e;exact onn hk ⟨r,hk,.inr (.inl ⟨h1,a,x,ha,h2,h3,h4,rfl,rfl⟩)⟩ (by unfold br.lt;omega) hv
  ·exact out q1 q2 a1 (by have:=C.ar x (Zaq ha);omega) a2 (by omega) ⟨k,_,eQ.term hk h1 ha h2 h3 h4 hv⟩
 | @unary s0 t0 k k1 g1 r v hk h1 d hv ih=>
  intro a1 a2;obtain⟨q1,q2,q3,q4,q5⟩:=(dV C.hn hk).1;by_cases e:s0=s/\t0=t
  ·obtain⟨rfl,rfl⟩:=e;exact onn hk ⟨r,hk,.inr (.inr (.inl ⟨h1,rfl,rfl⟩))⟩ (ue (ih (Zae _) (Zae _))) hv
  ·exact out q1 q2 a1 (d.le C.ar) a2 (by omega) ⟨k,_,eQ.unary hk h1 d hv⟩
 | @binary s0 m t0 k k1 k2 g1 g2 r v w hk h1 hs ht d1 d2 hv ih1 Oq=>
  intro a1 a2;obtain⟨q1,q2,q3,q4,q5⟩:=(dV C.hn hk).1;by_cases e:s0=s/\t0=t
  ·obtain⟨rfl,rfl⟩:=e;have em:(m:Int)=(s0:Int)+((m-s0:Nat):Int):=by omega
   refine onn hk ⟨r,hk,.inr (.inr (.inr ⟨h1,m-s0,by omega,rfl,rfl⟩))⟩ (uf ?_ ?_ ?_ ?_ ?_ ?_) hv
   ·exact(d1.pos C.hn C.hl).1
   ·exact(fR C ho (by omega) (by omega) _ _).1
   ·exact(d2.pos C.hn C.hl).1
   ·exact(fR C ho (by omega) (by omega) _ _).1
   ·rw[<-em];exact ih1 (Zae _) ht
   ·rw[<-em];exact Oq hs (Zae _)
  ·exact out q1 q2 a1 (by omega) a2 (by omega) ⟨k,_,eQ.binary hk h1 hs ht d1 d2 hv⟩
theorem TU(C:lA n l c s t){own:List Cell}(ho:kQ n own)(zb:KT n l c s t own){h:Int}{k:Nat}{g:Int}{v:br}(d:eQ n l h s t k g v):
  ∃r v',n.rules[k]? =some r/\r.head=h/\mT n l c own s t k g v'/\¬v.lt v':=by
 have hle:=λ{h:Int} {s' t' k:Nat} {g:Int} {v:br} (d:eQ n l h s' t' k g v)=>H5 C ho zb d;cases d with
 | @empty s0 k r hk h1 hv=>exact⟨r,_,hk,rfl,⟨r,hk,.inl ⟨h1,rfl,rfl,rfl⟩⟩,by unfold br.lt;omega⟩
 | @term s0 t0 k a r x hk h1 ha h2 h3 h4 hv=>exact⟨r,_,hk,rfl,⟨r,hk,.inr (.inl ⟨h1,a,x,ha,h2,h3,h4,rfl,rfl⟩)⟩,by unfold br.lt;omega⟩
 | @unary s0 t0 k k1 g1 r v hk h1 d hv=>
  exact⟨r,_,hk,rfl,⟨r,hk,.inr (.inr (.inl ⟨h1,rfl,rfl⟩))⟩,ue (hle d (Zae _) (Zae _))⟩
 | @binary s0 m t0 k k1 k2 g1 g2 r v w hk h1 hs ht d1 d2 hv=>
  obtain⟨q1,q2,q3,q4,q5⟩:=(dV C.hn hk).1;have em:(m:Int)=(s:Int)+((m-s:Nat):Int):=by omega
  refine⟨r,_,hk,rfl,⟨r,hk,.inr (.inr (.inr ⟨h1,m-s,by omega,em,rfl⟩))⟩,uf ?_ ?_ ?_ ?_ ?_ ?_⟩
  ·exact(d1.pos C.hn C.hl).1
  ·exact(fR C ho (by omega) (by omega) _ _).1
  ·exact(d2.pos C.hn C.hl).1
  ·exact(fR C ho (by omega) (by omega) _ _).1
  ·rw[<-em];exact hle d1 (Zae _) ht
  ·rw[<-em];exact hle d2 hs (Zae _)
theorem H6(C:lA n l c s t){own:List Cell}(ho:kQ n own)(hp:PS n l c s t own)(zb:KT n l c s t own)(h:Nat)(hh:(h:Int)<n.an):Good n l h s t (own.getD h default):=by
 have hl:h<own.length:=by have:=ho.1;omega
 have cY:cA c own s t h s t=(own.getD h default).val:=by unfold cA;rw[if_pos ⟨rfl,rfl⟩];rfl
 refine⟨λv ⟨k,g,d⟩=>?_, ?_⟩
 ·rw[<-cY];exact H5 C ho zb d (Zae _) (Zae _)
 ·rcases hp h hl with e|⟨hd,k,g,v,hi,⟨r,hk,hr⟩,h2,h3,hle⟩
  ·exact .inl e
  ·right;have hf:=hd.fin;have hvf:v.cost<1099511627776:=by unfold br.lt at hle;omega
   have hx:=Bs C ho zb hk hi hvf;rw[hr]at hx;simp only[Zak]at hx;have he:v=(own.getD h default).val:=br.antisymm hx.1 hle;refine⟨⟨k,h2, ?_⟩,λk' g' d=>?_⟩
   ·have:=H3 C ho hp hk hi hvf;rw[hr,he]at this;rw[h3];exact this
   ·obtain⟨r',v',sW,fe,nr,OW⟩:=TU C ho zb d;have hvf':v'.cost<1099511627776:=by unfold br.lt at OW;omega
    have gb:=Bs C ho zb sW nr hvf';rw[fe]at gb;simp only[Zak]at gb;exact gb.2 (br.antisymm gb.1 OW)
theorem xA(C:lA n l c s t)(h:Nat)(hh:(h:Int)<n.an):Good n l h s t ((jk n l c s t).getD h default):=by
 obtain⟨h1,h2,h3⟩:=Bt C.hn C.hl C.hc C.st C.tm (PS n l c s t) (Nh C) (λown k ho hk hp=>Ng C ho hk hp);exact H6 C h1 h2 h3 h hh
end
abbrev s18:DM.Spec:=cy (λts=>∃h f t cf co cn st,ts=[.agg [ti h,ti f,ti t],.agg [ti cf,ti co,ti cn],ti st]/\1<=st/\st<=10000)
 (fun|[.agg [.int _ h,.int _ f,.int _ t],.agg [.int _ cf,.int _ co,.int _ cn],.int _ st]=>.eG [.agg [ti (fV h f t cf co cn st).h,ti (fV h f t cf co cn st).f,ti (fV h f t cf co cn st).t],.bool (fV h f t cf co cn st).ok]|_=>.bool false) true
theorem ok18{l:List (Nat×DM.Spec)}(h:aw Tryz.prog (aX l)):aw Tryz.prog (aX ((18,s18)::l)):=by
 refine aw.cons h ?_;rintro ts ⟨h,f,t,cf,co,cn,st,rfl,h1,h2⟩;exact⟨by simpa [KR.enc]using t18 h f t cf co cn st h1 h2,λ_=>rfl⟩
theorem t13e:aU Tryz.prog 13 [.agg [ti 1,ti 1,ti 0,.sl []],.agg [ti 0,ti 0,.sl []],.agg [.sl [],.sl [[ti 1]],ti 0],.agg [ti 0,ti 0,ti 0]] (.eG [.agg [ti 0,ti 0,.sl []],ti 0,ti 13]):=by
 have ay:=ej;refine c13.ok (by simp) (aK ?_);simp;refine aa.ab ay fw [4,5,6,7,8,9,10] ?_;simp[Sl];refine aa.le (Le.aC (o:=[(1009,.box [.v (ti 0),.v (ti 0),.aH])]) (l:=[(4,.v (.box [ti 1,ti 1,ti 0,.sl []])),(5,.v (.box [ti 0,ti 0,.sl []])),(6,.v (.box [.sl [],.sl [[ti 1]],ti 0])),(7,.v (.box [ti 0,ti 0,ti 0])),(8,.ptr 1009 0),(9,(.v (.int .i64 0))),(10,(.v (.int .i64 0)))]) (nxt':=1200) ?_ ?_ ?_ ?_) ?_;iterate 4(·simp)
 refine aa.ab ay fw [4,5,6,7,8,11] ?_;simp[Sm];refine aa.seq ?_;refine aa.bY ay fw [(4,.v (.box [ti 1,ti 1,ti 0,.sl []])),(5,.v (.box [ti 0,ti 0,.sl []])),(6,.v (.box [.sl [],.sl [[ti 1]],ti 0])),(7,.v (.box [ti 0,ti 0,ti 0])),(8,.ptr 1009 0),(11,.v (ti 0)),(53,.v (.bool false))] ?_ ?_
 ·simp[Sn]
 refine aa.cond rfl (λg=>?_) (λg=>?_)
 ·exact absurd g (by simp)
 ·refine aa.skip ?_;simp;refine aa.seq ?_;refine aa.bY ay fw [(4,.v (.box [ti 1,ti 1,ti 0,.sl []])),(5,.v (.box [ti 0,ti 0,.sl []])),(6,.v (.box [.sl [],.sl [[ti 1]],ti 0])),(7,.v (.box [ti 0,ti 0,ti 0])),(8,.ptr 1009 0),(95,.v (.bool true))] ?_ ?_
  ·simp[Sp]
  refine aa.cond rfl (λg2=>?_) (λg2=>?_)
  ·refine aa.ab ay fw [8,9,10] ?_;simp[abv];refine aa.ret ?_;simp[Ko]
  ·refine aa.skip ?_;simp;exact absurd g2 (by simp)
abbrev s13e:DM.Spec:=cy (λts=>ts=[.agg [ti 1,ti 1,ti 0,.sl []],.agg [ti 0,ti 0,.sl []],.agg [.sl [],.sl [[ti 1]],ti 0],.agg [ti 0,ti 0,ti 0]]) (λ_=>.eG [.agg [ti 0,ti 0,.sl []],ti 0,ti 13]) false
theorem okA:aw Tryz.prog (aX [(18,s18),(13,s13e)]):=by
 refine ok18 (aw.cons aw.nil ?_);rintro ts rfl;exact⟨t13e,λh=>by cases h⟩
theorem kA:fV 2 0 2 1 1 1 7=⟨2,0,2,true⟩:=rfl
theorem kB:fV 1 4 6 1 1 1 7=⟨1,4,6,true⟩:=rfl
theorem kC:fV 0 2 4 1 1 1 7=⟨0,0,0,false⟩:=rfl
theorem kD:fV 0 0 1 1 1 1 7=⟨0,0,0,false⟩:=rfl
theorem kE:fV 0 4 6 1 0 2 7=⟨0,8,10,true⟩:=rfl
theorem t10:aU Tryz.prog 10 [] (.bool true):=by
 have ay:=okA;refine c10.ok (by simp) (aK ?_);simp;refine aa.ab ay fw [] ?_;simp[aa9];refine aa.ab ay fw [1] ?_;simp[aba];refine aa.ab ay fw [1,2,3] ?_;simp[abb,kA];refine⟨⟨_,_,_,_,_,_,_,⟨⟨rfl,rfl,rfl⟩,⟨rfl,rfl,rfl⟩,rfl⟩,by omega,by omega⟩, ?_⟩;try simp only[kA,kB,kC,kD,kE]
 refine aa.ab ay fw [1,2,3,4,5] ?_;simp[abc,kB];refine⟨⟨_,_,_,_,_,_,_,⟨⟨rfl,rfl,rfl⟩,⟨rfl,rfl,rfl⟩,rfl⟩,by omega,by omega⟩, ?_⟩;try simp only[kA,kB,kC,kD,kE]
 refine aa.ab ay fw [1,2,3,4,5,7] ?_;simp[abd,kC];refine⟨⟨_,_,_,_,_,_,_,⟨⟨rfl,rfl,rfl⟩,⟨rfl,rfl,rfl⟩,rfl⟩,by omega,by omega⟩, ?_⟩;try simp only[kA,kB,kC,kD,kE]
 refine aa.ab ay fw [2,3,4,5,7,9] ?_;simp[abe,kD];refine⟨⟨_,_,_,_,_,_,_,⟨⟨rfl,rfl,rfl⟩,⟨rfl,rfl,rfl⟩,rfl⟩,by omega,by omega⟩, ?_⟩;try simp only[kA,kB,kC,kD,kE]
 refine aa.ab ay fw [2,3,4,5,7,9,10,11] ?_;simp[abf,kE];refine⟨⟨_,_,_,_,_,_,_,⟨⟨rfl,rfl,rfl⟩,⟨rfl,rfl,rfl⟩,rfl⟩,by omega,by omega⟩, ?_⟩;try simp only[kA,kB,kC,kD,kE]
 refine aa.ab ay fw [2,3,4,5,7,9,10,11,14] ?_;simp[abg];refine⟨by first|rfl|simp[chunk], ?_⟩;refine aa.ab ay fw [0] ?_;simp[abh];refine aa.ret ?_;simp[Sk]
theorem H7{p p' nn h h':Int}(a1:0<=h)(a2:h<nn)(b1:0<=h')(b2:h'<nn)(e:p*nn+h=p'*nn+h'):p=p'/\h=h':=by
 have key:∀{p p' h h':Int},0<=h->h<nn->0<=h'->h'<nn->p*nn+h=p'*nn+h'->¬p<p':=by
  intro p p' h h' a1 a2 b1 b2 e cW;have h1:(p+1)*nn<=p'*nn:=ZbZ (by omega) (by omega);have h2:(p+1)*nn=p*nn+nn:=by grind
  omega
 have h1:=key a1 a2 b1 b2 e;have h2:=key b1 b2 a1 a2 e.symm;have:p=p':=by omega
 subst this;exact⟨rfl,by omega⟩
theorem OX{nn st:Int}{s t s' t':Nat}{h h':Int}(a1:0<=h)(a2:h<nn)(b1:0<=h')(b2:h'<nn)(c1:s<=t)(c2:(t:Int)<st)(d1:s'<=t')(d2:(t':Int)<st)
  (e:cK nn st s t+h=cK nn st s' t'+h'):s=s'/\t=t'/\h=h':=by
 unfold cK at e;obtain⟨e1,e2⟩:=H7 a1 a2 b1 b2 e;have key:∀{s t s' t':Nat},s<=t->(t:Int)<st->s'<=t'->(t':Int)<st->pre st s+t-s=pre st s'+t'-s'->¬s<s':=by
  intro s t s' t' c1 c2 d1 d2 e cW;have:=Bu (st:=st) (f:=s+1) (k:=s') (by omega) (by omega);simp only[pre]at this;omega
 have h1:=key c1 c2 d1 d2 e1;have h2:=key d1 d2 c1 c2 e1.symm;have:s=s':=by omega
 subst this;exact⟨rfl,by omega,e2⟩
theorem TV(cells own:List Cell)(mm y:Nat)(hl:mm+y<=cells.length)(i:Nat)(d:Cell):(ma cells own mm y).getD i d=if mm<=i/\i<mm+y then own.getD (i-mm) default else cells.getD i d:=by
 induction y with
 |zero=>simp only[ma,List.range_zero,ZbU];rw[if_neg (by omega)]
 |succ y ih=>
  rw[mn];have ih:=ih (by omega);by_cases e:i=mm+y
  ·subst e;rw[if_pos (by omega),show mm+y-mm=y by omega];simp only[List.getD,Zbx,vM];rw[if_pos trivial,if_pos (by omega)];rfl
  ·have:((ma cells own mm y).set (mm+y) (own.getD y default)).getD i d=(ma cells own mm y).getD i d:=by
    simp only[List.getD,Zbx];rw[if_neg (λx=>e x.symm)]
   rw[this,ih];by_cases h:mm<=i/\i<mm+y
   ·rw[if_pos h,if_pos (by omega)]
   ·rw[if_neg h,if_neg (by omega)]
section
variable{n:aG}{l:aL}
theorem TW{c:bW}{h:Int}{s t:Nat}(h0:0<=h)(h1:h<c.an)(c1:s<=t)(c2:(t:Int)<c.aP):lH c h s t=c.cells.getD (cK c.an c.aP s t+h).toNat fc:=by
 unfold lH;rw[if_neg (by omega)];simp
def H8(n:aG)(l:aL)(cells:List Cell)(len f:Nat):Prop:=
 ∀(h:Int) (s t:Nat),0<=h->h<n.an->s<=t->(t:Int)<l.aP->(t-s<len\/(t-s=len/\s<f))->Good n l h s t (lH ⟨n.an,l.aP,cells⟩ h s t)
theorem OY(hn:oX n)(hl:vH l)(ha:∀a∈l.aD,a.f<=a.t){cells:List Cell}{len f:Nat}(hc:fK n l cells)(hf:((f+len:Nat):Int)<l.aP)(hd:H8 n l cells len f):H8 n l (rN n l len cells f) len (f+1):=by
 have h1:=hn.1;have h2:=hn.2.1;have h3:=hl.1;have h4:=hl.2.1;have C:lA n l ⟨n.an,l.aP,cells⟩ f (f+len):=⟨hn,hl,hc.ok hn hl,ha,by omega,by omega,λh s' t' a1 a2 a3 a4 a5 a6=>hd h s' t' a1 a2 a4 (by omega) (by omega)⟩;have hg:=xA C;have eX:=vN hn hl C.hc C.st C.tm;rw[show((f+len:Nat):Int)=(f:Int)+len by omega]at hg eX;obtain⟨own,ho⟩:∃own,jk n l ⟨n.an,l.aP,cells⟩ f ((f:Int)+len)=own:=⟨_,rfl⟩;rw[ho]at hg eX;have Ni:=j6 (n:=n.an) (st:=l.aP) (f:=f) (t:=f+len) (by omega) h2 h4 (by omega) (by omega) (by omega);have cW:=vO (nn:=n.an) (st:=l.aP) (f:=f) (t:=f+len) (by omega) (by omega) (by omega) (i:=n.an-1) (by omega);have bd:=hc.1;intro h s t a1 a2 a3 a4 a5;unfold rN;rw[ho,TW a1 a2 a3 a4];simp only;have hsb:=j6 (n:=n.an) (st:=l.aP) (f:=s) (t:=t) (by omega) h2 h4 (by omega) (by omega) (by omega);rw[TV _ _ _ _ (by omega)];split
 ·rename_i e;have hx:cK n.an l.aP s t+h=cK n.an l.aP f (f+len)+(((cK n.an l.aP s t+h).toNat-(cK n.an l.aP f (f+len)).toNat:Nat):Int):=by omega
  obtain⟨e1,e2,e3⟩:=OX a1 a2 (by omega) (by omega) a3 a4 (by omega) (by omega) hx;subst e1 e2;obtain⟨h,rfl⟩:=Zad a1;have e4:(cK n.an l.aP s (s+len)+(h:Int)).toNat-(cK n.an l.aP s (s+len)).toNat=h:=by omega
  rw[e4];exact hg h a2
 ·rename_i e;have bG:¬(s=f/\t=f+len):=by
   rintro⟨rfl,rfl⟩;omega
  have:=hd h s t a1 a2 a3 a4 (by omega);rw[TW a1 a2 a3 a4]at this;exact this
theorem Bv(hn:oX n)(hl:vH l)(ha:∀a∈l.aD,a.f<=a.t){cells:List Cell}{len:Nat}(hc:fK n l cells)(hd:H8 n l cells len 0):∀k,((k+len:Nat):Int)<=l.aP->H8 n l ((List.range k).foldl (rN n l len) cells) len k
 |0,_=>hd
 |k+1,hk=>by
  rw[ZaE,Zat];have h4:=hl.2.1;exact OY hn hl ha (vP hn hl hc k (by omega)) (by omega) (Bv hn hl ha hc hd k (by omega))
theorem Dp(hn:oX n)(hl:vH l)(ha:∀a∈l.aD,a.f<=a.t):∀k:Nat,(k:Int)<=l.aP->H8 n l ((List.range k).foldl (H9 n l) (List.replicate (dQ n.an l.aP).toNat ⟨0,0,0,0⟩)) k 0:=by
 intro k;induction k with
 |zero=>
  intro _ h s t a1 a2 a3 a4 a5;omega
 |succ k ih=>
  intro hk;rw[ZaE,Zat];have h4:=hl.2.1;have:=Bv hn hl ha (vI hn hl k (by omega)) (ih (by omega)) (l.aP.toNat-k) (by omega);intro h s t a1 a2 a3 a4 a5;exact this h s t a1 a2 a3 a4 (by omega)
theorem kR(hn:oX n)(hl:vH l)(ha:∀a∈l.aD,a.f<=a.t){h:Int}{s t:Nat}(a1:0<=h)(a2:h<n.an)(a3:s<=t)(a4:(t:Int)<l.aP):Good n l h s t (lH (cD n l) h s t):=by
 have h3:=hl.1;exact Dp hn hl ha l.aP.toNat (by omega) h s t a1 a2 a3 a4 (by omega)
end
def j7(l:List bn)(f t e c:Int):Prop:=∃a∈l,a.f=f/\a.t=t/\a.term=e/\a.cost=c
theorem pk2(a b:bn):pK a b=true↔b.cost<1099511627776/\sameKey a b=true:=by
 unfold pK;rw[Zam,decide_eq_true_eq];exact and_comm
theorem E9(a b:bn):pK a b=true↔b.cost<1099511627776/\a.f=b.f/\a.t=b.t/\a.term=b.term:=by
 rw[pk2,sameKey_iff]
theorem Bw(k:bn):∀(cs:List bn) (o:Option bn),(∀b,o=some b->pK k b=true)->match cs.foldl (fN k) o with
  |none=>o=none/\∀b∈cs,pK k b=false
  |some r=>(o=some r\/r∈cs)/\pK k r=true/\(∀b,o=some b->r.cost<=b.cost)/\∀b∈cs,pK k b=true->r.cost<=b.cost
 |[],o,ho=>by
  cases o with
  |none=>exact⟨rfl,λb h=>by cases h⟩
  |some b=>exact⟨.inl rfl,ho b rfl,λc h=>by cases h;omega,λb h=>by cases h⟩
 |c::cs,o,ho=>by
  rw[ZaB];have ih:=Bw k cs (fN k o c);have hs:∀b,fN k o c=some b->(o=some b\/b=c)/\pK k b=true/\(∀d,o=some d->b.cost<=d.cost)/\(pK k c=true->b.cost<=c.cost):=by
   intro b hb;unfold fN at hb;split at hb
   ·rename_i hc;have hpc:pK k c=true:=(pk2 k c).2 hc;cases o with
    |none=>simp only[Zaa]at hb;subst hb;exact⟨.inr rfl,hpc,λd h=>(by cases h),λ_=>by omega⟩
    |some d=>
     simp only at hb;split at hb
     ·simp only[Zaa]at hb;subst hb;exact⟨.inr rfl,hpc,λd h=>(by cases h;omega),λ_=>by omega⟩
     ·simp only[Zaa]at hb;subst hb;exact⟨.inl rfl,ho _ rfl,λd h=>(by cases h;omega),λ_=>by omega⟩
   ·rename_i hc;subst hb;refine⟨.inl rfl,ho b rfl,λd h=>by cases h;omega,λh=>?_⟩;exfalso;exact hc ((pk2 k c).1 h)
  have ih:=ih λb hb=>(hs b hb).2.1;cases e:cs.foldl (fN k) (fN k o c)with
  |none=>
   rw[e]at ih;simp only at ih⊢;obtain⟨i1,i2⟩:=ih;have h1:o=none/\pK k c=false:=by
    unfold fN at i1;split at i1
    ·cases o with
     |none=>cases i1
     |some d=>simp only at i1;split at i1<;>cases i1
    ·rename_i hc;refine⟨i1, ?_⟩;cases hp:pK k c with
     |false=>rfl
     |true=>
      exfalso;exact hc ((pk2 k c).1 hp)
   refine⟨h1.1,λb hb=>?_⟩;rcases Zag.1 hb with rfl|hb
   ·exact h1.2
   ·exact i2 b hb
  |some r=>
   rw[e]at ih;simp only at ih⊢;obtain⟨i1,i2,i3,i4⟩:=ih;refine⟨?_,i2, ?_, ?_⟩
   ·rcases i1 with i1|i1
    ·rcases(hs r i1).1 with h|rfl
     ·exact .inl h
     ·exact .inr (Za5 ..)
    ·exact .inr (ZaW _ i1)
   ·intro b hb;cases lG:fN k o c with
    |none=>
     unfold fN at lG;rw[hb]at lG;split at lG
     ·simp only at lG;split at lG<;>cases lG
     ·cases lG
    |some d=>have:=i3 d lG;have:=(hs d lG).2.2.1 b hb;omega
   ·intro b hb hp;rcases Zag.1 hb with rfl|hb
    ·cases lG:fN k o b with
     |none=>
      unfold fN at lG;have hp':=(pk2 k b).1 hp;rw[if_pos hp']at lG;cases o with
      |none=>cases lG
      |some d=>simp only at lG;split at lG<;>cases lG
     |some d=>have:=i3 d lG;have:=(hs d lG).2.2.2 hp;omega
    ·exact i4 b hb hp
theorem pM(x:Input)(f t e c:Int):j7 (dS x) f t e c↔(j7 (wH x) f t e c/\c<1099511627776/\∀c',j7 (wH x) f t e c'->c'<1099511627776->c<=c'):=by
 constructor
 ·rintro⟨a,ha,rfl,rfl,rfl,rfl⟩;rw[x9]at ha;have hm:=Bw a ((wH x).filter (pK a)) none (λb h=>by cases h);rw[ha]at hm;simp only at hm;obtain⟨h1,h2,_,h4⟩:=hm;have h1:a∈(wH x).filter (pK a):=h1.resolve_left (λh=>by cases h);refine⟨⟨a,(ZaO.1 h1).1,rfl,rfl,rfl,rfl⟩,((E9 a a).1 h2).1, ?_⟩;rintro c' ⟨b,hb,e1,e2,e3,rfl⟩ Ah;have hp:pK a b=true:=(E9 a b).2 ⟨Ah,e1.symm,e2.symm,e3.symm⟩;exact h4 b (ZaO.2 ⟨hb,hp⟩) hp
 ·rintro⟨⟨b,hb,rfl,rfl,rfl,rfl⟩,hc,Ey⟩;have hm:=Bw b ((wH x).filter (pK b)) none (λb h=>by cases h);have PU:pK b b=true:=(E9 b b).2 ⟨hc,rfl,rfl,rfl⟩;cases e:((wH x).filter (pK b)).foldl (fN b) none with
  |none=>
   rw[e]at hm;have:=hm.2 b (ZaO.2 ⟨hb,PU⟩);rw[PU]at this;cases this
  |some r=>
   rw[e]at hm;simp only at hm;obtain⟨h1,h2,_,h4⟩:=hm;have h1:r∈(wH x).filter (pK b):=h1.resolve_left (λh=>by cases h);obtain⟨r1,r2,r3,r4⟩:=(E9 b r).1 h2;have hpe:pK r=pK b:=by
    funext y;unfold pK sameKey;simp only[r2,r3,r4]
   have hse:fN r=fN b:=by
    funext o y;unfold fN sameKey;simp only[r2,r3,r4]
   refine⟨r, ?_,r2.symm,r3.symm,r4.symm, ?_⟩
   ·rw[x9,hpe,hse];exact e
   ·have l1:=h4 b (ZaO.2 ⟨hb,PU⟩) PU;have l2:=Ey r.cost ⟨r,(ZaO.1 h1).1,r2.symm,r3.symm,r4.symm,rfl⟩ r1;omega
def Cand(x:Input)(f t e c:Int):Prop:=
 (∃i m k:Nat,i<=m/\m<x.aj.length/\k<x.insert.length/\0<=lI x m k/\f=2*i/\t=2*m+2/\e=k/\c=jJ (fY x i m) (lI x m k))\/
 (∃i m:Nat,i<=m/\bX x m=true/\f=2*i/\t=2*m+1/\e=(x.aj.getD (m+1) default).kind/\c=jJ (fY x i m) x.swap)\/
 (∃i:Nat,bX x i=true/\f=2*i+1/\t=2*i+4/\e=(x.aj.getD i default).kind/\c=0)\/
 (∃i m k:Nat,i<=m/\m<=x.aj.length/\k<x.insert.length/\f=2*i/\t=2*m/\e=k/\c=jJ (fY x i m) (x.insert.getD k default))
theorem sE{x:Input}{m:Nat}(h:bX x m=true):m+1<x.aj.length:=by
 unfold bX at h;exact(of_decide_eq_true h).1
theorem iJ{α:Type}{f:Nat->List α}{i m k:Nat}{a:α}(h1:i<=k)(h2:k<m)(h:a∈f k):a∈ft f i m:=by
 unfold ft;rw[ZaV];exact⟨k-i,by rw[ZaQ];omega,by rw[show i+(k-i)=k by omega];exact h⟩
theorem vQ(x:Input)(f t e c:Int):j7 (wH x) f t e c↔Cand x f t e c:=by
 constructor
 ·rintro⟨a,ha,rfl,rfl,rfl,rfl⟩;unfold wH at ha;rcases Zao.1 ha with ha|ha
  ·obtain⟨i,_,hi,ha⟩:=dz ha;unfold rI at ha;rcases Zao.1 ha with ha|ha
   ·obtain⟨m,h1,h2,ha⟩:=dz ha;unfold rM at ha;rcases Zao.1 ha with ha|ha
    ·obtain⟨k,_,hk,ha⟩:=dz ha;unfold rA at ha;split at ha
     ·rename_i hr;simp only[Zah]at ha;subst ha;exact .inl ⟨i,m,k,h1,hr.1,hk,hr.2,rfl,rfl,rfl,rfl⟩
     ·cases ha
    ·unfold rS at ha;split at ha
     ·rename_i hr;simp only[Zah]at ha;subst ha;exact .inr (.inl ⟨i,m,h1,hr,rfl,rfl,rfl,rfl⟩)
     ·cases ha
   ·obtain⟨hr,rfl⟩:=zP ha;exact .inr (.inr (.inl ⟨i,hr,rfl,rfl,rfl,rfl⟩))
  ·obtain⟨i,_,hi,ha⟩:=dz ha;unfold iI at ha;obtain⟨m,h1,h2,ha⟩:=dz ha;unfold iM at ha;obtain⟨k,_,hk,ha⟩:=dz ha;unfold iT at ha;simp only[Zah]at ha;subst ha;exact .inr (.inr (.inr ⟨i,m,k,h1,by omega,hk,rfl,rfl,rfl,rfl⟩))
 ·unfold j7 wH;rintro(⟨i,m,k,h1,h2,h3,h4,rfl,rfl,rfl,rfl⟩|⟨i,m,h1,h2,rfl,rfl,rfl,rfl⟩|⟨i,h2,rfl,rfl,rfl,rfl⟩|⟨i,m,k,h1,h2,h3,rfl,rfl,rfl,rfl⟩)
  ·refine⟨⟨2*i,2*m+2,k,jJ (fY x i m) (lI x m k),dd (m-i)++[(1,(k:Int))]⟩,Zao.2 (.inl ?_),rfl,rfl,rfl,rfl⟩;refine iJ (k:=i) (by omega) (by omega) ?_;unfold rI;refine Zao.2 (.inl (iJ (k:=m) h1 (by omega) ?_));unfold rM;refine Zao.2 (.inl (iJ (k:=k) (by omega) h3 ?_));unfold rA;rw[if_pos ⟨h2,h4⟩];simp
  ·have:=sE h2;refine⟨⟨2*i,2*m+1,(x.aj.getD (m+1) default).kind,jJ (fY x i m) x.swap,dd (m-i)++[(4,0)]⟩,Zao.2 (.inl ?_),rfl,rfl,rfl,rfl⟩;refine iJ (k:=i) (by omega) (by omega) ?_;unfold rI;refine Zao.2 (.inl (iJ (k:=m) h1 (by omega) ?_));unfold rM;refine Zao.2 (.inr ?_);unfold rS;rw[if_pos h2];simp
  ·have:=sE h2;refine⟨⟨2*i+1,2*i+4,(x.aj.getD i default).kind,0,[]⟩,Zao.2 (.inl ?_),rfl,rfl,rfl,rfl⟩;refine iJ (k:=i) (by omega) (by omega) ?_;unfold rI;refine Zao.2 (.inr ?_);unfold rT;rw[if_pos h2];simp
  ·refine⟨⟨2*i,2*m,k,jJ (fY x i m) (x.insert.getD k default),dd (m-i)++[(3,(k:Int))]⟩,Zao.2 (.inr ?_),rfl,rfl,rfl,rfl⟩;refine iJ (k:=i) (by omega) (by omega) ?_;unfold iI;refine iJ (k:=m) h1 (by omega) ?_;unfold iM;refine iJ (k:=k) (by omega) h3 ?_;unfold iT;simp
structure OZ(x x':Input)(a b w:Nat):Prop where
 l1:a+w<=x.aj.length
 l2:b+w<=x'.aj.length
 ins:x.insert=x'.insert
 sw:x.swap=x'.swap
 col:∀j,j<w->x.aj.getD (a+j) default=x'.aj.getD (b+j) default
theorem OZ.symm{x x':Input}{a b w:Nat}(h:OZ x x' a b w):OZ x' x b a w:=⟨h.l2,h.l1,h.ins.symm,h.sw.symm,λj hj=>(h.col j hj).symm⟩
theorem Fa{x x':Input}{a b w:Nat}(h:OZ x x' a b w){p q:Nat}(hq:q<=w):fY x (a+p) (a+q)=fY x' (b+p) (b+q):=by
 unfold fY
 congr 1
 apply Zbl;intro j;simp only[Zbb,ZaF];have h1:=h.l1;have h2:=h.l2;by_cases hj:p+j<q
 ·rw[if_pos (by omega),if_pos (by omega)];have:=h.col (p+j) (by omega);rw[Zan (by omega),Zan (by omega)];have e1:x.aj.getD (a+(p+j)) default=x.aj[a+p+j]'(by omega):=by simp[List.getD,show a+(p+j)=a+p+j by omega,show a+p+j<x.aj.length by omega]
  have e2:x'.aj.getD (b+(p+j)) default=x'.aj[b+p+j]'(by omega):=by simp[List.getD,show b+(p+j)=b+p+j by omega,show b+p+j<x'.aj.length by omega]
  rw[<-e1,<-e2,this]
 ·rw[if_neg (by omega),if_neg (by omega)]
def reach(x x':Input)(a b w:Nat)(T:Int):Prop:=(T % 2=1/\(T-1)/2+2<=a+w)\/(T % 2=0/\T/2<=a+w)\/(a+w=x.aj.length/\b+w=x'.aj.length)
theorem Ia{x x':Input}{a b w:Nat}(h:OZ x x' a b w){q:Nat}(hr:q+2<=w\/(a+w=x.aj.length/\b+w=x'.aj.length))(hs:bX x (a+q)=true):
  bX x' (b+q)=true/\(x.aj.getD (a+q) default).kind=(x'.aj.getD (b+q) default).kind/\(x.aj.getD (a+q+1) default).kind=(x'.aj.getD (b+q+1) default).kind:=by
 have cW:=sE hs;have hw:q+2<=w:=by
  rcases hr with hr|hr
  ·exact hr
  ·omega
 have c1:=h.col q (by omega);have c2:=h.col (q+1) (by omega);rw[<-Nat.add_assoc,<-Nat.add_assoc]at c2;unfold bX at hs⊢;have hs:=of_decide_eq_true hs;rw[c1,c2,h.sw]at hs;have h2:=h.l2;exact⟨decide_eq_true ⟨by omega,hs.2.1,hs.2.2.1,hs.2.2.2⟩,by rw[c1],by rw[c2]⟩
theorem Ib{x x':Input}{a b w:Nat}(h:OZ x x' a b w){T:Int}(hT:T<=2*(a+w:Nat))(hr:reach x x' a b w T){f t e c:Int}(hf:2*(a:Int)<=f)(ht:t<=T)(hb:T % 2=0->t≠T-1)(hc:Cand x f t e c):
  Cand x' (f+2*b-2*a) (t+2*b-2*a) e c:=by
 have h1:=h.l1;have h2:=h.l2;have sw:∀q:Nat,2*(q:Int)+1<=T-2*a->(T % 2=0->2*(q:Int)+1≠T-2*a-1)->q+2<=w\/(a+w=x.aj.length/\b+w=x'.aj.length):=by
  intro q k1 k2;unfold reach at hr;rcases hr with hr|hr|hr
  ·left;omega
  ·left;have:=k2 hr.1;omega
  ·exact .inr hr
 rcases hc with⟨i,m,k,q1,q2,q3,q4,rfl,rfl,rfl,rfl⟩|⟨i,m,q1,q2,rfl,rfl,rfl,rfl⟩|⟨i,q2,rfl,rfl,rfl,rfl⟩|⟨i,m,k,q1,q2,q3,rfl,rfl,rfl,rfl⟩
 ·obtain⟨p,rfl⟩:∃p,i=a+p:=⟨i-a,by omega⟩;obtain⟨q,rfl⟩:∃q,m=a+q:=⟨m-a,by omega⟩;have hc:=h.col q (by omega);have hre:lI x (a+q) k=lI x' (b+q) k:=by unfold lI;rw[hc]
  exact .inl ⟨b+p,b+q,k,by omega,by omega,by rw[<-h.ins];exact q3,by rw[<-hre];exact q4,by omega,by omega,rfl,by rw[Fa h (by omega),hre]⟩
 ·obtain⟨p,rfl⟩:∃p,i=a+p:=⟨i-a,by omega⟩;obtain⟨q,rfl⟩:∃q,m=a+q:=⟨m-a,by omega⟩;have hs:=Ia h (sw q (by omega) (λe=>by have:=hb e;omega)) q2;have:=sE q2;exact .inr (.inl ⟨b+p,b+q,by omega,hs.1,by omega,by omega,hs.2.2,by rw[Fa h (by omega),h.sw]⟩)
 ·obtain⟨q,rfl⟩:∃q,i=a+q:=⟨i-a,by omega⟩;have hs:=Ia h (q:=q) (.inl (by omega)) q2;exact .inr (.inr (.inl ⟨b+q,hs.1,by omega,by omega,hs.2.1,rfl⟩))
 ·obtain⟨p,rfl⟩:∃p,i=a+p:=⟨i-a,by omega⟩;obtain⟨q,rfl⟩:∃q,m=a+q:=⟨m-a,by omega⟩;exact .inr (.inr (.inr ⟨b+p,b+q,k,by omega,by omega,by rw[<-h.ins];exact q3,by omega,by omega,rfl,by rw[Fa h (by omega),h.ins]⟩))
theorem reach.symm{x x':Input}{a b w:Nat}{T:Int}(h:reach x x' a b w T):reach x' x b a w (T+2*b-2*a):=by
 unfold reach at h⊢;rcases h with h|h|h
 ·left;omega
 ·right;left;omega
 ·right;right;exact⟨h.2,h.1⟩
theorem XB{x x':Input}{a b w:Nat}(h:OZ x x' a b w){T:Int}(hT:T<=2*(a+w:Nat))(hr:reach x x' a b w T){f t e c:Int}(hf:2*(a:Int)<=f)(ht:t<=T)(hb:T % 2=0->t≠T-1):
  j7 (dS x) f t e c↔j7 (dS x') (f+2*b-2*a) (t+2*b-2*a) e c:=by
 have key:∀{c:Int},j7 (wH x) f t e c↔j7 (wH x') (f+2*b-2*a) (t+2*b-2*a) e c:=by
  intro c;rw[vQ,vQ];refine⟨Ib h hT hr hf ht hb,λhc=>?_⟩;have:=Ib h.symm (T:=T+2*b-2*a) (by omega) hr.symm (f:=f+2*b-2*a) (t:=t+2*b-2*a) (by omega) (by omega) (by omega) hc;rw[show f+2*b-2*a+2*a-2*b=f by omega,show t+2*b-2*a+2*a-2*b=t by omega]at this;exact this
 rw[pM,pM,key];constructor
 ·rintro⟨h1,h2,h3⟩;exact⟨h1,h2,λc' Ah=>h3 c' (key.2 Ah)⟩
 ·rintro⟨h1,h2,h3⟩;exact⟨h1,h2,λc' Ah=>h3 c' (key.1 Ah)⟩
theorem XC{x:Input}{f t e c:Int}(h:j7 (dS x) f t e c)(ho:f % 2=1):t=f+3:=by
 have:=(vQ x f t e c).1 ((pM x f t e c).1 h).1;rcases this with⟨i,m,k,_,_,_,_,rfl,_⟩|⟨i,m,_,_,rfl,_⟩|⟨i,_,rfl,rfl,_⟩|⟨i,m,k,_,_,_,rfl,_⟩<;>omega
structure Sim(l l':aL)(s t s':Nat):Prop where
 aD:∀f to e c:Int,s<=f->to<=t->((t:Int) % 2=0->to≠t-1)->(j7 l.aD f to e c↔j7 l'.aD (f-s+s') (to-s+s') e c)
 gap:(t:Int) % 2=0->∀to e c:Int,j7 l.aD (t-1) to e c->t<to
theorem no_der{n:aG}{l:aL}{h:Int}{p q k:Nat}{g:Int}{v:br}(d:eQ n l h p q k g v)(ha:∀a∈l.aD,a.f<=a.t):(∀to e c:Int,j7 l.aD p to e c->q<to)->p=q:=by
 induction d with
 |empty _ _ _=>intro _;rfl
 | @term s t k a r x hk h1 hx h2 h3 h4 hv=>
  intro uE;have:=uE x.t x.term x.cost ⟨x,Zaq hx,h2,rfl,rfl,rfl⟩;omega
 |unary _ _ _ _ ih=>exact ih
 | @binary s m t k k1 k2 g1 g2 r v w hk h1 hs ht d1 d2 hv ih1 Oq=>
  intro uE;have e:s=m:=ih1 λto e c h=>by have:=uE to e c h;omega
  subst e;exact Oq uE
theorem Nj{n:aG}{l l':aL}{s t s':Nat}(S:Sim l l' s t s')(ha:∀a∈l.aD,a.f<=a.t){h:Int}{p q k:Nat}{g:Int}{v:br}(d:eQ n l h p q k g v):
  s<=p->q<=t->((t:Int) % 2=0->(q:Int)≠t-1)->∃g',eQ n l' h (p-s+s') (q-s+s') k g' v/\((∀r,n.rules[k]? =some r->r.kind≠2)->g'=g-s+s'):=by
 induction d with
 | @empty s0 k r hk h1 hv=>
  intro a1 a2 a3;exact⟨_,eQ.empty hk h1 hv,λ_=>by omega⟩
 | @term s0 t0 k a r x hk h1 hx h2 h3 h4 hv=>
  intro a1 a2 a3;obtain⟨x',hm,e1,e2,e3,e4⟩:=(S.aD x.f x.t x.term x.cost (by omega) (by omega) (by rw[h3];exact a3)).1 ⟨x,Zaq hx,rfl,rfl,rfl,rfl⟩;obtain⟨a',ha'⟩:=List.mem_iff_getElem?.1 hm;have hle:=ha x (Zaq hx);refine⟨(a':Int), ?_,λbG=>absurd h1 (bG r hk)⟩;have:=eQ.term (n:=n) (l:=l') (s:=s0-s+s') (t:=t0-s+s') hk h1 ha' (by omega) (by omega) (by rw[e3];exact h4) (by rw[e4];exact hv);rw[e4]at this;exact this
 | @unary s0 t0 k k1 g1 r v hk h1 d hv ih=>
  intro a1 a2 a3;obtain⟨g',d',_⟩:=ih a1 a2 a3;exact⟨_,eQ.unary hk h1 d' hv,λ_=>by omega⟩
 | @binary s0 m t0 k k1 k2 g1 g2 r v w hk h1 hs ht d1 d2 hv ih1 Oq=>
  intro a1 a2 a3;have hm:(t:Int) % 2=0->(m:Int)≠t-1:=by
   intro e1 e2;have e3:t0=t:=by have:=a3 e1;omega
   have:=no_der d2 ha λto e c hx=>by
    rw[e2]at hx;have:=S.gap e1 to e c hx;omega
   omega
  obtain⟨g1',d1',_⟩:=ih1 a1 (by omega) hm;obtain⟨g2',d2',_⟩:=Oq (by omega) a2 a3;exact⟨_,eQ.binary hk h1 (by omega) (by omega) d1' d2' hv,λ_=>by omega⟩
theorem TX{n:aG}{l l':aL}{s t s' t':Nat}(lG:s<=t)(et:t'=t-s+s')(S:Sim l l' s t s')(S':Sim l' l s' t' s)(ha:∀a∈l.aD,a.f<=a.t)(ha':∀a∈l'.aD,a.f<=a.t){h:Int}{x y:Cell}
  (hx:Good n l h s t x) (hy:Good n l' h s' t' y):x.val=y.val/\x.ez=y.ez/\(∀(k:Nat) r,n.rules[k]? =some r->x.ez=k->r.kind≠2->y.arg=x.arg-s+s'):=by
 have fwd:∀{k:Nat} {g:Int} {v:br},eQ n l h s t k g v->∃g',eQ n l' h s' t' k g' v/\((∀r,n.rules[k]? =some r->r.kind≠2)->g'=g-s+s'):=by
  intro k g v d;have:=Nj S ha d (Zae _) (Zae _) (by omega);rw[show s-s+s'=s' by omega,<-et]at this;exact this
 have bwd:∀{k:Nat} {g:Int} {v:br},eQ n l' h s' t' k g v->∃g',eQ n l h s t k g' v/\((∀r,n.rules[k]? =some r->r.kind≠2)->g'=g-s'+s):=by
  intro k g v d;have:=Nj S' ha' d (Zae _) (Zae _) (by omega);rw[show s'-s'+s=s by omega,show t'-s'+s=t by omega]at this;exact this
 have adl:∀{v:br},v.cost<1099511627776->v.lt fc.val:=λh=>.inl h;rcases hx.top with ex|⟨⟨k,ek,d⟩,Ey⟩
 ·rcases hy.top with ey|⟨⟨k',_,d'⟩,_⟩
  ·subst ex ey;refine⟨rfl,rfl,λk r _ h _=>?_⟩;simp only[fc]at h;omega
  ·obtain⟨g',d2,_⟩:=bwd d';subst ex;exact absurd (adl d2.fin) (hx.least _ ⟨_,_,d2⟩)
 ·obtain⟨g',d2,hg⟩:=fwd d;rcases hy.top with ey|⟨⟨k',ek',d'⟩,hmin'⟩
  ·subst ey;exact absurd (adl d2.fin) (hy.least _ ⟨_,_,d2⟩)
  ·obtain⟨g2',d2',hg'⟩:=bwd d';have hv:x.val=y.val:=br.antisymm (hy.least _ ⟨_,_,d2⟩) (hx.least _ ⟨_,_,d2'⟩);have m1:=Ey k' g2' (by rw[hv];exact d2');have m2:=hmin' k g' (by rw[<-hv];exact d2);unfold vJ at m1 m2;have er:x.ez=y.ez:=by omega
   refine⟨hv,er,λk0 r wB e0 bG=>?_⟩;have ekk:k=k0:=by omega
   have ekk':k'=k0:=by omega
   subst ekk ekk';have h1:=hg λr' fe=>by rw[wB]at fe;cases fe;exact bG
   have h2:=hg' λr' fe=>by rw[wB]at fe;cases fe;exact bG
   omega
theorem Nk{x x':Input}{a b w:Nat}(h:OZ x x' a b w){s t:Nat}(hs:2*a<=s)(hT:t<=2*(a+w))(hr:reach x x' a b w t):Sim (aI x) (aI x') s t (s+2*b-2*a):=by
 refine⟨λf to e c h1 h2 h3=>?_,λhe to e c hx=>?_⟩
 ·have:=XB h (T:=t) (by omega) hr (f:=f) (t:=to) (e:=e) (c:=c) (by omega) h2 h3;rw[show f-(s:Int)+((s+2*b-2*a:Nat):Int)=f+2*b-2*a by omega,show to-(s:Int)+((s+2*b-2*a:Nat):Int)=to+2*b-2*a by omega];exact this
 ·have:=XC hx (by omega);omega
theorem nU{x:Input}(h:ku x):∀a∈(aI x).aD,a.f<=a.t:=by
 intro a ha;have:=(vQ x a.f a.t a.term a.cost).1 ((pM x _ _ _ _).1 ⟨a,ha,rfl,rfl,rfl,rfl⟩).1;rcases this with⟨i,m,k,_,_,_,_,h1,h2,_⟩|⟨i,m,_,_,h1,h2,_⟩|⟨i,_,h1,h2,_⟩|⟨i,m,k,_,_,_,h1,h2,_⟩<;>omega
theorem Dq{n:aG}{x x':Input}{a b w:Nat}(hn:oX n)(hx:ku x)(gb:ku x')(h:OZ x x' a b w){hd:Int}{s t:Nat}(h0:0<=hd)(h1:hd<n.an)(lG:s<=t)(hs:2*a<=s)(hT:t<=2*(a+w))(hr:reach x x' a b w t):
  ∃k,k=t+2*b-2*a/\(lH (cD n (aI x)) hd s t).val=(lH (cD n (aI x')) hd (s+2*b-2*a:Nat) k).val/\(lH (cD n (aI x)) hd s t).ez=(lH (cD n (aI x')) hd (s+2*b-2*a:Nat) k).ez/\
   (∀(k0:Nat) r,n.rules[k0]? =some r->(lH (cD n (aI x)) hd s t).ez=k0->r.kind≠2->(lH (cD n (aI x')) hd (s+2*b-2*a:Nat) k).arg=(lH (cD n (aI x)) hd s t).arg+2*b-2*a):=by
 obtain⟨t',ht'⟩:∃t',t+2*b-2*a=t':=⟨_,rfl⟩;have l1:=h.l1;have l2:=h.l2;have S:=Nk h hs hT hr;have S':=Nk h.symm (s:=s+2*b-2*a) (t:=t') (by omega) (by omega) (by have:=reach.symm hr;rw[show((t:Int)+2*b-2*a)=(t':Int)by omega]at this;exact this);rw[show s+2*b-2*a+2*a-2*b=s by omega]at S';have Ke:(aI x).aP=2*x.aj.length+1:=rfl;have N8:(aI x').aP=2*x'.aj.length+1:=rfl;have g1:=kR hn (pJ hx) (nU hx) h0 h1 lG (by omega);have g2:=kR hn (pJ gb) (nU gb) h0 h1 (s:=s+2*b-2*a) (t:=t') (by omega) (by omega);obtain⟨r1,r2,r3⟩:=TX lG (by omega) S S' (nU hx) (nU gb) g1 g2;refine⟨t',ht'.symm,r1,r2,λk0 r hk he bG=>?_⟩;have:=r3 k0 r hk he bG;omega
theorem Ie{α:Type}{d:α}{a b:List α}{i:Nat}:(a++b).getD i d=if i<a.length then a.getD i d else b.getD (i-a.length) d:=by
 simp only[List.getD,Zb9];split<;>rfl
theorem xC{x:Input}{fr od:Nat}{new:List bC}(h1:fr<=x.aj.length)(h2:od<=x.aj.length-fr):(cz x fr od new).aj.length=x.aj.length-od+new.length:=by
 simp only[cz,ZaA,Zaw,Za9];omega
theorem KW{x:Input}{fr od:Nat}{new:List bC}(h1:fr<=x.aj.length)(h2:od<=x.aj.length-fr):OZ x (cz x fr od new) 0 0 fr:=by
 refine⟨by omega,by rw[xC h1 h2];omega,rfl,rfl,λj hj=>?_⟩;simp only[cz,ZaY];rw[List.append_assoc,Ie,if_pos (by rw[Zaw];omega)];simp only[List.getD,ZaF];rw[if_pos hj]
theorem Ig{x:Input}{fr od:Nat}{new:List bC}(h1:fr<=x.aj.length)(h2:od<=x.aj.length-fr):OZ x (cz x fr od new) (fr+od) (fr+new.length) (x.aj.length-(fr+od)):=by
 refine⟨by omega,by rw[xC h1 h2];omega,rfl,rfl,λj hj=>?_⟩;simp only[cz];rw[Ie,if_neg (by rw[ZaA,Zaw];omega)];simp only[List.getD,Zbb,ZaA,Zaw];rw[show fr+od+(fr+new.length+j-(min fr x.aj.length+new.length))=fr+od+j by omega]
theorem O2{z:Ask}(h:zf z):oX z.n/\ku z.x/\ku (nT z)/\TN z/\(z.x.aj.length:Int)<=4/\(z.new.length:Int)<=3:=by
 obtain⟨h1,h2,_⟩:=h;have h3:z.n.aW<=5:=by omega
 have h4:eP z.n:=Classical.not_not.1 λc=>h1 (.inr (.inr (.inr (.inl c))));have h5:Dj z.x z.n.aW:=Classical.not_not.1 λc=>h1 (.inr (.inr (.inr (.inr (.inr (.inr (.inl c)))))));exact⟨h4.ok,TP h5 h3,TP h2 h3,⟨by omega,by omega,by omega,by omega,by omega,by omega⟩,by omega,by omega⟩
abbrev s9:DM.Spec:=cy (λts=>∃nt nn ns rules ct ins sw fr od new,ts=[.agg [ti nt,ti nn,ti ns,.sl (aR rules),.sl (aV ct),.sl (aB ins),ti sw,ti fr,ti od,.sl (aV new)]]/\rules.length<=9223372036854775807/\ins.length<=9223372036854775807)
 (fun|[.agg [.int _ nt,.int _ nn,.int _ ns,.sl r,.sl c,.sl i,.int _ s,.int _ fr,.int _ od,.sl nw]]=>.bool (decide (zf ⟨⟨nt,nn,ns,vG r⟩,⟨fJ c,fq i,s⟩,fr,od,fJ nw⟩))|_=>.bool false) true
abbrev s10:DM.Spec:=cy (λts=>ts=[]) (λ_=>.bool true) true
abbrev s15:DM.Spec:=cy (λts=>∃nt nn ns rules ct ins sw fr od new,ts=[.agg [ti nt,ti nn,ti ns,.sl (aR rules),.sl (aV ct),.sl (aB ins),ti sw,ti fr,ti od,.sl (aV new)]])
 (fun|[.agg [_,_,_,_,_,_,_,.int _ fr,.int _ od,.sl nw]]=>.agg [ti fr,ti od,ti nw.length]|_=>.bool false) true
theorem ok9{l:List (Nat×DM.Spec)}(h:aw Tryz.prog (aX l)):aw Tryz.prog (aX ((9,s9)::(10,s10)::(15,s15)::l)):=by
 refine aw.cons (aw.cons (aw.cons h ?_) ?_) ?_
 ·rintro ts ⟨nt,nn,ns,rules,ct,ins,sw,fr,od,new,rfl⟩;exact⟨by simpa [Ask.enc]using t15 ⟨⟨nt,nn,ns,rules⟩,⟨ct,ins,sw⟩,fr,od,new⟩,λ_=>rfl⟩
 ·rintro ts rfl;exact⟨t10,λ_=>rfl⟩
 ·rintro ts ⟨nt,nn,ns,rules,ct,ins,sw,fr,od,new,rfl,h1,h2⟩;exact⟨by simpa [Ask.enc]using t9 ⟨⟨nt,nn,ns,rules⟩,⟨ct,ins,sw⟩,fr,od,new⟩ ⟨h1,h2⟩,λ_=>rfl⟩
theorem TZ{l:List (Nat×DM.Spec)}(h:aw Tryz.prog (aX l)):aw Tryz.prog (aX ((12,s12)::(11,s11)::(19,s19)::l)):=by
 refine aw.cons (aw.cons (aw.cons h ?_) ?_) ?_
 ·rintro ts ⟨cn,cs,cl,h,f,t,rfl,h1⟩;exact⟨by simpa [bW.enc,Cell.enc]using t19 ⟨cn,cs,cl⟩ h f t h1,λ_=>rfl⟩
 ·rintro ts ⟨nt,nn,ns,rules,ls,aD,fin,rfl,h1,h2⟩;exact⟨by simpa [aG.enc,aL.enc,bW.enc,cD]using t11 ⟨nt,nn,ns,rules⟩ ⟨ls,aD,fin⟩ h1 h2,λh=>by cases h⟩
 ·rintro ts ⟨a,b,c,rfl,h1,h2,h3,h4⟩;exact⟨by simpa [Input.enc,aL.enc]using _root_.Go.Proofs.t14 ⟨a,b,c⟩ h1 h2 h3 h4,λh=>by cases h⟩
end cq
end Go.Proofs
namespace Go.Proofs
namespace cq
open Go.DM Go.ChangeShapes Go.Deep
def T0:Ty:=.seq [.int .i64,.int .i64,.int .i64,.int .i64,.int .i64,.int .i64]
def T1:Ty:=.seq [.int .i64,.int .i64,.int .i64,.slice T0]
def T2:Ty:=.seq [T1,XE,.int .i64,.int .i64,.slice T3]
theorem XF{ts:List T}(h:T0.has ts):∃r:bD,ts=r.enc:=by
 obtain⟨_,_,rfl,h1,h⟩:=all_cons (Fb h);obtain⟨_,_,rfl,h2,h⟩:=all_cons h;obtain⟨_,_,rfl,h3,h⟩:=all_cons h;obtain⟨_,_,rfl,h4,h⟩:=all_cons h;obtain⟨_,_,rfl,h5,h⟩:=all_cons h;obtain⟨_,_,rfl,h6,h⟩:=all_cons h;obtain rfl:=all_nil h;obtain⟨a,rfl⟩:=iX h1;obtain⟨b,rfl⟩:=iX h2;obtain⟨c,rfl⟩:=iX h3;obtain⟨d,rfl⟩:=iX h4;obtain⟨e,rfl⟩:=iX h5;obtain⟨f,rfl⟩:=iX h6;exact⟨⟨a,b,c,d,e,f⟩,rfl⟩
theorem ask_of{x:T}(h:T2.arg x):∃z:Ask,x=z.enc/\z.n.rules.length<=9223372036854775807/\z.x.insert.length<=9223372036854775807:=by
 unfold T2 Ty.arg at h;obtain⟨ts,rfl,h⟩:=h;obtain⟨_,_,rfl,h1,h⟩:=all_cons h;obtain⟨_,_,rfl,h2,h⟩:=all_cons h;obtain⟨_,_,rfl,h3,h⟩:=all_cons h;obtain⟨_,_,rfl,h4,h⟩:=all_cons h;obtain⟨_,_,rfl,h5,h⟩:=all_cons h;obtain rfl:=all_nil h;obtain⟨_,_,rfl,n1,h1⟩:=all_cons (Fb h1);obtain⟨_,_,rfl,n2,h1⟩:=all_cons h1;obtain⟨_,_,rfl,n3,h1⟩:=all_cons h1;obtain⟨_,_,rfl,n4,h1⟩:=all_cons h1;obtain rfl:=all_nil h1;obtain⟨_,_,rfl,x1,h2⟩:=all_cons (Fb h2);obtain⟨_,_,rfl,x2,h2⟩:=all_cons h2;obtain⟨_,_,rfl,x3,h2⟩:=all_cons h2;obtain rfl:=all_nil h2;obtain⟨nt,rfl⟩:=iX n1;obtain⟨nn,rfl⟩:=iX n2;obtain⟨ns,rfl⟩:=iX n3;obtain⟨rules,rfl,hr⟩:=rO (λr=>XF) n4;obtain⟨ct,rfl,hc⟩:=rO (λr=>T4) x1;obtain⟨ins,rfl,hi⟩:=rO (λr=>iX) x2;obtain⟨sw,rfl⟩:=iX x3;obtain⟨fr,rfl⟩:=iX h3;obtain⟨od,rfl⟩:=iX h4;obtain⟨new,rfl,hn⟩:=rO (λr=>T4) h5;exact⟨⟨⟨nt,nn,ns,rules⟩,⟨ct,ins,sw⟩,fr,od,new⟩,rfl,hr,hi⟩
abbrev Nl:List (String×DataW Unit):=[("emendate/chart.none",.agg [.agg [.lit (.int .i64 1099511627776),.lit (.int .i64 0)],.lit (.int .i64 (-1)),.lit (.int .i64 0)])]
theorem gNone:Tryz.prog.globalNamed "emendate/chart.none" =some 0:=by kernel_rfl
theorem tNone:(Tryz.prog.globals[0]?).map (·.type)=some 57:=by kernel_rfl
theorem uCell:Tryz.prog.underlying 57=some (.struct #[⟨"Value",55,0,false, "", "",0⟩,⟨"Rule",3,2,false, "", "",16⟩,⟨"Arg",3,3,false, "", "",24⟩]):=by kernel_rfl
theorem uVal:Tryz.prog.underlying 55=some (.struct #[⟨"Cost",3,0,false, "", "",0⟩,⟨"Size",3,1,false, "", "",8⟩]):=by kernel_rfl
theorem XG:Tryz.prog.underlying 3=some (.int .i64):=by kernel_rfl
theorem XH:Tryz.prog.cellsOf 57=4:=by kernel_rfl
theorem XI:Tryz.prog.cellsOf 55=2:=by kernel_rfl
theorem cells3:Tryz.prog.cellsOf 3=1:=by kernel_rfl
theorem cs4{cs:List Value}(h:cs.length=4):∃a b c d,cs=[a,b,c,d]:=by
 match cs,h with
 |[a,b,c,d],_=>exact⟨a,b,c,d,rfl⟩
theorem XJ{W:World}(h:laidMet Tryz.prog Nl W):W.cell? ⟨0,0,none⟩=some (.int .i64 1099511627776)/\W.cell? ⟨0,1,none⟩=some (.int .i64 0)/\W.cell? ⟨0,2,none⟩=some (.int .i64 (-1))/\W.cell? ⟨0,3,none⟩=some (.int .i64 0):=by
 obtain⟨ps,⟨g,t,cs,fuel,p,q,hg,ht,hv,hd,_,_⟩,_⟩:=h;obtain rfl:=ZbK (gNone.symm.trans hg);obtain rfl:=ZbK (tNone.symm.trans ht);obtain⟨y0,y1,y2,n,ex,hl,e0,e1,e2⟩:=trod_struct3 uCell hd;rw[XH]at hl;obtain⟨v0,v1,v2,v3,mE⟩:=cs4 hl;rw[mE]at e0 e1 e2;obtain⟨z0,z1,m,ey,qj,f0,f1⟩:=trod_struct2 uVal e0;simp only[XI,cells3,List.drop_zero,ZbY,List.take_zero,List.drop_succ_cons]at e1 e2 f0 f1;obtain⟨i1,r1,rfl,_⟩:=DataW.trod_int XG e1;obtain⟨i2,r2,rfl,_⟩:=DataW.trod_int XG e2;obtain⟨i3,r3,rfl,_⟩:=DataW.trod_int XG f0;obtain⟨i4,r4,rfl,_⟩:=DataW.trod_int XG f1;subst ey;have ex:=(congrArg Prod.fst ex).symm;simp only[DataW.agg.injEq,Za6,DataW.lit.injEq,Lit.int.injEq,and_true,true_and,Za6]at ex r1 r2 r3 r4;obtain⟨⟨rfl,rfl⟩,rfl,rfl⟩:=ex;subst r1 r2 r3 r4;have hc:cs= #[.int .i64 1099511627776,.int .i64 0,.int .i64 (-1),.int .i64 0]:=by
  apply Array.toList_inj.1;rw[mE]
 subst hc;exact⟨World.var?_cell hg hv 0,World.var?_cell hg hv 1,World.var?_cell hg hv 2,World.var?_cell hg hv 3⟩
theorem laidOk{W:World}(h:laidMet Tryz.prog Nl W):zT W λ_=>False:=by
 obtain⟨h0,h1,h2,h3⟩:=XJ h;intro p hp;obtain rfl:p=_:=Zah.1 hp;refine⟨(MG h0).1,λx=>x, ?_⟩;simp only[cV,aS,and_true,ZaY,Nat.reduceAdd];exact⟨⟨_,h0,rfl,rfl⟩,⟨_,h1,rfl,rfl⟩,⟨_,h2,rfl,rfl⟩,⟨_,h3,rfl,rfl⟩⟩
structure tz where
 (x h t:Int)
 deriving DecidableEq,Inhabited
def tz.enc(e:tz):List T:=[ti e.x,ti e.h,ti e.t]
def fW(l:List tz):List (List T):=l.map tz.enc
def Ls:List T->tz
 |[a,b,c]=>⟨cX a,cX b,cX c⟩
 |_=>default
@[simp] theorem Lt(e:tz):Ls e.enc=e:=by simp[Ls,tz.enc,cX]
@[simp] theorem DA{a b:List tz}:fW a=fW b↔a=b:=⟨λh=>by
 have:=congrArg (List.map Ls) h;simpa [fW,fC Lt]using this,λh=>by rw[h]⟩
@[simp] theorem entsT_len(l:List tz):(fW l).length=l.length:=by simp[fW]
theorem gu{l:List tz}{y:Nat}(h:y<l.length):DM.rowAt (fW l) y=(l.getD y default).enc:=by simp[DM.rowAt,fW,h]
theorem sM(l:List tz)(i:Nat)(e:tz):fW (l.set i e)=(fW l).set i e.enc:=by simp[fW,ZbJ]
theorem Fz(a b:List tz):fW (a++b)=fW a++fW b:=by simp[fW]
theorem Lu(a:List tz)(n:Nat):(fW a).take n=fW (a.take n):=by simp[fW,List.map_take]
abbrev Pl:=List (Nat×Int×Int)
def wE(l:Pl):List (Nat×T×DV):=l.map λe=>(e.1,ti e.2.1,.v (ti e.2.2))
@[simp] theorem Nu{a b:Pl}:wE a=wE b↔a=b:=⟨λh=>by
 unfold wE at h;refine List.map_inj_right (f:=λe:Nat×Int×Int=>(e.1,ti e.2.1,DV.v (ti e.2.2))) ?_|>.1 h
 rintro⟨a,b,c⟩ ⟨a',b',c'⟩ h;simpa using h,λh=>by rw[h]⟩
def sN(l:Pl)(k:Int):Option Nat:=l.findIdx? λe=>e.2.1==k
def jH(l:Pl)(k:Int):Option Int:=(l.find? λe=>e.2.1==k).map (·.2.2)
def eC(l:Pl)(c:Nat)(k v:Int):Pl:=match sN l k with
 |some i=>l.modify i λe=>(e.1,e.2.1,v)
 |none=>l++[(c,k,v)]
def BG(l:Pl)(c:Nat)(k:Int):Nat:=match sN l k with
 |some _=>c
 |none=>c+1
def nE(l:Pl)(k:Int):Pl:=match sN l k with
 |some i=>l.eraseIdx i
 |none=>l
theorem Nv(a b:Int):fk (ti a) (ti b)=(b==a):=by
 simp only[fk];by_cases h:a=b
 ·simp[h]
 ·have:¬b=a:=λe=>h e.symm;simp[h,this]
theorem vX(l:Pl)(k:Int):(wE l).findIdx? (λe=>fk (ti k) e.2.1)=sN l k:=by
 unfold wE sN;rw[List.findIdx?_map]
 congr 1
 funext e;simp only[Function.comp,Nv]
theorem IC(l:Pl)(k:Int):ov (ti k) (wE l)=(l.find? λe=>e.2.1==k).map λe=>(e.1,ti e.2.1,.v (ti e.2.2)):=by
 unfold ov wE;rw[List.find?_map]
 congr 2
 funext e;simp only[Function.comp,Nv]
theorem jI{α β:Type}{f:α->β}{g:α->α}{g':β->β}(h:∀a,g' (f a)=f (g a)):∀(l:List α) (i:Nat),(l.map f).modify i g'=(l.modify i g).map f
 |[],i=>by cases i<;>simp
 |a::l,0=>by simp[h]
 |a::l,i+1=>by simp[jI h l i]
theorem nW{α β:Type}{f:α->β}:∀(l:List α) (i:Nat),(l.map f).eraseIdx i=(l.eraseIdx i).map f
 |[],i=>by simp
 |a::l,0=>by simp
 |a::l,i+1=>by simp[nW l i]
theorem Vu(l:Pl)(c:Nat)(k v:Int):D9 (ti k) (.v (ti v)) c (wE l)=wE (eC l c k v):=by
 unfold D9 eC;rw[vX];cases sN l k with
 |none=>simp[wE]
 |some i=>exact jI (f:=λe:Nat×Int×Int=>(e.1,ti e.2.1,DV.v (ti e.2.2))) (g:=λe=>(e.1,e.2.1,v)) (g':=λe=>(e.1,e.2.1,DV.v (ti v))) (λ_=>rfl) l i
theorem Lv(l:Pl)(c:Nat)(k:Int):mA (ti k) c (wE l)=BG l c k:=by
 unfold mA BG;rw[vX];cases sN l k<;>rfl
theorem Vv(l:Pl)(k:Int):WU (ti k) (wE l)=wE (nE l k):=by
 unfold WU nE;rw[vX];cases sN l k with
 |none=>rfl
 |some i=>exact nW l i
def qu(l:Pl):Prop:=(l.map (·.1)).Nodup
theorem vY{α:Type}{p:α->Bool}:∀{l:List α} {i:Nat},l.findIdx? p=some i->∃a,l[i]? =some a/\p a=true/\l.find? p=some a
 |[],i,h=>by simp at h
 |a::l,i,h=>by
  rw[Za4]at h;by_cases hp:p a=true
  ·simp only[hp,if_true,Zaa]at h;subst h;exact⟨a,rfl,hp,by simp[hp]⟩
  ·simp only[hp,ZaT,if_false,Zab]at h;obtain⟨j,hj,rfl⟩:=h;obtain⟨b,h1,h2,h3⟩:=vY hj;exact⟨b,by simpa using h1,h2,by simp[hp,h3]⟩
theorem DB:∀{l:Pl} {i:Nat} {e:Nat×Int×Int},qu l->l[i]? =some e->(wE l).findIdx? (λx=>(x.1:Int)==(e.1:Int))=some i
 |[],i,e,_,h=>by simp at h
 |a::l,0,e,hk,h=>by
  simp only[ZaG,Zaa]at h;subst h;simp[wE,Za4]
 |a::l,i+1,e,hk,h=>by
  simp only[ZaX]at h;simp only[qu,Zau,ZbM]at hk;have bG:¬a.1=e.1:=λq=>hk.1 (q▸Zal.2 ⟨e,Zaq h,rfl⟩);have ih:=DB (l:=l) hk.2 h;unfold wE at ih⊢;rw[Zau,Za4];have:¬(((a.1:Int)==(e.1:Int))=true):=by simp;omega
  simp only[this,ih];rfl
theorem ID{l:Pl}{k v:Int}{i:Nat}{e:Nat×Int×Int}(hk:qu l)(hi:sN l k=some i)(he:l[i]? =some e)(c:Nat):WY (e.1:Int) (.v (ti v)) (wE l)=some (wE (eC l c k v)):=by
 unfold WY;rw[DB hk he];unfold eC;rw[hi];simp only[Za1,Zaa];exact jI (f:=λe:Nat×Int×Int=>(e.1,ti e.2.1,DV.v (ti e.2.2))) (g:=λe=>(e.1,e.2.1,v)) (g':=λe=>(e.1,e.2.1,DV.v (ti v))) (λ_=>rfl) l i
theorem IE{l:Pl}{c:Nat}{k v:Int}(hk:qu l)(hc:∀e∈l,e.1<c):qu (eC l c k v)/\∀e∈eC l c k v,e.1<BG l c k:=by
 unfold eC BG;cases h:sN l k with
 |none=>
  refine⟨?_,λe he=>?_⟩
  ·unfold qu;rw[ZaP,ZbP];refine⟨hk,by simp,λa ha b hb=>?_⟩;obtain⟨e,he,rfl⟩:=Zal.1 ha;simp at hb;have:=hc e he;omega
  ·rcases Zao.1 he with he|he
   ·have:=hc e he;simp only;omega
   ·simp at he;subst he;simp
 |some i=>
  have hm:((l.modify i λe=>(e.1,e.2.1,v)).map (·.1))=l.map (·.1):=by
   have h1:=jI (f:=λe:Nat×Int×Int=>e.1) (g:=λe=>(e.1,e.2.1,v)) (g':=id) (λ_=>rfl) l i;rw[ZcS]at h1;exact h1.symm
  refine⟨by unfold qu;rw[hm];exact hk,λe he=>?_⟩;have:e.1∈l.map (·.1):=by rw[<-hm];exact Zal.2 ⟨e,he,rfl⟩
  obtain⟨e',WE,h2⟩:=Zal.1 this;have:=hc e' WE;show e.1<c;omega
end cq
end Go.Proofs
