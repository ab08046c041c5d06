/- Part of the proof. Conditions: none. -/
import Derived.Test.YtljcdomdjgolkaaGreatDoorXah
import Derived.Test.YtljcdomdjgolkaaGreatDoorXaf
import Derived.Test.YtljcdomdjgolkaaGreatDoorXag
import Derived.Deep.Strs
import Derived.Lib.LaidTab
set_option linter.unusedSectionVars false
set_option linter.unusedSimpArgs false
set_option linter.unusedVariables false
set_option maxHeartbeats 8000000
set_option maxRecDepth 20000
namespace Go.Proofs
namespace cu
open Go.DM
def kindOk(n:aG)(r:bC):Prop:=
 if r.kind=1 then r.a=0/\r.b=0 else if r.kind=2 then r.a>=0/\r.a<n.aV/\r.b=0 else if r.kind=3 then r.a>=0/\r.a<n.an/\r.b=0
 else if r.kind=4 then r.a>=0/\r.a<n.an/\r.b>=0/\r.b<n.an else False
instance(n:aG)(r:bC):Decidable (kindOk n r):=by unfold kindOk;infer_instance
def lK(n:aG)(r:bC):Prop:=¬(r.head<0\/r.head>=n.an\/r.bE<0\/r.bE>1000\/r.origin< -1)
instance(n:aG)(r:bC):Decidable (lK n r):=by unfold lK;infer_instance
def Ii(n:aG):Prop:=¬(n.aV<0\/n.aV>120\/n.an<1\/n.an>1000\/n.start<0\/n.start>=n.an\/(n.rules.length:Int)>600)
instance(n:aG):Decidable (Ii n):=by unfold Ii;infer_instance
def eO(n:aG):Prop:=Ii n/\∀i,i<n.rules.length->lK n (n.rules.getD i default)/\kindOk n (n.rules.getD i default)
instance(n:aG):Decidable (eO n):=by unfold eO;infer_instance
theorem eO.ok{n:aG}(h:eO n):oK n:=by
 obtain⟨h1,h2⟩:=h;unfold Ii at h1;refine⟨by omega,by omega,by omega,λr hr=>?_⟩;obtain⟨i,hi,rfl⟩:=ZaZ hr;obtain⟨h3,h4⟩:=h2 i hi;rw[show n.rules.getD i default=n.rules[i]by simp[List.getD,hi]]at h3 h4;unfold lK at h3;unfold kindOk at h4;unfold ud;refine⟨by omega,by omega,by omega,by omega, ?_⟩;split at h4
 ·exact .inl (by assumption)
 ·split at h4
  ·exact .inr (.inl ⟨by assumption,by omega,by omega⟩)
  ·split at h4
   ·exact .inr (.inr (.inl ⟨by assumption,by omega,by omega⟩))
   ·split at h4
    ·exact .inr (.inr (.inr ⟨by assumption,by omega,by omega,by omega,by omega⟩))
    ·exact h4.elim
theorem t20(n:aG)(hl:n.rules.length<=9223372036854775807):aT Tryz.prog 20 [n.enc] (.bool (decide (eO n))):=by
 obtain⟨nt,nn,ns,rules⟩:=n;obtain⟨v,hv⟩:∃v,decide (eO ⟨nt,nn,ns,rules⟩)=v:=⟨_,rfl⟩;rw[hv];simp only at hl;have cY:eO ⟨nt,nn,ns,rules⟩↔Ii ⟨nt,nn,ns,rules⟩/\∀i,i<rules.length->lK ⟨nt,nn,ns,rules⟩ (rules.getD i default)/\kindOk ⟨nt,nn,ns,rules⟩ (rules.getD i default):=Iff.rfl;have bad:¬eO ⟨nt,nn,ns,rules⟩->v=false:=λh=>by rw[<-hv];simp[h]
 have aw:=ed;refine c20.ok (by simp) (aJ ?_);simp[aG.enc];refine aa.ab aw fw [1] ?_;simp[aac];refine aa.le (Le.aC (o:=[]) (l:=[(1,.v (.box [ti nt,ti nn,ti ns,.sl (aS rules)]))]) (nxt':=1200) ?_ ?_ ?_ ?_) ?_;iterate 4(·simp)
 refine aa.seq ?_;obtain⟨c1,bb⟩:∃c1:Bool,decide (nt<0\/nt>120\/nn<1\/nn>1000\/ns<0\/ns>=nn\/(rules.length:Int)>600)=c1:=⟨_,rfl⟩;refine aa.bY aw fw [(1,.v (.box [ti nt,ti nn,ti ns,.sl (aS rules)])),(41,.v (.bool c1))] ?_ ?_
 ·by_cases q1:nt<0
  ·have:c1=true:=by rw[<-bb];simp[q1]
   simp[vw,q1,this]
  ·skip
   by_cases q2:nt>120
   ·have:c1=true:=by rw[<-bb];simp[q2]
    simp[vw,q1,q2,this]
   ·skip
    by_cases q3:nn<1
    ·have:c1=true:=by rw[<-bb];simp[q3]
     simp[vw,q1,q2,q3,this]
    ·skip
     by_cases q4:nn>1000
     ·have:c1=true:=by rw[<-bb];simp[q4]
      simp[vw,q1,q2,q3,q4,this]
     ·skip
      by_cases q5:ns<0
      ·have:c1=true:=by rw[<-bb];simp[q5]
       simp[vw,q1,q2,q3,q4,q5,this]
      ·skip
       by_cases q6:ns>=nn
       ·have:c1=true:=by rw[<-bb];simp[q6]
        simp[vw,q1,q2,q3,q4,q5,q6,this]
       ·skip
        by_cases q7:(rules.length:Int)>600
        ·have:c1=true:=by rw[<-bb];simp[q7]
         simp[vw,q1,q2,q3,q4,q5,q6,q7,this]
        ·skip
         have:c1=false:=by rw[<-bb];simp[q1,q2,q3,q4,q5,q6,q7]
         simp[vw,q1,q2,q3,q4,q5,q6,q7,this]
 refine aa.cond rfl (λh1=>?_) (λh1=>?_)
 ·rw[h1]at bb;have bb:=of_decide_eq_true bb;refine aa.ab aw fw [2] ?_;simp[aad];refine aa.ret ?_;rw[bad λh=>(cY.1 h).1 bb];simp[pC]
 ·rw[h1]at bb;have bb:=of_decide_eq_false bb;refine aa.skip ?_;simp;refine aa.seq ?_;refine aa.ab aw fw [1,3] ?_;simp[aae];refine aa.block ?_;refine aa.loop (λy:Nat=>⟨DM.look [(1,.v (.box [ti nt,ti nn,ti ns,.sl (aS rules)])),(3,.v (ti y))],cA [],2000,1000,[]⟩)
   (λy=>y<=rules.length/\∀i,i<y->lK ⟨nt,nn,ns,rules⟩ (rules.getD i default)/\kindOk ⟨nt,nn,ns,rules⟩ (rules.getD i default)) (λy=>rules.length-y) 0 (Le.aC (o:=[]) ?_ ?_ ?_ ?_) (by simp) (λy hy=>?_)
  iterate 4(·simp)
  obtain⟨jR,fl⟩:=hy;refine aa.seq ?_;refine aa.ab aw fw [1,3,46] ?_;simp[aaf];refine aa.cond rfl (λbM=>?_) (λbM=>?_)
  ·have bM:y<rules.length:=by simpa using bM
   refine aa.skip ?_;simp;refine aa.seq ?_;refine aa.block ?_;have rr:=fT bM;obtain⟨⟨rk,rh,ra,rb,rp,rg⟩,hr⟩:∃r,rules.getD y default=r:=⟨_,rfl⟩;rw[hr]at rr;refine aa.ab aw fw [1,3,4] ?_;simp[aag,bM,rr,bC.enc];refine aa.le (Le.aC (o:=[]) (l:=[(1,.v (.box [ti nt,ti nn,ti ns,.sl (aS rules)])),(3,.v (ti y)),(4,.v (.box [ti rk,ti rh,ti ra,ti rb,ti rp,ti rg]))]) (nxt':=2400) ?_ ?_ ?_ ?_) ?_;iterate 4(·simp)
   refine aa.seq ?_;obtain⟨c2,dG⟩:∃c2:Bool,decide (rh<0\/rh>=nn\/rp<0\/rp>1000\/rg< -1)=c2:=⟨_,rfl⟩;refine aa.bY aw fw [(1,.v (.box [ti nt,ti nn,ti ns,.sl (aS rules)])),(3,.v (ti y)),(4,.v (.box [ti rk,ti rh,ti ra,ti rb,ti rp,ti rg])),(78,.v (.bool c2))] ?_ ?_
   ·by_cases q1:rh<0
    ·have:c2=true:=by rw[<-dG];simp[q1]
     simp[AV,q1,this]
    ·skip
     by_cases q2:rh>=nn
     ·have:c2=true:=by rw[<-dG];simp[q2]
      simp[AV,q1,q2,this]
     ·skip
      by_cases q3:rp<0
      ·have:c2=true:=by rw[<-dG];simp[q3]
       simp[AV,q1,q2,q3,this]
      ·skip
       by_cases q4:rp>1000
       ·have:c2=true:=by rw[<-dG];simp[q4]
        simp[AV,q1,q2,q3,q4,this]
       ·skip
        by_cases q5:rg< -1
        ·have:c2=true:=by rw[<-dG];simp[q5]
         simp[AV,q1,q2,q3,q4,q5,this]
        ·skip
         have:c2=false:=by rw[<-dG];simp[q1,q2,q3,q4,q5]
         simp[AV,q1,q2,q3,q4,q5,this]
   refine aa.cond rfl (λh2=>?_) (λh2=>?_)
   ·rw[h2]at dG;have dG:=of_decide_eq_true dG;refine aa.ab aw fw [2] ?_;simp[aah];refine aa.ret ?_;rw[bad λh=>((cY.1 h).2 y bM).1 (by rw[hr];exact dG)];simp[pC]
   ·rw[h2]at dG;have dG:lK ⟨nt,nn,ns,rules⟩ ⟨rk,rh,ra,rb,rp,rg⟩:=of_decide_eq_false dG;refine aa.skip ?_;simp;obtain⟨k1,qg⟩:∃k1:Bool,decide (kindOk ⟨nt,nn,ns,rules⟩ ⟨rk,rh,ra,rb,rp,rg⟩)=k1:=⟨_,rfl⟩;have wx:=qg;have qg:k1=true↔kindOk ⟨nt,nn,ns,rules⟩ ⟨rk,rh,ra,rb,rp,rg⟩:=by rw[<-wx,decide_eq_true_iff]
    simp only[kindOk]at qg;refine aa.ab aw fw [1,3,4,5] ?_;simp[aai];refine aa.seq ?_;refine aa.ab aw fw [1,3,4,5,80] ?_;simp[aaj];refine aa.block ?_;refine aa.ab aw fw [1,3,4,5,80,81] ?_;simp[RG];refine aa.cond rfl (λg1=>?_) (λg1=>?_)
    ·have g1:rk=1:=by simpa using g1
     rw[if_pos g1]at qg;have qU:decide (ra=0/\rb=0)=k1:=by cases k1<;>simp at qg⊢<;>first|exact qg|omega
     refine aa.EC aw fw [(1,.v (.box [ti nt,ti nn,ti ns,.sl (aS rules)])),(3,.v (ti y)),(5,.v (.bool k1))] ?_ ?_
     ·by_cases q1:ra=0
      ·skip
       by_cases q2:rb=0
       ·skip
        have:k1=true:=by rw[<-qU];simp[q1,q2]
        simp[EM,q1,q2,this]
       ·have:k1=false:=by rw[<-qU];simp[q2]
        simp[EM,q1,q2,this]
      ·have:k1=false:=by rw[<-qU];simp[q1]
       simp[EM,q1,this]
     refine aa.ab aw fw [1,3,150] ?_;simp[xd];refine aa.cond rfl (λh5=>?_) (λh5=>?_)
     ·skip
      refine aa.ab aw fw [2] ?_;simp[xi];refine aa.ret ?_;rw[bad λh=>by
       have h6:=((cY.1 h).2 y bM).2;rw[hr]at h6;rw[decide_eq_true h6]at wx
       simp_all]
      simp[pC]
     ·skip
      refine aa.skip ?_;simp;have qg:kindOk ⟨nt,nn,ns,rules⟩ ⟨rk,rh,ra,rb,rp,rg⟩:=of_decide_eq_true (by rw[wx];simp_all);refine aa.dp aw fw [1,3] ?_;simp[xj];rw[au (x:=(y:Int)+1) (by omega)];refine⟨y+1,Le.aC (o:=[]) ?_ ?_ ?_ ?_,⟨by omega,λi hi=>?_⟩,by omega⟩;iterate 4(·simp)
      ·by_cases e:i=y
       ·subst e;show lK _ (rules.getD i default)/\kindOk _ (rules.getD i default);rw[hr];exact⟨dG,qg⟩
       ·exact fl i (by omega)
    ·have g1:¬rk=1:=by simpa using g1
     rw[if_neg g1]at qg;refine aa.ab aw fw [1,3,4,5,80,91] ?_;simp[RH];refine aa.cond rfl (λg2=>?_) (λg2=>?_)
     ·have g2:rk=2:=by simpa using g2
      rw[if_pos g2]at qg;have qU:decide (ra>=0/\ra<nt/\rb=0)=k1:=by cases k1<;>simp at qg⊢<;>first|exact qg|omega
      refine aa.EC aw fw [(1,.v (.box [ti nt,ti nn,ti ns,.sl (aS rules)])),(3,.v (ti y)),(5,.v (.bool k1))] ?_ ?_
      ·by_cases q1:ra>=0
       ·skip
        by_cases q2:ra<nt
        ·skip
         by_cases q3:rb=0
         ·skip
          have:k1=true:=by rw[<-qU];simp[q1,q2,q3]
          simp[AW,q1,q2,q3,this]
         ·have:k1=false:=by rw[<-qU];simp[q3]
          simp[AW,q1,q2,q3,this]
        ·have:k1=false:=by rw[<-qU];simp[q2]
         simp[AW,q1,q2,this]
       ·have:k1=false:=by rw[<-qU];simp[q1]
        simp[AW,q1,this]
      refine aa.ab aw fw [1,3,150] ?_;simp[xd];refine aa.cond rfl (λh5=>?_) (λh5=>?_)
      ·skip
       refine aa.ab aw fw [2] ?_;simp[xi];refine aa.ret ?_;rw[bad λh=>by
        have h6:=((cY.1 h).2 y bM).2;rw[hr]at h6;rw[decide_eq_true h6]at wx
        simp_all]
       simp[pC]
      ·skip
       refine aa.skip ?_;simp;have qg:kindOk ⟨nt,nn,ns,rules⟩ ⟨rk,rh,ra,rb,rp,rg⟩:=of_decide_eq_true (by rw[wx];simp_all);refine aa.dp aw fw [1,3] ?_;simp[xj];rw[au (x:=(y:Int)+1) (by omega)];refine⟨y+1,Le.aC (o:=[]) ?_ ?_ ?_ ?_,⟨by omega,λi hi=>?_⟩,by omega⟩;iterate 4(·simp)
       ·by_cases e:i=y
        ·subst e;show lK _ (rules.getD i default)/\kindOk _ (rules.getD i default);rw[hr];exact⟨dG,qg⟩
        ·exact fl i (by omega)
     ·have g2:¬rk=2:=by simpa using g2
      rw[if_neg g2]at qg;refine aa.ab aw fw [1,3,4,5,80,108] ?_;simp[RI];refine aa.cond rfl (λg3=>?_) (λg3=>?_)
      ·have g3:rk=3:=by simpa using g3
       rw[if_pos g3]at qg;have qU:decide (ra>=0/\ra<nn/\rb=0)=k1:=by cases k1<;>simp at qg⊢<;>first|exact qg|omega
       refine aa.EC aw fw [(1,.v (.box [ti nt,ti nn,ti ns,.sl (aS rules)])),(3,.v (ti y)),(5,.v (.bool k1))] ?_ ?_
       ·by_cases q1:ra>=0
        ·skip
         by_cases q2:ra<nn
         ·skip
          by_cases q3:rb=0
          ·skip
           have:k1=true:=by rw[<-qU];simp[q1,q2,q3]
           simp[AX,q1,q2,q3,this]
          ·have:k1=false:=by rw[<-qU];simp[q3]
           simp[AX,q1,q2,q3,this]
         ·have:k1=false:=by rw[<-qU];simp[q2]
          simp[AX,q1,q2,this]
        ·have:k1=false:=by rw[<-qU];simp[q1]
         simp[AX,q1,this]
       refine aa.ab aw fw [1,3,150] ?_;simp[xd];refine aa.cond rfl (λh5=>?_) (λh5=>?_)
       ·skip
        refine aa.ab aw fw [2] ?_;simp[xi];refine aa.ret ?_;rw[bad λh=>by
         have h6:=((cY.1 h).2 y bM).2;rw[hr]at h6;rw[decide_eq_true h6]at wx
         simp_all]
        simp[pC]
       ·skip
        refine aa.skip ?_;simp;have qg:kindOk ⟨nt,nn,ns,rules⟩ ⟨rk,rh,ra,rb,rp,rg⟩:=of_decide_eq_true (by rw[wx];simp_all);refine aa.dp aw fw [1,3] ?_;simp[xj];rw[au (x:=(y:Int)+1) (by omega)];refine⟨y+1,Le.aC (o:=[]) ?_ ?_ ?_ ?_,⟨by omega,λi hi=>?_⟩,by omega⟩;iterate 4(·simp)
        ·by_cases e:i=y
         ·subst e;show lK _ (rules.getD i default)/\kindOk _ (rules.getD i default);rw[hr];exact⟨dG,qg⟩
         ·exact fl i (by omega)
      ·have g3:¬rk=3:=by simpa using g3
       rw[if_neg g3]at qg;refine aa.ab aw fw [1,3,4,5,125] ?_;simp[RJ];refine aa.cond rfl (λg4=>?_) (λg4=>?_)
       ·have g4:rk=4:=by simpa using g4
        rw[if_pos g4]at qg;have qU:decide (ra>=0/\ra<nn/\rb>=0/\rb<nn)=k1:=by cases k1<;>simp at qg⊢<;>first|exact qg|omega
        refine aa.EC aw fw [(1,.v (.box [ti nt,ti nn,ti ns,.sl (aS rules)])),(3,.v (ti y)),(5,.v (.bool k1))] ?_ ?_
        ·by_cases q1:ra>=0
         ·skip
          by_cases q2:ra<nn
          ·skip
           by_cases q3:rb>=0
           ·skip
            by_cases q4:rb<nn
            ·skip
             have:k1=true:=by rw[<-qU];simp[q1,q2,q3,q4]
             simp[xb,q1,q2,q3,q4,this]
            ·have:k1=false:=by rw[<-qU];simp[q4]
             simp[xb,q1,q2,q3,q4,this]
           ·have:k1=false:=by rw[<-qU];simp[q3]
            simp[xb,q1,q2,q3,this]
          ·have:k1=false:=by rw[<-qU];simp[q2]
           simp[xb,q1,q2,this]
         ·have:k1=false:=by rw[<-qU];simp[q1]
          simp[xb,q1,this]
        refine aa.ab aw fw [1,3,150] ?_;simp[xd];refine aa.cond rfl (λh5=>?_) (λh5=>?_)
        ·skip
         refine aa.ab aw fw [2] ?_;simp[xi];refine aa.ret ?_;rw[bad λh=>by
          have h6:=((cY.1 h).2 y bM).2;rw[hr]at h6;rw[decide_eq_true h6]at wx
          simp_all]
         simp[pC]
        ·skip
         refine aa.skip ?_;simp;have qg:kindOk ⟨nt,nn,ns,rules⟩ ⟨rk,rh,ra,rb,rp,rg⟩:=of_decide_eq_true (by rw[wx];simp_all);refine aa.dp aw fw [1,3] ?_;simp[xj];rw[au (x:=(y:Int)+1) (by omega)];refine⟨y+1,Le.aC (o:=[]) ?_ ?_ ?_ ?_,⟨by omega,λi hi=>?_⟩,by omega⟩;iterate 4(·simp)
         ·by_cases e:i=y
          ·subst e;show lK _ (rules.getD i default)/\kindOk _ (rules.getD i default);rw[hr];exact⟨dG,qg⟩
          ·exact fl i (by omega)
       ·have g4:¬rk=4:=by simpa using g4
        rw[if_neg g4]at qg;have qU:k1=false:=by cases k1<;>simp at qg⊢
        rw[qU]at wx;refine aa.skip ?_;simp;refine aa.ab aw fw [1,3,150] ?_;simp[xd];refine aa.cond rfl (λh5=>?_) (λh5=>?_)
        ·skip
         refine aa.ab aw fw [2] ?_;simp[xi];refine aa.ret ?_;rw[bad λh=>by
          have h6:=((cY.1 h).2 y bM).2;rw[hr]at h6;rw[decide_eq_true h6]at wx
          simp_all]
         simp[pC]
        ·skip
         refine aa.skip ?_;simp;have qg:kindOk ⟨nt,nn,ns,rules⟩ ⟨rk,rh,ra,rb,rp,rg⟩:=of_decide_eq_true (by rw[wx];simp_all);refine aa.dp aw fw [1,3] ?_;simp[xj];rw[au (x:=(y:Int)+1) (by omega)];refine⟨y+1,Le.aC (o:=[]) ?_ ?_ ?_ ?_,⟨by omega,λi hi=>?_⟩,by omega⟩;iterate 4(·simp)
         ·by_cases e:i=y
          ·subst e;show lK _ (rules.getD i default)/\kindOk _ (rules.getD i default);rw[hr];exact⟨dG,qg⟩
          ·exact fl i (by omega)
  ·have WD:y=rules.length:=by simp at bM;omega
   subst WD;refine aa.exit ?_;simp;refine aa.ab aw fw [2] ?_;simp[RK];refine aa.ret ?_;have:v=true:=by rw[<-hv];exact decide_eq_true (cY.2 ⟨bb,fl⟩)
   rw[this];simp[pC]
structure dj where
 head:Int
 tn:List Int
 (cost l0 l1:Int)
 deriving DecidableEq,Inhabited
def dj.enc(e:dj):List T:=[ti e.head,.sl (aB e.tn),ti e.cost,ti e.l0,ti e.l1]
def cj(l:List dj):List (List T):=l.map dj.enc
def Ua:List T->dj
 |[a,.sl b,c,d,e]=>⟨cX a,fu b,cX c,cX d,cX e⟩
 |_=>default
def Bs(l:List (List T)):List dj:=l.map Ua
@[simp] theorem O6(r:dj):Ua r.enc=r:=by simp[Ua,dj.enc,cX]
@[simp] theorem decHEs_enc(l:List dj):Bs (cj l)=l:=fD O6 l
@[simp] theorem hedgesT_len(l:List dj):(cj l).length=l.length:=by simp[cj]
@[simp] theorem hedgesT_inj{a b:List dj}:cj a=cj b↔a=b:=⟨λh=>by have:=congrArg Bs h;simpa using this,λh=>by rw[h]⟩
theorem vP{l:List dj}{y:Nat}(h:y<l.length):DM.rowAt (cj l) y=(l.getD y default).enc:=by simp[DM.rowAt,cj,h]
def j6(r:bC):List Int:=if r.kind=3 then [r.a]else if r.kind=4 then [r.a,r.b]else []
theorem t93(r:bC):aT Tryz.prog 93 [.agg r.enc] (.sl (aB (j6 r))):=by
 obtain⟨rk,rh,ra,rb,rp,rg⟩:=r;obtain⟨R,hR⟩:∃R,j6 ⟨rk,rh,ra,rb,rp,rg⟩=R:=⟨_,rfl⟩;rw[hR];simp only[j6]at hR;have aw:=ed;refine c93.ok (by simp) (aJ ?_);simp[bC.enc];refine aa.ab aw fw [1] ?_;simp[ZG];refine aa.le (Le.aC (o:=[]) (l:=[(1,.v (.box [ti rk,ti rh,ti ra,ti rb,ti rp,ti rg]))]) (nxt':=1200) ?_ ?_ ?_ ?_) ?_;iterate 4(·simp)
 refine aa.seq ?_;refine aa.ab aw fw [1,4] ?_;simp[ZH];refine aa.block ?_;refine aa.ab aw fw [1,4,5] ?_;simp[ZI];refine aa.cond rfl (λh1=>?_) (λh1=>?_)
 ·have h1:rk=3:=by simpa using h1
  rw[if_pos h1]at hR;subst hR;refine aa.ab aw fw [2] ?_;simp[ZJ,chunk];refine aa.ret ?_;simp[EJ,aB]
 ·have h1:¬rk=3:=by simpa using h1
  rw[if_neg h1]at hR;refine aa.ab aw fw [1,10] ?_;simp[ZK];refine aa.cond rfl (λh2=>?_) (λh2=>?_)
  ·have h2:rk=4:=by simpa using h2
   rw[if_pos h2]at hR;subst hR;refine aa.ab aw fw [2] ?_;simp[ZL,chunk];refine aa.ret ?_;simp[EJ,aB]
  ·have h2:¬rk=4:=by simpa using h2
   rw[if_neg h2]at hR;subst hR;refine aa.skip ?_;simp;refine aa.ab aw fw [2] ?_;simp[ZM];refine aa.ret ?_;simp[EJ,aB]
def fE(v:List br)(ts:List Int):List br:=ts.map λt=>v.getD t.toNat default
theorem t91(e:dj)(v:List br)(h:∀t∈e.tn,0<=t/\t<v.length)(hl:e.tn.length<=1000000):lJ Tryz.prog 91 [.agg e.enc,.sl (bI v)] 55 2 (bI (fE v e.tn)):=by
 obtain⟨eh,ts,ec,e0,e1⟩:=e;simp only at h hl;have aw:=ed;refine c91.okF (by simp) (aJ ?_);simp[dj.enc];refine aa.ab aw fw [1,2] ?_;simp[Zp];refine aa.le (Le.aC (o:=[]) (l:=[(1,.v (.sl (bI v))),(2,.v (.box [ti eh,.sl (aB ts),ti ec,ti e0,ti e1]))]) (nxt':=1200) ?_ ?_ ?_ ?_) ?_;iterate 4(·simp)
 refine aa.ab aw fw [1,2,5] ?_;simp[Zq];refine aa.le (Le.aC (o:=[]) (l:=[(1,.v (.sl (bI v))),(2,.v (.box [ti eh,.sl (aB ts),ti ec,ti e0,ti e1])),(5,.aI)]) (nxt':=1400) ?_ ?_ ?_ ?_) ?_;iterate 4(·simp)
 refine aa.le (Le.l8 (k:=5) 55 (sz:=2) (by omega) (by simp)) ?_;rw[im];refine aa.seq ?_;refine aa.ab aw fw [1,2,5,6] ?_;simp[Zr];refine aa.block ?_;refine aa.loop (λy:Nat=>⟨DM.look [(1,.v (.sl (bI v))),(2,.v (.box [ti eh,.sl (aB ts),ti ec,ti e0,ti e1])),(5,.bk 1400 0),(6,.v (ti y))],cA [(1400,.arr 0 55 2 (bI (fE v (ts.take y))))],1600,1000,[]⟩)
  (λy=>y<=ts.length) (λy=>ts.length-y) 0 (Le.aC ?_ ?_ ?_ ?_) (by simp) (λy hy=>?_)
 ·simp
 ·simp
 ·simp[fE]
 ·simp
 refine aa.seq ?_;refine aa.ab aw fw [1,2,5,6,11] ?_;simp[Zs];refine aa.cond rfl (λbM=>?_) (λbM=>?_)
 ·have bM:y<ts.length:=by simpa using bM
  refine aa.skip ?_;simp;refine aa.seq ?_;refine aa.block ?_;have rt:=cO bM;obtain⟨t,ht⟩:∃t,ts.getD y default=t:=⟨_,rfl⟩;rw[ht]at rt;obtain⟨q1,q2⟩:=h t (by rw[<-ht];exact bw bM);obtain⟨t,rfl⟩:=Zad q1;have q2:t<v.length:=by omega
  have rv:=dP q2;obtain⟨w,hw⟩:∃w,v.getD t default=w:=⟨_,rfl⟩;rw[hw]at rv;have hS:bI (fE v (ts.take (y+1)))=bI (fE v (ts.take y))++[[ti w.cost,ti w.size]]:=by
   rw[cM bM,ht];simp only[fE,ZaP,Zau,ZbX,Zak,hw,bI]
  have hTl:(fE v (ts.take y)).length<=1000000:=by simp[fE];omega
  refine aa.dp aw fw [1,2,5,6] ?_;simp[Zt,bM,rt,q2,rv,cG,chunk];repeat (refine⟨by omega, ?_⟩)
  refine aa.dp aw fw [1,2,5,6] ?_;simp[Zu];rw[au (x:=(y:Int)+1) (by omega)];refine⟨y+1,Le.aC ?_ ?_ ?_ ?_,by omega,by omega⟩
  ·simp
  ·simp
  ·simp[hS]
  ·simp
 ·have fl:y=ts.length:=by simp at bM;omega
  subst fl;rw[Zbn];refine aa.exit ?_;simp;refine aa.ab aw fw [4] ?_;simp[Zv];refine aa.ret ?_;exact .inr ⟨1400,0,by simp,by simp⟩
def Fc(ins:List Int)(i:Nat):Prop:=¬(ins.getD i default<1\/ins.getD i default>60000)
instance(ins:List Int)(i:Nat):Decidable (Fc ins i):=by unfold Fc;infer_instance
def eV(n:aG)(ins:List Int):Prop:=(ins.length:Int)=n.aV/\∀i,i<ins.length->Fc ins i
instance(n:aG)(ins:List Int):Decidable (eV n ins):=by unfold eV;infer_instance
theorem t44(n:aG)(ins:List Int)(hl:ins.length<=9223372036854775807):aT Tryz.prog 44 [n.enc,.sl (aB ins)] (.bool (decide (eV n ins))):=by
 obtain⟨nt,nn,ns,rules⟩:=n;obtain⟨v,hv⟩:∃v,decide (eV ⟨nt,nn,ns,rules⟩ ins)=v:=⟨_,rfl⟩;rw[hv];have cY:eV ⟨nt,nn,ns,rules⟩ ins↔(ins.length:Int)=nt/\∀i,i<ins.length->Fc ins i:=Iff.rfl;have bad:¬eV ⟨nt,nn,ns,rules⟩ ins->v=false:=λh=>by rw[<-hv];simp[h]
 have aw:=ed;refine c44.ok (by simp) (aJ ?_);simp[aG.enc];refine aa.ab aw fw [1,2] ?_;simp[ZV];refine aa.le (Le.aC (o:=[]) (l:=[(1,.v (.sl (aB ins))),(2,.v (.box [ti nt,ti nn,ti ns,.sl (aS rules)]))]) (nxt':=1200) ?_ ?_ ?_ ?_) ?_;iterate 4(·simp)
 refine aa.seq ?_;refine aa.ab aw fw [1,10] ?_;simp[ZW];refine aa.cond rfl (λh1=>?_) (λh1=>?_)
 ·have h1:¬(ins.length:Int)=nt:=by simpa using h1
  refine aa.ab aw fw [4] ?_;simp[ZX];refine aa.ret ?_;rw[bad λh=>h1 (cY.1 h).1];simp[EK]
 ·have h1:(ins.length:Int)=nt:=by simpa using h1
  refine aa.skip ?_;simp;refine aa.seq ?_;refine aa.ab aw fw [1,5] ?_;simp[ZY];refine aa.block ?_;refine aa.loop (λy:Nat=>⟨DM.look [(1,.v (.sl (aB ins))),(5,.v (ti y))],cA [],2000,1000,[]⟩)
   (λy=>y<=ins.length/\∀i,i<y->Fc ins i) (λy=>ins.length-y) 0 (Le.aC (o:=[]) ?_ ?_ ?_ ?_) (by simp) (λy hy=>?_)
  iterate 4(·simp)
  obtain⟨jR,fl⟩:=hy;refine aa.seq ?_;refine aa.ab aw fw [1,5,14] ?_;simp[ZZ];refine aa.cond rfl (λbM=>?_) (λbM=>?_)
  ·have bM:y<ins.length:=by simpa using bM
   refine aa.skip ?_;simp;refine aa.seq ?_;refine aa.block ?_;have rr:=cO bM;obtain⟨x,hx⟩:∃x,ins.getD y default=x:=⟨_,rfl⟩;rw[hx]at rr;obtain⟨c2,dG⟩:∃c2:Bool,decide (x<1\/x>60000)=c2:=⟨_,rfl⟩;refine aa.bY aw fw [(1,.v (.sl (aB ins))),(5,.v (ti y)),(28,.v (.bool c2))] ?_ ?_
   ·by_cases q1:x<1
    ·have:c2=true:=by rw[<-dG];simp[q1]
     simp[MT,q1,this,bM,rr]
    ·skip
     by_cases q2:x>60000
     ·have:c2=true:=by rw[<-dG];simp[q2]
      simp[MT,q1,q2,this,bM,rr]
     ·skip
      have:c2=false:=by rw[<-dG];simp[q1,q2]
      simp[MT,q1,q2,this,bM,rr]
   refine aa.cond rfl (λh2=>?_) (λh2=>?_)
   ·rw[h2]at dG;have dG:=of_decide_eq_true dG;refine aa.ab aw fw [4] ?_;simp[Z0];refine aa.ret ?_;rw[bad λh=>by have:=(cY.1 h).2 y bM;unfold Fc at this;rw[hx]at this;exact this dG];simp[EK]
   ·rw[h2]at dG;have dG:=of_decide_eq_false dG;refine aa.skip ?_;simp;refine aa.dp aw fw [1,5] ?_;simp[Z1];rw[au (x:=(y:Int)+1) (by omega)];refine⟨y+1,Le.aC (o:=[]) ?_ ?_ ?_ ?_,⟨by omega,λi hi=>?_⟩,by omega⟩;iterate 4(·simp)
    ·by_cases e:i=y
     ·subst e;unfold Fc;rw[hx];exact dG
     ·exact fl i (by omega)
  ·have WD:y=ins.length:=by simp at bM;omega
   subst WD;refine aa.exit ?_;simp;refine aa.ab aw fw [4] ?_;simp[Z2];refine aa.ret ?_;have:v=true:=by rw[<-hv];exact decide_eq_true (cY.2 ⟨h1,fl⟩)
   rw[this];simp[EK]
def jC(ins:List Int)(r:bC):dj:=⟨r.head,j6 r,if r.kind=2 then r.bE+ins.getD r.a.toNat default else r.bE,0,0⟩
def ue(n:aG)(ins:List Int):List dj:=n.rules.map (jC ins)
abbrev s93:DM.Spec:=cy (λts=>∃a b c d e f,ts=[.agg [ti a,ti b,ti c,ti d,ti e,ti f]]) (fun|[.agg r]=>.sl (aB (j6 (pF r)))|_=>.bool false) false
theorem ok93:ay Tryz.prog (aW [(93,s93)]):=by
 refine ay.cons ay.nil ?_;rintro ts ⟨a,b,c,d,e,f,rfl⟩;exact⟨by simpa [bC.enc,pF,cX]using t93 ⟨a,b,c,d,e,f⟩,λh=>by cases h⟩
theorem K0(r:bC):(j6 r).length<=2:=by unfold j6;split<;>(try split)<;>simp
theorem t67(n:aG)(ins:List Int)(hn:oK n)(hp:eV n ins):aT Tryz.prog 67 [n.enc,.sl (aB ins)] (.agg [ti n.an,.sl (cj (ue n ins))]):=by
 obtain⟨nt,nn,ns,rules⟩:=n;obtain⟨n1,n2,n3,n4⟩:=hn;obtain⟨p1,p2⟩:=hp;simp only[ue]at n1 n2 n3 n4 p1 p2⊢;have aw:=ok93;refine c67.ok (by simp) (aJ ?_);simp[aG.enc];refine aa.ab aw fw [1,2,4] ?_;simp[ZN];refine aa.le (Le.aC (o:=[(1005,.box [.v (ti 0),.aI])]) (l:=[(1,.v (.sl (aB ins))),(2,.v (.box [ti nt,ti nn,ti ns,.sl (aS rules)])),(4,.ptr 1005 0)]) (nxt':=1200) ?_ ?_ ?_ ?_) ?_;iterate 4(·simp)
 refine aa.ab aw fw [1,2,4,5] ?_;simp[ZO];refine aa.le (Le.aC (o:=[(1005,.box [.v (ti 0),.aI])]) (l:=[(1,.v (.sl (aB ins))),(2,.v (.box [ti nt,ti nn,ti ns,.sl (aS rules)])),(4,.ptr 1005 0),(5,.aI)]) (nxt':=1400) ?_ ?_ ?_ ?_) ?_;iterate 4(·simp)
 refine aa.le (Le.l8 (k:=5) 156 (sz:=5) (by omega) (by simp)) ?_;rw[im];refine aa.seq ?_;refine aa.ab aw fw [1,2,4,5,6] ?_;simp[ZP];refine aa.block ?_;refine aa.loop (λy:Nat=>⟨DM.look [(1,.v (.sl (aB ins))),(2,.v (.box [ti nt,ti nn,ti ns,.sl (aS rules)])),(4,.ptr 1005 0),(5,.bk 1400 0),(6,.v (ti y))],cA [(1005,.box [.v (ti 0),.aI]),(1400,.arr 0 156 5 (cj ((rules.take y).map (jC ins))))],1600,1000,[]⟩)
  (λy=>y<=rules.length) (λy=>rules.length-y) 0 (Le.aC ?_ ?_ ?_ ?_) (by simp) (λy hy=>?_)
 ·simp
 ·simp
 ·simp[cj]
 ·simp
 refine aa.seq ?_;refine aa.ab aw fw [1,2,4,5,6,13] ?_;simp[ZQ];refine aa.cond rfl (λbM=>?_) (λbM=>?_)
 ·have bM:y<rules.length:=by simpa using bM
  refine aa.skip ?_;simp;refine aa.seq ?_;refine aa.block ?_;have rr:=fT bM;obtain⟨⟨rk,rh,ra,rb,rp,rg⟩,hr⟩:∃r,rules.getD y default=r:=⟨_,rfl⟩;rw[hr]at rr;have jS:=n4 ⟨rk,rh,ra,rb,rp,rg⟩ (by rw[<-hr];exact bw bM);obtain⟨q1,q2,q3,q4,q5⟩:=jS;simp only at q1 q2 q3 q4 q5;refine aa.ab aw fw [1,2,4,5,6,7] ?_;simp[ZR,bM,rr,bC.enc];refine aa.le (Le.aC (o:=[(1005,.box [.v (ti 0),.aI]),(1400,.arr 0 156 5 (cj ((rules.take y).map (jC ins))))]) (l:=[(1,.v (.sl (aB ins))),(2,.v (.box [ti nt,ti nn,ti ns,.sl (aS rules)])),(4,.ptr 1005 0),(5,.bk 1400 0),(6,.v (ti y)),(7,.v (.box [ti rk,ti rh,ti ra,ti rb,ti rp,ti rg]))]) (nxt':=2400) ?_ ?_ ?_ ?_) ?_;iterate 4(·simp)
  refine aa.ab aw fw [1,2,4,5,6,7,8] ?_;simp[ZS];refine aa.seq ?_;refine aa.ab aw fw [1,2,4,5,6,7,8,25] ?_;simp[ZT];refine aa.cond rfl (λh6=>?_) (λh6=>?_)
  ·have h6:rk=2:=by simpa using h6
   have Gt:0<=ra/\ra<ins.length:=by omega
   obtain⟨a,rfl⟩:=Zad Gt.1;have kl:a<ins.length:=by omega
   have ri:=cO kl;have hpi:=p2 a kl;unfold Fc at hpi;obtain⟨x,hx⟩:∃x,ins.getD a default=x:=⟨_,rfl⟩;rw[hx]at ri hpi;have hE:jC ins ⟨rk,rh,a,rb,rp,rg⟩=⟨rh,j6 ⟨rk,rh,a,rb,rp,rg⟩,rp+x,0,0⟩:=by unfold jC;simp only[if_pos h6,Zak,hx]
   refine aa.dp aw fw [1,2,4,5,6,7,8] ?_;simp[ZU,kl,ri,au (x:=rp+x) (by omega)];refine aa.dp aw fw [1,2,4,5,6] ?_;simp[RC,pF,cX,chunk,cG];repeat (refine⟨by omega, ?_⟩)
   have hS:∀ec,jC ins (rules.getD y default)=⟨rh,j6 (rules.getD y default),ec,0,0⟩->cj ((rules.map (jC ins)).take (y+1))=cj ((rules.map (jC ins)).take y)++[[ti rh,.sl (aB (j6 (rules.getD y default))),ti ec,ti 0,ti 0]]:=by
    intro ec h;rw[<-List.map_take,cM bM,ZaP,cj,ZaP,List.map_take];simp only[Zau,ZbX,h,dj.enc,cj]
   rw[hr]at hS;have hS:=hS _ hE;refine aa.dp aw fw [1,2,4,5,6] ?_;simp[RD];rw[au (x:=(y:Int)+1) (by omega)];refine⟨y+1,Le.aC ?_ ?_ ?_ ?_,by omega,by omega⟩
   ·simp
   ·simp
   ·simp[hS]
   ·simp
  ·have h6:¬rk=2:=by simpa using h6
   have hE:jC ins ⟨rk,rh,ra,rb,rp,rg⟩=⟨rh,j6 ⟨rk,rh,ra,rb,rp,rg⟩,rp,0,0⟩:=by unfold jC;simp only[if_neg h6]
   refine aa.skip ?_;simp;refine aa.dp aw fw [1,2,4,5,6] ?_;simp[RC,pF,cX,chunk,cG];repeat (refine⟨by omega, ?_⟩)
   have hS:∀ec,jC ins (rules.getD y default)=⟨rh,j6 (rules.getD y default),ec,0,0⟩->cj ((rules.map (jC ins)).take (y+1))=cj ((rules.map (jC ins)).take y)++[[ti rh,.sl (aB (j6 (rules.getD y default))),ti ec,ti 0,ti 0]]:=by
    intro ec h;rw[<-List.map_take,cM bM,ZaP,cj,ZaP,List.map_take];simp only[Zau,ZbX,h,dj.enc,cj]
   rw[hr]at hS;have hS:=hS _ hE;refine aa.dp aw fw [1,2,4,5,6] ?_;simp[RD];rw[au (x:=(y:Int)+1) (by omega)];refine⟨y+1,Le.aC ?_ ?_ ?_ ?_,by omega,by omega⟩
   ·simp
   ·simp
   ·simp[hS]
   ·simp
 ·have fl:y=rules.length:=by simp at bM;omega
  subst fl;rw[show(rules.map (jC ins)).take rules.length=rules.map (jC ins)from Za3 (by simp)];refine aa.exit ?_;simp;refine aa.ab aw fw [4] ?_;simp[RE];refine aa.ret ?_;simp[RF]
theorem sA(l:List br)(i:Nat)(x:br):bI (l.set i x)=(bI l).set i [ti x.cost,ti x.size]:=by simp[bI,ZbJ]
theorem sC(l:List Int)(i:Nat)(x:Int):aB (l.set i x)=(aB l).set i [ti x]:=by simp[aB,ZbJ]
theorem XQ{α:Type}(a b:α){n y:Nat}(h:y<n):(List.replicate y a++List.replicate (n-y) b).set y a=List.replicate (y+1) a++List.replicate (n-(y+1)) b:=by
 rw[Zb5 _ _ (by simp)];simp only[ZbC,Nat.sub_self];rw[show n-y=(n-(y+1))+1 by omega,Za7,Zce,ZbR (n:=y),List.append_assoc];rfl
def Bt(nd:Int)(e:dj):Prop:=0<=e.head/\e.head<nd/\(∀t∈e.tn,0<=t/\t<nd)/\0<=e.cost/\e.cost<=4000000000000/\e.tn.length<=1000000
def hOk(nd:Int)(es:List dj):Prop:=0<=nd/\nd<=1000000/\es.length<=1000000/\∀e∈es,Bt nd e
def O7(nd:Int)(v:List br):Prop:=(v.length:Int)=nd/\∀x∈v,kL x
def Dn(x:br):Nat:=x.cost.toNat*2199023255552+x.size.toNat
def iP(v:List br):Nat:=(v.map Dn).sum
theorem Dp{own:List br}{h:Nat}{y:br}(hh:h<own.length)(hy:Dn y<Dn (own.getD h default)):iP (own.set h y)<iP own:=by
 induction own generalizing h with
 |nil=>simp at hh
 |cons x own ih=>
  cases h with
  |zero=>simp[iP]at hy⊢;omega
  |succ h=>
   have:=ih (h:=h) (by simpa using hh) (by simpa using hy);simp[iP]at this⊢;omega
theorem Nq{a b:br}(ha:kL a)(hb:kL b)(h:a.lt b):Dn a<Dn b:=by
 obtain⟨a1,a2,a3,a4⟩:=ha;obtain⟨b1,b2,b3,b4⟩:=hb;unfold br.lt at h;unfold Dn;omega
def vQ(v:List br)(e:dj):List br:=if(comb e.cost (fE v e.tn)).lt (v.getD e.head.toNat default)then v.set e.head.toNat (comb e.cost (fE v e.tn))else v
theorem xA{nd:Int}{v:List br}{ts:List Int}(hv:O7 nd v)(h:∀t∈ts,0<=t/\t<nd):∀x∈fE v ts,kL x:=by
 intro x hx;simp only[fE,Zal]at hx;obtain⟨t,ht,rfl⟩:=hx;have:=h t ht;have:=hv.1;exact hv.2 _ (bw (by omega))
theorem Ij{nd:Int}{v:List br}{e:dj}(he:Bt nd e)(hv:O7 nd v):O7 nd (vQ v e)/\(vQ v e=v\/iP (vQ v e)<iP v):=by
 obtain⟨e1,e2,e3,e4,e5,e6⟩:=he;have hc:=iE (c:=e.cost) (l:=fE v e.tn) (xA hv e3) e4 e5;have hh:e.head.toNat<v.length:=by have:=hv.1;omega
 unfold vQ;split
 ·rename_i h;refine⟨⟨by simpa using hv.1,λx hx=>?_⟩,.inr (Dp hh (Nq hc (hv.2 _ (bw hh)) h))⟩;rcases Za0 hx with h|rfl
  ·exact hv.2 x h
  ·exact hc
 ·exact⟨hv,.inl rfl⟩
def eA(es:List dj)(v:List br)(y:Nat):List br:=(List.range y).foldl (λv k=>vQ v (es.getD k default)) v
theorem rL(es:List dj)(v:List br)(y:Nat):eA es v (y+1)=vQ (eA es v y) (es.getD y default):=by simp[eA,ZaE,Zat]
theorem xB{nd:Int}{es:List dj}(hh:hOk nd es){v:List br}(hv:O7 nd v):∀y,y<=es.length->O7 nd (eA es v y)/\(eA es v y=v\/iP (eA es v y)<iP v)
 |0,_=>⟨hv,.inl rfl⟩
 |y+1,hy=>by
  obtain⟨h1,h2⟩:=xB hh hv y (by omega);obtain⟨h3,h4⟩:=Ij (hh.2.2.2 _ (bw (l:=es) (i:=y) (by omega))) h1;rw[rL];refine⟨h3, ?_⟩;rcases h4 with e|h4
  ·rw[e];exact h2
  ·rcases h2 with e|h2
   ·rw[e]at h4⊢;exact .inr h4
   ·exact .inr (by omega)
def rN(es:List dj):Nat->List br->List br
 |0,v=>v
 |f+1,v=>if eA es v es.length=v then v else rN es f (eA es v es.length)
theorem K1{es:List dj}{v:List br}{f:Nat}{R:List br}(hs:eA es v es.length=v\/iP (eA es v es.length)<iP v)(h1:iP v<f)(h2:rN es f v=R):
  (eA es v es.length≠v->iP (eA es v es.length)<iP v/\∃f,iP (eA es v es.length)<f/\rN es f (eA es v es.length)=R)/\(eA es v es.length=v->v=R):=by
 cases f with
 |zero=>omega
 |succ f=>
  unfold rN at h2;refine⟨λbG=>?_,λe=>?_⟩
  ·rw[if_neg bG]at h2;have:=hs.resolve_left bG;exact⟨this,f,by omega,h2⟩
  ·rwa [if_pos e]at h2
def K2(nd:Int):List br:=List.replicate nd.toNat ⟨1099511627776,0⟩
def uf(nd:Int)(es:List dj):List br:=rN es (iP (K2 nd)+1) (K2 nd)
theorem Dq{nd:Int}{es:List dj}(hh:hOk nd es):∀f v,iP v<f->O7 nd v->O7 nd (rN es f v)
 |0,v,h,_=>by omega
 |f+1,v,h,hv=>by
  obtain⟨h1,h2⟩:=xB hh hv es.length (Zae _);unfold rN;split
  ·exact hv
  ·rename_i bG;exact Dq hh f _ (by have:=h2.resolve_left bG;omega) h1
theorem Nr{nd:Int}{es:List dj}(hh:hOk nd es):O7 nd (K2 nd):=by
 refine⟨by have:=hh.1;simp only[K2,ZbC];omega,λx hx=>?_⟩;rw[ZbG hx];simp[kL]
theorem Dr{nd:Int}{es:List dj}(hh:hOk nd es):O7 nd (uf nd es):=Dq hh _ _ (by omega) (Nr hh)
def stepG(es:List dj)(v:List br)(g:List Int)(j:Nat):List Int:=
 if(v.getD (es.getD (es.length-1-j) default).head.toNat default).cost<1099511627776/\comb (es.getD (es.length-1-j) default).cost (fE v (es.getD (es.length-1-j) default).tn)=v.getD (es.getD (es.length-1-j) default).head.toNat default then g.set (es.getD (es.length-1-j) default).head.toNat ((es.length-1-j:Nat):Int)else g
def tp(es:List dj)(v:List br)(nd:Int)(j:Nat):List Int:=(List.range j).foldl (stepG es v) (List.replicate nd.toNat (-1))
theorem ug(es:List dj)(v:List br)(nd:Int)(y:Nat):tp es v nd (y+1)=stepG es v (tp es v nd y) y:=by simp[tp,ZaE,Zat]
theorem O8(es:List dj)(v:List br){nd:Int}(h:0<=nd)(y:Nat):((tp es v nd y).length:Int)=nd:=by
 induction y with
 |zero=>simp[tp];omega
 |succ y ih=>
  rw[ug];unfold stepG;split
  ·simpa using ih
  ·exact ih
structure VM where
 v:List br
 more:Bool
abbrev s91:DM.Spec:=yo (λts=>∃a b c d e v,ts=[.agg [ti a,.sl (aB b),ti c,ti d,ti e],.sl (bI v)]/\(∀t∈b,0<=t/\t<v.length)/\b.length<=1000000) (fun|[.agg [_,.sl b,_,_,_],.sl v]=>bI (fE (la v) (fu b))|_=>[]) 55 2
theorem Ik(l:List br):gf.gE (bI l).flatten=true:=by
 induction l with
 |nil=>rfl
 |cons x l ih=>simpa [bI,gf.gE,gf]using ih
theorem okSo:ay Tryz.prog (aW [(91,s91),(69,s69),(92,s92)]):=by
 refine ay.Q1 (ay.cons (ay.cons ay.nil ?_) ?_) ?_
 ·rintro ts ⟨a,b,c,d,rfl⟩;exact⟨t92 ⟨a,b⟩ ⟨c,d⟩,λ_=>rfl⟩
 ·rintro ts ⟨c,l,rfl,h1,h2,h3,h4⟩;exact⟨by simpa using t69 c l h1 h2 h3 h4,λ_=>rfl⟩
 ·rintro ts ⟨a,b,c,d,e,v,rfl,h1,h2⟩;exact⟨by simpa [dj.enc]using t91 ⟨a,b,c,d,e⟩ v h1 h2,Ik _⟩
theorem t66(nd:Int)(es:List dj)(hh:hOk nd es):aT Tryz.prog 66 [.agg [ti nd,.sl (cj es)]] (.eF [.sl (bI (uf nd es)),.sl (aB (tp es (uf nd es) nd es.length))]):=by
 obtain⟨R,hR⟩:∃R,uf nd es=R:=⟨_,rfl⟩;have hRo:O7 nd R:=hR▸Dr hh;rw[hR];have h0:=Nr hh;have zL:=λ(v:List br) (hv:O7 nd v)=>xB hh hv;have lF:=λ(v:List br) (hv:O7 nd v) (e:dj) (he:Bt nd e)=>Ij he hv;obtain⟨g1,g2,g3,g4⟩:=hh;have aw:=okSo;refine c66.ok (by simp) (aJ ?_);simp;refine aa.ab aw fw [1] ?_;simp[Zw];refine aa.le (Le.aC (o:=[]) (l:=[(1,.v (.box [ti nd,.sl (cj es)]))]) (nxt':=1200) ?_ ?_ ?_ ?_) ?_;iterate 4(·simp)
 refine aa.ab aw fw [1,4] ?_;simp[Zx,and_assoc,cG];repeat (refine⟨by omega, ?_⟩)
 refine aa.le (Le.aC (o:=[(1217,.arr 0 55 2 (bI ((List.replicate nd.toNat (⟨0,0⟩:br)))))]) (l:=[(1,.v (.box [ti nd,.sl (cj es)])),(4,.bk 1217 0)]) (nxt':=1400) ?_ ?_ ?_ ?_) ?_
 ·simp
 ·simp
 ·simp[bI]
 ·simp
 refine aa.ab aw fw [1,4,5] ?_;simp[Zy,and_assoc,cG];repeat (refine⟨by omega, ?_⟩)
 refine aa.le (Le.aC (o:=[(1217,.arr 0 55 2 (bI ((List.replicate nd.toNat (⟨0,0⟩:br))))),(1420,.arr 0 3 1 (aB (List.replicate nd.toNat 0)))]) (l:=[(1,.v (.box [ti nd,.sl (cj es)])),(4,.bk 1217 0),(5,.bk 1420 0)]) (nxt':=1600) ?_ ?_ ?_ ?_) ?_
 ·simp
 ·simp
 ·simp[bI,aB]
 ·simp
 refine aa.seq ?_;refine aa.ab aw fw [1,4,5,6] ?_;simp[Zz];refine aa.block ?_;refine aa.loop (λy:Nat=>⟨DM.look [(1,.v (.box [ti nd,.sl (cj es)])),(4,.bk 1217 0),(5,.bk 1420 0),(6,.v (ti y))],cA [(1217,.arr 0 55 2 (bI (List.replicate y (⟨1099511627776,0⟩:br)++List.replicate (nd.toNat-y) (⟨0,0⟩:br)))),(1420,.arr 0 3 1 (aB (List.replicate y (-1:Int)++List.replicate (nd.toNat-y) (0:Int))))],2000,1000,[]⟩)
  (λy=>y<=nd.toNat) (λy=>nd.toNat-y) 0 (Le.aC ?_ ?_ ?_ ?_) (by simp) (λy hy=>?_)
 iterate 4(·simp)
 obtain⟨A,hA⟩:∃A,List.replicate y (⟨1099511627776,0⟩:br)++List.replicate (nd.toNat-y) (⟨0,0⟩:br)=A:=⟨_,rfl⟩;obtain⟨E,hE⟩:∃E,List.replicate y (-1:Int)++List.replicate (nd.toNat-y) (0:Int)=E:=⟨_,rfl⟩;have hAl:A.length=nd.toNat:=by rw[<-hA];simp;omega
 have hEl:E.length=nd.toNat:=by rw[<-hE];simp;omega
 rw[hA,hE];refine aa.seq ?_;refine aa.ab aw fw [1,4,5,6,23] ?_;simp[ZA];refine aa.cond rfl (λbM=>?_) (λbM=>?_)
 ·have bM:(y:Int)<nd:=by simpa using bM
  have hyn:y<nd.toNat:=by omega
  refine aa.skip ?_;simp;refine aa.seq ?_;refine aa.block ?_;have ra:=dP (l:=A) (y:=y) (by omega);have re:=cO (l:=E) (y:=y) (by omega);have q1:y<A.length:=by omega
  have q2:y<E.length:=by omega
  refine aa.dp aw fw [1,4,5,6] ?_;simp[ZB,q1,q2,ra,re];refine aa.dp aw fw [1,4,5,6] ?_;simp[ZC];rw[au (x:=(y:Int)+1) (by omega)];refine⟨y+1,Le.aC ?_ ?_ ?_ ?_,by omega,by omega⟩
  ·simp
  ·simp
  ·simp only[<-XQ _ _ hyn,hA,hE,sA,sC];simp
  ·simp
 ·have fl:y=nd.toNat:=by simp at bM;omega
  subst fl;have wv:A=K2 nd:=by rw[<-hA];simp[K2]
  have hE2:E=List.replicate nd.toNat (-1):=by rw[<-hE];simp
  subst wv;subst hE2;refine aa.exit ?_;simp;refine aa.seq ?_;refine aa.ab aw fw [1,4,5,7] ?_;simp[ZD];refine aa.block ?_;refine aa.loop (λz:VM=>⟨DM.look [(1,.v (.box [ti nd,.sl (cj es)])),(4,.bk 1217 0),(5,.bk 1420 0),(7,.v (.bool z.more))],cA [(1217,.arr 0 55 2 (bI (z.v))),(1420,.arr 0 3 1 (aB (List.replicate nd.toNat (-1))))],3000,1000,[]⟩)
   (λz=>O7 nd z.v/\(z.more=true->∃f,iP z.v<f/\rN es f z.v=R)/\(z.more=false->z.v=R)) (λz=>2*iP z.v+(if z.more then 1 else 0)) ⟨K2 nd,true⟩ (Le.aC ?_ ?_ ?_ ?_) (⟨h0,λ_=>⟨_,ZbV _,hR⟩,λh=>by cases h⟩) (λz hy=>?_)
  iterate 4(·simp)
  obtain⟨own,more⟩:=z;obtain⟨hz1,Xu,XN⟩:=hy;simp only at hz1 Xu XN⊢;refine aa.seq ?_;refine aa.ab aw fw [1,4,5,33] ?_;simp[ZE];refine aa.cond rfl (λhm=>?_) (λhm=>?_)
  ·have hm:more=true:=by simpa using hm
   subst hm;obtain⟨f,hf1,hf2⟩:=Xu rfl;refine aa.skip ?_;simp;refine aa.block ?_;refine aa.ab aw fw [1,4,5,7] ?_;simp[ZF];refine aa.ab aw fw [1,4,5,7,8] ?_;simp[Rp];refine aa.block ?_;refine aa.loop (λy:Nat=>⟨DM.look [(1,.v (.box [ti nd,.sl (cj es)])),(4,.bk 1217 0),(5,.bk 1420 0),(7,.v (.bool (decide (eA es own y≠own)))),(8,.v (ti y))],cA [(1217,.arr 0 55 2 (bI (eA es own y))),(1420,.arr 0 3 1 (aB (List.replicate nd.toNat (-1))))],4000,1000,[]⟩)
    (λy=>y<=es.length) (λy=>es.length-y) 0 (Le.aC ?_ ?_ ?_ ?_) (by simp) (λy WD=>?_)
   ·simp
   ·simp[eA]
   ·simp[eA]
   ·simp[eA]
   obtain⟨O,hO⟩:∃O,eA es own y=O:=⟨_,rfl⟩;obtain⟨pq,ME⟩:=zL own hz1 y WD;rw[hO]at pq ME;obtain⟨m1,wu⟩:∃m1:Bool,decide (O≠own)=m1:=⟨_,rfl⟩;rw[hO,wu];refine aa.seq ?_;refine aa.ab aw fw [1,4,5,7,8,38] ?_;simp[Rq];refine aa.cond rfl (λbM=>?_) (λbM=>?_)
   ·have bM:y<es.length:=by simpa using bM
    refine aa.skip ?_;simp;refine aa.seq ?_;refine aa.block ?_;have rr:=vP bM;obtain⟨⟨xh,xt,xc,x0,x1⟩,hx⟩:∃x,es.getD y default=x:=⟨_,rfl⟩;rw[hx]at rr;have hxo:Bt nd ⟨xh,xt,xc,x0,x1⟩:=g4 _ (by rw[<-hx];exact bw bM);have XP:=lF O pq _ hxo;obtain⟨q1,q2,q3,q4,q5,q6⟩:=hxo;simp only at q1 q2 q3 q4 q5 q6;obtain⟨xh,rfl⟩:=Zad q1;refine aa.ab aw fw [1,4,5,7,8,9] ?_;simp[Rr,bM,rr,dj.enc];refine aa.le (Le.aC (o:=[(1217,.arr 0 55 2 (bI (O))),(1420,.arr 0 3 1 (aB (List.replicate nd.toNat (-1))))]) (l:=[(1,.v (.box [ti nd,.sl (cj es)])),(4,.bk 1217 0),(5,.bk 1420 0),(7,.v (.bool m1)),(8,.v (ti y)),(9,.v (.box [ti xh,.sl (aB xt),ti xc,ti x0,ti x1]))]) (nxt':=4200) ?_ ?_ ?_ ?_) ?_;iterate 4(·simp)
    have ht3:∀t∈xt,0<=t/\t<O.length:=λt ht=>by have:=q3 t ht;have:=pq.1;omega
    have htv:=xA pq q3;have D1:(fE O xt).length<=1000000:=by simpa [fE]using q6
    obtain⟨⟨wc,wz⟩,hw⟩:∃w,comb xc (fE O xt)=w:=⟨_,rfl⟩;refine aa.iD aw fw (rs:=fm EI [none,some [],some [],none,some [1217],some [4251],none,some [4211]]) (.inr ⟨_,rfl⟩) (by kernel_rfl) [1,4,5,7,8,9,10] ?_;simp[EI,fm,b8,bm,names,and_assoc,q6,D1,hw];refine⟨ht3,htv, ?_⟩;repeat (refine⟨by omega, ?_⟩)
    refine aa.le (Le.aC (o:=[(1217,.arr 0 55 2 (bI (O))),(1420,.arr 0 3 1 (aB (List.replicate nd.toNat (-1))))]) (l:=[(1,.v (.box [ti nd,.sl (cj es)])),(4,.bk 1217 0),(5,.bk 1420 0),(7,.v (.bool m1)),(8,.v (ti y)),(9,.v (.box [ti xh,.sl (aB xt),ti xc,ti x0,ti x1])),(10,.v (.box [ti wc,ti wz]))]) (nxt':=4400) ?_ ?_ ?_ ?_) ?_;iterate 4(·simp)
    have KY:xh<O.length:=by have:=pq.1;omega
    have ro:=dP KY;obtain⟨⟨uc,uz⟩,hu⟩:∃w,O.getD xh default=w:=⟨_,rfl⟩;rw[hu]at ro;obtain⟨c1,bb⟩:∃c1:Bool,decide ((⟨wc,wz⟩:br).lt ⟨uc,uz⟩)=c1:=⟨_,rfl⟩;refine aa.ab aw fw [1,4,5,7,8,9,10,58] ?_;simp[Rs,KY,ro,bb];refine aa.cond rfl (λh5=>?_) (λh5=>?_)
    ·have h5:c1=true:=by simpa using h5
     rw[h5]at bb;have bb:=of_decide_eq_true bb;have hS0:vQ O ⟨xh,xt,xc,x0,x1⟩=O.set xh ⟨wc,wz⟩:=by unfold vQ;simp only[hw,hu,Zak];rw[if_pos bb]
     have yH:eA es own (y+1)=O.set xh ⟨wc,wz⟩:=by rw[rL,hO,hx,hS0]
     have bG:¬eA es own (y+1)=own:=by
      intro e;have h6:iP (O.set xh ⟨wc,wz⟩)<iP O:=by
       refine Dp KY ?_;rw[hu];exact Nq (by rw[<-hw];exact iE htv q4 q5) (by rw[<-hu];exact pq.2 _ (bw KY)) bb
      rw[<-yH,e]at h6;rcases ME with h|h
      ·rw[h]at h6;omega
      ·omega
     refine aa.ab aw fw [1,4,5,8] ?_;simp[Rt,KY,ro];refine aa.dp aw fw [1,4,5,7,8] ?_;simp[Ru];refine aa.dp aw fw [1,4,5,7,8] ?_;simp[Kh];rw[au (x:=(y:Int)+1) (by omega)];refine⟨y+1,Le.aC ?_ ?_ ?_ ?_,by omega,by omega⟩
     ·simp
     ·simp
     ·simp[yH,sA]
     ·simp;simpa using bG
    ·have h5:c1=false:=by simpa using h5
     rw[h5]at bb;have bb:=of_decide_eq_false bb;have yH:eA es own (y+1)=O:=by rw[rL,hO,hx];unfold vQ;simp only[hw,hu,Zak];rw[if_neg bb]
     have bG:=wu;rw[<-yH]at bG;refine aa.skip ?_;simp;refine aa.dp aw fw [1,4,5,7,8] ?_;simp[Kh];rw[au (x:=(y:Int)+1) (by omega)];refine⟨y+1,Le.aC ?_ ?_ ?_ ?_,by omega,by omega⟩
     ·simp
     ·simp
     ·simp[yH,sA]
     ·simp;simpa using bG
   ·have wR:y=es.length:=by simp at bM;omega
    subst wR;have CT:=K1 (zL own hz1 _ (Zae _)).2 hf1 hf2;simp only[hO]at CT;have hdec:2*iP O+(if m1 then 1 else 0)<2*iP own+1:=by
     by_cases e:O=own
     ·have Ed:m1=false:=by rw[<-wu];simp[e]
      subst Ed;rw[e];simp
     ·have:=(CT.1 e).1;cases m1<;>simp<;>omega
    refine aa.exit ?_;simp;refine⟨⟨O,m1⟩,Le.aC ?_ ?_ ?_ ?_,⟨pq,λh=>(CT.1 (of_decide_eq_true (wu.trans h))).2,λh=>by have e:=Classical.not_not.1 (of_decide_eq_false (wu.trans h));simp only;rw[e];exact CT.2 e⟩,by simpa using hdec⟩;iterate 3(·simp)
    ·simp
  ·have hm:more=false:=by simpa using hm
   subst hm;have XN:=XN rfl;subst XN;refine aa.exit ?_;simp;refine aa.seq ?_;refine aa.ab aw fw [1,4,5,11] ?_;simp[Rv,au (x:=(es.length:Int)-1) (by omega)];refine aa.block ?_;refine aa.loop (λj:Nat=>⟨DM.look [(1,.v (.box [ti nd,.sl (cj es)])),(4,.bk 1217 0),(5,.bk 1420 0),(11,.v (ti ((es.length:Int)-1-j)))],cA [(1217,.arr 0 55 2 (bI (own))),(1420,.arr 0 3 1 (aB (tp es own nd j)))],5000,1000,[]⟩)
    (λj=>j<=es.length) (λj=>es.length-j) 0 (Le.aC ?_ ?_ ?_ ?_) (by simp) (λj hj=>?_)
   ·simp
   ·simp
   ·simp[tp]
   ·simp
   obtain⟨G,hG⟩:∃G,tp es own nd j=G:=⟨_,rfl⟩;have hGl:=O8 es own g1 j;rw[hG]at hGl;rw[hG];obtain⟨k,hk⟩:∃k,(es.length:Int)-1-j=k:=⟨_,rfl⟩;rw[hk];refine aa.seq ?_;refine aa.ab aw fw [1,4,5,11,69] ?_;simp[Rw];refine aa.cond rfl (λh9=>?_) (λh9=>?_)
   ·have h9:0<=k:=by simpa using h9
    obtain⟨k,rfl⟩:=Zad h9;have WC:k<es.length:=by omega
    have hke:es.length-1-j=k:=by omega
    refine aa.skip ?_;simp;refine aa.seq ?_;refine aa.block ?_;have rr:=vP WC;obtain⟨⟨xh,xt,xc,x0,x1⟩,hx⟩:∃x,es.getD k default=x:=⟨_,rfl⟩;rw[hx]at rr;have hxo:Bt nd ⟨xh,xt,xc,x0,x1⟩:=g4 _ (by rw[<-hx];exact bw WC);obtain⟨q1,q2,q3,q4,q5,q6⟩:=hxo;simp only at q1 q2 q3 q4 q5 q6;obtain⟨xh,rfl⟩:=Zad q1;refine aa.ab aw fw [1,4,5,11,12] ?_;simp[Rx,WC,rr,dj.enc];refine aa.le (Le.aC (o:=[(1217,.arr 0 55 2 (bI (own))),(1420,.arr 0 3 1 (aB (G)))]) (l:=[(1,.v (.box [ti nd,.sl (cj es)])),(4,.bk 1217 0),(5,.bk 1420 0),(11,.v (ti k)),(12,.v (.box [ti xh,.sl (aB xt),ti xc,ti x0,ti x1]))]) (nxt':=5200) ?_ ?_ ?_ ?_) ?_;iterate 4(·simp)
    have KY:xh<own.length:=by have:=hRo.1;omega
    have ro:=dP KY;obtain⟨⟨uc,uz⟩,hu⟩:∃w,own.getD xh default=w:=⟨_,rfl⟩;rw[hu]at ro;refine aa.ab aw fw [1,4,5,11,12,13] ?_;simp[Ry,KY,ro];refine aa.le (Le.aC (o:=[(1217,.arr 0 55 2 (bI (own))),(1420,.arr 0 3 1 (aB (G)))]) (l:=[(1,.v (.box [ti nd,.sl (cj es)])),(4,.bk 1217 0),(5,.bk 1420 0),(11,.v (ti k)),(12,.v (.box [ti xh,.sl (aB xt),ti xc,ti x0,ti x1])),(13,.v (.box [ti uc,ti uz]))]) (nxt':=5400) ?_ ?_ ?_ ?_) ?_;iterate 4(·simp)
    have ht3:∀t∈xt,0<=t/\t<own.length:=λt ht=>by have:=q3 t ht;have:=hRo.1;omega
    have htv:=xA hRo q3;have D1:(fE own xt).length<=1000000:=by simpa [fE]using q6
    obtain⟨⟨wc,wz⟩,hw⟩:∃w,comb xc (fE own xt)=w:=⟨_,rfl⟩;obtain⟨c1,bb⟩:∃c1:Bool,decide (uc<1099511627776/\(⟨wc,wz⟩:br)=⟨uc,uz⟩)=c1:=⟨_,rfl⟩;refine aa.seq ?_;refine aa.to ⟨DM.look [(1,.v (.box [ti nd,.sl (cj es)])),(4,.bk 1217 0),(5,.bk 1420 0),(11,.v (ti k)),(12,.v (.box [ti xh,.sl (aB xt),ti xc,ti x0,ti x1])),(94,.v (.bool c1))],cA [(1217,.arr 0 55 2 (bI (own))),(1420,.arr 0 3 1 (aB (G)))],6000,1000,[]⟩ ?_ ?_
    ·by_cases k1:uc<1099511627776
     ·refine aa.tO aw fw (rs:=fm vv [none,some [],none,none,none,some [],some [],none,some [1217],some [5491],some [],some [],none]) (.inr ⟨_,rfl⟩) (by kernel_rfl) [1,4,5,11,12,94] ?_;simp[fm,vv,b8,bm,names,and_assoc,k1,q6,D1,hw];refine⟨ht3,htv,by omega,by omega, ?_⟩;have:c1=(decide (wc=uc)&&decide (wz=uz)):=by rw[<-bb];simp[k1]
      rw[this];exact Le.aC (by simp) (by simp) (by simp) (by simp)
     ·have:c1=false:=by rw[<-bb];simp[k1]
      refine aa.tO aw fw (rs:=fm vv [none,some [],none,none,none,some [],some [],none,some [1217],some [5491],some [],some [],none]) (.inr ⟨_,rfl⟩) (by kernel_rfl) [1,4,5,11,12,94] ?_;simp[fm,vv,b8,bm,names,k1];subst this;exact Le.aC (by simp) (by simp) (by simp) (by simp)
    simp only[Ar];refine aa.cond rfl (λh8=>?_) (λh8=>?_)
    ·have h8:c1=true:=by simpa using h8
     rw[h8]at bb;have bb:=of_decide_eq_true bb;have hS2:stepG es own G j=G.set xh (k:Int):=by unfold stepG;rw[hke,hx];simp only[hw,hu,Zak];rw[if_pos bb]
     have hgl2:xh<G.length:=by omega
     have rg:=cO hgl2;refine aa.dp aw fw [1,4,5,11] ?_;simp[Rz,hgl2,rg];refine aa.dp aw fw [1,4,5,11] ?_;simp[Ki];rw[au (x:=(k:Int)-1) (by omega)];refine⟨j+1,Le.aC ?_ ?_ ?_ ?_,by omega,by omega⟩
     ·simp
     ·simp
     ·simp[ug,hG,hS2,sC]
     ·simp;omega
    ·have h8:c1=false:=by simpa using h8
     rw[h8]at bb;have bb:=of_decide_eq_false bb;have hS2:stepG es own G j=G:=by unfold stepG;rw[hke,hx];simp only[hw,hu,Zak];rw[if_neg bb]
     refine aa.skip ?_;simp;refine aa.dp aw fw [1,4,5,11] ?_;simp[Ki];rw[au (x:=(k:Int)-1) (by omega)];refine⟨j+1,Le.aC ?_ ?_ ?_ ?_,by omega,by omega⟩
     ·simp
     ·simp
     ·simp[ug,hG,hS2,sC]
     ·simp;omega
   ·have h9:¬0<=k:=by simpa using h9
    have Y5:j=es.length:=by omega
    subst Y5;subst hG;refine aa.exit ?_;simp;refine aa.ab aw fw [2,3] ?_;simp[RA];refine aa.ret ?_;simp[RB]
theorem Il{n:aG}{ins:List Int}(hn:eO n)(hp:eV n ins):hOk n.an (ue n ins):=by
 have h:=hn.ok;obtain⟨p1,p2⟩:=hp;refine⟨by have:=h.1;omega,by have:=h.2.1;omega,by simp only[ue,Zbt];have:=h.2.2.1;omega,λe he=>?_⟩;simp only[ue,Zal]at he;obtain⟨r,hr,rfl⟩:=he;obtain⟨q1,q2,q3,q4,q5⟩:=h.2.2.2 r hr;have hc:0<=(jC ins r).cost/\(jC ins r).cost<=4000000000000:=by
  unfold jC;split
  ·rename_i h2;have ha:r.a.toNat<ins.length:=by omega
   have:=p2 _ ha;unfold Fc at this;simp only;omega
  ·simp only;omega
 refine⟨q1,q2,λt ht=>?_,hc.1,hc.2,by have:=K0 r;simp only[jC];omega⟩;simp only[jC,j6]at ht;split at ht
 ·simp only[Zah]at ht;omega
 ·split at ht
  ·simp only[Zag,Zap,or_false]at ht;omega
  ·cases ht
def j7(n:aG)(ins:List Int):List br:=if eO n/\eV n ins then uf n.an (ue n ins)else []
abbrev s20:DM.Spec:=cy (λts=>∃a b c l,ts=[.agg [ti a,ti b,ti c,.sl (aS l)]]/\l.length<=9223372036854775807) (fun|[n]=>.bool (decide (eO (nR n)))|_=>.bool false) true
abbrev s44:DM.Spec:=cy (λts=>∃a b c l i,ts=[.agg [ti a,ti b,ti c,.sl (aS l)],.sl (aB i)]/\i.length<=9223372036854775807) (fun|[n,.sl i]=>.bool (decide (eV (nR n) (fu i)))|_=>.bool false) true
abbrev s67:DM.Spec:=cy (λts=>∃a b c l i,ts=[.agg [ti a,ti b,ti c,.sl (aS l)],.sl (aB i)]/\oK ⟨a,b,c,l⟩/\eV ⟨a,b,c,l⟩ i) (fun|[n,.sl i]=>.agg [ti (nR n).an,.sl (cj (ue (nR n) (fu i)))]|_=>.bool false) false
abbrev s66:DM.Spec:=cy (λts=>∃nd es,ts=[.agg [ti nd,.sl (cj es)]]/\hOk nd es) (fun|[.agg [.int _ nd,.sl es]]=>.eF [.sl (bI (uf nd (Bs es))),.sl (aB (tp (Bs es) (uf nd (Bs es)) nd es.length))]|_=>.bool false) false
abbrev s45:DM.Spec:=cy (λts=>∃a b c l i,ts=[.agg [ti a,ti b,ti c,.sl (aS l)],.sl (aB i)]/\l.length<=9223372036854775807/\i.length<=9223372036854775807) (fun|[n,.sl i]=>.sl (bI (j7 (nR n) (fu i)))|_=>.bool false) false
theorem okV1:ay Tryz.prog (aW [(20,s20),(44,s44),(67,s67),(66,s66)]):=by
 refine ay.cons (ay.cons (ay.cons (ay.cons ay.nil ?_) ?_) ?_) ?_
 ·rintro ts ⟨nd,es,rfl,h⟩;exact⟨by simpa using t66 nd es h,λh=>by cases h⟩
 ·rintro ts ⟨a,b,c,l,i,rfl,h1,h2⟩;exact⟨by simpa [aG.enc]using t67 ⟨a,b,c,l⟩ i h1 h2,λh=>by cases h⟩
 ·rintro ts ⟨a,b,c,l,i,rfl,h⟩;exact⟨by simpa [aG.enc]using t44 ⟨a,b,c,l⟩ i h,λ_=>rfl⟩
 ·rintro ts ⟨a,b,c,l,rfl,h⟩;exact⟨by simpa [aG.enc]using t20 ⟨a,b,c,l⟩ h,λ_=>rfl⟩
theorem t45(n:aG)(ins:List Int)(h1:n.rules.length<=9223372036854775807)(h2:ins.length<=9223372036854775807):aT Tryz.prog 45 [n.enc,.sl (aB ins)] (.sl (bI (j7 n ins))):=by
 obtain⟨R,hR⟩:∃R,j7 n ins=R:=⟨_,rfl⟩;rw[hR];unfold j7 at hR;obtain⟨nt,nn,ns,rules⟩:=n;simp only at h1;have aw:=okV1;refine c45.ok (by simp) (aJ ?_);simp[aG.enc];refine aa.ab aw fw [1,2] ?_;simp[GY];refine aa.le (Le.aC (o:=[]) (l:=[(1,.v (.sl (aB ins))),(2,.v (.box [ti nt,ti nn,ti ns,.sl (aS rules)]))]) (nxt':=1200) ?_ ?_ ?_ ?_) ?_;iterate 4(·simp)
 refine aa.seq ?_;obtain⟨c1,bb⟩:∃c1:Bool,decide (¬eO ⟨nt,nn,ns,rules⟩\/¬eV ⟨nt,nn,ns,rules⟩ ins)=c1:=⟨_,rfl⟩;refine aa.bY aw fw [(1,.v (.sl (aB ins))),(2,.v (.box [ti nt,ti nn,ti ns,.sl (aS rules)])),(15,.v (.bool c1))] ?_ ?_
 ·by_cases q1:eO ⟨nt,nn,ns,rules⟩
  ·by_cases q2:eV ⟨nt,nn,ns,rules⟩ ins
   ·have:c1=false:=by rw[<-bb];simp[q1,q2]
    simp[AU,and_assoc,h1,h2,q1,q2,this]
   ·have:c1=true:=by rw[<-bb];simp[q2]
    simp[AU,and_assoc,h1,h2,q1,q2,this]
  ·have:c1=true:=by rw[<-bb];simp[q1]
   simp[AU,and_assoc,h1,q1,this]
 refine aa.cond rfl (λg=>?_) (λg=>?_)
 ·rw[g]at bb;have bb:=of_decide_eq_true bb;rw[if_neg (λh=>bb.elim (λq=>q h.1) (λq=>q h.2))]at hR;subst hR;refine aa.ab aw fw [4] ?_;simp[GZ];refine aa.ret ?_;simp[tW]
 ·rw[g]at bb;have bb:=of_decide_eq_false bb;simp only[not_or,Classical.not_not]at bb;obtain⟨zg,jj⟩:=bb;refine aa.skip ?_;simp;rw[if_pos ⟨zg,jj⟩]at hR;have hg:=Il zg jj;have hn:=zg.ok;simp only at hR hg;refine aa.ab aw fw [5] ?_;simp[G0,and_assoc,hn,jj,hg,hR];refine aa.ab aw fw [4] ?_;simp[Ha];refine aa.ret ?_;simp[tW]
def uh(v:List br)(i:Nat):Prop:=¬(v.getD i default).size>1000
instance(v:List br)(i:Nat):Decidable (uh v i):=by unfold uh;infer_instance
def Cr(n:aG)(ins:List Int):Prop:=(eO n/\eV n ins)/\∀i,i<(j7 n ins).length->uh (j7 n ins) i
instance(n:aG)(ins:List Int):Decidable (Cr n ins):=by unfold Cr;infer_instance
theorem okV2:ay Tryz.prog (aW [(20,s20),(44,s44),(45,s45)]):=by
 refine ay.cons (ay.cons (ay.cons ay.nil ?_) ?_) ?_
 ·rintro ts ⟨a,b,c,l,i,rfl,h1,h2⟩;exact⟨by simpa [aG.enc]using t45 ⟨a,b,c,l⟩ i h1 h2,λh=>by cases h⟩
 ·rintro ts ⟨a,b,c,l,i,rfl,h⟩;exact⟨by simpa [aG.enc]using t44 ⟨a,b,c,l⟩ i h,λ_=>rfl⟩
 ·rintro ts ⟨a,b,c,l,rfl,h⟩;exact⟨by simpa [aG.enc]using t20 ⟨a,b,c,l⟩ h,λ_=>rfl⟩
theorem Im{n:aG}{ins:List Int}(h1:eO n)(h2:eV n ins):(j7 n ins).length<=1000:=by
 unfold j7;rw[if_pos ⟨h1,h2⟩];have:=(Dr (Il h1 h2)).1;have:=h1.ok.2.1;omega
theorem t22(n:aG)(ins:List Int)(h1:n.rules.length<=9223372036854775807)(h2:ins.length<=9223372036854775807):aT Tryz.prog 22 [n.enc,.sl (aB ins)] (.bool (decide (Cr n ins))):=by
 obtain⟨v,hv⟩:∃v,decide (Cr n ins)=v:=⟨_,rfl⟩;rw[hv];have cY:Cr n ins↔(eO n/\eV n ins)/\∀i,i<(j7 n ins).length->uh (j7 n ins) i:=Iff.rfl;have bad:¬Cr n ins->v=false:=λh=>by rw[<-hv];simp[h]
 have Ub:=λa b=>Im (n:=n) (ins:=ins) a b;obtain⟨V,hV⟩:∃V,j7 n ins=V:=⟨_,rfl⟩;rw[hV]at cY Ub;obtain⟨nt,nn,ns,rules⟩:=n;simp only at h1;have aw:=okV2;refine c22.ok (by simp) (aJ ?_);simp[aG.enc];refine aa.ab aw fw [1,2] ?_;simp[Z3];refine aa.le (Le.aC (o:=[]) (l:=[(1,.v (.sl (aB ins))),(2,.v (.box [ti nt,ti nn,ti ns,.sl (aS rules)]))]) (nxt':=1200) ?_ ?_ ?_ ?_) ?_;iterate 4(·simp)
 refine aa.seq ?_;obtain⟨c1,bb⟩:∃c1:Bool,decide (¬eO ⟨nt,nn,ns,rules⟩\/¬eV ⟨nt,nn,ns,rules⟩ ins)=c1:=⟨_,rfl⟩;refine aa.bY aw fw [(1,.v (.sl (aB ins))),(2,.v (.box [ti nt,ti nn,ti ns,.sl (aS rules)])),(15,.v (.bool c1))] ?_ ?_
 ·by_cases q1:eO ⟨nt,nn,ns,rules⟩
  ·by_cases q2:eV ⟨nt,nn,ns,rules⟩ ins
   ·have:c1=false:=by rw[<-bb];simp[q1,q2]
    simp[MU,and_assoc,h1,h2,q1,q2,this]
   ·have:c1=true:=by rw[<-bb];simp[q2]
    simp[MU,and_assoc,h1,h2,q1,q2,this]
  ·have:c1=true:=by rw[<-bb];simp[q1]
   simp[MU,and_assoc,h1,q1,this]
 refine aa.cond rfl (λg=>?_) (λg=>?_)
 ·rw[g]at bb;have bb:=of_decide_eq_true bb;refine aa.ab aw fw [4] ?_;simp[Z4];refine aa.ret ?_;rw[bad λh=>bb.elim (λq=>q (cY.1 h).1.1) (λq=>q (cY.1 h).1.2)];simp[EL]
 ·rw[g]at bb;have bb:=of_decide_eq_false bb;simp only[not_or,Classical.not_not]at bb;obtain⟨zg,jj⟩:=bb;refine aa.skip ?_;simp;have hVl:=Ub zg jj;refine aa.ab aw fw [5] ?_;simp[Z5,and_assoc,h1,h2,hV];refine aa.seq ?_;refine aa.ab aw fw [5,6] ?_;simp[Z6];refine aa.block ?_;refine aa.loop (λy:Nat=>⟨DM.look [(5,.v (.sl (bI V))),(6,.v (ti y))],cA [],2000,1000,[]⟩)
   (λy=>y<=V.length/\∀i,i<y->uh V i) (λy=>V.length-y) 0 (Le.aC (o:=[]) ?_ ?_ ?_ ?_) (by simp) (λy hy=>?_)
  iterate 4(·simp)
  obtain⟨jR,fl⟩:=hy;refine aa.seq ?_;refine aa.ab aw fw [5,6,22] ?_;simp[Z7];refine aa.cond rfl (λbM=>?_) (λbM=>?_)
  ·have bM:y<V.length:=by simpa using bM
   refine aa.skip ?_;simp;refine aa.seq ?_;refine aa.block ?_;have rr:=dP bM;obtain⟨x,hx⟩:∃x,V.getD y default=x:=⟨_,rfl⟩;rw[hx]at rr;refine aa.ab aw fw [5,6,30] ?_;simp[Z8,bM,rr];refine aa.cond rfl (λh8=>?_) (λh8=>?_)
   ·have h8:x.size>1000:=by simpa using h8
    refine aa.ab aw fw [4] ?_;simp[Z9];refine aa.ret ?_;rw[bad λh=>by have:=(cY.1 h).2 y bM;unfold uh at this;rw[hx]at this;exact this h8];simp[EL]
   ·have h8:¬x.size>1000:=by simpa using h8
    refine aa.skip ?_;simp;refine aa.dp aw fw [5,6] ?_;simp[aaa];rw[au (x:=(y:Int)+1) (by omega)];refine⟨y+1,Le.aC (o:=[]) ?_ ?_ ?_ ?_,⟨by omega,λi hi=>?_⟩,by omega⟩;iterate 4(·simp)
    ·by_cases e:i=y
     ·subst e;unfold uh;rw[hx];exact h8
     ·exact fl i (by omega)
  ·have WD:y=V.length:=by simp at bM;omega
   subst WD;refine aa.exit ?_;simp;refine aa.ab aw fw [4] ?_;simp[aab];refine aa.ret ?_;have:v=true:=by rw[<-hv];exact decide_eq_true (cY.2 ⟨⟨zg,jj⟩,fl⟩)
   rw[this];simp[EL]
def Cq(z:Ask):Prop:=(¬((z.n.rules.length:Int)>14\/z.n.an>8\/z.n.aV>5\/¬eO z.n\/(z.x.aj.length:Int)>4\/(z.new.length:Int)>3\/¬De z.x z.n.aV\/z.fr<0\/z.od<0\/z.fr>z.x.aj.length\/z.od>z.x.aj.length-z.fr))/\De (rG z) z.n.aV/\Cr z.n z.x.insert
instance(z:Ask):Decidable (Cq z):=by unfold Cq;infer_instance
abbrev s21:DM.Spec:=cy (λts=>∃a b c t,ts=[.agg [.sl (aZ a),.sl (aB b),ti c],ti t]/\t<=1000000000000) (fun|[x,.int _ t]=>.bool (decide (De (Cp x) t))|_=>.bool false) true
abbrev s22:DM.Spec:=cy (λts=>∃a b c l i,ts=[.agg [ti a,ti b,ti c,.sl (aS l)],.sl (aB i)]/\l.length<=9223372036854775807/\i.length<=9223372036854775807) (fun|[n,.sl i]=>.bool (decide (Cr (nR n) (fu i)))|_=>.bool false) true
abbrev s14:DM.Spec:=cy (λts=>∃nt nn ns rules ct ins sw fr od new,ts=[.agg [ti nt,ti nn,ti ns,.sl (aS rules),.sl (aZ ct),.sl (aB ins),ti sw,ti fr,ti od,.sl (aZ new)]]/\XC ⟨⟨nt,nn,ns,rules⟩,⟨ct,ins,sw⟩,fr,od,new⟩)
 (fun|[.agg [_,_,_,_,.sl c,.sl i,.int _ s,.int _ fr,.int _ od,.sl nw]]=>.agg [.sl (aZ (cQ ⟨eS c,fu i,s⟩ fr.toNat od.toNat (eS nw)).aj),.sl (aB (cQ ⟨eS c,fu i,s⟩ fr.toNat od.toNat (eS nw)).insert),ti (cQ ⟨eS c,fu i,s⟩ fr.toNat od.toNat (eS nw)).swap]|_=>.bool false) false
theorem TQ{l:List (Nat×DM.Spec)}(h:ay Tryz.prog (aW l)):ay Tryz.prog (aW ((14,s14)::l)):=by
 refine ay.cons h ?_;rintro ts ⟨nt,nn,ns,rules,ct,ins,sw,fr,od,new,rfl,h⟩;exact⟨by simpa [Ask.enc,Input.enc,rG]using t14 ⟨⟨nt,nn,ns,rules⟩,⟨ct,ins,sw⟩,fr,od,new⟩ h,λh=>by cases h⟩
theorem okM:ay Tryz.prog (aW [(14,s14),(20,s20),(21,s21),(22,s22)]):=by
 refine TQ (ay.cons (ay.cons (ay.cons ay.nil ?_) ?_) ?_)
 ·rintro ts ⟨a,b,c,l,i,rfl,h1,h2⟩;exact⟨by simpa [aG.enc]using t22 ⟨a,b,c,l⟩ i h1 h2,λ_=>rfl⟩
 ·rintro ts ⟨a,b,c,t,rfl,h⟩;exact⟨by simpa [Input.enc]using t28 ⟨a,b,c⟩ t h,λ_=>rfl⟩
 ·rintro ts ⟨a,b,c,l,rfl,h⟩;exact⟨by simpa [aG.enc]using t20 ⟨a,b,c,l⟩ h,λ_=>rfl⟩
theorem t9(z:Ask)(hl:z.n.rules.length<=9223372036854775807/\z.x.insert.length<=9223372036854775807):aT Tryz.prog 9 [z.enc] (.bool (decide (Cq z))):=by
 obtain⟨⟨nt,nn,ns,rules⟩,⟨ct,ins,sw⟩,fr,od,new⟩:=z;obtain⟨wy,qe⟩:=hl;simp only at wy qe;obtain⟨v,hv⟩:∃v,decide (Cq ⟨⟨nt,nn,ns,rules⟩,⟨ct,ins,sw⟩,fr,od,new⟩)=v:=⟨_,rfl⟩;rw[hv];have cY:Cq ⟨⟨nt,nn,ns,rules⟩,⟨ct,ins,sw⟩,fr,od,new⟩↔(¬((rules.length:Int)>14\/nn>8\/nt>5\/¬eO ⟨nt,nn,ns,rules⟩\/(ct.length:Int)>4\/(new.length:Int)>3\/¬De ⟨ct,ins,sw⟩ nt\/fr<0\/od<0\/fr>ct.length\/od>ct.length-fr))/\De (rG ⟨⟨nt,nn,ns,rules⟩,⟨ct,ins,sw⟩,fr,od,new⟩) nt/\Cr ⟨nt,nn,ns,rules⟩ ins:=Iff.rfl;have bad:¬Cq ⟨⟨nt,nn,ns,rules⟩,⟨ct,ins,sw⟩,fr,od,new⟩->v=false:=λh=>by rw[<-hv];simp[h]
 have aw:=okM;refine c9.ok (by simp) (aJ ?_);simp[Ask.enc];refine aa.ab aw fw [1] ?_;simp[d9r0];refine aa.le (Le.aC (o:=[]) (l:=[(1,.v (.box [ti nt,ti nn,ti ns,.sl (aS rules),.sl (aZ ct),.sl (aB ins),ti sw,ti fr,ti od,.sl (aZ new)]))]) (nxt':=1200) ?_ ?_ ?_ ?_) ?_;iterate 4(·simp)
 refine aa.seq ?_;obtain⟨c1,bb⟩:∃c1:Bool,decide ((rules.length:Int)>14\/nn>8\/nt>5\/¬eO ⟨nt,nn,ns,rules⟩\/(ct.length:Int)>4\/(new.length:Int)>3\/¬De ⟨ct,ins,sw⟩ nt\/fr<0\/od<0\/fr>ct.length\/od>ct.length-fr)=c1:=⟨_,rfl⟩;refine aa.bY aw fw [(1,.v (.box [ti nt,ti nn,ti ns,.sl (aS rules),.sl (aZ ct),.sl (aB ins),ti sw,ti fr,ti od,.sl (aZ new)])),(78,.v (.bool c1))] ?_ ?_
 ·by_cases q1:(rules.length:Int)>14
  ·have:c1=true:=by rw[<-bb];simp[q1]
   simp[xl,and_assoc,q1,this]
  ·skip
   by_cases q2:nn>8
   ·have:c1=true:=by rw[<-bb];simp[q2]
    simp[xl,and_assoc,q1,q2,this]
   ·skip
    by_cases q3:nt>5
    ·have:c1=true:=by rw[<-bb];simp[q3]
     simp[xl,and_assoc,q1,q2,q3,this]
    ·skip
     have lP:rules.length<=9223372036854775807:=by omega
     by_cases q4:¬eO ⟨nt,nn,ns,rules⟩
     ·have:c1=true:=by rw[<-bb];simp[q4]
      simp[xl,and_assoc,q1,q2,q3,q4,this,lP]
     ·skip
      have q4:=Classical.not_not.1 q4;by_cases q5:(ct.length:Int)>4
      ·have:c1=true:=by rw[<-bb];simp[q5]
       simp[xl,and_assoc,q1,q2,q3,q4,q5,this,lP]
      ·skip
       by_cases q6:(new.length:Int)>3
       ·have:c1=true:=by rw[<-bb];simp[q6]
        simp[xl,and_assoc,q1,q2,q3,q4,q5,q6,this,lP]
       ·skip
        have pV:nt<=1000000000000:=by omega
        by_cases q7:¬De ⟨ct,ins,sw⟩ nt
        ·have:c1=true:=by rw[<-bb];simp[q7]
         simp[xl,and_assoc,q1,q2,q3,q4,q5,q6,q7,this,lP,pV]
        ·skip
         have q7:=Classical.not_not.1 q7;by_cases q8:fr<0
         ·have:c1=true:=by rw[<-bb];simp[q8]
          simp[xl,and_assoc,q1,q2,q3,q4,q5,q6,q7,q8,this,lP,pV]
         ·skip
          by_cases q9:od<0
          ·have:c1=true:=by rw[<-bb];simp[q9]
           simp[xl,and_assoc,q1,q2,q3,q4,q5,q6,q7,q8,q9,this,lP,pV]
          ·skip
           by_cases WB:fr>ct.length
           ·have:c1=true:=by rw[<-bb];simp[WB]
            simp[xl,and_assoc,q1,q2,q3,q4,q5,q6,q7,q8,q9,WB,this,lP,pV]
           ·skip
            have w3:IntKind.i64.wrap ((ct.length:Int)-fr)=(ct.length:Int)-fr:=au (by omega);by_cases q11:od>ct.length-fr
            ·have:c1=true:=by rw[<-bb];simp[q11]
             simp[xl,and_assoc,q1,q2,q3,q4,q5,q6,q7,q8,q9,WB,q11,this,lP,pV,w3]
            ·skip
             have:c1=false:=by rw[<-bb];simp[q1,q2,q3,q4,q5,q6,q7,q8,q9,WB,q11]
             simp[xl,and_assoc,q1,q2,q3,q4,q5,q6,q7,q8,q9,WB,q11,this,lP,pV,w3]
 refine aa.cond rfl (λg=>?_) (λg=>?_)
 ·rw[g]at bb;have bb:=of_decide_eq_true bb;refine aa.ab aw fw [2] ?_;simp[d9r2];refine aa.ret ?_;rw[bad λh=>(cY.1 h).1 bb];simp[Sp]
 ·rw[g]at bb;have bb:=of_decide_eq_false bb;have qK:XC ⟨⟨nt,nn,ns,rules⟩,⟨ct,ins,sw⟩,fr,od,new⟩:=by
   refine⟨?_, ?_, ?_, ?_, ?_, ?_⟩<;>simp only<;>omega
  refine aa.skip ?_;simp;have pV:nt<=1000000000000:=by omega
  obtain⟨A,hA⟩:∃A,cQ ⟨ct,ins,sw⟩ fr.toNat od.toNat new=A:=⟨_,rfl⟩;have jj:(decide (De A nt)&&decide (Cr ⟨nt,nn,ns,rules⟩ ins))=v:=by
   rw[<-hv,<-Bool.decide_and,decide_eq_decide,cY,show rG ⟨⟨nt,nn,ns,rules⟩,⟨ct,ins,sw⟩,fr,od,new⟩=A from hA];exact⟨λh=>⟨bb,h⟩,λh=>h.2⟩
  obtain⟨ac,ai,az⟩:=A;refine aa.bY aw fw [(2,.v (.bool v))] ?_ ?_
  ·by_cases q1:De ⟨ac,ai,az⟩ nt
   ·simp[d9r3,and_assoc,qK,hA,pV,wy,qe,q1]at jj⊢;exact jj
   ·simp[d9r3,and_assoc,qK,hA,pV,wy,qe,q1]at jj⊢;exact jj
  refine aa.ret ?_;simp[Sp]
def jX(x:Input):Prop:=H2 x/\x.aj.length<=60/\x.insert.length<=100/\∀c∈x.aj,c.read.length=x.insert.length
theorem ny{x:Input}(h:jX x):vD (aH x):=by
 obtain⟨h1,h2,h3,h4⟩:=h;have hs:(aH x).aN=2*x.aj.length+1:=rfl;have ha:(aH x).aD=dS x:=rfl;refine⟨by omega,by omega,by rw[ha];have:=x5 h3 h2;omega,λa hm=>?_⟩;rw[ha]at hm;have h5:=(E6 h1 h2 a hm).2.2.2.2.2;have h6:=(xZ hm).2;omega
theorem TR{x:Input}{t:Int}(h:De x t)(ht:t<=5):jX x:=by
 have h1:=h.1;have hl:(x.insert.length:Int)=t:=by
  by_cases e:(x.insert.length:Int)=t
  ·exact e
  ·exact absurd (.inr (.inr (.inl e))) h1
 have h2:(x.aj.length:Int)<=60:=by
  by_cases e:(x.aj.length:Int)>60
  ·exact absurd (.inr (.inl e)) h1
  ·omega
 obtain⟨g1,g2,g3,g4⟩:=r9 (x:=x) (k:=60) ⟨⟨h2,by omega⟩,by rw[hl];exact h⟩;exact⟨g1,g2,by omega,g4⟩
def iU(l:List Bool):List (List T):=l.map λb=>[.bool b]
@[simp] theorem boolsT_len(l:List Bool):(iU l).length=l.length:=by simp[iU]
theorem KT(l:List Bool)(i:Nat)(b:Bool):iU (l.set i b)=(iU l).set i [.bool b]:=by simp[iU,ZbJ]
theorem rH{l:List Bool}{y:Nat}(h:y<l.length):DM.rowAt (iU l) y=[.bool (l.getD y default)]:=by simp[DM.rowAt,iU,h]
def TS(k cf co cn:Int):Prop:=cf<0\/co<0\/cn<0\/cf>k\/cn>k-cf
instance(k cf co cn:Int):Decidable (TS k cf co cn):=by unfold TS;infer_instance
theorem Df{n:aG}{l:aM}(hn:oK n)(hl:vD l):fK n l (iS n l):=by
 have:=vE hn hl l.aN.toNat (by have:=hl.1;omega);exact this
abbrev s12:DM.Spec:=cy (λts=>∃a b c,ts=[.agg [.sl (aZ a),.sl (aB b),ti c]]/\jX ⟨a,b,c⟩) (fun|[x]=>.agg [ti (aH (Cp x)).aN,.sl (ba (aH (Cp x)).aD),.sl (aB (aH (Cp x)).final)]|_=>.bool false) false
abbrev s11:DM.Spec:=cy (λts=>∃nt nn ns rules ls aD fin,ts=[.agg [ti nt,ti nn,ti ns,.sl (aS rules)],.agg [ti ls,.sl (ba aD),.sl (aB fin)]]/\oK ⟨nt,nn,ns,rules⟩/\vD ⟨ls,aD,fin⟩)
 (fun|[n,l]=>.agg [ti (nR n).an,ti (tZ l).aN,.sl (aL (iS (nR n) (tZ l)))]|_=>.bool false) false
inductive eP(n:aG)(l:aM):Int->Nat->Nat->Nat->Int->br->Prop
 |empty {s k:Nat} {r:bC} (hk:n.rules[k]? =some r) (h1:r.kind=1) (hv:(comb r.bE []).cost<1099511627776):eP n l r.head s s k s (comb r.bE [])
 |term {s t k a:Nat} {r:bC} {x:bn} (hk:n.rules[k]? =some r) (h1:r.kind=2) (ha:l.aD[a]? =some x) (h2:x.f=s) (h3:x.t=t) (h4:x.term=r.a)
   (hv:(comb (r.bE+x.cost) []).cost<1099511627776):eP n l r.head s t k a (comb (r.bE+x.cost) [])
 |unary {s t k k1:Nat} {g1:Int} {r:bC} {v:br} (hk:n.rules[k]? =some r) (h1:r.kind=3) (d:eP n l r.a s t k1 g1 v) (hv:(comb r.bE [v]).cost<1099511627776):eP n l r.head s t k s (comb r.bE [v])
 |binary {s m t k k1 k2:Nat} {g1 g2:Int} {r:bC} {v w:br} (hk:n.rules[k]? =some r) (h1:r.kind=4) (hs:s<=m) (ht:m<=t) (d1:eP n l r.a s m k1 g1 v) (d2:eP n l r.b m t k2 g2 w)
   (hv:(comb r.bE [v,w]).cost<1099511627776):eP n l r.head s t k m (comb r.bE [v,w])
def XD(n:aG)(l:aM)(h:Int)(s t:Nat)(v:br):Prop:=∃k g,eP n l h s t k g v
def vF(k:Int)(g:Int)(k':Int)(g':Int):Prop:=k<k'\/(k=k'/\g<=g')
structure Good(n:aG)(l:aM)(h:Int)(s t:Nat)(x:Cell):Prop where
 least:∀v,XD n l h s t v->¬v.lt x.val
 top:x=fc\/((∃k:Nat,x.ez=k/\eP n l h s t k x.arg x.val)/\∀(k':Nat) g',eP n l h s t k' g' x.val->vF x.ez x.arg k' g')
theorem eP.fin{n:aG}{l:aM}{h:Int}{s t k:Nat}{g:Int}{v:br}(d:eP n l h s t k g v):v.cost<1099511627776:=by
 cases d<;>assumption
theorem XD.fin{n:aG}{l:aM}{h:Int}{s t:Nat}{v:br}(d:XD n l h s t v):v.cost<1099511627776:=by
 obtain⟨k,g,d⟩:=d;exact d.fin
theorem br.antisymm{a b:br}(h1:¬a.lt b)(h2:¬b.lt a):a=b:=by
 obtain⟨a1,a2⟩:=a;obtain⟨b1,b2⟩:=b;simp only[br.lt]at h1 h2;have:a1=b1:=by omega
 have:a2=b2:=by omega
 simp[*]
theorem Cell.ext'{a b:Cell}(h1:a.val=b.val)(h2:a.ez=b.ez)(h3:a.arg=b.arg):a=b:=by
 obtain⟨a1,a2,a3,a4⟩:=a;obtain⟨b1,b2,b3,b4⟩:=b;simp only[Cell.val,br.mk.injEq]at h1 h2 h3;simp[h1,h2,h3]
theorem Good.val_eq{n:aG}{l:aM}{h:Int}{s t:Nat}{x y:Cell}(hx:Good n l h s t x)(hy:Good n l h s t y):x.val=y.val:=by
 have key:∀{x y:Cell},Good n l h s t x->Good n l h s t y->x=fc->x.val=y.val:=by
  intro x y hx hy e;subst e;rcases hy.top with rfl|⟨⟨k,_,d⟩,_⟩
  ·rfl
  ·exact absurd (show y.val.lt fc.val by left;exact d.fin) (hx.least _ ⟨k,_,d⟩)
 rcases hx.top with e|⟨⟨k,_,d⟩,_⟩
 ·exact key hx hy e
 ·rcases hy.top with e|⟨⟨k',_,d'⟩,_⟩
  ·exact(key hy hx e).symm
  ·exact br.antisymm (hy.least _ ⟨k,_,d⟩) (hx.least _ ⟨k',_,d'⟩)
theorem Good.unique{n:aG}{l:aM}{h:Int}{s t:Nat}{x y:Cell}(hx:Good n l h s t x)(hy:Good n l h s t y):x=y:=by
 have hv:=hx.val_eq hy;rcases hx.top with e|⟨⟨k,e1,d⟩,m⟩
 ·rcases hy.top with e'|⟨⟨k',_,d'⟩,_⟩
  ·rw[e,e']
  ·have:=d'.fin;rw[<-hv,e]at this;exact absurd this (by decide)
 ·rcases hy.top with e'|⟨⟨k',e2,d'⟩,m'⟩
  ·have:=d.fin;rw[hv,e']at this;exact absurd this (by decide)
  ·have a:=m k' y.arg (hv▸d');have b:=m' k x.arg (hv▸d);unfold vF at a b;refine Cell.ext' hv ?_ ?_<;>omega
theorem TT(c:Int)(v:br):comb c [v]=if min (c+v.cost) 1099511627776>=1099511627776 then⟨1099511627776,0⟩else⟨min (c+v.cost) 1099511627776,min (1+v.size) 1099511627776⟩:=rfl
theorem TU(c:Int)(v w:br):comb c [v,w]=if min (min (c+v.cost) 1099511627776+w.cost) 1099511627776>=1099511627776 then⟨1099511627776,0⟩else⟨min (min (c+v.cost) 1099511627776+w.cost) 1099511627776,min (min (1+v.size) 1099511627776+w.size) 1099511627776⟩:=rfl
theorem Dg{c:Int}{v:br}(hc:0<=c)(h:(comb c [v]).cost<1099511627776):v.cost<1099511627776:=by
 rw[TT]at h;split at h
 ·simp at h
 ·simp only at h;omega
theorem Dh{c:Int}{v w:br}(hc:0<=c)(hv:0<=v.cost)(hw:0<=w.cost)(h:(comb c [v,w]).cost<1099511627776):v.cost<1099511627776/\w.cost<1099511627776:=by
 rw[TU]at h;split at h
 ·simp at h
 ·simp only at h;omega
theorem ua{c:Int}{v v':br}(h:¬v.lt v'):¬(comb c [v]).lt (comb c [v']):=by
 rw[TT,TT];unfold br.lt at h⊢;split<;>split<;>simp only<;>omega
theorem ub{c:Int}{v v' w w':br}(p1:0<=v.cost)(p2:0<=v'.cost)(p3:0<=w.cost)(p4:0<=w'.cost)(hv:¬v.lt v')(hw:¬w.lt w'):¬(comb c [v,w]).lt (comb c [v',w']):=by
 rw[TU,TU];unfold br.lt at hv hw⊢;split<;>split<;>simp only<;>omega
theorem nz{a b c:br}(h:¬b.lt a)(k:¬c.lt b):¬c.lt a:=by
 unfold br.lt at*
 omega
def mR(n:aG)(l:aM)(c:bV)(own:List Cell)(s t:Nat)(k:Nat)(g:Int)(v:br):Prop:=
 ∃r,n.rules[k]? =some r/\((r.kind=1/\s=t/\g=s/\v=comb r.bE [])\/
  (r.kind=2/\∃(a:Nat) (x:bn),l.aD[a]? =some x/\x.f=s/\x.t=t/\x.term=r.a/\g=a/\v=comb (r.bE+x.cost) [])\/
  (r.kind=3/\g=s/\v=comb r.bE [cz c own s t r.a s t])\/
  (r.kind=4/\∃d:Nat,s+d<=t/\g=s+d/\v=comb r.bE [cz c own s t r.a s (s+d),cz c own s t r.b (s+d) t]))
theorem jY(x:Cell)(v:br)(i g:Int):dD x v i g=x\/(v.cost<1099511627776/\¬x.val.lt v/\dD x v i g=⟨v.cost,v.size,i,g⟩):=by
 unfold dD;split
 ·exact .inl rfl
 ·rename_i h;split
  ·rename_i h2;refine .inr ⟨by omega, ?_,rfl⟩;rcases h2 with h2|⟨rfl,_⟩
   ·unfold br.lt at*;omega
   ·unfold br.lt;omega
  ·exact .inl rfl
theorem pH{x:Cell}{v:br}{i g:Int}(h:dD x v i g=x)(hv:v.cost<1099511627776):¬v.lt x.val/\(v=x.val->vF x.ez x.arg i g):=by
 obtain⟨xc,xs,xr,xa⟩:=x;obtain⟨vc,vs⟩:=v;unfold dD at h;rw[if_neg (by simp only at hv⊢;omega)]at h;split at h
 ·rename_i h2;simp only[Cell.mk.injEq]at h;obtain⟨rfl,rfl,rfl,rfl⟩:=h;simp only[Cell.val,br.lt]at h2;exfalso;rcases h2 with h2|⟨_,h2⟩<;>omega
 ·rename_i h2;simp only[not_or,not_and]at h2;refine⟨h2.1,λe=>?_⟩;have:=h2.2 e;unfold vF;simp only at this⊢;omega
theorem vG{n:aG}{l:aM}{c:bV}{own:List Cell}{s t k:Nat}{r:bC}(hk:n.rules[k]? =some r)(Qc:r.kind=1\/r.kind=2\/r.kind=3\/r.kind=4)(lF:s<=t)(x:Cell):
  lu r l c own s t k x=x\/∃g v,mR n l c own s t k g v/\v.cost<1099511627776/\¬x.val.lt v/\lu r l c own s t k x=⟨v.cost,v.size,k,g⟩:=by
 have fold:∀(f:Cell->Nat->Cell) (N:Nat),(∀y j,j<N->f y j=y\/∃g v,mR n l c own s t k g v/\v.cost<1099511627776/\¬y.val.lt v/\f y j=⟨v.cost,v.size,k,g⟩)->
   (List.range N).foldl f x=x\/∃g v,mR n l c own s t k g v/\v.cost<1099511627776/\¬x.val.lt v/\(List.range N).foldl f x=⟨v.cost,v.size,k,g⟩:=by
  intro f N;induction N with
  |zero=>intro _;exact .inl rfl
  |succ N ih=>
   intro h;rw[ZaE,Zat];have ih:=ih λy j hj=>h y j (by omega);simp only[ZaB,ZbU];obtain⟨y,hy⟩:∃y,(List.range N).foldl f x=y:=⟨_,rfl⟩;rw[hy]at ih⊢;rcases h y N (by omega)with e|⟨g,v,h1,h2,h3,h4⟩
   ·rw[e];exact ih
   ·refine .inr ⟨g,v,h1,h2, ?_,h4⟩;rcases ih with rfl|⟨g',v',_,_,h3',rfl⟩
    ·exact h3
    ·have h3'':¬(⟨v'.cost,v'.size⟩:br).lt v:=h3;exact nz h3'' h3'
 have one:∀(y:Cell) (v:br) (g:Int),mR n l c own s t k g v->dD y v k g=y\/∃g v,mR n l c own s t k g v/\v.cost<1099511627776/\¬y.val.lt v/\dD y v k g=⟨v.cost,v.size,k,g⟩:=by
  intro y v g hi;rcases jY y v k g with e|⟨h1,h2,h3⟩
  ·exact .inl e
  ·exact .inr ⟨g,v,hi,h1,h2,h3⟩
 unfold lu;split
 ·rename_i h1;split
  ·rename_i h2;rcases jY x (comb r.bE []) k s with e|⟨h3,h4,h5⟩
   ·exact .inl e
   ·exact .inr ⟨_,_,⟨r,hk,.inl ⟨h1,by omega,rfl,rfl⟩⟩,h3,h4,h5⟩
  ·exact .inl rfl
 ·split
  ·rename_i h1;refine fold _ _ λy j hj=>?_;unfold stepT;split
   ·rename_i h2;have ha:l.aD[j]? =some (l.aD.getD j default):=by simp[List.getD,hj]
    rcases jY y (comb (r.bE+(l.aD.getD j default).cost) []) k j with e|⟨h3,h4,h5⟩
    ·exact .inl e
    ·exact .inr ⟨_,_,⟨r,hk,.inr (.inl ⟨h1,j,_,ha,h2.1,h2.2.1,h2.2.2,rfl,rfl⟩)⟩,h3,h4,h5⟩
   ·exact .inl rfl
  ·split
   ·rename_i h1;rcases jY x (comb r.bE [cz c own s t r.a s t]) k s with e|⟨h3,h4,h5⟩
    ·exact .inl e
    ·exact .inr ⟨_,_,⟨r,hk,.inr (.inr (.inl ⟨h1,rfl,rfl⟩))⟩,h3,h4,h5⟩
   ·rename_i h1 h2 h3;have h4:r.kind=4:=by omega
    refine fold _ _ λy j hj=>?_;unfold p7;rcases jY y (comb r.bE [cz c own s t r.a s (s+j),cz c own s t r.b (s+j) t]) k (s+j)with e|⟨h5,h6,h7⟩
    ·exact .inl e
    ·exact .inr ⟨_,_,⟨r,hk,.inr (.inr (.inr ⟨h4,j,by omega,rfl,rfl⟩))⟩,h5,h6,h7⟩
theorem Bj{f:Cell->Nat->Cell}:∀{N:Nat},(∀x k,k<N->kM x->goes x (f x k))->∀x,kM x->(List.range N).foldl f x=x->∀k,k<N->f x k=x
 |0,_,_,_,_,k,h=>by omega
 |N+1,hf,x,hx,he,k,hk=>by
  rw[ZaE,Zat]at he;simp only[ZaB,ZbU]at he;have h1:=xu (λx k hk=>hf x k (by omega)) x hx (N:=N);obtain⟨z,hz⟩:∃z,(List.range N).foldl f x=z:=⟨_,rfl⟩;rw[hz]at h1 he;have h2:=hf z N (by omega) h1.1;rw[he]at h2;have e:z=x:=by
   rcases h1.2 with e|h1
   ·exact e
   ·rcases h2.2 with e|h2
    ·exact e.symm
    ·omega
  subst e;by_cases hkN:k=N
  ·subst hkN;exact he
  ·exact Bj (λx k hk=>hf x k (by omega)) z hx hz k (by omega)
theorem dV{n:aG}(hn:oK n){k:Nat}{r:bC}(h:n.rules[k]? =some r):ud n r/\k<n.rules.length/\n.rules.getD k default=r:=by
 have hk:=(Zas.1 h).1;exact⟨hn.2.2.2 r (Zaq h),hk,by simp[List.getD,h]⟩
theorem Di{n:aG}{r:bC}(h:ud n r):r.kind=1\/r.kind=2\/r.kind=3\/r.kind=4:=by
 obtain⟨_,_,_,_,h⟩:=h;omega
section
variable{n:aG}{l:aM}{c:bV}{s t:Nat}
structure lz(n:aG)(l:aM)(c:bV)(s t:Nat):Prop where
 hn:oK n
 hl:vD l
 hc:Cs c
 ar:∀a∈l.aD,a.f<=a.t
 st:s<=t
 tm:t<=1000
 P0:∀(h:Int) (s' t':Nat),0<=h->h<n.an->s<=s'->s'<=t'->t'<=t->(s'≠s\/t'≠t)->Good n l h s' t' (lG c h s' t')
def PS(n:aG)(l:aM)(c:bV)(s t:Nat)(own:List Cell):Prop:=
 ∀h:Nat,h<own.length->own.getD h default=fc\/(XD n l h s t (own.getD h default).val/\
  ∃(k:Nat) (g:Int) (v:br),mR n l c own s t k g v/\(∃r,n.rules[k]? =some r/\r.head=h)/\(own.getD h default).ez=k/\(own.getD h default).arg=g/\¬(own.getD h default).val.lt v)
theorem fR(C:lz n l c s t){own:List Cell}(ho:kN n own){h:Int}(h0:0<=h)(h1:h<n.an)(f t':Int):kL (cz c own s t h f t'):=
 oL ⟨C.hc,by have:=ho.1;have:=C.hn.2.1;omega,λ_=>⟨h0,by have:=ho.1;omega⟩⟩ ho.ok.2
theorem xw(C:lz n l c s t){own:List Cell}(ho:kN n own)(hp:PS n l c s t own){h:Int}{s' t':Nat}(h0:0<=h)(h1:h<n.an)(a1:s<=s')(a2:s'<=t')(a3:t'<=t)
  (hf:(cz c own s t h s' t').cost<1099511627776):XD n l h s' t' (cz c own s t h s' t'):=by
 obtain⟨h,rfl⟩:=Zad h0;unfold cz at hf⊢;split
 ·rename_i e;rw[if_pos e]at hf;have e1:s'=s:=by omega
  have e2:t'=t:=by omega
  subst e1 e2;simp only[Zak]at hf⊢;rcases hp h (by have:=ho.1;omega)with e|⟨d,_⟩
  ·rw[e]at hf;exact absurd hf (by decide)
  ·exact d
 ·rename_i e;rw[if_neg e]at hf;rcases(C.P0 h s' t' h0 h1 a1 a2 a3 (by omega)).top with e|⟨⟨k,_,d⟩,_⟩
  ·rw[e]at hf;exact absurd hf (by decide)
  ·exact⟨k,_,d⟩
theorem H3(C:lz n l c s t){own:List Cell}(ho:kN n own)(hp:PS n l c s t own){k:Nat}{g:Int}{v:br}{r:bC}(hk:n.rules[k]? =some r)(h:mR n l c own s t k g v)(hf:v.cost<1099511627776):eP n l r.head s t k g v:=by
 obtain⟨r',sS,h⟩:=h;rw[hk]at sS;cases sS;obtain⟨q1,q2,q3,q4,q5⟩:=(dV C.hn hk).1;rcases h with⟨h1,rfl,rfl,rfl⟩|⟨h1,a,x,ha,h2,h3,h4,rfl,rfl⟩|⟨h1,rfl,rfl⟩|⟨h1,d,hd,rfl,rfl⟩
 ·exact eP.empty hk h1 hf
 ·exact eP.term hk h1 ha h2 h3 h4 hf
 ·obtain⟨k1,g1,d1⟩:=xw C ho hp (h:=r.a) (by omega) (by omega) (Zae s) C.st (Zae t) (Dg q3 hf);exact eP.unary hk h1 d1 hf
 ·have o1:=fR C ho (h:=r.a) (by omega) (by omega) s (s+d);have o2:=fR C ho (h:=r.b) (by omega) (by omega) (s+d) t;have hff:=Dh q3 o1.1 o2.1 hf;have e:((s:Int)+d)=((s+d:Nat):Int):=by omega
  rw[e]at hf hff⊢;obtain⟨k1,g1,d1⟩:=xw C ho hp (h:=r.a) (by omega) (by omega) (Zae s) (by omega) hd hff.1;obtain⟨k2,g2,d2⟩:=xw C ho hp (h:=r.b) (by omega) (by omega) (by omega) hd (Zae t) hff.2;exact eP.binary hk h1 (by omega) hd d1 d2 hf
theorem Dj(C:lz n l c s t){own own':List Cell}(ho:kN n own)(ga:kN n own')(hm:∀(h f t':Int),0<=h->h<n.an->¬(cz c own s t h f t').lt (cz c own' s t h f t')){k:Nat}{g:Int}{v:br}(h:mR n l c own s t k g v):
  ∃v',mR n l c own' s t k g v'/\¬v.lt v':=by
 obtain⟨r,hk,h⟩:=h;obtain⟨q1,q2,q3,q4,q5⟩:=(dV C.hn hk).1;rcases h with⟨h1,rfl,rfl,rfl⟩|⟨h1,a,x,ha,h2,h3,h4,rfl,rfl⟩|⟨h1,rfl,rfl⟩|⟨h1,d,hd,rfl,rfl⟩
 ·exact⟨_,⟨r,hk,.inl ⟨h1,rfl,rfl,rfl⟩⟩,by unfold br.lt;omega⟩
 ·exact⟨_,⟨r,hk,.inr (.inl ⟨h1,a,x,ha,h2,h3,h4,rfl,rfl⟩)⟩,by unfold br.lt;omega⟩
 ·exact⟨_,⟨r,hk,.inr (.inr (.inl ⟨h1,rfl,rfl⟩))⟩,ua (hm _ _ _ (by omega) (by omega))⟩
 ·refine⟨_,⟨r,hk,.inr (.inr (.inr ⟨h1,d,hd,rfl,rfl⟩))⟩,ub ?_ ?_ ?_ ?_ (hm _ _ _ (by omega) (by omega)) (hm _ _ _ (by omega) (by omega))⟩
  ·exact(fR C ho (by omega) (by omega) _ _).1
  ·exact(fR C ga (by omega) (by omega) _ _).1
  ·exact(fR C ho (by omega) (by omega) _ _).1
  ·exact(fR C ga (by omega) (by omega) _ _).1
theorem H4{own:List Cell}{i h:Nat}{y:Cell}(hi:i<own.length):(own.set i y).getD h default=if h=i then y else own.getD h default:=by
 simp only[List.getD,Zbx];by_cases e:i=h
 ·subst e;simp[hi]
 ·have e':¬h=i:=λx=>e x.symm;simp[e,e']
theorem Nh(C:lz n l c s t){own:List Cell}{k:Nat}(ho:kN n own)(hk:k<n.rules.length)(hp:PS n l c s t own):PS n l c s t (oM n l c s t own k):=by
 have ga:=(Bk C.hn C.hl C.hc ho hk C.st C.tm).1;have hr:n.rules[k]? =some (n.rules.getD k default):=by simp[List.getD,hk]
 obtain⟨r,er⟩:∃r,n.rules.getD k default=r:=⟨_,rfl⟩;unfold oM at ga⊢;unfold dL at ga⊢;rw[er]at hr ga⊢;have jS:=(dV C.hn hr).1;obtain⟨hd,ehd⟩:=Zad jS.1;have jn:hd<own.length:=by have:=ho.1;have:=jS.2.1;omega
 rw[ehd]at ga⊢;simp only[Zak]at ga⊢;obtain⟨x,hx⟩:∃x,own.getD hd default=x:=⟨_,rfl⟩;rw[hx]at ga⊢;rcases vG (c:=c) (own:=own) hr (Di jS) C.st x with e|⟨g,v,hi,hf,hle,e⟩
 ·rw[e,<-hx,Bl rfl];exact hp
 ·rw[e]at ga⊢;have hm:∀(h f t':Int),0<=h->h<n.an->¬(cz c own s t h f t').lt (cz c (own.set hd ⟨v.cost,v.size,k,g⟩) s t h f t'):=by
   intro h f t' h0 h1;unfold cz;split
   ·rw[H4 jn];split
    ·rename_i e2;rw[e2,hx];exact hle
    ·unfold br.lt;omega
   ·unfold br.lt;omega
  have hder:=H3 C ho hp hr hi hf;intro h hh;rw[H4 jn];split
  ·rename_i e2;subst e2;obtain⟨v',nj,OW⟩:=Dj C ho ga hm hi;exact .inr ⟨⟨k,g,by rw[<-ehd];exact hder⟩,k,g,v',nj,⟨r,hr,ehd⟩,rfl,rfl,OW⟩
  ·rcases hp h (by simpa using hh)with e3|⟨d,k1,g1,v1,hi1,lP,h2,h3,h4⟩
   ·exact .inl e3
   ·obtain⟨v',nj,OW⟩:=Dj C ho ga hm hi1;exact .inr ⟨d,k1,g1,v',nj,lP,h2,h3,nz OW h4⟩
theorem Ni(C:lz n l c s t):PS n l c s t (Ct n):=by
 intro h hh;left;have hh:h<n.an.toNat:=by simpa [Ct]using hh
 simp[Ct,List.getD,hh]
theorem Bm(C:lz n l c s t){own:List Cell}(ho:kN n own)(y6:KU n l c s t own){k:Nat}{g:Int}{v:br}{r:bC}(hk:n.rules[k]? =some r)(h:mR n l c own s t k g v)(hf:v.cost<1099511627776):
  ¬v.lt (own.getD r.head.toNat default).val/\(v=(own.getD r.head.toNat default).val->vF (own.getD r.head.toNat default).ez (own.getD r.head.toNat default).arg k g):=by
 obtain⟨r',sS,h⟩:=h;rw[hk]at sS;cases sS;obtain⟨jS,WC,hkd⟩:=dV C.hn hk;have F2:=y6 k WC;unfold dL at F2;rw[hkd]at F2;obtain⟨q1,q2,q3,q4,q5⟩:=jS;have QJ:kM (own.getD r.head.toNat default):=ho.2 _ (bw (by have:=ho.1;omega));obtain⟨x,hx⟩:∃x,own.getD r.head.toNat default=x:=⟨_,rfl⟩;rw[hx]at F2 QJ⊢;have hk6:=C.hn.2.2.1;have wy:=C.hl.2.2.1;have lF:=C.st;have iY:=C.tm;unfold lu at F2;rcases h with⟨h1,rfl,rfl,rfl⟩|⟨h1,a,y,ha,h2,h3,h4,rfl,rfl⟩|⟨h1,rfl,rfl⟩|⟨h1,d,hd,rfl,rfl⟩
 ·rw[if_pos h1,if_pos rfl]at F2;exact pH F2 hf
 ·rw[if_neg (by omega),if_pos h1]at F2;have kl:=(Zas.1 ha).1;have Wy:l.aD.getD a default=y:=by simp[List.getD,ha]
  have:=Bj (λx k hk hx=>by
   unfold stepT;split
   ·have:=C.hl.2.2.2 (l.aD.getD k default) (bw hk);exact jA hx (iE vH (by omega) (by omega)) (by omega) (by omega) (by omega) (by omega)
   ·exact sv hx) x QJ F2 a kl
  unfold stepT at this;rw[Wy,if_pos ⟨h2,h3,h4⟩]at this;exact pH this hf
 ·rw[if_neg (by omega),if_neg (by omega),if_pos h1]at F2;exact pH F2 hf
 ·rw[if_neg (by omega),if_neg (by omega),if_neg (by omega)]at F2;have:=Bj (λx k hk hx=>by
   unfold p7;refine jA hx (iE (λv hv=>?_) q3 (by omega)) (by omega) (by omega) (by omega) (by omega);simp only[Zag,Zap,or_false]at hv;rcases hv with rfl|rfl<;>exact fR C ho (by omega) (by omega) _ _) x QJ F2 d (by omega)
  unfold p7 at this;exact pH this hf
theorem eP.le(ha:∀a∈l.aD,a.f<=a.t){h:Int}{s' t' k:Nat}{g:Int}{v:br}(d:eP n l h s' t' k g v):s'<=t':=by
 induction d with
 |empty _ _ _=>exact Zae _
 |term _ _ hx h2 h3 _ _=>have:=ha _ (Zaq hx);omega
 |unary _ _ _ _ ih=>exact ih
 |binary _ _ _ _ _ _ _ ih1 Ot=>omega
theorem eP.pos(hn:oK n)(hl:vD l){h:Int}{s' t' k:Nat}{g:Int}{v:br}(d:eP n l h s' t' k g v):kL v:=by
 induction d with
 |empty hk _ _=>exact iE vH (dV hn hk).1.2.2.1 (by have:=(dV hn hk).1.2.2.2.1;omega)
 |term hk _ hx _ _ _ _=>exact iE vH (by have:=(dV hn hk).1.2.2.1;have:=hl.2.2.2 _ (Zaq hx);omega) (by have:=(dV hn hk).1.2.2.2.1;have:=hl.2.2.2 _ (Zaq hx);omega)
 |unary hk _ _ _ ih=>exact iE (λv hv=>by simp only[Zah]at hv;subst hv;exact ih) (dV hn hk).1.2.2.1 (by have:=(dV hn hk).1.2.2.2.1;omega)
 |binary hk _ _ _ _ _ _ ih1 Ot=>exact iE (λv hv=>by simp only[Zag,Zap,or_false]at hv;rcases hv with rfl|rfl<;>assumption) (dV hn hk).1.2.2.1 (by have:=(dV hn hk).1.2.2.2.1;omega)
theorem H5(C:lz n l c s t){own:List Cell}(ho:kN n own)(y6:KU n l c s t own){h:Int}{s' t' k:Nat}{g:Int}{v:br}(d:eP n l h s' t' k g v):
  s<=s'->t'<=t->¬v.lt (cz c own s t h s' t'):=by
 have out:∀{h:Int} {s' t':Nat} {v:br},0<=h->h<n.an->s<=s'->s'<=t'->t'<=t->(s'≠s\/t'≠t)->XD n l h s' t' v->¬v.lt (cz c own s t h s' t'):=by
  intro h s' t' v h0 h1 a1 a2 a3 bG d;unfold cz;rw[if_neg (by omega)];exact(C.P0 h s' t' h0 h1 a1 a2 a3 bG).least v d
 have onn:∀{r:bC} {k:Nat} {g:Int} {v v':br},n.rules[k]? =some r->mR n l c own s t k g v'->¬v.lt v'->v.cost<1099511627776->¬v.lt (cz c own s t r.head s t):=by
  intro r k g v v' hk hi hle hf;unfold cz;rw[if_pos ⟨rfl,rfl⟩];have TV:v'.cost<1099511627776:=by unfold br.lt at hle;omega
  exact nz (Bm C ho y6 hk hi TV).1 hle
 induction d with
 | @empty s0 k r hk h1 hv=>
  intro a1 a2;obtain⟨q1,q2,q3,q4,q5⟩:=(dV C.hn hk).1;by_cases e:s0=s/\s0=t
  ·obtain⟨rfl,rfl⟩:=e;exact onn hk ⟨r,hk,.inl ⟨h1,rfl,rfl,rfl⟩⟩ (by unfold br.lt;omega) hv
  ·exact out q1 q2 a1 (Zae _) a2 (by omega) ⟨k,_,eP.empty hk h1 hv⟩
 | @term s0 t0 k a r x hk h1 ha h2 h3 h4 hv=>
  intro a1 a2;obtain⟨q1,q2,q3,q4,q5⟩:=(dV C.hn hk).1;by_cases e:s0=s/\t0=t
  ·obtain⟨rfl,rfl⟩:=e;exact onn hk ⟨r,hk,.inr (.inl ⟨h1,a,x,ha,h2,h3,h4,rfl,rfl⟩)⟩ (by unfold br.lt;omega) hv
  ·exact out q1 q2 a1 (by have:=C.ar x (Zaq ha);omega) a2 (by omega) ⟨k,_,eP.term hk h1 ha h2 h3 h4 hv⟩
 | @unary s0 t0 k k1 g1 r v hk h1 d hv ih=>
  intro a1 a2;obtain⟨q1,q2,q3,q4,q5⟩:=(dV C.hn hk).1;by_cases e:s0=s/\t0=t
  ·obtain⟨rfl,rfl⟩:=e;exact onn hk ⟨r,hk,.inr (.inr (.inl ⟨h1,rfl,rfl⟩))⟩ (ua (ih (Zae _) (Zae _))) hv
  ·exact out q1 q2 a1 (d.le C.ar) a2 (by omega) ⟨k,_,eP.unary hk h1 d hv⟩
 | @binary s0 m t0 k k1 k2 g1 g2 r v w hk h1 hs ht d1 d2 hv ih1 Ot=>
  intro a1 a2;obtain⟨q1,q2,q3,q4,q5⟩:=(dV C.hn hk).1;by_cases e:s0=s/\t0=t
  ·obtain⟨rfl,rfl⟩:=e;have em:(m:Int)=(s0:Int)+((m-s0:Nat):Int):=by omega
   refine onn hk ⟨r,hk,.inr (.inr (.inr ⟨h1,m-s0,by omega,rfl,rfl⟩))⟩ (ub ?_ ?_ ?_ ?_ ?_ ?_) hv
   ·exact(d1.pos C.hn C.hl).1
   ·exact(fR C ho (by omega) (by omega) _ _).1
   ·exact(d2.pos C.hn C.hl).1
   ·exact(fR C ho (by omega) (by omega) _ _).1
   ·rw[<-em];exact ih1 (Zae _) ht
   ·rw[<-em];exact Ot hs (Zae _)
  ·exact out q1 q2 a1 (by omega) a2 (by omega) ⟨k,_,eP.binary hk h1 hs ht d1 d2 hv⟩
theorem TW(C:lz n l c s t){own:List Cell}(ho:kN n own)(y6:KU n l c s t own){h:Int}{k:Nat}{g:Int}{v:br}(d:eP n l h s t k g v):
  ∃r v',n.rules[k]? =some r/\r.head=h/\mR n l c own s t k g v'/\¬v.lt v':=by
 have hle:=λ{h:Int} {s' t' k:Nat} {g:Int} {v:br} (d:eP n l h s' t' k g v)=>H5 C ho y6 d;cases d with
 | @empty s0 k r hk h1 hv=>exact⟨r,_,hk,rfl,⟨r,hk,.inl ⟨h1,rfl,rfl,rfl⟩⟩,by unfold br.lt;omega⟩
 | @term s0 t0 k a r x hk h1 ha h2 h3 h4 hv=>exact⟨r,_,hk,rfl,⟨r,hk,.inr (.inl ⟨h1,a,x,ha,h2,h3,h4,rfl,rfl⟩)⟩,by unfold br.lt;omega⟩
 | @unary s0 t0 k k1 g1 r v hk h1 d hv=>
  exact⟨r,_,hk,rfl,⟨r,hk,.inr (.inr (.inl ⟨h1,rfl,rfl⟩))⟩,ua (hle d (Zae _) (Zae _))⟩
 | @binary s0 m t0 k k1 k2 g1 g2 r v w hk h1 hs ht d1 d2 hv=>
  obtain⟨q1,q2,q3,q4,q5⟩:=(dV C.hn hk).1;have em:(m:Int)=(s:Int)+((m-s:Nat):Int):=by omega
  refine⟨r,_,hk,rfl,⟨r,hk,.inr (.inr (.inr ⟨h1,m-s,by omega,em,rfl⟩))⟩,ub ?_ ?_ ?_ ?_ ?_ ?_⟩
  ·exact(d1.pos C.hn C.hl).1
  ·exact(fR C ho (by omega) (by omega) _ _).1
  ·exact(d2.pos C.hn C.hl).1
  ·exact(fR C ho (by omega) (by omega) _ _).1
  ·rw[<-em];exact hle d1 (Zae _) ht
  ·rw[<-em];exact hle d2 hs (Zae _)
theorem H6(C:lz n l c s t){own:List Cell}(ho:kN n own)(hp:PS n l c s t own)(y6:KU n l c s t own)(h:Nat)(hh:(h:Int)<n.an):Good n l h s t (own.getD h default):=by
 have hl:h<own.length:=by have:=ho.1;omega
 have cY:cz c own s t h s t=(own.getD h default).val:=by unfold cz;rw[if_pos ⟨rfl,rfl⟩];rfl
 refine⟨λv ⟨k,g,d⟩=>?_, ?_⟩
 ·rw[<-cY];exact H5 C ho y6 d (Zae _) (Zae _)
 ·rcases hp h hl with e|⟨hd,k,g,v,hi,⟨r,hk,hr⟩,h2,h3,hle⟩
  ·exact .inl e
  ·right;have hf:=hd.fin;have hvf:v.cost<1099511627776:=by unfold br.lt at hle;omega
   have hx:=Bm C ho y6 hk hi hvf;rw[hr]at hx;simp only[Zak]at hx;have he:v=(own.getD h default).val:=br.antisymm hx.1 hle;refine⟨⟨k,h2, ?_⟩,λk' g' d=>?_⟩
   ·have:=H3 C ho hp hk hi hvf;rw[hr,he]at this;rw[h3];exact this
   ·obtain⟨r',v',sS,ff,nj,OW⟩:=TW C ho y6 d;have hvf':v'.cost<1099511627776:=by unfold br.lt at OW;omega
    have fZ:=Bm C ho y6 sS nj hvf';rw[ff]at fZ;simp only[Zak]at fZ;exact fZ.2 (br.antisymm fZ.1 OW)
theorem xx(C:lz n l c s t)(h:Nat)(hh:(h:Int)<n.an):Good n l h s t ((ji n l c s t).getD h default):=by
 obtain⟨h1,h2,h3⟩:=Bn C.hn C.hl C.hc C.st C.tm (PS n l c s t) (Ni C) (λown k ho hk hp=>Nh C ho hk hp);exact H6 C h1 h2 h3 h hh
end
abbrev s18:DM.Spec:=cy (λts=>∃h f t cf co cn st,ts=[.agg [ti h,ti f,ti t],.agg [ti cf,ti co,ti cn],ti st]/\1<=st/\st<=10000)
 (fun|[.agg [.int _ h,.int _ f,.int _ t],.agg [.int _ cf,.int _ co,.int _ cn],.int _ st]=>.eF [.agg [ti (gH h f t cf co cn st).h,ti (gH h f t cf co cn st).f,ti (gH h f t cf co cn st).t],.bool (gH h f t cf co cn st).ok]|_=>.bool false) true
theorem ok18{l:List (Nat×DM.Spec)}(h:ay Tryz.prog (aW l)):ay Tryz.prog (aW ((18,s18)::l)):=by
 refine ay.cons h ?_;rintro ts ⟨h,f,t,cf,co,cn,st,rfl,h1,h2⟩;exact⟨by simpa [KR.enc]using t18 h f t cf co cn st h1 h2,λ_=>rfl⟩
theorem t13e:aT Tryz.prog 13 [.agg [ti 1,ti 1,ti 0,.sl []],.agg [ti 0,ti 0,.sl []],.agg [.sl [],.sl [[ti 1]],ti 0],.agg [ti 0,ti 0,ti 0]] (.eF [.agg [ti 0,ti 0,.sl []],ti 0,ti 13]):=by
 have aw:=ed;refine c13.ok (by simp) (aJ ?_);simp;refine aa.ab aw fw [4,5,6,7,8,9,10] ?_;simp[Sr];refine aa.le (Le.aC (o:=[(1009,.box [.v (ti 0),.v (ti 0),.aI])]) (l:=[(4,.v (.box [ti 1,ti 1,ti 0,.sl []])),(5,.v (.box [ti 0,ti 0,.sl []])),(6,.v (.box [.sl [],.sl [[ti 1]],ti 0])),(7,.v (.box [ti 0,ti 0,ti 0])),(8,.ptr 1009 0),(9,(.v (.int .i64 0))),(10,(.v (.int .i64 0)))]) (nxt':=1200) ?_ ?_ ?_ ?_) ?_;iterate 4(·simp)
 refine aa.ab aw fw [4,5,6,7,8,11] ?_;simp[Ss];refine aa.seq ?_;refine aa.bY aw fw [(4,.v (.box [ti 1,ti 1,ti 0,.sl []])),(5,.v (.box [ti 0,ti 0,.sl []])),(6,.v (.box [.sl [],.sl [[ti 1]],ti 0])),(7,.v (.box [ti 0,ti 0,ti 0])),(8,.ptr 1009 0),(11,.v (ti 0)),(53,.v (.bool false))] ?_ ?_
 ·simp[St]
 refine aa.cond rfl (λg=>?_) (λg=>?_)
 ·exact absurd g (by simp)
 ·refine aa.skip ?_;simp;refine aa.seq ?_;refine aa.bY aw fw [(4,.v (.box [ti 1,ti 1,ti 0,.sl []])),(5,.v (.box [ti 0,ti 0,.sl []])),(6,.v (.box [.sl [],.sl [[ti 1]],ti 0])),(7,.v (.box [ti 0,ti 0,ti 0])),(8,.ptr 1009 0),(95,.v (.bool true))] ?_ ?_
  ·simp[Su]
  refine aa.cond rfl (λg2=>?_) (λg2=>?_)
  ·refine aa.ab aw fw [8,9,10] ?_;simp[abH];refine aa.ret ?_;simp[Kp]
  ·refine aa.skip ?_;simp;exact absurd g2 (by simp)
abbrev s13e:DM.Spec:=cy (λts=>ts=[.agg [ti 1,ti 1,ti 0,.sl []],.agg [ti 0,ti 0,.sl []],.agg [.sl [],.sl [[ti 1]],ti 0],.agg [ti 0,ti 0,ti 0]]) (λ_=>.eF [.agg [ti 0,ti 0,.sl []],ti 0,ti 13]) false
theorem okA:ay Tryz.prog (aW [(18,s18),(13,s13e)]):=by
 refine ok18 (ay.cons ay.nil ?_);rintro ts rfl;exact⟨t13e,λh=>by cases h⟩
theorem kA:gH 2 0 2 1 1 1 7=⟨2,0,2,true⟩:=rfl
theorem kB:gH 1 4 6 1 1 1 7=⟨1,4,6,true⟩:=rfl
theorem kC:gH 0 2 4 1 1 1 7=⟨0,0,0,false⟩:=rfl
theorem kD:gH 0 0 1 1 1 1 7=⟨0,0,0,false⟩:=rfl
theorem kE:gH 0 4 6 1 0 2 7=⟨0,8,10,true⟩:=rfl
theorem t10:aT Tryz.prog 10 [] (.bool true):=by
 have aw:=okA;refine c10.ok (by simp) (aJ ?_);simp;refine aa.ab aw fw [] ?_;simp[abl];refine aa.ab aw fw [1] ?_;simp[abm];refine aa.ab aw fw [1,2,3] ?_;simp[abn,kA];refine⟨⟨_,_,_,_,_,_,_,⟨⟨rfl,rfl,rfl⟩,⟨rfl,rfl,rfl⟩,rfl⟩,by omega,by omega⟩, ?_⟩;try simp only[kA,kB,kC,kD,kE]
 refine aa.ab aw fw [1,2,3,4,5] ?_;simp[abo,kB];refine⟨⟨_,_,_,_,_,_,_,⟨⟨rfl,rfl,rfl⟩,⟨rfl,rfl,rfl⟩,rfl⟩,by omega,by omega⟩, ?_⟩;try simp only[kA,kB,kC,kD,kE]
 refine aa.ab aw fw [1,2,3,4,5,7] ?_;simp[abp,kC];refine⟨⟨_,_,_,_,_,_,_,⟨⟨rfl,rfl,rfl⟩,⟨rfl,rfl,rfl⟩,rfl⟩,by omega,by omega⟩, ?_⟩;try simp only[kA,kB,kC,kD,kE]
 refine aa.ab aw fw [2,3,4,5,7,9] ?_;simp[abq,kD];refine⟨⟨_,_,_,_,_,_,_,⟨⟨rfl,rfl,rfl⟩,⟨rfl,rfl,rfl⟩,rfl⟩,by omega,by omega⟩, ?_⟩;try simp only[kA,kB,kC,kD,kE]
 refine aa.ab aw fw [2,3,4,5,7,9,10,11] ?_;simp[abr,kE];refine⟨⟨_,_,_,_,_,_,_,⟨⟨rfl,rfl,rfl⟩,⟨rfl,rfl,rfl⟩,rfl⟩,by omega,by omega⟩, ?_⟩;try simp only[kA,kB,kC,kD,kE]
 refine aa.ab aw fw [2,3,4,5,7,9,10,11,14] ?_;simp[abt];refine⟨by first|rfl|simp[chunk], ?_⟩;refine aa.ab aw fw [0] ?_;simp[abu];refine aa.ret ?_;simp[Sq]
theorem H7{p p' nn h h':Int}(a1:0<=h)(a2:h<nn)(b1:0<=h')(b2:h'<nn)(e:p*nn+h=p'*nn+h'):p=p'/\h=h':=by
 have key:∀{p p' h h':Int},0<=h->h<nn->0<=h'->h'<nn->p*nn+h=p'*nn+h'->¬p<p':=by
  intro p p' h h' a1 a2 b1 b2 e cW;have h1:(p+1)*nn<=p'*nn:=ZbZ (by omega) (by omega);have h2:(p+1)*nn=p*nn+nn:=by grind
  omega
 have h1:=key a1 a2 b1 b2 e;have h2:=key b1 b2 a1 a2 e.symm;have:p=p':=by omega
 subst this;exact⟨rfl,by omega⟩
theorem OX{nn st:Int}{s t s' t':Nat}{h h':Int}(a1:0<=h)(a2:h<nn)(b1:0<=h')(b2:h'<nn)(c1:s<=t)(c2:(t:Int)<st)(d1:s'<=t')(d2:(t':Int)<st)
  (e:cJ nn st s t+h=cJ nn st s' t'+h'):s=s'/\t=t'/\h=h':=by
 unfold cJ at e;obtain⟨e1,e2⟩:=H7 a1 a2 b1 b2 e;have key:∀{s t s' t':Nat},s<=t->(t:Int)<st->s'<=t'->(t':Int)<st->pre st s+t-s=pre st s'+t'-s'->¬s<s':=by
  intro s t s' t' c1 c2 d1 d2 e cW;have:=Bo (st:=st) (f:=s+1) (k:=s') (by omega) (by omega);simp only[pre]at this;omega
 have h1:=key c1 c2 d1 d2 e1;have h2:=key d1 d2 c1 c2 e1.symm;have:s=s':=by omega
 subst this;exact⟨rfl,by omega,e2⟩
theorem TX(cells own:List Cell)(ml y:Nat)(hl:ml+y<=cells.length)(i:Nat)(d:Cell):(l9 cells own ml y).getD i d=if ml<=i/\i<ml+y then own.getD (i-ml) default else cells.getD i d:=by
 induction y with
 |zero=>simp only[l9,List.range_zero,ZbU];rw[if_neg (by omega)]
 |succ y ih=>
  rw[mm];have ih:=ih (by omega);by_cases e:i=ml+y
  ·subst e;rw[if_pos (by omega),show ml+y-ml=y by omega];simp only[List.getD,Zbx,vI];rw[if_pos trivial,if_pos (by omega)];rfl
  ·have:((l9 cells own ml y).set (ml+y) (own.getD y default)).getD i d=(l9 cells own ml y).getD i d:=by
    simp only[List.getD,Zbx];rw[if_neg (λx=>e x.symm)]
   rw[this,ih];by_cases h:ml<=i/\i<ml+y
   ·rw[if_pos h,if_pos (by omega)]
   ·rw[if_neg h,if_neg (by omega)]
section
variable{n:aG}{l:aM}
theorem TY{c:bV}{h:Int}{s t:Nat}(h0:0<=h)(h1:h<c.an)(c1:s<=t)(c2:(t:Int)<c.aN):lG c h s t=c.cells.getD (cJ c.an c.aN s t+h).toNat fc:=by
 unfold lG;rw[if_neg (by omega)];simp
def H8(n:aG)(l:aM)(cells:List Cell)(len f:Nat):Prop:=
 ∀(h:Int) (s t:Nat),0<=h->h<n.an->s<=t->(t:Int)<l.aN->(t-s<len\/(t-s=len/\s<f))->Good n l h s t (lG ⟨n.an,l.aN,cells⟩ h s t)
theorem OY(hn:oK n)(hl:vD l)(ha:∀a∈l.aD,a.f<=a.t){cells:List Cell}{len f:Nat}(hc:fK n l cells)(hf:((f+len:Nat):Int)<l.aN)(hd:H8 n l cells len f):H8 n l (rJ n l len cells f) len (f+1):=by
 have h1:=hn.1;have h2:=hn.2.1;have h3:=hl.1;have h4:=hl.2.1;have C:lz n l ⟨n.an,l.aN,cells⟩ f (f+len):=⟨hn,hl,hc.ok hn hl,ha,by omega,by omega,λh s' t' a1 a2 a3 a4 a5 a6=>hd h s' t' a1 a2 a4 (by omega) (by omega)⟩;have hg:=xx C;have eX:=vJ hn hl C.hc C.st C.tm;rw[show((f+len:Nat):Int)=(f:Int)+len by omega]at hg eX;obtain⟨own,ho⟩:∃own,ji n l ⟨n.an,l.aN,cells⟩ f ((f:Int)+len)=own:=⟨_,rfl⟩;rw[ho]at hg eX;have Nj:=jZ (n:=n.an) (st:=l.aN) (f:=f) (t:=f+len) (by omega) h2 h4 (by omega) (by omega) (by omega);have cW:=vK (nn:=n.an) (st:=l.aN) (f:=f) (t:=f+len) (by omega) (by omega) (by omega) (i:=n.an-1) (by omega);have bd:=hc.1;intro h s t a1 a2 a3 a4 a5;unfold rJ;rw[ho,TY a1 a2 a3 a4];simp only;have hsb:=jZ (n:=n.an) (st:=l.aN) (f:=s) (t:=t) (by omega) h2 h4 (by omega) (by omega) (by omega);rw[TX _ _ _ _ (by omega)];split
 ·rename_i e;have hx:cJ n.an l.aN s t+h=cJ n.an l.aN f (f+len)+(((cJ n.an l.aN s t+h).toNat-(cJ n.an l.aN f (f+len)).toNat:Nat):Int):=by omega
  obtain⟨e1,e2,e3⟩:=OX a1 a2 (by omega) (by omega) a3 a4 (by omega) (by omega) hx;subst e1 e2;obtain⟨h,rfl⟩:=Zad a1;have e4:(cJ n.an l.aN s (s+len)+(h:Int)).toNat-(cJ n.an l.aN s (s+len)).toNat=h:=by omega
  rw[e4];exact hg h a2
 ·rename_i e;have bG:¬(s=f/\t=f+len):=by
   rintro⟨rfl,rfl⟩;omega
  have:=hd h s t a1 a2 a3 a4 (by omega);rw[TY a1 a2 a3 a4]at this;exact this
theorem Bp(hn:oK n)(hl:vD l)(ha:∀a∈l.aD,a.f<=a.t){cells:List Cell}{len:Nat}(hc:fK n l cells)(hd:H8 n l cells len 0):∀k,((k+len:Nat):Int)<=l.aN->H8 n l ((List.range k).foldl (rJ n l len) cells) len k
 |0,_=>hd
 |k+1,hk=>by
  rw[ZaE,Zat];have h4:=hl.2.1;exact OY hn hl ha (vL hn hl hc k (by omega)) (by omega) (Bp hn hl ha hc hd k (by omega))
theorem Dk(hn:oK n)(hl:vD l)(ha:∀a∈l.aD,a.f<=a.t):∀k:Nat,(k:Int)<=l.aN->H8 n l ((List.range k).foldl (H9 n l) (List.replicate (dQ n.an l.aN).toNat ⟨0,0,0,0⟩)) k 0:=by
 intro k;induction k with
 |zero=>
  intro _ h s t a1 a2 a3 a4 a5;omega
 |succ k ih=>
  intro hk;rw[ZaE,Zat];have h4:=hl.2.1;have:=Bp hn hl ha (vE hn hl k (by omega)) (ih (by omega)) (l.aN.toNat-k) (by omega);intro h s t a1 a2 a3 a4 a5;exact this h s t a1 a2 a3 a4 (by omega)
theorem kO(hn:oK n)(hl:vD l)(ha:∀a∈l.aD,a.f<=a.t){h:Int}{s t:Nat}(a1:0<=h)(a2:h<n.an)(a3:s<=t)(a4:(t:Int)<l.aN):Good n l h s t (lG (cC n l) h s t):=by
 have h3:=hl.1;exact Dk hn hl ha l.aN.toNat (by omega) h s t a1 a2 a3 a4 (by omega)
end
def j5(l:List bn)(f t e c:Int):Prop:=∃a∈l,a.f=f/\a.t=t/\a.term=e/\a.cost=c
theorem pk2(a b:bn):pK a b=true↔b.cost<1099511627776/\sameKey a b=true:=by
 unfold pK;rw[Zam,decide_eq_true_eq];exact and_comm
theorem E7(a b:bn):pK a b=true↔b.cost<1099511627776/\a.f=b.f/\a.t=b.t/\a.term=b.term:=by
 rw[pk2,sameKey_iff]
theorem Bq(k:bn):∀(cs:List bn) (o:Option bn),(∀b,o=some b->pK k b=true)->match cs.foldl (fN k) o with
  |none=>o=none/\∀b∈cs,pK k b=false
  |some r=>(o=some r\/r∈cs)/\pK k r=true/\(∀b,o=some b->r.cost<=b.cost)/\∀b∈cs,pK k b=true->r.cost<=b.cost
 |[],o,ho=>by
  cases o with
  |none=>exact⟨rfl,λb h=>by cases h⟩
  |some b=>exact⟨.inl rfl,ho b rfl,λc h=>by cases h;omega,λb h=>by cases h⟩
 |c::cs,o,ho=>by
  rw[ZaB];have ih:=Bq k cs (fN k o c);have hs:∀b,fN k o c=some b->(o=some b\/b=c)/\pK k b=true/\(∀d,o=some d->b.cost<=d.cost)/\(pK k c=true->b.cost<=c.cost):=by
   intro b hb;unfold fN at hb;split at hb
   ·rename_i hc;have hpc:pK k c=true:=(pk2 k c).2 hc;cases o with
    |none=>simp only[Zaa]at hb;subst hb;exact⟨.inr rfl,hpc,λd h=>(by cases h),λ_=>by omega⟩
    |some d=>
     simp only at hb;split at hb
     ·simp only[Zaa]at hb;subst hb;exact⟨.inr rfl,hpc,λd h=>(by cases h;omega),λ_=>by omega⟩
     ·simp only[Zaa]at hb;subst hb;exact⟨.inl rfl,ho _ rfl,λd h=>(by cases h;omega),λ_=>by omega⟩
   ·rename_i hc;subst hb;refine⟨.inl rfl,ho b rfl,λd h=>by cases h;omega,λh=>?_⟩;exfalso;exact hc ((pk2 k c).1 h)
  have ih:=ih λb hb=>(hs b hb).2.1;cases e:cs.foldl (fN k) (fN k o c)with
  |none=>
   rw[e]at ih;simp only at ih⊢;obtain⟨i1,i2⟩:=ih;have h1:o=none/\pK k c=false:=by
    unfold fN at i1;split at i1
    ·cases o with
     |none=>cases i1
     |some d=>simp only at i1;split at i1<;>cases i1
    ·rename_i hc;refine⟨i1, ?_⟩;cases hp:pK k c with
     |false=>rfl
     |true=>
      exfalso;exact hc ((pk2 k c).1 hp)
   refine⟨h1.1,λb hb=>?_⟩;rcases Zag.1 hb with rfl|hb
   ·exact h1.2
   ·exact i2 b hb
  |some r=>
   rw[e]at ih;simp only at ih⊢;obtain⟨i1,i2,i3,i4⟩:=ih;refine⟨?_,i2, ?_, ?_⟩
   ·rcases i1 with i1|i1
    ·rcases(hs r i1).1 with h|rfl
     ·exact .inl h
     ·exact .inr (Za5 ..)
    ·exact .inr (ZaW _ i1)
   ·intro b hb;cases lF:fN k o c with
    |none=>
     unfold fN at lF;rw[hb]at lF;split at lF
     ·simp only at lF;split at lF<;>cases lF
     ·cases lF
    |some d=>have:=i3 d lF;have:=(hs d lF).2.2.1 b hb;omega
   ·intro b hb hp;rcases Zag.1 hb with rfl|hb
    ·cases lF:fN k o b with
     |none=>
      unfold fN at lF;have hp':=(pk2 k b).1 hp;rw[if_pos hp']at lF;cases o with
      |none=>cases lF
      |some d=>simp only at lF;split at lF<;>cases lF
     |some d=>have:=i3 d lF;have:=(hs d lF).2.2.2 hp;omega
    ·exact i4 b hb hp
theorem pI(x:Input)(f t e c:Int):j5 (dS x) f t e c↔(j5 (wF x) f t e c/\c<1099511627776/\∀c',j5 (wF x) f t e c'->c'<1099511627776->c<=c'):=by
 constructor
 ·rintro⟨a,ha,rfl,rfl,rfl,rfl⟩;rw[x6]at ha;have hm:=Bq a ((wF x).filter (pK a)) none (λb h=>by cases h);rw[ha]at hm;simp only at hm;obtain⟨h1,h2,_,h4⟩:=hm;have h1:a∈(wF x).filter (pK a):=h1.resolve_left (λh=>by cases h);refine⟨⟨a,(ZaO.1 h1).1,rfl,rfl,rfl,rfl⟩,((E7 a a).1 h2).1, ?_⟩;rintro c' ⟨b,hb,e1,e2,e3,rfl⟩ Ab;have hp:pK a b=true:=(E7 a b).2 ⟨Ab,e1.symm,e2.symm,e3.symm⟩;exact h4 b (ZaO.2 ⟨hb,hp⟩) hp
 ·rintro⟨⟨b,hb,rfl,rfl,rfl,rfl⟩,hc,Ev⟩;have hm:=Bq b ((wF x).filter (pK b)) none (λb h=>by cases h);have PW:pK b b=true:=(E7 b b).2 ⟨hc,rfl,rfl,rfl⟩;cases e:((wF x).filter (pK b)).foldl (fN b) none with
  |none=>
   rw[e]at hm;have:=hm.2 b (ZaO.2 ⟨hb,PW⟩);rw[PW]at this;cases this
  |some r=>
   rw[e]at hm;simp only at hm;obtain⟨h1,h2,_,h4⟩:=hm;have h1:r∈(wF x).filter (pK b):=h1.resolve_left (λh=>by cases h);obtain⟨r1,r2,r3,r4⟩:=(E7 b r).1 h2;have hpe:pK r=pK b:=by
    funext y;unfold pK sameKey;simp only[r2,r3,r4]
   have hse:fN r=fN b:=by
    funext o y;unfold fN sameKey;simp only[r2,r3,r4]
   refine⟨r, ?_,r2.symm,r3.symm,r4.symm, ?_⟩
   ·rw[x6,hpe,hse];exact e
   ·have l1:=h4 b (ZaO.2 ⟨hb,PW⟩) PW;have l2:=Ev r.cost ⟨r,(ZaO.1 h1).1,r2.symm,r3.symm,r4.symm,rfl⟩ r1;omega
def Cand(x:Input)(f t e c:Int):Prop:=
 (∃i m k:Nat,i<=m/\m<x.aj.length/\k<x.insert.length/\0<=lH x m k/\f=2*i/\t=2*m+2/\e=k/\c=jG (fW x i m) (lH x m k))\/
 (∃i m:Nat,i<=m/\bX x m=true/\f=2*i/\t=2*m+1/\e=(x.aj.getD (m+1) default).kind/\c=jG (fW x i m) x.swap)\/
 (∃i:Nat,bX x i=true/\f=2*i+1/\t=2*i+4/\e=(x.aj.getD i default).kind/\c=0)\/
 (∃i m k:Nat,i<=m/\m<=x.aj.length/\k<x.insert.length/\f=2*i/\t=2*m/\e=k/\c=jG (fW x i m) (x.insert.getD k default))
theorem sx{x:Input}{m:Nat}(h:bX x m=true):m+1<x.aj.length:=by
 unfold bX at h;exact(of_decide_eq_true h).1
theorem iF{α:Type}{f:Nat->List α}{i m k:Nat}{a:α}(h1:i<=k)(h2:k<m)(h:a∈f k):a∈ft f i m:=by
 unfold ft;rw[ZaV];exact⟨k-i,by rw[ZaQ];omega,by rw[show i+(k-i)=k by omega];exact h⟩
theorem vM(x:Input)(f t e c:Int):j5 (wF x) f t e c↔Cand x f t e c:=by
 constructor
 ·rintro⟨a,ha,rfl,rfl,rfl,rfl⟩;unfold wF at ha;rcases Zao.1 ha with ha|ha
  ·obtain⟨i,_,hi,ha⟩:=dz ha;unfold rI at ha;rcases Zao.1 ha with ha|ha
   ·obtain⟨m,h1,h2,ha⟩:=dz ha;unfold rM at ha;rcases Zao.1 ha with ha|ha
    ·obtain⟨k,_,hk,ha⟩:=dz ha;unfold rA at ha;split at ha
     ·rename_i hr;simp only[Zah]at ha;subst ha;exact .inl ⟨i,m,k,h1,hr.1,hk,hr.2,rfl,rfl,rfl,rfl⟩
     ·cases ha
    ·unfold rS at ha;split at ha
     ·rename_i hr;simp only[Zah]at ha;subst ha;exact .inr (.inl ⟨i,m,h1,hr,rfl,rfl,rfl,rfl⟩)
     ·cases ha
   ·obtain⟨hr,rfl⟩:=zJ ha;exact .inr (.inr (.inl ⟨i,hr,rfl,rfl,rfl,rfl⟩))
  ·obtain⟨i,_,hi,ha⟩:=dz ha;unfold iI at ha;obtain⟨m,h1,h2,ha⟩:=dz ha;unfold iM at ha;obtain⟨k,_,hk,ha⟩:=dz ha;unfold iT at ha;simp only[Zah]at ha;subst ha;exact .inr (.inr (.inr ⟨i,m,k,h1,by omega,hk,rfl,rfl,rfl,rfl⟩))
 ·unfold j5 wF;rintro(⟨i,m,k,h1,h2,h3,h4,rfl,rfl,rfl,rfl⟩|⟨i,m,h1,h2,rfl,rfl,rfl,rfl⟩|⟨i,h2,rfl,rfl,rfl,rfl⟩|⟨i,m,k,h1,h2,h3,rfl,rfl,rfl,rfl⟩)
  ·refine⟨⟨2*i,2*m+2,k,jG (fW x i m) (lH x m k),dd (m-i)++[(1,(k:Int))]⟩,Zao.2 (.inl ?_),rfl,rfl,rfl,rfl⟩;refine iF (k:=i) (by omega) (by omega) ?_;unfold rI;refine Zao.2 (.inl (iF (k:=m) h1 (by omega) ?_));unfold rM;refine Zao.2 (.inl (iF (k:=k) (by omega) h3 ?_));unfold rA;rw[if_pos ⟨h2,h4⟩];simp
  ·have:=sx h2;refine⟨⟨2*i,2*m+1,(x.aj.getD (m+1) default).kind,jG (fW x i m) x.swap,dd (m-i)++[(4,0)]⟩,Zao.2 (.inl ?_),rfl,rfl,rfl,rfl⟩;refine iF (k:=i) (by omega) (by omega) ?_;unfold rI;refine Zao.2 (.inl (iF (k:=m) h1 (by omega) ?_));unfold rM;refine Zao.2 (.inr ?_);unfold rS;rw[if_pos h2];simp
  ·have:=sx h2;refine⟨⟨2*i+1,2*i+4,(x.aj.getD i default).kind,0,[]⟩,Zao.2 (.inl ?_),rfl,rfl,rfl,rfl⟩;refine iF (k:=i) (by omega) (by omega) ?_;unfold rI;refine Zao.2 (.inr ?_);unfold rT;rw[if_pos h2];simp
  ·refine⟨⟨2*i,2*m,k,jG (fW x i m) (x.insert.getD k default),dd (m-i)++[(3,(k:Int))]⟩,Zao.2 (.inr ?_),rfl,rfl,rfl,rfl⟩;refine iF (k:=i) (by omega) (by omega) ?_;unfold iI;refine iF (k:=m) h1 (by omega) ?_;unfold iM;refine iF (k:=k) (by omega) h3 ?_;unfold iT;simp
structure OZ(x x':Input)(a b w:Nat):Prop where
 l1:a+w<=x.aj.length
 l2:b+w<=x'.aj.length
 ins:x.insert=x'.insert
 sw:x.swap=x'.swap
 col:∀j,j<w->x.aj.getD (a+j) default=x'.aj.getD (b+j) default
theorem OZ.symm{x x':Input}{a b w:Nat}(h:OZ x x' a b w):OZ x' x b a w:=⟨h.l2,h.l1,h.ins.symm,h.sw.symm,λj hj=>(h.col j hj).symm⟩
theorem E8{x x':Input}{a b w:Nat}(h:OZ x x' a b w){p q:Nat}(hq:q<=w):fW x (a+p) (a+q)=fW x' (b+p) (b+q):=by
 unfold fW
 congr 1
 apply Zbk;intro j;simp only[Zbb,ZaF];have h1:=h.l1;have h2:=h.l2;by_cases hj:p+j<q
 ·rw[if_pos (by omega),if_pos (by omega)];have:=h.col (p+j) (by omega);rw[Zan (by omega),Zan (by omega)];have e1:x.aj.getD (a+(p+j)) default=x.aj[a+p+j]'(by omega):=by simp[List.getD,show a+(p+j)=a+p+j by omega,show a+p+j<x.aj.length by omega]
  have e2:x'.aj.getD (b+(p+j)) default=x'.aj[b+p+j]'(by omega):=by simp[List.getD,show b+(p+j)=b+p+j by omega,show b+p+j<x'.aj.length by omega]
  rw[<-e1,<-e2,this]
 ·rw[if_neg (by omega),if_neg (by omega)]
def reach(x x':Input)(a b w:Nat)(T:Int):Prop:=(T % 2=1/\(T-1)/2+2<=a+w)\/(T % 2=0/\T/2<=a+w)\/(a+w=x.aj.length/\b+w=x'.aj.length)
theorem Ia{x x':Input}{a b w:Nat}(h:OZ x x' a b w){q:Nat}(hr:q+2<=w\/(a+w=x.aj.length/\b+w=x'.aj.length))(hs:bX x (a+q)=true):
  bX x' (b+q)=true/\(x.aj.getD (a+q) default).kind=(x'.aj.getD (b+q) default).kind/\(x.aj.getD (a+q+1) default).kind=(x'.aj.getD (b+q+1) default).kind:=by
 have cW:=sx hs;have hw:q+2<=w:=by
  rcases hr with hr|hr
  ·exact hr
  ·omega
 have c1:=h.col q (by omega);have c2:=h.col (q+1) (by omega);rw[<-Nat.add_assoc,<-Nat.add_assoc]at c2;unfold bX at hs⊢;have hs:=of_decide_eq_true hs;rw[c1,c2,h.sw]at hs;have h2:=h.l2;exact⟨decide_eq_true ⟨by omega,hs.2.1,hs.2.2.1,hs.2.2.2⟩,by rw[c1],by rw[c2]⟩
theorem Ib{x x':Input}{a b w:Nat}(h:OZ x x' a b w){T:Int}(hT:T<=2*(a+w:Nat))(hr:reach x x' a b w T){f t e c:Int}(hf:2*(a:Int)<=f)(ht:t<=T)(hb:T % 2=0->t≠T-1)(hc:Cand x f t e c):
  Cand x' (f+2*b-2*a) (t+2*b-2*a) e c:=by
 have h1:=h.l1;have h2:=h.l2;have sw:∀q:Nat,2*(q:Int)+1<=T-2*a->(T % 2=0->2*(q:Int)+1≠T-2*a-1)->q+2<=w\/(a+w=x.aj.length/\b+w=x'.aj.length):=by
  intro q k1 k2;unfold reach at hr;rcases hr with hr|hr|hr
  ·left;omega
  ·left;have:=k2 hr.1;omega
  ·exact .inr hr
 rcases hc with⟨i,m,k,q1,q2,q3,q4,rfl,rfl,rfl,rfl⟩|⟨i,m,q1,q2,rfl,rfl,rfl,rfl⟩|⟨i,q2,rfl,rfl,rfl,rfl⟩|⟨i,m,k,q1,q2,q3,rfl,rfl,rfl,rfl⟩
 ·obtain⟨p,rfl⟩:∃p,i=a+p:=⟨i-a,by omega⟩;obtain⟨q,rfl⟩:∃q,m=a+q:=⟨m-a,by omega⟩;have hc:=h.col q (by omega);have hre:lH x (a+q) k=lH x' (b+q) k:=by unfold lH;rw[hc]
  exact .inl ⟨b+p,b+q,k,by omega,by omega,by rw[<-h.ins];exact q3,by rw[<-hre];exact q4,by omega,by omega,rfl,by rw[E8 h (by omega),hre]⟩
 ·obtain⟨p,rfl⟩:∃p,i=a+p:=⟨i-a,by omega⟩;obtain⟨q,rfl⟩:∃q,m=a+q:=⟨m-a,by omega⟩;have hs:=Ia h (sw q (by omega) (λe=>by have:=hb e;omega)) q2;have:=sx q2;exact .inr (.inl ⟨b+p,b+q,by omega,hs.1,by omega,by omega,hs.2.2,by rw[E8 h (by omega),h.sw]⟩)
 ·obtain⟨q,rfl⟩:∃q,i=a+q:=⟨i-a,by omega⟩;have hs:=Ia h (q:=q) (.inl (by omega)) q2;exact .inr (.inr (.inl ⟨b+q,hs.1,by omega,by omega,hs.2.1,rfl⟩))
 ·obtain⟨p,rfl⟩:∃p,i=a+p:=⟨i-a,by omega⟩;obtain⟨q,rfl⟩:∃q,m=a+q:=⟨m-a,by omega⟩;exact .inr (.inr (.inr ⟨b+p,b+q,k,by omega,by omega,by rw[<-h.ins];exact q3,by omega,by omega,rfl,by rw[E8 h (by omega),h.ins]⟩))
theorem reach.symm{x x':Input}{a b w:Nat}{T:Int}(h:reach x x' a b w T):reach x' x b a w (T+2*b-2*a):=by
 unfold reach at h⊢;rcases h with h|h|h
 ·left;omega
 ·right;left;omega
 ·right;right;exact⟨h.2,h.1⟩
theorem XE{x x':Input}{a b w:Nat}(h:OZ x x' a b w){T:Int}(hT:T<=2*(a+w:Nat))(hr:reach x x' a b w T){f t e c:Int}(hf:2*(a:Int)<=f)(ht:t<=T)(hb:T % 2=0->t≠T-1):
  j5 (dS x) f t e c↔j5 (dS x') (f+2*b-2*a) (t+2*b-2*a) e c:=by
 have key:∀{c:Int},j5 (wF x) f t e c↔j5 (wF x') (f+2*b-2*a) (t+2*b-2*a) e c:=by
  intro c;rw[vM,vM];refine⟨Ib h hT hr hf ht hb,λhc=>?_⟩;have:=Ib h.symm (T:=T+2*b-2*a) (by omega) hr.symm (f:=f+2*b-2*a) (t:=t+2*b-2*a) (by omega) (by omega) (by omega) hc;rw[show f+2*b-2*a+2*a-2*b=f by omega,show t+2*b-2*a+2*a-2*b=t by omega]at this;exact this
 rw[pI,pI,key];constructor
 ·rintro⟨h1,h2,h3⟩;exact⟨h1,h2,λc' Ab=>h3 c' (key.2 Ab)⟩
 ·rintro⟨h1,h2,h3⟩;exact⟨h1,h2,λc' Ab=>h3 c' (key.1 Ab)⟩
theorem XF{x:Input}{f t e c:Int}(h:j5 (dS x) f t e c)(ho:f % 2=1):t=f+3:=by
 have:=(vM x f t e c).1 ((pI x f t e c).1 h).1;rcases this with⟨i,m,k,_,_,_,_,rfl,_⟩|⟨i,m,_,_,rfl,_⟩|⟨i,_,rfl,rfl,_⟩|⟨i,m,k,_,_,_,rfl,_⟩<;>omega
structure Sim(l l':aM)(s t s':Nat):Prop where
 aD:∀f to e c:Int,s<=f->to<=t->((t:Int) % 2=0->to≠t-1)->(j5 l.aD f to e c↔j5 l'.aD (f-s+s') (to-s+s') e c)
 gap:(t:Int) % 2=0->∀to e c:Int,j5 l.aD (t-1) to e c->t<to
theorem no_der{n:aG}{l:aM}{h:Int}{p q k:Nat}{g:Int}{v:br}(d:eP n l h p q k g v)(ha:∀a∈l.aD,a.f<=a.t):(∀to e c:Int,j5 l.aD p to e c->q<to)->p=q:=by
 induction d with
 |empty _ _ _=>intro _;rfl
 | @term s t k a r x hk h1 hx h2 h3 h4 hv=>
  intro uB;have:=uB x.t x.term x.cost ⟨x,Zaq hx,h2,rfl,rfl,rfl⟩;omega
 |unary _ _ _ _ ih=>exact ih
 | @binary s m t k k1 k2 g1 g2 r v w hk h1 hs ht d1 d2 hv ih1 Ot=>
  intro uB;have e:s=m:=ih1 λto e c h=>by have:=uB to e c h;omega
  subst e;exact Ot uB
theorem Nk{n:aG}{l l':aM}{s t s':Nat}(S:Sim l l' s t s')(ha:∀a∈l.aD,a.f<=a.t){h:Int}{p q k:Nat}{g:Int}{v:br}(d:eP n l h p q k g v):
  s<=p->q<=t->((t:Int) % 2=0->(q:Int)≠t-1)->∃g',eP n l' h (p-s+s') (q-s+s') k g' v/\((∀r,n.rules[k]? =some r->r.kind≠2)->g'=g-s+s'):=by
 induction d with
 | @empty s0 k r hk h1 hv=>
  intro a1 a2 a3;exact⟨_,eP.empty hk h1 hv,λ_=>by omega⟩
 | @term s0 t0 k a r x hk h1 hx h2 h3 h4 hv=>
  intro a1 a2 a3;obtain⟨x',hm,e1,e2,e3,e4⟩:=(S.aD x.f x.t x.term x.cost (by omega) (by omega) (by rw[h3];exact a3)).1 ⟨x,Zaq hx,rfl,rfl,rfl,rfl⟩;obtain⟨a',ha'⟩:=List.mem_iff_getElem?.1 hm;have hle:=ha x (Zaq hx);refine⟨(a':Int), ?_,λbG=>absurd h1 (bG r hk)⟩;have:=eP.term (n:=n) (l:=l') (s:=s0-s+s') (t:=t0-s+s') hk h1 ha' (by omega) (by omega) (by rw[e3];exact h4) (by rw[e4];exact hv);rw[e4]at this;exact this
 | @unary s0 t0 k k1 g1 r v hk h1 d hv ih=>
  intro a1 a2 a3;obtain⟨g',d',_⟩:=ih a1 a2 a3;exact⟨_,eP.unary hk h1 d' hv,λ_=>by omega⟩
 | @binary s0 m t0 k k1 k2 g1 g2 r v w hk h1 hs ht d1 d2 hv ih1 Ot=>
  intro a1 a2 a3;have hm:(t:Int) % 2=0->(m:Int)≠t-1:=by
   intro e1 e2;have e3:t0=t:=by have:=a3 e1;omega
   have:=no_der d2 ha λto e c hx=>by
    rw[e2]at hx;have:=S.gap e1 to e c hx;omega
   omega
  obtain⟨g1',d1',_⟩:=ih1 a1 (by omega) hm;obtain⟨g2',d2',_⟩:=Ot (by omega) a2 a3;exact⟨_,eP.binary hk h1 (by omega) (by omega) d1' d2' hv,λ_=>by omega⟩
theorem TZ{n:aG}{l l':aM}{s t s' t':Nat}(lF:s<=t)(et:t'=t-s+s')(S:Sim l l' s t s')(S':Sim l' l s' t' s)(ha:∀a∈l.aD,a.f<=a.t)(ha':∀a∈l'.aD,a.f<=a.t){h:Int}{x y:Cell}
  (hx:Good n l h s t x) (hy:Good n l' h s' t' y):x.val=y.val/\x.ez=y.ez/\(∀(k:Nat) r,n.rules[k]? =some r->x.ez=k->r.kind≠2->y.arg=x.arg-s+s'):=by
 have fwd:∀{k:Nat} {g:Int} {v:br},eP n l h s t k g v->∃g',eP n l' h s' t' k g' v/\((∀r,n.rules[k]? =some r->r.kind≠2)->g'=g-s+s'):=by
  intro k g v d;have:=Nk S ha d (Zae _) (Zae _) (by omega);rw[show s-s+s'=s' by omega,<-et]at this;exact this
 have bwd:∀{k:Nat} {g:Int} {v:br},eP n l' h s' t' k g v->∃g',eP n l h s t k g' v/\((∀r,n.rules[k]? =some r->r.kind≠2)->g'=g-s'+s):=by
  intro k g v d;have:=Nk S' ha' d (Zae _) (Zae _) (by omega);rw[show s'-s'+s=s by omega,show t'-s'+s=t by omega]at this;exact this
 have adw:∀{v:br},v.cost<1099511627776->v.lt fc.val:=λh=>.inl h;rcases hx.top with ex|⟨⟨k,ek,d⟩,Ev⟩
 ·rcases hy.top with ey|⟨⟨k',_,d'⟩,_⟩
  ·subst ex ey;refine⟨rfl,rfl,λk r _ h _=>?_⟩;simp only[fc]at h;omega
  ·obtain⟨g',d2,_⟩:=bwd d';subst ex;exact absurd (adw d2.fin) (hx.least _ ⟨_,_,d2⟩)
 ·obtain⟨g',d2,hg⟩:=fwd d;rcases hy.top with ey|⟨⟨k',ek',d'⟩,hmin'⟩
  ·subst ey;exact absurd (adw d2.fin) (hy.least _ ⟨_,_,d2⟩)
  ·obtain⟨g2',d2',hg'⟩:=bwd d';have hv:x.val=y.val:=br.antisymm (hy.least _ ⟨_,_,d2⟩) (hx.least _ ⟨_,_,d2'⟩);have m1:=Ev k' g2' (by rw[hv];exact d2');have m2:=hmin' k g' (by rw[<-hv];exact d2);unfold vF at m1 m2;have er:x.ez=y.ez:=by omega
   refine⟨hv,er,λk0 r wx e0 bG=>?_⟩;have ekk:k=k0:=by omega
   have ekk':k'=k0:=by omega
   subst ekk ekk';have h1:=hg λr' ff=>by rw[wx]at ff;cases ff;exact bG
   have h2:=hg' λr' ff=>by rw[wx]at ff;cases ff;exact bG
   omega
theorem Nl{x x':Input}{a b w:Nat}(h:OZ x x' a b w){s t:Nat}(hs:2*a<=s)(hT:t<=2*(a+w))(hr:reach x x' a b w t):Sim (aH x) (aH x') s t (s+2*b-2*a):=by
 refine⟨λf to e c h1 h2 h3=>?_,λhe to e c hx=>?_⟩
 ·have:=XE h (T:=t) (by omega) hr (f:=f) (t:=to) (e:=e) (c:=c) (by omega) h2 h3;rw[show f-(s:Int)+((s+2*b-2*a:Nat):Int)=f+2*b-2*a by omega,show to-(s:Int)+((s+2*b-2*a:Nat):Int)=to+2*b-2*a by omega];exact this
 ·have:=XF hx (by omega);omega
theorem nS{x:Input}(h:jX x):∀a∈(aH x).aD,a.f<=a.t:=by
 intro a ha;have:=(vM x a.f a.t a.term a.cost).1 ((pI x _ _ _ _).1 ⟨a,ha,rfl,rfl,rfl,rfl⟩).1;rcases this with⟨i,m,k,_,_,_,_,h1,h2,_⟩|⟨i,m,_,_,h1,h2,_⟩|⟨i,_,h1,h2,_⟩|⟨i,m,k,_,_,_,h1,h2,_⟩<;>omega
theorem Dl{n:aG}{x x':Input}{a b w:Nat}(hn:oK n)(hx:jX x)(fZ:jX x')(h:OZ x x' a b w){hd:Int}{s t:Nat}(h0:0<=hd)(h1:hd<n.an)(lF:s<=t)(hs:2*a<=s)(hT:t<=2*(a+w))(hr:reach x x' a b w t):
  ∃k,k=t+2*b-2*a/\(lG (cC n (aH x)) hd s t).val=(lG (cC n (aH x')) hd (s+2*b-2*a:Nat) k).val/\(lG (cC n (aH x)) hd s t).ez=(lG (cC n (aH x')) hd (s+2*b-2*a:Nat) k).ez/\
   (∀(k0:Nat) r,n.rules[k0]? =some r->(lG (cC n (aH x)) hd s t).ez=k0->r.kind≠2->(lG (cC n (aH x')) hd (s+2*b-2*a:Nat) k).arg=(lG (cC n (aH x)) hd s t).arg+2*b-2*a):=by
 obtain⟨t',ht'⟩:∃t',t+2*b-2*a=t':=⟨_,rfl⟩;have l1:=h.l1;have l2:=h.l2;have S:=Nl h hs hT hr;have S':=Nl h.symm (s:=s+2*b-2*a) (t:=t') (by omega) (by omega) (by have:=reach.symm hr;rw[show((t:Int)+2*b-2*a)=(t':Int)by omega]at this;exact this);rw[show s+2*b-2*a+2*a-2*b=s by omega]at S';have Kf:(aH x).aN=2*x.aj.length+1:=rfl;have N9:(aH x').aN=2*x'.aj.length+1:=rfl;have g1:=kO hn (ny hx) (nS hx) h0 h1 lF (by omega);have g2:=kO hn (ny fZ) (nS fZ) h0 h1 (s:=s+2*b-2*a) (t:=t') (by omega) (by omega);obtain⟨r1,r2,r3⟩:=TZ lF (by omega) S S' (nS hx) (nS fZ) g1 g2;refine⟨t',ht'.symm,r1,r2,λk0 r hk he bG=>?_⟩;have:=r3 k0 r hk he bG;omega
theorem Ie{α:Type}{d:α}{a b:List α}{i:Nat}:(a++b).getD i d=if i<a.length then a.getD i d else b.getD (i-a.length) d:=by
 simp only[List.getD,Zb9];split<;>rfl
theorem xz{x:Input}{fr od:Nat}{new:List bD}(h1:fr<=x.aj.length)(h2:od<=x.aj.length-fr):(cQ x fr od new).aj.length=x.aj.length-od+new.length:=by
 simp only[cQ,ZaA,Zaw,Za9];omega
theorem KX{x:Input}{fr od:Nat}{new:List bD}(h1:fr<=x.aj.length)(h2:od<=x.aj.length-fr):OZ x (cQ x fr od new) 0 0 fr:=by
 refine⟨by omega,by rw[xz h1 h2];omega,rfl,rfl,λj hj=>?_⟩;simp only[cQ,ZaY];rw[List.append_assoc,Ie,if_pos (by rw[Zaw];omega)];simp only[List.getD,ZaF];rw[if_pos hj]
theorem Ig{x:Input}{fr od:Nat}{new:List bD}(h1:fr<=x.aj.length)(h2:od<=x.aj.length-fr):OZ x (cQ x fr od new) (fr+od) (fr+new.length) (x.aj.length-(fr+od)):=by
 refine⟨by omega,by rw[xz h1 h2];omega,rfl,rfl,λj hj=>?_⟩;simp only[cQ];rw[Ie,if_neg (by rw[ZaA,Zaw];omega)];simp only[List.getD,Zbb,ZaA,Zaw];rw[show fr+od+(fr+new.length+j-(min fr x.aj.length+new.length))=fr+od+j by omega]
theorem O2{z:Ask}(h:Cq z):oK z.n/\jX z.x/\jX (rG z)/\XC z/\(z.x.aj.length:Int)<=4/\(z.new.length:Int)<=3:=by
 obtain⟨h1,h2,_⟩:=h;have h3:z.n.aV<=5:=by omega
 have h4:eO z.n:=Classical.not_not.1 λc=>h1 (.inr (.inr (.inr (.inl c))));have h5:De z.x z.n.aV:=Classical.not_not.1 λc=>h1 (.inr (.inr (.inr (.inr (.inr (.inr (.inl c)))))));exact⟨h4.ok,TR h5 h3,TR h2 h3,⟨by omega,by omega,by omega,by omega,by omega,by omega⟩,by omega,by omega⟩
abbrev s9:DM.Spec:=cy (λts=>∃nt nn ns rules ct ins sw fr od new,ts=[.agg [ti nt,ti nn,ti ns,.sl (aS rules),.sl (aZ ct),.sl (aB ins),ti sw,ti fr,ti od,.sl (aZ new)]]/\rules.length<=9223372036854775807/\ins.length<=9223372036854775807)
 (fun|[.agg [.int _ nt,.int _ nn,.int _ ns,.sl r,.sl c,.sl i,.int _ s,.int _ fr,.int _ od,.sl nw]]=>.bool (decide (Cq ⟨⟨nt,nn,ns,vC r⟩,⟨eS c,fu i,s⟩,fr,od,eS nw⟩))|_=>.bool false) true
abbrev s10:DM.Spec:=cy (λts=>ts=[]) (λ_=>.bool true) true
abbrev s15:DM.Spec:=cy (λts=>∃nt nn ns rules ct ins sw fr od new,ts=[.agg [ti nt,ti nn,ti ns,.sl (aS rules),.sl (aZ ct),.sl (aB ins),ti sw,ti fr,ti od,.sl (aZ new)]])
 (fun|[.agg [_,_,_,_,_,_,_,.int _ fr,.int _ od,.sl nw]]=>.agg [ti fr,ti od,ti nw.length]|_=>.bool false) true
theorem ok9{l:List (Nat×DM.Spec)}(h:ay Tryz.prog (aW l)):ay Tryz.prog (aW ((9,s9)::(10,s10)::(15,s15)::l)):=by
 refine ay.cons (ay.cons (ay.cons h ?_) ?_) ?_
 ·rintro ts ⟨nt,nn,ns,rules,ct,ins,sw,fr,od,new,rfl⟩;exact⟨by simpa [Ask.enc]using t15 ⟨⟨nt,nn,ns,rules⟩,⟨ct,ins,sw⟩,fr,od,new⟩,λ_=>rfl⟩
 ·rintro ts rfl;exact⟨t10,λ_=>rfl⟩
 ·rintro ts ⟨nt,nn,ns,rules,ct,ins,sw,fr,od,new,rfl,h1,h2⟩;exact⟨by simpa [Ask.enc]using t9 ⟨⟨nt,nn,ns,rules⟩,⟨ct,ins,sw⟩,fr,od,new⟩ ⟨h1,h2⟩,λ_=>rfl⟩
theorem T1{l:List (Nat×DM.Spec)}(h:ay Tryz.prog (aW l)):ay Tryz.prog (aW ((12,s12)::(11,s11)::(19,s19)::l)):=by
 refine ay.cons (ay.cons (ay.cons h ?_) ?_) ?_
 ·rintro ts ⟨cn,cs,cl,h,f,t,rfl,h1⟩;exact⟨by simpa [bV.enc,Cell.enc]using t19 ⟨cn,cs,cl⟩ h f t h1,λ_=>rfl⟩
 ·rintro ts ⟨nt,nn,ns,rules,ls,aD,fin,rfl,h1,h2⟩;exact⟨by simpa [aG.enc,aM.enc,bV.enc,cC]using t11 ⟨nt,nn,ns,rules⟩ ⟨ls,aD,fin⟩ h1 h2,λh=>by cases h⟩
 ·rintro ts ⟨a,b,c,rfl,h1,h2,h3,h4⟩;exact⟨by simpa [Input.enc,aM.enc]using _root_.Go.Proofs.t14 ⟨a,b,c⟩ h1 h2 h3 h4,λh=>by cases h⟩
end cu
end Go.Proofs
namespace Go.Proofs
namespace cu
open Go.DM Go.ChangeShapes Go.Deep
def T2:Ty:=.seq [.int .i64,.int .i64,.int .i64,.int .i64,.int .i64,.int .i64]
def T3:Ty:=.seq [.int .i64,.int .i64,.int .i64,.slice T2]
def T4:Ty:=.seq [T3,XH,.int .i64,.int .i64,.slice T5]
theorem XI{ts:List T}(h:T2.has ts):∃r:bC,ts=r.enc:=by
 obtain⟨_,_,rfl,h1,h⟩:=all_cons (E9 h);obtain⟨_,_,rfl,h2,h⟩:=all_cons h;obtain⟨_,_,rfl,h3,h⟩:=all_cons h;obtain⟨_,_,rfl,h4,h⟩:=all_cons h;obtain⟨_,_,rfl,h5,h⟩:=all_cons h;obtain⟨_,_,rfl,h6,h⟩:=all_cons h;obtain rfl:=all_nil h;obtain⟨a,rfl⟩:=iV h1;obtain⟨b,rfl⟩:=iV h2;obtain⟨c,rfl⟩:=iV h3;obtain⟨d,rfl⟩:=iV h4;obtain⟨e,rfl⟩:=iV h5;obtain⟨f,rfl⟩:=iV h6;exact⟨⟨a,b,c,d,e,f⟩,rfl⟩
theorem ask_of{x:T}(h:T4.arg x):∃z:Ask,x=z.enc/\z.n.rules.length<=9223372036854775807/\z.x.insert.length<=9223372036854775807:=by
 unfold T4 Ty.arg at h;obtain⟨ts,rfl,h⟩:=h;obtain⟨_,_,rfl,h1,h⟩:=all_cons h;obtain⟨_,_,rfl,h2,h⟩:=all_cons h;obtain⟨_,_,rfl,h3,h⟩:=all_cons h;obtain⟨_,_,rfl,h4,h⟩:=all_cons h;obtain⟨_,_,rfl,h5,h⟩:=all_cons h;obtain rfl:=all_nil h;obtain⟨_,_,rfl,n1,h1⟩:=all_cons (E9 h1);obtain⟨_,_,rfl,n2,h1⟩:=all_cons h1;obtain⟨_,_,rfl,n3,h1⟩:=all_cons h1;obtain⟨_,_,rfl,n4,h1⟩:=all_cons h1;obtain rfl:=all_nil h1;obtain⟨_,_,rfl,x1,h2⟩:=all_cons (E9 h2);obtain⟨_,_,rfl,x2,h2⟩:=all_cons h2;obtain⟨_,_,rfl,x3,h2⟩:=all_cons h2;obtain rfl:=all_nil h2;obtain⟨nt,rfl⟩:=iV n1;obtain⟨nn,rfl⟩:=iV n2;obtain⟨ns,rfl⟩:=iV n3;obtain⟨rules,rfl,hr⟩:=rK (λr=>XI) n4;obtain⟨ct,rfl,hc⟩:=rK (λr=>T6) x1;obtain⟨ins,rfl,hi⟩:=rK (λr=>iV) x2;obtain⟨sw,rfl⟩:=iV x3;obtain⟨fr,rfl⟩:=iV h3;obtain⟨od,rfl⟩:=iV h4;obtain⟨new,rfl,hn⟩:=rK (λr=>T6) h5;exact⟨⟨⟨nt,nn,ns,rules⟩,⟨ct,ins,sw⟩,fr,od,new⟩,rfl,hr,hi⟩
abbrev Nn:List (String×DataW Unit):=[("emendate/chart.none",.agg [.agg [.lit (.int .i64 1099511627776),.lit (.int .i64 0)],.lit (.int .i64 (-1)),.lit (.int .i64 0)])]
theorem gNone:Tryz.prog.globalNamed "emendate/chart.none" =some 0:=by kernel_rfl
theorem tNone:(Tryz.prog.globals[0]?).map (·.type)=some 57:=by kernel_rfl
theorem uCell:Tryz.prog.underlying 57=some (.struct #[⟨"Value",55,0,false, "", "",0⟩,⟨"Rule",3,2,false, "", "",16⟩,⟨"Arg",3,3,false, "", "",24⟩]):=by kernel_rfl
theorem uVal:Tryz.prog.underlying 55=some (.struct #[⟨"Cost",3,0,false, "", "",0⟩,⟨"Size",3,1,false, "", "",8⟩]):=by kernel_rfl
theorem XJ:Tryz.prog.underlying 3=some (.int .i64):=by kernel_rfl
theorem XK:Tryz.prog.cellsOf 57=4:=by kernel_rfl
theorem XL:Tryz.prog.cellsOf 55=2:=by kernel_rfl
theorem cells3:Tryz.prog.cellsOf 3=1:=by kernel_rfl
theorem cs4{cs:List Value}(h:cs.length=4):∃a b c d,cs=[a,b,c,d]:=by
 match cs,h with
 |[a,b,c,d],_=>exact⟨a,b,c,d,rfl⟩
theorem XM{W:World}(h:laidMet Tryz.prog Nn W):W.cell? ⟨0,0,none⟩=some (.int .i64 1099511627776)/\W.cell? ⟨0,1,none⟩=some (.int .i64 0)/\W.cell? ⟨0,2,none⟩=some (.int .i64 (-1))/\W.cell? ⟨0,3,none⟩=some (.int .i64 0):=by
 obtain⟨ps,⟨g,t,cs,fuel,p,q,hg,ht,hv,hd,_,_⟩,_⟩:=h;obtain rfl:=ZbK (gNone.symm.trans hg);obtain rfl:=ZbK (tNone.symm.trans ht);obtain⟨y0,y1,y2,n,ex,hl,e0,e1,e2⟩:=trod_struct3 uCell hd;rw[XK]at hl;obtain⟨v0,v1,v2,v3,mC⟩:=cs4 hl;rw[mC]at e0 e1 e2;obtain⟨z0,z1,m,ey,qe,f0,f1⟩:=trod_struct2 uVal e0;simp only[XL,cells3,List.drop_zero,ZbY,List.take_zero,List.drop_succ_cons]at e1 e2 f0 f1;obtain⟨i1,r1,rfl,_⟩:=DataW.trod_int XJ e1;obtain⟨i2,r2,rfl,_⟩:=DataW.trod_int XJ e2;obtain⟨i3,r3,rfl,_⟩:=DataW.trod_int XJ f0;obtain⟨i4,r4,rfl,_⟩:=DataW.trod_int XJ f1;subst ey;have ex:=(congrArg Prod.fst ex).symm;simp only[DataW.agg.injEq,Za6,DataW.lit.injEq,Lit.int.injEq,and_true,true_and,Za6]at ex r1 r2 r3 r4;obtain⟨⟨rfl,rfl⟩,rfl,rfl⟩:=ex;subst r1 r2 r3 r4;have hc:cs= #[.int .i64 1099511627776,.int .i64 0,.int .i64 (-1),.int .i64 0]:=by
  apply Array.toList_inj.1;rw[mC]
 subst hc;exact⟨World.var?_cell hg hv 0,World.var?_cell hg hv 1,World.var?_cell hg hv 2,World.var?_cell hg hv 3⟩
theorem laidOk{W:World}(h:laidMet Tryz.prog Nn W):zN W λ_=>False:=by
 obtain⟨h0,h1,h2,h3⟩:=XM h;intro p hp;obtain rfl:p=_:=Zah.1 hp;refine⟨(MG h0).1,λx=>x, ?_⟩;simp only[cV,aR,and_true,ZaY,Nat.reduceAdd];exact⟨⟨_,h0,rfl,rfl⟩,⟨_,h1,rfl,rfl⟩,⟨_,h2,rfl,rfl⟩,⟨_,h3,rfl,rfl⟩⟩
structure tr where
 (x h t:Int)
 deriving DecidableEq,Inhabited
def tr.enc(e:tr):List T:=[ti e.x,ti e.h,ti e.t]
def fU(l:List tr):List (List T):=l.map tr.enc
def Lt:List T->tr
 |[a,b,c]=>⟨cX a,cX b,cX c⟩
 |_=>default
@[simp] theorem Lu(e:tr):Lt e.enc=e:=by simp[Lt,tr.enc,cX]
@[simp] theorem Dw{a b:List tr}:fU a=fU b↔a=b:=⟨λh=>by
 have:=congrArg (List.map Lt) h;simpa [fU,fD Lu]using this,λh=>by rw[h]⟩
@[simp] theorem entsT_len(l:List tr):(fU l).length=l.length:=by simp[fU]
theorem gp{l:List tr}{y:Nat}(h:y<l.length):DM.rowAt (fU l) y=(l.getD y default).enc:=by simp[DM.rowAt,fU,h]
theorem sG(l:List tr)(i:Nat)(e:tr):fU (l.set i e)=(fU l).set i e.enc:=by simp[fU,ZbJ]
theorem Fx(a b:List tr):fU (a++b)=fU a++fU b:=by simp[fU]
theorem Lv(a:List tr)(n:Nat):(fU a).take n=fU (a.take n):=by simp[fU,List.map_take]
abbrev Pl:=List (Nat×Int×Int)
def wC(l:Pl):List (Nat×T×DV):=l.map λe=>(e.1,ti e.2.1,.v (ti e.2.2))
@[simp] theorem Nv{a b:Pl}:wC a=wC b↔a=b:=⟨λh=>by
 unfold wC at h;refine List.map_inj_right (f:=λe:Nat×Int×Int=>(e.1,ti e.2.1,DV.v (ti e.2.2))) ?_|>.1 h
 rintro⟨a,b,c⟩ ⟨a',b',c'⟩ h;simpa using h,λh=>by rw[h]⟩
def sH(l:Pl)(k:Int):Option Nat:=l.findIdx? λe=>e.2.1==k
def jE(l:Pl)(k:Int):Option Int:=(l.find? λe=>e.2.1==k).map (·.2.2)
def eC(l:Pl)(c:Nat)(k v:Int):Pl:=match sH l k with
 |some i=>l.modify i λe=>(e.1,e.2.1,v)
 |none=>l++[(c,k,v)]
def BA(l:Pl)(c:Nat)(k:Int):Nat:=match sH l k with
 |some _=>c
 |none=>c+1
def nD(l:Pl)(k:Int):Pl:=match sH l k with
 |some i=>l.eraseIdx i
 |none=>l
theorem Nw(a b:Int):fe (ti a) (ti b)=(b==a):=by
 simp only[fe];by_cases h:a=b
 ·simp[h]
 ·have:¬b=a:=λe=>h e.symm;simp[h,this]
theorem vT(l:Pl)(k:Int):(wC l).findIdx? (λe=>fe (ti k) e.2.1)=sH l k:=by
 unfold wC sH;rw[List.findIdx?_map]
 congr 1
 funext e;simp only[Function.comp,Nw]
theorem IC(l:Pl)(k:Int):ou (ti k) (wC l)=(l.find? λe=>e.2.1==k).map λe=>(e.1,ti e.2.1,.v (ti e.2.2)):=by
 unfold ou wC;rw[List.find?_map]
 congr 2
 funext e;simp only[Function.comp,Nw]
theorem jF{α β:Type}{f:α->β}{g:α->α}{g':β->β}(h:∀a,g' (f a)=f (g a)):∀(l:List α) (i:Nat),(l.map f).modify i g'=(l.modify i g).map f
 |[],i=>by cases i<;>simp
 |a::l,0=>by simp[h]
 |a::l,i+1=>by simp[jF h l i]
theorem nU{α β:Type}{f:α->β}:∀(l:List α) (i:Nat),(l.map f).eraseIdx i=(l.eraseIdx i).map f
 |[],i=>by simp
 |a::l,0=>by simp
 |a::l,i+1=>by simp[nU l i]
theorem Vw(l:Pl)(c:Nat)(k v:Int):D6 (ti k) (.v (ti v)) c (wC l)=wC (eC l c k v):=by
 unfold D6 eC;rw[vT];cases sH l k with
 |none=>simp[wC]
 |some i=>exact jF (f:=λe:Nat×Int×Int=>(e.1,ti e.2.1,DV.v (ti e.2.2))) (g:=λe=>(e.1,e.2.1,v)) (g':=λe=>(e.1,e.2.1,DV.v (ti v))) (λ_=>rfl) l i
theorem Lw(l:Pl)(c:Nat)(k:Int):my (ti k) c (wC l)=BA l c k:=by
 unfold my BA;rw[vT];cases sH l k<;>rfl
theorem Vx(l:Pl)(k:Int):WV (ti k) (wC l)=wC (nD l k):=by
 unfold WV nD;rw[vT];cases sH l k with
 |none=>rfl
 |some i=>exact nU l i
def ql(l:Pl):Prop:=(l.map (·.1)).Nodup
theorem vU{α:Type}{p:α->Bool}:∀{l:List α} {i:Nat},l.findIdx? p=some i->∃a,l[i]? =some a/\p a=true/\l.find? p=some a
 |[],i,h=>by simp at h
 |a::l,i,h=>by
  rw[Za4]at h;by_cases hp:p a=true
  ·simp only[hp,if_true,Zaa]at h;subst h;exact⟨a,rfl,hp,by simp[hp]⟩
  ·simp only[hp,ZaT,if_false,Zab]at h;obtain⟨j,hj,rfl⟩:=h;obtain⟨b,h1,h2,h3⟩:=vU hj;exact⟨b,by simpa using h1,h2,by simp[hp,h3]⟩
theorem Dx:∀{l:Pl} {i:Nat} {e:Nat×Int×Int},ql l->l[i]? =some e->(wC l).findIdx? (λx=>(x.1:Int)==(e.1:Int))=some i
 |[],i,e,_,h=>by simp at h
 |a::l,0,e,hk,h=>by
  simp only[ZaG,Zaa]at h;subst h;simp[wC,Za4]
 |a::l,i+1,e,hk,h=>by
  simp only[ZaX]at h;simp only[ql,Zau,ZbM]at hk;have bG:¬a.1=e.1:=λq=>hk.1 (q▸Zal.2 ⟨e,Zaq h,rfl⟩);have ih:=Dx (l:=l) hk.2 h;unfold wC at ih⊢;rw[Zau,Za4];have:¬(((a.1:Int)==(e.1:Int))=true):=by simp;omega
  simp only[this,ih];rfl
theorem ID{l:Pl}{k v:Int}{i:Nat}{e:Nat×Int×Int}(hk:ql l)(hi:sH l k=some i)(he:l[i]? =some e)(c:Nat):WZ (e.1:Int) (.v (ti v)) (wC l)=some (wC (eC l c k v)):=by
 unfold WZ;rw[Dx hk he];unfold eC;rw[hi];simp only[Za1,Zaa];exact jF (f:=λe:Nat×Int×Int=>(e.1,ti e.2.1,DV.v (ti e.2.2))) (g:=λe=>(e.1,e.2.1,v)) (g':=λe=>(e.1,e.2.1,DV.v (ti v))) (λ_=>rfl) l i
theorem IE{l:Pl}{c:Nat}{k v:Int}(hk:ql l)(hc:∀e∈l,e.1<c):ql (eC l c k v)/\∀e∈eC l c k v,e.1<BA l c k:=by
 unfold eC BA;cases h:sH l k with
 |none=>
  refine⟨?_,λe he=>?_⟩
  ·unfold ql;rw[ZaP,ZbP];refine⟨hk,by simp,λa ha b hb=>?_⟩;obtain⟨e,he,rfl⟩:=Zal.1 ha;simp at hb;have:=hc e he;omega
  ·rcases Zao.1 he with he|he
   ·have:=hc e he;simp only;omega
   ·simp at he;subst he;simp
 |some i=>
  have hm:((l.modify i λe=>(e.1,e.2.1,v)).map (·.1))=l.map (·.1):=by
   have h1:=jF (f:=λe:Nat×Int×Int=>e.1) (g:=λe=>(e.1,e.2.1,v)) (g':=id) (λ_=>rfl) l i;rw[ZcR]at h1;exact h1.symm
  refine⟨by unfold ql;rw[hm];exact hk,λe he=>?_⟩;have:e.1∈l.map (·.1):=by rw[<-hm];exact Zal.2 ⟨e,he,rfl⟩
  obtain⟨e',WG,h2⟩:=Zal.1 this;have:=hc e' WG;show e.1<c;omega
end cu
end Go.Proofs
