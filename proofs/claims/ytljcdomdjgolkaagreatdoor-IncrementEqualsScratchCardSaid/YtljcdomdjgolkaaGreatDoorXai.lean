/- Part of the proof. Conditions: none. -/
import Derived.Test.YtljcdomdjgolkaaGreatDoorXah
import Derived.Test.YtljcdomdjgolkaaGreatDoorXaf
import Derived.Test.YtljcdomdjgolkaaGreatDoorXag
set_option linter.unusedSectionVars false
set_option linter.unusedSimpArgs false
set_option linter.unusedVariables false
set_option maxHeartbeats 8000000
set_option maxRecDepth 20000
namespace Go.Proofs
namespace cC
open Go.DM
structure Ask where
 n:aH
 x:Input
 (fr od:Int)
 new:List bD
def Ask.enc(z:Ask):T:=.agg [ti z.n.aV,ti z.n.an,ti z.n.start,.sl (aQ z.n.rules),.sl (ba z.x.aj),.sl (aC z.x.insert),ti z.x.swap,ti z.fr,ti z.od,.sl (ba z.new)]
def cA(x:Input)(fr od:Nat)(new:List bD):Input:=⟨x.aj.take fr++new++x.aj.drop (fr+od),x.insert,x.swap⟩
theorem sI(l:List bD):∀r∈ba l,r.length=3:=by
 intro r hr;simp only[ba,Zal]at hr;obtain⟨c,_,rfl⟩:=hr;rfl
theorem Fw(a b:List bD):ba (a++b)=ba a++ba b:=by simp[ba]
theorem Lo(a:List bD)(n:Nat):(ba a).take n=ba (a.take n):=by simp[ba,List.map_take]
theorem Lp(a:List bD)(n:Nat):(ba a).drop n=ba (a.drop n):=by simp[ba,List.map_drop]
theorem t38(x:Input)(fr od:Nat)(new:List bD)(h1:fr<=x.aj.length)(h2:od<=x.aj.length-fr)(h3:x.aj.length<=1000000)(h4:new.length<=1000000):
  aT Tryz.prog 38 [x.enc,ti fr,ti od,.sl (ba new)] (cA x fr od new).enc:=by
 obtain⟨R,hR⟩:∃R,(cA x fr od new).aj=R:=⟨_,rfl⟩;have xC:cA x fr od new=⟨R,x.insert,x.swap⟩:=by rw[<-hR];rfl
 rw[xC];simp only[cA]at hR;obtain⟨bC,ins,sw⟩:=x;simp only at h1 h2 h3 hR;have w1:IntKind.i64.wrap ((fr:Int)+od)=(fr:Int)+od:=au (by omega);have e1:((fr:Int)+od).toNat=fr+od:=by omega
 obtain⟨A,hA⟩:∃A,bC.take fr=A:=⟨_,rfl⟩;obtain⟨B,hB⟩:∃B,bC.drop (fr+od)=B:=⟨_,rfl⟩;have hAl:A.length<=1000000:=by rw[<-hA];simp;omega
 have hBl:B.length<=1000000:=by rw[<-hB];simp;omega
 rw[hA,hB]at hR;subst hR;have GR:=sI A;have xD:=sI B;have hrn:=sI new;have aw:=dZ;refine c38.ok (by simp) (aK ?_);simp[Input.enc];refine aa.ab aw fw [1,2,3,4,8] ?_;simp[HE];refine aa.le (Le.aD (o:=[(1009,.box [.aJ,.aJ,.v (ti 0)])]) (l:=[(1,.v (ti fr)),(2,.v (ti od)),(3,.v (.sl (ba new))),(4,.v (.box [.sl (ba bC),.sl (aC ins),ti sw])),(8,.ptr 1009 0)]) (nxt':=1200) ?_ ?_ ?_ ?_) ?_;iterate 4(·simp)
 refine aa.ab aw fw [1,2,3,4,8,9] ?_;simp[DA];refine aa.le (Le.aD (o:=[(1009,.box [.aJ,.aJ,.v (ti 0)]),(1210,.box [.v (.sl (ba bC)),.v (.sl (aC ins)),.v (ti sw)])]) (l:=[(1,.v (ti fr)),(2,.v (ti od)),(3,.v (.sl (ba new))),(4,.v (.box [.sl (ba bC),.sl (aC ins),ti sw])),(8,.ptr 1009 0),(9,.ptr 1210 0)]) (nxt':=1400) ?_ ?_ ?_ ?_) ?_;iterate 4(·simp)
 refine aa.iH aw fw (rs:=fm Tl [none,none,some [],none,some [],some [],none,some [1417],none,some [],none,none,none,some [],some [1417],none,some [1210,1417]]) (.inl rfl) (by kernel_rfl) [8,9] ?_;simp[Tl,fm,ch,bm,names,w1,e1,cF,Lo,Lp,hA,hB,h1];have KD:=sI bC;refine⟨KD,⟨GR,by omega⟩,⟨hrn,by omega⟩,⟨by omega,by omega,KD⟩,⟨xD,by omega⟩, ?_⟩;refine aa.ab aw fw [8] ?_;simp[acj];refine aa.ret ?_;simp[Bh,Fw]
abbrev s38:DM.Spec:=cz (λts=>∃bC ins sw,∃fr od:Int,∃new,ts=[.agg [.sl (ba bC),.sl (aC ins),ti sw],ti fr,ti od,.sl (ba new)]/\0<=fr/\fr<=bC.length/\0<=od/\od<=bC.length-fr/\bC.length<=1000000/\new.length<=1000000)
 (fun|[x,.int _ fr,.int _ od,.sl nw]=>.agg [.sl (ba (cA (CK x) fr.toNat od.toNat (fL nw)).aj),.sl (aC (cA (CK x) fr.toNat od.toNat (fL nw)).insert),ti (cA (CK x) fr.toNat od.toNat (fL nw)).swap]|_=>.bool false) false
theorem ok38:ay Tryz.prog (aW [(38,s38)]):=by
 refine ay.cons ay.nil ?_;rintro ts ⟨bC,ins,sw,fr,od,new,rfl,h1,h2,h3,h4,h5,h6⟩;obtain⟨fr,rfl⟩:=Zad h1;obtain⟨od,rfl⟩:=Zad h3;exact⟨by simpa [Input.enc]using t38 ⟨bC,ins,sw⟩ fr od new (by simpa using h2) (by simp only;omega) h5 h6,λh=>by cases h⟩
def Yx(z:Ask):Prop:=0<=z.fr/\z.fr<=z.x.aj.length/\0<=z.od/\z.od<=z.x.aj.length-z.fr/\z.x.aj.length<=1000000/\z.new.length<=1000000
def nZ(z:Ask):Input:=cA z.x z.fr.toNat z.od.toNat z.new
theorem t14(z:Ask)(h:Yx z):aT Tryz.prog 14 [z.enc] (nZ z).enc:=by
 obtain⟨⟨nt,nn,ns,rules⟩,⟨bC,ins,sw⟩,fr,od,new⟩:=z;obtain⟨h1,h2,h3,h4,h5,h6⟩:=h;simp only at h1 h2 h3 h4 h5 h6;have aw:=ok38;refine c14.ok (by simp) (aK ?_);simp[Ask.enc];refine aa.ab aw fw [1,2] ?_;simp[HF];refine aa.le (Le.aD (o:=[(1003,.box [.aJ,.aJ,.v (ti 0)])]) (l:=[(1,.v (.box [ti nt,ti nn,ti ns,.sl (aQ rules),.sl (ba bC),.sl (aC ins),ti sw,ti fr,ti od,.sl (ba new)])),(2,.ptr 1003 0)]) (nxt':=1200) ?_ ?_ ?_ ?_) ?_;iterate 4(·simp)
 refine aa.ab aw fw [2] ?_;simp[HG,and_assoc,h1,h2,h3,h4,h5,h6];refine aa.ret ?_;simp[Bi,nZ,Input.enc]
theorem t15(z:Ask):aT Tryz.prog 15 [z.enc] (.agg [ti z.fr,ti z.od,ti (z.new.length:Int)]):=by
 obtain⟨⟨nt,nn,ns,rules⟩,⟨bC,ins,sw⟩,fr,od,new⟩:=z;have aw:=dZ;refine c15.ok (by simp) (aK ?_);simp[Ask.enc];refine aa.ab aw fw [1,2] ?_;simp[ack];refine aa.le (Le.aD (o:=[(1003,.box [.v (ti 0),.v (ti 0),.v (ti 0)])]) (l:=[(1,.v (.box [ti nt,ti nn,ti ns,.sl (aQ rules),.sl (ba bC),.sl (aC ins),ti sw,ti fr,ti od,.sl (ba new)])),(2,.ptr 1003 0)]) (nxt':=1200) ?_ ?_ ?_ ?_) ?_;iterate 4(·simp)
 refine aa.ab aw fw [2] ?_;simp[acm];refine aa.ret ?_;simp[Tm]
def kindOk(n:aH)(r:bE):Prop:=
 if r.kind=1 then r.a=0/\r.b=0 else if r.kind=2 then r.a>=0/\r.a<n.aV/\r.b=0 else if r.kind=3 then r.a>=0/\r.a<n.an/\r.b=0
 else if r.kind=4 then r.a>=0/\r.a<n.an/\r.b>=0/\r.b<n.an else False
instance(n:aH)(r:bE):Decidable (kindOk n r):=by unfold kindOk;infer_instance
def lS(n:aH)(r:bE):Prop:=¬(r.head<0\/r.head>=n.an\/r.bF<0\/r.bF>1000\/r.origin< -1)
instance(n:aH)(r:bE):Decidable (lS n r):=by unfold lS;infer_instance
def IK(n:aH):Prop:=¬(n.aV<0\/n.aV>120\/n.an<1\/n.an>1000\/n.start<0\/n.start>=n.an\/(n.rules.length:Int)>600)
instance(n:aH):Decidable (IK n):=by unfold IK;infer_instance
def eO(n:aH):Prop:=IK n/\∀i,i<n.rules.length->lS n (n.rules.getD i default)/\kindOk n (n.rules.getD i default)
instance(n:aH):Decidable (eO n):=by unfold eO;infer_instance
theorem eO.ok{n:aH}(h:eO n):nF n:=by
 obtain⟨h1,h2⟩:=h;unfold IK at h1;refine⟨by omega,by omega,by omega,λr hr=>?_⟩;obtain⟨i,hi,rfl⟩:=ZaY hr;obtain⟨h3,h4⟩:=h2 i hi;rw[show n.rules.getD i default=n.rules[i]by simp[List.getD,hi]]at h3 h4;unfold lS at h3;unfold kindOk at h4;unfold ur;refine⟨by omega,by omega,by omega,by omega, ?_⟩;split at h4
 ·exact .inl (by assumption)
 ·split at h4
  ·exact .inr (.inl ⟨by assumption,by omega,by omega⟩)
  ·split at h4
   ·exact .inr (.inr (.inl ⟨by assumption,by omega,by omega⟩))
   ·split at h4
    ·exact .inr (.inr (.inr ⟨by assumption,by omega,by omega,by omega,by omega⟩))
    ·exact h4.elim
theorem t20(n:aH)(hl:n.rules.length<=9223372036854775807):aT Tryz.prog 20 [n.enc] (.bool (decide (eO n))):=by
 obtain⟨nt,nn,ns,rules⟩:=n;obtain⟨v,hv⟩:∃v,decide (eO ⟨nt,nn,ns,rules⟩)=v:=⟨_,rfl⟩;rw[hv];simp only at hl;have c6:eO ⟨nt,nn,ns,rules⟩↔IK ⟨nt,nn,ns,rules⟩/\∀i,i<rules.length->lS ⟨nt,nn,ns,rules⟩ (rules.getD i default)/\kindOk ⟨nt,nn,ns,rules⟩ (rules.getD i default):=Iff.rfl;have bad:¬eO ⟨nt,nn,ns,rules⟩->v=false:=λh=>by rw[<-hv];simp[h]
 have aw:=dZ;refine c20.ok (by simp) (aK ?_);simp[aH.enc];refine aa.ab aw fw [1] ?_;simp[aa3];refine aa.le (Le.aD (o:=[]) (l:=[(1,.v (.box [ti nt,ti nn,ti ns,.sl (aQ rules)]))]) (nxt':=1200) ?_ ?_ ?_ ?_) ?_;iterate 4(·simp)
 refine aa.seq ?_;obtain⟨c1,aX⟩:∃c1:Bool,decide (nt<0\/nt>120\/nn<1\/nn>1000\/ns<0\/ns>=nn\/(rules.length:Int)>600)=c1:=⟨_,rfl⟩;refine aa.b7 aw fw [(1,.v (.box [ti nt,ti nn,ti ns,.sl (aQ rules)])),(41,.v (.bool c1))] ?_ ?_
 ·by_cases q1:nt<0
  ·have:c1=true:=by rw[<-aX];simp[q1]
   simp[vI,q1,this]
  ·skip
   by_cases q2:nt>120
   ·have:c1=true:=by rw[<-aX];simp[q2]
    simp[vI,q1,q2,this]
   ·skip
    by_cases q3:nn<1
    ·have:c1=true:=by rw[<-aX];simp[q3]
     simp[vI,q1,q2,q3,this]
    ·skip
     by_cases q4:nn>1000
     ·have:c1=true:=by rw[<-aX];simp[q4]
      simp[vI,q1,q2,q3,q4,this]
     ·skip
      by_cases q5:ns<0
      ·have:c1=true:=by rw[<-aX];simp[q5]
       simp[vI,q1,q2,q3,q4,q5,this]
      ·skip
       by_cases q6:ns>=nn
       ·have:c1=true:=by rw[<-aX];simp[q6]
        simp[vI,q1,q2,q3,q4,q5,q6,this]
       ·skip
        by_cases q7:(rules.length:Int)>600
        ·have:c1=true:=by rw[<-aX];simp[q7]
         simp[vI,q1,q2,q3,q4,q5,q6,q7,this]
        ·skip
         have:c1=false:=by rw[<-aX];simp[q1,q2,q3,q4,q5,q6,q7]
         simp[vI,q1,q2,q3,q4,q5,q6,q7,this]
 refine aa.cond rfl (λh1=>?_) (λh1=>?_)
 ·rw[h1]at aX;have aX:=of_decide_eq_true aX;refine aa.ab aw fw [2] ?_;simp[aa4];refine aa.ret ?_;rw[bad λh=>(c6.1 h).1 aX];simp[pN]
 ·rw[h1]at aX;have aX:=of_decide_eq_false aX;refine aa.skip ?_;simp;refine aa.seq ?_;refine aa.ab aw fw [1,3] ?_;simp[aa5];refine aa.block ?_;refine aa.loop (λy:Nat=>⟨DM.look [(1,.v (.box [ti nt,ti nn,ti ns,.sl (aQ rules)])),(3,.v (ti y))],cE [],2000,1000,[]⟩)
   (λy=>y<=rules.length/\∀i,i<y->lS ⟨nt,nn,ns,rules⟩ (rules.getD i default)/\kindOk ⟨nt,nn,ns,rules⟩ (rules.getD i default)) (λy=>rules.length-y) 0 (Le.aD (o:=[]) ?_ ?_ ?_ ?_) (by simp) (λy hy=>?_)
  iterate 4(·simp)
  obtain⟨jV,fg⟩:=hy;refine aa.seq ?_;refine aa.ab aw fw [1,3,46] ?_;simp[aa6];refine aa.cond rfl (λbK=>?_) (λbK=>?_)
  ·have bK:y<rules.length:=by simpa using bK
   refine aa.skip ?_;simp;refine aa.seq ?_;refine aa.block ?_;have rr:=fW bK;obtain⟨⟨rk,rh,ra,rb,rp,rg⟩,hr⟩:∃r,rules.getD y default=r:=⟨_,rfl⟩;rw[hr]at rr;refine aa.ab aw fw [1,3,4] ?_;simp[aa7,bK,rr,bE.enc];refine aa.le (Le.aD (o:=[]) (l:=[(1,.v (.box [ti nt,ti nn,ti ns,.sl (aQ rules)])),(3,.v (ti y)),(4,.v (.box [ti rk,ti rh,ti ra,ti rb,ti rp,ti rg]))]) (nxt':=2400) ?_ ?_ ?_ ?_) ?_;iterate 4(·simp)
   refine aa.seq ?_;obtain⟨c2,dU⟩:∃c2:Bool,decide (rh<0\/rh>=nn\/rp<0\/rp>1000\/rg< -1)=c2:=⟨_,rfl⟩;refine aa.b7 aw fw [(1,.v (.box [ti nt,ti nn,ti ns,.sl (aQ rules)])),(3,.v (ti y)),(4,.v (.box [ti rk,ti rh,ti ra,ti rb,ti rp,ti rg])),(78,.v (.bool c2))] ?_ ?_
   ·by_cases q1:rh<0
    ·have:c2=true:=by rw[<-dU];simp[q1]
     simp[Bb,q1,this]
    ·skip
     by_cases q2:rh>=nn
     ·have:c2=true:=by rw[<-dU];simp[q2]
      simp[Bb,q1,q2,this]
     ·skip
      by_cases q3:rp<0
      ·have:c2=true:=by rw[<-dU];simp[q3]
       simp[Bb,q1,q2,q3,this]
      ·skip
       by_cases q4:rp>1000
       ·have:c2=true:=by rw[<-dU];simp[q4]
        simp[Bb,q1,q2,q3,q4,this]
       ·skip
        by_cases q5:rg< -1
        ·have:c2=true:=by rw[<-dU];simp[q5]
         simp[Bb,q1,q2,q3,q4,q5,this]
        ·skip
         have:c2=false:=by rw[<-dU];simp[q1,q2,q3,q4,q5]
         simp[Bb,q1,q2,q3,q4,q5,this]
   refine aa.cond rfl (λh2=>?_) (λh2=>?_)
   ·rw[h2]at dU;have dU:=of_decide_eq_true dU;refine aa.ab aw fw [2] ?_;simp[aa8];refine aa.ret ?_;rw[bad λh=>((c6.1 h).2 y bK).1 (by rw[hr];exact dU)];simp[pN]
   ·rw[h2]at dU;have dU:lS ⟨nt,nn,ns,rules⟩ ⟨rk,rh,ra,rb,rp,rg⟩:=of_decide_eq_false dU;refine aa.skip ?_;simp;obtain⟨k1,qz⟩:∃k1:Bool,decide (kindOk ⟨nt,nn,ns,rules⟩ ⟨rk,rh,ra,rb,rp,rg⟩)=k1:=⟨_,rfl⟩;have wI:=qz;have qz:k1=true↔kindOk ⟨nt,nn,ns,rules⟩ ⟨rk,rh,ra,rb,rp,rg⟩:=by rw[<-wI,decide_eq_true_iff]
    simp only[kindOk]at qz;refine aa.ab aw fw [1,3,4,5] ?_;simp[aa9];refine aa.seq ?_;refine aa.ab aw fw [1,3,4,5,80] ?_;simp[aba];refine aa.block ?_;refine aa.ab aw fw [1,3,4,5,80,81] ?_;simp[Sp];refine aa.cond rfl (λg1=>?_) (λg1=>?_)
    ·have g1:rk=1:=by simpa using g1
     rw[if_pos g1]at qz;have rF:decide (ra=0/\rb=0)=k1:=by cases k1<;>simp at qz⊢<;>first|exact qz|omega
     refine aa.E0 aw fw [(1,.v (.box [ti nt,ti nn,ti ns,.sl (aQ rules)])),(3,.v (ti y)),(5,.v (.bool k1))] ?_ ?_
     ·by_cases q1:ra=0
      ·skip
       by_cases q2:rb=0
       ·skip
        have:k1=true:=by rw[<-rF];simp[q1,q2]
        simp[Fc,q1,q2,this]
       ·have:k1=false:=by rw[<-rF];simp[q2]
        simp[Fc,q1,q2,this]
      ·have:k1=false:=by rw[<-rF];simp[q1]
       simp[Fc,q1,this]
     refine aa.ab aw fw [1,3,150] ?_;simp[xq];refine aa.cond rfl (λh5=>?_) (λh5=>?_)
     ·skip
      refine aa.ab aw fw [2] ?_;simp[xu];refine aa.ret ?_;rw[bad λh=>by
       have h6:=((c6.1 h).2 y bK).2;rw[hr]at h6;rw[decide_eq_true h6]at wI
       simp_all]
      simp[pN]
     ·skip
      refine aa.skip ?_;simp;have qz:kindOk ⟨nt,nn,ns,rules⟩ ⟨rk,rh,ra,rb,rp,rg⟩:=of_decide_eq_true (by rw[wI];simp_all);refine aa.dc aw fw [1,3] ?_;simp[xw];rw[au (x:=(y:Int)+1) (by omega)];refine⟨y+1,Le.aD (o:=[]) ?_ ?_ ?_ ?_,⟨by omega,λi hi=>?_⟩,by omega⟩;iterate 4(·simp)
      ·by_cases e:i=y
       ·subst e;show lS _ (rules.getD i default)/\kindOk _ (rules.getD i default);rw[hr];exact⟨dU,qz⟩
       ·exact fg i (by omega)
    ·have g1:¬rk=1:=by simpa using g1
     rw[if_neg g1]at qz;refine aa.ab aw fw [1,3,4,5,80,91] ?_;simp[Sq];refine aa.cond rfl (λg2=>?_) (λg2=>?_)
     ·have g2:rk=2:=by simpa using g2
      rw[if_pos g2]at qz;have rF:decide (ra>=0/\ra<nt/\rb=0)=k1:=by cases k1<;>simp at qz⊢<;>first|exact qz|omega
      refine aa.E0 aw fw [(1,.v (.box [ti nt,ti nn,ti ns,.sl (aQ rules)])),(3,.v (ti y)),(5,.v (.bool k1))] ?_ ?_
      ·by_cases q1:ra>=0
       ·skip
        by_cases q2:ra<nt
        ·skip
         by_cases q3:rb=0
         ·skip
          have:k1=true:=by rw[<-rF];simp[q1,q2,q3]
          simp[Bc,q1,q2,q3,this]
         ·have:k1=false:=by rw[<-rF];simp[q3]
          simp[Bc,q1,q2,q3,this]
        ·have:k1=false:=by rw[<-rF];simp[q2]
         simp[Bc,q1,q2,this]
       ·have:k1=false:=by rw[<-rF];simp[q1]
        simp[Bc,q1,this]
      refine aa.ab aw fw [1,3,150] ?_;simp[xq];refine aa.cond rfl (λh5=>?_) (λh5=>?_)
      ·skip
       refine aa.ab aw fw [2] ?_;simp[xu];refine aa.ret ?_;rw[bad λh=>by
        have h6:=((c6.1 h).2 y bK).2;rw[hr]at h6;rw[decide_eq_true h6]at wI
        simp_all]
       simp[pN]
      ·skip
       refine aa.skip ?_;simp;have qz:kindOk ⟨nt,nn,ns,rules⟩ ⟨rk,rh,ra,rb,rp,rg⟩:=of_decide_eq_true (by rw[wI];simp_all);refine aa.dc aw fw [1,3] ?_;simp[xw];rw[au (x:=(y:Int)+1) (by omega)];refine⟨y+1,Le.aD (o:=[]) ?_ ?_ ?_ ?_,⟨by omega,λi hi=>?_⟩,by omega⟩;iterate 4(·simp)
       ·by_cases e:i=y
        ·subst e;show lS _ (rules.getD i default)/\kindOk _ (rules.getD i default);rw[hr];exact⟨dU,qz⟩
        ·exact fg i (by omega)
     ·have g2:¬rk=2:=by simpa using g2
      rw[if_neg g2]at qz;refine aa.ab aw fw [1,3,4,5,80,108] ?_;simp[Sr];refine aa.cond rfl (λg3=>?_) (λg3=>?_)
      ·have g3:rk=3:=by simpa using g3
       rw[if_pos g3]at qz;have rF:decide (ra>=0/\ra<nn/\rb=0)=k1:=by cases k1<;>simp at qz⊢<;>first|exact qz|omega
       refine aa.E0 aw fw [(1,.v (.box [ti nt,ti nn,ti ns,.sl (aQ rules)])),(3,.v (ti y)),(5,.v (.bool k1))] ?_ ?_
       ·by_cases q1:ra>=0
        ·skip
         by_cases q2:ra<nn
         ·skip
          by_cases q3:rb=0
          ·skip
           have:k1=true:=by rw[<-rF];simp[q1,q2,q3]
           simp[Bd,q1,q2,q3,this]
          ·have:k1=false:=by rw[<-rF];simp[q3]
           simp[Bd,q1,q2,q3,this]
         ·have:k1=false:=by rw[<-rF];simp[q2]
          simp[Bd,q1,q2,this]
        ·have:k1=false:=by rw[<-rF];simp[q1]
         simp[Bd,q1,this]
       refine aa.ab aw fw [1,3,150] ?_;simp[xq];refine aa.cond rfl (λh5=>?_) (λh5=>?_)
       ·skip
        refine aa.ab aw fw [2] ?_;simp[xu];refine aa.ret ?_;rw[bad λh=>by
         have h6:=((c6.1 h).2 y bK).2;rw[hr]at h6;rw[decide_eq_true h6]at wI
         simp_all]
        simp[pN]
       ·skip
        refine aa.skip ?_;simp;have qz:kindOk ⟨nt,nn,ns,rules⟩ ⟨rk,rh,ra,rb,rp,rg⟩:=of_decide_eq_true (by rw[wI];simp_all);refine aa.dc aw fw [1,3] ?_;simp[xw];rw[au (x:=(y:Int)+1) (by omega)];refine⟨y+1,Le.aD (o:=[]) ?_ ?_ ?_ ?_,⟨by omega,λi hi=>?_⟩,by omega⟩;iterate 4(·simp)
        ·by_cases e:i=y
         ·subst e;show lS _ (rules.getD i default)/\kindOk _ (rules.getD i default);rw[hr];exact⟨dU,qz⟩
         ·exact fg i (by omega)
      ·have g3:¬rk=3:=by simpa using g3
       rw[if_neg g3]at qz;refine aa.ab aw fw [1,3,4,5,125] ?_;simp[Ss];refine aa.cond rfl (λg4=>?_) (λg4=>?_)
       ·have g4:rk=4:=by simpa using g4
        rw[if_pos g4]at qz;have rF:decide (ra>=0/\ra<nn/\rb>=0/\rb<nn)=k1:=by cases k1<;>simp at qz⊢<;>first|exact qz|omega
        refine aa.E0 aw fw [(1,.v (.box [ti nt,ti nn,ti ns,.sl (aQ rules)])),(3,.v (ti y)),(5,.v (.bool k1))] ?_ ?_
        ·by_cases q1:ra>=0
         ·skip
          by_cases q2:ra<nn
          ·skip
           by_cases q3:rb>=0
           ·skip
            by_cases q4:rb<nn
            ·skip
             have:k1=true:=by rw[<-rF];simp[q1,q2,q3,q4]
             simp[xp,q1,q2,q3,q4,this]
            ·have:k1=false:=by rw[<-rF];simp[q4]
             simp[xp,q1,q2,q3,q4,this]
           ·have:k1=false:=by rw[<-rF];simp[q3]
            simp[xp,q1,q2,q3,this]
          ·have:k1=false:=by rw[<-rF];simp[q2]
           simp[xp,q1,q2,this]
         ·have:k1=false:=by rw[<-rF];simp[q1]
          simp[xp,q1,this]
        refine aa.ab aw fw [1,3,150] ?_;simp[xq];refine aa.cond rfl (λh5=>?_) (λh5=>?_)
        ·skip
         refine aa.ab aw fw [2] ?_;simp[xu];refine aa.ret ?_;rw[bad λh=>by
          have h6:=((c6.1 h).2 y bK).2;rw[hr]at h6;rw[decide_eq_true h6]at wI
          simp_all]
         simp[pN]
        ·skip
         refine aa.skip ?_;simp;have qz:kindOk ⟨nt,nn,ns,rules⟩ ⟨rk,rh,ra,rb,rp,rg⟩:=of_decide_eq_true (by rw[wI];simp_all);refine aa.dc aw fw [1,3] ?_;simp[xw];rw[au (x:=(y:Int)+1) (by omega)];refine⟨y+1,Le.aD (o:=[]) ?_ ?_ ?_ ?_,⟨by omega,λi hi=>?_⟩,by omega⟩;iterate 4(·simp)
         ·by_cases e:i=y
          ·subst e;show lS _ (rules.getD i default)/\kindOk _ (rules.getD i default);rw[hr];exact⟨dU,qz⟩
          ·exact fg i (by omega)
       ·have g4:¬rk=4:=by simpa using g4
        rw[if_neg g4]at qz;have rF:k1=false:=by cases k1<;>simp at qz⊢
        rw[rF]at wI;refine aa.skip ?_;simp;refine aa.ab aw fw [1,3,150] ?_;simp[xq];refine aa.cond rfl (λh5=>?_) (λh5=>?_)
        ·skip
         refine aa.ab aw fw [2] ?_;simp[xu];refine aa.ret ?_;rw[bad λh=>by
          have h6:=((c6.1 h).2 y bK).2;rw[hr]at h6;rw[decide_eq_true h6]at wI
          simp_all]
         simp[pN]
        ·skip
         refine aa.skip ?_;simp;have qz:kindOk ⟨nt,nn,ns,rules⟩ ⟨rk,rh,ra,rb,rp,rg⟩:=of_decide_eq_true (by rw[wI];simp_all);refine aa.dc aw fw [1,3] ?_;simp[xw];rw[au (x:=(y:Int)+1) (by omega)];refine⟨y+1,Le.aD (o:=[]) ?_ ?_ ?_ ?_,⟨by omega,λi hi=>?_⟩,by omega⟩;iterate 4(·simp)
         ·by_cases e:i=y
          ·subst e;show lS _ (rules.getD i default)/\kindOk _ (rules.getD i default);rw[hr];exact⟨dU,qz⟩
          ·exact fg i (by omega)
  ·have XD:y=rules.length:=by simp at bK;omega
   subst XD;refine aa.exit ?_;simp;refine aa.ab aw fw [2] ?_;simp[St];refine aa.ret ?_;have:v=true:=by rw[<-hv];exact decide_eq_true (c6.2 ⟨aX,fg⟩)
   rw[this];simp[pN]
structure dq where
 head:Int
 tE:List Int
 (cost l0 l1:Int)
 deriving DecidableEq,Inhabited
def dq.enc(e:dq):List T:=[ti e.head,.sl (aC e.tE),ti e.cost,ti e.l0,ti e.l1]
def cw(l:List dq):List (List T):=l.map dq.enc
def U4:List T->dq
 |[a,.sl b,c,d,e]=>⟨cZ a,fu b,cZ c,cZ d,cZ e⟩
 |_=>default
def BL(l:List (List T)):List dq:=l.map U4
@[simp] theorem PD(r:dq):U4 r.enc=r:=by simp[U4,dq.enc,cZ]
@[simp] theorem decHEs_enc(l:List dq):BL (cw l)=l:=fD PD l
@[simp] theorem aev(l:List dq):(cw l).length=l.length:=by simp[cw]
@[simp] theorem aew{a b:List dq}:cw a=cw b↔a=b:=⟨λh=>by have:=congrArg BL h;simpa using this,λh=>by rw[h]⟩
theorem vZ{l:List dq}{y:Nat}(h:y<l.length):DM.rowAt (cw l) y=(l.getD y default).enc:=by simp[DM.rowAt,cw,h]
def ka(r:bE):List Int:=if r.kind=3 then [r.a]else if r.kind=4 then [r.a,r.b]else []
theorem t93(r:bE):aT Tryz.prog 93 [.agg r.enc] (.sl (aC (ka r))):=by
 obtain⟨rk,rh,ra,rb,rp,rg⟩:=r;obtain⟨R,hR⟩:∃R,ka ⟨rk,rh,ra,rb,rp,rg⟩=R:=⟨_,rfl⟩;rw[hR];simp only[ka]at hR;have aw:=dZ;refine c93.ok (by simp) (aK ?_);simp[bE.enc];refine aa.ab aw fw [1] ?_;simp[aax];refine aa.le (Le.aD (o:=[]) (l:=[(1,.v (.box [ti rk,ti rh,ti ra,ti rb,ti rp,ti rg]))]) (nxt':=1200) ?_ ?_ ?_ ?_) ?_;iterate 4(·simp)
 refine aa.seq ?_;refine aa.ab aw fw [1,4] ?_;simp[aay];refine aa.block ?_;refine aa.ab aw fw [1,4,5] ?_;simp[aaz];refine aa.cond rfl (λh1=>?_) (λh1=>?_)
 ·have h1:rk=3:=by simpa using h1
  rw[if_pos h1]at hR;subst hR;refine aa.ab aw fw [2] ?_;simp[aaA,chunk];refine aa.ret ?_;simp[E9,aC]
 ·have h1:¬rk=3:=by simpa using h1
  rw[if_neg h1]at hR;refine aa.ab aw fw [1,10] ?_;simp[aaB];refine aa.cond rfl (λh2=>?_) (λh2=>?_)
  ·have h2:rk=4:=by simpa using h2
   rw[if_pos h2]at hR;subst hR;refine aa.ab aw fw [2] ?_;simp[aaC,chunk];refine aa.ret ?_;simp[E9,aC]
  ·have h2:¬rk=4:=by simpa using h2
   rw[if_neg h2]at hR;subst hR;refine aa.skip ?_;simp;refine aa.ab aw fw [2] ?_;simp[aaD];refine aa.ret ?_;simp[E9,aC]
def fE(v:List br)(ts:List Int):List br:=ts.map λt=>v.getD t.toNat default
theorem t91(e:dq)(v:List br)(h:∀t∈e.tE,0<=t/\t<v.length)(hl:e.tE.length<=1000000):lQ Tryz.prog 91 [.agg e.enc,.sl (bJ v)] 55 2 (bJ (fE v e.tE)):=by
 obtain⟨eh,ts,ec,e0,e1⟩:=e;simp only at h hl;have aw:=dZ;refine c91.okF (by simp) (aK ?_);simp[dq.enc];refine aa.ab aw fw [1,2] ?_;simp[aag];refine aa.le (Le.aD (o:=[]) (l:=[(1,.v (.sl (bJ v))),(2,.v (.box [ti eh,.sl (aC ts),ti ec,ti e0,ti e1]))]) (nxt':=1200) ?_ ?_ ?_ ?_) ?_;iterate 4(·simp)
 refine aa.ab aw fw [1,2,5] ?_;simp[aah];refine aa.le (Le.aD (o:=[]) (l:=[(1,.v (.sl (bJ v))),(2,.v (.box [ti eh,.sl (aC ts),ti ec,ti e0,ti e1])),(5,.aJ)]) (nxt':=1400) ?_ ?_ ?_ ?_) ?_;iterate 4(·simp)
 refine aa.le (Le.ml (k:=5) 55 (sz:=2) (by omega) (by simp)) ?_;rw[iw];refine aa.seq ?_;refine aa.ab aw fw [1,2,5,6] ?_;simp[aai];refine aa.block ?_;refine aa.loop (λy:Nat=>⟨DM.look [(1,.v (.sl (bJ v))),(2,.v (.box [ti eh,.sl (aC ts),ti ec,ti e0,ti e1])),(5,.bd 1400 0),(6,.v (ti y))],cE [(1400,.arr 0 55 2 (bJ (fE v (ts.take y))))],1600,1000,[]⟩)
  (λy=>y<=ts.length) (λy=>ts.length-y) 0 (Le.aD ?_ ?_ ?_ ?_) (by simp) (λy hy=>?_)
 ·simp
 ·simp
 ·simp[fE]
 ·simp
 refine aa.seq ?_;refine aa.ab aw fw [1,2,5,6,11] ?_;simp[aaj];refine aa.cond rfl (λbK=>?_) (λbK=>?_)
 ·have bK:y<ts.length:=by simpa using bK
  refine aa.skip ?_;simp;refine aa.seq ?_;refine aa.block ?_;have rt:=cR bK;obtain⟨t,ht⟩:∃t,ts.getD y default=t:=⟨_,rfl⟩;rw[ht]at rt;obtain⟨q1,q2⟩:=h t (by rw[<-ht];exact bw bK);obtain⟨t,rfl⟩:=Zad q1;have q2:t<v.length:=by omega
  have rv:=dP q2;obtain⟨w,hw⟩:∃w,v.getD t default=w:=⟨_,rfl⟩;rw[hw]at rv;have hS:bJ (fE v (ts.take (y+1)))=bJ (fE v (ts.take y))++[[ti w.cost,ti w.size]]:=by
   rw[cG bK,ht];simp only[fE,ZaQ,Zau,ZbY,Zai,hw,bJ]
  have hTl:(fE v (ts.take y)).length<=1000000:=by simp[fE];omega
  refine aa.dc aw fw [1,2,5,6] ?_;simp[aak,bK,rt,q2,rv,cF,chunk];repeat (refine⟨by omega, ?_⟩)
  refine aa.dc aw fw [1,2,5,6] ?_;simp[aal];rw[au (x:=(y:Int)+1) (by omega)];refine⟨y+1,Le.aD ?_ ?_ ?_ ?_,by omega,by omega⟩
  ·simp
  ·simp
  ·simp[hS]
  ·simp
 ·have fg:y=ts.length:=by simp at bK;omega
  subst fg;rw[Zbd];refine aa.exit ?_;simp;refine aa.ab aw fw [4] ?_;simp[aam];refine aa.ret ?_;exact .inr ⟨1400,0,by simp,by simp⟩
def FF(ins:List Int)(i:Nat):Prop:=¬(ins.getD i default<1\/ins.getD i default>60000)
instance(ins:List Int)(i:Nat):Decidable (FF ins i):=by unfold FF;infer_instance
def eV(n:aH)(ins:List Int):Prop:=(ins.length:Int)=n.aV/\∀i,i<ins.length->FF ins i
instance(n:aH)(ins:List Int):Decidable (eV n ins):=by unfold eV;infer_instance
theorem t44(n:aH)(ins:List Int)(hl:ins.length<=9223372036854775807):aT Tryz.prog 44 [n.enc,.sl (aC ins)] (.bool (decide (eV n ins))):=by
 obtain⟨nt,nn,ns,rules⟩:=n;obtain⟨v,hv⟩:∃v,decide (eV ⟨nt,nn,ns,rules⟩ ins)=v:=⟨_,rfl⟩;rw[hv];have c6:eV ⟨nt,nn,ns,rules⟩ ins↔(ins.length:Int)=nt/\∀i,i<ins.length->FF ins i:=Iff.rfl;have bad:¬eV ⟨nt,nn,ns,rules⟩ ins->v=false:=λh=>by rw[<-hv];simp[h]
 have aw:=dZ;refine c44.ok (by simp) (aK ?_);simp[aH.enc];refine aa.ab aw fw [1,2] ?_;simp[aaM];refine aa.le (Le.aD (o:=[]) (l:=[(1,.v (.sl (aC ins))),(2,.v (.box [ti nt,ti nn,ti ns,.sl (aQ rules)]))]) (nxt':=1200) ?_ ?_ ?_ ?_) ?_;iterate 4(·simp)
 refine aa.seq ?_;refine aa.ab aw fw [1,10] ?_;simp[aaN];refine aa.cond rfl (λh1=>?_) (λh1=>?_)
 ·have h1:¬(ins.length:Int)=nt:=by simpa using h1
  refine aa.ab aw fw [4] ?_;simp[aaO];refine aa.ret ?_;rw[bad λh=>h1 (c6.1 h).1];simp[Fa]
 ·have h1:(ins.length:Int)=nt:=by simpa using h1
  refine aa.skip ?_;simp;refine aa.seq ?_;refine aa.ab aw fw [1,5] ?_;simp[aaP];refine aa.block ?_;refine aa.loop (λy:Nat=>⟨DM.look [(1,.v (.sl (aC ins))),(5,.v (ti y))],cE [],2000,1000,[]⟩)
   (λy=>y<=ins.length/\∀i,i<y->FF ins i) (λy=>ins.length-y) 0 (Le.aD (o:=[]) ?_ ?_ ?_ ?_) (by simp) (λy hy=>?_)
  iterate 4(·simp)
  obtain⟨jV,fg⟩:=hy;refine aa.seq ?_;refine aa.ab aw fw [1,5,14] ?_;simp[aaQ];refine aa.cond rfl (λbK=>?_) (λbK=>?_)
  ·have bK:y<ins.length:=by simpa using bK
   refine aa.skip ?_;simp;refine aa.seq ?_;refine aa.block ?_;have rr:=cR bK;obtain⟨x,hx⟩:∃x,ins.getD y default=x:=⟨_,rfl⟩;rw[hx]at rr;obtain⟨c2,dU⟩:∃c2:Bool,decide (x<1\/x>60000)=c2:=⟨_,rfl⟩;refine aa.b7 aw fw [(1,.v (.sl (aC ins))),(5,.v (ti y)),(28,.v (.bool c2))] ?_ ?_
   ·by_cases q1:x<1
    ·have:c2=true:=by rw[<-dU];simp[q1]
     simp[Nu,q1,this,bK,rr]
    ·skip
     by_cases q2:x>60000
     ·have:c2=true:=by rw[<-dU];simp[q2]
      simp[Nu,q1,q2,this,bK,rr]
     ·skip
      have:c2=false:=by rw[<-dU];simp[q1,q2]
      simp[Nu,q1,q2,this,bK,rr]
   refine aa.cond rfl (λh2=>?_) (λh2=>?_)
   ·rw[h2]at dU;have dU:=of_decide_eq_true dU;refine aa.ab aw fw [4] ?_;simp[aaR];refine aa.ret ?_;rw[bad λh=>by have:=(c6.1 h).2 y bK;unfold FF at this;rw[hx]at this;exact this dU];simp[Fa]
   ·rw[h2]at dU;have dU:=of_decide_eq_false dU;refine aa.skip ?_;simp;refine aa.dc aw fw [1,5] ?_;simp[aaS];rw[au (x:=(y:Int)+1) (by omega)];refine⟨y+1,Le.aD (o:=[]) ?_ ?_ ?_ ?_,⟨by omega,λi hi=>?_⟩,by omega⟩;iterate 4(·simp)
    ·by_cases e:i=y
     ·subst e;unfold FF;rw[hx];exact dU
     ·exact fg i (by omega)
  ·have XD:y=ins.length:=by simp at bK;omega
   subst XD;refine aa.exit ?_;simp;refine aa.ab aw fw [4] ?_;simp[aaT];refine aa.ret ?_;have:v=true:=by rw[<-hv];exact decide_eq_true (c6.2 ⟨h1,fg⟩)
   rw[this];simp[Fa]
def jG(ins:List Int)(r:bE):dq:=⟨r.head,ka r,if r.kind=2 then r.bF+ins.getD r.a.toNat default else r.bF,0,0⟩
def uu(n:aH)(ins:List Int):List dq:=n.rules.map (jG ins)
abbrev s93:DM.Spec:=cz (λts=>∃a b c d e f,ts=[.agg [ti a,ti b,ti c,ti d,ti e,ti f]]) (fun|[.agg r]=>.sl (aC (ka (pQ r)))|_=>.bool false) false
theorem ok93:ay Tryz.prog (aW [(93,s93)]):=by
 refine ay.cons ay.nil ?_;rintro ts ⟨a,b,c,d,e,f,rfl⟩;exact⟨by simpa [bE.enc,pQ,cZ]using t93 ⟨a,b,c,d,e,f⟩,λh=>by cases h⟩
theorem Lx(r:bE):(ka r).length<=2:=by unfold ka;split<;>(try split)<;>simp
theorem t67(n:aH)(ins:List Int)(hn:nF n)(hp:eV n ins):aT Tryz.prog 67 [n.enc,.sl (aC ins)] (.agg [ti n.an,.sl (cw (uu n ins))]):=by
 obtain⟨nt,nn,ns,rules⟩:=n;obtain⟨n1,n2,n3,n4⟩:=hn;obtain⟨p1,p2⟩:=hp;simp only[uu]at n1 n2 n3 n4 p1 p2⊢;have aw:=ok93;refine c67.ok (by simp) (aK ?_);simp[aH.enc];refine aa.ab aw fw [1,2,4] ?_;simp[aaE];refine aa.le (Le.aD (o:=[(1005,.box [.v (ti 0),.aJ])]) (l:=[(1,.v (.sl (aC ins))),(2,.v (.box [ti nt,ti nn,ti ns,.sl (aQ rules)])),(4,.ptr 1005 0)]) (nxt':=1200) ?_ ?_ ?_ ?_) ?_;iterate 4(·simp)
 refine aa.ab aw fw [1,2,4,5] ?_;simp[aaF];refine aa.le (Le.aD (o:=[(1005,.box [.v (ti 0),.aJ])]) (l:=[(1,.v (.sl (aC ins))),(2,.v (.box [ti nt,ti nn,ti ns,.sl (aQ rules)])),(4,.ptr 1005 0),(5,.aJ)]) (nxt':=1400) ?_ ?_ ?_ ?_) ?_;iterate 4(·simp)
 refine aa.le (Le.ml (k:=5) 156 (sz:=5) (by omega) (by simp)) ?_;rw[iw];refine aa.seq ?_;refine aa.ab aw fw [1,2,4,5,6] ?_;simp[aaG];refine aa.block ?_;refine aa.loop (λy:Nat=>⟨DM.look [(1,.v (.sl (aC ins))),(2,.v (.box [ti nt,ti nn,ti ns,.sl (aQ rules)])),(4,.ptr 1005 0),(5,.bd 1400 0),(6,.v (ti y))],cE [(1005,.box [.v (ti 0),.aJ]),(1400,.arr 0 156 5 (cw ((rules.take y).map (jG ins))))],1600,1000,[]⟩)
  (λy=>y<=rules.length) (λy=>rules.length-y) 0 (Le.aD ?_ ?_ ?_ ?_) (by simp) (λy hy=>?_)
 ·simp
 ·simp
 ·simp[cw]
 ·simp
 refine aa.seq ?_;refine aa.ab aw fw [1,2,4,5,6,13] ?_;simp[aaH];refine aa.cond rfl (λbK=>?_) (λbK=>?_)
 ·have bK:y<rules.length:=by simpa using bK
  refine aa.skip ?_;simp;refine aa.seq ?_;refine aa.block ?_;have rr:=fW bK;obtain⟨⟨rk,rh,ra,rb,rp,rg⟩,hr⟩:∃r,rules.getD y default=r:=⟨_,rfl⟩;rw[hr]at rr;have jW:=n4 ⟨rk,rh,ra,rb,rp,rg⟩ (by rw[<-hr];exact bw bK);obtain⟨q1,q2,q3,q4,q5⟩:=jW;simp only at q1 q2 q3 q4 q5;refine aa.ab aw fw [1,2,4,5,6,7] ?_;simp[aaI,bK,rr,bE.enc];refine aa.le (Le.aD (o:=[(1005,.box [.v (ti 0),.aJ]),(1400,.arr 0 156 5 (cw ((rules.take y).map (jG ins))))]) (l:=[(1,.v (.sl (aC ins))),(2,.v (.box [ti nt,ti nn,ti ns,.sl (aQ rules)])),(4,.ptr 1005 0),(5,.bd 1400 0),(6,.v (ti y)),(7,.v (.box [ti rk,ti rh,ti ra,ti rb,ti rp,ti rg]))]) (nxt':=2400) ?_ ?_ ?_ ?_) ?_;iterate 4(·simp)
  refine aa.ab aw fw [1,2,4,5,6,7,8] ?_;simp[aaJ];refine aa.seq ?_;refine aa.ab aw fw [1,2,4,5,6,7,8,25] ?_;simp[aaK];refine aa.cond rfl (λh6=>?_) (λh6=>?_)
  ·have h6:rk=2:=by simpa using h6
   have GR:0<=ra/\ra<ins.length:=by omega
   obtain⟨a,rfl⟩:=Zad GR.1;have ky:a<ins.length:=by omega
   have ri:=cR ky;have hpi:=p2 a ky;unfold FF at hpi;obtain⟨x,hx⟩:∃x,ins.getD a default=x:=⟨_,rfl⟩;rw[hx]at ri hpi;have hE:jG ins ⟨rk,rh,a,rb,rp,rg⟩=⟨rh,ka ⟨rk,rh,a,rb,rp,rg⟩,rp+x,0,0⟩:=by unfold jG;simp only[if_pos h6,Zai,hx]
   refine aa.dc aw fw [1,2,4,5,6,7,8] ?_;simp[aaL,ky,ri,au (x:=rp+x) (by omega)];refine aa.dc aw fw [1,2,4,5,6] ?_;simp[Sk,pQ,cZ,chunk,cF];repeat (refine⟨by omega, ?_⟩)
   have hS:∀ec,jG ins (rules.getD y default)=⟨rh,ka (rules.getD y default),ec,0,0⟩->cw ((rules.map (jG ins)).take (y+1))=cw ((rules.map (jG ins)).take y)++[[ti rh,.sl (aC (ka (rules.getD y default))),ti ec,ti 0,ti 0]]:=by
    intro ec h;rw[<-List.map_take,cG bK,ZaQ,cw,ZaQ,List.map_take];simp only[Zau,ZbY,h,dq.enc,cw]
   rw[hr]at hS;have hS:=hS _ hE;refine aa.dc aw fw [1,2,4,5,6] ?_;simp[Sl];rw[au (x:=(y:Int)+1) (by omega)];refine⟨y+1,Le.aD ?_ ?_ ?_ ?_,by omega,by omega⟩
   ·simp
   ·simp
   ·simp[hS]
   ·simp
  ·have h6:¬rk=2:=by simpa using h6
   have hE:jG ins ⟨rk,rh,ra,rb,rp,rg⟩=⟨rh,ka ⟨rk,rh,ra,rb,rp,rg⟩,rp,0,0⟩:=by unfold jG;simp only[if_neg h6]
   refine aa.skip ?_;simp;refine aa.dc aw fw [1,2,4,5,6] ?_;simp[Sk,pQ,cZ,chunk,cF];repeat (refine⟨by omega, ?_⟩)
   have hS:∀ec,jG ins (rules.getD y default)=⟨rh,ka (rules.getD y default),ec,0,0⟩->cw ((rules.map (jG ins)).take (y+1))=cw ((rules.map (jG ins)).take y)++[[ti rh,.sl (aC (ka (rules.getD y default))),ti ec,ti 0,ti 0]]:=by
    intro ec h;rw[<-List.map_take,cG bK,ZaQ,cw,ZaQ,List.map_take];simp only[Zau,ZbY,h,dq.enc,cw]
   rw[hr]at hS;have hS:=hS _ hE;refine aa.dc aw fw [1,2,4,5,6] ?_;simp[Sl];rw[au (x:=(y:Int)+1) (by omega)];refine⟨y+1,Le.aD ?_ ?_ ?_ ?_,by omega,by omega⟩
   ·simp
   ·simp
   ·simp[hS]
   ·simp
 ·have fg:y=rules.length:=by simp at bK;omega
  subst fg;rw[show(rules.map (jG ins)).take rules.length=rules.map (jG ins)from Za2 (by simp)];refine aa.exit ?_;simp;refine aa.ab aw fw [4] ?_;simp[Sm];refine aa.ret ?_;simp[Sn]
theorem sO(l:List br)(i:Nat)(x:br):bJ (l.set i x)=(bJ l).set i [ti x.cost,ti x.size]:=by simp[bJ,ZbJ]
theorem sP(l:List Int)(i:Nat)(x:Int):aC (l.set i x)=(aC l).set i [ti x]:=by simp[aC,ZbJ]
theorem YM{α:Type}(a b:α){n y:Nat}(h:y<n):(List.replicate y a++List.replicate (n-y) b).set y a=List.replicate (y+1) a++List.replicate (n-(y+1)) b:=by
 rw[Zb6 _ _ (by simp)];simp only[ZbC,Nat.sub_self];rw[show n-y=(n-(y+1))+1 by omega,Za6,Zce,ZbR (n:=y),List.append_assoc];rfl
def BM(nd:Int)(e:dq):Prop:=0<=e.head/\e.head<nd/\(∀t∈e.tE,0<=t/\t<nd)/\0<=e.cost/\e.cost<=4000000000000/\e.tE.length<=1000000
def hOk(nd:Int)(es:List dq):Prop:=0<=nd/\nd<=1000000/\es.length<=1000000/\∀e∈es,BM nd e
def PE(nd:Int)(v:List br):Prop:=(v.length:Int)=nd/\∀x∈v,kU x
def DN(x:br):Nat:=x.cost.toNat*2199023255552+x.size.toNat
def iW(v:List br):Nat:=(v.map DN).sum
theorem DO{own:List br}{h:Nat}{y:br}(hh:h<own.length)(hy:DN y<DN (own.getD h default)):iW (own.set h y)<iW own:=by
 induction own generalizing h with
 |nil=>simp at hh
 |cons x own ih=>
  cases h with
  |zero=>simp[iW]at hy⊢;omega
  |succ h=>
   have:=ih (h:=h) (by simpa using hh) (by simpa using hy);simp[iW]at this⊢;omega
theorem NX{a b:br}(ha:kU a)(hb:kU b)(h:a.lt b):DN a<DN b:=by
 obtain⟨a1,a2,a3,a4⟩:=ha;obtain⟨b1,b2,b3,b4⟩:=hb;unfold br.lt at h;unfold DN;omega
def v7(v:List br)(e:dq):List br:=if(comb e.cost (fE v e.tE)).lt (v.getD e.head.toNat default)then v.set e.head.toNat (comb e.cost (fE v e.tE))else v
theorem xK{nd:Int}{v:List br}{ts:List Int}(hv:PE nd v)(h:∀t∈ts,0<=t/\t<nd):∀x∈fE v ts,kU x:=by
 intro x hx;simp only[fE,Zal]at hx;obtain⟨t,ht,rfl⟩:=hx;have:=h t ht;have:=hv.1;exact hv.2 _ (bw (by omega))
theorem IL{nd:Int}{v:List br}{e:dq}(he:BM nd e)(hv:PE nd v):PE nd (v7 v e)/\(v7 v e=v\/iW (v7 v e)<iW v):=by
 obtain⟨e1,e2,e3,e4,e5,e6⟩:=he;have hc:=iJ (c:=e.cost) (l:=fE v e.tE) (xK hv e3) e4 e5;have hh:e.head.toNat<v.length:=by have:=hv.1;omega
 unfold v7;split
 ·rename_i h;refine⟨⟨by simpa using hv.1,λx hx=>?_⟩,.inr (DO hh (NX hc (hv.2 _ (bw hh)) h))⟩;rcases ZaZ hx with h|rfl
  ·exact hv.2 x h
  ·exact hc
 ·exact⟨hv,.inl rfl⟩
def eA(es:List dq)(v:List br)(y:Nat):List br:=(List.range y).foldl (λv k=>v7 v (es.getD k default)) v
theorem r8(es:List dq)(v:List br)(y:Nat):eA es v (y+1)=v7 (eA es v y) (es.getD y default):=by simp[eA,Zax,Zat]
theorem xL{nd:Int}{es:List dq}(hh:hOk nd es){v:List br}(hv:PE nd v):∀y,y<=es.length->PE nd (eA es v y)/\(eA es v y=v\/iW (eA es v y)<iW v)
 |0,_=>⟨hv,.inl rfl⟩
 |y+1,hy=>by
  obtain⟨h1,h2⟩:=xL hh hv y (by omega);obtain⟨h3,h4⟩:=IL (hh.2.2.2 _ (bw (l:=es) (i:=y) (by omega))) h1;rw[r8];refine⟨h3, ?_⟩;rcases h4 with e|h4
  ·rw[e];exact h2
  ·rcases h2 with e|h2
   ·rw[e]at h4⊢;exact .inr h4
   ·exact .inr (by omega)
def r9(es:List dq):Nat->List br->List br
 |0,v=>v
 |f+1,v=>if eA es v es.length=v then v else r9 es f (eA es v es.length)
theorem Ly{es:List dq}{v:List br}{f:Nat}{R:List br}(hs:eA es v es.length=v\/iW (eA es v es.length)<iW v)(h1:iW v<f)(h2:r9 es f v=R):
  (eA es v es.length≠v->iW (eA es v es.length)<iW v/\∃f,iW (eA es v es.length)<f/\r9 es f (eA es v es.length)=R)/\(eA es v es.length=v->v=R):=by
 cases f with
 |zero=>omega
 |succ f=>
  unfold r9 at h2;refine⟨λbH=>?_,λe=>?_⟩
  ·rw[if_neg bH]at h2;have:=hs.resolve_left bH;exact⟨this,f,by omega,h2⟩
  ·rwa [if_pos e]at h2
def Lz(nd:Int):List br:=List.replicate nd.toNat ⟨1099511627776,0⟩
def uv(nd:Int)(es:List dq):List br:=r9 es (iW (Lz nd)+1) (Lz nd)
theorem DP{nd:Int}{es:List dq}(hh:hOk nd es):∀f v,iW v<f->PE nd v->PE nd (r9 es f v)
 |0,v,h,_=>by omega
 |f+1,v,h,hv=>by
  obtain⟨h1,h2⟩:=xL hh hv es.length (Zae _);unfold r9;split
  ·exact hv
  ·rename_i bH;exact DP hh f _ (by have:=h2.resolve_left bH;omega) h1
theorem NY{nd:Int}{es:List dq}(hh:hOk nd es):PE nd (Lz nd):=by
 refine⟨by have:=hh.1;simp only[Lz,ZbC];omega,λx hx=>?_⟩;rw[ZbH hx];simp[kU]
theorem DQ{nd:Int}{es:List dq}(hh:hOk nd es):PE nd (uv nd es):=DP hh _ _ (by omega) (NY hh)
def stepG(es:List dq)(v:List br)(g:List Int)(j:Nat):List Int:=
 if(v.getD (es.getD (es.length-1-j) default).head.toNat default).cost<1099511627776/\comb (es.getD (es.length-1-j) default).cost (fE v (es.getD (es.length-1-j) default).tE)=v.getD (es.getD (es.length-1-j) default).head.toNat default then g.set (es.getD (es.length-1-j) default).head.toNat ((es.length-1-j:Nat):Int)else g
def tF(es:List dq)(v:List br)(nd:Int)(j:Nat):List Int:=(List.range j).foldl (stepG es v) (List.replicate nd.toNat (-1))
theorem uw(es:List dq)(v:List br)(nd:Int)(y:Nat):tF es v nd (y+1)=stepG es v (tF es v nd y) y:=by simp[tF,Zax,Zat]
theorem PF(es:List dq)(v:List br){nd:Int}(h:0<=nd)(y:Nat):((tF es v nd y).length:Int)=nd:=by
 induction y with
 |zero=>simp[tF];omega
 |succ y ih=>
  rw[uw];unfold stepG;split
  ·simpa using ih
  ·exact ih
structure VM where
 v:List br
 more:Bool
abbrev s91:DM.Spec:=yE (λts=>∃a b c d e v,ts=[.agg [ti a,.sl (aC b),ti c,ti d,ti e],.sl (bJ v)]/\(∀t∈b,0<=t/\t<v.length)/\b.length<=1000000) (fun|[.agg [_,.sl b,_,_,_],.sl v]=>bJ (fE (lq v) (fu b))|_=>[]) 55 2
theorem IM(l:List br):gj.gI (bJ l).flatten=true:=by
 induction l with
 |nil=>rfl
 |cons x l ih=>simpa [bJ,gj.gI,gj]using ih
theorem okSo:ay Tryz.prog (aW [(91,s91),(69,s69),(92,s92)]):=by
 refine ay.Rz (ay.cons (ay.cons ay.nil ?_) ?_) ?_
 ·rintro ts ⟨a,b,c,d,rfl⟩;exact⟨t92 ⟨a,b⟩ ⟨c,d⟩,λ_=>rfl⟩
 ·rintro ts ⟨c,l,rfl,h1,h2,h3,h4⟩;exact⟨by simpa using t69 c l h1 h2 h3 h4,λ_=>rfl⟩
 ·rintro ts ⟨a,b,c,d,e,v,rfl,h1,h2⟩;exact⟨by simpa [dq.enc]using t91 ⟨a,b,c,d,e⟩ v h1 h2,IM _⟩
theorem t66(nd:Int)(es:List dq)(hh:hOk nd es):aT Tryz.prog 66 [.agg [ti nd,.sl (cw es)]] (.eC [.sl (bJ (uv nd es)),.sl (aC (tF es (uv nd es) nd es.length))]):=by
 obtain⟨R,hR⟩:∃R,uv nd es=R:=⟨_,rfl⟩;have hRo:PE nd R:=hR▸DQ hh;rw[hR];have h0:=NY hh;have z8:=λ(v:List br) (hv:PE nd v)=>xL hh hv;have kx:=λ(v:List br) (hv:PE nd v) (e:dq) (he:BM nd e)=>IL he hv;obtain⟨g1,g2,g3,g4⟩:=hh;have aw:=okSo;refine c66.ok (by simp) (aK ?_);simp;refine aa.ab aw fw [1] ?_;simp[aan];refine aa.le (Le.aD (o:=[]) (l:=[(1,.v (.box [ti nd,.sl (cw es)]))]) (nxt':=1200) ?_ ?_ ?_ ?_) ?_;iterate 4(·simp)
 refine aa.ab aw fw [1,4] ?_;simp[aao,and_assoc,cF];repeat (refine⟨by omega, ?_⟩)
 refine aa.le (Le.aD (o:=[(1217,.arr 0 55 2 (bJ ((List.replicate nd.toNat (⟨0,0⟩:br)))))]) (l:=[(1,.v (.box [ti nd,.sl (cw es)])),(4,.bd 1217 0)]) (nxt':=1400) ?_ ?_ ?_ ?_) ?_
 ·simp
 ·simp
 ·simp[bJ]
 ·simp
 refine aa.ab aw fw [1,4,5] ?_;simp[aap,and_assoc,cF];repeat (refine⟨by omega, ?_⟩)
 refine aa.le (Le.aD (o:=[(1217,.arr 0 55 2 (bJ ((List.replicate nd.toNat (⟨0,0⟩:br))))),(1420,.arr 0 3 1 (aC (List.replicate nd.toNat 0)))]) (l:=[(1,.v (.box [ti nd,.sl (cw es)])),(4,.bd 1217 0),(5,.bd 1420 0)]) (nxt':=1600) ?_ ?_ ?_ ?_) ?_
 ·simp
 ·simp
 ·simp[bJ,aC]
 ·simp
 refine aa.seq ?_;refine aa.ab aw fw [1,4,5,6] ?_;simp[aaq];refine aa.block ?_;refine aa.loop (λy:Nat=>⟨DM.look [(1,.v (.box [ti nd,.sl (cw es)])),(4,.bd 1217 0),(5,.bd 1420 0),(6,.v (ti y))],cE [(1217,.arr 0 55 2 (bJ (List.replicate y (⟨1099511627776,0⟩:br)++List.replicate (nd.toNat-y) (⟨0,0⟩:br)))),(1420,.arr 0 3 1 (aC (List.replicate y (-1:Int)++List.replicate (nd.toNat-y) (0:Int))))],2000,1000,[]⟩)
  (λy=>y<=nd.toNat) (λy=>nd.toNat-y) 0 (Le.aD ?_ ?_ ?_ ?_) (by simp) (λy hy=>?_)
 iterate 4(·simp)
 obtain⟨A,hA⟩:∃A,List.replicate y (⟨1099511627776,0⟩:br)++List.replicate (nd.toNat-y) (⟨0,0⟩:br)=A:=⟨_,rfl⟩;obtain⟨E,hE⟩:∃E,List.replicate y (-1:Int)++List.replicate (nd.toNat-y) (0:Int)=E:=⟨_,rfl⟩;have hAl:A.length=nd.toNat:=by rw[<-hA];simp;omega
 have hEl:E.length=nd.toNat:=by rw[<-hE];simp;omega
 rw[hA,hE];refine aa.seq ?_;refine aa.ab aw fw [1,4,5,6,23] ?_;simp[aar];refine aa.cond rfl (λbK=>?_) (λbK=>?_)
 ·have bK:(y:Int)<nd:=by simpa using bK
  have hyn:y<nd.toNat:=by omega
  refine aa.skip ?_;simp;refine aa.seq ?_;refine aa.block ?_;have ra:=dP (l:=A) (y:=y) (by omega);have re:=cR (l:=E) (y:=y) (by omega);have q1:y<A.length:=by omega
  have q2:y<E.length:=by omega
  refine aa.dc aw fw [1,4,5,6] ?_;simp[aas,q1,q2,ra,re];refine aa.dc aw fw [1,4,5,6] ?_;simp[aat];rw[au (x:=(y:Int)+1) (by omega)];refine⟨y+1,Le.aD ?_ ?_ ?_ ?_,by omega,by omega⟩
  ·simp
  ·simp
  ·simp only[<-YM _ _ hyn,hA,hE,sO,sP];simp
  ·simp
 ·have fg:y=nd.toNat:=by simp at bK;omega
  subst fg;have tu:A=Lz nd:=by rw[<-hA];simp[Lz]
  have hE2:E=List.replicate nd.toNat (-1):=by rw[<-hE];simp
  subst tu;subst hE2;refine aa.exit ?_;simp;refine aa.seq ?_;refine aa.ab aw fw [1,4,5,7] ?_;simp[aau];refine aa.block ?_;refine aa.loop (λz:VM=>⟨DM.look [(1,.v (.box [ti nd,.sl (cw es)])),(4,.bd 1217 0),(5,.bd 1420 0),(7,.v (.bool z.more))],cE [(1217,.arr 0 55 2 (bJ (z.v))),(1420,.arr 0 3 1 (aC (List.replicate nd.toNat (-1))))],3000,1000,[]⟩)
   (λz=>PE nd z.v/\(z.more=true->∃f,iW z.v<f/\r9 es f z.v=R)/\(z.more=false->z.v=R)) (λz=>2*iW z.v+(if z.more then 1 else 0)) ⟨Lz nd,true⟩ (Le.aD ?_ ?_ ?_ ?_) (⟨h0,λ_=>⟨_,ZbW _,hR⟩,λh=>by cases h⟩) (λz hy=>?_)
  iterate 4(·simp)
  obtain⟨own,more⟩:=z;obtain⟨hz1,Yq,YI⟩:=hy;simp only at hz1 Yq YI⊢;refine aa.seq ?_;refine aa.ab aw fw [1,4,5,33] ?_;simp[aav];refine aa.cond rfl (λhm=>?_) (λhm=>?_)
  ·have hm:more=true:=by simpa using hm
   subst hm;obtain⟨f,hf1,YJ⟩:=Yq rfl;refine aa.skip ?_;simp;refine aa.block ?_;refine aa.ab aw fw [1,4,5,7] ?_;simp[aaw];refine aa.ab aw fw [1,4,5,7,8] ?_;simp[R6];refine aa.block ?_;refine aa.loop (λy:Nat=>⟨DM.look [(1,.v (.box [ti nd,.sl (cw es)])),(4,.bd 1217 0),(5,.bd 1420 0),(7,.v (.bool (decide (eA es own y≠own)))),(8,.v (ti y))],cE [(1217,.arr 0 55 2 (bJ (eA es own y))),(1420,.arr 0 3 1 (aC (List.replicate nd.toNat (-1))))],4000,1000,[]⟩)
    (λy=>y<=es.length) (λy=>es.length-y) 0 (Le.aD ?_ ?_ ?_ ?_) (by simp) (λy XD=>?_)
   ·simp
   ·simp[eA]
   ·simp[eA]
   ·simp[eA]
   obtain⟨O,hO⟩:∃O,eA es own y=O:=⟨_,rfl⟩;obtain⟨pE,Nd⟩:=z8 own hz1 y XD;rw[hO]at pE Nd;obtain⟨m1,wH⟩:∃m1:Bool,decide (O≠own)=m1:=⟨_,rfl⟩;rw[hO,wH];refine aa.seq ?_;refine aa.ab aw fw [1,4,5,7,8,38] ?_;simp[R7];refine aa.cond rfl (λbK=>?_) (λbK=>?_)
   ·have bK:y<es.length:=by simpa using bK
    refine aa.skip ?_;simp;refine aa.seq ?_;refine aa.block ?_;have rr:=vZ bK;obtain⟨⟨xh,xt,xc,x0,x1⟩,hx⟩:∃x,es.getD y default=x:=⟨_,rfl⟩;rw[hx]at rr;have hxo:BM nd ⟨xh,xt,xc,x0,x1⟩:=g4 _ (by rw[<-hx];exact bw bK);have YL:=kx O pE _ hxo;obtain⟨q1,q2,q3,q4,q5,q6⟩:=hxo;simp only at q1 q2 q3 q4 q5 q6;obtain⟨xh,rfl⟩:=Zad q1;refine aa.ab aw fw [1,4,5,7,8,9] ?_;simp[R8,bK,rr,dq.enc];refine aa.le (Le.aD (o:=[(1217,.arr 0 55 2 (bJ (O))),(1420,.arr 0 3 1 (aC (List.replicate nd.toNat (-1))))]) (l:=[(1,.v (.box [ti nd,.sl (cw es)])),(4,.bd 1217 0),(5,.bd 1420 0),(7,.v (.bool m1)),(8,.v (ti y)),(9,.v (.box [ti xh,.sl (aC xt),ti xc,ti x0,ti x1]))]) (nxt':=4200) ?_ ?_ ?_ ?_) ?_;iterate 4(·simp)
    have ht3:∀t∈xt,0<=t/\t<O.length:=λt ht=>by have:=q3 t ht;have:=pE.1;omega
    have htv:=xK pE q3;have Eo:(fE O xt).length<=1000000:=by simpa [fE]using q6
    obtain⟨⟨wc,wz⟩,hw⟩:∃w,comb xc (fE O xt)=w:=⟨_,rfl⟩;refine aa.iH aw fw (rs:=fm E8 [none,some [],some [],none,some [1217],some [4251],none,some [4211]]) (.inr ⟨_,rfl⟩) (by kernel_rfl) [1,4,5,7,8,9,10] ?_;simp[E8,fm,ch,bm,names,and_assoc,q6,Eo,hw];refine⟨ht3,htv, ?_⟩;repeat (refine⟨by omega, ?_⟩)
    refine aa.le (Le.aD (o:=[(1217,.arr 0 55 2 (bJ (O))),(1420,.arr 0 3 1 (aC (List.replicate nd.toNat (-1))))]) (l:=[(1,.v (.box [ti nd,.sl (cw es)])),(4,.bd 1217 0),(5,.bd 1420 0),(7,.v (.bool m1)),(8,.v (ti y)),(9,.v (.box [ti xh,.sl (aC xt),ti xc,ti x0,ti x1])),(10,.v (.box [ti wc,ti wz]))]) (nxt':=4400) ?_ ?_ ?_ ?_) ?_;iterate 4(·simp)
    have Lv:xh<O.length:=by have:=pE.1;omega
    have ro:=dP Lv;obtain⟨⟨uc,uz⟩,hu⟩:∃w,O.getD xh default=w:=⟨_,rfl⟩;rw[hu]at ro;obtain⟨c1,aX⟩:∃c1:Bool,decide ((⟨wc,wz⟩:br).lt ⟨uc,uz⟩)=c1:=⟨_,rfl⟩;refine aa.ab aw fw [1,4,5,7,8,9,10,58] ?_;simp[R9,Lv,ro,aX];refine aa.cond rfl (λh5=>?_) (λh5=>?_)
    ·have h5:c1=true:=by simpa using h5
     rw[h5]at aX;have aX:=of_decide_eq_true aX;have hS0:v7 O ⟨xh,xt,xc,x0,x1⟩=O.set xh ⟨wc,wz⟩:=by unfold v7;simp only[hw,hu,Zai];rw[if_pos aX]
     have yV:eA es own (y+1)=O.set xh ⟨wc,wz⟩:=by rw[r8,hO,hx,hS0]
     have bH:¬eA es own (y+1)=own:=by
      intro e;have h6:iW (O.set xh ⟨wc,wz⟩)<iW O:=by
       refine DO Lv ?_;rw[hu];exact NX (by rw[<-hw];exact iJ htv q4 q5) (by rw[<-hu];exact pE.2 _ (bw Lv)) aX
      rw[<-yV,e]at h6;rcases Nd with h|h
      ·rw[h]at h6;omega
      ·omega
     refine aa.ab aw fw [1,4,5,8] ?_;simp[Sa,Lv,ro];refine aa.dc aw fw [1,4,5,7,8] ?_;simp[Sb];refine aa.dc aw fw [1,4,5,7,8] ?_;simp[KJ];rw[au (x:=(y:Int)+1) (by omega)];refine⟨y+1,Le.aD ?_ ?_ ?_ ?_,by omega,by omega⟩
     ·simp
     ·simp
     ·simp[yV,sO]
     ·simp;simpa using bH
    ·have h5:c1=false:=by simpa using h5
     rw[h5]at aX;have aX:=of_decide_eq_false aX;have yV:eA es own (y+1)=O:=by rw[r8,hO,hx];unfold v7;simp only[hw,hu,Zai];rw[if_neg aX]
     have bH:=wH;rw[<-yV]at bH;refine aa.skip ?_;simp;refine aa.dc aw fw [1,4,5,7,8] ?_;simp[KJ];rw[au (x:=(y:Int)+1) (by omega)];refine⟨y+1,Le.aD ?_ ?_ ?_ ?_,by omega,by omega⟩
     ·simp
     ·simp
     ·simp[yV,sO]
     ·simp;simpa using bH
   ·have w7:y=es.length:=by simp at bK;omega
    subst w7;have De:=Ly (z8 own hz1 _ (Zae _)).2 hf1 YJ;simp only[hO]at De;have hdec:2*iW O+(if m1 then 1 else 0)<2*iW own+1:=by
     by_cases e:O=own
     ·have EB:m1=false:=by rw[<-wH];simp[e]
      subst EB;rw[e];simp
     ·have:=(De.1 e).1;cases m1<;>simp<;>omega
    refine aa.exit ?_;simp;refine⟨⟨O,m1⟩,Le.aD ?_ ?_ ?_ ?_,⟨pE,λh=>(De.1 (of_decide_eq_true (wH.trans h))).2,λh=>by have e:=Classical.not_not.1 (of_decide_eq_false (wH.trans h));simp only;rw[e];exact De.2 e⟩,by simpa using hdec⟩;iterate 3(·simp)
    ·simp
  ·have hm:more=false:=by simpa using hm
   subst hm;have YI:=YI rfl;subst YI;refine aa.exit ?_;simp;refine aa.seq ?_;refine aa.ab aw fw [1,4,5,11] ?_;simp[Sc,au (x:=(es.length:Int)-1) (by omega)];refine aa.block ?_;refine aa.loop (λj:Nat=>⟨DM.look [(1,.v (.box [ti nd,.sl (cw es)])),(4,.bd 1217 0),(5,.bd 1420 0),(11,.v (ti ((es.length:Int)-1-j)))],cE [(1217,.arr 0 55 2 (bJ (own))),(1420,.arr 0 3 1 (aC (tF es own nd j)))],5000,1000,[]⟩)
    (λj=>j<=es.length) (λj=>es.length-j) 0 (Le.aD ?_ ?_ ?_ ?_) (by simp) (λj hj=>?_)
   ·simp
   ·simp
   ·simp[tF]
   ·simp
   obtain⟨G,hG⟩:∃G,tF es own nd j=G:=⟨_,rfl⟩;have hGl:=PF es own g1 j;rw[hG]at hGl;rw[hG];obtain⟨k,hk⟩:∃k,(es.length:Int)-1-j=k:=⟨_,rfl⟩;rw[hk];refine aa.seq ?_;refine aa.ab aw fw [1,4,5,11,69] ?_;simp[Sd];refine aa.cond rfl (λh9=>?_) (λh9=>?_)
   ·have h9:0<=k:=by simpa using h9
    obtain⟨k,rfl⟩:=Zad h9;have QA:k<es.length:=by omega
    have hke:es.length-1-j=k:=by omega
    refine aa.skip ?_;simp;refine aa.seq ?_;refine aa.block ?_;have rr:=vZ QA;obtain⟨⟨xh,xt,xc,x0,x1⟩,hx⟩:∃x,es.getD k default=x:=⟨_,rfl⟩;rw[hx]at rr;have hxo:BM nd ⟨xh,xt,xc,x0,x1⟩:=g4 _ (by rw[<-hx];exact bw QA);obtain⟨q1,q2,q3,q4,q5,q6⟩:=hxo;simp only at q1 q2 q3 q4 q5 q6;obtain⟨xh,rfl⟩:=Zad q1;refine aa.ab aw fw [1,4,5,11,12] ?_;simp[Se,QA,rr,dq.enc];refine aa.le (Le.aD (o:=[(1217,.arr 0 55 2 (bJ (own))),(1420,.arr 0 3 1 (aC (G)))]) (l:=[(1,.v (.box [ti nd,.sl (cw es)])),(4,.bd 1217 0),(5,.bd 1420 0),(11,.v (ti k)),(12,.v (.box [ti xh,.sl (aC xt),ti xc,ti x0,ti x1]))]) (nxt':=5200) ?_ ?_ ?_ ?_) ?_;iterate 4(·simp)
    have Lv:xh<own.length:=by have:=hRo.1;omega
    have ro:=dP Lv;obtain⟨⟨uc,uz⟩,hu⟩:∃w,own.getD xh default=w:=⟨_,rfl⟩;rw[hu]at ro;refine aa.ab aw fw [1,4,5,11,12,13] ?_;simp[Sf,Lv,ro];refine aa.le (Le.aD (o:=[(1217,.arr 0 55 2 (bJ (own))),(1420,.arr 0 3 1 (aC (G)))]) (l:=[(1,.v (.box [ti nd,.sl (cw es)])),(4,.bd 1217 0),(5,.bd 1420 0),(11,.v (ti k)),(12,.v (.box [ti xh,.sl (aC xt),ti xc,ti x0,ti x1])),(13,.v (.box [ti uc,ti uz]))]) (nxt':=5400) ?_ ?_ ?_ ?_) ?_;iterate 4(·simp)
    have ht3:∀t∈xt,0<=t/\t<own.length:=λt ht=>by have:=q3 t ht;have:=hRo.1;omega
    have htv:=xK hRo q3;have Eo:(fE own xt).length<=1000000:=by simpa [fE]using q6
    obtain⟨⟨wc,wz⟩,hw⟩:∃w,comb xc (fE own xt)=w:=⟨_,rfl⟩;obtain⟨c1,aX⟩:∃c1:Bool,decide (uc<1099511627776/\(⟨wc,wz⟩:br)=⟨uc,uz⟩)=c1:=⟨_,rfl⟩;refine aa.seq ?_;refine aa.to ⟨DM.look [(1,.v (.box [ti nd,.sl (cw es)])),(4,.bd 1217 0),(5,.bd 1420 0),(11,.v (ti k)),(12,.v (.box [ti xh,.sl (aC xt),ti xc,ti x0,ti x1])),(94,.v (.bool c1))],cE [(1217,.arr 0 55 2 (bJ (own))),(1420,.arr 0 3 1 (aC (G)))],6000,1000,[]⟩ ?_ ?_
    ·by_cases k1:uc<1099511627776
     ·refine aa.tZ aw fw (rs:=fm vH [none,some [],none,none,none,some [],some [],none,some [1217],some [5491],some [],some [],none]) (.inr ⟨_,rfl⟩) (by kernel_rfl) [1,4,5,11,12,94] ?_;simp[fm,vH,ch,bm,names,and_assoc,k1,q6,Eo,hw];refine⟨ht3,htv,by omega,by omega, ?_⟩;have:c1=(decide (wc=uc)&&decide (wz=uz)):=by rw[<-aX];simp[k1]
      rw[this];exact Le.aD (by simp) (by simp) (by simp) (by simp)
     ·have:c1=false:=by rw[<-aX];simp[k1]
      refine aa.tZ aw fw (rs:=fm vH [none,some [],none,none,none,some [],some [],none,some [1217],some [5491],some [],some [],none]) (.inr ⟨_,rfl⟩) (by kernel_rfl) [1,4,5,11,12,94] ?_;simp[fm,vH,ch,bm,names,k1];subst this;exact Le.aD (by simp) (by simp) (by simp) (by simp)
    simp only[AJ];refine aa.cond rfl (λh8=>?_) (λh8=>?_)
    ·have h8:c1=true:=by simpa using h8
     rw[h8]at aX;have aX:=of_decide_eq_true aX;have hS2:stepG es own G j=G.set xh (k:Int):=by unfold stepG;rw[hke,hx];simp only[hw,hu,Zai];rw[if_pos aX]
     have hgl2:xh<G.length:=by omega
     have rg:=cR hgl2;refine aa.dc aw fw [1,4,5,11] ?_;simp[Sg,hgl2,rg];refine aa.dc aw fw [1,4,5,11] ?_;simp[KK];rw[au (x:=(k:Int)-1) (by omega)];refine⟨j+1,Le.aD ?_ ?_ ?_ ?_,by omega,by omega⟩
     ·simp
     ·simp
     ·simp[uw,hG,hS2,sP]
     ·simp;omega
    ·have h8:c1=false:=by simpa using h8
     rw[h8]at aX;have aX:=of_decide_eq_false aX;have hS2:stepG es own G j=G:=by unfold stepG;rw[hke,hx];simp only[hw,hu,Zai];rw[if_neg aX]
     refine aa.skip ?_;simp;refine aa.dc aw fw [1,4,5,11] ?_;simp[KK];rw[au (x:=(k:Int)-1) (by omega)];refine⟨j+1,Le.aD ?_ ?_ ?_ ?_,by omega,by omega⟩
     ·simp
     ·simp
     ·simp[uw,hG,hS2,sP]
     ·simp;omega
   ·have h9:¬0<=k:=by simpa using h9
    have XA:j=es.length:=by omega
    subst XA;subst hG;refine aa.exit ?_;simp;refine aa.ab aw fw [2,3] ?_;simp[Si];refine aa.ret ?_;simp[Sj]
theorem IN{n:aH}{ins:List Int}(hn:eO n)(hp:eV n ins):hOk n.an (uu n ins):=by
 have h:=hn.ok;obtain⟨p1,p2⟩:=hp;refine⟨by have:=h.1;omega,by have:=h.2.1;omega,by simp only[uu,Zbt];have:=h.2.2.1;omega,λe he=>?_⟩;simp only[uu,Zal]at he;obtain⟨r,hr,rfl⟩:=he;obtain⟨q1,q2,q3,q4,q5⟩:=h.2.2.2 r hr;have hc:0<=(jG ins r).cost/\(jG ins r).cost<=4000000000000:=by
  unfold jG;split
  ·rename_i h2;have ha:r.a.toNat<ins.length:=by omega
   have:=p2 _ ha;unfold FF at this;simp only;omega
  ·simp only;omega
 refine⟨q1,q2,λt ht=>?_,hc.1,hc.2,by have:=Lx r;simp only[jG];omega⟩;simp only[jG,ka]at ht;split at ht
 ·simp only[Zah]at ht;omega
 ·split at ht
  ·simp only[Zag,Zap,or_false]at ht;omega
  ·cases ht
def kb(n:aH)(ins:List Int):List br:=if eO n/\eV n ins then uv n.an (uu n ins)else []
abbrev s20:DM.Spec:=cz (λts=>∃a b c l,ts=[.agg [ti a,ti b,ti c,.sl (aQ l)]]/\l.length<=9223372036854775807) (fun|[n]=>.bool (decide (eO (nY n)))|_=>.bool false) true
abbrev s44:DM.Spec:=cz (λts=>∃a b c l i,ts=[.agg [ti a,ti b,ti c,.sl (aQ l)],.sl (aC i)]/\i.length<=9223372036854775807) (fun|[n,.sl i]=>.bool (decide (eV (nY n) (fu i)))|_=>.bool false) true
abbrev s67:DM.Spec:=cz (λts=>∃a b c l i,ts=[.agg [ti a,ti b,ti c,.sl (aQ l)],.sl (aC i)]/\nF ⟨a,b,c,l⟩/\eV ⟨a,b,c,l⟩ i) (fun|[n,.sl i]=>.agg [ti (nY n).an,.sl (cw (uu (nY n) (fu i)))]|_=>.bool false) false
abbrev s66:DM.Spec:=cz (λts=>∃nd es,ts=[.agg [ti nd,.sl (cw es)]]/\hOk nd es) (fun|[.agg [.int _ nd,.sl es]]=>.eC [.sl (bJ (uv nd (BL es))),.sl (aC (tF (BL es) (uv nd (BL es)) nd es.length))]|_=>.bool false) false
abbrev s45:DM.Spec:=cz (λts=>∃a b c l i,ts=[.agg [ti a,ti b,ti c,.sl (aQ l)],.sl (aC i)]/\l.length<=9223372036854775807/\i.length<=9223372036854775807) (fun|[n,.sl i]=>.sl (bJ (kb (nY n) (fu i)))|_=>.bool false) false
theorem okV1:ay Tryz.prog (aW [(20,s20),(44,s44),(67,s67),(66,s66)]):=by
 refine ay.cons (ay.cons (ay.cons (ay.cons ay.nil ?_) ?_) ?_) ?_
 ·rintro ts ⟨nd,es,rfl,h⟩;exact⟨by simpa using t66 nd es h,λh=>by cases h⟩
 ·rintro ts ⟨a,b,c,l,i,rfl,h1,h2⟩;exact⟨by simpa [aH.enc]using t67 ⟨a,b,c,l⟩ i h1 h2,λh=>by cases h⟩
 ·rintro ts ⟨a,b,c,l,i,rfl,h⟩;exact⟨by simpa [aH.enc]using t44 ⟨a,b,c,l⟩ i h,λ_=>rfl⟩
 ·rintro ts ⟨a,b,c,l,rfl,h⟩;exact⟨by simpa [aH.enc]using t20 ⟨a,b,c,l⟩ h,λ_=>rfl⟩
theorem t45(n:aH)(ins:List Int)(h1:n.rules.length<=9223372036854775807)(h2:ins.length<=9223372036854775807):aT Tryz.prog 45 [n.enc,.sl (aC ins)] (.sl (bJ (kb n ins))):=by
 obtain⟨R,hR⟩:∃R,kb n ins=R:=⟨_,rfl⟩;rw[hR];unfold kb at hR;obtain⟨nt,nn,ns,rules⟩:=n;simp only at h1;have aw:=okV1;refine c45.ok (by simp) (aK ?_);simp[aH.enc];refine aa.ab aw fw [1,2] ?_;simp[Hs];refine aa.le (Le.aD (o:=[]) (l:=[(1,.v (.sl (aC ins))),(2,.v (.box [ti nt,ti nn,ti ns,.sl (aQ rules)]))]) (nxt':=1200) ?_ ?_ ?_ ?_) ?_;iterate 4(·simp)
 refine aa.seq ?_;obtain⟨c1,aX⟩:∃c1:Bool,decide (¬eO ⟨nt,nn,ns,rules⟩\/¬eV ⟨nt,nn,ns,rules⟩ ins)=c1:=⟨_,rfl⟩;refine aa.b7 aw fw [(1,.v (.sl (aC ins))),(2,.v (.box [ti nt,ti nn,ti ns,.sl (aQ rules)])),(15,.v (.bool c1))] ?_ ?_
 ·by_cases q1:eO ⟨nt,nn,ns,rules⟩
  ·by_cases q2:eV ⟨nt,nn,ns,rules⟩ ins
   ·have:c1=false:=by rw[<-aX];simp[q1,q2]
    simp[Ba,and_assoc,h1,h2,q1,q2,this]
   ·have:c1=true:=by rw[<-aX];simp[q2]
    simp[Ba,and_assoc,h1,h2,q1,q2,this]
  ·have:c1=true:=by rw[<-aX];simp[q1]
   simp[Ba,and_assoc,h1,q1,this]
 refine aa.cond rfl (λg=>?_) (λg=>?_)
 ·rw[g]at aX;have aX:=of_decide_eq_true aX;rw[if_neg (λh=>aX.elim (λq=>q h.1) (λq=>q h.2))]at hR;subst hR;refine aa.ab aw fw [4] ?_;simp[Ht];refine aa.ret ?_;simp[uh]
 ·rw[g]at aX;have aX:=of_decide_eq_false aX;simp only[not_or,Classical.not_not]at aX;obtain⟨zy,jn⟩:=aX;refine aa.skip ?_;simp;rw[if_pos ⟨zy,jn⟩]at hR;have hg:=IN zy jn;have hn:=zy.ok;simp only at hR hg;refine aa.ab aw fw [5] ?_;simp[Hu,and_assoc,hn,jn,hg,hR];refine aa.ab aw fw [4] ?_;simp[Hv];refine aa.ret ?_;simp[uh]
def ux(v:List br)(i:Nat):Prop:=¬(v.getD i default).size>1000
instance(v:List br)(i:Nat):Decidable (ux v i):=by unfold ux;infer_instance
def CM(n:aH)(ins:List Int):Prop:=(eO n/\eV n ins)/\∀i,i<(kb n ins).length->ux (kb n ins) i
instance(n:aH)(ins:List Int):Decidable (CM n ins):=by unfold CM;infer_instance
theorem okV2:ay Tryz.prog (aW [(20,s20),(44,s44),(45,s45)]):=by
 refine ay.cons (ay.cons (ay.cons ay.nil ?_) ?_) ?_
 ·rintro ts ⟨a,b,c,l,i,rfl,h1,h2⟩;exact⟨by simpa [aH.enc]using t45 ⟨a,b,c,l⟩ i h1 h2,λh=>by cases h⟩
 ·rintro ts ⟨a,b,c,l,i,rfl,h⟩;exact⟨by simpa [aH.enc]using t44 ⟨a,b,c,l⟩ i h,λ_=>rfl⟩
 ·rintro ts ⟨a,b,c,l,rfl,h⟩;exact⟨by simpa [aH.enc]using t20 ⟨a,b,c,l⟩ h,λ_=>rfl⟩
theorem IP{n:aH}{ins:List Int}(h1:eO n)(h2:eV n ins):(kb n ins).length<=1000:=by
 unfold kb;rw[if_pos ⟨h1,h2⟩];have:=(DQ (IN h1 h2)).1;have:=h1.ok.2.1;omega
theorem t22(n:aH)(ins:List Int)(h1:n.rules.length<=9223372036854775807)(h2:ins.length<=9223372036854775807):aT Tryz.prog 22 [n.enc,.sl (aC ins)] (.bool (decide (CM n ins))):=by
 obtain⟨v,hv⟩:∃v,decide (CM n ins)=v:=⟨_,rfl⟩;rw[hv];have c6:CM n ins↔(eO n/\eV n ins)/\∀i,i<(kb n ins).length->ux (kb n ins) i:=Iff.rfl;have bad:¬CM n ins->v=false:=λh=>by rw[<-hv];simp[h]
 have U5:=λa b=>IP (n:=n) (ins:=ins) a b;obtain⟨V,hV⟩:∃V,kb n ins=V:=⟨_,rfl⟩;rw[hV]at c6 U5;obtain⟨nt,nn,ns,rules⟩:=n;simp only at h1;have aw:=okV2;refine c22.ok (by simp) (aK ?_);simp[aH.enc];refine aa.ab aw fw [1,2] ?_;simp[aaU];refine aa.le (Le.aD (o:=[]) (l:=[(1,.v (.sl (aC ins))),(2,.v (.box [ti nt,ti nn,ti ns,.sl (aQ rules)]))]) (nxt':=1200) ?_ ?_ ?_ ?_) ?_;iterate 4(·simp)
 refine aa.seq ?_;obtain⟨c1,aX⟩:∃c1:Bool,decide (¬eO ⟨nt,nn,ns,rules⟩\/¬eV ⟨nt,nn,ns,rules⟩ ins)=c1:=⟨_,rfl⟩;refine aa.b7 aw fw [(1,.v (.sl (aC ins))),(2,.v (.box [ti nt,ti nn,ti ns,.sl (aQ rules)])),(15,.v (.bool c1))] ?_ ?_
 ·by_cases q1:eO ⟨nt,nn,ns,rules⟩
  ·by_cases q2:eV ⟨nt,nn,ns,rules⟩ ins
   ·have:c1=false:=by rw[<-aX];simp[q1,q2]
    simp[Nv,and_assoc,h1,h2,q1,q2,this]
   ·have:c1=true:=by rw[<-aX];simp[q2]
    simp[Nv,and_assoc,h1,h2,q1,q2,this]
  ·have:c1=true:=by rw[<-aX];simp[q1]
   simp[Nv,and_assoc,h1,q1,this]
 refine aa.cond rfl (λg=>?_) (λg=>?_)
 ·rw[g]at aX;have aX:=of_decide_eq_true aX;refine aa.ab aw fw [4] ?_;simp[aaV];refine aa.ret ?_;rw[bad λh=>aX.elim (λq=>q (c6.1 h).1.1) (λq=>q (c6.1 h).1.2)];simp[Fb]
 ·rw[g]at aX;have aX:=of_decide_eq_false aX;simp only[not_or,Classical.not_not]at aX;obtain⟨zy,jn⟩:=aX;refine aa.skip ?_;simp;have hVl:=U5 zy jn;refine aa.ab aw fw [5] ?_;simp[aaW,and_assoc,h1,h2,hV];refine aa.seq ?_;refine aa.ab aw fw [5,6] ?_;simp[aaX];refine aa.block ?_;refine aa.loop (λy:Nat=>⟨DM.look [(5,.v (.sl (bJ V))),(6,.v (ti y))],cE [],2000,1000,[]⟩)
   (λy=>y<=V.length/\∀i,i<y->ux V i) (λy=>V.length-y) 0 (Le.aD (o:=[]) ?_ ?_ ?_ ?_) (by simp) (λy hy=>?_)
  iterate 4(·simp)
  obtain⟨jV,fg⟩:=hy;refine aa.seq ?_;refine aa.ab aw fw [5,6,22] ?_;simp[aaY];refine aa.cond rfl (λbK=>?_) (λbK=>?_)
  ·have bK:y<V.length:=by simpa using bK
   refine aa.skip ?_;simp;refine aa.seq ?_;refine aa.block ?_;have rr:=dP bK;obtain⟨x,hx⟩:∃x,V.getD y default=x:=⟨_,rfl⟩;rw[hx]at rr;refine aa.ab aw fw [5,6,30] ?_;simp[aaZ,bK,rr];refine aa.cond rfl (λh8=>?_) (λh8=>?_)
   ·have h8:x.size>1000:=by simpa using h8
    refine aa.ab aw fw [4] ?_;simp[aa0];refine aa.ret ?_;rw[bad λh=>by have:=(c6.1 h).2 y bK;unfold ux at this;rw[hx]at this;exact this h8];simp[Fb]
   ·have h8:¬x.size>1000:=by simpa using h8
    refine aa.skip ?_;simp;refine aa.dc aw fw [5,6] ?_;simp[aa1];rw[au (x:=(y:Int)+1) (by omega)];refine⟨y+1,Le.aD (o:=[]) ?_ ?_ ?_ ?_,⟨by omega,λi hi=>?_⟩,by omega⟩;iterate 4(·simp)
    ·by_cases e:i=y
     ·subst e;unfold ux;rw[hx];exact h8
     ·exact fg i (by omega)
  ·have XD:y=V.length:=by simp at bK;omega
   subst XD;refine aa.exit ?_;simp;refine aa.ab aw fw [4] ?_;simp[aa2];refine aa.ret ?_;have:v=true:=by rw[<-hv];exact decide_eq_true (c6.2 ⟨⟨zy,jn⟩,fg⟩)
   rw[this];simp[Fb]
def CL(z:Ask):Prop:=(¬((z.n.rules.length:Int)>14\/z.n.an>8\/z.n.aV>5\/¬eO z.n\/(z.x.aj.length:Int)>4\/(z.new.length:Int)>3\/¬DD z.x z.n.aV\/z.fr<0\/z.od<0\/z.fr>z.x.aj.length\/z.od>z.x.aj.length-z.fr))/\DD (nZ z) z.n.aV/\CM z.n z.x.insert
instance(z:Ask):Decidable (CL z):=by unfold CL;infer_instance
abbrev s21:DM.Spec:=cz (λts=>∃a b c t,ts=[.agg [.sl (ba a),.sl (aC b),ti c],ti t]/\t<=1000000000000) (fun|[x,.int _ t]=>.bool (decide (DD (CK x) t))|_=>.bool false) true
abbrev s22:DM.Spec:=cz (λts=>∃a b c l i,ts=[.agg [ti a,ti b,ti c,.sl (aQ l)],.sl (aC i)]/\l.length<=9223372036854775807/\i.length<=9223372036854775807) (fun|[n,.sl i]=>.bool (decide (CM (nY n) (fu i)))|_=>.bool false) true
abbrev s14:DM.Spec:=cz (λts=>∃nt nn ns rules bC ins sw fr od new,ts=[.agg [ti nt,ti nn,ti ns,.sl (aQ rules),.sl (ba bC),.sl (aC ins),ti sw,ti fr,ti od,.sl (ba new)]]/\Yx ⟨⟨nt,nn,ns,rules⟩,⟨bC,ins,sw⟩,fr,od,new⟩)
 (fun|[.agg [_,_,_,_,.sl c,.sl i,.int _ s,.int _ fr,.int _ od,.sl nw]]=>.agg [.sl (ba (cA ⟨fL c,fu i,s⟩ fr.toNat od.toNat (fL nw)).aj),.sl (aC (cA ⟨fL c,fu i,s⟩ fr.toNat od.toNat (fL nw)).insert),ti (cA ⟨fL c,fu i,s⟩ fr.toNat od.toNat (fL nw)).swap]|_=>.bool false) false
theorem UH{l:List (Nat×DM.Spec)}(h:ay Tryz.prog (aW l)):ay Tryz.prog (aW ((14,s14)::l)):=by
 refine ay.cons h ?_;rintro ts ⟨nt,nn,ns,rules,bC,ins,sw,fr,od,new,rfl,h⟩;exact⟨by simpa [Ask.enc,Input.enc,nZ]using t14 ⟨⟨nt,nn,ns,rules⟩,⟨bC,ins,sw⟩,fr,od,new⟩ h,λh=>by cases h⟩
theorem okM:ay Tryz.prog (aW [(14,s14),(20,s20),(21,s21),(22,s22)]):=by
 refine UH (ay.cons (ay.cons (ay.cons ay.nil ?_) ?_) ?_)
 ·rintro ts ⟨a,b,c,l,i,rfl,h1,h2⟩;exact⟨by simpa [aH.enc]using t22 ⟨a,b,c,l⟩ i h1 h2,λ_=>rfl⟩
 ·rintro ts ⟨a,b,c,t,rfl,h⟩;exact⟨by simpa [Input.enc]using t28 ⟨a,b,c⟩ t h,λ_=>rfl⟩
 ·rintro ts ⟨a,b,c,l,rfl,h⟩;exact⟨by simpa [aH.enc]using t20 ⟨a,b,c,l⟩ h,λ_=>rfl⟩
theorem t9(z:Ask)(hl:z.n.rules.length<=9223372036854775807/\z.x.insert.length<=9223372036854775807):aT Tryz.prog 9 [z.enc] (.bool (decide (CL z))):=by
 obtain⟨⟨nt,nn,ns,rules⟩,⟨bC,ins,sw⟩,fr,od,new⟩:=z;obtain⟨wJ,qx⟩:=hl;simp only at wJ qx;obtain⟨v,hv⟩:∃v,decide (CL ⟨⟨nt,nn,ns,rules⟩,⟨bC,ins,sw⟩,fr,od,new⟩)=v:=⟨_,rfl⟩;rw[hv];have c6:CL ⟨⟨nt,nn,ns,rules⟩,⟨bC,ins,sw⟩,fr,od,new⟩↔(¬((rules.length:Int)>14\/nn>8\/nt>5\/¬eO ⟨nt,nn,ns,rules⟩\/(bC.length:Int)>4\/(new.length:Int)>3\/¬DD ⟨bC,ins,sw⟩ nt\/fr<0\/od<0\/fr>bC.length\/od>bC.length-fr))/\DD (nZ ⟨⟨nt,nn,ns,rules⟩,⟨bC,ins,sw⟩,fr,od,new⟩) nt/\CM ⟨nt,nn,ns,rules⟩ ins:=Iff.rfl;have bad:¬CL ⟨⟨nt,nn,ns,rules⟩,⟨bC,ins,sw⟩,fr,od,new⟩->v=false:=λh=>by rw[<-hv];simp[h]
 have aw:=okM;refine c9.ok (by simp) (aK ?_);simp[Ask.enc];refine aa.ab aw fw [1] ?_;simp[d9r0];refine aa.le (Le.aD (o:=[]) (l:=[(1,.v (.box [ti nt,ti nn,ti ns,.sl (aQ rules),.sl (ba bC),.sl (aC ins),ti sw,ti fr,ti od,.sl (ba new)]))]) (nxt':=1200) ?_ ?_ ?_ ?_) ?_;iterate 4(·simp)
 refine aa.seq ?_;obtain⟨c1,aX⟩:∃c1:Bool,decide ((rules.length:Int)>14\/nn>8\/nt>5\/¬eO ⟨nt,nn,ns,rules⟩\/(bC.length:Int)>4\/(new.length:Int)>3\/¬DD ⟨bC,ins,sw⟩ nt\/fr<0\/od<0\/fr>bC.length\/od>bC.length-fr)=c1:=⟨_,rfl⟩;refine aa.b7 aw fw [(1,.v (.box [ti nt,ti nn,ti ns,.sl (aQ rules),.sl (ba bC),.sl (aC ins),ti sw,ti fr,ti od,.sl (ba new)])),(78,.v (.bool c1))] ?_ ?_
 ·by_cases q1:(rules.length:Int)>14
  ·have:c1=true:=by rw[<-aX];simp[q1]
   simp[xy,and_assoc,q1,this]
  ·skip
   by_cases q2:nn>8
   ·have:c1=true:=by rw[<-aX];simp[q2]
    simp[xy,and_assoc,q1,q2,this]
   ·skip
    by_cases q3:nt>5
    ·have:c1=true:=by rw[<-aX];simp[q3]
     simp[xy,and_assoc,q1,q2,q3,this]
    ·skip
     have lX:rules.length<=9223372036854775807:=by omega
     by_cases q4:¬eO ⟨nt,nn,ns,rules⟩
     ·have:c1=true:=by rw[<-aX];simp[q4]
      simp[xy,and_assoc,q1,q2,q3,q4,this,lX]
     ·skip
      have q4:=Classical.not_not.1 q4;by_cases q5:(bC.length:Int)>4
      ·have:c1=true:=by rw[<-aX];simp[q5]
       simp[xy,and_assoc,q1,q2,q3,q4,q5,this,lX]
      ·skip
       by_cases q6:(new.length:Int)>3
       ·have:c1=true:=by rw[<-aX];simp[q6]
        simp[xy,and_assoc,q1,q2,q3,q4,q5,q6,this,lX]
       ·skip
        have qa:nt<=1000000000000:=by omega
        by_cases q7:¬DD ⟨bC,ins,sw⟩ nt
        ·have:c1=true:=by rw[<-aX];simp[q7]
         simp[xy,and_assoc,q1,q2,q3,q4,q5,q6,q7,this,lX,qa]
        ·skip
         have q7:=Classical.not_not.1 q7;by_cases q8:fr<0
         ·have:c1=true:=by rw[<-aX];simp[q8]
          simp[xy,and_assoc,q1,q2,q3,q4,q5,q6,q7,q8,this,lX,qa]
         ·skip
          by_cases q9:od<0
          ·have:c1=true:=by rw[<-aX];simp[q9]
           simp[xy,and_assoc,q1,q2,q3,q4,q5,q6,q7,q8,q9,this,lX,qa]
          ·skip
           by_cases Ln:fr>bC.length
           ·have:c1=true:=by rw[<-aX];simp[Ln]
            simp[xy,and_assoc,q1,q2,q3,q4,q5,q6,q7,q8,q9,Ln,this,lX,qa]
           ·skip
            have w3:IntKind.i64.wrap ((bC.length:Int)-fr)=(bC.length:Int)-fr:=au (by omega);by_cases q11:od>bC.length-fr
            ·have:c1=true:=by rw[<-aX];simp[q11]
             simp[xy,and_assoc,q1,q2,q3,q4,q5,q6,q7,q8,q9,Ln,q11,this,lX,qa,w3]
            ·skip
             have:c1=false:=by rw[<-aX];simp[q1,q2,q3,q4,q5,q6,q7,q8,q9,Ln,q11]
             simp[xy,and_assoc,q1,q2,q3,q4,q5,q6,q7,q8,q9,Ln,q11,this,lX,qa,w3]
 refine aa.cond rfl (λg=>?_) (λg=>?_)
 ·rw[g]at aX;have aX:=of_decide_eq_true aX;refine aa.ab aw fw [2] ?_;simp[d9r2];refine aa.ret ?_;rw[bad λh=>(c6.1 h).1 aX];simp[Tn]
 ·rw[g]at aX;have aX:=of_decide_eq_false aX;have qW:Yx ⟨⟨nt,nn,ns,rules⟩,⟨bC,ins,sw⟩,fr,od,new⟩:=by
   refine⟨?_, ?_, ?_, ?_, ?_, ?_⟩<;>simp only<;>omega
  refine aa.skip ?_;simp;have qa:nt<=1000000000000:=by omega
  obtain⟨A,hA⟩:∃A,cA ⟨bC,ins,sw⟩ fr.toNat od.toNat new=A:=⟨_,rfl⟩;have jn:(decide (DD A nt)&&decide (CM ⟨nt,nn,ns,rules⟩ ins))=v:=by
   rw[<-hv,<-Bool.decide_and,decide_eq_decide,c6,show nZ ⟨⟨nt,nn,ns,rules⟩,⟨bC,ins,sw⟩,fr,od,new⟩=A from hA];exact⟨λh=>⟨aX,h⟩,λh=>h.2⟩
  obtain⟨ac,ai,az⟩:=A;refine aa.b7 aw fw [(2,.v (.bool v))] ?_ ?_
  ·by_cases q1:DD ⟨ac,ai,az⟩ nt
   ·simp[d9r3,and_assoc,qW,hA,qa,wJ,qx,q1]at jn⊢;exact jn
   ·simp[d9r3,and_assoc,qW,hA,qa,wJ,qx,q1]at jn⊢;exact jn
  refine aa.ret ?_;simp[Tn]
def gX(x:Input):Prop:=Iw x/\x.aj.length<=60/\x.insert.length<=100/\∀c∈x.aj,c.read.length=x.insert.length
theorem j7{x:Input}(h:gX x):vN (aA x):=by
 obtain⟨h1,h2,h3,h4⟩:=h;have hs:(aA x).aN=2*x.aj.length+1:=rfl;have ha:(aA x).aF=dS x:=rfl;refine⟨by omega,by omega,by rw[ha];have:=yh h3 h2;omega,λa hm=>?_⟩;rw[ha]at hm;have h5:=(Fx h1 h2 a hm).2.2.2.2.2;have h6:=(yg hm).2;omega
theorem UI{x:Input}{t:Int}(h:DD x t)(ht:t<=5):gX x:=by
 have h1:=h.1;have hl:(x.insert.length:Int)=t:=by
  by_cases e:(x.insert.length:Int)=t
  ·exact e
  ·exact absurd (.inr (.inr (.inl e))) h1
 have h2:(x.aj.length:Int)<=60:=by
  by_cases e:(x.aj.length:Int)>60
  ·exact absurd (.inr (.inl e)) h1
  ·omega
 obtain⟨g1,g2,g3,g4⟩:=sk (x:=x) (k:=60) ⟨⟨h2,by omega⟩,by rw[hl];exact h⟩;exact⟨g1,g2,by omega,g4⟩
def eP(l:List Bool):List (List T):=l.map λb=>[.bool b]
@[simp] theorem boolsT_len(l:List Bool):(eP l).length=l.length:=by simp[eP]
theorem BA(l:List Bool)(i:Nat)(b:Bool):eP (l.set i b)=(eP l).set i [.bool b]:=by simp[eP,ZbJ]
theorem lI{l:List Bool}{y:Nat}(h:y<l.length):DM.rowAt (eP l) y=[.bool (l.getD y default)]:=by simp[DM.rowAt,eP,h]
def qi(kept:List Bool)(gD y:Nat):List Bool:=(List.range y).foldl (λk i=>k.set (gD+i) true) kept
theorem uk(kept:List Bool)(gD y:Nat):qi kept gD (y+1)=(qi kept gD y).set (gD+y) true:=by simp[qi,Zax,Zat]
@[simp] theorem Pr(kept:List Bool)(gD y:Nat):(qi kept gD y).length=kept.length:=by
 induction y with
 |zero=>rfl
 |succ y ih=>rw[uk,Zcn,ih]
def tC(nn os ns cf co cn:Int)(s:Nat)(kept:List Bool)(j:Nat):List Bool:=
 if(cL 0 s ((s+j:Nat):Int) cf co cn os).ok then qi kept (bU nn ns (cL 0 s ((s+j:Nat):Int) cf co cn os).f.toNat (cL 0 s ((s+j:Nat):Int) cf co cn os).t.toNat).toNat nn.toNat else kept
def Ps(nn os ns cf co cn:Int)(kept:List Bool)(s:Nat):List Bool:=(List.range (os.toNat-s)).foldl (tC nn os ns cf co cn s) kept
def yS(nn os ns cf co cn:Int)(len:Nat):List Bool:=(List.range os.toNat).foldl (Ps nn os ns cf co cn) (List.replicate len false)
theorem xE(nn os ns cf co cn:Int)(s:Nat)(kept:List Bool)(j:Nat):(tC nn os ns cf co cn s kept j).length=kept.length:=by unfold tC;split<;>simp
theorem sJ{f:List Bool->Nat->List Bool}(h:∀k j,(f k j).length=k.length)(kept:List Bool)(l:List Nat):(l.foldl f kept).length=kept.length:=by
 induction l generalizing kept with
 |nil=>rfl
 |cons a l ih=>rw[Zaz,ih,h]
theorem BB(nn os ns cf co cn:Int)(kept:List Bool)(s:Nat):(Ps nn os ns cf co cn kept s).length=kept.length:=sJ (xE nn os ns cf co cn s) _ _
def lR(l:List Bool):Nat:=(l.filter (!·)).length
theorem yT{l:List Bool}{y:Nat}(h:y<l.length):lR (l.take (y+1))=lR (l.take y)+(if l.getD y default then 0 else 1):=by
 rw[cG h];simp only[lR,List.filter_append,ZaB];cases l.getD y default<;>simp
theorem Pt(l:List Bool):lR l<=l.length:=List.length_filter_le _ _
def vO(k cf co cn:Int):Prop:=cf<0\/co<0\/cn<0\/cf>k\/cn>k-cf
instance(k cf co cn:Int):Decidable (vO k cf co cn):=by unfold vO;infer_instance
def Lq(nn on os ol k co cn:Int):Prop:=co>60\/on≠nn\/os≠2*(k-cn)+1+2*co\/ol≠cQ nn os
instance(nn on os ol k co cn:Int):Decidable (Lq nn on os ol k co cn):=by unfold Lq;infer_instance
structure UR where
 c:bT
 n:Int
 e:Int
def UR.enc(u:UR):T:=.eC [u.c.enc,ti u.n,ti u.e]
def UJ(n:aH)(on os ol:Int)(x:Input)(cf co cn:Int):UR:=
 if vO x.aj.length cf co cn then⟨⟨0,0,[]⟩,0,2⟩else if Lq n.an on os ol x.aj.length co cn then⟨⟨0,0,[]⟩,0,13⟩
 else⟨bR n (aA x),lR (yS n.an os (aA x).aN cf co cn (fQ n (aA x)).length),0⟩
theorem NP{s t cf co cn os k:Int}(h1:¬vO k cf co cn)(h2:os=2*(k-cn)+1+2*co)(h:(cL 0 s t cf co cn os).ok=true):
  0<=(cL 0 s t cf co cn os).f/\(cL 0 s t cf co cn os).f<=(cL 0 s t cf co cn os).t/\(cL 0 s t cf co cn os).t<2*k+1:=by
 unfold vO at h1;unfold cL at h⊢;split at h
 ·cases h
 ·rename_i hb;rw[if_neg hb];unfold j6 at hb;split at h
  ·rename_i he;rw[if_pos he];simp only;unfold Fv at he;split at he<;>omega
  ·rename_i he;rw[if_neg he];split at h
   ·rename_i hf;rw[if_pos hf];simp only;omega
   ·cases h
theorem oS{n:aH}{l:aM}(hn:nF n)(hl:vN l):fM n l (fQ n l):=by
 have:=vP hn hl l.aN.toNat (by have:=hl.1;omega);exact this
abbrev s12:DM.Spec:=cz (λts=>∃a b c,ts=[.agg [.sl (ba a),.sl (aC b),ti c]]/\gX ⟨a,b,c⟩) (fun|[x]=>.agg [ti (aA (CK x)).aN,.sl (bb (aA (CK x)).aF),.sl (aC (aA (CK x)).final)]|_=>.bool false) false
abbrev s11:DM.Spec:=cz (λts=>∃nt nn ns rules ls aF fin,ts=[.agg [ti nt,ti nn,ti ns,.sl (aQ rules)],.agg [ti ls,.sl (bb aF),.sl (aC fin)]]/\nF ⟨nt,nn,ns,rules⟩/\vN ⟨ls,aF,fin⟩)
 (fun|[n,l]=>.agg [ti (nY n).an,ti (um l).aN,.sl (aI (fQ (nY n) (um l)))]|_=>.bool false) false
abbrev s39:DM.Spec:=cz (λts=>∃h f t cf co cn st,ts=[.agg [ti h,ti f,ti t],.agg [ti cf,ti co,ti cn],ti st]/\1<=st/\st<=10000)
 (fun|[.agg [.int _ h,.int _ f,.int _ t],.agg [.int _ cf,.int _ co,.int _ cn],.int _ st]=>.eC [.agg [ti (cL h f t cf co cn st).h,ti (cL h f t cf co cn st).f,ti (cL h f t cf co cn st).t],.bool (cL h f t cf co cn st).ok]|_=>.bool false) true
theorem okU:ay Tryz.prog (aW [(12,s12),(11,s11),(39,s39),(23,s23),(25,s25)]):=by
 refine ay.cons (ay.cons (ay.cons (ay.cons (ay.cons ay.nil ?_) ?_) ?_) ?_) ?_
 ·rintro ts ⟨n,st,f,t,rfl,h1,h2,h3,h4,h5,h6,h7⟩;obtain⟨f,rfl⟩:=Zad h4;obtain⟨t,rfl⟩:=Zad (a:=t) (by omega);exact⟨by simpa using t25 n st f t h1 h2 h3 h5 (by omega) (by omega),λ_=>rfl⟩
 ·rintro ts ⟨n,s,rfl,h1,h2,h3,h4⟩;exact⟨by simpa using t23 n s h1 h2 h3 h4,λ_=>rfl⟩
 ·rintro ts ⟨h,f,t,cf,co,cn,st,rfl,h1,h2⟩;exact⟨by simpa [KR.enc]using t39 h f t cf co cn st h1 h2,λ_=>rfl⟩
 ·rintro ts ⟨nt,nn,ns,rules,ls,aF,fin,rfl,h1,h2⟩;exact⟨by simpa [aH.enc,aM.enc,bT.enc,bR]using t11 ⟨nt,nn,ns,rules⟩ ⟨ls,aF,fin⟩ h1 h2,λh=>by cases h⟩
 ·rintro ts ⟨a,b,c,rfl,h1,h2,h3,h4⟩;exact⟨by simpa [Input.enc,aM.enc]using _root_.Go.Proofs.t14 ⟨a,b,c⟩ h1 h2 h3 h4,λh=>by cases h⟩
theorem t16(n:aH)(on os:Int)(oc:List Cell)(x:Input)(cf co cn:Int)(hn:nF n)(hx:gX x):aT Tryz.prog 16 [n.enc,.agg [ti on,ti os,.sl (aI oc)],x.enc,.agg [ti cf,ti co,ti cn]] (UJ n on os oc.length x cf co cn).enc:=by
 obtain⟨R,hR⟩:∃R,UJ n on os oc.length x cf co cn=R:=⟨_,rfl⟩;rw[hR];unfold UJ at hR;have MY:=j7 hx;have Cx:=oS hn MY;have hns:(aA x).aN=2*x.aj.length+1:=rfl;obtain⟨⟨ls,aF,fin⟩,hL⟩:∃l,aA x=l:=⟨_,rfl⟩;rw[hL]at MY Cx hns hR;obtain⟨D,hD⟩:∃D,fQ n ⟨ls,aF,fin⟩=D:=⟨_,rfl⟩;rw[hD]at Cx hR;have hk60:=hx.2.1;obtain⟨nt,nn,ns,rules⟩:=n;obtain⟨bC,ins,sw⟩:=x;obtain⟨rc,rn,re⟩:=R;have Qy:1<=nn:=hn.1;have Pu:nn<=1000:=hn.2.1;simp only at hns hR hk60;subst hns;have hDl:(D.length:Int)=cQ nn (2*bC.length+1):=Cx.1;have tT:0<=cQ nn (2*(bC.length:Int)+1)/\cQ nn (2*(bC.length:Int)+1)<=1000000000:=by
  have:=iK (nn:=nn) (st:=2*(bC.length:Int)+1) (by omega);have hb:=(dQ (st:=2*(bC.length:Int)+1) (by omega) (2*(bC.length:Int)+1).toNat (by omega));have:=cK (a:=nn) (A:=1000) (b:=pre (2*(bC.length:Int)+1) (2*(bC.length:Int)+1).toNat) (B:=1000000) (by omega) (by omega) hb.1 (by omega);omega
 have aw:=okU;refine c16.ok (by simp) (aK ?_);simp[aH.enc,Input.enc,UR.enc,bT.enc];refine aa.ab aw fw [4,5,6,7,8] ?_;simp[aca];refine aa.le (Le.aD (o:=[(1009,.box [.v (ti 0),.v (ti 0),.aJ])]) (l:=[(4,.v (.box [ti nt,ti nn,ti ns,.sl (aQ rules)])),(5,.v (.box [ti on,ti os,.sl (aI oc)])),(6,.v (.box [.sl (ba bC),.sl (aC ins),ti sw])),(7,.v (.box [ti cf,ti co,ti cn])),(8,.ptr 1009 0)]) (nxt':=1200) ?_ ?_ ?_ ?_) ?_;iterate 4(·simp)
 refine aa.ab aw fw [4,5,6,7,8,11] ?_;simp[acb];refine aa.seq ?_;obtain⟨c1,aX⟩:∃c1:Bool,decide (cf<0\/co<0\/cn<0\/cf>bC.length\/cn>bC.length-cf)=c1:=⟨_,rfl⟩;refine aa.b7 aw fw [(4,.v (.box [ti nt,ti nn,ti ns,.sl (aQ rules)])),(5,.v (.box [ti on,ti os,.sl (aI oc)])),(6,.v (.box [.sl (ba bC),.sl (aC ins),ti sw])),(7,.v (.box [ti cf,ti co,ti cn])),(8,.ptr 1009 0),(11,.v (ti bC.length)),(53,.v (.bool c1))] ?_ ?_
 ·by_cases q1:cf<0
  ·have:c1=true:=by rw[<-aX];simp[q1]
   simp[Bg,and_assoc,q1,this]
  ·skip
   by_cases q2:co<0
   ·have:c1=true:=by rw[<-aX];simp[q2]
    simp[Bg,and_assoc,q1,q2,this]
   ·skip
    by_cases q3:cn<0
    ·have:c1=true:=by rw[<-aX];simp[q3]
     simp[Bg,and_assoc,q1,q2,q3,this]
    ·skip
     by_cases q4:cf>bC.length
     ·have:c1=true:=by rw[<-aX];simp[q4]
      simp[Bg,and_assoc,q1,q2,q3,q4,this]
     ·skip
      have w3:IntKind.i64.wrap ((bC.length:Int)-cf)=(bC.length:Int)-cf:=au (by omega);by_cases q5:cn>bC.length-cf
      ·have:c1=true:=by rw[<-aX];simp[q5]
       simp[Bg,and_assoc,q1,q2,q3,q4,q5,this,w3]
      ·skip
       have:c1=false:=by rw[<-aX];simp[q1,q2,q3,q4,q5]
       simp[Bg,and_assoc,q1,q2,q3,q4,q5,this,w3]
 refine aa.cond rfl (λg1=>?_) (λg1=>?_)
 ·rw[g1]at aX;rw[if_pos (show vO bC.length cf co cn from of_decide_eq_true aX)]at hR;refine aa.ab aw fw [8,9,10] ?_;simp[acd];refine aa.ret ?_;cases hR;simp[Fg]
 ·rw[g1]at aX;have Dk:¬vO bC.length cf co cn:=of_decide_eq_false aX;rw[if_neg Dk]at hR;have hb1x:=Dk;unfold vO at hb1x;refine aa.skip ?_;simp;refine aa.ab aw fw [4,5,6,7,8,12] ?_;simp[ace,au (x:=(bC.length:Int)-cn) (by omega),au (x:=2*((bC.length:Int)-cn)) (by omega),au (x:=2*((bC.length:Int)-cn)+1) (by omega)];refine aa.seq ?_;obtain⟨c1,aX⟩:∃c1:Bool,decide (co>60\/on≠nn\/os≠2*((bC.length:Int)-cn)+1+2*co\/(oc.length:Int)≠cQ nn os)=c1:=⟨_,rfl⟩;refine aa.b7 aw fw [(4,.v (.box [ti nt,ti nn,ti ns,.sl (aQ rules)])),(5,.v (.box [ti on,ti os,.sl (aI oc)])),(6,.v (.box [.sl (ba bC),.sl (aC ins),ti sw])),(7,.v (.box [ti cf,ti co,ti cn])),(8,.ptr 1009 0),(91,.v (.bool c1))] ?_ ?_
  ·by_cases q1:co>60
   ·have:c1=true:=by rw[<-aX];simp[q1]
    simp[Dz,and_assoc,q1,this]
   ·skip
    by_cases q2:on≠nn
    ·have:c1=true:=by rw[<-aX];simp[q2]
     simp[Dz,and_assoc,q1,q2,this]
    ·skip
     have q2:=Classical.not_not.1 q2;have w4:IntKind.i64.wrap (2*co)=2*co:=au (by omega);have w5:IntKind.i64.wrap (2*((bC.length:Int)-cn)+1+2*co)=2*((bC.length:Int)-cn)+1+2*co:=au (by omega);by_cases q3:os≠2*((bC.length:Int)-cn)+1+2*co
     ·have:c1=true:=by rw[<-aX];simp[q3]
      simp[Dz,and_assoc,q1,q2,q3,this,w4,w5]
     ·skip
      have q3:=Classical.not_not.1 q3;have hos:0<=os/\os<=1000:=by omega
      by_cases q4:(oc.length:Int)≠cQ nn os
      ·have:c1=true:=by rw[<-aX];simp[q4]
       simp[Dz,and_assoc,q1,q2,q3,q4,this,w4,w5];rw[<-q3];exact⟨by omega,by omega,by omega,by omega,q4⟩
      ·skip
       have q4:=Classical.not_not.1 q4;have:c1=false:=by rw[<-aX];simp[q1,q2,q3,q4]
       simp[Dz,and_assoc,q1,q2,q3,q4,this,w4,w5];exact⟨by omega,by omega,by omega,by omega⟩
  refine aa.cond rfl (λg2=>?_) (λg2=>?_)
  ·rw[g2]at aX;rw[if_pos (show Lq nn on os oc.length bC.length co cn from of_decide_eq_true aX)]at hR;refine aa.ab aw fw [8,9,10] ?_;simp[acf];refine aa.ret ?_;cases hR;simp[Fg]
  ·rw[g2]at aX;have kp:¬Lq nn on os oc.length bC.length co cn:=of_decide_eq_false aX;rw[if_neg kp]at hR;have hb2x:=kp;unfold Lq at hb2x;refine aa.skip ?_;simp;have hos:1<=os/\os<=1000:=by omega
   have hos2:os=2*((bC.length:Int)-cn)+1+2*co:=by omega
   refine aa.ab aw fw [4,5,7,8,13] ?_;simp[acg,and_assoc,hx,hL,hn,MY,hD];refine aa.le (Le.aD (o:=[(1009,.box [.v (ti 0),.v (ti 0),.aJ])]) (l:=[(4,.v (.box [ti nt,ti nn,ti ns,.sl (aQ rules)])),(5,.v (.box [ti on,ti os,.sl (aI oc)])),(7,.v (.box [ti cf,ti co,ti cn])),(8,.ptr 1009 0),(13,.v (.box [ti nn,ti (2*(bC.length:Int)+1),.sl (aI D)]))]) (nxt':=1800) ?_ ?_ ?_ ?_) ?_;iterate 4(·simp)
   refine aa.ab aw fw [4,5,7,8,13,14] ?_;simp[ach,cF];repeat (refine⟨by omega, ?_⟩)
   refine aa.le (Le.aD (o:=[(1009,.box [.v (ti 0),.v (ti 0),.aJ]),(1901,.arr 0 4 1 (eP (List.replicate D.length false)))]) (l:=[(4,.v (.box [ti nt,ti nn,ti ns,.sl (aQ rules)])),(5,.v (.box [ti on,ti os,.sl (aI oc)])),(7,.v (.box [ti cf,ti co,ti cn])),(8,.ptr 1009 0),(13,.v (.box [ti nn,ti (2*(bC.length:Int)+1),.sl (aI D)])),(14,.bd 1901 0)]) (nxt':=2000) ?_ ?_ ?_ ?_) ?_
   ·simp
   ·simp
   ·simp[eP]
   ·simp
   refine aa.seq ?_;refine aa.ab aw fw [4,5,7,8,13,14,15] ?_;simp[aci];refine aa.block ?_;refine aa.loop (λs:Nat=>⟨DM.look [(4,.v (.box [ti nt,ti nn,ti ns,.sl (aQ rules)])),(5,.v (.box [ti on,ti os,.sl (aI oc)])),(7,.v (.box [ti cf,ti co,ti cn])),(8,.ptr 1009 0),(13,.v (.box [ti nn,ti (2*(bC.length:Int)+1),.sl (aI D)])),(14,.bd 1901 0),(15,.v (ti s))],cE [(1009,.box [.v (ti 0),.v (ti 0),.aJ]),(1901,.arr 0 4 1 (eP ((List.range s).foldl (Ps nn os (2*(bC.length:Int)+1) cf co cn) (List.replicate D.length false))))],2200,1000,[]⟩)
    (λs=>(s:Int)<=os) (λs=>os.toNat-s) 0 (Le.aD ?_ ?_ ?_ ?_) (by omega) (λs hs=>?_)
   iterate 4(·simp)
   obtain⟨K,hK⟩:∃K,(List.range s).foldl (Ps nn os (2*(bC.length:Int)+1) cf co cn) (List.replicate D.length false)=K:=⟨_,rfl⟩;have hKl:K.length=D.length:=by rw[<-hK,sJ (BB nn os _ cf co cn)];simp
   rw[hK];refine aa.seq ?_;refine aa.ab aw fw [4,5,7,8,13,14,15,104] ?_;simp[S4];refine aa.cond rfl (λbK=>?_) (λbK=>?_)
   ·have bK:(s:Int)<os:=by simpa using bK
    refine aa.skip ?_;simp;refine aa.seq ?_;refine aa.block ?_;refine aa.ab aw fw [4,5,7,8,13,14,15,16] ?_;simp[S5];refine aa.block ?_;refine aa.loop (λj:Nat=>⟨DM.look [(4,.v (.box [ti nt,ti nn,ti ns,.sl (aQ rules)])),(5,.v (.box [ti on,ti os,.sl (aI oc)])),(7,.v (.box [ti cf,ti co,ti cn])),(8,.ptr 1009 0),(13,.v (.box [ti nn,ti (2*(bC.length:Int)+1),.sl (aI D)])),(14,.bd 1901 0),(15,.v (ti s)),(16,.v (ti ((s+j:Nat):Int)))],cE [(1009,.box [.v (ti 0),.v (ti 0),.aJ]),(1901,.arr 0 4 1 (eP ((List.range j).foldl (tC nn os (2*(bC.length:Int)+1) cf co cn s) K)))],2600,1000,[]⟩)
     (λj=>(s:Int)+j<=os) (λj=>os.toNat-s-j) 0 (Le.aD ?_ ?_ ?_ ?_) (by omega) (λj hj=>?_)
    iterate 4(·simp)
    obtain⟨J,hJ⟩:∃J,(List.range j).foldl (tC nn os (2*(bC.length:Int)+1) cf co cn s) K=J:=⟨_,rfl⟩;have hJl:J.length=D.length:=by rw[<-hJ,sJ (xE nn os _ cf co cn s),hKl]
    rw[hJ];obtain⟨t,ht⟩:∃t,s+j=t:=⟨_,rfl⟩;rw[ht];refine aa.seq ?_;refine aa.ab aw fw [4,5,7,8,13,14,15,16,111] ?_;simp[S6];refine aa.cond rfl (λh12=>?_) (λh12=>?_)
    ·have h12:(t:Int)<os:=by simpa using h12
     refine aa.skip ?_;simp;refine aa.seq ?_;refine aa.block ?_;obtain⟨⟨kh,kf,kt,kok⟩,qH⟩:∃q,cL 0 s t cf co cn os=q:=⟨_,rfl⟩;have JO:=NP (s:=s) (t:=t) Dk hos2;rw[qH]at JO;refine aa.ab aw fw [4,5,7,8,13,14,15,16,17,18] ?_;simp[S7,and_assoc,qH];repeat (refine⟨by omega, ?_⟩)
     refine aa.le (Le.aD (o:=[(1009,.box [.v (ti 0),.v (ti 0),.aJ]),(1901,.arr 0 4 1 (eP (J)))]) (l:=[(4,.v (.box [ti nt,ti nn,ti ns,.sl (aQ rules)])),(5,.v (.box [ti on,ti os,.sl (aI oc)])),(7,.v (.box [ti cf,ti co,ti cn])),(8,.ptr 1009 0),(13,.v (.box [ti nn,ti (2*(bC.length:Int)+1),.sl (aI D)])),(14,.bd 1901 0),(15,.v (ti s)),(16,.v (ti (t:Int))),(17,.v (.box [ti kh,ti kf,ti kt])),(18,.v (.bool kok))]) (nxt':=3000) ?_ ?_ ?_ ?_) ?_;iterate 4(·simp)
     refine aa.seq ?_;refine aa.ab aw fw [4,5,7,8,13,14,15,16,17,125] ?_;simp[S8];refine aa.cond rfl (λh14=>?_) (λh14=>?_)
     ·have h14:kok=false:=by simpa using h14
      subst h14;have kx:tC nn os (2*(bC.length:Int)+1) cf co cn s J j=J:=by unfold tC;rw[ht,qH];simp
      refine aa.exit ?_;simp;refine aa.dc aw fw [4,5,7,8,13,14,15,16] ?_;simp[KT];rw[au (x:=(t:Int)+1) (by omega)];refine⟨j+1,Le.aD ?_ ?_ ?_ ?_,by omega,by omega⟩
      ·simp
      ·simp
      ·simp[Zax,Zat,hJ,kx]
      ·simp;omega
     ·have h14:kok=true:=by simpa using h14
      subst h14;obtain⟨b1,b2,b3⟩:=JO rfl;simp only at b1 b2 b3;obtain⟨kf,rfl⟩:=Zad b1;obtain⟨kt,rfl⟩:=Zad (a:=kt) (by omega);refine aa.skip ?_;simp;obtain⟨gD,dy⟩:∃q,bU nn (2*(bC.length:Int)+1) kf kt=q:=⟨_,rfl⟩;have Gq:=iL (n:=nn) (st:=(2*(bC.length:Int)+1)) (f:=kf) (t:=kt) (by omega) Pu (by omega) (by omega) (by omega) (by omega);have UK:=λ(i:Int) (hi:i<nn)=>oT (nn:=nn) (st:=(2*(bC.length:Int)+1)) (f:=kf) (t:=kt) (by omega) (by omega) (by omega) hi;rw[dy]at Gq UK;obtain⟨gD,rfl⟩:=Zad Gq.1;have kx:tC nn os (2*(bC.length:Int)+1) cf co cn s J j=qi J gD nn.toNat:=by unfold tC;rw[ht,qH];simp[dy]
      refine aa.ab aw fw [4,5,7,8,13,14,15,16,19] ?_;simp[S9,and_assoc,dy];repeat (refine⟨by omega, ?_⟩)
      refine aa.ab aw fw [4,5,7,8,13,14,15,16,19,20] ?_;simp[Ta];refine aa.block ?_;refine aa.loop (λi:Nat=>⟨DM.look [(4,.v (.box [ti nt,ti nn,ti ns,.sl (aQ rules)])),(5,.v (.box [ti on,ti os,.sl (aI oc)])),(7,.v (.box [ti cf,ti co,ti cn])),(8,.ptr 1009 0),(13,.v (.box [ti nn,ti (2*(bC.length:Int)+1),.sl (aI D)])),(14,.bd 1901 0),(15,.v (ti s)),(16,.v (ti (t:Int))),(19,.v (ti gD)),(20,.v (ti i))],cE [(1009,.box [.v (ti 0),.v (ti 0),.aJ]),(1901,.arr 0 4 1 (eP (qi J gD i)))],4000,1000,[]⟩)
       (λi=>(i:Int)<=nn) (λi=>nn.toNat-i) 0 (Le.aD ?_ ?_ ?_ ?_) (by omega) (λi hi=>?_)
      ·simp
      ·simp
      ·simp[qi]
      ·simp
      refine aa.seq ?_;refine aa.ab aw fw [4,5,7,8,13,14,15,16,19,20,138] ?_;simp[Tb];refine aa.cond rfl (λh17=>?_) (λh17=>?_)
      ·have h17:(i:Int)<nn:=by simpa using h17
       refine aa.skip ?_;simp;refine aa.seq ?_;refine aa.block ?_;have cV:=UK i (by omega);have zp:gD+i<J.length:=by omega
       have rz:=lI (l:=qi J gD i) (y:=gD+i) (by simpa using zp);rw[show((gD+i:Nat):Int)=(gD:Int)+i by omega]at rz;have e2:((gD:Int)+i).toNat=gD+i:=by omega
       have w2:IntKind.i64.wrap ((gD:Int)+i)=((gD+i:Nat):Int):=by rw[au (by omega)];omega
       refine aa.dc aw fw [4,5,7,8,13,14,15,16,19,20] ?_;simp[Tc,w2,zp,rz,e2];repeat (refine⟨by omega, ?_⟩)
       refine aa.dc aw fw [4,5,7,8,13,14,15,16,19,20] ?_;simp[Td];rw[au (x:=(i:Int)+1) (by omega)];refine⟨i+1,Le.aD ?_ ?_ ?_ ?_,by omega,by omega⟩
       ·simp
       ·simp
       ·simp[uk,BA]
       ·simp
      ·have hi2:i=nn.toNat:=by simp at h17;omega
       subst hi2;refine aa.exit ?_;simp;refine aa.dc aw fw [4,5,7,8,13,14,15,16] ?_;simp[KT];rw[au (x:=(t:Int)+1) (by omega)];refine⟨j+1,Le.aD ?_ ?_ ?_ ?_,by omega,by omega⟩
       ·simp
       ·simp
       ·simp[Zax,Zat,hJ,kx]
       ·simp;omega
    ·have h12:¬(t:Int)<os:=by simpa using h12
     have XA:j=os.toNat-s:=by omega
     subst XA;refine aa.exit ?_;simp;refine aa.dc aw fw [4,5,7,8,13,14,15] ?_;simp[Te];rw[au (x:=(s:Int)+1) (by omega)];refine⟨s+1,Le.aD ?_ ?_ ?_ ?_,by omega,by omega⟩
     ·simp
     ·simp
     ·simp[Zax,Zat,hK,Ps,hJ]
     ·simp
   ·have JN:s=os.toNat:=by simp at bK;omega
    subst JN;have hK2:yS nn os (2*(bC.length:Int)+1) cf co cn D.length=K:=hK;rw[hK2]at hR;refine aa.exit ?_;simp;refine aa.ab aw fw [8,13,14,21] ?_;simp[Tf];refine aa.seq ?_;refine aa.ab aw fw [8,13,14,21,22] ?_;simp[Tg];refine aa.block ?_;refine aa.loop (λy:Nat=>⟨DM.look [(8,.ptr 1009 0),(13,.v (.box [ti nn,ti (2*(bC.length:Int)+1),.sl (aI D)])),(14,.bd 1901 0),(21,.v (ti (lR (K.take y):Int))),(22,.v (ti y))],cE [(1009,.box [.v (ti 0),.v (ti 0),.aJ]),(1901,.arr 0 4 1 (eP (K)))],5000,1000,[]⟩)
     (λy=>y<=K.length) (λy=>K.length-y) 0 (Le.aD ?_ ?_ ?_ ?_) (by simp) (λy hy=>?_)
    iterate 3(·simp)
    ·simp[lR]
    refine aa.seq ?_;refine aa.ab aw fw [8,13,14,21,22,149] ?_;simp[Th];refine aa.cond rfl (λh24=>?_) (λh24=>?_)
    ·have h24:y<K.length:=by simpa using h24
     refine aa.skip ?_;simp;refine aa.seq ?_;refine aa.block ?_;have rk:=lI h24;have lz:=yT h24;have bj:=Pt (K.take y);have hcl2:(K.take y).length<=K.length:=by rw[Zaw];omega
     obtain⟨b,hb⟩:∃b,K.getD y default=b:=⟨_,rfl⟩;rw[hb]at rk lz;refine aa.ab aw fw [8,13,14,21,22,156] ?_;simp[Ti,h24,rk];refine aa.cond rfl (λh25=>?_) (λh25=>?_)
     ·have h25:b=false:=by simpa using h25
      subst h25;simp only[ZaK,if_false]at lz;refine aa.dc aw fw [8,13,14,21,22] ?_;simp[Tj,au (x:=(lR (K.take y):Int)+1) (by omega)];refine aa.dc aw fw [8,13,14,21,22] ?_;simp[KU];rw[au (x:=(y:Int)+1) (by omega)];refine⟨y+1,Le.aD ?_ ?_ ?_ ?_,by omega,by omega⟩;iterate 3(·simp)
      ·simp[lz]
     ·have h25:b=true:=by simpa using h25
      subst h25;simp only[if_true,ZbG]at lz;refine aa.skip ?_;simp;refine aa.dc aw fw [8,13,14,21,22] ?_;simp[KU];rw[au (x:=(y:Int)+1) (by omega)];refine⟨y+1,Le.aD ?_ ?_ ?_ ?_,by omega,by omega⟩;iterate 3(·simp)
      ·simp[lz]
    ·have fg:y=K.length:=by simp at h24;omega
     subst fg;rw[Zbd];refine aa.exit ?_;simp;refine aa.ab aw fw [8,9,10] ?_;simp[Tk];refine aa.ret ?_;cases hR;simp[Fg,bR,hD]
inductive eQ(n:aH)(l:aM):Int->Nat->Nat->Nat->Int->br->Prop
 |empty {s k:Nat} {r:bE} (hk:n.rules[k]? =some r) (h1:r.kind=1) (hv:(comb r.bF []).cost<1099511627776):eQ n l r.head s s k s (comb r.bF [])
 |term {s t k a:Nat} {r:bE} {x:bn} (hk:n.rules[k]? =some r) (h1:r.kind=2) (ha:l.aF[a]? =some x) (h2:x.f=s) (h3:x.t=t) (h4:x.term=r.a)
   (hv:(comb (r.bF+x.cost) []).cost<1099511627776):eQ n l r.head s t k a (comb (r.bF+x.cost) [])
 |unary {s t k k1:Nat} {g1:Int} {r:bE} {v:br} (hk:n.rules[k]? =some r) (h1:r.kind=3) (d:eQ n l r.a s t k1 g1 v) (hv:(comb r.bF [v]).cost<1099511627776):eQ n l r.head s t k s (comb r.bF [v])
 |binary {s m t k k1 k2:Nat} {g1 g2:Int} {r:bE} {v w:br} (hk:n.rules[k]? =some r) (h1:r.kind=4) (hs:s<=m) (ht:m<=t) (d1:eQ n l r.a s m k1 g1 v) (d2:eQ n l r.b m t k2 g2 w)
   (hv:(comb r.bF [v,w]).cost<1099511627776):eQ n l r.head s t k m (comb r.bF [v,w])
def Yy(n:aH)(l:aM)(h:Int)(s t:Nat)(v:br):Prop:=∃k g,eQ n l h s t k g v
def vQ(k:Int)(g:Int)(k':Int)(g':Int):Prop:=k<k'\/(k=k'/\g<=g')
structure Good(n:aH)(l:aM)(h:Int)(s t:Nat)(x:Cell):Prop where
 least:∀v,Yy n l h s t v->¬v.lt x.val
 top:x=fc\/((∃k:Nat,x.ez=k/\eQ n l h s t k x.arg x.val)/\∀(k':Nat) g',eQ n l h s t k' g' x.val->vQ x.ez x.arg k' g')
theorem eQ.fin{n:aH}{l:aM}{h:Int}{s t k:Nat}{g:Int}{v:br}(d:eQ n l h s t k g v):v.cost<1099511627776:=by
 cases d<;>assumption
theorem Yy.fin{n:aH}{l:aM}{h:Int}{s t:Nat}{v:br}(d:Yy n l h s t v):v.cost<1099511627776:=by
 obtain⟨k,g,d⟩:=d;exact d.fin
theorem br.antisymm{a b:br}(h1:¬a.lt b)(h2:¬b.lt a):a=b:=by
 obtain⟨a1,a2⟩:=a;obtain⟨b1,b2⟩:=b;simp only[br.lt]at h1 h2;have:a1=b1:=by omega
 have:a2=b2:=by omega
 simp[*]
theorem Cell.ext'{a b:Cell}(h1:a.val=b.val)(h2:a.ez=b.ez)(h3:a.arg=b.arg):a=b:=by
 obtain⟨a1,a2,a3,a4⟩:=a;obtain⟨b1,b2,b3,b4⟩:=b;simp only[Cell.val,br.mk.injEq]at h1 h2 h3;simp[h1,h2,h3]
theorem Good.val_eq{n:aH}{l:aM}{h:Int}{s t:Nat}{x y:Cell}(hx:Good n l h s t x)(hy:Good n l h s t y):x.val=y.val:=by
 have key:∀{x y:Cell},Good n l h s t x->Good n l h s t y->x=fc->x.val=y.val:=by
  intro x y hx hy e;subst e;rcases hy.top with rfl|⟨⟨k,_,d⟩,_⟩
  ·rfl
  ·exact absurd (show y.val.lt fc.val by left;exact d.fin) (hx.least _ ⟨k,_,d⟩)
 rcases hx.top with e|⟨⟨k,_,d⟩,_⟩
 ·exact key hx hy e
 ·rcases hy.top with e|⟨⟨k',_,d'⟩,_⟩
  ·exact(key hy hx e).symm
  ·exact br.antisymm (hy.least _ ⟨k,_,d⟩) (hx.least _ ⟨k',_,d'⟩)
theorem Good.unique{n:aH}{l:aM}{h:Int}{s t:Nat}{x y:Cell}(hx:Good n l h s t x)(hy:Good n l h s t y):x=y:=by
 have hv:=hx.val_eq hy;rcases hx.top with e|⟨⟨k,e1,d⟩,m⟩
 ·rcases hy.top with e'|⟨⟨k',_,d'⟩,_⟩
  ·rw[e,e']
  ·have:=d'.fin;rw[<-hv,e]at this;exact absurd this (by decide)
 ·rcases hy.top with e'|⟨⟨k',e2,d'⟩,m'⟩
  ·have:=d.fin;rw[hv,e']at this;exact absurd this (by decide)
  ·have a:=m k' y.arg (hv▸d');have b:=m' k x.arg (hv▸d);unfold vQ at a b;refine Cell.ext' hv ?_ ?_<;>omega
theorem UL(c:Int)(v:br):comb c [v]=if min (c+v.cost) 1099511627776>=1099511627776 then⟨1099511627776,0⟩else⟨min (c+v.cost) 1099511627776,min (1+v.size) 1099511627776⟩:=rfl
theorem UM(c:Int)(v w:br):comb c [v,w]=if min (min (c+v.cost) 1099511627776+w.cost) 1099511627776>=1099511627776 then⟨1099511627776,0⟩else⟨min (min (c+v.cost) 1099511627776+w.cost) 1099511627776,min (min (1+v.size) 1099511627776+w.size) 1099511627776⟩:=rfl
theorem DE{c:Int}{v:br}(hc:0<=c)(h:(comb c [v]).cost<1099511627776):v.cost<1099511627776:=by
 rw[UL]at h;split at h
 ·simp at h
 ·simp only at h;omega
theorem DF{c:Int}{v w:br}(hc:0<=c)(hv:0<=v.cost)(hw:0<=w.cost)(h:(comb c [v,w]).cost<1099511627776):v.cost<1099511627776/\w.cost<1099511627776:=by
 rw[UM]at h;split at h
 ·simp at h
 ·simp only at h;omega
theorem uo{c:Int}{v v':br}(h:¬v.lt v'):¬(comb c [v]).lt (comb c [v']):=by
 rw[UL,UL];unfold br.lt at h⊢;split<;>split<;>simp only<;>omega
theorem uq{c:Int}{v v' w w':br}(p1:0<=v.cost)(p2:0<=v'.cost)(p3:0<=w.cost)(p4:0<=w'.cost)(hv:¬v.lt v')(hw:¬w.lt w'):¬(comb c [v,w]).lt (comb c [v',w']):=by
 rw[UM,UM];unfold br.lt at hv hw⊢;split<;>split<;>simp only<;>omega
theorem nG{a b c:br}(h:¬b.lt a)(k:¬c.lt b):¬c.lt a:=by
 unfold br.lt at*
 omega
def mZ(n:aH)(l:aM)(c:bT)(own:List Cell)(s t:Nat)(k:Nat)(g:Int)(v:br):Prop:=
 ∃r,n.rules[k]? =some r/\((r.kind=1/\s=t/\g=s/\v=comb r.bF [])\/
  (r.kind=2/\∃(a:Nat) (x:bn),l.aF[a]? =some x/\x.f=s/\x.t=t/\x.term=r.a/\g=a/\v=comb (r.bF+x.cost) [])\/
  (r.kind=3/\g=s/\v=comb r.bF [cD c own s t r.a s t])\/
  (r.kind=4/\∃d:Nat,s+d<=t/\g=s+d/\v=comb r.bF [cD c own s t r.a s (s+d),cD c own s t r.b (s+d) t]))
theorem j8(x:Cell)(v:br)(i g:Int):dF x v i g=x\/(v.cost<1099511627776/\¬x.val.lt v/\dF x v i g=⟨v.cost,v.size,i,g⟩):=by
 unfold dF;split
 ·exact .inl rfl
 ·rename_i h;split
  ·rename_i h2;refine .inr ⟨by omega, ?_,rfl⟩;rcases h2 with h2|⟨rfl,_⟩
   ·unfold br.lt at*;omega
   ·unfold br.lt;omega
  ·exact .inl rfl
theorem pS{x:Cell}{v:br}{i g:Int}(h:dF x v i g=x)(hv:v.cost<1099511627776):¬v.lt x.val/\(v=x.val->vQ x.ez x.arg i g):=by
 obtain⟨xc,xs,xr,xa⟩:=x;obtain⟨vc,vs⟩:=v;unfold dF at h;rw[if_neg (by simp only at hv⊢;omega)]at h;split at h
 ·rename_i h2;simp only[Cell.mk.injEq]at h;obtain⟨rfl,rfl,rfl,rfl⟩:=h;simp only[Cell.val,br.lt]at h2;exfalso;rcases h2 with h2|⟨_,h2⟩<;>omega
 ·rename_i h2;simp only[not_or,not_and]at h2;refine⟨h2.1,λe=>?_⟩;have:=h2.2 e;unfold vQ;simp only at this⊢;omega
theorem vR{n:aH}{l:aM}{c:bT}{own:List Cell}{s t k:Nat}{r:bE}(hk:n.rules[k]? =some r)(QL:r.kind=1\/r.kind=2\/r.kind=3\/r.kind=4)(kx:s<=t)(x:Cell):
  lJ r l c own s t k x=x\/∃g v,mZ n l c own s t k g v/\v.cost<1099511627776/\¬x.val.lt v/\lJ r l c own s t k x=⟨v.cost,v.size,k,g⟩:=by
 have fold:∀(f:Cell->Nat->Cell) (N:Nat),(∀y j,j<N->f y j=y\/∃g v,mZ n l c own s t k g v/\v.cost<1099511627776/\¬y.val.lt v/\f y j=⟨v.cost,v.size,k,g⟩)->
   (List.range N).foldl f x=x\/∃g v,mZ n l c own s t k g v/\v.cost<1099511627776/\¬x.val.lt v/\(List.range N).foldl f x=⟨v.cost,v.size,k,g⟩:=by
  intro f N;induction N with
  |zero=>intro _;exact .inl rfl
  |succ N ih=>
   intro h;rw[Zax,Zat];have ih:=ih λy j hj=>h y j (by omega);simp only[Zaz,ZbV];obtain⟨y,hy⟩:∃y,(List.range N).foldl f x=y:=⟨_,rfl⟩;rw[hy]at ih⊢;rcases h y N (by omega)with e|⟨g,v,h1,h2,h3,h4⟩
   ·rw[e];exact ih
   ·refine .inr ⟨g,v,h1,h2, ?_,h4⟩;rcases ih with rfl|⟨g',v',_,_,h3',rfl⟩
    ·exact h3
    ·have h3'':¬(⟨v'.cost,v'.size⟩:br).lt v:=h3;exact nG h3'' h3'
 have one:∀(y:Cell) (v:br) (g:Int),mZ n l c own s t k g v->dF y v k g=y\/∃g v,mZ n l c own s t k g v/\v.cost<1099511627776/\¬y.val.lt v/\dF y v k g=⟨v.cost,v.size,k,g⟩:=by
  intro y v g hi;rcases j8 y v k g with e|⟨h1,h2,h3⟩
  ·exact .inl e
  ·exact .inr ⟨g,v,hi,h1,h2,h3⟩
 unfold lJ;split
 ·rename_i h1;split
  ·rename_i h2;rcases j8 x (comb r.bF []) k s with e|⟨h3,h4,h5⟩
   ·exact .inl e
   ·exact .inr ⟨_,_,⟨r,hk,.inl ⟨h1,by omega,rfl,rfl⟩⟩,h3,h4,h5⟩
  ·exact .inl rfl
 ·split
  ·rename_i h1;refine fold _ _ λy j hj=>?_;unfold stepT;split
   ·rename_i h2;have ha:l.aF[j]? =some (l.aF.getD j default):=by simp[List.getD,hj]
    rcases j8 y (comb (r.bF+(l.aF.getD j default).cost) []) k j with e|⟨h3,h4,h5⟩
    ·exact .inl e
    ·exact .inr ⟨_,_,⟨r,hk,.inr (.inl ⟨h1,j,_,ha,h2.1,h2.2.1,h2.2.2,rfl,rfl⟩)⟩,h3,h4,h5⟩
   ·exact .inl rfl
  ·split
   ·rename_i h1;rcases j8 x (comb r.bF [cD c own s t r.a s t]) k s with e|⟨h3,h4,h5⟩
    ·exact .inl e
    ·exact .inr ⟨_,_,⟨r,hk,.inr (.inr (.inl ⟨h1,rfl,rfl⟩))⟩,h3,h4,h5⟩
   ·rename_i h1 h2 h3;have h4:r.kind=4:=by omega
    refine fold _ _ λy j hj=>?_;unfold qj;rcases j8 y (comb r.bF [cD c own s t r.a s (s+j),cD c own s t r.b (s+j) t]) k (s+j)with e|⟨h5,h6,h7⟩
    ·exact .inl e
    ·exact .inr ⟨_,_,⟨r,hk,.inr (.inr (.inr ⟨h4,j,by omega,rfl,rfl⟩))⟩,h5,h6,h7⟩
theorem BC{f:Cell->Nat->Cell}:∀{N:Nat},(∀x k,k<N->kV x->goes x (f x k))->∀x,kV x->(List.range N).foldl f x=x->∀k,k<N->f x k=x
 |0,_,_,_,_,k,h=>by omega
 |N+1,hf,x,hx,he,k,hk=>by
  rw[Zax,Zat]at he;simp only[Zaz,ZbV]at he;have h1:=xF (λx k hk=>hf x k (by omega)) x hx (N:=N);obtain⟨z,hz⟩:∃z,(List.range N).foldl f x=z:=⟨_,rfl⟩;rw[hz]at h1 he;have h2:=hf z N (by omega) h1.1;rw[he]at h2;have e:z=x:=by
   rcases h1.2 with e|h1
   ·exact e
   ·rcases h2.2 with e|h2
    ·exact e.symm
    ·omega
  subst e;by_cases hkN:k=N
  ·subst hkN;exact he
  ·exact BC (λx k hk=>hf x k (by omega)) z hx hz k (by omega)
theorem dW{n:aH}(hn:nF n){k:Nat}{r:bE}(h:n.rules[k]? =some r):ur n r/\k<n.rules.length/\n.rules.getD k default=r:=by
 have hk:=(Zas.1 h).1;exact⟨hn.2.2.2 r (Zaq h),hk,by simp[List.getD,h]⟩
theorem DG{n:aH}{r:bE}(h:ur n r):r.kind=1\/r.kind=2\/r.kind=3\/r.kind=4:=by
 obtain⟨_,_,_,_,h⟩:=h;omega
section
variable{n:aH}{l:aM}{c:bT}{s t:Nat}
structure lK(n:aH)(l:aM)(c:bT)(s t:Nat):Prop where
 hn:nF n
 hl:vN l
 hc:CO c
 ar:∀a∈l.aF,a.f<=a.t
 st:s<=t
 tm:t<=1000
 Qz:∀(h:Int) (s' t':Nat),0<=h->h<n.an->s<=s'->s'<=t'->t'<=t->(s'≠s\/t'≠t)->Good n l h s' t' (lN c h s' t')
def PS(n:aH)(l:aM)(c:bT)(s t:Nat)(own:List Cell):Prop:=
 ∀h:Nat,h<own.length->own.getD h default=fc\/(Yy n l h s t (own.getD h default).val/\
  ∃(k:Nat) (g:Int) (v:br),mZ n l c own s t k g v/\(∃r,n.rules[k]? =some r/\r.head=h)/\(own.getD h default).ez=k/\(own.getD h default).arg=g/\¬(own.getD h default).val.lt v)
theorem fU(C:lK n l c s t){own:List Cell}(ho:kW n own){h:Int}(h0:0<=h)(h1:h<n.an)(f t':Int):kU (cD c own s t h f t'):=
 oU ⟨C.hc,by have:=ho.1;have:=C.hn.2.1;omega,λ_=>⟨h0,by have:=ho.1;omega⟩⟩ ho.ok.2
theorem xG(C:lK n l c s t){own:List Cell}(ho:kW n own)(hp:PS n l c s t own){h:Int}{s' t':Nat}(h0:0<=h)(h1:h<n.an)(a1:s<=s')(a2:s'<=t')(a3:t'<=t)
  (hf:(cD c own s t h s' t').cost<1099511627776):Yy n l h s' t' (cD c own s t h s' t'):=by
 obtain⟨h,rfl⟩:=Zad h0;unfold cD at hf⊢;split
 ·rename_i e;rw[if_pos e]at hf;have e1:s'=s:=by omega
  have e2:t'=t:=by omega
  subst e1 e2;simp only[Zai]at hf⊢;rcases hp h (by have:=ho.1;omega)with e|⟨d,_⟩
  ·rw[e]at hf;exact absurd hf (by decide)
  ·exact d
 ·rename_i e;rw[if_neg e]at hf;rcases(C.Qz h s' t' h0 h1 a1 a2 a3 (by omega)).top with e|⟨⟨k,_,d⟩,_⟩
  ·rw[e]at hf;exact absurd hf (by decide)
  ·exact⟨k,_,d⟩
theorem Ix(C:lK n l c s t){own:List Cell}(ho:kW n own)(hp:PS n l c s t own){k:Nat}{g:Int}{v:br}{r:bE}(hk:n.rules[k]? =some r)(h:mZ n l c own s t k g v)(hf:v.cost<1099511627776):eQ n l r.head s t k g v:=by
 obtain⟨r',te,h⟩:=h;rw[hk]at te;cases te;obtain⟨q1,q2,q3,q4,q5⟩:=(dW C.hn hk).1;rcases h with⟨h1,rfl,rfl,rfl⟩|⟨h1,a,x,ha,h2,h3,h4,rfl,rfl⟩|⟨h1,rfl,rfl⟩|⟨h1,d,hd,rfl,rfl⟩
 ·exact eQ.empty hk h1 hf
 ·exact eQ.term hk h1 ha h2 h3 h4 hf
 ·obtain⟨k1,g1,d1⟩:=xG C ho hp (h:=r.a) (by omega) (by omega) (Zae s) C.st (Zae t) (DE q3 hf);exact eQ.unary hk h1 d1 hf
 ·have o1:=fU C ho (h:=r.a) (by omega) (by omega) s (s+d);have o2:=fU C ho (h:=r.b) (by omega) (by omega) (s+d) t;have hff:=DF q3 o1.1 o2.1 hf;have e:((s:Int)+d)=((s+d:Nat):Int):=by omega
  rw[e]at hf hff⊢;obtain⟨k1,g1,d1⟩:=xG C ho hp (h:=r.a) (by omega) (by omega) (Zae s) (by omega) hd hff.1;obtain⟨k2,g2,d2⟩:=xG C ho hp (h:=r.b) (by omega) (by omega) (by omega) hd (Zae t) hff.2;exact eQ.binary hk h1 (by omega) hd d1 d2 hf
theorem DH(C:lK n l c s t){own own':List Cell}(ho:kW n own)(gf:kW n own')(hm:∀(h f t':Int),0<=h->h<n.an->¬(cD c own s t h f t').lt (cD c own' s t h f t')){k:Nat}{g:Int}{v:br}(h:mZ n l c own s t k g v):
  ∃v',mZ n l c own' s t k g v'/\¬v.lt v':=by
 obtain⟨r,hk,h⟩:=h;obtain⟨q1,q2,q3,q4,q5⟩:=(dW C.hn hk).1;rcases h with⟨h1,rfl,rfl,rfl⟩|⟨h1,a,x,ha,h2,h3,h4,rfl,rfl⟩|⟨h1,rfl,rfl⟩|⟨h1,d,hd,rfl,rfl⟩
 ·exact⟨_,⟨r,hk,.inl ⟨h1,rfl,rfl,rfl⟩⟩,by unfold br.lt;omega⟩
 ·exact⟨_,⟨r,hk,.inr (.inl ⟨h1,a,x,ha,h2,h3,h4,rfl,rfl⟩)⟩,by unfold br.lt;omega⟩
 ·exact⟨_,⟨r,hk,.inr (.inr (.inl ⟨h1,rfl,rfl⟩))⟩,uo (hm _ _ _ (by omega) (by omega))⟩
 ·refine⟨_,⟨r,hk,.inr (.inr (.inr ⟨h1,d,hd,rfl,rfl⟩))⟩,uq ?_ ?_ ?_ ?_ (hm _ _ _ (by omega) (by omega)) (hm _ _ _ (by omega) (by omega))⟩
  ·exact(fU C ho (by omega) (by omega) _ _).1
  ·exact(fU C gf (by omega) (by omega) _ _).1
  ·exact(fU C ho (by omega) (by omega) _ _).1
  ·exact(fU C gf (by omega) (by omega) _ _).1
theorem Iy{own:List Cell}{i h:Nat}{y:Cell}(hi:i<own.length):(own.set i y).getD h default=if h=i then y else own.getD h default:=by
 simp only[List.getD,Zbx];by_cases e:i=h
 ·subst e;simp[hi]
 ·have e':¬h=i:=λx=>e x.symm;simp[e,e']
theorem NQ(C:lK n l c s t){own:List Cell}{k:Nat}(ho:kW n own)(hk:k<n.rules.length)(hp:PS n l c s t own):PS n l c s t (oV n l c s t own k):=by
 have gf:=(BD C.hn C.hl C.hc ho hk C.st C.tm).1;have hr:n.rules[k]? =some (n.rules.getD k default):=by simp[List.getD,hk]
 obtain⟨r,er⟩:∃r,n.rules.getD k default=r:=⟨_,rfl⟩;unfold oV at gf⊢;unfold dL at gf⊢;rw[er]at hr gf⊢;have jW:=(dW C.hn hr).1;obtain⟨hd,ehd⟩:=Zad jW.1;have jt:hd<own.length:=by have:=ho.1;have:=jW.2.1;omega
 rw[ehd]at gf⊢;simp only[Zai]at gf⊢;obtain⟨x,hx⟩:∃x,own.getD hd default=x:=⟨_,rfl⟩;rw[hx]at gf⊢;rcases vR (c:=c) (own:=own) hr (DG jW) C.st x with e|⟨g,v,hi,hf,hle,e⟩
 ·rw[e,<-hx,BE rfl];exact hp
 ·rw[e]at gf⊢;have hm:∀(h f t':Int),0<=h->h<n.an->¬(cD c own s t h f t').lt (cD c (own.set hd ⟨v.cost,v.size,k,g⟩) s t h f t'):=by
   intro h f t' h0 h1;unfold cD;split
   ·rw[Iy jt];split
    ·rename_i e2;rw[e2,hx];exact hle
    ·unfold br.lt;omega
   ·unfold br.lt;omega
  have hder:=Ix C ho hp hr hi hf;intro h hh;rw[Iy jt];split
  ·rename_i e2;subst e2;obtain⟨v',nB,Pv⟩:=DH C ho gf hm hi;exact .inr ⟨⟨k,g,by rw[<-ehd];exact hder⟩,k,g,v',nB,⟨r,hr,ehd⟩,rfl,rfl,Pv⟩
  ·rcases hp h (by simpa using hh)with e3|⟨d,k1,g1,v1,hi1,lX,h2,h3,h4⟩
   ·exact .inl e3
   ·obtain⟨v',nB,Pv⟩:=DH C ho gf hm hi1;exact .inr ⟨d,k1,g1,v',nB,lX,h2,h3,nG Pv h4⟩
theorem NR(C:lK n l c s t):PS n l c s t (CP n):=by
 intro h hh;left;have hh:h<n.an.toNat:=by simpa [CP]using hh
 simp[CP,List.getD,hh]
theorem BF(C:lK n l c s t){own:List Cell}(ho:kW n own)(zl:Lr n l c s t own){k:Nat}{g:Int}{v:br}{r:bE}(hk:n.rules[k]? =some r)(h:mZ n l c own s t k g v)(hf:v.cost<1099511627776):
  ¬v.lt (own.getD r.head.toNat default).val/\(v=(own.getD r.head.toNat default).val->vQ (own.getD r.head.toNat default).ez (own.getD r.head.toNat default).arg k g):=by
 obtain⟨r',te,h⟩:=h;rw[hk]at te;cases te;obtain⟨jW,QA,hkd⟩:=dW C.hn hk;have Gp:=zl k QA;unfold dL at Gp;rw[hkd]at Gp;obtain⟨q1,q2,q3,q4,q5⟩:=jW;have Ri:kV (own.getD r.head.toNat default):=ho.2 _ (bw (by have:=ho.1;omega));obtain⟨x,hx⟩:∃x,own.getD r.head.toNat default=x:=⟨_,rfl⟩;rw[hx]at Gp Ri⊢;have hk6:=C.hn.2.2.1;have wJ:=C.hl.2.2.1;have kx:=C.st;have jd:=C.tm;unfold lJ at Gp;rcases h with⟨h1,rfl,rfl,rfl⟩|⟨h1,a,y,ha,h2,h3,h4,rfl,rfl⟩|⟨h1,rfl,rfl⟩|⟨h1,d,hd,rfl,rfl⟩
 ·rw[if_pos h1,if_pos rfl]at Gp;exact pS Gp hf
 ·rw[if_neg (by omega),if_pos h1]at Gp;have ky:=(Zas.1 ha).1;have Xy:l.aF.getD a default=y:=by simp[List.getD,ha]
  have:=BC (λx k hk hx=>by
   unfold stepT;split
   ·have:=C.hl.2.2.2 (l.aF.getD k default) (bw hk);exact jE hx (iJ vS (by omega) (by omega)) (by omega) (by omega) (by omega) (by omega)
   ·exact sL hx) x Ri Gp a ky
  unfold stepT at this;rw[Xy,if_pos ⟨h2,h3,h4⟩]at this;exact pS this hf
 ·rw[if_neg (by omega),if_neg (by omega),if_pos h1]at Gp;exact pS Gp hf
 ·rw[if_neg (by omega),if_neg (by omega),if_neg (by omega)]at Gp;have:=BC (λx k hk hx=>by
   unfold qj;refine jE hx (iJ (λv hv=>?_) q3 (by omega)) (by omega) (by omega) (by omega) (by omega);simp only[Zag,Zap,or_false]at hv;rcases hv with rfl|rfl<;>exact fU C ho (by omega) (by omega) _ _) x Ri Gp d (by omega)
  unfold qj at this;exact pS this hf
theorem eQ.le(ha:∀a∈l.aF,a.f<=a.t){h:Int}{s' t' k:Nat}{g:Int}{v:br}(d:eQ n l h s' t' k g v):s'<=t':=by
 induction d with
 |empty _ _ _=>exact Zae _
 |term _ _ hx h2 h3 _ _=>have:=ha _ (Zaq hx);omega
 |unary _ _ _ _ ih=>exact ih
 |binary _ _ _ _ _ _ _ ih1 OX=>omega
theorem eQ.pos(hn:nF n)(hl:vN l){h:Int}{s' t' k:Nat}{g:Int}{v:br}(d:eQ n l h s' t' k g v):kU v:=by
 induction d with
 |empty hk _ _=>exact iJ vS (dW hn hk).1.2.2.1 (by have:=(dW hn hk).1.2.2.2.1;omega)
 |term hk _ hx _ _ _ _=>exact iJ vS (by have:=(dW hn hk).1.2.2.1;have:=hl.2.2.2 _ (Zaq hx);omega) (by have:=(dW hn hk).1.2.2.2.1;have:=hl.2.2.2 _ (Zaq hx);omega)
 |unary hk _ _ _ ih=>exact iJ (λv hv=>by simp only[Zah]at hv;subst hv;exact ih) (dW hn hk).1.2.2.1 (by have:=(dW hn hk).1.2.2.2.1;omega)
 |binary hk _ _ _ _ _ _ ih1 OX=>exact iJ (λv hv=>by simp only[Zag,Zap,or_false]at hv;rcases hv with rfl|rfl<;>assumption) (dW hn hk).1.2.2.1 (by have:=(dW hn hk).1.2.2.2.1;omega)
theorem Iz(C:lK n l c s t){own:List Cell}(ho:kW n own)(zl:Lr n l c s t own){h:Int}{s' t' k:Nat}{g:Int}{v:br}(d:eQ n l h s' t' k g v):
  s<=s'->t'<=t->¬v.lt (cD c own s t h s' t'):=by
 have out:∀{h:Int} {s' t':Nat} {v:br},0<=h->h<n.an->s<=s'->s'<=t'->t'<=t->(s'≠s\/t'≠t)->Yy n l h s' t' v->¬v.lt (cD c own s t h s' t'):=by
  intro h s' t' v h0 h1 a1 a2 a3 bH d;unfold cD;rw[if_neg (by omega)];exact(C.Qz h s' t' h0 h1 a1 a2 a3 bH).least v d
 have onn:∀{r:bE} {k:Nat} {g:Int} {v v':br},n.rules[k]? =some r->mZ n l c own s t k g v'->¬v.lt v'->v.cost<1099511627776->¬v.lt (cD c own s t r.head s t):=by
  intro r k g v v' hk hi hle hf;unfold cD;rw[if_pos ⟨rfl,rfl⟩];have UN:v'.cost<1099511627776:=by unfold br.lt at hle;omega
  exact nG (BF C ho zl hk hi UN).1 hle
 induction d with
 | @empty s0 k r hk h1 hv=>
  intro a1 a2;obtain⟨q1,q2,q3,q4,q5⟩:=(dW C.hn hk).1;by_cases e:s0=s/\s0=t
  ·obtain⟨rfl,rfl⟩:=e;exact onn hk ⟨r,hk,.inl ⟨h1,rfl,rfl,rfl⟩⟩ (by unfold br.lt;omega) hv
  ·exact out q1 q2 a1 (Zae _) a2 (by omega) ⟨k,_,eQ.empty hk h1 hv⟩
 | @term s0 t0 k a r x hk h1 ha h2 h3 h4 hv=>
  intro a1 a2;obtain⟨q1,q2,q3,q4,q5⟩:=(dW C.hn hk).1;by_cases e:s0=s/\t0=t
  ·obtain⟨rfl,rfl⟩:=e;exact onn hk ⟨r,hk,.inr (.inl ⟨h1,a,x,ha,h2,h3,h4,rfl,rfl⟩)⟩ (by unfold br.lt;omega) hv
  ·exact out q1 q2 a1 (by have:=C.ar x (Zaq ha);omega) a2 (by omega) ⟨k,_,eQ.term hk h1 ha h2 h3 h4 hv⟩
 | @unary s0 t0 k k1 g1 r v hk h1 d hv ih=>
  intro a1 a2;obtain⟨q1,q2,q3,q4,q5⟩:=(dW C.hn hk).1;by_cases e:s0=s/\t0=t
  ·obtain⟨rfl,rfl⟩:=e;exact onn hk ⟨r,hk,.inr (.inr (.inl ⟨h1,rfl,rfl⟩))⟩ (uo (ih (Zae _) (Zae _))) hv
  ·exact out q1 q2 a1 (d.le C.ar) a2 (by omega) ⟨k,_,eQ.unary hk h1 d hv⟩
 | @binary s0 m t0 k k1 k2 g1 g2 r v w hk h1 hs ht d1 d2 hv ih1 OX=>
  intro a1 a2;obtain⟨q1,q2,q3,q4,q5⟩:=(dW C.hn hk).1;by_cases e:s0=s/\t0=t
  ·obtain⟨rfl,rfl⟩:=e;have em:(m:Int)=(s0:Int)+((m-s0:Nat):Int):=by omega
   refine onn hk ⟨r,hk,.inr (.inr (.inr ⟨h1,m-s0,by omega,rfl,rfl⟩))⟩ (uq ?_ ?_ ?_ ?_ ?_ ?_) hv
   ·exact(d1.pos C.hn C.hl).1
   ·exact(fU C ho (by omega) (by omega) _ _).1
   ·exact(d2.pos C.hn C.hl).1
   ·exact(fU C ho (by omega) (by omega) _ _).1
   ·rw[<-em];exact ih1 (Zae _) ht
   ·rw[<-em];exact OX hs (Zae _)
  ·exact out q1 q2 a1 (by omega) a2 (by omega) ⟨k,_,eQ.binary hk h1 hs ht d1 d2 hv⟩
theorem UO(C:lK n l c s t){own:List Cell}(ho:kW n own)(zl:Lr n l c s t own){h:Int}{k:Nat}{g:Int}{v:br}(d:eQ n l h s t k g v):
  ∃r v',n.rules[k]? =some r/\r.head=h/\mZ n l c own s t k g v'/\¬v.lt v':=by
 have hle:=λ{h:Int} {s' t' k:Nat} {g:Int} {v:br} (d:eQ n l h s' t' k g v)=>Iz C ho zl d;cases d with
 | @empty s0 k r hk h1 hv=>exact⟨r,_,hk,rfl,⟨r,hk,.inl ⟨h1,rfl,rfl,rfl⟩⟩,by unfold br.lt;omega⟩
 | @term s0 t0 k a r x hk h1 ha h2 h3 h4 hv=>exact⟨r,_,hk,rfl,⟨r,hk,.inr (.inl ⟨h1,a,x,ha,h2,h3,h4,rfl,rfl⟩)⟩,by unfold br.lt;omega⟩
 | @unary s0 t0 k k1 g1 r v hk h1 d hv=>
  exact⟨r,_,hk,rfl,⟨r,hk,.inr (.inr (.inl ⟨h1,rfl,rfl⟩))⟩,uo (hle d (Zae _) (Zae _))⟩
 | @binary s0 m t0 k k1 k2 g1 g2 r v w hk h1 hs ht d1 d2 hv=>
  obtain⟨q1,q2,q3,q4,q5⟩:=(dW C.hn hk).1;have em:(m:Int)=(s:Int)+((m-s:Nat):Int):=by omega
  refine⟨r,_,hk,rfl,⟨r,hk,.inr (.inr (.inr ⟨h1,m-s,by omega,em,rfl⟩))⟩,uq ?_ ?_ ?_ ?_ ?_ ?_⟩
  ·exact(d1.pos C.hn C.hl).1
  ·exact(fU C ho (by omega) (by omega) _ _).1
  ·exact(d2.pos C.hn C.hl).1
  ·exact(fU C ho (by omega) (by omega) _ _).1
  ·rw[<-em];exact hle d1 (Zae _) ht
  ·rw[<-em];exact hle d2 hs (Zae _)
theorem IA(C:lK n l c s t){own:List Cell}(ho:kW n own)(hp:PS n l c s t own)(zl:Lr n l c s t own)(h:Nat)(hh:(h:Int)<n.an):Good n l h s t (own.getD h default):=by
 have hl:h<own.length:=by have:=ho.1;omega
 have c6:cD c own s t h s t=(own.getD h default).val:=by unfold cD;rw[if_pos ⟨rfl,rfl⟩];rfl
 refine⟨λv ⟨k,g,d⟩=>?_, ?_⟩
 ·rw[<-c6];exact Iz C ho zl d (Zae _) (Zae _)
 ·rcases hp h hl with e|⟨hd,k,g,v,hi,⟨r,hk,hr⟩,h2,h3,hle⟩
  ·exact .inl e
  ·right;have hf:=hd.fin;have hvf:v.cost<1099511627776:=by unfold br.lt at hle;omega
   have hx:=BF C ho zl hk hi hvf;rw[hr]at hx;simp only[Zai]at hx;have he:v=(own.getD h default).val:=br.antisymm hx.1 hle;refine⟨⟨k,h2, ?_⟩,λk' g' d=>?_⟩
   ·have:=Ix C ho hp hk hi hvf;rw[hr,he]at this;rw[h3];exact this
   ·obtain⟨r',v',te,ff,nB,Pv⟩:=UO C ho zl d;have hvf':v'.cost<1099511627776:=by unfold br.lt at Pv;omega
    have fJ:=BF C ho zl te nB hvf';rw[ff]at fJ;simp only[Zai]at fJ;exact fJ.2 (br.antisymm fJ.1 Pv)
theorem xH(C:lK n l c s t)(h:Nat)(hh:(h:Int)<n.an):Good n l h s t ((jm n l c s t).getD h default):=by
 obtain⟨h1,h2,h3⟩:=BG C.hn C.hl C.hc C.st C.tm (PS n l c s t) (NR C) (λown k ho hk hp=>NQ C ho hk hp);exact IA C h1 h2 h3 h hh
end
abbrev s18:DM.Spec:=cz (λts=>∃h f t cf co cn st,ts=[.agg [ti h,ti f,ti t],.agg [ti cf,ti co,ti cn],ti st]/\1<=st/\st<=10000)
 (fun|[.agg [.int _ h,.int _ f,.int _ t],.agg [.int _ cf,.int _ co,.int _ cn],.int _ st]=>.eC [.agg [ti (cL h f t cf co cn st).h,ti (cL h f t cf co cn st).f,ti (cL h f t cf co cn st).t],.bool (cL h f t cf co cn st).ok]|_=>.bool false) true
theorem ok18{l:List (Nat×DM.Spec)}(h:ay Tryz.prog (aW l)):ay Tryz.prog (aW ((18,s18)::l)):=by
 refine ay.cons h ?_;rintro ts ⟨h,f,t,cf,co,cn,st,rfl,h1,h2⟩;exact⟨by simpa [KR.enc]using t18 h f t cf co cn st h1 h2,λ_=>rfl⟩
theorem t13e:aT Tryz.prog 13 [.agg [ti 1,ti 1,ti 0,.sl []],.agg [ti 0,ti 0,.sl []],.agg [.sl [],.sl [[ti 1]],ti 0],.agg [ti 0,ti 0,ti 0]] (.eC [.agg [ti 0,ti 0,.sl []],ti 0,ti 13]):=by
 have aw:=dZ;refine c13.ok (by simp) (aK ?_);simp;refine aa.ab aw fw [4,5,6,7,8,9,10] ?_;simp[Tp];refine aa.le (Le.aD (o:=[(1009,.box [.v (ti 0),.v (ti 0),.aJ])]) (l:=[(4,.v (.box [ti 1,ti 1,ti 0,.sl []])),(5,.v (.box [ti 0,ti 0,.sl []])),(6,.v (.box [.sl [],.sl [[ti 1]],ti 0])),(7,.v (.box [ti 0,ti 0,ti 0])),(8,.ptr 1009 0),(9,(.v (.int .i64 0))),(10,(.v (.int .i64 0)))]) (nxt':=1200) ?_ ?_ ?_ ?_) ?_;iterate 4(·simp)
 refine aa.ab aw fw [4,5,6,7,8,11] ?_;simp[Tq];refine aa.seq ?_;refine aa.b7 aw fw [(4,.v (.box [ti 1,ti 1,ti 0,.sl []])),(5,.v (.box [ti 0,ti 0,.sl []])),(6,.v (.box [.sl [],.sl [[ti 1]],ti 0])),(7,.v (.box [ti 0,ti 0,ti 0])),(8,.ptr 1009 0),(11,.v (ti 0)),(53,.v (.bool false))] ?_ ?_
 ·simp[Tr]
 refine aa.cond rfl (λg=>?_) (λg=>?_)
 ·exact absurd g (by simp)
 ·refine aa.skip ?_;simp;refine aa.seq ?_;refine aa.b7 aw fw [(4,.v (.box [ti 1,ti 1,ti 0,.sl []])),(5,.v (.box [ti 0,ti 0,.sl []])),(6,.v (.box [.sl [],.sl [[ti 1]],ti 0])),(7,.v (.box [ti 0,ti 0,ti 0])),(8,.ptr 1009 0),(95,.v (.bool true))] ?_ ?_
  ·simp[Ts]
  refine aa.cond rfl (λg2=>?_) (λg2=>?_)
  ·refine aa.ab aw fw [8,9,10] ?_;simp[acJ];refine aa.ret ?_;simp[KX]
  ·refine aa.skip ?_;simp;exact absurd g2 (by simp)
abbrev s13e:DM.Spec:=cz (λts=>ts=[.agg [ti 1,ti 1,ti 0,.sl []],.agg [ti 0,ti 0,.sl []],.agg [.sl [],.sl [[ti 1]],ti 0],.agg [ti 0,ti 0,ti 0]]) (λ_=>.eC [.agg [ti 0,ti 0,.sl []],ti 0,ti 13]) false
theorem okA:ay Tryz.prog (aW [(18,s18),(13,s13e)]):=by
 refine ok18 (ay.cons ay.nil ?_);rintro ts rfl;exact⟨t13e,λh=>by cases h⟩
theorem kA:cL 2 0 2 1 1 1 7=⟨2,0,2,true⟩:=rfl
theorem kB:cL 1 4 6 1 1 1 7=⟨1,4,6,true⟩:=rfl
theorem kC:cL 0 2 4 1 1 1 7=⟨0,0,0,false⟩:=rfl
theorem kD:cL 0 0 1 1 1 1 7=⟨0,0,0,false⟩:=rfl
theorem kE:cL 0 4 6 1 0 2 7=⟨0,8,10,true⟩:=rfl
theorem t10:aT Tryz.prog 10 [] (.bool true):=by
 have aw:=okA;refine c10.ok (by simp) (aK ?_);simp;refine aa.ab aw fw [] ?_;simp[acn];refine aa.ab aw fw [1] ?_;simp[aco];refine aa.ab aw fw [1,2,3] ?_;simp[acp,kA];refine⟨⟨_,_,_,_,_,_,_,⟨⟨rfl,rfl,rfl⟩,⟨rfl,rfl,rfl⟩,rfl⟩,by omega,by omega⟩, ?_⟩;try simp only[kA,kB,kC,kD,kE]
 refine aa.ab aw fw [1,2,3,4,5] ?_;simp[acq,kB];refine⟨⟨_,_,_,_,_,_,_,⟨⟨rfl,rfl,rfl⟩,⟨rfl,rfl,rfl⟩,rfl⟩,by omega,by omega⟩, ?_⟩;try simp only[kA,kB,kC,kD,kE]
 refine aa.ab aw fw [1,2,3,4,5,7] ?_;simp[acr,kC];refine⟨⟨_,_,_,_,_,_,_,⟨⟨rfl,rfl,rfl⟩,⟨rfl,rfl,rfl⟩,rfl⟩,by omega,by omega⟩, ?_⟩;try simp only[kA,kB,kC,kD,kE]
 refine aa.ab aw fw [2,3,4,5,7,9] ?_;simp[acs,kD];refine⟨⟨_,_,_,_,_,_,_,⟨⟨rfl,rfl,rfl⟩,⟨rfl,rfl,rfl⟩,rfl⟩,by omega,by omega⟩, ?_⟩;try simp only[kA,kB,kC,kD,kE]
 refine aa.ab aw fw [2,3,4,5,7,9,10,11] ?_;simp[acu,kE];refine⟨⟨_,_,_,_,_,_,_,⟨⟨rfl,rfl,rfl⟩,⟨rfl,rfl,rfl⟩,rfl⟩,by omega,by omega⟩, ?_⟩;try simp only[kA,kB,kC,kD,kE]
 refine aa.ab aw fw [2,3,4,5,7,9,10,11,14] ?_;simp[acv];refine⟨by first|rfl|simp[chunk], ?_⟩;refine aa.ab aw fw [0] ?_;simp[acw];refine aa.ret ?_;simp[To]
theorem IB{p p' nn h h':Int}(a1:0<=h)(a2:h<nn)(b1:0<=h')(b2:h'<nn)(e:p*nn+h=p'*nn+h'):p=p'/\h=h':=by
 have key:∀{p p' h h':Int},0<=h->h<nn->0<=h'->h'<nn->p*nn+h=p'*nn+h'->¬p<p':=by
  intro p p' h h' a1 a2 b1 b2 e cV;have h1:(p+1)*nn<=p'*nn:=Zb0 (by omega) (by omega);have h2:(p+1)*nn=p*nn+nn:=by grind
  omega
 have h1:=key a1 a2 b1 b2 e;have h2:=key b1 b2 a1 a2 e.symm;have:p=p':=by omega
 subst this;exact⟨rfl,by omega⟩
theorem DI{nn st:Int}{s t s' t':Nat}{h h':Int}(a1:0<=h)(a2:h<nn)(b1:0<=h')(b2:h'<nn)(c1:s<=t)(c2:(t:Int)<st)(d1:s'<=t')(d2:(t':Int)<st)
  (e:bU nn st s t+h=bU nn st s' t'+h'):s=s'/\t=t'/\h=h':=by
 unfold bU at e;obtain⟨e1,e2⟩:=IB a1 a2 b1 b2 e;have key:∀{s t s' t':Nat},s<=t->(t:Int)<st->s'<=t'->(t':Int)<st->pre st s+t-s=pre st s'+t'-s'->¬s<s':=by
  intro s t s' t' c1 c2 d1 d2 e cV;have:=BH (st:=st) (f:=s+1) (k:=s') (by omega) (by omega);simp only[pre]at this;omega
 have h1:=key c1 c2 d1 d2 e1;have h2:=key d1 d2 c1 c2 e1.symm;have:s=s':=by omega
 subst this;exact⟨rfl,by omega,e2⟩
theorem UP(cells own:List Cell)(gD y:Nat)(hl:gD+y<=cells.length)(i:Nat)(d:Cell):(mm cells own gD y).getD i d=if gD<=i/\i<gD+y then own.getD (i-gD) default else cells.getD i d:=by
 induction y with
 |zero=>simp only[mm,List.range_zero,ZbV];rw[if_neg (by omega)]
 |succ y ih=>
  rw[mz];have ih:=ih (by omega);by_cases e:i=gD+y
  ·subst e;rw[if_pos (by omega),show gD+y-gD=y by omega];simp only[List.getD,Zbx,vT];rw[if_pos trivial,if_pos (by omega)];rfl
  ·have:((mm cells own gD y).set (gD+y) (own.getD y default)).getD i d=(mm cells own gD y).getD i d:=by
    simp only[List.getD,Zbx];rw[if_neg (λx=>e x.symm)]
   rw[this,ih];by_cases h:gD<=i/\i<gD+y
   ·rw[if_pos h,if_pos (by omega)]
   ·rw[if_neg h,if_neg (by omega)]
section
variable{n:aH}{l:aM}
theorem UQ{c:bT}{h:Int}{s t:Nat}(h0:0<=h)(h1:h<c.an)(c1:s<=t)(c2:(t:Int)<c.aN):lN c h s t=c.cells.getD (bU c.an c.aN s t+h).toNat fc:=by
 unfold lN;rw[if_neg (by omega)];simp
def IC(n:aH)(l:aM)(cells:List Cell)(len f:Nat):Prop:=
 ∀(h:Int) (s t:Nat),0<=h->h<n.an->s<=t->(t:Int)<l.aN->(t-s<len\/(t-s=len/\s<f))->Good n l h s t (lN ⟨n.an,l.aN,cells⟩ h s t)
theorem Pw(hn:nF n)(hl:vN l)(ha:∀a∈l.aF,a.f<=a.t){cells:List Cell}{len f:Nat}(hc:fM n l cells)(hf:((f+len:Nat):Int)<l.aN)(hd:IC n l cells len f):IC n l (rY n l len cells f) len (f+1):=by
 have h1:=hn.1;have h2:=hn.2.1;have h3:=hl.1;have h4:=hl.2.1;have C:lK n l ⟨n.an,l.aN,cells⟩ f (f+len):=⟨hn,hl,hc.ok hn hl,ha,by omega,by omega,λh s' t' a1 a2 a3 a4 a5 a6=>hd h s' t' a1 a2 a4 (by omega) (by omega)⟩;have hg:=xH C;have eX:=vU hn hl C.hc C.st C.tm;rw[show((f+len:Nat):Int)=(f:Int)+len by omega]at hg eX;obtain⟨own,ho⟩:∃own,jm n l ⟨n.an,l.aN,cells⟩ f ((f:Int)+len)=own:=⟨_,rfl⟩;rw[ho]at hg eX;have Gq:=iL (n:=n.an) (st:=l.aN) (f:=f) (t:=f+len) (by omega) h2 h4 (by omega) (by omega) (by omega);have cV:=oT (nn:=n.an) (st:=l.aN) (f:=f) (t:=f+len) (by omega) (by omega) (by omega) (i:=n.an-1) (by omega);have bj:=hc.1;intro h s t a1 a2 a3 a4 a5;unfold rY;rw[ho,UQ a1 a2 a3 a4];simp only;have hsb:=iL (n:=n.an) (st:=l.aN) (f:=s) (t:=t) (by omega) h2 h4 (by omega) (by omega) (by omega);rw[UP _ _ _ _ (by omega)];split
 ·rename_i e;have hx:bU n.an l.aN s t+h=bU n.an l.aN f (f+len)+(((bU n.an l.aN s t+h).toNat-(bU n.an l.aN f (f+len)).toNat:Nat):Int):=by omega
  obtain⟨e1,e2,e3⟩:=DI a1 a2 (by omega) (by omega) a3 a4 (by omega) (by omega) hx;subst e1 e2;obtain⟨h,rfl⟩:=Zad a1;have e4:(bU n.an l.aN s (s+len)+(h:Int)).toNat-(bU n.an l.aN s (s+len)).toNat=h:=by omega
  rw[e4];exact hg h a2
 ·rename_i e;have bH:¬(s=f/\t=f+len):=by
   rintro⟨rfl,rfl⟩;omega
  have:=hd h s t a1 a2 a3 a4 (by omega);rw[UQ a1 a2 a3 a4]at this;exact this
theorem BI(hn:nF n)(hl:vN l)(ha:∀a∈l.aF,a.f<=a.t){cells:List Cell}{len:Nat}(hc:fM n l cells)(hd:IC n l cells len 0):∀k,((k+len:Nat):Int)<=l.aN->IC n l ((List.range k).foldl (rY n l len) cells) len k
 |0,_=>hd
 |k+1,hk=>by
  rw[Zax,Zat];have h4:=hl.2.1;exact Pw hn hl ha (vV hn hl hc k (by omega)) (by omega) (BI hn hl ha hc hd k (by omega))
theorem DJ(hn:nF n)(hl:vN l)(ha:∀a∈l.aF,a.f<=a.t):∀k:Nat,(k:Int)<=l.aN->IC n l ((List.range k).foldl (ID n l) (List.replicate (cQ n.an l.aN).toNat ⟨0,0,0,0⟩)) k 0:=by
 intro k;induction k with
 |zero=>
  intro _ h s t a1 a2 a3 a4 a5;omega
 |succ k ih=>
  intro hk;rw[Zax,Zat];have h4:=hl.2.1;have:=BI hn hl ha (vP hn hl k (by omega)) (ih (by omega)) (l.aN.toNat-k) (by omega);intro h s t a1 a2 a3 a4 a5;exact this h s t a1 a2 a3 a4 (by omega)
theorem kX(hn:nF n)(hl:vN l)(ha:∀a∈l.aF,a.f<=a.t){h:Int}{s t:Nat}(a1:0<=h)(a2:h<n.an)(a3:s<=t)(a4:(t:Int)<l.aN):Good n l h s t (lN (bR n l) h s t):=by
 have h3:=hl.1;exact DJ hn hl ha l.aN.toNat (by omega) h s t a1 a2 a3 a4 (by omega)
end
def j9(l:List bn)(f t e c:Int):Prop:=∃a∈l,a.f=f/\a.t=t/\a.term=e/\a.cost=c
theorem pk2(a b:bn):pK a b=true↔b.cost<1099511627776/\sameKey a b=true:=by
 unfold pK;rw[Zam,decide_eq_true_eq];exact and_comm
theorem Fy(a b:bn):pK a b=true↔b.cost<1099511627776/\a.f=b.f/\a.t=b.t/\a.term=b.term:=by
 rw[pk2,sameKey_iff]
theorem BJ(k:bn):∀(cs:List bn) (o:Option bn),(∀b,o=some b->pK k b=true)->match cs.foldl (fP k) o with
  |none=>o=none/\∀b∈cs,pK k b=false
  |some r=>(o=some r\/r∈cs)/\pK k r=true/\(∀b,o=some b->r.cost<=b.cost)/\∀b∈cs,pK k b=true->r.cost<=b.cost
 |[],o,ho=>by
  cases o with
  |none=>exact⟨rfl,λb h=>by cases h⟩
  |some b=>exact⟨.inl rfl,ho b rfl,λc h=>by cases h;omega,λb h=>by cases h⟩
 |c::cs,o,ho=>by
  rw[Zaz];have ih:=BJ k cs (fP k o c);have hs:∀b,fP k o c=some b->(o=some b\/b=c)/\pK k b=true/\(∀d,o=some d->b.cost<=d.cost)/\(pK k c=true->b.cost<=c.cost):=by
   intro b hb;unfold fP at hb;split at hb
   ·rename_i hc;have hpc:pK k c=true:=(pk2 k c).2 hc;cases o with
    |none=>simp only[Zaa]at hb;subst hb;exact⟨.inr rfl,hpc,λd h=>(by cases h),λ_=>by omega⟩
    |some d=>
     simp only at hb;split at hb
     ·simp only[Zaa]at hb;subst hb;exact⟨.inr rfl,hpc,λd h=>(by cases h;omega),λ_=>by omega⟩
     ·simp only[Zaa]at hb;subst hb;exact⟨.inl rfl,ho _ rfl,λd h=>(by cases h;omega),λ_=>by omega⟩
   ·rename_i hc;subst hb;refine⟨.inl rfl,ho b rfl,λd h=>by cases h;omega,λh=>?_⟩;exfalso;exact hc ((pk2 k c).1 h)
  have ih:=ih λb hb=>(hs b hb).2.1;cases e:cs.foldl (fP k) (fP k o c)with
  |none=>
   rw[e]at ih;simp only at ih⊢;obtain⟨i1,i2⟩:=ih;have h1:o=none/\pK k c=false:=by
    unfold fP at i1;split at i1
    ·cases o with
     |none=>cases i1
     |some d=>simp only at i1;split at i1<;>cases i1
    ·rename_i hc;refine⟨i1, ?_⟩;cases hp:pK k c with
     |false=>rfl
     |true=>
      exfalso;exact hc ((pk2 k c).1 hp)
   refine⟨h1.1,λb hb=>?_⟩;rcases Zag.1 hb with rfl|hb
   ·exact h1.2
   ·exact i2 b hb
  |some r=>
   rw[e]at ih;simp only at ih⊢;obtain⟨i1,i2,i3,i4⟩:=ih;refine⟨?_,i2, ?_, ?_⟩
   ·rcases i1 with i1|i1
    ·rcases(hs r i1).1 with h|rfl
     ·exact .inl h
     ·exact .inr (Za4 ..)
    ·exact .inr (ZaV _ i1)
   ·intro b hb;cases kx:fP k o c with
    |none=>
     unfold fP at kx;rw[hb]at kx;split at kx
     ·simp only at kx;split at kx<;>cases kx
     ·cases kx
    |some d=>have:=i3 d kx;have:=(hs d kx).2.2.1 b hb;omega
   ·intro b hb hp;rcases Zag.1 hb with rfl|hb
    ·cases kx:fP k o b with
     |none=>
      unfold fP at kx;have hp':=(pk2 k b).1 hp;rw[if_pos hp']at kx;cases o with
      |none=>cases kx
      |some d=>simp only at kx;split at kx<;>cases kx
     |some d=>have:=i3 d kx;have:=(hs d kx).2.2.2 hp;omega
    ·exact i4 b hb hp
theorem pT(x:Input)(f t e c:Int):j9 (dS x) f t e c↔(j9 (wQ x) f t e c/\c<1099511627776/\∀c',j9 (wQ x) f t e c'->c'<1099511627776->c<=c'):=by
 constructor
 ·rintro⟨a,ha,rfl,rfl,rfl,rfl⟩;rw[yi]at ha;have hm:=BJ a ((wQ x).filter (pK a)) none (λb h=>by cases h);rw[ha]at hm;simp only at hm;obtain⟨h1,h2,_,h4⟩:=hm;have h1:a∈(wQ x).filter (pK a):=h1.resolve_left (λh=>by cases h);refine⟨⟨a,(ZaP.1 h1).1,rfl,rfl,rfl,rfl⟩,((Fy a a).1 h2).1, ?_⟩;rintro c' ⟨b,hb,e1,e2,e3,rfl⟩ Ar;have hp:pK a b=true:=(Fy a b).2 ⟨Ar,e1.symm,e2.symm,e3.symm⟩;exact h4 b (ZaP.2 ⟨hb,hp⟩) hp
 ·rintro⟨⟨b,hb,rfl,rfl,rfl,rfl⟩,hc,ET⟩;have hm:=BJ b ((wQ x).filter (pK b)) none (λb h=>by cases h);have Qt:pK b b=true:=(Fy b b).2 ⟨hc,rfl,rfl,rfl⟩;cases e:((wQ x).filter (pK b)).foldl (fP b) none with
  |none=>
   rw[e]at hm;have:=hm.2 b (ZaP.2 ⟨hb,Qt⟩);rw[Qt]at this;cases this
  |some r=>
   rw[e]at hm;simp only at hm;obtain⟨h1,h2,_,h4⟩:=hm;have h1:r∈(wQ x).filter (pK b):=h1.resolve_left (λh=>by cases h);obtain⟨r1,r2,r3,r4⟩:=(Fy b r).1 h2;have hpe:pK r=pK b:=by
    funext y;unfold pK sameKey;simp only[r2,r3,r4]
   have hse:fP r=fP b:=by
    funext o y;unfold fP sameKey;simp only[r2,r3,r4]
   refine⟨r, ?_,r2.symm,r3.symm,r4.symm, ?_⟩
   ·rw[yi,hpe,hse];exact e
   ·have l1:=h4 b (ZaP.2 ⟨hb,Qt⟩) Qt;have l2:=ET r.cost ⟨r,(ZaP.1 h1).1,r2.symm,r3.symm,r4.symm,rfl⟩ r1;omega
def Cand(x:Input)(f t e c:Int):Prop:=
 (∃i m k:Nat,i<=m/\m<x.aj.length/\k<x.insert.length/\0<=lO x m k/\f=2*i/\t=2*m+2/\e=k/\c=jK (fZ x i m) (lO x m k))\/
 (∃i m:Nat,i<=m/\b8 x m=true/\f=2*i/\t=2*m+1/\e=(x.aj.getD (m+1) default).kind/\c=jK (fZ x i m) x.swap)\/
 (∃i:Nat,b8 x i=true/\f=2*i+1/\t=2*i+4/\e=(x.aj.getD i default).kind/\c=0)\/
 (∃i m k:Nat,i<=m/\m<=x.aj.length/\k<x.insert.length/\f=2*i/\t=2*m/\e=k/\c=jK (fZ x i m) (x.insert.getD k default))
theorem sM{x:Input}{m:Nat}(h:b8 x m=true):m+1<x.aj.length:=by
 unfold b8 at h;exact(of_decide_eq_true h).1
theorem iN{α:Type}{f:Nat->List α}{i m k:Nat}{a:α}(h1:i<=k)(h2:k<m)(h:a∈f k):a∈ft f i m:=by
 unfold ft;rw[ZaU];exact⟨k-i,by rw[ZaM];omega,by rw[show i+(k-i)=k by omega];exact h⟩
theorem vW(x:Input)(f t e c:Int):j9 (wQ x) f t e c↔Cand x f t e c:=by
 constructor
 ·rintro⟨a,ha,rfl,rfl,rfl,rfl⟩;unfold wQ at ha;rcases Zao.1 ha with ha|ha
  ·obtain⟨i,_,hi,ha⟩:=dE ha;unfold rI at ha;rcases Zao.1 ha with ha|ha
   ·obtain⟨m,h1,h2,ha⟩:=dE ha;unfold rM at ha;rcases Zao.1 ha with ha|ha
    ·obtain⟨k,_,hk,ha⟩:=dE ha;unfold rA at ha;split at ha
     ·rename_i hr;simp only[Zah]at ha;subst ha;exact .inl ⟨i,m,k,h1,hr.1,hk,hr.2,rfl,rfl,rfl,rfl⟩
     ·cases ha
    ·unfold rS at ha;split at ha
     ·rename_i hr;simp only[Zah]at ha;subst ha;exact .inr (.inl ⟨i,m,h1,hr,rfl,rfl,rfl,rfl⟩)
     ·cases ha
   ·obtain⟨hr,rfl⟩:=zZ ha;exact .inr (.inr (.inl ⟨i,hr,rfl,rfl,rfl,rfl⟩))
  ·obtain⟨i,_,hi,ha⟩:=dE ha;unfold iI at ha;obtain⟨m,h1,h2,ha⟩:=dE ha;unfold iM at ha;obtain⟨k,_,hk,ha⟩:=dE ha;unfold iT at ha;simp only[Zah]at ha;subst ha;exact .inr (.inr (.inr ⟨i,m,k,h1,by omega,hk,rfl,rfl,rfl,rfl⟩))
 ·unfold j9 wQ;rintro(⟨i,m,k,h1,h2,h3,h4,rfl,rfl,rfl,rfl⟩|⟨i,m,h1,h2,rfl,rfl,rfl,rfl⟩|⟨i,h2,rfl,rfl,rfl,rfl⟩|⟨i,m,k,h1,h2,h3,rfl,rfl,rfl,rfl⟩)
  ·refine⟨⟨2*i,2*m+2,k,jK (fZ x i m) (lO x m k),dg (m-i)++[(1,(k:Int))]⟩,Zao.2 (.inl ?_),rfl,rfl,rfl,rfl⟩;refine iN (k:=i) (by omega) (by omega) ?_;unfold rI;refine Zao.2 (.inl (iN (k:=m) h1 (by omega) ?_));unfold rM;refine Zao.2 (.inl (iN (k:=k) (by omega) h3 ?_));unfold rA;rw[if_pos ⟨h2,h4⟩];simp
  ·have:=sM h2;refine⟨⟨2*i,2*m+1,(x.aj.getD (m+1) default).kind,jK (fZ x i m) x.swap,dg (m-i)++[(4,0)]⟩,Zao.2 (.inl ?_),rfl,rfl,rfl,rfl⟩;refine iN (k:=i) (by omega) (by omega) ?_;unfold rI;refine Zao.2 (.inl (iN (k:=m) h1 (by omega) ?_));unfold rM;refine Zao.2 (.inr ?_);unfold rS;rw[if_pos h2];simp
  ·have:=sM h2;refine⟨⟨2*i+1,2*i+4,(x.aj.getD i default).kind,0,[]⟩,Zao.2 (.inl ?_),rfl,rfl,rfl,rfl⟩;refine iN (k:=i) (by omega) (by omega) ?_;unfold rI;refine Zao.2 (.inr ?_);unfold rT;rw[if_pos h2];simp
  ·refine⟨⟨2*i,2*m,k,jK (fZ x i m) (x.insert.getD k default),dg (m-i)++[(3,(k:Int))]⟩,Zao.2 (.inr ?_),rfl,rfl,rfl,rfl⟩;refine iN (k:=i) (by omega) (by omega) ?_;unfold iI;refine iN (k:=m) h1 (by omega) ?_;unfold iM;refine iN (k:=k) (by omega) h3 ?_;unfold iT;simp
structure Px(x x':Input)(a b w:Nat):Prop where
 l1:a+w<=x.aj.length
 l2:b+w<=x'.aj.length
 ins:x.insert=x'.insert
 sw:x.swap=x'.swap
 col:∀j,j<w->x.aj.getD (a+j) default=x'.aj.getD (b+j) default
theorem Px.symm{x x':Input}{a b w:Nat}(h:Px x x' a b w):Px x' x b a w:=⟨h.l2,h.l1,h.ins.symm,h.sw.symm,λj hj=>(h.col j hj).symm⟩
theorem Fz{x x':Input}{a b w:Nat}(h:Px x x' a b w){p q:Nat}(hq:q<=w):fZ x (a+p) (a+q)=fZ x' (b+p) (b+q):=by
 unfold fZ
 congr 1
 apply Zbl;intro j;simp only[Zbb,ZaF];have h1:=h.l1;have h2:=h.l2;by_cases hj:p+j<q
 ·rw[if_pos (by omega),if_pos (by omega)];have:=h.col (p+j) (by omega);rw[Zan (by omega),Zan (by omega)];have e1:x.aj.getD (a+(p+j)) default=x.aj[a+p+j]'(by omega):=by simp[List.getD,show a+(p+j)=a+p+j by omega,show a+p+j<x.aj.length by omega]
  have e2:x'.aj.getD (b+(p+j)) default=x'.aj[b+p+j]'(by omega):=by simp[List.getD,show b+(p+j)=b+p+j by omega,show b+p+j<x'.aj.length by omega]
  rw[<-e1,<-e2,this]
 ·rw[if_neg (by omega),if_neg (by omega)]
def reach(x x':Input)(a b w:Nat)(T:Int):Prop:=(T % 2=1/\(T-1)/2+2<=a+w)\/(T % 2=0/\T/2<=a+w)\/(a+w=x.aj.length/\b+w=x'.aj.length)
theorem IE{x x':Input}{a b w:Nat}(h:Px x x' a b w){q:Nat}(hr:q+2<=w\/(a+w=x.aj.length/\b+w=x'.aj.length))(hs:b8 x (a+q)=true):
  b8 x' (b+q)=true/\(x.aj.getD (a+q) default).kind=(x'.aj.getD (b+q) default).kind/\(x.aj.getD (a+q+1) default).kind=(x'.aj.getD (b+q+1) default).kind:=by
 have cV:=sM hs;have hw:q+2<=w:=by
  rcases hr with hr|hr
  ·exact hr
  ·omega
 have c1:=h.col q (by omega);have c2:=h.col (q+1) (by omega);rw[<-Nat.add_assoc,<-Nat.add_assoc]at c2;unfold b8 at hs⊢;have hs:=of_decide_eq_true hs;rw[c1,c2,h.sw]at hs;have h2:=h.l2;exact⟨decide_eq_true ⟨by omega,hs.2.1,hs.2.2.1,hs.2.2.2⟩,by rw[c1],by rw[c2]⟩
theorem IF{x x':Input}{a b w:Nat}(h:Px x x' a b w){T:Int}(hT:T<=2*(a+w:Nat))(hr:reach x x' a b w T){f t e c:Int}(hf:2*(a:Int)<=f)(ht:t<=T)(hb:T % 2=0->t≠T-1)(hc:Cand x f t e c):
  Cand x' (f+2*b-2*a) (t+2*b-2*a) e c:=by
 have h1:=h.l1;have h2:=h.l2;have sw:∀q:Nat,2*(q:Int)+1<=T-2*a->(T % 2=0->2*(q:Int)+1≠T-2*a-1)->q+2<=w\/(a+w=x.aj.length/\b+w=x'.aj.length):=by
  intro q k1 k2;unfold reach at hr;rcases hr with hr|hr|hr
  ·left;omega
  ·left;have:=k2 hr.1;omega
  ·exact .inr hr
 rcases hc with⟨i,m,k,q1,q2,q3,q4,rfl,rfl,rfl,rfl⟩|⟨i,m,q1,q2,rfl,rfl,rfl,rfl⟩|⟨i,q2,rfl,rfl,rfl,rfl⟩|⟨i,m,k,q1,q2,q3,rfl,rfl,rfl,rfl⟩
 ·obtain⟨p,rfl⟩:∃p,i=a+p:=⟨i-a,by omega⟩;obtain⟨q,rfl⟩:∃q,m=a+q:=⟨m-a,by omega⟩;have hc:=h.col q (by omega);have hre:lO x (a+q) k=lO x' (b+q) k:=by unfold lO;rw[hc]
  exact .inl ⟨b+p,b+q,k,by omega,by omega,by rw[<-h.ins];exact q3,by rw[<-hre];exact q4,by omega,by omega,rfl,by rw[Fz h (by omega),hre]⟩
 ·obtain⟨p,rfl⟩:∃p,i=a+p:=⟨i-a,by omega⟩;obtain⟨q,rfl⟩:∃q,m=a+q:=⟨m-a,by omega⟩;have hs:=IE h (sw q (by omega) (λe=>by have:=hb e;omega)) q2;have:=sM q2;exact .inr (.inl ⟨b+p,b+q,by omega,hs.1,by omega,by omega,hs.2.2,by rw[Fz h (by omega),h.sw]⟩)
 ·obtain⟨q,rfl⟩:∃q,i=a+q:=⟨i-a,by omega⟩;have hs:=IE h (q:=q) (.inl (by omega)) q2;exact .inr (.inr (.inl ⟨b+q,hs.1,by omega,by omega,hs.2.1,rfl⟩))
 ·obtain⟨p,rfl⟩:∃p,i=a+p:=⟨i-a,by omega⟩;obtain⟨q,rfl⟩:∃q,m=a+q:=⟨m-a,by omega⟩;exact .inr (.inr (.inr ⟨b+p,b+q,k,by omega,by omega,by rw[<-h.ins];exact q3,by omega,by omega,rfl,by rw[Fz h (by omega),h.ins]⟩))
theorem reach.symm{x x':Input}{a b w:Nat}{T:Int}(h:reach x x' a b w T):reach x' x b a w (T+2*b-2*a):=by
 unfold reach at h⊢;rcases h with h|h|h
 ·left;omega
 ·right;left;omega
 ·right;right;exact⟨h.2,h.1⟩
theorem Yz{x x':Input}{a b w:Nat}(h:Px x x' a b w){T:Int}(hT:T<=2*(a+w:Nat))(hr:reach x x' a b w T){f t e c:Int}(hf:2*(a:Int)<=f)(ht:t<=T)(hb:T % 2=0->t≠T-1):
  j9 (dS x) f t e c↔j9 (dS x') (f+2*b-2*a) (t+2*b-2*a) e c:=by
 have key:∀{c:Int},j9 (wQ x) f t e c↔j9 (wQ x') (f+2*b-2*a) (t+2*b-2*a) e c:=by
  intro c;rw[vW,vW];refine⟨IF h hT hr hf ht hb,λhc=>?_⟩;have:=IF h.symm (T:=T+2*b-2*a) (by omega) hr.symm (f:=f+2*b-2*a) (t:=t+2*b-2*a) (by omega) (by omega) (by omega) hc;rw[show f+2*b-2*a+2*a-2*b=f by omega,show t+2*b-2*a+2*a-2*b=t by omega]at this;exact this
 rw[pT,pT,key];constructor
 ·rintro⟨h1,h2,h3⟩;exact⟨h1,h2,λc' Ar=>h3 c' (key.2 Ar)⟩
 ·rintro⟨h1,h2,h3⟩;exact⟨h1,h2,λc' Ar=>h3 c' (key.1 Ar)⟩
theorem YA{x:Input}{f t e c:Int}(h:j9 (dS x) f t e c)(ho:f % 2=1):t=f+3:=by
 have:=(vW x f t e c).1 ((pT x f t e c).1 h).1;rcases this with⟨i,m,k,_,_,_,_,rfl,_⟩|⟨i,m,_,_,rfl,_⟩|⟨i,_,rfl,rfl,_⟩|⟨i,m,k,_,_,_,rfl,_⟩<;>omega
end cC
end Go.Proofs
