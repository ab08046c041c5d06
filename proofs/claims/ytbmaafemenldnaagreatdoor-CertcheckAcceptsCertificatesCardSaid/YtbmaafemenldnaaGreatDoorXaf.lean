/- Part. Conditions: none. -/
import Derived.Test.YtbmaafemenldnaaGreatDoorXae
set_option linter.all false
set_option maxRecDepth 100000
set_option maxHeartbeats 16000000
namespace Go.Proofs
open Go.DM
def t14(x:Input)(hx:Sg x)(arq:x.ah.length<=60)(ht:x.insert.length<=100)(ars:∀c∈x.ah,c.read.length=x.insert.length):aJ ap 31 [x.enc] (aI x).enc:=by
 have aq:=avb x hx.1;have ov:T.agg [.sl (bd x.ah),.sl (au x.insert),ti x.swap]=x.enc:=rfl;obtain⟨hd,mZ,HG,NH,Xj,pB⟩:=hx;obtain⟨n,hn⟩:=aY x.ah.length;obtain⟨tm,nJ⟩:=aY x.insert.length;have hdb:=cm hd;have art:∀y,y<=n+1->(bE [] (ft (rI x) 0 y)).length<=430000:=by
  intro y hy;have h1:=ib (ft (rI x) 0 y) [];have h2:=kz (f:=rI x) (B:=7000) (λk=>Xx x k ht arq) 0 y;simp at h1;omega
 obtain⟨R,hR⟩:=aY ((aI x).enc);refine c14.ok (by simp) (aH ?_);rw[hR];simp only[aI,eK]at hR;simp[Input.enc];apply aa.ai aq fw [1,2];simp[aqV];refine aa.lk (o:=[(1003,.box [.v (ti 0),.aZ,.aZ])]) (l:=[(1,.v (.box [.sl (bd x.ah),.sl (au x.insert),ti x.swap])),(2,.ptr 1003 0)]) (bn:=1500) (by simp) ?_;apply aa.ai aq fw [1,2,3];simp[aqW,hn];apply aa.ai aq fw [1,2,3,4];simp[aqX];apply aa.seq;refine aa.le (Le.aL (o:=[(1003,.box [.v (ti 0),.aZ,.aZ])]) (l:=[(1,.v (.box [.sl (bd x.ah),.sl (au x.insert),ti x.swap])),(2,.ptr 1003 0),(3,.v (ti n)),(4,.v (.sl (bq [])))]) (bn:=2500) ?_ ?_ ?_ ?_) ?_;iterate 3(·simp)
 ·simp[bq]
 apply aa.ai aq fw [1,2,3,4,5];simp[aqY];obtain⟨Kp,NI⟩:=aY (bE [] (ft (rI x) 0 (n+1)));have awg:Kp.length<=430000:=by rw[<-NI];exact art _ (by omega)
 refine aa.to ⟨DM.look [(1,.v (.box [.sl (bd x.ah),.sl (au x.insert),ti x.swap])),(2,.ptr 1003 0),(3,.v (ti n)),(4,.v (.sl (bq Kp)))],cR [(1003,.box [.v (ti 0),.aZ,.aZ])],100000,1000,[]⟩ ?_ ?_
 ·apply aa.block;refine aa.loop (λy:Nat=>⟨DM.look [(1,.v (.box [.sl (bd x.ah),.sl (au x.insert),ti x.swap])),(2,.ptr 1003 0),(3,.v (ti n)),(4,.v (.sl (bq (bE [] (ft (rI x) 0 y))))),(5,.v (ti y))],cR [(1003,.box [.v (ti 0),.aZ,.aZ])],10000,1000,[]⟩)
   (λy=>y<=n+1) (λy=>n+1-y) 0 (Le.aL ?_ ?_ ?_ ?_) (by simp) (λy hy=>?_)
  iterate 3(·simp)
  ·simp[vX,bE]
  have lal:=art y hy;have NQ:=pA (rI x) (A0 y);obtain⟨al,mE⟩:=aY (bE [] (ft (rI x) 0 y));have XA:bE [] (ft (rI x) 0 (y+1))=bE al (rI x y):=by rw[NQ,d7,mE]
  rw[mE]at lal⊢;apply aa.sq aq fw [1,2,3,4,5,20];simp[aqZ];refine aa.cond rfl (λaS=>?_) (λaS=>?_)
  ·simp at aS;have w2y:IntKind.i64.wrap (2*(y:Int))=2*y:=av (by omega);apply aa.skip;simp;apply aa.seq;refine aa.to ⟨DM.look [(1,.v (.box [.sl (bd x.ah),.sl (au x.insert),ti x.swap])),(2,.ptr 1003 0),(3,.v (ti n)),(4,.v (.sl (bq (bE al (rI x y))))),(5,.v (ti y))],cR [(1003,.box [.v (ti 0),.aZ,.aZ])],50000,1000,[]⟩ ?_ ?_
   ·apply aa.block;apply aa.sq aq fw [1,2,3,4,5,6];simp[aq0];obtain⟨Lo,zq⟩:=aY (bE al (ft (rM x y) y (n+1)));have lB:∀m,m<=n+1->(bE al (ft (rM x y) y m)).length<=440000:=by
     intro m hm;have h1:=ib (ft (rM x y) y m) al;have h2:=kz (f:=rM x y) (B:=101) (λk=>Xw x y k ht) y m;omega
    have avc:Lo.length<=440000:=by rw[<-zq];exact lB _ (by omega)
    have fN:bE al (rI x y)=bE Lo (rT x y):=by rw[<-zq,<-d7];unfold rI;rw[hn]
    refine aa.to ⟨DM.look [(1,.v (.box [.sl (bd x.ah),.sl (au x.insert),ti x.swap])),(2,.ptr 1003 0),(3,.v (ti n)),(4,.v (.sl (bq Lo))),(5,.v (ti y))],cR [(1003,.box [.v (ti 0),.aZ,.aZ])],40000,1000,[]⟩ ?_ ?_
    ·apply aa.block;refine aa.loop (λm:Nat=>⟨DM.look [(1,.v (.box [.sl (bd x.ah),.sl (au x.insert),ti x.swap])),(2,.ptr 1003 0),(3,.v (ti n)),(4,.v (.sl (bq (bE al (ft (rM x y) y m))))),(5,.v (ti y)),(6,.v (ti m))],cR [(1003,.box [.v (ti 0),.aZ,.aZ])],20000,1000,[]⟩)
      (λm=>y<=m/\m<=n+1) (λm=>n+1-m) y (Le.aL ?_ ?_ ?_ ?_) (by omega) (λm hm=>?_)
     iterate 3(·simp)
     ·simp[vX,bE]
     obtain⟨uE,Ij⟩:=hm;have ajt:=lB m Ij;have NR:=pA (rM x y) uE;obtain⟨Io,NS⟩:=aY (bE al (ft (rM x y) y m));have NT:bE al (ft (rM x y) y (m+1))=bE Io (rM x y m):=by rw[NR,d7,NS]
     rw[NS]at ajt⊢;apply aa.sq aq fw [1,2,3,4,5,6,26];simp[aq1];refine aa.cond rfl (λEf=>?_) (λEf=>?_)
     ·simp at Ef;have w2m:IntKind.i64.wrap (2*(m:Int))=2*m:=av (by omega);have avd:IntKind.i64.wrap (2*(m:Int)+1)=2*m+1:=av (by omega);have ave:IntKind.i64.wrap (2*(m:Int)+2)=2*m+2:=av (by omega);have wm1:IntKind.i64.wrap ((m:Int)+1)=m+1:=av (by omega);have wmy:IntKind.i64.wrap ((m:Int)-y)=((m-y:Nat):Int):=by rw[av (by omega)];omega
      obtain⟨d,hdd⟩:=aY (ez x y m);have aju:=hdb y m;rw[hdd]at aju;apply aa.skip;simp;apply aa.seq;refine aa.to ⟨DM.look [(1,.v (.box [.sl (bd x.ah),.sl (au x.insert),ti x.swap])),(2,.ptr 1003 0),(3,.v (ti n)),(4,.v (.sl (bq (bE Io (rM x y m))))),(5,.v (ti y)),(6,.v (ti m))],cR [(1003,.box [.v (ti 0),.aZ,.aZ])],40000,1000,[]⟩ ?_ ?_
      ·apply aa.block;apply aa.ai aq fw [1,2,3,4,5,6,7];simp[aq2,ov,hdd];refine⟨⟨y,m,⟨rfl,rfl⟩,uE,by omega⟩, ?_⟩;apply aa.sq aq fw [1,2,3,4,5,6,7,8];simp[aq3];obtain⟨al3,SI⟩:=aY (bE Io (ft (rA x y m) 0 tm));have lC:∀t,t<=tm->(bE Io (ft (rA x y m) 0 t)).length<=450000:=by
        intro t UF;have h1:=ib (ft (rA x y m) 0 t) Io;have h2:=kz (f:=rA x y m) (B:=1) (λk=>NP x y m k) 0 t;omega
       have awh:al3.length<=450000:=by rw[<-SI];exact lC _ (by omega)
       have aru:bE Io (rM x y m)=bE al3 (rS x y m):=by rw[<-SI,<-d7];unfold rM;rw[nJ]
       refine aa.to ⟨DM.look [(1,.v (.box [.sl (bd x.ah),.sl (au x.insert),ti x.swap])),(2,.ptr 1003 0),(3,.v (ti n)),(4,.v (.sl (bq al3))),(5,.v (ti y)),(6,.v (ti m)),(7,.v (ti d))],cR [(1003,.box [.v (ti 0),.aZ,.aZ])],40000,1000,[]⟩ ?_ ?_
       ·apply aa.block;refine aa.loop (λt:Nat=>⟨DM.look [(1,.v (.box [.sl (bd x.ah),.sl (au x.insert),ti x.swap])),(2,.ptr 1003 0),(3,.v (ti n)),(4,.v (.sl (bq (bE Io (ft (rA x y m) 0 t))))),(5,.v (ti y)),(6,.v (ti m)),(7,.v (ti d)),(8,.v (ti t))],cR [(1003,.box [.v (ti 0),.aZ,.aZ])],30000,1000,[]⟩)
         (λt=>t<=tm) (λt=>tm-t) 0 (Le.aL ?_ ?_ ?_ ?_) (by simp) (λt UF=>?_)
        iterate 3(·simp)
        ·simp[vX,bE]
        have ajv:=lC t UF;have NV:=pA (rA x y m) (A0 t);obtain⟨alt,halt⟩:=aY (bE Io (ft (rA x y m) 0 t));have DG:bE Io (ft (rA x y m) 0 (t+1))=bE alt (rA x y m t):=by rw[NV,d7,halt]
        rw[halt]at ajv⊢;apply aa.sq aq fw [1,2,3,4,5,6,7,8,37];simp[aq4,nJ];refine aa.cond rfl (λhct=>?_) (λhct=>?_)
        ·simp at hct;apply aa.skip;simp;apply aa.seq;obtain⟨q,hq⟩:=aY (rA x y m t);rw[hq]at DG;unfold rA at hq;rw[hdd,hn]at hq;refine aa.to ⟨DM.look [(1,.v (.box [.sl (bd x.ah),.sl (au x.insert),ti x.swap])),(2,.ptr 1003 0),(3,.v (ti n)),(4,.v (.sl (bq (bE alt q)))),(5,.v (ti y)),(6,.v (ti m)),(7,.v (ti d)),(8,.v (ti t))],cR [(1003,.box [.v (ti 0),.aZ,.aZ])],40000,1000,[]⟩ ?_ ?_
         ·apply aa.block;obtain⟨c,hc⟩:=aY (decide (m<n/\0<=cV x m t):Bool);by_cases Q9:m<n
          ·have hmc:m<x.ah.length:=by omega
           have Ln:=cx hmc;obtain⟨cl,c9⟩:=aY (x.ah.getD m default);have arv:cl∈x.ah:=by rw[<-c9];simp[List.getD,hmc]
           have qU:=ars cl arv;have avf:=mZ cl arv;rw[c9]at Ln;have htr:t<cl.read.length:=by omega
           have pY:=bA htr;have sD:cV x m t=cl.read.getD t default:=by unfold cV;rw[c9]
           rw[sD]at hq hc;obtain⟨u,hu⟩:=aY (cl.read.getD t default);rw[hu]at pY hq hc;refine aa.bL aq fw [(1,.v (.box [.sl (bd x.ah),.sl (au x.insert),ti x.swap])),(2,.ptr 1003 0),(3,.v (ti n)),(4,.v (.sl (bq alt))),(5,.v (ti y)),(6,.v (ti m)),(7,.v (ti d)),(8,.v (ti t)),(54,.v (.bool c))] ?_ ?_
           ·by_cases q2:0<=u
            ·have hc':c=true:=by rw[<-hc];simp[Q9,q2]
             simp[Ny,Q9,hn,Ln,bB.enc,htr,pY,q2,hc']
            ·have hc':c=false:=by rw[<-hc];simp[q2]
             simp[Ny,Q9,hn,Ln,bB.enc,htr,pY,q2,hc']
           refine aa.cond rfl (λh=>?_) (λh=>?_)
           ·rw[h]at hc;simp only[j2]at hc;rw[cM hc]at hq;have hub:u<=1099511627776:=avf.2 u (by rw[<-hu];simp[List.getD,htr]);subst hq;apply aa.cZ aq fw [1,2,3,4,5,6,7,8];simp[ais,w2y,w2m,ave,wmy,Q9,hn,Ln,bB.enc,htr,pY];refine⟨⟨d,u,⟨rfl,rfl⟩,by omega,by omega⟩,⟨m-y,rfl,by omega⟩,⟨alt,⟨rfl,⟨⟨2*y,2*m+2,t,kH d u,d6 (m-y)++[(1,(t:Int))]⟩,rfl⟩⟩,by omega⟩,Le.aL ?_ ?_ ?_ ?_⟩;iterate 3(·simp)
            ·simp[bE]
           ·rw[h]at hc;simp only[pn]at hc;rw[bX hc]at hq;subst hq;refine aa.skip ⟨rfl,Le.aL ?_ ?_ ?_ ?_⟩;iterate 3(·simp)
            ·simp[bE]
          ·have hc':c=false:=by rw[<-hc];simp[Q9]
           rw[bX (λh=>Q9 h.1)]at hq;subst hq;refine aa.bL aq fw [(1,.v (.box [.sl (bd x.ah),.sl (au x.insert),ti x.swap])),(2,.ptr 1003 0),(3,.v (ti n)),(4,.v (.sl (bq alt))),(5,.v (ti y)),(6,.v (ti m)),(7,.v (ti d)),(8,.v (ti t)),(54,.v (.bool false))] ?_ ?_
           ·simp[Ny,Q9]
           refine aa.cond rfl (λh=>by cases h) (λ_=>?_);refine aa.skip ⟨rfl,Le.aL ?_ ?_ ?_ ?_⟩;iterate 3(·simp)
           ·simp[bE]
         ·apply aa.cZ aq fw [1,2,3,4,5,6,7,8];simp[ait];rw[av (by omega)];refine⟨t+1,Le.aL ?_ ?_ ?_ ?_,by omega,by omega⟩;iterate 3(·simp)
          ·simp[DG]
        ·simp at hct;have:t=tm:=by omega
         subst this;refine aa.exit ⟨rfl,Le.aL ?_ ?_ ?_ ?_⟩;iterate 3(·simp)
         ·simp[<-SI,halt]
       simp;apply aa.ai aq fw [1,2,3,4,5,6,7,83];simp[aiu,ov];refine⟨⟨m,rfl,by omega⟩, ?_⟩;rw[aru];obtain⟨q,hq⟩:=aY (rS x y m);rw[hq];unfold rS at hq;rw[hdd]at hq;refine aa.cond rfl (λh=>?_) (λh=>?_)
       ·rw[cM h]at hq;have Kq:m+1<x.ah.length:=by simp[cG]at h;exact h.1
        have Ln:DM.rowAt (bd x.ah) ((m:Int)+1)=_:=cx Kq;obtain⟨cl,c9⟩:=aY (x.ah.getD (m+1) default);rw[c9]at Ln hq;have ajf:((m:Int)+1<n)=True:=by simp;omega
        have AV:(0<=(m:Int)+1)=True:=by simp;omega
        subst hq;apply aa.cZ aq fw [1,2,3,4,5,6];simp[aiv,w2y,w2m,avd,wm1,wmy,hn,Ln,ajf,AV,bB.enc];refine⟨⟨d,x.swap,⟨rfl,rfl⟩,by omega,by omega⟩,⟨m-y,rfl,by omega⟩,⟨al3,⟨rfl,⟨⟨2*y,2*m+1,cl.kind,kH d x.swap,d6 (m-y)++[(4,0)]⟩,rfl⟩⟩,by omega⟩,Le.aL ?_ ?_ ?_ ?_⟩;iterate 3(·simp)
        ·simp[bE]
       ·rw[bX (by simp[h])]at hq;subst hq;refine aa.skip ⟨rfl,Le.aL ?_ ?_ ?_ ?_⟩;iterate 3(·simp)
        ·simp[bE]
      ·apply aa.cZ aq fw [1,2,3,4,5,6];simp[aiw];rw[av (by omega)];refine⟨m+1,Le.aL ?_ ?_ ?_ ?_,by omega,by omega⟩;iterate 3(·simp)
       ·simp[NT]
     ·simp at Ef;have:m=n+1:=by omega
      subst this;refine aa.exit ⟨rfl,Le.aL ?_ ?_ ?_ ?_⟩;iterate 3(·simp)
      ·simp[<-zq,NS]
    simp;apply aa.ai aq fw [1,2,3,4,5,110];simp[aix,ov];refine⟨⟨y,rfl,by omega⟩, ?_⟩;rw[fN];obtain⟨q,hq⟩:=aY (rT x y);rw[hq];unfold rT at hq;refine aa.cond rfl (λh=>?_) (λh=>?_)
    ·rw[cM h]at hq;have Kq:y<x.ah.length:=by simp[cG]at h;omega
     have Ln:=cx Kq;obtain⟨cl,c9⟩:=aY (x.ah.getD y default);rw[c9]at Ln hq;have avg:IntKind.i64.wrap (2*(y:Int)+1)=2*y+1:=av (by omega);have avh:IntKind.i64.wrap (2*(y:Int)+4)=2*y+4:=av (by omega);have hyn:y<n:=by omega
     subst hq;apply aa.cZ aq fw [1,2,3,4,5];simp[aiy,w2y,avg,avh,hn,Ln,hyn,bB.enc];refine⟨⟨Lo,⟨rfl,⟨⟨2*y+1,2*y+4,cl.kind,0,[]⟩,rfl⟩⟩,by omega⟩,Le.aL ?_ ?_ ?_ ?_⟩;iterate 3(·simp)
     ·simp[bE]
    ·rw[bX (by simp[h])]at hq;subst hq;refine aa.skip ⟨rfl,Le.aL ?_ ?_ ?_ ?_⟩;iterate 3(·simp)
     ·simp[bE]
   ·apply aa.cZ aq fw [1,2,3,4,5];simp[aiz];rw[av (by omega)];refine⟨y+1,Le.aL ?_ ?_ ?_ ?_,by omega,by omega⟩;iterate 3(·simp)
    ·simp[XA]
  ·simp at aS;have:y=n+1:=by omega
   subst this;refine aa.exit ⟨rfl,Le.aL ?_ ?_ ?_ ?_⟩;iterate 3(·simp)
   ·simp[<-NI,mE]
 simp;apply aa.sq aq fw [1,2,3,4,9];simp[aiA];obtain⟨Lo,zq⟩:=aY (bE Kp (ft (iI x) 0 (n+1)));have arw:∀y,y<=n+1->(bE Kp (ft (iI x) 0 y)).length<=900000:=by
  intro y hy;have h1:=ib (ft (iI x) 0 y) Kp;have h2:=kz (f:=iI x) (B:=7000) (λk=>Xz x k ht arq) 0 y;omega
 refine aa.to ⟨DM.look [(1,.v (.box [.sl (bd x.ah),.sl (au x.insert),ti x.swap])),(2,.ptr 1003 0),(3,.v (ti n)),(4,.v (.sl (bq Lo)))],cR [(1003,.box [.v (ti 0),.aZ,.aZ])],100000,1000,[]⟩ ?_ ?_
 ·apply aa.block;refine aa.loop (λy:Nat=>⟨DM.look [(1,.v (.box [.sl (bd x.ah),.sl (au x.insert),ti x.swap])),(2,.ptr 1003 0),(3,.v (ti n)),(4,.v (.sl (bq (bE Kp (ft (iI x) 0 y))))),(9,.v (ti y))],cR [(1003,.box [.v (ti 0),.aZ,.aZ])],110000,1000,[]⟩)
   (λy=>y<=n+1) (λy=>n+1-y) 0 (Le.aL ?_ ?_ ?_ ?_) (by simp) (λy hy=>?_)
  iterate 3(·simp)
  ·simp[vX,bE]
  have lal:=arw y hy;have NQ:=pA (iI x) (A0 y);obtain⟨al,mE⟩:=aY (bE Kp (ft (iI x) 0 y));have XA:bE Kp (ft (iI x) 0 (y+1))=bE al (iI x y):=by rw[NQ,d7,mE]
  rw[mE]at lal⊢;apply aa.sq aq fw [1,2,3,4,9,128];simp[aiB];refine aa.cond rfl (λaS=>?_) (λaS=>?_)
  ·simp at aS;have w2y:IntKind.i64.wrap (2*(y:Int))=2*y:=av (by omega);apply aa.skip;simp;apply aa.seq;refine aa.to ⟨DM.look [(1,.v (.box [.sl (bd x.ah),.sl (au x.insert),ti x.swap])),(2,.ptr 1003 0),(3,.v (ti n)),(4,.v (.sl (bq (bE al (iI x y))))),(9,.v (ti y))],cR [(1003,.box [.v (ti 0),.aZ,.aZ])],150000,1000,[]⟩ ?_ ?_
   ·apply aa.block;apply aa.ai aq fw [1,2,3,4,9,10];simp[aiC];have lB:∀m,m<=n+1->(bE al (ft (iM x y) y m)).length<=910000:=by
     intro m hm;have h1:=ib (ft (iM x y) y m) al;have h2:=kz (f:=iM x y) (B:=100) (λk=>Xy x y k ht) y m;omega
    apply aa.block;refine aa.loop (λm:Nat=>⟨DM.look [(1,.v (.box [.sl (bd x.ah),.sl (au x.insert),ti x.swap])),(2,.ptr 1003 0),(3,.v (ti n)),(4,.v (.sl (bq (bE al (ft (iM x y) y m))))),(9,.v (ti y)),(10,.v (ti m))],cR [(1003,.box [.v (ti 0),.aZ,.aZ])],120000,1000,[]⟩)
     (λm=>y<=m/\m<=n+1) (λm=>n+1-m) y (Le.aL ?_ ?_ ?_ ?_) (by omega) (λm hm=>?_)
    iterate 3(·simp)
    ·simp[vX,bE]
    obtain⟨uE,Ij⟩:=hm;have ajt:=lB m Ij;have NR:=pA (iM x y) uE;obtain⟨Io,NS⟩:=aY (bE al (ft (iM x y) y m));have NT:bE al (ft (iM x y) y (m+1))=bE Io (iM x y m):=by rw[NR,d7,NS]
    rw[NS]at ajt⊢;apply aa.sq aq fw [1,2,3,4,9,10,134];simp[aiD];refine aa.cond rfl (λEf=>?_) (λEf=>?_)
    ·simp at Ef;have w2m:IntKind.i64.wrap (2*(m:Int))=2*m:=av (by omega);have wmy:IntKind.i64.wrap ((m:Int)-y)=((m-y:Nat):Int):=by rw[av (by omega)];omega
     obtain⟨d,hdd⟩:=aY (ez x y m);have aju:=hdb y m;rw[hdd]at aju;apply aa.skip;simp;apply aa.seq;refine aa.to ⟨DM.look [(1,.v (.box [.sl (bd x.ah),.sl (au x.insert),ti x.swap])),(2,.ptr 1003 0),(3,.v (ti n)),(4,.v (.sl (bq (bE Io (iM x y m))))),(9,.v (ti y)),(10,.v (ti m))],cR [(1003,.box [.v (ti 0),.aZ,.aZ])],140000,1000,[]⟩ ?_ ?_
     ·apply aa.block;apply aa.ai aq fw [1,2,3,4,9,10,11];simp[aiE];have lC:∀t,t<=tm->(bE Io (ft (iT x y m) 0 t)).length<=920000:=by
       intro t UF;have h1:=ib (ft (iT x y m) 0 t) Io;have h2:=kz (f:=iT x y m) (B:=1) (λk=>by simp[iT]) 0 t;omega
      apply aa.block;refine aa.loop (λt:Nat=>⟨DM.look [(1,.v (.box [.sl (bd x.ah),.sl (au x.insert),ti x.swap])),(2,.ptr 1003 0),(3,.v (ti n)),(4,.v (.sl (bq (bE Io (ft (iT x y m) 0 t))))),(9,.v (ti y)),(10,.v (ti m)),(11,.v (ti t))],cR [(1003,.box [.v (ti 0),.aZ,.aZ])],130000,1000,[]⟩)
       (λt=>t<=tm) (λt=>tm-t) 0 (Le.aL ?_ ?_ ?_ ?_) (by simp) (λt UF=>?_)
      iterate 3(·simp)
      ·simp[vX,bE]
      have ajv:=lC t UF;have NV:=pA (iT x y m) (A0 t);obtain⟨alt,halt⟩:=aY (bE Io (ft (iT x y m) 0 t));have DG:bE Io (ft (iT x y m) 0 (t+1))=bE alt (iT x y m t):=by rw[NV,d7,halt]
      rw[halt]at ajv⊢;apply aa.sq aq fw [1,2,3,4,9,10,11,141];simp[aiF,nJ];refine aa.cond rfl (λhct=>?_) (λhct=>?_)
      ·simp at hct;apply aa.skip;simp;apply aa.seq;apply aa.block;have htx:t<x.insert.length:=by omega
       have pY:=bA htx;obtain⟨u,hu⟩:=aY (x.insert.getD t default);have hub:=NH u (by rw[<-hu];simp[List.getD,htx]);have hiT:iT x y m t=[⟨2*y,2*m,t,kH d u,d6 (m-y)++[(3,(t:Int))]⟩]:=by unfold iT;rw[hdd,hu]
       rw[hu]at pY;apply aa.cZ aq fw [1,2,3,4,9,10,11];simp[aiG,ov,hdd,w2y,w2m,wmy,nJ,pY,hct];refine⟨⟨y,m,⟨rfl,rfl⟩,uE,by omega⟩,⟨d,u,⟨rfl,rfl⟩,by omega,by omega⟩,⟨m-y,rfl,by omega⟩,⟨alt,⟨rfl,⟨⟨2*y,2*m,t,kH d u,d6 (m-y)++[(3,(t:Int))]⟩,rfl⟩⟩,by omega⟩, ?_⟩;apply aa.cZ aq fw [1,2,3,4,9,10,11];simp[aiH];rw[av (by omega)];refine⟨t+1,Le.aL ?_ ?_ ?_ ?_,by omega,by omega⟩;iterate 3(·simp)
       ·rw[hiT]at DG;have FF:bE Io (ft (iT x y m) 0 (t+1))=vo alt ⟨2*y,2*m,t,kH d u,d6 (m-y)++[(3,(t:Int))]⟩:=DG;simp[FF]
      ·simp at hct;have:t=tm:=by omega
       subst this;refine aa.exit ⟨rfl,Le.aL ?_ ?_ ?_ ?_⟩;iterate 3(·simp)
       ·simp[<-halt,iM,nJ]
     ·apply aa.cZ aq fw [1,2,3,4,9,10];simp[aiI];rw[av (by omega)];refine⟨m+1,Le.aL ?_ ?_ ?_ ?_,by omega,by omega⟩;iterate 3(·simp)
      ·simp[NT]
    ·simp at Ef;have:m=n+1:=by omega
     subst this;refine aa.exit ⟨rfl,Le.aL ?_ ?_ ?_ ?_⟩;iterate 3(·simp)
     ·simp[<-NS,iI,hn]
   ·apply aa.cZ aq fw [1,2,3,4,9];simp[aiJ];rw[av (by omega)];refine⟨y+1,Le.aL ?_ ?_ ?_ ?_,by omega,by omega⟩;iterate 3(·simp)
    ·simp[XA]
  ·simp at aS;have:y=n+1:=by omega
   subst this;refine aa.exit ⟨rfl,Le.aL ?_ ?_ ?_ ?_⟩;iterate 3(·simp)
   ·simp[<-zq,mE]
 simp;have avc:Lo.length<=900000:=by rw[<-zq];exact arw _ (by omega)
 obtain⟨N,hN⟩:=aY (2*n+1);have w2n:IntKind.i64.wrap (2*(n:Int))=2*n:=av (by omega);have arx:IntKind.i64.wrap (2*(n:Int)+1)=(N:Int):=by rw[av (by omega)];omega
 apply aa.ai aq fw [1,2,3,12];simp[aiK,w2n,arx];apply aa.ai aq fw [1,2,3,12,13];simp[aiL,w2n,arx];refine⟨by simp[cw];omega, ?_⟩;apply aa.sq aq fw [1,2,3,12,13,14];simp[aiM];have qU:(fe x 0).length=N:=by simp[fe,hn,hN]
 have Kx:∀k,(fe x k).length=N:=λk=>by simp[fe,hn,hN]
 have hF0:List.replicate N [T.int IntKind.i64 0]=au (fe x 0):=by
  rw[<-hN,<-hn];apply Th
  ·simp[fe,au]
  ·intro i h1 h2;simp[fe,au]
 have hFs:∀k,k<N->(fe x k).set k (if k % 2=0 then ez x (k/2) n else 1099511627776)=fe x (k+1):=by
  intro k hk;rw[<-hn];apply Th
  ·simp[fe]
  ·intro i h1 h2;rw[ZcY];simp only[fe,Zci,LA];by_cases e:k=i
   ·subst e;simp
   ·rw[bX e];have hq:(i<k+1)=(i<k):=propext ⟨λh=>by omega,λh=>by omega⟩;simp only[hq]
 rw[hF0];apply aa.block;refine aa.loop (λk:Nat=>⟨DM.look [(1,.v (.box [.sl (bd x.ah),.sl (au x.insert),ti x.swap])),(2,.ptr 1003 0),(3,.v (ti n)),(12,.ptr 100013 0),(13,.aW 100378 0),(14,.v (ti k))],cR [(1003,.box [.v (ti 0),.aZ,.aZ]),(100013,.box [.v (ti N),.v (.sl (bq Lo)),.aZ]),(100378,.bm 0 3 1 (au (fe x k)))],200000,1000,[]⟩)
  (λk=>k<=N) (λk=>N-k) 0 (Le.aL ?_ ?_ ?_ ?_) (by simp) (λk hk=>?_)
 iterate 4(·simp)
 apply aa.sq aq fw [1,2,3,12,13,14,180];simp[aiN,Kx];refine aa.cond rfl (λCX=>?_) (λCX=>?_)
 ·simp at CX;have hrw:DM.rowAt (au (fe x k)) (k:Int)=[ti ((fe x k).getD k default)]:=bA (by rw[Kx];exact CX);have avi:DM.rowAt (au ((fe x k).set k 1099511627776)) (k:Int)=[ti (((fe x k).set k 1099511627776).getD k default)]:=bA (by rw[ZcN,Kx];exact CX);have hs:=hFs k CX;apply aa.skip;simp;apply aa.seq;refine aa.to ⟨DM.look [(1,.v (.box [.sl (bd x.ah),.sl (au x.insert),ti x.swap])),(2,.ptr 1003 0),(3,.v (ti n)),(12,.ptr 100013 0),(13,.aW 100378 0),(14,.v (ti k))],cR [(1003,.box [.v (ti 0),.aZ,.aZ]),(100013,.box [.v (ti N),.v (.sl (bq Lo)),.aZ]),(100378,.bm 0 3 1 (au (fe x (k+1))))],300000,1000,[]⟩ ?_ ?_
  ·apply aa.block;apply aa.ai aq fw [1,2,3,12,13,14];simp[aiO,Kx,CX,hrw];rw[show(au (fe x k)).set k [T.int IntKind.i64 1099511627776]=au ((fe x k).set k 1099511627776)from BR _ _ _];refine aa.lk (o:=[(1003,.box [.v (ti 0),.aZ,.aZ]),(100013,.box [.v (ti N),.v (.sl (bq Lo)),.aZ]),(100378,.bm 0 3 1 (au ((fe x k).set k 1099511627776)))]) (l:=[(1,.v (.box [.sl (bd x.ah),.sl (au x.insert),ti x.swap])),(2,.ptr 1003 0),(3,.v (ti n)),(12,.ptr 100013 0),(13,.aW 100378 0),(14,.v (ti k))]) (bn:=210000) (by simp) ?_;have wm:(k:Int).tmod 2=k % 2:=al7 (by omega);have wd:(k:Int).tdiv 2=((k/2:Nat):Int):=by rw[O6 (by omega)];omega
   have ww:IntKind.i64.wrap ((k:Int) % 2)=k % 2:=av (by omega);have ww2:IntKind.i64.wrap ((k/2:Nat):Int)=((k/2:Nat):Int):=av (by omega);obtain⟨h2,hh2⟩:=aY (k/2);rw[hh2]at wd ww2 hs;apply aa.ai aq fw [1,2,3,12,13,14,188];simp[aiP,wm];refine aa.cond rfl (λh=>?_) (λh=>?_)
   ·simp at h;have sI:k % 2=0:=by omega
    rw[cM sI]at hs;apply aa.cZ aq fw [1,2,3,12,13,14];simp[aiQ,ov,wd,ww2,Kx,CX,avi];refine⟨⟨h2,n,⟨rfl,rfl⟩,by omega,by omega⟩,Le.aL ?_ ?_ ?_ ?_⟩
    ·simp
    ·simp
    ·simp[<-hs,<-BR]
    ·simp
   ·simp at h;have sI:¬k % 2=0:=by omega
    rw[bX sI]at hs;refine aa.skip ⟨rfl,Le.aL ?_ ?_ ?_ ?_⟩
    ·simp
    ·simp
    ·simp[hs]
    ·simp
  ·apply aa.cZ aq fw [1,2,3,12,13,14];simp[aiR];rw[av (by omega)];refine⟨k+1,Le.aL ?_ ?_ ?_ ?_,by omega,by omega⟩;iterate 3(·simp)
   ·simp
 ·simp at CX;have:k=N:=by omega
  subst this;apply aa.exit;simp;apply aa.ai aq fw [2,12];simp[aiS];apply aa.ai aq fw [2];simp[aiT];apply aa.ret;subst hR;rw[hn,hN,NI,zq];simp[Xe,aF.enc];omega
def BK(y:ba)(aX:Int):Prop:=∀i,i<y.length->0<=y.getD i default/\y.getD i default<aX
instance(y:ba)(aX:Int):Decidable (BK y aX):=by unfold BK;infer_instance
def pN(c:bB)(t:Nat):Prop:=¬(((t:Int)=c.kind/\c.read.getD t default≠0)\/((t:Int)≠c.kind/\c.read.getD t default≠-1/\(c.read.getD t default<1\/c.read.getD t default>60000)))
def AT(c:bB)(aX:Int):Prop:=(¬(c.kind< -1\/c.kind>=aX\/(c.read.length:Int)≠aX\/c.delete<1\/(c.delete>60000/\c.delete≠1099511627776)))/\∀t,t<aX.toNat->pN c t
instance(c:bB)(t:Nat):Decidable (pN c t):=by unfold pN;infer_instance
instance(c:bB)(aX:Int):Decidable (AT c aX):=by unfold AT;infer_instance
def pM(l:List bB)(aX:Int):Prop:=∀i,i<l.length->AT (l.getD i default) aX
instance(l:List bB)(aX:Int):Decidable (pM l aX):=by unfold pM;infer_instance
def Hg(l:ba)(t:Nat):Prop:=¬(l.getD t default<1\/l.getD t default>60000)
instance(l:ba)(t:Nat):Decidable (Hg l t):=by unfold Hg;infer_instance
def inV(x:Input)(aX:Int):Prop:=(¬(aX<0\/(x.ah.length:Int)>60\/(x.insert.length:Int)≠aX\/x.swap<0\/x.swap>60000\/¬pM x.ah aX))/\∀t,t<aX.toNat->Hg x.insert t
instance(x:Input)(aX:Int):Decidable (inV x aX):=by unfold inV;infer_instance
def t58(c:bB)(aX:Int)(h:aX<=1000000000000):aJ ap 141 [.agg c.enc,ti aX] (.bool (decide (AT c aX))):=by
 have aq:=EV;obtain⟨v,hv⟩:=aY (decide (AT c aX));rw[hv];have cW:¬AT c aX->v=false:=λh=>by rw[<-hv];simp[h]
 have dB:AT c aX↔(¬(c.kind< -1\/c.kind>=aX\/(c.read.length:Int)≠aX\/c.delete<1\/(c.delete>60000/\c.delete≠1099511627776)))/\∀t,t<aX.toNat->pN c t:=Iff.rfl;refine c58.ok (by simp) (aH ?_);simp[bB.enc];apply aa.ai aq fw [1,2];simp[aqH];refine aa.lk (o:=[]) (l:=[(1,.v (ti aX)),(2,.v (.box [ti c.kind,.sl (au c.read),ti c.delete]))]) (bn:=1200) (by simp) ?_;apply aa.seq;obtain⟨b,hb⟩:=aY (decide (c.kind< -1\/c.kind>=aX\/(c.read.length:Int)≠aX\/c.delete<1\/(c.delete>60000/\c.delete≠1099511627776)):Bool);refine aa.bL aq fw [(1,.v (ti aX)),(2,.v (.box [ti c.kind,.sl (au c.read),ti c.delete])),(37,.v (.bool b))] ?_ ?_
 ·by_cases q1:c.kind< -1
  ·have nI:b=true:=by rw[<-hb];simp[q1]
   simp[DB,q1,nI]
  ·by_cases q2:aX<=c.kind
   ·have nI:b=true:=by rw[<-hb];simp[q2]
    simp[DB,q1,q2,nI]
   ·by_cases q3:(c.read.length:Int)=aX
    ·by_cases q4:c.delete<1
     ·have nI:b=true:=by rw[<-hb];simp[q4]
      simp[DB,q1,q2,q3,q4,nI]
     ·by_cases q5:60000<c.delete
      ·by_cases q6:c.delete=1099511627776
       ·have nI:b=false:=by rw[<-hb];simp only[pn];omega
        simp[DB,q1,q2,q3,q4,q5,q6,nI]
       ·have nI:b=true:=by rw[<-hb];simp[q5,q6]
        simp[DB,q1,q2,q3,q4,q5,q6,nI]
      ·have nI:b=false:=by rw[<-hb];simp only[pn];omega
       simp[DB,q1,q2,q3,q4,q5,nI]
    ·have nI:b=true:=by rw[<-hb];simp[q3]
     simp[DB,q1,q2,q3,nI]
 refine aa.cond rfl (λh=>?_) (λh=>?_)
 ·rw[h]at hb;simp only[j2]at hb;apply aa.ai aq fw [4];simp[aqI];apply aa.ret;rw[cW λe=>(dB.1 e).1 hb];simp[dI]
 rw[h]at hb;simp only[pn]at hb;obtain⟨n,hn⟩:=aY c.read.length;have JH:aX=(n:Int):=by omega
 subst JH;apply aa.skip;simp;apply aa.sq aq fw [1,2,5];simp[aqJ];apply aa.block;refine aa.loop (λy:Nat=>⟨DM.look [(1,.v (ti n)),(2,.v (.box [ti c.kind,.sl (au c.read),ti c.delete])),(5,.v (ti y))],cR [],2000,1000,[]⟩)
  (λy=>y<=n/\∀t,t<y->pN c t) (λy=>n-y) 0 (Le.aL (o:=[]) ?_ ?_ ?_ ?_) (by simp) (λy hy=>?_)
 iterate 4(·simp)
 obtain⟨vy,fI⟩:=hy;apply aa.sq aq fw [1,2,5,40];simp[aqK];refine aa.cond rfl (λaS=>?_) (λaS=>?_)
 ·simp at aS;have OX:y<c.read.length:=by omega
  have r1:=bA OX;obtain⟨u,hu⟩:=aY (c.read.getD y default);rw[hu]at r1;have th:pN c y↔¬(((y:Int)=c.kind/\u≠0)\/((y:Int)≠c.kind/\u≠-1/\(u<1\/u>60000))):=by unfold pN;rw[hu]
  obtain⟨kd,hkd⟩:=aY c.kind;rw[hkd]at th⊢;apply aa.skip;simp;apply aa.seq;apply aa.block;apply aa.ai aq fw [1,2,5,6];simp[aqL,r1,OX];obtain⟨b2,jZ⟩:=aY (decide (((y:Int)=kd/\u≠0)\/((y:Int)≠kd/\u≠-1/\(u<1\/u>60000))):Bool);refine aa.bL aq fw [(1,.v (ti n)),(2,.v (.box [ti kd,.sl (au c.read),ti c.delete])),(5,.v (ti y)),(73,.v (.bool b2))] ?_ ?_
  ·by_cases q1:(y:Int)=kd
   ·by_cases q2:u=0
    ·have nI:b2=false:=by rw[<-jZ];simp[q1,q2]
     simp[FP,q1,q2,nI]
    ·have nI:b2=true:=by rw[<-jZ];simp[q1,q2]
     simp[FP,q1,q2,nI]
   ·by_cases q2:u= -1
    ·have nI:b2=false:=by rw[<-jZ];simp[q1,q2]
     simp[FP,q1,q2,nI]
    ·by_cases q3:u<1
     ·have nI:b2=true:=by rw[<-jZ];simp[q1,q2,q3]
      simp[FP,q1,q2,q3,nI]
     ·by_cases q4:60000<u
      ·have nI:b2=true:=by rw[<-jZ];simp[q1,q2,q4]
       simp[FP,q1,q2,q3,q4,nI]
      ·have nI:b2=false:=by rw[<-jZ];simp only[pn];omega
       simp[FP,q1,q2,q3,q4,nI]
  refine aa.cond rfl (λh=>?_) (λh=>?_)
  ·rw[h]at jZ;simp only[j2]at jZ;apply aa.ai aq fw [4];simp[aqM];apply aa.ret;rw[cW λe=>th.1 ((dB.1 e).2 y (by simpa using aS)) jZ];simp[dI]
  ·rw[h]at jZ;simp only[pn]at jZ;apply aa.skip;simp;apply aa.cZ aq fw [1,2,5];simp[aqN];rw[av (by omega)];refine⟨y+1,Le.aL (o:=[]) ?_ ?_ ?_ ?_,⟨by omega,λi hi=>?_⟩,by omega⟩;iterate 4(·simp)
   ·by_cases e:i=y
    ·subst e;exact th.2 jZ
    ·exact fI i (by omega)
 simp at aS;apply aa.exit;simp;apply aa.ai aq fw [4];simp[aqO];apply aa.ret;have:v=true:=by
  rw[<-hv,j2];exact dB.2 ⟨by omega,λi hi=>fI i (by simp at hi;omega)⟩
 rw[this];simp[dI]
abbrev ajr:DM.Spec:=bp (λts=>∃(c:bB) (t:Int),ts=[.agg c.enc,ti t]/\t<=1000000000000) (fun|[.agg c,.int _ t]=>.bool (decide (AT (DD c) t))|_=>.bool false) true
def au8:aw ap (bz [(141,ajr)]):=by
 refine aw.cons aw.nil ?_;rintro ts ⟨c,t,rfl,h⟩;exact⟨by simpa using t58 c t h,λ_=>rfl⟩
def t45(l:List bB)(aX:Int)(h1:l.length<=1000000000000)(h2:aX<=1000000000000):aJ ap 97 [.sl (bd l),ti aX] (.bool (decide (pM l aX))):=by
 have aq:=au8;obtain⟨v,hv⟩:=aY (decide (pM l aX));rw[hv];have cW:¬pM l aX->v=false:=λh=>by rw[<-hv];simp[h]
 refine c45.ok (by simp) (aH ?_);simp;apply aa.ai aq fw [0,1];simp[VI];apply aa.sq aq fw [0,1,5];simp[JN];apply aa.block;refine aa.loop (λj:Nat=>⟨DM.look [(0,.v (.sl (bd l))),(1,.v (ti aX)),(5,.v (ti j))],cR [],2000,1000,[]⟩)
  (λj=>j<=l.length/\∀i,i<j->AT (l.getD i default) aX) (λj=>l.length-j) 0 (Le.aL (o:=[]) ?_ ?_ ?_ ?_) (by simp) (λj hj=>?_)
 iterate 4(·simp)
 obtain⟨vy,fI⟩:=hj;apply aa.sq aq fw [0,1,5,9];simp[VJ];refine aa.cond rfl (λaS=>?_) (λaS=>?_)
 ·simp at aS;have r1:=cx aS;apply aa.skip;simp;apply aa.seq;apply aa.block;obtain⟨u,hu⟩:=aY (l.getD j default);rw[hu]at r1;apply aa.ai aq fw [0,1,5,18];obtain⟨a,b,c⟩:=u;simp[VK,aS,r1,bB.enc];rw[show DD [ti a,T.sl (au b),ti c]=⟨a,b,c⟩from DE ⟨a,b,c⟩];refine⟨⟨⟨a,b,c⟩,aX,⟨⟨rfl,rfl,rfl⟩,rfl⟩,h2⟩, ?_⟩;refine aa.cond rfl (λh=>?_) (λh=>?_)
  ·simp at h;apply aa.ai aq fw [4];simp[VL];apply aa.ret;rw[cW λe=>h (by have:=e j aS;rw[hu]at this;exact this)];simp[dI]
  ·simp at h;apply aa.skip;simp;apply aa.cZ aq fw [0,1,5];simp[aqF];rw[av (by omega)];refine⟨j+1,Le.aL (o:=[]) ?_ ?_ ?_ ?_,⟨by omega,λi hi=>?_⟩,by omega⟩;iterate 4(·simp)
   ·by_cases e:i=j
    ·subst e;show AT (l.getD i default) aX;rw[hu];exact h
    ·exact fI i (by omega)
 simp at aS;apply aa.exit;simp;apply aa.ai aq fw [4];simp[aqG];apply aa.ret;have:v=true:=by
  rw[<-hv,j2];exact λi hi=>fI i (by omega)
 rw[this];simp[dI]
abbrev ajs:DM.Spec:=bp (λts=>∃(l:List bB) (t:Int),ts=[.sl (bd l),ti t]/\l.length<=1000000000000/\t<=1000000000000) (fun|[.sl c,.int _ t]=>.bool (decide (pM (kR c) t))|_=>.bool false) true
def au9:aw ap (bz [(97,ajs)]):=by
 refine aw.cons aw.nil ?_;rintro ts ⟨c,t,rfl,h1,h2⟩;exact⟨by simpa using t45 c t h1 h2,λ_=>rfl⟩
def t28(x:Input)(aX:Int)(ht:aX<=1000000000000):aJ ap 43 [x.enc,ti aX] (.bool (decide (inV x aX))):=by
 have aq:=au9;obtain⟨v,hv⟩:=aY (decide (inV x aX));rw[hv];have cW:¬inV x aX->v=false:=λh=>by rw[<-hv];simp[h]
 have dB:inV x aX↔(¬(aX<0\/(x.ah.length:Int)>60\/(x.insert.length:Int)≠aX\/x.swap<0\/x.swap>60000\/¬pM x.ah aX))/\∀t,t<aX.toNat->Hg x.insert t:=Iff.rfl;refine c28.ok (by simp) (aH ?_);simp[Input.enc];apply aa.ai aq fw [1,2];simp[aqy];refine aa.lk (o:=[]) (l:=[(1,.v (ti aX)),(2,.v (.box [.sl (bd x.ah),.sl (au x.insert),ti x.swap]))]) (bn:=1200) (by simp) ?_;apply aa.seq;obtain⟨b,hb⟩:=aY (decide (aX<0\/(x.ah.length:Int)>60\/(x.insert.length:Int)≠aX\/x.swap<0\/x.swap>60000\/¬pM x.ah aX):Bool);refine aa.bL aq fw [(1,.v (ti aX)),(2,.v (.box [.sl (bd x.ah),.sl (au x.insert),ti x.swap])),(37,.v (.bool b))] ?_ ?_
 ·by_cases q1:aX<0
  ·have nI:b=true:=by rw[<-hb];simp[q1]
   simp[DA,q1,nI]
  ·by_cases q2:60<(x.ah.length:Int)
   ·have nI:b=true:=by rw[<-hb];simp[q2]
    simp[DA,q1,q2,nI]
   ·by_cases q3:(x.insert.length:Int)=aX
    ·by_cases q4:x.swap<0
     ·have nI:b=true:=by rw[<-hb];simp[q4]
      simp[DA,q1,q2,q3,q4,nI]
     ·by_cases q5:60000<x.swap
      ·have nI:b=true:=by rw[<-hb];simp[q5]
       simp[DA,q1,q2,q3,q4,q5,nI]
      ·by_cases q6:pM x.ah aX
       ·have nI:b=false:=by rw[<-hb];simp only[pn];rintro(h|h|h|h|h|h)<;>first|omega|exact h q6
        simp[DA,q1,q2,q3,q4,q5,q6,nI];exact⟨x.ah,aX,⟨rfl,rfl⟩,by omega,ht⟩
       ·have nI:b=true:=by rw[<-hb];simp[q6]
        simp[DA,q1,q2,q3,q4,q5,q6,nI];exact⟨x.ah,aX,⟨rfl,rfl⟩,by omega,ht⟩
    ·have nI:b=true:=by rw[<-hb];simp[q3]
     simp[DA,q1,q2,q3,nI]
 refine aa.cond rfl (λh=>?_) (λh=>?_)
 ·rw[h]at hb;simp only[j2]at hb;apply aa.ai aq fw [4];simp[aqz];apply aa.ret;rw[cW λe=>(dB.1 e).1 hb];simp[dI]
 rw[h]at hb;simp only[pn]at hb;have Eu:(x.insert.length:Int)=aX:=by
  by_cases e:(x.insert.length:Int)=aX
  ·exact e
  ·exact eX (.inr (.inr (.inl e))) hb
 obtain⟨n,hn⟩:=aY x.insert.length;rw[hn]at Eu;subst Eu;apply aa.skip;simp;apply aa.sq aq fw [1,2,5];simp[aqA];apply aa.block;refine aa.loop (λy:Nat=>⟨DM.look [(1,.v (ti n)),(2,.v (.box [.sl (bd x.ah),.sl (au x.insert),ti x.swap])),(5,.v (ti y))],cR [],2000,1000,[]⟩)
  (λy=>y<=n/\∀t,t<y->Hg x.insert t) (λy=>n-y) 0 (Le.aL (o:=[]) ?_ ?_ ?_ ?_) (by simp) (λy hy=>?_)
 iterate 4(·simp)
 obtain⟨vy,fI⟩:=hy;apply aa.sq aq fw [1,2,5,40];simp[aqB];refine aa.cond rfl (λaS=>?_) (λaS=>?_)
 ·simp at aS;have OX:y<x.insert.length:=by omega
  have r1:=bA OX;obtain⟨u,hu⟩:=aY (x.insert.getD y default);rw[hu]at r1;have th:Hg x.insert y↔¬(u<1\/u>60000):=by unfold Hg;rw[hu]
  apply aa.skip;simp;apply aa.seq;apply aa.block;refine aa.bL aq fw [(1,.v (ti n)),(2,.v (.box [.sl (bd x.ah),.sl (au x.insert),ti x.swap])),(5,.v (ti y)),(56,.v (.bool (decide (u<1\/60000<u))))] ?_ ?_
  ·by_cases q1:u<1
   ·simp[aeF,r1,OX,q1]
   ·by_cases q2:60000<u<;>simp[aeF,r1,OX,q1,q2]
  refine aa.cond rfl (λh=>?_) (λh=>?_)
  ·simp only[j2]at h;apply aa.ai aq fw [4];simp[aqC];apply aa.ret;rw[cW λe=>th.1 ((dB.1 e).2 y (by simpa using aS)) h];simp[dI]
  ·simp only[pn]at h;apply aa.skip;simp;apply aa.cZ aq fw [1,2,5];simp[aqD];rw[av (by omega)];refine⟨y+1,Le.aL (o:=[]) ?_ ?_ ?_ ?_,⟨by omega,λi hi=>?_⟩,by omega⟩;iterate 4(·simp)
   ·by_cases e:i=y
    ·subst e;exact th.2 h
    ·exact fI i (by omega)
 simp at aS;apply aa.exit;simp;apply aa.ai aq fw [4];simp[aqE];apply aa.ret;have:v=true:=by
  rw[<-hv,j2];exact dB.2 ⟨hb,λi hi=>fI i (by simp at hi;omega)⟩
 rw[this];simp[dI]
open Go.DM Go.DM.iN
section
variable(dj:aG->Prop)(dK:aG->aG->Int)
abbrev my(x y:aG):Bool:=decide (dK x y<0)
variable{dj dK}
end
def qA:Nat:=1000000000
section
variable{al:List bF}
def cF(a:bF):aG:=[ti a.f,ti a.t,ti a.term]
def sT(r:aG):Prop:=∃f t x:Int,r=[ti f,ti t,ti x]
def kF(r:aG):Int×Int×Int:=(dg (r.getD 0 (ti 0)),dg (r.getD 1 (ti 0)),dg (r.getD 2 (ti 0)))
def ZJ(a b:Int×Int×Int):Prop:=a.1<b.1\/(a.1=b.1/\(a.2.1<b.2.1\/(a.2.1=b.2.1/\a.2.2<b.2.2)))
def or3(a b c d e f:Int):PO [s9 a d,s9 b e,s9 c f]<0↔ZJ (a,b,c) (d,e,f):=by
 simp only[PO,s9,ZJ];by_cases h1:a<d
 ·simp[h1]
 ·by_cases h2:d<a
  ·have:a≠d:=by omega
   simp[h1,h2,this]
  ·have:a=d:=by omega
   subst this;by_cases h3:b<e
   ·simp[h3]
   ·by_cases h4:e<b
    ·have:b≠e:=by omega
     simp[h3,h4,this]
    ·have:b=e:=by omega
     subst this;by_cases h5:c<f
     ·simp[h5]
     ·by_cases h6:f<c
      ·have:¬c<f:=by omega
       simp[h5,h6]
      ·simp[h5,h6]
def PP(x y:aG):my eV x y=true↔ZJ (kF x) (kF y):=by
 simp only[my,j2];exact or3 _ _ _ _ _ _
def uB(x y:aG):my eV x y=false↔¬ZJ (kF x) (kF y):=by
 rw[<-PP];simp
def Iy:SWO (my eV):=by
 refine⟨λx=>?_,λx y z h1 h2=>?_,λx y z h1 h2=>?_⟩
 ·rw[uB];unfold ZJ;omega
 ·rw[PP]at h1 h2⊢;unfold ZJ at h1 h2⊢;omega
 ·rw[uB]at h1 h2⊢;unfold ZJ at h1 h2⊢;omega
def aaY{x y:aG}(h:lN (my eV) x y=true):kF x=kF y:=by
 simp only[lN,jv,Fb,uB]at h;unfold ZJ at h;generalize kF x=p at h⊢;generalize kF y=q at h⊢;obtain⟨a1,a2,a3⟩:=p;obtain⟨b1,b2,b3⟩:=q;simp only[mD]at h⊢;omega
def zu{x y:aG}(hx:sT x)(hy:sT y)(h:kF x=kF y):x=y:=by
 obtain⟨a,b,c,rfl⟩:=hx;obtain⟨d,e,f,rfl⟩:=hy;simp[kF,dg]at h;simp[h]
def HJ{l:List (aG)}(hg:∀x∈l,sT x)(hn:l.Nodup)(z:aG):(l.filter (lN (my eV) z)).length<=1:=by
 have Ck:(l.filter (lN (my eV) z)).Nodup:=hn.filter _;have dJ:∀x∈l.filter (lN (my eV) z),sT x/\kF x=kF z:=by
  intro x hx;rw[Zcd]at hx;exact⟨hg x hx.1,(aaY hx.2).symm⟩
 match hl:l.filter (lN (my eV) z),Ck,dJ with
 |[],_,_=>simp
 |[a],_,_=>simp
 |a::b::l,Ck,dJ=>
  exfalso;have h1:=dJ a (by simp);have h2:=dJ b (by simp);have:=zu h1.1 h2.1 (h1.2.trans h2.2.symm);subst this;simp at Ck
def NJ{l1 l2:List (aG)}(hp:l1.Perm l2)(hg:∀x∈l2,sT x)(hn:l2.Nodup):b9 (my eV) l1=b9 (my eV) l2:=by
 refine nA Iy (fq Iy l2) λx=>?_;rw[ma Iy];have h1:=hp.filter (lN (my eV) x);have h2:=HJ hg hn x;cases h:l2.filter (lN (my eV) x)with
 |nil=>rw[h]at h1;exact(List.Perm.eq_nil h1).symm
 |cons a t=>
  rw[h]at h1 h2;have:t=[]:=by cases t with
   |nil=>rfl
   |cons b t=>simp at h2
  subst this;exact(List.perm_singleton.1 h1).symm
def qQ{a b:bF}:cF a=cF b↔aV a b=true:=by simp[cF,aV]
def NL(h:(al.map cF).Nodup)(a:bF):((vU al a).map cF).Nodup:=by
 unfold vU;split
 ·cases hf:al.findIdx? (aV a)with
  |none=>
   simp only;rw[Ic,ZcB];refine⟨h,by simp, ?_⟩;intro x hx y hy;simp only[oK,MK,gN]at hy;subst hy;obtain⟨b,hb,rfl⟩:=j3.1 hx;intro e;rw[Zds]at hf;have:=hf b hb;rw[qQ.1 e.symm]at this;cases this
  |some i=>
   simp only;split
   ·have hi:=u6 hf;rw[Zb2]at hf;have hk:cF a=cF al[i]:=qQ.2 hf.2.1;rw[ZcS,hk];have:(al.map cF).set i (cF al[i])=al.map cF:=by
     apply Th
     ·simp
     ·intro k h1 h2;rw[ZcY];split
      ·rename_i e;subst e;simp
      ·rfl
    rw[this];exact h
   ·exact h
 ·exact h
def w9(cs:List bF):∀{al:List bF},(al.map cF).Nodup->((cy al cs).map cF).Nodup:=by
 induction cs with
 |nil=>intro al h;exact h
 |cons c cs ih=>intro al h;exact ih (NL h c)
def qh(al:List bF)(r:aG):bF:=(al.find? (aV ⟨(kF r).1,(kF r).2.1,(kF r).2.2,0,[]⟩)).getD default
def Xn{α:Type}(p:α->Bool)(l:List α):l.find? p=(l.findIdx? p).bind λi=>l[i]? :=by
 induction l with
 |nil=>rfl
 |cons x l ih=>
  rw[Iu,ZbT];cases h:p x with
  |true=>simp
  |false=>simp[ih];cases l.findIdx? p<;>simp
def uA{a:bF}(h:a∈al):aV a (qh al (cF a))=true/\qh al (cF a)∈al/\∃i,pE a.key (df al)=some (i,(qh al (cF a)).key,.v (.agg (qh al (cF a)).enc)):=by
 have e:aV ⟨(kF (cF a)).1,(kF (cF a)).2.1,(kF (cF a)).2.2,0,[]⟩=aV a:=by
  funext b;simp[aV,kF,cF,dg]
 unfold qh;rw[e,x5,pR,Xn];cases hf:al.findIdx? (aV a)with
 |none=>
  rw[Zds]at hf;have:=hf a h;simp[aV]at this
 |some i=>
  have hi:=u6 hf;rw[Zb2]at hf;simp only[ZcI,gS,mM hi,Ib,Jf];exact⟨hf.2.1,Lc hi,i,rfl⟩
def kD(al:List bF):List bF:=(b9 (my eV) (al.map cF)).map (qh al)
def SL{sn:cN}(h1:sn.Nodup)(h2:∀i∈sn,i<al.length)(h3:∀i,i<al.length->i∈sn):(sn.map λi=>cF (al.getD i default)).Perm (al.map cF):=by
 have hp:sn.Perm (List.range al.length):=(List.perm_ext_iff_of_nodup h1 List.nodup_range).2 λi=>by
  rw[pm];exact⟨h2 i,h3 i⟩
 have:=hp.map λi=>cF (al.getD i default);refine this.trans (List.Perm.of_eq ?_);apply Th
 ·simp
 ·intro k k1 k2;simp at k2;simp[k2]
end
open Go.Shelf
def Ku:Go.Shelf.Ren:=⟨fun|6=>60|15=>111|14=>110|28=>158|29=>159|20=>150|21=>151|22=>152|23=>153|24=>154|25=>155|26=>156|27=>157|46=>187|47=>188|48=>189|49=>190|50=>191|57=>212|n=>n,fun|22=>109|24=>111|25=>113|3=>3|39=>176|0=>0|53=>229|55=>232|4=>4|46=>238|45=>237|50=>99|5=>5|9=>9|66=>281|70=>285|76=>309|77=>275|n=>n,fun|n=>n⟩
def aaZ:SlLaysF0.n6 ap Ku where
 mixed:=by kernel_rfl
 f6:=⟨Tryz.f60.name,by decide+kernel,Tryz.func60.trans (congrArg some (by kernel_rfl))⟩
 f14:=⟨Tryz.f110.name,by decide+kernel,Tryz.func110.trans (congrArg some (by kernel_rfl))⟩
 f15:=Tryz.func111.trans (congrArg some (by kernel_rfl))
 f20:=⟨Tryz.f150.name,by decide+kernel,Tryz.func150.trans (congrArg some (by kernel_rfl))⟩
 f21:=⟨Tryz.f151.name,by decide+kernel,Tryz.func151.trans (congrArg some (by kernel_rfl))⟩
 f22:=⟨Tryz.f152.name,by decide+kernel,Tryz.func152.trans (congrArg some (by kernel_rfl))⟩
 f23:=⟨Tryz.f153.name,by decide+kernel,Tryz.func153.trans (congrArg some (by kernel_rfl))⟩
 f24:=⟨Tryz.f154.name,by decide+kernel,Tryz.func154.trans (congrArg some (by kernel_rfl))⟩
 f25:=⟨Tryz.f155.name,by decide+kernel,Tryz.func155.trans (congrArg some (by kernel_rfl))⟩
 f26:=⟨Tryz.f156.name,by decide+kernel,Tryz.func156.trans (congrArg some (by kernel_rfl))⟩
 f27:=⟨Tryz.f157.name,by decide+kernel,Tryz.func157.trans (congrArg some (by kernel_rfl))⟩
 f28:=Tryz.func158.trans (congrArg some (by kernel_rfl))
 f29:=Tryz.func159.trans (congrArg some (by kernel_rfl))
 f46:=⟨Tryz.f187.name,by decide+kernel,Tryz.func187.trans (congrArg some (by kernel_rfl))⟩
 f47:=Tryz.func188.trans (congrArg some (by kernel_rfl))
 f48:=Tryz.func189.trans (congrArg some (by kernel_rfl))
 f49:=⟨Tryz.f190.name,by decide+kernel,Tryz.func190.trans (congrArg some (by kernel_rfl))⟩
 f50:=⟨Tryz.f191.name,by decide+kernel,Tryz.func191.trans (congrArg some (by kernel_rfl))⟩
 f57:=⟨Tryz.f212.name,by decide+kernel,Tryz.func212.trans (congrArg some (by kernel_rfl))⟩
 t0:=Tryz.underlying0
 a0:=Tryz.isAgg0
 z0:=Tryz.sizeOf0
 v0:=Tryz.zeroValue0
 t3:=Tryz.underlying3
 a3:=Tryz.isAgg3
 z3:=Tryz.sizeOf3
 v3:=Tryz.zeroValue3
 t4:=Tryz.underlying4
 a4:=Tryz.isAgg4
 z4:=Tryz.sizeOf4
 v4:=Tryz.zeroValue4
 t5:=Tryz.underlying5
 a5:=Tryz.isAgg5
 z5:=Tryz.sizeOf5
 v5:=Tryz.zeroValue5
 t9:=Tryz.underlying9
 a9:=Tryz.isAgg9
 z9:=Tryz.sizeOf9
 v9:=Tryz.zeroValue9
 t22:=Tryz.underlying109
 a22:=Tryz.isAgg109
 z22:=Tryz.sizeOf109
 v22:=Tryz.zeroValue109
 t25:=Tryz.underlying113
 a25:=Tryz.isAgg113
 z25:=Tryz.sizeOf113
 v25:=Tryz.zeroValue113
 t39:=Tryz.underlying176
 a39:=Tryz.isAgg176
 z39:=Tryz.sizeOf176
 v39:=Tryz.zeroValue176
 t45:=Tryz.underlying237
 a45:=Tryz.isAgg237
 z45:=Tryz.sizeOf237
 v45:=Tryz.zeroValue237
 t46:=Tryz.underlying238
 a46:=Tryz.isAgg238
 z46:=Tryz.sizeOf238
 v46:=Tryz.zeroValue238
 t50:=Tryz.underlying99
 a50:=Tryz.isAgg99
 z50:=Tryz.sizeOf99
 v50:=Tryz.zeroValue99
 t53:=Tryz.underlying229
 a53:=Tryz.isAgg229
 z53:=Tryz.sizeOf229
 v53:=Tryz.zeroValue229
 t55:=Tryz.underlying232
 a55:=Tryz.isAgg232
 z55:=Tryz.sizeOf232
 v55:=Tryz.zeroValue232
 t66:=Tryz.underlying281
 a66:=Tryz.isAgg281
 z66:=Tryz.sizeOf281
 v66:=Tryz.zeroValue281
 t70:=Tryz.underlying285
 a70:=Tryz.isAgg285
 z70:=Tryz.sizeOf285
 v70:=Tryz.zeroValue285
 t76:=Tryz.underlying309
 a76:=Tryz.isAgg309
 z76:=Tryz.sizeOf309
 v76:=Tryz.zeroValue309
 t77:=Tryz.underlying275
 a77:=Tryz.isAgg275
 z77:=Tryz.sizeOf275
 v77:=Tryz.zeroValue275
def Tu(x y:og 3):Int:=eV (iZ x) (iZ y)
def au6(x:og 3):∃a b c:Int,x.1=[a,b,c]:=by
 obtain⟨l,hl⟩:=x
 match l,hl with
 |[a,b,c],_=>exact⟨a,b,c,rfl⟩
def good_row(x:og 3):sT (iZ x):=by
 obtain⟨a,b,c,h⟩:=au6 x;exact⟨a,b,c,by unfold iZ;rw[h];rfl⟩
def Xo{r:aG}(h:sT r):∃x:og 3,iZ x=r:=by
 obtain⟨a,b,c,rfl⟩:=h;exact⟨⟨[a,b,c],rfl⟩,rfl⟩
def FT:∀{D:List (aG)},(∀x∈D,sT x)->∃E:List (og 3),E.map iZ=D
 |[],_=>⟨[],rfl⟩
 |r::D,h=>by
  obtain⟨x,hx⟩:=Xo (h r (by simp));obtain⟨E,hE⟩:=FT λy hy=>h y (Ej _ hy);exact⟨x::E,by simp[hx,hE]⟩
def ajq(x y:og 3):ltOf Tu x y=my eV (iZ x) (iZ y):=rfl
def Bx:Go.Sort.SWO (ltOf Tu):=
 ⟨λx=>Iy.irrefl _,λx y z=>Iy.trans _ _ _,λx y z=>Iy.ntrans _ _ _⟩
def Xp{k:Nat}{x y:og k}(h:iZ x=iZ y):x=y:=by
 apply Subtype.ext;unfold iZ at h;have key:∀(l m:ba),l.map tI=m.map tI->l=m:=by
  intro l;induction l with
  |nil=>intro m h;cases m with
   |nil=>rfl
   |cons b m=>cases h
  |cons a l ih=>intro m h;cases m with
   |nil=>cases h
   |cons b m=>
    simp only[oK,OQ,T.int.injEq,If]at h;rw[h.1,ih m h.2]
 exact key _ _ h
def aa0(x y:og 3)(h1:ltOf Tu x y=false)(h2:ltOf Tu y x=false):x=y:=by
 rw[ajq]at h1 h2;exact Xp (zu (good_row x) (good_row y) (aaY (by simp[lN,h1,h2])))
def Xq(E:List (og 3)):b9 (my eV) (E.map iZ)=(Ai Tu E).map iZ:=by
 refine nA Iy ?_ λz=>?_
 ·unfold dU;rw[Zdq];have h:=List.pairwise_mergeSort (le:=λx y=> !(ltOf Tu) y x) (λa b c h1 h2=>by
   simp only[Fb]at h1 h2⊢;exact Bx.ntrans _ _ _ h2 h1) (λa b=>by
   cases e:ltOf Tu b a with
   |false=>rfl
   |true=>
    cases e2:ltOf Tu a b with
    |false=>rfl
    |true=>
     have:=Bx.trans _ _ _ e e2;rw[Bx.irrefl]at this;cases this) E
  exact h.imp λ{a b} ik=>by rw[Fb]at ik;exact ik
 ·have hp:((Ai Tu E).map iZ).Perm (E.map iZ):=(List.mergeSort_perm E _).map _;have h1:=hp.filter (lN (my eV) z);have dJ:∀w∈(E.map iZ).filter (lN (my eV) z),∀u∈(E.map iZ).filter (lN (my eV) z),w=u:=by
   intro w hw u hu;rw[Zcd]at hw hu;obtain⟨x,_,rfl⟩:=j3.1 hw.1;obtain⟨y,_,rfl⟩:=j3.1 hu.1;exact zu (good_row x) (good_row y) ((aaY hw.2).symm.trans (aaY hu.2))
  generalize (E.map iZ).filter (lN (my eV) z)=l at h1 dJ;generalize ((Ai Tu E).map iZ).filter (lN (my eV) z)=l' at h1;apply Th h1.length_eq;intro i q1 q2;exact dJ _ (h1.subset (Lc q1)) _ (Lc q2)
theorem NM [bD](x y:og 3):aJ ap 61 [.agg (iZ x),.agg (iZ y)] (tI (Tu x y)):=by
 obtain⟨a,b,c,h⟩:=good_row x;obtain⟨d,e,f,k⟩:=good_row y;unfold Tu;rw[h,k];exact t33 a b c d e f
def t32(D:List (aG)){ab:bS}{r bG e:Nat}(eH:ab r=some (.bm bG e 3 D))(cK:∀x∈D,sT x)(h4:D.length<=qA):
  ce ap 60 [.aW r bG,.v (.fn (.func 61) [])] ab ⟨True,.v (.dh []),b8 ab r (.bm bG e 3 (b9 (my eV) D))⟩:=by
 obtain⟨E,rfl⟩:=FT cK;rw[Xq];unfold qA at h4;exact Jq (k:=3) aaZ (by omega) (λw=>Tryz.isAgg111 w) (λw=>Tryz.sizeOf111 w) (@NM bD.none) Bx aa0 E eH (by simp at h4;omega)
def k32(dj:aG->Prop)(dK:aG->aG->Int):bW->bS->iw
 |[.aW r bG,.v (.fn (.func c) cz)],ab=>match ab r with
  |some (.bm bM e sz D)=>⟨bG=bM/\sz=3/\c=61/\cz=[]/\(∀x∈D,dj x)/\D.length<=qA/\D.length<=1000000000,
    .v (.dh []),b8 ab r (.bm bG e 3 (b9 (my dK) D))⟩
  |_=>⟨False,.undef,ab⟩
 |_,ab=>⟨False,.undef,ab⟩
def au0{l:List (Nat×DM.Spec)}(h:aw ap (bz l)):aw ap (bz ((60,fl (k32 sT eV))::l)):=by
 refine aw.il h ?_;intro args ab h;unfold k32 at h⊢;split at h
 ·split at h
  ·rename_i c cz _ bM e sz D eH;obtain⟨rfl,rfl,rfl,rfl,h1,h4,h5⟩:=h;refine⟨λN hN=>?_,λk hk=>fj eH hk⟩;simp only[];exact(t32 D eH h1 h4).of rfl rfl
  ·exact h.elim
 ·exact h.elim
section
variable{ab:bS}{al:List bF}
def k30:bW->bS->iw
 |[.ptr b 0,.v (.int .i64 i)],ab=>
  ⟨ab b=some (.box (c7 (lg ab b).1 (lg ab b).2))/\ab (lg ab b).2=some (cB (zo ab (lg ab b).2))/\0<=i/\i<=(lg ab b).1.ah.length/\Sg (lg ab b).1,.v (.dh []),
   b8 ab (lg ab b).2 (cB (cy (zo ab (lg ab b).2) (tw (lg ab b).1 i.toNat)))⟩
 |_,ab=>⟨False,.undef,ab⟩
def ajg{b m:Nat}{x:Input}{i:Nat}(h:ab b=some (.box (c7 x m)))(hm:ab m=some (cB al)):
  k30 [.ptr b 0,.v (ti i)] ab=⟨i<=x.ah.length/\Sg x,.v (.dh []),b8 ab m (cB (cy al (tw x i)))⟩:=by
 simp only[k30,Bw h,h,FR hm,hm,gJ,If,Int.ofNat_le,ZcU]
abbrev Γ7:kv:=bz [(58,fl k30),(60,fl (k32 sT eV)),(59,fl k31),(57,xP aeI ajh 3 1)]
def ok7:aw ap Γ7:=by
 refine aw.il (au0 (aw.il (aw.Va aw.nil ?_) ?_)) ?_
 ·rintro ts ⟨v,n,rfl,h1,h2⟩;have:=t29 v n h1 h2;simpa [ajh,au]using this
 ·exact(ok5 59 (fl k31) rfl).st k31 rfl
 ·intro args ab h;unfold k30 at h⊢;split at h
  ·rename_i aM b i;obtain⟨hb,hm,h1,h2,h3⟩:=h;obtain⟨i,rfl⟩:=jE h1;refine⟨λN hN=>?_,λr hr=>fj hm hr⟩;exact ce.of (t30 hN hb hm (by omega) h3) (by simp) (by simp)
  ·exact h.elim
def Xk:cA:=[
 a 2 5 36 [],
 l 36 37 [0],
 n 6 38,
 o (.bin .mul (i 2) (t 38)) 39 [2],
 n 3 40,
 n 6 41,
 n 4 42,
 o (.callR 59 [(t 40),(t 41),(t 42)]) 43 [4,5,6],
 m 43 35 [7],
 e 0 35 44 [8],
 e 1 35 45 [8],
 x 1 37 39 46 (k [1,3] 9),
 S 1 46 44 (k [11,9,7] 9)]
def Xl{b m:Nat}{x:Input}{i j:Nat}(h:ab b=some (.box (c7 x m))):
  ru k31 [.ptr b 0,.v (ti i),.v (ti j)] ab=(i<=j/\j<=x.ah.length/\mB x.ah)/\
   (k31 [.ptr b 0,.v (ti i),.v (ti j)] (oO ab [.ptr b 0,.v (ti i),.v (ti j)])).val=.v (.dh [ti (fL ((x.ah.take j).drop i) 0),.sl (ca (d6 (j-i)))]):=by
 have hr:oO ab [.ptr b 0,.v (ti i),.v (ti j)] b=some (.box (c7 x m)):=by simp[oO,da,bv,h]
 refine⟨?_,by rw[zp hr]⟩;unfold ru;apply propext;constructor
 ·intro H;have:=H ab (λ_ _=>rfl);rw[zp h]at this;exact this.1
 ·intro H o ho;have hb:o b=some (.box (c7 x m)):=by rw[ho b (by simp[da,bv]),h]
  rw[zp hb,zp hr];exact⟨H,rfl,rfl⟩
def w8(x:Input)(y:Nat):List bF:=(List.range y).flatMap (tw x)
def SJ(x:Input)(y:Nat):w8 x (y+1)=w8 x y++tw x y:=by simp[w8,tp]
def gT(x:Input)(n y:Nat):List (aG):=(List.range n).map λs=>[ti (if s % 2=0/\s/2<y then ez x (s/2) x.ah.length else 1099511627776)]
def Kr(x:Input){n y:Nat}(h:2*y<n):(gT x n y).set (2*y) [ti (ez x y x.ah.length)]=gT x n (y+1):=by
 apply Th
 ·simp[gT]
 ·intro k h1 h2;rw[ZcY];simp only[gT,Zci,LA];split
  ·rename_i e;subst e;rw[cM (by omega),show 2*y/2=y by omega]
  ·rename_i e;by_cases hk:k % 2=0/\k/2<y
   ·rw[cM hk,cM (by omega)]
   ·rw[bX hk,bX (by omega)]
def Ks(x:Input)(n y:Nat):(gT x n y).length=n:=by simp[gT]
def HH(x:Input)(n:Nat):gT x n 0=List.replicate n [ti 1099511627776]:=by
 apply Th
 ·simp[gT]
 ·intro k h1 h2;simp[gT]
def gK(a b:bS)(σ:Nat->Nat)(cs yJ:bW):jx a b σ (.box cs) (.box yJ)=kJ a b σ cs yJ:=rfl
def jk(a b:bS)(σ:Nat->Nat)(v v' e e' sz jt:Nat)(aC eN:List (aG)):jx a b σ (.bm v e sz aC) (.bm v' e' jt eN)=(e=e'/\sz=jt/\aC=eN):=rfl
def uo(a b:bS)(al:List bF):jx a b id (cB al) (cB al):=by
 simp only[cB,jx];exact⟨trivial,trivial,trivial,o8 λe he=>by obtain⟨x,hx⟩:=fY al e he;rw[hx];simp⟩
def Ay{e:Nat×T×DV}(h:e∈df al):∃i,i<al.length/\e=(i,(al.getD i default).key,.v (.agg (al.getD i default).enc)):=by
 obtain⟨i,hi,rfl⟩:=ZbY h;rw[lD]at hi;refine⟨i,hi, ?_⟩;have:=gS al i;rw[mM (by rw[lD];exact hi),mM hi]at this;simp only[Ib,cq]at this;rw[this];simp[List.getD,hi]
def HI{i:Nat}(h:i<al.length):(df al).find? (λe=>e.1==i)=some (i,(al.getD i default).key,.v (.agg (al.getD i default).enc)):=by
 rw[Zda];have hg:∀(j:Nat) (hj:j<(df al).length),(df al)[j]=(j,(al.getD j default).key,.v (.agg (al.getD j default).enc)):=by
  intro j hj;rw[lD]at hj;have:=gS al j;rw[mM (by rw[lD];exact hj),mM hj]at this;simp only[Ib,cq]at this;rw[this];simp[List.getD,hj]
 refine⟨by simp,i,by rw[lD];exact h,hg _ _,λj hj=>?_⟩;rw[hg];simp;omega
def zr:∀(n:Nat) {l:cN},l.Nodup->(∀i∈l,i<n)->l.length<=n
 |0,l,_,h=>by cases l with
  |nil=>simp
  |cons a l=>exact eX (h a (by simp)) (by omega)
 |n+1,l,hn,h=>by
  by_cases hm:n∈l
  ·have h1:=List.length_erase_of_mem hm;have h2:=zr n (l:=l.erase n) (hn.erase n) (λi hi=>by
    have:=h i (List.mem_of_mem_erase hi);have dd:i≠n:=λe=>by subst e;exact(List.Nodup.not_mem_erase hn) hi
    omega)
   omega
  ·have:=zr n hn (λi hi=>by
    have:=h i hi;have dd:i≠n:=λe=>hm (e▸hi);omega)
   omega
def ne(a b:bS)(al:List bF):iD a b id (df al) (df al):=o8 λe he=>by obtain⟨x,hx⟩:=fY al e he;rw[hx];simp
def SK{α:Type}{f:α->aG}{l:List α}{y:Nat}{a:α}(h:y<l.length)(ha:l[y]=a):(l.take (y+1)).map f=(l.take y).map f++[f a]:=by
 rw[Tg,mM h,ha];simp
def lT(x:Input):List bF:=cy [] (w8 x (x.ah.length+1))
def yH(x:Input):ba:=(List.range (2*x.ah.length+1)).map λs=>if s % 2=0 then ez x (s/2) x.ah.length else 1099511627776
def qR(x:Input):aF:=⟨2*x.ah.length+1,kD (lT x),yH x⟩
def Kt(x:Input):gT x (2*x.ah.length+1) (x.ah.length+1)=au (yH x):=by
 simp only[gT,yH,au,ZcT];apply ZbN;intro s hs;simp only[pm]at hs;by_cases h:s % 2=0
 ·simp only[Function.comp_apply,h,jB,If];rw[cM (by omega)]
 ·simp[h]
@[simp] def aeJ(al:List bF):jT (some (cB al)):=by simp[jT,cB]
def t12(x:Input)(hx:Sg x)(yC:(lT x).length<=qA)(jZ:(lT x).length<=1000000000):aJ ap 21 [x.enc] (qR x).enc:=by
 have aq:=ok7;have hl:=hx.1.1;refine c12.ok (by simp) (aH ?_);simp[Input.enc];apply aa.ai aq fw [1,2];simp[WI];apply aa.ai aq fw [1,2,3];simp[WJ];apply aa.ai aq fw [2,3,4];simp[WK];obtain⟨n2,FF⟩:=aY (2*x.ah.length+1);have w1:IntKind.i64.wrap (2*(x.ah.length:Int))=2*x.ah.length:=av (by omega);have w2:IntKind.i64.wrap (2*(x.ah.length:Int)+1)=(n2:Int):=by rw[av (by omega)];omega
 refine aa.fR aq fw (rs:=W6) (.inr ⟨_,pV⟩) (by kernel_rfl) [2,3,4,5] ?_;simp[W6,w1,w2,aeI,ajh,di];refine⟨⟨1099511627776,n2,⟨rfl,rfl⟩,by omega,by omega⟩, ?_⟩;obtain⟨n,hn⟩:=aY x.ah.length;rw[hn]at FF hl;apply aa.seq;have w3:IntKind.i64.wrap ((n:Int)+1)=((n+1:Nat):Int):=by rw[av (by omega)];omega
 apply aa.ai aq fw [2,3,4,5,28,29];simp[WL,hn,w3];obtain⟨n1,hn1⟩:=aY (n+1);rw[show((n:Int)+1)=(n1:Int)by omega];refine aa.to ⟨DM.look [(2,.ptr 1003 0),(3,.ptr 1098 0),(5,.ptr 1255 0)],cR [(1003,.box [.v (ti 0),.aZ,.aZ]),(1098,.box (c7 x 1096)),(1096,cB (cy [] (w8 x n1))),(1255,.box [.v (ti n2),.aZ,.aW 1275 0]),(1275,.bm 0 3 1 (gT x n2 n1))],3000,1000,[]⟩ ?_ ?_
 ·apply aa.block;refine aa.loop (λy:Nat=>⟨DM.look [(2,.ptr 1003 0),(3,.ptr 1098 0),(4,.v (ti n)),(5,.ptr 1255 0),(28,.v (ti n1)),(29,.v (ti y))],cR [(1003,.box [.v (ti 0),.aZ,.aZ]),(1098,.box (c7 x 1096)),(1096,cB (cy [] (w8 x y))),(1255,.box [.v (ti n2),.aZ,.aW 1275 0]),(1275,.bm 0 3 1 (gT x n2 y))],3000,1000,[]⟩)
   (λy=>y<=n1) (λy=>n1-y) 0 (Le.aL ?_ ?_ ?_ ?_) (by simp) (λy hy=>?_)
  ·simp
  ·simp[]
  ·simp[c7,cB,df,w8,cy,HH,jw,iD,jT]
  ·simp
  apply aa.ai aq fw [2,3,4,5,28,29,30];simp[WN];apply aa.seq;refine aa.cond rfl (λaS=>?_) (λaS=>?_)
  ·simp at aS;apply aa.skip;simp;apply aa.seq;apply aa.block;apply aa.ai aq fw [2,3,4,5,6,28,29];simp[WO];refine aa.fR aq fw (rs:=W7) (.inr ⟨_,pV⟩) (by kernel_rfl) [2,3,4,5,6,28,29] ?_;simp[W7,ajg (x:=x) (m:=1096) (al:=cy [] (w8 x y))];refine⟨⟨by omega,hx⟩, ?_⟩;obtain⟨Lo,zq⟩:=aY (cy (cy [] (w8 x y)) (tw x y));have aro:cy [] (w8 x (y+1))=Lo:=by rw[SJ,ia,zq]
   rw[zq,fb];refine aa.le (Le.aL (o:=[(1003,.box [.v (ti 0),.aZ,.aZ]),(1098,.box (c7 x 1096)),(1096,cB Lo),(1255,.box [.v (ti n2),.aZ,.aW 1275 0]),(1275,.bm 0 3 1 (gT x n2 y))]) (l:=[(2,.ptr 1003 0),(3,.ptr 1098 0),(4,.v (ti n)),(5,.ptr 1255 0),(6,.v (ti y)),(28,.v (ti n1)),(29,.v (ti y))]) (bn:=4000) ?_ ?_ ?_ ?_) ?_
   ·simp
   ·simp
   ·simp[-jx,gK,jk,uo,c7,jw]
   ·simp
   have hyn:y<=n:=by omega
   have w4:IntKind.i64.wrap (2*(y:Int))=((2*y:Nat):Int):=by rw[av (by omega)];omega
   obtain⟨y2,fI⟩:=aY (2*y);rw[fI]at w4;have sZ:y2<n2:=by omega
   have hdc:fL ((x.ah.take n).drop y) 0=ez x y n:=rfl;have sD:DM.rowAt (gT x n2 y) (y2:Int)=[ti 1099511627776]:=by
    have e:(2*(y:Int)).toNat=y2:=by omega
    subst fI;simp[DM.rowAt,gT,e,sZ]
   have kc:=Kr x (n:=n2) (y:=y) (by omega);rw[fI,hn]at kc;have hd:=hx.1;refine aa.rP aq fw (rs:=Xk) (.inr ⟨_,pV⟩) (by kernel_rfl) [2,3,4,5,28,29] ?_;simp[Xk,Xl (x:=x) (m:=1096),hn,w4,hd,hyn,Ks,sZ,hdc,sD,kc];apply aa.cZ aq fw [2,3,4,5,28,29];simp[WP];rw[av (by omega)];refine⟨y+1,Le.aL ?_ ?_ ?_ ?_,by omega,by omega⟩
   ·simp
   ·simp
   ·simp[-jx,gK,jk,uo,c7,jw,aro]
   ·simp
  ·simp at aS;have:y=n1:=by omega
   subst this;refine aa.exit ⟨rfl,Le.aL ?_ ?_ ?_ ?_⟩
   ·simp
   ·simp
   ·simp[-jx,gK,jk,uo,c7,jw]
   ·simp
 ·obtain⟨al,mE⟩:=aY (cy [] (w8 x n1));obtain⟨fr,kc⟩:=aY (gT x n2 n1);rw[mE,kc];apply aa.ai aq fw [2,3,5,7];simp[Ni];apply aa.sq aq fw [2,3,5,7,52];simp[Nj,c7,cB];refine aa.le (Le.j7 (k:=7) 111 (sz:=3) (by omega) (by simp)) ?_;rw[fb];apply aa.block;refine aa.loop (λsn:cN=>⟨DM.look [(2,.ptr 1003 0),(3,.ptr 1098 0),(5,.ptr 1255 0),(7,.aW 3166 0),(52,.eo 3136)],cR [(1003,.box [.v (ti 0),.aZ,.aZ]),(1098,.box (c7 x 1096)),(1096,cB al),(1255,.box [.v (ti n2),.aZ,.aW 1275 0]),(1275,.bm 0 3 1 fr),(3166,.bm 0 111 3 (sn.map λi=>cF (al.getD i default))),(3136,.eo 1096 al.length sn al.length)],4000,1000,[]⟩)
   (λsn=>sn.Nodup/\∀i∈sn,i<al.length) (λsn=>al.length-sn.length) [] (Le.aL ?_ ?_ ?_ ?_) (by simp) (λsn hs=>?_)
  ·simp
  ·simp
  ·simp[-jx,gK,jk,c7,jw];simp[jx,cB,jT];exact o8 λe he=>by obtain⟨x,hx⟩:=fY al e he;rw[hx];simp
  ·simp[Vd,CE]
  obtain⟨yz,Tk⟩:=hs;apply aa.seq;refine aa.next (r:=3136) (m:=1096) (s:=al.length) (l:=al.length) (c:=al.length) (sn:=sn) (bZ:=mI) (agg:=true) (es:=df al) (by simp) (by simp) (by simp[cB]) (λe he=>?_) (eT _) (λU2=>?_) (λe he dd=>?_)
  ·obtain⟨i,hi,rfl⟩:=Ay he;exact hi
  ·simp;have hp:=SL yz Tk λi hi=>U2 _ (Et (by rw[gS,mM hi];rfl:(df al)[i]? =some (i,al[i].key,.v (.agg al[i].enc))));have pQ:∀r∈sn.map (λi=>cF (al.getD i default)),sT r:=by
    intro r hr;obtain⟨i,_,rfl⟩:=j3.1 hr;exact⟨_,_,_,rfl⟩
   have ct:(sn.map (λi=>cF (al.getD i default))).length=al.length:=by rw[hp.length_eq];simp
   have Bg:(al.map cF).Nodup:=by rw[<-mE];exact w9 _ (by simp)
   have hso:b9 (my eV) (sn.map (λi=>cF (al.getD i default)))=b9 (my eV) (al.map cF):=NJ hp (λr hr=>by
    obtain⟨a,_,rfl⟩:=j3.1 hr;exact⟨_,_,_,rfl⟩) Bg
   have aaW:lT x=al:=by unfold lT;rw[hn,hn1,mE]
   rw[aaW]at yC jZ;rw[<-ct]at yC jZ;obtain⟨aC,cK⟩:=aY (sn.map (λi=>cF (al.getD i default)));have aji:sn.map (λi=>cF (al[i]?.getD default))=aC:=cK;rw[cK]at yC jZ pQ hso ct;rw[aji];apply aa.seq;refine aa.cond rfl (λh=>by cases h) (λ_=>?_);apply aa.exit;simp;refine aa.fR aq fw (rs:=PF) (.inr ⟨_,pV⟩) (by kernel_rfl) [2,3,5,7] ?_;simp[PF,k32,hso,yC,jZ];refine⟨pQ, ?_⟩;obtain⟨ks,hks⟩:=aY (b9 (my eV) (al.map cF));have ajj:ks.length=al.length:=by rw[<-hks,gO];simp
   have au1:∀r∈ks,∃a∈al,cF a=r:=by
    intro r hr;rw[<-hks,gI]at hr;obtain⟨a,ha,rfl⟩:=j3.1 hr;exact⟨a,ha,rfl⟩
   rw[hks,fb];refine aa.le (Le.aL (o:=[(1003,.box [.v (ti 0),.aZ,.aZ]),(1098,.box (c7 x 1096)),(1096,cB al),(1255,.box [.v (ti n2),.aZ,.aW 1275 0]),(1275,.bm 0 3 1 fr),(3166,.bm 0 111 3 ks)]) (l:=[(2,.ptr 1003 0),(3,.ptr 1098 0),(5,.ptr 1255 0),(7,.aW 3166 0)]) (bn:=4500) ?_ ?_ ?_ ?_) ?_
   ·simp
   ·simp
   ·simp[c7,jw,jT,ne,cB]
   ·simp
   refine aa.le (Le.qZ 1255 1 115 (sz:=5) (cs:=[.v (ti n2),.aZ,.aW 1275 0]) (by omega) (by simp) (by simp)) ?_;rw[fb,fb];apply aa.sq aq fw [2,3,5,63,64,65];simp[Nm,ajj];refine aa.to ⟨DM.look [(2,.ptr 1003 0),(5,.ptr 1255 0)],cR [(1003,.box [.v (ti 0),.aZ,.aZ]),(1255,.box [.v (ti n2),.aW 4500 0,.aW 1275 0]),(1275,.bm 0 3 1 fr),(4500,.bm 0 115 5 (bq (kD al)))],6000,1000,[]⟩ ?_ ?_
   ·apply aa.block;refine aa.loop (λy:Nat=>⟨DM.look [(2,.ptr 1003 0),(3,.ptr 1098 0),(5,.ptr 1255 0),(63,.aW 3166 0),(64,.v (ti al.length)),(65,.v (ti y))],cR [(1003,.box [.v (ti 0),.aZ,.aZ]),(1098,.box (c7 x 1096)),(1096,cB al),(1255,.box [.v (ti n2),.aW 4500 0,.aW 1275 0]),(1275,.bm 0 3 1 fr),(3166,.bm 0 111 3 ks),(4500,.bm 0 115 5 (bq ((ks.take y).map (qh al))))],6000,1000,[]⟩)
     (λy=>y<=al.length) (λy=>al.length-y) 0 (Le.aL ?_ ?_ ?_ ?_) (by simp) (λy hy=>?_)
    ·simp
    ·simp
    ·simp[c7,jw,jT,ne,cB,bq]
    ·simp
    apply aa.ai aq fw [2,3,5,63,64,65,66];simp[No];apply aa.seq;refine aa.cond rfl (λaS=>?_) (λaS=>?_)
    ·simp at aS;apply aa.skip;simp;apply aa.seq;apply aa.block;obtain⟨r,hr⟩:=aY (ks[y]'(by omega));obtain⟨a,ha,hak⟩:=au1 r (by rw[<-hr];exact Lc _);have gf:DM.rowAt ks y=cF a:=by rw[hak,<-hr];simp[DM.rowAt,ajj,aS]
     obtain⟨l1,l2,i,l3⟩:=uA ha;have aeK:=SK (f:=λr=>(qh al r).enc) (by omega) hr;obtain⟨c,hc⟩:=aY (qh al (cF a));rw[hc]at l3;rw[<-hak,hc]at aeK;have ajk:bq (List.take (y+1) (List.map (qh al) ks))=bq (List.take y (List.map (qh al) ks))++[[ti c.f,ti c.t,ti c.term,ti c.aA,.sl (ca c.ops)]]:=by
      have:=aeK;simp only[bq,Zdo,ZcT]at this⊢;exact this
     simp only[bF.key,keyOf]at l3;apply aa.ai aq fw [2,3,5,10,63,64,65];simp[Np,gf,ajj,aS,cF];apply aa.cZ aq fw [2,3,5,63,64,65];simp[Nq,c7,cB,l3,bF.enc,cw,di];refine⟨⟨by omega,by omega⟩, ?_⟩;apply aa.cZ aq fw [2,3,5,63,64,65];simp[Nr];rw[av (by omega)];refine⟨y+1,Le.aL ?_ ?_ ?_ ?_,by omega,by omega⟩
     ·simp
     ·simp
     ·simp[jw,jT,ne,ajk]
     ·simp
    ·simp at aS;have:y=al.length:=by omega
     subst this;refine aa.exit ⟨rfl,Le.aL ?_ ?_ ?_ ?_⟩
     ·simp
     ·simp
     ·simp[kD,hks];rw[Zb0 (by simp;omega)]
     ·simp
   ·apply aa.ai aq fw [2];simp[aii];apply aa.ret;have fN:fr=au (yH x):=by rw[<-kc,<-hn1,<-FF,<-hn];exact Kt x
    simp[Dv,qR,aF.enc,aaW,fN,hn];omega
  ·obtain⟨i,hi,rfl⟩:=Ay he;have aeL:=HI hi;obtain⟨a,ha⟩:=aY (al.getD i default);rw[ha]at aeL;simp only at dd;simp;apply aa.seq;refine aa.cond rfl (λ_=>?_) (λh=>by cases h);apply aa.skip;simp;apply aa.block;apply aa.ai aq fw [2,3,5,7,8,52];simp[Nk,cB,aeL,bF.key,keyOf];apply aa.cZ aq fw [2,3,5,7,52];simp[Nl,cw,di];have ct:=zr al.length (l:=i::sn) (by simp[dd,yz]) (by simp;exact⟨hi,Tk⟩);simp at ct;have aaW:lT x=al:=by unfold lT;rw[hn,hn1,mE]
   rw[aaW]at jZ;have ha':al[i]?.getD default=a:=ha;refine⟨⟨by omega,by omega⟩,sn++[i],Le.aL ?_ ?_ ?_ ?_,⟨?_, ?_⟩, ?_⟩
   ·simp
   ·simp
   ·simp[c7,jw,jT,ne,ha',cF]
   ·simp[Vd,CE]
   ·rw[ZcB];exact⟨yz,by simp,by simp;intro q hq e;subst e;exact dd hq⟩
   ·intro j hj;rw[mA,gN]at hj;rcases hj with h|h
    ·exact Tk j h
    ·omega
   ·simp;omega
end
def gF{α:Type}{f:Nat->List α}{i m:Nat}{a:α}(h:a∈ft f i m):∃k,i<=k/\k<m/\a∈f k:=by
 unfold ft at h;obtain⟨e,he,ha⟩:=vG.1 h;rw[pm]at he;exact⟨i+e,by omega,by omega,ha⟩
def wA(x:Input)(k:Nat):(fe x k).length=2*x.ah.length+1:=by simp[fe]
def JM{x:Input}(ht:x.insert.length<=100)(hn:x.ah.length<=60):(eK x).length<=900000:=by
 unfold eK;have h1:=ib (ft (iI x) 0 (x.ah.length+1)) (bE [] (ft (rI x) 0 (x.ah.length+1)));have h2:=ib (ft (rI x) 0 (x.ah.length+1)) [];have h3:=kz (f:=iI x) (B:=7000) (λk=>Xz x k ht hn) 0 (x.ah.length+1);have h4:=kz (f:=rI x) (B:=7000) (λk=>Xx x k ht hn) 0 (x.ah.length+1);simp at h2;omega
section
variable{al:List bF}
def fZ{a b:bF}:aV a b=true↔a.f=b.f/\a.t=b.t/\a.term=b.term:=by simp[aV]
def wZ(a:bF):aV a a=true:=by simp[aV]
def iU(a b:bF):aV a b=aV b a:=by
 simp only[aV,decide_eq_decide];omega
def n7{a b:bF}(h:aV a b=true)(k:bF):aV k a=aV k b:=by
 rw[fZ]at h;simp only[aV,decide_eq_decide];omega
def before_irrefl(a:bF):¬cb a a:=by unfold cb;omega
def before_trans{a b c:bF}(h:cb a b)(h2:cb b c):cb a c:=by unfold cb at*;omega
def Gb{a b:bF}(h:cb a b):¬cb b a:=by unfold cb at*;omega
def BE{a b:bF}(h:cb a b):aV a b=false:=by
 cases e:aV a b with
 |false=>rfl
 |true=>rw[fZ]at e;unfold cb at h;omega
def BF{a b:bF}(h1:aV a b=false)(h2:¬cb a b):cb b a:=by
 have:¬(a.f=b.f/\a.t=b.t/\a.term=b.term):=λe=>by rw[fZ.2 e]at h1;cases h1
 unfold cb at*;omega
def Is{a b c:bF}(h:aV a b=true)(h2:cb a c):cb b c:=by
 rw[fZ]at h;unfold cb at*;omega
def kj(k:bF)(o:Option bF)(a:bF):Option bF:=
 if a.aA<1099511627776/\aV k a=true then
  match o with
  |none=>some a
  |some b=>if a.aA<b.aA then some a else some b
 else o
def Lr(a:bF):List bF->List bF
 |[]=>[a]
 |b::l=>if aV a b=true then(if a.aA<b.aA then a else b)::l else b::Lr a l
def aaa{a:bF}(h:a.aA<1099511627776)(al:List bF):vU al a=Lr a al:=by
 unfold vU;rw[cM h];induction al with
 |nil=>simp[Lr]
 |cons b l ih=>
  rw[ZbT];unfold Lr;cases e:aV a b with
  |true=>simp;split<;>rfl
  |false=>
   simp;rw[<-ih];cases hf:l.findIdx? (aV a)with
   |none=>simp
   |some i=>simp;split<;>rfl
def EJ(k a:bF):∀l:List bF,(Lr a l).find? (aV k)=if aV k a=true then(match l.find? (aV k)with|none=>some a|some b=>if a.aA<b.aA then some a else some b)else l.find? (aV k)
 |[]=>by unfold Lr;rw[Iu];cases aV k a<;>simp
 |b::l=>by
  unfold Lr;split
  ·rename_i e;have h1:=n7 e k;have h2:aV k (if a.aA<b.aA then a else b)=aV k b:=by split<;>simp[h1]
   rw[Iu,Iu,h2,h1];cases h3:aV k b with
   |true=>simp;split<;>rfl
   |false=>simp
  ·rename_i e;rw[Iu,Iu];cases h3:aV k b with
   |true=>
    have:aV k a=false:=by
     cases h4:aV k a with
     |false=>rfl
     |true=>
      exfalso;apply e;rw[fZ]at h3 h4⊢;omega
    simp[this]
   |false=>simp only[];exact EJ k a l
def Iv(k:bF)(cs:List bF):∀al:List bF,(cy al cs).find? (aV k)=cs.foldl (kj k) (al.find? (aV k)):=by
 induction cs with
 |nil=>intro al;rfl
 |cons c cs ih=>
  intro al;show(cy (vU al c) cs).find? (aV k)=_;rw[ih,zN]
  congr 1
  by_cases hc:c.aA<1099511627776
  ·rw[aaa hc,EJ];unfold kj;simp[hc]
  ·unfold vU kj;rw[bX hc,bX (λe=>hc e.1)]
def w6(a:bF):List bF->List bF
 |[]=>[a]
 |b::l=>if aV b a=true then(if a.aA<b.aA then a else b)::l else if cb a b then a::b::l else b::w6 a l
def w7(a:bF)(l eU:List bF):l.foldl (fp a) (true,eU)=(true,eU++l):=by
 induction l generalizing eU with
 |nil=>simp
 |cons b l ih=>simp only[zN,fp];simp[ih]
def Gc(a:bF)(p:Bool×List bF):List bF:=if p.1=true then p.2 else p.2++[a]
def zO(a:bF):∀(l eU:List bF),Gc a (l.foldl (fp a) (false,eU))=eU++w6 a l
 |[],eU=>by simp[w6,Gc]
 |b::l,eU=>by
  rw[zN];unfold w6;by_cases h1:aV b a=true
  ·have:fp a (false,eU) b=(true,eU++[if a.aA<b.aA then a else b]):=by simp[fp,h1]
   rw[this,w7];simp[h1,Gc]
  ·by_cases h2:cb a b
   ·have:fp a (false,eU) b=(true,eU++[a]++[b]):=by simp[fp,h1,h2]
    rw[this,w7];simp[h1,h2,Gc]
   ·have:fp a (false,eU) b=(false,eU++[b]):=by simp[fp,h1,h2]
    rw[this,zO a l];simp[h1,h2]
def On{a:bF}(h:a.aA<1099511627776)(l:List bF):vo l a=w6 a l:=by
 unfold vo;rw[bX (by omega)];have:=zO a l [];simp only[Em]at this;exact this
def Iw{a c:bF}:∀{l:List bF},c∈w6 a l->c=a\/c∈l
 |[],h=>by simp[w6]at h;exact .inl h
 |b::l,h=>by
  unfold w6 at h;split at h
  ·rcases nH.1 h with h|h
   ·split at h
    ·exact .inl h
    ·exact .inr (by simp[h])
   ·exact .inr (by simp[h])
  ·split at h
   ·rcases nH.1 h with h|h
    ·exact .inl h
    ·exact .inr h
   ·rcases nH.1 h with h|h
    ·exact .inr (by simp[h])
    ·rcases Iw h with h|h
     ·exact .inl h
     ·exact .inr (by simp[h])
def zP{a:bF}:∀{l:List bF},l.Pairwise cb->(w6 a l).Pairwise cb
 |[],_=>by simp[w6]
 |b::l,h=>by
  rw[Ls]at h;unfold w6;split
  ·rename_i e;rw[Ls];refine⟨λc hc=>?_,h.2⟩;split
   ·exact Is e (h.1 c hc)
   ·exact h.1 c hc
  ·rename_i e;split
   ·rename_i e2;rw[Ls];refine⟨λc hc=>?_,Ls.2 h⟩;rcases nH.1 hc with rfl|hc
    ·exact e2
    ·exact before_trans e2 (h.1 c hc)
   ·rename_i e2;rw[Ls];refine⟨λc hc=>?_,zP h.2⟩;rcases Iw hc with rfl|hc
    ·exact BF (by rw[iU];simpa using e) e2
    ·exact h.1 c hc
def EK(k a:bF):∀l:List bF,l.Pairwise cb->(w6 a l).find? (aV k)=if aV k a=true then(match l.find? (aV k)with|none=>some a|some b=>if a.aA<b.aA then some a else some b)else l.find? (aV k)
 |[],_=>by unfold w6;rw[Iu];cases aV k a<;>simp
 |b::l,h=>by
  rw[Ls]at h;unfold w6;split
  ·rename_i e;rw[iU]at e;have h1:=n7 e k;have h2:aV k (if a.aA<b.aA then a else b)=aV k b:=by split<;>simp[h1]
   rw[Iu,Iu,h2,h1];cases h3:aV k b with
   |true=>simp;split<;>rfl
   |false=>simp
  ·rename_i e;split
   ·rename_i e2;rw[Iu];cases h3:aV k a with
    |true=>
     have:(b::l).find? (aV k)=none:=by
      rw[Zdi];intro c hc hk;have hb:cb a c:=by
       rcases nH.1 hc with rfl|hc
       ·exact e2
       ·exact before_trans e2 (h.1 c hc)
      have:=BE hb;rw[fZ]at h3 hk;rw[fZ.2 (by omega)]at this;cases this
     rw[this];rfl
    |false=>rfl
   ·rename_i e2;rw[Iu,Iu];cases h3:aV k b with
    |true=>
     have:aV k a=false:=by
      cases h4:aV k a with
      |false=>rfl
      |true=>
       exfalso;apply e;rw[fZ]at h3 h4⊢;omega
     simp[this]
    |false=>simp only[];exact EK k a l h.2
def zQ{l:List bF}(h:l.Pairwise cb)(a:bF):(vo l a).Pairwise cb:=by
 by_cases hc:a.aA<1099511627776
 ·rw[On hc];exact zP h
 ·unfold vo;rw[cM (by omega)];exact h
def vF(cs:List bF):∀{al:List bF},al.Pairwise cb->(bE al cs).Pairwise cb:=by
 induction cs with
 |nil=>intro al h;exact h
 |cons c cs ih=>intro al h;exact ih (zQ h c)
def tr(k:bF)(cs:List bF):∀{al:List bF},al.Pairwise cb->(bE al cs).find? (aV k)=cs.foldl (kj k) (al.find? (aV k)):=by
 induction cs with
 |nil=>intro al h;rfl
 |cons c cs ih=>
  intro al h;show(bE (vo al c) cs).find? (aV k)=_;rw[ih (zQ h c),zN]
  congr 1
  by_cases hc:c.aA<1099511627776
  ·rw[On hc,EK k c al h];unfold kj;simp[hc]
  ·unfold vo kj;rw[cM (by omega),bX (λe=>hc e.1)]
def oJ:∀{l:List bF},l.Pairwise (λa b=>aV a b=false)->∀a,a∈l↔l.find? (aV a)=some a
 |[],_,a=>by simp
 |b::l,h,a=>by
  rw[Ls]at h;rw[Iu,nH];cases e:aV a b with
  |true=>
   simp only[cq];constructor
   ·rintro(h2|h2)
    ·exact h2.symm
    ·have:=h.1 a h2;rw[iU,e]at this;cases this
   ·exact λh2=>.inl h2.symm
  |false=>
   rw[<-oJ h.2 a];constructor
   ·rintro(h2|h2)
    ·subst h2;rw[wZ]at e;cases e
    ·exact h2
   ·exact .inr
def BG:∀{l1 l2:List bF},l1.Pairwise cb->l2.Pairwise cb->(∀a,a∈l1↔a∈l2)->l1=l2
 |[],[],_,_,_=>rfl
 |[],b::t,_,_,h=>eX ((h b).2 (by simp)) (by simp)
 |a::t,[],_,_,h=>eX ((h a).1 (by simp)) (by simp)
 |a::t1,b::t2,h1,h2,h=>by
  rw[Ls]at h1 h2;have e:a=b:=by
   have ha:=(h a).1 (by simp);have hb:=(h b).2 (by simp);rcases nH.1 ha with ha|ha
   ·exact ha
   ·rcases nH.1 hb with hb|hb
    ·exact hb.symm
    ·exact eX (h1.1 b hb) (Gb (h2.1 a ha))
  subst e
  congr 1
  refine BG h1.2 h2.2 λx=>?_;constructor
  ·intro hx;rcases nH.1 ((h x).1 (by simp[hx]))with e|e
   ·subst e;exact eX (h1.1 x hx) (before_irrefl x)
   ·exact e
  ·intro hx;rcases nH.1 ((h x).2 (by simp[hx]))with e|e
   ·subst e;exact eX (h2.1 x hx) (before_irrefl x)
   ·exact e
def tt{l:List bF}(h:l.Pairwise cb):l.Pairwise (λa b=>aV a b=false):=h.imp BE
def vV{l:List bF}(h:(l.map cF).Nodup):l.Pairwise (λa b=>aV a b=false):=by
 unfold List.Nodup at h;rw[Zdq]at h;refine h.imp λ{a b} ik=>?_;cases e:aV a b with
 |false=>rfl
 |true=>exact eX (qQ.2 e) ik
def EL{α:Type}(lt:α->α->Bool)(x:α):∀l:List α,(kC lt x l).Perm (x::l)
 |[]=>ZdC _
 |y::ys=>by
  simp only[kC];split
  ·exact((EL lt x ys).cons y).trans (List.Perm.swap x y ys)
  ·exact ZdC _
def Ix{α:Type}(lt:α->α->Bool)(l:List α):(b9 lt l).Perm l:=by
 have key:∀(l eU:List α),(l.foldl (λeU x=>kC lt x eU) eU).Perm (l++eU):=by
  intro l;induction l with
  |nil=>intro eU;exact ZdC _
  |cons x l ih=>
   intro eU;rw[zN];refine(ih _).trans ?_;refine((EL lt x eU).append_left l).trans ?_;exact List.perm_middle
 unfold b9 nM;refine(List.reverse_perm _).trans ?_;simpa using key l []
def vW(h:(al.map cF).Nodup){a:bF}(ha:a∈al):qh al (cF a)=a:=by
 have h1:=(uA ha).1;have h2:=(uA ha).2.1;have h3:=(oJ (vV h) a).1 ha;have h4:=(oJ (vV h) _).1 h2;have e:aV (qh al (cF a))=aV a:=by
  funext b;rw[iU _ b,iU _ b];exact(n7 h1 b).symm
 rw[e,h3]at h4;exact(ZI h4).symm
def Gd(h:(al.map cF).Nodup)(a:bF):a∈kD al↔a∈al:=by
 unfold kD;rw[j3];constructor
 ·rintro⟨r,hr,rfl⟩;rw[gI]at hr;obtain⟨b,hb,rfl⟩:=j3.1 hr;exact(uA hb).2.1
 ·intro ha;exact⟨cF a,by rw[gI];exact j3.2 ⟨a,ha,rfl⟩,vW h ha⟩
def AE(h:(al.map cF).Nodup):(kD al).Pairwise cb:=by
 unfold kD;rw[Zdq];have h1:(b9 (my eV) (al.map cF)).Nodup:=(Ix _ _).symm.nodup h;have h2:=fq Iy (al.map cF);unfold dU at h2;unfold List.Nodup at h1;refine(h1.and h2).imp_of_mem λ{r s} hr hs mK=>?_;rw[gI]at hr hs;obtain⟨a,ha,rfl⟩:=j3.1 hr;obtain⟨b,hb,rfl⟩:=j3.1 hs;rw[vW h ha,vW h hb];have h3:aV a b=false:=by
  cases e:aV a b with
  |false=>rfl
  |true=>exact eX (qQ.2 e) mK.1
 by_cases jZ:cb a b
 ·exact jZ
 ·exfalso;have h4:=BF h3 jZ;have h5:=mK.2;rw[uB]at h5;apply h5;simp only[cF,kF,dg,ZJ,List.getD_cons_zero,Zdd];exact h4
end
section
variable{aA:Int}{ops:List (Int×Int)}
def pK(k a:bF):Bool:=aV k a&&decide (a.aA<1099511627776)
def zR(k:bF)(cs:List bF):∀o,cs.foldl (kj k) o=(cs.filter (pK k)).foldl (kj k) o:=by
 induction cs with
 |nil=>intro o;rfl
 |cons c cs ih=>
  intro o;rw[zN,Lt,ih];split
  ·rfl
  ·rename_i h
   congr 1
   unfold kj;rw[bX];rintro⟨h1,h2⟩;apply h;simp[pK,h1,h2]
def jH{α β:Type}(p:β->Bool)(f:α->List β)(l:List α):(l.flatMap f).filter p=l.flatMap λa=>(f a).filter p:=by
 induction l with
 |nil=>rfl
 |cons a l ih=>simp[Q5,Lu,ih]
def mL{p:bF->Bool}{f:Nat->List bF}{i:Nat}(k0:Nat)(h:∀k,k≠k0->(f k).filter p=[]):∀m,(ft f i m).filter p=if i<=k0/\k0<m then(f k0).filter p else []:=by
 intro m;by_cases Tf:m<=i
 ·rw[show ft f i m=[]by unfold ft;rw[show m-i=0 by omega];rfl,bX (by omega)];rfl
 obtain⟨d,rfl⟩:∃d,m=i+d:=⟨m-i,by omega⟩;clear Tf;induction d with
 |zero=>rw[Tz,vX,bX (by omega)];rfl
 |succ d ih=>
  rw[<-Nat.add_assoc,pA f (by omega),Lu,ih];by_cases e:i+d=k0
  ·rw[bX (by omega),cM (by omega),e];rfl
  ·rw[h _ e];by_cases e2:i<=k0/\k0<i+d
   ·rw[cM e2,cM (by omega)];simp
   ·rw[bX e2,bX (by omega)];rfl
def dE{p:bF->Bool}{l:List bF}(h:∀a∈l,p a=false):l.filter p=[]:=by
 rw[Zcj];intro a ha;simp[h a ha]
def lR{k a:bF}(h:¬(k.f=a.f/\k.t=a.t/\k.term=a.term)):pK k a=false:=by
 have:aV k a=false:=by
  cases e:aV k a with
  |false=>rfl
  |true=>exact eX (fZ.1 e) h
 simp[pK,this]
def Lv{k:bF}{f t x c d:Int}{o:List (Int×Int)}(hc:0<=c)(hd:0<=d):[(⟨f,t,x,c+d,o⟩:bF)].filter (pK k)=[(⟨f,t,x,kH c d,o⟩:bF)].filter (pK k):=by
 by_cases h:c+d<1099511627776
 ·have:kH c d=c+d:=by unfold kH;rw[bX (by omega)]
  rw[this]
 ·have:kH c d=1099511627776:=by unfold kH;rw[cM (by omega)]
  rw[this];have h1:pK k ⟨f,t,x,c+d,o⟩=false:=by simp[pK,h]
  have h2:pK k ⟨f,t,x,1099511627776,o⟩=false:=by simp[pK]
  simp[h1,h2]
def EM{read:ba}{i m:Int}{n:Nat}{a:bF}(h:a∈mz read i m aA ops n):∃t:Nat,t<n/\0<=read.getD t 0/\a=⟨2*i,2*m+2,t,aA+read.getD t 0,ops++[(1,(t:Int))]⟩:=by
 unfold mz at h;rw[vG]at h;obtain⟨t,ht,h⟩:=h;rw[pm]at ht;split at h
 ·rw[gN]at h;exact⟨t,ht,by assumption,h⟩
 ·simp at h
def TA{dm:ba}{i m:Int}{n:Nat}{a:bF}(h:a∈tu dm i m aA ops n):∃t:Nat,t<n/\a=⟨2*i,2*m,(t:Int),aA+dm.getD t 0,ops++[(3,(t:Int))]⟩:=by
 unfold tu at h;rw[j3]at h;obtain⟨t,ht,h⟩:=h;rw[pm]at ht;exact⟨t,ht,h.symm⟩
def BH(x:Input)(i m:Nat):List bF:=if cG x m then [⟨2*i,2*m+1,(x.ah.getD (m+1) default).kind,ez x i m+x.swap,d6 (m-i)++[(4,0)]⟩]else []
def EN{x:Input}{i m:Nat}{a:bF}(h:a∈BH x i m):cG x m=true/\a=⟨2*i,2*m+1,(x.ah.getD (m+1) default).kind,ez x i m+x.swap,d6 (m-i)++[(4,0)]⟩:=by
 unfold BH at h;split at h
 ·exact⟨by assumption,by simpa using h⟩
 ·simp at h
def TB{x:Input}{i m:Nat}{a:bF}(h:a∈rS x i m):cG x m=true/\a.f=2*i/\a.t=2*m+1:=by
 unfold rS at h;split at h
 ·simp at h;subst h;exact⟨by assumption,rfl,rfl⟩
 ·simp at h
def BI{x:Input}{i:Nat}{a:bF}(h:a∈rT x i):cG x i=true/\a=⟨2*i+1,2*i+4,(x.ah.getD i default).kind,0,[]⟩:=by
 unfold rT at h;split at h
 ·exact⟨by assumption,by simpa using h⟩
 ·simp at h
def Lw{x:Input}{i m t:Nat}{a:bF}(h:a∈rA x i m t):m<x.ah.length/\a.f=2*i/\a.t=2*m+2/\a.term=t:=by
 unfold rA at h;split at h
 ·rename_i h2;simp at h;subst h;exact⟨h2.1,rfl,rfl,rfl⟩
 ·simp at h
def aff{x:Input}{i m t:Nat}{a:bF}(h:a∈iT x i m t):a.f=2*i/\a.t=2*m/\a.term=t:=by
 simp[iT]at h;subst h;exact⟨rfl,rfl,rfl⟩
def Iz(x:Input)(i:Nat):tw x i=ft (sC x i) i (x.ah.length+1)++rT x i:=rfl
def Q6{x:Input}{i m:Nat}{a:bF}(h:a∈sC x i m):(i<m/\a∈zS x i (m-1))\/a∈tu x.insert i m (ez x i m) (d6 (m-i)) x.insert.length\/a∈BH x i m:=by
 unfold sC at h;rw[mA,mA]at h;rcases h with h|h|h
 ·split at h
  ·exact .inl ⟨by assumption,h⟩
  ·simp at h
 ·exact .inr (.inl h)
 ·exact .inr (.inr h)
def Ge{x:Input}{i m:Nat}{a:bF}(h:a∈sC x i m):a.f=2*i/\(a.t=2*m\/a.t=2*m+1):=by
 rcases Q6 h with⟨h1,h⟩|h|h
 ·obtain⟨t,_,_,rfl⟩:=EM h;exact⟨rfl,.inl (by simp only;omega)⟩
 ·obtain⟨t,_,rfl⟩:=TA h;exact⟨rfl,.inl rfl⟩
 ·obtain⟨_,rfl⟩:=EN h;exact⟨rfl,.inr rfl⟩
def aab{x:Input}{i:Nat}{a:bF}(h:a∈tw x i):a.f=2*i\/a.f=2*i+1:=by
 rw[Iz,mA]at h;rcases h with h|h
 ·obtain⟨m,_,_,h⟩:=gF h;exact .inl (Ge h).1
 ·obtain⟨_,rfl⟩:=BI h;exact .inr rfl
def aac{x:Input}{i m:Nat}{a:bF}(h:a∈rM x i m):a.f=2*i/\(a.t=2*m+2/\m<x.ah.length\/a.t=2*m+1):=by
 unfold rM at h;rw[mA]at h;rcases h with h|h
 ·obtain⟨t,_,_,h⟩:=gF h;have:=Lw h;exact⟨this.2.1,.inl ⟨this.2.2.1,this.1⟩⟩
 ·have:=TB h;exact⟨this.2.1,.inr this.2.2⟩
def atv{x:Input}{i:Nat}{a:bF}(h:a∈rI x i):a.f=2*i\/a.f=2*i+1:=by
 unfold rI at h;rw[mA]at h;rcases h with h|h
 ·obtain⟨m,_,_,h⟩:=gF h;exact .inl (aac h).1
 ·obtain⟨_,rfl⟩:=BI h;exact .inr rfl
def aad{x:Input}{i m:Nat}{a:bF}(h:a∈iM x i m):a.f=2*i/\a.t=2*m:=by
 unfold iM at h;obtain⟨t,_,_,h⟩:=gF h;have:=aff h;exact⟨this.1,this.2.1⟩
def atw{x:Input}{i:Nat}{a:bF}(h:a∈iI x i):a.f=2*i:=by
 unfold iI at h;obtain⟨m,_,_,h⟩:=gF h;exact(aad h).1
def nnX(x:Input):Prop:=(∀p∈x.insert,0<=p)/\0<=x.swap
def IA{x:Input}(hn:nnX x)(hd:mB x.ah)(k:bF)(i m:Nat):(BH x i m).filter (pK k)=(rS x i m).filter (pK k):=by
 unfold BH rS;split
 ·exact Lv (cm hd i m).1 hn.2
 ·rfl
def IB{x:Input}(hd:mB x.ah)(hr:∀c∈x.ah,c.read.length=x.insert.length)(k:bF){i m:Nat}(hm:m<x.ah.length):(zS x i m).filter (pK k)=(ft (rA x i m) 0 x.insert.length).filter (pK k):=by
 have hc:(x.ah.getD m default).read.length=x.insert.length:=hr _ (by simp[List.getD,hm]);unfold zS mz ft;rw[hc,jH,jH,Zc5]
 congr 1
 funext t;rw[Gf];unfold rA cV;have Q7:(default:Int)=0:=rfl;rw[Q7];by_cases h:0<=(x.ah.getD m default).read.getD t 0
 ·rw[cM h,cM ⟨hm,h⟩];exact Lv (cm hd i m).1 h
 ·rw[bX h,bX (λe=>h e.2)]
def BJ{x:Input}(hn:nnX x)(hd:mB x.ah)(k:bF)(i m:Nat):(tu x.insert i m (ez x i m) (d6 (m-i)) x.insert.length).filter (pK k)=(iM x i m).filter (pK k):=by
 unfold tu iM ft;rw[jH,Zc5];have:∀l:cN,(∀t∈l,t<x.insert.length)->(l.map λ(t:Nat)=>(⟨2*i,2*m,(t:Int),ez x i m+x.insert.getD t 0,d6 (m-i)++[(3,(t:Int))]⟩:bF)).filter (pK k)=l.flatMap λt=>(iT x i m (0+t)).filter (pK k):=by
  intro l;induction l with
  |nil=>intro _;rfl
  |cons t l ih=>
   intro ht;rw[oK,Q5,<-ih λt h=>ht t (by simp[h])];have e:iT x i m (0+t)=[⟨2*i,2*m,t,kH (ez x i m) (x.insert.getD t default),d6 (m-i)++[(3,(t:Int))]⟩]:=by rw[Gf];rfl
   have mq:=ht t (by simp);have hp:0<=x.insert.getD t 0:=hn.1 _ (by simp[List.getD,mq]);rw[e,<-List.singleton_append (l:=List.map _ l),Lu]
   congr 1
   exact Lv (cm hd i m).1 hp
 exact this _ λt ht=>pm.1 ht
def Lx{x:Input}(hn:nnX x)(hd:mB x.ah)(hr:∀c∈x.ah,c.read.length=x.insert.length)(k:bF):
  (w8 x (x.ah.length+1)).filter (pK k)=(ft (rI x) 0 (x.ah.length+1)++ft (iI x) 0 (x.ah.length+1)).filter (pK k):=by
 have e1:w8 x (x.ah.length+1)=ft (tw x) 0 (x.ah.length+1):=by simp[w8,ft]
 obtain⟨n,hN⟩:=aY x.ah.length;rw[e1,Lu];have out:∀(f:Nat->List bF),(∀i,∀a∈f i,a.f=2*i\/a.f=2*i+1)->∀j,j≠(k.f/2).toNat->(f j).filter (pK k)=[]:=by
  intro f hf j hj;refine dE λa ha=>lR λe=>hj ?_;have:=hf j a ha;omega
 rw[mL _ (out _ λi a=>aab),mL _ (out _ λi a=>atv),mL _ (out _ λi a h=>.inl (atw h))];obtain⟨i,hi⟩:=aY ((k.f/2).toNat);rw[hi];by_cases mX:0<=i/\i<x.ah.length+1
 case neg=>rw[bX mX,bX mX,bX mX];rfl
 rw[cM mX,cM mX,cM mX];rw[Iz];unfold rI iI;rw[Lu,Lu];by_cases av6:k.f=2*i
 case neg=>
  have h1:(ft (sC x i) i (x.ah.length+1)).filter (pK k)=[]:=dE λa ha=>lR λe=>by
   obtain⟨m,_,_,h⟩:=gF ha;have:=(Ge h).1;omega
  have h2:(ft (rM x i) i (x.ah.length+1)).filter (pK k)=[]:=dE λa ha=>lR λe=>by
   obtain⟨m,_,_,h⟩:=gF ha;have:=(aac h).1;omega
  have h3:(ft (iM x i) i (x.ah.length+1)).filter (pK k)=[]:=dE λa ha=>lR λe=>by
   obtain⟨m,_,_,h⟩:=gF ha;have:=(aad h).1;omega
  rw[h1,h2,h3];simp
 have hT:(rT x i).filter (pK k)=[]:=dE λa ha=>lR λe=>by
  obtain⟨_,rfl⟩:=BI ha;simp only at e;omega
 rw[hT,AZ,AZ];have akV:∀m,m≠(k.t/2).toNat->(sC x i m).filter (pK k)=[]:=λm hm=>dE λa ha=>lR λe=>by
  have:=(Ge ha).2;omega
 have akW:∀m,m≠(k.t/2).toNat->(iM x i m).filter (pK k)=[]:=λm hm=>dE λa ha=>lR λe=>by
  have:=(aad ha).2;omega
 rw[mL _ akV,mL _ akW];obtain⟨m,hm⟩:=aY ((k.t/2).toNat);rw[hm]at akV akW⊢;have adT:(sC x i m).filter (pK k)=(if i<m then zS x i (m-1)else []).filter (pK k)++((tu x.insert i m (ez x i m) (d6 (m-i)) x.insert.length).filter (pK k)++(BH x i m).filter (pK k)):=by
  rw[<-List.filter_append,<-List.filter_append];rfl
 by_cases ZK:k.t=2*m
 ·
  have pB:(BH x i m).filter (pK k)=[]:=dE λa ha=>lR λe=>by
   obtain⟨_,rfl⟩:=EN ha;simp only at e;omega
  have afg:∀j,j≠(if m=0 then n+1 else m-1)->(rM x i j).filter (pK k)=[]:=λj hj=>dE λa ha=>lR λe=>by
   have:=(aac ha).2;split at hj<;>omega
  rw[mL _ afg,adT,pB,AZ,BJ hn hd k i m];by_cases hm0:m=0
  ·rw[cM hm0];have h5:¬(i<=n+1/\n+1<x.ah.length+1):=by omega
   have h6:¬i<m:=by omega
   rw[bX h5,bX h6];simp
  ·rw[bX hm0];obtain⟨q,rfl⟩:∃q,m=q+1:=⟨m-1,by omega⟩;rw[Zcz];have hrM:(rM x i q).filter (pK k)=(ft (rA x i q) 0 x.insert.length).filter (pK k):=by
    have:(rS x i q).filter (pK k)=[]:=dE λa ha=>lR λe=>by
     have:=(TB ha).2.2;omega
    unfold rM;rw[Lu,this,AZ]
   by_cases hq:q<x.ah.length
   ·by_cases hiq:i<q+1
    ·rw[cM hiq,cM ⟨by omega,by omega⟩,cM ⟨by omega,by omega⟩,hrM,IB hd hr k hq];rw[cM ⟨by omega,by omega⟩]
    ·rw[bX hiq];by_cases av7:i=q+1
     ·rw[cM ⟨by omega,by omega⟩,bX (by omega),cM ⟨by omega,by omega⟩];simp
     ·rw[bX (by omega),bX (by omega),bX (by omega)];simp
   ·have hz:(rM x i q).filter (pK k)=[]:=by
     rw[hrM];refine dE λa ha=>?_;obtain⟨t,_,_,h⟩:=gF ha;exact eX (Lw h).1 hq
    rw[hz,bX (by omega)];have h5:¬(i<=q+1/\q+1<x.ah.length+1):=by omega
    rw[bX h5];simp
 ·
  have afg:∀j,j≠m->(rM x i j).filter (pK k)=[]:=λj hj=>dE λa ha=>lR λe=>by
   have:=(aac ha).2;omega
  rw[mL _ afg];have h1:(iM x i m).filter (pK k)=[]:=dE λa ha=>lR λe=>by
   have:=(aad ha).2;omega
  have h2:(tu x.insert i m (ez x i m) (d6 (m-i)) x.insert.length).filter (pK k)=[]:=by rw[BJ hn hd,h1]
  have h3:(if i<m then zS x i (m-1)else []).filter (pK k)=[]:=dE λa ha=>lR λe=>by
   split at ha
   ·obtain⟨t,_,_,rfl⟩:=EM ha;simp only at e;omega
   ·simp at ha
  have h4:(rM x i m).filter (pK k)=(rS x i m).filter (pK k):=by
   have:(ft (rA x i m) 0 x.insert.length).filter (pK k)=[]:=dE λa ha=>lR λe=>by
    obtain⟨t,_,_,h⟩:=gF ha;have:=(Lw h).2.2.1;omega
   unfold rM;rw[Lu,this,Em]
  rw[adT,h1,h2,h3,h4,IA hn hd];simp
def pT(x:Input):((lT x).map cF).Nodup:=w9 _ (by simp)
def jI(x:Input):(eK x).Pairwise cb:=vF _ (vF _ List.Pairwise.nil)
def EO{x:Input}(hn:nnX x)(hd:mB x.ah)(hr:∀c∈x.ah,c.read.length=x.insert.length):kD (lT x)=eK x:=by
 refine BG (AE (pT x)) (jI x) λa=>?_;rw[Gd (pT x),oJ (vV (pT x)),oJ (tt (jI x))];unfold lT eK;rw[Iv,<-d7,tr _ _ List.Pairwise.nil,zR,Lx hn hd hr,<-zR]
def TC(x:Input):yH x=fe x (2*x.ah.length+1):=by
 unfold yH fe;apply ZbN;intro s hs;rw[pm]at hs;rw[cM hs]
def Ly{x:Input}(hn:nnX x)(hd:mB x.ah)(hr:∀c∈x.ah,c.read.length=x.insert.length):qR x=aI x:=by
 unfold qR aI;rw[EO hn hd hr,TC]
end
def TD(k:bF)(cs:List bF):∀o a,cs.foldl (kj k) o=some a->o=some a\/(a∈cs/\a.aA<1099511627776):=by
 induction cs with
 |nil=>intro o a h;exact .inl h
 |cons c cs ih=>
  intro o a h;rw[zN]at h;rcases ih _ _ h with h|⟨h1,h2⟩
  ·unfold kj at h;split at h
   ·rename_i hc;split at h
    ·simp only[cq]at h;subst h;exact .inr ⟨by simp,hc.1⟩
    ·split at h
     ·simp only[cq]at h;subst h;exact .inr ⟨by simp,hc.1⟩
     ·exact .inl h
   ·exact .inl h
  ·exact .inr ⟨by simp[h1],h2⟩
def zT{x:Input}{a:bF}(h:a∈eK x):(a∈ft (rI x) 0 (x.ah.length+1)\/a∈ft (iI x) 0 (x.ah.length+1))/\a.aA<1099511627776:=by
 have h1:=(oJ (tt (jI x)) a).1 h;unfold eK at h1;rw[<-d7,tr _ _ List.Pairwise.nil]at h1;rcases TD _ _ _ _ h1 with h2|⟨h2,h3⟩
 ·cases h2
 ·exact⟨mA.1 h2,h3⟩
def TE{a b:Int}(ha:0<=a)(hb:1<=b):1<=kH a b:=by unfold kH;split<;>omega
def Gg(al:List bF):(kD al).length=al.length:=by simp[kD,gO]
def En(x:Input):List bF:=ft (rI x) 0 (x.ah.length+1)++ft (iI x) 0 (x.ah.length+1)
inductive iV(aK:List bF):ba->Nat->Int->Prop
 |nil:iV aK [] 0 0
 |IC {ys:ba} {s:Nat} {c:Int} (a:bF):iV aK ys s c->a∈aK->a.f=s->iV aK (ys++[a.term]) a.t.toNat (c+a.aA)
def iV.aA{aK:List bF}(h:∀a∈aK,0<=a.aA){y:ba}{s:Nat}{c:Int}(p:iV aK y s c):0<=c:=by
 induction p with
 |nil=>omega
 |IC a p ha hf ih=>have:=h a ha;omega
def Oo(x:Input){s:Nat}(hs:s<2*x.ah.length+1):(aI x).bj.getD s default=if s % 2=0 then ez x (s/2) x.ah.length else 1099511627776:=by
 simp[aI,fe,List.getD,hs]
def Q8(x:Input){i m:Nat}(h:i<=m)(hm:m<x.ah.length):ez x i (m+1)=min (ez x i m+(x.ah.getD m default).delete) 1099511627776:=by
 unfold ez;have e:(x.ah.take (m+1)).drop i=(x.ah.take m).drop i++[x.ah.getD m default]:=by
  rw[Tg,mM hm,Zcf (by simp;omega)];simp[List.getD,hm]
 rw[e,qS]
abbrev dV:Int:=1099511627776
def kI(y:ba)(j:Nat):Int:=y.getD j default
def Eo(x:Input)(y:ba)(i j:Nat):Prop:=i<x.ah.length/\j<y.length/\0<=cV x i (kI y j).toNat
def Oq(x:Input)(y:ba)(i j:Nat):Prop:=cG x i=true/\j+1<y.length/\kI y j=(x.ah.getD (i+1) default).kind/\kI y (j+1)=(x.ah.getD i default).kind
instance(x:Input)(y:ba)(i j:Nat):Decidable (Eo x y i j):=by unfold Eo;infer_instance
instance(x:Input)(y:ba)(i j:Nat):Decidable (Oq x y i j):=by unfold Oq;infer_instance
def jj{x:Input}{i:Nat}(h:cG x i=true):i+1<x.ah.length:=by
 unfold cG at h;rw[j2]at h;exact h.1
def eL(x:Input)(i:Nat):Int:=(x.ah.getD i default).delete
def f7(x:Input)(t:Nat):Int:=x.insert.getD t default
def ed(x:Input)(y:ba)(i j:Nat):Int:=
 let b0:=if i=x.ah.length/\j=y.length then 0 else dV
 let b1:=if h:Eo x y i j then min b0 (min (cV x i (kI y j).toNat+ed x y (i+1) (j+1)) dV)else b0
 let b2:=if h:i<x.ah.length then min b1 (min (eL x i+ed x y (i+1) j) dV)else b1
 let b3:=if h:j<y.length then min b2 (min (f7 x (kI y j).toNat+ed x y i (j+1)) dV)else b2
 if h:Oq x y i j then min b3 (min (x.swap+ed x y (i+2) (j+2)) dV)else b3
termination_by (x.ah.length-i)+(y.length-j)
decreasing_by
 ·have:=h.1;omega
 ·omega
 ·omega
 ·have:=jj h.1;have:=h.2.1;omega
def qi(x:Input)(y:ba)(i j:Nat):Nat->Int
 |1=>if Eo x y i j then min (cV x i (kI y j).toNat+ed x y (i+1) (j+1)) dV else dV
 |2=>if i<x.ah.length then min (eL x i+ed x y (i+1) j) dV else dV
 |3=>if j<y.length then min (f7 x (kI y j).toNat+ed x y i (j+1)) dV else dV
 |4=>if Oq x y i j then min (x.swap+ed x y (i+2) (j+2)) dV else dV
 |_=>dV
def vY(x:Input)(y:ba)(i j:Nat):Nat->Int
 |0=>if i=x.ah.length/\j=y.length then 0 else dV
 |k+1=>min (vY x y i j k) (qi x y i j (k+1))
def TF(x:Input)(y:ba)(i j:Nat):qi x y i j 1=if Eo x y i j then min (cV x i (kI y j).toNat+ed x y (i+1) (j+1)) dV else dV:=rfl
def TG(x:Input)(y:ba)(i j:Nat):qi x y i j 2=if i<x.ah.length then min (eL x i+ed x y (i+1) j) dV else dV:=rfl
def TH(x:Input)(y:ba)(i j:Nat):qi x y i j 3=if j<y.length then min (f7 x (kI y j).toNat+ed x y i (j+1)) dV else dV:=rfl
def TI(x:Input)(y:ba)(i j:Nat):qi x y i j 4=if Oq x y i j then min (x.swap+ed x y (i+2) (j+2)) dV else dV:=rfl
def TJ(x:Input)(y:ba)(i j:Nat):vY x y i j 0=if i=x.ah.length/\j=y.length then 0 else dV:=rfl
def uC(x:Input)(y:ba)(i j:Nat):∀k,vY x y i j k<=dV
 |0=>by unfold vY;split<;>simp[dV]
 |k+1=>by unfold vY;have:=uC x y i j k;omega
def ID(x:Input)(y:ba)(i j:Nat):ed x y i j=vY x y i j 4:=by
 rw[ed];have h0:=uC x y i j 0;have h1:=uC x y i j 1;have h2:=uC x y i j 2;have h3:=uC x y i j 3;show _=min (vY x y i j 3) (qi x y i j 4);have e0:vY x y i j 0=if i=x.ah.length/\j=y.length then 0 else dV:=rfl
 have e1:vY x y i j 1=min (vY x y i j 0) (qi x y i j 1):=rfl;have e2:vY x y i j 2=min (vY x y i j 1) (qi x y i j 2):=rfl;have e3:vY x y i j 3=min (vY x y i j 2) (qi x y i j 3):=rfl;rw[<-e0];have f1:(if h:Eo x y i j then min (vY x y i j 0) (min (cV x i (kI y j).toNat+ed x y (i+1) (j+1)) dV)else vY x y i j 0)=vY x y i j 1:=by
  rw[e1,TF];split<;>omega
 rw[f1];have f2:(if h:i<x.ah.length then min (vY x y i j 1) (min (eL x i+ed x y (i+1) j) dV)else vY x y i j 1)=vY x y i j 2:=by
  rw[e2,TG];split<;>omega
 rw[f2];have f3:(if h:j<y.length then min (vY x y i j 2) (min (f7 x (kI y j).toNat+ed x y i (j+1)) dV)else vY x y i j 2)=vY x y i j 3:=by
  rw[e3,TH];split<;>omega
 rw[f3];rw[TI];split<;>omega
def TK(x:Input)(y:ba)(i j:Nat):ed x y i j<=dV:=by rw[ID];exact uC x y i j 4
structure ZL(x:Input):Prop where
 dm:∀t,0<=f7 x t
 Ep:∀i,0<=eL x i
 swap:0<=x.swap
def EP{x:Input}(h:ZL x)(y:ba):∀(N i j:Nat),(x.ah.length-i)+(y.length-j)<N->0<=ed x y i j
 |0,i,j,hN=>by omega
 |N+1,i,j,hN=>by
  have h0:0<=vY x y i j 0:=by rw[TJ];split<;>simp[dV]
  have s1:0<=qi x y i j 1:=by
   rw[TF];split
   ·rename_i hp;have:=EP h y N (i+1) (j+1) (by have:=hp.1;omega);have:=hp.2.2;simp only[dV];omega
   ·simp[dV]
  have s2:0<=qi x y i j 2:=by
   rw[TG];split
   ·have:=EP h y N (i+1) j (by omega);have:=h.Ep i;simp only[dV];omega
   ·simp[dV]
  have s3:0<=qi x y i j 3:=by
   rw[TH];split
   ·have:=EP h y N i (j+1) (by omega);have:=h.dm (kI y j).toNat;simp only[dV];omega
   ·simp[dV]
  have s4:0<=qi x y i j 4:=by
   rw[TI];split
   ·rename_i hp;have:=EP h y N (i+2) (j+2) (by have:=jj hp.1;have:=hp.2.1;omega);have:=h.swap;simp only[dV];omega
   ·simp[dV]
  rw[ID];show 0<=min (min (min (min (vY x y i j 0) (qi x y i j 1)) (qi x y i j 2)) (qi x y i j 3)) (qi x y i j 4);omega
inductive vH(x:Input):Nat->ba->Int->Prop
 |nil:vH x x.ah.length [] 0
 |read {i:Nat} {t:Int} {y:ba} {c:Int}:i<x.ah.length->0<=cV x i t.toNat->vH x (i+1) y c->vH x i (t::y) (cV x i t.toNat+c)
 |Ep {i:Nat} {y:ba} {c:Int}:i<x.ah.length->vH x (i+1) y c->vH x i y (eL x i+c)
 |dm {i:Nat} {t:Int} {y:ba} {c:Int}:vH x i y c->vH x i (t::y) (f7 x t.toNat+c)
 |swap {i:Nat} {y:ba} {c:Int}:cG x i=true->vH x (i+2) y c->vH x i ((x.ah.getD (i+1) default).kind::(x.ah.getD i default).kind::y) (x.swap+c)
def vH.nn{x:Input}(h:ZL x){i:Nat}{y:ba}{c:Int}(s:vH x i y c):0<=c:=by
 induction s with
 |nil=>omega
 |read h1 h2 s ih=>omega
 | @Ep i _ _ h1 s ih=>have:=h.Ep i;omega
 | @dm _ t _ _ s ih=>have:=h.dm t.toNat;omega
 |swap h1 s ih=>have:=h.swap;omega
def vH.le{x:Input}{i:Nat}{y:ba}{c:Int}(s:vH x i y c):i<=x.ah.length:=by
 induction s with
 |nil=>omega
 |read h1 h2 s ih=>omega
 |Ep h1 s ih=>omega
 |dm s ih=>exact ih
 |swap h1 s ih=>omega
def pC{y:ba}{j:Nat}(h:j<y.length):y.drop j=kI y j::y.drop (j+1):=by
 rw[Zca h];simp[kI,List.getD,h]
def TL{x:Input}(hx:ZL x)(y:ba):∀(N i j:Nat),(x.ah.length-i)+(y.length-j)<N->i<=x.ah.length->j<=y.length->∀v,v<dV->
  (ed x y i j<=v↔∃c,c<=v/\vH x i (y.drop j) c)
 |0,i,j,hN,_,_,_,_=>by omega
 |N+1,i,j,hN,hi,hj,v,hv=>by
  have IH:=TL hx y N;have e:ed x y i j=min (min (min (min (vY x y i j 0) (qi x y i j 1)) (qi x y i j 2)) (qi x y i j 3)) (qi x y i j 4):=ID x y i j;constructor
  ·intro h;have hor:vY x y i j 0<=v\/qi x y i j 1<=v\/qi x y i j 2<=v\/qi x y i j 3<=v\/qi x y i j 4<=v:=by omega
   rcases hor with h5|h5|h5|h5|h5
   ·rw[TJ]at h5;split at h5
    ·rename_i h2;obtain⟨rfl,rfl⟩:=h2;exact⟨0,h5,by rw[List.drop_length];exact .nil⟩
    ·omega
   ·rw[TF]at h5;split at h5
    ·rename_i hp;obtain⟨p1,p2,p3⟩:=hp;obtain⟨c,hc,s⟩:=(IH (i+1) (j+1) (by omega) (by omega) (by omega) (v-cV x i (kI y j).toNat) (by omega)).1 (by omega);exact⟨cV x i (kI y j).toNat+c,by omega,by rw[pC p2];exact .read p1 p3 s⟩
    ·omega
   ·rw[TG]at h5;split at h5
    ·rename_i hp;have:=hx.Ep i;obtain⟨c,hc,s⟩:=(IH (i+1) j (by omega) (by omega) (by omega) (v-eL x i) (by omega)).1 (by omega);exact⟨eL x i+c,by omega,.Ep hp s⟩
    ·omega
   ·rw[TH]at h5;split at h5
    ·rename_i hp;have:=hx.dm (kI y j).toNat;obtain⟨c,hc,s⟩:=(IH i (j+1) (by omega) (by omega) (by omega) (v-f7 x (kI y j).toNat) (by omega)).1 (by omega);exact⟨f7 x (kI y j).toNat+c,by omega,by rw[pC hp];exact .dm s⟩
    ·omega
   ·rw[TI]at h5;split at h5
    ·rename_i hp;obtain⟨p1,p2,p3,p4⟩:=hp;have:=jj p1;have:=hx.swap;obtain⟨c,hc,s⟩:=(IH (i+2) (j+2) (by omega) (by omega) (by omega) (v-x.swap) (by omega)).1 (by omega);refine⟨x.swap+c,by omega, ?_⟩;rw[pC (show j<y.length by omega),pC p2,p3,p4];exact .swap p1 s
    ·omega
  ·rintro⟨c,hc,s⟩;generalize hz:y.drop j=z at s;cases s with
   |nil=>
    have hj2:j=y.length:=by
     have:=congrArg List.length hz;simp at this;omega
    have:vY x y x.ah.length j 0=0:=by rw[TJ,cM ⟨rfl,hj2⟩]
    omega
   | @read _ t y' c' h1 h2 s=>
    have Ia:j<y.length:=by
     have:=congrArg List.length hz;simp at this;omega
    rw[pC Ia]at hz;obtain⟨rfl,rfl⟩:=ZcK hz;have:=(IH (i+1) (j+1) (by omega) (by omega) (by omega) (v-cV x i (kI y j).toNat) (by omega)).2 ⟨c',by omega,s⟩;have e1:qi x y i j 1=min (cV x i (kI y j).toNat+ed x y (i+1) (j+1)) dV:=by rw[TF,cM ⟨h1,Ia,h2⟩]
    omega
   | @Ep _ _ c' h1 s=>
    subst hz;have:=hx.Ep i;have:=(IH (i+1) j (by omega) (by omega) (by omega) (v-eL x i) (by omega)).2 ⟨c',by omega,s⟩;have e1:qi x y i j 2=min (eL x i+ed x y (i+1) j) dV:=by rw[TG,cM h1]
    omega
   | @dm _ t y' c' s=>
    have Ia:j<y.length:=by
     have:=congrArg List.length hz;simp at this;omega
    rw[pC Ia]at hz;obtain⟨rfl,rfl⟩:=ZcK hz;have:=hx.dm (kI y j).toNat;have:=(IH i (j+1) (by omega) (by omega) (by omega) (v-f7 x (kI y j).toNat) (by omega)).2 ⟨c',by omega,s⟩;have e1:qi x y i j 3=min (f7 x (kI y j).toNat+ed x y i (j+1)) dV:=by rw[TH,cM Ia]
    omega
   | @swap _ y' c' h1 s=>
    have Ia:j+1<y.length:=by
     have:=congrArg List.length hz;simp at this;omega
    rw[pC (show j<y.length by omega),pC Ia]at hz;obtain⟨k1,hz⟩:=ZcK hz;obtain⟨k2,rfl⟩:=ZcK hz;have:=jj h1;have:=hx.swap;have:=(IH (i+2) (j+2) (by omega) (by omega) (by omega) (v-x.swap) (by omega)).2 ⟨c',by omega,s⟩;have e1:qi x y i j 4=min (x.swap+ed x y (i+2) (j+2)) dV:=by rw[TI,cM ⟨h1,Ia,k1,k2⟩]
    omega
def j4(x:Input)(i:Nat):ez x i i=0:=by
 unfold ez;rw[List.drop_of_length_le (by simp;omega)];rfl
def EQ(x:Input){i m:Nat}(h:i<=m)(hm:m<x.ah.length):ez x i (m+1)=min (ez x i m+eL x m) dV:=Q8 x h hm
def vH.d6{x:Input}(hd:mB x.ah){y:ba}{c:Int}:∀(d i:Nat),i+d<=x.ah.length->ez x i (i+d)<dV->vH x (i+d) y c->vH x i y (ez x i (i+d)+c)
 |0,i,_,_,s=>by rw[Tz]at s⊢;rw[j4];simpa using s
 |d+1,i,hi,cQ,s=>by
  have hn:=(cm hd i (i+d)).1;have h1:=EQ x (show i<=i+d by omega) (by omega);rw[vq]at h1;have Lb:0<=eL x (i+d):=by
   have:=hd.2 (x.ah.getD (i+d) default) (by simp[List.getD,show i+d<x.ah.length by omega]);exact this.1
  have h2:ez x i (i+(d+1))=ez x i (i+d)+eL x (i+d):=by omega
  have s2:vH x (i+d) y (eL x (i+d)+c):=.Ep (by omega) s;have:=vH.d6 hd d i (by omega) (by omega) s2;rw[h2,Int.add_assoc];exact this
inductive IE(x:Input)(a:bF):Prop
 |read (i m t:Nat):i<=m->m<x.ah.length->0<=cV x m t->a.f=2*i->a.t=2*m+2->a.term=t->t<x.insert.length->ez x i m<dV->a.aA=ez x i m+cV x m t->IE x a
 |dm (i m t:Nat):i<=m->m<=x.ah.length->a.f=2*i->a.t=2*m->a.term=t->t<x.insert.length->ez x i m<dV->a.aA=ez x i m+f7 x t->IE x a
 |sw1 (i m:Nat):i<=m->cG x m=true->a.f=2*i->a.t=2*m+1->a.term=(x.ah.getD (m+1) default).kind->ez x i m<dV->a.aA=ez x i m+x.swap->IE x a
 |sw2 (i:Nat):cG x i=true->a.f=2*i+1->a.t=2*i+4->a.term=(x.ah.getD i default).kind->a.aA=0->IE x a
def Gh{a b:Int}(ha:0<=a)(hb:0<=b)(h:kH a b<dV):kH a b=a+b/\a<dV:=by
 simp only[dV]at*
 unfold kH at h⊢;split at h
 ·omega
 ·rename_i h2;rw[bX h2];omega
def qT{x:Input}(hd:mB x.ah)(hx:ZL x){a:bF}(ha:a∈eK x):IE x a:=by
 obtain⟨hm,nU⟩:=zT ha;rcases hm with hm|hm
 ·obtain⟨i,_,hi,hm⟩:=gF hm;unfold rI at hm;rw[mA]at hm;rcases hm with hm|hm
  ·obtain⟨m,Tf,Q9,hm⟩:=gF hm;unfold rM at hm;rw[mA]at hm;rcases hm with hm|hm
   ·obtain⟨t,_,ht,hm⟩:=gF hm;unfold rA at hm;split at hm
    ·rename_i hr;simp only[gN]at hm;subst hm;have:=Gh (cm hd i m).1 hr.2 nU;exact .read i m t Tf hr.1 hr.2 rfl rfl rfl ht this.2 this.1
    ·simp at hm
   ·unfold rS at hm;split at hm
    ·rename_i hr;simp only[gN]at hm;subst hm;have:=Gh (cm hd i m).1 hx.swap nU;exact .sw1 i m Tf hr rfl rfl rfl this.2 this.1
    ·simp at hm
  ·obtain⟨hr,rfl⟩:=BI hm;exact .sw2 i hr rfl rfl rfl rfl
 ·obtain⟨i,_,hi,hm⟩:=gF hm;unfold iI at hm;obtain⟨m,Tf,Q9,hm⟩:=gF hm;unfold iM at hm;obtain⟨t,_,ht,hm⟩:=gF hm;simp only[iT,gN]at hm;subst hm;have:=Gh (cm hd i m).1 (hx.dm t) nU;exact .dm i m t Tf (by omega) rfl rfl rfl ht this.2 this.1
def TM{x:Input}(hd:mB x.ah)(hx:ZL x){y:ba}{s:Nat}{c:Int}(p:iV (eK x) y s c):
  (∀i,s=2*i->∀y' c',vH x i y' c'->vH x 0 (y++y') (c+c'))/\
  (∀i,s=2*i+1->∀y' c',vH x (i+2) y' c'->vH x 0 (y++(x.ah.getD i default).kind::y') (c+c')):=by
 induction p with
 |nil=>
  refine⟨λi hi y' c' s=>?_,λi hi=>by omega⟩;have:i=0:=by omega
  subst this;simpa using s
 | @IC ys s c a p ha hf ih=>
  cases qT hd hx ha with
  |read i m t Tf hm hr h1 h2 h3 ht cQ h4=>
   refine⟨λq hq y' c' s'=>?_,λq hq=>by omega⟩;have:q=m+1:=by omega
   subst this;obtain⟨d,rfl⟩:∃d,m=i+d:=⟨m-i,by omega⟩;have s1:vH x (i+d) (a.term::y') (cV x (i+d) a.term.toNat+c'):=.read hm (by rw[h3];simpa using hr) s';have s2:=vH.d6 hd d i (by omega) cQ s1;have:=ih.1 i (by omega) _ _ s2;rw[h4,ER];rw[h3]at this⊢;simp only[gJ]at this;rw[show c+(ez x i (i+d)+cV x (i+d) t)+c'=c+(ez x i (i+d)+(cV x (i+d) t+c'))by omega];exact this
  |dm i m t Tf hm h1 h2 h3 ht cQ h4=>
   refine⟨λq hq y' c' s'=>?_,λq hq=>by omega⟩;have:q=m:=by omega
   subst this;obtain⟨d,rfl⟩:∃d,q=i+d:=⟨q-i,by omega⟩;have s1:vH x (i+d) (a.term::y') (f7 x a.term.toNat+c'):=.dm s';have s2:=vH.d6 hd d i (by omega) cQ s1;have:=ih.1 i (by omega) _ _ s2;rw[h4,ER];rw[h3]at this⊢;simp only[gJ]at this;rw[show c+(ez x i (i+d)+f7 x t)+c'=c+(ez x i (i+d)+(f7 x t+c'))by omega];exact this
  |sw1 i m Tf pB h1 h2 h3 cQ h4=>
   refine⟨λq hq=>by omega,λq hq y' c' s'=>?_⟩;have:q=m:=by omega
   subst this;have hql:=jj pB;obtain⟨d,rfl⟩:∃d,q=i+d:=⟨q-i,by omega⟩;have s1:=vH.swap pB s';have s2:=vH.d6 hd d i (by omega) cQ s1;have:=ih.1 i (by omega) _ _ s2;rw[h4,ER,h3];rw[show c+(ez x i (i+d)+x.swap)+c'=c+(ez x i (i+d)+(x.swap+c'))by omega];exact this
  |sw2 i pB h1 h2 h3 h4=>
   refine⟨λq hq y' c' s'=>?_,λq hq=>by omega⟩;have:q=i+2:=by omega
   subst this;have:=ih.2 i (by omega) _ _ s';rw[h4,ER,h3];rw[show c+0+c'=c+c' by omega];exact this
def Ra(k:bF)(cs:List bF):∀o,(∀a,o=some a->aV k a=true/\a.aA<dV)->(∀a∈cs,aV k a=true->a.aA<dV->∃b,cs.foldl (kj k) o=some b/\aV k b=true/\b.aA<=a.aA)/\
  (∀a,o=some a->∃b,cs.foldl (kj k) o=some b/\aV k b=true/\b.aA<=a.aA):=by
 induction cs with
 |nil=>intro o ho;exact⟨λa ha=>by simp at ha,λa ha=>⟨a,ha,(ho a ha).1,AF _⟩⟩
 |cons e cs ih=>
  intro o ho;have j5:∀a,kj k o e=some a->aV k a=true/\a.aA<dV:=by
   intro a h;unfold kj at h;split at h
   ·rename_i hc;split at h
    ·simp only[cq]at h;subst h;exact⟨hc.2,hc.1⟩
    ·split at h
     ·simp only[cq]at h;subst h;exact⟨hc.2,hc.1⟩
     ·exact ho a h
   ·exact ho a h
  obtain⟨i1,i2⟩:=ih _ j5;have Gi:∀a,o=some a->∃b,kj k o e=some b/\b.aA<=a.aA:=by
   rintro a rfl;unfold kj;split
   ·split
    ·rename_i h;cases h
    ·rename_i b hb;cases hb;split
     ·exact⟨e,rfl,by omega⟩
     ·exact⟨_,rfl,AF _⟩
   ·exact⟨_,rfl,AF _⟩
  have mu:aV k e=true->e.aA<dV->∃b,kj k o e=some b/\b.aA<=e.aA:=by
   intro h1 h2;unfold kj;rw[cM ⟨h2,h1⟩];split
   ·exact⟨e,rfl,AF _⟩
   ·split
    ·exact⟨e,rfl,AF _⟩
    ·exact⟨_,rfl,by omega⟩
  refine⟨λa ha h1 h2=>?_,λa ha=>?_⟩
  ·rcases nH.1 ha with rfl|ha
   ·obtain⟨b,hb,io⟩:=mu h1 h2;obtain⟨b',nI,hk,IF⟩:=i2 b hb;exact⟨b',nI,hk,by omega⟩
   ·exact i1 a ha h1 h2
  ·obtain⟨b,hb,io⟩:=Gi a ha;obtain⟨b',nI,hk,IF⟩:=i2 b hb;exact⟨b',nI,hk,by omega⟩
def xb{x:Input}{a:bF}(ha:a∈En x)(hc:a.aA<dV):∃b∈eK x,a.f=b.f/\a.t=b.t/\a.term=b.term/\b.aA<=a.aA:=by
 obtain⟨b,hb,hk,io⟩:=(Ra a (En x) none (λ_ h=>by cases h)).1 a ha (wZ a) hc;have vr:=fZ.1 hk;refine⟨b, ?_,vr.1,vr.2.1,vr.2.2,io⟩;rw[oJ (tt (jI x))];unfold eK;rw[<-d7,tr _ _ List.Pairwise.nil];have e:kj b=kj a:=by
  funext o c;unfold kj;have:aV b c=aV a c:=by rw[iU b c,iU a c];exact(n7 hk c).symm
  rw[this]
 rw[e];exact hb
def j6{α:Type}{f:Nat->List α}{i m k:Nat}{a:α}(h1:i<=k)(h2:k<m)(h:a∈f k):a∈ft f i m:=by
 unfold ft;rw[vG];exact⟨k-i,by rw[pm];omega,by rw[show i+(k-i)=k by omega];exact h⟩
def Gj{a b:Int}(h:a+b<dV)(ha:0<=a)(hb:0<=b):kH a b=a+b:=by
 unfold kH;rw[bX (by simp only[dV]at h;omega)]
def TN{x:Input}(hd:mB x.ah)(hx:ZL x){i:Nat}{y':ba}{c':Int}(s:vH x i y' c'):(∀t∈y',0<=t/\t<x.insert.length)->∀(i0:Nat) (y:ba) (c:Int),i0<=i->0<=c->iV (eK x) y (2*i0) c->c+ez x i0 i+c'<dV->
  ∃e c2,e<2*x.ah.length+1/\iV (eK x) (y++y') e c2/\c2+(aI x).bj.getD e default<=c+ez x i0 i+c':=by
 induction s with
 |nil=>
  intro hy i0 y c hi Er p cQ;refine⟨2*i0,c,by omega,by simpa using p, ?_⟩;rw[Oo x (by omega),cM (by omega),show 2*i0/2=i0 by omega];omega
 | @read i t y' c' h1 h2 s ih=>
  intro hy i0 y c hi Er p cQ;have Ot:=s.nn hx;have AG:=(cm hd i0 i).1;have ht:=hy t (by simp);obtain⟨k,hk⟩:∃k:Nat,t=k:=⟨t.toNat,by omega⟩;subst hk;simp only[gJ]at h2 cQ⊢;have hs:=Gj (a:=ez x i0 i) (b:=cV x i k) (by omega) AG h2;have pq:(⟨2*i0,2*i+2,k,kH (ez x i0 i) (cV x i k),d6 (i-i0)++[(1,(k:Int))]⟩:bF)∈En x:=by
   unfold En;rw[mA];left;refine j6 (A0 i0) (by omega) ?_;unfold rI;rw[mA];left;refine j6 hi (by omega) ?_;unfold rM;rw[mA];left;refine j6 (A0 k) (by omega) ?_;unfold rA;rw[cM ⟨h1,h2⟩];exact gN.2 rfl
  obtain⟨b,hb,k1,k2,k3,k4⟩:=xb pq (by simp only;omega);simp only at k1 k2 k3 k4;have hbn:=(qT hd hx hb);have hbc:0<=b.aA:=by
   cases hbn with
   |read i m t _ _ h _ _ _ _ _ e=>have:=(cm hd i m).1;omega
   |dm i m t _ _ _ _ _ _ _ e=>have:=(cm hd i m).1;have:=hx.dm t;omega
   |sw1 i m _ _ _ _ _ _ e=>have:=(cm hd i m).1;have:=hx.swap;omega
   |sw2 i _ _ _ _ e=>omega
  have p2:=iV.IC b p hb (by omega);rw[<-k3,show b.t.toNat=2*(i+1)by omega]at p2;obtain⟨e,c2,e1,e2,e3⟩:=ih (λt ht=>hy t (by simp[ht])) (i+1) _ _ (eT _) (by omega) p2 (by rw[j4];omega);refine⟨e,c2,e1,by simpa using e2, ?_⟩;rw[j4]at e3;omega
 | @Ep i y' c' h1 s ih=>
  intro hy i0 y c hi Er p cQ;have h2:=EQ x hi h1;obtain⟨e,c2,e1,e2,e3⟩:=ih hy i0 y c (by omega) Er p (by omega);exact⟨e,c2,e1,e2,by omega⟩
 | @dm i t y' c' s ih=>
  intro hy i0 y c hi Er p cQ;have Ot:=s.nn hx;have AG:=(cm hd i0 i).1;have ht:=hy t (by simp);obtain⟨k,hk⟩:∃k:Nat,t=k:=⟨t.toNat,by omega⟩;subst hk;simp only[gJ]at cQ⊢;have mX:=hx.dm k;have sW:i<=x.ah.length:=s.le;have hs:=Gj (a:=ez x i0 i) (b:=f7 x k) (by omega) AG mX;have pq:(⟨2*i0,2*i,k,kH (ez x i0 i) (f7 x k),d6 (i-i0)++[(3,(k:Int))]⟩:bF)∈En x:=by
   unfold En;rw[mA];right;refine j6 (A0 i0) (by omega) ?_;unfold iI;refine j6 hi (by omega) ?_;unfold iM;refine j6 (A0 k) (by omega) ?_;exact gN.2 rfl
  obtain⟨b,hb,k1,k2,k3,k4⟩:=xb pq (by simp only;omega);simp only at k1 k2 k3 k4;have hbn:=(qT hd hx hb);have hbc:0<=b.aA:=by
   cases hbn with
   |read i m t _ _ h _ _ _ _ _ e=>have:=(cm hd i m).1;omega
   |dm i m t _ _ _ _ _ _ _ e=>have:=(cm hd i m).1;have:=hx.dm t;omega
   |sw1 i m _ _ _ _ _ _ e=>have:=(cm hd i m).1;have:=hx.swap;omega
   |sw2 i _ _ _ _ e=>omega
  have p2:=iV.IC b p hb (by omega);rw[<-k3,show b.t.toNat=2*i by omega]at p2;obtain⟨e,c2,e1,e2,e3⟩:=ih (λt ht=>hy t (by simp[ht])) i _ _ (eT _) (by omega) p2 (by rw[j4];omega);refine⟨e,c2,e1,by simpa using e2, ?_⟩;rw[j4]at e3;omega
 | @swap i y' c' h1 s ih=>
  intro hy i0 y c hi Er p cQ;have Ot:=s.nn hx;have AG:=(cm hd i0 i).1;have sW:=jj h1;have pB:=hx.swap;have hs:=Gj (a:=ez x i0 i) (b:=x.swap) (by omega) AG pB;have akX:(⟨2*i0,2*i+1,(x.ah.getD (i+1) default).kind,kH (ez x i0 i) x.swap,d6 (i-i0)++[(4,0)]⟩:bF)∈En x:=by
   unfold En;rw[mA];left;refine j6 (A0 i0) (by omega) ?_;unfold rI;rw[mA];left;refine j6 hi (by omega) ?_;unfold rM;rw[mA];right;unfold rS;rw[cM h1];exact gN.2 rfl
  have akY:(⟨2*i+1,2*i+4,(x.ah.getD i default).kind,0,[]⟩:bF)∈En x:=by
   unfold En;rw[mA];left;refine j6 (A0 i) (by omega) ?_;unfold rI;rw[mA];right;unfold rT;rw[cM h1];exact gN.2 rfl
  have nnb:∀b∈eK x,0<=b.aA:=by
   intro b hb;cases qT hd hx hb with
   |read i m t _ _ h _ _ _ _ _ e=>have:=(cm hd i m).1;omega
   |dm i m t _ _ _ _ _ _ _ e=>have:=(cm hd i m).1;have:=hx.dm t;omega
   |sw1 i m _ _ _ _ _ _ e=>have:=(cm hd i m).1;omega
   |sw2 i _ _ _ _ e=>omega
  obtain⟨b,hb,k1,k2,k3,k4⟩:=xb akX (by simp only;omega);obtain⟨b',nI,l1,l2,l3,l4⟩:=xb akY (by simp[dV]);simp only at k1 k2 k3 k4 l1 l2 l3 l4;have hbc:=nnb b hb;have av8:=nnb b' nI;have p2:=iV.IC b p hb (by omega);rw[<-k3,show b.t.toNat=2*i+1 by omega]at p2;have p3:=iV.IC b' p2 nI (by omega);rw[<-l3,show b'.t.toNat=2*(i+2)by omega]at p3;obtain⟨e,c2,e1,e2,e3⟩:=ih (λt ht=>hy t (by simp[ht])) (i+2) _ _ (eT _) (by omega) p3 (by rw[j4];omega);refine⟨e,c2,e1,by simpa using e2, ?_⟩;rw[j4]at e3;omega
def bu{l:ba}{v:Nat}(h:v<l.length):l.getD v default∈l:=by
 rw[List.getD,mM h];exact Lc h
def ET{n:Nat}(h:n<=1000000000000000000):IntKind.i64.wrap (n:Int)=n:=av (by omega)
def Rb{y:ba}{aX:Int}(h:BK y aX){j:Nat}(hj:j<y.length):0<=kI y j/\kI y j<aX:=by
 have:=h j hj;unfold kI;omega
abbrev e72:DM.Spec:=bp (λts=>∃a b:Int,ts=[ti a,ti b]/\(-1000000000000000000<=a/\a<=1000000000000000000)/\(-1000000000000000000<=b/\b<=1000000000000000000)) (fun|[.int _ a,.int _ b]=>ti (min (a+b) dV)|_=>.bool false) true
abbrev e73:DM.Spec:=bp (λts=>∃(x:Input) (m:Nat),ts=[x.enc,ti m]/\m<=1000000/\x.ah.length<=1000000) (fun|[x,.int _ m]=>.bool (cG (xd x) m.toNat)|_=>.bool false) true
structure pu(x:Input)(y:ba):Prop where
 n:x.ah.length<=60
 m:y.length<=4194304
 y:∀j,j<y.length->0<=kI y j/\kI y j<x.insert.length
 rd:∀c∈x.ah,c.read.length=x.insert.length/\∀p∈c.read,p<=dV
 Ep:∀i,0<=eL x i/\eL x i<=dV
 dm:∀t,0<=f7 x t/\f7 x t<=dV
 swap:0<=x.swap/\x.swap<=dV
def pu.nn{x:Input}{y:ba}(h:pu x y):ZL x:=⟨λt=>(h.dm t).1,λi=>(h.Ep i).1,h.swap.1⟩
def pu.IG{x:Input}{y:ba}(h:pu x y)(i j:Nat):0<=ed x y i j/\ed x y i j<=dV:=⟨EP h.nn y _ i j (Lz _),TK x y i j⟩
def pu.below{x:Input}{y:ba}(h:pu x y):BK y x.insert.length:=by
 intro j hj;have:=h.y j hj;unfold kI at this;omega
structure qk where
 (k t c a e:Int)
 deriving Inhabited
def qk.enc(s:qk):aG:=[ti s.k,ti s.t,ti s.c,ti s.a,ti s.e]
def dL(l:List qk):List (aG):=l.map qk.enc
@[simp] def akf:dL []=[]:=rfl
@[simp] def akg(l:List qk):(dL l).length=l.length:=by simp[dL]
def LF{l:List qk}{y:Nat}(h:y<l.length):DM.rowAt (dL l) y=(l.getD y default).enc:=by simp[DM.rowAt,dL,h]
def oz(l m:List qk):dL (l++m)=dL l++dL m:=by simp[dL]
def Es(x:Input)(y:ba)(i j:Nat):List qk:=if Eo x y i j then [⟨1,kI y j,cV x i (kI y j).toNat,1,1⟩]else []
def A2(x:Input)(i:Nat):List qk:=if i<x.ah.length/\eL x i<dV then [⟨2,0,eL x i,1,0⟩]else []
def LB(x:Input)(y:ba)(j:Nat):List qk:=if j<y.length then [⟨3,kI y j,f7 x (kI y j).toNat,0,1⟩]else []
def Rg(x:Input)(y:ba)(i j:Nat):List qk:=if Oq x y i j then [⟨4,0,x.swap,2,2⟩]else []
def Lf(x:Input)(y:ba)(i j:Nat):List qk:=Es x y i j++A2 x i
def Ld(x:Input)(y:ba)(i j:Nat):List qk:=Lf x y i j++LB x y j
def ff(x:Input)(y:ba)(i j:Nat):List qk:=Ld x y i j++Rg x y i j
def BQ(x:Input)(y:ba)(i j:Nat):(ff x y i j).length<=4:=by
 unfold ff Ld Lf Es A2 LB Rg;split<;>split<;>split<;>split<;>simp
def t43(x:Input)(y:ba)(hb:BK y x.insert.length)(hy:y.length<=1000000000):aJ ap 166 [x.enc,.sl (au y)] (.bool true):=by
 have aq:=EV;refine c43.ok (by simp) (aH ?_);simp[Input.enc];apply aa.ai aq fw [1,2];simp[ak1];refine aa.lk (o:=[]) (l:=[(1,.v (.sl (au y))),(2,.v (.box [.sl (bd x.ah),.sl (au x.insert),ti x.swap]))]) (bn:=1200) (by simp) ?_;apply aa.sq aq fw [2,7,8,9];simp[ak2];apply aa.block;refine aa.loop (λj:Nat=>⟨DM.look [(2,.v (.box [.sl (bd x.ah),.sl (au x.insert),ti x.swap])),(7,.v (.sl (au y))),(8,.v (ti y.length)),(9,.v (ti j))],cR [],2000,1000,[]⟩)
  (λj=>j<=y.length) (λj=>y.length-j) 0 (Le.aL (o:=[]) ?_ ?_ ?_ ?_) (by simp) (λj hj=>?_)
 iterate 4(·simp)
 apply aa.ai aq fw [2,7,8,9,10];simp[ak3];apply aa.seq;refine aa.cond rfl (λaS=>?_) (λaS=>?_)
 ·simp at aS;apply aa.skip;simp;apply aa.seq;apply aa.block;have r1:=bA aS;have hbj:=Rb hb aS;obtain⟨u,hu⟩:=aY (y.getD j default);rw[hu]at r1;unfold kI at hbj;rw[hu]at hbj;have q1:¬u<0:=by omega
  have q2:¬(x.insert.length:Int)<=u:=by omega
  apply aa.ai aq fw [2,6,7,8,9];simp[ak4,r1,aS];apply aa.ai aq fw [2,7,8,9,21];simp[ak5,q1,q2];refine aa.cond rfl (λaS=>by cases aS) (λaS=>?_);apply aa.skip;simp;apply aa.cZ aq fw [2,7,8,9];simp[ak6];rw[av (by omega)];refine⟨j+1,Le.aL (o:=[]) ?_ ?_ ?_ ?_,by omega,by omega⟩;iterate 3(·simp)
  ·simp
 ·simp at aS;apply aa.exit;simp;apply aa.ai aq fw [4];simp[ak7];apply aa.ret;simp[dI]
def t74(x:Input)(m:Nat)(hm:m<=1000000)(hl:x.ah.length<=1000000):aJ ap 205 [x.enc,ti m] (.bool (cG x m)):=by
 have aq:=EV;refine c74.ok (by simp) (aH ?_);simp[Input.enc];apply aa.ai aq fw [1,2];simp[ak8];refine aa.lk (o:=[]) (l:=[(1,.v (ti m)),(2,.v (.box [.sl (bd x.ah),.sl (au x.insert),ti x.swap]))]) (bn:=1200) (by simp) ?_;obtain⟨v,hv⟩:=aY (cG x m);rw[hv];unfold cG at hv;have w1:IntKind.i64.wrap ((m:Int)+1)=((m+1:Nat):Int):=by rw[av (by omega)];omega
 obtain⟨m1,uE⟩:=aY (m+1);rw[uE]at w1 hv;refine aa.bL aq fw [(4,.v (.bool v))] ?_ ?_
 ·by_cases q1:0<x.swap
  ·by_cases q2:m1<x.ah.length
   ·have q3:m<x.ah.length:=by omega
    have r1:=cx q3;have r2:=cx q2;obtain⟨⟨k1,rd1,d1⟩,e1⟩:=aY (x.ah.getD m default);obtain⟨⟨k2,rd2,d2⟩,e2⟩:=aY (x.ah.getD m1 default);rw[e1]at r1 hv;rw[e2]at r2 hv;simp only at hv;by_cases q4:0<=k1
    ·by_cases q5:0<=k2
     ·have:v=true:=by rw[<-hv];simp[q1,q2,q4,q5]
      simp[IT,w1,q1,q2,q3,r1,r2,bB.enc,q4,q5,this]
     ·have:v=false:=by rw[<-hv];simp[q5]
      simp[IT,w1,q1,q2,q3,r1,r2,bB.enc,q4,q5,this]
    ·have:v=false:=by rw[<-hv];simp[q4]
     simp[IT,w1,q1,q2,q3,r1,bB.enc,q4,this]
   ·have:v=false:=by rw[<-hv];simp[q2]
    simp[IT,w1,q1,q2,this]
  ·have:v=false:=by rw[<-hv];simp[q1]
   simp[IT,q1,this]
 apply aa.ret;simp[dI]
def t57(a b:Int)(ha: -1000000000000000000<=a/\a<=1000000000000000000)(hb: -1000000000000000000<=b/\b<=1000000000000000000):aJ ap 169 [ti a,ti b] (ti (min (a+b) dV)):=by
 have aq:=EV;refine c57.ok (by simp) (aH ?_);simp;apply aa.ai aq fw [0,1];simp[ak9];have w1:IntKind.i64.wrap (a+b)=a+b:=av (by omega);apply aa.ai aq fw [4];simp[ala,w1];apply aa.ret;simp[dI]
def alb:aw ap (bz [(205,e73)]):=by
 refine aw.cons aw.nil ?_;rintro ts ⟨x,m,rfl,h1,h2⟩;exact⟨by simpa using t74 x m h1 h2,λ_=>rfl⟩
def t56(x:Input)(y:ba)(i j:Nat)(hx:pu x y)(hi:i<=x.ah.length)(hj:j<=y.length):
  aJ ap 168 [x.enc,.sl (au y),ti i,ti j] (.sl (dL (ff x y i j))):=by
 have aq:=alb;have hn:=hx.n;have hm:=hx.m;have hI:dV=1099511627776:=rfl;have Q7:∀(q:Nat),q<x.ah.length->(x.ah.getD q default).read.length=x.insert.length:=by
  intro q hq;exact(hx.rd (x.ah.getD q default) (by simp[List.getD,hq])).1
 have hl1:(Es x y i j).length<=1:=by unfold Es;split<;>simp
 have BS:(A2 x i).length<=1:=by unfold A2;split<;>simp
 have hl3:(LB x y j).length<=1:=by unfold LB;split<;>simp
 have hl4:(Lf x y i j).length<=2:=by unfold Lf;rw[qe];omega
 have hl5:(Ld x y i j).length<=3:=by unfold Ld;rw[qe];omega
 refine c56.ok (by simp) (aH ?_);simp[Input.enc];apply aa.ai aq fw [1,2,3,4];simp[T0];refine aa.lk (o:=[]) (l:=[(1,.v (.sl (au y))),(2,.v (ti i)),(3,.v (ti j)),(4,.v (.box [.sl (bd x.ah),.sl (au x.insert),ti x.swap]))]) (bn:=1200) (by simp) ?_;apply aa.ai aq fw [1,2,3,4,9];simp[EW];refine aa.lk (o:=[]) (l:=[(1,.v (.sl (au y))),(2,.v (ti i)),(3,.v (ti j)),(4,.v (.box [.sl (bd x.ah),.sl (au x.insert),ti x.swap])),(9,.aZ)]) (bn:=2000) (by simp) ?_;refine aa.le (Le.j7 (k:=9) 264 (sz:=5) (by omega) (by simp)) ?_;rw[fb];have w0:IntKind.i64.wrap ((y.length:Int)-j)=(y.length:Int)-j:=av (by omega);apply aa.ai aq fw [1,2,3,4,9,10,11];simp[alc,w0];apply aa.seq;refine aa.bL aq fw [(1,.v (.sl (au y))),(2,.v (ti i)),(3,.v (ti j)),(4,.v (.box [.sl (bd x.ah),.sl (au x.insert),ti x.swap])),(9,.aW 2000 0),(10,.v (.bool (decide (i<x.ah.length)))),(11,.v (ti ((y.length:Int)-j))),(40,.v (.bool (decide (Eo x y i j))))] ?_ ?_
 ·by_cases q2:i<x.ah.length
  ·by_cases q3:j<y.length
   ·have ry:=bA q3;have hyj:=hx.y j q3;have ey:y.getD j default=kI y j:=rfl;rw[ey]at ry;obtain⟨v,hv⟩:∃v:Nat,kI y j=v:=⟨(kI y j).toNat,by omega⟩;rw[hv]at ry hyj;have rc:=cx q2;have hc:=Q7 i q2;have BT:cV x i v=(x.ah.getD i default).read.getD v default:=rfl;obtain⟨⟨kd,rd,dl⟩,ec⟩:=aY (x.ah.getD i default);rw[ec]at rc hc BT;simp only at hc BT;have qN:v<rd.length:=by omega
    have rr:=bA qN;rw[<-BT]at rr;have ZP:0<(y.length:Int)-j:=by omega
    have ZP:j<y.length:=q3;have Oy:Eo x y i j↔0<=cV x i v:=by unfold Eo;rw[hv];simp[q2,q3]
    obtain⟨g,hg⟩:=aY (cV x i v);rw[hg]at rr Oy;by_cases q4:0<=g
    ·have q5:=Oy.2 q4;simp[Oz,q2,q3,q4,q5,ry,rc,rr,qN,bB.enc]
    ·have q5:¬Eo x y i j:=λh=>q4 (Oy.1 h);simp[Oz,q2,q3,q4,q5,ry,rc,rr,qN,bB.enc]
   ·have q5:¬Eo x y i j:=λh=>q3 h.2.1;simp[Oz,q2,q3,q5]
  ·have q5:¬Eo x y i j:=λh=>q2 h.1;simp[Oz,q2,q5]
 refine aa.to ⟨DM.look [(1,.v (.sl (au y))),(2,.v (ti i)),(3,.v (ti j)),(4,.v (.box [.sl (bd x.ah),.sl (au x.insert),ti x.swap])),(9,.aW 2000 0),(10,.v (.bool (decide (i<x.ah.length)))),(11,.v (ti ((y.length:Int)-j)))],cR [(2000,.bm 0 264 5 (dL (Es x y i j)))],3000,1000,[]⟩ ?_ ?_
 ·refine aa.cond rfl (λh1=>?_) (λh1=>?_)
  ·simp only[j2]at h1;have hL:dL (Es x y i j)=dL ([])++[(⟨1,kI y j,cV x i (kI y j).toNat,1,1⟩:qk).enc]:=by
    rw[show dL []=[]from rfl,Em];unfold Es;rw[cM h1];rfl
   obtain⟨q2,q3,q4⟩:=h1;have ry:=bA q3;have hyj:=hx.y j q3;have ey:y.getD j default=kI y j:=rfl;rw[ey]at ry;obtain⟨v,hv⟩:∃v:Nat,kI y j=v:=⟨(kI y j).toNat,by omega⟩;rw[hv]at ry hyj;have rc:=cx q2;have hc:=Q7 i q2;have BT:cV x i v=(x.ah.getD i default).read.getD v default:=rfl;obtain⟨⟨kd,rd,dl⟩,ec⟩:=aY (x.ah.getD i default);rw[ec]at rc hc BT;simp only at hc BT;have qN:v<rd.length:=by omega
   have rr:=bA qN;rw[<-BT]at rr;rw[hv,gJ]at q4;have gf:(⟨1,kI y j,cV x i (kI y j).toNat,1,1⟩:qk).enc=[ti 1,ti v,ti (cV x i v),ti 1,ti 1]:=by rw[hv];rfl
   rw[gf]at hL;apply aa.cZ aq fw [1,2,3,4,9,10,11];simp[ald,q2,q3,ry,rc,rr,qN,bB.enc,di,cw];exact Le.aL (by simp) (by simp) (by simp[-List.append_assoc,hL,qk.enc,di]) (by simp)
  ·simp only[pn]at h1;have hL:dL (Es x y i j)=dL ([]):=by
    rw[show dL []=[]from rfl];unfold Es;rw[bX h1];simp[dL]
   apply aa.skip;simp;exact Le.aL (by simp) (by simp) (by simp[-List.append_assoc,hL,qk.enc,di]) (by simp)
 apply aa.seq;refine aa.bL aq fw [(1,.v (.sl (au y))),(2,.v (ti i)),(3,.v (ti j)),(4,.v (.box [.sl (bd x.ah),.sl (au x.insert),ti x.swap])),(9,.aW 2000 0),(11,.v (ti ((y.length:Int)-j))),(71,.v (.bool (decide (i<x.ah.length/\eL x i<dV))))] ?_ ?_
 ·by_cases q2:i<x.ah.length
  ·have rc:=cx q2;have edl:eL x i=(x.ah.getD i default).delete:=rfl;obtain⟨⟨kd,rd,dl⟩,ec⟩:=aY (x.ah.getD i default);rw[ec]at rc edl;simp only at edl;rw[edl];by_cases q4:dl<1099511627776
   ·have q5:dl<dV:=q4;simp[T1,q2,q4,q5,rc,bB.enc]
   ·have q5:¬dl<dV:=q4;simp[T1,q2,q4,q5,rc,bB.enc]
  ·simp[T1,q2]
 refine aa.to ⟨DM.look [(1,.v (.sl (au y))),(2,.v (ti i)),(3,.v (ti j)),(4,.v (.box [.sl (bd x.ah),.sl (au x.insert),ti x.swap])),(9,.aW 2000 0),(11,.v (ti ((y.length:Int)-j)))],cR [(2000,.bm 0 264 5 (dL (Lf x y i j)))],4000,1000,[]⟩ ?_ ?_
 ·refine aa.cond rfl (λh2=>?_) (λh2=>?_)
  ·simp only[j2]at h2;have hL:dL (Lf x y i j)=dL (Es x y i j)++[(⟨2,0,eL x i,1,0⟩:qk).enc]:=by
    rw[show Lf x y i j=Es x y i j++A2 x i from rfl,oz];unfold A2;rw[cM h2];rfl
   obtain⟨q2,q4⟩:=h2;have rc:=cx q2;have edl:eL x i=(x.ah.getD i default).delete:=rfl;obtain⟨⟨kd,rd,dl⟩,ec⟩:=aY (x.ah.getD i default);rw[ec]at rc edl;simp only at edl;rw[edl]at hL;apply aa.cZ aq fw [1,2,3,4,9,11];simp[ale,q2,rc,bB.enc,di,cw];refine⟨⟨by omega,by omega⟩, ?_⟩;exact Le.aL (by simp) (by simp) (by simp[-List.append_assoc,hL,qk.enc,di]) (by simp)
  ·simp only[pn]at h2;have hL:dL (Lf x y i j)=dL (Es x y i j):=by
    rw[show Lf x y i j=Es x y i j++A2 x i from rfl,oz];unfold A2;rw[bX h2];simp[dL]
   apply aa.skip;simp;exact Le.aL (by simp) (by simp) (by simp[-List.append_assoc,hL,qk.enc,di]) (by simp)
 apply aa.seq;refine aa.bL aq fw [(1,.v (.sl (au y))),(2,.v (ti i)),(3,.v (ti j)),(4,.v (.box [.sl (bd x.ah),.sl (au x.insert),ti x.swap])),(9,.aW 2000 0),(11,.v (ti ((y.length:Int)-j))),(84,.v (.bool (decide (j<y.length))))] ?_ ?_
 ·by_cases q3:j<y.length
  ·have ZP:0<(y.length:Int)-j:=by omega
   simp[adV,q3]
  ·have ZP:¬0<(y.length:Int)-j:=by omega
   simp[adV,q3]
 refine aa.to ⟨DM.look [(1,.v (.sl (au y))),(2,.v (ti i)),(3,.v (ti j)),(4,.v (.box [.sl (bd x.ah),.sl (au x.insert),ti x.swap])),(9,.aW 2000 0),(11,.v (ti ((y.length:Int)-j)))],cR [(2000,.bm 0 264 5 (dL (Ld x y i j)))],5000,1000,[]⟩ ?_ ?_
 ·refine aa.cond rfl (λh3=>?_) (λh3=>?_)
  ·simp only[j2]at h3;have hL:dL (Ld x y i j)=dL (Lf x y i j)++[(⟨3,kI y j,f7 x (kI y j).toNat,0,1⟩:qk).enc]:=by
    rw[show Ld x y i j=Lf x y i j++LB x y j from rfl,oz];unfold LB;rw[cM h3];rfl
   have q3:=h3;have ry:=bA q3;have hyj:=hx.y j q3;have ey:y.getD j default=kI y j:=rfl;rw[ey]at ry;obtain⟨v,hv⟩:∃v:Nat,kI y j=v:=⟨(kI y j).toNat,by omega⟩;rw[hv]at ry hyj;have qN:v<x.insert.length:=by omega
   have ri:=bA qN;have ein:x.insert.getD v default=f7 x v:=rfl;rw[ein]at ri;rw[hv,gJ]at hL;apply aa.cZ aq fw [1,2,3,4,9,11];simp[alf,q3,ry,ri,qN,di,cw];refine⟨⟨by omega,by omega⟩, ?_⟩;exact Le.aL (by simp) (by simp) (by simp[-List.append_assoc,hL,qk.enc,di]) (by simp)
  ·simp only[pn]at h3;have hL:dL (Ld x y i j)=dL (Lf x y i j):=by
    rw[show Ld x y i j=Lf x y i j++LB x y j from rfl,oz];unfold LB;rw[bX h3];simp[dL]
   apply aa.skip;simp;exact Le.aL (by simp) (by simp) (by simp[-List.append_assoc,hL,qk.enc,di]) (by simp)
 apply aa.seq;obtain⟨xt,tA⟩:=aY x.enc;have ov:T.agg [.sl (bd x.ah),.sl (au x.insert),ti x.swap]=xt:=tA;have Ox:xd xt=x:=by rw[<-tA];simp
 obtain⟨sw,pB⟩:=aY (cG x i);have w1:IntKind.i64.wrap ((j:Int)+1)=((j+1:Nat):Int):=by exact_mod_cast ET (n:=j+1) (by omega)
 have w2:IntKind.i64.wrap ((i:Int)+1)=((i+1:Nat):Int):=by exact_mod_cast ET (n:=i+1) (by omega)
 obtain⟨j1,hj1⟩:=aY (j+1);obtain⟨i1,hi1⟩:=aY (i+1);rw[hj1]at w1;rw[hi1]at w2;refine aa.bL aq fw [(4,.v (.box [.sl (bd x.ah),.sl (au x.insert),ti x.swap])),(9,.aW 2000 0),(136,.v (.bool (decide (Oq x y i j))))] ?_ ?_
 ·by_cases q0:1<(y.length:Int)-j
  ·by_cases q2:cG x i=true
   ·have hql:=jj q2;rw[pB]at q2;subst q2;have q3:j1<y.length:=by omega
    have ry1:=bA (show j<y.length by omega);have ry2:=bA q3;have aag:i1<x.ah.length:=by omega
    have sW:i<x.ah.length:=by omega
    have rc1:=cx sW;have rc2:=cx aag;have Gp:Oq x y i j↔kI y j=(x.ah.getD i1 default).kind/\kI y j1=(x.ah.getD i default).kind:=by unfold Oq;rw[hj1,hi1,pB];simp[q3]
    unfold kI at Gp;obtain⟨⟨k1,rd1,d1⟩,e1⟩:=aY (x.ah.getD i default);obtain⟨⟨k2,rd2,d2⟩,e2⟩:=aY (x.ah.getD i1 default);rw[e1]at rc1 Gp;rw[e2]at rc2 Gp;simp only at Gp;obtain⟨u1,hu1⟩:=aY (y.getD j default);obtain⟨u2,hu2⟩:=aY (y.getD j1 default);rw[hu1]at ry1 Gp;rw[hu2]at ry2 Gp;have Ia:j<y.length:=by omega
    by_cases q4:k2=u1
    ·by_cases q5:k1=u2
     ·have q6:Oq x y i j:=Gp.2 ⟨q4.symm,q5.symm⟩;simp[IU,q0,ov,Ox,pB,w1,w2,q3,ry1,ry2,rc1,rc2,aag,sW,Ia,q4,q5,q6,bB.enc];exact⟨x,i,⟨tA.symm,rfl⟩,by omega,by omega⟩
     ·have q6:¬Oq x y i j:=λh=>q5 (Gp.1 h).2.symm;simp[IU,q0,ov,Ox,pB,w1,w2,q3,ry1,ry2,rc1,rc2,aag,sW,Ia,q4,q5,q6,bB.enc];exact⟨x,i,⟨tA.symm,rfl⟩,by omega,by omega⟩
    ·have q6:¬Oq x y i j:=λh=>q4 (Gp.1 h).1.symm;simp[IU,q0,ov,Ox,pB,w2,ry1,rc2,aag,Ia,q4,q6,bB.enc];exact⟨x,i,⟨tA.symm,rfl⟩,by omega,by omega⟩
   ·have q6:¬Oq x y i j:=λh=>q2 h.1;rw[pB]at q2;have TW:sw=false:=by simpa using q2
    simp[IU,q0,ov,Ox,pB,TW,q6];exact⟨x,i,⟨tA.symm,rfl⟩,by omega,by omega⟩
  ·have q6:¬Oq x y i j:=λh=>q0 (by have:=h.2.1;omega);simp[IU,q0,q6]
 refine aa.to ⟨DM.look [(9,.aW 2000 0)],cR [(2000,.bm 0 264 5 (dL (ff x y i j)))],6000,1000,[]⟩ ?_ ?_
 ·refine aa.cond rfl (λh4=>?_) (λh4=>?_)
  ·simp only[j2]at h4;have hL:dL (ff x y i j)=dL (Ld x y i j)++[(⟨4,0,x.swap,2,2⟩:qk).enc]:=by
    rw[show ff x y i j=Ld x y i j++Rg x y i j from rfl,oz];unfold Rg;rw[cM h4];rfl
   apply aa.cZ aq fw [9];simp[afi,di,cw];refine⟨⟨by omega,by omega⟩, ?_⟩;exact Le.aL (by simp) (by simp) (by simp[-List.append_assoc,hL,qk.enc,di]) (by simp)
  ·simp only[pn]at h4;have hL:dL (ff x y i j)=dL (Ld x y i j):=by
    rw[show ff x y i j=Ld x y i j++Rg x y i j from rfl,oz];unfold Rg;rw[bX h4];simp[dL]
   apply aa.skip;simp;exact Le.aL (by simp) (by simp) (by simp[-List.append_assoc,hL,qk.enc,di]) (by simp)
 apply aa.ai aq fw [8];simp[afj];apply aa.ret;simp[BU]
section
variable{f f0:bS}
def A3{r q:Nat}{o:Ob}(h:r≠q):b8 f q o r=f r:=by simp[b8,h]
def aah:bW->bS->iw
 |[.ptr b 0,.v (.int .i64 t)],ab=>
  match ab b with
  |some (.box [.v c1,.v c2,.v c3,.v c4,.aW a v,.v c6])=>match ab a with
   |some (.bm v' e sz aC)=>⟨v=v'/\e=3/\sz=1/\a≠b/\aC.length<=100000000/\(∀r∈aC,r.length=1),.v (.dh []),
     b8 (b8 ab a (.bm (v+1) 3 1 (aC++[[ti t]]))) b (.box [.v c1,.v c2,.v c3,.v c4,.aW a (v+1),.v c6])⟩
   |_=>⟨False,.undef,ab⟩
  |_=>⟨False,.undef,ab⟩
 |_,ab=>⟨False,.undef,ab⟩
def atz{b a v:Nat}{c1 c2 c3 c4 c6:T}{t:Int}{aC:List (aG)}{N:Nat}(hN:∀r,N<=r->f0 r=none)(hb:f0 b=some (.box [.v c1,.v c2,.v c3,.v c4,.aW a v,.v c6]))(ha:f0 a=some (.bm v 3 1 aC))
  (ik:a≠b) (hl:aC.length<=100000000) (ql:∀r∈aC,r.length=1):
  ce ap 260 [.ptr b 0,.v (ti t)] f0 ⟨True,.v (.dh []),b8 (b8 f0 a (.bm (v+1) 3 1 (aC++[[ti t]]))) b (.box [.v c1,.v c2,.v c3,.v c4,.aW a (v+1),.v c6])⟩:=by
 have aq:=EV;refine atA.Ie hN (by simp) λc9=>?_;have zV:b<N:=(c9 b _ hb).1;have LM:a<N:=(c9 a _ ha).1;have hba:b≠a:=λe=>ik e.symm;have nb:∀k,b≠N+k:=λk=>by omega
 have na:∀k,a≠N+k:=λk=>by omega
 simp;apply aa.ai aq fw [0,1,4];simp[afk,hb];refine aa.to ⟨DM.look [],dA [(b,.box [.v c1,.v c2,.v c3,.v c4,.aW a (v+1),.v c6]),(a,.bm (v+1) 3 1 (aC++[[ti t]]))] f0,N+1000,N,[]⟩ ?_ (by simp[OA];rfl);apply aa.cZ aq fw [];simp[afl,hb,ha,ik,hba,nb,na,cw,di,vq];refine⟨⟨by omega,by omega⟩,Le.same (l:=[]) (λr hr=>?_) (by simp)⟩;simp[show r≠b by omega,show r≠a by omega,hN r (by omega)]
structure ES where
 dC:Nat
 out:ba
 aA:Int
def nV(s:ES):Ob:=.bm s.out.length 3 1 (au s.out)
def eI(x:Input)(m:Nat)(c:Int)(a v:Nat):Ob:=.box [.v (.sl (bd x.ah)),.v (.sl (au x.insert)),.v (ti x.swap),.v (ti m),.aW a v,.v (ti c)]
def aai:bW->bS->iw
 |[.ptr b 0],ab=>
  match ab b with
  |some (.box [.v (.sl c),_,_,.v (.int .i64 m),_,_])=>⟨0<=m/\m<c.length/\c=bd (kR c),.v (.dh [.agg ((kR c).getD m.toNat default).enc,.bool true]),ab⟩
  |_=>⟨False,.undef,ab⟩
 |_,ab=>⟨False,.undef,ab⟩
def alg{b:Nat}{c2 c3 c5 c6:DV}{c:List bB}{m:Nat}{N:Nat}(hN:∀r,N<=r->f0 r=none)(hb:f0 b=some (.box [.v (.sl (bd c)),c2,c3,.v (ti m),c5,c6]))(hm:m<c.length):
  ce ap 271 [.ptr b 0] f0 ⟨True,.v (.dh [.agg (c.getD m default).enc,.bool true]),f0⟩:=by
 have aq:=EV;refine alh.Ie hN (by simp) λc9=>?_;have zV:b<N:=(c9 b _ hb).1;have nb:∀k,b≠N+k:=λk=>by omega
 have gf:=cx hm;obtain⟨⟨kd,rd,dl⟩,ec⟩:=aY (c.getD m default);rw[ec]at gf;rw[ec];simp[bB.enc];apply aa.ai aq fw [0,2,3];simp[T2];apply aa.sq aq fw [0,2,3,14];simp[T3,hb,nb,vq];refine aa.cond rfl (λaS=>by simp at aS;omega) (λaS=>?_);apply aa.skip;simp;apply aa.ai aq fw [2,3];simp[afm,hb,nb,vq,hm,gf,bB.enc];refine aa.le (Le.iy (l1:=[]) (l:=[(2,.v (.box [ti kd,.sl (au rd),ti dl])),(3,.v (.bool true))]) (bn:=N+100) c9 ?_ ?_ ?_ ?_ ?_) ?_
 ·omega
 ·simp
 ·simp[cY]
 ·simp[kp]
 ·simp;exact j8 c9 (by omega) (by simp)
 apply aa.ret;simp[Gq];rfl
def cj(x:Input)(s:ES)(k t:Nat):ES:=
 if k=1 then⟨s.dC+1,s.out++[(t:Int)],min (s.aA+cV x s.dC t) dV⟩
 else if k=2 then⟨s.dC+1,s.out,min (s.aA+eL x s.dC) dV⟩
 else if k=3 then⟨s.dC,s.out++[(t:Int)],min (s.aA+f7 x t) dV⟩
 else⟨s.dC+2,s.out++[(x.ah.getD (s.dC+1) default).kind,(x.ah.getD s.dC default).kind],min (s.aA+x.swap) dV⟩
def qW(x:Input)(s:ES)(k t:Nat):Prop:=
 if k=1 then s.dC<x.ah.length/\t<(x.ah.getD s.dC default).read.length/\0<=cV x s.dC t/\cV x s.dC t<=dV
 else if k=2 then s.dC<x.ah.length/\t=0/\0<=eL x s.dC/\eL x s.dC<dV
 else if k=3 then t<x.insert.length/\0<=f7 x t/\f7 x t<=dV
 else t=0/\cG x s.dC=true/\0<=x.swap/\x.swap<=dV
structure BV(x:Input)(s:ES):Prop where
 dC:s.dC<=1000000
 out:s.out.length<=99999990
 c0:0<=s.aA
 c1:s.aA<=dV
 LN:x.ah.length<=1000000
abbrev atB:DM.Spec:=bp (λts=>∃a b:Int,ts=[ti a,ti b]/\(-1000000000000000000<=a/\a<=1000000000000000000)/\(-1000000000000000000<=b/\b<=1000000000000000000)) (fun|[.int _ a,.int _ b]=>ti (min (a+b) dV)|_=>.bool false) true
abbrev eSw:DM.Spec:=bp (λts=>∃(x:Input) (m:Nat),ts=[x.enc,ti m]/\m<=1000000/\x.ah.length<=1000000) (fun|[x,.int _ m]=>.bool (cG (xd x) m.toNat)|_=>.bool false) true
def aaj:aw ap (bz [(271,fl aai),(260,fl aah),(169,atB),(205,eSw)]):=by
 refine aw.il (aw.il (aw.cons (aw.cons aw.nil ?_) ?_) ?_) ?_
 ·rintro ts ⟨x,m,rfl,h1,h2⟩;exact⟨by simpa using t74 x m h1 h2,λ_=>rfl⟩
 ·rintro ts ⟨a,b,rfl,h1,h2⟩;exact⟨by simpa using t57 a b h1 h2,λ_=>rfl⟩
 ·intro args ab h;unfold aah at h⊢;split at h
  ·rename_i aM b t;split at h
   ·rename_i c1 c2 c3 c4 a v c6 hb;split at h
    ·rename_i v' e sz aC ha;obtain⟨rfl,rfl,rfl,ik,hl,ql⟩:=h;refine⟨λN hN=>?_,λr hr=>?_⟩
     ·exact ce.of (atz hN hb ha ik hl ql) (by simp[]) (by simp[])
     ·simp only[];have T4:r≠b:=λe=>by rw[e,hb]at hr;cases hr
      have sD:r≠a:=λe=>by rw[e,ha]at hr;cases hr
      rw[A3 T4,A3 sD];exact hr
    ·exact h.elim
   ·exact h.elim
  ·exact h.elim
 ·intro args ab h;unfold aai at h⊢;split at h
  ·rename_i aM b;split at h
   ·rename_i c c2 c3 m c5 c6 hb;obtain⟨h1,h2,h3⟩:=h;obtain⟨m,rfl⟩:=jE h1;obtain⟨cl,c9⟩:=aY (kR c);rw[c9]at h3;subst h3;refine⟨λN hN=>?_,λr hr=>?_⟩
    ·exact ce.of (alg hN hb (by simpa using h2)) (by simp[]) (by simp[])
    ·simpa [hb]using hr
   ·exact h.elim
  ·exact h.elim
def OB{b m v a:Nat}{x:Input}{c:Int}(hb:f b=some (eI x m c a v)):aai [.ptr b 0] f=⟨m<x.ah.length,.v (.dh [.agg (x.ah.getD m default).enc,.bool true]),f⟩:=by
 simp[aai,hb,eI]
def A4{b m v a:Nat}{x:Input}{c t:Int}{l:ba}(hb:f b=some (eI x m c a v))(ha:f a=some (.bm v 3 1 (au l)))(ik:a≠b):
  aah [.ptr b 0,.v (ti t)] f=⟨l.length<=100000000,.v (.dh []),b8 (b8 f a (.bm (v+1) 3 1 (au (l++[t])))) b (eI x m c a (v+1))⟩:=by
 have hr:∀r∈au l,r.length=1:=by intro r hr;simp only[au,j3]at hr;obtain⟨_,_,rfl⟩:=hr;rfl
 have e:au (l++[t])=au l++[[ti t]]:=by simp[au]
 simp only[aah,hb,eI,ha,e,iw.mk.injEq,Gr,eq_iff_iff,If];simp[ik,au]
end
section
variable{f0:bS}
def tC{N aP bn:Nat}{tm:dW}{l:lh}{L:fS}{b a m v:Nat}{x:Input}{c:Int}{aC:List (aG)}(c9:qX f0 N)(hb:b<N)(ha:a<N)(ik:a≠b)(hn:N<=bn)
  (hL:∀p∈L,p.1=b\/p.1=a\/N<=p.1) (h1:dA L f0 b=some (eI x m c a v)) (h2:dA L f0 a=some (.bm v 3 1 aC))
  (nJ:oM (dA L f0) (dA [(b,eI x m c a v),(a,.bm v 3 1 aC)] f0) id tm l):
  Le ⟨tm,dA L f0,aP,N,[]⟩ ⟨DM.look l,dA [(b,eI x m c a v),(a,.bm v 3 1 aC)] f0,bn,N,[]⟩:=by
 have hba:b≠a:=λe=>ik e.symm;refine Le.iy c9 hn ?_ ?_ ?_ nJ
 ·simp;omega
 ·have:∀(L:fS),(∀p∈L,p.1=b\/p.1=a\/N<=p.1)->cY N [(b,eI x m c a v),(a,.bm v 3 1 aC)] L:=by
   intro L;induction L with
   |nil=>intro _;trivial
   |cons q L ih=>
    intro h;refine⟨λhq=>?_,ih λp hp=>h p (by simp[hp])⟩;rcases h q (by simp)with h|h|h
    ·exact⟨eI x m c a v,by rw[h];simp⟩
    ·exact⟨.bm v 3 1 aC,by rw[h];simp⟩
    ·omega
  exact this _ hL
 ·refine⟨⟨eI x m c a v,h1,.inr ⟨rfl,λn hn=>?_⟩,λ_=>ej _⟩,⟨.bm v 3 1 aC,h2,.inr ⟨rfl,λn hn=>by simp[jy]at hn⟩,λ_=>ej _⟩,trivial⟩;have:n=a:=by simpa [eI,jy,da,bv]using hn
  subst this;exact⟨_,_,h2,by simp[ik],ej _⟩
def ali{b a:Nat}{x:Input}{s:ES}{t:Nat}{N:Nat}(hN:∀r,N<=r->f0 r=none)(hb:f0 b=some (eI x s.dC s.aA a s.out.length))(ha:f0 a=some (.bm s.out.length 3 1 (au s.out)))(ik:a≠b)
  (hs:BV x s) (hc:qW x s 1 t):
  ce ap 267 [.ptr b 0,.v (ti t)] f0 ⟨True,.v (.bool true),b8 (b8 f0 a (.bm (s.out.length+1) 3 1 (au (s.out++[(t:Int)])))) b (eI x (s.dC+1) (min (s.aA+cV x s.dC t) dV) a (s.out.length+1))⟩:=by
 have aq:=aaj;refine alj.Ie hN (by simp) λc9=>?_;have zV:b<N:=(c9 b _ hb).1;have LM:a<N:=(c9 a _ ha).1;have hba:b≠a:=λe=>ik e.symm;have nb:∀k,b≠N+k:=λk=>by omega
 have na:∀k,a≠N+k:=λk=>by omega
 obtain⟨m,out,c⟩:=s;obtain⟨h1,T5,h3,h4,h5⟩:=hs;have h2:out.length<=100000000:=uF T5 (by omega);simp only[qW,cM]at*
 obtain⟨q1,q2,q3,q4⟩:=hc;have BT:cV x m t=(x.ah.getD m default).read.getD t default:=rfl;obtain⟨⟨kd,rd,dl⟩,ec⟩:=aY (x.ah.getD m default);rw[ec]at q2 BT;simp only at q2 BT;have rr:=bA q2;obtain⟨g,hg⟩:=aY (cV x m t);rw[hg]at BT q3 q4;rw[<-BT]at rr;rw[hg];have rr':DM.rowAt (au rd) (t:Int)=[ti g]:=rr;have ecc:x.ah[m]?.getD default=⟨kd,rd,dl⟩:=ec;have ecm:x.ah[m]'q1=⟨kd,rd,dl⟩:=by rw[<-ecc,mM q1];rfl
 have q5:¬g<0:=by omega
 have q6:¬(rd.length:Int)<=t:=by omega
 have hI:dV=1099511627776:=rfl;simp;apply aa.ai aq fw [0,1];simp[T6];apply aa.uG aq fw (rs:=A5) pV (by kernel_rfl) [0,1,5,6];simp[A5,OB (x:=x) (m:=m) (c:=c) (a:=a) (v:=out.length),hb,q1,ecm,bB.enc];refine aa.le (Le.iy (l1:=[]) (l:=[(0,.ptr b 0),(1,.v (ti t)),(5,.v (.box [ti kd,.sl (au rd),ti dl])),(6,.v (.bool true))]) (bn:=N+1000) c9 ?_ ?_ ?_ ?_ ?_) ?_
 ·omega
 ·simp
 ·simp[cY];omega
 ·simp[kp,kq]
 ·simp[hb,eI,nb,vq];exact j8 (l:=[]) c9 (by omega) (by simp)
 apply aa.seq;refine aa.bL aq fw [(0,.ptr b 0),(1,.v (ti t)),(5,.v (.box [ti kd,.sl (au rd),ti dl])),(32,.v (.bool false))] ?_ ?_
 ·have q7:¬(t:Int)<0:=by omega
  simp[BW,q5,q6,q2,rr',q7]
 refine aa.cond rfl (λaS=>by cases aS) (λaS=>?_);apply aa.skip;simp;have w1:IntKind.i64.wrap ((m:Int)+1)=((m+1:Nat):Int):=by rw[av (by omega)];omega
 apply aa.ai aq fw [0,1,5];simp[afn,hb,eI,w1];refine aa.le (tC (x:=x) (m:=m+1) (c:=c) (v:=out.length) (aC:=au out) (l:=[(0,.ptr b 0),(1,.v (ti t)),(5,.v (.box [ti kd,.sl (au rd),ti dl]))]) (bn:=N+2000) c9 zV LM ik (by omega) ?_ ?_ ?_ ?_) ?_
 ·simp
 ·simp[eI]
 ·simp[ik,ha]
 ·simp[eI]
 apply aa.uG aq fw (rs:=OC) pV (by kernel_rfl) [0,1,5];simp[OC,A4 (x:=x) (m:=m+1) (c:=c) (v:=out.length) (l:=out) (a:=a),ik,h2];rw[fJ,fJ];refine aa.le (tC (x:=x) (m:=m+1) (c:=c) (v:=out.length+1) (aC:=au (out++[(t:Int)])) (l:=[(0,.ptr b 0),(1,.v (ti t)),(5,.v (.box [ti kd,.sl (au rd),ti dl]))]) (bn:=N+3000) c9 zV LM ik (by omega) ?_ ?_ ?_ ?_) ?_
 ·simp
 ·simp[eI]
 ·simp[ik]
 ·simp[eI]
 apply aa.ai aq fw [];simp[afo,eI,q2,rr'];refine⟨?_, ?_⟩
 ·exact⟨c,g,⟨rfl,rfl⟩,⟨by omega,by omega⟩,by omega,by omega⟩
 refine aa.le (tC (x:=x) (m:=m+1) (c:=min (c+g) dV) (v:=out.length+1) (aC:=au (out++[(t:Int)])) (l:=[]) (bn:=N+4000) c9 zV LM ik (by omega) ?_ ?_ ?_ ?_) ?_
 ·simp
 ·simp[eI]
 ·simp[ik]
 ·simp[eI]
 apply aa.ai aq fw [4];simp[afp];apply aa.ret;simp[dI,eI];rfl
def alk{b a:Nat}{x:Input}{s:ES}{t:Nat}{N:Nat}(hN:∀r,N<=r->f0 r=none)(hb:f0 b=some (eI x s.dC s.aA a s.out.length))(ha:f0 a=some (.bm s.out.length 3 1 (au s.out)))(ik:a≠b)
  (hs:BV x s) (hc:qW x s 2 t):
  ce ap 268 [.ptr b 0,.v (ti t)] f0 ⟨True,.v (.bool true),b8 f0 b (eI x (s.dC+1) (min (s.aA+eL x s.dC) dV) a s.out.length)⟩:=by
 have aq:=aaj;refine alo.Ie hN (by simp) λc9=>?_;have zV:b<N:=(c9 b _ hb).1;have LM:a<N:=(c9 a _ ha).1;have hba:b≠a:=λe=>ik e.symm;have nb:∀k,b≠N+k:=λk=>by omega
 have na:∀k,a≠N+k:=λk=>by omega
 obtain⟨m,out,c⟩:=s;obtain⟨h1,T5,h3,h4,h5⟩:=hs;have h2:out.length<=100000000:=uF T5 (by omega);simp only[qW,cM]at*
 have hI:dV=1099511627776:=rfl;rw[bX (by omega)]at hc;obtain⟨q1,rfl,q3,q4⟩:=hc;have BT:eL x m=(x.ah.getD m default).delete:=rfl;obtain⟨⟨kd,rd,dl⟩,ec⟩:=aY (x.ah.getD m default);rw[ec]at BT;simp only at BT;rw[BT]at q3 q4;rw[BT];have ecc:x.ah[m]?.getD default=⟨kd,rd,dl⟩:=ec;have ecm:x.ah[m]'q1=⟨kd,rd,dl⟩:=by rw[<-ecc,mM q1];rfl
 have q5:¬(1099511627776:Int)<=dl:=by omega
 simp;apply aa.ai aq fw [0,1];simp[T7];apply aa.uG aq fw (rs:=A6) pV (by kernel_rfl) [0,1,5,6];simp[A6,OB (x:=x) (m:=m) (c:=c) (a:=a) (v:=out.length),hb,q1,ecm,bB.enc];refine aa.le (Le.iy (l1:=[]) (l:=[(0,.ptr b 0),(1,.v (ti 0)),(5,.v (.box [ti kd,.sl (au rd),ti dl])),(6,.v (.bool true))]) (bn:=N+1000) c9 ?_ ?_ ?_ ?_ ?_) ?_
 ·omega
 ·simp
 ·simp[cY];omega
 ·simp[kp,kq]
 ·simp[hb,eI,nb,vq];exact j8 (l:=[]) c9 (by omega) (by simp)
 apply aa.seq;refine aa.bL aq fw [(0,.ptr b 0),(5,.v (.box [ti kd,.sl (au rd),ti dl])),(22,.v (.bool false))] ?_ ?_
 ·simp[Gs,q5]
 refine aa.cond rfl (λaS=>by cases aS) (λaS=>?_);apply aa.skip;simp;have w1:IntKind.i64.wrap ((m:Int)+1)=((m+1:Nat):Int):=by rw[av (by omega)];omega
 apply aa.ai aq fw [0,5];simp[afq,hb,eI,w1];refine aa.le (tC (x:=x) (m:=m+1) (c:=c) (v:=out.length) (aC:=au (out)) (l:=[(0,.ptr b 0),(5,.v (.box [ti kd,.sl (au rd),ti dl]))]) (bn:=N+2000) c9 zV LM ik (by omega) ?_ ?_ ?_ ?_) ?_
 ·simp
 ·simp[eI]
 ·simp[ik,ha]
 ·simp[eI]
 apply aa.ai aq fw [];simp[afr,eI];refine⟨?_, ?_⟩
 ·exact⟨c,dl,⟨rfl,rfl⟩,⟨by omega,by omega⟩,by omega,by omega⟩
 refine aa.le (tC (x:=x) (m:=m+1) (c:=min (c+dl) dV) (v:=out.length) (aC:=au (out)) (l:=[]) (bn:=N+4000) c9 zV LM ik (by omega) ?_ ?_ ?_ ?_) ?_
 ·simp
 ·simp[eI]
 ·simp[ik,ha]
 ·simp[eI]
 apply aa.ai aq fw [4];simp[afs];apply aa.ret;simp[dI,eI];show b8 (b8 f0 a _) b _=_;rw[qY ha]
def alp{b a:Nat}{x:Input}{s:ES}{t:Nat}{N:Nat}(hN:∀r,N<=r->f0 r=none)(hb:f0 b=some (eI x s.dC s.aA a s.out.length))(ha:f0 a=some (.bm s.out.length 3 1 (au s.out)))(ik:a≠b)
  (hs:BV x s) (hc:qW x s 3 t):
  ce ap 269 [.ptr b 0,.v (ti t)] f0 ⟨True,.v (.bool true),b8 (b8 f0 a (.bm (s.out.length+1) 3 1 (au (s.out++[(t:Int)])))) b (eI x s.dC (min (s.aA+f7 x t) dV) a (s.out.length+1))⟩:=by
 have aq:=aaj;refine alq.Ie hN (by simp) λc9=>?_;have zV:b<N:=(c9 b _ hb).1;have LM:a<N:=(c9 a _ ha).1;have hba:b≠a:=λe=>ik e.symm;have nb:∀k,b≠N+k:=λk=>by omega
 have na:∀k,a≠N+k:=λk=>by omega
 obtain⟨m,out,c⟩:=s;obtain⟨h1,T5,h3,h4,h5⟩:=hs;have h2:out.length<=100000000:=uF T5 (by omega);simp only[qW,cM]at*
 have hI:dV=1099511627776:=rfl;rw[bX (by omega),bX (by omega)]at hc;obtain⟨q2,q3,q4⟩:=hc;have rr:=bA q2;have BT:f7 x t=x.insert.getD t default:=rfl;obtain⟨g,hg⟩:=aY (f7 x t);rw[hg]at BT q3 q4;rw[<-BT]at rr;rw[hg];have rr':DM.rowAt (au x.insert) (t:Int)=[ti g]:=rr;have q6:¬(x.insert.length:Int)<=t:=by omega
 have q7:¬(t:Int)<0:=by omega
 simp;apply aa.ai aq fw [0,1];simp[T8];apply aa.seq;refine aa.bL aq fw [(0,.ptr b 0),(1,.v (ti t)),(16,.v (.bool false))] ?_ ?_
 ·simp[LO,hb,eI,q6,q7]
 refine aa.cond rfl (λaS=>by cases aS) (λaS=>?_);apply aa.skip;simp;apply aa.uG aq fw (rs:=OD) pV (by kernel_rfl) [0,1];simp[OD,A4 (x:=x) (m:=m) (c:=c) (v:=out.length) (l:=out) (a:=a),ik,h2,hb,ha];rw[fJ,fJ];refine aa.le (tC (x:=x) (m:=m) (c:=c) (v:=out.length+1) (aC:=au (out++[(t:Int)])) (l:=[(0,.ptr b 0),(1,.v (ti t))]) (bn:=N+3000) c9 zV LM ik (by omega) ?_ ?_ ?_ ?_) ?_
 ·simp
 ·simp[eI]
 ·simp[ik,ha]
 ·simp[eI]
 apply aa.ai aq fw [];simp[aft,eI,q2,rr'];refine⟨?_, ?_⟩
 ·exact⟨c,g,⟨rfl,rfl⟩,⟨by omega,by omega⟩,by omega,by omega⟩
 refine aa.le (tC (x:=x) (m:=m) (c:=min (c+g) dV) (v:=out.length+1) (aC:=au (out++[(t:Int)])) (l:=[]) (bn:=N+4000) c9 zV LM ik (by omega) ?_ ?_ ?_ ?_) ?_
 ·simp
 ·simp[eI]
 ·simp[ik,ha]
 ·simp[eI]
 apply aa.ai aq fw [4];simp[afu];apply aa.ret;simp[dI,eI];rfl
def alr{b a:Nat}{x:Input}{s:ES}{t:Nat}{N:Nat}(hN:∀r,N<=r->f0 r=none)(hb:f0 b=some (eI x s.dC s.aA a s.out.length))(ha:f0 a=some (.bm s.out.length 3 1 (au s.out)))(ik:a≠b)
  (hs:BV x s) (hc:qW x s 4 t):
  ce ap 270 [.ptr b 0,.v (ti t)] f0 ⟨True,.v (.bool true),b8 (b8 f0 a (.bm (s.out.length+2) 3 1 (au (s.out++[(x.ah.getD (s.dC+1) default).kind,(x.ah.getD s.dC default).kind])))) b (eI x (s.dC+2) (min (s.aA+x.swap) dV) a (s.out.length+2))⟩:=by
 have aq:=aaj;refine als.Ie hN (by simp) λc9=>?_;have zV:b<N:=(c9 b _ hb).1;have LM:a<N:=(c9 a _ ha).1;have hba:b≠a:=λe=>ik e.symm;have nb:∀k,b≠N+k:=λk=>by omega
 have na:∀k,a≠N+k:=λk=>by omega
 obtain⟨m,out,c⟩:=s;obtain⟨h1,T5,h3,h4,h5⟩:=hs;have h2:out.length<=100000000:=uF T5 (by omega);simp only[qW,cM]at*
 have hI:dV=1099511627776:=rfl;rw[bX (by omega),bX (by omega),bX (by omega)]at hc;obtain⟨rfl,q2,q3,q4⟩:=hc;have q1:=jj q2;have q1':m<x.ah.length:=by omega
 have r1:=cx q1;have r2:=cx q1';obtain⟨⟨k1,rd1,dl1⟩,ec1⟩:=aY (x.ah.getD m default);obtain⟨⟨k2,rd2,dl2⟩,ec2⟩:=aY (x.ah.getD (m+1) default);rw[ec2]at r1;rw[ec1]at r2;rw[ec1,ec2];have r1':DM.rowAt (bd x.ah) ((m:Int)+1)=(⟨k2,rd2,dl2⟩:bB).enc:=by simpa using r1
 obtain⟨xt,tA⟩:=aY x.enc;have ov:T.agg [.sl (bd x.ah),.sl (au x.insert),ti x.swap]=xt:=tA;have Ox:xd xt=x:=by rw[<-tA];simp
 have oL:∃(x2:Input) (m2:Nat),(xt=x2.enc/\(m:Int)=m2)/\m2<=1000000/\x2.ah.length<=1000000:=⟨x,m,⟨tA.symm,rfl⟩,h1,h5⟩;have w1:IntKind.i64.wrap ((m:Int)+1)=(m:Int)+1:=av (by omega);have w2:IntKind.i64.wrap ((m:Int)+2)=((m+2:Nat):Int):=by rw[av (by omega)];omega
 have q5:(m:Int)+1<x.ah.length:=by omega
 have q6:0<=(m:Int)+1:=by omega
 simp;apply aa.ai aq fw [0,1];simp[T9];apply aa.seq;refine aa.bL aq fw [(0,.ptr b 0),(18,.v (.bool false))] ?_ ?_
 ·simp[LP,hb,eI,ov,Ox,q2];exact oL
 refine aa.cond rfl (λaS=>by cases aS) (λaS=>?_);apply aa.skip;simp;refine aa.fR aq fw (rs:=OE) (.inr ⟨_,pV⟩) (by kernel_rfl) [0] ?_;have jZ:f0 b=some (.box [.v (.sl (bd x.ah)),.v (.sl (au x.insert)),.v (ti x.swap),.v (ti m),.aW a out.length,.v (ti c)]):=hb;have hk:=A4 (f:=dA [] f0) (t:=k2) (x:=x) (m:=m) (c:=c) (v:=out.length) (l:=out) (a:=a) hb ha ik;simp[OE,hk,h2,jZ,w1,r1',q5,q6,bB.enc];rw[fJ,fJ];refine aa.le (tC (x:=x) (m:=m) (c:=c) (v:=out.length+1) (aC:=au (out++[k2])) (l:=[(0,.ptr b 0)]) (bn:=N+3000) c9 zV LM ik (by omega) ?_ ?_ ?_ ?_) ?_
 ·simp
 ·simp[eI]
 ·simp[ik,ha]
 ·simp[eI]
 have Eu:dA [(b,eI x m c a (out.length+1)),(a,.bm (out.length+1) 3 1 (au (out++[k2])))] f0 b=some (.box [.v (.sl (bd x.ah)),.v (.sl (au x.insert)),.v (ti x.swap),.v (ti m),.aW a (out.length+1),.v (ti c)]):=by simp[eI]
 have hk:=A4 (f:=dA [(b,eI x m c a (out.length+1)),(a,.bm (out.length+1) 3 1 (au (out++[k2])))] f0) (t:=k1) (x:=x) (m:=m) (c:=c) (v:=out.length+1) (l:=out++[k2]) (a:=a) (b:=b) (by simp) (by simp[ik]) ik;obtain⟨F,hF⟩:=aY (dA [(b,eI x m c a (out.length+1)),(a,.bm (out.length+1) 3 1 (au (out++[k2])))] f0);rw[hF]at Eu hk;rw[hF];have atC:out.length+1<=100000000:=by omega
 refine aa.fR aq fw (rs:=OF) (.inr ⟨_,pV⟩) (by kernel_rfl) [0] ?_;simp[OF,hk,atC,Eu,r2,q1',bB.enc];rw[<-hF,fJ,fJ];refine aa.le (tC (x:=x) (m:=m) (c:=c) (v:=out.length+2) (aC:=au (out++[k2,k1])) (l:=[(0,.ptr b 0)]) (bn:=N+5000) c9 zV LM ik (by omega) ?_ ?_ ?_ ?_) ?_
 ·simp
 ·simp[eI]
 ·simp[ik,ha]
 ·simp[eI]
 apply aa.ai aq fw [0];simp[afv,eI,w2];refine aa.le (tC (x:=x) (m:=m+2) (c:=c) (v:=out.length+2) (aC:=au (out++[k2,k1])) (l:=[(0,.ptr b 0)]) (bn:=N+6000) c9 zV LM ik (by omega) ?_ ?_ ?_ ?_) ?_
 ·simp
 ·simp[eI]
 ·simp[ik,ha]
 ·simp[eI]
 apply aa.ai aq fw [];simp[afw,eI];refine⟨?_, ?_⟩
 ·exact⟨c,x.swap,⟨rfl,rfl⟩,⟨by omega,by omega⟩,by omega,by omega⟩
 refine aa.le (tC (x:=x) (m:=m+2) (c:=min (c+x.swap) dV) (v:=out.length+2) (aC:=au (out++[k2,k1])) (l:=[]) (bn:=N+7000) c9 zV LM ik (by omega) ?_ ?_ ?_ ?_) ?_
 ·simp
 ·simp[eI]
 ·simp[ik,ha]
 ·simp[eI]
 apply aa.ai aq fw [4];simp[afx];apply aa.ret;simp[dI,eI];rfl
end
def fu(ab:bS)(b:Nat):Input×ES×Nat:=
 match ab b with
 |some (.box [.v (.sl c),.v (.sl i),.v (.int .i64 w),.v (.int .i64 m),.aW a _,.v (.int .i64 q)])=>
  (⟨kR c,eM i,w⟩,⟨m.toNat,(match ab a with|some (.bm _ _ _ aC)=>eM aC|_=>[]),q⟩,a)
 |_=>(⟨[],[],0⟩,⟨0,[],0⟩,0)
def OG{ab:bS}{b a:Nat}{x:Input}{s:ES}(h:ab b=some (eI x s.dC s.aA a s.out.length))(ha:ab a=some (nV s)):fu ab b=(x,s,a):=by
 simp only[fu,h,eI,ha,nV];simp
def kE(k:Nat):bW->bS->iw
 |[.ptr b 0,.v (.int .i64 t)],ab=>
  ⟨0<=t/\ab b=some (eI (fu ab b).1 (fu ab b).2.1.dC (fu ab b).2.1.aA (fu ab b).2.2 (fu ab b).2.1.out.length)/\ab (fu ab b).2.2=some (nV (fu ab b).2.1)/\(fu ab b).2.2≠b/\BV (fu ab b).1 (fu ab b).2.1/\qW (fu ab b).1 (fu ab b).2.1 k t.toNat,
   .v (.bool true),b8 (b8 ab (fu ab b).2.2 (nV (cj (fu ab b).1 (fu ab b).2.1 k t.toNat))) b (eI (fu ab b).1 (cj (fu ab b).1 (fu ab b).2.1 k t.toNat).dC (cj (fu ab b).1 (fu ab b).2.1 k t.toNat).aA (fu ab b).2.2 (cj (fu ab b).1 (fu ab b).2.1 k t.toNat).out.length)⟩
 |_,ab=>⟨False,.undef,ab⟩
def adW{ab:bS}{b a k t:Nat}{x:Input}{s:ES}(h:ab b=some (eI x s.dC s.aA a s.out.length))(ha:ab a=some (nV s))(ik:a≠b):
  kE k [.ptr b 0,.v (ti t)] ab=⟨BV x s/\qW x s k t,.v (.bool true),b8 (b8 ab a (nV (cj x s k t))) b (eI x (cj x s k t).dC (cj x s k t).aA a (cj x s k t).out.length)⟩:=by
 simp only[kE,OG h ha,h,ha,gJ,iw.mk.injEq,Gr,If,eq_iff_iff];simp[ik]
def zW{f k:Nat}(H:∀{f0:bS} {b a:Nat} {x:Input} {s:ES} {t:Nat} {N:Nat},(∀r,N<=r->f0 r=none)->f0 b=some (eI x s.dC s.aA a s.out.length)->f0 a=some (.bm s.out.length 3 1 (au s.out))->a≠b->BV x s->qW x s k t->
  ce ap f [.ptr b 0,.v (ti t)] f0 ⟨True,.v (.bool true),b8 (b8 f0 a (nV (cj x s k t))) b (eI x (cj x s k t).dC (cj x s k t).aA a (cj x s k t).out.length)⟩):
  ∀args ab,(kE k args ab).ok->(∀N,(∀r,N<=r->ab r=none)->ce ap f args ab (kE k args ab))/\∀r,ab r=none->(kE k args ab).ab r=none:=by
 intro args ab h;unfold kE at h⊢;split at h
 ·rename_i aM b t;obtain⟨h1,hb,ha,ik,hs,hc⟩:=h;obtain⟨t,rfl⟩:=jE h1;refine⟨λN hN=>?_,λr hr=>?_⟩
  ·exact ce.of (H hN hb ha ik hs hc) rfl rfl
  ·simp only;have T4:r≠b:=λe=>by rw[e,hb]at hr;cases hr
   have sD:r≠(fu ab b).2.2:=λe=>by rw[e,ha]at hr;cases hr
   rw[A3 T4,A3 sD];exact hr
 ·exact h.elim
def alu:aw ap (bz [(267,fl (kE 1)),(268,fl (kE 2)),(269,fl (kE 3)),(270,fl (kE 4))]):=by
 refine aw.il (aw.il (aw.il (aw.il aw.nil ?_) ?_) ?_) ?_
 ·refine zW λ{f0 b a x s t N} hN hb ha ik hs hc=>?_;have:=alr hN hb ha ik hs hc;simpa [cj,nV]using this
 ·refine zW λ{f0 b a x s t N} hN hb ha ik hs hc=>?_;have:=alp hN hb ha ik hs hc;simpa [cj,nV]using this
 ·refine zW λ{f0 b a x s t N} hN hb ha ik hs hc=>?_;have:=alk hN hb ha ik hs hc;have e:b8 f0 a (nV s)=f0:=qY ha;have e2:cj x s 2 t=⟨s.dC+1,s.out,min (s.aA+eL x s.dC) dV⟩:=rfl;have e3:nV (cj x s 2 t)=nV s:=rfl;rw[e3,e,e2];exact this
 ·refine zW λ{f0 b a x s t N} hN hb ha ik hs hc=>?_;have:=ali hN hb ha ik hs hc;simpa [cj,nV]using this
def stE(x:Input)(s:ES)(o:Int×Int):ES:=cj x s o.1.toNat o.2.toNat
def sX(x:Input)(l:List (Int×Int)):ES:=l.foldl (stE x) ⟨0,[],0⟩
def Ri(x:Input){l:List (Int×Int)}{j:Nat}(h:j<l.length):sX x (l.take (j+1))=stE x (sX x (l.take j)) (l.getD j default):=by
 unfold sX;rw[Tg,mM h,ZcP,Ec];simp[List.getD,h]
structure tD(x:Input)(l:List (Int×Int)):Prop where
 st:∀j,j<=l.length->BV x (sX x (l.take j))
 kind:∀o∈l,1<=o.1/\o.1<=4/\0<=o.2
 can:∀j,j<l.length->qW x (sX x (l.take j)) (l.getD j default).1.toNat (l.getD j default).2.toNat
 dM:(sX x l).dC=x.ah.length
 len:l.length<=1000000000
def Ua(x:Input)(l:List (Int×Int)):T:=.box [.sl (bd x.ah),.sl (au x.insert),ti x.swap,ti (sX x l).dC,.sl (au (sX x l).out),ti (sX x l).aA]
def atD(x:Input)(l:List (Int×Int))(h:tD x l):aJ ap 103 [x.enc,.sl (ca l)] (.dh [Ua x l,ti 0]):=by
 have aq:=alu;have ct:=h.len;refine alv.ok (by simp) (aH ?_);simp[Input.enc];apply aa.ai aq fw [1,2];simp[Ub];apply aa.ai aq fw [1,2,6];simp[Uc];refine aa.lk (o:=[(1060,.box [.v (.sl (bd x.ah)),.v (.sl (au x.insert)),.v (ti x.swap),.v (ti 0),.aZ,.v (ti 0)])]) (l:=[(1,.v (.sl (ca l))),(2,.v (.box [.sl (bd x.ah),.sl (au x.insert),ti x.swap])),(6,.ptr 1060 0)]) (bn:=1100) (by simp) ?_;refine aa.le (Le.qZ 1060 4 3 (sz:=1) (cs:=[.v (.sl (bd x.ah)),.v (.sl (au x.insert)),.v (ti x.swap),.v (ti 0),.aZ,.v (ti 0)]) (by omega) (by simp) (by simp)) ?_;rw[fb,fb];apply aa.sq aq fw [2,6,12,13,14];simp[Ud];apply aa.block;refine aa.loop (λi:Nat=>⟨DM.look [(2,.v (.box [.sl (bd x.ah),.sl (au x.insert),ti x.swap])),(6,.ptr 1060 0),(12,.v (.sl (ca l))),(13,.v (ti l.length)),(14,.v (ti i))],cR [(1060,eI x (sX x (l.take i)).dC (sX x (l.take i)).aA 1100 (sX x (l.take i)).out.length),(1100,nV (sX x (l.take i)))],2000,1000,[]⟩)
  (λi=>i<=l.length) (λi=>l.length-i) 0 (Le.aL ?_ ?_ ?_ ?_) (by simp) (λi hi=>?_)
 ·simp
 ·simp
 ·simp[sX,eI,nV,au]
 ·simp[eI]
 apply aa.ai aq fw [2,6,12,13,14,15];simp[Ue];apply aa.seq;refine aa.cond rfl (λaS=>?_) (λaS=>?_)
 ·simp at aS;apply aa.skip;simp;have gf:=EX aS;have iO:=h.st i (by omega);have tE:=h.can i aS;have gh:=Ri x aS;obtain⟨mr,hk4,ht0⟩:=h.kind (l.getD i default) (by rw[List.getD,mM aS];exact Lc aS);obtain⟨⟨k,t⟩,ho⟩:=aY (l.getD i default);rw[ho]at gf tE gh mr hk4 ht0;simp only at tE mr hk4 ht0;obtain⟨t,rfl⟩:=jE ht0;simp only[stE,gJ]at gh tE;obtain⟨s,hs⟩:=aY (sX x (l.take i));rw[hs]at iO tE gh;rw[hs];apply aa.seq;apply aa.block;apply aa.ai aq fw [2,6,8,12,13,14];simp[Uf,gf,aS];refine aa.le (Le.aL (o:=[(1060,eI x s.dC s.aA 1100 s.out.length),(1100,nV s)]) (l:=[(2,.v (.box [.sl (bd x.ah),.sl (au x.insert),ti x.swap])),(6,.ptr 1060 0),(8,.v (.box [ti k,ti t])),(12,.v (.sl (ca l))),(13,.v (ti l.length)),(14,.v (ti i))]) (bn:=3000) ?_ ?_ ?_ ?_) ?_
  ·simp
  ·simp
  ·simp[eI,nV]
  ·simp[eI]
  obtain⟨s',LQ⟩:=aY (cj x s k.toNat t);rw[LQ]at gh;have vr:k=1\/k=2\/k=3\/k=4:=by omega
  refine aa.xj aq fw [(2,.v (.box [.sl (bd x.ah),.sl (au x.insert),ti x.swap])),(6,.ptr 1060 0),(12,.v (.sl (ca l))),(13,.v (ti l.length)),(14,.v (ti i)),(36,.v (.bool false))] (cR [(1060,eI x s'.dC s'.aA 1100 s'.out.length),(1100,nV s'),(1060,eI x s.dC s.aA 1100 s.out.length),(1100,nV s)]) ?_ ?_
  ·obtain⟨F,hF⟩:=aY (cR [(1060,eI x s.dC s.aA 1100 s.out.length),(1100,nV s)]);have hb:F 1060=some (eI x s.dC s.aA 1100 s.out.length):=by rw[<-hF];simp
   have ha:F 1100=some (nV s):=by rw[<-hF];simp
   have hk:=λq=>adW (k:=q) (t:=t) hb ha (by omega);have vu:b8 (b8 F 1100 (nV s')) 1060 (eI x s'.dC s'.aA 1100 s'.out.length)=cR [(1060,eI x s'.dC s'.aA 1100 s'.out.length),(1100,nV s'),(1060,eI x s.dC s.aA 1100 s.out.length),(1100,nV s)]:=by rw[<-hF];rfl
   rw[hF];rcases vr with rfl|rfl|rfl|rfl
   ·have yz:cj x s 1 t=s':=LQ;have bN:qW x s 1 t:=tE;simp[lU,hk,yz,iO,bN,vu]
   ·have yz:cj x s 2 t=s':=LQ;have bN:qW x s 2 t:=tE;simp[lU,hk,yz,iO,bN,vu]
   ·have yz:cj x s 3 t=s':=LQ;have bN:qW x s 3 t:=tE;simp[lU,hk,yz,iO,bN,vu]
   ·have yz:cj x s 4 t=s':=LQ;have bN:qW x s 4 t:=tE;simp[lU,hk,yz,iO,bN,vu]
  refine aa.cond rfl (λaS=>by cases aS) (λaS=>?_);apply aa.skip;simp;apply aa.cZ aq fw [2,6,12,13,14];simp[Ug];rw[av (by omega)];refine⟨i+1,Le.aL ?_ ?_ ?_ ?_,by omega,by omega⟩
  ·simp
  ·simp
  ·simp[gh,eI,nV]
  ·simp[gh,eI]
 ·simp at aS;have sW:i=l.length:=by omega
  subst sW;apply aa.exit;simp;have fN:=h.dM;apply aa.seq;refine aa.bL aq fw [(6,.ptr 1060 0),(45,.v (.bool false))] ?_ ?_
  ·simp[LR,eI,fN]
  refine aa.cond rfl (λaS=>by cases aS) (λaS=>?_);apply aa.skip;simp;apply aa.ai aq fw [4,5];simp[OH];obtain⟨s,hs⟩:=aY (sX x l);simp only[Ua,hs];refine aa.le (Le.aL (o:=[(1060,.box [.v (.sl (bd x.ah)),.v (.sl (au x.insert)),.v (ti x.swap),.v (ti s.dC),.v (.sl (au s.out)),.v (ti s.aA)])]) (l:=[(4,.ptr 1060 0),(5,.v (ti 0))]) (bn:=3000) ?_ ?_ ?_ ?_) ?_
  ·simp
  ·simp
  ·simp[eI,nV]
  ·simp[eI]
  refine aa.lk (o:=[]) (l:=[(4,.v (.box [.sl (bd x.ah),.sl (au x.insert),ti x.swap,ti s.dC,.sl (au s.out),ti s.aA])),(5,.v (ti 0))]) (bn:=4000) (by simp) ?_;apply aa.ret;simp[xk]
abbrev atE:DM.Spec:=bp (λts=>∃(x:Input) (l:List (Int×Int)),ts=[x.enc,.sl (ca l)]/\tD x l) (fun|[x,.sl l]=>.dh [Ua (xd x) (v6 l),ti 0]|_=>.bool false) false
def alw:aw ap (bz [(103,atE)]):=by
 refine aw.cons aw.nil ?_;rintro ts ⟨x,l,rfl,h⟩;exact⟨by simpa using atD x l h,λh=>by cases h⟩
def alx(x:Input)(l:List (Int×Int))(h:tD x l):aJ ap 49 [x.enc,.sl (ca l)] (.dh [.sl (au (sX x l).out),ti 0]):=by
 have aq:=alw;refine alA.ok (by simp) (aH ?_);obtain⟨xt,tA⟩:=aY x.enc;have ov:T.agg [.sl (bd x.ah),.sl (au x.insert),ti x.swap]=xt:=tA;have Ox:xd xt=x:=by rw[<-tA];simp
 have oL:∃(x2:Input) (l2:List (Int×Int)),(xt=x2.enc/\ca l=ca l2)/\tD x2 l2:=⟨x,l,⟨tA.symm,rfl⟩,h⟩
 skip
 simp[Input.enc];apply aa.ai aq fw [1,2];simp[Uh];apply aa.ai aq fw [6,7];simp[LS,ov,Ox,Ua];refine⟨oL, ?_⟩;apply aa.sq aq fw [6,7,15];simp[LU];refine aa.cond rfl (λaS=>by cases aS) (λaS=>?_);apply aa.skip;simp;apply aa.ai aq fw [4,5];simp[Ui];apply aa.ret;simp[A7]
def atF(x:Input)(l:List (Int×Int))(h:tD x l):aJ ap 50 [x.enc,.sl (ca l)] (.dh [ti (sX x l).aA,ti 0]):=by
 have aq:=alw;refine alB.ok (by simp) (aH ?_);obtain⟨xt,tA⟩:=aY x.enc;have ov:T.agg [.sl (bd x.ah),.sl (au x.insert),ti x.swap]=xt:=tA;have Ox:xd xt=x:=by rw[<-tA];simp
 have oL:∃(x2:Input) (l2:List (Int×Int)),(xt=x2.enc/\ca l=ca l2)/\tD x2 l2:=⟨x,l,⟨tA.symm,rfl⟩,h⟩
 skip
 simp[Input.enc];apply aa.ai aq fw [1,2];simp[Uj];apply aa.ai aq fw [6,7];simp[LV,ov,Ox,Ua];refine⟨oL, ?_⟩;apply aa.sq aq fw [6,7,15];simp[LW];refine aa.cond rfl (λaS=>by cases aS) (λaS=>?_);apply aa.skip;simp;apply aa.ai aq fw [4,5];simp[Uk];apply aa.ret;simp[A8]
section
variable{α:Type}{ts:aG}
def aeQ:Ty:=.int .i64
def SO:maxLen=9223372036854775807:=by decide
def aa3{enc:α->aG}{aC:List (aG)}(h:∀r∈aC,∃x,r=enc x):∃l:List α,aC=l.map enc:=by
 induction aC with
 |nil=>exact⟨[],rfl⟩
 |cons r aC ih=>
  obtain⟨x,rfl⟩:=h r (Ei ..);obtain⟨l,rfl⟩:=ih λr hr=>h r (Ej _ hr);exact⟨x::l,rfl⟩
def ml(h:Ty.CD (.int .i64) ts):∃x,ts=[ti x]:=by
 simp only[Ty.CD]at h;obtain⟨x,rfl,_⟩:=h;exact⟨x,rfl⟩
def yf{enc:α->aG}{e:Ty}(he:∀r,Ty.CD e r->∃x,r=enc x)(h:Ty.CD (.slice e) ts):∃l:List α,ts=[.sl (l.map enc)]/\l.length<=9223372036854775807:=by
 simp only[Ty.CD]at h;obtain⟨aC,rfl,hl,hr⟩:=h;obtain⟨l,rfl⟩:=aa3 λr nl=>he r (hr r nl);rw[SO,Rd]at hl;exact⟨l,rfl,hl⟩
def all_cons{t:Ty}{yW:List Ty}(h:Ty.kZ (t::yW) ts):∃a b,ts=a++b/\t.CD a/\Ty.kZ yW b:=by simpa only[Ty.kZ]using h
def all_nil(h:Ty.kZ [] ts):ts=[]:=by simpa only[Ty.kZ]using h
def XB{fs:List Ty}(h:Ty.CD (.seq fs) ts):Ty.kZ fs ts:=by simpa only[Ty.CD]using h
def aeR:Ty:=.seq [.int .i64,.slice aeQ,.int .i64]
def HM:Ty:=.seq [.slice aeR,.slice aeQ,.int .i64]
def ajw(h:aeR.CD ts):∃r:bB,ts=r.enc:=by
 obtain⟨_,_,rfl,h1,h⟩:=all_cons (XB h);obtain⟨_,_,rfl,h2,h⟩:=all_cons h;obtain⟨_,_,rfl,h3,h⟩:=all_cons h;obtain rfl:=all_nil h;obtain⟨a,rfl⟩:=ml h1;obtain⟨l,rfl,hl⟩:=yf (λr=>ml) h2;obtain⟨c,rfl⟩:=ml h3;exact⟨⟨a,l,c⟩,rfl⟩
def XC{x:T}(h:HM.arg x):∃l:Input,x=l.enc/\l.ah.length<=9223372036854775807/\l.insert.length<=9223372036854775807:=by
 unfold HM Ty.arg at h;obtain⟨ts,rfl,h⟩:=h;obtain⟨_,_,rfl,h1,h⟩:=all_cons h;obtain⟨_,_,rfl,h2,h⟩:=all_cons h;obtain⟨_,_,rfl,h3,h⟩:=all_cons h;obtain rfl:=all_nil h;obtain⟨l,rfl,hl⟩:=yf (λr=>ajw) h1;obtain⟨f,rfl,hf⟩:=yf (λr=>ml) h2;obtain⟨a,rfl⟩:=ml h3;exact⟨⟨l,f,a⟩,rfl,hl,hf⟩
end
end Go.Proofs
