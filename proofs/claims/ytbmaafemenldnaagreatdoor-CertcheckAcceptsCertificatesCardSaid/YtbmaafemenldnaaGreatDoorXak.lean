/- Part. Conditions: none. -/
import Derived.Test.YtbmaafemenldnaaGreatDoorXaj
import Derived.Deep.Strs
import Derived.Test.YtbmaafemenldnaaGreatDoorCards
import Derived.Test.YtbmaafemenldnaaGreatDoorTie
import Derived.WalkKit
import Derived.ProofKit
import Derived.Deep.DeepHandedRow
import Derived.LaidMore
import Derived.Lib.LaidTab
set_option linter.all false
set_option maxRecDepth 20000
set_option maxHeartbeats 8000000
namespace Go.Proofs.It
open Go.DM Go.DM.iN
def Yf{n:ay}{l:aF}{A B:Nat}(h1:n.ae<=A)(h2:l.am<=B):aT.szB (toI n) l<=(2*B+1)*((A+1)*2^(A+1)):=by
 have e:(toI n).ae=n.ae:=rfl;unfold aT.szB aT.Lp aT.N4;rw[e];exact ZdG (by omega) (ZdG (by omega) (Zcs (by omega) (by omega)))
def Oa{n:ay}{l:aF}(hp:dS n l):aT.DY (toI n) l (aT.i7 (toI n) l)/\Az (aT.i7 (toI n) l)/\aT.qf (toI n)/\aT.wB l:=by
 have h1:=hp.nt;have h2:=hp.st;have h3:=hp.nr;have h4:=hp.na;have hn:aT.qf (toI n):=by
  refine⟨h1.1,by simp only[toI];omega,by simp only[toI,Rd];omega,λr hr=>?_⟩;obtain⟨q,hq,rfl⟩:=j3.1 hr;obtain⟨k1,k2⟩:=hp.aj q hq;unfold fa at k1;unfold fX at k2;unfold aT.me;simp only[toI,toR];omega
 have hl:aT.wB l:=by
  refine⟨h2.1,by omega,by omega,λa ha=>?_⟩;have:=hp.XE a ha;simp only[kA]at this;omega
 have ha:∀a∈l.aK,a.f<=a.t:=λa h=>(hp.XE a h).2.1;have CX:=aT.Di hn hl l.am.toNat (by omega);have e1:(toI n).ae=n.ae:=rfl;refine⟨⟨⟨hn,hl,ha, ?_⟩,rfl,rfl,λh s t a1 a2 a3 a4=>aT.MX hn hl ha a1 a2 a3 a4⟩,⟨⟨h1.1, ?_,h2.1, ?_,CX.1⟩,CX.ok hn hl⟩,hn,hl⟩
 ·have:=Yf (n:=n) (l:=l) (A:=14) (B:=11) (by omega) (by omega);omega
 ·show n.ae<=1000;omega
 ·show l.am<=1000;omega
def AA{nt st b:Int}{C D:ba}:∀{k:Nat},(∀i,i<k->C.getD i default=D.getD i default)->iH nt st b C k=iH nt st b D k
 |0,_=>rfl
 |k+1,h=>by
  rw[pi,pi,AA λi hi=>h i (by omega)];unfold HW;rw[h k (by omega)]
def KM(st:Int):∀k:Nat,aT.pre st k=pre st k
 |0=>rfl
 |k+1=>by simp only[aT.pre,pre,KM st k]
def Oc{n:ay}{l:aF}{c:aT.bI}(hp:dS n l)(F:aT.DY (toI n) l c)(hc:Az c){G:Nat}(hG:(G:Int)=b7 n.ae l.am):∀i,i<G->(uv c).getD i default=(Od (fM n l)).getD i default:=by
 intro i hi;have hs:=mn hp (mW hp);have u4:=hp.Ik.sm;have Kg:=hc.1;unfold aT.KG at Kg;rw[F.nn,F.st]at Kg;have e1:(toI n).ae=n.ae:=rfl;rw[e1]at Kg;have c9:(c.cells.length:Int)=G:=by rw[hG];exact Kg.2.2.2.2
 obtain⟨uT,hx⟩:=jW (i:=(i:Int)) u4 (by omega) (by omega);obtain⟨p,hpp⟩:=aY (mJ n.ae l.am (i:Int));rw[hpp]at uT hx;obtain⟨h,s,t⟩:=p;simp only at uT hx;have hi2:=uT;unfold br at hi2;obtain⟨S,rfl⟩:=jE (show 0<=s by omega);obtain⟨U,rfl⟩:=jE (show 0<=t by omega);have dj:=F.dj h S U (by omega) (show h<n.ae by omega) (by omega) (by omega);have cell:=wR hp hs F.nO F.lO dj uT;rw[mU (by omega),<-hx,gJ]at cell;have mZ:=KN (fM n l) (i:Int);rw[gJ]at mZ;rw[DS c i (by omega),mZ];unfold vd;rw[gJ,cell];have gG:=aT.MW (c:=c) (h:=h) (s:=S) (t:=U) (by omega) (by rw[F.nn];show h<n.ae;omega) (by omega) (by rw[F.st];omega);rw[F.nn,F.st]at gG;have ei:(aT.dO (toI n).ae l.am S U+h).toNat=i:=by
  rw[e1];have e2:aT.dO n.ae l.am S U=bP l.am S U*n.ae:=by
   unfold aT.dO bP;rw[gJ,KM]
  omega
 rw[gG,ei];show _=(c.cells.getD i aT.mc).aA;rw[List.getD,List.getD,mM (by omega)];rfl
def P7{n:ay}{x:Input}(hf:nT n x){c:aT.bI}(F:aT.DY (toI n) (aI x) c)(hc:Az c){G:Nat}(hG:(G:Int)=b7 n.ae (aI x).am):
  zB n (aI x) (kQ n (aI x) c (aI x).bj.length).1.aA (iH n.ae (aI x).am (kQ n (aI x) c (aI x).bj.length).1.aA (uv c) G)=true:=by
 have hp:=ve hf;obtain⟨l,hl⟩:=aY (aI x);rw[hl]at hp F hG⊢;have hs:=mn hp (mW hp);have hg:=wQ hp hs F;have hgs:=ij hp.nt hp.st;have ct:=hs.len;rw[AA (Oc hp F hc hG),<-hg];have aN:=hs.ok ((fM n l).getD (b7 n.ae l.am).toNat default) (bu (by omega));rw[Yg hp hG ⟨aN.1,aN.2.1⟩ (mW hp) λt=>KN _ t];unfold vd;simp
def ajP{n:ay}{x:Input}(hf:nT n x){c:aT.bI}(F:aT.DY (toI n) (aI x) c)(hc:Az c){t:Nat}(ht:t<(aI x).bj.length)(hfi:(aI x).bj.getD t default<1099511627776)
  (hv:(iS n (aI x) c t).aA<1099511627776) (he:kQ n (aI x) c (aI x).bj.length=(iS n (aI x) c t,(t:Int))):
  ∃d,EE n c n.start 0 t d/\eG n.aj n.start d=true/\d.sz<=69120/\pu x (dw n.aj d)/\ed x (dw n.aj d) 0 0<dV/\
   upF n x (Ip x (dw n.aj d) (x.ah.length+(dw n.aj d).length+1) 0 0) d=((iS n (aI x) c t).aA,true):=by
 have hp:=ve hf;have h6:=yi hf;have hgs:=ij hp.nt hp.st;obtain⟨G,hG⟩:=jE hgs.1;have py:=P7 hf F hc hG.symm;rw[he]at py;simp only at py;have iO:(aI x).am=2*x.ah.length+1:=rfl;have h3:=hf.2.2.2.1;have h8:=hf.2.1;obtain⟨d,f1,f2,f3,f4,f5⟩:=S1 hp h6 F ht hfi hv λd hd=>S2 hf py hd;have hz:=Yf (n:=n) (l:=aI x) (A:=8) (B:=7) (by omega) (by omega);have sZ:=qK n.aj d;obtain⟨mX,_⟩:=su hf;have hed:pu x (dw n.aj d):=ajQ h6 (by omega) λa ha=>by have:=uw hp d n.start f2 a ha;omega
 have arQ:ed x (dw n.aj d) 0 0<dV:=f5;refine⟨d,f1,f2,by omega,hed,arQ, ?_⟩;unfold upF;rw[abw hed arQ];simp only[f2,jB,mD,Gr];exact f4
abbrev Iq(nd:Int)(es:List HE):T:=.agg [ti nd,.sl (aT.bV es)]
def arR(nd:Int)(es:List HE)(hh:aT.J8 nd es)(h1:1<=nd)(hc:∀e∈es,e.aA<=1099511627776):aJ ap 90 [Iq nd es] (.bool true):=by
 have aq:=(aw.nil:aw ap (bz []));obtain⟨_,FF,ct,S3⟩:=hh;have e1:¬nd<1:=by omega
 have e2:¬1048576<nd:=by omega
 refine arS.ok (by simp) (aH ?_);simp;apply aa.ai aq fw [1];simp[abx];refine aa.lk (o:=[]) (l:=[(1,.v (.box [ti nd,.sl (aT.bV es)]))]) (bn:=1200) (by simp) ?_;apply aa.sq aq fw [1,13];simp[aby,e1,e2];refine aa.cond rfl (λaS=>by simp at aS) (λaS=>?_);apply aa.skip;simp;apply aa.sq aq fw [1,3];simp[abz];apply aa.block;refine aa.loop (λy:Nat=>⟨DM.look [(1,.v (.box [ti nd,.sl (aT.bV es)])),(3,.v (ti y))],cR [],2000,1000,[]⟩) (λy=>y<=es.length) (λy=>es.length-y) 0 (Le.aL (o:=[]) ?_ ?_ ?_ ?_) (by simp) (λy hy=>?_);iterate 4(·simp)
 apply aa.sq aq fw [1,3,18];simp[abA];refine aa.cond rfl (λaS=>?_) (λaS=>?_)
 ·have aS:y<es.length:=by simpa using aS
  apply aa.skip;simp;apply aa.seq;apply aa.block;have hk:=S3 _ (bu aS);have hco:=hc _ (bu aS);obtain⟨⟨eh,et,ec,e0,e5⟩,hE⟩:=aY (es.getD y default);have rr:=aT.oj aS;rw[hE]at rr hk hco;obtain⟨k1,k2,k3,k4,k5,k6⟩:=hk;simp only at k1 k2 k3 k4 k5 k6 hco;apply aa.ai aq fw [1,3,4];simp[abB,aS,rr,aT.eD.enc];refine aa.lk (o:=[]) (l:=[(1,.v (.box [ti nd,.sl (aT.bV es)])),(3,.v (ti y)),(4,.v (.box [ti eh,.sl (au et),ti ec,ti e0,ti e5]))]) (bn:=2500) (by simp) ?_;apply aa.sq aq fw [1,3,4,45];simp[abC,show ¬eh<0 by omega,show ¬nd<=eh by omega,show ¬ec<0 by omega,show ¬1099511627776<ec by omega];refine aa.cond rfl (λJE=>by simp at JE) (λJE=>?_);apply aa.skip;simp;apply aa.ai aq fw [1,3,4,5];simp[abD];apply aa.block;refine aa.loop (λz:Nat=>⟨DM.look [(1,.v (.box [ti nd,.sl (aT.bV es)])),(3,.v (ti y)),(4,.v (.box [ti eh,.sl (au et),ti ec,ti e0,ti e5])),(5,.v (ti z))],cR [],3000,1000,[]⟩) (λz=>z<=et.length) (λz=>et.length-z) 0 (Le.aL (o:=[]) ?_ ?_ ?_ ?_) (by simp) (λz hz=>?_);iterate 4(·simp)
  apply aa.sq aq fw [1,3,4,5,50];simp[abE];refine aa.cond rfl (λtg=>?_) (λtg=>?_)
  ·have tg:z<et.length:=by simpa using tg
   apply aa.skip;simp;apply aa.seq;apply aa.block;have hv:=k3 _ (bu tg);have ri:=bA tg;obtain⟨v,hvv⟩:=aY (et.getD z default);rw[hvv]at ri hv;apply aa.ai aq fw [1,3,4,5,68];simp[Yh,tg,ri,show ¬v<0 by omega,show ¬nd<=v by omega];refine aa.cond rfl (λKg=>by simp at Kg) (λKg=>?_);apply aa.skip;simp;apply aa.cZ aq fw [1,3,4,5];simp[Yi];rw[av (x:=(z:Int)+1) (by omega)];refine⟨z+1,Le.aL (o:=[]) ?_ ?_ ?_ ?_,by omega,by omega⟩;iterate 3(·simp)
   ·simp
  ·apply aa.exit;simp;apply aa.cZ aq fw [1,3];simp[Yj];rw[av (x:=(y:Int)+1) (by omega)];refine⟨y+1,Le.aL (o:=[]) ?_ ?_ ?_ ?_,by omega,by omega⟩;iterate 3(·simp)
   ·simp
 ·apply aa.exit;simp;apply aa.ai aq fw [2];simp[Yk];apply aa.ret;simp[dI]
def P8:∀ks:List Tr,(dT ks).length=ks.length
 |[]=>by simp[dT]
 |k::ks=>by simp[dT,P8 ks]
def P9:∀a b:List Tr,dT (a++b)=dT a++dT b
 |[],b=>by simp[dT]
 |k::a,b=>by simp[dT,P9 a b]
def Yl{ks:List Tr}{y:Nat}(h:y<ks.length):dT (ks.take (y+1))=dT (ks.take y)++[(ks.getD y default).enc]:=by
 rw[Tg,mM h,P9];simp[List.getD,h,dT]
def ajR{nd:Int}{es:List HE}{E:ba}{v k:Nat}(hv:v<E.length)(he:E.getD v default=k)(hk:k<es.length)(hl:(es.getD k default).bY.length<=1000000)(f:Int->Tr)
  (hf:∀t∈(es.getD k default).bY,aJ ap 92 [Iq nd es,.sl (au E),ti t] (.agg (f t).enc)):aJ ap 92 [Iq nd es,.sl (au E),ti v] (.agg (Tr.mk k ((es.getD k default).bY.map f)).enc):=by
 obtain⟨⟨eh,et,ec,e0,e5⟩,hE⟩:=aY (es.getD k default);have rr:=aT.oj hk;rw[hE]at rr hl hf⊢;simp only at hl hf⊢;have rv:=bA hv;rw[he]at rv;have aq:aw ap (bz [(92,bp (λts=>∃t∈et,ts=[Iq nd es,.sl (au E),ti t]) (fun|[_,_,.int _ t]=>.agg (f t).enc|_=>.bool false) false)]):=by
  refine aw.cons aw.nil ?_;rintro ts ⟨t,ht,rfl⟩;exact⟨hf t ht,λh=>by cases h⟩
 clear hf;obtain⟨ks,hks⟩:=aY (et.map f);have yE:ks.length=et.length:=by rw[<-hks,Rd]
 have hkg:∀y,y<et.length->ks.getD y default=f (et.getD y default):=λy h=>by rw[<-hks];simp[List.getD,h]
 rw[hks];refine arT.ok (by simp) (aH ?_);simp;apply aa.ai aq fw [1,2,3,6];simp[abF];refine aa.lk (o:=[(1007,.box [.v (ti 0),.aZ])]) (l:=[(1,.v (.sl (au E))),(2,.v (ti v)),(3,.v (.box [ti nd,.sl (aT.bV es)])),(6,.ptr 1007 0)]) (bn:=1200) (by simp) ?_;apply aa.ai aq fw [1,3,6,7];simp[abG,hv,rv];refine aa.lk (o:=[(1007,.box [.v (ti 0),.aZ]),(1208,.box [.v (ti k),.aZ])]) (l:=[(1,.v (.sl (au E))),(3,.v (.box [ti nd,.sl (aT.bV es)])),(6,.ptr 1007 0),(7,.ptr 1208 0)]) (bn:=1500) (by simp) ?_;apply aa.ai aq fw [1,3,6,7,8];simp[abH,hk,rr,aT.eD.enc];refine aa.lk (o:=[(1007,.box [.v (ti 0),.aZ]),(1208,.box [.v (ti k),.aZ])]) (l:=[(1,.v (.sl (au E))),(3,.v (.box [ti nd,.sl (aT.bV es)])),(6,.ptr 1007 0),(7,.ptr 1208 0),(8,.v (.sl (au et)))]) (bn:=1600) (by simp) ?_;by_cases hz:et=[]
 ·subst hz;obtain rfl:ks=[]:=by simpa using yE
  apply aa.sq aq fw [1,3,6,7,8,9];simp[Qa];apply aa.block;refine aa.loop (λy:Unit=>⟨DM.look [(1,.v (.sl (au E))),(3,.v (.box [ti nd,.sl (aT.bV es)])),(6,.ptr 1007 0),(7,.ptr 1208 0),(8,.v (.sl [])),(9,.v (ti 0))],cR [(1007,.box [.v (ti 0),.aZ]),(1208,.box [.v (ti k),.aZ])],2000,1000,[]⟩) (λy=>True) (λy=>0) () (Le.aL ?_ ?_ ?_ ?_) trivial (λy hy=>?_);iterate 3(·simp)
  ·simp[au]
  apply aa.sq aq fw [6,7,25];simp[Qb];refine aa.cond rfl (λaS=>by simp at aS) (λaS=>?_);apply aa.exit;simp;apply aa.ai aq fw [6];simp[Qc];apply aa.ret;simp[D0,Tr.enc,dT]
 ·refine aa.le (Le.qZ 1208 1 62 (sz:=2) (by omega) (cs:=[.v (ti k),.aZ]) (by simp) (by simp)) ?_;simp only[qy,ZcR,Zck];have hlm:∀y,(dT (ks.take y)).length<=y:=λy=>by
   rw[P8,Ou];omega
  apply aa.sq aq fw [1,3,6,7,8,9];simp[Qa];apply aa.block;refine aa.loop (λy:Nat=>⟨DM.look [(1,.v (.sl (au E))),(3,.v (.box [ti nd,.sl (aT.bV es)])),(6,.ptr 1007 0),(7,.ptr 1208 0),(8,.v (.sl (au et))),(9,.v (ti y))],cR [(1007,.box [.v (ti 0),.aZ]),(1208,.box [.v (ti k),.aW 1600 0]),(1600,.bm 0 62 2 (dT (ks.take y)))],2000,1000,[]⟩) (λy=>y<=et.length) (λy=>et.length-y) 0 (Le.aL ?_ ?_ ?_ ?_) (by simp) (λy hy=>?_)
  ·simp
  ·simp
  ·simp[dT]
  ·simp
  apply aa.sq aq fw [1,3,6,7,8,9,25];simp[Qb];refine aa.cond rfl (λaS=>?_) (λaS=>?_)
  ·have aS:y<et.length:=by simpa using aS
   apply aa.skip;simp;apply aa.seq;apply aa.block;have ri:=bA aS;have hm:=bu aS;have ht:=Yl (ks:=ks) (y:=y) (by omega);rw[hkg y aS]at ht;have ZW:=hlm y;obtain⟨t,hty⟩:=aY (et.getD y default);rw[hty]at ri hm ht;obtain⟨⟨an,ak⟩,yF⟩:=aY (f t);rw[yF]at ht;obtain⟨R,hR⟩:=aY (dT (ks.take y));rw[hR]at ht ZW⊢;apply aa.cZ aq fw [1,3,6,7,8,9];simp[abI,aS,ri,hm,yF,Tr.enc];refine⟨by unfold cw;omega, ?_⟩;apply aa.cZ aq fw [1,3,6,7,8,9];simp[abJ];rw[av (x:=(y:Int)+1) (by omega)];refine⟨y+1,Le.aL ?_ ?_ ?_ ?_,by omega,by omega⟩
   ·simp
   ·simp
   ·simp[ht,Tr.enc]
   ·simp
  ·have sZ:y=et.length:=by simp at aS;omega
   subst sZ;rw[<-yE,TZ];apply aa.exit;simp;apply aa.ai aq fw [6];simp[Qc];apply aa.ret;simp[D0,Tr.enc]
def arU(nd:Int)(es:List HE)(hh:aT.J8 nd es)(h1:1<=nd)(hc:∀e∈es,e.aA<=1099511627776)(root:Nat)(hr:(root:Int)<nd)(V:List VA)(E:ba)(hV:(V.length:Int)=nd)(h91:aJ ap 91 [Iq nd es] (.dh [.sl (aT.cU V),.sl (au E)]))
  (a e:Int) (ks:List Tr) (q:(1099511627776<=(V.getD root default).aA/\a=0/\ks=[]/\e=6)\/(¬1099511627776<=(V.getD root default).aA/\e=0/\aJ ap 92 [Iq nd es,.sl (au E),ti root] (.agg (Tr.mk a ks).enc))):
  aJ ap 34 [Iq nd es,ti root] (.dh [.agg [ti a,.sl (dT ks)],ti e]):=by
 have aq:aw ap (bz [(90,bp (λts=>ts=[Iq nd es]) (λ_=>.bool true) true),(91,bp (λts=>ts=[Iq nd es]) (λ_=>.dh [.sl (aT.cU V),.sl (au E)]) false)]):=by
  refine aw.cons (aw.cons aw.nil ?_) ?_
  ·rintro ts rfl;exact⟨h91,λh=>by cases h⟩
  ·rintro ts rfl;exact⟨arR nd es hh h1 hc,λ_=>rfl⟩
 have qU:root<V.length:=by omega
 have rv:=aT.jU qU;obtain⟨⟨vc,vz⟩,hv⟩:=aY (V.getD root default);rw[hv]at rv q;simp only at rv q;refine arV.ok (by simp) (aH ?_);simp;apply aa.ai aq fw [1,2,4,5];simp[abK];refine aa.lk (o:=[(1005,.box [.v (ti 0),.aZ])]) (l:=[(1,.v (ti root)),(2,.v (.box [ti nd,.sl (aT.bV es)])),(4,.ptr 1005 0),(5,.v (ti 0))]) (bn:=1200) (by simp) ?_;apply aa.sq aq fw [1,2,4,5,10];simp[abL];refine aa.cond rfl (λaS=>by simp at aS) (λaS=>?_);apply aa.skip;simp;apply aa.sq aq fw [1,2,4,5,19];simp[abM,show ¬(root:Int)<0 by omega,show ¬nd<=(root:Int)by omega];refine aa.cond rfl (λaS=>by simp at aS) (λaS=>?_);apply aa.skip;simp;apply aa.ai aq fw [1,2,4,5,6,7];simp[abN];refine aa.lk (o:=[(1005,.box [.v (ti 0),.aZ])]) (l:=[(1,.v (ti root)),(2,.v (.box [ti nd,.sl (aT.bV es)])),(4,.ptr 1005 0),(5,.v (ti 0)),(6,.v (.sl (aT.cU V))),(7,.v (.sl (au E)))]) (bn:=1500) (by simp) ?_;apply aa.sq aq fw [1,2,4,5,7,31];simp[abO,qU,rv];rcases q with⟨q,rfl,rfl,rfl⟩|⟨q,rfl,k⟩
 ·refine aa.cond rfl (λaS=>?_) (λaS=>eX aS (by simpa using q));apply aa.ai aq fw [4,5];simp[abP];apply aa.ret;simp[D6,dT]
 ·refine aa.cond rfl (λaS=>eX aS (by simpa using q)) (λaS=>?_);apply aa.skip;simp;have XO:aw ap (bz [(92,bp (λts=>ts=[Iq nd es,.sl (au E),ti root]) (λ_=>.agg (Tr.mk a ks).enc) false)]):=by
   refine aw.cons aw.nil ?_;rintro ts rfl;exact⟨k,λh=>by cases h⟩
  simp only[Tr.enc]at XO;apply aa.ai XO fw [4,5];simp[abQ];apply aa.ret;simp[D6]
def ajS(n:ay)(x:Input)(k:Int)(Ym:aJ ap 28 [n.enc,x.enc] (.bool false)):aJ ap 8 [n.enc,x.enc,ti k] (.bool true):=by
 have aq:aw ap (bz [(27,s8),(28,bp (λts=>ts=[n.enc,x.enc]) (λ_=>.bool false) true)]):=by
  refine aw.cons (aw.cons aw.nil ?_) ?_
  ·rintro ts rfl;exact⟨Ym,λ_=>rfl⟩
  ·rintro ts rfl;exact⟨aeY,λ_=>rfl⟩
 clear Ym;obtain⟨nt,nn,ns,aj⟩:=n;obtain⟨xc,xi,xs⟩:=x;simp only[ay.enc,Input.enc]at aq;refine aeZ.ok (by simp) (aH ?_);simp[ay.enc,Input.enc];apply aa.ai aq fw [3,4];simp[Qd];refine aa.lk (o:=[]) (l:=[(3,.v (.box [ti nt,ti nn,ti ns,.sl (aQ aj)])),(4,.v (.box [.sl (bd xc),.sl (au xi),ti xs]))]) (bn:=1200) (by simp) ?_;apply aa.sq aq fw [3,4,14];simp[Qe];refine aa.cond rfl (λaS=>by simp at aS) (λaS=>?_);apply aa.skip;simp;apply aa.sq aq fw [23];simp[Qf];refine aa.cond rfl (λaS=>?_) (λaS=>by simp at aS);apply aa.ai aq fw [6];simp[Qg];apply aa.ret;simp[dI]
def Yn(n:ay)(x:Input)(k b e dn r nd:Int)(w:Bool)(lE cE:T)(es:List HE)(o1 o2 o3 rk:List (aG))
  (Ym:aJ ap 28 [n.enc,x.enc] (.bool true)) (SV:aJ ap 29 [n.enc] (.bool w)) (h31:aJ ap 31 [x.enc] lE) (h30:aJ ap 30 [n.enc,lE] (Iq nd es)) (h33:aJ ap 33 [n.enc,lE] cE)
  (h32:aJ ap 32 [n.enc,x.enc,cE] (.dh [.agg [ti b,.sl o1,ti dn,.sl o2,.sl o3],ti e])) (h34:aJ ap 34 [Iq nd es,ti (nd-1)] (.dh [.agg [ti r,.sl rk],ti e]))
  (h35:∀q,(q=b\/q=k)/\e=0->aJ ap 35 [n.enc,x.enc,.agg [ti q,.sl o1,ti dn,.sl o2,.sl o3]] (.bool (decide (q=b)))) (Bg: -1000000<=nd/\nd<=1000000):aJ ap 8 [n.enc,x.enc,ti k] (.bool true):=by
 have aq:aw ap (bz [(27,s8),(28,bp (λts=>ts=[n.enc,x.enc]) (λ_=>.bool true) true),(29,bp (λts=>ts=[n.enc]) (λ_=>.bool w) true),(31,bp (λts=>ts=[x.enc]) (λ_=>lE) false),(30,bp (λts=>ts=[n.enc,lE]) (λ_=>Iq nd es) false),(33,bp (λts=>ts=[n.enc,lE]) (λ_=>cE) false),
   (32,bp (λts=>ts=[n.enc,x.enc,cE]) (λ_=>.dh [.agg [ti b,.sl o1,ti dn,.sl o2,.sl o3],ti e]) false),(34,bp (λts=>ts=[Iq nd es,ti (nd-1)]) (λ_=>.dh [.agg [ti r,.sl rk],ti e]) false),
   (35,bp (λts=>∃q,((q=b\/q=k)/\e=0)/\ts=[n.enc,x.enc,.agg [ti q,.sl o1,ti dn,.sl o2,.sl o3]]) (fun|[_,_,.agg (.int _ q::_)]=>.bool (decide (q=b))|_=>.bool false) true)]):=by
  refine aw.cons (aw.cons (aw.cons (aw.cons (aw.cons (aw.cons (aw.cons (aw.cons (aw.cons aw.nil ?_) ?_) ?_) ?_) ?_) ?_) ?_) ?_) ?_
  ·rintro ts ⟨q,hq,rfl⟩;exact⟨h35 q hq,λ_=>rfl⟩
  ·rintro ts rfl;exact⟨h34,λh=>by cases h⟩
  ·rintro ts rfl;exact⟨h32,λh=>by cases h⟩
  ·rintro ts rfl;exact⟨h33,λh=>by cases h⟩
  ·rintro ts rfl;exact⟨h30,λh=>by cases h⟩
  ·rintro ts rfl;exact⟨h31,λh=>by cases h⟩
  ·rintro ts rfl;exact⟨SV,λ_=>rfl⟩
  ·rintro ts rfl;exact⟨Ym,λ_=>rfl⟩
  ·rintro ts rfl;exact⟨aeY,λ_=>rfl⟩
 clear Ym SV h30 h31 h32 h33 h34 h35;obtain⟨nt,nn,ns,aj⟩:=n;obtain⟨xc,xi,xs⟩:=x;simp only[ay.enc,Input.enc]at aq;refine aeZ.ok (by simp) (aH ?_);simp[ay.enc,Input.enc];apply aa.ai aq fw [2,3,4];simp[Qd];refine aa.lk (o:=[]) (l:=[(2,.v (ti k)),(3,.v (.box [ti nt,ti nn,ti ns,.sl (aQ aj)])),(4,.v (.box [.sl (bd xc),.sl (au xi),ti xs]))]) (bn:=1200) (by simp) ?_;apply aa.sq aq fw [2,3,4,14];simp[Qe];refine aa.cond rfl (λaS=>by simp at aS) (λaS=>?_);apply aa.skip;simp;apply aa.sq aq fw [2,3,4,23];simp[Qf];cases w with
 |false=>
  refine aa.cond rfl (λaS=>?_) (λaS=>by simp at aS);apply aa.ai aq fw [6];simp[Qg];apply aa.ret;simp[dI]
 |true=>
 refine aa.cond rfl (λaS=>by simp at aS) (λaS=>?_);apply aa.skip;simp;apply aa.ai aq fw [2,3,4,7];simp[abR];refine aa.lk (o:=[]) (l:=[(2,.v (ti k)),(3,.v (.box [ti nt,ti nn,ti ns,.sl (aQ aj)])),(4,.v (.box [.sl (bd xc),.sl (au xi),ti xs])),(7,.v (.box [ti nd,.sl (aT.bV es)]))]) (bn:=1400) (by simp) ?_;apply aa.ai aq fw [2,3,4,7,8,9];simp[abS];refine aa.lk (o:=[]) (l:=[(2,.v (ti k)),(3,.v (.box [ti nt,ti nn,ti ns,.sl (aQ aj)])),(4,.v (.box [.sl (bd xc),.sl (au xi),ti xs])),(7,.v (.box [ti nd,.sl (aT.bV es)])),(8,.v (.box [ti b,.sl o1,ti dn,.sl o2,.sl o3])),(9,.v (ti e))]) (bn:=1700) (by simp) ?_;apply aa.ai aq fw [2,3,4,8,9,11];simp[abT];rw[av (x:=nd-1) (by omega)];simp;refine aa.lk (o:=[]) (l:=[(2,.v (ti k)),(3,.v (.box [ti nt,ti nn,ti ns,.sl (aQ aj)])),(4,.v (.box [.sl (bd xc),.sl (au xi),ti xs])),(8,.v (.box [ti b,.sl o1,ti dn,.sl o2,.sl o3])),(9,.v (ti e)),(11,.v (ti e))]) (bn:=2000) (by simp) ?_;apply aa.seq;by_cases he:e=0
 ·subst he;apply aa.ai aq fw [2,3,4,8,51];simp[Qh];refine aa.cond rfl (λaS=>by simp at aS) (λaS=>?_);apply aa.skip;simp;apply aa.ai aq fw [2,3,4,8,12];simp[Yo];apply aa.ai aq fw [2,3,4,8,12];simp[Yp];refine aa.lk (o:=[]) (l:=[(2,.v (ti k)),(3,.v (.box [ti nt,ti nn,ti ns,.sl (aQ aj)])),(4,.v (.box [.sl (bd xc),.sl (au xi),ti xs])),(8,.v (.box [ti b,.sl o1,ti dn,.sl o2,.sl o3])),(12,.v (.box [ti k,.sl o1,ti dn,.sl o2,.sl o3]))]) (bn:=2500) (by simp) ?_;refine aa.bL aq fw [(6,.v (.bool true))] ?_ ?_
  ·by_cases q:k=b
   ·simp[KO,q]
   ·simp[KO,q]
  apply aa.ret;simp[dI]
 ·apply aa.ai aq fw [9,11,51];simp[Qh,he];refine aa.cond rfl (λaS=>?_) (λaS=>by simp at aS);apply aa.ai aq fw [6];simp[abU];apply aa.ret;simp[dI]
def ae0{n:ay}{l:aF}{c:aT.bI}(hp:dS n l)(F:aT.DY (toI n) l c):∀(N x:Nat),x<(fM n l).length->((fM n l).getD x default).aA<1099511627776->((fM n l).getD x default).size<N->
  ∃d:Tr,aJ ap 92 [Iq (b7 n.ae l.am+1) ((cD n l).map toH),.sl (au (aT.mH ((cD n l).map toH) (fM n l) (b7 n.ae l.am+1) ((cD n l).map toH).length)),ti x] (.agg d.enc)
 |0,x,hx,hf,hz=>by
  have hs:=mn hp (mW hp);have:=hs.ok _ (bu hx);unfold aT.mG at this;omega
 |N+1,x,hx,hf,hz=>by
  have hs:=mn hp (mW hp);have hgs:=ij hp.nt hp.st;have aN:=vf hp (mW hp);have yd:=KJ hp hs F hx hf;obtain⟨i,hi,g⟩:=N6 hp hs hx hf;have arW:=N7 hp hs hf yd g;have ct:=hs.len;have hbl:=aT.zi ((cD n l).map toH) (fM n l) (nd:=b7 n.ae l.am+1) (by omega) ((cD n l).map toH).length;have key:∀t∈(((cD n l).map toH).getD i default).bY,∃d:Tr,aJ ap 92 [Iq (b7 n.ae l.am+1) ((cD n l).map toH),.sl (au (aT.mH ((cD n l).map toH) (fM n l) (b7 n.ae l.am+1) ((cD n l).map toH).length)),ti t] (.agg d.enc):=by
   intro t ht;obtain⟨h1,h2,h3,h4⟩:=arW t ht;obtain⟨u,rfl⟩:=jE h1;rw[gJ]at h2 h3 h4;exact ae0 hp F N u h2 h3 (by omega)
  obtain⟨f,hf⟩:∃f:Int->Tr,∀t∈(((cD n l).map toH).getD i default).bY,aJ ap 92 [Iq (b7 n.ae l.am+1) ((cD n l).map toH),.sl (au (aT.mH ((cD n l).map toH) (fM n l) (b7 n.ae l.am+1) ((cD n l).map toH).length)),ti t] (.agg (f t).enc):=by
   classical
   refine⟨λt=>if h:∃d:Tr,aJ ap 92 [Iq (b7 n.ae l.am+1) ((cD n l).map toH),.sl (au (aT.mH ((cD n l).map toH) (fM n l) (b7 n.ae l.am+1) ((cD n l).map toH).length)),ti t] (.agg d.enc)then h.choose else .mk 0 [],λt ht=>?_⟩;have h:=key t ht;simp only[ZdA h];exact h.choose_spec
  exact⟨_,ajR (by omega) hi g.1 (aN.2.2.2 _ (bu g.1)).2.2.2.2.2 f hf⟩
def ajT{n:ay}{l:aF}(hp:dS n l):∀r∈n.aj,ajU n.ae r:=by
 intro r hr;obtain⟨k1,k2⟩:=hp.aj r hr;unfold fa at k1;unfold fX at k2;unfold ajU;omega
def arX(n:ay)(x:Input)(k:Int)(h1:n.aj.length<=9223372036854775807)(h2:x.insert.length<=9223372036854775807):aJ ap 8 [n.enc,x.enc,ti k] (.bool true):=by
 have Ym:=arY n x h1 h2;by_cases hv:nT n x
 ·rw[decide_eq_true hv]at Ym;have hp:=ve hv;have h6:=yi hv;obtain⟨F,hc,hn,hlo⟩:=Oa hp;have hgs:=ij hp.nt hp.st;obtain⟨G,hG⟩:=jE hgs.1;obtain⟨a1,a2,a3,a4⟩:=pb h6;have ajM:=mW hp;have aN:=vf hp ajM;have hs:=mn hp ajM;have h31:=_root_.Go.Proofs.t14 x a1 a2 a3 a4;have h21:=Fx h6;have h30:=t12 n _ hp;rw[<-toH_enc]at h30;have h33:=aT.t11 _ _ hn hlo;rw[toI_enc]at h33;have SV:aJ ap 29 [n.enc] (.bool (S4 n)):=by
   have hr:=ajT hp;have JH:=hp.nt;have hnr:=hp.nr;obtain⟨nt,nn,ns,aj⟩:=n;simp only at hr JH hnr;obtain⟨N,rfl⟩:=jE (show 0<=nn by omega);exact arZ nt ns N aj (by omega) (by omega) hr
  have py:∀b:Int,b=(kQ n (aI x) (aT.i7 (toI n) (aI x)) (aI x).bj.length).1.aA->zB n (aI x) b (iH n.ae (aI x).am b (uv (aT.i7 (toI n) (aI x))) G)=true:=by
   rintro b rfl;exact P7 hv F hc hG.symm
  have avB:=λ(root:Nat) h1 h2=>ae0 hp F (((fM n (aI x)).getD root default).size.toNat+1) root h1 h2 (by have:=hs.ok _ (bu h1);unfold aT.mG at this;omega);have hsg:=wQ hp hs F;have h91:=aT.t66 _ _ aN;have hK:=yh n (aI x) (aT.i7 (toI n) (aI x)) (aI x).bj.length;have h93:=ar0 n (aI x) (aT.i7 (toI n) (aI x)) hc (λt ht=>N8 hp ht) (by have:=hp.AW;have:=hp.st;omega);have hup:=λt=>ajP hv F hc (t:=t);have c9:=hc.1;unfold aT.KG at c9;have JH:=hp.nt;have iO:=hp.st;have awl:(aI x).am=2*x.ah.length+1:=rfl;have h3:=hv.2.2.2.1;have hr:∀r∈n.aj,0<=r.bi/\r.bi<=1000:=λr hr=>by have:=(hp.aj r hr).1;unfold fa at this;omega
  have XQ:=λb C=>zz n.ae (aI x).am b C G;have nU:∀e∈(cD n (aI x)).map toH,e.aA<=1099511627776:=λe he=>by
   obtain⟨q,hq,rfl⟩:=j3.1 he;have:=(ux hp q hq).1;exact this.2
  have ct:=hs.len;have h10:=λb L h=>ae1 n x b L h6 hp h;obtain⟨q,hq⟩:=aY (kQ n (aI x) (aT.i7 (toI n) (aI x)) (aI x).bj.length);have hVe:fM n (aI x)=aT.r9 (b7 n.ae (aI x).am+1) ((cD n (aI x)).map toH):=rfl;rw[hq]at py hsg hK h93 hup;rw[<-hVe]at h91;have e1:(aT.i7 (toI n) (aI x)).ae=n.ae:=rfl;have e2:(aT.i7 (toI n) (aI x)).am=(aI x).am:=rfl;rw[e1,e2]at c9;obtain⟨⟨b,z⟩,st⟩:=q;have ar1:(fM n (aI x)).getD G default=⟨b,z⟩:=by rw[hG,gJ]at hsg;exact hsg
  have hG1:b7 n.ae (aI x).am+1-1=(G:Int):=by omega
  have h34:=λa e ks=>arU (b7 n.ae (aI x).am+1) _ aN (by omega) nU G (by omega) (fM n (aI x)) _ (by omega) h91 a e ks;rw[ar1]at h34;simp only at py h93 hsg;by_cases hb:1099511627776<=b
  ·have h37:=aeU n x (aI x) (aT.i7 (toI n) (aI x)) b z st h21 h93 SY 6 (.inl ⟨hb,rfl,rfl⟩);have h32:=ajL n x _ 6 (by decide) h37;have Yq:=h34 0 6 [] (.inl ⟨hb,rfl,rfl,rfl⟩);rw[<-hG1]at Yq;refine Yn n x k 0 6 0 0 _ (S4 n) _ _ _ _ _ _ _ Ym SV h31 h30 h33 h32 Yq (λq hq=>eX hq.2 (by decide)) (by omega)
  ·have avC:¬st<0:=λh=>by
    have:=(hK.none h).1;simp only[mo,mD,aT.cX.mk.injEq]at this;omega
   obtain⟨t,hqt,ht1,ht2,ht3⟩:=hK.some avC;simp only[mD]at hqt;obtain⟨hq1,ZO⟩:=hqt;subst ZO;have hgb:(iS n (aI x) (aT.i7 (toI n) (aI x)) t).aA=b:=by rw[<-hq1]
   obtain⟨d,f1,f2,f3,f4,f5,f6⟩:=hup t ht1 ht2 ht3 (by rw[<-hq1]);rw[hgb]at f6;have hd:d.sz<=4194304:=by omega
   have h94:=ar2 hc f1;have h48:=ae2 n.aX n.ae n.start n.aj 4194304 d hd hd ⟨_,f2⟩;have avD:=ar3 x _ f4 f5;have h71:=arM n x d b z _ _ 0 h48 avD;have h37:=aeU n x (aI x) (aT.i7 (toI n) (aI x)) b z t h21 h93 _ 0 (.inr ⟨hb,rfl,d,_,_,rfl,h94,h71⟩);have h32:=arP n x (aT.i7 (toI n) (aI x)) (hp.Ik.sm) (by rw[e1];omega) (by rw[e2];omega) c9.2.2.2.2 (by have:=c9.2.2.2.2;have:aT.i6 n.ae (aI x).am=b7 n.ae (aI x).am:=rfl;omega) b z _ _ d G hG.symm h37;obtain⟨d',hd'⟩:=avB G (by omega) (by rw[ar1];show b<_;omega);obtain⟨dn',dk'⟩:=d';have Yq:=h34 dn' 0 dk' (.inr ⟨hb,rfl,hd'⟩);rw[<-hG1]at Yq;obtain⟨L,hL⟩:=aY (iH (aT.i7 (toI n) (aI x)).ae (aT.i7 (toI n) (aI x)).am b (uv (aT.i7 (toI n) (aI x))) G);rw[hL]at h32;have Tl:zB n (aI x) b L=true:=by rw[<-hL];exact py b rfl
   have hLl:L.length<=G:=by rw[<-hL];exact XQ b _
   have mE:=P4 x (dw n.aj d) (x.ah.length+(dw n.aj d).length+1) 0 0;have sZ:=qK n.aj d;have h24:=ar4 n x _ d (abV h6) (show(Ip x (dw n.aj d) (x.ah.length+(dw n.aj d).length+1) 0 0).length<=4200000 by omega) hd hr;rw[f6]at h24;have h16:=λq:Int=>ar5 n x q L d _ b true _ h24 (h10 q L (by omega));obtain⟨dn,dk⟩:=d;refine Yn n x k b 0 dn dn' _ (S4 n) _ _ _ _ _ _ _ Ym SV h31 h30 h33 h32 Yq (λq hq=>?_) (by omega);have:=h16 q;have ee:(true&&(decide (b=q)&&zB n (aI x) q L))=decide (q=b):=by
    by_cases e:q=b
    ·subst e;rw[Tl];simp
    ·rw[decide_eq_false e,decide_eq_false λh=>e h.symm];rfl
   rw[ee]at this;exact this
 ·rw[decide_eq_false hv]at Ym;exact ajS n x k Ym
open Go.DM
def XK:Ty:=.seq [.int .i64,.int .i64,.int .i64,.int .i64,.int .i64,.int .i64]
def DJ:Ty:=.seq [.int .i64,.int .i64,.int .i64,.slice XK]
def aba{ts:aG}(h:XK.CD ts):∃r:bC,ts=r.enc:=by
 obtain⟨_,_,rfl,h1,h⟩:=all_cons (XB h);obtain⟨_,_,rfl,h2,h⟩:=all_cons h;obtain⟨_,_,rfl,h3,h⟩:=all_cons h;obtain⟨_,_,rfl,h4,h⟩:=all_cons h;obtain⟨_,_,rfl,h5,h⟩:=all_cons h;obtain⟨_,_,rfl,h6,h⟩:=all_cons h;obtain rfl:=all_nil h;obtain⟨a,rfl⟩:=ml h1;obtain⟨b,rfl⟩:=ml h2;obtain⟨c,rfl⟩:=ml h3;obtain⟨d,rfl⟩:=ml h4;obtain⟨e,rfl⟩:=ml h5;obtain⟨f,rfl⟩:=ml h6;exact⟨⟨a,b,c,d,e,f⟩,rfl⟩
def SR{x:T}(h:DJ.arg x):∃n:ay,x=n.enc/\n.aj.length<=9223372036854775807:=by
 unfold DJ Ty.arg at h;obtain⟨ts,rfl,h⟩:=h;obtain⟨_,_,rfl,h1,h⟩:=all_cons h;obtain⟨_,_,rfl,h2,h⟩:=all_cons h;obtain⟨_,_,rfl,h3,h⟩:=all_cons h;obtain⟨_,_,rfl,h4,h⟩:=all_cons h;obtain rfl:=all_nil h;obtain⟨a,rfl⟩:=ml h1;obtain⟨b,rfl⟩:=ml h2;obtain⟨c,rfl⟩:=ml h3;obtain⟨l,rfl,hl⟩:=yf (λr=>aba) h4;exact⟨⟨a,b,c,l⟩,rfl,hl⟩
end Go.Proofs.It
namespace Go.Proofs.YtbmaafemenldnaaGreatDoor
open Go.ChangeShapes Go.WideShapes Go.ChangeAt Go.RowKit Go.DM Go.Proofs Go.Deep
section
variable{cs:List Value}{W:World}
abbrev HN:List (String×DataW Unit):=[("emendate/editscript.actions",Rows.laid_emendate_editscript_actions),("emendate/chart.none",Rows.laid_emendate_chart_none)]
def avo:ap.globalNamed "emendate/editscript.actions" =some 1:=by kernel_rfl
def avp:(ap.globals[1]?).map (·.type)=some 228:=by kernel_rfl
def avq:ap.underlying 228=some (.array 5 227):=by kernel_rfl
def uFn:ap.underlying 227=some (.func #[169,3] #[4] false):=by kernel_rfl
def ajA:ap.cellsOf 227=1:=by kernel_rfl
def ajB:ap.cellsOf 228=5:=by kernel_rfl
def HO{P:Program}{w:World}{base:Nat}{sp:Nat->Bool}{fuel:Nat}{t:TypeId}{ps rs:Array TypeId}{va:Bool}{v:Value}{q:List MemPlace}{H:Type}{enc:TypeId×Value->H}
  (ht:P.underlying t=some (.func ps rs va)) (h:DataW.trod enc P w base sp true fuel t [v]=some (.nil,q)):v=.nilFunc:=by
 cases fuel with
 |zero=>simp[DataW.trod]at h
 |succ n=>cases v<;>simp[DataW.trod,ht]at h⊢
def cs5(h:cs.length=5):∃a b c d e,cs=[a,b,c,d,e]:=by
 match cs,h with
 |[a,b,c,d,e],_=>exact⟨a,b,c,d,e,rfl⟩
def xs5{α:Type}{cs:List α}(h:cs.length=5):∃a b c d e,cs=[a,b,c,d,e]:=by
 match cs,h with
 |[a,b,c,d,e],_=>exact⟨a,b,c,d,e,rfl⟩
def XJ(h:laidMetH ap HN W):W.cell? ⟨1,0,none⟩=some .nilFunc/\W.cell? ⟨1,1,none⟩=some (.func (.func 267) #[] #[])/\
  W.cell? ⟨1,2,none⟩=some (.func (.func 268) #[] #[])/\W.cell? ⟨1,3,none⟩=some (.func (.func 269) #[] #[])/\W.cell? ⟨1,4,none⟩=some (.func (.func 270) #[] #[]):=by
 obtain⟨g,t,cs,fuel,p,hg,ht,hv,hd⟩:=h.funcs (Ei ..);obtain rfl:=ZI (avo.symm.trans hg);obtain rfl:=ZI (avp.symm.trans ht);obtain⟨xs,m,_,ex,ct,hl,hel⟩:=DataW.trod_array avq hd;rw[ajB]at ct;obtain⟨v0,v1,v2,v3,v4,mZ⟩:=cs5 ct;obtain⟨x0,x1,x2,x3,x4,rfl⟩:=xs5 hl;rw[mZ,ajA]at hel;have e0:=hel 0 (by omega);have e1:=hel 1 (by omega);have e2:=hel 2 (by omega);have e3:=hel 3 (by omega);have e4:=hel 4 (by omega);simp only[ZcQ,ZcA,ZcE,Zcy,List.take_zero,IW,Zbw,Zdg,Nat.reduceMul]at e0 e1 e2 e3 e4;have ex2:(DataW.agg [x0.1,x1.1,x2.1,x3.1,x4.1]:DataW (List UInt8))=.agg [.nil,.held [40,42,101,109,101,110,100,97,116,101,47,101,100,105,116,115,99,114,105,112,116,46,115,116,97,116,101,41,46,114,101,97,100],.held [40,42,101,109,101,110,100,97,116,101,47,101,100,105,116,115,99,114,105,112,116,46,115,116,97,116,101,41,46,114,101,109,111,118,101],.held [40,42,101,109,101,110,100,97,116,101,47,101,100,105,116,115,99,114,105,112,116,46,115,116,97,116,101,41,46,105,110,115,101,114,116],.held [40,42,101,109,101,110,100,97,116,101,47,101,100,105,116,115,99,114,105,112,116,46,115,116,97,116,101,41,46,115,119,97,112]]:=(congrArg Prod.fst ex).symm;simp only[DataW.agg.injEq,OQ,Gr]at ex2;obtain⟨k0,k1,k2,k3,k4⟩:=ex2;obtain⟨y0,q0⟩:=x0;obtain⟨y1,q1⟩:=x1;obtain⟨y2,q2⟩:=x2;obtain⟨y3,q3⟩:=x3;obtain⟨y4,q4⟩:=x4;dsimp only at k0 k1 k2 k3 k4;subst k0 k1 k2 k3 k4;obtain rfl:=HO uFn e0;obtain rfl:=func_of_trod (f0:=267) uFn (by kernel_rfl) e1;obtain rfl:=func_of_trod (f0:=268) uFn (by kernel_rfl) e2;obtain rfl:=func_of_trod (f0:=269) uFn (by kernel_rfl) e3;obtain rfl:=func_of_trod (f0:=270) uFn (by kernel_rfl) e4;have hc:cs= #[.nilFunc,.func (.func 267) #[] #[],.func (.func 268) #[] #[],.func (.func 269) #[] #[],.func (.func 270) #[] #[]]:=by
  apply Zdv.1;rw[mZ]
 subst hc;exact⟨World.var?_cell hg hv 0,World.var?_cell hg hv 1,World.var?_cell hg hv 2,World.var?_cell hg hv 3,World.var?_cell hg hv 4⟩
def arA:ap.globalNamed "emendate/chart.none" =some 0:=by kernel_rfl
def arB:(ap.globals[0]?).map (·.type)=some 151:=by kernel_rfl
def arC:ap.underlying 151=some (.struct #[⟨"Value",64,0,false, "", "",0⟩,⟨"Rule",3,2,false, "", "",16⟩,⟨"Arg",3,3,false, "", "",24⟩]):=by kernel_rfl
def avr:ap.underlying 64=some (.struct #[⟨"Cost",3,0,false, "", "",0⟩,⟨"Size",3,1,false, "", "",8⟩]):=by kernel_rfl
def aa9:ap.underlying 3=some (.int .i64):=by kernel_rfl
def ajC:ap.cellsOf 151=4:=by kernel_rfl
def ajD:ap.cellsOf 64=2:=by kernel_rfl
def ajE:ap.cellsOf 3=1:=by kernel_rfl
def cs4(h:cs.length=4):∃a b c d,cs=[a,b,c,d]:=by
 match cs,h with
 |[a,b,c,d],_=>exact⟨a,b,c,d,rfl⟩
def SQ(h:laidMetH ap HN W):W.cell? ⟨0,0,none⟩=some (.int .i64 1099511627776)/\W.cell? ⟨0,1,none⟩=some (.int .i64 0)/\W.cell? ⟨0,2,none⟩=some (.int .i64 (-1))/\W.cell? ⟨0,3,none⟩=some (.int .i64 0):=by
 have h:laidMet ap [("emendate/chart.none",Rows.laid_emendate_chart_none)] W:=h.1;obtain⟨ps,⟨g,t,cs,fuel,p,q,hg,ht,hv,hd,_,_⟩,_⟩:=h;obtain rfl:=ZI (arA.symm.trans hg);obtain rfl:=ZI (arB.symm.trans ht);obtain⟨y0,y1,y2,n,ex,hl,e0,e1,e2⟩:=trod_struct3 arC hd;rw[ajC]at hl;obtain⟨v0,v1,v2,v3,mZ⟩:=cs4 hl;rw[mZ]at e0 e1 e2;obtain⟨z0,z1,m,ey,BS,f0,f1⟩:=trod_struct2 avr e0;simp only[ajD,ajE,ZcE,Zcy,List.take_zero,Zdg]at e1 e2 f0 f1;obtain⟨i1,r1,rfl,_⟩:=DataW.trod_int aa9 e1;obtain⟨i2,r2,rfl,_⟩:=DataW.trod_int aa9 e2;obtain⟨i3,r3,rfl,_⟩:=DataW.trod_int aa9 f0;obtain⟨i4,r4,rfl,_⟩:=DataW.trod_int aa9 f1;subst ey;have ex:=(congrArg Prod.fst ex).symm;simp only[OQ,Gr,OQ]at ex r1 r2 r3 r4;obtain⟨⟨rfl,rfl⟩,rfl,rfl⟩:=ex;subst r1 r2 r3 r4;have hc:cs= #[.int .i64 1099511627776,.int .i64 0,.int .i64 (-1),.int .i64 0]:=by
  apply Zdv.1;rw[mZ]
 subst hc;exact⟨World.var?_cell hg hv 0,World.var?_cell hg hv 1,World.var?_cell hg hv 2,World.var?_cell hg hv 3⟩
def ajF(h:laidMetH ap HN W):BY W λ_=>False:=by
 obtain⟨h0,h1,h2,h3,h4⟩:=XJ h;obtain⟨k0,k1,k2,k3⟩:=SQ h;intro p hp;rcases nH.1 hp with rfl|hp
 ·refine⟨(GX k0).1,λx=>x, ?_⟩;simp only[dY,be,Gr,Gf,Nat.reduceAdd];exact⟨⟨_,k0,rfl,rfl⟩,⟨_,k1,rfl,rfl⟩,⟨_,k2,rfl,rfl⟩,⟨_,k3,rfl,rfl⟩⟩
 ·obtain rfl:p=_:=gN.1 hp;refine⟨(GX h0).1,λx=>x, ?_⟩;simp only[dY,be,Gr,Gf,Nat.reduceAdd];refine⟨⟨_,h0,rfl,rfl⟩,⟨_,h1,rfl, ?_⟩,⟨_,h2,rfl, ?_⟩,⟨_,h3,rfl, ?_⟩,⟨_,h4,rfl, ?_⟩⟩<;>exact⟨#[],rfl,by simp[bh]⟩
noncomputable def DI(os:Os):World:=
 {World.holding ap os ⟨#[], #[],[]⟩with heap:=(World.holding ap os ⟨#[], #[],[]⟩).heap.modify 0 fun
   |.cells _ t frozen=>.cells #[.int .i64 1099511627776,.int .i64 0,.int .i64 (-1),.int .i64 0] t frozen
   |o=>o}
noncomputable def zx(os:Os):World:=
 {DI os with heap:=(DI os).heap.modify 1 fun
   |.cells _ t frozen=>.cells #[.nilFunc,.func (.func 267) #[] #[],.func (.func 268) #[] #[],.func (.func 269) #[] #[],.func (.func 270) #[] #[]] t frozen
   |o=>o}
end
end Go.Proofs.YtbmaafemenldnaaGreatDoor
