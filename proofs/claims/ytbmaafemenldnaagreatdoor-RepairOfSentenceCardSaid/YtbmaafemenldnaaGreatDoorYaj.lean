/- Part. Conditions: none. -/
import Derived.Test.YtbmaafemenldnaaGreatDoorYai
set_option linter.all false
set_option maxRecDepth 100000
set_option maxHeartbeats 8000000
namespace Go.Proofs.It
open Go.DM Go.DM.iN
def Po(x:aG):Prop:=∃e:Edge,x=e.enc/\0<=e.head/\e.head<=1000000000000
def We(x:aG):Int:=dg (x.getD 0 (ti 0))
def M8(x y:aG):Int:=We x-We y
def Wf(e:Edge):We e.enc=e.head:=rfl
def agP:qE Po M8 66 5:=by
 refine⟨?_, ?_⟩
 .rintro x y ⟨a,rfl,h1,h2⟩ ⟨b,rfl,h3,h4⟩;exact t36 a b ⟨h1,h2⟩ ⟨h3,h4⟩
 .rintro x ⟨a,rfl,_⟩;refine⟨rfl, ?_⟩;intro t ht;simp only[Edge.enc,jv,qg,AZ]at ht;rcases ht with rfl|rfl|rfl|rfl|rfl<;>rfl
def auB:SWO (my M8):=by
 have cQ:∀x y,my M8 x y=decide (We x<We y):=λx y=>decide_eq_decide.2 (by unfold M8;omega);refine⟨λx=>?_,λx y z h1 h2=>?_,λx y z h1 h2=>?_⟩<;>simp only[cQ,yN,mD]at* <;>omega
def Kd{α β:Type}{lt:β->β->Bool}{lt':α->α->Bool}{f:α->β}(h:∀a b,lt (f a) (f b)=lt' a b)(x:α):∀l:List α,kC lt (f x) (l.map f)=(kC lt' x l).map f
 |[]=>rfl
 |y::l=>by
  simp only[vG,kC,h];split
  .simp[Kd h x l]
  .simp
def Sv{α β:Type}{lt:β->β->Bool}{lt':α->α->Bool}{f:α->β}(h:∀a b,lt (f a) (f b)=lt' a b)(l:List α):dP lt (l.map f)=(dP lt' l).map f:=by
 unfold dP nM;rw[List.map_reverse]
 congr 1
 suffices∀(l iz:List α),List.foldl (λiz x=>kC lt x iz) (iz.map f) (l.map f)=(List.foldl (λiz x=>kC lt' x iz) iz l).map f from this l []
 intro l;induction l with
 |nil=>intro iz;rfl
 |cons x l ih=>intro iz;rw[vG,Br,Br,Kd h,ih]
def Pp(a b:Edge):Bool:=decide (a.head<b.head)
def Ke(l:List Edge):dP (my M8) (ch l)=ch (dP Pp l):=by
 refine Sv (λa b=>?_) l;simp only[my,M8,Wf,Pp];exact decide_eq_decide.2 (by omega)
def iR(nt st:Int)(aj:List bC)(aK:List bF)(f t:Int)(k:Nat):List Edge:=(List.range k).flatMap λk=>inst nt st (aj.getD k default) aK f t k
def nZ(nt st:Int)(aj:List bC)(aK:List bF)(f t:Int):List Edge:=dP Pp (iR nt st aj aK f t aj.length)
def mf(nt st:Int)(aj:List bC)(aK:List bF)(f t:Nat):List Edge:=((List.range t).drop f).flatMap λt:Nat=>nZ nt st aj aK f t
def qF(nt st:Int)(aj:List bC)(aK:List bF)(f:Nat):List Edge:=(List.range f).flatMap λf=>mf nt st aj aK f st.toNat
def vC(nt st start:Int)(dM:ba)(t:Nat):List Edge:=if dM.getD t default<kA then [⟨F3 nt st,[fG nt st start 0 t],dM.getD t default,-1,t⟩]else []
def Xs(nt st start:Int)(dM:ba)(k:Nat):List Edge:=(List.range k).flatMap (vC nt st start dM)
def cD(n:ay)(l:aF):List Edge:=qF n.an l.bf n.aj l.aK l.bf.toNat++Xs n.an l.bf n.start l.bj l.bj.length
def M9(nt st:Int)(aj:List bC)(aK:List bF)(f t:Int)(k:Nat):iR nt st aj aK f t (k+1)=iR nt st aj aK f t k++inst nt st (aj.getD k default) aK f t k:=by
 simp[iR,Gy]
def FJ(nt st:Int)(aj:List bC)(aK:List bF)(f t:Nat)(h:f<=t):mf nt st aj aK f (t+1)=mf nt st aj aK f t++nZ nt st aj aK f t:=by
 unfold mf;rw[Gy,Zci (by simpa using h)];simp
def FK(nt st:Int)(aj:List bC)(aK:List bF)(f:Nat):mf nt st aj aK f f=[]:=by simp[mf]
def FL(nt st:Int)(aj:List bC)(aK:List bF)(f:Nat):qF nt st aj aK (f+1)=qF nt st aj aK f++mf nt st aj aK f st.toNat:=by
 simp[qF,Gy]
def XX(nt st start:Int)(dM:ba)(k:Nat):Xs nt st start dM (k+1)=Xs nt st start dM k++vC nt st start dM k:=by
 simp[Xs,Gy]
structure Fit(n:ay)(l:aF):Prop where
 sm:sm n.an l.bf
 start:0<=n.start/\n.start<=1000
 aj:∀r∈n.aj,agQ r
 Hu:n.aj.length<=1000
 aK:Wg l.aK
 Pq:l.aK.length<=10000
 AW:l.bj.length<=1000
 Wh:l.bf<=100
def aoD(ts:aG):Prop:=∃(n:ay) (l:aF) (k:Nat) (f t:Int),ts=[n.enc,l.enc,ti k,ti f,ti t]/\k<n.aj.length
def agR:aG->T
 |[n,l,.int _ k,.int _ f,.int _ t]=>.fn (.func 115) (zj (mt n).an (sV l).bf ((mt n).aj.getD k.toNat default) (sV l).aK (sV l).bj f t k)
 |_=>.bool false
def Sx:kv:=bz [(65,fl (k35 Po M8)),(64,bp aoD agR false),(62,wH),(63,zk),(67,uk)]
def auC:aw ak Sx:=by
 refine auD agP auB (aw.cons ok1 ?_);rintro ts ⟨n,l,k,f,t,rfl,hk⟩;exact⟨by simpa [agR]using t34 n l k f t hk,λh=>by cases h⟩
def pP(nt st:Int)(r:bC)(aK:List bF)(f t k:Int)(ha:aK.length<=10000)(hf:Hc f t):(inst nt st r aK f t k).length<=10000:=by
 unfold inst;split
 .split<;>simp
 split
 .have:∀(l:cN) (g:Nat->List Edge),(∀i,(g i).length<=1)->(l.flatMap g).length<=l.length:=by
   intro l g hg;induction l with
   |nil=>simp
   |cons x l ih=>simp only[ZbS,nH,B8];have:=hg x;omega
  have:=this (List.range aK.length) _ (λi=>by split<;>simp:∀i,(if(aK.getD i default).f=f/\(aK.getD i default).t=t/\(aK.getD i default).term=r.a then [dc nt st r f t k (r.bi+(aK.getD i default).aA) i []]else []).length<=1)
  simp only[ZbF]at this;omega
 split
 .simp
 split
 .simp;unfold Hc at hf;omega
 .simp
def eE{β:Type}(g:Nat->List β)(c:Nat):∀l:cN,(∀i∈l,(g i).length<=c)->(l.flatMap g).length<=l.length*c
 |[],_=>by simp
 |x::l,h=>by
  simp only[ZbS,nH,B8];have:=h x (by simp);have:=eE g c l λi hi=>h i (by simp[hi]);rw[Fb];omega
section
variable{f nt st:Int}
def Sy{n:ay}{l:aF}(h:Fit n l){t:Int}(hf:Hc f t):(nZ n.an l.bf n.aj l.aK f t).length<=10000000:=by
 unfold nZ;rw[gO];have:=eE (λk=>inst n.an l.bf (n.aj.getD k default) l.aK f t k) 10000 (List.range n.aj.length) λi _=>pP _ _ _ _ _ _ _ h.Pq hf;have hn:=h.Hu;simp only[ZbF]at this;unfold iR;omega
def FM{n:ay}{l:aF}(h:Fit n l){t:Int}(hf:Hc f t)(k:Nat)(hk:k<=n.aj.length):(iR n.an l.bf n.aj l.aK f t k).length<=10000000:=by
 have:=eE (λk=>inst n.an l.bf (n.aj.getD k default) l.aK f t k) 10000 (List.range k) λi _=>pP _ _ _ _ _ _ _ h.Pq hf;have hn:=h.Hu;simp only[ZbF]at this;unfold iR;omega
def Do{n:ay}{l:aF}(h:Fit n l)(f t:Nat)(ht:(t:Int)<=l.bf):(mf n.an l.bf n.aj l.aK f t).length<=1000000000:=by
 have hs:=h.Wh;have:=eE (λt:Nat=>nZ n.an l.bf n.aj l.aK f t) 10000000 ((List.range t).drop f) λi hi=>Sy h (by
  rw[ZR]at hi;obtain⟨j,hj,rfl⟩:=hi;simp only[OJ,ZbF]at hj;rw[ZM,ZbX];unfold Hc;omega)
 simp only[OJ,ZbF]at this;unfold mf;have:(t-f)*10000000<=100*10000000:=Ec _ (by omega);omega
def ul{n:ay}{l:aF}(h:Fit n l)(f:Nat)(hf:(f:Int)<=l.bf):(qF n.an l.bf n.aj l.aK f).length<=100000000000:=by
 have hs:=h.Wh;have h1:=h.sm.2.2.1;have:=eE (λf=>mf n.an l.bf n.aj l.aK f l.bf.toNat) 1000000000 (List.range f) λi _=>Do h i _ (by omega);simp only[ZbF]at this;unfold qF;have:f*1000000000<=100*1000000000:=Ec _ (by omega);omega
def Dp{n:ay}{l:aF}(h:Fit n l)(k:Nat)(hk:k<=l.bj.length):(Xs n.an l.bf n.start l.bj k).length<=1000:=by
 have:=eE (vC n.an l.bf n.start l.bj) 1 (List.range k) λi _=>by unfold vC;split<;>simp
 have:=h.AW;simp only[ZbF]at*
 unfold Xs;omega
@[simp] def atr(sz:Nat)(cs:aG):di sz 1 cs=[cs.take sz]:=rfl
def FN:aG->aG
 |[.agg c]=>c
 |_=>[]
def Hv(es:List Edge):(dp es).map FN=ch es:=by
 simp[dp,ch,FN]
def qG{r:bC}{aK:List bF}{t k:Int}{e:Edge}(he:e∈inst nt st r aK f t k):e.head=fG nt st r.head f t:=by
 unfold inst at he;split at he
 .split at he
  .simp only[uy]at he;subst he;rfl
  .cases he
 split at he
 .simp only[ZT]at he;obtain⟨i,_,he⟩:=he;split at he
  .simp only[uy]at he;subst he;rfl
  .cases he
 split at he
 .simp only[uy]at he;subst he;rfl
 split at he
 .simp only[sE]at he;obtain⟨j,_,rfl⟩:=he;rfl
 .cases he
def Sz{h t:Int}(hs:sm nt st)(hh:0<=h/\h<=1000)(hf:0<=f)(yF:f<=t)(ht:t<st):0<=fG nt st h f t/\fG nt st h f t<=1000000000000:=by
 obtain⟨h1,h2,h3,h4⟩:=hs;rw[mU hf];obtain⟨p1,p2,p3⟩:=Dq h4 hf yF ht;have:=gM p1 (show bP st f t<=1000000 by omega) h1 h2;omega
def Na{n:ay}{l:aF}(h:Fit n l){t:Int}(hf:0<=f)(yF:f<=t)(ht:t<l.bf)(k:Nat)(hk:k<=n.aj.length):∀x∈ch (iR n.an l.bf n.aj l.aK f t k),Po x:=by
 intro x hx;simp only[ch,sE,iR,ZT,I0]at hx;obtain⟨e,⟨i,hi,he⟩,rfl⟩:=hx;have hr:=h.aj (n.aj.getD i default) (by simp[show i<n.aj.length by omega]);have:=Sz h.sm ⟨hr.1.1,hr.1.2.1⟩ hf yF ht;rw[<-qG he]at this;exact⟨e,rfl,this.1,this.2⟩
def t11(n:ay)(l:aF)(h:Fit n l):aJ ak 22 [n.enc,l.enc] (.agg [ti (F3 n.an l.bf+1),.sl (ch (cD n l))]):=by
 have bb:=auC;have u4:=h.sm;have aer:0<=F3 n.an l.bf/\F3 n.an l.bf<=1001000000:=by
  obtain⟨h1,h2,h3,h4⟩:=u4;have b1:=gM h1 h2 h3 h4;have b2:=gM b1.1 b1.2 (b:=l.bf+1) (n:=1001) (by omega) (by omega);unfold F3;omega
 refine c11.ok (by simp) (aH ?_);simp[ay.enc,aF.enc];apply aa.ai bb fw [2,3,4];simp[VV];apply aa.ai bb fw [2,3,4,5];simp[VW,Sx,wH,SA,Wi];refine⟨⟨⟨n,rfl⟩,⟨l,rfl⟩⟩, ?_⟩;apply aa.ai bb fw [2,3,4,5,6];simp[VX,Sx,zk,Wj,Kf];refine⟨u4, ?_⟩;rw[av (by omega)];obtain⟨tn,yG⟩:=aY (T.box [ti n.aX,ti n.an,ti n.start,.sl (aQ n.aj)]);obtain⟨tl,mq⟩:=aY (T.box [ti l.bf,.sl (bq l.aK),.sl (au l.bj)]);obtain⟨gl,Z2⟩:=aY (F3 n.an l.bf);rw[Z2]at aer⊢;refine aa.le (Le.aL (o:=[(1185,.box [.v (ti (gl+1)),.aZ]),(1005,.box [.v (ti 0),.aZ])]) (l:=[(2,.v tn),(3,.v tl),(4,.ptr 1005 0),(5,.v (.box [ti n.an,ti l.bf])),(6,.ptr 1185 0)]) (bn:=2000) ?_ ?_ ?_ ?_) ?_;iterate 3(·simp)
 .simp[<-yG,<-mq]
 refine aa.le (Le.qZ 1185 1 125 (sz:=5) (by omega) (cs:=[.v (ti (gl+1)),.aZ]) (by simp) (by simp)) ?_;simp only[qy,Zc0,Zb7];have hS:(l.bf.toNat:Int)=l.bf:=by have:=u4.2.2.1;omega
 have auE:=h.Wh;apply aa.sq bb fw [2,3,4,5,6,22,23];simp[VY,<-mq];rw[mq];apply aa.block;refine aa.loop (λf:Nat=>⟨DM.look [(2,.v tn),(3,.v tl),(4,.ptr 1005 0),(5,.v (.box [ti n.an,ti l.bf])),(6,.ptr 1185 0),(22,.v (ti l.bf)),(23,.v (ti f))],cR [(1185,.box [.v (ti (gl+1)),.aW 2000 0]),(2000,.bm 0 125 5 (ch (qF n.an l.bf n.aj l.aK f))),(1005,.box [.v (ti 0),.aZ])],3000,1000,[]⟩)
  (λf=>(f:Int)<=l.bf) (λf=>l.bf.toNat-f) 0 (Le.aL ?_ ?_ ?_ ?_) (by simp;exact u4.2.2.1) (λf hf=>?_)
 .simp
 .simp
 .simp[qF,ch]
 .simp
 apply aa.ai bb fw [2,3,4,5,6,22,23,24];simp[VZ];apply aa.seq;refine aa.cond rfl (λhc=>?_) (λhc=>?_)
 .simp at hc;apply aa.skip;simp;apply aa.seq;apply aa.block;apply aa.ai bb fw [2,3,4,5,6,7,22,23];simp[V0];apply aa.ai bb fw [2,3,4,5,6,7,8,22,23];simp[aoE];apply aa.block;obtain⟨es0,Nb⟩:=aY (qF n.an l.bf n.aj l.aK f);have auF:es0.length<=100000000000:=by rw[<-Nb];exact ul h f hf
  refine aa.loop (λt:Nat=>⟨DM.look [(2,.v tn),(3,.v tl),(4,.ptr 1005 0),(5,.v (.box [ti n.an,ti l.bf])),(6,.ptr 1185 0),(7,.v (ti f)),(8,.v (ti t)),(22,.v (ti l.bf)),(23,.v (ti f))],cR [(1185,.box [.v (ti (gl+1)),.aW 2000 0]),(2000,.bm 0 125 5 (ch (es0++mf n.an l.bf n.aj l.aK f t))),(1005,.box [.v (ti 0),.aZ])],4000,1000,[]⟩)
   (λt=>f<=t/\(t:Int)<=l.bf) (λt=>l.bf.toNat-t) f (Le.aL ?_ ?_ ?_ ?_) ⟨gJ _,hf⟩ (λt ht=>?_)
  .simp
  .simp
  .simp[FK,Nb]
  .simp
  obtain⟨ht1,ht2⟩:=ht;apply aa.sq bb fw [2,3,4,5,6,7,8,22,23,30];simp[V2,<-mq];rw[mq];refine aa.cond rfl (λhd=>?_) (λhd=>?_)
  .simp at hd;have Nc:Hc f t:=⟨by omega,by omega,by omega⟩;apply aa.skip;simp;apply aa.seq;apply aa.block;apply aa.ai bb fw [2,3,4,5,6,7,8,9,22,23];simp[V3];refine aa.le (Le.qZ 4099 0 125 (sz:=5) (by omega) (cs:=[.aZ]) (by simp) (by simp)) ?_;simp only[qy,Zb7];obtain⟨es1,Nd⟩:=aY (es0++mf n.an l.bf n.aj l.aK f t);have auG:es1.length<=101000000000:=by
    rw[<-Nd,nH];have:=Do h f t ht2;omega
   rw[Nd];apply aa.sq bb fw [2,3,4,5,6,7,8,9,22,23,35,36];simp[V4,<-yG];rw[yG];apply aa.block;refine aa.loop (λk:Nat=>⟨DM.look [(2,.v tn),(3,.v tl),(4,.ptr 1005 0),(5,.v (.box [ti n.an,ti l.bf])),(6,.ptr 1185 0),(7,.v (ti f)),(8,.v (ti t)),(9,.ptr 4099 0),(22,.v (ti l.bf)),(23,.v (ti f)),(35,.v (ti n.aj.length)),(36,.v (ti k))],
     cR [(4099,.box [.aW 4178 0]),(4178,.bm 0 125 5 (ch (iR n.an l.bf n.aj l.aK f t k))),(1185,.box [.v (ti (gl+1)),.aW 2000 0]),(2000,.bm 0 125 5 (ch es1)),(1005,.box [.v (ti 0),.aZ])],5000,1000,[]⟩)
    (λk=>k<=n.aj.length) (λk=>n.aj.length-k) 0 (Le.aL ?_ ?_ ?_ ?_) (by simp) (λk hk=>?_)
   .simp
   .simp
   .simp[iR,ch]
   .simp
   have hnr:=h.Hu;apply aa.ai bb fw [2,3,4,5,6,7,8,9,22,23,35,36,37];simp[MQ];apply aa.seq;refine aa.cond rfl (λhe=>?_) (λhe=>?_)
   .simp at he;obtain⟨es2,Nf⟩:=aY (iR n.an l.bf n.aj l.aK f t k);have auH:es2.length<=10000000:=by rw[<-Nf];exact FM h Nc k (by omega)
    rw[Nf];obtain⟨r,hr⟩:=aY (n.aj.getD k default);have qd:agQ r:=h.aj r (by rw[<-hr];simp[he]);obtain⟨es3,Ng⟩:=aY (inst n.an l.bf r l.aK f t k);have auI:es3.length<=10000:=by rw[<-Ng];exact pP _ _ _ _ _ _ _ h.Pq Nc
    have uT:=t47 n.an l.bf r l.aK l.bj f t k u4 qd Nc h.aK;rw[Ng]at uT;apply aa.skip;simp;apply aa.seq;apply aa.block;apply aa.ai bb fw [2,3,4,5,6,7,8,9,10,22,23,35,36];simp[MR];apply aa.ai bb fw [2,3,4,5,6,7,8,9,22,23,35,36,44];simp only[MS,<-yG,<-mq];have nl:n.aj[k]?.getD default=r:=by rw[<-hr];simp
    simp[Sx,bp,agR,nl];rw[yG,mq];refine⟨⟨n,l,k,f,t,rfl,he⟩, ?_⟩;apply aa.block;refine aa.yI uT (by simp) (by simp) ?_ (λpre=>cR [(4099,.box [.aW 4178 pre.length]),(4178,.bm pre.length 125 5 (ch es2++pre.map FN)),(1185,.box [.v (ti (gl+1)),.aW 2000 0]),(2000,.bm 0 125 5 (ch es1)),(1005,.box [.v (ti 0),.aZ])]) ?_ ?_ (λpre x rest hx=>?_) ?_
    .intro x hx;simp only[dp,sE]at hx;obtain⟨e,_,rfl⟩:=hx;rfl
    .simp
    .intro pre r hr;simp only at hr;simp only[tB,O5];repeat rw[iK (by omega)]
    .have hxm:x∈dp es3:=by rw[hx];simp
     simp only[dp,sE]at hxm;obtain⟨e,hem,rfl⟩:=hxm;have awf:pre.length<=10000:=by
      have:(dp es3).length=es3.length:=by simp[dp]
      rw[hx]at this;simp at this;omega
     obtain⟨L,hL⟩:=aY (pre.map FN);have lL:L.length=pre.length:=by rw[<-hL];simp
     simp only[CL,hL];apply aa.cZ bb fw [2,3,4,5,6,7,8,9,11,22,23,35,36];simp[MT,Edge.enc];apply aa.block;apply aa.cZ bb fw [];simp[MU,cw];refine⟨by omega, ?_⟩;simp only[<-G9];refine Le.aaI ?_ ?_ ?_ ?_
     .simp[hL,lL,FN]
     .simp
     .simp[hL,FN]
     .simp
    .have ZJ:(dp es3).length=es3.length:=by simp[dp]
     simp only[Hv];simp;apply aa.cZ bb fw [2,3,4,5,6,7,8,9,22,23,35,36];simp[agS];refine⟨k+1,Le.aL ?_ ?_ ?_ ?_, ?_, ?_⟩
     .simp
     .simp
     .have Kv:iR n.an l.bf n.aj l.aK f t (k+1)=es2++es3:=by rw[M9,Nf,hr,Ng]
      simp[Kv,ch]
     .simp;exact(av (by omega)).symm
     .omega
     .omega
   .simp at he;have hkR:k=n.aj.length:=by omega
    subst hkR;have pQ:∀x∈ch (iR n.an l.bf n.aj l.aK f t n.aj.length),Po x:=Na h (by omega) (by omega) hd _ (gJ _);have auJ:(iR n.an l.bf n.aj l.aK f t n.aj.length).length<=10000000:=FM h Nc _ (gJ _);have Wl:=Ke (iR n.an l.bf n.aj l.aK f t n.aj.length);have Pr:nZ n.an l.bf n.aj l.aK f t=dP Pp (iR n.an l.bf n.aj l.aK f t n.aj.length):=rfl;obtain⟨es4,auK⟩:=aY (iR n.an l.bf n.aj l.aK f t n.aj.length);rw[auK]at pQ auJ Wl Pr⊢;obtain⟨es5,aoF⟩:=aY (dP Pp es4);have l5:es5.length=es4.length:=by rw[<-aoF,gO]
    rw[aoF]at Wl Pr;apply aa.exit;simp;refine aa.fR bb fw (rs:=Ps) (.inr ⟨_,pV⟩) (by kernel_rfl) [2,3,4,5,6,7,8,9,22,23] ?_;simp[Ps,Sx,k35,qy,Wl];refine⟨⟨pQ,by omega⟩, ?_⟩;apply aa.cZ bb fw [2,3,4,5,6,7,8,22,23];simp[agT,cw];refine⟨⟨?_,by omega,by omega⟩, ?_⟩
    .intro x hx;simp only[ch,sE]at hx;obtain⟨e,_,rfl⟩:=hx;rfl
    apply aa.cZ bb fw [2,3,4,5,6,7,8,22,23];simp[agU];refine⟨t+1,Le.aL ?_ ?_ ?_ ?_,⟨?_, ?_⟩, ?_⟩
    .simp
    .simp
    .rw[FJ _ _ _ _ _ _ ht1,<-List.append_assoc,Nd,Pr];simp[ch]
    .simp;exact(av (by omega)).symm
    .omega
    .omega
    .omega
  .simp at hd;apply aa.exit;simp;apply aa.cZ bb fw [2,3,4,5,6,22,23];simp[agV];have htS:t=l.bf.toNat:=by omega
   refine⟨f+1,Le.aL ?_ ?_ ?_ ?_, ?_, ?_⟩
   .simp
   .simp
   .rw[FL,Nb,htS];simp
   .simp;exact(av (by omega)).symm
   .omega
   .omega
 .simp at hc;have hfS:f=l.bf.toNat:=by omega
  apply aa.exit;simp;obtain⟨es6,Nh⟩:=aY (qF n.an l.bf n.aj l.aK l.bf.toNat);have auL:es6.length<=100000000000:=by rw[<-Nh];exact ul h _ (by omega)
  rw[hfS,Nh];apply aa.sq bb fw [2,4,5,6,60,61,62];simp only[agW,<-mq];simp;apply aa.block;refine aa.loop (λk:Nat=>⟨DM.look [(2,.v tn),(4,.ptr 1005 0),(5,.v (.box [ti n.an,ti l.bf])),(6,.ptr 1185 0),(60,.v (.sl (au l.bj))),(61,.v (ti l.bj.length)),(62,.v (ti k))],
    cR [(1185,.box [.v (ti (gl+1)),.aW 2000 0]),(2000,.bm 0 125 5 (ch (es6++Xs n.an l.bf n.start l.bj k))),(1005,.box [.v (ti 0),.aZ])],4000,1000,[]⟩)
   (λk=>k<=l.bj.length) (λk=>l.bj.length-k) 0 (Le.aL ?_ ?_ ?_ ?_) (by simp) (λk hk=>?_)
  .simp
  .simp
  .simp[Xs]
  .simp
  have hnf:=h.AW;apply aa.ai bb fw [2,4,5,6,60,61,62,63];simp[agX];apply aa.seq;refine aa.cond rfl (λhe=>?_) (λhe=>?_)
  .simp at he;obtain⟨c,Kg⟩:=aY (l.bj.getD k default);have gf:=bA he;rw[Kg]at gf;obtain⟨es7,Hw⟩:=aY (es6++Xs n.an l.bf n.start l.bj k);have auM:es7.length<=101000000000:=by
    rw[<-Hw,nH];have:=Dp h k hk;omega
   rw[Hw];apply aa.skip;simp;apply aa.seq;apply aa.block;apply aa.ai bb fw [2,4,5,6,12,13,60,61,62];simp[agY,gf,he];apply aa.ai bb fw [2,4,5,6,12,13,60,61,62,68];simp[agZ];refine aa.to ⟨DM.look [(2,.v tn),(4,.ptr 1005 0),(5,.v (.box [ti n.an,ti l.bf])),(6,.ptr 1185 0),(60,.v (.sl (au l.bj))),(61,.v (ti l.bj.length)),(62,.v (ti k))],
    cR [(1185,.box [.v (ti (gl+1)),.aW 2000 0]),(2000,.bm 0 125 5 (ch (es6++Xs n.an l.bf n.start l.bj (k+1)))),(1005,.box [.v (ti 0),.aZ])],6000,1000,[]⟩ ?_ ?_
   .refine aa.cond rfl (λh5=>?_) (λh5=>?_)
    .simp at h5;have Bv:vC n.an l.bf n.start l.bj k=[⟨gl,[fG n.an l.bf n.start 0 k],c,-1,k⟩]:=by unfold vC;rw[Kg,ee (by simpa [kA]using h5),Z2]
     apply aa.cZ bb fw [2,4,5,6,60,61,62];simp only[ag0,<-yG];simp[Sx,zk,Wj,Kf,uk,SB,Kh,cw,Z2];refine⟨u4,⟨u4,h.start.1,h.start.2,by omega⟩,⟨by omega,by omega⟩, ?_⟩;refine Le.aL ?_ ?_ ?_ ?_
     .simp
     .simp
     .rw[XX,<-List.append_assoc,Hw,Bv];simp[ch,Edge.enc,au]
     .simp[]
    .simp at h5;have Bv:vC n.an l.bf n.start l.bj k=[]:=by unfold vC;rw[Kg,iK (by simp[kA];omega)]
     refine aa.skip ⟨rfl,Le.aL ?_ ?_ ?_ ?_⟩
     .simp
     .simp
     .rw[XX,<-List.append_assoc,Hw,Bv];simp
     .simp
   .simp;apply aa.cZ bb fw [2,4,5,6,60,61,62];simp[ag1];refine⟨k+1,Le.aL ?_ ?_ ?_ ?_, ?_, ?_⟩;iterate 3(·simp)
    .simp;exact(av (by omega)).symm
    .omega
    .omega
  .simp at he;have hkF:k=l.bj.length:=by omega
   apply aa.exit;simp;apply aa.ai bb fw [4];simp[ag2];apply aa.ret;simp[C9,cD,Nh,hkF]
end
@[simp] def atk(sz:Nat)(cs:aG):di sz 2 cs=[cs.take sz,(cs.drop sz).take sz]:=rfl
structure dS(n:ay)(l:aF):Prop where
 nt:1<=n.an/\n.an<=14
 aX:0<=n.aX/\n.aX<=6
 nr:n.aj.length<=24
 start:0<=n.start/\n.start<n.an
 aj:∀r∈n.aj,¬fa n r/\fX n r
 st:1<=l.bf/\l.bf<=11
 AW:(l.bj.length:Int)=l.bf
 na:l.aK.length<=120
 dM:∀c∈l.bj,0<=c/\c<=kA
 aK:∀i,i<l.aK.length->¬zl l n.aX i
def aeS{n:ay}{l:aF}(h:fair n l=true):dS n l:=by
 simp only[fair,qb,mA,yN,fk,Nx,AF,mD,Jf,I0,sg,W4,W3]at h;obtain⟨⟨⟨⟨h1,h2,h3⟩,h4,h5⟩,h6,h7⟩,⟨h8,h9⟩,K9,QU⟩:=h;unfold sd at h4;refine⟨by omega,by omega,by omega,by omega,λr hr=>?_,by omega,h9,by omega,λc hc=>?_,QU⟩
 .obtain⟨i,hi,rfl⟩:=ZR.1 hr;have:=h5 i hi;simpa [hi]using this
 .obtain⟨i,hi,rfl⟩:=ZR.1 hc;have:=K9 i hi;simpa [hi]using this
def dS.XE{n:ay}{l:aF}(h:dS n l):∀a∈l.aK,0<=a.f/\a.f<=a.t/\a.t<l.bf/\0<=a.term/\a.term<n.aX/\0<=a.aA/\a.aA<kA:=by
 intro a ha;obtain⟨i,hi,rfl⟩:=ZR.1 ha;have:=h.aK i hi;unfold zl at this;rw[ZbR,mM hi,GA]at this;simp only[kA]at*
 omega
def dS.Ik{n:ay}{l:aF}(h:dS n l):Fit n l:=by
 have h1:=h.nt;have h2:=h.st;have h3:=h.start;have h4:=h.nr;have h5:=h.na;have h6:=h.AW;refine⟨⟨by omega,by omega,by omega,by omega⟩,by omega,λr hr=>?_,by omega,⟨by omega,λa ha=>?_⟩,by omega,by omega,by omega⟩
 .obtain⟨k1,k2⟩:=h.aj r hr;unfold fa at k1;unfold fX at k2;refine⟨⟨by omega,by omega,by omega,by omega⟩,λe=>by omega,λe=>by omega⟩
 .have:=h.XE a ha;simp only[kA]at*
  omega
end Go.Proofs.It
namespace Go.Proofs.It
open Go.DM Go.DM.iN
def ij{nt st:Int}(h1:1<=nt/\nt<=14)(h2:1<=st/\st<=11):0<=F3 nt st/\F3 nt st<=1000:=by
 have b1:=gM (a:=nt) (m:=14) (by omega) (by omega) (b:=st) (n:=11) (by omega) (by omega);have b2:=gM b1.1 b1.2 (b:=st+1) (n:=12) (by omega) (by omega);unfold F3;omega
section
inductive Tr where
 |mk (n:Int) (awi:List Tr)
instance:Inhabited Tr:=⟨.mk 0 []⟩
mutual
def Tr.enc:Tr->aG
 |.mk n ks=>[ti n,.sl (dT ks)]
def dT:List Tr->List (aG)
 |[]=>[]
 |k::ks=>k.enc::dT ks
end
mutual
def Tr.sz:Tr->Nat
 |.mk _ ks=>gE ks+1
def gE:List Tr->Nat
 |[]=>0
 |k::ks=>k.sz+gE ks
end
def DL:∀ks:List Tr,dT ks=ks.map Tr.enc
 |[]=>rfl
 |k::ks=>by rw[dT,DL ks];rfl
mutual
def PV:∀a b:Tr,a.enc=b.enc->a=b
 |.mk n ks,.mk m js,h=>by
  simp only[Tr.enc,Gf,T.int.injEq,T.sl.injEq,Em,ZI]at h;rw[h.1,DN ks js h.2]
def DN:∀a b:List Tr,dT a=dT b->a=b
 |[],[],_=>rfl
 |[],_::_,h=>by simp[dT]at h
 |_::_,[],h=>by simp[dT]at h
 |a::js,b::ks,h=>by
  simp only[dT,Gf]at h;rw[PV a b h.1,DN js ks h.2]
end
@[simp] def ajG(ks:List Tr):(dT ks).length=ks.length:=by simp[DL]
def SU{l:List Tr}{y:Nat}(h:y<l.length):DM.rowAt (dT l) y=(l.getD y default).enc:=by simp[DM.rowAt,DL,h]
def HP{l:List Tr}{y:Nat}(h:y<l.length):(l.getD y default).sz<=gE l:=by
 induction l generalizing y with
 |nil=>simp at h
 |cons a l ih=>
  cases y with
  |zero=>simp[gE]
  |succ y=>have:=ih (y:=y) (by simpa using h);simp only[gE,Zdj];omega
def zy(d:Tr):1<=d.sz:=by cases d;simp[Tr.sz]
def oq:∀l:List Tr,l.length<=gE l
 |[]=>by simp[gE]
 |a::l=>by have:=oq l;have:=zy a;simp only[gE,B8];omega
section
variable(es:List Edge)(aj:List bC)
mutual
def ajH(root:Int):Tr->Bool
 |.mk n ks=>decide (0<=n/\n<es.length)&&decide ((es.getD n.toNat default).head=root/\ks.length=(es.getD n.toNat default).bY.length)&&PW (es.getD n.toNat default).bY ks
def PW:ba->List Tr->Bool
 |t::ts,k::ks=>ajH t k&&PW ts ks
 |_,_=>true
end
end
section
variable(aj:List bC)
def eu(r:bC):ba:=if r.kind=3 then [r.a]else if r.kind=4 then [r.a,r.b]else []
mutual
def eG(head:Int):Tr->Bool
 |.mk n ks=>decide (0<=n/\n<aj.length)&&decide ((aj.getD n.toNat default).head=head)&&decide (ks.length=(eu (aj.getD n.toNat default)).length)&&ng (eu (aj.getD n.toNat default)) ks
def ng:ba->List Tr->Bool
 |t::ts,k::ks=>eG t k&&ng ts ks
 |_,_=>true
end
mutual
def dw:Tr->ba
 |.mk n ks=>if(aj.getD n.toNat default).kind=2 then [(aj.getD n.toNat default).a]else dZ ks
def dZ:List Tr->ba
 |[]=>[]
 |k::ks=>dw k++dZ ks
end
mutual
def fF:Tr->Int
 |.mk n ks=>(aj.getD n.toNat default).bi+dD ks
def dD:List Tr->Int
 |[]=>0
 |k::ks=>fF k+dD ks
end
end
end
end Go.Proofs.It
namespace Go.Proofs
namespace It
open Go.DM
def an9:=aB 18 0
def aoa:=aB 18 1
def aob:=aB 18 2
def aoc:=aB 18 3
def aod:=aB 18 4
def aoe:=aB 18 5
def aof:=aB 18 6
def aog:=aB 18 7
def aoh:=aB 18 8
def aoi:=aB 18 9
def agC:=aB 18 10
def agD:=aB 18 11
noncomputable def d24:DC:=fo 18
def c24 [bD]:aR ak 18 62 d24 (dI 6):=.at
def ayz:=aB 19 0
def ayA:=aB 19 1
def ayB:=aB 19 2
def ayC:=aB 19 3
def ayD:=aB 19 4
def ayE:=aB 19 5
def ayF:=aB 19 6
def ayG:=aB 19 7
def ayH:=aB 19 8
def ayI:=aB 19 9
noncomputable def d27:DC:=fo 19
def c27 [bD]:aR ak 19 37 d27 (dI 4):=.at
def aqy:=aB 20 0
def DA:=aB 20 1
def aqz:=aB 20 2
def aqA:=aB 20 3
def aqB:=aB 20 4
def aeF:=aB 20 5
def aqC:=aB 20 6
noncomputable def d28:DC:=fo 20
def c28 [bD]:aR ak 20 31 d28 (dI 4):=.at
def anC:=aB 56 0
def anD:=aB 56 1
def ayJ:=aB 56 2
def ayK:=aB 56 3
def ayL:=aB 56 4
def ayM:=aB 56 5
def ayN:=aB 56 6
noncomputable def d42:DC:=fo 56
def c42 [bD]:aR ak 56 17 d42 (dI 2):=.at
end It
end Go.Proofs
namespace Go.Proofs.It
open Go.DM Go.DM.iN
section
variable{α:Type}{aj:List bC}{ks:List Tr}
open Classical in
noncomputable def KE(ts:aG):Tr:=if h:∃d:Tr,d.enc=ts then h.choose else default
@[simp] def arK(a:Int)(l:List Tr):KE [ti a,.sl (dT l)]=.mk a l:=by
 have h:∃d:Tr,d.enc=[ti a,.sl (dT l)]:=⟨.mk a l,by rw[Tr.enc]⟩;unfold KE;rw[ZdH h];exact PV _ _ (h.choose_spec.trans (by rw[Tr.enc]))
@[simp] def arL{a b:List Tr}:dT a=dT b↔a=b:=⟨DN a b,λh=>by rw[h]⟩
@[simp] def MY{a b:List bC}:aQ a=aQ b↔a=b:=⟨λh=>by have:=congrArg kP h;simpa using this,λh=>by rw[h]⟩
@[simp] def FD{a b:ba}:au a=au b↔a=b:=⟨λh=>by have:=congrArg eM h;simpa using this,λh=>by rw[h]⟩
def DO{l:List Tr}{y:Nat}{a:Int}{k:List Tr}(h:y<l.length)(e:l.getD y default=.mk a k):DM.rowAt (dT l) y=[ti a,.sl (dT k)]:=by rw[SU h,e,Tr.enc]
def dH [Inhabited α]{l:List α}{i:Nat}(h:i<l.length):l.take (i+1)=l.take i++[l.getD i default]:=by
 rw[OS];simp[List.getD,h]
def bu [Inhabited α]{l:List α}{i:Nat}(h:i<l.length):l.getD i default∈l:=by simp[List.getD,h]
def sj:∀a b:List Tr,gE (a++b)=gE a+gE b
 |[],b=>by simp[gE]
 |x::a,b=>by simp only[IW,gE,sj a b];omega
def DP{l:List Tr}{y:Nat}(h:y<l.length):gE (l.take (y+1))=gE (l.take y)+(l.getD y default).sz:=by rw[dH h,sj];simp[gE]
def vT(l:List Tr)(y:Nat):gE (l.take y)<=gE l:=by
 have:=sj (l.take y) (l.drop y);rw[Ek]at this;omega
noncomputable def s20(N:Nat):DM.Spec:=bp (λts=>∃a l,ts=[.agg [ti a,.sl (dT l)]]/\(Tr.mk a l).sz<=N) (fun|[.agg d]=>ti (KE d).sz|_=>.bool false) true
def t42(r:bC):aJ ak 56 [.agg r.enc] (.sl (au (eu r))):=by
 obtain⟨rk,rh,ra,rb,rp,rg⟩:=r;obtain⟨R,hR⟩:=aY (eu ⟨rk,rh,ra,rb,rp,rg⟩);rw[hR];simp only[eu]at hR;have bb:=(aw.nil:aw ak (bz []));refine c42.ok (by simp) (aH ?_);simp[bC.enc];apply aa.ai bb fw [1];simp[anC];refine aa.lk (o:=[]) (l:=[(1,.v (.box [ti rk,ti rh,ti ra,ti rb,ti rp,ti rg]))]) (bn:=1200) (by simp) ?_;apply aa.sq bb fw [1,4];simp[anD];apply aa.block;apply aa.ai bb fw [1,4,5];simp[ayJ];refine aa.cond rfl (λh1=>?_) (λh1=>?_)
 .have h1:rk=3:=by simpa using h1
  rw[ee h1]at hR;subst hR;apply aa.ai bb fw [2];simp[ayK,di];apply aa.ret;simp[dI,au]
 .have h1:¬rk=3:=by simpa using h1
  rw[iK h1]at hR;apply aa.ai bb fw [1,10];simp[ayL];refine aa.cond rfl (λh2=>?_) (λh2=>?_)
  .have h2:rk=4:=by simpa using h2
   rw[ee h2]at hR;subst hR;apply aa.ai bb fw [2];simp[ayM,di];apply aa.ret;simp[dI,au]
  .have h2:¬rk=4:=by simpa using h2
   rw[iK h2]at hR;subst hR;apply aa.skip;simp;apply aa.ai bb fw [2];simp[ayN];apply aa.ret;simp[dI,au]
def ur(aj:List bC):∀a b:List Tr,dD aj (a++b)=dD aj a+dD aj b
 |[],b=>by simp[dD]
 |x::a,b=>by simp only[IW,dD,ur aj a b];omega
def HQ{l:List Tr}{y:Nat}(h:y<l.length):dD aj (l.take (y+1))=dD aj (l.take y)+fF aj (l.getD y default):=by rw[dH h,ur];simp[dD]
def KF(hr:∀r∈aj,0<=r.bi/\r.bi<=1000)(k:Nat):0<=(aj.getD k default).bi/\(aj.getD k default).bi<=1000:=by
 by_cases h:k<aj.length
 .exact hr _ (bu h)
 .rw[show aj.getD k default=default by simp[List.getD,h]];exact⟨by decide,by decide⟩
mutual
def nE{aj:List bC}(hr:∀r∈aj,0<=r.bi/\r.bi<=1000):∀d:Tr,0<=fF aj d/\fF aj d<=1000*d.sz
 |.mk n ks=>by
  have:=AB hr ks;have:=KF hr n.toNat;simp only[fF,Tr.sz];omega
def AB{aj:List bC}(hr:∀r∈aj,0<=r.bi/\r.bi<=1000):∀ks:List Tr,0<=dD aj ks/\dD aj ks<=1000*gE ks
 |[]=>by simp[dD,gE]
 |k::ks=>by
  have:=nE hr k;have:=AB hr ks;simp only[dD,gE];omega
end
def N6(aj:List bC):Tr->Prop:=λd=>∃h,eG aj h d=true
def XL{m:Int}(h:N6 aj (.mk m ks)):(0<=m/\m<aj.length)/\ks.length=(eu (aj.getD m.toNat default)).length/\∀y,y<ks.length->N6 aj (ks.getD y default):=by
 obtain⟨hd,h⟩:=h;simp only[eG,mA,yN]at h;refine⟨h.1.1.1,h.1.2,λy hy=>?_⟩;have:∀(ts:ba) (ks:List Tr),ts.length=ks.length->ng aj ts ks=true->∀y,y<ks.length->N6 aj (ks.getD y default):=by
  intro ts;induction ts with
  |nil=>intro ks h1 _ y hy;cases ks<;>simp_all
  |cons t ts ih=>
   intro ks h1 h2 y hy;cases ks with
   |nil=>simp at hy
   |cons k ks=>
    simp only[ng,mA]at h2;cases y with
    |zero=>exact⟨t,by simpa using h2.1⟩
    |succ y=>simpa using ih ks (by simpa using h1) h2.2 y (by simpa using hy)
 exact this _ _ h.1.2.symm h.2 y hy
def qJ{l:List bC}{y:Nat}{r:bC}(h:y<l.length)(e:l.getD y default=r):DM.rowAt (aQ l) y=r.enc:=by rw[fE h,e]
noncomputable def s28(nt nn ns:Int)(aj:List bC)(N:Nat):DM.Spec:=bp (λts=>∃a l,ts=[.agg [ti nt,ti nn,ti ns,.sl (aQ aj)],.agg [ti a,.sl (dT l)]]/\(Tr.mk a l).sz<=N/\N6 aj (.mk a l)) (fun|[.agg [_,_,_,.sl r],.agg d]=>ti (fF (kP r) (KE d))|_=>.bool false) true
def t28(nt nn ns:Int)(aj:List bC)(hr:∀r∈aj,0<=r.bi/\r.bi<=1000):∀(N:Nat) (d:Tr),d.sz<=N->d.sz<=4194304->N6 aj d->aJ ak 20 [.agg [ti nt,ti nn,ti ns,.sl (aQ aj)],.agg d.enc] (ti (fF aj d)):=by
 intro N;induction N with
 |zero=>intro d h;have:=zy d;omega
 |succ N ih=>
  rintro⟨m,ks⟩ h1 h2 h3;have bb:aw ak (bz [(20,s28 nt nn ns aj (min N 4194304))]):=by
   refine aw.cons aw.nil ?_;rintro ts ⟨a,l,rfl,h,k⟩;exact⟨by simpa [s28,Tr.enc]using ih (.mk a l) (by omega) (by omega) k,λ_=>rfl⟩
  obtain⟨⟨m1,m2⟩,_,h4⟩:=XL h3;obtain⟨m,rfl⟩:=bX m1;have m2:m<aj.length:=by omega
  obtain⟨⟨rk,rh,ra,rb,rp,rg⟩,qU⟩:=aY (aj.getD m default);have Yu:=qJ m2 qU;have hrp:=hr ⟨rk,rh,ra,rb,rp,rg⟩ (by rw[<-qU];exact bu m2);simp only at hrp;have dB:fF aj (.mk m ks)=rp+dD aj ks:=by simp only[fF,gN,qU]
  simp only[Tr.sz]at h1 h2;have io:=oq ks;rw[dB];refine c28.ok (by simp) (aH ?_);simp[Tr.enc];apply aa.ai bb fw [2,3];simp[aqy];refine aa.lk (o:=[]) (l:=[(2,.v (.box [ti nt,ti nn,ti ns,.sl (aQ aj)])),(3,.v (.box [ti m,.sl (dT ks)]))]) (bn:=1200) (by simp) ?_;apply aa.ai bb fw [2,3,5];simp[DA,m2,Yu,bC.enc];apply aa.sq bb fw [2,3,5,6];simp[aqz];apply aa.block;refine aa.loop (λy:Nat=>⟨DM.look [(2,.v (.box [ti nt,ti nn,ti ns,.sl (aQ aj)])),(3,.v (.box [ti m,.sl (dT ks)])),(5,.v (ti (rp+dD aj (ks.take y)))),(6,.v (ti y))],cR [],2000,1000,[]⟩)
   (λy=>y<=ks.length) (λy=>ks.length-y) 0 (Le.aL (o:=[]) ?_ ?_ ?_ ?_) (by simp) (λy hy=>?_)
  iterate 3(·simp)
  .simp[dD]
  apply aa.sq bb fw [2,3,5,6,18];simp[aqA];refine aa.cond rfl (λaS=>?_) (λaS=>?_)
  .have aS:y<ks.length:=by simpa using aS
   apply aa.skip;simp;apply aa.seq;apply aa.block;have ht:=DP aS;have Zg:=HQ (aj:=aj) aS;have hz:=HP aS;have avM:=vT ks (y+1);have mr:=h4 y aS;have Un:=nE hr (ks.getD y default);have hp3:=AB hr (ks.take y);obtain⟨⟨ka,kl⟩,hk⟩:=aY (ks.getD y default);rw[hk]at ht hz Zg mr Un;have rr:=DO aS hk;have hS:rp+dD aj (ks.take (y+1))=rp+dD aj (ks.take y)+fF aj (.mk ka kl):=by omega
   apply aa.cZ bb fw [2,3,5,6];simp[aqB,aS,rr,s28];refine⟨⟨_,_,⟨rfl,rfl⟩,by omega,mr⟩, ?_⟩;rw[av (by omega)];apply aa.cZ bb fw [2,3,5,6];simp[aeF];rw[av (x:=(y:Int)+1) (by omega)];refine⟨y+1,Le.aL (o:=[]) ?_ ?_ ?_ ?_,by omega,by omega⟩;iterate 3(·simp)
   .simp[hS]
  .have fI:y=ks.length:=by simp at aS;omega
   subst fI;rw[uJ];apply aa.exit;simp;apply aa.ai bb fw [4];simp[aqC];apply aa.ret;simp[dI]
def ut(aj:List bC):∀a b:List Tr,dZ aj (a++b)=dZ aj a++dZ aj b
 |[],b=>by simp[dZ]
 |x::a,b=>by simp only[IW,dZ,ut aj a b,xm]
def HR{l:List Tr}{y:Nat}(h:y<l.length):dZ aj (l.take (y+1))=dZ aj (l.take y)++dw aj (l.getD y default):=by rw[dH h,ut];simp[dZ]
mutual
def qK(aj:List bC):∀d:Tr,(dw aj d).length<=d.sz
 |.mk n ks=>by
  have:=wO aj ks;simp only[dw,Tr.sz];split<;>simp<;>omega
def wO(aj:List bC):∀ks:List Tr,(dZ aj ks).length<=gE ks
 |[]=>by simp[dZ,gE]
 |k::ks=>by
  have:=qK aj k;have:=wO aj ks;simp only[dZ,gE,nH];omega
end
def SX(l:ba):∀x∈au l,x.length=1:=by
 intro x hx;simp only[au,sE]at hx;obtain⟨_,_,rfl⟩:=hx;rfl
def HS(a b:ba):au (a++b)=au a++au b:=by simp[au]
noncomputable def s27(nt nn ns:Int)(aj:List bC)(N:Nat):DM.Spec:=bp (λts=>∃a l,ts=[.agg [ti nt,ti nn,ti ns,.sl (aQ aj)],.agg [ti a,.sl (dT l)]]/\(Tr.mk a l).sz<=N/\N6 aj (.mk a l)) (fun|[.agg [_,_,_,.sl r],.agg d]=>.sl (au (dw (kP r) (KE d)))|_=>.bool false) false
def t27(nt nn ns:Int)(aj:List bC):∀(N:Nat) (d:Tr),d.sz<=N->d.sz<=4194304->N6 aj d->aJ ak 19 [.agg [ti nt,ti nn,ti ns,.sl (aQ aj)],.agg d.enc] (.sl (au (dw aj d))):=by
 intro N;induction N with
 |zero=>intro d h;have:=zy d;omega
 |succ N ih=>
  rintro⟨m,ks⟩ h1 h2 h3;have bb:aw ak (bz [(19,s27 nt nn ns aj (min N 4194304))]):=by
   refine aw.cons aw.nil ?_;rintro ts ⟨a,l,rfl,h,k⟩;exact⟨by simpa [s27,Tr.enc]using ih (.mk a l) (by omega) (by omega) k,λh=>by cases h⟩
  obtain⟨⟨m1,m2⟩,_,h4⟩:=XL h3;obtain⟨m,rfl⟩:=bX m1;have m2:m<aj.length:=by omega
  obtain⟨⟨rk,rh,ra,rb,rp,rg⟩,qU⟩:=aY (aj.getD m default);have Yu:=qJ m2 qU;obtain⟨R,hR⟩:=aY (dw aj (.mk m ks));rw[hR];simp only[dw,gN,qU]at hR;simp only[Tr.sz]at h1 h2;have io:=oq ks;refine c27.ok (by simp) (aH ?_);simp[Tr.enc];apply aa.ai bb fw [2,3];simp[ayz];refine aa.lk (o:=[]) (l:=[(2,.v (.box [ti nt,ti nn,ti ns,.sl (aQ aj)])),(3,.v (.box [ti m,.sl (dT ks)]))]) (bn:=1200) (by simp) ?_;apply aa.ai bb fw [2,3,5];simp[ayA,m2,Yu,bC.enc];refine aa.lk (o:=[]) (l:=[(2,.v (.box [ti nt,ti nn,ti ns,.sl (aQ aj)])),(3,.v (.box [ti m,.sl (dT ks)])),(5,.v (.box [ti rk,ti rh,ti ra,ti rb,ti rp,ti rg]))]) (bn:=1200) (by simp) ?_;apply aa.sq bb fw [2,3,5,16];simp[ayB];refine aa.cond rfl (λg=>?_) (λg=>?_)
  .have g:rk=2:=by simpa using g
   rw[ee g]at hR;subst hR;apply aa.ai bb fw [4];simp[ayC,di];apply aa.ret;simp[dI,au]
  .have g:¬rk=2:=by simpa using g
   rw[iK g]at hR;subst hR;apply aa.skip;simp;apply aa.ai bb fw [2,3,6];simp[ayD];refine aa.lk (o:=[]) (l:=[(2,.v (.box [ti nt,ti nn,ti ns,.sl (aQ aj)])),(3,.v (.box [ti m,.sl (dT ks)])),(6,.aZ)]) (bn:=1400) (by simp) ?_;refine aa.le (Le.j7 (k:=6) 3 (sz:=1) (by omega) (by simp)) ?_;rw[jY];apply aa.sq bb fw [2,3,6,7];simp[ayE];apply aa.block;refine aa.loop (λy:Nat=>⟨DM.look [(2,.v (.box [ti nt,ti nn,ti ns,.sl (aQ aj)])),(3,.v (.box [ti m,.sl (dT ks)])),(6,.aW 1400 0),(7,.v (ti y))],cR [(1400,.bm 0 3 1 (au (dZ aj (ks.take y))))],1600,1000,[]⟩)
    (λy=>y<=ks.length) (λy=>ks.length-y) 0 (Le.aL ?_ ?_ ?_ ?_) (by simp) (λy hy=>?_)
   .simp
   .simp
   .simp[dZ,au]
   .simp
   apply aa.sq bb fw [2,3,6,7,24];simp[ayF];refine aa.cond rfl (λaS=>?_) (λaS=>?_)
   .have aS:y<ks.length:=by simpa using aS
    apply aa.skip;simp;apply aa.seq;apply aa.block;have ht:=DP aS;have Zg:=HR (aj:=aj) aS;have hz:=HP aS;have avM:=vT ks (y+1);have mr:=h4 y aS;have Un:=qK aj (ks.getD y default);have hp3:=wO aj (ks.take y);obtain⟨⟨ka,kl⟩,hk⟩:=aY (ks.getD y default);rw[hk]at ht hz Zg mr Un;have rr:=DO aS hk;obtain⟨yl,sZ⟩:=aY (dw aj (.mk ka kl));rw[sZ]at Zg Un;have hS:au (dZ aj (ks.take (y+1)))=au (dZ aj (ks.take y))++au yl:=by rw[Zg,HS]
    apply aa.cZ bb fw [2,3,6,7];simp[ayG,aS,rr,s27,cw,sZ];refine⟨⟨_,_,⟨rfl,rfl⟩,by omega,mr⟩,⟨SX yl,by omega,by omega⟩, ?_⟩;apply aa.cZ bb fw [2,3,6,7];simp[ayH];rw[av (x:=(y:Int)+1) (by omega)];refine⟨y+1,Le.aL ?_ ?_ ?_ ?_,by omega,by omega⟩
    .simp
    .simp
    .simp[hS]
    .simp
   .have fI:y=ks.length:=by simp at aS;omega
    subst fI;rw[uJ];apply aa.exit;simp;apply aa.ai bb fw [4];simp[ayI];apply aa.ret;simp[dI]
def uu(aj:List bC):∀(ts:ba) (ks:List Tr),ts.length=ks.length->(ng aj ts ks=true↔∀y,y<ts.length->eG aj (ts.getD y default) (ks.getD y default)=true)
 |[],[],_=>by simp[ng]
 |[],_::_,h=>by simp at h
 |_::_,[],h=>by simp at h
 |t::ts,k::ks,h=>by
  simp only[ng,mA,uu aj ts ks (by simpa using h),B8];constructor
  .rintro⟨h1,h2⟩ y hy;cases y with
   |zero=>simpa using h1
   |succ y=>simpa using h2 y (by omega)
  .exact λH=>⟨by simpa using H 0 (by omega),λy hy=>by simpa using H (y+1) (by omega)⟩
def wP{h m:Int}:eG aj h (.mk m ks)=true↔(0<=m/\m<aj.length)/\(aj.getD m.toNat default).head=h/\ks.length=(eu (aj.getD m.toNat default)).length/\∀y,y<(eu (aj.getD m.toNat default)).length->eG aj ((eu (aj.getD m.toNat default)).getD y default) (ks.getD y default)=true:=by
 simp only[eG,mA,yN];constructor
 .rintro⟨⟨⟨a,b⟩,c⟩,d⟩;exact⟨a,b,c,(uu aj _ _ c.symm).1 d⟩
 .rintro⟨a,b,c,d⟩;exact⟨⟨⟨a,b⟩,c⟩,(uu aj _ _ c.symm).2 d⟩
def N3(r:bC):(eu r).length<=2:=by unfold eu;split<;>(try split)<;>simp
abbrev s42:DM.Spec:=bp (λts=>∃a b c d e f,ts=[.agg [ti a,ti b,ti c,ti d,ti e,ti f]]) (fun|[.agg r]=>.sl (au (eu (mJ r)))|_=>.bool false) false
noncomputable def s24(nt nn ns:Int)(aj:List bC)(N:Nat):DM.Spec:=bp (λts=>∃h a l,ts=[.agg [ti nt,ti nn,ti ns,.sl (aQ aj)],ti h,.agg [ti a,.sl (dT l)]]/\(Tr.mk a l).sz<=N) (fun|[.agg [_,_,_,.sl r],.int _ h,.agg d]=>.bool (eG (kP r) h (KE d))|_=>.bool false) true
def t24(nt nn ns:Int)(aj:List bC):∀(N:Nat) (d:Tr) (h:Int),d.sz<=N->d.sz<=4194304->aJ ak 18 [.agg [ti nt,ti nn,ti ns,.sl (aQ aj)],ti h,.agg d.enc] (.bool (eG aj h d)):=by
 intro N;induction N with
 |zero=>intro d _ h;have:=zy d;omega
 |succ N ih=>
  rintro⟨m,ks⟩ h h1 h2;have bb:aw ak (bz [(18,s24 nt nn ns aj (min N 4194304)),(56,s42)]):=by
   refine aw.cons (aw.cons aw.nil ?_) ?_
   .rintro ts ⟨a,b,c,d,e,f,rfl⟩;exact⟨by simpa [bC.enc,mJ,dg]using t42 ⟨a,b,c,d,e,f⟩,λh=>by cases h⟩
   .rintro ts ⟨h,a,l,rfl,hs⟩;exact⟨by simpa [s24,Tr.enc]using ih (.mk a l) h (by omega) (by omega),λ_=>rfl⟩
  obtain⟨v,hv⟩:=aY (eG aj h (.mk m ks));have dB:=wP (aj:=aj) (h:=h) (m:=m) (ks:=ks);rw[hv]at dB⊢;have cW:∀{p:Prop},(v=true->p)->¬p->v=false:=λh1 h2=>by cases v with|false=>rfl|true=>exact qe (h1 rfl) h2
  simp only[Tr.sz]at h1 h2;have io:=oq ks;refine c24.ok (by simp) (aH ?_);simp[Tr.enc];apply aa.ai bb fw [1,3,5];simp[an9];refine aa.lk (o:=[]) (l:=[(1,.v (ti h)),(3,.v (.box [ti nt,ti nn,ti ns,.sl (aQ aj)])),(5,.v (.box [ti m,.sl (dT ks)]))]) (bn:=1200) (by simp) ?_;apply aa.seq;obtain⟨c1,bN⟩:=aY (decide (m<0\/(aj.length:Int)<=m\/¬(aj.getD m.toNat default).head=h):Bool);refine aa.bL bb fw [(3,.v (.box [ti nt,ti nn,ti ns,.sl (aQ aj)])),(5,.v (.box [ti m,.sl (dT ks)])),(30,.v (.bool c1))] ?_ ?_
  .by_cases q1:m<0
   .have:c1=true:=by rw[<-bN];simp[q1]
    simp[aoa,q1,this]
   .obtain⟨m,rfl⟩:=bX (show 0<=m by omega);by_cases q2:aj.length<=m
    .have:c1=true:=by rw[<-bN];simp[q2]
     simp[aoa,q1,q2,this]
    .obtain⟨⟨rk,rh,ra,rb,rp,rg⟩,qU⟩:=aY (aj.getD m default);have Yu:=qJ (by omega) qU;simp only[gN,qU]at bN;have q4:m<aj.length:=by omega
     by_cases q3:rh=h
     .have:c1=false:=by rw[<-bN];simp[q2,q3]
      simp[aoa,q1,q2,q3,q4,Yu,bC.enc,this]
     .have:c1=true:=by rw[<-bN];simp[q3]
      simp[aoa,q1,q2,q3,q4,Yu,bC.enc,this]
  refine aa.cond rfl (λg=>?_) (λg=>?_)
  .rw[g]at bN;have bN:=BN bN;apply aa.ai bb fw [6];simp[aob];apply aa.ret;rw[cW dB.1 (λk=>by have:=k.1;have:=k.2.1;omega)];simp[dI]
  .rw[g]at bN;have bN:=uF bN;obtain⟨m,rfl⟩:=bX (show 0<=m by omega);have m2:m<aj.length:=by omega
   simp only[gN]at dB bN;obtain⟨⟨rk,rh,ra,rb,rp,rg⟩,qU⟩:=aY (aj.getD m default);have Yu:=qJ m2 qU;rw[qU]at dB bN;have yE:=N3 ⟨rk,rh,ra,rb,rp,rg⟩;apply aa.skip;simp;apply aa.ai bb fw [3,5,7];simp[aoc,m2,Yu,bC.enc,mJ,dg];obtain⟨kl,vr⟩:=aY (eu ⟨rk,rh,ra,rb,rp,rg⟩);rw[vr]at dB yE⊢;apply aa.sq bb fw [3,5,7,43];simp[aod];refine aa.cond rfl (λg4=>?_) (λg4=>?_)
   .have g4:¬ks.length=kl.length:=by simp at g4;omega
    apply aa.ai bb fw [6];simp[aoe];apply aa.ret;rw[cW dB.1 (λk=>g4 k.2.2.1)];simp[dI]
   .have g4:ks.length=kl.length:=by simp at g4;omega
    apply aa.skip;simp;apply aa.sq bb fw [3,5,7,8];simp[aof];apply aa.block;refine aa.loop (λy:Nat=>⟨DM.look [(3,.v (.box [ti nt,ti nn,ti ns,.sl (aQ aj)])),(5,.v (.box [ti m,.sl (dT ks)])),(7,.v (.sl (au kl))),(8,.v (ti y))],cR [],2000,1000,[]⟩)
     (λy=>y<=kl.length/\∀i,i<y->eG aj (kl.getD i default) (ks.getD i default)=true) (λy=>kl.length-y) 0 (Le.aL (o:=[]) ?_ ?_ ?_ ?_) (by simp) (λy hy=>?_)
    iterate 4(·simp)
    obtain⟨vy,fI⟩:=hy;apply aa.sq bb fw [3,5,7,8,47];simp[aog];refine aa.cond rfl (λaS=>?_) (λaS=>?_)
    .have aS:y<kl.length:=by simpa using aS
     apply aa.skip;simp;apply aa.seq;apply aa.block;have mZ:y<ks.length:=by omega
     have hz:=HP mZ;obtain⟨⟨ka,ll⟩,hk⟩:=aY (ks.getD y default);rw[hk]at hz;have rr:=DO mZ hk;have rr2:=bA aS;obtain⟨x,hx⟩:=aY (kl.getD y default);rw[hx]at rr2;apply aa.ai bb fw [3,5,7,8,61];simp[aoh,aS,mZ,rr,rr2,s24];refine⟨⟨_,_,_,⟨rfl,rfl,rfl⟩,by omega⟩, ?_⟩;refine aa.cond rfl (λg8=>?_) (λg8=>?_)
     .have g8:eG aj x (.mk ka ll)=false:=by simpa using g8
      apply aa.ai bb fw [6];simp[aoi];apply aa.ret;rw[cW dB.1 (λk=>by have:=k.2.2.2 y aS;rw[hx,hk,g8]at this;cases this)];simp[dI]
     .have g8:eG aj x (.mk ka ll)=true:=by simpa using g8
      apply aa.skip;simp;apply aa.cZ bb fw [3,5,7,8];simp[agC];rw[av (x:=(y:Int)+1) (by omega)];refine⟨y+1,Le.aL (o:=[]) ?_ ?_ ?_ ?_,⟨by omega,λi hi=>?_⟩,by omega⟩;iterate 4(·simp)
      .by_cases e:i=y
       .subst e;show eG aj (kl.getD i default) (ks.getD i default)=true;rw[hk,hx];exact g8
       .exact fI i (by omega)
    .have El:y=kl.length:=by simp at aS;omega
     subst El;apply aa.exit;simp;apply aa.ai bb fw [6];simp[agD];apply aa.ret;have:v=true:=dB.2 ⟨by omega,by simp only at bN⊢;omega,g4,fI⟩;rw[this];simp[dI]
end
end Go.Proofs.It
namespace Go.Proofs
namespace It
open Go.DM
def Qp:=aB 16 0
def yk:=aB 16 1
def adb:=aB 16 2
def Qq:=aB 16 3
def Qr:=aB 16 4
def adc:=aB 16 5
def atg:=aB 16 6
def Qt:=aB 16 7
def ade:=aB 16 8
def adf:=aB 16 9
def Zo:=aB 16 10
def Zp:=aB 16 11
def KZ:=aB 16 12
noncomputable def as3:DC:=fo 16
def ae5 [bD]:aR ak 16 62 as3 (dI 6):=.at
def Qk:=aB 54 0
def Ql:=aB 54 1
def Qm:=aB 54 2
def ac0:=aB 54 3
def Qn:=aB 54 4
def ac1:=aB 54 5
def Qo:=aB 54 6
noncomputable def as4:DC:=fo 54
def ae4 [bD]:aR ak 54 17 as4 (dI 2):=.at
def Qu:=aB 48 0
def Qv:=aB 48 1
def Qw:=aB 48 2
def Qx:=aB 48 3
def ac5:=aB 48 4
def ac6:=aB 48 5
def ac7:=aB 48 6
def ac8:=aB 48 7
def ac9:=aB 48 8
def ada:=aB 48 9
def Zn:=aB 48 10
noncomputable def as5:DC:=fo 48
def ae6 [bD]:aR ak 48 35 as5 (dI 4):=.at
def Qy:=aB 51 0
def Qz:=aB 51 1
def QA:=aB 51 2
def QB:=aB 51 3
def ac2:=aB 51 4
def ac3:=aB 51 5
def ac4:=aB 51 6
def QC:=aB 51 7
noncomputable def as6:DC:=fo 51
def ae7 [bD]:aR ak 51 29 as6 (dI 4):=.at
def H0:=aB 47 0
def H1:=aB 47 1
def QD:=aB 47 2
def QE:=aB 47 3
def QF:=aB 47 4
def QG:=aB 47 5
def QH:=aB 47 6
def adg:=aB 47 7
def QI:=aB 47 8
def QJ:=aB 47 9
noncomputable def as7:DC:=fo 47
def YD [bD]:aR ak 47 26 as7 (dI 4):=.at
end It
end Go.Proofs
namespace Go.Proofs.It
open Go.DM
mutual
def F4:Tr->Prop
 |.mk _ ks=>ks.length<=9223372036854775807/\Oa ks
def Oa:List Tr->Prop
 |[]=>True
 |k::ks=>F4 k/\Oa ks
end
def Xr:∀{l:List Tr} {y:Nat},Oa l->y<l.length->F4 (l.getD y default)
 |[],_,_,h=>by simp at h
 |k::l,0,h,_=>by simp only[Oa]at h;simpa using h.1
 |k::l,y+1,h,hy=>by simp only[Oa]at h;simpa using Xr h.2 (by simpa using hy)
end Go.Proofs.It
namespace Go.Proofs
open Go.DM Go.DM.iN
def JI(x:Input):Prop:=((x.ag.length:Int)<=60/\(x.insert.length:Int)<=100)/\inV x x.insert.length
def pb{x:Input}(h:JI x):Sg x/\x.ag.length<=60/\x.insert.length<=100/\(∀c∈x.ag,c.read.length=x.insert.length):=by
 obtain⟨⟨h1,h2⟩,h3,h4⟩:=h;have Vy:pM x.ag x.insert.length:=by
  by_cases e:pM x.ag x.insert.length
  .exact e
  .exact qe (.inr (.inr (.inr (.inr (.inr e))))) h3
 have hc:∀c∈x.ag,AT c x.insert.length:=by
  intro c hc;obtain⟨i,hi,rfl⟩:=OQ hc;have:=Vy i hi
  rwa [show x.ag.getD i default=x.ag[i]by simp[List.getD,hi]]at this
 have pB:0<=x.swap/\x.swap<=60000:=by
  constructor
  .by_cases e:x.swap<0
   .exact qe (.inr (.inr (.inr (.inl e)))) h3
   .omega
  .by_cases e:x.swap>60000
   .exact qe (.inr (.inr (.inr (.inr (.inl e))))) h3
   .omega
 have hn:x.ag.length<=60:=by
  by_cases e:(x.ag.length:Int)>60
  .exact qe (.inr (.inl e)) h3
  .omega
 have Oy:∀c∈x.ag,c.read.length=x.insert.length:=by
  intro c Ef;have:=(hc c Ef).1;omega
 refine⟨⟨⟨by omega,λc Ef=>?_⟩,λc Ef=>⟨by rw[Oy c Ef];omega,λp hp=>?_⟩,by omega,λp hp=>?_,pB.1,by omega⟩,hn,by omega,Oy⟩
 .have:=(hc c Ef).1;omega
 .obtain⟨t,ht,rfl⟩:=OQ hp;have:=(hc c Ef).2 t (by rw[Oy c Ef]at ht;simpa using ht);unfold pN at this;rw[show c.read.getD t default=c.read[t]by simp[List.getD,ht]]at this;omega
 .obtain⟨t,ht,rfl⟩:=OQ hp;have:=h4 t (by simpa using ht);unfold Hg at this;rw[show x.insert.getD t default=x.insert[t]by simp[List.getD,ht]]at this;omega
def JJ{x:Input}(h:JI x):∀c∈x.ag,AT c x.insert.length:=by
 obtain⟨⟨h1,h2⟩,h3,h4⟩:=h;have Vy:pM x.ag x.insert.length:=by
  by_cases e:pM x.ag x.insert.length
  .exact e
  .exact qe (.inr (.inr (.inr (.inr (.inr e))))) h3
 intro c hc;obtain⟨i,hi,rfl⟩:=OQ hc;have:=Vy i hi
 rwa [show x.ag.getD i default=x.ag[i]by simp[List.getD,hi]]at this
def Pi{x:Input}(h:JI x){t:Nat}(ht:t<x.insert.length):1<=x.insert.getD t default:=by
 have:=h.2.2 t (by simpa using ht);unfold Hg at this;omega
def JK{x:Input}(h:JI x):∀a∈eK x,C3 (2*x.ag.length+1:Nat) x.insert.length a:=by
 obtain⟨g1,g2,g3,g4⟩:=pb h;have hc:=JJ h;have Vz:∀m,m<x.ag.length->(x.ag.getD m default).kind<x.insert.length:=by
  intro m hm;have:=(hc (x.ag.getD m default) (by simp[List.getD,hm])).1;omega
 intro a ha;obtain⟨hm,nU⟩:=zT ha;unfold C3;rcases hm with hm|hm
 .obtain⟨i,_,hi,hm⟩:=gF hm;unfold rI at hm;rw[lF]at hm;rcases hm with hm|hm
  .obtain⟨m,Tf,Q9,hm⟩:=gF hm;unfold rM at hm;rw[lF]at hm;rcases hm with hm|hm
   .obtain⟨t,_,ht,hm⟩:=gF hm;unfold rA at hm;split at hm
    .rename_i hr;simp only[uy]at hm;subst hm;have:=Pj (cm g1.1 i m).1 hr.2;simp only at nU⊢;omega
    .simp at hm
   .unfold rS at hm;split at hm
    .rename_i hr;simp only[uy]at hm;subst hm;have:=Pj (cm g1.1 i m).1 g1.2.2.2.2.1;unfold cG at hr;rw[yN]at hr;have:=Vz (m+1) hr.1;simp only at nU⊢;omega
    .simp at hm
  .obtain⟨hr,rfl⟩:=BI hm;unfold cG at hr;rw[yN]at hr;have:=Vz i (by omega);simp only;omega
 .obtain⟨i,_,hi,hm⟩:=gF hm;unfold iI at hm;obtain⟨m,Tf,Q9,hm⟩:=gF hm;unfold iM at hm;obtain⟨t,_,ht,hm⟩:=gF hm;simp only[iT,uy]at hm;subst hm;have:=TE (cm g1.1 i m).1 (Pi h ht);simp only at nU⊢;omega
def Fw{x:Input}(h:JI x):eG (aI x) x.insert.length:=by
 obtain⟨g1,g2,g3,g4⟩:=pb h;have ct:(aI x).bj.length=2*x.ag.length+1:=wA x _;have iO:(aI x).bf=2*x.ag.length+1:=rfl;refine⟨⟨by omega,by omega⟩,λi hi=>?_,λi hi=>⟨?_, ?_⟩⟩
 .rw[ct]at hi;unfold JL;have:(aI x).bj.getD i default=if i % 2=0 then ez x (i/2) x.ag.length else 1099511627776:=by
   simp[aI,fe,List.getD,hi]
  rw[this];split
  .exact cm g1.1 _ _
  .omega
 .have:=JK h ((aI x).aK.getD i default) (by simp only[List.getD,mM hi,GA];exact MK hi);rw[iO];simpa using this
 .by_cases hi0:i=0
  .exact .inl hi0
  .right;have hs:=jI x;rw[Zcv]at hs;have:=hs (i-1) i (by show i-1<(aI x).aK.length;omega) hi (by omega);have e1:(aI x).aK.getD (i-1) default=(eK x)[i-1]'(by show i-1<(aI x).aK.length;omega):=by
    simp only[List.getD];rw[mM (by omega)];rfl
   have e2:(aI x).aK.getD i default=(eK x)[i]'hi:=by
    simp only[List.getD];rw[mM hi];rfl
   rw[e1,e2];exact this
def VB{x:Input}(h:JI x):qR x=aI x:=by
 obtain⟨h1,h2,h3,h4⟩:=pb h;exact Ly ⟨λp hp=>(h1.2.2.2.1 p hp).1,h1.2.2.2.2.1⟩ h1.1 h4
def VC{x:Input}(h:JI x):(lT x).length<=900000:=by
 obtain⟨h1,h2,h3,h4⟩:=pb h;rw[<-Gg,EO ⟨λp hp=>(h1.2.2.2.1 p hp).1,h1.2.2.2.2.1⟩ h1.1 h4];exact JM (by omega) h2
def Fx{x:Input}(h:JI x):aJ ak 21 [x.enc] (aI x).enc:=by
 rw[<-VB h];have:=VC h;exact t12 x (pb h).1 (by unfold qA;omega) (by omega)
end Go.Proofs
namespace Go.Proofs.It
open Go.DM Go.DM.iN
def toR(r:bC):aT.bC:=⟨r.kind,r.head,r.a,r.b,r.bi,r.origin⟩
def toI(n:ay):aT.ay:=⟨n.aX,n.an,n.start,n.aj.map toR⟩
def toI_enc(n:ay):(toI n).enc=n.enc:=by
 simp only[toI,aT.ay.enc,ay.enc,aT.aQ,aQ,Zc3];rfl
abbrev gV:aw ak (bz []):=aw.nil
end Go.Proofs.It
namespace Go.Proofs
namespace It
open Go.DM
end It
end Go.Proofs
namespace Go.Proofs.It
open Go.DM Go.DM.iN
section
variable(ok:List Bool->bC->Bool)
variable{ok}
end
abbrev VA:=aT.cX
def AX(aK:List bF):Int->ba->Int->Int->Prop
 |s,[],t,w=>s=t/\w=0
 |s,a::y,t,w=>∃c∈aK,c.f=s/\c.term=a/\∃w',AX aK c.t y t w'/\w=c.aA+w'
def AX.append{aK:List bF}:∀{a b:ba} {s m t w1 w2:Int},AX aK s a m w1->AX aK m b t w2->AX aK s (a++b) t (w1+w2)
 |[],b,s,m,t,w1,w2,⟨h1,h2⟩,k=>by subst h1 h2;simpa using k
 |i::is,b,s,m,t,w1,w2,⟨q,h1,h2,h3,w',h4,h5⟩,k=>⟨q,h1,h2,h3,w'+w2,AX.append h4 k,by omega⟩
def AX.split{aK:List bF}:∀{a b:ba} {s t w:Int},AX aK s (a++b) t w->∃m w1 w2,AX aK s a m w1/\AX aK m b t w2/\w=w1+w2
 |[],b,s,t,w,h=>⟨s,0,w,⟨rfl,rfl⟩,h,by omega⟩
 |i::is,b,s,t,w,⟨q,h1,h2,h3,w',h4,h5⟩=>by
  obtain⟨m,w1,w2,k1,k2,k3⟩:=AX.split h4;exact⟨m,q.aA+w1,w2,⟨q,h1,h2,h3,w1,k1,rfl⟩,k2,by omega⟩
def AX.mono{aK:List bF}(h:∀a∈aK,a.f<=a.t/\0<=a.aA):∀{y:ba} {s t w:Int},AX aK s y t w->s<=t/\0<=w
 |[],s,t,w,⟨h1,h2⟩=>by omega
 |i::is,s,t,w,⟨q,h1,h2,h3,w',h4,h5⟩=>by
  have:=h q h1;have:=AX.mono h h4;omega
def aka{aK:List bF}(h:∀a∈aK,0<=a.t){y:ba}{s:Nat}{c:Int}(p:iV aK y s c):AX aK 0 y s c:=by
 induction p with
 |nil=>exact⟨rfl,rfl⟩
 | @IC ys s c a p ha hf ih=>
  refine AX.append ih ⟨a,ha,hf,rfl,0,⟨?_,rfl⟩,by omega⟩;have:=h a ha;omega
def HY{x:Input}(h:JI x):ZL x:=by
 obtain⟨g1,g2,g3,g4⟩:=pb h;refine⟨λt=>?_,λi=>?_,g1.2.2.2.2.1⟩
 .unfold f7;by_cases ht:t<x.insert.length
  .have:=Pi h ht;omega
  .rw[List.getD,Ls (by omega)];exact Tg 0
 .unfold eL;by_cases hi:i<x.ag.length
  .exact(g1.1.2 (x.ag.getD i default) (by simp[List.getD,hi])).1
  .rw[List.getD,Ls (by omega)];exact Tg 0
end Go.Proofs.It
namespace Go.Proofs
namespace aT
open Go.DM
section
variable{h:Int}{z:Nat}
inductive DZ(n:ay)(l:aF):Int->Nat->Nat->Int->Nat->Prop
 |empty {s k:Nat} {r:bC} (hk:n.aj[k]? =some r) (h1:r.kind=1):DZ n l r.head s s r.bi 1
 |term {s t k a:Nat} {r:bC} {x:bF} (hk:n.aj[k]? =some r) (h1:r.kind=2) (ha:l.aK[a]? =some x) (h2:x.f=s) (h3:x.t=t) (h4:x.term=r.a):DZ n l r.head s t (r.bi+x.aA) 1
 |unary {s t k z:Nat} {c:Int} {r:bC} (hk:n.aj[k]? =some r) (h1:r.kind=3) (d:DZ n l r.a s t c z):DZ n l r.head s t (r.bi+c) (1+z)
 |fW {s m t k z z':Nat} {c c':Int} {r:bC} (hk:n.aj[k]? =some r) (h1:r.kind=4) (d1:DZ n l r.a s m c z) (d2:DZ n l r.b m t c' z'):DZ n l r.head s t (r.bi+c+c') (1+z+z')
section
variable{n:ay}{l:aF}
def DZ.nn(hn:qf n)(hl:wB l){s t:Nat}{c:Int}(d:DZ n l h s t c z):0<=c/\1<=z:=by
 induction d with
 |empty hk h1=>have:=(cP hn hk).1;unfold me at this;omega
 |term hk h1 ha h2 h3 h4=>
  have:=(cP hn hk).1;have:=hl.2.2.2 _ (Hf ha);unfold me at*;omega
 |unary hk h1 d ih=>have:=(cP hn hk).1;unfold me at this;omega
 |fW hk h1 d1 d2 i1 i2=>have:=(cP hn hk).1;unfold me at this;omega
def DZ.le(ha:∀a∈l.aK,a.f<=a.t){s t:Nat}{c:Int}(d:DZ n l h s t c z):s<=t:=by
 induction d with
 |empty=>omega
 |term _ _ hx h2 h3 _=>have:=ha _ (Hf hx);omega
 |unary _ _ _ ih=>exact ih
 |fW _ _ _ _ i1 i2=>omega
def DZ.head(hn:qf n){s t:Nat}{c:Int}(d:DZ n l h s t c z):0<=h/\h<n.an:=by
 cases d with
 |empty hk=>have:=(cP hn hk).1;exact⟨this.1,this.2.1⟩
 |term hk=>have:=(cP hn hk).1;exact⟨this.1,this.2.1⟩
 |unary hk=>have:=(cP hn hk).1;exact⟨this.1,this.2.1⟩
 |fW hk=>have:=(cP hn hk).1;exact⟨this.1,this.2.1⟩
def DZ.der(hn:qf n)(hl:wB l)(ha:∀a∈l.aK,a.f<=a.t){s t:Nat}{c:Int}(d:DZ n l h s t c z)(hc:c<1099511627776):Tq n l h s t ⟨c,min (z:Int) 1099511627776⟩:=by
 induction d with
 | @empty s k r hk h1=>
  have e:gv r.bi []=⟨r.bi,min ((1:Nat):Int) 1099511627776⟩:=by rw[Au,iK (by omega)];rfl
  exact⟨k,s,e▸nu.empty hk h1 (by rw[e];exact hc)⟩
 | @term s t k a r x hk h1 hx h2 h3 h4=>
  have e:gv (r.bi+x.aA) []=⟨r.bi+x.aA,min ((1:Nat):Int) 1099511627776⟩:=by rw[Au,iK (by omega)];rfl
  exact⟨k,a,e▸nu.term hk h1 hx h2 h3 h4 (by rw[e];exact hc)⟩
 | @unary s t k z c r hk h1 d ih=>
  have hp:=(cP hn hk).1.2.2.1;have:=d.nn hn hl;obtain⟨k1,g1,d1⟩:=ih (by omega);have e:gv r.bi [⟨c,min (z:Int) 1099511627776⟩]=⟨r.bi+c,min ((1+z:Nat):Int) 1099511627776⟩:=by
   rw[Av,iK (by simp only;omega)];simp only[cX.mk.injEq];omega
  exact⟨k,s,e▸nu.unary hk h1 d1 (by rw[e];exact hc)⟩
 | @fW s m t k z z' c c' r hk h1 d1 d2 i1 i2=>
  have hp:=(cP hn hk).1.2.2.1;have:=d1.nn hn hl;have:=d2.nn hn hl;obtain⟨k1,g1,e1⟩:=i1 (by omega);obtain⟨k2,g2,e2⟩:=i2 (by omega);have e:gv r.bi [⟨c,min (z:Int) 1099511627776⟩,⟨c',min (z':Int) 1099511627776⟩]=⟨r.bi+c+c',min ((1+z+z':Nat):Int) 1099511627776⟩:=by
   rw[FB,iK (by simp only;omega)];simp only[cX.mk.injEq];omega
  exact⟨k,m,e▸nu.fW hk h1 (d1.le ha) (d2.le ha) e1 e2 (by rw[e];exact hc)⟩
def nu.dz(hn:qf n)(hl:wB l){s t k:Nat}{g:Int}{v:cX}(d:nu n l h s t k g v):∃z:Nat,DZ n l h s t v.aA z/\v.size=min (z:Int) 1099511627776:=by
 induction d with
 | @empty s k r hk h1 hv=>
  have hp:=(cP hn hk).1;have e:gv r.bi []=⟨r.bi,1⟩:=by rw[Au,iK (by have:=hp.2.2.2.1;omega)]
  rw[e];exact⟨1,.empty hk h1,by show(1:Int)=min ((1:Nat):Int) 1099511627776;omega⟩
 | @term s t k a r x hk h1 hx h2 h3 h4 hv=>
  have e:gv (r.bi+x.aA) []=⟨r.bi+x.aA,1⟩:=by
   rw[Au]at hv⊢;split at hv
   .simp at hv
   .rename_i q;rw[iK q]
  rw[e];exact⟨1,.term hk h1 hx h2 h3 h4,by show(1:Int)=min ((1:Nat):Int) 1099511627776;omega⟩
 | @unary s t k k1 g1 r v hk h1 d hv ih=>
  obtain⟨z,d1,e1⟩:=ih;have hp:=(cP hn hk).1.2.2.1;have:=(d1.nn hn hl);have e:gv r.bi [v]=⟨r.bi+v.aA,min ((1+z:Nat):Int) 1099511627776⟩:=by
   rw[Av]at hv⊢;split at hv
   .simp at hv
   .rename_i q;rw[iK q];simp only[cX.mk.injEq];omega
  rw[e];exact⟨1+z,.unary hk h1 d1,rfl⟩
 | @fW s m t k k1 k2 g1 g2 r v w hk h1 hs ht d1 d2 hv i1 i2=>
  obtain⟨z,e1,f1⟩:=i1;obtain⟨z',e2,f2⟩:=i2;have hp:=(cP hn hk).1.2.2.1;have:=(e1.nn hn hl);have:=(e2.nn hn hl);have e:gv r.bi [v,w]=⟨r.bi+v.aA+w.aA,min ((1+z+z':Nat):Int) 1099511627776⟩:=by
   rw[FB]at hv⊢;split at hv
   .simp at hv
   .rename_i q;rw[iK q];simp only[cX.mk.injEq];omega
  rw[e];exact⟨1+z+z',.fW hk h1 e1 e2,rfl⟩
def DQ(p:fm):∀(N:Nat),p N->∃x,p x/\∀y,p y->x<=y:=by
 intro N;induction N using Nat.strongRecOn with
 |_ N ih=>
  intro h;by_cases hx:∃y,y<N/\p y
  .obtain⟨y,h1,h2⟩:=hx;exact ih y h1 h2
  .exact⟨N,h,λy hy=>by
    rcases Zdg y N with q|q
    .exact qe ⟨y,q,hy⟩ hx
    .exact q⟩
def WM(n:ay)(l:aF)(h:Int)(s t:Nat)(c:Int)(z:Nat):Prop:=DZ n l h s t c z/\∀c' z',DZ n l h s t c' z'->c<c'\/(c=c'/\z<=z')
def WM.of(hn:qf n)(hl:wB l){s t:Nat}{c:Int}(d:DZ n l h s t c z):∃c' z',WM n l h s t c' z':=by
 obtain⟨c1,⟨z1,d1⟩,m1⟩:=DQ (λx=>∃z,DZ n l h s t (x:Int) z) c.toNat ⟨z,by rw[Zcl (d.nn hn hl).1];exact d⟩;obtain⟨z2,d2,m2⟩:=DQ (λx=>DZ n l h s t (c1:Int) x) z1 d1;refine⟨c1,z2,d2,λc' z' d'=>?_⟩;have p:=(d'.nn hn hl).1;have:=m1 c'.toNat ⟨z',by rw[Zcl p];exact d'⟩;by_cases e:(c1:Int)=c'
 .subst e;exact .inr ⟨rfl,m2 _ d'⟩
 .left;omega
open Classical in
noncomputable def XN(n:ay)(l:aF)(s t z:Nat):Nat:=(List.range n.an.toNat).countP λh=>decide (∃c z',WM n l (h:Nat) s t c z'/\z'<z)
def FV{α:Type}{p q:α->Bool}:∀{L:List α},(∀x,p x=true->q x=true)->∀x∈L,q x=true->p x=false->L.countP p+1<=L.countP q
 |[],_,x,hx,_,_=>by cases hx
 |a::L,h,x,hx,h1,h2=>by
  have hm:L.countP p<=L.countP q:=List.countP_mono_left λx _=>h x;rw[List.countP_cons,List.countP_cons];rcases jv.1 hx with rfl|hx
  .rw[h1,h2];simp only[Ig,A0,Eg];omega
  .have ih:=FV h x hx h1 h2;cases hp:p a with
   |false=>simp only[Ig,A0];split<;>omega
   |true=>rw[h a hp];simp only[Eg];omega
def HU(s t z:Nat):XN n l s t z<=n.an.toNat:=by
 unfold XN;have:=List.countP_le_length (p:=λh=> @decide (∃c z',WM n l (h:Nat) s t c z'/\z'<z) (Classical.propDecidable _)) (l:=List.range n.an.toNat);simpa using this
open Classical in
def HV(hn:qf n){s t z1:Nat}{c:Int}(w:WM n l h s t c z1)(hz:z1<z):XN n l s t z1+1<=XN n l s t z:=by
 have hh:=w.1.head hn;unfold XN;refine FV (λx hx=>?_) h.toNat (I0.2 (by omega)) ?_ ?_
 .obtain⟨c',z',a,b⟩:=BN hx;exact decide_eq_true ⟨c',z',a,by omega⟩
 .exact decide_eq_true ⟨c,z1,by rw[Zcl hh.1];exact w,hz⟩
 .refine decide_eq_false ?_;rintro⟨c',z',a,b⟩;rw[Zcl hh.1]at a;have a1:=w.2 _ _ a.1;have a2:=a.2 _ _ w.1;omega
def WM.split{s t:Nat}{c:Int}(w:WM n l h s t c z):z=1\/
  (∃h1 c1 z1,WM n l h1 s t c1 z1/\z=1+z1)\/
  ∃h1 h2 m c1 z1 c2 z2,WM n l h1 s m c1 z1/\WM n l h2 m t c2 z2/\z=1+z1+z2:=by
 obtain⟨d,w⟩:=w;cases d with
 |empty=>exact .inl rfl
 |term=>exact .inl rfl
 |unary hk h1 d=>
  refine .inr (.inl ⟨_,_,_,⟨d,λc' z' d'=>?_⟩,rfl⟩);have:=w _ _ (.unary hk h1 d');omega
 |fW hk h1 d1 d2=>
  refine .inr (.inr ⟨_,_,_,_,_,_,_,⟨d1,λc' z' d'=>?_⟩,⟨d2,λc' z' d'=>?_⟩,rfl⟩)
  .have:=w _ _ (.fW hk h1 d' d2);omega
  .have:=w _ _ (.fW hk h1 d1 d');omega
def N4(n:ay):Nat:=2^(n.an.toNat+1)
def WM.zero(hn:qf n)(ha:∀a∈l.aK,a.f<=a.t){s:Nat}:∀(z:Nat) {h:Int} {c:Int},WM n l h s s c z->z+1<=2^(XN n l s s z+1):=by
 intro z;induction z using Nat.strongRecOn with
 |_ z ih=>
  intro h c w;have p1:1<=2^XN n l s s z:=Nat.one_le_two_pow;have pz:(2:Nat)^(XN n l s s z+1)=2*2^XN n l s s z:=by rw[Nat.pow_succ,Nat.mul_comm]
  rw[pz];rcases w.split with rfl|⟨h1,c1,z1,w1,rfl⟩|⟨h1,h2,m,c1,z1,c2,z2,w1,w2,rfl⟩
  .omega
  .have i1:=ih z1 (by omega) w1;have q1:=Zcw (n:=2) (by omega) (HV hn w1 (show z1<1+z1 by omega));omega
  .have hm:m=s:=by have:=w1.1.le ha;have:=w2.1.le ha;omega
   subst hm;have i1:=ih z1 (by omega) w1;have q1:=Zcw (n:=2) (by omega) (HV hn w1 (show z1<1+z1+z2 by omega));have i2:=ih z2 (by omega) w2;have q2:=Zcw (n:=2) (by omega) (HV hn w2 (show z2<1+z1+z2 by omega));omega
def WM.I8(hn:qf n)(ha:∀a∈l.aK,a.f<=a.t){s:Nat}{c:Int}(w:WM n l h s s c z):z+1<=N4 n:=by
 have:=WM.zero hn ha z w;have:=Zcw (n:=2) (by omega) (Zdb (HU (n:=n) (l:=l) s s z));unfold N4;omega
def Lp(n:ay):Nat:=(n.an.toNat+1)*N4 n
def WM.size(hn:qf n)(ha:∀a∈l.aK,a.f<=a.t):∀(L:Nat) {s:Nat},1<=L->∀(z:Nat) {h:Int} {c:Int},WM n l h s (s+L) c z->z<=(XN n l s (s+L) z+1)*N4 n+(2*L-2)*Lp n:=by
 intro L;induction L using Nat.strongRecOn with
 |_ L ihL=>
  intro s hL z;induction z using Nat.strongRecOn with
  |_ z ih=>
   intro h c w;have e0:1<=N4 n:=Nat.one_le_two_pow;obtain⟨A,hA⟩:=aY ((2*L-2)*Lp n);have one:∀{z1:Nat} {h1 c1:Int},WM n l h1 s (s+L) c1 z1->z1<z->z1+N4 n<=(XN n l s (s+L) z+1)*N4 n+A:=by
    intro z1 h1 c1 w1 cQ;have i1:=ih z1 cQ w1;rw[hA]at i1;have:=Ec (N4 n) (HV hn w1 cQ);rw[Fb,ZcV]at i1 this⊢;omega
   rw[hA];rcases w.split with rfl|⟨h1,c1,z1,w1,rfl⟩|⟨h1,h2,m,c1,z1,c2,z2,w1,w2,rfl⟩
   .rw[Fb,ZcV];omega
   .have:=one w1 (by omega);omega
   .have l1:=w1.1.le ha;have l2:=w2.1.le ha;by_cases hs:m=s
    .subst hs;have:=w1.I8 hn ha;have:=one w2 (by omega);omega
    by_cases ht:m=s+L
    .subst ht;have:=w2.I8 hn ha;have:=one w1 (by omega);omega
    obtain⟨a,rfl⟩:∃a,m=s+a:=⟨m-s,by omega⟩;obtain⟨b,rfl⟩:∃b,L=a+b:=⟨L-a,by omega⟩;have i1:=ihL a (by omega) (by omega) z1 w1;rw[show s+(a+b)=(s+a)+b by omega]at w2;have i2:=ihL b (by omega) (by omega) z2 w2;have k1:=Ec (N4 n) (Zdb (HU (n:=n) (l:=l) s (s+a) z1));have k2:=Ec (N4 n) (Zdb (HU (n:=n) (l:=l) (s+a) (s+a+b) z2));rw[<-hA];have e1:(2*(a+b)-2)*Lp n=(2*a-2)*Lp n+(2*b-2)*Lp n+2*Lp n:=by
     rw[<-Nat.add_mul,<-Nat.add_mul];congr 1;omega
    have e2:Lp n=(n.an.toNat+1)*N4 n:=rfl;rw[e1];simp only[Nat.succ_eq_add_one]at k1 k2;rw[<-e2]at k1 k2;rw[Fb,ZcV];omega
def WM.few(hn:qf n)(ha:∀a∈l.aK,a.f<=a.t){c:Int}{s t:Nat}(w:WM n l h s t c z):z<=(2*(t-s)+1)*Lp n:=by
 have e2:Lp n=(n.an.toNat+1)*N4 n:=rfl;have h0:N4 n<=Lp n:=by rw[e2];exact Nat.le_mul_of_pos_left _ (by omega)
 have io:=w.1.le ha;rcases Zc1 (t-s)with e|e
 .obtain rfl:t=s:=by omega
  have:=w.I8 hn ha;rw[e];omega
 .obtain⟨L,rfl⟩:∃L,t=s+L:=⟨t-s,by omega⟩;rw[show s+L-s=L by omega]at e⊢;have i:=WM.size hn ha L e z w;have k1:=Ec (N4 n) (Zdb (HU (n:=n) (l:=l) s (s+L) z));simp only[Nat.succ_eq_add_one]at k1;rw[<-e2]at k1;have e1:(2*L+1)*Lp n=(2*L-2)*Lp n+3*Lp n:=by rw[<-Nat.add_mul];congr 1;omega
  rw[e1];omega
end
end
section
variable{h:Int}
section
variable{n:ay}{l:aF}
def szB(n:ay)(l:aF):Nat:=(2*l.bf.toNat+1)*Lp n
structure Fit(n:ay)(l:aF):Prop where
 nO:qf n
 lO:wB l
 aO:∀a∈l.aK,a.f<=a.t
 few:szB n l<16777216
def Fit.size(F:Fit n l){c:Int}{s t z:Nat}(w:WM n l h s t c z)(ht:(t:Int)<l.bf):z<=szB n l:=by
 have h1:=w.few F.nO F.aO;have h2:=Ec (Lp n) (show 2*(t-s)+1<=2*l.bf.toNat+1 by omega);unfold szB;omega
def Good.dM{s t:Nat}{x:Cell}(g:Good n l h s t x)(hx:x.aA<1099511627776):(∃k:Nat,x.wQ=k/\nu n l h s t k x.arg x.val)/\∀(k':Nat) g',nu n l h s t k' g' x.val->JS x.wQ x.arg k' g':=by
 rcases g.top with rfl|h
 .exact qe hx (by decide)
 .exact h
def Good.wm(F:Fit n l){s t:Nat}{x:Cell}(g:Good n l h s t x)(hx:x.aA<1099511627776)(ht:(t:Int)<l.bf):∃z:Nat,WM n l h s t x.aA z/\x.size=z/\z<=szB n l:=by
 obtain⟨⟨k,_,d⟩,_⟩:=g.dM hx;obtain⟨z0,d0,e0⟩:=d.dz F.nO F.lO;have d0:DZ n l h s t x.aA z0:=d0;have e0:x.size=min (z0:Int) 1099511627776:=e0;obtain⟨c,z,w⟩:=WM.of F.nO F.lO d0;have hz:=F.size w ht;have hf:=F.few;have h1:=w.2 _ _ d0;have hd:=w.1.der F.nO F.lO F.aO (show c<1099511627776 by omega);have hl:¬(c<x.aA\/(c=x.aA/\min (z:Int) 1099511627776<x.size)):=g.sN _ hd;have ec:c=x.aA:=by omega
 subst ec;exact⟨z,w,by omega,hz⟩
def nu.inv{s t k:Nat}{g:Int}{v:cX}(d:nu n l h s t k g v):∃r,n.aj[k]? =some r/\r.head=h/\
  ((r.kind=1/\s=t/\g=s/\v=gv r.bi [])\/(r.kind=2/\∃(a:Nat) (x:bF),l.aK[a]? =some x/\x.f=s/\x.t=t/\x.term=r.a/\g=a/\v=gv (r.bi+x.aA) [])\/
  (r.kind=3/\g=s/\∃v',Tq n l r.a s t v'/\v=gv r.bi [v'])\/(r.kind=4/\∃(m:Nat) (v' w':cX),s<=m/\m<=t/\g=m/\Tq n l r.a s m v'/\Tq n l r.b m t w'/\v=gv r.bi [v',w'])):=by
 cases d with
 |empty hk h1 hv=>exact⟨_,hk,rfl,.inl ⟨h1,rfl,rfl,rfl⟩⟩
 |term hk h1 ha h2 h3 h4 hv=>exact⟨_,hk,rfl,.inr (.inl ⟨h1,_,_,ha,h2,h3,h4,rfl,rfl⟩)⟩
 |unary hk h1 d hv=>exact⟨_,hk,rfl,.inr (.inr (.inl ⟨h1,rfl,_,⟨_,_,d⟩,rfl⟩))⟩
 |fW hk h1 hs ht d1 d2 hv=>exact⟨_,hk,rfl,.inr (.inr (.inr ⟨h1,_,_,_,hs,ht,rfl,⟨_,_,d1⟩,⟨_,_,d2⟩,rfl⟩))⟩
structure DY(n:ay)(l:aF)(c:bI):Prop extends Fit n l where
 nn:c.an=n.an
 st:c.bf=l.bf
 dj:∀(h:Int) (s t:Nat),0<=h->h<n.an->s<=t->(t:Int)<l.bf->Good n l h s t (gp c h s t)
def Good.le{s t:Nat}{x:Cell}{v:cX}(g:Good n l h s t x)(d:Tq n l h s t v):¬v.lt x.val/\x.aA<1099511627776:=by
 have h1:=g.sN _ d;have:=d.dM;refine⟨h1, ?_⟩;simp only[cX.lt]at h1;omega
def DY.step{c:bI}(F:DY n l c){s t:Nat}(h0:0<=h)(h1:h<n.an)(iO:s<=t)(ht:(t:Int)<l.bf)(hx:(gp c h s t).aA<1099511627776):
  ∃(k:Nat) (r:bC),(gp c h s t).wQ=k/\n.aj[k]? =some r/\r.head=h/\
  ((r.kind=1/\s=t/\(gp c h s t).arg=s/\(gp c h s t).aA=r.bi/\(gp c h s t).size=1)\/
   (r.kind=2/\∃(a:Nat) (x:bF),l.aK[a]? =some x/\x.f=s/\x.t=t/\x.term=r.a/\(gp c h s t).arg=a/\(gp c h s t).aA=r.bi+x.aA/\(gp c h s t).size=1)\/
   (r.kind=3/\(gp c h s t).arg=s/\(0<=r.a/\r.a<n.an)/\(gp c r.a s t).aA<1099511627776/\(gp c h s t).aA=r.bi+(gp c r.a s t).aA/\(gp c h s t).size=1+(gp c r.a s t).size)\/
   (r.kind=4/\∃m:Nat,s<=m/\m<=t/\(gp c h s t).arg=m/\(0<=r.a/\r.a<n.an)/\(0<=r.b/\r.b<n.an)/\(gp c r.a s m).aA<1099511627776/\(gp c r.b m t).aA<1099511627776/\
    (gp c h s t).aA=r.bi+(gp c r.a s m).aA+(gp c r.b m t).aA/\(gp c h s t).size=1+(gp c r.a s m).size+(gp c r.b m t).size)):=by
 have g:=F.dj h s t h0 h1 iO ht;have hf:=F.few;obtain⟨z,_,hz,AS⟩:=g.wm F.toFit hx ht;obtain⟨⟨k,hk,d⟩,_⟩:=g.dM hx;obtain⟨x,hX⟩:=aY (gp c h s t);rw[hX]at g hx hz hk d⊢;have fN:=d.dM;obtain⟨r,hr,rfl,q⟩:=d.inv;have th:=(cP F.nO hr).1;refine⟨k,r,hk,hr,rfl, ?_⟩;rcases q with⟨q1,q2,q3,q4⟩|⟨q1,a,y,q2,q3,q4,q5,q6,q7⟩|⟨q1,q2,v',d',q3⟩|⟨q1,m,v',w',q2,q3,q4,d1,d2,q5⟩
 .refine .inl ⟨q1,q2,q3, ?_⟩;rw[q4]at fN;have e:gv r.bi []=⟨r.bi,1⟩:=by
    rw[Au]at fN⊢;split at fN;·simp at fN
    .rename_i q;rw[iK q]
  rw[e]at q4;simp only[Cell.val,cX.mk.injEq]at q4;exact q4
 .refine .inr (.inl ⟨q1,a,y,q2,q3,q4,q5,q6, ?_⟩);rw[q7]at fN;have e:gv (r.bi+y.aA) []=⟨r.bi+y.aA,1⟩:=by
    rw[Au]at fN⊢;split at fN;·simp at fN
    .rename_i q;rw[iK q]
  rw[e]at q7;simp only[Cell.val,cX.mk.injEq]at q7;exact q7
 .have ra:0<=r.a/\r.a<n.an:=by unfold me at th;omega
  have ga:=F.dj r.a s t ra.1 ra.2 iO ht;obtain⟨l1,l2⟩:=ga.le d';obtain⟨y,hy⟩:=aY (gp c r.a s t);rw[hy]at ga l1 l2⊢;obtain⟨⟨ky,_,dy⟩,_⟩:=ga.dM l2;have m1:=mT (c:=r.bi) l1;rw[<-q3]at m1;have fy:(gv r.bi [y.val]).aA<1099511627776:=by simp only[cX.lt]at m1;omega
  have m2:=g.sN _ ⟨k,s,nu.unary hr q1 dy fy⟩;have e:=cX.pc m1 m2;refine .inr (.inr (.inl ⟨q1,q2,ra,l2, ?_⟩));have e2:x.aA=(gv r.bi [y.val]).aA/\x.size=(gv r.bi [y.val]).size:=by rw[<-e];exact⟨rfl,rfl⟩
  rw[Av]at e2 fy;split at fy
  .simp at fy
  .rename_i nf;rw[iK nf]at e2;have hp:=dy.pos F.nO F.lO;unfold mG at hp;simp only[]at e2 fy hp nf;omega
 .have ra:(0<=r.a/\r.a<n.an)/\0<=r.b/\r.b<n.an:=by unfold me at th;omega
  have ga:=F.dj r.a s m ra.1.1 ra.1.2 q2 (by omega);have gb:=F.dj r.b m t ra.2.1 ra.2.2 q3 ht;obtain⟨l1,l2⟩:=ga.le d1;obtain⟨l3,l4⟩:=gb.le d2;obtain⟨y,hy⟩:=aY (gp c r.a s m);obtain⟨u,hu⟩:=aY (gp c r.b m t);rw[hy]at ga l1 l2;rw[hu]at gb l3 l4;obtain⟨⟨ky,_,dy⟩,_⟩:=ga.dM l2;obtain⟨⟨ku,_,du⟩,_⟩:=gb.dM l4;obtain⟨_,_,d1'⟩:=d1;obtain⟨_,_,d2'⟩:=d2;have p1:=(d1'.pos F.nO F.lO);have p2:=(d2'.pos F.nO F.lO);have p3:=(dy.pos F.nO F.lO);have p4:=(du.pos F.nO F.lO);unfold mG at p1 p2 p3 p4;have m1:=pd (c:=r.bi) p1.1 p3.1 p2.1 p4.1 l1 l3;rw[<-q5]at m1;have fy:(gv r.bi [y.val,u.val]).aA<1099511627776:=by simp only[cX.lt]at m1;omega
  have m2:=g.sN _ ⟨k,m,nu.fW hr q1 q2 q3 dy du fy⟩;have e:=cX.pc m1 m2;refine .inr (.inr (.inr ⟨q1,m,q2,q3,q4,ra.1,ra.2, ?_⟩));rw[hy,hu];refine⟨l2,l4, ?_⟩;have e2:x.aA=(gv r.bi [y.val,u.val]).aA/\x.size=(gv r.bi [y.val,u.val]).size:=by rw[<-e];exact⟨rfl,rfl⟩
  rw[FB]at e2 fy;split at fy
  .simp at fy
  .rename_i nf;rw[iK nf]at e2;simp only[]at e2 fy p3 p4 nf;omega
end
end
end aT
end Go.Proofs
namespace Go.Proofs.It
open Go.DM Go.DM.iN
def mo:VA:=⟨1099511627776,0⟩
def zC{vs:List VA}{c:Int}(h:¬(aT.gv c vs).aA<1099511627776):aT.gv c vs=mo:=by
 unfold aT.gv at h⊢;split
 .rfl
 .rename_i g;rw[iK g]at h;omega
def toI_rule{n:ay}{i:Nat}(h:i<n.aj.length):(toI n).aj[i]? =some (toR (n.aj.getD i default)):=by simp[toI,List.getD,h]
inductive EE(n:ay)(c:aT.bI):Int->Int->Int->Tr->Prop
 |leaf {h s t:Int} {k:Nat} (hk:(aT.gp c h s t).wQ=k) (cQ:k<n.aj.length) (h1:(n.aj.getD k default).kind=1\/(n.aj.getD k default).kind=2):EE n c h s t (.mk k [])
 |unary {h s t:Int} {k:Nat} {d:Tr} (hk:(aT.gp c h s t).wQ=k) (cQ:k<n.aj.length) (h1:(n.aj.getD k default).kind=3) (f:EE n c (n.aj.getD k default).a s t d):EE n c h s t (.mk k [d])
 |fW {h s t:Int} {k:Nat} {d1 d2:Tr} (hk:(aT.gp c h s t).wQ=k) (cQ:k<n.aj.length) (h1:(n.aj.getD k default).kind=4)
   (f1:EE n c (n.aj.getD k default).a s (aT.gp c h s t).arg d1) (f2:EE n c (n.aj.getD k default).b (aT.gp c h s t).arg t d2):EE n c h s t (.mk k [d1,d2])
def KQ{n:ay}{k:Nat}{r:aT.bC}(hk:(toI n).aj[k]? =some r):k<n.aj.length/\r=toR (n.aj.getD k default):=by
 have cQ:k<n.aj.length:=by have:=(tp.1 hk).1;simpa [toI]using this
 rw[toI_rule cQ]at hk;exact⟨cQ,(TT hk).symm⟩
def KR{n:ay}{l:aF}{c:aT.bI}(F:aT.DY (toI n) l c):∀(N:Nat) {h:Int} {s t:Nat},0<=h->h<n.an->s<=t->(t:Int)<l.bf->(aT.gp c h s t).aA<1099511627776->(aT.gp c h s t).size=N->
  1<=N/\∃d w,EE n c h s t d/\eG n.aj h d=true/\d.sz=N/\AX l.aK s (dw n.aj d) t w/\fF n.aj d+w=(aT.gp c h s t).aA:=by
 intro N;induction N using Nat.strongRecOn with
 |_ N ih=>
  intro h s t h0 h1 iO ht hx hN;have pos:∀{h:Int} {s t:Nat},0<=h->h<n.an->s<=t->(t:Int)<l.bf->(aT.gp c h s t).aA<1099511627776->∃z:Nat,(aT.gp c h s t).size=z/\1<=z:=λa1 a2 a3 a4 a5=>by
   obtain⟨z,w,e,_⟩:=(F.dj _ _ _ a1 a2 a3 a4).wm F.toFit a5 a4;exact⟨z,e,(w.1.nn F.nO F.lO).2⟩
  obtain⟨k,r,hk,hr,zw,q⟩:=F.step h0 h1 iO ht hx;obtain⟨cQ,rfl⟩:=KQ hr;obtain⟨R,hR⟩:=aY (n.aj.getD k default);have zw:R.head=h:=by rw[<-hR];exact zw
  rw[hR]at q;refine⟨by obtain⟨z,e,p⟩:=pos h0 h1 iO ht hx;omega, ?_⟩;have vk:∀{ks:List Tr},ks.length=(eu R).length->ng n.aj (eu R) ks=true->eG n.aj h (.mk k ks)=true:=λa b=>by
   simp only[eG,gN,hR,b,zw,a];simp[cQ]
  rcases q with⟨q1,q2,q3,q4,q5⟩|⟨q1,a,y,q2,q3,q4,q5,q6,q7,q8⟩|⟨q1,q2,q3,q4,q5,q6⟩|⟨q1,m,q2,q3,q4,q5,q6,q7,q8,q9,q10⟩
  .have q1:R.kind=1:=q1;have kk:eu R=[]:=by unfold eu;rw[iK (by omega),iK (by omega)]
   refine⟨.mk k [],0,.leaf hk cQ (.inl (by rw[hR];exact q1)),vk (by rw[kk];rfl) (by rw[kk];rfl),by simp only[Tr.sz,gE];omega, ?_, ?_⟩
   .simp only[dw,gN,hR,iK (show ¬R.kind=2 by omega),dZ];exact⟨by omega,rfl⟩
   .simp only[fF,dD,gN,hR];rw[q4];show R.bi+0+0=R.bi;omega
  .have q1:R.kind=2:=q1;have kk:eu R=[]:=by unfold eu;rw[iK (by omega),iK (by omega)]
   refine⟨.mk k [],y.aA,.leaf hk cQ (.inr (by rw[hR];exact q1)),vk (by rw[kk];rfl) (by rw[kk];rfl),by simp only[Tr.sz,gE];omega, ?_, ?_⟩
   .simp only[dw,gN,hR,ee q1];exact⟨y,Hf q2,q3,q5,0,⟨q4,rfl⟩,by omega⟩
   .simp only[fF,dD,gN,hR];rw[q7];show R.bi+0+y.aA=R.bi+y.aA;omega
  .have q1:R.kind=3:=q1;have q5:(aT.gp c h s t).aA=R.bi+(aT.gp c R.a s t).aA:=q5;have q6:(aT.gp c h s t).size=1+(aT.gp c R.a s t).size:=q6;obtain⟨z,e,p⟩:=pos q3.1 q3.2 iO ht q4;have e:(aT.gp c R.a s t).size=z:=e;obtain⟨_,d,w,f1,f2,f3,f4,f5⟩:=ih z (by omega) q3.1 q3.2 iO ht q4 e;have kk:eu R=[R.a]:=by unfold eu;rw[ee q1]
   refine⟨.mk k [d],w,.unary hk cQ (by rw[hR];exact q1) (by rw[hR];exact f1),vk (by rw[kk];rfl) (by rw[kk];simp only[ng,Bool.and_true];exact f2),by simp only[Tr.sz,gE];omega, ?_, ?_⟩
   .simp only[dw,gN,hR,iK (show ¬R.kind=2 by omega),dZ,Ej];exact f4
   .simp only[fF,dD,gN,hR];have f5:fF n.aj d+w=(aT.gp c R.a s t).aA:=f5;omega
  .have q1:R.kind=4:=q1;have q9:(aT.gp c h s t).aA=R.bi+(aT.gp c R.a s m).aA+(aT.gp c R.b m t).aA:=q9;have q10:(aT.gp c h s t).size=1+(aT.gp c R.a s m).size+(aT.gp c R.b m t).size:=q10;obtain⟨z,e,p⟩:=pos q5.1 q5.2 q2 (by omega) q7;obtain⟨z2,e2,p2⟩:=pos q6.1 q6.2 q3 ht q8;have e:(aT.gp c R.a s m).size=z:=e;have e2:(aT.gp c R.b m t).size=z2:=e2;obtain⟨_,d,w,f1,f2,f3,f4,f5⟩:=ih z (by omega) q5.1 q5.2 q2 (by omega) q7 e;obtain⟨_,d2,w2,g1,g2,g3,g4,g5⟩:=ih z2 (by omega) q6.1 q6.2 q3 ht q8 e2;have kk:eu R=[R.a,R.b]:=by unfold eu;rw[iK (by omega),ee q1]
   refine⟨.mk k [d,d2],w+w2,.fW hk cQ (by rw[hR];exact q1) (by rw[hR,q4];exact f1) (by rw[hR,q4];exact g1),vk (by rw[kk];rfl) (by rw[kk];simp only[ng,Bool.and_true,mA];exact⟨f2,g2⟩),by simp only[Tr.sz,gE];omega, ?_, ?_⟩
   .simp only[dw,gN,hR,iK (show ¬R.kind=2 by omega),dZ,Ej];exact AX.append f4 g4
   .simp only[fF,dD,gN,hR];have f5:fF n.aj d+w=(aT.gp c R.a s m).aA:=f5;have g5:fF n.aj d2+w2=(aT.gp c R.b m t).aA:=g5;omega
def KS(n:ay)(l:aF)(c:aT.bI)(a:VA×Int)(t:Nat):VA×Int:=
 if 1099511627776<=l.bj.getD t default then a else
 if(aT.gv (l.bj.getD t default) [(aT.gp c n.start 0 t).val]).aA<1099511627776/\(a.2<0\/(aT.gv (l.bj.getD t default) [(aT.gp c n.start 0 t).val]).lt a.1)then(aT.gv (l.bj.getD t default) [(aT.gp c n.start 0 t).val],(t:Int))else a
def kQ(n:ay)(l:aF)(c:aT.bI)(k:Nat):VA×Int:=(List.range k).foldl (KS n l c) (mo,-1)
def wS(n:ay)(l:aF)(c:aT.bI)(k:Nat):kQ n l c (k+1)=KS n l c (kQ n l c k) k:=by simp[kQ,Gy]
def iS(n:ay)(l:aF)(c:aT.bI)(t:Nat):VA:=aT.gv (l.bj.getD t default) [(aT.gp c n.start 0 t).val]
structure ajV(n:ay)(l:aF)(c:aT.bI)(k:Nat)(q:VA×Int):Prop where
 none:q.2<0->q=(mo,-1)/\∀t,t<k->l.bj.getD t default<1099511627776->¬(iS n l c t).aA<1099511627776
 some:¬q.2<0->∃t:Nat,q=(iS n l c t,(t:Int))/\t<k/\l.bj.getD t default<1099511627776/\(iS n l c t).aA<1099511627776
 sN:∀t,t<k->l.bj.getD t default<1099511627776->¬(iS n l c t).lt q.1
def yh(n:ay)(l:aF)(c:aT.bI):∀k,ajV n l c k (kQ n l c k)
 |0=>⟨λ_=>⟨rfl,λt h=>by omega⟩,λh=>qe (show(-1:Int)<0 by decide) h,λt h=>by omega⟩
 |k+1=>by
  have ih:=yh n l c k;rw[wS];unfold KS;obtain⟨q,hq⟩:=aY (kQ n l c k);rw[hq]at ih⊢;rw[show aT.gv (l.bj.getD k default) [(aT.gp c n.start 0 k).val]=iS n l c k from rfl];have nn:∀v:VA,¬v.aA<1099511627776->q.1=mo\/q.1.aA<1099511627776->∀t,v=iS n l c t->¬(iS n l c t).lt q.1:=by
   intro v hv hk t e cQ;have ev:=zC (vs:=[(aT.gp c n.start 0 t).val]) (c:=l.bj.getD t default) (by show ¬(iS n l c t).aA<_;rw[<-e];exact hv);have ev:iS n l c t=mo:=ev;rw[ev]at cQ;rcases hk with hk|hk
   .rw[hk]at cQ;simp[aT.cX.lt,mo]at cQ
   .simp only[aT.cX.lt,mo]at cQ;omega
  have mr:q.1=mo\/q.1.aA<1099511627776:=by
   by_cases h:q.2<0
   .exact .inl (by rw[(ih.none h).1])
   .obtain⟨t,e,_,_,hf⟩:=ih.some h;exact .inr (by rw[e];exact hf)
  split
  .rename_i h1;refine⟨λh=>⟨(ih.none h).1,λt ht hf=>?_⟩,λh=>?_,λt ht hf=>?_⟩
   .by_cases e:t=k
    .subst e;omega
    .exact(ih.none h).2 t (by omega) hf
   .obtain⟨t,a,b,d⟩:=ih.some h;exact⟨t,a,by omega,d⟩
   .by_cases e:t=k
    .subst e;omega
    .exact ih.sN t (by omega) hf
  .rename_i h1;split
   .rename_i h2;refine⟨λh=>by simp only at h;omega,λ_=>⟨k,rfl,by omega,by omega,h2.1⟩,λt ht hf=>?_⟩;by_cases e:t=k
    .subst e;simp only[aT.cX.lt];omega
    .rcases h2.2 with h3|h3
     .have h4:=(ih.none h3).2 t (by omega) hf;have ev:=zC (vs:=[(aT.gp c n.start 0 t).val]) (c:=l.bj.getD t default) h4;have ev:iS n l c t=mo:=ev;have:=h2.1;simp only[ev,aT.cX.lt,mo];omega
     .exact aT.iP (a:=iS n l c k) (b:=q.1) (c:=iS n l c t) (by simp only[aT.cX.lt]at h3⊢;omega) (ih.sN t (by omega) hf)
   .rename_i h2;refine⟨λh=>⟨(ih.none h).1,λt ht hf hc=>?_⟩,λh=>?_,λt ht hf=>?_⟩
    .by_cases e:t=k
     .subst e;exact h2 ⟨hc,.inl h⟩
     .exact(ih.none h).2 t (by omega) hf hc
    .obtain⟨t,a,b,d⟩:=ih.some h;exact⟨t,a,by omega,d⟩
    .by_cases e:t=k
     .subst e;by_cases hc:(iS n l c t).aA<1099511627776
      .exact λcQ=>h2 ⟨hc,.inr cQ⟩
      .exact nn _ hc mr t rfl
     .exact ih.sN t (by omega) hf
def F0{aK:List bF}(h:∀a∈aK,0<=a.f/\0<=a.t):∀{y ys:ba} {s t:Nat} {c w:Int},iV aK ys s c->AX aK s y t w->iV aK (ys++y) t (c+w)
 |[],ys,s,t,c,w,p,⟨h1,h2⟩=>by
  obtain rfl:s=t:=by omega
  subst h2;simpa using p
 |a::y,ys,s,t,c,w,p,⟨x,hx,h1,h2,w',h3,h4⟩=>by
  obtain⟨u,hu⟩:=bX (h x hx).2;have p1:=iV.IC x p hx h1;rw[hu,gN,h2]at p1;rw[hu]at h3;have:=F0 h p1 h3;rw[xm]at this;rw[show c+w=c+x.aA+w' by omega];exact this
def abX{x:Input}(h:JI x){y:ba}{s:Nat}{c:Int}(p:iV (aI x).aK y s c)(hs:s<(aI x).bj.length)(hv:c+(aI x).bj.getD s default<1099511627776):ed x y 0 0<=c+(aI x).bj.getD s default:=by
 obtain⟨g1,g2,g3,g4⟩:=pb h;have hx:=HY h;have hfl:(aI x).bj.length=2*x.ag.length+1:=wA x _;have hI:dV=1099511627776:=rfl;have qN:=Fw h;have hpc:=p.aA λa h=>((NO qN) a h).2.2.2.2.1;refine(TL hx y _ 0 0 (TZ _) (ER _) (ER _) _ hv).2 ?_;rw[ZcJ];have p:iV (eK x) y s c:=p;rw[hfl]at hs;obtain⟨v,nk⟩:=aY (c+(aI x).bj.getD s default);rw[nk]at hv⊢;rw[Oo x hs]at nk;split at nk
 .rename_i he;obtain⟨i,rfl⟩:∃i,s=2*i:=⟨s/2,by omega⟩;rw[show 2*i/2=i by omega]at nk;obtain⟨d,hd⟩:∃d,x.ag.length=i+d:=⟨x.ag.length-i,by omega⟩;have s1:=vH.d6 g1.1 d i (by omega) (by rw[<-hd];omega) (by rw[<-hd];exact vH.nil);have:=(TM g1.1 hx p).1 i rfl _ _ s1;rw[Ej,<-hd]at this;exact⟨_,by omega,this⟩
 .omega
end Go.Proofs.It
namespace Go.Proofs
namespace It
open Go.DM
def abY:=aB 93 0
def abZ:=aB 93 1
def ab0:=aB 93 2
def ab1:=aB 93 3
def ab2:=aB 93 4
def ab3:=aB 93 5
def ab4:=aB 93 6
def By:=aB 93 7
def ab5:=aB 93 8
def ab6:=aB 93 9
def Ys:=aB 93 10
noncomputable def as9:DC:=fo 93
def KU:List cH:=[.cell 6 2 true,.fB 7]
def ar6:aR ak 93 52 as9 KU:=.at
def ab7:=aB 94 0
def ab8:=aB 94 1
def ab9:=aB 94 2
def aca:=aB 94 3
def acb:=aB 94 4
def acd:=aB 94 5
def ace:=aB 94 6
def Qj:=aB 94 7
def acf:=aB 94 8
def acg:=aB 94 9
def KV:=aB 94 10
noncomputable def ata:DC:=fo 94
def yj:List cH:=[.cell 6 2 true]
def ar7 [bD]:aR ak 94 65 ata yj:=.at
def abd:=aB 71 0
def abe:=aB 71 1
def abf:=aB 71 2
def abg:=aB 71 3
noncomputable def atb:DC:=fo 71
def KH:List cH:=[.cell 8 6 true]
def arN [bD]:aR ak 71 29 atb KH:=.at
def abh:=aB 37 0
def abi:=aB 37 1
def abj:=aB 37 2
def abk:=aB 37 3
def abl:=aB 37 4
noncomputable def atc:DC:=fo 37
def DR:List cH:=[.cell 6 6 true,.fB 7]
def arO [bD]:aR ak 37 33 atc DR:=.at
def ach:=aB 120 0
def aci:=aB 120 1
def acj:=aB 120 3
def ack:=aB 120 4
def acl:=aB 120 6
def acm:=aB 120 7
def HZ:=aB 120 8
def acn:=aB 120 9
def Yv:=aB 120 10
def Yw:=aB 120 11
def Yx:=aB 120 12
def Yy:=aB 120 13
def Yz:=aB 120 14
def YA:=aB 120 15
def YB:=aB 120 16
noncomputable def ate:DC:=fo 120
def KX:List cH:=[.fB 4,.fB 5]
def ar8 [bD]:aR ak 120 85 ate KX:=.at
end It
end Go.Proofs
namespace Go.Proofs.It
open Go.DM Go.DM.iN
def Az(c:aT.bI):Prop:=aT.KG c/\aT.JT c
def ajW:aw ak (bz [(130,aT.s37),(73,aT.s84),(131,aT.s56)]):=aT.ajI (aT.avz (aT.avA aw.nil))
def F1{n:ay}{l:aF}{c:aT.bI}(hf:∀t,t<l.bj.length->0<=l.bj.getD t default/\l.bj.getD t default<=1099511627776)(hc:Az c):∀k,k<=l.bj.length->aT.mG (kQ n l c k).1/\-1<=(kQ n l c k).2/\(kQ n l c k).2<=k
 |0,_=>⟨show aT.mG mo by unfold aT.mG mo;decide,show(-1:Int)<=-1 by decide,show(-1:Int)<=(0:Nat)by decide⟩
 |k+1,hk=>by
  obtain⟨h1,h2,h3⟩:=F1 hf hc k (by omega);have:=hf k (by omega);rw[wS];unfold KS;split
  .exact⟨h1,h2,by omega⟩
  .split
   .refine⟨aT.iv (λv hv=>?_) this.1 (by omega),by simp only;omega,by simp only;omega⟩;rw[uy]at hv;subst hv;exact aT.MZ hc.2 _ _ _
   .exact⟨h1,h2,by omega⟩
def ar0(n:ay)(l:aF)(c:aT.bI)(hc:Az c)(hf:∀t,t<l.bj.length->0<=l.bj.getD t default/\l.bj.getD t default<=1099511627776)(hl:l.bj.length<=1000000):
  aJ ak 93 [n.enc,l.enc,c.enc] (.dh [.agg [ti (kQ n l c l.bj.length).1.aA,ti (kQ n l c l.bj.length).1.size],ti (kQ n l c l.bj.length).2]):=by
 have bb:=ajW;have dB:=F1 (n:=n) hf hc;have yg:=wS n l c;have h0:kQ n l c 0=(mo,-1):=rfl;obtain⟨K,hK⟩:=aY (kQ n l c);rw[hK]at dB yg h0⊢;have gG:=λt=>aT.MZ hc.2 n.start 0 t;obtain⟨st,aK,dM⟩:=l;obtain⟨nt,nn,ns,aj⟩:=n;obtain⟨cn,cs,cl⟩:=c;simp only at hf hl dB;refine ar6.ok (by simp) (aH ?_);simp[ay.enc,aF.enc,aT.bI.enc];apply aa.ai bb fw [3,4,5,6];simp[abY];refine aa.lk (o:=[(1007,.box [.v (ti 0),.v (ti 0)])]) (l:=[(3,.v (.box [ti nt,ti nn,ti ns,.sl (aQ aj)])),(4,.v (.box [ti st,.sl (bq aK),.sl (au dM)])),(5,.v (.box [ti cn,ti cs,.sl (aT.bl cl)])),(6,.ptr 1007 0)]) (bn:=1200) (by simp) ?_;apply aa.ai bb fw [3,4,5,6,8,9];simp[abZ];refine aa.lk (o:=[(1007,.box [.v (ti 0),.v (ti 0)]),(1209,.box [.v (ti 1099511627776),.v (ti 0)])]) (l:=[(3,.v (.box [ti nt,ti nn,ti ns,.sl (aQ aj)])),(4,.v (.box [ti st,.sl (bq aK),.sl (au dM)])),(5,.v (.box [ti cn,ti cs,.sl (aT.bl cl)])),(6,.ptr 1007 0),(8,.ptr 1209 0),(9,.v (ti (-1)))]) (bn:=1500) (by simp) ?_;apply aa.sq bb fw [3,5,6,8,9,16,17,18];simp[ab0];apply aa.block;refine aa.loop (λy:Nat=>⟨DM.look [(3,.v (.box [ti nt,ti nn,ti ns,.sl (aQ aj)])),(5,.v (.box [ti cn,ti cs,.sl (aT.bl cl)])),(6,.ptr 1007 0),(8,.ptr 1209 0),(9,.v (ti (K y).2)),(16,.v (.sl (au dM))),(17,.v (ti dM.length)),(18,.v (ti y))],cR [(1007,.box [.v (ti 0),.v (ti 0)]),(1209,.box [.v (ti (K y).1.aA),.v (ti (K y).1.size)])],2000,1000,[]⟩)
  (λy=>y<=dM.length) (λy=>dM.length-y) 0 (Le.aL (o:=[(1007,.box [.v (ti 0),.v (ti 0)]),(1209,.box [.v (ti (K 0).1.aA),.v (ti (K 0).1.size)])]) ?_ ?_ ?_ ?_) (by simp) (λy hy=>?_)
 .simp
 .simp
 .simp[h0,mo]
 .simp[h0]
 apply aa.ai bb fw [3,5,6,8,9,16,17,18,19];simp[ab1];apply aa.seq;refine aa.cond rfl (λaS=>?_) (λaS=>?_)
 .have aS:y<dM.length:=by simpa using aS
  apply aa.skip;simp;apply aa.seq;have rr:=bA aS;obtain⟨v,hv⟩:=aY (dM.getD y default);have hfy:=hf y aS;have hs:=yg y;unfold KS at hs;simp only at hs;obtain⟨k1,k2,k3⟩:=dB y hy;obtain⟨k4,k5,k6⟩:=dB (y+1) aS;obtain⟨⟨⟨q1,q2⟩,q3⟩,hq⟩:=aY (K y);obtain⟨⟨⟨p1,p2⟩,p3⟩,hp⟩:=aY (K (y+1));rw[hv]at hfy hs rr;rw[hq,hp]at hs;rw[hq]at k1 k2 k3⊢;rw[hp]at k4 k5 k6;have gG:=gG y;obtain⟨⟨x1,x2,x3,x4⟩,hx⟩:=aY (aT.gp ⟨cn,cs,cl⟩ ns 0 (y:Int));simp only at gG;rw[hx]at hs gG;have k1:aT.mG ⟨q1,q2⟩:=k1;refine aa.to ⟨DM.look [(3,.v (.box [ti nt,ti nn,ti ns,.sl (aQ aj)])),(5,.v (.box [ti cn,ti cs,.sl (aT.bl cl)])),(6,.ptr 1007 0),(8,.ptr 1209 0),(9,.v (ti p3)),(16,.v (.sl (au dM))),(17,.v (ti dM.length)),(18,.v (ti y))],cR [(1007,.box [.v (ti 0),.v (ti 0)]),(1209,.box [.v (ti p1),.v (ti p2)])],3500,1000,[]⟩ ?_ ?_
  .apply aa.block;apply aa.ai bb fw [3,5,6,8,9,10,11,16,17,18];simp[ab2,aS,rr];apply aa.sq bb fw [3,5,6,8,9,10,11,16,17,18,24];simp[ab3];refine aa.cond rfl (λg=>?_) (λg=>?_)
   .have g:=BN g;rw[ee g]at hs;simp only[eX,aT.cX.mk.injEq]at hs;obtain⟨⟨rfl,rfl⟩,rfl⟩:=hs;apply aa.exit;simp;refine Le.aL ?_ ?_ ?_ ?_;iterate 3(·simp)
    .simp
   .have g:=uF g;rw[iK g]at hs;apply aa.skip;simp;obtain⟨⟨w1,w2⟩,hw⟩:=aY (aT.gv v [⟨x1,x2⟩]);have hw':aT.gv v [(⟨x1,x2,x3,x4⟩:aT.Cell).val]=⟨w1,w2⟩:=hw;rw[hw']at hs;apply aa.ai bb fw [3,5,6,8,9,10,12,16,17,18];simp[ab4,hx];refine⟨⟨_,_,_,⟨rfl,rfl,rfl⟩,hc.1⟩,⟨_,_,⟨rfl,rfl⟩,λu hu=>by rw[uy]at hu;subst hu;exact gG,by omega,by omega,by simp⟩, ?_⟩;rw[hw];refine aa.lk (o:=[(1007,.box [.v (ti 0),.v (ti 0)]),(1209,.box [.v (ti q1),.v (ti q2)])]) (l:=[(3,.v (.box [ti nt,ti nn,ti ns,.sl (aQ aj)])),(5,.v (.box [ti cn,ti cs,.sl (aT.bl cl)])),(6,.ptr 1007 0),(8,.ptr 1209 0),(9,.v (ti q3)),(10,.v (ti y)),(12,.v (.box [ti w1,ti w2])),(16,.v (.sl (au dM))),(17,.v (ti dM.length)),(18,.v (ti y))]) (bn:=2500) (by simp) ?_;obtain⟨b,hb⟩:=aY (decide (w1<1099511627776/\(q3<0\/(⟨w1,w2⟩:aT.cX).lt ⟨q1,q2⟩)):Bool);refine aa.bL bb fw [(3,.v (.box [ti nt,ti nn,ti ns,.sl (aQ aj)])),(5,.v (.box [ti cn,ti cs,.sl (aT.bl cl)])),(6,.ptr 1007 0),(8,.ptr 1209 0),(9,.v (ti q3)),(10,.v (ti y)),(12,.v (.box [ti w1,ti w2])),(16,.v (.sl (au dM))),(17,.v (ti dM.length)),(18,.v (ti y)),(46,.v (.bool b))] ?_ ?_
    .by_cases h1:w1<1099511627776
     .by_cases h2:q3<0
      .have:b=true:=by rw[<-hb];exact decide_eq_true ⟨h1,.inl h2⟩
       simp[By,h1,h2,this]
      .by_cases h3:(⟨w1,w2⟩:aT.cX).lt ⟨q1,q2⟩
       .have:b=true:=by rw[<-hb];exact decide_eq_true ⟨h1,.inr h3⟩
        simp[By,h1,h2,h3,this]
       .have:b=false:=by rw[<-hb];exact decide_eq_false (λh=>by rcases h.2 with h|h;exact h2 h;exact h3 h)
        simp[By,h1,h2,h3,this]
     .have:b=false:=by rw[<-hb];exact decide_eq_false (λh=>h1 h.1)
      simp[By,h1,this]
    refine aa.cond rfl (λg=>?_) (λg=>?_)
    .have g:b=true:=by simpa using g
     rw[g]at hb;rw[ee (BN hb)]at hs;simp only[eX,aT.cX.mk.injEq]at hs;obtain⟨⟨rfl,rfl⟩,rfl⟩:=hs;apply aa.cZ bb fw [3,5,6,8,9,16,17,18];simp[ab5];refine Le.aL ?_ ?_ ?_ ?_;iterate 3(·simp)
     .simp
    .have g:b=false:=by simpa using g
     rw[g]at hb;rw[iK (uF hb)]at hs;simp only[eX,aT.cX.mk.injEq]at hs;obtain⟨⟨rfl,rfl⟩,rfl⟩:=hs;apply aa.skip;simp;refine Le.aL ?_ ?_ ?_ ?_;iterate 3(·simp)
     .simp
  .apply aa.cZ bb fw [3,5,6,8,9,16,17,18];simp[ab6];rw[av (x:=(y:Int)+1) (by omega)];refine⟨y+1,Le.aL (o:=[(1007,.box [.v (ti 0),.v (ti 0)]),(1209,.box [.v (ti (K (y+1)).1.aA),.v (ti (K (y+1)).1.size)])]) ?_ ?_ ?_ ?_,by omega,by omega⟩
   .simp
   .simp
   .simp[hp]
   .simp[hp]
 .have fI:y=dM.length:=by simp at aS;omega
  subst fI;apply aa.exit;simp;apply aa.ai bb fw [6,7];simp[Ys];apply aa.ret;simp[KU]
section
variable{h:Int}{d:Tr}
abbrev kh(n:ay)(c:aT.bI)(h s t:Int):aG:=[n.enc,c.enc,.agg [ti h,ti s,ti t]]
def Yt{n:ay}{c:aT.bI}{s t:Int}(k:aJ ak 94 (kh n c h s t) (.agg d.enc)):aw ak (bz [(94,bp (λts=>ts=kh n c h s t) (λ_=>.agg d.enc) false),(130,aT.s37)]):=by
 refine aw.cons (aT.ajI aw.nil) ?_;rintro ts rfl;exact⟨k,λh=>by cases h⟩
def Oh{n:ay}{c:aT.bI}(hc:Az c){s t:Int}{k:Nat}(hk:(aT.gp c h s t).wQ=k)(cQ:k<n.aj.length)(ks:List Tr)
  (q:(ks=[]/\((n.aj.getD k default).kind=1\/(n.aj.getD k default).kind=2))\/
   (∃d,ks=[d]/\(n.aj.getD k default).kind=3/\aJ ak 94 (kh n c (n.aj.getD k default).a s t) (.agg d.enc))\/
   (∃d e,ks=[d,e]/\(n.aj.getD k default).kind=4/\aJ ak 94 (kh n c (n.aj.getD k default).a s (aT.gp c h s t).arg) (.agg d.enc)/\aJ ak 94 (kh n c (n.aj.getD k default).b (aT.gp c h s t).arg t) (.agg e.enc))):
  aJ ak 94 (kh n c h s t) (.agg (Tr.mk k ks).enc):=by
 have bb:aw ak (bz [(130,aT.s37)]):=aT.ajI aw.nil;obtain⟨⟨rk,rh,ra,rb,rp,rg⟩,hR⟩:=aY (n.aj.getD k default);have Yu:=qJ cQ hR;rw[hR]at q;simp only at q;have Kg:=hc.1;obtain⟨⟨x1,x2,x3,x4⟩,hx⟩:=aY (aT.gp c h s t);rw[hx]at q hk;simp only at q hk;subst hk;obtain⟨nt,nn,ns,aj⟩:=n;obtain⟨cn,cs,cl⟩:=c;simp only at cQ Yu;have dM:∀(KD:DV),(KD=.aZ/\ks=[])\/KD=.v (.sl (dT ks))->aa ak 65 (.seq (.region false (yD 94 10)) .ret) (afL yj (.agg (Tr.mk (k:Int) ks).enc)) ⟨DM.look [(6,.ptr 1007 0),(8,.ptr 1409 0)],cR [(1007,.box [.v (ti 0),.aZ]),(1409,.box [.v (ti k),KD])],3000,1000,[]⟩:=by
  rintro KD (⟨rfl,rfl⟩|rfl)
  .apply aa.ai bb fw [6];simp[KV];apply aa.ret;simp[yj,Tr.enc,dT]
  .apply aa.ai bb fw [6];simp[KV];apply aa.ret;simp[yj,Tr.enc]
 refine ar7.ok (by simp) (aH ?_);simp[ay.enc,aT.bI.enc];apply aa.ai bb fw [3,4,5,6];simp[ab7];refine aa.lk (o:=[(1007,.box [.v (ti 0),.aZ])]) (l:=[(3,.v (.box [ti nt,ti nn,ti ns,.sl (aQ aj)])),(4,.v (.box [ti cn,ti cs,.sl (aT.bl cl)])),(5,.v (.box [ti h,ti s,ti t])),(6,.ptr 1007 0)]) (bn:=1200) (by simp) ?_;apply aa.ai bb fw [3,4,5,6,7];simp[ab8,hx];refine⟨⟨_,_,_,⟨rfl,rfl,rfl⟩,Kg⟩, ?_⟩;refine aa.lk (o:=[(1007,.box [.v (ti 0),.aZ])]) (l:=[(3,.v (.box [ti nt,ti nn,ti ns,.sl (aQ aj)])),(4,.v (.box [ti cn,ti cs,.sl (aT.bl cl)])),(5,.v (.box [ti h,ti s,ti t])),(6,.ptr 1007 0),(7,.v (.box [ti x1,ti x2,ti k,ti x4]))]) (bn:=1400) (by simp) ?_;apply aa.ai bb fw [3,4,5,6,7,8];simp[ab9];refine aa.lk (o:=[(1007,.box [.v (ti 0),.aZ]),(1409,.box [.v (ti k),.aZ])]) (l:=[(3,.v (.box [ti nt,ti nn,ti ns,.sl (aQ aj)])),(4,.v (.box [ti cn,ti cs,.sl (aT.bl cl)])),(5,.v (.box [ti h,ti s,ti t])),(6,.ptr 1007 0),(7,.v (.box [ti x1,ti x2,ti k,ti x4])),(8,.ptr 1409 0)]) (bn:=1600) (by simp) ?_;obtain⟨KD,hKD⟩:=aY ((match ks with|[]=>DV.aZ|_=>.v (.sl (dT ks))));refine aa.seq (aa.to ⟨DM.look [(6,.ptr 1007 0),(8,.ptr 1409 0)],cR [(1007,.box [.v (ti 0),.aZ]),(1409,.box [.v (ti k),KD])],3000,1000,[]⟩ ?_ (dM KD (by rw[<-hKD];split<;>simp)))
 apply aa.ai bb fw [3,4,5,6,7,8,9];simp[aca,cQ,Yu,bC.enc];refine aa.lk (o:=[(1007,.box [.v (ti 0),.aZ]),(1409,.box [.v (ti k),.aZ])]) (l:=[(3,.v (.box [ti nt,ti nn,ti ns,.sl (aQ aj)])),(4,.v (.box [ti cn,ti cs,.sl (aT.bl cl)])),(5,.v (.box [ti h,ti s,ti t])),(6,.ptr 1007 0),(7,.v (.box [ti x1,ti x2,ti k,ti x4])),(8,.ptr 1409 0),(9,.v (.box [ti rk,ti rh,ti ra,ti rb,ti rp,ti rg]))]) (bn:=1800) (by simp) ?_;apply aa.ai bb fw [3,4,5,6,7,8,9,24];simp[acb];apply aa.block;apply aa.ai bb fw [3,4,5,6,7,8,9,24,25];simp[acd];rcases q with⟨rfl,hk⟩|⟨d,rfl,rfl,kd⟩|⟨d,e,rfl,rfl,k1,k2⟩
 .refine aa.cond rfl (λaS=>qe (BN aS) (by omega)) (λaS=>?_);apply aa.ai bb fw [3,4,5,6,7,8,9,39];simp[Qj];refine aa.cond rfl (λaS=>qe (BN aS) (by omega)) (λaS=>?_);apply aa.skip;subst hKD;refine⟨rfl,Le.aL ?_ ?_ ?_ ?_⟩;iterate 3(·simp)
  .simp
 .refine aa.cond rfl (λaS=>?_) (λaS=>qe aS (by simp));obtain⟨dn,dk⟩:=d;apply aa.cZ (Yt kd) fw [6,8];simp[ace,kh,ay.enc,aT.bI.enc,Tr.enc];subst hKD;refine Le.aL ?_ ?_ ?_ ?_
  .simp
  .simp
  .simp[dT,Tr.enc]
  .simp
 .refine aa.cond rfl (λaS=>qe (BN aS) (by omega)) (λaS=>?_);apply aa.ai bb fw [3,4,5,6,7,8,9,39];simp[Qj];refine aa.cond rfl (λaS=>?_) (λaS=>qe aS (by simp));obtain⟨dn,dk⟩:=d;obtain⟨en,ek⟩:=e;apply aa.ai (Yt k1) fw [3,4,5,6,7,8,9,10];simp[acf,kh,ay.enc,aT.bI.enc,Tr.enc];refine aa.lk (o:=[(1007,.box [.v (ti 0),.aZ]),(1409,.box [.v (ti k),.aZ])]) (l:=[(3,.v (.box [ti nt,ti nn,ti ns,.sl (aQ aj)])),(4,.v (.box [ti cn,ti cs,.sl (aT.bl cl)])),(5,.v (.box [ti h,ti s,ti t])),(6,.ptr 1007 0),(7,.v (.box [ti x1,ti x2,ti k,ti x4])),(8,.ptr 1409 0),(9,.v (.box [ti 4,ti rh,ti ra,ti rb,ti rp,ti rg])),(10,.v (.box [ti dn,.sl (dT dk)]))]) (bn:=2200) (by simp) ?_;apply aa.cZ (Yt k2) fw [6,8];simp[acg,kh,ay.enc,aT.bI.enc,Tr.enc];subst hKD;refine Le.aL ?_ ?_ ?_ ?_
  .simp
  .simp
  .simp[dT,Tr.enc]
  .simp
def ar2{n:ay}{c:aT.bI}(hc:Az c){s t:Int}(F:EE n c h s t d):aJ ak 94 (kh n c h s t) (.agg d.enc):=by
 induction F with
 |leaf hk cQ h1=>exact Oh hc hk cQ [] (.inl ⟨rfl,h1⟩)
 |unary hk cQ h1 f ih=>exact Oh hc hk cQ _ (.inr (.inl ⟨_,rfl,h1,ih⟩))
 |fW hk cQ h1 f1 f2 i1 i2=>exact Oh hc hk cQ _ (.inr (.inr ⟨_,_,rfl,h1,i1,i2⟩))
end
end Go.Proofs.It
namespace Go.Proofs
open Go.DM Go.DM.iN
def uT(x:Input)(y:ba)(i j:Nat)(s:qk):Bool:=decide (min (s.c+ed x y (i+s.a.toNat) (j+s.e.toNat)) dV=ed x y i j)
def Ip(x:Input)(y:ba):Nat->Nat->Nat->List (Int×Int)
 |0,_,_=>[]
 |f+1,i,j=>if i=x.ag.length/\j=y.length then []else match(ff x y i j).find? (uT x y i j)with
  |some s=>(s.k,s.t)::Ip x y f (i+s.a.toNat) (j+s.e.toNat)
  |none=>[]
def KW{α:Type}(g:α->Int):∀(l:List α) (b:Int),l.foldl (λb s=>min b (g s)) b=b\/∃s∈l,g s=l.foldl (λb s=>min b (g s)) b
 |[],b=>.inl rfl
 |a::l,b=>by
  rw[Br];rcases KW g l (min b (g a))with h|⟨s,h1,h2⟩
  .rw[h];by_cases e:b<=g a
   .exact .inl (by omega)
   .exact .inr ⟨a,Iu ..,by omega⟩
  .exact .inr ⟨s,Ib _ h1,h2⟩
def KK{x:Input}{y:ba}(hx:pu x y){i j:Nat}(h:¬(i=x.ag.length/\j=y.length))(hf:ed x y i j<dV):∃s,(ff x y i j).find? (uT x y i j)=some s:=by
 have hb:=EU hx h;unfold mC at hb;rcases KW (λs:qk=>min (s.c+ed x y (i+s.a.toNat) (j+s.e.toNat)) dV) (ff x y i j) dV with e|⟨s,h1,h2⟩
 .rw[hb]at e;omega
 .rw[hb]at h2;cases hfd:(ff x y i j).find? (uT x y i j)with
  |some s=>exact⟨s,rfl⟩
  |none=>
   have:=ZcY.1 hfd s h1;exact qe (decide_eq_true h2) this
def KL{x:Input}{y:ba}{f i j:Nat}{s:qk}(h:¬(i=x.ag.length/\j=y.length))(hs:(ff x y i j).find? (uT x y i j)=some s):Ip x y (f+1) i j=(s.k,s.t)::Ip x y f (i+s.a.toNat) (j+s.e.toNat):=by
 simp only[Ip,iK h,hs]
def P6{x:Input}{y:ba}{f:Nat}:Ip x y (f+1) x.ag.length y.length=[]:=by simp[Ip]
def Ye{x:Input}{y:ba}(hx:pu x y){i j:Nat}(hi:i<=x.ag.length)(hj:j<=y.length)(hf:ed x y i j<dV){s:qk}(hs:(ff x y i j).find? (uT x y i j)=some s):
  s∈ff x y i j/\∃a e:Nat,s.a=a/\s.e=e/\i+a<=x.ag.length/\j+e<=y.length/\(0<a\/(a=0/\0<e))/\0<=s.c/\s.c+ed x y (i+a) (j+e)=ed x y i j:=by
 have hm:=Zcb hs;have hh:uT x y i j s=true:=ZcW hs;have hh:=BN hh;obtain⟨a,e,h1,h2,h3,h4,h5,h6,h7⟩:=Gl hx hi hj hm;rw[h1,h2,gN,gN]at hh;exact⟨hm,a,e,h1,h2,h3,h4,h5,h6,by omega⟩
end Go.Proofs
namespace Go.Proofs.It
open Go.DM Go.DM.iN
def asu(r:bC):aJ ak 54 [.agg r.enc] (.sl (au (eu r))):=by
 obtain⟨rk,rh,ra,rb,rp,rg⟩:=r;obtain⟨R,hR⟩:=aY (eu ⟨rk,rh,ra,rb,rp,rg⟩);rw[hR];simp only[eu]at hR;have bb:=(aw.nil:aw ak (bz []));refine ae4.ok (by simp) (aH ?_);simp[bC.enc];apply aa.ai bb fw [1];simp[Qk];refine aa.lk (o:=[]) (l:=[(1,.v (.box [ti rk,ti rh,ti ra,ti rb,ti rp,ti rg]))]) (bn:=1200) (by simp) ?_;apply aa.sq bb fw [1,4];simp[Ql];apply aa.block;apply aa.ai bb fw [1,4,5];simp[Qm];refine aa.cond rfl (λh1=>?_) (λh1=>?_)
 .have h1:rk=3:=by simpa using h1
  rw[ee h1]at hR;subst hR;apply aa.ai bb fw [2];simp[ac0,di];apply aa.ret;simp[dI,au]
 .have h1:¬rk=3:=by simpa using h1
  rw[iK h1]at hR;apply aa.ai bb fw [1,10];simp[Qn];refine aa.cond rfl (λh2=>?_) (λh2=>?_)
  .have h2:rk=4:=by simpa using h2
   rw[ee h2]at hR;subst hR;apply aa.ai bb fw [2];simp[ac1,di];apply aa.ret;simp[dI,au]
  .have h2:¬rk=4:=by simpa using h2
   rw[iK h2]at hR;subst hR;apply aa.skip;simp;apply aa.ai bb fw [2];simp[Qo];apply aa.ret;simp[dI,au]
noncomputable def Zk(nt nn ns:Int)(aj:List bC)(N:Nat):DM.Spec:=bp (λts=>∃a l,ts=[.agg [ti nt,ti nn,ti ns,.sl (aQ aj)],.agg [ti a,.sl (dT l)]]/\(Tr.mk a l).sz<=N/\N6 aj (.mk a l)) (fun|[.agg [_,_,_,.sl r],.agg d]=>ti (fF (kP r) (KE d))|_=>.bool false) true
noncomputable def Zl(nt nn ns:Int)(aj:List bC)(N:Nat):DM.Spec:=bp (λts=>∃a l,ts=[.agg [ti nt,ti nn,ti ns,.sl (aQ aj)],.agg [ti a,.sl (dT l)]]/\(Tr.mk a l).sz<=N/\N6 aj (.mk a l)) (fun|[.agg [_,_,_,.sl r],.agg d]=>.sl (au (dw (kP r) (KE d)))|_=>.bool false) false
noncomputable def Zm(nt nn ns:Int)(aj:List bC)(N:Nat):DM.Spec:=bp (λts=>∃h a l,ts=[.agg [ti nt,ti nn,ti ns,.sl (aQ aj)],ti h,.agg [ti a,.sl (dT l)]]/\(Tr.mk a l).sz<=N) (fun|[.agg [_,_,_,.sl r],.int _ h,.agg d]=>.bool (eG (kP r) h (KE d))|_=>.bool false) true
def asv(nt nn ns:Int)(aj:List bC)(hr:∀r∈aj,0<=r.bi/\r.bi<=1000):∀(N:Nat) (d:Tr),d.sz<=N->d.sz<=4194304->N6 aj d->aJ ak 51 [.agg [ti nt,ti nn,ti ns,.sl (aQ aj)],.agg d.enc] (ti (fF aj d)):=by
 intro N;induction N with
 |zero=>intro d h;have:=zy d;omega
 |succ N ih=>
  rintro⟨m,ks⟩ h1 h2 h3;have bb:aw ak (bz [(51,Zk nt nn ns aj (min N 4194304))]):=by
   refine aw.cons aw.nil ?_;rintro ts ⟨a,l,rfl,h,k⟩;exact⟨by simpa [Zk,Tr.enc]using ih (.mk a l) (by omega) (by omega) k,λ_=>rfl⟩
  obtain⟨⟨m1,m2⟩,_,h4⟩:=XL h3;obtain⟨m,rfl⟩:=bX m1;have m2:m<aj.length:=by omega
  obtain⟨⟨rk,rh,ra,rb,rp,rg⟩,qU⟩:=aY (aj.getD m default);have Yu:=qJ m2 qU;have hrp:=hr ⟨rk,rh,ra,rb,rp,rg⟩ (by rw[<-qU];exact bu m2);simp only at hrp;have dB:fF aj (.mk m ks)=rp+dD aj ks:=by simp only[fF,gN,qU]
  simp only[Tr.sz]at h1 h2;have io:=oq ks;rw[dB];refine ae7.ok (by simp) (aH ?_);simp[Tr.enc];apply aa.ai bb fw [2,3];simp[Qy];refine aa.lk (o:=[]) (l:=[(2,.v (.box [ti nt,ti nn,ti ns,.sl (aQ aj)])),(3,.v (.box [ti m,.sl (dT ks)]))]) (bn:=1200) (by simp) ?_;apply aa.ai bb fw [2,3,5];simp[Qz,m2,Yu,bC.enc];apply aa.sq bb fw [2,5,16,17,18];simp[QA];apply aa.block;refine aa.loop (λy:Nat=>⟨DM.look [(2,.v (.box [ti nt,ti nn,ti ns,.sl (aQ aj)])),(5,.v (ti (rp+dD aj (ks.take y)))),(16,.v (.sl (dT ks))),(17,.v (ti ks.length)),(18,.v (ti y))],cR [],2000,1000,[]⟩)
   (λy=>y<=ks.length) (λy=>ks.length-y) 0 (Le.aL (o:=[]) ?_ ?_ ?_ ?_) (by simp) (λy hy=>?_)
  iterate 3(·simp)
  .simp[dD]
  apply aa.ai bb fw [2,5,16,17,18,19];simp[QB];apply aa.seq;refine aa.cond rfl (λaS=>?_) (λaS=>?_)
  .have aS:y<ks.length:=by simpa using aS
   apply aa.skip;simp;apply aa.seq;apply aa.block;have ht:=DP aS;have hz:=HP aS;have avM:=vT ks (y+1);have mr:=h4 y aS;have Zg:=HQ (aj:=aj) aS;have Un:=nE hr (ks.getD y default);have hp3:=AB hr (ks.take y);obtain⟨⟨ka,kl⟩,hk⟩:=aY (ks.getD y default);rw[hk]at ht hz Zg mr Un;have rr:=DO aS hk;have hS:rp+dD aj (ks.take (y+1))=rp+dD aj (ks.take y)+fF aj (.mk ka kl):=by omega
   apply aa.ai bb fw [2,5,7,16,17,18];simp[ac2,aS,rr];refine aa.lk (o:=[]) (l:=[(2,.v (.box [ti nt,ti nn,ti ns,.sl (aQ aj)])),(5,.v (ti (rp+dD aj (ks.take y)))),(7,.v (.box [ti ka,.sl (dT kl)])),(16,.v (.sl (dT ks))),(17,.v (ti ks.length)),(18,.v (ti y))]) (bn:=2500) (by simp) ?_;apply aa.cZ bb fw [2,5,16,17,18];simp[ac3,Zk];refine⟨⟨_,_,⟨rfl,rfl⟩,by omega,mr⟩, ?_⟩;rw[av (by omega)];apply aa.cZ bb fw [2,5,16,17,18];simp[ac4];rw[av (x:=(y:Int)+1) (by omega)];refine⟨y+1,Le.aL (o:=[]) ?_ ?_ ?_ ?_,by omega,by omega⟩;iterate 3(·simp)
   .simp[hS]
  .have fI:y=ks.length:=by simp at aS;omega
   subst fI;rw[uJ];apply aa.exit;simp;apply aa.ai bb fw [4];simp[QC];apply aa.ret;simp[dI]
def ae2(nt nn ns:Int)(aj:List bC):∀(N:Nat) (d:Tr),d.sz<=N->d.sz<=4194304->N6 aj d->aJ ak 48 [.agg [ti nt,ti nn,ti ns,.sl (aQ aj)],.agg d.enc] (.sl (au (dw aj d))):=by
 intro N;induction N with
 |zero=>intro d h;have:=zy d;omega
 |succ N ih=>
  rintro⟨m,ks⟩ h1 h2 h3;have bb:aw ak (bz [(48,Zl nt nn ns aj (min N 4194304))]):=by
   refine aw.cons aw.nil ?_;rintro ts ⟨a,l,rfl,h,k⟩;exact⟨by simpa [Zl,Tr.enc]using ih (.mk a l) (by omega) (by omega) k,λh=>by cases h⟩
  obtain⟨⟨m1,m2⟩,_,h4⟩:=XL h3;obtain⟨m,rfl⟩:=bX m1;have m2:m<aj.length:=by omega
  obtain⟨⟨rk,rh,ra,rb,rp,rg⟩,qU⟩:=aY (aj.getD m default);have Yu:=qJ m2 qU;obtain⟨R,hR⟩:=aY (dw aj (.mk m ks));rw[hR];simp only[dw,gN,qU]at hR;simp only[Tr.sz]at h1 h2;have io:=oq ks;refine ae6.ok (by simp) (aH ?_);simp[Tr.enc];apply aa.ai bb fw [2,3];simp[Qu];refine aa.lk (o:=[]) (l:=[(2,.v (.box [ti nt,ti nn,ti ns,.sl (aQ aj)])),(3,.v (.box [ti m,.sl (dT ks)]))]) (bn:=1200) (by simp) ?_;apply aa.sq bb fw [2,3,5];simp[Qv,m2,Yu,bC.enc];refine aa.lk (o:=[]) (l:=[(2,.v (.box [ti nt,ti nn,ti ns,.sl (aQ aj)])),(3,.v (.box [ti m,.sl (dT ks)])),(5,.v (.box [ti rk,ti rh,ti ra,ti rb,ti rp,ti rg]))]) (bn:=1200) (by simp) ?_;apply aa.ai bb fw [2,3,5,17];simp[Qw];refine aa.cond rfl (λg=>?_) (λg=>?_)
  .have g:rk=2:=by simpa using g
   rw[ee g]at hR;subst hR;apply aa.ai bb fw [4];simp[Qx,di];apply aa.ret;simp[dI,au]
  .have g:¬rk=2:=by simpa using g
   rw[iK g]at hR;subst hR;apply aa.skip;simp;apply aa.ai bb fw [2,3,6];simp[ac5];refine aa.lk (o:=[]) (l:=[(2,.v (.box [ti nt,ti nn,ti ns,.sl (aQ aj)])),(3,.v (.box [ti m,.sl (dT ks)])),(6,.aZ)]) (bn:=1400) (by simp) ?_;refine aa.le (Le.j7 (k:=6) 3 (sz:=1) (by omega) (by simp)) ?_;rw[jY];apply aa.sq bb fw [2,6,22,23,24];simp[ac6];apply aa.block;refine aa.loop (λy:Nat=>⟨DM.look [(2,.v (.box [ti nt,ti nn,ti ns,.sl (aQ aj)])),(6,.aW 1400 0),(22,.v (.sl (dT ks))),(23,.v (ti ks.length)),(24,.v (ti y))],cR [(1400,.bm 0 3 1 (au (dZ aj (ks.take y))))],1600,1000,[]⟩)
    (λy=>y<=ks.length) (λy=>ks.length-y) 0 (Le.aL ?_ ?_ ?_ ?_) (by simp) (λy hy=>?_)
   .simp
   .simp
   .simp[dZ,au]
   .simp
   apply aa.ai bb fw [2,6,22,23,24,25];simp[ac7];apply aa.seq;refine aa.cond rfl (λaS=>?_) (λaS=>?_)
   .have aS:y<ks.length:=by simpa using aS
    apply aa.skip;simp;apply aa.seq;apply aa.block;have ht:=DP aS;have hz:=HP aS;have avM:=vT ks (y+1);have mr:=h4 y aS;have Zg:=HR (aj:=aj) aS;have Un:=qK aj (ks.getD y default);have hp3:=wO aj (ks.take y);obtain⟨⟨ka,kl⟩,hk⟩:=aY (ks.getD y default);rw[hk]at ht hz Zg mr Un;have rr:=DO aS hk;obtain⟨yl,sZ⟩:=aY (dw aj (.mk ka kl));rw[sZ]at Zg Un;have hS:au (dZ aj (ks.take (y+1)))=au (dZ aj (ks.take y))++au yl:=by rw[Zg,HS]
    apply aa.ai bb fw [2,6,8,22,23,24];simp[ac8,aS,rr];refine aa.lk (o:=[(1400,.bm 0 3 1 (au (dZ aj (ks.take y))))]) (l:=[(2,.v (.box [ti nt,ti nn,ti ns,.sl (aQ aj)])),(6,.aW 1400 0),(8,.v (.box [ti ka,.sl (dT kl)])),(22,.v (.sl (dT ks))),(23,.v (ti ks.length)),(24,.v (ti y))]) (bn:=2500) (by simp) ?_;apply aa.cZ bb fw [2,6,22,23,24];simp[ac9,Zl,cw,sZ];refine⟨⟨_,_,⟨rfl,rfl⟩,by omega,mr⟩,⟨SX yl,by omega,by omega⟩, ?_⟩;apply aa.cZ bb fw [2,6,22,23,24];simp[ada];rw[av (x:=(y:Int)+1) (by omega)];refine⟨y+1,Le.aL ?_ ?_ ?_ ?_,by omega,by omega⟩
    .simp
    .simp
    .simp[hS]
    .simp
   .have fI:y=ks.length:=by simp at aS;omega
    subst fI;rw[uJ];apply aa.exit;simp;apply aa.ai bb fw [4];simp[Zn];apply aa.ret;simp[dI]
abbrev asw:DM.Spec:=bp (λts=>∃a b c d e f,ts=[.agg [ti a,ti b,ti c,ti d,ti e,ti f]]) (fun|[.agg r]=>.sl (au (eu (mJ r)))|_=>.bool false) false
def asx(nt nn ns:Int)(aj:List bC):∀(N:Nat) (d:Tr) (h:Int),d.sz<=N->d.sz<=4194304->aJ ak 16 [.agg [ti nt,ti nn,ti ns,.sl (aQ aj)],ti h,.agg d.enc] (.bool (eG aj h d)):=by
 intro N;induction N with
 |zero=>intro d _ h;have:=zy d;omega
 |succ N ih=>
  rintro⟨m,ks⟩ h h1 h2;have bb:aw ak (bz [(16,Zm nt nn ns aj (min N 4194304)),(54,asw)]):=by
   refine aw.cons (aw.cons aw.nil ?_) ?_
   .rintro ts ⟨a,b,c,d,e,f,rfl⟩;exact⟨by simpa [bC.enc,mJ,dg]using asu ⟨a,b,c,d,e,f⟩,λh=>by cases h⟩
   .rintro ts ⟨h,a,l,rfl,hs⟩;exact⟨by simpa [Zm,Tr.enc]using ih (.mk a l) h (by omega) (by omega),λ_=>rfl⟩
  obtain⟨v,hv⟩:=aY (eG aj h (.mk m ks));have dB:=wP (aj:=aj) (h:=h) (m:=m) (ks:=ks);rw[hv]at dB⊢;have cW:∀{p:Prop},(v=true->p)->¬p->v=false:=λh1 h2=>by cases v with|false=>rfl|true=>exact qe (h1 rfl) h2
  simp only[Tr.sz]at h1 h2;have io:=oq ks;refine ae5.ok (by simp) (aH ?_);simp[Tr.enc];apply aa.ai bb fw [1,3,5];simp[Qp];refine aa.lk (o:=[]) (l:=[(1,.v (ti h)),(3,.v (.box [ti nt,ti nn,ti ns,.sl (aQ aj)])),(5,.v (.box [ti m,.sl (dT ks)]))]) (bn:=1200) (by simp) ?_;apply aa.seq;obtain⟨c1,bN⟩:=aY (decide (m<0\/(aj.length:Int)<=m\/¬(aj.getD m.toNat default).head=h):Bool);refine aa.bL bb fw [(3,.v (.box [ti nt,ti nn,ti ns,.sl (aQ aj)])),(5,.v (.box [ti m,.sl (dT ks)])),(31,.v (.bool c1))] ?_ ?_
  .by_cases q1:m<0
   .have:c1=true:=by rw[<-bN];simp[q1]
    simp[yk,q1,this]
   .obtain⟨m,rfl⟩:=bX (show 0<=m by omega);by_cases q2:aj.length<=m
    .have:c1=true:=by rw[<-bN];simp[q2]
     simp[yk,q1,q2,this]
    .obtain⟨⟨rk,rh,ra,rb,rp,rg⟩,qU⟩:=aY (aj.getD m default);have Yu:=qJ (by omega) qU;simp only[gN,qU]at bN;have q4:m<aj.length:=by omega
     by_cases q3:rh=h
     .have:c1=false:=by rw[<-bN];simp[q2,q3]
      simp[yk,q1,q2,q3,q4,Yu,bC.enc,this]
     .have:c1=true:=by rw[<-bN];simp[q3]
      simp[yk,q1,q2,q3,q4,Yu,bC.enc,this]
  refine aa.cond rfl (λg=>?_) (λg=>?_)
  .rw[g]at bN;have bN:=BN bN;have hvf:=cW dB.1 (λk=>by have:=k.1;have:=k.2.1;omega);apply aa.ai bb fw [6];simp[adb];apply aa.ret;simp[dI,hvf]
  .rw[g]at bN;have bN:=uF bN;obtain⟨m,rfl⟩:=bX (show 0<=m by omega);have m2:m<aj.length:=by omega
   simp only[gN]at dB bN;obtain⟨⟨rk,rh,ra,rb,rp,rg⟩,qU⟩:=aY (aj.getD m default);have Yu:=qJ m2 qU;rw[qU]at dB bN;have yE:=N3 ⟨rk,rh,ra,rb,rp,rg⟩;apply aa.skip;simp;apply aa.ai bb fw [3,5,7];simp[Qq,m2,Yu,bC.enc,mJ,dg];obtain⟨kl,vr⟩:=aY (eu ⟨rk,rh,ra,rb,rp,rg⟩);rw[vr]at dB yE⊢;apply aa.sq bb fw [3,5,7,44];simp[Qr];refine aa.cond rfl (λg4=>?_) (λg4=>?_)
   .have g4:¬ks.length=kl.length:=by simp at g4;omega
    have hvf:=cW dB.1 (λk=>g4 k.2.2.1);apply aa.ai bb fw [6];simp[adc];apply aa.ret;simp[dI,hvf]
   .have g4:ks.length=kl.length:=by simp at g4;omega
    apply aa.skip;simp;apply aa.sq bb fw [3,7,46,47,48];simp[atg];apply aa.block;refine aa.loop (λy:Nat=>⟨DM.look [(3,.v (.box [ti nt,ti nn,ti ns,.sl (aQ aj)])),(7,.v (.sl (au kl))),(46,.v (.sl (dT ks))),(47,.v (ti ks.length)),(48,.v (ti y))],cR [],2000,1000,[]⟩)
     (λy=>y<=kl.length/\∀i,i<y->eG aj (kl.getD i default) (ks.getD i default)=true) (λy=>kl.length-y) 0 (Le.aL (o:=[]) ?_ ?_ ?_ ?_) (by simp) (λy hy=>?_)
    iterate 4(·simp)
    obtain⟨vy,fI⟩:=hy;apply aa.ai bb fw [3,7,46,47,48,49];simp[Qt];apply aa.seq;refine aa.cond rfl (λaS=>?_) (λaS=>?_)
    .have mZ:y<ks.length:=by simpa using aS
     have aS:y<kl.length:=by omega
     apply aa.skip;simp;apply aa.seq;apply aa.block;have hz:=HP mZ;obtain⟨⟨ka,ll⟩,hk⟩:=aY (ks.getD y default);rw[hk]at hz;have rr:=DO mZ hk;have rr2:=bA aS;obtain⟨x,hx⟩:=aY (kl.getD y default);rw[hx]at rr2;apply aa.ai bb fw [3,7,8,9,46,47,48];simp[ade,mZ,rr];refine aa.lk (o:=[]) (l:=[(3,.v (.box [ti nt,ti nn,ti ns,.sl (aQ aj)])),(7,.v (.sl (au kl))),(8,.v (ti y)),(9,.v (.box [ti ka,.sl (dT ll)])),(46,.v (.sl (dT ks))),(47,.v (ti ks.length)),(48,.v (ti y))]) (bn:=2500) (by simp) ?_;apply aa.ai bb fw [3,7,46,47,48,60];simp[adf,aS,rr2,Zm];refine⟨⟨_,_,_,⟨rfl,rfl,rfl⟩,by omega⟩, ?_⟩;obtain⟨w,hw⟩:=aY (eG aj x (.mk ka ll));rw[hw];refine aa.cond rfl (λg8=>?_) (λg8=>?_)
     .have g8:w=false:=by simpa using g8
      have hvf:=cW dB.1 (λk=>by have:=k.2.2.2 y aS;rw[hx,hk,hw,g8]at this;cases this);apply aa.ai bb fw [6];simp[Zo];apply aa.ret;simp[dI,hvf]
     .have g8:w=true:=by simpa using g8
      rw[<-hw]at g8;apply aa.skip;simp;apply aa.cZ bb fw [3,7,46,47,48];simp[Zp];rw[av (x:=(y:Int)+1) (by omega)];refine⟨y+1,Le.aL (o:=[]) ?_ ?_ ?_ ?_,⟨by omega,λi hi=>?_⟩,by omega⟩;iterate 4(·simp)
      show eG aj (kl.getD i default) (ks.getD i default)=true;by_cases e:i=y
      .subst e;rw[hk,hx];exact g8
      .exact fI i (by omega)
    .have El:y=kl.length:=by simp at aS;omega
     subst El;have hvt:v=true:=dB.2 ⟨by omega,by simp only at bN⊢;omega,g4,fI⟩;apply aa.exit;simp;apply aa.ai bb fw [6];simp[KZ];apply aa.ret;simp[dI,hvt]
def Zq{a b:ba}(h:a.length=b.length)(k:∀i,i<a.length->a.getD i default=b.getD i default):a=b:=by
 apply Jc h;intro i h1 h2;have:=k i h1;simpa [List.getD,h1,h2]using this
def asy(a b:ba)(hl:a.length<=9223372036854775807):aJ ak 47 [.sl (au a),.sl (au b)] (.bool (decide (a=b))):=by
 have bb:=gV;obtain⟨R,hR⟩:=aY (decide (a=b));rw[hR];have cW:¬a=b->R=false:=λh=>by rw[<-hR];exact decide_eq_false h
 refine YD.ok (by simp) (aH ?_);simp;apply aa.ai bb fw [0,1];simp[H0];apply aa.sq bb fw [0,1,10];simp[H1];refine aa.cond rfl (λg1=>?_) (λg1=>?_)
 .have CM:=cW λe=>by rw[e]at g1;simp at g1
  apply aa.ai bb fw [4];simp[QD];apply aa.ret;simp[dI,CM]
 .have g1:a.length=b.length:=by simp at g1;omega
  apply aa.skip;simp;apply aa.sq bb fw [0,1,12,13];simp[QE];apply aa.block;refine aa.loop (λy:Nat=>⟨DM.look [(0,.v (.sl (au a))),(1,.v (.sl (au b))),(12,.v (ti a.length)),(13,.v (ti y))],cR [],2000,1000,[]⟩)
   (λy=>y<=a.length/\∀i,i<y->a.getD i default=b.getD i default) (λy=>a.length-y) 0 (Le.aL (o:=[]) ?_ ?_ ?_ ?_) (by simp) (λy hy=>?_)
  iterate 4(·simp)
  obtain⟨vy,fI⟩:=hy;apply aa.ai bb fw [0,1,12,13,14];simp[QF];apply aa.seq;refine aa.cond rfl (λaS=>?_) (λaS=>?_)
  .have aS:y<a.length:=by simpa using aS
   have wg:y<b.length:=by omega
   apply aa.skip;simp;apply aa.seq;apply aa.block;apply aa.ai bb fw [0,1,5,12,13];simp[QG];have r1:=bA aS;have r2:=bA wg;obtain⟨u,hu⟩:=aY (a.getD y default);obtain⟨w,hw⟩:=aY (b.getD y default);rw[hu]at r1;rw[hw]at r2;apply aa.ai bb fw [0,1,12,13,24];simp[QH,aS,wg,r1,r2];refine aa.cond rfl (λg6=>?_) (λg6=>?_)
   .have g6:¬u=w:=by simpa using g6
    have CM:=cW λe=>g6 (by rw[<-hu,<-hw,e]);apply aa.ai bb fw [4];simp[adg];apply aa.ret;simp[dI,CM]
   .have g6:u=w:=by simpa using g6
    apply aa.skip;simp;apply aa.cZ bb fw [0,1,12,13];simp[QI];rw[av (x:=(y:Int)+1) (by omega)];refine⟨y+1,Le.aL (o:=[]) ?_ ?_ ?_ ?_,⟨by omega,λi hi=>?_⟩,by omega⟩;iterate 4(·simp)
    show a.getD i default=b.getD i default;by_cases e:i=y
    .subst e;rw[hu,hw];exact g6
    .exact fI i (by omega)
  .have El:y=a.length:=by simp at aS;omega
   subst El;have hRt:R=true:=by rw[<-hR];exact decide_eq_true (Zq g1 fI)
   apply aa.exit;simp;apply aa.ai bb fw [4];simp[QJ];apply aa.ret;simp[dI,hRt]
section
variable{f0:bS}
def asA{b:Nat}{c2 c3 c5 c6:DV}{c:List bB}{m:Nat}{N:Nat}(hN:∀r,N<=r->f0 r=none)(hb:f0 b=some (.box [.v (.sl (bd c)),c2,c3,.v (ti m),c5,c6]))(hm:¬m<c.length):
  ce ak 271 [.ptr b 0] f0 ⟨True,.v (.dh [.agg [ti 0,.sl [],ti 0],.bool false]),f0⟩:=by
 have bb:=gV;refine alh.Ie hN (by simp) λc9=>?_;have zV:b<N:=(c9 b _ hb).1;have nb:∀k,b≠N+k:=λk=>by omega
 simp;apply aa.ai bb fw [0,2,3];simp[T2];apply aa.sq bb fw [2,14];simp[T3,hb,nb,pn];refine aa.cond rfl (λaS=>?_) (λaS=>by simp at aS;omega);apply aa.ai bb fw [2,3];simp[ai2,pn];refine aa.le (Le.qZ (N+3) 1 3 (sz:=1) (cs:=[.v (ti 0),.aZ,.v (ti 0)]) (by omega) (by simp) (by simp)) ?_;rw[fJ,fJ];refine aa.le (Le.iy (l1:=[(N+3,.box [.v (ti 0),.v (.sl []),.v (ti 0)])]) (l:=[(2,.ptr (N+3) 0),(3,.v (.bool false))]) (bn:=N+100) c9 ?_ ?_ ?_ ?_ ?_) ?_
 .omega
 .simp
 .simp[cY]
 .simp[kp,kq,jy,da,br];exact j8 c9 (by omega) (by simp)
 .simp
 refine aa.le (Le.iy (l1:=[]) (l:=[(2,.v (.box [ti 0,.sl [],ti 0])),(3,.v (.bool false))]) (bn:=N+100) c9 ?_ ?_ ?_ ?_ ?_) ?_
 .omega
 .simp
 .simp[cY]
 .simp[kp,kq]
 .simp[];exact j8 c9 (by omega) (by simp)
 apply aa.ret;simp[Gq];rfl
def QW:bW->bS->iw
 |[.ptr b 0],ab=>
  match ab b with
  |some (.box [.v (.sl c),_,_,.v (.int .i64 m),_,_])=>⟨0<=m/\c=bd (kR c),.v (if m<c.length then .dh [.agg ((kR c).getD m.toNat default).enc,.bool true]else .dh [.agg [ti 0,.sl [],ti 0],.bool false]),ab⟩
  |_=>⟨False,.undef,ab⟩
 |_,ab=>⟨False,.undef,ab⟩
def K6{f:bS}{b m v a:Nat}{x:Input}{c:Int}(hb:f b=some (eI x m c a v)):QW [.ptr b 0] f=⟨True,.v (if m<x.ag.length then .dh [.agg (x.ag.getD m default).enc,.bool true]else .dh [.agg [ti 0,.sl [],ti 0],.bool false]),f⟩:=by
 simp[QW,hb,eI]
def QX:aw ak (bz [(271,fl QW),(205,eSw)]):=by
 refine aw.il (aw.cons aw.nil ?_) ?_
 .rintro ts ⟨x,m,rfl,h1,h2⟩;exact⟨by simpa using _root_.Go.Proofs.t74 x m h1 h2,λ_=>rfl⟩
 .intro args ab h;unfold QW at h⊢;split at h
  .rename_i b;split at h
   .rename_i c c2 c3 m c5 c6 hb;obtain⟨h1,h2⟩:=h;obtain⟨m,rfl⟩:=bX h1;refine⟨λN hN=>?_,λr hr=>by simpa using hr⟩;rw[h2]at hb;have hl:c.length=(kR c).length:=by conv=>lhs;rw[h2];simp[bd]
    by_cases hm:m<c.length
    .have:=alg hN hb (by omega);exact ce.of this rfl (by rw[ee (by omega)];rfl)
    .have:=asA hN hb (by omega);exact ce.of this rfl (by rw[iK (by omega)])
   .exact h.elim
  .exact h.elim
def Bz(x:Input)(m:Nat)(k:Nat)(t:Int):Prop:=
 if k=1 then m<x.ag.length/\0<=t/\t<(x.ag.getD m default).read.length/\0<=cV x m t.toNat
 else if k=2 then m<x.ag.length/\t=0/\eL x m<1099511627776
 else if k=3 then 0<=t/\t<x.insert.length
 else t=0/\cG x m=true
def asB{b a m v:Nat}{x:Input}{c:Int}{t:Int}{N:Nat}(hN:∀r,N<=r->f0 r=none)(hb:f0 b=some (eI x m c a v))(hc:¬Bz x m 3 t):
  ce ak 269 [.ptr b 0,.v (ti t)] f0 ⟨True,.v (.bool false),f0⟩:=by
 have bb:=QX;have hc:¬(0<=t/\t<x.insert.length):=hc;refine alq.Ie hN (by simp) λc9=>?_;have zV:b<N:=(c9 b _ hb).1;have nb:∀k,b≠N+k:=λk=>by omega
 simp;apply aa.ai bb fw [0,1];simp[T8];apply aa.seq;refine aa.bL bb fw [(16,.v (.bool true))] ?_ ?_
 .by_cases q1:t<0
  .simp[LO,q1]
  .have q2:(x.insert.length:Int)<=t:=by omega
   simp[LO,q1,q2,hb,eI]
 refine aa.cond rfl (λ_=>?_) (λg=>by cases g);apply aa.ai bb fw [4];simp[ai5];apply aa.ret;simp[dI];rfl
def asC{b a m v:Nat}{x:Input}{c:Int}{t:Int}{N:Nat}(hN:∀r,N<=r->f0 r=none)(hb:f0 b=some (eI x m c a v))(h1:m<=1000000)(h5:x.ag.length<=1000000)(hc:¬Bz x m 4 t):
  ce ak 270 [.ptr b 0,.v (ti t)] f0 ⟨True,.v (.bool false),f0⟩:=by
 have bb:=QX;have hc:¬(t=0/\cG x m=true):=hc;refine als.Ie hN (by simp) λc9=>?_;have zV:b<N:=(c9 b _ hb).1;have nb:∀k,b≠N+k:=λk=>by omega
 obtain⟨xt,tA⟩:=aY x.enc;have ov:T.agg [.sl (bd x.ag),.sl (au x.insert),ti x.swap]=xt:=tA;have Ox:xd xt=x:=by rw[<-tA];simp
 have oL:∃(x2:Input) (m2:Nat),(xt=x2.enc/\(m:Int)=m2)/\m2<=1000000/\x2.ag.length<=1000000:=⟨x,m,⟨tA.symm,rfl⟩,h1,h5⟩;simp;apply aa.ai bb fw [0,1];simp[T9];apply aa.seq;refine aa.bL bb fw [(18,.v (.bool true))] ?_ ?_
 .by_cases q1:t=0
  .have q2:cG x m=false:=by simpa [q1]using hc
   simp[LP,q1,hb,eI,ov,Ox,q2];exact oL
  .simp[LP,q1]
 refine aa.cond rfl (λ_=>?_) (λg=>by cases g);apply aa.ai bb fw [4];simp[ai6];apply aa.ret;simp[dI];rfl
def asD{b a m v:Nat}{x:Input}{c:Int}{t:Int}{N:Nat}(hN:∀r,N<=r->f0 r=none)(hb:f0 b=some (eI x m c a v))(hc:¬Bz x m 1 t):
  ce ak 267 [.ptr b 0,.v (ti t)] f0 ⟨True,.v (.bool false),f0⟩:=by
 have bb:=QX;have hc:¬(m<x.ag.length/\0<=t/\t<(x.ag.getD m default).read.length/\0<=cV x m t.toNat):=hc;refine alj.Ie hN (by simp) λc9=>?_;have zV:b<N:=(c9 b _ hb).1;have nb:∀k,b≠N+k:=λk=>by omega
 obtain⟨⟨kd,rd,dl⟩,ec⟩:=aY (x.ag.getD m default);have hk:=K6 (f:=dA [] f0) hb;rw[ec]at hk;obtain⟨ok,aN⟩:=aY (decide (m<x.ag.length):Bool);obtain⟨⟨kd',Tw,dl'⟩,aS⟩:=aY ((if m<x.ag.length then(⟨kd,rd,dl⟩:bB)else⟨0,[],0⟩):bB);have hv:(if m<x.ag.length then T.dh [.agg (⟨kd,rd,dl⟩:bB).enc,.bool true]else .dh [.agg [ti 0,.sl [],ti 0],.bool false])=.dh [.agg [ti kd',.sl (au Tw),ti dl'],.bool ok]:=by
  by_cases e:m<x.ag.length
  .rw[ee e]at aS⊢;rw[<-aN,decide_eq_true e]
   injection aS with e1 e2 e3
   rw[bB.enc,e1,e2,e3]
  .rw[iK e]at aS⊢;rw[<-aN,decide_eq_false e]
   injection aS with e1 e2 e3
   rw[<-e1,<-e2,<-e3];rfl
 rw[hv]at hk;have JE:ok=true->(⟨kd',Tw,dl'⟩:bB)=⟨kd,rd,dl⟩:=λe=>by rw[<-aS,ee (BN (aN.trans e))]
 simp;apply aa.ai bb fw [0,1];simp[T6];apply aa.uG bb fw (rs:=A5) pV (by kernel_rfl) [1,5,6];simp[A5,hk];refine aa.le (Le.iy (l1:=[]) (l:=[(1,.v (ti t)),(5,.v (.box [ti kd',.sl (au Tw),ti dl'])),(6,.v (.bool ok))]) (bn:=N+1000) c9 ?_ ?_ ?_ ?_ ?_) ?_
 .omega
 .simp
 .simp[cY];omega
 .simp[kp,kq]
 .simp[nb,pn];exact j8 (l:=[]) c9 (by omega) (by simp)
 apply aa.seq;refine aa.bL bb fw [(32,.v (.bool true))] ?_ ?_
 .cases ok with
  |false=>simp[BW]
  |true=>
   have hm:=BN aN;have e:=JE rfl
   injection e with e1 e2 e3
   subst e1 e2 e3;by_cases q1:t<0
   .simp[BW,q1]
   .obtain⟨t,rfl⟩:=bX (show 0<=t by omega);by_cases q2:Tw.length<=t
    .have TW:(Tw.length:Int)<=t:=by omega
     simp[BW,q1,TW]
    .have TW:¬(Tw.length:Int)<=t:=by omega
     have q3:t<Tw.length:=by omega
     have rr:=bA q3;have BT:cV x m t=Tw.getD t default:=by unfold cV;rw[ec]
     obtain⟨g,hg⟩:=aY (cV x m t);rw[hg]at BT;rw[<-BT]at rr;have q5:g<0:=by
      rw[ec]at hc;simp only[gN,hg]at hc;omega
     simp[BW,q1,TW,q3,rr,q5]
 refine aa.cond rfl (λ_=>?_) (λg=>by cases g);apply aa.ai bb fw [4];simp[ai3];apply aa.ret;simp[dI];rfl
def asE{b a m v:Nat}{x:Input}{c:Int}{t:Int}{N:Nat}(hN:∀r,N<=r->f0 r=none)(hb:f0 b=some (eI x m c a v))(hc:¬Bz x m 2 t):
  ce ak 268 [.ptr b 0,.v (ti t)] f0 ⟨True,.v (.bool false),f0⟩:=by
 have bb:=QX;have hc:¬(m<x.ag.length/\t=0/\eL x m<1099511627776):=hc;refine alo.Ie hN (by simp) λc9=>?_;have zV:b<N:=(c9 b _ hb).1;have nb:∀k,b≠N+k:=λk=>by omega
 obtain⟨⟨kd,rd,dl⟩,ec⟩:=aY (x.ag.getD m default);have hk:=K6 (f:=dA [] f0) hb;rw[ec]at hk;obtain⟨ok,aN⟩:=aY (decide (m<x.ag.length):Bool);obtain⟨⟨kd',Tw,dl'⟩,aS⟩:=aY ((if m<x.ag.length then(⟨kd,rd,dl⟩:bB)else⟨0,[],0⟩):bB);have hv:(if m<x.ag.length then T.dh [.agg (⟨kd,rd,dl⟩:bB).enc,.bool true]else .dh [.agg [ti 0,.sl [],ti 0],.bool false])=.dh [.agg [ti kd',.sl (au Tw),ti dl'],.bool ok]:=by
  by_cases e:m<x.ag.length
  .rw[ee e]at aS⊢;rw[<-aN,decide_eq_true e]
   injection aS with e1 e2 e3
   rw[bB.enc,e1,e2,e3]
  .rw[iK e]at aS⊢;rw[<-aN,decide_eq_false e]
   injection aS with e1 e2 e3
   rw[<-e1,<-e2,<-e3];rfl
 rw[hv]at hk;have JE:ok=true->(⟨kd',Tw,dl'⟩:bB)=⟨kd,rd,dl⟩:=λe=>by rw[<-aS,ee (BN (aN.trans e))]
 simp;apply aa.ai bb fw [0,1];simp[T7];apply aa.uG bb fw (rs:=A6) pV (by kernel_rfl) [1,5,6];simp[A6,hk];refine aa.le (Le.iy (l1:=[]) (l:=[(1,.v (ti t)),(5,.v (.box [ti kd',.sl (au Tw),ti dl'])),(6,.v (.bool ok))]) (bn:=N+1000) c9 ?_ ?_ ?_ ?_ ?_) ?_
 .omega
 .simp
 .simp[cY];omega
 .simp[kp,kq]
 .simp[nb,pn];exact j8 (l:=[]) c9 (by omega) (by simp)
 apply aa.seq;refine aa.bL bb fw [(22,.v (.bool true))] ?_ ?_
 .cases ok with
  |false=>simp[Gs]
  |true=>
   have hm:=BN aN;have e:=JE rfl
   injection e with e1 e2 e3
   subst e1 e2 e3;by_cases q1:t=0
   .have q5:1099511627776<=dl':=by
     have:eL x m=dl':=by unfold eL;rw[ec]
     rw[this]at hc;omega
    simp[Gs,q1,q5]
   .simp[Gs,q1]
 refine aa.cond rfl (λ_=>?_) (λg=>by cases g);apply aa.ai bb fw [4];simp[ai4];apply aa.ret;simp[dI];rfl
end
structure Zr(x:Input):Prop where
 rd:∀c∈x.ag,∀p∈c.read,p<=1099511627776
 Ep:∀i,0<=eL x i
 dm:∀t,0<=f7 x t/\f7 x t<=1099511627776
 sw:0<=x.swap/\x.swap<=1099511627776
 LN:x.ag.length<=1000000
def akb{x:Input}(hx:Zr x){s:ES}{k:Nat}{t:Int}(hk:k=1\/k=2\/k=3\/k=4)(h:Bz x s.dC k t):qW x s k t.toNat/\0<=t:=by
 have hI:dV=1099511627776:=rfl;rcases hk with rfl|rfl|rfl|rfl
 .have h:s.dC<x.ag.length/\0<=t/\t<(x.ag.getD s.dC default).read.length/\0<=cV x s.dC t.toNat:=h;refine⟨⟨h.1,by omega,h.2.2.2, ?_⟩,h.2.1⟩;have hc:x.ag.getD s.dC default∈x.ag:=by simp[List.getD,h.1]
  exact hx.rd _ hc _ (bu (by omega))
 .have h:s.dC<x.ag.length/\t=0/\eL x s.dC<1099511627776:=h;exact⟨⟨h.1,by omega,hx.Ep _,h.2.2⟩,by omega⟩
 .have h:0<=t/\t<x.insert.length:=h;exact⟨⟨by omega,hx.dm _⟩,h.1⟩
 .have h:t=0/\cG x s.dC=true:=h;exact⟨⟨by omega,h.2,hx.sw⟩,by omega⟩
open Classical in
noncomputable def kG(k:Nat):bW->bS->iw
 |[.ptr b 0,.v (.int .i64 t)],ab=>
  ⟨ab b=some (eI (fu ab b).1 (fu ab b).2.1.dC (fu ab b).2.1.aA (fu ab b).2.2 (fu ab b).2.1.out.length)/\ab (fu ab b).2.2=some (nV (fu ab b).2.1)/\(fu ab b).2.2≠b/\BV (fu ab b).1 (fu ab b).2.1/\Zr (fu ab b).1,
   .v (.bool (decide (Bz (fu ab b).1 (fu ab b).2.1.dC k t))),if Bz (fu ab b).1 (fu ab b).2.1.dC k t then dx (dx ab (fu ab b).2.2 (nV (cj (fu ab b).1 (fu ab b).2.1 k t.toNat))) b (eI (fu ab b).1 (cj (fu ab b).1 (fu ab b).2.1 k t.toNat).dC (cj (fu ab b).1 (fu ab b).2.1 k t.toNat).aA (fu ab b).2.2 (cj (fu ab b).1 (fu ab b).2.1 k t.toNat).out.length)else ab⟩
 |_,ab=>⟨False,.undef,ab⟩
open Classical in
def afc{ab:bS}{b a k:Nat}{t:Int}{x:Input}{s:ES}(h:ab b=some (eI x s.dC s.aA a s.out.length))(ha:ab a=some (nV s))(ik:a≠b):
  kG k [.ptr b 0,.v (ti t)] ab=⟨BV x s/\Zr x,.v (.bool (decide (Bz x s.dC k t))),if Bz x s.dC k t then dx (dx ab a (nV (cj x s k t.toNat))) b (eI x (cj x s k t.toNat).dC (cj x s k t.toNat).aA a (cj x s k t.toNat).out.length)else ab⟩:=by
 simp only[kG,OG h ha,h,ha,iw.mk.injEq,ZI,Em,eq_iff_iff];simp[ik]
open Classical in
def QY{f k:Nat}(vr:k=1\/k=2\/k=3\/k=4)
  (H:∀args ab,(kE k args ab).ok->(∀N,(∀r,N<=r->ab r=none)->ce ak f args ab (kE k args ab))/\∀r,ab r=none->(kE k args ab).ab r=none)
  (F:∀{f0:bS} {b a m v:Nat} {x:Input} {c:Int} {t:Int} {N:Nat},(∀r,N<=r->f0 r=none)->f0 b=some (eI x m c a v)->m<=1000000->x.ag.length<=1000000->¬Bz x m k t->ce ak f [.ptr b 0,.v (ti t)] f0 ⟨True,.v (.bool false),f0⟩):
  ∀args ab,(kG k args ab).ok->(∀N,(∀r,N<=r->ab r=none)->ce ak f args ab (kG k args ab))/\∀r,ab r=none->(kG k args ab).ab r=none:=by
 intro args ab h;unfold kG at h;split at h
 .rename_i b t;obtain⟨hb,ha,ik,hs,hx⟩:=h;obtain⟨⟨x,s,a⟩,hd⟩:=aY (fu ab b);rw[hd]at hb ha ik hs hx;simp only at hb ha ik hs hx;have hG:=afc (k:=k) (t:=t) hb ha ik;rw[hG];by_cases hc:Bz x s.dC k t
  .obtain⟨tg,ht0⟩:=akb hx vr hc;obtain⟨t,rfl⟩:=bX ht0;rw[gN]at tg;have hE:=adW (k:=k) (t:=t) hb ha ik;have:=H [.ptr b 0,.v (ti t)] ab (by rw[hE];exact⟨hs,tg⟩);rw[hE]at this;rw[ee hc,decide_eq_true hc,gN];exact⟨λN hN=>ce.of (this.1 N hN) rfl rfl,this.2⟩
  .rw[iK hc,decide_eq_false hc];exact⟨λN hN=>ce.of (F hN hb hs.dC hs.LN hc) rfl rfl,λr hr=>hr⟩
 .exact h.elim
def akc:aw ak (bz [(267,fl (kG 1)),(268,fl (kG 2)),(269,fl (kG 3)),(270,fl (kG 4))]):=by
 refine aw.il (aw.il (aw.il (aw.il aw.nil ?_) ?_) ?_) ?_
 .refine QY (.inr (.inr (.inr rfl))) ?_ λhN hb h1 h5 hc=>asC hN hb h1 h5 hc;refine zW λ{f0 b a x s t N} hN hb ha ik hs hc=>?_;have:=alr hN hb ha ik hs hc;simpa [cj,nV]using this
 .refine QY (.inr (.inr (.inl rfl))) ?_ λhN hb h1 h5 hc=>asB hN hb hc;refine zW λ{f0 b a x s t N} hN hb ha ik hs hc=>?_;have:=alp hN hb ha ik hs hc;simpa [cj,nV]using this
 .refine QY (.inr (.inl rfl)) ?_ λhN hb h1 h5 hc=>asE hN hb hc;refine zW λ{f0 b a x s t N} hN hb ha ik hs hc=>?_;have:=alk hN hb ha ik hs hc;have e:dx f0 a (nV s)=f0:=qY ha;have e2:cj x s 2 t=⟨s.dC+1,s.out,min (s.aA+eL x s.dC) 1099511627776⟩:=rfl;have e3:nV (cj x s 2 t)=nV s:=rfl;rw[e3,e,e2];exact this
 .refine QY (.inl rfl) ?_ λhN hb h1 h5 hc=>asD hN hb hc;refine zW λ{f0 b a x s t N} hN hb ha ik hs hc=>?_;have:=ali hN hb ha ik hs hc;simpa [cj,nV]using this
def abv(x:Input)(s:ES)(q:Int×Int):Prop:=(1<=q.1/\q.1<=4)/\Bz x s.dC q.1.toNat q.2
open Classical in
noncomputable def N9(x:Input)(o:Option ES)(q:Int×Int):Option ES:=match o with
 |some s=>if abv x s q then some (cj x s q.1.toNat q.2.toNat)else none
 |none=>none
noncomputable def zA(x:Input)(l:List (Int×Int)):Option ES:=l.foldl (N9 x) (some ⟨0,[],0⟩)
def Tb(x:Input){l:List (Int×Int)}{j:Nat}{q:Int×Int}(h:j<l.length)(e:l.getD j default=q):zA x (l.take (j+1))=N9 x (zA x (l.take j)) q:=by
 unfold zA;rw[OS,mM h,Zcn,uK,<-e];simp[List.getD,h]
def F6(x:Input)(l:List (Int×Int)):l.foldl (N9 x) none=none:=by
 induction l with
 |nil=>rfl
 |cons q l ih=>exact ih
def Tc{x:Input}{l:List (Int×Int)}{j:Nat}(h:zA x (l.take j)=none):zA x l=none:=by
 have:l=l.take j++l.drop j:=(Ek j l).symm;unfold zA at*
 rw[this,uK,h,F6]
open Classical in
noncomputable def ta(x:Input)(l:List (Int×Int)):Option ES:=match zA x l with
 |some s=>if s.dC=x.ag.length then some s else none
 |none=>none
def esG(x:Input)(s:ES)(i:Nat):Prop:=s.dC<=x.ag.length/\s.out.length<=2*i/\0<=s.aA/\s.aA<=1099511627776
def akd{x:Input}{s:ES}{i:Nat}(hx:Zr x)(h:esG x s i)(hi:i<=4200000):BV x s:=by
 obtain⟨h1,h2,h3,h4⟩:=h;have:=hx.LN;exact⟨by omega,by omega,h3,h4,hx.LN⟩
def K7{x:Input}{s:ES}{i k:Nat}{t:Int}(hx:Zr x)(hk:k=1\/k=2\/k=3\/k=4)(h:esG x s i)(hc:Bz x s.dC k t):esG x (cj x s k t.toNat) (i+1):=by
 obtain⟨h1,h2,h3,h4⟩:=h;have hI:dV=1099511627776:=rfl;rcases hk with rfl|rfl|rfl|rfl
 .have hc:s.dC<x.ag.length/\0<=t/\t<(x.ag.getD s.dC default).read.length/\0<=cV x s.dC t.toNat:=hc;refine⟨?_, ?_, ?_, ?_⟩<;>simp only[cj,Eg,nH,B8,ZbJ]<;>omega
 .have hc:s.dC<x.ag.length/\t=0/\eL x s.dC<1099511627776:=hc;have:=hx.Ep s.dC;refine⟨?_, ?_, ?_, ?_⟩<;>simp only[cj,show ¬(2:Nat)=1 by omega,A0,Eg]<;>omega
 .have:=hx.dm t.toNat;refine⟨?_, ?_, ?_, ?_⟩<;>simp only[cj,show ¬(3:Nat)=1 by omega,show ¬(3:Nat)=2 by omega,A0,Eg,nH,B8,ZbJ]<;>omega
 .have hc:t=0/\cG x s.dC=true:=hc;have:=jj hc.2;have:=hx.sw;refine⟨?_, ?_, ?_, ?_⟩<;>simp only[cj,show ¬(4:Nat)=1 by omega,show ¬(4:Nat)=2 by omega,show ¬(4:Nat)=3 by omega,A0,nH,B8,ZbJ]<;>omega
structure GM where
 i:Nat
 s:ES
noncomputable def K8(x:Input)(l:List (Int×Int)):T:=match ta x l with
 |some s=>.dh [.box [.sl (bd x.ag),.sl (au x.insert),ti x.swap,ti s.dC,.sl (au s.out),ti s.aA],ti 0]
 |none=>.dh [.tf (Go.Value.pointer Option.none),ti 1]
def vn{x:Input}{l:List (Int×Int)}(h:ta x l=none):K8 x l=.dh [.tf (Go.Value.pointer Option.none),ti 1]:=by unfold K8;rw[h]
def zM{x:Input}{l:List (Int×Int)}{s:ES}(h:ta x l=some s):K8 x l=.dh [.box [.sl (bd x.ag),.sl (au x.insert),ti x.swap,ti s.dC,.sl (au s.out),ti s.aA],ti 0]:=by unfold K8;rw[h]
open Classical in
def afd(x:Input)(l:List (Int×Int))(hx:Zr x)(ct:l.length<=4200000):aJ ak 103 [x.enc,.sl (ca l)] (K8 x l):=by
 have bb:=akc;obtain⟨R,hR⟩:=aY (K8 x l);rw[hR];refine alv.ok (by simp) (aH ?_);simp[Input.enc];apply aa.ai bb fw [1,2];simp[Ub];apply aa.ai bb fw [1,2,6];simp[Uc];refine aa.lk (o:=[(1060,.box [.v (.sl (bd x.ag)),.v (.sl (au x.insert)),.v (ti x.swap),.v (ti 0),.aZ,.v (ti 0)])]) (l:=[(1,.v (.sl (ca l))),(2,.v (.box [.sl (bd x.ag),.sl (au x.insert),ti x.swap])),(6,.ptr 1060 0)]) (bn:=1100) (by simp) ?_;refine aa.le (Le.qZ 1060 4 3 (sz:=1) (cs:=[.v (.sl (bd x.ag)),.v (.sl (au x.insert)),.v (ti x.swap),.v (ti 0),.aZ,.v (ti 0)]) (by omega) (by simp) (by simp)) ?_;rw[jY,jY];apply aa.sq bb fw [2,6,12,13,14];simp[Ud];apply aa.block;refine aa.loop (λz:GM=>⟨DM.look [(2,.v (.box [.sl (bd x.ag),.sl (au x.insert),ti x.swap])),(6,.ptr 1060 0),(12,.v (.sl (ca l))),(13,.v (ti l.length)),(14,.v (ti z.i))],cR [(1060,eI x z.s.dC z.s.aA 1100 z.s.out.length),(1100,nV z.s)],2000,1000,[]⟩)
  (λz=>z.i<=l.length/\zA x (l.take z.i)=some z.s/\esG x z.s z.i) (λz=>l.length-z.i) ⟨0,⟨0,[],0⟩⟩ (Le.aL ?_ ?_ ?_ ?_) ⟨by simp,rfl,⟨by simp,by simp,by simp,by simp⟩⟩ (λz hz=>?_)
 .simp
 .simp
 .simp[eI,nV,au]
 .simp[eI]
 obtain⟨i,s⟩:=z;obtain⟨hi,bO,nN⟩:=hz;simp only at hi bO nN⊢;apply aa.ai bb fw [2,6,12,13,14,15];simp[Ue];apply aa.seq;refine aa.cond rfl (λaS=>?_) (λaS=>?_)
 .simp at aS;apply aa.skip;simp;have gf:=EX aS;have iO:=akd hx nN (by omega);obtain⟨⟨k,t⟩,ho⟩:=aY (l.getD i default);have gh:=Tb x aS ho;rw[bO]at gh;rw[ho]at gf;apply aa.seq;apply aa.block;apply aa.ai bb fw [2,6,8,12,13,14];simp[Uf,gf,aS];refine aa.le (Le.aL (o:=[(1060,eI x s.dC s.aA 1100 s.out.length),(1100,nV s)]) (l:=[(2,.v (.box [.sl (bd x.ag),.sl (au x.insert),ti x.swap])),(6,.ptr 1060 0),(8,.v (.box [ti k,ti t])),(12,.v (.sl (ca l))),(13,.v (ti l.length)),(14,.v (ti i))]) (bn:=3000) ?_ ?_ ?_ ?_) ?_
  .simp
  .simp
  .simp[eI,nV]
  .simp[eI]
  obtain⟨F,hF⟩:=aY (cR [(1060,eI x s.dC s.aA 1100 s.out.length),(1100,nV s)]);have hb:F 1060=some (eI x s.dC s.aA 1100 s.out.length):=by rw[<-hF];simp
  have ha:F 1100=some (nV s):=by rw[<-hF];simp
  have hk:=λq=>afc (k:=q) (t:=t) hb ha (by omega);by_cases aN:abv x s (k,t)
  .obtain⟨⟨mr,hk4⟩,tE⟩:=id aN;simp only at mr hk4 tE;have gh:zA x (l.take (i+1))=some (cj x s k.toNat t.toNat):=by rw[gh];unfold N9;simp only;rw[ee aN]
   have vr:k=1\/k=2\/k=3\/k=4:=by omega
   have asF:=K7 hx (k:=k.toNat) (by omega) nN tE;obtain⟨s',LQ⟩:=aY (cj x s k.toNat t.toNat);rw[LQ]at gh asF;refine aa.xj bb fw [(2,.v (.box [.sl (bd x.ag),.sl (au x.insert),ti x.swap])),(6,.ptr 1060 0),(12,.v (.sl (ca l))),(13,.v (ti l.length)),(14,.v (ti i)),(36,.v (.bool false))] (cR [(1060,eI x s'.dC s'.aA 1100 s'.out.length),(1100,nV s'),(1060,eI x s.dC s.aA 1100 s.out.length),(1100,nV s)]) ?_ ?_
   .have vu:dx (dx F 1100 (nV s')) 1060 (eI x s'.dC s'.aA 1100 s'.out.length)=cR [(1060,eI x s'.dC s'.aA 1100 s'.out.length),(1100,nV s'),(1060,eI x s.dC s.aA 1100 s.out.length),(1100,nV s)]:=by rw[<-hF];rfl
    rw[hF];rcases vr with rfl|rfl|rfl|rfl
    .have yz:cj x s 1 t.toNat=s':=LQ;have bN:Bz x s.dC 1 t:=tE;simp[lU,hk,yz,iO,hx,bN,vu]
    .have yz:cj x s 2 t.toNat=s':=LQ;have bN:Bz x s.dC 2 t:=tE;simp[lU,hk,yz,iO,hx,bN,vu]
    .have yz:cj x s 3 t.toNat=s':=LQ;have bN:Bz x s.dC 3 t:=tE;simp[lU,hk,yz,iO,hx,bN,vu]
    .have yz:cj x s 4 t.toNat=s':=LQ;have bN:Bz x s.dC 4 t:=tE;simp[lU,hk,yz,iO,hx,bN,vu]
   refine aa.cond rfl (λaS=>by cases aS) (λaS=>?_);apply aa.skip;simp;apply aa.cZ bb fw [2,6,12,13,14];simp[Ug];rw[av (by omega)];refine⟨⟨i+1,s'⟩,Le.aL ?_ ?_ ?_ ?_,⟨by simp only;omega,gh,asF⟩,by simp only;omega⟩
   .simp
   .simp
   .simp[eI,nV]
   .simp[eI]
  .have gh:zA x (l.take (i+1))=none:=by rw[gh];unfold N9;simp only;rw[iK aN]
   have hRn: .dh [.tf (Go.Value.pointer Option.none),ti 1]=R:=by rw[<-hR];exact(vn (by unfold ta;rw[Tc gh])).symm
   refine aa.xj bb fw [(36,.v (.bool true))] (cR [(1060,eI x s.dC s.aA 1100 s.out.length),(1100,nV s)]) ?_ ?_
   .rw[hF];by_cases q1:k<1
    .simp[lU,q1]
    .by_cases q2:4<k
     .simp[lU,q1,q2]
     .have Rv:¬Bz x s.dC k.toNat t:=λh=>aN ⟨⟨by simp only;omega,by simp only;omega⟩,h⟩;have vr:k=1\/k=2\/k=3\/k=4:=by omega
      rcases vr with rfl|rfl|rfl|rfl
      .have bN:¬Bz x s.dC 1 t:=Rv;simp[lU,hk,iO,hx,bN]
      .have bN:¬Bz x s.dC 2 t:=Rv;simp[lU,hk,iO,hx,bN]
      .have bN:¬Bz x s.dC 3 t:=Rv;simp[lU,hk,iO,hx,bN]
      .have bN:¬Bz x s.dC 4 t:=Rv;simp[lU,hk,iO,hx,bN]
   refine aa.cond rfl (λaS=>?_) (λaS=>by cases aS);apply aa.ai bb fw [4,5];simp[ai7];apply aa.ret;simp[xk,hRn]
 .simp at aS;have sW:i=l.length:=by omega
  subst sW;rw[uJ]at bO;apply aa.exit;simp;apply aa.seq;by_cases fN:s.dC=x.ag.length
  .have hRs:=zM (x:=x) (l:=l) (s:=s) (by unfold ta;rw[bO];simp only;rw[ee fN]);rw[hR]at hRs;subst hRs;refine aa.bL bb fw [(6,.ptr 1060 0),(45,.v (.bool false))] ?_ ?_
   .simp[LR,eI,fN]
   refine aa.cond rfl (λaS=>by cases aS) (λaS=>?_);apply aa.skip;simp;apply aa.ai bb fw [4,5];simp[OH];refine aa.le (Le.aL (o:=[(1060,.box [.v (.sl (bd x.ag)),.v (.sl (au x.insert)),.v (ti x.swap),.v (ti s.dC),.v (.sl (au s.out)),.v (ti s.aA)])]) (l:=[(4,.ptr 1060 0),(5,.v (ti 0))]) (bn:=3000) ?_ ?_ ?_ ?_) ?_
   .simp
   .simp
   .simp[eI,nV]
   .simp[eI]
   refine aa.lk (o:=[]) (l:=[(4,.v (.box [.sl (bd x.ag),.sl (au x.insert),ti x.swap,ti s.dC,.sl (au s.out),ti s.aA])),(5,.v (ti 0))]) (bn:=4000) (by simp) ?_;apply aa.ret;simp[xk]
  .have hRn: .dh [.tf (Go.Value.pointer Option.none),ti 1]=R:=by rw[<-hR];exact(vn (by unfold ta;rw[bO];simp only;rw[iK fN])).symm
   have asG:¬(s.dC:Int)=x.ag.length:=by omega
   refine aa.bL bb fw [(45,.v (.bool true))] ?_ ?_
   .simp[LR,eI,asG]
   refine aa.cond rfl (λaS=>?_) (λaS=>by cases aS);apply aa.ai bb fw [4,5];simp[ai8];apply aa.ret;simp[xk,hRn]
noncomputable def Ok(x:Input)(l:List (Int×Int)):T:=match ta x l with
 |some s=>.dh [.sl (au s.out),ti 0]
 |none=>.dh [.sl [],ti 1]
noncomputable def Td(x:Input)(l:List (Int×Int)):T:=match ta x l with
 |some s=>.dh [ti s.aA,ti 0]
 |none=>.dh [ti 0,ti 1]
def asH(x:Input)(l:List (Int×Int))(hx:Zr x)(ct:l.length<=4200000):aJ ak 49 [x.enc,.sl (ca l)] (Ok x l):=by
 have k80:=afd x l hx ct;obtain⟨R,hR⟩:=aY (K8 x l);rw[hR]at k80;obtain⟨A,hA⟩:=aY (Ok x l);rw[hA];have bb:aw ak (bz [(103,bp (λts=>ts=[x.enc,.sl (ca l)]) (λ_=>R) false)]):=by
  refine aw.cons aw.nil ?_;rintro ts rfl;exact⟨k80,λh=>by cases h⟩
 refine alA.ok (by simp) (aH ?_);obtain⟨xt,tA⟩:=aY x.enc;have ov:T.agg [.sl (bd x.ag),.sl (au x.insert),ti x.swap]=xt:=tA;rw[tA]at bb;simp[Input.enc];apply aa.ai bb fw [1,2];simp[Uh];cases hg:ta x l with
 |some s=>
  have e1:=zM hg;rw[hR]at e1;subst e1;unfold Ok at hA;rw[hg]at hA;subst hA;apply aa.ai bb fw [6,7];simp[LS,ov];apply aa.sq bb fw [6,7,15];simp[LU];refine aa.cond rfl (λaS=>by cases aS) (λaS=>?_);apply aa.skip;simp;apply aa.ai bb fw [4,5];simp[Ui];apply aa.ret;simp[A7]
 |none=>
  have e1:=vn hg;rw[hR]at e1;subst e1;unfold Ok at hA;rw[hg]at hA;subst hA;apply aa.ai bb fw [6,7];simp[LS,ov];apply aa.sq bb fw [6,7,15];simp[LU];refine aa.cond rfl (λaS=>?_) (λaS=>by cases aS);apply aa.ai bb fw [4,5];simp[ai9];apply aa.ret;simp[A7]
def asI(x:Input)(l:List (Int×Int))(hx:Zr x)(ct:l.length<=4200000):aJ ak 50 [x.enc,.sl (ca l)] (Td x l):=by
 have k80:=afd x l hx ct;obtain⟨R,hR⟩:=aY (K8 x l);rw[hR]at k80;obtain⟨A,hA⟩:=aY (Td x l);rw[hA];have bb:aw ak (bz [(103,bp (λts=>ts=[x.enc,.sl (ca l)]) (λ_=>R) false)]):=by
  refine aw.cons aw.nil ?_;rintro ts rfl;exact⟨k80,λh=>by cases h⟩
 refine alB.ok (by simp) (aH ?_);obtain⟨xt,tA⟩:=aY x.enc;have ov:T.agg [.sl (bd x.ag),.sl (au x.insert),ti x.swap]=xt:=tA;rw[tA]at bb;simp[Input.enc];apply aa.ai bb fw [1,2];simp[Uj];cases hg:ta x l with
 |some s=>
  have e1:=zM hg;rw[hR]at e1;subst e1;unfold Td at hA;rw[hg]at hA;subst hA;apply aa.ai bb fw [6,7];simp[aiE,ov];apply aa.sq bb fw [6,7,15];simp[LW];refine aa.cond rfl (λaS=>by cases aS) (λaS=>?_);apply aa.skip;simp;apply aa.ai bb fw [4,5];simp[Uk];apply aa.ret;simp[A8]
 |none=>
  have e1:=vn hg;rw[hR]at e1;subst e1;unfold Td at hA;rw[hg]at hA;subst hA;apply aa.ai bb fw [6,7];simp[aiE,ov];apply aa.sq bb fw [6,7,15];simp[LW];refine aa.cond rfl (λaS=>?_) (λaS=>by cases aS);apply aa.ai bb fw [4,5];simp[aja];apply aa.ret;simp[A8]
def Zt{x:Input}{l:List (Int×Int)}{s:ES}(h:ta x l=some s):zA x l=some s/\s.dC=x.ag.length:=by
 unfold ta at h;split at h
 .rename_i s' e;split at h
  .rename_i e2
   injection h with h
   subst h;exact⟨e,e2⟩
  .cases h
 .cases h
def abV{x:Input}(h:JI x):Zr x:=by
 obtain⟨⟨hd,mZ,HG,NH,Xj,pB⟩,g2,g3,g4⟩:=pb h;have hx:=HY h;refine⟨λc hc p hp=>(mZ c hc).2 p hp,hx.Ep,λt=>⟨hx.dm t, ?_⟩,⟨Xj,pB⟩,by omega⟩;unfold f7;by_cases ht:t<x.insert.length
 .exact(NH (x.insert.getD t default) (by simp[List.getD,ht])).2
 .rw[List.getD,Ls (by omega)];decide
def P4(x:Input)(y:ba):∀f i j,(Ip x y f i j).length<=f
 |0,_,_=>by simp[Ip]
 |f+1,i,j=>by
  unfold Ip;split
  .simp
  .split
   .rename_i s _;have:=P4 x y f (i+s.a.toNat) (j+s.e.toNat);simp only[B8];omega
   .simp
def HX{y:ba}{j:Nat}(h:j<y.length):y.drop j=kI y j::y.drop (j+1):=by
 rw[If h];simp[kI,List.getD,h]
def ajO{x:Input}{s s':ES}{k:Nat}{t:Int}(hk:k=1\/k=2\/k=3\/k=4)(hc:Bz x s.dC k t)(hs:cj x s k t.toNat=s'):N9 x (some s) ((k:Int),t)=some s':=by
 have aN:abv x s ((k:Int),t):=⟨by simp only;omega,by simpa using hc⟩;unfold N9;simp only;rw[ee aN,gN,hs]
def P5{x:Input}{y:ba}(hx:pu x y):∀(f i j:Nat),i<=x.ag.length->j<=y.length->(x.ag.length-i)+(y.length-j)<f->∀s:ES,s.dC=i->0<=s.aA->s.aA+ed x y i j<dV->
  (Ip x y f i j).foldl (N9 x) (some s)=some ⟨x.ag.length,s.out++y.drop j,s.aA+ed x y i j⟩
 |0,i,j,_,_,h,_,_,_,_=>by omega
 |f+1,i,j,hi,hj,hf,s,hsi,h0,hc=>by
  have hI:dV=1099511627776:=rfl;by_cases h:i=x.ag.length/\j=y.length
  .obtain⟨rfl,rfl⟩:=h;rw[P6,TP x y hx.nn];obtain⟨a,o,c⟩:=s;simp only at hsi;subst hsi;simp
  .have hed:ed x y i j<dV:=by omega
   obtain⟨q,hq⟩:=KK hx h hed;obtain⟨hm,a,e,ha,he,h1,h2,h3,h4,h5⟩:=Ye hx hi hj hed hq;rw[KL h hq,ha,he,gN,gN,Br];have key:∀(k:Nat) (t:Int) (o:ba),q.k=k->q.t=t->(k=1\/k=2\/k=3\/k=4)->Bz x s.dC k t->cj x s k t.toNat=⟨i+a,s.out++o,min (s.aA+q.c) dV⟩->o++y.drop (j+e)=y.drop j->
     (Ip x y f (i+a) (j+e)).foldl (N9 x) (N9 x (some s) (q.k,q.t))=some ⟨x.ag.length,s.out++y.drop j,s.aA+ed x y i j⟩:=by
    intro k t o e1 e2 hk tE iO hd;have hb:=(hx.IG (i+a) (j+e)).1;rw[e1,e2,ajO hk tE iO,P5 hx f (i+a) (j+e) h1 h2 (by omega) _ rfl (by simp only;omega) (by simp only;omega)];simp only[cq,ES.mk.injEq,Em];refine⟨by rw[xm,hd],by omega⟩
   unfold ff Ld Lf at hm;rw[lF,lF,lF]at hm;rcases hm with((hm|hm)|hm)|hm
   .unfold Es at hm;split at hm
    .rename_i hp;simp only[uy]at hm;subst hm;obtain⟨p1,p2,p3⟩:=hp;have ha:a=1:=by simp only at ha;omega
     have he:e=1:=by simp only at he;omega
     subst ha he;have hy:=hx.y j p2;have hcr:=(hx.rd (x.ag.getD i default) (by simp[List.getD,p1])).1;refine key 1 (kI y j) [kI y j] rfl rfl (.inl rfl) ?_ ?_ ?_
     .rw[hsi];exact⟨p1,hy.1,by rw[hcr];exact hy.2,p3⟩
     .simp only[cj,Eg,hsi];rw[show(((kI y j).toNat:Nat):Int)=kI y j by omega]
     .rw[HX p2];rfl
    .simp at hm
   .unfold A2 at hm;split at hm
    .rename_i hp;simp only[uy]at hm;subst hm;have ha:a=1:=by simp only at ha;omega
     have he:e=0:=by simp only at he;omega
     subst ha he;refine key 2 0 [] rfl rfl (.inr (.inl rfl)) ?_ ?_ (by simp)
     .rw[hsi];exact⟨hp.1,rfl,hp.2⟩
     .simp[cj,hsi]
    .simp at hm
   .unfold LB at hm;split at hm
    .rename_i hp;simp only[uy]at hm;subst hm;have ha:a=0:=by simp only at ha;omega
     have he:e=1:=by simp only at he;omega
     subst ha he;have hy:=hx.y j hp;refine key 3 (kI y j) [kI y j] rfl rfl (.inr (.inr (.inl rfl))) ?_ ?_ ?_
     .rw[hsi];exact hy
     .simp only[cj,show ¬(3:Nat)=1 by omega,show ¬(3:Nat)=2 by omega,A0,Eg,hsi];rw[show(((kI y j).toNat:Nat):Int)=kI y j by omega,Zb2]
     .rw[HX hp];rfl
    .simp at hm
   .unfold Rg at hm;split at hm
    .rename_i hp;simp only[uy]at hm;subst hm;have ha:a=2:=by simp only at ha;omega
     have he:e=2:=by simp only at he;omega
     subst ha he;obtain⟨p1,p2,p3,p4⟩:=hp;refine key 4 0 [kI y j,kI y (j+1)] rfl rfl (.inr (.inr (.inr rfl))) ?_ ?_ ?_
     .rw[hsi];exact⟨rfl,p1⟩
     .simp only[cj,show ¬(4:Nat)=1 by omega,show ¬(4:Nat)=2 by omega,show ¬(4:Nat)=3 by omega,A0,hsi];rw[p3,p4]
     .rw[HX (j:=j) (by omega),HX (j:=j+1) (by omega)];rfl
    .simp at hm
def abw{x:Input}{y:ba}(hx:pu x y)(hf:ed x y 0 0<dV):ta x (Ip x y (x.ag.length+y.length+1) 0 0)=some ⟨x.ag.length,y,ed x y 0 0⟩:=by
 have h:=P5 hx (x.ag.length+y.length+1) 0 0 (ER _) (ER _) (by omega) ⟨0,[],0⟩ rfl (Tg _) (by simp only;omega);have h:zA x (Ip x y (x.ag.length+y.length+1) 0 0)=some ⟨x.ag.length,y,ed x y 0 0⟩:=by
  unfold zA;rw[h];simp
 unfold ta;rw[h];simp
end Go.Proofs.It
namespace Go.Proofs
open Go.DM Go.DM.iN
def avE{x:Input}{y:ba}(hx:pu x y):aw ak (bz [(166,bp (λts=>ts=[x.enc,.sl (au y)]) (λ_=>.bool true) true),(167,bp (λts=>ts=[x.enc,.sl (au y)]) (λ_=>.sl (vt x y)) false),(168,e56),(169,e72)]):=by
 refine aw.cons (aw.cons akZ ?_) ?_
 .rintro ts rfl;exact⟨t44 x y hx,λh=>by cases h⟩
 .rintro ts rfl;exact⟨t43 x y hx.below (by have:=hx.m;omega),λ_=>rfl⟩
def zF{x:Input}{y:ba}{i:Nat}(h:i<=x.ag.length):DM.rowAt (vt x y) i=[.sl (au (jq x y i 0))]:=by
 simp[DM.rowAt,vt,show i<x.ag.length+1 by omega]
def wT{x:Input}{y:ba}{i j:Nat}(h:j<=y.length):DM.rowAt (au (jq x y i 0)) j=[ti (ed x y i j)]:=by
 have:=bA (l:=jq x y i 0) (y:=j) (by rw[tz];omega);rw[BL h (ER _)]at this;exact this
structure AM where
 (i j f:Nat)
 (O:List (Int×Int))
def ar3(x:Input)(y:ba)(hx:pu x y)(hf:ed x y 0 0<dV):
  aJ ak 120 [x.enc,.sl (au y)] (.dh [.sl (ca (Ip x y (x.ag.length+y.length+1) 0 0)),ti 0]):=by
 have bb:=avE hx;have hn:=hx.n;have hm:=hx.m;have hI:dV=1099511627776:=rfl;have hb:=hx.IG;refine It.ar8.ok (by simp) (aH ?_);simp[Input.enc];apply aa.ai bb fw [1,2];simp[It.ach];refine aa.lk (o:=[]) (l:=[(1,.v (.sl (au y))),(2,.v (.box [.sl (bd x.ag),.sl (au x.insert),ti x.swap]))]) (bn:=1200) (by simp) ?_;apply aa.sq bb fw [1,2,15];simp[It.aci,Input.enc];apply aa.c0 rfl;apply aa.skip;simp;apply aa.ai bb fw [1,2,6];simp[It.acj,Input.enc];have rt0:DM.rowAt (vt x y) (0:Int)=[.sl (au (jq x y 0 0))]:=zF (x:=x) (y:=y) (i:=0) (ER _);have rr0:DM.rowAt (au (jq x y 0 0)) (0:Int)=[ti (ed x y 0 0)]:=wT (x:=x) (y:=y) (i:=0) (j:=0) (ER _);have tl:=IK x y;have rl:∀i,(au (jq x y i 0)).length=y.length+1:=λi=>by simp[au,jq]
 apply aa.sq bb fw [1,2,6,24];simp[It.ack,rt0,rr0,tl,rl];refine aa.cond rfl (λh=>?_) (λ_=>?_)
 .exfalso;simp at h;omega
 apply aa.skip;simp;apply aa.ai bb fw [1,2,6,7];simp[It.acl];refine aa.lk (o:=[]) (l:=[(1,.v (.sl (au y))),(2,.v (.box [.sl (bd x.ag),.sl (au x.insert),ti x.swap])),(6,.v (.sl (vt x y))),(7,.aZ)]) (bn:=1400) (by simp) ?_;refine aa.le (Le.j7 (k:=7) 86 (sz:=2) (by omega) (by simp)) ?_;rw[jY];apply aa.sq bb fw [1,2,6,7,8,9];simp[It.acm];apply aa.block;obtain⟨R,hR⟩:=aY (Ip x y (x.ag.length+y.length+1) 0 0);rw[hR];refine aa.loop (λq:AM=>⟨DM.look [(1,.v (.sl (au y))),(2,.v (.box [.sl (bd x.ag),.sl (au x.insert),ti x.swap])),(6,.v (.sl (vt x y))),(7,.aW 1400 0),(8,.v (ti q.i)),(9,.v (ti q.j))],cR [(1400,.bm 0 86 2 (ca q.O))],2000,1000,[]⟩)
  (λq=>(q.i<=x.ag.length/\q.j<=y.length)/\ed x y q.i q.j<dV/\((x.ag.length-q.i)+(y.length-q.j)<q.f/\q.O.length<=q.i+q.j)/\q.O++Ip x y q.f q.i q.j=R) (λq=>(x.ag.length-q.i)+(y.length-q.j)) ⟨0,0,x.ag.length+y.length+1,[]⟩ (Le.aL ?_ ?_ ?_ ?_) ⟨⟨by simp,by simp⟩,hf,⟨by simp,by simp⟩,by simpa using hR⟩ (λq hq=>?_)
 .simp
 .simp
 .simp[ca]
 .simp
 obtain⟨i,j,f,O⟩:=q;simp only at hq⊢;obtain⟨⟨hi,hj⟩,fN,⟨hfu,hO⟩,Tp⟩:=hq;apply aa.seq;obtain⟨b,Qi⟩:=aY (decide (i<x.ag.length\/j<y.length):Bool);refine aa.bL bb fw [(1,.v (.sl (au y))),(2,.v (.box [.sl (bd x.ag),.sl (au x.insert),ti x.swap])),(6,.v (.sl (vt x y))),(7,.aW 1400 0),(8,.v (ti i)),(9,.v (ti j)),(35,.v (.bool b))] ?_ ?_
 .by_cases h1:i<x.ag.length
  .have:b=true:=by rw[<-Qi];exact decide_eq_true (.inl h1)
   simp[It.HZ,h1,this]
  .by_cases h2:j<y.length
   .have:b=true:=by rw[<-Qi];exact decide_eq_true (.inr h2)
    simp[It.HZ,h1,h2,this]
   .have:b=false:=by rw[<-Qi];exact decide_eq_false (by omega)
    simp[It.HZ,h1,h2,this]
 refine aa.cond rfl (λg=>?_) (λg=>?_)
 .have g:b=true:=by simpa using g
  rw[g]at Qi;have dd:¬(i=x.ag.length/\j=y.length):=by have:=BN Qi;omega
  apply aa.skip;simp;obtain⟨s,hs⟩:=KK hx dd fN;obtain⟨u4,a,e,ha,he,hia,hje,Uv,Er,awm⟩:=Ye hx hi hj fN hs;have wX:(ff x y i j).length<=4:=BQ x y i j;apply aa.block;apply aa.ai bb fw [1,2,6,7,8,9,40,41,42];simp[It.acn,Input.enc];refine⟨⟨x,y,i,j,⟨⟨rfl,rfl,rfl⟩,rfl,rfl,rfl⟩,hx,hi,hj⟩, ?_⟩;rw[show(⟨x.ag,x.insert,x.swap⟩:Input)=x from rfl];obtain⟨L,hL⟩:=aY (ff x y i j);have M4:=λs (h:s∈L)=>Gl hx hi hj (s:=s) (by rw[hL];exact h);rw[hL]at hs u4 wX⊢;apply aa.block;refine aa.loop (λl:Nat=>⟨DM.look [(1,.v (.sl (au y))),(2,.v (.box [.sl (bd x.ag),.sl (au x.insert),ti x.swap])),(6,.v (.sl (vt x y))),(7,.aW 1400 0),(8,.v (ti i)),(9,.v (ti j)),(40,.v (.sl (dL L))),(41,.v (ti L.length)),(42,.v (ti l))],cR [(1400,.bm 0 86 2 (ca O))],2500,1000,[]⟩)
   (λl=>l<=L.length/\∀l',l'<l->uT x y i j (L.getD l' default)=false) (λl=>L.length-l) 0 (Le.aL ?_ ?_ ?_ ?_) ⟨ER _,λl h=>qe h (Nat.not_lt_zero _)⟩ (λl hl=>?_)
  iterate 4(·simp)
  obtain⟨hl,ZU⟩:=hl;apply aa.ai bb fw [1,2,6,7,8,9,40,41,42,43];simp[It.Yv];apply aa.seq;refine aa.cond rfl (λaS=>?_) (λaS=>?_)
  .have aS:l<L.length:=by simpa using aS
   apply aa.skip;simp;apply aa.seq;obtain⟨u,hu⟩:=aY (L.getD l default);have hum:u∈L:=by rw[<-hu,List.getD,mM aS];exact MK aS
   have rs:DM.rowAt (dL L) l=[ti u.k,ti u.t,ti u.c,ti u.a,ti u.e]:=by
    rw[<-hu];simp[DM.rowAt,dL,aS,qk.enc]
   obtain⟨ua,ue,hua,hue,g1,g2,g3,g4,g5⟩:=M4 u hum;rw[hua,hue]at rs;apply aa.block;apply aa.ai bb fw [1,2,6,7,8,9,11,40,41,42];simp[It.Yw,aS,rs,show(dL L).length=L.length by simp[dL]];refine aa.lk (o:=[(1400,.bm 0 86 2 (ca O))]) (l:=[(1,.v (.sl (au y))),(2,.v (.box [.sl (bd x.ag),.sl (au x.insert),ti x.swap])),(6,.v (.sl (vt x y))),(7,.aW 1400 0),(8,.v (ti i)),(9,.v (ti j)),(11,.v (.box [ti u.k,ti u.t,ti u.c,ti ua,ti ue])),(40,.v (.sl (dL L))),(41,.v (ti L.length)),(42,.v (ti l))]) (bn:=3000) (by simp) ?_;have w1:IntKind.i64.wrap ((i:Int)+ua)=(i:Int)+ua:=av (by omega);have w2:IntKind.i64.wrap ((j:Int)+ue)=(j:Int)+ue:=av (by omega);have rt1:DM.rowAt (vt x y) ((i:Int)+ua)=[.sl (au (jq x y (i+ua) 0))]:=by exact_mod_cast zF (x:=x) (y:=y) (i:=i+ua) g1
   have rr1:DM.rowAt (au (jq x y (i+ua) 0)) ((j:Int)+ue)=[ti (ed x y (i+ua) (j+ue))]:=by exact_mod_cast wT (x:=x) (y:=y) (i:=i+ua) (j:=j+ue) g2
   have rt2:=zF (x:=x) (y:=y) (i:=i) hi;have rr2:=wT (x:=x) (y:=y) (i:=i) (j:=j) hj;have b1:=hb (i+ua) (j+ue);obtain⟨v,hv⟩:=aY (uT x y i j u);have nk:decide (min (u.c+ed x y (i+ua) (j+ue)) 1099511627776=ed x y i j)=v:=by
    rw[<-hv];unfold uT;rw[hua,hue,gN,gN]
   apply aa.ai bb fw [1,2,6,7,8,9,11,40,41,42,69];simp[It.Yx,w1,w2,rt1,rr1,rt2,rr2,tl,rl];refine⟨⟨by omega,by omega⟩,⟨by omega,by omega⟩,⟨_,_,⟨rfl,rfl⟩,⟨by omega,by omega⟩,by omega,by omega⟩,by omega,by omega, ?_⟩;have hv3:decide (min (u.c+ed x y (i+ua) (j+ue)) dV=ed x y i j)=v:=nk;rw[hv3];refine aa.cond rfl (λg=>?_) (λg=>?_)
   .have g:v=true:=by simpa using g
    subst g;have ZN:L.find? (uT x y i j)=some u:=by
     refine ZcD.2 ⟨hv,l,aS,by rw[<-hu,List.getD,mM aS];rfl,λq hq=>?_⟩;have:=ZU q hq;rw[List.getD,mM (by omega),GA]at this;rw[this];rfl
    obtain rfl:s=u:=by rw[hs]at ZN;exact TT ZN
    obtain rfl:a=ua:=by omega
    obtain rfl:e=ue:=by omega
    apply aa.ai bb fw [1,2,6,7,8,9,11];simp[It.Yy,di,cw];refine⟨⟨by omega,by omega⟩, ?_⟩;apply aa.ai bb fw [1,2,6,7,8,9];simp[It.Yz,w1,w2];apply aa.exit;simp;obtain⟨f,rfl⟩:∃f',f=f'+1:=⟨f-1,by omega⟩;have mE:=KL (f:=f) dd (by rw[hL];exact hs);rw[hua,hue,gN,gN]at mE;refine⟨⟨i+a,j+e,f,O++[(s.k,s.t)]⟩,Le.aL (o:=[(1400,.bm 0 86 2 (ca (O++[(s.k,s.t)])))]) ?_ ?_ ?_ ?_,⟨⟨by simp only;omega,by simp only;omega⟩,by simp only;omega,⟨by simp only;omega,by simp only[nH,List.length_singleton];omega⟩, ?_⟩,by simp only;omega⟩
    .simp
    .simp
    .simp[ca]
    .simp
    .simp only[xm,IW,jB];rw[<-mE];exact Tp
   .have g:v=false:=by simpa using g
    subst g;apply aa.skip;simp;apply aa.cZ bb fw [1,2,6,7,8,9,40,41,42];simp[It.YA];rw[av (x:=(l:Int)+1) (by omega)];refine⟨l+1,Le.aL (o:=[(1400,.bm 0 86 2 (ca O))]) ?_ ?_ ?_ ?_,⟨by omega,λq hq=>?_⟩,by omega⟩;iterate 4(·simp)
    .by_cases e1:q=l
     .subst e1;have:L.getD q default=u:=hu;simp only[List.getD]at this;rw[this,hv]
     .have:=ZU q (by omega);simpa [List.getD]using this
  .exfalso;have hll:l=L.length:=by simp at aS;omega
   subst hll;have h1:uT x y i j s=true:=ZcW hs;obtain⟨q,hq,rfl⟩:=ZR.1 u4;have h2:=ZU q hq;rw[List.getD,mM hq,GA,h1]at h2;cases h2
 .have g:b=false:=by simpa using g
  rw[g]at Qi;have he:=uF Qi;obtain rfl:i=x.ag.length:=by omega
  obtain rfl:j=y.length:=by omega
  obtain⟨f,rfl⟩:∃f',f=f'+1:=⟨f-1,by omega⟩;rw[P6,Ej]at Tp;subst Tp;apply aa.exit;simp;apply aa.ai bb fw [4,5];simp[It.YB];apply aa.ret;simp[It.KX]
end Go.Proofs
