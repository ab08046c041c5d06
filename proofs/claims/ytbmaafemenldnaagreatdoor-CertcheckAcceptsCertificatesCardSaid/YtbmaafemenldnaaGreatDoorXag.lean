/- Part. Conditions: none. -/
import Derived.Test.YtbmaafemenldnaaGreatDoorXaf
set_option linter.all false
set_option maxRecDepth 20000
set_option maxHeartbeats 8000000
namespace Go.Proofs
open Go.DM Go.DM.iN
section
variable{A:Nat}
def jq(x:Input)(y:ba)(i c:Nat):ba:=(List.range (y.length+1)).map λk=>if c<=k then ed x y i k else 0
def tz(x:Input)(y:ba)(i c:Nat):(jq x y i c).length=y.length+1:=by simp[jq]
def BL{x:Input}{y:ba}{i c k:Nat}(hk:k<=y.length)(hc:c<=k):(jq x y i c).getD k default=ed x y i k:=by
 simp[jq,List.getD,show k<y.length+1 by omega,hc]
def TO{x:Input}{y:ba}{i c:Nat}(hc:c<=y.length):(jq x y i (c+1)).set c (ed x y i c)=jq x y i c:=by
 apply Th
 ·simp[jq]
 ·intro k k1 k2;rw[ZcY];simp only[jq,Zci,LA];split
  ·rename_i e;subst e;rw[cM (eT _)]
  ·rename_i e;by_cases hk:c<=k
   ·rw[cM (by omega),cM hk]
   ·rw[bX (by omega),bX hk]
def Rc{x:Input}{y:ba}{i c:Nat}(hc:c=y.length+1):au (jq x y i c)=List.replicate c [ti 0]:=by
 subst hc;apply Th
 ·simp[jq]
 ·intro k k1 k2;simp only[au,Rd,tz]at k1;simp only[au,jq,Zci,LA,List.getElem_replicate];rw[bX (by omega)]
def TP(x:Input)(y:ba)(h:ZL x):ed x y x.ah.length y.length=0:=by
 have h1:=EP h y _ x.ah.length y.length (Lz _);have h2:vY x y x.ah.length y.length 0=0:=by rw[TJ,cM ⟨rfl,rfl⟩]
 have h3:ed x y x.ah.length y.length=min (min (min (min (vY x y x.ah.length y.length 0) (qi x y x.ah.length y.length 1)) (qi x y x.ah.length y.length 2)) (qi x y x.ah.length y.length 3)) (qi x y x.ah.length y.length 4):=ID x y _ _;omega
def TQ{x:Input}{y:ba}(h:ZL x):jq x y x.ah.length (y.length+1)=jq x y x.ah.length y.length:=by
 unfold jq;apply ZbN;intro k hk;rw[pm]at hk;rw[bX (by omega)];split
 ·rw[show k=y.length by omega,TP x y h]
 ·rfl
def pU(x:Input)(y:ba)(i:Nat):bW:=(List.range (x.ah.length+1)).map λk=>if i<=k then .v (.sl (au (jq x y k 0)))else .aZ
def qj(x:Input)(y:ba)(q A:Nat):bW:=(List.range (x.ah.length+1)).map λk=>if k=q then .aW A 0 else if q<k then .v (.sl (au (jq x y k 0)))else .aZ
def TR(x:Input)(y:ba)(i:Nat):(pU x y i).length=x.ah.length+1:=by simp[pU]
def II(x:Input)(y:ba)(q A:Nat):(qj x y q A).length=x.ah.length+1:=by simp[qj]
def TS{x:Input}{y:ba}{c:Nat}(hc:x.ah.length+1=c):List.replicate c DV.aZ=pU x y c:=by
 apply Th
 ·simp[pU,hc]
 ·intro k k1 k2;simp at k1;simp only[pU,Zci,LA,List.getElem_replicate];rw[bX (by omega)]
def aae{x:Input}{y:ba}{q:Nat}(hq:q<=x.ah.length):List.take q (pU x y (q+1))++DV.aW A 0::List.drop (q+1) (pU x y (q+1))=qj x y q A:=by
 apply Th
 ·simp[pU,qj];omega
 ·intro k k1 k2;simp only[qj,Rd,A1]at k2;rw[List.getElem_append];split
  ·rename_i h;simp[pU]at h;simp only[pU,qj,Zco,Zci,LA];rw[bX (by omega),bX (by omega),bX (by omega)]
  ·rename_i h;simp[pU]at h;have Gk:min q (x.ah.length+1)=q:=by omega
   rw[List.getElem_cons];simp only[pU,qj,Ou,Rd,A1,Gk,Zci,LA,TT];by_cases e:k=q
   ·subst e;simp
   ·rw[ZdB (by omega),bX e,cM (by omega),cM (by omega)]
    congr 3
    simp only[jq];rw[show q+1+(k-q-1)=k by omega]
def Ov{x:Input}{y:ba}{q k:Nat}(hk:k<=x.ah.length):(qj x y q A)[k]?.getD DV.undef=if k=q then .aW A 0 else if q<k then .v (.sl (au (jq x y k 0)))else .aZ:=by
 simp[qj,show k<x.ah.length+1 by omega]
def xf{a b:bS}{σ:Nat->Nat}:∀{l l':bW},l.length=l'.length->(∀(k:Nat) (d d':DV),l[k]? =some d->l'[k]? =some d'->jJ a b σ d d')->kJ a b σ l l'
 |[],[],_,_=>by simp[kJ]
 |d::l,d'::l',hl,h=>by
  simp only[kJ];exact⟨h 0 d d' rfl rfl,xf (by simpa using hl) λk e e' h1 h2=>h (k+1) e e' (by simpa using h1) (by simpa using h2)⟩
 |[],_::_,hl,_=>by simp at hl
 |_::_,[],hl,_=>by simp at hl
def Re{x:Input}{y:ba}{q:Nat}{a b:bS}(h:a A=some (.bm 0 3 1 (au (jq x y q 0))))(hg:gone b id A):kJ a b id (qj x y q A) (pU x y q):=by
 refine xf (by simp[qj,pU]) λk d d' h1 h2=>?_;have hk:k<x.ah.length+1:=by
  have:=(BN.1 h1).1;simpa [qj]using this
 simp only[qj,pU,Ow,Zde hk,Ib,cq]at h1 h2;subst h1 h2;by_cases e:k=q
 ·subst e;simp only[cM,eT];simp only[jJ];right;exact⟨⟨3,1,h⟩,hg⟩
 ·rw[bX e];by_cases e2:q<k
  ·rw[cM e2,cM (by omega)];simp
  ·rw[bX e2,bX (by omega)];simp
def Rf{x:Input}{y:ba}{i k:Nat}{a b:bS}{d:DV}(h:(pU x y i)[k]? =some d):jJ a b id d d:=by
 have hk:k<x.ah.length+1:=by
  have:=(BN.1 h).1;simpa [pU]using this
 simp only[pU,Ow,Zde hk,Ib,cq]at h;subst h;split<;>simp
def ou{x:Input}{y:ba}{q:Nat}{a b:bS}(h:(∃aC,a A=some (.bm 0 3 1 aC))/\∃aC,b A=some (.bm 0 3 1 aC)):kJ a b id (qj x y q A) (qj x y q A):=by
 refine xf rfl λk d d' h1 h2=>?_;rw[h1]at h2;cases h2;have hk:k<x.ah.length+1:=by
  have:=(BN.1 h1).1;simpa [qj]using this
 simp only[qj,Ow,Zde hk,Ib,cq]at h1;subst h1;split
 ·simp only[jJ];right;obtain⟨⟨r1,h1⟩,r2,h2⟩:=h;exact⟨rfl,3,1,r1,3,1,r2,h1,h2⟩
 ·split<;>simp
def vt(x:Input)(y:ba):List (aG):=(List.range (x.ah.length+1)).map λk=>[.sl (au (jq x y k 0))]
def IK(x:Input)(y:ba):(vt x y).length=x.ah.length+1:=by simp[vt]
def TU(x:Input)(y:ba):pU x y 0=(vt x y).flatten.map DV.v:=by
 unfold pU vt;generalize List.range (x.ah.length+1)=l;induction l with
 |nil=>rfl
 |cons a l ih=>simp only[oK,ZM,Ic,<-ih];simp
def Gl{x:Input}{y:ba}(hx:pu x y){i j:Nat}(hi:i<=x.ah.length)(hj:j<=y.length){s:qk}(hs:s∈ff x y i j):
  ∃a e:Nat,s.a=a/\s.e=e/\i+a<=x.ah.length/\j+e<=y.length/\(0<a\/(a=0/\0<e))/\0<=s.c/\s.c<=dV:=by
 unfold ff Ld Lf at hs;rw[mA,mA,mA]at hs;rcases hs with((hs|hs)|hs)|hs
 ·unfold Es at hs;split at hs
  ·rename_i hp;simp only[gN]at hs;subst hs;obtain⟨p1,p2,p3⟩:=hp;refine⟨1,1,rfl,rfl,by omega,by omega,.inl (by omega),p3, ?_⟩;have hy:=hx.y j p2;have hc:=hx.rd (x.ah.getD i default) (by simp[List.getD,p1]);exact hc.2 _ (bu (by rw[hc.1];omega))
  ·simp at hs
 ·unfold A2 at hs;split at hs
  ·rename_i hp;simp only[gN]at hs;subst hs;exact⟨1,0,rfl,rfl,by omega,by omega,.inl (by omega),(hx.Ep i).1,(hx.Ep i).2⟩
  ·simp at hs
 ·unfold LB at hs;split at hs
  ·rename_i hp;simp only[gN]at hs;subst hs;exact⟨0,1,rfl,rfl,by omega,by omega,.inr ⟨rfl,by omega⟩,(hx.dm _).1,(hx.dm _).2⟩
  ·simp at hs
 ·unfold Rg at hs;split at hs
  ·rename_i hp;simp only[gN]at hs;subst hs;have:=jj hp.1;have:=hp.2.1;exact⟨2,2,rfl,rfl,by omega,by omega,.inl (by omega),hx.swap.1,hx.swap.2⟩
  ·simp at hs
def mC(x:Input)(y:ba)(i j:Nat)(l:List qk):Int:=l.foldl (λb s=>min b (min (s.c+ed x y (i+s.a.toNat) (j+s.e.toNat)) dV)) dV
def vZ(x:Input)(y:ba)(i j:Nat)(l:List qk)(s:qk):mC x y i j (l++[s])=min (mC x y i j l) (min (s.c+ed x y (i+s.a.toNat) (j+s.e.toNat)) dV):=by simp[mC]
def hdV(x:Input)(y:ba)(i j:Nat):List qk->Int
 |[]=>dV
 |s::_=>min (s.c+ed x y (i+s.a.toNat) (j+s.e.toNat)) dV
def uD(x:Input)(y:ba)(i j:Nat)(l m:List qk)(hm:m=[]\/∃s,m=[s]):mC x y i j (l++m)=min (mC x y i j l) (hdV x y i j m):=by
 have atx:∀(l:List qk) (b:Int),b<=dV->l.foldl (λb s=>min b (min (s.c+ed x y (i+s.a.toNat) (j+s.e.toNat)) dV)) b<=dV:=by
  intro l;induction l with
  |nil=>intro b h;exact h
  |cons s l ih=>intro b h;exact ih _ (Int.le_trans (Int.min_le_left _ _) h)
 rcases hm with rfl|⟨s,rfl⟩
 ·have:=atx l dV (AF _);simp only[AZ,hdV];unfold mC;omega
 ·exact vZ x y i j l s
def EU{x:Input}{y:ba}(hx:pu x y){i j:Nat}(h:¬(i=x.ah.length/\j=y.length)):mC x y i j (ff x y i j)=ed x y i j:=by
 have one:∀{p:Prop} [Decidable p] (s:qk),(if p then [s]else [])=[]\/∃t,(if p then [s]else [])=[t]:=by
  intro p _ s;split
  ·exact .inr ⟨s,rfl⟩
  ·exact .inl rfl
 have e:ed x y i j=min (min (min (min (vY x y i j 0) (qi x y i j 1)) (qi x y i j 2)) (qi x y i j 3)) (qi x y i j 4):=ID x y i j;rw[TJ,bX h]at e;unfold ff Ld Lf;have o1:Es x y i j=[]\/∃s,Es x y i j=[s]:=by unfold Es;exact one _
 have o2:A2 x i=[]\/∃s,A2 x i=[s]:=by unfold A2;exact one _
 have o3:LB x y j=[]\/∃s,LB x y j=[s]:=by unfold LB;exact one _
 have o4:Rg x y i j=[]\/∃s,Rg x y i j=[s]:=by unfold Rg;exact one _
 rw[uD _ _ _ _ _ _ o4,uD _ _ _ _ _ _ o3,uD _ _ _ _ _ _ o2,<-List.nil_append (Es x y i j),uD _ _ _ _ _ _ o1,e];have e0:mC x y i j []=dV:=rfl;rw[e0];have v1:hdV x y i j (Es x y i j)=qi x y i j 1:=by
  rw[TF];unfold Es;split<;>rfl
 have v2:hdV x y i j (A2 x i)=qi x y i j 2:=by
  rw[TG];unfold A2;by_cases q:i<x.ah.length
  ·by_cases q2:eL x i<dV
   ·rw[cM ⟨q,q2⟩,cM q];rfl
   ·rw[bX (λh=>q2 h.2),cM q];have:=(hx.IG (i+1) j).1;simp only[hdV];omega
  ·rw[bX (λh=>q h.1),bX q];rfl
 have v3:hdV x y i j (LB x y j)=qi x y i j 3:=by
  rw[TH];unfold LB;split<;>rfl
 have v4:hdV x y i j (Rg x y i j)=qi x y i j 4:=by
  rw[TI];unfold Rg;split<;>rfl
 rw[v1,v2,v3,v4]
abbrev e56:DM.Spec:=bp (λts=>∃(x:Input) (y:ba) (i j:Nat),ts=[x.enc,.sl (au y),ti i,ti j]/\pu x y/\i<=x.ah.length/\j<=y.length)
 (fun|[x,.sl y,.int _ i,.int _ j]=>.sl (dL (ff (xd x) (eM y) i.toNat j.toNat))|_=>.bool false) false
def akZ:aw ap (bz [(168,e56),(169,e72)]):=by
 refine aw.cons (aw.cons aw.nil ?_) ?_
 ·rintro ts ⟨a,b,rfl,h1,h2⟩;exact⟨by simpa using t57 a b h1 h2,λ_=>rfl⟩
 ·rintro ts ⟨x,y,i,j,rfl,h1,h2,h3⟩;exact⟨by simpa using t56 x y i j h1 h2 h3,λh=>by cases h⟩
def zU(x:Input)(y:ba)(hx:pu x y){i j:Nat}(hi:i<=x.ah.length)(hj:j<=y.length):∀l:Nat,0<=mC x y i j ((ff x y i j).take l)/\mC x y i j ((ff x y i j).take l)<=dV
 |0=>by simp[mC,dV]
 |l+1=>by
  have ih:=zU x y hx hi hj l;rw[Tg];cases h:(ff x y i j)[l]? with
  |none=>simpa using ih
  |some s=>
   simp only[ZcP];rw[vZ];obtain⟨a,e,_,_,_,_,_,h1,h2⟩:=Gl hx hi hj (Et h);have:=(hx.IG (i+s.a.toNat) (j+s.e.toNat)).1;simp only[dV]at*
   omega
def t44(x:Input)(y:ba)(hx:pu x y):aJ ap 167 [x.enc,.sl (au y)] (.sl (vt x y)):=by
 have aq:=akZ;have hI:dV=1099511627776:=rfl;have hn:=hx.n;have hm:=hx.m;refine c44.ok (by simp) (aH ?_);simp[Input.enc];apply aa.ai aq fw [1,2];simp[IL];refine aa.lk (o:=[]) (l:=[(1,.v (.sl (au y))),(2,.v (.box [.sl (bd x.ah),.sl (au x.insert),ti x.swap]))]) (bn:=1200) (by simp) ?_;obtain⟨n,hnn⟩:=aY x.ah.length;obtain⟨m,IM⟩:=aY y.length;apply aa.ai aq fw [1,2,5,6];simp[IN,hnn,IM];obtain⟨n1,hn1⟩:=aY (n+1);have w2:IntKind.i64.wrap ((n:Int)+1)=(n1:Int):=by rw[<-hn1];exact_mod_cast ET (n:=n+1) (by omega)
 have hbt:=TS (x:=x) (y:=y) (c:=n1) (by rw[hnn,hn1]);refine aa.fR aq fw (rs:=TV) (.inr ⟨_,pV⟩) (by kernel_rfl) [1,2,5,6,7] ?_;simp[TV,w2,cw,hbt];refine⟨⟨by omega,by omega⟩, ?_⟩;apply aa.sq aq fw [1,2,5,6,7,8];simp[IP];apply aa.block;refine aa.loop (λi:Nat=>⟨DM.look [(1,.v (.sl (au y))),(2,.v (.box [.sl (bd x.ah),.sl (au x.insert),ti x.swap])),(5,.v (ti n)),(6,.v (ti m)),(7,.AH 1304 n1),(8,.v (ti ((i:Int)-1)))],cR [(1304,.box (pU x y i))],2000,1000,[]⟩)
  (λi=>i<=n1) (λi=>i) n1 (Le.aL ?_ ?_ ?_ ?_) (by simp) (λi hi=>?_)
 ·simp
 ·simp
 ·simp[-jx,gK];exact xf rfl λk d d' h1 h2=>by rw[h1]at h2;cases h2;exact Rf h1
 ·simp;omega
 apply aa.sq aq fw [1,2,5,6,7,8,23];simp[IQ];refine aa.cond rfl (λaS=>?_) (λaS=>?_)
 ·simp at aS;obtain⟨q,rfl⟩:∃q,i=q+1:=⟨i-1,by omega⟩;have hqn:q<=n:=by omega
  apply aa.skip;simp;apply aa.seq;apply aa.block;have w3:IntKind.i64.wrap ((m:Int)+1)=((m+1:Nat):Int):=by exact_mod_cast ET (n:=m+1) (by omega)
  have hbe:=aae (x:=x) (y:=y) (q:=q) (A:=2114) (by omega);have hbl:=TR x y (q+1);rw[hnn]at hbl;have hrz:=Rc (x:=x) (y:=y) (i:=q) (c:=m+1) (by omega);have aty:q<n1:=by omega
  apply aa.ai aq fw [1,2,5,6,7,8];simp[BO,w3,cw,hbe,hbl,aty,hqn];refine⟨⟨by omega,by omega,by omega⟩, ?_⟩;apply aa.ai aq fw [1,2,5,6,7,8,9];simp[IR];apply aa.block;refine aa.loop (λj:Nat=>⟨DM.look [(1,.v (.sl (au y))),(2,.v (.box [.sl (bd x.ah),.sl (au x.insert),ti x.swap])),(5,.v (ti n)),(6,.v (ti m)),(7,.AH 1304 n1),(8,.v (ti q)),(9,.v (ti ((j:Int)-1)))],cR [(1304,.box (qj x y q 2114)),(2114,.bm 0 3 1 (au (jq x y q j)))],3000,1000,[]⟩)
   (λj=>j<=m+1) (λj=>j) (m+1) (Le.aL ?_ ?_ ?_ ?_) (by simp) (λj hj=>?_)
  ·simp
  ·simp
  ·simp[-jx,gK,hrz,jk];exact ou (by simp)
  ·simp
  apply aa.sq aq fw [1,2,5,6,7,8,9,34];simp[IS];refine aa.cond rfl (λaS=>?_) (λaS=>?_)
  ·simp at aS;obtain⟨r,rfl⟩:∃r,j=r+1:=⟨j-1,by omega⟩;have hrm:r<=m:=by omega
   apply aa.skip;simp;apply aa.seq;apply aa.block;apply aa.seq;refine aa.bL aq fw [(1,.v (.sl (au y))),(2,.v (.box [.sl (bd x.ah),.sl (au x.insert),ti x.swap])),(5,.v (ti n)),(6,.v (ti m)),(7,.AH 1304 n1),(8,.v (ti q)),(9,.v (ti r)),(44,.v (.bool (decide (q=n/\r=m))))] ?_ ?_
   ·by_cases q1:q=n
    ·by_cases q2:r=m
     ·simp[BP,q1,q2]
     ·have TW:¬(r:Int)=m:=by omega
      simp[BP,q1,q2,TW]
    ·have q1':¬(q:Int)=n:=by omega
     simp[BP,q1,q1']
   refine aa.cond rfl (λh8=>?_) (λh8=>?_)
   ·simp only[j2]at h8;obtain⟨rfl,rfl⟩:=h8;have hrw:jq x y q (r+1)=jq x y q r:=by rw[<-hnn,<-IM];exact TQ hx.nn
    apply aa.exit;simp;apply aa.cZ aq fw [1,2,5,6,7,8,9];simp[Gm];rw[av (by omega)];refine⟨r,Le.aL ?_ ?_ ?_ ?_,by omega,by omega⟩
    ·simp
    ·simp
    ·simp[-jx,gK,jk,hrw];exact ou (by simp)
    ·simp
   ·simp only[pn]at h8;apply aa.skip;simp;apply aa.ai aq fw [1,2,5,6,7,8,9,10];simp[TX];apply aa.seq;obtain⟨xt,tA⟩:=aY x.enc;have ov:T.agg [.sl (bd x.ah),.sl (au x.insert),ti x.swap]=xt:=tA;have Ox:xd xt=x:=by rw[<-tA];simp
    obtain⟨L,hLL⟩:=aY (ff x y q r);have hL4:=BQ x y q r;rw[hLL]at hL4;have oL:∃(x2:Input) (y2:ba) (i j:Nat),(xt=x2.enc/\au y=au y2/\(q:Int)=i/\(r:Int)=j)/\pu x2 y2/\i<=x2.ah.length/\j<=y2.length:=⟨x,y,q,r,⟨tA.symm,rfl,rfl,rfl⟩,hx,by omega,by omega⟩;apply aa.ai aq fw [1,2,5,6,7,8,9,10,49,50,51];simp[LC,ov,Ox,hLL];refine⟨oL, ?_⟩;apply aa.block;refine aa.loop (λl:Nat=>⟨DM.look [(1,.v (.sl (au y))),(2,.v (.box [.sl (bd x.ah),.sl (au x.insert),ti x.swap])),(5,.v (ti n)),(6,.v (ti m)),(7,.AH 1304 n1),(8,.v (ti q)),(9,.v (ti r)),(10,.v (ti (mC x y q r (L.take l)))),(49,.v (.sl (dL L))),(50,.v (ti L.length)),(51,.v (ti l))],cR [(1304,.box (qj x y q 2114)),(2114,.bm 0 3 1 (au (jq x y q (r+1))))],4000,1000,[]⟩)
     (λl=>l<=L.length) (λl=>L.length-l) 0 (Le.aL ?_ ?_ ?_ ?_) (by simp) (λl hl=>?_)
    ·simp
    ·simp
    ·simp[-jx,gK,jk];exact ou (by simp)
    ·simp[mC]
    apply aa.ai aq fw [1,2,5,6,7,8,9,10,49,50,51,52];simp[LD];apply aa.seq;refine aa.cond rfl (λaS=>?_) (λaS=>?_)
    ·simp at aS;have r1:=LF aS;obtain⟨s,hs⟩:=aY (L.getD l default);rw[hs]at r1;have pq:L[l]? =some s:=by rw[<-hs];simp[List.getD,aS]
     obtain⟨a,e,ha,he,hia,hje,hae,Er,bN⟩:=Gl hx (i:=q) (j:=r) (by omega) (by omega) (s:=s) (by rw[hLL];exact Et pq);have ZN:mC x y q r (L.take (l+1))=min (mC x y q r (L.take l)) (min (s.c+ed x y (q+a) (r+e)) dV):=by
      rw[Tg,pq,ZcP,vZ,ha,he,gJ,gJ]
     obtain⟨sk,st,sc,sa,se⟩:=s;simp only at ha he Er bN ZN;subst ha he;apply aa.skip;simp;apply aa.seq;apply aa.block;apply aa.ai aq fw [1,2,5,6,7,8,9,10,12,49,50,51];simp[LG,r1,aS,qk.enc];refine aa.le (Le.aL (o:=[(1304,.box (qj x y q 2114)),(2114,.bm 0 3 1 (au (jq x y q (r+1))))]) (l:=[(1,.v (.sl (au y))),(2,.v (.box [.sl (bd x.ah),.sl (au x.insert),ti x.swap])),(5,.v (ti n)),(6,.v (ti m)),(7,.AH 1304 n1),(8,.v (ti q)),(9,.v (ti r)),(10,.v (ti (mC x y q r (L.take l)))),(12,.v (.box [ti sk,ti st,ti sc,ti a,ti e])),(49,.v (.sl (dL L))),(50,.v (ti L.length)),(51,.v (ti l))]) (bn:=5000) ?_ ?_ ?_ ?_) ?_
     ·simp
     ·simp
     ·simp[-jx,gK,jk];exact ou (by simp)
     ·simp
     obtain⟨q2,ZO⟩:=aY (q+a);obtain⟨r2,qd⟩:=aY (r+e);rw[ZO]at hia ZN;rw[qd]at hje ZN;have w4:IntKind.i64.wrap ((q:Int)+(a:Int))=(q2:Int):=by rw[<-ZO];exact_mod_cast ET (n:=q+a) (by omega)
     have w5:IntKind.i64.wrap ((r:Int)+(e:Int))=(r2:Int):=by rw[<-qd];exact_mod_cast ET (n:=r+e) (by omega)
     have LH:=Ov (x:=x) (y:=y) (q:=q) (A:=2114) (k:=q2) (by omega);have Rh:=II x y q 2114;rw[hnn]at Rh;have aaf:q2<n1:=by omega
     have adU:q2<=n:=by omega
     have hfb:=zU x y hx (i:=q) (j:=r) (by omega) (by omega) l;rw[hLL]at hfb;have heb:=hx.IG q2 r2;have qU:=tz x y q (r+1);have ak0:=tz x y q2 0;obtain⟨ev,ZK⟩:=aY (ed x y q2 r2);rw[ZK]at heb ZN;refine aa.qV aq fw [(1,.v (.sl (au y))),(2,.v (.box [.sl (bd x.ah),.sl (au x.insert),ti x.swap])),(5,.v (ti n)),(6,.v (ti m)),(7,.AH 1304 n1),(8,.v (ti q)),(9,.v (ti r)),(10,.v (ti (mC x y q r (L.take (l+1))))),(49,.v (.sl (dL L))),(50,.v (ti L.length)),(51,.v (ti l))] ?_ ?_
     ·rw[ZN];by_cases TY:q2=q
      ·have afh:=BL (x:=x) (y:=y) (i:=q) (c:=r+1) (k:=r2) (by omega) (by omega);have sD:=bA (l:=jq x y q (r+1)) (y:=r2) (by rw[qU];omega);rw[afh,<-TY,ZK]at sD;rw[cM TY]at LH;subst TY;simp[Gn,w4,w5,LH,Rh,aaf,adU,qU,sD];exact⟨by omega,_,_,⟨rfl,rfl⟩,by omega,by omega⟩
      ·rw[bX TY,cM (by omega)]at LH;have afh:=BL (x:=x) (y:=y) (i:=q2) (c:=0) (k:=r2) (by omega) (by omega);have sD:=bA (l:=jq x y q2 0) (y:=r2) (by rw[ak0];omega);rw[afh,ZK]at sD;simp[Gn,w4,w5,LH,Rh,aaf,adU,ak0,sD];exact⟨by omega,_,_,⟨rfl,rfl⟩,by omega,by omega⟩
     apply aa.cZ aq fw [1,2,5,6,7,8,9,10,49,50,51];simp[LI];rw[av (by omega)];refine⟨l+1,Le.aL ?_ ?_ ?_ ?_,by omega,by omega⟩
     ·simp
     ·simp
     ·simp[-jx,gK,jk];exact ou (by simp)
     ·simp[ZN]
    ·simp at aS;apply aa.exit;simp;have hl:l=L.length:=by omega
     subst hl;rw[TZ,<-hLL,EU hx (by omega)];have LH:=Ov (x:=x) (y:=y) (q:=q) (A:=2114) (k:=q) (by omega);rw[cM rfl]at LH;have Rh:=II x y q 2114;rw[hnn]at Rh;have aaf:q<n1:=by omega
     have qU:=tz x y q (r+1);have sD:=bA (l:=jq x y q (r+1)) (y:=r) (by rw[qU];omega);have hrw:=TO (x:=x) (y:=y) (i:=q) (c:=r) (by omega);apply aa.cZ aq fw [1,2,5,6,7,8,9];simp[LJ,LH,Rh,aaf,hqn,qU,sD,show r<y.length+1 by omega];refine⟨by omega, ?_⟩;apply aa.cZ aq fw [1,2,5,6,7,8,9];simp[Gm];rw[av (by omega)];refine⟨r,Le.aL ?_ ?_ ?_ ?_,by omega,by omega⟩
     ·simp
     ·simp
     ·simp[-jx,gK,jk,BR,hrw];exact ou (by simp)
     ·simp
  ·simp at aS;have hj0:j=0:=by omega
   subst hj0;apply aa.exit;simp;apply aa.cZ aq fw [1,2,5,6,7,8];simp[LK];rw[av (by omega)];refine⟨q,Le.aL ?_ ?_ ?_ ?_,by omega,by omega⟩
   ·simp
   ·simp
   ·simp[-jx,gK];exact Re (by simp) (by intro r hr;simp[tB]at hr;simp;omega)
   ·simp
 ·simp at aS;have hi0:i=0:=by omega
  subst hi0;apply aa.exit;simp;rw[TU];refine aa.le (Le.aL (o:=[]) (l:=[(7,.v (.sl (vt x y)))]) (bn:=6000) ?_ ?_ ?_ ?_) ?_;iterate 3(·simp)
  ·simp;exact⟨by rw[IK];omega,1,λr hr=>by obtain⟨k,_,rfl⟩:=j3.1 hr;rfl⟩
  apply aa.ai aq fw [4];simp[LL];apply aa.ret;simp[mN]
end
namespace aT
open Go.DM
structure bC where
 (kind head a b bi origin:Int)
 deriving DecidableEq,Inhabited
structure ay where
 (aX ae start:Int)
 aj:List bC
structure cX where
 (aA size:Int)
 deriving DecidableEq,Inhabited
structure Cell where
 (aA size lb arg:Int)
 deriving DecidableEq,Inhabited
structure bI where
 (ae am:Int)
 cells:List Cell
abbrev Cell.val(c:Cell):cX:=⟨c.aA,c.size⟩
def J2:aw ap (bz []):=aw.nil
def bC.enc(r:bC):aG:=[ti r.kind,ti r.head,ti r.a,ti r.b,ti r.bi,ti r.origin]
def aQ(l:List bC):List (aG):=l.map bC.enc
def ay.enc(n:ay):T:=.agg [ti n.aX,ti n.ae,ti n.start,.sl (aQ n.aj)]
def cU(l:List cX):List (aG):=l.map λv=>[ti v.aA,ti v.size]
def Cell.enc(c:Cell):aG:=[ti c.aA,ti c.size,ti c.lb,ti c.arg]
def bl(l:List Cell):List (aG):=l.map Cell.enc
def bI.enc(c:bI):T:=.agg [ti c.ae,ti c.am,.sl (bl c.cells)]
def i9:aG->bC
 |[a,b,c,d,e,f]=>⟨dg a,dg b,dg c,dg d,dg e,dg f⟩
 |_=>default
def kP(l:List (aG)):List bC:=l.map i9
def nc(l:List (aG)):List cX:=l.map fun|[a,b]=>⟨dg a,dg b⟩|_=>default
def Hn:aG->Cell
 |[a,b,c,d]=>⟨dg a,dg b,dg c,dg d⟩
 |_=>default
def mg(l:List (aG)):List Cell:=l.map Hn
def mt:T->ay
 |.agg [a,b,c,.sl r]=>⟨dg a,dg b,dg c,kP r⟩
 |_=>⟨0,0,0,[]⟩
def s6:T->bI
 |.agg [a,b,.sl r]=>⟨dg a,dg b,mg r⟩
 |_=>⟨0,0,[]⟩
@[simp] def Aw(r:bC):i9 r.enc=r:=by simp[i9,bC.enc,dg]
@[simp] def Ho(l:List bC):kP (aQ l)=l:=ja Aw l
@[simp] def ael(l:List cX):nc (cU l)=l:=ja (λ_=>rfl) l
@[simp] def J3(r:Cell):Hn r.enc=r:=by simp[Hn,Cell.enc,dg]
@[simp] def aaO(l:List Cell):mg (bl l)=l:=ja J3 l
@[simp] def Sq(a b c:Int)(l:List bC):mt (.agg [ti a,ti b,ti c,.sl (aQ l)])=⟨a,b,c,l⟩:=by simp[mt,dg]
@[simp] def Wa(n:ay):mt n.enc=n:=by simp[ay.enc]
@[simp] def akH(a b:Int)(l:List Cell):s6 (.agg [ti a,ti b,.sl (bl l)])=⟨a,b,l⟩:=by simp[s6,dg]
@[simp] def aoz(n:bI):s6 n.enc=n:=by simp[bI.enc]
@[simp] def agJ(l:List bC):(aQ l).length=l.length:=by simp[aQ]
@[simp] def akI(l:List cX):(cU l).length=l.length:=by simp[cU]
@[simp] def agK(l:List Cell):(bl l).length=l.length:=by simp[bl]
def fE{l:List bC}{y:Nat}(h:y<l.length):DM.rowAt (aQ l) y=(l.getD y default).enc:=by simp[DM.rowAt,aQ,h]
def jU{l:List cX}{y:Nat}(h:y<l.length):DM.rowAt (cU l) y=[ti (l.getD y default).aA,ti (l.getD y default).size]:=by simp[DM.rowAt,cU,h]
def iQ{l:List Cell}{y:Nat}(h:y<l.length):DM.rowAt (bl l) y=(l.getD y default).enc:=by simp[DM.rowAt,bl,h]
@[simp] def Sr:cU []=[]:=rfl
@[simp] def agL:bl []=[]:=rfl
def bu{α:Type} [Inhabited α]{l:List α}{i:Nat}(h:i<l.length):l.getD i default∈l:=by simp[List.getD,h]
def cX.lt(a b:cX):Prop:=a.aA<b.aA\/(a.aA=b.aA/\a.size<b.size)
instance(a b:cX):Decidable (a.lt b):=by unfold cX.lt;infer_instance
def t92(u v:cX):aJ ap 129 [.agg [ti u.aA,ti u.size],.agg [ti v.aA,ti v.size]] (.bool (decide (u.lt v))):=by
 obtain⟨a,b⟩:=u;obtain⟨c,d⟩:=v;obtain⟨c1,bN⟩:=aY (decide ((⟨a,b⟩:cX).lt ⟨c,d⟩):Bool);rw[bN];simp only[cX.lt]at bN;have aq:=J2;refine c92.ok (by simp) (aH ?_);simp;apply aa.ai aq fw [2,3];simp[amD];refine aa.lk (o:=[]) (l:=[(2,.v (.box [ti a,ti b])),(3,.v (.box [ti c,ti d]))]) (bn:=1200) (by simp) ?_;refine aa.bL aq fw [(4,.v (.bool c1))] ?_ ?_
 ·by_cases q1:a<c
  ·have:c1=true:=by rw[<-bN];simp[q1]
   simp[Pk,q1,this]
  ·by_cases q2:a=c
   ·subst q2;by_cases q3:b<d
    ·have:c1=true:=by rw[<-bN];simp[q3]
     simp[Pk,q3,this]
    ·have:c1=false:=by rw[<-bN];simp[q3]
     simp[Pk,q3,this]
   ·have:c1=false:=by rw[<-bN];simp[q1,q2]
    simp[Pk,q1,q2,this]
 apply aa.ret;simp[dI]
def dR:Int->Int->List cX->cX
 |c,s,[]=>⟨c,s⟩
 |c,s,v::l=>dR (min (c+v.aA) 1099511627776) (min (s+v.size) 1099511627776) l
def co(c:Int)(l:List cX):cX:=if(dR c 1 l).aA>=1099511627776 then⟨1099511627776,0⟩else dR c 1 l
def Dj(c s:Int)(l:List cX)(v:cX):dR c s (l++[v])=⟨min ((dR c s l).aA+v.aA) 1099511627776,min ((dR c s l).size+v.size) 1099511627776⟩:=by
 induction l generalizing c s with
 |nil=>rfl
 |cons x l ih=>simp only[Ig,dR,ih]
def mG(v:cX):Prop:=0<=v.aA/\v.aA<=1099511627776/\0<=v.size/\v.size<=1099511627776
def uj{l:List cX}(h:∀v∈l,mG v):∀{c s:Int},0<=c->c<=4000000000000->0<=s->s<=1099511627776->0<=(dR c s l).aA/\(dR c s l).aA<=4000000000000/\0<=(dR c s l).size/\(dR c s l).size<=1099511627776:=by
 induction l with
 |nil=>intro c s h1 h2 h3 h4;exact⟨h1,h2,h3,h4⟩
 |cons x l ih=>
  intro c s h1 h2 h3 h4;obtain⟨g1,g2,g3,g4⟩:=h x (by simp);exact ih (λv hv=>h v (by simp[hv])) (by omega) (by omega) (by omega) (by omega)
def iv{c:Int}{l:List cX}(h:∀v∈l,mG v)(h1:0<=c)(h2:c<=4000000000000):mG (co c l):=by
 have:=uj (c:=c) (s:=1) h h1 h2 (by omega) (by omega);unfold co mG;split
 ·simp
 ·omega
def dH{α:Type} [Inhabited α]{l:List α}{i:Nat}(h:i<l.length):l.take (i+1)=l.take i++[l.getD i default]:=by
 rw[Tg,mM h];simp[List.getD,h]
def t69(c:Int)(l:List cX)(h:∀v∈l,mG v)(h1:0<=c)(h2:c<=4000000000000)(h3:l.length<=1000000):aJ ap 127 [ti c,.sl (cU l)] (.agg [ti (co c l).aA,ti (co c l).size]):=by
 have aq:=J2;refine c69.ok (by simp) (aH ?_);simp;apply aa.ai aq fw [0,1,4];simp[amE];apply aa.ai aq fw [1,4,5,6];simp[amF];apply aa.sq aq fw [1,4,5,6,7];simp[amG];apply aa.block;refine aa.loop (λy:Nat=>⟨DM.look [(1,.v (.sl (cU l))),(4,.ptr 1005 0),(5,.v (ti (dR c 1 (l.take y)).aA)),(6,.v (ti (dR c 1 (l.take y)).size)),(7,.v (ti y))],cR [(1005,.box [.v (ti 0),.v (ti 0)])],2000,1000,[]⟩)
  (λy=>y<=l.length) (λy=>l.length-y) 0 (Le.aL ?_ ?_ ?_ ?_) (by simp) (λy hy=>?_)
 iterate 3(·simp)
 ·simp[dR]
 apply aa.sq aq fw [1,4,5,6,7,12];simp[amH];refine aa.cond rfl (λaS=>?_) (λaS=>?_)
 ·have aS:y<l.length:=by simpa using aS
  apply aa.skip;simp;apply aa.seq;apply aa.block;have rv:=jU aS;obtain⟨v,hv⟩:=aY (l.getD y default);rw[hv]at rv;have hov:=h v (by rw[<-hv];exact bu aS);obtain⟨o1,o2,o3,o4⟩:=hov;obtain⟨b1,b2,b3,b4⟩:=uj (c:=c) (s:=1) (l:=l.take y) (λv hv=>h v (I0 hv)) h1 h2 (by omega) (by omega);apply aa.cZ aq fw [1,4,5,6,7];simp[amI,aS,rv];apply aa.cZ aq fw [1,4,5,6,7];simp[amJ];rw[av (by omega),av (by omega),av (by omega)];refine⟨y+1,Le.aL ?_ ?_ ?_ ?_,by omega,by omega⟩;iterate 3(·simp)
  ·simp[dH aS,Dj,-List.getD_eq_getElem?_getD,hv]
 ·have fI:y=l.length:=by simp at aS;omega
  subst fI;rw[TZ];apply aa.exit;simp;apply aa.sq aq fw [4,5,6,32];simp[amK];refine aa.cond rfl (λh7=>?_) (λh7=>?_)
  ·have h7:(dR c 1 l).aA>=1099511627776:=by simpa using h7
   apply aa.ai aq fw [4];simp[amL];apply aa.ret;simp[MN,co,h7]
  ·have h7:¬(dR c 1 l).aA>=1099511627776:=by simpa using h7
   apply aa.skip;simp;apply aa.ai aq fw [4];simp[amM];apply aa.ret;simp[MN,co,h7]
def mc:Cell:=⟨1099511627776,0,-1,0⟩
def t42:aJ ap 125 [] (.agg mc.enc):=by
 have aq:=J2;refine c42.ok (by simp) (aH ?_);simp;apply aa.ai aq fw [0];simp[anC];apply aa.ai aq fw [0];simp[anD];apply aa.ret;simp[VO,mc,Cell.enc]
def i6(n s:Int):Int:=n*s*(s+1)/2
def g9{a b A B:Int}(h1:0<=a)(h2:a<=A)(h3:0<=b)(h4:b<=B):0<=a*b/\a*b<=A*B:=by
 refine⟨Zcu h1 h3, ?_⟩;exact ZdF h2 h4 h3 (by omega)
def t23(n s:Int)(h1:0<=n)(h2:n<=1000000)(h3:0<=s)(h4:s<=1000000):aJ ap 87 [ti n,ti s] (ti (i6 n s)):=by
 have k1:=g9 h1 h2 h3 h4;have k2:=g9 (b:=s+1) (B:=1000001) k1.1 k1.2 (by omega) (by omega);have w1:IntKind.i64.wrap (n*s)=n*s:=av (by omega);have w2:IntKind.i64.wrap (s+1)=s+1:=av (by omega);have w3:IntKind.i64.wrap (n*s*(s+1))=n*s*(s+1):=av (by omega);have w4:IntKind.i64.wrap ((n*s*(s+1)).tdiv 2)=n*s*(s+1)/2:=by rw[O6 k2.1];exact av (by omega)
 have aq:=J2;refine c23.ok (by simp) (aH ?_);simp;apply aa.ai aq fw [0,1];simp[anE];apply aa.ai aq fw [4];simp[anF,w1,w2,w3,w4];apply aa.ret;simp[dI,i6]
def pre(st:Int):Nat->Int
 |0=>0
 |n+1=>pre st n+st-n
def d5{st:Int}(h:st<=1000):∀n:Nat,(n:Int)<=st->0<=pre st n/\pre st n<=1000*n
 |0,_=>by simp[pre]
 |n+1,hn=>by
  have:=d5 h n (by omega);simp only[pre];omega
def dO(n st:Int)(f t:Nat):Int:=(pre st f+t-f)*n
def t25(n st:Int)(f t:Nat)(h1:0<=n)(h2:n<=1000)(h3:st<=1000)(h4:(f:Int)<=st)(h5:t<=1000)(h6:f<=t):aJ ap 89 [ti n,ti st,ti f,ti t] (ti (dO n st f t)):=by
 have aq:=J2;refine c25.ok (by simp) (aH ?_);simp;apply aa.ai aq fw [0,1,2,3];simp[anG];apply aa.ai aq fw [0,1,2,3,9];simp[anH];apply aa.sq aq fw [0,1,2,3,9,10];simp[anI];apply aa.block;refine aa.loop (λy:Nat=>⟨DM.look [(0,.v (ti n)),(1,.v (ti st)),(2,.v (ti f)),(3,.v (ti t)),(9,.v (ti (pre st y))),(10,.v (ti y))],cR [],2000,1000,[]⟩)
  (λy=>y<=f) (λy=>f-y) 0 (Le.aL (o:=[]) ?_ ?_ ?_ ?_) (by simp) (λy hy=>?_)
 iterate 3(·simp)
 ·simp[pre]
 apply aa.sq aq fw [0,1,2,3,9,10,13];simp[anJ];refine aa.cond rfl (λaS=>?_) (λaS=>?_)
 ·have aS:y<f:=by simpa using aS
  apply aa.skip;simp;apply aa.seq;apply aa.block;apply aa.cZ aq fw [0,1,2,3,9,10];simp[anK];apply aa.cZ aq fw [0,1,2,3,9,10];simp[anL];have hb:=d5 h3 y (by omega);have jZ:=d5 h3 (y+1) (by omega);simp only[pre]at jZ;rw[av (x:=pre st y+st) (by omega),av (x:=pre st y+st-y) (by omega),av (x:=(y:Int)+1) (by omega)];refine⟨y+1,Le.aL (o:=[]) ?_ ?_ ?_ ?_,by omega,by omega⟩;iterate 3(·simp)
  ·simp[pre]
 ·have fI:y=f:=by simp at aS;omega
  subst fI;have hb:=d5 h3 y (by omega);have hm:=g9 (a:=pre st y+t-y) (A:=2000000) (b:=n) (B:=1000) (by omega) (by omega) h1 h2;apply aa.exit;simp;apply aa.ai aq fw [8];simp[anM,av (x:=pre st y+t) (by omega),av (x:=pre st y+t-y) (by omega),av (x:=(pre st y+t-y)*n) (by omega)];apply aa.ret;simp[dI,dO]
def eZ(a:Cell)(v:cX)(r g:Int):Cell:=if v.aA>=1099511627776 then a else if v.lt a.val\/(v=a.val/\(r<a.lb\/(r=a.lb/\g<a.arg)))then⟨v.aA,v.size,r,g⟩else a
abbrev s92:DM.Spec:=bp (λts=>∃a b c d,ts=[.agg [ti a,ti b],.agg [ti c,ti d]]) (fun|[.agg [.int _ a,.int _ b],.agg [.int _ c,.int _ d]]=>.bool (decide ((⟨a,b⟩:cX).lt ⟨c,d⟩))|_=>.bool false) true
def auu:aw ap (bz [(129,s92)]):=by
 refine aw.cons aw.nil ?_;rintro ts ⟨a,b,c,d,rfl⟩;exact⟨t92 ⟨a,b⟩ ⟨c,d⟩,λ_=>rfl⟩
def t68(a:Cell)(v:cX)(r g:Int):aJ ap 174 [.agg a.enc,.agg [ti v.aA,ti v.size],ti r,ti g] (.agg (eZ a v r g).enc):=by
 obtain⟨ac,az,ar,ag⟩:=a;obtain⟨vc,vs⟩:=v;obtain⟨R,hR⟩:=aY (eZ ⟨ac,az,ar,ag⟩ ⟨vc,vs⟩ r g);rw[hR];unfold eZ at hR;simp only[Cell.val,cX.mk.injEq]at hR;have aq:=auu;refine c68.ok (by simp) (aH ?_);simp[Cell.enc];apply aa.ai aq fw [2,3,4,5,8];simp[anN];refine aa.lk (o:=[(1009,.box [.v (ti 0),.v (ti 0),.v (ti 0),.v (ti 0)])]) (l:=[(2,.v (ti r)),(3,.v (ti g)),(4,.v (.box [ti ac,ti az,ti ar,ti ag])),(5,.v (.box [ti vc,ti vs])),(8,.ptr 1009 0)]) (bn:=1200) (by simp) ?_;apply aa.sq aq fw [2,3,4,5,8,13];simp[anO];refine aa.cond rfl (λh1=>?_) (λh1=>?_)
 ·have h1:vc>=1099511627776:=by simpa using h1
  apply aa.ai aq fw [8];simp[anP];apply aa.ret;rw[cM h1]at hR;subst hR;simp[Hj]
 ·have h1:¬vc>=1099511627776:=by simpa using h1
  apply aa.skip;simp;rw[bX h1]at hR;obtain⟨c1,bN⟩:=aY (decide ((⟨vc,vs⟩:cX).lt ⟨ac,az⟩):Bool);apply aa.ai aq fw [2,3,4,5,8,9];simp[anQ,bN];obtain⟨c2,gD⟩:=aY (decide ((vc=ac/\vs=az)/\(r<ar\/(r=ar/\g<ag))):Bool);refine aa.bL aq fw [(2,.v (ti r)),(3,.v (ti g)),(4,.v (.box [ti ac,ti az,ti ar,ti ag])),(5,.v (.box [ti vc,ti vs])),(8,.ptr 1009 0),(9,.v (.bool c1)),(10,.v (.bool c2))] ?_ ?_
  ·by_cases q1:vc=ac/\vs=az
   ·obtain⟨rfl,rfl⟩:=q1;by_cases q2:r<ar
    ·have:c2=true:=by rw[<-gD];simp[q2]
     simp[JO,q2,this]
    ·by_cases q3:r=ar
     ·subst q3;by_cases q4:g<ag
      ·have:c2=true:=by rw[<-gD];simp[q4]
       simp[JO,q4,this]
      ·have:c2=false:=by rw[<-gD];simp[q4]
       simp[JO,q4,this]
     ·have:c2=false:=by rw[<-gD];simp[q2,q3]
      simp[JO,q2,q3,this]
   ·have:c2=false:=by rw[<-gD];simp[q1]
    simp[JO,q1,this]
  apply aa.seq;obtain⟨c3,hc3⟩:=aY ((c1||c2):Bool);refine aa.bL aq fw [(2,.v (ti r)),(3,.v (ti g)),(4,.v (.box [ti ac,ti az,ti ar,ti ag])),(5,.v (.box [ti vc,ti vs])),(8,.ptr 1009 0),(44,.v (.bool c3))] ?_ ?_
  ·cases c1<;>simp[anR]<;>simp at hc3<;>simp[hc3]
  refine aa.cond rfl (λh5=>?_) (λh5=>?_)
  ·have h5:c3=true:=by simpa using h5
   rw[h5,<-bN,<-gD]at hc3;simp only[Zcl,j2]at hc3;rw[cM hc3]at hR;apply aa.ai aq fw [8];simp[anS];apply aa.ret;subst hR;simp[Hj]
  ·have h5:c3=false:=by simpa using h5
   rw[h5,<-bN,<-gD]at hc3;simp only[Bool.or_eq_false_iff,pn]at hc3;rw[bX (λh=>h.elim hc3.1 hc3.2)]at hR;apply aa.skip;simp;apply aa.ai aq fw [8];simp[anT];apply aa.ret;subst hR;simp[Hj]
@[simp] def MY{a b:List bC}:aQ a=aQ b↔a=b:=⟨λh=>by have:=congrArg kP h;simpa using this,λh=>by rw[h]⟩
@[simp] def zd{a b:List cX}:cU a=cU b↔a=b:=⟨λh=>by have:=congrArg nc h;simpa using this,λh=>by rw[h]⟩
@[simp] def agM{a b:List Cell}:bl a=bl b↔a=b:=⟨λh=>by have:=congrArg mg h;simpa using this,λh=>by rw[h]⟩
@[simp] def FD{a b:ba}:au a=au b↔a=b:=⟨λh=>by have:=congrArg eM h;simpa using this,λh=>by rw[h]⟩
@[simp] def akJ{a b:List bF}:bq a=bq b↔a=b:=⟨λh=>by have:=congrArg Bq h;simpa using this,λh=>by rw[h]⟩
@[simp] def aoA{a b:List (Int×Int)}:ca a=ca b↔a=b:=⟨λh=>by have:=congrArg v6 h;simpa using this,λh=>by rw[h]⟩
@[simp] def akK{a b:List bB}:bd a=bd b↔a=b:=⟨λh=>by have:=congrArg kR h;simpa using this,λh=>by rw[h]⟩
@[simp] def Ss{l:List cX}:[]=cU l↔l=[]:=by rw[<-Sr,zd];exact eq_comm
@[simp] def akL{a b:Int}{l:List cX}:[[ti a,ti b]]=cU l↔l=[⟨a,b⟩]:=by rw[show [[ti a,ti b]]=cU [⟨a,b⟩]from rfl,zd];exact eq_comm
@[simp] def akM{a b c d:Int}{l:List cX}:[[ti a,ti b],[ti c,ti d]]=cU l↔l=[⟨a,b⟩,⟨c,d⟩]:=by rw[show [[ti a,ti b],[ti c,ti d]]=cU [⟨a,b⟩,⟨c,d⟩]from rfl,zd];exact eq_comm
@[simp] def aem:nc []=[]:=rfl
@[simp] def aen{a b:Int}:nc [[ti a,ti b]]=[⟨a,b⟩]:=rfl
@[simp] def aeo{a b c d:Int}:nc [[ti a,ti b],[ti c,ti d]]=[⟨a,b⟩,⟨c,d⟩]:=rfl
def gp(c:bI)(h f t:Int):Cell:=
 if h<0\/h>=c.ae\/f<0\/t<f\/t>=c.am then mc else c.cells.getD (dO c.ae c.am f.toNat t.toNat+h).toNat mc
def JT(c:bI):Prop:=0<=c.ae/\c.ae<=1000/\0<=c.am/\c.am<=1000/\c.cells.length<=1000000000000/\∀x∈c.cells,mG x.val
def J4:mG mc.val:=by simp[mG,mc]
def MZ{c:bI}(hc:JT c)(h f t:Int):mG (gp c h f t).val:=by
 unfold gp;split
 ·exact J4
 ·rw[List.getD];cases e:c.cells[(dO c.ae c.am f.toNat t.toNat+h).toNat]? with
  |none=>exact J4
  |some x=>exact hc.2.2.2.2.2 x (Et e)
abbrev s42:DM.Spec:=bp (λts=>ts=[]) (λ_=>.agg [ti 1099511627776,ti 0,ti (-1),ti 0]) true
abbrev s25:DM.Spec:=bp (λts=>∃n st f t:Int,ts=[ti n,ti st,ti f,ti t]/\0<=n/\n<=1000/\st<=1000/\0<=f/\f<=st/\t<=1000/\f<=t) (fun|[.int _ n,.int _ st,.int _ f,.int _ t]=>ti (dO n st f.toNat t.toNat)|_=>.bool false) true
def yb:aw ap (bz [(125,s42),(89,s25)]):=by
 refine aw.cons (aw.cons aw.nil ?_) ?_
 ·rintro ts ⟨n,st,f,t,rfl,h1,h2,h3,h4,h5,h6,h7⟩;obtain⟨f,rfl⟩:=jE h4;obtain⟨t,rfl⟩:=jE (a:=t) (by omega);exact⟨by simpa using t25 n st f t h1 h2 h3 h5 (by omega) (by omega),λ_=>rfl⟩
 ·rintro ts rfl;exact⟨t42,λ_=>rfl⟩
def oi{n st:Int}{f t:Nat}(h1:0<=n)(h2:n<=1000)(h3:st<=1000)(h4:(f:Int)<=st)(h5:t<=1000)(h6:f<=t):0<=dO n st f t/\dO n st f t<=2000000000:=by
 have hb:=d5 h3 f h4;have:=g9 (a:=pre st f+t-f) (A:=2000000) (b:=n) (B:=1000) (by omega) (by omega) h1 h2;unfold dO;omega
def t19(c:bI)(h f t:Int)(hc:JT c):aJ ap 206 [c.enc,.agg [ti h,ti f,ti t]] (.agg (gp c h f t).enc):=by
 obtain⟨cn,cs,cl⟩:=c;obtain⟨k1,k2,k3,k4,k5,k6⟩:=hc;simp only at k1 k2 k3 k4 k5 k6;obtain⟨R,hR⟩:=aY (gp ⟨cn,cs,cl⟩ h f t);rw[hR];unfold gp at hR;simp only at hR;have aq:=yb;refine c19.ok (by simp) (aH ?_);simp[bI.enc];apply aa.ai aq fw [2,3,4];simp[anU];refine aa.lk (o:=[(1005,.box [.v (ti 0),.v (ti 0),.v (ti 0),.v (ti 0)])]) (l:=[(2,.v (.box [ti cn,ti cs,.sl (bl cl)])),(3,.v (.box [ti h,ti f,ti t])),(4,.ptr 1005 0)]) (bn:=1200) (by simp) ?_;apply aa.seq;obtain⟨c1,bN⟩:=aY (decide (h<0\/h>=cn\/f<0\/t<f\/t>=cs):Bool);refine aa.bL aq fw [(2,.v (.box [ti cn,ti cs,.sl (bl cl)])),(3,.v (.box [ti h,ti f,ti t])),(4,.ptr 1005 0),(34,.v (.bool c1))] ?_ ?_
 ·by_cases q1:h<0
  ·have:c1=true:=by rw[<-bN];simp[q1]
   simp[Fz,q1,this]
  ·skip
   by_cases q2:h>=cn
   ·have:c1=true:=by rw[<-bN];simp[q2]
    simp[Fz,q1,q2,this]
   ·skip
    by_cases q3:f<0
    ·have:c1=true:=by rw[<-bN];simp[q3]
     simp[Fz,q1,q2,q3,this]
    ·skip
     by_cases q4:t<f
     ·have:c1=true:=by rw[<-bN];simp[q4]
      simp[Fz,q1,q2,q3,q4,this]
     ·skip
      by_cases q5:t>=cs
      ·have:c1=true:=by rw[<-bN];simp[q5]
       simp[Fz,q1,q2,q3,q4,q5,this]
      ·skip
       have:c1=false:=by rw[<-bN];simp[q1,q2,q3,q4,q5]
       simp[Fz,q1,q2,q3,q4,q5,this]
 refine aa.cond rfl (λh1=>?_) (λh1=>?_)
 ·rw[h1]at bN;rw[cM (qg bN)]at hR;subst hR;apply aa.ai aq fw [4];simp[anV];apply aa.ret;simp[Hk,mc,Cell.enc]
 ·rw[h1]at bN;have bN:=Br bN;rw[bX bN]at hR;obtain⟨f,rfl⟩:=jE (a:=f) (by omega);obtain⟨t,rfl⟩:=jE (a:=t) (by omega);simp only[gJ]at hR;apply aa.skip;simp;have hib:=oi (n:=cn) (st:=cs) (f:=f) (t:=t) k1 k2 k4 (by omega) (by omega) (by omega);obtain⟨x,hx⟩:=aY (dO cn cs f t+h);have w1:IntKind.i64.wrap (dO cn cs f t+h)=x:=by rw[hx];exact av (by omega)
  rw[hx]at hR;apply aa.ai aq fw [2,4,5];simp[anW,ze,w1];refine⟨by omega,by omega,by omega,by omega,by omega,by omega, ?_⟩;apply aa.sq aq fw [2,4,5,52];simp[anX];refine aa.cond rfl (λh2=>?_) (λh2=>?_)
  ·have h2:(cl.length:Int)<=x:=by simpa using h2
   rw[List.getD,L7 (by omega)]at hR;subst hR;apply aa.ai aq fw [4];simp[anY];apply aa.ret;simp[Hk,mc,Cell.enc]
  ·have h2:¬(cl.length:Int)<=x:=by simpa using h2
   obtain⟨x,rfl⟩:=jE (a:=x) (by omega);have wX:x<cl.length:=by omega
   apply aa.skip;simp;have rr:=iQ wX;have hR2:cl.getD x default=R:=by rw[<-hR];simp[List.getD,wX]
   rw[hR2]at rr;apply aa.ai aq fw [4];simp[anZ,wX,rr,Cell.enc];apply aa.ret;simp[Hk]
def dv(c:bI)(own:List Cell)(fr to h f t:Int):cX:=if f=fr/\t=to then(own.getD h.toNat default).val else(gp c h f t).val
def aaP(c:bI)(own:List Cell)(fr to h f t:Int):Prop:=JT c/\own.length<=1000000/\(f=fr/\t=to->0<=h/\h<own.length)
def qB{c:bI}{own:List Cell}{fr to h f t:Int}(h1:aaP c own fr to h f t)(h2:∀x∈own,mG x.val):mG (dv c own fr to h f t):=by
 unfold dv;split
 ·rename_i e;have:=h1.2.2 e;exact h2 _ (bu (by omega))
 ·exact MZ h1.1 _ _ _
abbrev s19:DM.Spec:=bp (λts=>∃cn cs cl h f t,ts=[.agg [ti cn,ti cs,.sl (bl cl)],.agg [ti h,ti f,ti t]]/\JT ⟨cn,cs,cl⟩) (fun|[c,.agg [.int _ h,.int _ f,.int _ t]]=>.agg [ti (gp (s6 c) h f t).aA,ti (gp (s6 c) h f t).size,ti (gp (s6 c) h f t).lb,ti (gp (s6 c) h f t).arg]|_=>.bool false) true
def auv:aw ap (bz [(206,s19)]):=by
 refine aw.cons aw.nil ?_;rintro ts ⟨cn,cs,cl,h,f,t,rfl,hc⟩;exact⟨by simpa [bI.enc,Cell.enc]using t19 ⟨cn,cs,cl⟩ h f t hc,λ_=>rfl⟩
def t70(c:bI)(own:List Cell)(fr to h f t:Int)(hp:aaP c own fr to h f t):aJ ap 175 [c.enc,.sl (bl own),ti fr,ti to,.agg [ti h,ti f,ti t]] (.agg [ti (dv c own fr to h f t).aA,ti (dv c own fr to h f t).size]):=by
 obtain⟨cn,cs,cl⟩:=c;obtain⟨hc,hl,ho⟩:=hp;obtain⟨R,hR⟩:=aY (dv ⟨cn,cs,cl⟩ own fr to h f t);rw[hR];unfold dv at hR;have aq:=auv;refine c70.ok (by simp) (aH ?_);simp[bI.enc];apply aa.ai aq fw [1,2,3,5,9,10];simp[an0];refine aa.lk (o:=[(1011,.box [.v (ti 0),.v (ti 0)])]) (l:=[(1,.v (.sl (bl own))),(2,.v (ti fr)),(3,.v (ti to)),(5,.v (.box [ti cn,ti cs,.sl (bl cl)])),(9,.v (.box [ti h,ti f,ti t])),(10,.ptr 1011 0)]) (bn:=1200) (by simp) ?_;apply aa.seq;obtain⟨c1,bN⟩:=aY (decide (f=fr/\t=to):Bool);refine aa.bL aq fw [(1,.v (.sl (bl own))),(5,.v (.box [ti cn,ti cs,.sl (bl cl)])),(9,.v (.box [ti h,ti f,ti t])),(10,.ptr 1011 0),(20,.v (.bool c1))] ?_ ?_
 ·by_cases q1:f=fr
  ·by_cases q2:t=to
   ·have:c1=true:=by rw[<-bN];simp[q1,q2]
    simp[VP,q1,q2,this]
   ·have:c1=false:=by rw[<-bN];simp[q2]
    simp[VP,q1,q2,this]
  ·have:c1=false:=by rw[<-bN];simp[q1]
   simp[VP,q1,this]
 refine aa.cond rfl (λh1=>?_) (λh1=>?_)
 ·rw[h1]at bN;have bN:=qg bN;rw[cM bN]at hR;obtain⟨g1,g2⟩:=ho bN;obtain⟨h,rfl⟩:=jE g1;have BS:h<own.length:=by omega
  have rr:=iQ BS;simp only[gJ]at hR;obtain⟨x,hx⟩:=aY (own.getD h default);rw[hx]at rr hR;apply aa.ai aq fw [10];simp[an1,BS,rr,Cell.enc];apply aa.ret;subst hR;simp[MP]
 ·rw[h1]at bN;have bN:=Br bN;rw[bX bN]at hR;apply aa.skip;simp;apply aa.ai aq fw [10];simp[an2,ze,hc];apply aa.ret;subst hR;simp[MP]
def me(n:ay)(r:bC):Prop:=0<=r.head/\r.head<n.ae/\0<=r.bi/\r.bi<=1000/\(r.kind=1\/(r.kind=2/\0<=r.a/\r.a<n.aX)\/(r.kind=3/\0<=r.a/\r.a<n.ae)\/(r.kind=4/\0<=r.a/\r.a<n.ae/\0<=r.b/\r.b<n.ae))
def qf(n:ay):Prop:=1<=n.ae/\n.ae<=1000/\n.aj.length<=600/\∀r∈n.aj,me n r
def wB(l:aF):Prop:=1<=l.am/\l.am<=1000/\l.aK.length<=1000000000/\∀a∈l.aK,0<=a.aA/\a.aA<=1099511627776
def Pm(n:ay)(own:List Cell):Prop:=(own.length:Int)=n.ae/\∀x∈own,mG x.val
def stepT(r:bC)(aK:List bF)(fr to i:Int)(x:Cell)(k:Nat):Cell:=
 if(aK.getD k default).f=fr/\(aK.getD k default).t=to/\(aK.getD k default).term=r.a then eZ x (co (r.bi+(aK.getD k default).aA) []) i k else x
def jh(r:bC)(c:bI)(own:List Cell)(fr to i:Int)(x:Cell)(k:Nat):Cell:=
 eZ x (co r.bi [dv c own fr to r.a fr (fr+k),dv c own fr to r.b (fr+k) to]) i (fr+k)
def nB(r:bC)(l:aF)(c:bI)(own:List Cell)(fr to i:Int)(x:Cell):Cell:=
 if r.kind=1 then(if fr=to then eZ x (co r.bi []) i fr else x)
 else if r.kind=2 then(List.range l.aK.length).foldl (stepT r l.aK fr to i) x
 else if r.kind=3 then eZ x (co r.bi [dv c own fr to r.a fr to]) i fr
 else(List.range (to-fr+1).toNat).foldl (jh r c own fr to i) x
def fD(n:ay)(l:aF)(c:bI)(own:List Cell)(fr to:Int)(i:Nat):Cell:=
 nB (n.aj.getD i default) l c own fr to i (own.getD (n.aj.getD i default).head.toNat default)
abbrev s69:DM.Spec:=bp (λts=>∃c l,ts=[ti c,.sl (cU l)]/\(∀v∈l,mG v)/\0<=c/\c<=4000000000000/\l.length<=1000000) (fun|[.int _ c,.sl l]=>.agg [ti (co c (nc l)).aA,ti (co c (nc l)).size]|_=>.bool false) true
abbrev s68:DM.Spec:=bp (λts=>∃a b c d vc vs r g,ts=[.agg [ti a,ti b,ti c,ti d],.agg [ti vc,ti vs],ti r,ti g])
 (fun|[.agg [.int _ a,.int _ b,.int _ c,.int _ d],.agg [.int _ vc,.int _ vs],.int _ r,.int _ g]=>.agg [ti (eZ ⟨a,b,c,d⟩ ⟨vc,vs⟩ r g).aA,ti (eZ ⟨a,b,c,d⟩ ⟨vc,vs⟩ r g).size,ti (eZ ⟨a,b,c,d⟩ ⟨vc,vs⟩ r g).lb,ti (eZ ⟨a,b,c,d⟩ ⟨vc,vs⟩ r g).arg]|_=>.bool false) true
abbrev s70:DM.Spec:=bp (λts=>∃cn cs cl own fr to h f t,ts=[.agg [ti cn,ti cs,.sl (bl cl)],.sl (bl own),ti fr,ti to,.agg [ti h,ti f,ti t]]/\aaP ⟨cn,cs,cl⟩ own fr to h f t)
 (fun|[c,.sl own,.int _ fr,.int _ to,.agg [.int _ h,.int _ f,.int _ t]]=>.agg [ti (dv (s6 c) (mg own) fr to h f t).aA,ti (dv (s6 c) (mg own) fr to h f t).size]|_=>.bool false) true
def okI:aw ap (bz [(127,s69),(174,s68),(175,s70)]):=by
 refine aw.cons (aw.cons (aw.cons aw.nil ?_) ?_) ?_
 ·rintro ts ⟨cn,cs,cl,own,fr,to,h,f,t,rfl,hp⟩;exact⟨by simpa [bI.enc]using t70 ⟨cn,cs,cl⟩ own fr to h f t hp,λ_=>rfl⟩
 ·rintro ts ⟨a,b,c,d,vc,vs,r,g,rfl⟩;exact⟨by simpa [Cell.enc]using t68 ⟨a,b,c,d⟩ ⟨vc,vs⟩ r g,λ_=>rfl⟩
 ·rintro ts ⟨c,l,rfl,h1,h2,h3,h4⟩;exact⟨by simpa using t69 c l h1 h2 h3 h4,λ_=>rfl⟩
@[simp] def agN{l:List cX}:cU l=[]↔l=[]:=by rw[eq_comm,Ss]
def x9:∀v∈([]:List cX),mG v:=λv h=>by cases h
def t46(n:ay)(l:aF)(c:bI)(own:List Cell)(fr to i:Nat)(hn:qf n)(hl:wB l)(hc:JT c)(ho:Pm n own)(hi:i<n.aj.length)(yF:fr<=to)(nJ:to<=1000):
  aJ ap 126 [n.enc,l.enc,c.enc,.sl (bl own),ti fr,ti to,ti i] (.agg (fD n l c own fr to i).enc):=by
 obtain⟨r,hr⟩:=aY (n.aj.getD i default);have th:me n r:=hn.2.2.2 r (by rw[<-hr];exact bu hi);obtain⟨x,hx⟩:=aY (own.getD r.head.toNat default);obtain⟨R,hR⟩:=aY (fD n l c own fr to i);rw[hR];unfold fD at hR;rw[hr,hx]at hR;obtain⟨nt,nn,ns,aj⟩:=n;obtain⟨ls,aK,dM⟩:=l;obtain⟨cn,cs,cl⟩:=c;obtain⟨rk,rh,ra,rb,rp,rg⟩:=r;obtain⟨xc,xs,xr,xg⟩:=x;obtain⟨q1,q2,q3,q4,q5⟩:=th;obtain⟨o1,o2⟩:=ho;obtain⟨l1,l2,l3,l4⟩:=hl;obtain⟨n1,n2,n3,n4⟩:=hn;simp only at q1 q2 q3 q4 q5 o1 hr hi hx l1 l2 l3 l4 n1 n2 n3 n4;obtain⟨rh,rfl⟩:=jE q1;simp only[gJ]at hx;have M0:rh<own.length:=by omega
 have rr:=fE hi;rw[hr]at rr;have rx:=iQ M0;rw[hx]at rx;have mX:∀{h:Int},0<=h->h<nn->∀f t:Int,aaP ⟨cn,cs,cl⟩ own fr to h f t:=λh0 h1 f t=>⟨hc,by omega,λ_=>⟨h0,by omega⟩⟩;have aq:=okI;refine c46.ok (by simp) (aH ?_);simp[ay.enc,aF.enc,bI.enc];apply aa.ai aq fw [3,4,5,6,7,8,9,14];simp[JP];refine aa.lk (o:=[(1015,.box [.v (ti 0),.v (ti 0),.v (ti 0),.v (ti 0)])]) (l:=[(3,.v (.sl (bl own))),(4,.v (ti fr)),(5,.v (ti to)),(6,.v (ti i)),(7,.v (.box [ti nt,ti nn,ti ns,.sl (aQ aj)])),(8,.v (.box [ti ls,.sl (bq aK),.sl (au dM)])),(9,.v (.box [ti cn,ti cs,.sl (bl cl)])),(14,.ptr 1015 0)]) (bn:=1200) (by simp) ?_;apply aa.ai aq fw [3,4,5,6,7,8,9,14,15];simp[VQ,hi,rr,bC.enc];refine aa.lk (o:=[(1015,.box [.v (ti 0),.v (ti 0),.v (ti 0),.v (ti 0)])]) (l:=[(3,.v (.sl (bl own))),(4,.v (ti fr)),(5,.v (ti to)),(6,.v (ti i)),(7,.v (.box [ti nt,ti nn,ti ns,.sl (aQ aj)])),(8,.v (.box [ti ls,.sl (bq aK),.sl (au dM)])),(9,.v (.box [ti cn,ti cs,.sl (bl cl)])),(14,.ptr 1015 0),(15,.v (.box [ti rk,ti rh,ti ra,ti rb,ti rp,ti rg]))]) (bn:=1400) (by simp) ?_;apply aa.ai aq fw [3,4,5,6,7,8,9,14,15,16];simp[an3,M0,rx,Cell.enc];refine aa.lk (o:=[(1015,.box [.v (ti 0),.v (ti 0),.v (ti 0),.v (ti 0)]),(1417,.box [.v (ti xc),.v (ti xs),.v (ti xr),.v (ti xg)])]) (l:=[(3,.v (.sl (bl own))),(4,.v (ti fr)),(5,.v (ti to)),(6,.v (ti i)),(7,.v (.box [ti nt,ti nn,ti ns,.sl (aQ aj)])),(8,.v (.box [ti ls,.sl (bq aK),.sl (au dM)])),(9,.v (.box [ti cn,ti cs,.sl (bl cl)])),(14,.ptr 1015 0),(15,.v (.box [ti rk,ti rh,ti ra,ti rb,ti rp,ti rg])),(16,.ptr 1417 0)]) (bn:=1600) (by simp) ?_;apply aa.sq aq fw [3,4,5,6,8,9,14,15,16,33];simp[VR];apply aa.block;apply aa.ai aq fw [3,4,5,6,8,9,14,15,16,33,70];simp[VS];refine aa.cond rfl (λk1=>?_) (λk1=>?_)
 ·have k1:rk=1:=by simpa using k1
  rw[show rk=1 from k1]at hR;simp only[nB,cM]at hR;apply aa.ai aq fw [4,6,14,15,16,74];simp[an4];refine aa.cond rfl (λk2=>?_) (λk2=>?_)
  ·have k2:(fr:Int)=to:=by simpa using k2
   rw[cM k2]at hR;apply aa.cZ aq fw [14,16];simp[an5,ze];refine⟨by omega,by omega, ?_⟩;apply aa.ai aq fw [14];simp[C8];apply aa.ret;subst hR;simp[nP,Cell.enc]
  ·have k2:¬(fr:Int)=to:=by simpa using k2
   rw[bX k2]at hR;apply aa.skip;simp;apply aa.ai aq fw [14];simp[C8];apply aa.ret;subst hR;simp[nP,Cell.enc]
 ·have k1:¬rk=1:=by simpa using k1
  simp only[nB,k1,we]at hR;apply aa.ai aq fw [3,4,5,6,8,9,14,15,16,33,82];simp[an6];refine aa.cond rfl (λk3=>?_) (λk3=>?_)
  ·have k3:rk=2:=by simpa using k3
   rw[cM k3]at hR;apply aa.ai aq fw [4,5,6,8,14,15,16,17];simp[an7];apply aa.block;refine aa.loop (λy:Nat=>⟨DM.look [(4,.v (ti fr)),(5,.v (ti to)),(6,.v (ti i)),(8,.v (.box [ti ls,.sl (bq aK),.sl (au dM)])),(14,.ptr 1015 0),(15,.v (.box [ti rk,ti rh,ti ra,ti rb,ti rp,ti rg])),(16,.ptr 1417 0),(17,.v (ti y))],cR [(1015,.box [.v (ti 0),.v (ti 0),.v (ti 0),.v (ti 0)]),(1417,.box [.v (ti ((List.range y).foldl (stepT ⟨rk,rh,ra,rb,rp,rg⟩ aK fr to i) ⟨xc,xs,xr,xg⟩).aA),.v (ti ((List.range y).foldl (stepT ⟨rk,rh,ra,rb,rp,rg⟩ aK fr to i) ⟨xc,xs,xr,xg⟩).size),.v (ti ((List.range y).foldl (stepT ⟨rk,rh,ra,rb,rp,rg⟩ aK fr to i) ⟨xc,xs,xr,xg⟩).lb),.v (ti ((List.range y).foldl (stepT ⟨rk,rh,ra,rb,rp,rg⟩ aK fr to i) ⟨xc,xs,xr,xg⟩).arg)])],2000,1000,[]⟩)
    (λy=>y<=aK.length) (λy=>aK.length-y) 0 (Le.aL ?_ ?_ ?_ ?_) (by simp) (λy hy=>?_)
   iterate 4(·simp)
   obtain⟨X,hX⟩:=aY (((List.range y).foldl (stepT ⟨rk,rh,ra,rb,rp,rg⟩ aK fr to i) ⟨xc,xs,xr,xg⟩));rw[hX];apply aa.sq aq fw [4,5,6,8,14,15,16,17,88];simp[an8];refine aa.cond rfl (λaS=>?_) (λaS=>?_)
   ·have aS:y<aK.length:=by simpa using aS
    apply aa.skip;simp;apply aa.seq;apply aa.block;have ra1:=r8 aS;obtain⟨a,ha⟩:=aY (aK.getD y default);rw[ha]at ra1;obtain⟨g1,g2⟩:=l4 a (by rw[<-ha];exact bu aS);obtain⟨c1,bN⟩:=aY (decide (a.f=fr/\a.t=to/\a.term=ra):Bool);refine aa.bL aq fw [(4,.v (ti fr)),(5,.v (ti to)),(6,.v (ti i)),(8,.v (.box [ti ls,.sl (bq aK),.sl (au dM)])),(14,.ptr 1015 0),(15,.v (.box [ti rk,ti rh,ti ra,ti rb,ti rp,ti rg])),(16,.ptr 1417 0),(17,.v (ti y)),(119,.v (.bool c1))] ?_ ?_
    ·by_cases q1:a.f=fr
     ·by_cases q2:a.t=to
      ·by_cases q3:a.term=ra
       ·have:c1=true:=by rw[<-bN];simp[q1,q2,q3]
        simp[Hl,aS,ra1,bF.enc,q1,q2,q3,this]
       ·have:c1=false:=by rw[<-bN];simp[q3]
        simp[Hl,aS,ra1,bF.enc,q1,q2,q3,this]
      ·have:c1=false:=by rw[<-bN];simp[q2]
       simp[Hl,aS,ra1,bF.enc,q1,q2,this]
     ·have:c1=false:=by rw[<-bN];simp[q1]
      simp[Hl,aS,ra1,bF.enc,q1,this]
    refine aa.cond rfl (λh5=>?_) (λh5=>?_)
    ·rw[h5]at bN;have bN:=qg bN;have iO:stepT ⟨rk,rh,ra,rb,rp,rg⟩ aK fr to i X y=eZ X (co (rp+a.aA) []) i y:=by unfold stepT;rw[ha,cM bN]
     apply aa.cZ aq fw [4,5,6,8,14,15,16,17];simp[ags,aS,ra1,bF.enc,ze,av (x:=rp+a.aA) (by omega)];refine⟨by omega,by omega, ?_⟩;apply aa.cZ aq fw [4,5,6,8,14,15,16,17];simp[VT];rw[av (x:=(y:Int)+1) (by omega)];refine⟨y+1,Le.aL ?_ ?_ ?_ ?_,by omega,by omega⟩
     ·simp
     ·simp
     ·simp[tp,Ec,hX,iO]
     ·simp
    ·rw[h5]at bN;have bN:=Br bN;have iO:stepT ⟨rk,rh,ra,rb,rp,rg⟩ aK fr to i X y=X:=by unfold stepT;rw[ha,bX bN]
     apply aa.skip;simp;apply aa.cZ aq fw [4,5,6,8,14,15,16,17];simp[VT];rw[av (x:=(y:Int)+1) (by omega)];refine⟨y+1,Le.aL ?_ ?_ ?_ ?_,by omega,by omega⟩
     ·simp
     ·simp
     ·simp[tp,Ec,hX,iO]
     ·simp
   ·have fI:y=aK.length:=by simp at aS;omega
    subst fI;rw[hX]at hR;apply aa.exit;simp;apply aa.ai aq fw [14];simp[C8];apply aa.ret;subst hR;simp[nP,Cell.enc]
  ·have k3:¬rk=2:=by simpa using k3
   rw[bX k3]at hR;apply aa.ai aq fw [3,4,5,6,9,14,15,16,134];simp[agt];refine aa.cond rfl (λk4=>?_) (λk4=>?_)
   ·have k4:rk=3:=by simpa using k4
    rw[cM k4]at hR;have Bb:=mX (h:=ra) (by omega) (by omega) fr to;have nk:=qB Bb o2;obtain⟨⟨vc,vs⟩,hv⟩:=aY (dv ⟨cn,cs,cl⟩ own fr to ra fr to);rw[hv]at nk hR;apply aa.ai aq fw [6,14,15,16,18,4];simp[agu,ze,Bb,hv];refine aa.lk (o:=[(1015,.box [.v (ti 0),.v (ti 0),.v (ti 0),.v (ti 0)]),(1417,.box [.v (ti xc),.v (ti xs),.v (ti xr),.v (ti xg)])]) (l:=[(4,.v (ti fr)),(6,.v (ti i)),(14,.ptr 1015 0),(15,.v (.box [ti rk,ti rh,ti ra,ti rb,ti rp,ti rg])),(16,.ptr 1417 0),(18,.v (.box [ti vc,ti vs]))]) (bn:=2200) (by simp) ?_;apply aa.cZ aq fw [14,16];simp[agv,ze,nk,di];refine⟨by omega,by omega, ?_⟩;apply aa.ai aq fw [14];simp[C8];apply aa.ret;subst hR;simp[nP,Cell.enc]
   ·have k4:¬rk=3:=by simpa using k4
    rw[bX k4]at hR;apply aa.ai aq fw [3,4,5,6,9,14,15,16,19];simp[agw];apply aa.block;refine aa.loop (λy:Nat=>⟨DM.look [(3,.v (.sl (bl own))),(4,.v (ti fr)),(5,.v (ti to)),(6,.v (ti i)),(9,.v (.box [ti cn,ti cs,.sl (bl cl)])),(14,.ptr 1015 0),(15,.v (.box [ti rk,ti rh,ti ra,ti rb,ti rp,ti rg])),(16,.ptr 1417 0),(19,.v (ti ((fr+y:Nat):Int)))],cR [(1015,.box [.v (ti 0),.v (ti 0),.v (ti 0),.v (ti 0)]),(1417,.box [.v (ti ((List.range y).foldl (jh ⟨rk,rh,ra,rb,rp,rg⟩ ⟨cn,cs,cl⟩ own fr to i) ⟨xc,xs,xr,xg⟩).aA),.v (ti ((List.range y).foldl (jh ⟨rk,rh,ra,rb,rp,rg⟩ ⟨cn,cs,cl⟩ own fr to i) ⟨xc,xs,xr,xg⟩).size),.v (ti ((List.range y).foldl (jh ⟨rk,rh,ra,rb,rp,rg⟩ ⟨cn,cs,cl⟩ own fr to i) ⟨xc,xs,xr,xg⟩).lb),.v (ti ((List.range y).foldl (jh ⟨rk,rh,ra,rb,rp,rg⟩ ⟨cn,cs,cl⟩ own fr to i) ⟨xc,xs,xr,xg⟩).arg)])],3000,1000,[]⟩)
     (λy=>fr+y<=to+1) (λy=>to+1-(fr+y)) 0 (Le.aL ?_ ?_ ?_ ?_) (by omega) (λy hy=>?_)
    iterate 4(·simp)
    obtain⟨X,hX⟩:=aY (((List.range y).foldl (jh ⟨rk,rh,ra,rb,rp,rg⟩ ⟨cn,cs,cl⟩ own fr to i) ⟨xc,xs,xr,xg⟩));rw[hX];obtain⟨m,hm⟩:=aY (fr+y);rw[hm];apply aa.sq aq fw [3,4,5,6,9,14,15,16,19,37];simp[agx];refine aa.cond rfl (λk5=>?_) (λk5=>?_)
    ·have k5:m<=to:=by simp at k5;omega
     apply aa.skip;simp;apply aa.seq;apply aa.block;have hu1:=mX (h:=ra) (by omega) (by omega) fr m;have hu2:=qB hu1 o2;obtain⟨⟨uc,us⟩,hu⟩:=aY (dv ⟨cn,cs,cl⟩ own fr to ra fr m);rw[hu]at hu2;apply aa.ai aq fw [3,4,5,6,9,14,15,16,19,20];simp[agy,ze,hu1,hu];refine aa.lk (o:=[(1015,.box [.v (ti 0),.v (ti 0),.v (ti 0),.v (ti 0)]),(1417,.box [.v (ti X.aA),.v (ti X.size),.v (ti X.lb),.v (ti X.arg)])]) (l:=[(3,.v (.sl (bl own))),(4,.v (ti fr)),(5,.v (ti to)),(6,.v (ti i)),(9,.v (.box [ti cn,ti cs,.sl (bl cl)])),(14,.ptr 1015 0),(15,.v (.box [ti rk,ti rh,ti ra,ti rb,ti rp,ti rg])),(16,.ptr 1417 0),(19,.v (ti m)),(20,.v (.box [ti uc,ti us]))]) (bn:=3200) (by simp) ?_;have Bb:=mX (h:=rb) (by omega) (by omega) m to;have nk:=qB Bb o2;obtain⟨⟨vc,vs⟩,hv⟩:=aY (dv ⟨cn,cs,cl⟩ own fr to rb m to);rw[hv]at nk;apply aa.ai aq fw [3,4,5,6,9,14,15,16,19,20,21];simp[agz,ze,Bb,hv];refine aa.lk (o:=[(1015,.box [.v (ti 0),.v (ti 0),.v (ti 0),.v (ti 0)]),(1417,.box [.v (ti X.aA),.v (ti X.size),.v (ti X.lb),.v (ti X.arg)])]) (l:=[(3,.v (.sl (bl own))),(4,.v (ti fr)),(5,.v (ti to)),(6,.v (ti i)),(9,.v (.box [ti cn,ti cs,.sl (bl cl)])),(14,.ptr 1015 0),(15,.v (.box [ti rk,ti rh,ti ra,ti rb,ti rp,ti rg])),(16,.ptr 1417 0),(19,.v (ti m)),(20,.v (.box [ti uc,ti us])),(21,.v (.box [ti vc,ti vs]))]) (bn:=3400) (by simp) ?_;have Ij:(fr:Int)+y=m:=by omega
     have iO:jh ⟨rk,rh,ra,rb,rp,rg⟩ ⟨cn,cs,cl⟩ own fr to i X y=eZ X (co rp [⟨uc,us⟩,⟨vc,vs⟩]) i m:=by unfold jh;simp only[Ij,hu,hv]
     apply aa.cZ aq fw [3,4,5,6,9,14,15,16,19];simp[agA,ze,hu2,nk,di];refine⟨by omega,by omega, ?_⟩;apply aa.cZ aq fw [3,4,5,6,9,14,15,16,19];simp[agB];rw[av (x:=(m:Int)+1) (by omega)];refine⟨y+1,Le.aL ?_ ?_ ?_ ?_,by omega,by omega⟩
     ·simp
     ·simp
     ·simp[tp,Ec,hX,iO]
     ·simp;omega
    ·have k5:y=(to-fr+1:Int).toNat:=by simp at k5;omega
     subst k5;rw[hX]at hR;apply aa.exit;simp;apply aa.ai aq fw [14];simp[C8];apply aa.ret;subst hR;simp[nP]
def kindOk(n:ay)(r:bC):Prop:=
 if r.kind=1 then r.a=0/\r.b=0 else if r.kind=2 then r.a>=0/\r.a<n.aX/\r.b=0 else if r.kind=3 then r.a>=0/\r.a<n.ae/\r.b=0
 else if r.kind=4 then r.a>=0/\r.a<n.ae/\r.b>=0/\r.b<n.ae else False
instance(n:ay)(r:bC):Decidable (kindOk n r):=by unfold kindOk;infer_instance
def nR(n:ay)(r:bC):Prop:=¬(r.head<0\/r.head>=n.ae\/r.bi<0\/r.bi>1000\/r.origin< -1)
instance(n:ay)(r:bC):Decidable (nR n r):=by unfold nR;infer_instance
def J7(n:ay):Prop:=¬(n.aX<0\/n.aX>120\/n.ae<1\/n.ae>1000\/n.start<0\/n.start>=n.ae\/(n.aj.length:Int)>600)
instance(n:ay):Decidable (J7 n):=by unfold J7;infer_instance
def fk(n:ay):Prop:=J7 n/\∀i,i<n.aj.length->nR n (n.aj.getD i default)/\kindOk n (n.aj.getD i default)
instance(n:ay):Decidable (fk n):=by unfold fk;infer_instance
def fk.ok{n:ay}(h:fk n):qf n:=by
 obtain⟨h1,h2⟩:=h;unfold J7 at h1;refine⟨by omega,by omega,by omega,λr hr=>?_⟩;obtain⟨i,hi,rfl⟩:=ZbY hr;obtain⟨h3,h4⟩:=h2 i hi;rw[show n.aj.getD i default=n.aj[i]by simp[List.getD,hi]]at h3 h4;unfold nR at h3;unfold kindOk at h4;unfold me;refine⟨by omega,by omega,by omega,by omega, ?_⟩;split at h4
 ·exact .inl (by assumption)
 ·split at h4
  ·exact .inr (.inl ⟨by assumption,by omega,by omega⟩)
  ·split at h4
   ·exact .inr (.inr (.inl ⟨by assumption,by omega,by omega⟩))
   ·split at h4
    ·exact .inr (.inr (.inr ⟨by assumption,by omega,by omega,by omega,by omega⟩))
    ·exact h4.elim
def t20(n:ay)(hl:n.aj.length<=9223372036854775807):aJ ap 41 [n.enc] (.bool (decide (fk n))):=by
 obtain⟨nt,nn,ns,aj⟩:=n;obtain⟨v,hv⟩:=aY (decide (fk ⟨nt,nn,ns,aj⟩));rw[hv];simp only at hl;have dB:fk ⟨nt,nn,ns,aj⟩↔J7 ⟨nt,nn,ns,aj⟩/\∀i,i<aj.length->nR ⟨nt,nn,ns,aj⟩ (aj.getD i default)/\kindOk ⟨nt,nn,ns,aj⟩ (aj.getD i default):=Iff.rfl;have cW:¬fk ⟨nt,nn,ns,aj⟩->v=false:=λh=>by rw[<-hv];simp[h]
 have aq:=J2;refine c20.ok (by simp) (aH ?_);simp[ay.enc];apply aa.ai aq fw [1];simp[ant];refine aa.lk (o:=[]) (l:=[(1,.v (.box [ti nt,ti nn,ti ns,.sl (aQ aj)]))]) (bn:=1200) (by simp) ?_;apply aa.seq;obtain⟨c1,bN⟩:=aY (decide (nt<0\/nt>120\/nn<1\/nn>1000\/ns<0\/ns>=nn\/(aj.length:Int)>600):Bool);refine aa.bL aq fw [(1,.v (.box [ti nt,ti nn,ti ns,.sl (aQ aj)])),(41,.v (.bool c1))] ?_ ?_
 ·by_cases q1:nt<0
  ·have:c1=true:=by rw[<-bN];simp[q1]
   simp[As,q1,this]
  ·skip
   by_cases q2:nt>120
   ·have:c1=true:=by rw[<-bN];simp[q2]
    simp[As,q1,q2,this]
   ·skip
    by_cases q3:nn<1
    ·have:c1=true:=by rw[<-bN];simp[q3]
     simp[As,q1,q2,q3,this]
    ·skip
     by_cases q4:nn>1000
     ·have:c1=true:=by rw[<-bN];simp[q4]
      simp[As,q1,q2,q3,q4,this]
     ·skip
      by_cases q5:ns<0
      ·have:c1=true:=by rw[<-bN];simp[q5]
       simp[As,q1,q2,q3,q4,q5,this]
      ·skip
       by_cases q6:ns>=nn
       ·have:c1=true:=by rw[<-bN];simp[q6]
        simp[As,q1,q2,q3,q4,q5,q6,this]
       ·skip
        by_cases q7:(aj.length:Int)>600
        ·have:c1=true:=by rw[<-bN];simp[q7]
         simp[As,q1,q2,q3,q4,q5,q6,q7,this]
        ·skip
         have:c1=false:=by rw[<-bN];simp[q1,q2,q3,q4,q5,q6,q7]
         simp[As,q1,q2,q3,q4,q5,q6,q7,this]
 refine aa.cond rfl (λh1=>?_) (λh1=>?_)
 ·rw[h1]at bN;have bN:=qg bN;apply aa.ai aq fw [2];simp[anu];apply aa.ret;rw[cW λh=>(dB.1 h).1 bN];simp[dI]
 ·rw[h1]at bN;have bN:=Br bN;apply aa.skip;simp;apply aa.sq aq fw [1,3];simp[anv];apply aa.block;refine aa.loop (λy:Nat=>⟨DM.look [(1,.v (.box [ti nt,ti nn,ti ns,.sl (aQ aj)])),(3,.v (ti y))],cR [],2000,1000,[]⟩)
   (λy=>y<=aj.length/\∀i,i<y->nR ⟨nt,nn,ns,aj⟩ (aj.getD i default)/\kindOk ⟨nt,nn,ns,aj⟩ (aj.getD i default)) (λy=>aj.length-y) 0 (Le.aL (o:=[]) ?_ ?_ ?_ ?_) (by simp) (λy hy=>?_)
  iterate 4(·simp)
  obtain⟨vy,fI⟩:=hy;apply aa.sq aq fw [1,3,46];simp[anw];refine aa.cond rfl (λaS=>?_) (λaS=>?_)
  ·have aS:y<aj.length:=by simpa using aS
   apply aa.skip;simp;apply aa.seq;apply aa.block;have rr:=fE aS;obtain⟨⟨rk,rh,ra,rb,rp,rg⟩,hr⟩:=aY (aj.getD y default);rw[hr]at rr;apply aa.ai aq fw [1,3,4];simp[anx,aS,rr,bC.enc];refine aa.lk (o:=[]) (l:=[(1,.v (.box [ti nt,ti nn,ti ns,.sl (aQ aj)])),(3,.v (ti y)),(4,.v (.box [ti rk,ti rh,ti ra,ti rb,ti rp,ti rg]))]) (bn:=2400) (by simp) ?_;apply aa.seq;obtain⟨c2,gD⟩:=aY (decide (rh<0\/rh>=nn\/rp<0\/rp>1000\/rg< -1):Bool);refine aa.bL aq fw [(1,.v (.box [ti nt,ti nn,ti ns,.sl (aQ aj)])),(3,.v (ti y)),(4,.v (.box [ti rk,ti rh,ti ra,ti rb,ti rp,ti rg])),(78,.v (.bool c2))] ?_ ?_
   ·by_cases q1:rh<0
    ·have:c2=true:=by rw[<-gD];simp[q1]
     simp[Fy,q1,this]
    ·skip
     by_cases q2:rh>=nn
     ·have:c2=true:=by rw[<-gD];simp[q2]
      simp[Fy,q1,q2,this]
     ·skip
      by_cases q3:rp<0
      ·have:c2=true:=by rw[<-gD];simp[q3]
       simp[Fy,q1,q2,q3,this]
      ·skip
       by_cases q4:rp>1000
       ·have:c2=true:=by rw[<-gD];simp[q4]
        simp[Fy,q1,q2,q3,q4,this]
       ·skip
        by_cases q5:rg< -1
        ·have:c2=true:=by rw[<-gD];simp[q5]
         simp[Fy,q1,q2,q3,q4,q5,this]
        ·skip
         have:c2=false:=by rw[<-gD];simp[q1,q2,q3,q4,q5]
         simp[Fy,q1,q2,q3,q4,q5,this]
   refine aa.cond rfl (λh2=>?_) (λh2=>?_)
   ·rw[h2]at gD;have gD:=qg gD;apply aa.ai aq fw [2];simp[anz];apply aa.ret;rw[cW λh=>((dB.1 h).2 y aS).1 (by rw[hr];exact gD)];simp[dI]
   ·rw[h2]at gD;have gD:nR ⟨nt,nn,ns,aj⟩ ⟨rk,rh,ra,rb,rp,rg⟩:=Br gD;apply aa.skip;simp;obtain⟨k1,mr⟩:=aY (decide (kindOk ⟨nt,nn,ns,aj⟩ ⟨rk,rh,ra,rb,rp,rg⟩):Bool);have Fh:=mr;have mr:k1=true↔kindOk ⟨nt,nn,ns,aj⟩ ⟨rk,rh,ra,rb,rp,rg⟩:=by rw[<-Fh,decide_eq_true_iff]
    simp only[kindOk]at mr;apply aa.ai aq fw [1,3,4,5];simp[anA];apply aa.sq aq fw [1,3,4,5,80];simp[anB];apply aa.block;apply aa.ai aq fw [1,3,4,5,80,81];simp[agn];refine aa.cond rfl (λg1=>?_) (λg1=>?_)
    ·have g1:rk=1:=by simpa using g1
     rw[cM g1]at mr;have sI:decide (ra=0/\rb=0)=k1:=by cases k1<;>simp at mr⊢<;>first|exact mr|omega
     refine aa.qV aq fw [(1,.v (.box [ti nt,ti nn,ti ns,.sl (aQ aj)])),(3,.v (ti y)),(5,.v (.bool k1))] ?_ ?_
     ·by_cases q1:ra=0
      ·skip
       by_cases q2:rb=0
       ·skip
        have:k1=true:=by rw[<-sI];simp[q1,q2]
        simp[MO,q1,q2,this]
       ·have:k1=false:=by rw[<-sI];simp[q2]
        simp[MO,q1,q2,this]
      ·have:k1=false:=by rw[<-sI];simp[q1]
       simp[MO,q1,this]
     apply aa.ai aq fw [1,3,150];simp[C5];refine aa.cond rfl (λh5=>?_) (λh5=>?_)
     ·skip
      apply aa.ai aq fw [2];simp[C6];apply aa.ret;rw[cW λh=>by
       have h6:=((dB.1 h).2 y aS).2;rw[hr]at h6;rw[decide_eq_true h6]at Fh
       simp_all]
      simp[dI]
     ·skip
      apply aa.skip;simp;have mr:kindOk ⟨nt,nn,ns,aj⟩ ⟨rk,rh,ra,rb,rp,rg⟩:=qg (by rw[Fh];simp_all);apply aa.cZ aq fw [1,3];simp[C7];rw[av (x:=(y:Int)+1) (by omega)];refine⟨y+1,Le.aL (o:=[]) ?_ ?_ ?_ ?_,⟨by omega,λi hi=>?_⟩,by omega⟩;iterate 4(·simp)
      ·by_cases e:i=y
       ·subst e;show nR _ (aj.getD i default)/\kindOk _ (aj.getD i default);rw[hr];exact⟨gD,mr⟩
       ·exact fI i (by omega)
    ·have g1:¬rk=1:=by simpa using g1
     rw[bX g1]at mr;apply aa.ai aq fw [1,3,4,5,80,91];simp[ago];refine aa.cond rfl (λg2=>?_) (λg2=>?_)
     ·have g2:rk=2:=by simpa using g2
      rw[cM g2]at mr;have sI:decide (ra>=0/\ra<nt/\rb=0)=k1:=by cases k1<;>simp at mr⊢<;>first|exact mr|omega
      refine aa.qV aq fw [(1,.v (.box [ti nt,ti nn,ti ns,.sl (aQ aj)])),(3,.v (ti y)),(5,.v (.bool k1))] ?_ ?_
      ·by_cases q1:ra>=0
       ·skip
        by_cases q2:ra<nt
        ·skip
         by_cases q3:rb=0
         ·skip
          have:k1=true:=by rw[<-sI];simp[q1,q2,q3]
          simp[Hh,q1,q2,q3,this]
         ·have:k1=false:=by rw[<-sI];simp[q3]
          simp[Hh,q1,q2,q3,this]
        ·have:k1=false:=by rw[<-sI];simp[q2]
         simp[Hh,q1,q2,this]
       ·have:k1=false:=by rw[<-sI];simp[q1]
        simp[Hh,q1,this]
      apply aa.ai aq fw [1,3,150];simp[C5];refine aa.cond rfl (λh5=>?_) (λh5=>?_)
      ·skip
       apply aa.ai aq fw [2];simp[C6];apply aa.ret;rw[cW λh=>by
        have h6:=((dB.1 h).2 y aS).2;rw[hr]at h6;rw[decide_eq_true h6]at Fh
        simp_all]
       simp[dI]
      ·skip
       apply aa.skip;simp;have mr:kindOk ⟨nt,nn,ns,aj⟩ ⟨rk,rh,ra,rb,rp,rg⟩:=qg (by rw[Fh];simp_all);apply aa.cZ aq fw [1,3];simp[C7];rw[av (x:=(y:Int)+1) (by omega)];refine⟨y+1,Le.aL (o:=[]) ?_ ?_ ?_ ?_,⟨by omega,λi hi=>?_⟩,by omega⟩;iterate 4(·simp)
       ·by_cases e:i=y
        ·subst e;show nR _ (aj.getD i default)/\kindOk _ (aj.getD i default);rw[hr];exact⟨gD,mr⟩
        ·exact fI i (by omega)
     ·have g2:¬rk=2:=by simpa using g2
      rw[bX g2]at mr;apply aa.ai aq fw [1,3,4,5,80,108];simp[agp];refine aa.cond rfl (λg3=>?_) (λg3=>?_)
      ·have g3:rk=3:=by simpa using g3
       rw[cM g3]at mr;have sI:decide (ra>=0/\ra<nn/\rb=0)=k1:=by cases k1<;>simp at mr⊢<;>first|exact mr|omega
       refine aa.qV aq fw [(1,.v (.box [ti nt,ti nn,ti ns,.sl (aQ aj)])),(3,.v (ti y)),(5,.v (.bool k1))] ?_ ?_
       ·by_cases q1:ra>=0
        ·skip
         by_cases q2:ra<nn
         ·skip
          by_cases q3:rb=0
          ·skip
           have:k1=true:=by rw[<-sI];simp[q1,q2,q3]
           simp[Hi,q1,q2,q3,this]
          ·have:k1=false:=by rw[<-sI];simp[q3]
           simp[Hi,q1,q2,q3,this]
         ·have:k1=false:=by rw[<-sI];simp[q2]
          simp[Hi,q1,q2,this]
        ·have:k1=false:=by rw[<-sI];simp[q1]
         simp[Hi,q1,this]
       apply aa.ai aq fw [1,3,150];simp[C5];refine aa.cond rfl (λh5=>?_) (λh5=>?_)
       ·skip
        apply aa.ai aq fw [2];simp[C6];apply aa.ret;rw[cW λh=>by
         have h6:=((dB.1 h).2 y aS).2;rw[hr]at h6;rw[decide_eq_true h6]at Fh
         simp_all]
        simp[dI]
       ·skip
        apply aa.skip;simp;have mr:kindOk ⟨nt,nn,ns,aj⟩ ⟨rk,rh,ra,rb,rp,rg⟩:=qg (by rw[Fh];simp_all);apply aa.cZ aq fw [1,3];simp[C7];rw[av (x:=(y:Int)+1) (by omega)];refine⟨y+1,Le.aL (o:=[]) ?_ ?_ ?_ ?_,⟨by omega,λi hi=>?_⟩,by omega⟩;iterate 4(·simp)
        ·by_cases e:i=y
         ·subst e;show nR _ (aj.getD i default)/\kindOk _ (aj.getD i default);rw[hr];exact⟨gD,mr⟩
         ·exact fI i (by omega)
      ·have g3:¬rk=3:=by simpa using g3
       rw[bX g3]at mr;apply aa.ai aq fw [1,3,4,5,125];simp[agq];refine aa.cond rfl (λg4=>?_) (λg4=>?_)
       ·have g4:rk=4:=by simpa using g4
        rw[cM g4]at mr;have sI:decide (ra>=0/\ra<nn/\rb>=0/\rb<nn)=k1:=by cases k1<;>simp at mr⊢<;>first|exact mr|omega
        refine aa.qV aq fw [(1,.v (.box [ti nt,ti nn,ti ns,.sl (aQ aj)])),(3,.v (ti y)),(5,.v (.bool k1))] ?_ ?_
        ·by_cases q1:ra>=0
         ·skip
          by_cases q2:ra<nn
          ·skip
           by_cases q3:rb>=0
           ·skip
            by_cases q4:rb<nn
            ·skip
             have:k1=true:=by rw[<-sI];simp[q1,q2,q3,q4]
             simp[C4,q1,q2,q3,q4,this]
            ·have:k1=false:=by rw[<-sI];simp[q4]
             simp[C4,q1,q2,q3,q4,this]
           ·have:k1=false:=by rw[<-sI];simp[q3]
            simp[C4,q1,q2,q3,this]
          ·have:k1=false:=by rw[<-sI];simp[q2]
           simp[C4,q1,q2,this]
         ·have:k1=false:=by rw[<-sI];simp[q1]
          simp[C4,q1,this]
        apply aa.ai aq fw [1,3,150];simp[C5];refine aa.cond rfl (λh5=>?_) (λh5=>?_)
        ·skip
         apply aa.ai aq fw [2];simp[C6];apply aa.ret;rw[cW λh=>by
          have h6:=((dB.1 h).2 y aS).2;rw[hr]at h6;rw[decide_eq_true h6]at Fh
          simp_all]
         simp[dI]
        ·skip
         apply aa.skip;simp;have mr:kindOk ⟨nt,nn,ns,aj⟩ ⟨rk,rh,ra,rb,rp,rg⟩:=qg (by rw[Fh];simp_all);apply aa.cZ aq fw [1,3];simp[C7];rw[av (x:=(y:Int)+1) (by omega)];refine⟨y+1,Le.aL (o:=[]) ?_ ?_ ?_ ?_,⟨by omega,λi hi=>?_⟩,by omega⟩;iterate 4(·simp)
         ·by_cases e:i=y
          ·subst e;show nR _ (aj.getD i default)/\kindOk _ (aj.getD i default);rw[hr];exact⟨gD,mr⟩
          ·exact fI i (by omega)
       ·have g4:¬rk=4:=by simpa using g4
        rw[bX g4]at mr;have sI:k1=false:=by cases k1<;>simp at mr⊢
        rw[sI]at Fh;apply aa.skip;simp;apply aa.ai aq fw [1,3,150];simp[C5];refine aa.cond rfl (λh5=>?_) (λh5=>?_)
        ·skip
         apply aa.ai aq fw [2];simp[C6];apply aa.ret;rw[cW λh=>by
          have h6:=((dB.1 h).2 y aS).2;rw[hr]at h6;rw[decide_eq_true h6]at Fh
          simp_all]
         simp[dI]
        ·skip
         apply aa.skip;simp;have mr:kindOk ⟨nt,nn,ns,aj⟩ ⟨rk,rh,ra,rb,rp,rg⟩:=qg (by rw[Fh];simp_all);apply aa.cZ aq fw [1,3];simp[C7];rw[av (x:=(y:Int)+1) (by omega)];refine⟨y+1,Le.aL (o:=[]) ?_ ?_ ?_ ?_,⟨by omega,λi hi=>?_⟩,by omega⟩;iterate 4(·simp)
         ·by_cases e:i=y
          ·subst e;show nR _ (aj.getD i default)/\kindOk _ (aj.getD i default);rw[hr];exact⟨gD,mr⟩
          ·exact fI i (by omega)
  ·have El:y=aj.length:=by simp at aS;omega
   subst El;apply aa.exit;simp;apply aa.ai aq fw [2];simp[agr];apply aa.ret;have:v=true:=by rw[<-hv];exact decide_eq_true (dB.2 ⟨bN,fI⟩)
   rw[this];simp[dI]
structure eD where
 head:Int
 bY:ba
 (aA l0 l1:Int)
 deriving DecidableEq,Inhabited
def eD.enc(e:eD):aG:=[ti e.head,.sl (au e.bY),ti e.aA,ti e.l0,ti e.l1]
def bV(l:List eD):List (aG):=l.map eD.enc
def Wd:aG->eD
 |[a,.sl b,c,d,e]=>⟨dg a,eM b,dg c,dg d,dg e⟩
 |_=>default
def Dl(l:List (aG)):List eD:=l.map Wd
@[simp] def Su(r:eD):Wd r.enc=r:=by simp[Wd,eD.enc,dg]
@[simp] def agO(l:List eD):Dl (bV l)=l:=ja Su l
@[simp] def aep(l:List eD):(bV l).length=l.length:=by simp[bV]
@[simp] def aeq{a b:List eD}:bV a=bV b↔a=b:=⟨λh=>by have:=congrArg Dl h;simpa using this,λh=>by rw[h]⟩
def oj{l:List eD}{y:Nat}(h:y<l.length):DM.rowAt (bV l) y=(l.getD y default).enc:=by simp[DM.rowAt,bV,h]
def mh(r:bC):ba:=if r.kind=3 then [r.a]else if r.kind=4 then [r.a,r.b]else []
def t93(r:bC):aJ ap 186 [.agg r.enc] (.sl (au (mh r))):=by
 obtain⟨rk,rh,ra,rb,rp,rg⟩:=r;obtain⟨R,hR⟩:=aY (mh ⟨rk,rh,ra,rb,rp,rg⟩);rw[hR];simp only[mh]at hR;have aq:=J2;refine c93.ok (by simp) (aH ?_);simp[bC.enc];apply aa.ai aq fw [1];simp[am4];refine aa.lk (o:=[]) (l:=[(1,.v (.box [ti rk,ti rh,ti ra,ti rb,ti rp,ti rg]))]) (bn:=1200) (by simp) ?_;apply aa.sq aq fw [1,4];simp[am5];apply aa.block;apply aa.ai aq fw [1,4,5];simp[am6];refine aa.cond rfl (λh1=>?_) (λh1=>?_)
 ·have h1:rk=3:=by simpa using h1
  rw[cM h1]at hR;subst hR;apply aa.ai aq fw [2];simp[am7,di];apply aa.ret;simp[dI,au]
 ·have h1:¬rk=3:=by simpa using h1
  rw[bX h1]at hR;apply aa.ai aq fw [1,10];simp[am8];refine aa.cond rfl (λh2=>?_) (λh2=>?_)
  ·have h2:rk=4:=by simpa using h2
   rw[cM h2]at hR;subst hR;apply aa.ai aq fw [2];simp[am9,di];apply aa.ret;simp[dI,au]
  ·have h2:¬rk=4:=by simpa using h2
   rw[bX h2]at hR;subst hR;apply aa.skip;simp;apply aa.ai aq fw [2];simp[ana];apply aa.ret;simp[dI,au]
def cJ(v:List cX)(ts:ba):List cX:=ts.map λt=>v.getD t.toNat default
def t91(e:eD)(v:List cX)(h:∀t∈e.bY,0<=t/\t<v.length)(hl:e.bY.length<=1000000):oS ap 128 [.agg e.enc,.sl (cU v)] 64 2 (cU (cJ v e.bY)):=by
 obtain⟨eh,ts,ec,e0,e1⟩:=e;simp only at h hl;have aq:=J2;refine c91.Hc (by simp) (aH ?_);simp[eD.enc];apply aa.ai aq fw [1,2];simp[amN];refine aa.lk (o:=[]) (l:=[(1,.v (.sl (cU v))),(2,.v (.box [ti eh,.sl (au ts),ti ec,ti e0,ti e1]))]) (bn:=1200) (by simp) ?_;apply aa.ai aq fw [1,2,5];simp[amO];refine aa.lk (o:=[]) (l:=[(1,.v (.sl (cU v))),(2,.v (.box [ti eh,.sl (au ts),ti ec,ti e0,ti e1])),(5,.aZ)]) (bn:=1400) (by simp) ?_;refine aa.le (Le.j7 (k:=5) 64 (sz:=2) (by omega) (by simp)) ?_;rw[fb];apply aa.sq aq fw [1,2,5,6];simp[amP];apply aa.block;refine aa.loop (λy:Nat=>⟨DM.look [(1,.v (.sl (cU v))),(2,.v (.box [ti eh,.sl (au ts),ti ec,ti e0,ti e1])),(5,.aW 1400 0),(6,.v (ti y))],cR [(1400,.bm 0 64 2 (cU (cJ v (ts.take y))))],1600,1000,[]⟩)
  (λy=>y<=ts.length) (λy=>ts.length-y) 0 (Le.aL ?_ ?_ ?_ ?_) (by simp) (λy hy=>?_)
 ·simp
 ·simp
 ·simp[cJ]
 ·simp
 apply aa.sq aq fw [1,2,5,6,11];simp[amQ];refine aa.cond rfl (λaS=>?_) (λaS=>?_)
 ·have aS:y<ts.length:=by simpa using aS
  apply aa.skip;simp;apply aa.seq;apply aa.block;have rt:=bA aS;obtain⟨t,ht⟩:=aY (ts.getD y default);rw[ht]at rt;obtain⟨q1,q2⟩:=h t (by rw[<-ht];exact bu aS);obtain⟨t,rfl⟩:=jE q1;have q2:t<v.length:=by omega
  have rv:=jU q2;obtain⟨w,hw⟩:=aY (v.getD t default);rw[hw]at rv;have hS:cU (cJ v (ts.take (y+1)))=cU (cJ v (ts.take y))++[[ti w.aA,ti w.size]]:=by
   rw[dH aS,ht];simp only[cJ,Ic,oK,MK,gJ,hw,cU]
  have hTl:(cJ v (ts.take y)).length<=1000000:=by simp[cJ];omega
  apply aa.cZ aq fw [1,2,5,6];simp[amR,aS,rt,q2,rv,cw,di];repeat (refine⟨by omega, ?_⟩)
  apply aa.cZ aq fw [1,2,5,6];simp[amS];rw[av (x:=(y:Int)+1) (by omega)];refine⟨y+1,Le.aL ?_ ?_ ?_ ?_,by omega,by omega⟩
  ·simp
  ·simp
  ·simp[hS]
  ·simp
 ·have fI:y=ts.length:=by simp at aS;omega
  subst fI;rw[TZ];apply aa.exit;simp;apply aa.ai aq fw [4];simp[amT];apply aa.ret;exact .inr ⟨1400,0,by simp,by simp⟩
def Ht(dm:ba)(i:Nat):Prop:=¬(dm.getD i default<1\/dm.getD i default>60000)
instance(dm:ba)(i:Nat):Decidable (Ht dm i):=by unfold Ht;infer_instance
def gz(n:ay)(dm:ba):Prop:=(dm.length:Int)=n.aX/\∀i,i<dm.length->Ht dm i
instance(n:ay)(dm:ba):Decidable (gz n dm):=by unfold gz;infer_instance
def t44(n:ay)(dm:ba)(hl:dm.length<=9223372036854775807):aJ ap 98 [n.enc,.sl (au dm)] (.bool (decide (gz n dm))):=by
 obtain⟨nt,nn,ns,aj⟩:=n;obtain⟨v,hv⟩:=aY (decide (gz ⟨nt,nn,ns,aj⟩ dm));rw[hv];have dB:gz ⟨nt,nn,ns,aj⟩ dm↔(dm.length:Int)=nt/\∀i,i<dm.length->Ht dm i:=Iff.rfl;have cW:¬gz ⟨nt,nn,ns,aj⟩ dm->v=false:=λh=>by rw[<-hv];simp[h]
 have aq:=J2;refine c44.ok (by simp) (aH ?_);simp[ay.enc];apply aa.ai aq fw [1,2];simp[IL];refine aa.lk (o:=[]) (l:=[(1,.v (.sl (au dm))),(2,.v (.box [ti nt,ti nn,ti ns,.sl (aQ aj)]))]) (bn:=1200) (by simp) ?_;apply aa.sq aq fw [1,10];simp[IN];refine aa.cond rfl (λh1=>?_) (λh1=>?_)
 ·have h1:¬(dm.length:Int)=nt:=by simpa using h1
  apply aa.ai aq fw [4];simp[VH];apply aa.ret;rw[cW λh=>h1 (dB.1 h).1];simp[mN]
 ·have h1:(dm.length:Int)=nt:=by simpa using h1
  apply aa.skip;simp;apply aa.sq aq fw [1,5];simp[IP];apply aa.block;refine aa.loop (λy:Nat=>⟨DM.look [(1,.v (.sl (au dm))),(5,.v (ti y))],cR [],2000,1000,[]⟩)
   (λy=>y<=dm.length/\∀i,i<y->Ht dm i) (λy=>dm.length-y) 0 (Le.aL (o:=[]) ?_ ?_ ?_ ?_) (by simp) (λy hy=>?_)
  iterate 4(·simp)
  obtain⟨vy,fI⟩:=hy;apply aa.sq aq fw [1,5,14];simp[IQ];refine aa.cond rfl (λaS=>?_) (λaS=>?_)
  ·have aS:y<dm.length:=by simpa using aS
   apply aa.skip;simp;apply aa.seq;apply aa.block;have rr:=bA aS;obtain⟨x,hx⟩:=aY (dm.getD y default);rw[hx]at rr;obtain⟨c2,gD⟩:=aY (decide (x<1\/x>60000):Bool);refine aa.bL aq fw [(1,.v (.sl (au dm))),(5,.v (ti y)),(28,.v (.bool c2))] ?_ ?_
   ·by_cases q1:x<1
    ·have:c2=true:=by rw[<-gD];simp[q1]
     simp[BO,q1,this,aS,rr]
    ·skip
     by_cases q2:x>60000
     ·have:c2=true:=by rw[<-gD];simp[q2]
      simp[BO,q1,q2,this,aS,rr]
     ·skip
      have:c2=false:=by rw[<-gD];simp[q1,q2]
      simp[BO,q1,q2,this,aS,rr]
   refine aa.cond rfl (λh2=>?_) (λh2=>?_)
   ·rw[h2]at gD;have gD:=qg gD;apply aa.ai aq fw [4];simp[IR];apply aa.ret;rw[cW λh=>by have:=(dB.1 h).2 y aS;unfold Ht at this;rw[hx]at this;exact this gD];simp[mN]
   ·rw[h2]at gD;have gD:=Br gD;apply aa.skip;simp;apply aa.cZ aq fw [1,5];simp[IS];rw[av (x:=(y:Int)+1) (by omega)];refine⟨y+1,Le.aL (o:=[]) ?_ ?_ ?_ ?_,⟨by omega,λi hi=>?_⟩,by omega⟩;iterate 4(·simp)
    ·by_cases e:i=y
     ·subst e;unfold Ht;rw[hx];exact gD
     ·exact fI i (by omega)
  ·have El:y=dm.length:=by simp at aS;omega
   subst El;apply aa.exit;simp;apply aa.ai aq fw [4];simp[BP];apply aa.ret;have:v=true:=by rw[<-hv];exact decide_eq_true (dB.2 ⟨h1,fI⟩)
   rw[this];simp[mN]
def lz(dm:ba)(r:bC):eD:=⟨r.head,mh r,if r.kind=2 then r.bi+dm.getD r.a.toNat default else r.bi,0,0⟩
def wE(n:ay)(dm:ba):List eD:=n.aj.map (lz dm)
abbrev s93:DM.Spec:=bp (λts=>∃a b c d e f,ts=[.agg [ti a,ti b,ti c,ti d,ti e,ti f]]) (fun|[.agg r]=>.sl (au (mh (i9 r)))|_=>.bool false) false
def aux:aw ap (bz [(186,s93)]):=by
 refine aw.cons aw.nil ?_;rintro ts ⟨a,b,c,d,e,f,rfl⟩;exact⟨by simpa [bC.enc,i9,dg]using t93 ⟨a,b,c,d,e,f⟩,λh=>by cases h⟩
def M6(r:bC):(mh r).length<=2:=by unfold mh;split<;>(try split)<;>simp
def t67(n:ay)(dm:ba)(hn:qf n)(hp:gz n dm):aJ ap 142 [n.enc,.sl (au dm)] (.agg [ti n.ae,.sl (bV (wE n dm))]):=by
 obtain⟨nt,nn,ns,aj⟩:=n;obtain⟨n1,n2,n3,n4⟩:=hn;obtain⟨p1,p2⟩:=hp;simp only[wE]at n1 n2 n3 n4 p1 p2⊢;have aq:=aux;refine c67.ok (by simp) (aH ?_);simp[ay.enc];apply aa.ai aq fw [1,2,4];simp[anb];refine aa.lk (o:=[(1005,.box [.v (ti 0),.aZ])]) (l:=[(1,.v (.sl (au dm))),(2,.v (.box [ti nt,ti nn,ti ns,.sl (aQ aj)])),(4,.ptr 1005 0)]) (bn:=1200) (by simp) ?_;apply aa.ai aq fw [1,2,4,5];simp[anc];refine aa.lk (o:=[(1005,.box [.v (ti 0),.aZ])]) (l:=[(1,.v (.sl (au dm))),(2,.v (.box [ti nt,ti nn,ti ns,.sl (aQ aj)])),(4,.ptr 1005 0),(5,.aZ)]) (bn:=1400) (by simp) ?_;refine aa.le (Le.j7 (k:=5) 125 (sz:=5) (by omega) (by simp)) ?_;rw[fb];apply aa.sq aq fw [1,2,4,5,6];simp[ane];apply aa.block;refine aa.loop (λy:Nat=>⟨DM.look [(1,.v (.sl (au dm))),(2,.v (.box [ti nt,ti nn,ti ns,.sl (aQ aj)])),(4,.ptr 1005 0),(5,.aW 1400 0),(6,.v (ti y))],cR [(1005,.box [.v (ti 0),.aZ]),(1400,.bm 0 125 5 (bV ((aj.take y).map (lz dm))))],1600,1000,[]⟩)
  (λy=>y<=aj.length) (λy=>aj.length-y) 0 (Le.aL ?_ ?_ ?_ ?_) (by simp) (λy hy=>?_)
 ·simp
 ·simp
 ·simp[bV]
 ·simp
 apply aa.sq aq fw [1,2,4,5,6,13];simp[anf];refine aa.cond rfl (λaS=>?_) (λaS=>?_)
 ·have aS:y<aj.length:=by simpa using aS
  apply aa.skip;simp;apply aa.seq;apply aa.block;have rr:=fE aS;obtain⟨⟨rk,rh,ra,rb,rp,rg⟩,hr⟩:=aY (aj.getD y default);rw[hr]at rr;have th:=n4 ⟨rk,rh,ra,rb,rp,rg⟩ (by rw[<-hr];exact bu aS);obtain⟨q1,q2,q3,q4,q5⟩:=th;simp only at q1 q2 q3 q4 q5;apply aa.ai aq fw [1,2,4,5,6,7];simp[ang,aS,rr,bC.enc];refine aa.lk (o:=[(1005,.box [.v (ti 0),.aZ]),(1400,.bm 0 125 5 (bV ((aj.take y).map (lz dm))))]) (l:=[(1,.v (.sl (au dm))),(2,.v (.box [ti nt,ti nn,ti ns,.sl (aQ aj)])),(4,.ptr 1005 0),(5,.aW 1400 0),(6,.v (ti y)),(7,.v (.box [ti rk,ti rh,ti ra,ti rb,ti rp,ti rg]))]) (bn:=2400) (by simp) ?_;apply aa.ai aq fw [1,2,4,5,6,7,8];simp[anh];apply aa.sq aq fw [1,2,4,5,6,7,8,25];simp[ani];refine aa.cond rfl (λh6=>?_) (λh6=>?_)
  ·have h6:rk=2:=by simpa using h6
   have sD:0<=ra/\ra<dm.length:=by omega
   obtain⟨a,rfl⟩:=jE sD.1;have mE:a<dm.length:=by omega
   have ri:=bA mE;have Z6:=p2 a mE;unfold Ht at Z6;obtain⟨x,hx⟩:=aY (dm.getD a default);rw[hx]at ri Z6;have hE:lz dm ⟨rk,rh,a,rb,rp,rg⟩=⟨rh,mh ⟨rk,rh,a,rb,rp,rg⟩,rp+x,0,0⟩:=by unfold lz;simp only[cM h6,gJ,hx]
   apply aa.cZ aq fw [1,2,4,5,6,7,8];simp[anj,mE,ri,av (x:=rp+x) (by omega)];apply aa.cZ aq fw [1,2,4,5,6];simp[aej,i9,dg,di,cw];repeat (refine⟨by omega, ?_⟩)
   have hS:∀ec,lz dm (aj.getD y default)=⟨rh,mh (aj.getD y default),ec,0,0⟩->bV ((aj.map (lz dm)).take (y+1))=bV ((aj.map (lz dm)).take y)++[[ti rh,.sl (au (mh (aj.getD y default))),ti ec,ti 0,ti 0]]:=by
    intro ec h;rw[<-List.map_take,dH aS,Ic,bV,Ic,Zdo];simp only[oK,MK,h,eD.enc,bV]
   rw[hr]at hS;have hS:=hS _ hE;apply aa.cZ aq fw [1,2,4,5,6];simp[aek];rw[av (x:=(y:Int)+1) (by omega)];refine⟨y+1,Le.aL ?_ ?_ ?_ ?_,by omega,by omega⟩
   ·simp
   ·simp
   ·simp[hS]
   ·simp
  ·have h6:¬rk=2:=by simpa using h6
   have hE:lz dm ⟨rk,rh,ra,rb,rp,rg⟩=⟨rh,mh ⟨rk,rh,ra,rb,rp,rg⟩,rp,0,0⟩:=by unfold lz;simp only[bX h6]
   apply aa.skip;simp;apply aa.cZ aq fw [1,2,4,5,6];simp[aej,i9,dg,di,cw];repeat (refine⟨by omega, ?_⟩)
   have hS:∀ec,lz dm (aj.getD y default)=⟨rh,mh (aj.getD y default),ec,0,0⟩->bV ((aj.map (lz dm)).take (y+1))=bV ((aj.map (lz dm)).take y)++[[ti rh,.sl (au (mh (aj.getD y default))),ti ec,ti 0,ti 0]]:=by
    intro ec h;rw[<-List.map_take,dH aS,Ic,bV,Ic,Zdo];simp only[oK,MK,h,eD.enc,bV]
   rw[hr]at hS;have hS:=hS _ hE;apply aa.cZ aq fw [1,2,4,5,6];simp[aek];rw[av (x:=(y:Int)+1) (by omega)];refine⟨y+1,Le.aL ?_ ?_ ?_ ?_,by omega,by omega⟩
   ·simp
   ·simp
   ·simp[hS]
   ·simp
 ·have fI:y=aj.length:=by simp at aS;omega
  subst fI;rw[show(aj.map (lz dm)).take aj.length=aj.map (lz dm)from Zb0 (by simp)];apply aa.exit;simp;apply aa.ai aq fw [4];simp[agm];apply aa.ret;simp[VG]
section
variable{own:List Cell}{fr to h:Nat}
def nQ(x:Cell):Prop:=mG x.val/\-1<=x.lb/\x.lb<=600/\0<=x.arg/\x.arg<=10000000000
def FE(x:Cell):Nat:=((x.aA.toNat*2199023255552+x.size.toNat)*1024+(x.lb+1).toNat)*17179869184+x.arg.toNat
def goes(x y:Cell):Prop:=nQ y/\(y=x\/FE y<FE x)
def lu{x:Cell}{v:cX}{r g:Int}(hx:nQ x)(hv:mG v)(h1:0<=r)(h2:r<=600)(h3:0<=g)(h4:g<=10000000000):goes x (eZ x v r g):=by
 obtain⟨xc,xs,xr,xg⟩:=x;obtain⟨vc,vs⟩:=v;obtain⟨⟨a1,a2,a3,a4⟩,a5,a6,a7,a8⟩:=hx;obtain⟨b1,b2,b3,b4⟩:=hv;simp only[]at a1 a2 a3 a4 a5 a6 a7 a8 b1 b2 b3 b4;unfold eZ;split
 ·exact⟨⟨⟨a1,a2,a3,a4⟩,a5,a6,a7,a8⟩,.inl rfl⟩
 ·split
  ·rename_i h;refine⟨⟨⟨b1,b2,b3,b4⟩,by simp only;omega,by simp only;omega,by simp only;omega,by simp only;omega⟩,.inr ?_⟩;simp only[cX.lt,Cell.val,cX.mk.injEq]at h;simp only[FE];omega
  ·exact⟨⟨⟨a1,a2,a3,a4⟩,a5,a6,a7,a8⟩,.inl rfl⟩
def uW{x:Cell}(h:nQ x):goes x x:=⟨h,.inl rfl⟩
def M1{x y z:Cell}(h:goes x y)(k:goes y z):goes x z:=by
 refine⟨k.1, ?_⟩;rcases h.2 with rfl|h2
 ·exact k.2
 ·rcases k.2 with rfl|k2
  ·exact .inr h2
  ·exact .inr (by omega)
def za{f:Cell->Nat->Cell}{N:Nat}(hf:∀x k,k<N->nQ x->goes x (f x k))(x:Cell)(hx:nQ x):goes x ((List.range N).foldl f x):=by
 induction N with
 |zero=>exact uW hx
 |succ N ih=>
  rw[tp,Ec];have h1:=ih λx k hk=>hf x k (by omega);exact M1 h1 (hf _ N (by omega) h1.1)
def Hp{n:ay}{l:aF}{c:bI}{i:Nat}(hn:qf n)(hl:wB l)(hc:JT c)(ho:Pm n own)(hi:i<n.aj.length)(yF:fr<=to)(nJ:to<=1000)
  (hx:nQ (own.getD (n.aj.getD i default).head.toNat default)):goes (own.getD (n.aj.getD i default).head.toNat default) (fD n l c own fr to i):=by
 unfold fD;obtain⟨r,hr⟩:=aY (n.aj.getD i default);have th:me n r:=hn.2.2.2 r (by rw[<-hr];exact bu hi);rw[hr]at hx⊢;obtain⟨x,nK⟩:=aY (own.getD r.head.toNat default);rw[nK]at hx⊢;obtain⟨q1,q2,q3,q4,q5⟩:=th;have hi2:=hn.2.2.1;have hvp:∀h f t:Int,0<=h->h<n.ae->mG (dv c own fr to h f t):=λh f t h1 h2=>qB ⟨hc,by have:=ho.1;have:=hn.2.1;omega,λ_=>⟨h1,by have:=ho.1;omega⟩⟩ ho.2;unfold nB;split
 ·split
  ·exact lu hx (iv x9 q3 (by omega)) (by omega) (by omega) (by omega) (by omega)
  ·exact uW hx
 ·split
  ·refine za (λx k hk hx=>?_) x hx;unfold stepT;split
   ·have:=hl.2.2.2 (l.aK.getD k default) (bu hk);have:=hl.2.2.1;exact lu hx (iv x9 (by omega) (by omega)) (by omega) (by omega) (by omega) (by omega)
   ·exact uW hx
  ·split
   ·refine lu hx (iv (λv hv=>?_) q3 (by omega)) (by omega) (by omega) (by omega) (by omega);simp only[gN]at hv;subst hv;exact hvp _ _ _ (by omega) (by omega)
   ·refine za (λx k hk hx=>?_) x hx;unfold jh;refine lu hx (iv (λv hv=>?_) q3 (by omega)) (by omega) (by omega) (by omega) (by omega);simp only[nH,Zb4,Zc0]at hv;rcases hv with rfl|rfl<;>exact hvp _ _ _ (by omega) (by omega)
def lw(own:List Cell):Nat:=(own.map FE).sum
def St{y:Cell}(hh:h<own.length)(hy:FE y<FE (own.getD h default)):lw (own.set h y)<lw own:=by
 induction own generalizing h with
 |nil=>simp at hh
 |cons x own ih=>
  cases h with
  |zero=>simp[lw]at hy⊢;omega
  |succ h=>
   have:=ih (h:=h) (by simpa using hh) (by simpa using hy);simp[lw]at this⊢;omega
def qC(n:ay)(l:aF)(c:bI)(fr to:Int)(own:List Cell)(k:Nat):List Cell:=own.set (n.aj.getD k default).head.toNat (fD n l c own fr to k)
def nC(n:ay)(own:List Cell):Prop:=(own.length:Int)=n.ae/\∀x∈own,nQ x
def nC.ok{n:ay}(h:nC n own):Pm n own:=⟨h.1,λx hx=>(h.2 x hx).1⟩
def Db{n:ay}{l:aF}{c:bI}{k:Nat}(hn:qf n)(hl:wB l)(hc:JT c)(ho:nC n own)(hk:k<n.aj.length)(yF:fr<=to)(nJ:to<=1000):
  nC n (qC n l c fr to own k)/\(fD n l c own fr to k≠own.getD (n.aj.getD k default).head.toNat default->lw (qC n l c fr to own k)<lw own):=by
 have th:=hn.2.2.2 (n.aj.getD k default) (bu hk);have hh:(n.aj.getD k default).head.toNat<own.length:=by have:=ho.1;have:=th.1;have:=th.2.1;omega
 have hg:=Hp hn hl hc ho.ok hk yF nJ (ho.2 _ (bu hh));refine⟨⟨by simpa [qC]using ho.1,λx hx=>?_⟩,λdd=>?_⟩
 ·rcases Zcp hx with h|rfl
  ·exact ho.2 x h
  ·exact hg.1
 ·rcases hg.2 with h|h
  ·exact eX h dd
  ·exact St hh h
def Sl(n:ay)(l:aF)(c:bI)(fr to:Int)(own:List Cell):Prop:=∀k,k<n.aj.length->fD n l c own fr to k=own.getD (n.aj.getD k default).head.toNat default
def wD(l:List Cell)(i:Nat)(x:Cell):bl (l.set i x)=(bl l).set i x.enc:=by simp[bl,ZcS]
def J5:nQ mc:=by simp[nQ,mG,mc]
abbrev s46:DM.Spec:=bp (λts=>∃nt nn ns aj ls aK dM cn cs cl own,∃fr to i:Int,ts=[.agg [ti nt,ti nn,ti ns,.sl (aQ aj)],.agg [ti ls,.sl (bq aK),.sl (au dM)],.agg [ti cn,ti cs,.sl (bl cl)],.sl (bl own),ti fr,ti to,ti i]/\
  qf ⟨nt,nn,ns,aj⟩/\wB ⟨ls,aK,dM⟩/\JT ⟨cn,cs,cl⟩/\Pm ⟨nt,nn,ns,aj⟩ own/\0<=i/\i<aj.length/\0<=fr/\fr<=to/\to<=1000)
 (fun|[n,l,c,.sl own,.int _ fr,.int _ to,.int _ i]=>.agg [ti (fD (mt n) (sV l) (s6 c) (mg own) fr to i.toNat).aA,ti (fD (mt n) (sV l) (s6 c) (mg own) fr to i.toNat).size,ti (fD (mt n) (sV l) (s6 c) (mg own) fr to i.toNat).lb,ti (fD (mt n) (sV l) (s6 c) (mg own) fr to i.toNat).arg]|_=>.bool false) true
def auw:aw ap (bz [(126,s46),(125,s42)]):=by
 refine aw.cons (aw.cons aw.nil ?_) ?_
 ·rintro ts rfl;exact⟨t42,λ_=>rfl⟩
 ·rintro ts ⟨nt,nn,ns,aj,ls,aK,dM,cn,cs,cl,own,fr,to,i,rfl,h1,h2,h3,h4,h5,h6,h7,h8,h9⟩;obtain⟨i,rfl⟩:=jE h5;obtain⟨fr,rfl⟩:=jE h7;obtain⟨to,rfl⟩:=jE (a:=to) (by omega);exact⟨by simpa [ay.enc,aF.enc,bI.enc,Cell.enc]using t46 ⟨nt,nn,ns,aj⟩ ⟨ls,aK,dM⟩ ⟨cn,cs,cl⟩ own fr to i h1 h2 h3 h4 (by simpa using h6) (by omega) (by omega),λ_=>rfl⟩
structure SM where
 own:List Cell
 lJ:Bool
def eP(n:ay)(l:aF)(c:bI)(fr to:Int)(own:List Cell)(y:Nat):List Cell:=(List.range y).foldl (qC n l c fr to) own
def pO(n:ay)(l:aF)(c:bI)(fr to:Int)(own:List Cell)(y:Nat):eP n l c fr to own (y+1)=qC n l c fr to (eP n l c fr to own y) y:=by
 simp[eP,tp,Ec]
def Dd{x:Cell}(hx:x=own.getD h default):own.set h x=own:=by
 subst hx;apply ZbX;intro j;rw[ZbM];split
 ·rename_i e;subst e;split
  ·rename_i hl;simp[List.getD,hl]
  ·rename_i hl;rw[L7 (by omega)]
 ·rfl
def uY{n:ay}{l:aF}{c:bI}{own:List Cell}{fr to:Nat}(hn:qf n)(hl:wB l)(hc:JT c)(ho:nC n own)(yF:fr<=to)(nJ:to<=1000):∀y,y<=n.aj.length->
  nC n (eP n l c fr to own y)/\((eP n l c fr to own y=own/\∀k,k<y->fD n l c own fr to k=own.getD (n.aj.getD k default).head.toNat default)\/lw (eP n l c fr to own y)<lw own)
 |0,_=>⟨ho,.inl ⟨rfl,λk h=>by omega⟩⟩
 |y+1,hy=>by
  obtain⟨h1,h2⟩:=uY hn hl hc ho yF nJ y (by omega);obtain⟨h3,h4⟩:=Db hn hl hc h1 (k:=y) (by omega) yF nJ;rw[pO];refine⟨h3, ?_⟩;by_cases e:fD n l c (eP n l c fr to own y) fr to y=(eP n l c fr to own y).getD (n.aj.getD y default).head.toNat default
  ·have e2:qC n l c fr to (eP n l c fr to own y) y=eP n l c fr to own y:=Dd e;rw[e2];rcases h2 with⟨g1,g2⟩|h2
   ·refine .inl ⟨g1,λk hk=>?_⟩;by_cases sI:k=y
    ·subst sI;rwa [g1]at e
    ·exact g2 k (by omega)
   ·exact .inr h2
  ·have:=h4 e;rcases h2 with⟨g1,g2⟩|h2
   ·rw[g1]at this⊢;exact .inr this
   ·exact .inr (by omega)
def bP(n:ay)(l:aF)(c:bI)(fr to:Int):Nat->List Cell->List Cell
 |0,own=>own
 |f+1,own=>if eP n l c fr to own n.aj.length=own then own else bP n l c fr to f (eP n l c fr to own n.aj.length)
def zf{n:ay}{l:aF}{c:bI}{fr to:Int}{f:Nat}{R:List Cell}(hs:eP n l c fr to own n.aj.length=own\/lw (eP n l c fr to own n.aj.length)<lw own)(h1:lw own<f)(h2:bP n l c fr to f own=R):
  (eP n l c fr to own n.aj.length≠own->lw (eP n l c fr to own n.aj.length)<lw own/\∃f,lw (eP n l c fr to own n.aj.length)<f/\bP n l c fr to f (eP n l c fr to own n.aj.length)=R)/\(eP n l c fr to own n.aj.length=own->own=R):=by
 cases f with
 |zero=>omega
 |succ f=>
  unfold bP at h2;refine⟨λdd=>?_,λe=>?_⟩
  ·rw[bX dd]at h2;have:=hs.resolve_left dd;exact⟨this,f,by omega,h2⟩
  ·rwa [cM e]at h2
def EB(n:ay):List Cell:=List.replicate n.ae.toNat mc
def sP(n:ay)(l:aF)(c:bI)(fr to:Int):List Cell:=bP n l c fr to (lw (EB n)+1) (EB n)
def Pn{n:ay}(hn:qf n):nC n (EB n):=by
 refine⟨?_,λx hx=>?_⟩
 ·have:=hn.1;simp only[EB,ZbH];omega
 ·rw[Zcv hx];exact J5
def J6{n:ay}{l:aF}{c:bI}{fr to:Nat}(hn:qf n)(hl:wB l)(hc:JT c)(yF:fr<=to)(nJ:to<=1000)
  (P:List Cell->Prop) (hPs:∀own k,nC n own->k<n.aj.length->P own->P (qC n l c fr to own k)):∀f own,lw own<f->nC n own->P own->nC n (bP n l c fr to f own)/\P (bP n l c fr to f own)/\Sl n l c fr to (bP n l c fr to f own)
 |0,own,h,_,_=>by omega
 |f+1,own,h,ho,hp=>by
  obtain⟨h1,h2⟩:=uY hn hl hc ho yF nJ n.aj.length (eT _);have hpw:∀y,y<=n.aj.length->P (eP n l c fr to own y):=by
   intro y;induction y with
   |zero=>intro _;exact hp
   |succ y ih=>intro hy;rw[pO];exact hPs _ _ (uY hn hl hc ho yF nJ y (by omega)).1 (by omega) (ih (by omega))
  unfold bP;split
  ·rename_i e;rcases h2 with⟨_,g⟩|h2
   ·exact⟨ho,hp,g⟩
   ·rw[e]at h2;omega
  ·rename_i e;rcases h2 with⟨g,_⟩|h2
   ·exact eX g e
   ·exact J6 hn hl hc yF nJ P hPs f _ (by omega) h1 (hpw _ (eT _))
def JX{n:ay}{l:aF}{c:bI}(hn:qf n)(hl:wB l)(hc:JT c)(yF:fr<=to)(nJ:to<=1000)
  (P:List Cell->Prop) (hP0:P (EB n)) (hPs:∀own k,nC n own->k<n.aj.length->P own->P (qC n l c fr to own k)):nC n (sP n l c fr to)/\P (sP n l c fr to)/\Sl n l c fr to (sP n l c fr to):=
 J6 hn hl hc yF nJ P hPs _ _ (by omega) (Pn hn) hP0
def t24(n:ay)(l:aF)(c:bI)(fr to:Nat)(hn:qf n)(hl:wB l)(hc:JT c)(yF:fr<=to)(nJ:to<=1000):oS ap 88 [n.enc,l.enc,c.enc,ti fr,ti to] 151 4 (bl (sP n l c fr to)):=by
 obtain⟨R,hR⟩:=aY (sP n l c fr to);rw[hR];obtain⟨nt,nn,ns,aj⟩:=n;obtain⟨ls,aK,dM⟩:=l;obtain⟨cn,cs,cl⟩:=c;have aq:=auw;have h00:=Pn hn;have pB:=λ(own:List Cell) (ho:nC ⟨nt,nn,ns,aj⟩ own)=>uY hn hl hc ho yF nJ;have hss:=λ(own:List Cell) (ho:nC ⟨nt,nn,ns,aj⟩ own) (k:Nat) (hk:k<aj.length)=>Db hn hl hc ho (k:=k) hk yF nJ;have qU:aj.length<=600:=hn.2.2.1;have hn1:1<=nn:=hn.1;have FF:nn<=1000:=hn.2.1;refine c24.Hc (by simp) (aH ?_);simp[ay.enc,aF.enc,bI.enc];apply aa.ai aq fw [3,4,5,6,7];simp[an9];refine aa.lk (o:=[]) (l:=[(3,.v (ti fr)),(4,.v (ti to)),(5,.v (.box [ti nt,ti nn,ti ns,.sl (aQ aj)])),(6,.v (.box [ti ls,.sl (bq aK),.sl (au dM)])),(7,.v (.box [ti cn,ti cs,.sl (bl cl)]))]) (bn:=1200) (by simp) ?_;apply aa.ai aq fw [3,4,5,6,7,11];simp[aoa];refine aa.lk (o:=[]) (l:=[(3,.v (ti fr)),(4,.v (ti to)),(5,.v (.box [ti nt,ti nn,ti ns,.sl (aQ aj)])),(6,.v (.box [ti ls,.sl (bq aK),.sl (au dM)])),(7,.v (.box [ti cn,ti cs,.sl (bl cl)])),(11,.aZ)]) (bn:=1400) (by simp) ?_;refine aa.le (Le.j7 (k:=11) 151 (sz:=4) (by omega) (by simp)) ?_;rw[fb];apply aa.sq aq fw [3,4,5,6,7,11,12];simp[aob];apply aa.block;refine aa.loop (λy:Nat=>⟨DM.look [(3,.v (ti fr)),(4,.v (ti to)),(5,.v (.box [ti nt,ti nn,ti ns,.sl (aQ aj)])),(6,.v (.box [ti ls,.sl (bq aK),.sl (au dM)])),(7,.v (.box [ti cn,ti cs,.sl (bl cl)])),(11,.aW 1400 0),(12,.v (ti y))],cR [(1400,.bm 0 151 4 (bl (List.replicate y mc)))],1600,1000,[]⟩)
  (λy=>(y:Int)<=nn) (λy=>nn.toNat-y) 0 (Le.aL ?_ ?_ ?_ ?_) (by omega) (λy hy=>?_)
 iterate 4(·simp)
 apply aa.sq aq fw [3,4,5,6,7,11,12,19];simp[aoc];refine aa.cond rfl (λaS=>?_) (λaS=>?_)
 ·have aS:(y:Int)<nn:=by simpa using aS
  apply aa.skip;simp;apply aa.seq;apply aa.block;apply aa.cZ aq fw [3,4,5,6,7,11,12];simp[aod,cw,di];refine⟨by omega, ?_⟩;apply aa.cZ aq fw [3,4,5,6,7,11,12];simp[aoe];rw[av (x:=(y:Int)+1) (by omega)];refine⟨y+1,Le.aL ?_ ?_ ?_ ?_,by omega,by omega⟩
  ·simp
  ·simp
  ·simp[ZcJ,bl,mc,Cell.enc]
  ·simp
 ·have fI:y=nn.toNat:=by simp at aS;omega
  subst fI;apply aa.exit;simp;apply aa.sq aq fw [3,4,5,6,7,11,13];simp[aof];apply aa.block;refine aa.loop (λz:SM=>⟨DM.look [(3,.v (ti fr)),(4,.v (ti to)),(5,.v (.box [ti nt,ti nn,ti ns,.sl (aQ aj)])),(6,.v (.box [ti ls,.sl (bq aK),.sl (au dM)])),(7,.v (.box [ti cn,ti cs,.sl (bl cl)])),(11,.aW 1400 0),(13,.v (.bool z.lJ))],cR [(1400,.bm 0 151 4 (bl z.own))],3000,1000,[]⟩)
   (λz=>nC ⟨nt,nn,ns,aj⟩ z.own/\(z.lJ=true->∃f,lw z.own<f/\bP ⟨nt,nn,ns,aj⟩ ⟨ls,aK,dM⟩ ⟨cn,cs,cl⟩ fr to f z.own=R)/\(z.lJ=false->z.own=R)) (λz=>2*lw z.own+(if z.lJ then 1 else 0)) ⟨EB ⟨nt,nn,ns,aj⟩,true⟩ (Le.aL ?_ ?_ ?_ ?_) (⟨h00,λ_=>⟨_,Lz _,hR⟩,λh=>by cases h⟩) (λz hy=>?_)
  ·simp
  ·simp
  ·simp[EB]
  ·simp
  obtain⟨own,lJ⟩:=z;obtain⟨yd,AS,Hq⟩:=hy;simp only at yd AS Hq⊢;apply aa.sq aq fw [3,4,5,6,7,11,26];simp[aog];refine aa.cond rfl (λhm=>?_) (λhm=>?_)
  ·have hm:lJ=true:=by simpa using hm
   subst hm;obtain⟨f,Z3,Z5⟩:=AS rfl;apply aa.skip;simp;apply aa.block;apply aa.ai aq fw [3,4,5,6,7,11,13];simp[aoh];apply aa.ai aq fw [3,4,5,6,7,11,13,14];simp[aoi];apply aa.block;refine aa.loop (λy:Nat=>⟨DM.look [(3,.v (ti fr)),(4,.v (ti to)),(5,.v (.box [ti nt,ti nn,ti ns,.sl (aQ aj)])),(6,.v (.box [ti ls,.sl (bq aK),.sl (au dM)])),(7,.v (.box [ti cn,ti cs,.sl (bl cl)])),(11,.aW 1400 0),(13,.v (.bool (decide (eP ⟨nt,nn,ns,aj⟩ ⟨ls,aK,dM⟩ ⟨cn,cs,cl⟩ fr to own y≠own)))),(14,.v (ti y))],cR [(1400,.bm 0 151 4 (bl (eP ⟨nt,nn,ns,aj⟩ ⟨ls,aK,dM⟩ ⟨cn,cs,cl⟩ fr to own y)))],4000,1000,[]⟩)
    (λy=>y<=aj.length) (λy=>aj.length-y) 0 (Le.aL ?_ ?_ ?_ ?_) (by simp) (λy El=>?_)
   ·simp
   ·simp[eP]
   ·simp[eP]
   ·simp[eP]
   obtain⟨O,hO⟩:=aY (eP ⟨nt,nn,ns,aj⟩ ⟨ls,aK,dM⟩ ⟨cn,cs,cl⟩ fr to own y);obtain⟨vB,Im⟩:=pB own yd y El;rw[hO]at vB Im;obtain⟨m1,uE⟩:=aY (decide (O≠own):Bool);rw[hO,uE];apply aa.sq aq fw [3,4,5,6,7,11,13,14,31];simp[agC];refine aa.cond rfl (λaS=>?_) (λaS=>?_)
   ·have aS:y<aj.length:=by simpa using aS
    apply aa.skip;simp;apply aa.seq;apply aa.block;obtain⟨r,hr⟩:=aY (aj.getD y default);have th:me ⟨nt,nn,ns,aj⟩ r:=hn.2.2.2 r (by rw[<-hr];exact bu aS);have rr:=fE aS;rw[hr]at rr;obtain⟨⟨ic,iz,ir,ig⟩,hI⟩:=aY (fD ⟨nt,nn,ns,aj⟩ ⟨ls,aK,dM⟩ ⟨cn,cs,cl⟩ O fr to y);apply aa.ai aq fw [3,4,5,6,7,11,13,14,15];simp[agD,ze,hn,hl,hc,vB.ok,hI];refine⟨by omega,by omega,by omega, ?_⟩;refine aa.lk (o:=[(1400,.bm 0 151 4 (bl O))]) (l:=[(3,.v (ti fr)),(4,.v (ti to)),(5,.v (.box [ti nt,ti nn,ti ns,.sl (aQ aj)])),(6,.v (.box [ti ls,.sl (bq aK),.sl (au dM)])),(7,.v (.box [ti cn,ti cs,.sl (bl cl)])),(11,.aW 1400 0),(13,.v (.bool m1)),(14,.v (ti y)),(15,.v (.box [ti ic,ti iz,ti ir,ti ig]))]) (bn:=4400) (by simp) ?_;obtain⟨rk,rh,ra,rb,rp,rg⟩:=r;obtain⟨q1,q2,q3,q4,q5⟩:=th;simp only at q1 q2;obtain⟨rh,rfl⟩:=jE q1;have M0:rh<O.length:=by have:=vB.1;simp only at this;omega
    have rx:=iQ M0;obtain⟨⟨xc,xs,xr,xg⟩,hx⟩:=aY (O.getD rh default);rw[hx]at rx;obtain⟨c1,bN⟩:=aY (decide ((⟨ic,iz,ir,ig⟩:Cell)≠⟨xc,xs,xr,xg⟩):Bool);refine aa.bL aq fw [(3,.v (ti fr)),(4,.v (ti to)),(5,.v (.box [ti nt,ti nn,ti ns,.sl (aQ aj)])),(6,.v (.box [ti ls,.sl (bq aK),.sl (au dM)])),(7,.v (.box [ti cn,ti cs,.sl (bl cl)])),(11,.aW 1400 0),(13,.v (.bool m1)),(14,.v (ti y)),(15,.v (.box [ti ic,ti iz,ti ir,ti ig])),(52,.v (.bool c1))] ?_ ?_
    ·simp[agE,aS,rr,bC.enc,M0,rx,Cell.enc];simp at bN;exact bN
    refine aa.cond rfl (λh5=>?_) (λh5=>?_)
    ·rw[h5]at bN;have bN:=qg bN;have iO:qC ⟨nt,nn,ns,aj⟩ ⟨ls,aK,dM⟩ ⟨cn,cs,cl⟩ fr to O y=O.set rh ⟨ic,iz,ir,ig⟩:=by unfold qC;simp only[hI,hr,gJ]
     have Dk:eP ⟨nt,nn,ns,aj⟩ ⟨ls,aK,dM⟩ ⟨cn,cs,cl⟩ fr to own (y+1)=O.set rh ⟨ic,iz,ir,ig⟩:=by rw[pO,hO,iO]
     have dd:¬eP ⟨nt,nn,ns,aj⟩ ⟨ls,aK,dM⟩ ⟨cn,cs,cl⟩ fr to own (y+1)=own:=by
      intro e;have h4:=(hss O vB y aS).2 (by simp only[hI,hr,gJ,hx];exact bN);rw[iO,<-Dk,e]at h4;rcases Im with h|h
      ·rw[h.1]at h4;omega
      ·omega
     apply aa.cZ aq fw [3,4,5,6,7,11,13,14];simp[agF,aS,rr,bC.enc,M0,rx,Cell.enc];apply aa.cZ aq fw [3,4,5,6,7,11,13,14];simp[VU];rw[av (x:=(y:Int)+1) (by omega)];refine⟨y+1,Le.aL ?_ ?_ ?_ ?_,by omega,by omega⟩
     ·simp
     ·simp
     ·simp[Dk,wD,Cell.enc]
     ·simp;simpa using dd
    ·rw[h5]at bN;have bN:=Classical.not_not.1 (Br bN);have Dk:eP ⟨nt,nn,ns,aj⟩ ⟨ls,aK,dM⟩ ⟨cn,cs,cl⟩ fr to own (y+1)=O:=by rw[pO,hO];unfold qC;simp only[hI,hr,gJ];exact Dd (by rw[hx];exact bN)
     have dd:=uE;rw[<-Dk]at dd;apply aa.skip;simp;apply aa.cZ aq fw [3,4,5,6,7,11,13,14];simp[VU];rw[av (x:=(y:Int)+1) (by omega)];refine⟨y+1,Le.aL ?_ ?_ ?_ ?_,by omega,by omega⟩
     ·simp
     ·simp
     ·simp[Dk,wD,Cell.enc]
     ·simp;simpa using dd
   ·have wp:y=aj.length:=by simp at aS;omega
    subst wp;have AN:=zf ((pB own yd _ (eT _)).2.imp And.left id) Z3 Z5;simp only[hO]at AN;have M3:2*lw O+(if m1 then 1 else 0)<2*lw own+1:=by
     by_cases e:O=own
     ·have Ij:m1=false:=by rw[<-uE];simp[e]
      subst Ij;rw[e];simp
     ·have:=(AN.1 e).1;cases m1<;>simp<;>omega
    apply aa.exit;simp;refine⟨⟨O,m1⟩,Le.aL ?_ ?_ ?_ ?_,⟨vB,λh=>(AN.1 (qg (uE.trans h))).2,λh=>by have e:=Classical.not_not.1 (Br (uE.trans h));simp only;rw[e];exact AN.2 e⟩,by simpa using M3⟩;iterate 3(·simp)
    ·simp
  ·have hm:lJ=false:=by simpa using hm
   subst hm;have Hq:=Hq rfl;subst Hq;apply aa.exit;simp;apply aa.ai aq fw [10];simp[agG];apply aa.ret;exact .inr ⟨1400,0,by simp,by simp⟩
end
section
variable{nd:Int}{es:List eD}
def zg(l:List cX)(i:Nat)(x:cX):cU (l.set i x)=(cU l).set i [ti x.aA,ti x.size]:=by simp[cU,ZcS]
def zh(l:ba)(i:Nat)(x:Int):au (l.set i x)=(au l).set i [ti x]:=by simp[au,ZcS]
def aaR{α:Type}(a b:α){n y:Nat}(h:y<n):(List.replicate y a++List.replicate (n-y) b).set y a=List.replicate (y+1) a++List.replicate (n-(y+1)) b:=by
 rw[List.set_append_right _ _ (by simp)];simp only[ZbH,Nat.sub_self];rw[show n-y=(n-(y+1))+1 by omega,ZR,Zck,ZcJ (n:=y),ER];rfl
def wF(nd:Int)(e:eD):Prop:=0<=e.head/\e.head<nd/\(∀t∈e.bY,0<=t/\t<nd)/\0<=e.aA/\e.aA<=4000000000000/\e.bY.length<=1000000
def J8(nd:Int)(es:List eD):Prop:=0<=nd/\nd<=1000000/\es.length<=1000000/\∀e∈es,wF nd e
def Bs(nd:Int)(v:List cX):Prop:=(v.length:Int)=nd/\∀x∈v,mG x
def FG(x:cX):Nat:=x.aA.toNat*2199023255552+x.size.toNat
def ji(v:List cX):Nat:=(v.map FG).sum
def uZ{own:List cX}{h:Nat}{y:cX}(hh:h<own.length)(hy:FG y<FG (own.getD h default)):ji (own.set h y)<ji own:=by
 induction own generalizing h with
 |nil=>simp at hh
 |cons x own ih=>
  cases h with
  |zero=>simp[ji]at hy⊢;omega
  |succ h=>
   have:=ih (h:=h) (by simpa using hh) (by simpa using hy);simp[ji]at this⊢;omega
def Bt{a b:cX}(ha:mG a)(hb:mG b)(h:a.lt b):FG a<FG b:=by
 obtain⟨a1,a2,a3,a4⟩:=ha;obtain⟨b1,b2,b3,b4⟩:=hb;unfold cX.lt at h;unfold FG;omega
def cj(v:List cX)(e:eD):List cX:=if(co e.aA (cJ v e.bY)).lt (v.getD e.head.toNat default)then v.set e.head.toNat (co e.aA (cJ v e.bY))else v
def oH{v:List cX}{ts:ba}(hv:Bs nd v)(h:∀t∈ts,0<=t/\t<nd):∀x∈cJ v ts,mG x:=by
 intro x hx;simp only[cJ,j3]at hx;obtain⟨t,ht,rfl⟩:=hx;have:=h t ht;have:=hv.1;exact hv.2 _ (bu (by omega))
def Dm{v:List cX}{e:eD}(he:wF nd e)(hv:Bs nd v):Bs nd (cj v e)/\(cj v e=v\/ji (cj v e)<ji v):=by
 obtain⟨e1,e2,e3,e4,e5,e6⟩:=he;have hc:=iv (c:=e.aA) (l:=cJ v e.bY) (oH hv e3) e4 e5;have hh:e.head.toNat<v.length:=by have:=hv.1;omega
 unfold cj;split
 ·rename_i h;refine⟨⟨by simpa using hv.1,λx hx=>?_⟩,.inr (uZ hh (Bt hc (hv.2 _ (bu hh)) h))⟩;rcases Zcp hx with h|rfl
  ·exact hv.2 x h
  ·exact hc
 ·exact⟨hv,.inl rfl⟩
def ep(es:List eD)(v:List cX)(y:Nat):List cX:=(List.range y).foldl (λv k=>cj v (es.getD k default)) v
def jV(es:List eD)(v:List cX)(y:Nat):ep es v (y+1)=cj (ep es v y) (es.getD y default):=by simp[ep,tp,Ec]
def jp{nd:Int}{es:List eD}(hh:J8 nd es){v:List cX}(hv:Bs nd v):∀y,y<=es.length->Bs nd (ep es v y)/\(ep es v y=v\/ji (ep es v y)<ji v)
 |0,_=>⟨hv,.inl rfl⟩
 |y+1,hy=>by
  obtain⟨h1,h2⟩:=jp hh hv y (by omega);obtain⟨h3,h4⟩:=Dm (hh.2.2.2 _ (bu (l:=es) (i:=y) (by omega))) h1;rw[jV];refine⟨h3, ?_⟩;rcases h4 with e|h4
  ·rw[e];exact h2
  ·rcases h2 with e|h2
   ·rw[e]at h4⊢;exact .inr h4
   ·exact .inr (by omega)
def lc(es:List eD):Nat->List cX->List cX
 |0,v=>v
 |f+1,v=>if ep es v es.length=v then v else lc es f (ep es v es.length)
def M7{v:List cX}{f:Nat}{R:List cX}(hs:ep es v es.length=v\/ji (ep es v es.length)<ji v)(h1:ji v<f)(h2:lc es f v=R):
  (ep es v es.length≠v->ji (ep es v es.length)<ji v/\∃f,ji (ep es v es.length)<f/\lc es f (ep es v es.length)=R)/\(ep es v es.length=v->v=R):=by
 cases f with
 |zero=>omega
 |succ f=>
  unfold lc at h2;refine⟨λdd=>?_,λe=>?_⟩
  ·rw[bX dd]at h2;have:=hs.resolve_left dd;exact⟨this,f,by omega,h2⟩
  ·rwa [cM e]at h2
def Dn(nd:Int):List cX:=List.replicate nd.toNat ⟨1099511627776,0⟩
def r9(nd:Int)(es:List eD):List cX:=lc es (ji (Dn nd)+1) (Dn nd)
def FH{nd:Int}{es:List eD}(hh:J8 nd es):∀f v,ji v<f->Bs nd v->Bs nd (lc es f v)
 |0,v,h,_=>by omega
 |f+1,v,h,hv=>by
  obtain⟨h1,h2⟩:=jp hh hv es.length (eT _);unfold lc;split
  ·exact hv
  ·rename_i dd;exact FH hh f _ (by have:=h2.resolve_left dd;omega) h1
def Bu(hh:J8 nd es):Bs nd (Dn nd):=by
 refine⟨by have:=hh.1;simp only[Dn,ZbH];omega,λx hx=>?_⟩;rw[Zcv hx];simp[mG]
def u0(hh:J8 nd es):Bs nd (r9 nd es):=FH hh _ _ (by omega) (Bu hh)
def stepG(es:List eD)(v:List cX)(g:ba)(j:Nat):ba:=
 if(v.getD (es.getD (es.length-1-j) default).head.toNat default).aA<1099511627776/\co (es.getD (es.length-1-j) default).aA (cJ v (es.getD (es.length-1-j) default).bY)=v.getD (es.getD (es.length-1-j) default).head.toNat default then g.set (es.getD (es.length-1-j) default).head.toNat ((es.length-1-j:Nat):Int)else g
def mH(es:List eD)(v:List cX)(nd:Int)(j:Nat):ba:=(List.range j).foldl (stepG es v) (List.replicate nd.toNat (-1))
def sb(es:List eD)(v:List cX)(nd:Int)(y:Nat):mH es v nd (y+1)=stepG es v (mH es v nd y) y:=by simp[mH,tp,Ec]
def zi(es:List eD)(v:List cX)(h:0<=nd)(y:Nat):((mH es v nd y).length:Int)=nd:=by
 induction y with
 |zero=>simp[mH];omega
 |succ y ih=>
  rw[sb];unfold stepG;split
  ·simpa using ih
  ·exact ih
structure VM where
 v:List cX
 lJ:Bool
abbrev s91:DM.Spec:=CA (λts=>∃a b c d e v,ts=[.agg [ti a,.sl (au b),ti c,ti d,ti e],.sl (cU v)]/\(∀t∈b,0<=t/\t<v.length)/\b.length<=1000000) (fun|[.agg [_,.sl b,_,_,_],.sl v]=>cU (cJ (nc v) (eM b))|_=>[]) 64 2
def J9(l:List cX):iY.je (cU l).flatten=true:=by
 induction l with
 |nil=>rfl
 |cons x l ih=>simpa [cU,iY.je,iY]using ih
def auy:aw ap (bz [(128,s91),(127,s69),(129,s92)]):=by
 refine aw.ad7 (aw.cons (aw.cons aw.nil ?_) ?_) ?_
 ·rintro ts ⟨a,b,c,d,rfl⟩;exact⟨t92 ⟨a,b⟩ ⟨c,d⟩,λ_=>rfl⟩
 ·rintro ts ⟨c,l,rfl,h1,h2,h3,h4⟩;exact⟨by simpa using t69 c l h1 h2 h3 h4,λ_=>rfl⟩
 ·rintro ts ⟨a,b,c,d,e,v,rfl,h1,h2⟩;exact⟨by simpa [eD.enc]using t91 ⟨a,b,c,d,e⟩ v h1 h2,J9 _⟩
def t66(nd:Int)(es:List eD)(hh:J8 nd es):aJ ap 91 [.agg [ti nd,.sl (bV es)]] (.dh [.sl (cU (r9 nd es)),.sl (au (mH es (r9 nd es) nd es.length))]):=by
 obtain⟨R,hR⟩:=aY (r9 nd es);have hRo:Bs nd R:=hR▸u0 hh;rw[hR];have h0:=Bu hh;have pB:=λ(v:List cX) (hv:Bs nd v)=>jp hh hv;have iO:=λ(v:List cX) (hv:Bs nd v) (e:eD) (he:wF nd e)=>Dm he hv;obtain⟨g1,g2,g3,g4⟩:=hh;have aq:=auy;refine c66.ok (by simp) (aH ?_);simp;apply aa.ai aq fw [1];simp[amU];refine aa.lk (o:=[]) (l:=[(1,.v (.box [ti nd,.sl (bV es)]))]) (bn:=1200) (by simp) ?_;apply aa.ai aq fw [1,4];simp[amV,ze,cw];repeat (refine⟨by omega, ?_⟩)
 refine aa.le (Le.aL (o:=[(1217,.bm 0 64 2 (cU ((List.replicate nd.toNat (⟨0,0⟩:cX)))))]) (l:=[(1,.v (.box [ti nd,.sl (bV es)])),(4,.aW 1217 0)]) (bn:=1400) ?_ ?_ ?_ ?_) ?_
 ·simp
 ·simp
 ·simp[cU]
 ·simp
 apply aa.ai aq fw [1,4,5];simp[amW,ze,cw];repeat (refine⟨by omega, ?_⟩)
 refine aa.le (Le.aL (o:=[(1217,.bm 0 64 2 (cU ((List.replicate nd.toNat (⟨0,0⟩:cX))))),(1420,.bm 0 3 1 (au (List.replicate nd.toNat 0)))]) (l:=[(1,.v (.box [ti nd,.sl (bV es)])),(4,.aW 1217 0),(5,.aW 1420 0)]) (bn:=1600) ?_ ?_ ?_ ?_) ?_
 ·simp
 ·simp
 ·simp[cU,au]
 ·simp
 apply aa.sq aq fw [1,4,5,6];simp[amX];apply aa.block;refine aa.loop (λy:Nat=>⟨DM.look [(1,.v (.box [ti nd,.sl (bV es)])),(4,.aW 1217 0),(5,.aW 1420 0),(6,.v (ti y))],cR [(1217,.bm 0 64 2 (cU (List.replicate y (⟨1099511627776,0⟩:cX)++List.replicate (nd.toNat-y) (⟨0,0⟩:cX)))),(1420,.bm 0 3 1 (au (List.replicate y (-1:Int)++List.replicate (nd.toNat-y) (0:Int))))],2000,1000,[]⟩)
  (λy=>y<=nd.toNat) (λy=>nd.toNat-y) 0 (Le.aL ?_ ?_ ?_ ?_) (by simp) (λy hy=>?_)
 iterate 4(·simp)
 obtain⟨A,hA⟩:=aY (List.replicate y (⟨1099511627776,0⟩:cX)++List.replicate (nd.toNat-y) (⟨0,0⟩:cX));obtain⟨E,hE⟩:=aY (List.replicate y (-1:Int)++List.replicate (nd.toNat-y) (0:Int));have hAl:A.length=nd.toNat:=by rw[<-hA];simp;omega
 have hEl:E.length=nd.toNat:=by rw[<-hE];simp;omega
 rw[hA,hE];apply aa.sq aq fw [1,4,5,6,23];simp[amY];refine aa.cond rfl (λaS=>?_) (λaS=>?_)
 ·have aS:(y:Int)<nd:=by simpa using aS
  have hyn:y<nd.toNat:=by omega
  apply aa.skip;simp;apply aa.seq;apply aa.block;have ra:=jU (l:=A) (y:=y) (by omega);have re:=bA (l:=E) (y:=y) (by omega);have q1:y<A.length:=by omega
  have q2:y<E.length:=by omega
  apply aa.cZ aq fw [1,4,5,6];simp[amZ,q1,q2,ra,re];apply aa.cZ aq fw [1,4,5,6];simp[am0];rw[av (x:=(y:Int)+1) (by omega)];refine⟨y+1,Le.aL ?_ ?_ ?_ ?_,by omega,by omega⟩
  ·simp
  ·simp
  ·simp only[<-aaR _ _ hyn,hA,hE,zg,zh];simp
  ·simp
 ·have fI:y=nd.toNat:=by simp at aS;omega
  subst fI;have Mw:A=Dn nd:=by rw[<-hA];simp[Dn]
  have hE2:E=List.replicate nd.toNat (-1):=by rw[<-hE];simp
  subst Mw;subst hE2;apply aa.exit;simp;apply aa.sq aq fw [1,4,5,7];simp[am1];apply aa.block;refine aa.loop (λz:VM=>⟨DM.look [(1,.v (.box [ti nd,.sl (bV es)])),(4,.aW 1217 0),(5,.aW 1420 0),(7,.v (.bool z.lJ))],cR [(1217,.bm 0 64 2 (cU (z.v))),(1420,.bm 0 3 1 (au (List.replicate nd.toNat (-1))))],3000,1000,[]⟩)
   (λz=>Bs nd z.v/\(z.lJ=true->∃f,ji z.v<f/\lc es f z.v=R)/\(z.lJ=false->z.v=R)) (λz=>2*ji z.v+(if z.lJ then 1 else 0)) ⟨Dn nd,true⟩ (Le.aL ?_ ?_ ?_ ?_) (⟨h0,λ_=>⟨_,Lz _,hR⟩,λh=>by cases h⟩) (λz hy=>?_)
  iterate 4(·simp)
  obtain⟨own,lJ⟩:=z;obtain⟨yd,AS,Hq⟩:=hy;simp only at yd AS Hq⊢;apply aa.sq aq fw [1,4,5,33];simp[am2];refine aa.cond rfl (λhm=>?_) (λhm=>?_)
  ·have hm:lJ=true:=by simpa using hm
   subst hm;obtain⟨f,Z3,Z5⟩:=AS rfl;apply aa.skip;simp;apply aa.block;apply aa.ai aq fw [1,4,5,7];simp[am3];apply aa.ai aq fw [1,4,5,7,8];simp[af9];apply aa.block;refine aa.loop (λy:Nat=>⟨DM.look [(1,.v (.box [ti nd,.sl (bV es)])),(4,.aW 1217 0),(5,.aW 1420 0),(7,.v (.bool (decide (ep es own y≠own)))),(8,.v (ti y))],cR [(1217,.bm 0 64 2 (cU (ep es own y))),(1420,.bm 0 3 1 (au (List.replicate nd.toNat (-1))))],4000,1000,[]⟩)
    (λy=>y<=es.length) (λy=>es.length-y) 0 (Le.aL ?_ ?_ ?_ ?_) (by simp) (λy El=>?_)
   ·simp
   ·simp[ep]
   ·simp[ep]
   ·simp[ep]
   obtain⟨O,hO⟩:=aY (ep es own y);obtain⟨vB,Im⟩:=pB own yd y El;rw[hO]at vB Im;obtain⟨m1,uE⟩:=aY (decide (O≠own):Bool);rw[hO,uE];apply aa.sq aq fw [1,4,5,7,8,38];simp[aga];refine aa.cond rfl (λaS=>?_) (λaS=>?_)
   ·have aS:y<es.length:=by simpa using aS
    apply aa.skip;simp;apply aa.seq;apply aa.block;have rr:=oj aS;obtain⟨⟨xh,xt,xc,x0,x1⟩,hx⟩:=aY (es.getD y default);rw[hx]at rr;have EC:wF nd ⟨xh,xt,xc,x0,x1⟩:=g4 _ (by rw[<-hx];exact bu aS);have hso:=iO O vB _ EC;obtain⟨q1,q2,q3,q4,q5,q6⟩:=EC;simp only at q1 q2 q3 q4 q5 q6;obtain⟨xh,rfl⟩:=jE q1;apply aa.ai aq fw [1,4,5,7,8,9];simp[agb,aS,rr,eD.enc];refine aa.lk (o:=[(1217,.bm 0 64 2 (cU (O))),(1420,.bm 0 3 1 (au (List.replicate nd.toNat (-1))))]) (l:=[(1,.v (.box [ti nd,.sl (bV es)])),(4,.aW 1217 0),(5,.aW 1420 0),(7,.v (.bool m1)),(8,.v (ti y)),(9,.v (.box [ti xh,.sl (au xt),ti xc,ti x0,ti x1]))]) (bn:=4200) (by simp) ?_;have ht3:∀t∈xt,0<=t/\t<O.length:=λt ht=>by have:=q3 t ht;have:=vB.1;omega
    have htv:=oH vB q3;have mq:(cJ O xt).length<=1000000:=by simpa [cJ]using q6
    obtain⟨⟨wc,wz⟩,hw⟩:=aY (co xc (cJ O xt));refine aa.fR aq fw (rs:=xK Pl [none,some [],some [],none,some [1217],some [4251],none,some [4211]]) (.inr ⟨_,pV⟩) (by kernel_rfl) [1,4,5,7,8,9,10] ?_;simp[Pl,xK,dN,bT,bv,ze,q6,mq,hw];refine⟨ht3,htv, ?_⟩;repeat (refine⟨by omega, ?_⟩)
    refine aa.lk (o:=[(1217,.bm 0 64 2 (cU (O))),(1420,.bm 0 3 1 (au (List.replicate nd.toNat (-1))))]) (l:=[(1,.v (.box [ti nd,.sl (bV es)])),(4,.aW 1217 0),(5,.aW 1420 0),(7,.v (.bool m1)),(8,.v (ti y)),(9,.v (.box [ti xh,.sl (au xt),ti xc,ti x0,ti x1])),(10,.v (.box [ti wc,ti wz]))]) (bn:=4400) (by simp) ?_;have M0:xh<O.length:=by have:=vB.1;omega
    have ro:=jU M0;obtain⟨⟨uc,uz⟩,hu⟩:=aY (O.getD xh default);rw[hu]at ro;obtain⟨c1,bN⟩:=aY (decide ((⟨wc,wz⟩:cX).lt ⟨uc,uz⟩):Bool);apply aa.ai aq fw [1,4,5,7,8,9,10,58];simp[agc,M0,ro,bN];refine aa.cond rfl (λh5=>?_) (λh5=>?_)
    ·have h5:c1=true:=by simpa using h5
     rw[h5]at bN;have bN:=qg bN;have hS0:cj O ⟨xh,xt,xc,x0,x1⟩=O.set xh ⟨wc,wz⟩:=by unfold cj;simp only[hw,hu,gJ];rw[cM bN]
     have Dk:ep es own (y+1)=O.set xh ⟨wc,wz⟩:=by rw[jV,hO,hx,hS0]
     have dd:¬ep es own (y+1)=own:=by
      intro e;have h6:ji (O.set xh ⟨wc,wz⟩)<ji O:=by
       refine uZ M0 ?_;rw[hu];exact Bt (by rw[<-hw];exact iv htv q4 q5) (by rw[<-hu];exact vB.2 _ (bu M0)) bN
      rw[<-Dk,e]at h6;rcases Im with h|h
      ·rw[h]at h6;omega
      ·omega
     apply aa.ai aq fw [1,4,5,8];simp[agd,M0,ro];apply aa.cZ aq fw [1,4,5,7,8];simp[age];apply aa.cZ aq fw [1,4,5,7,8];simp[VD];rw[av (x:=(y:Int)+1) (by omega)];refine⟨y+1,Le.aL ?_ ?_ ?_ ?_,by omega,by omega⟩
     ·simp
     ·simp
     ·simp[Dk,zg]
     ·simp;simpa using dd
    ·have h5:c1=false:=by simpa using h5
     rw[h5]at bN;have bN:=Br bN;have Dk:ep es own (y+1)=O:=by rw[jV,hO,hx];unfold cj;simp only[hw,hu,gJ];rw[bX bN]
     have dd:=uE;rw[<-Dk]at dd;apply aa.skip;simp;apply aa.cZ aq fw [1,4,5,7,8];simp[VD];rw[av (x:=(y:Int)+1) (by omega)];refine⟨y+1,Le.aL ?_ ?_ ?_ ?_,by omega,by omega⟩
     ·simp
     ·simp
     ·simp[Dk,zg]
     ·simp;simpa using dd
   ·have wp:y=es.length:=by simp at aS;omega
    subst wp;have AN:=M7 (pB own yd _ (eT _)).2 Z3 Z5;simp only[hO]at AN;have M3:2*ji O+(if m1 then 1 else 0)<2*ji own+1:=by
     by_cases e:O=own
     ·have Ij:m1=false:=by rw[<-uE];simp[e]
      subst Ij;rw[e];simp
     ·have:=(AN.1 e).1;cases m1<;>simp<;>omega
    apply aa.exit;simp;refine⟨⟨O,m1⟩,Le.aL ?_ ?_ ?_ ?_,⟨vB,λh=>(AN.1 (qg (uE.trans h))).2,λh=>by have e:=Classical.not_not.1 (Br (uE.trans h));simp only;rw[e];exact AN.2 e⟩,by simpa using M3⟩;iterate 3(·simp)
    ·simp
  ·have hm:lJ=false:=by simpa using hm
   subst hm;have Hq:=Hq rfl;subst Hq;apply aa.exit;simp;apply aa.sq aq fw [1,4,5,11];simp[agf,av (x:=(es.length:Int)-1) (by omega)];apply aa.block;refine aa.loop (λj:Nat=>⟨DM.look [(1,.v (.box [ti nd,.sl (bV es)])),(4,.aW 1217 0),(5,.aW 1420 0),(11,.v (ti ((es.length:Int)-1-j)))],cR [(1217,.bm 0 64 2 (cU (own))),(1420,.bm 0 3 1 (au (mH es own nd j)))],5000,1000,[]⟩)
    (λj=>j<=es.length) (λj=>es.length-j) 0 (Le.aL ?_ ?_ ?_ ?_) (by simp) (λj hj=>?_)
   ·simp
   ·simp
   ·simp[mH]
   ·simp
   obtain⟨G,hG⟩:=aY (mH es own nd j);have hGl:=zi es own g1 j;rw[hG]at hGl;rw[hG];obtain⟨k,hk⟩:=aY ((es.length:Int)-1-j);rw[hk];apply aa.sq aq fw [1,4,5,11,69];simp[agh];refine aa.cond rfl (λh9=>?_) (λh9=>?_)
   ·have h9:0<=k:=by simpa using h9
    obtain⟨k,rfl⟩:=jE h9;have yE:k<es.length:=by omega
    have hke:es.length-1-j=k:=by omega
    apply aa.skip;simp;apply aa.seq;apply aa.block;have rr:=oj yE;obtain⟨⟨xh,xt,xc,x0,x1⟩,hx⟩:=aY (es.getD k default);rw[hx]at rr;have EC:wF nd ⟨xh,xt,xc,x0,x1⟩:=g4 _ (by rw[<-hx];exact bu yE);obtain⟨q1,q2,q3,q4,q5,q6⟩:=EC;simp only at q1 q2 q3 q4 q5 q6;obtain⟨xh,rfl⟩:=jE q1;apply aa.ai aq fw [1,4,5,11,12];simp[agi,yE,rr,eD.enc];refine aa.lk (o:=[(1217,.bm 0 64 2 (cU (own))),(1420,.bm 0 3 1 (au (G)))]) (l:=[(1,.v (.box [ti nd,.sl (bV es)])),(4,.aW 1217 0),(5,.aW 1420 0),(11,.v (ti k)),(12,.v (.box [ti xh,.sl (au xt),ti xc,ti x0,ti x1]))]) (bn:=5200) (by simp) ?_;have M0:xh<own.length:=by have:=hRo.1;omega
    have ro:=jU M0;obtain⟨⟨uc,uz⟩,hu⟩:=aY (own.getD xh default);rw[hu]at ro;apply aa.ai aq fw [1,4,5,11,12,13];simp[agj,M0,ro];refine aa.lk (o:=[(1217,.bm 0 64 2 (cU (own))),(1420,.bm 0 3 1 (au (G)))]) (l:=[(1,.v (.box [ti nd,.sl (bV es)])),(4,.aW 1217 0),(5,.aW 1420 0),(11,.v (ti k)),(12,.v (.box [ti xh,.sl (au xt),ti xc,ti x0,ti x1])),(13,.v (.box [ti uc,ti uz]))]) (bn:=5400) (by simp) ?_;have ht3:∀t∈xt,0<=t/\t<own.length:=λt ht=>by have:=q3 t ht;have:=hRo.1;omega
    have htv:=oH hRo q3;have mq:(cJ own xt).length<=1000000:=by simpa [cJ]using q6
    obtain⟨⟨wc,wz⟩,hw⟩:=aY (co xc (cJ own xt));obtain⟨c1,bN⟩:=aY (decide (uc<1099511627776/\(⟨wc,wz⟩:cX)=⟨uc,uz⟩):Bool);apply aa.seq;refine aa.to ⟨DM.look [(1,.v (.box [ti nd,.sl (bV es)])),(4,.aW 1217 0),(5,.aW 1420 0),(11,.v (ti k)),(12,.v (.box [ti xh,.sl (au xt),ti xc,ti x0,ti x1])),(94,.v (.bool c1))],cR [(1217,.bm 0 64 2 (cU (own))),(1420,.bm 0 3 1 (au (G)))],6000,1000,[]⟩ ?_ ?_
    ·by_cases k1:uc<1099511627776
     ·refine aa.rP aq fw (rs:=xK Bo [none,some [],none,none,none,some [],some [],none,some [1217],some [5491],some [],some [],none]) (.inr ⟨_,pV⟩) (by kernel_rfl) [1,4,5,11,12,94] ?_;simp[xK,Bo,dN,bT,bv,ze,k1,q6,mq,hw];refine⟨ht3,htv,by omega,by omega, ?_⟩;have:c1=(decide (wc=uc)&&decide (wz=uz)):=by rw[<-bN];simp[k1]
      rw[this];exact Le.aL (by simp) (by simp) (by simp) (by simp)
     ·have:c1=false:=by rw[<-bN];simp[k1]
      refine aa.rP aq fw (rs:=xK Bo [none,some [],none,none,none,some [],some [],none,some [1217],some [5491],some [],some [],none]) (.inr ⟨_,pV⟩) (by kernel_rfl) [1,4,5,11,12,94] ?_;simp[xK,Bo,dN,bT,bv,k1];subst this;exact Le.aL (by simp) (by simp) (by simp) (by simp)
    simp only[Fe];refine aa.cond rfl (λh8=>?_) (λh8=>?_)
    ·have h8:c1=true:=by simpa using h8
     rw[h8]at bN;have bN:=qg bN;have hS2:stepG es own G j=G.set xh (k:Int):=by unfold stepG;rw[hke,hx];simp only[hw,hu,gJ];rw[cM bN]
     have aoC:xh<G.length:=by omega
     have rg:=bA aoC;apply aa.cZ aq fw [1,4,5,11];simp[agk,aoC,rg];apply aa.cZ aq fw [1,4,5,11];simp[VE];rw[av (x:=(k:Int)-1) (by omega)];refine⟨j+1,Le.aL ?_ ?_ ?_ ?_,by omega,by omega⟩
     ·simp
     ·simp
     ·simp[sb,hG,hS2,zh]
     ·simp;omega
    ·have h8:c1=false:=by simpa using h8
     rw[h8]at bN;have bN:=Br bN;have hS2:stepG es own G j=G:=by unfold stepG;rw[hke,hx];simp only[hw,hu,gJ];rw[bX bN]
     apply aa.skip;simp;apply aa.cZ aq fw [1,4,5,11];simp[VE];rw[av (x:=(k:Int)-1) (by omega)];refine⟨j+1,Le.aL ?_ ?_ ?_ ?_,by omega,by omega⟩
     ·simp
     ·simp
     ·simp[sb,hG,hS2,zh]
     ·simp;omega
   ·have h9:¬0<=k:=by simpa using h9
    have hj2:j=es.length:=by omega
    subst hj2;subst hG;apply aa.exit;simp;apply aa.ai aq fw [2,3];simp[agl];apply aa.ret;simp[VF]
end
def Ka{n:ay}{dm:ba}(hn:fk n)(hp:gz n dm):J8 n.ae (wE n dm):=by
 have h:=hn.ok;obtain⟨p1,p2⟩:=hp;refine⟨by have:=h.1;omega,by have:=h.2.1;omega,by simp only[wE,Rd];have:=h.2.2.1;omega,λe he=>?_⟩;simp only[wE,j3]at he;obtain⟨r,hr,rfl⟩:=he;obtain⟨q1,q2,q3,q4,q5⟩:=h.2.2.2 r hr;have hc:0<=(lz dm r).aA/\(lz dm r).aA<=4000000000000:=by
  unfold lz;split
  ·rename_i h2;have ha:r.a.toNat<dm.length:=by omega
   have:=p2 _ ha;unfold Ht at this;simp only;omega
  ·simp only;omega
 refine⟨q1,q2,λt ht=>?_,hc.1,hc.2,by have:=M6 r;simp only[lz];omega⟩;simp only[lz,mh]at ht;split at ht
 ·simp only[gN]at ht;omega
 ·split at ht
  ·simp only[nH,Zb4,Zc0]at ht;omega
  ·cases ht
def mi(n:ay)(dm:ba):List cX:=if fk n/\gz n dm then r9 n.ae (wE n dm)else []
abbrev s20:DM.Spec:=bp (λts=>∃a b c l,ts=[.agg [ti a,ti b,ti c,.sl (aQ l)]]/\l.length<=9223372036854775807) (fun|[n]=>.bool (decide (fk (mt n)))|_=>.bool false) true
abbrev s44:DM.Spec:=bp (λts=>∃a b c l i,ts=[.agg [ti a,ti b,ti c,.sl (aQ l)],.sl (au i)]/\i.length<=9223372036854775807) (fun|[n,.sl i]=>.bool (decide (gz (mt n) (eM i)))|_=>.bool false) true
abbrev s67:DM.Spec:=bp (λts=>∃a b c l i,ts=[.agg [ti a,ti b,ti c,.sl (aQ l)],.sl (au i)]/\qf ⟨a,b,c,l⟩/\gz ⟨a,b,c,l⟩ i) (fun|[n,.sl i]=>.agg [ti (mt n).ae,.sl (bV (wE (mt n) (eM i)))]|_=>.bool false) false
abbrev s66:DM.Spec:=bp (λts=>∃nd es,ts=[.agg [ti nd,.sl (bV es)]]/\J8 nd es) (fun|[.agg [.int _ nd,.sl es]]=>.dh [.sl (cU (r9 nd (Dl es))),.sl (au (mH (Dl es) (r9 nd (Dl es)) nd es.length))]|_=>.bool false) false
abbrev s45:DM.Spec:=bp (λts=>∃a b c l i,ts=[.agg [ti a,ti b,ti c,.sl (aQ l)],.sl (au i)]/\l.length<=9223372036854775807/\i.length<=9223372036854775807) (fun|[n,.sl i]=>.sl (cU (mi (mt n) (eM i)))|_=>.bool false) false
def auz:aw ap (bz [(41,s20),(98,s44),(142,s67),(91,s66)]):=by
 refine aw.cons (aw.cons (aw.cons (aw.cons aw.nil ?_) ?_) ?_) ?_
 ·rintro ts ⟨nd,es,rfl,h⟩;exact⟨by simpa using t66 nd es h,λh=>by cases h⟩
 ·rintro ts ⟨a,b,c,l,i,rfl,h1,h2⟩;exact⟨by simpa [ay.enc]using t67 ⟨a,b,c,l⟩ i h1 h2,λh=>by cases h⟩
 ·rintro ts ⟨a,b,c,l,i,rfl,h⟩;exact⟨by simpa [ay.enc]using t44 ⟨a,b,c,l⟩ i h,λ_=>rfl⟩
 ·rintro ts ⟨a,b,c,l,rfl,h⟩;exact⟨by simpa [ay.enc]using t20 ⟨a,b,c,l⟩ h,λ_=>rfl⟩
def t45(n:ay)(dm:ba)(h1:n.aj.length<=9223372036854775807)(h2:dm.length<=9223372036854775807):aJ ap 99 [n.enc,.sl (au dm)] (.sl (cU (mi n dm))):=by
 obtain⟨R,hR⟩:=aY (mi n dm);rw[hR];unfold mi at hR;obtain⟨nt,nn,ns,aj⟩:=n;simp only at h1;have aq:=auz;refine c45.ok (by simp) (aH ?_);simp[ay.enc];apply aa.ai aq fw [1,2];simp[VI];refine aa.lk (o:=[]) (l:=[(1,.v (.sl (au dm))),(2,.v (.box [ti nt,ti nn,ti ns,.sl (aQ aj)]))]) (bn:=1200) (by simp) ?_;apply aa.seq;obtain⟨c1,bN⟩:=aY (decide (¬fk ⟨nt,nn,ns,aj⟩\/¬gz ⟨nt,nn,ns,aj⟩ dm):Bool);refine aa.bL aq fw [(1,.v (.sl (au dm))),(2,.v (.box [ti nt,ti nn,ti ns,.sl (aQ aj)])),(15,.v (.bool c1))] ?_ ?_
 ·by_cases q1:fk ⟨nt,nn,ns,aj⟩
  ·by_cases q2:gz ⟨nt,nn,ns,aj⟩ dm
   ·have:c1=false:=by rw[<-bN];simp[q1,q2]
    simp[JN,ze,h1,h2,q1,q2,this]
   ·have:c1=true:=by rw[<-bN];simp[q2]
    simp[JN,ze,h1,h2,q1,q2,this]
  ·have:c1=true:=by rw[<-bN];simp[q1]
   simp[JN,ze,h1,q1,this]
 refine aa.cond rfl (λg=>?_) (λg=>?_)
 ·rw[g]at bN;have bN:=qg bN;rw[bX (λh=>bN.elim (λq=>q h.1) (λq=>q h.2))]at hR;subst hR;apply aa.ai aq fw [4];simp[VJ];apply aa.ret;simp[dI]
 ·rw[g]at bN;have bN:=Br bN;simp only[not_or,Classical.not_not]at bN;obtain⟨Bb,nk⟩:=bN;apply aa.skip;simp;rw[cM ⟨Bb,nk⟩]at hR;have hg:=Ka Bb nk;have hn:=Bb.ok;simp only at hR hg;apply aa.ai aq fw [5];simp[VK,ze,hn,nk,hg,hR];apply aa.ai aq fw [4];simp[VL];apply aa.ret;simp[dI]
def wG(v:List cX)(i:Nat):Prop:=¬(v.getD i default).size>1000
instance(v:List cX)(i:Nat):Decidable (wG v i):=by unfold wG;infer_instance
def Kb(n:ay)(dm:ba):Prop:=(fk n/\gz n dm)/\∀i,i<(mi n dm).length->wG (mi n dm) i
instance(n:ay)(dm:ba):Decidable (Kb n dm):=by unfold Kb;infer_instance
def auA:aw ap (bz [(41,s20),(98,s44),(99,s45)]):=by
 refine aw.cons (aw.cons (aw.cons aw.nil ?_) ?_) ?_
 ·rintro ts ⟨a,b,c,l,i,rfl,h1,h2⟩;exact⟨by simpa [ay.enc]using t45 ⟨a,b,c,l⟩ i h1 h2,λh=>by cases h⟩
 ·rintro ts ⟨a,b,c,l,i,rfl,h⟩;exact⟨by simpa [ay.enc]using t44 ⟨a,b,c,l⟩ i h,λ_=>rfl⟩
 ·rintro ts ⟨a,b,c,l,rfl,h⟩;exact⟨by simpa [ay.enc]using t20 ⟨a,b,c,l⟩ h,λ_=>rfl⟩
def Kc{n:ay}{dm:ba}(h1:fk n)(h2:gz n dm):(mi n dm).length<=1000:=by
 unfold mi;rw[cM ⟨h1,h2⟩];have:=(u0 (Ka h1 h2)).1;have:=h1.ok.2.1;omega
def t22(n:ay)(dm:ba)(h1:n.aj.length<=9223372036854775807)(h2:dm.length<=9223372036854775807):aJ ap 44 [n.enc,.sl (au dm)] (.bool (decide (Kb n dm))):=by
 obtain⟨v,hv⟩:=aY (decide (Kb n dm));rw[hv];have dB:Kb n dm↔(fk n/\gz n dm)/\∀i,i<(mi n dm).length->wG (mi n dm) i:=Iff.rfl;have cW:¬Kb n dm->v=false:=λh=>by rw[<-hv];simp[h]
 have hll:=λa b=>Kc (n:=n) (dm:=dm) a b;obtain⟨V,hV⟩:=aY (mi n dm);rw[hV]at dB hll;obtain⟨nt,nn,ns,aj⟩:=n;simp only at h1;have aq:=auA;refine c22.ok (by simp) (aH ?_);simp[ay.enc];apply aa.ai aq fw [1,2];simp[ank];refine aa.lk (o:=[]) (l:=[(1,.v (.sl (au dm))),(2,.v (.box [ti nt,ti nn,ti ns,.sl (aQ aj)]))]) (bn:=1200) (by simp) ?_;apply aa.seq;obtain⟨c1,bN⟩:=aY (decide (¬fk ⟨nt,nn,ns,aj⟩\/¬gz ⟨nt,nn,ns,aj⟩ dm):Bool);refine aa.bL aq fw [(1,.v (.sl (au dm))),(2,.v (.box [ti nt,ti nn,ti ns,.sl (aQ aj)])),(15,.v (.bool c1))] ?_ ?_
 ·by_cases q1:fk ⟨nt,nn,ns,aj⟩
  ·by_cases q2:gz ⟨nt,nn,ns,aj⟩ dm
   ·have:c1=false:=by rw[<-bN];simp[q1,q2]
    simp[VN,ze,h1,h2,q1,q2,this]
   ·have:c1=true:=by rw[<-bN];simp[q2]
    simp[VN,ze,h1,h2,q1,q2,this]
  ·have:c1=true:=by rw[<-bN];simp[q1]
   simp[VN,ze,h1,q1,this]
 refine aa.cond rfl (λg=>?_) (λg=>?_)
 ·rw[g]at bN;have bN:=qg bN;apply aa.ai aq fw [4];simp[anl];apply aa.ret;rw[cW λh=>bN.elim (λq=>q (dB.1 h).1.1) (λq=>q (dB.1 h).1.2)];simp[dI]
 ·rw[g]at bN;have bN:=Br bN;simp only[not_or,Classical.not_not]at bN;obtain⟨Bb,nk⟩:=bN;apply aa.skip;simp;have hVl:=hll Bb nk;apply aa.ai aq fw [5];simp[anm,ze,h1,h2,hV];apply aa.sq aq fw [5,6];simp[ann];apply aa.block;refine aa.loop (λy:Nat=>⟨DM.look [(5,.v (.sl (cU V))),(6,.v (ti y))],cR [],2000,1000,[]⟩)
   (λy=>y<=V.length/\∀i,i<y->wG V i) (λy=>V.length-y) 0 (Le.aL (o:=[]) ?_ ?_ ?_ ?_) (by simp) (λy hy=>?_)
  iterate 4(·simp)
  obtain⟨vy,fI⟩:=hy;apply aa.sq aq fw [5,6,22];simp[ano];refine aa.cond rfl (λaS=>?_) (λaS=>?_)
  ·have aS:y<V.length:=by simpa using aS
   apply aa.skip;simp;apply aa.seq;apply aa.block;have rr:=jU aS;obtain⟨x,hx⟩:=aY (V.getD y default);rw[hx]at rr;apply aa.ai aq fw [5,6,30];simp[anp,aS,rr];refine aa.cond rfl (λh8=>?_) (λh8=>?_)
   ·have h8:x.size>1000:=by simpa using h8
    apply aa.ai aq fw [4];simp[anq];apply aa.ret;rw[cW λh=>by have:=(dB.1 h).2 y aS;unfold wG at this;rw[hx]at this;exact this h8];simp[dI]
   ·have h8:¬x.size>1000:=by simpa using h8
    apply aa.skip;simp;apply aa.cZ aq fw [5,6];simp[anr];rw[av (x:=(y:Int)+1) (by omega)];refine⟨y+1,Le.aL (o:=[]) ?_ ?_ ?_ ?_,⟨by omega,λi hi=>?_⟩,by omega⟩;iterate 4(·simp)
    ·by_cases e:i=y
     ·subst e;unfold wG;rw[hx];exact h8
     ·exact fI i (by omega)
  ·have El:y=V.length:=by simp at aS;omega
   subst El;apply aa.exit;simp;apply aa.ai aq fw [4];simp[ans];apply aa.ret;have:v=true:=by rw[<-hv];exact decide_eq_true (dB.2 ⟨⟨Bb,nk⟩,fI⟩)
   rw[this];simp[dI]
section
variable{st nn:Int}{f:Nat}{cells:List Cell}
def Hr(l:List Cell):iY.je (bl l).flatten=true:=by
 induction l with
 |nil=>rfl
 |cons x l ih=>simpa [bl,Cell.enc,iY.je,iY]using ih
def Df{k:Nat}(h:(k:Int)<=st)(hf:f<=k):pre st f<=pre st k:=by
 induction k with
 |zero=>
   obtain rfl:f=0:=by omega
   omega
 |succ k ih=>
  by_cases e:f=k+1
  ·subst e;omega
  ·have:=ih (by omega) (by omega);simp only[pre];omega
def Hs(st:Int):∀n:Nat,2*pre st n=n*(2*st-n+1)
 |0=>by simp[pre]
 |n+1=>by
  have:=Hs st n;simp only[pre];have e:2*(pre st n+st-n)=2*pre st n+2*st-2*n:=by omega
  rw[e,this]
  push_cast
  grind
def qD(h:0<=st):i6 nn st=nn*pre st st.toNat:=by
 unfold i6;have h2:=Hs st st.toNat;rw[show((st.toNat:Nat):Int)=st by omega]at h2;have e:nn*st*(st+1)=2*(nn*pre st st.toNat):=by grind
 rw[e];omega
def Dh{t:Nat}(h1:0<nn)(h3:(t:Int)<st)(h4:f<=t){i:Int}(hi:i<nn):dO nn st f t+i<i6 nn st:=by
 rw[qD (by omega)];have h5:=Df (st:=st) (f:=f+1) (k:=st.toNat) (by omega) (by omega);simp only[pre]at h5;have h6:(pre st f+t-f+1)*nn<=pre st st.toNat*nn:=ZbS (by omega) (by omega);unfold dO;rw[ZcC nn];have:(pre st f+t-f+1)*nn=(pre st f+t-f)*nn+nn:=by grind
 omega
def wC(cells own:List Cell)(dC:Nat)(y:Nat):List Cell:=(List.range y).foldl (λcs i=>cs.set (dC+i) (own.getD i default)) cells
def uX(cells own:List Cell)(dC y:Nat):wC cells own dC (y+1)=(wC cells own dC y).set (dC+y) (own.getD y default):=by simp[wC,tp,Ec]
@[simp] def JZ(cells own:List Cell)(dC y:Nat):(wC cells own dC y).length=cells.length:=by
 induction y with
 |zero=>rfl
 |succ y ih=>rw[uX,ZcN,ih]
def Wb{own:List Cell}{dC y:Nat}{x:Cell}(h:x∈wC cells own dC y)(hy:y<=own.length):x∈cells\/x∈own:=by
 induction y with
 |zero=>exact .inl h
 |succ y ih=>
  rw[uX]at h;rcases Zcp h with h|rfl
  ·exact ih h (by omega)
  ·exact .inr (bu (by omega))
def ya(n:ay)(l:aF)(len:Nat)(cells:List Cell)(f:Nat):List Cell:=
 wC cells (sP n l ⟨n.ae,l.am,cells⟩ f ((f:Int)+len)) (dO n.ae l.am f (f+len)).toNat n.ae.toNat
def mf(n:ay)(l:aF)(cells:List Cell)(len:Nat):List Cell:=(List.range (l.am.toNat-len)).foldl (ya n l len) cells
def qR(n:ay)(l:aF):List Cell:=(List.range l.am.toNat).foldl (mf n l) (List.replicate (i6 n.ae l.am).toNat ⟨0,0,0,0⟩)
def i7(n:ay)(l:aF):bI:=⟨n.ae,l.am,qR n l⟩
abbrev s23:DM.Spec:=bp (λts=>∃n s:Int,ts=[ti n,ti s]/\0<=n/\n<=1000000/\0<=s/\s<=1000000) (fun|[.int _ n,.int _ s]=>ti (i6 n s)|_=>.bool false) true
abbrev s24:DM.Spec:=CA (λts=>∃nt nn ns aj ls aK dM cn cs cl,∃fr to:Int,ts=[.agg [ti nt,ti nn,ti ns,.sl (aQ aj)],.agg [ti ls,.sl (bq aK),.sl (au dM)],.agg [ti cn,ti cs,.sl (bl cl)],ti fr,ti to]/\
  qf ⟨nt,nn,ns,aj⟩/\wB ⟨ls,aK,dM⟩/\JT ⟨cn,cs,cl⟩/\0<=fr/\fr<=to/\to<=1000)
 (fun|[n,l,c,.int _ fr,.int _ to]=>bl (sP (mt n) (sV l) (s6 c) fr to)|_=>[]) 151 4
def okB:aw ap (bz [(88,s24),(87,s23),(89,s25)]):=by
 refine aw.ad7 (aw.cons (aw.cons aw.nil ?_) ?_) ?_
 ·rintro ts ⟨n,st,f,t,rfl,h1,h2,h3,h4,h5,h6,h7⟩;obtain⟨f,rfl⟩:=jE h4;obtain⟨t,rfl⟩:=jE (a:=t) (by omega);exact⟨by simpa using t25 n st f t h1 h2 h3 h5 (by omega) (by omega),λ_=>rfl⟩
 ·rintro ts ⟨n,s,rfl,h1,h2,h3,h4⟩;exact⟨by simpa using t23 n s h1 h2 h3 h4,λ_=>rfl⟩
 ·rintro ts ⟨nt,nn,ns,aj,ls,aK,dM,cn,cs,cl,fr,to,rfl,h1,h2,h3,h4,h5,h6⟩;obtain⟨fr,rfl⟩:=jE h4;obtain⟨to,rfl⟩:=jE (a:=to) (by omega);exact⟨by simpa [ay.enc,aF.enc,bI.enc]using t24 ⟨nt,nn,ns,aj⟩ ⟨ls,aK,dM⟩ ⟨cn,cs,cl⟩ fr to h1 h2 h3 (by omega) (by omega),Hr _⟩
def Dg{n:ay}{l:aF}{c:bI}{fr to:Nat}(hn:qf n)(hl:wB l)(hc:JT c)(yF:fr<=to)(nJ:to<=1000):nC n (sP n l c fr to):=
 (JX hn hl hc yF nJ (λ_=>True) trivial λ_ _ _ _ _=>trivial).1
def jD(n:ay)(l:aF)(cells:List Cell):Prop:=(cells.length:Int)=i6 n.ae l.am/\∀x∈cells,mG x.val
def jD.ok{n:ay}{l:aF}(hn:qf n)(hl:wB l)(h:jD n l cells):JT ⟨n.ae,l.am,cells⟩:=by
 have h1:=hn.1;have h2:=hn.2.1;have h3:=hl.1;have h4:=hl.2.1;refine⟨by simp only;omega,h2,by simp only;omega,h4, ?_,h.2⟩;have:=qD (nn:=n.ae) (st:=l.am) (by omega);have hb:=(d5 h4 l.am.toNat (by omega));have:=g9 (a:=n.ae) (A:=1000) (b:=pre l.am l.am.toNat) (B:=1000000) (by omega) (by omega) hb.1 (by omega);have:=h.1;simp only;omega
def jD.step{n:ay}{l:aF}(hn:qf n)(hl:wB l)(h:jD n l cells){len y:Nat}(yF:f+len<=1000)(hy:y<=n.ae.toNat)(a:Nat):jD n l (wC cells (sP n l ⟨n.ae,l.am,cells⟩ f ((f:Int)+len)) a y):=by
 have ho:=Dg hn hl (h.ok hn hl) (fr:=f) (to:=f+len) (by omega) yF;rw[show((f+len:Nat):Int)=(f:Int)+len by omega]at ho;refine⟨by rw[JZ];exact h.1,λx hx=>?_⟩;rcases Wb hx (by have:=ho.1;omega)with hx|hx
 ·exact h.2 x hx
 ·exact(ho.2 x hx).1
def Bp{n:ay}{l:aF}{cells:List Cell}(hn:qf n)(hl:wB l)(h:jD n l cells){len:Nat}:∀k,(k+len:Nat)<=1001->jD n l ((List.range k).foldl (ya n l len) cells)
 |0,_=>h
 |k+1,hk=>by
  rw[tp,Ec];exact(Bp hn hl h k (by omega)).step hn hl (by omega) (eT _) _
def Wc{n:ay}{l:aF}(hn:qf n)(hl:wB l):jD n l (List.replicate (i6 n.ae l.am).toNat ⟨0,0,0,0⟩):=by
 have h4:=hl.2.1;have hb:=(d5 h4 l.am.toNat (by have:=hl.1;omega));have:=Zcu (a:=n.ae) (by have:=hn.1;omega) hb.1;have:=qD (nn:=n.ae) (st:=l.am) (by have:=hl.1;omega);refine⟨by rw[ZbH];omega,λx hx=>?_⟩;rw[Zcv hx];simp[mG]
def Di{n:ay}{l:aF}(hn:qf n)(hl:wB l):∀k:Nat,(k:Int)<=l.am->jD n l ((List.range k).foldl (mf n l) (List.replicate (i6 n.ae l.am).toNat ⟨0,0,0,0⟩)):=by
 intro k;induction k with
 |zero=>intro _;exact Wc hn hl
 |succ k ih=>
  intro hk;rw[tp,Ec];exact Bp hn hl (ih (by omega)) _ (by have:=hl.2.1;omega)
def t11(n:ay)(l:aF)(hn:qf n)(hl:wB l):aJ ap 33 [n.enc,l.enc] (i7 n l).enc:=by
 obtain⟨R,hR⟩:=aY (qR n l);have Ts:i7 n l=⟨n.ae,l.am,R⟩:=by rw[<-hR];rfl
 rw[Ts];unfold qR at hR;have h0:=Wc hn hl;have cK:=Di hn hl;have gf:=λcells (h:jD n l cells) len=>Bp hn hl h (len:=len);have iO:=λcells (h:jD n l cells) f len y=>h.step hn hl (f:=f) (len:=len) (y:=y);have aN:=λcells (h:jD n l cells)=>h.ok hn hl;obtain⟨nt,nn,ns,aj⟩:=n;obtain⟨ls,aK,dM⟩:=l;have aq:=okB;have hn1:1<=nn:=hn.1;have FF:nn<=1000:=hn.2.1;have hl1:1<=ls:=hl.1;have BS:ls<=1000:=hl.2.1;simp only at hR h0 cK gf iO aN;have wg:0<=i6 nn ls/\i6 nn ls<=1000000000:=by
  have:=(aN _ h0).2.2.2.2.1;have:=h0.1;simp only at*
  have:=qD (nn:=nn) (st:=ls) (by omega);have hb:=(d5 BS ls.toNat (by omega));have:=g9 (a:=nn) (A:=1000) (b:=pre ls ls.toNat) (B:=1000000) (by omega) (by omega) hb.1 (by omega);omega
 have aq:=okB;refine c11.ok (by simp) (aH ?_);simp[ay.enc,aF.enc,bI.enc];apply aa.ai aq fw [2,3,4];simp[VV];refine aa.lk (o:=[(1005,.box [.v (ti 0),.v (ti 0),.aZ])]) (l:=[(2,.v (.box [ti nt,ti nn,ti ns,.sl (aQ aj)])),(3,.v (.box [ti ls,.sl (bq aK),.sl (au dM)])),(4,.ptr 1005 0)]) (bn:=1200) (by simp) ?_;apply aa.ai aq fw [2,3,4,5];simp[VW,ze,cw];repeat (refine⟨by omega, ?_⟩)
 refine aa.le (Le.aL (o:=[(1005,.box [.v (ti 0),.v (ti 0),.aZ]),(1206,.box [.v (ti nn),.v (ti ls),.aW 1221 0]),(1221,.bm 0 151 4 (bl ((List.replicate (i6 nn ls).toNat ⟨0,0,0,0⟩))))]) (l:=[(2,.v (.box [ti nt,ti nn,ti ns,.sl (aQ aj)])),(3,.v (.box [ti ls,.sl (bq aK),.sl (au dM)])),(4,.ptr 1005 0),(5,.ptr 1206 0)]) (bn:=1400) ?_ ?_ ?_ ?_) ?_
 ·simp
 ·simp
 ·simp[bl,Cell.enc]
 ·simp
 apply aa.sq aq fw [2,3,4,5,6];simp[VX];apply aa.block;refine aa.loop (λa:Nat=>⟨DM.look [(2,.v (.box [ti nt,ti nn,ti ns,.sl (aQ aj)])),(3,.v (.box [ti ls,.sl (bq aK),.sl (au dM)])),(4,.ptr 1005 0),(5,.ptr 1206 0),(6,.v (ti a))],cR [(1005,.box [.v (ti 0),.v (ti 0),.aZ]),(1206,.box [.v (ti nn),.v (ti ls),.aW 1221 0]),(1221,.bm 0 151 4 (bl ((List.range a).foldl (mf ⟨nt,nn,ns,aj⟩ ⟨ls,aK,dM⟩) (List.replicate (i6 nn ls).toNat ⟨0,0,0,0⟩))))],2000,1000,[]⟩)
  (λa=>(a:Int)<=ls) (λa=>ls.toNat-a) 0 (Le.aL ?_ ?_ ?_ ?_) (by omega) (λa hy=>?_)
 iterate 4(·simp)
 obtain⟨A,hA⟩:=aY ((List.range a).foldl (mf ⟨nt,nn,ns,aj⟩ ⟨ls,aK,dM⟩) (List.replicate (i6 nn ls).toNat ⟨0,0,0,0⟩));have hA1:=cK a hy;rw[hA]at hA1;rw[hA];apply aa.sq aq fw [2,3,4,5,6,25];simp[VY];refine aa.cond rfl (λaS=>?_) (λaS=>?_)
 ·have aS:(a:Int)<ls:=by simpa using aS
  apply aa.skip;simp;apply aa.seq;apply aa.block;apply aa.ai aq fw [2,3,4,5,6,7];simp[VZ];apply aa.block;refine aa.loop (λb:Nat=>⟨DM.look [(2,.v (.box [ti nt,ti nn,ti ns,.sl (aQ aj)])),(3,.v (.box [ti ls,.sl (bq aK),.sl (au dM)])),(4,.ptr 1005 0),(5,.ptr 1206 0),(6,.v (ti a)),(7,.v (ti b))],cR [(1005,.box [.v (ti 0),.v (ti 0),.aZ]),(1206,.box [.v (ti nn),.v (ti ls),.aW 1221 0]),(1221,.bm 0 151 4 (bl ((List.range b).foldl (ya ⟨nt,nn,ns,aj⟩ ⟨ls,aK,dM⟩ a) A)))],3000,1000,[]⟩)
   (λb=>(b:Int)+a<=ls) (λb=>ls.toNat-a-b) 0 (Le.aL ?_ ?_ ?_ ?_) (by simp;omega) (λb hb=>?_)
  iterate 4(·simp)
  obtain⟨B,hB⟩:=aY ((List.range b).foldl (ya ⟨nt,nn,ns,aj⟩ ⟨ls,aK,dM⟩ a) A);have hB1:=gf A hA1 a b (by omega);rw[hB]at hB1;rw[hB];apply aa.sq aq fw [2,3,4,5,6,7,33];simp[V0,av (x:=(b:Int)+a) (by omega)];refine aa.cond rfl (λaaQ=>?_) (λaaQ=>?_)
  ·have aaQ:(b:Int)+a<ls:=by simpa using aaQ
   apply aa.skip;simp;apply aa.seq;apply aa.block;have w1:IntKind.i64.wrap ((b:Int)+a)=(b:Int)+a:=av (by omega);obtain⟨own,iW⟩:=aY (sP ⟨nt,nn,ns,aj⟩ ⟨ls,aK,dM⟩ ⟨nn,ls,B⟩ b ((b:Int)+a));have aoB:=aN B hB1;have hso:=Dg hn hl aoB (fr:=b) (to:=b+a) (by omega) (by omega);rw[show((b+a:Nat):Int)=(b:Int)+a by omega,iW]at hso;have hol:(own.length:Int)=nn:=hso.1;refine aa.fR aq fw (rs:=V1) (.inr ⟨_,pV⟩) (by kernel_rfl) [2,3,4,5,6,7,8] ?_;simp[V1,ze,w1,hn,hl,aoB,iW];repeat (refine⟨by omega, ?_⟩)
   refine aa.lk (o:=[(1005,.box [.v (ti 0),.v (ti 0),.aZ]),(1206,.box [.v (ti nn),.v (ti ls),.aW 1221 0]),(1221,.bm 0 151 4 (bl (B)))]) (l:=[(2,.v (.box [ti nt,ti nn,ti ns,.sl (aQ aj)])),(3,.v (.box [ti ls,.sl (bq aK),.sl (au dM)])),(4,.ptr 1005 0),(5,.ptr 1206 0),(6,.v (ti a)),(7,.v (ti b)),(8,.v (.sl (bl own)))]) (bn:=3400) (by simp) ?_;obtain⟨zc,gG⟩:=aY (dO nn ls b (b+a));have hib:=oi (n:=nn) (st:=ls) (f:=b) (t:=b+a) (by omega) FF BS (by omega) (by omega) (by omega);have hix:=λ(i:Int) (hi:i<nn)=>Dh (nn:=nn) (st:=ls) (f:=b) (t:=b+a) (by omega) (by omega) (by omega) hi;rw[gG]at hib hix;obtain⟨zc,rfl⟩:=jE hib.1;have e1:((b:Int)+a).toNat=b+a:=by omega
   have M4:ya ⟨nt,nn,ns,aj⟩ ⟨ls,aK,dM⟩ a B b=wC B own zc own.length:=by unfold ya;simp only[iW,gG,gJ];rw[show nn.toNat=own.length by omega]
   apply aa.ai aq fw [2,3,4,5,6,7,8,9];simp[V2,ze,w1,e1,gG];repeat (refine⟨by omega, ?_⟩)
   apply aa.ai aq fw [2,3,4,5,6,7,8,9,10];simp[V3];apply aa.block;refine aa.loop (λy:Nat=>⟨DM.look [(2,.v (.box [ti nt,ti nn,ti ns,.sl (aQ aj)])),(3,.v (.box [ti ls,.sl (bq aK),.sl (au dM)])),(4,.ptr 1005 0),(5,.ptr 1206 0),(6,.v (ti a)),(7,.v (ti b)),(8,.v (.sl (bl own))),(9,.v (ti zc)),(10,.v (ti y))],cR [(1005,.box [.v (ti 0),.v (ti 0),.aZ]),(1206,.box [.v (ti nn),.v (ti ls),.aW 1221 0]),(1221,.bm 0 151 4 (bl (wC B own zc y)))],4000,1000,[]⟩)
    (λy=>y<=own.length) (λy=>own.length-y) 0 (Le.aL ?_ ?_ ?_ ?_) (by simp) (λy El=>?_)
   ·simp
   ·simp
   ·simp[wC]
   ·simp
   apply aa.sq aq fw [2,3,4,5,6,7,8,9,10,56];simp[V4];refine aa.cond rfl (λh9=>?_) (λh9=>?_)
   ·have h9:y<own.length:=by simpa using h9
    apply aa.skip;simp;apply aa.seq;apply aa.block;have ro:=iQ h9;obtain⟨x,hx⟩:=aY (own.getD y default);rw[hx]at ro;have hbl:(B.length:Int)=i6 nn ls:=hB1.1;have cQ:=hix y (by omega);have AV:zc+y<B.length:=by omega
    have rz:=iQ (l:=wC B own zc y) (y:=zc+y) (by simpa using AV);rw[show((zc+y:Nat):Int)=(zc:Int)+y by omega]at rz;have e2:((zc:Int)+y).toNat=zc+y:=by omega
    have w2:IntKind.i64.wrap ((zc:Int)+y)=((zc+y:Nat):Int):=by rw[av (by omega)];omega
    apply aa.cZ aq fw [2,3,4,5,6,7,8,9,10];simp[MQ,w2,h9,ro,Cell.enc,AV,rz,e2];repeat (refine⟨by omega, ?_⟩)
    apply aa.cZ aq fw [2,3,4,5,6,7,8,9,10];simp[MR];rw[av (x:=(y:Int)+1) (by omega)];refine⟨y+1,Le.aL ?_ ?_ ?_ ?_,by omega,by omega⟩
    ·simp
    ·simp
    ·simp[uX,wD,-List.getD_eq_getElem?_getD,hx,Cell.enc]
    ·simp
   ·have wp:y=own.length:=by simp at h9;omega
    subst wp;apply aa.exit;simp;apply aa.cZ aq fw [2,3,4,5,6,7];simp[MS];rw[av (x:=(b:Int)+1) (by omega)];refine⟨b+1,Le.aL ?_ ?_ ?_ ?_,by omega,by omega⟩
    ·simp
    ·simp
    ·simp[tp,Ec,hB,M4]
    ·simp
  ·have fI:b=ls.toNat-a:=by simp at aaQ;omega
   subst fI;apply aa.exit;simp;apply aa.cZ aq fw [2,3,4,5,6];simp[MT];rw[av (x:=(a:Int)+1) (by omega)];refine⟨a+1,Le.aL ?_ ?_ ?_ ?_,by omega,by omega⟩
   ·simp
   ·simp
   ·simp[tp,Ec,hA,mf,hB]
   ·simp
 ·have fI:a=ls.toNat:=by simp at aS;omega
  subst fI;rw[hR]at hA;subst hA;apply aa.exit;simp;apply aa.ai aq fw [4];simp[MU];apply aa.ret;simp[C9]
end
inductive gC(n:ay)(l:aF):Int->Nat->Nat->Nat->Int->cX->Prop
 |empty {s k:Nat} {r:bC} (hk:n.aj[k]? =some r) (h1:r.kind=1) (hv:(co r.bi []).aA<1099511627776):gC n l r.head s s k s (co r.bi [])
 |term {s t k a:Nat} {r:bC} {x:bF} (hk:n.aj[k]? =some r) (h1:r.kind=2) (ha:l.aK[a]? =some x) (h2:x.f=s) (h3:x.t=t) (h4:x.term=r.a)
   (hv:(co (r.bi+x.aA) []).aA<1099511627776):gC n l r.head s t k a (co (r.bi+x.aA) [])
 |unary {s t k k1:Nat} {g1:Int} {r:bC} {v:cX} (hk:n.aj[k]? =some r) (h1:r.kind=3) (d:gC n l r.a s t k1 g1 v) (hv:(co r.bi [v]).aA<1099511627776):gC n l r.head s t k s (co r.bi [v])
 |fW {s m t k k1 k2:Nat} {g1 g2:Int} {r:bC} {v w:cX} (hk:n.aj[k]? =some r) (h1:r.kind=4) (hs:s<=m) (ht:m<=t) (d1:gC n l r.a s m k1 g1 v) (d2:gC n l r.b m t k2 g2 w)
   (hv:(co r.bi [v,w]).aA<1099511627776):gC n l r.head s t k m (co r.bi [v,w])
def Tq(n:ay)(l:aF)(h:Int)(s t:Nat)(v:cX):Prop:=∃k g,gC n l h s t k g v
def JS(k:Int)(g:Int)(k':Int)(g':Int):Prop:=k<k'\/(k=k'/\g<=g')
structure Good(n:ay)(l:aF)(h:Int)(s t:Nat)(x:Cell):Prop where
 sN:∀v,Tq n l h s t v->¬v.lt x.val
 top:x=mc\/((∃k:Nat,x.lb=k/\gC n l h s t k x.arg x.val)/\∀(k':Nat) g',gC n l h s t k' g' x.val->JS x.lb x.arg k' g')
def gC.dM{n:ay}{l:aF}{h:Int}{s t k:Nat}{g:Int}{v:cX}(d:gC n l h s t k g v):v.aA<1099511627776:=by
 cases d<;>assumption
def Tq.dM{n:ay}{l:aF}{h:Int}{s t:Nat}{v:cX}(d:Tq n l h s t v):v.aA<1099511627776:=by
 obtain⟨k,g,d⟩:=d;exact d.dM
def cX.pc{a b:cX}(h1:¬a.lt b)(h2:¬b.lt a):a=b:=by
 obtain⟨a1,a2⟩:=a;obtain⟨b1,b2⟩:=b;simp only[cX.lt]at h1 h2;have:a1=b1:=by omega
 have:a2=b2:=by omega
 simp[*]
def Au(c:Int):co c []=if c>=1099511627776 then⟨1099511627776,0⟩else⟨c,1⟩:=rfl
def Av(c:Int)(v:cX):co c [v]=if min (c+v.aA) 1099511627776>=1099511627776 then⟨1099511627776,0⟩else⟨min (c+v.aA) 1099511627776,min (1+v.size) 1099511627776⟩:=rfl
def FB(c:Int)(v w:cX):co c [v,w]=if min (min (c+v.aA) 1099511627776+w.aA) 1099511627776>=1099511627776 then⟨1099511627776,0⟩else⟨min (min (c+v.aA) 1099511627776+w.aA) 1099511627776,min (min (1+v.size) 1099511627776+w.size) 1099511627776⟩:=rfl
def Si{c:Int}{v:cX}(hc:0<=c)(h:(co c [v]).aA<1099511627776):v.aA<1099511627776:=by
 rw[Av]at h;split at h
 ·simp at h
 ·simp only at h;omega
def Sj{c:Int}{v w:cX}(hc:0<=c)(hv:0<=v.aA)(hw:0<=w.aA)(h:(co c [v,w]).aA<1099511627776):v.aA<1099511627776/\w.aA<1099511627776:=by
 rw[FB]at h;split at h
 ·simp at h
 ·simp only at h;omega
def mT{c:Int}{v v':cX}(h:¬v.lt v'):¬(co c [v]).lt (co c [v']):=by
 rw[Av,Av];unfold cX.lt at h⊢;split<;>split<;>simp only<;>omega
def pd{c:Int}{v v' w w':cX}(p1:0<=v.aA)(p2:0<=v'.aA)(p3:0<=w.aA)(p4:0<=w'.aA)(hv:¬v.lt v')(hw:¬w.lt w'):¬(co c [v,w]).lt (co c [v',w']):=by
 rw[FB,FB];unfold cX.lt at hv hw⊢;split<;>split<;>simp only<;>omega
def iP{a b c:cX}(h:¬b.lt a)(k:¬c.lt b):¬c.lt a:=by
 unfold cX.lt at*
 omega
def sO(n:ay)(l:aF)(c:bI)(own:List Cell)(s t:Nat)(k:Nat)(g:Int)(v:cX):Prop:=
 ∃r,n.aj[k]? =some r/\((r.kind=1/\s=t/\g=s/\v=co r.bi [])\/
  (r.kind=2/\∃(a:Nat) (x:bF),l.aK[a]? =some x/\x.f=s/\x.t=t/\x.term=r.a/\g=a/\v=co (r.bi+x.aA) [])\/
  (r.kind=3/\g=s/\v=co r.bi [dv c own s t r.a s t])\/
  (r.kind=4/\∃d:Nat,s+d<=t/\g=s+d/\v=co r.bi [dv c own s t r.a s (s+d),dv c own s t r.b (s+d) t]))
def md(x:Cell)(v:cX)(i g:Int):eZ x v i g=x\/(v.aA<1099511627776/\¬x.val.lt v/\eZ x v i g=⟨v.aA,v.size,i,g⟩):=by
 unfold eZ;split
 ·exact .inl rfl
 ·rename_i h;split
  ·rename_i h2;refine .inr ⟨by omega, ?_,rfl⟩;rcases h2 with h2|⟨rfl,_⟩
   ·unfold cX.lt at*;omega
   ·unfold cX.lt;omega
  ·exact .inl rfl
def rZ{x:Cell}{v:cX}{i g:Int}(h:eZ x v i g=x)(hv:v.aA<1099511627776):¬v.lt x.val/\(v=x.val->JS x.lb x.arg i g):=by
 obtain⟨xc,xs,xr,xa⟩:=x;obtain⟨vc,vs⟩:=v;unfold eZ at h;rw[bX (by simp only at hv⊢;omega)]at h;split at h
 ·rename_i h2;simp only[Cell.mk.injEq]at h;obtain⟨rfl,rfl,rfl,rfl⟩:=h;simp only[Cell.val,cX.lt]at h2;exfalso;rcases h2 with h2|⟨_,h2⟩<;>omega
 ·rename_i h2;simp only[not_or,not_and]at h2;refine⟨h2.1,λe=>?_⟩;have:=h2.2 e;unfold JS;simp only at this⊢;omega
def Hm{n:ay}{l:aF}{c:bI}{own:List Cell}{s t k:Nat}{r:bC}(hk:n.aj[k]? =some r)(Vz:r.kind=1\/r.kind=2\/r.kind=3\/r.kind=4)(iO:s<=t)(x:Cell):
  nB r l c own s t k x=x\/∃g v,sO n l c own s t k g v/\v.aA<1099511627776/\¬x.val.lt v/\nB r l c own s t k x=⟨v.aA,v.size,k,g⟩:=by
 have aoy:∀(f:Cell->Nat->Cell) (N:Nat),(∀y j,j<N->f y j=y\/∃g v,sO n l c own s t k g v/\v.aA<1099511627776/\¬y.val.lt v/\f y j=⟨v.aA,v.size,k,g⟩)->
   (List.range N).foldl f x=x\/∃g v,sO n l c own s t k g v/\v.aA<1099511627776/\¬x.val.lt v/\(List.range N).foldl f x=⟨v.aA,v.size,k,g⟩:=by
  intro f N;induction N with
  |zero=>intro _;exact .inl rfl
  |succ N ih=>
   intro h;rw[tp,Ec];have ih:=ih λy j hj=>h y j (by omega);simp only[zN,Zb9];obtain⟨y,hy⟩:=aY ((List.range N).foldl f x);rw[hy]at ih⊢;rcases h y N (by omega)with e|⟨g,v,h1,h2,h3,h4⟩
   ·rw[e];exact ih
   ·refine .inr ⟨g,v,h1,h2, ?_,h4⟩;rcases ih with rfl|⟨g',v',_,_,h3',rfl⟩
    ·exact h3
    ·have aur:¬(⟨v'.aA,v'.size⟩:cX).lt v:=h3;exact iP aur h3'
 have one:∀(y:Cell) (v:cX) (g:Int),sO n l c own s t k g v->eZ y v k g=y\/∃g v,sO n l c own s t k g v/\v.aA<1099511627776/\¬y.val.lt v/\eZ y v k g=⟨v.aA,v.size,k,g⟩:=by
  intro y v g hi;rcases md y v k g with e|⟨h1,h2,h3⟩
  ·exact .inl e
  ·exact .inr ⟨g,v,hi,h1,h2,h3⟩
 unfold nB;split
 ·rename_i h1;split
  ·rename_i h2;rcases md x (co r.bi []) k s with e|⟨h3,h4,h5⟩
   ·exact .inl e
   ·exact .inr ⟨_,_,⟨r,hk,.inl ⟨h1,by omega,rfl,rfl⟩⟩,h3,h4,h5⟩
  ·exact .inl rfl
 ·split
  ·rename_i h1;refine aoy _ _ λy j hj=>?_;unfold stepT;split
   ·rename_i h2;have ha:l.aK[j]? =some (l.aK.getD j default):=by simp[List.getD,hj]
    rcases md y (co (r.bi+(l.aK.getD j default).aA) []) k j with e|⟨h3,h4,h5⟩
    ·exact .inl e
    ·exact .inr ⟨_,_,⟨r,hk,.inr (.inl ⟨h1,j,_,ha,h2.1,h2.2.1,h2.2.2,rfl,rfl⟩)⟩,h3,h4,h5⟩
   ·exact .inl rfl
  ·split
   ·rename_i h1;rcases md x (co r.bi [dv c own s t r.a s t]) k s with e|⟨h3,h4,h5⟩
    ·exact .inl e
    ·exact .inr ⟨_,_,⟨r,hk,.inr (.inr (.inl ⟨h1,rfl,rfl⟩))⟩,h3,h4,h5⟩
   ·rename_i h1 h2 h3;have h4:r.kind=4:=by omega
    refine aoy _ _ λy j hj=>?_;unfold jh;rcases md y (co r.bi [dv c own s t r.a s (s+j),dv c own s t r.b (s+j) t]) k (s+j)with e|⟨h5,h6,h7⟩
    ·exact .inl e
    ·exact .inr ⟨_,_,⟨r,hk,.inr (.inr (.inr ⟨h4,j,by omega,rfl,rfl⟩))⟩,h5,h6,h7⟩
def Da{f:Cell->Nat->Cell}:∀{N:Nat},(∀x k,k<N->nQ x->goes x (f x k))->∀x,nQ x->(List.range N).foldl f x=x->∀k,k<N->f x k=x
 |0,_,_,_,_,k,h=>by omega
 |N+1,hf,x,hx,he,k,hk=>by
  rw[tp,Ec]at he;simp only[zN,Zb9]at he;have h1:=za (λx k hk=>hf x k (by omega)) x hx (N:=N);obtain⟨z,hz⟩:=aY ((List.range N).foldl f x);rw[hz]at h1 he;have h2:=hf z N (by omega) h1.1;rw[he]at h2;have e:z=x:=by
   rcases h1.2 with e|h1
   ·exact e
   ·rcases h2.2 with e|h2
    ·exact e.symm
    ·omega
  subst e;by_cases hkN:k=N
  ·subst hkN;exact he
  ·exact Da (λx k hk=>hf x k (by omega)) z hx hz k (by omega)
end aT
end Go.Proofs
