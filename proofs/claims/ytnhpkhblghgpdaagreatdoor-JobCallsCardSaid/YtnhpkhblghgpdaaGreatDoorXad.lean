/- Part. Conditions: none. -/
import Derived.Test.YtnhpkhblghgpdaaGreatDoorXac
set_option linter.all false
set_option maxRecDepth 20000
set_option maxHeartbeats 8000000
namespace Go.Proofs
namespace cP
open Go.DM
structure dx where
 (kind head a b cM origin:Int)
 deriving DecidableEq,Inhabited
abbrev DL:=List dx
structure aG where
 (aN au start:Int)
 an:DL
structure dj where
 (aH size:Int)
 deriving DecidableEq,Inhabited
abbrev cm:=List dj
structure Cell where
 (aH size nC arg:Int)
 deriving DecidableEq,Inhabited
abbrev eO:=List Cell
structure di where
 (au bn:Int)
 cells:eO
abbrev Cell.val(c:Cell):dj:=⟨c.aH,c.size⟩
def cR:ay aj (bB []):=ay.nil
def dx.enc(r:dx):aK:=[ti r.kind,ti r.head,ti r.a,ti r.b,ti r.cM,ti r.origin]
def aQ(l:DL):List (aK):=l.map dx.enc
def aG.enc(n:aG):T:=.agg [ti n.aN,ti n.au,ti n.start,.sl (aQ n.an)]
def bN(l:cm):List (aK):=l.map λv=>[ti v.aH,ti v.size]
def Cell.enc(c:Cell):aK:=[ti c.aH,ti c.size,ti c.nC,ti c.arg]
def aZ(l:eO):List (aK):=l.map Cell.enc
def di.enc(c:di):T:=.agg [ti c.au,ti c.bn,.sl (aZ c.cells)]
def kY:aK->dx
 |[a,b,c,d,e,f]=>⟨d0 a,d0 b,d0 c,d0 d,d0 e,d0 f⟩
 |_=>default
def Gc(l:List (aK)):DL:=l.map kY
def oD(l:List (aK)):cm:=l.map fun|[a,b]=>⟨d0 a,d0 b⟩|_=>default
def Kc:aK->Cell
 |[a,b,c,d]=>⟨d0 a,d0 b,d0 c,d0 d⟩
 |_=>default
def ni(l:List (aK)):eO:=l.map Kc
def B8:T->aG
 |.agg [a,b,c,.sl r]=>⟨d0 a,d0 b,d0 c,Gc r⟩
 |_=>⟨0,0,0,[]⟩
def vA:T->di
 |.agg [a,b,.sl r]=>⟨d0 a,d0 b,ni r⟩
 |_=>⟨0,0,[]⟩
@[simp] def sg(r:dx):kY r.enc=r:=by simp[kY,dx.enc,d0]
@[simp] def ae8(l:DL):Gc (aQ l)=l:=ib sg l
@[simp] def agT(l:cm):oD (bN l)=l:=ib (λ_=>rfl) l
@[simp] def M0(r:Cell):Kc r.enc=r:=by simp[Kc,Cell.enc,d0]
@[simp] def ae9(l:eO):ni (aZ l)=l:=ib M0 l
@[simp] def amc(a b c:Int)(l:DL):B8 (.agg [ti a,ti b,ti c,.sl (aQ l)])=⟨a,b,c,l⟩:=by simp[B8,d0]
@[simp] def asn(n:aG):B8 n.enc=n:=by simp[aG.enc]
@[simp] def amd(a b:Int)(l:eO):vA (.agg [ti a,ti b,.sl (aZ l)])=⟨a,b,l⟩:=by simp[vA,d0]
@[simp] def aso(n:di):vA n.enc=n:=by simp[di.enc]
@[simp] def ajp(l:DL):(aQ l).length=l.length:=by simp[aQ]
@[simp] def ame(l:cm):(bN l).length=l.length:=by simp[bN]
@[simp] def ajq(l:eO):(aZ l).length=l.length:=by simp[aZ]
def jC{l:DL}{y:Nat}(h:y<l.length):DM.rowAt (aQ l) y=(l.getD y default).enc:=by simp[DM.rowAt,aQ,h]
def dH{l:cm}{y:Nat}(h:y<l.length):DM.rowAt (bN l) y=[ti (l.getD y default).aH,ti (l.getD y default).size]:=by simp[DM.rowAt,bN,h]
def iO{l:eO}{y:Nat}(h:y<l.length):DM.rowAt (aZ l) y=(l.getD y default).enc:=by simp[DM.rowAt,aZ,h]
@[simp] def Uy:bN []=[]:=rfl
@[simp] def ajr:aZ []=[]:=rfl
def bC{α:Type} [Inhabited α]{l:List α}{i:Nat}(h:i<l.length):l.getD i default∈l:=by simp[List.getD,h]
def dj.lt(a b:dj):Prop:=a.aH<b.aH\/(a.aH=b.aH/\a.size<b.size)
instance(a b:dj):Decidable (a.lt b):=by unfold dj.lt;infer_instance
def t92(u v:dj):bb aj 97 [.agg [ti u.aH,ti u.size],.agg [ti v.aH,ti v.size]] (.bool (decide (u.lt v))):=by
 obtain⟨a,b⟩:=u;obtain⟨c,d⟩:=v;obtain⟨c1,bI⟩:=aW (decide ((⟨a,b⟩:dj).lt ⟨c,d⟩):Bool);rw[bI];simp only[dj.lt]at bI;have aB:=cR;refine c92.ok (by simp) (aM ?_);simp;apply aa.ai aB fw [2,3];simp[anm];refine aa.lk (o:=[]) (l:=[(2,.v (.box [ti a,ti b])),(3,.v (.box [ti c,ti d]))]) (aV:=1200) (by simp) ?_;refine aa.ci aB fw [(4,.v (.bool c1))] ?_ ?_
 ·by_cases q1:a<c
  ·have:c1=true:=by rw[<-bI];simp[q1]
   simp[RN,q1,this]
  ·by_cases q2:a=c
   ·subst q2;by_cases q3:b<d
    ·have:c1=true:=by rw[<-bI];simp[q3]
     simp[RN,q3,this]
    ·have:c1=false:=by rw[<-bI];simp[q3]
     simp[RN,q3,this]
   ·have:c1=false:=by rw[<-bI];simp[q1,q2]
    simp[RN,q1,q2,this]
 apply aa.ret;simp[dw]
def gO:Int->Int->cm->dj
 |c,s,[]=>⟨c,s⟩
 |c,s,v::l=>gO (min (c+v.aH) 1099511627776) (min (s+v.size) 1099511627776) l
def ee(c:Int)(l:cm):dj:=if(gO c 1 l).aH>=1099511627776 then⟨1099511627776,0⟩else gO c 1 l
def Gd(c s:Int)(l:cm)(v:dj):gO c s (l++[v])=⟨min ((gO c s l).aH+v.aH) 1099511627776,min ((gO c s l).size+v.size) 1099511627776⟩:=by
 induction l generalizing c s with
 |nil=>rfl
 |cons x l ih=>simp only[Dy,gO,ih]
def kc(v:dj):Prop:=0<=v.aH/\v.aH<=1099511627776/\0<=v.size/\v.size<=1099511627776
def wH{l:cm}(h:∀v∈l,kc v):∀{c s:Int},0<=c->c<=4000000000000->0<=s->s<=1099511627776->0<=(gO c s l).aH/\(gO c s l).aH<=4000000000000/\0<=(gO c s l).size/\(gO c s l).size<=1099511627776:=by
 induction l with
 |nil=>intro c s h1 h2 h3 h4;exact⟨h1,h2,h3,h4⟩
 |cons x l ih=>
  intro c s h1 h2 h3 h4;obtain⟨g1,g2,g3,g4⟩:=h x (by simp);exact ih (λv hv=>h v (by simp[hv])) (by omega) (by omega) (by omega) (by omega)
def kq{c:Int}{l:cm}(h:∀v∈l,kc v)(h1:0<=c)(h2:c<=4000000000000):kc (ee c l):=by
 have:=wH (c:=c) (s:=1) h h1 h2 (by omega) (by omega);unfold ee kc;split
 ·simp
 ·omega
def dh{α:Type} [Inhabited α]{l:List α}{i:Nat}(h:i<l.length):l.take (i+1)=l.take i++[l.getD i default]:=by
 rw[ZbI,xi h];simp[List.getD,h]
def t69(c:Int)(l:cm)(h:∀v∈l,kc v)(h1:0<=c)(h2:c<=4000000000000)(h3:l.length<=1000000):bb aj 95 [ti c,.sl (bN l)] (.agg [ti (ee c l).aH,ti (ee c l).size]):=by
 have aB:=cR;refine c69.ok (by simp) (aM ?_);simp;apply aa.ai aB fw [0,1,4];simp[ann];apply aa.ai aB fw [1,4,5,6];simp[ano];apply aa.sq aB fw [1,4,5,6,7];simp[anp];apply aa.block;refine aa.loop (λy:Nat=>⟨DM.look [(1,.v (.sl (bN l))),(4,.ptr 1005 0),(5,.v (ti (gO c 1 (l.take y)).aH)),(6,.v (ti (gO c 1 (l.take y)).size)),(7,.v (ti y))],cF [(1005,.box [.v (ti 0),.v (ti 0)])],2000,1000,[]⟩)
  (λy=>y<=l.length) (λy=>l.length-y) 0 (Le.bi ?_ ?_ ?_ ?_) (by simp) (λy hy=>?_)
 iterate 3(·simp)
 ·simp[gO]
 apply aa.sq aB fw [1,4,5,6,7,12];simp[anq];refine aa.cond rfl (λct=>?_) (λct=>?_)
 ·have ct:y<l.length:=by simpa using ct
  apply aa.skip;simp;apply aa.seq;apply aa.block;have rv:=dH ct;obtain⟨v,hv⟩:=aW (l.getD y default);rw[hv]at rv;have hov:=h v (by rw[<-hv];exact bC ct);obtain⟨o1,o2,o3,o4⟩:=hov;obtain⟨b1,b2,b3,b4⟩:=wH (c:=c) (s:=1) (l:=l.take y) (λv hv=>h v (DB hv)) h1 h2 (by omega) (by omega);apply aa.dZ aB fw [1,4,5,6,7];simp[anr,ct,rv];apply aa.dZ aB fw [1,4,5,6,7];simp[ans];rw[aA (by omega),aA (by omega),aA (by omega)];refine⟨y+1,Le.bi ?_ ?_ ?_ ?_,by omega,by omega⟩;iterate 3(·simp)
  ·simp[dh ct,Gd,-List.getD_eq_getElem?_getD,hv]
 ·have fA:y=l.length:=by simp at ct;omega
  subst fA;rw[ZbN];apply aa.exit;simp;apply aa.sq aB fw [4,5,6,32];simp[ant];refine aa.cond rfl (λh7=>?_) (λh7=>?_)
  ·have h7:(gO c 1 l).aH>=1099511627776:=by simpa using h7
   apply aa.ai aB fw [4];simp[anu];apply aa.ret;simp[Py,ee,h7]
  ·have h7:¬(gO c 1 l).aH>=1099511627776:=by simpa using h7
   apply aa.skip;simp;apply aa.ai aB fw [4];simp[anv];apply aa.ret;simp[Py,ee,h7]
def jW:Cell:=⟨1099511627776,0,-1,0⟩
def t42:bb aj 92 [] (.agg jW.enc):=by
 have aB:=cR;refine c42.ok (by simp) (aM ?_);simp;apply aa.ai aB fw [0];simp[aos];apply aa.ai aB fw [0];simp[aot];apply aa.ret;simp[XM,jW,Cell.enc]
def ia(n s:Int):Int:=n*s*(s+1)/2
def fa{a b A B:Int}(h1:0<=a)(h2:a<=A)(h3:0<=b)(h4:b<=B):0<=a*b/\a*b<=A*B:=by
 refine⟨ZcH h1 h3, ?_⟩;exact Int.mul_le_mul h2 h4 h3 (by omega)
def t23(n s:Int)(h1:0<=n)(h2:n<=1000000)(h3:0<=s)(h4:s<=1000000):bb aj 53 [ti n,ti s] (ti (ia n s)):=by
 have k1:=fa h1 h2 h3 h4;have k2:=fa (b:=s+1) (B:=1000001) k1.1 k1.2 (by omega) (by omega);have w1:IntKind.i64.wrap (n*s)=n*s:=aA (by omega);have w2:IntKind.i64.wrap (s+1)=s+1:=aA (by omega);have w3:IntKind.i64.wrap (n*s*(s+1))=n*s*(s+1):=aA (by omega);have w4:IntKind.i64.wrap ((n*s*(s+1)).tdiv 2)=n*s*(s+1)/2:=by rw[Al k2.1];exact aA (by omega)
 have aB:=cR;refine c23.ok (by simp) (aM ?_);simp;apply aa.ai aB fw [0,1];simp[aou];apply aa.ai aB fw [4];simp[aov,w1,w2,w3,w4];apply aa.ret;simp[dw,ia]
def pre(st:Int):Nat->Int
 |0=>0
 |n+1=>pre st n+st-n
def gU{st:Int}(h:st<=1000):∀n:Nat,(n:Int)<=st->0<=pre st n/\pre st n<=1000*n
 |0,_=>by simp[pre]
 |n+1,hn=>by
  have:=gU h n (by omega);simp only[pre];omega
def dV(n st:Int)(f t:Nat):Int:=(pre st f+t-f)*n
def t25(n st:Int)(f t:Nat)(h1:0<=n)(h2:n<=1000)(h3:st<=1000)(h4:(f:Int)<=st)(h5:t<=1000)(h6:f<=t):bb aj 55 [ti n,ti st,ti f,ti t] (ti (dV n st f t)):=by
 have aB:=cR;refine c25.ok (by simp) (aM ?_);simp;apply aa.ai aB fw [0,1,2,3];simp[aow];apply aa.ai aB fw [0,1,2,3,9];simp[aox];apply aa.sq aB fw [0,1,2,3,9,10];simp[aoy];apply aa.block;refine aa.loop (λy:Nat=>⟨DM.look [(0,.v (ti n)),(1,.v (ti st)),(2,.v (ti f)),(3,.v (ti t)),(9,.v (ti (pre st y))),(10,.v (ti y))],cF [],2000,1000,[]⟩)
  (λy=>y<=f) (λy=>f-y) 0 (Le.bi (o:=[]) ?_ ?_ ?_ ?_) (by simp) (λy hy=>?_)
 iterate 3(·simp)
 ·simp[pre]
 apply aa.sq aB fw [0,1,2,3,9,10,13];simp[aoz];refine aa.cond rfl (λct=>?_) (λct=>?_)
 ·have ct:y<f:=by simpa using ct
  apply aa.skip;simp;apply aa.seq;apply aa.block;apply aa.dZ aB fw [0,1,2,3,9,10];simp[aoA];apply aa.dZ aB fw [0,1,2,3,9,10];simp[aoB];have hb:=gU h3 y (by omega);have gn:=gU h3 (y+1) (by omega);simp only[pre]at gn;rw[aA (x:=pre st y+st) (by omega),aA (x:=pre st y+st-y) (by omega),aA (x:=(y:Int)+1) (by omega)];refine⟨y+1,Le.bi (o:=[]) ?_ ?_ ?_ ?_,by omega,by omega⟩;iterate 3(·simp)
  ·simp[pre]
 ·have fA:y=f:=by simp at ct;omega
  subst fA;have hb:=gU h3 y (by omega);have hm:=fa (a:=pre st y+t-y) (A:=2000000) (b:=n) (B:=1000) (by omega) (by omega) h1 h2;apply aa.exit;simp;apply aa.ai aB fw [8];simp[aoC,aA (x:=pre st y+t) (by omega),aA (x:=pre st y+t-y) (by omega),aA (x:=(pre st y+t-y)*n) (by omega)];apply aa.ret;simp[dw,dV]
def fU(a:Cell)(v:dj)(r g:Int):Cell:=if v.aH>=1099511627776 then a else if v.lt a.val\/(v=a.val/\(r<a.nC\/(r=a.nC/\g<a.arg)))then⟨v.aH,v.size,r,g⟩else a
abbrev s92:DM.Spec:=cK (λts=>∃a b c d,ts=[.agg [ti a,ti b],.agg [ti c,ti d]]) (fun|[.agg [.int _ a,.int _ b],.agg [.int _ c,.int _ d]]=>.bool (decide ((⟨a,b⟩:dj).lt ⟨c,d⟩))|_=>.bool false) true
def awR:ay aj (bB [(97,s92)]):=by
 refine ay.cons ay.nil ?_;rintro ts ⟨a,b,c,d,rfl⟩;exact⟨t92 ⟨a,b⟩ ⟨c,d⟩,λ_=>rfl⟩
def t68(a:Cell)(v:dj)(r g:Int):bb aj 130 [.agg a.enc,.agg [ti v.aH,ti v.size],ti r,ti g] (.agg (fU a v r g).enc):=by
 obtain⟨ac,az,ar,ag⟩:=a;obtain⟨vc,vs⟩:=v;obtain⟨R,hR⟩:=aW (fU ⟨ac,az,ar,ag⟩ ⟨vc,vs⟩ r g);rw[hR];unfold fU at hR;simp only[Cell.val,dj.mk.injEq]at hR;have aB:=awR;refine c68.ok (by simp) (aM ?_);simp[Cell.enc];apply aa.ai aB fw [2,3,4,5,8];simp[aoD];refine aa.lk (o:=[(1009,.box [.v (ti 0),.v (ti 0),.v (ti 0),.v (ti 0)])]) (l:=[(2,.v (ti r)),(3,.v (ti g)),(4,.v (.box [ti ac,ti az,ti ar,ti ag])),(5,.v (.box [ti vc,ti vs])),(8,.ptr 1009 0)]) (aV:=1200) (by simp) ?_;apply aa.sq aB fw [2,3,4,5,8,13];simp[aoE];refine aa.cond rfl (λh1=>?_) (λh1=>?_)
 ·have h1:vc>=1099511627776:=by simpa using h1
  apply aa.ai aB fw [8];simp[aoF];apply aa.ret;rw[cG h1]at hR;subst hR;simp[JQ]
 ·have h1:¬vc>=1099511627776:=by simpa using h1
  apply aa.skip;simp;rw[bj h1]at hR;obtain⟨c1,bI⟩:=aW (decide ((⟨vc,vs⟩:dj).lt ⟨ac,az⟩):Bool);apply aa.ai aB fw [2,3,4,5,8,9];simp[aoG,bI];obtain⟨c2,fW⟩:=aW (decide ((vc=ac/\vs=az)/\(r<ar\/(r=ar/\g<ag))):Bool);refine aa.ci aB fw [(2,.v (ti r)),(3,.v (ti g)),(4,.v (.box [ti ac,ti az,ti ar,ti ag])),(5,.v (.box [ti vc,ti vs])),(8,.ptr 1009 0),(9,.v (.bool c1)),(10,.v (.bool c2))] ?_ ?_
  ·by_cases q1:vc=ac/\vs=az
   ·obtain⟨rfl,rfl⟩:=q1;by_cases q2:r<ar
    ·have:c2=true:=by rw[<-fW];simp[q2]
     simp[Ml,q2,this]
    ·by_cases q3:r=ar
     ·subst q3;by_cases q4:g<ag
      ·have:c2=true:=by rw[<-fW];simp[q4]
       simp[Ml,q4,this]
      ·have:c2=false:=by rw[<-fW];simp[q4]
       simp[Ml,q4,this]
     ·have:c2=false:=by rw[<-fW];simp[q2,q3]
      simp[Ml,q2,q3,this]
   ·have:c2=false:=by rw[<-fW];simp[q1]
    simp[Ml,q1,this]
  apply aa.seq;obtain⟨c3,hc3⟩:=aW ((c1||c2):Bool);refine aa.ci aB fw [(2,.v (ti r)),(3,.v (ti g)),(4,.v (.box [ti ac,ti az,ti ar,ti ag])),(5,.v (.box [ti vc,ti vs])),(8,.ptr 1009 0),(44,.v (.bool c3))] ?_ ?_
  ·cases c1<;>simp[aoH]<;>simp at hc3<;>simp[hc3]
  refine aa.cond rfl (λh5=>?_) (λh5=>?_)
  ·have h5:c3=true:=by simpa using h5
   rw[h5,<-bI,<-fW]at hc3;simp only[Zcj,sa]at hc3;rw[cG hc3]at hR;apply aa.ai aB fw [8];simp[aoI];apply aa.ret;subst hR;simp[JQ]
  ·have h5:c3=false:=by simpa using h5
   rw[h5,<-bI,<-fW]at hc3;simp only[Bool.or_eq_false_iff,zM]at hc3;rw[bj (λh=>h.elim hc3.1 hc3.2)]at hR;apply aa.skip;simp;apply aa.ai aB fw [8];simp[aoJ];apply aa.ret;subst hR;simp[JQ]
@[simp] def PP{a b:DL}:aQ a=aQ b↔a=b:=⟨λh=>by have:=congrArg Gc h;simpa using this,λh=>by rw[h]⟩
@[simp] def tP{a b:cm}:bN a=bN b↔a=b:=⟨λh=>by have:=congrArg oD h;simpa using this,λh=>by rw[h]⟩
@[simp] def PQ{a b:eO}:aZ a=aZ b↔a=b:=⟨λh=>by have:=congrArg ni h;simpa using this,λh=>by rw[h]⟩
@[simp] def H9{a b:bY}:aD a=aD b↔a=b:=⟨λh=>by have:=congrArg nj h;simpa using this,λh=>by rw[h]⟩
@[simp] def Uz{a b:List cC}:ce a=ce b↔a=b:=⟨λh=>by have:=congrArg Ef h;simpa using this,λh=>by rw[h]⟩
@[simp] def asp{a b:List (Int×Int)}:eJ a=eJ b↔a=b:=⟨λh=>by have:=congrArg B9 h;simpa using this,λh=>by rw[h]⟩
@[simp] def amf{a b:List cQ}:bW a=bW b↔a=b:=⟨λh=>by have:=congrArg Eg h;simpa using this,λh=>by rw[h]⟩
@[simp] def UA{l:cm}:[]=bN l↔l=[]:=by rw[<-Uy,tP];exact eq_comm
@[simp] def amg{a b:Int}{l:cm}:[[ti a,ti b]]=bN l↔l=[⟨a,b⟩]:=by rw[show [[ti a,ti b]]=bN [⟨a,b⟩]from rfl,tP];exact eq_comm
@[simp] def amh{a b c d:Int}{l:cm}:[[ti a,ti b],[ti c,ti d]]=bN l↔l=[⟨a,b⟩,⟨c,d⟩]:=by rw[show [[ti a,ti b],[ti c,ti d]]=bN [⟨a,b⟩,⟨c,d⟩]from rfl,tP];exact eq_comm
@[simp] def agU:oD []=[]:=rfl
@[simp] def agV{a b:Int}:oD [[ti a,ti b]]=[⟨a,b⟩]:=rfl
@[simp] def agW{a b c d:Int}:oD [[ti a,ti b],[ti c,ti d]]=[⟨a,b⟩,⟨c,d⟩]:=rfl
def F3(c:di)(h f t:Int):Cell:=
 if h<0\/h>=c.au\/f<0\/t<f\/t>=c.bn then jW else c.cells.getD (dV c.au c.bn f.toNat t.toNat+h).toNat jW
def G0(c:di):Prop:=0<=c.au/\c.au<=1000/\0<=c.bn/\c.bn<=1000/\c.cells.length<=1000000000000/\∀x∈c.cells,kc x.val
def M1:kc jW.val:=by simp[kc,jW]
def Zi{c:di}(hc:G0 c)(h f t:Int):kc (F3 c h f t).val:=by
 unfold F3;split
 ·exact M1
 ·rw[List.getD];cases e:c.cells[(dV c.au c.bn f.toNat t.toNat+h).toNat]? with
  |none=>exact M1
  |some x=>exact hc.2.2.2.2.2 x (zK e)
abbrev s42:DM.Spec:=cK (λts=>ts=[]) (λ_=>.agg [ti 1099511627776,ti 0,ti (-1),ti 0]) true
abbrev s25:DM.Spec:=cK (λts=>∃n st f t:Int,ts=[ti n,ti st,ti f,ti t]/\0<=n/\n<=1000/\st<=1000/\0<=f/\f<=st/\t<=1000/\f<=t) (fun|[.int _ n,.int _ st,.int _ f,.int _ t]=>ti (dV n st f.toNat t.toNat)|_=>.bool false) true
def awS:ay aj (bB [(92,s42),(55,s25)]):=by
 refine ay.cons (ay.cons ay.nil ?_) ?_
 ·rintro ts ⟨n,st,f,t,rfl,h1,h2,h3,h4,h5,h6,h7⟩;obtain⟨f,rfl⟩:=jm h4;obtain⟨t,rfl⟩:=jm (a:=t) (by omega);exact⟨by simpa using t25 n st f t h1 h2 h3 h5 (by omega) (by omega),λ_=>rfl⟩
 ·rintro ts rfl;exact⟨t42,λ_=>rfl⟩
def nh{n st:Int}{f t:Nat}(h1:0<=n)(h2:n<=1000)(h3:st<=1000)(h4:(f:Int)<=st)(h5:t<=1000)(h6:f<=t):0<=dV n st f t/\dV n st f t<=2000000000:=by
 have hb:=gU h3 f h4;have:=fa (a:=pre st f+t-f) (A:=2000000) (b:=n) (B:=1000) (by omega) (by omega) h1 h2;unfold dV;omega
def t19(c:di)(h f t:Int)(hc:G0 c):bb aj 146 [c.enc,.agg [ti h,ti f,ti t]] (.agg (F3 c h f t).enc):=by
 obtain⟨cn,cs,cl⟩:=c;obtain⟨k1,k2,k3,k4,k5,k6⟩:=hc;simp only at k1 k2 k3 k4 k5 k6;obtain⟨R,hR⟩:=aW (F3 ⟨cn,cs,cl⟩ h f t);rw[hR];unfold F3 at hR;simp only at hR;have aB:=awS;refine c19.ok (by simp) (aM ?_);simp[di.enc];apply aa.ai aB fw [2,3,4];simp[aoK];refine aa.lk (o:=[(1005,.box [.v (ti 0),.v (ti 0),.v (ti 0),.v (ti 0)])]) (l:=[(2,.v (.box [ti cn,ti cs,.sl (aZ cl)])),(3,.v (.box [ti h,ti f,ti t])),(4,.ptr 1005 0)]) (aV:=1200) (by simp) ?_;apply aa.seq;obtain⟨c1,bI⟩:=aW (decide (h<0\/h>=cn\/f<0\/t<f\/t>=cs):Bool);refine aa.ci aB fw [(2,.v (.box [ti cn,ti cs,.sl (aZ cl)])),(3,.v (.box [ti h,ti f,ti t])),(4,.ptr 1005 0),(34,.v (.bool c1))] ?_ ?_
 ·by_cases q1:h<0
  ·have:c1=true:=by rw[<-bI];simp[q1]
   simp[HV,q1,this]
  ·skip
   by_cases q2:h>=cn
   ·have:c1=true:=by rw[<-bI];simp[q2]
    simp[HV,q1,q2,this]
   ·skip
    by_cases q3:f<0
    ·have:c1=true:=by rw[<-bI];simp[q3]
     simp[HV,q1,q2,q3,this]
    ·skip
     by_cases q4:t<f
     ·have:c1=true:=by rw[<-bI];simp[q4]
      simp[HV,q1,q2,q3,q4,this]
     ·skip
      by_cases q5:t>=cs
      ·have:c1=true:=by rw[<-bI];simp[q5]
       simp[HV,q1,q2,q3,q4,q5,this]
      ·skip
       have:c1=false:=by rw[<-bI];simp[q1,q2,q3,q4,q5]
       simp[HV,q1,q2,q3,q4,q5,this]
 refine aa.cond rfl (λh1=>?_) (λh1=>?_)
 ·rw[h1]at bI;rw[cG (p7 bI)]at hR;subst hR;apply aa.ai aB fw [4];simp[aoL];apply aa.ret;simp[JR,jW,Cell.enc]
 ·rw[h1]at bI;have bI:=uO bI;rw[bj bI]at hR;obtain⟨f,rfl⟩:=jm (a:=f) (by omega);obtain⟨t,rfl⟩:=jm (a:=t) (by omega);simp only[iA]at hR;apply aa.skip;simp;have SF:=nh (n:=cn) (st:=cs) (f:=f) (t:=t) k1 k2 k4 (by omega) (by omega) (by omega);obtain⟨x,hx⟩:=aW (dV cn cs f t+h);have w1:IntKind.i64.wrap (dV cn cs f t+h)=x:=by rw[hx];exact aA (by omega)
  rw[hx]at hR;apply aa.ai aB fw [2,4,5];simp[aoM,uP,w1];refine⟨by omega,by omega,by omega,by omega,by omega,by omega, ?_⟩;apply aa.sq aB fw [2,4,5,52];simp[aoN];refine aa.cond rfl (λh2=>?_) (λh2=>?_)
  ·have h2:(cl.length:Int)<=x:=by simpa using h2
   rw[List.getD,Zbt (by omega)]at hR;subst hR;apply aa.ai aB fw [4];simp[aoO];apply aa.ret;simp[JR,jW,Cell.enc]
  ·have h2:¬(cl.length:Int)<=x:=by simpa using h2
   obtain⟨x,rfl⟩:=jm (a:=x) (by omega);have DE:x<cl.length:=by omega
   apply aa.skip;simp;have rr:=iO DE;have hR2:cl.getD x default=R:=by rw[<-hR];simp[List.getD,DE]
   rw[hR2]at rr;apply aa.ai aB fw [4];simp[aoP,DE,rr,Cell.enc];apply aa.ret;simp[JR]
def dT(c:di)(own:eO)(fr to h f t:Int):dj:=if f=fr/\t=to then(own.getD h.toNat default).val else(F3 c h f t).val
def afa(c:di)(own:eO)(fr to h f t:Int):Prop:=G0 c/\own.length<=1000000/\(f=fr/\t=to->0<=h/\h<own.length)
def tK{c:di}{own:eO}{fr to h f t:Int}(h1:afa c own fr to h f t)(h2:∀x∈own,kc x.val):kc (dT c own fr to h f t):=by
 unfold dT;split
 ·rename_i e;have:=h1.2.2 e;exact h2 _ (bC (by omega))
 ·exact Zi h1.1 _ _ _
abbrev s19:DM.Spec:=cK (λts=>∃cn cs cl h f t,ts=[.agg [ti cn,ti cs,.sl (aZ cl)],.agg [ti h,ti f,ti t]]/\G0 ⟨cn,cs,cl⟩) (fun|[c,.agg [.int _ h,.int _ f,.int _ t]]=>.agg [ti (F3 (vA c) h f t).aH,ti (F3 (vA c) h f t).size,ti (F3 (vA c) h f t).nC,ti (F3 (vA c) h f t).arg]|_=>.bool false) true
def awT:ay aj (bB [(146,s19)]):=by
 refine ay.cons ay.nil ?_;rintro ts ⟨cn,cs,cl,h,f,t,rfl,hc⟩;exact⟨by simpa [di.enc,Cell.enc]using t19 ⟨cn,cs,cl⟩ h f t hc,λ_=>rfl⟩
def t70(c:di)(own:eO)(fr to h f t:Int)(hp:afa c own fr to h f t):bb aj 131 [c.enc,.sl (aZ own),ti fr,ti to,.agg [ti h,ti f,ti t]] (.agg [ti (dT c own fr to h f t).aH,ti (dT c own fr to h f t).size]):=by
 obtain⟨cn,cs,cl⟩:=c;obtain⟨hc,hl,ho⟩:=hp;obtain⟨R,hR⟩:=aW (dT ⟨cn,cs,cl⟩ own fr to h f t);rw[hR];unfold dT at hR;have aB:=awT;refine c70.ok (by simp) (aM ?_);simp[di.enc];apply aa.ai aB fw [1,2,3,5,9,10];simp[aoQ];refine aa.lk (o:=[(1011,.box [.v (ti 0),.v (ti 0)])]) (l:=[(1,.v (.sl (aZ own))),(2,.v (ti fr)),(3,.v (ti to)),(5,.v (.box [ti cn,ti cs,.sl (aZ cl)])),(9,.v (.box [ti h,ti f,ti t])),(10,.ptr 1011 0)]) (aV:=1200) (by simp) ?_;apply aa.seq;obtain⟨c1,bI⟩:=aW (decide (f=fr/\t=to):Bool);refine aa.ci aB fw [(1,.v (.sl (aZ own))),(5,.v (.box [ti cn,ti cs,.sl (aZ cl)])),(9,.v (.box [ti h,ti f,ti t])),(10,.ptr 1011 0),(20,.v (.bool c1))] ?_ ?_
 ·by_cases q1:f=fr
  ·by_cases q2:t=to
   ·have:c1=true:=by rw[<-bI];simp[q1,q2]
    simp[XN,q1,q2,this]
   ·have:c1=false:=by rw[<-bI];simp[q2]
    simp[XN,q1,q2,this]
  ·have:c1=false:=by rw[<-bI];simp[q1]
   simp[XN,q1,this]
 refine aa.cond rfl (λh1=>?_) (λh1=>?_)
 ·rw[h1]at bI;have bI:=p7 bI;rw[cG bI]at hR;obtain⟨g1,g2⟩:=ho bI;obtain⟨h,rfl⟩:=jm g1;have yb:h<own.length:=by omega
  have rr:=iO yb;simp only[iA]at hR;obtain⟨x,hx⟩:=aW (own.getD h default);rw[hx]at rr hR;apply aa.ai aB fw [10];simp[aoR,yb,rr,Cell.enc];apply aa.ret;subst hR;simp[PA]
 ·rw[h1]at bI;have bI:=uO bI;rw[bj bI]at hR;apply aa.skip;simp;apply aa.ai aB fw [10];simp[aoS,uP,hc];apply aa.ret;subst hR;simp[PA]
structure lA where
 (x h t:Int)
 deriving DecidableEq,Inhabited
def lA.enc(e:lA):aK:=[ti e.x,ti e.h,ti e.t]
def dU(l:List lA):List (aK):=l.map lA.enc
def zf:aK->lA
 |[a,b,c]=>⟨d0 a,d0 b,d0 c⟩
 |_=>default
@[simp] def zg(e:lA):zf e.enc=e:=by simp[zf,lA.enc,d0]
@[simp] def xJ{a b:List lA}:dU a=dU b↔a=b:=⟨λh=>by
 have:=congrArg (List.map zf) h;simpa [dU,ib zg]using this,λh=>by rw[h]⟩
@[simp] def UT(l:List lA):(dU l).length=l.length:=by simp[dU]
def dY{l:List lA}{y:Nat}(h:y<l.length):DM.rowAt (dU l) y=(l.getD y default).enc:=by simp[DM.rowAt,dU,h]
def mz(l:List lA)(i:Nat)(e:lA):dU (l.set i e)=(dU l).set i e.enc:=by simp[dU,Zce]
def uW(a b:List lA):dU (a++b)=dU a++dU b:=by simp[dU]
def zh(a:List lA)(n:Nat):(dU a).take n=dU (a.take n):=by simp[dU,Zcz]
abbrev Pl:=List (Nat×Int×Int)
def wJ(l:Pl):List (Nat×T×DV):=l.map λe=>(e.1,ti e.2.1,.v (ti e.2.2))
@[simp] def Ko{a b:Pl}:wJ a=wJ b↔a=b:=⟨λh=>by
 unfold wJ at h;refine List.map_inj_right (f:=λe:Nat×Int×Int=>(e.1,ti e.2.1,DV.v (ti e.2.2))) ?_|>.1 h
 rintro⟨a,b,c⟩ ⟨a',b',c'⟩ h;simpa using h,λh=>by rw[h]⟩
def uZ(l:Pl)(k:Int):Option Nat:=l.findIdx? λe=>e.2.1==k
def kN(l:Pl)(k:Int):Option Int:=(l.find? λe=>e.2.1==k).map (·.2.2)
def eN(l:Pl)(c:Nat)(k v:Int):Pl:=match uZ l k with
 |some i=>l.modify i λe=>(e.1,e.2.1,v)
 |none=>l++[(c,k,v)]
def yy(l:Pl)(c:Nat)(k:Int):Nat:=match uZ l k with
 |some _=>c
 |none=>c+1
def pb(l:Pl)(k:Int):Pl:=match uZ l k with
 |some i=>l.eraseIdx i
 |none=>l
def Tn(a b:Int):iG (ti a) (ti b)=(b==a):=by
 simp only[iG];by_cases h:a=b
 ·simp[h]
 ·have:¬b=a:=λe=>h e.symm;simp[h,this]
def Bn(l:Pl)(k:Int):(wJ l).findIdx? (λe=>iG (ti k) e.2.1)=uZ l k:=by
 unfold wJ uZ;rw[List.findIdx?_map]
 congr 1
 funext e;simp only[Function.comp,Tn]
def NY(l:Pl)(k:Int):tr (ti k) (wJ l)=(l.find? λe=>e.2.1==k).map λe=>(e.1,ti e.2.1,.v (ti e.2.2)):=by
 unfold tr wJ;rw[List.find?_map]
 congr 2
 funext e;simp only[Function.comp,Tn]
def mD{α β:Type}{f:α->β}{g:α->α}{g':β->β}(h:∀a,g' (f a)=f (g a)):∀(l:List α) (i:Nat),(l.map f).modify i g'=(l.modify i g).map f
 |[],i=>by cases i<;>simp
 |a::l,0=>by simp[h]
 |a::l,i+1=>by simp[mD h l i]
def sZ{α β:Type}{f:α->β}:∀(l:List α) (i:Nat),(l.map f).eraseIdx i=(l.eraseIdx i).map f
 |[],i=>by simp
 |a::l,0=>by simp
 |a::l,i+1=>by simp[sZ l i]
def NF(l:Pl)(c:Nat)(k v:Int):IW (ti k) (.v (ti v)) c (wJ l)=wJ (eN l c k v):=by
 unfold IW eN;rw[Bn];cases uZ l k with
 |none=>simp[wJ]
 |some i=>exact mD (f:=λe:Nat×Int×Int=>(e.1,ti e.2.1,DV.v (ti e.2.2))) (g:=λe=>(e.1,e.2.1,v)) (g':=λe=>(e.1,e.2.1,DV.v (ti v))) (λ_=>rfl) l i
def GC(l:Pl)(c:Nat)(k:Int):qu (ti k) c (wJ l)=yy l c k:=by
 unfold qu yy;rw[Bn];cases uZ l k<;>rfl
def NH(l:Pl)(k:Int):aa7 (ti k) (wJ l)=wJ (pb l k):=by
 unfold aa7 pb;rw[Bn];cases uZ l k with
 |none=>rfl
 |some i=>exact sZ l i
def q9(l:Pl):Prop:=(l.map (·.1)).Nodup
def Bo{α:Type}{p:α->Bool}:∀{l:List α} {i:Nat},l.findIdx? p=some i->∃a,l[i]? =some a/\p a=true/\l.find? p=some a
 |[],i,h=>by simp at h
 |a::l,i,h=>by
  rw[VC]at h;by_cases hp:p a=true
  ·simp only[hp,km,cI]at h;subst h;exact⟨a,rfl,hp,by simp[hp]⟩
  ·simp only[hp,Ou,xd,jr]at h;obtain⟨j,hj,rfl⟩:=h;obtain⟨b,h1,h2,h3⟩:=Bo hj;exact⟨b,by simpa using h1,h2,by simp[hp,h3]⟩
def IC:∀{l:Pl} {i:Nat} {e:Nat×Int×Int},q9 l->l[i]? =some e->(wJ l).findIdx? (λx=>(x.1:Int)==(e.1:Int))=some i
 |[],i,e,_,h=>by simp at h
 |a::l,0,e,hk,h=>by
  simp only[IS,cI]at h;subst h;simp[wJ,VC]
 |a::l,i+1,e,hk,h=>by
  simp only[Zbl]at h;simp only[q9,rW,ZcO]at hk;have cj:¬a.1=e.1:=λq=>hk.1 (q▸iF.2 ⟨e,zK h,rfl⟩);have ih:=IC (l:=l) hk.2 h;unfold wJ at ih⊢;rw[rW,VC];have:¬(((a.1:Int)==(e.1:Int))=true):=by simp;omega
  simp only[this,ih];rfl
def Bg{l:Pl}{k v:Int}{i:Nat}{e:Nat×Int×Int}(hk:q9 l)(hi:uZ l k=some i)(he:l[i]? =some e)(c:Nat):aba (e.1:Int) (.v (ti v)) (wJ l)=some (wJ (eN l c k v)):=by
 unfold aba;rw[IC hk he];unfold eN;rw[hi];simp only[OA,cI];exact mD (f:=λe:Nat×Int×Int=>(e.1,ti e.2.1,DV.v (ti e.2.2))) (g:=λe=>(e.1,e.2.1,v)) (g':=λe=>(e.1,e.2.1,DV.v (ti v))) (λ_=>rfl) l i
def Bh{l:Pl}{c:Nat}{k v:Int}(hk:q9 l)(hc:∀e∈l,e.1<c):q9 (eN l c k v)/\∀e∈eN l c k v,e.1<yy l c k:=by
 unfold eN yy;cases h:uZ l k with
 |none=>
  refine⟨?_,λe he=>?_⟩
  ·unfold q9;rw[Jv,Zco];refine⟨hk,by simp,λa ha b hb=>?_⟩;obtain⟨e,he,rfl⟩:=iF.1 ha;simp at hb;have:=hc e he;omega
  ·rcases oJ.1 he with he|he
   ·have:=hc e he;simp only;omega
   ·simp at he;subst he;simp
 |some i=>
  have hm:((l.modify i λe=>(e.1,e.2.1,v)).map (·.1))=l.map (·.1):=by
   have h1:=mD (f:=λe:Nat×Int×Int=>e.1) (g:=λe=>(e.1,e.2.1,v)) (g':=id) (λ_=>rfl) l i;rw[ZdA]at h1;exact h1.symm
  refine⟨by unfold q9;rw[hm];exact hk,λe he=>?_⟩;have:e.1∈l.map (·.1):=by rw[<-hm];exact iF.2 ⟨e,he,rfl⟩
  obtain⟨e',he',h2⟩:=iF.1 this;have:=hc e' he';show e.1<c;omega
structure LV where
 (sp rb:Nat)
 cs:bM
 ak:cm
structure LV.at(v:LV)(f:bF)(a:Nat):Prop where
 a:f a=some (.box [.ptr v.sp 0])
 sp:f v.sp=some (.box v.cs)
 c:v.cs[12]? =some (.bE v.rb 0)
 rb:f v.rb=some (.bJ 0 63 2 (bN v.ak))
def LV.DO{v w:LV}{f:bF}{a:Nat}(h:v.at f a)(k:w.at f a):v=w:=by
 obtain⟨sp,rb,cs,ak⟩:=v;obtain⟨sp',rb',x9,avx⟩:=w;obtain⟨h1,h2,h3,h4⟩:=h;obtain⟨k1,k2,k3,k4⟩:=k;simp only at h1 h2 h3 h4 k1 k2 k3 k4;rw[h1]at k1;simp only[cI,Ob.box.injEq,KU,DV.ptr.injEq,Lt]at k1;subst k1;rw[h2]at k2;simp only[cI,Ob.box.injEq]at k2;subst k2;rw[h3]at k3;simp only[cI,DV.bE.injEq,Lt]at k3;subst k3;rw[h4]at k4;simp only[cI,Ob.bJ.injEq,tP,rO]at k4;subst k4;rfl
open Classical in
noncomputable def ID(f:bF)(a:Nat):LV:=if h:∃v:LV,v.at f a then Classical.choose h else⟨0,0,[],[]⟩
def N5{v:LV}{f:bF}{a:Nat}(h:v.at f a):ID f a=v:=by
 have hx:∃v:LV,v.at f a:=⟨v,h⟩;unfold ID;rw[Zdg hx];exact LV.DO (Classical.choose_spec hx) h
def bv(ak:cm)(x:Int):dj:=ak.getD x.toNat default
noncomputable def k55:bM->bF->gC
 |[.v (.int .i64 x),.v (.int .i64 y),.ptr a 0],f=>⟨(∃v:LV,v.at f a)/\(0<=x/\x<(ID f a).ak.length)/\(0<=y/\y<(ID f a).ak.length),.v (.bool (decide ((bv (ID f a).ak x).lt (bv (ID f a).ak y)))),f⟩
 |_,f=>⟨False,.undef,f⟩
def alr{v:LV}{f:bF}{a:Nat}{x y:Int}(h:v.at f a):k55 [.v (ti x),.v (ti y),.ptr a 0] f=⟨(0<=x/\x<v.ak.length)/\(0<=y/\y<v.ak.length),.v (.bool (decide ((bv v.ak x).lt (bv v.ak y)))),f⟩:=by
 have hx:∃v:LV,v.at f a:=⟨v,h⟩;simp only[k55,N5 h,hx,rO]
def t56(u v:dj):bb aj 84 [.agg [ti u.aH,ti u.size],.agg [ti v.aH,ti v.size]] (.bool (decide (u.lt v))):=by
 obtain⟨a,b⟩:=u;obtain⟨c,d⟩:=v;obtain⟨c1,bI⟩:=aW (decide ((⟨a,b⟩:dj).lt ⟨c,d⟩):Bool);rw[bI];simp only[dj.lt]at bI;have aB:=cR;refine c56.ok (by simp) (aM ?_);simp;apply aa.ai aB fw [2,3];simp[apo];refine aa.lk (o:=[]) (l:=[(2,.v (.box [ti a,ti b])),(3,.v (.box [ti c,ti d]))]) (aV:=1200) (by simp) ?_;refine aa.ci aB fw [(4,.v (.bool c1))] ?_ ?_
 ·by_cases q1:a<c
  ·have:c1=true:=by rw[<-bI];simp[q1]
   simp[RQ,q1,this]
  ·by_cases q2:a=c
   ·subst q2;by_cases q3:b<d
    ·have:c1=true:=by rw[<-bI];simp[q3]
     simp[RQ,q3,this]
    ·have:c1=false:=by rw[<-bI];simp[q3]
     simp[RQ,q3,this]
   ·have:c1=false:=by rw[<-bI];simp[q1,q2]
    simp[RQ,q1,q2,this]
 apply aa.ret;simp[dw]
def KH{l:cm}(h:∀v∈l,kc v):∀{c s:Int},0<=c->c<=1099511627776->0<=s->s<=1099511627776->0<=(gO c s l).aH/\(gO c s l).aH<=1099511627776:=by
 induction l with
 |nil=>intro c s h1 h2 h3 h4;exact⟨h1,h2⟩
 |cons x l ih=>
  intro c s h1 h2 h3 h4;obtain⟨g1,g2,g3,g4⟩:=h x (by simp);exact ih (λv hv=>h v (by simp[hv])) (by omega) (by omega) (by omega) (by omega)
def aay{c:Int}{l:cm}(h:∀v∈l,kc v):ee (min c 1099511627776) l=ee c l:=by
 have key:∀(l:cm) (c s:Int),(∀v∈l,kc v)->l≠[]->gO (min c 1099511627776) s l=gO c s l:=by
  intro l c s h hl;cases l with
  |nil=>exact eK rfl hl
  |cons v l=>
   have hv:=(h v (by simp)).1;simp only[gO];rw[show min (min c 1099511627776+v.aH) 1099511627776=min (c+v.aH) 1099511627776 by omega]
 cases l with
 |nil=>
  unfold ee gO;simp only;split<;>split<;>first|rfl|(exfalso;omega)|(congr 1;omega)
 |cons v l=>
  unfold ee;rw[key _ _ _ h (by simp)]
def t84(c:Int)(l:cm)(h:∀v∈l,kc v)(h1:0<=c)(h2:c<=4000000000000)(h3:l.length<=1000000):bb aj 123 [ti c,.sl (bN l)] (.agg [ti (ee c l).aH,ti (ee c l).size]):=by
 obtain⟨R,hR⟩:=aW (ee c l);rw[hR];rw[<-aay h]at hR;obtain⟨c0,VG⟩:=aW (min c 1099511627776);have bI:0<=c0/\c0<=1099511627776:=by omega
 rw[VG]at hR;have aB:=cR;refine c84.ok (by simp) (aM ?_);simp;apply aa.ai aB fw [0,1,4];simp[app];refine aa.lk (o:=[(1005,.box [.v (ti 0),.v (ti 0)])]) (l:=[(0,.v (ti c)),(1,.v (.sl (bN l))),(4,.ptr 1005 0)]) (aV:=1094) (by simp) ?_;apply aa.ai aB fw [1,4,5];simp[apq,VG];refine aa.lk (o:=[(1005,.box [.v (ti 0),.v (ti 0)]),(1100,.box [.v (ti c0),.v (ti 1)])]) (l:=[(1,.v (.sl (bN l))),(4,.ptr 1005 0),(5,.ptr 1100 0)]) (aV:=1200) (by simp) ?_;apply aa.sq aB fw [4,5,11,12,13];simp[apr];apply aa.block;refine aa.loop (λi:Nat=>⟨DM.look [(4,.ptr 1005 0),(5,.ptr 1100 0),(11,.v (.sl (bN l))),(12,.v (ti l.length)),(13,.v (ti i))],cF [(1005,.box [.v (ti 0),.v (ti 0)]),(1100,.box [.v (ti (gO c0 1 (l.take i)).aH),.v (ti (gO c0 1 (l.take i)).size)])],1400,1000,[]⟩)
  (λi=>i<=l.length) (λi=>l.length-i) 0 (Le.bi ?_ ?_ ?_ ?_) (by simp) (λi hi=>?_)
 ·simp
 ·simp
 ·simp[gO]
 ·simp
 obtain⟨A,hA⟩:=aW (gO c0 1 (l.take i));rw[hA];apply aa.ai aB fw [4,5,11,12,13,14];simp[aps];apply aa.seq;refine aa.cond rfl (λh3c=>?_) (λh3c=>?_)
 ·have B0:i<l.length:=by simpa using h3c
  apply aa.skip;simp;apply aa.seq;apply aa.block;have rv:=dH B0;have hvm:=h _ (bC B0);have tf:gO c0 1 (l.take (i+1))=⟨min (A.aH+(l.getD i default).aH) 1099511627776,min (A.size+(l.getD i default).size) 1099511627776⟩:=by rw[dh B0,Gd,hA]
  have hAb:=wH (c:=c0) (s:=1) (l:=l.take i) (λv hv=>h v (DB hv)) bI.1 (by omega) (by omega) (by omega);rw[hA]at hAb;obtain⟨⟨vc,vs⟩,hv⟩:=aW (l.getD i default);rw[hv]at rv hvm tf;obtain⟨g1,g2,g3,g4⟩:=hvm;simp only at g1 g2 g3 g4 tf;obtain⟨ac,asz⟩:=A;simp only at hAb tf;apply aa.ai aB fw [4,5,7,11,12,13];simp[apt,B0,rv];refine aa.lk (o:=[(1005,.box [.v (ti 0),.v (ti 0)]),(1100,.box [.v (ti ac),.v (ti asz)])]) (l:=[(4,.ptr 1005 0),(5,.ptr 1100 0),(7,.v (.box [ti vc,ti vs])),(11,.v (.sl (bN l))),(12,.v (ti l.length)),(13,.v (ti i))]) (aV:=1500) (by simp) ?_;apply aa.ai aB fw [4,5,7,11,12,13];simp[apu,aA (x:=ac+vc) (by omega)];refine aa.lk (o:=[(1005,.box [.v (ti 0),.v (ti 0)]),(1100,.box [.v (ti (min (ac+vc) 1099511627776)),.v (ti asz)])]) (l:=[(4,.ptr 1005 0),(5,.ptr 1100 0),(7,.v (.box [ti vc,ti vs])),(11,.v (.sl (bN l))),(12,.v (ti l.length)),(13,.v (ti i))]) (aV:=1600) (by simp) ?_;apply aa.dZ aB fw [4,5,11,12,13];simp[apv,aA (x:=asz+vs) (by omega)];apply aa.dZ aB fw [4,5,11,12,13];simp[apw];rw[aA (x:=(i:Int)+1) (by omega)];refine⟨i+1,Le.bi ?_ ?_ ?_ ?_,by omega,by omega⟩
  ·simp
  ·simp
  ·simp[tf]
  ·simp
 ·have hi2:i=l.length:=by simp at h3c;omega
  subst hi2;rw[ZbN]at hA;apply aa.exit;simp;apply aa.sq aB fw [4,5,34];simp[apx];refine aa.cond rfl (λh8=>?_) (λh8=>?_)
  ·have h8:A.aH=1099511627776:=by simpa using h8
   have zN:R=⟨1099511627776,0⟩:=by rw[<-hR];unfold ee;rw[hA];simp[h8]
   apply aa.ai aB fw [4];simp[apy];apply aa.ret;simp[PB,zN]
  ·have h8:¬A.aH=1099511627776:=by simpa using h8
   have hAb:=KH (c:=c0) (s:=1) (l:=l) h bI.1 bI.2 (by omega) (by omega);rw[hA]at hAb;have zN:R=A:=by rw[<-hR];unfold ee;rw[hA,bj (by omega)]
   apply aa.skip;simp;apply aa.ai aB fw [4];simp[aiO];apply aa.ret;simp[PB,zN]
section
variable{f0 f:bF}
abbrev s56:DM.Spec:=cK (λts=>∃a b c d,ts=[.agg [ti a,ti b],.agg [ti c,ti d]]) (fun|[.agg [.int _ a,.int _ b],.agg [.int _ c,.int _ d]]=>.bool (decide ((⟨a,b⟩:dj).lt ⟨c,d⟩))|_=>.bool false) true
def akJ{l:List (Nat×DM.Spec)}(h:ay aj (bB l)):ay aj (bB ((84,s56)::l)):=by
 refine ay.cons h ?_;rintro ts ⟨a,b,c,d,rfl⟩;exact⟨t56 ⟨a,b⟩ ⟨c,d⟩,λ_=>rfl⟩
def Tr{α:Type}{l:List α}{i:Nat}{a d:α}(h:l[i]? =some a):l.getD i d=a/\i<l.length:=by
 obtain⟨h1,h2⟩:=DA.1 h;exact⟨by simp[List.getD,h],h1⟩
def jO(p q N:Nat)(n:Nat):Nat:=if n=0 then p else if n=1 then q else N+n
def kL{p q N:Nat}(h:p<N)(k:q<N)(cj:p≠q)(x y:Nat)(e:jO p q N x=jO p q N y):x=y:=by
 unfold jO at e;split at e<;>split at e<;>(try split at e)<;>(try split at e)<;>omega
def t55{a N x y:Nat}{v:LV}(hN:∀r,N<=r->f0 r=none)(h:v.at f0 a)(hx:x<v.ak.length)(hy:y<v.ak.length):
  aY aj 83 [.v (ti x),.v (ti y),.ptr a 0] f0 ⟨True,.v (.bool (decide ((bv v.ak x).lt (bv v.ak y)))),f0⟩:=by
 obtain⟨R,hR⟩:=aW (decide ((bv v.ak x).lt (bv v.ak y)));rw[hR];have aB:=akJ ay.nil;refine c55.rJ hN (by simp) λba=>?_;obtain⟨sp,rb,cs,ak⟩:=v;obtain⟨h1,h2,h3,h4⟩:=h;simp only at h1 h2 h3 h4 hx hy;obtain⟨h5,h6⟩:=Tr (d:=DV.undef) h3;have r1:=dH hx;have r2:=dH hy;simp only[bv,iA]at hR;obtain⟨⟨xc,xs⟩,ex⟩:=aW (ak.getD x default);obtain⟨⟨yc,ys⟩,ey⟩:=aW (ak.getD y default);simp only[ex,ey]at r1 r2 hR;have h7:cs[12]'h6=.bE rb 0:=by rw[xi h6]at h3;exact Zca h3
 simp;apply aa.ai aB fw [0,1,2];simp[aqJ];apply aa.ai aB fw [5];simp[aqK,h1,h2,h6,h7,h4,hx,hy,r1,r2,uP,hR];refine⟨h6, ?_⟩;apply aa.ret;simp[dw];rfl
def alC:∀args ab,(k55 args ab).ok->(∀N,(∀r,N<=r->ab r=none)->aY aj 83 args ab (k55 args ab))/\∀r,ab r=none->(k55 args ab).ab r=none:=by
 intro args ab h;unfold k55 at h⊢;split at h
 ·rename_i x y a;obtain⟨⟨v,hv⟩,⟨x0,x1⟩,y0,y1⟩:=h;rw[N5 hv]at x1 y1⊢;obtain⟨x,rfl⟩:=jm x0;obtain⟨y,rfl⟩:=jm y0;exact⟨λN hN=>aY.of (t55 hN hv (by omega) (by omega)) rfl rfl,λr hr=>hr⟩
 ·exact h.elim
structure Qs where
 heap:List lA
 bP:Nat
 es:Pl
 mc:Nat
 (next bG:Int)
def qB(a hp m:Nat)(s:Qs):Ob:=.box [.pf (.func 83) [.ptr a 0],.bE hp s.bP,.jG m,.v (ti s.next),.v (ti s.bG)]
def hB(s:Qs):Ob:=.bJ s.bP 220 3 (dU s.heap)
def mB(s:Qs):Ob:=.map [.int .i64] false s.mc (wJ s.es)
structure QV where
 (a hp m:Nat)
 l:LV
 s:Qs
structure QV.at(v:QV)(f:bF)(q:Nat):Prop where
 q:f q=some (qB v.a v.hp v.m v.s)
 hp:f v.hp=some (hB v.s)
 m:f v.m=some (mB v.s)
 l:v.l.at f v.a
def QV.DO{v w:QV}{q:Nat}(h:v.at f q)(k:w.at f q):v=w:=by
 obtain⟨a,hp,m,l,⟨heap,bP,es,mc,next,bG⟩⟩:=v;obtain⟨a',hp',m',l',⟨W8,cJ,oO,mc',ahh,ZW⟩⟩:=w;obtain⟨h1,h2,h3,h4⟩:=h;obtain⟨k1,k2,k3,k4⟩:=k;simp only at h1 h2 h3 h4 k1 k2 k3 k4;rw[h1]at k1;simp only[qB,cI,Ob.box.injEq,KU,DV.pf.injEq,DV.ptr.injEq,DV.bE.injEq,DV.jG.injEq,DV.v.injEq,T.int.injEq,rO,Lt]at k1;obtain⟨e1,⟨e2,e3⟩,e4,e5,e6⟩:=k1;subst e1 e2 e3 e4 e5 e6;rw[h2]at k2;simp only[hB,cI,Ob.bJ.injEq,xJ,rO]at k2;rw[h3]at k3;simp only[mB,cI,Ob.map.injEq,Ko,rO]at k3;obtain⟨e7,e8⟩:=k3;have e9:=LV.DO h4 k4;subst k2 e7 e8 e9;rfl
open Classical in
noncomputable def fp(f:bF)(q:Nat):QV:=if h:∃v:QV,v.at f q then Classical.choose h else⟨0,0,0,⟨0,0,[],[]⟩,⟨[],0,[],0,0,0⟩⟩
def fK{v:QV}{q:Nat}(h:v.at f q):fp f q=v:=by
 have hx:∃v:QV,v.at f q:=⟨v,h⟩;unfold fp;rw[Zdg hx];exact QV.DO (Classical.choose_spec hx) h
def Qs.inR(s:Qs)(ak:cm):Prop:=∀e∈s.heap,0<=e.x/\e.x<ak.length
def jD(ak:cm)(a b:lA):Prop:=(bv ak a.x).lt (bv ak b.x)\/(¬(bv ak b.x).lt (bv ak a.x)/\a.t<b.t)
instance(ak:cm)(a b:lA):Decidable (jD ak a b):=by unfold jD;infer_instance
abbrev Qs.e(s:Qs)(i:Int):lA:=s.heap.getD i.toNat default
noncomputable def QW:bM->bF->gC
 |[.ptr q 0,.v (.int .i64 i),.v (.int .i64 j)],f=>⟨(∃v:QV,v.at f q)/\(fp f q).s.inR (fp f q).l.ak/\(0<=i/\i<(fp f q).s.heap.length)/\(0<=j/\j<(fp f q).s.heap.length),.v (.bool (decide (jD (fp f q).l.ak ((fp f q).s.e i) ((fp f q).s.e j)))),f⟩
 |_,f=>⟨False,.undef,f⟩
def Ts{v:QV}{q:Nat}{i j:Int}(h:v.at f q):QW [.ptr q 0,.v (ti i),.v (ti j)] f=⟨v.s.inR v.l.ak/\(0<=i/\i<v.s.heap.length)/\(0<=j/\j<v.s.heap.length),.v (.bool (decide (jD v.l.ak (v.s.e i) (v.s.e j)))),f⟩:=by
 have hx:∃v:QV,v.at f q:=⟨v,h⟩;simp only[QW,fK h,hx,rO]
def axL{l:List (Nat×DM.Spec)}(h:ay aj (bB l)):ay aj (bB ((83,eL k55)::l)):=ay.iL h alC
def axM{q N i j:Nat}{v:QV}(hN:∀r,N<=r->f0 r=none)(h:v.at f0 q)(hr:v.s.inR v.l.ak)(hi:i<v.s.heap.length)(hj:j<v.s.heap.length):
  aY aj 150 [.ptr q 0,.v (ti i),.v (ti j)] f0 ⟨True,.v (.bool (decide (jD v.l.ak (v.s.e i) (v.s.e j)))),f0⟩:=by
 obtain⟨R,hR⟩:=aW (decide (jD v.l.ak (v.s.e i) (v.s.e j)));rw[hR];have aB:=axL ay.nil;refine awD.rJ hN (by simp) λba=>?_;obtain⟨a,hp,m,l,⟨heap,bP,es,mc,next,bG⟩⟩:=v;obtain⟨h1,h2,h3,h4⟩:=h;simp only[qB,hB,mB]at h1 h2 h3 h4 hi hj hr;have OF:q<N:=(ba q _ h1).1;have oY:hp<N:=(ba hp _ h2).1;have haN:a<N:=(ba a _ h4.a).1;have hqp:q≠hp:=λe=>by rw[e,h2]at h1;cases h1
 have r1:=dY hi;have r2:=dY hj;have x1:=hr _ (bC hi);have x2:=hr _ (bC hj);simp only[Qs.e,iA]at hR;obtain⟨⟨ax,ah,oi⟩,ex⟩:=aW (heap.getD i default);obtain⟨⟨bx,bh,bt⟩,ey⟩:=aW (heap.getD j default);simp only[ex,ey,lA.enc]at r1 r2 x1 x2 hR;have nq:∀k,q≠N+k:=λk=>by omega
 have np:∀k,hp≠N+k:=λk=>by omega
 simp;apply aa.ai aB fw [0,1,2];simp[aiP];apply aa.ko aB fw (rs:=dq (jO q hp N) (fl (dX 150 1) [none,none,none,none,none,none,none,none,none,none,some [0],none,some [1],some [1],none,none,some [58],none])) (.inl (congrArg DC.fG (by kernel_rfl))) ((eC (kL OF oY hqp) _ _ _).trans (by kernel_rfl)) [0,7,8];simp[aiQ,dq,fZ,fl,jO,cZ,bT,aT,h1,h2,hi,hj,r1,r2];refine aa.le (Le.eA (l1:=[]) (l:=[(0,.ptr q 0),(7,.v (.box [ti ax,ti ah,ti oi])),(8,.v (.box [ti bx,ti bh,ti bt]))]) (aV:=N+1000) ba ?_ ?_ ?_ ?_ ?_) ?_
 ·omega
 ·simp
 ·simp[bZ];omega
 ·simp[d9]
 ·simp[h1,fQ];exact⟨bQ (l:=[]) ba (by omega) (by simp),bQ (l:=[]) ba (by omega) (by simp)⟩
 have hk:=λx y=>alr (x:=x) (y:=y) h4;obtain⟨c1,bI⟩:=aW (decide ((bv l.ak ax).lt (bv l.ak bx)):Bool);obtain⟨c2,fW⟩:=aW (decide ((bv l.ak bx).lt (bv l.ak ax)):Bool);have e0:aR [] f0=f0:=rfl;rw[e0];apply aa.sq aB fw [0,7,8,31];simp[aiR,h1,hk,x1,x2,bI];refine aa.cond rfl (λg=>?_) (λg=>?_)
 ·have g:c1=true:=by simpa using g
  subst g;have:R=true:=by rw[<-hR];unfold jD;simp[p7 bI]
  subst this;apply aa.ai aB fw [6];simp[aiS];apply aa.ret;simp[dw]
 ·have g:c1=false:=by simpa using g
  subst g;apply aa.skip;simp;refine aa.ci aB fw [(6,.v (.bool R))] ?_ ?_
  ·have zN:(!c2&&decide (oi<bt))=R:=by
    rw[<-hR,<-fW];unfold jD;have:=uO bI;by_cases z1:(bv l.ak bx).lt (bv l.ak ax)<;>by_cases z2:oi<bt<;>simp[this,z1,z2]
   cases c2
   ·simp[X5,h1,hk,x1,x2,fW]at zN⊢;exact zN
   ·simp[X5,h1,hk,x1,x2,fW]at zN⊢;exact zN
  apply aa.ret;simp[dw]
def afZ:∀args ab,(QW args ab).ok->(∀N,(∀r,N<=r->ab r=none)->aY aj 150 args ab (QW args ab))/\∀r,ab r=none->(QW args ab).ab r=none:=by
 intro args ab h;unfold QW at h⊢;split at h
 ·rename_i q i j;obtain⟨⟨v,hv⟩,hr,⟨i0,i1⟩,j0,j1⟩:=h;rw[fK hv]at hr i1 j1⊢;obtain⟨i,rfl⟩:=jm i0;obtain⟨j,rfl⟩:=jm j0;exact⟨λN hN=>aY.of (axM hN hv hr (by omega) (by omega)) rfl rfl,λr hr=>hr⟩
 ·exact h.elim
def ahx{l:List (Nat×DM.Spec)}(h:ay aj (bB l)):ay aj (bB ((150,eL QW)::l)):=ay.iL h afZ
end
section
variable{f f0:bF}
def bV(f:bF)(q:Nat)(v:QV)(s:Qs):bF:=aR [(q,qB v.a v.hp v.m s),(v.hp,hB s),(v.m,mB s)] f
abbrev QV.to(v:QV)(s:Qs):QV:=⟨v.a,v.hp,v.m,v.l,s⟩
structure QV.Ne(v:QV)(q:Nat):Prop where
 qp:q≠v.hp
 qm:q≠v.m
 pm:v.hp≠v.m
 aq:v.a≠q
 ap:v.a≠v.hp
 am:v.a≠v.m
 sq:v.l.sp≠q
 sp:v.l.sp≠v.hp
 sm:v.l.sp≠v.m
 rq:v.l.rb≠q
 rp:v.l.rb≠v.hp
 rm:v.l.rb≠v.m
def QV.at.ne{v:QV}{q:Nat}(h:v.at f q):v.Ne q:=by
 obtain⟨h1,h2,h3,h4,h5,h6,h7⟩:=h;simp only[qB,hB,mB]at h1 h2 h3;have:=(Tr (d:=DV.undef) h6).2;refine⟨λe=>?_,λe=>?_,λe=>?_,λe=>?_,λe=>?_,λe=>?_,λe=>?_,λe=>?_,λe=>?_,λe=>?_,λe=>?_,λe=>?_⟩
 ·rw[e,h2]at h1;cases h1
 ·rw[e,h3]at h1;cases h1
 ·rw[e,h3]at h2;cases h2
 ·rw[e,h1]at h4;simp at h4
 ·rw[e,h2]at h4;cases h4
 ·rw[e,h3]at h4;cases h4
 ·rw[e,h1]at h5;simp only[cI,Ob.box.injEq]at h5;rw[<-h5]at this;simp at this
 ·rw[e,h2]at h5;cases h5
 ·rw[e,h3]at h5;cases h5
 ·rw[e,h1]at h7;cases h7
 ·rw[e,h2]at h7;simp at h7
 ·rw[e,h3]at h7;cases h7
def eM{v:QV}{q:Nat}(h:v.at f q)(s:Qs):(v.to s).at (bV f q v s) q:=by
 have n:=h.ne;obtain⟨h1,h2,h3,h4,h5,h6,h7⟩:=h;refine⟨by simp[bV],by simp[bV,Ne.symm n.qp],by simp[bV,Ne.symm n.qm,Ne.symm n.pm],⟨?_, ?_,h6, ?_⟩⟩
 ·simp[bV,n.aq,n.ap,n.am,h4]
 ·simp[bV,n.sq,n.sp,n.sm,h5]
 ·simp[bV,n.rq,n.rp,n.rm,h7]
def jY(f:bF)(q:Nat)(v:QV)(s s':Qs):bV (bV f q v s) q (v.to s) s'=bV f q v s':=by
 funext k;simp only[bV,aL,cq];by_cases h1:k=q<;>by_cases h2:k=v.hp<;>by_cases h3:k=v.m<;>simp[h1,h2,h3]
def iC{v:QV}{q r:Nat}(h:v.at f q)(s:Qs)(hr:f r=none):bV f q v s r=none:=by
 have e1:r≠q:=λe=>by rw[e,h.q]at hr;cases hr
 have e2:r≠v.hp:=λe=>by rw[e,h.hp]at hr;cases hr
 have e3:r≠v.m:=λe=>by rw[e,h.m]at hr;cases hr
 simp[bV,e1,e2,e3,hr]
def tV{N aJ aV q:Nat}{tm:dG}{l:fg}{L:df}{v:QV}(s:Qs)(ba:dy f0 N)(hv:v.at f0 q)(hn:N<=aV)(Pp:v.s.bP<=s.bP)
  (hL:∀p∈L,p.1=q\/p.1=v.hp\/p.1=v.m\/N<=p.1) (h1:aR L f0 q=some (qB v.a v.hp v.m s)) (h2:aR L f0 v.hp=some (hB s)) (h3:aR L f0 v.m=some (mB s))
  (h4:aR L f0 v.a=f0 v.a)
  (g8:gf (aR L f0) (bV f0 q v s) id tm l):
  Le ⟨tm,aR L f0,aJ,N,[]⟩ ⟨DM.look l,bV f0 q v s,aV,N,[]⟩:=by
 have OF:q<N:=(ba q _ hv.q).1;have oY:v.hp<N:=(ba v.hp _ hv.hp).1;have Dj:v.m<N:=(ba v.m _ hv.m).1;have n:=hv.ne;refine Le.eA ba hn ?_ ?_ ?_ g8
 ·simp;omega
 ·have:∀(L:df),(∀p∈L,p.1=q\/p.1=v.hp\/p.1=v.m\/N<=p.1)->bZ N [(q,qB v.a v.hp v.m s),(v.hp,hB s),(v.m,mB s)] L:=by
   intro L;induction L with
   |nil=>intro _;trivial
   |cons p L ih=>
    intro h;refine⟨λhq=>?_,ih λp hp=>h p (by simp[hp])⟩;rcases h p (by simp)with h|h|h|h
    ·exact⟨_,by rw[h];exact .head _⟩
    ·exact⟨_,by rw[h];exact .tail _ (.head _)⟩
    ·exact⟨_,by rw[h];exact .tail _ (.tail _ (.head _))⟩
    ·omega
  exact this _ hL
 ·refine⟨⟨_,h1,.inr ⟨rfl,λk hk=>?_⟩,λ_=>bq _⟩,⟨_,h2,.inr ⟨rfl,λk hk=>by simp[be,hB]at hk⟩,λ_=>bq _⟩,⟨_,h3,.inr ⟨rfl,λk hk=>?_⟩,λ_=>bq _⟩,trivial⟩
  ·simp only[qB,be,bR,aT,xP,oJ,gm,lZ,lS]at hk;rcases hk with rfl|rfl|rfl
   ·exact⟨_,_,h4.trans hv.l.a,by simp[n.aq,n.ap,n.am,hv.l.a],bq _⟩
   ·exact⟨_,_,h2,by simp[Ne.symm n.qp],bq _⟩
   ·exact⟨_,_,h3,by simp[Ne.symm n.qm,Ne.symm n.pm],bq _⟩
  ·exfalso;simp only[mB,be,KQ,wJ,iF]at hk;obtain⟨e,⟨e',_,rfl⟩,hk⟩:=hk;simp[aT]at hk
def Om(l:Pl)(k:Int):uZ l k=(l.map (·.2.1)).findIdx? (·==k):=by
 unfold uZ;rw[List.findIdx?_map];rfl
def oG{l:Pl}{c:Nat}{k v:Int}{i:Nat}(h:uZ l k=some i)(k':Int):uZ (eN l c k v) k'=uZ l k':=by
 rw[Om,Om];unfold eN;rw[h];simp only;have h1:=mD (f:=λe:Nat×Int×Int=>e.2.1) (g:=λe=>(e.1,e.2.1,v)) (g':=id) (λ_=>rfl) l i;rw[ZdA]at h1;rw[<-h1]
def mC{l:Pl}{c:Nat}{k v:Int}{i:Nat}(h:uZ l k=some i)(hk:q9 l):q9 (eN l c k v):=by
 unfold eN q9;rw[h];have h1:=mD (f:=λe:Nat×Int×Int=>e.1) (g:=λe=>(e.1,e.2.1,v)) (g':=id) (λ_=>rfl) l i;rw[ZdA]at h1;simp only;rw[<-h1];exact hk
def Eo{l:Pl}{k:Int}{i:Nat}(h:uZ l k=some i)(z:DV)(c:Nat):∃e,l[i]? =some e/\aa9 (ti k) z c (wJ l)=.eE [.v (ti e.2.2),.v (ti e.1)]/\aa8 (ti k) z c (wJ l)=wJ l/\qu (ti k) c (wJ l)=c:=by
 obtain⟨e,h1,h2,h3⟩:=Bo h;refine⟨e,h1, ?_, ?_, ?_⟩
 ·unfold aa9;rw[NY,h3];rfl
 ·unfold aa8;rw[Bn,h]
 ·unfold qu;rw[Bn,h]
def Qs.qM(s:Qs)(k:Int):Prop:=∃i,uZ s.es k=some i
def Qs.swap(s:Qs)(i j:Int):Qs:=⟨(s.heap.set i.toNat (s.e j)).set j.toNat (s.e i),s.bP,eN (eN s.es s.mc (s.e j).h i) s.mc (s.e i).h j,s.mc,s.next,s.bG⟩
def Qs.c7(s:Qs)(i j:Int):Prop:=q9 s.es/\(0<=i/\i<s.heap.length)/\(0<=j/\j<s.heap.length)/\s.qM (s.e i).h/\s.qM (s.e j).h
def axR{q N i j:Nat}{v:QV}(hN:∀r,N<=r->f0 r=none)(h:v.at f0 q)(hs:v.s.c7 i j):
  aY aj 145 [.ptr q 0,.v (ti i),.v (ti j)] f0 ⟨True,.v (.eE []),bV f0 q v (v.s.swap i j)⟩:=by
 obtain⟨S,hS⟩:=aW (v.s.swap i j);rw[hS];have aB:=cR;have h0:=h;have n:=h.ne;refine awF.rJ hN (by simp) λba=>?_;obtain⟨a,hp,m,l,⟨heap,bP,es,mc,next,bG⟩⟩:=v;obtain⟨h1,h2,h3,h4⟩:=h;obtain⟨s1,⟨_,s2⟩,⟨_,s3⟩,⟨i1,s4⟩,⟨i2,s5⟩⟩:=hs;simp only[qB,hB,mB,Qs.e,iA]at h1 h2 h3 h4 s1 s2 s3 s4 s5;have hi:i<heap.length:=by omega
 have hj:j<heap.length:=by omega
 have OF:q<N:=(ba q _ h1).1;have oY:hp<N:=(ba hp _ h2).1;have Dj:m<N:=(ba m _ h3).1;have r1:=dY hi;have r2:=dY hj;simp only[Qs.swap,Qs.e,iA]at hS;obtain⟨ea,ex⟩:=aW (heap.getD i default);obtain⟨eb,ey⟩:=aW (heap.getD j default);simp only[ex,ey]at r1 r2 hS s4 s5;obtain⟨H,hH⟩:=aW ((heap.set i eb).set j ea);have hHl:H.length=heap.length:=by rw[<-hH];simp
 have rY:i<H.length:=by omega
 have hj':j<H.length:=by omega
 have r3:=dY rY;have r4:=dY hj';have e3:H.getD i default=eb:=by
  rw[<-hH];by_cases e:i=j
  ·subst e;rw[<-ex,<-ey];simp[List.getD,hi]
  ·have:j≠i:=λq=>e q.symm;simp[List.getD,this,hi]
 have e4:H.getD j default=ea:=by rw[<-hH];simp[List.getD,hj]
 rw[e3]at r3;rw[e4]at r4;have EV:((dU heap).set i eb.enc).set j ea.enc=dU H:=by rw[<-hH,mz,mz]
 obtain⟨x1,y1,z1,z2,z3⟩:=Eo s5 (.v (ti 0)) mc;obtain⟨E1,hE1⟩:=aW (eN es mc eb.h i);have b1:=Bg (v:=(i:Int)) s1 s5 y1 mc;rw[hE1]at b1 hS;have s6:uZ E1 ea.h=some i1:=by rw[<-hE1,oG s5];exact s4
 have s7:q9 E1:=by rw[<-hE1];exact mC s5 s1
 obtain⟨x2,y2,z4,z5,z6⟩:=Eo s6 (.v (ti 0)) mc;have b2:=Bg (v:=(j:Int)) s7 s6 y2 mc;obtain⟨E2,Ke⟩:=aW (eN E1 mc ea.h j);rw[Ke]at b2 hS;rw[hH]at hS;obtain⟨ax,ah,oi⟩:=ea;obtain⟨bx,bh,bt⟩:=eb;simp only[lA.enc]at r1 r2 r3 r4 EV z1 z2 z3 z4 z5 z6;simp;apply aa.ai aB fw [0,1,2];have hd:List.drop 3 (DM.rowAt ((dU heap).set i [ti bx,ti bh,ti bt]) (j:Int))=[]:=by
  rw[show(dU heap).set i [ti bx,ti bh,ti bt]=dU (heap.set i ⟨bx,bh,bt⟩)from(mz heap i ⟨bx,bh,bt⟩).symm,dY (by simpa using hj)];rfl
 simp[aiT,h1,h2,hi,hj,r1,r2,hd,EV];obtain⟨V,hV⟩:=aW ((⟨a,hp,m,l,⟨heap,bP,es,mc,next,bG⟩⟩:QV):QV);have yx:V.a=a/\V.hp=hp/\V.m=m/\V.l=l:=by rw[<-hV];exact⟨rfl,rfl,rfl,rfl⟩
 obtain⟨S1,si⟩:=aW ((⟨H,bP,es,mc,next,bG⟩:Qs):Qs);rw[hV]at h0 n⊢;have n2:=n;obtain⟨n1,G1,n3,n4,n5,n6,n7,n8,n9,n10,n11,n12⟩:=n;rw[yx.2.1]at n1 n3 n5;rw[yx.2.2.1]at G1 n3 n6;rw[yx.1]at n4 n5 n6;refine aa.le (tV (v:=V) S1 (l:=[(0,.ptr q 0),(1,.v (ti i)),(2,.v (ti j))]) (aV:=N+100) ba h0 (by omega) (by rw[<-hV,<-si];exact eF _) ?_ ?_ ?_ ?_ ?_ ?_) ?_
 ·simp[yx]
 ·rw[yx.1,yx.2.1,yx.2.2.1,<-si];simp[n1,h1,qB]
 ·rw[yx.2.1,<-si];simp[hB]
 ·rw[yx.2.2.1,<-si];simp[mB,Ne.symm n3,h3]
 ·rw[yx.1];simp[n5]
 ·simp[bV,qB]
 obtain⟨G,hG⟩:=aW (bV f0 q V S);rw[hG];simp only[bV,yx,<-si,qB,hB,mB];have Im:=Ne.symm n1;have K5:=Ne.symm n3;have akS:=Ne.symm G1;refine aa.to ⟨DM.look [],bV f0 q V S,N+1000,N,[]⟩ ?_ (by simp[RU,hG]);apply aa.dZ aB fw [];simp[aiU,rY,hj',r3,r4,Im,K5,akS,z1,z2,z3,z4,z5,z6,b1,b2];refine tV S (l:=[]) (aV:=N+1000) ba h0 (by omega) (by rw[<-hV,<-hS];exact eF _) ?_ ?_ ?_ ?_ ?_ ?_
 ·simp[yx]
 ·rw[yx.1,yx.2.1,yx.2.2.1,<-hS];simp[G1,qB]
 ·rw[yx.2.1,<-hS];simp[n3,Im,hB]
 ·rw[yx.2.2.1,<-hS];simp[mB]
 ·rw[yx.1];simp[n4,n5,n6]
 ·simp
end
section
variable{f f0:bF}{ak:cm}
noncomputable def QZ:bM->bF->gC
 |[.ptr q 0,.v (.int .i64 i),.v (.int .i64 j)],f=>⟨(∃v:QV,v.at f q)/\(fp f q).s.c7 i j,.v (.eE []),bV f q (fp f q) ((fp f q).s.swap i j)⟩
 |_,f=>⟨False,.undef,f⟩
def KM{v:QV}{q:Nat}{i j:Int}(h:v.at f q):QZ [.ptr q 0,.v (ti i),.v (ti j)] f=⟨v.s.c7 i j,.v (.eE []),bV f q v (v.s.swap i j)⟩:=by
 have hx:∃v:QV,v.at f q:=⟨v,h⟩;simp only[QZ,fK h,hx,rO]
def af2:∀args ab,(QZ args ab).ok->(∀N,(∀r,N<=r->ab r=none)->aY aj 145 args ab (QZ args ab))/\∀r,ab r=none->(QZ args ab).ab r=none:=by
 intro args ab h;unfold QZ at h⊢;split at h
 ·rename_i q i j;obtain⟨⟨v,hv⟩,hs⟩:=h;rw[fK hv]at hs⊢;have hs':=hs;obtain⟨_,⟨i0,_⟩,⟨j0,_⟩,_⟩:=hs';obtain⟨i,rfl⟩:=jm i0;obtain⟨j,rfl⟩:=jm j0;exact⟨λN hN=>aY.of (axR hN hv hs) rfl rfl,λr hr=>iC hv _ hr⟩
 ·exact h.elim
def aaW{l:List (Nat×DM.Spec)}(h:ay aj (bB l)):ay aj (bB ((145,eL QZ)::l)):=ay.iL h af2
structure Qs.ok(s:Qs)(ak:cm):Prop where
 pl:q9 s.es
 st:∀e∈s.es,e.1<s.mc
 qM:∀e∈s.heap,s.qM e.h
 r:s.inR ak
def Qs.pa{s:Qs}{i j:Int}(hi:i.toNat<s.heap.length)(hj:j.toNat<s.heap.length){e:lA}(h:e∈(s.swap i j).heap):e∈s.heap:=by
 rcases TG h with h|rfl
 ·rcases TG h with h|rfl
  ·exact h
  ·exact bC hj
 ·exact bC hi
def Qs.ok.c7{s:Qs}(h:s.ok ak){i j:Int}(hi:0<=i/\i<s.heap.length)(hj:0<=j/\j<s.heap.length):s.c7 i j:=
 ⟨h.pl,hi,hj,h.qM _ (bC (by omega)),h.qM _ (bC (by omega))⟩
def Qs.ok.swap{s:Qs}(h:s.ok ak){i j:Int}(hi:0<=i/\i<s.heap.length)(hj:0<=j/\j<s.heap.length):(s.swap i j).ok ak:=by
 obtain⟨_,_,_,⟨i1,s4⟩,⟨i2,s5⟩⟩:=h.c7 hi hj;have s6:uZ (eN s.es s.mc (s.e j).h i) (s.e i).h=some i1:=by rw[oG s5];exact s4
 have tf:∀{l:Pl} {c:Nat} {k v:Int} {i:Nat},uZ l k=some i->q9 l->(∀e∈l,e.1<c)->∀e∈eN l c k v,e.1<c:=by
  intro l c k v i hk hl hc e he;have:=(Bh (k:=k) (v:=v) hl hc).2 e he;unfold yy at this;rw[hk]at this;exact this
 refine⟨mC s6 (mC s5 h.pl),tf s6 (mC s5 h.pl) (tf s5 h.pl h.st),λe he=>?_,λe he=>h.r e (Qs.pa (by omega) (by omega) he)⟩;obtain⟨k,hk⟩:=h.qM e (Qs.pa (by omega) (by omega) he);exact⟨k,by show uZ (eN _ _ _ _) _=_;rw[oG s6,oG s5];exact hk⟩
@[simp] def Qs.d6(s:Qs)(i j:Int):(s.swap i j).heap.length=s.heap.length:=by simp[Qs.swap]
@[simp] def Qs.aac(s:Qs)(i j:Int):(s.swap i j).bP=s.bP:=rfl
def vL(ak:cm)(i:Nat)(s:Qs):Qs:=
 if h:0<i/\jD ak (s.e i) (s.e ((i-1)/2:Nat))then vL ak ((i-1)/2) (s.swap i ((i-1)/2:Nat))else s
termination_by i
decreasing_by omega
def tW{N aJ aV q:Nat}{tm:dG}{l:fg}{v:QV}(s:Qs)(ba:dy f0 N)(hv:v.at f0 q)(hn:N<=aV)(Pp:v.s.bP<=s.bP)
  (g8:gf (bV f0 q v s) (bV f0 q v s) id tm l):
  Le ⟨tm,bV f0 q v s,aJ,N,[]⟩ ⟨DM.look l,bV f0 q v s,aV,N,[]⟩:=by
 have k:=eM hv s;have n:=hv.ne;refine tV s ba hv hn Pp ?_ k.q k.hp k.m ?_ g8
 ·simp
 ·simp[n.aq,n.ap,n.am]
def axS{q N i:Nat}{v:QV}(hN:∀r,N<=r->f0 r=none)(h:v.at f0 q)(hs:v.s.ok v.l.ak)(hi:i<v.s.heap.length)(dQ:v.s.heap.length<=1000000):
  aY aj 142 [.ptr q 0,.v (ti i)] f0 ⟨True,.v (.eE []),bV f0 q v (vL v.l.ak i v.s)⟩:=by
 obtain⟨R,hR⟩:=aW (vL v.l.ak i v.s);rw[hR];have aB:=ahx (aaW ay.nil);refine awH.rJ hN (by simp) λba=>?_;have eS:∀s,bV f0 q v s q=some (qB v.a v.hp v.m s):=λs=>(eM h s).q;simp;apply aa.block;refine aa.loop (λp:Nat×Qs=>⟨DM.look [(0,.ptr q 0),(1,.v (ti p.1))],bV f0 q v p.2,N+1000,N,[]⟩)
  (λp=>p.1<p.2.heap.length/\p.2.ok v.l.ak/\vL v.l.ak p.1 p.2=R/\p.2.heap.length<=1000000/\p.2.bP=v.s.bP) (λp=>p.1) (i,v.s) ?_ ⟨hi,hs,hR,dQ,rfl⟩ (λp hp=>?_)
 ·refine tV v.s (L:=[]) ba h (by omega) (eF _) (by simp) h.q h.hp h.m rfl ?_;simp[eS,qB]
 obtain⟨i,s⟩:=p;obtain⟨p1,p2,p3,p4,p5⟩:=hp;simp only at p1 p2 p3 p4 p5;have hv:=eM h s;have k1:=λx y=>Ts (i:=x) (j:=y) hv;have k2:=λx y=>KM (i:=x) (j:=y) hv;have e0:∀s',bV (bV f0 q v s) q (v.to s) s'=bV f0 q v s':=jY f0 q v s;simp only[QV.to,Qs.e]at k1 k2;unfold vL at p3;by_cases hz:i=0
 ·subst hz;rw[Zde (by omega)]at p3;subst p3;apply aa.seq;apply aa.c5 aB fw (rs:=Eb) ji (by kernel_rfl) [13];simp[Eb];refine aa.cond rfl (λg=>by cases g) (λg=>?_);apply aa.exit;simp[JU]
 ·have w1:IntKind.i64.wrap ((i:Int)-1)=((i-1:Nat):Int):=by rw[aA (by omega)];omega
  have w2:IntKind.i64.wrap (((i-1:Nat):Int).tdiv 2)=(((i-1)/2:Nat):Int):=by rw[Al (by omega),aA (by omega)];omega
  have w3:IntKind.i64.wrap (((i-1:Nat):Int)/2)=(((i-1)/2:Nat):Int):=by rw[aA (by omega)];omega
  obtain⟨c1,bI⟩:=aW (decide (jD v.l.ak (s.e i) (s.e ((i-1)/2:Nat))):Bool);have fW:=bI;simp only[Qs.e,iA]at fW;have hz':0<i:=by omega
  have An:(i-1)/2<s.heap.length:=by omega
  apply aa.seq;apply aa.c5 aB fw (rs:=Eb) ji (by kernel_rfl) [0,1,13];obtain⟨y,hy⟩:=aW ((i-1)/2);rw[hy]at w2 w3 bI fW An p3;simp[Eb,w1,w3,k1,hz',An,p1,p2.r];refine aa.cond rfl (λg=>?_) (λg=>?_)
  ·have g:c1=true:=by rw[<-bI];simpa [Qs.e,p1,An]using g
   subst g;rw[Zdg ⟨hz',p7 bI⟩]at p3;have so:=p2.c7 (i:=i) (j:=y) ⟨by omega,by omega⟩ ⟨by omega,by omega⟩;have so2:=p2.swap (i:=i) (j:=y) ⟨by omega,by omega⟩ ⟨by omega,by omega⟩;apply aa.skip;simp;apply aa.block;apply aa.c5 aB fw (rs:=RW) ji (by kernel_rfl) [0,1];simp[RW,w1,w3,k2,so,e0];apply aa.dZ aB fw [0,1];simp[aiV,w1,w3];refine⟨y,s.swap i y,tW _ ba h (by omega) (by simp[p5]) ?_,⟨by simpa using An,so2,p3,by simpa using p4,by simpa using p5⟩,by omega⟩;simp[eS,qB]
  ·have g:c1=false:=by rw[<-bI];simpa [Qs.e,p1,An]using g
   subst g;rw[Zde λx=>uO bI x.2]at p3;subst p3;apply aa.exit;simp[JU]
noncomputable def Q0:bM->bF->gC
 |[.ptr q 0,.v (.int .i64 i)],f=>⟨(∃v:QV,v.at f q)/\(fp f q).s.ok (fp f q).l.ak/\(0<=i/\i<(fp f q).s.heap.length)/\(fp f q).s.heap.length<=1000000,.v (.eE []),bV f q (fp f q) (vL (fp f q).l.ak i.toNat (fp f q).s)⟩
 |_,f=>⟨False,.undef,f⟩
def Tl{v:QV}{q:Nat}{i:Int}(h:v.at f q):Q0 [.ptr q 0,.v (ti i)] f=⟨v.s.ok v.l.ak/\(0<=i/\i<v.s.heap.length)/\v.s.heap.length<=1000000,.v (.eE []),bV f q v (vL v.l.ak i.toNat v.s)⟩:=by
 have hx:∃v:QV,v.at f q:=⟨v,h⟩;simp only[Q0,fK h,hx,rO]
def af3:∀args ab,(Q0 args ab).ok->(∀N,(∀r,N<=r->ab r=none)->aY aj 142 args ab (Q0 args ab))/\∀r,ab r=none->(Q0 args ab).ab r=none:=by
 intro args ab h;unfold Q0 at h⊢;split at h
 ·rename_i q i;obtain⟨⟨v,hv⟩,hs,⟨i0,i1⟩,hl⟩:=h;rw[fK hv]at hs i1 hl⊢;obtain⟨i,rfl⟩:=jm i0;exact⟨λN hN=>aY.of (axS hN hv hs (by omega) hl) rfl rfl,λr hr=>iC hv _ hr⟩
 ·exact h.elim
def aht{l:List (Nat×DM.Spec)}(h:ay aj (bB l)):ay aj (bB ((142,eL Q0)::l)):=ay.iL h af3
end
def vM(ak:cm)(s:Qs)(i:Nat):Nat->Nat
 |0=>i
 |t+1=>if jD ak (s.e (2*i+1+t:Nat)) (s.e (vM ak s i t))then 2*i+1+t else vM ak s i t
def lw(s:Qs)(i:Nat):Nat:=min 2 (s.heap.length-(2*i+1))
def dO(ak:cm)(s:Qs)(i:Nat):Nat:=vM ak s i (lw s i)
def u4(ak:cm)(s:Qs)(i:Nat):∀t,vM ak s i t=i\/(2*i+1<=vM ak s i t/\vM ak s i t<2*i+1+t)
 |0=>.inl rfl
 |t+1=>by
  have:=u4 ak s i t;unfold vM;split<;>omega
def iU(ak:cm)(s:Qs)(i:Nat):dO ak s i=i\/(i<dO ak s i/\dO ak s i<s.heap.length):=by
 have:=u4 ak s i (lw s i);unfold dO;unfold lw at*
 omega
def f8(ak:cm)(i:Nat)(s:Qs):Qs:=
 if h:dO ak s i=i then s else f8 ak (dO ak s i) (s.swap i (dO ak s i:Nat))
termination_by s.heap.length-i
decreasing_by
 have:=iU ak s i;simp only[Qs.d6];omega
def axT{f0:bF}{q N i:Nat}{v:QV}(hN:∀r,N<=r->f0 r=none)(h:v.at f0 q)(hs:v.s.ok v.l.ak)(hi:i<=1000000)(dQ:v.s.heap.length<=1000000):
  aY aj 143 [.ptr q 0,.v (ti i)] f0 ⟨True,.v (.eE []),bV f0 q v (f8 v.l.ak i v.s)⟩:=by
 obtain⟨R,hR⟩:=aW (f8 v.l.ak i v.s);rw[hR];have aB:=ahx (aaW ay.nil);refine awJ.rJ hN (by simp) λba=>?_;have eS:∀s,bV f0 q v s q=some (qB v.a v.hp v.m s):=λs=>(eM h s).q;simp;apply aa.block;refine aa.loop (λp:Nat×Qs=>⟨DM.look [(0,.ptr q 0),(1,.v (ti p.1))],bV f0 q v p.2,N+1000,N,[]⟩)
  (λp=>p.1<=1000000/\p.2.ok v.l.ak/\f8 v.l.ak p.1 p.2=R/\p.2.heap.length<=1000000/\p.2.bP=v.s.bP) (λp=>p.2.heap.length-p.1) (i,v.s) ?_ ⟨hi,hs,hR,dQ,rfl⟩ (λp hp=>?_)
 ·refine tV v.s (L:=[]) ba h (by omega) (eF _) (by simp) h.q h.hp h.m rfl ?_;simp[eS,qB]
 obtain⟨i,s⟩:=p;obtain⟨p1,p2,p3,p4,p5⟩:=hp;simp only at p1 p2 p3 p4 p5;have hv:=eM h s;have k1:=λx y=>Ts (i:=x) (j:=y) hv;have k2:=λx y=>KM (i:=x) (j:=y) hv;have e0:∀s',bV (bV f0 q v s) q (v.to s) s'=bV f0 q v s':=jY f0 q v s;have hq:=hv.q;have hh:=hv.hp;simp only[QV.to,Qs.e,qB,hB]at k1 k2 hq hh;have w1:IntKind.i64.wrap (2*(i:Int))=2*(i:Int):=aA (by omega);have w2:IntKind.i64.wrap (2*(i:Int)+1)=2*(i:Int)+1:=aA (by omega);have w3:IntKind.i64.wrap (2*(i:Int)+2)=2*(i:Int)+2:=aA (by omega);apply aa.block;apply aa.ai aB fw [0,1,4];simp[aiW];apply aa.sq aB fw [0,1,4,5];simp[aiX,w1,w2];apply aa.block;refine aa.loop (λt:Nat=>⟨DM.look [(0,.ptr q 0),(1,.v (ti i)),(4,.v (ti (vM v.l.ak s i t))),(5,.v (ti (2*i+1+t:Nat)))],bV f0 q v s,N+2000,N,[]⟩)
  (λt=>t<=lw s i) (λt=>2-t) 0 (tW _ ba h (by omega) (by simp[p5]) ?_) (by omega) (λt ht=>?_)
 ·simp[eS,qB,vM]
 have axl:lw s i<=2/\(lw s i<=s.heap.length-(2*i+1))/\(lw s i=2\/lw s i=s.heap.length-(2*i+1)):=by unfold lw;omega
 obtain⟨L,hL⟩:=aW (vM v.l.ak s i t);have hLo:=u4 v.l.ak s i t;rw[hL]at hLo⊢;obtain⟨K,hK⟩:=aW (2*i+1+t);rw[hK]at hLo⊢;obtain⟨c1,bI⟩:=aW (decide (t<lw s i):Bool);apply aa.seq;refine aa.ci aB fw [(0,.ptr q 0),(1,.v (ti i)),(4,.v (ti L)),(5,.v (ti K)),(23,.v (.bool c1))] ?_ ?_
 ·by_cases z1:t<2
  ·have z2:(K:Int)<=2*(i:Int)+2:=by omega
   by_cases z3:K<s.heap.length
   ·have:c1=true:=by rw[<-bI];simp;omega
    simp[PE,w1,w3,hq,hh,z2,z3,this]
   ·have:c1=false:=by rw[<-bI];simp;omega
    simp[PE,w1,w3,hq,hh,z2,z3,this]
  ·have z2:¬(K:Int)<=2*(i:Int)+2:=by omega
   have:c1=false:=by rw[<-bI];simp;omega
   simp[PE,w1,w3,z2,this]
 refine aa.cond rfl (λg=>?_) (λg=>?_)
 ·have g:c1=true:=by simpa using g
  subst g;have ht2:t<lw s i:=p7 bI;have hKl:K<s.heap.length:=by omega
  have VX:L<s.heap.length:=by omega
  have wK:IntKind.i64.wrap ((K:Int)+1)=((2*i+1+(t+1):Nat):Int):=by rw[aA (by omega)];omega
  have kJ:vM v.l.ak s i (t+1)=if jD v.l.ak (s.e K) (s.e L)then K else L:=by
   have:vM v.l.ak s i (t+1)=if jD v.l.ak (s.e (2*i+1+t:Nat)) (s.e (vM v.l.ak s i t))then 2*i+1+t else vM v.l.ak s i t:=rfl
   rw[this,hK,hL]
  apply aa.skip;simp;apply aa.seq;apply aa.block;apply aa.c5 aB fw (rs:=RX) ji (by kernel_rfl) [0,1,4,5,29];simp[RX,k1,p2.r,hKl,VX];obtain⟨c2,fW⟩:=aW (decide (jD v.l.ak (s.e K) (s.e L)):Bool);refine aa.to ⟨DM.look [(0,.ptr q 0),(1,.v (ti i)),(4,.v (ti (vM v.l.ak s i (t+1)))),(5,.v (ti K))],bV f0 q v s,N+4000,N,[]⟩ ?_ ?_
  ·refine aa.cond rfl (λg=>?_) (λg=>?_)
   ·have g:jD v.l.ak (s.e K) (s.e L):=by simpa [Qs.e,hKl,VX]using g
    rw[cG g]at kJ;apply aa.dZ aB fw [0,1,4,5];simp[aiY];refine tW _ ba h (by omega) (by simp[p5]) ?_;simp[eS,qB,kJ]
   ·have g:¬jD v.l.ak (s.e K) (s.e L):=by simpa [Qs.e,hKl,VX]using g
    rw[bj g]at kJ;apply aa.skip;simp;refine tW _ ba h (by omega) (by simp[p5]) ?_;simp[eS,qB,kJ]
  simp;apply aa.dZ aB fw [0,1,4,5];simp[aiZ,wK];refine⟨t+1,tW _ ba h (by omega) (by simp[p5]) ?_,by omega,by omega⟩;simp[eS,qB]
 ·have g:c1=false:=by simpa using g
  subst g;have ht2:t=lw s i:=by have:=uO bI;omega
  have hLs:dO v.l.ak s i=L:=by rw[<-hL,ht2];rfl
  unfold f8 at p3;rw[hLs]at p3;apply aa.exit;simp;apply aa.sq aB fw [0,1,4,33];simp[ai0];refine aa.cond rfl (λg=>?_) (λg=>?_)
  ·have g:L=i:=by simp at g;omega
   rw[Zdg g]at p3;subst p3;apply aa.ret;simp[RZ]
  ·have g:¬L=i:=by simp at g;omega
   rw[Zde g]at p3;have VX:i<L/\L<s.heap.length:=by have:=iU v.l.ak s i;omega
   have so:=p2.c7 (i:=i) (j:=L) ⟨by omega,by omega⟩ ⟨by omega,by omega⟩;have so2:=p2.swap (i:=i) (j:=L) ⟨by omega,by omega⟩ ⟨by omega,by omega⟩;apply aa.skip;simp;apply aa.c5 aB fw (rs:=RY) ji (by kernel_rfl) [0,4];simp[RY,k2,so,e0];apply aa.dZ aB fw [0,1];simp[ai1];refine⟨L,s.swap i L,tW _ ba h (by omega) (by simp[p5]) ?_,⟨by omega,so2,p3,by simpa using p4,by simpa using p5⟩,by simp;omega⟩;simp[eS,qB]
noncomputable def Ra:bM->bF->gC
 |[.ptr q 0,.v (.int .i64 i)],f=>⟨(∃v:QV,v.at f q)/\(fp f q).s.ok (fp f q).l.ak/\(0<=i/\i<=1000000)/\(fp f q).s.heap.length<=1000000,.v (.eE []),bV f q (fp f q) (f8 (fp f q).l.ak i.toNat (fp f q).s)⟩
 |_,f=>⟨False,.undef,f⟩
def Tm{v:QV}{f:bF}{q:Nat}{i:Int}(h:v.at f q):Ra [.ptr q 0,.v (ti i)] f=⟨v.s.ok v.l.ak/\(0<=i/\i<=1000000)/\v.s.heap.length<=1000000,.v (.eE []),bV f q v (f8 v.l.ak i.toNat v.s)⟩:=by
 have hx:∃v:QV,v.at f q:=⟨v,h⟩;simp only[Ra,fK h,hx,rO]
def af4:∀args ab,(Ra args ab).ok->(∀N,(∀r,N<=r->ab r=none)->aY aj 143 args ab (Ra args ab))/\∀r,ab r=none->(Ra args ab).ab r=none:=by
 intro args ab h;unfold Ra at h⊢;split at h
 ·rename_i q i;obtain⟨⟨v,hv⟩,hs,⟨i0,i1⟩,hl⟩:=h;rw[fK hv]at hs hl⊢;obtain⟨i,rfl⟩:=jm i0;exact⟨λN hN=>aY.of (axT hN hv hs (by omega) hl) rfl rfl,λr hr=>iC hv _ hr⟩
 ·exact h.elim
def ahu{l:List (Nat×DM.Spec)}(h:ay aj (bB l)):ay aj (bB ((143,eL Ra)::l)):=ay.iL h af4
def gF(s:Qs)(x:Int):Qs:=⟨s.heap++[⟨x,s.next,s.bG⟩],s.bP+1,eN s.es s.mc s.next s.heap.length,yy s.es s.mc s.next,s.next+1,s.bG+1⟩
def iR(ak:cm)(s:Qs)(x:Int):Qs:=vL ak s.heap.length (gF s x)
def x6{α:Type}{p:α->Bool}{a b:List α}{i:Nat}(h:a.findIdx? p=some i):(a++b).findIdx? p=some i:=by
 rw[List.findIdx?_append,h];rfl
def Dm{l:Pl}{c:Nat}{k v k':Int}{i:Nat}(h:uZ l k'=some i):uZ (eN l c k v) k'=some i:=by
 cases hk:uZ l k with
 |some j=>rw[oG hk];exact h
 |none=>
  unfold eN;rw[hk];exact x6 h
def Dn(l:Pl)(c:Nat)(k v:Int):∃i,uZ (eN l c k v) k=some i:=by
 cases hk:uZ l k with
 |some j=>exact⟨j,by rw[oG hk];exact hk⟩
 |none=>
  unfold eN;rw[hk];unfold uZ at hk⊢;rw[List.findIdx?_append,hk];exact⟨_,by simp;rfl⟩
def wO{s:Qs}{ak:cm}{x:Int}(h:s.ok ak)(hx:0<=x/\x<ak.length):(gF s x).ok ak:=by
 obtain⟨h1,h2⟩:=Bh (k:=s.next) (v:=s.heap.length) h.pl h.st;refine⟨h1,h2,λe he=>?_,λe he=>?_⟩
 ·rcases oJ.1 he with he|he
  ·obtain⟨i,hi⟩:=h.qM e he;exact⟨i,Dm hi⟩
  ·simp at he;subst he;exact Dn _ _ _ _
 ·rcases oJ.1 he with he|he
  ·exact h.r e he
  ·simp at he;subst he;exact hx
def zi(s:Qs)(ak:cm)(x:Int):Prop:=s.ok ak/\(0<=x/\x<ak.length)/\s.heap.length<=100000/\(0<=s.next/\s.next<=1000000000000)/\(0<=s.bG/\s.bG<=1000000000000)
def t82{f0:bF}{q N:Nat}{x:Int}{v:QV}(hN:∀r,N<=r->f0 r=none)(h:v.at f0 q)(hs:zi v.s v.l.ak x):
  aY aj 121 [.ptr q 0,.v (ti x)] f0 ⟨True,.v (ti v.s.next),bV f0 q v (iR v.l.ak v.s x)⟩:=by
 obtain⟨ho,hx,h5,h6,h7⟩:=hs;have pg:=wO ho hx;obtain⟨R,hR⟩:=aW (iR v.l.ak v.s x);rw[hR];unfold iR at hR;obtain⟨S,hS⟩:=aW (gF v.s x);rw[hS]at hR pg;have aB:=aht ay.nil;refine c82.rJ hN (by simp) λba=>?_;have eS:∀s,bV f0 q v s q=some (qB v.a v.hp v.m s):=λs=>(eM h s).q;obtain⟨n1,n2,n3,n4,n5,n6,_,_,_,_,_,_⟩:=h.ne;have Im:=Ne.symm n1;have G1:=Ne.symm n2;have K5:=Ne.symm n3;have h1:=h.q;have h2:=h.hp;have h3:=h.m;simp only[qB,hB,mB]at h1 h2 h3;obtain⟨nx,Bu⟩:=aW v.s.next;obtain⟨ck,xU⟩:=aW v.s.bG;obtain⟨hp,nk⟩:=aW v.hp;obtain⟨m,hm⟩:=aW v.m;obtain⟨bP,hve⟩:=aW v.s.bP;have hSd:S=⟨v.s.heap++[⟨x,nx,ck⟩],bP+1,eN v.s.es v.s.mc nx v.s.heap.length,yy v.s.es v.s.mc nx,nx+1,ck+1⟩:=by rw[<-hS,<-Bu,<-xU,<-hve];rfl
 rw[Bu,xU,nk,hve]at h1;rw[hm]at h1 h3;rw[nk,hve]at h2;rw[Bu]at h6;rw[xU]at h7;rw[nk]at n1 n3 n5 Im K5;rw[hm]at n2 n3 n6 G1 K5;rw[Bu];have w1:IntKind.i64.wrap (nx+1)=nx+1:=aA (by omega);have w2:IntKind.i64.wrap (ck+1)=ck+1:=aA (by omega);have qz:du 24 (v.s.heap.length+1):=by simp[du];omega
 simp;apply aa.ai aB fw [0,1];simp[apP];apply aa.ai aB fw [0,1,5,6];simp[apQ,h1,h2];apply aa.ai aB fw [0,5,6];have FE:eX 3 1 [ti x,ti nx,ti ck]=[[ti x,ti nx,ti ck]]:=rfl;simp[apR,h1,h2,n1,FE,qz];apply aa.ai aB fw [0,5,6];simp[apS,h3,G1,K5,NF,GC];apply aa.ai aB fw [0,5,6];simp[apT,w1,w2,n2];refine aa.le (tV (v:=v) S (l:=[(0,.ptr q 0),(5,.v (ti nx)),(6,.v (ti v.s.heap.length))]) (aV:=N+2000) ba h (by omega) (by rw[hve,hSd];simp) ?_ ?_ ?_ ?_ ?_ ?_) ?_
 ·rw[nk,hm];simp
 ·rw[nk,hm,hSd];simp[qB]
 ·rw[nk,hSd];simp[Im,n3,hB,uW];rfl
 ·rw[hm,hSd];simp[G1,mB]
 ·simp[n4,n5,n6]
 ·simp[eS,qB]
 have k1:=λy=>Tl (i:=y) (eM h S);have hl:S.heap.length=v.s.heap.length+1:=by rw[hSd];simp
 have e0:∀s',bV (bV f0 q v S) q (v.to S) s'=bV f0 q v s':=jY f0 q v S;simp only[QV.to]at k1 e0;apply aa.c5 aB fw (rs:=X6) ji (by kernel_rfl) [5];simp[X6,k1,pg,hl,e0,hR];refine⟨by omega, ?_⟩;apply aa.ai aB fw [4];simp[apU];apply aa.ret;simp[dw]
noncomputable def k82:bM->bF->gC
 |[.ptr q 0,.v (.int .i64 x)],f=>⟨(∃v:QV,v.at f q)/\zi (fp f q).s (fp f q).l.ak x,.v (ti (fp f q).s.next),bV f q (fp f q) (iR (fp f q).l.ak (fp f q).s x)⟩
 |_,f=>⟨False,.undef,f⟩
def alv{v:QV}{f:bF}{q:Nat}{x:Int}(h:v.at f q):k82 [.ptr q 0,.v (ti x)] f=⟨zi v.s v.l.ak x,.v (ti v.s.next),bV f q v (iR v.l.ak v.s x)⟩:=by
 have hx:∃v:QV,v.at f q:=⟨v,h⟩;simp only[k82,fK h,hx,rO]
def alG:∀args ab,(k82 args ab).ok->(∀N,(∀r,N<=r->ab r=none)->aY aj 121 args ab (k82 args ab))/\∀r,ab r=none->(k82 args ab).ab r=none:=by
 intro args ab h;unfold k82 at h⊢;split at h
 ·rename_i q x;obtain⟨⟨v,hv⟩,hs⟩:=h;rw[fK hv]at hs⊢;exact⟨λN hN=>aY.of (t82 hN hv hs) rfl rfl,λr hr=>iC hv _ hr⟩
 ·exact h.elim
def axJ{l:List (Nat×DM.Spec)}(h:ay aj (bB l)):ay aj (bB ((121,eL k82)::l)):=ay.iL h alG
def gM(s:Qs):Qs:=let s1:=s.swap 0 ((s.heap.length:Int)-1)
 ⟨s1.heap.take (s.heap.length-1),s1.bP+1,pb s1.es (s.e 0).h,s1.mc,s1.next,s1.bG⟩
def gr(ak:cm)(s:Qs):Qs:=if s.heap=[]then s else f8 ak 0 (gM s)
def wP(s:Qs):T:=if s.heap=[]then .eE [ti 0,.bool false]else .eE [ti (s.e 0).x,.bool true]
def Tc{l:Pl}{k k':Int}(h:k≠k'):(∃i,uZ l k'=some i)->∃i,uZ (pb l k) k'=some i:=by
 rintro⟨i,hi⟩;unfold pb;cases hk:uZ l k with
 |none=>exact⟨i,hi⟩
 |some j=>
  obtain⟨e,h1,h2,_⟩:=Bo hi;obtain⟨e',h3,h4,_⟩:=Bo hk;have cj:i≠j:=λx=>by
   subst x;rw[h1]at h3;cases h3;simp at h2 h4;exact h (h4.symm.trans h2)
  have lP:e∈l.eraseIdx j:=List.mem_eraseIdx_iff_getElem?.2 ⟨i,cj,h1⟩;have:(List.findIdx? (λe=>e.2.1==k') (l.eraseIdx j)).isSome=true:=by
   rw[List.findIdx?_isSome,Zcv];exact⟨e,lP,h2⟩
  exact ZbB.1 this
def NG{l:Pl}{k:Int}{c:Nat}(h:q9 l)(hc:∀e∈l,e.1<c):q9 (pb l k)/\∀e∈pb l k,e.1<c:=by
 unfold pb;cases uZ l k with
 |none=>exact⟨h,hc⟩
 |some j=>
  refine⟨?_,λe he=>hc e (ZcS he)⟩;unfold q9;rw[<-sZ];exact h.eraseIdx j
def Qs.nd(s:Qs):Prop:=∀i j:Nat,i<s.heap.length->j<s.heap.length->(s.e i).h=(s.e j).h->i=j
def Bd{s:Qs}{ak:cm}(h:s.ok ak)(hn:s.nd)(hl:0<s.heap.length):(gM s).ok ak:=by
 have h1:=h.swap (i:=0) (j:=(s.heap.length:Int)-1) ⟨by omega,by omega⟩ ⟨by omega,by omega⟩;obtain⟨a1,a2⟩:=NG (k:=(s.e 0).h) h1.pl h1.st;refine⟨a1,a2,λe he=>?_,λe he=>h1.r e (DB he)⟩;have he1:e∈(s.swap 0 ((s.heap.length:Int)-1)).heap:=DB he;refine Tc (λhk=>?_) (h1.qM e he1);obtain⟨y,hy,rfl⟩:=HS he;simp only[gM,xj,Qs.d6]at hy;have mq:y<s.heap.length-1:=by omega
 have fA:y<s.heap.length:=by omega
 have PU:((s.heap.length:Int)-1).toNat=s.heap.length-1:=by omega
 by_cases hz:y=0
 ·subst hz;have Uo:s.heap.length-1<s.heap.length:=by omega
  have:(gM s).heap[0]=s.e ((s.heap.length-1:Nat):Int):=by
   have h0:¬s.heap.length-1=0:=by omega
   simp only[gM,Qs.swap,ZcX,PU,Zdh,Zb6,h0,xd,km];rw[show(s.heap.length:Int)-1=((s.heap.length-1:Nat):Int)by omega]
  rw[this]at hk;have:=hn 0 (s.heap.length-1) hl (by omega) (by simpa using hk);omega
 ·have:(gM s).heap[y]=s.e (y:Int):=by
   have h0:¬s.heap.length-1=y:=by omega
   have h00:¬0=y:=by omega
   simp only[gM,Qs.swap,ZcX,PU,Zdh,Zb6,h0,h00,xd,Qs.e,iA];simp[List.getD,fA]
  rw[this]at hk;have:=hn 0 y hl fA (by simpa using hk);omega
def yw(s:Qs)(ak:cm):Prop:=s.ok ak/\s.nd/\s.heap.length<=1000000
def t85{f0:bF}{q N:Nat}{v:QV}(hN:∀r,N<=r->f0 r=none)(h:v.at f0 q)(hs:yw v.s v.l.ak):
  aY aj 124 [.ptr q 0] f0 ⟨True,.v (wP v.s),bV f0 q v (gr v.l.ak v.s)⟩:=by
 obtain⟨ho,Af,dQ⟩:=hs;obtain⟨RV,Qt⟩:=aW (wP v.s);obtain⟨R,hR⟩:=aW (gr v.l.ak v.s);rw[hR,Qt];unfold gr at hR;unfold wP at Qt;have aB:=aaW (ahu ay.nil);refine c85.rJ hN (by simp) λba=>?_;have eS:∀s,bV f0 q v s q=some (qB v.a v.hp v.m s):=λs=>(eM h s).q;have OF:q<N:=(ba q _ h.q).1;have oY:v.hp<N:=(ba v.hp _ h.hp).1;have Dj:v.m<N:=(ba v.m _ h.m).1;obtain⟨n1,n2,n3,n4,n5,n6,_,_,_,_,_,_⟩:=h.ne;have Im:=Ne.symm n1;have G1:=Ne.symm n2;have K5:=Ne.symm n3;have n4':=Ne.symm n4;have h1:=h.q;have h2:=h.hp;have h3:=h.m;simp only[qB,hB,mB]at h1 h2 h3;have nq:∀k,q≠N+k:=λk=>by omega
 have np:∀k,v.hp≠N+k:=λk=>by omega
 have nm:∀k,v.m≠N+k:=λk=>by omega
 have na:∀k,v.a≠N+k:=λk=>by have:=(ba v.a _ h.l.a).1;omega
 simp;apply aa.ai aB fw [0,2,3];simp[apV];apply aa.sq aB fw [0,2,3,11];simp[apW,h1,h2];refine aa.cond rfl (λg=>?_) (λg=>?_)
 ·have g:v.s.heap=[]:=by simpa using g
  rw[cG g]at hR Qt;apply aa.ai aB fw [2,3];simp[apX];rw[<-hR];refine aa.le (tV v.s (l:=[(2,.v (ti 0)),(3,.v (.bool false))]) (aV:=N+1000) ba h (by omega) (eF _) ?_ ?_ ?_ ?_ ?_ ?_) ?_
  ·simp;omega
  ·simp[nq,fQ,h.q]
  ·simp[np,fQ,h.hp]
  ·simp[nm,fQ,h.m]
  ·simp[na,fQ]
  ·simp
  apply aa.ret;simp[PF,Qt]
 ·have g:¬v.s.heap=[]:=by simpa using g
  rw[bj g]at hR Qt;have hl:0<v.s.heap.length:=Nr.2 g;have r0:=dY hl;have w1:IntKind.i64.wrap ((v.s.heap.length:Int)-1)=(v.s.heap.length:Int)-1:=aA (by omega);obtain⟨⟨ex,eh,et⟩,he⟩:=aW (v.s.heap.getD 0 default);have VK:v.s.e 0=⟨ex,eh,et⟩:=he;rw[he]at r0;rw[VK]at Qt;simp only[lA.enc]at r0;have r0':DM.rowAt (dU v.s.heap) (0:Int)=[ti ex,ti eh,ti et]:=r0;apply aa.skip;simp;apply aa.ko aB fw (rs:=dq (jO q v.hp N) (fl (dX 124 3) [none,none,none,none,none,none,none,none,none,some [0],some [1],none,none,some [105],none])) (.inl (by first|exact congrArg DC.fG (by kernel_rfl)|exact ji)) ((eC (kL OF oY n1) _ _ _).trans (by kernel_rfl)) [0,4,5];simp[apY,dq,fZ,fl,jO,cZ,bT,aT,h1,h2,hl,r0',w1];refine aa.le (tV v.s (l:=[(0,.ptr q 0),(4,.v (.box [ti ex,ti eh,ti et])),(5,.v (ti ((v.s.heap.length:Int)-1)))]) (aV:=N+1000) ba h (by omega) (eF _) ?_ ?_ ?_ ?_ ?_ ?_) ?_
  ·simp;omega
  ·simp[nq,fQ,h.q]
  ·simp[np,fQ,h.hp]
  ·simp[nm,fQ,h.m]
  ·simp[na,fQ]
  ·simp[fQ,eS,qB];refine bQ ba (by omega) ?_;simp;omega
  have k1:=λx y=>KM (i:=x) (j:=y) (eM h v.s);have e0:∀s',bV (bV f0 q v v.s) q (v.to v.s) s'=bV f0 q v s':=jY f0 q v v.s;simp only[QV.to]at k1 e0;have so:=ho.c7 (i:=0) (j:=(v.s.heap.length:Int)-1) ⟨by omega,by omega⟩ ⟨by omega,by omega⟩;have so2:=ho.swap (i:=0) (j:=(v.s.heap.length:Int)-1) ⟨by omega,by omega⟩ ⟨by omega,by omega⟩;apply aa.c5 aB fw (rs:=X7) ji (by kernel_rfl) [0,4,5];simp[X7,k1,so,e0];obtain⟨P,hP⟩:=aW (gM v.s);have aai:=Bd ho Af hl;rw[hP]at aai hR;obtain⟨S1,si⟩:=aW (v.s.swap 0 ((v.s.heap.length:Int)-1));have VY:P=⟨S1.heap.take (v.s.heap.length-1),S1.bP+1,pb S1.es eh,S1.mc,S1.next,S1.bG⟩:=by rw[<-hP,<-si];simp only[gM,VK]
  have hSl:S1.heap.length=v.s.heap.length:=by rw[<-si];simp
  have hSv:S1.bP=v.s.bP:=by rw[<-si];simp
  rw[si];have ya:=eM h S1;have j1:=ya.q;have j2:=ya.hp;have j3:=ya.m;simp only[qB,hB,mB]at j1 j2 j3;apply aa.ai aB fw [0,4];simp[apZ,j1,j2,hSl];refine⟨⟨by omega,by omega⟩, ?_⟩;obtain⟨G,hG⟩:=aW (bV f0 q v R);rw[hG];simp only[bV,Ui];refine aa.le (Le.cut q 1 (q:=v.hp) (bP:=S1.bP) (n:=v.s.heap.length-1) (e:=220) (sz:=3) (aw:=dU S1.heap) (cs:=[.pf (.func 83) [.ptr v.a 0],.w8 v.hp S1.bP 0 (v.s.heap.length-1),.jG v.m,.v (ti S1.next),.v (ti S1.bG)]) ?_ rfl ?_) ?_
  ·simp
  ·simp[Im,hB]
  rw[kW,kW];simp only[Zci,Zb7];apply aa.ai aB fw [0,4];simp[ap0,G1,K5,mB,NH];refine aa.le (tV P (l:=[(0,.ptr q 0),(4,.v (.box [ti ex,ti eh,ti et]))]) (aV:=N+4000) ba h (by omega) (by rw[VY];simp[hSv]) ?_ ?_ ?_ ?_ ?_ ?_) ?_
  ·simp
  ·rw[VY];simp[n2,qB]
  ·rw[VY];simp[Im,n3,hB,zh]
  ·rw[VY];simp[mB]
  ·simp[n4,n5,n6]
  ·simp[eS,qB]
  have k2:=λx=>Tm (i:=x) (eM h P);have e1:∀s',bV (bV f0 q v P) q (v.to P) s'=bV f0 q v s':=jY f0 q v P;simp only[QV.to]at k2 e1;have hPl:P.heap.length<=1000000:=by rw[VY];simp;omega
  apply aa.c5 aB fw (rs:=X8) ji (by kernel_rfl) [4];simp[X8,k2,aai,e1,hR,hPl,hG];apply aa.ai aB fw [2,3];simp[ap1];apply aa.ret;simp[PF,Qt]
noncomputable def Tv:bM->bF->gC
 |[.ptr q 0],f=>⟨(∃v:QV,v.at f q)/\yw (fp f q).s (fp f q).l.ak,.v (wP (fp f q).s),bV f q (fp f q) (gr (fp f q).l.ak (fp f q).s)⟩
 |_,f=>⟨False,.undef,f⟩
def alE{v:QV}{f:bF}{q:Nat}(h:v.at f q):Tv [.ptr q 0] f=⟨yw v.s v.l.ak,.v (wP v.s),bV f q v (gr v.l.ak v.s)⟩:=by
 have hx:∃v:QV,v.at f q:=⟨v,h⟩;simp only[Tv,fK h,hx,rO]
def alH:∀args ab,(Tv args ab).ok->(∀N,(∀r,N<=r->ab r=none)->aY aj 124 args ab (Tv args ab))/\∀r,ab r=none->(Tv args ab).ab r=none:=by
 intro args ab h;unfold Tv at h⊢;split at h
 ·rename_i q;obtain⟨⟨v,hv⟩,hs⟩:=h;rw[fK hv]at hs⊢;exact⟨λN hN=>aY.of (t85 hN hv hs) rfl rfl,λr hr=>iC hv _ hr⟩
 ·exact h.elim
def avN{l:List (Nat×DM.Spec)}(h:ay aj (bB l)):ay aj (bB ((124,eL Tv)::l)):=ay.iL h alH
section
variable{ak:cm}{hd:Int}
def oj(s:Qs)(i:Nat)(x:Int):Qs:=⟨s.heap.set i ⟨x,(s.e i).h,s.bG⟩,s.bP,s.es,s.mc,s.next,s.bG+1⟩
def Hj(ak:cm)(s:Qs)(i:Nat)(x:Int):Qs:=vL ak i (oj s i x)
def vN(ak:cm)(s:Qs)(hd x:Int):Qs:=
 f8 ak ((kN (Hj ak s ((kN s.es hd).getD 0).toNat x).es hd).getD 0).toNat (Hj ak s ((kN s.es hd).getD 0).toNat x)
structure NW(s:Qs)(ak:cm)(hd x:Int):Prop where
 ok:s.ok ak
 oi:∃i:Nat,kN s.es hd=some (i:Int)/\i<s.heap.length/\∃j:Nat,kN (Hj ak s i x).es hd=some (j:Int)/\j<=1000000
 x:0<=x/\x<ak.length
 len:s.heap.length<=1000000
 bG:0<=s.bG/\s.bG<=1000000000000
def Tk{s:Qs}{i:Nat}{x:Int}(h:s.ok ak)(hi:i<s.heap.length)(hx:0<=x/\x<ak.length):(oj s i x).ok ak:=by
 refine⟨h.pl,h.st,λe he=>?_,λe he=>?_⟩
 ·rcases TG he with he|rfl
  ·exact h.qM e he
  ·exact h.qM (s.e (i:Int)) (bC (by simpa using hi))
 ·rcases TG he with he|rfl
  ·exact h.r e he
  ·exact hx
def Gt:∀{i:Nat} {s:Qs},s.ok ak->i<s.heap.length->(vL ak i s).ok ak/\(vL ak i s).heap.length=s.heap.length/\(vL ak i s).bP=s.bP:=by
 intro i;induction i using Nat.strongRecOn with
 |_ i ih=>
  intro s h hi;unfold vL;split
  ·rename_i hc;have hk:=h.swap (i:=i) (j:=((i-1)/2:Nat)) ⟨by omega,by omega⟩ ⟨by omega,by omega⟩;obtain⟨a,b,c⟩:=ih ((i-1)/2) (by omega) hk (by simp;omega);exact⟨a,by simpa using b,by simpa using c⟩
  ·exact⟨h,rfl,rfl⟩
def NX{l:Pl}{k v:Int}(h:kN l k=some v):∃e:Nat×Int×Int,l.find? (λe=>e.2.1==k)=some e/\e.2.2=v:=by
 unfold kN at h;obtain⟨e,h1,h2⟩:=jr.1 h;exact⟨e,h1,h2⟩
def Bl{l:Pl}{k v:Int}(h:kN l k=some v):∃b:Nat,tr (ti k) (wJ l)=some (b,ti k,.v (ti v)):=by
 obtain⟨⟨b,k',v'⟩,h1,h2⟩:=NX h;simp only at h2;subst h2;have:=Zdt h1;simp at this;subst this;exact⟨b,by rw[NY,h1];rfl⟩
def t81{f0:bF}{q N:Nat}{x:Int}{v:QV}(hN:∀r,N<=r->f0 r=none)(h:v.at f0 q)(hs:NW v.s v.l.ak hd x):
  aY aj 120 [.ptr q 0,.v (ti hd),.v (ti x)] f0 ⟨True,.v (.bool true),bV f0 q v (vN v.l.ak v.s hd x)⟩:=by
 obtain⟨ho,⟨i,hg,hi,j,hg2,hj⟩,hx,dQ,xU⟩:=hs;have hU1:=Tk ho hi hx;have hU2:=Gt hU1 (i:=i) (by simp[oj];exact hi);obtain⟨b1,hf1⟩:=Bl hg;obtain⟨b2,hf2⟩:=Bl hg2;obtain⟨R,hR⟩:=aW (vN v.l.ak v.s hd x);rw[hR];unfold vN at hR;rw[hg]at hR;simp only[Rs,iA]at hR;rw[hg2]at hR;simp only[Rs,iA]at hR;have afI:Hj v.l.ak v.s i x=vL v.l.ak i (oj v.s i x):=rfl;rw[<-afI]at hU2;obtain⟨S2,Ha⟩:=aW (Hj v.l.ak v.s i x);rw[Ha]at hR hU2 hf2 afI;obtain⟨S1,si⟩:=aW (oj v.s i x);rw[si]at hU1 hU2 afI;obtain⟨u1,u2,u3⟩:=hU2;have axx:S1.heap.length=v.s.heap.length:=by rw[<-si];simp[oj]
 have aB:=aht (ahu ay.nil);refine c81.rJ hN (by simp) λba=>?_;have eS:∀s,bV f0 q v s q=some (qB v.a v.hp v.m s):=λs=>(eM h s).q;obtain⟨n1,n2,n3,n4,n5,n6,_,_,_,_,_,_⟩:=h.ne;have Im:=Ne.symm n1;have G1:=Ne.symm n2;have K5:=Ne.symm n3;have h1:=h.q;have h2:=h.hp;have h3:=h.m;simp only[qB,hB,mB]at h1 h2 h3;have r0:=dY hi;obtain⟨⟨ox,oh,ot⟩,he⟩:=aW (v.s.heap.getD i default);have VK:v.s.e (i:Int)=⟨ox,oh,ot⟩:=by simpa using he
 rw[he]at r0;simp only[lA.enc]at r0;have afJ:S1=⟨v.s.heap.set i ⟨x,oh,v.s.bG⟩,v.s.bP,v.s.es,v.s.mc,v.s.next,v.s.bG+1⟩:=by rw[<-si];simp only[oj,VK]
 have w1:IntKind.i64.wrap (v.s.bG+1)=v.s.bG+1:=aA (by omega);simp;apply aa.ai aB fw [0,1,2];simp[ap2];apply aa.ai aB fw [0,1,2,7,8];simp[ap3,h1,h3,hf1];apply aa.sq aB fw [0,1,2,7,19];simp[ap4];refine aa.cond rfl (λg=>by cases g) (λg=>?_);apply aa.skip;simp;have iq:∀y,DM.rowAt ((dU v.s.heap).set i y) (i:Int)=y:=λy=>by simp[DM.rowAt,hi]
 apply aa.ai aB fw [0,1,7];simp[ap5,h1,h2,hi,r0,iq];apply aa.ai aB fw [0,1,7];simp[ap6,h1,w1,n1];refine aa.le (tV (v:=v) S1 (l:=[(0,.ptr q 0),(1,.v (ti hd)),(7,.v (ti (i:Int)))]) (aV:=N+2000) ba h (by omega) (by rw[afJ];exact eF _) ?_ ?_ ?_ ?_ ?_ ?_) ?_
 ·simp
 ·rw[afJ];simp[qB]
 ·rw[afJ];simp[Im,hB,mz];rfl
 ·rw[afJ];simp[G1,K5,mB,h3]
 ·simp[n4,n5]
 ·simp[eS,qB]
 have k1:=λy=>Tl (i:=y) (eM h S1);have e0:∀s',bV (bV f0 q v S1) q (v.to S1) s'=bV f0 q v s':=jY f0 q v S1;simp only[QV.to]at k1 e0;apply aa.c5 aB fw (rs:=X9) ji (by kernel_rfl) [0,1];simp[X9,k1,hU1,axx,hi,dQ,e0,<-afI];have k2:=λy=>Tm (i:=y) (eM h S2);have e1:∀s',bV (bV f0 q v S2) q (v.to S2) s'=bV f0 q v s':=jY f0 q v S2;have mM:=eM h S2;have j1:=mM.q;have j3:=mM.m;simp only[QV.to,qB,mB]at k2 e1 j1 j3;have u2':S2.heap.length<=1000000:=by omega
 apply aa.c5 aB fw (rs:=Ya) ji (by kernel_rfl) [];simp[Ya,j1,j3,hf2,k2,u1,u2',e1,hR];refine⟨by omega, ?_⟩;apply aa.ai aB fw [6];simp[ap7];apply aa.ret;simp[dw]
noncomputable def k81:bM->bF->gC
 |[.ptr q 0,.v (.int .i64 hd),.v (.int .i64 x)],f=>⟨(∃v:QV,v.at f q)/\NW (fp f q).s (fp f q).l.ak hd x,.v (.bool true),bV f q (fp f q) (vN (fp f q).l.ak (fp f q).s hd x)⟩
 |_,f=>⟨False,.undef,f⟩
def ak9{v:QV}{f:bF}{q:Nat}{x:Int}(h:v.at f q):k81 [.ptr q 0,.v (ti hd),.v (ti x)] f=⟨NW v.s v.l.ak hd x,.v (.bool true),bV f q v (vN v.l.ak v.s hd x)⟩:=by
 have hx:∃v:QV,v.at f q:=⟨v,h⟩;simp only[k81,fK h,hx,rO]
def ala:∀args ab,(k81 args ab).ok->(∀N,(∀r,N<=r->ab r=none)->aY aj 120 args ab (k81 args ab))/\∀r,ab r=none->(k81 args ab).ab r=none:=by
 intro args ab h;unfold k81 at h⊢;split at h
 ·rename_i q hd x;obtain⟨⟨v,hv⟩,hs⟩:=h;rw[fK hv]at hs⊢;exact⟨λN hN=>aY.of (t81 hN hv hs) rfl rfl,λr hr=>iC hv _ hr⟩
 ·exact h.elim
def axy{l:List (Nat×DM.Spec)}(h:ay aj (bB l)):ay aj (bB ((120,eL k81)::l)):=ay.iL h ala
end
section
variable{ak:cm}
def gV{a b c:lA}(h:¬jD ak b a)(k:¬jD ak c b):¬jD ak c a:=by
 unfold jD at*
 generalize bv ak a.x=u at*
 generalize bv ak b.x=v at*
 generalize bv ak c.x=w at*
 obtain⟨u1,u2⟩:=u;obtain⟨v1,v2⟩:=v;obtain⟨w1,w2⟩:=w;simp only[dj.lt]at*
 omega
def u5(a:lA):¬jD ak a a:=by
 unfold jD;generalize bv ak a.x=u;obtain⟨u1,u2⟩:=u;simp only[dj.lt];omega
def rn{a b:lA}(h:jD ak a b):¬jD ak b a:=by
 unfold jD at*
 generalize bv ak a.x=u at*
 generalize bv ak b.x=v at*
 obtain⟨u1,u2⟩:=u;obtain⟨v1,v2⟩:=v;simp only[dj.lt]at*
 omega
def pR(ak:cm)(s:Qs):Prop:=∀i:Nat,0<i->i<s.heap.length->¬jD ak (s.e i) (s.e ((i-1)/2:Nat))
def zn{s:Qs}(h:pR ak s):∀i:Nat,i<s.heap.length->¬jD ak (s.e i) (s.e (0:Nat)):=by
 intro i;induction i using Nat.strongRecOn with
 |_ i ih=>
  intro hi;by_cases hz:i=0
  ·subst hz;exact u5 _
  ·exact gV (ih ((i-1)/2) (by omega) (by omega)) (h i (by omega) hi)
def ja{s:Qs}{i j k:Nat}(hi:i<s.heap.length)(hj:j<s.heap.length)(hk:k<s.heap.length):(s.swap i j).e k=if k=j then s.e i else if k=i then s.e j else s.e k:=by
 simp only[Qs.swap,Qs.e,iA,List.getD,ZbP];by_cases h1:k=j
 ·subst h1;simp[hj]
 ·by_cases h2:k=i
  ·subst h2;have:¬j=k:=λe=>h1 e.symm;simp[this,h1,hi]
  ·have a1:¬j=k:=λe=>h1 e.symm;have a2:¬i=k:=λe=>h2 e.symm;simp[a1,a2,h1,h2]
def Er:∀{i:Nat} {s:Qs},i<s.heap.length->(∀k:Nat,0<k->k<s.heap.length->k≠i->¬jD ak (s.e k) (s.e ((k-1)/2:Nat)))->
  (∀k:Nat,0<k->k<s.heap.length->(k-1)/2=i->0<i->¬jD ak (s.e k) (s.e ((i-1)/2:Nat)))->pR ak (vL ak i s):=by
 intro i;induction i using Nat.strongRecOn with
 |_ i ih=>
  intro s hi h1 h2;unfold vL;split
  ·rename_i hc;obtain⟨c1,c2⟩:=hc;obtain⟨y,hy⟩:=aW ((i-1)/2);rw[hy]at c2⊢;have vP:y<s.heap.length:=by omega
   have E:=λ{k:Nat} (hk:k<s.heap.length)=>ja (s:=s) (i:=i) (j:=y) hi vP hk;refine ih y (by omega) (by simpa using vP) (λk k1 k2 k3=>?_) (λk k1 k2 k3 k4=>?_)
   ·simp only[Qs.d6]at k2;rw[E k2,E (k:=(k-1)/2) (by omega)];by_cases e1:k=i
    ·subst e1;rw[bj k3,cG rfl,hy,cG rfl];exact rn c2
    ·rw[bj k3,bj e1];by_cases e2:(k-1)/2=y
     ·rw[cG e2];have:=h1 k k1 k2 e1;rw[e2]at this;exact gV (rn c2) this
     ·rw[bj e2];by_cases e3:(k-1)/2=i
      ·rw[cG e3];have:=h2 k k1 k2 e3 c1;rw[hy]at this;exact this
      ·rw[bj e3];exact h1 k k1 k2 e1
   ·simp only[Qs.d6]at k2;rw[E k2,E (k:=(y-1)/2) (by omega)];have p1:¬(y-1)/2=y:=by omega
    have p2:¬(y-1)/2=i:=by omega
    have p3:¬k=y:=by omega
    rw[bj p1,bj p2,bj p3];have hpy:=h1 y k4 vP (by omega);by_cases e1:k=i
    ·rw[cG e1];exact hpy
    ·rw[bj e1];have:=h1 k k1 k2 e1;rw[k3]at this;exact gV hpy this
  ·rename_i hc;intro k k1 k2;by_cases e:k=i
   ·subst e;exact λhb=>hc ⟨k1,hb⟩
   ·exact h1 k k1 k2 e
end
def Bi(ak:cm)(s:Qs)(i:Nat):∀t,¬jD ak (s.e i) (s.e (vM ak s i t))/\∀u,u<t->¬jD ak (s.e (2*i+1+u:Nat)) (s.e (vM ak s i t))
 |0=>⟨u5 _,λu hu=>by omega⟩
 |t+1=>by
  obtain⟨h1,h2⟩:=Bi ak s i t;unfold vM;split
  ·rename_i hc;have ha:=rn hc;refine⟨gV ha h1,λu hu=>?_⟩;by_cases e:u=t
   ·subst e;exact u5 _
   ·exact gV ha (h2 u (by omega))
  ·rename_i hc;refine⟨h1,λu hu=>?_⟩;by_cases e:u=t
   ·subst e;exact hc
   ·exact h2 u (by omega)
def Cq(ak:cm)(s:Qs)(i:Nat):¬jD ak (s.e i) (s.e (dO ak s i))/\∀k:Nat,0<k->k<s.heap.length->(k-1)/2=i->¬jD ak (s.e k) (s.e (dO ak s i)):=by
 obtain⟨h1,h2⟩:=Bi ak s i (lw s i);refine⟨h1,λk k1 k2 k3=>?_⟩;have:=h2 (k-(2*i+1)) (by unfold lw;omega);rw[show 2*i+1+(k-(2*i+1))=k by omega]at this;exact this
def Cr(ak:cm)(s:Qs)(i:Nat):dO ak s i=i\/((dO ak s i-1)/2=i/\i<dO ak s i/\dO ak s i<s.heap.length):=by
 have:=u4 ak s i (lw s i);have h3:=iU ak s i;unfold dO at*
 unfold lw at*
 omega
def xM{ak:cm}:∀{n:Nat} {i:Nat} {s:Qs},s.heap.length-i=n->(∀k:Nat,0<k->k<s.heap.length->(k-1)/2≠i->¬jD ak (s.e k) (s.e ((k-1)/2:Nat)))->
  (∀k:Nat,0<k->k<s.heap.length->(k-1)/2=i->0<i->¬jD ak (s.e k) (s.e ((i-1)/2:Nat)))->pR ak (f8 ak i s):=by
 intro n;induction n using Nat.strongRecOn with
 |_ n ih=>
  intro i s hn h1 h2;obtain⟨m1,m2⟩:=Cq ak s i;have hp:=Cr ak s i;unfold f8;split
  ·rename_i he;intro k k1 k2;by_cases e:(k-1)/2=i
   ·rw[e];have:=m2 k k1 k2 e;rw[he]at this;exact this
   ·exact h1 k k1 k2 e
  ·rename_i he;obtain⟨j,hj⟩:=aW (dO ak s i);rw[hj]at m1 m2 hp he⊢;obtain⟨p1,p2,p3⟩:=hp.resolve_left he;have hi:i<s.heap.length:=by omega
   have E:=λ{k:Nat} (hk:k<s.heap.length)=>ja (s:=s) (i:=i) (j:=j) hi p3 hk;refine ih (s.heap.length-j) (by omega) (by simp) (λk k1 k2 k3=>?_) (λk k1 k2 k3 k4=>?_)
   ·simp only[Qs.d6]at k2;rw[E k2,E (k:=(k-1)/2) (by omega),bj k3];by_cases e1:k=j
    ·subst e1;rw[cG rfl,cG p1];exact m1
    ·rw[bj e1];by_cases e2:k=i
     ·subst e2;have:¬(k-1)/2=k:=by omega
      rw[cG rfl,bj this];exact h2 j (by omega) p3 p1 k1
     ·rw[bj e2];by_cases e3:(k-1)/2=i
      ·rw[cG e3];exact m2 k k1 k2 e3
      ·rw[bj e3];exact h1 k k1 k2 e3
   ·simp only[Qs.d6]at k2;rw[p1,E k2,E hi];have q1:¬k=j:=by omega
    have q2:¬k=i:=by omega
    have q3:¬i=j:=by omega
    rw[bj q1,bj q2,bj q3,cG rfl];have:=h1 k k1 k2 (by omega);rw[k3]at this;exact this
section
variable{ak:cm}
def u6{s:Qs}{x:Int}{k:Nat}(hk:k<s.heap.length):(gF s x).e k=s.e k:=by
 simp only[gF,Qs.e,iA,List.getD];rw[Zbm hk]
def Cm{s:Qs}{x:Int}(h:pR ak s):pR ak (iR ak s x):=by
 have hl:(gF s x).heap.length=s.heap.length+1:=by simp[gF]
 refine Er (by omega) (λk k1 k2 k3=>?_) (λk k1 k2 k3 k4=>?_)
 ·rw[u6 (by omega),u6 (by omega)];exact h k k1 (by omega)
 ·omega
def Vo{s:Qs}(h:pR ak s)(i:Nat):pR ak (f8 ak i s):=
 xM rfl (λk k1 k2 _=>h k k1 k2) λk k1 k2 k3 k4=>by
  have a:=h k k1 k2;rw[k3]at a;exact gV (h i k4 (by omega)) a
def qX{s:Qs}{k:Nat}(hk:k<s.heap.length-1):(gM s).e k=if k=0 then s.e (s.heap.length-1:Nat)else s.e k:=by
 have hj:s.heap.length-1<s.heap.length:=by omega
 have E:=ja (s:=s) (i:=0) (j:=s.heap.length-1) (k:=k) (by omega) hj (by omega);have hc:((s.heap.length-1:Nat):Int)=(s.heap.length:Int)-1:=by omega
 have:(gM s).e k=(s.swap (0:Nat) (s.heap.length-1:Nat)).e k:=by
  simp only[gM,Qs.e,iA,List.getD,Hv,hk,km,hc];rfl
 rw[this,E,bj (by omega)]
def Be{s:Qs}(h:pR ak s):pR ak (gr ak s):=by
 unfold gr;split
 ·exact h
 ·rename_i cj;have zL:0<s.heap.length:=Nr.2 cj;have hl:(gM s).heap.length=s.heap.length-1:=by
   simp only[gM,xj,Qs.d6];omega
  refine xM rfl (λk k1 k2 k3=>?_) (λk k1 k2 k3 k4=>by omega);rw[hl]at k2;rw[qX k2,qX (by omega),bj (by omega),bj k3];exact h k k1 (by omega)
end
def Vp(c:Nat)(k v:Int):eN [] c k v=[(c,k,v)]:=rfl
def QL(a:Nat×Int×Int)(l:Pl)(c:Nat)(k v:Int):eN (a::l) c k v=if a.2.1=k then(a.1,a.2.1,v)::l else a::eN l c k v:=by
 unfold eN uZ;rw[VC];by_cases h:a.2.1=k
 ·simp[h]
 ·have:(a.2.1==k)=false:=by simpa using h
  rw[this,bj h];simp only[Ou,xd];cases List.findIdx? (λe=>e.2.1==k) l<;>simp
def Vq(k:Int):kN [] k=none:=rfl
def mh(a:Nat×Int×Int)(l:Pl)(k:Int):kN (a::l) k=if a.2.1=k then some a.2.2 else kN l k:=by
 unfold kN;rw[K9];by_cases h:a.2.1=k
 ·simp[h]
 ·have:(a.2.1==k)=false:=by simpa using h
  rw[this,bj h]
def qn(l:Pl)(c:Nat)(k v k':Int):kN (eN l c k v) k'=if k'=k then some v else kN l k':=by
 induction l with
 |nil=>
  rw[Vp,mh,Vq];by_cases h:k'=k
  ·simp[h]
  ·have:¬k=k':=λe=>h e.symm;simp[h,this]
 |cons a l ih=>
  rw[QL];by_cases h:a.2.1=k
  ·rw[cG h,mh,mh];simp only;by_cases h2:k'=k
   ·rw[cG h2,cG (by rw[h,h2])]
   ·have:¬a.2.1=k':=λe=>h2 (e▸h);rw[bj h2,bj this,bj this]
  ·rw[bj h,mh,mh,ih];by_cases h2:k'=k
   ·have:¬a.2.1=k':=λe=>h (e.trans h2);simp[h2,h]
   ·simp[h2]
def dt(s:Qs):Prop:=∀k:Nat,k<s.heap.length->kN s.es (s.e k).h=some (k:Int)
def dt.nd{s:Qs}(h:dt s):s.nd:=λi j hi hj he=>by
 have h1:=h i hi;have h2:=h j hj;rw[he,h2]at h1;simp only[cI]at h1;omega
def mg{s:Qs}(h:dt s){i j:Nat}(hi:i<s.heap.length)(hj:j<s.heap.length):dt (s.swap i j):=by
 intro k hk;rw[Qs.d6]at hk;rw[ja hi hj hk];show kN (eN (eN s.es s.mc (s.e j).h i) s.mc (s.e i).h j) _=_;rw[qn,qn];have nd:=h.nd;by_cases h1:k=j
 ·subst h1;rw[cG rfl,cG rfl]
 ·rw[bj h1];by_cases h2:k=i
  ·subst h2;rw[cG rfl];by_cases h3:(s.e j).h=(s.e k).h
   ·have:=nd j k hj hk h3;exact eK this.symm h1
   ·rw[bj h3,cG rfl]
  ·rw[bj h2,bj (λe=>h2 (nd k i hk hi e)),bj (λe=>h1 (nd k j hk hj e))];exact h k hk
def wS{ak:cm}:∀{i:Nat} {s:Qs},i<s.heap.length->dt s->dt (vL ak i s):=by
 intro i;induction i using Nat.strongRecOn with
 |_ i ih=>
  intro s hi h;unfold vL;split
  ·exact ih _ (by omega) (by simp;omega) (mg h hi (by omega))
  ·exact h
def u7{ak:cm}:∀{n:Nat} {i:Nat} {s:Qs},s.heap.length-i=n->dt s->dt (f8 ak i s):=by
 intro n;induction n using Nat.strongRecOn with
 |_ n ih=>
  intro i s hn h;unfold f8;split
  ·exact h
  ·rename_i he;have hp:=(iU ak s i).resolve_left he;exact ih (s.heap.length-dO ak s i) (by omega) (by simp) (mg h (by omega) hp.2)
section
variable{ak:cm}
def gu{s:Qs}{e:lA}:e∈s.heap↔∃k:Nat,k<s.heap.length/\s.e k=e:=by
 constructor
 ·intro h;obtain⟨k,hk,rfl⟩:=HS h;exact⟨k,hk,by simp[Qs.e,List.getD,hk]⟩
 ·rintro⟨k,hk,rfl⟩;simp only[Qs.e,iA];exact bC hk
def pa{s:Qs}{i j:Nat}(hi:i<s.heap.length)(hj:j<s.heap.length)(e:lA):e∈(s.swap i j).heap↔e∈s.heap:=by
 rw[gu,gu];simp only[Qs.d6];constructor
 ·rintro⟨k,hk,rfl⟩;rw[ja hi hj hk];split
  ·exact⟨i,hi,rfl⟩
  ·split
   ·exact⟨j,hj,rfl⟩
   ·exact⟨k,hk,rfl⟩
 ·rintro⟨k,hk,rfl⟩;by_cases h1:k=j
  ·subst h1;by_cases h2:i=k
   ·subst h2;exact⟨i,hi,by rw[ja hi hi hi];simp⟩
   ·exact⟨i,hi,by rw[ja hi hk hi,bj h2,cG rfl]⟩
  ·by_cases h2:k=i
   ·subst h2;exact⟨j,hj,by rw[ja hk hj hj,cG rfl]⟩
   ·exact⟨k,hk,by rw[ja hi hj hk,bj h1,bj h2]⟩
structure jh(s s':Qs):Prop where
 len:s'.heap.length=s.heap.length
 mem:∀e,e∈s'.heap↔e∈s.heap
 next:s'.next=s.next
 bG:s'.bG=s.bG
 mc:s'.mc=s.mc
 bP:s'.bP=s.bP
def jh.refl(s:Qs):jh s s:=⟨rfl,λ_=>Iff.rfl,rfl,rfl,rfl,rfl⟩
def jh.trans{a b c:Qs}(h:jh a b)(k:jh b c):jh a c:=⟨k.len.trans h.len,λe=>(k.mem e).trans (h.mem e),k.next.trans h.next,k.bG.trans h.bG,k.mc.trans h.mc,k.bP.trans h.bP⟩
def tX{s:Qs}{i j:Nat}(hi:i<s.heap.length)(hj:j<s.heap.length):jh s (s.swap i j):=⟨by simp,pa hi hj,rfl,rfl,rfl,rfl⟩
def xK:∀{i:Nat} {s:Qs},i<s.heap.length->jh s (vL ak i s):=by
 intro i;induction i using Nat.strongRecOn with
 |_ i ih=>
  intro s hi;unfold vL;split
  ·exact(tX hi (by omega)).trans (ih _ (by omega) (by simp;omega))
  ·exact jh.refl s
def mA:∀{n:Nat} {i:Nat} {s:Qs},s.heap.length-i=n->jh s (f8 ak i s):=by
 intro n;induction n using Nat.strongRecOn with
 |_ n ih=>
  intro i s hn;unfold f8;split
  ·exact jh.refl s
  ·rename_i he;have hp:=(iU ak s i).resolve_left he;exact(tX (by omega) hp.2).trans (ih (s.heap.length-dO ak s i) (by omega) (by simp))
def Em:∀{n:Nat} {i:Nat} {s:Qs},s.heap.length-i=n->s.ok ak->(f8 ak i s).ok ak:=by
 intro n;induction n using Nat.strongRecOn with
 |_ n ih=>
  intro i s hn h;unfold f8;split
  ·exact h
  ·rename_i he;have hp:=(iU ak s i).resolve_left he;exact ih (s.heap.length-dO ak s i) (by omega) (by simp) (h.swap ⟨by omega,by omega⟩ ⟨by omega,by omega⟩)
end
def QM(a:Nat×Int×Int)(l:Pl)(k:Int):pb (a::l) k=if a.2.1=k then l else a::pb l k:=by
 unfold pb uZ;rw[VC];by_cases h:a.2.1=k
 ·simp[h]
 ·have:(a.2.1==k)=false:=by simpa using h
  rw[this,bj h];simp only[Ou,xd];cases List.findIdx? (λe=>e.2.1==k) l<;>simp
def Is{l:Pl}{k k':Int}(h:k'≠k):kN (pb l k) k'=kN l k':=by
 induction l with
 |nil=>rfl
 |cons a l ih=>
  rw[QM,mh];by_cases h1:a.2.1=k
  ·have:¬a.2.1=k':=λe=>h (e.symm.trans h1);rw[cG h1,bj this]
  ·rw[bj h1,mh,ih]
def zm{ak:cm}{s:Qs}{x:Int}(h:dt s)(hn:∀e∈s.heap,e.h≠s.next):dt (iR ak s x):=by
 have hl:(gF s x).heap.length=s.heap.length+1:=by simp[gF]
 refine wS (by omega) λk hk=>?_;rw[hl]at hk;show kN (eN s.es s.mc s.next s.heap.length) _=_;rw[qn];by_cases h1:k<s.heap.length
 ·rw[u6 h1,bj (hn _ (gu.2 ⟨k,h1,rfl⟩))];exact h k h1
 ·obtain rfl:k=s.heap.length:=by omega
  have:(gF s x).e (s.heap.length:Nat)=⟨x,s.next,s.bG⟩:=by simp[gF,Qs.e,List.getD]
  rw[this,cG rfl]
def xL{ak:cm}{s:Qs}(h:dt s):dt (gr ak s):=by
 unfold gr;split
 ·exact h
 ·rename_i cj;have zL:0<s.heap.length:=Nr.2 cj;have hl:(gM s).heap.length=s.heap.length-1:=by
   simp only[gM,xj,Qs.d6];omega
  have hc:((s.heap.length-1:Nat):Int)=(s.heap.length:Int)-1:=by omega
  have DT:=mg h (i:=0) (j:=s.heap.length-1) zL (by omega);refine u7 rfl λk hk=>?_;rw[hl]at hk;have he:(gM s).e k=(s.swap (0:Nat) (s.heap.length-1:Nat)).e k:=by
   simp only[gM,Qs.e,iA,List.getD,Hv,hk,km,hc];rfl
  have rP:(gM s).es=pb (s.swap (0:Nat) (s.heap.length-1:Nat)).es (s.e (0:Nat)).h:=by
   simp only[gM,hc];rfl
  rw[he,rP,Is]
  ·exact DT k (by simp;omega)
  ·rw[ja zL (by omega) (by omega),bj (by omega)];have nd:=h.nd;by_cases h1:k=0
   ·subst h1;rw[cG rfl];exact λe=>by have:=nd (s.heap.length-1) 0 (by omega) zL e;omega
   ·rw[bj h1];exact λe=>h1 (nd k 0 (by omega) zL e)
def Cw{ak:cm}{x y:Int}{v:dj}(hx:0<=x/\x<ak.length)(hy:0<=y):bv (ak.set x.toNat v) y=if y=x then v else bv ak y:=by
 unfold bv;simp only[List.getD,ZbP];by_cases h:y=x
 ·subst h;have:y.toNat<ak.length:=by omega
  simp[this]
 ·have:¬x.toNat=y.toNat:=by omega
  simp[this,h]
def vf{s:Qs}{i k:Nat}{x:Int}(hi:i<s.heap.length):(oj s i x).e k=if k=i then⟨x,(s.e i).h,s.bG⟩else s.e k:=by
 simp only[oj,Qs.e,iA,List.getD,ZbP];by_cases h:k=i
 ·subst h;simp[hi]
 ·have:¬i=k:=λe=>h e.symm;simp[this,h]
def aax{ak:cm}{s:Qs}{i:Nat}{x:Int}{v:dj}(h:pR ak s)(hr:s.inR ak)(hi:i<s.heap.length)(hx:0<=x/\x<ak.length)(hix:(s.e i).x=x)
  (ho:∀k:Nat,k<s.heap.length->k≠i->(s.e k).x≠x) (hv:v.lt (bv ak x)):pR (ak.set x.toNat v) (Hj (ak.set x.toNat v) s i x):=by
 have hl:(oj s i x).heap.length=s.heap.length:=by simp[oj]
 have G4:∀k:Nat,k<s.heap.length->0<=(s.e k).x:=λk hk=>(hr _ (gu.2 ⟨k,hk,rfl⟩)).1;have dv:∀k:Nat,k<s.heap.length->k≠i->bv (ak.set x.toNat v) (s.e k).x=bv ak (s.e k).x:=λk hk cj=>by
  rw[Cw hx (G4 k hk),bj (ho k hk cj)]
 have afQ:∀k l:Nat,k<s.heap.length->l<s.heap.length->k≠i->l≠i->¬jD ak (s.e k) (s.e l)->¬jD (ak.set x.toNat v) (s.e k) (s.e l):=by
  intro k l hk yb cj abx hb;unfold jD at hb⊢;rw[dv k hk cj,dv l yb abx];exact hb
 refine Er (by omega) (λk k1 k2 k3=>?_) (λk k1 k2 k3 k4=>?_)
 ·rw[hl]at k2;rw[vf hi,vf hi,bj k3];by_cases e:(k-1)/2=i
  ·rw[cG e];have hb:=h k k1 k2;rw[e]at hb;unfold jD at hb⊢;rw[dv k k2 k3,Cw hx hx.1,cG rfl];rw[hix]at hb;generalize bv ak (s.e k).x=w at*
   generalize bv ak x=u at*
   obtain⟨u1,u2⟩:=u;obtain⟨v1,v2⟩:=v;obtain⟨w1,w2⟩:=w;simp only[dj.lt]at*
   omega
  ·rw[bj e];exact afQ k _ k2 (by omega) k3 e (h k k1 k2)
 ·rw[hl]at k2;have n1:k≠i:=by omega
  have n2:¬(i-1)/2=i:=by omega
  rw[vf hi,vf hi,bj n1,bj n2];have a:=h k k1 k2;rw[k3]at a;exact afQ k _ k2 (by omega) n1 n2 (gV (h i k4 hi) a)
section
variable{ak:cm}
def GK{s:Qs}{i:Nat}{x:Int}(h:dt s)(hi:i<s.heap.length):dt (oj s i x):=by
 intro k hk;have hl:(oj s i x).heap.length=s.heap.length:=by simp[oj]
 rw[hl]at hk;rw[vf hi];show kN s.es _=_;by_cases h1:k=i
 ·subst h1;rw[cG rfl];exact h k hk
 ·rw[bj h1];exact h k hk
def aaz{s:Qs}{i:Nat}{x:Int}(ho:s.ok ak)(hp:dt s)(hi:i<s.heap.length)(hx:0<=x/\x<ak.length)(hl:s.heap.length<=1000000)(hc:0<=s.bG/\s.bG<=1000000000000):NW s ak (s.e i).h x:=by
 have Uo:(oj s i x).heap.length=s.heap.length:=by simp[oj]
 have Rh:dt (Hj ak s i x):=wS (by omega) (GK hp hi);have hs:=xK (ak:=ak) (i:=i) (s:=oj s i x) (by omega);have hm:(⟨x,(s.e i).h,s.bG⟩:lA)∈(Hj ak s i x).heap:=(hs.mem _).2 (gu.2 ⟨i,by omega,by rw[vf hi,cG rfl]⟩);obtain⟨j,hj,he⟩:=gu.1 hm;have LW:=Rh j hj;rw[he]at LW;have dQ:(Hj ak s i x).heap.length=s.heap.length:=hs.len.trans Uo;exact⟨ho,⟨i,hp i hi,hi,j,LW,by omega⟩,hx,hl,hc⟩
def Vr{s:Qs}{i:Nat}{x:Int}(hp:dt s)(hi:i<s.heap.length):dt (vN ak s (s.e i).h x):=by
 have Uo:(oj s i x).heap.length=s.heap.length:=by simp[oj]
 unfold vN;rw[hp i hi];simp only[Rs,iA];exact u7 rfl (wS (by omega) (GK hp hi))
def Vt{s:Qs}{i:Nat}{x:Int}(hp:dt s)(hi:i<s.heap.length)(h:pR ak (Hj ak s i x)):pR ak (vN ak s (s.e i).h x):=by
 unfold vN;rw[hp i hi];simp only[Rs,iA];exact Vo h _
end
def y6(n:aG)(r:dx):Prop:=0<=r.head/\r.head<n.au/\0<=r.cM/\r.cM<=1000/\(r.kind=1\/(r.kind=2/\0<=r.a/\r.a<n.aN)\/(r.kind=3/\0<=r.a/\r.a<n.au)\/(r.kind=4/\0<=r.a/\r.a<n.au/\0<=r.b/\r.b<n.au))
def xV(n:aG):Prop:=1<=n.au/\n.au<=1000/\n.an.length<=600/\∀r∈n.an,y6 n r
def Bw(l:aU):Prop:=1<=l.bn/\l.bn<=1000/\l.bl.length<=1000000000/\∀a∈l.bl,0<=a.aH/\a.aH<=1099511627776
def SG(n:aG)(own:eO):Prop:=(own.length:Int)=n.au/\∀x∈own,kc x.val
def stepT(r:dx)(bl:List cC)(fr to i:Int)(x:Cell)(k:Nat):Cell:=
 if(bl.getD k default).f=fr/\(bl.getD k default).t=to/\(bl.getD k default).term=r.a then fU x (ee (r.cM+(bl.getD k default).aH) []) i k else x
def vr(r:dx)(c:di)(own:eO)(fr to i:Int)(x:Cell)(k:Nat):Cell:=
 fU x (ee r.cM [dT c own fr to r.a fr (fr+k),dT c own fr to r.b (fr+k) to]) i (fr+k)
def oW(r:dx)(l:aU)(c:di)(own:eO)(fr to i:Int)(x:Cell):Cell:=
 if r.kind=1 then(if fr=to then fU x (ee r.cM []) i fr else x)
 else if r.kind=2 then(List.range l.bl.length).foldl (stepT r l.bl fr to i) x
 else if r.kind=3 then fU x (ee r.cM [dT c own fr to r.a fr to]) i fr
 else(List.range (to-fr+1).toNat).foldl (vr r c own fr to i) x
def f5(n:aG)(l:aU)(c:di)(own:eO)(fr to:Int)(i:Nat):Cell:=
 oW (n.an.getD i default) l c own fr to i (own.getD (n.an.getD i default).head.toNat default)
abbrev s69:DM.Spec:=cK (λts=>∃c l,ts=[ti c,.sl (bN l)]/\(∀v∈l,kc v)/\0<=c/\c<=4000000000000/\l.length<=1000000) (fun|[.int _ c,.sl l]=>.agg [ti (ee c (oD l)).aH,ti (ee c (oD l)).size]|_=>.bool false) true
abbrev s68:DM.Spec:=cK (λts=>∃a b c d vc vs r g,ts=[.agg [ti a,ti b,ti c,ti d],.agg [ti vc,ti vs],ti r,ti g])
 (fun|[.agg [.int _ a,.int _ b,.int _ c,.int _ d],.agg [.int _ vc,.int _ vs],.int _ r,.int _ g]=>.agg [ti (fU ⟨a,b,c,d⟩ ⟨vc,vs⟩ r g).aH,ti (fU ⟨a,b,c,d⟩ ⟨vc,vs⟩ r g).size,ti (fU ⟨a,b,c,d⟩ ⟨vc,vs⟩ r g).nC,ti (fU ⟨a,b,c,d⟩ ⟨vc,vs⟩ r g).arg]|_=>.bool false) true
abbrev s70:DM.Spec:=cK (λts=>∃cn cs cl own fr to h f t,ts=[.agg [ti cn,ti cs,.sl (aZ cl)],.sl (aZ own),ti fr,ti to,.agg [ti h,ti f,ti t]]/\afa ⟨cn,cs,cl⟩ own fr to h f t)
 (fun|[c,.sl own,.int _ fr,.int _ to,.agg [.int _ h,.int _ f,.int _ t]]=>.agg [ti (dT (vA c) (ni own) fr to h f t).aH,ti (dT (vA c) (ni own) fr to h f t).size]|_=>.bool false) true
def okI:ay aj (bB [(95,s69),(130,s68),(131,s70)]):=by
 refine ay.cons (ay.cons (ay.cons ay.nil ?_) ?_) ?_
 ·rintro ts ⟨cn,cs,cl,own,fr,to,h,f,t,rfl,hp⟩;exact⟨by simpa [di.enc]using t70 ⟨cn,cs,cl⟩ own fr to h f t hp,λ_=>rfl⟩
 ·rintro ts ⟨a,b,c,d,vc,vs,r,g,rfl⟩;exact⟨by simpa [Cell.enc]using t68 ⟨a,b,c,d⟩ ⟨vc,vs⟩ r g,λ_=>rfl⟩
 ·rintro ts ⟨c,l,rfl,h1,h2,h3,h4⟩;exact⟨by simpa using t69 c l h1 h2 h3 h4,λ_=>rfl⟩
@[simp] def ajs{l:cm}:bN l=[]↔l=[]:=by rw[eq_comm,UA]
def AP:∀v∈([]:cm),kc v:=λv h=>by cases h
def t46(n:aG)(l:aU)(c:di)(own:eO)(fr to i:Nat)(hn:xV n)(hl:Bw l)(hc:G0 c)(ho:SG n own)(hi:i<n.an.length)(vC:fr<=to)(g8:to<=1000):
  bb aj 93 [n.enc,l.enc,c.enc,.sl (aZ own),ti fr,ti to,ti i] (.agg (f5 n l c own fr to i).enc):=by
 obtain⟨r,hr⟩:=aW (n.an.getD i default);have kO:y6 n r:=hn.2.2.2 r (by rw[<-hr];exact bC hi);obtain⟨x,hx⟩:=aW (own.getD r.head.toNat default);obtain⟨R,hR⟩:=aW (f5 n l c own fr to i);rw[hR];unfold f5 at hR;rw[hr,hx]at hR;obtain⟨nt,nn,ns,an⟩:=n;obtain⟨ls,bl,bU⟩:=l;obtain⟨cn,cs,cl⟩:=c;obtain⟨rk,rh,ra,rb,rp,rg⟩:=r;obtain⟨xc,xs,xr,xg⟩:=x;obtain⟨q1,q2,q3,q4,q5⟩:=kO;obtain⟨o1,o2⟩:=ho;obtain⟨l1,l2,l3,l4⟩:=hl;obtain⟨n1,n2,n3,n4⟩:=hn;simp only at q1 q2 q3 q4 q5 o1 hr hi hx l1 l2 l3 l4 n1 n2 n3 n4;obtain⟨rh,rfl⟩:=jm q1;simp only[iA]at hx;have M3:rh<own.length:=by omega
 have rr:=jC hi;rw[hr]at rr;have rx:=iO M3;rw[hx]at rx;have te:∀{h:Int},0<=h->h<nn->∀f t:Int,afa ⟨cn,cs,cl⟩ own fr to h f t:=λh0 h1 f t=>⟨hc,by omega,λ_=>⟨h0,by omega⟩⟩;have aB:=okI;refine c46.ok (by simp) (aM ?_);simp[aG.enc,aU.enc,di.enc];apply aa.ai aB fw [3,4,5,6,7,8,9,14];simp[XO];refine aa.lk (o:=[(1015,.box [.v (ti 0),.v (ti 0),.v (ti 0),.v (ti 0)])]) (l:=[(3,.v (.sl (aZ own))),(4,.v (ti fr)),(5,.v (ti to)),(6,.v (ti i)),(7,.v (.box [ti nt,ti nn,ti ns,.sl (aQ an)])),(8,.v (.box [ti ls,.sl (ce bl),.sl (aD bU)])),(9,.v (.box [ti cn,ti cs,.sl (aZ cl)])),(14,.ptr 1015 0)]) (aV:=1200) (by simp) ?_;apply aa.ai aB fw [3,4,5,6,7,8,9,14,15];simp[aoT,hi,rr,dx.enc];refine aa.lk (o:=[(1015,.box [.v (ti 0),.v (ti 0),.v (ti 0),.v (ti 0)])]) (l:=[(3,.v (.sl (aZ own))),(4,.v (ti fr)),(5,.v (ti to)),(6,.v (ti i)),(7,.v (.box [ti nt,ti nn,ti ns,.sl (aQ an)])),(8,.v (.box [ti ls,.sl (ce bl),.sl (aD bU)])),(9,.v (.box [ti cn,ti cs,.sl (aZ cl)])),(14,.ptr 1015 0),(15,.v (.box [ti rk,ti rh,ti ra,ti rb,ti rp,ti rg]))]) (aV:=1400) (by simp) ?_;apply aa.ai aB fw [3,4,5,6,7,8,9,14,15,16];simp[aoU,M3,rx,Cell.enc];refine aa.lk (o:=[(1015,.box [.v (ti 0),.v (ti 0),.v (ti 0),.v (ti 0)]),(1417,.box [.v (ti xc),.v (ti xs),.v (ti xr),.v (ti xg)])]) (l:=[(3,.v (.sl (aZ own))),(4,.v (ti fr)),(5,.v (ti to)),(6,.v (ti i)),(7,.v (.box [ti nt,ti nn,ti ns,.sl (aQ an)])),(8,.v (.box [ti ls,.sl (ce bl),.sl (aD bU)])),(9,.v (.box [ti cn,ti cs,.sl (aZ cl)])),(14,.ptr 1015 0),(15,.v (.box [ti rk,ti rh,ti ra,ti rb,ti rp,ti rg])),(16,.ptr 1417 0)]) (aV:=1600) (by simp) ?_;apply aa.sq aB fw [3,4,5,6,8,9,14,15,16,33];simp[XP];apply aa.block;apply aa.ai aB fw [3,4,5,6,8,9,14,15,16,33,70];simp[XQ];refine aa.cond rfl (λk1=>?_) (λk1=>?_)
 ·have k1:rk=1:=by simpa using k1
  rw[show rk=1 from k1]at hR;simp only[oW,cG]at hR;apply aa.ai aB fw [4,6,14,15,16,74];simp[aoV];refine aa.cond rfl (λk2=>?_) (λk2=>?_)
  ·have k2:(fr:Int)=to:=by simpa using k2
   rw[cG k2]at hR;apply aa.dZ aB fw [14,16];simp[aoW,uP];refine⟨by omega,by omega, ?_⟩;apply aa.ai aB fw [14];simp[FN];apply aa.ret;subst hR;simp[uJ,Cell.enc]
  ·have k2:¬(fr:Int)=to:=by simpa using k2
   rw[bj k2]at hR;apply aa.skip;simp;apply aa.ai aB fw [14];simp[FN];apply aa.ret;subst hR;simp[uJ,Cell.enc]
 ·have k1:¬rk=1:=by simpa using k1
  simp only[oW,k1,xd]at hR;apply aa.ai aB fw [3,4,5,6,8,9,14,15,16,33,82];simp[aoX];refine aa.cond rfl (λk3=>?_) (λk3=>?_)
  ·have k3:rk=2:=by simpa using k3
   rw[cG k3]at hR;apply aa.ai aB fw [4,5,6,8,14,15,16,17];simp[aoY];apply aa.block;refine aa.loop (λy:Nat=>⟨DM.look [(4,.v (ti fr)),(5,.v (ti to)),(6,.v (ti i)),(8,.v (.box [ti ls,.sl (ce bl),.sl (aD bU)])),(14,.ptr 1015 0),(15,.v (.box [ti rk,ti rh,ti ra,ti rb,ti rp,ti rg])),(16,.ptr 1417 0),(17,.v (ti y))],cF [(1015,.box [.v (ti 0),.v (ti 0),.v (ti 0),.v (ti 0)]),(1417,.box [.v (ti ((List.range y).foldl (stepT ⟨rk,rh,ra,rb,rp,rg⟩ bl fr to i) ⟨xc,xs,xr,xg⟩).aH),.v (ti ((List.range y).foldl (stepT ⟨rk,rh,ra,rb,rp,rg⟩ bl fr to i) ⟨xc,xs,xr,xg⟩).size),.v (ti ((List.range y).foldl (stepT ⟨rk,rh,ra,rb,rp,rg⟩ bl fr to i) ⟨xc,xs,xr,xg⟩).nC),.v (ti ((List.range y).foldl (stepT ⟨rk,rh,ra,rb,rp,rg⟩ bl fr to i) ⟨xc,xs,xr,xg⟩).arg)])],2000,1000,[]⟩)
    (λy=>y<=bl.length) (λy=>bl.length-y) 0 (Le.bi ?_ ?_ ?_ ?_) (by simp) (λy hy=>?_)
   iterate 4(·simp)
   obtain⟨X,hX⟩:=aW (((List.range y).foldl (stepT ⟨rk,rh,ra,rb,rp,rg⟩ bl fr to i) ⟨xc,xs,xr,xg⟩));rw[hX];apply aa.sq aB fw [4,5,6,8,14,15,16,17,88];simp[aoZ];refine aa.cond rfl (λct=>?_) (λct=>?_)
   ·have ct:y<bl.length:=by simpa using ct
    apply aa.skip;simp;apply aa.seq;apply aa.block;have ra1:=qR ct;obtain⟨a,ha⟩:=aW (bl.getD y default);rw[ha]at ra1;obtain⟨g1,g2⟩:=l4 a (by rw[<-ha];exact bC ct);obtain⟨c1,bI⟩:=aW (decide (a.f=fr/\a.t=to/\a.term=ra):Bool);refine aa.ci aB fw [(4,.v (ti fr)),(5,.v (ti to)),(6,.v (ti i)),(8,.v (.box [ti ls,.sl (ce bl),.sl (aD bU)])),(14,.ptr 1015 0),(15,.v (.box [ti rk,ti rh,ti ra,ti rb,ti rp,ti rg])),(16,.ptr 1417 0),(17,.v (ti y)),(119,.v (.bool c1))] ?_ ?_
    ·by_cases q1:a.f=fr
     ·by_cases q2:a.t=to
      ·by_cases q3:a.term=ra
       ·have:c1=true:=by rw[<-bI];simp[q1,q2,q3]
        simp[JT,ct,ra1,cC.enc,q1,q2,q3,this]
       ·have:c1=false:=by rw[<-bI];simp[q3]
        simp[JT,ct,ra1,cC.enc,q1,q2,q3,this]
      ·have:c1=false:=by rw[<-bI];simp[q2]
       simp[JT,ct,ra1,cC.enc,q1,q2,this]
     ·have:c1=false:=by rw[<-bI];simp[q1]
      simp[JT,ct,ra1,cC.enc,q1,this]
    refine aa.cond rfl (λh5=>?_) (λh5=>?_)
    ·rw[h5]at bI;have bI:=p7 bI;have tf:stepT ⟨rk,rh,ra,rb,rp,rg⟩ bl fr to i X y=fU X (ee (rp+a.aH) []) i y:=by unfold stepT;rw[ha,cG bI]
     apply aa.dZ aB fw [4,5,6,8,14,15,16,17];simp[aiu,ct,ra1,cC.enc,uP,aA (x:=rp+a.aH) (by omega)];refine⟨by omega,by omega, ?_⟩;apply aa.dZ aB fw [4,5,6,8,14,15,16,17];simp[XR];rw[aA (x:=(y:Int)+1) (by omega)];refine⟨y+1,Le.bi ?_ ?_ ?_ ?_,by omega,by omega⟩
     ·simp
     ·simp
     ·simp[B3,yZ,hX,tf]
     ·simp
    ·rw[h5]at bI;have bI:=uO bI;have tf:stepT ⟨rk,rh,ra,rb,rp,rg⟩ bl fr to i X y=X:=by unfold stepT;rw[ha,bj bI]
     apply aa.skip;simp;apply aa.dZ aB fw [4,5,6,8,14,15,16,17];simp[XR];rw[aA (x:=(y:Int)+1) (by omega)];refine⟨y+1,Le.bi ?_ ?_ ?_ ?_,by omega,by omega⟩
     ·simp
     ·simp
     ·simp[B3,yZ,hX,tf]
     ·simp
   ·have fA:y=bl.length:=by simp at ct;omega
    subst fA;rw[hX]at hR;apply aa.exit;simp;apply aa.ai aB fw [14];simp[FN];apply aa.ret;subst hR;simp[uJ,Cell.enc]
  ·have k3:¬rk=2:=by simpa using k3
   rw[bj k3]at hR;apply aa.ai aB fw [3,4,5,6,9,14,15,16,134];simp[aiv];refine aa.cond rfl (λk4=>?_) (λk4=>?_)
   ·have k4:rk=3:=by simpa using k4
    rw[cG k4]at hR;have ya:=te (h:=ra) (by omega) (by omega) fr to;have mM:=tK ya o2;obtain⟨⟨vc,vs⟩,hv⟩:=aW (dT ⟨cn,cs,cl⟩ own fr to ra fr to);rw[hv]at mM hR;apply aa.ai aB fw [6,14,15,16,18,4];simp[aiw,uP,ya,hv];refine aa.lk (o:=[(1015,.box [.v (ti 0),.v (ti 0),.v (ti 0),.v (ti 0)]),(1417,.box [.v (ti xc),.v (ti xs),.v (ti xr),.v (ti xg)])]) (l:=[(4,.v (ti fr)),(6,.v (ti i)),(14,.ptr 1015 0),(15,.v (.box [ti rk,ti rh,ti ra,ti rb,ti rp,ti rg])),(16,.ptr 1417 0),(18,.v (.box [ti vc,ti vs]))]) (aV:=2200) (by simp) ?_;apply aa.dZ aB fw [14,16];simp[aix,uP,mM,eX];refine⟨by omega,by omega, ?_⟩;apply aa.ai aB fw [14];simp[FN];apply aa.ret;subst hR;simp[uJ,Cell.enc]
   ·have k4:¬rk=3:=by simpa using k4
    rw[bj k4]at hR;apply aa.ai aB fw [3,4,5,6,9,14,15,16,19];simp[aiy];apply aa.block;refine aa.loop (λy:Nat=>⟨DM.look [(3,.v (.sl (aZ own))),(4,.v (ti fr)),(5,.v (ti to)),(6,.v (ti i)),(9,.v (.box [ti cn,ti cs,.sl (aZ cl)])),(14,.ptr 1015 0),(15,.v (.box [ti rk,ti rh,ti ra,ti rb,ti rp,ti rg])),(16,.ptr 1417 0),(19,.v (ti ((fr+y:Nat):Int)))],cF [(1015,.box [.v (ti 0),.v (ti 0),.v (ti 0),.v (ti 0)]),(1417,.box [.v (ti ((List.range y).foldl (vr ⟨rk,rh,ra,rb,rp,rg⟩ ⟨cn,cs,cl⟩ own fr to i) ⟨xc,xs,xr,xg⟩).aH),.v (ti ((List.range y).foldl (vr ⟨rk,rh,ra,rb,rp,rg⟩ ⟨cn,cs,cl⟩ own fr to i) ⟨xc,xs,xr,xg⟩).size),.v (ti ((List.range y).foldl (vr ⟨rk,rh,ra,rb,rp,rg⟩ ⟨cn,cs,cl⟩ own fr to i) ⟨xc,xs,xr,xg⟩).nC),.v (ti ((List.range y).foldl (vr ⟨rk,rh,ra,rb,rp,rg⟩ ⟨cn,cs,cl⟩ own fr to i) ⟨xc,xs,xr,xg⟩).arg)])],3000,1000,[]⟩)
     (λy=>fr+y<=to+1) (λy=>to+1-(fr+y)) 0 (Le.bi ?_ ?_ ?_ ?_) (by omega) (λy hy=>?_)
    iterate 4(·simp)
    obtain⟨X,hX⟩:=aW (((List.range y).foldl (vr ⟨rk,rh,ra,rb,rp,rg⟩ ⟨cn,cs,cl⟩ own fr to i) ⟨xc,xs,xr,xg⟩));rw[hX];obtain⟨m,hm⟩:=aW (fr+y);rw[hm];apply aa.sq aB fw [3,4,5,6,9,14,15,16,19,37];simp[aiz];refine aa.cond rfl (λk5=>?_) (λk5=>?_)
    ·have k5:m<=to:=by simp at k5;omega
     apply aa.skip;simp;apply aa.seq;apply aa.block;have hu1:=te (h:=ra) (by omega) (by omega) fr m;have hu2:=tK hu1 o2;obtain⟨⟨uc,us⟩,hu⟩:=aW (dT ⟨cn,cs,cl⟩ own fr to ra fr m);rw[hu]at hu2;apply aa.ai aB fw [3,4,5,6,9,14,15,16,19,20];simp[aiA,uP,hu1,hu];refine aa.lk (o:=[(1015,.box [.v (ti 0),.v (ti 0),.v (ti 0),.v (ti 0)]),(1417,.box [.v (ti X.aH),.v (ti X.size),.v (ti X.nC),.v (ti X.arg)])]) (l:=[(3,.v (.sl (aZ own))),(4,.v (ti fr)),(5,.v (ti to)),(6,.v (ti i)),(9,.v (.box [ti cn,ti cs,.sl (aZ cl)])),(14,.ptr 1015 0),(15,.v (.box [ti rk,ti rh,ti ra,ti rb,ti rp,ti rg])),(16,.ptr 1417 0),(19,.v (ti m)),(20,.v (.box [ti uc,ti us]))]) (aV:=3200) (by simp) ?_;have ya:=te (h:=rb) (by omega) (by omega) m to;have mM:=tK ya o2;obtain⟨⟨vc,vs⟩,hv⟩:=aW (dT ⟨cn,cs,cl⟩ own fr to rb m to);rw[hv]at mM;apply aa.ai aB fw [3,4,5,6,9,14,15,16,19,20,21];simp[aiB,uP,ya,hv];refine aa.lk (o:=[(1015,.box [.v (ti 0),.v (ti 0),.v (ti 0),.v (ti 0)]),(1417,.box [.v (ti X.aH),.v (ti X.size),.v (ti X.nC),.v (ti X.arg)])]) (l:=[(3,.v (.sl (aZ own))),(4,.v (ti fr)),(5,.v (ti to)),(6,.v (ti i)),(9,.v (.box [ti cn,ti cs,.sl (aZ cl)])),(14,.ptr 1015 0),(15,.v (.box [ti rk,ti rh,ti ra,ti rb,ti rp,ti rg])),(16,.ptr 1417 0),(19,.v (ti m)),(20,.v (.box [ti uc,ti us])),(21,.v (.box [ti vc,ti vs]))]) (aV:=3400) (by simp) ?_;have DD:(fr:Int)+y=m:=by omega
     have tf:vr ⟨rk,rh,ra,rb,rp,rg⟩ ⟨cn,cs,cl⟩ own fr to i X y=fU X (ee rp [⟨uc,us⟩,⟨vc,vs⟩]) i m:=by unfold vr;simp only[DD,hu,hv]
     apply aa.dZ aB fw [3,4,5,6,9,14,15,16,19];simp[aiC,uP,hu2,mM,eX];refine⟨by omega,by omega, ?_⟩;apply aa.dZ aB fw [3,4,5,6,9,14,15,16,19];simp[aiD];rw[aA (x:=(m:Int)+1) (by omega)];refine⟨y+1,Le.bi ?_ ?_ ?_ ?_,by omega,by omega⟩
     ·simp
     ·simp
     ·simp[B3,yZ,hX,tf]
     ·simp;omega
    ·have k5:y=(to-fr+1:Int).toNat:=by simp at k5;omega
     subst k5;rw[hX]at hR;apply aa.exit;simp;apply aa.ai aB fw [14];simp[FN];apply aa.ret;subst hR;simp[uJ]
section
variable{own:eO}{fr to h:Nat}
def og(x:Cell):Prop:=kc x.val/\-1<=x.nC/\x.nC<=600/\0<=x.arg/\x.arg<=10000000000
def Ge(x:Cell):Nat:=((x.aH.toNat*2199023255552+x.size.toNat)*1024+(x.nC+1).toNat)*17179869184+x.arg.toNat
def goes(x y:Cell):Prop:=og y/\(y=x\/Ge y<Ge x)
def mt{x:Cell}{v:dj}{r g:Int}(hx:og x)(hv:kc v)(h1:0<=r)(h2:r<=600)(h3:0<=g)(h4:g<=10000000000):goes x (fU x v r g):=by
 obtain⟨xc,xs,xr,xg⟩:=x;obtain⟨vc,vs⟩:=v;obtain⟨⟨a1,a2,a3,a4⟩,a5,a6,a7,a8⟩:=hx;obtain⟨b1,b2,b3,b4⟩:=hv;simp only[]at a1 a2 a3 a4 a5 a6 a7 a8 b1 b2 b3 b4;unfold fU;split
 ·exact⟨⟨⟨a1,a2,a3,a4⟩,a5,a6,a7,a8⟩,.inl rfl⟩
 ·split
  ·rename_i h;refine⟨⟨⟨b1,b2,b3,b4⟩,by simp only;omega,by simp only;omega,by simp only;omega,by simp only;omega⟩,.inr ?_⟩;simp only[dj.lt,Cell.val,dj.mk.injEq]at h;simp only[Ge];omega
  ·exact⟨⟨⟨a1,a2,a3,a4⟩,a5,a6,a7,a8⟩,.inl rfl⟩
def xE{x:Cell}(h:og x):goes x x:=⟨h,.inl rfl⟩
def PT{x y z:Cell}(h:goes x y)(k:goes y z):goes x z:=by
 refine⟨k.1, ?_⟩;rcases h.2 with rfl|h2
 ·exact k.2
 ·rcases k.2 with rfl|k2
  ·exact .inr h2
  ·exact .inr (by omega)
def B6{f:Cell->Nat->Cell}{N:Nat}(hf:∀x k,k<N->og x->goes x (f x k))(x:Cell)(hx:og x):goes x ((List.range N).foldl f x):=by
 induction N with
 |zero=>exact xE hx
 |succ N ih=>
  rw[B3,yZ];have h1:=ih λx k hk=>hf x k (by omega);exact PT h1 (hf _ N (by omega) h1.1)
def AT{n:aG}{l:aU}{c:di}{i:Nat}(hn:xV n)(hl:Bw l)(hc:G0 c)(ho:SG n own)(hi:i<n.an.length)(vC:fr<=to)(g8:to<=1000)
  (hx:og (own.getD (n.an.getD i default).head.toNat default)):goes (own.getD (n.an.getD i default).head.toNat default) (f5 n l c own fr to i):=by
 unfold f5;obtain⟨r,hr⟩:=aW (n.an.getD i default);have kO:y6 n r:=hn.2.2.2 r (by rw[<-hr];exact bC hi);rw[hr]at hx⊢;obtain⟨x,nK⟩:=aW (own.getD r.head.toNat default);rw[nK]at hx⊢;obtain⟨q1,q2,q3,q4,q5⟩:=kO;have hi2:=hn.2.2.1;have hvp:∀h f t:Int,0<=h->h<n.au->kc (dT c own fr to h f t):=λh f t h1 h2=>tK ⟨hc,by have:=ho.1;have:=hn.2.1;omega,λ_=>⟨h1,by have:=ho.1;omega⟩⟩ ho.2;unfold oW;split
 ·split
  ·exact mt hx (kq AP q3 (by omega)) (by omega) (by omega) (by omega) (by omega)
  ·exact xE hx
 ·split
  ·refine B6 (λx k hk hx=>?_) x hx;unfold stepT;split
   ·have:=hl.2.2.2 (l.bl.getD k default) (bC hk);have:=hl.2.2.1;exact mt hx (kq AP (by omega) (by omega)) (by omega) (by omega) (by omega) (by omega)
   ·exact xE hx
  ·split
   ·refine mt hx (kq (λv hv=>?_) q3 (by omega)) (by omega) (by omega) (by omega) (by omega);simp only[pe]at hv;subst hv;exact hvp _ _ _ (by omega) (by omega)
   ·refine B6 (λx k hk hx=>?_) x hx;unfold vr;refine mt hx (kq (λv hv=>?_) q3 (by omega)) (by omega) (by omega) (by omega) (by omega);simp only[gm,lZ,lS]at hv;rcases hv with rfl|rfl<;>exact hvp _ _ _ (by omega) (by omega)
def mu(own:eO):Nat:=(own.map Ge).sum
def UB{y:Cell}(hh:h<own.length)(hy:Ge y<Ge (own.getD h default)):mu (own.set h y)<mu own:=by
 induction own generalizing h with
 |nil=>simp at hh
 |cons x own ih=>
  cases h with
  |zero=>simp[mu]at hy⊢;omega
  |succ h=>
   have:=ih (h:=h) (by simpa using hh) (by simpa using hy);simp[mu]at this⊢;omega
def tM(n:aG)(l:aU)(c:di)(fr to:Int)(own:eO)(k:Nat):eO:=own.set (n.an.getD k default).head.toNat (f5 n l c own fr to k)
def nD(n:aG)(own:eO):Prop:=(own.length:Int)=n.au/\∀x∈own,og x
def nD.ok{n:aG}(h:nD n own):SG n own:=⟨h.1,λx hx=>(h.2 x hx).1⟩
def F4{n:aG}{l:aU}{c:di}{k:Nat}(hn:xV n)(hl:Bw l)(hc:G0 c)(ho:nD n own)(hk:k<n.an.length)(vC:fr<=to)(g8:to<=1000):
  nD n (tM n l c fr to own k)/\(f5 n l c own fr to k≠own.getD (n.an.getD k default).head.toNat default->mu (tM n l c fr to own k)<mu own):=by
 have kO:=hn.2.2.2 (n.an.getD k default) (bC hk);have hh:(n.an.getD k default).head.toNat<own.length:=by have:=ho.1;have:=kO.1;have:=kO.2.1;omega
 have hg:=AT hn hl hc ho.ok hk vC g8 (ho.2 _ (bC hh));refine⟨⟨by simpa [tM]using ho.1,λx hx=>?_⟩,λcj=>?_⟩
 ·rcases TG hx with h|rfl
  ·exact ho.2 x h
  ·exact hg.1
 ·rcases hg.2 with h|h
  ·exact eK h cj
  ·exact UB hh h
def PO(n:aG)(l:aU)(c:di)(fr to:Int)(own:eO):Prop:=∀k,k<n.an.length->f5 n l c own fr to k=own.getD (n.an.getD k default).head.toNat default
def y7(l:eO)(i:Nat)(x:Cell):aZ (l.set i x)=(aZ l).set i x.enc:=by simp[aZ,Zce]
def Di:og jW:=by simp[og,kc,jW]
abbrev s46:DM.Spec:=cK (λts=>∃nt nn ns an ls bl bU cn cs cl own,∃fr to i:Int,ts=[.agg [ti nt,ti nn,ti ns,.sl (aQ an)],.agg [ti ls,.sl (ce bl),.sl (aD bU)],.agg [ti cn,ti cs,.sl (aZ cl)],.sl (aZ own),ti fr,ti to,ti i]/\
  xV ⟨nt,nn,ns,an⟩/\Bw ⟨ls,bl,bU⟩/\G0 ⟨cn,cs,cl⟩/\SG ⟨nt,nn,ns,an⟩ own/\0<=i/\i<an.length/\0<=fr/\fr<=to/\to<=1000)
 (fun|[n,l,c,.sl own,.int _ fr,.int _ to,.int _ i]=>.agg [ti (f5 (B8 n) (M4 l) (vA c) (ni own) fr to i.toNat).aH,ti (f5 (B8 n) (M4 l) (vA c) (ni own) fr to i.toNat).size,ti (f5 (B8 n) (M4 l) (vA c) (ni own) fr to i.toNat).nC,ti (f5 (B8 n) (M4 l) (vA c) (ni own) fr to i.toNat).arg]|_=>.bool false) true
def awU:ay aj (bB [(93,s46),(92,s42)]):=by
 refine ay.cons (ay.cons ay.nil ?_) ?_
 ·rintro ts rfl;exact⟨t42,λ_=>rfl⟩
 ·rintro ts ⟨nt,nn,ns,an,ls,bl,bU,cn,cs,cl,own,fr,to,i,rfl,h1,h2,h3,h4,h5,h6,h7,h8,h9⟩;obtain⟨i,rfl⟩:=jm h5;obtain⟨fr,rfl⟩:=jm h7;obtain⟨to,rfl⟩:=jm (a:=to) (by omega);exact⟨by simpa [aG.enc,aU.enc,di.enc,Cell.enc]using t46 ⟨nt,nn,ns,an⟩ ⟨ls,bl,bU⟩ ⟨cn,cs,cl⟩ own fr to i h1 h2 h3 h4 (by simpa using h6) (by omega) (by omega),λ_=>rfl⟩
structure SM where
 own:eO
 y8:Bool
def fI(n:aG)(l:aU)(c:di)(fr to:Int)(own:eO)(y:Nat):eO:=(List.range y).foldl (tM n l c fr to) own
def sh(n:aG)(l:aU)(c:di)(fr to:Int)(own:eO)(y:Nat):fI n l c fr to own (y+1)=tM n l c fr to (fI n l c fr to own y) y:=by
 simp[fI,B3,yZ]
def F5{x:Cell}(hx:x=own.getD h default):own.set h x=own:=by
 subst hx;apply Zb3;intro j;rw[ZbP];split
 ·rename_i e;subst e;split
  ·rename_i hl;simp[List.getD,hl]
  ·rename_i hl;rw[Zbt (by omega)]
 ·rfl
def xF{n:aG}{l:aU}{c:di}{own:eO}{fr to:Nat}(hn:xV n)(hl:Bw l)(hc:G0 c)(ho:nD n own)(vC:fr<=to)(g8:to<=1000):∀y,y<=n.an.length->
  nD n (fI n l c fr to own y)/\((fI n l c fr to own y=own/\∀k,k<y->f5 n l c own fr to k=own.getD (n.an.getD k default).head.toNat default)\/mu (fI n l c fr to own y)<mu own)
 |0,_=>⟨ho,.inl ⟨rfl,λk h=>by omega⟩⟩
 |y+1,hy=>by
  obtain⟨h1,h2⟩:=xF hn hl hc ho vC g8 y (by omega);obtain⟨h3,h4⟩:=F4 hn hl hc h1 (k:=y) (by omega) vC g8;rw[sh];refine⟨h3, ?_⟩;by_cases e:f5 n l c (fI n l c fr to own y) fr to y=(fI n l c fr to own y).getD (n.an.getD y default).head.toNat default
  ·have e2:tM n l c fr to (fI n l c fr to own y) y=fI n l c fr to own y:=F5 e;rw[e2];rcases h2 with⟨g1,g2⟩|h2
   ·refine .inl ⟨g1,λk hk=>?_⟩;by_cases wo:k=y
    ·subst wo;rwa [g1]at e
    ·exact g2 k (by omega)
   ·exact .inr h2
  ·have:=h4 e;rcases h2 with⟨g1,g2⟩|h2
   ·rw[g1]at this⊢;exact .inr this
   ·exact .inr (by omega)
def yo(n:aG)(l:aU)(c:di)(fr to:Int):Nat->eO->eO
 |0,own=>own
 |f+1,own=>if fI n l c fr to own n.an.length=own then own else yo n l c fr to f (fI n l c fr to own n.an.length)
def UC{n:aG}{l:aU}{c:di}{fr to:Int}{f:Nat}{R:eO}(hs:fI n l c fr to own n.an.length=own\/mu (fI n l c fr to own n.an.length)<mu own)(h1:mu own<f)(h2:yo n l c fr to f own=R):
  (fI n l c fr to own n.an.length≠own->mu (fI n l c fr to own n.an.length)<mu own/\∃f,mu (fI n l c fr to own n.an.length)<f/\yo n l c fr to f (fI n l c fr to own n.an.length)=R)/\(fI n l c fr to own n.an.length=own->own=R):=by
 cases f with
 |zero=>omega
 |succ f=>
  unfold yo at h2;refine⟨λcj=>?_,λe=>?_⟩
  ·rw[bj cj]at h2;have:=hs.resolve_left cj;exact⟨this,f,by omega,h2⟩
  ·rwa [cG e]at h2
def Hc(n:aG):eO:=List.replicate n.au.toNat jW
def li(n:aG)(l:aU)(c:di)(fr to:Int):eO:=yo n l c fr to (mu (Hc n)+1) (Hc n)
def SH{n:aG}(hn:xV n):nD n (Hc n):=by
 refine⟨?_,λx hx=>?_⟩
 ·have:=hn.1;simp only[Hc,ZbJ];omega
 ·rw[ZbV hx];exact Di
def M6{n:aG}{l:aU}{c:di}{fr to:Nat}(hn:xV n)(hl:Bw l)(hc:G0 c)(vC:fr<=to)(g8:to<=1000)
  (P:eO->Prop) (hPs:∀own k,nD n own->k<n.an.length->P own->P (tM n l c fr to own k)):∀f own,mu own<f->nD n own->P own->nD n (yo n l c fr to f own)/\P (yo n l c fr to f own)/\PO n l c fr to (yo n l c fr to f own)
 |0,own,h,_,_=>by omega
 |f+1,own,h,ho,hp=>by
  obtain⟨h1,h2⟩:=xF hn hl hc ho vC g8 n.an.length (eF _);have hpw:∀y,y<=n.an.length->P (fI n l c fr to own y):=by
   intro y;induction y with
   |zero=>intro _;exact hp
   |succ y ih=>intro hy;rw[sh];exact hPs _ _ (xF hn hl hc ho vC g8 y (by omega)).1 (by omega) (ih (by omega))
  unfold yo;split
  ·rename_i e;rcases h2 with⟨_,g⟩|h2
   ·exact⟨ho,hp,g⟩
   ·rw[e]at h2;omega
  ·rename_i e;rcases h2 with⟨g,_⟩|h2
   ·exact eK g e
   ·exact M6 hn hl hc vC g8 P hPs f _ (by omega) h1 (hpw _ (eF _))
def AQ{n:aG}{l:aU}{c:di}(hn:xV n)(hl:Bw l)(hc:G0 c)(vC:fr<=to)(g8:to<=1000)
  (P:eO->Prop) (hP0:P (Hc n)) (hPs:∀own k,nD n own->k<n.an.length->P own->P (tM n l c fr to own k)):nD n (li n l c fr to)/\P (li n l c fr to)/\PO n l c fr to (li n l c fr to):=
 M6 hn hl hc vC g8 P hPs _ _ (by omega) (SH hn) hP0
def t24(n:aG)(l:aU)(c:di)(fr to:Nat)(hn:xV n)(hl:Bw l)(hc:G0 c)(vC:fr<=to)(g8:to<=1000):pj aj 54 [n.enc,l.enc,c.enc,ti fr,ti to] 65 4 (aZ (li n l c fr to)):=by
 obtain⟨R,hR⟩:=aW (li n l c fr to);rw[hR];obtain⟨nt,nn,ns,an⟩:=n;obtain⟨ls,bl,bU⟩:=l;obtain⟨cn,cs,cl⟩:=c;have aB:=awU;have h00:=SH hn;have DT:=λ(own:eO) (ho:nD ⟨nt,nn,ns,an⟩ own)=>xF hn hl hc ho vC g8;have hss:=λ(own:eO) (ho:nD ⟨nt,nn,ns,an⟩ own) (k:Nat) (hk:k<an.length)=>F4 hn hl hc ho (k:=k) hk vC g8;have zJ:an.length<=600:=hn.2.2.1;have PU:1<=nn:=hn.1;have KZ:nn<=1000:=hn.2.1;refine c24.okF (by simp) (aM ?_);simp[aG.enc,aU.enc,di.enc];apply aa.ai aB fw [3,4,5,6,7];simp[ao0];refine aa.lk (o:=[]) (l:=[(3,.v (ti fr)),(4,.v (ti to)),(5,.v (.box [ti nt,ti nn,ti ns,.sl (aQ an)])),(6,.v (.box [ti ls,.sl (ce bl),.sl (aD bU)])),(7,.v (.box [ti cn,ti cs,.sl (aZ cl)]))]) (aV:=1200) (by simp) ?_;apply aa.ai aB fw [3,4,5,6,7,11];simp[ao1];refine aa.lk (o:=[]) (l:=[(3,.v (ti fr)),(4,.v (ti to)),(5,.v (.box [ti nt,ti nn,ti ns,.sl (aQ an)])),(6,.v (.box [ti ls,.sl (ce bl),.sl (aD bU)])),(7,.v (.box [ti cn,ti cs,.sl (aZ cl)])),(11,.bH)]) (aV:=1400) (by simp) ?_;refine aa.le (Le.pQ (k:=11) 65 (sz:=4) (by omega) (by simp)) ?_;rw[jv];apply aa.sq aB fw [3,4,5,6,7,11,12];simp[ao2];apply aa.block;refine aa.loop (λy:Nat=>⟨DM.look [(3,.v (ti fr)),(4,.v (ti to)),(5,.v (.box [ti nt,ti nn,ti ns,.sl (aQ an)])),(6,.v (.box [ti ls,.sl (ce bl),.sl (aD bU)])),(7,.v (.box [ti cn,ti cs,.sl (aZ cl)])),(11,.bE 1400 0),(12,.v (ti y))],cF [(1400,.bJ 0 65 4 (aZ (List.replicate y jW)))],1600,1000,[]⟩)
  (λy=>(y:Int)<=nn) (λy=>nn.toNat-y) 0 (Le.bi ?_ ?_ ?_ ?_) (by omega) (λy hy=>?_)
 iterate 4(·simp)
 apply aa.sq aB fw [3,4,5,6,7,11,12,19];simp[ao3];refine aa.cond rfl (λct=>?_) (λct=>?_)
 ·have ct:(y:Int)<nn:=by simpa using ct
  apply aa.skip;simp;apply aa.seq;apply aa.block;apply aa.dZ aB fw [3,4,5,6,7,11,12];simp[ao4,du,eX];refine⟨by omega, ?_⟩;apply aa.dZ aB fw [3,4,5,6,7,11,12];simp[ao5];rw[aA (x:=(y:Int)+1) (by omega)];refine⟨y+1,Le.bi ?_ ?_ ?_ ?_,by omega,by omega⟩
  ·simp
  ·simp
  ·simp[Zcr,aZ,jW,Cell.enc]
  ·simp
 ·have fA:y=nn.toNat:=by simp at ct;omega
  subst fA;apply aa.exit;simp;apply aa.sq aB fw [3,4,5,6,7,11,13];simp[ao6];apply aa.block;refine aa.loop (λz:SM=>⟨DM.look [(3,.v (ti fr)),(4,.v (ti to)),(5,.v (.box [ti nt,ti nn,ti ns,.sl (aQ an)])),(6,.v (.box [ti ls,.sl (ce bl),.sl (aD bU)])),(7,.v (.box [ti cn,ti cs,.sl (aZ cl)])),(11,.bE 1400 0),(13,.v (.bool z.y8))],cF [(1400,.bJ 0 65 4 (aZ z.own))],3000,1000,[]⟩)
   (λz=>nD ⟨nt,nn,ns,an⟩ z.own/\(z.y8=true->∃f,mu z.own<f/\yo ⟨nt,nn,ns,an⟩ ⟨ls,bl,bU⟩ ⟨cn,cs,cl⟩ fr to f z.own=R)/\(z.y8=false->z.own=R)) (λz=>2*mu z.own+(if z.y8 then 1 else 0)) ⟨Hc ⟨nt,nn,ns,an⟩,true⟩ (Le.bi ?_ ?_ ?_ ?_) (⟨h00,λ_=>⟨_,Zcg _,hR⟩,λh=>by cases h⟩) (λz hy=>?_)
  ·simp
  ·simp
  ·simp[Hc]
  ·simp
  obtain⟨own,y8⟩:=z;obtain⟨hz1,hz2,hz3⟩:=hy;simp only at hz1 hz2 hz3⊢;apply aa.sq aB fw [3,4,5,6,7,11,26];simp[ao7];refine aa.cond rfl (λhm=>?_) (λhm=>?_)
  ·have hm:y8=true:=by simpa using hm
   subst hm;obtain⟨f,hf1,hf2⟩:=hz2 rfl;apply aa.skip;simp;apply aa.block;apply aa.ai aB fw [3,4,5,6,7,11,13];simp[ao8];apply aa.ai aB fw [3,4,5,6,7,11,13,14];simp[ao9];apply aa.block;refine aa.loop (λy:Nat=>⟨DM.look [(3,.v (ti fr)),(4,.v (ti to)),(5,.v (.box [ti nt,ti nn,ti ns,.sl (aQ an)])),(6,.v (.box [ti ls,.sl (ce bl),.sl (aD bU)])),(7,.v (.box [ti cn,ti cs,.sl (aZ cl)])),(11,.bE 1400 0),(13,.v (.bool (decide (fI ⟨nt,nn,ns,an⟩ ⟨ls,bl,bU⟩ ⟨cn,cs,cl⟩ fr to own y≠own)))),(14,.v (ti y))],cF [(1400,.bJ 0 65 4 (aZ (fI ⟨nt,nn,ns,an⟩ ⟨ls,bl,bU⟩ ⟨cn,cs,cl⟩ fr to own y)))],4000,1000,[]⟩)
    (λy=>y<=an.length) (λy=>an.length-y) 0 (Le.bi ?_ ?_ ?_ ?_) (by simp) (λy SI=>?_)
   ·simp
   ·simp[fI]
   ·simp[fI]
   ·simp[fI]
   obtain⟨O,hO⟩:=aW (fI ⟨nt,nn,ns,an⟩ ⟨ls,bl,bU⟩ ⟨cn,cs,cl⟩ fr to own y);obtain⟨vq,Jz⟩:=DT own hz1 y SI;rw[hO]at vq Jz;obtain⟨m1,C0⟩:=aW (decide (O≠own):Bool);rw[hO,C0];apply aa.sq aB fw [3,4,5,6,7,11,13,14,31];simp[aiE];refine aa.cond rfl (λct=>?_) (λct=>?_)
   ·have ct:y<an.length:=by simpa using ct
    apply aa.skip;simp;apply aa.seq;apply aa.block;obtain⟨r,hr⟩:=aW (an.getD y default);have kO:y6 ⟨nt,nn,ns,an⟩ r:=hn.2.2.2 r (by rw[<-hr];exact bC ct);have rr:=jC ct;rw[hr]at rr;obtain⟨⟨ic,iz,ir,ig⟩,hI⟩:=aW (f5 ⟨nt,nn,ns,an⟩ ⟨ls,bl,bU⟩ ⟨cn,cs,cl⟩ O fr to y);apply aa.ai aB fw [3,4,5,6,7,11,13,14,15];simp[aiF,uP,hn,hl,hc,vq.ok,hI];refine⟨by omega,by omega,by omega, ?_⟩;refine aa.lk (o:=[(1400,.bJ 0 65 4 (aZ O))]) (l:=[(3,.v (ti fr)),(4,.v (ti to)),(5,.v (.box [ti nt,ti nn,ti ns,.sl (aQ an)])),(6,.v (.box [ti ls,.sl (ce bl),.sl (aD bU)])),(7,.v (.box [ti cn,ti cs,.sl (aZ cl)])),(11,.bE 1400 0),(13,.v (.bool m1)),(14,.v (ti y)),(15,.v (.box [ti ic,ti iz,ti ir,ti ig]))]) (aV:=4400) (by simp) ?_;obtain⟨rk,rh,ra,rb,rp,rg⟩:=r;obtain⟨q1,q2,q3,q4,q5⟩:=kO;simp only at q1 q2;obtain⟨rh,rfl⟩:=jm q1;have M3:rh<O.length:=by have:=vq.1;simp only at this;omega
    have rx:=iO M3;obtain⟨⟨xc,xs,xr,xg⟩,hx⟩:=aW (O.getD rh default);rw[hx]at rx;obtain⟨c1,bI⟩:=aW (decide ((⟨ic,iz,ir,ig⟩:Cell)≠⟨xc,xs,xr,xg⟩):Bool);refine aa.ci aB fw [(3,.v (ti fr)),(4,.v (ti to)),(5,.v (.box [ti nt,ti nn,ti ns,.sl (aQ an)])),(6,.v (.box [ti ls,.sl (ce bl),.sl (aD bU)])),(7,.v (.box [ti cn,ti cs,.sl (aZ cl)])),(11,.bE 1400 0),(13,.v (.bool m1)),(14,.v (ti y)),(15,.v (.box [ti ic,ti iz,ti ir,ti ig])),(52,.v (.bool c1))] ?_ ?_
    ·simp[aiG,ct,rr,dx.enc,M3,rx,Cell.enc];simp at bI;exact bI
    refine aa.cond rfl (λh5=>?_) (λh5=>?_)
    ·rw[h5]at bI;have bI:=p7 bI;have tf:tM ⟨nt,nn,ns,an⟩ ⟨ls,bl,bU⟩ ⟨cn,cs,cl⟩ fr to O y=O.set rh ⟨ic,iz,ir,ig⟩:=by unfold tM;simp only[hI,hr,iA]
     have si:fI ⟨nt,nn,ns,an⟩ ⟨ls,bl,bU⟩ ⟨cn,cs,cl⟩ fr to own (y+1)=O.set rh ⟨ic,iz,ir,ig⟩:=by rw[sh,hO,tf]
     have cj:¬fI ⟨nt,nn,ns,an⟩ ⟨ls,bl,bU⟩ ⟨cn,cs,cl⟩ fr to own (y+1)=own:=by
      intro e;have h4:=(hss O vq y ct).2 (by simp only[hI,hr,iA,hx];exact bI);rw[tf,<-si,e]at h4;rcases Jz with h|h
      ·rw[h.1]at h4;omega
      ·omega
     apply aa.dZ aB fw [3,4,5,6,7,11,13,14];simp[aiH,ct,rr,dx.enc,M3,rx,Cell.enc];apply aa.dZ aB fw [3,4,5,6,7,11,13,14];simp[XS];rw[aA (x:=(y:Int)+1) (by omega)];refine⟨y+1,Le.bi ?_ ?_ ?_ ?_,by omega,by omega⟩
     ·simp
     ·simp
     ·simp[si,y7,Cell.enc]
     ·simp;simpa using cj
    ·rw[h5]at bI;have bI:=Classical.not_not.1 (uO bI);have si:fI ⟨nt,nn,ns,an⟩ ⟨ls,bl,bU⟩ ⟨cn,cs,cl⟩ fr to own (y+1)=O:=by rw[sh,hO];unfold tM;simp only[hI,hr,iA];exact F5 (by rw[hx];exact bI)
     have cj:=C0;rw[<-si]at cj;apply aa.skip;simp;apply aa.dZ aB fw [3,4,5,6,7,11,13,14];simp[XS];rw[aA (x:=(y:Int)+1) (by omega)];refine⟨y+1,Le.bi ?_ ?_ ?_ ?_,by omega,by omega⟩
     ·simp
     ·simp
     ·simp[si,y7,Cell.enc]
     ·simp;simpa using cj
   ·have Ah:y=an.length:=by simp at ct;omega
    subst Ah;have Bu:=UC ((DT own hz1 _ (eF _)).2.imp And.left id) hf1 hf2;simp only[hO]at Bu;have Zj:2*mu O+(if m1 then 1 else 0)<2*mu own+1:=by
     by_cases e:O=own
     ·have DD:m1=false:=by rw[<-C0];simp[e]
      subst DD;rw[e];simp
     ·have:=(Bu.1 e).1;cases m1<;>simp<;>omega
    apply aa.exit;simp;refine⟨⟨O,m1⟩,Le.bi ?_ ?_ ?_ ?_,⟨vq,λh=>(Bu.1 (p7 (C0.trans h))).2,λh=>by have e:=Classical.not_not.1 (uO (C0.trans h));simp only;rw[e];exact Bu.2 e⟩,by simpa using Zj⟩;iterate 3(·simp)
    ·simp
  ·have hm:y8=false:=by simpa using hm
   subst hm;have hz3:=hz3 rfl;subst hz3;apply aa.exit;simp;apply aa.ai aB fw [10];simp[aiI];apply aa.ret;exact .inr ⟨1400,0,by simp,by simp⟩
end
section
variable{st nn:Int}{f:Nat}{cells:eO}
def AU(l:eO):jL.jT (aZ l).flatten=true:=by
 induction l with
 |nil=>rfl
 |cons x l ih=>simpa [aZ,Cell.enc,jL.jT,jL]using ih
def F9{k:Nat}(h:(k:Int)<=st)(hf:f<=k):pre st f<=pre st k:=by
 induction k with
 |zero=>
   obtain rfl:f=0:=by omega
   omega
 |succ k ih=>
  by_cases e:f=k+1
  ·subst e;omega
  ·have:=ih (by omega) (by omega);simp only[pre];omega
def Kd(st:Int):∀n:Nat,2*pre st n=n*(2*st-n+1)
 |0=>by simp[pre]
 |n+1=>by
  have:=Kd st n;simp only[pre];have e:2*(pre st n+st-n)=2*pre st n+2*st-2*n:=by omega
  rw[e,this]
  push_cast
  grind
def p8(h:0<=st):ia nn st=nn*pre st st.toNat:=by
 unfold ia;have h2:=Kd st st.toNat;rw[show((st.toNat:Nat):Int)=st by omega]at h2;have e:nn*st*(st+1)=2*(nn*pre st st.toNat):=by grind
 rw[e];omega
def AR{t:Nat}(h1:0<nn)(h3:(t:Int)<st)(h4:f<=t){i:Int}(hi:i<nn):dV nn st f t+i<ia nn st:=by
 rw[p8 (by omega)];have h5:=F9 (st:=st) (f:=f+1) (k:=st.toNat) (by omega) (by omega);simp only[pre]at h5;have h6:(pre st f+t-f+1)*nn<=pre st st.toNat*nn:=ZcB (by omega) (by omega);unfold dV;rw[Int.mul_comm nn];have:(pre st f+t-f+1)*nn=(pre st f+t-f)*nn+nn:=by grind
 omega
def rR(cells own:eO)(oi:Nat)(y:Nat):eO:=(List.range y).foldl (λcs i=>cs.set (oi+i) (own.getD i default)) cells
def tO(cells own:eO)(oi y:Nat):rR cells own oi (y+1)=(rR cells own oi y).set (oi+y) (own.getD y default):=by simp[rR,B3,yZ]
@[simp] def MX(cells own:eO)(oi y:Nat):(rR cells own oi y).length=cells.length:=by
 induction y with
 |zero=>rfl
 |succ y ih=>rw[tO,Zdu,ih]
def Zk{own:eO}{oi y:Nat}{x:Cell}(h:x∈rR cells own oi y)(hy:y<=own.length):x∈cells\/x∈own:=by
 induction y with
 |zero=>exact .inl h
 |succ y ih=>
  rw[tO]at h;rcases TG h with h|rfl
  ·exact ih h (by omega)
  ·exact .inr (bC (by omega))
def wG(n:aG)(l:aU)(len:Nat)(cells:eO)(f:Nat):eO:=
 rR cells (li n l ⟨n.au,l.bn,cells⟩ f ((f:Int)+len)) (dV n.au l.bn f (f+len)).toNat n.au.toNat
def MZ(n:aG)(l:aU)(cells:eO)(len:Nat):eO:=(List.range (l.bn.toNat-len)).foldl (wG n l len) cells
def jq(n:aG)(l:aU):eO:=(List.range l.bn.toNat).foldl (MZ n l) (List.replicate (ia n.au l.bn).toNat ⟨0,0,0,0⟩)
def uQ(n:aG)(l:aU):di:=⟨n.au,l.bn,jq n l⟩
abbrev s23:DM.Spec:=cK (λts=>∃n s:Int,ts=[ti n,ti s]/\0<=n/\n<=1000000/\0<=s/\s<=1000000) (fun|[.int _ n,.int _ s]=>ti (ia n s)|_=>.bool false) true
abbrev s24:DM.Spec:=C1 (λts=>∃nt nn ns an ls bl bU cn cs cl,∃fr to:Int,ts=[.agg [ti nt,ti nn,ti ns,.sl (aQ an)],.agg [ti ls,.sl (ce bl),.sl (aD bU)],.agg [ti cn,ti cs,.sl (aZ cl)],ti fr,ti to]/\
  xV ⟨nt,nn,ns,an⟩/\Bw ⟨ls,bl,bU⟩/\G0 ⟨cn,cs,cl⟩/\0<=fr/\fr<=to/\to<=1000)
 (fun|[n,l,c,.int _ fr,.int _ to]=>aZ (li (B8 n) (M4 l) (vA c) fr to)|_=>[]) 65 4
def okB:ay aj (bB [(54,s24),(53,s23),(55,s25)]):=by
 refine ay.W0 (ay.cons (ay.cons ay.nil ?_) ?_) ?_
 ·rintro ts ⟨n,st,f,t,rfl,h1,h2,h3,h4,h5,h6,h7⟩;obtain⟨f,rfl⟩:=jm h4;obtain⟨t,rfl⟩:=jm (a:=t) (by omega);exact⟨by simpa using t25 n st f t h1 h2 h3 h5 (by omega) (by omega),λ_=>rfl⟩
 ·rintro ts ⟨n,s,rfl,h1,h2,h3,h4⟩;exact⟨by simpa using t23 n s h1 h2 h3 h4,λ_=>rfl⟩
 ·rintro ts ⟨nt,nn,ns,an,ls,bl,bU,cn,cs,cl,fr,to,rfl,h1,h2,h3,h4,h5,h6⟩;obtain⟨fr,rfl⟩:=jm h4;obtain⟨to,rfl⟩:=jm (a:=to) (by omega);exact⟨by simpa [aG.enc,aU.enc,di.enc]using t24 ⟨nt,nn,ns,an⟩ ⟨ls,bl,bU⟩ ⟨cn,cs,cl⟩ fr to h1 h2 h3 (by omega) (by omega),AU _⟩
def Ga{n:aG}{l:aU}{c:di}{fr to:Nat}(hn:xV n)(hl:Bw l)(hc:G0 c)(vC:fr<=to)(g8:to<=1000):nD n (li n l c fr to):=
 (AQ hn hl hc vC g8 (λ_=>True) trivial λ_ _ _ _ _=>trivial).1
def jk(n:aG)(l:aU)(cells:eO):Prop:=(cells.length:Int)=ia n.au l.bn/\∀x∈cells,kc x.val
def jk.ok{n:aG}{l:aU}(hn:xV n)(hl:Bw l)(h:jk n l cells):G0 ⟨n.au,l.bn,cells⟩:=by
 have h1:=hn.1;have h2:=hn.2.1;have h3:=hl.1;have h4:=hl.2.1;refine⟨by simp only;omega,h2,by simp only;omega,h4, ?_,h.2⟩;have:=p8 (nn:=n.au) (st:=l.bn) (by omega);have hb:=(gU h4 l.bn.toNat (by omega));have:=fa (a:=n.au) (A:=1000) (b:=pre l.bn l.bn.toNat) (B:=1000000) (by omega) (by omega) hb.1 (by omega);have:=h.1;simp only;omega
def jk.step{n:aG}{l:aU}(hn:xV n)(hl:Bw l)(h:jk n l cells){len y:Nat}(vC:f+len<=1000)(hy:y<=n.au.toNat)(a:Nat):jk n l (rR cells (li n l ⟨n.au,l.bn,cells⟩ f ((f:Int)+len)) a y):=by
 have ho:=Ga hn hl (h.ok hn hl) (fr:=f) (to:=f+len) (by omega) vC;rw[show((f+len:Nat):Int)=(f:Int)+len by omega]at ho;refine⟨by rw[MX];exact h.1,λx hx=>?_⟩;rcases Zk hx (by have:=ho.1;omega)with hx|hx
 ·exact h.2 x hx
 ·exact(ho.2 x hx).1
def AS{n:aG}{l:aU}{cells:eO}(hn:xV n)(hl:Bw l)(h:jk n l cells){len:Nat}:∀k,(k+len:Nat)<=1001->jk n l ((List.range k).foldl (wG n l len) cells)
 |0,_=>h
 |k+1,hk=>by
  rw[B3,yZ];exact(AS hn hl h k (by omega)).step hn hl (by omega) (eF _) _
def Zl{n:aG}{l:aU}(hn:xV n)(hl:Bw l):jk n l (List.replicate (ia n.au l.bn).toNat ⟨0,0,0,0⟩):=by
 have h4:=hl.2.1;have hb:=(gU h4 l.bn.toNat (by have:=hl.1;omega));have:=ZcH (a:=n.au) (by have:=hn.1;omega) hb.1;have:=p8 (nn:=n.au) (st:=l.bn) (by have:=hl.1;omega);refine⟨by rw[ZbJ];omega,λx hx=>?_⟩;rw[ZbV hx];simp[kc]
def AN{n:aG}{l:aU}(hn:xV n)(hl:Bw l):∀k:Nat,(k:Int)<=l.bn->jk n l ((List.range k).foldl (MZ n l) (List.replicate (ia n.au l.bn).toNat ⟨0,0,0,0⟩)):=by
 intro k;induction k with
 |zero=>intro _;exact Zl hn hl
 |succ k ih=>
  intro hk;rw[B3,yZ];exact AS hn hl (ih (by omega)) _ (by have:=hl.2.1;omega)
def t11(n:aG)(l:aU)(hn:xV n)(hl:Bw l):bb aj 32 [n.enc,l.enc] (uQ n l).enc:=by
 obtain⟨R,hR⟩:=aW (jq n l);have zN:uQ n l=⟨n.au,l.bn,R⟩:=by rw[<-hR];rfl
 rw[zN];unfold jq at hR;have h0:=Zl hn hl;have ew:=AN hn hl;have iq:=λcells (h:jk n l cells) len=>AS hn hl h (len:=len);have tf:=λcells (h:jk n l cells) f len y=>h.step hn hl (f:=f) (len:=len) (y:=y);have aO:=λcells (h:jk n l cells)=>h.ok hn hl;obtain⟨nt,nn,ns,an⟩:=n;obtain⟨ls,bl,bU⟩:=l;have aB:=okB;have PU:1<=nn:=hn.1;have KZ:nn<=1000:=hn.2.1;have Uo:1<=ls:=hl.1;have yb:ls<=1000:=hl.2.1;simp only at hR h0 ew iq tf aO;have zX:0<=ia nn ls/\ia nn ls<=1000000000:=by
  have:=(aO _ h0).2.2.2.2.1;have:=h0.1;simp only at*
  have:=p8 (nn:=nn) (st:=ls) (by omega);have hb:=(gU yb ls.toNat (by omega));have:=fa (a:=nn) (A:=1000) (b:=pre ls ls.toNat) (B:=1000000) (by omega) (by omega) hb.1 (by omega);omega
 have aB:=okB;refine c11.ok (by simp) (aM ?_);simp[aG.enc,aU.enc,di.enc];apply aa.ai aB fw [2,3,4];simp[apa];refine aa.lk (o:=[(1005,.box [.v (ti 0),.v (ti 0),.bH])]) (l:=[(2,.v (.box [ti nt,ti nn,ti ns,.sl (aQ an)])),(3,.v (.box [ti ls,.sl (ce bl),.sl (aD bU)])),(4,.ptr 1005 0)]) (aV:=1200) (by simp) ?_;apply aa.ai aB fw [2,3,4,5];simp[apb,uP,du];repeat (refine⟨by omega, ?_⟩)
 refine aa.le (Le.bi (o:=[(1005,.box [.v (ti 0),.v (ti 0),.bH]),(1206,.box [.v (ti nn),.v (ti ls),.bE 1221 0]),(1221,.bJ 0 65 4 (aZ ((List.replicate (ia nn ls).toNat ⟨0,0,0,0⟩))))]) (l:=[(2,.v (.box [ti nt,ti nn,ti ns,.sl (aQ an)])),(3,.v (.box [ti ls,.sl (ce bl),.sl (aD bU)])),(4,.ptr 1005 0),(5,.ptr 1206 0)]) (aV:=1400) ?_ ?_ ?_ ?_) ?_
 ·simp
 ·simp
 ·simp[aZ,Cell.enc]
 ·simp
 apply aa.sq aB fw [2,3,4,5,6];simp[apc];apply aa.block;refine aa.loop (λa:Nat=>⟨DM.look [(2,.v (.box [ti nt,ti nn,ti ns,.sl (aQ an)])),(3,.v (.box [ti ls,.sl (ce bl),.sl (aD bU)])),(4,.ptr 1005 0),(5,.ptr 1206 0),(6,.v (ti a))],cF [(1005,.box [.v (ti 0),.v (ti 0),.bH]),(1206,.box [.v (ti nn),.v (ti ls),.bE 1221 0]),(1221,.bJ 0 65 4 (aZ ((List.range a).foldl (MZ ⟨nt,nn,ns,an⟩ ⟨ls,bl,bU⟩) (List.replicate (ia nn ls).toNat ⟨0,0,0,0⟩))))],2000,1000,[]⟩)
  (λa=>(a:Int)<=ls) (λa=>ls.toNat-a) 0 (Le.bi ?_ ?_ ?_ ?_) (by omega) (λa hy=>?_)
 iterate 4(·simp)
 obtain⟨A,hA⟩:=aW ((List.range a).foldl (MZ ⟨nt,nn,ns,an⟩ ⟨ls,bl,bU⟩) (List.replicate (ia nn ls).toNat ⟨0,0,0,0⟩));have hA1:=ew a hy;rw[hA]at hA1;rw[hA];apply aa.sq aB fw [2,3,4,5,6,25];simp[apd];refine aa.cond rfl (λct=>?_) (λct=>?_)
 ·have ct:(a:Int)<ls:=by simpa using ct
  apply aa.skip;simp;apply aa.seq;apply aa.block;apply aa.ai aB fw [2,3,4,5,6,7];simp[ape];apply aa.block;refine aa.loop (λb:Nat=>⟨DM.look [(2,.v (.box [ti nt,ti nn,ti ns,.sl (aQ an)])),(3,.v (.box [ti ls,.sl (ce bl),.sl (aD bU)])),(4,.ptr 1005 0),(5,.ptr 1206 0),(6,.v (ti a)),(7,.v (ti b))],cF [(1005,.box [.v (ti 0),.v (ti 0),.bH]),(1206,.box [.v (ti nn),.v (ti ls),.bE 1221 0]),(1221,.bJ 0 65 4 (aZ ((List.range b).foldl (wG ⟨nt,nn,ns,an⟩ ⟨ls,bl,bU⟩ a) A)))],3000,1000,[]⟩)
   (λb=>(b:Int)+a<=ls) (λb=>ls.toNat-a-b) 0 (Le.bi ?_ ?_ ?_ ?_) (by simp;omega) (λb hb=>?_)
  iterate 4(·simp)
  obtain⟨B,hB⟩:=aW ((List.range b).foldl (wG ⟨nt,nn,ns,an⟩ ⟨ls,bl,bU⟩ a) A);have hB1:=iq A hA1 a b (by omega);rw[hB]at hB1;rw[hB];apply aa.sq aB fw [2,3,4,5,6,7,33];simp[apf,aA (x:=(b:Int)+a) (by omega)];refine aa.cond rfl (λafb=>?_) (λafb=>?_)
  ·have afb:(b:Int)+a<ls:=by simpa using afb
   apply aa.skip;simp;apply aa.seq;apply aa.block;have w1:IntKind.i64.wrap ((b:Int)+a)=(b:Int)+a:=aA (by omega);obtain⟨own,ip⟩:=aW (li ⟨nt,nn,ns,an⟩ ⟨ls,bl,bU⟩ ⟨nn,ls,B⟩ b ((b:Int)+a));have asq:=aO B hB1;have hso:=Ga hn hl asq (fr:=b) (to:=b+a) (by omega) (by omega);rw[show((b+a:Nat):Int)=(b:Int)+a by omega,ip]at hso;have hol:(own.length:Int)=nn:=hso.1;refine aa.ko aB fw (rs:=XT) (.inr ⟨_,ji⟩) (by kernel_rfl) [2,3,4,5,6,7,8] ?_;simp[XT,uP,w1,hn,hl,asq,ip];repeat (refine⟨by omega, ?_⟩)
   refine aa.lk (o:=[(1005,.box [.v (ti 0),.v (ti 0),.bH]),(1206,.box [.v (ti nn),.v (ti ls),.bE 1221 0]),(1221,.bJ 0 65 4 (aZ (B)))]) (l:=[(2,.v (.box [ti nt,ti nn,ti ns,.sl (aQ an)])),(3,.v (.box [ti ls,.sl (ce bl),.sl (aD bU)])),(4,.ptr 1005 0),(5,.ptr 1206 0),(6,.v (ti a)),(7,.v (ti b)),(8,.v (.sl (aZ own)))]) (aV:=3400) (by simp) ?_;obtain⟨tN,dW⟩:=aW (dV nn ls b (b+a));have SF:=nh (n:=nn) (st:=ls) (f:=b) (t:=b+a) (by omega) KZ yb (by omega) (by omega) (by omega);have hix:=λ(i:Int) (hi:i<nn)=>AR (nn:=nn) (st:=ls) (f:=b) (t:=b+a) (by omega) (by omega) (by omega) hi;rw[dW]at SF hix;obtain⟨tN,rfl⟩:=jm SF.1;have e1:((b:Int)+a).toNat=b+a:=by omega
   have Zm:wG ⟨nt,nn,ns,an⟩ ⟨ls,bl,bU⟩ a B b=rR B own tN own.length:=by unfold wG;simp only[ip,dW,iA];rw[show nn.toNat=own.length by omega]
   apply aa.ai aB fw [2,3,4,5,6,7,8,9];simp[apg,uP,w1,e1,dW];repeat (refine⟨by omega, ?_⟩)
   apply aa.ai aB fw [2,3,4,5,6,7,8,9,10];simp[aph];apply aa.block;refine aa.loop (λy:Nat=>⟨DM.look [(2,.v (.box [ti nt,ti nn,ti ns,.sl (aQ an)])),(3,.v (.box [ti ls,.sl (ce bl),.sl (aD bU)])),(4,.ptr 1005 0),(5,.ptr 1206 0),(6,.v (ti a)),(7,.v (ti b)),(8,.v (.sl (aZ own))),(9,.v (ti tN)),(10,.v (ti y))],cF [(1005,.box [.v (ti 0),.v (ti 0),.bH]),(1206,.box [.v (ti nn),.v (ti ls),.bE 1221 0]),(1221,.bJ 0 65 4 (aZ (rR B own tN y)))],4000,1000,[]⟩)
    (λy=>y<=own.length) (λy=>own.length-y) 0 (Le.bi ?_ ?_ ?_ ?_) (by simp) (λy SI=>?_)
   ·simp
   ·simp
   ·simp[rR]
   ·simp
   apply aa.sq aB fw [2,3,4,5,6,7,8,9,10,56];simp[api];refine aa.cond rfl (λh9=>?_) (λh9=>?_)
   ·have h9:y<own.length:=by simpa using h9
    apply aa.skip;simp;apply aa.seq;apply aa.block;have ro:=iO h9;obtain⟨x,hx⟩:=aW (own.getD y default);rw[hx]at ro;have KX:(B.length:Int)=ia nn ls:=hB1.1;have eG:=hix y (by omega);have UD:tN+y<B.length:=by omega
    have rz:=iO (l:=rR B own tN y) (y:=tN+y) (by simpa using UD);rw[show((tN+y:Nat):Int)=(tN:Int)+y by omega]at rz;have e2:((tN:Int)+y).toNat=tN+y:=by omega
    have w2:IntKind.i64.wrap ((tN:Int)+y)=((tN+y:Nat):Int):=by rw[aA (by omega)];omega
    apply aa.dZ aB fw [2,3,4,5,6,7,8,9,10];simp[aiJ,w2,h9,ro,Cell.enc,UD,rz,e2];repeat (refine⟨by omega, ?_⟩)
    apply aa.dZ aB fw [2,3,4,5,6,7,8,9,10];simp[aiK];rw[aA (x:=(y:Int)+1) (by omega)];refine⟨y+1,Le.bi ?_ ?_ ?_ ?_,by omega,by omega⟩
    ·simp
    ·simp
    ·simp[tO,y7,-List.getD_eq_getElem?_getD,hx,Cell.enc]
    ·simp
   ·have Ah:y=own.length:=by simp at h9;omega
    subst Ah;apply aa.exit;simp;apply aa.dZ aB fw [2,3,4,5,6,7];simp[aiL];rw[aA (x:=(b:Int)+1) (by omega)];refine⟨b+1,Le.bi ?_ ?_ ?_ ?_,by omega,by omega⟩
    ·simp
    ·simp
    ·simp[B3,yZ,hB,Zm]
    ·simp
  ·have fA:b=ls.toNat-a:=by simp at afb;omega
   subst fA;apply aa.exit;simp;apply aa.dZ aB fw [2,3,4,5,6];simp[aiM];rw[aA (x:=(a:Int)+1) (by omega)];refine⟨a+1,Le.bi ?_ ?_ ?_ ?_,by omega,by omega⟩
   ·simp
   ·simp
   ·simp[B3,yZ,hA,MZ,hB]
   ·simp
 ·have fA:a=ls.toNat:=by simp at ct;omega
  subst fA;rw[hR]at hA;subst hA;apply aa.exit;simp;apply aa.ai aB fw [4];simp[aiN];apply aa.ret;simp[XU]
end
def GH(st:Int)(f:Nat):(f:Int)*st-((f:Int)*((f:Int)-1)).tdiv 2=pre st f:=by
 have h:=Kd st f;obtain⟨k,hk⟩:∃k:Nat,f*(f-1)=2*k:=by
  rcases(show(∃a,f=2*a)\/∃a,f=2*a+1 from by
   by_cases e:f % 2=0
   ·exact .inl ⟨f/2,by omega⟩
   ·exact .inr ⟨f/2,by omega⟩)with h|h
  ·obtain⟨a,rfl⟩:=h;exact⟨a*(2*a-1),by rw[Nat.mul_assoc]⟩
  ·obtain⟨a,rfl⟩:=h;exact⟨(2*a+1)*a,by rw[show 2*a+1-1=2*a by omega,Nat.mul_left_comm]⟩
 have wo:(f:Int)*((f:Int)-1)=2*(k:Int):=by
  cases f with
  |zero=>
    obtain rfl:k=0:=by omega
    simp
  |succ f=>rw[show f+1-1=f by omega]at hk;rw[show((f+1:Nat):Int)-1=(f:Int)by omega];exact_mod_cast hk
 rw[wo,show(2*(k:Int)).tdiv 2=k by rw[Al (by omega)];omega];have:(f:Int)*(2*st-f+1)=2*((f:Int)*st)-(f:Int)*((f:Int)-1):=by grind
 omega
def t64(c:di)(f t:Nat)(h1:0<=c.au)(h2:c.au<=1000)(h3:c.bn<=1000)(h4:(f:Int)<=c.bn)(h5:t<=1000)(h6:f<=t):bb aj 151 [c.enc,ti f,ti t] (ti (dV c.au c.bn f t)):=by
 obtain⟨cn,cs,cl⟩:=c;simp only at h1 h2 h3 h4;have hb:=gU h3 f h4;have hc:=GH cs f;have b1:=fa (a:=(f:Int)) (A:=1000) (b:=cs) (B:=1000) (by omega) (by omega) (by omega) h3;have b2:=fa (a:=(f:Int)) (A:=1000) (b:=(f:Int)) (B:=1000) (by omega) (by omega) (by omega) (by omega);have hff:(f:Int)*((f:Int)-1)=(f:Int)*f-f:=by grind
 have ak1:0<=(f:Int)*((f:Int)-1)/\(f:Int)*((f:Int)-1)<=1000000:=by
  refine⟨?_,by omega⟩;cases f with
  |zero=>simp
  |succ f=>exact ZcH (by omega) (by omega)
 obtain⟨P,hP⟩:=aW (pre cs f);rw[hP]at hb hc;have hq:((f:Int)*((f:Int)-1)).tdiv 2=(f:Int)*((f:Int)-1)/2:=Al ak1.1;have b3:=fa (a:=P+t-f) (A:=2000000) (b:=cn) (B:=1000) (by omega) (by omega) h1 h2;have m1:IntKind.i64.wrap ((f:Int)*cs)=(f:Int)*cs:=aA (by omega);have m2:IntKind.i64.wrap ((f:Int)-1)=(f:Int)-1:=aA (by omega);have m3:IntKind.i64.wrap ((f:Int)*((f:Int)-1))=(f:Int)*((f:Int)-1):=aA (by omega);have m4:IntKind.i64.wrap (((f:Int)*((f:Int)-1)).tdiv 2)=((f:Int)*((f:Int)-1)).tdiv 2:=by rw[hq];exact aA (by omega)
 have m5:IntKind.i64.wrap ((f:Int)*cs-((f:Int)*((f:Int)-1)).tdiv 2)=P:=by rw[hc];exact aA (by omega)
 have m6:IntKind.i64.wrap (P+t)=P+t:=aA (by omega);have m7:IntKind.i64.wrap (P+t-f)=P+t-f:=aA (by omega);have m8:IntKind.i64.wrap ((P+t-f)*cn)=dV cn cs f t:=by unfold dV;rw[hP];exact aA (by omega)
 have aB:=cR;refine c64.ok (by simp) (aM ?_);simp[di.enc];apply aa.ai aB fw [1,2,3];simp[apj];refine aa.lk (o:=[]) (l:=[(1,.v (ti f)),(2,.v (ti t)),(3,.v (.box [ti cn,ti cs,.sl (aZ cl)]))]) (aV:=1200) (by simp) ?_;apply aa.ai aB fw [1,2,3,7];simp[apk,m1,m2,m3,m4,m5];apply aa.ai aB fw [6];simp[apl,m6,m7,m8];apply aa.ret;simp[dw]
def Bm(c:di):Prop:=1<=c.au/\c.au<=1000/\1<=c.bn/\c.bn<=1000/\(c.cells.length:Int)=ia c.au c.bn
abbrev s64:DM.Spec:=cK (λts=>∃cn cs cl,∃f t:Int,ts=[.agg [ti cn,ti cs,.sl (aZ cl)],ti f,ti t]/\0<=cn/\cn<=1000/\cs<=1000/\0<=f/\f<=cs/\t<=1000/\f<=t) (fun|[.agg [.int _ n,.int _ st,_],.int _ f,.int _ t]=>ti (dV n st f.toNat t.toNat)|_=>.bool false) true
def axz:ay aj (bB [(151,s64)]):=by
 refine ay.cons ay.nil ?_;rintro ts ⟨cn,cs,cl,f,t,rfl,h1,h2,h3,h4,h5,h6,h7⟩;obtain⟨f,rfl⟩:=jm h4;obtain⟨t,rfl⟩:=jm (a:=t) (by omega);exact⟨by simpa [di.enc]using t64 ⟨cn,cs,cl⟩ f t h1 h2 h3 h5 (by omega) (by omega),λ_=>rfl⟩
def t37(c:di)(h f t:Int)(hc:Bm c):bb aj 144 [c.enc,.agg [ti h,ti f,ti t]] (.agg (F3 c h f t).enc):=by
 obtain⟨cn,cs,cl⟩:=c;obtain⟨k1,k2,k3,k4,k5⟩:=hc;simp only at k1 k2 k3 k4 k5;obtain⟨R,hR⟩:=aW (F3 ⟨cn,cs,cl⟩ h f t);rw[hR];unfold F3 at hR;simp only at hR;have aB:=axz;refine c37.ok (by simp) (aM ?_);simp[di.enc];apply aa.ai aB fw [2,3,4];simp[XV];refine aa.lk (o:=[(1005,.box [.v (ti 0),.v (ti 0),.v (ti 0),.v (ti 0)])]) (l:=[(2,.v (.box [ti cn,ti cs,.sl (aZ cl)])),(3,.v (.box [ti h,ti f,ti t])),(4,.ptr 1005 0)]) (aV:=1200) (by simp) ?_;apply aa.seq;obtain⟨c1,bI⟩:=aW (decide (h<0\/h>=cn\/f<0\/t<f\/t>=cs):Bool);refine aa.ci aB fw [(2,.v (.box [ti cn,ti cs,.sl (aZ cl)])),(3,.v (.box [ti h,ti f,ti t])),(4,.ptr 1005 0),(35,.v (.bool c1))] ?_ ?_
 ·by_cases q1:h<0
  ·have:c1=true:=by rw[<-bI];simp[q1]
   simp[Dg,q1,this]
  ·skip
   by_cases q2:h>=cn
   ·have:c1=true:=by rw[<-bI];simp[q2]
    simp[Dg,q1,q2,this]
   ·skip
    by_cases q3:f<0
    ·have:c1=true:=by rw[<-bI];simp[q3]
     simp[Dg,q1,q2,q3,this]
    ·skip
     by_cases q4:t<f
     ·have:c1=true:=by rw[<-bI];simp[q4]
      simp[Dg,q1,q2,q3,q4,this]
     ·skip
      by_cases q5:t>=cs
      ·have:c1=true:=by rw[<-bI];simp[q5]
       simp[Dg,q1,q2,q3,q4,q5,this]
      ·skip
       have:c1=false:=by rw[<-bI];simp[q1,q2,q3,q4,q5]
       simp[Dg,q1,q2,q3,q4,q5,this]
 refine aa.cond rfl (λg1=>?_) (λg1=>?_)
 ·rw[g1]at bI;rw[cG (p7 bI)]at hR;subst hR;apply aa.ai aB fw [4];simp[XW];apply aa.ret;simp[B4,jW,Cell.enc]
 ·rw[g1]at bI;have bI:=uO bI;rw[bj bI]at hR;obtain⟨f,rfl⟩:=jm (a:=f) (by omega);obtain⟨t,rfl⟩:=jm (a:=t) (by omega);simp only[iA]at hR;have eG:=AR (nn:=cn) (st:=cs) (f:=f) (t:=t) (by omega) (by omega) (by omega) (i:=h) (by omega);have SF:=gU k4 f (by omega);have hcp:=p8 (nn:=cn) (st:=cs) (by omega);have hpn:pre cs 1<=pre cs cs.toNat:=F9 (by omega) (by omega);have hp1:pre cs 1=cs:=by simp[pre]
  have C0:cn*cs<=cn*pre cs cs.toNat:=Zc8 (by omega) (by omega);have DD:cn*1<=cn*cs:=Zc8 (by omega) (by omega);have hm3:1*cs<=cn*cs:=ZcB (by omega) (by omega);have hi0:0<=dV cn cs f t:=by unfold dV;exact ZcH (by omega) (by omega)
  obtain⟨I,hI⟩:=aW (dV cn cs f t);rw[hI]at eG hi0 hR;obtain⟨i,hi⟩:=jm (a:=I+h) (by omega);rw[hi]at hR;have B0:i<cl.length:=by omega
  have ba:cl.length<=1000000000000:=by
   have hb:=gU k4 cs.toNat (by omega);have:=fa (a:=cn) (A:=1000) (b:=pre cs cs.toNat) (B:=1000000) (by omega) (by omega) hb.1 (by omega);omega
  apply aa.skip;simp;apply aa.ai aB fw [2,3,4,5];simp[XX];apply aa.seq;have q1:¬(t:Int)>cl.length:=by omega
  have q2:¬cs>cl.length:=by omega
  have q3:¬cn>cl.length:=by omega
  have q4:¬h>=cl.length:=by omega
  have q1n:¬cl.length<t:=by omega
  refine aa.ci aB fw [(2,.v (.box [ti cn,ti cs,.sl (aZ cl)])),(3,.v (.box [ti h,ti f,ti t])),(4,.ptr 1005 0),(5,.v (ti cl.length)),(71,.v (.bool false))] ?_ ?_
  ·by_cases z1:0<f
   ·by_cases z2:0<t
    ·simp[HW,q1,q1n,q2,q3,q4,z1,z2]
    ·simp[HW,q1,q1n,q2,q3,q4,z1,z2]
   ·by_cases z2:0<t
    ·simp[HW,q1,q1n,q2,q3,q4,z1,z2]
    ·simp[HW,q1,q1n,q2,q3,q4,z1,z2]
  refine aa.cond rfl (λg4=>?_) (λg4=>?_)
  ·exact eK g4 (by simp)
  ·apply aa.skip;simp;apply aa.ai aB fw [2,4,5,6];simp[XY,uP,hI,hi,aA (x:=(i:Int)) (by omega)];repeat (refine⟨by omega, ?_⟩)
   apply aa.sq aB fw [2,4,6,84];simp[apm];refine aa.cond rfl (λg7=>?_) (λg7=>?_)
   ·exact eK g7 (by simp;omega)
   ·apply aa.skip;simp;have rr:=iO B0;have zN:cl.getD i default=R:=by rw[<-hR];simp[List.getD,B0]
    rw[zN]at rr;obtain⟨rc,rz,rr1,ra⟩:=R;apply aa.ai aB fw [4];simp[apn,B0,rr,Cell.enc];apply aa.ret;simp[B4]
def kindOk(n:aG)(r:dx):Prop:=
 if r.kind=1 then r.a=0/\r.b=0 else if r.kind=2 then r.a>=0/\r.a<n.aN/\r.b=0 else if r.kind=3 then r.a>=0/\r.a<n.au/\r.b=0
 else if r.kind=4 then r.a>=0/\r.a<n.au/\r.b>=0/\r.b<n.au else False
instance(n:aG)(r:dx):Decidable (kindOk n r):=by unfold kindOk;infer_instance
def iu(n:aG)(r:dx):Prop:=¬(r.head<0\/r.head>=n.au\/r.cM<0\/r.cM>1000\/r.origin< -1)
instance(n:aG)(r:dx):Decidable (iu n r):=by unfold iu;infer_instance
def py(n:aG):Prop:=¬(n.aN<0\/n.aN>120\/n.au<1\/n.au>1000\/n.start<0\/n.start>=n.au\/(n.an.length:Int)>600)
instance(n:aG):Decidable (py n):=by unfold py;infer_instance
def ed(n:aG):Prop:=py n/\∀i,i<n.an.length->iu n (n.an.getD i default)/\kindOk n (n.an.getD i default)
instance(n:aG):Decidable (ed n):=by unfold ed;infer_instance
def ed.ok{n:aG}(h:ed n):xV n:=by
 obtain⟨h1,h2⟩:=h;unfold py at h1;refine⟨by omega,by omega,by omega,λr hr=>?_⟩;obtain⟨i,hi,rfl⟩:=HS hr;obtain⟨h3,h4⟩:=h2 i hi;rw[show n.an.getD i default=n.an[i]by simp[List.getD,hi]]at h3 h4;unfold iu at h3;unfold kindOk at h4;unfold y6;refine⟨by omega,by omega,by omega,by omega, ?_⟩;split at h4
 ·exact .inl (by assumption)
 ·split at h4
  ·exact .inr (.inl ⟨by assumption,by omega,by omega⟩)
  ·split at h4
   ·exact .inr (.inr (.inl ⟨by assumption,by omega,by omega⟩))
   ·split at h4
    ·exact .inr (.inr (.inr ⟨by assumption,by omega,by omega,by omega,by omega⟩))
    ·exact h4.elim
def t20(n:aG)(hl:n.an.length<=9223372036854775807):bb aj 34 [n.enc] (.bool (decide (ed n))):=by
 obtain⟨nt,nn,ns,an⟩:=n;obtain⟨v,hv⟩:=aW (decide (ed ⟨nt,nn,ns,an⟩));rw[hv];simp only at hl;have dv:ed ⟨nt,nn,ns,an⟩↔py ⟨nt,nn,ns,an⟩/\∀i,i<an.length->iu ⟨nt,nn,ns,an⟩ (an.getD i default)/\kindOk ⟨nt,nn,ns,an⟩ (an.getD i default):=Iff.rfl;have dm:¬ed ⟨nt,nn,ns,an⟩->v=false:=λh=>by rw[<-hv];simp[h]
 have aB:=cR;refine c20.ok (by simp) (aM ?_);simp[aG.enc];apply aa.ai aB fw [1];simp[aok];refine aa.lk (o:=[]) (l:=[(1,.v (.box [ti nt,ti nn,ti ns,.sl (aQ an)]))]) (aV:=1200) (by simp) ?_;apply aa.seq;obtain⟨c1,bI⟩:=aW (decide (nt<0\/nt>120\/nn<1\/nn>1000\/ns<0\/ns>=nn\/(an.length:Int)>600):Bool);refine aa.ci aB fw [(1,.v (.box [ti nt,ti nn,ti ns,.sl (aQ an)])),(41,.v (.bool c1))] ?_ ?_
 ·by_cases q1:nt<0
  ·have:c1=true:=by rw[<-bI];simp[q1]
   simp[Df,q1,this]
  ·skip
   by_cases q2:nt>120
   ·have:c1=true:=by rw[<-bI];simp[q2]
    simp[Df,q1,q2,this]
   ·skip
    by_cases q3:nn<1
    ·have:c1=true:=by rw[<-bI];simp[q3]
     simp[Df,q1,q2,q3,this]
    ·skip
     by_cases q4:nn>1000
     ·have:c1=true:=by rw[<-bI];simp[q4]
      simp[Df,q1,q2,q3,q4,this]
     ·skip
      by_cases q5:ns<0
      ·have:c1=true:=by rw[<-bI];simp[q5]
       simp[Df,q1,q2,q3,q4,q5,this]
      ·skip
       by_cases q6:ns>=nn
       ·have:c1=true:=by rw[<-bI];simp[q6]
        simp[Df,q1,q2,q3,q4,q5,q6,this]
       ·skip
        by_cases q7:(an.length:Int)>600
        ·have:c1=true:=by rw[<-bI];simp[q7]
         simp[Df,q1,q2,q3,q4,q5,q6,q7,this]
        ·skip
         have:c1=false:=by rw[<-bI];simp[q1,q2,q3,q4,q5,q6,q7]
         simp[Df,q1,q2,q3,q4,q5,q6,q7,this]
 refine aa.cond rfl (λh1=>?_) (λh1=>?_)
 ·rw[h1]at bI;have bI:=p7 bI;apply aa.ai aB fw [2];simp[aol];apply aa.ret;rw[dm λh=>(dv.1 h).1 bI];simp[dw]
 ·rw[h1]at bI;have bI:=uO bI;apply aa.skip;simp;apply aa.sq aB fw [1,3];simp[aom];apply aa.block;refine aa.loop (λy:Nat=>⟨DM.look [(1,.v (.box [ti nt,ti nn,ti ns,.sl (aQ an)])),(3,.v (ti y))],cF [],2000,1000,[]⟩)
   (λy=>y<=an.length/\∀i,i<y->iu ⟨nt,nn,ns,an⟩ (an.getD i default)/\kindOk ⟨nt,nn,ns,an⟩ (an.getD i default)) (λy=>an.length-y) 0 (Le.bi (o:=[]) ?_ ?_ ?_ ?_) (by simp) (λy hy=>?_)
  iterate 4(·simp)
  obtain⟨mq,fA⟩:=hy;apply aa.sq aB fw [1,3,46];simp[aon];refine aa.cond rfl (λct=>?_) (λct=>?_)
  ·have ct:y<an.length:=by simpa using ct
   apply aa.skip;simp;apply aa.seq;apply aa.block;have rr:=jC ct;obtain⟨⟨rk,rh,ra,rb,rp,rg⟩,hr⟩:=aW (an.getD y default);rw[hr]at rr;apply aa.ai aB fw [1,3,4];simp[aoo,ct,rr,dx.enc];refine aa.lk (o:=[]) (l:=[(1,.v (.box [ti nt,ti nn,ti ns,.sl (aQ an)])),(3,.v (ti y)),(4,.v (.box [ti rk,ti rh,ti ra,ti rb,ti rp,ti rg]))]) (aV:=2400) (by simp) ?_;apply aa.seq;obtain⟨c2,fW⟩:=aW (decide (rh<0\/rh>=nn\/rp<0\/rp>1000\/rg< -1):Bool);refine aa.ci aB fw [(1,.v (.box [ti nt,ti nn,ti ns,.sl (aQ an)])),(3,.v (ti y)),(4,.v (.box [ti rk,ti rh,ti ra,ti rb,ti rp,ti rg])),(78,.v (.bool c2))] ?_ ?_
   ·by_cases q1:rh<0
    ·have:c2=true:=by rw[<-fW];simp[q1]
     simp[HU,q1,this]
    ·skip
     by_cases q2:rh>=nn
     ·have:c2=true:=by rw[<-fW];simp[q2]
      simp[HU,q1,q2,this]
     ·skip
      by_cases q3:rp<0
      ·have:c2=true:=by rw[<-fW];simp[q3]
       simp[HU,q1,q2,q3,this]
      ·skip
       by_cases q4:rp>1000
       ·have:c2=true:=by rw[<-fW];simp[q4]
        simp[HU,q1,q2,q3,q4,this]
       ·skip
        by_cases q5:rg< -1
        ·have:c2=true:=by rw[<-fW];simp[q5]
         simp[HU,q1,q2,q3,q4,q5,this]
        ·skip
         have:c2=false:=by rw[<-fW];simp[q1,q2,q3,q4,q5]
         simp[HU,q1,q2,q3,q4,q5,this]
   refine aa.cond rfl (λh2=>?_) (λh2=>?_)
   ·rw[h2]at fW;have fW:=p7 fW;apply aa.ai aB fw [2];simp[aop];apply aa.ret;rw[dm λh=>((dv.1 h).2 y ct).1 (by rw[hr];exact fW)];simp[dw]
   ·rw[h2]at fW;have fW:iu ⟨nt,nn,ns,an⟩ ⟨rk,rh,ra,rb,rp,rg⟩:=uO fW;apply aa.skip;simp;obtain⟨k1,rH⟩:=aW (decide (kindOk ⟨nt,nn,ns,an⟩ ⟨rk,rh,ra,rb,rp,rg⟩):Bool);have DJ:=rH;have rH:k1=true↔kindOk ⟨nt,nn,ns,an⟩ ⟨rk,rh,ra,rb,rp,rg⟩:=by rw[<-DJ,decide_eq_true_iff]
    simp only[kindOk]at rH;apply aa.ai aB fw [1,3,4,5];simp[aoq];apply aa.sq aB fw [1,3,4,5,80];simp[aor];apply aa.block;apply aa.ai aB fw [1,3,4,5,80,81];simp[aip];refine aa.cond rfl (λg1=>?_) (λg1=>?_)
    ·have g1:rk=1:=by simpa using g1
     rw[cG g1]at rH;have wo:decide (ra=0/\rb=0)=k1:=by cases k1<;>simp at rH⊢<;>first|exact rH|omega
     refine aa.JF aB fw [(1,.v (.box [ti nt,ti nn,ti ns,.sl (aQ an)])),(3,.v (ti y)),(5,.v (.bool k1))] ?_ ?_
     ·by_cases q1:ra=0
      ·skip
       by_cases q2:rb=0
       ·skip
        have:k1=true:=by rw[<-wo];simp[q1,q2]
        simp[Pz,q1,q2,this]
       ·have:k1=false:=by rw[<-wo];simp[q2]
        simp[Pz,q1,q2,this]
      ·have:k1=false:=by rw[<-wo];simp[q1]
       simp[Pz,q1,this]
     apply aa.ai aB fw [1,3,150];simp[FK];refine aa.cond rfl (λh5=>?_) (λh5=>?_)
     ·skip
      apply aa.ai aB fw [2];simp[FL];apply aa.ret;rw[dm λh=>by
       have h6:=((dv.1 h).2 y ct).2;rw[hr]at h6;rw[decide_eq_true h6]at DJ
       simp_all]
      simp[dw]
     ·skip
      apply aa.skip;simp;have rH:kindOk ⟨nt,nn,ns,an⟩ ⟨rk,rh,ra,rb,rp,rg⟩:=p7 (by rw[DJ];simp_all);apply aa.dZ aB fw [1,3];simp[FM];rw[aA (x:=(y:Int)+1) (by omega)];refine⟨y+1,Le.bi (o:=[]) ?_ ?_ ?_ ?_,⟨by omega,λi hi=>?_⟩,by omega⟩;iterate 4(·simp)
      ·by_cases e:i=y
       ·subst e;show iu _ (an.getD i default)/\kindOk _ (an.getD i default);rw[hr];exact⟨fW,rH⟩
       ·exact fA i (by omega)
    ·have g1:¬rk=1:=by simpa using g1
     rw[bj g1]at rH;apply aa.ai aB fw [1,3,4,5,80,91];simp[aiq];refine aa.cond rfl (λg2=>?_) (λg2=>?_)
     ·have g2:rk=2:=by simpa using g2
      rw[cG g2]at rH;have wo:decide (ra>=0/\ra<nt/\rb=0)=k1:=by cases k1<;>simp at rH⊢<;>first|exact rH|omega
      refine aa.JF aB fw [(1,.v (.box [ti nt,ti nn,ti ns,.sl (aQ an)])),(3,.v (ti y)),(5,.v (.bool k1))] ?_ ?_
      ·by_cases q1:ra>=0
       ·skip
        by_cases q2:ra<nt
        ·skip
         by_cases q3:rb=0
         ·skip
          have:k1=true:=by rw[<-wo];simp[q1,q2,q3]
          simp[JO,q1,q2,q3,this]
         ·have:k1=false:=by rw[<-wo];simp[q3]
          simp[JO,q1,q2,q3,this]
        ·have:k1=false:=by rw[<-wo];simp[q2]
         simp[JO,q1,q2,this]
       ·have:k1=false:=by rw[<-wo];simp[q1]
        simp[JO,q1,this]
      apply aa.ai aB fw [1,3,150];simp[FK];refine aa.cond rfl (λh5=>?_) (λh5=>?_)
      ·skip
       apply aa.ai aB fw [2];simp[FL];apply aa.ret;rw[dm λh=>by
        have h6:=((dv.1 h).2 y ct).2;rw[hr]at h6;rw[decide_eq_true h6]at DJ
        simp_all]
       simp[dw]
      ·skip
       apply aa.skip;simp;have rH:kindOk ⟨nt,nn,ns,an⟩ ⟨rk,rh,ra,rb,rp,rg⟩:=p7 (by rw[DJ];simp_all);apply aa.dZ aB fw [1,3];simp[FM];rw[aA (x:=(y:Int)+1) (by omega)];refine⟨y+1,Le.bi (o:=[]) ?_ ?_ ?_ ?_,⟨by omega,λi hi=>?_⟩,by omega⟩;iterate 4(·simp)
       ·by_cases e:i=y
        ·subst e;show iu _ (an.getD i default)/\kindOk _ (an.getD i default);rw[hr];exact⟨fW,rH⟩
        ·exact fA i (by omega)
     ·have g2:¬rk=2:=by simpa using g2
      rw[bj g2]at rH;apply aa.ai aB fw [1,3,4,5,80,108];simp[air];refine aa.cond rfl (λg3=>?_) (λg3=>?_)
      ·have g3:rk=3:=by simpa using g3
       rw[cG g3]at rH;have wo:decide (ra>=0/\ra<nn/\rb=0)=k1:=by cases k1<;>simp at rH⊢<;>first|exact rH|omega
       refine aa.JF aB fw [(1,.v (.box [ti nt,ti nn,ti ns,.sl (aQ an)])),(3,.v (ti y)),(5,.v (.bool k1))] ?_ ?_
       ·by_cases q1:ra>=0
        ·skip
         by_cases q2:ra<nn
         ·skip
          by_cases q3:rb=0
          ·skip
           have:k1=true:=by rw[<-wo];simp[q1,q2,q3]
           simp[JP,q1,q2,q3,this]
          ·have:k1=false:=by rw[<-wo];simp[q3]
           simp[JP,q1,q2,q3,this]
         ·have:k1=false:=by rw[<-wo];simp[q2]
          simp[JP,q1,q2,this]
        ·have:k1=false:=by rw[<-wo];simp[q1]
         simp[JP,q1,this]
       apply aa.ai aB fw [1,3,150];simp[FK];refine aa.cond rfl (λh5=>?_) (λh5=>?_)
       ·skip
        apply aa.ai aB fw [2];simp[FL];apply aa.ret;rw[dm λh=>by
         have h6:=((dv.1 h).2 y ct).2;rw[hr]at h6;rw[decide_eq_true h6]at DJ
         simp_all]
        simp[dw]
       ·skip
        apply aa.skip;simp;have rH:kindOk ⟨nt,nn,ns,an⟩ ⟨rk,rh,ra,rb,rp,rg⟩:=p7 (by rw[DJ];simp_all);apply aa.dZ aB fw [1,3];simp[FM];rw[aA (x:=(y:Int)+1) (by omega)];refine⟨y+1,Le.bi (o:=[]) ?_ ?_ ?_ ?_,⟨by omega,λi hi=>?_⟩,by omega⟩;iterate 4(·simp)
        ·by_cases e:i=y
         ·subst e;show iu _ (an.getD i default)/\kindOk _ (an.getD i default);rw[hr];exact⟨fW,rH⟩
         ·exact fA i (by omega)
      ·have g3:¬rk=3:=by simpa using g3
       rw[bj g3]at rH;apply aa.ai aB fw [1,3,4,5,125];simp[ais];refine aa.cond rfl (λg4=>?_) (λg4=>?_)
       ·have g4:rk=4:=by simpa using g4
        rw[cG g4]at rH;have wo:decide (ra>=0/\ra<nn/\rb>=0/\rb<nn)=k1:=by cases k1<;>simp at rH⊢<;>first|exact rH|omega
        refine aa.JF aB fw [(1,.v (.box [ti nt,ti nn,ti ns,.sl (aQ an)])),(3,.v (ti y)),(5,.v (.bool k1))] ?_ ?_
        ·by_cases q1:ra>=0
         ·skip
          by_cases q2:ra<nn
          ·skip
           by_cases q3:rb>=0
           ·skip
            by_cases q4:rb<nn
            ·skip
             have:k1=true:=by rw[<-wo];simp[q1,q2,q3,q4]
             simp[FJ,q1,q2,q3,q4,this]
            ·have:k1=false:=by rw[<-wo];simp[q4]
             simp[FJ,q1,q2,q3,q4,this]
           ·have:k1=false:=by rw[<-wo];simp[q3]
            simp[FJ,q1,q2,q3,this]
          ·have:k1=false:=by rw[<-wo];simp[q2]
           simp[FJ,q1,q2,this]
         ·have:k1=false:=by rw[<-wo];simp[q1]
          simp[FJ,q1,this]
        apply aa.ai aB fw [1,3,150];simp[FK];refine aa.cond rfl (λh5=>?_) (λh5=>?_)
        ·skip
         apply aa.ai aB fw [2];simp[FL];apply aa.ret;rw[dm λh=>by
          have h6:=((dv.1 h).2 y ct).2;rw[hr]at h6;rw[decide_eq_true h6]at DJ
          simp_all]
         simp[dw]
        ·skip
         apply aa.skip;simp;have rH:kindOk ⟨nt,nn,ns,an⟩ ⟨rk,rh,ra,rb,rp,rg⟩:=p7 (by rw[DJ];simp_all);apply aa.dZ aB fw [1,3];simp[FM];rw[aA (x:=(y:Int)+1) (by omega)];refine⟨y+1,Le.bi (o:=[]) ?_ ?_ ?_ ?_,⟨by omega,λi hi=>?_⟩,by omega⟩;iterate 4(·simp)
         ·by_cases e:i=y
          ·subst e;show iu _ (an.getD i default)/\kindOk _ (an.getD i default);rw[hr];exact⟨fW,rH⟩
          ·exact fA i (by omega)
       ·have g4:¬rk=4:=by simpa using g4
        rw[bj g4]at rH;have wo:k1=false:=by cases k1<;>simp at rH⊢
        rw[wo]at DJ;apply aa.skip;simp;apply aa.ai aB fw [1,3,150];simp[FK];refine aa.cond rfl (λh5=>?_) (λh5=>?_)
        ·skip
         apply aa.ai aB fw [2];simp[FL];apply aa.ret;rw[dm λh=>by
          have h6:=((dv.1 h).2 y ct).2;rw[hr]at h6;rw[decide_eq_true h6]at DJ
          simp_all]
         simp[dw]
        ·skip
         apply aa.skip;simp;have rH:kindOk ⟨nt,nn,ns,an⟩ ⟨rk,rh,ra,rb,rp,rg⟩:=p7 (by rw[DJ];simp_all);apply aa.dZ aB fw [1,3];simp[FM];rw[aA (x:=(y:Int)+1) (by omega)];refine⟨y+1,Le.bi (o:=[]) ?_ ?_ ?_ ?_,⟨by omega,λi hi=>?_⟩,by omega⟩;iterate 4(·simp)
         ·by_cases e:i=y
          ·subst e;show iu _ (an.getD i default)/\kindOk _ (an.getD i default);rw[hr];exact⟨fW,rH⟩
          ·exact fA i (by omega)
  ·have SI:y=an.length:=by simp at ct;omega
   subst SI;apply aa.exit;simp;apply aa.ai aB fw [2];simp[ait];apply aa.ret;have:v=true:=by rw[<-hv];exact decide_eq_true (dv.2 ⟨bI,fA⟩)
   rw[this];simp[dw]
structure bO where
 head:Int
 dR:bY
 (aH l0 l1:Int)
 deriving DecidableEq,Inhabited
def bO.enc(e:bO):aK:=[ti e.head,.sl (aD e.dR),ti e.aH,ti e.l0,ti e.l1]
def bA(l:List bO):List (aK):=l.map bO.enc
def Zn:aK->bO
 |[a,.sl b,c,d,e]=>⟨d0 a,nj b,d0 c,d0 d,d0 e⟩
 |_=>default
def Gf(l:List (aK)):List bO:=l.map Zn
@[simp] def UE(r:bO):Zn r.enc=r:=by simp[Zn,bO.enc,d0]
@[simp] def ajt(l:List bO):Gf (bA l)=l:=ib UE l
@[simp] def agX(l:List bO):(bA l).length=l.length:=by simp[bA]
@[simp] def agY{a b:List bO}:bA a=bA b↔a=b:=⟨λh=>by have:=congrArg Gf h;simpa using this,λh=>by rw[h]⟩
def kZ{l:List bO}{y:Nat}(h:y<l.length):DM.rowAt (bA l) y=(l.getD y default).enc:=by simp[DM.rowAt,bA,h]
def ke(r:dx):bY:=if r.kind=3 then [r.a]else if r.kind=4 then [r.a,r.b]else []
def t93(r:dx):bb aj 98 [.agg r.enc] (.sl (aD (ke r))):=by
 obtain⟨rk,rh,ra,rb,rp,rg⟩:=r;obtain⟨R,hR⟩:=aW (ke ⟨rk,rh,ra,rb,rp,rg⟩);rw[hR];simp only[ke]at hR;have aB:=cR;refine c93.ok (by simp) (aM ?_);simp[dx.enc];apply aa.ai aB fw [1];simp[anO];refine aa.lk (o:=[]) (l:=[(1,.v (.box [ti rk,ti rh,ti ra,ti rb,ti rp,ti rg]))]) (aV:=1200) (by simp) ?_;apply aa.sq aB fw [1,4];simp[anP];apply aa.block;apply aa.ai aB fw [1,4,5];simp[anQ];refine aa.cond rfl (λh1=>?_) (λh1=>?_)
 ·have h1:rk=3:=by simpa using h1
  rw[cG h1]at hR;subst hR;apply aa.ai aB fw [2];simp[anR,eX];apply aa.ret;simp[dw,aD]
 ·have h1:¬rk=3:=by simpa using h1
  rw[bj h1]at hR;apply aa.ai aB fw [1,10];simp[anS];refine aa.cond rfl (λh2=>?_) (λh2=>?_)
  ·have h2:rk=4:=by simpa using h2
   rw[cG h2]at hR;subst hR;apply aa.ai aB fw [2];simp[anT,eX];apply aa.ret;simp[dw,aD]
  ·have h2:¬rk=4:=by simpa using h2
   rw[bj h2]at hR;subst hR;apply aa.skip;simp;apply aa.ai aB fw [2];simp[anU];apply aa.ret;simp[dw,aD]
def en(v:cm)(ts:bY):cm:=ts.map λt=>v.getD t.toNat default
def t91(e:bO)(v:cm)(h:∀t∈e.dR,0<=t/\t<v.length)(hl:e.dR.length<=1000000):pj aj 96 [.agg e.enc,.sl (bN v)] 63 2 (bN (en v e.dR)):=by
 obtain⟨eh,ts,ec,e0,e1⟩:=e;simp only at h hl;have aB:=cR;refine c91.okF (by simp) (aM ?_);simp[bO.enc];apply aa.ai aB fw [1,2];simp[anw];refine aa.lk (o:=[]) (l:=[(1,.v (.sl (bN v))),(2,.v (.box [ti eh,.sl (aD ts),ti ec,ti e0,ti e1]))]) (aV:=1200) (by simp) ?_;apply aa.ai aB fw [1,2,5];simp[anx];refine aa.lk (o:=[]) (l:=[(1,.v (.sl (bN v))),(2,.v (.box [ti eh,.sl (aD ts),ti ec,ti e0,ti e1])),(5,.bH)]) (aV:=1400) (by simp) ?_;refine aa.le (Le.pQ (k:=5) 63 (sz:=2) (by omega) (by simp)) ?_;rw[jv];apply aa.sq aB fw [1,2,5,6];simp[anz];apply aa.block;refine aa.loop (λy:Nat=>⟨DM.look [(1,.v (.sl (bN v))),(2,.v (.box [ti eh,.sl (aD ts),ti ec,ti e0,ti e1])),(5,.bE 1400 0),(6,.v (ti y))],cF [(1400,.bJ 0 63 2 (bN (en v (ts.take y))))],1600,1000,[]⟩)
  (λy=>y<=ts.length) (λy=>ts.length-y) 0 (Le.bi ?_ ?_ ?_ ?_) (by simp) (λy hy=>?_)
 ·simp
 ·simp
 ·simp[en]
 ·simp
 apply aa.sq aB fw [1,2,5,6,11];simp[anA];refine aa.cond rfl (λct=>?_) (λct=>?_)
 ·have ct:y<ts.length:=by simpa using ct
  apply aa.skip;simp;apply aa.seq;apply aa.block;have rt:=cH ct;obtain⟨t,ht⟩:=aW (ts.getD y default);rw[ht]at rt;obtain⟨q1,q2⟩:=h t (by rw[<-ht];exact bC ct);obtain⟨t,rfl⟩:=jm q1;have q2:t<v.length:=by omega
  have rv:=dH q2;obtain⟨w,hw⟩:=aW (v.getD t default);rw[hw]at rv;have hS:bN (en v (ts.take (y+1)))=bN (en v (ts.take y))++[[ti w.aH,ti w.size]]:=by
   rw[dh ct,ht];simp only[en,Jv,rW,VP,iA,hw,bN]
  have hTl:(en v (ts.take y)).length<=1000000:=by simp[en];omega
  apply aa.dZ aB fw [1,2,5,6];simp[anB,ct,rt,q2,rv,du,eX];repeat (refine⟨by omega, ?_⟩)
  apply aa.dZ aB fw [1,2,5,6];simp[anC];rw[aA (x:=(y:Int)+1) (by omega)];refine⟨y+1,Le.bi ?_ ?_ ?_ ?_,by omega,by omega⟩
  ·simp
  ·simp
  ·simp[hS]
  ·simp
 ·have fA:y=ts.length:=by simp at ct;omega
  subst fA;rw[ZbN];apply aa.exit;simp;apply aa.ai aB fw [4];simp[anD];apply aa.ret;exact .inr ⟨1400,0,by simp,by simp⟩
def y9(cz:bY)(i:Nat):Prop:=¬(cz.getD i default<1\/cz.getD i default>60000)
instance(cz:bY)(i:Nat):Decidable (y9 cz i):=by unfold y9;infer_instance
def eD(n:aG)(cz:bY):Prop:=(cz.length:Int)=n.aN/\∀i,i<cz.length->y9 cz i
instance(n:aG)(cz:bY):Decidable (eD n cz):=by unfold eD;infer_instance
def t44(n:aG)(cz:bY)(hl:cz.length<=9223372036854775807):bb aj 35 [n.enc,.sl (aD cz)] (.bool (decide (eD n cz))):=by
 obtain⟨nt,nn,ns,an⟩:=n;obtain⟨v,hv⟩:=aW (decide (eD ⟨nt,nn,ns,an⟩ cz));rw[hv];have dv:eD ⟨nt,nn,ns,an⟩ cz↔(cz.length:Int)=nt/\∀i,i<cz.length->y9 cz i:=Iff.rfl;have dm:¬eD ⟨nt,nn,ns,an⟩ cz->v=false:=λh=>by rw[<-hv];simp[h]
 have aB:=cR;refine c44.ok (by simp) (aM ?_);simp[aG.enc];apply aa.ai aB fw [1,2];simp[an3];refine aa.lk (o:=[]) (l:=[(1,.v (.sl (aD cz))),(2,.v (.box [ti nt,ti nn,ti ns,.sl (aQ an)]))]) (aV:=1200) (by simp) ?_;apply aa.sq aB fw [1,10];simp[an4];refine aa.cond rfl (λh1=>?_) (λh1=>?_)
 ·have h1:¬(cz.length:Int)=nt:=by simpa using h1
  apply aa.ai aB fw [4];simp[an5];apply aa.ret;rw[dm λh=>h1 (dv.1 h).1];simp[dw]
 ·have h1:(cz.length:Int)=nt:=by simpa using h1
  apply aa.skip;simp;apply aa.sq aB fw [1,5];simp[an6];apply aa.block;refine aa.loop (λy:Nat=>⟨DM.look [(1,.v (.sl (aD cz))),(5,.v (ti y))],cF [],2000,1000,[]⟩)
   (λy=>y<=cz.length/\∀i,i<y->y9 cz i) (λy=>cz.length-y) 0 (Le.bi (o:=[]) ?_ ?_ ?_ ?_) (by simp) (λy hy=>?_)
  iterate 4(·simp)
  obtain⟨mq,fA⟩:=hy;apply aa.sq aB fw [1,5,14];simp[an7];refine aa.cond rfl (λct=>?_) (λct=>?_)
  ·have ct:y<cz.length:=by simpa using ct
   apply aa.skip;simp;apply aa.seq;apply aa.block;have rr:=cH ct;obtain⟨x,hx⟩:=aW (cz.getD y default);rw[hx]at rr;obtain⟨c2,fW⟩:=aW (decide (x<1\/x>60000):Bool);refine aa.ci aB fw [(1,.v (.sl (aD cz))),(5,.v (ti y)),(28,.v (.bool c2))] ?_ ?_
   ·by_cases q1:x<1
    ·have:c2=true:=by rw[<-fW];simp[q1]
     simp[XG,q1,this,ct,rr]
    ·skip
     by_cases q2:x>60000
     ·have:c2=true:=by rw[<-fW];simp[q2]
      simp[XG,q1,q2,this,ct,rr]
     ·skip
      have:c2=false:=by rw[<-fW];simp[q1,q2]
      simp[XG,q1,q2,this,ct,rr]
   refine aa.cond rfl (λh2=>?_) (λh2=>?_)
   ·rw[h2]at fW;have fW:=p7 fW;apply aa.ai aB fw [4];simp[an8];apply aa.ret;rw[dm λh=>by have:=(dv.1 h).2 y ct;unfold y9 at this;rw[hx]at this;exact this fW];simp[dw]
   ·rw[h2]at fW;have fW:=uO fW;apply aa.skip;simp;apply aa.dZ aB fw [1,5];simp[an9];rw[aA (x:=(y:Int)+1) (by omega)];refine⟨y+1,Le.bi (o:=[]) ?_ ?_ ?_ ?_,⟨by omega,λi hi=>?_⟩,by omega⟩;iterate 4(·simp)
    ·by_cases e:i=y
     ·subst e;unfold y9;rw[hx];exact fW
     ·exact fA i (by omega)
  ·have SI:y=cz.length:=by simp at ct;omega
   subst SI;apply aa.exit;simp;apply aa.ai aB fw [4];simp[aoa];apply aa.ret;have:v=true:=by rw[<-hv];exact decide_eq_true (dv.2 ⟨h1,fA⟩)
   rw[this];simp[dw]
def gj(cz:bY)(r:dx):bO:=⟨r.head,ke r,if r.kind=2 then r.cM+cz.getD r.a.toNat default else r.cM,0,0⟩
def lr(n:aG)(cz:bY):List bO:=n.an.map (gj cz)
abbrev s93:DM.Spec:=cK (λts=>∃a b c d e f,ts=[.agg [ti a,ti b,ti c,ti d,ti e,ti f]]) (fun|[.agg r]=>.sl (aD (ke (kY r)))|_=>.bool false) false
def awV:ay aj (bB [(98,s93)]):=by
 refine ay.cons ay.nil ?_;rintro ts ⟨a,b,c,d,e,f,rfl⟩;exact⟨by simpa [dx.enc,kY,d0]using t93 ⟨a,b,c,d,e,f⟩,λh=>by cases h⟩
def Gg(r:dx):(ke r).length<=2:=by unfold ke;split<;>(try split)<;>simp
def t67(n:aG)(cz:bY)(hn:xV n)(hp:eD n cz):bb aj 62 [n.enc,.sl (aD cz)] (.agg [ti n.au,.sl (bA (lr n cz))]):=by
 obtain⟨nt,nn,ns,an⟩:=n;obtain⟨n1,n2,n3,n4⟩:=hn;obtain⟨p1,p2⟩:=hp;simp only[lr]at n1 n2 n3 n4 p1 p2⊢;have aB:=awV;refine c67.ok (by simp) (aM ?_);simp[aG.enc];apply aa.ai aB fw [1,2,4];simp[anV];refine aa.lk (o:=[(1005,.box [.v (ti 0),.bH])]) (l:=[(1,.v (.sl (aD cz))),(2,.v (.box [ti nt,ti nn,ti ns,.sl (aQ an)])),(4,.ptr 1005 0)]) (aV:=1200) (by simp) ?_;apply aa.ai aB fw [1,2,4,5];simp[anW];refine aa.lk (o:=[(1005,.box [.v (ti 0),.bH])]) (l:=[(1,.v (.sl (aD cz))),(2,.v (.box [ti nt,ti nn,ti ns,.sl (aQ an)])),(4,.ptr 1005 0),(5,.bH)]) (aV:=1400) (by simp) ?_;refine aa.le (Le.pQ (k:=5) 157 (sz:=5) (by omega) (by simp)) ?_;rw[jv];apply aa.sq aB fw [1,2,4,5,6];simp[anX];apply aa.block;refine aa.loop (λy:Nat=>⟨DM.look [(1,.v (.sl (aD cz))),(2,.v (.box [ti nt,ti nn,ti ns,.sl (aQ an)])),(4,.ptr 1005 0),(5,.bE 1400 0),(6,.v (ti y))],cF [(1005,.box [.v (ti 0),.bH]),(1400,.bJ 0 157 5 (bA ((an.take y).map (gj cz))))],1600,1000,[]⟩)
  (λy=>y<=an.length) (λy=>an.length-y) 0 (Le.bi ?_ ?_ ?_ ?_) (by simp) (λy hy=>?_)
 ·simp
 ·simp
 ·simp[bA]
 ·simp
 apply aa.sq aB fw [1,2,4,5,6,13];simp[anY];refine aa.cond rfl (λct=>?_) (λct=>?_)
 ·have ct:y<an.length:=by simpa using ct
  apply aa.skip;simp;apply aa.seq;apply aa.block;have rr:=jC ct;obtain⟨⟨rk,rh,ra,rb,rp,rg⟩,hr⟩:=aW (an.getD y default);rw[hr]at rr;have kO:=n4 ⟨rk,rh,ra,rb,rp,rg⟩ (by rw[<-hr];exact bC ct);obtain⟨q1,q2,q3,q4,q5⟩:=kO;simp only at q1 q2 q3 q4 q5;apply aa.ai aB fw [1,2,4,5,6,7];simp[anZ,ct,rr,dx.enc];refine aa.lk (o:=[(1005,.box [.v (ti 0),.bH]),(1400,.bJ 0 157 5 (bA ((an.take y).map (gj cz))))]) (l:=[(1,.v (.sl (aD cz))),(2,.v (.box [ti nt,ti nn,ti ns,.sl (aQ an)])),(4,.ptr 1005 0),(5,.bE 1400 0),(6,.v (ti y)),(7,.v (.box [ti rk,ti rh,ti ra,ti rb,ti rp,ti rg]))]) (aV:=2400) (by simp) ?_;apply aa.ai aB fw [1,2,4,5,6,7,8];simp[an0];apply aa.sq aB fw [1,2,4,5,6,7,8,25];simp[an1];refine aa.cond rfl (λh6=>?_) (λh6=>?_)
  ·have h6:rk=2:=by simpa using h6
   have LB:0<=ra/\ra<cz.length:=by omega
   obtain⟨a,rfl⟩:=jm LB.1;have mN:a<cz.length:=by omega
   have ri:=cH mN;have hpi:=p2 a mN;unfold y9 at hpi;obtain⟨x,hx⟩:=aW (cz.getD a default);rw[hx]at ri hpi;have hE:gj cz ⟨rk,rh,a,rb,rp,rg⟩=⟨rh,ke ⟨rk,rh,a,rb,rp,rg⟩,rp+x,0,0⟩:=by unfold gj;simp only[cG h6,iA,hx]
   apply aa.dZ aB fw [1,2,4,5,6,7,8];simp[an2,mN,ri,aA (x:=rp+x) (by omega)];apply aa.dZ aB fw [1,2,4,5,6];simp[agy,kY,d0,eX,du];repeat (refine⟨by omega, ?_⟩)
   have hS:∀ec,gj cz (an.getD y default)=⟨rh,ke (an.getD y default),ec,0,0⟩->bA ((an.map (gj cz)).take (y+1))=bA ((an.map (gj cz)).take y)++[[ti rh,.sl (aD (ke (an.getD y default))),ti ec,ti 0,ti 0]]:=by
    intro ec h;rw[<-List.map_take,dh ct,Jv,bA,Jv,Zcz];simp only[rW,VP,h,bO.enc,bA]
   rw[hr]at hS;have hS:=hS _ hE;apply aa.dZ aB fw [1,2,4,5,6];simp[agz];rw[aA (x:=(y:Int)+1) (by omega)];refine⟨y+1,Le.bi ?_ ?_ ?_ ?_,by omega,by omega⟩
   ·simp
   ·simp
   ·simp[hS]
   ·simp
  ·have h6:¬rk=2:=by simpa using h6
   have hE:gj cz ⟨rk,rh,ra,rb,rp,rg⟩=⟨rh,ke ⟨rk,rh,ra,rb,rp,rg⟩,rp,0,0⟩:=by unfold gj;simp only[bj h6]
   apply aa.skip;simp;apply aa.dZ aB fw [1,2,4,5,6];simp[agy,kY,d0,eX,du];repeat (refine⟨by omega, ?_⟩)
   have hS:∀ec,gj cz (an.getD y default)=⟨rh,ke (an.getD y default),ec,0,0⟩->bA ((an.map (gj cz)).take (y+1))=bA ((an.map (gj cz)).take y)++[[ti rh,.sl (aD (ke (an.getD y default))),ti ec,ti 0,ti 0]]:=by
    intro ec h;rw[<-List.map_take,dh ct,Jv,bA,Jv,Zcz];simp only[rW,VP,h,bO.enc,bA]
   rw[hr]at hS;have hS:=hS _ hE;apply aa.dZ aB fw [1,2,4,5,6];simp[agz];rw[aA (x:=(y:Int)+1) (by omega)];refine⟨y+1,Le.bi ?_ ?_ ?_ ?_,by omega,by omega⟩
   ·simp
   ·simp
   ·simp[hS]
   ·simp
 ·have fA:y=an.length:=by simp at ct;omega
  subst fA;rw[show(an.map (gj cz)).take an.length=an.map (gj cz)from TE (by simp)];apply aa.exit;simp;apply aa.ai aB fw [4];simp[aio];apply aa.ret;simp[XF]
section
variable{nd:Int}{es:List bO}
def j9(l:cm)(i:Nat)(x:dj):bN (l.set i x)=(bN l).set i [ti x.aH,ti x.size]:=by simp[bN,Zce]
def mw(l:bY)(i:Nat)(x:Int):aD (l.set i x)=(aD l).set i [ti x]:=by simp[aD,Zce]
def afc{α:Type}(a b:α){n y:Nat}(h:y<n):(List.replicate y a++List.replicate (n-y) b).set y a=List.replicate (y+1) a++List.replicate (n-(y+1)) b:=by
 rw[ZbU _ _ (by simp)];simp only[ZbJ,ZcG];rw[show n-y=(n-(y+1))+1 by omega,OV,Zb7,Zcr (n:=y),Zb2];rfl
def uR(nd:Int)(e:bO):Prop:=0<=e.head/\e.head<nd/\(∀t∈e.dR,0<=t/\t<nd)/\0<=e.aH/\e.aH<=4000000000000/\e.dR.length<=1000000
def K0(nd:Int)(es:List bO):Prop:=0<=nd/\nd<=1000000/\es.length<=1000000/\∀e∈es,uR nd e
def K1(nd:Int)(v:cm):Prop:=(v.length:Int)=nd/\∀x∈v,kc x
def Ia(x:dj):Nat:=x.aH.toNat*2199023255552+x.size.toNat
def jX(v:cm):Nat:=(v.map Ia).sum
def Ib{own:cm}{h:Nat}{y:dj}(hh:h<own.length)(hy:Ia y<Ia (own.getD h default)):jX (own.set h y)<jX own:=by
 induction own generalizing h with
 |nil=>simp at hh
 |cons x own ih=>
  cases h with
  |zero=>simp[jX]at hy⊢;omega
  |succ h=>
   have:=ih (h:=h) (by simpa using hh) (by simpa using hy);simp[jX]at this⊢;omega
def SJ{a b:dj}(ha:kc a)(hb:kc b)(h:a.lt b):Ia a<Ia b:=by
 obtain⟨a1,a2,a3,a4⟩:=ha;obtain⟨b1,b2,b3,b4⟩:=hb;unfold dj.lt at h;unfold Ia;omega
def sj(v:cm)(e:bO):cm:=if(ee e.aH (en v e.dR)).lt (v.getD e.head.toNat default)then v.set e.head.toNat (ee e.aH (en v e.dR))else v
def Ca{v:cm}{ts:bY}(hv:K1 nd v)(h:∀t∈ts,0<=t/\t<nd):∀x∈en v ts,kc x:=by
 intro x hx;simp only[en,iF]at hx;obtain⟨t,ht,rfl⟩:=hx;have:=h t ht;have:=hv.1;exact hv.2 _ (bC (by omega))
def tQ{v:cm}{e:bO}(he:uR nd e)(hv:K1 nd v):K1 nd (sj v e)/\(sj v e=v\/jX (sj v e)<jX v):=by
 obtain⟨e1,e2,e3,e4,e5,e6⟩:=he;have hc:=kq (c:=e.aH) (l:=en v e.dR) (Ca hv e3) e4 e5;have hh:e.head.toNat<v.length:=by have:=hv.1;omega
 unfold sj;split
 ·rename_i h;refine⟨⟨by simpa using hv.1,λx hx=>?_⟩,.inr (Ib hh (SJ hc (hv.2 _ (bC hh)) h))⟩;rcases TG hx with h|rfl
  ·exact hv.2 x h
  ·exact hc
 ·exact⟨hv,.inl rfl⟩
def fc(es:List bO)(v:cm)(y:Nat):cm:=(List.range y).foldl (λv k=>sj v (es.getD k default)) v
def kI(es:List bO)(v:cm)(y:Nat):fc es v (y+1)=sj (fc es v y) (es.getD y default):=by simp[fc,B3,yZ]
def p9{nd:Int}{es:List bO}(hh:K0 nd es){v:cm}(hv:K1 nd v):∀y,y<=es.length->K1 nd (fc es v y)/\(fc es v y=v\/jX (fc es v y)<jX v)
 |0,_=>⟨hv,.inl rfl⟩
 |y+1,hy=>by
  obtain⟨h1,h2⟩:=p9 hh hv y (by omega);obtain⟨h3,h4⟩:=tQ (hh.2.2.2 _ (bC (l:=es) (i:=y) (by omega))) h1;rw[kI];refine⟨h3, ?_⟩;rcases h4 with e|h4
  ·rw[e];exact h2
  ·rcases h2 with e|h2
   ·rw[e]at h4⊢;exact .inr h4
   ·exact .inr (by omega)
def ma(es:List bO):Nat->cm->cm
 |0,v=>v
 |f+1,v=>if fc es v es.length=v then v else ma es f (fc es v es.length)
def PV{v:cm}{f:Nat}{R:cm}(hs:fc es v es.length=v\/jX (fc es v es.length)<jX v)(h1:jX v<f)(h2:ma es f v=R):
  (fc es v es.length≠v->jX (fc es v es.length)<jX v/\∃f,jX (fc es v es.length)<f/\ma es f (fc es v es.length)=R)/\(fc es v es.length=v->v=R):=by
 cases f with
 |zero=>omega
 |succ f=>
  unfold ma at h2;refine⟨λcj=>?_,λe=>?_⟩
  ·rw[bj cj]at h2;have:=hs.resolve_left cj;exact⟨this,f,by omega,h2⟩
  ·rwa [cG e]at h2
def Gh(nd:Int):cm:=List.replicate nd.toNat ⟨1099511627776,0⟩
def gK(nd:Int)(es:List bO):cm:=ma es (jX (Gh nd)+1) (Gh nd)
def Ic{nd:Int}{es:List bO}(hh:K0 nd es):∀f v,jX v<f->K1 nd v->K1 nd (ma es f v)
 |0,v,h,_=>by omega
 |f+1,v,h,hv=>by
  obtain⟨h1,h2⟩:=p9 hh hv es.length (eF _);unfold ma;split
  ·exact hv
  ·rename_i cj;exact Ic hh f _ (by have:=h2.resolve_left cj;omega) h1
def AV(hh:K0 nd es):K1 nd (Gh nd):=by
 refine⟨by have:=hh.1;simp only[Gh,ZbJ];omega,λx hx=>?_⟩;rw[ZbV hx];simp[kc]
def Cb(hh:K0 nd es):K1 nd (gK nd es):=Ic hh _ _ (by omega) (AV hh)
def stepG(es:List bO)(v:cm)(g:bY)(j:Nat):bY:=
 if(v.getD (es.getD (es.length-1-j) default).head.toNat default).aH<1099511627776/\ee (es.getD (es.length-1-j) default).aH (en v (es.getD (es.length-1-j) default).dR)=v.getD (es.getD (es.length-1-j) default).head.toNat default then g.set (es.getD (es.length-1-j) default).head.toNat ((es.length-1-j:Nat):Int)else g
def yq(es:List bO)(v:cm)(nd:Int)(j:Nat):bY:=(List.range j).foldl (stepG es v) (List.replicate nd.toNat (-1))
def za(es:List bO)(v:cm)(nd:Int)(y:Nat):yq es v nd (y+1)=stepG es v (yq es v nd y) y:=by simp[yq,B3,yZ]
def UF(es:List bO)(v:cm)(h:0<=nd)(y:Nat):((yq es v nd y).length:Int)=nd:=by
 induction y with
 |zero=>simp[yq];omega
 |succ y ih=>
  rw[za];unfold stepG;split
  ·simpa using ih
  ·exact ih
structure VM where
 v:cm
 y8:Bool
abbrev s91:DM.Spec:=C1 (λts=>∃a b c d e v,ts=[.agg [ti a,.sl (aD b),ti c,ti d,ti e],.sl (bN v)]/\(∀t∈b,0<=t/\t<v.length)/\b.length<=1000000) (fun|[.agg [_,.sl b,_,_,_],.sl v]=>bN (en (oD v) (nj b))|_=>[]) 63 2
def M7(l:cm):jL.jT (bN l).flatten=true:=by
 induction l with
 |nil=>rfl
 |cons x l ih=>simpa [bN,jL.jT,jL]using ih
def awW:ay aj (bB [(96,s91),(95,s69),(97,s92)]):=by
 refine ay.W0 (ay.cons (ay.cons ay.nil ?_) ?_) ?_
 ·rintro ts ⟨a,b,c,d,rfl⟩;exact⟨t92 ⟨a,b⟩ ⟨c,d⟩,λ_=>rfl⟩
 ·rintro ts ⟨c,l,rfl,h1,h2,h3,h4⟩;exact⟨by simpa using t69 c l h1 h2 h3 h4,λ_=>rfl⟩
 ·rintro ts ⟨a,b,c,d,e,v,rfl,h1,h2⟩;exact⟨by simpa [bO.enc]using t91 ⟨a,b,c,d,e⟩ v h1 h2,M7 _⟩
def t66(nd:Int)(es:List bO)(hh:K0 nd es):bb aj 61 [.agg [ti nd,.sl (bA es)]] (.eE [.sl (bN (gK nd es)),.sl (aD (yq es (gK nd es) nd es.length))]):=by
 obtain⟨R,hR⟩:=aW (gK nd es);have hRo:K1 nd R:=hR▸Cb hh;rw[hR];have h0:=AV hh;have DT:=λ(v:cm) (hv:K1 nd v)=>p9 hh hv;have tf:=λ(v:cm) (hv:K1 nd v) (e:bO) (he:uR nd e)=>tQ he hv;obtain⟨g1,g2,g3,g4⟩:=hh;have aB:=awW;refine c66.ok (by simp) (aM ?_);simp;apply aa.ai aB fw [1];simp[anE];refine aa.lk (o:=[]) (l:=[(1,.v (.box [ti nd,.sl (bA es)]))]) (aV:=1200) (by simp) ?_;apply aa.ai aB fw [1,4];simp[anF,uP,du];repeat (refine⟨by omega, ?_⟩)
 refine aa.le (Le.bi (o:=[(1217,.bJ 0 63 2 (bN ((List.replicate nd.toNat (⟨0,0⟩:dj)))))]) (l:=[(1,.v (.box [ti nd,.sl (bA es)])),(4,.bE 1217 0)]) (aV:=1400) ?_ ?_ ?_ ?_) ?_
 ·simp
 ·simp
 ·simp[bN]
 ·simp
 apply aa.ai aB fw [1,4,5];simp[anG,uP,du];repeat (refine⟨by omega, ?_⟩)
 refine aa.le (Le.bi (o:=[(1217,.bJ 0 63 2 (bN ((List.replicate nd.toNat (⟨0,0⟩:dj))))),(1420,.bJ 0 3 1 (aD (List.replicate nd.toNat 0)))]) (l:=[(1,.v (.box [ti nd,.sl (bA es)])),(4,.bE 1217 0),(5,.bE 1420 0)]) (aV:=1600) ?_ ?_ ?_ ?_) ?_
 ·simp
 ·simp
 ·simp[bN,aD]
 ·simp
 apply aa.sq aB fw [1,4,5,6];simp[anH];apply aa.block;refine aa.loop (λy:Nat=>⟨DM.look [(1,.v (.box [ti nd,.sl (bA es)])),(4,.bE 1217 0),(5,.bE 1420 0),(6,.v (ti y))],cF [(1217,.bJ 0 63 2 (bN (List.replicate y (⟨1099511627776,0⟩:dj)++List.replicate (nd.toNat-y) (⟨0,0⟩:dj)))),(1420,.bJ 0 3 1 (aD (List.replicate y (-1:Int)++List.replicate (nd.toNat-y) (0:Int))))],2000,1000,[]⟩)
  (λy=>y<=nd.toNat) (λy=>nd.toNat-y) 0 (Le.bi ?_ ?_ ?_ ?_) (by simp) (λy hy=>?_)
 iterate 4(·simp)
 obtain⟨A,hA⟩:=aW (List.replicate y (⟨1099511627776,0⟩:dj)++List.replicate (nd.toNat-y) (⟨0,0⟩:dj));obtain⟨E,hE⟩:=aW (List.replicate y (-1:Int)++List.replicate (nd.toNat-y) (0:Int));have hAl:A.length=nd.toNat:=by rw[<-hA];simp;omega
 have hEl:E.length=nd.toNat:=by rw[<-hE];simp;omega
 rw[hA,hE];apply aa.sq aB fw [1,4,5,6,23];simp[anI];refine aa.cond rfl (λct=>?_) (λct=>?_)
 ·have ct:(y:Int)<nd:=by simpa using ct
  have DN:y<nd.toNat:=by omega
  apply aa.skip;simp;apply aa.seq;apply aa.block;have ra:=dH (l:=A) (y:=y) (by omega);have re:=cH (l:=E) (y:=y) (by omega);have q1:y<A.length:=by omega
  have q2:y<E.length:=by omega
  apply aa.dZ aB fw [1,4,5,6];simp[anJ,q1,q2,ra,re];apply aa.dZ aB fw [1,4,5,6];simp[anK];rw[aA (x:=(y:Int)+1) (by omega)];refine⟨y+1,Le.bi ?_ ?_ ?_ ?_,by omega,by omega⟩
  ·simp
  ·simp
  ·simp only[<-afc _ _ DN,hA,hE,j9,mw];simp
  ·simp
 ·have fA:y=nd.toNat:=by simp at ct;omega
  subst fA;have vx:A=Gh nd:=by rw[<-hA];simp[Gh]
  have Ke:E=List.replicate nd.toNat (-1):=by rw[<-hE];simp
  subst vx;subst Ke;apply aa.exit;simp;apply aa.sq aB fw [1,4,5,7];simp[anL];apply aa.block;refine aa.loop (λz:VM=>⟨DM.look [(1,.v (.box [ti nd,.sl (bA es)])),(4,.bE 1217 0),(5,.bE 1420 0),(7,.v (.bool z.y8))],cF [(1217,.bJ 0 63 2 (bN (z.v))),(1420,.bJ 0 3 1 (aD (List.replicate nd.toNat (-1))))],3000,1000,[]⟩)
   (λz=>K1 nd z.v/\(z.y8=true->∃f,jX z.v<f/\ma es f z.v=R)/\(z.y8=false->z.v=R)) (λz=>2*jX z.v+(if z.y8 then 1 else 0)) ⟨Gh nd,true⟩ (Le.bi ?_ ?_ ?_ ?_) (⟨h0,λ_=>⟨_,Zcg _,hR⟩,λh=>by cases h⟩) (λz hy=>?_)
  iterate 4(·simp)
  obtain⟨own,y8⟩:=z;obtain⟨hz1,hz2,hz3⟩:=hy;simp only at hz1 hz2 hz3⊢;apply aa.sq aB fw [1,4,5,33];simp[anM];refine aa.cond rfl (λhm=>?_) (λhm=>?_)
  ·have hm:y8=true:=by simpa using hm
   subst hm;obtain⟨f,hf1,hf2⟩:=hz2 rfl;apply aa.skip;simp;apply aa.block;apply aa.ai aB fw [1,4,5,7];simp[anN];apply aa.ai aB fw [1,4,5,7,8];simp[aic];apply aa.block;refine aa.loop (λy:Nat=>⟨DM.look [(1,.v (.box [ti nd,.sl (bA es)])),(4,.bE 1217 0),(5,.bE 1420 0),(7,.v (.bool (decide (fc es own y≠own)))),(8,.v (ti y))],cF [(1217,.bJ 0 63 2 (bN (fc es own y))),(1420,.bJ 0 3 1 (aD (List.replicate nd.toNat (-1))))],4000,1000,[]⟩)
    (λy=>y<=es.length) (λy=>es.length-y) 0 (Le.bi ?_ ?_ ?_ ?_) (by simp) (λy SI=>?_)
   ·simp
   ·simp[fc]
   ·simp[fc]
   ·simp[fc]
   obtain⟨O,hO⟩:=aW (fc es own y);obtain⟨vq,Jz⟩:=DT own hz1 y SI;rw[hO]at vq Jz;obtain⟨m1,C0⟩:=aW (decide (O≠own):Bool);rw[hO,C0];apply aa.sq aB fw [1,4,5,7,8,38];simp[aid];refine aa.cond rfl (λct=>?_) (λct=>?_)
   ·have ct:y<es.length:=by simpa using ct
    apply aa.skip;simp;apply aa.seq;apply aa.block;have rr:=kZ ct;obtain⟨⟨xh,xt,xc,x0,x1⟩,hx⟩:=aW (es.getD y default);rw[hx]at rr;have hxo:uR nd ⟨xh,xt,xc,x0,x1⟩:=g4 _ (by rw[<-hx];exact bC ct);have hso:=tf O vq _ hxo;obtain⟨q1,q2,q3,q4,q5,q6⟩:=hxo;simp only at q1 q2 q3 q4 q5 q6;obtain⟨xh,rfl⟩:=jm q1;apply aa.ai aB fw [1,4,5,7,8,9];simp[aie,ct,rr,bO.enc];refine aa.lk (o:=[(1217,.bJ 0 63 2 (bN (O))),(1420,.bJ 0 3 1 (aD (List.replicate nd.toNat (-1))))]) (l:=[(1,.v (.box [ti nd,.sl (bA es)])),(4,.bE 1217 0),(5,.bE 1420 0),(7,.v (.bool m1)),(8,.v (ti y)),(9,.v (.box [ti xh,.sl (aD xt),ti xc,ti x0,ti x1]))]) (aV:=4200) (by simp) ?_;have K2:∀t∈xt,0<=t/\t<O.length:=λt ht=>by have:=q3 t ht;have:=vq.1;omega
    have htv:=Ca vq q3;have IQ:(en O xt).length<=1000000:=by simpa [en]using q6
    obtain⟨⟨wc,wz⟩,hw⟩:=aW (ee xc (en O xt));refine aa.ko aB fw (rs:=fl RP [none,some [],some [],none,some [1217],some [4251],none,some [4211]]) (.inr ⟨_,ji⟩) (by kernel_rfl) [1,4,5,7,8,9,10] ?_;simp[RP,fl,cZ,bT,aT,uP,q6,IQ,hw];refine⟨K2,htv, ?_⟩;repeat (refine⟨by omega, ?_⟩)
    refine aa.lk (o:=[(1217,.bJ 0 63 2 (bN (O))),(1420,.bJ 0 3 1 (aD (List.replicate nd.toNat (-1))))]) (l:=[(1,.v (.box [ti nd,.sl (bA es)])),(4,.bE 1217 0),(5,.bE 1420 0),(7,.v (.bool m1)),(8,.v (ti y)),(9,.v (.box [ti xh,.sl (aD xt),ti xc,ti x0,ti x1])),(10,.v (.box [ti wc,ti wz]))]) (aV:=4400) (by simp) ?_;have M3:xh<O.length:=by have:=vq.1;omega
    have ro:=dH M3;obtain⟨⟨uc,uz⟩,hu⟩:=aW (O.getD xh default);rw[hu]at ro;obtain⟨c1,bI⟩:=aW (decide ((⟨wc,wz⟩:dj).lt ⟨uc,uz⟩):Bool);apply aa.ai aB fw [1,4,5,7,8,9,10,58];simp[aif,M3,ro,bI];refine aa.cond rfl (λh5=>?_) (λh5=>?_)
    ·have h5:c1=true:=by simpa using h5
     rw[h5]at bI;have bI:=p7 bI;have hS0:sj O ⟨xh,xt,xc,x0,x1⟩=O.set xh ⟨wc,wz⟩:=by unfold sj;simp only[hw,hu,iA];rw[cG bI]
     have si:fc es own (y+1)=O.set xh ⟨wc,wz⟩:=by rw[kI,hO,hx,hS0]
     have cj:¬fc es own (y+1)=own:=by
      intro e;have h6:jX (O.set xh ⟨wc,wz⟩)<jX O:=by
       refine Ib M3 ?_;rw[hu];exact SJ (by rw[<-hw];exact kq htv q4 q5) (by rw[<-hu];exact vq.2 _ (bC M3)) bI
      rw[<-si,e]at h6;rcases Jz with h|h
      ·rw[h]at h6;omega
      ·omega
     apply aa.ai aB fw [1,4,5,8];simp[aig,M3,ro];apply aa.dZ aB fw [1,4,5,7,8];simp[aih];apply aa.dZ aB fw [1,4,5,7,8];simp[XC];rw[aA (x:=(y:Int)+1) (by omega)];refine⟨y+1,Le.bi ?_ ?_ ?_ ?_,by omega,by omega⟩
     ·simp
     ·simp
     ·simp[si,j9]
     ·simp;simpa using cj
    ·have h5:c1=false:=by simpa using h5
     rw[h5]at bI;have bI:=uO bI;have si:fc es own (y+1)=O:=by rw[kI,hO,hx];unfold sj;simp only[hw,hu,iA];rw[bj bI]
     have cj:=C0;rw[<-si]at cj;apply aa.skip;simp;apply aa.dZ aB fw [1,4,5,7,8];simp[XC];rw[aA (x:=(y:Int)+1) (by omega)];refine⟨y+1,Le.bi ?_ ?_ ?_ ?_,by omega,by omega⟩
     ·simp
     ·simp
     ·simp[si,j9]
     ·simp;simpa using cj
   ·have Ah:y=es.length:=by simp at ct;omega
    subst Ah;have Bu:=PV (DT own hz1 _ (eF _)).2 hf1 hf2;simp only[hO]at Bu;have Zj:2*jX O+(if m1 then 1 else 0)<2*jX own+1:=by
     by_cases e:O=own
     ·have DD:m1=false:=by rw[<-C0];simp[e]
      subst DD;rw[e];simp
     ·have:=(Bu.1 e).1;cases m1<;>simp<;>omega
    apply aa.exit;simp;refine⟨⟨O,m1⟩,Le.bi ?_ ?_ ?_ ?_,⟨vq,λh=>(Bu.1 (p7 (C0.trans h))).2,λh=>by have e:=Classical.not_not.1 (uO (C0.trans h));simp only;rw[e];exact Bu.2 e⟩,by simpa using Zj⟩;iterate 3(·simp)
    ·simp
  ·have hm:y8=false:=by simpa using hm
   subst hm;have hz3:=hz3 rfl;subst hz3;apply aa.exit;simp;apply aa.sq aB fw [1,4,5,11];simp[aii,aA (x:=(es.length:Int)-1) (by omega)];apply aa.block;refine aa.loop (λj:Nat=>⟨DM.look [(1,.v (.box [ti nd,.sl (bA es)])),(4,.bE 1217 0),(5,.bE 1420 0),(11,.v (ti ((es.length:Int)-1-j)))],cF [(1217,.bJ 0 63 2 (bN (own))),(1420,.bJ 0 3 1 (aD (yq es own nd j)))],5000,1000,[]⟩)
    (λj=>j<=es.length) (λj=>es.length-j) 0 (Le.bi ?_ ?_ ?_ ?_) (by simp) (λj hj=>?_)
   ·simp
   ·simp
   ·simp[yq]
   ·simp
   obtain⟨G,hG⟩:=aW (yq es own nd j);have hGl:=UF es own g1 j;rw[hG]at hGl;rw[hG];obtain⟨k,hk⟩:=aW ((es.length:Int)-1-j);rw[hk];apply aa.sq aB fw [1,4,5,11,69];simp[aij];refine aa.cond rfl (λh9=>?_) (λh9=>?_)
   ·have h9:0<=k:=by simpa using h9
    obtain⟨k,rfl⟩:=jm h9;have F8:k<es.length:=by omega
    have hke:es.length-1-j=k:=by omega
    apply aa.skip;simp;apply aa.seq;apply aa.block;have rr:=kZ F8;obtain⟨⟨xh,xt,xc,x0,x1⟩,hx⟩:=aW (es.getD k default);rw[hx]at rr;have hxo:uR nd ⟨xh,xt,xc,x0,x1⟩:=g4 _ (by rw[<-hx];exact bC F8);obtain⟨q1,q2,q3,q4,q5,q6⟩:=hxo;simp only at q1 q2 q3 q4 q5 q6;obtain⟨xh,rfl⟩:=jm q1;apply aa.ai aB fw [1,4,5,11,12];simp[aik,F8,rr,bO.enc];refine aa.lk (o:=[(1217,.bJ 0 63 2 (bN (own))),(1420,.bJ 0 3 1 (aD (G)))]) (l:=[(1,.v (.box [ti nd,.sl (bA es)])),(4,.bE 1217 0),(5,.bE 1420 0),(11,.v (ti k)),(12,.v (.box [ti xh,.sl (aD xt),ti xc,ti x0,ti x1]))]) (aV:=5200) (by simp) ?_;have M3:xh<own.length:=by have:=hRo.1;omega
    have ro:=dH M3;obtain⟨⟨uc,uz⟩,hu⟩:=aW (own.getD xh default);rw[hu]at ro;apply aa.ai aB fw [1,4,5,11,12,13];simp[ail,M3,ro];refine aa.lk (o:=[(1217,.bJ 0 63 2 (bN (own))),(1420,.bJ 0 3 1 (aD (G)))]) (l:=[(1,.v (.box [ti nd,.sl (bA es)])),(4,.bE 1217 0),(5,.bE 1420 0),(11,.v (ti k)),(12,.v (.box [ti xh,.sl (aD xt),ti xc,ti x0,ti x1])),(13,.v (.box [ti uc,ti uz]))]) (aV:=5400) (by simp) ?_;have K2:∀t∈xt,0<=t/\t<own.length:=λt ht=>by have:=q3 t ht;have:=hRo.1;omega
    have htv:=Ca hRo q3;have IQ:(en own xt).length<=1000000:=by simpa [en]using q6
    obtain⟨⟨wc,wz⟩,hw⟩:=aW (ee xc (en own xt));obtain⟨c1,bI⟩:=aW (decide (uc<1099511627776/\(⟨wc,wz⟩:dj)=⟨uc,uz⟩):Bool);apply aa.seq;refine aa.to ⟨DM.look [(1,.v (.box [ti nd,.sl (bA es)])),(4,.bE 1217 0),(5,.bE 1420 0),(11,.v (ti k)),(12,.v (.box [ti xh,.sl (aD xt),ti xc,ti x0,ti x1])),(94,.v (.bool c1))],cF [(1217,.bJ 0 63 2 (bN (own))),(1420,.bJ 0 3 1 (aD (G)))],6000,1000,[]⟩ ?_ ?_
    ·by_cases k1:uc<1099511627776
     ·refine aa.pO aB fw (rs:=fl Ea [none,some [],none,none,none,some [],some [],none,some [1217],some [5491],some [],some [],none]) (.inr ⟨_,ji⟩) (by kernel_rfl) [1,4,5,11,12,94] ?_;simp[fl,Ea,cZ,bT,aT,uP,k1,q6,IQ,hw];refine⟨K2,htv,by omega,by omega, ?_⟩;have:c1=(decide (wc=uc)&&decide (wz=uz)):=by rw[<-bI];simp[k1]
      rw[this];exact Le.bi (by simp) (by simp) (by simp) (by simp)
     ·have:c1=false:=by rw[<-bI];simp[k1]
      refine aa.pO aB fw (rs:=fl Ea [none,some [],none,none,none,some [],some [],none,some [1217],some [5491],some [],some [],none]) (.inr ⟨_,ji⟩) (by kernel_rfl) [1,4,5,11,12,94] ?_;simp[fl,Ea,cZ,bT,aT,k1];subst this;exact Le.bi (by simp) (by simp) (by simp) (by simp)
    simp only[LM];refine aa.cond rfl (λh8=>?_) (λh8=>?_)
    ·have h8:c1=true:=by simpa using h8
     rw[h8]at bI;have bI:=p7 bI;have Ha:stepG es own G j=G.set xh (k:Int):=by unfold stepG;rw[hke,hx];simp only[hw,hu,iA];rw[cG bI]
     have asr:xh<G.length:=by omega
     have rg:=cH asr;apply aa.dZ aB fw [1,4,5,11];simp[aim,asr,rg];apply aa.dZ aB fw [1,4,5,11];simp[XD];rw[aA (x:=(k:Int)-1) (by omega)];refine⟨j+1,Le.bi ?_ ?_ ?_ ?_,by omega,by omega⟩
     ·simp
     ·simp
     ·simp[za,hG,Ha,mw]
     ·simp;omega
    ·have h8:c1=false:=by simpa using h8
     rw[h8]at bI;have bI:=uO bI;have Ha:stepG es own G j=G:=by unfold stepG;rw[hke,hx];simp only[hw,hu,iA];rw[bj bI]
     apply aa.skip;simp;apply aa.dZ aB fw [1,4,5,11];simp[XD];rw[aA (x:=(k:Int)-1) (by omega)];refine⟨j+1,Le.bi ?_ ?_ ?_ ?_,by omega,by omega⟩
     ·simp
     ·simp
     ·simp[za,hG,Ha,mw]
     ·simp;omega
   ·have h9:¬0<=k:=by simpa using h9
    have LW:j=es.length:=by omega
    subst LW;subst hG;apply aa.exit;simp;apply aa.ai aB fw [2,3];simp[ain];apply aa.ret;simp[XE]
end
def Gi{n:aG}{cz:bY}(hn:ed n)(hp:eD n cz):K0 n.au (lr n cz):=by
 have h:=hn.ok;obtain⟨p1,p2⟩:=hp;refine⟨by have:=h.1;omega,by have:=h.2.1;omega,by simp only[lr,RB];have:=h.2.2.1;omega,λe he=>?_⟩;simp only[lr,iF]at he;obtain⟨r,hr,rfl⟩:=he;obtain⟨q1,q2,q3,q4,q5⟩:=h.2.2.2 r hr;have hc:0<=(gj cz r).aH/\(gj cz r).aH<=4000000000000:=by
  unfold gj;split
  ·rename_i h2;have ha:r.a.toNat<cz.length:=by omega
   have:=p2 _ ha;unfold y9 at this;simp only;omega
  ·simp only;omega
 refine⟨q1,q2,λt ht=>?_,hc.1,hc.2,by have:=Gg r;simp only[gj];omega⟩;simp only[gj,ke]at ht;split at ht
 ·simp only[pe]at ht;omega
 ·split at ht
  ·simp only[gm,lZ,lS]at ht;omega
  ·cases ht
def eW(n:aG)(cz:bY):cm:=if ed n/\eD n cz then gK n.au (lr n cz)else []
abbrev s20:DM.Spec:=cK (λts=>∃a b c l,ts=[.agg [ti a,ti b,ti c,.sl (aQ l)]]/\l.length<=9223372036854775807) (fun|[n]=>.bool (decide (ed (B8 n)))|_=>.bool false) true
abbrev s44:DM.Spec:=cK (λts=>∃a b c l i,ts=[.agg [ti a,ti b,ti c,.sl (aQ l)],.sl (aD i)]/\i.length<=9223372036854775807) (fun|[n,.sl i]=>.bool (decide (eD (B8 n) (nj i)))|_=>.bool false) true
abbrev s67:DM.Spec:=cK (λts=>∃a b c l i,ts=[.agg [ti a,ti b,ti c,.sl (aQ l)],.sl (aD i)]/\xV ⟨a,b,c,l⟩/\eD ⟨a,b,c,l⟩ i) (fun|[n,.sl i]=>.agg [ti (B8 n).au,.sl (bA (lr (B8 n) (nj i)))]|_=>.bool false) false
abbrev s66:DM.Spec:=cK (λts=>∃nd es,ts=[.agg [ti nd,.sl (bA es)]]/\K0 nd es) (fun|[.agg [.int _ nd,.sl es]]=>.eE [.sl (bN (gK nd (Gf es))),.sl (aD (yq (Gf es) (gK nd (Gf es)) nd es.length))]|_=>.bool false) false
abbrev s45:DM.Spec:=cK (λts=>∃a b c l i,ts=[.agg [ti a,ti b,ti c,.sl (aQ l)],.sl (aD i)]/\l.length<=9223372036854775807/\i.length<=9223372036854775807) (fun|[n,.sl i]=>.sl (bN (eW (B8 n) (nj i)))|_=>.bool false) false
def awX:ay aj (bB [(34,s20),(35,s44),(62,s67),(61,s66)]):=by
 refine ay.cons (ay.cons (ay.cons (ay.cons ay.nil ?_) ?_) ?_) ?_
 ·rintro ts ⟨nd,es,rfl,h⟩;exact⟨by simpa using t66 nd es h,λh=>by cases h⟩
 ·rintro ts ⟨a,b,c,l,i,rfl,h1,h2⟩;exact⟨by simpa [aG.enc]using t67 ⟨a,b,c,l⟩ i h1 h2,λh=>by cases h⟩
 ·rintro ts ⟨a,b,c,l,i,rfl,h⟩;exact⟨by simpa [aG.enc]using t44 ⟨a,b,c,l⟩ i h,λ_=>rfl⟩
 ·rintro ts ⟨a,b,c,l,rfl,h⟩;exact⟨by simpa [aG.enc]using t20 ⟨a,b,c,l⟩ h,λ_=>rfl⟩
def t45(n:aG)(cz:bY)(h1:n.an.length<=9223372036854775807)(h2:cz.length<=9223372036854775807):bb aj 36 [n.enc,.sl (aD cz)] (.sl (bN (eW n cz))):=by
 obtain⟨R,hR⟩:=aW (eW n cz);rw[hR];unfold eW at hR;obtain⟨nt,nn,ns,an⟩:=n;simp only at h1;have aB:=awX;refine c45.ok (by simp) (aM ?_);simp[aG.enc];apply aa.ai aB fw [1,2];simp[XH];refine aa.lk (o:=[]) (l:=[(1,.v (.sl (aD cz))),(2,.v (.box [ti nt,ti nn,ti ns,.sl (aQ an)]))]) (aV:=1200) (by simp) ?_;apply aa.seq;obtain⟨c1,bI⟩:=aW (decide (¬ed ⟨nt,nn,ns,an⟩\/¬eD ⟨nt,nn,ns,an⟩ cz):Bool);refine aa.ci aB fw [(1,.v (.sl (aD cz))),(2,.v (.box [ti nt,ti nn,ti ns,.sl (aQ an)])),(15,.v (.bool c1))] ?_ ?_
 ·by_cases q1:ed ⟨nt,nn,ns,an⟩
  ·by_cases q2:eD ⟨nt,nn,ns,an⟩ cz
   ·have:c1=false:=by rw[<-bI];simp[q1,q2]
    simp[Mk,uP,h1,h2,q1,q2,this]
   ·have:c1=true:=by rw[<-bI];simp[q2]
    simp[Mk,uP,h1,h2,q1,q2,this]
  ·have:c1=true:=by rw[<-bI];simp[q1]
   simp[Mk,uP,h1,q1,this]
 refine aa.cond rfl (λg=>?_) (λg=>?_)
 ·rw[g]at bI;have bI:=p7 bI;rw[bj (λh=>bI.elim (λq=>q h.1) (λq=>q h.2))]at hR;subst hR;apply aa.ai aB fw [4];simp[XI];apply aa.ret;simp[dw]
 ·rw[g]at bI;have bI:=uO bI;simp only[Zc6,Classical.not_not]at bI;obtain⟨ya,mM⟩:=bI;apply aa.skip;simp;rw[cG ⟨ya,mM⟩]at hR;have hg:=Gi ya mM;have hn:=ya.ok;simp only at hR hg;apply aa.ai aB fw [5];simp[XJ,uP,hn,mM,hg,hR];apply aa.ai aB fw [4];simp[XK];apply aa.ret;simp[dw]
def uS(v:cm)(i:Nat):Prop:=¬(v.getD i default).size>1000
instance(v:cm)(i:Nat):Decidable (uS v i):=by unfold uS;infer_instance
def Hd(n:aG)(cz:bY):Prop:=(ed n/\eD n cz)/\∀i,i<(eW n cz).length->uS (eW n cz) i
instance(n:aG)(cz:bY):Decidable (Hd n cz):=by unfold Hd;infer_instance
def awY:ay aj (bB [(34,s20),(35,s44),(36,s45)]):=by
 refine ay.cons (ay.cons (ay.cons ay.nil ?_) ?_) ?_
 ·rintro ts ⟨a,b,c,l,i,rfl,h1,h2⟩;exact⟨by simpa [aG.enc]using t45 ⟨a,b,c,l⟩ i h1 h2,λh=>by cases h⟩
 ·rintro ts ⟨a,b,c,l,i,rfl,h⟩;exact⟨by simpa [aG.enc]using t44 ⟨a,b,c,l⟩ i h,λ_=>rfl⟩
 ·rintro ts ⟨a,b,c,l,rfl,h⟩;exact⟨by simpa [aG.enc]using t20 ⟨a,b,c,l⟩ h,λ_=>rfl⟩
def M8{n:aG}{cz:bY}(h1:ed n)(h2:eD n cz):(eW n cz).length<=1000:=by
 unfold eW;rw[cG ⟨h1,h2⟩];have:=(Cb (Gi h1 h2)).1;have:=h1.ok.2.1;omega
def t22(n:aG)(cz:bY)(h1:n.an.length<=9223372036854775807)(h2:cz.length<=9223372036854775807):bb aj 22 [n.enc,.sl (aD cz)] (.bool (decide (Hd n cz))):=by
 obtain⟨v,hv⟩:=aW (decide (Hd n cz));rw[hv];have dv:Hd n cz↔(ed n/\eD n cz)/\∀i,i<(eW n cz).length->uS (eW n cz) i:=Iff.rfl;have dm:¬Hd n cz->v=false:=λh=>by rw[<-hv];simp[h]
 have UG:=λa b=>M8 (n:=n) (cz:=cz) a b;obtain⟨V,hV⟩:=aW (eW n cz);rw[hV]at dv UG;obtain⟨nt,nn,ns,an⟩:=n;simp only at h1;have aB:=awY;refine c22.ok (by simp) (aM ?_);simp[aG.enc];apply aa.ai aB fw [1,2];simp[aob];refine aa.lk (o:=[]) (l:=[(1,.v (.sl (aD cz))),(2,.v (.box [ti nt,ti nn,ti ns,.sl (aQ an)]))]) (aV:=1200) (by simp) ?_;apply aa.seq;obtain⟨c1,bI⟩:=aW (decide (¬ed ⟨nt,nn,ns,an⟩\/¬eD ⟨nt,nn,ns,an⟩ cz):Bool);refine aa.ci aB fw [(1,.v (.sl (aD cz))),(2,.v (.box [ti nt,ti nn,ti ns,.sl (aQ an)])),(15,.v (.bool c1))] ?_ ?_
 ·by_cases q1:ed ⟨nt,nn,ns,an⟩
  ·by_cases q2:eD ⟨nt,nn,ns,an⟩ cz
   ·have:c1=false:=by rw[<-bI];simp[q1,q2]
    simp[XL,uP,h1,h2,q1,q2,this]
   ·have:c1=true:=by rw[<-bI];simp[q2]
    simp[XL,uP,h1,h2,q1,q2,this]
  ·have:c1=true:=by rw[<-bI];simp[q1]
   simp[XL,uP,h1,q1,this]
 refine aa.cond rfl (λg=>?_) (λg=>?_)
 ·rw[g]at bI;have bI:=p7 bI;apply aa.ai aB fw [4];simp[aoc];apply aa.ret;rw[dm λh=>bI.elim (λq=>q (dv.1 h).1.1) (λq=>q (dv.1 h).1.2)];simp[dw]
 ·rw[g]at bI;have bI:=uO bI;simp only[Zc6,Classical.not_not]at bI;obtain⟨ya,mM⟩:=bI;apply aa.skip;simp;have hVl:=UG ya mM;apply aa.ai aB fw [5];simp[aod,uP,h1,h2,hV];apply aa.sq aB fw [5,6];simp[aoe];apply aa.block;refine aa.loop (λy:Nat=>⟨DM.look [(5,.v (.sl (bN V))),(6,.v (ti y))],cF [],2000,1000,[]⟩)
   (λy=>y<=V.length/\∀i,i<y->uS V i) (λy=>V.length-y) 0 (Le.bi (o:=[]) ?_ ?_ ?_ ?_) (by simp) (λy hy=>?_)
  iterate 4(·simp)
  obtain⟨mq,fA⟩:=hy;apply aa.sq aB fw [5,6,22];simp[aof];refine aa.cond rfl (λct=>?_) (λct=>?_)
  ·have ct:y<V.length:=by simpa using ct
   apply aa.skip;simp;apply aa.seq;apply aa.block;have rr:=dH ct;obtain⟨x,hx⟩:=aW (V.getD y default);rw[hx]at rr;apply aa.ai aB fw [5,6,30];simp[aog,ct,rr];refine aa.cond rfl (λh8=>?_) (λh8=>?_)
   ·have h8:x.size>1000:=by simpa using h8
    apply aa.ai aB fw [4];simp[aoh];apply aa.ret;rw[dm λh=>by have:=(dv.1 h).2 y ct;unfold uS at this;rw[hx]at this;exact this h8];simp[dw]
   ·have h8:¬x.size>1000:=by simpa using h8
    apply aa.skip;simp;apply aa.dZ aB fw [5,6];simp[aoi];rw[aA (x:=(y:Int)+1) (by omega)];refine⟨y+1,Le.bi (o:=[]) ?_ ?_ ?_ ?_,⟨by omega,λi hi=>?_⟩,by omega⟩;iterate 4(·simp)
    ·by_cases e:i=y
     ·subst e;unfold uS;rw[hx];exact h8
     ·exact fA i (by omega)
  ·have SI:y=V.length:=by simp at ct;omega
   subst SI;apply aa.exit;simp;apply aa.ai aB fw [4];simp[aoj];apply aa.ret;have:v=true:=by rw[<-hv];exact decide_eq_true (dv.2 ⟨⟨ya,mM⟩,fA⟩)
   rw[this];simp[dw]
def agS(x:Input):Prop:=Mj x/\x.av.length<=60/\x.insert.length<=100/\∀c∈x.av,c.read.length=x.insert.length
def ae7{x:Input}(h:agS x):Bw (bD x):=by
 obtain⟨h1,h2,h3,h4⟩:=h;have hs:(bD x).bn=2*x.av.length+1:=rfl;have ha:(bD x).bl=jF x:=rfl;refine⟨by omega,by omega,by rw[ha];have:=De h3 h2;omega,λa hm=>?_⟩;rw[ha]at hm;have h5:=(Kb h1 h2 a hm).2.2.2.2.2;have h6:=(CL hm).2;omega
def iY(l:List Bool):List (aK):=l.map λb=>[.bool b]
@[simp] def ajl(l:List Bool):(iY l).length=l.length:=by simp[iY]
def F1(l:List Bool)(i:Nat)(b:Bool):iY (l.set i b)=(iY l).set i [.bool b]:=by simp[iY,Zce]
def kG{l:List Bool}{y:Nat}(h:y<l.length):DM.rowAt (iY l) y=[.bool (l.getD y default)]:=by simp[DM.rowAt,iY,h]
def Ut{n:aG}{l:aU}(hn:xV n)(hl:Bw l):jk n l (jq n l):=by
 have:=AN hn hl l.bn.toNat (by have:=hl.1;omega);exact this
section
variable{f:bF}{sp:Nat}
structure OI where
 (rb rf rh q a hp m:Nat)
structure dM where
 ak:cm
 bU:List Bool
 f7:bY
 s:Qs
structure fL where
 n:aG
 l:aU
 c:di
 (fr to:Int)
def nE(k:OI)(z:fL):bM:=[.v (ti z.n.aN),.v (ti z.n.au),.v (ti z.n.start),.v (.sl (aQ z.n.an)),.v (ti z.l.bn),.v (.sl (ce z.l.bl)),.v (.sl (aD z.l.wC)),.v (ti z.c.au),.v (ti z.c.bn),.v (.sl (aZ z.c.cells)),.v (ti z.fr),.v (ti z.to),.bE k.rb 0,.bE k.rf 0,.bE k.rh 0,.ptr k.q 0]
def th(s:dM):Ob:=.bJ 0 63 2 (bN s.ak)
def t8(s:dM):Ob:=.bJ 0 4 1 (iY s.bU)
def ua(s:dM):Ob:=.bJ 0 3 1 (aD s.f7)
structure SV where
 k:OI
 z:fL
 s:dM
structure SV.at(v:SV)(f:bF)(p:Nat):Prop where
 sp:f p=some (.box (nE v.k v.z))
 rb:f v.k.rb=some (th v.s)
 rf:f v.k.rf=some (t8 v.s)
 rh:f v.k.rh=some (ua v.s)
 q:f v.k.q=some (qB v.k.a v.k.hp v.k.m v.s.s)
 hp:f v.k.hp=some (hB v.s.s)
 m:f v.k.m=some (mB v.s.s)
 a:f v.k.a=some (.box [.ptr p 0])
@[simp] def QC{a b:List Bool}:iY a=iY b↔a=b:=⟨λh=>by
 unfold iY at h;exact List.map_inj_right (f:=λb:Bool=>[T.bool b]) (λx y h=>by simpa using h)|>.1 h,λh=>by rw[h]⟩
def SV.DO{v w:SV}(h:v.at f sp)(k:w.at f sp):v=w:=by
 obtain⟨⟨rb,rf,rh,q,a,hp,m⟩,⟨⟨nt,nn,ns,an⟩,⟨ls,bl,bU⟩,⟨cn,cs,cl⟩,fr,to⟩,⟨ak,fn,f7,⟨heap,bP,es,mc,next,bG⟩⟩⟩:=v;obtain⟨⟨rb',rf',rh',q',a',hp',m'⟩,⟨⟨nt',nn',ns',axA⟩,⟨ls',ax6,ayn⟩,⟨cn',x9,cl'⟩,fr',to'⟩,⟨avx,fn',ayo,⟨W8,cJ,oO,mc',ahh,ZW⟩⟩⟩:=w;obtain⟨h1,h2,h3,h4,h5,h6,h7,h8⟩:=h;obtain⟨k1,k2,k3,k4,k5,k6,k7,k8⟩:=k;simp only[nE]at h1 k1;rw[h1]at k1;simp only[cI,Ob.box.injEq,KU,DV.v.injEq,T.int.injEq,T.sl.injEq,PP,Uz,H9,PQ,DV.bE.injEq,DV.ptr.injEq,Lt,rO]at k1;obtain⟨rfl,rfl,rfl,rfl,rfl,rfl,rfl,rfl,rfl,rfl,rfl,rfl,rfl,rfl,rfl,rfl⟩:=k1;simp only[th,t8,ua]at h2 h3 h4 k2 k3 k4;rw[h2]at k2;rw[h3]at k3;rw[h4]at k4;simp only[cI,Ob.bJ.injEq,tP,QC,H9,rO]at k2 k3 k4;subst k2 k3 k4;simp only[qB]at h5 k5;rw[h5]at k5;simp only[cI,Ob.box.injEq,KU,DV.pf.injEq,DV.ptr.injEq,DV.bE.injEq,DV.jG.injEq,DV.v.injEq,T.int.injEq,rO,Lt]at k5;obtain⟨rfl,⟨rfl,rfl⟩,rfl,rfl,rfl⟩:=k5;simp only[hB]at h6 k6;rw[h6]at k6;simp only[cI,Ob.bJ.injEq,xJ,rO]at k6;simp only[mB]at h7 k7;rw[h7]at k7;simp only[cI,Ob.map.injEq,Ko,rO]at k7;obtain⟨rfl,rfl⟩:=k7;subst k6;rfl
open Classical in
noncomputable def kg(f:bF)(sp:Nat):SV:=if h:∃v:SV,v.at f sp then Classical.choose h else⟨⟨0,0,0,0,0,0,0⟩,⟨⟨0,0,0,[]⟩,⟨0,[],[]⟩,⟨0,0,[]⟩,0,0⟩,⟨[],[],[],⟨[],0,[],0,0,0⟩⟩⟩
def jn{v:SV}(h:v.at f sp):kg f sp=v:=by
 have hx:∃v:SV,v.at f sp:=⟨v,h⟩;unfold kg;rw[Zdg hx];exact SV.DO (Classical.choose_spec hx) h
def SV.qv(v:SV)(sp:Nat):QV:=⟨v.k.a,v.k.hp,v.k.m,⟨sp,v.k.rb,nE v.k v.z,v.s.ak⟩,v.s.s⟩
def SV.at.qv{v:SV}(h:v.at f sp):(v.qv sp).at f v.k.q:=⟨h.q,h.hp,h.m,⟨h.a,h.sp,rfl,h.rb⟩⟩
abbrev SV.to(v:SV)(s:dM):SV:=⟨v.k,v.z,s⟩
def cy(f:bF)(v:SV)(s:dM):bF:=aR [(v.k.rb,th s),(v.k.rf,t8 s),(v.k.rh,ua s),(v.k.q,qB v.k.a v.k.hp v.k.m s.s),(v.k.hp,hB s.s),(v.k.m,mB s.s)] f
structure SV.Ne(v:SV)(sp:Nat):Prop where
 pA:sp≠v.k.rb
 pB:sp≠v.k.rf
 pC:sp≠v.k.rh
 wL:sp≠v.k.q
 o6:sp≠v.k.hp
 wM:sp≠v.k.m
 QD:sp≠v.k.a
 su:v.k.rb≠sp
 qV:v.k.rb≠v.k.rf
 sv:v.k.rb≠v.k.rh
 A1:v.k.rb≠v.k.q
 sx:v.k.rb≠v.k.hp
 A2:v.k.rb≠v.k.m
 QE:v.k.rb≠v.k.a
 qW:v.k.rf≠sp
 pD:v.k.rf≠v.k.rb
 sy:v.k.rf≠v.k.rh
 A3:v.k.rf≠v.k.q
 sA:v.k.rf≠v.k.hp
 A4:v.k.rf≠v.k.m
 QF:v.k.rf≠v.k.a
 sC:v.k.rh≠sp
 pE:v.k.rh≠v.k.rb
 pF:v.k.rh≠v.k.rf
 A5:v.k.rh≠v.k.q
 sD:v.k.rh≠v.k.hp
 A6:v.k.rh≠v.k.m
 QG:v.k.rh≠v.k.a
 A7:v.k.q≠sp
 vE:v.k.q≠v.k.rb
 vF:v.k.q≠v.k.rf
 vG:v.k.q≠v.k.rh
 zk:v.k.q≠v.k.hp
 Qh:v.k.q≠v.k.m
 nqa:v.k.q≠v.k.a
 sE:v.k.hp≠sp
 nO:v.k.hp≠v.k.rb
 nP:v.k.hp≠v.k.rf
 nQ:v.k.hp≠v.k.rh
 xW:v.k.hp≠v.k.q
 zl:v.k.hp≠v.k.m
 QH:v.k.hp≠v.k.a
 A8:v.k.m≠sp
 vH:v.k.m≠v.k.rb
 vI:v.k.m≠v.k.rf
 vJ:v.k.m≠v.k.rh
 OH:v.k.m≠v.k.q
 xX:v.k.m≠v.k.hp
 nma:v.k.m≠v.k.a
 QI:v.k.a≠sp
 NZ:v.k.a≠v.k.rb
 N1:v.k.a≠v.k.rf
 N3:v.k.a≠v.k.rh
 naq:v.k.a≠v.k.q
 N4:v.k.a≠v.k.hp
 nam:v.k.a≠v.k.m
def SV.at.ne{v:SV}(h:v.at f sp):v.Ne sp:=by
 obtain⟨oz,qo,qq,o8,hq,nk,hm,ha⟩:=h;simp only[nE,th,t8,ua,qB,hB,mB]at oz qo qq o8 hq nk hm;exact⟨λe=>by rw[e,qo]at oz;simp at oz,
  λe=>by rw[e,qq]at oz;simp at oz,
  λe=>by rw[e,o8]at oz;simp at oz,
  λe=>by rw[e,hq]at oz;simp at oz,
  λe=>by rw[e,nk]at oz;simp at oz,
  λe=>by rw[e,hm]at oz;simp at oz,
  λe=>by rw[e,ha]at oz;simp at oz,
  λe=>by rw[e,oz]at qo;simp at qo,
  λe=>by rw[e,qq]at qo;simp at qo,
  λe=>by rw[e,o8]at qo;simp at qo,
  λe=>by rw[e,hq]at qo;simp at qo,
  λe=>by rw[e,nk]at qo;simp at qo,
  λe=>by rw[e,hm]at qo;simp at qo,
  λe=>by rw[e,ha]at qo;simp at qo,
  λe=>by rw[e,oz]at qq;simp at qq,
  λe=>by rw[e,qo]at qq;simp at qq,
  λe=>by rw[e,o8]at qq;simp at qq,
  λe=>by rw[e,hq]at qq;simp at qq,
  λe=>by rw[e,nk]at qq;simp at qq,
  λe=>by rw[e,hm]at qq;simp at qq,
  λe=>by rw[e,ha]at qq;simp at qq,
  λe=>by rw[e,oz]at o8;simp at o8,
  λe=>by rw[e,qo]at o8;simp at o8,
  λe=>by rw[e,qq]at o8;simp at o8,
  λe=>by rw[e,hq]at o8;simp at o8,
  λe=>by rw[e,nk]at o8;simp at o8,
  λe=>by rw[e,hm]at o8;simp at o8,
  λe=>by rw[e,ha]at o8;simp at o8,
  λe=>by rw[e,oz]at hq;simp at hq,
  λe=>by rw[e,qo]at hq;simp at hq,
  λe=>by rw[e,qq]at hq;simp at hq,
  λe=>by rw[e,o8]at hq;simp at hq,
  λe=>by rw[e,nk]at hq;simp at hq,
  λe=>by rw[e,hm]at hq;simp at hq,
  λe=>by rw[e,ha]at hq;simp at hq,
  λe=>by rw[e,oz]at nk;simp at nk,
  λe=>by rw[e,qo]at nk;simp at nk,
  λe=>by rw[e,qq]at nk;simp at nk,
  λe=>by rw[e,o8]at nk;simp at nk,
  λe=>by rw[e,hq]at nk;simp at nk,
  λe=>by rw[e,hm]at nk;simp at nk,
  λe=>by rw[e,ha]at nk;simp at nk,
  λe=>by rw[e,oz]at hm;simp at hm,
  λe=>by rw[e,qo]at hm;simp at hm,
  λe=>by rw[e,qq]at hm;simp at hm,
  λe=>by rw[e,o8]at hm;simp at hm,
  λe=>by rw[e,hq]at hm;simp at hm,
  λe=>by rw[e,nk]at hm;simp at hm,
  λe=>by rw[e,ha]at hm;simp at hm,
  λe=>by rw[e,oz]at ha;simp at ha,
  λe=>by rw[e,qo]at ha;simp at ha,
  λe=>by rw[e,qq]at ha;simp at ha,
  λe=>by rw[e,o8]at ha;simp at ha,
  λe=>by rw[e,hq]at ha;simp at ha,
  λe=>by rw[e,nk]at ha;simp at ha,
  λe=>by rw[e,hm]at ha;simp at ha⟩
def lW{v:SV}(h:v.at f sp)(s:dM):(v.to s).at (cy f v s) sp:=by
 obtain⟨pA,pB,pC,wL,o6,wM,QD,su,qV,sv,A1,sx,A2,QE,qW,pD,sy,A3,sA,A4,QF,sC,pE,pF,A5,sD,A6,QG,A7,vE,vF,vG,zk,Qh,nqa,sE,nO,nP,nQ,xW,zl,QH,A8,vH,vI,vJ,OH,xX,nma,QI,NZ,N1,N3,naq,N4,nam⟩:=h.ne;refine⟨?_, ?_, ?_, ?_, ?_, ?_, ?_, ?_⟩
 ·simp[cy,pA,pB,pC,wL,o6,wM,h.sp]
 ·simp[cy]
 ·simp[cy,pD]
 ·simp[cy,pE,pF]
 ·simp[cy,vE,vF,vG]
 ·simp[cy,nO,nP,nQ,xW]
 ·simp[cy,vH,vI,vJ,OH,xX]
 ·simp[cy,NZ,N1,N3,naq,N4,nam,h.a]
def Ba(f:bF)(v:SV)(s s':dM):cy (cy f v s) (v.to s) s'=cy f v s':=by
 funext k;simp only[cy,aL,cq];by_cases h1:k=v.k.rb<;>by_cases h2:k=v.k.rf<;>by_cases h3:k=v.k.rh<;>by_cases h4:k=v.k.q<;>by_cases h5:k=v.k.hp<;>by_cases h6:k=v.k.m<;>simp[h1,h2,h3,h4,h5,h6]
def iD{v:SV}{r:Nat}(h:v.at f sp)(s:dM)(hr:f r=none):cy f v s r=none:=by
 have e1:r≠v.k.rb:=λe=>by rw[e,h.rb]at hr;cases hr
 have e2:r≠v.k.rf:=λe=>by rw[e,h.rf]at hr;cases hr
 have e3:r≠v.k.rh:=λe=>by rw[e,h.rh]at hr;cases hr
 have e4:r≠v.k.q:=λe=>by rw[e,h.q]at hr;cases hr
 have e5:r≠v.k.hp:=λe=>by rw[e,h.hp]at hr;cases hr
 have e6:r≠v.k.m:=λe=>by rw[e,h.m]at hr;cases hr
 simp[cy,e1,e2,e3,e4,e5,e6,hr]
def fm{v:SV}(h:v.at f sp):cy f v v.s=f:=by
 funext k;simp only[cy,aL,cq];split
 ·rename_i e;rw[e];exact h.rb.symm
 ·split
  ·rename_i e;rw[e];exact h.rf.symm
  ·split
   ·rename_i e;rw[e];exact h.rh.symm
   ·split
    ·rename_i e;rw[e];exact h.q.symm
    ·split
     ·rename_i e;rw[e];exact h.hp.symm
     ·split
      ·rename_i e;rw[e];exact h.m.symm
      ·rfl
def avy{f0:bF}{N aJ aV:Nat}{tm:dG}{l:fg}{L:df}{v:SV}(s:dM)(ba:dy f0 N)(hv:v.at f0 sp)(hn:N<=aV)
  (hL:∀p∈L,p.1=v.k.rb\/p.1=v.k.rf\/p.1=v.k.rh\/p.1=v.k.q\/p.1=v.k.hp\/p.1=v.k.m\/N<=p.1) (hF:∀r,r<N->aR L f0 r=cy f0 v s r)
  (g8:gf (aR L f0) (cy f0 v s) id tm l):
  Le ⟨tm,aR L f0,aJ,N,[]⟩ ⟨DM.look l,cy f0 v s,aV,N,[]⟩:=by
 have te:∀{r o},f0 r=some o->r<N:=λh=>(ba _ _ h).1;have hP:=lW hv s;obtain⟨pA,pB,pC,wL,o6,wM,QD,su,qV,sv,A1,sx,A2,QE,qW,pD,sy,A3,sA,A4,QF,sC,pE,pF,A5,sD,A6,QG,A7,vE,vF,vG,zk,Qh,nqa,sE,nO,nP,nQ,xW,zl,QH,A8,vH,vI,vJ,OH,xX,nma,QI,NZ,N1,N3,naq,N4,nam⟩:=hv.ne;refine Le.eA ba hn ?_ ?_ ?_ g8
 ·have:=te hv.rb;have:=te hv.rf;have:=te hv.rh;have:=te hv.q;have:=te hv.hp;have:=te hv.m;simp;omega
 ·have:∀(L:df),(∀p∈L,p.1=v.k.rb\/p.1=v.k.rf\/p.1=v.k.rh\/p.1=v.k.q\/p.1=v.k.hp\/p.1=v.k.m\/N<=p.1)->bZ N [(v.k.rb,th s),(v.k.rf,t8 s),(v.k.rh,ua s),(v.k.q,qB v.k.a v.k.hp v.k.m s.s),(v.k.hp,hB s.s),(v.k.m,mB s.s)] L:=by
   intro L;induction L with
   |nil=>intro _;trivial
   |cons p L ih=>
    intro h;refine⟨λhq=>?_,ih λp hp=>h p (by simp[hp])⟩;rcases h p (by simp)with h|h|h|h|h|h|h
    ·exact⟨_,by rw[h];exact .head _⟩
    ·exact⟨_,by rw[h];exact .tail _ (.head _)⟩
    ·exact⟨_,by rw[h];exact .tail _ (.tail _ (.head _))⟩
    ·exact⟨_,by rw[h];exact .tail _ (.tail _ (.tail _ (.head _)))⟩
    ·exact⟨_,by rw[h];exact .tail _ (.tail _ (.tail _ (.tail _ (.head _))))⟩
    ·exact⟨_,by rw[h];exact .tail _ (.tail _ (.tail _ (.tail _ (.tail _ (.head _)))))⟩
    ·omega
  exact this _ hL
 ·have g:∀{r o o'},f0 r=some o'->cy f0 v s r=some o->aR L f0 r=some o:=λh1 h2=>(hF _ (te h1)).trans h2;refine⟨⟨_,g hv.rb hP.rb,.inr ⟨rfl,λk hk=>by simp[be,th]at hk⟩,λ_=>bq _⟩,⟨_,g hv.rf hP.rf,.inr ⟨rfl,λk hk=>by simp[be,t8]at hk⟩,λ_=>bq _⟩,⟨_,g hv.rh hP.rh,.inr ⟨rfl,λk hk=>by simp[be,ua]at hk⟩,λ_=>bq _⟩,
   ⟨_,g hv.q hP.q,.inr ⟨rfl,λk hk=>?_⟩,λ_=>bq _⟩,⟨_,g hv.hp hP.hp,.inr ⟨rfl,λk hk=>by simp[be,hB]at hk⟩,λ_=>bq _⟩,⟨_,g hv.m hP.m,.inr ⟨rfl,λk hk=>?_⟩,λ_=>bq _⟩,trivial⟩
  ·simp only[qB,be,bR,aT,xP,oJ,gm,lZ,lS]at hk;rcases hk with rfl|rfl|rfl
   ·exact⟨_,_,g hv.a hP.a,hP.a,bq _⟩
   ·exact⟨_,_,g hv.hp hP.hp,hP.hp,bq _⟩
   ·exact⟨_,_,g hv.m hP.m,hP.m,bq _⟩
  ·exfalso;simp only[mB,be,KQ,wJ,iF]at hk;obtain⟨e,⟨e',_,rfl⟩,hk⟩:=hk;simp[aT]at hk
end
abbrev s37:DM.Spec:=cK (λts=>∃cn cs cl h f t,ts=[.agg [ti cn,ti cs,.sl (aZ cl)],.agg [ti h,ti f,ti t]]/\Bm ⟨cn,cs,cl⟩) (fun|[c,.agg [.int _ h,.int _ f,.int _ t]]=>.agg [ti (F3 (vA c) h f t).aH,ti (F3 (vA c) h f t).size,ti (F3 (vA c) h f t).nC,ti (F3 (vA c) h f t).arg]|_=>.bool false) true
def axB{l:List (Nat×DM.Spec)}(h:ay aj (bB l)):ay aj (bB ((144,s37)::l)):=by
 refine ay.cons h ?_;rintro ts ⟨cn,cs,cl,h,f,t,rfl,h1⟩;exact⟨by simpa [di.enc,Cell.enc]using t37 ⟨cn,cs,cl⟩ h f t h1,λ_=>rfl⟩
def k9(z:fL)(ak:cm)(h f t:Int):dj:=if f=z.fr/\t=z.to then bv ak h else(F3 z.c h f t).val
def t83{f0:bF}{p N:Nat}{h f t:Int}{v:SV}(hN:∀r,N<=r->f0 r=none)(hv:v.at f0 p)(hc:Bm v.z.c)(hh:f=v.z.fr/\t=v.z.to->0<=h/\h<v.s.ak.length):
  aY aj 122 [.ptr p 0,.v (ti h),.v (ti f),.v (ti t)] f0 ⟨True,.v (.agg [ti (k9 v.z v.s.ak h f t).aH,ti (k9 v.z v.s.ak h f t).size]),f0⟩:=by
 obtain⟨R,hR⟩:=aW (k9 v.z v.s.ak h f t);rw[hR];unfold k9 at hR;have aB:=axB ay.nil;refine c83.rJ hN (by simp) λba=>?_;have h1:=hv.sp;have h2:=hv.rb;have oY:p<N:=(ba p _ h1).1;have SS:v.k.rb<N:=(ba v.k.rb _ h2).1;simp only[nE,th]at h1 h2;obtain⟨⟨cn,cs,cl⟩,hz⟩:=aW v.z.c;rw[hz]at h1 hc hR;simp only at h1;have np:∀k,p≠N+k:=λk=>by omega
 have nb:∀k,v.k.rb≠N+k:=λk=>by omega
 simp;apply aa.ai aB fw [0,1,2,3,8];simp[apA];apply aa.seq;obtain⟨c1,bI⟩:=aW (decide (f=v.z.fr/\t=v.z.to):Bool);refine aa.ci aB fw [(0,.ptr p 0),(1,.v (ti h)),(2,.v (ti f)),(3,.v (ti t)),(8,.ptr (N+8+1) 0),(22,.v (.bool c1))] ?_ ?_
 ·by_cases q1:f=v.z.fr
  ·by_cases q2:t=v.z.to
   ·have:c1=true:=by rw[<-bI];simp[q1,q2]
    simp[XZ,h1,np,fQ,q1,q2,this]
   ·have:c1=false:=by rw[<-bI];simp[q2]
    simp[XZ,h1,np,fQ,q1,q2,this]
  ·have:c1=false:=by rw[<-bI];simp[q1]
   simp[XZ,h1,np,fQ,q1,this]
 refine aa.cond rfl (λg=>?_) (λg=>?_)
 ·have g:c1=true:=by simpa using g
  rw[g]at bI;have q:=p7 bI;rw[cG q]at hR;obtain⟨x0,x1⟩:=hh q;obtain⟨x,rfl⟩:=jm x0;have hx:x<v.s.ak.length:=by omega
  have rr:=dH hx;have hb:v.s.ak.getD x default=R:=by rw[<-hR];simp[bv]
  rw[hb]at rr;apply aa.ai aB fw [8];simp[apB,h1,h2,np,nb,fQ,hx,rr];refine aa.le (avy (v:=v) v.s (l:=[(8,.v (.box [ti R.aH,ti R.size]))]) (aV:=N+1000) ba hv (by omega) ?_ ?_ ?_) ?_
  ·simp
  ·intro r hr;rw[fm hv];have:∀k,r≠N+k:=λk=>by omega
   simp[this,fQ]
  ·simp;rw[fm hv];exact bQ (l:=[]) ba (by omega) (by simp)
  rw[fm hv];apply aa.ret;simp[PC]
 ·have g:c1=false:=by simpa using g
  rw[g]at bI;have q:=uO bI;rw[bj q]at hR;obtain⟨⟨a1,a2,a3,a4⟩,ha⟩:=aW (F3 ⟨cn,cs,cl⟩ h f t);rw[ha]at hR;subst hR;apply aa.skip;simp;apply aa.ai aB fw [8];simp[apC,h1,np,fQ,uP,hc,ha];refine aa.le (avy (v:=v) v.s (l:=[(8,.v (.box [ti a1,ti a2]))]) (aV:=N+1000) ba hv (by omega) ?_ ?_ ?_) ?_
  ·simp
  ·intro r hr;rw[fm hv];have:∀k,r≠N+k:=λk=>by omega
   simp[this,fQ]
  ·simp;rw[fm hv];exact bQ (l:=[]) ba (by omega) (by simp)
  rw[fm hv];apply aa.ret;simp[PC]
noncomputable def k83:bM->bF->gC
 |[.ptr p 0,.v (.int .i64 h),.v (.int .i64 g),.v (.int .i64 t)],f=>⟨(∃v:SV,v.at f p)/\Bm (kg f p).z.c/\(g=(kg f p).z.fr/\t=(kg f p).z.to->0<=h/\h<(kg f p).s.ak.length),.v (.agg [ti (k9 (kg f p).z (kg f p).s.ak h g t).aH,ti (k9 (kg f p).z (kg f p).s.ak h g t).size]),f⟩
 |_,f=>⟨False,.undef,f⟩
def alb{v:SV}{f:bF}{p:Nat}{h g t:Int}(hv:v.at f p):k83 [.ptr p 0,.v (ti h),.v (ti g),.v (ti t)] f=⟨Bm v.z.c/\(g=v.z.fr/\t=v.z.to->0<=h/\h<v.s.ak.length),.v (.agg [ti (k9 v.z v.s.ak h g t).aH,ti (k9 v.z v.s.ak h g t).size]),f⟩:=by
 have hx:∃v:SV,v.at f p:=⟨v,hv⟩;simp only[k83,jn hv,hx,rO]
def alc:∀args ab,(k83 args ab).ok->(∀N,(∀r,N<=r->ab r=none)->aY aj 122 args ab (k83 args ab))/\∀r,ab r=none->(k83 args ab).ab r=none:=by
 intro args ab h;unfold k83 at h⊢;split at h
 ·rename_i p h' g t;obtain⟨⟨v,hv⟩,hc,hh⟩:=h;rw[jn hv]at hc hh⊢;exact⟨λN hN=>aY.of (t83 hN hv hc hh) rfl rfl,λr hr=>hr⟩
 ·exact h.elim
def avz{l:List (Nat×DM.Spec)}(h:ay aj (bB l)):ay aj (bB ((122,eL k83)::l)):=ay.iL h alc
abbrev It:=Int×Int×Int
def itT(x:It):aK:=[ti x.1,ti x.2.1,ti x.2.2]
def nH(l:List It):List (aK):=l.map itT
@[simp] def GJ(l:List It):(nH l).length=l.length:=by simp[nH]
def Cv{l:List It}{y:Nat}(h:y<l.length):DM.rowAt (nH l) y=itT (l.getD y default):=by simp[DM.rowAt,nH,h]
def nI(z:fL)(x:It):Prop:=x.2.1=z.fr/\x.2.2=z.to
instance(z:fL)(x:It):Decidable (nI z x):=by unfold nI;infer_instance
def fV(z:fL)(l:List It):Bool:=l.any λx=>decide (nI z x)
def me{f0:bF}{N aJ aV:Nat}{tm:dG}{l:fg}{L:df}(ba:dy f0 N)(hn:N<=aV)(hL:∀p∈L,N<=p.1)(g8:gf (aR L f0) (aR [] f0) id tm l):
  Le ⟨tm,aR L f0,aJ,N,[]⟩ ⟨DM.look l,aR [] f0,aV,N,[]⟩:=by
 refine Le.eA (l1:=[]) ba hn (by simp) ?_ (by simp[d9]) g8;clear g8;induction L with
 |nil=>trivial
 |cons q L ih=>
  refine⟨λhq=>?_,ih λp hp=>hL p (by simp[hp])⟩;have:=hL q (by simp);omega
def t59{f0:bF}{p N:Nat}{l:List It}{v:SV}(hN:∀r,N<=r->f0 r=none)(hv:v.at f0 p)(hl:l.length<=1000):
  aY aj 87 [.ptr p 0,.v (.sl (nH l))] f0 ⟨True,.v (.bool (fV v.z l)),f0⟩:=by
 obtain⟨R,hR⟩:=aW (fV v.z l);rw[hR];have aB:=cR;refine c59.rJ hN (by simp) λba=>?_;have h1:=hv.sp;have oY:p<N:=(ba p _ h1).1;simp only[nE]at h1;have np:∀k,p≠N+k:=λk=>by omega
 simp;apply aa.ai aB fw [0,1];simp[agA];apply aa.sq aB fw [0,7,8,9];simp[agB];apply aa.block;refine aa.loop (λi:Nat=>⟨DM.look [(0,.ptr p 0),(7,.v (.sl (nH l))),(8,.v (ti l.length)),(9,.v (ti i))],aR [] f0,N+1000,N,[]⟩)
  (λi=>i<=l.length/\fV v.z (l.take i)=false) (λi=>l.length-i) 0 (me ba (by omega) (by simp) ?_) (by simp[fV]) (λi hi=>?_)
 ·simp[h1]
 obtain⟨hi,hw⟩:=hi;apply aa.ai aB fw [0,7,8,9,10];simp[agC];apply aa.seq;refine aa.cond rfl (λg=>?_) (λg=>?_)
 ·have g:i<l.length:=by simpa using g
  have rr:=Cv g;obtain⟨⟨xh,xf,xt⟩,hx⟩:=aW (l.getD i default);rw[hx]at rr;simp only[itT]at rr;have Gv:fV v.z (l.take (i+1))=decide (nI v.z (xh,xf,xt)):=by
   rw[dh g,hx];unfold fV at hw⊢;rw[List.any_append,hw];simp
  apply aa.skip;simp;apply aa.seq;apply aa.block;apply aa.ai aB fw [0,6,7,8,9];simp[apD,rr,g];refine aa.le (me (l:=[(0,.ptr p 0),(6,.v (.box [ti xh,ti xf,ti xt])),(7,.v (.sl (nH l))),(8,.v (ti l.length)),(9,.v (ti i))]) (aV:=N+2000) ba (by omega) (by simp;omega) ?_) ?_
  ·simp[fQ,h1];exact bQ (l:=[]) ba (by omega) (by simp)
  obtain⟨c1,bI⟩:=aW (decide (nI v.z (xh,xf,xt)):Bool);refine aa.ci aB fw [(0,.ptr p 0),(7,.v (.sl (nH l))),(8,.v (ti l.length)),(9,.v (ti i)),(28,.v (.bool c1))] ?_ ?_
  ·by_cases q1:xf=v.z.fr
   ·by_cases q2:xt=v.z.to
    ·have:c1=true:=by rw[<-bI];simp[nI,q1,q2]
     simp[X0,h1,q1,q2,this]
    ·have:c1=false:=by rw[<-bI];simp[nI,q2]
     simp[X0,h1,q1,q2,this]
   ·have:c1=false:=by rw[<-bI];simp[nI,q1]
    simp[X0,h1,q1,this]
  refine aa.cond rfl (λg2=>?_) (λg2=>?_)
  ·have g2:c1=true:=by simpa using g2
   subst g2;have:R=true:=by
    rw[<-hR];unfold fV;rw[Zcv];exact⟨(xh,xf,xt),hx▸bC g,by simpa using bI⟩
   subst this;apply aa.ai aB fw [4];simp[apE];apply aa.ret;simp[dw];rfl
  ·have g2:c1=false:=by simpa using g2
   subst g2;apply aa.skip;simp;apply aa.dZ aB fw [0,7,8,9];simp[apF];rw[aA (by omega)];refine⟨i+1,me ba (by omega) (by simp) ?_,⟨by omega,by rw[Gv,bI]⟩,by omega⟩;simp[h1]
 ·have g:¬i<l.length:=by simpa using g
  have:R=false:=by
   rw[<-hR,<-hw,TE (by omega)]
  subst this;apply aa.exit;simp;apply aa.ai aB fw [4];simp[agD];apply aa.ret;simp[dw];rfl
def ahv:aK->It
 |[a,b,c]=>(d0 a,d0 b,d0 c)
 |_=>(0,0,0)
def ol(l:List (aK)):List It:=l.map ahv
@[simp] def zy(l:List It):ol (nH l)=l:=ib (λx=>by simp[ahv,itT,d0]) l
@[simp] def avA:nH []=[]:=rfl
def axC{f0:bF}{p N:Nat}{v:SV}(hN:∀r,N<=r->f0 r=none)(hv:v.at f0 p):
  aY aj 87 [.ptr p 0,.bH] f0 ⟨True,.v (.bool false),f0⟩:=by
 have aB:=cR;refine c59.rJ hN (by simp) λba=>?_;have h1:=hv.sp;simp only[nE]at h1;simp;apply aa.ai aB fw [0,1];simp[agA];apply aa.sq aB fw [8,9];simp[agB];apply aa.block;refine aa.loop (λi:Nat=>⟨DM.look [(8,.v (ti 0)),(9,.v (ti 0))],aR [] f0,N+1000,N,[]⟩)
  (λi=>True) (λi=>0) 0 (me ba (by omega) (by simp) ?_) trivial (λi hi=>?_)
 ·simp
 apply aa.ai aB fw [10];simp[agC];apply aa.seq;refine aa.cond rfl (λg=>by cases g) (λg=>?_);apply aa.exit;simp;apply aa.ai aB fw [4];simp[agD];apply aa.ret;simp[dw];rfl
noncomputable def k59:bM->bF->gC
 |[.ptr p 0,.v (.sl aw)],f=>⟨(∃v:SV,v.at f p)/\aw=nH (ol aw)/\aw.length<=1000,.v (.bool (fV (kg f p).z (ol aw))),f⟩
 |[.ptr p 0,.bH],f=>⟨∃v:SV,v.at f p,.v (.bool false),f⟩
 |_,f=>⟨False,.undef,f⟩
def ald{v:SV}{f:bF}{p:Nat}{l:List It}(hv:v.at f p):k59 [.ptr p 0,.v (.sl (nH l))] f=⟨l.length<=1000,.v (.bool (fV v.z l)),f⟩:=by
 have hx:∃v:SV,v.at f p:=⟨v,hv⟩;simp only[k59,jn hv,hx,rO,zy,GJ]
def afK{v:SV}{f:bF}{p:Nat}(hv:v.at f p):k59 [.ptr p 0,.bH] f=⟨True,.v (.bool false),f⟩:=by
 have hx:∃v:SV,v.at f p:=⟨v,hv⟩;simp only[k59,hx]
def ale:∀args ab,(k59 args ab).ok->(∀N,(∀r,N<=r->ab r=none)->aY aj 87 args ab (k59 args ab))/\∀r,ab r=none->(k59 args ab).ab r=none:=by
 intro args ab h;unfold k59 at h⊢;split at h
 ·rename_i p aw;obtain⟨⟨v,hv⟩,hr,hl⟩:=h;obtain⟨l,UG⟩:=aW (ol aw);rw[UG]at hr⊢;subst hr;rw[jn hv];exact⟨λN hN=>aY.of (t59 hN hv (by simpa using hl)) rfl rfl,λr hr=>hr⟩
 ·rename_i p;obtain⟨v,hv⟩:=h;exact⟨λN hN=>aY.of (axC hN hv) rfl rfl,λr hr=>hr⟩
 ·exact h.elim
def alf{l:List (Nat×DM.Spec)}(h:ay aj (bB l)):ay aj (bB ((87,eL k59)::l)):=ay.iL h ale
abbrev s84:DM.Spec:=cK (λts=>∃c l,ts=[ti c,.sl (bN l)]/\(∀v∈l,kc v)/\0<=c/\c<=4000000000000/\l.length<=1000000) (fun|[.int _ c,.sl l]=>.agg [ti (ee c (oD l)).aH,ti (ee c (oD l)).size]|_=>.bool false) true
def afo{l:List (Nat×DM.Spec)}(h:ay aj (bB l)):ay aj (bB ((123,s84)::l)):=by
 refine ay.cons h ?_;rintro ts ⟨c,l,rfl,h1,h2,h3,h4⟩;exact⟨by simpa using t84 c l h1 h2 h3 h4,λ_=>rfl⟩
def ll(z:fL)(ak:cm)(cM:Int)(l:List It):dj:=ee cM (l.map λx=>k9 z ak x.1 x.2.1 x.2.2)
def aav(z:fL)(ak:cm)(l:List It):Prop:=∀x∈l,x.2.1=z.fr/\x.2.2=z.to->0<=x.1/\x.1<ak.length
def KG{z:fL}{ak:cm}(hc:G0 z.c)(hb:∀v∈ak,kc v)(h f t:Int):kc (k9 z ak h f t):=by
 unfold k9;split
 ·unfold bv;rw[List.getD];cases e:ak[h.toNat]? with
  |none=>simp[kc,default];decide
  |some x=>exact hb x (zK e)
 ·exact Zi hc h f t
def rj{f0:bF}{N r:Nat}{L:df}(hr:r<N)(hL:∀p∈L,N<=p.1):aR L f0 r=f0 r:=
 fY λo' h=>by have:=hL _ h;simp only at this;omega
def SV.at.aR{v:SV}{f0:bF}{p N:Nat}{L:df}(h:v.at f0 p)(ba:dy f0 N)(hL:∀p∈L,N<=p.1):v.at (DM.aR L f0) p:=by
 have g:∀{r o},f0 r=some o->DM.aR L f0 r=some o:=λe=>(rj (ba _ _ e).1 hL).trans e;exact⟨g h.sp,g h.rb,g h.rf,g h.rh,g h.q,g h.hp,g h.m,g h.a⟩
def t61{f0:bF}{p N:Nat}{cM:Int}{l:List It}{v:SV}(hN:∀r,N<=r->f0 r=none)(hv:v.at f0 p)(hc:Bm v.z.c)(fW:G0 v.z.c)(hb:∀x∈v.s.ak,kc x)(hi:aav v.z v.s.ak l)(hp:0<=cM/\cM<=4000000000000)(hl:l.length<=1000):
  aY aj 89 [.ptr p 0,.v (ti cM),.v (.sl (nH l))] f0 ⟨True,.v (.agg [ti (ll v.z v.s.ak cM l).aH,ti (ll v.z v.s.ak cM l).size]),f0⟩:=by
 obtain⟨R,hR⟩:=aW (ll v.z v.s.ak cM l);rw[hR];unfold ll at hR;obtain⟨Vs,OG⟩:=aW (l.map (λx=>k9 v.z v.s.ak x.1 x.2.1 x.2.2));rw[OG]at hR;have hVl:Vs.length=l.length:=by rw[<-OG];simp
 have He:∀x∈Vs,kc x:=by
  rw[<-OG];intro x hx;obtain⟨y,_,rfl⟩:=iF.1 hx;exact KG fW hb _ _ _
 have aB:=avz (afo ay.nil);refine c61.rJ hN (by simp) λba=>?_;have h1:=hv.sp;have oY:p<N:=(ba p _ h1).1;have np:∀k,p≠N+k:=λk=>by omega
 have eS:(∃cs,f0 p=some (.box cs)):=⟨_,h1⟩;simp;apply aa.ai aB fw [0,1,2,6];simp[agE];apply aa.ai aB fw [0,1,2,6,7];simp[agF];apply aa.sq aB fw [0,1,6,7,10,11,12];simp[agG];refine aa.le (Le.eA (l1:=[(N+7,.box [.v (ti 0),.v (ti 0)])]) (l:=[(0,.ptr p 0),(1,.v (ti cM)),(6,.ptr (N+7) 0),(7,.bH),(10,.v (.sl (nH l))),(11,.v (ti l.length)),(12,.v (ti 0))]) (aV:=N+500) ba ?_ ?_ ?_ ?_ ?_) ?_
 ·omega
 ·simp
 ·simp[bZ,fQ]
 ·simp[d9,eZ,fQ]
 ·simp[np,fQ,eS]
 refine aa.le (Le.pQ (k:=7) 63 (sz:=2) (by omega) (by simp)) ?_;rw[kW];apply aa.block;refine aa.loop (λi:Nat=>⟨DM.look [(0,.ptr p 0),(1,.v (ti cM)),(6,.ptr (N+7) 0),(7,.bE (N+500) i),(10,.v (.sl (nH l))),(11,.v (ti l.length)),(12,.v (ti i))],aR [(N+7,.box [.v (ti 0),.v (ti 0)]),(N+500,.bJ i 63 2 (bN (Vs.take i)))] f0,N+1000,N,[]⟩)
  (λi=>i<=l.length) (λi=>l.length-i) 0 (Le.eA ba ?_ ?_ ?_ ?_ ?_) (by omega) (λi hi2=>?_)
 ·omega
 ·simp
 ·simp[bZ]
 ·simp[d9,eZ]
 ·simp[np,eS]
 apply aa.ai aB fw [0,1,6,7,10,11,12,13];simp[agH];apply aa.seq;refine aa.cond rfl (λg=>?_) (λg=>?_)
 ·have g:i<l.length:=by simpa using g
  have rr:=Cv g;have Pk:=hi _ (show l.getD i default∈l by simp[List.getD,g]);have hV:Vs.take (i+1)=Vs.take i++[k9 v.z v.s.ak (l.getD i default).1 (l.getD i default).2.1 (l.getD i default).2.2]:=by
   rw[ZbI,xi (by omega)];simp only[<-OG,Zb0,Option.toList_some];simp[List.getD,g]
  obtain⟨⟨xh,xf,xt⟩,hx⟩:=aW (l.getD i default);rw[hx]at rr Pk hV;simp only[itT]at rr Pk hV;obtain⟨⟨vc,vz⟩,hvv⟩:=aW (k9 v.z v.s.ak xh xf xt);rw[hvv]at hV;apply aa.skip;simp;apply aa.seq;apply aa.block;apply aa.ai aB fw [0,1,6,7,9,10,11,12];simp[apG,rr,g];refine aa.le (Le.eA (l1:=[(N+7,.box [.v (ti 0),.v (ti 0)]),(N+500,.bJ i 63 2 (bN (Vs.take i)))]) (l:=[(0,.ptr p 0),(1,.v (ti cM)),(6,.ptr (N+7) 0),(7,.bE (N+500) i),(9,.v (.box [ti xh,ti xf,ti xt])),(10,.v (.sl (nH l))),(11,.v (ti l.length)),(12,.v (ti i))]) (aV:=N+3000) ba ?_ ?_ ?_ ?_ ?_) ?_
  ·omega
  ·simp
  ·simp[bZ,fQ]
  ·simp[d9,eZ,fQ]
  ·simp[np,fQ,eS];exact bQ ba (by omega) (by simp)
  have mM:v.at (aR [(N+7,.box [.v (ti 0),.v (ti 0)]),(N+500,.bJ i 63 2 (bN (Vs.take i)))] f0) p:=hv.aR ba (by simp);have k1:=alb (h:=xh) (g:=xf) (t:=xt) mM;rw[hvv]at k1;have FE:eX 2 1 [ti vc,ti vz]=[[ti vc,ti vz]]:=rfl;have qz:du 16 (i+1):=by simp[du];omega
  have hTl:(Vs.take i).length=i:=by rw[xj];omega
  apply aa.JM aB fw (rs:=X1) ji (by kernel_rfl) [0,1,6,7,10,11,12];simp[X1,k1,hc,FE,hTl,qz];refine⟨λz1 z2=>Pk ⟨z1,z2⟩, ?_⟩;have hvt:bN (Vs.take (i+1))=bN (Vs.take i)++[[ti vc,ti vz]]:=by rw[hV];simp[bN]
  apply aa.dZ aB fw [0,1,6,7,10,11,12];simp[apH];rw[aA (by omega)];refine⟨i+1,Le.eA ba ?_ ?_ ?_ ?_ ?_,by omega,by omega⟩
  ·omega
  ·simp
  ·simp[bZ]
  ·simp[d9,eZ,hvt]
  ·simp[np,eS,hvt]
 ·have g:¬i<l.length:=by simpa using g
  have hie:i=l.length:=by omega
  subst hie;rw[TE (by omega)];apply aa.exit;simp;refine aa.le (Le.eA (l1:=[(N+7,.box [.v (ti 0),.v (ti 0)])]) (l:=[(1,.v (ti cM)),(6,.ptr (N+7) 0),(7,.v (.sl (bN Vs)))]) (aV:=N+5000) ba ?_ ?_ ?_ ?_ ?_) ?_
  ·omega
  ·simp
  ·simp[bZ]
  ·simp[d9,eZ]
  ·simp;exact bQ ba (by omega) (by simp)
  apply aa.ai aB fw [6];simp[agI,uP,hVl,hR];refine⟨He,hp.1,hp.2,by omega, ?_⟩;refine aa.le (me (l:=[(6,.v (.box [ti R.aH,ti R.size]))]) (aV:=N+6000) ba (by omega) (by simp) ?_) ?_
  ·simp;exact bQ (l:=[]) ba (by omega) (by simp)
  apply aa.ret;simp[PD];rfl
def axD{f0:bF}{p N:Nat}{cM:Int}{v:SV}(hN:∀r,N<=r->f0 r=none)(hv:v.at f0 p)(hp:0<=cM/\cM<=4000000000000):
  aY aj 89 [.ptr p 0,.v (ti cM),.bH] f0 ⟨True,.v (.agg [ti (ll v.z v.s.ak cM []).aH,ti (ll v.z v.s.ak cM []).size]),f0⟩:=by
 obtain⟨R,hR⟩:=aW (ll v.z v.s.ak cM []);rw[hR];unfold ll at hR;simp only[VP]at hR;have aB:=avz (afo ay.nil);refine c61.rJ hN (by simp) λba=>?_;simp;apply aa.ai aB fw [0,1,2,6];simp[agE];apply aa.ai aB fw [0,1,2,6,7];simp[agF];apply aa.sq aB fw [1,6,7,11,12];simp[agG];apply aa.block;refine aa.loop (λi:Nat=>⟨DM.look [(1,.v (ti cM)),(6,.ptr (N+7) 0),(7,.bH),(11,.v (ti 0)),(12,.v (ti 0))],aR [(N+7,.box [.v (ti 0),.v (ti 0)])] f0,N+1000,N,[]⟩)
  (λi=>True) (λi=>0) 0 (Le.eA ba ?_ ?_ ?_ ?_ ?_) trivial (λi hi=>?_)
 ·omega
 ·simp
 ·simp[bZ,fQ]
 ·simp[d9,eZ,fQ]
 ·simp[fQ]
 apply aa.ai aB fw [1,6,7,13];simp[agH];apply aa.seq;refine aa.cond rfl (λg=>by cases g) (λg=>?_);apply aa.exit;simp;apply aa.ai aB fw [6];simp[agI,uP,hR,hp];refine aa.le (me (l:=[(6,.v (.box [ti R.aH,ti R.size]))]) (aV:=N+6000) ba (by omega) (by simp) ?_) ?_
 ·simp;exact bQ (l:=[]) ba (by omega) (by simp)
 apply aa.ret;simp[PD];rfl
structure SV.okB(v:SV):Prop where
 cf:Bm v.z.c
 co:G0 v.z.c
 b:∀x∈v.s.ak,kc x
noncomputable def k61:bM->bF->gC
 |[.ptr p 0,.v (.int .i64 c),.v (.sl aw)],f=>⟨(∃v:SV,v.at f p)/\(kg f p).okB/\aw=nH (ol aw)/\aw.length<=1000/\aav (kg f p).z (kg f p).s.ak (ol aw)/\0<=c/\c<=4000000000000,.v (.agg [ti (ll (kg f p).z (kg f p).s.ak c (ol aw)).aH,ti (ll (kg f p).z (kg f p).s.ak c (ol aw)).size]),f⟩
 |[.ptr p 0,.v (.int .i64 c),.bH],f=>⟨(∃v:SV,v.at f p)/\0<=c/\c<=4000000000000,.v (.agg [ti (ll (kg f p).z (kg f p).s.ak c []).aH,ti (ll (kg f p).z (kg f p).s.ak c []).size]),f⟩
 |_,f=>⟨False,.undef,f⟩
def alg{v:SV}{f:bF}{p:Nat}{c:Int}{l:List It}(hv:v.at f p):k61 [.ptr p 0,.v (ti c),.v (.sl (nH l))] f=⟨v.okB/\l.length<=1000/\aav v.z v.s.ak l/\0<=c/\c<=4000000000000,.v (.agg [ti (ll v.z v.s.ak c l).aH,ti (ll v.z v.s.ak c l).size]),f⟩:=by
 have hx:∃v:SV,v.at f p:=⟨v,hv⟩;simp only[k61,jn hv,hx,rO,zy,GJ]
def afL{v:SV}{f:bF}{p:Nat}{c:Int}(hv:v.at f p):k61 [.ptr p 0,.v (ti c),.bH] f=⟨0<=c/\c<=4000000000000,.v (.agg [ti (ll v.z v.s.ak c []).aH,ti (ll v.z v.s.ak c []).size]),f⟩:=by
 have hx:∃v:SV,v.at f p:=⟨v,hv⟩;simp only[k61,jn hv,hx,rO]
def alh:∀args ab,(k61 args ab).ok->(∀N,(∀r,N<=r->ab r=none)->aY aj 89 args ab (k61 args ab))/\∀r,ab r=none->(k61 args ab).ab r=none:=by
 intro args ab h;unfold k61 at h⊢;split at h
 ·rename_i p c aw;obtain⟨⟨v,hv⟩,ho,hr,hl,hi,hp⟩:=h;obtain⟨l,UG⟩:=aW (ol aw);rw[UG]at hr hi⊢;subst hr;rw[jn hv]at ho hi⊢;exact⟨λN hN=>aY.of (t61 hN hv ho.cf ho.co ho.b hi hp (by simpa using hl)) rfl rfl,λr hr=>hr⟩
 ·rename_i p c;obtain⟨⟨v,hv⟩,hp⟩:=h;rw[jn hv];exact⟨λN hN=>aY.of (axD hN hv hp) rfl rfl,λr hr=>hr⟩
 ·exact h.elim
def ali{l:List (Nat×DM.Spec)}(h:ay aj (bB l)):ay aj (bB ((89,eL k61)::l)):=ay.iL h alh
def pG(z:fL)(bU:List Bool)(l:List It):Bool:=l.any λx=>decide (nI z x)&& !(bU.getD x.1.toNat default)
def t89{f0:bF}{p N:Nat}{l:List It}{v:SV}(hN:∀r,N<=r->f0 r=none)(hv:v.at f0 p)(hf:∀x∈l,nI v.z x->0<=x.1/\x.1<v.s.bU.length)(hl:l.length<=1000):
  aY aj 128 [.ptr p 0,.v (.sl (nH l))] f0 ⟨True,.v (.bool (!pG v.z v.s.bU l)),f0⟩:=by
 obtain⟨R,hR⟩:=aW ((!pG v.z v.s.bU l));rw[hR];have aB:=cR;refine c89.rJ hN (by simp) λba=>?_;have h1:=hv.sp;have oY:p<N:=(ba p _ h1).1;simp only[nE]at h1;have h2:=hv.rf;simp only[t8]at h2;have np:∀k,p≠N+k:=λk=>by omega
 simp;apply aa.ai aB fw [0,1];simp[apI];apply aa.sq aB fw [0,7,8,9];simp[apJ];apply aa.block;refine aa.loop (λi:Nat=>⟨DM.look [(0,.ptr p 0),(7,.v (.sl (nH l))),(8,.v (ti l.length)),(9,.v (ti i))],aR [] f0,N+1000,N,[]⟩)
  (λi=>i<=l.length/\pG v.z v.s.bU (l.take i)=false) (λi=>l.length-i) 0 (me ba (by omega) (by simp) ?_) (by simp[pG]) (λi hi=>?_)
 ·simp[h1]
 obtain⟨hi,hw⟩:=hi;apply aa.ai aB fw [0,7,8,9,10];simp[apK];apply aa.seq;refine aa.cond rfl (λg=>?_) (λg=>?_)
 ·have g:i<l.length:=by simpa using g
  have rr:=Cv g;obtain⟨⟨xh,xf,xt⟩,hx⟩:=aW (l.getD i default);rw[hx]at rr;simp only[itT]at rr;have Gv:pG v.z v.s.bU (l.take (i+1))=(decide (nI v.z (xh,xf,xt))&& !(v.s.bU.getD xh.toNat default)):=by
   rw[dh g,hx];unfold pG at hw⊢;rw[List.any_append,hw];simp
  apply aa.skip;simp;apply aa.seq;apply aa.block;apply aa.ai aB fw [0,6,7,8,9];simp[apL,rr,g];refine aa.le (me (l:=[(0,.ptr p 0),(6,.v (.box [ti xh,ti xf,ti xt])),(7,.v (.sl (nH l))),(8,.v (ti l.length)),(9,.v (ti i))]) (aV:=N+2000) ba (by omega) (by simp;omega) ?_) ?_
  ·simp[fQ,h1];exact bQ (l:=[]) ba (by omega) (by simp)
  obtain⟨c1,bI⟩:=aW ((decide (nI v.z (xh,xf,xt))&& !(v.s.bU.getD xh.toNat default)):Bool);refine aa.ci aB fw [(0,.ptr p 0),(7,.v (.sl (nH l))),(8,.v (ti l.length)),(9,.v (ti i)),(39,.v (.bool c1))] ?_ ?_
  ·by_cases q1:xf=v.z.fr
   ·by_cases q2:xt=v.z.to
    ·obtain⟨x0,x1⟩:=hf _ (show(xh,xf,xt)∈l from hx▸bC g) ⟨q1,q2⟩;simp only at x0 x1;obtain⟨y,rfl⟩:=jm x0;have hy:y<v.s.bU.length:=by omega
     have rb:=kG hy;obtain⟨b,hb⟩:=aW (v.s.bU.getD y default);rw[hb]at rb;have:c1= !b:=by rw[<-bI];simp only[iA,hb];simp[nI,q1,q2]
     cases b<;>simp[X2,h1,h2,hy,rb,q1,q2,this]
    ·have:c1=false:=by rw[<-bI];simp[nI,q2]
     simp[X2,h1,q1,q2,this]
   ·have:c1=false:=by rw[<-bI];simp[nI,q1]
    simp[X2,h1,q1,this]
  refine aa.cond rfl (λg2=>?_) (λg2=>?_)
  ·have g2:c1=true:=by simpa using g2
   subst g2;have:R=false:=by
    rw[<-hR];have:pG v.z v.s.bU l=true:=by
     unfold pG;rw[Zcv];exact⟨(xh,xf,xt),hx▸bC g,bI⟩
    rw[this];rfl
   subst this;apply aa.ai aB fw [4];simp[apM];apply aa.ret;simp[dw];rfl
  ·have g2:c1=false:=by simpa using g2
   subst g2;apply aa.skip;simp;apply aa.dZ aB fw [0,7,8,9];simp[apN];rw[aA (by omega)];refine⟨i+1,me ba (by omega) (by simp) ?_,⟨by omega,by rw[Gv,bI]⟩,by omega⟩;simp[h1]
 ·have g:¬i<l.length:=by simpa using g
  have:R=true:=by
   rw[TE (by omega)]at hw;rw[<-hR,hw];rfl
  subst this;apply aa.exit;simp;apply aa.ai aB fw [4];simp[apO];apply aa.ret;simp[dw];rfl
noncomputable def k89:bM->bF->gC
 |[.ptr p 0,.v (.sl aw)],f=>⟨(∃v:SV,v.at f p)/\aw=nH (ol aw)/\aw.length<=1000/\(∀x∈ol aw,nI (kg f p).z x->0<=x.1/\x.1<(kg f p).s.bU.length),.v (.bool (!pG (kg f p).z (kg f p).s.bU (ol aw))),f⟩
 |_,f=>⟨False,.undef,f⟩
def alj{v:SV}{f:bF}{p:Nat}{l:List It}(hv:v.at f p):k89 [.ptr p 0,.v (.sl (nH l))] f=⟨l.length<=1000/\(∀x∈l,nI v.z x->0<=x.1/\x.1<v.s.bU.length),.v (.bool (!pG v.z v.s.bU l)),f⟩:=by
 have hx:∃v:SV,v.at f p:=⟨v,hv⟩;simp only[k89,jn hv,hx,rO,zy,GJ]
def alk:∀args ab,(k89 args ab).ok->(∀N,(∀r,N<=r->ab r=none)->aY aj 128 args ab (k89 args ab))/\∀r,ab r=none->(k89 args ab).ab r=none:=by
 intro args ab h;unfold k89 at h⊢;split at h
 ·rename_i p aw;obtain⟨⟨v,hv⟩,hr,hl,hf⟩:=h;obtain⟨l,UG⟩:=aW (ol aw);rw[UG]at hr hf⊢;subst hr;rw[jn hv]at hf⊢;exact⟨λN hN=>aY.of (t89 hN hv hf (by simpa using hl)) rfl rfl,λr hr=>hr⟩
 ·exact h.elim
def avB{l:List (Nat×DM.Spec)}(h:ay aj (bB l)):ay aj (bB ((128,eL k89)::l)):=ay.iL h alk
section
variable{ak:cm}
def ilt(a:Int):a<0\/0<=a:=by omega
def gB(st:dM)(h:Int)(v:dj):dM:=
 if st.bU.getD h.toNat false=true\/v.aH>=1099511627776\/¬v.lt (bv st.ak h)then st
 else if 0<=st.f7.getD h.toNat 0 then⟨st.ak.set h.toNat v,st.bU,st.f7,vN (st.ak.set h.toNat v) st.s (st.f7.getD h.toNat 0) h⟩
 else⟨st.ak.set h.toNat v,st.bU,st.f7.set h.toNat st.s.next,iR (st.ak.set h.toNat v) st.s h⟩
def rU(st:dM):dM:=⟨st.ak,st.bU.set (st.s.e 0).x.toNat true,st.f7,gr st.ak st.s⟩
def aaA:∀(n:Nat) (l:cY),l.Nodup->(∀x∈l,x<n)->l.length<=n
 |0,[],_,_=>by simp
 |0,a::l,_,h=>by have:=h a (by simp);omega
 |n+1,l,hn,h=>by
  have:=aaA n (l.erase n) (hn.erase n) λx hx=>by
   have h1:=h x (List.mem_of_mem_erase hx);have h2:x≠n:=(hn.mem_erase_iff.1 hx).1;omega
  have:=List.le_length_erase (a:=n) (l:=l);omega
structure WF(n:Nat)(st:dM):Prop where
 lb:st.ak.length=n
 lf:st.bU.length=n
 lh:st.f7.length=n
 ok:st.s.ok st.ak
 pl:dt st.s
 hp:pR st.ak st.s
 xY:∀e∈st.s.heap,0<=e.x/\e.x<n/\st.bU.getD e.x.toNat false=false/\st.f7.getD e.x.toNat 0=e.h/\0<=e.h
 VS:∀x:Nat,x<n->0<=st.f7.getD x 0->st.bU.getD x false=false->∃e∈st.s.heap,e.x=x
 old:∀x:Nat,x<n->st.f7.getD x 0<0->st.bU.getD x false=false/\st.ak.getD x default=⟨1099511627776,0⟩
 QN:∀x:Nat,x<n->0<=st.f7.getD x 0->(st.ak.getD x default).aH<1099511627776
 nx:∀x:Nat,x<n->st.f7.getD x 0<st.s.next
 nc:0<=st.s.next/\st.s.next<=st.s.bG
 bo:∀v∈st.ak,kc v
def Qs.ok.of{s:Qs}{a b:cm}(h:s.ok a)(e:b.length=a.length):s.ok b:=⟨h.pl,h.st,h.qM,λx hx=>by rw[e];exact h.r x hx⟩
def fo{α:Type}{l:List α}{i j:Nat}{d x:α}(hi:i<l.length):(l.set i x).getD j d=if j=i then x else l.getD j d:=by
 by_cases h:j=i
 ·subst h;simp[List.getD,hi]
 ·have:¬i=j:=λe=>h e.symm;simp[List.getD,this,h]
section
variable{n:Nat}{st:dM}
def WF.DO(h:WF n st){i j:Nat}(hi:i<st.s.heap.length)(hj:j<st.s.heap.length)(e:(st.s.e i).x=(st.s.e j).x):i=j:=by
 obtain⟨_,_,_,a,_⟩:=h.xY _ (gu.2 ⟨i,hi,rfl⟩);obtain⟨_,_,_,b,_⟩:=h.xY _ (gu.2 ⟨j,hj,rfl⟩);refine h.pl.nd i j hi hj ?_;rw[<-a,<-b,e]
def WF.len(h:WF n st):st.s.heap.length<=n:=by
 have:=aaA n (st.s.heap.map λe=>e.x.toNat) ?_ ?_
 ·simpa using this
 ·unfold List.Nodup;rw[Zdm];intro i j hi0 hj hij e;simp only[RB]at hj;have hi:i<st.s.heap.length:=by omega
  have a:=h.xY _ (gu.2 ⟨i,hi,rfl⟩);have b:=h.xY _ (gu.2 ⟨j,hj,rfl⟩);have:=h.DO hi hj ?_
  ·omega
  ·simp only[Zb0]at e;simp only[Qs.e,iA,List.getD,xi hi,xi hj,Rs]at a b⊢;omega
 ·intro x hx;obtain⟨e,he,rfl⟩:=iF.1 hx;have:=h.xY e he;omega
def WF.ahw(h:WF n st){x:Nat}(hx:x<n):(st.ak.getD x default).aH<1099511627776\/(st.ak.getD x default).size=0:=by
 rcases ilt (st.f7.getD x 0)with h0|h0
 ·right;rw[(h.old x hx h0).2]
 ·exact .inl (h.QN x hx h0)
def oq(st:dM)(h:Int)(v:dj):(gB st h v).bU=st.bU:=by
 unfold gB;split
 ·rfl
 ·split<;>rfl
def QO(st:dM)(h:Int)(v:dj):(gB st h v).ak=st.ak\/((gB st h v).ak=st.ak.set h.toNat v/\st.bU.getD h.toNat false=false/\v.aH<1099511627776/\v.lt (bv st.ak h)):=by
 unfold gB;split
 ·exact .inl rfl
 ·rename_i hc;have fW:st.bU.getD h.toNat false=false/\v.aH<1099511627776/\v.lt (bv st.ak h):=by
   simp only[Zc6,Decidable.not_not]at hc;exact⟨by simpa using hc.1,by omega,hc.2.2⟩
  split<;>exact .inr ⟨rfl,fW⟩
def aaB{s:Qs}{i:Nat}{x:Int}(hi:i<s.heap.length)(e:lA):e∈(oj s i x).heap↔e=⟨x,(s.e i).h,s.bG⟩\/∃k:Nat,k<s.heap.length/\k≠i/\e=s.e k:=by
 have hl:(oj s i x).heap.length=s.heap.length:=by simp[oj]
 rw[gu];constructor
 ·rintro⟨k,hk,rfl⟩;rw[vf hi];split
  ·exact .inl rfl
  ·exact .inr ⟨k,by omega,by assumption,rfl⟩
 ·rintro(rfl|⟨k,hk,cj,rfl⟩)
  ·exact⟨i,by omega,by rw[vf hi,cG rfl]⟩
  ·exact⟨k,by omega,by rw[vf hi,bj cj]⟩
def N6{s:Qs}{i:Nat}{x:Int}(hp:dt s)(hi:i<s.heap.length):jh (oj s i x) (vN ak s (s.e i).h x):=by
 have Uo:(oj s i x).heap.length=s.heap.length:=by simp[oj]
 unfold vN;rw[hp i hi];simp only[Rs,iA];exact(xK (by omega)).trans (mA rfl)
def als{s:Qs}{i:Nat}{x:Int}(ho:s.ok ak)(hp:dt s)(hi:i<s.heap.length)(hx:0<=x/\x<ak.length):(vN ak s (s.e i).h x).ok ak:=by
 have Uo:(oj s i x).heap.length=s.heap.length:=by simp[oj]
 unfold vN;rw[hp i hi];simp only[Rs,iA];exact Em rfl (Gt (Tk ho hi hx) (by omega)).1
def WF.Gu(h:WF n st){x:Int}(hx:0<=x/\x<n){v:dj}(hv:kc v):WF n (gB st x v):=by
 unfold gB;split
 ·exact h
 ·rename_i hc;simp only[Zc6,Decidable.not_not]at hc;obtain⟨c1,c2,c3⟩:=hc;have c1:st.bU.getD x.toNat false=false:=by simpa using c1
  have OB:0<=x/\x<st.ak.length:=by have:=h.lb;omega
  have hxn:x.toNat<n:=by omega
  have KX:(st.ak.set x.toNat v).length=st.ak.length:=by simp
  have CX:∀w∈st.ak.set x.toNat v,kc w:=λw hw=>by
   rcases TG hw with hw|rfl
   ·exact h.bo w hw
   ·exact hv
  have HG:∀y:Nat,y<n->(st.ak.set x.toNat v).getD y default=if y=x.toNat then v else st.ak.getD y default:=λy hy=>fo (by omega)
  split
  ·rename_i hh;obtain⟨e,he,EW⟩:=h.VS x.toNat hxn hh c1;obtain⟨i,hi,rfl⟩:=gu.1 he;have EW:(st.s.e i).x=x:=by omega
   have hd:st.f7.getD x.toNat 0=(st.s.e i).h:=by rw[<-EW];exact(h.xY _ he).2.2.2.1
   rw[hd];have hs:=N6 (ak:=st.ak.set x.toNat v) (x:=x) h.pl hi;have lP:∀e,e∈(vN (st.ak.set x.toNat v) st.s (st.s.e i).h x).heap↔e=⟨x,(st.s.e i).h,st.s.bG⟩\/∃k:Nat,k<st.s.heap.length/\k≠i/\e=st.s.e k:=λe=>(hs.mem e).trans (aaB hi e);have pz:(vN (st.ak.set x.toNat v) st.s (st.s.e i).h x).next=st.s.next:=hs.next;have Ks:(vN (st.ak.set x.toNat v) st.s (st.s.e i).h x).bG=st.s.bG+1:=hs.bG;refine⟨by simp[h.lb],h.lf,h.lh,als (h.ok.of KX) h.pl hi (by rw[KX];exact OB),Vr h.pl hi,
    Vt h.pl hi (aax h.hp h.ok.r hi OB EW (λk hk cj e=>cj (h.DO hk hi (e.trans EW.symm))) c3),λe he=>?_,λy hy mq fA=>?_,λy hy mq=>?_,λy hy mq=>?_,λy hy=>?_, ?_,CX⟩
   ·rcases(lP e).1 he with rfl|⟨k,hk,_,rfl⟩
    ·exact⟨hx.1,hx.2,c1,hd,(h.xY _ (gu.2 ⟨i,hi,rfl⟩)).2.2.2.2⟩
    ·exact h.xY _ (gu.2 ⟨k,hk,rfl⟩)
   ·obtain⟨e,he,hey⟩:=h.VS y hy mq fA;obtain⟨k,hk,rfl⟩:=gu.1 he;by_cases Jd:k=i
    ·subst Jd;exact⟨_,(lP _).2 (.inl rfl),by simp only;omega⟩
    ·exact⟨_,(lP _).2 (.inr ⟨k,hk,Jd,rfl⟩),hey⟩
   ·have:=h.old y hy mq;refine⟨this.1, ?_⟩;simp only;rw[HG y hy,bj]
    ·exact this.2
    ·rintro rfl;simp only at mq;omega
   ·simp only;rw[HG y hy];split
    ·omega
    ·exact h.QN y hy mq
   ·rw[show(dM.mk (st.ak.set x.toNat v) st.bU st.f7 (vN (st.ak.set x.toNat v) st.s (st.s.e i).h x)).s.next=st.s.next from pz];exact h.nx y hy
   ·have:=h.nc;simp only[pz,Ks];omega
  ·rename_i hh;have cj:∀e∈st.s.heap,e.x≠x:=λe he ex=>by
    obtain⟨a1,a2,a3,a4,a5⟩:=h.xY e he;rw[ex]at a4;omega
   have afQ:∀a b:lA,a∈st.s.heap->b∈st.s.heap->(jD (st.ak.set x.toNat v) a b↔jD st.ak a b):=λa b ha hb=>by
    unfold jD;rw[Cw OB (h.xY a ha).1,Cw OB (h.xY b hb).1,bj (cj a ha),bj (cj b hb)]
   have Ll:pR (st.ak.set x.toNat v) st.s:=λk k1 k2 hk=>h.hp k k1 k2 ((afQ _ _ (gu.2 ⟨k,k2,rfl⟩) (gu.2 ⟨_,by omega,rfl⟩)).1 hk);have hs:jh (gF st.s x) (iR (st.ak.set x.toNat v) st.s x):=xK (by simp[gF]);have lP:∀e,e∈(iR (st.ak.set x.toNat v) st.s x).heap↔e∈st.s.heap\/e=⟨x,st.s.next,st.s.bG⟩:=λe=>(hs.mem e).trans (by simp[gF]);have pz:(iR (st.ak.set x.toNat v) st.s x).next=st.s.next+1:=hs.next;have Ks:(iR (st.ak.set x.toNat v) st.s x).bG=st.s.bG+1:=hs.bG;have Z4:∀y:Nat,y<n->(st.f7.set x.toNat st.s.next).getD y 0=if y=x.toNat then st.s.next else st.f7.getD y 0:=λy hy=>fo (by have:=h.lh;omega)
   have I9:=h.nc;refine⟨by simp[h.lb],h.lf,by simp[h.lh],(Gt (wO (h.ok.of KX) (by rw[KX];exact OB)) (by simp[gF])).1,zm h.pl (λe he=>?_),Cm Ll,λe he=>?_,λy hy mq fA=>?_,λy hy mq=>?_,λy hy mq=>?_,λy hy=>?_, ?_,CX⟩
   ·obtain⟨a1,a2,a3,a4,a5⟩:=h.xY e he;have:=h.nx e.x.toNat (by omega);omega
   ·rcases(lP e).1 he with he|rfl
    ·obtain⟨a1,a2,a3,a4,a5⟩:=h.xY e he;refine⟨a1,a2,a3, ?_,a5⟩;simp only;rw[Z4 _ (by omega),bj]
     ·exact a4
     ·have:=cj e he;omega
    ·refine⟨hx.1,hx.2,c1, ?_,I9.1⟩;simp only;rw[Z4 _ (by omega),cG rfl]
   ·simp only at mq;rw[Z4 y hy]at mq;split at mq
    ·rename_i e;exact⟨_,(lP _).2 (.inr rfl),by simp only;omega⟩
    ·obtain⟨e,he,hey⟩:=h.VS y hy mq fA;exact⟨e,(lP e).2 (.inl he),hey⟩
   ·simp only at mq;rw[Z4 y hy]at mq;split at mq
    ·omega
    ·rename_i e;have:=h.old y hy mq;refine⟨this.1, ?_⟩;simp only;rw[HG y hy,bj e];exact this.2
   ·simp only at mq⊢;rw[Z4 y hy]at mq;rw[HG y hy];split
    ·omega
    ·rename_i e;rw[bj e]at mq;exact h.QN y hy mq
   ·show(st.f7.set x.toNat st.s.next).getD y 0<(iR (st.ak.set x.toNat v) st.s x).next;rw[Z4 y hy,pz];have:=h.nx y hy;split<;>omega
   ·simp only[pz,Ks];omega
def Dp(h:WF n st){x:Int}(hx:0<=x/\x<n)(v:dj):(gB st x v).s.bG<=st.s.bG+1:=by
 unfold gB;split
 ·omega
 ·rename_i hc;simp only[Zc6,Decidable.not_not]at hc;obtain⟨c1,c2,c3⟩:=hc;have c1:st.bU.getD x.toNat false=false:=by simpa using c1
  split
  ·rename_i hh;obtain⟨e,he,EW⟩:=h.VS x.toNat (by omega) hh c1;obtain⟨i,hi,rfl⟩:=gu.1 he;have EW:(st.s.e i).x=x:=by omega
   have hd:st.f7.getD x.toNat 0=(st.s.e i).h:=by rw[<-EW];exact(h.xY _ he).2.2.2.1
   rw[hd];have hs:=N6 (ak:=st.ak.set x.toNat v) (x:=x) h.pl hi;exact Int.le_of_eq hs.bG
  ·have hs:jh (gF st.s x) (iR (st.ak.set x.toNat v) st.s x):=xK (by simp[gF]);exact Int.le_of_eq hs.bG
def sr(st:dM)(x:Int)(v:dj):Prop:=
 (0<=x/\x<st.ak.length)/\st.bU.length=st.ak.length/\st.f7.length=st.ak.length/\kc v/\
  (¬(st.bU.getD x.toNat false=true\/v.aH>=1099511627776\/¬v.lt (bv st.ak x))->
   if 0<=st.f7.getD x.toNat 0 then NW st.s (st.ak.set x.toNat v) (st.f7.getD x.toNat 0) x else zi st.s (st.ak.set x.toNat v) x)
def WF.sr(h:WF n st){x:Int}(hx:0<=x/\x<n){v:dj}(hv:kc v)(hn:n<=1000)(hc:st.s.bG<=1000000000000):sr st x v:=by
 have OB:0<=x/\x<st.ak.length:=by have:=h.lb;omega
 refine⟨OB,by rw[h.lf,h.lb],by rw[h.lh,h.lb],hv,λc=>?_⟩;simp only[Zc6,Decidable.not_not]at c;obtain⟨c1,c2,c3⟩:=c;have c1:st.bU.getD x.toNat false=false:=by simpa using c1
 have hl:=h.len;have I9:=h.nc;have KX:(st.ak.set x.toNat v).length=st.ak.length:=by simp
 split
 ·rename_i hh;obtain⟨e,he,EW⟩:=h.VS x.toNat (by omega) hh c1;obtain⟨i,hi,rfl⟩:=gu.1 he;have EW:(st.s.e i).x=x:=by omega
  have hd:st.f7.getD x.toNat 0=(st.s.e i).h:=by rw[<-EW];exact(h.xY _ he).2.2.2.1
  rw[hd];exact aaz (h.ok.of KX) h.pl hi (by rw[KX];exact OB) (by omega) (by omega)
 ·exact⟨h.ok.of KX,by rw[KX];exact OB,by omega,by omega,by omega⟩
def Bb{s:Qs}(cj:s.heap≠[])(e:lA):e∈(gr ak s).heap↔∃k:Nat,0<k/\k<s.heap.length/\s.e k=e:=by
 have zL:0<s.heap.length:=Nr.2 cj;have hl:(gM s).heap.length=s.heap.length-1:=by
  simp only[gM,xj,Qs.d6];omega
 unfold gr;rw[bj cj,((mA rfl).mem e),gu,hl];constructor
 ·rintro⟨k,hk,rfl⟩;rw[qX hk];split
  ·exact⟨s.heap.length-1,by omega,by omega,rfl⟩
  ·exact⟨k,by omega,by omega,rfl⟩
 ·rintro⟨k,k1,k2,rfl⟩;by_cases hk:k=s.heap.length-1
  ·refine⟨0,by omega, ?_⟩;rw[qX (by omega),cG rfl,hk]
  ·refine⟨k,by omega, ?_⟩;rw[qX (by omega),bj (by omega)]
def WF.yw(h:WF n st)(hn:n<=1000):yw st.s st.ak:=⟨h.ok,h.pl.nd,by have:=h.len;omega⟩
def WF.pop(h:WF n st)(cj:st.s.heap≠[]):WF n (rU st):=by
 have zL:0<st.s.heap.length:=Nr.2 cj;obtain⟨x,hx⟩:=aW ((st.s.e 0).x);have Pk:(st.s.e (0:Nat)).x=x:=hx;obtain⟨a1,a2,a3,a4,a5⟩:=h.xY _ (gu.2 ⟨0,zL,rfl⟩);rw[Pk]at a1 a2 a3 a4;unfold rU;rw[hx];have hs:jh (gM st.s) (gr st.ak st.s):=by unfold gr;rw[bj cj];exact mA rfl
 have hfd:∀y:Nat,y<n->(st.bU.set x.toNat true).getD y false=if y=x.toNat then true else st.bU.getD y false:=λy hy=>fo (by have:=h.lf;omega)
 have pz:(gr st.ak st.s).next=st.s.next:=hs.next;have Ks:(gr st.ak st.s).bG=st.s.bG:=hs.bG;refine⟨h.lb,by simp[h.lf],h.lh, ?_,xL h.pl,Be h.hp,λe he=>?_,λy hy mq fA=>?_,λy hy mq=>?_,h.QN,λy hy=>?_, ?_,h.bo⟩
 ·show(gr st.ak st.s).ok st.ak;unfold gr;rw[bj cj];exact Em rfl (Bd h.ok h.pl.nd zL)
 ·obtain⟨k,k1,k2,rfl⟩:=(Bb cj e).1 he;obtain⟨b1,b2,b3,b4,b5⟩:=h.xY _ (gu.2 ⟨k,k2,rfl⟩);refine⟨b1,b2, ?_,b4,b5⟩;simp only;rw[hfd _ (by omega),bj]
  ·exact b3
  ·intro e;have:=h.DO k2 zL (by rw[Pk];omega);omega
 ·simp only at fA mq;rw[hfd y hy]at fA;split at fA
  ·cases fA
  ·rename_i hyx;obtain⟨e,he,hey⟩:=h.VS y hy mq fA;obtain⟨k,hk,rfl⟩:=gu.1 he;refine⟨_,(Bb cj _).2 ⟨k, ?_,hk,rfl⟩,hey⟩;rcases Zdj k with rfl|DJ
   ·rw[Pk]at hey;omega
   ·exact DJ
 ·have:=h.old y hy mq;simp only at mq⊢;refine⟨?_,this.2⟩;rw[hfd y hy,bj]
  ·exact this.1
  ·rintro rfl;omega
 ·show st.f7.getD y 0<(gr st.ak st.s).next;rw[pz];exact h.nx y hy
 ·show 0<=(gr st.ak st.s).next/\(gr st.ak st.s).next<=(gr st.ak st.s).bG;rw[pz,Ks];exact h.nc
end
end
def kr(r:dx)(x:Int):Prop:=(r.kind=3/\r.a=x)\/(r.kind=4/\(r.a=x\/r.b=x))
instance(r:dx)(x:Int):Decidable (kr r x):=by unfold kr;infer_instance
def t86(r:dx)(x:Int):bb aj 125 [.agg r.enc,ti x] (.bool (decide (kr r x))):=by
 obtain⟨k,h,a,b,p,o⟩:=r;obtain⟨c1,bI⟩:=aW (decide (kr ⟨k,h,a,b,p,o⟩ x):Bool);rw[bI];simp only[kr]at bI;have aB:=cR;refine c86.ok (by simp) (aM ?_);simp[dx.enc];apply aa.ai aB fw [1,2];simp[apz];refine aa.lk (o:=[]) (l:=[(1,.v (ti x)),(2,.v (.box [ti k,ti h,ti a,ti b,ti p,ti o]))]) (aV:=1200) (by simp) ?_;refine aa.ci aB fw [(4,.v (.bool c1))] ?_ ?_
 ·by_cases q1:k=3
  ·have q4:¬(3:Int)=4:=by omega
   subst q1;by_cases q2:a=x
   ·have:c1=true:=by rw[<-bI];simp[q2]
    simp[HX,q2,this]
   ·have:c1=false:=by rw[<-bI];simp[q2]
    simp[HX,q2,this]
  ·by_cases q4:k=4
   ·subst q4;by_cases q2:a=x
    ·have:c1=true:=by rw[<-bI];simp[q2]
     simp[HX,q2,this]
    ·by_cases q3:b=x
     ·have:c1=true:=by rw[<-bI];simp[q3]
      simp[HX,q2,q3,this]
     ·have:c1=false:=by rw[<-bI];simp[q2,q3]
      simp[HX,q2,q3,this]
   ·have:c1=false:=by rw[<-bI];simp[q1,q4]
    simp[HX,q1,q4,this]
 apply aa.ret;simp[dw]
abbrev s86:DM.Spec:=cK (λts=>∃k h a b p o x,ts=[.agg [ti k,ti h,ti a,ti b,ti p,ti o],ti x]) (fun|[.agg [.int _ k,.int _ h,.int _ a,.int _ b,.int _ p,.int _ o],.int _ x]=>.bool (decide (kr ⟨k,h,a,b,p,o⟩ x))|_=>.bool false) true
def axE{l:List (Nat×DM.Spec)}(h:ay aj (bB l)):ay aj (bB ((125,s86)::l)):=by
 refine ay.cons h ?_;rintro ts ⟨k,h,a,b,p,o,x,rfl⟩;exact⟨by simpa [dx.enc]using t86 ⟨k,h,a,b,p,o⟩ x,λ_=>rfl⟩
def nl(z:fL)(a:cC):Prop:=a.f>z.fr\/(a.f=z.fr/\a.t>=z.to)
instance(z:fL)(a:cC):Decidable (nl z a):=by unfold nl;infer_instance
def ii(f:bF)(b:Nat):Nat:=match f b with
 |some (.box [.ptr p _])=>p
 |_=>0
def axF{f0:bF}{b p N i:Nat}{v:SV}(hN:∀r,N<=r->f0 r=none)(hb:f0 b=some (.box [.ptr p 0]))(hv:v.at f0 p)(hi:i<v.z.l.bl.length):
  aY aj 141 [.v (ti i),.ptr b 0] f0 ⟨True,.v (.bool (decide (nl v.z (v.z.l.bl.getD i default)))),f0⟩:=by
 obtain⟨R,hR⟩:=aW (decide (nl v.z (v.z.l.bl.getD i default)));rw[hR];have aB:=cR;refine awN.rJ hN (by simp) λba=>?_;have h1:=hv.sp;have oY:p<N:=(ba p _ h1).1;have SS:b<N:=(ba b _ hb).1;simp only[nE]at h1;have np:∀k,p≠N+k:=λk=>by omega
 have nb:∀k,b≠N+k:=λk=>by omega
 have rr:=qR hi;obtain⟨⟨af,oi,ae,ac,ao⟩,hx⟩:=aW (v.z.l.bl.getD i default);rw[hx]at rr;simp only[hx,nl]at hR;simp only[cC.enc]at rr;simp;apply aa.ai aB fw [0,1];simp[aja];apply aa.ai aB fw [1,4];simp[ajb,hb,h1,hi,rr];refine aa.le (me (l:=[(1,.ptr b 0),(4,.v (.box [ti af,ti oi,ti ae,ti ac,.sl (eJ ao)]))]) (aV:=N+2000) ba (by omega) (by simp;omega) ?_) ?_
 ·simp[fQ,hb];exact bQ (l:=[]) ba (by omega) (by simp)
 refine aa.ci aB fw [(3,.v (.bool R))] ?_ ?_
 ·by_cases q1:af>v.z.fr
  ·have:R=true:=by rw[<-hR];simp[q1]
   simp[JV,hb,h1,q1,this]
  ·by_cases q2:af=v.z.fr
   ·subst q2;by_cases q3:oi>=v.z.to
    ·have:R=true:=by rw[<-hR];simp[q3]
     simp[JV,hb,h1,q3,this]
    ·have:R=false:=by rw[<-hR];simp[q3]
     simp[JV,hb,h1,q3,this]
   ·have:R=false:=by rw[<-hR];simp[q1,q2]
    simp[JV,hb,h1,q1,q2,this]
 apply aa.ret;simp[dw];rfl
noncomputable def QJ:bM->bF->gC
 |[.v (.int .i64 i),.ptr b 0],f=>⟨f b=some (.box [.ptr (ii f b) 0])/\(∃v:SV,v.at f (ii f b))/\0<=i/\i<(kg f (ii f b)).z.l.bl.length,.v (.bool (decide (nl (kg f (ii f b)).z ((kg f (ii f b)).z.l.bl.getD i.toNat default)))),f⟩
 |_,f=>⟨False,.undef,f⟩
def afM{v:SV}{f:bF}{b p:Nat}{i:Int}(hb:f b=some (.box [.ptr p 0]))(hv:v.at f p):QJ [.v (ti i),.ptr b 0] f=⟨0<=i/\i<v.z.l.bl.length,.v (.bool (decide (nl v.z (v.z.l.bl.getD i.toNat default)))),f⟩:=by
 have hx:∃v:SV,v.at f p:=⟨v,hv⟩;have hd:ii f b=p:=by simp[ii,hb]
 simp only[QJ,hd,jn hv,hx,hb,rO]
def afN:∀args ab,(QJ args ab).ok->(∀N,(∀r,N<=r->ab r=none)->aY aj 141 args ab (QJ args ab))/\∀r,ab r=none->(QJ args ab).ab r=none:=by
 intro args ab h;unfold QJ at h⊢;split at h
 ·rename_i i b;obtain⟨hb,⟨v,hv⟩,i0,i1⟩:=h;rw[jn hv]at i1⊢;obtain⟨i,rfl⟩:=jm i0;exact⟨λN hN=>aY.of (axF hN hb hv (by omega)) rfl rfl,λr hr=>hr⟩
 ·exact h.elim
def avC{l:List (Nat×DM.Spec)}(h:ay aj (bB l)):ay aj (bB ((141,eL QJ)::l)):=ay.iL h afN
def kh(z:fL):Nat:=z.l.bl.findIdx λa=>decide (nl z a)
def mono(z:fL):Prop:=∀i j:Nat,i<=j->j<z.l.bl.length->nl z (z.l.bl.getD i default)->nl z (z.l.bl.getD j default)
def aln{z:fL}{k:Nat}(hk:k<=z.l.bl.length)(h1:∀i,i<k->¬nl z (z.l.bl.getD i default))(h2:k<z.l.bl.length->nl z (z.l.bl.getD k default)):kh z=k:=by
 unfold kh;by_cases hl:k<z.l.bl.length
 ·rw[List.findIdx_eq hl];refine⟨?_,λj hj=>?_⟩
  ·have:=h2 hl;simpa [List.getD,hl]using this
  ·have KW:j<z.l.bl.length:=by omega
   have:=h1 j hj;simpa [List.getD,KW]using this
 ·obtain rfl:k=z.l.bl.length:=by omega
  rw[List.findIdx_eq_length];intro x hx;obtain⟨i,hi,rfl⟩:=HS hx;have:=h1 i hi;simpa [List.getD,hi]using this
def axG{f0:bF}{b p N:Nat}{v:SV}(hN:∀r,N<=r->f0 r=none)(hb:f0 b=some (.box [.ptr p 0]))(hv:v.at f0 p)(hm:mono v.z)(hl:v.z.l.bl.length<=1000000000):
  aY aj 140 [.v (ti v.z.l.bl.length),.pf (.func 141) [.ptr b 0]] f0 ⟨True,.v (ti (kh v.z)),f0⟩:=by
 obtain⟨n,hn⟩:=aW v.z.l.bl.length;rw[hn]at hl⊢;have aB:=avC ay.nil;refine awL.rJ hN (by simp) λba=>?_;have SS:b<N:=(ba b _ hb).1;have k1:=λi=>afM (i:=i) hb hv;simp;apply aa.ai aB fw [0,1];simp[ai2];apply aa.ai aB fw [1,5,6];simp[ai3];apply aa.seq;apply aa.block;refine aa.loop (λq:Nat×Nat=>⟨DM.look [(1,.pf (.func 141) [.ptr b 0]),(5,.v (ti q.1)),(6,.v (ti q.2))],aR [] f0,N+1000,N,[]⟩)
  (λq=>q.1<=q.2/\q.2<=n/\(∀i,i<q.1->¬nl v.z (v.z.l.bl.getD i default))/\(∀i,q.2<=i->i<n->nl v.z (v.z.l.bl.getD i default))) (λq=>q.2-q.1) (0,n) (me ba (by omega) (by simp) ?_) ⟨by simp,by simp,λi hi=>by simp at hi,λi h1 h2=>by simp at h1;omega⟩ (λq hq=>?_)
 ·simp[hb]
 obtain⟨lo,hi⟩:=q;obtain⟨q1,q2,q3,q4⟩:=hq;simp only at q1 q2 q3 q4;apply aa.sq aB fw [1,5,6,11];simp[ai4];refine aa.cond rfl (λg=>?_) (λg=>?_)
 ·have g:lo<hi:=by simpa using g
  have w1:IntKind.i64.wrap ((lo:Int)+hi)=(lo:Int)+hi:=aA (by omega);obtain⟨md,hmd⟩:=aW ((lo+hi)/2);apply aa.skip;simp;apply aa.block;apply aa.ai aB fw [1,5,6,7];have hu:IntKind.u64.wrap ((lo:Int)+hi)=(lo:Int)+hi:=by
   unfold IntKind.wrap;simp[IntKind.signed,IntKind.bits];omega
  have w2:IntKind.i64.wrap (IntKind.u64.wrap ((lo:Int)+hi)/2^min 1 IntKind.u64.bits)=md:=by
   rw[hu,show min 1 IntKind.u64.bits=1 from rfl,aA (by omega)];omega
  have ayp:lo<=md/\md<hi:=by omega
  simp[ai5,w1,w2];obtain⟨c1,bI⟩:=aW (decide (nl v.z (v.z.l.bl.getD md default)):Bool);have fW:=k1 md;simp only[iA,bI]at fW;have VR:md<v.z.l.bl.length:=by omega
  apply aa.ai aB fw [1,5,6,7,21];rw[show aR [] f0=f0 from rfl];simp[ai6,fW,VR];refine aa.cond rfl (λg2=>?_) (λg2=>?_)
  ·have g2:c1=false:=by simpa using g2
   subst g2;have h3:=uO bI;have w3:IntKind.i64.wrap ((md:Int)+1)=((md+1:Nat):Int):=by rw[aA (by omega)];omega
   apply aa.dZ aB fw [1,5,6];simp[ai7,w3];refine⟨md+1,hi,me (L:=[]) ba (by omega) (by simp) ?_,⟨by omega,by omega,λi hi3 hp=>h3 (hm i md (by omega) VR (by simpa using hp)),λi h4 h5=>by simpa using q4 i h4 h5⟩,by omega⟩;simp[hb]
  ·have g2:c1=true:=by simpa using g2
   subst g2;have h3:=p7 bI;apply aa.dZ aB fw [1,5,6];simp[ai8];refine⟨lo,md,me (L:=[]) ba (by omega) (by simp) ?_,⟨by omega,by omega,λi hi3=>by simpa using q3 i hi3,λi h4 h5=>by simpa using hm md i h4 (by omega) h3⟩,by omega⟩;simp[hb]
 ·have g:¬lo<hi:=by simpa using g
  have he:lo=hi:=by omega
  subst he;have hL:kh v.z=lo:=aln (by omega) q3 λh=>q4 lo (eF _) (by omega);apply aa.exit;simp;apply aa.ai aB fw [4];simp[ai9,hL];apply aa.ret;simp[dw];rfl
noncomputable def QK:bM->bF->gC
 |[.v (.int .i64 n),.pf (.func 141) [.ptr b 0]],f=>⟨f b=some (.box [.ptr (ii f b) 0])/\(∃v:SV,v.at f (ii f b))/\n=(kg f (ii f b)).z.l.bl.length/\mono (kg f (ii f b)).z/\(kg f (ii f b)).z.l.bl.length<=1000000000,.v (ti (kh (kg f (ii f b)).z)),f⟩
 |_,f=>⟨False,.undef,f⟩
def afO{v:SV}{f:bF}{b p:Nat}{n:Int}(hb:f b=some (.box [.ptr p 0]))(hv:v.at f p):QK [.v (ti n),.pf (.func 141) [.ptr b 0]] f=⟨n=v.z.l.bl.length/\mono v.z/\v.z.l.bl.length<=1000000000,.v (ti (kh v.z)),f⟩:=by
 have hx:∃v:SV,v.at f p:=⟨v,hv⟩;have hd:ii f b=p:=by simp[ii,hb]
 simp only[QK,hd,jn hv,hx,hb,rO]
def afP:∀args ab,(QK args ab).ok->(∀N,(∀r,N<=r->ab r=none)->aY aj 140 args ab (QK args ab))/\∀r,ab r=none->(QK args ab).ab r=none:=by
 intro args ab h;unfold QK at h⊢;split at h
 ·rename_i n b;obtain⟨hb,⟨v,hv⟩,hn,hm,hl⟩:=h;rw[jn hv]at hn hm hl⊢;subst hn;exact⟨λN hN=>aY.of (axG hN hb hv hm hl) rfl rfl,λr hr=>hr⟩
 ·exact h.elim
def avD{l:List (Nat×DM.Spec)}(h:ay aj (bB l)):ay aj (bB ((140,eL QK)::l)):=ay.iL h afP
def K7(z:fL)(a:cC):Prop:=a.f=z.fr/\a.t=z.to
instance(z:fL)(a:cC):Decidable (K7 z a):=by unfold K7;infer_instance
def vS(z:fL):Nat:=kh z+(z.l.bl.drop (kh z)).findIdx λa=> !decide (K7 z a)
def alo{z:fL}{k:Nat}(h0:kh z<=k)(hk:k<=z.l.bl.length)(h1:∀i,kh z<=i->i<k->K7 z (z.l.bl.getD i default))(h2:k<z.l.bl.length->¬K7 z (z.l.bl.getD k default)):vS z=k:=by
 unfold vS;have f7:(z.l.bl.drop (kh z)).length=z.l.bl.length-kh z:=VF ..
 suffices (z.l.bl.drop (kh z)).findIdx (λa=> !decide (K7 z a))=k-kh z by omega
 by_cases hl:k<z.l.bl.length
 ·rw[List.findIdx_eq (by omega)];refine⟨?_,λj hj=>?_⟩
  ·have:=h2 hl;rw[ZcD];simpa [List.getD,hl,show kh z+(k-kh z)=k by omega]using this
  ·have KW:kh z+j<z.l.bl.length:=by omega
   have:=h1 (kh z+j) (by omega) (by omega);rw[ZcD];simpa [List.getD,KW]using this
 ·obtain rfl:k=z.l.bl.length:=by omega
  rw[<-f7,List.findIdx_eq_length];intro x hx;obtain⟨i,hi,rfl⟩:=HS hx;rw[f7]at hi;have B0:kh z+i<z.l.bl.length:=by omega
  have:=h1 (kh z+i) (by omega) (by omega);rw[ZcD];simpa [List.getD,B0]using this
def aaw(z:fL):kh z<=z.l.bl.length:=List.findIdx_le_length
def t80{f0:bF}{p N:Nat}{v:SV}(hN:∀r,N<=r->f0 r=none)(hv:v.at f0 p)(hm:mono v.z)(hl:v.z.l.bl.length<=1000000000):
  aY aj 119 [.ptr p 0] f0 ⟨True,.v (.eE [ti (kh v.z),ti (vS v.z)]),f0⟩:=by
 have aB:=avD ay.nil;refine c80.rJ hN (by simp) λba=>?_;have h1:=hv.sp;have oY:p<N:=(ba p _ h1).1;simp only[nE]at h1;have np:∀k,p≠N+k:=λk=>by omega
 have eS:∃cs,f0 p=some (.box cs):=⟨_,h1⟩;obtain⟨lo,hlo⟩:=aW (kh v.z);have UG:=aaw v.z;rw[hlo]at UG⊢;simp;apply aa.ai aB fw [1];simp[ap8];refine aa.le (Le.eA (l1:=[(N+2,.box [.ptr p 0])]) (l:=[(1,.ptr (N+2) 0)]) (aV:=N+500) ba ?_ ?_ ?_ ?_ ?_) ?_
 ·omega
 ·simp
 ·simp[bZ,fQ]
 ·simp[d9,eZ,np,fQ,eS]
 ·simp[fQ]
 have mM:v.at (aR [(N+2,.box [.ptr p 0])] f0) p:=hv.aR ba (by simp);have k1:=λn=>afO (n:=n) (b:=N+2) (f:=aR [(N+2,.box [.ptr p 0])] f0) (by simp) mM;rw[hlo]at k1;apply aa.c5 aB fw (rs:=Yg) ji (by kernel_rfl) [1,4];simp[Yg,h1,np,k1,hm,hl];have kw:∀{tm aJ aV l},N+3<=aV->gf (aR [(N+2,.box [.ptr p 0])] f0) (aR [(N+2,.box [.ptr p 0])] f0) id tm l->Le ⟨tm,aR [(N+2,.box [.ptr p 0])] f0,aJ,N,[]⟩ ⟨DM.look l,aR [(N+2,.box [.ptr p 0])] f0,aV,N,[]⟩:=by
  intro tm aJ aV l hn g8;refine Le.eA ba (by omega) ?_ ?_ ?_ g8
  ·simp;omega
  ·simp[bZ]
  ·simp[d9,eZ,np,eS]
 apply aa.ai aB fw [1,4,5];simp[ap9];apply aa.seq;apply aa.block;refine aa.loop (λj:Nat=>⟨DM.look [(1,.ptr (N+2) 0),(4,.v (ti lo)),(5,.v (ti j))],aR [(N+2,.box [.ptr p 0])] f0,N+1000,N,[]⟩)
  (λj=>lo<=j/\j<=v.z.l.bl.length/\∀i,lo<=i->i<j->K7 v.z (v.z.l.bl.getD i default)) (λj=>v.z.l.bl.length-j) lo (kw (by omega) ?_) ⟨eF _,UG,λi a b=>by omega⟩ (λj hj=>?_)
 ·simp
 obtain⟨j1,j2,j3⟩:=hj;obtain⟨c1,bI⟩:=aW (decide (j<v.z.l.bl.length/\K7 v.z (v.z.l.bl.getD j default)):Bool);apply aa.seq;refine aa.ci aB fw [(1,.ptr (N+2) 0),(4,.v (ti lo)),(5,.v (ti j)),(54,.v (.bool c1))] ?_ ?_
 ·by_cases q1:j<v.z.l.bl.length
  ·have rr:=qR q1;obtain⟨⟨af,oi,ae,ac,ao⟩,hx⟩:=aW (v.z.l.bl.getD j default);rw[hx]at rr bI;simp only[cC.enc]at rr;simp only[K7]at bI;by_cases q2:af=v.z.fr
   ·by_cases q3:oi=v.z.to
    ·have:c1=true:=by rw[<-bI];simp[q1,q2,q3]
     simp[R5,h1,np,q1,rr,q2,q3,this]
    ·have:c1=false:=by rw[<-bI];simp[q3]
     simp[R5,h1,np,q1,rr,q2,q3,this]
   ·have:c1=false:=by rw[<-bI];simp[q2]
    simp[R5,h1,np,q1,rr,q2,this]
  ·have:c1=false:=by rw[<-bI];simp;omega
   simp[R5,h1,np,q1,this]
 refine aa.cond rfl (λg=>?_) (λg=>?_)
 ·have g:c1=true:=by simpa using g
  subst g;obtain⟨g1,g2⟩:=p7 bI;have w1:IntKind.i64.wrap ((j:Int)+1)=((j+1:Nat):Int):=by rw[aA (by omega)];omega
  apply aa.skip;simp;apply aa.block;apply aa.dZ aB fw [1,4,5];simp[aqa,w1];refine⟨j+1,kw (by omega) ?_,⟨by omega,by omega,λi a b=>?_⟩,by omega⟩
  ·simp
  ·by_cases e:i=j
   ·subst e;simpa using g2
   ·simpa using j3 i a (by omega)
 ·have g:c1=false:=by simpa using g
  subst g;have hn:=uO bI;have hH:vS v.z=j:=alo (by omega) j2 (by rw[hlo];exact j3) λh hp=>hn ⟨h,hp⟩;rw[hH];apply aa.exit;simp;apply aa.ai aB fw [2,3];simp[aqb];refine aa.le (me (l:=[(2,.v (ti lo)),(3,.v (ti j))]) (aV:=N+6000) ba (by omega) (by simp) ?_) ?_
  ·simp
  apply aa.ret;simp[Yh];rfl
noncomputable def k80:bM->bF->gC
 |[.ptr p 0],f=>⟨(∃v:SV,v.at f p)/\mono (kg f p).z/\(kg f p).z.l.bl.length<=1000000000,.v (.eE [ti (kh (kg f p).z),ti (vS (kg f p).z)]),f⟩
 |_,f=>⟨False,.undef,f⟩
def alp{v:SV}{f:bF}{p:Nat}(hv:v.at f p):k80 [.ptr p 0] f=⟨mono v.z/\v.z.l.bl.length<=1000000000,.v (.eE [ti (kh v.z),ti (vS v.z)]),f⟩:=by
 have hx:∃v:SV,v.at f p:=⟨v,hv⟩;simp only[k80,jn hv,hx,rO]
def alq:∀args ab,(k80 args ab).ok->(∀N,(∀r,N<=r->ab r=none)->aY aj 119 args ab (k80 args ab))/\∀r,ab r=none->(k80 args ab).ab r=none:=by
 intro args ab h;unfold k80 at h⊢;split at h
 ·rename_i p;obtain⟨⟨v,hv⟩,hm,hl⟩:=h;rw[jn hv]at hm hl⊢;exact⟨λN hN=>aY.of (t80 hN hv hm hl) rfl rfl,λr hr=>hr⟩
 ·exact h.elim
def axH{l:List (Nat×DM.Spec)}(h:ay aj (bB l)):ay aj (bB ((119,eL k80)::l)):=ay.iL h alq
section
variable{h:Int}
inductive kX(n:aG)(l:aU):Int->Nat->Nat->Nat->Int->dj->Prop
 |empty {s k:Nat} {r:dx} (hk:n.an[k]? =some r) (h1:r.kind=1) (hv:(ee r.cM []).aH<1099511627776):kX n l r.head s s k s (ee r.cM [])
 |term {s t k a:Nat} {r:dx} {x:cC} (hk:n.an[k]? =some r) (h1:r.kind=2) (ha:l.bl[a]? =some x) (h2:x.f=s) (h3:x.t=t) (h4:x.term=r.a)
   (hv:(ee (r.cM+x.aH) []).aH<1099511627776):kX n l r.head s t k a (ee (r.cM+x.aH) [])
 |unary {s t k k1:Nat} {g1:Int} {r:dx} {v:dj} (hk:n.an[k]? =some r) (h1:r.kind=3) (d:kX n l r.a s t k1 g1 v) (hv:(ee r.cM [v]).aH<1099511627776):kX n l r.head s t k s (ee r.cM [v])
 |yY {s m t k k1 k2:Nat} {g1 g2:Int} {r:dx} {v w:dj} (hk:n.an[k]? =some r) (h1:r.kind=4) (hs:s<=m) (ht:m<=t) (d1:kX n l r.a s m k1 g1 v) (d2:kX n l r.b m t k2 g2 w)
   (hv:(ee r.cM [v,w]).aH<1099511627776):kX n l r.head s t k m (ee r.cM [v,w])
def Der(n:aG)(l:aU)(h:Int)(s t:Nat)(v:dj):Prop:=∃k g,kX n l h s t k g v
def Dh(k:Int)(g:Int)(k':Int)(g':Int):Prop:=k<k'\/(k=k'/\g<=g')
structure Good(n:aG)(l:aU)(h:Int)(s t:Nat)(x:Cell):Prop where
 SB:∀v,Der n l h s t v->¬v.lt x.val
 top:x=jW\/((∃k:Nat,x.nC=k/\kX n l h s t k x.arg x.val)/\∀(k':Nat) g',kX n l h s t k' g' x.val->Dh x.nC x.arg k' g')
def kX.bU{n:aG}{l:aU}{s t k:Nat}{g:Int}{v:dj}(d:kX n l h s t k g v):v.aH<1099511627776:=by
 cases d<;>assumption
def Der.bU{n:aG}{l:aU}{s t:Nat}{v:dj}(d:Der n l h s t v):v.aH<1099511627776:=by
 obtain⟨k,g,d⟩:=d;exact d.bU
def dj.wF{a b:dj}(h1:¬a.lt b)(h2:¬b.lt a):a=b:=by
 obtain⟨a1,a2⟩:=a;obtain⟨b1,b2⟩:=b;simp only[dj.lt]at h1 h2;have:a1=b1:=by omega
 have:a2=b2:=by omega
 simp[*]
def Cell.ext'{a b:Cell}(h1:a.val=b.val)(h2:a.nC=b.nC)(h3:a.arg=b.arg):a=b:=by
 obtain⟨a1,a2,a3,a4⟩:=a;obtain⟨b1,b2,b3,b4⟩:=b;simp only[Cell.val,dj.mk.injEq]at h1 h2 h3;simp[h1,h2,h3]
def Good.ajm{n:aG}{l:aU}{s t:Nat}{x y:Cell}(hx:Good n l h s t x)(hy:Good n l h s t y):x.val=y.val:=by
 have key:∀{x y:Cell},Good n l h s t x->Good n l h s t y->x=jW->x.val=y.val:=by
  intro x y hx hy e;subst e;rcases hy.top with rfl|⟨⟨k,_,d⟩,_⟩
  ·rfl
  ·exact eK (show y.val.lt jW.val by left;exact d.bU) (hx.SB _ ⟨k,_,d⟩)
 rcases hx.top with e|⟨⟨k,_,d⟩,_⟩
 ·exact key hx hy e
 ·rcases hy.top with e|⟨⟨k',_,d'⟩,_⟩
  ·exact(key hy hx e).symm
  ·exact dj.wF (hy.SB _ ⟨k,_,d⟩) (hx.SB _ ⟨k',_,d'⟩)
def Good.ajn{n:aG}{l:aU}{s t:Nat}{x y:Cell}(hx:Good n l h s t x)(hy:Good n l h s t y):x=y:=by
 have hv:=hx.ajm hy;rcases hx.top with e|⟨⟨k,e1,d⟩,m⟩
 ·rcases hy.top with e'|⟨⟨k',_,d'⟩,_⟩
  ·rw[e,e']
  ·have:=d'.bU;rw[<-hv,e]at this;exact eK this (by decide)
 ·rcases hy.top with e'|⟨⟨k',e2,d'⟩,m'⟩
  ·have:=d.bU;rw[hv,e']at this;exact eK this (by decide)
  ·have a:=m k' y.arg (hv▸d');have b:=m' k x.arg (hv▸d);unfold Dh at a b;refine Cell.ext' hv ?_ ?_<;>omega
def Zc(c:Int)(v:dj):ee c [v]=if min (c+v.aH) 1099511627776>=1099511627776 then⟨1099511627776,0⟩else⟨min (c+v.aH) 1099511627776,min (1+v.size) 1099511627776⟩:=rfl
def Zd(c:Int)(v w:dj):ee c [v,w]=if min (min (c+v.aH) 1099511627776+w.aH) 1099511627776>=1099511627776 then⟨1099511627776,0⟩else⟨min (min (c+v.aH) 1099511627776+w.aH) 1099511627776,min (min (1+v.size) 1099511627776+w.size) 1099511627776⟩:=rfl
def H4{c:Int}{v:dj}(hc:0<=c)(h:(ee c [v]).aH<1099511627776):v.aH<1099511627776:=by
 rw[Zc]at h;split at h
 ·simp at h
 ·simp only at h;omega
def H5{c:Int}{v w:dj}(hc:0<=c)(hv:0<=v.aH)(hw:0<=w.aH)(h:(ee c [v,w]).aH<1099511627776):v.aH<1099511627776/\w.aH<1099511627776:=by
 rw[Zd]at h;split at h
 ·simp at h
 ·simp only at h;omega
def uL{c:Int}{v v':dj}(h:¬v.lt v'):¬(ee c [v]).lt (ee c [v']):=by
 rw[Zc,Zc];unfold dj.lt at h⊢;split<;>split<;>simp only<;>omega
def uM{c:Int}{v v' w w':dj}(p1:0<=v.aH)(p2:0<=v'.aH)(p3:0<=w.aH)(p4:0<=w'.aH)(hv:¬v.lt v')(hw:¬w.lt w'):¬(ee c [v,w]).lt (ee c [v',w']):=by
 rw[Zd,Zd];unfold dj.lt at hv hw⊢;split<;>split<;>simp only<;>omega
def kH{a b c:dj}(h:¬b.lt a)(k:¬c.lt b):¬c.lt a:=by
 unfold dj.lt at*
 omega
def qQ(n:aG)(l:aU)(c:di)(own:eO)(s t:Nat)(k:Nat)(g:Int)(v:dj):Prop:=
 ∃r,n.an[k]? =some r/\((r.kind=1/\s=t/\g=s/\v=ee r.cM [])\/
  (r.kind=2/\∃(a:Nat) (x:cC),l.bl[a]? =some x/\x.f=s/\x.t=t/\x.term=r.a/\g=a/\v=ee (r.cM+x.aH) [])\/
  (r.kind=3/\g=s/\v=ee r.cM [dT c own s t r.a s t])\/
  (r.kind=4/\∃d:Nat,s+d<=t/\g=s+d/\v=ee r.cM [dT c own s t r.a s (s+d),dT c own s t r.b (s+d) t]))
def ng(x:Cell)(v:dj)(i g:Int):fU x v i g=x\/(v.aH<1099511627776/\¬x.val.lt v/\fU x v i g=⟨v.aH,v.size,i,g⟩):=by
 unfold fU;split
 ·exact .inl rfl
 ·rename_i h;split
  ·rename_i h2;refine .inr ⟨by omega, ?_,rfl⟩;rcases h2 with h2|⟨rfl,_⟩
   ·unfold dj.lt at*;omega
   ·unfold dj.lt;omega
  ·exact .inl rfl
def uN{x:Cell}{v:dj}{i g:Int}(h:fU x v i g=x)(hv:v.aH<1099511627776):¬v.lt x.val/\(v=x.val->Dh x.nC x.arg i g):=by
 obtain⟨xc,xs,xr,xa⟩:=x;obtain⟨vc,vs⟩:=v;unfold fU at h;rw[bj (by simp only at hv⊢;omega)]at h;split at h
 ·rename_i h2;simp only[Cell.mk.injEq]at h;obtain⟨rfl,rfl,rfl,rfl⟩:=h;simp only[Cell.val,dj.lt]at h2;exfalso;rcases h2 with h2|⟨_,h2⟩<;>omega
 ·rename_i h2;simp only[Zc6,not_and]at h2;refine⟨h2.1,λe=>?_⟩;have:=h2.2 e;unfold Dh;simp only at this⊢;omega
def AO{n:aG}{l:aU}{c:di}{own:eO}{s t k:Nat}{r:dx}(hk:n.an[k]? =some r)(Xz:r.kind=1\/r.kind=2\/r.kind=3\/r.kind=4)(tf:s<=t)(x:Cell):
  oW r l c own s t k x=x\/∃g v,qQ n l c own s t k g v/\v.aH<1099511627776/\¬x.val.lt v/\oW r l c own s t k x=⟨v.aH,v.size,k,g⟩:=by
 have MR:∀(f:Cell->Nat->Cell) (N:Nat),(∀y j,j<N->f y j=y\/∃g v,qQ n l c own s t k g v/\v.aH<1099511627776/\¬y.val.lt v/\f y j=⟨v.aH,v.size,k,g⟩)->
   (List.range N).foldl f x=x\/∃g v,qQ n l c own s t k g v/\v.aH<1099511627776/\¬x.val.lt v/\(List.range N).foldl f x=⟨v.aH,v.size,k,g⟩:=by
  intro f N;induction N with
  |zero=>intro _;exact .inl rfl
  |succ N ih=>
   intro h;rw[B3,yZ];have ih:=ih λy j hj=>h y j (by omega);simp only[CD,Zct];obtain⟨y,hy⟩:=aW ((List.range N).foldl f x);rw[hy]at ih⊢;rcases h y N (by omega)with e|⟨g,v,h1,h2,h3,h4⟩
   ·rw[e];exact ih
   ·refine .inr ⟨g,v,h1,h2, ?_,h4⟩;rcases ih with rfl|⟨g',v',_,_,h3',rfl⟩
    ·exact h3
    ·have awO:¬(⟨v'.aH,v'.size⟩:dj).lt v:=h3;exact kH awO h3'
 have one:∀(y:Cell) (v:dj) (g:Int),qQ n l c own s t k g v->fU y v k g=y\/∃g v,qQ n l c own s t k g v/\v.aH<1099511627776/\¬y.val.lt v/\fU y v k g=⟨v.aH,v.size,k,g⟩:=by
  intro y v g hi;rcases ng y v k g with e|⟨h1,h2,h3⟩
  ·exact .inl e
  ·exact .inr ⟨g,v,hi,h1,h2,h3⟩
 unfold oW;split
 ·rename_i h1;split
  ·rename_i h2;rcases ng x (ee r.cM []) k s with e|⟨h3,h4,h5⟩
   ·exact .inl e
   ·exact .inr ⟨_,_,⟨r,hk,.inl ⟨h1,by omega,rfl,rfl⟩⟩,h3,h4,h5⟩
  ·exact .inl rfl
 ·split
  ·rename_i h1;refine MR _ _ λy j hj=>?_;unfold stepT;split
   ·rename_i h2;have ha:l.bl[j]? =some (l.bl.getD j default):=by simp[List.getD,hj]
    rcases ng y (ee (r.cM+(l.bl.getD j default).aH) []) k j with e|⟨h3,h4,h5⟩
    ·exact .inl e
    ·exact .inr ⟨_,_,⟨r,hk,.inr (.inl ⟨h1,j,_,ha,h2.1,h2.2.1,h2.2.2,rfl,rfl⟩)⟩,h3,h4,h5⟩
   ·exact .inl rfl
  ·split
   ·rename_i h1;rcases ng x (ee r.cM [dT c own s t r.a s t]) k s with e|⟨h3,h4,h5⟩
    ·exact .inl e
    ·exact .inr ⟨_,_,⟨r,hk,.inr (.inr (.inl ⟨h1,rfl,rfl⟩))⟩,h3,h4,h5⟩
   ·rename_i h1 h2 h3;have h4:r.kind=4:=by omega
    refine MR _ _ λy j hj=>?_;unfold vr;rcases ng y (ee r.cM [dT c own s t r.a s (s+j),dT c own s t r.b (s+j) t]) k (s+j)with e|⟨h5,h6,h7⟩
    ·exact .inl e
    ·exact .inr ⟨_,_,⟨r,hk,.inr (.inr (.inr ⟨h4,j,by omega,rfl,rfl⟩))⟩,h5,h6,h7⟩
def F2{f:Cell->Nat->Cell}:∀{N:Nat},(∀x k,k<N->og x->goes x (f x k))->∀x,og x->(List.range N).foldl f x=x->∀k,k<N->f x k=x
 |0,_,_,_,_,k,h=>by omega
 |N+1,hf,x,hx,he,k,hk=>by
  rw[B3,yZ]at he;simp only[CD,Zct]at he;have h1:=B6 (λx k hk=>hf x k (by omega)) x hx (N:=N);obtain⟨z,hz⟩:=aW ((List.range N).foldl f x);rw[hz]at h1 he;have h2:=hf z N (by omega) h1.1;rw[he]at h2;have e:z=x:=by
   rcases h1.2 with e|h1
   ·exact e
   ·rcases h2.2 with e|h2
    ·exact e.symm
    ·omega
  subst e;by_cases hkN:k=N
  ·subst hkN;exact he
  ·exact F2 (λx k hk=>hf x k (by omega)) z hx hz k (by omega)
end
end cP
end Go.Proofs
