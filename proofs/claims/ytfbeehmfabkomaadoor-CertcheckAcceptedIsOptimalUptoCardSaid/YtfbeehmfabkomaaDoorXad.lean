/- Part. Conditions: none. -/
import Derived.Test.YtfbeehmfabkomaaDoorXac
set_option linter.all false
set_option maxRecDepth 100000
set_option maxHeartbeats 8000000
namespace Go.Proofs
open Go.DM Go.DM.kC
abbrev u7:Int:=1099511627776
def yN{x:Input}{i:Nat}(h:cz x i=true):i+1<x.ai.length:=by
 unfold cz at h;rw[o5]at h;exact h.1
def yO(x:Input)(i:Nat):Int:=(x.ai.getD i default).delete
def yP(x:Input)(t:Nat):Int:=x.insert.getD t default
structure nnI(x:Input):Prop where
 c7:∀t,0<=yP x t
 del:∀i,0<=yO x i
 swap:0<=x.swap
inductive tV(x:Input):Nat->b8->Int->Prop
 |nil:tV x x.ai.length [] 0
 |read {i:Nat} {t:Int} {y:b8} {c:Int}:i<x.ai.length->0<=j9 x i t.toNat->tV x (i+1) y c->tV x i (t::y) (j9 x i t.toNat+c)
 |del {i:Nat} {y:b8} {c:Int}:i<x.ai.length->tV x (i+1) y c->tV x i y (yO x i+c)
 |c7 {i:Nat} {t:Int} {y:b8} {c:Int}:tV x i y c->tV x i (t::y) (yP x t.toNat+c)
 |swap {i:Nat} {y:b8} {c:Int}:cz x i=true->tV x (i+2) y c->tV x i ((x.ai.getD (i+1) default).kind::(x.ai.getD i default).kind::y) (x.swap+c)
def tV.nn{x:Input}(h:nnI x){i:Nat}{y:b8}{c:Int}(s:tV x i y c):0<=c:=by
 induction s with
 |nil=>omega
 |read h1 h2 s ih=>omega
 | @del i _ _ h1 s ih=>have:=h.del i;omega
 | @c7 _ t _ _ s ih=>have:=h.c7 t.toNat;omega
 |swap h1 s ih=>have:=h.swap;omega
def tV.le{x:Input}{i:Nat}{y:b8}{c:Int}(s:tV x i y c):i<=x.ai.length:=by
 induction s with
 |nil=>omega
 |read h1 h2 s ih=>omega
 |del h1 s ih=>omega
 |c7 s ih=>exact ih
 |swap h1 s ih=>omega
def j4(x:Input)(i:Nat):iR x i i=0:=by
 unfold iR;rw[List.drop_of_length_le (by simp;omega)];rfl
def agm(x:Input){i m:Nat}(h:i<=m)(hm:m<x.ai.length):iR x i (m+1)=min (iR x i m+yO x m) u7:=afX x h hm
inductive aaZ(x:Input)(a:bk):Prop
 |read (i m t:Nat):i<=m->m<x.ai.length->0<=j9 x m t->a.f=2*i->a.t=2*m+2->a.term=t->t<x.insert.length->iR x i m<u7->a.aG=iR x i m+j9 x m t->aaZ x a
 |c7 (i m t:Nat):i<=m->m<=x.ai.length->a.f=2*i->a.t=2*m->a.term=t->t<x.insert.length->iR x i m<u7->a.aG=iR x i m+yP x t->aaZ x a
 |sw1 (i m:Nat):i<=m->cz x m=true->a.f=2*i->a.t=2*m+1->a.term=(x.ai.getD (m+1) default).kind->iR x i m<u7->a.aG=iR x i m+x.swap->aaZ x a
 |sw2 (i:Nat):cz x i=true->a.f=2*i+1->a.t=2*i+4->a.term=(x.ai.getD i default).kind->a.aG=0->aaZ x a
def aaG{a b:Int}(ha:0<=a)(hb:0<=b)(h:kq a b<u7):kq a b=a+b/\a<u7:=by
 simp only[u7]at*
 unfold kq at h⊢;split at h
 ·omega
 ·rename_i h2;rw[mL h2];omega
def AO{x:Input}(hd:lz x.ai)(hx:nnI x){a:bk}(ha:a∈fx x):aaZ x a:=by
 obtain⟨hm,uH⟩:=Cg ha;rcases hm with hm|hm
 ·obtain⟨i,_,hi,hm⟩:=gT hm;unfold rI at hm;rw[dP]at hm;rcases hm with hm|hm
  ·obtain⟨m,H4,UU,hm⟩:=gT hm;unfold rM at hm;rw[dP]at hm;rcases hm with hm|hm
   ·obtain⟨t,_,ht,hm⟩:=gT hm;unfold rA at hm;split at hm
    ·rename_i hr;simp only[ic]at hm;subst hm;have:=aaG (eN hd i m).1 hr.2 uH;exact .read i m t H4 hr.1 hr.2 rfl rfl rfl ht this.2 this.1
    ·simp at hm
   ·unfold rS at hm;split at hm
    ·rename_i hr;simp only[ic]at hm;subst hm;have:=aaG (eN hd i m).1 hx.swap uH;exact .sw1 i m H4 hr rfl rfl rfl this.2 this.1
    ·simp at hm
  ·obtain⟨hr,rfl⟩:=Aa hm;exact .sw2 i hr rfl rfl rfl rfl
 ·obtain⟨i,_,hi,hm⟩:=gT hm;unfold iI at hm;obtain⟨m,H4,UU,hm⟩:=gT hm;unfold iM at hm;obtain⟨t,_,ht,hm⟩:=gT hm;simp only[iT,ic]at hm;subst hm;have:=aaG (eN hd i m).1 (hx.c7 t) uH;exact .c7 i m t H4 (by omega) rfl rfl rfl ht this.2 this.1
def agn(k:bk)(cs:List bk):∀o,(∀a,o=some a->aJ k a=true/\a.aG<u7)->(∀a∈cs,aJ k a=true->a.aG<u7->∃b,cs.foldl (nY k) o=some b/\aJ k b=true/\b.aG<=a.aG)/\
  (∀a,o=some a->∃b,cs.foldl (nY k) o=some b/\aJ k b=true/\b.aG<=a.aG):=by
 induction cs with
 |nil=>intro o ho;exact⟨λa ha=>by simp at ha,λa ha=>⟨a,ha,(ho a ha).1,V2 _⟩⟩
 |cons e cs ih=>
  intro o ho;have jM:∀a,nY k o e=some a->aJ k a=true/\a.aG<u7:=by
   intro a h;unfold nY at h;split at h
   ·rename_i hc;split at h
    ·simp only[bN]at h;subst h;exact⟨hc.2,hc.1⟩
    ·split at h
     ·simp only[bN]at h;subst h;exact⟨hc.2,hc.1⟩
     ·exact ho a h
   ·exact ho a h
  obtain⟨i1,i2⟩:=ih _ jM;have FD:∀a,o=some a->∃b,nY k o e=some b/\b.aG<=a.aG:=by
   rintro a rfl;unfold nY;split
   ·split
    ·rename_i h;cases h
    ·rename_i b hb;cases hb;split
     ·exact⟨e,rfl,by omega⟩
     ·exact⟨_,rfl,V2 _⟩
   ·exact⟨_,rfl,V2 _⟩
  have ia:aJ k e=true->e.aG<u7->∃b,nY k o e=some b/\b.aG<=e.aG:=by
   intro h1 h2;unfold nY;rw[uV ⟨h2,h1⟩];split
   ·exact⟨e,rfl,V2 _⟩
   ·split
    ·exact⟨e,rfl,V2 _⟩
    ·exact⟨_,rfl,by omega⟩
  refine⟨λa ha h1 h2=>?_,λa ha=>?_⟩
  ·rcases pH.1 ha with rfl|ha
   ·obtain⟨b,hb,iU⟩:=ia h1 h2;obtain⟨b',ls,hk,ak8⟩:=i2 b hb;exact⟨b',ls,hk,by omega⟩
   ·exact i1 a ha h1 h2
  ·obtain⟨b,hb,iU⟩:=FD a ha;obtain⟨b',ls,hk,ak8⟩:=i2 b hb;exact⟨b',ls,hk,by omega⟩
def OA{x:Input}{a:bk}(ha:a∈aaz x)(hc:a.aG<u7):∃b∈fx x,a.f=b.f/\a.t=b.t/\a.term=b.term/\b.aG<=a.aG:=by
 obtain⟨b,hb,hk,iU⟩:=(agn a (aaz x) none (λ_ h=>by cases h)).1 a ha (zY a) hc;have KT:=eB.1 hk;refine⟨b, ?_,KT.1,KT.2.1,KT.2.2,iU⟩;rw[mt (t7 (jd x))];unfold fx;rw[<-df,t6 _ _ List.Pairwise.nil];have e:nY b=nY a:=by
  funext o c;unfold nY;have:aJ b c=aJ a c:=by rw[i6 b c,i6 a c];exact(mS hk c).symm
  rw[this]
 rw[e];exact hb
def gG{α:Type}{f:Nat->List α}{i m k:Nat}{a:α}(h1:i<=k)(h2:k<m)(h:a∈f k):a∈ft f i m:=by
 unfold ft;rw[yf];exact⟨k-i,by rw[o8];omega,by rw[show i+(k-i)=k by omega];exact h⟩
def aaH{a b:Int}(h:a+b<u7)(ha:0<=a)(hb:0<=b):kq a b=a+b:=by
 unfold kq;rw[mL (by simp only[u7]at h;omega)]
def ag8{x:Input}(hd:lz x.ai)(hx:nnI x){i:Nat}{y':b8}{c':Int}(s:tV x i y' c'):(∀t∈y',0<=t/\t<x.insert.length)->∀(i0:Nat) (y:b8) (c:Int),i0<=i->0<=c->qO (fx x) y (2*i0) c->c+iR x i0 i+c'<u7->
  ∃e c2,e<2*x.ai.length+1/\qO (fx x) (y++y') e c2/\c2+(bn x).bK.getD e default<=c+iR x i0 i+c':=by
 induction s with
 |nil=>
  intro hy i0 y c hi Ue p dR;refine⟨2*i0,c,by omega,by simpa using p, ?_⟩;rw[ajG x (by omega),uV (by omega),show 2*i0/2=i0 by omega];omega
 | @read i t y' c' h1 h2 s ih=>
  intro hy i0 y c hi Ue p dR;have OR:=s.nn hx;have Fe:=(eN hd i0 i).1;have ht:=hy t (by simp);obtain⟨k,hk⟩:∃k:Nat,t=k:=⟨t.toNat,by omega⟩;subst hk;simp only[ib]at h2 dR⊢;have hs:=aaH (a:=iR x i0 i) (b:=j9 x i k) (by omega) Fe h2;have qA:(⟨2*i0,2*i+2,k,kq (iR x i0 i) (j9 x i k),dB (i-i0)++[(1,(k:Int))]⟩:bk)∈aaz x:=by
   unfold aaz;rw[dP];left;refine gG (Hb i0) (by omega) ?_;unfold rI;rw[dP];left;refine gG hi (by omega) ?_;unfold rM;rw[dP];left;refine gG (Hb k) (by omega) ?_;unfold rA;rw[uV ⟨h1,h2⟩];exact ic.2 rfl
  obtain⟨b,hb,k1,k2,k3,k4⟩:=OA qA (by simp only;omega);simp only at k1 k2 k3 k4;have hbn:=(AO hd hx hb);have hbc:0<=b.aG:=by
   cases hbn with
   |read i m t _ _ h _ _ _ _ _ e=>have:=(eN hd i m).1;omega
   |c7 i m t _ _ _ _ _ _ _ e=>have:=(eN hd i m).1;have:=hx.c7 t;omega
   |sw1 i m _ _ _ _ _ _ e=>have:=(eN hd i m).1;have:=hx.swap;omega
   |sw2 i _ _ _ _ e=>omega
  have p2:=qO.agP b p hb (by omega);rw[<-k3,show b.t.toNat=2*(i+1)by omega]at p2;obtain⟨e,c2,e1,e2,e3⟩:=ih (λt ht=>hy t (by simp[ht])) (i+1) _ _ (iV _) (by omega) p2 (by rw[j4];omega);refine⟨e,c2,e1,by simpa using e2, ?_⟩;rw[j4]at e3;omega
 | @del i y' c' h1 s ih=>
  intro hy i0 y c hi Ue p dR;have h2:=agm x hi h1;obtain⟨e,c2,e1,e2,e3⟩:=ih hy i0 y c (by omega) Ue p (by omega);exact⟨e,c2,e1,e2,by omega⟩
 | @c7 i t y' c' s ih=>
  intro hy i0 y c hi Ue p dR;have OR:=s.nn hx;have Fe:=(eN hd i0 i).1;have ht:=hy t (by simp);obtain⟨k,hk⟩:∃k:Nat,t=k:=⟨t.toNat,by omega⟩;subst hk;simp only[ib]at dR⊢;have Ac:=hx.c7 k;have MF:i<=x.ai.length:=s.le;have hs:=aaH (a:=iR x i0 i) (b:=yP x k) (by omega) Fe Ac;have qA:(⟨2*i0,2*i,k,kq (iR x i0 i) (yP x k),dB (i-i0)++[(3,(k:Int))]⟩:bk)∈aaz x:=by
   unfold aaz;rw[dP];right;refine gG (Hb i0) (by omega) ?_;unfold iI;refine gG hi (by omega) ?_;unfold iM;refine gG (Hb k) (by omega) ?_;exact ic.2 rfl
  obtain⟨b,hb,k1,k2,k3,k4⟩:=OA qA (by simp only;omega);simp only at k1 k2 k3 k4;have hbn:=(AO hd hx hb);have hbc:0<=b.aG:=by
   cases hbn with
   |read i m t _ _ h _ _ _ _ _ e=>have:=(eN hd i m).1;omega
   |c7 i m t _ _ _ _ _ _ _ e=>have:=(eN hd i m).1;have:=hx.c7 t;omega
   |sw1 i m _ _ _ _ _ _ e=>have:=(eN hd i m).1;have:=hx.swap;omega
   |sw2 i _ _ _ _ e=>omega
  have p2:=qO.agP b p hb (by omega);rw[<-k3,show b.t.toNat=2*i by omega]at p2;obtain⟨e,c2,e1,e2,e3⟩:=ih (λt ht=>hy t (by simp[ht])) i _ _ (iV _) (by omega) p2 (by rw[j4];omega);refine⟨e,c2,e1,by simpa using e2, ?_⟩;rw[j4]at e3;omega
 | @swap i y' c' h1 s ih=>
  intro hy i0 y c hi Ue p dR;have OR:=s.nn hx;have Fe:=(eN hd i0 i).1;have MF:=yN h1;have vO:=hx.swap;have hs:=aaH (a:=iR x i0 i) (b:=x.swap) (by omega) Fe vO;have akK:(⟨2*i0,2*i+1,(x.ai.getD (i+1) default).kind,kq (iR x i0 i) x.swap,dB (i-i0)++[(4,0)]⟩:bk)∈aaz x:=by
   unfold aaz;rw[dP];left;refine gG (Hb i0) (by omega) ?_;unfold rI;rw[dP];left;refine gG hi (by omega) ?_;unfold rM;rw[dP];right;unfold rS;rw[uV h1];exact ic.2 rfl
  have akL:(⟨2*i+1,2*i+4,(x.ai.getD i default).kind,0,[]⟩:bk)∈aaz x:=by
   unfold aaz;rw[dP];left;refine gG (Hb i) (by omega) ?_;unfold rI;rw[dP];right;unfold rT;rw[uV h1];exact ic.2 rfl
  have nnb:∀b∈fx x,0<=b.aG:=by
   intro b hb;cases AO hd hx hb with
   |read i m t _ _ h _ _ _ _ _ e=>have:=(eN hd i m).1;omega
   |c7 i m t _ _ _ _ _ _ _ e=>have:=(eN hd i m).1;have:=hx.c7 t;omega
   |sw1 i m _ _ _ _ _ _ e=>have:=(eN hd i m).1;omega
   |sw2 i _ _ _ _ e=>omega
  obtain⟨b,hb,k1,k2,k3,k4⟩:=OA akK (by simp only;omega);obtain⟨b',ls,l1,l2,l3,l4⟩:=OA akL (by simp[u7]);simp only at k1 k2 k3 k4 l1 l2 l3 l4;have hbc:=nnb b hb;have ali:=nnb b' ls;have p2:=qO.agP b p hb (by omega);rw[<-k3,show b.t.toNat=2*i+1 by omega]at p2;have p3:=qO.agP b' p2 ls (by omega);rw[<-l3,show b'.t.toNat=2*(i+2)by omega]at p3;obtain⟨e,c2,e1,e2,e3⟩:=ih (λt ht=>hy t (by simp[ht])) (i+2) _ _ (iV _) (by omega) p3 (by rw[j4];omega);refine⟨e,c2,e1,by simpa using e2, ?_⟩;rw[j4]at e3;omega
open Go.DM
section
variable{f f0:bA}
def u9{r q:Nat}{o:Ob}(h:r≠q):bI f q o r=f r:=by simp[bI,h]
def t74(x:Input)(m:Nat)(hm:m<=1000000)(hl:x.ai.length<=1000000):aI Tryd.prog 144 [x.enc,ti m] (.bool (cz x m)):=by
 have am:=MC;refine c74.ok (by simp) (aC ?_);simp[Input.enc];apply aa.ag am fw [1,2];simp[VX];refine aa.lk (o:=[]) (l:=[(1,.v (ti m)),(2,.v (.box [.sl (bj x.ai),.sl (aw x.insert),ti x.swap]))]) (bC:=1200) (by simp) ?_;obtain⟨v,hv⟩:=ba (cz x m);rw[hv];unfold cz at hv;have w1:IntKind.i64.wrap ((m:Int)+1)=((m+1:Nat):Int):=by rw[aq (by omega)];omega
 obtain⟨m1,Fu⟩:=ba (m+1);rw[Fu]at w1 hv;refine aa.co am fw [(4,.v (.bool v))] ?_ ?_
 ·by_cases q1:0<x.swap
  ·by_cases q2:m1<x.ai.length
   ·have q3:m<x.ai.length:=by omega
    have r1:=cu q3;have r2:=cu q2;obtain⟨⟨k1,rd1,d1⟩,e1⟩:=ba (x.ai.getD m default);obtain⟨⟨k2,rd2,d2⟩,e2⟩:=ba (x.ai.getD m1 default);rw[e1]at r1 hv;rw[e2]at r2 hv;simp only at hv;by_cases q4:0<=k1
    ·by_cases q5:0<=k2
     ·have:v=true:=by rw[<-hv];simp[q1,q2,q4,q5]
      simp[yQ,w1,q1,q2,q3,r1,r2,bz.enc,q4,q5,this]
     ·have:v=false:=by rw[<-hv];simp[q5]
      simp[yQ,w1,q1,q2,q3,r1,r2,bz.enc,q4,q5,this]
    ·have:v=false:=by rw[<-hv];simp[q4]
     simp[yQ,w1,q1,q2,q3,r1,bz.enc,q4,this]
   ·have:v=false:=by rw[<-hv];simp[q2]
    simp[yQ,w1,q1,q2,this]
  ·have:v=false:=by rw[<-hv];simp[q1]
   simp[yQ,q1,this]
 apply aa.ret;simp[ci]
def t57(a b:Int)(ha: -1000000000000000000<=a/\a<=1000000000000000000)(hb: -1000000000000000000<=b/\b<=1000000000000000000):aI Tryd.prog 143 [ti a,ti b] (ti (min (a+b) u7)):=by
 have am:=MC;refine c57.ok (by simp) (aC ?_);simp;apply aa.ag am fw [0,1];simp[VY];have w1:IntKind.i64.wrap (a+b)=a+b:=aq (by omega);apply aa.ag am fw [4];simp[VZ,w1];apply aa.ret;simp[ci]
def T6:bD->bA->fp
 |[.ptr b 0,.v (.int .i64 t)],ab=>
  match ab b with
  |some (.box [.v c1,.v c2,.v c3,.v c4,.aQ a v,.v c6])=>match ab a with
   |some (.aR v' e sz an)=>⟨v=v'/\e=3/\sz=1/\a≠b/\an.length<=1000000/\(∀r∈an,r.length=1),.v (.dh []),
     bI (bI ab a (.aR (v+1) 3 1 (an++[[ti t]]))) b (.box [.v c1,.v c2,.v c3,.v c4,.aQ a (v+1),.v c6])⟩
   |_=>⟨False,.undef,ab⟩
  |_=>⟨False,.undef,ab⟩
 |_,ab=>⟨False,.undef,ab⟩
def ahd{b a v:Nat}{c1 c2 c3 c4 c6:T}{t:Int}{an:List (ar)}{N:Nat}(hN:∀r,N<=r->f0 r=none)(hb:f0 b=some (.box [.v c1,.v c2,.v c3,.v c4,.aQ a v,.v c6]))(ha:f0 a=some (.aR v 3 1 an))
  (gi:a≠b) (hl:an.length<=1000000) (mU:∀r∈an,r.length=1):
  b9 Tryd.prog 136 [.ptr b 0,.v (ti t)] f0 ⟨True,.v (.dh []),bI (bI f0 a (.aR (v+1) 3 1 (an++[[ti t]]))) b (.box [.v c1,.v c2,.v c3,.v c4,.aQ a (v+1),.v c6])⟩:=by
 have am:=MC;refine ahe.KQ hN (by simp) λcD=>?_;have yq:b<N:=(cD b _ hb).1;have Fv:a<N:=(cD a _ ha).1;have V0:b≠a:=λe=>gi e.symm;have nb:∀k,b≠N+k:=λk=>by omega
 have na:∀k,a≠N+k:=λk=>by omega
 simp;apply aa.ag am fw [0,1,4];simp[MY,hb];refine aa.to ⟨DM.look [],cB [(b,.box [.v c1,.v c2,.v c3,.v c4,.aQ a (v+1),.v c6]),(a,.aR (v+1) 3 1 (an++[[ti t]]))] f0,N+1000,N,[]⟩ ?_ (by simp[Hx];rfl);apply aa.cX am fw [];simp[MZ,hb,ha,gi,V0,nb,na,cw,dW,ym];refine⟨⟨by omega,by omega⟩,Le.same (l:=[]) (λr hr=>?_) (by simp)⟩;simp[show r≠b by omega,show r≠a by omega,hN r (by omega)]
structure ES where
 fQ:Nat
 out:b8
 aG:Int
def ub(s:ES):Ob:=.aR s.out.length 3 1 (aw s.out)
def eO(x:Input)(m:Nat)(c:Int)(a v:Nat):Ob:=.box [.v (.sl (bj x.ai)),.v (.sl (aw x.insert)),.v (ti x.swap),.v (ti m),.aQ a v,.v (ti c)]
def T7:bD->bA->fp
 |[.ptr b 0],ab=>
  match ab b with
  |some (.box [.v (.sl c),_,_,.v (.int .i64 m),_,_])=>⟨0<=m/\m<c.length/\c=bj (kr c),.v (.dh [.agg ((kr c).getD m.toNat default).enc,.bool true]),ab⟩
  |_=>⟨False,.undef,ab⟩
 |_,ab=>⟨False,.undef,ab⟩
def ahf{b:Nat}{c2 c3 c5 c6:DV}{c:List bz}{m:Nat}{N:Nat}(hN:∀r,N<=r->f0 r=none)(hb:f0 b=some (.box [.v (.sl (bj c)),c2,c3,.v (ti m),c5,c6]))(hm:m<c.length):
  b9 Tryd.prog 142 [.ptr b 0] f0 ⟨True,.v (.dh [.agg (c.getD m default).enc,.bool true]),f0⟩:=by
 have am:=MC;refine ahg.KQ hN (by simp) λcD=>?_;have yq:b<N:=(cD b _ hb).1;have nb:∀k,b≠N+k:=λk=>by omega
 have fz:=cu hm;obtain⟨⟨kd,rd,dl⟩,ec⟩:=ba (c.getD m default);rw[ec]at fz;rw[ec];simp[bz.enc];apply aa.ag am fw [0,2,3];simp[M0];apply aa.sq am fw [0,2,3,14];simp[M1,hb,nb,ym];refine aa.cond rfl (λaZ=>by simp at aZ;omega) (λaZ=>?_);apply aa.skip;simp;apply aa.ag am fw [2,3];simp[M3,hb,nb,ym,hm,fz,bz.enc];refine aa.le (Le.gk (l1:=[]) (l:=[(2,.v (.box [ti kd,.sl (aw rd),ti dl])),(3,.v (.bool true))]) (bC:=N+100) cD ?_ ?_ ?_ ?_ ?_) ?_
 ·omega
 ·simp
 ·simp[cx]
 ·simp[kb]
 ·simp;exact mw cD (by omega) (by simp)
 apply aa.ret;simp[Hy];rfl
def dX(x:Input)(s:ES)(k t:Nat):ES:=
 if k=1 then⟨s.fQ+1,s.out++[(t:Int)],min (s.aG+j9 x s.fQ t) u7⟩
 else if k=2 then⟨s.fQ+1,s.out,min (s.aG+yO x s.fQ) u7⟩
 else if k=3 then⟨s.fQ,s.out++[(t:Int)],min (s.aG+yP x t) u7⟩
 else⟨s.fQ+2,s.out++[(x.ai.getD (s.fQ+1) default).kind,(x.ai.getD s.fQ default).kind],min (s.aG+x.swap) u7⟩
def nP(x:Input)(s:ES)(k t:Nat):Prop:=
 if k=1 then s.fQ<x.ai.length/\t<(x.ai.getD s.fQ default).read.length/\0<=j9 x s.fQ t/\j9 x s.fQ t<=u7
 else if k=2 then s.fQ<x.ai.length/\t=0/\0<=yO x s.fQ/\yO x s.fQ<u7
 else if k=3 then t<x.insert.length/\0<=yP x t/\yP x t<=u7
 else t=0/\cz x s.fQ=true/\0<=x.swap/\x.swap<=u7
structure Ch(x:Input)(s:ES):Prop where
 fQ:s.fQ<=1000000
 out:s.out.length<=999990
 c0:0<=s.aG
 c1:s.aG<=u7
 abf:x.ai.length<=1000000
abbrev ahh:DM.Spec:=bp (λts=>∃a b:Int,ts=[ti a,ti b]/\(-1000000000000000000<=a/\a<=1000000000000000000)/\(-1000000000000000000<=b/\b<=1000000000000000000)) (fun|[.int _ a,.int _ b]=>ti (min (a+b) u7)|_=>.bool false) true
abbrev eSw:DM.Spec:=bp (λts=>∃(x:Input) (m:Nat),ts=[x.enc,ti m]/\m<=1000000/\x.ai.length<=1000000) (fun|[x,.int _ m]=>.bool (cz (yr x) m.toNat)|_=>.bool false) true
def T8:au Tryd.prog (bG [(142,ee T7),(136,ee T6),(143,ahh),(144,eSw)]):=by
 refine au.gm (au.gm (au.cons (au.cons au.nil ?_) ?_) ?_) ?_
 ·rintro ts ⟨x,m,rfl,h1,h2⟩;exact⟨by simpa using t74 x m h1 h2,λ_=>rfl⟩
 ·rintro ts ⟨a,b,rfl,h1,h2⟩;exact⟨by simpa using t57 a b h1 h2,λ_=>rfl⟩
 ·intro args ab h;unfold T6 at h⊢;split at h
  ·rename_i ay b t;split at h
   ·rename_i c1 c2 c3 c4 a v c6 hb;split at h
    ·rename_i v' e sz an ha;obtain⟨rfl,rfl,rfl,gi,hl,mU⟩:=h;refine⟨λN hN=>?_,λr hr=>?_⟩
     ·exact b9.of (ahd hN hb ha gi hl mU) (by simp[]) (by simp[])
     ·simp only[];have IL:r≠b:=λe=>by rw[e,hb]at hr;cases hr
      have Ae:r≠a:=λe=>by rw[e,ha]at hr;cases hr
      rw[u9 IL,u9 Ae];exact hr
    ·exact h.elim
   ·exact h.elim
  ·exact h.elim
 ·intro args ab h;unfold T7 at h⊢;split at h
  ·rename_i ay b;split at h
   ·rename_i c c2 c3 m c5 c6 hb;obtain⟨h1,h2,h3⟩:=h;obtain⟨m,rfl⟩:=eM h1;obtain⟨cl,cD⟩:=ba (kr c);rw[cD]at h3;subst h3;refine⟨λN hN=>?_,λr hr=>?_⟩
    ·exact b9.of (ahf hN hb (by simpa using h2)) (by simp[]) (by simp[])
    ·simpa [hb]using hr
   ·exact h.elim
  ·exact h.elim
def HA{b m v a:Nat}{x:Input}{c:Int}(hb:f b=some (eO x m c a v)):T7 [.ptr b 0] f=⟨m<x.ai.length,.v (.dh [.agg (x.ai.getD m default).enc,.bool true]),f⟩:=by
 simp[T7,hb,eO]
def vc{b m v a:Nat}{x:Input}{c t:Int}{l:b8}(hb:f b=some (eO x m c a v))(ha:f a=some (.aR v 3 1 (aw l)))(gi:a≠b):
  T6 [.ptr b 0,.v (ti t)] f=⟨l.length<=1000000,.v (.dh []),bI (bI f a (.aR (v+1) 3 1 (aw (l++[t])))) b (eO x m c a (v+1))⟩:=by
 have hr:∀r∈aw l,r.length=1:=by intro r hr;simp only[aw,kL]at hr;obtain⟨_,_,rfl⟩:=hr;rfl
 have e:aw (l++[t])=aw l++[[ti t]]:=by simp[aw]
 simp only[T6,hb,eO,ha,e,fp.mk.injEq,QM,eq_iff_iff,E4];simp[gi,aw]
end
section
variable{f0:bA}
def n8{N az bC:Nat}{tm:cQ}{l:iE}{L:d0}{b a m v:Nat}{x:Input}{c:Int}{an:List (ar)}(cD:mV f0 N)(hb:b<N)(ha:a<N)(gi:a≠b)(hn:N<=bC)
  (hL:∀p∈L,p.1=b\/p.1=a\/N<=p.1) (h1:cB L f0 b=some (eO x m c a v)) (h2:cB L f0 a=some (.aR v 3 1 an))
  (pP:kM (cB L f0) (cB [(b,eO x m c a v),(a,.aR v 3 1 an)] f0) id tm l):
  Le ⟨tm,cB L f0,az,N,[]⟩ ⟨DM.look l,cB [(b,eO x m c a v),(a,.aR v 3 1 an)] f0,bC,N,[]⟩:=by
 have V0:b≠a:=λe=>gi e.symm;refine Le.gk cD hn ?_ ?_ ?_ pP
 ·simp;omega
 ·have:∀(L:d0),(∀p∈L,p.1=b\/p.1=a\/N<=p.1)->cx N [(b,eO x m c a v),(a,.aR v 3 1 an)] L:=by
   intro L;induction L with
   |nil=>intro _;trivial
   |cons q L ih=>
    intro h;refine⟨λhq=>?_,ih λp hp=>h p (by simp[hp])⟩;rcases h q (by simp)with h|h|h
    ·exact⟨eO x m c a v,by rw[h];simp⟩
    ·exact⟨.aR v 3 1 an,by rw[h];simp⟩
    ·omega
  exact this _ hL
 ·refine⟨⟨eO x m c a v,h1,.inr ⟨rfl,λn hn=>?_⟩,λ_=>cY _⟩,⟨.aR v 3 1 an,h2,.inr ⟨rfl,λn hn=>by simp[gI]at hn⟩,λ_=>cY _⟩,trivial⟩;have:n=a:=by simpa [eO,gI,ca,aS]using hn
  subst this;exact⟨_,_,h2,by simp[gi],cY _⟩
def ahi{b a:Nat}{x:Input}{s:ES}{t:Nat}{N:Nat}(hN:∀r,N<=r->f0 r=none)(hb:f0 b=some (eO x s.fQ s.aG a s.out.length))(ha:f0 a=some (.aR s.out.length 3 1 (aw s.out)))(gi:a≠b)
  (hs:Ch x s) (hc:nP x s 1 t):
  b9 Tryd.prog 138 [.ptr b 0,.v (ti t)] f0 ⟨True,.v (.bool true),bI (bI f0 a (.aR (s.out.length+1) 3 1 (aw (s.out++[(t:Int)])))) b (eO x (s.fQ+1) (min (s.aG+j9 x s.fQ t) u7) a (s.out.length+1))⟩:=by
 have am:=T8;refine ahj.KQ hN (by simp) λcD=>?_;have yq:b<N:=(cD b _ hb).1;have Fv:a<N:=(cD a _ ha).1;have V0:b≠a:=λe=>gi e.symm;have nb:∀k,b≠N+k:=λk=>by omega
 have na:∀k,a≠N+k:=λk=>by omega
 obtain⟨m,out,c⟩:=s;obtain⟨h1,M4,h3,h4,h5⟩:=hs;have h2:out.length<=1000000:=wB M4 (by omega);simp only[nP,uV]at*
 obtain⟨q1,q2,q3,q4⟩:=hc;have MD:j9 x m t=(x.ai.getD m default).read.getD t default:=rfl;obtain⟨⟨kd,rd,dl⟩,ec⟩:=ba (x.ai.getD m default);rw[ec]at q2 MD;simp only at q2 MD;have rr:=bS q2;obtain⟨g,hg⟩:=ba (j9 x m t);rw[hg]at MD q3 q4;rw[<-MD]at rr;rw[hg];have Sa:DM.rowAt (aw rd) (t:Int)=[ti g]:=rr;have I2:x.ai[m]?.getD default=⟨kd,rd,dl⟩:=ec;have I4:x.ai[m]'q1=⟨kd,rd,dl⟩:=by rw[<-I2,fq q1];rfl
 have q5:¬g<0:=by omega
 have q6:¬(rd.length:Int)<=t:=by omega
 have hI:u7=1099511627776:=rfl;simp;apply aa.ag am fw [0,1];simp[M6];apply aa.vd am fw (rs:=Af) rfl (by kernel_rfl) [0,1,5,6];simp[Af,HA (x:=x) (m:=m) (c:=c) (a:=a) (v:=out.length),hb,q1,I4,bz.enc];refine aa.le (Le.gk (l1:=[]) (l:=[(0,.ptr b 0),(1,.v (ti t)),(5,.v (.box [ti kd,.sl (aw rd),ti dl])),(6,.v (.bool true))]) (bC:=N+1000) cD ?_ ?_ ?_ ?_ ?_) ?_
 ·omega
 ·simp
 ·simp[cx];omega
 ·simp[kb,jA]
 ·simp[hb,eO,nb,ym];exact mw (l:=[]) cD (by omega) (by simp)
 apply aa.seq;refine aa.co am fw [(0,.ptr b 0),(1,.v (ti t)),(5,.v (.box [ti kd,.sl (aw rd),ti dl])),(32,.v (.bool false))] ?_ ?_
 ·have q7:¬(t:Int)<0:=by omega
  simp[M7,q5,q6,q2,Sa,q7]
 refine aa.cond rfl (λaZ=>by cases aZ) (λaZ=>?_);apply aa.skip;simp;have w1:IntKind.i64.wrap ((m:Int)+1)=((m+1:Nat):Int):=by rw[aq (by omega)];omega
 apply aa.ag am fw [0,1,5];simp[M8,hb,eO,w1];refine aa.le (n8 (x:=x) (m:=m+1) (c:=c) (v:=out.length) (an:=aw out) (l:=[(0,.ptr b 0),(1,.v (ti t)),(5,.v (.box [ti kd,.sl (aw rd),ti dl]))]) (bC:=N+2000) cD yq Fv gi (by omega) ?_ ?_ ?_ ?_) ?_
 ·simp
 ·simp[eO]
 ·simp[gi,ha]
 ·simp[eO]
 apply aa.vd am fw (rs:=Ag) rfl (by kernel_rfl) [0,1,5];simp[Ag,vc (x:=x) (m:=m+1) (c:=c) (v:=out.length) (l:=out) (a:=a),gi,h2];rw[ez,ez];refine aa.le (n8 (x:=x) (m:=m+1) (c:=c) (v:=out.length+1) (an:=aw (out++[(t:Int)])) (l:=[(0,.ptr b 0),(1,.v (ti t)),(5,.v (.box [ti kd,.sl (aw rd),ti dl]))]) (bC:=N+3000) cD yq Fv gi (by omega) ?_ ?_ ?_ ?_) ?_
 ·simp
 ·simp[eO]
 ·simp[gi]
 ·simp[eO]
 apply aa.ag am fw [];simp[M9,eO,q2,Sa];refine⟨?_, ?_⟩
 ·exact⟨c,g,⟨rfl,rfl⟩,⟨by omega,by omega⟩,by omega,by omega⟩
 refine aa.le (n8 (x:=x) (m:=m+1) (c:=min (c+g) u7) (v:=out.length+1) (an:=aw (out++[(t:Int)])) (l:=[]) (bC:=N+4000) cD yq Fv gi (by omega) ?_ ?_ ?_ ?_) ?_
 ·simp
 ·simp[eO]
 ·simp[gi]
 ·simp[eO]
 apply aa.ag am fw [4];simp[Na];apply aa.ret;simp[ci,eO];rfl
def ahk{b a:Nat}{x:Input}{s:ES}{t:Nat}{N:Nat}(hN:∀r,N<=r->f0 r=none)(hb:f0 b=some (eO x s.fQ s.aG a s.out.length))(ha:f0 a=some (.aR s.out.length 3 1 (aw s.out)))(gi:a≠b)
  (hs:Ch x s) (hc:nP x s 2 t):
  b9 Tryd.prog 139 [.ptr b 0,.v (ti t)] f0 ⟨True,.v (.bool true),bI f0 b (eO x (s.fQ+1) (min (s.aG+yO x s.fQ) u7) a s.out.length)⟩:=by
 have am:=T8;refine ahl.KQ hN (by simp) λcD=>?_;have yq:b<N:=(cD b _ hb).1;have Fv:a<N:=(cD a _ ha).1;have V0:b≠a:=λe=>gi e.symm;have nb:∀k,b≠N+k:=λk=>by omega
 have na:∀k,a≠N+k:=λk=>by omega
 obtain⟨m,out,c⟩:=s;obtain⟨h1,M4,h3,h4,h5⟩:=hs;have h2:out.length<=1000000:=wB M4 (by omega);simp only[nP,uV]at*
 have hI:u7=1099511627776:=rfl;rw[mL (by omega)]at hc;obtain⟨q1,rfl,q3,q4⟩:=hc;have MD:yO x m=(x.ai.getD m default).delete:=rfl;obtain⟨⟨kd,rd,dl⟩,ec⟩:=ba (x.ai.getD m default);rw[ec]at MD;simp only at MD;rw[MD]at q3 q4;rw[MD];have I2:x.ai[m]?.getD default=⟨kd,rd,dl⟩:=ec;have I4:x.ai[m]'q1=⟨kd,rd,dl⟩:=by rw[<-I2,fq q1];rfl
 have q5:¬(1099511627776:Int)<=dl:=by omega
 simp;apply aa.ag am fw [0,1];simp[Nb];apply aa.vd am fw (rs:=Ah) rfl (by kernel_rfl) [0,1,5,6];simp[Ah,HA (x:=x) (m:=m) (c:=c) (a:=a) (v:=out.length),hb,q1,I4,bz.enc];refine aa.le (Le.gk (l1:=[]) (l:=[(0,.ptr b 0),(1,.v (ti 0)),(5,.v (.box [ti kd,.sl (aw rd),ti dl])),(6,.v (.bool true))]) (bC:=N+1000) cD ?_ ?_ ?_ ?_ ?_) ?_
 ·omega
 ·simp
 ·simp[cx];omega
 ·simp[kb,jA]
 ·simp[hb,eO,nb,ym];exact mw (l:=[]) cD (by omega) (by simp)
 apply aa.seq;refine aa.co am fw [(0,.ptr b 0),(5,.v (.box [ti kd,.sl (aw rd),ti dl])),(22,.v (.bool false))] ?_ ?_
 ·simp[Nc,q5]
 refine aa.cond rfl (λaZ=>by cases aZ) (λaZ=>?_);apply aa.skip;simp;have w1:IntKind.i64.wrap ((m:Int)+1)=((m+1:Nat):Int):=by rw[aq (by omega)];omega
 apply aa.ag am fw [0,5];simp[Nd,hb,eO,w1];refine aa.le (n8 (x:=x) (m:=m+1) (c:=c) (v:=out.length) (an:=aw (out)) (l:=[(0,.ptr b 0),(5,.v (.box [ti kd,.sl (aw rd),ti dl]))]) (bC:=N+2000) cD yq Fv gi (by omega) ?_ ?_ ?_ ?_) ?_
 ·simp
 ·simp[eO]
 ·simp[gi,ha]
 ·simp[eO]
 apply aa.ag am fw [];simp[Nf,eO];refine⟨?_, ?_⟩
 ·exact⟨c,dl,⟨rfl,rfl⟩,⟨by omega,by omega⟩,by omega,by omega⟩
 refine aa.le (n8 (x:=x) (m:=m+1) (c:=min (c+dl) u7) (v:=out.length) (an:=aw (out)) (l:=[]) (bC:=N+4000) cD yq Fv gi (by omega) ?_ ?_ ?_ ?_) ?_
 ·simp
 ·simp[eO]
 ·simp[gi,ha]
 ·simp[eO]
 apply aa.ag am fw [4];simp[Ng];apply aa.ret;simp[ci,eO];show bI (bI f0 a _) b _=_;rw[qg ha]
def ahm{b a:Nat}{x:Input}{s:ES}{t:Nat}{N:Nat}(hN:∀r,N<=r->f0 r=none)(hb:f0 b=some (eO x s.fQ s.aG a s.out.length))(ha:f0 a=some (.aR s.out.length 3 1 (aw s.out)))(gi:a≠b)
  (hs:Ch x s) (hc:nP x s 3 t):
  b9 Tryd.prog 140 [.ptr b 0,.v (ti t)] f0 ⟨True,.v (.bool true),bI (bI f0 a (.aR (s.out.length+1) 3 1 (aw (s.out++[(t:Int)])))) b (eO x s.fQ (min (s.aG+yP x t) u7) a (s.out.length+1))⟩:=by
 have am:=T8;refine ahn.KQ hN (by simp) λcD=>?_;have yq:b<N:=(cD b _ hb).1;have Fv:a<N:=(cD a _ ha).1;have V0:b≠a:=λe=>gi e.symm;have nb:∀k,b≠N+k:=λk=>by omega
 have na:∀k,a≠N+k:=λk=>by omega
 obtain⟨m,out,c⟩:=s;obtain⟨h1,M4,h3,h4,h5⟩:=hs;have h2:out.length<=1000000:=wB M4 (by omega);simp only[nP,uV]at*
 have hI:u7=1099511627776:=rfl;rw[mL (by omega),mL (by omega)]at hc;obtain⟨q2,q3,q4⟩:=hc;have rr:=bS q2;have MD:yP x t=x.insert.getD t default:=rfl;obtain⟨g,hg⟩:=ba (yP x t);rw[hg]at MD q3 q4;rw[<-MD]at rr;rw[hg];have Sa:DM.rowAt (aw x.insert) (t:Int)=[ti g]:=rr;have q6:¬(x.insert.length:Int)<=t:=by omega
 have q7:¬(t:Int)<0:=by omega
 simp;apply aa.ag am fw [0,1];simp[Nh];apply aa.seq;refine aa.co am fw [(0,.ptr b 0),(1,.v (ti t)),(16,.v (.bool false))] ?_ ?_
 ·simp[Ni,hb,eO,q6,q7]
 refine aa.cond rfl (λaZ=>by cases aZ) (λaZ=>?_);apply aa.skip;simp;apply aa.vd am fw (rs:=Ai) rfl (by kernel_rfl) [0,1];simp[Ai,vc (x:=x) (m:=m) (c:=c) (v:=out.length) (l:=out) (a:=a),gi,h2,hb,ha];rw[ez,ez];refine aa.le (n8 (x:=x) (m:=m) (c:=c) (v:=out.length+1) (an:=aw (out++[(t:Int)])) (l:=[(0,.ptr b 0),(1,.v (ti t))]) (bC:=N+3000) cD yq Fv gi (by omega) ?_ ?_ ?_ ?_) ?_
 ·simp
 ·simp[eO]
 ·simp[gi,ha]
 ·simp[eO]
 apply aa.ag am fw [];simp[Nj,eO,q2,Sa];refine⟨?_, ?_⟩
 ·exact⟨c,g,⟨rfl,rfl⟩,⟨by omega,by omega⟩,by omega,by omega⟩
 refine aa.le (n8 (x:=x) (m:=m) (c:=min (c+g) u7) (v:=out.length+1) (an:=aw (out++[(t:Int)])) (l:=[]) (bC:=N+4000) cD yq Fv gi (by omega) ?_ ?_ ?_ ?_) ?_
 ·simp
 ·simp[eO]
 ·simp[gi,ha]
 ·simp[eO]
 apply aa.ag am fw [4];simp[Nk];apply aa.ret;simp[ci,eO];rfl
def aho{b a:Nat}{x:Input}{s:ES}{t:Nat}{N:Nat}(hN:∀r,N<=r->f0 r=none)(hb:f0 b=some (eO x s.fQ s.aG a s.out.length))(ha:f0 a=some (.aR s.out.length 3 1 (aw s.out)))(gi:a≠b)
  (hs:Ch x s) (hc:nP x s 4 t):
  b9 Tryd.prog 141 [.ptr b 0,.v (ti t)] f0 ⟨True,.v (.bool true),bI (bI f0 a (.aR (s.out.length+2) 3 1 (aw (s.out++[(x.ai.getD (s.fQ+1) default).kind,(x.ai.getD s.fQ default).kind])))) b (eO x (s.fQ+2) (min (s.aG+x.swap) u7) a (s.out.length+2))⟩:=by
 have am:=T8;refine ahp.KQ hN (by simp) λcD=>?_;have yq:b<N:=(cD b _ hb).1;have Fv:a<N:=(cD a _ ha).1;have V0:b≠a:=λe=>gi e.symm;have nb:∀k,b≠N+k:=λk=>by omega
 have na:∀k,a≠N+k:=λk=>by omega
 obtain⟨m,out,c⟩:=s;obtain⟨h1,M4,h3,h4,h5⟩:=hs;have h2:out.length<=1000000:=wB M4 (by omega);simp only[nP,uV]at*
 have hI:u7=1099511627776:=rfl;rw[mL (by omega),mL (by omega),mL (by omega)]at hc;obtain⟨rfl,q2,q3,q4⟩:=hc;have q1:=yN q2;have Eb:m<x.ai.length:=by omega
 have r1:=cu q1;have r2:=cu Eb;obtain⟨⟨k1,rd1,dl1⟩,ec1⟩:=ba (x.ai.getD m default);obtain⟨⟨k2,rd2,dl2⟩,ec2⟩:=ba (x.ai.getD (m+1) default);rw[ec2]at r1;rw[ec1]at r2;rw[ec1,ec2];have r1':DM.rowAt (bj x.ai) ((m:Int)+1)=(⟨k2,rd2,dl2⟩:bz).enc:=by simpa using r1
 obtain⟨xt,Nl⟩:=ba x.enc;have qY:T.agg [.sl (bj x.ai),.sl (aw x.insert),ti x.swap]=xt:=Nl;have zX:yr xt=x:=by rw[<-Nl];simp
 have mW:∃(x2:Input) (m2:Nat),(xt=x2.enc/\(m:Int)=m2)/\m2<=1000000/\x2.ai.length<=1000000:=⟨x,m,⟨Nl.symm,rfl⟩,h1,h5⟩;have w1:IntKind.i64.wrap ((m:Int)+1)=(m:Int)+1:=aq (by omega);have w2:IntKind.i64.wrap ((m:Int)+2)=((m+2:Nat):Int):=by rw[aq (by omega)];omega
 have q5:(m:Int)+1<x.ai.length:=by omega
 have q6:0<=(m:Int)+1:=by omega
 simp;apply aa.ag am fw [0,1];simp[Nm];apply aa.seq;refine aa.co am fw [(0,.ptr b 0),(18,.v (.bool false))] ?_ ?_
 ·simp[Nn,hb,eO,qY,zX,q2];exact mW
 refine aa.cond rfl (λaZ=>by cases aZ) (λaZ=>?_);apply aa.skip;simp;refine aa.eC am fw (rs:=Aj) (.inr ⟨_,rfl⟩) (by kernel_rfl) [0] ?_;have i7:f0 b=some (.box [.v (.sl (bj x.ai)),.v (.sl (aw x.insert)),.v (ti x.swap),.v (ti m),.aQ a out.length,.v (ti c)]):=hb;have hk:=vc (f:=cB [] f0) (t:=k2) (x:=x) (m:=m) (c:=c) (v:=out.length) (l:=out) (a:=a) hb ha gi;simp[Aj,hk,h2,i7,w1,r1',q5,q6,bz.enc];rw[ez,ez];refine aa.le (n8 (x:=x) (m:=m) (c:=c) (v:=out.length+1) (an:=aw (out++[k2])) (l:=[(0,.ptr b 0)]) (bC:=N+3000) cD yq Fv gi (by omega) ?_ ?_ ?_ ?_) ?_
 ·simp
 ·simp[eO]
 ·simp[gi,ha]
 ·simp[eO]
 have yu:cB [(b,eO x m c a (out.length+1)),(a,.aR (out.length+1) 3 1 (aw (out++[k2])))] f0 b=some (.box [.v (.sl (bj x.ai)),.v (.sl (aw x.insert)),.v (ti x.swap),.v (ti m),.aQ a (out.length+1),.v (ti c)]):=by simp[eO]
 have hk:=vc (f:=cB [(b,eO x m c a (out.length+1)),(a,.aR (out.length+1) 3 1 (aw (out++[k2])))] f0) (t:=k1) (x:=x) (m:=m) (c:=c) (v:=out.length+1) (l:=out++[k2]) (a:=a) (b:=b) (by simp) (by simp[gi]) gi;obtain⟨F,hF⟩:=ba (cB [(b,eO x m c a (out.length+1)),(a,.aR (out.length+1) 3 1 (aw (out++[k2])))] f0);rw[hF]at yu hk;rw[hF];have ahq:out.length+1<=1000000:=by omega
 refine aa.eC am fw (rs:=Ak) (.inr ⟨_,rfl⟩) (by kernel_rfl) [0] ?_;simp[Ak,hk,ahq,yu,r2,Eb,bz.enc];rw[<-hF,ez,ez];refine aa.le (n8 (x:=x) (m:=m) (c:=c) (v:=out.length+2) (an:=aw (out++[k2,k1])) (l:=[(0,.ptr b 0)]) (bC:=N+5000) cD yq Fv gi (by omega) ?_ ?_ ?_ ?_) ?_
 ·simp
 ·simp[eO]
 ·simp[gi,ha]
 ·simp[eO]
 apply aa.ag am fw [0];simp[No,eO,w2];refine aa.le (n8 (x:=x) (m:=m+2) (c:=c) (v:=out.length+2) (an:=aw (out++[k2,k1])) (l:=[(0,.ptr b 0)]) (bC:=N+6000) cD yq Fv gi (by omega) ?_ ?_ ?_ ?_) ?_
 ·simp
 ·simp[eO]
 ·simp[gi,ha]
 ·simp[eO]
 apply aa.ag am fw [];simp[Np,eO];refine⟨?_, ?_⟩
 ·exact⟨c,x.swap,⟨rfl,rfl⟩,⟨by omega,by omega⟩,by omega,by omega⟩
 refine aa.le (n8 (x:=x) (m:=m+2) (c:=min (c+x.swap) u7) (v:=out.length+2) (an:=aw (out++[k2,k1])) (l:=[]) (bC:=N+7000) cD yq Fv gi (by omega) ?_ ?_ ?_ ?_) ?_
 ·simp
 ·simp[eO]
 ·simp[gi,ha]
 ·simp[eO]
 apply aa.ag am fw [4];simp[Nq];apply aa.ret;simp[ci,eO];rfl
end
def jR(ab:bA)(b:Nat):Input×ES×Nat:=
 match ab b with
 |some (.box [.v (.sl c),.v (.sl i),.v (.int .i64 w),.v (.int .i64 m),.aQ a _,.v (.int .i64 q)])=>
  (⟨kr c,dS i,w⟩,⟨m.toNat,(match ab a with|some (.aR _ _ _ an)=>dS an|_=>[]),q⟩,a)
 |_=>(⟨[],[],0⟩,⟨0,[],0⟩,0)
def T9{ab:bA}{b a:Nat}{x:Input}{s:ES}(h:ab b=some (eO x s.fQ s.aG a s.out.length))(ha:ab a=some (ub s)):jR ab b=(x,s,a):=by
 simp only[jR,h,eO,ha,ub];simp
def kE(k:Nat):bD->bA->fp
 |[.ptr b 0,.v (.int .i64 t)],ab=>
  ⟨0<=t/\ab b=some (eO (jR ab b).1 (jR ab b).2.1.fQ (jR ab b).2.1.aG (jR ab b).2.2 (jR ab b).2.1.out.length)/\ab (jR ab b).2.2=some (ub (jR ab b).2.1)/\(jR ab b).2.2≠b/\Ch (jR ab b).1 (jR ab b).2.1/\nP (jR ab b).1 (jR ab b).2.1 k t.toNat,
   .v (.bool true),bI (bI ab (jR ab b).2.2 (ub (dX (jR ab b).1 (jR ab b).2.1 k t.toNat))) b (eO (jR ab b).1 (dX (jR ab b).1 (jR ab b).2.1 k t.toNat).fQ (dX (jR ab b).1 (jR ab b).2.1 k t.toNat).aG (jR ab b).2.2 (dX (jR ab b).1 (jR ab b).2.1 k t.toNat).out.length)⟩
 |_,ab=>⟨False,.undef,ab⟩
def ad0{ab:bA}{b a k t:Nat}{x:Input}{s:ES}(h:ab b=some (eO x s.fQ s.aG a s.out.length))(ha:ab a=some (ub s))(gi:a≠b):
  kE k [.ptr b 0,.v (ti t)] ab=⟨Ch x s/\nP x s k t,.v (.bool true),bI (bI ab a (ub (dX x s k t))) b (eO x (dX x s k t).fQ (dX x s k t).aG a (dX x s k t).out.length)⟩:=by
 simp only[kE,T9 h ha,h,ha,ib,fp.mk.injEq,QM,E4,eq_iff_iff];simp[gi]
def HB{f k:Nat}(H:∀{f0:bA} {b a:Nat} {x:Input} {s:ES} {t:Nat} {N:Nat},(∀r,N<=r->f0 r=none)->f0 b=some (eO x s.fQ s.aG a s.out.length)->f0 a=some (.aR s.out.length 3 1 (aw s.out))->a≠b->Ch x s->nP x s k t->
  b9 Tryd.prog f [.ptr b 0,.v (ti t)] f0 ⟨True,.v (.bool true),bI (bI f0 a (ub (dX x s k t))) b (eO x (dX x s k t).fQ (dX x s k t).aG a (dX x s k t).out.length)⟩):
  ∀args ab,(kE k args ab).ok->(∀N,(∀r,N<=r->ab r=none)->b9 Tryd.prog f args ab (kE k args ab))/\∀r,ab r=none->(kE k args ab).ab r=none:=by
 intro args ab h;unfold kE at h⊢;split at h
 ·rename_i ay b t;obtain⟨h1,hb,ha,gi,hs,hc⟩:=h;obtain⟨t,rfl⟩:=eM h1;refine⟨λN hN=>?_,λr hr=>?_⟩
  ·exact b9.of (H hN hb ha gi hs hc) rfl rfl
  ·simp only;have IL:r≠b:=λe=>by rw[e,hb]at hr;cases hr
   have Ae:r≠(jR ab b).2.2:=λe=>by rw[e,ha]at hr;cases hr
   rw[u9 IL,u9 Ae];exact hr
 ·exact h.elim
def ad1:au Tryd.prog (bG [(138,ee (kE 1)),(139,ee (kE 2)),(140,ee (kE 3)),(141,ee (kE 4))]):=by
 refine au.gm (au.gm (au.gm (au.gm au.nil ?_) ?_) ?_) ?_
 ·refine HB λ{f0 b a x s t N} hN hb ha gi hs hc=>?_;have:=aho hN hb ha gi hs hc;simpa [dX,ub]using this
 ·refine HB λ{f0 b a x s t N} hN hb ha gi hs hc=>?_;have:=ahm hN hb ha gi hs hc;simpa [dX,ub]using this
 ·refine HB λ{f0 b a x s t N} hN hb ha gi hs hc=>?_;have:=ahk hN hb ha gi hs hc;have e:bI f0 a (ub s)=f0:=qg ha;have e2:dX x s 2 t=⟨s.fQ+1,s.out,min (s.aG+yO x s.fQ) u7⟩:=rfl;have e3:ub (dX x s 2 t)=ub s:=rfl;rw[e3,e,e2];exact this
 ·refine HB λ{f0 b a x s t N} hN hb ha gi hs hc=>?_;have:=ahi hN hb ha gi hs hc;simpa [dX,ub]using this
def I6(x:Input)(s:ES)(o:Int×Int):ES:=dX x s o.1.toNat o.2.toNat
def nQ(x:Input)(l:List (Int×Int)):ES:=l.foldl (I6 x) ⟨0,[],0⟩
def KR(x:Input){l:List (Int×Int)}{j:Nat}(h:j<l.length):nQ x (l.take (j+1))=I6 x (nQ x (l.take j)) (l.getD j default):=by
 unfold nQ;rw[CB,fq h,Option.toList_some,LV];simp[List.getD,h]
structure n9(x:Input)(l:List (Int×Int)):Prop where
 st:∀j,j<=l.length->Ch x (nQ x (l.take j))
 kind:∀o∈l,1<=o.1/\o.1<=4/\0<=o.2
 can:∀j,j<l.length->nP x (nQ x (l.take j)) (l.getD j default).1.toNat (l.getD j default).2.toNat
 je:(nQ x l).fQ=x.ai.length
 len:l.length<=1000000000
def Nr(x:Input)(l:List (Int×Int)):T:=.box [.sl (bj x.ai),.sl (aw x.insert),ti x.swap,ti (nQ x l).fQ,.sl (aw (nQ x l).out),ti (nQ x l).aG]
def ahr(x:Input)(l:List (Int×Int))(h:n9 x l):aI Tryd.prog 80 [x.enc,.sl (ce l)] (.dh [Nr x l,ti 0]):=by
 have am:=ad1;have dI:=h.len;refine ahs.ok (by simp) (aC ?_);simp[Input.enc];apply aa.ag am fw [1,2];simp[Ns];apply aa.ag am fw [1,2,6];simp[Nt];refine aa.lk (o:=[(1060,.box [.v (.sl (bj x.ai)),.v (.sl (aw x.insert)),.v (ti x.swap),.v (ti 0),.aF,.v (ti 0)])]) (l:=[(1,.v (.sl (ce l))),(2,.v (.box [.sl (bj x.ai),.sl (aw x.insert),ti x.swap])),(6,.ptr 1060 0)]) (bC:=1100) (by simp) ?_;refine aa.le (Le.ve 1060 4 3 (sz:=1) (cs:=[.v (.sl (bj x.ai)),.v (.sl (aw x.insert)),.v (ti x.swap),.v (ti 0),.aF,.v (ti 0)]) (by omega) (by simp) (by simp)) ?_;rw[gn,gn];apply aa.sq am fw [2,6,12,13,14];simp[Nu];apply aa.block;refine aa.loop (λi:Nat=>⟨DM.look [(2,.v (.box [.sl (bj x.ai),.sl (aw x.insert),ti x.swap])),(6,.ptr 1060 0),(12,.v (.sl (ce l))),(13,.v (ti l.length)),(14,.v (ti i))],cC [(1060,eO x (nQ x (l.take i)).fQ (nQ x (l.take i)).aG 1100 (nQ x (l.take i)).out.length),(1100,ub (nQ x (l.take i)))],2000,1000,[]⟩)
  (λi=>i<=l.length) (λi=>l.length-i) 0 (Le.aD ?_ ?_ ?_ ?_) (by simp) (λi hi=>?_)
 ·simp
 ·simp
 ·simp[nQ,eO,ub,aw]
 ·simp[eO]
 apply aa.ag am fw [2,6,12,13,14,15];simp[Nv];apply aa.seq;refine aa.cond rfl (λaZ=>?_) (λaZ=>?_)
 ·simp at aZ;apply aa.skip;simp;have fz:=KS aZ;have uR:=h.st i (by omega);have Ci:=h.can i aZ;have gO:=KR x aZ;obtain⟨ma,Sc,Kw⟩:=h.kind (l.getD i default) (by rw[List.getD,fq aZ];exact ME aZ);obtain⟨⟨k,t⟩,ho⟩:=ba (l.getD i default);rw[ho]at fz Ci gO ma Sc Kw;simp only at Ci ma Sc Kw;obtain⟨t,rfl⟩:=eM Kw;simp only[I6,ib]at gO Ci;obtain⟨s,hs⟩:=ba (nQ x (l.take i));rw[hs]at uR Ci gO;rw[hs];apply aa.seq;apply aa.block;apply aa.ag am fw [2,6,8,12,13,14];simp[Nw,fz,aZ];refine aa.le (Le.aD (o:=[(1060,eO x s.fQ s.aG 1100 s.out.length),(1100,ub s)]) (l:=[(2,.v (.box [.sl (bj x.ai),.sl (aw x.insert),ti x.swap])),(6,.ptr 1060 0),(8,.v (.box [ti k,ti t])),(12,.v (.sl (ce l))),(13,.v (ti l.length)),(14,.v (ti i))]) (bC:=3000) ?_ ?_ ?_ ?_) ?_
  ·simp
  ·simp
  ·simp[eO,ub]
  ·simp[eO]
  obtain⟨s',Ec⟩:=ba (dX x s k.toNat t);rw[Ec]at gO;have KT:k=1\/k=2\/k=3\/k=4:=by omega
  refine aa.Cj am fw [(2,.v (.box [.sl (bj x.ai),.sl (aw x.insert),ti x.swap])),(6,.ptr 1060 0),(12,.v (.sl (ce l))),(13,.v (ti l.length)),(14,.v (ti i)),(36,.v (.bool false))] (cC [(1060,eO x s'.fQ s'.aG 1100 s'.out.length),(1100,ub s'),(1060,eO x s.fQ s.aG 1100 s.out.length),(1100,ub s)]) ?_ ?_
  ·obtain⟨F,hF⟩:=ba (cC [(1060,eO x s.fQ s.aG 1100 s.out.length),(1100,ub s)]);have hb:F 1060=some (eO x s.fQ s.aG 1100 s.out.length):=by rw[<-hF];simp
   have ha:F 1100=some (ub s):=by rw[<-hF];simp
   have hk:=λq=>ad0 (k:=q) (t:=t) hb ha (by omega);have vQ:bI (bI F 1100 (ub s')) 1060 (eO x s'.fQ s'.aG 1100 s'.out.length)=cC [(1060,eO x s'.fQ s'.aG 1100 s'.out.length),(1100,ub s'),(1060,eO x s.fQ s.aG 1100 s.out.length),(1100,ub s)]:=by rw[<-hF];rfl
   rw[hF];rcases KT with rfl|rfl|rfl|rfl
   ·have E5:dX x s 1 t=s':=Ec;have cn:nP x s 1 t:=Ci;simp[vR,hk,E5,uR,cn,vQ]
   ·have E5:dX x s 2 t=s':=Ec;have cn:nP x s 2 t:=Ci;simp[vR,hk,E5,uR,cn,vQ]
   ·have E5:dX x s 3 t=s':=Ec;have cn:nP x s 3 t:=Ci;simp[vR,hk,E5,uR,cn,vQ]
   ·have E5:dX x s 4 t=s':=Ec;have cn:nP x s 4 t:=Ci;simp[vR,hk,E5,uR,cn,vQ]
  refine aa.cond rfl (λaZ=>by cases aZ) (λaZ=>?_);apply aa.skip;simp;apply aa.cX am fw [2,6,12,13,14];simp[Nx];rw[aq (by omega)];refine⟨i+1,Le.aD ?_ ?_ ?_ ?_,by omega,by omega⟩
  ·simp
  ·simp
  ·simp[gO,eO,ub]
  ·simp[gO,eO]
 ·simp at aZ;have MF:i=l.length:=by omega
  subst MF;apply aa.exit;simp;have iv:=h.je;apply aa.seq;refine aa.co am fw [(6,.ptr 1060 0),(45,.v (.bool false))] ?_ ?_
  ·simp[Ny,eO,iv]
  refine aa.cond rfl (λaZ=>by cases aZ) (λaZ=>?_);apply aa.skip;simp;apply aa.ag am fw [4,5];simp[HC];obtain⟨s,hs⟩:=ba (nQ x l);simp only[Nr,hs];refine aa.le (Le.aD (o:=[(1060,.box [.v (.sl (bj x.ai)),.v (.sl (aw x.insert)),.v (ti x.swap),.v (ti s.fQ),.v (.sl (aw s.out)),.v (ti s.aG)])]) (l:=[(4,.ptr 1060 0),(5,.v (ti 0))]) (bC:=3000) ?_ ?_ ?_ ?_) ?_
  ·simp
  ·simp
  ·simp[eO,ub]
  ·simp[eO]
  refine aa.lk (o:=[]) (l:=[(4,.v (.box [.sl (bj x.ai),.sl (aw x.insert),ti x.swap,ti s.fQ,.sl (aw s.out),ti s.aG])),(5,.v (ti 0))]) (bC:=4000) (by simp) ?_;apply aa.ret;simp[HD]
abbrev aht:DM.Spec:=bp (λts=>∃(x:Input) (l:List (Int×Int)),ts=[x.enc,.sl (ce l)]/\n9 x l) (fun|[x,.sl l]=>.dh [Nr (yr x) (qh l),ti 0]|_=>.bool false) false
def ad2:au Tryd.prog (bG [(80,aht)]):=by
 refine au.cons au.nil ?_;rintro ts ⟨x,l,rfl,h⟩;exact⟨by simpa using ahr x l h,λh=>by cases h⟩
def ad3(x:Input)(l:List (Int×Int))(h:n9 x l):aI Tryd.prog 49 [x.enc,.sl (ce l)] (.dh [.sl (aw (nQ x l).out),ti 0]):=by
 have am:=ad2;refine ahu.ok (by simp) (aC ?_);obtain⟨xt,Nl⟩:=ba x.enc;have qY:T.agg [.sl (bj x.ai),.sl (aw x.insert),ti x.swap]=xt:=Nl;have zX:yr xt=x:=by rw[<-Nl];simp
 have mW:∃(x2:Input) (l2:List (Int×Int)),(xt=x2.enc/\ce l=ce l2)/\n9 x2 l2:=⟨x,l,⟨Nl.symm,rfl⟩,h⟩
 skip
 simp[Input.enc];apply aa.ag am fw [1,2];simp[Nz];apply aa.ag am fw [6,7];simp[NA,qY,zX,Nr];refine⟨mW, ?_⟩;apply aa.sq am fw [6,7,15];simp[NB];refine aa.cond rfl (λaZ=>by cases aZ) (λaZ=>?_);apply aa.skip;simp;apply aa.ag am fw [4,5];simp[NC];apply aa.ret;simp[akb]
def ahv(x:Input)(l:List (Int×Int))(h:n9 x l):aI Tryd.prog 52 [x.enc,.sl (ce l)] (.dh [ti (nQ x l).aG,ti 0]):=by
 have am:=ad2;refine ahw.ok (by simp) (aC ?_);obtain⟨xt,Nl⟩:=ba x.enc;have qY:T.agg [.sl (bj x.ai),.sl (aw x.insert),ti x.swap]=xt:=Nl;have zX:yr xt=x:=by rw[<-Nl];simp
 have mW:∃(x2:Input) (l2:List (Int×Int)),(xt=x2.enc/\ce l=ce l2)/\n9 x2 l2:=⟨x,l,⟨Nl.symm,rfl⟩,h⟩
 skip
 simp[Input.enc];apply aa.ag am fw [1,2];simp[ND];apply aa.ag am fw [6,7];simp[NE,qY,zX,Nr];refine⟨mW, ?_⟩;apply aa.sq am fw [6,7,15];simp[NF];refine aa.cond rfl (λaZ=>by cases aZ) (λaZ=>?_);apply aa.skip;simp;apply aa.ag am fw [4,5];simp[NG];apply aa.ret;simp[HF]
section
variable{α:Type}{ts:ar}
def aaX:Ty:=.int .i64
def akB:Ty:=.seq [.int .i64,.int .i64]
def zS:maxLen=9223372036854775807:=by decide
def IG{enc:α->ar}{an:List (ar)}(h:∀r∈an,∃x,r=enc x):∃l:List α,an=l.map enc:=by
 induction an with
 |nil=>exact⟨[],rfl⟩
 |cons r an ih=>
  obtain⟨x,rfl⟩:=h r (KY ..);obtain⟨l,rfl⟩:=ih λr hr=>h r (Cq _ hr);exact⟨x::l,rfl⟩
def eX(h:Ty.yk (.int .i64) ts):∃x,ts=[ti x]:=by
 simp only[Ty.yk]at h;obtain⟨x,rfl,_⟩:=h;exact⟨x,rfl⟩
def mO{enc:α->ar}{e:Ty}(he:∀r,Ty.yk e r->∃x,r=enc x)(h:Ty.yk (.slice e) ts):∃l:List α,ts=[.sl (l.map enc)]/\l.length<=9223372036854775807:=by
 simp only[Ty.yk]at h;obtain⟨an,rfl,hl,hr⟩:=h;obtain⟨l,rfl⟩:=IG λr jV=>he r (hr r jV);rw[zS,GP]at hl;exact⟨l,rfl,hl⟩
def all_cons{t:Ty}{s5:List Ty}(h:Ty.iy (t::s5) ts):∃a b,ts=a++b/\t.yk a/\Ty.iy s5 b:=by simpa only[Ty.iy]using h
def all_nil(h:Ty.iy [] ts):ts=[]:=by simpa only[Ty.iy]using h
def qN{fs:List Ty}(h:Ty.yk (.seq fs) ts):Ty.iy fs ts:=by simpa only[Ty.yk]using h
def akS(h:akB.yk ts):∃o:Int×Int,ts=[ti o.1,ti o.2]:=by
 obtain⟨_,_,rfl,h1,h⟩:=all_cons (qN h);obtain⟨_,_,rfl,h2,h⟩:=all_cons h;obtain rfl:=all_nil h;obtain⟨a,rfl⟩:=eX h1;obtain⟨b,rfl⟩:=eX h2;exact⟨(a,b),rfl⟩
def aaY:Ty:=.seq [.int .i64,.slice aaX,.int .i64]
def vz:Ty:=.seq [.slice aaY,.slice aaX,.int .i64]
def acQ(h:aaY.yk ts):∃r:bz,ts=r.enc:=by
 obtain⟨_,_,rfl,h1,h⟩:=all_cons (qN h);obtain⟨_,_,rfl,h2,h⟩:=all_cons h;obtain⟨_,_,rfl,h3,h⟩:=all_cons h;obtain rfl:=all_nil h;obtain⟨a,rfl⟩:=eX h1;obtain⟨l,rfl,hl⟩:=mO (λr=>eX) h2;obtain⟨c,rfl⟩:=eX h3;exact⟨⟨a,l,c⟩,rfl⟩
def SV{x:T}(h:vz.arg x):∃l:Input,x=l.enc/\l.ai.length<=9223372036854775807/\l.insert.length<=9223372036854775807:=by
 unfold vz Ty.arg at h;obtain⟨ts,rfl,h⟩:=h;obtain⟨_,_,rfl,h1,h⟩:=all_cons h;obtain⟨_,_,rfl,h2,h⟩:=all_cons h;obtain⟨_,_,rfl,h3,h⟩:=all_cons h;obtain rfl:=all_nil h;obtain⟨l,rfl,hl⟩:=mO (λr=>acQ) h1;obtain⟨f,rfl,hf⟩:=mO (λr=>eX) h2;obtain⟨a,rfl⟩:=eX h3;exact⟨⟨l,f,a⟩,rfl,hl,hf⟩
end
namespace vu
structure bU where
 (kind head a b cA origin:Int)
 deriving DecidableEq,Inhabited
structure aA where
 (aK ae start:Int)
 ak:List bU
structure gf where
 (aG size:Int)
 deriving DecidableEq,Inhabited
def Pp:au Tryd.prog (bG []):=au.nil
def bU.enc(r:bU):ar:=[ti r.kind,ti r.head,ti r.a,ti r.b,ti r.cA,ti r.origin]
def aU(l:List bU):List (ar):=l.map bU.enc
def aA.enc(n:aA):T:=.agg [ti n.aK,ti n.ae,ti n.start,.sl (aU n.ak)]
def cm(l:List gf):List (ar):=l.map λv=>[ti v.aG,ti v.size]
def iu:ar->bU
 |[a,b,c,d,e,f]=>⟨cN a,cN b,cN c,cN d,cN e,cN f⟩
 |_=>default
def lg(l:List (ar)):List bU:=l.map iu
def jP(l:List (ar)):List gf:=l.map fun|[a,b]=>⟨cN a,cN b⟩|_=>default
def j7:T->aA
 |.agg [a,b,c,.sl r]=>⟨cN a,cN b,cN c,lg r⟩
 |_=>⟨0,0,0,[]⟩
@[simp] def uI(r:bU):iu r.enc=r:=by simp[iu,bU.enc,cN]
@[simp] def A8(l:List bU):lg (aU l)=l:=fD uI l
@[simp] def Dn(l:List gf):jP (cm l)=l:=fD (λ_=>rfl) l
@[simp] def LN(a b c:Int)(l:List bU):j7 (.agg [ti a,ti b,ti c,.sl (aU l)])=⟨a,b,c,l⟩:=by simp[j7,cN]
@[simp] def Pq(n:aA):j7 n.enc=n:=by simp[aA.enc]
@[simp] def abS(l:List bU):(aU l).length=l.length:=by simp[aU]
@[simp] def adL(l:List gf):(cm l).length=l.length:=by simp[cm]
def iO{l:List bU}{y:Nat}(h:y<l.length):DM.rowAt (aU l) y=(l.getD y default).enc:=by simp[DM.rowAt,aU,h]
def jJ{l:List gf}{y:Nat}(h:y<l.length):DM.rowAt (cm l) y=[ti (l.getD y default).aG,ti (l.getD y default).size]:=by simp[DM.rowAt,cm,h]
@[simp] def LO:cm []=[]:=rfl
def eI{α:Type} [Inhabited α]{l:List α}{i:Nat}(h:i<l.length):l.getD i default∈l:=by simp[List.getD,h]
def gf.lt(a b:gf):Prop:=a.aG<b.aG\/(a.aG=b.aG/\a.size<b.size)
instance(a b:gf):Decidable (a.lt b):=by unfold gf.lt;infer_instance
def t92(u v:gf):aI Tryd.prog 74 [.agg [ti u.aG,ti u.size],.agg [ti v.aG,ti v.size]] (.bool (decide (u.lt v))):=by
 obtain⟨a,b⟩:=u;obtain⟨c,d⟩:=v;obtain⟨c1,cn⟩:=ba (decide ((⟨a,b⟩:gf).lt ⟨c,d⟩):Bool);rw[cn];simp only[gf.lt]at cn;have am:=Pp;refine c92.ok (by simp) (aC ?_);simp;apply aa.ag am fw [2,3];simp[WH];refine aa.lk (o:=[]) (l:=[(2,.v (.box [ti a,ti b])),(3,.v (.box [ti c,ti d]))]) (bC:=1200) (by simp) ?_;refine aa.co am fw [(4,.v (.bool c1))] ?_ ?_
 ·by_cases q1:a<c
  ·have:c1=true:=by rw[<-cn];simp[q1]
   simp[C9,q1,this]
  ·by_cases q2:a=c
   ·subst q2;by_cases q3:b<d
    ·have:c1=true:=by rw[<-cn];simp[q3]
     simp[C9,q3,this]
    ·have:c1=false:=by rw[<-cn];simp[q3]
     simp[C9,q3,this]
   ·have:c1=false:=by rw[<-cn];simp[q1,q2]
    simp[C9,q1,q2,this]
 apply aa.ret;simp[ci]
def kp:Int->Int->List gf->gf
 |c,s,[]=>⟨c,s⟩
 |c,s,v::l=>kp (min (c+v.aG) 1099511627776) (min (s+v.size) 1099511627776) l
def tt(c:Int)(l:List gf):gf:=if(kp c 1 l).aG>=1099511627776 then⟨1099511627776,0⟩else kp c 1 l
def Gs(c s:Int)(l:List gf)(v:gf):kp c s (l++[v])=⟨min ((kp c s l).aG+v.aG) 1099511627776,min ((kp c s l).size+v.size) 1099511627776⟩:=by
 induction l generalizing c s with
 |nil=>rfl
 |cons x l ih=>simp only[CE,kp,ih]
def Pr(v:gf):Prop:=0<=v.aG/\v.aG<=1099511627776/\0<=v.size/\v.size<=1099511627776
def uJ{l:List gf}(h:∀v∈l,Pr v):∀{c s:Int},0<=c->c<=4000000000000->0<=s->s<=1099511627776->0<=(kp c s l).aG/\(kp c s l).aG<=4000000000000/\0<=(kp c s l).size/\(kp c s l).size<=1099511627776:=by
 induction l with
 |nil=>intro c s h1 h2 h3 h4;exact⟨h1,h2,h3,h4⟩
 |cons x l ih=>
  intro c s h1 h2 h3 h4;obtain⟨g1,g2,g3,g4⟩:=h x (by simp);exact ih (λv hv=>h v (by simp[hv])) (by omega) (by omega) (by omega) (by omega)
def Ij{c:Int}{l:List gf}(h:∀v∈l,Pr v)(h1:0<=c)(h2:c<=4000000000000):Pr (tt c l):=by
 have:=uJ (c:=c) (s:=1) h h1 h2 (by omega) (by omega);unfold tt Pr;split
 ·simp
 ·omega
def cI{α:Type} [Inhabited α]{l:List α}{i:Nat}(h:i<l.length):l.take (i+1)=l.take i++[l.getD i default]:=by
 rw[CB,fq h];simp[List.getD,h]
def t69(c:Int)(l:List gf)(h:∀v∈l,Pr v)(h1:0<=c)(h2:c<=4000000000000)(h3:l.length<=1000000):aI Tryd.prog 72 [ti c,.sl (cm l)] (.agg [ti (tt c l).aG,ti (tt c l).size]):=by
 have am:=Pp;refine c69.ok (by simp) (aC ?_);simp;apply aa.ag am fw [0,1,4];simp[WI];apply aa.ag am fw [1,4,5,6];simp[WJ];apply aa.sq am fw [1,4,5,6,7];simp[WK];apply aa.block;refine aa.loop (λy:Nat=>⟨DM.look [(1,.v (.sl (cm l))),(4,.ptr 1005 0),(5,.v (ti (kp c 1 (l.take y)).aG)),(6,.v (ti (kp c 1 (l.take y)).size)),(7,.v (ti y))],cC [(1005,.box [.v (ti 0),.v (ti 0)])],2000,1000,[]⟩)
  (λy=>y<=l.length) (λy=>l.length-y) 0 (Le.aD ?_ ?_ ?_ ?_) (by simp) (λy hy=>?_)
 iterate 3(·simp)
 ·simp[kp]
 apply aa.sq am fw [1,4,5,6,7,12];simp[WL];refine aa.cond rfl (λaZ=>?_) (λaZ=>?_)
 ·have aZ:y<l.length:=by simpa using aZ
  apply aa.skip;simp;apply aa.seq;apply aa.block;have rv:=jJ aZ;obtain⟨v,hv⟩:=ba (l.getD y default);rw[hv]at rv;have hov:=h v (by rw[<-hv];exact eI aZ);obtain⟨o1,o2,o3,o4⟩:=hov;obtain⟨b1,b2,b3,b4⟩:=uJ (c:=c) (s:=1) (l:=l.take y) (λv hv=>h v (ud hv)) h1 h2 (by omega) (by omega);apply aa.cX am fw [1,4,5,6,7];simp[WM,aZ,rv];apply aa.cX am fw [1,4,5,6,7];simp[WN];rw[aq (by omega),aq (by omega),aq (by omega)];refine⟨y+1,Le.aD ?_ ?_ ?_ ?_,by omega,by omega⟩;iterate 3(·simp)
  ·simp[cI aZ,Gs,-List.getD_eq_getElem?_getD,hv]
 ·have eG:y=l.length:=by simp at aZ;omega
  subst eG;rw[ZbH];apply aa.exit;simp;apply aa.sq am fw [4,5,6,32];simp[WO];refine aa.cond rfl (λh7=>?_) (λh7=>?_)
  ·have h7:(kp c 1 l).aG>=1099511627776:=by simpa using h7
   apply aa.ag am fw [4];simp[WP];apply aa.ret;simp[Gp,tt,h7]
  ·have h7:¬(kp c 1 l).aG>=1099511627776:=by simpa using h7
   apply aa.skip;simp;apply aa.ag am fw [4];simp[WQ];apply aa.ret;simp[Gp,tt,h7]
abbrev s92:DM.Spec:=bp (λts=>∃a b c d,ts=[.agg [ti a,ti b],.agg [ti c,ti d]]) (fun|[.agg [.int _ a,.int _ b],.agg [.int _ c,.int _ d]]=>.bool (decide ((⟨a,b⟩:gf).lt ⟨c,d⟩))|_=>.bool false) true
@[simp] def Gt{a b:List bU}:aU a=aU b↔a=b:=⟨λh=>by have:=congrArg lg h;simpa using this,λh=>by rw[h]⟩
@[simp] def pw{a b:List gf}:cm a=cm b↔a=b:=⟨λh=>by have:=congrArg jP h;simpa using this,λh=>by rw[h]⟩
@[simp] def zw{a b:b8}:aw a=aw b↔a=b:=⟨λh=>by have:=congrArg dS h;simpa using this,λh=>by rw[h]⟩
@[simp] def adM{a b:List bk}:aV a=aV b↔a=b:=⟨λh=>by have:=congrArg vv h;simpa using this,λh=>by rw[h]⟩
@[simp] def ae6{a b:List (Int×Int)}:ce a=ce b↔a=b:=⟨λh=>by have:=congrArg qh h;simpa using this,λh=>by rw[h]⟩
@[simp] def adN{a b:List bz}:bj a=bj b↔a=b:=⟨λh=>by have:=congrArg kr h;simpa using this,λh=>by rw[h]⟩
@[simp] def LP{l:List gf}:[]=cm l↔l=[]:=by rw[<-LO,pw];exact eq_comm
@[simp] def adO{a b:Int}{l:List gf}:[[ti a,ti b]]=cm l↔l=[⟨a,b⟩]:=by rw[show [[ti a,ti b]]=cm [⟨a,b⟩]from rfl,pw];exact eq_comm
@[simp] def adP{a b c d:Int}{l:List gf}:[[ti a,ti b],[ti c,ti d]]=cm l↔l=[⟨a,b⟩,⟨c,d⟩]:=by rw[show [[ti a,ti b],[ti c,ti d]]=cm [⟨a,b⟩,⟨c,d⟩]from rfl,pw];exact eq_comm
@[simp] def XI:jP []=[]:=rfl
@[simp] def XJ{a b:Int}:jP [[ti a,ti b]]=[⟨a,b⟩]:=rfl
@[simp] def XK{a b c d:Int}:jP [[ti a,ti b],[ti c,ti d]]=[⟨a,b⟩,⟨c,d⟩]:=rfl
def Ps(n:aA)(r:bU):Prop:=0<=r.head/\r.head<n.ae/\0<=r.cA/\r.cA<=1000/\(r.kind=1\/(r.kind=2/\0<=r.a/\r.a<n.aK)\/(r.kind=3/\0<=r.a/\r.a<n.ae)\/(r.kind=4/\0<=r.a/\r.a<n.ae/\0<=r.b/\r.b<n.ae))
def nOk(n:aA):Prop:=1<=n.ae/\n.ae<=1000/\n.ak.length<=600/\∀r∈n.ak,Ps n r
abbrev s69:DM.Spec:=bp (λts=>∃c l,ts=[ti c,.sl (cm l)]/\(∀v∈l,Pr v)/\0<=c/\c<=4000000000000/\l.length<=1000000) (fun|[.int _ c,.sl l]=>.agg [ti (tt c (jP l)).aG,ti (tt c (jP l)).size]|_=>.bool false) true
@[simp] def abU{l:List gf}:cm l=[]↔l=[]:=by rw[eq_comm,LP]
def kindOk(n:aA)(r:bU):Prop:=
 if r.kind=1 then r.a=0/\r.b=0 else if r.kind=2 then r.a>=0/\r.a<n.aK/\r.b=0 else if r.kind=3 then r.a>=0/\r.a<n.ae/\r.b=0
 else if r.kind=4 then r.a>=0/\r.a<n.ae/\r.b>=0/\r.b<n.ae else False
instance(n:aA)(r:bU):Decidable (kindOk n r):=by unfold kindOk;infer_instance
def kc(n:aA)(r:bU):Prop:=¬(r.head<0\/r.head>=n.ae\/r.cA<0\/r.cA>1000\/r.origin< -1)
instance(n:aA)(r:bU):Decidable (kc n r):=by unfold kc;infer_instance
def Do(n:aA):Prop:=¬(n.aK<0\/n.aK>120\/n.ae<1\/n.ae>1000\/n.start<0\/n.start>=n.ae\/(n.ak.length:Int)>600)
instance(n:aA):Decidable (Do n):=by unfold Do;infer_instance
def dF(n:aA):Prop:=Do n/\∀i,i<n.ak.length->kc n (n.ak.getD i default)/\kindOk n (n.ak.getD i default)
instance(n:aA):Decidable (dF n):=by unfold dF;infer_instance
def dF.ok{n:aA}(h:dF n):nOk n:=by
 obtain⟨h1,h2⟩:=h;unfold Do at h1;refine⟨by omega,by omega,by omega,λr hr=>?_⟩;obtain⟨i,hi,rfl⟩:=T1 hr;obtain⟨h3,h4⟩:=h2 i hi;rw[show n.ak.getD i default=n.ak[i]by simp[List.getD,hi]]at h3 h4;unfold kc at h3;unfold kindOk at h4;unfold Ps;refine⟨by omega,by omega,by omega,by omega, ?_⟩;split at h4
 ·exact .inl (by assumption)
 ·split at h4
  ·exact .inr (.inl ⟨by assumption,by omega,by omega⟩)
  ·split at h4
   ·exact .inr (.inr (.inl ⟨by assumption,by omega,by omega⟩))
   ·split at h4
    ·exact .inr (.inr (.inr ⟨by assumption,by omega,by omega,by omega,by omega⟩))
    ·exact h4.elim
def t20(n:aA)(hl:n.ak.length<=9223372036854775807):aI Tryd.prog 75 [n.enc] (.bool (decide (dF n))):=by
 obtain⟨nt,nn,ns,ak⟩:=n;obtain⟨v,hv⟩:=ba (decide (dF ⟨nt,nn,ns,ak⟩));rw[hv];simp only at hl;have dt:dF ⟨nt,nn,ns,ak⟩↔Do ⟨nt,nn,ns,ak⟩/\∀i,i<ak.length->kc ⟨nt,nn,ns,ak⟩ (ak.getD i default)/\kindOk ⟨nt,nn,ns,ak⟩ (ak.getD i default):=Iff.rfl;have cb:¬dF ⟨nt,nn,ns,ak⟩->v=false:=λh=>by rw[<-hv];simp[h]
 have am:=Pp;refine c20.ok (by simp) (aC ?_);simp[aA.enc];apply aa.ag am fw [1];simp[XA];refine aa.lk (o:=[]) (l:=[(1,.v (.box [ti nt,ti nn,ti ns,.sl (aU ak)]))]) (bC:=1200) (by simp) ?_;apply aa.seq;obtain⟨c1,cn⟩:=ba (decide (nt<0\/nt>120\/nn<1\/nn>1000\/ns<0\/ns>=nn\/(ak.length:Int)>600):Bool);refine aa.co am fw [(1,.v (.box [ti nt,ti nn,ti ns,.sl (aU ak)])),(41,.v (.bool c1))] ?_ ?_
 ·by_cases q1:nt<0
  ·have:c1=true:=by rw[<-cn];simp[q1]
   simp[sg,q1,this]
  ·skip
   by_cases q2:nt>120
   ·have:c1=true:=by rw[<-cn];simp[q2]
    simp[sg,q1,q2,this]
   ·skip
    by_cases q3:nn<1
    ·have:c1=true:=by rw[<-cn];simp[q3]
     simp[sg,q1,q2,q3,this]
    ·skip
     by_cases q4:nn>1000
     ·have:c1=true:=by rw[<-cn];simp[q4]
      simp[sg,q1,q2,q3,q4,this]
     ·skip
      by_cases q5:ns<0
      ·have:c1=true:=by rw[<-cn];simp[q5]
       simp[sg,q1,q2,q3,q4,q5,this]
      ·skip
       by_cases q6:ns>=nn
       ·have:c1=true:=by rw[<-cn];simp[q6]
        simp[sg,q1,q2,q3,q4,q5,q6,this]
       ·skip
        by_cases q7:(ak.length:Int)>600
        ·have:c1=true:=by rw[<-cn];simp[q7]
         simp[sg,q1,q2,q3,q4,q5,q6,q7,this]
        ·skip
         have:c1=false:=by rw[<-cn];simp[q1,q2,q3,q4,q5,q6,q7]
         simp[sg,q1,q2,q3,q4,q5,q6,q7,this]
 refine aa.cond rfl (λh1=>?_) (λh1=>?_)
 ·rw[h1]at cn;have cn:=qX cn;apply aa.ag am fw [2];simp[XB];apply aa.ret;rw[cb λh=>(dt.1 h).1 cn];simp[ci]
 ·rw[h1]at cn;have cn:=Lx cn;apply aa.skip;simp;apply aa.sq am fw [1,3];simp[XC];apply aa.block;refine aa.loop (λy:Nat=>⟨DM.look [(1,.v (.box [ti nt,ti nn,ti ns,.sl (aU ak)])),(3,.v (ti y))],cC [],2000,1000,[]⟩)
   (λy=>y<=ak.length/\∀i,i<y->kc ⟨nt,nn,ns,ak⟩ (ak.getD i default)/\kindOk ⟨nt,nn,ns,ak⟩ (ak.getD i default)) (λy=>ak.length-y) 0 (Le.aD (o:=[]) ?_ ?_ ?_ ?_) (by simp) (λy hy=>?_)
  iterate 4(·simp)
  obtain⟨pT,eG⟩:=hy;apply aa.sq am fw [1,3,46];simp[XD];refine aa.cond rfl (λaZ=>?_) (λaZ=>?_)
  ·have aZ:y<ak.length:=by simpa using aZ
   apply aa.skip;simp;apply aa.seq;apply aa.block;have rr:=iO aZ;obtain⟨⟨rk,rh,ra,rb,rp,rg⟩,hr⟩:=ba (ak.getD y default);rw[hr]at rr;apply aa.ag am fw [1,3,4];simp[XE,aZ,rr,bU.enc];refine aa.lk (o:=[]) (l:=[(1,.v (.box [ti nt,ti nn,ti ns,.sl (aU ak)])),(3,.v (ti y)),(4,.v (.box [ti rk,ti rh,ti ra,ti rb,ti rp,ti rg]))]) (bC:=2400) (by simp) ?_;apply aa.seq;obtain⟨c2,fg⟩:=ba (decide (rh<0\/rh>=nn\/rp<0\/rp>1000\/rg< -1):Bool);refine aa.co am fw [(1,.v (.box [ti nt,ti nn,ti ns,.sl (aU ak)])),(3,.v (ti y)),(4,.v (.box [ti rk,ti rh,ti ra,ti rb,ti rp,ti rg])),(78,.v (.bool c2))] ?_ ?_
   ·by_cases q1:rh<0
    ·have:c2=true:=by rw[<-fg];simp[q1]
     simp[xr,q1,this]
    ·skip
     by_cases q2:rh>=nn
     ·have:c2=true:=by rw[<-fg];simp[q2]
      simp[xr,q1,q2,this]
     ·skip
      by_cases q3:rp<0
      ·have:c2=true:=by rw[<-fg];simp[q3]
       simp[xr,q1,q2,q3,this]
      ·skip
       by_cases q4:rp>1000
       ·have:c2=true:=by rw[<-fg];simp[q4]
        simp[xr,q1,q2,q3,q4,this]
       ·skip
        by_cases q5:rg< -1
        ·have:c2=true:=by rw[<-fg];simp[q5]
         simp[xr,q1,q2,q3,q4,q5,this]
        ·skip
         have:c2=false:=by rw[<-fg];simp[q1,q2,q3,q4,q5]
         simp[xr,q1,q2,q3,q4,q5,this]
   refine aa.cond rfl (λh2=>?_) (λh2=>?_)
   ·rw[h2]at fg;have fg:=qX fg;apply aa.ag am fw [2];simp[XF];apply aa.ret;rw[cb λh=>((dt.1 h).2 y aZ).1 (by rw[hr];exact fg)];simp[ci]
   ·rw[h2]at fg;have fg:kc ⟨nt,nn,ns,ak⟩ ⟨rk,rh,ra,rb,rp,rg⟩:=Lx fg;apply aa.skip;simp;obtain⟨k1,ma⟩:=ba (decide (kindOk ⟨nt,nn,ns,ak⟩ ⟨rk,rh,ra,rb,rp,rg⟩):Bool);have zf:=ma;have ma:k1=true↔kindOk ⟨nt,nn,ns,ak⟩ ⟨rk,rh,ra,rb,rp,rg⟩:=by rw[<-zf,decide_eq_true_iff]
    simp only[kindOk]at ma;apply aa.ag am fw [1,3,4,5];simp[XG];apply aa.sq am fw [1,3,4,5,80];simp[XH];apply aa.block;apply aa.ag am fw [1,3,4,5,80,81];simp[Pk];refine aa.cond rfl (λg1=>?_) (λg1=>?_)
    ·have g1:rk=1:=by simpa using g1
     rw[uV g1]at ma;have qo:decide (ra=0/\rb=0)=k1:=by cases k1<;>simp at ma⊢<;>first|exact ma|omega
     refine aa.oO am fw [(1,.v (.box [ti nt,ti nn,ti ns,.sl (aU ak)])),(3,.v (ti y)),(5,.v (.bool k1))] ?_ ?_
     ·by_cases q1:ra=0
      ·skip
       by_cases q2:rb=0
       ·skip
        have:k1=true:=by rw[<-qo];simp[q1,q2]
        simp[A7,q1,q2,this]
       ·have:k1=false:=by rw[<-qo];simp[q2]
        simp[A7,q1,q2,this]
      ·have:k1=false:=by rw[<-qo];simp[q1]
       simp[A7,q1,this]
     apply aa.ag am fw [1,3,150];simp[tp];refine aa.cond rfl (λh5=>?_) (λh5=>?_)
     ·skip
      apply aa.ag am fw [2];simp[tq];apply aa.ret;rw[cb λh=>by
       have h6:=((dt.1 h).2 y aZ).2;rw[hr]at h6;rw[decide_eq_true h6]at zf
       simp_all]
      simp[ci]
     ·skip
      apply aa.skip;simp;have ma:kindOk ⟨nt,nn,ns,ak⟩ ⟨rk,rh,ra,rb,rp,rg⟩:=qX (by rw[zf];simp_all);apply aa.cX am fw [1,3];simp[tr];rw[aq (x:=(y:Int)+1) (by omega)];refine⟨y+1,Le.aD (o:=[]) ?_ ?_ ?_ ?_,⟨by omega,λi hi=>?_⟩,by omega⟩;iterate 4(·simp)
      ·by_cases e:i=y
       ·subst e;show kc _ (ak.getD i default)/\kindOk _ (ak.getD i default);rw[hr];exact⟨fg,ma⟩
       ·exact eG i (by omega)
    ·have g1:¬rk=1:=by simpa using g1
     rw[mL g1]at ma;apply aa.ag am fw [1,3,4,5,80,91];simp[Pl];refine aa.cond rfl (λg2=>?_) (λg2=>?_)
     ·have g2:rk=2:=by simpa using g2
      rw[uV g2]at ma;have qo:decide (ra>=0/\ra<nt/\rb=0)=k1:=by cases k1<;>simp at ma⊢<;>first|exact ma|omega
      refine aa.oO am fw [(1,.v (.box [ti nt,ti nn,ti ns,.sl (aU ak)])),(3,.v (ti y)),(5,.v (.bool k1))] ?_ ?_
      ·by_cases q1:ra>=0
       ·skip
        by_cases q2:ra<nt
        ·skip
         by_cases q3:rb=0
         ·skip
          have:k1=true:=by rw[<-qo];simp[q1,q2,q3]
          simp[xu,q1,q2,q3,this]
         ·have:k1=false:=by rw[<-qo];simp[q3]
          simp[xu,q1,q2,q3,this]
        ·have:k1=false:=by rw[<-qo];simp[q2]
         simp[xu,q1,q2,this]
       ·have:k1=false:=by rw[<-qo];simp[q1]
        simp[xu,q1,this]
      apply aa.ag am fw [1,3,150];simp[tp];refine aa.cond rfl (λh5=>?_) (λh5=>?_)
      ·skip
       apply aa.ag am fw [2];simp[tq];apply aa.ret;rw[cb λh=>by
        have h6:=((dt.1 h).2 y aZ).2;rw[hr]at h6;rw[decide_eq_true h6]at zf
        simp_all]
       simp[ci]
      ·skip
       apply aa.skip;simp;have ma:kindOk ⟨nt,nn,ns,ak⟩ ⟨rk,rh,ra,rb,rp,rg⟩:=qX (by rw[zf];simp_all);apply aa.cX am fw [1,3];simp[tr];rw[aq (x:=(y:Int)+1) (by omega)];refine⟨y+1,Le.aD (o:=[]) ?_ ?_ ?_ ?_,⟨by omega,λi hi=>?_⟩,by omega⟩;iterate 4(·simp)
       ·by_cases e:i=y
        ·subst e;show kc _ (ak.getD i default)/\kindOk _ (ak.getD i default);rw[hr];exact⟨fg,ma⟩
        ·exact eG i (by omega)
     ·have g2:¬rk=2:=by simpa using g2
      rw[mL g2]at ma;apply aa.ag am fw [1,3,4,5,80,108];simp[Pm];refine aa.cond rfl (λg3=>?_) (λg3=>?_)
      ·have g3:rk=3:=by simpa using g3
       rw[uV g3]at ma;have qo:decide (ra>=0/\ra<nn/\rb=0)=k1:=by cases k1<;>simp at ma⊢<;>first|exact ma|omega
       refine aa.oO am fw [(1,.v (.box [ti nt,ti nn,ti ns,.sl (aU ak)])),(3,.v (ti y)),(5,.v (.bool k1))] ?_ ?_
       ·by_cases q1:ra>=0
        ·skip
         by_cases q2:ra<nn
         ·skip
          by_cases q3:rb=0
          ·skip
           have:k1=true:=by rw[<-qo];simp[q1,q2,q3]
           simp[xw,q1,q2,q3,this]
          ·have:k1=false:=by rw[<-qo];simp[q3]
           simp[xw,q1,q2,q3,this]
         ·have:k1=false:=by rw[<-qo];simp[q2]
          simp[xw,q1,q2,this]
        ·have:k1=false:=by rw[<-qo];simp[q1]
         simp[xw,q1,this]
       apply aa.ag am fw [1,3,150];simp[tp];refine aa.cond rfl (λh5=>?_) (λh5=>?_)
       ·skip
        apply aa.ag am fw [2];simp[tq];apply aa.ret;rw[cb λh=>by
         have h6:=((dt.1 h).2 y aZ).2;rw[hr]at h6;rw[decide_eq_true h6]at zf
         simp_all]
        simp[ci]
       ·skip
        apply aa.skip;simp;have ma:kindOk ⟨nt,nn,ns,ak⟩ ⟨rk,rh,ra,rb,rp,rg⟩:=qX (by rw[zf];simp_all);apply aa.cX am fw [1,3];simp[tr];rw[aq (x:=(y:Int)+1) (by omega)];refine⟨y+1,Le.aD (o:=[]) ?_ ?_ ?_ ?_,⟨by omega,λi hi=>?_⟩,by omega⟩;iterate 4(·simp)
        ·by_cases e:i=y
         ·subst e;show kc _ (ak.getD i default)/\kindOk _ (ak.getD i default);rw[hr];exact⟨fg,ma⟩
         ·exact eG i (by omega)
      ·have g3:¬rk=3:=by simpa using g3
       rw[mL g3]at ma;apply aa.ag am fw [1,3,4,5,125];simp[Pn];refine aa.cond rfl (λg4=>?_) (λg4=>?_)
       ·have g4:rk=4:=by simpa using g4
        rw[uV g4]at ma;have qo:decide (ra>=0/\ra<nn/\rb>=0/\rb<nn)=k1:=by cases k1<;>simp at ma⊢<;>first|exact ma|omega
        refine aa.oO am fw [(1,.v (.box [ti nt,ti nn,ti ns,.sl (aU ak)])),(3,.v (ti y)),(5,.v (.bool k1))] ?_ ?_
        ·by_cases q1:ra>=0
         ·skip
          by_cases q2:ra<nn
          ·skip
           by_cases q3:rb>=0
           ·skip
            by_cases q4:rb<nn
            ·skip
             have:k1=true:=by rw[<-qo];simp[q1,q2,q3,q4]
             simp[tj,q1,q2,q3,q4,this]
            ·have:k1=false:=by rw[<-qo];simp[q4]
             simp[tj,q1,q2,q3,q4,this]
           ·have:k1=false:=by rw[<-qo];simp[q3]
            simp[tj,q1,q2,q3,this]
          ·have:k1=false:=by rw[<-qo];simp[q2]
           simp[tj,q1,q2,this]
         ·have:k1=false:=by rw[<-qo];simp[q1]
          simp[tj,q1,this]
        apply aa.ag am fw [1,3,150];simp[tp];refine aa.cond rfl (λh5=>?_) (λh5=>?_)
        ·skip
         apply aa.ag am fw [2];simp[tq];apply aa.ret;rw[cb λh=>by
          have h6:=((dt.1 h).2 y aZ).2;rw[hr]at h6;rw[decide_eq_true h6]at zf
          simp_all]
         simp[ci]
        ·skip
         apply aa.skip;simp;have ma:kindOk ⟨nt,nn,ns,ak⟩ ⟨rk,rh,ra,rb,rp,rg⟩:=qX (by rw[zf];simp_all);apply aa.cX am fw [1,3];simp[tr];rw[aq (x:=(y:Int)+1) (by omega)];refine⟨y+1,Le.aD (o:=[]) ?_ ?_ ?_ ?_,⟨by omega,λi hi=>?_⟩,by omega⟩;iterate 4(·simp)
         ·by_cases e:i=y
          ·subst e;show kc _ (ak.getD i default)/\kindOk _ (ak.getD i default);rw[hr];exact⟨fg,ma⟩
          ·exact eG i (by omega)
       ·have g4:¬rk=4:=by simpa using g4
        rw[mL g4]at ma;have qo:k1=false:=by cases k1<;>simp at ma⊢
        rw[qo]at zf;apply aa.skip;simp;apply aa.ag am fw [1,3,150];simp[tp];refine aa.cond rfl (λh5=>?_) (λh5=>?_)
        ·skip
         apply aa.ag am fw [2];simp[tq];apply aa.ret;rw[cb λh=>by
          have h6:=((dt.1 h).2 y aZ).2;rw[hr]at h6;rw[decide_eq_true h6]at zf
          simp_all]
         simp[ci]
        ·skip
         apply aa.skip;simp;have ma:kindOk ⟨nt,nn,ns,ak⟩ ⟨rk,rh,ra,rb,rp,rg⟩:=qX (by rw[zf];simp_all);apply aa.cX am fw [1,3];simp[tr];rw[aq (x:=(y:Int)+1) (by omega)];refine⟨y+1,Le.aD (o:=[]) ?_ ?_ ?_ ?_,⟨by omega,λi hi=>?_⟩,by omega⟩;iterate 4(·simp)
         ·by_cases e:i=y
          ·subst e;show kc _ (ak.getD i default)/\kindOk _ (ak.getD i default);rw[hr];exact⟨fg,ma⟩
          ·exact eG i (by omega)
  ·have Dp:y=ak.length:=by simp at aZ;omega
   subst Dp;apply aa.exit;simp;apply aa.ag am fw [2];simp[Po];apply aa.ret;have:v=true:=by rw[<-hv];exact decide_eq_true (dt.2 ⟨cn,eG⟩)
   rw[this];simp[ci]
structure du where
 head:Int
 dv:b8
 (aG l0 l1:Int)
 deriving DecidableEq,Inhabited
def du.enc(e:du):ar:=[ti e.head,.sl (aw e.dv),ti e.aG,ti e.l0,ti e.l1]
def cg(l:List du):List (ar):=l.map du.enc
def Pt:ar->du
 |[a,.sl b,c,d,e]=>⟨cN a,dS b,cN c,cN d,cN e⟩
 |_=>default
def xx(l:List (ar)):List du:=l.map Pt
@[simp] def LR(r:du):Pt r.enc=r:=by simp[Pt,du.enc,cN]
@[simp] def abV(l:List du):xx (cg l)=l:=fD LR l
@[simp] def XL(l:List du):(cg l).length=l.length:=by simp[cg]
@[simp] def XM{a b:List du}:cg a=cg b↔a=b:=⟨λh=>by have:=congrArg xx h;simpa using this,λh=>by rw[h]⟩
def sh{l:List du}{y:Nat}(h:y<l.length):DM.rowAt (cg l) y=(l.getD y default).enc:=by simp[DM.rowAt,cg,h]
def jn(r:bU):b8:=if r.kind=3 then [r.a]else if r.kind=4 then [r.a,r.b]else []
def t93(r:bU):aI Tryd.prog 112 [.agg r.enc] (.sl (aw (jn r))):=by
 obtain⟨rk,rh,ra,rb,rp,rg⟩:=r;obtain⟨R,hR⟩:=ba (jn ⟨rk,rh,ra,rb,rp,rg⟩);rw[hR];simp only[jn]at hR;have am:=Pp;refine c93.ok (by simp) (aC ?_);simp[bU.enc];apply aa.ag am fw [1];simp[Xc];refine aa.lk (o:=[]) (l:=[(1,.v (.box [ti rk,ti rh,ti ra,ti rb,ti rp,ti rg]))]) (bC:=1200) (by simp) ?_;apply aa.sq am fw [1,4];simp[Xd];apply aa.block;apply aa.ag am fw [1,4,5];simp[Xe];refine aa.cond rfl (λh1=>?_) (λh1=>?_)
 ·have h1:rk=3:=by simpa using h1
  rw[uV h1]at hR;subst hR;apply aa.ag am fw [2];simp[Xf,dW];apply aa.ret;simp[ci,aw]
 ·have h1:¬rk=3:=by simpa using h1
  rw[mL h1]at hR;apply aa.ag am fw [1,10];simp[Xg];refine aa.cond rfl (λh2=>?_) (λh2=>?_)
  ·have h2:rk=4:=by simpa using h2
   rw[uV h2]at hR;subst hR;apply aa.ag am fw [2];simp[Xh,dW];apply aa.ret;simp[ci,aw]
  ·have h2:¬rk=4:=by simpa using h2
   rw[mL h2]at hR;subst hR;apply aa.skip;simp;apply aa.ag am fw [2];simp[Xi];apply aa.ret;simp[ci,aw]
def eT(v:List gf)(ts:b8):List gf:=ts.map λt=>v.getD t.toNat default
def t91(e:du)(v:List gf)(h:∀t∈e.dv,0<=t/\t<v.length)(hl:e.dv.length<=1000000):mf Tryd.prog 73 [.agg e.enc,.sl (cm v)] 103 2 (cm (eT v e.dv)):=by
 obtain⟨eh,ts,ec,e0,e1⟩:=e;simp only at h hl;have am:=Pp;refine c91.B2 (by simp) (aC ?_);simp[du.enc];apply aa.ag am fw [1,2];simp[WR];refine aa.lk (o:=[]) (l:=[(1,.v (.sl (cm v))),(2,.v (.box [ti eh,.sl (aw ts),ti ec,ti e0,ti e1]))]) (bC:=1200) (by simp) ?_;apply aa.ag am fw [1,2,5];simp[WS];refine aa.lk (o:=[]) (l:=[(1,.v (.sl (cm v))),(2,.v (.box [ti eh,.sl (aw ts),ti ec,ti e0,ti e1])),(5,.aF)]) (bC:=1400) (by simp) ?_;refine aa.le (Le.lK (k:=5) 103 (sz:=2) (by omega) (by simp)) ?_;rw[gn];apply aa.sq am fw [1,2,5,6];simp[WT];apply aa.block;refine aa.loop (λy:Nat=>⟨DM.look [(1,.v (.sl (cm v))),(2,.v (.box [ti eh,.sl (aw ts),ti ec,ti e0,ti e1])),(5,.aQ 1400 0),(6,.v (ti y))],cC [(1400,.aR 0 103 2 (cm (eT v (ts.take y))))],1600,1000,[]⟩)
  (λy=>y<=ts.length) (λy=>ts.length-y) 0 (Le.aD ?_ ?_ ?_ ?_) (by simp) (λy hy=>?_)
 ·simp
 ·simp
 ·simp[eT]
 ·simp
 apply aa.sq am fw [1,2,5,6,11];simp[WU];refine aa.cond rfl (λaZ=>?_) (λaZ=>?_)
 ·have aZ:y<ts.length:=by simpa using aZ
  apply aa.skip;simp;apply aa.seq;apply aa.block;have rt:=bS aZ;obtain⟨t,ht⟩:=ba (ts.getD y default);rw[ht]at rt;obtain⟨q1,q2⟩:=h t (by rw[<-ht];exact eI aZ);obtain⟨t,rfl⟩:=eM q1;have q2:t<v.length:=by omega
  have rv:=jJ q2;obtain⟨w,hw⟩:=ba (v.getD t default);rw[hw]at rv;have hS:cm (eT v (ts.take (y+1)))=cm (eT v (ts.take y))++[[ti w.aG,ti w.size]]:=by
   rw[cI aZ,ht];simp only[eT,qQ,l8,Ui,ib,hw,cm]
  have hTl:(eT v (ts.take y)).length<=1000000:=by simp[eT];omega
  apply aa.cX am fw [1,2,5,6];simp[WV,aZ,rt,q2,rv,cw,dW];repeat (refine⟨by omega, ?_⟩)
  apply aa.cX am fw [1,2,5,6];simp[WX];rw[aq (x:=(y:Int)+1) (by omega)];refine⟨y+1,Le.aD ?_ ?_ ?_ ?_,by omega,by omega⟩
  ·simp
  ·simp
  ·simp[hS]
  ·simp
 ·have eG:y=ts.length:=by simp at aZ;omega
  subst eG;rw[ZbH];apply aa.exit;simp;apply aa.ag am fw [4];simp[WY];apply aa.ret;exact .inr ⟨1400,0,by simp,by simp⟩
def A9(c7:b8)(i:Nat):Prop:=¬(c7.getD i default<1\/c7.getD i default>60000)
instance(c7:b8)(i:Nat):Decidable (A9 c7 i):=by unfold A9;infer_instance
def ew(n:aA)(c7:b8):Prop:=(c7.length:Int)=n.aK/\∀i,i<c7.length->A9 c7 i
instance(n:aA)(c7:b8):Decidable (ew n c7):=by unfold ew;infer_instance
def Vd(n:aA)(c7:b8)(hl:c7.length<=9223372036854775807):aI Tryd.prog 77 [n.enc,.sl (aw c7)] (.bool (decide (ew n c7))):=by
 obtain⟨nt,nn,ns,ak⟩:=n;obtain⟨v,hv⟩:=ba (decide (ew ⟨nt,nn,ns,ak⟩ c7));rw[hv];have dt:ew ⟨nt,nn,ns,ak⟩ c7↔(c7.length:Int)=nt/\∀i,i<c7.length->A9 c7 i:=Iff.rfl;have cb:¬ew ⟨nt,nn,ns,ak⟩ c7->v=false:=λh=>by rw[<-hv];simp[h]
 have am:=Pp;refine c44.ok (by simp) (aC ?_);simp[aA.enc];apply aa.ag am fw [1,2];simp[Da];refine aa.lk (o:=[]) (l:=[(1,.v (.sl (aw c7))),(2,.v (.box [ti nt,ti nn,ti ns,.sl (aU ak)]))]) (bC:=1200) (by simp) ?_;apply aa.sq am fw [1,10];simp[Db];refine aa.cond rfl (λh1=>?_) (λh1=>?_)
 ·have h1:¬(c7.length:Int)=nt:=by simpa using h1
  apply aa.ag am fw [4];simp[Dd];apply aa.ret;rw[cb λh=>h1 (dt.1 h).1];simp[aa2]
 ·have h1:(c7.length:Int)=nt:=by simpa using h1
  apply aa.skip;simp;apply aa.sq am fw [1,5];simp[De];apply aa.block;refine aa.loop (λy:Nat=>⟨DM.look [(1,.v (.sl (aw c7))),(5,.v (ti y))],cC [],2000,1000,[]⟩)
   (λy=>y<=c7.length/\∀i,i<y->A9 c7 i) (λy=>c7.length-y) 0 (Le.aD (o:=[]) ?_ ?_ ?_ ?_) (by simp) (λy hy=>?_)
  iterate 4(·simp)
  obtain⟨pT,eG⟩:=hy;apply aa.sq am fw [1,5,14];simp[Df];refine aa.cond rfl (λaZ=>?_) (λaZ=>?_)
  ·have aZ:y<c7.length:=by simpa using aZ
   apply aa.skip;simp;apply aa.seq;apply aa.block;have rr:=bS aZ;obtain⟨x,hx⟩:=ba (c7.getD y default);rw[hx]at rr;obtain⟨c2,fg⟩:=ba (decide (x<1\/x>60000):Bool);refine aa.co am fw [(1,.v (.sl (aw c7))),(5,.v (ti y)),(28,.v (.bool c2))] ?_ ?_
   ·by_cases q1:x<1
    ·have:c2=true:=by rw[<-fg];simp[q1]
     simp[xp,q1,this,aZ,rr]
    ·skip
     by_cases q2:x>60000
     ·have:c2=true:=by rw[<-fg];simp[q2]
      simp[xp,q1,q2,this,aZ,rr]
     ·skip
      have:c2=false:=by rw[<-fg];simp[q1,q2]
      simp[xp,q1,q2,this,aZ,rr]
   refine aa.cond rfl (λh2=>?_) (λh2=>?_)
   ·rw[h2]at fg;have fg:=qX fg;apply aa.ag am fw [4];simp[Dg];apply aa.ret;rw[cb λh=>by have:=(dt.1 h).2 y aZ;unfold A9 at this;rw[hx]at this;exact this fg];simp[aa2]
   ·rw[h2]at fg;have fg:=Lx fg;apply aa.skip;simp;apply aa.cX am fw [1,5];simp[Dh];rw[aq (x:=(y:Int)+1) (by omega)];refine⟨y+1,Le.aD (o:=[]) ?_ ?_ ?_ ?_,⟨by omega,λi hi=>?_⟩,by omega⟩;iterate 4(·simp)
    ·by_cases e:i=y
     ·subst e;unfold A9;rw[hx];exact fg
     ·exact eG i (by omega)
  ·have Dp:y=c7.length:=by simp at aZ;omega
   subst Dp;apply aa.exit;simp;apply aa.ag am fw [4];simp[Di];apply aa.ret;have:v=true:=by rw[<-hv];exact decide_eq_true (dt.2 ⟨h1,eG⟩)
   rw[this];simp[aa2]
def iP(c7:b8)(r:bU):du:=⟨r.head,jn r,if r.kind=2 then r.cA+c7.getD r.a.toNat default else r.cA,0,0⟩
def qC(n:aA)(c7:b8):List du:=n.ak.map (iP c7)
abbrev s93:DM.Spec:=bp (λts=>∃a b c d e f,ts=[.agg [ti a,ti b,ti c,ti d,ti e,ti f]]) (fun|[.agg r]=>.sl (aw (jn (iu r)))|_=>.bool false) false
def aie:au Tryd.prog (bG [(112,s93)]):=by
 refine au.cons au.nil ?_;rintro ts ⟨a,b,c,d,e,f,rfl⟩;exact⟨by simpa [bU.enc,iu,cN]using t93 ⟨a,b,c,d,e,f⟩,λh=>by cases h⟩
def Gu(r:bU):(jn r).length<=2:=by unfold jn;split<;>(try split)<;>simp
def t67(n:aA)(c7:b8)(hn:nOk n)(hp:ew n c7):aI Tryd.prog 96 [n.enc,.sl (aw c7)] (.agg [ti n.ae,.sl (cg (qC n c7))]):=by
 obtain⟨nt,nn,ns,ak⟩:=n;obtain⟨n1,n2,n3,n4⟩:=hn;obtain⟨p1,p2⟩:=hp;simp only[qC]at n1 n2 n3 n4 p1 p2⊢;have am:=aie;refine c67.ok (by simp) (aC ?_);simp[aA.enc];apply aa.ag am fw [1,2,4];simp[Xj];refine aa.lk (o:=[(1005,.box [.v (ti 0),.aF])]) (l:=[(1,.v (.sl (aw c7))),(2,.v (.box [ti nt,ti nn,ti ns,.sl (aU ak)])),(4,.ptr 1005 0)]) (bC:=1200) (by simp) ?_;apply aa.ag am fw [1,2,4,5];simp[Xk];refine aa.lk (o:=[(1005,.box [.v (ti 0),.aF])]) (l:=[(1,.v (.sl (aw c7))),(2,.v (.box [ti nt,ti nn,ti ns,.sl (aU ak)])),(4,.ptr 1005 0),(5,.aF)]) (bC:=1400) (by simp) ?_;refine aa.le (Le.lK (k:=5) 79 (sz:=5) (by omega) (by simp)) ?_;rw[gn];apply aa.sq am fw [1,2,4,5,6];simp[Xl];apply aa.block;refine aa.loop (λy:Nat=>⟨DM.look [(1,.v (.sl (aw c7))),(2,.v (.box [ti nt,ti nn,ti ns,.sl (aU ak)])),(4,.ptr 1005 0),(5,.aQ 1400 0),(6,.v (ti y))],cC [(1005,.box [.v (ti 0),.aF]),(1400,.aR 0 79 5 (cg ((ak.take y).map (iP c7))))],1600,1000,[]⟩)
  (λy=>y<=ak.length) (λy=>ak.length-y) 0 (Le.aD ?_ ?_ ?_ ?_) (by simp) (λy hy=>?_)
 ·simp
 ·simp
 ·simp[cg]
 ·simp
 apply aa.sq am fw [1,2,4,5,6,13];simp[Xm];refine aa.cond rfl (λaZ=>?_) (λaZ=>?_)
 ·have aZ:y<ak.length:=by simpa using aZ
  apply aa.skip;simp;apply aa.seq;apply aa.block;have rr:=iO aZ;obtain⟨⟨rk,rh,ra,rb,rp,rg⟩,hr⟩:=ba (ak.getD y default);rw[hr]at rr;have B1:=n4 ⟨rk,rh,ra,rb,rp,rg⟩ (by rw[<-hr];exact eI aZ);obtain⟨q1,q2,q3,q4,q5⟩:=B1;simp only at q1 q2 q3 q4 q5;apply aa.ag am fw [1,2,4,5,6,7];simp[Xn,aZ,rr,bU.enc];refine aa.lk (o:=[(1005,.box [.v (ti 0),.aF]),(1400,.aR 0 79 5 (cg ((ak.take y).map (iP c7))))]) (l:=[(1,.v (.sl (aw c7))),(2,.v (.box [ti nt,ti nn,ti ns,.sl (aU ak)])),(4,.ptr 1005 0),(5,.aQ 1400 0),(6,.v (ti y)),(7,.v (.box [ti rk,ti rh,ti ra,ti rb,ti rp,ti rg]))]) (bC:=2400) (by simp) ?_;apply aa.ag am fw [1,2,4,5,6,7,8];simp[Xo];apply aa.sq am fw [1,2,4,5,6,7,8,25];simp[Xp];refine aa.cond rfl (λh6=>?_) (λh6=>?_)
  ·have h6:rk=2:=by simpa using h6
   have Ae:0<=ra/\ra<c7.length:=by omega
   obtain⟨a,rfl⟩:=eM Ae.1;have ln:a<c7.length:=by omega
   have ri:=bS ln;have Fh:=p2 a ln;unfold A9 at Fh;obtain⟨x,hx⟩:=ba (c7.getD a default);rw[hx]at ri Fh;have hE:iP c7 ⟨rk,rh,a,rb,rp,rg⟩=⟨rh,jn ⟨rk,rh,a,rb,rp,rg⟩,rp+x,0,0⟩:=by unfold iP;simp only[uV h6,ib,hx]
   apply aa.cX am fw [1,2,4,5,6,7,8];simp[Xq,ln,ri,aq (x:=rp+x) (by omega)];apply aa.cX am fw [1,2,4,5,6];simp[Pg,iu,cN,dW,cw];repeat (refine⟨by omega, ?_⟩)
   have hS:∀ec,iP c7 (ak.getD y default)=⟨rh,jn (ak.getD y default),ec,0,0⟩->cg ((ak.map (iP c7)).take (y+1))=cg ((ak.map (iP c7)).take y)++[[ti rh,.sl (aw (jn (ak.getD y default))),ti ec,ti 0,ti 0]]:=by
    intro ec h;rw[<-List.map_take,cI aZ,qQ,cg,qQ,T0];simp only[l8,Ui,h,du.enc,cg]
   rw[hr]at hS;have hS:=hS _ hE;apply aa.cX am fw [1,2,4,5,6];simp[Ph];rw[aq (x:=(y:Int)+1) (by omega)];refine⟨y+1,Le.aD ?_ ?_ ?_ ?_,by omega,by omega⟩
   ·simp
   ·simp
   ·simp[hS]
   ·simp
  ·have h6:¬rk=2:=by simpa using h6
   have hE:iP c7 ⟨rk,rh,ra,rb,rp,rg⟩=⟨rh,jn ⟨rk,rh,ra,rb,rp,rg⟩,rp,0,0⟩:=by unfold iP;simp only[mL h6]
   apply aa.skip;simp;apply aa.cX am fw [1,2,4,5,6];simp[Pg,iu,cN,dW,cw];repeat (refine⟨by omega, ?_⟩)
   have hS:∀ec,iP c7 (ak.getD y default)=⟨rh,jn (ak.getD y default),ec,0,0⟩->cg ((ak.map (iP c7)).take (y+1))=cg ((ak.map (iP c7)).take y)++[[ti rh,.sl (aw (jn (ak.getD y default))),ti ec,ti 0,ti 0]]:=by
    intro ec h;rw[<-List.map_take,cI aZ,qQ,cg,qQ,T0];simp only[l8,Ui,h,du.enc,cg]
   rw[hr]at hS;have hS:=hS _ hE;apply aa.cX am fw [1,2,4,5,6];simp[Ph];rw[aq (x:=(y:Int)+1) (by omega)];refine⟨y+1,Le.aD ?_ ?_ ?_ ?_,by omega,by omega⟩
   ·simp
   ·simp
   ·simp[hS]
   ·simp
 ·have eG:y=ak.length:=by simp at aZ;omega
  subst eG;rw[show(ak.map (iP c7)).take ak.length=ak.map (iP c7)from IN (by simp)];apply aa.exit;simp;apply aa.ag am fw [4];simp[Pi];apply aa.ret;simp[Pj]
section
variable{nd:Int}{es:List du}
def tu(l:List gf)(i:Nat)(x:gf):cm (l.set i x)=(cm l).set i [ti x.aG,ti x.size]:=by simp[cm,Zc8]
def tw(l:b8)(i:Nat)(x:Int):aw (l.set i x)=(aw l).set i [ti x]:=by simp[aw,Zc8]
def UV{α:Type}(a b:α){n y:Nat}(h:y<n):(List.replicate y a++List.replicate (n-y) b).set y a=List.replicate (y+1) a++List.replicate (n-(y+1)) b:=by
 rw[List.set_append_right _ _ (by simp)];simp only[TD,Nat.sub_self];rw[show n-y=(n-(y+1))+1 by omega,V5,Sm,ZcQ (n:=y),KW];rfl
def xy(nd:Int)(e:du):Prop:=0<=e.head/\e.head<nd/\(∀t∈e.dv,0<=t/\t<nd)/\0<=e.aG/\e.aG<=4000000000000/\e.dv.length<=1000000
def EW(nd:Int)(es:List du):Prop:=0<=nd/\nd<=1000000/\es.length<=1000000/\∀e∈es,xy nd e
def LS(nd:Int)(v:List gf):Prop:=(v.length:Int)=nd/\∀x∈v,Pr x
def zx(x:gf):Nat:=x.aG.toNat*2199023255552+x.size.toNat
def gS(v:List gf):Nat:=(v.map zx).sum
def zy{own:List gf}{h:Nat}{y:gf}(hh:h<own.length)(hy:zx y<zx (own.getD h default)):gS (own.set h y)<gS own:=by
 induction own generalizing h with
 |nil=>simp at hh
 |cons x own ih=>
  cases h with
  |zero=>simp[gS]at hy⊢;omega
  |succ h=>
   have:=ih (h:=h) (by simpa using hh) (by simpa using hy);simp[gS]at this⊢;omega
def Ik{a b:gf}(ha:Pr a)(hb:Pr b)(h:a.lt b):zx a<zx b:=by
 obtain⟨a1,a2,a3,a4⟩:=ha;obtain⟨b1,b2,b3,b4⟩:=hb;unfold gf.lt at h;unfold zx;omega
def dX(v:List gf)(e:du):List gf:=if(tt e.aG (eT v e.dv)).lt (v.getD e.head.toNat default)then v.set e.head.toNat (tt e.aG (eT v e.dv))else v
def tz{v:List gf}{ts:b8}(hv:LS nd v)(h:∀t∈ts,0<=t/\t<nd):∀x∈eT v ts,Pr x:=by
 intro x hx;simp only[eT,kL]at hx;obtain⟨t,ht,rfl⟩:=hx;have:=h t ht;have:=hv.1;exact hv.2 _ (eI (by omega))
def Dq{v:List gf}{e:du}(he:xy nd e)(hv:LS nd v):LS nd (dX v e)/\(dX v e=v\/gS (dX v e)<gS v):=by
 obtain⟨e1,e2,e3,e4,e5,e6⟩:=he;have hc:=Ij (c:=e.aG) (l:=eT v e.dv) (tz hv e3) e4 e5;have hh:e.head.toNat<v.length:=by have:=hv.1;omega
 unfold dX;split
 ·rename_i h;refine⟨⟨by simpa using hv.1,λx hx=>?_⟩,.inr (zy hh (Ik hc (hv.2 _ (eI hh)) h))⟩;rcases Yw hx with h|rfl
  ·exact hv.2 x h
  ·exact hc
 ·exact⟨hv,.inl rfl⟩
def d8(es:List du)(v:List gf)(y:Nat):List gf:=(List.range y).foldl (λv k=>dX v (es.getD k default)) v
def oW(es:List du)(v:List gf)(y:Nat):d8 es v (y+1)=dX (d8 es v y) (es.getD y default):=by simp[d8,E7,LV]
def tA{nd:Int}{es:List du}(hh:EW nd es){v:List gf}(hv:LS nd v):∀y,y<=es.length->LS nd (d8 es v y)/\(d8 es v y=v\/gS (d8 es v y)<gS v)
 |0,_=>⟨hv,.inl rfl⟩
 |y+1,hy=>by
  obtain⟨h1,h2⟩:=tA hh hv y (by omega);obtain⟨h3,h4⟩:=Dq (hh.2.2.2 _ (eI (l:=es) (i:=y) (by omega))) h1;rw[oW];refine⟨h3, ?_⟩;rcases h4 with e|h4
  ·rw[e];exact h2
  ·rcases h2 with e|h2
   ·rw[e]at h4⊢;exact .inr h4
   ·exact .inr (by omega)
def oX(es:List du):Nat->List gf->List gf
 |0,v=>v
 |f+1,v=>if d8 es v es.length=v then v else oX es f (d8 es v es.length)
def Gv{v:List gf}{f:Nat}{R:List gf}(hs:d8 es v es.length=v\/gS (d8 es v es.length)<gS v)(h1:gS v<f)(h2:oX es f v=R):
  (d8 es v es.length≠v->gS (d8 es v es.length)<gS v/\∃f,gS (d8 es v es.length)<f/\oX es f (d8 es v es.length)=R)/\(d8 es v es.length=v->v=R):=by
 cases f with
 |zero=>omega
 |succ f=>
  unfold oX at h2;refine⟨λcZ=>?_,λe=>?_⟩
  ·rw[mL cZ]at h2;have:=hs.resolve_left cZ;exact⟨this,f,by omega,h2⟩
  ·rwa [uV e]at h2
def Gw(nd:Int):List gf:=List.replicate nd.toNat ⟨1099511627776,0⟩
def qD(nd:Int)(es:List du):List gf:=oX es (gS (Gw nd)+1) (Gw nd)
def zz{nd:Int}{es:List du}(hh:EW nd es):∀f v,gS v<f->LS nd v->LS nd (oX es f v)
 |0,v,h,_=>by omega
 |f+1,v,h,hv=>by
  obtain⟨h1,h2⟩:=tA hh hv es.length (iV _);unfold oX;split
  ·exact hv
  ·rename_i cZ;exact zz hh f _ (by have:=h2.resolve_left cZ;omega) h1
def Il(hh:EW nd es):LS nd (Gw nd):=by
 refine⟨by have:=hh.1;simp only[Gw,TD];omega,λx hx=>?_⟩;rw[Td hx];simp[Pr]
def zA(hh:EW nd es):LS nd (qD nd es):=zz hh _ _ (by omega) (Il hh)
def stepG(es:List du)(v:List gf)(g:b8)(j:Nat):b8:=
 if(v.getD (es.getD (es.length-1-j) default).head.toNat default).aG<1099511627776/\tt (es.getD (es.length-1-j) default).aG (eT v (es.getD (es.length-1-j) default).dv)=v.getD (es.getD (es.length-1-j) default).head.toNat default then g.set (es.getD (es.length-1-j) default).head.toNat ((es.length-1-j:Nat):Int)else g
def p7(es:List du)(v:List gf)(nd:Int)(j:Nat):b8:=(List.range j).foldl (stepG es v) (List.replicate nd.toNat (-1))
def qE(es:List du)(v:List gf)(nd:Int)(y:Nat):p7 es v nd (y+1)=stepG es v (p7 es v nd y) y:=by simp[p7,E7,LV]
def LU(es:List du)(v:List gf)(h:0<=nd)(y:Nat):((p7 es v nd y).length:Int)=nd:=by
 induction y with
 |zero=>simp[p7];omega
 |succ y ih=>
  rw[qE];unfold stepG;split
  ·simpa using ih
  ·exact ih
structure VM where
 v:List gf
 Gx:Bool
abbrev s91:DM.Spec:=ze (λts=>∃a b c d e v,ts=[.agg [ti a,.sl (aw b),ti c,ti d,ti e],.sl (cm v)]/\(∀t∈b,0<=t/\t<v.length)/\b.length<=1000000) (fun|[.agg [_,.sl b,_,_,_],.sl v]=>cm (eT (jP v) (dS b))|_=>[]) 103 2
def Dr(l:List gf):il.ig (cm l).flatten=true:=by
 induction l with
 |nil=>rfl
 |cons x l ih=>simpa [cm,il.ig,il]using ih
def aif:au Tryd.prog (bG [(73,s91),(72,s69),(74,s92)]):=by
 refine au.aeA (au.cons (au.cons au.nil ?_) ?_) ?_
 ·rintro ts ⟨a,b,c,d,rfl⟩;exact⟨t92 ⟨a,b⟩ ⟨c,d⟩,λ_=>rfl⟩
 ·rintro ts ⟨c,l,rfl,h1,h2,h3,h4⟩;exact⟨by simpa using t69 c l h1 h2 h3 h4,λ_=>rfl⟩
 ·rintro ts ⟨a,b,c,d,e,v,rfl,h1,h2⟩;exact⟨by simpa [du.enc]using t91 ⟨a,b,c,d,e⟩ v h1 h2,Dr _⟩
def t66(nd:Int)(es:List du)(hh:EW nd es):aI Tryd.prog 42 [.agg [ti nd,.sl (cg es)]] (.dh [.sl (cm (qD nd es)),.sl (aw (p7 es (qD nd es) nd es.length))]):=by
 obtain⟨R,hR⟩:=ba (qD nd es);have hRo:LS nd R:=hR▸zA hh;rw[hR];have h0:=Il hh;have vO:=λ(v:List gf) (hv:LS nd v)=>tA hh hv;have uR:=λ(v:List gf) (hv:LS nd v) (e:du) (he:xy nd e)=>Dq he hv;obtain⟨g1,g2,g3,g4⟩:=hh;have am:=aif;refine c66.ok (by simp) (aC ?_);simp;apply aa.ag am fw [1];simp[WZ];refine aa.lk (o:=[]) (l:=[(1,.v (.box [ti nd,.sl (cg es)]))]) (bC:=1200) (by simp) ?_;apply aa.ag am fw [1,4];simp[W0,sy,cw];repeat (refine⟨by omega, ?_⟩)
 refine aa.le (Le.aD (o:=[(1217,.aR 0 103 2 (cm ((List.replicate nd.toNat (⟨0,0⟩:gf)))))]) (l:=[(1,.v (.box [ti nd,.sl (cg es)])),(4,.aQ 1217 0)]) (bC:=1400) ?_ ?_ ?_ ?_) ?_
 ·simp
 ·simp
 ·simp[cm]
 ·simp
 apply aa.ag am fw [1,4,5];simp[W3,sy,cw];repeat (refine⟨by omega, ?_⟩)
 refine aa.le (Le.aD (o:=[(1217,.aR 0 103 2 (cm ((List.replicate nd.toNat (⟨0,0⟩:gf))))),(1420,.aR 0 3 1 (aw (List.replicate nd.toNat 0)))]) (l:=[(1,.v (.box [ti nd,.sl (cg es)])),(4,.aQ 1217 0),(5,.aQ 1420 0)]) (bC:=1600) ?_ ?_ ?_ ?_) ?_
 ·simp
 ·simp
 ·simp[cm,aw]
 ·simp
 apply aa.sq am fw [1,4,5,6];simp[W4];apply aa.block;refine aa.loop (λy:Nat=>⟨DM.look [(1,.v (.box [ti nd,.sl (cg es)])),(4,.aQ 1217 0),(5,.aQ 1420 0),(6,.v (ti y))],cC [(1217,.aR 0 103 2 (cm (List.replicate y (⟨1099511627776,0⟩:gf)++List.replicate (nd.toNat-y) (⟨0,0⟩:gf)))),(1420,.aR 0 3 1 (aw (List.replicate y (-1:Int)++List.replicate (nd.toNat-y) (0:Int))))],2000,1000,[]⟩)
  (λy=>y<=nd.toNat) (λy=>nd.toNat-y) 0 (Le.aD ?_ ?_ ?_ ?_) (by simp) (λy hy=>?_)
 iterate 4(·simp)
 obtain⟨A,hA⟩:=ba (List.replicate y (⟨1099511627776,0⟩:gf)++List.replicate (nd.toNat-y) (⟨0,0⟩:gf));obtain⟨E,hE⟩:=ba (List.replicate y (-1:Int)++List.replicate (nd.toNat-y) (0:Int));have hAl:A.length=nd.toNat:=by rw[<-hA];simp;omega
 have hEl:E.length=nd.toNat:=by rw[<-hE];simp;omega
 rw[hA,hE];apply aa.sq am fw [1,4,5,6,23];simp[W6];refine aa.cond rfl (λaZ=>?_) (λaZ=>?_)
 ·have aZ:(y:Int)<nd:=by simpa using aZ
  have UW:y<nd.toNat:=by omega
  apply aa.skip;simp;apply aa.seq;apply aa.block;have ra:=jJ (l:=A) (y:=y) (by omega);have re:=bS (l:=E) (y:=y) (by omega);have q1:y<A.length:=by omega
  have q2:y<E.length:=by omega
  apply aa.cX am fw [1,4,5,6];simp[W7,q1,q2,ra,re];apply aa.cX am fw [1,4,5,6];simp[W8];rw[aq (x:=(y:Int)+1) (by omega)];refine⟨y+1,Le.aD ?_ ?_ ?_ ?_,by omega,by omega⟩
  ·simp
  ·simp
  ·simp only[<-UV _ _ UW,hA,hE,tu,tw];simp
  ·simp
 ·have eG:y=nd.toNat:=by simp at aZ;omega
  subst eG;have F7:A=Gw nd:=by rw[<-hA];simp[Gw]
  have hE2:E=List.replicate nd.toNat (-1):=by rw[<-hE];simp
  subst F7;subst hE2;apply aa.exit;simp;apply aa.sq am fw [1,4,5,7];simp[W9];apply aa.block;refine aa.loop (λz:VM=>⟨DM.look [(1,.v (.box [ti nd,.sl (cg es)])),(4,.aQ 1217 0),(5,.aQ 1420 0),(7,.v (.bool z.Gx))],cC [(1217,.aR 0 103 2 (cm (z.v))),(1420,.aR 0 3 1 (aw (List.replicate nd.toNat (-1))))],3000,1000,[]⟩)
   (λz=>LS nd z.v/\(z.Gx=true->∃f,gS z.v<f/\oX es f z.v=R)/\(z.Gx=false->z.v=R)) (λz=>2*gS z.v+(if z.Gx then 1 else 0)) ⟨Gw nd,true⟩ (Le.aD ?_ ?_ ?_ ?_) (⟨h0,λ_=>⟨_,IV _,hR⟩,λh=>by cases h⟩) (λz hy=>?_)
  iterate 4(·simp)
  obtain⟨own,Gx⟩:=z;obtain⟨MN,Gl,Vf⟩:=hy;simp only at MN Gl Vf⊢;apply aa.sq am fw [1,4,5,33];simp[Xa];refine aa.cond rfl (λhm=>?_) (λhm=>?_)
  ·have hm:Gx=true:=by simpa using hm
   subst hm;obtain⟨f,Vb,Vc⟩:=Gl rfl;apply aa.skip;simp;apply aa.block;apply aa.ag am fw [1,4,5,7];simp[Xb];apply aa.ag am fw [1,4,5,7,8];simp[O3];apply aa.block;refine aa.loop (λy:Nat=>⟨DM.look [(1,.v (.box [ti nd,.sl (cg es)])),(4,.aQ 1217 0),(5,.aQ 1420 0),(7,.v (.bool (decide (d8 es own y≠own)))),(8,.v (ti y))],cC [(1217,.aR 0 103 2 (cm (d8 es own y))),(1420,.aR 0 3 1 (aw (List.replicate nd.toNat (-1))))],4000,1000,[]⟩)
    (λy=>y<=es.length) (λy=>es.length-y) 0 (Le.aD ?_ ?_ ?_ ?_) (by simp) (λy Dp=>?_)
   ·simp
   ·simp[d8]
   ·simp[d8]
   ·simp[d8]
   obtain⟨O,hO⟩:=ba (d8 es own y);obtain⟨AS,UF⟩:=vO own MN y Dp;rw[hO]at AS UF;obtain⟨m1,Fu⟩:=ba (decide (O≠own):Bool);rw[hO,Fu];apply aa.sq am fw [1,4,5,7,8,38];simp[O4];refine aa.cond rfl (λaZ=>?_) (λaZ=>?_)
   ·have aZ:y<es.length:=by simpa using aZ
    apply aa.skip;simp;apply aa.seq;apply aa.block;have rr:=sh aZ;obtain⟨⟨xh,xt,xc,x0,x1⟩,hx⟩:=ba (es.getD y default);rw[hx]at rr;have vw:xy nd ⟨xh,xt,xc,x0,x1⟩:=g4 _ (by rw[<-hx];exact eI aZ);have VT:=uR O AS _ vw;obtain⟨q1,q2,q3,q4,q5,q6⟩:=vw;simp only at q1 q2 q3 q4 q5 q6;obtain⟨xh,rfl⟩:=eM q1;apply aa.ag am fw [1,4,5,7,8,9];simp[O5,aZ,rr,du.enc];refine aa.lk (o:=[(1217,.aR 0 103 2 (cm (O))),(1420,.aR 0 3 1 (aw (List.replicate nd.toNat (-1))))]) (l:=[(1,.v (.box [ti nd,.sl (cg es)])),(4,.aQ 1217 0),(5,.aQ 1420 0),(7,.v (.bool m1)),(8,.v (ti y)),(9,.v (.box [ti xh,.sl (aw xt),ti xc,ti x0,ti x1]))]) (bC:=4200) (by simp) ?_;have ht3:∀t∈xt,0<=t/\t<O.length:=λt ht=>by have:=q3 t ht;have:=AS.1;omega
    have Yr:=tz AS q3;have ja:(eT O xt).length<=1000000:=by simpa [eT]using q6
    obtain⟨⟨wc,wz⟩,hw⟩:=ba (tt xc (eT O xt));refine aa.eC am fw (rs:=rH A6 [none,some [],some [],none,some [1217],some [4251],none,some [4211]]) (.inr ⟨_,rfl⟩) (by kernel_rfl) [1,4,5,7,8,9,10] ?_;simp[A6,rH,cL,br,aS,sy,q6,ja,hw];refine⟨ht3,Yr, ?_⟩;repeat (refine⟨by omega, ?_⟩)
    refine aa.lk (o:=[(1217,.aR 0 103 2 (cm (O))),(1420,.aR 0 3 1 (aw (List.replicate nd.toNat (-1))))]) (l:=[(1,.v (.box [ti nd,.sl (cg es)])),(4,.aQ 1217 0),(5,.aQ 1420 0),(7,.v (.bool m1)),(8,.v (ti y)),(9,.v (.box [ti xh,.sl (aw xt),ti xc,ti x0,ti x1])),(10,.v (.box [ti wc,ti wz]))]) (bC:=4400) (by simp) ?_;have XN:xh<O.length:=by have:=AS.1;omega
    have ro:=jJ XN;obtain⟨⟨uc,uz⟩,hu⟩:=ba (O.getD xh default);rw[hu]at ro;obtain⟨c1,cn⟩:=ba (decide ((⟨wc,wz⟩:gf).lt ⟨uc,uz⟩):Bool);apply aa.ag am fw [1,4,5,7,8,9,10,58];simp[O6,XN,ro,cn];refine aa.cond rfl (λh5=>?_) (λh5=>?_)
    ·have h5:c1=true:=by simpa using h5
     rw[h5]at cn;have cn:=qX cn;have hS0:dX O ⟨xh,xt,xc,x0,x1⟩=O.set xh ⟨wc,wz⟩:=by unfold dX;simp only[hw,hu,ib];rw[uV cn]
     have Q7:d8 es own (y+1)=O.set xh ⟨wc,wz⟩:=by rw[oW,hO,hx,hS0]
     have cZ:¬d8 es own (y+1)=own:=by
      intro e;have h6:gS (O.set xh ⟨wc,wz⟩)<gS O:=by
       refine zy XN ?_;rw[hu];exact Ik (by rw[<-hw];exact Ij Yr q4 q5) (by rw[<-hu];exact AS.2 _ (eI XN)) cn
      rw[<-Q7,e]at h6;rcases UF with h|h
      ·rw[h]at h6;omega
      ·omega
     apply aa.ag am fw [1,4,5,8];simp[O7,XN,ro];apply aa.cX am fw [1,4,5,7,8];simp[O8];apply aa.cX am fw [1,4,5,7,8];simp[Gq];rw[aq (x:=(y:Int)+1) (by omega)];refine⟨y+1,Le.aD ?_ ?_ ?_ ?_,by omega,by omega⟩
     ·simp
     ·simp
     ·simp[Q7,tu]
     ·simp;simpa using cZ
    ·have h5:c1=false:=by simpa using h5
     rw[h5]at cn;have cn:=Lx cn;have Q7:d8 es own (y+1)=O:=by rw[oW,hO,hx];unfold dX;simp only[hw,hu,ib];rw[mL cn]
     have cZ:=Fu;rw[<-Q7]at cZ;apply aa.skip;simp;apply aa.cX am fw [1,4,5,7,8];simp[Gq];rw[aq (x:=(y:Int)+1) (by omega)];refine⟨y+1,Le.aD ?_ ?_ ?_ ?_,by omega,by omega⟩
     ·simp
     ·simp
     ·simp[Q7,tu]
     ·simp;simpa using cZ
   ·have wD:y=es.length:=by simp at aZ;omega
    subst wD;have TH:=Gv (vO own MN _ (iV _)).2 Vb Vc;simp only[hO]at TH;have aig:2*gS O+(if m1 then 1 else 0)<2*gS own+1:=by
     by_cases e:O=own
     ·have Ud:m1=false:=by rw[<-Fu];simp[e]
      subst Ud;rw[e];simp
     ·have:=(TH.1 e).1;cases m1<;>simp<;>omega
    apply aa.exit;simp;refine⟨⟨O,m1⟩,Le.aD ?_ ?_ ?_ ?_,⟨AS,λh=>(TH.1 (qX (Fu.trans h))).2,λh=>by have e:=Classical.not_not.1 (Lx (Fu.trans h));simp only;rw[e];exact TH.2 e⟩,by simpa using aig⟩;iterate 3(·simp)
    ·simp
  ·have hm:Gx=false:=by simpa using hm
   subst hm;have Vf:=Vf rfl;subst Vf;apply aa.exit;simp;apply aa.sq am fw [1,4,5,11];simp[O9,aq (x:=(es.length:Int)-1) (by omega)];apply aa.block;refine aa.loop (λj:Nat=>⟨DM.look [(1,.v (.box [ti nd,.sl (cg es)])),(4,.aQ 1217 0),(5,.aQ 1420 0),(11,.v (ti ((es.length:Int)-1-j)))],cC [(1217,.aR 0 103 2 (cm (own))),(1420,.aR 0 3 1 (aw (p7 es own nd j)))],5000,1000,[]⟩)
    (λj=>j<=es.length) (λj=>es.length-j) 0 (Le.aD ?_ ?_ ?_ ?_) (by simp) (λj hj=>?_)
   ·simp
   ·simp
   ·simp[p7]
   ·simp
   obtain⟨G,hG⟩:=ba (p7 es own nd j);have hGl:=LU es own g1 j;rw[hG]at hGl;rw[hG];obtain⟨k,hk⟩:=ba ((es.length:Int)-1-j);rw[hk];apply aa.sq am fw [1,4,5,11,69];simp[Pa];refine aa.cond rfl (λh9=>?_) (λh9=>?_)
   ·have h9:0<=k:=by simpa using h9
    obtain⟨k,rfl⟩:=eM h9;have hkl:k<es.length:=by omega
    have hke:es.length-1-j=k:=by omega
    apply aa.skip;simp;apply aa.seq;apply aa.block;have rr:=sh hkl;obtain⟨⟨xh,xt,xc,x0,x1⟩,hx⟩:=ba (es.getD k default);rw[hx]at rr;have vw:xy nd ⟨xh,xt,xc,x0,x1⟩:=g4 _ (by rw[<-hx];exact eI hkl);obtain⟨q1,q2,q3,q4,q5,q6⟩:=vw;simp only at q1 q2 q3 q4 q5 q6;obtain⟨xh,rfl⟩:=eM q1;apply aa.ag am fw [1,4,5,11,12];simp[Pb,hkl,rr,du.enc];refine aa.lk (o:=[(1217,.aR 0 103 2 (cm (own))),(1420,.aR 0 3 1 (aw (G)))]) (l:=[(1,.v (.box [ti nd,.sl (cg es)])),(4,.aQ 1217 0),(5,.aQ 1420 0),(11,.v (ti k)),(12,.v (.box [ti xh,.sl (aw xt),ti xc,ti x0,ti x1]))]) (bC:=5200) (by simp) ?_;have XN:xh<own.length:=by have:=hRo.1;omega
    have ro:=jJ XN;obtain⟨⟨uc,uz⟩,hu⟩:=ba (own.getD xh default);rw[hu]at ro;apply aa.ag am fw [1,4,5,11,12,13];simp[Pc,XN,ro];refine aa.lk (o:=[(1217,.aR 0 103 2 (cm (own))),(1420,.aR 0 3 1 (aw (G)))]) (l:=[(1,.v (.box [ti nd,.sl (cg es)])),(4,.aQ 1217 0),(5,.aQ 1420 0),(11,.v (ti k)),(12,.v (.box [ti xh,.sl (aw xt),ti xc,ti x0,ti x1])),(13,.v (.box [ti uc,ti uz]))]) (bC:=5400) (by simp) ?_;have ht3:∀t∈xt,0<=t/\t<own.length:=λt ht=>by have:=q3 t ht;have:=hRo.1;omega
    have Yr:=tz hRo q3;have ja:(eT own xt).length<=1000000:=by simpa [eT]using q6
    obtain⟨⟨wc,wz⟩,hw⟩:=ba (tt xc (eT own xt));obtain⟨c1,cn⟩:=ba (decide (uc<1099511627776/\(⟨wc,wz⟩:gf)=⟨uc,uz⟩):Bool);apply aa.seq;refine aa.to ⟨DM.look [(1,.v (.box [ti nd,.sl (cg es)])),(4,.aQ 1217 0),(5,.aQ 1420 0),(11,.v (ti k)),(12,.v (.box [ti xh,.sl (aw xt),ti xc,ti x0,ti x1])),(94,.v (.bool c1))],cC [(1217,.aR 0 103 2 (cm (own))),(1420,.aR 0 3 1 (aw (G)))],6000,1000,[]⟩ ?_ ?_
    ·by_cases k1:uc<1099511627776
     ·refine aa.nj am fw (rs:=rH sf [none,some [],none,none,none,some [],some [],none,some [1217],some [5491],some [],some [],none]) (.inr ⟨_,rfl⟩) (by kernel_rfl) [1,4,5,11,12,94] ?_;simp[rH,sf,cL,br,aS,sy,k1,q6,ja,hw];refine⟨ht3,Yr,by omega,by omega, ?_⟩;have:c1=(decide (wc=uc)&&decide (wz=uz)):=by rw[<-cn];simp[k1]
      rw[this];exact Le.aD (by simp) (by simp) (by simp) (by simp)
     ·have:c1=false:=by rw[<-cn];simp[k1]
      refine aa.nj am fw (rs:=rH sf [none,some [],none,none,none,some [],some [],none,some [1217],some [5491],some [],some [],none]) (.inr ⟨_,rfl⟩) (by kernel_rfl) [1,4,5,11,12,94] ?_;simp[rH,sf,cL,br,aS,k1];subst this;exact Le.aD (by simp) (by simp) (by simp) (by simp)
    simp only[zb];refine aa.cond rfl (λh8=>?_) (λh8=>?_)
    ·have h8:c1=true:=by simpa using h8
     rw[h8]at cn;have cn:=qX cn;have QU:stepG es own G j=G.set xh (k:Int):=by unfold stepG;rw[hke,hx];simp only[hw,hu,ib];rw[uV cn]
     have ae7:xh<G.length:=by omega
     have rg:=bS ae7;apply aa.cX am fw [1,4,5,11];simp[Pd,ae7,rg];apply aa.cX am fw [1,4,5,11];simp[Gr];rw[aq (x:=(k:Int)-1) (by omega)];refine⟨j+1,Le.aD ?_ ?_ ?_ ?_,by omega,by omega⟩
     ·simp
     ·simp
     ·simp[qE,hG,QU,tw]
     ·simp;omega
    ·have h8:c1=false:=by simpa using h8
     rw[h8]at cn;have cn:=Lx cn;have QU:stepG es own G j=G:=by unfold stepG;rw[hke,hx];simp only[hw,hu,ib];rw[mL cn]
     apply aa.skip;simp;apply aa.cX am fw [1,4,5,11];simp[Gr];rw[aq (x:=(k:Int)-1) (by omega)];refine⟨j+1,Le.aD ?_ ?_ ?_ ?_,by omega,by omega⟩
     ·simp
     ·simp
     ·simp[qE,hG,QU,tw]
     ·simp;omega
   ·have h9:¬0<=k:=by simpa using h9
    have QT:j=es.length:=by omega
    subst QT;subst hG;apply aa.exit;simp;apply aa.ag am fw [2,3];simp[Pe];apply aa.ret;simp[Pf]
end
def Dt{n:aA}{c7:b8}(hn:dF n)(hp:ew n c7):EW n.ae (qC n c7):=by
 have h:=hn.ok;obtain⟨p1,p2⟩:=hp;refine⟨by have:=h.1;omega,by have:=h.2.1;omega,by simp only[qC,GP];have:=h.2.2.1;omega,λe he=>?_⟩;simp only[qC,kL]at he;obtain⟨r,hr,rfl⟩:=he;obtain⟨q1,q2,q3,q4,q5⟩:=h.2.2.2 r hr;have hc:0<=(iP c7 r).aG/\(iP c7 r).aG<=4000000000000:=by
  unfold iP;split
  ·rename_i h2;have ha:r.a.toNat<c7.length:=by omega
   have:=p2 _ ha;unfold A9 at this;simp only;omega
  ·simp only;omega
 refine⟨q1,q2,λt ht=>?_,hc.1,hc.2,by have:=Gu r;simp only[iP];omega⟩;simp only[iP,jn]at ht;split at ht
 ·simp only[ic]at ht;omega
 ·split at ht
  ·simp only[pH,Zct,Zdl]at ht;omega
  ·cases ht
def jo(n:aA)(c7:b8):List gf:=if dF n/\ew n c7 then qD n.ae (qC n c7)else []
abbrev s20:DM.Spec:=bp (λts=>∃a b c l,ts=[.agg [ti a,ti b,ti c,.sl (aU l)]]/\l.length<=9223372036854775807) (fun|[n]=>.bool (decide (dF (j7 n)))|_=>.bool false) true
abbrev s44:DM.Spec:=bp (λts=>∃a b c l i,ts=[.agg [ti a,ti b,ti c,.sl (aU l)],.sl (aw i)]/\i.length<=9223372036854775807) (fun|[n,.sl i]=>.bool (decide (ew (j7 n) (dS i)))|_=>.bool false) true
abbrev s67:DM.Spec:=bp (λts=>∃a b c l i,ts=[.agg [ti a,ti b,ti c,.sl (aU l)],.sl (aw i)]/\nOk ⟨a,b,c,l⟩/\ew ⟨a,b,c,l⟩ i) (fun|[n,.sl i]=>.agg [ti (j7 n).ae,.sl (cg (qC (j7 n) (dS i)))]|_=>.bool false) false
abbrev s66:DM.Spec:=bp (λts=>∃nd es,ts=[.agg [ti nd,.sl (cg es)]]/\EW nd es) (fun|[.agg [.int _ nd,.sl es]]=>.dh [.sl (cm (qD nd (xx es))),.sl (aw (p7 (xx es) (qD nd (xx es)) nd es.length))]|_=>.bool false) false
abbrev s45:DM.Spec:=bp (λts=>∃a b c l i,ts=[.agg [ti a,ti b,ti c,.sl (aU l)],.sl (aw i)]/\l.length<=9223372036854775807/\i.length<=9223372036854775807) (fun|[n,.sl i]=>.sl (cm (jo (j7 n) (dS i)))|_=>.bool false) false
def aih:au Tryd.prog (bG [(75,s20),(77,s44),(96,s67),(42,s66)]):=by
 refine au.cons (au.cons (au.cons (au.cons au.nil ?_) ?_) ?_) ?_
 ·rintro ts ⟨nd,es,rfl,h⟩;exact⟨by simpa using t66 nd es h,λh=>by cases h⟩
 ·rintro ts ⟨a,b,c,l,i,rfl,h1,h2⟩;exact⟨by simpa [aA.enc]using t67 ⟨a,b,c,l⟩ i h1 h2,λh=>by cases h⟩
 ·rintro ts ⟨a,b,c,l,i,rfl,h⟩;exact⟨by simpa [aA.enc]using Vd ⟨a,b,c,l⟩ i h,λ_=>rfl⟩
 ·rintro ts ⟨a,b,c,l,rfl,h⟩;exact⟨by simpa [aA.enc]using t20 ⟨a,b,c,l⟩ h,λ_=>rfl⟩
def t45(n:aA)(c7:b8)(h1:n.ak.length<=9223372036854775807)(h2:c7.length<=9223372036854775807):aI Tryd.prog 78 [n.enc,.sl (aw c7)] (.sl (cm (jo n c7))):=by
 obtain⟨R,hR⟩:=ba (jo n c7);rw[hR];unfold jo at hR;obtain⟨nt,nn,ns,ak⟩:=n;simp only at h1;have am:=aih;refine c45.ok (by simp) (aC ?_);simp[aA.enc];apply aa.ag am fw [1,2];simp[Dj];refine aa.lk (o:=[]) (l:=[(1,.v (.sl (aw c7))),(2,.v (.box [ti nt,ti nn,ti ns,.sl (aU ak)]))]) (bC:=1200) (by simp) ?_;apply aa.seq;obtain⟨c1,cn⟩:=ba (decide (¬dF ⟨nt,nn,ns,ak⟩\/¬ew ⟨nt,nn,ns,ak⟩ c7):Bool);refine aa.co am fw [(1,.v (.sl (aw c7))),(2,.v (.box [ti nt,ti nn,ti ns,.sl (aU ak)])),(15,.v (.bool c1))] ?_ ?_
 ·by_cases q1:dF ⟨nt,nn,ns,ak⟩
  ·by_cases q2:ew ⟨nt,nn,ns,ak⟩ c7
   ·have:c1=false:=by rw[<-cn];simp[q1,q2]
    simp[xq,sy,h1,h2,q1,q2,this]
   ·have:c1=true:=by rw[<-cn];simp[q2]
    simp[xq,sy,h1,h2,q1,q2,this]
  ·have:c1=true:=by rw[<-cn];simp[q1]
   simp[xq,sy,h1,q1,this]
 refine aa.cond rfl (λg=>?_) (λg=>?_)
 ·rw[g]at cn;have cn:=qX cn;rw[mL (λh=>cn.elim (λq=>q h.1) (λq=>q h.2))]at hR;subst hR;apply aa.ag am fw [4];simp[Dk];apply aa.ret;simp[ci]
 ·rw[g]at cn;have cn:=Lx cn;simp only[not_or,Classical.not_not]at cn;obtain⟨E8,nG⟩:=cn;apply aa.skip;simp;rw[uV ⟨E8,nG⟩]at hR;have hg:=Dt E8 nG;have hn:=E8.ok;simp only at hR hg;apply aa.ag am fw [5];simp[Dl,sy,hn,nG,hg,hR];apply aa.ag am fw [4];simp[Dm];apply aa.ret;simp[ci]
def qF(v:List gf)(i:Nat):Prop:=¬(v.getD i default).size>1000
instance(v:List gf)(i:Nat):Decidable (qF v i):=by unfold qF;infer_instance
def Du(n:aA)(c7:b8):Prop:=(dF n/\ew n c7)/\∀i,i<(jo n c7).length->qF (jo n c7) i
instance(n:aA)(c7:b8):Decidable (Du n c7):=by unfold Du;infer_instance
def aii:au Tryd.prog (bG [(75,s20),(77,s44),(78,s45)]):=by
 refine au.cons (au.cons (au.cons au.nil ?_) ?_) ?_
 ·rintro ts ⟨a,b,c,l,i,rfl,h1,h2⟩;exact⟨by simpa [aA.enc]using t45 ⟨a,b,c,l⟩ i h1 h2,λh=>by cases h⟩
 ·rintro ts ⟨a,b,c,l,i,rfl,h⟩;exact⟨by simpa [aA.enc]using Vd ⟨a,b,c,l⟩ i h,λ_=>rfl⟩
 ·rintro ts ⟨a,b,c,l,rfl,h⟩;exact⟨by simpa [aA.enc]using t20 ⟨a,b,c,l⟩ h,λ_=>rfl⟩
def Dv{n:aA}{c7:b8}(h1:dF n)(h2:ew n c7):(jo n c7).length<=1000:=by
 unfold jo;rw[uV ⟨h1,h2⟩];have:=(zA (Dt h1 h2)).1;have:=h1.ok.2.1;omega
def t22(n:aA)(c7:b8)(h1:n.ak.length<=9223372036854775807)(h2:c7.length<=9223372036854775807):aI Tryd.prog 46 [n.enc,.sl (aw c7)] (.bool (decide (Du n c7))):=by
 obtain⟨v,hv⟩:=ba (decide (Du n c7));rw[hv];have dt:Du n c7↔(dF n/\ew n c7)/\∀i,i<(jo n c7).length->qF (jo n c7) i:=Iff.rfl;have cb:¬Du n c7->v=false:=λh=>by rw[<-hv];simp[h]
 have Ys:=λa b=>Dv (n:=n) (c7:=c7) a b;obtain⟨V,hV⟩:=ba (jo n c7);rw[hV]at dt Ys;obtain⟨nt,nn,ns,ak⟩:=n;simp only at h1;have am:=aii;refine c22.ok (by simp) (aC ?_);simp[aA.enc];apply aa.ag am fw [1,2];simp[Xr];refine aa.lk (o:=[]) (l:=[(1,.v (.sl (aw c7))),(2,.v (.box [ti nt,ti nn,ti ns,.sl (aU ak)]))]) (bC:=1200) (by simp) ?_;apply aa.seq;obtain⟨c1,cn⟩:=ba (decide (¬dF ⟨nt,nn,ns,ak⟩\/¬ew ⟨nt,nn,ns,ak⟩ c7):Bool);refine aa.co am fw [(1,.v (.sl (aw c7))),(2,.v (.box [ti nt,ti nn,ti ns,.sl (aU ak)])),(15,.v (.bool c1))] ?_ ?_
 ·by_cases q1:dF ⟨nt,nn,ns,ak⟩
  ·by_cases q2:ew ⟨nt,nn,ns,ak⟩ c7
   ·have:c1=false:=by rw[<-cn];simp[q1,q2]
    simp[Ii,sy,h1,h2,q1,q2,this]
   ·have:c1=true:=by rw[<-cn];simp[q2]
    simp[Ii,sy,h1,h2,q1,q2,this]
  ·have:c1=true:=by rw[<-cn];simp[q1]
   simp[Ii,sy,h1,q1,this]
 refine aa.cond rfl (λg=>?_) (λg=>?_)
 ·rw[g]at cn;have cn:=qX cn;apply aa.ag am fw [4];simp[Xs];apply aa.ret;rw[cb λh=>cn.elim (λq=>q (dt.1 h).1.1) (λq=>q (dt.1 h).1.2)];simp[ci]
 ·rw[g]at cn;have cn:=Lx cn;simp only[not_or,Classical.not_not]at cn;obtain⟨E8,nG⟩:=cn;apply aa.skip;simp;have hVl:=Ys E8 nG;apply aa.ag am fw [5];simp[Xt,sy,h1,h2,hV];apply aa.sq am fw [5,6];simp[Xu];apply aa.block;refine aa.loop (λy:Nat=>⟨DM.look [(5,.v (.sl (cm V))),(6,.v (ti y))],cC [],2000,1000,[]⟩)
   (λy=>y<=V.length/\∀i,i<y->qF V i) (λy=>V.length-y) 0 (Le.aD (o:=[]) ?_ ?_ ?_ ?_) (by simp) (λy hy=>?_)
  iterate 4(·simp)
  obtain⟨pT,eG⟩:=hy;apply aa.sq am fw [5,6,22];simp[Xv];refine aa.cond rfl (λaZ=>?_) (λaZ=>?_)
  ·have aZ:y<V.length:=by simpa using aZ
   apply aa.skip;simp;apply aa.seq;apply aa.block;have rr:=jJ aZ;obtain⟨x,hx⟩:=ba (V.getD y default);rw[hx]at rr;apply aa.ag am fw [5,6,30];simp[Xw,aZ,rr];refine aa.cond rfl (λh8=>?_) (λh8=>?_)
   ·have h8:x.size>1000:=by simpa using h8
    apply aa.ag am fw [4];simp[Xx];apply aa.ret;rw[cb λh=>by have:=(dt.1 h).2 y aZ;unfold qF at this;rw[hx]at this;exact this h8];simp[ci]
   ·have h8:¬x.size>1000:=by simpa using h8
    apply aa.skip;simp;apply aa.cX am fw [5,6];simp[Xy];rw[aq (x:=(y:Int)+1) (by omega)];refine⟨y+1,Le.aD (o:=[]) ?_ ?_ ?_ ?_,⟨by omega,λi hi=>?_⟩,by omega⟩;iterate 4(·simp)
    ·by_cases e:i=y
     ·subst e;unfold qF;rw[hx];exact h8
     ·exact eG i (by omega)
  ·have Dp:y=V.length:=by simp at aZ;omega
   subst Dp;apply aa.exit;simp;apply aa.ag am fw [4];simp[Xz];apply aa.ret;have:v=true:=by rw[<-hv];exact decide_eq_true (dt.2 ⟨⟨E8,nG⟩,eG⟩)
   rw[this];simp[ci]
end vu
namespace It
def Yz:ah:=[
 B 0 2,
 B 1 3,
 o (.alloc [V 0,V 0]) 4 []]
def YA:ah:=[
 a 1 2 5 [],
 l 5 6 [0],
 a 0 3 7 [],
 l 7 8 [2],
 o (.build [V 0,V 0] [(0,1,(t 6)),(1,1,(t 8))]) 9 [1,3],
 S 2 4 9 (k [4] 4)]
def d32:DC:=(j (y Yz) (j (y YA) .ret))
def Rd:List cV:=[.cell 4 2 true]
def c32 [bh]:av Tryd.prog 61 10 d32 Rd:=av.of Tryd.f61 (by kernel_rfl)
def D6:ah:=[
 B 0 1,
 I 0 2]
def D7:ah:=[
 a 0 1 3 [],
 l 3 4 [0],
 a 1 1 5 [],
 l 5 6 [2],
 b .mul 4 6 7 [1,3],
 a 1 1 8 [],
 l 8 9 [5],
 C .add 9 1 10 [6],
 b .mul 7 10 11 [4,7],
 C .quo 11 2 12 [8],
 m 12 2 (k [9] 9)]
def d33:DC:=(j (y D6) (j (y D7) .ret))
def ajX:List cV:=[.iZ 2]
def c33 [bh]:av Tryd.prog 62 13 d33 ajX:=av.of Tryd.f62 (by kernel_rfl)
def D8:ah:=[
 B 0 4,
 I 0 8]
def D9:ah:=[
 n 2 10,
 a 1 4 11 [],
 l 11 12 [1],
 b .mul 10 12 13 [0,2],
 n 2 14,
 n 2 15,
 C .sub 15 1 16 [5],
 b .mul 14 16 17 [4,6],
 C .quo 17 2 18 [7],
 b .sub 13 18 19 [3,8],
 m 19 9 (k [9] 9)]
def Ea:ah:=[
 n 9 20,
 n 3 21,
 b .add 20 21 22 [0,1],
 n 2 23,
 b .sub 22 23 24 [2,3],
 a 0 4 25 [],
 l 25 26 [5],
 b .mul 24 26 27 [4,6],
 n 1 28,
 b .add 27 28 29 [7,8],
 m 29 8 (k [9] 9)]
def d37:DC:=(j (y D8) (j (y D9) (j (y Ea) .ret)))
def aoY:List cV:=[.iZ 8]
def c37 [bh]:av Tryd.prog 66 30 d37 aoY:=av.of Tryd.f66 (by kernel_rfl)
def YB:ah:=[
 B 0 3,
 B 1 4,
 B 2 5,
 I 0 6,
 o (.jS (.eD (.v (.bool false)))) 7 [3]]
def YC:ah:=[
 a 0 5 8 [],
 l 8 9 [0],
 C .lss 9 0 10 [1],
 m 10 11 [2],
 u 0 5 12 11 false [3],
 v 12 13 11 false [4,3],
 u 1 3 14 11 false [3],
 v 14 15 11 false [6,3],
 D .geq 13 15 16 11 false [5,7,3],
 p 11 16 17 [3,8],
 m 17 18 [9,3],
 u 1 5 19 18 false [10],
 v 19 20 18 false [11,10],
 E .lss 20 0 21 18 false [12,10],
 p 18 21 22 [10,13],
 m 22 23 [14,10],
 u 2 5 24 23 false [15],
 v 24 25 23 false [16,15],
 u 1 5 26 23 false [15],
 v 26 27 23 false [18,15],
 D .lss 25 27 28 23 false [17,19,15],
 p 23 28 29 [15,20],
 m 29 30 [21,15],
 u 2 5 31 30 false [22],
 v 31 32 30 false [23,22],
 u 0 4 33 30 false [22],
 v 33 34 30 false [25,22],
 D .geq 32 34 35 30 false [24,26,22],
 p 30 35 36 [22,27]]
def Re:ah:=[
 I 0 6,
 o (.jS (.eD (.v (.bool false)))) 7 [0,0]]
def YD:ah:=[
 L 4 3 37 [],
 L 3 4 38 [],
 o (.call 61 [(t 37),(t 38)]) 39 [0,1],
 a 0 5 40 [],
 l 40 41 [3],
 a 1 5 42 [],
 l 42 43 [5],
 a 2 5 44 [],
 l 44 45 [7],
 o (.call 66 [(t 39),(t 41),(t 43),(t 45)]) 46 [2,4,6,8,2],
 m 46 6 (k [9,9] 9),
 o (.jS (.eD (.v (.bool true)))) 7 (k [10] 10)]
def d15:DC:=(j (y YB) (j (j (y YC) (.cond (.tmp 36) (j (y Re) .ret) .skip)) (j (Y YD) .ret)))
def Bn:List cV:=[.iZ 6,.iZ 7]
def c15 [bh]:av Tryd.prog 59 47 d15 Bn:=av.of Tryd.f59 (by kernel_rfl)
def apr:ah:=[
 B 0 2,
 B 1 3,
 I 0 4]
def aps:ah:=[
 a 0 3 5 [],
 l 5 6 [0],
 a 0 3 7 [],
 l 7 8 [2],
 C .add 8 1 9 [3],
 b .mul 6 9 10 [1,4],
 C .quo 10 2 11 [5],
 a 1 2 12 [],
 l 12 13 [7],
 b .mul 11 13 14 [6,8],
 C .add 14 1 15 [9],
 m 15 4 (k [10] 10)]
def d39:DC:=(j (y apr) (j (y aps) .ret))
def c39 [bh]:av Tryd.prog 36 16 d39 (ci 4):=av.of Tryd.f36 (by kernel_rfl)
def amF:ah:=[
 B 0 4,
 B 1 5,
 I 0 8]
def amG:ah:=[
 I 0 9]
def amH:ah:=[
 I 0 10]
def amI:ah:=[
 n 10 11,
 n 2 12,
 b .lss 11 12 13 [0,1]]
def amJ:ah:=[
 n 9 16,
 a 0 5 17 [],
 l 17 18 [1],
 b .add 16 18 19 [0,2],
 n 10 20,
 b .sub 19 20 21 [3,4],
 m 21 9 (k [5] 5)]
def amK:ah:=[
 n 10 14,
 C .add 14 1 15 [0],
 m 15 10 [1,0,1]]
def amL:ah:=[
 n 9 22,
 n 3 23,
 b .add 22 23 24 [0,1],
 n 2 25,
 b .sub 24 25 26 [2,3],
 a 1 4 27 [],
 l 27 28 [5],
 b .mul 26 28 29 [4,6],
 m 29 8 (k [7] 7)]
def d40:DC:=(j (y amF) (j (y amG) (j (j (y amH) (.block 0 (.loop (j (j (y amI) (.cond (.tmp 13) .skip (.exit 0))) (j (.block 1 (y amJ)) (y amK)))))) (j (y amL) .ret))))
def c40 [bh]:av Tryd.prog 69 30 d40 (ci 8):=av.of Tryd.f69 (by kernel_rfl)
def amM:ah:=[
 B 0 3,
 B 1 4,
 B 2 5,
 I 0 6,
 o (.jS (.eD (.v (.bool false)))) 7 [3]]
def amN:ah:=[
 a 0 5 8 [],
 l 8 9 [0],
 C .lss 9 0 10 [1],
 m 10 11 [2],
 u 0 5 12 11 false [3],
 v 12 13 11 false [4,3],
 u 1 3 14 11 false [3],
 v 14 15 11 false [6,3],
 D .geq 13 15 16 11 false [5,7,3],
 p 11 16 17 [3,8],
 m 17 18 [9,3],
 u 1 5 19 18 false [10],
 v 19 20 18 false [11,10],
 E .lss 20 0 21 18 false [12,10],
 p 18 21 22 [10,13],
 m 22 23 [14,10],
 u 2 5 24 23 false [15],
 v 24 25 23 false [16,15],
 u 1 5 26 23 false [15],
 v 26 27 23 false [18,15],
 D .lss 25 27 28 23 false [17,19,15],
 p 23 28 29 [15,20],
 m 29 30 [21,15],
 u 2 5 31 30 false [22],
 v 31 32 30 false [23,22],
 u 0 4 33 30 false [22],
 v 33 34 30 false [25,22],
 D .geq 32 34 35 30 false [24,26,22],
 p 30 35 36 [22,27]]
def ar9:ah:=[
 I 0 6,
 o (.jS (.eD (.v (.bool false)))) 7 [0,0]]
def amO:ah:=[
 L 4 3 37 [],
 L 3 4 38 [],
 a 1 5 39 [],
 l 39 40 [2],
 a 2 5 41 [],
 l 41 42 [4],
 o (.call 69 [(t 37),(t 38),(t 40),(t 42)]) 43 [0,1,3,5],
 a 0 5 44 [],
 l 44 45 [7],
 b .add 43 45 46 [6,8],
 m 46 6 (k [9,6] 9),
 o (.jS (.eD (.v (.bool true)))) 7 (k [10] 10)]
def d18:DC:=(j (y amM) (j (j (y amN) (.cond (.tmp 36) (j (y ar9) .ret) .skip)) (j (Y amO) .ret)))
def apj:List cV:=[.iZ 6,.iZ 7]
def c18 [bh]:av Tryd.prog 30 47 d18 apj:=av.of Tryd.f30 (by kernel_rfl)
def Rg:ah:=[
 B 0 3,
 B 1 4,
 o (.alloc [V 0,V 0,V 0]) 6 [],
 F 7]
def Rh:ah:=[
 n 2 10,
 C .lss 10 0 11 [0],
 m 11 12 [1],
 w 2 13 12 false [2],
 g (.load 4 true (t 3)) 14 12 false [2],
 g (.load 3 true (t 4)) 15 12 false [2],
 g (.call 61 [(t 14),(t 15)]) 16 12 false [4,5,2,2],
 g (.call 62 [(t 16)]) 17 12 false [6,6,2],
 D .geq 13 17 18 12 false [3,7,2],
 p 12 18 19 [2,8]]
def YO:ah:=[
 o (.build [V 0,V 0,V 0] []) 20 [],
 S 3 6 20 [0,0],
 o (.jS (.eD (.v (.bool false)))) 7 [1,0,1]]
def YP:ah:=[
 n 2 21,
 a 1 3 22 [],
 l 22 23 [1],
 b .quo 21 23 24 [0,2],
 m 24 8 [3,0,1,2,3]]
def YQ:ah:=[
 I 0 9]
def YR:ah:=[
 n 8 25,
 a 0 4 26 [],
 l 26 27 [1],
 n 9 28,
 b .sub 27 28 29 [2,3],
 b .geq 25 29 30 [0,4]]
def YS:ah:=[
 n 8 31,
 a 0 4 32 [],
 l 32 33 [1],
 n 9 34,
 b .sub 33 34 35 [2,3],
 b .sub 31 35 36 [0,4],
 m 36 8 (k [5] 5)]
def YT:ah:=[
 n 9 37,
 C .add 37 1 38 [0],
 m 38 9 [1,0,1]]
def YU:ah:=[
 n 2 39,
 a 1 3 40 [],
 l 40 41 [1],
 b .rem 39 41 42 [0,2],
 n 9 43,
 n 9 44,
 n 8 45,
 b .add 44 45 46 [5,6],
 o (.build [V 0,V 0,V 0] [(0,1,(t 42)),(1,1,(t 43)),(2,1,(t 46))]) 47 [3,4,7],
 S 3 6 47 (k [8] 8),
 o (.jS (.eD (.v (.bool true)))) 7 (k [9] 9)]
def d16:DC:=(j (y Rg) (j (j (y Rh) (.cond (.tmp 19) (j (y YO) .ret) .skip)) (j (y YP) (j (y YQ) (j (.block 0 (.loop (j (j (y YR) (.cond (.tmp 30) .skip (.exit 0))) (.block 1 (j (y YS) (y YT)))))) (j (y YU) .ret))))))
def GL:List cV:=[.cell 6 3 true,.iZ 7]
def c16 [bh]:av Tryd.prog 67 48 d16 GL:=av.of Tryd.f67 (by kernel_rfl)
def Ed:ah:=[
 B 0 1,
 F 2]
def Ee:ah:=[
 a 1 1 3 [],
 l 3 4 [0],
 C .leq 4 14 5 [1],
 m 5 6 [2],
 u 3 1 7 6 true [3],
 v 7 8 6 true [4,3],
 H 8 9 6 true [5,3],
 E .leq 9 24 10 6 true [6,3],
 q 6 10 11 [3,7],
 m 11 12 [8,3],
 u 0 1 13 12 true [9],
 v 13 14 12 true [10,9],
 E .leq 14 6 15 12 true [11,9],
 q 12 15 16 [9,12],
 m 16 17 [13,9],
 g (.load 4 true (t 1)) 18 17 true [14],
 g (.call 75 [(t 18)]) 19 17 true [15,14,14],
 q 17 19 20 [14,16],
 m 20 2 (k [17,16] 17)]
def d30:DC:=(j (y Ed) (j (y Ee) .ret))
def ajZ:List cV:=[.iZ 2]
def c30 [bh]:av Tryd.prog 43 21 d30 ajZ:=av.of Tryd.f43 (by kernel_rfl)
def Da:ah:=[
 B 0 1,
 F 2]
def Db:ah:=[
 a 0 1 6 [],
 l 6 7 [0],
 C .lss 7 0 8 [1],
 m 8 9 [2],
 u 0 1 10 9 false [3],
 v 10 11 9 false [4,3],
 E .gtr 11 120 12 9 false [5,3],
 p 9 12 13 [3,6],
 m 13 14 [7,3],
 u 1 1 15 14 false [8],
 v 15 16 14 false [9,8],
 E .lss 16 1 17 14 false [10,8],
 p 14 17 18 [8,11],
 m 18 19 [12,8],
 u 1 1 20 19 false [13],
 v 20 21 19 false [14,13],
 E .gtr 21 1000 22 19 false [15,13],
 p 19 22 23 [13,16],
 m 23 24 [17,13],
 u 2 1 25 24 false [18],
 v 25 26 24 false [19,18],
 E .lss 26 0 27 24 false [20,18],
 p 24 27 28 [18,21],
 m 28 29 [22,18],
 u 2 1 30 29 false [23],
 v 30 31 29 false [24,23],
 u 1 1 32 29 false [23],
 v 32 33 29 false [26,23],
 D .geq 31 33 34 29 false [25,27,23],
 p 29 34 35 [23,28],
 m 35 36 [29,23],
 u 3 1 37 36 false [30],
 v 37 38 36 false [31,30],
 H 38 39 36 false [32,30],
 E .gtr 39 600 40 36 false [33,30],
 p 36 40 41 [30,34]]
def Dd:ah:=[
 F 2]
def De:ah:=[
 I 0 3]
def Df:ah:=[
 n 3 42,
 a 3 1 43 [],
 l 43 44 [1],
 N 44 45 [2],
 b .lss 42 45 46 [0,3]]
def xp:ah:=[
 a 3 1 49 [],
 l 49 50 [0],
 n 3 51,
 x 6 50 51 52 [1,2],
 L 6 52 53 [3],
 o (.alloc [V 0,V 0,V 0,V 0,V 0,V 0]) 4 [],
 S 6 4 53 (k [5,4] 5)]
def Dg:ah:=[
 a 1 4 54 [],
 l 54 55 [0],
 C .lss 55 0 56 [1],
 m 56 57 [2],
 u 1 4 58 57 false [3],
 v 58 59 57 false [4,3],
 u 1 1 60 57 false [3],
 v 60 61 57 false [6,3],
 D .geq 59 61 62 57 false [5,7,3],
 p 57 62 63 [3,8],
 m 63 64 [9,3],
 u 4 4 65 64 false [10],
 v 65 66 64 false [11,10],
 E .lss 66 0 67 64 false [12,10],
 p 64 67 68 [10,13],
 m 68 69 [14,10],
 u 4 4 70 69 false [15],
 v 70 71 69 false [16,15],
 E .gtr 71 1000 72 69 false [17,15],
 p 69 72 73 [15,18],
 m 73 74 [19,15],
 u 5 4 75 74 false [20],
 v 75 76 74 false [21,20],
 E .lss 76 (-1) 77 74 false [22,20],
 p 74 77 78 [20,23]]
def Dh:ah:=[
 F 2]
def Di:ah:=[
 F 5]
def YV:ah:=[
 a 0 4 79 [],
 l 79 80 [0]]
def Ri:ah:=[
 C .eql 80 1 82 [],
 m 82 81 [0]]
def Rj:ah:=[
 a 2 4 83 [],
 l 83 84 [0],
 C .eql 84 0 85 [1],
 m 85 86 [2],
 u 3 4 87 86 true [3],
 v 87 88 86 true [4,3],
 E .eql 88 0 89 86 true [5,3],
 q 86 89 90 [3,6],
 m 90 5 (k [7,3] 7)]
def Rk:ah:=[
 C .eql 80 2 92 [],
 m 92 91 [0]]
def Rl:ah:=[
 a 2 4 93 [],
 l 93 94 [0],
 C .geq 94 0 95 [1],
 m 95 96 [2],
 u 2 4 97 96 true [3],
 v 97 98 96 true [4,3],
 u 0 1 99 96 true [3],
 v 99 100 96 true [6,3],
 D .lss 98 100 101 96 true [5,7,3],
 q 96 101 102 [3,8],
 m 102 103 [9,3],
 u 3 4 104 103 true [10],
 v 104 105 103 true [11,10],
 E .eql 105 0 106 103 true [12,10],
 q 103 106 107 [10,13],
 m 107 5 (k [14,10] 14)]
def Rm:ah:=[
 C .eql 80 3 109 [],
 m 109 108 [0]]
def Rn:ah:=[
 a 2 4 110 [],
 l 110 111 [0],
 C .geq 111 0 112 [1],
 m 112 113 [2],
 u 2 4 114 113 true [3],
 v 114 115 113 true [4,3],
 u 1 1 116 113 true [3],
 v 116 117 113 true [6,3],
 D .lss 115 117 118 113 true [5,7,3],
 q 113 118 119 [3,8],
 m 119 120 [9,3],
 u 3 4 121 120 true [10],
 v 121 122 120 true [11,10],
 E .eql 122 0 123 120 true [12,10],
 q 120 123 124 [10,13],
 m 124 5 (k [14,10] 14)]
def Rp:ah:=[
 C .eql 80 4 126 [],
 m 126 125 [0]]
def Rq:ah:=[
 a 2 4 127 [],
 l 127 128 [0],
 C .geq 128 0 129 [1],
 m 129 130 [2],
 u 2 4 131 130 true [3],
 v 131 132 130 true [4,3],
 u 1 1 133 130 true [3],
 v 133 134 130 true [6,3],
 D .lss 132 134 135 130 true [5,7,3],
 q 130 135 136 [3,8],
 m 136 137 [9,3],
 u 3 4 138 137 true [10],
 v 138 139 137 true [11,10],
 E .geq 139 0 140 137 true [12,10],
 q 137 140 141 [10,13],
 m 141 142 [14,10],
 u 3 4 143 142 true [15],
 v 143 144 142 true [16,15],
 u 1 1 145 142 true [15],
 v 145 146 142 true [18,15],
 D .lss 144 146 147 142 true [17,19,15],
 q 142 147 148 [15,20],
 m 148 5 (k [21,15] 21)]
def Rr:ah:=[
 n 5 149,
 U 149 150 [0]]
def Rs:ah:=[
 F 2]
def Rt:ah:=[
 n 3 47,
 C .add 47 1 48 [0],
 m 48 3 [1,0,1]]
def Ru:ah:=[
 R 2]
def d44:DC:=(j (y Da) (j (j (y Db) (.cond (.tmp 41) (j (y Dd) .ret) .skip)) (j (j (y De) (.block 0 (.loop (j (j (y Df) (.cond (.tmp 46) .skip (.exit 0))) (j (.block 1 (j (y xp) (j (j (y Dg) (.cond (.tmp 78) (j (y Dh) .ret) .skip)) (j (y Di) (j (j (y YV) (.block 2 (j (y Ri) (.cond (.tmp 81) (y Rj) (j (y Rk) (.cond (.tmp 91) (y Rl) (j (y Rm) (.cond (.tmp 108) (y Rn) (j (y Rp) (.cond (.tmp 125) (y Rq) .skip)))))))))) (j (y Rr) (.cond (.tmp 150) (j (y Rs) .ret) .skip))))))) (y Rt)))))) (j (y Ru) .ret))))
def aa2:List cV:=[.iZ 2]
def c44 [bh]:av Tryd.prog 75 151 d44 aa2:=av.of Tryd.f75 (by kernel_rfl)
end It
end Go.Proofs
namespace Go.Proofs.It
open Go.DM
structure bU where
 (kind head a b cA origin:Int)
structure aA where
 (aK ae start:Int)
 ak:List bU
structure Edge where
 head:Int
 dv:b8
 (aG l0 l1:Int)
 deriving DecidableEq
def bU.enc(r:bU):ar:=[ti r.kind,ti r.head,ti r.a,ti r.b,ti r.cA,ti r.origin]
def aU(l:List bU):List (ar):=l.map bU.enc
def aA.enc(n:aA):T:=.agg [ti n.aK,ti n.ae,ti n.start,.sl (aU n.ak)]
def Edge.enc(e:Edge):ar:=[ti e.head,.sl (aw e.dv),ti e.aG,ti e.l0,ti e.l1]
def bw(l:List Edge):List (ar):=l.map Edge.enc
def t32{Γ:gP}(am:au Tryd.prog Γ)(n:aA)(l:aM):aI Tryd.prog 61 [n.enc,l.enc] (.agg [ti n.ae,ti l.aj]):=by
 refine c32.ok (by simp) (aC ?_);simp[aA.enc,aM.enc];apply aa.ag am fw [2,3,4];simp[Yz];apply aa.ag am fw [4];simp[YA];apply aa.ret;simp[Rd]
def pre(st:Int):Nat->Int
 |0=>0
 |n+1=>pre st n+st-n
def kJ{st:Int}(h:st<=1000):∀n:Nat,(n:Int)<=st->0<=pre st n/\pre st n<=1000*n
 |0,_=>by simp[pre]
 |n+1,hn=>by
  have:=kJ h n (by omega);simp only[pre];omega
def t40{Γ:gP}(am:au Tryd.prog Γ)(n:aA)(l:aM)(f t:Int)(h1:l.aj<=1000)(h2:0<=f)(h3:f<=t)(h4:t<l.aj)(h5:0<=n.ae)(h6:n.ae<=1000):
  aI Tryd.prog 69 [n.enc,l.enc,ti f,ti t] (ti ((pre l.aj f.toNat+t-f)*n.ae)):=by
 refine c40.ok (by simp) (aC ?_);simp[aA.enc,aM.enc];apply aa.ag am fw [2,3,4,5,8];simp[amF];apply aa.ag am fw [2,3,4,5,9];simp[amG];apply aa.sq am fw [2,3,4,5,9,10];simp[amH];apply aa.block;refine aa.loop (λy:Nat=>⟨DM.look [(2,.v (ti f)),(3,.v (ti t)),(4,.ptr 1005 0),(5,.ptr 1006 0),(9,.v (ti (pre l.aj y))),(10,.v (ti y))],cC [(1006,.box [.v (ti l.aj),.v (.sl (aV l.aL)),.v (.sl (aw l.bK))]),(1005,.box [.v (ti n.aK),.v (ti n.ae),.v (ti n.start),.v (.sl (aU n.ak))])],2000,1000,[]⟩)
  (λy=>(y:Int)<=f) (λy=>f.toNat-y) 0 (Le.aD ?_ ?_ ?_ ?_) (by simpa using h2) (λy hy=>?_)
 iterate 3(·simp)
 ·simp[pre]
 have hb:=kJ h1 y (by omega);apply aa.seq;apply aa.seq;apply aa.cX am fw [2,3,4,5,9,10,13];simp[amI];refine aa.cond (by simp;rfl) (λh=>?_) (λh=>?_)
 ·apply aa.skip;simp at h;simp;apply aa.seq;apply aa.block;apply aa.cX am fw [2,3,4,5,9,10];simp[amJ];apply aa.cX am fw [2,3,4,5,9,10];simp[amK];refine⟨y+1,Le.aD ?_ ?_ ?_ ?_, ?_, ?_⟩;iterate 3(·simp)
  ·simp[pre];simp (disch:=omega) only[aq];exact⟨trivial,trivial⟩
  ·omega
  ·omega
 ·apply aa.exit;simp at h;simp;have hyf:(y:Int)=f:=by omega
  apply aa.ag am fw [8];simp[amL];apply aa.ret;simp[ci];have eG:f.toNat=y:=by omega
  have hm:0<=(pre l.aj y+t-f)*n.ae/\(pre l.aj y+t-f)*n.ae<=2000000*1000:=by
   have h7:0<=pre l.aj y+t-f:=by omega
   have h8:pre l.aj y+t-f<=2000000:=by omega
   exact⟨Zdk h7 h5,Int.mul_le_mul h8 h6 h5 (by omega)⟩
  rw[eG];simp (disch:=omega) only[aq]
def L6:ar->T
 |[.agg [_,nt,_,_],.agg [st,_,_]]=>.agg [nt,st]
 |_=>.bool false
def Py(ts:ar):Prop:=∃(n:aA) (l:aM),ts=[n.enc,l.enc]
def qI:DM.Spec:=bp Py L6 true
def sm(nt st:Int):Prop:=0<=nt/\nt<=1000/\0<=st/\st<=1000
def da(nt st:Int):Int:=nt*st*(st+1)/2
def fo(nt st h f t:Int):Int:=(f*st-f*(f-1)/2+t-f)*nt+h
def Pz:ar->T
 |[.agg [.int _ nt,.int _ st]]=>ti (da nt st)
 |_=>.bool false
def Dy:ar->Prop
 |[.agg [.int .i64 nt,.int .i64 st]]=>sm nt st
 |_=>False
def tD:DM.Spec:=bp Dy Pz true
def L7:ar->T
 |[.agg [.int _ nt,.int _ st],.int _ h,.int _ f,.int _ t]=>ti (fo nt st h f t)
 |_=>.bool false
def Dz:ar->Prop
 |[.agg [.int .i64 nt,.int .i64 st],.int .i64 h,.int .i64 f,.int .i64 t]=>sm nt st/\0<=h/\h<=1000/\0<=f/\f<=1000/\0<=t/\t<=1000
 |_=>False
def oY:DM.Spec:=bp Dz L7 true
def eA{a b m n:Int}(h1:0<=a)(h2:a<=m)(h3:0<=b)(h4:b<=n):0<=a*b/\a*b<=m*n:=
 ⟨Zdk h1 h3,Int.mul_le_mul h2 h4 h3 (by omega)⟩
def t33{Γ:gP}(am:au Tryd.prog Γ)(nt st:Int)(h:sm nt st):aI Tryd.prog 62 [.agg [ti nt,ti st]] (ti (da nt st)):=by
 obtain⟨h1,h2,h3,h4⟩:=h;have b1:=eA h1 h2 h3 h4;have b2:=eA b1.1 b1.2 (b:=st+1) (n:=1001) (by omega) (by omega);refine c33.ok (by simp) (aC ?_);simp;apply aa.ag am fw [1];simp[D6];apply aa.ag am fw [2];simp[D7];apply aa.ret;simp[ajX,da];simp (disch:=omega) only[aq];rw[Fw b2.1,aq (by omega)]
def t37{Γ:gP}(am:au Tryd.prog Γ)(nt st hd f t:Int)(h:sm nt st)(k:0<=hd/\hd<=1000/\0<=f/\f<=1000/\0<=t/\t<=1000):aI Tryd.prog 66 [.agg [ti nt,ti st],ti hd,ti f,ti t] (ti (fo nt st hd f t)):=by
 obtain⟨h1,h2,h3,h4⟩:=h;obtain⟨k1,k2,k3,k4,k5,k6⟩:=k;have b1:=eA k3 k4 h3 h4;have b2:0<=f*(f-1)/\f*(f-1)<=1000000:=by
  by_cases hf:f=0
  ·subst hf;simp
  ·have:=eA k3 k4 (b:=f-1) (n:=1000) (by omega) (by omega);omega
 have b3: -10000000*1000<=(f*st-f*(f-1)/2+t-f)*nt/\(f*st-f*(f-1)/2+t-f)*nt<=20000000*1000:=by
  have e1: -10000000<=f*st-f*(f-1)/2+t-f/\f*st-f*(f-1)/2+t-f<=10000000:=by omega
  generalize f*st-f*(f-1)/2+t-f=x at e1;have g1:=eA (a:=x+10000000) (m:=20000000) (b:=nt) (n:=1000) (by omega) (by omega) h1 h2;have g2:(x+10000000)*nt=x*nt+10000000*nt:=Zdf ..;omega
 refine c37.ok (by simp) (aC ?_);simp;apply aa.ag am fw [1,2,3,4];simp[D8];apply aa.ag am fw [1,2,3,4,9];simp[D9];apply aa.ag am fw [8];simp[Ea];apply aa.ret;simp[aoY,fo];simp (disch:=omega) only[aq];rw[Fw b2.1];simp (disch:=omega) only[aq]
def JQ:gP:=bG [(61,qI),(62,tD),(66,oY)]
def IZ:au Tryd.prog JQ:=by
 refine au.cons (au.cons (au.cons au.nil ?_) ?_) ?_
 ·intro ts h
  match ts,h with
  |[.agg [.int .i64 nt,.int .i64 st],.int .i64 h,.int .i64 f,.int .i64 t],h1=>exact⟨t37 au.nil nt st h f t h1.1 h1.2,λ_=>rfl⟩
 ·intro ts h
  match ts,h with
  |[.agg [.int .i64 nt,.int .i64 st]],h1=>exact⟨t33 au.nil nt st h1,λ_=>rfl⟩
 ·rintro ts ⟨n,l,rfl⟩;exact⟨t32 au.nil n l,λ_=>rfl⟩
def bl(nt st h f t:Int):Prop:=¬(h<0\/nt<=h\/f<0\/t<f\/st<=t)
instance(nt st h f t:Int):Decidable (bl nt st h f t):=by unfold bl;infer_instance
def t15(n:aA)(l:aM)(h f t:Int)(hs:sm n.ae l.aj):aI Tryd.prog 59 [n.enc,l.enc,.agg [ti h,ti f,ti t]]
  (if bl n.ae l.aj h f t then .dh [ti (fo n.ae l.aj h f t),.bool true]else .dh [ti 0,.bool false]):=by
 have am:=IZ;refine c15.ok (by simp) (aC ?_);simp[aA.enc,aM.enc];apply aa.ag am fw [3,4,5];simp[YB];apply aa.sq am fw [3,4,5,36];simp[YC];repeat' (first|apply And.intro|intro _)
 all_goals try (
  refine aa.cond (by simp;rfl) (λ_=>?_) (λh=>by cases h);apply aa.ag am fw [6,7];simp[Re];apply aa.ret;have hn:¬bl n.ae l.aj h f t:=by unfold bl;omega
  simp[Bn,hn]
  done)
 rename_i a1 a2 a3 a4;refine aa.cond (by simp;rfl) (λhc=>?_) (λhc=>?_)
 ·simp at hc;have hn:¬bl n.ae l.aj h f t:=by unfold bl;omega
  apply aa.ag am fw [6,7];simp[Re];apply aa.ret;simp[Bn,hn]
 ·simp at hc;have hn:bl n.ae l.aj h f t:=by unfold bl;omega
  obtain⟨h1,h2,h3,h4⟩:=hs;apply aa.skip;simp;apply aa.ag am fw [6,7];simp[YD,JQ,qI,oY,L6,L7,Dz];refine⟨⟨n,l,rfl⟩,⟨⟨h1,h2,h3,h4⟩,by omega⟩, ?_⟩;apply aa.ret;simp[Bn,hn]
section
variable{st nt h f:Int}
def Rw{st:Int}{a:Nat}:∀b:Nat,a<=b->(b:Int)<=st->pre st a<=pre st b
 |0,h,_=>by
  have:a=0:=by omega
  subst this;exact V2 _
 |b+1,h,hb=>by
  by_cases e:a=b+1
  ·subst e;exact V2 _
  ·have:=Rw (st:=st) (a:=a) b (by omega) (by omega);simp only[pre];omega
def GO{a b:Nat}(h:a<b)(hb:(b:Int)<=st):pre st a+st-a<=pre st b:=by
 have:=Rw (st:=st) (a:=a+1) b h hb;simpa [pre]using this
def ny(st:Int):∀n:Nat,2*pre st n=2*(n*st)-n*(n-1)
 |0=>by simp[pre]
 |n+1=>by
  have ih:=ny st n;simp only[pre];have e1:((n+1:Nat):Int)*st=n*st+st:=by rw[Int.natCast_add,Zdf];simp
  have e2:((n+1:Nat):Int)*(((n+1:Nat):Int)-1)=n*(n-1)+2*n:=by
   have:((n+1:Nat):Int)-1=n:=by omega
   rw[this,Int.natCast_add,Zdf,Int.mul_sub];simp;omega
  rw[e1,e2];omega
def cM(st f t:Int):Int:=pre st f.toNat+t-f
def nw{t:Int}(hf:0<=f):fo nt st h f t=cM st f t*nt+h:=by
 have:=ny st f.toNat;have e:(f.toNat:Int)=f:=by omega
 rw[e]at this;unfold fo cM;have:f*st-f*(f-1)/2=pre st f.toNat:=by omega
 rw[this]
def sj(hs:0<=st):da nt st=pre st st.toNat*nt:=by
 have:=ny st st.toNat;have e:(st.toNat:Int)=st:=by omega
 rw[e]at this;unfold da;have h2:st*(st+1)=2*pre st st.toNat:=by
  rw[Int.mul_add,Zdg];rw[Int.mul_sub,Zdg]at this;omega
 rw[Int.mul_assoc,h2,<-Int.mul_assoc,Sg nt 2,Int.mul_assoc,Int.mul_ediv_cancel_left _ (by omega),Sg]
def xB{t:Int}(h1:st<=1000)(hf:0<=f)(Q8:f<=t)(ht:t<st):0<=cM st f t/\cM st f t<pre st st.toNat/\pre st st.toNat<=1000000:=by
 have b:=kJ h1 f.toNat (by omega);have b2:=kJ h1 st.toNat (by omega);have l:=GO (st:=st) (a:=f.toNat) (b:=st.toNat) (by omega) (by omega);unfold cM;omega
def Hv{t s u:Int}(hs:0<=s)(hf:s<f)(Ra:f<=st)(Q8:f<=t)(hu:u<st):cM st s u<cM st f t:=by
 have l:=GO (st:=st) (a:=s.toNat) (b:=f.toNat) (by omega) (by omega);unfold cM;omega
def Fk{x:Int}(h1:0<=h)(h2:h<nt):(x*nt+h)/nt=x/\(x*nt+h) % nt=h:=by
 rw[Int.ediv_emod_unique (by omega)];exact⟨by rw[Sg nt x];omega,h1,h2⟩
def TZ{i:Int}(h:sm nt st)(hi:0<=i)(hg:i<da nt st):∃hd f t,bl nt st hd f t/\i=cM st f t*nt+hd:=by
 obtain⟨h1,h2,h3,h4⟩:=h;rw[sj h3]at hg;have TT:0<nt:=by
  by_cases e:nt=0
  ·subst e;simp at hg;omega
  ·omega
 have hd:i/nt*nt+i % nt=i:=by rw[Sg];exact Int.mul_ediv_add_emod i nt
 have hm:=Int.emod_nonneg i (show nt≠0 by omega);have Ud:=Int.emod_lt_of_pos i TT;have hq:0<=i/nt:=Int.ediv_nonneg hi h1;have QS:i/nt<pre st st.toNat:=Int.ediv_lt_of_lt_mul TT hg;have key:∀n:Nat,(n:Int)<=st->∀q,0<=q->q<pre st n->∃f t,0<=f/\f<=t/\t<st/\q=cM st f t:=by
  intro n;induction n with
  |zero=>intro _ q h0 hq;simp[pre]at hq;omega
  |succ n ih=>
   intro hn q h0 hq;by_cases dR:q<pre st n
   ·exact ih (by omega) q h0 dR
   ·refine⟨n,q-pre st n+n,by omega,by omega, ?_, ?_⟩
    ·simp only[pre]at hq;omega
    ·simp[cM];omega
 obtain⟨f,t,k1,k2,k3,k4⟩:=key st.toNat (by omega) (i/nt) hq QS;refine⟨i % nt,f,t, ?_,by rw[<-k4];exact hd.symm⟩;unfold bl;omega
def jK(h:sm nt st):0<=da nt st/\da nt st<=1000000000:=by
 obtain⟨h1,h2,h3,h4⟩:=h;rw[sj h3];have b:=kJ h4 st.toNat (by omega);have:=eA (a:=pre st st.toNat) (m:=1000000) b.1 (by omega) h1 h2;omega
def i5{hd t:Int}(h:sm nt st)(hi:bl nt st hd f t):0<=cM st f t*nt+hd/\cM st f t*nt+hd<da nt st:=by
 obtain⟨h1,h2,h3,h4⟩:=h;unfold bl at hi;rw[sj h3];have b:=xB (st:=st) (f:=f) (t:=t) h4 (by omega) (by omega) (by omega);have g1:=Zdk b.1 h1;have g2:(cM st f t+1)*nt<=pre st st.toNat*nt:=Int.mul_le_mul_of_nonneg_right (by omega) h1;rw[Zdf]at g2;omega
def aha(n:aA)(l:aM)(h f t:Int)(hs:sm n.ae l.aj)(hi:bl n.ae l.aj h f t):
  aI Tryd.prog 67 [n.enc,l.enc,ti (cM l.aj f t*n.ae+h)] (.dh [.agg [ti h,ti f,ti t],.bool true]):=by
 have am:=IZ;have hr:=i5 hs hi;have hgb:=jK hs;have vG:=hi;unfold bl at vG;have Ec:=hs;obtain⟨h1,h2,h3,h4⟩:=Ec;have hdm:=Fk (x:=cM l.aj f t) (nt:=n.ae) (h:=h) (by omega) (by omega);have Mw:=xB (st:=l.aj) (f:=f) (t:=t) h4 (by omega) (by omega) (by omega);generalize hii:cM l.aj f t*n.ae+h=i at*
 refine c16.ok (by simp) (aC ?_);simp[aA.enc,aM.enc];apply aa.ag am fw [2,3,4,6];simp[Rg];apply aa.sq am fw [2,3,4,6,19];simp[Rh,JQ,qI,tD,L6,Pz,Dy];refine⟨λ_=>⟨⟨n,l,rfl⟩,hs, ?_⟩,λhc=>by omega⟩;refine aa.cond (by simp;rfl) (λhc=>?_) (λhc=>?_)
 ·simp at hc;omega
 ·apply aa.skip;simp;apply aa.ag am fw [2,3,4,6,8];simp[YP];refine⟨by omega, ?_⟩;rw[Fw hr.1,hdm.1,aq (by omega)];apply aa.ag am fw [2,3,4,6,8,9];simp[YQ];apply aa.seq;apply aa.block;refine aa.loop (λy:Nat=>⟨DM.look [(2,.v (ti i)),(3,.ptr 1004 0),(4,.ptr 1005 0),(6,.ptr 1007 0),(8,.v (ti (cM l.aj f t-pre l.aj y))),(9,.v (ti y))],
    cC [(1007,.box [.v (ti 0),.v (ti 0),.v (ti 0)]),(1005,.box [.v (ti l.aj),.v (.sl (aV l.aL)),.v (.sl (aw l.bK))]),(1004,.box [.v (ti n.aK),.v (ti n.ae),.v (ti n.start),.v (.sl (aU n.ak))])],2000,1000,[]⟩)
   (λy=>(y:Int)<=f) (λy=>f.toNat-y) 0 (Le.aD ?_ ?_ ?_ ?_) (by simp;omega) (λy hy=>?_)
  iterate 3(·simp)
  ·simp[pre]
  have hb:=kJ h4 y (by omega);have hsf:y<f.toNat->pre l.aj y+l.aj-y<=pre l.aj f.toNat:=λe=>GO e (by omega);have Ip:cM l.aj f t=pre l.aj f.toNat+t-f:=rfl;apply aa.sq am fw [2,3,4,6,8,9,30];simp[YR];rw[aq (x:=l.aj-(y:Int)) (by omega)];refine aa.cond (by simp;rfl) (λhc=>?_) (λhc=>?_)
  ·apply aa.skip;simp at hc;simp;have dR:y<f.toNat:=by
    by_cases e:y=f.toNat
    ·subst e;omega
    ·omega
   apply aa.block;apply aa.ag am fw [2,3,4,6,8,9];simp[YS];apply aa.cX am fw [2,3,4,6,8,9];simp[YT];refine⟨y+1,Le.aD ?_ ?_ ?_ ?_, ?_, ?_⟩;iterate 3(·simp)
   ·simp[pre];simp (disch:=omega) only[aq];exact⟨by omega,trivial⟩
   ·omega
   ·omega
  ·apply aa.exit;simp at hc;simp;have hyf:y=f.toNat:=by
    by_cases e:y<f.toNat
    ·have:=hsf e;omega
    ·omega
   subst hyf;apply aa.ag am fw [6,7];simp[YU];refine⟨by omega, ?_⟩;apply aa.ret;simp[GL];rw[EZ hr.1,hdm.2,aq (by omega)];omega
def ag9(n:aA)(l:aM)(i:Int)(hs:sm n.ae l.aj)(hi:i<0\/da n.ae l.aj<=i):
  aI Tryd.prog 67 [n.enc,l.enc,ti i] (.dh [.agg [ti 0,ti 0,ti 0],.bool false]):=by
 have am:=IZ;refine c16.ok (by simp) (aC ?_);simp[aA.enc,aM.enc];apply aa.ag am fw [2,3,4,6];simp[Rg];apply aa.sq am fw [2,3,4,6,19];simp[Rh,JQ,qI,tD,L6,Pz,Dy];refine⟨λ_=>⟨⟨n,l,rfl⟩,hs, ?_⟩,λhc=>?_⟩;all_goals
  refine aa.cond (by simp;rfl) (λhc=>?_) (λhc=>?_)
  ·apply aa.ag am fw [6,7];simp[YO];apply aa.ret;simp[GL]
  ·simp at hc<;>omega
end
def t39{Γ:gP}(am:au Tryd.prog Γ)(n:aA)(l:aM)(hs:sm n.ae l.aj):aI Tryd.prog 36 [n.enc,l.enc] (ti (da n.ae l.aj+1)):=by
 have hgb:=jK hs;obtain⟨h1,h2,h3,h4⟩:=hs;have b1:=eA h3 h4 (b:=l.aj+1) (n:=1001) (by omega) (by omega);have yx:da n.ae l.aj=l.aj*(l.aj+1)/2*n.ae:=by
  rw[sj h3];have:=ny l.aj l.aj.toNat;have e:(l.aj.toNat:Int)=l.aj:=by omega
  rw[e,Int.mul_sub,Zdg]at this;have h2:l.aj*(l.aj+1)/2=pre l.aj l.aj.toNat:=by
   rw[Int.mul_add,Zdg];omega
  rw[h2]
 refine c39.ok (by simp) (aC ?_);simp[aA.enc,aM.enc];apply aa.ag am fw [2,3];simp[apr];apply aa.ag am fw [4];simp[aps];apply aa.ret;simp[ci];rw[aq (x:=l.aj+1) (by omega),aq (x:=l.aj*(l.aj+1)) (by omega),Fw b1.1,aq (x:=l.aj*(l.aj+1)/2) (by omega),<-yx,aq (x:=da n.ae l.aj) (by omega),aq (by omega)]
def asU:ar->T
 |[.agg [_,.int _ nt,_,_],.agg [.int _ st,_,_]]=>ti (da nt st+1)
 |_=>.bool false
def atb(ts:ar):Prop:=∃(n:aA) (l:aM),ts=[n.enc,l.enc]/\sm n.ae l.aj
def aoZ:DM.Spec:=bp atb asU true
def asV:ar->T
 |[.agg [_,.int _ nt,_,_],.agg [.int _ st,_,_],.int _ f,.int _ t]=>ti (cM st f t*nt)
 |_=>.bool false
def atc(ts:ar):Prop:=∃(n:aA) (l:aM) (f t:Int),ts=[n.enc,l.enc,ti f,ti t]/\sm n.ae l.aj/\0<=f/\f<=t/\t<l.aj
def aqg:DM.Spec:=bp atc asV true
def Γ2:gP:=bG [(36,aoZ),(69,aqg)]
def ok2:au Tryd.prog Γ2:=by
 refine au.cons (au.cons au.nil ?_) ?_
 ·rintro ts ⟨n,l,f,t,rfl,⟨h1,h2,h3,h4⟩,k1,k2,k3⟩;exact⟨t40 au.nil n l f t h4 k1 k2 k3 h1 h2,λ_=>rfl⟩
 ·rintro ts ⟨n,l,rfl,h1⟩;exact⟨t39 au.nil n l h1,λ_=>rfl⟩
def t18(n:aA)(l:aM)(h f t:Int)(hs:sm n.ae l.aj):aI Tryd.prog 30 [n.enc,l.enc,.agg [ti h,ti f,ti t]]
  (if bl n.ae l.aj h f t then .dh [ti (fo n.ae l.aj h f t),.bool true]else .dh [ti 0,.bool false]):=by
 have am:=ok2;refine c18.ok (by simp) (aC ?_);simp[aA.enc,aM.enc];apply aa.ag am fw [3,4,5];simp[amM];apply aa.sq am fw [3,4,5,36];simp[amN];repeat' (first|apply And.intro|intro _)
 all_goals try (
  refine aa.cond (by simp;rfl) (λ_=>?_) (λh=>by cases h);apply aa.ag am fw [6,7];simp[ar9];apply aa.ret;have hn:¬bl n.ae l.aj h f t:=by unfold bl;omega
  simp[apj,hn]
  done)
 rename_i a1 a2 a3 a4;refine aa.cond (by simp;rfl) (λhc=>?_) (λhc=>?_)
 ·simp at hc;have hn:¬bl n.ae l.aj h f t:=by unfold bl;omega
  apply aa.ag am fw [6,7];simp[ar9];apply aa.ret;simp[apj,hn]
 ·simp at hc;have hn:bl n.ae l.aj h f t:=by unfold bl;omega
  have MF:=i5 hs hn;have hgb:=jK hs;apply aa.skip;simp;apply aa.ag am fw [6,7];simp[amO,Γ2,aqg,asV];refine⟨⟨n,l,f,t,rfl,hs,by omega,by omega,by omega⟩, ?_⟩;apply aa.ret;simp[apj,hn];rw[nw (by omega),aq (by omega)]
instance:Inhabited bU:=⟨⟨0,0,0,0,0,0⟩⟩
instance:Inhabited Edge:=⟨⟨0,[],0,0,0⟩⟩
@[simp] def Za(l:b8):(aw l).length=l.length:=by simp[aw]
@[simp] def Zb(l:List bk):(aV l).length=l.length:=by simp[aV]
@[simp] def U0(l:List bU):(aU l).length=l.length:=by simp[aU]
@[simp] def U1(l:List Edge):(bw l).length=l.length:=by simp[bw]
def iO{l:List bU}{y:Nat}(h:y<l.length):DM.rowAt (aU l) y=(l.getD y default).enc:=by simp[DM.rowAt,aU,h]
def uL{l:List Edge}{y:Nat}(h:y<l.length):DM.rowAt (bw l) y=(l.getD y default).enc:=by simp[DM.rowAt,bw,h]
abbrev mr:Int:=1099511627776
def Ix(f t m f' t' m':Int):Bool:=if f≠f' then decide (f<f')else if t≠t' then decide (t<t')else decide (m<m')
abbrev bF(a b:bk):Bool:=Ix a.f a.t a.term b.f b.t b.term
def Ry(l:aM)(i:Nat):Bool:=decide (0<=l.bK.getD i default/\l.bK.getD i default<=mr)
def tF(l:aM)(aK:Int)(i:Nat):Prop:=
 (l.aL.getD i default).f<0\/(l.aL.getD i default).t<(l.aL.getD i default).f\/l.aj<=(l.aL.getD i default).t\/(l.aL.getD i default).term<0\/aK<=(l.aL.getD i default).term\/
  (l.aL.getD i default).aG<0\/mr<=(l.aL.getD i default).aG\/((l.aL.getD i default).f=(l.aL.getD i default).t/\(l.aL.getD i default).aG=0)\/(0<i/\bF (l.aL.getD (i-1) default) (l.aL.getD i default)=false)
instance(l:aM)(aK:Int)(i:Nat):Decidable (tF l aK i):=by unfold tF;infer_instance
def Rz(l:aM)(aK:Int)(i:Nat):Bool:= !decide (tF l aK i)
def GQ(l:aM)(aK:Int):Bool:=decide (1<=l.aj/\(l.bK.length:Int)=l.aj)&&((List.range l.bK.length).all (Ry l)&&(List.range l.aL.length).all (Rz l aK))
def nM{p:Nat->Bool}{n i:Nat}(h:i<n)(hp:p i=false):(List.range n).all p=false:=by
 rw[List.all_eq_false];exact⟨i,by simp[h],by simp[hp]⟩
def xS{p:Nat->Bool}{n:Nat}(h:∀i,i<n->p i=true):(List.range n).all p=true:=by
 rw[yJ];intro i hi;exact h i (by simpa using hi)
def nz(n:aA):Prop:=n.aK<0\/120<n.aK\/n.ae<1\/1000<n.ae\/n.start<0\/n.ae<=n.start\/600<(n.ak.length:Int)
instance(n:aA):Decidable (nz n):=by unfold nz;infer_instance
def jp(n:aA)(r:bU):Prop:=r.head<0\/n.ae<=r.head\/r.cA<0\/1000<r.cA\/r.origin< -1
instance(n:aA)(r:bU):Decidable (jp n r):=by unfold jp;infer_instance
def fV(n:aA)(r:bU):Prop:=
 (r.kind=1/\r.a=0/\r.b=0)\/(r.kind=2/\0<=r.a/\r.a<n.aK/\r.b=0)\/(r.kind=3/\0<=r.a/\r.a<n.ae/\r.b=0)\/(r.kind=4/\0<=r.a/\r.a<n.ae/\0<=r.b/\r.b<n.ae)
instance(n:aA)(r:bU):Decidable (fV n r):=by unfold fV;infer_instance
def nA(n:aA)(i:Nat):Bool:=decide (¬jp n (n.ak.getD i default)/\fV n (n.ak.getD i default))
def dF(n:aA):Bool:= !decide (nz n)&&(List.range n.ak.length).all (nA n)
def Vd{Γ:gP}(am:au Tryd.prog Γ)(n:aA)(hl:n.ak.length<=9223372036854775807):aI Tryd.prog 75 [n.enc] (.bool (dF n)):=by
 refine c44.ok (by simp) (aC ?_);simp[aA.enc];apply aa.ag am fw [1];simp[Da];apply aa.seq;refine aa.co am fw [(1,.ptr 1002 0),(41,.v (.bool (decide (nz n))))] ?_ ?_
 ·simp[Db];repeat' (first|apply And.intro|intro _)
  all_goals first|omega|(simp[nz];omega)|(rename_i hh;revert hh;simp[nz];omega)
 refine aa.cond rfl (λh=>?_) (λh=>?_)
 ·apply aa.ag am fw [2];simp[Dd];apply aa.ret;simp[aa2,dF,h]
 simp only[nX]at h;apply aa.skip;simp;apply aa.sq am fw [1,3];simp[De];apply aa.block;refine aa.loop (λy:Nat=>⟨DM.look [(1,.ptr 1002 0),(3,.v (ti y))],cC [(1002,.box [.v (ti n.aK),.v (ti n.ae),.v (ti n.start),.v (.sl (aU n.ak))])],2000,1000,[]⟩)
  (λy=>y<=n.ak.length/\∀i,i<y->nA n i=true) (λy=>n.ak.length-y) 0 (Le.aD ?_ ?_ ?_ ?_) (by simp) (λy hy=>?_)
 iterate 4(·simp)
 obtain⟨pT,eG⟩:=hy;apply aa.sq am fw [1,3,46];simp[Df];refine aa.cond rfl (λhc=>?_) (λhc=>?_)
 ·simp at hc;apply aa.skip;simp;apply aa.seq;apply aa.block;apply aa.ag am fw [1,3,4];have fz:=iO hc;simp[xp,fz,hc,bU.enc];obtain⟨r,hr⟩:=ba (n.ak[y]);simp only[hr];have Q4:n.ak.getD y default=r:=by simp[hc,hr]
  apply aa.seq;refine aa.co am fw [(1,.ptr 1002 0),(3,.v (ti y)),(4,.ptr 2157 0),(78,.v (.bool (decide (jp n r))))] ?_ ?_
  ·simp[Dg];repeat' (first|apply And.intro|intro _)
   all_goals first|omega|(simp[jp];omega)|(rename_i hh;revert hh;simp[jp];omega)|trace_state
  refine aa.cond rfl (λh2=>?_) (λh2=>?_)
  ·apply aa.ag am fw [2];simp[Dh];apply aa.ret;simp only[o5]at h2;have:=nM (p:=nA n) hc (by unfold nA;rw[Q4];simp[h2]);simp[aa2,dF,this]
  ·simp only[nX]at h2;apply aa.skip;simp;apply aa.ag am fw [1,3,4,5];simp[Di];apply aa.sq am fw [1,3,4,5,80];simp[YV];refine aa.to ⟨DM.look [(1,.ptr 1002 0),(3,.v (ti y)),(5,.v (.bool (decide (fV n r))))],cC [(1002,.box [.v (ti n.aK),.v (ti n.ae),.v (ti n.start),.v (.sl (aU n.ak))])],9000,1000,[]⟩ ?_ ?_
   ·apply aa.block;apply aa.ag am fw [1,3,4,5,80,81];simp[Ri];refine aa.cond rfl (λe1=>?_) (λe1=>?_)
    ·simp only[o5]at e1;refine aa.oO am fw [(1,.ptr 1002 0),(3,.v (ti y)),(5,.v (.bool (decide (fV n r))))] ?_ ?_
     rotate_left
     ·simp only[mg];refine⟨trivial,Le.aD ?_ ?_ ?_ ?_⟩<;>simp
     ·simp[Rj,fV,e1];repeat' (first|apply And.intro|intro _)
      all_goals first|omega|(rename_i hh;simp[hh])
    simp only[nX]at e1;apply aa.ag am fw [1,3,4,5,80,91];simp[Rk];refine aa.cond rfl (λe2=>?_) (λe2=>?_)
    ·simp only[o5]at e2;refine aa.oO am fw [(1,.ptr 1002 0),(3,.v (ti y)),(5,.v (.bool (decide (fV n r))))] ?_ ?_
     rotate_left
     ·simp only[mg];refine⟨trivial,Le.aD ?_ ?_ ?_ ?_⟩<;>simp
     ·simp[Rl,fV,e2];repeat' (first|apply And.intro|intro _)
      all_goals first|omega|(rw[VV];simp;omega)
    simp only[nX]at e2;apply aa.ag am fw [1,3,4,5,80,108];simp[Rm];refine aa.cond rfl (λe3=>?_) (λe3=>?_)
    ·simp only[o5]at e3;refine aa.oO am fw [(1,.ptr 1002 0),(3,.v (ti y)),(5,.v (.bool (decide (fV n r))))] ?_ ?_
     rotate_left
     ·simp only[mg];refine⟨trivial,Le.aD ?_ ?_ ?_ ?_⟩<;>simp
     ·simp[Rn,fV,e3];repeat' (first|apply And.intro|intro _)
      all_goals first|omega|(rw[VV];simp;omega)
    simp only[nX]at e3;apply aa.ag am fw [1,3,4,5,125];simp[Rp];refine aa.cond rfl (λe4=>?_) (λe4=>?_)
    ·simp only[o5]at e4;refine aa.oO am fw [(1,.ptr 1002 0),(3,.v (ti y)),(5,.v (.bool (decide (fV n r))))] ?_ ?_
     rotate_left
     ·simp only[mg];refine⟨trivial,Le.aD ?_ ?_ ?_ ?_⟩<;>simp
     ·simp[Rq,fV,e4];repeat' (first|apply And.intro|intro _)
      all_goals first|omega|(rw[VV];simp;omega)
    ·simp only[nX]at e4;have hb:¬fV n r:=by unfold fV;omega
     apply aa.skip;simp only[mg];refine⟨trivial,Le.aD ?_ ?_ ?_ ?_⟩<;>simp[hb]
   simp;apply aa.ag am fw [1,3,150];simp[Rr];refine aa.cond rfl (λh3=>?_) (λh3=>?_)
   ·apply aa.ag am fw [2];simp[Rs];apply aa.ret;simp only[Fm,nX]at h3;have:=nM (p:=nA n) hc (by unfold nA;rw[Q4];simp[h3]);simp[aa2,dF,this]
   ·simp only[Ss,o5]at h3;apply aa.skip;simp;apply aa.cX am fw [1,3];simp[Rt];refine⟨y+1,Le.aD ?_ ?_ ?_ ?_,⟨?_, ?_⟩, ?_⟩;iterate 3(·simp)
    ·simp;exact(aq (by omega)).symm
    ·omega
    ·intro i hi;by_cases e:i=y
     ·subst e;unfold nA;rw[Q4];simp[h2,h3]
     ·exact eG i (by omega)
    ·omega
 ·simp at hc;have cJ:=xS (p:=nA n) (n:=n.ak.length) (λi hi=>eG i (by omega));apply aa.exit;simp;apply aa.ag am fw [2];simp[Ru];apply aa.ret;simp[aa2,dF,cJ,h]
attribute [simp] cN
def iu:ar->bU
 |[a,b,c,d,e,f]=>⟨cN a,cN b,cN c,cN d,cN e,cN f⟩
 |_=>default
def Iy:ar->Edge
 |[a,.sl b,c,d,e]=>⟨cN a,dS b,cN c,cN d,cN e⟩
 |_=>default
def lg(l:List (ar)):List bU:=l.map iu
@[simp] def A8(l:List bU):lg (aU l)=l:=fD (λ_=>rfl) l
@[simp] def Zc(a:Edge):Iy a.enc=a:=by
 simp only[Iy,Edge.enc,cN,uM]
def j7:T->aA
 |.agg [a,b,c,.sl r]=>⟨cN a,cN b,cN c,lg r⟩
 |_=>⟨0,0,0,[]⟩
@[simp] def LN(a b c:Int)(l:List bU):j7 (.agg [ti a,ti b,ti c,.sl (aU l)])=⟨a,b,c,l⟩:=by simp[j7]
@[simp] def Pq(n:aA):j7 n.enc=n:=by simp[aA.enc]
def ab5:ar->T
 |[n]=>.bool (dF (j7 n))
 |_=>.bool false
def afh(ts:ar):Prop:=∃n:aA,ts=[n.enc]/\n.ak.length<=9223372036854775807
def Yy:gP:=bG [(75,bp afh ab5 true)]
def Wf:au Tryd.prog Yy:=by
 refine au.cons au.nil ?_;rintro ts ⟨n,rfl,h⟩;exact⟨by simpa [ab5]using Vd au.nil n h,λ_=>rfl⟩
def mn(n:aA):Bool:=decide (n.ae<=14/\(n.ak.length:Int)<=24/\n.aK<=6)&&dF n
def t30(n:aA)(hl:n.ak.length<=9223372036854775807):aI Tryd.prog 43 [n.enc] (.bool (mn n)):=by
 have am:=Wf;refine c30.ok (by simp) (aC ?_);simp[aA.enc];apply aa.ag am fw [1,2];simp[Ed];refine aa.co am fw [(2,.v (.bool (mn n)))] ?_ ?_
 ·simp[Ee,Yy,ab5,bp];repeat' (first|apply And.intro|intro _)
  all_goals first|exact⟨n,rfl,hl⟩|(simp[mn, *];done)|(simp[mn];intros;omega)
 apply aa.ret;simp[ajZ]
def fair(n:aA)(l:aM):Bool:=mn n&&decide (l.aj<=11/\(l.aL.length:Int)<=120)&&GQ l n.aK
end Go.Proofs.It
namespace Go.Proofs
namespace It
open Go.DM
def XP:ah:=[
 B 0 2,
 B 1 3,
 o (.alloc [V 0,.aF]) 4 []]
def XQ:ah:=[
 L 4 2 14 [],
 L 3 3 15 [],
 o (.call 61 [(t 14),(t 15)]) 16 [0,1],
 o (.alloc [V 0,V 0]) 5 [],
 S 2 5 16 [3,2,2,0,1,2,3]]
def XR:ah:=[
 L 2 5 17 [],
 o (.call 62 [(t 17)]) 18 [0],
 C .add 18 1 19 [1],
 o (.build [V 0,.aF] [(0,1,(t 19))]) 20 [2],
 o (.alloc [V 0,.aF]) 6 [],
 S 2 6 20 (k [4,3,1] 4)]
def XS:ah:=[
 a 0 3 21 [],
 l 21 22 [0],
 I 0 23]
def XT:ah:=[
 b .lss 23 22 24 []]
def XU:ah:=[
 n 23 25,
 m 25 7 [0,0]]
def XV:ah:=[
 n 7 26,
 m 26 8 [0,0]]
def XW:ah:=[
 n 8 27,
 a 0 3 28 [],
 l 28 29 [1],
 b .lss 27 29 30 [0,2]]
def XX:ah:=[
 o (.alloc [.aF]) 9 []]
def XY:ah:=[
 a 3 2 33 [],
 l 33 34 [0],
 N 34 35 [1],
 I 0 36]
def PA:ah:=[
 b .lss 36 35 37 []]
def PB:ah:=[
 n 36 38,
 m 38 10 [0,0]]
def PC:ah:=[
 L 4 2 39 [],
 L 3 3 40 [],
 n 10 41,
 n 7 42,
 n 8 43,
 o (.call 63 [(t 39),(t 40),(t 41),(t 42),(t 43)]) 44 (k [] 4)]
def PD:ah:=[
 o (.alloc [V 0,.aF,V 0,V 0,V 0]) 11 [],
 S 5 11 45 [0,0]]
def PE:ah:=[
 l 9 46 [],
 L 5 11 47 [],
 o (.bslice 1 5 [V 0,.aF,V 0,V 0,V 0] [(0,5,(t 47))]) 48 [1],
 o (.append 79 5 56 (t 46) (t 48)) 49 [0,2],
 S 1 9 49 [3,3,0,1,2,3]]
def PF:ah:=[
 C .add 36 1 50 [],
 m 50 36 [0]]
def Bd:ah:=[
 l 9 51 [],
 o (.callS 64 [(t 51),(.eD (.v (.fn (.func 65) [])))]) 52 [0]]
def abZ:ah:=Bd.map bare
def PH:ah:=[
 a 1 6 53 [],
 l 53 54 [0],
 l 9 55 [],
 o (.append 79 5 56 (t 54) (t 55)) 56 [1,2],
 a 1 6 57 [0,1,2,3],
 S 1 57 56 [4,3,3,0,1,2,3]]
def PI:ah:=[
 n 8 31,
 C .add 31 1 32 [0],
 m 32 8 [1,0,1]]
def PJ:ah:=[
 C .add 23 1 58 [],
 m 58 23 [0]]
def PK:ah:=[
 a 2 3 59 [],
 l 59 60 [0],
 N 60 61 [1],
 I 0 62]
def akQ:ah:=[
 b .lss 62 61 63 []]
def PM:ah:=[
 n 62 64,
 x 1 60 62 65 [],
 l 65 66 [1],
 m 64 12 [0,0,1,2],
 m 66 13 [2,3,0,1,2,3]]
def PN:ah:=[
 n 13 67,
 C .lss 67 1099511627776 68 [0]]
def PO:ah:=[
 a 1 6 69 [],
 l 69 70 [0],
 L 2 5 71 [],
 o (.call 62 [(t 71)]) 72 [2],
 L 2 5 73 [],
 a 2 2 74 [],
 l 74 75 [5],
 n 12 76,
 o (.call 66 [(t 73),(t 75),(i 0),(t 76)]) 77 [4,6,7,3],
 o (.bslice 1 1 [V 0] [(0,1,(t 77))]) 78 [8],
 n 13 79,
 n 12 80,
 o (.build [V 0,V 0] [(0,1,(i (-1))),(1,1,(t 80))]) 81 [11],
 o (.build [V 0,.aF,V 0,V 0,V 0] [(0,1,(t 72)),(1,1,(t 78)),(2,1,(t 79)),(3,2,(t 81))]) 82 [3,9,10,12],
 o (.bslice 1 5 [V 0,.aF,V 0,V 0,V 0] [(0,5,(t 82))]) 83 [13],
 o (.append 79 5 56 (t 70) (t 83)) 84 [1,14,8],
 a 1 6 85 (k [] 15),
 S 1 85 84 (k [16,15,15] 15)]
def PP:ah:=[
 C .add 62 1 86 [],
 m 86 62 [0]]
def PR:ah:=[
 L 2 6 87 [],
 S 2 4 87 [0,0]]
def d11:DC:=(j (y XP) (j (y XQ) (j (y XR) (j (j (y XS) (.block 0 (.loop (j (y XT) (j (.cond (.tmp 24) .skip (.exit 0)) (j (.block 1 (j (y XU) (j (y XV) (.block 2 (.loop (j (j (y XW) (.cond (.tmp 30) .skip (.exit 2))) (j (.block 3 (j (y XX) (j (j (y XY) (.block 4 (.loop (j (y PA) (j (.cond (.tmp 37) .skip (.exit 4)) (j (.block 5 (j (y PB) (j (y PC) (.block 6 (.sZ (.tmp 44) [45] (y PD) (.block 7 (y PE))))))) (y PF))))))) (j (y abZ) (y PH))))) (y PI)))))))) (y PJ))))))) (j (j (y PK) (.block 8 (.loop (j (y akQ) (j (.cond (.tmp 63) .skip (.exit 8)) (j (.block 9 (j (y PM) (j (y PN) (.cond (.tmp 68) (Y PO) .skip)))) (y PP))))))) (j (y PR) .ret))))))
def PS:List cV:=[.cell 4 2 true]
def c11 [bh]:av Tryd.prog 28 88 d11 PS:=av.of Tryd.f28 (by kernel_rfl)
def Iq:ah:=[
 n 0 4,
 n 0 5,
 N 5 6 [1],
 n 1 7,
 o (.call 92 [(t 4),(t 6),(t 7)]) 8 [0,2,3]]
def Bf:ah:=[
 n 0 4,
 n 0 5,
 N 5 6 [1],
 n 1 7,
 o (.callS 92 [(t 4),(t 6),(t 7)]) 8 [0,2,3]]
def d35:DC:=(y Iq)
def acJ:List cV:=[]
def c35 [bh]:av Tryd.prog 64 9 d35 acJ:=av.of Tryd.f64 (by kernel_rfl)
def DA:ah:=[
 B 0 2,
 B 1 3,
 I 0 4]
def uK:ah:=[
 a 0 2 5 [],
 l 5 6 [0],
 a 0 3 7 [],
 l 7 8 [2],
 b .sub 6 8 9 [1,3],
 m 9 4 (k [4] 4)]
def d36:DC:=(j (y DA) (j (y uK) .ret))
def c36 [bh]:av Tryd.prog 65 10 d36 (ci 4):=av.of Tryd.f65 (by kernel_rfl)
def DB:ah:=[
 o (.alloc [V 0,.aF,V 0,V 0,V 0]) 11 []]
def Ir:ah:=[
 L 2 3 12 [],
 a 1 4 13 [],
 l 13 14 [1],
 l 5 15 [],
 l 6 16 [],
 o (.call 66 [(t 12),(t 14),(t 15),(t 16)]) 17 [0,2,3,4],
 n 2 18,
 n 0 19,
 o (.minmax false (t 19) (i 1099511627776)) 20 [7],
 l 7 21 [],
 n 1 22,
 o (.build [V 0,V 0] [(0,1,(t 21)),(1,1,(t 22))]) 23 [9,10],
 o (.build [V 0,.aF,V 0,V 0,V 0] [(0,1,(t 17)),(1,1,(t 18)),(2,1,(t 20)),(3,2,(t 23))]) 24 [5,6,8,11],
 S 5 11 24 (k [12,5] 12)]
def d46:DC:=(j (y DB) (j (Y Ir) .ret))
def xC:List cV:=[.cell 11 5 true]
def c46 [bh]:av Tryd.prog 90 25 d46 xC:=av.of Tryd.f90 (by kernel_rfl)
def DD:ah:=[
 a 0 1 11 [],
 l 11 12 [0]]
def DE:ah:=[
 C .eql 12 1 14 [],
 m 14 13 [0]]
def DF:ah:=[
 l 2 15 [],
 l 3 16 [],
 b .eql 15 16 17 [0,1]]
def DG:ah:=[
 n 0 18,
 l 4 19 [],
 a 4 1 20 [],
 l 20 21 [2],
 l 2 22 [],
 o (.callv (t 19) [(t 21),(t 22),(.eD .aF)]) 23 [1,3,4],
 o (.callv (t 18) [(t 23)]) 24 [0,5,5]]
def Is:ah:=[
 C .eql 12 2 26 [],
 m 26 25 [0]]
def DH:ah:=[
 a 1 5 27 [],
 l 27 28 [0],
 N 28 29 [1],
 I 0 30]
def XZ:ah:=[
 b .lss 30 29 31 []]
def X0:ah:=[
 n 30 32,
 x 5 28 30 33 [],
 L 5 33 34 [1],
 o (.alloc [V 0,V 0,V 0,V 0,.aF]) 9 [],
 m 32 8 [0,0,1,2,3],
 S 5 9 34 (k [3,2,4] 4)]
def PT:ah:=[
 a 0 9 35 [],
 l 35 36 [0],
 l 2 37 [],
 b .eql 36 37 38 [1,2],
 m 38 39 [3],
 u 1 9 40 39 true [4],
 v 40 41 39 true [5,4],
 v 3 42 39 true [4],
 D .eql 41 42 43 39 true [6,7,4],
 q 39 43 44 [4,8],
 m 44 45 [9,4],
 u 2 9 46 45 true [10],
 v 46 47 45 true [11,10],
 u 2 1 48 45 true [10],
 v 48 49 45 true [13,10],
 D .eql 47 49 50 45 true [12,14,10],
 q 45 50 51 [10,15],
 m 51 52 [16,10],
 w 0 53 52 true [17],
 v 4 54 52 true [17],
 u 4 1 55 52 true [17],
 v 55 56 52 true [20,17],
 u 3 9 57 52 true [17],
 v 57 58 52 true [22,17],
 D .add 56 58 59 52 true [21,23,17],
 w 8 60 52 true [17],
 g (.callv (t 54) [(t 59),(t 60),(.eD .aF)]) 61 52 true [19,24,25,17,17],
 g (.callv (t 53) [(t 61)]) 62 52 true [18,26,26,17],
 K 62 63 52 true [27,17],
 q 52 63 64 [17,28]]
def X3:ah:=[
 C .add 30 1 65 [],
 m 65 30 [0]]
def PU:ah:=[
 C .eql 12 3 67 [],
 m 67 66 [0]]
def PV:ah:=[
 n 0 68,
 l 4 69 [],
 a 4 1 70 [],
 l 70 71 [2],
 l 2 72 [],
 L 2 6 73 [],
 a 2 1 74 [],
 l 74 75 [6],
 l 2 76 [],
 l 3 77 [],
 o (.call 66 [(t 73),(t 75),(t 76),(t 77)]) 78 [5,7,8,9],
 o (.bslice 1 1 [V 0] [(0,1,(t 78))]) 79 [10],
 o (.callv (t 69) [(t 71),(t 72),(t 79)]) 80 [1,3,4,11,10],
 o (.callv (t 68) [(t 80)]) 81 [0,12,12]]
def PW:ah:=[
 C .eql 12 4 83 [],
 m 83 82 [0]]
def PX:ah:=[
 l 2 84 [],
 m 84 10 [0,0]]
def PY:ah:=[
 n 10 85,
 l 3 86 [],
 b .leq 85 86 87 [0,1]]
def PZ:ah:=[
 n 0 90,
 l 4 91 [],
 a 4 1 92 [],
 l 92 93 [2],
 n 10 94,
 L 2 6 95 [],
 a 2 1 96 [],
 l 96 97 [6],
 l 2 98 [],
 n 10 99,
 o (.call 66 [(t 95),(t 97),(t 98),(t 99)]) 100 [5,7,8,9],
 L 2 6 101 [],
 a 3 1 102 [],
 l 102 103 [12],
 n 10 104,
 l 3 105 [],
 o (.call 66 [(t 101),(t 103),(t 104),(t 105)]) 106 [11,13,14,15,10],
 o (.bslice 2 1 [V 0,V 0] [(0,1,(t 100)),(1,1,(t 106))]) 107 [10,16],
 o (.callv (t 91) [(t 93),(t 94),(t 107)]) 108 [1,3,4,17,16],
 o (.callv (t 90) [(t 108)]) 109 [0,18,18],
 U 109 110 [19]]
def P3:ah:=[
 n 10 88,
 C .add 88 1 89 [0],
 m 89 10 [1,0,1]]
def d47:DC:=(j (y DD) (.block 0 (j (y DE) (.cond (.tmp 13) (j (y DF) (.cond (.tmp 17) (y DG) .skip)) (j (y Is) (.cond (.tmp 25) (j (y DH) (.block 1 (.loop (j (y XZ) (j (.cond (.tmp 31) .skip (.exit 1)) (j (.block 2 (j (y X0) (j (y PT) (.cond (.tmp 64) .ret .skip)))) (y X3))))))) (j (y PU) (.cond (.tmp 66) (Y PV) (j (y PW) (.cond (.tmp 82) (j (y PX) (.block 3 (.loop (j (j (y PY) (.cond (.tmp 87) .skip (.exit 3))) (j (.block 4 (j (Y PZ) (.cond (.tmp 110) .ret .skip))) (y P3)))))) .skip))))))))))
def Bg:List cV:=[]
def c47 [bh]:av Tryd.prog 91 111 d47 Bg:=av.of Tryd.f91 (by kernel_rfl)
def zH:ah:=[
 I 20 6]
def zI:ah:=[
 n 6 10,
 I 0 7,
 m 10 8 [0,1,0,1]]
def xD:ah:=[
 n 8 11,
 n 1 12,
 b .leq 11 12 13 [0,1]]
def DI:ah:=[
 n 0 14,
 n 7 15,
 n 8 16,
 n 2 17,
 o (.call 110 [(t 14),(t 15),(t 16),(t 17)]) 18 [0,1,2,3]]
def P4:ah:=[
 n 0 14,
 n 7 15,
 n 8 16,
 n 2 17,
 o (.callS 110 [(t 14),(t 15),(t 16),(t 17)]) 18 [0,1,2,3]]
def zJ:ah:=[
 n 8 19,
 m 19 7 [0,0]]
def X4:ah:=[
 n 8 20,
 n 6 21,
 b .add 20 21 22 [0,1],
 m 22 8 [2,0,1,2]]
def KL:ah:=[
 n 0 23,
 n 7 24,
 n 1 25,
 n 2 26,
 o (.callS 110 [(t 23),(t 24),(t 25),(t 26)]) 27 [0,1,2,3]]
def afa:ah:=KL.map bare
def P5:ah:=[
 n 6 28,
 n 1 29,
 b .lss 28 29 30 [0,1]]
def X5:ah:=[
 n 6 31,
 o (.bin .mul (i 2) (t 31)) 32 [0],
 I 0 7,
 m 32 8 [1,2,0,1,2]]
def X6:ah:=[
 n 8 33,
 n 1 34,
 b .leq 33 34 35 [0,1]]
def Bh:ah:=[
 n 0 36,
 n 7 37,
 n 7 38,
 n 6 39,
 b .add 38 39 40 [2,3],
 n 8 41,
 n 2 42,
 o (.callS 111 [(t 36),(t 37),(t 40),(t 41),(t 42)]) 43 [0,1,4,5,6]]
def ab0:ah:=Bh.map bare
def P6:ah:=[
 n 8 44,
 m 44 7 [0,0]]
def P7:ah:=[
 n 8 45,
 n 6 46,
 o (.bin .mul (i 2) (t 46)) 47 [1],
 b .add 45 47 48 [0,2],
 m 48 8 [3,0,1,2,3]]
def P8:ah:=[
 n 7 49,
 n 6 50,
 b .add 49 50 51 [0,1],
 m 51 9 [2,0,1,2]]
def P9:ah:=[
 n 9 52,
 n 1 53,
 b .lss 52 53 54 [0,1]]
def Bi:ah:=[
 n 0 55,
 n 7 56,
 n 9 57,
 n 1 58,
 n 2 59,
 o (.callS 111 [(t 55),(t 56),(t 57),(t 58),(t 59)]) 60 (k [] 4)]
def ab1:ah:=Bi.map bare
def Qa:ah:=[
 n 6 61,
 C .mul 61 2 62 [0],
 m 62 6 [1,0,1]]
def d48:DC:=(j (y zH) (j (y zI) (j (.block 0 (.loop (j (j (y xD) (.cond (.tmp 13) .skip (.exit 0))) (.block 1 (j (y DI) (j (y zJ) (y X4))))))) (j (y afa) (.block 2 (.loop (j (j (y P5) (.cond (.tmp 30) .skip (.exit 2))) (.block 3 (j (y X5) (j (.block 4 (.loop (j (j (y X6) (.cond (.tmp 35) .skip (.exit 4))) (.block 5 (j (y ab0) (j (y P6) (y P7))))))) (j (j (y P8) (j (y P9) (.cond (.tmp 54) (y ab1) .skip))) (y Qa))))))))))))
def qJ:List cV:=[]
def Yu [bh]:av Tryd.prog 92 63 d48 qJ:=av.of Tryd.f92 (by kernel_rfl)
def zK:ah:=[
 n 1 10,
 C .add 10 1 11 [0],
 m 11 8 [1,0,1]]
def xF:ah:=[
 n 8 12,
 n 2 13,
 b .lss 12 13 14 [0,1]]
def DJ:ah:=[
 n 8 17,
 m 17 9 [0,0]]
def xG:ah:=[
 n 9 18,
 n 1 19,
 b .gtr 18 19 20 [0,1],
 m 20 21 [2],
 w 3 22 21 true [3],
 w 0 23 21 true [3],
 w 9 24 21 true [3],
 g (.idxAddr 5 (t 23) (t 24)) 25 21 true [5,6,3],
 g (.load 5 true (t 25)) 26 21 true [7,3],
 w 0 27 21 true [3],
 w 9 28 21 true [3],
 E .sub 28 1 29 21 true [10,3],
 g (.idxAddr 5 (t 27) (t 29)) 30 21 true [9,11,3],
 g (.load 5 true (t 30)) 31 21 true [12,3],
 g (.callv (t 22) [(t 26),(t 31)]) 32 21 true [4,8,13,3,3],
 E .lss 32 0 33 21 true [14,3],
 q 21 33 34 [3,15]]
def X7:ah:=[
 n 0 37,
 n 9 38,
 n 0 39,
 n 9 40,
 C .sub 40 1 41 [3],
 n 0 42,
 n 9 43,
 C .sub 43 1 44 [6],
 x 5 42 44 45 [5,7],
 L 5 45 46 [8],
 n 0 47,
 n 9 48,
 x 5 47 48 49 [10,11],
 L 5 49 50 [12],
 x 5 37 38 51 [0,1,0,1,5,6,7,8,9,13],
 S 5 51 46 [14,9,0,1,5,6,7,8,9,13],
 x 5 39 41 52 (k [2,4] 15),
 S 5 52 50 (k [16,13,15] 15)]
def X8:ah:=[
 n 9 35,
 C .sub 35 1 36 [0],
 m 36 9 [1,0,1]]
def X9:ah:=[
 n 8 15,
 C .add 15 1 16 [0],
 m 16 8 [1,0,1]]
def d49:DC:=(j (y zK) (.block 0 (.loop (j (j (y xF) (.cond (.tmp 14) .skip (.exit 0))) (j (.block 1 (j (y DJ) (.block 2 (.loop (j (j (Y xG) (.cond (.tmp 34) .skip (.exit 2))) (j (.block 3 (Y X7)) (y X8))))))) (y X9))))))
def ajU:List cV:=[]
def Yv [bh]:av Tryd.prog 110 53 d49 ajU:=av.of Tryd.f110 (by kernel_rfl)
def DK:ah:=[
 n 2 25,
 n 1 26,
 b .sub 25 26 27 [0,1],
 C .eql 27 1 28 [2]]
def DL:ah:=[
 n 2 29,
 m 29 10 [0,0]]
def zL:ah:=[
 n 3 30,
 m 30 11 [0,0]]
def Ya:ah:=[
 n 10 31,
 n 11 32,
 b .lss 31 32 33 [0,1]]
def Yb:ah:=[
 n 10 34,
 n 11 35,
 b .add 34 35 36 [0,1],
 o (.conv .u64 (t 36)) 37 [2],
 o (.bin .shr (t 37) (.eD (.v (.int .u64 1)))) 38 [3],
 o (.conv .i64 (t 38)) 39 [4],
 m 39 12 (k [5] 5)]
def Yc:ah:=[
 n 4 40,
 n 0 41,
 n 12 42,
 x 5 41 42 43 [1,2],
 L 5 43 44 [3],
 n 0 45,
 n 1 46,
 x 5 45 46 47 [5,6],
 L 5 47 48 [7],
 o (.callv (t 40) [(t 44),(t 48)]) 49 [0,4,8],
 C .lss 49 0 50 [9]]
def Yd:ah:=[
 n 12 51,
 C .add 51 1 52 [0],
 m 52 10 [1,0,1]]
def Ye:ah:=[
 n 12 53,
 m 53 11 [0,0]]
def Yf:ah:=[
 n 1 54,
 m 54 13 [0,0]]
def Yg:ah:=[
 n 13 55,
 n 10 56,
 C .sub 56 1 57 [1],
 b .lss 55 57 58 [0,2]]
def Qb:ah:=[
 n 0 61,
 n 13 62,
 n 0 63,
 n 13 64,
 C .add 64 1 65 [3],
 n 0 66,
 n 13 67,
 C .add 67 1 68 [6],
 x 5 66 68 69 [5,7],
 L 5 69 70 [8],
 n 0 71,
 n 13 72,
 x 5 71 72 73 [10,11],
 L 5 73 74 [12],
 x 5 61 62 75 [0,1,0,1,5,6,7,8,9,13],
 S 5 75 70 [14,9,0,1,5,6,7,8,9,13],
 x 5 63 65 76 (k [2,4] 15),
 S 5 76 74 (k [16,13,15] 15)]
def Qc:ah:=[
 n 13 59,
 C .add 59 1 60 [0],
 m 60 13 [1,0,1]]
def Qd:ah:=[
 n 3 77,
 n 2 78,
 b .sub 77 78 79 [0,1],
 C .eql 79 1 80 [2]]
def Qe:ah:=[
 n 1 81,
 m 81 14 [0,0]]
def Qf:ah:=[
 n 2 82,
 m 82 15 [0,0]]
def Qg:ah:=[
 n 14 83,
 n 15 84,
 b .lss 83 84 85 [0,1]]
def Qh:ah:=[
 n 14 86,
 n 15 87,
 b .add 86 87 88 [0,1],
 o (.conv .u64 (t 88)) 89 [2],
 o (.bin .shr (t 89) (.eD (.v (.int .u64 1)))) 90 [3],
 o (.conv .i64 (t 90)) 91 [4],
 m 91 16 (k [5] 5)]
def Qi:ah:=[
 n 4 92,
 n 0 93,
 n 2 94,
 x 5 93 94 95 [1,2],
 L 5 95 96 [3],
 n 0 97,
 n 16 98,
 x 5 97 98 99 [5,6],
 L 5 99 100 [7],
 o (.callv (t 92) [(t 96),(t 100)]) 101 [0,4,8],
 C .lss 101 0 102 [9],
 U 102 103 [10]]
def Qj:ah:=[
 n 16 104,
 C .add 104 1 105 [0],
 m 105 14 [1,0,1]]
def Qk:ah:=[
 n 16 106,
 m 106 15 [0,0]]
def Ql:ah:=[
 n 2 107,
 m 107 17 [0,0]]
def Qm:ah:=[
 n 17 108,
 n 14 109,
 b .gtr 108 109 110 [0,1]]
def Qn:ah:=[
 n 0 113,
 n 17 114,
 n 0 115,
 n 17 116,
 C .sub 116 1 117 [3],
 n 0 118,
 n 17 119,
 C .sub 119 1 120 [6],
 x 5 118 120 121 [5,7],
 L 5 121 122 [8],
 n 0 123,
 n 17 124,
 x 5 123 124 125 [10,11],
 L 5 125 126 [12],
 x 5 113 114 127 [0,1,0,1,5,6,7,8,9,13],
 S 5 127 122 [14,9,0,1,5,6,7,8,9,13],
 x 5 115 117 128 (k [2,4] 15),
 S 5 128 126 (k [16,13,15] 15)]
def Qo:ah:=[
 n 17 111,
 C .sub 111 1 112 [0],
 m 112 17 [1,0,1]]
def Qp:ah:=[
 n 1 129,
 n 3 130,
 b .add 129 130 131 [0,1],
 o (.conv .u64 (t 131)) 132 [2],
 o (.bin .shr (t 132) (.eD (.v (.int .u64 1)))) 133 [3],
 o (.conv .i64 (t 133)) 134 [4],
 m 134 18 (k [5] 5)]
def Qq:ah:=[
 n 18 135,
 n 2 136,
 b .add 135 136 137 [0,1],
 m 137 19 [2,0,1,2]]
def Qr:ah:=[
 I 0 20,
 o (.jS (i 0)) 21 [0]]
def Qs:ah:=[
 n 2 138,
 n 18 139,
 b .gtr 138 139 140 [0,1]]
def Qt:ah:=[
 n 19 141,
 n 3 142,
 b .sub 141 142 143 [0,1],
 m 143 20 [2,0,1,2]]
def Qu:ah:=[
 n 18 144,
 m 144 21 [0,0]]
def Qv:ah:=[
 n 1 145,
 m 145 20 [0,0]]
def Qw:ah:=[
 n 2 146,
 m 146 21 [0,0]]
def Qx:ah:=[
 n 19 147,
 C .sub 147 1 148 [0],
 m 148 22 [1,0,1]]
def Qy:ah:=[
 n 20 149,
 n 21 150,
 b .lss 149 150 151 [0,1]]
def Qz:ah:=[
 n 20 152,
 n 21 153,
 b .add 152 153 154 [0,1],
 o (.conv .u64 (t 154)) 155 [2],
 o (.bin .shr (t 155) (.eD (.v (.int .u64 1)))) 156 [3],
 o (.conv .i64 (t 156)) 157 [4],
 m 157 23 (k [5] 5)]
def QA:ah:=[
 n 4 158,
 n 0 159,
 n 22 160,
 n 23 161,
 b .sub 160 161 162 [2,3],
 x 5 159 162 163 [1,4],
 L 5 163 164 [5],
 n 0 165,
 n 23 166,
 x 5 165 166 167 [7,8],
 L 5 167 168 [9],
 o (.callv (t 158) [(t 164),(t 168)]) 169 [0,6,10],
 C .lss 169 0 170 [11],
 U 170 171 [12]]
def QB:ah:=[
 n 23 172,
 C .add 172 1 173 [0],
 m 173 20 [1,0,1]]
def QC:ah:=[
 n 23 174,
 m 174 21 [0,0]]
def QD:ah:=[
 n 19 175,
 n 20 176,
 b .sub 175 176 177 [0,1],
 m 177 24 [2,0,1,2]]
def QE:ah:=[
 n 20 178,
 n 2 179,
 b .lss 178 179 180 [0,1],
 m 180 181 [2],
 w 2 182 181 true [3],
 w 24 183 181 true [3],
 D .lss 182 183 184 181 true [4,5,3],
 q 181 184 185 [3,6]]
def Bj:ah:=[
 n 0 186,
 n 20 187,
 n 2 188,
 n 24 189,
 n 4 190,
 o (.callS 118 [(t 186),(t 187),(t 188),(t 189),(t 190)]) 191 (k [] 4)]
def ab2:ah:=Bj.map bare
def QF:ah:=[
 n 1 192,
 n 20 193,
 b .lss 192 193 194 [0,1],
 m 194 195 [2],
 w 20 196 195 true [3],
 w 18 197 195 true [3],
 D .lss 196 197 198 195 true [4,5,3],
 q 195 198 199 [3,6]]
def Bk:ah:=[
 n 0 200,
 n 1 201,
 n 20 202,
 n 18 203,
 n 4 204,
 o (.callS 111 [(t 200),(t 201),(t 202),(t 203),(t 204)]) 205 (k [] 4)]
def ab3:ah:=Bk.map bare
def QG:ah:=[
 n 18 206,
 n 24 207,
 b .lss 206 207 208 [0,1],
 m 208 209 [2],
 w 24 210 209 true [3],
 w 3 211 209 true [3],
 D .lss 210 211 212 209 true [4,5,3],
 q 209 212 213 [3,6]]
def Bl:ah:=[
 n 0 214,
 n 18 215,
 n 24 216,
 n 3 217,
 n 4 218,
 o (.callS 111 [(t 214),(t 215),(t 216),(t 217),(t 218)]) 219 (k [] 4)]
def ab4:ah:=Bl.map bare
def d50:DC:=(j (j (y DK) (.cond (.tmp 28) (j (y DL) (j (y zL) (j (.block 0 (.loop (j (j (y Ya) (.cond (.tmp 33) .skip (.exit 0))) (.block 1 (j (y Yb) (j (Y Yc) (.cond (.tmp 50) (y Yd) (y Ye)))))))) (j (j (y Yf) (.block 2 (.loop (j (j (y Yg) (.cond (.tmp 58) .skip (.exit 2))) (j (.block 3 (Y Qb)) (y Qc)))))) .ret)))) .skip)) (j (j (y Qd) (.cond (.tmp 80) (j (y Qe) (j (y Qf) (j (.block 4 (.loop (j (j (y Qg) (.cond (.tmp 85) .skip (.exit 4))) (.block 5 (j (y Qh) (j (Y Qi) (.cond (.tmp 103) (y Qj) (y Qk)))))))) (j (j (y Ql) (.block 6 (.loop (j (j (y Qm) (.cond (.tmp 110) .skip (.exit 6))) (j (.block 7 (Y Qn)) (y Qo)))))) .ret)))) .skip)) (j (y Qp) (j (y Qq) (j (y Qr) (j (j (y Qs) (.cond (.tmp 140) (j (y Qt) (y Qu)) (j (y Qv) (y Qw)))) (j (y Qx) (j (.block 8 (.loop (j (j (y Qy) (.cond (.tmp 151) .skip (.exit 8))) (.block 9 (j (y Qz) (j (Y QA) (.cond (.tmp 171) (y QB) (y QC)))))))) (j (y QD) (j (j (y QE) (.cond (.tmp 185) (y ab2) .skip)) (j (j (y QF) (.cond (.tmp 199) (y ab3) .skip)) (j (y QG) (.cond (.tmp 213) (y ab4) .skip)))))))))))))
def abT:List cV:=[]
def c50 [bh]:av Tryd.prog 111 220 d50 abT:=av.of Tryd.f111 (by kernel_rfl)
def Yh:ah:=[
 n 2 12,
 n 1 13,
 b .sub 12 13 14 [0,1],
 m 14 10 [2,0,1,2]]
def Yi:ah:=[
 n 3 15,
 n 2 16,
 b .sub 15 16 17 [0,1],
 m 17 11 [2,0,1,2]]
def Yj:ah:=[
 n 10 18,
 n 11 19,
 b .neq 18 19 20 [0,1]]
def Yk:ah:=[
 n 10 21,
 n 11 22,
 b .gtr 21 22 23 [0,1]]
def GI:ah:=[
 n 0 24,
 n 2 25,
 n 10 26,
 b .sub 25 26 27 [1,2],
 n 2 28,
 n 11 29,
 n 4 30,
 o (.callS 120 [(t 24),(t 27),(t 28),(t 29),(t 30)]) 31 [0,3,4,5,6]]
def afb:ah:=GI.map bare
def Yl:ah:=[
 n 10 32,
 n 11 33,
 b .sub 32 33 34 [0,1],
 m 34 10 [2,0,1,2]]
def GJ:ah:=[
 n 0 35,
 n 2 36,
 n 10 37,
 b .sub 36 37 38 [1,2],
 n 2 39,
 n 11 40,
 b .add 39 40 41 [4,5],
 n 10 42,
 b .sub 41 42 43 [6,7],
 n 10 44,
 n 4 45,
 o (.callS 120 [(t 35),(t 38),(t 43),(t 44),(t 45)]) 46 [0,3,8,9,10]]
def afc:ah:=GJ.map bare
def Ym:ah:=[
 n 11 47,
 n 10 48,
 b .sub 47 48 49 [0,1],
 m 49 11 [2,0,1,2]]
def GK:ah:=[
 n 0 50,
 n 2 51,
 n 10 52,
 b .sub 51 52 53 [1,2],
 n 2 54,
 n 10 55,
 n 4 56,
 o (.callS 120 [(t 50),(t 53),(t 54),(t 55),(t 56)]) 57 [0,3,4,5,6]]
def afd:ah:=GK.map bare
def d51:DC:=(j (y Yh) (j (y Yi) (j (.block 0 (.loop (j (j (y Yj) (.cond (.tmp 20) .skip (.exit 0))) (.block 1 (j (y Yk) (.cond (.tmp 23) (j (y afb) (y Yl)) (j (y afc) (y Ym)))))))) (y afd))))
def QH:List cV:=[]
def c51 [bh]:av Tryd.prog 118 58 d51 QH:=av.of Tryd.f118 (by kernel_rfl)
def Yn:ah:=[
 I 0 10]
def Yo:ah:=[
 n 10 11,
 n 3 12,
 b .lss 11 12 13 [0,1]]
def Yp:ah:=[
 n 0 16,
 n 1 17,
 n 10 18,
 b .add 17 18 19 [1,2],
 n 0 20,
 n 2 21,
 n 10 22,
 b .add 21 22 23 [5,6],
 n 0 24,
 n 2 25,
 n 10 26,
 b .add 25 26 27 [9,10],
 x 5 24 27 28 [8,11],
 L 5 28 29 [12],
 n 0 30,
 n 1 31,
 n 10 32,
 b .add 31 32 33 [15,16],
 x 5 30 33 34 [14,17],
 L 5 34 35 [18],
 x 5 16 19 36 [0,3,0,1,2,3,8,9,10,11,12,13,19],
 S 5 36 29 [20,13,0,1,2,3,8,9,10,11,12,13,19],
 x 5 20 23 37 (k [4,7] 21),
 S 5 37 35 (k [22,19,21] 21)]
def Yq:ah:=[
 n 10 14,
 C .add 14 1 15 [0],
 m 15 10 [1,0,1]]
def d52:DC:=(j (y Yn) (.block 0 (.loop (j (j (y Yo) (.cond (.tmp 13) .skip (.exit 0))) (j (.block 1 (Y Yp)) (y Yq))))))
def QI:List cV:=[]
def c52 [bh]:av Tryd.prog 120 38 d52 QI:=av.of Tryd.f120 (by kernel_rfl)
def DN:ah:=[
 B 0 5,
 B 1 6,
 B 2 7,
 B 3 8,
 B 4 9,
 o (.jS (.eD (.v (.mb (Go.Value.nilFunc))))) 10 []]
def DO:ah:=[
 L 4 5 14 [],
 L 3 6 15 [],
 o (.call 61 [(t 14),(t 15)]) 16 [0,1],
 o (.alloc [V 0,V 0]) 11 [],
 S 2 11 16 [3,2,2,0,1,2,3]]
def DP:ah:=[
 a 3 5 17 [],
 l 17 18 [0],
 l 7 19 [],
 x 6 18 19 20 [1,2],
 L 6 20 21 [3],
 o (.alloc [V 0,V 0,V 0,V 0,V 0,V 0]) 12 [],
 S 6 12 21 (k [5,4] 5)]
def DQ:ah:=[
 o (.mkFn (.func 90) [(t 11),(t 12),(t 8),(t 9),(t 7)]) 22 [],
 o (.alloc [(.v (.mb (Go.Value.nilFunc)))]) 13 [],
 S 1 13 22 [1,0,0,1]]
def DR:ah:=[
 o (.mkFn (.func 91) [(t 12),(t 8),(t 9),(t 13),(t 6),(t 11)]) 23 [],
 m 23 10 [0,0]]
def d34:DC:=(j (y DN) (j (y DO) (j (y DP) (j (y DQ) (j (y DR) .ret)))))
def aoW:List cV:=[.iZ 10]
def c34 [bh]:av Tryd.prog 63 24 d34 aoW:=av.of Tryd.f63 (by kernel_rfl)
def apq:ah:=[
 B 0 3,
 B 1 4,
 B 2 5,
 Z 6]
def apa:ah:=[
 Z 7]
def amx:ah:=[
 L 4 3 23 [],
 L 3 4 24 [],
 L 3 5 25 [],
 o (.call 30 [(t 23),(t 24),(t 25)]) 26 [0,1,2],
 m 26 22 [3],
 e 0 22 27 [4],
 e 1 22 28 [4],
 m 27 8 (k [5,3] 5),
 m 28 9 (k [6,7] 7)]
def amy:ah:=[
 I 0 10]
def amz:ah:=[
 n 10 29,
 a 3 3 30 [],
 l 30 31 [1],
 N 31 32 [2],
 b .lss 29 32 33 [0,3]]
def amA:ah:=[
 a 3 3 36 [],
 l 36 37 [0],
 n 10 38,
 x 6 37 38 39 [1,2],
 L 6 39 40 [3],
 o (.alloc [V 0,V 0,V 0,V 0,V 0,V 0]) 11 [],
 S 6 11 40 (k [5,4] 5)]
def amB:ah:=[
 a 1 11 41 [],
 l 41 42 [0],
 a 0 5 43 [],
 l 43 44 [2],
 b .neq 42 44 45 [1,3]]
def amC:ah:=[
 n 8 46,
 a 4 11 47 [],
 l 47 48 [1],
 o (.build [V 0,.aF,V 0,V 0,V 0] [(0,1,(t 46)),(2,1,(t 48))]) 49 [0,2],
 o (.alloc [V 0,.aF,V 0,V 0,V 0]) 12 [],
 S 5 12 49 (k [4,3] 4)]
def amD:ah:=[
 a 0 11 50 [],
 l 50 51 [0]]
def amE:ah:=[
 C .eql 51 1 53 [],
 m 53 52 [0]]
def arH:ah:=[
 a 1 5 54 [],
 l 54 55 [0],
 a 2 5 56 [],
 l 56 57 [2],
 b .eql 55 57 58 [1,3]]
def arI:ah:=[
 n 10 59,
 a 1 5 60 [],
 l 60 61 [1],
 o (.build [V 0,V 0] [(0,1,(t 59)),(1,1,(t 61))]) 62 [0,2],
 a 3 12 63 [0,1,2,3],
 S 2 63 62 [4,3,0,1,2,3]]
def arJ:ah:=[
 n 7 64,
 L 5 12 65 [],
 o (.bslice 1 5 [V 0,.aF,V 0,V 0,V 0] [(0,5,(t 65))]) 66 [1],
 o (.append 79 5 56 (t 64) (t 66)) 67 [0,2],
 m 67 7 [3,3,0,1,2,3]]
def arK:ah:=[
 C .eql 51 2 69 [],
 m 69 68 [0]]
def arL:ah:=[
 I 0 13]
def arM:ah:=[
 n 13 70,
 a 1 4 71 [],
 l 71 72 [1],
 N 72 73 [2],
 b .lss 70 73 74 [0,3]]
def arN:ah:=[
 a 1 4 77 [],
 l 77 78 [0],
 n 13 79,
 x 5 78 79 80 [1,2],
 L 5 80 81 [3],
 o (.alloc [V 0,V 0,V 0,V 0,.aF]) 14 [],
 S 5 14 81 (k [5,4] 5)]
def arO:ah:=[
 a 0 14 82 [],
 l 82 83 [0],
 a 1 5 84 [],
 l 84 85 [2],
 b .eql 83 85 86 [1,3],
 m 86 87 [4],
 u 1 14 88 87 true [5],
 v 88 89 87 true [6,5],
 u 2 5 90 87 true [5],
 v 90 91 87 true [8,5],
 D .eql 89 91 92 87 true [7,9,5],
 q 87 92 93 [5,10],
 m 93 94 [11,5],
 u 2 14 95 94 true [12],
 v 95 96 94 true [13,12],
 u 2 11 97 94 true [12],
 v 97 98 94 true [15,12],
 D .eql 96 98 99 94 true [14,16,12],
 q 94 99 100 [12,17]]
def arP:ah:=[
 n 10 101,
 n 13 102,
 o (.build [V 0,V 0] [(0,1,(t 101)),(1,1,(t 102))]) 103 [0,1],
 a 3 12 104 [0,1,2],
 S 2 104 103 [3,2,0,1,2]]
def arQ:ah:=[
 a 4 11 105 [],
 l 105 106 [0],
 a 3 14 107 [],
 l 107 108 [2],
 b .add 106 108 109 [1,3],
 o (.minmax false (t 109) (i 1099511627776)) 110 [4],
 a 2 12 111 (k [] 5),
 S 1 111 110 (k [6,5] 5)]
def arR:ah:=[
 n 7 112,
 L 5 12 113 [],
 o (.bslice 1 5 [V 0,.aF,V 0,V 0,V 0] [(0,5,(t 113))]) 114 [1],
 o (.append 79 5 56 (t 112) (t 114)) 115 [0,2],
 m 115 7 [3,3,0,1,2,3]]
def arS:ah:=[
 n 13 75,
 C .add 75 1 76 [0],
 m 76 13 [1,0,1]]
def arT:ah:=[
 C .eql 51 3 117 [],
 m 117 116 [0]]
def arU:ah:=[
 L 4 3 119 [],
 L 3 4 120 [],
 a 2 11 121 [],
 l 121 122 [2],
 a 1 5 123 [],
 l 123 124 [4],
 a 2 5 125 [],
 l 125 126 [6],
 o (.build [V 0,V 0,V 0] [(0,1,(t 122)),(1,1,(t 124)),(2,1,(t 126))]) 127 [3,5,7],
 o (.call 30 [(t 119),(t 120),(t 127)]) 128 [0,1,8],
 m 128 118 [9],
 e 0 118 129 [10],
 e 1 118 130 [10],
 m 129 15 (k [11,9] 11),
 m 130 16 (k [12,13] 13)]
def arV:ah:=[
 n 10 131,
 a 1 5 132 [],
 l 132 133 [1],
 o (.build [V 0,V 0] [(0,1,(t 131)),(1,1,(t 133))]) 134 [0,2],
 a 3 12 135 [0,1,2,3],
 S 2 135 134 [4,3,0,1,2,3]]
def arW:ah:=[
 n 15 136,
 o (.bslice 1 1 [V 0] [(0,1,(t 136))]) 137 [0],
 a 1 12 138 [0,1],
 S 1 138 137 [2,1,0,1]]
def arX:ah:=[
 n 7 139,
 L 5 12 140 [],
 o (.bslice 1 5 [V 0,.aF,V 0,V 0,V 0] [(0,5,(t 140))]) 141 [1],
 o (.append 79 5 56 (t 139) (t 141)) 142 [0,2],
 m 142 7 [3,3,0,1,2,3]]
def arY:ah:=[
 C .eql 51 4 144 [],
 m 144 143 [0]]
def arZ:ah:=[
 a 1 5 145 [],
 l 145 146 [0],
 m 146 17 [1,0,1]]
def ar0:ah:=[
 n 17 147,
 a 2 5 148 [],
 l 148 149 [1],
 b .leq 147 149 150 [0,2]]
def ar1:ah:=[
 L 4 3 154 [],
 L 3 4 155 [],
 a 2 11 156 [],
 l 156 157 [2],
 a 1 5 158 [],
 l 158 159 [4],
 n 17 160,
 o (.build [V 0,V 0,V 0] [(0,1,(t 157)),(1,1,(t 159)),(2,1,(t 160))]) 161 [3,5,6],
 o (.call 30 [(t 154),(t 155),(t 161)]) 162 [0,1,7],
 m 162 153 [8],
 e 0 153 163 [9],
 e 1 153 164 [9],
 m 163 18 (k [10,8] 10),
 m 164 19 (k [11,12] 12)]
def ar2:ah:=[
 L 4 3 166 [],
 L 3 4 167 [],
 a 3 11 168 [],
 l 168 169 [2],
 n 17 170,
 a 2 5 171 [],
 l 171 172 [5],
 o (.build [V 0,V 0,V 0] [(0,1,(t 169)),(1,1,(t 170)),(2,1,(t 172))]) 173 [3,4,6],
 o (.call 30 [(t 166),(t 167),(t 173)]) 174 [0,1,7],
 m 174 165 [8],
 e 0 165 175 [9],
 e 1 165 176 [9],
 m 175 20 (k [10,8] 10),
 m 176 21 (k [11,12] 12)]
def ar3:ah:=[
 n 10 177,
 n 17 178,
 o (.build [V 0,V 0] [(0,1,(t 177)),(1,1,(t 178))]) 179 [0,1],
 a 3 12 180 [0,1,2],
 S 2 180 179 [3,2,0,1,2]]
def ar4:ah:=[
 n 18 181,
 n 20 182,
 o (.bslice 2 1 [V 0,V 0] [(0,1,(t 181)),(1,1,(t 182))]) 183 [0,1],
 a 1 12 184 [0,1,2],
 S 1 184 183 [3,2,0,1,2]]
def ar5:ah:=[
 n 7 185,
 L 5 12 186 [],
 o (.bslice 1 5 [V 0,.aF,V 0,V 0,V 0] [(0,5,(t 186))]) 187 [1],
 o (.append 79 5 56 (t 185) (t 187)) 188 [0,2],
 m 188 7 [3,3,0,1,2,3]]
def ar6:ah:=[
 n 17 151,
 C .add 151 1 152 [0],
 m 152 17 [1,0,1]]
def ar7:ah:=[
 n 10 34,
 C .add 34 1 35 [0],
 m 35 10 [1,0,1]]
def ar8:ah:=[
 n 7 189,
 m 189 6 [0,0]]
def d38:DC:=(j (y apq) (j (y apa) (j (y amx) (j (j (y amy) (.block 0 (.loop (j (j (y amz) (.cond (.tmp 33) .skip (.exit 0))) (j (.block 1 (j (y amA) (j (j (y amB) (.cond (.tmp 45) (.exit 1) .skip)) (j (y amC) (j (y amD) (.block 2 (j (y amE) (.cond (.tmp 52) (j (y arH) (.cond (.tmp 58) (j (y arI) (y arJ)) .skip)) (j (y arK) (.cond (.tmp 68) (j (y arL) (.block 3 (.loop (j (j (y arM) (.cond (.tmp 74) .skip (.exit 3))) (j (.block 4 (j (y arN) (j (y arO) (.cond (.tmp 100) (j (y arP) (j (y arQ) (y arR))) .skip)))) (y arS)))))) (j (y arT) (.cond (.tmp 116) (j (y arU) (j (y arV) (j (y arW) (y arX)))) (j (y arY) (.cond (.tmp 143) (j (y arZ) (.block 5 (.loop (j (j (y ar0) (.cond (.tmp 150) .skip (.exit 5))) (j (.block 6 (j (y ar1) (j (y ar2) (j (y ar3) (j (y ar4) (y ar5)))))) (y ar6)))))) .skip)))))))))))))) (y ar7)))))) (j (y ar8) .ret)))))
def aoX:List cV:=[.iZ 6]
def c38 [bh]:av Tryd.prog 35 190 d38 aoX:=av.of Tryd.f35 (by kernel_rfl)
def DT:ah:=[
 B 0 2,
 B 1 3,
 o (.alloc [V 0,.aF]) 4 []]
def DU:ah:=[
 Z 5]
def DW:ah:=[
 I 0 6]
def Iu:ah:=[
 n 6 13,
 a 0 3 14 [],
 l 14 15 [1],
 b .lss 13 15 16 [0,2]]
def DX:ah:=[
 n 6 19,
 m 19 7 [0,0]]
def DY:ah:=[
 n 7 20,
 a 0 3 21 [],
 l 21 22 [1],
 b .lss 20 22 23 [0,2]]
def DZ:ah:=[
 I 0 8]
def Iv:ah:=[
 n 8 26,
 a 1 2 27 [],
 l 27 28 [1],
 b .lss 26 28 29 [0,2]]
def Iw:ah:=[
 n 5 32,
 L 4 2 33 [],
 L 3 3 34 [],
 n 8 35,
 n 6 36,
 n 7 37,
 o (.build [V 0,V 0,V 0] [(0,1,(t 35)),(1,1,(t 36)),(2,1,(t 37))]) 38 [3,4,5],
 o (.call 35 [(t 33),(t 34),(t 38)]) 39 [1,2,6],
 o (.append 79 5 56 (t 32) (t 39)) 40 [0,7,7],
 m 40 5 (k [8,8] 8)]
def D0:ah:=[
 n 8 30,
 C .add 30 1 31 [0],
 m 31 8 [1,0,1]]
def xH:ah:=[
 n 7 24,
 C .add 24 1 25 [0],
 m 25 7 [1,0,1]]
def xI:ah:=[
 n 6 17,
 C .add 17 1 18 [0],
 m 18 6 [1,0,1]]
def xJ:ah:=[
 L 4 2 41 [],
 L 3 3 42 [],
 o (.call 36 [(t 41),(t 42)]) 43 [0,1],
 C .sub 43 1 44 [2],
 m 44 9 [3,2,0,1,2,3]]
def xK:ah:=[
 I 0 10]
def Bm:ah:=[
 n 10 45,
 a 0 3 46 [],
 l 46 47 [1],
 b .lss 45 47 48 [0,2]]
def xL:ah:=[
 a 2 3 51 [],
 l 51 52 [0],
 n 10 53,
 x 1 52 53 54 [1,2],
 l 54 55 [3],
 C .lss 55 1099511627776 56 [4]]
def xM:ah:=[
 L 4 2 58 [],
 L 3 3 59 [],
 a 2 2 60 [],
 l 60 61 [2],
 n 10 62,
 o (.build [V 0,V 0,V 0] [(0,1,(t 61)),(2,1,(t 62))]) 63 [3,4],
 o (.call 30 [(t 58),(t 59),(t 63)]) 64 [0,1,5],
 m 64 57 [6],
 e 0 57 65 [7],
 e 1 57 66 [7],
 m 65 11 (k [8,6] 8),
 m 66 12 (k [9,10] 10)]
def xN:ah:=[
 n 5 67,
 n 9 68,
 n 11 69,
 o (.bslice 1 1 [V 0] [(0,1,(t 69))]) 70 [2],
 a 2 3 71 [],
 l 71 72 [4],
 n 10 73,
 x 1 72 73 74 [5,6],
 l 74 75 [7],
 n 10 76,
 o (.build [V 0,V 0] [(0,1,(i (-1))),(1,1,(t 76))]) 77 [9],
 o (.build [V 0,.aF,V 0,V 0,V 0] [(0,1,(t 68)),(1,1,(t 70)),(2,1,(t 75)),(3,2,(t 77))]) 78 [1,3,8,10],
 o (.bslice 1 5 [V 0,.aF,V 0,V 0,V 0] [(0,5,(t 78))]) 79 [11],
 o (.append 79 5 56 (t 67) (t 79)) 80 [0,12],
 m 80 5 (k [13,13] 13)]
def xO:ah:=[
 n 10 49,
 C .add 49 1 50 [0],
 m 50 10 [1,0,1]]
def xP:ah:=[
 n 9 81,
 C .add 81 1 82 [0],
 n 5 83,
 o (.build [V 0,.aF] [(0,1,(t 82)),(1,1,(t 83))]) 84 [1,2],
 S 2 4 84 [3,0,1,2,3]]
def d12:DC:=(j (y DT) (j (y DU) (j (j (y DW) (.block 0 (.loop (j (j (y Iu) (.cond (.tmp 16) .skip (.exit 0))) (j (.block 1 (j (y DX) (.block 2 (.loop (j (j (y DY) (.cond (.tmp 23) .skip (.exit 2))) (j (.block 3 (j (y DZ) (.block 4 (.loop (j (j (y Iv) (.cond (.tmp 29) .skip (.exit 4))) (j (.block 5 (y Iw)) (y D0))))))) (y xH))))))) (y xI)))))) (j (y xJ) (j (j (y xK) (.block 6 (.loop (j (j (y Bm) (.cond (.tmp 48) .skip (.exit 6))) (j (.block 7 (j (y xL) (.cond (.tmp 56) (j (y xM) (y xN)) .skip))) (y xO)))))) (j (y xP) .ret))))))
def xQ:List cV:=[.cell 4 2 true]
def c12 [bh]:av Tryd.prog 17 85 d12 xQ:=av.of Tryd.f17 (by kernel_rfl)
end It
end Go.Proofs
namespace Go.Proofs.It
open Go.DM
def fU(nt st:Int)(r:bU)(f t k:Int)(aG arg:Int)(dv:b8):Edge:=⟨fo nt st r.head f t,dv,min aG mr,k,arg⟩
def eU(nt st:Int)(r:bU)(f t k:Int):ar:=[.box [ti nt,ti st],.box r.enc,.box [ti f],.box [ti t],.box [ti k]]
def Q9(r:bU):Prop:=0<=r.head/\r.head<=1000/\0<=r.cA/\r.cA<=1000
def B2(f t:Int):Prop:=0<=f/\f<=t/\t<=1000
def t46(nt st:Int)(r:bU)(f t k aG arg:Int)(dv:b8)(h:sm nt st)(hr:Q9 r)(hf:B2 f t):
  aI Tryd.prog 90 ([ti aG,ti arg,.sl (aw dv)]++eU nt st r f t k) (.agg (fU nt st r f t k aG arg dv).enc):=by
 have am:=IZ;refine c46.ok (by simp[eU]) (aC ?_);simp[eU,bU.enc];apply aa.ag am fw [0,1,2,3,4,5,6,7,11];simp[DB];apply aa.ag am fw [11];simp[Ir,JQ,oY,L7,Dz];refine⟨⟨h, ?_⟩, ?_⟩
 ·unfold Q9 at hr;unfold B2 at hf;omega
 apply aa.ret;simp[xC,fU,Edge.enc]
def t36(a b:Edge)(ha:0<=a.head/\a.head<=1000000000000)(hb:0<=b.head/\b.head<=1000000000000):aI Tryd.prog 65 [.agg a.enc,.agg b.enc] (ti (a.head-b.head)):=by
 have am:au Tryd.prog (bG []):=au.nil;refine c36.ok (by simp) (aC ?_);simp[Edge.enc];apply aa.ag am fw [2,3,4];simp[DA];apply aa.ag am fw [4];simp[uK];apply aa.ret;simp[ci];rw[aq (by omega)]
def tC(nt st:Int)(r:bU)(aL:List bk)(je:b8)(f t k:Int):ar:=[.box r.enc,.box [ti f],.box [ti t],.box [.fn (.func 90) (eU nt st r f t k)],.box [ti st,.sl (aV aL),.sl (aw je)],.box [ti nt,ti st]]
def t34(n:aA)(l:aM)(k:Nat)(f t:Int)(hk:k<n.ak.length):
  aI Tryd.prog 63 [n.enc,l.enc,ti k,ti f,ti t] (.fn (.func 91) (tC n.ae l.aj (n.ak.getD k default) l.aL l.bK f t k)):=by
 have am:=IZ;refine c34.ok (by simp) (aC ?_);simp[aA.enc,aM.enc];apply aa.ag am fw [5,6,7,8,9,10];simp[DN];apply aa.ag am fw [5,6,7,8,9,11];simp[DO,JQ,qI,L6,Py];refine⟨⟨⟨n,rfl⟩,⟨l,rfl⟩⟩, ?_⟩;apply aa.ag am fw [6,7,8,9,11,12];have fz:=iO hk;simp[DP,fz,hk,bU.enc];generalize n.ak[k]=r;refine aa.le (Le.aD (o:=[]) (l:=[(6,.v (.box [ti l.aj,.sl (aV l.aL),.sl (aw l.bK)])),(7,.v (.box [ti k])),(8,.v (.box [ti f])),(9,.v (.box [ti t])),(11,.v (.box [ti n.ae,ti l.aj])),(12,.v (.box r.enc))]) (bC:=1100) ?_ ?_ ?_ ?_) ?_;iterate 3(·simp)
 ·simp[bU.enc]
 apply aa.ag am fw [6,8,9,11,12,13];simp[DQ];refine aa.le (Le.aD (o:=[]) (l:=[(6,.v (.box [ti l.aj,.sl (aV l.aL),.sl (aw l.bK)])),(8,.v (.box [ti f])),(9,.v (.box [ti t])),(11,.v (.box [ti n.ae,ti l.aj])),(12,.v (.box r.enc)),(13,.v (.box [.fn (.func 90) (eU n.ae l.aj r f t k)]))]) (bC:=1200) ?_ ?_ ?_ ?_) ?_;iterate 3(·simp)
 ·simp[eU]
 apply aa.ag am fw [10];simp[DR];apply aa.ret;simp[aoW,tC,eU]
def YW(ts:ar):Prop:=∃(nt st:Int) (r:bU) (f t k aG arg:Int) (dv:b8),ts=[ti aG,ti arg,.sl (aw dv),.box [ti nt,ti st],.box r.enc,.box [ti f],.box [ti t],.box [ti k]]/\sm nt st/\Q9 r/\B2 f t
def RZ:ar->T
 |[.int _ aG,.int _ arg,.sl dv,.box [.int _ nt,.int _ st],.box r,.box [.int _ f],.box [.int _ t],.box [.int _ k]]=>
  .agg (fU nt st (iu r) f t k aG arg (dS dv)).enc
 |_=>.bool false
@[simp] def uI(r:bU):iu r.enc=r:=rfl
@[simp] def UZ(a b c d e f:Int):iu [ti a,ti b,ti c,ti d,ti e,ti f]=⟨a,b,c,d,e,f⟩:=rfl
def I0:gP:=bG [(66,oY),(90,bp YW RZ false)]
def ok6:au Tryd.prog I0:=by
 refine au.cons (au.cons au.nil ?_) ?_
 ·rintro ts ⟨nt,st,r,f,t,k,aG,arg,dv,rfl,h1,h2,h3⟩;exact⟨by simpa [RZ,eU]using t46 nt st r f t k aG arg dv h1 h2 h3,by intro h;cases h⟩
 ·intro ts h
  match ts,h with
  |[.agg [.int .i64 nt,.int .i64 st],.int .i64 h,.int .i64 f,.int .i64 t],h1=>exact⟨t37 au.nil nt st h f t h1.1 h1.2,λ_=>rfl⟩
def inst(nt st:Int)(r:bU)(aL:List bk)(f t k:Int):List Edge:=
 if r.kind=1 then(if f=t then [fU nt st r f t k r.cA f []]else [])
 else if r.kind=2 then(List.range aL.length).flatMap λi=>if(aL.getD i default).f=f/\(aL.getD i default).t=t/\(aL.getD i default).term=r.a then [fU nt st r f t k (r.cA+(aL.getD i default).aG) i []]else []
 else if r.kind=3 then [fU nt st r f t k r.cA f [fo nt st r.a f t]]
 else if r.kind=4 then(List.range (t-f+1).toNat).map λj:Nat=>fU nt st r f t k r.cA (f+j) [fo nt st r.a f (f+j),fo nt st r.b (f+j) t]
 else []
def cq(l:List Edge):List (ar):=l.map λe=>[.agg e.enc]
def abX(r:bU):Prop:=Q9 r/\(r.kind=3->0<=r.a/\r.a<=1000)/\(r.kind=4->0<=r.a/\r.a<=1000/\0<=r.b/\r.b<=1000)
def Pw(l:List bk):Prop:=l.length<=140737488355328/\∀a∈l,0<=a.aG/\a.aG<=mr
@[simp] def aiv:(cC []=λ_=>none)=True:=by simp;funext;rfl
@[simp] def YX:dS []=[]:=rfl
@[simp] def YY(a:Int):dS [[ti a]]=[a]:=rfl
@[simp] def YZ(a b:Int):dS [[ti a],[ti b]]=[a,b]:=rfl
def iB(nt st:Int)(r:bU)(aL:List bk)(f t k:Int)(i:Nat):List Edge:=
 if(aL.getD i default).f=f/\(aL.getD i default).t=t/\(aL.getD i default).term=r.a then [fU nt st r f t k (r.cA+(aL.getD i default).aG) i []]else []
def nL(nt st:Int)(r:bU)(f t k:Int)(j:Nat):Edge:=fU nt st r f t k r.cA (f+j) [fo nt st r.a f (f+j),fo nt st r.b (f+j) t]
def xR{n y:Nat}(h:y<n):(List.range n).drop y=y::(List.range n).drop (y+1):=by
 rw[Hd (by simpa using h)];simp
@[simp] def MP(n:Nat):(List.range n).drop n=[]:=zN (by simp)
@[simp] def adQ(a:T):dW 1 1 [a]=[[a]]:=rfl
@[simp] def adR(a b:T):dW 1 2 [a,b]=[[a],[b]]:=rfl
def t47(nt st:Int)(r:bU)(aL:List bk)(je:b8)(f t k:Int)(h:sm nt st)(hr:abX r)(hf:B2 f t)(ha:Pw aL):
  abI Tryd.prog 91 (tC nt st r aL je f t k) (cq (inst nt st r aL f t k)):=by
 have am:=ok6;obtain⟨u4,GN⟩:=ba (cq (inst nt st r aL f t k));rw[GN];refine c47.okI (by simp[tC]) (LB ?_);simp[tC,bU.enc,eU];apply aa.ag am fw [0,1,2,3,4,5,6,12];simp[DD];apply aa.block;apply aa.ag am fw [0,1,2,3,4,5,6,12,13];simp[DE];obtain⟨mU,hr3,hr4⟩:=hr;have kh:∀(aG arg:Int) (dv:List (ar)),(∃l,dv=aw l)->YW [ti aG,ti arg,.sl dv,.box [ti nt,ti st],.box [ti r.kind,ti r.head,ti r.a,ti r.b,ti r.cA,ti r.origin],.box [ti f],.box [ti t],.box [ti k]]:=by
  rintro aG arg _ ⟨l,rfl⟩;exact⟨nt,st,r,f,t,k,aG,arg,l,rfl,h,mU,hf⟩
 have Bp:∀a f' t',0<=a/\a<=1000->0<=f'/\f'<=1000->0<=t'/\t'<=1000->Dz [.agg [ti nt,ti st],ti a,ti f',ti t']:=λa f' t' h1 h2 h3=>⟨h,h1.1,h1.2,h2.1,h2.2,h3.1,h3.2⟩;obtain⟨Vb,Vc,hf3⟩:=hf;refine aa.cond rfl (λe1=>?_) (λe1=>?_)
 ·simp only[o5]at e1;apply aa.ag am fw [0,1,2,4,17];simp[DF];refine aa.cond rfl (λe2=>?_) (λe2=>?_)
  ·simp only[o5]at e2;have hi:u4=[[.agg (fU nt st r f t k r.cA f []).enc]]:=by rw[<-GN];simp[inst,e1,e2,cq]
   rw[hi];apply aa.cX am fw [];simp[DG,I0,bp,RZ,Gg];exact kh _ _ _ ⟨[],rfl⟩
  ·apply aa.skip;simp only[nX]at e2;have hi:u4=[]:=by rw[<-GN];simp[inst,e1,e2,cq]
   simp[hi,Gg]
 simp only[nX]at e1;apply aa.ag am fw [0,1,2,3,4,5,6,12,25];simp[Is];refine aa.cond rfl (λe2=>?_) (λe2=>?_)
 ·simp only[o5]at e2;have hi:u4=cq ((List.range aL.length).flatMap (iB nt st r aL f t k)):=by rw[<-GN];simp only[inst,e2];rfl
  apply aa.ag am fw [0,1,2,3,4,28,29,30];simp[DH];apply aa.block;refine aa.loop (λy:Nat=>⟨DM.look [(0,.vU),(1,.v (.box r.enc)),(2,.v (.box [ti f])),(3,.v (.box [ti t])),(4,.v (.box [.fn (.func 90) (eU nt st r f t k)])),(28,.v (.sl (aV aL))),(29,.v (ti aL.length)),(30,.v (ti y))],cC [],2000,0,cq (((List.range aL.length).drop y).flatMap (iB nt st r aL f t k))⟩)
   (λy=>y<=aL.length) (λy=>aL.length-y) 0 ?_ (by simp) (λy hy=>?_)
  ·rw[hi];refine Le.aD ?_ ?_ ?_ ?_;iterate 3(·simp)
   ·simp[bU.enc,eU]
  have dI:=ha.1;apply aa.ag am fw [0,1,2,3,4,28,29,30,31];simp[XZ];apply aa.seq;refine aa.cond rfl (λhc=>?_) (λhc=>?_)
  ·simp at hc;obtain⟨a,Rv⟩:=ba (aL.getD y default);have fz:=qK hc;rw[Rv]at fz;have Y0:0<=a.aG/\a.aG<=mr:=ha.2 a (by rw[<-Rv];simp[hc]);rw[xR hc];simp only[KO,cq,qQ];apply aa.skip;simp;apply aa.seq;apply aa.block;apply aa.ag am fw [0,1,2,3,4,8,9,28,29,30];simp[X0,fz,hc,bk.enc];refine aa.le (Le.aD (o:=[]) (l:=[(0,.vU),(1,.v (.box r.enc)),(2,.v (.box [ti f])),(3,.v (.box [ti t])),(4,.v (.box [.fn (.func 90) (eU nt st r f t k)])),(8,.v (ti y)),(9,.v (.box a.enc)),(28,.v (.sl (aV aL))),(29,.v (ti aL.length)),(30,.v (ti y))]) (bC:=3000) ?_ ?_ ?_ ?_) ?_;iterate 3(·simp)
   ·simp[bU.enc,eU,bk.enc]
   simp only[mr]at Y0;have hwr:IntKind.i64.wrap (r.cA+a.aG)=r.cA+a.aG:=aq (by unfold Q9 at mU;omega);refine aa.to ⟨DM.look [(0,.vU),(1,.v (.box r.enc)),(2,.v (.box [ti f])),(3,.v (.box [ti t])),(4,.v (.box [.fn (.func 90) (eU nt st r f t k)])),(28,.v (.sl (aV aL))),(29,.v (ti aL.length)),(30,.v (ti y))],cC [],4000,0,cq (((List.range aL.length).drop (y+1)).flatMap (iB nt st r aL f t k))⟩ ?_ ?_
   ·by_cases hm:a.f=f/\a.t=t/\a.term=r.a
    ·obtain⟨m1,m2,m3⟩:=hm;have ht:iB nt st r aL f t k y=[fU nt st r f t k (r.cA+a.aG) y []]:=by simp only[iB,Rv,m1,m2,m3,and_self,yh]
     simp only[ht,l8,Ui,CE,z6];apply aa.ag am fw [0,1,2,3,4,28,29,30,64];simp only[PT,bk.enc,bU.enc,eU];simp[I0,bp,RZ,m1,m2,m3,hwr];refine⟨kh _ _ _ ⟨[],rfl⟩, ?_⟩;refine aa.cond rfl (λh=>by cases h) (λ_=>?_);apply aa.skip;refine⟨rfl,Le.aD ?_ ?_ ?_ ?_⟩<;>simp
    ·have ht:iB nt st r aL f t k y=[]:=by simp only[iB,Rv,hm,Lg]
     simp only[ht,Ui,z6];refine aa.co am fw [(0,.vU),(1,.v (.box r.enc)),(2,.v (.box [ti f])),(3,.v (.box [ti t])),(4,.v (.box [.fn (.func 90) (eU nt st r f t k)])),(28,.v (.sl (aV aL))),(29,.v (ti aL.length)),(30,.v (ti y)),(64,.v (.bool false))] ?_ ?_
     ·simp only[PT,bk.enc,bU.enc,eU];simp[I0,bp,RZ,hwr];intro m1 m2 m3;exact yV ⟨m1,m2,m3⟩ hm
     refine aa.cond rfl (λh=>by cases h) (λ_=>?_);apply aa.skip;refine⟨rfl,Le.aD ?_ ?_ ?_ ?_⟩<;>simp[]
   ·simp;apply aa.cX am fw [0,1,2,3,4,28,29,30];simp[X3];refine⟨y+1,Le.aD ?_ ?_ ?_ ?_, ?_, ?_⟩;iterate 3(·simp)
    ·simp;exact(aq (by omega)).symm
    ·omega
    ·omega
  ·simp at hc;have eG:y=aL.length:=by omega
   subst eG;apply aa.exit;simp[Gg,cq]
 simp only[nX]at e2;apply aa.ag am fw [0,1,2,3,4,6,12,66];simp[PU];refine aa.cond rfl (λe3=>?_) (λe3=>?_)
 ·simp only[o5]at e3;have hi:u4=cq [fU nt st r f t k r.cA f [fo nt st r.a f t]]:=by rw[<-GN];simp only[inst,e3];rfl
  rw[hi];apply aa.cX am fw [];simp[PV,I0,bp,RZ,cq,Gg,oY,L7];exact⟨Bp _ _ _ (hr3 e3) (by omega) (by omega),kh _ _ _ ⟨[_],rfl⟩⟩
 simp only[nX]at e3;apply aa.ag am fw [0,1,2,3,4,6,82];simp[PW];refine aa.cond rfl (λe4=>?_) (λe4=>?_)
 ·simp only[o5]at e4;obtain⟨N,hN⟩:=ba ((t-f+1).toNat);have hi:u4=cq ((List.range N).map (nL nt st r f t k)):=by rw[<-GN,<-hN];simp only[inst,e4];rfl
  apply aa.ag am fw [0,1,2,3,4,6,10];simp[PX];obtain⟨rest,pU⟩:∃rest:Nat->List (ar),∀y,rest y=cq (((List.range N).drop y).map (nL nt st r f t k)):=⟨_,λ_=>rfl⟩;apply aa.block;refine aa.loop (λy:Nat=>⟨DM.look [(0,.vU),(1,.v (.box r.enc)),(2,.v (.box [ti f])),(3,.v (.box [ti t])),(4,.v (.box [.fn (.func 90) (eU nt st r f t k)])),(6,.v (.box [ti nt,ti st])),(10,.v (ti (f+y)))],cC [],2000,0,rest y⟩)
   (λy=>y<=N) (λy=>N-y) 0 ?_ (by simp) (λy hy=>?_)
  ·rw[hi,show cq ((List.range N).map (nL nt st r f t k))=rest 0 by rw[pU];rfl];refine Le.aD ?_ ?_ ?_ ?_;iterate 3(·simp)
   ·simp[bU.enc,eU]
  apply aa.sq am fw [0,1,2,3,4,6,10,87];simp[PY];refine aa.cond rfl (λhc=>?_) (λhc=>?_)
  ·simp at hc;have hyN:y<N:=by omega
   have hry:rest y=[.agg (nL nt st r f t k y).enc]::rest (y+1):=by rw[pU,pU,xR hyN];rfl
   rw[hry];obtain⟨g1,g2,g3,g4⟩:=hr4 e4;apply aa.skip;simp;apply aa.seq;apply aa.block;apply aa.ag am fw [0,1,2,3,4,6,10,110];simp only[PZ,bU.enc,eU];simp[I0,bp,RZ,oY,L7,nL];refine⟨Bp _ _ _ (by omega) (by omega) (by omega),Bp _ _ _ (by omega) (by omega) (by omega),kh _ _ _ ⟨[_,_],rfl⟩, ?_⟩;refine aa.cond rfl (λh=>by cases h) (λ_=>?_);apply aa.skip;simp;apply aa.cX am fw [0,1,2,3,4,6,10];simp[P3];refine⟨y+1,Le.aD ?_ ?_ ?_ ?_, ?_, ?_⟩;iterate 3(·simp)
   ·simp[bU.enc,eU];rw[aq (by omega)];omega
   ·omega
   ·omega
  ·simp at hc;have eG:y=N:=by omega
   subst eG;apply aa.exit;simp[Gg,cq,pU]
 ·apply aa.skip;simp only[nX]at e4;have hi:u4=[]:=by rw[<-GN];simp[inst,e1,e2,e3,e4,cq]
  simp[hi,Gg]
open Go.DM Go.DM.kC
section
variable{A:List (ar)}
section
variable(dz:ar->Prop)(cK:ar->ar->Int)
def lZ:DM.Spec:=bp (λts=>∃x y,ts=[.agg x,.agg y]/\dz x/\dz y) (fun|[.agg x,.agg y]=>ti (cK x y)|_=>.bool false) true
structure mK(f:Nat)(n:Nat):Prop where
 run:∀x y,dz x->dz y->aI Tryd.prog f [.agg x,.agg y] (ti (cK x y))
 row:∀x,dz x->pZ n x
abbrev jt(x y:ar):Bool:=decide (cK x y<0)
variable{dz cK}
def II{f n:Nat}(h:mK dz cK f n):au Tryd.prog (bG [(f,lZ dz cK)]):=by
 refine au.cons au.nil ?_;rintro ts ⟨x,y,rfl,h1,h2⟩;exact⟨h.run x y h1 h2,λ_=>rfl⟩
def gN{B:List (ar)}{x:ar}{i:Nat}(h:A.length=i):DM.rowAt (A++(x::B)) (i:Int)=x:=by
 subst h;simp[DM.rowAt]
def kB{B:List (ar)}{x v:ar}{i:Nat}(h:A.length=i):(A++(x::B)).set i v=A++(v::B):=by
 subst h;simp
def dr{n:Nat}{x:ar}(h:x.length=n):x.drop n=[]:=by subst h;simp
def tk{n:Nat}{x:ar}(h:x.length=n):x.take n=x:=by subst h;simp
structure Sw where
 (X1 X2 Y1 Y2:List (ar))
def Sw.D(A M B:List (ar))(s:Sw):List (ar):=A++(s.Y1++(s.X2++(M++(s.X1++(s.Y2++B)))))
def t52(D:List (ar))(a b n:Nat)(ab:bA)(r aX e:Nat)(g:T)(c9:ab r=some (.aR aX e 5 D))(bX:∀x∈D,pZ 5 x)(h1:a+n<=b)(h2:b+n<=D.length)(h3:D.length<=140737488355328)
  {N:Nat} (hN:∀r,N<=r->ab r=none):b9 Tryd.prog 120 [.aQ r aX,.v (ti a),.v (ti b),.v (ti n),.v g] ab ⟨True,.v (.dh []),bI ab r (.aR aX e 5 (oQ D a b n))⟩:=by
 have am:au Tryd.prog (bG []):=au.nil;have fY:∀o k,N+200<=k->bI ab r o k=none:=λo k hk=>dE c9 (hN k (by omega));refine c52.TN hN (by simp) (fk ?_);rw[kI c9];simp;have hD:D=D.take a++(dA D a (a+n)++(dA D (a+n) b++(dA D b (b+n)++D.drop (b+n)))):=by
  rw[cW D (by omega),cW D (by omega),cW D (by omega),wb]
 have lA:(D.take a).length=a:=by simp;omega
 have lX:(dA D a (a+n)).length=n:=by simp;omega
 have lM:(dA D (a+n) b).length=b-(a+n):=by simp;omega
 have lY:(dA D b (b+n)).length=n:=by simp;omega
 have hL:D.length=a+n+(b-(a+n))+n+(D.drop (b+n)).length:=by simp;omega
 generalize hA:D.take a=A at*
 generalize hX:dA D a (a+n)=X at*
 generalize hM:dA D (a+n) b=M at*
 generalize hY:dA D b (b+n)=Y at*
 generalize hB:D.drop (b+n)=B at*
 apply aa.ag am fw [0,1,2,3,10];simp[Yn];apply aa.block;refine aa.loop (λy:Sw=>⟨DM.look [(0,.aQ r aX),(1,.v (ti a)),(2,.v (ti b)),(3,.v (ti n)),(10,.v (ti y.X1.length))],bI ab r (.aR aX e 5 (y.D A M B)),N+200,N,[]⟩)
  (λy=>X=y.X1++y.X2/\Y=y.Y1++y.Y2/\y.X1.length=y.Y1.length) (λy=>y.X2.length) ⟨[],X,[],Y⟩ ?_ (by simp) (λy hy=>?_)
 ·have:Sw.D A M B ⟨[],X,[],Y⟩=D:=by simp only[Sw.D,z6];exact hD.symm
  rw[this];exact Le.same (fY _) (by simp)
 obtain⟨X1,X2,Y1,Y2⟩:=y;obtain⟨e1,e2,e3⟩:=hy;simp only at e1 e2 e3⊢;have l1:X1.length+X2.length=n:=by rw[<-lX,e1];simp
 have l2:Y1.length+Y2.length=n:=by rw[<-lY,e2];simp
 apply aa.sq am fw [0,1,2,3,10,13];simp[Yo];refine aa.cond rfl (λh=>?_) (λh=>?_)
 ·simp at h
  match X2,Y2,l1,l2 with
  |[],_,l1,l2=>simp at l1;omega
  |_,[],l1,l2=>simp at l2;omega
  |x::X2,y::Y2,l1,l2=>
  have hx:pZ 5 x:=bX x (by rw[hD,e1];simp);have hy:pZ 5 y:=bX y (by rw[hD,e2];simp);simp only[pc]at l1 l2;obtain⟨i,hi⟩:=ba X1.length;obtain⟨p,hp⟩:=ba (a+i);obtain⟨q,hq⟩:=ba (b+i);obtain⟨Dc,pB⟩:=ba (Sw.D A M B ⟨X1,x::X2,Y1,y::Y2⟩);have hl:Dc.length=D.length:=by rw[<-pB,hL];simp[Sw.D];omega
  have Up:IntKind.i64.wrap ((a:Int)+i)=p:=by rw[aq (by omega)];omega
  have Sq:IntKind.i64.wrap ((b:Int)+i)=q:=by rw[aq (by omega)];omega
  have g1:DM.rowAt Dc p=x:=by
   rw[<-pB,show Sw.D A M B ⟨X1,x::X2,Y1,y::Y2⟩=(A++Y1)++(x::(X2++(M++(X1++(y::(Y2++B))))))by simp[Sw.D]];exact gN (by simp;omega)
  have g2:DM.rowAt Dc q=y:=by
   rw[<-pB,show Sw.D A M B ⟨X1,x::X2,Y1,y::Y2⟩=(A++Y1++x::X2++M++X1)++(y::(Y2++B))by simp[Sw.D]];exact gN (by simp;omega)
  have g3:(Dc.set p y).set q x=Sw.D A M B ⟨X1++[x],X2,Y1++[y],Y2⟩:=by
   rw[<-pB,show Sw.D A M B ⟨X1,x::X2,Y1,y::Y2⟩=(A++Y1)++(x::(X2++(M++(X1++(y::(Y2++B))))))by simp[Sw.D]];rw[kB (by simp;omega),show(A++Y1)++(y::(X2++(M++(X1++(y::(Y2++B))))))=(A++Y1++y::X2++M++X1)++(y::(Y2++B))by simp];rw[kB (by simp;omega)];simp[Sw.D]
  have g4:DM.rowAt (Dc.set p y) q=y:=by
   rw[<-pB,show Sw.D A M B ⟨X1,x::X2,Y1,y::Y2⟩=(A++Y1)++(x::(X2++(M++(X1++(y::(Y2++B))))))by simp[Sw.D]];rw[kB (by simp;omega),show(A++Y1)++(y::(X2++(M++(X1++(y::(Y2++B))))))=(A++Y1++y::X2++M++X1)++(y::(Y2++B))by simp];exact gN (by simp;omega)
  apply aa.skip;simp;apply aa.seq;apply aa.block;apply aa.cX am fw [0,1,2,3,10];rw[pB];simp[Yp,hi,Up,Sq,g1,g2,g4,hl,hx.1,hy.1,dM hx.2,dM hy.2,tk hx.1,tk hy.1,dr hx.1,dr hy.1];repeat refine⟨by omega, ?_⟩
  rw[g3];apply aa.cX am fw [0,1,2,3,10];simp[Yq];refine⟨⟨X1++[x],X2,Y1++[y],Y2⟩, ?_, ?_, ?_⟩
  ·refine Le.same (fY _) ?_;simp;rw[aq (by omega)];omega
  ·simp[e1,e2,<-e3,hi]
  ·simp
 ·simp at h;apply aa.exit;have hX2:X2=[]:=kx (by omega);have hY2:Y2=[]:=kx (by omega);subst hX2 hY2;simp at e1 e2;subst e1 e2;have:oQ D a b n=Sw.D A M B ⟨X,[],Y,[]⟩:=by
   rw[hD,nl A X M Y B lA lX (by omega) lY];simp[Sw.D]
  simp[QI,this]
end
end
def Rf:bD->bA->fp
 |[.aQ r aX,.v (.int .i64 a),.v (.int .i64 b),.v (.int .i64 n),.v g],ab=>match ab r with
  |some (.aR bi e sz D)=>⟨aX=bi/\sz=5/\(∀x∈D,pZ 5 x)/\0<=a/\0<=n/\a+n<=b/\b+n<=D.length/\D.length<=140737488355328,.v (.dh []),bI ab r (.aR aX e 5 (oQ D a.toNat b.toNat n.toNat))⟩
  |_=>⟨False,.undef,ab⟩
 |_,ab=>⟨False,.undef,ab⟩
def Vg:gP:=bG [(120,ee Rf)]
def ai7:au Tryd.prog Vg:=by
 refine au.gm au.nil ?_;intro args ab h;unfold Rf at h⊢;split at h
 ·split at h
  ·rename_i a b n g _ bi e sz D c9;obtain⟨rfl,rfl,h1,h2,h3,h4,h5,h6⟩:=h;have ea:a=(a.toNat:Int):=by omega
   have eb:b=(b.toNat:Int):=by omega
   have en:n=(n.toNat:Int):=by omega
   refine⟨λN hN=>?_,λk hk=>dE c9 hk⟩;have:=t52 D a.toNat b.toNat n.toNat ab _ _ e g c9 h1 (by omega) (by omega) h6 hN;rw[<-ea,<-eb,<-en]at this;simp only[];exact this.of rfl rfl
  ·exact h.elim
 ·exact h.elim
structure Ro where
 (A P Q B:List (ar))
def Ro.D(s:Ro):List (ar):=s.A++(s.P++(s.Q++s.B))
def t51(D:List (ar))(a m b:Nat)(ab:bA)(r aX e:Nat)(g:T)(c9:ab r=some (.aR aX e 5 D))(bX:∀x∈D,pZ 5 x)(h1:a<m)(h2:m<b)(h2:b<=D.length)(h3:D.length<=140737488355328)
  {N:Nat} (hN:∀r,N<=r->ab r=none):b9 Tryd.prog 118 [.aQ r aX,.v (ti a),.v (ti m),.v (ti b),.v g] ab ⟨True,.v (.dh []),bI ab r (.aR aX e 5 (ko D a m b))⟩:=by
 have am:=ai7;have fY:∀o k,N+200<=k->bI ab r o k=none:=λo k hk=>dE c9 (hN k (by omega));refine c51.TN hN (by simp) (fk ?_);rw[kI c9];simp;have w1:IntKind.i64.wrap ((m:Int)-a)=((m-a:Nat):Int):=by rw[aq (by omega)];omega
 have w2:IntKind.i64.wrap ((b:Int)-m)=((b-m:Nat):Int):=by rw[aq (by omega)];omega
 apply aa.ag am fw [0,2,3,4,10];simp[Yh,w1];apply aa.ag am fw [0,2,4,10,11];simp[Yi,w2];apply aa.seq;apply aa.block;have hD:=OL D (a:=a) (m:=m) (b:=b) (by omega) (by omega);have lA:(D.take a).length=a:=by simp;omega
 have lP:(dA D a m).length=m-a:=by simp;omega
 have lQ:(dA D m b).length=b-m:=by simp;omega
 have hF:ko D a m b=D.take a++(dA D m b++(dA D a m++D.drop b)):=rfl;refine aa.loop (λy:Ro=>⟨DM.look [(0,.aQ r aX),(2,.v (ti m)),(4,.v g),(10,.v (ti y.P.length)),(11,.v (ti y.Q.length))],bI ab r (.aR aX e 5 y.D),N+200,N,[]⟩)
  (λy=>y.A.length+y.P.length=m/\0<y.P.length/\0<y.Q.length/\y.A++(y.Q++(y.P++y.B))=ko D a m b/\y.D.length=D.length/\∀x∈y.D,x∈D) (λy=>y.P.length+y.Q.length) ⟨D.take a,dA D a m,dA D m b,D.drop b⟩ ?_ ?_ (λy hy=>?_)
 ·simp only[Ro.D,<-hD];refine Le.same (fY _) ?_;simp;omega
 ·simp only[lA,lP,lQ,Ro.D,<-hD];exact⟨by omega,by omega,by omega,by rw[hF],trivial,λ_ h=>h⟩
 obtain⟨A,P,Q,B⟩:=y;obtain⟨e1,e2,e3,e4,e5,e6⟩:=hy;simp only at e1 e2 e3 e4 e5 e6⊢;obtain⟨Dc,pB⟩:=ba (Ro.D ⟨A,P,Q,B⟩);obtain⟨i,hi⟩:=ba P.length;obtain⟨j,hj⟩:=ba Q.length;rw[pB]at e5 e6;have e5':A.length+(i+(j+B.length))=D.length:=by rw[<-e5,<-pB];simp[Ro.D,hi,hj]
 have Fg:∀x∈Dc,pZ 5 x:=λx hx=>bX x (e6 x hx);have w3:IntKind.i64.wrap ((m:Int)-i)=((m-i:Nat):Int):=by rw[aq (by omega)];omega
 apply aa.sq am fw [0,2,4,10,11,20];simp[Yj,hi,hj,pB];refine aa.cond rfl (λh=>?_) (λh=>?_)
 ·simp at h;apply aa.skip;simp;apply aa.block;apply aa.ag am fw [0,2,4,10,11,23];simp[Yk];refine aa.cond rfl (λh4=>?_) (λh4=>?_)
  ·simp at h4;refine aa.eC am fw (rs:=GI) (.inr ⟨_,rfl⟩) (by kernel_rfl) [0,2,4,10,11] ?_;simp[GI,Vg,Rf,w3];refine⟨⟨Fg,by omega,by omega,by omega⟩, ?_⟩;obtain⟨P1,P2,rfl,lP1⟩:∃P1 P2,P=P1++P2/\P1.length=j:=⟨P.take j,P.drop j,(wb j P).symm,by simp;omega⟩;simp only[pb]at hi;have vO:oQ Dc (m-i) m j=Ro.D ⟨A++Q,P2,P1,B⟩:=by
    rw[<-pB];simp only[Ro.D,KW];exact nl A P1 P2 Q B (by simp only[pb]at e1;omega) lP1 (by simp only[pb]at e1;omega) hj
   rw[vO];have w4:IntKind.i64.wrap ((i:Int)-j)=((i-j:Nat):Int):=by rw[aq (by omega)];omega
   apply aa.cX am fw [0,2,4,10,11];simp[Yl,w4];refine⟨⟨A++Q,P2,P1,B⟩, ?_,⟨?_, ?_, ?_, ?_, ?_, ?_⟩, ?_⟩
   ·refine Le.same (fY _) ?_;simp;omega
   ·simp only[pb]at e1⊢;omega
   ·simp only;omega
   ·simp only;omega
   ·rw[<-e4];simp
   ·rw[<-e5,<-pB];simp[Ro.D];omega
   ·intro x hx;refine e6 x ?_;rw[<-pB];simp only[Ro.D,dP]at hx⊢;rcases hx with(h|h)|h|h|h<;>simp[h]
   ·simp only;omega
  ·simp at h4;have w4:IntKind.i64.wrap (IntKind.i64.wrap ((m:Int)+j)-i)=((m+j-i:Nat):Int):=by rw[aq (x:=(m:Int)+j) (by omega),aq (by omega)];omega
   have w5:IntKind.i64.wrap ((j:Int)-i)=((j-i:Nat):Int):=by rw[aq (by omega)];omega
   refine aa.eC am fw (rs:=GJ) (.inr ⟨_,rfl⟩) (by kernel_rfl) [0,2,4,10,11] ?_;simp[GJ,Vg,Rf,w3,w4];refine⟨⟨Fg,by omega,by omega,by omega⟩, ?_⟩;obtain⟨Q1,Q2,rfl,lQ2⟩:∃Q1 Q2,Q=Q1++Q2/\Q2.length=i:=⟨Q.take (j-i),Q.drop (j-i),(wb _ Q).symm,by simp;omega⟩;simp only[pb]at hj;have vO:oQ Dc (m-i) (m+j-i) i=Ro.D ⟨A,Q2,Q1,P++B⟩:=by
    rw[<-pB];simp only[Ro.D,KW];exact nl A P Q1 Q2 B (by omega) hi (by omega) lQ2
   rw[vO];apply aa.cX am fw [0,2,4,10,11];simp[Ym,w5];refine⟨⟨A,Q2,Q1,P++B⟩, ?_,⟨?_, ?_, ?_, ?_, ?_, ?_⟩, ?_⟩
   ·refine Le.same (fY _) ?_;simp;omega
   ·simp only;omega
   ·simp only;omega
   ·simp only;omega
   ·rw[<-e4];simp
   ·rw[<-e5,<-pB];simp[Ro.D];omega
   ·intro x hx;refine e6 x ?_;rw[<-pB];simp only[Ro.D,dP]at hx⊢;rcases hx with h|h|h|h|h<;>simp[h]
   ·simp only;omega
 ·simp at h;apply aa.exit;simp;refine aa.nj am fw (rs:=GK) (.inr ⟨_,rfl⟩) (by kernel_rfl) [] ?_;simp[GK,Vg,Rf,w3];refine⟨⟨Fg,by omega,by omega,by omega⟩, ?_⟩;have vO:oQ Dc (m-i) m i=ko D a m b:=by
   rw[<-pB,<-e4];simp only[Ro.D];exact nl A P [] Q B (by omega) hi (by simp;omega) (by omega)
  simp[QH,vO]
section
variable{dz:ar->Prop}{cK:ar->ar->Int}
def Rx:bD->bA->fp
 |[.aQ r aX,.v (.int .i64 a),.v (.int .i64 m),.v (.int .i64 b),.v g],ab=>match ab r with
  |some (.aR bi e sz D)=>⟨aX=bi/\sz=5/\(∀x∈D,pZ 5 x)/\0<=a/\a<m/\m<b/\b<=D.length/\D.length<=140737488355328,.v (.dh []),bI ab r (.aR aX e 5 (ko D a.toNat m.toNat b.toNat))⟩
  |_=>⟨False,.undef,ab⟩
 |_,ab=>⟨False,.undef,ab⟩
def Mc(dz:ar->Prop)(cK:ar->ar->Int)(N:Nat):bD->bA->fp
 |[.aQ r aX,.v (.int .i64 a),.v (.int .i64 m),.v (.int .i64 b),.v (.fn (.func c) bP)],ab=>match ab r with
  |some (.aR bi e sz D)=>⟨aX=bi/\sz=5/\c=65/\bP=[]/\(∀x∈D,dz x)/\0<=a/\a<m/\m<b/\b<=D.length/\D.length<=140737488355328/\b-a<N/\cP (jt cK) (dA D a.toNat m.toNat)/\cP (jt cK) (dA D m.toNat b.toNat),
    .v (.dh []),bI ab r (.aR aX e 5 (cH (jt cK) D a.toNat b.toNat))⟩
  |_=>⟨False,.undef,ab⟩
 |_,ab=>⟨False,.undef,ab⟩
def Ev(dz:ar->Prop)(cK:ar->ar->Int)(N:Nat):gP:=bG [(111,ee (Mc dz cK N)),(118,ee Rx),(65,lZ dz cK)]
def afK(hc:mK dz cK 65 5):au Tryd.prog (bG [(118,ee Rx),(65,lZ dz cK)]):=by
 refine au.gm (II hc) ?_;intro args ab h;unfold Rx at h⊢;split at h
 ·split at h
  ·rename_i a m b g _ bi e sz D c9;obtain⟨rfl,rfl,h1,h2,h3,h4,h5,h6⟩:=h;have ea:a=(a.toNat:Int):=by omega
   have eb:b=(b.toNat:Int):=by omega
   have en:m=(m.toNat:Int):=by omega
   refine⟨λN hN=>?_,λk hk=>dE c9 hk⟩;have:=t51 D a.toNat m.toNat b.toNat ab _ _ e g c9 h1 (by omega) (by omega) (by omega) h6 hN;rw[<-ea,<-eb,<-en]at this;simp only[];exact this.of rfl rfl
  ·exact h.elim
 ·exact h.elim
def Mk(D:List (ar))(k:Nat):DM.rowAt D (k:Int)=D.getD k default:=by simp[DM.rowAt];rfl
def Vh{i j:Nat}(h:i+j<=2*140737488355328):IntKind.i64.wrap (IntKind.u64.wrap (IntKind.i64.wrap ((i:Int)+j))/2^min 1 IntKind.u64.bits)=(((i+j)/2:Nat):Int):=by
 have e:(2:Int)^min 1 IntKind.u64.bits=2:=rfl;rw[e,aq (x:=(i:Int)+j) (by omega)];have:IntKind.u64.wrap ((i:Int)+j)=(i:Int)+j:=by simp[IntKind.wrap,IntKind.bits,IntKind.signed];omega
 rw[this,aq (by omega)];omega
def adj{A B:List (ar)}{x y:ar}{k:Nat}(h:A.length=k){k':Nat}(hk:k'=k+1):DM.rowAt (A++(x::y::B)) k=x/\DM.rowAt (A++(x::y::B)) k'=y/\DM.rowAt ((A++(x::y::B)).set k y) k'=y/\
  ((A++(x::y::B)).set k y).set k' x=A++(y::x::B)/\DM.rowAt ((A++(x::y::B)).set k' x) k=x/\((A++(x::y::B)).set k' x).set k y=A++(y::x::B):=by
 subst h hk;refine⟨gN rfl, ?_, ?_, ?_, ?_, ?_⟩
 ·rw[show A++(x::y::B)=(A++[x])++(y::B)by simp];exact gN (by simp)
 ·rw[kB rfl,show A++(y::y::B)=(A++[y])++(y::B)by simp];exact gN (by simp)
 ·rw[kB rfl,show A++(y::y::B)=(A++[y])++(y::B)by simp,kB (by simp)];simp
 ·rw[show A++(x::y::B)=(A++[x])++(y::B)by simp,kB (by simp),show(A++[x])++(x::B)=A++(x::x::B)by simp];exact gN rfl
 ·rw[show A++(x::y::B)=(A++[x])++(y::B)by simp,kB (by simp),show(A++[x])++(x::B)=A++(x::x::B)by simp,kB rfl]
def Hl{D:List (ar)}{s m e:Nat}(h1:s<=m)(h2:m<=e)(h:¬(s<m/\m<e)):ko D s m e=D:=by
 unfold ko;by_cases h':s=m
 ·subst h';rw[CS,z6,cW D h2,wb]
 ·have:m=e:=by omega
  subst this;rw[CS,z6,cW D h1,wb]
def xY{lt:ar->ar->Bool}{D:List (ar)}{i j:Nat}(hj:j<=D.length)(h:cP lt (dA D i j)):∀p q,i<=p->p<q->q<j->lt (D.getD q default) (D.getD p default)=false:=by
 intro p q h1 h2 h3;unfold cP at h;rw[QX]at h;have hl:(dA D i j).length=j-i:=by simp;omega
 have:=h (p-i) (q-i) (by omega) (by omega) (by omega);unfold dA at this;rw[Hj,Hj,Ff,Ff]at this;rw[Ub,Ub,fq (by omega),fq (by omega)];simpa only[TB,show i+(p-i)=p by omega,show i+(q-i)=q by omega]using this
structure IJ where
 (i j:Nat)
structure PQ where
 (P Q:List (ar))
def ai8(hc:mK dz cK 65 5)(hw:SWO (jt cK))(F:Nat)(am:au Tryd.prog (Ev dz cK F))
  (D:List (ar)) (a m b:Nat) (ab:bA) (r aX e:Nat) (c9:ab r=some (.aR aX e 5 D)) (bX:∀x∈D,dz x) (h1:a<m) (h2:m<b) (h3:b<=D.length) (h4:D.length<=140737488355328) (hF:b-a<F+1)
  (sL:cP (jt cK) (dA D a m)) (sR:cP (jt cK) (dA D m b))
  {N:Nat} (hN:∀r,N<=r->ab r=none):b9 Tryd.prog 111 [.aQ r aX,.v (ti a),.v (ti m),.v (ti b),.v (.fn (.func 65) [])] ab ⟨True,.v (.dh []),bI ab r (.aR aX e 5 (cH (jt cK) D a b))⟩:=by
 have fY:∀o k,N+1000<=k->bI ab r o k=none:=λo k hk=>dE c9 (hN k (by omega));have gl:=xY (by omega) sL;have gr:=xY (by omega) sR;have jw:∀k,k<D.length->dz (D.getD k default):=λk hk=>bX _ (by rw[Ub,fq hk];simp);have qA:∀i j x,x∈dA D i j->∃k,i<=k/\k<j/\k<D.length/\D.getD k default=x:=λi j x h=>UN.1 h;have fz:=Mk D;obtain⟨lt,dR,Bz⟩:∃lt:ar->ar->Bool,jt cK=lt/\∀x y,decide (cK x y<0)=lt x y:=⟨_,rfl,λ_ _=>rfl⟩;rw[dR]at hw sL sR gl gr⊢;obtain⟨g,hg⟩:∃g:Nat->ar,∀k:Nat,D.getD k default=g k:=⟨_,λ_=>rfl⟩;simp only[hg]at gl gr jw qA fz;have pJ:=λk hk=>hc.row _ (jw k hk);refine c50.TN hN (by simp) (fk ?_);rw[kI c9];simp;have w1:IntKind.i64.wrap ((m:Int)-a)=((m-a:Nat):Int):=by rw[aq (by omega)];omega
 have w2:IntKind.i64.wrap ((b:Int)-m)=((b-m:Nat):Int):=by rw[aq (by omega)];omega
 apply aa.sq am fw [0,1,2,3,4,28];simp[DK,w1];refine aa.cond rfl (λc1=>?_) (λc1=>?_)
 ·simp at c1;apply aa.ag am fw [0,1,3,4,10];simp[DL];apply aa.ag am fw [0,1,4,10,11];simp[zL];apply aa.seq;apply aa.block;refine aa.loop (λy:IJ=>⟨DM.look [(0,.aQ r aX),(1,.v (ti a)),(4,.v (.fn (.func 65) [])),(10,.v (ti y.i)),(11,.v (ti y.j))],bI ab r (.aR aX e 5 D),N+1000,N,[]⟩)
   (λy=>m<=y.i/\y.i<=y.j/\y.j<=b/\(∀k,m<=k->k<y.i->lt (g k) (g a)=true)/\∀k,y.j<=k->k<b->lt (g k) (g a)=false) (λy=>y.j-y.i) ⟨m,b⟩ ?_ ?_ (λy hy=>?_)
  ·exact Le.same (fY _) (by simp)
  ·exact⟨by simp,by simp;omega,by simp,λk k1 k2=>by simp at k2;omega,λk k1 k2=>by simp at k1;omega⟩
  obtain⟨i,j⟩:=y;obtain⟨p1,p2,p3,p4,p5⟩:=hy;simp only at p1 p2 p3 p4 p5⊢;apply aa.sq am fw [0,1,4,10,11,33];simp[Ya];refine aa.cond rfl (λh=>?_) (λh=>?_)
  ·simp at h;apply aa.skip;simp;apply aa.block;apply aa.ag am fw [0,1,4,10,11,12];obtain⟨c,aZ⟩:=ba ((i+j)/2);have hh:=Vh (i:=i) (j:=j) (by omega);rw[aZ]at hh;simp[Yb,hh];have TL:=pJ c (by omega);have Rv:=pJ a (by omega);apply aa.ag am fw [0,1,4,10,11,12,50];simp[Yc,fz,TL.1,Rv.1,tk TL.1,tk Rv.1,Ev,lZ,Bz];refine⟨by omega,by omega,⟨_,_,⟨rfl,rfl⟩,jw c (by omega),jw a (by omega)⟩, ?_⟩;refine aa.cond rfl (λh5=>?_) (λh5=>?_)
   ·apply aa.cX am fw [0,1,4,10,11];simp[Yd];refine⟨⟨c+1,j⟩,Le.same (fY _) ?_,⟨by simp only;omega,by simp only;omega,p3,λk k1 k2=>?_,p5⟩,by simp only;omega⟩
    ·simp;rw[aq (by omega)]
    ·simp only at k2;cases qq:lt (g k) (g a)with
     |true=>rfl
     |false=>
      by_cases hk:k=c
      ·subst hk;rw[h5]at qq;cases qq
      ·have:=hw.ntrans _ _ _ (gr k c k1 (by omega) (by omega)) qq;rw[h5]at this;cases this
   ·apply aa.cX am fw [0,1,4,10,11];simp[Ye];refine⟨⟨i,c⟩,Le.same (fY _) ?_,⟨p1,by simp only;omega,by simp only;omega,p4,λk k1 k2=>?_⟩,by simp only;omega⟩
    ·simp
    ·simp only at k1;by_cases hk:k=c
     ·subst hk;exact h5
     ·exact hw.ntrans _ _ _ (gr c k (by omega) (by omega) k2) h5
  ·simp at h;have TK:i=j:=by omega
   subst TK;apply aa.exit;simp;have hD:D=D.take a++(dA D a m++(dA D m i++(dA D i b++D.drop b))):=by
    rw[cW D (by omega),cW D (by omega),cW D (by omega),wb]
   have lA:(D.take a).length=a:=by simp;omega
   have lX:(dA D a m).length=1:=by simp;omega
   have l1:(dA D m i).length=i-m:=by simp;omega
   have l2:(dA D i b).length=b-i:=by simp;omega
   have lB:(D.drop b).length=D.length-b:=by simp
   obtain⟨x,hX⟩:=KA.1 lX;have RT:x=g a:=by
    obtain⟨k,k1,k2,k3,k4⟩:=qA a m x (by rw[hX];simp);rw[<-k4,show k=a by omega]
   have hR1:∀z∈dA D m i,lt z x=true:=by
    intro z hz;obtain⟨k,k1,k2,k3,k4⟩:=qA _ _ z hz;rw[<-k4,RT];exact p4 k k1 k2
   have hR2:∀z∈dA D i b,lt z x=false:=by
    intro z hz;obtain⟨k,k1,k2,k3,k4⟩:=qA _ _ z hz;rw[<-k4,RT];exact p5 k k1 k2
   rw[nk D p1 p3]at sR;have G3:=LC hw sR hR1 hR2;rw[hX]at hD;generalize D.take a=A at*
   generalize dA D m i=R1 at*
   generalize dA D i b=R2 at*
   generalize D.drop b=B at*
   have iv:cH lt D a b=A++(R1++(x::(R2++B))):=by
    rw[hD,show A++([x]++(R1++(R2++B)))=A++((x::(R1++R2))++B)by simp,ld lt A _ B lA (by simp;omega),G3];simp
   have cJ:∀z,(z=x\/z∈R1)->pZ 5 z:=by
    intro z hz;refine hc.row z (bX z ?_);rw[hD];rcases hz with rfl|hz<;>simp[*]
   have vw:=cJ x (.inl rfl);apply aa.sq am fw [0,10,13];simp[Yf];apply aa.block;refine aa.loop (λy:PQ=>⟨DM.look [(0,.aQ r aX),(10,.v (ti i)),(13,.v (ti ((a+y.P.length:Nat):Int)))],bI ab r (.aR aX e 5 (A++(y.P++(x::(y.Q++(R2++B)))))),N+1000,N,[]⟩)
    (λy=>R1=y.P++y.Q) (λy=>y.Q.length) ⟨[],R1⟩ ?_ (by simp) (λy hy=>?_)
   ·have e1:A++([]++(x::(R1++(R2++B))))=D:=by rw[hD];simp
    simp only[e1];refine Le.same (fY _) ?_;simp
   obtain⟨P,Q⟩:=y;simp only at hy⊢;have Hm:P.length+Q.length=i-m:=by rw[<-l1,hy];simp
   obtain⟨k,hk⟩:=ba (a+P.length);have w3:IntKind.i64.wrap ((i:Int)-1)=((i-1:Nat):Int):=by rw[aq (by omega)];omega
   rw[hk];apply aa.sq am fw [0,10,13,58];simp[Yg,w3];refine aa.cond rfl (λh=>?_) (λh=>?_)
   ·simp at h
    match Q,Hm with
    |[],Hm=>simp at Hm;omega
    |q::Q,Hm=>
    simp only[pc]at Hm;have S0:=cJ q (.inr (by rw[hy];simp));obtain⟨k',wn⟩:∃k',k'=k+1:=⟨_,rfl⟩;have w4:IntKind.i64.wrap ((k:Int)+1)=(k':Int):=by rw[aq (by omega)];omega
    obtain⟨q1,q2,q3,q4,_,_⟩:=adj (A:=A++P) (B:=Q++(R2++B)) (x:=x) (y:=q) (k:=k) (by simp;omega) wn;obtain⟨Dc,pB⟩:=ba ((A++P)++(x::q::(Q++(R2++B))));rw[pB]at q1 q2 q3 q4;have hl:Dc.length=D.length:=by rw[<-pB,hD,hy];simp;omega
    apply aa.skip;simp;apply aa.seq;apply aa.block;rw[show A++(P++x::q::(Q++(R2++B)))=Dc by rw[<-pB];simp];apply aa.cX am fw [0,10,13];simp[Qb,w4,q1,q2,q3,q4,hl,vw.1,S0.1,tk vw.1,tk S0.1,dr vw.1,dr S0.1,dM vw.2,dM S0.2];repeat refine⟨by omega, ?_⟩
    apply aa.cX am fw [0,10,13];simp[Qc,w4];refine⟨⟨P++[q],Q⟩, ?_, ?_, ?_⟩
    ·rw[show A++((P++[q])++x::(Q++(R2++B)))=A++(P++q::x::(Q++(R2++B)))by simp];refine Le.same (fY _) ?_;simp;omega
    ·simp[hy]
    ·simp
   ·simp at h;have hQ:Q=[]:=kx (by omega);subst hQ;rw[F5]at hy;subst hy;apply aa.exit;simp;apply aa.ret;simp[abT,iv]
 simp at c1;apply aa.skip;simp;apply aa.sq am fw [0,1,2,3,4,80];simp[Qd,w2];refine aa.cond rfl (λc2=>?_) (λc2=>?_)
 ·simp at c2;apply aa.ag am fw [0,2,4,14];simp[Qe];apply aa.ag am fw [0,2,4,14,15];simp[Qf];apply aa.seq;apply aa.block;refine aa.loop (λy:IJ=>⟨DM.look [(0,.aQ r aX),(2,.v (ti m)),(4,.v (.fn (.func 65) [])),(14,.v (ti y.i)),(15,.v (ti y.j))],bI ab r (.aR aX e 5 D),N+1000,N,[]⟩)
   (λy=>a<=y.i/\y.i<=y.j/\y.j<=m/\(∀k,a<=k->k<y.i->lt (g m) (g k)=false)/\∀k,y.j<=k->k<m->lt (g m) (g k)=true) (λy=>y.j-y.i) ⟨a,m⟩ ?_ ?_ (λy hy=>?_)
  ·exact Le.same (fY _) (by simp)
  ·exact⟨by simp,by simp;omega,by simp,λk k1 k2=>by simp at k2;omega,λk k1 k2=>by simp at k1;omega⟩
  obtain⟨i,j⟩:=y;obtain⟨p1,p2,p3,p4,p5⟩:=hy;simp only at p1 p2 p3 p4 p5⊢;apply aa.sq am fw [0,2,4,14,15,85];simp[Qg];refine aa.cond rfl (λh=>?_) (λh=>?_)
  ·simp at h;apply aa.skip;simp;apply aa.block;apply aa.ag am fw [0,2,4,14,15,16];obtain⟨c,aZ⟩:=ba ((i+j)/2);have hh:=Vh (i:=i) (j:=j) (by omega);rw[aZ]at hh;simp[Qh,hh];have TL:=pJ c (by omega);have hgm:=pJ m (by omega);apply aa.ag am fw [0,2,4,14,15,16,103];simp[Qi,fz,TL.1,hgm.1,tk TL.1,tk hgm.1,Ev,lZ,Bz];refine⟨by omega,by omega,⟨_,_,⟨rfl,rfl⟩,jw m (by omega),jw c (by omega)⟩, ?_⟩;refine aa.cond rfl (λh5=>?_) (λh5=>?_)
   ·simp only[Fm]at h5;apply aa.cX am fw [0,2,4,14,15];simp[Qj];refine⟨⟨c+1,j⟩,Le.same (fY _) ?_,⟨by simp only;omega,by simp only;omega,p3,λk k1 k2=>?_,p5⟩,by simp only;omega⟩
    ·simp;rw[aq (by omega)]
    ·simp only at k2;by_cases hk:k=c
     ·subst hk;exact h5
     ·exact hw.ntrans _ _ _ h5 (gl k c k1 (by omega) (by omega))
   ·simp only[Ss]at h5;apply aa.cX am fw [0,2,4,14,15];simp[Qk];refine⟨⟨i,c⟩,Le.same (fY _) ?_,⟨p1,by simp only;omega,by simp only;omega,p4,λk k1 k2=>?_⟩,by simp only;omega⟩
    ·simp
    ·simp only at k1;cases qq:lt (g m) (g k)with
     |true=>rfl
     |false=>
      by_cases hk:k=c
      ·subst hk;rw[h5]at qq;cases qq
      ·have:=hw.ntrans _ _ _ qq (gl c k (by omega) (by omega) k2);rw[h5]at this;cases this
  ·simp at h;have TK:i=j:=by omega
   subst TK;apply aa.exit;simp;have hD:D=D.take a++(dA D a i++(dA D i m++(dA D m b++D.drop b))):=by
    rw[cW D (by omega),cW D (by omega),cW D (by omega),wb]
   have lA:(D.take a).length=a:=by simp;omega
   have lX:(dA D m b).length=1:=by simp;omega
   have l1:(dA D a i).length=i-a:=by simp;omega
   have l2:(dA D i m).length=m-i:=by simp;omega
   have lB:(D.drop b).length=D.length-b:=by simp
   obtain⟨x,hX⟩:=KA.1 lX;have RT:x=g m:=by
    obtain⟨k,k1,k2,k3,k4⟩:=qA m b x (by rw[hX];simp);rw[<-k4,show k=m by omega]
   have hR1:∀z∈dA D a i,lt x z=false:=by
    intro z hz;obtain⟨k,k1,k2,k3,k4⟩:=qA _ _ z hz;rw[<-k4,RT];exact p4 k k1 k2
   have hR2:∀z∈dA D i m,lt x z=true:=by
    intro z hz;obtain⟨k,k1,k2,k3,k4⟩:=qA _ _ z hz;rw[<-k4,RT];exact p5 k k1 k2
   rw[nk D p1 p3]at sL;have G3:=OK hw sL hR1 hR2;rw[hX]at hD;generalize D.take a=A at*
   generalize dA D a i=L1 at*
   generalize dA D i m=L2 at*
   generalize D.drop b=B at*
   have iv:cH lt D a b=A++(L1++(x::(L2++B))):=by
    rw[hD,show A++(L1++(L2++([x]++B)))=A++((L1++L2++[x])++B)by simp,ld lt A _ B lA (by simp;omega),G3];simp
   have cJ:∀z,(z=x\/z∈L2)->pZ 5 z:=by
    intro z hz;refine hc.row z (bX z ?_);rw[hD];rcases hz with rfl|hz<;>simp[*]
   have vw:=cJ x (.inl rfl);apply aa.sq am fw [0,14,17];simp[Ql];apply aa.block;refine aa.loop (λy:PQ=>⟨DM.look [(0,.aQ r aX),(14,.v (ti i)),(17,.v (ti ((i+y.P.length:Nat):Int)))],bI ab r (.aR aX e 5 (A++(L1++(y.P++(x::(y.Q++B)))))),N+1000,N,[]⟩)
    (λy=>L2=y.P++y.Q) (λy=>y.P.length) ⟨L2,[]⟩ ?_ (by simp) (λy hy=>?_)
   ·have e1:A++(L1++(L2++(x::([]++B))))=D:=by rw[hD];simp
    simp only[e1];refine Le.same (fY _) ?_;simp;omega
   obtain⟨P,Q⟩:=y;simp only at hy⊢;have Hm:P.length+Q.length=m-i:=by rw[<-l2,hy];simp
   obtain⟨k,hk⟩:=ba (i+P.length);rw[hk];apply aa.sq am fw [0,14,17,110];simp[Qm];refine aa.cond rfl (λh=>?_) (λh=>?_)
   ·simp at h;rcases ZcJ P with rfl|⟨P',q,rfl⟩
    ·simp at hk;omega
    simp only[Hp]at*
    simp only[pb,pc,Uj]at hk Hm;have S0:=cJ q (.inr (by rw[hy];simp));obtain⟨k',wn⟩:∃k',k=k'+1:=⟨k-1,by omega⟩;have w4:IntKind.i64.wrap ((k:Int)-1)=(k':Int):=by rw[aq (by omega)];omega
    obtain⟨q1,q2,_,_,q3,q4⟩:=adj (A:=A++(L1++P')) (B:=Q++B) (x:=q) (y:=x) (k:=k') (by simp;omega) wn;obtain⟨Dc,pB⟩:=ba ((A++(L1++P'))++(q::x::(Q++B)));rw[pB]at q1 q2 q3 q4;have hl:Dc.length=D.length:=by rw[<-pB,hD,hy];simp;omega
    apply aa.skip;simp;apply aa.seq;apply aa.block;rw[show A++(L1++(P'++q::x::(Q++B)))=Dc by rw[<-pB];simp];apply aa.cX am fw [0,14,17];simp[Qn,w4,q1,q2,q3,q4,hl,vw.1,S0.1,tk vw.1,tk S0.1,dr vw.1,dr S0.1,dM vw.2,dM S0.2];repeat refine⟨by omega, ?_⟩
    apply aa.cX am fw [0,14,17];simp[Qo,w4];refine⟨⟨P',q::Q⟩, ?_, ?_, ?_⟩
    ·rw[show A++(L1++(P'++x::(q::Q++B)))=A++(L1++(P'++x::q::(Q++B)))by simp];refine Le.same (fY _) ?_;simp;omega
    ·simp[hy]
    ·simp
   ·simp at h;have hQ:P=[]:=kx (by omega);subst hQ;rw[z6]at hy;subst hy;apply aa.exit;simp;apply aa.ret;simp[abT,iv]
 simp at c2;apply aa.skip;simp;obtain⟨mid,aeW⟩:=ba ((a+b)/2);have hh:=Vh (i:=a) (j:=b) (by omega);rw[aeW]at hh;apply aa.ag am fw [0,1,2,3,4,18];simp[Qp,hh];obtain⟨n,hn⟩:=ba (mid+m);have wt:IntKind.i64.wrap ((mid:Int)+m)=(n:Int):=by rw[aq (by omega)];omega
 apply aa.ag am fw [0,1,2,3,4,18,19];simp[Qq,wt];apply aa.ag am fw [0,1,2,3,4,18,19];simp[Qr];apply aa.sq am fw [0,1,2,3,4,18,19,140];simp[Qs];obtain⟨s0,RU⟩:=ba ((if mid<m then n-b else a));obtain⟨r0,EU⟩:=ba ((if mid<m then mid else m));refine aa.to ⟨DM.look [(0,.aQ r aX),(1,.v (ti a)),(2,.v (ti m)),(3,.v (ti b)),(4,.v (.fn (.func 65) [])),(18,.v (ti mid)),(19,.v (ti n)),(20,.v (ti s0)),(21,.v (ti r0))],bI ab r (.aR aX e 5 D),N+1000,N,[]⟩ ?_ ?_
 ·refine aa.cond rfl (λc3=>?_) (λc3=>?_)
  ·simp at c3;have e1:s0=n-b:=by rw[<-RU,uV c3]
   have e2:r0=mid:=by rw[<-EU,uV c3]
   apply aa.ag am fw [0,1,2,3,4,18,19,20];simp[Qt];apply aa.cX am fw [0,1,2,3,4,18,19,20,21];simp[Qu];refine Le.same (fY _) ?_;simp;refine⟨?_,by omega⟩;rw[aq (by omega)];omega
  ·simp at c3;have e1:s0=a:=by rw[<-RU,mL (by omega)]
   have e2:r0=m:=by rw[<-EU,mL (by omega)]
   apply aa.ag am fw [0,1,2,3,4,18,19,20];simp[Qv];apply aa.cX am fw [0,1,2,3,4,18,19,20,21];simp[Qw];refine Le.same (fY _) ?_;simp[e1,e2]
 have hsr:a<=s0/\s0<=r0/\r0<=m/\r0<=mid/\n-s0<=b/\m<=n-r0/\s0<=n/\(s0=a\/n-s0=b)/\(r0=m\/n-r0=m):=by
  by_cases c3:mid<m
  ·rw[uV c3]at RU EU;omega
  ·rw[mL c3]at RU EU;omega
 clear RU EU;obtain⟨E5,Uk,EV,JS,hs5,hs6,hs7,hs8,hs9⟩:=hsr;have w3:IntKind.i64.wrap ((n:Int)-1)=((n-1:Nat):Int):=by rw[aq (by omega)];omega
 apply aa.ag am fw [0,1,2,3,4,18,19,20,21,22];simp[Qx,w3];apply aa.seq;apply aa.block;refine aa.loop (λy:IJ=>⟨DM.look [(0,.aQ r aX),(1,.v (ti a)),(2,.v (ti m)),(3,.v (ti b)),(4,.v (.fn (.func 65) [])),(18,.v (ti mid)),(19,.v (ti n)),(20,.v (ti y.i)),(21,.v (ti y.j)),(22,.v (ti ((n-1:Nat):Int)))],bI ab r (.aR aX e 5 D),N+1000,N,[]⟩)
  (λy=>s0<=y.i/\y.i<=y.j/\y.j<=r0/\(y.i=s0\/lt (g (n-y.i)) (g (y.i-1))=false)/\(y.j=r0\/lt (g (n-1-y.j)) (g y.j)=true)) (λy=>y.j-y.i) ⟨s0,r0⟩ ?_ ?_ (λy hy=>?_)
 ·exact Le.same (fY _) (by simp)
 ·exact⟨by simp,by simp;omega,by simp,.inl rfl,.inl rfl⟩
 obtain⟨i,j⟩:=y;obtain⟨p1,p2,p3,p4,p5⟩:=hy;simp only at p1 p2 p3 p4 p5⊢;apply aa.sq am fw [0,1,2,3,4,18,19,20,21,22,151];simp[Qy];refine aa.cond rfl (λh=>?_) (λh=>?_)
 ·simp at h;apply aa.skip;simp;apply aa.block;obtain⟨c,aZ⟩:=ba ((i+j)/2);have hh:=Vh (i:=i) (j:=j) (by omega);rw[aZ]at hh;apply aa.ag am fw [0,1,2,3,4,18,19,20,21,22,23];simp[Qz,hh];obtain⟨q,hq⟩:=ba (n-1-c);have w4:IntKind.i64.wrap (((n-1:Nat):Int)-c)=(q:Int):=by rw[aq (by omega)];omega
  have TL:=pJ c (by omega);have hgq:=pJ q (by omega);apply aa.ag am fw [0,1,2,3,4,18,19,20,21,22,23,171];simp[QA,w4,fz,TL.1,hgq.1,tk TL.1,tk hgq.1,Ev,lZ,Bz];refine⟨by omega,by omega,⟨_,_,⟨rfl,rfl⟩,jw q (by omega),jw c (by omega)⟩, ?_⟩;refine aa.cond rfl (λh5=>?_) (λh5=>?_)
  ·simp only[Fm]at h5;apply aa.cX am fw [0,1,2,3,4,18,19,20,21,22];simp[QB];refine⟨⟨c+1,j⟩,Le.same (fY _) ?_,⟨by simp only;omega,by simp only;omega,p3,.inr ?_,p5⟩,by simp only;omega⟩
   ·simp;rw[aq (by omega)]
   ·simp only;rw[show n-(c+1)=q by omega,show c+1-1=c by omega];exact h5
  ·simp only[Ss]at h5;apply aa.cX am fw [0,1,2,3,4,18,19,20,21,22];simp[QC];refine⟨⟨i,c⟩,Le.same (fY _) ?_,⟨p1,by simp only;omega,by simp only;omega,p4,.inr ?_⟩,by simp only;omega⟩
   ·simp
   ·simp only;rw[hq];exact h5
 simp at h;have TK:i=j:=by omega
 subst TK;apply aa.exit;simp;obtain⟨en,hen⟩:=ba (n-i);have w5:IntKind.i64.wrap ((n:Int)-i)=(en:Int):=by rw[aq (by omega)];omega
 have k1:∀rr∈dA D m en,∀l∈dA D i m,lt rr l=true:=by
  intro rr nT l hl;obtain⟨x,x1,x2,x3,x4⟩:=qA _ _ _ nT;obtain⟨y,y1,y2,y3,y4⟩:=qA _ _ _ hl;rw[<-x4,<-y4];have h5:lt (g (n-1-i)) (g i)=true:=by
   rcases p5 with e|e
   ·exfalso;omega
   ·exact e
  cases h6:lt (g x) (g y)with
  |true=>rfl
  |false=>
   have h7:lt (g x) (g i)=false:=by
    by_cases e:y=i
    ·subst e;exact h6
    ·exact hw.ntrans _ _ _ h6 (gl i y (by omega) (by omega) y2)
   have h8:lt (g (n-1-i)) (g i)=false:=by
    by_cases e:x=n-1-i
    ·rw[<-e];exact h7
    ·exact hw.ntrans _ _ _ (gr x (n-1-i) x1 (by omega) (by omega)) h7
   rw[h5]at h8;cases h8
 have k2:∀l∈dA D a i,∀rr∈dA D en b,lt rr l=false:=by
  intro l hl rr nT;obtain⟨x,x1,x2,x3,x4⟩:=qA _ _ _ nT;obtain⟨y,y1,y2,y3,y4⟩:=qA _ _ _ hl;rw[<-x4,<-y4];have h5:lt (g (n-i)) (g (i-1))=false:=by
   rcases p4 with e|e
   ·exfalso;omega
   ·exact e
  have h6:lt (g x) (g (i-1))=false:=by
   by_cases e:x=n-i
   ·rw[e];exact h5
   ·exact hw.ntrans _ _ _ (gr (n-i) x (by omega) (by omega) x2) h5
  by_cases e:y=i-1
  ·rw[e];exact h6
  ·exact hw.ntrans _ _ _ h6 (gl y (i-1) y1 (by omega) (by omega))
 have law:=AV hw (D:=D) (a:=a) (s:=i) (m:=m) (e:=en) (b:=b) (mid:=mid) (by omega) (by omega) (by omega) (by omega) h3 (by omega) sL sR k1 k2;simp only at law;apply aa.ag am fw [0,1,2,3,4,18,20,24];simp[QD,w5];obtain⟨D1,JT⟩:=ba (ko D i m en);obtain⟨D2,TX⟩:=ba (cH lt D1 a mid);rw[JT,TX]at law;obtain⟨⟨a1,a2⟩,⟨a3,a4⟩,a5,a6,a7,a8,a9⟩:=law;have lD1:D1.length=D.length:=by rw[<-JT];exact AU (by omega) (by omega) (by omega)
 have lD2:D2.length=D.length:=by rw[<-TX,yC lt D1 (by omega) (by omega),lD1]
 have gD1:∀x∈D1,dz x:=λx hx=>bX x ((LF (D:=D) (a:=i) (m:=m) (b:=en) (by omega) (by omega)).1 (by rw[JT];exact hx));have gD2:∀x∈D2,dz x:=λx hx=>gD1 x ((Gi (lt:=lt) (D:=D1) (a:=a) (b:=mid) (by omega)).1 (by rw[TX];exact hx));apply aa.seq;refine aa.co am fw [(0,.aQ r aX),(1,.v (ti a)),(2,.v (ti m)),(3,.v (ti b)),(4,.v (.fn (.func 65) [])),(18,.v (ti mid)),(20,.v (ti i)),(24,.v (ti en)),(185,.v (.bool (decide (i<m/\m<en))))] ?_ ?_
 ·simp[QE];repeat' (first|apply And.intro|intro _)
  all_goals first|omega|(simp;omega)|trace_state
 refine aa.to ⟨DM.look [(0,.aQ r aX),(1,.v (ti a)),(3,.v (ti b)),(4,.v (.fn (.func 65) [])),(18,.v (ti mid)),(20,.v (ti i)),(24,.v (ti en))],bI ab r (.aR aX e 5 D1),N+1000,N,[]⟩ ?_ ?_
 ·refine aa.cond rfl (λc3=>?_) (λc3=>?_)
  ·simp only[o5]at c3;refine aa.nj am fw (rs:=Bj) (.inr ⟨_,rfl⟩) (by kernel_rfl) [0,1,3,4,18,20,24] ?_;simp[Bj,Ev,Rx,JT];refine⟨⟨λx hx=>hc.row x (bX x hx),by omega,by omega,by omega,by omega⟩, ?_⟩;exact Le.same (fY _) (by simp)
  ·simp only[nX]at c3;rw[Hl (by omega) (by omega) c3]at JT;subst JT;refine aa.skip ⟨rfl, ?_⟩;exact Le.same (fY _) (by simp)
 apply aa.seq;refine aa.co am fw [(0,.aQ r aX),(1,.v (ti a)),(3,.v (ti b)),(4,.v (.fn (.func 65) [])),(18,.v (ti mid)),(20,.v (ti i)),(24,.v (ti en)),(199,.v (.bool (decide (a<i/\i<mid))))] ?_ ?_
 ·simp[QF];repeat' (first|apply And.intro|intro _)
  all_goals first|omega|(simp;omega)|trace_state
 refine aa.to ⟨DM.look [(0,.aQ r aX),(3,.v (ti b)),(4,.v (.fn (.func 65) [])),(18,.v (ti mid)),(24,.v (ti en))],bI ab r (.aR aX e 5 D2),N+1000,N,[]⟩ ?_ ?_
 ·refine aa.cond rfl (λc3=>?_) (λc3=>?_)
  ·simp only[o5]at c3;refine aa.nj am fw (rs:=Bk) (.inr ⟨_,rfl⟩) (by kernel_rfl) [0,3,4,18,24] ?_;simp[Bk,Ev,Mc,dR,TX];refine⟨⟨gD1,by omega,by omega,by omega,by omega,by omega,a1,a2⟩, ?_⟩;exact Le.same (fY _) (by simp)
  ·simp only[nX]at c3;have e1:D2=D1:=by
    by_cases e:i=a
    ·exact a6 e
    ·exact a7 (by omega)
   rw[e1];refine aa.skip ⟨rfl, ?_⟩;exact Le.same (fY _) (by simp)
 refine aa.co am fw [(0,.aQ r aX),(3,.v (ti b)),(4,.v (.fn (.func 65) [])),(18,.v (ti mid)),(24,.v (ti en)),(213,.v (.bool (decide (mid<en/\en<b))))] ?_ ?_
 ·simp[QG];repeat' (first|apply And.intro|intro _)
  all_goals first|omega|(simp;omega)|trace_state
 refine aa.cond rfl (λc3=>?_) (λc3=>?_)
 ·simp only[o5]at c3;refine aa.nj am fw (rs:=Bl) (.inr ⟨_,rfl⟩) (by kernel_rfl) [] ?_;simp[Bl,Ev,Mc,dR,a5,abT];exact⟨gD2,by omega,by omega,by omega,by omega,by omega,a3,a4⟩
 ·simp only[nX]at c3;have e1:cH lt D a b=D2:=by
   rw[<-a5];by_cases e:en<=mid
   ·exact a8 e
   ·exact a9 (by omega)
  apply aa.skip;simp[abT,e1]
def afL{dz:ar->Prop}{cK:ar->ar->Int}(hc:mK dz cK 65 5)(hw:SWO (jt cK)):∀F:Nat,au Tryd.prog (Ev dz cK F)
 |0=>by
  refine au.gm (afK hc) ?_;intro args ab h;unfold Mc at h;split at h
  ·split at h
   ·simp only at h;omega
   ·exact h.elim
  ·exact h.elim
 |F+1=>by
  refine au.gm (afK hc) ?_;intro args ab h;unfold Mc at h⊢;split at h
  ·split at h
   ·rename_i a m b c bP _ bi e sz D c9;obtain⟨rfl,rfl,rfl,rfl,h1,h2,h3,h4,h5,h6,h7,h8,h9⟩:=h;have ea:a=(a.toNat:Int):=by omega
    have eb:b=(b.toNat:Int):=by omega
    have en:m=(m.toNat:Int):=by omega
    refine⟨λN hN=>?_,λk hk=>dE c9 hk⟩;have:=ai8 hc hw F (afL hc hw F) D a.toNat m.toNat b.toNat ab _ _ e c9 h1 (by omega) (by omega) (by omega) h6 (by omega) h8 h9 hN;rw[<-ea,<-eb,<-en]at this;simp only[];exact this.of rfl rfl
   ·exact h.elim
  ·exact h.elim
end
def Ew(lt:ar->ar->Bool)(l:List (ar))(x:ar):j8 lt (l++[x])=gZ lt x (j8 lt l):=by simp[j8]
def YF{dz:ar->Prop}{cK:ar->ar->Int}(hc:mK dz cK 65 5)
  (D:List (ar)) (a b:Nat) (ab:bA) (r aX e:Nat) (c9:ab r=some (.aR aX e 5 D)) (bX:∀x∈D,dz x) (h1:a<=b) (h3:b<=D.length) (h4:D.length<=140737488355328)
  {N:Nat} (hN:∀r,N<=r->ab r=none):b9 Tryd.prog 110 [.aQ r aX,.v (ti a),.v (ti b),.v (.fn (.func 65) [])] ab ⟨True,.v (.dh []),bI ab r (.aR aX e 5 (cH (jt cK) D a b))⟩:=by
 have am:=II hc;have fY:∀o k,N+1000<=k->bI ab r o k=none:=λo k hk=>dE c9 (hN k (by omega));obtain⟨lt,dR,Bz⟩:∃lt:ar->ar->Bool,jt cK=lt/\∀x y,decide (cK x y<0)=lt x y:=⟨_,rfl,λ_ _=>rfl⟩;rw[dR];refine Yv.TN hN (by simp) (fk ?_);rw[kI c9];simp;have hD:D=D.take a++(dA D a b++D.drop b):=by rw[cW D h1,wb]
 have lA:(D.take a).length=a:=by simp;omega
 have lX:(dA D a b).length=b-a:=by simp;omega
 have lB:(D.drop b).length=D.length-b:=by simp
 obtain⟨A,hA⟩:=ba (D.take a);obtain⟨X,hX⟩:=ba (dA D a b);obtain⟨B,hB⟩:=ba (D.drop b);have iv:cH lt D a b=A++(bE lt X++B):=by unfold cH;rw[hA,hX,hB]
 rw[hA,hX,hB]at hD;rw[hA]at lA;rw[hX]at lX;rw[hB]at lB;have w1:IntKind.i64.wrap ((a:Int)+1)=((a+1:Nat):Int):=by rw[aq (by omega)];omega
 apply aa.ag am fw [0,1,2,3,8];simp[zK,w1];apply aa.block;refine aa.loop (λy:PQ=>⟨DM.look [(0,.aQ r aX),(1,.v (ti a)),(2,.v (ti b)),(3,.v (.fn (.func 65) [])),(8,.v (ti ((a+1+(y.P.length-1):Nat):Int)))],bI ab r (.aR aX e 5 (A++(bE lt y.P++(y.Q++B)))),N+1000,N,[]⟩)
  (λy=>X=y.P++y.Q/\(y.P=[]->y.Q=[])) (λy=>y.Q.length) ⟨X.take 1,X.drop 1⟩ ?_ ?_ (λy hy=>?_)
 ·have e1:A++(bE lt (X.take 1)++(X.drop 1++B))=D:=by
   rw[hD];cases X with
   |nil=>simp[bE,j8]
   |cons x X=>simp[bE,j8,gZ]
  simp only[e1];refine Le.same (fY _) ?_;cases X with
  |nil=>simp
  |cons x X=>simp
 ·refine⟨(wb 1 X).symm, ?_⟩;cases X with
  |nil=>simp
  |cons x X=>simp
 obtain⟨P,Q⟩:=y;obtain⟨pT,eG⟩:=hy;simp only at pT eG⊢;have Hm:P.length+Q.length=b-a:=by rw[<-lX,pT];simp
 obtain⟨i,hi⟩:=ba (a+1+(P.length-1));rw[hi];apply aa.sq am fw [0,1,2,3,8,14];simp[xF];refine aa.cond rfl (λh=>?_) (λh=>?_)
 ·simp at h
  match P,Q,eG,Hm with
  |[],Q,eG,Hm=>have:=eG rfl;subst this;simp at Hm hi;omega
  |p0::P0,[],_,Hm=>simp at Hm hi;omega
  |p0::P0,x::Q,_,Hm=>
  generalize hPP:p0::P0=P at*
  have hPl:1<=P.length:=by rw[<-hPP];simp
  simp only[pc]at Hm;have hxD:x∈D:=by rw[hD,pT];simp
  have vw:=hc.row x (bX x hxD);apply aa.skip;simp;apply aa.seq;apply aa.block;apply aa.ag am fw [0,1,2,3,8,9];simp[DJ];apply aa.block;obtain⟨dw,afM⟩:=ba (j8 lt P);have his:bE lt P=dw.reverse:=by unfold bE;rw[afM]
  have afN:dw.length=P.length:=by have:=fy (lt:=lt) P;rw[his]at this;simpa using this
  have afO:∀z,z∈dw->z∈D:=by
   intro z hz;have:z∈bE lt P:=by rw[his];simpa using hz
   rw[iD]at this;rw[hD,pT];simp[this]
  rw[his];refine aa.loop (λy:PQ=>⟨DM.look [(0,.aQ r aX),(1,.v (ti a)),(2,.v (ti b)),(3,.v (.fn (.func 65) [])),(8,.v (ti i)),(9,.v (ti ((a+y.P.length:Nat):Int)))],bI ab r (.aR aX e 5 (A++(y.P++(x::(y.Q++(Q++B)))))),N+1000,N,[]⟩)
   (λy=>dw=y.Q.reverse++y.P.reverse/\gZ lt x dw=y.Q.reverse++gZ lt x y.P.reverse) (λy=>y.P.length) ⟨dw.reverse,[]⟩ ?_ ?_ (λy hz=>?_)
  ·simp only[z6];refine Le.same (fY _) ?_;simp[afN];omega
  ·simp
  obtain⟨P1,Q1⟩:=y;obtain⟨MN,Gl⟩:=hz;simp only at MN Gl⊢;obtain⟨k,hk⟩:=ba (a+P1.length);have l1:P1.length+Q1.length=P.length:=by rw[<-afN,MN];simp;omega
  rw[hk];apply aa.seq;obtain⟨t,ht⟩:=ba ((match P1.reverse with|[]=>false|p::_=>lt x p));obtain⟨Dc,pB⟩:=ba (A++(P1++(x::(Q1++(Q++B)))));have hl:Dc.length=D.length:=by rw[<-pB,hD,pT];simp;omega
  have hkD:k<D.length:=by
   have:D.length=a+(P.length+(Q.length+1)+B.length):=by rw[hD,pT];simp;omega
   omega
  have hkx:DM.rowAt Dc k=x:=by
   rw[<-pB,<-List.append_assoc];exact gN (by simp;omega)
  rw[pB];refine aa.co am fw [(0,.aQ r aX),(1,.v (ti a)),(2,.v (ti b)),(3,.v (.fn (.func 65) [])),(8,.v (ti i)),(9,.v (ti k)),(34,.v (.bool t))] ?_ ?_
  ·rcases ZcJ P1 with rfl|⟨P2,p,rfl⟩
   ·simp at hk ht;simp[xG,hk,ht]
   ·simp only[Hp,List.reverse_append,List.reverse_cons,List.reverse_nil,z6,List.singleton_append,pb,pc,Uj]at hk ht pB MN;obtain⟨k',wn⟩:∃k',k=k'+1:=⟨k-1,by omega⟩;have YM:p∈D:=afO p (by rw[MN];simp);have Hn:=hc.row p (bX p YM);have w4:IntKind.i64.wrap ((k:Int)-1)=(k':Int):=by rw[aq (by omega)];omega
    have hkp:DM.rowAt Dc k'=p:=by
     rw[<-pB,show A++((P2++[p])++(x::(Q1++(Q++B))))=(A++P2)++(p::x::(Q1++(Q++B)))by simp];exact gN (by simp;omega)
    simp[xG,w4,hkx,hkp,hl,vw.1,Hn.1,tk vw.1,tk Hn.1,lZ,Bz,ht];refine⟨λ_=>⟨by omega,by omega,⟨_,_,⟨rfl,rfl⟩,bX x hxD,bX p YM⟩⟩,λh=>?_⟩;omega
  refine aa.cond rfl (λh5=>?_) (λh5=>?_)
  ·rcases ZcJ P1 with rfl|⟨P2,p,rfl⟩
   ·simp at ht;rw[h5]at ht;cases ht
   ·simp only[Hp,List.reverse_append,List.reverse_cons,List.reverse_nil,z6,List.singleton_append,pb,pc,Uj]at hk ht pB MN Gl l1⊢;rw[h5]at ht;obtain⟨k',wn⟩:∃k',k=k'+1:=⟨k-1,by omega⟩;have YM:p∈D:=afO p (by rw[MN];simp);have Hn:=hc.row p (bX p YM);have w4:IntKind.i64.wrap ((k:Int)-1)=(k':Int):=by rw[aq (by omega)];omega
    obtain⟨q1,q2,_,_,q3,q4⟩:=adj (A:=A++P2) (B:=Q1++(Q++B)) (x:=p) (y:=x) (k:=k') (by simp;omega) wn;rw[show(A++P2)++(p::x::(Q1++(Q++B)))=Dc by rw[<-pB];simp]at q1 q2 q3 q4;apply aa.skip;simp;apply aa.seq;apply aa.block;apply aa.cX am fw [0,1,2,3,8,9];simp[X7,w4,q1,q2,q3,q4,hl,vw.1,Hn.1,tk vw.1,tk Hn.1,dr vw.1,dr Hn.1,dM vw.2,dM Hn.2];repeat refine⟨by omega, ?_⟩
    apply aa.cX am fw [0,1,2,3,8,9];simp[X8,w4];refine⟨⟨P2,p::Q1⟩, ?_,⟨?_, ?_⟩, ?_⟩
    ·rw[show A++(P2++x::(p::Q1++(Q++B)))=A++(P2++x::p::(Q1++(Q++B)))by simp];refine Le.same (fY _) ?_;simp;omega
    ·simp[MN]
    ·rw[Gl,gZ,uV ht];simp
    ·simp
  ·have G3:gZ lt x P1.reverse=x::P1.reverse:=by
    cases hr:P1.reverse with
    |nil=>rfl
    |cons p P2=>
     rw[hr]at ht;simp only at ht;rw[gZ,mL (by rw[ht,h5];simp)]
   rw[G3]at Gl;have ia:bE lt (P++[x])=P1++x::Q1:=by
    unfold bE;rw[Ew,afM,Gl];simp
   apply aa.exit;simp;apply aa.cX am fw [0,1,2,3,8];simp[X9];refine⟨⟨P++[x],Q⟩, ?_,⟨?_, ?_⟩, ?_⟩
   ·rw[show A++(bE lt (P++[x])++(Q++B))=Dc by rw[ia,<-pB];simp];refine Le.same (fY _) ?_;simp;rw[aq (by omega)];omega
   ·rw[pT];simp
   ·simp
   ·simp
 ·simp at h;have hQ:Q=[]:=by
   by_cases e:P=[]
   ·exact eG e
   ·have:1<=P.length:=List.length_pos_iff.2 e;exact kx (by omega)
  subst hQ;rw[F5]at pT;subst pT;apply aa.exit;simp[ajU,iv]
section
variable{dz:ar->Prop}{cK:ar->ar->Int}
def RV(dz:ar->Prop)(cK:ar->ar->Int):bD->bA->fp
 |[.aQ r aX,.v (.int .i64 a),.v (.int .i64 b),.v (.fn (.func c) bP)],ab=>match ab r with
  |some (.aR bi e sz D)=>⟨aX=bi/\sz=5/\c=65/\bP=[]/\(∀x∈D,dz x)/\0<=a/\a<=b/\b<=D.length/\D.length<=140737488355328,
    .v (.dh []),bI ab r (.aR aX e 5 (cH (jt cK) D a.toNat b.toNat))⟩
  |_=>⟨False,.undef,ab⟩
 |[.aF,.v (.int .i64 a),.v (.int .i64 b),.v (.fn (.func c) bP)],ab=>⟨a=0/\b=0,.v (.dh []),ab⟩
 |_,ab=>⟨False,.undef,ab⟩
def Ml(dz:ar->Prop)(cK:ar->ar->Int)(F:Nat):gP:=bG [(110,ee (RV dz cK)),(111,ee (Mc dz cK F)),(118,ee Rx),(65,lZ dz cK)]
def ai9(ab:bA)(f:T){N:Nat}(hN:∀r,N<=r->ab r=none):b9 Tryd.prog 110 [.aF,.v (ti 0),.v (ti 0),.v f] ab ⟨True,.v (.dh []),ab⟩:=by
 have am:au Tryd.prog (bG []):=au.nil;refine Yv.TN hN (by simp) (fk ?_);simp;apply aa.ag am fw [2,8];simp[zK];apply aa.block;refine aa.loop (λy:Nat=>⟨DM.look [(2,.v (ti 0)),(8,.v (ti 1))],ab,N+1000,N,[]⟩) (λ_=>True) (λ_=>0) 0 (Le.same (λk hk=>hN k (by omega)) (by simp)) trivial (λy hy=>?_);apply aa.sq am fw [14];simp[xF];refine aa.cond rfl (λh=>by cases h) (λ_=>?_);apply aa.exit;simp[ajU]
def afP(hc:mK dz cK 65 5)(hw:SWO (jt cK))(F:Nat):au Tryd.prog (Ml dz cK F):=by
 refine au.gm (afL hc hw F) ?_;intro args ab h;unfold RV at h⊢;split at h
 ·split at h
  ·rename_i a b c bP _ bi e sz D c9;obtain⟨rfl,rfl,rfl,rfl,h1,h2,h3,h4,h5⟩:=h;have ea:a=(a.toNat:Int):=by omega
   have eb:b=(b.toNat:Int):=by omega
   refine⟨λN hN=>?_,λk hk=>dE c9 hk⟩;have:=YF hc D a.toNat b.toNat ab _ _ e c9 h1 (by omega) (by omega) h5 hN;rw[<-ea,<-eb]at this;simp only[];exact this.of rfl rfl
  ·exact h.elim
 ·obtain⟨rfl,rfl⟩:=h;exact⟨λN hN=>(ai9 ab _ hN).of rfl rfl,λ_ h=>h⟩
 ·exact h.elim
structure KD where
 k:Nat
 D:List (ar)
structure BD where
 b:Nat
 D:List (ar)
def t48(hc:mK dz cK 65 5)(hw:SWO (jt cK))
  (D:List (ar)) (ab:bA) (r aX e:Nat) (c9:ab r=some (.aR aX e 5 D)) (bX:∀x∈D,dz x) (h4:D.length<=140737488355328)
  {N:Nat} (hN:∀r,N<=r->ab r=none):b9 Tryd.prog 92 [.aQ r aX,.v (ti D.length),.v (.fn (.func 65) [])] ab ⟨True,.v (.dh []),bI ab r (.aR aX e 5 (bE (jt cK) D))⟩:=by
 have am:=afP hc hw (D.length+1);have fY:∀o k,N+1000<=k->bI ab r o k=none:=λo k hk=>dE c9 (hN k (by omega));obtain⟨lt,dR⟩:=ba (jt cK:ar->ar->Bool);rw[dR]at hw⊢;refine Yu.TN hN (by simp) (fk ?_);rw[kI c9];simp;obtain⟨n,hn⟩:=ba D.length;obtain⟨RR,YN⟩:=ba (bE lt D);have same:∀D':List (ar),bE lt D'=RR->(∀x∈D',dz x)/\D'.length=n:=by
  intro D' h;refine⟨λx hx=>bX x ?_, ?_⟩
  ·have:x∈bE lt D':=by simpa using hx
   rw[h,<-YN]at this;simpa using this
  ·have:=fy (lt:=lt) D';rw[h,<-YN,fy]at this;omega
 have IK:∀(D':List (ar)) (a b:Nat),bE lt D'=RR->a<=b->bE lt (cH lt D' a b)=RR:=λD' a b h gi=>by rw[AW hw gi,h]
 rw[hn,YN];apply aa.ag am fw [0,1,2,6];simp[zH];apply aa.ag am fw [0,1,2,6,7,8];simp[zI];apply aa.seq;apply aa.block;refine aa.loop (λy:KD=>⟨DM.look [(0,.aQ r aX),(1,.v (ti n)),(2,.v (.fn (.func 65) [])),(6,.v (ti 20)),(7,.v (ti ((20*y.k:Nat):Int))),(8,.v (ti ((20*y.k+20:Nat):Int)))],bI ab r (.aR aX e 5 y.D),N+1000,N,[]⟩)
  (λy=>20*y.k<=n/\bE lt y.D=RR/\s6 lt y.D 20 (λj=>j<y.k)) (λy=>n-20*y.k) ⟨0,D⟩ ?_ ⟨by simp,YN,λj hj=>by simp at hj⟩ (λy hy=>?_)
 ·exact Le.same (fY _) (by simp)
 obtain⟨k,D1⟩:=y;obtain⟨hk,hs,hb⟩:=hy;simp only at hk hs hb⊢;obtain⟨g1,l1⟩:=same D1 hs;apply aa.seq;obtain⟨a,ha⟩:=ba (20*k);rw[ha]at hk⊢;apply aa.ag am fw [0,1,2,6,7,8,13];simp[xD];refine aa.cond rfl (λh=>?_) (λh=>?_)
 ·simp at h;apply aa.skip;simp;apply aa.block;refine aa.eC am fw (rs:=P4) (.inr ⟨_,rfl⟩) (by kernel_rfl) [0,1,2,6,8] ?_;simp[P4,Ml,RV,dR];refine⟨⟨g1,by omega,by omega⟩, ?_⟩;apply aa.ag am fw [0,1,2,6,7,8];simp[zJ];apply aa.cX am fw [0,1,2,6,7,8];simp[X4];refine⟨⟨k+1,cH lt D1 a (a+20)⟩, ?_,⟨by simp only;omega,IK _ _ _ hs (by omega),λj hj=>?_⟩,by simp only;omega⟩
  ·have:((a:Int)+20).toNat=a+20:=by omega
   simp only[this];refine Le.same (fY _) ?_;simp;rw[aq (by omega)];omega
  ·simp only at hj;by_cases e:j=k
   ·subst e;rw[show j*20=a by omega,ip (by omega) (by omega)];exact dH hw _
   ·rw[fl (by omega) (by omega) (.inl (by omega))];exact hb j (by omega)
 simp at h;apply aa.exit;simp;refine aa.eC am fw (rs:=KL) (.inr ⟨_,rfl⟩) (by kernel_rfl) [0,1,2,6] ?_;simp[KL,Ml,RV,dR];refine⟨⟨g1,by omega,by omega⟩, ?_⟩;obtain⟨D2,TX⟩:=ba (cH lt D1 a n);rw[TX];have Uk:bE lt D2=RR:=by rw[<-TX];exact IK _ _ _ hs (by omega)
 have l2:D2.length=n:=(same D2 Uk).2;have i7:s6 lt D2 20 (λ_=>True):=by
  intro j _;by_cases e:j*20<a
  ·rw[<-TX,fl (by omega) (by omega) (.inl (by omega))];exact hb j (by omega)
  ·by_cases e2:j*20=a
   ·rw[e2,kA (by omega),<-kA (i:=a) (j:=n) (by omega),<-TX,ip (by omega) (by omega)];exact dH hw _
   ·have:dA D2 (j*20) (j*20+20)=[]:=kx (by simp;omega);rw[this];exact List.Pairwise.nil
 clear TX hb hs g1 l1;apply aa.block;refine aa.loop (λy:BD=>⟨DM.look [(0,.aQ r aX),(1,.v (ti n)),(2,.v (.fn (.func 65) [])),(6,.v (ti y.b))],bI ab r (.aR aX e 5 y.D),N+1000,N,[]⟩)
  (λy=>0<y.b/\bE lt y.D=RR/\s6 lt y.D y.b (λ_=>True)) (λy=>n-y.b) ⟨20,D2⟩ ?_ ⟨by simp,Uk,i7⟩ (λy hy=>?_)
 ·exact Le.same (fY _) (by simp)
 obtain⟨bs,D3⟩:=y;obtain⟨hbs,EV,yu⟩:=hy;simp only at hbs EV yu⊢;obtain⟨g3,l3⟩:=same D3 EV;apply aa.sq am fw [0,1,2,6,30];simp[P5];refine aa.cond rfl (λh2=>?_) (λh2=>?_)
 ·simp at h2;have w1:IntKind.i64.wrap (2*(bs:Int))=((2*bs:Nat):Int):=by rw[aq (by omega)];omega
  apply aa.skip;simp;apply aa.block;apply aa.ag am fw [0,1,2,6,7,8];simp[X5,w1];apply aa.seq;apply aa.block;refine aa.loop (λy:KD=>⟨DM.look [(0,.aQ r aX),(1,.v (ti n)),(2,.v (.fn (.func 65) [])),(6,.v (ti bs)),(7,.v (ti ((y.k*(2*bs):Nat):Int))),(8,.v (ti ((y.k*(2*bs)+2*bs:Nat):Int)))],bI ab r (.aR aX e 5 y.D),N+1000,N,[]⟩)
   (λy=>y.k*(2*bs)<=n/\bE lt y.D=RR/\s6 lt y.D (2*bs) (λj=>j<y.k)/\s6 lt y.D bs (λj=>y.k*(2*bs)<=j*bs)) (λy=>n-y.k*(2*bs)) ⟨0,D3⟩ ?_ ⟨by simp,EV,λj hj=>by simp at hj,λj _=>yu j trivial⟩ (λy hy=>?_)
  ·exact Le.same (fY _) (by simp)
  obtain⟨k,D4⟩:=y;obtain⟨hk,JS,Ho,RW⟩:=hy;simp only at hk JS Ho RW⊢;obtain⟨g4,l4⟩:=same D4 JS;have e2:2*k*bs=k*(2*bs):=by rw[Nat.mul_comm 2 k,Nat.mul_assoc]
  have e3:(2*k+1)*bs=k*(2*bs)+bs:=by rw[TE,e2,Zde]
  have hA:=RW (2*k) (by simp only;omega);have hB:=RW (2*k+1) (by simp only;omega);rw[e2]at hA;rw[e3]at hB;obtain⟨a,ha⟩:=ba (k*(2*bs));simp only[ha]at hk hA hB RW⊢;apply aa.sq am fw [0,1,2,6,7,8,35];simp[X6];refine aa.cond rfl (λh3=>?_) (λh3=>?_)
  ·simp at h3;have w2:IntKind.i64.wrap ((a:Int)+bs)=((a+bs:Nat):Int):=by rw[aq (by omega)];omega
   apply aa.skip;simp;apply aa.block;refine aa.eC am fw (rs:=Bh) (.inr ⟨_,rfl⟩) (by kernel_rfl) [0,1,2,6,8] ?_;have tn:((a:Int)+2*(bs:Int)).toNat=a+2*bs:=by omega
   simp[Bh,Ml,Mc,dR,w2,tn];refine⟨⟨g4,by omega,by omega,by omega,by omega,by omega,hA,by rw[show a+2*bs=a+bs+bs by omega];exact hB⟩, ?_⟩;apply aa.ag am fw [0,1,2,6,7,8];simp[P6];apply aa.cX am fw [0,1,2,6,7,8];simp[P7,w1];have e4:(k+1)*(2*bs)=a+2*bs:=by rw[TE,ha,Zde]
   refine⟨⟨k+1,cH lt D4 a (a+2*bs)⟩, ?_,⟨by simp only[e4];omega,IK _ _ _ JS (by omega),λj hj=>?_,λj hj=>?_⟩,by simp only[e4];omega⟩
   ·simp only[];refine Le.same (fY _) ?_;have e4':((k:Int)+1)*(2*(bs:Int))=(a:Int)+2*bs:=by exact_mod_cast e4
    simp[e4'];rw[aq (by omega)]
   ·simp only at hj;by_cases e:j=k
    ·subst e;rw[ha,ip (by omega) (by omega)];exact dH hw _
    ·have:=s7 (bs:=2*bs) (show j<k by omega);rw[fl (by omega) (by omega) (.inl (by omega))];exact Ho j (by simp only;omega)
   ·simp only[e4]at hj;rw[fl (by omega) (by omega) (.inr (by omega))];exact RW j (by simp only;omega)
  ·simp at h3;apply aa.exit;simp;have w2:IntKind.i64.wrap ((a:Int)+bs)=((a+bs:Nat):Int):=by rw[aq (by omega)];omega
   apply aa.sq am fw [0,1,2,6,7,9];simp[P8,w2];apply aa.ag am fw [0,1,2,6,7,9,54];simp[P9];obtain⟨D5,EX⟩:=ba ((if a+bs<n then cH lt D4 a n else D4));have hs5:bE lt D5=RR:=by
    rw[<-EX];split
    ·exact IK _ _ _ JS (by omega)
    ·exact JS
   have l5:D5.length=n:=(same D5 hs5).2;have hb5:s6 lt D5 (2*bs) (λ_=>True):=by
    intro j _;by_cases e:j<k
    ·have:=s7 (bs:=2*bs) e;rw[<-EX];split
     ·rw[fl (by omega) (by omega) (.inl (by omega))];exact Ho j e
     ·exact Ho j e
    ·by_cases e5:j=k
     ·subst e5;rw[ha,kA (by omega)];rw[<-kA (i:=a) (j:=n) (by omega),<-EX];split
      ·rw[ip (by omega) (by omega)];exact dH hw _
      ·rw[kA (by omega),<-kA (i:=a) (j:=a+bs) (by omega)];exact hA
     ·have:=s7 (bs:=2*bs) (show k<j by omega);have:dA D5 (j*(2*bs)) (j*(2*bs)+2*bs)=[]:=kx (by simp;omega);rw[this];exact List.Pairwise.nil
   refine aa.to ⟨DM.look [(0,.aQ r aX),(1,.v (ti n)),(2,.v (.fn (.func 65) [])),(6,.v (ti bs))],bI ab r (.aR aX e 5 D5),N+1000,N,[]⟩ ?_ ?_
   ·refine aa.cond rfl (λh5=>?_) (λh5=>?_)
    ·simp at h5;refine aa.nj am fw (rs:=Bi) (.inr ⟨_,rfl⟩) (by kernel_rfl) [0,1,2,6] ?_;have tn:((a:Int)+(bs:Int)).toNat=a+bs:=by omega
     simp[Bi,Ml,Mc,dR,tn];refine⟨⟨g4,by omega,by omega,by omega,by omega,by omega,hA, ?_⟩, ?_⟩
     ·rw[kA (by omega),<-kA (i:=a+bs) (j:=a+bs+bs) (by omega)];exact hB
     ·rw[uV (by omega)]at EX;rw[EX];exact Le.same (fY _) (by simp)
    ·simp at h5;rw[mL (by omega)]at EX;rw[EX];refine aa.skip ⟨rfl, ?_⟩;exact Le.same (fY _) (by simp)
   ·simp;apply aa.cX am fw [0,1,2,6];simp[Qa];refine⟨⟨2*bs,D5⟩, ?_,⟨by simp only;omega,hs5,hb5⟩,by simp only;omega⟩;refine Le.same (fY _) ?_;simp;rw[aq (by omega)];omega
 ·simp at h2;have:D3=RR:=by
   rw[<-EV];refine(fK hw ?_).symm;have:=yu 0 trivial;rw[UL,Cf,kA (by omega),List.drop_zero]at this;exact this
  apply aa.exit;simp[qJ,this]
end
section
variable{dz:ar->Prop}{cK:ar->ar->Int}
def aja(hc:mK dz cK 65 5)(hw:SWO (jt cK))(ab:bA)(f:Nat){N:Nat}(hN:∀r,N<=r->ab r=none):
  b9 Tryd.prog 92 [.aF,.v (ti 0),.v (.fn (.func f) [])] ab ⟨True,.v (.dh []),ab⟩:=by
 have am:=afP hc hw 0;have fY:∀k,N+1000<=k->ab k=none:=λk hk=>hN k (by omega);refine Yu.TN hN (by simp) (fk ?_);simp;apply aa.ag am fw [0,1,2,6];simp[zH];apply aa.ag am fw [0,1,2,6,7,8];simp[zI];apply aa.seq;apply aa.block;refine aa.loop (λy:Nat=>⟨DM.look [(0,.aF),(1,.v (ti 0)),(2,.v (.fn (.func f) [])),(6,.v (ti 20)),(7,.v (ti 0)),(8,.v (ti 20))],ab,N+1000,N,[]⟩) (λ_=>True) (λ_=>0) 0 (Le.same fY (by simp)) trivial (λy hy=>?_);apply aa.sq am fw [0,1,2,6,7,13];simp[xD];refine aa.cond rfl (λh=>by cases h) (λ_=>?_);apply aa.exit;simp;refine aa.eC am fw (rs:=KL) (.inr ⟨_,rfl⟩) (by kernel_rfl) [1,6] ?_;simp[KL,Ml,RV];apply aa.block;refine aa.loop (λy:Nat=>⟨DM.look [(1,.v (ti 0)),(6,.v (ti 20))],ab,N+1000,N,[]⟩) (λ_=>True) (λ_=>0) 0 (Le.same fY (by simp)) trivial (λy hy=>?_);apply aa.sq am fw [30];simp[P5];refine aa.cond rfl (λh=>by cases h) (λ_=>?_);apply aa.exit;simp[qJ]
def IA(dz:ar->Prop)(cK:ar->ar->Int):bD->bA->fp
 |[.aQ r aX,.v (.int .i64 n),.v (.fn (.func c) bP)],ab=>match ab r with
  |some (.aR bi e sz D)=>⟨aX=bi/\sz=5/\c=65/\bP=[]/\(∀x∈D,dz x)/\n=D.length/\D.length<=140737488355328,
    .v (.dh []),bI ab r (.aR aX e 5 (bE (jt cK) D))⟩
  |_=>⟨False,.undef,ab⟩
 |[.aF,.v (.int .i64 n),.v (.fn (.func c) bP)],ab=>⟨n=0/\bP=[],.v (.dh []),ab⟩
 |_,ab=>⟨False,.undef,ab⟩
def afQ(hc:mK dz cK 65 5)(hw:SWO (jt cK)):au Tryd.prog (bG [(92,ee (IA dz cK))]):=by
 refine au.gm au.nil ?_;intro args ab h;unfold IA at h⊢;split at h
 ·split at h
  ·rename_i c bP _ bi e sz D c9;obtain⟨rfl,rfl,rfl,rfl,h1,rfl,h5⟩:=h;refine⟨λN hN=>?_,λk hk=>dE c9 hk⟩;simp only[c9];exact(t48 hc hw D ab _ _ e c9 h1 h5 hN).of rfl rfl
  ·exact h.elim
 ·obtain⟨rfl,rfl⟩:=h;exact⟨λN hN=>(aja hc hw ab _ hN).of rfl rfl,λ_ h=>h⟩
 ·exact h.elim
def Yt(dz:ar->Prop)(cK:ar->ar->Int):bD->bA->fp
 |[.aQ r aX,.v (.fn (.func c) bP)],ab=>match ab r with
  |some (.aR bi e sz D)=>⟨aX=bi/\sz=5/\c=65/\bP=[]/\(∀x∈D,dz x)/\D.length<=140737488355328,
    .v (.dh []),bI ab r (.aR aX e 5 (bE (jt cK) D))⟩
  |_=>⟨False,.undef,ab⟩
 |[.aF,.v (.fn (.func c) bP)],ab=>⟨bP=[],.v (.dh []),ab⟩
 |_,ab=>⟨False,.undef,ab⟩
def t35(hc:mK dz cK 65 5)(hw:SWO (jt cK))(D:List (ar))(ab:bA)(r aX e:Nat)(c9:ab r=some (.aR aX e 5 D))(bX:∀x∈D,dz x)(h4:D.length<=140737488355328)
  {N:Nat} (hN:∀r,N<=r->ab r=none):b9 Tryd.prog 64 [.aQ r aX,.v (.fn (.func 65) [])] ab ⟨True,.v (.dh []),bI ab r (.aR aX e 5 (bE (jt cK) D))⟩:=by
 have am:=afQ hc hw;refine c35.TN hN (by simp) (fk ?_);rw[kI c9];simp;refine aa.nj am fw (rs:=Bf) (.inr ⟨_,rfl⟩) (by kernel_rfl) [] ?_;simp[Bf,IA,acJ];exact⟨bX,h4⟩
def ajb(hc:mK dz cK 65 5)(hw:SWO (jt cK))(ab:bA)(f:Nat){N:Nat}(hN:∀r,N<=r->ab r=none):b9 Tryd.prog 64 [.aF,.v (.fn (.func f) [])] ab ⟨True,.v (.dh []),ab⟩:=by
 have am:=afQ hc hw;refine c35.TN hN (by simp) (fk ?_);simp;refine aa.nj am fw (rs:=Bf) (.inr ⟨_,rfl⟩) (by kernel_rfl) [] ?_;simp[Bf,IA,acJ]
def ail(hc:mK dz cK 65 5)(hw:SWO (jt cK)){l:List (Nat×DM.Spec)}(h:au Tryd.prog (bG l)):au Tryd.prog (bG ((64,ee (Yt dz cK))::l)):=by
 refine au.gm h ?_;intro args ab h;unfold Yt at h⊢;split at h
 ·split at h
  ·rename_i c bP _ bi e sz D c9;obtain⟨rfl,rfl,rfl,rfl,h1,h5⟩:=h;refine⟨λN hN=>?_,λk hk=>dE c9 hk⟩;simp only[c9];exact(t35 hc hw D ab _ _ e c9 h1 h5 hN).of rfl rfl
  ·exact h.elim
 ·subst h;exact⟨λN hN=>(ajb hc hw ab _ hN).of rfl rfl,λ_ h=>h⟩
 ·exact h.elim
end
def Im(x:ar):Prop:=∃e:Edge,x=e.enc/\0<=e.head/\e.head<=1000000000000
def Pu(x:ar):Int:=cN (x.getD 0 (ti 0))
def Gy(x y:ar):Int:=Pu x-Pu y
def Pv(e:Edge):Pu e.enc=e.head:=rfl
def abW:mK Im Gy 65 5:=by
 refine⟨?_, ?_⟩
 ·rintro x y ⟨a,rfl,h1,h2⟩ ⟨b,rfl,h3,h4⟩;exact t36 a b ⟨h1,h2⟩ ⟨h3,h4⟩
 ·rintro x ⟨a,rfl,_⟩;refine⟨rfl, ?_⟩;intro t ht;simp only[Edge.enc,pH,Zct,Zdl]at ht;rcases ht with rfl|rfl|rfl|rfl|rfl<;>rfl
def aij:SWO (jt Gy):=by
 have dR:∀x y,jt Gy x y=decide (Pu x<Pu y):=λx y=>decide_eq_decide.2 (by unfold Gy;omega);refine⟨λx=>?_,λx y z h1 h2=>?_,λx y z h1 h2=>?_⟩<;>simp only[dR,o5,nX]at* <;>omega
def Dw{α β:Type}{lt:β->β->Bool}{IY:α->α->Bool}{f:α->β}(h:∀a b,lt (f a) (f b)=IY a b)(x:α):∀l:List α,gZ lt (f x) (l.map f)=(gZ IY x l).map f
 |[]=>rfl
 |y::l=>by
  simp only[l8,gZ,h];split
  ·simp[Dw h x l]
  ·simp
def LW{α β:Type}{lt:β->β->Bool}{IY:α->α->Bool}{f:α->β}(h:∀a b,lt (f a) (f b)=IY a b)(l:List α):bE lt (l.map f)=(bE IY l).map f:=by
 unfold bE j8;rw[List.map_reverse]
 congr 1
 suffices∀(l dw:List α),List.foldl (λdw x=>gZ lt x dw) (dw.map f) (l.map f)=(List.foldl (λdw x=>gZ IY x dw) dw l).map f from this l []
 intro l;induction l with
 |nil=>intro dw;rfl
 |cons x l ih=>intro dw;rw[l8,F6,F6,Dw h,ih]
def In(a b:Edge):Bool:=decide (a.head<b.head)
def Dx(l:List Edge):bE (jt Gy) (bw l)=bw (bE In l):=by
 refine LW (λa b=>?_) l;simp only[jt,Gy,Pv,In];exact decide_eq_decide.2 (by omega)
def ij(nt st:Int)(ak:List bU)(aL:List bk)(f t:Int)(k:Nat):List Edge:=(List.range k).flatMap λk=>inst nt st (ak.getD k default) aL f t k
def si(nt st:Int)(ak:List bU)(aL:List bk)(f t:Int):List Edge:=bE In (ij nt st ak aL f t ak.length)
def qG(nt st:Int)(ak:List bU)(aL:List bk)(f t:Nat):List Edge:=((List.range t).drop f).flatMap λt:Nat=>si nt st ak aL f t
def qH(nt st:Int)(ak:List bU)(aL:List bk)(f:Nat):List Edge:=(List.range f).flatMap λf=>qG nt st ak aL f st.toNat
def tB(nt st start:Int)(je:b8)(t:Nat):List Edge:=if je.getD t default<mr then [⟨da nt st,[fo nt st start 0 t],je.getD t default,-1,t⟩]else []
def pL(nt st start:Int)(je:b8)(k:Nat):List Edge:=(List.range k).flatMap (tB nt st start je)
def lT(n:aA)(l:aM):List Edge:=qH n.ae l.aj n.ak l.aL l.aj.toNat++pL n.ae l.aj n.start l.bK l.bK.length
def Gz(nt st:Int)(ak:List bU)(aL:List bk)(f t:Int)(k:Nat):ij nt st ak aL f t (k+1)=ij nt st ak aL f t k++inst nt st (ak.getD k default) aL f t k:=by
 simp[ij,E7]
def zB(nt st:Int)(ak:List bU)(aL:List bk)(f t:Nat)(h:f<=t):qG nt st ak aL f (t+1)=qG nt st ak aL f t++si nt st ak aL f t:=by
 unfold qG;rw[E7,su (by simpa using h)];simp
def zC(nt st:Int)(ak:List bU)(aL:List bk)(f:Nat):qG nt st ak aL f f=[]:=by simp[qG]
def zD(nt st:Int)(ak:List bU)(aL:List bk)(f:Nat):qH nt st ak aL (f+1)=qH nt st ak aL f++qG nt st ak aL f st.toNat:=by
 simp[qH,E7]
def px(nt st start:Int)(je:b8)(k:Nat):pL nt st start je (k+1)=pL nt st start je k++tB nt st start je k:=by
 simp[pL,E7]
structure MO(n:aA)(l:aM):Prop where
 sm:sm n.ae l.aj
 start:0<=n.start/\n.start<=1000
 ak:∀r∈n.ak,abX r
 Bb:n.ak.length<=1000
 aL:Pw l.aL
 Io:l.aL.length<=10000
 LX:l.bK.length<=1000
 Px:l.aj<=100
def ae8(ts:ar):Prop:=∃(n:aA) (l:aM) (k:Nat) (f t:Int),ts=[n.enc,l.enc,ti k,ti f,ti t]/\k<n.ak.length
def abY:ar->T
 |[n,l,.int _ k,.int _ f,.int _ t]=>.fn (.func 91) (tC (j7 n).ae (qb l).aj ((j7 n).ak.getD k.toNat default) (qb l).aL (qb l).bK f t k)
 |_=>.bool false
def LY:gP:=bG [(64,ee (Yt Im Gy)),(63,bp ae8 abY false),(61,qI),(62,tD),(66,oY)]
def aik:au Tryd.prog LY:=by
 refine ail abW aij (au.cons IZ ?_);rintro ts ⟨n,l,k,f,t,rfl,hk⟩;exact⟨by simpa [abY]using t34 n l k f t hk,λh=>by cases h⟩
def lU(nt st:Int)(r:bU)(aL:List bk)(f t k:Int)(ha:aL.length<=10000)(hf:B2 f t):(inst nt st r aL f t k).length<=10000:=by
 unfold inst;split
 ·split<;>simp
 split
 ·have:∀(l:bY) (g:Nat->List Edge),(∀i,(g i).length<=1)->(l.flatMap g).length<=l.length:=by
   intro l g hg;induction l with
   |nil=>simp
   |cons x l ih=>simp only[KO,pb,pc];have:=hg x;omega
  have:=this (List.range aL.length) _ (λi=>by split<;>simp:∀i,(if(aL.getD i default).f=f/\(aL.getD i default).t=t/\(aL.getD i default).term=r.a then [fU nt st r f t k (r.cA+(aL.getD i default).aG) i []]else []).length<=1)
  simp only[Cp]at this;omega
 split
 ·simp
 split
 ·simp;unfold B2 at hf;omega
 ·simp
def fu{β:Type}(g:Nat->List β)(c:Nat):∀l:bY,(∀i∈l,(g i).length<=c)->(l.flatMap g).length<=l.length*c
 |[],_=>by simp
 |x::l,h=>by
  simp only[KO,pb,pc];have:=h x (by simp);have:=fu g c l λi hi=>h i (by simp[hi]);rw[TE];omega
section
variable{f nt st:Int}
def LZ{n:aA}{l:aM}(h:MO n l){t:Int}(hf:B2 f t):(si n.ae l.aj n.ak l.aL f t).length<=10000000:=by
 unfold si;rw[fy];have:=fu (λk=>inst n.ae l.aj (n.ak.getD k default) l.aL f t k) 10000 (List.range n.ak.length) λi _=>lU _ _ _ _ _ _ _ h.Io hf;have hn:=h.Bb;simp only[Cp]at this;unfold ij;omega
def zF{n:aA}{l:aM}(h:MO n l){t:Int}(hf:B2 f t)(k:Nat)(hk:k<=n.ak.length):(ij n.ae l.aj n.ak l.aL f t k).length<=10000000:=by
 have:=fu (λk=>inst n.ae l.aj (n.ak.getD k default) l.aL f t k) 10000 (List.range k) λi _=>lU _ _ _ _ _ _ _ h.Io hf;have hn:=h.Bb;simp only[Cp]at this;unfold ij;omega
def xz{n:aA}{l:aM}(h:MO n l)(f t:Nat)(ht:(t:Int)<=l.aj):(qG n.ae l.aj n.ak l.aL f t).length<=1000000000:=by
 have hs:=h.Px;have:=fu (λt:Nat=>si n.ae l.aj n.ak l.aL f t) 10000000 ((List.range t).drop f) λi hi=>LZ h (by
  rw[BW]at hi;obtain⟨j,hj,rfl⟩:=hi;simp only[Fx,Cp]at hj;rw[Ff,TW];unfold B2;omega)
 simp only[Fx,Cp]at this;unfold qG;have:(t-f)*10000000<=100*10000000:=B7 _ (by omega);omega
def oZ{n:aA}{l:aM}(h:MO n l)(f:Nat)(hf:(f:Int)<=l.aj):(qH n.ae l.aj n.ak l.aL f).length<=100000000000:=by
 have hs:=h.Px;have h1:=h.sm.2.2.1;have:=fu (λf=>qG n.ae l.aj n.ak l.aL f l.aj.toNat) 1000000000 (List.range f) λi _=>xz h i _ (by omega);simp only[Cp]at this;unfold qH;have:f*1000000000<=100*1000000000:=B7 _ (by omega);omega
def xA{n:aA}{l:aM}(h:MO n l)(k:Nat)(hk:k<=l.bK.length):(pL n.ae l.aj n.start l.bK k).length<=1000:=by
 have:=fu (tB n.ae l.aj n.start l.bK) 1 (List.range k) λi _=>by unfold tB;split<;>simp
 have:=h.LX;simp only[Cp]at*
 unfold pL;omega
@[simp] def ag7(sz:Nat)(cs:ar):dW sz 1 cs=[cs.take sz]:=rfl
def zG:ar->ar
 |[.agg c]=>c
 |_=>[]
def Bc(es:List Edge):(cq es).map zG=bw es:=by
 simp[cq,bw,zG]
def tE{r:bU}{aL:List bk}{t k:Int}{e:Edge}(he:e∈inst nt st r aL f t k):e.head=fo nt st r.head f t:=by
 unfold inst at he;split at he
 ·split at he
  ·simp only[ic]at he;subst he;rfl
  ·cases he
 split at he
 ·simp only[yf]at he;obtain⟨i,_,he⟩:=he;split at he
  ·simp only[ic]at he;subst he;rfl
  ·cases he
 split at he
 ·simp only[ic]at he;subst he;rfl
 split at he
 ·simp only[kL]at he;obtain⟨j,_,rfl⟩:=he;rfl
 ·cases he
def L5{h t:Int}(hs:sm nt st)(hh:0<=h/\h<=1000)(hf:0<=f)(Q8:f<=t)(ht:t<st):0<=fo nt st h f t/\fo nt st h f t<=1000000000000:=by
 obtain⟨h1,h2,h3,h4⟩:=hs;rw[nw hf];obtain⟨p1,p2,p3⟩:=xB h4 hf Q8 ht;have:=eA p1 (show cM st f t<=1000000 by omega) h1 h2;omega
def GA{n:aA}{l:aM}(h:MO n l){t:Int}(hf:0<=f)(Q8:f<=t)(ht:t<l.aj)(k:Nat)(hk:k<=n.ak.length):∀x∈bw (ij n.ae l.aj n.ak l.aL f t k),Im x:=by
 intro x hx;simp only[bw,kL,ij,yf,o8]at hx;obtain⟨e,⟨i,hi,he⟩,rfl⟩:=hx;have hr:=h.ak (n.ak.getD i default) (by simp[show i<n.ak.length by omega]);have:=L5 h.sm ⟨hr.1.1,hr.1.2.1⟩ hf Q8 ht;rw[<-tE he]at this;exact⟨e,rfl,this.1,this.2⟩
def t11(n:aA)(l:aM)(h:MO n l):aI Tryd.prog 28 [n.enc,l.enc] (.agg [ti (da n.ae l.aj+1),.sl (bw (lT n l))]):=by
 have am:=aik;have yn:=h.sm;have XO:0<=da n.ae l.aj/\da n.ae l.aj<=1001000000:=by
  obtain⟨h1,h2,h3,h4⟩:=yn;have b1:=eA h1 h2 h3 h4;have b2:=eA b1.1 b1.2 (b:=l.aj+1) (n:=1001) (by omega) (by omega);unfold da;omega
 refine c11.ok (by simp) (aC ?_);simp[aA.enc,aM.enc];apply aa.ag am fw [2,3,4];simp[XP];apply aa.ag am fw [2,3,4,5];simp[XQ,LY,qI,L6,Py];refine⟨⟨⟨n,rfl⟩,⟨l,rfl⟩⟩, ?_⟩;apply aa.ag am fw [2,3,4,5,6];simp[XR,LY,tD,Pz,Dy];refine⟨yn, ?_⟩;rw[aq (by omega)];obtain⟨tn,qS⟩:=ba (T.box [ti n.aK,ti n.ae,ti n.start,.sl (aU n.ak)]);obtain⟨tl,ja⟩:=ba (T.box [ti l.aj,.sl (aV l.aL),.sl (aw l.bK)]);obtain⟨gl,TO⟩:=ba (da n.ae l.aj);rw[TO]at XO⊢;refine aa.le (Le.aD (o:=[(1185,.box [.v (ti (gl+1)),.aF]),(1005,.box [.v (ti 0),.aF])]) (l:=[(2,.v tn),(3,.v tl),(4,.ptr 1005 0),(5,.v (.box [ti n.ae,ti l.aj])),(6,.ptr 1185 0)]) (bC:=2000) ?_ ?_ ?_ ?_) ?_;iterate 3(·simp)
 ·simp[<-qS,<-ja]
 refine aa.le (Le.ve 1185 1 79 (sz:=5) (by omega) (cs:=[.v (ti (gl+1)),.aF]) (by simp) (by simp)) ?_;simp only[oR,ZcW,Sm];have hS:(l.aj.toNat:Int)=l.aj:=by have:=yn.2.2.1;omega
 have aim:=h.Px;apply aa.sq am fw [2,3,4,5,6,22,23];simp[XS,<-ja];rw[ja];apply aa.block;refine aa.loop (λf:Nat=>⟨DM.look [(2,.v tn),(3,.v tl),(4,.ptr 1005 0),(5,.v (.box [ti n.ae,ti l.aj])),(6,.ptr 1185 0),(22,.v (ti l.aj)),(23,.v (ti f))],cC [(1185,.box [.v (ti (gl+1)),.aQ 2000 0]),(2000,.aR 0 79 5 (bw (qH n.ae l.aj n.ak l.aL f))),(1005,.box [.v (ti 0),.aF])],3000,1000,[]⟩)
  (λf=>(f:Int)<=l.aj) (λf=>l.aj.toNat-f) 0 (Le.aD ?_ ?_ ?_ ?_) (by simp;exact yn.2.2.1) (λf hf=>?_)
 ·simp
 ·simp
 ·simp[qH,bw]
 ·simp
 apply aa.ag am fw [2,3,4,5,6,22,23,24];simp[XT];apply aa.seq;refine aa.cond rfl (λhc=>?_) (λhc=>?_)
 ·simp at hc;apply aa.skip;simp;apply aa.seq;apply aa.block;apply aa.ag am fw [2,3,4,5,6,7,22,23];simp[XU];apply aa.ag am fw [2,3,4,5,6,7,8,22,23];simp[XV];apply aa.block;obtain⟨es0,GB⟩:=ba (qH n.ae l.aj n.ak l.aL f);have ain:es0.length<=100000000000:=by rw[<-GB];exact oZ h f hf
  refine aa.loop (λt:Nat=>⟨DM.look [(2,.v tn),(3,.v tl),(4,.ptr 1005 0),(5,.v (.box [ti n.ae,ti l.aj])),(6,.ptr 1185 0),(7,.v (ti f)),(8,.v (ti t)),(22,.v (ti l.aj)),(23,.v (ti f))],cC [(1185,.box [.v (ti (gl+1)),.aQ 2000 0]),(2000,.aR 0 79 5 (bw (es0++qG n.ae l.aj n.ak l.aL f t))),(1005,.box [.v (ti 0),.aF])],4000,1000,[]⟩)
   (λt=>f<=t/\(t:Int)<=l.aj) (λt=>l.aj.toNat-t) f (Le.aD ?_ ?_ ?_ ?_) ⟨iV _,hf⟩ (λt ht=>?_)
  ·simp
  ·simp
  ·simp[zC,GB]
  ·simp
  obtain⟨ht1,ht2⟩:=ht;apply aa.sq am fw [2,3,4,5,6,7,8,22,23,30];simp[XW,<-ja];rw[ja];refine aa.cond rfl (λhd=>?_) (λhd=>?_)
  ·simp at hd;have GC:B2 f t:=⟨by omega,by omega,by omega⟩;apply aa.skip;simp;apply aa.seq;apply aa.block;apply aa.ag am fw [2,3,4,5,6,7,8,9,22,23];simp[XX];refine aa.le (Le.ve 4099 0 79 (sz:=5) (by omega) (cs:=[.aF]) (by simp) (by simp)) ?_;simp only[oR,Sm];obtain⟨es1,GD⟩:=ba (es0++qG n.ae l.aj n.ak l.aL f t);have aio:es1.length<=101000000000:=by
    rw[<-GD,pb];have:=xz h f t ht2;omega
   rw[GD];apply aa.sq am fw [2,3,4,5,6,7,8,9,22,23,35,36];simp[XY,<-qS];rw[qS];apply aa.block;refine aa.loop (λk:Nat=>⟨DM.look [(2,.v tn),(3,.v tl),(4,.ptr 1005 0),(5,.v (.box [ti n.ae,ti l.aj])),(6,.ptr 1185 0),(7,.v (ti f)),(8,.v (ti t)),(9,.ptr 4099 0),(22,.v (ti l.aj)),(23,.v (ti f)),(35,.v (ti n.ak.length)),(36,.v (ti k))],
     cC [(4099,.box [.aQ 4178 0]),(4178,.aR 0 79 5 (bw (ij n.ae l.aj n.ak l.aL f t k))),(1185,.box [.v (ti (gl+1)),.aQ 2000 0]),(2000,.aR 0 79 5 (bw es1)),(1005,.box [.v (ti 0),.aF])],5000,1000,[]⟩)
    (λk=>k<=n.ak.length) (λk=>n.ak.length-k) 0 (Le.aD ?_ ?_ ?_ ?_) (by simp) (λk hk=>?_)
   ·simp
   ·simp
   ·simp[ij,bw]
   ·simp
   have hnr:=h.Bb;apply aa.ag am fw [2,3,4,5,6,7,8,9,22,23,35,36,37];simp[PA];apply aa.seq;refine aa.cond rfl (λhe=>?_) (λhe=>?_)
   ·simp at he;obtain⟨es2,GF⟩:=ba (ij n.ae l.aj n.ak l.aL f t k);have aip:es2.length<=10000000:=by rw[<-GF];exact zF h GC k (by omega)
    rw[GF];obtain⟨r,hr⟩:=ba (n.ak.getD k default);have nS:abX r:=h.ak r (by rw[<-hr];simp[he]);obtain⟨UX,GG⟩:=ba (inst n.ae l.aj r l.aL f t k);have aiq:UX.length<=10000:=by rw[<-GG];exact lU _ _ _ _ _ _ _ h.Io GC
    have Lz:=t47 n.ae l.aj r l.aL l.bK f t k yn nS GC h.aL;rw[GG]at Lz;apply aa.skip;simp;apply aa.seq;apply aa.block;apply aa.ag am fw [2,3,4,5,6,7,8,9,10,22,23,35,36];simp[PB];apply aa.ag am fw [2,3,4,5,6,7,8,9,22,23,35,36,44];simp only[PC,<-qS,<-ja];have jV:n.ak[k]?.getD default=r:=by rw[<-hr];simp
    simp[LY,bp,abY,jV];rw[qS,ja];refine⟨⟨n,l,k,f,t,rfl,he⟩, ?_⟩;apply aa.block;refine aa.sZ Lz (by simp) (by simp) ?_ (λpre=>cC [(4099,.box [.aQ 4178 pre.length]),(4178,.aR pre.length 79 5 (bw es2++pre.map zG)),(1185,.box [.v (ti (gl+1)),.aQ 2000 0]),(2000,.aR 0 79 5 (bw es1)),(1005,.box [.v (ti 0),.aF])]) ?_ ?_ (λpre x rest hx=>?_) ?_
    ·intro x hx;simp only[cq,kL]at hx;obtain⟨e,_,rfl⟩:=hx;rfl
    ·simp
    ·intro pre r hr;simp only at hr;simp only[rO,H3];repeat rw[mL (by omega)]
    ·have hxm:x∈cq UX:=by rw[hx];simp
     simp only[cq,kL]at hxm;obtain⟨e,hem,rfl⟩:=hxm;have ajQ:pre.length<=10000:=by
      have:(cq UX).length=UX.length:=by simp[cq]
      rw[hx]at this;simp at this;omega
     obtain⟨L,hL⟩:=ba (pre.map zG);have lL:L.length=pre.length:=by rw[<-hL];simp
     simp only[wY,hL];apply aa.cX am fw [2,3,4,5,6,7,8,9,11,22,23,35,36];simp[PD,Edge.enc];apply aa.block;apply aa.cX am fw [];simp[PE,cw];refine⟨by omega, ?_⟩;simp only[<-AZ];refine Le.UO ?_ ?_ ?_ ?_
     ·simp[hL,lL,zG]
     ·simp
     ·simp[hL,zG]
     ·simp
    ·have Tz:(cq UX).length=UX.length:=by simp[cq]
     simp only[Bc];simp;apply aa.cX am fw [2,3,4,5,6,7,8,9,22,23,35,36];simp[PF];refine⟨k+1,Le.aD ?_ ?_ ?_ ?_, ?_, ?_⟩
     ·simp
     ·simp
     ·have Mw:ij n.ae l.aj n.ak l.aL f t (k+1)=es2++UX:=by rw[Gz,GF,hr,GG]
      simp[Mw,bw]
     ·simp;exact(aq (by omega)).symm
     ·omega
     ·omega
   ·simp at he;have hkR:k=n.ak.length:=by omega
    subst hkR;have jw:∀x∈bw (ij n.ae l.aj n.ak l.aL f t n.ak.length),Im x:=GA h (by omega) (by omega) hd _ (iV _);have air:(ij n.ae l.aj n.ak l.aL f t n.ak.length).length<=10000000:=zF h GC _ (iV _);have PG:=Dx (ij n.ae l.aj n.ak l.aL f t n.ak.length);have Ip:si n.ae l.aj n.ak l.aL f t=bE In (ij n.ae l.aj n.ak l.aL f t n.ak.length):=rfl;obtain⟨es4,ais⟩:=ba (ij n.ae l.aj n.ak l.aL f t n.ak.length);rw[ais]at jw air PG Ip⊢;obtain⟨es5,ae9⟩:=ba (bE In es4);have l5:es5.length=es4.length:=by rw[<-ae9,fy]
    rw[ae9]at PG Ip;apply aa.exit;simp;refine aa.eC am fw (rs:=Bd) (.inr ⟨_,rfl⟩) (by kernel_rfl) [2,3,4,5,6,7,8,9,22,23] ?_;simp[Bd,LY,Yt,oR,PG];refine⟨⟨jw,by omega⟩, ?_⟩;apply aa.cX am fw [2,3,4,5,6,7,8,22,23];simp[PH,cw];refine⟨⟨?_,by omega,by omega⟩, ?_⟩
    ·intro x hx;simp only[bw,kL]at hx;obtain⟨e,_,rfl⟩:=hx;rfl
    apply aa.cX am fw [2,3,4,5,6,7,8,22,23];simp[PI];refine⟨t+1,Le.aD ?_ ?_ ?_ ?_,⟨?_, ?_⟩, ?_⟩
    ·simp
    ·simp
    ·rw[zB _ _ _ _ _ _ ht1,<-List.append_assoc,GD,Ip];simp[bw]
    ·simp;exact(aq (by omega)).symm
    ·omega
    ·omega
    ·omega
  ·simp at hd;apply aa.exit;simp;apply aa.cX am fw [2,3,4,5,6,22,23];simp[PJ];have htS:t=l.aj.toNat:=by omega
   refine⟨f+1,Le.aD ?_ ?_ ?_ ?_, ?_, ?_⟩
   ·simp
   ·simp
   ·rw[zD,GB,htS];simp
   ·simp;exact(aq (by omega)).symm
   ·omega
   ·omega
 ·simp at hc;have hfS:f=l.aj.toNat:=by omega
  apply aa.exit;simp;obtain⟨UY,GH⟩:=ba (qH n.ae l.aj n.ak l.aL l.aj.toNat);have ait:UY.length<=100000000000:=by rw[<-GH];exact oZ h _ (by omega)
  rw[hfS,GH];apply aa.sq am fw [2,4,5,6,60,61,62];simp only[PK,<-ja];simp;apply aa.block;refine aa.loop (λk:Nat=>⟨DM.look [(2,.v tn),(4,.ptr 1005 0),(5,.v (.box [ti n.ae,ti l.aj])),(6,.ptr 1185 0),(60,.v (.sl (aw l.bK))),(61,.v (ti l.bK.length)),(62,.v (ti k))],
    cC [(1185,.box [.v (ti (gl+1)),.aQ 2000 0]),(2000,.aR 0 79 5 (bw (UY++pL n.ae l.aj n.start l.bK k))),(1005,.box [.v (ti 0),.aF])],4000,1000,[]⟩)
   (λk=>k<=l.bK.length) (λk=>l.bK.length-k) 0 (Le.aD ?_ ?_ ?_ ?_) (by simp) (λk hk=>?_)
  ·simp
  ·simp
  ·simp[pL]
  ·simp
  have hnf:=h.LX;apply aa.ag am fw [2,4,5,6,60,61,62,63];simp[akQ];apply aa.seq;refine aa.cond rfl (λhe=>?_) (λhe=>?_)
  ·simp at he;obtain⟨c,hcf⟩:=ba (l.bK.getD k default);have fz:=bS he;rw[hcf]at fz;obtain⟨es7,Be⟩:=ba (UY++pL n.ae l.aj n.start l.bK k);have aiu:es7.length<=101000000000:=by
    rw[<-Be,pb];have:=xA h k hk;omega
   rw[Be];apply aa.skip;simp;apply aa.seq;apply aa.block;apply aa.ag am fw [2,4,5,6,12,13,60,61,62];simp[PM,fz,he];apply aa.ag am fw [2,4,5,6,12,13,60,61,62,68];simp[PN];refine aa.to ⟨DM.look [(2,.v tn),(4,.ptr 1005 0),(5,.v (.box [ti n.ae,ti l.aj])),(6,.ptr 1185 0),(60,.v (.sl (aw l.bK))),(61,.v (ti l.bK.length)),(62,.v (ti k))],
    cC [(1185,.box [.v (ti (gl+1)),.aQ 2000 0]),(2000,.aR 0 79 5 (bw (UY++pL n.ae l.aj n.start l.bK (k+1)))),(1005,.box [.v (ti 0),.aF])],6000,1000,[]⟩ ?_ ?_
   ·refine aa.cond rfl (λh5=>?_) (λh5=>?_)
    ·simp at h5;have yo:tB n.ae l.aj n.start l.bK k=[⟨gl,[fo n.ae l.aj n.start 0 k],c,-1,k⟩]:=by unfold tB;rw[hcf,uV (by simpa [mr]using h5),TO]
     apply aa.cX am fw [2,4,5,6,60,61,62];simp only[PO,<-qS];simp[LY,tD,Pz,Dy,oY,L7,Dz,cw,TO];refine⟨yn,⟨yn,h.start.1,h.start.2,by omega⟩,⟨by omega,by omega⟩, ?_⟩;refine Le.aD ?_ ?_ ?_ ?_
     ·simp
     ·simp
     ·rw[px,<-List.append_assoc,Be,yo];simp[bw,Edge.enc,aw]
     ·simp[]
    ·simp at h5;have yo:tB n.ae l.aj n.start l.bK k=[]:=by unfold tB;rw[hcf,mL (by simp[mr];omega)]
     refine aa.skip ⟨rfl,Le.aD ?_ ?_ ?_ ?_⟩
     ·simp
     ·simp
     ·rw[px,<-List.append_assoc,Be,yo];simp
     ·simp
   ·simp;apply aa.cX am fw [2,4,5,6,60,61,62];simp[PP];refine⟨k+1,Le.aD ?_ ?_ ?_ ?_, ?_, ?_⟩;iterate 3(·simp)
    ·simp;exact(aq (by omega)).symm
    ·omega
    ·omega
  ·simp at he;have hkF:k=l.bK.length:=by omega
   apply aa.exit;simp;apply aa.ag am fw [4];simp[PR];apply aa.ret;simp[PS,lT,GH,hkF]
end
def al9(n:Nat):(List.range n).Pairwise (·<·):=List.pairwise_lt_range
def ame:SWO In:=by
 refine⟨λx=>?_,λx y z h1 h2=>?_,λx y z h1 h2=>?_⟩<;>simp only[In,o5,nX]at* <;>omega
def amf(a b:Edge):i4 In a b=true↔a.head=b.head:=by
 simp only[i4,In,iS,Fm,nX];omega
def Mi{nt st start:Int}{je:b8}{k:Nat}{e:Edge}(he:e∈pL nt st start je k):∃t:Nat,t<k/\e=⟨da nt st,[fo nt st start 0 t],je.getD t default,-1,t⟩/\je.getD t default<mr:=by
 unfold pL at he;simp only[yf,o8]at he;obtain⟨i,hi,he⟩:=he;unfold tB at he;split at he
 ·simp only[ic]at he;exact⟨i,hi,he,by assumption⟩
 ·cases he
@[simp] def ag0(sz:Nat)(cs:ar):dW sz 2 cs=[cs.take sz,(cs.drop sz).take sz]:=rfl
section
variable{nt st h f:Int}
def vF{t h' f' t':Int}(hi:bl nt st h f t)(vG:bl nt st h' f' t')(e:cM st f t*nt+h=cM st f' t'*nt+h'):h=h'/\f=f'/\t=t':=by
 unfold bl at hi vG;have d1:=Fk (x:=cM st f t) (nt:=nt) (h:=h) (by omega) (by omega);have d2:=Fk (x:=cM st f' t') (nt:=nt) (h:=h') (by omega) (by omega);rw[e]at d1;have es:cM st f t=cM st f' t':=by rw[<-d1.1,d2.1]
 have eh:h=h':=by rw[<-d1.2,d2.2]
 refine⟨eh, ?_⟩;rcases Int.lt_trichotomy f f' with h1|h1|h1
 ·have:=Hv (st:=st) (f:=f') (t:=t') (s:=f) (u:=t) (by omega) h1 (by omega) (by omega) (by omega);omega
 ·subst h1;unfold cM at es;omega
 ·have:=Hv (st:=st) (f:=f) (t:=t) (s:=f') (u:=t') (by omega) h1 (by omega) (by omega) (by omega);omega
open Classical in
noncomputable def E0(nt st i:Int):T:=
 if h:∃p:Int×Int×Int,bl nt st p.1 p.2.1 p.2.2/\i=cM st p.2.1 p.2.2*nt+p.1 then .dh [.agg [ti h.choose.1,ti h.choose.2.1,ti h.choose.2.2],.bool true]
 else .dh [.agg [ti 0,ti 0,ti 0],.bool false]
def vH{t i:Int}(hi:bl nt st h f t)(e:i=cM st f t*nt+h):E0 nt st i=.dh [.agg [ti h,ti f,ti t],.bool true]:=by
 have hx:∃p:Int×Int×Int,bl nt st p.1 p.2.1 p.2.2/\i=cM st p.2.1 p.2.2*nt+p.1:=⟨(h,f,t),hi,e⟩;unfold E0;rw[dif_pos hx];obtain⟨k1,k2⟩:=hx.choose_spec;obtain⟨e1,e2,e3⟩:=vF hi k1 (e.symm.trans k2);rw[<-e1,<-e2,<-e3]
def B5{i:Int}(hs:sm nt st)(hi:i<0\/da nt st<=i):E0 nt st i=.dh [.agg [ti 0,ti 0,ti 0],.bool false]:=by
 unfold E0;rw[dif_neg];rintro⟨⟨h,f,t⟩,k1,k2⟩;have:=i5 hs k1;simp only at k2 this;omega
def t16(n:aA)(l:aM)(i:Int)(hs:sm n.ae l.aj):aI Tryd.prog 67 [n.enc,l.enc,ti i] (E0 n.ae l.aj i):=by
 by_cases hi:i<0\/da n.ae l.aj<=i
 ·rw[B5 hs hi];exact ag9 n l i hs hi
 ·obtain⟨h,f,t,k1,k2⟩:=TZ hs (by omega) (show i<da n.ae l.aj by omega);rw[vH k1 k2,k2];exact aha n l h f t hs k1
def qa(nt st h f t:Int):T:=if bl nt st h f t then .dh [ti (fo nt st h f t),.bool true]else .dh [ti 0,.bool false]
def as8(ts:ar):Prop:=∃(n:aA) (l:aM),ts=[n.enc,l.enc]/\sm n.ae l.aj
def abb(ts:ar):Prop:=∃(n:aA) (l:aM) (i:Int),ts=[n.enc,l.enc,ti i]/\sm n.ae l.aj
def vI(ts:ar):Prop:=∃(n:aA) (l:aM) (h f t:Int),ts=[n.enc,l.enc,.agg [ti h,ti f,ti t]]/\sm n.ae l.aj
def kK:ar->T
 |[n,l,.agg [.int _ h,.int _ f,.int _ t]]=>qa (j7 n).ae (qb l).aj h f t
 |_=>.bool false
noncomputable def MS:ar->T
 |[n,l,.int _ i]=>E0 (j7 n).ae (qb l).aj i
 |_=>.bool false
def aph:ar->T
 |[n,l]=>ti (da (j7 n).ae (qb l).aj+1)
 |_=>.bool false
end
structure jq(n:aA)(l:aM):Prop where
 nt:1<=n.ae/\n.ae<=14
 aK:0<=n.aK/\n.aK<=6
 nr:n.ak.length<=24
 start:0<=n.start/\n.start<n.ae
 ak:∀r∈n.ak,¬jp n r/\fV n r
 st:1<=l.aj/\l.aj<=11
 LX:(l.bK.length:Int)=l.aj
 na:l.aL.length<=120
 je:∀c∈l.bK,0<=c/\c<=mr
 aL:∀i,i<l.aL.length->¬tF l n.aK i
def IF{n:aA}{l:aM}(h:fair n l=true):jq n l:=by
 simp only[fair,mn,iS,o5,dF,GQ,Fm,nX,yJ,o8,nA,Rz,Ry]at h;obtain⟨⟨⟨⟨h1,h2,h3⟩,h4,h5⟩,h6,h7⟩,⟨h8,h9⟩,h10,h11⟩:=h;unfold nz at h4;refine⟨by omega,by omega,by omega,by omega,λr hr=>?_,by omega,h9,by omega,λc hc=>?_,h11⟩
 ·obtain⟨i,hi,rfl⟩:=BW.1 hr;have:=h5 i hi;simpa [hi]using this
 ·obtain⟨i,hi,rfl⟩:=BW.1 hc;have:=h10 i hi;simpa [hi]using this
def jq.head{n:aA}{l:aM}(h:jq n l):∀r∈n.ak,0<=r.head/\r.head<n.ae:=by
 intro r hr;have:=(h.ak r hr).1;unfold jp at this;omega
def jq.arc{n:aA}{l:aM}(h:jq n l):∀a∈l.aL,0<=a.f/\a.f<=a.t/\a.t<l.aj/\0<=a.term/\a.term<n.aK/\0<=a.aG/\a.aG<mr:=by
 intro a ha;obtain⟨i,hi,rfl⟩:=BW.1 ha;have:=h.aL i hi;unfold tF at this;rw[Ub,fq hi,TB]at this;simp only[mr]at*
 omega
def jq.Ug{n:aA}{l:aM}(h:jq n l):MO n l:=by
 have h1:=h.nt;have h2:=h.st;have h3:=h.start;have h4:=h.nr;have h5:=h.na;have h6:=h.LX;refine⟨⟨by omega,by omega,by omega,by omega⟩,by omega,λr hr=>?_,by omega,⟨by omega,λa ha=>?_⟩,by omega,by omega,by omega⟩
 ·obtain⟨k1,k2⟩:=h.ak r hr;unfold jp at k1;unfold fV at k2;refine⟨⟨by omega,by omega,by omega,by omega⟩,λe=>by omega,λe=>by omega⟩
 ·have:=h.arc a ha;simp only[mr]at*
  omega
end Go.Proofs.It
namespace Go.Proofs.It
open Go.DM Go.DM.kC
def zR{n:aA}{l:aM}(h:MO n l):(lT n l).length<=101000000000:=by
 unfold lT;rw[pb];have h1:=h.sm.2.2.1;have:=oZ h l.aj.toNat (by omega);have:=xA h l.bK.length (iV _);omega
end Go.Proofs.It
