/- Part. Conditions: none. -/
import Derived.Test.YtbmaafemenldnaaGreatDoorXai
set_option linter.all false
set_option maxRecDepth 100000
set_option maxHeartbeats 8000000
namespace Go.Proofs
namespace aT
open Go.DM
section
variable{h:Int}{z:Nat}
inductive DZ(n:ay)(l:aF):Int->Nat->Nat->Int->Nat->Prop
 |empty {s k:Nat} {r:bC} (hk:n.aj[k]? =some r) (h1:r.kind=1):DZ n l r.head s s r.bi 1
 |term {s t k a:Nat} {r:bC} {x:bF} (hk:n.aj[k]? =some r) (h1:r.kind=2) (ha:l.aK[a]? =some x) (h2:x.f=s) (h3:x.t=t) (h4:x.term=r.a):DZ n l r.head s t (r.bi+x.aA) 1
 |unary {s t k z:Nat} {c:Int} {r:bC} (hk:n.aj[k]? =some r) (h1:r.kind=3) (d:DZ n l r.a s t c z):DZ n l r.head s t (r.bi+c) (1+z)
 |fW {s m t k z z':Nat} {c c':Int} {r:bC} (hk:n.aj[k]? =some r) (h1:r.kind=4) (d1:DZ n l r.a s m c z) (d2:DZ n l r.b m t c' z'):DZ n l r.head s t (r.bi+c+c') (1+z+z')
section
variable{n:ay}{l:aF}
def DZ.nn(hn:qf n)(hl:wB l){s t:Nat}{c:Int}(d:DZ n l h s t c z):0<=c/\1<=z:=by
 induction d with
 |empty hk h1=>have:=(cP hn hk).1;unfold me at this;omega
 |term hk h1 ha h2 h3 h4=>
  have:=(cP hn hk).1;have:=hl.2.2.2 _ (Et ha);unfold me at*;omega
 |unary hk h1 d ih=>have:=(cP hn hk).1;unfold me at this;omega
 |fW hk h1 d1 d2 i1 i2=>have:=(cP hn hk).1;unfold me at this;omega
def DZ.le(ha:∀a∈l.aK,a.f<=a.t){s t:Nat}{c:Int}(d:DZ n l h s t c z):s<=t:=by
 induction d with
 |empty=>omega
 |term _ _ hx h2 h3 _=>have:=ha _ (Et hx);omega
 |unary _ _ _ ih=>exact ih
 |fW _ _ _ _ i1 i2=>omega
def DZ.head(hn:qf n){s t:Nat}{c:Int}(d:DZ n l h s t c z):0<=h/\h<n.ae:=by
 cases d with
 |empty hk=>have:=(cP hn hk).1;exact⟨this.1,this.2.1⟩
 |term hk=>have:=(cP hn hk).1;exact⟨this.1,this.2.1⟩
 |unary hk=>have:=(cP hn hk).1;exact⟨this.1,this.2.1⟩
 |fW hk=>have:=(cP hn hk).1;exact⟨this.1,this.2.1⟩
def DZ.der(hn:qf n)(hl:wB l)(ha:∀a∈l.aK,a.f<=a.t){s t:Nat}{c:Int}(d:DZ n l h s t c z)(hc:c<1099511627776):Tq n l h s t ⟨c,min (z:Int) 1099511627776⟩:=by
 induction d with
 | @empty s k r hk h1=>
  have e:co r.bi []=⟨r.bi,min ((1:Nat):Int) 1099511627776⟩:=by rw[Au,bX (by omega)];rfl
  exact⟨k,s,e▸gC.empty hk h1 (by rw[e];exact hc)⟩
 | @term s t k a r x hk h1 hx h2 h3 h4=>
  have e:co (r.bi+x.aA) []=⟨r.bi+x.aA,min ((1:Nat):Int) 1099511627776⟩:=by rw[Au,bX (by omega)];rfl
  exact⟨k,a,e▸gC.term hk h1 hx h2 h3 h4 (by rw[e];exact hc)⟩
 | @unary s t k z c r hk h1 d ih=>
  have hp:=(cP hn hk).1.2.2.1;have:=d.nn hn hl;obtain⟨k1,g1,d1⟩:=ih (by omega);have e:co r.bi [⟨c,min (z:Int) 1099511627776⟩]=⟨r.bi+c,min ((1+z:Nat):Int) 1099511627776⟩:=by
   rw[Av,bX (by simp only;omega)];simp only[cX.mk.injEq];omega
  exact⟨k,s,e▸gC.unary hk h1 d1 (by rw[e];exact hc)⟩
 | @fW s m t k z z' c c' r hk h1 d1 d2 i1 i2=>
  have hp:=(cP hn hk).1.2.2.1;have:=d1.nn hn hl;have:=d2.nn hn hl;obtain⟨k1,g1,e1⟩:=i1 (by omega);obtain⟨k2,g2,e2⟩:=i2 (by omega);have e:co r.bi [⟨c,min (z:Int) 1099511627776⟩,⟨c',min (z':Int) 1099511627776⟩]=⟨r.bi+c+c',min ((1+z+z':Nat):Int) 1099511627776⟩:=by
   rw[FB,bX (by simp only;omega)];simp only[cX.mk.injEq];omega
  exact⟨k,m,e▸gC.fW hk h1 (d1.le ha) (d2.le ha) e1 e2 (by rw[e];exact hc)⟩
def gC.dz(hn:qf n)(hl:wB l){s t k:Nat}{g:Int}{v:cX}(d:gC n l h s t k g v):∃z:Nat,DZ n l h s t v.aA z/\v.size=min (z:Int) 1099511627776:=by
 induction d with
 | @empty s k r hk h1 hv=>
  have hp:=(cP hn hk).1;have e:co r.bi []=⟨r.bi,1⟩:=by rw[Au,bX (by have:=hp.2.2.2.1;omega)]
  rw[e];exact⟨1,.empty hk h1,by show(1:Int)=min ((1:Nat):Int) 1099511627776;omega⟩
 | @term s t k a r x hk h1 hx h2 h3 h4 hv=>
  have e:co (r.bi+x.aA) []=⟨r.bi+x.aA,1⟩:=by
   rw[Au]at hv⊢;split at hv
   ·simp at hv
   ·rename_i q;rw[bX q]
  rw[e];exact⟨1,.term hk h1 hx h2 h3 h4,by show(1:Int)=min ((1:Nat):Int) 1099511627776;omega⟩
 | @unary s t k k1 g1 r v hk h1 d hv ih=>
  obtain⟨z,d1,e1⟩:=ih;have hp:=(cP hn hk).1.2.2.1;have:=(d1.nn hn hl);have e:co r.bi [v]=⟨r.bi+v.aA,min ((1+z:Nat):Int) 1099511627776⟩:=by
   rw[Av]at hv⊢;split at hv
   ·simp at hv
   ·rename_i q;rw[bX q];simp only[cX.mk.injEq];omega
  rw[e];exact⟨1+z,.unary hk h1 d1,rfl⟩
 | @fW s m t k k1 k2 g1 g2 r v w hk h1 hs ht d1 d2 hv i1 i2=>
  obtain⟨z,e1,f1⟩:=i1;obtain⟨z',e2,f2⟩:=i2;have hp:=(cP hn hk).1.2.2.1;have:=(e1.nn hn hl);have:=(e2.nn hn hl);have e:co r.bi [v,w]=⟨r.bi+v.aA+w.aA,min ((1+z+z':Nat):Int) 1099511627776⟩:=by
   rw[FB]at hv⊢;split at hv
   ·simp at hv
   ·rename_i q;rw[bX q];simp only[cX.mk.injEq];omega
  rw[e];exact⟨1+z+z',.fW hk h1 e1 e2,rfl⟩
def DQ(p:fm):∀(N:Nat),p N->∃x,p x/\∀y,p y->x<=y:=by
 intro N;induction N using Nat.strongRecOn with
 |_ N ih=>
  intro h;by_cases hx:∃y,y<N/\p y
  ·obtain⟨y,h1,h2⟩:=hx;exact ih y h1 h2
  ·exact⟨N,h,λy hy=>by
    rcases Nat.lt_or_ge y N with q|q
    ·exact eX ⟨y,q,hy⟩ hx
    ·exact q⟩
def WM(n:ay)(l:aF)(h:Int)(s t:Nat)(c:Int)(z:Nat):Prop:=DZ n l h s t c z/\∀c' z',DZ n l h s t c' z'->c<c'\/(c=c'/\z<=z')
def WM.of(hn:qf n)(hl:wB l){s t:Nat}{c:Int}(d:DZ n l h s t c z):∃c' z',WM n l h s t c' z':=by
 obtain⟨c1,⟨z1,d1⟩,m1⟩:=DQ (λx=>∃z,DZ n l h s t (x:Int) z) c.toNat ⟨z,by rw[Zcg (d.nn hn hl).1];exact d⟩;obtain⟨z2,d2,m2⟩:=DQ (λx=>DZ n l h s t (c1:Int) x) z1 d1;refine⟨c1,z2,d2,λc' z' d'=>?_⟩;have p:=(d'.nn hn hl).1;have:=m1 c'.toNat ⟨z',by rw[Zcg p];exact d'⟩;by_cases e:(c1:Int)=c'
 ·subst e;exact .inr ⟨rfl,m2 _ d'⟩
 ·left;omega
open Classical in
noncomputable def XN(n:ay)(l:aF)(s t z:Nat):Nat:=(List.range n.ae.toNat).countP λh=>decide (∃c z',WM n l (h:Nat) s t c z'/\z'<z)
def FV{α:Type}{p q:α->Bool}:∀{L:List α},(∀x,p x=true->q x=true)->∀x∈L,q x=true->p x=false->L.countP p+1<=L.countP q
 |[],_,x,hx,_,_=>by cases hx
 |a::L,h,x,hx,h1,h2=>by
  have hm:L.countP p<=L.countP q:=List.countP_mono_left λx _=>h x;rw[List.countP_cons,List.countP_cons];rcases nH.1 hx with rfl|hx
  ·rw[h1,h2];simp only[OS,we,jB];omega
  ·have ih:=FV h x hx h1 h2;cases hp:p a with
   |false=>simp only[OS,we];split<;>omega
   |true=>rw[h a hp];simp only[jB];omega
def HU(s t z:Nat):XN n l s t z<=n.ae.toNat:=by
 unfold XN;have:=List.countP_le_length (p:=λh=> @decide (∃c z',WM n l (h:Nat) s t c z'/\z'<z) (Classical.propDecidable _)) (l:=List.range n.ae.toNat);simpa using this
open Classical in
def HV(hn:qf n){s t z1:Nat}{c:Int}(w:WM n l h s t c z1)(hz:z1<z):XN n l s t z1+1<=XN n l s t z:=by
 have hh:=w.1.head hn;unfold XN;refine FV (λx hx=>?_) h.toNat (pm.2 (by omega)) ?_ ?_
 ·obtain⟨c',z',a,b⟩:=qg hx;exact decide_eq_true ⟨c',z',a,by omega⟩
 ·exact decide_eq_true ⟨c,z1,by rw[Zcg hh.1];exact w,hz⟩
 ·refine decide_eq_false ?_;rintro⟨c',z',a,b⟩;rw[Zcg hh.1]at a;have a1:=w.2 _ _ a.1;have a2:=a.2 _ _ w.1;omega
def WM.split{s t:Nat}{c:Int}(w:WM n l h s t c z):z=1\/
  (∃h1 c1 z1,WM n l h1 s t c1 z1/\z=1+z1)\/
  ∃h1 h2 m c1 z1 c2 z2,WM n l h1 s m c1 z1/\WM n l h2 m t c2 z2/\z=1+z1+z2:=by
 obtain⟨d,w⟩:=w;cases d with
 |empty=>exact .inl rfl
 |term=>exact .inl rfl
 |unary hk h1 d=>
  refine .inr (.inl ⟨_,_,_,⟨d,λc' z' d'=>?_⟩,rfl⟩);have:=w _ _ (.unary hk h1 d');omega
 |fW hk h1 d1 d2=>
  refine .inr (.inr ⟨_,_,_,_,_,_,_,⟨d1,λc' z' d'=>?_⟩,⟨d2,λc' z' d'=>?_⟩,rfl⟩)
  ·have:=w _ _ (.fW hk h1 d' d2);omega
  ·have:=w _ _ (.fW hk h1 d1 d');omega
def N4(n:ay):Nat:=2^(n.ae.toNat+1)
def WM.zero(hn:qf n)(ha:∀a∈l.aK,a.f<=a.t){s:Nat}:∀(z:Nat) {h:Int} {c:Int},WM n l h s s c z->z+1<=2^(XN n l s s z+1):=by
 intro z;induction z using Nat.strongRecOn with
 |_ z ih=>
  intro h c w;have p1:1<=2^XN n l s s z:=Nat.one_le_two_pow;have pz:(2:Nat)^(XN n l s s z+1)=2*2^XN n l s s z:=by rw[Nat.pow_succ,Nat.mul_comm]
  rw[pz];rcases w.split with rfl|⟨h1,c1,z1,w1,rfl⟩|⟨h1,h2,m,c1,z1,c2,z2,w1,w2,rfl⟩
  ·omega
  ·have i1:=ih z1 (by omega) w1;have q1:=Zcs (n:=2) (by omega) (HV hn w1 (show z1<1+z1 by omega));omega
  ·have hm:m=s:=by have:=w1.1.le ha;have:=w2.1.le ha;omega
   subst hm;have i1:=ih z1 (by omega) w1;have q1:=Zcs (n:=2) (by omega) (HV hn w1 (show z1<1+z1+z2 by omega));have i2:=ih z2 (by omega) w2;have q2:=Zcs (n:=2) (by omega) (HV hn w2 (show z2<1+z1+z2 by omega));omega
def WM.I8(hn:qf n)(ha:∀a∈l.aK,a.f<=a.t){s:Nat}{c:Int}(w:WM n l h s s c z):z+1<=N4 n:=by
 have:=WM.zero hn ha z w;have:=Zcs (n:=2) (by omega) (Zc1 (HU (n:=n) (l:=l) s s z));unfold N4;omega
def Lp(n:ay):Nat:=(n.ae.toNat+1)*N4 n
def WM.size(hn:qf n)(ha:∀a∈l.aK,a.f<=a.t):∀(L:Nat) {s:Nat},1<=L->∀(z:Nat) {h:Int} {c:Int},WM n l h s (s+L) c z->z<=(XN n l s (s+L) z+1)*N4 n+(2*L-2)*Lp n:=by
 intro L;induction L using Nat.strongRecOn with
 |_ L ihL=>
  intro s hL z;induction z using Nat.strongRecOn with
  |_ z ih=>
   intro h c w;have e0:1<=N4 n:=Nat.one_le_two_pow;obtain⟨A,hA⟩:=aY ((2*L-2)*Lp n);have one:∀{z1:Nat} {h1 c1:Int},WM n l h1 s (s+L) c1 z1->z1<z->z1+N4 n<=(XN n l s (s+L) z+1)*N4 n+A:=by
    intro z1 h1 c1 w1 cQ;have i1:=ih z1 cQ w1;rw[hA]at i1;have:=Gy (N4 n) (HV hn w1 cQ);rw[xm,ZcA]at i1 this⊢;omega
   rw[hA];rcases w.split with rfl|⟨h1,c1,z1,w1,rfl⟩|⟨h1,h2,m,c1,z1,c2,z2,w1,w2,rfl⟩
   ·rw[xm,ZcA];omega
   ·have:=one w1 (by omega);omega
   ·have l1:=w1.1.le ha;have l2:=w2.1.le ha;by_cases hs:m=s
    ·subst hs;have:=w1.I8 hn ha;have:=one w2 (by omega);omega
    by_cases ht:m=s+L
    ·subst ht;have:=w2.I8 hn ha;have:=one w1 (by omega);omega
    obtain⟨a,rfl⟩:∃a,m=s+a:=⟨m-s,by omega⟩;obtain⟨b,rfl⟩:∃b,L=a+b:=⟨L-a,by omega⟩;have i1:=ihL a (by omega) (by omega) z1 w1;rw[show s+(a+b)=(s+a)+b by omega]at w2;have i2:=ihL b (by omega) (by omega) z2 w2;have k1:=Gy (N4 n) (Zc1 (HU (n:=n) (l:=l) s (s+a) z1));have k2:=Gy (N4 n) (Zc1 (HU (n:=n) (l:=l) (s+a) (s+a+b) z2));rw[<-hA];have e1:(2*(a+b)-2)*Lp n=(2*a-2)*Lp n+(2*b-2)*Lp n+2*Lp n:=by
     rw[<-Nat.add_mul,<-Nat.add_mul];congr 1;omega
    have e2:Lp n=(n.ae.toNat+1)*N4 n:=rfl;rw[e1];simp only[Nat.succ_eq_add_one]at k1 k2;rw[<-e2]at k1 k2;rw[xm,ZcA];omega
def WM.few(hn:qf n)(ha:∀a∈l.aK,a.f<=a.t){c:Int}{s t:Nat}(w:WM n l h s t c z):z<=(2*(t-s)+1)*Lp n:=by
 have e2:Lp n=(n.ae.toNat+1)*N4 n:=rfl;have h0:N4 n<=Lp n:=by rw[e2];exact Nat.le_mul_of_pos_left _ (by omega)
 have io:=w.1.le ha;rcases Zdj (t-s)with e|e
 ·obtain rfl:t=s:=by omega
  have:=w.I8 hn ha;rw[e];omega
 ·obtain⟨L,rfl⟩:∃L,t=s+L:=⟨t-s,by omega⟩;rw[show s+L-s=L by omega]at e⊢;have i:=WM.size hn ha L e z w;have k1:=Gy (N4 n) (Zc1 (HU (n:=n) (l:=l) s (s+L) z));simp only[Nat.succ_eq_add_one]at k1;rw[<-e2]at k1;have e1:(2*L+1)*Lp n=(2*L-2)*Lp n+3*Lp n:=by rw[<-Nat.add_mul];congr 1;omega
  rw[e1];omega
end
end
section
variable{h:Int}
section
variable{n:ay}{l:aF}
def szB(n:ay)(l:aF):Nat:=(2*l.am.toNat+1)*Lp n
structure Fit(n:ay)(l:aF):Prop where
 nO:qf n
 lO:wB l
 aO:∀a∈l.aK,a.f<=a.t
 few:szB n l<16777216
def Fit.size(F:Fit n l){c:Int}{s t z:Nat}(w:WM n l h s t c z)(ht:(t:Int)<l.am):z<=szB n l:=by
 have h1:=w.few F.nO F.aO;have h2:=Gy (Lp n) (show 2*(t-s)+1<=2*l.am.toNat+1 by omega);unfold szB;omega
def Good.dM{s t:Nat}{x:Cell}(g:Good n l h s t x)(hx:x.aA<1099511627776):(∃k:Nat,x.lb=k/\gC n l h s t k x.arg x.val)/\∀(k':Nat) g',gC n l h s t k' g' x.val->JS x.lb x.arg k' g':=by
 rcases g.top with rfl|h
 ·exact eX hx (by decide)
 ·exact h
def Good.wm(F:Fit n l){s t:Nat}{x:Cell}(g:Good n l h s t x)(hx:x.aA<1099511627776)(ht:(t:Int)<l.am):∃z:Nat,WM n l h s t x.aA z/\x.size=z/\z<=szB n l:=by
 obtain⟨⟨k,_,d⟩,_⟩:=g.dM hx;obtain⟨z0,d0,e0⟩:=d.dz F.nO F.lO;have d0:DZ n l h s t x.aA z0:=d0;have e0:x.size=min (z0:Int) 1099511627776:=e0;obtain⟨c,z,w⟩:=WM.of F.nO F.lO d0;have hz:=F.size w ht;have hf:=F.few;have h1:=w.2 _ _ d0;have hd:=w.1.der F.nO F.lO F.aO (show c<1099511627776 by omega);have hl:¬(c<x.aA\/(c=x.aA/\min (z:Int) 1099511627776<x.size)):=g.sN _ hd;have ec:c=x.aA:=by omega
 subst ec;exact⟨z,w,by omega,hz⟩
def gC.inv{s t k:Nat}{g:Int}{v:cX}(d:gC n l h s t k g v):∃r,n.aj[k]? =some r/\r.head=h/\
  ((r.kind=1/\s=t/\g=s/\v=co r.bi [])\/(r.kind=2/\∃(a:Nat) (x:bF),l.aK[a]? =some x/\x.f=s/\x.t=t/\x.term=r.a/\g=a/\v=co (r.bi+x.aA) [])\/
  (r.kind=3/\g=s/\∃v',Tq n l r.a s t v'/\v=co r.bi [v'])\/(r.kind=4/\∃(m:Nat) (v' w':cX),s<=m/\m<=t/\g=m/\Tq n l r.a s m v'/\Tq n l r.b m t w'/\v=co r.bi [v',w'])):=by
 cases d with
 |empty hk h1 hv=>exact⟨_,hk,rfl,.inl ⟨h1,rfl,rfl,rfl⟩⟩
 |term hk h1 ha h2 h3 h4 hv=>exact⟨_,hk,rfl,.inr (.inl ⟨h1,_,_,ha,h2,h3,h4,rfl,rfl⟩)⟩
 |unary hk h1 d hv=>exact⟨_,hk,rfl,.inr (.inr (.inl ⟨h1,rfl,_,⟨_,_,d⟩,rfl⟩))⟩
 |fW hk h1 hs ht d1 d2 hv=>exact⟨_,hk,rfl,.inr (.inr (.inr ⟨h1,_,_,_,hs,ht,rfl,⟨_,_,d1⟩,⟨_,_,d2⟩,rfl⟩))⟩
structure DY(n:ay)(l:aF)(c:bI):Prop extends Fit n l where
 nn:c.ae=n.ae
 st:c.am=l.am
 dj:∀(h:Int) (s t:Nat),0<=h->h<n.ae->s<=t->(t:Int)<l.am->Good n l h s t (gp c h s t)
def Good.le{s t:Nat}{x:Cell}{v:cX}(g:Good n l h s t x)(d:Tq n l h s t v):¬v.lt x.val/\x.aA<1099511627776:=by
 have h1:=g.sN _ d;have:=d.dM;refine⟨h1, ?_⟩;simp only[cX.lt]at h1;omega
def DY.step{c:bI}(F:DY n l c){s t:Nat}(h0:0<=h)(h1:h<n.ae)(iO:s<=t)(ht:(t:Int)<l.am)(hx:(gp c h s t).aA<1099511627776):
  ∃(k:Nat) (r:bC),(gp c h s t).lb=k/\n.aj[k]? =some r/\r.head=h/\
  ((r.kind=1/\s=t/\(gp c h s t).arg=s/\(gp c h s t).aA=r.bi/\(gp c h s t).size=1)\/
   (r.kind=2/\∃(a:Nat) (x:bF),l.aK[a]? =some x/\x.f=s/\x.t=t/\x.term=r.a/\(gp c h s t).arg=a/\(gp c h s t).aA=r.bi+x.aA/\(gp c h s t).size=1)\/
   (r.kind=3/\(gp c h s t).arg=s/\(0<=r.a/\r.a<n.ae)/\(gp c r.a s t).aA<1099511627776/\(gp c h s t).aA=r.bi+(gp c r.a s t).aA/\(gp c h s t).size=1+(gp c r.a s t).size)\/
   (r.kind=4/\∃m:Nat,s<=m/\m<=t/\(gp c h s t).arg=m/\(0<=r.a/\r.a<n.ae)/\(0<=r.b/\r.b<n.ae)/\(gp c r.a s m).aA<1099511627776/\(gp c r.b m t).aA<1099511627776/\
    (gp c h s t).aA=r.bi+(gp c r.a s m).aA+(gp c r.b m t).aA/\(gp c h s t).size=1+(gp c r.a s m).size+(gp c r.b m t).size)):=by
 have g:=F.dj h s t h0 h1 iO ht;have hf:=F.few;obtain⟨z,_,hz,AS⟩:=g.wm F.toFit hx ht;obtain⟨⟨k,hk,d⟩,_⟩:=g.dM hx;obtain⟨x,hX⟩:=aY (gp c h s t);rw[hX]at g hx hz hk d⊢;have fN:=d.dM;obtain⟨r,hr,rfl,q⟩:=d.inv;have th:=(cP F.nO hr).1;refine⟨k,r,hk,hr,rfl, ?_⟩;rcases q with⟨q1,q2,q3,q4⟩|⟨q1,a,y,q2,q3,q4,q5,q6,q7⟩|⟨q1,q2,v',d',q3⟩|⟨q1,m,v',w',q2,q3,q4,d1,d2,q5⟩
 ·refine .inl ⟨q1,q2,q3, ?_⟩;rw[q4]at fN;have e:co r.bi []=⟨r.bi,1⟩:=by
    rw[Au]at fN⊢;split at fN;·simp at fN
    ·rename_i q;rw[bX q]
  rw[e]at q4;simp only[Cell.val,cX.mk.injEq]at q4;exact q4
 ·refine .inr (.inl ⟨q1,a,y,q2,q3,q4,q5,q6, ?_⟩);rw[q7]at fN;have e:co (r.bi+y.aA) []=⟨r.bi+y.aA,1⟩:=by
    rw[Au]at fN⊢;split at fN;·simp at fN
    ·rename_i q;rw[bX q]
  rw[e]at q7;simp only[Cell.val,cX.mk.injEq]at q7;exact q7
 ·have ra:0<=r.a/\r.a<n.ae:=by unfold me at th;omega
  have ga:=F.dj r.a s t ra.1 ra.2 iO ht;obtain⟨l1,l2⟩:=ga.le d';obtain⟨y,hy⟩:=aY (gp c r.a s t);rw[hy]at ga l1 l2⊢;obtain⟨⟨ky,_,dy⟩,_⟩:=ga.dM l2;have m1:=mT (c:=r.bi) l1;rw[<-q3]at m1;have fy:(co r.bi [y.val]).aA<1099511627776:=by simp only[cX.lt]at m1;omega
  have m2:=g.sN _ ⟨k,s,gC.unary hr q1 dy fy⟩;have e:=cX.pc m1 m2;refine .inr (.inr (.inl ⟨q1,q2,ra,l2, ?_⟩));have e2:x.aA=(co r.bi [y.val]).aA/\x.size=(co r.bi [y.val]).size:=by rw[<-e];exact⟨rfl,rfl⟩
  rw[Av]at e2 fy;split at fy
  ·simp at fy
  ·rename_i nf;rw[bX nf]at e2;have hp:=dy.pos F.nO F.lO;unfold mG at hp;simp only[]at e2 fy hp nf;omega
 ·have ra:(0<=r.a/\r.a<n.ae)/\0<=r.b/\r.b<n.ae:=by unfold me at th;omega
  have ga:=F.dj r.a s m ra.1.1 ra.1.2 q2 (by omega);have gb:=F.dj r.b m t ra.2.1 ra.2.2 q3 ht;obtain⟨l1,l2⟩:=ga.le d1;obtain⟨l3,l4⟩:=gb.le d2;obtain⟨y,hy⟩:=aY (gp c r.a s m);obtain⟨u,hu⟩:=aY (gp c r.b m t);rw[hy]at ga l1 l2;rw[hu]at gb l3 l4;obtain⟨⟨ky,_,dy⟩,_⟩:=ga.dM l2;obtain⟨⟨ku,_,du⟩,_⟩:=gb.dM l4;obtain⟨_,_,d1'⟩:=d1;obtain⟨_,_,d2'⟩:=d2;have p1:=(d1'.pos F.nO F.lO);have p2:=(d2'.pos F.nO F.lO);have p3:=(dy.pos F.nO F.lO);have p4:=(du.pos F.nO F.lO);unfold mG at p1 p2 p3 p4;have m1:=pd (c:=r.bi) p1.1 p3.1 p2.1 p4.1 l1 l3;rw[<-q5]at m1;have fy:(co r.bi [y.val,u.val]).aA<1099511627776:=by simp only[cX.lt]at m1;omega
  have m2:=g.sN _ ⟨k,m,gC.fW hr q1 q2 q3 dy du fy⟩;have e:=cX.pc m1 m2;refine .inr (.inr (.inr ⟨q1,m,q2,q3,q4,ra.1,ra.2, ?_⟩));rw[hy,hu];refine⟨l2,l4, ?_⟩;have e2:x.aA=(co r.bi [y.val,u.val]).aA/\x.size=(co r.bi [y.val,u.val]).size:=by rw[<-e];exact⟨rfl,rfl⟩
  rw[FB]at e2 fy;split at fy
  ·simp at fy
  ·rename_i nf;rw[bX nf]at e2;simp only[]at e2 fy p3 p4 nf;omega
end
end
end aT
end Go.Proofs
namespace Go.Proofs.It
open Go.DM Go.DM.iN
section
variable{vs:List VA}{α:Type}{h:Int}
inductive Yd(es:List HE):Int->VA->Prop
 |mk {e:HE} (he:e∈es) (vs:List VA) (ct:vs.length=e.bY.length) (hk:∀(i:Nat) (t:Int) (v:VA),e.bY[i]? =some t->vs[i]? =some v->Yd es t v) (hv:(aT.co e.aA vs).aA<1099511627776):Yd es e.head (aT.co e.aA vs)
def mo:VA:=⟨1099511627776,0⟩
def Oe(es:List HE)(v:List VA):Prop:=∀x:Nat,x<v.length->v.getD x default=mo\/Yd es x (v.getD x default)
def KP:∀{vs:List VA} {c s:Int},0<=c->(∀v∈vs,aT.mG v)->min c 1099511627776<=(aT.dR c s vs).aA/\∀v∈vs,min v.aA 1099511627776<=(aT.dR c s vs).aA
 |[],c,s,hc,_=>⟨by simp only[aT.dR];omega,λv h=>by cases h⟩
 |w::vs,c,s,hc,h=>by
  have hw:=h w (Ei ..);unfold aT.mG at hw;obtain⟨i1,i2⟩:=KP (vs:=vs) (c:=min (c+w.aA) 1099511627776) (s:=min (s+w.size) 1099511627776) (by omega) λv hv=>h v (Ej _ hv);simp only[aT.dR];refine⟨by omega,λv hv=>?_⟩;rcases nH.1 hv with rfl|hv
  ·omega
  ·exact i2 v hv
def KI{c:Int}(hc:0<=c)(h:∀v∈vs,aT.mG v)(hf:(aT.co c vs).aA<1099511627776):∀v∈vs,v.aA<1099511627776:=by
 intro v hv;have:=(KP (s:=1) hc h).2 v hv;unfold aT.co at hf;split at hf
 ·simp at hf
 ·omega
def zC{c:Int}(h:¬(aT.co c vs).aA<1099511627776):aT.co c vs=mo:=by
 unfold aT.co at h⊢;split
 ·rfl
 ·rename_i g;rw[bX g]at h;omega
def yU{nd:Int}{es:List HE}{v:List VA}{e:HE}(hh:aT.wF nd e)(he:e∈es)(hv:aT.Bs nd v)(h:Oe es v):Oe es (aT.cj v e):=by
 unfold aT.cj;split
 ·rename_i cQ;obtain⟨h1,h2,h3,h4,h5,h6⟩:=hh;have aN:=aT.oH hv h3;have hl:=hv.1;intro x hx;rw[ZcN]at hx;by_cases e1:e.head.toNat=x
  ·have e2:(v.set e.head.toNat (aT.co e.aA (aT.cJ v e.bY))).getD x default=aT.co e.aA (aT.cJ v e.bY):=by
    rw[List.getD,ZbM,cM e1,cM (by omega)];rfl
   rw[e2];by_cases hf:(aT.co e.aA (aT.cJ v e.bY)).aA<1099511627776
   ·refine .inr ?_;rw[show((x:Nat):Int)=e.head by omega];refine .mk he _ (by simp[aT.cJ]) (λi t w ht hw=>?_) hf;have fN:=KI h4 aN hf;have ew:w=v.getD t.toNat default:=by
     simp only[aT.cJ,Ow,ht,Ib,cq]at hw;exact hw.symm
    have nJ:=h3 t (Et ht);have hwm:=fN w (Et hw);rcases h t.toNat (by omega)with k|k
    ·rw[<-ew]at k;rw[k]at hwm;exact eX hwm (by decide)
    ·rw[<-ew,show((t.toNat:Nat):Int)=t by omega]at k;exact k
   ·exact .inl (zC hf)
  ·have e2:(v.set e.head.toNat (aT.co e.aA (aT.cJ v e.bY))).getD x default=v.getD x default:=by
    rw[List.getD,ZbM,bX e1];rfl
   rw[e2];exact h x hx
 ·exact h
def D7{nd:Int}{es:List HE}(hh:aT.J8 nd es){v:List VA}(hv:aT.Bs nd v)(h:Oe es v):∀y,y<=es.length->Oe es (aT.ep es v y)
 |0,_=>h
 |y+1,hy=>by
  rw[aT.jV];have hm:=bu (l:=es) (i:=y) (by omega);exact yU (hh.2.2.2 _ hm) hm (aT.jp hh hv y (by omega)).1 (D7 hh hv h y (by omega))
def D8{nd:Int}{es:List HE}(hh:aT.J8 nd es):∀(f:Nat) (v:List VA),aT.Bs nd v->Oe es v->Oe es (aT.lc es f v)
 |0,v,_,h=>h
 |f+1,v,hv,h=>by
  unfold aT.lc;split
  ·exact h
  ·exact D8 hh f _ (aT.jp hh hv es.length (eT _)).1 (D7 hh hv h _ (eT _))
structure sr(n:ay)(l:aF)(v:List VA):Prop where
 len:(v.length:Int)=b7 n.ae l.am+1
 ok:∀x∈v,aT.mG x
 real:Oe ((cD n l).map toH) v
 fix:∀e∈cD n l,¬(aT.co e.aA (aT.cJ v e.bY)).lt (v.getD e.head.toNat default)
def mn{n:ay}{l:aF}(hp:dS n l)(ct:(cD n l).length<=1000000):sr n l (fM n l):=by
 have hh:=vf hp ct;have hg:=ij hp.nt hp.st;have h0:=aT.Bu hh;have hv:aT.Bs _ (fM n l):=aT.u0 hh;have vw:=FX hh hv (zD hh _ _ (Lz _) h0);refine⟨hv.1,hv.2,D8 hh _ _ h0 λx hx=>.inl ?_,λe he=>?_⟩
 ·simp only[aT.Dn,ZbH]at hx;simp[aT.Dn,List.getD,hx,mo]
 ·have h1:=vw (toH e) (j3.2 ⟨e,he,rfl⟩);have S3:=hh.2.2.2 (toH e) (j3.2 ⟨e,he,rfl⟩);have yE:(toH e).head.toNat<(fM n l).length:=by have:=hv.1;have:=S3.1;have:=S3.2.1;omega
  unfold aT.cj at h1;split at h1
  ·rename_i cQ;exfalso;have hm:=aT.uZ yE (aT.Bt (aT.iv (aT.oH hv S3.2.2.1) S3.2.2.2.1 S3.2.2.2.2.1) (hv.2 _ (bu yE)) cQ);rw[h1]at hm;omega
  ·rename_i cQ;exact cQ
def FY{c:Int}:aT.co (min c kA) []=aT.co c []:=by
 rw[aT.Au,aT.Au];simp only[kA];split
 ·rw[cM (by omega)]
 ·rw[bX (by omega),show min c 1099511627776=c by omega]
def toI_rule{n:ay}{i:Nat}(h:i<n.aj.length):(toI n).aj[i]? =some (toR (n.aj.getD i default)):=by simp[toI,List.getD,h]
def abW{vs:List α}(h:vs.length=2):∃a b,vs=[a,b]:=by
 match vs,h with
 |[a,b],_=>exact⟨a,b,rfl⟩
def Qi{vs:List α}(h:vs.length=1):∃a,vs=[a]:=by
 match vs,h with
 |[a],_=>exact⟨a,rfl⟩
def vg{c:Int}(h:c<=1000):min c kA=c:=by simp only[kA];omega
def FZ{n:ay}{l:aF}(hp:dS n l){x:Int}{v:VA}(d:Yd ((cD n l).map toH) x v):∀{h s t:Int},br n.ae l.am h s t->x=fG n.ae l.am h s t->aT.Tq (toI n) l h s.toNat t.toNat v:=by
 induction d with
 | @mk e he vs ct hk hv ih=>
  intro h s t hi hx;obtain⟨q,hq,rfl⟩:=j3.1 he;obtain⟨i,sW,zw,mX⟩:=N2 hp hq hi hx;have hr:=toI_rule sW;obtain⟨rb,rk⟩:=hp.aj (n.aj.getD i default) (by simp[sW]);obtain⟨r,qd⟩:=aY (n.aj.getD i default);rw[qd]at hr zw mX rb rk;unfold fa at rb;unfold fX at rk;unfold br at hi;have hc:min r.bi kA=r.bi:=vg (by omega);obtain⟨S,rfl⟩:=jE (show 0<=s by omega);obtain⟨U,rfl⟩:=jE (show 0<=t by omega);simp only[gJ];subst zw;unfold inst at mX;split at mX
  ·rename_i mr;split at mX
   ·rename_i iO;rw[gN]at mX;subst mX;obtain rfl:S=U:=by omega
    simp only[toH,dc,RI]at ct hv⊢;obtain rfl:=yN ct;rw[hc]at hv⊢;exact⟨i,S,aT.gC.empty hr mr hv⟩
   ·cases mX
  split at mX
  ·rename_i _ mr;simp only[vG,pm]at mX;obtain⟨a,ha,mX⟩:=mX;split at mX
   ·rename_i hm;rw[gN]at mX;subst mX;simp only[toH,dc,RI]at ct hv⊢;obtain rfl:=yN ct;rw[FY]at hv⊢;exact⟨i,a,aT.gC.term hr mr (show l.aK[a]? =some (l.aK.getD a default)by simp[List.getD,ha]) hm.1 hm.2.1 hm.2.2 hv⟩
   ·cases mX
  split at mX
  ·rename_i _ _ mr;rw[gN]at mX;subst mX;simp only[toH,dc,Zc4]at ct hv ih⊢;obtain⟨v1,rfl⟩:=Qi ct;rw[hc]at hv⊢;obtain⟨k1,g1,d1⟩:= @ih 0 _ v1 rfl rfl r.a S U (by unfold br;omega) rfl;simp only[gJ]at d1;exact⟨i,S,aT.gC.unary hr mr d1 hv⟩
  split at mX
  ·rename_i _ _ _ mr;simp only[j3,pm]at mX;obtain⟨j,hj,rfl⟩:=mX;simp only[toH,dc,Bd,RI]at ct hv ih⊢;obtain⟨v1,v2,rfl⟩:=abW ct;rw[hc]at hv⊢;obtain⟨k1,g1,d1⟩:= @ih 0 _ v1 rfl rfl r.a S ((S+j:Nat):Int) (by unfold br;omega) (by simp);obtain⟨k2,g2,d2⟩:= @ih 1 _ v2 rfl rfl r.b ((S+j:Nat):Int) U (by unfold br;omega) (by simp);simp only[gJ]at d1 d2;exact⟨i,_,aT.gC.fW hr mr (by omega) (by omega) d1 d2 hv⟩
  ·cases mX
def Yr{n:ay}{l:aF}(hp:dS n l){v:List VA}(hs:sr n l v)(hn:aT.qf (toI n))(hl:aT.wB l){s t k:Nat}{g:Int}{w:VA}(d:aT.gC (toI n) l h s t k g w)(ht:(t:Int)<l.am):
  ¬w.lt (v.getD (fG n.ae l.am h s t).toNat default):=by
 have ha:∀a∈l.aK,a.f<=a.t:=λa h=>by have:=hp.XE a h;omega
 have nng:∀x:Nat,0<=(v.getD x default).aA:=λx=>by
  by_cases hx:x<v.length
  ·exact(hs.ok _ (bu hx)).1
  ·simp[List.getD,Nat.not_lt.1 hx,default];decide
 have lb:∀{k:Nat} {r:aT.bC},(toI n).aj[k]? =some r->k<n.aj.length/\r=toR (n.aj.getD k default):=λ{k r} hk=>by
  have cQ:k<n.aj.length:=by have:=(BN.1 hk).1;simpa [toI]using this
  rw[toI_rule cQ]at hk;exact⟨cQ,(ZI hk).symm⟩
 induction d with
 | @empty s k r hk h1 hv=>
  obtain⟨cQ,rfl⟩:=lb hk;obtain⟨rb,_⟩:=hp.aj (n.aj.getD k default) (by simp[cQ]);have hf:=hs.fix _ (qL (n:=n) (l:=l) (s:=s) (t:=s) (i:=k) (by omega) (by omega) ht cQ (e:=dc n.ae l.am (n.aj.getD k default) s s k (n.aj.getD k default).bi s []) (by
   have h1:(n.aj.getD k default).kind=1:=h1;unfold inst;rw[cM h1,cM rfl];exact gN.2 rfl))
  unfold fa at rb;simp only[dc,aT.cJ,MK]at hf;rw[vg (by omega)]at hf;exact hf
 | @term s t k a r y hk h1 hy h2 h3 h4 hv=>
  obtain⟨cQ,rfl⟩:=lb hk;obtain⟨mE,rfl⟩:=BN.1 hy;have iO:=ha _ (Lc mE);have ey:l.aK.getD a default=l.aK[a]:=by simp[List.getD,mE]
  have hf:=hs.fix _ (qL (n:=n) (l:=l) (s:=s) (t:=t) (i:=k) (by omega) (by omega) ht cQ (e:=dc n.ae l.am (n.aj.getD k default) s t k ((n.aj.getD k default).bi+(l.aK.getD a default).aA) a []) (by
   have h1:(n.aj.getD k default).kind=2:=h1;unfold inst;rw[bX (by omega),cM h1];refine vG.2 ⟨a,pm.2 mE, ?_⟩;rw[ey,cM ⟨h2,h3,h4⟩];exact gN.2 rfl))
  simp only[dc,aT.cJ,MK,ey]at hf;rw[FY]at hf;exact hf
 | @unary s t k k1 g1 r w hk h1 d hv ih=>
  obtain⟨cQ,rfl⟩:=lb hk;obtain⟨rb,_⟩:=hp.aj (n.aj.getD k default) (by simp[cQ]);have iO:=d.le ha;have hf:=hs.fix _ (qL (n:=n) (l:=l) (s:=s) (t:=t) (i:=k) (by omega) (by omega) ht cQ (e:=dc n.ae l.am (n.aj.getD k default) s t k (n.aj.getD k default).bi s [fG n.ae l.am (n.aj.getD k default).a s t]) (by
   have h1:(n.aj.getD k default).kind=3:=h1;unfold inst;rw[bX (by omega),bX (by omega),cM h1];exact gN.2 rfl))
  unfold fa at rb;simp only[dc,aT.cJ,MK,oK]at hf;rw[vg (by omega)]at hf;exact aT.iP hf (aT.mT (c:=(n.aj.getD k default).bi) (ih ht))
 | @fW s m t k k1 k2 g1 g2 r w u hk h1 yz ht1 d1 d2 hv i1 i2=>
  obtain⟨cQ,rfl⟩:=lb hk;obtain⟨rb,_⟩:=hp.aj (n.aj.getD k default) (by simp[cQ]);obtain⟨j,rfl⟩:∃j,m=s+j:=⟨m-s,by omega⟩;have hf:=hs.fix _ (qL (n:=n) (l:=l) (s:=s) (t:=t) (i:=k) (by omega) (by omega) ht cQ (e:=dc n.ae l.am (n.aj.getD k default) s t k (n.aj.getD k default).bi (s+j:Nat) [fG n.ae l.am (n.aj.getD k default).a s (s+j:Nat),fG n.ae l.am (n.aj.getD k default).b (s+j:Nat) t]) (by
   have h1:(n.aj.getD k default).kind=4:=h1;unfold inst;rw[bX (by omega),bX (by omega),bX (by omega),cM h1];exact j3.2 ⟨j,pm.2 (by omega),by simp⟩))
  unfold fa at rb;simp only[dc,aT.cJ,MK,oK]at hf;rw[vg (by omega)]at hf;exact aT.iP hf (aT.pd (c:=(n.aj.getD k default).bi) (d1.pos hn hl).1 (nng _) (d2.pos hn hl).1 (nng _) (i1 (by omega)) (i2 ht))
def wR{n:ay}{l:aF}(hp:dS n l){v:List VA}(hs:sr n l v)(hn:aT.qf (toI n))(hl:aT.wB l){s t:Nat}{x:aT.Cell}(g:aT.Good (toI n) l h s t x)(hi:br n.ae l.am h s t):
  v.getD (fG n.ae l.am h s t).toNat default=x.val:=by
 have ht:(t:Int)<l.am:=by unfold br at hi;omega
 obtain⟨i,hI⟩:=aY ((fG n.ae l.am h s t).toNat);have cQ:=jG hp.Ik.sm hi;rw[<-mU (by omega)]at cQ;have sW:i<v.length:=by have:=hs.len;omega
 have le:∀{k:Nat} {g':Int} {w:VA},aT.gC (toI n) l h s t k g' w->¬w.lt (v.getD i default):=λd=>by rw[<-hI];exact Yr hp hs hn hl d ht
 rw[hI];rcases hs.real i sW with e|d
 ·rw[e]at le⊢;rcases g.top with rfl|⟨⟨k,_,d⟩,_⟩
  ·rfl
  ·have:=le d;have hf:x.aA<1099511627776:=d.dM;simp only[aT.cX.lt,mo]at this;omega
 ·have hd:=FZ hp d hi (by omega);simp only[gJ]at hd;have h1:=g.sN _ hd;rcases g.top with rfl|⟨⟨k,_,dx⟩,_⟩
  ·have hf:=hd.dM;simp only[aT.cX.lt,aT.mc]at h1;omega
  ·exact(aT.cX.pc (le dx) h1).symm
end
inductive EE(n:ay)(c:aT.bI):Int->Int->Int->Tr->Prop
 |leaf {h s t:Int} {k:Nat} (hk:(aT.gp c h s t).lb=k) (cQ:k<n.aj.length) (h1:(n.aj.getD k default).kind=1\/(n.aj.getD k default).kind=2):EE n c h s t (.mk k [])
 |unary {h s t:Int} {k:Nat} {d:Tr} (hk:(aT.gp c h s t).lb=k) (cQ:k<n.aj.length) (h1:(n.aj.getD k default).kind=3) (f:EE n c (n.aj.getD k default).a s t d):EE n c h s t (.mk k [d])
 |fW {h s t:Int} {k:Nat} {d1 d2:Tr} (hk:(aT.gp c h s t).lb=k) (cQ:k<n.aj.length) (h1:(n.aj.getD k default).kind=4)
   (f1:EE n c (n.aj.getD k default).a s (aT.gp c h s t).arg d1) (f2:EE n c (n.aj.getD k default).b (aT.gp c h s t).arg t d2):EE n c h s t (.mk k [d1,d2])
def KQ{n:ay}{k:Nat}{r:aT.bC}(hk:(toI n).aj[k]? =some r):k<n.aj.length/\r=toR (n.aj.getD k default):=by
 have cQ:k<n.aj.length:=by have:=(BN.1 hk).1;simpa [toI]using this
 rw[toI_rule cQ]at hk;exact⟨cQ,(ZI hk).symm⟩
def KR{n:ay}{l:aF}{c:aT.bI}(F:aT.DY (toI n) l c):∀(N:Nat) {h:Int} {s t:Nat},0<=h->h<n.ae->s<=t->(t:Int)<l.am->(aT.gp c h s t).aA<1099511627776->(aT.gp c h s t).size=N->
  1<=N/\∃d w,EE n c h s t d/\eG n.aj h d=true/\d.sz=N/\AX l.aK s (dw n.aj d) t w/\fF n.aj d+w=(aT.gp c h s t).aA:=by
 intro N;induction N using Nat.strongRecOn with
 |_ N ih=>
  intro h s t h0 h1 iO ht hx hN;have pos:∀{h:Int} {s t:Nat},0<=h->h<n.ae->s<=t->(t:Int)<l.am->(aT.gp c h s t).aA<1099511627776->∃z:Nat,(aT.gp c h s t).size=z/\1<=z:=λa1 a2 a3 a4 a5=>by
   obtain⟨z,w,e,_⟩:=(F.dj _ _ _ a1 a2 a3 a4).wm F.toFit a5 a4;exact⟨z,e,(w.1.nn F.nO F.lO).2⟩
  obtain⟨k,r,hk,hr,zw,q⟩:=F.step h0 h1 iO ht hx;obtain⟨cQ,rfl⟩:=KQ hr;obtain⟨R,hR⟩:=aY (n.aj.getD k default);have zw:R.head=h:=by rw[<-hR];exact zw
  rw[hR]at q;refine⟨by obtain⟨z,e,p⟩:=pos h0 h1 iO ht hx;omega, ?_⟩;have vk:∀{ks:List Tr},ks.length=(eu R).length->ng n.aj (eu R) ks=true->eG n.aj h (.mk k ks)=true:=λa b=>by
   simp only[eG,gJ,hR,b,zw,a];simp[cQ]
  rcases q with⟨q1,q2,q3,q4,q5⟩|⟨q1,a,y,q2,q3,q4,q5,q6,q7,q8⟩|⟨q1,q2,q3,q4,q5,q6⟩|⟨q1,m,q2,q3,q4,q5,q6,q7,q8,q9,q10⟩
  ·have q1:R.kind=1:=q1;have kk:eu R=[]:=by unfold eu;rw[bX (by omega),bX (by omega)]
   refine⟨.mk k [],0,.leaf hk cQ (.inl (by rw[hR];exact q1)),vk (by rw[kk];rfl) (by rw[kk];rfl),by simp only[Tr.sz,gE];omega, ?_, ?_⟩
   ·simp only[dw,gJ,hR,bX (show ¬R.kind=2 by omega),dZ];exact⟨by omega,rfl⟩
   ·simp only[fF,dD,gJ,hR];rw[q4];show R.bi+0+0=R.bi;omega
  ·have q1:R.kind=2:=q1;have kk:eu R=[]:=by unfold eu;rw[bX (by omega),bX (by omega)]
   refine⟨.mk k [],y.aA,.leaf hk cQ (.inr (by rw[hR];exact q1)),vk (by rw[kk];rfl) (by rw[kk];rfl),by simp only[Tr.sz,gE];omega, ?_, ?_⟩
   ·simp only[dw,gJ,hR,cM q1];exact⟨y,Et q2,q3,q5,0,⟨q4,rfl⟩,by omega⟩
   ·simp only[fF,dD,gJ,hR];rw[q7];show R.bi+0+y.aA=R.bi+y.aA;omega
  ·have q1:R.kind=3:=q1;have q5:(aT.gp c h s t).aA=R.bi+(aT.gp c R.a s t).aA:=q5;have q6:(aT.gp c h s t).size=1+(aT.gp c R.a s t).size:=q6;obtain⟨z,e,p⟩:=pos q3.1 q3.2 iO ht q4;have e:(aT.gp c R.a s t).size=z:=e;obtain⟨_,d,w,f1,f2,f3,f4,f5⟩:=ih z (by omega) q3.1 q3.2 iO ht q4 e;have kk:eu R=[R.a]:=by unfold eu;rw[cM q1]
   refine⟨.mk k [d],w,.unary hk cQ (by rw[hR];exact q1) (by rw[hR];exact f1),vk (by rw[kk];rfl) (by rw[kk];simp only[ng,Zdp];exact f2),by simp only[Tr.sz,gE];omega, ?_, ?_⟩
   ·simp only[dw,gJ,hR,bX (show ¬R.kind=2 by omega),dZ,AZ];exact f4
   ·simp only[fF,dD,gJ,hR];have f5:fF n.aj d+w=(aT.gp c R.a s t).aA:=f5;omega
  ·have q1:R.kind=4:=q1;have q9:(aT.gp c h s t).aA=R.bi+(aT.gp c R.a s m).aA+(aT.gp c R.b m t).aA:=q9;have q10:(aT.gp c h s t).size=1+(aT.gp c R.a s m).size+(aT.gp c R.b m t).size:=q10;obtain⟨z,e,p⟩:=pos q5.1 q5.2 q2 (by omega) q7;obtain⟨z2,e2,p2⟩:=pos q6.1 q6.2 q3 ht q8;have e:(aT.gp c R.a s m).size=z:=e;have e2:(aT.gp c R.b m t).size=z2:=e2;obtain⟨_,d,w,f1,f2,f3,f4,f5⟩:=ih z (by omega) q5.1 q5.2 q2 (by omega) q7 e;obtain⟨_,d2,w2,g1,g2,g3,g4,g5⟩:=ih z2 (by omega) q6.1 q6.2 q3 ht q8 e2;have kk:eu R=[R.a,R.b]:=by unfold eu;rw[bX (by omega),cM q1]
   refine⟨.mk k [d,d2],w+w2,.fW hk cQ (by rw[hR];exact q1) (by rw[hR,q4];exact f1) (by rw[hR,q4];exact g1),vk (by rw[kk];rfl) (by rw[kk];simp only[ng,Zdp,jv];exact⟨f2,g2⟩),by simp only[Tr.sz,gE];omega, ?_, ?_⟩
   ·simp only[dw,gJ,hR,bX (show ¬R.kind=2 by omega),dZ,AZ];exact AX.append f4 g4
   ·simp only[fF,dD,gJ,hR];have f5:fF n.aj d+w=(aT.gp c R.a s m).aA:=f5;have g5:fF n.aj d2+w2=(aT.gp c R.b m t).aA:=g5;omega
def KS(n:ay)(l:aF)(c:aT.bI)(a:VA×Int)(t:Nat):VA×Int:=
 if 1099511627776<=l.bj.getD t default then a else
 if(aT.co (l.bj.getD t default) [(aT.gp c n.start 0 t).val]).aA<1099511627776/\(a.2<0\/(aT.co (l.bj.getD t default) [(aT.gp c n.start 0 t).val]).lt a.1)then(aT.co (l.bj.getD t default) [(aT.gp c n.start 0 t).val],(t:Int))else a
def kQ(n:ay)(l:aF)(c:aT.bI)(k:Nat):VA×Int:=(List.range k).foldl (KS n l c) (mo,-1)
def wS(n:ay)(l:aF)(c:aT.bI)(k:Nat):kQ n l c (k+1)=KS n l c (kQ n l c k) k:=by simp[kQ,tp]
def iS(n:ay)(l:aF)(c:aT.bI)(t:Nat):VA:=aT.co (l.bj.getD t default) [(aT.gp c n.start 0 t).val]
structure ajV(n:ay)(l:aF)(c:aT.bI)(k:Nat)(q:VA×Int):Prop where
 none:q.2<0->q=(mo,-1)/\∀t,t<k->l.bj.getD t default<1099511627776->¬(iS n l c t).aA<1099511627776
 some:¬q.2<0->∃t:Nat,q=(iS n l c t,(t:Int))/\t<k/\l.bj.getD t default<1099511627776/\(iS n l c t).aA<1099511627776
 sN:∀t,t<k->l.bj.getD t default<1099511627776->¬(iS n l c t).lt q.1
def yh(n:ay)(l:aF)(c:aT.bI):∀k,ajV n l c k (kQ n l c k)
 |0=>⟨λ_=>⟨rfl,λt h=>by omega⟩,λh=>eX (show(-1:Int)<0 by decide) h,λt h=>by omega⟩
 |k+1=>by
  have ih:=yh n l c k;rw[wS];unfold KS;obtain⟨q,hq⟩:=aY (kQ n l c k);rw[hq]at ih⊢;rw[show aT.co (l.bj.getD k default) [(aT.gp c n.start 0 k).val]=iS n l c k from rfl];have nn:∀v:VA,¬v.aA<1099511627776->q.1=mo\/q.1.aA<1099511627776->∀t,v=iS n l c t->¬(iS n l c t).lt q.1:=by
   intro v hv hk t e cQ;have ev:=zC (vs:=[(aT.gp c n.start 0 t).val]) (c:=l.bj.getD t default) (by show ¬(iS n l c t).aA<_;rw[<-e];exact hv);have ev:iS n l c t=mo:=ev;rw[ev]at cQ;rcases hk with hk|hk
   ·rw[hk]at cQ;simp[aT.cX.lt,mo]at cQ
   ·simp only[aT.cX.lt,mo]at cQ;omega
  have mr:q.1=mo\/q.1.aA<1099511627776:=by
   by_cases h:q.2<0
   ·exact .inl (by rw[(ih.none h).1])
   ·obtain⟨t,e,_,_,hf⟩:=ih.some h;exact .inr (by rw[e];exact hf)
  split
  ·rename_i h1;refine⟨λh=>⟨(ih.none h).1,λt ht hf=>?_⟩,λh=>?_,λt ht hf=>?_⟩
   ·by_cases e:t=k
    ·subst e;omega
    ·exact(ih.none h).2 t (by omega) hf
   ·obtain⟨t,a,b,d⟩:=ih.some h;exact⟨t,a,by omega,d⟩
   ·by_cases e:t=k
    ·subst e;omega
    ·exact ih.sN t (by omega) hf
  ·rename_i h1;split
   ·rename_i h2;refine⟨λh=>by simp only at h;omega,λ_=>⟨k,rfl,by omega,by omega,h2.1⟩,λt ht hf=>?_⟩;by_cases e:t=k
    ·subst e;simp only[aT.cX.lt];omega
    ·rcases h2.2 with h3|h3
     ·have h4:=(ih.none h3).2 t (by omega) hf;have ev:=zC (vs:=[(aT.gp c n.start 0 t).val]) (c:=l.bj.getD t default) h4;have ev:iS n l c t=mo:=ev;have:=h2.1;simp only[ev,aT.cX.lt,mo];omega
     ·exact aT.iP (a:=iS n l c k) (b:=q.1) (c:=iS n l c t) (by simp only[aT.cX.lt]at h3⊢;omega) (ih.sN t (by omega) hf)
   ·rename_i h2;refine⟨λh=>⟨(ih.none h).1,λt ht hf hc=>?_⟩,λh=>?_,λt ht hf=>?_⟩
    ·by_cases e:t=k
     ·subst e;exact h2 ⟨hc,.inl h⟩
     ·exact(ih.none h).2 t (by omega) hf hc
    ·obtain⟨t,a,b,d⟩:=ih.some h;exact⟨t,a,by omega,d⟩
    ·by_cases e:t=k
     ·subst e;by_cases hc:(iS n l c t).aA<1099511627776
      ·exact λcQ=>h2 ⟨hc,.inr cQ⟩
      ·exact nn _ hc mr t rfl
     ·exact ih.sN t (by omega) hf
def Of{n:ay}{l:aF}(hp:dS n l){e:Edge}(he:e∈cD n l)(hh:e.head=b7 n.ae l.am):
  ∃t:Nat,t<l.bj.length/\e=⟨b7 n.ae l.am,[fG n.ae l.am n.start 0 t],l.bj.getD t default,-1,t⟩/\l.bj.getD t default<kA:=by
 have iO:=hp.st;unfold cD at he;rcases mA.1 he with he|he
 ·exfalso;unfold qF at he;simp only[vG,pm]at he;obtain⟨s',LQ,he⟩:=he;unfold mf at he;rw[vG]at he;obtain⟨u,hu,he⟩:=he;rw[Ek]at hu;obtain⟨j,hj,rfl⟩:=hu;simp only[GA,A1]at hj;rw[TT,LA]at he;unfold nZ at he;rw[gI]at he;simp only[iR,vG,pm]at he;obtain⟨i,sW,he⟩:=he;have e1:=qG he;have hr:=hp.head (n.aj.getD i default) (by simp[sW]);have i2:br n.ae l.am (n.aj.getD i default).head s' ((s'+j:Nat):Int):=by unfold br;omega
  have:=jG hp.Ik.sm i2;rw[<-mU (by omega)]at this;omega
 ·exact u7 he
def N8{n:ay}{l:aF}(hp:dS n l){t:Nat}(ht:t<l.bj.length):0<=l.bj.getD t default/\l.bj.getD t default<=1099511627776:=hp.dM _ (bu ht)
def wQ{n:ay}{l:aF}{c:aT.bI}(hp:dS n l){v:List VA}(hs:sr n l v)(F:aT.DY (toI n) l c):
  v.getD (b7 n.ae l.am).toNat default=(kQ n l c l.bj.length).1:=by
 have G:=yh n l c l.bj.length;obtain⟨q,hq⟩:=aY (kQ n l c l.bj.length);rw[hq]at G⊢;have hg:=ij hp.nt hp.st;have iO:=hp.start;have fN:=hp.AW;obtain⟨i,hI⟩:=aY ((b7 n.ae l.am).toNat);have sW:i<v.length:=by have:=hs.len;omega
 rw[hI];have ajN:∀t:Nat,t<l.bj.length->br n.ae l.am n.start (0:Nat) t:=λt ht=>by unfold br;omega
 have dj:∀t:Nat,t<l.bj.length->aT.Good (toI n) l n.start 0 t (aT.gp c n.start 0 t):=λt ht=>F.dj n.start 0 t iO.1 iO.2 (by omega) (by omega);have cell:∀t:Nat,t<l.bj.length->v.getD (fG n.ae l.am n.start 0 t).toNat default=(aT.gp c n.start 0 t).val:=λt ht=>wR hp hs F.nO F.lO (dj t ht) (ajN t ht);have fix:∀t:Nat,t<l.bj.length->l.bj.getD t default<1099511627776->¬(iS n l c t).lt (v.getD i default):=λt ht hf=>by
  have:=hs.fix _ (KT (n:=n) ht hf);simp only[aT.cJ,oK,MK,cell t ht]at this;rw[hI]at this;exact this
 rcases hs.real i sW with e|d
 ·rw[e]at fix⊢;by_cases h:q.2<0
  ·rw[(G.none h).1]
  ·obtain⟨t,rfl,h1,h2,h3⟩:=G.some h;have:=fix t h1 h2;simp only[aT.cX.lt,mo]at this;omega
 ·obtain⟨w,hw⟩:=aY (v.getD i default);rw[hw]at d fix⊢;obtain⟨x,hx⟩:=aY (((i:Nat):Int):Int);rw[hx]at d;cases d with
  | @mk e he vs ct hk hv=>
   obtain⟨g,hgm,rfl⟩:=j3.1 he;obtain⟨t,h1,rfl,h2⟩:=Of hp hgm (by have:((i:Nat):Int)=g.head:=hx;omega);simp only[toH,Zc4]at ct hv hk hw⊢;obtain⟨v0,rfl⟩:=Qi ct;have d0:=hk 0 _ v0 rfl rfl;obtain⟨k0,g0,dt⟩:=FZ hp d0 (ajN t h1) rfl;simp only[gJ]at dt;have l0:=(dj t h1).sN _ ⟨k0,g0,dt⟩;have m:=aT.mT (c:=l.bj.getD t default) l0;have fg:(iS n l c t).aA<1099511627776:=by
    unfold iS;simp only[aT.cX.lt]at m;omega
   have h2:l.bj.getD t default<1099511627776:=h2;refine(aT.cX.pc ?_ ?_).symm
   ·by_cases h:q.2<0
    ·exact eX fg ((G.none h).2 t h1 h2)
    ·obtain⟨t',rfl,k1,k2,k3⟩:=G.some h;exact fix t' k1 k2
   ·exact aT.iP (G.sN t h1 h2) m
def F0{aK:List bF}(h:∀a∈aK,0<=a.f/\0<=a.t):∀{y ys:ba} {s t:Nat} {c w:Int},iV aK ys s c->AX aK s y t w->iV aK (ys++y) t (c+w)
 |[],ys,s,t,c,w,p,⟨h1,h2⟩=>by
  obtain rfl:s=t:=by omega
  subst h2;simpa using p
 |a::y,ys,s,t,c,w,p,⟨x,hx,h1,h2,w',h3,h4⟩=>by
  obtain⟨u,hu⟩:=jE (h x hx).2;have p1:=iV.IC x p hx h1;rw[hu,gJ,h2]at p1;rw[hu]at h3;have:=F0 h p1 h3;rw[ER]at this;rw[show c+w=c+x.aA+w' by omega];exact this
def abX{x:Input}(h:JI x){y:ba}{s:Nat}{c:Int}(p:iV (aI x).aK y s c)(hs:s<(aI x).bj.length)(hv:c+(aI x).bj.getD s default<1099511627776):ed x y 0 0<=c+(aI x).bj.getD s default:=by
 obtain⟨g1,g2,g3,g4⟩:=pb h;have hx:=HY h;have hfl:(aI x).bj.length=2*x.ah.length+1:=wA x _;have hI:dV=1099511627776:=rfl;have qN:=Fw h;have hpc:=p.aA λa h=>((NO qN) a h).2.2.2.2.1;refine(TL hx y _ 0 0 (Lz _) (A0 _) (A0 _) _ hv).2 ?_;rw[ZcE];have p:iV (eK x) y s c:=p;rw[hfl]at hs;obtain⟨v,nk⟩:=aY (c+(aI x).bj.getD s default);rw[nk]at hv⊢;rw[Oo x hs]at nk;split at nk
 ·rename_i he;obtain⟨i,rfl⟩:∃i,s=2*i:=⟨s/2,by omega⟩;rw[show 2*i/2=i by omega]at nk;obtain⟨d,hd⟩:∃d,x.ah.length=i+d:=⟨x.ah.length-i,by omega⟩;have s1:=vH.d6 g1.1 d i (by omega) (by rw[<-hd];omega) (by rw[<-hd];exact vH.nil);have:=(TM g1.1 hx p).1 i rfl _ _ s1;rw[AZ,<-hd]at this;exact⟨_,by omega,this⟩
 ·omega
def S1{n:ay}{x:Input}{c:aT.bI}(hp:dS n (aI x))(hx:JI x)(F:aT.DY (toI n) (aI x) c){t:Nat}(ht:t<(aI x).bj.length)(hf:(aI x).bj.getD t default<1099511627776)
  (hv:(iS n (aI x) c t).aA<1099511627776) (py:∀d,eG n.aj n.start d=true->(iS n (aI x) c t).aA<=fF n.aj d+ed x (dw n.aj d) 0 0):
  ∃d,EE n c n.start 0 t d/\eG n.aj n.start d=true/\d.sz<=aT.szB (toI n) (aI x)/\fF n.aj d+ed x (dw n.aj d) 0 0=(iS n (aI x) c t).aA/\ed x (dw n.aj d) 0 0<1099511627776:=by
 have iO:=hp.start;have hnf:=hp.AW;have hd:=λy s c=>abX hx (y:=y) (s:=s) (c:=c);obtain⟨l,hl⟩:=aY (aI x);rw[hl]at hp F ht hf hv py hnf hd⊢;have hfo:=N8 hp ht;have XU:(aT.gp c n.start 0 t).aA<1099511627776/\(iS n l c t).aA=l.bj.getD t default+(aT.gp c n.start 0 t).aA:=by
  unfold iS at hv⊢;rw[aT.Av]at hv⊢;split at hv
  ·simp at hv
  ·rename_i g;rw[bX g];simp only[]at hv g⊢;omega
 obtain⟨bN,gD⟩:=XU;have hg:=F.dj n.start 0 t iO.1 iO.2 (by omega) (by omega);obtain⟨z,_,hz,AS⟩:=hg.wm F.toFit bN (by omega);obtain⟨_,d,w,f1,f2,f3,f4,f5⟩:=KR F z (s:=0) (t:=t) iO.1 iO.2 (by omega) (by omega) bN hz;have Og:∀a∈l.aK,0<=a.f/\0<=a.t:=λa ha=>by have:=hp.XE a ha;omega
 have p:=F0 Og iV.nil f4;rw[Em,Int.zero_add]at p;have hpr:=(nE (aj:=n.aj) (λr hr=>by have:=(hp.aj r hr).1;unfold fa at this;omega) d).1;have f5:fF n.aj d+w=(aT.gp c n.start 0 t).aA:=f5;have io:=hd _ _ _ p ht (by omega);have:=py d f2;exact⟨d,f1,f2,by omega,by omega,by omega⟩
section
variable{nt st h f:Int}{G:Nat}
def Zh{t h' f' t':Int}(hi:br nt st h f t)(hj:br nt st h' f' t')(cQ:bP st f t*nt+h<bP st f' t'*nt+h'):KY h f t h' f' t'=true:=by
 have io:bP st f t<=bP st f' t':=by
  by_cases e:bP st f t<=bP st f' t'
  ·exact e
  ·exfalso;unfold br at hi hj;have h1:(bP st f' t'+1)*nt<=bP st f t*nt:=ZbS (by omega) (by omega);rw[ZcW]at h1;omega
 have hff:f<=f':=by
  by_cases e:f<=f'
  ·exact e
  ·exfalso;unfold br at hi hj;have:=F8 (st:=st) (f:=f) (t:=t) (s:=f') (u:=t') (by omega) (by omega) (by omega) (by omega) (by omega);omega
 unfold KY;by_cases e1:f=f'
 ·subst e1;rw[bX (by simp)];have h2:t<=t':=by unfold bP at io;omega
  by_cases e2:t=t'
  ·subst e2;rw[bX (by simp)];exact decide_eq_true (by omega)
  ·rw[cM (by simpa using e2)];exact decide_eq_true (by omega)
 ·rw[cM (by simpa using e1)];exact decide_eq_true (by omega)
open Classical in
noncomputable def mJ(nt st i:Int):Int×Int×Int:=if h:∃p:Int×Int×Int,br nt st p.1 p.2.1 p.2.2/\i=bP st p.2.1 p.2.2*nt+p.1 then h.choose else default
def jW{i:Int}(hs:sm nt st)(h1:0<=i)(h2:i<b7 nt st):br nt st (mJ nt st i).1 (mJ nt st i).2.1 (mJ nt st i).2.2/\i=bP st (mJ nt st i).2.1 (mJ nt st i).2.2*nt+(mJ nt st i).1:=by
 obtain⟨hd,f,t,k1,k2⟩:=Om hs h1 h2;have hx:∃p:Int×Int×Int,br nt st p.1 p.2.1 p.2.2/\i=bP st p.2.1 p.2.2*nt+p.1:=⟨(hd,f,t),k1,k2⟩;unfold mJ;rw[ZdA hx];exact hx.choose_spec
noncomputable def HW(nt st:Int)(C:ba)(i:Nat):mm:=⟨(mJ nt st i).1,(mJ nt st i).2.1,(mJ nt st i).2.2,C.getD i default⟩
noncomputable def iH(nt st b:Int)(C:ba)(k:Nat):List mm:=(List.range k).flatMap λi=>if C.getD i default<b then [HW nt st C i]else []
def pi(nt st b:Int)(C:ba)(k:Nat):iH nt st b C (k+1)=iH nt st b C k++if C.getD k default<b then [HW nt st C k]else []:=by simp[iH,tp,Zch]
def zz(nt st b:Int)(C:ba):∀k,(iH nt st b C k).length<=k
 |0=>by simp[iH]
 |k+1=>by
  rw[pi,qe];have:=zz nt st b C k;split<;>simp<;>omega
def vm{b:Int}{C:ba}{k:Nat}{p:mm}:p∈iH nt st b C k↔∃i,i<k/\C.getD i default<b/\p=HW nt st C i:=by
 unfold iH;rw[vG];constructor
 ·rintro⟨i,hi,h⟩;rw[pm]at hi;split at h
  ·rename_i g;rw[gN]at h;exact⟨i,hi,g,h⟩
  ·cases h
 ·rintro⟨i,hi,g,rfl⟩;exact⟨i,pm.2 hi,by rw[cM g];exact gN.2 rfl⟩
def S5{b:Int}{C:ba}(hs:sm nt st)(hG:(G:Int)=b7 nt st)(hb:0<=b/\b<=1099511627776)(h0:∀i:Nat,0<=C.getD i default):zH nt st b (iH nt st b C G):=by
 refine YM.2 ⟨hb,λp hp=>?_, ?_⟩
 ·obtain⟨i,hi,g,rfl⟩:=vm.1 hp;exact⟨(jW hs (by omega) (by omega)).1,h0 i,g⟩
 ·have:∀k,k<=G->(iH nt st b C k).Pairwise λp q=>KY p.h p.f p.t q.h q.f q.t=true:=by
   intro k;induction k with
   |zero=>intro _;simp[iH]
   |succ k ih=>
    intro hk;rw[pi,List.pairwise_append];refine⟨ih (by omega),by split<;>simp,λp hp q hq=>?_⟩
    obtain⟨i,hi,_,rfl⟩:=vm.1 hp;split at hq
    ·rw[gN]at hq;subst hq;obtain⟨a1,a2⟩:=jW hs (i:=i) (by omega) (by omega);obtain⟨b1,b2⟩:=jW hs (i:=k) (by omega) (by omega);exact Zh a1 b1 (by show bP st (mJ nt st i).2.1 (mJ nt st i).2.2*nt+(mJ nt st i).1<bP st (mJ nt st k).2.1 (mJ nt st k).2.2*nt+(mJ nt st k).1;rw[<-a2,<-b2];omega)
    ·cases hq
  exact this G (eT _)
def Oj{b:Int}{C:ba}(hs:sm nt st)(hG:(G:Int)=b7 nt st){t:Int}(hi:br nt st h f t):te (iH nt st b C G) b nt st (bP st f t*nt+h)=min (C.getD (bP st f t*nt+h).toNat default) b:=by
 rw[zI hi rfl];have hx:=jG hs hi;obtain⟨i,hii⟩:=jE hx.1;rw[hii]at hx⊢;rw[gJ];obtain⟨a1,a2⟩:=jW hs (i:=i) (by omega) hx.2;obtain⟨e1,e2,e3⟩:=tq a1 hi (by rw[<-a2,hii]);unfold zJ;cases hf:(iH nt st b C G).find? (S6 h f t)with
 |some p=>
  have h1:=Zc6 hf;have h2:=Zcb hf;obtain⟨j,hj,g,hp⟩:=vm.1 h2;obtain⟨c1,c2⟩:=jW hs (i:=j) (by omega) (by omega);unfold S6 at h1;have h1:=qg h1;rw[hp]at h1⊢;simp only[HW]at h1;obtain⟨d1,d2,d3⟩:=h1;rw[d1,d2,d3,hii]at c2;have:j=i:=by have:(j:Int)=(i:Int):=c2;omega
  subst this;simp only[HW];omega
 |none=>
  simp only;rw[Zdi]at hf;by_cases g:C.getD i default<b
  ·have:=hf _ (vm.2 ⟨i,by omega,g,rfl⟩);simp[S6,HW,e1,e2,e3]at this
  ·omega
def Yg{n:ay}{l:aF}{b:Int}{C:ba}(hp:dS n l)(hG:(G:Int)=b7 n.ae l.am)(hb:0<=b/\b<=1099511627776)(ct:(cD n l).length<=1000000)
  (hC:∀t:Int,C.getD t.toNat default=vd (fM n l) t):zB n l b (iH n.ae l.am b C G)=decide (b<=vd (fM n l) (b7 n.ae l.am)):=by
 have u4:=hp.Ik.sm;obtain⟨c0,c1,c2⟩:=Zg hp ct;have hl:=S5 (b:=b) (C:=C) u4 hG hb λi=>by have:=hC (i:Int);rw[gJ]at this;rw[this];exact c0 _
 obtain⟨L,hL⟩:=aY (iH n.ae l.am b C G);have Z6:∀{h f t:Int},br n.ae l.am h f t->te L b n.ae l.am (bP l.am f t*n.ae+h)=min (vd (fM n l) (bP l.am f t*n.ae+h)) b:=by
  intro h f t hi;rw[<-hL,Oj u4 hG hi,hC]
 rw[hL]at hl⊢;obtain⟨c,hc⟩:=aY (vd (fM n l));rw[hc]at c0 c1 c2 Z6⊢;have avL:∀e∈cD n l,qM L b n.ae l.am e.aA e.bY=uy (λt=>min (c t) b) e.aA e.bY:=by
  intro e he;have Bv:=(ux hp e he).2.2.1;have:∀(ts:ba) (s:Int),(∀t∈ts,t∈e.bY)->qM L b n.ae l.am s ts=uy (λt=>min (c t) b) s ts:=by
   intro ts;induction ts with
   |nil=>intro s _;rfl
   |cons t ts ih=>
    intro s xz;obtain⟨h,f,t',hi,ht⟩:=Bv t (xz t (Ei ..));have h1:=Z6 hi;rw[<-ht]at h1;show qM L b n.ae l.am (min (s+te L b n.ae l.am t) kA) ts=uy (λt=>min (c t) b) (min (s+min (c t) b) kA) ts;rw[h1];exact ih _ λq hq=>xz q (Ej _ hq)
  exact this e.bY e.aA λ_ h=>h
 have py:∀e∈cD n l,min (uy c e.aA e.bY) b<=uy (λt=>min (c t) b) e.aA e.bY/\uy (λt=>min (c t) b) e.aA e.bY<=uy c e.aA e.bY:=by
  intro e he;exact⟨K5 c0 hb e.bY e.aA e.aA (ux hp e he).1.1 (by omega),vj e.bY e.aA e.aA (AF _) λt _=>by omega⟩
 have afb:∀e∈cD n l,pj L b n.ae l.am e=true↔(e.head=b7 n.ae l.am->b<=uy c e.aA e.bY):=by
  intro e he;have h1:=py e he;have h2:=c1 e he;unfold pj;rw[avL e he,j2];rcases(ux hp e he).2.2.2 with hg|⟨h,f,t,hi,hh⟩
  ·rw[hg,zK u4 (.inr (AF _))];constructor
   ·intro h _;omega
   ·intro h;have:=h rfl;omega
  ·rw[hh,Z6 hi];rw[hh]at h2;have hx:=jG u4 hi;constructor
   ·intro _ h;omega
   ·intro _;simp only[kA]at h2;omega
 unfold zB;rw[decide_eq_true hl,Zcn,ZV,yS,j2];constructor
 ·intro h;rcases c2 with e|⟨e,he,h1,h2⟩
  ·rw[e];simp only[kA];omega
  ·have:=(afb e he).1 (h e he) h1;simp only[kA]at h2;omega
 ·intro h e he;refine(afb e he).2 λh1=>?_;have:=c1 e he;rw[h1]at this;omega
end
def DU:∀{vs ws:List VA} {c c' s s':Int},vs.length=ws.length->(∀(i:Nat) (v w:VA),vs[i]? =some v->ws[i]? =some w->¬w.lt v)->(∀v∈vs,aT.mG v)->(∀v∈ws,aT.mG v)->(c<c'\/(c=c'/\s<=s')\/1099511627776<=c')->
  (aT.dR c s vs).aA<(aT.dR c' s' ws).aA\/((aT.dR c s vs).aA=(aT.dR c' s' ws).aA/\(aT.dR c s vs).size<=(aT.dR c' s' ws).size)\/1099511627776<=(aT.dR c' s' ws).aA
 |[],[],c,c',s,s',_,_,_,_,h=>h
 |[],_::_,_,_,_,_,h,_,_,_,_=>by simp at h
 |_::_,[],_,_,_,_,h,_,_,_,_=>by simp at h
 |v::vs,w::ws,c,c',s,s',hl,hk,h1,h2,h=>by
  have g:=hk 0 v w rfl rfl;have gv:=h1 v (Ei ..);have gw:=h2 w (Ei ..);unfold aT.mG at gv gw;simp only[aT.cX.lt]at g;simp only[aT.dR];refine DU (by simpa using hl) (λi=>hk (i+1)) (λv hv=>h1 v (Ej _ hv)) (λv hv=>h2 v (Ej _ hv)) ?_;omega
def FW{vs ws:List VA}{c:Int}(hl:vs.length=ws.length)(hk:∀(i:Nat) (v w:VA),vs[i]? =some v->ws[i]? =some w->¬w.lt v)(h1:∀v∈vs,aT.mG v)(h2:∀v∈ws,aT.mG v):¬(aT.co c ws).lt (aT.co c vs):=by
 have h:=DU (c:=c) (c':=c) (s:=1) (s':=1) hl hk h1 h2 (.inr (.inl ⟨rfl,AF _⟩));unfold aT.co;simp only[aT.cX.lt];split<;>split<;>(try simp only)<;>omega
def N5{n:ay}{l:aF}(hp:dS n l){v:List VA}(hs:sr n l v){x:Int}{w:VA}(d:Yd ((cD n l).map toH) x w):aT.mG w/\¬w.lt (v.getD x.toNat default):=by
 induction d with
 | @mk e he vs ct hk hv ih=>
  obtain⟨q,hq,rfl⟩:=j3.1 he;have FU:=uq hp q hq;unfold EV at FU;simp only[kA]at FU;have hvs:∀y∈vs,aT.mG y:=λy hy=>by
   obtain⟨i,hi,rfl⟩:=Ek.1 hy;have uT:i<(toH q).bY.length:=by omega
   exact(ih i _ _ (mM uT) (mM hi)).1
  refine⟨aT.iv hvs (by simp only[toH];omega) (by simp only[toH];omega), ?_⟩;have f:=hs.fix q hq;refine aT.iP f (FW (by simp only[aT.cJ,Rd];exact ct.symm) (λi a b ha hb=>?_) (λy hy=>?_) hvs)
  ·simp only[aT.cJ,Ow,iK]at ha;obtain⟨t,ht,rfl⟩:=ha;exact(ih i t b ht hb).2
  ·simp only[aT.cJ,j3]at hy;obtain⟨t,ht,rfl⟩:=hy;have:=FU.2.2.2.2.2 t ht;exact hs.ok _ (bu (by have:=hs.len;omega))
def S0{n:ay}{l:aF}(hp:dS n l){v:List VA}(hs:sr n l v){x:Nat}(hx:x<v.length)(hf:(v.getD x default).aA<1099511627776):
  ∃e∈cD n l,e.head=x/\aT.co e.aA (aT.cJ v e.bY)=v.getD x default:=by
 rcases hs.real x hx with e|d
 ·rw[e]at hf;exact eX hf (by decide)
 ·obtain⟨w,hw⟩:=aY (v.getD x default);obtain⟨y,hy⟩:=aY (((x:Nat):Int):Int);rw[hw,hy]at d;rw[hw,hy];cases d with
  | @mk e he vs ct hk hv=>
   obtain⟨q,hq,rfl⟩:=j3.1 he;have FU:=uq hp q hq;unfold EV at FU;refine⟨q,hq,rfl, ?_⟩;have f:=hs.fix q hq;have e1:q.head.toNat=x:=by have:((x:Nat):Int)=q.head:=hy;omega
   rw[e1,hw]at f;have kk:∀(i:Nat) (t:Int) (b:VA),q.bY[i]? =some t->vs[i]? =some b->aT.mG b/\¬b.lt (v.getD t.toNat default):=λi t b h1 h2=>N5 hp hs (hk i t b h1 h2);refine aT.cX.pc f (FW (by simp only[aT.cJ,Rd];exact ct.symm) (λi a b ha hb=>?_) (λy hy=>?_) (λy hy=>?_))
   ·simp only[aT.cJ,Ow,iK]at ha;obtain⟨t,ht,rfl⟩:=ha;exact(kk i t b ht hb).2
   ·simp only[aT.cJ,j3]at hy;obtain⟨t,ht,rfl⟩:=hy;have:=FU.2.2.2.2.2 t ht;exact hs.ok _ (bu (by have:=hs.len;omega))
   ·obtain⟨i,hi,rfl⟩:=Ek.1 hy;have uT:i<q.bY.length:=by have:vs.length=q.bY.length:=ct;omega
    exact(kk i _ _ (mM uT) (mM hi)).1
def P3(es:List HE)(v:List VA)(x i:Nat):Prop:=i<es.length/\(es.getD i default).head=x/\aT.co (es.getD i default).aA (aT.cJ v (es.getD i default).bY)=v.getD x default
def DW{es:List HE}{v:List VA}{nd:Int}(h0:0<=nd)(hh:∀e∈es,0<=e.head/\e.head<nd){x:Nat}(hx:(x:Int)<nd)(hf:(v.getD x default).aA<1099511627776):∀j,j<=es.length->
  (∃i,(aT.mH es v nd j).getD x default=(i:Nat)/\P3 es v x i)\/∀i,es.length-j<=i->¬P3 es v x i
 |0,_=>.inr λi h g=>by have:=g.1;omega
 |j+1,hj=>by
  have ct:=aT.zi es v h0 j;rw[aT.sb];unfold aT.stepG;obtain⟨k,hk⟩:=aY (es.length-1-j);rw[hk];have yE:k<es.length:=by omega
  have hd:=hh _ (bu yE);split
  ·rename_i g;by_cases e:(es.getD k default).head.toNat=x
   ·refine .inl ⟨k, ?_,yE,by omega,by rw[<-e];exact g.2⟩;rw[e,List.getD,List.getElem?_set_self (by omega)];rfl
   ·rw[show((aT.mH es v nd j).set (es.getD k default).head.toNat (k:Int)).getD x default=(aT.mH es v nd j).getD x default by rw[List.getD,List.getElem?_set_ne e];rfl];rcases DW h0 hh hx hf j (by omega)with h|h
    ·exact .inl h
    ·refine .inr λi hi gi=>?_;by_cases e2:i=k
     ·subst e2;exact e (by have:=gi.2.1;omega)
     ·exact h i (by omega) gi
  ·rename_i g;rcases DW h0 hh hx hf j (by omega)with h|h
   ·exact .inl h
   ·refine .inr λi hi gi=>?_;by_cases e2:i=k
    ·subst e2;have e3:(es.getD i default).head.toNat=x:=by have:=gi.2.1;omega
     exact g ⟨by rw[e3];exact hf,by rw[e3];exact gi.2.2⟩
    ·exact h i (by omega) gi
def N6{n:ay}{l:aF}(hp:dS n l){v:List VA}(hs:sr n l v){x:Nat}(hx:x<v.length)(hf:(v.getD x default).aA<1099511627776):
  ∃i:Nat,(aT.mH ((cD n l).map toH) v (b7 n.ae l.am+1) ((cD n l).map toH).length).getD x default=i/\P3 ((cD n l).map toH) v x i:=by
 have hg:=ij hp.nt hp.st;have hl:=hs.len;rcases DW (es:=(cD n l).map toH) (v:=v) (nd:=b7 n.ae l.am+1) (by omega) (λe he=>by
  obtain⟨q,hq,rfl⟩:=j3.1 he;have:=uq hp q hq;exact⟨this.1,this.2.1⟩) (x:=x) (by omega) hf _ (eT _)with h|h
 ·exact h
 ·obtain⟨e,he,h1,h2⟩:=S0 hp hs hx hf;obtain⟨i,hi,rfl⟩:=Ek.1 he;refine eX ?_ (h i (by omega));refine⟨by simpa using hi, ?_⟩;simp only[List.getD,Ow,mM hi,Ib,Jf];exact⟨h1,h2⟩
def DX:∀{vs:List VA} {c s:Int},0<=s->(∀v∈vs,aT.mG v)->min s 1099511627776<=(aT.dR c s vs).size/\∀v∈vs,min (s+v.size) 1099511627776<=(aT.dR c s vs).size
 |[],c,s,hc,_=>⟨by simp only[aT.dR];omega,λv h=>by cases h⟩
 |w::vs,c,s,hc,h=>by
  have hw:=h w (Ei ..);unfold aT.mG at hw;obtain⟨i1,i2⟩:=DX (vs:=vs) (c:=min (c+w.aA) 1099511627776) (s:=min (s+w.size) 1099511627776) (by omega) λv hv=>h v (Ej _ hv);simp only[aT.dR];refine⟨by omega,λv hv=>?_⟩;rcases nH.1 hv with rfl|hv
  ·omega
  ·have:=i2 v hv;have hv:=h v (Ej _ hv);unfold aT.mG at hv;omega
def N7{n:ay}{l:aF}(hp:dS n l){v:List VA}(hs:sr n l v){x i:Nat}(hf:(v.getD x default).aA<1099511627776)(hz:(v.getD x default).size<1099511627776)(g:P3 ((cD n l).map toH) v x i):
  ∀t∈(((cD n l).map toH).getD i default).bY,0<=t/\t.toNat<v.length/\(v.getD t.toNat default).aA<1099511627776/\(v.getD t.toNat default).size<(v.getD x default).size:=by
 obtain⟨h1,h2,h3⟩:=g;obtain⟨q,hq,he⟩:=j3.1 (bu h1);rw[<-he]at h3⊢;have FU:=uq hp q hq;unfold EV at FU;have hl:=hs.len;have ht:∀t∈(toH q).bY,0<=t/\t.toNat<v.length:=λt h=>by have:=FU.2.2.2.2.2 t h;omega
 have aN:∀y∈aT.cJ v (toH q).bY,aT.mG y:=λy hy=>by
  simp only[aT.cJ,j3]at hy;obtain⟨t,h,rfl⟩:=hy;exact hs.ok _ (bu (ht t h).2)
 rw[<-h3]at hf hz⊢;intro t h;have hm:v.getD t.toNat default∈aT.cJ v (toH q).bY:=j3.2 ⟨t,h,rfl⟩;refine⟨(ht t h).1,(ht t h).2,KI FU.2.2.1 aN hf _ hm, ?_⟩;have:=(DX (c:=(toH q).aA) (s:=1) (by omega) aN).2 _ hm;unfold aT.co at hf hz⊢;split at hf
 ·simp at hf
 ·rename_i gg;rw[bX gg]at hz⊢;omega
def KJ{n:ay}{l:aF}{c:aT.bI}(hp:dS n l){v:List VA}(hs:sr n l v)(F:aT.DY (toI n) l c){x:Nat}(hx:x<v.length)(hf:(v.getD x default).aA<1099511627776):(v.getD x default).size<1099511627776:=by
 have hg:=ij hp.nt hp.st;have hl:=hs.len;have u4:=hp.Ik.sm;have ajM:=F.few;have iO:=hp.start;have hnf:=hp.AW;by_cases e:(x:Int)=b7 n.ae l.am
 ·have h1:=wQ hp hs F;rw[<-e,gJ]at h1;have G:=yh n l c l.bj.length;obtain⟨q,hq⟩:=aY (kQ n l c l.bj.length);rw[hq]at G h1;rw[h1]at hf⊢;by_cases h:q.2<0
  ·rw[(G.none h).1]at hf;exact eX hf (by decide)
  ·obtain⟨t,rfl,k1,k2,k3⟩:=G.some h;have ajN:br n.ae l.am n.start (0:Nat) t:=by unfold br;omega
   have dj:=F.dj n.start 0 t iO.1 iO.2 (by omega) (by omega);have hfo:=N8 hp k1;have nn:0<=l.bj.getD t default:=hfo.1;simp only at hf⊢;unfold iS at hf⊢;rw[aT.Av]at hf⊢;split at hf
   ·simp at hf
   ·rename_i gg;rw[bX gg];simp only[]at gg⊢;obtain⟨z,_,hz,AS⟩:=dj.wm F.toFit (by simp only[Int.natCast_zero]at*;omega) (by omega);have hz:(aT.gp c n.start 0 t).size=z:=hz;omega
 ·obtain⟨hi,xA⟩:=jW (i:=(x:Int)) u4 (by omega) (by omega);obtain⟨p,hpp⟩:=aY (mJ n.ae l.am (x:Int));rw[hpp]at hi xA;obtain⟨h,s,t⟩:=p;simp only at hi xA;have hi2:=hi;unfold br at hi2;obtain⟨S,rfl⟩:=jE (show 0<=s by omega);obtain⟨U,rfl⟩:=jE (show 0<=t by omega);have dj:=F.dj h S U (by omega) (show h<n.ae by omega) (by omega) (by omega);have cell:=wR hp hs F.nO F.lO dj hi;rw[mU (by omega),<-xA,gJ]at cell;rw[cell]at hf⊢;obtain⟨z,_,hz,AS⟩:=dj.wm F.toFit hf (by omega);have hz:(aT.gp c h S U).val.size=z:=hz;omega
end Go.Proofs.It
namespace Go.Proofs
namespace It
open Go.DM
def abY:=aB 93 0
def abZ:=aB 93 1
def ab0:=aB 93 2
def ab1:=aB 93 3
def ab2:=aB 93 4
def ab3:=aB 93 5
def ab4:=aB 93 6
def By:=aB 93 7
def ab5:=aB 93 8
def ab6:=aB 93 9
def Ys:=aB 93 10
noncomputable def as9:DC:=fo 93
def KU:List cH:=[.cell 6 2 true,.fB 7]
def ar6:aR ap 93 52 as9 KU:=.at
def ab7:=aB 94 0
def ab8:=aB 94 1
def ab9:=aB 94 2
def aca:=aB 94 3
def acb:=aB 94 4
def acd:=aB 94 5
def ace:=aB 94 6
def Qj:=aB 94 7
def acf:=aB 94 8
def acg:=aB 94 9
def KV:=aB 94 10
noncomputable def ata:DC:=fo 94
def yj:List cH:=[.cell 6 2 true]
def ar7 [bD]:aR ap 94 65 ata yj:=.at
def abd:=aB 71 0
def abe:=aB 71 1
def abf:=aB 71 2
def abg:=aB 71 3
noncomputable def atb:DC:=fo 71
def KH:List cH:=[.cell 8 6 true]
def arN [bD]:aR ap 71 29 atb KH:=.at
def abh:=aB 37 0
def abi:=aB 37 1
def abj:=aB 37 2
def abk:=aB 37 3
def abl:=aB 37 4
noncomputable def atc:DC:=fo 37
def DR:List cH:=[.cell 6 6 true,.fB 7]
def arO [bD]:aR ap 37 33 atc DR:=.at
def PX:=aB 32 0
def PY:=aB 32 1
def PZ:=aB 32 2
def abu:=aB 32 3
def abm:=aB 32 4
def abn:=aB 32 5
def abo:=aB 32 6
def abp:=aB 32 7
def abq:=aB 32 8
def abr:=aB 32 9
def XR:=aB 32 10
def XS:=aB 32 11
def XT:=aB 32 12
def XV:=aB 32 13
def XW:=aB 32 14
def XX:=aB 32 15
def XY:=aB 32 16
def XZ:=aB 32 17
def X0:=aB 32 18
def Ya:=aB 32 19
def Yb:=aB 32 20
def Yc:=aB 32 21
noncomputable def atd:DC:=fo 32
def DT:List cH:=[.cell 6 5 true,.fB 7]
def aeX [bD]:aR ap 32 76 atd DT:=.at
def ach:=aB 120 0
def aci:=aB 120 1
def acj:=aB 120 3
def ack:=aB 120 4
def acl:=aB 120 6
def acm:=aB 120 7
def HZ:=aB 120 8
def acn:=aB 120 9
def Yv:=aB 120 10
def Yw:=aB 120 11
def Yx:=aB 120 12
def Yy:=aB 120 13
def Yz:=aB 120 14
def YA:=aB 120 15
def YB:=aB 120 16
noncomputable def ate:DC:=fo 120
def KX:List cH:=[.fB 4,.fB 5]
def ar8 [bD]:aR ap 120 85 ate KX:=.at
def abx:=aB 90 0
def aby:=aB 90 1
def abz:=aB 90 3
def abA:=aB 90 4
def abB:=aB 90 5
def abC:=aB 90 6
def abD:=aB 90 8
def abE:=aB 90 9
def Yh:=aB 90 10
def Yi:=aB 90 12
def Yj:=aB 90 13
def Yk:=aB 90 14
noncomputable def atf:DC:=fo 90
def arS [bD]:aR ap 90 69 atf (dI 2):=.at
def abF:=aB 92 0
def abG:=aB 92 1
def abH:=aB 92 2
def Qa:=aB 92 3
def Qb:=aB 92 4
def abI:=aB 92 5
def abJ:=aB 92 6
def Qc:=aB 92 7
noncomputable def atg:DC:=fo 92
def D0:List cH:=[.cell 6 2 true]
def arT [bD]:aR ap 92 41 atg D0:=.at
def abK:=aB 34 0
def abL:=aB 34 1
def abM:=aB 34 3
def abN:=aB 34 5
def abO:=aB 34 6
def abP:=aB 34 7
def abQ:=aB 34 8
noncomputable def ath:DC:=fo 34
def D6:List cH:=[.cell 4 2 true,.fB 5]
def arV [bD]:aR ap 34 37 ath D6:=.at
def Qd:=aB 8 0
def Qe:=aB 8 1
def Qf:=aB 8 3
def Qg:=aB 8 4
def abR:=aB 8 5
def abS:=aB 8 6
def abT:=aB 8 7
def Qh:=aB 8 8
def abU:=aB 8 9
def Yo:=aB 8 10
def Yp:=aB 8 11
def KO:=aB 8 12
noncomputable def ati:DC:=fo 8
def aeZ [bD]:aR ap 8 75 ati (dI 6):=.at
end It
end Go.Proofs
namespace Go.Proofs.It
open Go.DM Go.DM.iN
def Az(c:aT.bI):Prop:=aT.KG c/\aT.JT c
def ajW:aw ap (bz [(130,aT.s37),(73,aT.s84),(131,aT.s56)]):=aT.ajI (aT.avz (aT.avA aw.nil))
def F1{n:ay}{l:aF}{c:aT.bI}(hf:∀t,t<l.bj.length->0<=l.bj.getD t default/\l.bj.getD t default<=1099511627776)(hc:Az c):∀k,k<=l.bj.length->aT.mG (kQ n l c k).1/\-1<=(kQ n l c k).2/\(kQ n l c k).2<=k
 |0,_=>⟨show aT.mG mo by unfold aT.mG mo;decide,show(-1:Int)<=-1 by decide,show(-1:Int)<=(0:Nat)by decide⟩
 |k+1,hk=>by
  obtain⟨h1,h2,h3⟩:=F1 hf hc k (by omega);have:=hf k (by omega);rw[wS];unfold KS;split
  ·exact⟨h1,h2,by omega⟩
  ·split
   ·refine⟨aT.iv (λv hv=>?_) this.1 (by omega),by simp only;omega,by simp only;omega⟩;rw[gN]at hv;subst hv;exact aT.MZ hc.2 _ _ _
   ·exact⟨h1,h2,by omega⟩
def ar0(n:ay)(l:aF)(c:aT.bI)(hc:Az c)(hf:∀t,t<l.bj.length->0<=l.bj.getD t default/\l.bj.getD t default<=1099511627776)(hl:l.bj.length<=1000000):
  aJ ap 93 [n.enc,l.enc,c.enc] (.dh [.agg [ti (kQ n l c l.bj.length).1.aA,ti (kQ n l c l.bj.length).1.size],ti (kQ n l c l.bj.length).2]):=by
 have aq:=ajW;have dB:=F1 (n:=n) hf hc;have yg:=wS n l c;have h0:kQ n l c 0=(mo,-1):=rfl;obtain⟨K,hK⟩:=aY (kQ n l c);rw[hK]at dB yg h0⊢;have gG:=λt=>aT.MZ hc.2 n.start 0 t;obtain⟨st,aK,dM⟩:=l;obtain⟨nt,nn,ns,aj⟩:=n;obtain⟨cn,cs,cl⟩:=c;simp only at hf hl dB;refine ar6.ok (by simp) (aH ?_);simp[ay.enc,aF.enc,aT.bI.enc];apply aa.ai aq fw [3,4,5,6];simp[abY];refine aa.lk (o:=[(1007,.box [.v (ti 0),.v (ti 0)])]) (l:=[(3,.v (.box [ti nt,ti nn,ti ns,.sl (aQ aj)])),(4,.v (.box [ti st,.sl (bq aK),.sl (au dM)])),(5,.v (.box [ti cn,ti cs,.sl (aT.bl cl)])),(6,.ptr 1007 0)]) (bn:=1200) (by simp) ?_;apply aa.ai aq fw [3,4,5,6,8,9];simp[abZ];refine aa.lk (o:=[(1007,.box [.v (ti 0),.v (ti 0)]),(1209,.box [.v (ti 1099511627776),.v (ti 0)])]) (l:=[(3,.v (.box [ti nt,ti nn,ti ns,.sl (aQ aj)])),(4,.v (.box [ti st,.sl (bq aK),.sl (au dM)])),(5,.v (.box [ti cn,ti cs,.sl (aT.bl cl)])),(6,.ptr 1007 0),(8,.ptr 1209 0),(9,.v (ti (-1)))]) (bn:=1500) (by simp) ?_;apply aa.sq aq fw [3,5,6,8,9,16,17,18];simp[ab0];apply aa.block;refine aa.loop (λy:Nat=>⟨DM.look [(3,.v (.box [ti nt,ti nn,ti ns,.sl (aQ aj)])),(5,.v (.box [ti cn,ti cs,.sl (aT.bl cl)])),(6,.ptr 1007 0),(8,.ptr 1209 0),(9,.v (ti (K y).2)),(16,.v (.sl (au dM))),(17,.v (ti dM.length)),(18,.v (ti y))],cR [(1007,.box [.v (ti 0),.v (ti 0)]),(1209,.box [.v (ti (K y).1.aA),.v (ti (K y).1.size)])],2000,1000,[]⟩)
  (λy=>y<=dM.length) (λy=>dM.length-y) 0 (Le.aL (o:=[(1007,.box [.v (ti 0),.v (ti 0)]),(1209,.box [.v (ti (K 0).1.aA),.v (ti (K 0).1.size)])]) ?_ ?_ ?_ ?_) (by simp) (λy hy=>?_)
 ·simp
 ·simp
 ·simp[h0,mo]
 ·simp[h0]
 apply aa.ai aq fw [3,5,6,8,9,16,17,18,19];simp[ab1];apply aa.seq;refine aa.cond rfl (λaS=>?_) (λaS=>?_)
 ·have aS:y<dM.length:=by simpa using aS
  apply aa.skip;simp;apply aa.seq;have rr:=bA aS;obtain⟨v,hv⟩:=aY (dM.getD y default);have hfy:=hf y aS;have hs:=yg y;unfold KS at hs;simp only at hs;obtain⟨k1,k2,k3⟩:=dB y hy;obtain⟨k4,k5,k6⟩:=dB (y+1) aS;obtain⟨⟨⟨q1,q2⟩,q3⟩,hq⟩:=aY (K y);obtain⟨⟨⟨p1,p2⟩,p3⟩,hp⟩:=aY (K (y+1));rw[hv]at hfy hs rr;rw[hq,hp]at hs;rw[hq]at k1 k2 k3⊢;rw[hp]at k4 k5 k6;have gG:=gG y;obtain⟨⟨x1,x2,x3,x4⟩,hx⟩:=aY (aT.gp ⟨cn,cs,cl⟩ ns 0 (y:Int));simp only at gG;rw[hx]at hs gG;have k1:aT.mG ⟨q1,q2⟩:=k1;refine aa.to ⟨DM.look [(3,.v (.box [ti nt,ti nn,ti ns,.sl (aQ aj)])),(5,.v (.box [ti cn,ti cs,.sl (aT.bl cl)])),(6,.ptr 1007 0),(8,.ptr 1209 0),(9,.v (ti p3)),(16,.v (.sl (au dM))),(17,.v (ti dM.length)),(18,.v (ti y))],cR [(1007,.box [.v (ti 0),.v (ti 0)]),(1209,.box [.v (ti p1),.v (ti p2)])],3500,1000,[]⟩ ?_ ?_
  ·apply aa.block;apply aa.ai aq fw [3,5,6,8,9,10,11,16,17,18];simp[ab2,aS,rr];apply aa.sq aq fw [3,5,6,8,9,10,11,16,17,18,24];simp[ab3];refine aa.cond rfl (λg=>?_) (λg=>?_)
   ·have g:=qg g;rw[cM g]at hs;simp only[mD,aT.cX.mk.injEq]at hs;obtain⟨⟨rfl,rfl⟩,rfl⟩:=hs;apply aa.exit;simp;refine Le.aL ?_ ?_ ?_ ?_;iterate 3(·simp)
    ·simp
   ·have g:=Br g;rw[bX g]at hs;apply aa.skip;simp;obtain⟨⟨w1,w2⟩,hw⟩:=aY (aT.co v [⟨x1,x2⟩]);have hw':aT.co v [(⟨x1,x2,x3,x4⟩:aT.Cell).val]=⟨w1,w2⟩:=hw;rw[hw']at hs;apply aa.ai aq fw [3,5,6,8,9,10,12,16,17,18];simp[ab4,hx];refine⟨⟨_,_,_,⟨rfl,rfl,rfl⟩,hc.1⟩,⟨_,_,⟨rfl,rfl⟩,λu hu=>by rw[gN]at hu;subst hu;exact gG,by omega,by omega,by simp⟩, ?_⟩;rw[hw];refine aa.lk (o:=[(1007,.box [.v (ti 0),.v (ti 0)]),(1209,.box [.v (ti q1),.v (ti q2)])]) (l:=[(3,.v (.box [ti nt,ti nn,ti ns,.sl (aQ aj)])),(5,.v (.box [ti cn,ti cs,.sl (aT.bl cl)])),(6,.ptr 1007 0),(8,.ptr 1209 0),(9,.v (ti q3)),(10,.v (ti y)),(12,.v (.box [ti w1,ti w2])),(16,.v (.sl (au dM))),(17,.v (ti dM.length)),(18,.v (ti y))]) (bn:=2500) (by simp) ?_;obtain⟨b,hb⟩:=aY (decide (w1<1099511627776/\(q3<0\/(⟨w1,w2⟩:aT.cX).lt ⟨q1,q2⟩)):Bool);refine aa.bL aq fw [(3,.v (.box [ti nt,ti nn,ti ns,.sl (aQ aj)])),(5,.v (.box [ti cn,ti cs,.sl (aT.bl cl)])),(6,.ptr 1007 0),(8,.ptr 1209 0),(9,.v (ti q3)),(10,.v (ti y)),(12,.v (.box [ti w1,ti w2])),(16,.v (.sl (au dM))),(17,.v (ti dM.length)),(18,.v (ti y)),(46,.v (.bool b))] ?_ ?_
    ·by_cases h1:w1<1099511627776
     ·by_cases h2:q3<0
      ·have:b=true:=by rw[<-hb];exact decide_eq_true ⟨h1,.inl h2⟩
       simp[By,h1,h2,this]
      ·by_cases h3:(⟨w1,w2⟩:aT.cX).lt ⟨q1,q2⟩
       ·have:b=true:=by rw[<-hb];exact decide_eq_true ⟨h1,.inr h3⟩
        simp[By,h1,h2,h3,this]
       ·have:b=false:=by rw[<-hb];exact decide_eq_false (λh=>by rcases h.2 with h|h;exact h2 h;exact h3 h)
        simp[By,h1,h2,h3,this]
     ·have:b=false:=by rw[<-hb];exact decide_eq_false (λh=>h1 h.1)
      simp[By,h1,this]
    refine aa.cond rfl (λg=>?_) (λg=>?_)
    ·have g:b=true:=by simpa using g
     rw[g]at hb;rw[cM (qg hb)]at hs;simp only[mD,aT.cX.mk.injEq]at hs;obtain⟨⟨rfl,rfl⟩,rfl⟩:=hs;apply aa.cZ aq fw [3,5,6,8,9,16,17,18];simp[ab5];refine Le.aL ?_ ?_ ?_ ?_;iterate 3(·simp)
     ·simp
    ·have g:b=false:=by simpa using g
     rw[g]at hb;rw[bX (Br hb)]at hs;simp only[mD,aT.cX.mk.injEq]at hs;obtain⟨⟨rfl,rfl⟩,rfl⟩:=hs;apply aa.skip;simp;refine Le.aL ?_ ?_ ?_ ?_;iterate 3(·simp)
     ·simp
  ·apply aa.cZ aq fw [3,5,6,8,9,16,17,18];simp[ab6];rw[av (x:=(y:Int)+1) (by omega)];refine⟨y+1,Le.aL (o:=[(1007,.box [.v (ti 0),.v (ti 0)]),(1209,.box [.v (ti (K (y+1)).1.aA),.v (ti (K (y+1)).1.size)])]) ?_ ?_ ?_ ?_,by omega,by omega⟩
   ·simp
   ·simp
   ·simp[hp]
   ·simp[hp]
 ·have fI:y=dM.length:=by simp at aS;omega
  subst fI;apply aa.exit;simp;apply aa.ai aq fw [6,7];simp[Ys];apply aa.ret;simp[KU]
section
variable{h:Int}{d:Tr}
abbrev kh(n:ay)(c:aT.bI)(h s t:Int):aG:=[n.enc,c.enc,.agg [ti h,ti s,ti t]]
def Yt{n:ay}{c:aT.bI}{s t:Int}(k:aJ ap 94 (kh n c h s t) (.agg d.enc)):aw ap (bz [(94,bp (λts=>ts=kh n c h s t) (λ_=>.agg d.enc) false),(130,aT.s37)]):=by
 refine aw.cons (aT.ajI aw.nil) ?_;rintro ts rfl;exact⟨k,λh=>by cases h⟩
def Oh{n:ay}{c:aT.bI}(hc:Az c){s t:Int}{k:Nat}(hk:(aT.gp c h s t).lb=k)(cQ:k<n.aj.length)(ks:List Tr)
  (q:(ks=[]/\((n.aj.getD k default).kind=1\/(n.aj.getD k default).kind=2))\/
   (∃d,ks=[d]/\(n.aj.getD k default).kind=3/\aJ ap 94 (kh n c (n.aj.getD k default).a s t) (.agg d.enc))\/
   (∃d e,ks=[d,e]/\(n.aj.getD k default).kind=4/\aJ ap 94 (kh n c (n.aj.getD k default).a s (aT.gp c h s t).arg) (.agg d.enc)/\aJ ap 94 (kh n c (n.aj.getD k default).b (aT.gp c h s t).arg t) (.agg e.enc))):
  aJ ap 94 (kh n c h s t) (.agg (Tr.mk k ks).enc):=by
 have aq:aw ap (bz [(130,aT.s37)]):=aT.ajI aw.nil;obtain⟨⟨rk,rh,ra,rb,rp,rg⟩,hR⟩:=aY (n.aj.getD k default);have Yu:=qJ cQ hR;rw[hR]at q;simp only at q;have Kg:=hc.1;obtain⟨⟨x1,x2,x3,x4⟩,hx⟩:=aY (aT.gp c h s t);rw[hx]at q hk;simp only at q hk;subst hk;obtain⟨nt,nn,ns,aj⟩:=n;obtain⟨cn,cs,cl⟩:=c;simp only at cQ Yu;have dM:∀(KD:DV),(KD=.aZ/\ks=[])\/KD=.v (.sl (dT ks))->aa ap 65 (.seq (.region false (yD 94 10)) .ret) (afL yj (.agg (Tr.mk (k:Int) ks).enc)) ⟨DM.look [(6,.ptr 1007 0),(8,.ptr 1409 0)],cR [(1007,.box [.v (ti 0),.aZ]),(1409,.box [.v (ti k),KD])],3000,1000,[]⟩:=by
  rintro KD (⟨rfl,rfl⟩|rfl)
  ·apply aa.ai aq fw [6];simp[KV];apply aa.ret;simp[yj,Tr.enc,dT]
  ·apply aa.ai aq fw [6];simp[KV];apply aa.ret;simp[yj,Tr.enc]
 refine ar7.ok (by simp) (aH ?_);simp[ay.enc,aT.bI.enc];apply aa.ai aq fw [3,4,5,6];simp[ab7];refine aa.lk (o:=[(1007,.box [.v (ti 0),.aZ])]) (l:=[(3,.v (.box [ti nt,ti nn,ti ns,.sl (aQ aj)])),(4,.v (.box [ti cn,ti cs,.sl (aT.bl cl)])),(5,.v (.box [ti h,ti s,ti t])),(6,.ptr 1007 0)]) (bn:=1200) (by simp) ?_;apply aa.ai aq fw [3,4,5,6,7];simp[ab8,hx];refine⟨⟨_,_,_,⟨rfl,rfl,rfl⟩,Kg⟩, ?_⟩;refine aa.lk (o:=[(1007,.box [.v (ti 0),.aZ])]) (l:=[(3,.v (.box [ti nt,ti nn,ti ns,.sl (aQ aj)])),(4,.v (.box [ti cn,ti cs,.sl (aT.bl cl)])),(5,.v (.box [ti h,ti s,ti t])),(6,.ptr 1007 0),(7,.v (.box [ti x1,ti x2,ti k,ti x4]))]) (bn:=1400) (by simp) ?_;apply aa.ai aq fw [3,4,5,6,7,8];simp[ab9];refine aa.lk (o:=[(1007,.box [.v (ti 0),.aZ]),(1409,.box [.v (ti k),.aZ])]) (l:=[(3,.v (.box [ti nt,ti nn,ti ns,.sl (aQ aj)])),(4,.v (.box [ti cn,ti cs,.sl (aT.bl cl)])),(5,.v (.box [ti h,ti s,ti t])),(6,.ptr 1007 0),(7,.v (.box [ti x1,ti x2,ti k,ti x4])),(8,.ptr 1409 0)]) (bn:=1600) (by simp) ?_;obtain⟨KD,hKD⟩:=aY ((match ks with|[]=>DV.aZ|_=>.v (.sl (dT ks))));refine aa.seq (aa.to ⟨DM.look [(6,.ptr 1007 0),(8,.ptr 1409 0)],cR [(1007,.box [.v (ti 0),.aZ]),(1409,.box [.v (ti k),KD])],3000,1000,[]⟩ ?_ (dM KD (by rw[<-hKD];split<;>simp)))
 apply aa.ai aq fw [3,4,5,6,7,8,9];simp[aca,cQ,Yu,bC.enc];refine aa.lk (o:=[(1007,.box [.v (ti 0),.aZ]),(1409,.box [.v (ti k),.aZ])]) (l:=[(3,.v (.box [ti nt,ti nn,ti ns,.sl (aQ aj)])),(4,.v (.box [ti cn,ti cs,.sl (aT.bl cl)])),(5,.v (.box [ti h,ti s,ti t])),(6,.ptr 1007 0),(7,.v (.box [ti x1,ti x2,ti k,ti x4])),(8,.ptr 1409 0),(9,.v (.box [ti rk,ti rh,ti ra,ti rb,ti rp,ti rg]))]) (bn:=1800) (by simp) ?_;apply aa.ai aq fw [3,4,5,6,7,8,9,24];simp[acb];apply aa.block;apply aa.ai aq fw [3,4,5,6,7,8,9,24,25];simp[acd];rcases q with⟨rfl,hk⟩|⟨d,rfl,rfl,kd⟩|⟨d,e,rfl,rfl,k1,k2⟩
 ·refine aa.cond rfl (λaS=>eX (qg aS) (by omega)) (λaS=>?_);apply aa.ai aq fw [3,4,5,6,7,8,9,39];simp[Qj];refine aa.cond rfl (λaS=>eX (qg aS) (by omega)) (λaS=>?_);apply aa.skip;subst hKD;refine⟨rfl,Le.aL ?_ ?_ ?_ ?_⟩;iterate 3(·simp)
  ·simp
 ·refine aa.cond rfl (λaS=>?_) (λaS=>eX aS (by simp));obtain⟨dn,dk⟩:=d;apply aa.cZ (Yt kd) fw [6,8];simp[ace,kh,ay.enc,aT.bI.enc,Tr.enc];subst hKD;refine Le.aL ?_ ?_ ?_ ?_
  ·simp
  ·simp
  ·simp[dT,Tr.enc]
  ·simp
 ·refine aa.cond rfl (λaS=>eX (qg aS) (by omega)) (λaS=>?_);apply aa.ai aq fw [3,4,5,6,7,8,9,39];simp[Qj];refine aa.cond rfl (λaS=>?_) (λaS=>eX aS (by simp));obtain⟨dn,dk⟩:=d;obtain⟨en,ek⟩:=e;apply aa.ai (Yt k1) fw [3,4,5,6,7,8,9,10];simp[acf,kh,ay.enc,aT.bI.enc,Tr.enc];refine aa.lk (o:=[(1007,.box [.v (ti 0),.aZ]),(1409,.box [.v (ti k),.aZ])]) (l:=[(3,.v (.box [ti nt,ti nn,ti ns,.sl (aQ aj)])),(4,.v (.box [ti cn,ti cs,.sl (aT.bl cl)])),(5,.v (.box [ti h,ti s,ti t])),(6,.ptr 1007 0),(7,.v (.box [ti x1,ti x2,ti k,ti x4])),(8,.ptr 1409 0),(9,.v (.box [ti 4,ti rh,ti ra,ti rb,ti rp,ti rg])),(10,.v (.box [ti dn,.sl (dT dk)]))]) (bn:=2200) (by simp) ?_;apply aa.cZ (Yt k2) fw [6,8];simp[acg,kh,ay.enc,aT.bI.enc,Tr.enc];subst hKD;refine Le.aL ?_ ?_ ?_ ?_
  ·simp
  ·simp
  ·simp[dT,Tr.enc]
  ·simp
def ar2{n:ay}{c:aT.bI}(hc:Az c){s t:Int}(F:EE n c h s t d):aJ ap 94 (kh n c h s t) (.agg d.enc):=by
 induction F with
 |leaf hk cQ h1=>exact Oh hc hk cQ [] (.inl ⟨rfl,h1⟩)
 |unary hk cQ h1 f ih=>exact Oh hc hk cQ _ (.inr (.inl ⟨_,rfl,h1,ih⟩))
 |fW hk cQ h1 f1 f2 i1 i2=>exact Oh hc hk cQ _ (.inr (.inr ⟨_,_,rfl,h1,i1,i2⟩))
end
end Go.Proofs.It
namespace Go.Proofs
open Go.DM Go.DM.iN
def uT(x:Input)(y:ba)(i j:Nat)(s:qk):Bool:=decide (min (s.c+ed x y (i+s.a.toNat) (j+s.e.toNat)) dV=ed x y i j)
def Ip(x:Input)(y:ba):Nat->Nat->Nat->List (Int×Int)
 |0,_,_=>[]
 |f+1,i,j=>if i=x.ah.length/\j=y.length then []else match(ff x y i j).find? (uT x y i j)with
  |some s=>(s.k,s.t)::Ip x y f (i+s.a.toNat) (j+s.e.toNat)
  |none=>[]
def KW{α:Type}(g:α->Int):∀(l:List α) (b:Int),l.foldl (λb s=>min b (g s)) b=b\/∃s∈l,g s=l.foldl (λb s=>min b (g s)) b
 |[],b=>.inl rfl
 |a::l,b=>by
  rw[zN];rcases KW g l (min b (g a))with h|⟨s,h1,h2⟩
  ·rw[h];by_cases e:b<=g a
   ·exact .inl (by omega)
   ·exact .inr ⟨a,Ei ..,by omega⟩
  ·exact .inr ⟨s,Ej _ h1,h2⟩
def KK{x:Input}{y:ba}(hx:pu x y){i j:Nat}(h:¬(i=x.ah.length/\j=y.length))(hf:ed x y i j<dV):∃s,(ff x y i j).find? (uT x y i j)=some s:=by
 have hb:=EU hx h;unfold mC at hb;rcases KW (λs:qk=>min (s.c+ed x y (i+s.a.toNat) (j+s.e.toNat)) dV) (ff x y i j) dV with e|⟨s,h1,h2⟩
 ·rw[hb]at e;omega
 ·rw[hb]at h2;cases hfd:(ff x y i j).find? (uT x y i j)with
  |some s=>exact⟨s,rfl⟩
  |none=>
   have:=Zdi.1 hfd s h1;exact eX (decide_eq_true h2) this
def KL{x:Input}{y:ba}{f i j:Nat}{s:qk}(h:¬(i=x.ah.length/\j=y.length))(hs:(ff x y i j).find? (uT x y i j)=some s):Ip x y (f+1) i j=(s.k,s.t)::Ip x y f (i+s.a.toNat) (j+s.e.toNat):=by
 simp only[Ip,bX h,hs]
def P6{x:Input}{y:ba}{f:Nat}:Ip x y (f+1) x.ah.length y.length=[]:=by simp[Ip]
def Ye{x:Input}{y:ba}(hx:pu x y){i j:Nat}(hi:i<=x.ah.length)(hj:j<=y.length)(hf:ed x y i j<dV){s:qk}(hs:(ff x y i j).find? (uT x y i j)=some s):
  s∈ff x y i j/\∃a e:Nat,s.a=a/\s.e=e/\i+a<=x.ah.length/\j+e<=y.length/\(0<a\/(a=0/\0<e))/\0<=s.c/\s.c+ed x y (i+a) (j+e)=ed x y i j:=by
 have hm:=Zcb hs;have hh:uT x y i j s=true:=Zc6 hs;have hh:=qg hh;obtain⟨a,e,h1,h2,h3,h4,h5,h6,h7⟩:=Gl hx hi hj hm;rw[h1,h2,gJ,gJ]at hh;exact⟨hm,a,e,h1,h2,h3,h4,h5,h6,by omega⟩
end Go.Proofs
namespace Go.Proofs.It
open Go.DM Go.DM.iN
def asu(r:bC):aJ ap 54 [.agg r.enc] (.sl (au (eu r))):=by
 obtain⟨rk,rh,ra,rb,rp,rg⟩:=r;obtain⟨R,hR⟩:=aY (eu ⟨rk,rh,ra,rb,rp,rg⟩);rw[hR];simp only[eu]at hR;have aq:=(aw.nil:aw ap (bz []));refine ae4.ok (by simp) (aH ?_);simp[bC.enc];apply aa.ai aq fw [1];simp[Qk];refine aa.lk (o:=[]) (l:=[(1,.v (.box [ti rk,ti rh,ti ra,ti rb,ti rp,ti rg]))]) (bn:=1200) (by simp) ?_;apply aa.sq aq fw [1,4];simp[Ql];apply aa.block;apply aa.ai aq fw [1,4,5];simp[Qm];refine aa.cond rfl (λh1=>?_) (λh1=>?_)
 ·have h1:rk=3:=by simpa using h1
  rw[cM h1]at hR;subst hR;apply aa.ai aq fw [2];simp[ac0,di];apply aa.ret;simp[dI,au]
 ·have h1:¬rk=3:=by simpa using h1
  rw[bX h1]at hR;apply aa.ai aq fw [1,10];simp[Qn];refine aa.cond rfl (λh2=>?_) (λh2=>?_)
  ·have h2:rk=4:=by simpa using h2
   rw[cM h2]at hR;subst hR;apply aa.ai aq fw [2];simp[ac1,di];apply aa.ret;simp[dI,au]
  ·have h2:¬rk=4:=by simpa using h2
   rw[bX h2]at hR;subst hR;apply aa.skip;simp;apply aa.ai aq fw [2];simp[Qo];apply aa.ret;simp[dI,au]
noncomputable def Zk(nt nn ns:Int)(aj:List bC)(N:Nat):DM.Spec:=bp (λts=>∃a l,ts=[.agg [ti nt,ti nn,ti ns,.sl (aQ aj)],.agg [ti a,.sl (dT l)]]/\(Tr.mk a l).sz<=N/\okP aj (.mk a l)) (fun|[.agg [_,_,_,.sl r],.agg d]=>ti (fF (kP r) (KE d))|_=>.bool false) true
noncomputable def Zl(nt nn ns:Int)(aj:List bC)(N:Nat):DM.Spec:=bp (λts=>∃a l,ts=[.agg [ti nt,ti nn,ti ns,.sl (aQ aj)],.agg [ti a,.sl (dT l)]]/\(Tr.mk a l).sz<=N/\okP aj (.mk a l)) (fun|[.agg [_,_,_,.sl r],.agg d]=>.sl (au (dw (kP r) (KE d)))|_=>.bool false) false
noncomputable def Zm(nt nn ns:Int)(aj:List bC)(N:Nat):DM.Spec:=bp (λts=>∃h a l,ts=[.agg [ti nt,ti nn,ti ns,.sl (aQ aj)],ti h,.agg [ti a,.sl (dT l)]]/\(Tr.mk a l).sz<=N) (fun|[.agg [_,_,_,.sl r],.int _ h,.agg d]=>.bool (eG (kP r) h (KE d))|_=>.bool false) true
def asv(nt nn ns:Int)(aj:List bC)(hr:∀r∈aj,0<=r.bi/\r.bi<=1000):∀(N:Nat) (d:Tr),d.sz<=N->d.sz<=4194304->okP aj d->aJ ap 51 [.agg [ti nt,ti nn,ti ns,.sl (aQ aj)],.agg d.enc] (ti (fF aj d)):=by
 intro N;induction N with
 |zero=>intro d h;have:=zy d;omega
 |succ N ih=>
  rintro⟨m,ks⟩ h1 h2 h3;have aq:aw ap (bz [(51,Zk nt nn ns aj (min N 4194304))]):=by
   refine aw.cons aw.nil ?_;rintro ts ⟨a,l,rfl,h,k⟩;exact⟨by simpa [Zk,Tr.enc]using ih (.mk a l) (by omega) (by omega) k,λ_=>rfl⟩
  obtain⟨⟨m1,m2⟩,_,h4⟩:=XL h3;obtain⟨m,rfl⟩:=jE m1;have m2:m<aj.length:=by omega
  obtain⟨⟨rk,rh,ra,rb,rp,rg⟩,qU⟩:=aY (aj.getD m default);have Yu:=qJ m2 qU;have hrp:=hr ⟨rk,rh,ra,rb,rp,rg⟩ (by rw[<-qU];exact bu m2);simp only at hrp;have dB:fF aj (.mk m ks)=rp+dD aj ks:=by simp only[fF,gJ,qU]
  simp only[Tr.sz]at h1 h2;have io:=oq ks;rw[dB];refine ae7.ok (by simp) (aH ?_);simp[Tr.enc];apply aa.ai aq fw [2,3];simp[Qy];refine aa.lk (o:=[]) (l:=[(2,.v (.box [ti nt,ti nn,ti ns,.sl (aQ aj)])),(3,.v (.box [ti m,.sl (dT ks)]))]) (bn:=1200) (by simp) ?_;apply aa.ai aq fw [2,3,5];simp[Qz,m2,Yu,bC.enc];apply aa.sq aq fw [2,5,16,17,18];simp[QA];apply aa.block;refine aa.loop (λy:Nat=>⟨DM.look [(2,.v (.box [ti nt,ti nn,ti ns,.sl (aQ aj)])),(5,.v (ti (rp+dD aj (ks.take y)))),(16,.v (.sl (dT ks))),(17,.v (ti ks.length)),(18,.v (ti y))],cR [],2000,1000,[]⟩)
   (λy=>y<=ks.length) (λy=>ks.length-y) 0 (Le.aL (o:=[]) ?_ ?_ ?_ ?_) (by simp) (λy hy=>?_)
  iterate 3(·simp)
  ·simp[dD]
  apply aa.ai aq fw [2,5,16,17,18,19];simp[QB];apply aa.seq;refine aa.cond rfl (λaS=>?_) (λaS=>?_)
  ·have aS:y<ks.length:=by simpa using aS
   apply aa.skip;simp;apply aa.seq;apply aa.block;have ht:=DP aS;have hz:=HP aS;have avM:=vT ks (y+1);have mr:=h4 y aS;have hp1:=HQ (aj:=aj) aS;have Un:=nE hr (ks.getD y default);have hp3:=so hr (ks.take y);obtain⟨⟨ka,kl⟩,hk⟩:=aY (ks.getD y default);rw[hk]at ht hz hp1 mr Un;have rr:=DO aS hk;have hS:rp+dD aj (ks.take (y+1))=rp+dD aj (ks.take y)+fF aj (.mk ka kl):=by omega
   apply aa.ai aq fw [2,5,7,16,17,18];simp[ac2,aS,rr];refine aa.lk (o:=[]) (l:=[(2,.v (.box [ti nt,ti nn,ti ns,.sl (aQ aj)])),(5,.v (ti (rp+dD aj (ks.take y)))),(7,.v (.box [ti ka,.sl (dT kl)])),(16,.v (.sl (dT ks))),(17,.v (ti ks.length)),(18,.v (ti y))]) (bn:=2500) (by simp) ?_;apply aa.cZ aq fw [2,5,16,17,18];simp[ac3,Zk];refine⟨⟨_,_,⟨rfl,rfl⟩,by omega,mr⟩, ?_⟩;rw[av (by omega)];apply aa.cZ aq fw [2,5,16,17,18];simp[ac4];rw[av (x:=(y:Int)+1) (by omega)];refine⟨y+1,Le.aL (o:=[]) ?_ ?_ ?_ ?_,by omega,by omega⟩;iterate 3(·simp)
   ·simp[hS]
  ·have fI:y=ks.length:=by simp at aS;omega
   subst fI;rw[TZ];apply aa.exit;simp;apply aa.ai aq fw [4];simp[QC];apply aa.ret;simp[dI]
def ae2(nt nn ns:Int)(aj:List bC):∀(N:Nat) (d:Tr),d.sz<=N->d.sz<=4194304->okP aj d->aJ ap 48 [.agg [ti nt,ti nn,ti ns,.sl (aQ aj)],.agg d.enc] (.sl (au (dw aj d))):=by
 intro N;induction N with
 |zero=>intro d h;have:=zy d;omega
 |succ N ih=>
  rintro⟨m,ks⟩ h1 h2 h3;have aq:aw ap (bz [(48,Zl nt nn ns aj (min N 4194304))]):=by
   refine aw.cons aw.nil ?_;rintro ts ⟨a,l,rfl,h,k⟩;exact⟨by simpa [Zl,Tr.enc]using ih (.mk a l) (by omega) (by omega) k,λh=>by cases h⟩
  obtain⟨⟨m1,m2⟩,_,h4⟩:=XL h3;obtain⟨m,rfl⟩:=jE m1;have m2:m<aj.length:=by omega
  obtain⟨⟨rk,rh,ra,rb,rp,rg⟩,qU⟩:=aY (aj.getD m default);have Yu:=qJ m2 qU;obtain⟨R,hR⟩:=aY (dw aj (.mk m ks));rw[hR];simp only[dw,gJ,qU]at hR;simp only[Tr.sz]at h1 h2;have io:=oq ks;refine ae6.ok (by simp) (aH ?_);simp[Tr.enc];apply aa.ai aq fw [2,3];simp[Qu];refine aa.lk (o:=[]) (l:=[(2,.v (.box [ti nt,ti nn,ti ns,.sl (aQ aj)])),(3,.v (.box [ti m,.sl (dT ks)]))]) (bn:=1200) (by simp) ?_;apply aa.sq aq fw [2,3,5];simp[Qv,m2,Yu,bC.enc];refine aa.lk (o:=[]) (l:=[(2,.v (.box [ti nt,ti nn,ti ns,.sl (aQ aj)])),(3,.v (.box [ti m,.sl (dT ks)])),(5,.v (.box [ti rk,ti rh,ti ra,ti rb,ti rp,ti rg]))]) (bn:=1200) (by simp) ?_;apply aa.ai aq fw [2,3,5,17];simp[Qw];refine aa.cond rfl (λg=>?_) (λg=>?_)
  ·have g:rk=2:=by simpa using g
   rw[cM g]at hR;subst hR;apply aa.ai aq fw [4];simp[Qx,di];apply aa.ret;simp[dI,au]
  ·have g:¬rk=2:=by simpa using g
   rw[bX g]at hR;subst hR;apply aa.skip;simp;apply aa.ai aq fw [2,3,6];simp[ac5];refine aa.lk (o:=[]) (l:=[(2,.v (.box [ti nt,ti nn,ti ns,.sl (aQ aj)])),(3,.v (.box [ti m,.sl (dT ks)])),(6,.aZ)]) (bn:=1400) (by simp) ?_;refine aa.le (Le.j7 (k:=6) 3 (sz:=1) (by omega) (by simp)) ?_;rw[fb];apply aa.sq aq fw [2,6,22,23,24];simp[ac6];apply aa.block;refine aa.loop (λy:Nat=>⟨DM.look [(2,.v (.box [ti nt,ti nn,ti ns,.sl (aQ aj)])),(6,.aW 1400 0),(22,.v (.sl (dT ks))),(23,.v (ti ks.length)),(24,.v (ti y))],cR [(1400,.bm 0 3 1 (au (dZ aj (ks.take y))))],1600,1000,[]⟩)
    (λy=>y<=ks.length) (λy=>ks.length-y) 0 (Le.aL ?_ ?_ ?_ ?_) (by simp) (λy hy=>?_)
   ·simp
   ·simp
   ·simp[dZ,au]
   ·simp
   apply aa.ai aq fw [2,6,22,23,24,25];simp[ac7];apply aa.seq;refine aa.cond rfl (λaS=>?_) (λaS=>?_)
   ·have aS:y<ks.length:=by simpa using aS
    apply aa.skip;simp;apply aa.seq;apply aa.block;have ht:=DP aS;have hz:=HP aS;have avM:=vT ks (y+1);have mr:=h4 y aS;have hp1:=HR (aj:=aj) aS;have Un:=qK aj (ks.getD y default);have hp3:=wO aj (ks.take y);obtain⟨⟨ka,kl⟩,hk⟩:=aY (ks.getD y default);rw[hk]at ht hz hp1 mr Un;have rr:=DO aS hk;obtain⟨yl,sZ⟩:=aY (dw aj (.mk ka kl));rw[sZ]at hp1 Un;have hS:au (dZ aj (ks.take (y+1)))=au (dZ aj (ks.take y))++au yl:=by rw[hp1,HS]
    apply aa.ai aq fw [2,6,8,22,23,24];simp[ac8,aS,rr];refine aa.lk (o:=[(1400,.bm 0 3 1 (au (dZ aj (ks.take y))))]) (l:=[(2,.v (.box [ti nt,ti nn,ti ns,.sl (aQ aj)])),(6,.aW 1400 0),(8,.v (.box [ti ka,.sl (dT kl)])),(22,.v (.sl (dT ks))),(23,.v (ti ks.length)),(24,.v (ti y))]) (bn:=2500) (by simp) ?_;apply aa.cZ aq fw [2,6,22,23,24];simp[ac9,Zl,cw,sZ];refine⟨⟨_,_,⟨rfl,rfl⟩,by omega,mr⟩,⟨SX yl,by omega,by omega⟩, ?_⟩;apply aa.cZ aq fw [2,6,22,23,24];simp[ada];rw[av (x:=(y:Int)+1) (by omega)];refine⟨y+1,Le.aL ?_ ?_ ?_ ?_,by omega,by omega⟩
    ·simp
    ·simp
    ·simp[hS]
    ·simp
   ·have fI:y=ks.length:=by simp at aS;omega
    subst fI;rw[TZ];apply aa.exit;simp;apply aa.ai aq fw [4];simp[Zn];apply aa.ret;simp[dI]
abbrev asw:DM.Spec:=bp (λts=>∃a b c d e f,ts=[.agg [ti a,ti b,ti c,ti d,ti e,ti f]]) (fun|[.agg r]=>.sl (au (eu (i9 r)))|_=>.bool false) false
def asx(nt nn ns:Int)(aj:List bC):∀(N:Nat) (d:Tr) (h:Int),d.sz<=N->d.sz<=4194304->aJ ap 16 [.agg [ti nt,ti nn,ti ns,.sl (aQ aj)],ti h,.agg d.enc] (.bool (eG aj h d)):=by
 intro N;induction N with
 |zero=>intro d _ h;have:=zy d;omega
 |succ N ih=>
  rintro⟨m,ks⟩ h h1 h2;have aq:aw ap (bz [(16,Zm nt nn ns aj (min N 4194304)),(54,asw)]):=by
   refine aw.cons (aw.cons aw.nil ?_) ?_
   ·rintro ts ⟨a,b,c,d,e,f,rfl⟩;exact⟨by simpa [bC.enc,i9,dg]using asu ⟨a,b,c,d,e,f⟩,λh=>by cases h⟩
   ·rintro ts ⟨h,a,l,rfl,hs⟩;exact⟨by simpa [Zm,Tr.enc]using ih (.mk a l) h (by omega) (by omega),λ_=>rfl⟩
  obtain⟨v,hv⟩:=aY (eG aj h (.mk m ks));have dB:=wP (aj:=aj) (h:=h) (m:=m) (ks:=ks);rw[hv]at dB⊢;have cW:∀{p:Prop},(v=true->p)->¬p->v=false:=λh1 h2=>by cases v with|false=>rfl|true=>exact eX (h1 rfl) h2
  simp only[Tr.sz]at h1 h2;have io:=oq ks;refine ae5.ok (by simp) (aH ?_);simp[Tr.enc];apply aa.ai aq fw [1,3,5];simp[Qp];refine aa.lk (o:=[]) (l:=[(1,.v (ti h)),(3,.v (.box [ti nt,ti nn,ti ns,.sl (aQ aj)])),(5,.v (.box [ti m,.sl (dT ks)]))]) (bn:=1200) (by simp) ?_;apply aa.seq;obtain⟨c1,bN⟩:=aY (decide (m<0\/(aj.length:Int)<=m\/¬(aj.getD m.toNat default).head=h):Bool);refine aa.bL aq fw [(3,.v (.box [ti nt,ti nn,ti ns,.sl (aQ aj)])),(5,.v (.box [ti m,.sl (dT ks)])),(31,.v (.bool c1))] ?_ ?_
  ·by_cases q1:m<0
   ·have:c1=true:=by rw[<-bN];simp[q1]
    simp[yk,q1,this]
   ·obtain⟨m,rfl⟩:=jE (show 0<=m by omega);by_cases q2:aj.length<=m
    ·have:c1=true:=by rw[<-bN];simp[q2]
     simp[yk,q1,q2,this]
    ·obtain⟨⟨rk,rh,ra,rb,rp,rg⟩,qU⟩:=aY (aj.getD m default);have Yu:=qJ (by omega) qU;simp only[gJ,qU]at bN;have q4:m<aj.length:=by omega
     by_cases q3:rh=h
     ·have:c1=false:=by rw[<-bN];simp[q2,q3]
      simp[yk,q1,q2,q3,q4,Yu,bC.enc,this]
     ·have:c1=true:=by rw[<-bN];simp[q3]
      simp[yk,q1,q2,q3,q4,Yu,bC.enc,this]
  refine aa.cond rfl (λg=>?_) (λg=>?_)
  ·rw[g]at bN;have bN:=qg bN;have hvf:=cW dB.1 (λk=>by have:=k.1;have:=k.2.1;omega);apply aa.ai aq fw [6];simp[adb];apply aa.ret;simp[dI,hvf]
  ·rw[g]at bN;have bN:=Br bN;obtain⟨m,rfl⟩:=jE (show 0<=m by omega);have m2:m<aj.length:=by omega
   simp only[gJ]at dB bN;obtain⟨⟨rk,rh,ra,rb,rp,rg⟩,qU⟩:=aY (aj.getD m default);have Yu:=qJ m2 qU;rw[qU]at dB bN;have yE:=N3 ⟨rk,rh,ra,rb,rp,rg⟩;apply aa.skip;simp;apply aa.ai aq fw [3,5,7];simp[Qq,m2,Yu,bC.enc,i9,dg];obtain⟨kl,vr⟩:=aY (eu ⟨rk,rh,ra,rb,rp,rg⟩);rw[vr]at dB yE⊢;apply aa.sq aq fw [3,5,7,44];simp[Qr];refine aa.cond rfl (λg4=>?_) (λg4=>?_)
   ·have g4:¬ks.length=kl.length:=by simp at g4;omega
    have hvf:=cW dB.1 (λk=>g4 k.2.2.1);apply aa.ai aq fw [6];simp[adc];apply aa.ret;simp[dI,hvf]
   ·have g4:ks.length=kl.length:=by simp at g4;omega
    apply aa.skip;simp;apply aa.sq aq fw [3,7,46,47,48];simp[Qs];apply aa.block;refine aa.loop (λy:Nat=>⟨DM.look [(3,.v (.box [ti nt,ti nn,ti ns,.sl (aQ aj)])),(7,.v (.sl (au kl))),(46,.v (.sl (dT ks))),(47,.v (ti ks.length)),(48,.v (ti y))],cR [],2000,1000,[]⟩)
     (λy=>y<=kl.length/\∀i,i<y->eG aj (kl.getD i default) (ks.getD i default)=true) (λy=>kl.length-y) 0 (Le.aL (o:=[]) ?_ ?_ ?_ ?_) (by simp) (λy hy=>?_)
    iterate 4(·simp)
    obtain⟨vy,fI⟩:=hy;apply aa.ai aq fw [3,7,46,47,48,49];simp[Qt];apply aa.seq;refine aa.cond rfl (λaS=>?_) (λaS=>?_)
    ·have mZ:y<ks.length:=by simpa using aS
     have aS:y<kl.length:=by omega
     apply aa.skip;simp;apply aa.seq;apply aa.block;have hz:=HP mZ;obtain⟨⟨ka,ll⟩,hk⟩:=aY (ks.getD y default);rw[hk]at hz;have rr:=DO mZ hk;have rr2:=bA aS;obtain⟨x,hx⟩:=aY (kl.getD y default);rw[hx]at rr2;apply aa.ai aq fw [3,7,8,9,46,47,48];simp[ade,mZ,rr];refine aa.lk (o:=[]) (l:=[(3,.v (.box [ti nt,ti nn,ti ns,.sl (aQ aj)])),(7,.v (.sl (au kl))),(8,.v (ti y)),(9,.v (.box [ti ka,.sl (dT ll)])),(46,.v (.sl (dT ks))),(47,.v (ti ks.length)),(48,.v (ti y))]) (bn:=2500) (by simp) ?_;apply aa.ai aq fw [3,7,46,47,48,60];simp[adf,aS,rr2,Zm];refine⟨⟨_,_,_,⟨rfl,rfl,rfl⟩,by omega⟩, ?_⟩;obtain⟨w,hw⟩:=aY (eG aj x (.mk ka ll));rw[hw];refine aa.cond rfl (λg8=>?_) (λg8=>?_)
     ·have g8:w=false:=by simpa using g8
      have hvf:=cW dB.1 (λk=>by have:=k.2.2.2 y aS;rw[hx,hk,hw,g8]at this;cases this);apply aa.ai aq fw [6];simp[Zo];apply aa.ret;simp[dI,hvf]
     ·have g8:w=true:=by simpa using g8
      rw[<-hw]at g8;apply aa.skip;simp;apply aa.cZ aq fw [3,7,46,47,48];simp[Zp];rw[av (x:=(y:Int)+1) (by omega)];refine⟨y+1,Le.aL (o:=[]) ?_ ?_ ?_ ?_,⟨by omega,λi hi=>?_⟩,by omega⟩;iterate 4(·simp)
      show eG aj (kl.getD i default) (ks.getD i default)=true;by_cases e:i=y
      ·subst e;rw[hk,hx];exact g8
      ·exact fI i (by omega)
    ·have El:y=kl.length:=by simp at aS;omega
     subst El;have hvt:v=true:=dB.2 ⟨by omega,by simp only at bN⊢;omega,g4,fI⟩;apply aa.exit;simp;apply aa.ai aq fw [6];simp[KZ];apply aa.ret;simp[dI,hvt]
def Zq{a b:ba}(h:a.length=b.length)(k:∀i,i<a.length->a.getD i default=b.getD i default):a=b:=by
 apply Th h;intro i h1 h2;have:=k i h1;simpa [List.getD,h1,h2]using this
def asy(a b:ba)(hl:a.length<=9223372036854775807):aJ ap 47 [.sl (au a),.sl (au b)] (.bool (decide (a=b))):=by
 have aq:=gV;obtain⟨R,hR⟩:=aY (decide (a=b));rw[hR];have cW:¬a=b->R=false:=λh=>by rw[<-hR];exact decide_eq_false h
 refine YD.ok (by simp) (aH ?_);simp;apply aa.ai aq fw [0,1];simp[H0];apply aa.sq aq fw [0,1,10];simp[H1];refine aa.cond rfl (λg1=>?_) (λg1=>?_)
 ·have CM:=cW λe=>by rw[e]at g1;simp at g1
  apply aa.ai aq fw [4];simp[QD];apply aa.ret;simp[dI,CM]
 ·have g1:a.length=b.length:=by simp at g1;omega
  apply aa.skip;simp;apply aa.sq aq fw [0,1,12,13];simp[QE];apply aa.block;refine aa.loop (λy:Nat=>⟨DM.look [(0,.v (.sl (au a))),(1,.v (.sl (au b))),(12,.v (ti a.length)),(13,.v (ti y))],cR [],2000,1000,[]⟩)
   (λy=>y<=a.length/\∀i,i<y->a.getD i default=b.getD i default) (λy=>a.length-y) 0 (Le.aL (o:=[]) ?_ ?_ ?_ ?_) (by simp) (λy hy=>?_)
  iterate 4(·simp)
  obtain⟨vy,fI⟩:=hy;apply aa.ai aq fw [0,1,12,13,14];simp[QF];apply aa.seq;refine aa.cond rfl (λaS=>?_) (λaS=>?_)
  ·have aS:y<a.length:=by simpa using aS
   have wg:y<b.length:=by omega
   apply aa.skip;simp;apply aa.seq;apply aa.block;apply aa.ai aq fw [0,1,5,12,13];simp[QG];have r1:=bA aS;have r2:=bA wg;obtain⟨u,hu⟩:=aY (a.getD y default);obtain⟨w,hw⟩:=aY (b.getD y default);rw[hu]at r1;rw[hw]at r2;apply aa.ai aq fw [0,1,12,13,24];simp[QH,aS,wg,r1,r2];refine aa.cond rfl (λg6=>?_) (λg6=>?_)
   ·have g6:¬u=w:=by simpa using g6
    have CM:=cW λe=>g6 (by rw[<-hu,<-hw,e]);apply aa.ai aq fw [4];simp[adg];apply aa.ret;simp[dI,CM]
   ·have g6:u=w:=by simpa using g6
    apply aa.skip;simp;apply aa.cZ aq fw [0,1,12,13];simp[QI];rw[av (x:=(y:Int)+1) (by omega)];refine⟨y+1,Le.aL (o:=[]) ?_ ?_ ?_ ?_,⟨by omega,λi hi=>?_⟩,by omega⟩;iterate 4(·simp)
    show a.getD i default=b.getD i default;by_cases e:i=y
    ·subst e;rw[hu,hw];exact g6
    ·exact fI i (by omega)
  ·have El:y=a.length:=by simp at aS;omega
   subst El;have hRt:R=true:=by rw[<-hR];exact decide_eq_true (Zq g1 fI)
   apply aa.exit;simp;apply aa.ai aq fw [4];simp[QJ];apply aa.ret;simp[dI,hRt]
section
variable{f0:bS}
def asA{b:Nat}{c2 c3 c5 c6:DV}{c:List bB}{m:Nat}{N:Nat}(hN:∀r,N<=r->f0 r=none)(hb:f0 b=some (.box [.v (.sl (bd c)),c2,c3,.v (ti m),c5,c6]))(hm:¬m<c.length):
  ce ap 271 [.ptr b 0] f0 ⟨True,.v (.dh [.agg [ti 0,.sl [],ti 0],.bool false]),f0⟩:=by
 have aq:=gV;refine alh.Ie hN (by simp) λc9=>?_;have zV:b<N:=(c9 b _ hb).1;have nb:∀k,b≠N+k:=λk=>by omega
 simp;apply aa.ai aq fw [0,2,3];simp[T2];apply aa.sq aq fw [2,14];simp[T3,hb,nb,vq];refine aa.cond rfl (λaS=>?_) (λaS=>by simp at aS;omega);apply aa.ai aq fw [2,3];simp[ai2,vq];refine aa.le (Le.qZ (N+3) 1 3 (sz:=1) (cs:=[.v (ti 0),.aZ,.v (ti 0)]) (by omega) (by simp) (by simp)) ?_;rw[fJ,fJ];refine aa.le (Le.iy (l1:=[(N+3,.box [.v (ti 0),.v (.sl []),.v (ti 0)])]) (l:=[(2,.ptr (N+3) 0),(3,.v (.bool false))]) (bn:=N+100) c9 ?_ ?_ ?_ ?_ ?_) ?_
 ·omega
 ·simp
 ·simp[cY]
 ·simp[kp,kq,jy,da,bv];exact j8 c9 (by omega) (by simp)
 ·simp
 refine aa.le (Le.iy (l1:=[]) (l:=[(2,.v (.box [ti 0,.sl [],ti 0])),(3,.v (.bool false))]) (bn:=N+100) c9 ?_ ?_ ?_ ?_ ?_) ?_
 ·omega
 ·simp
 ·simp[cY]
 ·simp[kp,kq]
 ·simp[];exact j8 c9 (by omega) (by simp)
 apply aa.ret;simp[Gq];rfl
def QW:bW->bS->iw
 |[.ptr b 0],ab=>
  match ab b with
  |some (.box [.v (.sl c),_,_,.v (.int .i64 m),_,_])=>⟨0<=m/\c=bd (kR c),.v (if m<c.length then .dh [.agg ((kR c).getD m.toNat default).enc,.bool true]else .dh [.agg [ti 0,.sl [],ti 0],.bool false]),ab⟩
  |_=>⟨False,.undef,ab⟩
 |_,ab=>⟨False,.undef,ab⟩
def K6{f:bS}{b m v a:Nat}{x:Input}{c:Int}(hb:f b=some (eI x m c a v)):QW [.ptr b 0] f=⟨True,.v (if m<x.ah.length then .dh [.agg (x.ah.getD m default).enc,.bool true]else .dh [.agg [ti 0,.sl [],ti 0],.bool false]),f⟩:=by
 simp[QW,hb,eI]
def QX:aw ap (bz [(271,fl QW),(205,eSw)]):=by
 refine aw.il (aw.cons aw.nil ?_) ?_
 ·rintro ts ⟨x,m,rfl,h1,h2⟩;exact⟨by simpa using _root_.Go.Proofs.t74 x m h1 h2,λ_=>rfl⟩
 ·intro args ab h;unfold QW at h⊢;split at h
  ·rename_i b;split at h
   ·rename_i c c2 c3 m c5 c6 hb;obtain⟨h1,h2⟩:=h;obtain⟨m,rfl⟩:=jE h1;refine⟨λN hN=>?_,λr hr=>by simpa using hr⟩;rw[h2]at hb;have hl:c.length=(kR c).length:=by conv=>lhs;rw[h2];simp[bd]
    by_cases hm:m<c.length
    ·have:=alg hN hb (by omega);exact ce.of this rfl (by rw[cM (by omega)];rfl)
    ·have:=asA hN hb (by omega);exact ce.of this rfl (by rw[bX (by omega)])
   ·exact h.elim
  ·exact h.elim
def ot(x:Input)(m:Nat)(k:Nat)(t:Int):Prop:=
 if k=1 then m<x.ah.length/\0<=t/\t<(x.ah.getD m default).read.length/\0<=cV x m t.toNat
 else if k=2 then m<x.ah.length/\t=0/\eL x m<1099511627776
 else if k=3 then 0<=t/\t<x.insert.length
 else t=0/\cG x m=true
def asB{b a m v:Nat}{x:Input}{c:Int}{t:Int}{N:Nat}(hN:∀r,N<=r->f0 r=none)(hb:f0 b=some (eI x m c a v))(hc:¬ot x m 3 t):
  ce ap 269 [.ptr b 0,.v (ti t)] f0 ⟨True,.v (.bool false),f0⟩:=by
 have aq:=QX;have hc:¬(0<=t/\t<x.insert.length):=hc;refine alq.Ie hN (by simp) λc9=>?_;have zV:b<N:=(c9 b _ hb).1;have nb:∀k,b≠N+k:=λk=>by omega
 simp;apply aa.ai aq fw [0,1];simp[T8];apply aa.seq;refine aa.bL aq fw [(16,.v (.bool true))] ?_ ?_
 ·by_cases q1:t<0
  ·simp[LO,q1]
  ·have q2:(x.insert.length:Int)<=t:=by omega
   simp[LO,q1,q2,hb,eI]
 refine aa.cond rfl (λ_=>?_) (λg=>by cases g);apply aa.ai aq fw [4];simp[ai5];apply aa.ret;simp[dI];rfl
def asC{b a m v:Nat}{x:Input}{c:Int}{t:Int}{N:Nat}(hN:∀r,N<=r->f0 r=none)(hb:f0 b=some (eI x m c a v))(h1:m<=1000000)(h5:x.ah.length<=1000000)(hc:¬ot x m 4 t):
  ce ap 270 [.ptr b 0,.v (ti t)] f0 ⟨True,.v (.bool false),f0⟩:=by
 have aq:=QX;have hc:¬(t=0/\cG x m=true):=hc;refine als.Ie hN (by simp) λc9=>?_;have zV:b<N:=(c9 b _ hb).1;have nb:∀k,b≠N+k:=λk=>by omega
 obtain⟨xt,tA⟩:=aY x.enc;have ov:T.agg [.sl (bd x.ah),.sl (au x.insert),ti x.swap]=xt:=tA;have Ox:xd xt=x:=by rw[<-tA];simp
 have oL:∃(x2:Input) (m2:Nat),(xt=x2.enc/\(m:Int)=m2)/\m2<=1000000/\x2.ah.length<=1000000:=⟨x,m,⟨tA.symm,rfl⟩,h1,h5⟩;simp;apply aa.ai aq fw [0,1];simp[T9];apply aa.seq;refine aa.bL aq fw [(18,.v (.bool true))] ?_ ?_
 ·by_cases q1:t=0
  ·have q2:cG x m=false:=by simpa [q1]using hc
   simp[LP,q1,hb,eI,ov,Ox,q2];exact oL
  ·simp[LP,q1]
 refine aa.cond rfl (λ_=>?_) (λg=>by cases g);apply aa.ai aq fw [4];simp[ai6];apply aa.ret;simp[dI];rfl
def asD{b a m v:Nat}{x:Input}{c:Int}{t:Int}{N:Nat}(hN:∀r,N<=r->f0 r=none)(hb:f0 b=some (eI x m c a v))(hc:¬ot x m 1 t):
  ce ap 267 [.ptr b 0,.v (ti t)] f0 ⟨True,.v (.bool false),f0⟩:=by
 have aq:=QX;have hc:¬(m<x.ah.length/\0<=t/\t<(x.ah.getD m default).read.length/\0<=cV x m t.toNat):=hc;refine alj.Ie hN (by simp) λc9=>?_;have zV:b<N:=(c9 b _ hb).1;have nb:∀k,b≠N+k:=λk=>by omega
 obtain⟨⟨kd,rd,dl⟩,ec⟩:=aY (x.ah.getD m default);have hk:=K6 (f:=dA [] f0) hb;rw[ec]at hk;obtain⟨ok,aN⟩:=aY (decide (m<x.ah.length):Bool);obtain⟨⟨kd',Tw,dl'⟩,aS⟩:=aY ((if m<x.ah.length then(⟨kd,rd,dl⟩:bB)else⟨0,[],0⟩):bB);have hv:(if m<x.ah.length then T.dh [.agg (⟨kd,rd,dl⟩:bB).enc,.bool true]else .dh [.agg [ti 0,.sl [],ti 0],.bool false])=.dh [.agg [ti kd',.sl (au Tw),ti dl'],.bool ok]:=by
  by_cases e:m<x.ah.length
  ·rw[cM e]at aS⊢;rw[<-aN,decide_eq_true e]
   injection aS with e1 e2 e3
   rw[bB.enc,e1,e2,e3]
  ·rw[bX e]at aS⊢;rw[<-aN,decide_eq_false e]
   injection aS with e1 e2 e3
   rw[<-e1,<-e2,<-e3];rfl
 rw[hv]at hk;have JE:ok=true->(⟨kd',Tw,dl'⟩:bB)=⟨kd,rd,dl⟩:=λe=>by rw[<-aS,cM (qg (aN.trans e))]
 simp;apply aa.ai aq fw [0,1];simp[T6];apply aa.uG aq fw (rs:=A5) pV (by kernel_rfl) [1,5,6];simp[A5,hk];refine aa.le (Le.iy (l1:=[]) (l:=[(1,.v (ti t)),(5,.v (.box [ti kd',.sl (au Tw),ti dl'])),(6,.v (.bool ok))]) (bn:=N+1000) c9 ?_ ?_ ?_ ?_ ?_) ?_
 ·omega
 ·simp
 ·simp[cY];omega
 ·simp[kp,kq]
 ·simp[nb,vq];exact j8 (l:=[]) c9 (by omega) (by simp)
 apply aa.seq;refine aa.bL aq fw [(32,.v (.bool true))] ?_ ?_
 ·cases ok with
  |false=>simp[BW]
  |true=>
   have hm:=qg aN;have e:=JE rfl
   injection e with e1 e2 e3
   subst e1 e2 e3;by_cases q1:t<0
   ·simp[BW,q1]
   ·obtain⟨t,rfl⟩:=jE (show 0<=t by omega);by_cases q2:Tw.length<=t
    ·have TW:(Tw.length:Int)<=t:=by omega
     simp[BW,q1,TW]
    ·have TW:¬(Tw.length:Int)<=t:=by omega
     have q3:t<Tw.length:=by omega
     have rr:=bA q3;have BT:cV x m t=Tw.getD t default:=by unfold cV;rw[ec]
     obtain⟨g,hg⟩:=aY (cV x m t);rw[hg]at BT;rw[<-BT]at rr;have q5:g<0:=by
      rw[ec]at hc;simp only[gJ,hg]at hc;omega
     simp[BW,q1,TW,q3,rr,q5]
 refine aa.cond rfl (λ_=>?_) (λg=>by cases g);apply aa.ai aq fw [4];simp[ai3];apply aa.ret;simp[dI];rfl
def asE{b a m v:Nat}{x:Input}{c:Int}{t:Int}{N:Nat}(hN:∀r,N<=r->f0 r=none)(hb:f0 b=some (eI x m c a v))(hc:¬ot x m 2 t):
  ce ap 268 [.ptr b 0,.v (ti t)] f0 ⟨True,.v (.bool false),f0⟩:=by
 have aq:=QX;have hc:¬(m<x.ah.length/\t=0/\eL x m<1099511627776):=hc;refine alo.Ie hN (by simp) λc9=>?_;have zV:b<N:=(c9 b _ hb).1;have nb:∀k,b≠N+k:=λk=>by omega
 obtain⟨⟨kd,rd,dl⟩,ec⟩:=aY (x.ah.getD m default);have hk:=K6 (f:=dA [] f0) hb;rw[ec]at hk;obtain⟨ok,aN⟩:=aY (decide (m<x.ah.length):Bool);obtain⟨⟨kd',Tw,dl'⟩,aS⟩:=aY ((if m<x.ah.length then(⟨kd,rd,dl⟩:bB)else⟨0,[],0⟩):bB);have hv:(if m<x.ah.length then T.dh [.agg (⟨kd,rd,dl⟩:bB).enc,.bool true]else .dh [.agg [ti 0,.sl [],ti 0],.bool false])=.dh [.agg [ti kd',.sl (au Tw),ti dl'],.bool ok]:=by
  by_cases e:m<x.ah.length
  ·rw[cM e]at aS⊢;rw[<-aN,decide_eq_true e]
   injection aS with e1 e2 e3
   rw[bB.enc,e1,e2,e3]
  ·rw[bX e]at aS⊢;rw[<-aN,decide_eq_false e]
   injection aS with e1 e2 e3
   rw[<-e1,<-e2,<-e3];rfl
 rw[hv]at hk;have JE:ok=true->(⟨kd',Tw,dl'⟩:bB)=⟨kd,rd,dl⟩:=λe=>by rw[<-aS,cM (qg (aN.trans e))]
 simp;apply aa.ai aq fw [0,1];simp[T7];apply aa.uG aq fw (rs:=A6) pV (by kernel_rfl) [1,5,6];simp[A6,hk];refine aa.le (Le.iy (l1:=[]) (l:=[(1,.v (ti t)),(5,.v (.box [ti kd',.sl (au Tw),ti dl'])),(6,.v (.bool ok))]) (bn:=N+1000) c9 ?_ ?_ ?_ ?_ ?_) ?_
 ·omega
 ·simp
 ·simp[cY];omega
 ·simp[kp,kq]
 ·simp[nb,vq];exact j8 (l:=[]) c9 (by omega) (by simp)
 apply aa.seq;refine aa.bL aq fw [(22,.v (.bool true))] ?_ ?_
 ·cases ok with
  |false=>simp[Gs]
  |true=>
   have hm:=qg aN;have e:=JE rfl
   injection e with e1 e2 e3
   subst e1 e2 e3;by_cases q1:t=0
   ·have q5:1099511627776<=dl':=by
     have:eL x m=dl':=by unfold eL;rw[ec]
     rw[this]at hc;omega
    simp[Gs,q1,q5]
   ·simp[Gs,q1]
 refine aa.cond rfl (λ_=>?_) (λg=>by cases g);apply aa.ai aq fw [4];simp[ai4];apply aa.ret;simp[dI];rfl
end
structure Zr(x:Input):Prop where
 rd:∀c∈x.ah,∀p∈c.read,p<=1099511627776
 Ep:∀i,0<=eL x i
 dm:∀t,0<=f7 x t/\f7 x t<=1099511627776
 sw:0<=x.swap/\x.swap<=1099511627776
 LN:x.ah.length<=1000000
def akb{x:Input}(hx:Zr x){s:ES}{k:Nat}{t:Int}(hk:k=1\/k=2\/k=3\/k=4)(h:ot x s.dC k t):qW x s k t.toNat/\0<=t:=by
 have hI:dV=1099511627776:=rfl;rcases hk with rfl|rfl|rfl|rfl
 ·have h:s.dC<x.ah.length/\0<=t/\t<(x.ah.getD s.dC default).read.length/\0<=cV x s.dC t.toNat:=h;refine⟨⟨h.1,by omega,h.2.2.2, ?_⟩,h.2.1⟩;have hc:x.ah.getD s.dC default∈x.ah:=by simp[List.getD,h.1]
  exact hx.rd _ hc _ (bu (by omega))
 ·have h:s.dC<x.ah.length/\t=0/\eL x s.dC<1099511627776:=h;exact⟨⟨h.1,by omega,hx.Ep _,h.2.2⟩,by omega⟩
 ·have h:0<=t/\t<x.insert.length:=h;exact⟨⟨by omega,hx.dm _⟩,h.1⟩
 ·have h:t=0/\cG x s.dC=true:=h;exact⟨⟨by omega,h.2,hx.sw⟩,by omega⟩
open Classical in
noncomputable def kG(k:Nat):bW->bS->iw
 |[.ptr b 0,.v (.int .i64 t)],ab=>
  ⟨ab b=some (eI (fu ab b).1 (fu ab b).2.1.dC (fu ab b).2.1.aA (fu ab b).2.2 (fu ab b).2.1.out.length)/\ab (fu ab b).2.2=some (nV (fu ab b).2.1)/\(fu ab b).2.2≠b/\BV (fu ab b).1 (fu ab b).2.1/\Zr (fu ab b).1,
   .v (.bool (decide (ot (fu ab b).1 (fu ab b).2.1.dC k t))),if ot (fu ab b).1 (fu ab b).2.1.dC k t then b8 (b8 ab (fu ab b).2.2 (nV (cj (fu ab b).1 (fu ab b).2.1 k t.toNat))) b (eI (fu ab b).1 (cj (fu ab b).1 (fu ab b).2.1 k t.toNat).dC (cj (fu ab b).1 (fu ab b).2.1 k t.toNat).aA (fu ab b).2.2 (cj (fu ab b).1 (fu ab b).2.1 k t.toNat).out.length)else ab⟩
 |_,ab=>⟨False,.undef,ab⟩
open Classical in
def afc{ab:bS}{b a k:Nat}{t:Int}{x:Input}{s:ES}(h:ab b=some (eI x s.dC s.aA a s.out.length))(ha:ab a=some (nV s))(ik:a≠b):
  kG k [.ptr b 0,.v (ti t)] ab=⟨BV x s/\Zr x,.v (.bool (decide (ot x s.dC k t))),if ot x s.dC k t then b8 (b8 ab a (nV (cj x s k t.toNat))) b (eI x (cj x s k t.toNat).dC (cj x s k t.toNat).aA a (cj x s k t.toNat).out.length)else ab⟩:=by
 simp only[kG,OG h ha,h,ha,iw.mk.injEq,Gr,If,eq_iff_iff];simp[ik]
open Classical in
def QY{f k:Nat}(vr:k=1\/k=2\/k=3\/k=4)
  (H:∀args ab,(kE k args ab).ok->(∀N,(∀r,N<=r->ab r=none)->ce ap f args ab (kE k args ab))/\∀r,ab r=none->(kE k args ab).ab r=none)
  (F:∀{f0:bS} {b a m v:Nat} {x:Input} {c:Int} {t:Int} {N:Nat},(∀r,N<=r->f0 r=none)->f0 b=some (eI x m c a v)->m<=1000000->x.ah.length<=1000000->¬ot x m k t->ce ap f [.ptr b 0,.v (ti t)] f0 ⟨True,.v (.bool false),f0⟩):
  ∀args ab,(kG k args ab).ok->(∀N,(∀r,N<=r->ab r=none)->ce ap f args ab (kG k args ab))/\∀r,ab r=none->(kG k args ab).ab r=none:=by
 intro args ab h;unfold kG at h;split at h
 ·rename_i b t;obtain⟨hb,ha,ik,hs,hx⟩:=h;obtain⟨⟨x,s,a⟩,hd⟩:=aY (fu ab b);rw[hd]at hb ha ik hs hx;simp only at hb ha ik hs hx;have hG:=afc (k:=k) (t:=t) hb ha ik;rw[hG];by_cases hc:ot x s.dC k t
  ·obtain⟨tg,ht0⟩:=akb hx vr hc;obtain⟨t,rfl⟩:=jE ht0;rw[gJ]at tg;have hE:=adW (k:=k) (t:=t) hb ha ik;have:=H [.ptr b 0,.v (ti t)] ab (by rw[hE];exact⟨hs,tg⟩);rw[hE]at this;rw[cM hc,decide_eq_true hc,gJ];exact⟨λN hN=>ce.of (this.1 N hN) rfl rfl,this.2⟩
  ·rw[bX hc,decide_eq_false hc];exact⟨λN hN=>ce.of (F hN hb hs.dC hs.LN hc) rfl rfl,λr hr=>hr⟩
 ·exact h.elim
def akc:aw ap (bz [(267,fl (kG 1)),(268,fl (kG 2)),(269,fl (kG 3)),(270,fl (kG 4))]):=by
 refine aw.il (aw.il (aw.il (aw.il aw.nil ?_) ?_) ?_) ?_
 ·refine QY (.inr (.inr (.inr rfl))) ?_ λhN hb h1 h5 hc=>asC hN hb h1 h5 hc;refine zW λ{f0 b a x s t N} hN hb ha ik hs hc=>?_;have:=alr hN hb ha ik hs hc;simpa [cj,nV]using this
 ·refine QY (.inr (.inr (.inl rfl))) ?_ λhN hb h1 h5 hc=>asB hN hb hc;refine zW λ{f0 b a x s t N} hN hb ha ik hs hc=>?_;have:=alp hN hb ha ik hs hc;simpa [cj,nV]using this
 ·refine QY (.inr (.inl rfl)) ?_ λhN hb h1 h5 hc=>asE hN hb hc;refine zW λ{f0 b a x s t N} hN hb ha ik hs hc=>?_;have:=alk hN hb ha ik hs hc;have e:b8 f0 a (nV s)=f0:=qY ha;have e2:cj x s 2 t=⟨s.dC+1,s.out,min (s.aA+eL x s.dC) 1099511627776⟩:=rfl;have e3:nV (cj x s 2 t)=nV s:=rfl;rw[e3,e,e2];exact this
 ·refine QY (.inl rfl) ?_ λhN hb h1 h5 hc=>asD hN hb hc;refine zW λ{f0 b a x s t N} hN hb ha ik hs hc=>?_;have:=ali hN hb ha ik hs hc;simpa [cj,nV]using this
def abv(x:Input)(s:ES)(q:Int×Int):Prop:=(1<=q.1/\q.1<=4)/\ot x s.dC q.1.toNat q.2
open Classical in
noncomputable def N9(x:Input)(o:Option ES)(q:Int×Int):Option ES:=match o with
 |some s=>if abv x s q then some (cj x s q.1.toNat q.2.toNat)else none
 |none=>none
noncomputable def zA(x:Input)(l:List (Int×Int)):Option ES:=l.foldl (N9 x) (some ⟨0,[],0⟩)
def Tb(x:Input){l:List (Int×Int)}{j:Nat}{q:Int×Int}(h:j<l.length)(e:l.getD j default=q):zA x (l.take (j+1))=N9 x (zA x (l.take j)) q:=by
 unfold zA;rw[Tg,mM h,ZcP,Ec,<-e];simp[List.getD,h]
def F6(x:Input)(l:List (Int×Int)):l.foldl (N9 x) none=none:=by
 induction l with
 |nil=>rfl
 |cons q l ih=>exact ih
def Tc{x:Input}{l:List (Int×Int)}{j:Nat}(h:zA x (l.take j)=none):zA x l=none:=by
 have:l=l.take j++l.drop j:=(Eg j l).symm;unfold zA at*
 rw[this,Ec,h,F6]
open Classical in
noncomputable def ta(x:Input)(l:List (Int×Int)):Option ES:=match zA x l with
 |some s=>if s.dC=x.ah.length then some s else none
 |none=>none
def esG(x:Input)(s:ES)(i:Nat):Prop:=s.dC<=x.ah.length/\s.out.length<=2*i/\0<=s.aA/\s.aA<=1099511627776
def akd{x:Input}{s:ES}{i:Nat}(hx:Zr x)(h:esG x s i)(hi:i<=4200000):BV x s:=by
 obtain⟨h1,h2,h3,h4⟩:=h;have:=hx.LN;exact⟨by omega,by omega,h3,h4,hx.LN⟩
def K7{x:Input}{s:ES}{i k:Nat}{t:Int}(hx:Zr x)(hk:k=1\/k=2\/k=3\/k=4)(h:esG x s i)(hc:ot x s.dC k t):esG x (cj x s k t.toNat) (i+1):=by
 obtain⟨h1,h2,h3,h4⟩:=h;have hI:dV=1099511627776:=rfl;rcases hk with rfl|rfl|rfl|rfl
 ·have hc:s.dC<x.ah.length/\0<=t/\t<(x.ah.getD s.dC default).read.length/\0<=cV x s.dC t.toNat:=hc;refine⟨?_, ?_, ?_, ?_⟩<;>simp only[cj,jB,qe,Bd,RI]<;>omega
 ·have hc:s.dC<x.ah.length/\t=0/\eL x s.dC<1099511627776:=hc;have:=hx.Ep s.dC;refine⟨?_, ?_, ?_, ?_⟩<;>simp only[cj,show ¬(2:Nat)=1 by omega,we,jB]<;>omega
 ·have:=hx.dm t.toNat;refine⟨?_, ?_, ?_, ?_⟩<;>simp only[cj,show ¬(3:Nat)=1 by omega,show ¬(3:Nat)=2 by omega,we,jB,qe,Bd,RI]<;>omega
 ·have hc:t=0/\cG x s.dC=true:=hc;have:=jj hc.2;have:=hx.sw;refine⟨?_, ?_, ?_, ?_⟩<;>simp only[cj,show ¬(4:Nat)=1 by omega,show ¬(4:Nat)=2 by omega,show ¬(4:Nat)=3 by omega,we,qe,Bd,RI]<;>omega
structure GM where
 i:Nat
 s:ES
noncomputable def K8(x:Input)(l:List (Int×Int)):T:=match ta x l with
 |some s=>.dh [.box [.sl (bd x.ah),.sl (au x.insert),ti x.swap,ti s.dC,.sl (au s.out),ti s.aA],ti 0]
 |none=>.dh [.tf (Go.Value.pointer Option.none),ti 1]
def vn{x:Input}{l:List (Int×Int)}(h:ta x l=none):K8 x l=.dh [.tf (Go.Value.pointer Option.none),ti 1]:=by unfold K8;rw[h]
def zM{x:Input}{l:List (Int×Int)}{s:ES}(h:ta x l=some s):K8 x l=.dh [.box [.sl (bd x.ah),.sl (au x.insert),ti x.swap,ti s.dC,.sl (au s.out),ti s.aA],ti 0]:=by unfold K8;rw[h]
open Classical in
def afd(x:Input)(l:List (Int×Int))(hx:Zr x)(ct:l.length<=4200000):aJ ap 103 [x.enc,.sl (ca l)] (K8 x l):=by
 have aq:=akc;obtain⟨R,hR⟩:=aY (K8 x l);rw[hR];refine alv.ok (by simp) (aH ?_);simp[Input.enc];apply aa.ai aq fw [1,2];simp[Ub];apply aa.ai aq fw [1,2,6];simp[Uc];refine aa.lk (o:=[(1060,.box [.v (.sl (bd x.ah)),.v (.sl (au x.insert)),.v (ti x.swap),.v (ti 0),.aZ,.v (ti 0)])]) (l:=[(1,.v (.sl (ca l))),(2,.v (.box [.sl (bd x.ah),.sl (au x.insert),ti x.swap])),(6,.ptr 1060 0)]) (bn:=1100) (by simp) ?_;refine aa.le (Le.qZ 1060 4 3 (sz:=1) (cs:=[.v (.sl (bd x.ah)),.v (.sl (au x.insert)),.v (ti x.swap),.v (ti 0),.aZ,.v (ti 0)]) (by omega) (by simp) (by simp)) ?_;rw[fb,fb];apply aa.sq aq fw [2,6,12,13,14];simp[Ud];apply aa.block;refine aa.loop (λz:GM=>⟨DM.look [(2,.v (.box [.sl (bd x.ah),.sl (au x.insert),ti x.swap])),(6,.ptr 1060 0),(12,.v (.sl (ca l))),(13,.v (ti l.length)),(14,.v (ti z.i))],cR [(1060,eI x z.s.dC z.s.aA 1100 z.s.out.length),(1100,nV z.s)],2000,1000,[]⟩)
  (λz=>z.i<=l.length/\zA x (l.take z.i)=some z.s/\esG x z.s z.i) (λz=>l.length-z.i) ⟨0,⟨0,[],0⟩⟩ (Le.aL ?_ ?_ ?_ ?_) ⟨by simp,rfl,⟨by simp,by simp,by simp,by simp⟩⟩ (λz hz=>?_)
 ·simp
 ·simp
 ·simp[eI,nV,au]
 ·simp[eI]
 obtain⟨i,s⟩:=z;obtain⟨hi,bO,nN⟩:=hz;simp only at hi bO nN⊢;apply aa.ai aq fw [2,6,12,13,14,15];simp[Ue];apply aa.seq;refine aa.cond rfl (λaS=>?_) (λaS=>?_)
 ·simp at aS;apply aa.skip;simp;have gf:=EX aS;have iO:=akd hx nN (by omega);obtain⟨⟨k,t⟩,ho⟩:=aY (l.getD i default);have gh:=Tb x aS ho;rw[bO]at gh;rw[ho]at gf;apply aa.seq;apply aa.block;apply aa.ai aq fw [2,6,8,12,13,14];simp[Uf,gf,aS];refine aa.le (Le.aL (o:=[(1060,eI x s.dC s.aA 1100 s.out.length),(1100,nV s)]) (l:=[(2,.v (.box [.sl (bd x.ah),.sl (au x.insert),ti x.swap])),(6,.ptr 1060 0),(8,.v (.box [ti k,ti t])),(12,.v (.sl (ca l))),(13,.v (ti l.length)),(14,.v (ti i))]) (bn:=3000) ?_ ?_ ?_ ?_) ?_
  ·simp
  ·simp
  ·simp[eI,nV]
  ·simp[eI]
  obtain⟨F,hF⟩:=aY (cR [(1060,eI x s.dC s.aA 1100 s.out.length),(1100,nV s)]);have hb:F 1060=some (eI x s.dC s.aA 1100 s.out.length):=by rw[<-hF];simp
  have ha:F 1100=some (nV s):=by rw[<-hF];simp
  have hk:=λq=>afc (k:=q) (t:=t) hb ha (by omega);by_cases aN:abv x s (k,t)
  ·obtain⟨⟨mr,hk4⟩,tE⟩:=id aN;simp only at mr hk4 tE;have gh:zA x (l.take (i+1))=some (cj x s k.toNat t.toNat):=by rw[gh];unfold N9;simp only;rw[cM aN]
   have vr:k=1\/k=2\/k=3\/k=4:=by omega
   have asF:=K7 hx (k:=k.toNat) (by omega) nN tE;obtain⟨s',LQ⟩:=aY (cj x s k.toNat t.toNat);rw[LQ]at gh asF;refine aa.xj aq fw [(2,.v (.box [.sl (bd x.ah),.sl (au x.insert),ti x.swap])),(6,.ptr 1060 0),(12,.v (.sl (ca l))),(13,.v (ti l.length)),(14,.v (ti i)),(36,.v (.bool false))] (cR [(1060,eI x s'.dC s'.aA 1100 s'.out.length),(1100,nV s'),(1060,eI x s.dC s.aA 1100 s.out.length),(1100,nV s)]) ?_ ?_
   ·have vu:b8 (b8 F 1100 (nV s')) 1060 (eI x s'.dC s'.aA 1100 s'.out.length)=cR [(1060,eI x s'.dC s'.aA 1100 s'.out.length),(1100,nV s'),(1060,eI x s.dC s.aA 1100 s.out.length),(1100,nV s)]:=by rw[<-hF];rfl
    rw[hF];rcases vr with rfl|rfl|rfl|rfl
    ·have yz:cj x s 1 t.toNat=s':=LQ;have bN:ot x s.dC 1 t:=tE;simp[lU,hk,yz,iO,hx,bN,vu]
    ·have yz:cj x s 2 t.toNat=s':=LQ;have bN:ot x s.dC 2 t:=tE;simp[lU,hk,yz,iO,hx,bN,vu]
    ·have yz:cj x s 3 t.toNat=s':=LQ;have bN:ot x s.dC 3 t:=tE;simp[lU,hk,yz,iO,hx,bN,vu]
    ·have yz:cj x s 4 t.toNat=s':=LQ;have bN:ot x s.dC 4 t:=tE;simp[lU,hk,yz,iO,hx,bN,vu]
   refine aa.cond rfl (λaS=>by cases aS) (λaS=>?_);apply aa.skip;simp;apply aa.cZ aq fw [2,6,12,13,14];simp[Ug];rw[av (by omega)];refine⟨⟨i+1,s'⟩,Le.aL ?_ ?_ ?_ ?_,⟨by simp only;omega,gh,asF⟩,by simp only;omega⟩
   ·simp
   ·simp
   ·simp[eI,nV]
   ·simp[eI]
  ·have gh:zA x (l.take (i+1))=none:=by rw[gh];unfold N9;simp only;rw[bX aN]
   have hRn: .dh [.tf (Go.Value.pointer Option.none),ti 1]=R:=by rw[<-hR];exact(vn (by unfold ta;rw[Tc gh])).symm
   refine aa.xj aq fw [(36,.v (.bool true))] (cR [(1060,eI x s.dC s.aA 1100 s.out.length),(1100,nV s)]) ?_ ?_
   ·rw[hF];by_cases q1:k<1
    ·simp[lU,q1]
    ·by_cases q2:4<k
     ·simp[lU,q1,q2]
     ·have Rv:¬ot x s.dC k.toNat t:=λh=>aN ⟨⟨by simp only;omega,by simp only;omega⟩,h⟩;have vr:k=1\/k=2\/k=3\/k=4:=by omega
      rcases vr with rfl|rfl|rfl|rfl
      ·have bN:¬ot x s.dC 1 t:=Rv;simp[lU,hk,iO,hx,bN]
      ·have bN:¬ot x s.dC 2 t:=Rv;simp[lU,hk,iO,hx,bN]
      ·have bN:¬ot x s.dC 3 t:=Rv;simp[lU,hk,iO,hx,bN]
      ·have bN:¬ot x s.dC 4 t:=Rv;simp[lU,hk,iO,hx,bN]
   refine aa.cond rfl (λaS=>?_) (λaS=>by cases aS);apply aa.ai aq fw [4,5];simp[ai7];apply aa.ret;simp[xk,hRn]
 ·simp at aS;have sW:i=l.length:=by omega
  subst sW;rw[TZ]at bO;apply aa.exit;simp;apply aa.seq;by_cases fN:s.dC=x.ah.length
  ·have hRs:=zM (x:=x) (l:=l) (s:=s) (by unfold ta;rw[bO];simp only;rw[cM fN]);rw[hR]at hRs;subst hRs;refine aa.bL aq fw [(6,.ptr 1060 0),(45,.v (.bool false))] ?_ ?_
   ·simp[LR,eI,fN]
   refine aa.cond rfl (λaS=>by cases aS) (λaS=>?_);apply aa.skip;simp;apply aa.ai aq fw [4,5];simp[OH];refine aa.le (Le.aL (o:=[(1060,.box [.v (.sl (bd x.ah)),.v (.sl (au x.insert)),.v (ti x.swap),.v (ti s.dC),.v (.sl (au s.out)),.v (ti s.aA)])]) (l:=[(4,.ptr 1060 0),(5,.v (ti 0))]) (bn:=3000) ?_ ?_ ?_ ?_) ?_
   ·simp
   ·simp
   ·simp[eI,nV]
   ·simp[eI]
   refine aa.lk (o:=[]) (l:=[(4,.v (.box [.sl (bd x.ah),.sl (au x.insert),ti x.swap,ti s.dC,.sl (au s.out),ti s.aA])),(5,.v (ti 0))]) (bn:=4000) (by simp) ?_;apply aa.ret;simp[xk]
  ·have hRn: .dh [.tf (Go.Value.pointer Option.none),ti 1]=R:=by rw[<-hR];exact(vn (by unfold ta;rw[bO];simp only;rw[bX fN])).symm
   have asG:¬(s.dC:Int)=x.ah.length:=by omega
   refine aa.bL aq fw [(45,.v (.bool true))] ?_ ?_
   ·simp[LR,eI,asG]
   refine aa.cond rfl (λaS=>?_) (λaS=>by cases aS);apply aa.ai aq fw [4,5];simp[ai8];apply aa.ret;simp[xk,hRn]
noncomputable def Ok(x:Input)(l:List (Int×Int)):T:=match ta x l with
 |some s=>.dh [.sl (au s.out),ti 0]
 |none=>.dh [.sl [],ti 1]
noncomputable def Td(x:Input)(l:List (Int×Int)):T:=match ta x l with
 |some s=>.dh [ti s.aA,ti 0]
 |none=>.dh [ti 0,ti 1]
def asH(x:Input)(l:List (Int×Int))(hx:Zr x)(ct:l.length<=4200000):aJ ap 49 [x.enc,.sl (ca l)] (Ok x l):=by
 have k80:=afd x l hx ct;obtain⟨R,hR⟩:=aY (K8 x l);rw[hR]at k80;obtain⟨A,hA⟩:=aY (Ok x l);rw[hA];have aq:aw ap (bz [(103,bp (λts=>ts=[x.enc,.sl (ca l)]) (λ_=>R) false)]):=by
  refine aw.cons aw.nil ?_;rintro ts rfl;exact⟨k80,λh=>by cases h⟩
 refine alA.ok (by simp) (aH ?_);obtain⟨xt,tA⟩:=aY x.enc;have ov:T.agg [.sl (bd x.ah),.sl (au x.insert),ti x.swap]=xt:=tA;rw[tA]at aq;simp[Input.enc];apply aa.ai aq fw [1,2];simp[Uh];cases hg:ta x l with
 |some s=>
  have e1:=zM hg;rw[hR]at e1;subst e1;unfold Ok at hA;rw[hg]at hA;subst hA;apply aa.ai aq fw [6,7];simp[LS,ov];apply aa.sq aq fw [6,7,15];simp[LU];refine aa.cond rfl (λaS=>by cases aS) (λaS=>?_);apply aa.skip;simp;apply aa.ai aq fw [4,5];simp[Ui];apply aa.ret;simp[A7]
 |none=>
  have e1:=vn hg;rw[hR]at e1;subst e1;unfold Ok at hA;rw[hg]at hA;subst hA;apply aa.ai aq fw [6,7];simp[LS,ov];apply aa.sq aq fw [6,7,15];simp[LU];refine aa.cond rfl (λaS=>?_) (λaS=>by cases aS);apply aa.ai aq fw [4,5];simp[ai9];apply aa.ret;simp[A7]
def asI(x:Input)(l:List (Int×Int))(hx:Zr x)(ct:l.length<=4200000):aJ ap 50 [x.enc,.sl (ca l)] (Td x l):=by
 have k80:=afd x l hx ct;obtain⟨R,hR⟩:=aY (K8 x l);rw[hR]at k80;obtain⟨A,hA⟩:=aY (Td x l);rw[hA];have aq:aw ap (bz [(103,bp (λts=>ts=[x.enc,.sl (ca l)]) (λ_=>R) false)]):=by
  refine aw.cons aw.nil ?_;rintro ts rfl;exact⟨k80,λh=>by cases h⟩
 refine alB.ok (by simp) (aH ?_);obtain⟨xt,tA⟩:=aY x.enc;have ov:T.agg [.sl (bd x.ah),.sl (au x.insert),ti x.swap]=xt:=tA;rw[tA]at aq;simp[Input.enc];apply aa.ai aq fw [1,2];simp[Uj];cases hg:ta x l with
 |some s=>
  have e1:=zM hg;rw[hR]at e1;subst e1;unfold Td at hA;rw[hg]at hA;subst hA;apply aa.ai aq fw [6,7];simp[LV,ov];apply aa.sq aq fw [6,7,15];simp[LW];refine aa.cond rfl (λaS=>by cases aS) (λaS=>?_);apply aa.skip;simp;apply aa.ai aq fw [4,5];simp[Uk];apply aa.ret;simp[A8]
 |none=>
  have e1:=vn hg;rw[hR]at e1;subst e1;unfold Td at hA;rw[hg]at hA;subst hA;apply aa.ai aq fw [6,7];simp[LV,ov];apply aa.sq aq fw [6,7,15];simp[LW];refine aa.cond rfl (λaS=>?_) (λaS=>by cases aS);apply aa.ai aq fw [4,5];simp[aja];apply aa.ret;simp[A8]
open Classical in
noncomputable def upF(n:ay)(x:Input)(l:List (Int×Int))(d:Tr):Int×Bool:=match ta x l with
 |some s=>if eG n.aj n.start d=true/\s.out=dw n.aj d then(fF n.aj d+s.aA,true)else(0,false)
 |none=>(0,false)
def Zs{x:Input}(hx:Zr x):∀(l:List (Int×Int)) (s s':ES) (i:Nat),esG x s i->l.foldl (N9 x) (some s)=some s'->esG x s' (i+l.length)
 |[],s,s',i,h,e=>by
  have:s=s':=by injection e
  subst this;exact h
 |q::l,s,s',i,h,e=>by
  rw[zN]at e;by_cases aN:abv x s q
  ·have e1:N9 x (some s) q=some (cj x s q.1.toNat q.2.toNat):=by unfold N9;simp only;rw[cM aN]
   rw[e1]at e;have:=Zs hx l _ s' (i+1) (K7 hx (k:=q.1.toNat) (by have:=aN.1;omega) h aN.2) e;rw[Bd];rw[show i+(l.length+1)=i+1+l.length by omega];exact this
  ·have e1:N9 x (some s) q=none:=by unfold N9;simp only;rw[bX aN]
   rw[e1,F6]at e;cases e
def Zt{x:Input}{l:List (Int×Int)}{s:ES}(h:ta x l=some s):zA x l=some s/\s.dC=x.ah.length:=by
 unfold ta at h;split at h
 ·rename_i s' e;split at h
  ·rename_i e2
   injection h with h
   subst h;exact⟨e,e2⟩
  ·cases h
 ·cases h
def ar4(n:ay)(x:Input)(l:List (Int×Int))(d:Tr)(hx:Zr x)(ct:l.length<=4200000)(hz:d.sz<=4194304)(hr:∀r∈n.aj,0<=r.bi/\r.bi<=1000):
  aJ ap 75 [n.enc,x.enc,.sl (ca l),.agg d.enc] (.dh [ti (upF n x l d).1,.bool (upF n x l d).2]):=by
 have In:=asx n.aX n.ae n.start n.aj 4194304 d n.start hz hz;have k49:=asH x l hx ct;have k52:=asI x l hx ct;have Z8:=λh=>ae2 n.aX n.ae n.start n.aj 4194304 d hz hz ⟨n.start,h⟩;have k53:=λh=>asv n.aX n.ae n.start n.aj hr 4194304 d hz hz ⟨n.start,h⟩;obtain⟨v,hv⟩:=aY (eG n.aj n.start d);rw[hv]at In Z8 k53;have sZ:=qK n.aj d;have hpr:=nE hr d;obtain⟨U,hU⟩:=aY (upF n x l d);rw[hU];unfold upF at hU;rw[hv]at hU;obtain⟨y,hy⟩:=aY (dw n.aj d);obtain⟨pr,asJ⟩:=aY (fF n.aj d);rw[hy]at hU Z8 sZ;rw[asJ]at hU k53 hpr;obtain⟨A,hA⟩:=aY (Ok x l);obtain⟨B,hB⟩:=aY (Td x l);rw[hA]at k49;rw[hB]at k52;have aq:aw ap (bz [(16,bp (λts=>ts=[n.enc,ti n.start,.agg d.enc]) (λ_=>.bool v) true),(49,bp (λts=>ts=[x.enc,.sl (ca l)]) (λ_=>A) false),(48,bp (λts=>ts=[n.enc,.agg d.enc]/\v=true) (λ_=>.sl (au y)) false),(47,bp (λts=>∃a b,ts=[.sl (au a),.sl (au b)]/\a.length<=9223372036854775807) (fun|[.sl a,.sl b]=>.bool (decide (eM a=eM b))|_=>.bool false) true),(50,bp (λts=>ts=[x.enc,.sl (ca l)]) (λ_=>B) false),(51,bp (λts=>ts=[n.enc,.agg d.enc]/\v=true) (λ_=>ti pr) false)]):=by
  refine aw.cons (aw.cons (aw.cons (aw.cons (aw.cons (aw.cons aw.nil ?_) ?_) ?_) ?_) ?_) ?_
  ·rintro ts ⟨rfl,e⟩;exact⟨k53 e,λh=>by cases h⟩
  ·rintro ts rfl;exact⟨k52,λh=>by cases h⟩
  ·rintro ts ⟨a,b,rfl,h⟩;exact⟨by simpa using asy a b h,λ_=>rfl⟩
  ·rintro ts ⟨rfl,e⟩;exact⟨Z8 e,λh=>by cases h⟩
  ·rintro ts rfl;exact⟨k49,λh=>by cases h⟩
  ·rintro ts rfl;exact⟨In,λ_=>rfl⟩
 clear In k49 Z8 k52 k53 hy asJ hv;refine YI.ok (by simp) (aH ?_);have jc:=zy d;have nU:∀s,ta x l=some s->0<=s.aA/\s.aA<=1099511627776/\s.out.length<=8400000:=λs e=>by
  obtain⟨h1,_⟩:=Zt e;have:=Zs hx l ⟨0,[],0⟩ s 0 ⟨by simp,by simp,by simp,by simp⟩ h1;obtain⟨a1,a2,a3,a4⟩:=this;exact⟨a3,a4,by omega⟩
 obtain⟨xt,tA⟩:=aY x.enc;have ov:T.agg [.sl (bd x.ah),.sl (au x.insert),ti x.swap]=xt:=tA;obtain⟨nt,JH⟩:=aY n.enc;have dd:T.agg [ti n.aX,ti n.ae,ti n.start,.sl (aQ n.aj)]=nt:=JH;rw[tA,JH]at aq;obtain⟨m,ks⟩:=d;simp only[Tr.enc]at aq;simp[Input.enc,ay.enc,Tr.enc];apply aa.ai aq fw [2,4,5,7];simp[H2];refine aa.lk (o:=[]) (l:=[(2,.v (.sl (ca l))),(4,.v (.box [ti n.aX,ti n.ae,ti n.start,.sl (aQ n.aj)])),(5,.v (.box [.sl (bd x.ah),.sl (au x.insert),ti x.swap])),(7,.v (.box [ti m,.sl (dT ks)]))]) (bn:=1200) (by simp) ?_;apply aa.sq aq fw [2,4,5,7,18];simp[H3,dd];cases v with
 |false=>
  have hU:U=(0,false):=by
   rw[<-hU];cases ta x l with
   |none=>rfl
   |some s=>simp
  subst hU;apply aa.c1 rfl;apply aa.ai aq fw [8,9];simp[adh];apply aa.ret;simp[pk]
 |true=>
  apply aa.c0 rfl;apply aa.skip;simp;cases hg:ta x l with
  |none=>
   rw[hg]at hU;subst hU;unfold Ok at hA;rw[hg]at hA;subst hA;apply aa.ai aq fw [2,4,5,7,10,11];simp[Bz,ov];apply aa.sq aq fw [2,4,5,7,34];simp[ym];apply aa.c1 rfl;apply aa.ai aq fw [8,9];simp[H4];apply aa.ret;simp[pk]
  |some s=>
   have mZ:=nU s hg;rw[hg]at hU;unfold Ok at hA;rw[hg]at hA;subst hA;unfold Td at hB;rw[hg]at hB;subst hB;apply aa.ai aq fw [2,4,5,7,10,11];simp[Bz,ov];apply aa.seq;by_cases hey:s.out=y
   ·have hU:U=(pr+s.aA,true):=by rw[<-hU];simp[hey]
    subst hU;apply aa.ai aq fw [4,5,2,7,34];simp[ym,dd,hey];refine⟨by rw[<-hey];omega, ?_⟩;apply aa.c0 rfl;apply aa.skip;simp;apply aa.ai aq fw [4,7,11,12];simp[QM,ov];apply aa.sq aq fw [4,7,12,42];simp[QN];apply aa.c0 rfl;apply aa.skip;simp;apply aa.ai aq fw [8,9];simp[QO,dd,av (x:=pr+s.aA) (by omega)];apply aa.ret;simp[pk]
   ·have hU:U=(0,false):=by rw[<-hU];simp[hey]
    subst hU;apply aa.ai aq fw [2,4,5,7,34];simp[ym,dd,hey];refine⟨by omega, ?_⟩;apply aa.c1 rfl;apply aa.ai aq fw [8,9];simp[H4];apply aa.ret;simp[pk]
def Od(v:List VA):ba:=v.map (·.aA)
def KN(v:List VA)(t:Int):(Od v).getD t.toNat default=vd v t:=by
 unfold Od vd;by_cases h:t.toNat<v.length
 ·simp[List.getD,h]
 ·simp[List.getD,Nat.not_lt.1 h];rfl
def Zj(nt st:Int)(r:bC)(aK:List bF){f t k:Int}(ha:aK.length<=120)(hf:0<=f/\f<=t/\t<=10):(inst nt st r aK f t k).length<=120:=by
 unfold inst;split
 ·split<;>simp
 split
 ·have:=eE (λi=>if(aK.getD i default).f=f/\(aK.getD i default).t=t/\(aK.getD i default).term=r.a then [dc nt st r f t k (r.bi+(aK.getD i default).aA) i []]else []) 1 (List.range aK.length) λi _=>by split<;>simp
  simp only[A1]at this;omega
 split
 ·simp
 split
 ·simp only[Rd,A1];omega
 ·simp
def mW{n:ay}{l:aF}(hp:dS n l):(cD n l).length<=1000000:=by
 have iO:=hp.st;have hnr:=hp.nr;have hna:=hp.na;have hnf:=hp.AW;have h1:∀f t:Int,0<=f/\f<=t/\t<=10->(nZ n.ae l.am n.aj l.aK f t).length<=2880:=by
  intro f t hf;unfold nZ;rw[gO];have:=eE (λk=>inst n.ae l.am (n.aj.getD k default) l.aK f t k) 120 (List.range n.aj.length) λi _=>Zj _ _ _ _ hna hf;simp only[A1]at this;unfold iR;omega
 have h2:∀f:Nat,(mf n.ae l.am n.aj l.aK f l.am.toNat).length<=31680:=by
  intro f;have:=eE (λt:Nat=>nZ n.ae l.am n.aj l.aK f t) 2880 ((List.range l.am.toNat).drop f) λi hi=>h1 _ _ (by
   rw[Ek]at hi;obtain⟨j,hj,rfl⟩:=hi;simp only[GA,A1]at hj;rw[TT,LA];omega)
  simp only[GA,A1]at this;unfold mf;have:(l.am.toNat-f)*2880<=11*2880:=Gy _ (by omega);omega
 have h3:=eE (λf=>mf n.ae l.am n.aj l.aK f l.am.toNat) 31680 (List.range l.am.toNat) λi _=>h2 i;simp only[A1]at h3;have h4:l.am.toNat*31680<=11*31680:=Gy _ (by omega);have h5:=eE (vC n.ae l.am n.start l.bj) 1 (List.range l.bj.length) λi _=>by unfold vC;split<;>simp
 simp only[A1]at h5;unfold cD;rw[qe];unfold qF s7;omega
def aj9{x:T}(h:(Ty.int .i64).arg x):∃n:Int,x=ti n/\-9223372036854775808<=n/\n<=9223372036854775807:=by
 unfold Ty.arg Ty.CD at h;obtain⟨m,hx,hw⟩:=h;simp only[OQ,Gr]at hx;subst hx;simp only[Lit.wf,jv,j2]at hw;have e1:IntKind.i64.min= -9223372036854775808:=by decide
 have e2:IntKind.i64.max=9223372036854775807:=by decide
 rw[e1,e2]at hw;exact⟨m,rfl,hw⟩
def abV{x:Input}(h:JI x):Zr x:=by
 obtain⟨⟨hd,mZ,HG,NH,Xj,pB⟩,g2,g3,g4⟩:=pb h;have hx:=HY h;refine⟨λc hc p hp=>(mZ c hc).2 p hp,hx.Ep,λt=>⟨hx.dm t, ?_⟩,⟨Xj,pB⟩,by omega⟩;unfold f7;by_cases ht:t<x.insert.length
 ·exact(NH (x.insert.getD t default) (by simp[List.getD,ht])).2
 ·rw[List.getD,L7 (by omega)];decide
def ar5(n:ay)(x:Input)(b:Int)(L:List mm)(d:Tr)(ops:List (Int×Int))(u1:Int)(u2 w:Bool)(h24:aJ ap 75 [n.enc,x.enc,.sl (ca ops),.agg d.enc] (.dh [ti u1,.bool u2]))(h10:aJ ap 76 [n.enc,x.enc,ti b,.sl (im L)] (.bool w)):
  aJ ap 35 [n.enc,x.enc,.agg ([ti b,.sl (ca ops)]++d.enc++[.sl (im L)])] (.bool (u2&&(decide (u1=b)&&w))):=by
 have aq:aw ap (bz [(75,bp (λts=>ts=[n.enc,x.enc,.sl (ca ops),.agg d.enc]) (λ_=>.dh [ti u1,.bool u2]) false),(76,bp (λts=>ts=[n.enc,x.enc,ti b,.sl (im L)]) (λ_=>.bool w) true)]):=by
  refine aw.cons (aw.cons aw.nil ?_) ?_
  ·rintro ts rfl;exact⟨h10,λ_=>rfl⟩
  ·rintro ts rfl;exact⟨h24,λh=>by cases h⟩
 clear h24 h10;obtain⟨R,hR⟩:=aY ((u2&&(decide (u1=b)&&w)));rw[hR];obtain⟨nt,nn,ns,aj⟩:=n;obtain⟨cs,dm,sw⟩:=x;obtain⟨m,ks⟩:=d;simp only[ay.enc,Input.enc,Tr.enc]at aq;refine afa.ok (by simp) (aH ?_);simp[ay.enc,Input.enc,Tr.enc];apply aa.ai aq fw [3,4,5];simp[QP];refine aa.lk (o:=[]) (l:=[(3,.v (.box [ti nt,ti nn,ti ns,.sl (aQ aj)])),(4,.v (.box [.sl (bd cs),.sl (au dm),ti sw])),(5,.v (.box [ti b,.sl (ca ops),ti m,.sl (dT ks),.sl (im L)]))]) (bn:=1200) (by simp) ?_;apply aa.ai aq fw [3,4,5,7,8];simp[QQ];refine aa.bL aq fw [(6,.v (.bool R))] ?_ ?_
 ·cases u2 with
  |false=>simp[BA,<-hR]
  |true=>
   by_cases q:u1=b
   ·simp[BA,<-hR,q]
   ·simp[BA,<-hR,q]
 apply aa.ret;simp[dI]
def P4(x:Input)(y:ba):∀f i j,(Ip x y f i j).length<=f
 |0,_,_=>by simp[Ip]
 |f+1,i,j=>by
  unfold Ip;split
  ·simp
  ·split
   ·rename_i s _;have:=P4 x y f (i+s.a.toNat) (j+s.e.toNat);simp only[Bd];omega
   ·simp
def HX{y:ba}{j:Nat}(h:j<y.length):y.drop j=kI y j::y.drop (j+1):=by
 rw[Zca h];simp[kI,List.getD,h]
def ajO{x:Input}{s s':ES}{k:Nat}{t:Int}(hk:k=1\/k=2\/k=3\/k=4)(hc:ot x s.dC k t)(hs:cj x s k t.toNat=s'):N9 x (some s) ((k:Int),t)=some s':=by
 have aN:abv x s ((k:Int),t):=⟨by simp only;omega,by simpa using hc⟩;unfold N9;simp only;rw[cM aN,gJ,hs]
def P5{x:Input}{y:ba}(hx:pu x y):∀(f i j:Nat),i<=x.ah.length->j<=y.length->(x.ah.length-i)+(y.length-j)<f->∀s:ES,s.dC=i->0<=s.aA->s.aA+ed x y i j<dV->
  (Ip x y f i j).foldl (N9 x) (some s)=some ⟨x.ah.length,s.out++y.drop j,s.aA+ed x y i j⟩
 |0,i,j,_,_,h,_,_,_,_=>by omega
 |f+1,i,j,hi,hj,hf,s,PW,h0,hc=>by
  have hI:dV=1099511627776:=rfl;by_cases h:i=x.ah.length/\j=y.length
  ·obtain⟨rfl,rfl⟩:=h;rw[P6,TP x y hx.nn];obtain⟨a,o,c⟩:=s;simp only at PW;subst PW;simp
  ·have hed:ed x y i j<dV:=by omega
   obtain⟨q,hq⟩:=KK hx h hed;obtain⟨hm,a,e,ha,he,h1,h2,h3,h4,h5⟩:=Ye hx hi hj hed hq;rw[KL h hq,ha,he,gJ,gJ,zN];have key:∀(k:Nat) (t:Int) (o:ba),q.k=k->q.t=t->(k=1\/k=2\/k=3\/k=4)->ot x s.dC k t->cj x s k t.toNat=⟨i+a,s.out++o,min (s.aA+q.c) dV⟩->o++y.drop (j+e)=y.drop j->
     (Ip x y f (i+a) (j+e)).foldl (N9 x) (N9 x (some s) (q.k,q.t))=some ⟨x.ah.length,s.out++y.drop j,s.aA+ed x y i j⟩:=by
    intro k t o e1 e2 hk tE iO hd;have hb:=(hx.IG (i+a) (j+e)).1;rw[e1,e2,ajO hk tE iO,P5 hx f (i+a) (j+e) h1 h2 (by omega) _ rfl (by simp only;omega) (by simp only;omega)];simp only[cq,ES.mk.injEq,If];refine⟨by rw[ER,hd],by omega⟩
   unfold ff Ld Lf at hm;rw[mA,mA,mA]at hm;rcases hm with((hm|hm)|hm)|hm
   ·unfold Es at hm;split at hm
    ·rename_i hp;simp only[gN]at hm;subst hm;obtain⟨p1,p2,p3⟩:=hp;have ha:a=1:=by simp only at ha;omega
     have he:e=1:=by simp only at he;omega
     subst ha he;have hy:=hx.y j p2;have hcr:=(hx.rd (x.ah.getD i default) (by simp[List.getD,p1])).1;refine key 1 (kI y j) [kI y j] rfl rfl (.inl rfl) ?_ ?_ ?_
     ·rw[PW];exact⟨p1,hy.1,by rw[hcr];exact hy.2,p3⟩
     ·simp only[cj,jB,PW];rw[show(((kI y j).toNat:Nat):Int)=kI y j by omega]
     ·rw[HX p2];rfl
    ·simp at hm
   ·unfold A2 at hm;split at hm
    ·rename_i hp;simp only[gN]at hm;subst hm;have ha:a=1:=by simp only at ha;omega
     have he:e=0:=by simp only at he;omega
     subst ha he;refine key 2 0 [] rfl rfl (.inr (.inl rfl)) ?_ ?_ (by simp)
     ·rw[PW];exact⟨hp.1,rfl,hp.2⟩
     ·simp[cj,PW]
    ·simp at hm
   ·unfold LB at hm;split at hm
    ·rename_i hp;simp only[gN]at hm;subst hm;have ha:a=0:=by simp only at ha;omega
     have he:e=1:=by simp only at he;omega
     subst ha he;have hy:=hx.y j hp;refine key 3 (kI y j) [kI y j] rfl rfl (.inr (.inr (.inl rfl))) ?_ ?_ ?_
     ·rw[PW];exact hy
     ·simp only[cj,show ¬(3:Nat)=1 by omega,show ¬(3:Nat)=2 by omega,we,jB,PW];rw[show(((kI y j).toNat:Nat):Int)=kI y j by omega,Tz]
     ·rw[HX hp];rfl
    ·simp at hm
   ·unfold Rg at hm;split at hm
    ·rename_i hp;simp only[gN]at hm;subst hm;have ha:a=2:=by simp only at ha;omega
     have he:e=2:=by simp only at he;omega
     subst ha he;obtain⟨p1,p2,p3,p4⟩:=hp;refine key 4 0 [kI y j,kI y (j+1)] rfl rfl (.inr (.inr (.inr rfl))) ?_ ?_ ?_
     ·rw[PW];exact⟨rfl,p1⟩
     ·simp only[cj,show ¬(4:Nat)=1 by omega,show ¬(4:Nat)=2 by omega,show ¬(4:Nat)=3 by omega,we,PW];rw[p3,p4]
     ·rw[HX (j:=j) (by omega),HX (j:=j+1) (by omega)];rfl
    ·simp at hm
def abw{x:Input}{y:ba}(hx:pu x y)(hf:ed x y 0 0<dV):ta x (Ip x y (x.ah.length+y.length+1) 0 0)=some ⟨x.ah.length,y,ed x y 0 0⟩:=by
 have h:=P5 hx (x.ah.length+y.length+1) 0 0 (A0 _) (A0 _) (by omega) ⟨0,[],0⟩ rfl (AF _) (by simp only;omega);have h:zA x (Ip x y (x.ah.length+y.length+1) 0 0)=some ⟨x.ah.length,y,ed x y 0 0⟩:=by
  unfold zA;rw[h];simp
 unfold ta;rw[h];simp
end Go.Proofs.It
namespace Go.Proofs
open Go.DM Go.DM.iN
def avE{x:Input}{y:ba}(hx:pu x y):aw ap (bz [(166,bp (λts=>ts=[x.enc,.sl (au y)]) (λ_=>.bool true) true),(167,bp (λts=>ts=[x.enc,.sl (au y)]) (λ_=>.sl (vt x y)) false),(168,e56),(169,e72)]):=by
 refine aw.cons (aw.cons akZ ?_) ?_
 ·rintro ts rfl;exact⟨t44 x y hx,λh=>by cases h⟩
 ·rintro ts rfl;exact⟨t43 x y hx.below (by have:=hx.m;omega),λ_=>rfl⟩
def zF{x:Input}{y:ba}{i:Nat}(h:i<=x.ah.length):DM.rowAt (vt x y) i=[.sl (au (jq x y i 0))]:=by
 simp[DM.rowAt,vt,show i<x.ah.length+1 by omega]
def wT{x:Input}{y:ba}{i j:Nat}(h:j<=y.length):DM.rowAt (au (jq x y i 0)) j=[ti (ed x y i j)]:=by
 have:=bA (l:=jq x y i 0) (y:=j) (by rw[tz];omega);rw[BL h (A0 _)]at this;exact this
structure AM where
 (i j f:Nat)
 (O:List (Int×Int))
def ar3(x:Input)(y:ba)(hx:pu x y)(hf:ed x y 0 0<dV):
  aJ ap 120 [x.enc,.sl (au y)] (.dh [.sl (ca (Ip x y (x.ah.length+y.length+1) 0 0)),ti 0]):=by
 have aq:=avE hx;have hn:=hx.n;have hm:=hx.m;have hI:dV=1099511627776:=rfl;have hb:=hx.IG;refine It.ar8.ok (by simp) (aH ?_);simp[Input.enc];apply aa.ai aq fw [1,2];simp[It.ach];refine aa.lk (o:=[]) (l:=[(1,.v (.sl (au y))),(2,.v (.box [.sl (bd x.ah),.sl (au x.insert),ti x.swap]))]) (bn:=1200) (by simp) ?_;apply aa.sq aq fw [1,2,15];simp[It.aci,Input.enc];apply aa.c0 rfl;apply aa.skip;simp;apply aa.ai aq fw [1,2,6];simp[It.acj,Input.enc];have rt0:DM.rowAt (vt x y) (0:Int)=[.sl (au (jq x y 0 0))]:=zF (x:=x) (y:=y) (i:=0) (A0 _);have rr0:DM.rowAt (au (jq x y 0 0)) (0:Int)=[ti (ed x y 0 0)]:=wT (x:=x) (y:=y) (i:=0) (j:=0) (A0 _);have tl:=IK x y;have rl:∀i,(au (jq x y i 0)).length=y.length+1:=λi=>by simp[au,jq]
 apply aa.sq aq fw [1,2,6,24];simp[It.ack,rt0,rr0,tl,rl];refine aa.cond rfl (λh=>?_) (λ_=>?_)
 ·exfalso;simp at h;omega
 apply aa.skip;simp;apply aa.ai aq fw [1,2,6,7];simp[It.acl];refine aa.lk (o:=[]) (l:=[(1,.v (.sl (au y))),(2,.v (.box [.sl (bd x.ah),.sl (au x.insert),ti x.swap])),(6,.v (.sl (vt x y))),(7,.aZ)]) (bn:=1400) (by simp) ?_;refine aa.le (Le.j7 (k:=7) 86 (sz:=2) (by omega) (by simp)) ?_;rw[fb];apply aa.sq aq fw [1,2,6,7,8,9];simp[It.acm];apply aa.block;obtain⟨R,hR⟩:=aY (Ip x y (x.ah.length+y.length+1) 0 0);rw[hR];refine aa.loop (λq:AM=>⟨DM.look [(1,.v (.sl (au y))),(2,.v (.box [.sl (bd x.ah),.sl (au x.insert),ti x.swap])),(6,.v (.sl (vt x y))),(7,.aW 1400 0),(8,.v (ti q.i)),(9,.v (ti q.j))],cR [(1400,.bm 0 86 2 (ca q.O))],2000,1000,[]⟩)
  (λq=>(q.i<=x.ah.length/\q.j<=y.length)/\ed x y q.i q.j<dV/\((x.ah.length-q.i)+(y.length-q.j)<q.f/\q.O.length<=q.i+q.j)/\q.O++Ip x y q.f q.i q.j=R) (λq=>(x.ah.length-q.i)+(y.length-q.j)) ⟨0,0,x.ah.length+y.length+1,[]⟩ (Le.aL ?_ ?_ ?_ ?_) ⟨⟨by simp,by simp⟩,hf,⟨by simp,by simp⟩,by simpa using hR⟩ (λq hq=>?_)
 ·simp
 ·simp
 ·simp[ca]
 ·simp
 obtain⟨i,j,f,O⟩:=q;simp only at hq⊢;obtain⟨⟨hi,hj⟩,fN,⟨hfu,hO⟩,Tp⟩:=hq;apply aa.seq;obtain⟨b,z6⟩:=aY (decide (i<x.ah.length\/j<y.length):Bool);refine aa.bL aq fw [(1,.v (.sl (au y))),(2,.v (.box [.sl (bd x.ah),.sl (au x.insert),ti x.swap])),(6,.v (.sl (vt x y))),(7,.aW 1400 0),(8,.v (ti i)),(9,.v (ti j)),(35,.v (.bool b))] ?_ ?_
 ·by_cases h1:i<x.ah.length
  ·have:b=true:=by rw[<-z6];exact decide_eq_true (.inl h1)
   simp[It.HZ,h1,this]
  ·by_cases h2:j<y.length
   ·have:b=true:=by rw[<-z6];exact decide_eq_true (.inr h2)
    simp[It.HZ,h1,h2,this]
   ·have:b=false:=by rw[<-z6];exact decide_eq_false (by omega)
    simp[It.HZ,h1,h2,this]
 refine aa.cond rfl (λg=>?_) (λg=>?_)
 ·have g:b=true:=by simpa using g
  rw[g]at z6;have dd:¬(i=x.ah.length/\j=y.length):=by have:=qg z6;omega
  apply aa.skip;simp;obtain⟨s,hs⟩:=KK hx dd fN;obtain⟨u4,a,e,ha,he,hia,hje,Uv,Er,awm⟩:=Ye hx hi hj fN hs;have wX:(ff x y i j).length<=4:=BQ x y i j;apply aa.block;apply aa.ai aq fw [1,2,6,7,8,9,40,41,42];simp[It.acn,Input.enc];refine⟨⟨x,y,i,j,⟨⟨rfl,rfl,rfl⟩,rfl,rfl,rfl⟩,hx,hi,hj⟩, ?_⟩;rw[show(⟨x.ah,x.insert,x.swap⟩:Input)=x from rfl];obtain⟨L,hL⟩:=aY (ff x y i j);have M4:=λs (h:s∈L)=>Gl hx hi hj (s:=s) (by rw[hL];exact h);rw[hL]at hs u4 wX⊢;apply aa.block;refine aa.loop (λl:Nat=>⟨DM.look [(1,.v (.sl (au y))),(2,.v (.box [.sl (bd x.ah),.sl (au x.insert),ti x.swap])),(6,.v (.sl (vt x y))),(7,.aW 1400 0),(8,.v (ti i)),(9,.v (ti j)),(40,.v (.sl (dL L))),(41,.v (ti L.length)),(42,.v (ti l))],cR [(1400,.bm 0 86 2 (ca O))],2500,1000,[]⟩)
   (λl=>l<=L.length/\∀l',l'<l->uT x y i j (L.getD l' default)=false) (λl=>L.length-l) 0 (Le.aL ?_ ?_ ?_ ?_) ⟨A0 _,λl h=>eX h (Nat.not_lt_zero _)⟩ (λl hl=>?_)
  iterate 4(·simp)
  obtain⟨hl,ZU⟩:=hl;apply aa.ai aq fw [1,2,6,7,8,9,40,41,42,43];simp[It.Yv];apply aa.seq;refine aa.cond rfl (λaS=>?_) (λaS=>?_)
  ·have aS:l<L.length:=by simpa using aS
   apply aa.skip;simp;apply aa.seq;obtain⟨u,hu⟩:=aY (L.getD l default);have hum:u∈L:=by rw[<-hu,List.getD,mM aS];exact Lc aS
   have rs:DM.rowAt (dL L) l=[ti u.k,ti u.t,ti u.c,ti u.a,ti u.e]:=by
    rw[<-hu];simp[DM.rowAt,dL,aS,qk.enc]
   obtain⟨ua,ue,hua,hue,g1,g2,g3,g4,g5⟩:=M4 u hum;rw[hua,hue]at rs;apply aa.block;apply aa.ai aq fw [1,2,6,7,8,9,11,40,41,42];simp[It.Yw,aS,rs,show(dL L).length=L.length by simp[dL]];refine aa.lk (o:=[(1400,.bm 0 86 2 (ca O))]) (l:=[(1,.v (.sl (au y))),(2,.v (.box [.sl (bd x.ah),.sl (au x.insert),ti x.swap])),(6,.v (.sl (vt x y))),(7,.aW 1400 0),(8,.v (ti i)),(9,.v (ti j)),(11,.v (.box [ti u.k,ti u.t,ti u.c,ti ua,ti ue])),(40,.v (.sl (dL L))),(41,.v (ti L.length)),(42,.v (ti l))]) (bn:=3000) (by simp) ?_;have w1:IntKind.i64.wrap ((i:Int)+ua)=(i:Int)+ua:=av (by omega);have w2:IntKind.i64.wrap ((j:Int)+ue)=(j:Int)+ue:=av (by omega);have rt1:DM.rowAt (vt x y) ((i:Int)+ua)=[.sl (au (jq x y (i+ua) 0))]:=by exact_mod_cast zF (x:=x) (y:=y) (i:=i+ua) g1
   have rr1:DM.rowAt (au (jq x y (i+ua) 0)) ((j:Int)+ue)=[ti (ed x y (i+ua) (j+ue))]:=by exact_mod_cast wT (x:=x) (y:=y) (i:=i+ua) (j:=j+ue) g2
   have rt2:=zF (x:=x) (y:=y) (i:=i) hi;have rr2:=wT (x:=x) (y:=y) (i:=i) (j:=j) hj;have b1:=hb (i+ua) (j+ue);obtain⟨v,hv⟩:=aY (uT x y i j u);have nk:decide (min (u.c+ed x y (i+ua) (j+ue)) 1099511627776=ed x y i j)=v:=by
    rw[<-hv];unfold uT;rw[hua,hue,gJ,gJ]
   apply aa.ai aq fw [1,2,6,7,8,9,11,40,41,42,69];simp[It.Yx,w1,w2,rt1,rr1,rt2,rr2,tl,rl];refine⟨⟨by omega,by omega⟩,⟨by omega,by omega⟩,⟨_,_,⟨rfl,rfl⟩,⟨by omega,by omega⟩,by omega,by omega⟩,by omega,by omega, ?_⟩;have hv3:decide (min (u.c+ed x y (i+ua) (j+ue)) dV=ed x y i j)=v:=nk;rw[hv3];refine aa.cond rfl (λg=>?_) (λg=>?_)
   ·have g:v=true:=by simpa using g
    subst g;have ZN:L.find? (uT x y i j)=some u:=by
     refine Zda.2 ⟨hv,l,aS,by rw[<-hu,List.getD,mM aS];rfl,λq hq=>?_⟩;have:=ZU q hq;rw[List.getD,mM (by omega),Jf]at this;rw[this];rfl
    obtain rfl:s=u:=by rw[hs]at ZN;exact ZI ZN
    obtain rfl:a=ua:=by omega
    obtain rfl:e=ue:=by omega
    apply aa.ai aq fw [1,2,6,7,8,9,11];simp[It.Yy,di,cw];refine⟨⟨by omega,by omega⟩, ?_⟩;apply aa.ai aq fw [1,2,6,7,8,9];simp[It.Yz,w1,w2];apply aa.exit;simp;obtain⟨f,rfl⟩:∃f',f=f'+1:=⟨f-1,by omega⟩;have mE:=KL (f:=f) dd (by rw[hL];exact hs);rw[hua,hue,gJ,gJ]at mE;refine⟨⟨i+a,j+e,f,O++[(s.k,s.t)]⟩,Le.aL (o:=[(1400,.bm 0 86 2 (ca (O++[(s.k,s.t)])))]) ?_ ?_ ?_ ?_,⟨⟨by simp only;omega,by simp only;omega⟩,by simp only;omega,⟨by simp only;omega,by simp only[qe,Zc4];omega⟩, ?_⟩,by simp only;omega⟩
    ·simp
    ·simp
    ·simp[ca]
    ·simp
    ·simp only[ER,Ig,Em];rw[<-mE];exact Tp
   ·have g:v=false:=by simpa using g
    subst g;apply aa.skip;simp;apply aa.cZ aq fw [1,2,6,7,8,9,40,41,42];simp[It.YA];rw[av (x:=(l:Int)+1) (by omega)];refine⟨l+1,Le.aL (o:=[(1400,.bm 0 86 2 (ca O))]) ?_ ?_ ?_ ?_,⟨by omega,λq hq=>?_⟩,by omega⟩;iterate 4(·simp)
    ·by_cases e1:q=l
     ·subst e1;have:L.getD q default=u:=hu;simp only[List.getD]at this;rw[this,hv]
     ·have:=ZU q (by omega);simpa [List.getD]using this
  ·exfalso;have hll:l=L.length:=by simp at aS;omega
   subst hll;have h1:uT x y i j s=true:=Zc6 hs;obtain⟨q,hq,rfl⟩:=Ek.1 u4;have h2:=ZU q hq;rw[List.getD,mM hq,Jf,h1]at h2;cases h2
 ·have g:b=false:=by simpa using g
  rw[g]at z6;have he:=Br z6;obtain rfl:i=x.ah.length:=by omega
  obtain rfl:j=y.length:=by omega
  obtain⟨f,rfl⟩:∃f',f=f'+1:=⟨f-1,by omega⟩;rw[P6,AZ]at Tp;subst Tp;apply aa.exit;simp;apply aa.ai aq fw [4,5];simp[It.YB];apply aa.ret;simp[It.KX]
end Go.Proofs
namespace Go.Proofs.It
open Go.DM Go.DM.iN
def ED(c z:Int)(ops:List (Int×Int))(y:ba)(d:Tr):aG:=[ti c,ti z,.sl (ca ops),.sl (au y)]++d.enc
def arM(n:ay)(x:Input)(d:Tr)(c z:Int)(y:ba)(ops:List (Int×Int))(u:Int)(h1:aJ ap 48 [n.enc,.agg d.enc] (.sl (au y)))(h2:aJ ap 120 [x.enc,.sl (au y)] (.dh [.sl (ca ops),ti u])):
  aJ ap 71 [n.enc,x.enc,.agg d.enc,.agg [ti c,ti z]] (.agg (ED c z ops y d)):=by
 have aq:aw ap (bz [(48,bp (λts=>ts=[n.enc,.agg d.enc]) (λ_=>.sl (au y)) false),(120,bp (λts=>ts=[x.enc,.sl (au y)]) (λ_=>.dh [.sl (ca ops),ti u]) false)]):=by
  refine aw.cons (aw.cons aw.nil ?_) ?_
  ·rintro ts rfl;exact⟨h2,λh=>by cases h⟩
  ·rintro ts rfl;exact⟨h1,λh=>by cases h⟩
 obtain⟨dn,dk⟩:=d;obtain⟨nt,nn,ns,aj⟩:=n;obtain⟨xc,xi,xs⟩:=x;simp only[ay.enc,Input.enc,Tr.enc]at aq;refine arN.ok (by simp) (aH ?_);simp[ay.enc,Input.enc,Tr.enc];apply aa.ai aq fw [4,5,6,7,8];simp[abd];refine aa.lk (o:=[(1009,.box [.v (ti 0),.v (ti 0),.aZ,.aZ,.v (ti 0),.aZ])]) (l:=[(4,.v (.box [ti nt,ti nn,ti ns,.sl (aQ aj)])),(5,.v (.box [.sl (bd xc),.sl (au xi),ti xs])),(6,.v (.box [ti dn,.sl (dT dk)])),(7,.v (.box [ti c,ti z])),(8,.ptr 1009 0)]) (bn:=1200) (by simp) ?_;apply aa.ai aq fw [5,6,7,8,9];simp[abe];apply aa.ai aq fw [6,7,8,9,10];simp[abf];apply aa.ai aq fw [8];simp[abg];apply aa.ret;simp[KH,ED,Tr.enc]
def SY:aG:=[ti 0,ti 0,.sl [],.sl [],ti 0,.sl []]
def aeU(n:ay)(x:Input)(l:aF)(c:aT.bI)(v1 v2 st:Int)(h21:aJ ap 21 [x.enc] l.enc)(h93:aJ ap 93 [n.enc,l.enc,c.enc] (.dh [.agg [ti v1,ti v2],ti st]))(R:aG)(e:Int)
  (h:(1099511627776<=v1/\R=SY/\e=6)\/(¬1099511627776<=v1/\e=0/\∃d ops y,R=ED v1 v2 ops y d/\aJ ap 94 (kh n c n.start 0 st) (.agg d.enc)/\aJ ap 71 [n.enc,x.enc,.agg d.enc,.agg [ti v1,ti v2]] (.agg (ED v1 v2 ops y d)))):
  aJ ap 37 [n.enc,x.enc,c.enc] (.dh [.agg R,ti e]):=by
 have aq:aw ap (bz [(21,bp (λts=>ts=[x.enc]) (λ_=>l.enc) false),(93,bp (λts=>ts=[n.enc,l.enc,c.enc]) (λ_=>.dh [.agg [ti v1,ti v2],ti st]) true)]):=by
  refine aw.cons (aw.cons aw.nil ?_) ?_
  ·rintro ts rfl;exact⟨h93,λ_=>rfl⟩
  ·rintro ts rfl;exact⟨h21,λh=>by cases h⟩
 obtain⟨nt,nn,ns,aj⟩:=n;obtain⟨xc,xi,xs⟩:=x;obtain⟨cn,cs,cl⟩:=c;obtain⟨ls,la,lf⟩:=l;simp only[ay.enc,Input.enc,aT.bI.enc,aF.enc]at aq;refine arO.ok (by simp) (aH ?_);simp[ay.enc,Input.enc,aT.bI.enc];apply aa.ai aq fw [3,4,5,6,7];simp[abh];refine aa.lk (o:=[(1007,.box [.v (ti 0),.v (ti 0),.aZ,.aZ,.v (ti 0),.aZ])]) (l:=[(3,.v (.box [ti nt,ti nn,ti ns,.sl (aQ aj)])),(4,.v (.box [.sl (bd xc),.sl (au xi),ti xs])),(5,.v (.box [ti cn,ti cs,.sl (aT.bl cl)])),(6,.ptr 1007 0),(7,.v (ti 0))]) (bn:=1200) (by simp) ?_;apply aa.ai aq fw [3,4,5,6,8,9];simp[abi];refine aa.lk (o:=[(1007,.box [.v (ti 0),.v (ti 0),.aZ,.aZ,.v (ti 0),.aZ])]) (l:=[(3,.v (.box [ti nt,ti nn,ti ns,.sl (aQ aj)])),(4,.v (.box [.sl (bd xc),.sl (au xi),ti xs])),(5,.v (.box [ti cn,ti cs,.sl (aT.bl cl)])),(6,.ptr 1007 0),(8,.v (.box [ti v1,ti v2])),(9,.v (ti st))]) (bn:=1400) (by simp) ?_;apply aa.sq aq fw [3,4,5,6,8,9,20];simp[abj];rcases h with⟨h1,rfl,rfl⟩|⟨h1,rfl,d,ops,y,rfl,k1,k2⟩
 ·refine aa.cond rfl (λaS=>?_) (λaS=>by simp at aS;omega);apply aa.ai aq fw [6,7];simp[abk];apply aa.ret;simp[DR,SY]
 ·refine aa.cond rfl (λaS=>by simp at aS;omega) (λaS=>?_);apply aa.skip;simp;obtain⟨dn,dk⟩:=d;have XO:aw ap (bz [(94,bp (λts=>ts=kh ⟨nt,nn,ns,aj⟩ ⟨cn,cs,cl⟩ ns 0 st) (λ_=>.agg (Tr.mk dn dk).enc) false),(71,bp (λts=>ts=[(⟨nt,nn,ns,aj⟩:ay).enc,(⟨xc,xi,xs⟩:Input).enc,.agg (Tr.mk dn dk).enc,.agg [ti v1,ti v2]]) (λ_=>.agg (ED v1 v2 ops y (Tr.mk dn dk))) false)]):=by
   refine aw.cons (aw.cons aw.nil ?_) ?_
   ·rintro ts rfl;exact⟨k2,λh=>by cases h⟩
   ·rintro ts rfl;exact⟨k1,λh=>by cases h⟩
  simp only[kh,ay.enc,Input.enc,aT.bI.enc,Tr.enc,ED]at XO;apply aa.ai XO fw [6,7];simp[abl];apply aa.ret;simp[DR,ED,Tr.enc]
section
variable{nt st h:Int}
def ajK{C:ba}{s t:Int}{k:Nat}(hs:sm nt st)(hi:br nt st h s t)(hk:(k:Int)=bP st s t*nt+h):HW nt st C k=⟨h,s,t,C.getD k default⟩:=by
 have hl:=jG hs hi;obtain⟨h1,h2⟩:=jW (i:=(k:Int)) hs (by omega) (by omega);obtain⟨k1,k2,k3⟩:=tq h1 hi (by rw[<-h2,<-hk]);unfold HW;rw[k1,k2,k3]
def SZ{b:Int}{C:ba}{s t v:Int}{k:Nat}(hs:sm nt st)(hi:br nt st h s t)(hk:(k:Int)=bP st s t*nt+h)(hv:C.getD k default=v):
  iH nt st b C (k+1)=iH nt st b C k++if v<b then [⟨h,s,t,v⟩]else []:=by
 rw[pi,ajK hs hi hk,hv]
def zf{s t:Int}:bP st s (t+1)=bP st s t+1:=by unfold bP;omega
def XP{s:Nat}:bP st s st=bP st ((s:Int)+1) ((s:Int)+1):=by
 unfold bP;rw[show((s:Int)+1).toNat=s+1 by omega,gJ];simp only[pre];omega
def uv(c:aT.bI):ba:=c.cells.map (·.aA)
def DS(c:aT.bI)(k:Nat)(h:k<c.cells.length):(uv c).getD k default=(c.cells.getD k default).aA:=by simp[uv,List.getD,h]
def aeV(b:Int)(ops:List (Int×Int))(d:Tr)(L:List mm):aG:=[ti b,.sl (ca ops)]++d.enc++[.sl (im L)]
def aeW:aG:=[ti 0,.sl [],ti 0,.sl [],.sl []]
def arP(n:ay)(x:Input)(c:aT.bI)(u4:sm c.ae c.am)(h1n:1<=c.ae/\c.ae<=14)(iO:1<=c.am/\c.am<=13)(ct:(c.cells.length:Int)=b7 c.ae c.am)(c9:c.cells.length<=1000000)(b z:Int)(ops:List (Int×Int))(y:ba)(d:Tr)(G:Nat)(hG:(G:Int)=b7 c.ae c.am)
  (h37:aJ ap 37 [n.enc,x.enc,c.enc] (.dh [.agg (ED b z ops y d),ti 0])):
  aJ ap 32 [n.enc,x.enc,c.enc] (.dh [.agg (aeV b ops d (iH c.ae c.am b (uv c) G)),ti 0]):=by
 have aq:aw ap (bz [(37,bp (λts=>ts=[n.enc,x.enc,c.enc]) (λ_=>.dh [.agg (ED b z ops y d),ti 0]) false)]):=by
  refine aw.cons aw.nil ?_;rintro ts rfl;exact⟨h37,λh=>by cases h⟩
 have hcg:=DS c;obtain⟨C,hC⟩:=aY (uv c);rw[hC]at hcg⊢;obtain⟨dn,dk⟩:=d;obtain⟨nt,nn,ns,aj⟩:=n;obtain⟨xc,xi,xs⟩:=x;obtain⟨cn,cs,cl⟩:=c;simp only at u4 h1n iO ct c9 hG hcg⊢;simp only[ay.enc,Input.enc,aT.bI.enc,ED,Tr.enc]at aq;refine aeX.ok (by simp) (aH ?_);simp[ay.enc,Input.enc,aT.bI.enc];apply aa.ai aq fw [3,4,5,6,7];simp[PX];refine aa.lk (o:=[(1007,.box [.v (ti 0),.aZ,.v (ti 0),.aZ,.aZ])]) (l:=[(3,.v (.box [ti nt,ti nn,ti ns,.sl (aQ aj)])),(4,.v (.box [.sl (bd xc),.sl (au xi),ti xs])),(5,.v (.box [ti cn,ti cs,.sl (aT.bl cl)])),(6,.ptr 1007 0),(7,.v (ti 0))]) (bn:=1200) (by simp) ?_;apply aa.ai aq fw [5,6,8,9];simp[PY];refine aa.lk (o:=[(1007,.box [.v (ti 0),.aZ,.v (ti 0),.aZ,.aZ])]) (l:=[(5,.v (.box [ti cn,ti cs,.sl (aT.bl cl)])),(6,.ptr 1007 0),(8,.v (.box [ti b,ti z,.sl (ca ops),.sl (au y),ti dn,.sl (dT dk)])),(9,.v (ti 0))]) (bn:=1400) (by simp) ?_;apply aa.sq aq fw [5,6,8,9,24];simp[PZ];refine aa.cond rfl (λaS=>by simp at aS) (λaS=>?_);apply aa.skip;simp;apply aa.ai aq fw [5,6,8,10];simp[abm];refine aa.lk (o:=[(1007,.box [.v (ti 0),.aZ,.v (ti 0),.aZ,.aZ])]) (l:=[(5,.v (.box [ti cn,ti cs,.sl (aT.bl cl)])),(6,.ptr 1007 0),(8,.v (.box [ti b,ti z,.sl (ca ops),.sl (au y),ti dn,.sl (dT dk)])),(10,.aZ)]) (bn:=1600) (by simp) ?_;refine aa.le (Le.j7 (k:=10) 153 (sz:=4) (by omega) (by simp)) ?_;rw[fb];obtain⟨Nn,rfl⟩:=jE (show 0<=cn by omega);obtain⟨S,rfl⟩:=jE (show 0<=cs by omega);have hP0:iH Nn S b C 0=[]:=rfl;have XQ:=zz Nn S b C;apply aa.ai aq fw [5,6,8,10,11];simp[abn];apply aa.sq aq fw [5,6,8,10,11,28,29];simp[abo];apply aa.block;refine aa.loop (λq:Nat×Nat=>⟨DM.look [(5,.v (.box [ti Nn,ti S,.sl (aT.bl cl)])),(6,.ptr 1007 0),(8,.v (.box [ti b,ti z,.sl (ca ops),.sl (au y),ti dn,.sl (dT dk)])),(10,.aW 1600 0),(11,.v (ti q.2)),(28,.v (ti S)),(29,.v (ti q.1))],cR [(1007,.box [.v (ti 0),.aZ,.v (ti 0),.aZ,.aZ]),(1600,.bm 0 153 4 (im (iH Nn S b C q.2)))],2000,1000,[]⟩)
  (λq=>q.1<=S/\(q.2:Int)=bP S q.1 q.1*Nn) (λq=>S-q.1) (0,0) (Le.aL ?_ ?_ ?_ ?_) ⟨A0 _,by simp[bP,pre]⟩ (λq hq=>?_)
 ·simp
 ·simp
 ·simp[hP0,im]
 ·simp
 obtain⟨s,k⟩:=q;simp only at hq⊢;obtain⟨hs,hk⟩:=hq;apply aa.ai aq fw [5,6,8,10,11,28,29,30];simp[abp];apply aa.seq;refine aa.cond rfl (λaS=>?_) (λaS=>?_)
 ·have aS:s<S:=by simpa using aS
  apply aa.skip;simp;apply aa.seq;apply aa.block;apply aa.ai aq fw [5,6,8,10,11,12,28,29];simp[abq];apply aa.ai aq fw [5,6,8,10,11,12,13,28,29];simp[abr];apply aa.block;refine aa.loop (λq:Nat×Nat=>⟨DM.look [(5,.v (.box [ti Nn,ti S,.sl (aT.bl cl)])),(6,.ptr 1007 0),(8,.v (.box [ti b,ti z,.sl (ca ops),.sl (au y),ti dn,.sl (dT dk)])),(10,.aW 1600 0),(11,.v (ti q.2)),(12,.v (ti s)),(13,.v (ti q.1)),(28,.v (ti S)),(29,.v (ti s))],cR [(1007,.box [.v (ti 0),.aZ,.v (ti 0),.aZ,.aZ]),(1600,.bm 0 153 4 (im (iH Nn S b C q.2)))],2500,1000,[]⟩)
   (λq=>(s<=q.1/\q.1<=S)/\(q.2:Int)=bP S s q.1*Nn) (λq=>S-q.1) (s,k) (Le.aL ?_ ?_ ?_ ?_) ⟨⟨eT _,hs⟩,hk⟩ (λq hq=>?_)
  iterate 4(·simp)
  obtain⟨t,k2⟩:=q;simp only at hq⊢;obtain⟨⟨awk,xz⟩,sI⟩:=hq;apply aa.sq aq fw [5,6,8,10,11,12,13,28,29,36];simp[XR];refine aa.cond rfl (λabs=>?_) (λabs=>?_)
  ·have abs:t<S:=by simpa using abs
   apply aa.skip;simp;apply aa.seq;apply aa.block;apply aa.ai aq fw [5,6,8,10,11,12,13,28,29,40,41];simp[XS];apply aa.block;refine aa.loop (λq:Nat×Nat=>⟨DM.look [(5,.v (.box [ti Nn,ti S,.sl (aT.bl cl)])),(6,.ptr 1007 0),(8,.v (.box [ti b,ti z,.sl (ca ops),.sl (au y),ti dn,.sl (dT dk)])),(10,.aW 1600 0),(11,.v (ti q.2)),(12,.v (ti s)),(13,.v (ti t)),(28,.v (ti S)),(29,.v (ti s)),(40,.v (ti Nn)),(41,.v (ti q.1))],cR [(1007,.box [.v (ti 0),.aZ,.v (ti 0),.aZ,.aZ]),(1600,.bm 0 153 4 (im (iH Nn S b C q.2)))],3000,1000,[]⟩)
    (λq=>q.1<=Nn/\(q.2:Int)=bP S s t*Nn+q.1) (λq=>Nn-q.1) (0,k2) (Le.aL ?_ ?_ ?_ ?_) ⟨A0 _,by simpa using sI⟩ (λq hq=>?_)
   iterate 4(·simp)
   obtain⟨h,k3⟩:=q;simp only at hq⊢;obtain⟨hhn,hk3⟩:=hq;apply aa.ai aq fw [5,6,8,10,11,12,13,28,29,40,41,42];simp[XT];apply aa.seq;refine aa.cond rfl (λabt=>?_) (λabt=>?_)
   ·have abt:h<Nn:=by simpa using abt
    apply aa.skip;simp;have hi:br Nn S h s t:=by unfold br;omega
    have cQ:=jG u4 hi;have yE:k3<cl.length:=by omega
    have yg:=SZ (b:=b) u4 hi hk3 (C:=C) rfl;have sM:=hcg k3 yE;have rr:=aT.iQ yE;obtain⟨⟨v,v2,v3,v4⟩,XU⟩:=aY (cl.getD k3 default);rw[XU]at rr sM;rw[sM]at yg;simp only at yg;have hpk:=XQ k3;apply aa.seq;apply aa.block;apply aa.ai aq fw [5,6,8,10,11,12,13,14,28,29,40,41];simp[XV];refine aa.seq (aa.to ⟨DM.look [(5,.v (.box [ti Nn,ti S,.sl (aT.bl cl)])),(6,.ptr 1007 0),(8,.v (.box [ti b,ti z,.sl (ca ops),.sl (au y),ti dn,.sl (dT dk)])),(10,.aW 1600 0),(11,.v (ti k3)),(12,.v (ti s)),(13,.v (ti t)),(28,.v (ti S)),(29,.v (ti s)),(40,.v (ti Nn)),(41,.v (ti h))],cR [(1007,.box [.v (ti 0),.aZ,.v (ti 0),.aZ,.aZ]),(1600,.bm 0 153 4 (im (iH Nn S b C (k3+1))))],4000,1000,[]⟩ ?_ ?_)
    ·apply aa.ai aq fw [5,6,8,10,11,12,13,14,15,28,29,40,41];simp[XW,yE,rr,aT.Cell.enc];apply aa.ai aq fw [5,6,8,10,11,12,13,14,15,28,29,40,41,54];simp[XX];refine aa.cond rfl (λg=>?_) (λg=>?_)
     ·have g:=qg g;rw[cM g]at yg;apply aa.cZ aq fw [5,6,8,10,11,12,13,28,29,40,41];simp[XY,di,cw];refine⟨⟨by omega,by omega⟩,Le.aL ?_ ?_ ?_ ?_⟩
      ·simp
      ·simp
      ·simp[yg,im,mm.enc]
      ·simp
     ·have g:=Br g;rw[bX g,AZ]at yg;apply aa.skip;refine⟨rfl,Le.aL ?_ ?_ ?_ ?_⟩
      ·simp
      ·simp
      ·simp[yg]
      ·simp
    ·apply aa.cZ aq fw [5,6,8,10,11,12,13,28,29,40,41];simp[XZ];rw[av (x:=(k3:Int)+1) (by omega)];apply aa.cZ aq fw [5,6,8,10,11,12,13,28,29,40,41];simp[X0];rw[av (x:=(h:Int)+1) (by omega)];refine⟨h+1,k3+1,Le.aL ?_ ?_ ?_ ?_,⟨by omega,by omega⟩,by omega⟩;iterate 3(·simp)
     ·simp
   ·have hhh:h=Nn:=by simp at abt;omega
    subst hhh;apply aa.exit;simp;apply aa.cZ aq fw [5,6,8,10,11,12,13,28,29];simp[Ya];rw[av (x:=(t:Int)+1) (by omega)];refine⟨t+1,k3,Le.aL ?_ ?_ ?_ ?_,⟨⟨by omega,by omega⟩, ?_⟩,by omega⟩;iterate 4(·simp)
    ·rw[hk3,show(((t+1:Nat):Int))=(t:Int)+1 by omega,zf,ZcW,Int.one_mul]
  ·have UF:t=S:=by simp at abs;omega
   subst UF;apply aa.exit;simp;apply aa.cZ aq fw [5,6,8,10,11,28,29];simp[Yb];rw[av (x:=(s:Int)+1) (by omega)];refine⟨s+1,k2,Le.aL ?_ ?_ ?_ ?_,⟨by omega, ?_⟩,by omega⟩;iterate 4(·simp)
   ·rw[sI,XP];simp
 ·have hss:s=S:=by simp at aS;omega
  subst hss;apply aa.exit;simp;have hkG:k=G:=by
   have:=u5 (nt:=(Nn:Int)) (st:=(s:Int)) (by omega);unfold bP at hk;rw[show pre (s:Int) (s:Int).toNat+(s:Int)-s=pre (s:Int) (s:Int).toNat by omega]at hk;omega
  subst hkG;apply aa.ai aq fw [6,7];simp[Yc];apply aa.ret;simp[DT,aeV,Tr.enc]
def ajL(n:ay)(x:Input)(c:aT.bI)(e:Int)(he:e≠0)(h37:aJ ap 37 [n.enc,x.enc,c.enc] (.dh [.agg SY,ti e])):aJ ap 32 [n.enc,x.enc,c.enc] (.dh [.agg aeW,ti e]):=by
 have aq:aw ap (bz [(37,bp (λts=>ts=[n.enc,x.enc,c.enc]) (λ_=>.dh [.agg SY,ti e]) false)]):=by
  refine aw.cons aw.nil ?_;rintro ts rfl;exact⟨h37,λh=>by cases h⟩
 obtain⟨nt,nn,ns,aj⟩:=n;obtain⟨xc,xi,xs⟩:=x;obtain⟨cn,cs,cl⟩:=c;simp only[ay.enc,Input.enc,aT.bI.enc,SY]at aq;refine aeX.ok (by simp) (aH ?_);simp[ay.enc,Input.enc,aT.bI.enc];apply aa.ai aq fw [3,4,5,6,7];simp[PX];refine aa.lk (o:=[(1007,.box [.v (ti 0),.aZ,.v (ti 0),.aZ,.aZ])]) (l:=[(3,.v (.box [ti nt,ti nn,ti ns,.sl (aQ aj)])),(4,.v (.box [.sl (bd xc),.sl (au xi),ti xs])),(5,.v (.box [ti cn,ti cs,.sl (aT.bl cl)])),(6,.ptr 1007 0),(7,.v (ti 0))]) (bn:=1200) (by simp) ?_;apply aa.ai aq fw [6,9];simp[PY];apply aa.sq aq fw [6,9,24];simp[PZ];refine aa.cond rfl (λaS=>?_) (λaS=>by simp at aS;exact eX aS he);apply aa.ai aq fw [6,7];simp[abu];apply aa.ret;simp[DT,aeW]
end
def ajQ{x:Input}(h:JI x){y:ba}(hl:y.length<=4194304)(hy:∀a∈y,0<=a/\a<x.insert.length):pu x y:=by
 obtain⟨⟨hd,mZ,HG,NH,Xj,pB⟩,g2,g3,g4⟩:=pb h;have hc:=JJ h;have hx:=HY h;refine⟨g2,hl,λj hj=>?_,λc Ef=>⟨g4 c Ef,λp hp=>?_⟩,λi=>⟨hx.Ep i, ?_⟩,λt=>⟨hx.dm t, ?_⟩,Xj,pB⟩
 ·exact hy _ (bu hj)
 ·exact(mZ c Ef).2 p hp
 ·unfold eL;by_cases hi:i<x.ah.length
  ·exact(hd.2 (x.ah.getD i default) (by simp[List.getD,hi])).2
  ·rw[List.getD,L7 (by omega)];decide
 ·unfold f7;by_cases ht:t<x.insert.length
  ·exact(NH (x.insert.getD t default) (by simp[List.getD,ht])).2
  ·rw[List.getD,L7 (by omega)];decide
end Go.Proofs.It
