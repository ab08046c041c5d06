/- Part. Conditions: none. -/
import Derived.Test.YtbmaafemenldnaaGreatDoorXag
set_option linter.all false
set_option maxRecDepth 100000
set_option maxHeartbeats 8000000
namespace Go.Proofs
namespace aT
open Go.DM
section
variable{r:bC}{own:List Cell}{h:Int}{s' t':Nat}
def cP{n:ay}(hn:qf n){k:Nat}(h:n.aj[k]? =some r):me n r/\k<n.aj.length/\n.aj.getD k default=r:=by
 have hk:=(BN.1 h).1;exact⟨hn.2.2.2 r (Et h),hk,by simp[List.getD,h]⟩
def Sk{n:ay}(h:me n r):r.kind=1\/r.kind=2\/r.kind=3\/r.kind=4:=by
 obtain⟨_,_,_,_,h⟩:=h;omega
section
variable{n:ay}{l:aF}{c:bI}{s t:Nat}
structure AU(n:ay)(l:aF)(c:bI)(s t:Nat):Prop where
 hn:qf n
 hl:wB l
 hc:JT c
 ar:∀a∈l.aK,a.f<=a.t
 st:s<=t
 tm:t<=1000
 inn:∀(h:Int) (s' t':Nat),0<=h->h<n.ae->s<=s'->s'<=t'->t'<=t->(s'≠s\/t'≠t)->Good n l h s' t' (gp c h s' t')
def PS(n:ay)(l:aF)(c:bI)(s t:Nat)(own:List Cell):Prop:=
 ∀h:Nat,h<own.length->own.getD h default=mc\/(Tq n l h s t (own.getD h default).val/\
  ∃(k:Nat) (g:Int) (v:cX),sO n l c own s t k g v/\(∃r,n.aj[k]? =some r/\r.head=h)/\(own.getD h default).lb=k/\(own.getD h default).arg=g/\¬(own.getD h default).val.lt v)
def iG(C:AU n l c s t)(ho:nC n own)(h0:0<=h)(h1:h<n.ae)(f t':Int):mG (dv c own s t h f t'):=
 qB ⟨C.hc,by have:=ho.1;have:=C.hn.2.1;omega,λ_=>⟨h0,by have:=ho.1;omega⟩⟩ ho.ok.2
def zb(C:AU n l c s t)(ho:nC n own)(hp:PS n l c s t own)(h0:0<=h)(h1:h<n.ae)(a1:s<=s')(a2:s'<=t')(a3:t'<=t)
  (hf:(dv c own s t h s' t').aA<1099511627776):Tq n l h s' t' (dv c own s t h s' t'):=by
 obtain⟨h,rfl⟩:=jE h0;unfold dv at hf⊢;split
 ·rename_i e;rw[cM e]at hf;have e1:s'=s:=by omega
  have e2:t'=t:=by omega
  subst e1 e2;simp only[gJ]at hf⊢;rcases hp h (by have:=ho.1;omega)with e|⟨d,_⟩
  ·rw[e]at hf;exact eX hf (by decide)
  ·exact d
 ·rename_i e;rw[bX e]at hf;rcases(C.inn h s' t' h0 h1 a1 a2 a3 (by omega)).top with e|⟨⟨k,_,d⟩,_⟩
  ·rw[e]at hf;exact eX hf (by decide)
  ·exact⟨k,_,d⟩
def JU(C:AU n l c s t)(ho:nC n own)(hp:PS n l c s t own){k:Nat}{g:Int}{v:cX}(hk:n.aj[k]? =some r)(h:sO n l c own s t k g v)(hf:v.aA<1099511627776):gC n l r.head s t k g v:=by
 obtain⟨r',wi,h⟩:=h;rw[hk]at wi;cases wi;obtain⟨q1,q2,q3,q4,q5⟩:=(cP C.hn hk).1;rcases h with⟨h1,rfl,rfl,rfl⟩|⟨h1,a,x,ha,h2,h3,h4,rfl,rfl⟩|⟨h1,rfl,rfl⟩|⟨h1,d,hd,rfl,rfl⟩
 ·exact gC.empty hk h1 hf
 ·exact gC.term hk h1 ha h2 h3 h4 hf
 ·obtain⟨k1,g1,d1⟩:=zb C ho hp (h:=r.a) (by omega) (by omega) (eT s) C.st (eT t) (Si q3 hf);exact gC.unary hk h1 d1 hf
 ·have o1:=iG C ho (h:=r.a) (by omega) (by omega) s (s+d);have o2:=iG C ho (h:=r.b) (by omega) (by omega) (s+d) t;have hff:=Sj q3 o1.1 o2.1 hf;have e:((s:Int)+d)=((s+d:Nat):Int):=by omega
  rw[e]at hf hff⊢;obtain⟨k1,g1,d1⟩:=zb C ho hp (h:=r.a) (by omega) (by omega) (eT s) (by omega) hd hff.1;obtain⟨k2,g2,d2⟩:=zb C ho hp (h:=r.b) (by omega) (by omega) (by omega) hd (eT t) hff.2;exact gC.fW hk h1 (by omega) hd d1 d2 hf
def FC(C:AU n l c s t){agI:List Cell}(ho:nC n own)(j5:nC n agI)(hm:∀(h f t':Int),0<=h->h<n.ae->¬(dv c own s t h f t').lt (dv c agI s t h f t')){k:Nat}{g:Int}{v:cX}(h:sO n l c own s t k g v):
  ∃v',sO n l c agI s t k g v'/\¬v.lt v':=by
 obtain⟨r,hk,h⟩:=h;obtain⟨q1,q2,q3,q4,q5⟩:=(cP C.hn hk).1;rcases h with⟨h1,rfl,rfl,rfl⟩|⟨h1,a,x,ha,h2,h3,h4,rfl,rfl⟩|⟨h1,rfl,rfl⟩|⟨h1,d,hd,rfl,rfl⟩
 ·exact⟨_,⟨r,hk,.inl ⟨h1,rfl,rfl,rfl⟩⟩,by unfold cX.lt;omega⟩
 ·exact⟨_,⟨r,hk,.inr (.inl ⟨h1,a,x,ha,h2,h3,h4,rfl,rfl⟩)⟩,by unfold cX.lt;omega⟩
 ·exact⟨_,⟨r,hk,.inr (.inr (.inl ⟨h1,rfl,rfl⟩))⟩,mT (hm _ _ _ (by omega) (by omega))⟩
 ·refine⟨_,⟨r,hk,.inr (.inr (.inr ⟨h1,d,hd,rfl,rfl⟩))⟩,pd ?_ ?_ ?_ ?_ (hm _ _ _ (by omega) (by omega)) (hm _ _ _ (by omega) (by omega))⟩
  ·exact(iG C ho (by omega) (by omega) _ _).1
  ·exact(iG C j5 (by omega) (by omega) _ _).1
  ·exact(iG C ho (by omega) (by omega) _ _).1
  ·exact(iG C j5 (by omega) (by omega) _ _).1
def JV{i h:Nat}{y:Cell}(hi:i<own.length):(own.set i y).getD h default=if h=i then y else own.getD h default:=by
 simp only[List.getD,ZbM];by_cases e:i=h
 ·subst e;simp[hi]
 ·have e':¬h=i:=λx=>e x.symm;simp[e,e']
def aaM(C:AU n l c s t){k:Nat}(ho:nC n own)(hk:k<n.aj.length)(hp:PS n l c s t own):PS n l c s t (qC n l c s t own k):=by
 have j5:=(Db C.hn C.hl C.hc ho hk C.st C.tm).1;have hr:n.aj[k]? =some (n.aj.getD k default):=by simp[List.getD,hk]
 obtain⟨r,er⟩:=aY (n.aj.getD k default);unfold qC at j5⊢;unfold fD at j5⊢;rw[er]at hr j5⊢;have th:=(cP C.hn hr).1;obtain⟨hd,ehd⟩:=jE th.1;have hdl:hd<own.length:=by have:=ho.1;have:=th.2.1;omega
 rw[ehd]at j5⊢;simp only[gJ]at j5⊢;obtain⟨x,hx⟩:=aY (own.getD hd default);rw[hx]at j5⊢;rcases Hm (c:=c) (own:=own) hr (Sk th) C.st x with e|⟨g,v,hi,hf,io,e⟩
 ·rw[e,<-hx,Dd rfl];exact hp
 ·rw[e]at j5⊢;have hm:∀(h f t':Int),0<=h->h<n.ae->¬(dv c own s t h f t').lt (dv c (own.set hd ⟨v.aA,v.size,k,g⟩) s t h f t'):=by
   intro h f t' h0 h1;unfold dv;split
   ·rw[JV hdl];split
    ·rename_i e2;rw[e2,hx];exact io
    ·unfold cX.lt;omega
   ·unfold cX.lt;omega
  have aus:=JU C ho hp hr hi hf;intro h hh;rw[JV hdl];split
  ·rename_i e2;subst e2;obtain⟨v',wY,IF⟩:=FC C ho j5 hm hi;exact .inr ⟨⟨k,g,by rw[<-ehd];exact aus⟩,k,g,v',wY,⟨r,hr,ehd⟩,rfl,rfl,IF⟩
  ·rcases hp h (by simpa using hh)with e3|⟨d,k1,g1,v1,hi1,ql,h2,h3,h4⟩
   ·exact .inl e3
   ·obtain⟨v',wY,IF⟩:=FC C ho j5 hm hi1;exact .inr ⟨d,k1,g1,v',wY,ql,h2,h3,iP IF h4⟩
def aaN(C:AU n l c s t):PS n l c s t (EB n):=by
 intro h hh;left;have hh:h<n.ae.toNat:=by simpa [EB]using hh
 simp[EB,List.getD,hh]
def De(C:AU n l c s t)(ho:nC n own)(vw:Sl n l c s t own){k:Nat}{g:Int}{v:cX}(hk:n.aj[k]? =some r)(h:sO n l c own s t k g v)(hf:v.aA<1099511627776):
  ¬v.lt (own.getD r.head.toNat default).val/\(v=(own.getD r.head.toNat default).val->JS (own.getD r.head.toNat default).lb (own.getD r.head.toNat default).arg k g):=by
 obtain⟨r',wi,h⟩:=h;rw[hk]at wi;cases wi;obtain⟨th,yE,hkd⟩:=cP C.hn hk;have Ll:=vw k yE;unfold fD at Ll;rw[hkd]at Ll;obtain⟨q1,q2,q3,q4,q5⟩:=th;have hcx:nQ (own.getD r.head.toNat default):=ho.2 _ (bu (by have:=ho.1;omega));obtain⟨x,hx⟩:=aY (own.getD r.head.toNat default);rw[hx]at Ll hcx⊢;have hk6:=C.hn.2.2.1;have hl1:=C.hl.2.2.1;have iO:=C.st;have nJ:=C.tm;unfold nB at Ll;rcases h with⟨h1,rfl,rfl,rfl⟩|⟨h1,a,y,ha,h2,h3,h4,rfl,rfl⟩|⟨h1,rfl,rfl⟩|⟨h1,d,hd,rfl,rfl⟩
 ·rw[cM h1,cM rfl]at Ll;exact rZ Ll hf
 ·rw[bX (by omega),cM h1]at Ll;have mE:=(BN.1 ha).1;have Z0:l.aK.getD a default=y:=by simp[List.getD,ha]
  have:=Da (λx k hk hx=>by
   unfold stepT;split
   ·have:=C.hl.2.2.2 (l.aK.getD k default) (bu hk);exact lu hx (iv x9 (by omega) (by omega)) (by omega) (by omega) (by omega) (by omega)
   ·exact uW hx) x hcx Ll a mE
  unfold stepT at this;rw[Z0,cM ⟨h2,h3,h4⟩]at this;exact rZ this hf
 ·rw[bX (by omega),bX (by omega),cM h1]at Ll;exact rZ Ll hf
 ·rw[bX (by omega),bX (by omega),bX (by omega)]at Ll;have:=Da (λx k hk hx=>by
   unfold jh;refine lu hx (iv (λv hv=>?_) q3 (by omega)) (by omega) (by omega) (by omega) (by omega);simp only[nH,Zb4,Zc0]at hv;rcases hv with rfl|rfl<;>exact iG C ho (by omega) (by omega) _ _) x hcx Ll d (by omega)
  unfold jh at this;exact rZ this hf
def gC.le(ha:∀a∈l.aK,a.f<=a.t){k:Nat}{g:Int}{v:cX}(d:gC n l h s' t' k g v):s'<=t':=by
 induction d with
 |empty _ _ _=>exact eT _
 |term _ _ hx h2 h3 _ _=>have:=ha _ (Et hx);omega
 |unary _ _ _ _ ih=>exact ih
 |fW _ _ _ _ _ _ _ ih1 ZX=>omega
def gC.pos(hn:qf n)(hl:wB l){k:Nat}{g:Int}{v:cX}(d:gC n l h s' t' k g v):mG v:=by
 induction d with
 |empty hk _ _=>exact iv x9 (cP hn hk).1.2.2.1 (by have:=(cP hn hk).1.2.2.2.1;omega)
 |term hk _ hx _ _ _ _=>exact iv x9 (by have:=(cP hn hk).1.2.2.1;have:=hl.2.2.2 _ (Et hx);omega) (by have:=(cP hn hk).1.2.2.2.1;have:=hl.2.2.2 _ (Et hx);omega)
 |unary hk _ _ _ ih=>exact iv (λv hv=>by simp only[gN]at hv;subst hv;exact ih) (cP hn hk).1.2.2.1 (by have:=(cP hn hk).1.2.2.2.1;omega)
 |fW hk _ _ _ _ _ _ ih1 ZX=>exact iv (λv hv=>by simp only[nH,Zb4,Zc0]at hv;rcases hv with rfl|rfl<;>assumption) (cP hn hk).1.2.2.1 (by have:=(cP hn hk).1.2.2.2.1;omega)
def JW(C:AU n l c s t)(ho:nC n own)(vw:Sl n l c s t own){k:Nat}{g:Int}{v:cX}(d:gC n l h s' t' k g v):
  s<=s'->t'<=t->¬v.lt (dv c own s t h s' t'):=by
 have out:∀{h:Int} {s' t':Nat} {v:cX},0<=h->h<n.ae->s<=s'->s'<=t'->t'<=t->(s'≠s\/t'≠t)->Tq n l h s' t' v->¬v.lt (dv c own s t h s' t'):=by
  intro h s' t' v h0 h1 a1 a2 a3 dd d;unfold dv;rw[bX (by omega)];exact(C.inn h s' t' h0 h1 a1 a2 a3 dd).sN v d
 have onn:∀{r:bC} {k:Nat} {g:Int} {v v':cX},n.aj[k]? =some r->sO n l c own s t k g v'->¬v.lt v'->v.aA<1099511627776->¬v.lt (dv c own s t r.head s t):=by
  intro r k g v v' hk hi io hf;unfold dv;rw[cM ⟨rfl,rfl⟩];have hf':v'.aA<1099511627776:=by unfold cX.lt at io;omega
  exact iP (De C ho vw hk hi hf').1 io
 induction d with
 | @empty s0 k r hk h1 hv=>
  intro a1 a2;obtain⟨q1,q2,q3,q4,q5⟩:=(cP C.hn hk).1;by_cases e:s0=s/\s0=t
  ·obtain⟨rfl,rfl⟩:=e;exact onn hk ⟨r,hk,.inl ⟨h1,rfl,rfl,rfl⟩⟩ (by unfold cX.lt;omega) hv
  ·exact out q1 q2 a1 (eT _) a2 (by omega) ⟨k,_,gC.empty hk h1 hv⟩
 | @term s0 t0 k a r x hk h1 ha h2 h3 h4 hv=>
  intro a1 a2;obtain⟨q1,q2,q3,q4,q5⟩:=(cP C.hn hk).1;by_cases e:s0=s/\t0=t
  ·obtain⟨rfl,rfl⟩:=e;exact onn hk ⟨r,hk,.inr (.inl ⟨h1,a,x,ha,h2,h3,h4,rfl,rfl⟩)⟩ (by unfold cX.lt;omega) hv
  ·exact out q1 q2 a1 (by have:=C.ar x (Et ha);omega) a2 (by omega) ⟨k,_,gC.term hk h1 ha h2 h3 h4 hv⟩
 | @unary s0 t0 k k1 g1 r v hk h1 d hv ih=>
  intro a1 a2;obtain⟨q1,q2,q3,q4,q5⟩:=(cP C.hn hk).1;by_cases e:s0=s/\t0=t
  ·obtain⟨rfl,rfl⟩:=e;exact onn hk ⟨r,hk,.inr (.inr (.inl ⟨h1,rfl,rfl⟩))⟩ (mT (ih (eT _) (eT _))) hv
  ·exact out q1 q2 a1 (d.le C.ar) a2 (by omega) ⟨k,_,gC.unary hk h1 d hv⟩
 | @fW s0 m t0 k k1 k2 g1 g2 r v w hk h1 hs ht d1 d2 hv ih1 ZX=>
  intro a1 a2;obtain⟨q1,q2,q3,q4,q5⟩:=(cP C.hn hk).1;by_cases e:s0=s/\t0=t
  ·obtain⟨rfl,rfl⟩:=e;have em:(m:Int)=(s0:Int)+((m-s0:Nat):Int):=by omega
   refine onn hk ⟨r,hk,.inr (.inr (.inr ⟨h1,m-s0,by omega,rfl,rfl⟩))⟩ (pd ?_ ?_ ?_ ?_ ?_ ?_) hv
   ·exact(d1.pos C.hn C.hl).1
   ·exact(iG C ho (by omega) (by omega) _ _).1
   ·exact(d2.pos C.hn C.hl).1
   ·exact(iG C ho (by omega) (by omega) _ _).1
   ·rw[<-em];exact ih1 (eT _) ht
   ·rw[<-em];exact ZX hs (eT _)
  ·exact out q1 q2 a1 (by omega) a2 (by omega) ⟨k,_,gC.fW hk h1 hs ht d1 d2 hv⟩
def V7(C:AU n l c s t)(ho:nC n own)(vw:Sl n l c s t own){k:Nat}{g:Int}{v:cX}(d:gC n l h s t k g v):
  ∃r v',n.aj[k]? =some r/\r.head=h/\sO n l c own s t k g v'/\¬v.lt v':=by
 have io:=λ{h:Int} {s' t' k:Nat} {g:Int} {v:cX} (d:gC n l h s' t' k g v)=>JW C ho vw d;cases d with
 | @empty s0 k r hk h1 hv=>exact⟨r,_,hk,rfl,⟨r,hk,.inl ⟨h1,rfl,rfl,rfl⟩⟩,by unfold cX.lt;omega⟩
 | @term s0 t0 k a r x hk h1 ha h2 h3 h4 hv=>exact⟨r,_,hk,rfl,⟨r,hk,.inr (.inl ⟨h1,a,x,ha,h2,h3,h4,rfl,rfl⟩)⟩,by unfold cX.lt;omega⟩
 | @unary s0 t0 k k1 g1 r v hk h1 d hv=>
  exact⟨r,_,hk,rfl,⟨r,hk,.inr (.inr (.inl ⟨h1,rfl,rfl⟩))⟩,mT (io d (eT _) (eT _))⟩
 | @fW s0 m t0 k k1 k2 g1 g2 r v w hk h1 hs ht d1 d2 hv=>
  obtain⟨q1,q2,q3,q4,q5⟩:=(cP C.hn hk).1;have em:(m:Int)=(s:Int)+((m-s:Nat):Int):=by omega
  refine⟨r,_,hk,rfl,⟨r,hk,.inr (.inr (.inr ⟨h1,m-s,by omega,em,rfl⟩))⟩,pd ?_ ?_ ?_ ?_ ?_ ?_⟩
  ·exact(d1.pos C.hn C.hl).1
  ·exact(iG C ho (by omega) (by omega) _ _).1
  ·exact(d2.pos C.hn C.hl).1
  ·exact(iG C ho (by omega) (by omega) _ _).1
  ·rw[<-em];exact io d1 (eT _) ht
  ·rw[<-em];exact io d2 hs (eT _)
def V8(C:AU n l c s t)(ho:nC n own)(hp:PS n l c s t own)(vw:Sl n l c s t own)(h:Nat)(hh:(h:Int)<n.ae):Good n l h s t (own.getD h default):=by
 have hl:h<own.length:=by have:=ho.1;omega
 have dB:dv c own s t h s t=(own.getD h default).val:=by unfold dv;rw[cM ⟨rfl,rfl⟩];rfl
 refine⟨λv ⟨k,g,d⟩=>?_, ?_⟩
 ·rw[<-dB];exact JW C ho vw d (eT _) (eT _)
 ·rcases hp h hl with e|⟨hd,k,g,v,hi,⟨r,hk,hr⟩,h2,h3,io⟩
  ·exact .inl e
  ·right;have hf:=hd.dM;have hvf:v.aA<1099511627776:=by unfold cX.lt at io;omega
   have hx:=De C ho vw hk hi hvf;rw[hr]at hx;simp only[gJ]at hx;have he:v=(own.getD h default).val:=cX.pc hx.1 io;refine⟨⟨k,h2, ?_⟩,λk' g' d=>?_⟩
   ·have:=JU C ho hp hk hi hvf;rw[hr,he]at this;rw[h3];exact this
   ·obtain⟨r',v',wi,nl,wY,IF⟩:=V7 C ho vw d;have aut:v'.aA<1099511627776:=by unfold cX.lt at IF;omega
    have nK:=De C ho vw wi wY aut;rw[nl]at nK;simp only[gJ]at nK;exact nK.2 (cX.pc nK.1 IF)
def Sm(C:AU n l c s t)(h:Nat)(hh:(h:Int)<n.ae):Good n l h s t ((sP n l c s t).getD h default):=by
 obtain⟨h1,h2,h3⟩:=JX C.hn C.hl C.hc C.st C.tm (PS n l c s t) (aaN C) (λown k ho hk hp=>aaM C ho hk hp);exact V8 C h1 h2 h3 h hh
end
end
section
variable{nn h h':Int}
def JY{p p':Int}(a1:0<=h)(a2:h<nn)(b1:0<=h')(b2:h'<nn)(e:p*nn+h=p'*nn+h'):p=p'/\h=h':=by
 have key:∀{p p' h h':Int},0<=h->h<nn->0<=h'->h'<nn->p*nn+h=p'*nn+h'->¬p<p':=by
  intro p p' h h' a1 a2 b1 b2 e cQ;have h1:(p+1)*nn<=p'*nn:=ZbS (by omega) (by omega);have h2:(p+1)*nn=p*nn+nn:=by grind
  omega
 have h1:=key a1 a2 b1 b2 e;have h2:=key b1 b2 a1 a2 e.symm;have:p=p':=by omega
 subst this;exact⟨rfl,by omega⟩
def Sn{st:Int}{s t s' t':Nat}(a1:0<=h)(a2:h<nn)(b1:0<=h')(b2:h'<nn)(c1:s<=t)(c2:(t:Int)<st)(d1:s'<=t')(d2:(t':Int)<st)
  (e:dO nn st s t+h=dO nn st s' t'+h'):s=s'/\t=t'/\h=h':=by
 unfold dO at e;obtain⟨e1,e2⟩:=JY a1 a2 b1 b2 e;have key:∀{s t s' t':Nat},s<=t->(t:Int)<st->s'<=t'->(t':Int)<st->pre st s+t-s=pre st s'+t'-s'->¬s<s':=by
  intro s t s' t' c1 c2 d1 d2 e cQ;have:=Df (st:=st) (f:=s+1) (k:=s') (by omega) (by omega);simp only[pre]at this;omega
 have h1:=key c1 c2 d1 d2 e1;have h2:=key d1 d2 c1 c2 e1.symm;have:s=s':=by omega
 subst this;exact⟨rfl,by omega,e2⟩
def V9(cells own:List Cell)(zc y:Nat)(hl:zc+y<=cells.length)(i:Nat)(d:Cell):(wC cells own zc y).getD i d=if zc<=i/\i<zc+y then own.getD (i-zc) default else cells.getD i d:=by
 induction y with
 |zero=>simp only[wC,List.range_zero,Zb9];rw[bX (by omega)]
 |succ y ih=>
  rw[uX];have ih:=ih (by omega);by_cases e:i=zc+y
  ·subst e;rw[cM (by omega),show zc+y-zc=y by omega];simp only[List.getD,ZbM,JZ];rw[cM trivial,cM (by omega)];rfl
  ·have:((wC cells own zc y).set (zc+y) (own.getD y default)).getD i d=(wC cells own zc y).getD i d:=by
    simp only[List.getD,ZbM];rw[bX (λx=>e x.symm)]
   rw[this,ih];by_cases h:zc<=i/\i<zc+y
   ·rw[cM h,cM (by omega)]
   ·rw[bX h,bX (by omega)]
section
variable{n:ay}{l:aF}
def MW{c:bI}{s t:Nat}(h0:0<=h)(h1:h<c.ae)(c1:s<=t)(c2:(t:Int)<c.am):gp c h s t=c.cells.getD (dO c.ae c.am s t+h).toNat mc:=by
 unfold gp;rw[bX (by omega)];simp
def J0(n:ay)(l:aF)(cells:List Cell)(len f:Nat):Prop:=
 ∀(h:Int) (s t:Nat),0<=h->h<n.ae->s<=t->(t:Int)<l.am->(t-s<len\/(t-s=len/\s<f))->Good n l h s t (gp ⟨n.ae,l.am,cells⟩ h s t)
def So(hn:qf n)(hl:wB l)(ha:∀a∈l.aK,a.f<=a.t){cells:List Cell}{len f:Nat}(hc:jD n l cells)(hf:((f+len:Nat):Int)<l.am)(hd:J0 n l cells len f):J0 n l (ya n l len cells f) len (f+1):=by
 have h1:=hn.1;have h2:=hn.2.1;have h3:=hl.1;have h4:=hl.2.1;have C:AU n l ⟨n.ae,l.am,cells⟩ f (f+len):=⟨hn,hl,hc.ok hn hl,ha,by omega,by omega,λh s' t' a1 a2 a3 a4 a5 a6=>hd h s' t' a1 a2 a4 (by omega) (by omega)⟩;have hg:=Sm C;have iW:=Dg hn hl C.hc C.st C.tm;rw[show((f+len:Nat):Int)=(f:Int)+len by omega]at hg iW;obtain⟨own,ho⟩:=aY (sP n l ⟨n.ae,l.am,cells⟩ f ((f:Int)+len));rw[ho]at hg iW;have hib:=oi (n:=n.ae) (st:=l.am) (f:=f) (t:=f+len) (by omega) h2 h4 (by omega) (by omega) (by omega);have cQ:=Dh (nn:=n.ae) (st:=l.am) (f:=f) (t:=f+len) (by omega) (by omega) (by omega) (i:=n.ae-1) (by omega);have c9:=hc.1;intro h s t a1 a2 a3 a4 a5;unfold ya;rw[ho,MW a1 a2 a3 a4];simp only;have hsb:=oi (n:=n.ae) (st:=l.am) (f:=s) (t:=t) (by omega) h2 h4 (by omega) (by omega) (by omega);rw[V9 _ _ _ _ (by omega)];split
 ·rename_i e;have hx:dO n.ae l.am s t+h=dO n.ae l.am f (f+len)+(((dO n.ae l.am s t+h).toNat-(dO n.ae l.am f (f+len)).toNat:Nat):Int):=by omega
  obtain⟨e1,e2,e3⟩:=Sn a1 a2 (by omega) (by omega) a3 a4 (by omega) (by omega) hx;subst e1 e2;obtain⟨h,rfl⟩:=jE a1;have e4:(dO n.ae l.am s (s+len)+(h:Int)).toNat-(dO n.ae l.am s (s+len)).toNat=h:=by omega
  rw[e4];exact hg h a2
 ·rename_i e;have dd:¬(s=f/\t=f+len):=by
   rintro⟨rfl,rfl⟩;omega
  have:=hd h s t a1 a2 a3 a4 (by omega);rw[MW a1 a2 a3 a4]at this;exact this
def J1(hn:qf n)(hl:wB l)(ha:∀a∈l.aK,a.f<=a.t){cells:List Cell}{len:Nat}(hc:jD n l cells)(hd:J0 n l cells len 0):∀k,((k+len:Nat):Int)<=l.am->J0 n l ((List.range k).foldl (ya n l len) cells) len k
 |0,_=>hd
 |k+1,hk=>by
  rw[tp,Ec];have h4:=hl.2.1;exact So hn hl ha (Bp hn hl hc k (by omega)) (by omega) (J1 hn hl ha hc hd k (by omega))
def Sp(hn:qf n)(hl:wB l)(ha:∀a∈l.aK,a.f<=a.t):∀k:Nat,(k:Int)<=l.am->J0 n l ((List.range k).foldl (mf n l) (List.replicate (i6 n.ae l.am).toNat ⟨0,0,0,0⟩)) k 0:=by
 intro k;induction k with
 |zero=>
  intro _ h s t a1 a2 a3 a4 a5;omega
 |succ k ih=>
  intro hk;rw[tp,Ec];have h4:=hl.2.1;have:=J1 hn hl ha (Di hn hl k (by omega)) (ih (by omega)) (l.am.toNat-k) (by omega);intro h s t a1 a2 a3 a4 a5;exact this h s t a1 a2 a3 a4 (by omega)
def MX(hn:qf n)(hl:wB l)(ha:∀a∈l.aK,a.f<=a.t){s t:Nat}(a1:0<=h)(a2:h<n.ae)(a3:s<=t)(a4:(t:Int)<l.am):Good n l h s t (gp (i7 n l) h s t):=by
 have h3:=hl.1;exact Sp hn hl ha l.am.toNat (by omega) h s t a1 a2 a3 a4 (by omega)
end
end
def t56(u v:cX):aJ ap 131 [.agg [ti u.aA,ti u.size],.agg [ti v.aA,ti v.size]] (.bool (decide (u.lt v))):=by
 obtain⟨a,b⟩:=u;obtain⟨c,d⟩:=v;obtain⟨c1,bN⟩:=aY (decide ((⟨a,b⟩:cX).lt ⟨c,d⟩):Bool);rw[bN];simp only[cX.lt]at bN;have aq:=J2;refine c56.ok (by simp) (aH ?_);simp;apply aa.ai aq fw [2,3];simp[T0];refine aa.lk (o:=[]) (l:=[(2,.v (.box [ti a,ti b])),(3,.v (.box [ti c,ti d]))]) (bn:=1200) (by simp) ?_;refine aa.bL aq fw [(4,.v (.bool c1))] ?_ ?_
 ·by_cases q1:a<c
  ·have:c1=true:=by rw[<-bN];simp[q1]
   simp[EW,q1,this]
  ·by_cases q2:a=c
   ·subst q2;by_cases q3:b<d
    ·have:c1=true:=by rw[<-bN];simp[q3]
     simp[EW,q3,this]
    ·have:c1=false:=by rw[<-bN];simp[q3]
     simp[EW,q3,this]
   ·have:c1=false:=by rw[<-bN];simp[q1,q2]
    simp[EW,q1,q2,this]
 apply aa.ret;simp[BU]
def HT{l:List cX}(h:∀v∈l,mG v):∀{c s:Int},0<=c->c<=1099511627776->0<=s->s<=1099511627776->0<=(dR c s l).aA/\(dR c s l).aA<=1099511627776:=by
 induction l with
 |nil=>intro c s h1 h2 h3 h4;exact⟨h1,h2⟩
 |cons x l ih=>
  intro c s h1 h2 h3 h4;obtain⟨g1,g2,g3,g4⟩:=h x (by simp);exact ih (λv hv=>h v (by simp[hv])) (by omega) (by omega) (by omega) (by omega)
def XM{c:Int}{l:List cX}(h:∀v∈l,mG v):co (min c 1099511627776) l=co c l:=by
 have key:∀(l:List cX) (c s:Int),(∀v∈l,mG v)->l≠[]->dR (min c 1099511627776) s l=dR c s l:=by
  intro l c s h hl;cases l with
  |nil=>exact eX rfl hl
  |cons v l=>
   have hv:=(h v (by simp)).1;simp only[dR];rw[show min (min c 1099511627776+v.aA) 1099511627776=min (c+v.aA) 1099511627776 by omega]
 cases l with
 |nil=>
  unfold co dR;simp only;split<;>split<;>first|rfl|(exfalso;omega)|(congr 1;omega)
 |cons v l=>
  unfold co;rw[key _ _ _ h (by simp)]
def t84(c:Int)(l:List cX)(h:∀v∈l,mG v)(h1:0<=c)(h2:c<=4000000000000)(h3:l.length<=1000000):aJ ap 73 [ti c,.sl (cU l)] (.agg [ti (co c l).aA,ti (co c l).size]):=by
 obtain⟨R,hR⟩:=aY (co c l);rw[hR];rw[<-XM h]at hR;obtain⟨c0,Er⟩:=aY (min c 1099511627776);have bN:0<=c0/\c0<=1099511627776:=by omega
 rw[Er]at hR;have aq:=J2;refine c84.ok (by simp) (aH ?_);simp;apply aa.ai aq fw [0,1,4];simp[aoo];refine aa.lk (o:=[(1005,.box [.v (ti 0),.v (ti 0)])]) (l:=[(0,.v (ti c)),(1,.v (.sl (cU l))),(4,.ptr 1005 0)]) (bn:=1094) (by simp) ?_;apply aa.ai aq fw [1,4,5];simp[aop,Er];refine aa.lk (o:=[(1005,.box [.v (ti 0),.v (ti 0)]),(1100,.box [.v (ti c0),.v (ti 1)])]) (l:=[(1,.v (.sl (cU l))),(4,.ptr 1005 0),(5,.ptr 1100 0)]) (bn:=1200) (by simp) ?_;apply aa.sq aq fw [4,5,11,12,13];simp[aoq];apply aa.block;refine aa.loop (λi:Nat=>⟨DM.look [(4,.ptr 1005 0),(5,.ptr 1100 0),(11,.v (.sl (cU l))),(12,.v (ti l.length)),(13,.v (ti i))],cR [(1005,.box [.v (ti 0),.v (ti 0)]),(1100,.box [.v (ti (dR c0 1 (l.take i)).aA),.v (ti (dR c0 1 (l.take i)).size)])],1400,1000,[]⟩)
  (λi=>i<=l.length) (λi=>l.length-i) 0 (Le.aL ?_ ?_ ?_ ?_) (by simp) (λi hi=>?_)
 ·simp
 ·simp
 ·simp[dR]
 ·simp
 obtain⟨A,hA⟩:=aY (dR c0 1 (l.take i));rw[hA];apply aa.ai aq fw [4,5,11,12,13,14];simp[aor];apply aa.seq;refine aa.cond rfl (λh3c=>?_) (λh3c=>?_)
 ·have sW:i<l.length:=by simpa using h3c
  apply aa.skip;simp;apply aa.seq;apply aa.block;have rv:=jU sW;have hvm:=h _ (bu sW);have iO:dR c0 1 (l.take (i+1))=⟨min (A.aA+(l.getD i default).aA) 1099511627776,min (A.size+(l.getD i default).size) 1099511627776⟩:=by rw[dH sW,Dj,hA]
  have hAb:=uj (c:=c0) (s:=1) (l:=l.take i) (λv hv=>h v (I0 hv)) bN.1 (by omega) (by omega) (by omega);rw[hA]at hAb;obtain⟨⟨vc,vs⟩,hv⟩:=aY (l.getD i default);rw[hv]at rv hvm iO;obtain⟨g1,g2,g3,g4⟩:=hvm;simp only at g1 g2 g3 g4 iO;obtain⟨ac,asz⟩:=A;simp only at hAb iO;apply aa.ai aq fw [4,5,7,11,12,13];simp[aos,sW,rv];refine aa.lk (o:=[(1005,.box [.v (ti 0),.v (ti 0)]),(1100,.box [.v (ti ac),.v (ti asz)])]) (l:=[(4,.ptr 1005 0),(5,.ptr 1100 0),(7,.v (.box [ti vc,ti vs])),(11,.v (.sl (cU l))),(12,.v (ti l.length)),(13,.v (ti i))]) (bn:=1500) (by simp) ?_;apply aa.ai aq fw [4,5,7,11,12,13];simp[aot,av (x:=ac+vc) (by omega)];refine aa.lk (o:=[(1005,.box [.v (ti 0),.v (ti 0)]),(1100,.box [.v (ti (min (ac+vc) 1099511627776)),.v (ti asz)])]) (l:=[(4,.ptr 1005 0),(5,.ptr 1100 0),(7,.v (.box [ti vc,ti vs])),(11,.v (.sl (cU l))),(12,.v (ti l.length)),(13,.v (ti i))]) (bn:=1600) (by simp) ?_;apply aa.cZ aq fw [4,5,11,12,13];simp[aou,av (x:=asz+vs) (by omega)];apply aa.cZ aq fw [4,5,11,12,13];simp[aov];rw[av (x:=(i:Int)+1) (by omega)];refine⟨i+1,Le.aL ?_ ?_ ?_ ?_,by omega,by omega⟩
  ·simp
  ·simp
  ·simp[iO]
  ·simp
 ·have hi2:i=l.length:=by simp at h3c;omega
  subst hi2;rw[TZ]at hA;apply aa.exit;simp;apply aa.sq aq fw [4,5,34];simp[aow];refine aa.cond rfl (λh8=>?_) (λh8=>?_)
  ·have h8:A.aA=1099511627776:=by simpa using h8
   have Ts:R=⟨1099511627776,0⟩:=by rw[<-hR];unfold co;rw[hA];simp[h8]
   apply aa.ai aq fw [4];simp[aox];apply aa.ret;simp[MV,Ts]
  ·have h8:¬A.aA=1099511627776:=by simpa using h8
   have hAb:=HT (c:=c0) (s:=1) (l:=l) h bN.1 bN.2 (by omega) (by omega);rw[hA]at hAb;have Ts:R=A:=by rw[<-hR];unfold co;rw[hA,bX (by omega)]
   apply aa.skip;simp;apply aa.ai aq fw [4];simp[agH];apply aa.ret;simp[MV,Ts]
abbrev s56:DM.Spec:=bp (λts=>∃a b c d,ts=[.agg [ti a,ti b],.agg [ti c,ti d]]) (fun|[.agg [.int _ a,.int _ b],.agg [.int _ c,.int _ d]]=>.bool (decide ((⟨a,b⟩:cX).lt ⟨c,d⟩))|_=>.bool false) true
def avA{l:List (Nat×DM.Spec)}(h:aw ap (bz l)):aw ap (bz ((131,s56)::l)):=by
 refine aw.cons h ?_;rintro ts ⟨a,b,c,d,rfl⟩;exact⟨t56 ⟨a,b⟩ ⟨c,d⟩,λ_=>rfl⟩
def mV(st:Int)(f:Nat):(f:Int)*st-((f:Int)*((f:Int)-1)).tdiv 2=pre st f:=by
 have h:=Hs st f;obtain⟨k,hk⟩:∃k:Nat,f*(f-1)=2*k:=by
  rcases(show(∃a,f=2*a)\/∃a,f=2*a+1 from by
   by_cases e:f % 2=0
   ·exact .inl ⟨f/2,by omega⟩
   ·exact .inr ⟨f/2,by omega⟩)with h|h
  ·obtain⟨a,rfl⟩:=h;exact⟨a*(2*a-1),by rw[Nat.mul_assoc]⟩
  ·obtain⟨a,rfl⟩:=h;exact⟨(2*a+1)*a,by rw[show 2*a+1-1=2*a by omega,Nat.mul_left_comm]⟩
 have sI:(f:Int)*((f:Int)-1)=2*(k:Int):=by
  cases f with
  |zero=>
    obtain rfl:k=0:=by omega
    simp
  |succ f=>rw[show f+1-1=f by omega]at hk;rw[show((f+1:Nat):Int)-1=(f:Int)by omega];exact_mod_cast hk
 rw[sI,show(2*(k:Int)).tdiv 2=k by rw[O6 (by omega)];omega];have:(f:Int)*(2*st-f+1)=2*((f:Int)*st)-(f:Int)*((f:Int)-1):=by grind
 omega
def t64(c:bI)(f t:Nat)(h1:0<=c.ae)(h2:c.ae<=1000)(h3:c.am<=1000)(h4:(f:Int)<=c.am)(h5:t<=1000)(h6:f<=t):aJ ap 95 [c.enc,ti f,ti t] (ti (dO c.ae c.am f t)):=by
 obtain⟨cn,cs,cl⟩:=c;simp only at h1 h2 h3 h4;have hb:=d5 h3 f h4;have hc:=mV cs f;have b1:=g9 (a:=(f:Int)) (A:=1000) (b:=cs) (B:=1000) (by omega) (by omega) (by omega) h3;have b2:=g9 (a:=(f:Int)) (A:=1000) (b:=(f:Int)) (B:=1000) (by omega) (by omega) (by omega) (by omega);have hff:(f:Int)*((f:Int)-1)=(f:Int)*f-f:=by grind
 have avx:0<=(f:Int)*((f:Int)-1)/\(f:Int)*((f:Int)-1)<=1000000:=by
  refine⟨?_,by omega⟩;cases f with
  |zero=>simp
  |succ f=>exact Zcu (by omega) (by omega)
 obtain⟨P,hP⟩:=aY (pre cs f);rw[hP]at hb hc;have hq:((f:Int)*((f:Int)-1)).tdiv 2=(f:Int)*((f:Int)-1)/2:=O6 avx.1;have b3:=g9 (a:=P+t-f) (A:=2000000) (b:=cn) (B:=1000) (by omega) (by omega) h1 h2;have m1:IntKind.i64.wrap ((f:Int)*cs)=(f:Int)*cs:=av (by omega);have m2:IntKind.i64.wrap ((f:Int)-1)=(f:Int)-1:=av (by omega);have m3:IntKind.i64.wrap ((f:Int)*((f:Int)-1))=(f:Int)*((f:Int)-1):=av (by omega);have m4:IntKind.i64.wrap (((f:Int)*((f:Int)-1)).tdiv 2)=((f:Int)*((f:Int)-1)).tdiv 2:=by rw[hq];exact av (by omega)
 have m5:IntKind.i64.wrap ((f:Int)*cs-((f:Int)*((f:Int)-1)).tdiv 2)=P:=by rw[hc];exact av (by omega)
 have m6:IntKind.i64.wrap (P+t)=P+t:=av (by omega);have m7:IntKind.i64.wrap (P+t-f)=P+t-f:=av (by omega);have m8:IntKind.i64.wrap ((P+t-f)*cn)=dO cn cs f t:=by unfold dO;rw[hP];exact av (by omega)
 have aq:=J2;refine c64.ok (by simp) (aH ?_);simp[bI.enc];apply aa.ai aq fw [1,2,3];simp[aoj];refine aa.lk (o:=[]) (l:=[(1,.v (ti f)),(2,.v (ti t)),(3,.v (.box [ti cn,ti cs,.sl (bl cl)]))]) (bn:=1200) (by simp) ?_;apply aa.ai aq fw [1,2,3,7];simp[aok,m1,m2,m3,m4,m5];apply aa.ai aq fw [6];simp[aol,m6,m7,m8];apply aa.ret;simp[dI]
def KG(c:bI):Prop:=1<=c.ae/\c.ae<=1000/\1<=c.am/\c.am<=1000/\(c.cells.length:Int)=i6 c.ae c.am
abbrev s64:DM.Spec:=bp (λts=>∃cn cs cl,∃f t:Int,ts=[.agg [ti cn,ti cs,.sl (bl cl)],ti f,ti t]/\0<=cn/\cn<=1000/\cs<=1000/\0<=f/\f<=cs/\t<=1000/\f<=t) (fun|[.agg [.int _ n,.int _ st,_],.int _ f,.int _ t]=>ti (dO n st f.toNat t.toNat)|_=>.bool false) true
def avy:aw ap (bz [(95,s64)]):=by
 refine aw.cons aw.nil ?_;rintro ts ⟨cn,cs,cl,f,t,rfl,h1,h2,h3,h4,h5,h6,h7⟩;obtain⟨f,rfl⟩:=jE h4;obtain⟨t,rfl⟩:=jE (a:=t) (by omega);exact⟨by simpa [bI.enc]using t64 ⟨cn,cs,cl⟩ f t h1 h2 h3 h5 (by omega) (by omega),λ_=>rfl⟩
def t37(c:bI)(h f t:Int)(hc:KG c):aJ ap 130 [c.enc,.agg [ti h,ti f,ti t]] (.agg (gp c h f t).enc):=by
 obtain⟨cn,cs,cl⟩:=c;obtain⟨k1,k2,k3,k4,k5⟩:=hc;simp only at k1 k2 k3 k4 k5;obtain⟨R,hR⟩:=aY (gp ⟨cn,cs,cl⟩ h f t);rw[hR];unfold gp at hR;simp only at hR;have aq:=avy;refine c37.ok (by simp) (aH ?_);simp[bI.enc];apply aa.ai aq fw [2,3,4];simp[JQ];refine aa.lk (o:=[(1005,.box [.v (ti 0),.v (ti 0),.v (ti 0),.v (ti 0)])]) (l:=[(2,.v (.box [ti cn,ti cs,.sl (bl cl)])),(3,.v (.box [ti h,ti f,ti t])),(4,.ptr 1005 0)]) (bn:=1200) (by simp) ?_;apply aa.seq;obtain⟨c1,bN⟩:=aY (decide (h<0\/h>=cn\/f<0\/t<f\/t>=cs):Bool);refine aa.bL aq fw [(2,.v (.box [ti cn,ti cs,.sl (bl cl)])),(3,.v (.box [ti h,ti f,ti t])),(4,.ptr 1005 0),(35,.v (.bool c1))] ?_ ?_
 ·by_cases q1:h<0
  ·have:c1=true:=by rw[<-bN];simp[q1]
   simp[vR,q1,this]
  ·skip
   by_cases q2:h>=cn
   ·have:c1=true:=by rw[<-bN];simp[q2]
    simp[vR,q1,q2,this]
   ·skip
    by_cases q3:f<0
    ·have:c1=true:=by rw[<-bN];simp[q3]
     simp[vR,q1,q2,q3,this]
    ·skip
     by_cases q4:t<f
     ·have:c1=true:=by rw[<-bN];simp[q4]
      simp[vR,q1,q2,q3,q4,this]
     ·skip
      by_cases q5:t>=cs
      ·have:c1=true:=by rw[<-bN];simp[q5]
       simp[vR,q1,q2,q3,q4,q5,this]
      ·skip
       have:c1=false:=by rw[<-bN];simp[q1,q2,q3,q4,q5]
       simp[vR,q1,q2,q3,q4,q5,this]
 refine aa.cond rfl (λg1=>?_) (λg1=>?_)
 ·rw[g1]at bN;rw[cM (qg bN)]at hR;subst hR;apply aa.ai aq fw [4];simp[JR];apply aa.ret;simp[rY,mc,Cell.enc]
 ·rw[g1]at bN;have bN:=Br bN;rw[bX bN]at hR;obtain⟨f,rfl⟩:=jE (a:=f) (by omega);obtain⟨t,rfl⟩:=jE (a:=t) (by omega);simp only[gJ]at hR;have cQ:=Dh (nn:=cn) (st:=cs) (f:=f) (t:=t) (by omega) (by omega) (by omega) (i:=h) (by omega);have hib:=d5 k4 f (by omega);have hcp:=qD (nn:=cn) (st:=cs) (by omega);have hpn:pre cs 1<=pre cs cs.toNat:=Df (by omega) (by omega);have hp1:pre cs 1=cs:=by simp[pre]
  have uE:cn*cs<=cn*pre cs cs.toNat:=Zdc (by omega) (by omega);have Ij:cn*1<=cn*cs:=Zdc (by omega) (by omega);have hm3:1*cs<=cn*cs:=ZbS (by omega) (by omega);have hi0:0<=dO cn cs f t:=by unfold dO;exact Zcu (by omega) (by omega)
  obtain⟨I,hI⟩:=aY (dO cn cs f t);rw[hI]at cQ hi0 hR;obtain⟨i,hi⟩:=jE (a:=I+h) (by omega);rw[hi]at hR;have sW:i<cl.length:=by omega
  have c9:cl.length<=1000000000000:=by
   have hb:=d5 k4 cs.toNat (by omega);have:=g9 (a:=cn) (A:=1000) (b:=pre cs cs.toNat) (B:=1000000) (by omega) (by omega) hb.1 (by omega);omega
  apply aa.skip;simp;apply aa.ai aq fw [2,3,4,5];simp[V5];apply aa.seq;have q1:¬(t:Int)>cl.length:=by omega
  have q2:¬cs>cl.length:=by omega
  have q3:¬cn>cl.length:=by omega
  have q4:¬h>=cl.length:=by omega
  have q1n:¬cl.length<t:=by omega
  refine aa.bL aq fw [(2,.v (.box [ti cn,ti cs,.sl (bl cl)])),(3,.v (.box [ti h,ti f,ti t])),(4,.ptr 1005 0),(5,.v (ti cl.length)),(71,.v (.bool false))] ?_ ?_
  ·by_cases z1:0<f
   ·by_cases z2:0<t
    ·simp[FA,q1,q1n,q2,q3,q4,z1,z2]
    ·simp[FA,q1,q1n,q2,q3,q4,z1,z2]
   ·by_cases z2:0<t
    ·simp[FA,q1,q1n,q2,q3,q4,z1,z2]
    ·simp[FA,q1,q1n,q2,q3,q4,z1,z2]
  refine aa.cond rfl (λg4=>?_) (λg4=>?_)
  ·exact eX g4 (by simp)
  ·apply aa.skip;simp;apply aa.ai aq fw [2,4,5,6];simp[V6,ze,hI,hi,av (x:=(i:Int)) (by omega)];repeat (refine⟨by omega, ?_⟩)
   apply aa.sq aq fw [2,4,6,84];simp[aom];refine aa.cond rfl (λg7=>?_) (λg7=>?_)
   ·exact eX g7 (by simp;omega)
   ·apply aa.skip;simp;have rr:=iQ sW;have Ts:cl.getD i default=R:=by rw[<-hR];simp[List.getD,sW]
    rw[Ts]at rr;obtain⟨rc,rz,rr1,ra⟩:=R;apply aa.ai aq fw [4];simp[aon,sW,rr,Cell.enc];apply aa.ret;simp[rY]
abbrev s37:DM.Spec:=bp (λts=>∃cn cs cl h f t,ts=[.agg [ti cn,ti cs,.sl (bl cl)],.agg [ti h,ti f,ti t]]/\KG ⟨cn,cs,cl⟩) (fun|[c,.agg [.int _ h,.int _ f,.int _ t]]=>.agg [ti (gp (s6 c) h f t).aA,ti (gp (s6 c) h f t).size,ti (gp (s6 c) h f t).lb,ti (gp (s6 c) h f t).arg]|_=>.bool false) true
def ajI{l:List (Nat×DM.Spec)}(h:aw ap (bz l)):aw ap (bz ((130,s37)::l)):=by
 refine aw.cons h ?_;rintro ts ⟨cn,cs,cl,h,f,t,rfl,h1⟩;exact⟨by simpa [bI.enc,Cell.enc]using t37 ⟨cn,cs,cl⟩ h f t h1,λ_=>rfl⟩
abbrev s84:DM.Spec:=bp (λts=>∃c l,ts=[ti c,.sl (cU l)]/\(∀v∈l,mG v)/\0<=c/\c<=4000000000000/\l.length<=1000000) (fun|[.int _ c,.sl l]=>.agg [ti (co c (nc l)).aA,ti (co c (nc l)).size]|_=>.bool false) true
def avz{l:List (Nat×DM.Spec)}(h:aw ap (bz l)):aw ap (bz ((73,s84)::l)):=by
 refine aw.cons h ?_;rintro ts ⟨c,l,rfl,h1,h2,h3,h4⟩;exact⟨by simpa using t84 c l h1 h2 h3 h4,λ_=>rfl⟩
end aT
namespace It
open Go.DM
def api:=aB 62 0
def apj:=aB 62 1
noncomputable def d32:DC:=fo 62
def WQ:List cH:=[.cell 4 2 true]
def c32 [bD]:aR ap 62 10 d32 WQ:=.at
def WR:=aB 63 0
def WS:=aB 63 1
noncomputable def d33:DC:=fo 63
def Dw:List cH:=[.fB 2]
def c33 [bD]:aR ap 63 13 d33 Dw:=.at
def JQ:=aB 67 0
def vR:=aB 67 1
def JR:=aB 67 2
noncomputable def d37:DC:=fo 67
def rY:List cH:=[.fB 8]
def c37 [bD]:aR ap 67 30 d37 rY:=.at
def apk:=aB 170 0
def apl:=aB 170 1
def aeu:=aB 170 2
def apm:=aB 170 3
noncomputable def d15:DC:=fo 170
def HA:List cH:=[.fB 6,.fB 7]
def c15 [bD]:aR ap 170 47 d15 HA:=.at
def WT:=aB 80 0
def WU:=aB 80 1
noncomputable def d39:DC:=fo 80
def c39 [bD]:aR ap 80 16 d39 (dI 4):=.at
def apn:=aB 123 0
def apo:=aB 123 1
def app:=aB 123 2
def apq:=aB 123 3
def apr:=aB 123 4
def aps:=aB 123 5
def apt:=aB 123 6
noncomputable def d40:DC:=fo 123
def c40 [bD]:aR ap 123 30 d40 (dI 8):=.at
def apu:=aB 81 0
def apv:=aB 81 1
def aev:=aB 81 2
def apw:=aB 81 3
noncomputable def d18:DC:=fo 81
def HB:List cH:=[.fB 6,.fB 7]
def c18 [bD]:aR ap 81 47 d18 HB:=.at
def aew:=aB 172 0
def aex:=aB 172 1
def apx:=aB 172 2
def apy:=aB 172 3
def apz:=aB 172 4
def apA:=aB 172 5
def apB:=aB 172 6
def apC:=aB 172 7
def apD:=aB 172 8
noncomputable def d16:DC:=fo 172
def Ns:List cH:=[.cell 6 3 true,.fB 7]
def c16 [bD]:aR ap 172 48 d16 Ns:=.at
def WV:=aB 77 0
def WX:=aB 77 1
noncomputable def d30:DC:=fo 77
def Dx:List cH:=[.fB 2]
def c30 [bD]:aR ap 77 21 d30 Dx:=.at
def IL:=aB 41 0
def IN:=aB 41 1
def VH:=aB 41 2
def IP:=aB 41 3
def IQ:=aB 41 4
def BO:=aB 41 5
def IR:=aB 41 6
def IS:=aB 41 7
def BP:=aB 41 8
def TX:=aB 41 9
def LC:=aB 41 10
def LD:=aB 41 11
def LG:=aB 41 12
def Gn:=aB 41 13
def LI:=aB 41 14
def LJ:=aB 41 15
def Gm:=aB 41 16
def LK:=aB 41 17
def LL:=aB 41 18
def aie:=aB 41 19
def aif:=aB 41 20
def aig:=aB 41 21
noncomputable def d44:DC:=fo 41
def mN:List cH:=[.fB 2]
def c44 [bD]:aR ap 41 151 d44 mN:=.at
end It
end Go.Proofs
namespace Go.Proofs.It
open Go.DM
structure bC where
 (kind head a b bi origin:Int)
structure ay where
 (aX ae start:Int)
 aj:List bC
structure Edge where
 head:Int
 bY:ba
 (aA l0 l1:Int)
 deriving DecidableEq
def bC.enc(r:bC):aG:=[ti r.kind,ti r.head,ti r.a,ti r.b,ti r.bi,ti r.origin]
def aQ(l:List bC):List (aG):=l.map bC.enc
def ay.enc(n:ay):T:=.agg [ti n.aX,ti n.ae,ti n.start,.sl (aQ n.aj)]
def Edge.enc(e:Edge):aG:=[ti e.head,.sl (au e.bY),ti e.aA,ti e.l0,ti e.l1]
def ch(l:List Edge):List (aG):=l.map Edge.enc
def t32{Γ:kv}(aq:aw ap Γ)(n:ay)(l:aF):aJ ap 62 [n.enc,l.enc] (.agg [ti n.ae,ti l.am]):=by
 refine c32.ok (by simp) (aH ?_);simp[ay.enc,aF.enc];apply aa.ai aq fw [2,3,4];simp[api];apply aa.ai aq fw [4];simp[apj];apply aa.ret;simp[WQ]
def pre(st:Int):Nat->Int
 |0=>0
 |n+1=>pre st n+st-n
def d5{st:Int}(h:st<=1000):∀n:Nat,(n:Int)<=st->0<=pre st n/\pre st n<=1000*n
 |0,_=>by simp[pre]
 |n+1,hn=>by
  have:=d5 h n (by omega);simp only[pre];omega
def t40{Γ:kv}(aq:aw ap Γ)(n:ay)(l:aF)(f t:Int)(h1:l.am<=1000)(h2:0<=f)(h3:f<=t)(h4:t<l.am)(h5:0<=n.ae)(h6:n.ae<=1000):
  aJ ap 123 [n.enc,l.enc,ti f,ti t] (ti ((pre l.am f.toNat+t-f)*n.ae)):=by
 refine c40.ok (by simp) (aH ?_);simp[ay.enc,aF.enc];apply aa.ai aq fw [2,3,4,5,8];simp[apn];apply aa.ai aq fw [2,3,4,5,9];simp[apo];apply aa.sq aq fw [2,3,4,5,9,10];simp[app];apply aa.block;refine aa.loop (λy:Nat=>⟨DM.look [(2,.v (ti f)),(3,.v (ti t)),(4,.ptr 1005 0),(5,.ptr 1006 0),(9,.v (ti (pre l.am y))),(10,.v (ti y))],cR [(1006,.box [.v (ti l.am),.v (.sl (bq l.aK)),.v (.sl (au l.bj))]),(1005,.box [.v (ti n.aX),.v (ti n.ae),.v (ti n.start),.v (.sl (aQ n.aj))])],2000,1000,[]⟩)
  (λy=>(y:Int)<=f) (λy=>f.toNat-y) 0 (Le.aL ?_ ?_ ?_ ?_) (by simpa using h2) (λy hy=>?_)
 iterate 3(·simp)
 ·simp[pre]
 have hb:=d5 h1 y (by omega);apply aa.seq;apply aa.seq;apply aa.cZ aq fw [2,3,4,5,9,10,13];simp[apq];refine aa.cond (by simp;rfl) (λh=>?_) (λh=>?_)
 ·apply aa.skip;simp at h;simp;apply aa.seq;apply aa.block;apply aa.cZ aq fw [2,3,4,5,9,10];simp[apr];apply aa.cZ aq fw [2,3,4,5,9,10];simp[aps];refine⟨y+1,Le.aL ?_ ?_ ?_ ?_, ?_, ?_⟩;iterate 3(·simp)
  ·simp[pre];simp (disch:=omega) only[av];exact⟨trivial,trivial⟩
  ·omega
  ·omega
 ·apply aa.exit;simp at h;simp;have hyf:(y:Int)=f:=by omega
  apply aa.ai aq fw [8];simp[apt];apply aa.ret;simp[dI];have fI:f.toNat=y:=by omega
  have hm:0<=(pre l.am y+t-f)*n.ae/\(pre l.am y+t-f)*n.ae<=2000000*1000:=by
   have h7:0<=pre l.am y+t-f:=by omega
   have h8:pre l.am y+t-f<=2000000:=by omega
   exact⟨Zcu h7 h5,ZdF h8 h6 h5 (by omega)⟩
  rw[fI];simp (disch:=omega) only[av]
def SA:aG->T
 |[.agg [_,nt,_,_],.agg [st,_,_]]=>.agg [nt,st]
 |_=>.bool false
def Wi(ts:aG):Prop:=∃(n:ay) (l:aF),ts=[n.enc,l.enc]
def wH:DM.Spec:=bp Wi SA true
def sm(nt st:Int):Prop:=0<=nt/\nt<=1000/\0<=st/\st<=1000
def b7(nt st:Int):Int:=nt*st*(st+1)/2
def fG(nt st h f t:Int):Int:=(f*st-f*(f-1)/2+t-f)*nt+h
def Wj:aG->T
 |[.agg [.int _ nt,.int _ st]]=>ti (b7 nt st)
 |_=>.bool false
def Kf:aG->Prop
 |[.agg [.int .i64 nt,.int .i64 st]]=>sm nt st
 |_=>False
def zk:DM.Spec:=bp Kf Wj true
def SB:aG->T
 |[.agg [.int _ nt,.int _ st],.int _ h,.int _ f,.int _ t]=>ti (fG nt st h f t)
 |_=>.bool false
def Kh:aG->Prop
 |[.agg [.int .i64 nt,.int .i64 st],.int .i64 h,.int .i64 f,.int .i64 t]=>sm nt st/\0<=h/\h<=1000/\0<=f/\f<=1000/\0<=t/\t<=1000
 |_=>False
def uk:DM.Spec:=bp Kh SB true
def gM{a b m n:Int}(h1:0<=a)(h2:a<=m)(h3:0<=b)(h4:b<=n):0<=a*b/\a*b<=m*n:=
 ⟨Zcu h1 h3,ZdF h2 h4 h3 (by omega)⟩
def t33{Γ:kv}(aq:aw ap Γ)(nt st:Int)(h:sm nt st):aJ ap 63 [.agg [ti nt,ti st]] (ti (b7 nt st)):=by
 obtain⟨h1,h2,h3,h4⟩:=h;have b1:=gM h1 h2 h3 h4;have b2:=gM b1.1 b1.2 (b:=st+1) (n:=1001) (by omega) (by omega);refine c33.ok (by simp) (aH ?_);simp;apply aa.ai aq fw [1];simp[WR];apply aa.ai aq fw [2];simp[WS];apply aa.ret;simp[Dw,b7];simp (disch:=omega) only[av];rw[Zb3 b2.1,av (by omega)]
def t37{Γ:kv}(aq:aw ap Γ)(nt st hd f t:Int)(h:sm nt st)(k:0<=hd/\hd<=1000/\0<=f/\f<=1000/\0<=t/\t<=1000):aJ ap 67 [.agg [ti nt,ti st],ti hd,ti f,ti t] (ti (fG nt st hd f t)):=by
 obtain⟨h1,h2,h3,h4⟩:=h;obtain⟨k1,k2,k3,k4,k5,k6⟩:=k;have b1:=gM k3 k4 h3 h4;have b2:0<=f*(f-1)/\f*(f-1)<=1000000:=by
  by_cases hf:f=0
  ·subst hf;simp
  ·have:=gM k3 k4 (b:=f-1) (n:=1000) (by omega) (by omega);omega
 have b3: -10000000*1000<=(f*st-f*(f-1)/2+t-f)*nt/\(f*st-f*(f-1)/2+t-f)*nt<=20000000*1000:=by
  have e1: -10000000<=f*st-f*(f-1)/2+t-f/\f*st-f*(f-1)/2+t-f<=10000000:=by omega
  generalize f*st-f*(f-1)/2+t-f=x at e1;have g1:=gM (a:=x+10000000) (m:=20000000) (b:=nt) (n:=1000) (by omega) (by omega) h1 h2;have g2:(x+10000000)*nt=x*nt+10000000*nt:=ZcW ..;omega
 refine c37.ok (by simp) (aH ?_);simp;apply aa.ai aq fw [1,2,3,4];simp[JQ];apply aa.ai aq fw [1,2,3,4,9];simp[vR];apply aa.ai aq fw [8];simp[JR];apply aa.ret;simp[rY,fG];simp (disch:=omega) only[av];rw[Zb3 b2.1];simp (disch:=omega) only[av]
def Γ1:kv:=bz [(62,wH),(63,zk),(67,uk)]
def ok1:aw ap Γ1:=by
 refine aw.cons (aw.cons (aw.cons aw.nil ?_) ?_) ?_
 ·intro ts h
  match ts,h with
  |[.agg [.int .i64 nt,.int .i64 st],.int .i64 h,.int .i64 f,.int .i64 t],h1=>exact⟨t37 aw.nil nt st h f t h1.1 h1.2,λ_=>rfl⟩
 ·intro ts h
  match ts,h with
  |[.agg [.int .i64 nt,.int .i64 st]],h1=>exact⟨t33 aw.nil nt st h1,λ_=>rfl⟩
 ·rintro ts ⟨n,l,rfl⟩;exact⟨t32 aw.nil n l,λ_=>rfl⟩
def br(nt st h f t:Int):Prop:=¬(h<0\/nt<=h\/f<0\/t<f\/st<=t)
instance(nt st h f t:Int):Decidable (br nt st h f t):=by unfold br;infer_instance
def t15(n:ay)(l:aF)(h f t:Int)(hs:sm n.ae l.am):aJ ap 170 [n.enc,l.enc,.agg [ti h,ti f,ti t]]
  (if br n.ae l.am h f t then .dh [ti (fG n.ae l.am h f t),.bool true]else .dh [ti 0,.bool false]):=by
 have aq:=ok1;refine c15.ok (by simp) (aH ?_);simp[ay.enc,aF.enc];apply aa.ai aq fw [3,4,5];simp[apk];apply aa.sq aq fw [3,4,5,36];simp[apl];repeat' (first|apply And.intro|intro _)
 all_goals try (
  refine aa.cond (by simp;rfl) (λ_=>?_) (λh=>by cases h);apply aa.ai aq fw [6,7];simp[aeu];apply aa.ret;have hn:¬br n.ae l.am h f t:=by unfold br;omega
  simp[HA,hn]
  done)
 rename_i a1 a2 a3 a4;refine aa.cond (by simp;rfl) (λhc=>?_) (λhc=>?_)
 ·simp at hc;have hn:¬br n.ae l.am h f t:=by unfold br;omega
  apply aa.ai aq fw [6,7];simp[aeu];apply aa.ret;simp[HA,hn]
 ·simp at hc;have hn:br n.ae l.am h f t:=by unfold br;omega
  obtain⟨h1,h2,h3,h4⟩:=hs;apply aa.skip;simp;apply aa.ai aq fw [6,7];simp[apm,Γ1,wH,uk,SA,SB,Kh];refine⟨⟨n,l,rfl⟩,⟨⟨h1,h2,h3,h4⟩,by omega⟩, ?_⟩;apply aa.ret;simp[HA,hn]
section
variable{st nt h f:Int}
def WZ{st:Int}{a:Nat}:∀b:Nat,a<=b->(b:Int)<=st->pre st a<=pre st b
 |0,h,_=>by
  have:a=0:=by omega
  subst this;exact AF _
 |b+1,h,hb=>by
  by_cases e:a=b+1
  ·subst e;exact AF _
  ·have:=WZ (st:=st) (a:=a) b (by omega) (by omega);simp only[pre];omega
def Nv{a b:Nat}(h:a<b)(hb:(b:Int)<=st):pre st a+st-a<=pre st b:=by
 have:=WZ (st:=st) (a:=a+1) b h hb;simpa [pre]using this
def mV(st:Int):∀n:Nat,2*pre st n=2*(n*st)-n*(n-1)
 |0=>by simp[pre]
 |n+1=>by
  have ih:=mV st n;simp only[pre];have e1:((n+1:Nat):Int)*st=n*st+st:=by rw[Int.natCast_add,ZcW];simp
  have e2:((n+1:Nat):Int)*(((n+1:Nat):Int)-1)=n*(n-1)+2*n:=by
   have:((n+1:Nat):Int)-1=n:=by omega
   rw[this,Int.natCast_add,ZcW,Int.mul_sub];simp;omega
  rw[e1,e2];omega
def bP(st f t:Int):Int:=pre st f.toNat+t-f
def mU{t:Int}(hf:0<=f):fG nt st h f t=bP st f t*nt+h:=by
 have:=mV st f.toNat;have e:(f.toNat:Int)=f:=by omega
 rw[e]at this;unfold fG bP;have:f*st-f*(f-1)/2=pre st f.toNat:=by omega
 rw[this]
def u5(hs:0<=st):b7 nt st=pre st st.toNat*nt:=by
 have:=mV st st.toNat;have e:(st.toNat:Int)=st:=by omega
 rw[e]at this;unfold b7;have h2:st*(st+1)=2*pre st st.toNat:=by
  rw[Int.mul_add,Zdz];rw[Int.mul_sub,Zdz]at this;omega
 rw[Int.mul_assoc,h2,<-Int.mul_assoc,ZcC nt 2,Int.mul_assoc,Int.mul_ediv_cancel_left _ (by omega),ZcC]
def Dq{t:Int}(h1:st<=1000)(hf:0<=f)(yF:f<=t)(ht:t<st):0<=bP st f t/\bP st f t<pre st st.toNat/\pre st st.toNat<=1000000:=by
 have b:=d5 h1 f.toNat (by omega);have b2:=d5 h1 st.toNat (by omega);have l:=Nv (st:=st) (a:=f.toNat) (b:=st.toNat) (by omega) (by omega);unfold bP;omega
def F8{t s u:Int}(hs:0<=s)(hf:s<f)(ZN:f<=st)(yF:f<=t)(hu:u<st):bP st s u<bP st f t:=by
 have l:=Nv (st:=st) (a:=s.toNat) (b:=f.toNat) (by omega) (by omega);unfold bP;omega
def Lq{x:Int}(h1:0<=h)(h2:h<nt):(x*nt+h)/nt=x/\(x*nt+h) % nt=h:=by
 rw[Int.ediv_emod_unique (by omega)];exact⟨by rw[ZcC nt x];omega,h1,h2⟩
def Om{i:Int}(h:sm nt st)(hi:0<=i)(hg:i<b7 nt st):∃hd f t,br nt st hd f t/\i=bP st f t*nt+hd:=by
 obtain⟨h1,h2,h3,h4⟩:=h;rw[u5 h3]at hg;have JH:0<nt:=by
  by_cases e:nt=0
  ·subst e;simp at hg;omega
  ·omega
 have hd:i/nt*nt+i % nt=i:=by rw[ZcC];exact Int.mul_ediv_add_emod i nt
 have hm:=Int.emod_nonneg i (show nt≠0 by omega);have Ij:=Int.emod_lt_of_pos i JH;have hq:0<=i/nt:=Int.ediv_nonneg hi h1;have ZO:i/nt<pre st st.toNat:=Int.ediv_lt_of_lt_mul JH hg;have key:∀n:Nat,(n:Int)<=st->∀q,0<=q->q<pre st n->∃f t,0<=f/\f<=t/\t<st/\q=bP st f t:=by
  intro n;induction n with
  |zero=>intro _ q h0 hq;simp[pre]at hq;omega
  |succ n ih=>
   intro hn q h0 hq;by_cases cQ:q<pre st n
   ·exact ih (by omega) q h0 cQ
   ·refine⟨n,q-pre st n+n,by omega,by omega, ?_, ?_⟩
    ·simp only[pre]at hq;omega
    ·simp[bP];omega
 obtain⟨f,t,k1,k2,k3,k4⟩:=key st.toNat (by omega) (i/nt) hq ZO;refine⟨i % nt,f,t, ?_,by rw[<-k4];exact hd.symm⟩;unfold br;omega
def pe(h:sm nt st):0<=b7 nt st/\b7 nt st<=1000000000:=by
 obtain⟨h1,h2,h3,h4⟩:=h;rw[u5 h3];have b:=d5 h4 st.toNat (by omega);have:=gM (a:=pre st st.toNat) (m:=1000000) b.1 (by omega) h1 h2;omega
def jG{hd t:Int}(h:sm nt st)(hi:br nt st hd f t):0<=bP st f t*nt+hd/\bP st f t*nt+hd<b7 nt st:=by
 obtain⟨h1,h2,h3,h4⟩:=h;unfold br at hi;rw[u5 h3];have b:=Dq (st:=st) (f:=f) (t:=t) h4 (by omega) (by omega) (by omega);have g1:=Zcu b.1 h1;have g2:(bP st f t+1)*nt<=pre st st.toNat*nt:=ZbS (by omega) h1;rw[ZcW]at g2;omega
def atu(n:ay)(l:aF)(h f t:Int)(hs:sm n.ae l.am)(hi:br n.ae l.am h f t):
  aJ ap 172 [n.enc,l.enc,ti (bP l.am f t*n.ae+h)] (.dh [.agg [ti h,ti f,ti t],.bool true]):=by
 have aq:=ok1;have hr:=jG hs hi;have hgb:=pe hs;have wY:=hi;unfold br at wY;have LQ:=hs;obtain⟨h1,h2,h3,h4⟩:=LQ;have hdm:=Lq (x:=bP l.am f t) (nt:=n.ae) (h:=h) (by omega) (by omega);have hsp:=Dq (st:=l.am) (f:=f) (t:=t) h4 (by omega) (by omega) (by omega);generalize hii:bP l.am f t*n.ae+h=i at*
 refine c16.ok (by simp) (aH ?_);simp[ay.enc,aF.enc];apply aa.ai aq fw [2,3,4,6];simp[aew];apply aa.sq aq fw [2,3,4,6,19];simp[aex,Γ1,wH,zk,SA,Wj,Kf];refine⟨λ_=>⟨⟨n,l,rfl⟩,hs, ?_⟩,λhc=>by omega⟩;refine aa.cond (by simp;rfl) (λhc=>?_) (λhc=>?_)
 ·simp at hc;omega
 ·apply aa.skip;simp;apply aa.ai aq fw [2,3,4,6,8];simp[apy];refine⟨by omega, ?_⟩;rw[Zb3 hr.1,hdm.1,av (by omega)];apply aa.ai aq fw [2,3,4,6,8,9];simp[apz];apply aa.seq;apply aa.block;refine aa.loop (λy:Nat=>⟨DM.look [(2,.v (ti i)),(3,.ptr 1004 0),(4,.ptr 1005 0),(6,.ptr 1007 0),(8,.v (ti (bP l.am f t-pre l.am y))),(9,.v (ti y))],
    cR [(1007,.box [.v (ti 0),.v (ti 0),.v (ti 0)]),(1005,.box [.v (ti l.am),.v (.sl (bq l.aK)),.v (.sl (au l.bj))]),(1004,.box [.v (ti n.aX),.v (ti n.ae),.v (ti n.start),.v (.sl (aQ n.aj))])],2000,1000,[]⟩)
   (λy=>(y:Int)<=f) (λy=>f.toNat-y) 0 (Le.aL ?_ ?_ ?_ ?_) (by simp;omega) (λy hy=>?_)
  iterate 3(·simp)
  ·simp[pre]
  have hb:=d5 h4 y (by omega);have hsf:y<f.toNat->pre l.am y+l.am-y<=pre l.am f.toNat:=λe=>Nv e (by omega);have Pr:bP l.am f t=pre l.am f.toNat+t-f:=rfl;apply aa.sq aq fw [2,3,4,6,8,9,30];simp[apA];rw[av (x:=l.am-(y:Int)) (by omega)];refine aa.cond (by simp;rfl) (λhc=>?_) (λhc=>?_)
  ·apply aa.skip;simp at hc;simp;have cQ:y<f.toNat:=by
    by_cases e:y=f.toNat
    ·subst e;omega
    ·omega
   apply aa.block;apply aa.ai aq fw [2,3,4,6,8,9];simp[apB];apply aa.cZ aq fw [2,3,4,6,8,9];simp[apC];refine⟨y+1,Le.aL ?_ ?_ ?_ ?_, ?_, ?_⟩;iterate 3(·simp)
   ·simp[pre];simp (disch:=omega) only[av];exact⟨by omega,trivial⟩
   ·omega
   ·omega
  ·apply aa.exit;simp at hc;simp;have hyf:y=f.toNat:=by
    by_cases e:y<f.toNat
    ·have:=hsf e;omega
    ·omega
   subst hyf;apply aa.ai aq fw [6,7];simp[apD];refine⟨by omega, ?_⟩;apply aa.ret;simp[Ns];rw[Zdn hr.1,hdm.2,av (by omega)];omega
def att(n:ay)(l:aF)(i:Int)(hs:sm n.ae l.am)(hi:i<0\/b7 n.ae l.am<=i):
  aJ ap 172 [n.enc,l.enc,ti i] (.dh [.agg [ti 0,ti 0,ti 0],.bool false]):=by
 have aq:=ok1;refine c16.ok (by simp) (aH ?_);simp[ay.enc,aF.enc];apply aa.ai aq fw [2,3,4,6];simp[aew];apply aa.sq aq fw [2,3,4,6,19];simp[aex,Γ1,wH,zk,SA,Wj,Kf];refine⟨λ_=>⟨⟨n,l,rfl⟩,hs, ?_⟩,λhc=>?_⟩;all_goals
  refine aa.cond (by simp;rfl) (λhc=>?_) (λhc=>?_)
  ·apply aa.ai aq fw [6,7];simp[apx];apply aa.ret;simp[Ns]
  ·simp at hc<;>omega
end
def t39{Γ:kv}(aq:aw ap Γ)(n:ay)(l:aF)(hs:sm n.ae l.am):aJ ap 80 [n.enc,l.enc] (ti (b7 n.ae l.am+1)):=by
 have hgb:=pe hs;obtain⟨h1,h2,h3,h4⟩:=hs;have b1:=gM h3 h4 (b:=l.am+1) (n:=1001) (by omega) (by omega);have Ba:b7 n.ae l.am=l.am*(l.am+1)/2*n.ae:=by
  rw[u5 h3];have:=mV l.am l.am.toNat;have e:(l.am.toNat:Int)=l.am:=by omega
  rw[e,Int.mul_sub,Zdz]at this;have h2:l.am*(l.am+1)/2=pre l.am l.am.toNat:=by
   rw[Int.mul_add,Zdz];omega
  rw[h2]
 refine c39.ok (by simp) (aH ?_);simp[ay.enc,aF.enc];apply aa.ai aq fw [2,3];simp[WT];apply aa.ai aq fw [4];simp[WU];apply aa.ret;simp[dI];rw[av (x:=l.am+1) (by omega),av (x:=l.am*(l.am+1)) (by omega),Zb3 b1.1,av (x:=l.am*(l.am+1)/2) (by omega),<-Ba,av (x:=b7 n.ae l.am) (by omega),av (by omega)]
def auO:aG->T
 |[.agg [_,.int _ nt,_,_],.agg [.int _ st,_,_]]=>ti (b7 nt st+1)
 |_=>.bool false
def apE(ts:aG):Prop:=∃(n:ay) (l:aF),ts=[n.enc,l.enc]/\sm n.ae l.am
def Nw:DM.Spec:=bp apE auO true
def apF:aG->T
 |[.agg [_,.int _ nt,_,_],.agg [.int _ st,_,_],.int _ f,.int _ t]=>ti (bP st f t*nt)
 |_=>.bool false
def apG(ts:aG):Prop:=∃(n:ay) (l:aF) (f t:Int),ts=[n.enc,l.enc,ti f,ti t]/\sm n.ae l.am/\0<=f/\f<=t/\t<l.am
def W0:DM.Spec:=bp apG apF true
def Γ2:kv:=bz [(80,Nw),(123,W0)]
def ok2:aw ap Γ2:=by
 refine aw.cons (aw.cons aw.nil ?_) ?_
 ·rintro ts ⟨n,l,f,t,rfl,⟨h1,h2,h3,h4⟩,k1,k2,k3⟩;exact⟨t40 aw.nil n l f t h4 k1 k2 k3 h1 h2,λ_=>rfl⟩
 ·rintro ts ⟨n,l,rfl,h1⟩;exact⟨t39 aw.nil n l h1,λ_=>rfl⟩
def t18(n:ay)(l:aF)(h f t:Int)(hs:sm n.ae l.am):aJ ap 81 [n.enc,l.enc,.agg [ti h,ti f,ti t]]
  (if br n.ae l.am h f t then .dh [ti (fG n.ae l.am h f t),.bool true]else .dh [ti 0,.bool false]):=by
 have aq:=ok2;refine c18.ok (by simp) (aH ?_);simp[ay.enc,aF.enc];apply aa.ai aq fw [3,4,5];simp[apu];apply aa.sq aq fw [3,4,5,36];simp[apv];repeat' (first|apply And.intro|intro _)
 all_goals try (
  refine aa.cond (by simp;rfl) (λ_=>?_) (λh=>by cases h);apply aa.ai aq fw [6,7];simp[aev];apply aa.ret;have hn:¬br n.ae l.am h f t:=by unfold br;omega
  simp[HB,hn]
  done)
 rename_i a1 a2 a3 a4;refine aa.cond (by simp;rfl) (λhc=>?_) (λhc=>?_)
 ·simp at hc;have hn:¬br n.ae l.am h f t:=by unfold br;omega
  apply aa.ai aq fw [6,7];simp[aev];apply aa.ret;simp[HB,hn]
 ·simp at hc;have hn:br n.ae l.am h f t:=by unfold br;omega
  have sW:=jG hs hn;have hgb:=pe hs;apply aa.skip;simp;apply aa.ai aq fw [6,7];simp[apw,Γ2,W0,apF];refine⟨⟨n,l,f,t,rfl,hs,by omega,by omega,by omega⟩, ?_⟩;apply aa.ret;simp[HB,hn];rw[mU (by omega),av (by omega)]
instance:Inhabited bC:=⟨⟨0,0,0,0,0,0⟩⟩
instance:Inhabited Edge:=⟨⟨0,[],0,0,0⟩⟩
@[simp] def aeC(l:ba):(au l).length=l.length:=by simp[au]
@[simp] def aeD(l:List bF):(bq l).length=l.length:=by simp[bq]
@[simp] def aaT(l:List bC):(aQ l).length=l.length:=by simp[aQ]
@[simp] def aaU(l:List Edge):(ch l).length=l.length:=by simp[ch]
def fE{l:List bC}{y:Nat}(h:y<l.length):DM.rowAt (aQ l) y=(l.getD y default).enc:=by simp[DM.rowAt,aQ,h]
def Kl{l:List Edge}{y:Nat}(h:y<l.length):DM.rowAt (ch l) y=(l.getD y default).enc:=by simp[DM.rowAt,ch,h]
abbrev kA:Int:=1099511627776
def PD(f t m f' t' m':Int):Bool:=if f≠f' then decide (f<f')else if t≠t' then decide (t<t')else decide (m<m')
abbrev cb(a b:bF):Bool:=PD a.f a.t a.term b.f b.t b.term
def W3(l:aF)(i:Nat):Bool:=decide (0<=l.bj.getD i default/\l.bj.getD i default<=kA)
def zl(l:aF)(aX:Int)(i:Nat):Prop:=
 (l.aK.getD i default).f<0\/(l.aK.getD i default).t<(l.aK.getD i default).f\/l.am<=(l.aK.getD i default).t\/(l.aK.getD i default).term<0\/aX<=(l.aK.getD i default).term\/
  (l.aK.getD i default).aA<0\/kA<=(l.aK.getD i default).aA\/((l.aK.getD i default).f=(l.aK.getD i default).t/\(l.aK.getD i default).aA=0)\/(0<i/\cb (l.aK.getD (i-1) default) (l.aK.getD i default)=false)
instance(l:aF)(aX:Int)(i:Nat):Decidable (zl l aX i):=by unfold zl;infer_instance
def W4(l:aF)(aX:Int)(i:Nat):Bool:= !decide (zl l aX i)
def Nx(l:aF)(aX:Int):Bool:=decide (1<=l.am/\(l.bj.length:Int)=l.am)&&((List.range l.bj.length).all (W3 l)&&(List.range l.aK.length).all (W4 l aX))
def sS{p:Nat->Bool}{n i:Nat}(h:i<n)(hp:p i=false):(List.range n).all p=false:=by
 rw[List.all_eq_false];exact⟨i,by simp[h],by simp[hp]⟩
def Dz{p:Nat->Bool}{n:Nat}(h:∀i,i<n->p i=true):(List.range n).all p=true:=by
 rw[yS];intro i hi;exact h i (by simpa using hi)
def sd(n:ay):Prop:=n.aX<0\/120<n.aX\/n.ae<1\/1000<n.ae\/n.start<0\/n.ae<=n.start\/600<(n.aj.length:Int)
instance(n:ay):Decidable (sd n):=by unfold sd;infer_instance
def fa(n:ay)(r:bC):Prop:=r.head<0\/n.ae<=r.head\/r.bi<0\/1000<r.bi\/r.origin< -1
instance(n:ay)(r:bC):Decidable (fa n r):=by unfold fa;infer_instance
def fX(n:ay)(r:bC):Prop:=
 (r.kind=1/\r.a=0/\r.b=0)\/(r.kind=2/\0<=r.a/\r.a<n.aX/\r.b=0)\/(r.kind=3/\0<=r.a/\r.a<n.ae/\r.b=0)\/(r.kind=4/\0<=r.a/\r.a<n.ae/\0<=r.b/\r.b<n.ae)
instance(n:ay)(r:bC):Decidable (fX n r):=by unfold fX;infer_instance
def sg(n:ay)(i:Nat):Bool:=decide (¬fa n (n.aj.getD i default)/\fX n (n.aj.getD i default))
def fk(n:ay):Bool:= !decide (sd n)&&(List.range n.aj.length).all (sg n)
def t44{Γ:kv}(aq:aw ap Γ)(n:ay)(hl:n.aj.length<=9223372036854775807):aJ ap 41 [n.enc] (.bool (fk n)):=by
 refine c44.ok (by simp) (aH ?_);simp[ay.enc];apply aa.ai aq fw [1];simp[IL];apply aa.seq;refine aa.bL aq fw [(1,.ptr 1002 0),(41,.v (.bool (decide (sd n))))] ?_ ?_
 ·simp[IN];repeat' (first|apply And.intro|intro _)
  all_goals first|omega|(simp[sd];omega)|(rename_i hh;revert hh;simp[sd];omega)
 refine aa.cond rfl (λh=>?_) (λh=>?_)
 ·apply aa.ai aq fw [2];simp[VH];apply aa.ret;simp[mN,fk,h]
 simp only[pn]at h;apply aa.skip;simp;apply aa.sq aq fw [1,3];simp[IP];apply aa.block;refine aa.loop (λy:Nat=>⟨DM.look [(1,.ptr 1002 0),(3,.v (ti y))],cR [(1002,.box [.v (ti n.aX),.v (ti n.ae),.v (ti n.start),.v (.sl (aQ n.aj))])],2000,1000,[]⟩)
  (λy=>y<=n.aj.length/\∀i,i<y->sg n i=true) (λy=>n.aj.length-y) 0 (Le.aL ?_ ?_ ?_ ?_) (by simp) (λy hy=>?_)
 iterate 4(·simp)
 obtain⟨vy,fI⟩:=hy;apply aa.sq aq fw [1,3,46];simp[IQ];refine aa.cond rfl (λhc=>?_) (λhc=>?_)
 ·simp at hc;apply aa.skip;simp;apply aa.seq;apply aa.block;apply aa.ai aq fw [1,3,4];have gf:=fE hc;simp[BO,gf,hc,bC.enc];obtain⟨r,hr⟩:=aY (n.aj[y]);simp only[hr];have hgd:n.aj.getD y default=r:=by simp[hc,hr]
  apply aa.seq;refine aa.bL aq fw [(1,.ptr 1002 0),(3,.v (ti y)),(4,.ptr 2157 0),(78,.v (.bool (decide (fa n r))))] ?_ ?_
  ·simp[IR];repeat' (first|apply And.intro|intro _)
   all_goals first|omega|(simp[fa];omega)|(rename_i hh;revert hh;simp[fa];omega)|trace_state
  refine aa.cond rfl (λh2=>?_) (λh2=>?_)
  ·apply aa.ai aq fw [2];simp[IS];apply aa.ret;simp only[j2]at h2;have:=sS (p:=sg n) hc (by unfold sg;rw[hgd];simp[h2]);simp[mN,fk,this]
  ·simp only[pn]at h2;apply aa.skip;simp;apply aa.ai aq fw [1,3,4,5];simp[BP];apply aa.sq aq fw [1,3,4,5,80];simp[TX];refine aa.to ⟨DM.look [(1,.ptr 1002 0),(3,.v (ti y)),(5,.v (.bool (decide (fX n r))))],cR [(1002,.box [.v (ti n.aX),.v (ti n.ae),.v (ti n.start),.v (.sl (aQ n.aj))])],9000,1000,[]⟩ ?_ ?_
   ·apply aa.block;apply aa.ai aq fw [1,3,4,5,80,81];simp[LC];refine aa.cond rfl (λe1=>?_) (λe1=>?_)
    ·simp only[j2]at e1;refine aa.qV aq fw [(1,.ptr 1002 0),(3,.v (ti y)),(5,.v (.bool (decide (fX n r))))] ?_ ?_
     rotate_left
     ·simp only[p6];refine⟨trivial,Le.aL ?_ ?_ ?_ ?_⟩<;>simp
     ·simp[LD,fX,e1];repeat' (first|apply And.intro|intro _)
      all_goals first|omega|(rename_i hh;simp[hh])
    simp only[pn]at e1;apply aa.ai aq fw [1,3,4,5,80,91];simp[LG];refine aa.cond rfl (λe2=>?_) (λe2=>?_)
    ·simp only[j2]at e2;refine aa.qV aq fw [(1,.ptr 1002 0),(3,.v (ti y)),(5,.v (.bool (decide (fX n r))))] ?_ ?_
     rotate_left
     ·simp only[p6];refine⟨trivial,Le.aL ?_ ?_ ?_ ?_⟩<;>simp
     ·simp[Gn,fX,e2];repeat' (first|apply And.intro|intro _)
      all_goals first|omega|(rw[ZV];simp;omega)
    simp only[pn]at e2;apply aa.ai aq fw [1,3,4,5,80,108];simp[LI];refine aa.cond rfl (λe3=>?_) (λe3=>?_)
    ·simp only[j2]at e3;refine aa.qV aq fw [(1,.ptr 1002 0),(3,.v (ti y)),(5,.v (.bool (decide (fX n r))))] ?_ ?_
     rotate_left
     ·simp only[p6];refine⟨trivial,Le.aL ?_ ?_ ?_ ?_⟩<;>simp
     ·simp[LJ,fX,e3];repeat' (first|apply And.intro|intro _)
      all_goals first|omega|(rw[ZV];simp;omega)
    simp only[pn]at e3;apply aa.ai aq fw [1,3,4,5,125];simp[Gm];refine aa.cond rfl (λe4=>?_) (λe4=>?_)
    ·simp only[j2]at e4;refine aa.qV aq fw [(1,.ptr 1002 0),(3,.v (ti y)),(5,.v (.bool (decide (fX n r))))] ?_ ?_
     rotate_left
     ·simp only[p6];refine⟨trivial,Le.aL ?_ ?_ ?_ ?_⟩<;>simp
     ·simp[LK,fX,e4];repeat' (first|apply And.intro|intro _)
      all_goals first|omega|(rw[ZV];simp;omega)
    ·simp only[pn]at e4;have hb:¬fX n r:=by unfold fX;omega
     apply aa.skip;simp only[p6];refine⟨trivial,Le.aL ?_ ?_ ?_ ?_⟩<;>simp[hb]
   simp;apply aa.ai aq fw [1,3,150];simp[LL];refine aa.cond rfl (λh3=>?_) (λh3=>?_)
   ·apply aa.ai aq fw [2];simp[aie];apply aa.ret;simp only[Fb,pn]at h3;have:=sS (p:=sg n) hc (by unfold sg;rw[hgd];simp[h3]);simp[mN,fk,this]
   ·simp only[Zdk,j2]at h3;apply aa.skip;simp;apply aa.cZ aq fw [1,3];simp[aif];refine⟨y+1,Le.aL ?_ ?_ ?_ ?_,⟨?_, ?_⟩, ?_⟩;iterate 3(·simp)
    ·simp;exact(av (by omega)).symm
    ·omega
    ·intro i hi;by_cases e:i=y
     ·subst e;unfold sg;rw[hgd];simp[h2,h3]
     ·exact fI i (by omega)
    ·omega
 ·simp at hc;have dJ:=Dz (p:=sg n) (n:=n.aj.length) (λi hi=>fI i (by omega));apply aa.exit;simp;apply aa.ai aq fw [2];simp[aig];apply aa.ret;simp[mN,fk,dJ,h]
attribute [simp] dg
def i9:aG->bC
 |[a,b,c,d,e,f]=>⟨dg a,dg b,dg c,dg d,dg e,dg f⟩
 |_=>default
def kP(l:List (aG)):List bC:=l.map i9
@[simp] def Ho(l:List bC):kP (aQ l)=l:=ja (λ_=>rfl) l
def mt:T->ay
 |.agg [a,b,c,.sl r]=>⟨dg a,dg b,dg c,kP r⟩
 |_=>⟨0,0,0,[]⟩
@[simp] def Sq(a b c:Int)(l:List bC):mt (.agg [ti a,ti b,ti c,.sl (aQ l)])=⟨a,b,c,l⟩:=by simp[mt]
@[simp] def Wa(n:ay):mt n.enc=n:=by simp[ay.enc]
def aih:aG->T
 |[n]=>.bool (fk (mt n))
 |_=>.bool false
def apH(ts:aG):Prop:=∃n:ay,ts=[n.enc]/\n.aj.length<=9223372036854775807
def Γ4:kv:=bz [(41,bp apH aih true)]
def ok4:aw ap Γ4:=by
 refine aw.cons aw.nil ?_;rintro ts ⟨n,rfl,h⟩;exact⟨by simpa [aih]using t44 aw.nil n h,λ_=>rfl⟩
def qb(n:ay):Bool:=decide (n.ae<=14/\(n.aj.length:Int)<=24/\n.aX<=6)&&fk n
def t30(n:ay)(hl:n.aj.length<=9223372036854775807):aJ ap 77 [n.enc] (.bool (qb n)):=by
 have aq:=ok4;refine c30.ok (by simp) (aH ?_);simp[ay.enc];apply aa.ai aq fw [1,2];simp[WV];refine aa.bL aq fw [(2,.v (.bool (qb n)))] ?_ ?_
 ·simp[WX,Γ4,aih,bp];repeat' (first|apply And.intro|intro _)
  all_goals first|exact⟨n,rfl,hl⟩|(simp[qb, *];done)|(simp[qb];intros;omega)
 apply aa.ret;simp[Dx]
def fair(n:ay)(l:aF):Bool:=qb n&&decide (l.am<=11/\(l.aK.length:Int)<=120)&&Nx l n.aX
end Go.Proofs.It
namespace Go.Proofs
namespace It
open Go.DM
def VV:=aB 22 0
def VW:=aB 22 1
def VX:=aB 22 2
def VY:=aB 22 3
def VZ:=aB 22 4
def V0:=aB 22 5
def aoE:=aB 22 6
def V2:=aB 22 7
def V3:=aB 22 8
def V4:=aB 22 9
def MQ:=aB 22 10
def MR:=aB 22 11
def MS:=aB 22 12
def MT:=aB 22 13
def MU:=aB 22 14
def agS:=aB 22 15
noncomputable def Ps:cA:=tj [65] 22 16
def agT:=aB 22 17
def agU:=aB 22 18
def agV:=aB 22 19
def agW:=aB 22 20
def agX:=aB 22 21
def agY:=aB 22 22
def agZ:=aB 22 23
def ag0:=aB 22 24
def ag1:=aB 22 25
def ag2:=aB 22 26
noncomputable def d11:DC:=fo 22
def C9:List cH:=[.cell 4 2 true]
def c11 [bD]:aR ap 22 88 d11 C9:=.at
noncomputable def Hx:cA:=tj [116] 65 0
noncomputable def d35:DC:=fo 65
def wI:List cH:=[]
def c35 [bD]:aR ap 65 9 d35 wI:=.at
def Wm:=aB 66 0
def FO:=aB 66 1
noncomputable def d36:DC:=fo 66
def c36 [bD]:aR ap 66 10 d36 (dI 4):=.at
def JP:=aB 114 0
def VQ:=aB 114 1
noncomputable def d46:DC:=fo 114
def nP:List cH:=[.cell 11 5 true]
def c46 [bD]:aR ap 114 25 d46 nP:=.at
def Wn:=aB 115 0
def Wo:=aB 115 1
def Wp:=aB 115 2
def Wq:=aB 115 3
def aoG:=aB 115 4
def Wr:=aB 115 5
def aoH:=aB 115 6
def aoI:=aB 115 7
def aes:=aB 115 8
def aoJ:=aB 115 9
def ag3:=aB 115 10
def ag4:=aB 115 11
def ag5:=aB 115 12
def ag6:=aB 115 13
def ag7:=aB 115 14
def ag8:=aB 115 15
def ag9:=aB 115 16
noncomputable def d47:DC:=fo 115
def Hy:List cH:=[]
def c47 [bD]:aR ap 115 111 d47 Hy:=.at
def Pt:=aB 116 0
def Pu:=aB 116 1
def Ki:=aB 116 2
noncomputable def Ws:cA:=tj [161] 116 3
def Wt:=aB 116 4
def aoK:=aB 116 5
noncomputable def Hz:cA:=tj [161] 116 6
def aet:=aB 116 7
def aoL:=aB 116 8
def aoM:=aB 116 9
noncomputable def Pv:cA:=tj [162] 116 10
def aha:=aB 116 11
def ahb:=aB 116 12
def ahc:=aB 116 13
def ahd:=aB 116 14
noncomputable def Pw:cA:=tj [162] 116 15
def ahe:=aB 116 16
noncomputable def d48:DC:=fo 116
def wJ:List cH:=[]
def c48 [bD]:aR ap 116 63 d48 wJ:=.at
def Px:=aB 161 0
def Kj:=aB 161 1
def Wu:=aB 161 2
def Kk:=aB 161 3
def aoN:=aB 161 4
def aoO:=aB 161 5
def aoP:=aB 161 6
noncomputable def d49:DC:=fo 161
def Dr:List cH:=[]
def c49 [bD]:aR ap 161 53 d49 Dr:=.at
def Wv:=aB 162 0
def Ww:=aB 162 1
def Py:=aB 162 2
def aoQ:=aB 162 3
def aoR:=aB 162 4
def aoS:=aB 162 5
def aoT:=aB 162 6
def aoU:=aB 162 7
def aoV:=aB 162 8
def aoW:=aB 162 9
def ahf:=aB 162 10
def ahg:=aB 162 11
def ahh:=aB 162 12
def ahi:=aB 162 13
def ahj:=aB 162 14
def ahk:=aB 162 15
def ahl:=aB 162 16
def ahm:=aB 162 17
def ahn:=aB 162 18
def aho:=aB 162 19
def ahp:=aB 162 20
def ahq:=aB 162 21
def ahr:=aB 162 22
def ahs:=aB 162 23
def aht:=aB 162 24
def ahu:=aB 162 25
def ahv:=aB 162 26
def ahw:=aB 162 27
def ahx:=aB 162 28
def ahy:=aB 162 29
def ahz:=aB 162 30
def ahA:=aB 162 31
def ahB:=aB 162 32
def ahC:=aB 162 33
def ahD:=aB 162 34
def ahE:=aB 162 35
def ahF:=aB 162 36
def ahG:=aB 162 37
def ahH:=aB 162 38
def ahI:=aB 162 39
noncomputable def Pz:cA:=tj [192] 162 40
def ahJ:=aB 162 41
noncomputable def PA:cA:=tj [162] 162 42
def ahK:=aB 162 43
noncomputable def PB:cA:=tj [162] 162 44
noncomputable def d50:DC:=fo 162
def um:List cH:=[]
def c50 [bD]:aR ap 162 220 d50 um:=.at
def aoX:=aB 192 0
def aoY:=aB 192 1
def aoZ:=aB 192 2
def ao0:=aB 192 3
noncomputable def Wx:cA:=tj [213] 192 4
def ao1:=aB 192 5
noncomputable def Wy:cA:=tj [213] 192 6
def ao2:=aB 192 7
noncomputable def Wz:cA:=tj [213] 192 8
noncomputable def d51:DC:=fo 192
def WA:List cH:=[]
def c51 [bD]:aR ap 192 58 d51 WA:=.at
def ao3:=aB 213 0
def ao4:=aB 213 1
def ao5:=aB 213 2
def ao6:=aB 213 3
noncomputable def d52:DC:=fo 213
def WB:List cH:=[]
def c52 [bD]:aR ap 213 38 d52 WB:=.at
def WC:=aB 64 0
def WD:=aB 64 1
def WE:=aB 64 2
def WF:=aB 64 3
def WG:=aB 64 4
noncomputable def d34:DC:=fo 64
def Dt:List cH:=[.fB 10]
def c34 [bD]:aR ap 64 24 d34 Dt:=.at
def WH:=aB 79 0
def PC:=aB 79 1
def ao7:=aB 79 2
def ao8:=aB 79 3
def ao9:=aB 79 4
def apa:=aB 79 5
def apb:=aB 79 6
def apc:=aB 79 7
def apd:=aB 79 8
def ape:=aB 79 9
def ahL:=aB 79 10
def ahM:=aB 79 11
def ahN:=aB 79 12
def ahO:=aB 79 13
def ahP:=aB 79 14
def ahQ:=aB 79 15
def ahR:=aB 79 16
def ahS:=aB 79 17
def ahT:=aB 79 18
def ahU:=aB 79 19
def ahV:=aB 79 20
def ahW:=aB 79 21
def ahX:=aB 79 22
def ahY:=aB 79 23
def ahZ:=aB 79 24
def ah0:=aB 79 25
def ah1:=aB 79 26
def ah2:=aB 79 27
def ah3:=aB 79 28
def ah4:=aB 79 29
def ah5:=aB 79 30
def ah6:=aB 79 31
def ah7:=aB 79 32
def ah8:=aB 79 33
def ah9:=aB 79 34
def aia:=aB 79 35
def aib:=aB 79 36
def aic:=aB 79 37
noncomputable def d38:DC:=fo 79
def Du:List cH:=[.fB 6]
def c38 [bD]:aR ap 79 190 d38 Du:=.at
def WI:=aB 30 0
def WJ:=aB 30 1
def WK:=aB 30 2
def apf:=aB 30 3
def WL:=aB 30 4
def WN:=aB 30 5
def WO:=aB 30 6
def apg:=aB 30 7
def aph:=aB 30 8
def WP:=aB 30 9
def Ni:=aB 30 10
def Nj:=aB 30 11
def Nk:=aB 30 12
def Nl:=aB 30 13
def aid:=aB 30 14
def Nm:=aB 30 15
def No:=aB 30 16
def Np:=aB 30 17
def Nq:=aB 30 18
def Nr:=aB 30 19
noncomputable def d12:DC:=fo 30
def Dv:List cH:=[.cell 4 2 true]
def c12 [bD]:aR ap 30 85 d12 Dv:=.at
end It
end Go.Proofs
namespace Go.Proofs.It
open Go.DM
def dc(nt st:Int)(r:bC)(f t k:Int)(aA arg:Int)(bY:ba):Edge:=⟨fG nt st r.head f t,bY,min aA kA,k,arg⟩
def hZ(nt st:Int)(r:bC)(f t k:Int):aG:=[.box [ti nt,ti st],.box r.enc,.box [ti f],.box [ti t],.box [ti k]]
def okR(r:bC):Prop:=0<=r.head/\r.head<=1000/\0<=r.bi/\r.bi<=1000
def Hc(f t:Int):Prop:=0<=f/\f<=t/\t<=1000
def t46(nt st:Int)(r:bC)(f t k aA arg:Int)(bY:ba)(h:sm nt st)(hr:okR r)(hf:Hc f t):
  aJ ap 114 ([ti aA,ti arg,.sl (au bY)]++hZ nt st r f t k) (.agg (dc nt st r f t k aA arg bY).enc):=by
 have aq:=ok1;refine c46.ok (by simp[hZ]) (aH ?_);simp[hZ,bC.enc];apply aa.ai aq fw [0,1,2,3,4,5,6,7,11];simp[JP];apply aa.ai aq fw [11];simp[VQ,Γ1,uk,SB,Kh];refine⟨⟨h, ?_⟩, ?_⟩
 ·unfold okR at hr;unfold Hc at hf;omega
 apply aa.ret;simp[nP,dc,Edge.enc]
def t36(a b:Edge)(ha:0<=a.head/\a.head<=1000000000000)(hb:0<=b.head/\b.head<=1000000000000):aJ ap 66 [.agg a.enc,.agg b.enc] (ti (a.head-b.head)):=by
 have aq:aw ap (bz []):=aw.nil;refine c36.ok (by simp) (aH ?_);simp[Edge.enc];apply aa.ai aq fw [2,3,4];simp[Wm];apply aa.ai aq fw [4];simp[FO];apply aa.ret;simp[dI];rw[av (by omega)]
def zj(nt st:Int)(r:bC)(aK:List bF)(dM:ba)(f t k:Int):aG:=[.box r.enc,.box [ti f],.box [ti t],.box [.fn (.func 114) (hZ nt st r f t k)],.box [ti st,.sl (bq aK),.sl (au dM)],.box [ti nt,ti st]]
def t34(n:ay)(l:aF)(k:Nat)(f t:Int)(hk:k<n.aj.length):
  aJ ap 64 [n.enc,l.enc,ti k,ti f,ti t] (.fn (.func 115) (zj n.ae l.am (n.aj.getD k default) l.aK l.bj f t k)):=by
 have aq:=ok1;refine c34.ok (by simp) (aH ?_);simp[ay.enc,aF.enc];apply aa.ai aq fw [5,6,7,8,9,10];simp[WC];apply aa.ai aq fw [5,6,7,8,9,11];simp[WD,Γ1,wH,SA,Wi];refine⟨⟨⟨n,rfl⟩,⟨l,rfl⟩⟩, ?_⟩;apply aa.ai aq fw [6,7,8,9,11,12];have gf:=fE hk;simp[WE,gf,hk,bC.enc];generalize n.aj[k]=r;refine aa.le (Le.aL (o:=[]) (l:=[(6,.v (.box [ti l.am,.sl (bq l.aK),.sl (au l.bj)])),(7,.v (.box [ti k])),(8,.v (.box [ti f])),(9,.v (.box [ti t])),(11,.v (.box [ti n.ae,ti l.am])),(12,.v (.box r.enc))]) (bn:=1100) ?_ ?_ ?_ ?_) ?_;iterate 3(·simp)
 ·simp[bC.enc]
 apply aa.ai aq fw [6,8,9,11,12,13];simp[WF];refine aa.le (Le.aL (o:=[]) (l:=[(6,.v (.box [ti l.am,.sl (bq l.aK),.sl (au l.bj)])),(8,.v (.box [ti f])),(9,.v (.box [ti t])),(11,.v (.box [ti n.ae,ti l.am])),(12,.v (.box r.enc)),(13,.v (.box [.fn (.func 114) (hZ n.ae l.am r f t k)]))]) (bn:=1200) ?_ ?_ ?_ ?_) ?_;iterate 3(·simp)
 ·simp[hZ]
 apply aa.ai aq fw [10];simp[WG];apply aa.ret;simp[Dt,zj,hZ]
def aey(ts:aG):Prop:=∃(nt st:Int) (r:bC) (f t k aA arg:Int) (bY:ba),ts=[ti aA,ti arg,.sl (au bY),.box [ti nt,ti st],.box r.enc,.box [ti f],.box [ti t],.box [ti k]]/\sm nt st/\okR r/\Hc f t
def Nt:aG->T
 |[.int _ aA,.int _ arg,.sl bY,.box [.int _ nt,.int _ st],.box r,.box [.int _ f],.box [.int _ t],.box [.int _ k]]=>
  .agg (dc nt st (i9 r) f t k aA arg (eM bY)).enc
 |_=>.bool false
@[simp] def Aw(r:bC):i9 r.enc=r:=rfl
@[simp] def aaS(a b c d e f:Int):i9 [ti a,ti b,ti c,ti d,ti e,ti f]=⟨a,b,c,d,e,f⟩:=rfl
def Γ6:kv:=bz [(67,uk),(114,bp aey Nt false)]
def ok6:aw ap Γ6:=by
 refine aw.cons (aw.cons aw.nil ?_) ?_
 ·rintro ts ⟨nt,st,r,f,t,k,aA,arg,bY,rfl,h1,h2,h3⟩;exact⟨by simpa [Nt,hZ]using t46 nt st r f t k aA arg bY h1 h2 h3,by intro h;cases h⟩
 ·intro ts h
  match ts,h with
  |[.agg [.int .i64 nt,.int .i64 st],.int .i64 h,.int .i64 f,.int .i64 t],h1=>exact⟨t37 aw.nil nt st h f t h1.1 h1.2,λ_=>rfl⟩
def inst(nt st:Int)(r:bC)(aK:List bF)(f t k:Int):List Edge:=
 if r.kind=1 then(if f=t then [dc nt st r f t k r.bi f []]else [])
 else if r.kind=2 then(List.range aK.length).flatMap λi=>if(aK.getD i default).f=f/\(aK.getD i default).t=t/\(aK.getD i default).term=r.a then [dc nt st r f t k (r.bi+(aK.getD i default).aA) i []]else []
 else if r.kind=3 then [dc nt st r f t k r.bi f [fG nt st r.a f t]]
 else if r.kind=4 then(List.range (t-f+1).toNat).map λj:Nat=>dc nt st r f t k r.bi (f+j) [fG nt st r.a f (f+j),fG nt st r.b (f+j) t]
 else []
def dp(l:List Edge):List (aG):=l.map λe=>[.agg e.enc]
def agQ(r:bC):Prop:=okR r/\(r.kind=3->0<=r.a/\r.a<=1000)/\(r.kind=4->0<=r.a/\r.a<=1000/\0<=r.b/\r.b<=1000)
def Wg(l:List bF):Prop:=l.length<=140737488355328/\∀a∈l,0<=a.aA/\a.aA<=kA
@[simp] def auN:(cR []=λ_=>none)=True:=by simp;funext;rfl
@[simp] def aez:eM []=[]:=rfl
@[simp] def aeA(a:Int):eM [[ti a]]=[a]:=rfl
@[simp] def aeB(a b:Int):eM [[ti a],[ti b]]=[a,b]:=rfl
def ld(nt st:Int)(r:bC)(aK:List bF)(f t k:Int)(i:Nat):List Edge:=
 if(aK.getD i default).f=f/\(aK.getD i default).t=t/\(aK.getD i default).term=r.a then [dc nt st r f t k (r.bi+(aK.getD i default).aA) i []]else []
def sQ(nt st:Int)(r:bC)(f t k:Int)(j:Nat):Edge:=dc nt st r f t k r.bi (f+j) [fG nt st r.a f (f+j),fG nt st r.b (f+j) t]
def Dy{n y:Nat}(h:y<n):(List.range n).drop y=y::(List.range n).drop (y+1):=by
 rw[Zca (by simpa using h)];simp
@[simp] def Tt(n:Nat):(List.range n).drop n=[]:=Zb1 (by simp)
@[simp] def akN(a:T):di 1 1 [a]=[[a]]:=rfl
@[simp] def akO(a b:T):di 1 2 [a,b]=[[a],[b]]:=rfl
def t47(nt st:Int)(r:bC)(aK:List bF)(dM:ba)(f t k:Int)(h:sm nt st)(hr:agQ r)(hf:Hc f t)(ha:Wg aK):
  af1 ap 115 (zj nt st r aK dM f t k) (dp (inst nt st r aK f t k)):=by
 have aq:=ok6;obtain⟨AR,Nu⟩:=aY (dp (inst nt st r aK f t k));rw[Nu];refine c47.okI (by simp[zj]) (R8 ?_);simp[zj,bC.enc,hZ];apply aa.ai aq fw [0,1,2,3,4,5,6,12];simp[Wn];apply aa.block;apply aa.ai aq fw [0,1,2,3,4,5,6,12,13];simp[Wo];obtain⟨ql,hr3,hr4⟩:=hr;have nX:∀(aA arg:Int) (bY:List (aG)),(∃l,bY=au l)->aey [ti aA,ti arg,.sl bY,.box [ti nt,ti st],.box [ti r.kind,ti r.head,ti r.a,ti r.b,ti r.bi,ti r.origin],.box [ti f],.box [ti t],.box [ti k]]:=by
  rintro aA arg _ ⟨l,rfl⟩;exact⟨nt,st,r,f,t,k,aA,arg,l,rfl,h,ql,hf⟩
 have HC:∀a f' t',0<=a/\a<=1000->0<=f'/\f'<=1000->0<=t'/\t'<=1000->Kh [.agg [ti nt,ti st],ti a,ti f',ti t']:=λa f' t' h1 h2 h3=>⟨h,h1.1,h1.2,h2.1,h2.2,h3.1,h3.2⟩;obtain⟨Z3,Z5,hf3⟩:=hf;refine aa.cond rfl (λe1=>?_) (λe1=>?_)
 ·simp only[j2]at e1;apply aa.ai aq fw [0,1,2,4,17];simp[Wp];refine aa.cond rfl (λe2=>?_) (λe2=>?_)
  ·simp only[j2]at e2;have hi:AR=[[.agg (dc nt st r f t k r.bi f []).enc]]:=by rw[<-Nu];simp[inst,e1,e2,dp]
   rw[hi];apply aa.cZ aq fw [];simp[Wq,Γ6,bp,Nt,MG];exact nX _ _ _ ⟨[],rfl⟩
  ·apply aa.skip;simp only[pn]at e2;have hi:AR=[]:=by rw[<-Nu];simp[inst,e1,e2,dp]
   simp[hi,MG]
 simp only[pn]at e1;apply aa.ai aq fw [0,1,2,3,4,5,6,12,25];simp[aoG];refine aa.cond rfl (λe2=>?_) (λe2=>?_)
 ·simp only[j2]at e2;have hi:AR=dp ((List.range aK.length).flatMap (ld nt st r aK f t k)):=by rw[<-Nu];simp only[inst,e2];rfl
  apply aa.ai aq fw [0,1,2,3,4,28,29,30];simp[Wr];apply aa.block;refine aa.loop (λy:Nat=>⟨DM.look [(0,.BZ),(1,.v (.box r.enc)),(2,.v (.box [ti f])),(3,.v (.box [ti t])),(4,.v (.box [.fn (.func 114) (hZ nt st r f t k)])),(28,.v (.sl (bq aK))),(29,.v (ti aK.length)),(30,.v (ti y))],cR [],2000,0,dp (((List.range aK.length).drop y).flatMap (ld nt st r aK f t k))⟩)
   (λy=>y<=aK.length) (λy=>aK.length-y) 0 ?_ (by simp) (λy hy=>?_)
  ·rw[hi];refine Le.aL ?_ ?_ ?_ ?_;iterate 3(·simp)
   ·simp[bC.enc,hZ]
  have ct:=ha.1;apply aa.ai aq fw [0,1,2,3,4,28,29,30,31];simp[aoH];apply aa.seq;refine aa.cond rfl (λhc=>?_) (λhc=>?_)
  ·simp at hc;obtain⟨a,WY⟩:=aY (aK.getD y default);have gf:=r8 hc;rw[WY]at gf;have hac:0<=a.aA/\a.aA<=kA:=ha.2 a (by rw[<-WY];simp[hc]);rw[Dy hc];simp only[Q5,dp,Ic];apply aa.skip;simp;apply aa.seq;apply aa.block;apply aa.ai aq fw [0,1,2,3,4,8,9,28,29,30];simp[aoI,gf,hc,bF.enc];refine aa.le (Le.aL (o:=[]) (l:=[(0,.BZ),(1,.v (.box r.enc)),(2,.v (.box [ti f])),(3,.v (.box [ti t])),(4,.v (.box [.fn (.func 114) (hZ nt st r f t k)])),(8,.v (ti y)),(9,.v (.box a.enc)),(28,.v (.sl (bq aK))),(29,.v (ti aK.length)),(30,.v (ti y))]) (bn:=3000) ?_ ?_ ?_ ?_) ?_;iterate 3(·simp)
   ·simp[bC.enc,hZ,bF.enc]
   simp only[kA]at hac;have hwr:IntKind.i64.wrap (r.bi+a.aA)=r.bi+a.aA:=av (by unfold okR at ql;omega);refine aa.to ⟨DM.look [(0,.BZ),(1,.v (.box r.enc)),(2,.v (.box [ti f])),(3,.v (.box [ti t])),(4,.v (.box [.fn (.func 114) (hZ nt st r f t k)])),(28,.v (.sl (bq aK))),(29,.v (ti aK.length)),(30,.v (ti y))],cR [],4000,0,dp (((List.range aK.length).drop (y+1)).flatMap (ld nt st r aK f t k))⟩ ?_ ?_
   ·by_cases hm:a.f=f/\a.t=t/\a.term=r.a
    ·obtain⟨m1,m2,m3⟩:=hm;have ht:ld nt st r aK f t k y=[dc nt st r f t k (r.bi+a.aA) y []]:=by simp only[ld,WY,m1,m2,m3,and_self,jB]
     simp only[ht,oK,MK,Ig,Em];apply aa.ai aq fw [0,1,2,3,4,28,29,30,64];simp only[aes,bF.enc,bC.enc,hZ];simp[Γ6,bp,Nt,m1,m2,m3,hwr];refine⟨nX _ _ _ ⟨[],rfl⟩, ?_⟩;refine aa.cond rfl (λh=>by cases h) (λ_=>?_);apply aa.skip;refine⟨rfl,Le.aL ?_ ?_ ?_ ?_⟩<;>simp
    ·have ht:ld nt st r aK f t k y=[]:=by simp only[ld,WY,hm,we]
     simp only[ht,MK,Em];refine aa.bL aq fw [(0,.BZ),(1,.v (.box r.enc)),(2,.v (.box [ti f])),(3,.v (.box [ti t])),(4,.v (.box [.fn (.func 114) (hZ nt st r f t k)])),(28,.v (.sl (bq aK))),(29,.v (ti aK.length)),(30,.v (ti y)),(64,.v (.bool false))] ?_ ?_
     ·simp only[aes,bF.enc,bC.enc,hZ];simp[Γ6,bp,Nt,hwr];intro m1 m2 m3;exact eX ⟨m1,m2,m3⟩ hm
     refine aa.cond rfl (λh=>by cases h) (λ_=>?_);apply aa.skip;refine⟨rfl,Le.aL ?_ ?_ ?_ ?_⟩<;>simp[]
   ·simp;apply aa.cZ aq fw [0,1,2,3,4,28,29,30];simp[aoJ];refine⟨y+1,Le.aL ?_ ?_ ?_ ?_, ?_, ?_⟩;iterate 3(·simp)
    ·simp;exact(av (by omega)).symm
    ·omega
    ·omega
  ·simp at hc;have fI:y=aK.length:=by omega
   subst fI;apply aa.exit;simp[MG,dp]
 simp only[pn]at e2;apply aa.ai aq fw [0,1,2,3,4,6,12,66];simp[ag3];refine aa.cond rfl (λe3=>?_) (λe3=>?_)
 ·simp only[j2]at e3;have hi:AR=dp [dc nt st r f t k r.bi f [fG nt st r.a f t]]:=by rw[<-Nu];simp only[inst,e3];rfl
  rw[hi];apply aa.cZ aq fw [];simp[ag4,Γ6,bp,Nt,dp,MG,uk,SB];exact⟨HC _ _ _ (hr3 e3) (by omega) (by omega),nX _ _ _ ⟨[_],rfl⟩⟩
 simp only[pn]at e3;apply aa.ai aq fw [0,1,2,3,4,6,82];simp[ag5];refine aa.cond rfl (λe4=>?_) (λe4=>?_)
 ·simp only[j2]at e4;obtain⟨N,hN⟩:=aY ((t-f+1).toNat);have hi:AR=dp ((List.range N).map (sQ nt st r f t k)):=by rw[<-Nu,<-hN];simp only[inst,e4];rfl
  apply aa.ai aq fw [0,1,2,3,4,6,10];simp[ag6];obtain⟨rest,vK⟩:∃rest:Nat->List (aG),∀y,rest y=dp (((List.range N).drop y).map (sQ nt st r f t k)):=⟨_,λ_=>rfl⟩;apply aa.block;refine aa.loop (λy:Nat=>⟨DM.look [(0,.BZ),(1,.v (.box r.enc)),(2,.v (.box [ti f])),(3,.v (.box [ti t])),(4,.v (.box [.fn (.func 114) (hZ nt st r f t k)])),(6,.v (.box [ti nt,ti st])),(10,.v (ti (f+y)))],cR [],2000,0,rest y⟩)
   (λy=>y<=N) (λy=>N-y) 0 ?_ (by simp) (λy hy=>?_)
  ·rw[hi,show dp ((List.range N).map (sQ nt st r f t k))=rest 0 by rw[vK];rfl];refine Le.aL ?_ ?_ ?_ ?_;iterate 3(·simp)
   ·simp[bC.enc,hZ]
  apply aa.sq aq fw [0,1,2,3,4,6,10,87];simp[ag7];refine aa.cond rfl (λhc=>?_) (λhc=>?_)
  ·simp at hc;have hyN:y<N:=by omega
   have hry:rest y=[.agg (sQ nt st r f t k y).enc]::rest (y+1):=by rw[vK,vK,Dy hyN];rfl
   rw[hry];obtain⟨g1,g2,g3,g4⟩:=hr4 e4;apply aa.skip;simp;apply aa.seq;apply aa.block;apply aa.ai aq fw [0,1,2,3,4,6,10,110];simp only[ag8,bC.enc,hZ];simp[Γ6,bp,Nt,uk,SB,sQ];refine⟨HC _ _ _ (by omega) (by omega) (by omega),HC _ _ _ (by omega) (by omega) (by omega),nX _ _ _ ⟨[_,_],rfl⟩, ?_⟩;refine aa.cond rfl (λh=>by cases h) (λ_=>?_);apply aa.skip;simp;apply aa.cZ aq fw [0,1,2,3,4,6,10];simp[ag9];refine⟨y+1,Le.aL ?_ ?_ ?_ ?_, ?_, ?_⟩;iterate 3(·simp)
   ·simp[bC.enc,hZ];rw[av (by omega)];omega
   ·omega
   ·omega
  ·simp at hc;have fI:y=N:=by omega
   subst fI;apply aa.exit;simp[MG,dp,vK]
 ·apply aa.skip;simp only[pn]at e4;have hi:AR=[]:=by rw[<-Nu];simp[inst,e1,e2,e3,e4,dp]
  simp[hi,MG]
open Go.DM Go.DM.iN
section
variable{A:List (aG)}
section
variable(dj:aG->Prop)(dK:aG->aG->Int)
def pS:DM.Spec:=bp (λts=>∃x y,ts=[.agg x,.agg y]/\dj x/\dj y) (fun|[.agg x,.agg y]=>ti (dK x y)|_=>.bool false) true
structure qE(f:Nat)(n:Nat):Prop where
 run:∀x y,dj x->dj y->aJ ap f [.agg x,.agg y] (ti (dK x y))
 row:∀x,dj x->vP n x
abbrev my(x y:aG):Bool:=decide (dK x y<0)
variable{dj dK}
def PT{f n:Nat}(h:qE dj dK f n):aw ap (bz [(f,pS dj dK)]):=by
 refine aw.cons aw.nil ?_;rintro ts ⟨x,y,rfl,h1,h2⟩;exact⟨h.run x y h1 h2,λ_=>rfl⟩
def kg{B:List (aG)}{x:aG}{i:Nat}(h:A.length=i):DM.rowAt (A++(x::B)) (i:Int)=x:=by
 subst h;simp[DM.rowAt]
def ol{B:List (aG)}{x v:aG}{i:Nat}(h:A.length=i):(A++(x::B)).set i v=A++(v::B):=by
 subst h;simp
def dr{n:Nat}{x:aG}(h:x.length=n):x.drop n=[]:=by subst h;simp
def tk{n:Nat}{x:aG}(h:x.length=n):x.take n=x:=by subst h;simp
structure Sw where
 (X1 X2 Y1 Y2:List (aG))
def Sw.D(A M B:List (aG))(s:Sw):List (aG):=A++(s.Y1++(s.X2++(M++(s.X1++(s.Y2++B)))))
def t52(D:List (aG))(a b n:Nat)(ab:bS)(r bG e:Nat)(g:T)(eH:ab r=some (.bm bG e 5 D))(cK:∀x∈D,vP 5 x)(h1:a+n<=b)(h2:b+n<=D.length)(h3:D.length<=140737488355328)
  {N:Nat} (hN:∀r,N<=r->ab r=none):ce ap 213 [.aW r bG,.v (ti a),.v (ti b),.v (ti n),.v g] ab ⟨True,.v (.dh []),b8 ab r (.bm bG e 5 (uf D a b n))⟩:=by
 have aq:aw ap (bz []):=aw.nil;have kc:∀o k,N+200<=k->b8 ab r o k=none:=λo k hk=>fj eH (hN k (by omega));refine c52.Z1 hN (by simp) (iE ?_);rw[oG eH];simp;have hD:D=D.take a++(eY D a (a+n)++(eY D (a+n) b++(eY D b (b+n)++D.drop (b+n)))):=by
  rw[ef D (by omega),ef D (by omega),ef D (by omega),Eg]
 have lA:(D.take a).length=a:=by simp;omega
 have lX:(eY D a (a+n)).length=n:=by simp;omega
 have lM:(eY D (a+n) b).length=b-(a+n):=by simp;omega
 have lY:(eY D b (b+n)).length=n:=by simp;omega
 have hL:D.length=a+n+(b-(a+n))+n+(D.drop (b+n)).length:=by simp;omega
 generalize hA:D.take a=A at*
 generalize hX:eY D a (a+n)=X at*
 generalize hM:eY D (a+n) b=M at*
 generalize hY:eY D b (b+n)=Y at*
 generalize hB:D.drop (b+n)=B at*
 apply aa.ai aq fw [0,1,2,3,10];simp[ao3];apply aa.block;refine aa.loop (λy:Sw=>⟨DM.look [(0,.aW r bG),(1,.v (ti a)),(2,.v (ti b)),(3,.v (ti n)),(10,.v (ti y.X1.length))],b8 ab r (.bm bG e 5 (y.D A M B)),N+200,N,[]⟩)
  (λy=>X=y.X1++y.X2/\Y=y.Y1++y.Y2/\y.X1.length=y.Y1.length) (λy=>y.X2.length) ⟨[],X,[],Y⟩ ?_ (by simp) (λy hy=>?_)
 ·have:Sw.D A M B ⟨[],X,[],Y⟩=D:=by simp only[Sw.D,Em];exact hD.symm
  rw[this];exact Le.same (kc _) (by simp)
 obtain⟨X1,X2,Y1,Y2⟩:=y;obtain⟨e1,e2,e3⟩:=hy;simp only at e1 e2 e3⊢;have l1:X1.length+X2.length=n:=by rw[<-lX,e1];simp
 have l2:Y1.length+Y2.length=n:=by rw[<-lY,e2];simp
 apply aa.sq aq fw [0,1,2,3,10,13];simp[ao4];refine aa.cond rfl (λh=>?_) (λh=>?_)
 ·simp at h
  match X2,Y2,l1,l2 with
  |[],_,l1,l2=>simp at l1;omega
  |_,[],l1,l2=>simp at l2;omega
  |x::X2,y::Y2,l1,l2=>
  have hx:vP 5 x:=cK x (by rw[hD,e1];simp);have hy:vP 5 y:=cK y (by rw[hD,e2];simp);simp only[Bd]at l1 l2;obtain⟨i,hi⟩:=aY X1.length;obtain⟨p,hp⟩:=aY (a+i);obtain⟨q,hq⟩:=aY (b+i);obtain⟨Dc,u9⟩:=aY (Sw.D A M B ⟨X1,x::X2,Y1,y::Y2⟩);have hl:Dc.length=D.length:=by rw[<-u9,hL];simp[Sw.D];omega
  have hw1:IntKind.i64.wrap ((a:Int)+i)=p:=by rw[av (by omega)];omega
  have hw2:IntKind.i64.wrap ((b:Int)+i)=q:=by rw[av (by omega)];omega
  have g1:DM.rowAt Dc p=x:=by
   rw[<-u9,show Sw.D A M B ⟨X1,x::X2,Y1,y::Y2⟩=(A++Y1)++(x::(X2++(M++(X1++(y::(Y2++B))))))by simp[Sw.D]];exact kg (by simp;omega)
  have g2:DM.rowAt Dc q=y:=by
   rw[<-u9,show Sw.D A M B ⟨X1,x::X2,Y1,y::Y2⟩=(A++Y1++x::X2++M++X1)++(y::(Y2++B))by simp[Sw.D]];exact kg (by simp;omega)
  have g3:(Dc.set p y).set q x=Sw.D A M B ⟨X1++[x],X2,Y1++[y],Y2⟩:=by
   rw[<-u9,show Sw.D A M B ⟨X1,x::X2,Y1,y::Y2⟩=(A++Y1)++(x::(X2++(M++(X1++(y::(Y2++B))))))by simp[Sw.D]];rw[ol (by simp;omega),show(A++Y1)++(y::(X2++(M++(X1++(y::(Y2++B))))))=(A++Y1++y::X2++M++X1)++(y::(Y2++B))by simp];rw[ol (by simp;omega)];simp[Sw.D]
  have g4:DM.rowAt (Dc.set p y) q=y:=by
   rw[<-u9,show Sw.D A M B ⟨X1,x::X2,Y1,y::Y2⟩=(A++Y1)++(x::(X2++(M++(X1++(y::(Y2++B))))))by simp[Sw.D]];rw[ol (by simp;omega),show(A++Y1)++(y::(X2++(M++(X1++(y::(Y2++B))))))=(A++Y1++y::X2++M++X1)++(y::(Y2++B))by simp];exact kg (by simp;omega)
  apply aa.skip;simp;apply aa.seq;apply aa.block;apply aa.cZ aq fw [0,1,2,3,10];rw[u9];simp[ao5,hi,hw1,hw2,g1,g2,g4,hl,hx.1,hy.1,fA hx.2,fA hy.2,tk hx.1,tk hy.1,dr hx.1,dr hy.1];repeat refine⟨by omega, ?_⟩
  rw[g3];apply aa.cZ aq fw [0,1,2,3,10];simp[ao6];refine⟨⟨X1++[x],X2,Y1++[y],Y2⟩, ?_, ?_, ?_⟩
  ·refine Le.same (kc _) ?_;simp;rw[av (by omega)];omega
  ·simp[e1,e2,<-e3,hi]
  ·simp
 ·simp at h;apply aa.exit;have hX2:X2=[]:=yN (by omega);have hY2:Y2=[]:=yN (by omega);subst hX2 hY2;simp at e1 e2;subst e1 e2;have:uf D a b n=Sw.D A M B ⟨X,[],Y,[]⟩:=by
   rw[hD,rR A X M Y B lA lX (by omega) lY];simp[Sw.D]
  simp[WB,this]
end
end
def k52:bW->bS->iw
 |[.aW r bG,.v (.int .i64 a),.v (.int .i64 b),.v (.int .i64 n),.v g],ab=>match ab r with
  |some (.bm bM e sz D)=>⟨bG=bM/\sz=5/\(∀x∈D,vP 5 x)/\0<=a/\0<=n/\a+n<=b/\b+n<=D.length/\D.length<=140737488355328,.v (.dh []),b8 ab r (.bm bG e 5 (uf D a.toNat b.toNat n.toNat))⟩
  |_=>⟨False,.undef,ab⟩
 |_,ab=>⟨False,.undef,ab⟩
def abb:kv:=bz [(213,fl k52)]
def avs:aw ap abb:=by
 refine aw.il aw.nil ?_;intro args ab h;unfold k52 at h⊢;split at h
 ·split at h
  ·rename_i a b n g _ bM e sz D eH;obtain⟨rfl,rfl,h1,h2,h3,h4,h5,h6⟩:=h;have ea:a=(a.toNat:Int):=by omega
   have eb:b=(b.toNat:Int):=by omega
   have en:n=(n.toNat:Int):=by omega
   refine⟨λN hN=>?_,λk hk=>fj eH hk⟩;have:=t52 D a.toNat b.toNat n.toNat ab _ _ e g eH h1 (by omega) (by omega) h6 hN;rw[<-ea,<-eb,<-en]at this;simp only[];exact this.of rfl rfl
  ·exact h.elim
 ·exact h.elim
structure Ro where
 (A P Q B:List (aG))
def Ro.D(s:Ro):List (aG):=s.A++(s.P++(s.Q++s.B))
def t51(D:List (aG))(a m b:Nat)(ab:bS)(r bG e:Nat)(g:T)(eH:ab r=some (.bm bG e 5 D))(cK:∀x∈D,vP 5 x)(h1:a<m)(h2:m<b)(h2:b<=D.length)(h3:D.length<=140737488355328)
  {N:Nat} (hN:∀r,N<=r->ab r=none):ce ap 192 [.aW r bG,.v (ti a),.v (ti m),.v (ti b),.v g] ab ⟨True,.v (.dh []),b8 ab r (.bm bG e 5 (nY D a m b))⟩:=by
 have aq:=avs;have kc:∀o k,N+200<=k->b8 ab r o k=none:=λo k hk=>fj eH (hN k (by omega));refine c51.Z1 hN (by simp) (iE ?_);rw[oG eH];simp;have w1:IntKind.i64.wrap ((m:Int)-a)=((m-a:Nat):Int):=by rw[av (by omega)];omega
 have w2:IntKind.i64.wrap ((b:Int)-m)=((b-m:Nat):Int):=by rw[av (by omega)];omega
 apply aa.ai aq fw [0,2,3,4,10];simp[aoX,w1];apply aa.ai aq fw [0,2,4,10,11];simp[aoY,w2];apply aa.seq;apply aa.block;have hD:=Vl D (a:=a) (m:=m) (b:=b) (by omega) (by omega);have lA:(D.take a).length=a:=by simp;omega
 have lP:(eY D a m).length=m-a:=by simp;omega
 have lQ:(eY D m b).length=b-m:=by simp;omega
 have hF:nY D a m b=D.take a++(eY D m b++(eY D a m++D.drop b)):=rfl;refine aa.loop (λy:Ro=>⟨DM.look [(0,.aW r bG),(2,.v (ti m)),(4,.v g),(10,.v (ti y.P.length)),(11,.v (ti y.Q.length))],b8 ab r (.bm bG e 5 y.D),N+200,N,[]⟩)
  (λy=>y.A.length+y.P.length=m/\0<y.P.length/\0<y.Q.length/\y.A++(y.Q++(y.P++y.B))=nY D a m b/\y.D.length=D.length/\∀x∈y.D,x∈D) (λy=>y.P.length+y.Q.length) ⟨D.take a,eY D a m,eY D m b,D.drop b⟩ ?_ ?_ (λy hy=>?_)
 ·simp only[Ro.D,<-hD];refine Le.same (kc _) ?_;simp;omega
 ·simp only[lA,lP,lQ,Ro.D,<-hD];exact⟨by omega,by omega,by omega,by rw[hF],trivial,λ_ h=>h⟩
 obtain⟨A,P,Q,B⟩:=y;obtain⟨e1,e2,e3,e4,e5,e6⟩:=hy;simp only at e1 e2 e3 e4 e5 e6⊢;obtain⟨Dc,u9⟩:=aY (Ro.D ⟨A,P,Q,B⟩);obtain⟨i,hi⟩:=aY P.length;obtain⟨j,hj⟩:=aY Q.length;rw[u9]at e5 e6;have e5':A.length+(i+(j+B.length))=D.length:=by rw[<-e5,<-u9];simp[Ro.D,hi,hj]
 have Ln:∀x∈Dc,vP 5 x:=λx hx=>cK x (e6 x hx);have w3:IntKind.i64.wrap ((m:Int)-i)=((m-i:Nat):Int):=by rw[av (by omega)];omega
 apply aa.sq aq fw [0,2,4,10,11,20];simp[aoZ,hi,hj,u9];refine aa.cond rfl (λh=>?_) (λh=>?_)
 ·simp at h;apply aa.skip;simp;apply aa.block;apply aa.ai aq fw [0,2,4,10,11,23];simp[ao0];refine aa.cond rfl (λh4=>?_) (λh4=>?_)
  ·simp at h4;refine aa.fR aq fw (rs:=Wx) (.inr ⟨_,pV⟩) (by kernel_rfl) [0,2,4,10,11] ?_;simp[Wx,abb,k52,w3];refine⟨⟨Ln,by omega,by omega,by omega⟩, ?_⟩;obtain⟨P1,P2,rfl,lP1⟩:∃P1 P2,P=P1++P2/\P1.length=j:=⟨P.take j,P.drop j,(Eg j P).symm,by simp;omega⟩;simp only[qe]at hi;have pB:uf Dc (m-i) m j=Ro.D ⟨A++Q,P2,P1,B⟩:=by
    rw[<-u9];simp only[Ro.D,ER];exact rR A P1 P2 Q B (by simp only[qe]at e1;omega) lP1 (by simp only[qe]at e1;omega) hj
   rw[pB];have w4:IntKind.i64.wrap ((i:Int)-j)=((i-j:Nat):Int):=by rw[av (by omega)];omega
   apply aa.cZ aq fw [0,2,4,10,11];simp[ao1,w4];refine⟨⟨A++Q,P2,P1,B⟩, ?_,⟨?_, ?_, ?_, ?_, ?_, ?_⟩, ?_⟩
   ·refine Le.same (kc _) ?_;simp;omega
   ·simp only[qe]at e1⊢;omega
   ·simp only;omega
   ·simp only;omega
   ·rw[<-e4];simp
   ·rw[<-e5,<-u9];simp[Ro.D];omega
   ·intro x hx;refine e6 x ?_;rw[<-u9];simp only[Ro.D,mA]at hx⊢;rcases hx with(h|h)|h|h|h<;>simp[h]
   ·simp only;omega
  ·simp at h4;have w4:IntKind.i64.wrap (IntKind.i64.wrap ((m:Int)+j)-i)=((m+j-i:Nat):Int):=by rw[av (x:=(m:Int)+j) (by omega),av (by omega)];omega
   have w5:IntKind.i64.wrap ((j:Int)-i)=((j-i:Nat):Int):=by rw[av (by omega)];omega
   refine aa.fR aq fw (rs:=Wy) (.inr ⟨_,pV⟩) (by kernel_rfl) [0,2,4,10,11] ?_;simp[Wy,abb,k52,w3,w4];refine⟨⟨Ln,by omega,by omega,by omega⟩, ?_⟩;obtain⟨Q1,Q2,rfl,lQ2⟩:∃Q1 Q2,Q=Q1++Q2/\Q2.length=i:=⟨Q.take (j-i),Q.drop (j-i),(Eg _ Q).symm,by simp;omega⟩;simp only[qe]at hj;have pB:uf Dc (m-i) (m+j-i) i=Ro.D ⟨A,Q2,Q1,P++B⟩:=by
    rw[<-u9];simp only[Ro.D,ER];exact rR A P Q1 Q2 B (by omega) hi (by omega) lQ2
   rw[pB];apply aa.cZ aq fw [0,2,4,10,11];simp[ao2,w5];refine⟨⟨A,Q2,Q1,P++B⟩, ?_,⟨?_, ?_, ?_, ?_, ?_, ?_⟩, ?_⟩
   ·refine Le.same (kc _) ?_;simp;omega
   ·simp only;omega
   ·simp only;omega
   ·simp only;omega
   ·rw[<-e4];simp
   ·rw[<-e5,<-u9];simp[Ro.D];omega
   ·intro x hx;refine e6 x ?_;rw[<-u9];simp only[Ro.D,mA]at hx⊢;rcases hx with h|h|h|h|h<;>simp[h]
   ·simp only;omega
 ·simp at h;apply aa.exit;simp;refine aa.rP aq fw (rs:=Wz) (.inr ⟨_,pV⟩) (by kernel_rfl) [] ?_;simp[Wz,abb,k52,w3];refine⟨⟨Ln,by omega,by omega,by omega⟩, ?_⟩;have pB:uf Dc (m-i) m i=nY D a m b:=by
   rw[<-u9,<-e4];simp only[Ro.D];exact rR A P [] Q B (by omega) hi (by simp;omega) (by omega)
  simp[WA,pB]
section
variable{dj:aG->Prop}{dK:aG->aG->Int}
def Z8:bW->bS->iw
 |[.aW r bG,.v (.int .i64 a),.v (.int .i64 m),.v (.int .i64 b),.v g],ab=>match ab r with
  |some (.bm bM e sz D)=>⟨bG=bM/\sz=5/\(∀x∈D,vP 5 x)/\0<=a/\a<m/\m<b/\b<=D.length/\D.length<=140737488355328,.v (.dh []),b8 ab r (.bm bG e 5 (nY D a.toNat m.toNat b.toNat))⟩
  |_=>⟨False,.undef,ab⟩
 |_,ab=>⟨False,.undef,ab⟩
def SG(dj:aG->Prop)(dK:aG->aG->Int)(N:Nat):bW->bS->iw
 |[.aW r bG,.v (.int .i64 a),.v (.int .i64 m),.v (.int .i64 b),.v (.fn (.func c) cz)],ab=>match ab r with
  |some (.bm bM e sz D)=>⟨bG=bM/\sz=5/\c=66/\cz=[]/\(∀x∈D,dj x)/\0<=a/\a<m/\m<b/\b<=D.length/\D.length<=140737488355328/\b-a<N/\dU (my dK) (eY D a.toNat m.toNat)/\dU (my dK) (eY D m.toNat b.toNat),
    .v (.dh []),b8 ab r (.bm bG e 5 (dG (my dK) D a.toNat b.toNat))⟩
  |_=>⟨False,.undef,ab⟩
 |_,ab=>⟨False,.undef,ab⟩
def KB(dj:aG->Prop)(dK:aG->aG->Int)(N:Nat):kv:=bz [(162,fl (SG dj dK N)),(192,fl Z8),(66,pS dj dK)]
def arD(hc:qE dj dK 66 5):aw ap (bz [(192,fl Z8),(66,pS dj dK)]):=by
 refine aw.il (PT hc) ?_;intro args ab h;unfold Z8 at h⊢;split at h
 ·split at h
  ·rename_i a m b g _ bM e sz D eH;obtain⟨rfl,rfl,h1,h2,h3,h4,h5,h6⟩:=h;have ea:a=(a.toNat:Int):=by omega
   have eb:b=(b.toNat:Int):=by omega
   have en:m=(m.toNat:Int):=by omega
   refine⟨λN hN=>?_,λk hk=>fj eH hk⟩;have:=t51 D a.toNat m.toNat b.toNat ab _ _ e g eH h1 (by omega) (by omega) (by omega) h6 hN;rw[<-ea,<-eb,<-en]at this;simp only[];exact this.of rfl rfl
  ·exact h.elim
 ·exact h.elim
def SS(D:List (aG))(k:Nat):DM.rowAt D (k:Int)=D.getD k default:=by simp[DM.rowAt];rfl
def abc{i j:Nat}(h:i+j<=2*140737488355328):IntKind.i64.wrap (IntKind.u64.wrap (IntKind.i64.wrap ((i:Int)+j))/2^min 1 IntKind.u64.bits)=(((i+j)/2:Nat):Int):=by
 have e:(2:Int)^min 1 IntKind.u64.bits=2:=rfl;rw[e,av (x:=(i:Int)+j) (by omega)];have:IntKind.u64.wrap ((i:Int)+j)=(i:Int)+j:=by simp[IntKind.wrap,IntKind.bits,IntKind.signed];omega
 rw[this,av (by omega)];omega
def adj{A B:List (aG)}{x y:aG}{k:Nat}(h:A.length=k){k':Nat}(hk:k'=k+1):DM.rowAt (A++(x::y::B)) k=x/\DM.rowAt (A++(x::y::B)) k'=y/\DM.rowAt ((A++(x::y::B)).set k y) k'=y/\
  ((A++(x::y::B)).set k y).set k' x=A++(y::x::B)/\DM.rowAt ((A++(x::y::B)).set k' x) k=x/\((A++(x::y::B)).set k' x).set k y=A++(y::x::B):=by
 subst h hk;refine⟨kg rfl, ?_, ?_, ?_, ?_, ?_⟩
 ·rw[show A++(x::y::B)=(A++[x])++(y::B)by simp];exact kg (by simp)
 ·rw[ol rfl,show A++(y::y::B)=(A++[y])++(y::B)by simp];exact kg (by simp)
 ·rw[ol rfl,show A++(y::y::B)=(A++[y])++(y::B)by simp,ol (by simp)];simp
 ·rw[show A++(x::y::B)=(A++[x])++(y::B)by simp,ol (by simp),show(A++[x])++(x::B)=A++(x::x::B)by simp];exact kg rfl
 ·rw[show A++(x::y::B)=(A++[x])++(y::B)by simp,ol (by simp),show(A++[x])++(x::B)=A++(x::x::B)by simp,ol rfl]
def N0{D:List (aG)}{s m e:Nat}(h1:s<=m)(h2:m<=e)(h:¬(s<m/\m<e)):nY D s m e=D:=by
 unfold nY;by_cases h':s=m
 ·subst h';rw[Js,Em,ef D h2,Eg]
 ·have:m=e:=by omega
  subst this;rw[Js,Em,ef D h1,Eg]
def DK{lt:aG->aG->Bool}{D:List (aG)}{i j:Nat}(hj:j<=D.length)(h:dU lt (eY D i j)):∀p q,i<=p->p<q->q<j->lt (D.getD q default) (D.getD p default)=false:=by
 intro p q h1 h2 h3;unfold dU at h;rw[Zcr]at h;have hl:(eY D i j).length=j-i:=by simp;omega
 have:=h (p-i) (q-i) (by omega) (by omega) (by omega);unfold eY at this;rw[Zco,Zco,TT,TT]at this;rw[ZbK,ZbK,mM (by omega),mM (by omega)];simpa only[Jf,show i+(p-i)=p by omega,show i+(q-i)=q by omega]using this
structure IJ where
 (i j:Nat)
structure PQ where
 (P Q:List (aG))
def avt(hc:qE dj dK 66 5)(hw:SWO (my dK))(F:Nat)(aq:aw ap (KB dj dK F))
  (D:List (aG)) (a m b:Nat) (ab:bS) (r bG e:Nat) (eH:ab r=some (.bm bG e 5 D)) (cK:∀x∈D,dj x) (h1:a<m) (h2:m<b) (h3:b<=D.length) (h4:D.length<=140737488355328) (hF:b-a<F+1)
  (sL:dU (my dK) (eY D a m)) (sR:dU (my dK) (eY D m b))
  {N:Nat} (hN:∀r,N<=r->ab r=none):ce ap 162 [.aW r bG,.v (ti a),.v (ti m),.v (ti b),.v (.fn (.func 66) [])] ab ⟨True,.v (.dh []),b8 ab r (.bm bG e 5 (dG (my dK) D a b))⟩:=by
 have kc:∀o k,N+1000<=k->b8 ab r o k=none:=λo k hk=>fj eH (hN k (by omega));have gl:=DK (by omega) sL;have gr:=DK (by omega) sR;have pQ:∀k,k<D.length->dj (D.getD k default):=λk hk=>cK _ (by rw[ZbK,mM hk];simp);have pq:∀i j x,x∈eY D i j->∃k,i<=k/\k<j/\k<D.length/\D.getD k default=x:=λi j x h=>aaH.1 h;have gf:=SS D;obtain⟨lt,cQ,AV⟩:∃lt:aG->aG->Bool,my dK=lt/\∀x y,decide (dK x y<0)=lt x y:=⟨_,rfl,λ_ _=>rfl⟩;rw[cQ]at hw sL sR gl gr⊢;obtain⟨g,hg⟩:∃g:Nat->aG,∀k:Nat,D.getD k default=g k:=⟨_,λ_=>rfl⟩;simp only[hg]at gl gr pQ pq gf;have vx:=λk hk=>hc.row _ (pQ k hk);refine c50.Z1 hN (by simp) (iE ?_);rw[oG eH];simp;have w1:IntKind.i64.wrap ((m:Int)-a)=((m-a:Nat):Int):=by rw[av (by omega)];omega
 have w2:IntKind.i64.wrap ((b:Int)-m)=((b-m:Nat):Int):=by rw[av (by omega)];omega
 apply aa.sq aq fw [0,1,2,3,4,28];simp[Wv,w1];refine aa.cond rfl (λc1=>?_) (λc1=>?_)
 ·simp at c1;apply aa.ai aq fw [0,1,3,4,10];simp[Ww];apply aa.ai aq fw [0,1,4,10,11];simp[Py];apply aa.seq;apply aa.block;refine aa.loop (λy:IJ=>⟨DM.look [(0,.aW r bG),(1,.v (ti a)),(4,.v (.fn (.func 66) [])),(10,.v (ti y.i)),(11,.v (ti y.j))],b8 ab r (.bm bG e 5 D),N+1000,N,[]⟩)
   (λy=>m<=y.i/\y.i<=y.j/\y.j<=b/\(∀k,m<=k->k<y.i->lt (g k) (g a)=true)/\∀k,y.j<=k->k<b->lt (g k) (g a)=false) (λy=>y.j-y.i) ⟨m,b⟩ ?_ ?_ (λy hy=>?_)
  ·exact Le.same (kc _) (by simp)
  ·exact⟨by simp,by simp;omega,by simp,λk k1 k2=>by simp at k2;omega,λk k1 k2=>by simp at k1;omega⟩
  obtain⟨i,j⟩:=y;obtain⟨p1,p2,p3,p4,p5⟩:=hy;simp only at p1 p2 p3 p4 p5⊢;apply aa.sq aq fw [0,1,4,10,11,33];simp[aoQ];refine aa.cond rfl (λh=>?_) (λh=>?_)
  ·simp at h;apply aa.skip;simp;apply aa.block;apply aa.ai aq fw [0,1,4,10,11,12];obtain⟨c,aS⟩:=aY ((i+j)/2);have hh:=abc (i:=i) (j:=j) (by omega);rw[aS]at hh;simp[aoR,hh];have ZY:=vx c (by omega);have WY:=vx a (by omega);apply aa.ai aq fw [0,1,4,10,11,12,50];simp[aoS,gf,ZY.1,WY.1,tk ZY.1,tk WY.1,KB,pS,AV];refine⟨by omega,by omega,⟨_,_,⟨rfl,rfl⟩,pQ c (by omega),pQ a (by omega)⟩, ?_⟩;refine aa.cond rfl (λh5=>?_) (λh5=>?_)
   ·apply aa.cZ aq fw [0,1,4,10,11];simp[aoT];refine⟨⟨c+1,j⟩,Le.same (kc _) ?_,⟨by simp only;omega,by simp only;omega,p3,λk k1 k2=>?_,p5⟩,by simp only;omega⟩
    ·simp;rw[av (by omega)]
    ·simp only at k2;cases wl:lt (g k) (g a)with
     |true=>rfl
     |false=>
      by_cases hk:k=c
      ·subst hk;rw[h5]at wl;cases wl
      ·have:=hw.ntrans _ _ _ (gr k c k1 (by omega) (by omega)) wl;rw[h5]at this;cases this
   ·apply aa.cZ aq fw [0,1,4,10,11];simp[aoU];refine⟨⟨i,c⟩,Le.same (kc _) ?_,⟨p1,by simp only;omega,by simp only;omega,p4,λk k1 k2=>?_⟩,by simp only;omega⟩
    ·simp
    ·simp only at k1;by_cases hk:k=c
     ·subst hk;exact h5
     ·exact hw.ntrans _ _ _ (gr c k (by omega) (by omega) k2) h5
  ·simp at h;have To:i=j:=by omega
   subst To;apply aa.exit;simp;have hD:D=D.take a++(eY D a m++(eY D m i++(eY D i b++D.drop b))):=by
    rw[ef D (by omega),ef D (by omega),ef D (by omega),Eg]
   have lA:(D.take a).length=a:=by simp;omega
   have lX:(eY D a m).length=1:=by simp;omega
   have l1:(eY D m i).length=i-m:=by simp;omega
   have l2:(eY D i b).length=b-i:=by simp;omega
   have lB:(D.drop b).length=D.length-b:=by simp
   obtain⟨x,hX⟩:=ZcX.1 lX;have hxg:x=g a:=by
    obtain⟨k,k1,k2,k3,k4⟩:=pq a m x (by rw[hX];simp);rw[<-k4,show k=a by omega]
   have hR1:∀z∈eY D m i,lt z x=true:=by
    intro z hz;obtain⟨k,k1,k2,k3,k4⟩:=pq _ _ z hz;rw[<-k4,hxg];exact p4 k k1 k2
   have hR2:∀z∈eY D i b,lt z x=false:=by
    intro z hz;obtain⟨k,k1,k2,k3,k4⟩:=pq _ _ z hz;rw[<-k4,hxg];exact p5 k k1 k2
   rw[rQ D p1 p3]at sR;have HG:=R9 hw sR hR1 hR2;rw[hX]at hD;generalize D.take a=A at*
   generalize eY D m i=R1 at*
   generalize eY D i b=R2 at*
   generalize D.drop b=B at*
   have fN:dG lt D a b=A++(R1++(x::(R2++B))):=by
    rw[hD,show A++([x]++(R1++(R2++B)))=A++((x::(R1++R2))++B)by simp,o9 lt A _ B lA (by simp;omega),HG];simp
   have dJ:∀z,(z=x\/z∈R1)->vP 5 z:=by
    intro z hz;refine hc.row z (cK z ?_);rw[hD];rcases hz with rfl|hz<;>simp[*]
   have EC:=dJ x (.inl rfl);apply aa.sq aq fw [0,10,13];simp[aoV];apply aa.block;refine aa.loop (λy:PQ=>⟨DM.look [(0,.aW r bG),(10,.v (ti i)),(13,.v (ti ((a+y.P.length:Nat):Int)))],b8 ab r (.bm bG e 5 (A++(y.P++(x::(y.Q++(R2++B)))))),N+1000,N,[]⟩)
    (λy=>R1=y.P++y.Q) (λy=>y.Q.length) ⟨[],R1⟩ ?_ (by simp) (λy hy=>?_)
   ·have e1:A++([]++(x::(R1++(R2++B))))=D:=by rw[hD];simp
    simp only[e1];refine Le.same (kc _) ?_;simp
   obtain⟨P,Q⟩:=y;simp only at hy⊢;have N1:P.length+Q.length=i-m:=by rw[<-l1,hy];simp
   obtain⟨k,hk⟩:=aY (a+P.length);have w3:IntKind.i64.wrap ((i:Int)-1)=((i-1:Nat):Int):=by rw[av (by omega)];omega
   rw[hk];apply aa.sq aq fw [0,10,13,58];simp[aoW,w3];refine aa.cond rfl (λh=>?_) (λh=>?_)
   ·simp at h
    match Q,N1 with
    |[],N1=>simp at N1;omega
    |q::Q,N1=>
    simp only[Bd]at N1;have FU:=dJ q (.inr (by rw[hy];simp));obtain⟨k',wi⟩:∃k',k'=k+1:=⟨_,rfl⟩;have w4:IntKind.i64.wrap ((k:Int)+1)=(k':Int):=by rw[av (by omega)];omega
    obtain⟨q1,q2,q3,q4,_,_⟩:=adj (A:=A++P) (B:=Q++(R2++B)) (x:=x) (y:=q) (k:=k) (by simp;omega) wi;obtain⟨Dc,u9⟩:=aY ((A++P)++(x::q::(Q++(R2++B))));rw[u9]at q1 q2 q3 q4;have hl:Dc.length=D.length:=by rw[<-u9,hD,hy];simp;omega
    apply aa.skip;simp;apply aa.seq;apply aa.block;rw[show A++(P++x::q::(Q++(R2++B)))=Dc by rw[<-u9];simp];apply aa.cZ aq fw [0,10,13];simp[ahf,w4,q1,q2,q3,q4,hl,EC.1,FU.1,tk EC.1,tk FU.1,dr EC.1,dr FU.1,fA EC.2,fA FU.2];repeat refine⟨by omega, ?_⟩
    apply aa.cZ aq fw [0,10,13];simp[ahg,w4];refine⟨⟨P++[q],Q⟩, ?_, ?_, ?_⟩
    ·rw[show A++((P++[q])++x::(Q++(R2++B)))=A++(P++q::x::(Q++(R2++B)))by simp];refine Le.same (kc _) ?_;simp;omega
    ·simp[hy]
    ·simp
   ·simp at h;have hQ:Q=[]:=yN (by omega);subst hQ;rw[AZ]at hy;subst hy;apply aa.exit;simp;apply aa.ret;simp[um,fN]
 simp at c1;apply aa.skip;simp;apply aa.sq aq fw [0,1,2,3,4,80];simp[ahh,w2];refine aa.cond rfl (λc2=>?_) (λc2=>?_)
 ·simp at c2;apply aa.ai aq fw [0,2,4,14];simp[ahi];apply aa.ai aq fw [0,2,4,14,15];simp[ahj];apply aa.seq;apply aa.block;refine aa.loop (λy:IJ=>⟨DM.look [(0,.aW r bG),(2,.v (ti m)),(4,.v (.fn (.func 66) [])),(14,.v (ti y.i)),(15,.v (ti y.j))],b8 ab r (.bm bG e 5 D),N+1000,N,[]⟩)
   (λy=>a<=y.i/\y.i<=y.j/\y.j<=m/\(∀k,a<=k->k<y.i->lt (g m) (g k)=false)/\∀k,y.j<=k->k<m->lt (g m) (g k)=true) (λy=>y.j-y.i) ⟨a,m⟩ ?_ ?_ (λy hy=>?_)
  ·exact Le.same (kc _) (by simp)
  ·exact⟨by simp,by simp;omega,by simp,λk k1 k2=>by simp at k2;omega,λk k1 k2=>by simp at k1;omega⟩
  obtain⟨i,j⟩:=y;obtain⟨p1,p2,p3,p4,p5⟩:=hy;simp only at p1 p2 p3 p4 p5⊢;apply aa.sq aq fw [0,2,4,14,15,85];simp[ahk];refine aa.cond rfl (λh=>?_) (λh=>?_)
  ·simp at h;apply aa.skip;simp;apply aa.block;apply aa.ai aq fw [0,2,4,14,15,16];obtain⟨c,aS⟩:=aY ((i+j)/2);have hh:=abc (i:=i) (j:=j) (by omega);rw[aS]at hh;simp[ahl,hh];have ZY:=vx c (by omega);have hgm:=vx m (by omega);apply aa.ai aq fw [0,2,4,14,15,16,103];simp[ahm,gf,ZY.1,hgm.1,tk ZY.1,tk hgm.1,KB,pS,AV];refine⟨by omega,by omega,⟨_,_,⟨rfl,rfl⟩,pQ m (by omega),pQ c (by omega)⟩, ?_⟩;refine aa.cond rfl (λh5=>?_) (λh5=>?_)
   ·simp only[Fb]at h5;apply aa.cZ aq fw [0,2,4,14,15];simp[ahn];refine⟨⟨c+1,j⟩,Le.same (kc _) ?_,⟨by simp only;omega,by simp only;omega,p3,λk k1 k2=>?_,p5⟩,by simp only;omega⟩
    ·simp;rw[av (by omega)]
    ·simp only at k2;by_cases hk:k=c
     ·subst hk;exact h5
     ·exact hw.ntrans _ _ _ h5 (gl k c k1 (by omega) (by omega))
   ·simp only[Zdk]at h5;apply aa.cZ aq fw [0,2,4,14,15];simp[aho];refine⟨⟨i,c⟩,Le.same (kc _) ?_,⟨p1,by simp only;omega,by simp only;omega,p4,λk k1 k2=>?_⟩,by simp only;omega⟩
    ·simp
    ·simp only at k1;cases wl:lt (g m) (g k)with
     |true=>rfl
     |false=>
      by_cases hk:k=c
      ·subst hk;rw[h5]at wl;cases wl
      ·have:=hw.ntrans _ _ _ wl (gl c k (by omega) (by omega) k2);rw[h5]at this;cases this
  ·simp at h;have To:i=j:=by omega
   subst To;apply aa.exit;simp;have hD:D=D.take a++(eY D a i++(eY D i m++(eY D m b++D.drop b))):=by
    rw[ef D (by omega),ef D (by omega),ef D (by omega),Eg]
   have lA:(D.take a).length=a:=by simp;omega
   have lX:(eY D m b).length=1:=by simp;omega
   have l1:(eY D a i).length=i-a:=by simp;omega
   have l2:(eY D i m).length=m-i:=by simp;omega
   have lB:(D.drop b).length=D.length-b:=by simp
   obtain⟨x,hX⟩:=ZcX.1 lX;have hxg:x=g m:=by
    obtain⟨k,k1,k2,k3,k4⟩:=pq m b x (by rw[hX];simp);rw[<-k4,show k=m by omega]
   have hR1:∀z∈eY D a i,lt x z=false:=by
    intro z hz;obtain⟨k,k1,k2,k3,k4⟩:=pq _ _ z hz;rw[<-k4,hxg];exact p4 k k1 k2
   have hR2:∀z∈eY D i m,lt x z=true:=by
    intro z hz;obtain⟨k,k1,k2,k3,k4⟩:=pq _ _ z hz;rw[<-k4,hxg];exact p5 k k1 k2
   rw[rQ D p1 p3]at sL;have HG:=Vk hw sL hR1 hR2;rw[hX]at hD;generalize D.take a=A at*
   generalize eY D a i=L1 at*
   generalize eY D i m=L2 at*
   generalize D.drop b=B at*
   have fN:dG lt D a b=A++(L1++(x::(L2++B))):=by
    rw[hD,show A++(L1++(L2++([x]++B)))=A++((L1++L2++[x])++B)by simp,o9 lt A _ B lA (by simp;omega),HG];simp
   have dJ:∀z,(z=x\/z∈L2)->vP 5 z:=by
    intro z hz;refine hc.row z (cK z ?_);rw[hD];rcases hz with rfl|hz<;>simp[*]
   have EC:=dJ x (.inl rfl);apply aa.sq aq fw [0,14,17];simp[ahp];apply aa.block;refine aa.loop (λy:PQ=>⟨DM.look [(0,.aW r bG),(14,.v (ti i)),(17,.v (ti ((i+y.P.length:Nat):Int)))],b8 ab r (.bm bG e 5 (A++(L1++(y.P++(x::(y.Q++B)))))),N+1000,N,[]⟩)
    (λy=>L2=y.P++y.Q) (λy=>y.P.length) ⟨L2,[]⟩ ?_ (by simp) (λy hy=>?_)
   ·have e1:A++(L1++(L2++(x::([]++B))))=D:=by rw[hD];simp
    simp only[e1];refine Le.same (kc _) ?_;simp;omega
   obtain⟨P,Q⟩:=y;simp only at hy⊢;have N1:P.length+Q.length=m-i:=by rw[<-l2,hy];simp
   obtain⟨k,hk⟩:=aY (i+P.length);rw[hk];apply aa.sq aq fw [0,14,17,110];simp[ahq];refine aa.cond rfl (λh=>?_) (λh=>?_)
   ·simp at h;rcases Zc2 P with rfl|⟨P',q,rfl⟩
    ·simp at hk;omega
    simp only[Zc3]at*
    simp only[qe,Bd,RI]at hk N1;have FU:=dJ q (.inr (by rw[hy];simp));obtain⟨k',wi⟩:∃k',k=k'+1:=⟨k-1,by omega⟩;have w4:IntKind.i64.wrap ((k:Int)-1)=(k':Int):=by rw[av (by omega)];omega
    obtain⟨q1,q2,_,_,q3,q4⟩:=adj (A:=A++(L1++P')) (B:=Q++B) (x:=q) (y:=x) (k:=k') (by simp;omega) wi;obtain⟨Dc,u9⟩:=aY ((A++(L1++P'))++(q::x::(Q++B)));rw[u9]at q1 q2 q3 q4;have hl:Dc.length=D.length:=by rw[<-u9,hD,hy];simp;omega
    apply aa.skip;simp;apply aa.seq;apply aa.block;rw[show A++(L1++(P'++q::x::(Q++B)))=Dc by rw[<-u9];simp];apply aa.cZ aq fw [0,14,17];simp[ahr,w4,q1,q2,q3,q4,hl,EC.1,FU.1,tk EC.1,tk FU.1,dr EC.1,dr FU.1,fA EC.2,fA FU.2];repeat refine⟨by omega, ?_⟩
    apply aa.cZ aq fw [0,14,17];simp[ahs,w4];refine⟨⟨P',q::Q⟩, ?_, ?_, ?_⟩
    ·rw[show A++(L1++(P'++x::(q::Q++B)))=A++(L1++(P'++x::q::(Q++B)))by simp];refine Le.same (kc _) ?_;simp;omega
    ·simp[hy]
    ·simp
   ·simp at h;have hQ:P=[]:=yN (by omega);subst hQ;rw[Em]at hy;subst hy;apply aa.exit;simp;apply aa.ret;simp[um,fN]
 simp at c2;apply aa.skip;simp;obtain⟨mid,amt⟩:=aY ((a+b)/2);have hh:=abc (i:=a) (j:=b) (by omega);rw[amt]at hh;apply aa.ai aq fw [0,1,2,3,4,18];simp[aht,hh];obtain⟨n,hn⟩:=aY (mid+m);have Ck:IntKind.i64.wrap ((mid:Int)+m)=(n:Int):=by rw[av (by omega)];omega
 apply aa.ai aq fw [0,1,2,3,4,18,19];simp[ahu,Ck];apply aa.ai aq fw [0,1,2,3,4,18,19];simp[ahv];apply aa.sq aq fw [0,1,2,3,4,18,19,140];simp[ahw];obtain⟨s0,hs0⟩:=aY ((if mid<m then n-b else a));obtain⟨r0,hr0⟩:=aY ((if mid<m then mid else m));refine aa.to ⟨DM.look [(0,.aW r bG),(1,.v (ti a)),(2,.v (ti m)),(3,.v (ti b)),(4,.v (.fn (.func 66) [])),(18,.v (ti mid)),(19,.v (ti n)),(20,.v (ti s0)),(21,.v (ti r0))],b8 ab r (.bm bG e 5 D),N+1000,N,[]⟩ ?_ ?_
 ·refine aa.cond rfl (λc3=>?_) (λc3=>?_)
  ·simp at c3;have e1:s0=n-b:=by rw[<-hs0,cM c3]
   have e2:r0=mid:=by rw[<-hr0,cM c3]
   apply aa.ai aq fw [0,1,2,3,4,18,19,20];simp[ahx];apply aa.cZ aq fw [0,1,2,3,4,18,19,20,21];simp[ahy];refine Le.same (kc _) ?_;simp;refine⟨?_,by omega⟩;rw[av (by omega)];omega
  ·simp at c3;have e1:s0=a:=by rw[<-hs0,bX (by omega)]
   have e2:r0=m:=by rw[<-hr0,bX (by omega)]
   apply aa.ai aq fw [0,1,2,3,4,18,19,20];simp[ahz];apply aa.cZ aq fw [0,1,2,3,4,18,19,20,21];simp[ahA];refine Le.same (kc _) ?_;simp[e1,e2]
 have hsr:a<=s0/\s0<=r0/\r0<=m/\r0<=mid/\n-s0<=b/\m<=n-r0/\s0<=n/\(s0=a\/n-s0=b)/\(r0=m\/n-r0=m):=by
  by_cases c3:mid<m
  ·rw[cM c3]at hs0 hr0;omega
  ·rw[bX c3]at hs0 hr0;omega
 clear hs0 hr0;obtain⟨yz,Tk,hs3,hs4,hs5,hs6,hs7,hs8,hs9⟩:=hsr;have w3:IntKind.i64.wrap ((n:Int)-1)=((n-1:Nat):Int):=by rw[av (by omega)];omega
 apply aa.ai aq fw [0,1,2,3,4,18,19,20,21,22];simp[ahB,w3];apply aa.seq;apply aa.block;refine aa.loop (λy:IJ=>⟨DM.look [(0,.aW r bG),(1,.v (ti a)),(2,.v (ti m)),(3,.v (ti b)),(4,.v (.fn (.func 66) [])),(18,.v (ti mid)),(19,.v (ti n)),(20,.v (ti y.i)),(21,.v (ti y.j)),(22,.v (ti ((n-1:Nat):Int)))],b8 ab r (.bm bG e 5 D),N+1000,N,[]⟩)
  (λy=>s0<=y.i/\y.i<=y.j/\y.j<=r0/\(y.i=s0\/lt (g (n-y.i)) (g (y.i-1))=false)/\(y.j=r0\/lt (g (n-1-y.j)) (g y.j)=true)) (λy=>y.j-y.i) ⟨s0,r0⟩ ?_ ?_ (λy hy=>?_)
 ·exact Le.same (kc _) (by simp)
 ·exact⟨by simp,by simp;omega,by simp,.inl rfl,.inl rfl⟩
 obtain⟨i,j⟩:=y;obtain⟨p1,p2,p3,p4,p5⟩:=hy;simp only at p1 p2 p3 p4 p5⊢;apply aa.sq aq fw [0,1,2,3,4,18,19,20,21,22,151];simp[ahC];refine aa.cond rfl (λh=>?_) (λh=>?_)
 ·simp at h;apply aa.skip;simp;apply aa.block;obtain⟨c,aS⟩:=aY ((i+j)/2);have hh:=abc (i:=i) (j:=j) (by omega);rw[aS]at hh;apply aa.ai aq fw [0,1,2,3,4,18,19,20,21,22,23];simp[ahD,hh];obtain⟨q,hq⟩:=aY (n-1-c);have w4:IntKind.i64.wrap (((n-1:Nat):Int)-c)=(q:Int):=by rw[av (by omega)];omega
  have ZY:=vx c (by omega);have hgq:=vx q (by omega);apply aa.ai aq fw [0,1,2,3,4,18,19,20,21,22,23,171];simp[ahE,w4,gf,ZY.1,hgq.1,tk ZY.1,tk hgq.1,KB,pS,AV];refine⟨by omega,by omega,⟨_,_,⟨rfl,rfl⟩,pQ q (by omega),pQ c (by omega)⟩, ?_⟩;refine aa.cond rfl (λh5=>?_) (λh5=>?_)
  ·simp only[Fb]at h5;apply aa.cZ aq fw [0,1,2,3,4,18,19,20,21,22];simp[ahF];refine⟨⟨c+1,j⟩,Le.same (kc _) ?_,⟨by simp only;omega,by simp only;omega,p3,.inr ?_,p5⟩,by simp only;omega⟩
   ·simp;rw[av (by omega)]
   ·simp only;rw[show n-(c+1)=q by omega,show c+1-1=c by omega];exact h5
  ·simp only[Zdk]at h5;apply aa.cZ aq fw [0,1,2,3,4,18,19,20,21,22];simp[ahG];refine⟨⟨i,c⟩,Le.same (kc _) ?_,⟨p1,by simp only;omega,by simp only;omega,p4,.inr ?_⟩,by simp only;omega⟩
   ·simp
   ·simp only;rw[hq];exact h5
 simp at h;have To:i=j:=by omega
 subst To;apply aa.exit;simp;obtain⟨en,hen⟩:=aY (n-i);have w5:IntKind.i64.wrap ((n:Int)-i)=(en:Int):=by rw[av (by omega)];omega
 have k1:∀rr∈eY D m en,∀l∈eY D i m,lt rr l=true:=by
  intro rr pY l hl;obtain⟨x,x1,x2,x3,x4⟩:=pq _ _ _ pY;obtain⟨y,y1,y2,y3,y4⟩:=pq _ _ _ hl;rw[<-x4,<-y4];have h5:lt (g (n-1-i)) (g i)=true:=by
   rcases p5 with e|e
   ·exfalso;omega
   ·exact e
  cases h6:lt (g x) (g y)with
  |true=>rfl
  |false=>
   have h7:lt (g x) (g i)=false:=by
    by_cases e:y=i
    ·subst e;exact h6
    ·exact hw.ntrans _ _ _ h6 (gl i y (by omega) (by omega) y2)
   have h8:lt (g (n-1-i)) (g i)=false:=by
    by_cases e:x=n-1-i
    ·rw[<-e];exact h7
    ·exact hw.ntrans _ _ _ (gr x (n-1-i) x1 (by omega) (by omega)) h7
   rw[h5]at h8;cases h8
 have k2:∀l∈eY D a i,∀rr∈eY D en b,lt rr l=false:=by
  intro l hl rr pY;obtain⟨x,x1,x2,x3,x4⟩:=pq _ _ _ pY;obtain⟨y,y1,y2,y3,y4⟩:=pq _ _ _ hl;rw[<-x4,<-y4];have h5:lt (g (n-i)) (g (i-1))=false:=by
   rcases p4 with e|e
   ·exfalso;omega
   ·exact e
  have h6:lt (g x) (g (i-1))=false:=by
   by_cases e:x=n-i
   ·rw[e];exact h5
   ·exact hw.ntrans _ _ _ (gr (n-i) x (by omega) (by omega) x2) h5
  by_cases e:y=i-1
  ·rw[e];exact h6
  ·exact hw.ntrans _ _ _ h6 (gl y (i-1) y1 (by omega) (by omega))
 have law:=G5 hw (D:=D) (a:=a) (s:=i) (m:=m) (e:=en) (b:=b) (mid:=mid) (by omega) (by omega) (by omega) (by omega) h3 (by omega) sL sR k1 k2;simp only at law;apply aa.ai aq fw [0,1,2,3,4,18,20,24];simp[ahH,w5];obtain⟨D1,hD1⟩:=aY (nY D i m en);obtain⟨D2,Z9⟩:=aY (dG lt D1 a mid);rw[hD1,Z9]at law;obtain⟨⟨a1,a2⟩,⟨a3,a4⟩,a5,a6,a7,a8,a9⟩:=law;have lD1:D1.length=D.length:=by rw[<-hD1];exact G4 (by omega) (by omega) (by omega)
 have lD2:D2.length=D.length:=by rw[<-Z9,Ez lt D1 (by omega) (by omega),lD1]
 have gD1:∀x∈D1,dj x:=λx hx=>cK x ((Sb (D:=D) (a:=i) (m:=m) (b:=en) (by omega) (by omega)).1 (by rw[hD1];exact hx));have gD2:∀x∈D2,dj x:=λx hx=>gD1 x ((MI (lt:=lt) (D:=D1) (a:=a) (b:=mid) (by omega)).1 (by rw[Z9];exact hx));apply aa.seq;refine aa.bL aq fw [(0,.aW r bG),(1,.v (ti a)),(2,.v (ti m)),(3,.v (ti b)),(4,.v (.fn (.func 66) [])),(18,.v (ti mid)),(20,.v (ti i)),(24,.v (ti en)),(185,.v (.bool (decide (i<m/\m<en))))] ?_ ?_
 ·simp[ahI];repeat' (first|apply And.intro|intro _)
  all_goals first|omega|(simp;omega)|trace_state
 refine aa.to ⟨DM.look [(0,.aW r bG),(1,.v (ti a)),(3,.v (ti b)),(4,.v (.fn (.func 66) [])),(18,.v (ti mid)),(20,.v (ti i)),(24,.v (ti en))],b8 ab r (.bm bG e 5 D1),N+1000,N,[]⟩ ?_ ?_
 ·refine aa.cond rfl (λc3=>?_) (λc3=>?_)
  ·simp only[j2]at c3;refine aa.rP aq fw (rs:=Pz) (.inr ⟨_,pV⟩) (by kernel_rfl) [0,1,3,4,18,20,24] ?_;simp[Pz,KB,Z8,hD1];refine⟨⟨λx hx=>hc.row x (cK x hx),by omega,by omega,by omega,by omega⟩, ?_⟩;exact Le.same (kc _) (by simp)
  ·simp only[pn]at c3;rw[N0 (by omega) (by omega) c3]at hD1;subst hD1;refine aa.skip ⟨rfl, ?_⟩;exact Le.same (kc _) (by simp)
 apply aa.seq;refine aa.bL aq fw [(0,.aW r bG),(1,.v (ti a)),(3,.v (ti b)),(4,.v (.fn (.func 66) [])),(18,.v (ti mid)),(20,.v (ti i)),(24,.v (ti en)),(199,.v (.bool (decide (a<i/\i<mid))))] ?_ ?_
 ·simp[ahJ];repeat' (first|apply And.intro|intro _)
  all_goals first|omega|(simp;omega)|trace_state
 refine aa.to ⟨DM.look [(0,.aW r bG),(3,.v (ti b)),(4,.v (.fn (.func 66) [])),(18,.v (ti mid)),(24,.v (ti en))],b8 ab r (.bm bG e 5 D2),N+1000,N,[]⟩ ?_ ?_
 ·refine aa.cond rfl (λc3=>?_) (λc3=>?_)
  ·simp only[j2]at c3;refine aa.rP aq fw (rs:=PA) (.inr ⟨_,pV⟩) (by kernel_rfl) [0,3,4,18,24] ?_;simp[PA,KB,SG,cQ,Z9];refine⟨⟨gD1,by omega,by omega,by omega,by omega,by omega,a1,a2⟩, ?_⟩;exact Le.same (kc _) (by simp)
  ·simp only[pn]at c3;have e1:D2=D1:=by
    by_cases e:i=a
    ·exact a6 e
    ·exact a7 (by omega)
   rw[e1];refine aa.skip ⟨rfl, ?_⟩;exact Le.same (kc _) (by simp)
 refine aa.bL aq fw [(0,.aW r bG),(3,.v (ti b)),(4,.v (.fn (.func 66) [])),(18,.v (ti mid)),(24,.v (ti en)),(213,.v (.bool (decide (mid<en/\en<b))))] ?_ ?_
 ·simp[ahK];repeat' (first|apply And.intro|intro _)
  all_goals first|omega|(simp;omega)|trace_state
 refine aa.cond rfl (λc3=>?_) (λc3=>?_)
 ·simp only[j2]at c3;refine aa.rP aq fw (rs:=PB) (.inr ⟨_,pV⟩) (by kernel_rfl) [] ?_;simp[PB,KB,SG,cQ,a5,um];exact⟨gD2,by omega,by omega,by omega,by omega,by omega,a3,a4⟩
 ·simp only[pn]at c3;have e1:dG lt D a b=D2:=by
   rw[<-a5];by_cases e:en<=mid
   ·exact a8 e
   ·exact a9 (by omega)
  apply aa.skip;simp[um,e1]
def arE{dj:aG->Prop}{dK:aG->aG->Int}(hc:qE dj dK 66 5)(hw:SWO (my dK)):∀F:Nat,aw ap (KB dj dK F)
 |0=>by
  refine aw.il (arD hc) ?_;intro args ab h;unfold SG at h;split at h
  ·split at h
   ·simp only at h;omega
   ·exact h.elim
  ·exact h.elim
 |F+1=>by
  refine aw.il (arD hc) ?_;intro args ab h;unfold SG at h⊢;split at h
  ·split at h
   ·rename_i a m b c cz _ bM e sz D eH;obtain⟨rfl,rfl,rfl,rfl,h1,h2,h3,h4,h5,h6,h7,h8,h9⟩:=h;have ea:a=(a.toNat:Int):=by omega
    have eb:b=(b.toNat:Int):=by omega
    have en:m=(m.toNat:Int):=by omega
    refine⟨λN hN=>?_,λk hk=>fj eH hk⟩;have:=avt hc hw F (arE hc hw F) D a.toNat m.toNat b.toNat ab _ _ e eH h1 (by omega) (by omega) (by omega) h6 (by omega) h8 h9 hN;rw[<-ea,<-eb,<-en]at this;simp only[];exact this.of rfl rfl
   ·exact h.elim
  ·exact h.elim
end
def KC(lt:aG->aG->Bool)(l:List (aG))(x:aG):nM lt (l++[x])=kC lt x (nM lt l):=by simp[nM]
def t49{dj:aG->Prop}{dK:aG->aG->Int}(hc:qE dj dK 66 5)
  (D:List (aG)) (a b:Nat) (ab:bS) (r bG e:Nat) (eH:ab r=some (.bm bG e 5 D)) (cK:∀x∈D,dj x) (h1:a<=b) (h3:b<=D.length) (h4:D.length<=140737488355328)
  {N:Nat} (hN:∀r,N<=r->ab r=none):ce ap 161 [.aW r bG,.v (ti a),.v (ti b),.v (.fn (.func 66) [])] ab ⟨True,.v (.dh []),b8 ab r (.bm bG e 5 (dG (my dK) D a b))⟩:=by
 have aq:=PT hc;have kc:∀o k,N+1000<=k->b8 ab r o k=none:=λo k hk=>fj eH (hN k (by omega));obtain⟨lt,cQ,AV⟩:∃lt:aG->aG->Bool,my dK=lt/\∀x y,decide (dK x y<0)=lt x y:=⟨_,rfl,λ_ _=>rfl⟩;rw[cQ];refine c49.Z1 hN (by simp) (iE ?_);rw[oG eH];simp;have hD:D=D.take a++(eY D a b++D.drop b):=by rw[ef D h1,Eg]
 have lA:(D.take a).length=a:=by simp;omega
 have lX:(eY D a b).length=b-a:=by simp;omega
 have lB:(D.drop b).length=D.length-b:=by simp
 obtain⟨A,hA⟩:=aY (D.take a);obtain⟨X,hX⟩:=aY (eY D a b);obtain⟨B,hB⟩:=aY (D.drop b);have fN:dG lt D a b=A++(b9 lt X++B):=by unfold dG;rw[hA,hX,hB]
 rw[hA,hX,hB]at hD;rw[hA]at lA;rw[hX]at lX;rw[hB]at lB;have w1:IntKind.i64.wrap ((a:Int)+1)=((a+1:Nat):Int):=by rw[av (by omega)];omega
 apply aa.ai aq fw [0,1,2,3,8];simp[Px,w1];apply aa.block;refine aa.loop (λy:PQ=>⟨DM.look [(0,.aW r bG),(1,.v (ti a)),(2,.v (ti b)),(3,.v (.fn (.func 66) [])),(8,.v (ti ((a+1+(y.P.length-1):Nat):Int)))],b8 ab r (.bm bG e 5 (A++(b9 lt y.P++(y.Q++B)))),N+1000,N,[]⟩)
  (λy=>X=y.P++y.Q/\(y.P=[]->y.Q=[])) (λy=>y.Q.length) ⟨X.take 1,X.drop 1⟩ ?_ ?_ (λy hy=>?_)
 ·have e1:A++(b9 lt (X.take 1)++(X.drop 1++B))=D:=by
   rw[hD];cases X with
   |nil=>simp[b9,nM]
   |cons x X=>simp[b9,nM,kC]
  simp only[e1];refine Le.same (kc _) ?_;cases X with
  |nil=>simp
  |cons x X=>simp
 ·refine⟨(Eg 1 X).symm, ?_⟩;cases X with
  |nil=>simp
  |cons x X=>simp
 obtain⟨P,Q⟩:=y;obtain⟨vy,fI⟩:=hy;simp only at vy fI⊢;have N1:P.length+Q.length=b-a:=by rw[<-lX,vy];simp
 obtain⟨i,hi⟩:=aY (a+1+(P.length-1));rw[hi];apply aa.sq aq fw [0,1,2,3,8,14];simp[Kj];refine aa.cond rfl (λh=>?_) (λh=>?_)
 ·simp at h
  match P,Q,fI,N1 with
  |[],Q,fI,N1=>have:=fI rfl;subst this;simp at N1 hi;omega
  |p0::P0,[],_,N1=>simp at N1 hi;omega
  |p0::P0,x::Q,_,N1=>
  generalize hPP:p0::P0=P at*
  have hPl:1<=P.length:=by rw[<-hPP];simp
  simp only[Bd]at N1;have hxD:x∈D:=by rw[hD,vy];simp
  have EC:=hc.row x (cK x hxD);apply aa.skip;simp;apply aa.seq;apply aa.block;apply aa.ai aq fw [0,1,2,3,8,9];simp[Wu];apply aa.block;obtain⟨eU,arF⟩:=aY (nM lt P);have his:b9 lt P=eU.reverse:=by unfold b9;rw[arF]
  have arG:eU.length=P.length:=by have:=gO (lt:=lt) P;rw[his]at this;simpa using this
  have arH:∀z,z∈eU->z∈D:=by
   intro z hz;have:z∈b9 lt P:=by rw[his];simpa using hz
   rw[gI]at this;rw[hD,vy];simp[this]
  rw[his];refine aa.loop (λy:PQ=>⟨DM.look [(0,.aW r bG),(1,.v (ti a)),(2,.v (ti b)),(3,.v (.fn (.func 66) [])),(8,.v (ti i)),(9,.v (ti ((a+y.P.length:Nat):Int)))],b8 ab r (.bm bG e 5 (A++(y.P++(x::(y.Q++(Q++B)))))),N+1000,N,[]⟩)
   (λy=>eU=y.Q.reverse++y.P.reverse/\kC lt x eU=y.Q.reverse++kC lt x y.P.reverse) (λy=>y.P.length) ⟨eU.reverse,[]⟩ ?_ ?_ (λy hz=>?_)
  ·simp only[Em];refine Le.same (kc _) ?_;simp[arG];omega
  ·simp
  obtain⟨P1,Q1⟩:=y;obtain⟨yd,AS⟩:=hz;simp only at yd AS⊢;obtain⟨k,hk⟩:=aY (a+P1.length);have l1:P1.length+Q1.length=P.length:=by rw[<-arG,yd];simp;omega
  rw[hk];apply aa.seq;obtain⟨t,ht⟩:=aY ((match P1.reverse with|[]=>false|p::_=>lt x p));obtain⟨Dc,u9⟩:=aY (A++(P1++(x::(Q1++(Q++B)))));have hl:Dc.length=D.length:=by rw[<-u9,hD,vy];simp;omega
  have hkD:k<D.length:=by
   have:D.length=a+(P.length+(Q.length+1)+B.length):=by rw[hD,vy];simp;omega
   omega
  have hkx:DM.rowAt Dc k=x:=by
   rw[<-u9,<-List.append_assoc];exact kg (by simp;omega)
  rw[u9];refine aa.bL aq fw [(0,.aW r bG),(1,.v (ti a)),(2,.v (ti b)),(3,.v (.fn (.func 66) [])),(8,.v (ti i)),(9,.v (ti k)),(34,.v (.bool t))] ?_ ?_
  ·rcases Zc2 P1 with rfl|⟨P2,p,rfl⟩
   ·simp at hk ht;simp[Kk,hk,ht]
   ·simp only[Zc3,List.reverse_append,List.reverse_cons,List.reverse_nil,Em,List.singleton_append,qe,Bd,RI]at hk ht u9 yd;obtain⟨k',wi⟩:∃k',k=k'+1:=⟨k-1,by omega⟩;have hpD:p∈D:=arH p (by rw[yd];simp);have PE:=hc.row p (cK p hpD);have w4:IntKind.i64.wrap ((k:Int)-1)=(k':Int):=by rw[av (by omega)];omega
    have hkp:DM.rowAt Dc k'=p:=by
     rw[<-u9,show A++((P2++[p])++(x::(Q1++(Q++B))))=(A++P2)++(p::x::(Q1++(Q++B)))by simp];exact kg (by simp;omega)
    simp[Kk,w4,hkx,hkp,hl,EC.1,PE.1,tk EC.1,tk PE.1,pS,AV,ht];refine⟨λ_=>⟨by omega,by omega,⟨_,_,⟨rfl,rfl⟩,cK x hxD,cK p hpD⟩⟩,λh=>?_⟩;omega
  refine aa.cond rfl (λh5=>?_) (λh5=>?_)
  ·rcases Zc2 P1 with rfl|⟨P2,p,rfl⟩
   ·simp at ht;rw[h5]at ht;cases ht
   ·simp only[Zc3,List.reverse_append,List.reverse_cons,List.reverse_nil,Em,List.singleton_append,qe,Bd,RI]at hk ht u9 yd AS l1⊢;rw[h5]at ht;obtain⟨k',wi⟩:∃k',k=k'+1:=⟨k-1,by omega⟩;have hpD:p∈D:=arH p (by rw[yd];simp);have PE:=hc.row p (cK p hpD);have w4:IntKind.i64.wrap ((k:Int)-1)=(k':Int):=by rw[av (by omega)];omega
    obtain⟨q1,q2,_,_,q3,q4⟩:=adj (A:=A++P2) (B:=Q1++(Q++B)) (x:=p) (y:=x) (k:=k') (by simp;omega) wi;rw[show(A++P2)++(p::x::(Q1++(Q++B)))=Dc by rw[<-u9];simp]at q1 q2 q3 q4;apply aa.skip;simp;apply aa.seq;apply aa.block;apply aa.cZ aq fw [0,1,2,3,8,9];simp[aoN,w4,q1,q2,q3,q4,hl,EC.1,PE.1,tk EC.1,tk PE.1,dr EC.1,dr PE.1,fA EC.2,fA PE.2];repeat refine⟨by omega, ?_⟩
    apply aa.cZ aq fw [0,1,2,3,8,9];simp[aoO,w4];refine⟨⟨P2,p::Q1⟩, ?_,⟨?_, ?_⟩, ?_⟩
    ·rw[show A++(P2++x::(p::Q1++(Q++B)))=A++(P2++x::p::(Q1++(Q++B)))by simp];refine Le.same (kc _) ?_;simp;omega
    ·simp[yd]
    ·rw[AS,kC,cM ht];simp
    ·simp
  ·have HG:kC lt x P1.reverse=x::P1.reverse:=by
    cases hr:P1.reverse with
    |nil=>rfl
    |cons p P2=>
     rw[hr]at ht;simp only at ht;rw[kC,bX (by rw[ht,h5];simp)]
   rw[HG]at AS;have mu:b9 lt (P++[x])=P1++x::Q1:=by
    unfold b9;rw[KC,arF,AS];simp
   apply aa.exit;simp;apply aa.cZ aq fw [0,1,2,3,8];simp[aoP];refine⟨⟨P++[x],Q⟩, ?_,⟨?_, ?_⟩, ?_⟩
   ·rw[show A++(b9 lt (P++[x])++(Q++B))=Dc by rw[mu,<-u9];simp];refine Le.same (kc _) ?_;simp;rw[av (by omega)];omega
   ·rw[vy];simp
   ·simp
   ·simp
 ·simp at h;have hQ:Q=[]:=by
   by_cases e:P=[]
   ·exact fI e
   ·have:1<=P.length:=List.length_pos_iff.2 e;exact yN (by omega)
  subst hQ;rw[AZ]at vy;subst vy;apply aa.exit;simp[Dr,fN]
section
variable{dj:aG->Prop}{dK:aG->aG->Int}
def k49(dj:aG->Prop)(dK:aG->aG->Int):bW->bS->iw
 |[.aW r bG,.v (.int .i64 a),.v (.int .i64 b),.v (.fn (.func c) cz)],ab=>match ab r with
  |some (.bm bM e sz D)=>⟨bG=bM/\sz=5/\c=66/\cz=[]/\(∀x∈D,dj x)/\0<=a/\a<=b/\b<=D.length/\D.length<=140737488355328,
    .v (.dh []),b8 ab r (.bm bG e 5 (dG (my dK) D a.toNat b.toNat))⟩
  |_=>⟨False,.undef,ab⟩
 |[.aZ,.v (.int .i64 a),.v (.int .i64 b),.v (.fn (.func c) cz)],ab=>⟨a=0/\b=0,.v (.dh []),ab⟩
 |_,ab=>⟨False,.undef,ab⟩
def ST(dj:aG->Prop)(dK:aG->aG->Int)(F:Nat):kv:=bz [(161,fl (k49 dj dK)),(162,fl (SG dj dK F)),(192,fl Z8),(66,pS dj dK)]
def avu(ab:bS)(f:T){N:Nat}(hN:∀r,N<=r->ab r=none):ce ap 161 [.aZ,.v (ti 0),.v (ti 0),.v f] ab ⟨True,.v (.dh []),ab⟩:=by
 have aq:aw ap (bz []):=aw.nil;refine c49.Z1 hN (by simp) (iE ?_);simp;apply aa.ai aq fw [2,8];simp[Px];apply aa.block;refine aa.loop (λy:Nat=>⟨DM.look [(2,.v (ti 0)),(8,.v (ti 1))],ab,N+1000,N,[]⟩) (λ_=>True) (λ_=>0) 0 (Le.same (λk hk=>hN k (by omega)) (by simp)) trivial (λy hy=>?_);apply aa.sq aq fw [14];simp[Kj];refine aa.cond rfl (λh=>by cases h) (λ_=>?_);apply aa.exit;simp[Dr]
def arI(hc:qE dj dK 66 5)(hw:SWO (my dK))(F:Nat):aw ap (ST dj dK F):=by
 refine aw.il (arE hc hw F) ?_;intro args ab h;unfold k49 at h⊢;split at h
 ·split at h
  ·rename_i a b c cz _ bM e sz D eH;obtain⟨rfl,rfl,rfl,rfl,h1,h2,h3,h4,h5⟩:=h;have ea:a=(a.toNat:Int):=by omega
   have eb:b=(b.toNat:Int):=by omega
   refine⟨λN hN=>?_,λk hk=>fj eH hk⟩;have:=t49 hc D a.toNat b.toNat ab _ _ e eH h1 (by omega) (by omega) h5 hN;rw[<-ea,<-eb]at this;simp only[];exact this.of rfl rfl
  ·exact h.elim
 ·obtain⟨rfl,rfl⟩:=h;exact⟨λN hN=>(avu ab _ hN).of rfl rfl,λ_ h=>h⟩
 ·exact h.elim
structure KD where
 k:Nat
 D:List (aG)
structure BD where
 b:Nat
 D:List (aG)
def t48(hc:qE dj dK 66 5)(hw:SWO (my dK))
  (D:List (aG)) (ab:bS) (r bG e:Nat) (eH:ab r=some (.bm bG e 5 D)) (cK:∀x∈D,dj x) (h4:D.length<=140737488355328)
  {N:Nat} (hN:∀r,N<=r->ab r=none):ce ap 116 [.aW r bG,.v (ti D.length),.v (.fn (.func 66) [])] ab ⟨True,.v (.dh []),b8 ab r (.bm bG e 5 (b9 (my dK) D))⟩:=by
 have aq:=arI hc hw (D.length+1);have kc:∀o k,N+1000<=k->b8 ab r o k=none:=λo k hk=>fj eH (hN k (by omega));obtain⟨lt,cQ⟩:=aY (my dK:aG->aG->Bool);rw[cQ]at hw⊢;refine c48.Z1 hN (by simp) (iE ?_);rw[oG eH];simp;obtain⟨n,hn⟩:=aY D.length;obtain⟨RR,Ts⟩:=aY (b9 lt D);have same:∀D':List (aG),b9 lt D'=RR->(∀x∈D',dj x)/\D'.length=n:=by
  intro D' h;refine⟨λx hx=>cK x ?_, ?_⟩
  ·have:x∈b9 lt D':=by simpa using hx
   rw[h,<-Ts]at this;simpa using this
  ·have:=gO (lt:=lt) D';rw[h,<-Ts,gO]at this;omega
 have PU:∀(D':List (aG)) (a b:Nat),b9 lt D'=RR->a<=b->b9 lt (dG lt D' a b)=RR:=λD' a b h ik=>by rw[G6 hw ik,h]
 rw[hn,Ts];apply aa.ai aq fw [0,1,2,6];simp[Pt];apply aa.ai aq fw [0,1,2,6,7,8];simp[Pu];apply aa.seq;apply aa.block;refine aa.loop (λy:KD=>⟨DM.look [(0,.aW r bG),(1,.v (ti n)),(2,.v (.fn (.func 66) [])),(6,.v (ti 20)),(7,.v (ti ((20*y.k:Nat):Int))),(8,.v (ti ((20*y.k+20:Nat):Int)))],b8 ab r (.bm bG e 5 y.D),N+1000,N,[]⟩)
  (λy=>20*y.k<=n/\b9 lt y.D=RR/\yY lt y.D 20 (λj=>j<y.k)) (λy=>n-20*y.k) ⟨0,D⟩ ?_ ⟨by simp,Ts,λj hj=>by simp at hj⟩ (λy hy=>?_)
 ·exact Le.same (kc _) (by simp)
 obtain⟨k,D1⟩:=y;obtain⟨hk,hs,hb⟩:=hy;simp only at hk hs hb⊢;obtain⟨g1,l1⟩:=same D1 hs;apply aa.seq;obtain⟨a,ha⟩:=aY (20*k);rw[ha]at hk⊢;apply aa.ai aq fw [0,1,2,6,7,8,13];simp[Ki];refine aa.cond rfl (λh=>?_) (λh=>?_)
 ·simp at h;apply aa.skip;simp;apply aa.block;refine aa.fR aq fw (rs:=Ws) (.inr ⟨_,pV⟩) (by kernel_rfl) [0,1,2,6,8] ?_;simp[Ws,ST,k49,cQ];refine⟨⟨g1,by omega,by omega⟩, ?_⟩;apply aa.ai aq fw [0,1,2,6,7,8];simp[Wt];apply aa.cZ aq fw [0,1,2,6,7,8];simp[aoK];refine⟨⟨k+1,dG lt D1 a (a+20)⟩, ?_,⟨by simp only;omega,PU _ _ _ hs (by omega),λj hj=>?_⟩,by simp only;omega⟩
  ·have:((a:Int)+20).toNat=a+20:=by omega
   simp only[this];refine Le.same (kc _) ?_;simp;rw[av (by omega)];omega
  ·simp only at hj;by_cases e:j=k
   ·subst e;rw[show j*20=a by omega,kV (by omega) (by omega)];exact fq hw _
   ·rw[iF (by omega) (by omega) (.inl (by omega))];exact hb j (by omega)
 simp at h;apply aa.exit;simp;refine aa.fR aq fw (rs:=Hz) (.inr ⟨_,pV⟩) (by kernel_rfl) [0,1,2,6] ?_;simp[Hz,ST,k49,cQ];refine⟨⟨g1,by omega,by omega⟩, ?_⟩;obtain⟨D2,Z9⟩:=aY (dG lt D1 a n);rw[Z9];have Tk:b9 lt D2=RR:=by rw[<-Z9];exact PU _ _ _ hs (by omega)
 have l2:D2.length=n:=(same D2 Tk).2;have jZ:yY lt D2 20 (λ_=>True):=by
  intro j _;by_cases e:j*20<a
  ·rw[<-Z9,iF (by omega) (by omega) (.inl (by omega))];exact hb j (by omega)
  ·by_cases e2:j*20=a
   ·rw[e2,oh (by omega),<-oh (i:=a) (j:=n) (by omega),<-Z9,kV (by omega) (by omega)];exact fq hw _
   ·have:eY D2 (j*20) (j*20+20)=[]:=yN (by simp;omega);rw[this];exact List.Pairwise.nil
 clear Z9 hb hs g1 l1;apply aa.block;refine aa.loop (λy:BD=>⟨DM.look [(0,.aW r bG),(1,.v (ti n)),(2,.v (.fn (.func 66) [])),(6,.v (ti y.b))],b8 ab r (.bm bG e 5 y.D),N+1000,N,[]⟩)
  (λy=>0<y.b/\b9 lt y.D=RR/\yY lt y.D y.b (λ_=>True)) (λy=>n-y.b) ⟨20,D2⟩ ?_ ⟨by simp,Tk,jZ⟩ (λy hy=>?_)
 ·exact Le.same (kc _) (by simp)
 obtain⟨bs,D3⟩:=y;obtain⟨hbs,hs3,Eu⟩:=hy;simp only at hbs hs3 Eu⊢;obtain⟨g3,l3⟩:=same D3 hs3;apply aa.sq aq fw [0,1,2,6,30];simp[aet];refine aa.cond rfl (λh2=>?_) (λh2=>?_)
 ·simp at h2;have w1:IntKind.i64.wrap (2*(bs:Int))=((2*bs:Nat):Int):=by rw[av (by omega)];omega
  apply aa.skip;simp;apply aa.block;apply aa.ai aq fw [0,1,2,6,7,8];simp[aoL,w1];apply aa.seq;apply aa.block;refine aa.loop (λy:KD=>⟨DM.look [(0,.aW r bG),(1,.v (ti n)),(2,.v (.fn (.func 66) [])),(6,.v (ti bs)),(7,.v (ti ((y.k*(2*bs):Nat):Int))),(8,.v (ti ((y.k*(2*bs)+2*bs:Nat):Int)))],b8 ab r (.bm bG e 5 y.D),N+1000,N,[]⟩)
   (λy=>y.k*(2*bs)<=n/\b9 lt y.D=RR/\yY lt y.D (2*bs) (λj=>j<y.k)/\yY lt y.D bs (λj=>y.k*(2*bs)<=j*bs)) (λy=>n-y.k*(2*bs)) ⟨0,D3⟩ ?_ ⟨by simp,hs3,λj hj=>by simp at hj,λj _=>Eu j trivial⟩ (λy hy=>?_)
  ·exact Le.same (kc _) (by simp)
  obtain⟨k,D4⟩:=y;obtain⟨hk,hs4,hb4,hc4⟩:=hy;simp only at hk hs4 hb4 hc4⊢;obtain⟨g4,l4⟩:=same D4 hs4;have e2:2*k*bs=k*(2*bs):=by rw[Nat.mul_comm 2 k,Nat.mul_assoc]
  have e3:(2*k+1)*bs=k*(2*bs)+bs:=by rw[xm,e2,ZcA]
  have hA:=hc4 (2*k) (by simp only;omega);have hB:=hc4 (2*k+1) (by simp only;omega);rw[e2]at hA;rw[e3]at hB;obtain⟨a,ha⟩:=aY (k*(2*bs));simp only[ha]at hk hA hB hc4⊢;apply aa.sq aq fw [0,1,2,6,7,8,35];simp[aoM];refine aa.cond rfl (λh3=>?_) (λh3=>?_)
  ·simp at h3;have w2:IntKind.i64.wrap ((a:Int)+bs)=((a+bs:Nat):Int):=by rw[av (by omega)];omega
   apply aa.skip;simp;apply aa.block;refine aa.fR aq fw (rs:=Pv) (.inr ⟨_,pV⟩) (by kernel_rfl) [0,1,2,6,8] ?_;have tn:((a:Int)+2*(bs:Int)).toNat=a+2*bs:=by omega
   simp[Pv,ST,SG,cQ,w2,tn];refine⟨⟨g4,by omega,by omega,by omega,by omega,by omega,hA,by rw[show a+2*bs=a+bs+bs by omega];exact hB⟩, ?_⟩;apply aa.ai aq fw [0,1,2,6,7,8];simp[aha];apply aa.cZ aq fw [0,1,2,6,7,8];simp[ahb,w1];have e4:(k+1)*(2*bs)=a+2*bs:=by rw[xm,ha,ZcA]
   refine⟨⟨k+1,dG lt D4 a (a+2*bs)⟩, ?_,⟨by simp only[e4];omega,PU _ _ _ hs4 (by omega),λj hj=>?_,λj hj=>?_⟩,by simp only[e4];omega⟩
   ·simp only[];refine Le.same (kc _) ?_;have e4':((k:Int)+1)*(2*(bs:Int))=(a:Int)+2*bs:=by exact_mod_cast e4
    simp[e4'];rw[av (by omega)]
   ·simp only at hj;by_cases e:j=k
    ·subst e;rw[ha,kV (by omega) (by omega)];exact fq hw _
    ·have:=yZ (bs:=2*bs) (show j<k by omega);rw[iF (by omega) (by omega) (.inl (by omega))];exact hb4 j (by simp only;omega)
   ·simp only[e4]at hj;rw[iF (by omega) (by omega) (.inr (by omega))];exact hc4 j (by simp only;omega)
  ·simp at h3;apply aa.exit;simp;have w2:IntKind.i64.wrap ((a:Int)+bs)=((a+bs:Nat):Int):=by rw[av (by omega)];omega
   apply aa.sq aq fw [0,1,2,6,7,9];simp[ahc,w2];apply aa.ai aq fw [0,1,2,6,7,9,54];simp[ahd];obtain⟨D5,hD5⟩:=aY ((if a+bs<n then dG lt D4 a n else D4));have hs5:b9 lt D5=RR:=by
    rw[<-hD5];split
    ·exact PU _ _ _ hs4 (by omega)
    ·exact hs4
   have l5:D5.length=n:=(same D5 hs5).2;have hb5:yY lt D5 (2*bs) (λ_=>True):=by
    intro j _;by_cases e:j<k
    ·have:=yZ (bs:=2*bs) e;rw[<-hD5];split
     ·rw[iF (by omega) (by omega) (.inl (by omega))];exact hb4 j e
     ·exact hb4 j e
    ·by_cases e5:j=k
     ·subst e5;rw[ha,oh (by omega)];rw[<-oh (i:=a) (j:=n) (by omega),<-hD5];split
      ·rw[kV (by omega) (by omega)];exact fq hw _
      ·rw[oh (by omega),<-oh (i:=a) (j:=a+bs) (by omega)];exact hA
     ·have:=yZ (bs:=2*bs) (show k<j by omega);have:eY D5 (j*(2*bs)) (j*(2*bs)+2*bs)=[]:=yN (by simp;omega);rw[this];exact List.Pairwise.nil
   refine aa.to ⟨DM.look [(0,.aW r bG),(1,.v (ti n)),(2,.v (.fn (.func 66) [])),(6,.v (ti bs))],b8 ab r (.bm bG e 5 D5),N+1000,N,[]⟩ ?_ ?_
   ·refine aa.cond rfl (λh5=>?_) (λh5=>?_)
    ·simp at h5;refine aa.rP aq fw (rs:=Pw) (.inr ⟨_,pV⟩) (by kernel_rfl) [0,1,2,6] ?_;have tn:((a:Int)+(bs:Int)).toNat=a+bs:=by omega
     simp[Pw,ST,SG,cQ,tn];refine⟨⟨g4,by omega,by omega,by omega,by omega,by omega,hA, ?_⟩, ?_⟩
     ·rw[oh (by omega),<-oh (i:=a+bs) (j:=a+bs+bs) (by omega)];exact hB
     ·rw[cM (by omega)]at hD5;rw[hD5];exact Le.same (kc _) (by simp)
    ·simp at h5;rw[bX (by omega)]at hD5;rw[hD5];refine aa.skip ⟨rfl, ?_⟩;exact Le.same (kc _) (by simp)
   ·simp;apply aa.cZ aq fw [0,1,2,6];simp[ahe];refine⟨⟨2*bs,D5⟩, ?_,⟨by simp only;omega,hs5,hb5⟩,by simp only;omega⟩;refine Le.same (kc _) ?_;simp;rw[av (by omega)];omega
 ·simp at h2;have:D3=RR:=by
   rw[<-hs3];refine(jg hw ?_).symm;have:=Eu 0 trivial;rw[ZcQ,Gf,oh (by omega),ZcE]at this;exact this
  apply aa.exit;simp[wJ,this]
end
section
variable{dj:aG->Prop}{dK:aG->aG->Int}
def avv(hc:qE dj dK 66 5)(hw:SWO (my dK))(ab:bS)(f:Nat){N:Nat}(hN:∀r,N<=r->ab r=none):
  ce ap 116 [.aZ,.v (ti 0),.v (.fn (.func f) [])] ab ⟨True,.v (.dh []),ab⟩:=by
 have aq:=arI hc hw 0;have kc:∀k,N+1000<=k->ab k=none:=λk hk=>hN k (by omega);refine c48.Z1 hN (by simp) (iE ?_);simp;apply aa.ai aq fw [0,1,2,6];simp[Pt];apply aa.ai aq fw [0,1,2,6,7,8];simp[Pu];apply aa.seq;apply aa.block;refine aa.loop (λy:Nat=>⟨DM.look [(0,.aZ),(1,.v (ti 0)),(2,.v (.fn (.func f) [])),(6,.v (ti 20)),(7,.v (ti 0)),(8,.v (ti 20))],ab,N+1000,N,[]⟩) (λ_=>True) (λ_=>0) 0 (Le.same kc (by simp)) trivial (λy hy=>?_);apply aa.sq aq fw [0,1,2,6,7,13];simp[Ki];refine aa.cond rfl (λh=>by cases h) (λ_=>?_);apply aa.exit;simp;refine aa.fR aq fw (rs:=Hz) (.inr ⟨_,pV⟩) (by kernel_rfl) [1,6] ?_;simp[Hz,ST,k49];apply aa.block;refine aa.loop (λy:Nat=>⟨DM.look [(1,.v (ti 0)),(6,.v (ti 20))],ab,N+1000,N,[]⟩) (λ_=>True) (λ_=>0) 0 (Le.same kc (by simp)) trivial (λy hy=>?_);apply aa.sq aq fw [30];simp[aet];refine aa.cond rfl (λh=>by cases h) (λ_=>?_);apply aa.exit;simp[wJ]
def In(dj:aG->Prop)(dK:aG->aG->Int):bW->bS->iw
 |[.aW r bG,.v (.int .i64 n),.v (.fn (.func c) cz)],ab=>match ab r with
  |some (.bm bM e sz D)=>⟨bG=bM/\sz=5/\c=66/\cz=[]/\(∀x∈D,dj x)/\n=D.length/\D.length<=140737488355328,
    .v (.dh []),b8 ab r (.bm bG e 5 (b9 (my dK) D))⟩
  |_=>⟨False,.undef,ab⟩
 |[.aZ,.v (.int .i64 n),.v (.fn (.func c) cz)],ab=>⟨n=0/\cz=[],.v (.dh []),ab⟩
 |_,ab=>⟨False,.undef,ab⟩
def arJ(hc:qE dj dK 66 5)(hw:SWO (my dK)):aw ap (bz [(116,fl (In dj dK))]):=by
 refine aw.il aw.nil ?_;intro args ab h;unfold In at h⊢;split at h
 ·split at h
  ·rename_i c cz _ bM e sz D eH;obtain⟨rfl,rfl,rfl,rfl,h1,rfl,h5⟩:=h;refine⟨λN hN=>?_,λk hk=>fj eH hk⟩;simp only[eH];exact(t48 hc hw D ab _ _ e eH h1 h5 hN).of rfl rfl
  ·exact h.elim
 ·obtain⟨rfl,rfl⟩:=h;exact⟨λN hN=>(avv hc hw ab _ hN).of rfl rfl,λ_ h=>h⟩
 ·exact h.elim
def k35(dj:aG->Prop)(dK:aG->aG->Int):bW->bS->iw
 |[.aW r bG,.v (.fn (.func c) cz)],ab=>match ab r with
  |some (.bm bM e sz D)=>⟨bG=bM/\sz=5/\c=66/\cz=[]/\(∀x∈D,dj x)/\D.length<=140737488355328,
    .v (.dh []),b8 ab r (.bm bG e 5 (b9 (my dK) D))⟩
  |_=>⟨False,.undef,ab⟩
 |[.aZ,.v (.fn (.func c) cz)],ab=>⟨cz=[],.v (.dh []),ab⟩
 |_,ab=>⟨False,.undef,ab⟩
def t35(hc:qE dj dK 66 5)(hw:SWO (my dK))(D:List (aG))(ab:bS)(r bG e:Nat)(eH:ab r=some (.bm bG e 5 D))(cK:∀x∈D,dj x)(h4:D.length<=140737488355328)
  {N:Nat} (hN:∀r,N<=r->ab r=none):ce ap 65 [.aW r bG,.v (.fn (.func 66) [])] ab ⟨True,.v (.dh []),b8 ab r (.bm bG e 5 (b9 (my dK) D))⟩:=by
 have aq:=arJ hc hw;refine c35.Z1 hN (by simp) (iE ?_);rw[oG eH];simp;refine aa.rP aq fw (rs:=Hx) (.inr ⟨_,pV⟩) (by kernel_rfl) [] ?_;simp[Hx,In,wI];exact⟨cK,h4⟩
def avw(hc:qE dj dK 66 5)(hw:SWO (my dK))(ab:bS)(f:Nat){N:Nat}(hN:∀r,N<=r->ab r=none):ce ap 65 [.aZ,.v (.fn (.func f) [])] ab ⟨True,.v (.dh []),ab⟩:=by
 have aq:=arJ hc hw;refine c35.Z1 hN (by simp) (iE ?_);simp;refine aa.rP aq fw (rs:=Hx) (.inr ⟨_,pV⟩) (by kernel_rfl) [] ?_;simp[Hx,In,wI]
def auD(hc:qE dj dK 66 5)(hw:SWO (my dK)){l:List (Nat×DM.Spec)}(h:aw ap (bz l)):aw ap (bz ((65,fl (k35 dj dK))::l)):=by
 refine aw.il h ?_;intro args ab h;unfold k35 at h⊢;split at h
 ·split at h
  ·rename_i c cz _ bM e sz D eH;obtain⟨rfl,rfl,rfl,rfl,h1,h5⟩:=h;refine⟨λN hN=>?_,λk hk=>fj eH hk⟩;simp only[eH];exact(t35 hc hw D ab _ _ e eH h1 h5 hN).of rfl rfl
  ·exact h.elim
 ·subst h;exact⟨λN hN=>(avw hc hw ab _ hN).of rfl rfl,λ_ h=>h⟩
 ·exact h.elim
end
def Po(x:aG):Prop:=∃e:Edge,x=e.enc/\0<=e.head/\e.head<=1000000000000
def We(x:aG):Int:=dg (x.getD 0 (ti 0))
def M8(x y:aG):Int:=We x-We y
def Wf(e:Edge):We e.enc=e.head:=rfl
def agP:qE Po M8 66 5:=by
 refine⟨?_, ?_⟩
 ·rintro x y ⟨a,rfl,h1,h2⟩ ⟨b,rfl,h3,h4⟩;exact t36 a b ⟨h1,h2⟩ ⟨h3,h4⟩
 ·rintro x ⟨a,rfl,_⟩;refine⟨rfl, ?_⟩;intro t ht;simp only[Edge.enc,nH,Zb4,Zc0]at ht;rcases ht with rfl|rfl|rfl|rfl|rfl<;>rfl
def auB:SWO (my M8):=by
 have cQ:∀x y,my M8 x y=decide (We x<We y):=λx y=>decide_eq_decide.2 (by unfold M8;omega);refine⟨λx=>?_,λx y z h1 h2=>?_,λx y z h1 h2=>?_⟩<;>simp only[cQ,j2,pn]at* <;>omega
def Kd{α β:Type}{lt:β->β->Bool}{lt':α->α->Bool}{f:α->β}(h:∀a b,lt (f a) (f b)=lt' a b)(x:α):∀l:List α,kC lt (f x) (l.map f)=(kC lt' x l).map f
 |[]=>rfl
 |y::l=>by
  simp only[oK,kC,h];split
  ·simp[Kd h x l]
  ·simp
def Sv{α β:Type}{lt:β->β->Bool}{lt':α->α->Bool}{f:α->β}(h:∀a b,lt (f a) (f b)=lt' a b)(l:List α):b9 lt (l.map f)=(b9 lt' l).map f:=by
 unfold b9 nM;rw[List.map_reverse]
 congr 1
 suffices∀(l eU:List α),List.foldl (λeU x=>kC lt x eU) (eU.map f) (l.map f)=(List.foldl (λeU x=>kC lt' x eU) eU l).map f from this l []
 intro l;induction l with
 |nil=>intro eU;rfl
 |cons x l ih=>intro eU;rw[oK,zN,zN,Kd h,ih]
def Pp(a b:Edge):Bool:=decide (a.head<b.head)
def Ke(l:List Edge):b9 (my M8) (ch l)=ch (b9 Pp l):=by
 refine Sv (λa b=>?_) l;simp only[my,M8,Wf,Pp];exact decide_eq_decide.2 (by omega)
def iR(nt st:Int)(aj:List bC)(aK:List bF)(f t:Int)(k:Nat):List Edge:=(List.range k).flatMap λk=>inst nt st (aj.getD k default) aK f t k
def nZ(nt st:Int)(aj:List bC)(aK:List bF)(f t:Int):List Edge:=b9 Pp (iR nt st aj aK f t aj.length)
def mf(nt st:Int)(aj:List bC)(aK:List bF)(f t:Nat):List Edge:=((List.range t).drop f).flatMap λt:Nat=>nZ nt st aj aK f t
def qF(nt st:Int)(aj:List bC)(aK:List bF)(f:Nat):List Edge:=(List.range f).flatMap λf=>mf nt st aj aK f st.toNat
def vC(nt st start:Int)(dM:ba)(t:Nat):List Edge:=if dM.getD t default<kA then [⟨b7 nt st,[fG nt st start 0 t],dM.getD t default,-1,t⟩]else []
def s7(nt st start:Int)(dM:ba)(k:Nat):List Edge:=(List.range k).flatMap (vC nt st start dM)
def cD(n:ay)(l:aF):List Edge:=qF n.ae l.am n.aj l.aK l.am.toNat++s7 n.ae l.am n.start l.bj l.bj.length
def M9(nt st:Int)(aj:List bC)(aK:List bF)(f t:Int)(k:Nat):iR nt st aj aK f t (k+1)=iR nt st aj aK f t k++inst nt st (aj.getD k default) aK f t k:=by
 simp[iR,tp]
def FJ(nt st:Int)(aj:List bC)(aK:List bF)(f t:Nat)(h:f<=t):mf nt st aj aK f (t+1)=mf nt st aj aK f t++nZ nt st aj aK f t:=by
 unfold mf;rw[tp,Zcf (by simpa using h)];simp
def FK(nt st:Int)(aj:List bC)(aK:List bF)(f:Nat):mf nt st aj aK f f=[]:=by simp[mf]
def FL(nt st:Int)(aj:List bC)(aK:List bF)(f:Nat):qF nt st aj aK (f+1)=qF nt st aj aK f++mf nt st aj aK f st.toNat:=by
 simp[qF,tp]
def u3(nt st start:Int)(dM:ba)(k:Nat):s7 nt st start dM (k+1)=s7 nt st start dM k++vC nt st start dM k:=by
 simp[s7,tp]
structure Fit(n:ay)(l:aF):Prop where
 sm:sm n.ae l.am
 start:0<=n.start/\n.start<=1000
 aj:∀r∈n.aj,agQ r
 Hu:n.aj.length<=1000
 aK:Wg l.aK
 Pq:l.aK.length<=10000
 AW:l.bj.length<=1000
 Wh:l.am<=100
def aoD(ts:aG):Prop:=∃(n:ay) (l:aF) (k:Nat) (f t:Int),ts=[n.enc,l.enc,ti k,ti f,ti t]/\k<n.aj.length
def agR:aG->T
 |[n,l,.int _ k,.int _ f,.int _ t]=>.fn (.func 115) (zj (mt n).ae (sV l).am ((mt n).aj.getD k.toNat default) (sV l).aK (sV l).bj f t k)
 |_=>.bool false
def Sx:kv:=bz [(65,fl (k35 Po M8)),(64,bp aoD agR false),(62,wH),(63,zk),(67,uk)]
def auC:aw ap Sx:=by
 refine auD agP auB (aw.cons ok1 ?_);rintro ts ⟨n,l,k,f,t,rfl,hk⟩;exact⟨by simpa [agR]using t34 n l k f t hk,λh=>by cases h⟩
def pP(nt st:Int)(r:bC)(aK:List bF)(f t k:Int)(ha:aK.length<=10000)(hf:Hc f t):(inst nt st r aK f t k).length<=10000:=by
 unfold inst;split
 ·split<;>simp
 split
 ·have:∀(l:cN) (g:Nat->List Edge),(∀i,(g i).length<=1)->(l.flatMap g).length<=l.length:=by
   intro l g hg;induction l with
   |nil=>simp
   |cons x l ih=>simp only[Q5,qe,Bd];have:=hg x;omega
  have:=this (List.range aK.length) _ (λi=>by split<;>simp:∀i,(if(aK.getD i default).f=f/\(aK.getD i default).t=t/\(aK.getD i default).term=r.a then [dc nt st r f t k (r.bi+(aK.getD i default).aA) i []]else []).length<=1)
  simp only[A1]at this;omega
 split
 ·simp
 split
 ·simp;unfold Hc at hf;omega
 ·simp
def eE{β:Type}(g:Nat->List β)(c:Nat):∀l:cN,(∀i∈l,(g i).length<=c)->(l.flatMap g).length<=l.length*c
 |[],_=>by simp
 |x::l,h=>by
  simp only[Q5,qe,Bd];have:=h x (by simp);have:=eE g c l λi hi=>h i (by simp[hi]);rw[xm];omega
section
variable{f nt st:Int}
def Sy{n:ay}{l:aF}(h:Fit n l){t:Int}(hf:Hc f t):(nZ n.ae l.am n.aj l.aK f t).length<=10000000:=by
 unfold nZ;rw[gO];have:=eE (λk=>inst n.ae l.am (n.aj.getD k default) l.aK f t k) 10000 (List.range n.aj.length) λi _=>pP _ _ _ _ _ _ _ h.Pq hf;have hn:=h.Hu;simp only[A1]at this;unfold iR;omega
def FM{n:ay}{l:aF}(h:Fit n l){t:Int}(hf:Hc f t)(k:Nat)(hk:k<=n.aj.length):(iR n.ae l.am n.aj l.aK f t k).length<=10000000:=by
 have:=eE (λk=>inst n.ae l.am (n.aj.getD k default) l.aK f t k) 10000 (List.range k) λi _=>pP _ _ _ _ _ _ _ h.Pq hf;have hn:=h.Hu;simp only[A1]at this;unfold iR;omega
def Do{n:ay}{l:aF}(h:Fit n l)(f t:Nat)(ht:(t:Int)<=l.am):(mf n.ae l.am n.aj l.aK f t).length<=1000000000:=by
 have hs:=h.Wh;have:=eE (λt:Nat=>nZ n.ae l.am n.aj l.aK f t) 10000000 ((List.range t).drop f) λi hi=>Sy h (by
  rw[Ek]at hi;obtain⟨j,hj,rfl⟩:=hi;simp only[GA,A1]at hj;rw[TT,LA];unfold Hc;omega)
 simp only[GA,A1]at this;unfold mf;have:(t-f)*10000000<=100*10000000:=Gy _ (by omega);omega
def ul{n:ay}{l:aF}(h:Fit n l)(f:Nat)(hf:(f:Int)<=l.am):(qF n.ae l.am n.aj l.aK f).length<=100000000000:=by
 have hs:=h.Wh;have h1:=h.sm.2.2.1;have:=eE (λf=>mf n.ae l.am n.aj l.aK f l.am.toNat) 1000000000 (List.range f) λi _=>Do h i _ (by omega);simp only[A1]at this;unfold qF;have:f*1000000000<=100*1000000000:=Gy _ (by omega);omega
def Dp{n:ay}{l:aF}(h:Fit n l)(k:Nat)(hk:k<=l.bj.length):(s7 n.ae l.am n.start l.bj k).length<=1000:=by
 have:=eE (vC n.ae l.am n.start l.bj) 1 (List.range k) λi _=>by unfold vC;split<;>simp
 have:=h.AW;simp only[A1]at*
 unfold s7;omega
@[simp] def atr(sz:Nat)(cs:aG):di sz 1 cs=[cs.take sz]:=rfl
def FN:aG->aG
 |[.agg c]=>c
 |_=>[]
def Hv(es:List Edge):(dp es).map FN=ch es:=by
 simp[dp,ch,FN]
def qG{r:bC}{aK:List bF}{t k:Int}{e:Edge}(he:e∈inst nt st r aK f t k):e.head=fG nt st r.head f t:=by
 unfold inst at he;split at he
 ·split at he
  ·simp only[gN]at he;subst he;rfl
  ·cases he
 split at he
 ·simp only[vG]at he;obtain⟨i,_,he⟩:=he;split at he
  ·simp only[gN]at he;subst he;rfl
  ·cases he
 split at he
 ·simp only[gN]at he;subst he;rfl
 split at he
 ·simp only[j3]at he;obtain⟨j,_,rfl⟩:=he;rfl
 ·cases he
def Sz{h t:Int}(hs:sm nt st)(hh:0<=h/\h<=1000)(hf:0<=f)(yF:f<=t)(ht:t<st):0<=fG nt st h f t/\fG nt st h f t<=1000000000000:=by
 obtain⟨h1,h2,h3,h4⟩:=hs;rw[mU hf];obtain⟨p1,p2,p3⟩:=Dq h4 hf yF ht;have:=gM p1 (show bP st f t<=1000000 by omega) h1 h2;omega
def Na{n:ay}{l:aF}(h:Fit n l){t:Int}(hf:0<=f)(yF:f<=t)(ht:t<l.am)(k:Nat)(hk:k<=n.aj.length):∀x∈ch (iR n.ae l.am n.aj l.aK f t k),Po x:=by
 intro x hx;simp only[ch,j3,iR,vG,pm]at hx;obtain⟨e,⟨i,hi,he⟩,rfl⟩:=hx;have hr:=h.aj (n.aj.getD i default) (by simp[show i<n.aj.length by omega]);have:=Sz h.sm ⟨hr.1.1,hr.1.2.1⟩ hf yF ht;rw[<-qG he]at this;exact⟨e,rfl,this.1,this.2⟩
def t11(n:ay)(l:aF)(h:Fit n l):aJ ap 22 [n.enc,l.enc] (.agg [ti (b7 n.ae l.am+1),.sl (ch (cD n l))]):=by
 have aq:=auC;have u4:=h.sm;have aer:0<=b7 n.ae l.am/\b7 n.ae l.am<=1001000000:=by
  obtain⟨h1,h2,h3,h4⟩:=u4;have b1:=gM h1 h2 h3 h4;have b2:=gM b1.1 b1.2 (b:=l.am+1) (n:=1001) (by omega) (by omega);unfold b7;omega
 refine c11.ok (by simp) (aH ?_);simp[ay.enc,aF.enc];apply aa.ai aq fw [2,3,4];simp[VV];apply aa.ai aq fw [2,3,4,5];simp[VW,Sx,wH,SA,Wi];refine⟨⟨⟨n,rfl⟩,⟨l,rfl⟩⟩, ?_⟩;apply aa.ai aq fw [2,3,4,5,6];simp[VX,Sx,zk,Wj,Kf];refine⟨u4, ?_⟩;rw[av (by omega)];obtain⟨tn,yG⟩:=aY (T.box [ti n.aX,ti n.ae,ti n.start,.sl (aQ n.aj)]);obtain⟨tl,mq⟩:=aY (T.box [ti l.am,.sl (bq l.aK),.sl (au l.bj)]);obtain⟨gl,Z2⟩:=aY (b7 n.ae l.am);rw[Z2]at aer⊢;refine aa.le (Le.aL (o:=[(1185,.box [.v (ti (gl+1)),.aZ]),(1005,.box [.v (ti 0),.aZ])]) (l:=[(2,.v tn),(3,.v tl),(4,.ptr 1005 0),(5,.v (.box [ti n.ae,ti l.am])),(6,.ptr 1185 0)]) (bn:=2000) ?_ ?_ ?_ ?_) ?_;iterate 3(·simp)
 ·simp[<-yG,<-mq]
 refine aa.le (Le.qZ 1185 1 125 (sz:=5) (by omega) (cs:=[.v (ti (gl+1)),.aZ]) (by simp) (by simp)) ?_;simp only[qy,ZcR,Zck];have hS:(l.am.toNat:Int)=l.am:=by have:=u4.2.2.1;omega
 have auE:=h.Wh;apply aa.sq aq fw [2,3,4,5,6,22,23];simp[VY,<-mq];rw[mq];apply aa.block;refine aa.loop (λf:Nat=>⟨DM.look [(2,.v tn),(3,.v tl),(4,.ptr 1005 0),(5,.v (.box [ti n.ae,ti l.am])),(6,.ptr 1185 0),(22,.v (ti l.am)),(23,.v (ti f))],cR [(1185,.box [.v (ti (gl+1)),.aW 2000 0]),(2000,.bm 0 125 5 (ch (qF n.ae l.am n.aj l.aK f))),(1005,.box [.v (ti 0),.aZ])],3000,1000,[]⟩)
  (λf=>(f:Int)<=l.am) (λf=>l.am.toNat-f) 0 (Le.aL ?_ ?_ ?_ ?_) (by simp;exact u4.2.2.1) (λf hf=>?_)
 ·simp
 ·simp
 ·simp[qF,ch]
 ·simp
 apply aa.ai aq fw [2,3,4,5,6,22,23,24];simp[VZ];apply aa.seq;refine aa.cond rfl (λhc=>?_) (λhc=>?_)
 ·simp at hc;apply aa.skip;simp;apply aa.seq;apply aa.block;apply aa.ai aq fw [2,3,4,5,6,7,22,23];simp[V0];apply aa.ai aq fw [2,3,4,5,6,7,8,22,23];simp[aoE];apply aa.block;obtain⟨es0,Nb⟩:=aY (qF n.ae l.am n.aj l.aK f);have auF:es0.length<=100000000000:=by rw[<-Nb];exact ul h f hf
  refine aa.loop (λt:Nat=>⟨DM.look [(2,.v tn),(3,.v tl),(4,.ptr 1005 0),(5,.v (.box [ti n.ae,ti l.am])),(6,.ptr 1185 0),(7,.v (ti f)),(8,.v (ti t)),(22,.v (ti l.am)),(23,.v (ti f))],cR [(1185,.box [.v (ti (gl+1)),.aW 2000 0]),(2000,.bm 0 125 5 (ch (es0++mf n.ae l.am n.aj l.aK f t))),(1005,.box [.v (ti 0),.aZ])],4000,1000,[]⟩)
   (λt=>f<=t/\(t:Int)<=l.am) (λt=>l.am.toNat-t) f (Le.aL ?_ ?_ ?_ ?_) ⟨eT _,hf⟩ (λt ht=>?_)
  ·simp
  ·simp
  ·simp[FK,Nb]
  ·simp
  obtain⟨ht1,ht2⟩:=ht;apply aa.sq aq fw [2,3,4,5,6,7,8,22,23,30];simp[V2,<-mq];rw[mq];refine aa.cond rfl (λhd=>?_) (λhd=>?_)
  ·simp at hd;have Nc:Hc f t:=⟨by omega,by omega,by omega⟩;apply aa.skip;simp;apply aa.seq;apply aa.block;apply aa.ai aq fw [2,3,4,5,6,7,8,9,22,23];simp[V3];refine aa.le (Le.qZ 4099 0 125 (sz:=5) (by omega) (cs:=[.aZ]) (by simp) (by simp)) ?_;simp only[qy,Zck];obtain⟨es1,Nd⟩:=aY (es0++mf n.ae l.am n.aj l.aK f t);have auG:es1.length<=101000000000:=by
    rw[<-Nd,qe];have:=Do h f t ht2;omega
   rw[Nd];apply aa.sq aq fw [2,3,4,5,6,7,8,9,22,23,35,36];simp[V4,<-yG];rw[yG];apply aa.block;refine aa.loop (λk:Nat=>⟨DM.look [(2,.v tn),(3,.v tl),(4,.ptr 1005 0),(5,.v (.box [ti n.ae,ti l.am])),(6,.ptr 1185 0),(7,.v (ti f)),(8,.v (ti t)),(9,.ptr 4099 0),(22,.v (ti l.am)),(23,.v (ti f)),(35,.v (ti n.aj.length)),(36,.v (ti k))],
     cR [(4099,.box [.aW 4178 0]),(4178,.bm 0 125 5 (ch (iR n.ae l.am n.aj l.aK f t k))),(1185,.box [.v (ti (gl+1)),.aW 2000 0]),(2000,.bm 0 125 5 (ch es1)),(1005,.box [.v (ti 0),.aZ])],5000,1000,[]⟩)
    (λk=>k<=n.aj.length) (λk=>n.aj.length-k) 0 (Le.aL ?_ ?_ ?_ ?_) (by simp) (λk hk=>?_)
   ·simp
   ·simp
   ·simp[iR,ch]
   ·simp
   have hnr:=h.Hu;apply aa.ai aq fw [2,3,4,5,6,7,8,9,22,23,35,36,37];simp[MQ];apply aa.seq;refine aa.cond rfl (λhe=>?_) (λhe=>?_)
   ·simp at he;obtain⟨es2,Nf⟩:=aY (iR n.ae l.am n.aj l.aK f t k);have auH:es2.length<=10000000:=by rw[<-Nf];exact FM h Nc k (by omega)
    rw[Nf];obtain⟨r,hr⟩:=aY (n.aj.getD k default);have qd:agQ r:=h.aj r (by rw[<-hr];simp[he]);obtain⟨es3,Ng⟩:=aY (inst n.ae l.am r l.aK f t k);have auI:es3.length<=10000:=by rw[<-Ng];exact pP _ _ _ _ _ _ _ h.Pq Nc
    have uT:=t47 n.ae l.am r l.aK l.bj f t k u4 qd Nc h.aK;rw[Ng]at uT;apply aa.skip;simp;apply aa.seq;apply aa.block;apply aa.ai aq fw [2,3,4,5,6,7,8,9,10,22,23,35,36];simp[MR];apply aa.ai aq fw [2,3,4,5,6,7,8,9,22,23,35,36,44];simp only[MS,<-yG,<-mq];have nl:n.aj[k]?.getD default=r:=by rw[<-hr];simp
    simp[Sx,bp,agR,nl];rw[yG,mq];refine⟨⟨n,l,k,f,t,rfl,he⟩, ?_⟩;apply aa.block;refine aa.yI uT (by simp) (by simp) ?_ (λpre=>cR [(4099,.box [.aW 4178 pre.length]),(4178,.bm pre.length 125 5 (ch es2++pre.map FN)),(1185,.box [.v (ti (gl+1)),.aW 2000 0]),(2000,.bm 0 125 5 (ch es1)),(1005,.box [.v (ti 0),.aZ])]) ?_ ?_ (λpre x rest hx=>?_) ?_
    ·intro x hx;simp only[dp,j3]at hx;obtain⟨e,_,rfl⟩:=hx;rfl
    ·simp
    ·intro pre r hr;simp only at hr;simp only[tB,O5];repeat rw[bX (by omega)]
    ·have hxm:x∈dp es3:=by rw[hx];simp
     simp only[dp,j3]at hxm;obtain⟨e,hem,rfl⟩:=hxm;have awf:pre.length<=10000:=by
      have:(dp es3).length=es3.length:=by simp[dp]
      rw[hx]at this;simp at this;omega
     obtain⟨L,hL⟩:=aY (pre.map FN);have lL:L.length=pre.length:=by rw[<-hL];simp
     simp only[CL,hL];apply aa.cZ aq fw [2,3,4,5,6,7,8,9,11,22,23,35,36];simp[MT,Edge.enc];apply aa.block;apply aa.cZ aq fw [];simp[MU,cw];refine⟨by omega, ?_⟩;simp only[<-G9];refine Le.aaI ?_ ?_ ?_ ?_
     ·simp[hL,lL,FN]
     ·simp
     ·simp[hL,FN]
     ·simp
    ·have ZJ:(dp es3).length=es3.length:=by simp[dp]
     simp only[Hv];simp;apply aa.cZ aq fw [2,3,4,5,6,7,8,9,22,23,35,36];simp[agS];refine⟨k+1,Le.aL ?_ ?_ ?_ ?_, ?_, ?_⟩
     ·simp
     ·simp
     ·have hsp:iR n.ae l.am n.aj l.aK f t (k+1)=es2++es3:=by rw[M9,Nf,hr,Ng]
      simp[hsp,ch]
     ·simp;exact(av (by omega)).symm
     ·omega
     ·omega
   ·simp at he;have hkR:k=n.aj.length:=by omega
    subst hkR;have pQ:∀x∈ch (iR n.ae l.am n.aj l.aK f t n.aj.length),Po x:=Na h (by omega) (by omega) hd _ (eT _);have auJ:(iR n.ae l.am n.aj l.aK f t n.aj.length).length<=10000000:=FM h Nc _ (eT _);have Wl:=Ke (iR n.ae l.am n.aj l.aK f t n.aj.length);have Pr:nZ n.ae l.am n.aj l.aK f t=b9 Pp (iR n.ae l.am n.aj l.aK f t n.aj.length):=rfl;obtain⟨es4,auK⟩:=aY (iR n.ae l.am n.aj l.aK f t n.aj.length);rw[auK]at pQ auJ Wl Pr⊢;obtain⟨es5,aoF⟩:=aY (b9 Pp es4);have l5:es5.length=es4.length:=by rw[<-aoF,gO]
    rw[aoF]at Wl Pr;apply aa.exit;simp;refine aa.fR aq fw (rs:=Ps) (.inr ⟨_,pV⟩) (by kernel_rfl) [2,3,4,5,6,7,8,9,22,23] ?_;simp[Ps,Sx,k35,qy,Wl];refine⟨⟨pQ,by omega⟩, ?_⟩;apply aa.cZ aq fw [2,3,4,5,6,7,8,22,23];simp[agT,cw];refine⟨⟨?_,by omega,by omega⟩, ?_⟩
    ·intro x hx;simp only[ch,j3]at hx;obtain⟨e,_,rfl⟩:=hx;rfl
    apply aa.cZ aq fw [2,3,4,5,6,7,8,22,23];simp[agU];refine⟨t+1,Le.aL ?_ ?_ ?_ ?_,⟨?_, ?_⟩, ?_⟩
    ·simp
    ·simp
    ·rw[FJ _ _ _ _ _ _ ht1,<-List.append_assoc,Nd,Pr];simp[ch]
    ·simp;exact(av (by omega)).symm
    ·omega
    ·omega
    ·omega
  ·simp at hd;apply aa.exit;simp;apply aa.cZ aq fw [2,3,4,5,6,22,23];simp[agV];have htS:t=l.am.toNat:=by omega
   refine⟨f+1,Le.aL ?_ ?_ ?_ ?_, ?_, ?_⟩
   ·simp
   ·simp
   ·rw[FL,Nb,htS];simp
   ·simp;exact(av (by omega)).symm
   ·omega
   ·omega
 ·simp at hc;have hfS:f=l.am.toNat:=by omega
  apply aa.exit;simp;obtain⟨es6,Nh⟩:=aY (qF n.ae l.am n.aj l.aK l.am.toNat);have auL:es6.length<=100000000000:=by rw[<-Nh];exact ul h _ (by omega)
  rw[hfS,Nh];apply aa.sq aq fw [2,4,5,6,60,61,62];simp only[agW,<-mq];simp;apply aa.block;refine aa.loop (λk:Nat=>⟨DM.look [(2,.v tn),(4,.ptr 1005 0),(5,.v (.box [ti n.ae,ti l.am])),(6,.ptr 1185 0),(60,.v (.sl (au l.bj))),(61,.v (ti l.bj.length)),(62,.v (ti k))],
    cR [(1185,.box [.v (ti (gl+1)),.aW 2000 0]),(2000,.bm 0 125 5 (ch (es6++s7 n.ae l.am n.start l.bj k))),(1005,.box [.v (ti 0),.aZ])],4000,1000,[]⟩)
   (λk=>k<=l.bj.length) (λk=>l.bj.length-k) 0 (Le.aL ?_ ?_ ?_ ?_) (by simp) (λk hk=>?_)
  ·simp
  ·simp
  ·simp[s7]
  ·simp
  have hnf:=h.AW;apply aa.ai aq fw [2,4,5,6,60,61,62,63];simp[agX];apply aa.seq;refine aa.cond rfl (λhe=>?_) (λhe=>?_)
  ·simp at he;obtain⟨c,Kg⟩:=aY (l.bj.getD k default);have gf:=bA he;rw[Kg]at gf;obtain⟨es7,Hw⟩:=aY (es6++s7 n.ae l.am n.start l.bj k);have auM:es7.length<=101000000000:=by
    rw[<-Hw,qe];have:=Dp h k hk;omega
   rw[Hw];apply aa.skip;simp;apply aa.seq;apply aa.block;apply aa.ai aq fw [2,4,5,6,12,13,60,61,62];simp[agY,gf,he];apply aa.ai aq fw [2,4,5,6,12,13,60,61,62,68];simp[agZ];refine aa.to ⟨DM.look [(2,.v tn),(4,.ptr 1005 0),(5,.v (.box [ti n.ae,ti l.am])),(6,.ptr 1185 0),(60,.v (.sl (au l.bj))),(61,.v (ti l.bj.length)),(62,.v (ti k))],
    cR [(1185,.box [.v (ti (gl+1)),.aW 2000 0]),(2000,.bm 0 125 5 (ch (es6++s7 n.ae l.am n.start l.bj (k+1)))),(1005,.box [.v (ti 0),.aZ])],6000,1000,[]⟩ ?_ ?_
   ·refine aa.cond rfl (λh5=>?_) (λh5=>?_)
    ·simp at h5;have Bv:vC n.ae l.am n.start l.bj k=[⟨gl,[fG n.ae l.am n.start 0 k],c,-1,k⟩]:=by unfold vC;rw[Kg,cM (by simpa [kA]using h5),Z2]
     apply aa.cZ aq fw [2,4,5,6,60,61,62];simp only[ag0,<-yG];simp[Sx,zk,Wj,Kf,uk,SB,Kh,cw,Z2];refine⟨u4,⟨u4,h.start.1,h.start.2,by omega⟩,⟨by omega,by omega⟩, ?_⟩;refine Le.aL ?_ ?_ ?_ ?_
     ·simp
     ·simp
     ·rw[u3,<-List.append_assoc,Hw,Bv];simp[ch,Edge.enc,au]
     ·simp[]
    ·simp at h5;have Bv:vC n.ae l.am n.start l.bj k=[]:=by unfold vC;rw[Kg,bX (by simp[kA];omega)]
     refine aa.skip ⟨rfl,Le.aL ?_ ?_ ?_ ?_⟩
     ·simp
     ·simp
     ·rw[u3,<-List.append_assoc,Hw,Bv];simp
     ·simp
   ·simp;apply aa.cZ aq fw [2,4,5,6,60,61,62];simp[ag1];refine⟨k+1,Le.aL ?_ ?_ ?_ ?_, ?_, ?_⟩;iterate 3(·simp)
    ·simp;exact(av (by omega)).symm
    ·omega
    ·omega
  ·simp at he;have hkF:k=l.bj.length:=by omega
   apply aa.exit;simp;apply aa.ai aq fw [4];simp[ag2];apply aa.ret;simp[C9,cD,Nh,hkF]
end
def XD(n:Nat):(List.range n).Pairwise (·<·):=List.pairwise_lt_range
def avj:SWO Pp:=by
 refine⟨λx=>?_,λx y z h1 h2=>?_,λx y z h1 h2=>?_⟩<;>simp only[Pp,j2,pn]at* <;>omega
def avk(a b:Edge):lN Pp a b=true↔a.head=b.head:=by
 simp only[lN,Pp,jv,Fb,pn];omega
def u7{nt st start:Int}{dM:ba}{k:Nat}{e:Edge}(he:e∈s7 nt st start dM k):∃t:Nat,t<k/\e=⟨b7 nt st,[fG nt st start 0 t],dM.getD t default,-1,t⟩/\dM.getD t default<kA:=by
 unfold s7 at he;simp only[vG,pm]at he;obtain⟨i,hi,he⟩:=he;unfold vC at he;split at he
 ·simp only[gN]at he;exact⟨i,hi,he,by assumption⟩
 ·cases he
end Go.Proofs.It
