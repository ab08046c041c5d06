/- A part. Conditions: none. -/
import Derived.Test.YtnhpkhblghgpdaaGreatDoorXad
set_option linter.all false
set_option maxRecDepth 20000
set_option maxHeartbeats 40000000
namespace Go.Proofs
namespace cD
open Go.DM
section
variable{h:Int}
inductive kA(n:aD)(l:aU):Int->Nat->Nat->Nat->Int->dg->Prop
 |empty {s k:Nat} {r:dv} (hk:n.au[k]? =some r) (h1:r.kind=1) (hv:(d0 r.cA []).aI<1099511627776):kA n l r.head s s k s (d0 r.cA [])
 |term {s t k a:Nat} {r:dv} {x:cE} (hk:n.au[k]? =some r) (h1:r.kind=2) (ha:l.bJ[a]? =some x) (h2:x.f=s) (h3:x.t=t) (h4:x.term=r.a)
   (hv:(d0 (r.cA+x.aI) []).aI<1099511627776):kA n l r.head s t k a (d0 (r.cA+x.aI) [])
 |unary {s t k k1:Nat} {g1:Int} {r:dv} {v:dg} (hk:n.au[k]? =some r) (h1:r.kind=3) (d:kA n l r.a s t k1 g1 v) (hv:(d0 r.cA [v]).aI<1099511627776):kA n l r.head s t k s (d0 r.cA [v])
 |ya {s m t k k1 k2:Nat} {g1 g2:Int} {r:dv} {v w:dg} (hk:n.au[k]? =some r) (h1:r.kind=4) (hs:s<=m) (ht:m<=t) (d1:kA n l r.a s m k1 g1 v) (d2:kA n l r.b m t k2 g2 w)
   (hv:(d0 r.cA [v,w]).aI<1099511627776):kA n l r.head s t k m (d0 r.cA [v,w])
def Der(n:aD)(l:aU)(h:Int)(s t:Nat)(v:dg):Prop:=∃k g,kA n l h s t k g v
def CM(k:Int)(g:Int)(k':Int)(g':Int):Prop:=k<k'\/(k=k'/\g<=g')
structure Good(n:aD)(l:aU)(h:Int)(s t:Nat)(x:Cell):Prop where
 Wv:∀v,Der n l h s t v->¬v.lt x.val
 top:x=mK\/((∃k:Nat,x.rZ=k/\kA n l h s t k x.arg x.val)/\∀(k':Nat) g',kA n l h s t k' g' x.val->CM x.rZ x.arg k' g')
def kA.cj{n:aD}{l:aU}{s t k:Nat}{g:Int}{v:dg}(d:kA n l h s t k g v):v.aI<1099511627776:=by
 cases d<;>assumption
def Der.cj{n:aD}{l:aU}{s t:Nat}{v:dg}(d:Der n l h s t v):v.aI<1099511627776:=by
 obtain⟨k,g,d⟩:=d;exact d.cj
def dg.vI{a b:dg}(h1:¬a.lt b)(h2:¬b.lt a):a=b:=by
 obtain⟨a1,a2⟩:=a;obtain⟨b1,b2⟩:=b;simp only[dg.lt]at h1 h2;have:a1=b1:=by omega
 have:a2=b2:=by omega
 simp[*]
def Cell.ext'{a b:Cell}(h1:a.val=b.val)(h2:a.rZ=b.rZ)(h3:a.arg=b.arg):a=b:=by
 obtain⟨a1,a2,a3,a4⟩:=a;obtain⟨b1,b2,b3,b4⟩:=b;simp only[Cell.val,dg.mk.injEq]at h1 h2 h3;simp[h1,h2,h3]
def Good.aml{n:aD}{l:aU}{s t:Nat}{x y:Cell}(hx:Good n l h s t x)(hy:Good n l h s t y):x.val=y.val:=by
 have key:∀{x y:Cell},Good n l h s t x->Good n l h s t y->x=mK->x.val=y.val:=by
  intro x y hx hy e;subst e;rcases hy.top with rfl|⟨⟨k,_,d⟩,_⟩
  ·rfl
  ·exact eA (show y.val.lt mK.val by left;exact d.cj) (hx.Wv _ ⟨k,_,d⟩)
 rcases hx.top with e|⟨⟨k,_,d⟩,_⟩
 ·exact key hx hy e
 ·rcases hy.top with e|⟨⟨k',_,d'⟩,_⟩
  ·exact(key hy hx e).symm
  ·exact dg.vI (hy.Wv _ ⟨k,_,d⟩) (hx.Wv _ ⟨k',_,d'⟩)
def Good.amm{n:aD}{l:aU}{s t:Nat}{x y:Cell}(hx:Good n l h s t x)(hy:Good n l h s t y):x=y:=by
 have hv:=hx.aml hy;rcases hx.top with e|⟨⟨k,e1,d⟩,m⟩
 ·rcases hy.top with e'|⟨⟨k',_,d'⟩,_⟩
  ·rw[e,e']
  ·have:=d'.cj;rw[<-hv,e]at this;exact eA this (by decide)
 ·rcases hy.top with e'|⟨⟨k',e2,d'⟩,m'⟩
  ·have:=d.cj;rw[hv,e']at this;exact eA this (by decide)
  ·have a:=m k' y.arg (hv▸d');have b:=m' k x.arg (hv▸d);unfold CM at a b;refine Cell.ext' hv ?_ ?_<;>omega
def acn(c:Int)(v:dg):d0 c [v]=if min (c+v.aI) 1099511627776>=1099511627776 then⟨1099511627776,0⟩else⟨min (c+v.aI) 1099511627776,min (1+v.size) 1099511627776⟩:=rfl
def aco(c:Int)(v w:dg):d0 c [v,w]=if min (min (c+v.aI) 1099511627776+w.aI) 1099511627776>=1099511627776 then⟨1099511627776,0⟩else⟨min (min (c+v.aI) 1099511627776+w.aI) 1099511627776,min (min (1+v.size) 1099511627776+w.size) 1099511627776⟩:=rfl
def Ig{c:Int}{v:dg}(hc:0<=c)(h:(d0 c [v]).aI<1099511627776):v.aI<1099511627776:=by
 rw[acn]at h;split at h
 ·simp at h
 ·simp only at h;omega
def Ih{c:Int}{v w:dg}(hc:0<=c)(hv:0<=v.aI)(hw:0<=w.aI)(h:(d0 c [v,w]).aI<1099511627776):v.aI<1099511627776/\w.aI<1099511627776:=by
 rw[aco]at h;split at h
 ·simp at h
 ·simp only at h;omega
def tU{c:Int}{v v':dg}(h:¬v.lt v'):¬(d0 c [v]).lt (d0 c [v']):=by
 rw[acn,acn];unfold dg.lt at h⊢;split<;>split<;>simp only<;>omega
def tV{c:Int}{v v' w w':dg}(p1:0<=v.aI)(p2:0<=v'.aI)(p3:0<=w.aI)(p4:0<=w'.aI)(hv:¬v.lt v')(hw:¬w.lt w'):¬(d0 c [v,w]).lt (d0 c [v',w']):=by
 rw[aco,aco];unfold dg.lt at hv hw⊢;split<;>split<;>simp only<;>omega
def kc{a b c:dg}(h:¬b.lt a)(k:¬c.lt b):¬c.lt a:=by
 unfold dg.lt at*
 omega
def qf(n:aD)(l:aU)(c:dW)(own:fl)(s t:Nat)(k:Nat)(g:Int)(v:dg):Prop:=
 ∃r,n.au[k]? =some r/\((r.kind=1/\s=t/\g=s/\v=d0 r.cA [])\/
  (r.kind=2/\∃(a:Nat) (x:cE),l.bJ[a]? =some x/\x.f=s/\x.t=t/\x.term=r.a/\g=a/\v=d0 (r.cA+x.aI) [])\/
  (r.kind=3/\g=s/\v=d0 r.cA [eX c own s t r.a s t])\/
  (r.kind=4/\∃d:Nat,s+d<=t/\g=s+d/\v=d0 r.cA [eX c own s t r.a s (s+d),eX c own s t r.b (s+d) t]))
def mL(x:Cell)(v:dg)(i g:Int):kB x v i g=x\/(v.aI<1099511627776/\¬x.val.lt v/\kB x v i g=⟨v.aI,v.size,i,g⟩):=by
 unfold kB;split
 ·exact .inl rfl
 ·rename_i h;split
  ·rename_i h2;refine .inr ⟨by omega, ?_,rfl⟩;rcases h2 with h2|⟨rfl,_⟩
   ·unfold dg.lt at*;omega
   ·unfold dg.lt;omega
  ·exact .inl rfl
def tW{x:Cell}{v:dg}{i g:Int}(h:kB x v i g=x)(hv:v.aI<1099511627776):¬v.lt x.val/\(v=x.val->CM x.rZ x.arg i g):=by
 obtain⟨xc,xs,xr,xa⟩:=x;obtain⟨vc,vs⟩:=v;unfold kB at h;rw[aY (by simp only at hv⊢;omega)]at h;split at h
 ·rename_i h2;simp only[Cell.mk.injEq]at h;obtain⟨rfl,rfl,rfl,rfl⟩:=h;simp only[Cell.val,dg.lt]at h2;exfalso;rcases h2 with h2|⟨_,h2⟩<;>omega
 ·rename_i h2;simp only[Zc6,not_and]at h2;refine⟨h2.1,λe=>?_⟩;have:=h2.2 e;unfold CM;simp only at this⊢;omega
def zV{n:aD}{l:aU}{c:dW}{own:fl}{s t k:Nat}{r:dv}(hk:n.au[k]? =some r)(aaU:r.kind=1\/r.kind=2\/r.kind=3\/r.kind=4)(yS:s<=t)(x:Cell):
  sH r l c own s t k x=x\/∃g v,qf n l c own s t k g v/\v.aI<1099511627776/\¬x.val.lt v/\sH r l c own s t k x=⟨v.aI,v.size,k,g⟩:=by
 have Nl:∀(f:Cell->Nat->Cell) (N:Nat),(∀y j,j<N->f y j=y\/∃g v,qf n l c own s t k g v/\v.aI<1099511627776/\¬y.val.lt v/\f y j=⟨v.aI,v.size,k,g⟩)->
   (List.range N).foldl f x=x\/∃g v,qf n l c own s t k g v/\v.aI<1099511627776/\¬x.val.lt v/\(List.range N).foldl f x=⟨v.aI,v.size,k,g⟩:=by
  intro f N;induction N with
  |zero=>intro _;exact .inl rfl
  |succ N ih=>
   intro h;rw[Hu,Dg];have ih:=ih λy j hj=>h y j (by omega);simp only[B6,Zcp];obtain⟨y,hy⟩:=be ((List.range N).foldl f x);rw[hy]at ih⊢;rcases h y N (by omega)with e|⟨g,v,h1,h2,h3,h4⟩
   ·rw[e];exact ih
   ·refine .inr ⟨g,v,h1,h2, ?_,h4⟩;rcases ih with rfl|⟨g',v',_,_,h3',rfl⟩
    ·exact h3
    ·have auu:¬(⟨v'.aI,v'.size⟩:dg).lt v:=h3;exact kc auu h3'
 have one:∀(y:Cell) (v:dg) (g:Int),qf n l c own s t k g v->kB y v k g=y\/∃g v,qf n l c own s t k g v/\v.aI<1099511627776/\¬y.val.lt v/\kB y v k g=⟨v.aI,v.size,k,g⟩:=by
  intro y v g hi;rcases mL y v k g with e|⟨h1,h2,h3⟩
  ·exact .inl e
  ·exact .inr ⟨g,v,hi,h1,h2,h3⟩
 unfold sH;split
 ·rename_i h1;split
  ·rename_i h2;rcases mL x (d0 r.cA []) k s with e|⟨h3,h4,h5⟩
   ·exact .inl e
   ·exact .inr ⟨_,_,⟨r,hk,.inl ⟨h1,by omega,rfl,rfl⟩⟩,h3,h4,h5⟩
  ·exact .inl rfl
 ·split
  ·rename_i h1;refine Nl _ _ λy j hj=>?_;unfold stepT;split
   ·rename_i h2;have ha:l.bJ[j]? =some (l.bJ.getD j default):=by simp[List.getD,hj]
    rcases mL y (d0 (r.cA+(l.bJ.getD j default).aI) []) k j with e|⟨h3,h4,h5⟩
    ·exact .inl e
    ·exact .inr ⟨_,_,⟨r,hk,.inr (.inl ⟨h1,j,_,ha,h2.1,h2.2.1,h2.2.2,rfl,rfl⟩)⟩,h3,h4,h5⟩
   ·exact .inl rfl
  ·split
   ·rename_i h1;rcases mL x (d0 r.cA [eX c own s t r.a s t]) k s with e|⟨h3,h4,h5⟩
    ·exact .inl e
    ·exact .inr ⟨_,_,⟨r,hk,.inr (.inr (.inl ⟨h1,rfl,rfl⟩))⟩,h3,h4,h5⟩
   ·rename_i h1 h2 h3;have h4:r.kind=4:=by omega
    refine Nl _ _ λy j hj=>?_;unfold Nm;rcases mL y (d0 r.cA [eX c own s t r.a s (s+j),eX c own s t r.b (s+j) t]) k (s+j)with e|⟨h5,h6,h7⟩
    ·exact .inl e
    ·exact .inr ⟨_,_,⟨r,hk,.inr (.inr (.inr ⟨h4,j,by omega,rfl,rfl⟩))⟩,h5,h6,h7⟩
def Gm{f:Cell->Nat->Cell}:∀{N:Nat},(∀x k,k<N->nM x->goes x (f x k))->∀x,nM x->(List.range N).foldl f x=x->∀k,k<N->f x k=x
 |0,_,_,_,_,k,h=>by omega
 |N+1,hf,x,hx,he,k,hk=>by
  rw[Hu,Dg]at he;simp only[B6,Zcp]at he;have h1:=Bv (λx k hk=>hf x k (by omega)) x hx (N:=N);obtain⟨z,hz⟩:=be ((List.range N).foldl f x);rw[hz]at h1 he;have h2:=hf z N (by omega) h1.1;rw[he]at h2;have e:z=x:=by
   rcases h1.2 with e|h1
   ·exact e
   ·rcases h2.2 with e|h2
    ·exact e.symm
    ·omega
  subst e;by_cases hkN:k=N
  ·subst hkN;exact he
  ·exact Gm (λx k hk=>hf x k (by omega)) z hx hz k (by omega)
end
section
variable{r:dv}{own:fl}{h:Int}{s' t':Nat}
def fP{n:aD}(hn:AL n){k:Nat}(h:n.au[k]? =some r):Gn n r/\k<n.au.length/\n.au.getD k default=r:=by
 have hk:=(C7.1 h).1;exact⟨hn.2.2.2 r (xN h),hk,by simp[List.getD,h]⟩
def Ii{n:aD}(h:Gn n r):r.kind=1\/r.kind=2\/r.kind=3\/r.kind=4:=by
 obtain⟨_,_,_,_,h⟩:=h;omega
section
variable{n:aD}{l:aU}{c:dW}{s t:Nat}
structure oE(n:aD)(l:aU)(c:dW)(s t:Nat):Prop where
 hn:AL n
 hl:Gj l
 hc:Pa c
 ar:∀a∈l.bJ,a.f<=a.t
 st:s<=t
 tm:t<=1000
 Zq:∀(h:Int) (s' t':Nat),0<=h->h<n.ak->s<=s'->s'<=t'->t'<=t->(s'≠s\/t'≠t)->Good n l h s' t' (Pb c h s' t')
def PS(n:aD)(l:aU)(c:dW)(s t:Nat)(own:fl):Prop:=
 ∀h:Nat,h<own.length->own.getD h default=mK\/(Der n l h s t (own.getD h default).val/\
  ∃(k:Nat) (g:Int) (v:dg),qf n l c own s t k g v/\(∃r,n.au[k]? =some r/\r.head=h)/\(own.getD h default).rZ=k/\(own.getD h default).arg=g/\¬(own.getD h default).val.lt v)
def iO(C:oE n l c s t)(ho:oX n own)(h0:0<=h)(h1:h<n.ak)(f t':Int):jI (eX c own s t h f t'):=
 Ij ⟨C.hc,by have:=ho.1;have:=C.hn.2.1;omega,λ_=>⟨h0,by have:=ho.1;omega⟩⟩ ho.ok.2
def Bw(C:oE n l c s t)(ho:oX n own)(hp:PS n l c s t own)(h0:0<=h)(h1:h<n.ak)(a1:s<=s')(a2:s'<=t')(a3:t'<=t)
  (hf:(eX c own s t h s' t').aI<1099511627776):Der n l h s' t' (eX c own s t h s' t'):=by
 obtain⟨h,rfl⟩:=kK h0;unfold eX at hf⊢;split
 ·rename_i e;rw[cF e]at hf;have e1:s'=s:=by omega
  have e2:t'=t:=by omega
  subst e1 e2;simp only[iP]at hf⊢;rcases hp h (by have:=ho.1;omega)with e|⟨d,_⟩
  ·rw[e]at hf;exact eA hf (by decide)
  ·exact d
 ·rename_i e;rw[aY e]at hf;rcases(C.Zq h s' t' h0 h1 a1 a2 a3 (by omega)).top with e|⟨⟨k,_,d⟩,_⟩
  ·rw[e]at hf;exact eA hf (by decide)
  ·exact⟨k,_,d⟩
def Nn(C:oE n l c s t)(ho:oX n own)(hp:PS n l c s t own){k:Nat}{g:Int}{v:dg}(hk:n.au[k]? =some r)(h:qf n l c own s t k g v)(hf:v.aI<1099511627776):kA n l r.head s t k g v:=by
 obtain⟨r',uV,h⟩:=h;rw[hk]at uV;cases uV;obtain⟨q1,q2,q3,q4,q5⟩:=(fP C.hn hk).1;rcases h with⟨h1,rfl,rfl,rfl⟩|⟨h1,a,x,ha,h2,h3,h4,rfl,rfl⟩|⟨h1,rfl,rfl⟩|⟨h1,d,hd,rfl,rfl⟩
 ·exact kA.empty hk h1 hf
 ·exact kA.term hk h1 ha h2 h3 h4 hf
 ·obtain⟨k1,g1,d1⟩:=Bw C ho hp (h:=r.a) (by omega) (by omega) (fq s) C.st (fq t) (Ig q3 hf);exact kA.unary hk h1 d1 hf
 ·have o1:=iO C ho (h:=r.a) (by omega) (by omega) s (s+d);have o2:=iO C ho (h:=r.b) (by omega) (by omega) (s+d) t;have hff:=Ih q3 o1.1 o2.1 hf;have e:((s:Int)+d)=((s+d:Nat):Int):=by omega
  rw[e]at hf hff⊢;obtain⟨k1,g1,d1⟩:=Bw C ho hp (h:=r.a) (by omega) (by omega) (fq s) (by omega) hd hff.1;obtain⟨k2,g2,d2⟩:=Bw C ho hp (h:=r.b) (by omega) (by omega) (by omega) hd (fq t) hff.2;exact kA.ya hk h1 (by omega) hd d1 d2 hf
def Ik(C:oE n l c s t){amn:fl}(ho:oX n own)(iV:oX n amn)(hm:∀(h f t':Int),0<=h->h<n.ak->¬(eX c own s t h f t').lt (eX c amn s t h f t')){k:Nat}{g:Int}{v:dg}(h:qf n l c own s t k g v):
  ∃v',qf n l c amn s t k g v'/\¬v.lt v':=by
 obtain⟨r,hk,h⟩:=h;obtain⟨q1,q2,q3,q4,q5⟩:=(fP C.hn hk).1;rcases h with⟨h1,rfl,rfl,rfl⟩|⟨h1,a,x,ha,h2,h3,h4,rfl,rfl⟩|⟨h1,rfl,rfl⟩|⟨h1,d,hd,rfl,rfl⟩
 ·exact⟨_,⟨r,hk,.inl ⟨h1,rfl,rfl,rfl⟩⟩,by unfold dg.lt;omega⟩
 ·exact⟨_,⟨r,hk,.inr (.inl ⟨h1,a,x,ha,h2,h3,h4,rfl,rfl⟩)⟩,by unfold dg.lt;omega⟩
 ·exact⟨_,⟨r,hk,.inr (.inr (.inl ⟨h1,rfl,rfl⟩))⟩,tU (hm _ _ _ (by omega) (by omega))⟩
 ·refine⟨_,⟨r,hk,.inr (.inr (.inr ⟨h1,d,hd,rfl,rfl⟩))⟩,tV ?_ ?_ ?_ ?_ (hm _ _ _ (by omega) (by omega)) (hm _ _ _ (by omega) (by omega))⟩
  ·exact(iO C ho (by omega) (by omega) _ _).1
  ·exact(iO C iV (by omega) (by omega) _ _).1
  ·exact(iO C ho (by omega) (by omega) _ _).1
  ·exact(iO C iV (by omega) (by omega) _ _).1
def No{i h:Nat}{y:Cell}(hi:i<own.length):(own.set i y).getD h default=if h=i then y else own.getD h default:=by
 simp only[List.getD,ZbN];by_cases e:i=h
 ·subst e;simp[hi]
 ·have e':¬h=i:=λx=>e x.symm;simp[e,e']
def Ww(C:oE n l c s t){k:Nat}(ho:oX n own)(hk:k<n.au.length)(hp:PS n l c s t own):PS n l c s t (xu n l c s t own k):=by
 have iV:=(Np C.hn C.hl C.hc ho hk C.st C.tm).1;have hr:n.au[k]? =some (n.au.getD k default):=by simp[List.getD,hk]
 obtain⟨r,er⟩:=be (n.au.getD k default);unfold xu at iV⊢;unfold lm at iV⊢;rw[er]at hr iV⊢;have kr:=(fP C.hn hr).1;obtain⟨hd,ehd⟩:=kK kr.1;have fB:hd<own.length:=by have:=ho.1;have:=kr.2.1;omega
 rw[ehd]at iV⊢;simp only[iP]at iV⊢;obtain⟨x,hx⟩:=be (own.getD hd default);rw[hx]at iV⊢;rcases zV (c:=c) (own:=own) hr (Ii kr) C.st x with e|⟨g,v,hi,hf,jW,e⟩
 ·rw[e,<-hx,Nq rfl];exact hp
 ·rw[e]at iV⊢;have hm:∀(h f t':Int),0<=h->h<n.ak->¬(eX c own s t h f t').lt (eX c (own.set hd ⟨v.aI,v.size,k,g⟩) s t h f t'):=by
   intro h f t' h0 h1;unfold eX;split
   ·rw[No fB];split
    ·rename_i e2;rw[e2,hx];exact jW
    ·unfold dg.lt;omega
   ·unfold dg.lt;omega
  have auv:=Nn C ho hp hr hi hf;intro h hh;rw[No fB];split
  ·rename_i e2;subst e2;obtain⟨v',qO,X2⟩:=Ik C ho iV hm hi;exact .inr ⟨⟨k,g,by rw[<-ehd];exact auv⟩,k,g,v',qO,⟨r,hr,ehd⟩,rfl,rfl,X2⟩
  ·rcases hp h (by simpa using hh)with e3|⟨d,k1,g1,v1,hi1,tw,h2,h3,h4⟩
   ·exact .inl e3
   ·obtain⟨v',qO,X2⟩:=Ik C ho iV hm hi1;exact .inr ⟨d,k1,g1,v',qO,tw,h2,h3,kc X2 h4⟩
def Wx(C:oE n l c s t):PS n l c s t (Nr n):=by
 intro h hh;left;have hh:h<n.ak.toNat:=by simpa [Nr]using hh
 simp[Nr,List.getD,hh]
def Gp(C:oE n l c s t)(ho:oX n own)(C6:QD n l c s t own){k:Nat}{g:Int}{v:dg}(hk:n.au[k]? =some r)(h:qf n l c own s t k g v)(hf:v.aI<1099511627776):
  ¬v.lt (own.getD r.head.toNat default).val/\(v=(own.getD r.head.toNat default).val->CM (own.getD r.head.toNat default).rZ (own.getD r.head.toNat default).arg k g):=by
 obtain⟨r',uV,h⟩:=h;rw[hk]at uV;cases uV;obtain⟨kr,Il,hkd⟩:=fP C.hn hk;have Lr:=C6 k Il;unfold lm at Lr;rw[hkd]at Lr;obtain⟨q1,q2,q3,q4,q5⟩:=kr;have Ng:nM (own.getD r.head.toNat default):=ho.2 _ (bq (by have:=ho.1;omega));obtain⟨x,hx⟩:=be (own.getD r.head.toNat default);rw[hx]at Lr Ng⊢;have hk6:=C.hn.2.2.1;have Zo:=C.hl.2.2.1;have yS:=C.st;have iW:=C.tm;unfold sH at Lr;rcases h with⟨h1,rfl,rfl,rfl⟩|⟨h1,a,y,ha,h2,h3,h4,rfl,rfl⟩|⟨h1,rfl,rfl⟩|⟨h1,d,hd,rfl,rfl⟩
 ·rw[cF h1,cF rfl]at Lr;exact tW Lr hf
 ·rw[aY (by omega),cF h1]at Lr;have oQ:=(C7.1 ha).1;have had:l.bJ.getD a default=y:=by simp[List.getD,ha]
  have:=Gm (λx k hk hx=>by
   unfold stepT;split
   ·have:=C.hl.2.2.2 (l.bJ.getD k default) (bq hk);exact lV hx (jS zW (by omega) (by omega)) (by omega) (by omega) (by omega) (by omega)
   ·exact wB hx) x Ng Lr a oQ
  unfold stepT at this;rw[had,cF ⟨h2,h3,h4⟩]at this;exact tW this hf
 ·rw[aY (by omega),aY (by omega),cF h1]at Lr;exact tW Lr hf
 ·rw[aY (by omega),aY (by omega),aY (by omega)]at Lr;have:=Gm (λx k hk hx=>by
   unfold Nm;refine lV hx (jS (λv hv=>?_) q3 (by omega)) (by omega) (by omega) (by omega) (by omega);simp only[fN,g9,wh]at hv;rcases hv with rfl|rfl<;>exact iO C ho (by omega) (by omega) _ _) x Ng Lr d (by omega)
  unfold Nm at this;exact tW this hf
def kA.le(ha:∀a∈l.bJ,a.f<=a.t){k:Nat}{g:Int}{v:dg}(d:kA n l h s' t' k g v):s'<=t':=by
 induction d with
 |empty _ _ _=>exact fq _
 |term _ _ hx h2 h3 _ _=>have:=ha _ (xN hx);omega
 |unary _ _ _ _ ih=>exact ih
 |ya _ _ _ _ _ _ _ ih1 ih2=>omega
def kA.pos(hn:AL n)(hl:Gj l){k:Nat}{g:Int}{v:dg}(d:kA n l h s' t' k g v):jI v:=by
 induction d with
 |empty hk _ _=>exact jS zW (fP hn hk).1.2.2.1 (by have:=(fP hn hk).1.2.2.2.1;omega)
 |term hk _ hx _ _ _ _=>exact jS zW (by have:=(fP hn hk).1.2.2.1;have:=hl.2.2.2 _ (xN hx);omega) (by have:=(fP hn hk).1.2.2.2.1;have:=hl.2.2.2 _ (xN hx);omega)
 |unary hk _ _ _ ih=>exact jS (λv hv=>by simp only[oO]at hv;subst hv;exact ih) (fP hn hk).1.2.2.1 (by have:=(fP hn hk).1.2.2.2.1;omega)
 |ya hk _ _ _ _ _ _ ih1 ih2=>exact jS (λv hv=>by simp only[fN,g9,wh]at hv;rcases hv with rfl|rfl<;>assumption) (fP hn hk).1.2.2.1 (by have:=(fP hn hk).1.2.2.2.1;omega)
def Ns(C:oE n l c s t)(ho:oX n own)(C6:QD n l c s t own){k:Nat}{g:Int}{v:dg}(d:kA n l h s' t' k g v):
  s<=s'->t'<=t->¬v.lt (eX c own s t h s' t'):=by
 have out:∀{h:Int} {s' t':Nat} {v:dg},0<=h->h<n.ak->s<=s'->s'<=t'->t'<=t->(s'≠s\/t'≠t)->Der n l h s' t' v->¬v.lt (eX c own s t h s' t'):=by
  intro h s' t' v h0 h1 a1 a2 a3 bZ d;unfold eX;rw[aY (by omega)];exact(C.Zq h s' t' h0 h1 a1 a2 a3 bZ).Wv v d
 have onn:∀{r:dv} {k:Nat} {g:Int} {v v':dg},n.au[k]? =some r->qf n l c own s t k g v'->¬v.lt v'->v.aI<1099511627776->¬v.lt (eX c own s t r.head s t):=by
  intro r k g v v' hk hi jW hf;unfold eX;rw[cF ⟨rfl,rfl⟩];have Rz:v'.aI<1099511627776:=by unfold dg.lt at jW;omega
  exact kc (Gp C ho C6 hk hi Rz).1 jW
 induction d with
 | @empty s0 k r hk h1 hv=>
  intro a1 a2;obtain⟨q1,q2,q3,q4,q5⟩:=(fP C.hn hk).1;by_cases e:s0=s/\s0=t
  ·obtain⟨rfl,rfl⟩:=e;exact onn hk ⟨r,hk,.inl ⟨h1,rfl,rfl,rfl⟩⟩ (by unfold dg.lt;omega) hv
  ·exact out q1 q2 a1 (fq _) a2 (by omega) ⟨k,_,kA.empty hk h1 hv⟩
 | @term s0 t0 k a r x hk h1 ha h2 h3 h4 hv=>
  intro a1 a2;obtain⟨q1,q2,q3,q4,q5⟩:=(fP C.hn hk).1;by_cases e:s0=s/\t0=t
  ·obtain⟨rfl,rfl⟩:=e;exact onn hk ⟨r,hk,.inr (.inl ⟨h1,a,x,ha,h2,h3,h4,rfl,rfl⟩)⟩ (by unfold dg.lt;omega) hv
  ·exact out q1 q2 a1 (by have:=C.ar x (xN ha);omega) a2 (by omega) ⟨k,_,kA.term hk h1 ha h2 h3 h4 hv⟩
 | @unary s0 t0 k k1 g1 r v hk h1 d hv ih=>
  intro a1 a2;obtain⟨q1,q2,q3,q4,q5⟩:=(fP C.hn hk).1;by_cases e:s0=s/\t0=t
  ·obtain⟨rfl,rfl⟩:=e;exact onn hk ⟨r,hk,.inr (.inr (.inl ⟨h1,rfl,rfl⟩))⟩ (tU (ih (fq _) (fq _))) hv
  ·exact out q1 q2 a1 (d.le C.ar) a2 (by omega) ⟨k,_,kA.unary hk h1 d hv⟩
 | @ya s0 m t0 k k1 k2 g1 g2 r v w hk h1 hs ht d1 d2 hv ih1 ih2=>
  intro a1 a2;obtain⟨q1,q2,q3,q4,q5⟩:=(fP C.hn hk).1;by_cases e:s0=s/\t0=t
  ·obtain⟨rfl,rfl⟩:=e;have em:(m:Int)=(s0:Int)+((m-s0:Nat):Int):=by omega
   refine onn hk ⟨r,hk,.inr (.inr (.inr ⟨h1,m-s0,by omega,rfl,rfl⟩))⟩ (tV ?_ ?_ ?_ ?_ ?_ ?_) hv
   ·exact(d1.pos C.hn C.hl).1
   ·exact(iO C ho (by omega) (by omega) _ _).1
   ·exact(d2.pos C.hn C.hl).1
   ·exact(iO C ho (by omega) (by omega) _ _).1
   ·rw[<-em];exact ih1 (fq _) ht
   ·rw[<-em];exact ih2 hs (fq _)
  ·exact out q1 q2 a1 (by omega) a2 (by omega) ⟨k,_,kA.ya hk h1 hs ht d1 d2 hv⟩
def acp(C:oE n l c s t)(ho:oX n own)(C6:QD n l c s t own){k:Nat}{g:Int}{v:dg}(d:kA n l h s t k g v):
  ∃r v',n.au[k]? =some r/\r.head=h/\qf n l c own s t k g v'/\¬v.lt v':=by
 have jW:=λ{h:Int} {s' t' k:Nat} {g:Int} {v:dg} (d:kA n l h s' t' k g v)=>Ns C ho C6 d;cases d with
 | @empty s0 k r hk h1 hv=>exact⟨r,_,hk,rfl,⟨r,hk,.inl ⟨h1,rfl,rfl,rfl⟩⟩,by unfold dg.lt;omega⟩
 | @term s0 t0 k a r x hk h1 ha h2 h3 h4 hv=>exact⟨r,_,hk,rfl,⟨r,hk,.inr (.inl ⟨h1,a,x,ha,h2,h3,h4,rfl,rfl⟩)⟩,by unfold dg.lt;omega⟩
 | @unary s0 t0 k k1 g1 r v hk h1 d hv=>
  exact⟨r,_,hk,rfl,⟨r,hk,.inr (.inr (.inl ⟨h1,rfl,rfl⟩))⟩,tU (jW d (fq _) (fq _))⟩
 | @ya s0 m t0 k k1 k2 g1 g2 r v w hk h1 hs ht d1 d2 hv=>
  obtain⟨q1,q2,q3,q4,q5⟩:=(fP C.hn hk).1;have em:(m:Int)=(s:Int)+((m-s:Nat):Int):=by omega
  refine⟨r,_,hk,rfl,⟨r,hk,.inr (.inr (.inr ⟨h1,m-s,by omega,em,rfl⟩))⟩,tV ?_ ?_ ?_ ?_ ?_ ?_⟩
  ·exact(d1.pos C.hn C.hl).1
  ·exact(iO C ho (by omega) (by omega) _ _).1
  ·exact(d2.pos C.hn C.hl).1
  ·exact(iO C ho (by omega) (by omega) _ _).1
  ·rw[<-em];exact jW d1 (fq _) ht
  ·rw[<-em];exact jW d2 hs (fq _)
def Nt(C:oE n l c s t)(ho:oX n own)(hp:PS n l c s t own)(C6:QD n l c s t own)(h:Nat)(hh:(h:Int)<n.ak):Good n l h s t (own.getD h default):=by
 have hl:h<own.length:=by have:=ho.1;omega
 have dd:eX c own s t h s t=(own.getD h default).val:=by unfold eX;rw[cF ⟨rfl,rfl⟩];rfl
 refine⟨λv ⟨k,g,d⟩=>?_, ?_⟩
 ·rw[<-dd];exact Ns C ho C6 d (fq _) (fq _)
 ·rcases hp h hl with e|⟨hd,k,g,v,hi,⟨r,hk,hr⟩,h2,h3,jW⟩
  ·exact .inl e
  ·right;have hf:=hd.cj;have hvf:v.aI<1099511627776:=by unfold dg.lt at jW;omega
   have hx:=Gp C ho C6 hk hi hvf;rw[hr]at hx;simp only[iP]at hx;have he:v=(own.getD h default).val:=dg.vI hx.1 jW;refine⟨⟨k,h2, ?_⟩,λk' g' d=>?_⟩
   ·have:=Nn C ho hp hk hi hvf;rw[hr,he]at this;rw[h3];exact this
   ·obtain⟨r',v',uV,gS,qO,X2⟩:=acp C ho C6 d;have auw:v'.aI<1099511627776:=by unfold dg.lt at X2;omega
    have ng:=Gp C ho C6 uV qO auw;rw[gS]at ng;simp only[iP]at ng;exact ng.2 (dg.vI ng.1 X2)
def Im(C:oE n l c s t)(h:Nat)(hh:(h:Int)<n.ak):Good n l h s t ((nk n l c s t).getD h default):=by
 obtain⟨h1,h2,h3⟩:=zX C.hn C.hl C.hc C.st C.tm (PS n l c s t) (Wx C) (λown k ho hk hp=>Ww C ho hk hp);exact Nt C h1 h2 h3 h hh
end
end
section
variable{z:fp}{r:dv}{an:b7}
abbrev gD:=Int×Int×List It
def uU(z:fp)(r:dv)(i:Nat):Option gD:=if(z.l.bJ.getD i default).term=r.a then some ((i:Int),r.cA+(z.l.bJ.getD i default).aI,[])else none
def qy(z:fp)(r:dv)(m:Int):gD:=(m,r.cA,[(r.a,z.fr,m),(r.b,m,z.to)])
def cK(z:fp)(r:dv):List gD:=
 if r.kind=1 then(if z.fr=z.to then [(z.fr,r.cA,[])]else [])
 else if r.kind=2 then(List.range' (jL z) (uW z-jL z)).filterMap (uU z r)
 else if r.kind=3 then [(z.fr,r.cA,[(r.a,z.fr,z.to)])]
 else if r.kind=4 then(List.range ((z.to-z.fr).toNat+1)).map λ(d:Nat)=>qy z r (z.fr+(d:Int))
 else []
def eN(z:fp)(r:dv):List gD:=if r.kind=4 then [qy z r z.fr,qy z r z.to]else cK z r
def sb(z:fp)(cj:List Bool)(i:gD):Prop:=∀x∈i.2.2,mZ z x->cj.getD x.1.toNat false=true
abbrev sc(z:fp)(an:b7)(i:gD):dg:=kM z an i.2.1 i.2.2
def xD(z:fp):jL z<=uW z/\uW z<=z.l.bJ.length:=by
 have:=adM z;unfold uW;have h:(z.l.bJ.drop (jL z)).findIdx (λa=> !decide (LA z a))<=(z.l.bJ.drop (jL z)).length:=List.findIdx_le_length;rw[Zb]at h;omega
def OG{i:Nat}(h1:jL z<=i)(h2:i<uW z):LA z (z.l.bJ.getD i default):=by
 have hh:=(xD z).2;have h3:i-jL z<(z.l.bJ.drop (jL z)).findIdx (λa=> !decide (LA z a)):=by unfold uW at h2;omega
 have:=List.not_of_lt_findIdx h3;rw[ZcC]at this;have hl:i<z.l.bJ.length:=by omega
 simpa [List.getD,hl,show jL z+(i-jL z)=i by omega]using this
def adS(hm:mono z)(hs:∀i j:Nat,i<=j->j<z.l.bJ.length->jL z<=i->LA z (z.l.bJ.getD j default)->LA z (z.l.bJ.getD i default)){i:Nat}(hi:i<z.l.bJ.length)(h:LA z (z.l.bJ.getD i default)):jL z<=i/\i<uW z:=by
 have hp:mQ z (z.l.bJ.getD i default):=.inr ⟨h.1,by have:=h.2;omega⟩;have h1:jL z<=i:=by
  rcases Zds i (jL z)with ef|yQ
  ·have:=List.not_of_lt_findIdx ef;have e:z.l.bJ.getD i default=z.l.bJ[i]:=by simp[List.getD,hi]
   rw[e]at hp;exact eA hp (by simpa using this)
  ·exact yQ
 refine⟨h1, ?_⟩;rcases Zds i (uW z)with ef|yQ
 ·exact ef
 ·exfalso;have hh:=(xD z).2;have hl:uW z<z.l.bJ.length:=by omega
  have h2:(z.l.bJ.drop (jL z)).findIdx (λa=> !decide (LA z a))<(z.l.bJ.drop (jL z)).length:=by
   rw[Zb];unfold uW at hl;omega
  have h3:=List.findIdx_getElem (w:=h2);rw[ZcC]at h3;have h4:=hs (uW z) i yQ hi (xD z).1 h;simp only[Xp,Di]at h3;apply h3;have e:z.l.bJ.getD (uW z) default=z.l.bJ[uW z]:=by simp[List.getD,hl]
  rw[e]at h4;exact h4
def B0(wR:z.fr<=z.to){i:gD}(h:i∈eN z r):i∈cK z r:=by
 unfold eN at h;split at h
 ·rename_i hk;unfold cK;rw[aY (by omega),aY (by omega),aY (by omega),cF hk,lq];simp only[fN,g9,wh]at h;rcases h with rfl|rfl
  ·exact⟨0,by simp,by simp⟩
  ·exact⟨(z.to-z.fr).toNat,by simp,by rw[show z.fr+((z.to-z.fr).toNat:Int)=z.to by omega]⟩
 ·exact h
def adT{i:gD}(h:i∈cK z r){x:It}(hx:x∈i.2.2)(hi:mZ z x):i∈eN z r/\jT r x.1:=by
 unfold cK at h;split at h
 ·split at h
  ·simp only[fN,g9,wh]at h;subst h;cases hx
  ·cases h
 ·split at h
  ·obtain⟨k,_,hk⟩:=ZbK.1 h;unfold uU at hk;split at hk
   ·cases hk;cases hx
   ·cases hk
  ·split at h
   ·rename_i h1 h2 h3;simp only[fN,g9,wh]at h;subst h;simp only[fN,g9,wh]at hx;subst hx;refine⟨?_,.inl ⟨h3,rfl⟩⟩;unfold eN cK;rw[aY (by omega),aY h1,aY h2,cF h3];simp
   ·split at h
    ·rename_i h4;obtain⟨d,_,rfl⟩:=lq.1 h;unfold eN;rw[cF h4];simp only[qy,fN,g9,wh]at hx;unfold mZ at hi;rcases hx with rfl|rfl
     ·refine⟨?_,.inr ⟨h4,.inl rfl⟩⟩;simp only at hi;rw[hi.2];simp
     ·refine⟨?_,.inr ⟨h4,.inr rfl⟩⟩;simp only at hi;rw[hi.1];simp
    ·cases h
def BL{a b:b7}{i:gD}(h:∀x∈i.2.2,mZ z x->bv a x.1=bv b x.1):sc z a i=sc z b i:=by
 show d0 _ _=d0 _ _
 congr 1
 refine Zbz λx hx=>?_;unfold kG;split
 ·rename_i e;exact h x hx e
 ·rfl
def WE{p:Int}(hp:0<=p){l:b7}(hl:∀v∈l,jI v){w:dg}(hw:w∈l)(hw2:w.aI<1099511627776\/w.size=0):¬(d0 p l).lt w:=by
 have key:∀(l:b7),(∀v∈l,jI v)->∀(c s:Int),0<=c->0<=s->(∀w∈l,¬(gq c s l).lt w)/\(gq c s l).aI>=min c 1099511627776/\(gq c s l).size>=min s 1099511627776:=by
  intro l;induction l with
  |nil=>intro _ c s _ _;exact⟨λw hw=>(by cases hw),(by simp only[gq];omega),(by simp only[gq];omega)⟩
  |cons v l ih=>
   intro hl c s hc hs;obtain⟨v1,v2,v3,v4⟩:=hl v (by simp);obtain⟨i1,i2,i3⟩:=ih (λv hv=>hl v (by simp[hv])) (min (c+v.aI) 1099511627776) (min (s+v.size) 1099511627776) (by omega) (by omega);simp only[gq];refine⟨λw hw=>?_,by omega,by omega⟩;rcases fN.1 hw with rfl|hw
   ·unfold dg.lt;omega
   ·exact i1 w hw
 have:=(key l hl p 1 hp (by omega)).1 w hw;unfold d0;split
 ·rename_i h;obtain⟨v1,v2,v3,v4⟩:=hl w hw;unfold dg.lt at this⊢;simp only at this⊢;omega
 ·exact this
structure Kx(z:fp):Prop where
 hn:AL z.n
 hl:Gj z.l
 hc:Pa z.c
 ft:0<=z.fr/\z.fr<=z.to
def B1(K:Kx z)(hr:r∈z.n.au){i:gD}(hi:i∈cK z r):0<=i.2.1/\i.2.1<=4000000000000:=by
 obtain⟨q1,q2,q3,q4,q5⟩:=K.hn.2.2.2 r hr;unfold cK at hi;split at hi
 ·split at hi
  ·simp only[fN,g9,wh]at hi;subst hi;simp only;omega
  ·cases hi
 ·split at hi
  ·obtain⟨k,Dd,hk⟩:=ZbK.1 hi;have:=(xD z).2;have:=(xD z).1;simp only[Zck]at Dd;have Il:k<z.l.bJ.length:=by omega
   unfold uU at hk;split at hk
   ·cases hk;have:=K.hl.2.2.2 _ (bq Il);simp only;omega
   ·cases hk
  ·split at hi
   ·simp only[fN,g9,wh]at hi;subst hi;simp only;omega
   ·split at hi
    ·obtain⟨d,_,rfl⟩:=lq.1 hi;simp only[qy];omega
    ·cases hi
def qz(K:Kx z)(hr:r∈z.n.au){i:gD}(hi:i∈cK z r){x:It}(hx:x∈i.2.2):0<=x.1/\x.1<z.n.ak:=by
 obtain⟨q1,q2,q3,q4,q5⟩:=K.hn.2.2.2 r hr;unfold cK at hi;split at hi
 ·split at hi
  ·simp only[fN,g9,wh]at hi;subst hi;cases hx
  ·cases hi
 ·split at hi
  ·obtain⟨k,Dd,hk⟩:=ZbK.1 hi;unfold uU at hk;split at hk
   ·cases hk;cases hx
   ·cases hk
  ·split at hi
   ·simp only[fN,g9,wh]at hi;subst hi;simp only[fN,g9,wh]at hx;subst hx;simp only;omega
   ·split at hi
    ·obtain⟨d,_,rfl⟩:=lq.1 hi;simp only[qy,fN,g9,wh]at hx;rcases hx with rfl|rfl<;>simp only<;>omega
    ·cases hi
def OH(K:Kx z)(hb:∀v∈an,jI v)(i:gD):∀v∈i.2.2.map (λx=>kG z an x.1 x.2.1 x.2.2),jI v:=by
 intro v hv;obtain⟨x,_,rfl⟩:=lq.1 hv;exact Ld K.hc hb _ _ _
def Lg(K:Kx z)(hb:∀v∈an,jI v)(hr:r∈z.n.au){i:gD}(hi:i∈cK z r):jI (sc z an i):=by
 have:=B1 K hr hi;exact jS (OH K hb i) this.1 this.2
def adU(K:Kx z)(hb:∀v∈an,jI v)(hr:r∈z.n.au){i:gD}(hi:i∈cK z r){x:It}(hx:x∈i.2.2)(ur:mZ z x)(xi:(bv an x.1).aI<1099511627776\/(bv an x.1).size=0):¬(sc z an i).lt (bv an x.1):=by
 refine WE (B1 K hr hi).1 (OH K hb i) (lq.2 ⟨x,hx, ?_⟩) xi;unfold kG;exact cF ur
end
section
variable{h:Int}{r:dv}
def mR(st:dy)(x:Int):Bool:=st.cj.getD x.toNat false
structure KN(z:fp)(st:dy):Prop where
 wf:WF z.n.ak.toNat st
 ord:∀x y:Int,0<=x->x<z.n.ak->0<=y->y<z.n.ak->mR st x=true->mR st y=false->¬(bv st.an y).lt (bv st.an x)
 att:∀x:Int,0<=x->x<z.n.ak->(bv st.an x).aI<1099511627776->∃(k:Nat) (r:dv),z.n.au[k]? =some r/\r.head=x/\∃i∈cK z r,sb z st.cj i/\sc z st.an i=bv st.an x
 der:∀x:Int,0<=x->x<z.n.ak->(bv st.an x).aI<1099511627776->Der z.n z.l x z.fr.toNat z.to.toNat (bv st.an x)
def done(z:fp)(st:dy)(r:dv)(i:gD):Prop:=sb z st.cj i->¬(sc z st.an i).lt (bv st.an r.head)
section
variable{z:fp}{st:dy}
def G6(st:dy)(x:Int):st.cj.getD x.toNat false=mR st x:=rfl
def lO(K:Kx z)(W:WF z.n.ak.toNat st)(hh:0<=h/\h<z.n.ak){v:dg}{y:Int}(hy:0<=y):bv (fU st h v).an y=bv st.an y\/(y=h/\bv (fU st h v).an y=v/\mR st h=false/\v.aI<1099511627776/\v.lt (bv st.an h)):=by
 rcases RW st h v with e|⟨e,h1,h2,h3⟩
 ·rw[e];exact .inl rfl
 ·rw[e,BZ ⟨hh.1,by rw[W.lb];omega⟩ hy];split
  ·rename_i e2;exact .inr ⟨e2,rfl,h1,h2,h3⟩
  ·exact .inl rfl
def wL(K:Kx z)(W:WF z.n.ak.toNat st)(hh:0<=h/\h<z.n.ak){v:dg}(hr:r∈z.n.au){i:gD}(hi:i∈cK z r)(hf:sb z st.cj i):sc z (fU st h v).an i=sc z st.an i:=by
 refine BL λx hx ur=>?_;rcases lO K W hh (v:=v) (qz K hr hi hx).1 with e|⟨e,_,h1,_⟩
 ·exact e
 ·have:=hf x hx ur;rw[G6,e,h1]at this;cases this
def adV(K:Kx z)(W:WF z.n.ak.toNat st)(hh:0<=h/\h<z.n.ak){v w:dg}{y:Int}(hy:0<=y)(hw:¬w.lt (bv st.an y)):¬w.lt (bv (fU st h v).an y):=by
 rcases lO K W hh (v:=v) hy with e|⟨rfl,e,_,_,h3⟩
 ·rw[e];exact hw
 ·rw[e];unfold dg.lt at*
  omega
def yJ(K:Kx z)(W:WF z.n.ak.toNat st)(hh:0<=h/\h<z.n.ak){v:dg}(hr:r∈z.n.au){i:gD}(hi:i∈cK z r)(hd:done z st r i):done z (fU st h v) r i:=by
 intro hf;rw[nQ]at hf;rw[wL K W hh hr hi hf];exact adV K W hh (K.hn.2.2.2 r hr).1 (hd hf)
def af3(C:oE z.n z.l z.c z.fr.toNat z.to.toNat)(K:Kx z){an:b7}(hb:∀v∈an,jI v)(hd:∀x:Int,0<=x->x<z.n.ak->(bv an x).aI<1099511627776->Der z.n z.l x z.fr.toNat z.to.toNat (bv an x))
  {k:Nat} (hk:z.n.au[k]? =some r) {i:gD} (hi:i∈cK z r) (hf:(sc z an i).aI<1099511627776):kA z.n z.l r.head z.fr.toNat z.to.toNat k i.1 (sc z an i):=by
 have hr:r∈z.n.au:=xN hk;obtain⟨q1,q2,q3,q4,q5⟩:=K.hn.2.2.2 r hr;obtain⟨hf0,hf1⟩:=K.ft;obtain⟨s,hs⟩:=kK hf0;obtain⟨t,ht⟩:=kK (show 0<=z.to by omega);have es:z.fr.toNat=s:=by omega
 have et:z.to.toNat=t:=by omega
 have val:∀(x:Int) (a b:Nat),0<=x->x<z.n.ak->s<=a->a<=b->b<=t->(kG z an x a b).aI<1099511627776->Der z.n z.l x a b (kG z an x a b):=by
  intro x a b h0 h1 a1 a2 a3 hfv;unfold kG at hfv⊢;split
  ·rename_i e;rw[cF e]at hfv;have e1:a=z.fr.toNat:=by omega
   have e2:b=z.to.toNat:=by omega
   rw[e1,e2];exact hd x h0 h1 hfv
  ·rename_i e;rw[aY e]at hfv;rcases(C.Zq x a b h0 h1 (by omega) a2 (by omega) (by omega)).top with e|⟨⟨k,_,d⟩,_⟩
   ·rw[e]at hfv;exact eA hfv (by decide)
   ·exact⟨k,_,d⟩
 have vok:∀(x a b:Int),jI (kG z an x a b):=λx a b=>Ld K.hc hb x a b;unfold cK at hi;split at hi
 ·rename_i h1;split at hi
  ·rename_i h2;simp only[fN,g9,wh]at hi;subst hi;have e:z.to.toNat=z.fr.toNat:=by omega
   rw[e,show z.fr=(z.fr.toNat:Int)by omega];exact kA.empty hk h1 hf
  ·cases hi
 ·split at hi
  ·rename_i h1;obtain⟨a,ha0,ha⟩:=ZbK.1 hi;have:=xD z;simp only[Zck]at ha0;have oQ:a<z.l.bJ.length:=by omega
   have dK:=OG (z:=z) (i:=a) (by omega) (by omega);unfold uU at ha;split at ha
   ·rename_i OI;cases ha;exact kA.term hk h1 (a:=a) (x:=z.l.bJ.getD a default) (by simp[List.getD,oQ]) (by rw[dK.1];omega) (by rw[dK.2];omega) OI hf
   ·cases ha
  ·split at hi
   ·rename_i h1;simp only[fN,g9,wh]at hi;subst hi;have Rz:(d0 r.cA [kG z an r.a z.fr z.to]).aI<1099511627776:=hf;have hv:=Ig q3 Rz;have d:=val r.a s t (by omega) (by omega) (fq _) (by omega) (fq _) (by rw[<-hs,<-ht];exact hv);obtain⟨k1,g1,d1⟩:=d;rw[<-hs,<-ht]at d1;have:=kA.unary hk h1 d1 Rz;rw[es,et];rw[hs]at this⊢;exact this
   ·split at hi
    ·rename_i h1;obtain⟨d,hd0,rfl⟩:=lq.1 hi;simp only[Pi]at hd0;have Rz:(d0 r.cA [kG z an r.a z.fr (z.fr+(d:Int)),kG z an r.b (z.fr+(d:Int)) z.to]).aI<1099511627776:=hf;have hv:=Ih q3 (vok _ _ _).1 (vok _ _ _).1 Rz;have em:z.fr+(d:Int)=((s+d:Nat):Int):=by omega
     rw[em,hs,ht]at hv;obtain⟨k1,g1,d1⟩:=val r.a s (s+d) (by omega) (by omega) (fq _) (by omega) (by omega) hv.1;obtain⟨k2,g2,d2⟩:=val r.b (s+d) t (by omega) (by omega) (by omega) (by omega) (fq _) hv.2;rw[em,hs,ht]at Rz;have:=kA.ya hk h1 (by omega) (by omega) d1 d2 Rz;rw[es,et];show kA z.n z.l r.head s t k (z.fr+(d:Int)) (d0 r.cA [kG z an r.a z.fr (z.fr+(d:Int)),kG z an r.b (z.fr+(d:Int)) z.to]);rw[em,hs,ht];exact this
    ·cases hi
def KN.GN(C:oE z.n z.l z.c z.fr.toNat z.to.toNat)(K:Kx z)(h:KN z st){k:Nat}(hk:z.n.au[k]? =some r){i:gD}(hi:i∈cK z r)(hf:sb z st.cj i)
  (ho:(sc z st.an i).lt (bv st.an r.head)->∀x:Int,0<=x->x<z.n.ak->mR st x=true->¬(sc z st.an i).lt (bv st.an x)):KN z (fU st r.head (sc z st.an i)):=by
 have hr:r∈z.n.au:=xN hk;have hh:0<=r.head/\r.head<z.n.ak:=⟨(K.hn.2.2.2 r hr).1,(K.hn.2.2.2 r hr).2.1⟩;obtain⟨V,hV⟩:=be (sc z st.an i);have Hz:jI V:=by rw[<-hV];exact Lg K h.wf.bo hr hi
 have W2:WF z.n.ak.toNat (fU st r.head V):=h.wf.GN (by omega) Hz;have mh:∀x,mR (fU st r.head V) x=mR st x:=λx=>by unfold mR;rw[nQ]
 rw[hV]at ho⊢;refine⟨W2,λx y x0 x1 y0 y1 fx fy=>?_,λx x0 x1 hx=>?_,λx x0 x1 hx=>?_⟩
 ·rw[mh]at fx fy;have ex:bv (fU st r.head V).an x=bv st.an x:=by
   rcases lO K h.wf hh (v:=V) x0 with e|⟨rfl,_,h1,_⟩
   ·exact e
   ·rw[fx]at h1;cases h1
  rw[ex];rcases lO K h.wf hh (v:=V) y0 with e|⟨rfl,e,h1,_,h3⟩
  ·rw[e];exact h.ord x y x0 x1 y0 y1 fx fy
  ·rw[e];exact ho h3 x x0 x1 fx
 ·rcases lO K h.wf hh (v:=V) x0 with e|⟨rfl,e,h1,_,h3⟩
  ·rw[e]at hx⊢;obtain⟨k',r',uV,gS,i',qO,Rz,Ze⟩:=h.att x x0 x1 hx;exact⟨k',r',uV,gS,i',qO,by rw[nQ];exact Rz,by rw[wL K h.wf hh (xN uV) qO Rz];exact Ze⟩
  ·rw[e];exact⟨k,r,hk,rfl,i,hi,by rw[nQ];exact hf,by rw[wL K h.wf hh hr hi hf];exact hV⟩
 ·rcases lO K h.wf hh (v:=V) x0 with e|⟨rfl,e,h1,h2,h3⟩
  ·rw[e]at hx⊢;exact h.der x x0 x1 hx
  ·rw[e];have:=af3 C K h.wf.bo h.der hk hi (by rw[hV];exact h2);rw[hV]at this;exact⟨_,_,this⟩
def G7(K:Kx z)(W:WF z.n.ak.toNat st)(hr:r∈z.n.au){i:gD}(hi:i∈cK z r)(hf:sb z st.cj i)
  (ho:mR st r.head=true->¬(sc z st.an i).lt (bv st.an r.head)):done z (fU st r.head (sc z st.an i)) r i:=by
 have hh:0<=r.head/\r.head<z.n.ak:=⟨(K.hn.2.2.2 r hr).1,(K.hn.2.2.2 r hr).2.1⟩;intro _;rw[wL K W hh hr hi hf];have Hz:=Lg K W.bo hr hi;obtain⟨V,hV⟩:=be (sc z st.an i);rw[hV]at ho Hz⊢;unfold fU;split
 ·rename_i hc;rcases hc with hc|hc|hc
  ·exact ho hc
  ·have hb:jI (bv st.an r.head):=W.bo _ (bq (by rw[W.lb];omega));by_cases ef:V.lt (bv st.an r.head)
   ·exfalso;obtain⟨b1,b2,b3,b4⟩:=hb;have Cs:(bv st.an r.head).aI=1099511627776:=by unfold dg.lt at ef;omega
    have Jg:(bv st.an r.head)=⟨1099511627776,0⟩:=by
     rcases ilt (st.fB.getD r.head.toNat 0)with h0|h0
     ·exact(W.old r.head.toNat (by omega) h0).2
     ·have:=W.RU r.head.toNat (by omega) h0;unfold bv at Cs;omega
    rw[Jg]at ef;obtain⟨c1,c2,c3,c4⟩:=Hz;unfold dg.lt at ef;simp only at ef;omega
   ·exact ef
  ·exact hc
 ·have hbs:bv (st.an.set r.head.toNat V) r.head=V:=by
   rw[BZ ⟨hh.1,by rw[W.lb];omega⟩ hh.1,cF rfl]
  split;all_goals
   show ¬V.lt (bv (st.an.set r.head.toNat V) r.head);rw[hbs];unfold dg.lt;omega
end
end
section
variable{st:dy}{cj:List Bool}
def iS(z:fp)(r:dv)(st:dy)(i:gD):dy:=if fD z i.2.2=true then st else fU st r.head (sc z st.an i)
def CY(z:fp)(st:dy):dy:=z.n.au.foldl (λst r=>(cK z r).foldl (iS z r) st) st
def jq(z:fp)(r:dv)(st:dy)(i:gD):dy:=if fD z i.2.2=true/\ph z st.cj i.2.2=false then fU st r.head (sc z st.an i)else st
def D8(z:fp)(x:Int)(st:dy)(r:dv):dy:=if jT r x then(eN z r).foldl (jq z r) st else st
def pz(z:fp)(st:dy):dy:=z.n.au.foldl (D8 z (st.s.e 0).x) (qM st)
def iJ(z:fp):Nat->dy->dy
 |0,st=>st
 |f+1,st=>if st.s.heap=[]then st else iJ z f (pz z st)
def qn(st:dy):Nat:=st.cj.count false
def gY(n:Nat):dy:=⟨List.replicate n ⟨1099511627776,0⟩,List.replicate n false,List.replicate n (-1),⟨[],0,[],0,0,0⟩⟩
abbrev PR:=dv×gD
def Pg(z:fp)(p:PR):Prop:=p.1∈z.n.au/\p.2∈cK z p.1
def CZ(z:fp)(st:dy)(p:PR):Prop:=done z st p.1 p.2
structure G8(z:fp)(P:dy->Prop)(ok:PR->Prop)(f:dy->PR->dy):Prop where
 bF:∀st p,P st->ok p->P (f st p)
 self:∀st p,P st->ok p->CZ z (f st p) p
 rest:∀st p,P st->ok p->∀q,Pg z q->CZ z st q->CZ z (f st p) q
 bA:∀st p,P st->ok p->(f st p).s.bA<=st.s.bA+1
def G8.Nl{z:fp}{P:dy->Prop}{ok:PR->Prop}{f:dy->PR->dy}(h:G8 z P ok f)(aN:∀p,ok p->Pg z p):∀(L:List PR),(∀p∈L,ok p)->∀st,P st->
  P (L.foldl f st)/\(∀p∈L,CZ z (L.foldl f st) p)/\(∀q,Pg z q->CZ z st q->CZ z (L.foldl f st) q)/\(L.foldl f st).s.bA<=st.s.bA+L.length
 |[],_,st,hp=>⟨hp,λp hp=>(by cases hp),λq _ h=>h,by simp⟩
 |p::L,hL,st,hp=>by
  have h1:=hL p (by simp);obtain⟨a1,a2,a3,a4⟩:=G8.Nl h aN L (λq hq=>hL q (by simp[hq])) (f st p) (h.bF st p hp h1);rw[B6];refine⟨a1,λq hq=>?_,λq hq hd=>a3 q hq (h.rest st p hp h1 q hq hd), ?_⟩
  ·rcases fN.1 hq with rfl|hq
   ·exact a3 _ (aN _ h1) (h.self st _ hp h1)
   ·exact a2 q hq
  ·have:=h.bA st p hp h1;simp only[w9];omega
def rK{σ α β:Type}(f:σ->α×β->σ)(g:α->List β):∀(l:List α) (x:σ),l.foldl (λx a=>(g a).foldl (λx b=>f x (a,b)) x) x=(l.flatMap λa=>(g a).map λb=>(a,b)).foldl f x
 |[],x=>rfl
 |a::l,x=>by
  rw[B6,Zy,Dg,rK f g l,ZcU]
def yK{z:fp}{l:List It}(h:¬fD z l=true):∀x∈l,¬mZ z x:=by
 intro x hx hi;exact h (Zct.2 ⟨x,hx,by simpa using hi⟩)
section
variable{z:fp}
def iq{α:Type}{n x:Nat}{a d:α}(h:x<n):(List.replicate n a).getD x d=a:=by simp[List.getD,h]
def KN0(K:Kx z):KN z (gY z.n.ak.toNat):=by
 have hb:∀x:Int,0<=x->x<z.n.ak->bv (gY z.n.ak.toNat).an x=⟨1099511627776,0⟩:=λx h0 h1=>iq (by omega);have hf:∀x:Int,0<=x->x<z.n.ak->mR (gY z.n.ak.toNat) x=false:=λx h0 h1=>iq (by omega);refine⟨⟨by simp[gY],by simp[gY],by simp[gY],⟨by simp[gY,qq],λe he=>by simp[gY]at he,λe he=>by simp[gY]at he,λe he=>by simp[gY]at he⟩,λk hk=>by simp[gY]at hk,λk _ hk=>by simp[gY]at hk,
  λe he=>by simp[gY]at he,λx hx h0 _=>?_,λx hx h0=>⟨iq hx,iq hx⟩,λx hx h0=>?_,λx hx=>?_,by simp[gY],λv hv=>?_⟩,λx y x0 x1 _ _ fx _=>?_,λx x0 x1 hx=>?_,λx x0 x1 hx=>?_⟩
 ·have:=iq (a:=(-1:Int)) (d:=0) hx;simp only[gY]at h0;omega
 ·have:=iq (a:=(-1:Int)) (d:=0) hx;simp only[gY]at h0;omega
 ·have:=iq (a:=(-1:Int)) (d:=0) hx;simp only[gY];omega
 ·rw[ZbU hv];exact⟨by decide,by decide,by decide,by decide⟩
 ·rw[hf x x0 x1]at fx;cases fx
 ·rw[hb x x0 x1]at hx;exact eA hx (by decide)
 ·rw[hb x x0 x1]at hx;exact eA hx (by decide)
def WU{p:PR}(h:Pg z p):∃k:Nat,z.n.au[k]? =some p.1:=by
 obtain⟨k,hk,e⟩:=Ib h.1;exact⟨k,by rw[xb hk,e]⟩
def PI(z:fp)(st:dy):Prop:=KN z st/\∀x:Int,0<=x->x<z.n.ak->mR st x=false
def WV(C:oE z.n z.l z.c z.fr.toNat z.to.toNat)(K:Kx z):G8 z (PI z) (Pg z) (λst p=>iS z p.1 st p.2):=by
 have hh:∀p,Pg z p->0<=p.1.head/\p.1.head<z.n.ak:=λp hp=>⟨(K.hn.2.2.2 _ hp.1).1,(K.hn.2.2.2 _ hp.1).2.1⟩;refine⟨λst p hp ho=>?_,λst p hp ho=>?_,λst p hp ho q hq hd=>?_,λst p hp ho=>?_⟩<;>unfold iS
 ·split
  ·exact hp
  ·rename_i hw;obtain⟨k,hk⟩:=WU ho;have hf:sb z st.cj p.2:=λx hx hi=>eA hi (yK hw x hx);refine⟨hp.1.GN C K hk ho.2 hf λ_ x x0 x1 fx=>?_,λx x0 x1=>?_⟩
   ·rw[hp.2 x x0 x1]at fx;cases fx
   ·unfold mR;rw[nQ];exact hp.2 x x0 x1
 ·split
  ·rename_i hw;intro hf;exfalso;obtain⟨x,hx,hi⟩:=Zct.1 hw;have xi:=qz K ho.1 ho.2 hx;have:=hf x hx (by simpa using hi);rw[G6,hp.2 x.1 xi.1 xi.2]at this;cases this
  ·rename_i hw;refine G7 K hp.1.wf ho.1 ho.2 (λx hx hi=>eA hi (yK hw x hx)) λhf=>?_;rw[hp.2 _ (hh p ho).1 (hh p ho).2]at hf;cases hf
 ·split
  ·exact hd
  ·exact yJ K hp.1.wf (hh p ho) hq.1 hq.2 hd
 ·split
  ·omega
  ·exact CX hp.1.wf (by have:=hh p ho;omega) _
def IV(z:fp)(st:dy):Prop:=KN z st/\∀q,Pg z q->CZ z st q
def adW(z:fp):List PR:=z.n.au.flatMap λr=>(cK z r).map λi=>(r,i)
def OJ{q:PR}:q∈adW z↔Pg z q:=by
 unfold adW Pg;constructor
 ·intro h;obtain⟨r,hr,h⟩:=Ll.1 h;obtain⟨i,hi,rfl⟩:=lq.1 h;exact⟨hr,hi⟩
 ·rintro⟨h1,h2⟩;exact Ll.2 ⟨q.1,h1,lq.2 ⟨q.2,h2,rfl⟩⟩
def adX(st:dy):CY z st=(adW z).foldl (λst p=>iS z p.1 st p.2) st:=rK (λst (p:PR)=>iS z p.1 st p.2) (cK z) _ _
def PI0(K:Kx z):PI z (gY z.n.ak.toNat):=⟨KN0 K,λx h0 h1=>iq (by omega)⟩
def af4(C:oE z.n z.l z.c z.fr.toNat z.to.toNat)(K:Kx z):IV z (CY z (gY z.n.ak.toNat))/\(CY z (gY z.n.ak.toNat)).s.bA<=(adW z).length:=by
 rw[adX];obtain⟨a1,a2,a3,a4⟩:=(WV C K).Nl (λ_ h=>h) (adW z) (λp hp=>OJ.1 hp) _ (PI0 K);exact⟨⟨a1.1,λq hq=>a2 q (OJ.2 hq)⟩,by simpa [gY]using a4⟩
def ul(h:WF z.n.ak.toNat st)(bZ:st.s.heap≠[]){y:Int}(h0:0<=y)(h1:y<z.n.ak):mR (qM st) y=if y=(st.s.e 0).x then true else mR st y:=by
 have x7:0<st.s.heap.length:=Xd.2 bZ;have a:=h.wV _ (fR.2 ⟨0,x7,rfl⟩);have e0:(st.s.e (0:Nat)).x=(st.s.e 0).x:=rfl;rw[e0]at a;unfold mR qM;simp only;rw[eV (by have:=h.lf;omega)];by_cases e:y=(st.s.e 0).x
 ·rw[cF (by omega),cF e]
 ·rw[aY (by omega),aY e]
def KN.pop(K:Kx z)(h:KN z st)(bZ:st.s.heap≠[]):KN z (qM st)/\(0<=(st.s.e 0).x/\(st.s.e 0).x<z.n.ak)/\mR st (st.s.e 0).x=false/\(∀y:Int,0<=y->y<z.n.ak->mR (qM st) y=true->¬(bv st.an (st.s.e 0).x).lt (bv st.an y)):=by
 have x7:0<st.s.heap.length:=Xd.2 bZ;obtain⟨a1,a2,a3,a4,a5⟩:=h.wf.wV _ (fR.2 ⟨0,x7,rfl⟩);have e0:(st.s.e (0:Nat)).x=(st.s.e 0).x:=rfl;rw[e0]at a1 a2 a3 a4;have hx:0<=(st.s.e 0).x/\(st.s.e 0).x<z.n.ak:=by omega
 have aag:∀y:Int,0<=y->y<z.n.ak->mR st y=false->¬(bv st.an y).lt (bv st.an (st.s.e 0).x):=by
  intro y y0 y1 fy;rcases ilt (st.fB.getD y.toNat 0)with h0|h0
  ·have hy:=(h.wf.old y.toNat (by omega) h0).2;have Zu:=h.wf.RU (st.s.e 0).x.toNat (by omega) (by omega);unfold bv;rw[hy];unfold dg.lt;simp only;omega
  ·obtain⟨e,he,hey⟩:=h.wf.Zq y.toNat (by omega) h0 fy;obtain⟨i,hi,rfl⟩:=fR.1 he;have:=yA h.wf.hp i hi;unfold ja at this;rw[show(st.s.e i).x=y by omega]at this;exact λef=>this (.inl ef)
 refine⟨⟨h.wf.pop bZ,λx y x0 x1 y0 y1 fx fy=>?_,λx x0 x1 ng=>?_,h.der⟩,hx,a3,λy y0 y1 fy=>?_⟩
 ·rw[ul h.wf bZ x0 x1]at fx;rw[ul h.wf bZ y0 y1]at fy;split at fy
  ·cases fy
  ·split at fx
   ·rename_i e;rw[e];exact aag y y0 y1 fy
   ·exact h.ord x y x0 x1 y0 y1 fx fy
 ·obtain⟨k,r,hk,hr,i,hi,hf,hc⟩:=h.att x x0 x1 ng;refine⟨k,r,hk,hr,i,hi,λw hw hwi=>?_,hc⟩;have hwb:=qz K (xN hk) hi hw;show mR (qM st) w.1=true;rw[ul h.wf bZ hwb.1 hwb.2];split
  ·rfl
  ·exact hf w hw hwi
 ·rw[ul h.wf bZ y0 y1]at fy;split at fy
  ·rename_i e;rw[e];unfold dg.lt;omega
  ·exact h.ord y _ y0 y1 hx.1 hx.2 fy a3
structure PS2(z:fp)(x:Int)(cj:List Bool)(st:dy):Prop where
 kn:KN z st
 cj:st.cj=cj
 mx:∀y:Int,0<=y->y<z.n.ak->mR st y=true->¬(bv st.an x).lt (bv st.an y)
 old:∀q,Pg z q->(∀w∈q.2.2.2,mZ z w->w.1≠x)->CZ z st q
def G9{i:gD}:(ph z cj i.2.2=false)↔sb z cj i:=by
 unfold ph sb;rw[ZcB];constructor
 ·intro h x hx hi;have:=h x hx;simp only[hi,decide_true,ZcY,Xp,Bool.not_eq_false]at this;exact this
 ·intro h x hx;by_cases hi:mZ z x
  ·have:=h x hx hi;rw[show(default:Bool)=false from rfl,this];simp
  ·simp[hi]
def adY(C:oE z.n z.l z.c z.fr.toNat z.to.toNat)(K:Kx z){x:Int}(hx:0<=x/\x<z.n.ak)(Zu:cj.getD x.toNat false=true):G8 z (PS2 z x cj) (Pg z) (λst p=>jq z p.1 st p.2):=by
 have hh:∀p,Pg z p->0<=p.1.head/\p.1.head<z.n.ak:=λp hp=>⟨(K.hn.2.2.2 _ hp.1).1,(K.hn.2.2.2 _ hp.1).2.1⟩;have two:∀(st:dy) (p:PR),PS2 z x cj st->Pg z p->sb z st.cj p.2->(∀y:Int,0<=y->y<z.n.ak->mR st y=true->¬(sc z st.an p.2).lt (bv st.an y))\/¬(sc z st.an p.2).lt (bv st.an p.1.head):=by
  intro st p hp ho hf;by_cases hq:∀w∈p.2.2.2,mZ z w->w.1≠x
  ·exact .inr (hp.old p ho hq hf)
  ·left;intro y y0 y1 fy;have⟨w,hw⟩:=Classical.not_forall.1 hq;obtain⟨Zh,hw⟩:=Classical.not_imp.1 hw;obtain⟨hw2,hw⟩:=Classical.not_imp.1 hw;have hw3:w.1=x:=Decidable.not_not.1 hw;have h1:=adU K hp.kn.wf.bo ho.1 ho.2 Zh hw2 (by have:=qz K ho.1 ho.2 Zh;exact hp.kn.wf.aln (by omega));rw[hw3]at h1;have h2:=hp.mx y y0 y1 fy;exact kc h2 h1
 refine⟨λst p hp ho=>?_,λst p hp ho=>?_,λst p hp ho q hq hd=>?_,λst p hp ho=>?_⟩<;>unfold jq
 ·split
  ·rename_i hw;have hf:=G9.1 hw.2;obtain⟨k,hk⟩:=WU ho;refine⟨hp.kn.GN C K hk ho.2 hf λef y y0 y1 fy=>?_,by rw[nQ];exact hp.cj,λy y0 y1 fy=>?_,λq hq Zm=>yJ K hp.kn.wf (hh p ho) hq.1 hq.2 (hp.old q hq Zm)⟩
   ·rcases two st p hp ho hf with h|h
    ·exact h y y0 y1 fy
    ·exact eA ef h
   ·unfold mR at fy;rw[nQ]at fy;have fx:mR st x=true:=by unfold mR;rw[hp.cj];exact Zu
    have fix:∀w:Int,0<=w->mR st w=true->bv (fU st p.1.head (sc z st.an p.2)).an w=bv st.an w:=λw w0 fw=>by
     rcases lO K hp.kn.wf (hh p ho) (v:=sc z st.an p.2) w0 with e|⟨rfl,_,h1,_⟩
     ·exact e
     ·rw[fw]at h1;cases h1
    rw[fix x hx.1 fx,fix y y0 fy];exact hp.mx y y0 y1 fy
  ·exact hp
 ·split
  ·rename_i hw;have hf:=G9.1 hw.2;refine G7 K hp.kn.wf ho.1 ho.2 hf λfh=>?_;rcases two st p hp ho hf with h|h
   ·exact h _ (hh p ho).1 (hh p ho).2 fh
   ·exact h
  ·rename_i hw;by_cases h1:fD z p.2.2.2=true
   ·intro hf;exact eA ⟨h1,G9.2 hf⟩ hw
   ·exact hp.old p ho λw hw hwi=>eA hwi (yK h1 w hw)
 ·split
  ·exact yJ K hp.kn.wf (hh p ho) hq.1 hq.2 hd
  ·exact hd
 ·split
  ·exact CX hp.kn.wf (by have:=hh p ho;omega) _
  ·omega
def af5(z:fp)(x:Int):List PR:=(z.n.au.filter λr=>decide (jT r x)).flatMap λr=>(eN z r).map λi=>(r,i)
def mJ{σ α:Type}(p:α->Prop) [DecidablePred p](f:σ->α->σ):∀(l:List α) (x:σ),l.foldl (λx a=>if p a then f x a else x) x=(l.filter λa=>decide (p a)).foldl f x
 |[],x=>rfl
 |a::l,x=>by
  rw[B6,mJ p f l];by_cases h:p a
  ·rw[cF h,List.filter_cons_of_pos (by simpa using h),B6]
  ·rw[aY h,List.filter_cons_of_neg (by simpa using h)]
def Ha(x:Int)(l:Dh)(st:dy):l.foldl (D8 z x) st=((l.filter λr=>decide (jT r x)).flatMap λr=>(eN z r).map λi=>(r,i)).foldl (λst (p:PR)=>jq z p.1 st p.2) st:=by
 have:=mJ (λr=>jT r x) (λst r=>(eN z r).foldl (jq z r) st) l st;show l.foldl (λst r=>if jT r x then(eN z r).foldl (jq z r) st else st) st=_;rw[this];exact rK (λst (p:PR)=>jq z p.1 st p.2) (eN z) _ _
def WX(K:Kx z){x:Int}{l:Dh}(hl:∀r∈l,r∈z.n.au):∀p∈(l.filter λr=>decide (jT r x)).flatMap λr=>(eN z r).map λi=>((r,i):PR),Pg z p:=by
 intro p hp;obtain⟨r,hr,h⟩:=Ll.1 hp;obtain⟨i,hi,rfl⟩:=lq.1 h;exact⟨hl r (Sv.1 hr).1,B0 K.ft.2 hi⟩
def adZ(C:oE z.n z.l z.c z.fr.toNat z.to.toNat)(K:Kx z)(h:IV z st)(bZ:st.s.heap≠[]):PS2 z (st.s.e 0).x (qM st).cj (qM st):=by
 obtain⟨k1,k2,k3,k4⟩:=h.1.pop K bZ;refine⟨k1,rfl,k4,λq hq Zm hf=>h.2 q hq λw hw hwi=>?_⟩;have hwb:=qz K hq.1 hq.2 hw;have:=hf w hw hwi;rw[G6,ul h.1.wf bZ hwb.1 hwb.2,aY (Zm w hw hwi)]at this;exact this
def B2(C:oE z.n z.l z.c z.fr.toNat z.to.toNat)(K:Kx z)(h:IV z st)(bZ:st.s.heap≠[]):IV z (pz z st)/\qn (pz z st)<qn st/\(pz z st).s.bA<=st.s.bA+(af5 z (st.s.e 0).x).length:=by
 have hP:=adZ C K h bZ;obtain⟨k1,k2,k3,k4⟩:=h.1.pop K bZ;have x7:0<st.s.heap.length:=Xd.2 bZ;have Zu:(qM st).cj.getD (st.s.e 0).x.toNat false=true:=by
  show mR (qM st) _=true;rw[ul h.1.wf bZ k2.1 k2.2,cF rfl]
 have aV:(qM st).s.bA=st.s.bA:=by
  have hs:mm (gk st.s) (fQ st.an st.s):=by unfold fQ;rw[aY bZ];exact l7 rfl
  exact hs.bA
 obtain⟨a1,a2,a3,a4⟩:=(adY C K k2 Zu).Nl (λ_ h=>h) (af5 z (st.s.e 0).x) (WX K λr h=>h) _ hP;have e:pz z st=(af5 z (st.s.e 0).x).foldl (λst p=>jq z p.1 st p.2) (qM st):=Ha _ _ _;rw[<-e]at a1 a2 a3 a4;refine⟨⟨a1.kn,λq hq=>?_⟩, ?_,by omega⟩
 ·by_cases Zm:∀w∈q.2.2.2,mZ z w->w.1≠(st.s.e 0).x
  ·exact a1.old q hq Zm
  ·have⟨w,hw⟩:=Classical.not_forall.1 Zm;obtain⟨Zh,hw⟩:=Classical.not_imp.1 hw;obtain⟨hw2,hw⟩:=Classical.not_imp.1 hw;have hw3:w.1=(st.s.e 0).x:=Decidable.not_not.1 hw;obtain⟨b1,b2⟩:=adT hq.2 Zh hw2;rw[hw3]at b2;exact a2 q (Ll.2 ⟨q.1,Sv.2 ⟨hq.1,by simpa using b2⟩,lq.2 ⟨q.2,b1,rfl⟩⟩)
 ·unfold qn;rw[a1.cj];have ef:(st.s.e 0).x.toNat<st.cj.length:=by rw[h.1.wf.lf];omega
  show(st.cj.set _ true).count false<_;have mF:st.cj[(st.s.e 0).x.toNat]=false:=by
   have:st.cj.getD (st.s.e 0).x.toNat false=false:=k3;rw[List.getD,xb ef]at this;exact this
  rw[List.count_set ef,mF];have:0<st.cj.count false:=ZcT.2 (mF▸SL ef);simp;omega
end
end
section
variable{f:bw}
def k1(A:bG)(O:bw)(v:DV)(O':bw):bG->bw->fV:=λargs ab=>⟨args=A/\ab=O,v,O'⟩
@[simp] def avB(A:bG)(O:bw)(v:DV)(O':bw)(args:bG)(ab:bw):k1 A O v O' args ab=⟨args=A/\ab=O,v,O'⟩:=rfl
def BK{f:Nat}{A:bG}{O:bw}{v:DV}{O':bw}{l:List (Nat×DM.Spec)}(h:ay aj (bB l))(hc:∀N,(∀r,N<=r->O r=none)->aQ aj f A O ⟨True,v,O'⟩)(hn:∀r,O r=none->O' r=none):
  ay aj (bB ((f,en (k1 A O v O'))::l)):=
 ay.ij h (by
  rintro args ab ⟨rfl,rfl⟩;exact⟨λN hN=>aQ.of (hc N hN) rfl rfl,hn⟩)
def sN{v:SV}{p:Nat}(h:v.at f p)(a:dy)(s:Qs):bO (cg f v a) v.k.q ((v.to a).qv p) s=cg f v ⟨a.an,a.cj,a.fB,s⟩:=by
 obtain⟨pa,pb,pc,vN,oG,vO,RF,q8,qi,q9,Ac,rj,Ad,RG,qj,pe,rn,Ae,ru,Af,RH,rC,pf,pg,Ag,rE,Ah,RI,Ai,uJ,uK,uL,yx,Re,nqa,rF,nv,nw,ny,wT,yy,RK,Aj,uM,uN,uO,Pe,wU,nma,RL,OA,OB,OC,naq,OD,nam⟩:=h.ne;funext k;simp only[bO,cg,SV.qv,aH,bL,sd,sZ,s8];by_cases h1:k=v.k.q
 ·subst h1;simp[uJ,uK,uL]
 ·by_cases h2:k=v.k.hp
  ·subst h2;simp[h1,nv,nw,ny]
  ·by_cases h3:k=v.k.m
   ·subst h3;simp[h1,h2,uM,uN,uO]
   ·simp[h1,h2,h3]
def Al(f:bw)(r:Nat)(o:Ob):cN f (some (r,o))=aO [(r,o)] f:=rfl
def qu{v:SV}{g:bw}{s:dy}(h1:g v.k.rb=some (sd s))(h2:g v.k.rf=some (sZ s))(h3:g v.k.rh=some (s8 s))(h4:g v.k.q=some (qB v.k.a v.k.hp v.k.m s.s))(h5:g v.k.hp=some (hB s.s))(h6:g v.k.m=some (mB s.s))
  (h7:∀k,k≠v.k.rb->k≠v.k.rf->k≠v.k.rh->k≠v.k.q->k≠v.k.hp->k≠v.k.m->g k=f k):g=cg f v s:=by
 funext k;simp only[cg,aH,bL];repeat' split
 all_goals first|(rename_i e;rw[e];assumption)|(apply h7<;>assumption)
def GK{v:SV}{p:Nat}(h:v.at f p)(s:dy)(B:b7):aO [(v.k.rb,.bE 0 63 2 (bH B))] (cg f v s)=cg f v ⟨B,s.cj,s.fB,s.s⟩:=by
 obtain⟨pa,pb,pc,vN,oG,vO,RF,q8,qi,q9,Ac,rj,Ad,RG,qj,pe,rn,Ae,ru,Af,RH,rC,pf,pg,Ag,rE,Ah,RI,Ai,uJ,uK,uL,yx,Re,nqa,rF,nv,nw,ny,wT,yy,RK,Aj,uM,uN,uO,Pe,wU,nma,RL,OA,OB,OC,naq,OD,nam⟩:=h.ne;refine qu ?_ ?_ ?_ ?_ ?_ ?_ λk a1 a2 a3 a4 a5 a6=>?_<;>simp[cg, *]<;>rfl
def KU{v:SV}{p:Nat}(h:v.at f p)(s:dy)(B:List Bool):aO [(v.k.rf,.bE 0 4 1 (iy B))] (cg f v s)=cg f v ⟨s.an,B,s.fB,s.s⟩:=by
 obtain⟨pa,pb,pc,vN,oG,vO,RF,q8,qi,q9,Ac,rj,Ad,RG,qj,pe,rn,Ae,ru,Af,RH,rC,pf,pg,Ag,rE,Ah,RI,Ai,uJ,uK,uL,yx,Re,nqa,rF,nv,nw,ny,wT,yy,RK,Aj,uM,uN,uO,Pe,wU,nma,RL,OA,OB,OC,naq,OD,nam⟩:=h.ne;refine qu ?_ ?_ ?_ ?_ ?_ ?_ λk a1 a2 a3 a4 a5 a6=>?_<;>simp[cg, *]<;>rfl
def KV{v:SV}{p:Nat}(h:v.at f p)(s:dy)(B:bU):aO [(v.k.rh,.bE 0 3 1 (aG B))] (cg f v s)=cg f v ⟨s.an,s.cj,B,s.s⟩:=by
 obtain⟨pa,pb,pc,vN,oG,vO,RF,q8,qi,q9,Ac,rj,Ad,RG,qj,pe,rn,Ae,ru,Af,RH,rC,pf,pg,Ag,rE,Ah,RI,Ai,uJ,uK,uL,yx,Re,nqa,rF,nv,nw,ny,wT,yy,RK,Aj,uM,uN,uO,Pe,wU,nma,RL,OA,OB,OC,naq,OD,nam⟩:=h.ne;refine qu ?_ ?_ ?_ ?_ ?_ ?_ λk a1 a2 a3 a4 a5 a6=>?_<;>simp[cg, *]<;>rfl
def Hb(a b c d N:Nat)(n:Nat):Nat:=if n=0 then a else if n=1 then b else if n=2 then c else if n=3 then d else N+n
def R5{a b c d N:Nat}(h1:a<N)(h2:b<N)(h3:c<N)(h4:d<N)(n1:a≠b)(n2:a≠c)(n3:a≠d)(n4:b≠c)(n5:b≠d)(n6:c≠d)(x y:Nat)(e:Hb a b c d N x=Hb a b c d N y):x=y:=by
 unfold Hb at e;repeat' split at e
 all_goals omega
def cM{l:bU}{y:Nat}(h:y<l.length):DM.rowAt (aG l) y=[ti (l.getD y default)]:=by simp[DM.rowAt,aG,h]
def t60{f0:bw}{p N:Nat}{h:Int}{x:dg}{v:SV}(hN:∀r,N<=r->f0 r=none)(hv:v.at f0 p)(ho:qZ v.s h x):
  aQ aj 88 [.ptr p 0,.v (ti h),.v (.agg [ti x.aI,ti x.size])] f0 ⟨True,.v (.eB []),cg f0 v (fU v.s h x)⟩:=by
 obtain⟨⟨PZ,Ji⟩,Zo,Ci,hxo,cU⟩:=ho;obtain⟨y,rfl⟩:=kK PZ;have hy:y<v.s.an.length:=by omega
 obtain⟨xc,xs⟩:=x;obtain⟨R,hR⟩:=be (fU v.s y ⟨xc,xs⟩);rw[hR];unfold fU at hR;have aC:=am4 (au2 (avd ay.nil));refine c60.qE hN (by simp) λaV=>?_;obtain⟨pa,pb,pc,vN,oG,vO,RF,q8,qi,q9,Ac,rj,Ad,RG,qj,pe,rn,Ae,ru,Af,RH,rC,pf,pg,Ag,rE,Ah,RI,Ai,uJ,uK,uL,yx,Re,nqa,rF,nv,nw,ny,wT,yy,RK,Aj,uM,uN,uO,Pe,wU,nma,RL,OA,OB,OC,naq,OD,nam⟩:=hv.ne;have h1:=hv.sp;have h2:=hv.rb;have h3:=hv.rf;have h4:=hv.rh;have nu:p<N:=(aV p _ h1).1;have Wz:v.k.rb<N:=(aV _ _ h2).1;have hfN:v.k.rf<N:=(aV _ _ h3).1;have hhN:v.k.rh<N:=(aV _ _ h4).1;have Pc:v.k.q<N:=(aV _ _ hv.q).1;have ave:v.k.hp<N:=(aV _ _ hv.hp).1;have CR:v.k.m<N:=(aV _ _ hv.m).1;simp only[mW,sd,sZ,s8]at h1 h2 h3 h4;have rr1:=dq hy;have rr2:=kb (show y<v.s.cj.length by omega);have rr3:=cM (show y<v.s.fB.length by omega);obtain⟨⟨bc,bs⟩,hbe⟩:=be (v.s.an.getD y default);obtain⟨fb,NP⟩:=be (v.s.cj.getD y false);obtain⟨hd,Vv⟩:=be (v.s.fB.getD y 0);rw[hbe]at rr1;rw[show(default:Bool)=false from rfl,NP]at rr2;rw[show(default:Int)=0 from rfl,Vv]at rr3;have KX:bv v.s.an y=⟨bc,bs⟩:=hbe;simp only[iP,NP,Vv,KX]at hR cU;have mf:y<v.s.cj.length:=by omega
 have fW:y<v.s.fB.length:=by omega
 simp;apply aa.ag aC fw [0,1,5];simp[MQ];refine aa.le (ml (l:=[(0,.ptr p 0),(1,.v (ti y)),(5,.v (.box [ti xc,ti xs]))]) (aZ:=N+500) aV (by omega) (by simp;omega) ?_) ?_
 ·have np:∀k,p≠N+k:=λk=>by omega
  simp[ed,hv.sp];exact bY (l:=[]) aV (by omega) (by simp)
 apply aa.seq;obtain⟨c1,b8⟩:=be (decide (fb=true\/xc>=1099511627776\/¬(⟨xc,xs⟩:dg).lt ⟨bc,bs⟩):Bool);refine aa.cH aC fw [(0,.ptr p 0),(1,.v (ti y)),(5,.v (.box [ti xc,ti xs])),(29,.v (.bool c1))] ?_ ?_
 ·cases fb with
  |true=>
   have:c1=true:=by rw[<-b8];simp
   simp[CL,h1,h3,mf,rr2,this]
  |false=>
   by_cases q2:xc>=1099511627776
   ·have:c1=true:=by rw[<-b8];simp[q2]
    simp[CL,h1,h3,mf,rr2,q2,this]
   ·by_cases q3:(⟨xc,xs⟩:dg).lt ⟨bc,bs⟩
    ·have:c1=false:=by rw[<-b8];simp[q2,q3]
     simp[CL,h1,h2,h3,hy,mf,rr1,rr2,q2,q3,this]
    ·have:c1=true:=by rw[<-b8];simp[q3]
     simp[CL,h1,h2,h3,hy,mf,rr1,rr2,q2,q3,this]
 refine aa.cond rfl (λg=>?_) (λg=>?_)
 ·have g:c1=true:=by simpa using g
  subst g;rw[cF (qW b8)]at hR;rw[<-hR,eS hv];apply aa.ret;simp[x9];rfl
 ·have g:c1=false:=by simpa using g
  subst g;have hc:=wS b8;rw[aY hc]at hR;have cU:=cU hc;apply aa.skip;simp;obtain⟨B,hB⟩:=be (v.s.an.set y ⟨xc,xs⟩);have hBT:bH B=(bH v.s.an).set y [ti xc,ti xs]:=by rw[<-hB];simp[bH,Zcs]
  rw[hB]at hR cU;have jH:∀w,DM.rowAt ((bH v.s.an).set y w) (y:Int)=w:=λw=>by simp[DM.rowAt,hy]
  apply aa.ag aC fw [0,1];simp[MR,h1,h2,hy,rr1];have e1:=GK hv v.s B;rw[eS hv,hBT]at e1;rw[e1];have nU:=lA hv ⟨B,v.s.cj,v.s.fB,v.s.s⟩;obtain⟨G,hG⟩:=be (cg f0 v ⟨B,v.s.cj,v.s.fB,v.s.s⟩);have j1:=nU.sp;have j4:=nU.rh;have YN:=λa b=>anw (hd:=a) (x:=b) nU.qv;have YO:=λa=>anQ (x:=a) nU.qv;have eq:=λs=>sN hv ⟨B,v.s.cj,v.s.fB,v.s.s⟩ s;rw[hG]at j1 j4 YN YO eq⊢;simp only[mW,s8,SV.qv]at j1 j4 YN YO eq;apply aa.ag aC fw [0,1,44];simp[MS,j1,j4,fW,rr3];refine aa.cond rfl (λg=>?_) (λg=>?_)
  ·have g:0<=hd:=by simpa using g
   rw[cF g]at hR cU;refine aa.qa aC fw (rs:=fg abG []) (.inr ⟨_,rfl⟩) (by kernel_rfl) [] ?_;simp[abG,fg,j1,j4,fW,rr3,YN,cU,eq,x9,hR]
  ·have g:¬0<=hd:=by simpa using g
   rw[aY g]at hR cU;have hkn:∀s',H2 [v.k.q,v.k.hp,v.k.m] G (cg f0 v ⟨B,v.s.cj,v.s.fB,s'⟩):=by
    intro s' n hn;simp only[fN,g9,wh,Zc6]at hn;rw[<-eq s'];simp[bO,hn]
   obtain⟨S',hS'⟩:=be (ip B v.s.s y);rw[hS']at hR;have e2:=KV hv ⟨B,v.s.cj,v.s.fB,S'⟩ (v.s.fB.set y v.s.s.next);have hHT:aG (v.s.fB.set y v.s.s.next)=(aG v.s.fB).set y [ti v.s.s.next]:=by simp[aG,Zcs]
   rw[hHT]at e2;have hv3:=(lA hv ⟨B,v.s.cj,v.s.fB,S'⟩).rh;simp only[s8]at hv3;refine aa.qa aC fw (rs:=db (Hb p v.k.q v.k.hp v.k.m N) (fg abH [none,none,none,some [0],none,none,none,none,none,none,some [1,2,3],none,none])) (.inr ⟨_,rfl⟩) ((d8 (R5 nu Pc ave CR vN oG vO yx Re yy) _ _ _).trans (by kernel_rfl)) [] ?_;simp[abH,fg,db,fG,Hb,cX,bN,aP,j1,fW,rr3,YO,cU,eq,x9,hS',hkn,hv3,Al,e2,hR]
end
section
variable{fn:Nat}{ch:bG}
def kN(l:List It):DV:=if l=[]then .aX else .v (.sl (mY l))
def Hc(D:DV)(r:dv):Prop:=nS D/\cellsOf D=[.v (ti r.kind),.v (ti r.head),.v (ti r.a),.v (ti r.b),.v (ti r.cA),.v (ti r.origin)]
def R6(r:dv):Hc (.agg [.v (ti r.kind),.v (ti r.head),.v (ti r.a),.v (ti r.b),.v (ti r.cA),.v (ti r.origin)]) r:=⟨trivial,rfl⟩
def anR(r:dv):Hc (.v (.agg r.enc)) r:=⟨trivial,rfl⟩
structure AF(fn:Nat)(ch:bG)(L:List gD)(F:Nat->bw)(B:Nat->Bool)(m:Nat):Prop where
 call:∀j i,L[j]? =some i->j<m->∀N,(∀r,N<=r->F j r=none)->aQ aj fn ([.v (ti i.1),.v (ti i.2.1),kN i.2.2]++ch) (F j) ⟨True,.v (.bool (B j)),F (j+1)⟩
 none:∀j r,j<m->F j r=none->F (j+1) r=none
 go:∀j,j+1<m->B j=true
 stop:m=L.length\/(0<m/\m<=L.length/\B (m-1)=false)
def AF.le{L:List gD}{F:Nat->bw}{B:Nat->Bool}{m:Nat}(h:AF fn ch L F B m):m<=L.length:=by
 rcases h.stop with h|h<;>omega
def AF.next{L:List gD}{F:Nat->bw}{B:Nat->Bool}{m j:Nat}(h:AF fn ch L F B m)(hb:∀k,k<j->B k=true)(hj:j<L.length):j<m:=by
 rcases h.stop with h1|⟨h1,h2,h3⟩
 ·omega
 ·rcases Zds j m with h4|h4
  ·exact h4
  ·have:=hb (m-1) (by omega);rw[h3]at this;cases this
def AF.end{L:List gD}{F:Nat->bw}{B:Nat->Bool}{m j:Nat}(h:AF fn ch L F B m)(hj:j<m)(hb:B j=false):m=j+1:=by
 rcases Zds (j+1) m with h1|h1
 ·have:=h.go j h1;rw[hb]at this;cases this
 ·omega
def AF.env{L:List gD}{F:Nat->bw}{B:Nat->Bool}{m j:Nat}{i:gD}(h:AF fn ch L F B m)(hi:L[j]? =some i)(hj:j<m):
  ay aj (bB [(fn,en (k1 ([.v (ti i.1),.v (ti i.2.1),kN i.2.2]++ch) (F j) (.v (.bool (B j))) (F (j+1))))]):=
 BK ay.nil (λN hN=>h.call j i hi hj N hN) (λr hr=>h.none j r hj hr)
structure af9(z:fp)(p N:Nat)(k:Pf)(F:Nat->bw)(m:Nat):Prop where
 xx:∀j,j<=m->∃s:dy,(⟨k,z,s⟩:SV).at (F j) p
 cl:∀j,j<=m->df (F j) N
def af9.sp{z:fp}{p N m j:Nat}{k:Pf}{F:Nat->bw}(h:af9 z p N k F m)(hj:j<=m):F j p=some (.box (mW k z)):=by
 obtain⟨s,hs⟩:=h.xx j hj;exact hs.sp
end
section
variable{z:fp}{r:dv}{fn:Nat}{ch:bG}
def atb(h:r.kind=1):cK z r=if z.fr=z.to then [(z.fr,r.cA,[])]else []:=by unfold cK;rw[cF h]
def atc(h:r.kind=2):cK z r=(List.range' (jL z) (uW z-jL z)).filterMap (uU z r):=by unfold cK;rw[aY (by omega),cF h]
def atd(h:r.kind=3):cK z r=[(z.fr,r.cA,[(r.a,z.fr,z.to)])]:=by unfold cK;rw[aY (by omega),aY (by omega),cF h]
def ate(h:r.kind=4):cK z r=(List.range ((z.to-z.fr).toNat+1)).map λ(d:Nat)=>qy z r (z.fr+(d:Int)):=by unfold cK;rw[aY (by omega),aY (by omega),aY (by omega),cF h]
def atf(h:r.kind≠1/\r.kind≠2/\r.kind≠3/\r.kind≠4):cK z r=[]:=by unfold cK;rw[aY h.1,aY h.2.1,aY h.2.2.1,aY h.2.2.2]
def yL(z:fp)(r:dv)(i:Nat):Nat:=((List.range' (jL z) (i-jL z)).filterMap (uU z r)).length
def Lh(z:fp)(r:dv):yL z r (jL z)=0:=by simp[yL]
def ON(s n:Nat):List.range' s (n+1)=List.range' s n++[s+n]:=by
 rw[List.range'_concat];simp
def Y0{i:Nat}(h:jL z<=i):yL z r (i+1)=yL z r i+(if(z.l.bJ.getD i default).term=r.a then 1 else 0):=by
 unfold yL;rw[show i+1-jL z=(i-jL z)+1 by omega,ON,List.filterMap_append,Eu,show jL z+(i-jL z)=i by omega];by_cases e:(z.l.bJ.getD i default).term=r.a
 ·have:uU z r i=some ((i:Int),r.cA+(z.l.bJ.getD i default).aI,[]):=cF e;rw[Zdc,this,cF e];rfl
 ·have:uU z r i=none:=aY e;rw[Zdc,this,aY e];rfl
def ad3{i:Nat}(h:jL z<=i)(hi:i<uW z)(e:(z.l.bJ.getD i default).term=r.a):
  ((List.range' (jL z) (uW z-jL z)).filterMap (uU z r))[yL z r i]? =some ((i:Int),r.cA+(z.l.bJ.getD i default).aI,[]):=by
 have h1:List.range' (jL z) (uW z-jL z)=List.range' (jL z) (i-jL z)++i::List.range' (i+1) (uW z-(i+1)):=by
  rw[show uW z-jL z=(i-jL z)+(1+(uW z-(i+1)))by omega,<-List.range'_append_1,<-List.range'_append_1,show jL z+(i-jL z)=i by omega];rfl
 rw[h1,List.filterMap_append];unfold yL;have:uU z r i=some ((i:Int),r.cA+(z.l.bJ.getD i default).aI,[]):=cF e;rw[Zbj (fq _),ZcF,Zdc,this];rfl
def aga(z:fp)(r:dv):yL z r (uW z)=((List.range' (jL z) (uW z-jL z)).filterMap (uU z r)).length:=rfl
def AF.one{L:List gD}{F:Nat->bw}{B:Nat->Bool}{m:Nat}(h:AF fn ch L F B m)(hL:L.length=1):m=1:=by
 have h1:=h.next (j:=0) (λ_ h=>eA h (Nat.not_lt_zero _)) (by omega);have:=h.le;omega
def AF.atg{L:List gD}{F:Nat->bw}{B:Nat->Bool}{m j:Nat}(h:AF fn ch L F B m)(hj:j=L.length)(hb:∀k,k<j->B k=true):m=j:=by
 rcases h.stop with h1|⟨h1,h2,h3⟩
 ·omega
 ·have:=hb (m-1) (by omega);rw[h3]at this;cases this
def mT(l:cQ):bG:=l.map λx=>.ptr x 0
def Hd(l:cQ)(f:bw):Prop:=∀x∈l,∃cs,f x=some (.box cs)
def wM{f g:bw}:∀{l:cQ},Hd l f->Hd l g->iF f g id (mT l) (mT l)
 |[],_,_=>rfl
 |x::l,h,k=>by
  obtain⟨cs,hc⟩:=h x (by simp);obtain⟨w7,Ze⟩:=k x (by simp);refine⟨?_,wM (λy hy=>h y (by simp[hy])) (λy hy=>k y (by simp[hy]))⟩;simp[Ze]
def t57{p N m:Nat}{ch:cQ}{F:Nat->bw}{B:Nat->Bool}{k:Pf}(hs:af9 z p N k F m)(hf:AF fn (mT ch) (cK z r) F B m)
  (hm:mono z) (Zx:z.l.bJ.length<=1000000000) (wR:0<=z.fr/\z.fr<=z.to/\z.to<=1000) (hp:0<=r.cA/\r.cA<=1000) (hac:∀a∈z.l.bJ,0<=a.aI/\a.aI<=1099511627776) (hcp:Hd ch (F 0)) {D:DV} (hD:Hc D r):
  aQ aj 85 [.ptr p 0,D,.oP (.func fn) (mT ch)] (F 0) ⟨True,.v (.eB []),F m⟩:=by
 have hN0:∀{j},j<=m->∀r,N<=r->F j r=none:=λ{j} hj r hr=>by
  cases h:F j r with
  |none=>rfl
  |some o=>have:=(hs.cl j hj r o h).1;omega
 have spj:=λ{j} (hj:j<=m)=>hs.sp (j:=j) hj;simp only[mW]at spj;have sp0:=spj (Sk m);have nu:p<N:=(hs.cl 0 (Sk m) p _ sp0).1;have np:∀k,p≠N+k:=λk=>by omega
 obtain⟨C,hC⟩:=be (mT ch);have cU:iF (aO [] (F 0)) (aO [] (F 0)) id C C:=by rw[<-hC];exact wM hcp hcp
 obtain⟨rk,rh,ra,rb,rp,ro⟩:=r;obtain⟨RR,AM⟩:=be ((⟨rk,rh,ra,rb,rp,ro⟩:dv):dv);have hRa:RR.a=ra:=by rw[<-AM]
 have hRb:RR.b=rb:=by rw[<-AM]
 have hRp:RR.cA=rp:=by rw[<-AM]
 have hRk:RR.kind=rk:=by rw[<-AM]
 rw[AM,hC]at hf;simp only at hp;refine c57.qE (hN0 (Sk m)) (by simp) λaV=>?_;obtain⟨hD1,hD2⟩:=hD;simp[hC];apply aa.ag cL fw [0,2,4];simp[aiL,hD1,hD2,-nS,-cellsOf];have anS:iF (aO [(N+5,.box [.v (ti rk),.v (ti rh),.v (ti ra),.v (ti rb),.v (ti rp),.v (ti ro)])] (F 0)) (aO [] (F 0)) id C C:=by
  rw[<-hC];refine wM (λx hx=>?_) hcp;obtain⟨cs,hc⟩:=hcp x hx;have:=(aV x _ hc).1;exact⟨cs,by simp[hc];omega⟩
 refine aa.le (ml (l:=[(0,.ptr p 0),(2,.oP (.func fn) C),(4,.v (.box [ti rk,ti rh,ti ra,ti rb,ti rp,ti ro]))]) (aZ:=N+500) aV (by omega) (by simp;omega) ?_) ?_
 ·simp[ed,sp0,fK,iY,anS];exact bY (l:=[]) aV (by omega) (by simp)
 show aa _ _ _ _ ⟨_,F 0,_,_,_⟩;apply aa.ag cL fw [0,2,4,11];simp[aiM];apply aa.block;apply aa.ag cL fw [0,2,4,11,12];simp[aiN];refine aa.cond rfl (λg=>?_) (λg=>?_)
 ·have g:rk=1:=by simpa using g
  rw[atb (by omega)]at hf;apply aa.ag cL fw [0,2,4,22];simp[aiO,sp0];refine aa.cond rfl (λg2=>?_) (λg2=>?_)
  ·have g2:z.fr=z.to:=by simpa using g2
   rw[cF g2]at hf;have O4:=hf.one rfl;have aC:=hf.env (j:=0) (i:=(z.fr,RR.cA,[])) rfl (by omega);apply aa.fA aC fw [];simp[aiP,sp0,kN,hRp,tQ,O4]
  ·have g2:¬z.fr=z.to:=by simpa using g2
   rw[aY g2]at hf;have hm0:m=0:=by have:=hf.le;simpa using this
   apply aa.skip;simp[tQ,hm0]
 have g1:rk≠1:=by simpa using g
 apply aa.ag cL fw [0,2,4,11,31];simp[aiQ];refine aa.cond rfl (λg=>?_) (λg=>?_)
 ·have g:rk=2:=by simpa using g
  rw[atc (by omega)]at hf;obtain⟨s0,hv0⟩:=hs.xx 0 (Sk m);have k80:=anL hv0;have hih:=xD z;apply aa.cY (avb ay.nil) fw (rs:=Qv) rfl (by kernel_rfl) [0,2,4,6,7];simp[Qv,k80,hm,Zx];apply aa.ag cL fw [0,2,4,7,8];simp[aiR];have e0:F 0=F (yL z RR (jL z)):=by rw[Lh]
  apply aa.block;refine aa.loop (λi:Nat=>⟨DM.look [(0,.ptr p 0),(2,.oP (.func fn) C),(4,.v (.box [ti rk,ti rh,ti ra,ti rb,ti rp,ti ro])),(7,.v (ti (uW z))),(8,.v (ti i))],F (yL z RR i),N+1000,N,[]⟩)
   (λi=>jL z<=i/\i<=uW z/\yL z RR i<=m/\∀q,q<yL z RR i->B q=true) (λi=>uW z-i) (jL z) (by rw[<-e0];exact Le.same (λr hr=>hN0 (Sk m) r (by omega)) (by simp[fk])) ⟨fq _,hih.1,by rw[Lh];omega,by rw[Lh];intro q hq;omega⟩ (λi hi=>?_)
  obtain⟨i1,i2,i3,i4⟩:=hi;have spi:=spj i3;apply aa.sq cL fw [0,2,4,7,8,41];simp[aiS];refine aa.cond rfl (λg=>?_) (λg=>?_)
  ·have g:i<uW z:=by simpa using g
   have Bj:i<z.l.bJ.length:=by omega
   have rr:=yg Bj;have vE:=hac _ (bq Bj);have oT:=Y0 (z:=z) (r:=RR) (i:=i) i1;have hcg:=ad3 (z:=z) (r:=RR) (i:=i) i1 g;have O9:=aga z RR;obtain⟨⟨af,xx,ae,ac,ao⟩,hx⟩:=be (z.l.bJ.getD i default);rw[hx]at rr vE oT hcg;simp only[cE.enc]at rr;simp only[hRa,hRp]at vE oT hcg;have w1:IntKind.i64.wrap (rp+ac)=rp+ac:=aF (by omega);have w2:IntKind.i64.wrap ((i:Int)+1)=((i+1:Nat):Int):=by rw[aF (by omega)];omega
   apply aa.skip;simp;apply aa.seq;apply aa.block;by_cases e:ae=ra
   ·rw[cF e]at oT;have mF:=hcg e;have hjm:=hf.next i4 (C7.1 mF).1;have aC:=hf.env mF hjm;obtain⟨b,hb⟩:=be (B (yL z RR i));rw[hb]at aC;apply aa.ag aC fw [0,2,4,7,8,73];simp[abT,spi,Bj,rr,e,kN,w1];refine aa.cond rfl (λg2=>?_) (λg2=>?_)
    ·have g2:b=false:=by simpa using g2
     rw[g2]at hb;have hme:=hf.end hjm hb;apply aa.ret;simp[tQ,hme]
    ·have g2:b=true:=by simpa using g2
     rw[g2]at hb;apply aa.skip;simp;apply aa.fA cL fw [0,2,4,7,8];simp[Qw,w2];refine⟨i+1,by rw[oT];exact Le.same (λr hr=>hN0 hjm r (by omega)) (by simp[fk]),⟨by omega,by omega,by omega,λq hq=>?_⟩,by omega⟩;by_cases hqe:q=yL z RR i
     ·rw[hqe];exact hb
     ·exact i4 q (by omega)
   ·rw[aY e]at oT;apply aa.ag cL fw [0,2,4,7,8,73];simp[abT,spi,Bj,rr,e];refine aa.cond rfl (λg2=>by cases g2) (λg2=>?_);apply aa.skip;simp;apply aa.fA cL fw [0,2,4,7,8];simp[Qw,w2];exact⟨i+1,by rw[oT];exact Le.same (λr hr=>hN0 i3 r (by omega)) (by simp[fk]),⟨by omega,by omega,by omega,λq hq=>i4 q (by omega)⟩,by omega⟩
  ·have g:¬i<uW z:=by simpa using g
   have hie:i=uW z:=by omega
   have hme:=hf.atg (j:=yL z RR i) (by rw[hie];rfl) i4;apply aa.exit;simp[tQ,hme]
 have g2:rk≠2:=by simpa using g
 apply aa.ag cL fw [0,2,4,11,74];simp[abU];refine aa.cond rfl (λg=>?_) (λg=>?_)
 ·have g:rk=3:=by simpa using g
  rw[atd (by omega)]at hf;have O4:=hf.one rfl;have aC:=hf.env (j:=0) (i:=(z.fr,RR.cA,[(RR.a,z.fr,z.to)])) rfl (by omega);have O9:gn 3 1 [ti ra,ti z.fr,ti z.to]=[[ti ra,ti z.fr,ti z.to]]:=rfl;apply aa.fA aC fw [];simp[abV,sp0,kN,hRp,hRa,tQ,O4,O9,mY,itT]
 have g3:rk≠3:=by simpa using g
 apply aa.ag cL fw [0,2,4,11,96];simp[abW];refine aa.cond rfl (λg=>?_) (λg=>?_)
 ·have g:rk=4:=by simpa using g
  rw[ate (by omega)]at hf;have Zv:((List.range ((z.to-z.fr).toNat+1)).map λ(d:Nat)=>qy z RR (z.fr+(d:Int))).length=(z.to-z.fr).toNat+1:=by simp
  apply aa.ag cL fw [0,2,4,9];simp[abX,sp0];apply aa.block;refine aa.loop (λd:Nat=>⟨DM.look [(0,.ptr p 0),(2,.oP (.func fn) C),(4,.v (.box [ti rk,ti rh,ti ra,ti rb,ti rp,ti ro])),(9,.v (ti (z.fr+(d:Int))))],F d,N+1000,N,[]⟩)
   (λd=>z.fr+(d:Int)<=z.to+1/\d<=m/\∀q,q<d->B q=true) (λd=>((z.to-z.fr).toNat+1)-d) 0 (Le.same (λr hr=>hN0 (Sk m) r (by omega)) (by simp[fk])) ⟨by omega,by omega,by intro q hq;omega⟩ (λd hd=>?_)
  obtain⟨d1,d2,d3⟩:=hd;have spd:=spj d2;apply aa.sq cL fw [0,2,4,9,107];simp[abY,spd];refine aa.cond rfl (λg=>?_) (λg=>?_)
  ·have g:z.fr+(d:Int)<=z.to:=by simpa using g
   have fB:d<(z.to-z.fr).toNat+1:=by omega
   have hjm:=hf.next d3 (by rw[Zv];exact fB);have mF:((List.range ((z.to-z.fr).toNat+1)).map λ(d:Nat)=>qy z RR (z.fr+(d:Int)))[d]? =some (qy z RR (z.fr+(d:Int))):=by simp[fB]
   have aC:=hf.env mF hjm;obtain⟨b,hb⟩:=be (B d);rw[hb]at aC;have O9:gn 3 2 [ti ra,ti z.fr,ti (z.fr+(d:Int)),ti rb,ti (z.fr+(d:Int)),ti z.to]=[[ti ra,ti z.fr,ti (z.fr+(d:Int))],[ti rb,ti (z.fr+(d:Int)),ti z.to]]:=rfl;have w2:IntKind.i64.wrap (z.fr+(d:Int)+1)=z.fr+((d+1:Nat):Int):=by rw[aF (by omega)];omega
   apply aa.skip;simp;apply aa.seq;apply aa.block;apply aa.ag aC fw [0,2,4,9,132];simp[abZ,spd,kN,qy,hRp,hRa,hRb,O9,mY,itT];refine aa.cond rfl (λg2=>?_) (λg2=>?_)
   ·have g2:b=false:=by simpa using g2
    rw[g2]at hb;have hme:=hf.end hjm hb;apply aa.ret;simp[tQ,hme]
   ·have g2:b=true:=by simpa using g2
    rw[g2]at hb;apply aa.skip;simp;apply aa.fA cL fw [0,2,4,9];simp[ab0,w2];refine⟨d+1,Le.same (λr hr=>hN0 hjm r (by omega)) (by simp[fk]),⟨by omega,by omega,λq hq=>?_⟩,by omega⟩;by_cases hqe:q=d
    ·rw[hqe];exact hb
    ·exact d3 q (by omega)
  ·have g:¬z.fr+(d:Int)<=z.to:=by simpa using g
   have hme:=hf.atg (j:=d) (by rw[Zv];omega) d3;apply aa.exit;simp[tQ,hme]
 ·have g4:rk≠4:=by simpa using g
  rw[atf (by rw[hRk];exact⟨g1,g2,g3,g4⟩)]at hf;have hm0:m=0:=by have:=hf.le;simpa using this
  apply aa.skip;simp[tQ,hm0]
end
section
variable{z:fp}{r:dv}
def anT(h:r.kind=4):eN z r=[qy z r z.fr,qy z r z.to]:=by unfold eN;rw[cF h]
def anU(h:r.kind≠4):eN z r=cK z r:=by unfold eN;rw[aY h]
def t87{fn p N m:Nat}{ch:cQ}{F:Nat->bw}{k:Pf}(hs:af9 z p N k F m)(hf:AF fn (mT ch) (eN z r) F (λ_=>true) m)(hml:m=(eN z r).length)
  (hm:mono z) (Zx:z.l.bJ.length<=1000000000) (wR:0<=z.fr/\z.fr<=z.to/\z.to<=1000) (hp:0<=r.cA/\r.cA<=1000) (hac:∀a∈z.l.bJ,0<=a.aI/\a.aI<=1099511627776) (hcp:Hd ch (F 0)) {D:DV} (hD:Hc D r):
  aQ aj 126 [.ptr p 0,D,.oP (.func fn) (mT ch)] (F 0) ⟨True,.v (.eB []),F m⟩:=by
 have hN0:∀{j},j<=m->∀r,N<=r->F j r=none:=λ{j} hj r hr=>by
  cases h:F j r with
  |none=>rfl
  |some o=>have:=(hs.cl j hj r o h).1;omega
 have spj:=λ{j} (hj:j<=m)=>hs.sp (j:=j) hj;simp only[mW]at spj;have sp0:=spj (Sk m);have nu:p<N:=(hs.cl 0 (Sk m) p _ sp0).1;have np:∀k,p≠N+k:=λk=>by omega
 have mE:∀r,F 0 r=none->F m r=none:=by
  have:∀j,j<=m->∀r,F 0 r=none->F j r=none:=by
   intro j;induction j with
   |zero=>intro _ r h;exact h
   |succ j ih=>intro hj r h;exact hf.none j r (by omega) (ih (by omega) r h)
  exact this m (fq m)
 have R7:r.kind≠4->∀N',(∀r,N'<=r->F 0 r=none)->aQ aj 85 [.ptr p 0,.v (.agg r.enc),.oP (.func fn) (mT ch)] (F 0) ⟨True,.v (.eB []),F m⟩:=λhk N' _=>by
  rw[anU hk]at hf;exact t57 hs hf hm Zx wR hp hac hcp (anR r)
 obtain⟨C,hC⟩:=be (mT ch);obtain⟨rk,rh,ra,rb,rp,ro⟩:=r;obtain⟨RR,AM⟩:=be ((⟨rk,rh,ra,rb,rp,ro⟩:dv):dv);have hRa:RR.a=ra:=by rw[<-AM]
 have hRb:RR.b=rb:=by rw[<-AM]
 have hRp:RR.cA=rp:=by rw[<-AM]
 have hRk:RR.kind=rk:=by rw[<-AM]
 rw[hC]at R7;simp only[dv.enc]at R7;rw[AM,hC]at hf;rw[AM]at hml;refine c87.qE (hN0 (Sk m)) (by simp) λaV=>?_;obtain⟨hD1,hD2⟩:=hD;simp[hC];apply aa.ag cL fw [0,2,4];simp[aiT,hD1,hD2,-nS,-cellsOf];have anS:iF (aO [(N+5,.box [.v (ti rk),.v (ti rh),.v (ti ra),.v (ti rb),.v (ti rp),.v (ti ro)])] (F 0)) (aO [] (F 0)) id C C:=by
  rw[<-hC];refine wM (λx hx=>?_) hcp;obtain⟨cs,hc⟩:=hcp x hx;have:=(aV x _ hc).1;exact⟨cs,by simp[hc];omega⟩
 refine aa.le (ml (l:=[(0,.ptr p 0),(2,.oP (.func fn) C),(4,.v (.box [ti rk,ti rh,ti ra,ti rb,ti rp,ti ro]))]) (aZ:=N+500) aV (by omega) (by simp;omega) ?_) ?_
 ·simp[ed,sp0,fK,iY,anS];exact bY (l:=[]) aV (by omega) (by simp)
 show aa _ _ _ _ ⟨_,F 0,_,_,_⟩;apply aa.sq cL fw [0,2,4,10];simp[aiU];refine aa.cond rfl (λg=>?_) (λg=>?_)
 ·have g:rk≠4:=by simpa using g
  have aC:=BK (ay.nil) (R7 g) mE;apply aa.cY aC fw (rs:=Qx) rfl (by kernel_rfl) [];simp[Qx];apply aa.ret;simp[Qy]
 ·have g:rk=4:=by simpa using g
  rw[anT (by omega)]at hf hml;simp only[w9,Zcz]at hml;apply aa.skip;simp;have O9:gn 1 2 [ti z.fr,ti z.to]=[[ti z.fr],[ti z.to]]:=rfl;apply aa.ag cL fw [0,2,4,23,24,25];simp[aiV,sp0,O9];apply aa.block;refine aa.loop (λj:Nat=>⟨DM.look [(0,.ptr p 0),(2,.oP (.func fn) C),(4,.v (.box [ti rk,ti rh,ti ra,ti rb,ti rp,ti ro])),(23,.v (.sl [[ti z.fr],[ti z.to]])),(24,.v (ti 2)),(25,.v (ti j))],F j,N+1000,N,[]⟩)
   (λj=>j<=2) (λj=>2-j) 0 (Le.same (λr hr=>hN0 (Sk m) r (by omega)) (by simp[fk])) (by omega) (λj hj=>?_)
  have spd:=spj (show j<=m by omega);apply aa.ag cL fw [0,2,4,23,24,25,26];simp[aiW];apply aa.seq;refine aa.cond rfl (λg=>?_) (λg=>?_)
  ·have gi:(j:Int)<2:=by simpa using g
   have g:j<2:=by omega
   obtain⟨x,hx⟩:=be ((if j=0 then z.fr else z.to));have jH:DM.rowAt [[ti z.fr],[ti z.to]] (j:Int)=[ti x]:=by
    rw[<-hx];rcases(show j=0\/j=1 by omega)with rfl|rfl<;>rfl
   have mF:[qy z RR z.fr,qy z RR z.to][j]? =some (qy z RR x):=by
    rw[<-hx];rcases(show j=0\/j=1 by omega)with rfl|rfl<;>rfl
   have aC:=hf.env mF (by omega);have O9:gn 3 2 [ti ra,ti z.fr,ti x,ti rb,ti x,ti z.to]=[[ti ra,ti z.fr,ti x],[ti rb,ti x,ti z.to]]:=rfl;have w2:IntKind.i64.wrap ((j:Int)+1)=((j+1:Nat):Int):=by rw[aF (by omega)];omega
   apply aa.skip;simp;apply aa.seq;apply aa.block;apply aa.ag cL fw [0,2,4,7,23,24,25];simp[aiX,jH,gi];apply aa.fA aC fw [0,2,4,23,24,25];simp[aiY,spd,kN,qy,hRp,hRa,hRb,O9,mY,itT];apply aa.fA cL fw [0,2,4,23,24,25];simp[aiZ,w2];exact⟨j+1,Le.same (λr hr=>hN0 (show j+1<=m by omega) r (by omega)) (by simp[fk]),by omega,by omega⟩
  ·have gi:(2:Int)<=j:=by simpa using g
   have hme:m=j:=by omega
   apply aa.exit;simp[Qy,hme]
end
section
variable{f:bw}{sB rB:Nat}{r:dv}
def yM(l:List It):aP (kN l)=[]:=by unfold kN;split<;>simp[aP]
def alp{v:SV}{p:Nat}{l:List It}(hv:v.at f p):k59 [.ptr p 0,kN l] f=⟨l.length<=1000,.v (.bool (fD v.z l)),f⟩:=by
 unfold kN;split
 ·rename_i e;subst e;rw[afW hv];simp[fD]
 ·exact anB hv
def ad4{v:SV}{p:Nat}{c:Int}{l:List It}(hv:v.at f p)(hb:v.okB)(hl:l.length<=1000)(hi:adL v.z v.s.an l)(hc:0<=c/\c<=4000000000000):k61 [.ptr p 0,.v (ti c),kN l] f=⟨True,.v (.agg [ti (kM v.z v.s.an c l).aI,ti (kM v.z v.s.an c l).size]),f⟩:=by
 unfold kN;split
 ·rename_i e;subst e;rw[afX hv];simp[hc]
 ·rw[anE hv];simp[hb,hl,hi,hc]
def R9{z:fp}{l:List It}(h:fD z l=true):l≠[]:=by
 rintro rfl;simp[fD]at h
def ath{v:SV}{p:Nat}{l:List It}(hv:v.at f p)(hn:l≠[])(hl:l.length<=1000)(hf:∀x∈l,mZ v.z x->0<=x.1/\x.1<v.s.cj.length):k89 [.ptr p 0,kN l] f=⟨True,.v (.bool (!ph v.z v.s.cj l)),f⟩:=by
 unfold kN;rw[aY hn,anH hv];simp[hl];exact λa b c h hi=>hf _ h hi
def dZ(r:dv):Ob:=.box [.v (ti r.kind),.v (ti r.head),.v (ti r.a),.v (ti r.b),.v (ti r.cA),.v (ti r.origin)]
structure Li(v:SV)(i:gD):Prop where
 b:v.okB
 l:i.2.2.length<=1000
 it:adL v.z v.s.an i.2.2
 p:0<=i.2.1/\i.2.1<=4000000000000
def um(a b c N:Nat)(n:Nat):Nat:=if n=0 then a else if n=1 then b else if n=2 then c else N+n
def yN{a b c N:Nat}(h1:a<N)(h2:b<N)(h3:c<N)(n1:a≠b)(n2:a≠c)(n4:b≠c)(x y:Nat)(e:um a b c N x=um a b c N y):x=y:=by
 unfold um at e;repeat' split at e
 all_goals omega
def yO(l:cQ)(o:bw):H2 l o o:=λ_ _=>rfl
def t58{p N:Nat}{v:SV}{i:gD}(hN:∀r,N<=r->f r=none)(hv:v.at f p)(hs:f sB=some (.box [.ptr p 0]))(hr:f rB=some (dZ r))(ho:Li v i)(Df:fD v.z i.2.2=false->qZ v.s r.head (sc v.z v.s.an i)):
  aQ aj 86 ([.v (ti i.1),.v (ti i.2.1),kN i.2.2]++mT [sB,rB]) f ⟨True,.v (.bool true),cg f v (iS v.z r v.s i)⟩:=by
 obtain⟨g,c,l⟩:=i;obtain⟨o1,o2,o3,o4⟩:=ho;simp only at o2 o3 o4 Df;obtain⟨R,hR⟩:=be (iS v.z r v.s (g,c,l));rw[hR];unfold iS at hR;simp only at hR;have k1:=alp (l:=l) hv;have k2:=ad4 (l:=l) (c:=c) hv o1 o2 o3 o4;obtain⟨U,hU⟩:=be (kN l);have hUn:aP U=[]:=by rw[<-hU];exact yM l
 simp only[hU]at k1 k2⊢;obtain⟨V,hV⟩:=be (kM v.z v.s.an c l);have hV2:sc v.z v.s.an (g,c,l)=V:=hV;rw[hV2]at Df hR;rw[hV]at k2;obtain⟨w,hw⟩:=be (fD v.z l);rw[hw]at Df hR k1;refine c58.qE hN (by simp[mT]) λaV=>?_;have nu:p<N:=(aV p _ hv.sp).1;have hsN:sB<N:=(aV _ _ hs).1;have hrN:rB<N:=(aV _ _ hr).1;have n1:p≠sB:=λe=>by rw[<-e,hv.sp]at hs;simp[mW]at hs
 have n2:p≠rB:=λe=>by rw[<-e,hv.sp]at hr;simp[mW,dZ]at hr
 have n3:sB≠rB:=λe=>by rw[e,hr]at hs;simp[dZ]at hs
 simp only[dZ]at hr;simp[mT];show aa _ _ _ _ ⟨_,f,_,_,_⟩;apply aa.ag cL fw [0,1,2,3,4];simp[MU];apply aa.seq;apply aa.cY (anD ay.nil) fw (rs:=ab1) rfl (by kernel_rfl) [0,1,2,3,4,12];simp[ab1,hs,k1,o2];refine aa.cond rfl (λq=>?_) (λq=>?_)
 ·have q:w=false:=by simpa using q
  rw[aY (by rw[q];simp)]at hR;have aC:=anG (BK (ay.nil) (λN' W0=>t60 W0 hv (Df q)) (λr hr=>g6 hv _ hr));rw[hR]at aC;refine aa.qa aC fw (rs:=db (um p sB rB N) (fg ab2 [some [1],none,some [2],none,none,none,some [0],none])) (.inr ⟨_,rfl⟩) ((d8 (yN nu hsN hrN n1 n2 n3) _ _ _).trans (by kernel_rfl)) [] ?_;simp[ab2,fg,db,fG,um,cX,bN,aP,hs,hr,k2,hUn,yO];apply aa.ag cL fw [8];simp[Id];apply aa.ret;simp[dj]
 ·have q:w=true:=by simpa using q
  rw[cF q]at hR;apply aa.skip;simp;apply aa.ag cL fw [8];simp[Id];rw[<-hR,eS hv];apply aa.ret;simp[dj]
def t88{p N:Nat}{v:SV}{i:gD}(hN:∀r,N<=r->f r=none)(hv:v.at f p)(hs:f sB=some (.box [.ptr p 0]))(hr:f rB=some (dZ r))(ho:Li v i)(hfl:v.s.cj.length=v.s.an.length)(Df:fD v.z i.2.2=true->ph v.z v.s.cj i.2.2=false->qZ v.s r.head (sc v.z v.s.an i)):
  aQ aj 127 ([.v (ti i.1),.v (ti i.2.1),kN i.2.2]++mT [sB,rB]) f ⟨True,.v (.bool true),cg f v (jq v.z r v.s i)⟩:=by
 obtain⟨g,c,l⟩:=i;obtain⟨o1,o2,o3,o4⟩:=ho;simp only at o2 o3 o4 Df;obtain⟨R,hR⟩:=be (jq v.z r v.s (g,c,l));rw[hR];unfold jq at hR;simp only at hR;have k1:=alp (l:=l) hv;have k2:=ad4 (l:=l) (c:=c) hv o1 o2 o3 o4;have k3:l≠[]->_:=λhl=>ath (l:=l) hv hl o2 (λx hx hi=>by rw[hfl];exact o3 x hx hi);have hwn:fD v.z l=true->l≠[]:=R9;obtain⟨U,hU⟩:=be (kN l);have hUn:aP U=[]:=by rw[<-hU];exact yM l
 simp only[hU]at k1 k2 k3⊢;obtain⟨V,hV⟩:=be (kM v.z v.s.an c l);have hV2:sc v.z v.s.an (g,c,l)=V:=hV;rw[hV2]at Df hR;rw[hV]at k2;obtain⟨w,hw⟩:=be (fD v.z l);rw[hw]at Df hR k1 hwn;obtain⟨y,hy⟩:=be (ph v.z v.s.cj l);rw[hy]at Df hR k3;refine c88.qE hN (by simp[mT]) λaV=>?_;have nu:p<N:=(aV p _ hv.sp).1;have hsN:sB<N:=(aV _ _ hs).1;have hrN:rB<N:=(aV _ _ hr).1;have n1:p≠sB:=λe=>by rw[<-e,hv.sp]at hs;simp[mW]at hs
 have n2:p≠rB:=λe=>by rw[<-e,hv.sp]at hr;simp[mW,dZ]at hr
 have n3:sB≠rB:=λe=>by rw[e,hr]at hs;simp[dZ]at hs
 simp only[dZ]at hr;simp[mT];show aa _ _ _ _ ⟨_,f,_,_,_⟩;apply aa.ag cL fw [0,1,2,3,4];simp[ai0];apply aa.seq;obtain⟨c1,b8⟩:=be ((w&& !y):Bool);cases w with
 |false=>
  rw[aY (by simp)]at hR;apply aa.cY (anD (as7 ay.nil)) fw (rs:=Fy) rfl (by kernel_rfl) [0,1,2,3,4,16];simp[Fy,hs,k1,o2];refine aa.cond rfl (λq=>by cases q) (λq=>?_);apply aa.skip;simp;apply aa.ag cL fw [8];simp[Te];rw[<-hR,eS hv];apply aa.ret;simp[dj]
 |true=>
  have k3:=k3 (hwn rfl);apply aa.cY (anD (as7 ay.nil)) fw (rs:=Fy) rfl (by kernel_rfl) [0,1,2,3,4,16];simp[Fy,hs,k1,o2,k3];refine aa.cond rfl (λq=>?_) (λq=>?_)
  ·have q:y=false:=by simpa using q
   rw[cF ⟨rfl,q⟩]at hR;have aC:=anG (BK (ay.nil) (λN' W0=>t60 W0 hv (Df rfl q)) (λr hr=>g6 hv _ hr));rw[hR]at aC;refine aa.qa aC fw (rs:=db (um p sB rB N) (fg Qz [some [1],none,some [2],none,none,none,some [0],none])) (.inr ⟨_,rfl⟩) ((d8 (yN nu hsN hrN n1 n2 n3) _ _ _).trans (by kernel_rfl)) [] ?_;simp[Qz,fg,db,fG,um,cX,bN,aP,hs,hr,k2,hUn,yO];apply aa.ag cL fw [8];simp[Te];apply aa.ret;simp[dj]
  ·have q:y=true:=by simpa using q
   rw[aY (by rw[q];simp)]at hR;apply aa.skip;simp;apply aa.ag cL fw [8];simp[Te];rw[<-hR,eS hv];apply aa.ret;simp[dj]
def oM(v:dg):Ob:=.box [.v (ti v.aI),.v (ti v.size)]
def di(x:Cell):Ob:=.box [.v (ti x.aI),.v (ti x.size),.v (ti x.rZ),.v (ti x.arg)]
def t90{p N vB iB cB:Nat}{v:SV}{w:dg}{k:Int}{x:Cell}{i:gD}(hN:∀r,N<=r->f r=none)(hv:v.at f p)(hs:f sB=some (.box [.ptr p 0]))(hw:f vB=some (oM w))(hi:f iB=some (.box [.v (ti k)]))(hx:f cB=some (di x))(ho:Li v i):
  aQ aj 129 ([.v (ti i.1),.v (ti i.2.1),kN i.2.2]++mT [sB,vB,iB,cB]) f
   ⟨True,.v (.bool (!decide (sc v.z v.s.an i=w))),if sc v.z v.s.an i=w then aO [(cB,di ⟨w.aI,w.size,k,i.1⟩)] f else f⟩:=by
 obtain⟨g,c,l⟩:=i;obtain⟨o1,o2,o3,o4⟩:=ho;simp only at o2 o3 o4;have k2:=ad4 (l:=l) (c:=c) hv o1 o2 o3 o4;obtain⟨U,hU⟩:=be (kN l);have hUn:aP U=[]:=by rw[<-hU];exact yM l
 simp only[hU]at k2⊢;obtain⟨⟨vc,vs⟩,hV⟩:=be (kM v.z v.s.an c l);have hV2:sc v.z v.s.an (g,c,l)=⟨vc,vs⟩:=hV;rw[hV2];rw[hV]at k2;obtain⟨wc,ws⟩:=w;refine c90.qE hN (by simp[mT]) λaV=>?_;have nu:p<N:=(aV p _ hv.sp).1;have hvN:vB<N:=(aV _ _ hw).1;have hsN:sB<N:=(aV _ _ hs).1;have n1:p≠vB:=λe=>by rw[<-e,hv.sp]at hw;simp[mW,oM]at hw
 have n2:p≠sB:=λe=>by rw[<-e,hv.sp]at hs;simp[mW]at hs
 have n3:vB≠sB:=λe=>by rw[e,hs]at hw;simp[oM]at hw
 have n4:vB≠cB:=λe=>by rw[e,hx]at hw;simp[oM,di]at hw
 have n5:iB≠cB:=λe=>by rw[e,hx]at hi;simp[di]at hi
 simp only[oM,di]at hw hx⊢;simp[mT];show aa _ _ _ _ ⟨_,f,_,_,_⟩;apply aa.ag cL fw [0,1,2,3,4,5,6];simp[ai7];apply aa.seq;refine aa.kv (anG ay.nil) fw (rs:=db (um p vB sB N) (fg QB [none,none,none,some [0],some [1],none])) (.inr ⟨_,rfl⟩) ((d8 (yN nu hvN hsN n1 n2 n3) _ _ _).trans (by kernel_rfl)) [0,3,4,5,6,16] ?_;simp[QB,fg,db,fG,um,cX,bN,aP,hs,hw,k2,hUn,yO];refine aa.cond rfl (λq=>?_) (λq=>?_)
 ·have q:¬(vc=wc/\vs=ws):=by
   simp at q;rintro⟨rfl,rfl⟩;simp at q
  rw[aY q];apply aa.ag cL fw [10];simp[ai8];apply aa.ret;simp[dj];exact Classical.not_and_iff_not_or_not.1 q
 ·have q:vc=wc/\vs=ws:=by simpa using q
  rw[cF q];apply aa.skip;simp;apply aa.ag cL fw [0,3,4,5,6];simp[ai9,hw,hi,hx];apply aa.ag cL fw [10];simp[aja];apply aa.ret;simp[dj,q,Al]
end
section
variable{f:bw}{z:fp}{r:dv}{st:dy}
def AG(A B:c7)(f:bw):aO A (aO B f)=aO (A++B) f:=by
 funext k;induction A with
 |nil=>rfl
 |cons a A ih=>
  obtain⟨r,o⟩:=a;simp only[aH,C5,ih]
def B3{A B:c7}(h:∀a∈A,∀b∈B,a.1≠b.1):aO A (aO B f)=aO B (aO A f):=by
 funext k;by_cases hA:∃o,(k,o)∈A
 ·obtain⟨o,ho⟩:=hA;have hB:∀o',(k,o')∉B:=λo' iV=>h _ ho _ iV rfl;rw[fF (l:=B) hB];obtain⟨o1,h1,h2⟩:=DF (f:=aO B f) ho;obtain⟨o2,h3,h4⟩:=DF (f:=f) ho;have key:∀(A:c7) (g:bw),(∃o,(k,o)∈A)->aO A g k=aO A f k:=by
   intro A g;induction A with
   |nil=>rintro⟨o,ho⟩;cases ho
   |cons a A ih=>
    rintro⟨o,ho⟩;rw[aH,aH];split
    ·rfl
    ·rename_i bZ;rcases fN.1 ho with e|ho
     ·exact eA (by rw[<-e]) bZ
     ·exact ih ⟨o,ho⟩
  exact key A _ ⟨o,ho⟩
 ·have hA:∀o',(k,o')∉A:=λo' iV=>hA ⟨o',iV⟩;rw[fF (l:=A) hA];by_cases hB:∃o,(k,o)∈B
  ·obtain⟨o,ho⟩:=hB;have key:∀(B:c7) (g:bw),(∃o,(k,o)∈B)->aO B g k=aO B f k:=by
    intro B g;induction B with
    |nil=>rintro⟨o,ho⟩;cases ho
    |cons a B ih=>
     rintro⟨o,ho⟩;rw[aH,aH];split
     ·rfl
     ·rename_i bZ;rcases fN.1 ho with e|ho
      ·exact eA (by rw[<-e]) bZ
      ·exact ih ⟨o,ho⟩
   exact(key B _ ⟨o,ho⟩).symm
  ·have hB:∀o',(k,o')∉B:=λo' iV=>hB ⟨o',iV⟩;rw[fF (l:=B) hB,fF (l:=B) hB,fF (l:=A) hA]
section
variable{v:SV}{f0:bw}{p N:Nat}{L:c7}
def Y1(aV:df f0 N)(hv:v.at f0 p)(hL:∀q∈L,N<=q.1)(s s':dy):cg (aO L (cg f0 v s)) (v.to s) s'=aO L (cg f0 v s'):=by
 have h1:cg (aO L (cg f0 v s)) (v.to s) s'=aO L (cg (cg f0 v s) (v.to s) s'):=by
  have a1:=(aV _ _ hv.rb).1;have a2:=(aV _ _ hv.rf).1;have a3:=(aV _ _ hv.rh).1;have a4:=(aV _ _ hv.q).1;have a5:=(aV _ _ hv.hp).1;have a6:=(aV _ _ hv.m).1;refine B3 λa ha b hb=>?_;have:=hL b hb;simp only[fN,g9,wh]at ha;rcases ha with rfl|rfl|rfl|rfl|rfl|rfl<;>simp only[]<;>omega
 rw[h1,Am]
def BP(aV:df f0 N)(hv:v.at f0 p)(hL:∀q∈L,N<=q.1)(a:dy)(s:Qs):bO (aO L (cg f0 v a)) v.k.q ((v.to a).qv p) s=aO L (cg f0 v ⟨a.an,a.cj,a.fB,s⟩):=by
 rw[<-sN hv a s];have a4:=(aV _ _ hv.q).1;have a5:=(aV _ _ hv.hp).1;have a6:=(aV _ _ hv.m).1;refine B3 λa ha b hb=>?_;have:=hL b hb;simp only[fN,g9,wh]at ha;rcases ha with rfl|rfl|rfl<;>simp only[SV.qv]<;>omega
def oF(aV:df f0 N)(hv:v.at f0 p)(s:dy):df (cg f0 v s) N:=by
 have qR:∀m,f0 m≠none->cg f0 v s m≠none:=by
  intro m hm;simp only[cg,aH,bL];repeat' split
  all_goals first|(intro h;cases h)|exact hm
 intro r o h;by_cases hr:f0 r=none
 ·rw[g6 hv s hr]at h;cases h
 ·obtain⟨o',iV⟩:=Zz.1 hr;obtain⟨h1,h2⟩:=aV r o' iV;refine⟨h1,λm hm=>?_⟩;simp only[cg,aH,bL]at h;split at h
  ·cases h;simp[sd,bb]at hm
  ·split at h
   ·cases h;simp[sZ,bb]at hm
   ·split at h
    ·cases h;simp[s8,bb]at hm
    ·split at h
     ·cases h;simp only[qB,bb,bQ,aP,wa,oi,fN,g9,wh]at hm;apply qR;rcases hm with rfl|rfl|rfl
      ·rw[hv.a];simp
      ·rw[hv.hp];simp
      ·rw[hv.m];simp
     ·split at h
      ·cases h;simp[hB,bb]at hm
      ·split at h
       ·cases h;exfalso;simp only[mB,bb,Ll,vM,lq]at hm;obtain⟨e,⟨e',_,rfl⟩,hk⟩:=hm;simp[aP]at hk
       ·rw[iV]at h;cases h;exact qR m (h2 m hm)
def AH(aV:df f0 N)(hv:v.at f0 p)(hL:∀q∈L,N<=q.1)(s:dy):(v.to s).at (aO L (cg f0 v s)) p:=(lA hv s).aO (oF aV hv s) hL
def km{N M:Nat}{L:c7}(h:df f N)(hNM:N<=M)(hL:∀q∈L,q.1<M/\∀m∈bb q.2,aO L f m≠none):df (aO L f) M:=by
 have qR:∀m,f m≠none->aO L f m≠none:=by
  intro m hm;cases ho:aO L f m with
  |some o=>simp
  |none=>
   exfalso;clear hL;induction L with
   |nil=>exact hm ho
   |cons a L ih=>
    rw[aH]at ho;split at ho
    ·cases ho
    ·exact ih ho
 intro r o ho;rcases sD ho with h1|⟨_,h1⟩
 ·exact⟨(hL _ h1).1,(hL _ h1).2⟩
 ·obtain⟨h2,h3⟩:=h r o h1;exact⟨by omega,λm hm=>qR m (h3 m hm)⟩
end
def Y2{i:gD}(h:i∈cK z r):i.2.2.length<=2:=by
 unfold cK at h;split at h
 ·split at h
  ·simp only[fN,g9,wh]at h;subst h;simp
  ·cases h
 ·split at h
  ·obtain⟨k,_,hk⟩:=ZbK.1 h;unfold uU at hk;split at hk
   ·cases hk;simp
   ·cases hk
  ·split at h
   ·simp only[fN,g9,wh]at h;subst h;simp
   ·split at h
    ·obtain⟨d,_,rfl⟩:=lq.1 h;simp[qy]
    ·cases h
def IS{x:Int}(h:jT r x):(eN z r).length<=2:=by
 unfold jT at h;unfold eN;split
 ·simp
 ·unfold cK;rw[aY (by omega),aY (by omega),cF (by omega)];simp
def B4(K:Kx z)(hcf:AB z.c){k:Pf}(W:WF z.n.ak.toNat st)(hr:r∈z.n.au){i:gD}(hi:i∈cK z r):Li ⟨k,z,st⟩ i:=
 ⟨⟨hcf,K.hc,W.bo⟩,by have:=Y2 hi;omega,λx hx _=>by
  have:=qz K hr hi hx;have:=W.lb;exact⟨by omega,by simp only;omega⟩,B1 K hr hi⟩
def Dl(z:fp)(x:Int)(st:dy)(k:Nat):dy:=(z.n.au.take k).foldl (D8 z x) (qM st)
def sU(z:fp)(x:Int)(st:dy)(k j:Nat):dy:=((eN z (z.n.au.getD k default)).take j).foldl (jq z (z.n.au.getD k default)) (Dl z x st k)
def Ax{α β:Type}{f:α->List β}{c:Nat}:∀(l:List α),(∀a∈l,(f a).length<=c)->(l.flatMap f).length<=c*l.length
 |[],_=>by simp
 |a::l,h=>by
  have h1:=h a (by simp);have h2:=Ax (f:=f) (c:=c) l (λb hb=>h b (by simp[hb]));rw[Zy,Eu,w9,Nat.mul_succ];omega
def OO{x:Int}(l:Dh):((l.filter λr=>decide (jT r x)).flatMap λr=>(eN z r).map λi=>((r,i):PR)).length<=2*l.length:=by
 have h1:=Ax (c:=2) (f:=λr=>(eN z r).map λi=>((r,i):PR)) (l.filter λr=>decide (jT r x)) (λr hr=>by
  rw[XN];exact IS (by simpa using(Sv.1 hr).2))
 have h2:=List.length_filter_le (λr=>decide (jT r x)) l;omega
def anW(C:oE z.n z.l z.c z.fr.toNat z.to.toNat)(K:Kx z)(h:IV z st)(bZ:st.s.heap≠[]){k j:Nat}(hk:k<z.n.au.length)(hu:jT (z.n.au.getD k default) (st.s.e 0).x):
  KN z (sU z (st.s.e 0).x st k j)/\(sU z (st.s.e 0).x st k j).s.bA<=st.s.bA+1202/\(sU z (st.s.e 0).x st k j).cj.length=(sU z (st.s.e 0).x st k j).an.length:=by
 obtain⟨k1,k2,k3,k4⟩:=h.1.pop K bZ;have hP:=adZ C K h bZ;have Zu:(qM st).cj.getD (st.s.e 0).x.toNat false=true:=by
  show mR (qM st) _=true;rw[ul h.1.wf bZ k2.1 k2.2,cF rfl]
 have aV:(qM st).s.bA=st.s.bA:=by
  have hs:mm (gk st.s) (fQ st.an st.s):=by unfold fQ;rw[aY bZ];exact l7 rfl
  exact hs.bA
 have Sa:z.n.au.getD k default∈z.n.au:=bq hk;obtain⟨r,hr⟩:=be (z.n.au.getD k default);have e:sU z (st.s.e 0).x st k j=((((z.n.au.take k).filter λr=>decide (jT r (st.s.e 0).x)).flatMap λr=>(eN z r).map λi=>((r,i):PR))++((eN z r).take j).map λi=>((r,i):PR)).foldl (λst (p:PR)=>jq z p.1 st p.2) (qM st):=by
  rw[Dg,<-Ha,ZcU];unfold sU Dl;rw[hr]
 have aN:∀p∈(((z.n.au.take k).filter λr=>decide (jT r (st.s.e 0).x)).flatMap λr=>(eN z r).map λi=>((r,i):PR))++((eN z r).take j).map λi=>((r,i):PR),Pg z p:=by
  intro p hp;rcases oi.1 hp with hp|hp
  ·exact WX K (λr h=>Es h) p hp
  ·obtain⟨i,hi,rfl⟩:=lq.1 hp;rw[hr]at Sa;exact⟨Sa,B0 K.ft.2 (Es hi)⟩
 obtain⟨a1,_,_,a4⟩:=(adY C K k2 Zu).Nl (λ_ h=>h) _ aN _ hP;rw[<-e]at a1 a4;have l1:=OO (z:=z) (x:=(st.s.e 0).x) (z.n.au.take k);have l2:=IS (z:=z) hu;have l3:=K.hn.2.2.1;rw[hr]at l2;rw[Eu,XN,ld]at a4;rw[ld]at l1;exact⟨a1.kn,by omega,by rw[a1.kn.wf.lf,a1.kn.wf.lb]⟩
def Y3{x:Int}{k:Nat}(hk:k<z.n.au.length):Dl z x st (k+1)=if jT (z.n.au.getD k default) x then sU z x st k (eN z (z.n.au.getD k default)).length else Dl z x st k:=by
 unfold sU Dl;rw[c8 hk,Dg];simp only[B6,Zcp,D8,ZbX]
def Y4{x:Int}{k j:Nat}{i:gD}(h:(eN z (z.n.au.getD k default))[j]? =some i):sU z x st k (j+1)=jq z (z.n.au.getD k default) (sU z x st k j) i:=by
 unfold sU;rw[Zb0,h,Dg];rfl
end
section
deriving instance DecidableEq for dg
section
variable{r:dv}
def OK(z:fp)(an:b7)(v:dg)(r:dv):Option gD:=(cK z r).find? λi=>decide (sc z an i=v)
def nR(z:fp)(an:b7)(h:Int)(x:Cell)(k:Nat):Cell:=
 if(z.n.au.getD k default).head≠h\/(bv an h).aI>=1099511627776\/x.rZ>=0 then x
 else match OK z an (bv an h) (z.n.au.getD k default)with
  |some i=>⟨(bv an h).aI,(bv an h).size,k,i.1⟩
  |none=>x
def pA(z:fp)(an:b7)(h:Int)(m:Nat):Cell:=(List.range m).foldl (nR z an h) mK
def jr(z:fp)(an:b7)(h:Int):Cell:=pA z an h z.n.au.length
def qA(z:fp)(an:b7):fl:=(List.range z.n.ak.toNat).map λ(h:Nat)=>jr z an (h:Int)
def AE(z:fp)(an:b7)(h:Int)(m:Nat):pA z an h (m+1)=nR z an h (pA z an h m) m:=by
 unfold pA;rw[Hu,Dg];rfl
def Lz(l:aU):Prop:=∀i j:Nat,i<=j->j<l.bJ.length->(l.bJ.getD i default).f<(l.bJ.getD j default).f\/((l.bJ.getD i default).f=(l.bJ.getD j default).f/\(l.bJ.getD i default).t<=(l.bJ.getD j default).t)
def Lz.mono{z:fp}(h:Lz z.l):mono z:=by
 intro i j hij hj hp;have:=h i j hij hj;unfold mQ at hp⊢;omega
def ad0{z:fp}(hs:Lz z.l){i:Nat}(h:jL z<=i)(hi:i<z.l.bJ.length):mQ z (z.l.bJ.getD i default):=by
 have hl:jL z<z.l.bJ.length:=by omega
 have h1:=List.findIdx_getElem (w:=hl);simp only[oS]at h1;refine hs.mono (jL z) i h hi ?_;have e:z.l.bJ.getD (jL z) default=z.l.bJ[jL z]:=by simp[List.getD,hl]
 rw[e];exact h1
def ata{z:fp}(hs:Lz z.l){i:Nat}(hi:i<z.l.bJ.length)(h:LA z (z.l.bJ.getD i default)):jL z<=i/\i<uW z:=by
 refine adS hs.mono (λi j hij hj hl dK=>?_) hi h;have h1:=ad0 hs hl (by omega);have h2:=hs i j hij hj;unfold mQ LA at*
 omega
def mS(z:fp)(an:b7)(h:Int):∀m,m<=z.n.au.length->
  ((bv an h).aI>=1099511627776->pA z an h m=mK)/\
  ((bv an h).aI<1099511627776->
   (pA z an h m=mK/\∀(k:Nat) r,k<m->z.n.au[k]? =some r->r.head=h->∀i∈cK z r,sc z an i≠bv an h)\/
   (∃(k:Nat) (r:dv) (i:gD),k<m/\z.n.au[k]? =some r/\r.head=h/\OK z an (bv an h) r=some i/\pA z an h m=⟨(bv an h).aI,(bv an h).size,k,i.1⟩/\
    ∀(k':Nat) r,k'<k->z.n.au[k']? =some r->r.head=h->∀i∈cK z r,sc z an i≠bv an h))
 |0,_=>⟨λ_=>rfl,λ_=>.inl ⟨rfl,λk r hk=>by omega⟩⟩
 |m+1,hm=>by
  obtain⟨a,b⟩:=mS z an h m (by omega);have hr:z.n.au[m]? =some (z.n.au.getD m default):=by simp[List.getD,show m<z.n.au.length by omega]
  rw[AE];refine⟨λhf=>?_,λhf=>?_⟩
  ·rw[a hf];unfold nR;rw[cF (.inr (.inl hf))]
  ·rcases b hf with⟨b1,b2⟩|⟨k,r,i,b1,b2,b3,b4,b5,b6⟩
   ·rw[b1];unfold nR;split
    ·rename_i hc;have hc:(z.n.au.getD m default).head≠h:=by
      rcases hc with hc|hc|hc
      ·exact hc
      ·omega
      ·exact eA hc (by decide)
     refine .inl ⟨rfl,λk r hk zB oI=>?_⟩;by_cases e:k=m
     ·subst e;rw[hr]at zB;cases zB;exact eA oI hc
     ·exact b2 k r (by omega) zB oI
    ·rename_i hc;simp only[Zc6,ne_eq,Decidable.not_not]at hc;cases hp:OK z an (bv an h) (z.n.au.getD m default)with
     |some i=>exact .inr ⟨m,_,i,by omega,hr,hc.1,hp,rfl,b2⟩
     |none=>
      refine .inl ⟨rfl,λk r hk zB oI=>?_⟩;by_cases e:k=m
      ·subst e;rw[hr]at zB;cases zB;intro i hi;have:=Zdi.1 hp i hi;simpa using this
      ·exact b2 k r (by omega) zB oI
   ·refine .inr ⟨k,r,i,by omega,b2,b3,b4, ?_,b6⟩;rw[b5];unfold nR;rw[cF (.inr (.inr (by simp only;omega)))]
def D9{z:fp}{an:b7}{h:Nat}(hh:h<z.n.ak.toNat):(qA z an).getD h default=jr z an (h:Int):=by
 simp[qA,List.getD,hh]
def Ea(z:fp)(an:b7):(qA z an).length=z.n.ak.toNat:=by simp[qA]
def RX{l:List gD}{p:gD->Bool}{i:gD}(hs:l.Pairwise λa b=>a.1<=b.1)(h:l.find? p=some i):∀j∈l,p j=true->i.1<=j.1:=by
 induction l with
 |nil=>cases h
 |cons a l ih=>
  rw[C3]at hs;intro j hj hp;by_cases ha:p a=true
  ·rw[List.find?_cons_of_pos ha]at h;cases h;rcases fN.1 hj with rfl|hj
   ·omega
   ·exact hs.1 j hj
  ·rw[List.find?_cons_of_neg ha]at h;rcases fN.1 hj with rfl|hj
   ·exact eA hp ha
   ·exact ih hs.2 h j hj hp
def OL(z:fp)(r:dv):(cK z r).Pairwise λa b=>a.1<=b.1:=by
 unfold cK;split
 ·split<;>simp
 ·split
  ·rw[List.pairwise_filterMap];refine List.Pairwise.imp (R:=λa b=>a<b) (λ{a b} W8 x hx y hy=>?_) List.pairwise_lt_range';unfold uU at hx hy;split at hx
   ·split at hy
    ·cases hx;cases hy;simp only;omega
    ·cases hy
   ·cases hx
  ·split
   ·simp
   ·split
    ·rw[ZcW];refine List.Pairwise.imp (R:=λa b=>a<b) (λ{a b} W8=>?_) List.pairwise_lt_range;simp only[qy];omega
    ·simp
section
variable{z:fp}{st:dy}
def af6(K:Kx z)(h:KN z st)(bZ:st.s.heap=[]){x:Int}(h0:0<=x)(h1:x<z.n.ak)(hf:(bv st.an x).aI<1099511627776):mR st x=true:=by
 cases Lr:mR st x with
 |true=>rfl
 |false=>
  exfalso;rcases ilt (st.fB.getD x.toNat 0)with hd|hd
  ·have:=(h.wf.old x.toNat (by omega) hd).2;unfold bv at hf;rw[this]at hf;exact eA hf (by decide)
  ·obtain⟨e,he,_⟩:=h.wf.Zq x.toNat (by omega) hd Lr;rw[bZ]at he;cases he
def af7(K:Kx z)(h:KN z st){x:Int}(h0:0<=x)(h1:x<z.n.ak)(hf:¬(bv st.an x).aI<1099511627776):bv st.an x=⟨1099511627776,0⟩:=by
 rcases ilt (st.fB.getD x.toNat 0)with hd|hd
 ·exact(h.wf.old x.toNat (by omega) hd).2
 ·exact eA (h.wf.RU x.toNat (by omega) hd) hf
def Eb(K:Kx z)(h:KN z st){x:Int}(h0:0<=x)(h1:x<z.n.ak):((qA z st.an).getD x.toNat default).val=bv st.an x:=by
 obtain⟨y,rfl⟩:=kK h0;rw[iP,D9 (by omega)];obtain⟨a,b⟩:=mS z st.an y z.n.au.length (fq _);unfold jr;by_cases hf:(bv st.an y).aI<1099511627776
 ·rcases b hf with⟨b1,b2⟩|⟨k,r,i,_,_,_,_,b5,_⟩
  ·obtain⟨k,r,hk,hr,i,hi,_,hc⟩:=h.att y h0 h1 hf;exact eA hc (b2 k r (C7.1 hk).1 hk hr i hi)
  ·rw[b5]
 ·rw[a (by omega),af7 K h h0 h1 hf];rfl
def IR(K:Kx z)(h:KN z st){x:Int}(h0:0<=x)(h1:x<z.n.ak)(f t:Int):eX z.c (qA z st.an) z.fr z.to x f t=kG z st.an x f t:=by
 unfold eX kG;split
 ·exact Eb K h h0 h1
 ·rfl
def ad1(K:Kx z)(h:KN z st){s t:Nat}(es:z.fr=s)(et:z.to=t){k:Nat}(hk:z.n.au[k]? =some r){i:gD}(hi:i∈cK z r):qf z.n z.l z.c (qA z st.an) s t k i.1 (sc z st.an i):=by
 have hr:r∈z.n.au:=xN hk;obtain⟨q1,q2,q3,q4,q5⟩:=K.hn.2.2.2 r hr;have hv:=λ{x:Int} (h0:0<=x) (h1:x<z.n.ak) (f t:Int)=>IR K h h0 h1 f t;have wR:=K.ft;refine⟨r,hk, ?_⟩;unfold cK at hi;split at hi
 ·rename_i h1;split at hi
  ·simp only[fN,g9,wh]at hi;subst hi;exact .inl ⟨h1,by omega,es,rfl⟩
  ·cases hi
 ·split at hi
  ·rename_i h1;obtain⟨a,ha0,ha⟩:=ZbK.1 hi;have:=xD z;simp only[Zck]at ha0;have oQ:a<z.l.bJ.length:=by omega
   have dK:=OG (z:=z) (i:=a) (by omega) (by omega);unfold uU at ha;split at ha
   ·rename_i OI;cases ha;exact .inr (.inl ⟨h1,a,z.l.bJ.getD a default,by simp[List.getD,oQ],by rw[dK.1,es],by rw[dK.2,et],OI,rfl,rfl⟩)
   ·cases ha
  ·split at hi
   ·rename_i h1;simp only[fN,g9,wh]at hi;subst hi;refine .inr (.inr (.inl ⟨h1,es, ?_⟩));show d0 r.cA [kG z st.an r.a z.fr z.to]=_;rw[<-es,<-et,hv (by omega) (by omega)]
   ·split at hi
    ·rename_i h1;obtain⟨d,hd0,rfl⟩:=lq.1 hi;simp only[Pi]at hd0;refine .inr (.inr (.inr ⟨h1,d,by omega,by simp only[qy];omega, ?_⟩));show d0 r.cA [kG z st.an r.a z.fr (z.fr+(d:Int)),kG z st.an r.b (z.fr+(d:Int)) z.to]=_;rw[<-es,<-et,hv (by omega) (by omega),hv (by omega) (by omega)]
    ·cases hi
def ad2(K:Kx z)(hs:Lz z.l)(h:KN z st){s t:Nat}(es:z.fr=s)(et:z.to=t){k:Nat}{g:Int}{v:dg}(hi:qf z.n z.l z.c (qA z st.an) s t k g v):∃r,z.n.au[k]? =some r/\∃i∈cK z r,i.1=g/\sc z st.an i=v:=by
 obtain⟨r,hk,hi⟩:=hi;have hr:r∈z.n.au:=xN hk;obtain⟨q1,q2,q3,q4,q5⟩:=K.hn.2.2.2 r hr;have hv:=λ{x:Int} (h0:0<=x) (h1:x<z.n.ak) (f t:Int)=>IR K h h0 h1 f t;have wR:=K.ft;refine⟨r,hk, ?_⟩;rcases hi with⟨h1,h2,rfl,rfl⟩|⟨h1,a,x,ha,Zu,hxt,OI,rfl,rfl⟩|⟨h1,rfl,rfl⟩|⟨h1,d,hd,rfl,rfl⟩
 ·refine⟨(z.fr,r.cA,[]), ?_,es,rfl⟩;unfold cK;rw[cF h1,cF (by omega)];simp
 ·have oQ:=(C7.1 ha).1;have hx:z.l.bJ.getD a default=x:=by simp[List.getD,ha]
  have:=ata hs oQ (by rw[hx];exact⟨by rw[Zu,es],by rw[hxt,et]⟩);refine⟨((a:Int),r.cA+x.aI,[]), ?_,rfl,rfl⟩;unfold cK;rw[aY (by omega),cF h1];refine ZbK.2 ⟨a,by simp only[Zck];omega, ?_⟩;unfold uU;rw[hx,cF OI]
 ·refine⟨(z.fr,r.cA,[(r.a,z.fr,z.to)]), ?_,es, ?_⟩
  ·unfold cK;rw[aY (by omega),aY (by omega),cF h1];simp
  ·show d0 r.cA [kG z st.an r.a z.fr z.to]=_;rw[<-es,<-et,hv (by omega) (by omega)]
 ·refine⟨qy z r (z.fr+(d:Int)), ?_,by simp only[qy];omega, ?_⟩
  ·unfold cK;rw[aY (by omega),aY (by omega),aY (by omega),cF h1];exact lq.2 ⟨d,by simp only[Pi];omega,rfl⟩
  ·show d0 r.cA [kG z st.an r.a z.fr (z.fr+(d:Int)),kG z st.an r.b (z.fr+(d:Int)) z.to]=_;rw[<-es,<-et,hv (by omega) (by omega),hv (by omega) (by omega)]
def RY(K:Kx z)(h:KN z st)(bZ:st.s.heap=[])(hr:r∈z.n.au){i:gD}(hi:i∈cK z r)(hf:(sc z st.an i).aI<1099511627776):sb z st.cj i:=by
 intro x hx ur;have O8:=qz K hr hi hx;refine af6 K h bZ O8.1 O8.2 ?_;have h2:=h.wf.aln (x:=x.1.toNat) (by omega);have:=adU K h.wf.bo hr hi hx ur h2;unfold dg.lt at this;unfold bv at this⊢;have:=(h.wf.bo _ (bq (l:=st.an) (show x.1.toNat<st.an.length by rw[h.wf.lb];omega))).2.1;omega
def YZ(K:Kx z)(hs:Lz z.l)(h:IV z st)(bZ:st.s.heap=[]){s t:Nat}(es:z.fr=s)(et:z.to=t){k:Nat}(hk:z.n.au[k]? =some r){g:Int}{v:dg}(hi:qf z.n z.l z.c (qA z st.an) s t k g v)(hf:v.aI<1099511627776):
  ¬v.lt (bv st.an r.head)/\(v=bv st.an r.head->CM (jr z st.an r.head).rZ (jr z st.an r.head).arg k g):=by
 obtain⟨r',uV,i,qO,rfl,rfl⟩:=ad2 K hs h.1 es et hi;rw[hk]at uV;cases uV;have hr:r∈z.n.au:=xN hk;refine⟨h.2 (r,i) ⟨hr,qO⟩ (RY K h.1 bZ hr qO hf),λe=>?_⟩;obtain⟨_,b⟩:=mS z st.an r.head z.n.au.length (fq _);unfold jr;rcases b (by rw[<-e];exact hf)with⟨b1,b2⟩|⟨k',r',i',_,b2,b3,b4,b5,b6⟩
 ·exact eA e (b2 k r (C7.1 hk).1 hk rfl i qO)
 ·rw[b5];unfold CM;simp only;rcases Nat.lt_trichotomy k k' with ef|rfl|hgt
  ·exact eA e (b6 k r ef hk rfl i qO)
  ·rw[hk]at b2;cases b2;have:=RX (OL z r) b4 i qO (by simpa using e);exact .inr ⟨rfl,this⟩
  ·exact .inl (by omega)
def anP(C:oE z.n z.l z.c z.fr.toNat z.to.toNat)(K:Kx z)(h:KN z st):PS z.n z.l z.c z.fr.toNat z.to.toNat (qA z st.an):=by
 have wR:=K.ft;intro y hy;rw[Ea]at hy;have fW:(y:Int)<z.n.ak:=by omega
 have dd:((qA z st.an).getD y default).val=bv st.an y:=Eb K h (x:=(y:Int)) (by omega) fW;rw[D9 hy]at dd⊢;obtain⟨a,b⟩:=mS z st.an y z.n.au.length (fq _);by_cases hf:(bv st.an y).aI<1099511627776
 ·rcases b hf with⟨b1,b2⟩|⟨k,r,i,_,b2,b3,b4,b5,b6⟩
  ·exact .inl b1
  ·right;refine⟨by rw[dd];exact h.der y (by omega) fW hf,k,i.1,sc z st.an i,ad1 K h (by omega) (by omega) b2 (Zcm b4),⟨r,b2,b3⟩, ?_, ?_, ?_⟩
   ·unfold jr;rw[b5]
   ·unfold jr;rw[b5]
   ·have:=Zdu b4;simp only[oS]at this;rw[dd,this];unfold dg.lt;omega
 ·exact .inl (a (by omega))
def OM(C:oE z.n z.l z.c z.fr.toNat z.to.toNat)(K:Kx z)(h:KN z st):oX z.n (qA z st.an):=by
 have hn:=K.hn;have wR:=K.ft;have iW:=C.tm;refine⟨by rw[Ea];have:=hn.1;omega,λx hx=>?_⟩;obtain⟨y,hy0,rfl⟩:=lq.1 hx;simp only[Pi]at hy0;have fW:(y:Int)<z.n.ak:=by omega
 have dd:((qA z st.an).getD y default).val=bv st.an y:=Eb K h (x:=(y:Int)) (by omega) fW;rw[D9 hy0]at dd;have hvo:jI (bv st.an y):=h.wf.bo _ (bq (by rw[h.wf.lb];omega));obtain⟨a,b⟩:=mS z st.an y z.n.au.length (fq _);have ni:jr z st.an y=mK->nM (jr z st.an y):=λe=>by rw[e];exact CN
 by_cases hf:(bv st.an y).aI<1099511627776
 ·rcases b hf with⟨b1,b2⟩|⟨k,r,i,b0,b2,b3,b4,b5,b6⟩
  ·exact ni b1
  ·refine⟨by rw[dd];exact hvo, ?_⟩;unfold jr;rw[b5];have hk:=hn.2.2.1;have hi:=Zcm b4;simp only;refine⟨by omega,by omega, ?_⟩;have Zx:=K.hl.2.2.1;unfold cK at hi;split at hi
   ·split at hi
    ·simp only[fN,g9,wh]at hi;subst hi;simp only;omega
    ·cases hi
   ·split at hi
    ·obtain⟨a,ha0,ha⟩:=ZbK.1 hi;have:=xD z;simp only[Zck]at ha0;unfold uU at ha;split at ha
     ·cases ha;simp only;omega
     ·cases ha
    ·split at hi
     ·simp only[fN,g9,wh]at hi;subst hi;simp only;omega
     ·split at hi
      ·obtain⟨d,hd0,rfl⟩:=lq.1 hi;simp only[Pi]at hd0;simp only[qy];omega
      ·cases hi
 ·exact ni (a (by omega))
def af8(C:oE z.n z.l z.c z.fr.toNat z.to.toNat)(K:Kx z)(hs:Lz z.l)(h:IV z st)(bZ:st.s.heap=[]):QD z.n z.l z.c z.fr.toNat z.to.toNat (qA z st.an):=by
 have ho:=OM C K h.1;have wR:=K.ft;intro k hk;obtain⟨r,hr⟩:=be (z.n.au.getD k default);have zB:z.n.au[k]? =some r:=by rw[<-hr];simp[List.getD,hk]
 have hrm:r∈z.n.au:=xN zB;have kr:=K.hn.2.2.2 r hrm;have hh0:0<=r.head:=kr.1;have hh1:r.head<z.n.ak:=kr.2.1;have hxm:(qA z st.an).getD r.head.toNat default∈qA z st.an:=bq (by rw[Ea];omega);have hg:=zZ K.hn K.hl K.hc ho.ok hk C.st C.tm (by rw[hr];exact ho.2 _ hxm);unfold lm at hg⊢;rw[hr]at hg⊢;have dd:=Eb K h.1 hh0 hh1;have Ak:(qA z st.an).getD r.head.toNat default=jr z st.an r.head:=by rw[D9 (by omega),show((r.head.toNat:Nat):Int)=r.head by omega]
 obtain⟨X,hX⟩:=be ((qA z st.an).getD r.head.toNat default);rw[hX]at hg dd Ak hxm⊢;have avc:=ho.2 _ hxm;rcases zV zB (Ii kr) C.st X (c:=z.c) (own:=qA z st.an) (l:=z.l)with e|⟨g,v,hi,hf,h3,e⟩
 ·exact e
 ·obtain⟨l1,l2⟩:=YZ K hs h bZ (s:=z.fr.toNat) (t:=z.to.toNat) (by omega) (by omega) zB hi hf;rw[dd]at h3;have ev:=dg.vI l1 h3;have l3:=l2 ev;rw[<-Ak]at l3;rw[e]at hg⊢;obtain⟨g1,g2⟩:=hg;have e1:X.aI=v.aI/\X.size=v.size:=by
   have:X.val=v:=by rw[dd,ev]
   rw[<-this];exact⟨rfl,rfl⟩
  rcases g2 with e'|ef
  ·exact e'
  ·exfalso;obtain⟨_,x1,x2,x3,x4⟩:=avc;obtain⟨_,y1,y2,y3,y4⟩:=g1;unfold Gx at ef;simp only at ef y1 y2 y3 y4;rw[e1.1,e1.2]at ef;unfold CM at l3;omega
def RZ(C:oE z.n z.l z.c z.fr.toNat z.to.toNat)(K:Kx z)(hs:Lz z.l)(h:IV z st)(bZ:st.s.heap=[]):qA z st.an=nk z.n z.l z.c z.fr z.to:=by
 have wR:=K.ft;have ho:=OM C K h.1;have h2:=(zX C.hn C.hl C.hc C.st C.tm (PS z.n z.l z.c z.fr.toNat z.to.toNat) (Wx C) (λown k ho hk hp=>Ww C ho hk hp)).1;have e:∀x:Nat,(x:Int)<z.n.ak->(qA z st.an).getD x default=(nk z.n z.l z.c z.fr.toNat z.to.toNat).getD x default:=λx hx=>
  (Nt C ho (anP C K h.1) (af8 C K hs h bZ) x hx).amm (Im C x hx)
 have e1:((z.fr.toNat:Nat):Int)=z.fr:=by omega
 have e2:((z.to.toNat:Nat):Int)=z.to:=by omega
 rw[e1,e2]at e h2;refine Vt (by have:=h2.1;have:=ho.1;omega) λi h1 h2'=>?_;have:=e i (by have:=ho.1;omega);simpa [List.getD,h1,h2']using this
end
end
end
structure VX(z:fp):Prop where
 C:oE z.n z.l z.c z.fr.toNat z.to.toNat
 K:Kx z
 cf:AB z.c
 Lz:Lz z.l
def OP{z:fp}(H:VX z){k0:Pf}{f0:bw}{p N M sB rB:Nat}{s0 st:dy}(aV:df f0 N)(hv:(⟨k0,z,s0⟩:SV).at f0 p)(h:IV z st)(bZ:st.s.heap≠[])(DE:st.s.bA+1300<=1000000000000)
  (h1:N<=sB) (h2:N<=rB) (h3:sB<M) (h4:rB<M) (h5:rB≠sB) {k:Nat} (hk:k<z.n.au.length) (hu:jT (z.n.au.getD k default) (st.s.e 0).x) {D:DV} (hD:Hc D (z.n.au.getD k default)):
  aQ aj 126 [.ptr p 0,D,.oP (.func 127) [.ptr sB 0,.ptr rB 0]] (aO [(rB,dZ (z.n.au.getD k default)),(sB,.box [.ptr p 0])] (cg f0 ⟨k0,z,s0⟩ (Dl z (st.s.e 0).x st k)))
   ⟨True,.v (.eB []),aO [(rB,dZ (z.n.au.getD k default)),(sB,.box [.ptr p 0])] (cg f0 ⟨k0,z,s0⟩ (sU z (st.s.e 0).x st k (eN z (z.n.au.getD k default)).length))⟩:=by
 have Sa:z.n.au.getD k default∈z.n.au:=bq hk;have avh:=λj=>anW H.C H.K h bZ (j:=j) hk hu;obtain⟨r,hr⟩:=be (z.n.au.getD k default);have hms:=λ{j i}=>Y4 (z:=z) (x:=(st.s.e 0).x) (st:=st) (k:=k) (j:=j) (i:=i);have kr:=H.K.hn.2.2.2 r (by rw[<-hr];exact Sa);rw[hr]at hD Sa hms⊢;obtain⟨V,hV⟩:=be ((⟨k0,z,s0⟩:SV):SV);have hVz:V.z=z:=by rw[<-hV]
 have hVk:V.k=k0:=by rw[<-hV]
 have agc:∀s,V.to s=⟨k0,z,s⟩:=λs=>by rw[<-hV]
 rw[hV]at hv⊢;have hL:∀q∈[(rB,dZ r),(sB,Ob.box [.ptr p 0])],N<=q.1:=by simp;omega
 have e0:Dl z (st.s.e 0).x st k=sU z (st.s.e 0).x st k 0:=rfl;rw[e0];have nu:=(aV _ _ hv.sp).1;refine t87 (k:=k0) (z:=z) (N:=M) (r:=r) (ch:=[sB,rB]) (F:=λj=>aO [(rB,dZ r),(sB,.box [.ptr p 0])] (cg f0 V (sU z (st.s.e 0).x st k j))) ⟨λj _=>⟨_,by have:=AH aV hv hL (sU z (st.s.e 0).x st k j);rw[agc]at this;exact this⟩,λj _=>?_⟩ ⟨λj i hi _ N' W0=>?_,λj r' hj hn=>?_,λ_ _=>rfl,.inl rfl⟩ rfl H.Lz.mono H.K.hl.2.2.1 ?_ ⟨kr.2.2.1,kr.2.2.2.1⟩ H.K.hl.2.2.2 ?_ hD
 ·refine km (oF aV hv _) (by omega) λq hq=>?_;simp only[fN,g9,wh]at hq;rcases hq with rfl|rfl
  ·exact⟨h4,λm hm=>by simp[dZ,bb,bQ,aP]at hm⟩
  ·refine⟨h3,λm hm=>?_⟩;simp only[bb,bQ,aP,wa,fN,g9,wh]at hm;subst hm;rw[qr nu hL,(lA hv _).sp];simp
 ·have hib:=B0 (z:=z) H.K.ft.2 (xN hi);obtain⟨m1,m2,m3⟩:=avh j;have dK:=AH aV hv hL (sU z (st.s.e 0).x st k j);rw[agc]at dK;have:=t88 (i:=i) (r:=r) (sB:=sB) (rB:=rB) W0 dK (by simp[h5.symm]) (by simp) (B4 H.K H.cf m1.wf Sa hib) m3 (λ_ hw=>by
   have hh:0<=r.head/\r.head<z.n.ak:=⟨kr.1,kr.2.1⟩;exact m1.wf.qZ (by omega) (Lg H.K m1.wf.bo Sa hib) (by have:=H.K.hn.2.1;omega) (by omega))
  have e:=Y1 aV hv hL (sU z (st.s.e 0).x st k j) (jq z r (sU z (st.s.e 0).x st k j) i);rw[agc]at e;simp only at this;rw[e,<-hms hi]at this;exact this
 ·simp only[aH,bL]at hn⊢;split at hn
  ·cases hn
  ·split at hn
   ·cases hn
   ·rename_i g1 g2;rw[aY g1,aY g2];have hf:f0 r'=none:=by
     cases ho:f0 r' with
     |none=>rfl
     |some o=>
      exfalso;have:cg f0 V (sU z (st.s.e 0).x st k j) r'≠none:=by
       simp only[cg,aH,bL];repeat' split
       all_goals first|(intro h;cases h)|(rw[ho];simp)
      exact this hn
    exact g6 hv _ hf
 ·have:=H.C.tm;have:=H.K.ft;omega
 ·intro x hx;simp only[fN,g9,wh]at hx;rcases hx with rfl|rfl
  ·exact⟨_,by simp[h5.symm];rfl⟩
  ·exact⟨_,by simp[dZ];rfl⟩
section
variable{f0:bw}{z:fp}
def Ec{v:SV}{p N:Nat}{L:c7}(hN:∀r,N<=r->f0 r=none)(hv:v.at f0 p){M:Nat}(hM:N<=M)(hL:∀q∈L,q.1<M)(s:dy):∀r,M<=r->aO L (cg f0 v s) r=none:=λr hr=>by
 rw[fF λo h=>by have:=hL _ h;simp only at this;omega];exact g6 hv s (hN r (by omega))
def OQ(a:Nat)(o o':Ob)(L:c7)(f:bw):aO ((a,o)::(a,o')::L) f=aO ((a,o)::L) f:=by
 funext k;simp only[aH];split<;>rfl
def ati{X:bw}{N p:Nat}{aK aZ:Nat}{tm:dn}{l:eO}{L1:c7}{cs:bG}(hX:df X N)(hp:X p=some (.box cs))(nu:p<N)(hM:N+3<=aZ)(XP:∀q∈L1,N+3<=q.1)(iW:fK (aO (L1++[(N+2,.box [.ptr p 0])]) X) (aO [(N+2,.box [.ptr p 0])] X) id tm l):
  Le ⟨tm,aO (L1++[(N+2,.box [.ptr p 0])]) X,aK,N,[]⟩ ⟨DM.look l,aO [(N+2,.box [.ptr p 0])] X,aZ,N,[]⟩:=by
 have e1:aO (L1++[(N+2,Ob.box [.ptr p 0])]) X (N+2)=some (.box [.ptr p 0]):=by
  rw[<-AG,fF λo h=>by have:=XP _ h;simp only at this;omega];simp
 have e2:aO (L1++[(N+2,Ob.box [.ptr p 0])]) X p=some (.box cs):=by
  rw[<-AG,fF λo h=>by have:=XP _ h;simp only at this;omega];simp[hp];omega
 refine Le.d6 hX (by omega) ?_ ?_ ?_ iW
 ·simp;omega
 ·clear iW e1 e2;induction L1 with
  |nil=>simp[bT]
  |cons a L1 ih=>
   refine⟨λh=>?_,ih λq hq=>XP q (by simp[hq])⟩;have:=XP a (by simp);omega
 ·refine⟨⟨_,e1,.inr ⟨rfl,λm hm=>?_⟩,λh=>by omega⟩,trivial⟩;simp only[bb,bQ,aP,wa,fN,g9,wh]at hm;subst hm;exact⟨_,_,e2,by simp[hp];omega,bk _⟩
def rL{st:dy}{f:Nat}(bZ:st.s.heap≠[]):iJ z (f+1) st=iJ z f (pz z st):=by
 simp only[iJ,aY bZ]
def C0{z:fp}(H:VX z):∀{f g:Nat} {st:dy},IV z st->qn st<f->qn st<g->iJ z f st=iJ z g st
 |0,_,_,_,h,_=>by omega
 |_,0,_,_,_,h=>by omega
 |f+1,g+1,st,hI,h1,h2=>by
  by_cases bZ:st.s.heap=[]
  ·simp only[iJ,cF bZ]
  ·rw[rL bZ,rL bZ];obtain⟨a,b,_⟩:=B2 H.C H.K hI bZ;exact C0 H a (by omega) (by omega)
def t62{p N:Nat}(H:VX z){k0:Pf}{s0:dy}(hN:∀r,N<=r->f0 r=none)(hv:(⟨k0,z,s0⟩:SV).at f0 p)(hI:IV z s0)(DE:s0.s.bA+1300*(qn s0+1)<=1000000000000):
  aQ aj 90 [.ptr p 0] f0 ⟨True,.v (.eB []),cg f0 ⟨k0,z,s0⟩ (iJ z (qn s0+1) s0)⟩:=by
 obtain⟨R,hR⟩:=be (iJ z (qn s0+1) s0);rw[hR];refine c62.qE hN (by simp) λaV=>?_;obtain⟨V,hV⟩:=be ((⟨k0,z,s0⟩:SV):SV);have hVz:V.z=z:=by rw[<-hV]
 have hVk:V.k=k0:=by rw[<-hV]
 have Pd:V.s=s0:=by rw[<-hV]
 have agc:∀s,V.to s=⟨k0,z,s⟩:=λs=>by rw[<-hV]
 have nu:=(aV _ _ hv.sp).1;have np:∀k,p≠N+k:=λk=>by omega
 have ew:=hv.sp;rw[hV]at hv⊢;simp;apply aa.ag cL fw [1];simp[ai1];obtain⟨L,hL⟩:=be ([(N+2,Ob.box [.ptr p 0])]);have hLN:∀q∈L,N<=q.1:=by rw[<-hL];simp
 have hLM:∀{M},N+3<=M->∀q∈L,q.1<M:=by rw[<-hL];simp;omega
 have hf0:cg f0 V s0=f0:=by rw[<-Pd];exact eS hv
 apply aa.block;refine aa.loop (λst:dy=>⟨DM.look [(1,.ptr (N+2) 0)],aO L (cg f0 V st),N+1000,N,[]⟩)
  (λst=>IV z st/\st.s.bA+1300*(qn st+1)<=1000000000000/\iJ z (qn st+1) st=R) qn s0 (by
   rw[hf0,<-hL];refine Le.same (λr hr=>?_) (by simp[fk]);simp only[aH,bL];rw[aY (by omega)];exact hN r (by omega)) ⟨hI,DE,hR⟩ (λst yS=>?_)
 obtain⟨hI',avR,SR⟩:=yS;apply aa.block;have dK:=AH aV hv hLN st;have W3:cD.W3 [.ptr V.k.q 0] (aO L (cg f0 V st))=⟨xA st.s st.an,.v (vR st.s),aO L (cg f0 V ⟨st.an,st.cj,st.fB,fQ st.an st.s⟩)⟩:=by
  have:=anX dK.qv;rw[BP aV hv hLN]at this;exact this
 have hq:∀s,aO L (cg f0 V s) p=some (.box (mW V.k V.z)):=λs=>(AH aV hv hLN s).sp;have hb:∀s,aO L (cg f0 V s) (N+2)=some (.box [.ptr p 0]):=λs=>by rw[<-hL];simp
 simp only[mW]at hq;have ho:=hI'.1.wf.xA (by have:=H.K.hn.2.1;omega);have hC:=λs=>oF aV hv s;have Zs:=H.K.hn;by_cases bZ:st.s.heap=[]
 ·have hp1:vR st.s=.eB [ti 0,.bool false]:=cF bZ;have Je:fQ st.an st.s=st.s:=cF bZ;rw[hp1,Je]at W3;apply aa.cY (atj ay.nil) fw (rs:=Fz) rfl (by kernel_rfl) [1,2,3];simp[Fz,hb,hq,W3,ho];apply aa.sq cL fw [1,15];simp[ab3];refine aa.cond rfl (λ_=>?_) (λg=>by cases g);simp only[iJ,cF bZ]at SR;subst SR;refine aa.le (ml (l:=[]) (aZ:=N+2000) (hC st) (by omega) hLN (by simp)) ?_;apply aa.ret;simp[ab5];rfl
 ·obtain⟨kn,⟨x0,x1⟩,xf,_⟩:=hI'.1.pop H.K bZ;have hlf:=hI'.1.wf.lf;obtain⟨y,hy⟩:=kK x0;have hp1:vR st.s=.eB [ti y,.bool true]:=by rw[<-hy];exact aY bZ
  rw[hp1]at W3;have yB:y<st.cj.length:=by omega
  have rr:=kb yB;obtain⟨stp,anY⟩:=be ((⟨st.an,st.cj,st.fB,fQ st.an st.s⟩:dy):dy);have hpf:stp.cj=st.cj:=by rw[<-anY]
  have hpp:(⟨stp.an,st.cj.set y true,stp.fB,stp.s⟩:dy)=qM st:=by rw[<-anY];unfold qM;rw[hy];rfl
  rw[anY]at W3;apply aa.cY (atj ay.nil) fw (rs:=Fz) rfl (by kernel_rfl) [1,2,3];simp[Fz,hb,hq,W3,ho];apply aa.sq cL fw [1,2,15];simp[ab3];refine aa.cond rfl (λg=>by cases g) (λ_=>?_);apply aa.skip;simp;have pN:=(AH aV hv hLN stp).rf;simp only[sZ,hpf]at pN;apply aa.ag cL fw [1,2];simp[ai2,hb,hq,pN,yB,rr];have e3:aO ((V.k.rf,.bE 0 4 1 ((iy st.cj).set y [.bool true]))::L) (cg f0 V stp)=aO L (cg f0 V (qM st)):=by
   rw[show(V.k.rf,Ob.bE 0 4 1 ((iy st.cj).set y [.bool true]))::L=[(V.k.rf,Ob.bE 0 4 1 ((iy st.cj).set y [.bool true]))]++L from rfl,<-AG,B3,<-Gk,KU hv,hpp];intro a ha b fJ;have:=hLN b fJ;have:=(aV _ _ hv.rf).1;simp only[fN,g9,wh]at ha;subst ha;simp only;omega
  rw[e3];apply aa.ag cL fw [1,2,26,27,28];simp[ai3,hb,hq,hVz];apply aa.block;refine aa.loop (λk:Nat=>⟨DM.look [(1,.ptr (N+2) 0),(2,.v (ti y)),(26,.v (.sl (aW z.n.au))),(27,.v (ti z.n.au.length)),(28,.v (ti k))],aO L (cg f0 V (Dl z (y:Int) st k)),N+2000,N,[]⟩)
   (λk=>k<=z.n.au.length) (λk=>z.n.au.length-k) 0 (Le.same (Ec hN hv (by omega) (hLM (by omega)) _) (by simp[fk])) (by omega) (λk hk=>?_)
  apply aa.ag cL fw [1,2,26,27,28,29];simp[ai4];apply aa.seq;refine aa.cond rfl (λg=>?_) (λg=>?_)
  ·have g:k<z.n.au.length:=by simpa using g
   have rk:=lW g;have hms:=Y3 (z:=z) (x:=(y:Int)) (st:=st) g;have hsc:=λD hD hu=>OP (M:=N+2500) H (k0:=k0) aV (by rw[hV];exact hv) hI' bZ (by omega) (sB:=N+2) (rB:=N+2048) (by omega) (by omega) (by omega) (by omega) (by omega) g hu (D:=D) hD;have w2:IntKind.i64.wrap ((k:Int)+1)=((k+1:Nat):Int):=by rw[aF (by have:=Zs.2.2.1;omega)];omega
   apply aa.skip;simp;apply aa.seq;apply aa.block;obtain⟨⟨W4,rh,ra,rb,rp,ro⟩,hr⟩:=be (z.n.au.getD k default);rw[hr]at rk hms hsc;simp only[dv.enc]at rk;apply aa.ag cL fw [1,2,5,26,27,28];simp[ai5,g,rk,ed];rw[OQ];apply aa.seq;obtain⟨u,hu⟩:=be (decide (jT ⟨W4,rh,ra,rb,rp,ro⟩ y):Bool);apply aa.ag (au8 ay.nil) fw [1,2,5,26,27,28,35];simp[ai6,hu,ed];have hpX:∀s,cg f0 V s p=some (.box (mW V.k V.z)):=λs=>(lA hv s).sp;refine aa.cond rfl (λg2=>?_) (λg2=>?_)
   ·have g2:u=false:=by simpa using g2
    rw[g2]at hu;have hu:=wS hu;rw[aY hu]at hms;apply aa.exit;simp;rw[<-hL];refine aa.le (ati (L1:=[_]) (l:=[(1,.ptr (N+2) 0),(2,.v (ti y)),(26,.v (.sl (aW z.n.au))),(27,.v (ti z.n.au.length)),(28,.v (ti k))]) (aZ:=N+3000) (hC _) (hpX _) nu (by omega) (by simp) (by simp)) ?_;apply aa.fA cL fw [1,2,26,27,28];simp[ab4,w2];rw[hL,<-hms];exact⟨k+1,Le.same (Ec hN hv (by omega) (hLM (by omega)) _) (by simp[fk]),by omega,by omega⟩
   ·have g2:u=true:=by simpa using g2
    rw[g2]at hu;have hu:=qW hu;rw[cF hu]at hms;apply aa.skip;simp;simp only[hy]at hsc;have mE:∀r',aO [(N+2048,dZ ⟨W4,rh,ra,rb,rp,ro⟩),(N+2,.box [.ptr p 0])] (cg f0 V (Dl z (y:Int) st k)) r'=none->aO [(N+2048,dZ ⟨W4,rh,ra,rb,rp,ro⟩),(N+2,.box [.ptr p 0])] (cg f0 V (sU z (y:Int) st k (eN z ⟨W4,rh,ra,rb,rp,ro⟩).length)) r'=none:=by
     intro r' gS;simp only[aH,bL]at gS⊢;split at gS
     ·cases gS
     ·split at gS
      ·cases gS
      ·rename_i a1 a2;rw[aY a1,aY a2];cases hf:f0 r' with
       |none=>exact g6 hv _ hf
       |some o=>
        exfalso;have:cg f0 V (Dl z (y:Int) st k) r'≠none:=by
         simp only[cg,aH,bL];repeat' split
         all_goals first|(intro h;cases h)|(rw[hf];simp)
        exact this gS
    have aC:=BK ay.nil (λN' _=>hsc _ (R6 _) hu) (by rw[hV];exact mE);rw[hV]at aC;rw[<-hL];apply aa.De aC fw (rs:=QA) rfl (by kernel_rfl) [1,2,26,27,28];simp[QA,dZ,ed];refine aa.le (ati (L1:=[_]) (l:=[(1,.ptr (N+2) 0),(2,.v (ti y)),(26,.v (.sl (aW z.n.au))),(27,.v (ti z.n.au.length)),(28,.v (ti k))]) (aZ:=N+3000) (hC _) (hpX _) nu (by omega) (by simp) (by simp)) ?_;apply aa.fA cL fw [1,2,26,27,28];simp[ab4,w2];rw[hL,<-hms];exact⟨k+1,Le.same (Ec hN hv (by omega) (hLM (by omega)) _) (by simp[fk]),by omega,by omega⟩
  ·have g:k=z.n.au.length:=by
    have:¬k<z.n.au.length:=by simpa using g
    omega
   apply aa.exit;simp;have e4:Dl z (y:Int) st k=pz z st:=by
    unfold Dl pz;rw[g,ZbX,hy]
   rw[e4];obtain⟨i1,i2,i3⟩:=B2 H.C H.K hI' bZ;have l1:=OO (z:=z) (x:=(st.s.e 0).x) z.n.au;refine⟨pz z st,Le.same (Ec hN hv (by omega) (hLM (by omega)) _) (by simp[fk]),⟨i1, ?_, ?_⟩,i2⟩
   ·have:=Zs.2.2.1;unfold af5 at i3;omega
   ·rw[rL bZ]at SR;rw[<-SR];exact C0 H i1 (by omega) (by omega)
end
def iE(p N:Nat)(r:dv)(k:Int)(w:dg):c7:=[(N+1058,dZ r),(N+1057,.box [.v (ti k)]),(N+55,oM w),(N+3,.box [.ptr p 0]),(N+5,.box [.v (ti 0),.v (ti 0),.v (ti 0),.v (ti 0)])]
def ad5(z:fp)(an:b7)(w:dg)(r:dv)(k:Int)(x:Cell):Cell:=match OK z an w r with
 |some i=>⟨w.aI,w.size,k,i.1⟩
 |none=>x
def OR{z:fp}(H:VX z){k0:Pf}{f0:bw}{p N:Nat}{st:dy}(aV:df f0 N)(hv:(⟨k0,z,st⟩:SV).at f0 p)(W:WF z.n.ak.toNat st){r:dv}(hr:r∈z.n.au){k:Int}{x:Cell}{w:dg}{D:DV}(hD:Hc D r):
  aQ aj 85 [.ptr p 0,D,.oP (.func 129) [.ptr (N+3) 0,.ptr (N+55) 0,.ptr (N+1057) 0,.ptr (N+105) 0]] (aO ((N+105,di x)::iE p N r k w) f0)
   ⟨True,.v (.eB []),aO ((N+105,di (ad5 z st.an w r k x))::iE p N r k w) f0⟩:=by
 have kr:=H.K.hn.2.2.2 r hr;have nu:=(aV _ _ hv.sp).1;have wR:=H.K.ft;have iW:=H.C.tm;have hL:∀(y:Cell),∀q∈((N+105,di y)::iE p N r k w),N<=q.1:=by intro y;simp[iE]
 have dK:∀y,(⟨k0,z,st⟩:SV).at (aO ((N+105,di y)::iE p N r k w) f0) p:=λy=>hv.aO aV (hL y);have hCl:∀y,df (aO ((N+105,di y)::iE p N r k w) f0) (N+2000):=λy=>by
  refine km aV (by omega) λq hq=>?_;simp only[iE,fN,g9,wh]at hq;rcases hq with rfl|rfl|rfl|rfl|rfl|rfl
  ·exact⟨by simp only;omega,λm hm=>by simp[di,bb,bQ,aP]at hm⟩
  ·exact⟨by simp only;omega,λm hm=>by simp[dZ,bb,bQ,aP]at hm⟩
  ·exact⟨by simp only;omega,λm hm=>by simp[bb,bQ,aP]at hm⟩
  ·exact⟨by simp only;omega,λm hm=>by simp[oM,bb,bQ,aP]at hm⟩
  ·refine⟨by simp only;omega,λm hm=>?_⟩;simp only[bb,bQ,aP,wa,fN,g9,wh]at hm;subst hm;rw[(dK y).sp];simp
  ·exact⟨by simp only;omega,λm hm=>by simp[bb,bQ,aP]at hm⟩
 have mE:∀(y y':Cell) r',aO ((N+105,di y)::iE p N r k w) f0 r'=none->aO ((N+105,di y')::iE p N r k w) f0 r'=none:=by
  intro y y' r' h;rw[aH]at h⊢;split at h
  ·cases h
  ·rename_i h1;rw[aY h1];exact h
 have pV:∀y y',aO [(N+105,di y')] (aO ((N+105,di y)::iE p N r k w) f0)=aO ((N+105,di y')::iE p N r k w) f0:=λy y'=>by
  rw[AG];exact OQ _ _ _ _ _
 have call:∀(y:Cell) (i:gD),i∈cK z r->∀N',(∀r',N'<=r'->aO ((N+105,di y)::iE p N r k w) f0 r'=none)->
   aQ aj 129 ([.v (ti i.1),.v (ti i.2.1),kN i.2.2]++mT [N+3,N+55,N+1057,N+105]) (aO ((N+105,di y)::iE p N r k w) f0)
    ⟨True,.v (.bool (!decide (sc z st.an i=w))),aO ((N+105,di (if sc z st.an i=w then⟨w.aI,w.size,k,i.1⟩else y))::iE p N r k w) f0⟩:=λy i hi N' W0=>by
  have:=t90 (i:=i) (sB:=N+3) (vB:=N+55) (iB:=N+1057) (cB:=N+105) (w:=w) (k:=k) (x:=y) W0 (dK y) (by simp[iE]) (by simp[iE]) (by simp[iE]) (by simp) (B4 H.K H.cf W hr hi);rw[pV]at this;by_cases e:sc z st.an i=w
  ·simpa [e]using this
  ·simpa [e]using this
 have ch:Hd [N+3,N+55,N+1057,N+105] (aO ((N+105,di x)::iE p N r k w) f0):=by
  intro q hq;simp only[fN,g9,wh]at hq;rcases hq with rfl|rfl|rfl|rfl
  ·exact⟨_,by simp[iE];rfl⟩
  ·exact⟨_,by simp[iE,oM];rfl⟩
  ·exact⟨_,by simp[iE];rfl⟩
  ·exact⟨_,by simp[di];rfl⟩
 unfold ad5;cases hp:OK z st.an w r with
 |none=>
  have bZ:∀i∈cK z r,sc z st.an i≠w:=λi hi=>by
   have:=Zdi.1 hp i hi;simpa using this
  refine t57 (k:=k0) (z:=z) (N:=N+2000) (r:=r) (ch:=[N+3,N+55,N+1057,N+105]) (F:=λ_=>aO ((N+105,di x)::iE p N r k w) f0) (B:=λ_=>true) (m:=(cK z r).length) ⟨λ_ _=>⟨_,dK x⟩,λ_ _=>hCl x⟩ ⟨λj i hi _ N' W0=>?_,λ_ _ _ h=>h,λ_ _=>rfl,.inl rfl⟩ H.Lz.mono H.K.hl.2.2.1 (by omega) ⟨kr.2.2.1,kr.2.2.2.1⟩ H.K.hl.2.2.2 ch hD;have h1:=call x i (xN hi) N' W0;have h2:=bZ i (xN hi);simpa [h2]using h1
 |some i=>
  obtain⟨hi1,idx,avi,mF,ef⟩:=Zc8.1 hp;have hi1:sc z st.an i=w:=by simpa using hi1
  have e0:(λj=>aO ((N+105,di (if idx<j then⟨w.aI,w.size,k,i.1⟩else x))::iE p N r k w) f0) 0=aO ((N+105,di x)::iE p N r k w) f0:=by simp
  have e1:(λj=>aO ((N+105,di (if idx<j then⟨w.aI,w.size,k,i.1⟩else x))::iE p N r k w) f0) (idx+1)=aO ((N+105,di ⟨w.aI,w.size,k,i.1⟩)::iE p N r k w) f0:=by simp
  rw[<-e0]at ch⊢;simp only;rw[<-e1];refine t57 (k:=k0) (z:=z) (N:=N+2000) (r:=r) (ch:=[N+3,N+55,N+1057,N+105]) (F:=λj=>aO ((N+105,di (if idx<j then⟨w.aI,w.size,k,i.1⟩else x))::iE p N r k w) f0) (B:=λj=>decide (j≠idx)) (m:=idx+1) ⟨λ_ _=>⟨_,dK _⟩,λ_ _=>hCl _⟩ ⟨λj i' qO hj N' W0=>?_,λ_ _ _ h=>mE _ _ _ h,λj hj=>?_,.inr ⟨by omega,by omega,by simp⟩⟩ H.Lz.mono H.K.hl.2.2.1 (by omega) ⟨kr.2.2.1,kr.2.2.2.1⟩ H.K.hl.2.2.2 ch hD
  ·have ZJ:¬idx<j:=by omega
   simp only[ZJ,OV]at W0⊢;have h1:=call x i' (xN qO) N' W0;by_cases e:j=idx
   ·subst e;rw[xb avi,mF]at qO;cases qO;simpa [hi1]using h1
   ·have h2:=ef j (by omega);have HZ:j<(cK z r).length:=by omega
    rw[xb HZ]at qO;cases qO;have h3:¬idx<j+1:=by omega
    have h4:sc z st.an (cK z r)[j]≠w:=by simpa using h2
    simpa [h4,e,h3]using h1
  ·have:j≠idx:=by omega
   simpa using this
section
variable{z:fp}{r:dv}{f0:bw}
def pi(p N:Nat)(w:dg):c7:=[(N+55,oM w),(N+3,.box [.ptr p 0]),(N+5,.box [.v (ti 0),.v (ti 0),.v (ti 0),.v (ti 0)])]
def HD{an:b7}{h:Int}{x:Cell}{k:Nat}(hr:z.n.au.getD k default=r):nR z an h x k=if r.head≠h\/(bv an h).aI>=1099511627776\/x.rZ>=0 then x else ad5 z an (bv an h) r k x:=by
 subst hr;rfl
def ad6{N p:Nat}{aK aZ:Nat}{tm:dn}{l:eO}{cs:bG}{k:Int}{w:dg}{x:Cell}(aV:df f0 N)(hp:f0 p=some (.box cs))(hM:N+106<=aZ)(iW:fK (aO ((N+105,di x)::iE p N r k w) f0) (aO ((N+105,di x)::pi p N w) f0) id tm l):
  Le ⟨tm,aO ((N+105,di x)::iE p N r k w) f0,aK,N,[]⟩ ⟨DM.look l,aO ((N+105,di x)::pi p N w) f0,aZ,N,[]⟩:=by
 have nu:=(aV _ _ hp).1;have np:∀k,p≠N+k:=λk=>by omega
 refine Le.d6 aV (by omega) ?_ ?_ ?_ iW
 ·simp[pi];omega
 ·simp[bT,iE,pi]
 ·simp[dT,eK,iE,pi,di,oM,np,hp]
def t63{p N h:Nat}(H:VX z){k0:Pf}{st:dy}(hN:∀r,N<=r->f0 r=none)(hv:(⟨k0,z,st⟩:SV).at f0 p)(W:WF z.n.ak.toNat st)(hh:h<z.n.ak.toNat):
  aQ aj 91 [.ptr p 0,.v (ti h)] f0 ⟨True,.v (.agg (jr z st.an h).enc),f0⟩:=by
 obtain⟨R,hR⟩:=be (jr z st.an h);rw[hR];refine c63.qE hN (by simp) λaV=>?_;have ou:=hv.sp;have pM:=hv.rb;simp only[mW,sd]at ou pM;have nu:=(aV _ _ hv.sp).1;have Wz:=(aV _ _ hv.rb).1;simp only at Wz;have np:∀k,p≠N+k:=λk=>by omega
 have nb:∀k,k0.rb≠N+k:=λk=>by omega
 have hhb:h<st.an.length:=by rw[W.lb];exact hh
 have rr:=dq hhb;obtain⟨w,hw⟩:=be (st.an.getD h default);rw[hw]at rr;have KX:bv st.an h=w:=hw;have Zs:=H.K.hn;simp;apply aa.ag cL fw [1,2,4];simp[ajb,ed];apply aa.ag cL fw [1,2,4,5];simp[ajc,ou,pM,np,nb,hhb,rr,ed];apply aa.ag cL fw [1,2,4,5,6];simp[ajd,ed];apply aa.sq cL fw [1,2,4,5,6,21,22,23];simp[aje,ou,np,ed];have eT:aO [(N+105,Ob.box [.v (ti 1099511627776),.v (ti 0),.v (ti (-1)),.v (ti 0)]),(N+105,Ob.box [.v (ti 0),.v (ti 0),.v (ti 0),.v (ti 0)]),(N+55,Ob.box [.v (ti w.aI),.v (ti w.size)]),(N+55,Ob.box [.v (ti 0),.v (ti 0)]),(N+5,Ob.box [.v (ti 0),.v (ti 0),.v (ti 0),.v (ti 0)]),(N+3,Ob.box [.ptr p 0])] f0=aO ((N+105,di mK)::pi p N w) f0:=by
  funext q;simp only[aH,bL,pi,oM,di,mK]
  (repeat' split)<;>first|rfl|omega
 rw[eT];apply aa.block;have ni:∀(L:c7) M,N<=M->(∀q∈L,q.1<M)->∀r,M<=r->aO L f0 r=none:=λL M hM hL r hr=>by
  rw[fF λo h=>by have:=hL _ h;simp only at this;omega];exact hN r (by omega)
 refine aa.loop (λk:Nat=>⟨DM.look [(1,.v (ti h)),(2,.ptr (N+3) 0),(4,.ptr (N+5) 0),(5,.ptr (N+55) 0),(6,.ptr (N+105) 0),(21,.v (.sl (aW z.n.au))),(22,.v (ti z.n.au.length)),(23,.v (ti k))],aO ((N+105,di (pA z st.an h k))::pi p N w) f0,N+1000,N,[]⟩)
  (λk=>k<=z.n.au.length) (λk=>z.n.au.length-k) 0 (Le.same (ni _ _ (by omega) (by simp[pi])) (by simp[fk])) (by omega) (λk hk=>?_)
 obtain⟨x,hx⟩:=be (pA z st.an h k);rw[hx];apply aa.ag cL fw [1,2,4,5,6,21,22,23,24];simp[ajf];apply aa.seq;refine aa.cond rfl (λg=>?_) (λg=>?_)
 ·have g:k<z.n.au.length:=by simpa using g
  have rk:=lW g;have hrm:z.n.au.getD k default∈z.n.au:=bq g;have oT:=AE z st.an h k;have w2:IntKind.i64.wrap ((k:Int)+1)=((k+1:Nat):Int):=by rw[aF (by have:=Zs.2.2.1;omega)];omega
  obtain⟨r,hr⟩:=be (z.n.au.getD k default);rw[hr]at rk hrm;rw[HD hr,hx,KX]at oT;have nh:=λD hD=>OR (k:=k) (x:=x) (w:=w) H aV hv W hrm (D:=D) hD;obtain⟨W4,rh,ra,rb,rp,ro⟩:=r;simp only[dv.enc]at rk;simp only at oT;apply aa.skip;simp;apply aa.seq;apply aa.block;apply aa.ag cL fw [1,2,4,5,6,7,8,21,22,23];simp[ajg,g,rk,ed];have eU:aO ((N+1058,Ob.box [.v (ti W4),.v (ti rh),.v (ti ra),.v (ti rb),.v (ti rp),.v (ti ro)])::(N+1057,Ob.box [.v (ti k)])::(N+1058,Ob.box [.v (ti 0),.v (ti 0),.v (ti 0),.v (ti 0),.v (ti 0),.v (ti 0)])::(N+1057,Ob.box [.v (ti 0)])::(N+105,di x)::pi p N w) f0=aO ((N+105,di x)::iE p N ⟨W4,rh,ra,rb,rp,ro⟩ k w) f0:=by
   funext q;simp only[aH,bL,pi,iE,dZ]
   (repeat' split)<;>first|rfl|omega
  rw[eU];apply aa.seq;obtain⟨c1,b8⟩:=be (decide (rh≠h\/w.aI>=1099511627776\/x.rZ>=0):Bool);refine aa.cH cL fw [(1,.v (ti h)),(2,.ptr (N+3) 0),(4,.ptr (N+5) 0),(5,.ptr (N+55) 0),(6,.ptr (N+105) 0),(7,.ptr (N+1057) 0),(8,.ptr (N+1058) 0),(21,.v (.sl (aW z.n.au))),(22,.v (ti z.n.au.length)),(23,.v (ti k)),(41,.v (.bool c1))] ?_ ?_
  ·by_cases q1:rh=h
   ·by_cases q2:w.aI>=1099511627776
    ·have:c1=true:=by rw[<-b8];simp[q2]
     simp[MV,iE,di,oM,dZ,q1,q2,this]
    ·by_cases q3:x.rZ>=0
     ·have:c1=true:=by rw[<-b8];simp[q3]
      simp[MV,iE,di,oM,dZ,q1,q2,q3,this]
     ·have:c1=false:=by rw[<-b8];simp[q1,q2,q3]
      simp[MV,iE,di,oM,dZ,q1,q2,q3,this]
   ·have:c1=true:=by rw[<-b8];simp[q1]
    simp[MV,iE,di,oM,dZ,q1,this]
  refine aa.cond rfl (λg2=>?_) (λg2=>?_)
  ·have g2:c1=true:=by simpa using g2
   rw[g2]at b8;rw[cF (qW b8)]at oT;apply aa.exit;simp;refine aa.le (ad6 (l:=[(1,.v (ti h)),(2,.ptr (N+3) 0),(4,.ptr (N+5) 0),(5,.ptr (N+55) 0),(6,.ptr (N+105) 0),(21,.v (.sl (aW z.n.au))),(22,.v (ti z.n.au.length)),(23,.v (ti k))]) (aZ:=N+3000) aV hv.sp (by omega) (by simp[iE,pi,di,oM])) ?_;apply aa.fA cL fw [1,2,4,5,6,21,22,23];simp[ab6,w2];refine⟨k+1, ?_,by omega,by omega⟩;rw[oT];exact Le.same (ni _ _ (by omega) (by simp[pi])) (by simp[fk])
  ·have g2:c1=false:=by simpa using g2
   rw[g2]at b8;rw[aY (wS b8)]at oT;have aC:=BK ay.nil (λN' _=>nh _ (R6 _)) (λr' h=>by
    rw[aH]at h⊢;split at h
    ·cases h
    ·rename_i h1;rw[aY h1];exact h)
   apply aa.skip;simp;apply aa.De aC fw (rs:=QC) rfl (by kernel_rfl) [1,2,4,5,6,21,22,23];have l1:aO (iE p N ⟨W4,rh,ra,rb,rp,ro⟩ k w) f0 (N+3)=some (.box [.ptr p 0]):=by simp[iE]
   have l2:aO (iE p N ⟨W4,rh,ra,rb,rp,ro⟩ k w) f0 (N+1058)=some (dZ ⟨W4,rh,ra,rb,rp,ro⟩):=by simp[iE]
   simp[QC,l1,l2,dZ];refine aa.le (ad6 (l:=[(1,.v (ti h)),(2,.ptr (N+3) 0),(4,.ptr (N+5) 0),(5,.ptr (N+55) 0),(6,.ptr (N+105) 0),(21,.v (.sl (aW z.n.au))),(22,.v (ti z.n.au.length)),(23,.v (ti k))]) (aZ:=N+3000) aV hv.sp (by omega) (by simp[iE,pi,di,oM])) ?_;apply aa.fA cL fw [1,2,4,5,6,21,22,23];simp[ab6,w2];refine⟨k+1, ?_,by omega,by omega⟩;rw[oT];exact Le.same (ni _ _ (by omega) (by simp[pi])) (by simp[fk])
 ·have g:k=z.n.au.length:=by
   have:¬k<z.n.au.length:=by simpa using g
   omega
  have hxR:x=R:=by rw[<-hx,g,<-hR];rfl
  subst hxR;apply aa.exit;simp;apply aa.ag cL fw [4];simp[ajh,di,pi];refine aa.le (ml (l:=[(4,.v (.box [ti x.aI,ti x.size,ti x.rZ,ti x.arg]))]) (aZ:=N+3000) aV (by omega) (by simp) ?_) ?_
  ·simp;exact bY (l:=[]) aV (by omega) (by simp)
  apply aa.ret;simp[ab7,Cell.enc];rfl
end
def oJ(a N:Nat):c7:=[(N+15,.box [.oP (.func 83) [.ptr a 0],.aX,.je (N+13),.v (ti 0),.v (ti 0)]),(N+13,.map [.int .i64] false 0 [])]
def t54{f0:bw}{a N:Nat}{cs:bG}(hN:∀r,N<=r->f0 r=none)(ha:f0 a=some (.box cs)):
  tP aj 82 [.oP (.func 83) [.ptr a 0]] f0 N (N+20) (λval mG=>val=.ptr (N+15) 0/\mG=aO (oJ a N) f0):=by
 refine c54.aeM hN (by simp) (by omega) ?_ λaV=>?_
 ·rintro val mG ⟨rfl,rfl⟩;refine⟨λr hr h=>?_,λr hr=>?_⟩
  ·rw[qr hr (by simp[oJ])];exact h
  ·rw[fF λo h=>by simp[oJ]at h;omega];exact hN r (by omega)
 ·simp;apply aa.ag cL fw [0,2];simp[MO];apply aa.ag cL fw [2];simp[MP,ed];apply aa.ret;simp[aeL,oJ]
section
variable{z:fp}{st:dy}
def IT:Pf:=⟨2025,2028,2031,2304,2012,2309,2302⟩
def dQ(z:fp)(st:dy):c7:=[(2033,.box (mW IT z)),(2025,sd st),(2028,sZ st),(2031,s8 st),(2304,qB 2012 2309 2302 st.s),(2309,hB st.s),(2302,mB st.s),(2012,.box [.ptr 2033 0])]
def pB(z:fp)(st:dy)(L:c7)(hL:∀q∈L,3000<=q.1):(⟨IT,z,st⟩:SV).at (cJ (L++dQ z st)) 2033:=by
 have h:∀k,k<3000->cJ (L++dQ z st) k=cJ (dQ z st) k:=by
  intro k hk;induction L with
  |nil=>rfl
  |cons a L ih=>
   obtain⟨r,o⟩:=a;have:=hL (r,o) (by simp);simp only at this;rw[C5,c6,aY (by omega)];exact ih λq hq=>hL q (by simp[hq])
 refine⟨?_, ?_, ?_, ?_, ?_, ?_, ?_, ?_⟩<;>(rw[h _ (by simp[IT])];simp[dQ,IT])
def OS(z:fp)(st dx:dy)(L:c7)(hL:∀q∈L,3000<=q.1):cg (cJ (L++dQ z st)) ⟨IT,z,st⟩ dx=cJ (L++dQ z dx):=by
 funext k;induction L with
 |nil=>
  show(if k=2025 then some (sd dx)else if k=2028 then some (sZ dx)else if k=2031 then some (s8 dx)else if k=2304 then some (qB 2012 2309 2302 dx.s)else if k=2309 then some (hB dx.s)else if k=2302 then some (mB dx.s)else cJ (dQ z st) k)=cJ (dQ z dx) k;simp only[dQ,c6,ii];by_cases h1:k=2025
  ·subst h1;simp
  by_cases h2:k=2028
  ·subst h2;simp
  by_cases h3:k=2031
  ·subst h3;simp
  by_cases h4:k=2304
  ·subst h4;simp
  by_cases h5:k=2309
  ·subst h5;simp
  by_cases h6:k=2302
  ·subst h6;simp
  simp only[aY h1,aY h2,aY h3,aY h4,aY h5,aY h6]
 |cons a L ih=>
  obtain⟨r,o⟩:=a;have hr:=hL (r,o) (by simp);simp only at hr;have ih:=ih λq hq=>hL q (by simp[hq]);show(if k=2025 then some (sd dx)else if k=2028 then some (sZ dx)else if k=2031 then some (s8 dx)else if k=2304 then some (qB 2012 2309 2302 dx.s)else if k=2309 then some (hB dx.s)else if k=2302 then some (mB dx.s)else(if k=r then some o else cJ (L++dQ z st) k))=if k=r then some o else cJ (L++dQ z dx) k
  rw[<-ih];show _=if k=r then some o else(if k=2025 then some (sd dx)else if k=2028 then some (sZ dx)else if k=2031 then some (s8 dx)else if k=2304 then some (qB 2012 2309 2302 dx.s)else if k=2309 then some (hB dx.s)else if k=2302 then some (mB dx.s)else cJ (L++dQ z st) k)
  (repeat' split)<;>first|rfl|omega
def ad7(L:c7):cJ L=aO L (λ_=>none):=by
 funext k;induction L with
 |nil=>rfl
 |cons a L ih=>
  obtain⟨r,o⟩:=a;simp only[c6,aH,ih]
def C1(z:fp)(st:dy){M:Nat}(hM:3000<=M){L:c7}(hL:∀q∈L,3000<=q.1/\q.1<M/\bb q.2=[]):df (cJ (L++dQ z st)) M:=by
 have dK:=pB z st L (λq hq=>(hL q hq).1);have e:=ad7 (L++dQ z st);rw[e]at dK⊢;refine km (N:=0) (λr o h=>by cases h) (Sk _) λq hq=>?_;rcases oi.1 hq with hq|hq
 ·obtain⟨_,h2,h3⟩:=hL q hq;exact⟨h2,λm hm=>by rw[h3]at hm;cases hm⟩
 ·simp only[dQ,fN,g9,wh]at hq;have h1:=dK.rb;have h2:=dK.rf;have h3:=dK.rh;have h4:=dK.q;have h5:=dK.hp;have h6:=dK.m;have h7:=dK.a;have h8:=dK.sp;simp only[IT]at h1 h2 h3 h4 h5 h6 h7 h8;rcases hq with rfl|rfl|rfl|rfl|rfl|rfl|rfl|rfl
  ·refine⟨by simp only;omega,λm hm=>?_⟩;simp only[mW,IT,bb,bQ,aP,wa,yP,fN,g9,wh,C5]at hm;rcases hm with rfl|rfl|rfl|rfl
   ·rw[h1];simp
   ·rw[h2];simp
   ·rw[h3];simp
   ·rw[h4];simp
  ·exact⟨by simp only;omega,λm hm=>by simp[sd,bb]at hm⟩
  ·exact⟨by simp only;omega,λm hm=>by simp[sZ,bb]at hm⟩
  ·exact⟨by simp only;omega,λm hm=>by simp[s8,bb]at hm⟩
  ·refine⟨by simp only;omega,λm hm=>?_⟩;simp only[qB,bb,bQ,aP,wa,oi,fN,g9,wh]at hm;rcases hm with rfl|rfl|rfl
   ·rw[h7];simp
   ·rw[h5];simp
   ·rw[h6];simp
  ·exact⟨by simp only;omega,λm hm=>by simp[hB,bb]at hm⟩
  ·refine⟨by simp only;omega,λm hm=>?_⟩;exfalso;simp only[mB,bb,Ll,vM,lq]at hm;obtain⟨e,⟨e',_,rfl⟩,hk⟩:=hm;simp[aP]at hk
  ·refine⟨by simp only;omega,λm hm=>?_⟩;simp only[bb,bQ,aP,wa,fN,g9,wh]at hm;subst hm;rw[h8];simp
def wW(z:fp)(st:dy)(k:Nat):dy:=(z.n.au.take k).foldl (λst r=>(cK z r).foldl (iS z r) st) st
def Dm(z:fp)(st:dy)(k j:Nat):dy:=((cK z (z.n.au.getD k default)).take j).foldl (iS z (z.n.au.getD k default)) (wW z st k)
def OT(r:dv):(cK z r).length<=z.l.bJ.length+((z.to-z.fr).toNat+1):=by
 have:=xD z;unfold cK;split
 ·split<;>simp;omega
 ·split
  ·have:=List.length_filterMap_le (uU z r) (List.range' (jL z) (uW z-jL z));rw[List.length_range']at this;omega
  ·split
   ·simp;omega
   ·split
    ·simp
    ·simp
def ad8(C:oE z.n z.l z.c z.fr.toNat z.to.toNat)(K:Kx z){k j:Nat}(hk:k<z.n.au.length):PI z (Dm z (gY z.n.ak.toNat) k j)/\(Dm z (gY z.n.ak.toNat) k j).s.bA<=700000000000:=by
 have Sa:z.n.au.getD k default∈z.n.au:=bq hk;obtain⟨r,hr⟩:=be (z.n.au.getD k default);have e:Dm z (gY z.n.ak.toNat) k j=(((z.n.au.take k).flatMap λr=>(cK z r).map λi=>((r,i):PR))++((cK z r).take j).map λi=>((r,i):PR)).foldl (λst (p:PR)=>iS z p.1 st p.2) (gY z.n.ak.toNat):=by
  rw[Dg,<-rK (λst (p:PR)=>iS z p.1 st p.2) (cK z),ZcU];unfold Dm wW;rw[hr]
 have aN:∀p∈((z.n.au.take k).flatMap λr=>(cK z r).map λi=>((r,i):PR))++((cK z r).take j).map λi=>((r,i):PR),Pg z p:=by
  intro p hp;rcases oi.1 hp with hp|hp
  ·obtain⟨r',gS,hp⟩:=Ll.1 hp;obtain⟨i,hi,rfl⟩:=lq.1 hp;exact⟨Es gS,hi⟩
  ·obtain⟨i,hi,rfl⟩:=lq.1 hp;rw[hr]at Sa;exact⟨Sa,Es hi⟩
 obtain⟨a1,_,_,a4⟩:=(WV C K).Nl (λ_ h=>h) _ aN _ (PI0 K);rw[<-e]at a1 a4;refine⟨a1, ?_⟩;have l1:=Ax (c:=1000001001) (f:=λr=>(cK z r).map λi=>((r,i):PR)) (z.n.au.take k) (λr hr=>by
  have:=OT (z:=z) r;have:=K.hl.2.2.1;have:=C.tm;have:=K.ft;rw[XN];omega)
 have l2:=OT (z:=z) r;have l3:=K.hn.2.2.1;have l4:=K.hl.2.2.1;have:=C.tm;have:=K.ft;rw[Eu,XN,ld]at a4;rw[ld]at l1;have l5:1000001001*min k z.n.au.length<=1000001001*600:=Nat.mul_le_mul_left _ (by omega);have l6:(gY z.n.ak.toNat).s.bA=0:=rfl;omega
def IU{k:Nat}(hk:k<z.n.au.length):wW z st (k+1)=Dm z st k (cK z (z.n.au.getD k default)).length:=by
 unfold Dm wW;rw[c8 hk,Dg];simp only[B6,Zcp,ZbX]
def Y5{k j:Nat}{i:gD}(h:(cK z (z.n.au.getD k default))[j]? =some i):Dm z st k (j+1)=iS z (z.n.au.getD k default) (Dm z st k j) i:=by
 unfold Dm;rw[Zb0,h,Dg];rfl
def ad9(H:VX z){k:Nat}(hk:k<z.n.au.length){D:DV}(hD:Hc D (z.n.au.getD k default)):
  aQ aj 85 [.ptr 2033 0,D,.oP (.func 86) [.ptr 2012 0,.ptr 4104 0]] (cJ ([(4104,dZ (z.n.au.getD k default))]++dQ z (wW z (gY z.n.ak.toNat) k)))
   ⟨True,.v (.eB []),cJ ([(4104,dZ (z.n.au.getD k default))]++dQ z (wW z (gY z.n.ak.toNat) (k+1)))⟩:=by
 have Sa:z.n.au.getD k default∈z.n.au:=bq hk;have avj:=λj=>ad8 H.C H.K (j:=j) hk;rw[IU hk];have hsu:=λ{j i}=>Y5 (z:=z) (st:=gY z.n.ak.toNat) (k:=k) (j:=j) (i:=i);obtain⟨r,hr⟩:=be (z.n.au.getD k default);have kr:=H.K.hn.2.2.2 r (by rw[<-hr];exact Sa);rw[hr]at hD Sa hsu⊢;have hL:∀q∈[((4104:Nat),dZ r)],3000<=q.1:=by simp
 have e0:wW z (gY z.n.ak.toNat) k=Dm z (gY z.n.ak.toNat) k 0:=rfl;rw[e0];have wR:=H.K.ft;have iW:=H.C.tm;refine t57 (k:=IT) (z:=z) (N:=5000) (r:=r) (ch:=[2012,4104]) (F:=λj=>cJ ([(4104,dZ r)]++dQ z (Dm z (gY z.n.ak.toNat) k j))) (B:=λ_=>true) ⟨λj _=>⟨_,pB z _ _ hL⟩,λj _=>C1 z _ (by omega) (by simp[dZ,bb,bQ,aP])⟩
  ⟨λj i hi _ N' W0=>?_,λj r' hj hn=>?_,λ_ _=>rfl,.inl rfl⟩ H.Lz.mono H.K.hl.2.2.1 (by omega) ⟨kr.2.2.1,kr.2.2.2.1⟩ H.K.hl.2.2.2 ?_ hD
 ·have hib:i∈cK z r:=xN hi;obtain⟨m1,m2⟩:=avj j;have:=t58 (i:=i) (r:=r) (sB:=2012) (rB:=4104) W0 (pB z (Dm z (gY z.n.ak.toNat) k j) _ hL) (by simp[dQ]) (by simp) (B4 H.K H.cf m1.1.wf Sa hib) (λ_=>by
   have hh:0<=r.head/\r.head<z.n.ak:=⟨kr.1,kr.2.1⟩;exact m1.1.wf.qZ (by omega) (Lg H.K m1.1.wf.bo Sa hib) (by have:=H.K.hn.2.1;omega) (by omega))
  rw[OS z _ _ _ hL]at this;simp only at this;rw[<-hsu hi]at this;exact this
 ·simp only[dQ,C5,yP,c6,ii]at hn⊢;repeat' split at hn
  all_goals first|(cases hn;done)|skip
  simp[*]
 ·intro x hx;simp only[fN,g9,wh]at hx;rcases hx with rfl|rfl
  ·exact⟨[.ptr 2033 0],by simp[dQ]⟩
  ·exact⟨_,by simp[dZ];rfl⟩
end
section
variable{tm:dn}{aK aZ r:Nat}{A:c7}{z:fp}
def He{z:fp}(H:VX z):∀{f:Nat} {st:dy},IV z st->qn st<f->IV z (iJ z f st)/\(iJ z f st).s.heap=[]
 |0,_,_,h=>by omega
 |f+1,st,hI,h=>by
  by_cases bZ:st.s.heap=[]
  ·simp only[iJ,cF bZ];exact⟨hI,bZ⟩
  ·rw[rL bZ];obtain⟨a,b,_⟩:=B2 H.C H.K hI bZ;exact He H a (by omega)
def D4{α:Type}(a b:α){n k:Nat}(h:k<n):(List.replicate k a++List.replicate (n-k) b).set k a=List.replicate (k+1) a++List.replicate (n-(k+1)) b:=by
 obtain⟨m,hm⟩:∃m,n-k=m+1:=⟨n-k-1,by omega⟩;rw[hm,show n-(k+1)=m by omega,ZbS _ _ (by simp),Zc7 (n:=k)];simp[Xb]
def qC(n k:Nat):dy:=⟨List.replicate k ⟨1099511627776,0⟩++List.replicate (n-k) ⟨0,0⟩,List.replicate n false,List.replicate k (-1)++List.replicate (n-k) 0,⟨[],0,[],0,0,0⟩⟩
def aea(n:Nat):qC n n=gY n:=by simp[qC,gY]
def dU{ob mG:bw}{low:Nat}{td:List (aL)}{l:eO}(e:ob=mG)(h:∀r,aZ<=r->mG r=none)(hl:fk tm l):Le ⟨tm,ob,aK,low,td⟩ ⟨DM.look l,mG,aZ,low,td⟩:=by
 subst e;exact Le.same h hl
def fS{L:c7}{M:Nat}(h:∀q∈L,q.1<M):∀r,M<=r->cJ L r=none:=by
 induction L with
 |nil=>intro r _;rfl
 |cons a L ih=>
  intro r hr;obtain⟨j,o⟩:=a;have:=h (j,o) (by simp);simp only at this;rw[c6,aY (by omega)];exact ih (λq hq=>h q (by simp[hq])) r hr
def kH(z:fp)(st:dy):∀q∈dQ z st,2000<=q.1/\q.1<3000:=by
 intro q hq;simp only[dQ,fN,g9,wh]at hq;rcases hq with rfl|rfl|rfl|rfl|rfl|rfl|rfl|rfl<;>simp only[]<;>omega
def rG{B:c7}{o:Ob}(h:cJ (A++B) r=some o):(r,o)∈A\/((∀q∈A,q.1≠r)/\cJ B r=some o):=by
 induction A with
 |nil=>exact .inr ⟨λq hq=>(by cases hq),h⟩
 |cons a A ih=>
  obtain⟨j,x⟩:=a;rw[C5,c6]at h;by_cases e:r=j
  ·rw[cF e]at h;cases h;subst e;exact .inl (by simp)
  ·rw[aY e]at h;rcases ih h with h|⟨h1,h2⟩
   ·exact .inl (by simp[h])
   ·exact .inr ⟨λq hq=>by
     rcases fN.1 hq with rfl|hq
     ·exact λe2=>e e2.symm
     ·exact h1 q hq,h2⟩
def NW{B:c7}(h:∀q∈A,q.1≠r):cJ (A++B) r=cJ B r:=by
 induction A with
 |nil=>rfl
 |cons a A ih=>
  obtain⟨j,x⟩:=a;have:=h (j,x) (by simp);simp only at this;rw[C5,c6,aY (λe=>this e.symm)];exact ih λq hq=>h q (by simp[hq])
def aeb{st:dy}{L L':c7}{l:eO}(hL:∀q∈L,3000<=q.1)(hL':∀q∈L',3000<=q.1/\q.1<aZ)(hn:3000<=aZ)
  (gP:tH (cJ (L++dQ z st)) (cJ (L'++dQ z st)) id L') (iW:fK (cJ (L++dQ z st)) (cJ (L'++dQ z st)) id tm l):
  Le ⟨tm,cJ (L++dQ z st),aK,1000,[]⟩ ⟨DM.look l,cJ (L'++dQ z st),aZ,1000,[]⟩:=by
 have aV:=C1 z st (fq 3000) (L:=[]) (λq hq=>by cases hq);simp only[yP]at aV;have low:∀{A:c7},(∀q∈A,3000<=q.1)->∀r,r<3000->cJ (A++dQ z st) r=cJ (dQ z st) r:=λhA r hr=>NW λq hq e=>by have:=hA q hq;omega
 have hLs:∀q∈L',3000<=q.1:=λq hq=>(hL' q hq).1;refine Le.XT rfl rfl ?_ (λr o h=>?_) (λr hr o h=>?_) (λk=>mI l iW k)
 ·refine fS λq hq=>?_;rcases oi.1 hq with hq|hq
  ·exact(hL' q hq).2
  ·have:=kH z st q hq;simp only;omega
 ·rcases rG h with h|⟨_,h⟩
  ·obtain⟨o0,h1,h2⟩:=tJ gP r o h;exact⟨o0,h1,.inl h2⟩
  ·have hr:=(aV r o h).1;refine⟨o,(low hL r hr).trans h,.inr ⟨rfl,λm hm=>?_⟩⟩;have Ps:=(aV r o h).2 m hm;cases D2:cJ (dQ z st) m with
   |none=>exact eA D2 Ps
   |some o'=>exact⟨o',o',(low hL m (aV m o' D2).1).trans D2,(low hLs m (aV m o' D2).1).trans D2,bk _⟩
 ·exfalso;simp only at h hr;rcases rG h with h|⟨_,h⟩
  ·have:=hL _ h;simp only at this;omega
  ·have hm:=kw h;have:=kH z st _ hm;simp only at this;omega
def spP(z:fp):bG:=[.v (ti z.n.aM),.v (ti z.n.ak),.v (ti z.n.start),.v (.sl (aW z.n.au)),.v (ti z.l.ba),.v (.sl (kL z.l.bJ)),.v (.sl (aG z.l.vF)),.v (ti z.c.ak),.v (ti z.c.ba),.v (.sl (bR z.c.cells)),.v (ti z.fr),.v (ti z.to),.bC 2025 0,.bC 2028 0,.bC 2031 0,.v (.pO (Go.Value.pointer Option.none))]
def vX(z:fp)(n:Nat):c7:=[(2012,.box [.ptr 2033 0]),(2033,.box (spP z)),(2031,s8 (qC n 0)),(2028,sZ (qC n 0)),(2025,sd (qC n 0))]
def t35(H:VX z):pW aj 52 [z.n.enc,z.l.enc,z.c.enc,ti z.fr,ti z.to] 65 4 (bR (nk z.n z.l z.c z.fr z.to)):=by
 have agd:=af4 H.C H.K;obtain⟨s0,hs0⟩:=be (CY z (gY z.n.ak.toNat));rw[hs0]at agd;have Zs:=H.K.hn;have avS:s0.s.bA<=700000000000:=by
  by_cases e:z.n.au.length=0
  ·have:z.n.au=[]:=LQ e;rw[<-hs0];simp[CY,this,gY]
  ·have h1:=(ad8 H.C H.K (k:=z.n.au.length-1) (j:=(cK z (z.n.au.getD (z.n.au.length-1) default)).length) (by omega)).2;rw[<-IU (by omega),show z.n.au.length-1+1=z.n.au.length by omega]at h1;have:wW z (gY z.n.ak.toNat) z.n.au.length=CY z (gY z.n.ak.toNat):=by unfold wW CY;rw[ZbX]
   rw[this,hs0]at h1;exact h1
 have Yw:qn s0<=z.n.ak.toNat:=by
  unfold qn;have:=agd.1.1.wf.lf;have:=List.count_le_length (a:=false) (l:=s0.cj);omega
 obtain⟨hI,Bl⟩:=He H (f:=qn s0+1) agd.1 (by omega);obtain⟨s9,hs9⟩:=be (iJ z (qn s0+1) s0);have Yk:1<=z.n.ak:=Zs.1;have Vu:z.n.ak<=1000:=Zs.2.1;have h62:=t62 (p:=2033) (k0:=IT) (N:=5000) (f0:=cJ (dQ z s0)) H (fS λq hq=>by have:=kH z s0 q hq;omega) (pB z s0 [] (λq hq=>by cases hq)) agd.1 (by omega);have pV:=OS z s0 (iJ z (qn s0+1) s0) [] (λq hq=>by cases hq);simp only[yP]at pV;rw[pV,hs9]at h62;rw[hs9]at hI Bl;have atk:=RZ H.C H.K H.Lz hI Bl;rw[<-atk];have h63:=λ(h:Nat) (hh:h<z.n.ak.toNat) (L:c7) (hL:∀q∈L,3000<=q.1) (N:Nat) (hN:∀r,N<=r->cJ (L++dQ z s9) r=none)=>t63 (p:=2033) H hN (pB z s9 L hL) hI.1.wf hh;have AX:z.n.au.length<=600:=Zs.2.2.1;obtain⟨nn,avk⟩:=kK (a:=z.n.ak) (by omega);have hnt:z.n.ak.toNat=nn:=by omega
 rw[hnt]at h63 hs0;refine c35.okF (by simp) (aT ?_);simp[aD.enc,aU.enc,dW.enc];apply aa.ag cL fw [3,4,5,6,7,10];simp[ajk];refine aa.lk (o:=[]) (l:=[(3,.v (ti z.fr)),(4,.v (ti z.to)),(5,.v (.box [ti z.n.aM,ti z.n.ak,ti z.n.start,.sl (aW z.n.au)])),(6,.v (.box [ti z.l.ba,.sl (kL z.l.bJ),.sl (aG z.l.vF)])),(7,.v (.box [ti z.c.ak,ti z.c.ba,.sl (bR z.c.cells)])),(10,.aX)]) (aZ:=2000) (by simp) ?_;apply aa.ag cL fw [5,11];simp[ajl,CP,dR];repeat (refine⟨by omega, ?_⟩)
 have ZN:z.n.ak.toNat=nn:=hnt;have sl5:∀n1:Nat,∀x,List.replicate n1 [T.int .i64 x]=aG (List.replicate n1 x):=λn1 x=>by simp[aG]
 refine aa.le (dU (mG:=cJ (vX z nn)) (l:=[(5,.v (.box [ti z.n.aM,ti z.n.ak,ti z.n.start,.sl (aW z.n.au)])),(11,.ptr 2012 0)]) (aZ:=2200) ?_ ?_ ?_) ?_
 ·funext q;simp only[vX,spP,c6,ii,s8,sZ,sd,qC,ZN,aG,iy,bH,Zcv,yP,List.map_replicate,Zcq]
  (repeat' split)<;>first|rfl|omega
 ·exact fS (by simp[vX])
 ·simp
 have Mh:∀{tm:dn} {ob:bw},ob=aO ((2033,.box (mW IT z))::oJ 2012 2289) (cJ (vX z nn))->fk tm [(5,.v (.box [ti z.n.aM,ti z.n.ak,ti z.n.start,.sl (aW z.n.au)])),(11,.ptr 2012 0)]->
   Le ⟨tm,ob,2309,1000,[]⟩ ⟨DM.look [(5,.v (.box [ti z.n.aM,ti z.n.ak,ti z.n.start,.sl (aW z.n.au)])),(11,.ptr 2012 0)],cJ (dQ z (qC nn 0)),3000,1000,[]⟩:=by
  intro tm ob e iW;subst e;refine Le.trans (Le.DD 2304 1 220 (sz:=3) (cs:=[.oP (.func 83) [.ptr 2012 0],.aX,.je 2302,.v (ti 0),.v (ti 0)]) (by omega) (by simp[oJ]) rfl) (dU ?_ (fS λq hq=>(kH z _ q hq).2) iW);funext q;show(if q=2304 then _ else if q=2309 then _ else _)=_;simp only[oJ,vX,dQ,c6,ii,aH,bL];by_cases h1:q=2304
  ·subst h1;rfl
  by_cases h2:q=2309
  ·subst h2;rfl
  by_cases h3:q=2033
  ·subst h3;rfl
  by_cases h4:q=2302
  ·subst h4;rfl
  by_cases h5:q=2012
  ·subst h5;rfl
  by_cases h6:q=2031
  ·subst h6;rfl
  by_cases h7:q=2028
  ·subst h7;rfl
  by_cases h8:q=2025
  ·subst h8;rfl
  simp[h1,h2,h3,h4,h5,h6,h7,h8]
 refine aa.seq (aa.to ⟨DM.look [(5,.v (.box [ti z.n.aM,ti z.n.ak,ti z.n.start,.sl (aW z.n.au)])),(11,.ptr 2012 0)],cJ (dQ z (qC nn 0)),3000,1000,[]⟩ (aa.apF cL fw (rs:=Tf) rfl (by kernel_rfl) [5,11] 2309 (λD s=>s.todo=[]/\(D 2=false->s.ab=cJ (vX z nn))/\(D 2=true->D 5=false->s.ab=aO (oJ 2012 2289) (cJ (vX z nn)))/\(D 5=true->s.ab=aO ((2033,.box (mW IT z))::oJ 2012 2289) (cJ (vX z nn)))/\
  s.tmps 5=.v (.box [ti z.n.aM,ti z.n.ak,ti z.n.start,.sl (aW z.n.au)])/\s.tmps 11=.ptr 2012 0/\(D 0=true->s.tmps 33=.ptr 2033 0)/\(D 1=true->s.tmps 34=.oP (.func 83) [.ptr 2012 0])/\(D 2=true->s.tmps 35=.ptr 2304 0)/\(D 3=true->s.tmps 36=.ptr 2033 0)/\(D 4=true->s.tmps 37=.ptr 2033 15)) ?_ ?_ ?_ rfl) ?_)
 ·intro h;simp
 ·rintro D i r ⟨tm,ob,td⟩ hr hi ha aV ⟨rfl,i1,i2,i3,i4,i5,i6,i7,i8,i9,i10⟩;simp only at i1 i2 i3 i4 i5 i6 i7 i8 i9 i10;have gP:ob=cJ (vX z nn)\/ob=aO (oJ 2012 2289) (cJ (vX z nn))\/ob=aO ((2033,.box (mW IT z))::oJ 2012 2289) (cJ (vX z nn)):=by
   cases h2:D 2 with
   |false=>exact .inl (i1 h2)
   |true=>
    cases h5:D 5 with
    |false=>exact .inr (.inl (i2 h2 h5))
    |true=>exact .inr (.inr (i3 h5))
  have mE:∀k,2200<=k->k<=2250->ob k=none:=λk h1 h2=>by
   have e:∀m,(m<2200\/2250<m)->k≠m:=λm h=>by omega
   rcases gP with h|h|h<;>(rw[h];simp[oJ,vX,aH,c6,e])
  have hq:ob 2012=some (.box [.ptr 2033 0]):=by rcases gP with h|h|h<;>(rw[h];simp[oJ,vX,aH,c6])
  have h50:∀i,i<5->D i=false->D 5=false:=λi h1 h2=>by
   cases h:D 5 with
   |false=>rfl
   |true=>
    exfalso;have k4:=aV 5 _ rfl h 4 (by simp);have k:=λm hm=>aV 4 _ rfl k4 m hm;simp at k;have:i=0\/i=1\/i=2\/i=3\/i=4:=by omega
    rcases this with rfl|rfl|rfl|rfl|rfl<;>simp_all
  rcases i with _|_|_|_|_|_|i;all_goals simp only[Tf,HK,JE,Zdl,cu,reduceCtorEq]at hr
  all_goals subst hr
  ·refine .of (mE _ (by simp[nm,bV]) (by simp[nm,bV])) ?_;simp[i5,hq,wQ];exact⟨i1,i2,i3,i4,i7,i8,i9,i10⟩
  ·refine .of (mE _ (by simp[nm,bV]) (by simp[nm,bV])) ?_;simp[i5,wQ];exact⟨i1,i2,i3,i4,i6,i8,i9,i10⟩
  ·have h5:=h50 2 (by omega) hi;have h1:=i1 hi;subst h1;have e:=i7 (ha 1 (by simp));refine .inr ⟨_,_,_,_,2289,2309,λval mG=>val=.ptr (2289+15) 0/\mG=aO (oJ 2012 2289) (cJ (vX z nn)),rfl, ?_, ?_⟩
   ·simp only[qD,SK,bW.ev,e];exact t54 (cs:=[.ptr 2033 0]) (fS (by simp[vX])) hq
   rintro val mG ⟨rfl,rfl⟩;simp[wQ,h5,i4,i5];exact⟨i6,i7,i9,i10⟩
  ·refine .of (mE _ (by simp[nm,bV]) (by simp[nm,bV])) ?_;simp[i6 (ha 0 (by simp)),wQ];exact⟨i1,i2,i3,i4,i5,i7,i8,i10⟩
  ·refine .of (mE _ (by simp[nm,bV]) (by simp[nm,bV])) ?_;simp[i9 (ha 3 (by simp)),wQ];exact⟨i1,i2,i3,i4,i5,i6,i7,i8⟩
  ·have h2:=ha 2 (by simp);have h1:=i2 h2 hi;subst h1;refine .of (show _ from mE 2200 (by omega) (by omega)) ?_;simp[i10 (ha 4 (by simp)),i8 h2,wQ,oJ,vX,aH,c6,spP,h2,i4,i5];exact⟨rfl,i6,i7,i9⟩
 ·rintro D ⟨tm,ob,td⟩ hD ⟨rfl,i1,i2,i3,i4,i5,i6,i7,i8,i9,i10⟩;have h5:=i3 (hD 5 (by simp[Tf]));simp only at h5 i4 i5;subst h5;refine⟨λq hq=>?_,rfl,Mh rfl ?_⟩
  ·have e:∀m,m<2309->q≠m:=λm h=>by omega
   simp[oJ,vX,aH,c6,e]
  ·simp[lU,i4,i5]
 obtain⟨RT,hRT⟩:=be (T.box [ti z.n.aM,ti z.n.ak,ti z.n.start,.sl (aW z.n.au)]:T);have ek:=λk=>pB z (qC nn k) [] (λq hq=>by cases hq);have e1:=λk=>(ek k).sp;have e2:=λk=>(ek k).rb;have e3:=λk=>(ek k).rh;have e4:=λk=>(ek k).a;simp only[yP,mW,IT]at e1;simp only[yP,sd,IT]at e2;simp only[yP,s8,IT]at e3;simp only[yP,IT]at e4;have anZ:∀k,k<=nn->(qC nn k).an.length=nn:=λk hk=>by simp[qC];omega
 have atl:∀k,k<=nn->(qC nn k).fB.length=nn:=λk hk=>by simp[qC];omega
 apply aa.sq cL fw [5,11,42,43];simp[ajm,e1,e2,e4,anZ 0 (by omega)];apply aa.block;refine aa.loop (λk:Nat=>⟨DM.look [(5,.v (.box [ti z.n.aM,ti z.n.ak,ti z.n.start,.sl (aW z.n.au)])),(11,.ptr 2012 0),(42,.v (ti nn)),(43,.v (ti k))],cJ (dQ z (qC nn k)),3500,1000,[]⟩)
  (λk=>k<=nn) (λk=>nn-k) 0 (Le.same (fS λq hq=>by have:=kH z _ q hq;omega) (by simp[fk])) (by omega) (λk hk=>?_)
 apply aa.ag cL fw [5,11,42,43,44];simp[ajn];apply aa.seq;refine aa.cond rfl (λg=>?_) (λg=>?_)
 ·have g:k<nn:=by simpa using g
  apply aa.skip;simp;apply aa.seq;apply aa.block;apply aa.ag cL fw [5,11,42,43,12];simp[ajo];apply aa.ag cL fw [5,11,42,43,12];have rb:=dq (l:=(qC nn k).an) (y:=k) (by rw[anZ k hk];exact g);have rh:=cM (l:=(qC nn k).fB) (y:=k) (by rw[atl k hk];exact g);simp[ajp,e1,e2,e4,anZ k hk,g,rb];have e5:∀(q:Ob),cJ ((2025,q)::dQ z (qC nn k)) 2012=some (.box [.ptr 2033 0]):=λq=>by rw[c6,aY (by omega)];exact e4 k
  apply aa.fA cL fw [5,11,42,43];simp[ajq,e1,e3,e4,atl k hk,g,rh];apply aa.fA cL fw [5,11,42,43];simp[ajr];rw[aF (x:=(k:Int)+1) (by omega)];refine⟨k+1,dU ?_ (fS λq hq=>by have:=kH z _ q hq;omega) (by simp),by omega,by omega⟩;funext q;have v1:(bH (qC nn k).an).set k [T.int .i64 1099511627776,T.int .i64 0]=bH (qC nn (k+1)).an:=by
   rw[show [T.int .i64 1099511627776,T.int .i64 0]=[ti (⟨1099511627776,0⟩:dg).aI,ti (⟨1099511627776,0⟩:dg).size]from rfl,<-jE];simp only[qC,D4 _ _ g]
  have v2:(aG (qC nn k).fB).set k [T.int .i64 (-1)]=aG (qC nn (k+1)).fB:=by
   rw[<-lX];simp only[qC,D4 _ _ g]
  rw[v1,v2];simp only[dQ,c6,ii];by_cases h1:q=2025
  ·subst h1;rfl
  by_cases h2:q=2031
  ·subst h2;rfl
  simp only[aY h1,aY h2];rfl
 ·have g:k=nn:=by
   have:¬k<nn:=by simpa using g
   omega
  subst g;rw[aea];apply aa.exit;simp;have ek:=λk'=>pB z (wW z (gY k) k') [] (λq hq=>by cases hq);have e1:=λk'=>(ek k').sp;have e4:=λk'=>(ek k').a;simp only[yP,mW,IT]at e1;simp only[yP,IT]at e4;apply aa.sq cL fw [5,11,62,63,64];simp[ajs];apply aa.block;refine aa.loop (λy:Nat=>⟨DM.look [(5,.v (.box [ti z.n.aM,ti z.n.ak,ti z.n.start,.sl (aW z.n.au)])),(11,.ptr 2012 0),(62,.v (.sl (aW z.n.au))),(63,.v (ti z.n.au.length)),(64,.v (ti y))],cJ (dQ z (wW z (gY k) y)),4000,1000,[]⟩)
   (λy=>y<=z.n.au.length) (λy=>z.n.au.length-y) 0 (Le.same (fS λq hq=>by have:=kH z _ q hq;omega) (by simp[fk])) (by omega) (λy hy=>?_)
  apply aa.ag cL fw [5,11,62,63,64,65];simp[ab8];apply aa.seq;refine aa.cond rfl (λg=>?_) (λg=>?_)
  ·have g:y<z.n.au.length:=by simpa using g
   apply aa.skip;simp;apply aa.seq;apply aa.block;have rk:=lW g;have hic:=λD hD=>ad9 H g (D:=D) hD;rw[ZN]at hic;obtain⟨⟨W4,rh,ra,rb,rp,ro⟩,hr⟩:=be (z.n.au.getD y default);rw[hr]at rk hic;simp only[dv.enc]at rk;apply aa.ag cL fw [5,11,62,63,64,14];simp[ab9,g,rk];have eU:∀(o o':Ob) (L:c7),cJ ((4104,o)::(4104,o')::L)=cJ ((4104,o)::L):=λo o' L=>by
    funext q;simp only[c6];split<;>rfl
   rw[eU];have mE:∀r',cJ ([(4104,dZ ⟨W4,rh,ra,rb,rp,ro⟩)]++dQ z (wW z (gY k) y)) r'=none->cJ ([(4104,dZ ⟨W4,rh,ra,rb,rp,ro⟩)]++dQ z (wW z (gY k) (y+1))) r'=none:=by
    intro r' gS;simp only[dQ,C5,yP,c6,ii]at gS⊢;repeat' split at gS
    all_goals first|(cases gS;done)|skip
    simp[*]
   have aC:=BK ay.nil (λN' _=>hic _ (R6 _)) mE;have q1:cJ ((4104,Ob.box [.v (ti W4),.v (ti rh),.v (ti ra),.v (ti rb),.v (ti rp),.v (ti ro)])::dQ z (wW z (gY k) y)) 2012=some (.box [.ptr 2033 0]):=by rw[c6,aY (by omega)];exact e4 y
   apply aa.De aC fw (rs:=J3) rfl (by kernel_rfl) [5,11,62,63,64];simp[J3,q1,dZ];refine aa.le (aeb (L:=[_]) (L':=[]) (l:=[(5,.v (.box [ti z.n.aM,ti z.n.ak,ti z.n.start,.sl (aW z.n.au)])),(11,.ptr 2012 0),(62,.v (.sl (aW z.n.au))),(63,.v (ti z.n.au.length)),(64,.v (ti y))]) (aZ:=4500) (by simp) (by simp) (by omega) trivial ?_) ?_
   ·simp[e4]
   simp;apply aa.fA cL fw [5,11,62,63,64];simp[aca];rw[aF (x:=(y:Int)+1) (by omega)];exact⟨y+1,dU rfl (fS λq hq=>by have:=kH z _ q hq;omega) (by simp),by omega,by omega⟩
  ·have g:y=z.n.au.length:=by
    have:¬y<z.n.au.length:=by simpa using g
    omega
   subst g;have e0:wW z (gY k) z.n.au.length=s0:=by rw[<-hs0];unfold wW CY;rw[ZbX]
   rw[e0];apply aa.exit;simp;have e4:=(pB z s0 [] (λq hq=>by cases hq)).a;simp only[yP,IT]at e4;have mE:∀r',cJ (dQ z s0) r'=none->cJ (dQ z s9) r'=none:=by
    intro r' gS;simp only[dQ,c6,ii]at gS⊢;repeat' split at gS
    all_goals first|(cases gS;done)|skip
    simp[*]
   have aC:=BK ay.nil (λN' _=>h62) mE;apply aa.cY aC fw (rs:=J4) rfl (by kernel_rfl) [5,11];simp[J4,e4];apply aa.ag cL fw [5,11,15];simp[acb];refine aa.le (dU rfl (l:=[(5,.v (.box [ti z.n.aM,ti z.n.ak,ti z.n.start,.sl (aW z.n.au)])),(11,.ptr 2012 0),(15,.aX)]) (aZ:=5000) (fS λq hq=>by have:=kH z _ q hq;omega) (by simp)) ?_;refine aa.le (Le.wu (k:=15) 65 (sz:=4) (by omega) (by simp)) ?_;rw[lj];apply aa.sq cL fw [11,15,76,77];simp[acd];apply aa.block;obtain⟨own,iN⟩:=be (qA z s9.an);have hol:own.length=k:=by rw[<-iN,Ea,ZN]
   have hog:∀y,y<k->own.getD y default=jr z s9.an y:=λy hy=>by rw[<-iN];simp[qA,List.getD,ZN,hy]
   have dK:=λ(o:Ob)=>(pB z s9 [(5000,o)] (by simp)).a;simp only[C5,yP,IT]at dK;rw[iN];refine aa.loop (λy:Nat=>⟨DM.look [(11,.ptr 2012 0),(15,.bC 5000 0),(76,.v (ti k)),(77,.v (ti y))],cJ ([(5000,.bE 0 65 4 (bR (own.take y)))]++dQ z s9),6000,1000,[]⟩)
    (λy=>y<=k) (λy=>k-y) 0 (aeb (L:=[_]) (by simp) (by simp) (by omega) ?_ ?_) (by omega) (λy hy=>?_)
   ·simp[bR]
   ·simp[dK,avk]
   apply aa.ag cL fw [11,15,76,77,78];simp[ace];apply aa.seq;refine aa.cond rfl (λg=>?_) (λg=>?_)
   ·have g:y<k:=by simpa using g
    have hg:=hog y g;have an0:=λN hN=>h63 y g [(5000,.bE 0 65 4 (bR (own.take y)))] (by simp) N hN;rw[<-hg]at an0;have tk:own.take (y+1)=own.take y++[own.getD y default]:=c8 (by omega);obtain⟨cx,Ng⟩:=be (own.getD y default);rw[Ng]at an0 tk;apply aa.skip;simp;apply aa.seq;apply aa.block;apply aa.ag cL fw [11,15,16,76,77];simp[acf];have aC:=BK ay.nil an0 (λr h=>h);apply aa.De aC fw (rs:=J5) rfl (by kernel_rfl) [11,15,76,77];simp[J5,dK,dR,gn,Cell.enc];refine⟨by omega, ?_⟩;apply aa.fA cL fw [11,15,76,77];simp[acg];rw[aF (x:=(y:Int)+1) (by omega)];refine⟨y+1,aeb (L:=[_,_]) (L':=[_]) (by simp) (by simp) (by omega) ?_ ?_,by omega,by omega⟩
    ·simp[tk,bR,Cell.enc]
    ·simp[dK]
   ·have g:y=k:=by
     have:¬y<k:=by simpa using g
     omega
    subst g;apply aa.exit;simp;apply aa.ag cL fw [10];simp[ach];apply aa.ret;exact .inr ⟨5000,0,by simp,by simp[<-hol]⟩
end
section
variable{nn h h':Int}
def Nu{p p':Int}(a1:0<=h)(a2:h<nn)(b1:0<=h')(b2:h'<nn)(e:p*nn+h=p'*nn+h'):p=p'/\h=h':=by
 have key:∀{p p' h h':Int},0<=h->h<nn->0<=h'->h'<nn->p*nn+h=p'*nn+h'->¬p<p':=by
  intro p p' h h' a1 a2 b1 b2 e ef;have h1:(p+1)*nn<=p'*nn:=ZcA (by omega) (by omega);have h2:(p+1)*nn=p*nn+nn:=by grind
  omega
 have h1:=key a1 a2 b1 b2 e;have h2:=key b1 b2 a1 a2 e.symm;have:p=p':=by omega
 subst this;exact⟨rfl,by omega⟩
def X3{st:Int}{s t s' t':Nat}(a1:0<=h)(a2:h<nn)(b1:0<=h')(b2:h'<nn)(c1:s<=t)(c2:(t:Int)<st)(d1:s'<=t')(d2:(t':Int)<st)
  (e:eG nn st s t+h=eG nn st s' t'+h'):s=s'/\t=t'/\h=h':=by
 unfold eG at e;obtain⟨e1,e2⟩:=Nu a1 a2 b1 b2 e;have key:∀{s t s' t':Nat},s<=t->(t:Int)<st->s'<=t'->(t':Int)<st->pre st s+t-s=pre st s'+t'-s'->¬s<s':=by
  intro s t s' t' c1 c2 d1 d2 e ef;have:=Gq (st:=st) (f:=s+1) (k:=s') (by omega) (by omega);simp only[pre]at this;omega
 have h1:=key c1 c2 d1 d2 e1;have h2:=key d1 d2 c1 c2 e1.symm;have:s=s':=by omega
 subst this;exact⟨rfl,by omega,e2⟩
def acq(cells own:fl)(Bx y:Nat)(hl:Bx+y<=cells.length)(i:Nat)(d:Cell):(uH cells own Bx y).getD i d=if Bx<=i/\i<Bx+y then own.getD (i-Bx) default else cells.getD i d:=by
 induction y with
 |zero=>simp only[uH,Zdx,Zcp];rw[aY (by omega)]
 |succ y ih=>
  rw[wC];have ih:=ih (by omega);by_cases e:i=Bx+y
  ·subst e;rw[cF (by omega),show Bx+y-Bx=y by omega];simp only[List.getD,ZbN,Nv];rw[cF trivial,cF (by omega)];rfl
  ·have:((uH cells own Bx y).set (Bx+y) (own.getD y default)).getD i d=(uH cells own Bx y).getD i d:=by
    simp only[List.getD,ZbN];rw[aY (λx=>e x.symm)]
   rw[this,ih];by_cases h:Bx<=i/\i<Bx+y
   ·rw[cF h,cF (by omega)]
   ·rw[aY h,aY (by omega)]
section
variable{n:aD}{l:aU}
def acr{c:dW}{s t:Nat}(h0:0<=h)(h1:h<c.ak)(c1:s<=t)(c2:(t:Int)<c.ba):Pb c h s t=c.cells.getD (eG c.ak c.ba s t+h).toNat mK:=by
 unfold Pb;rw[aY (by omega)];simp
def Nw(n:aD)(l:aU)(cells:fl)(len f:Nat):Prop:=
 ∀(h:Int) (s t:Nat),0<=h->h<n.ak->s<=t->(t:Int)<l.ba->(t-s<len\/(t-s=len/\s<f))->Good n l h s t (Pb ⟨n.ak,l.ba,cells⟩ h s t)
def X4(hn:AL n)(hl:Gj l)(ha:∀a∈l.bJ,a.f<=a.t){cells:fl}{len f:Nat}(hc:kz n l cells)(hf:((f+len:Nat):Int)<l.ba)(hd:Nw n l cells len f):Nw n l (Gr n l len cells f) len (f+1):=by
 have h1:=hn.1;have h2:=hn.2.1;have h3:=hl.1;have h4:=hl.2.1;have C:oE n l ⟨n.ak,l.ba,cells⟩ f (f+len):=⟨hn,hl,hc.ok hn hl,ha,by omega,by omega,λh s' t' a1 a2 a3 a4 a5 a6=>hd h s' t' a1 a2 a4 (by omega) (by omega)⟩;have hg:=Im C;have iN:=Nx hn hl C.hc C.st C.tm;rw[show((f+len:Nat):Int)=(f:Int)+len by omega]at hg iN;obtain⟨own,ho⟩:=be (nk n l ⟨n.ak,l.ba,cells⟩ f ((f:Int)+len));rw[ho]at hg iN;have hib:=tX (n:=n.ak) (st:=l.ba) (f:=f) (t:=f+len) (by omega) h2 h4 (by omega) (by omega) (by omega);have ef:=Gs (nn:=n.ak) (st:=l.ba) (f:=f) (t:=f+len) (by omega) (by omega) (by omega) (i:=n.ak-1) (by omega);have aV:=hc.1;intro h s t a1 a2 a3 a4 a5;unfold Gr;rw[ho,acr a1 a2 a3 a4];simp only;have hsb:=tX (n:=n.ak) (st:=l.ba) (f:=s) (t:=t) (by omega) h2 h4 (by omega) (by omega) (by omega);rw[acq _ _ _ _ (by omega)];split
 ·rename_i e;have hx:eG n.ak l.ba s t+h=eG n.ak l.ba f (f+len)+(((eG n.ak l.ba s t+h).toNat-(eG n.ak l.ba f (f+len)).toNat:Nat):Int):=by omega
  obtain⟨e1,e2,e3⟩:=X3 a1 a2 (by omega) (by omega) a3 a4 (by omega) (by omega) hx;subst e1 e2;obtain⟨h,rfl⟩:=kK a1;have e4:(eG n.ak l.ba s (s+len)+(h:Int)).toNat-(eG n.ak l.ba s (s+len)).toNat=h:=by omega
  rw[e4];exact hg h a2
 ·rename_i e;have bZ:¬(s=f/\t=f+len):=by
   rintro⟨rfl,rfl⟩;omega
  have:=hd h s t a1 a2 a3 a4 (by omega);rw[acr a1 a2 a3 a4]at this;exact this
def Gt(hn:AL n)(hl:Gj l)(ha:∀a∈l.bJ,a.f<=a.t){cells:fl}{len:Nat}(hc:kz n l cells)(hd:Nw n l cells len 0):∀k,((k+len:Nat):Int)<=l.ba->Nw n l ((List.range k).foldl (Gr n l len) cells) len k
 |0,_=>hd
 |k+1,hk=>by
  rw[Hu,Dg];have h4:=hl.2.1;exact X4 hn hl ha (DT hn hl hc k (by omega)) (by omega) (Gt hn hl ha hc hd k (by omega))
def X5(hn:AL n)(hl:Gj l)(ha:∀a∈l.bJ,a.f<=a.t):∀k:Nat,(k:Int)<=l.ba->Nw n l ((List.range k).foldl (acs n l) (List.replicate (mM n.ak l.ba).toNat ⟨0,0,0,0⟩)) k 0:=by
 intro k;induction k with
 |zero=>
  intro _ h s t a1 a2 a3 a4 a5;omega
 |succ k ih=>
  intro hk;rw[Hu,Dg];have h4:=hl.2.1;have:=Gt hn hl ha (Gl hn hl k (by omega)) (ih (by omega)) (l.ba.toNat-k) (by omega);intro h s t a1 a2 a3 a4 a5;exact this h s t a1 a2 a3 a4 (by omega)
end
end
namespace Kn
section
variable{f:bw}
structure kU where
 (x:Int) (v:dg) (h t:Int)
 deriving DecidableEq,Inhabited
def kU.enc(e:kU):aL:=[ti e.x,ti e.v.aI,ti e.v.size,ti e.h,ti e.t]
def dJ(l:List kU):List (aL):=l.map kU.enc
def yn:aL->kU
 |[a,c,s,b,d]=>⟨dL a,⟨dL c,dL s⟩,dL b,dL d⟩
 |_=>default
@[simp] def yo(e:kU):yn e.enc=e:=by simp[yn,kU.enc,dL]
@[simp] def wG{a b:List kU}:dJ a=dJ b↔a=b:=⟨λh=>by
 have:=congrArg (List.map yn) h;simpa [dJ,gK yo]using this,λh=>by rw[h]⟩
@[simp] def Yn(l:List kU):(dJ l).length=l.length:=by simp[dJ]
def dO{l:List kU}{y:Nat}(h:y<l.length):DM.rowAt (dJ l) y=(l.getD y default).enc:=by simp[DM.rowAt,dJ,h]
def lZ(l:List kU)(i:Nat)(e:kU):dJ (l.set i e)=(dJ l).set i e.enc:=by simp[dJ,Zcs]
def ua(a b:List kU):dJ (a++b)=dJ a++dJ b:=by simp[dJ]
def yq(a:List kU)(n:Nat):(dJ a).take n=dJ (a.take n):=by simp[dJ,Zcx]
structure Qs where
 heap:List kU
 bI:Nat
 es:Pl
 mc:Nat
 (next bA:Int)
def qB(hp m:Nat)(s:Qs):Ob:=.box [.v (.fn (.func 101) []),.bC hp s.bI,.je m,.v (ti s.next),.v (ti s.bA)]
def hB(s:Qs):Ob:=.bE s.bI 211 5 (dJ s.heap)
def mB(s:Qs):Ob:=.map [.int .i64] false s.mc (vM s.es)
structure QV where
 (hp m:Nat)
 s:Qs
structure QV.at(v:QV)(f:bw)(q:Nat):Prop where
 q:f q=some (qB v.hp v.m v.s)
 hp:f v.hp=some (hB v.s)
 m:f v.m=some (mB v.s)
def QV.Dj{v w:QV}{q:Nat}(h:v.at f q)(k:w.at f q):v=w:=by
 obtain⟨hp,m,⟨heap,bI,es,mc,next,bA⟩⟩:=v;obtain⟨hp',m',⟨aaB,cw,ol,mc',ak9,adi⟩⟩:=w;obtain⟨h1,h2,h3⟩:=h;obtain⟨k1,k2,k3⟩:=k;simp only at h1 h2 h3 k1 k2 k3;rw[h1]at k1;simp only[qB,cu,Ob.box.injEq,LS,DV.bC.injEq,DV.je.injEq,DV.v.injEq,T.int.injEq,qI,D7]at k1;obtain⟨⟨e2,e3⟩,e4,e5,e6⟩:=k1;subst e2 e3 e4 e5 e6;rw[h2]at k2;simp only[hB,cu,Ob.bE.injEq,wG,qI]at k2;rw[h3]at k3;simp only[mB,cu,Ob.map.injEq,KS,qI]at k3;obtain⟨e7,e8⟩:=k3;subst k2 e7 e8;rfl
open Classical in
noncomputable def eY(f:bw)(q:Nat):QV:=if h:∃v:QV,v.at f q then Classical.choose h else⟨0,0,⟨[],0,[],0,0,0⟩⟩
def fm{v:QV}{q:Nat}(h:v.at f q):eY f q=v:=by
 have hx:∃v:QV,v.at f q:=⟨v,h⟩;unfold eY;rw[Zdg hx];exact QV.Dj (Classical.choose_spec hx) h
def ja(a b:kU):Prop:=a.v.lt b.v\/(¬b.v.lt a.v/\a.t<b.t)
instance(a b:kU):Decidable (ja a b):=by unfold ja;infer_instance
abbrev Qs.e(s:Qs)(i:Int):kU:=s.heap.getD i.toNat default
noncomputable def GI:bG->bw->fV
 |[.ptr q 0,.v (.int .i64 i),.v (.int .i64 j)],f=>⟨(∃v:QV,v.at f q)/\(0<=i/\i<(eY f q).s.heap.length)/\(0<=j/\j<(eY f q).s.heap.length),.v (.bool (decide (ja ((eY f q).s.e i) ((eY f q).s.e j)))),f⟩
 |_,f=>⟨False,.undef,f⟩
def NO{v:QV}{q:Nat}{i j:Int}(h:v.at f q):GI [.ptr q 0,.v (ti i),.v (ti j)] f=⟨(0<=i/\i<v.s.heap.length)/\(0<=j/\j<v.s.heap.length),.v (.bool (decide (ja (v.s.e i) (v.s.e j)))),f⟩:=by
 have hx:∃v:QV,v.at f q:=⟨v,h⟩;simp only[GI,fm h,hx,qI]
def ar1(a b:Int)(v w:dg):bu aj 101 [.agg [ti a,ti v.aI,ti v.size],.agg [ti b,ti w.aI,ti w.size]] (.bool (decide (v.lt w))):=by
 obtain⟨R,hR⟩:=be (decide (v.lt w));rw[hR];obtain⟨vc,vs⟩:=v;obtain⟨wc,ws⟩:=w;have aC:=am4 ay.nil;refine ap5.ok (by simp) (aT ?_);simp;apply aa.ag aC fw [2,3];simp[Tr];apply aa.ag aC fw [4];simp[Ts,hR];apply aa.ret;simp[dj]
abbrev ar2:DM.Spec:=dh (λts=>∃x a b y c d,ts=[.agg [ti x,ti a,ti b],.agg [ti y,ti c,ti d]]) (fun|[.agg [_,.int _ a,.int _ b],.agg [_,.int _ c,.int _ d]]=>.bool (decide ((⟨a,b⟩:dg).lt ⟨c,d⟩))|_=>.bool false) true
def am5{l:List (Nat×DM.Spec)}(h:ay aj (bB l)):ay aj (bB ((101,ar2)::l)):=by
 refine ay.cons h ?_;rintro ts ⟨x,a,b,y,c,d,rfl⟩;exact⟨ar1 x y ⟨a,b⟩ ⟨c,d⟩,λ_=>rfl⟩
def ar3{f0:bw}{q N i j:Nat}{v:QV}(hN:∀r,N<=r->f0 r=none)(h:v.at f0 q)(hi:i<v.s.heap.length)(hj:j<v.s.heap.length):
  aQ aj 148 [.ptr q 0,.v (ti i),.v (ti j)] f0 ⟨True,.v (.bool (decide (ja (v.s.e i) (v.s.e j)))),f0⟩:=by
 obtain⟨R,hR⟩:=be (decide (ja (v.s.e i) (v.s.e j)));rw[hR];have aC:=am5 ay.nil;refine aqm.qE hN (by simp) λaV=>?_;obtain⟨hp,m,⟨heap,bI,es,mc,next,bA⟩⟩:=v;obtain⟨h1,h2,h3⟩:=h;simp only[qB,hB,mB]at h1 h2 h3 hi hj;have Pc:q<N:=(aV q _ h1).1;have nu:hp<N:=(aV hp _ h2).1;have hqp:q≠hp:=λe=>by rw[e,h2]at h1;cases h1
 have r1:=dO hi;have r2:=dO hj;simp only[Qs.e,iP]at hR;obtain⟨⟨ax,⟨ac,az⟩,ah,xx⟩,ex⟩:=be (heap.getD i default);obtain⟨⟨bx,⟨bc,bz⟩,bh,bt⟩,ey⟩:=be (heap.getD j default);simp only[ex,ey,kU.enc]at r1 r2 hR;have nq:∀k,q≠N+k:=λk=>by omega
 have np:∀k,hp≠N+k:=λk=>by omega
 simp;apply aa.ag aC fw [0,1,2];simp[TX];apply aa.kv aC fw (rs:=db (jo q hp N) (fg Kh [none,none,none,none,none,none,none,none,none,none,some [0],none,some [1],some [1],none,none,some [58],none])) (.inl rfl) ((d8 (kh Pc nu hqp) _ _ _).trans (by kernel_rfl)) [0,7,8];simp[Kh,db,fG,fg,jo,cX,bN,aP,h1,h2,hi,hj,r1,r2];refine aa.le (Le.d6 (l1:=[]) (l:=[(0,.ptr q 0),(7,.v (.box [ti ax,ti ac,ti az,ti ah,ti xx])),(8,.v (.box [ti bx,ti bc,ti bz,ti bh,ti bt]))]) (aZ:=N+1000) aV ?_ ?_ ?_ ?_ ?_) ?_
 ·omega
 ·simp
 ·simp[bT];omega
 ·simp[dT]
 ·simp[h1,ed];exact⟨bY (l:=[]) aV (by omega) (by simp),bY (l:=[]) aV (by omega) (by simp)⟩
 obtain⟨c1,b8⟩:=be (decide ((⟨ac,az⟩:dg).lt ⟨bc,bz⟩):Bool);obtain⟨c2,gZ⟩:=be (decide ((⟨bc,bz⟩:dg).lt ⟨ac,az⟩):Bool);have e0:aO [] f0=f0:=rfl;rw[e0];apply aa.sq aC fw [0,7,8,31];simp[TY,h1,b8];refine aa.cond rfl (λg=>?_) (λg=>?_)
 ·have g:c1=true:=by simpa using g
  subst g;have:R=true:=by rw[<-hR];unfold ja;simp[qW b8]
  subst this;apply aa.ag aC fw [6];simp[TZ];apply aa.ret;simp[dj]
 ·have g:c1=false:=by simpa using g
  subst g;apply aa.skip;simp;refine aa.cH aC fw [(6,.v (.bool R))] ?_ ?_
  ·have AM:(!c2&&decide (xx<bt))=R:=by
    rw[<-hR,<-gZ];unfold ja;have:=wS b8;by_cases z1:(⟨bc,bz⟩:dg).lt ⟨ac,az⟩<;>by_cases z2:xx<bt<;>simp[this,z1,z2]
   cases c2
   ·simp[Ki,h1,gZ]at AM⊢;exact AM
   ·simp[Ki,h1,gZ]at AM⊢;exact AM
  apply aa.ret;simp[dj]
def adj:∀args ab,(GI args ab).ok->(∀N,(∀r,N<=r->ab r=none)->aQ aj 148 args ab (GI args ab))/\∀r,ab r=none->(GI args ab).ab r=none:=by
 intro args ab h;unfold GI at h⊢;split at h
 ·rename_i q i j;obtain⟨⟨v,hv⟩,⟨i0,i1⟩,j0,j1⟩:=h;rw[fm hv]at i1 j1⊢;obtain⟨i,rfl⟩:=kK i0;obtain⟨j,rfl⟩:=kK j0;exact⟨λN hN=>aQ.of (ar3 hN hv (by omega) (by omega)) rfl rfl,λr hr=>hr⟩
 ·exact h.elim
def adk{l:List (Nat×DM.Spec)}(h:ay aj (bB l)):ay aj (bB ((148,en GI)::l)):=ay.ij h adj
end
section
variable{f f0:bw}{r aK aZ:Nat}{tm:dn}{X:c7}
def bO(f:bw)(q:Nat)(v:QV)(s:Qs):bw:=aO [(q,qB v.hp v.m s),(v.hp,hB s),(v.m,mB s)] f
abbrev QV.to(v:QV)(s:Qs):QV:=⟨v.hp,v.m,s⟩
structure QV.Ne(v:QV)(q:Nat):Prop where
 qp:q≠v.hp
 qm:q≠v.m
 pm:v.hp≠v.m
def QV.at.ne{v:QV}{q:Nat}(h:v.at f q):v.Ne q:=by
 obtain⟨h1,h2,h3⟩:=h;simp only[qB,hB,mB]at h1 h2 h3;refine⟨λe=>?_,λe=>?_,λe=>?_⟩
 ·rw[e,h2]at h1;cases h1
 ·rw[e,h3]at h1;cases h1
 ·rw[e,h3]at h2;cases h2
def eo{v:QV}{q:Nat}(h:v.at f q)(s:Qs):(v.to s).at (bO f q v s) q:=by
 have n:=h.ne;exact⟨by simp[bO],by simp[bO,Ne.symm n.qp],by simp[bO,Ne.symm n.qm,Ne.symm n.pm]⟩
def jy(f:bw)(q:Nat)(v:QV)(s s':Qs):bO (bO f q v s) q (v.to s) s'=bO f q v s':=by
 funext k;simp only[bO,aH,bL];by_cases h1:k=q<;>by_cases h2:k=v.hp<;>by_cases h3:k=v.m<;>simp[h1,h2,h3]
def YA{v:QV}{q:Nat}(h:v.at f q):bO f q v v.s=f:=by
 funext k;simp only[bO,aH,bL];split
 ·rename_i e;rw[e];exact h.q.symm
 ·split
  ·rename_i e;rw[e];exact h.hp.symm
  ·split
   ·rename_i e;rw[e];exact h.m.symm
   ·rfl
def g5{v:QV}{q:Nat}(h:v.at f q)(s:Qs)(hr:f r=none):bO f q v s r=none:=by
 have e1:r≠q:=λe=>by rw[e,h.q]at hr;cases hr
 have e2:r≠v.hp:=λe=>by rw[e,h.hp]at hr;cases hr
 have e3:r≠v.m:=λe=>by rw[e,h.m]at hr;cases hr
 simp[bO,e1,e2,e3,hr]
def sP{N q:Nat}{l:eO}{L:c7}{v:QV}(s:Qs)(aV:df f0 N)(hv:v.at f0 q)(hn:N<=aZ)(P4:v.s.bI<=s.bI)
  (hL:∀p∈L,p.1=q\/p.1=v.hp\/p.1=v.m\/N<=p.1) (h1:aO L f0 q=some (qB v.hp v.m s)) (h2:aO L f0 v.hp=some (hB s)) (h3:aO L f0 v.m=some (mB s))
  (iW:fK (aO L f0) (bO f0 q v s) id tm l):
  Le ⟨tm,aO L f0,aK,N,[]⟩ ⟨DM.look l,bO f0 q v s,aZ,N,[]⟩:=by
 have Pc:q<N:=(aV q _ hv.q).1;have nu:v.hp<N:=(aV v.hp _ hv.hp).1;have CR:v.m<N:=(aV v.m _ hv.m).1;have n:=hv.ne;refine Le.d6 aV hn ?_ ?_ ?_ iW
 ·simp;omega
 ·have:∀(L:c7),(∀p∈L,p.1=q\/p.1=v.hp\/p.1=v.m\/N<=p.1)->bT N [(q,qB v.hp v.m s),(v.hp,hB s),(v.m,mB s)] L:=by
   intro L;induction L with
   |nil=>intro _;trivial
   |cons p L ih=>
    intro h;refine⟨λhq=>?_,ih λp hp=>h p (by simp[hp])⟩;rcases h p (by simp)with h|h|h|h
    ·exact⟨_,by rw[h];exact .head _⟩
    ·exact⟨_,by rw[h];exact .tail _ (.head _)⟩
    ·exact⟨_,by rw[h];exact .tail _ (.tail _ (.head _))⟩
    ·omega
  exact this _ hL
 ·refine⟨⟨_,h1,.inr ⟨rfl,λk hk=>?_⟩,λ_=>bk _⟩,⟨_,h2,.inr ⟨rfl,λk hk=>by simp[bb,hB]at hk⟩,λ_=>bk _⟩,⟨_,h3,.inr ⟨rfl,λk hk=>?_⟩,λ_=>bk _⟩,trivial⟩
  ·simp only[qB,bb,bQ,aP,wa,oi,fN,g9,wh,JJ]at hk;rcases hk with rfl|rfl
   ·exact⟨_,_,h2,by simp[Ne.symm n.qp],bk _⟩
   ·exact⟨_,_,h3,by simp[Ne.symm n.qm,Ne.symm n.pm],bk _⟩
  ·exfalso;simp only[mB,bb,Ll,vM,lq]at hk;obtain⟨e,⟨e',_,rfl⟩,hk⟩:=hk;simp[aP]at hk
def Qs.qJ(s:Qs)(k:Int):Prop:=∃i,ue s.es k=some i
def Qs.swap(s:Qs)(i j:Int):Qs:=⟨(s.heap.set i.toNat (s.e j)).set j.toNat (s.e i),s.bI,eu (eu s.es s.mc (s.e j).h i) s.mc (s.e i).h j,s.mc,s.next,s.bA⟩
def Qs.dm(s:Qs)(i j:Int):Prop:=qq s.es/\(0<=i/\i<s.heap.length)/\(0<=j/\j<s.heap.length)/\s.qJ (s.e i).h/\s.qJ (s.e j).h
def asb{q N i j:Nat}{v:QV}(hN:∀r,N<=r->f0 r=none)(h:v.at f0 q)(hs:v.s.dm i j):
  aQ aj 133 [.ptr q 0,.v (ti i),.v (ti j)] f0 ⟨True,.v (.eB []),bO f0 q v (v.s.swap i j)⟩:=by
 obtain⟨S,hS⟩:=be (v.s.swap i j);rw[hS];have aC:=cL;have h0:=h;have n:=h.ne;refine aqg.qE hN (by simp) λaV=>?_;obtain⟨hp,m,⟨heap,bI,es,mc,next,bA⟩⟩:=v;obtain⟨h1,h2,h3⟩:=h;obtain⟨s1,⟨_,s2⟩,⟨_,s3⟩,⟨i1,s4⟩,⟨i2,s5⟩⟩:=hs;simp only[qB,hB,mB,Qs.e,iP]at h1 h2 h3 s1 s2 s3 s4 s5;have hi:i<heap.length:=by omega
 have hj:j<heap.length:=by omega
 have Pc:q<N:=(aV q _ h1).1;have nu:hp<N:=(aV hp _ h2).1;have CR:m<N:=(aV m _ h3).1;have r1:=dO hi;have r2:=dO hj;simp only[Qs.swap,Qs.e,iP]at hS;obtain⟨ea,ex⟩:=be (heap.getD i default);obtain⟨eb,ey⟩:=be (heap.getD j default);simp only[ex,ey]at r1 r2 hS s4 s5;obtain⟨H,hH⟩:=be ((heap.set i eb).set j ea);have hHl:H.length=heap.length:=by rw[<-hH];simp
 have qO:i<H.length:=by omega
 have hj':j<H.length:=by omega
 have r3:=dO qO;have r4:=dO hj';have e3:H.getD i default=eb:=by
  rw[<-hH];by_cases e:i=j
  ·subst e;rw[<-ex,<-ey];simp[List.getD,hi]
  ·have:j≠i:=λq=>e q.symm;simp[List.getD,this,hi]
 have e4:H.getD j default=ea:=by rw[<-hH];simp[List.getD,hj]
 rw[e3]at r3;rw[e4]at r4;have EC:((dJ heap).set i eb.enc).set j ea.enc=dJ H:=by rw[<-hH,lZ,lZ]
 obtain⟨x1,y1,z1,z2,z3⟩:=D3 s5 (.v (ti 0)) mc;obtain⟨E1,hE1⟩:=be (eu es mc eb.h i);have b1:=As (v:=(i:Int)) s1 s5 y1 mc;rw[hE1]at b1 hS;have s6:ue E1 ea.h=some i1:=by rw[<-hE1,oa s5];exact s4
 have s7:qq E1:=by rw[<-hE1];exact l8 s5 s1
 obtain⟨x2,y2,z4,z5,z6⟩:=D3 s6 (.v (ti 0)) mc;have b2:=As (v:=(j:Int)) s7 s6 y2 mc;obtain⟨E2,KC⟩:=be (eu E1 mc ea.h j);rw[KC]at b2 hS;rw[hH]at hS;obtain⟨ax,⟨ac,az⟩,ah,xx⟩:=ea;obtain⟨bx,⟨bc,bz⟩,bh,bt⟩:=eb;simp only[kU.enc]at r1 r2 r3 r4 EC z1 z2 z3 z4 z5 z6;simp;apply aa.ag aC fw [0,1,2];have hd:List.drop 5 (DM.rowAt ((dJ heap).set i [ti bx,ti bc,ti bz,ti bh,ti bt]) (j:Int))=[]:=by
  rw[show(dJ heap).set i [ti bx,ti bc,ti bz,ti bh,ti bt]=dJ (heap.set i ⟨bx,⟨bc,bz⟩,bh,bt⟩)from(lZ heap i ⟨bx,⟨bc,bz⟩,bh,bt⟩).symm,dO (by simpa using hj)];rfl
 simp[TO,h1,h2,hi,hj,r1,r2,hd,EC];obtain⟨V,hV⟩:=be ((⟨hp,m,⟨heap,bI,es,mc,next,bA⟩⟩:QV):QV);have xB:V.hp=hp/\V.m=m:=by rw[<-hV];exact⟨rfl,rfl⟩
 obtain⟨S1,sY⟩:=be ((⟨H,bI,es,mc,next,bA⟩:Qs):Qs);rw[hV]at h0 n⊢;have n2:=n;obtain⟨n1,Hl,n3⟩:=n;rw[xB.1]at n1 n3;rw[xB.2]at Hl n3;refine aa.le (sP (v:=V) S1 (l:=[(0,.ptr q 0),(1,.v (ti i)),(2,.v (ti j))]) (aZ:=N+100) aV h0 (by omega) (by rw[<-hV,<-sY];exact fq _) ?_ ?_ ?_ ?_ ?_) ?_
 ·simp[xB]
 ·rw[xB.1,xB.2,<-sY];simp[n1,h1,qB]
 ·rw[xB.1,<-sY];simp[hB]
 ·rw[xB.2,<-sY];simp[mB,Ne.symm n3,h3]
 ·simp[bO,qB]
 obtain⟨G,hG⟩:=be (bO f0 q V S);rw[hG];simp only[bO,xB,<-sY,qB,hB,mB];have IA:=Ne.symm n1;have Ly:=Ne.symm n3;have anc:=Ne.symm Hl;refine aa.to ⟨DM.look [],bO f0 q V S,N+1000,N,[]⟩ ?_ (by simp[M3,hG]);apply aa.fA aC fw [];simp[TP,qO,hj',r3,r4,IA,Ly,anc,z1,z2,z3,z4,z5,z6,b1,b2];refine sP S (l:=[]) (aZ:=N+1000) aV h0 (by omega) (by rw[<-hV,<-hS];exact fq _) ?_ ?_ ?_ ?_ ?_
 ·simp[xB]
 ·rw[xB.1,xB.2,<-hS];simp[Hl,qB]
 ·rw[xB.1,<-hS];simp[n3,IA,hB]
 ·rw[xB.2,<-hS];simp[mB]
 ·simp
def vS(X Y:c7)(f:bw):aO X (aO Y f)=aO (X++Y) f:=by
 induction X with
 |nil=>rfl
 |cons a X ih=>funext k;obtain⟨r,o⟩:=a;simp only[C5,aH,ih]
def alc{N q:Nat}{l:eO}{L:c7}{v:QV}(s:Qs)(aV:df f0 N)(hv:v.at f0 q)(hn:N<=aZ)(P4:v.s.bI<=s.bI)
  (hL:∀p∈L,p.1=q\/p.1=v.hp\/p.1=v.m\/N<=p.1) (hX:∀p∈X,N<=p.1/\p.1<aZ/\aO L f0 p.1=some p.2/\bb p.2=[])
  (h1:aO L f0 q=some (qB v.hp v.m s)) (h2:aO L f0 v.hp=some (hB s)) (h3:aO L f0 v.m=some (mB s))
  (iW:fK (aO L f0) (aO X (bO f0 q v s)) id tm l):
  Le ⟨tm,aO L f0,aK,N,[]⟩ ⟨DM.look l,aO X (bO f0 q v s),aZ,N,[]⟩:=by
 have Pc:q<N:=(aV q _ hv.q).1;have nu:v.hp<N:=(aV v.hp _ hv.hp).1;have CR:v.m<N:=(aV v.m _ hv.m).1;have n:=hv.ne;have hxn:∀r,r<N->aO X (bO f0 q v s) r=bO f0 q v s r:=λr hr=>fF λo ho=>by have:=(hX _ ho).1;simp only at this;omega
 unfold bO at iW hxn⊢;rw[vS]at iW⊢;refine Le.d6 aV hn ?_ ?_ ?_ iW
 ·clear iW hxn;induction X with
  |nil=>simp;omega
  |cons a X ih=>obtain⟨r,o⟩:=a;exact⟨(hX (r,o) (by simp)).2.1,ih λp hp=>hX p (by simp[hp])⟩
 ·have:∀(L:c7),(∀p∈L,p.1=q\/p.1=v.hp\/p.1=v.m\/N<=p.1)->bT N (X++[(q,qB v.hp v.m s),(v.hp,hB s),(v.m,mB s)]) L:=by
   intro L;induction L with
   |nil=>intro _;trivial
   |cons p L ih=>
    intro h;refine⟨λhq=>?_,ih λp hp=>h p (by simp[hp])⟩;rcases h p (by simp)with h|h|h|h
    ·exact⟨_,Zch X (by rw[h];exact .head _)⟩
    ·exact⟨_,Zch X (by rw[h];exact .tail _ (.head _))⟩
    ·exact⟨_,Zch X (by rw[h];exact .tail _ (.tail _ (.head _)))⟩
    ·omega
  exact this _ hL
 ·have tail:dT N (aO L f0) (aO (X++[(q,qB v.hp v.m s),(v.hp,hB s),(v.m,mB s)]) f0) [(q,qB v.hp v.m s),(v.hp,hB s),(v.m,mB s)]:=by
   rw[<-vS];refine⟨⟨_,h1,.inr ⟨rfl,λk hk=>?_⟩,λ_=>bk _⟩,⟨_,h2,.inr ⟨rfl,λk hk=>by simp[bb,hB]at hk⟩,λ_=>bk _⟩,⟨_,h3,.inr ⟨rfl,λk hk=>?_⟩,λ_=>bk _⟩,trivial⟩
   ·simp only[qB,bb,bQ,aP,wa,oi,fN,g9,wh,JJ]at hk;rcases hk with rfl|rfl
    ·exact⟨_,_,h2,by rw[hxn _ nu];simp[Ne.symm n.qp],bk _⟩
    ·exact⟨_,_,h3,by rw[hxn _ CR];simp[Ne.symm n.qm,Ne.symm n.pm],bk _⟩
   ·exfalso;simp only[mB,bb,Ll,vM,lq]at hk;obtain⟨e,⟨e',_,rfl⟩,hk⟩:=hk;simp[aP]at hk
  have key:∀(Y Z:c7) (b:bw),(∀p∈Y,N<=p.1/\aO L f0 p.1=some p.2/\bb p.2=[])->dT N (aO L f0) b Z->dT N (aO L f0) b (Y++Z):=by
   intro Y;induction Y with
   |nil=>intro Z b _ h;exact h
   |cons a Y ih=>
    intro Z b hY h;obtain⟨r,o⟩:=a;obtain⟨y1,y2,y3⟩:=hY (r,o) (by simp);exact⟨⟨o,y2,.inr ⟨rfl,λm hm=>by rw[y3]at hm;cases hm⟩,λ_=>bk _⟩,ih Z b (λp hp=>hY p (by simp[hp])) h⟩
  exact key X _ _ (λp hp=>⟨(hX p hp).1,(hX p hp).2.2⟩) tail
def WH{N q:Nat}{v:QV}{s:Qs}(aV:df f0 N)(hv:v.at f0 q)(hr:N<=r)(hx:∀p∈X,p.1≠r):gone (DM.aO X (bO f0 q v s)) id r:=by
 have Pc:q<N:=(aV q _ hv.q).1;have nu:v.hp<N:=(aV v.hp _ hv.hp).1;have CR:v.m<N:=(aV v.m _ hv.m).1;unfold bO;rw[vS];refine bY aV hr λp hp=>?_;rcases oi.1 hp with hp|hp
 ·exact hx p hp
 ·simp only[fN,g9,wh]at hp;rcases hp with rfl|rfl|rfl<;>simp only<;>omega
def QV.at.aO{v:QV}{q x:Nat}{o:Ob}(h:v.at f q)(h1:x≠q)(h2:x≠v.hp)(h3:x≠v.m):v.at (DM.aO [(x,o)] f) q:=
 ⟨by simp[Ne.symm h1,h.q],by simp[Ne.symm h2,h.hp],by simp[Ne.symm h3,h.m]⟩
def BP{v:QV}{q x:Nat}{o:Ob}(s:Qs)(h1:x≠q)(h2:x≠v.hp)(h3:x≠v.m):bO (DM.aO [(x,o)] f) q v s=DM.aO [(x,o)] (bO f q v s):=by
 funext k;simp only[bO,aH,bL];by_cases e:k=x
 ·subst e;simp[h1,h2,h3]
 ·simp[e]
end
section
variable{f f0:bw}
noncomputable def GR:bG->bw->fV
 |[.ptr q 0,.v (.int .i64 i),.v (.int .i64 j)],f=>⟨(∃v:QV,v.at f q)/\(eY f q).s.dm i j,.v (.eB []),bO f q (eY f q) ((eY f q).s.swap i j)⟩
 |_,f=>⟨False,.undef,f⟩
def GS{v:QV}{q:Nat}{i j:Int}(h:v.at f q):GR [.ptr q 0,.v (ti i),.v (ti j)] f=⟨v.s.dm i j,.v (.eB []),bO f q v (v.s.swap i j)⟩:=by
 have hx:∃v:QV,v.at f q:=⟨v,h⟩;simp only[GR,fm h,hx,qI]
def adx:∀args ab,(GR args ab).ok->(∀N,(∀r,N<=r->ab r=none)->aQ aj 133 args ab (GR args ab))/\∀r,ab r=none->(GR args ab).ab r=none:=by
 intro args ab h;unfold GR at h⊢;split at h
 ·rename_i q i j;obtain⟨⟨v,hv⟩,hs⟩:=h;rw[fm hv]at hs⊢;have hs':=hs;obtain⟨_,⟨i0,_⟩,⟨j0,_⟩,_⟩:=hs';obtain⟨i,rfl⟩:=kK i0;obtain⟨j,rfl⟩:=kK j0;exact⟨λN hN=>aQ.of (asb hN hv hs) rfl rfl,λr hr=>g5 hv _ hr⟩
 ·exact h.elim
def Rp{l:List (Nat×DM.Spec)}(h:ay aj (bB l)):ay aj (bB ((133,en GR)::l)):=ay.ij h adx
structure Qs.ok(s:Qs):Prop where
 pl:qq s.es
 st:∀e∈s.es,e.1<s.mc
 qJ:∀e∈s.heap,s.qJ e.h
def Qs.oK{s:Qs}{i j:Int}(hi:i.toNat<s.heap.length)(hj:j.toNat<s.heap.length){e:kU}(h:e∈(s.swap i j).heap):e∈s.heap:=by
 rcases Hk h with h|rfl
 ·rcases Hk h with h|rfl
  ·exact h
  ·exact bq hj
 ·exact bq hi
def Qs.ok.dm{s:Qs}(h:s.ok){i j:Int}(hi:0<=i/\i<s.heap.length)(hj:0<=j/\j<s.heap.length):s.dm i j:=
 ⟨h.pl,hi,hj,h.qJ _ (bq (by omega)),h.qJ _ (bq (by omega))⟩
def Qs.ok.swap{s:Qs}(h:s.ok){i j:Int}(hi:0<=i/\i<s.heap.length)(hj:0<=j/\j<s.heap.length):(s.swap i j).ok:=by
 obtain⟨_,_,_,⟨i1,s4⟩,⟨i2,s5⟩⟩:=h.dm hi hj;have s6:ue (eu s.es s.mc (s.e j).h i) (s.e i).h=some i1:=by rw[oa s5];exact s4
 have yS:∀{l:Pl} {c:Nat} {k v:Int} {i:Nat},ue l k=some i->qq l->(∀e∈l,e.1<c)->∀e∈eu l c k v,e.1<c:=by
  intro l c k v i hk hl hc e he;have:=(Au (k:=k) (v:=v) hl hc).2 e he;unfold xC at this;rw[hk]at this;exact this
 refine⟨l8 s6 (l8 s5 h.pl),yS s6 (l8 s5 h.pl) (yS s5 h.pl h.st),λe he=>?_⟩;obtain⟨k,hk⟩:=h.qJ e (Qs.oK (by omega) (by omega) he);exact⟨k,by show ue (eu _ _ _ _) _=_;rw[oa s6,oa s5];exact hk⟩
@[simp] def Qs.dP(s:Qs)(i j:Int):(s.swap i j).heap.length=s.heap.length:=by simp[Qs.swap]
@[simp] def Qs.ady(s:Qs)(i j:Int):(s.swap i j).bI=s.bI:=rfl
def uQ(i:Nat)(s:Qs):Qs:=
 if h:0<i/\ja (s.e i) (s.e ((i-1)/2:Nat))then uQ ((i-1)/2) (s.swap i ((i-1)/2:Nat))else s
termination_by i
decreasing_by omega
def sQ{N aK aZ q:Nat}{tm:dn}{l:eO}{v:QV}(s:Qs)(aV:df f0 N)(hv:v.at f0 q)(hn:N<=aZ)(P4:v.s.bI<=s.bI)
  (iW:fK (bO f0 q v s) (bO f0 q v s) id tm l):
  Le ⟨tm,bO f0 q v s,aK,N,[]⟩ ⟨DM.look l,bO f0 q v s,aZ,N,[]⟩:=by
 have k:=eo hv s;have n:=hv.ne;refine sP s aV hv hn P4 ?_ k.q k.hp k.m iW
 ·simp
def ash{q N i:Nat}{v:QV}(hN:∀r,N<=r->f0 r=none)(h:v.at f0 q)(hs:v.s.ok)(hi:i<v.s.heap.length)(dN:v.s.heap.length<=1000000):
  aQ aj 147 [.ptr q 0,.v (ti i)] f0 ⟨True,.v (.eB []),bO f0 q v (uQ i v.s)⟩:=by
 obtain⟨R,hR⟩:=be (uQ i v.s);rw[hR];have aC:=adk (Rp ay.nil);refine aqk.qE hN (by simp) λaV=>?_;have ew:∀s,bO f0 q v s q=some (qB v.hp v.m s):=λs=>(eo h s).q;simp;apply aa.block;refine aa.loop (λp:Nat×Qs=>⟨DM.look [(0,.ptr q 0),(1,.v (ti p.1))],bO f0 q v p.2,N+1000,N,[]⟩)
  (λp=>p.1<p.2.heap.length/\p.2.ok/\uQ p.1 p.2=R/\p.2.heap.length<=1000000/\p.2.bI=v.s.bI) (λp=>p.1) (i,v.s) ?_ ⟨hi,hs,hR,dN,rfl⟩ (λp hp=>?_)
 ·refine sP v.s (L:=[]) aV h (by omega) (fq _) (by simp) h.q h.hp h.m ?_;simp[ew,qB]
 obtain⟨i,s⟩:=p;obtain⟨p1,p2,p3,p4,p5⟩:=hp;simp only at p1 p2 p3 p4 p5;have hv:=eo h s;have k1:=λx y=>NO (i:=x) (j:=y) hv;have k2:=λx y=>GS (i:=x) (j:=y) hv;have e0:∀s',bO (bO f0 q v s) q (v.to s) s'=bO f0 q v s':=jy f0 q v s;simp only[QV.to,Qs.e]at k1 k2;unfold uQ at p3;by_cases hz:i=0
 ·subst hz;rw[Zdf (by omega)]at p3;subst p3;apply aa.seq;apply aa.cY aC fw (rs:=vG) rfl (by kernel_rfl) [13];simp[vG];refine aa.cond rfl (λg=>by cases g) (λg=>?_);apply aa.exit;simp[F4]
 ·have w1:IntKind.i64.wrap ((i:Int)-1)=((i-1:Nat):Int):=by rw[aF (by omega)];omega
  have w2:IntKind.i64.wrap (((i-1:Nat):Int).tdiv 2)=(((i-1)/2:Nat):Int):=by rw[E0 (by omega),aF (by omega)];omega
  have w3:IntKind.i64.wrap (((i-1:Nat):Int)/2)=(((i-1)/2:Nat):Int):=by rw[aF (by omega)];omega
  obtain⟨c1,b8⟩:=be (decide (ja (s.e i) (s.e ((i-1)/2:Nat))):Bool);have gZ:=b8;simp only[Qs.e,iP]at gZ;have hz':0<i:=by omega
  have zm:(i-1)/2<s.heap.length:=by omega
  apply aa.seq;apply aa.cY aC fw (rs:=vG) rfl (by kernel_rfl) [0,1,13];obtain⟨y,hy⟩:=be ((i-1)/2);rw[hy]at w2 w3 b8 gZ zm p3;simp[vG,w1,w3,k1,hz',zm,p1];refine aa.cond rfl (λg=>?_) (λg=>?_)
  ·have g:c1=true:=by rw[<-b8];simpa [Qs.e,p1,zm]using g
   subst g;rw[Zdg ⟨hz',qW b8⟩]at p3;have so:=p2.dm (i:=i) (j:=y) ⟨by omega,by omega⟩ ⟨by omega,by omega⟩;have so2:=p2.swap (i:=i) (j:=y) ⟨by omega,by omega⟩ ⟨by omega,by omega⟩;apply aa.skip;simp;apply aa.block;apply aa.cY aC fw (rs:=F3) rfl (by kernel_rfl) [0,1];simp[F3,w1,w3,k2,so,e0];apply aa.fA aC fw [0,1];simp[TW,w1,w3];refine⟨y,s.swap i y,sQ _ aV h (by omega) (by simp[p5]) ?_,⟨by simpa using zm,so2,p3,by simpa using p4,by simpa using p5⟩,by omega⟩;simp[ew,qB]
  ·have g:c1=false:=by rw[<-b8];simpa [Qs.e,p1,zm]using g
   subst g;rw[Zdf λx=>wS b8 x.2]at p3;subst p3;apply aa.exit;simp[F4]
noncomputable def GU:bG->bw->fV
 |[.ptr q 0,.v (.int .i64 i)],f=>⟨(∃v:QV,v.at f q)/\(eY f q).s.ok/\(0<=i/\i<(eY f q).s.heap.length)/\(eY f q).s.heap.length<=1000000,.v (.eB []),bO f q (eY f q) (uQ i.toNat (eY f q).s)⟩
 |_,f=>⟨False,.undef,f⟩
def adz{v:QV}{q:Nat}{i:Int}(h:v.at f q):GU [.ptr q 0,.v (ti i)] f=⟨v.s.ok/\(0<=i/\i<v.s.heap.length)/\v.s.heap.length<=1000000,.v (.eB []),bO f q v (uQ i.toNat v.s)⟩:=by
 have hx:∃v:QV,v.at f q:=⟨v,h⟩;simp only[GU,fm h,hx,qI]
def adA:∀args ab,(GU args ab).ok->(∀N,(∀r,N<=r->ab r=none)->aQ aj 147 args ab (GU args ab))/\∀r,ab r=none->(GU args ab).ab r=none:=by
 intro args ab h;unfold GU at h⊢;split at h
 ·rename_i q i;obtain⟨⟨v,hv⟩,hs,⟨i0,i1⟩,hl⟩:=h;rw[fm hv]at hs i1 hl⊢;obtain⟨i,rfl⟩:=kK i0;exact⟨λN hN=>aQ.of (ash hN hv hs (by omega) hl) rfl rfl,λr hr=>g5 hv _ hr⟩
 ·exact h.elim
def anh{l:List (Nat×DM.Spec)}(h:ay aj (bB l)):ay aj (bB ((147,en GU)::l)):=ay.ij h adA
end
def uR(s:Qs)(i:Nat):Nat->Nat
 |0=>i
 |t+1=>if ja (s.e (2*i+1+t:Nat)) (s.e (uR s i t))then 2*i+1+t else uR s i t
def kT(s:Qs)(i:Nat):Nat:=min 2 (s.heap.length-(2*i+1))
def dF(s:Qs)(i:Nat):Nat:=uR s i (kT s i)
def ug(s:Qs)(i:Nat):∀t,uR s i t=i\/(2*i+1<=uR s i t/\uR s i t<2*i+1+t)
 |0=>.inl rfl
 |t+1=>by
  have:=ug s i t;unfold uR;split<;>omega
def ir(s:Qs)(i:Nat):dF s i=i\/(i<dF s i/\dF s i<s.heap.length):=by
 have:=ug s i (kT s i);unfold dF;unfold kT at*
 omega
def fH(i:Nat)(s:Qs):Qs:=
 if h:dF s i=i then s else fH (dF s i) (s.swap i (dF s i:Nat))
termination_by s.heap.length-i
decreasing_by
 have:=ir s i;simp only[Qs.dP];omega
def asi{f0:bw}{q N i:Nat}{v:QV}(hN:∀r,N<=r->f0 r=none)(h:v.at f0 q)(hs:v.s.ok)(hi:i<=1000000)(dN:v.s.heap.length<=1000000):
  aQ aj 134 [.ptr q 0,.v (ti i)] f0 ⟨True,.v (.eB []),bO f0 q v (fH i v.s)⟩:=by
 obtain⟨R,hR⟩:=be (fH i v.s);rw[hR];have aC:=adk (Rp ay.nil);refine aqi.qE hN (by simp) λaV=>?_;have ew:∀s,bO f0 q v s q=some (qB v.hp v.m s):=λs=>(eo h s).q;simp;apply aa.block;refine aa.loop (λp:Nat×Qs=>⟨DM.look [(0,.ptr q 0),(1,.v (ti p.1))],bO f0 q v p.2,N+1000,N,[]⟩)
  (λp=>p.1<=1000000/\p.2.ok/\fH p.1 p.2=R/\p.2.heap.length<=1000000/\p.2.bI=v.s.bI) (λp=>p.2.heap.length-p.1) (i,v.s) ?_ ⟨hi,hs,hR,dN,rfl⟩ (λp hp=>?_)
 ·refine sP v.s (L:=[]) aV h (by omega) (fq _) (by simp) h.q h.hp h.m ?_;simp[ew,qB]
 obtain⟨i,s⟩:=p;obtain⟨p1,p2,p3,p4,p5⟩:=hp;simp only at p1 p2 p3 p4 p5;have hv:=eo h s;have k1:=λx y=>NO (i:=x) (j:=y) hv;have k2:=λx y=>GS (i:=x) (j:=y) hv;have e0:∀s',bO (bO f0 q v s) q (v.to s) s'=bO f0 q v s':=jy f0 q v s;have hq:=hv.q;have hh:=hv.hp;simp only[QV.to,Qs.e,qB,hB]at k1 k2 hq hh;have w1:IntKind.i64.wrap (2*(i:Int))=2*(i:Int):=aF (by omega);have w2:IntKind.i64.wrap (2*(i:Int)+1)=2*(i:Int)+1:=aF (by omega);have w3:IntKind.i64.wrap (2*(i:Int)+2)=2*(i:Int)+2:=aF (by omega);apply aa.block;apply aa.ag aC fw [0,1,4];simp[TQ];apply aa.sq aC fw [0,1,4,5];simp[TR,w1,w2];apply aa.block;refine aa.loop (λt:Nat=>⟨DM.look [(0,.ptr q 0),(1,.v (ti i)),(4,.v (ti (uR s i t))),(5,.v (ti (2*i+1+t:Nat)))],bO f0 q v s,N+2000,N,[]⟩)
  (λt=>t<=kT s i) (λt=>2-t) 0 (sQ _ aV h (by omega) (by simp[p5]) ?_) (by omega) (λt ht=>?_)
 ·simp[ew,qB,uR]
 have auS:kT s i<=2/\(kT s i<=s.heap.length-(2*i+1))/\(kT s i=2\/kT s i=s.heap.length-(2*i+1)):=by unfold kT;omega
 obtain⟨L,hL⟩:=be (uR s i t);have hLo:=ug s i t;rw[hL]at hLo⊢;obtain⟨K,hK⟩:=be (2*i+1+t);rw[hK]at hLo⊢;obtain⟨c1,b8⟩:=be (decide (t<kT s i):Bool);apply aa.seq;refine aa.cH aC fw [(0,.ptr q 0),(1,.v (ti i)),(4,.v (ti L)),(5,.v (ti K)),(23,.v (.bool c1))] ?_ ?_
 ·by_cases z1:t<2
  ·have z2:(K:Int)<=2*(i:Int)+2:=by omega
   by_cases z3:K<s.heap.length
   ·have:c1=true:=by rw[<-b8];simp;omega
    simp[DH,w1,w3,hq,hh,z2,z3,this]
   ·have:c1=false:=by rw[<-b8];simp;omega
    simp[DH,w1,w3,hq,hh,z2,z3,this]
  ·have z2:¬(K:Int)<=2*(i:Int)+2:=by omega
   have:c1=false:=by rw[<-b8];simp;omega
   simp[DH,w1,w3,z2,this]
 refine aa.cond rfl (λg=>?_) (λg=>?_)
 ·have g:c1=true:=by simpa using g
  subst g;have ht2:t<kT s i:=qW b8;have hKl:K<s.heap.length:=by omega
  have Zv:L<s.heap.length:=by omega
  have wK:IntKind.i64.wrap ((K:Int)+1)=((2*i+1+(t+1):Nat):Int):=by rw[aF (by omega)];omega
  have o9:uR s i (t+1)=if ja (s.e K) (s.e L)then K else L:=by
   have:uR s i (t+1)=if ja (s.e (2*i+1+t:Nat)) (s.e (uR s i t))then 2*i+1+t else uR s i t:=rfl
   rw[this,hK,hL]
  apply aa.skip;simp;apply aa.seq;apply aa.block;apply aa.cY aC fw (rs:=F1) rfl (by kernel_rfl) [0,1,4,5,29];simp[F1,k1,hKl,Zv];obtain⟨c2,gZ⟩:=be (decide (ja (s.e K) (s.e L)):Bool);refine aa.to ⟨DM.look [(0,.ptr q 0),(1,.v (ti i)),(4,.v (ti (uR s i (t+1)))),(5,.v (ti K))],bO f0 q v s,N+4000,N,[]⟩ ?_ ?_
  ·refine aa.cond rfl (λg=>?_) (λg=>?_)
   ·have g:ja (s.e K) (s.e L):=by simpa [Qs.e,hKl,Zv]using g
    rw[cF g]at o9;apply aa.fA aC fw [0,1,4,5];simp[TS];refine sQ _ aV h (by omega) (by simp[p5]) ?_;simp[ew,qB,o9]
   ·have g:¬ja (s.e K) (s.e L):=by simpa [Qs.e,hKl,Zv]using g
    rw[aY g]at o9;apply aa.skip;simp;refine sQ _ aV h (by omega) (by simp[p5]) ?_;simp[ew,qB,o9]
  simp;apply aa.fA aC fw [0,1,4,5];simp[TT,wK];refine⟨t+1,sQ _ aV h (by omega) (by simp[p5]) ?_,by omega,by omega⟩;simp[ew,qB]
 ·have g:c1=false:=by simpa using g
  subst g;have ht2:t=kT s i:=by have:=wS b8;omega
  have hLs:dF s i=L:=by rw[<-hL,ht2];rfl
  unfold fH at p3;rw[hLs]at p3;apply aa.exit;simp;apply aa.sq aC fw [0,1,4,33];simp[TU];refine aa.cond rfl (λg=>?_) (λg=>?_)
  ·have g:L=i:=by simp at g;omega
   rw[Zdg g]at p3;subst p3;apply aa.ret;simp[M4]
  ·have g:¬L=i:=by simp at g;omega
   rw[Zdf g]at p3;have Zv:i<L/\L<s.heap.length:=by have:=ir s i;omega
   have so:=p2.dm (i:=i) (j:=L) ⟨by omega,by omega⟩ ⟨by omega,by omega⟩;have so2:=p2.swap (i:=i) (j:=L) ⟨by omega,by omega⟩ ⟨by omega,by omega⟩;apply aa.skip;simp;apply aa.cY aC fw (rs:=F2) rfl (by kernel_rfl) [0,4];simp[F2,k2,so,e0];apply aa.fA aC fw [0,1];simp[TV];refine⟨L,s.swap i L,sQ _ aV h (by omega) (by simp[p5]) ?_,⟨by omega,so2,p3,by simpa using p4,by simpa using p5⟩,by simp;omega⟩;simp[ew,qB]
noncomputable def GV:bG->bw->fV
 |[.ptr q 0,.v (.int .i64 i)],f=>⟨(∃v:QV,v.at f q)/\(eY f q).s.ok/\(0<=i/\i<=1000000)/\(eY f q).s.heap.length<=1000000,.v (.eB []),bO f q (eY f q) (fH i.toNat (eY f q).s)⟩
 |_,f=>⟨False,.undef,f⟩
def adB{v:QV}{f:bw}{q:Nat}{i:Int}(h:v.at f q):GV [.ptr q 0,.v (ti i)] f=⟨v.s.ok/\(0<=i/\i<=1000000)/\v.s.heap.length<=1000000,.v (.eB []),bO f q v (fH i.toNat v.s)⟩:=by
 have hx:∃v:QV,v.at f q:=⟨v,h⟩;simp only[GV,fm h,hx,qI]
def adC:∀args ab,(GV args ab).ok->(∀N,(∀r,N<=r->ab r=none)->aQ aj 134 args ab (GV args ab))/\∀r,ab r=none->(GV args ab).ab r=none:=by
 intro args ab h;unfold GV at h⊢;split at h
 ·rename_i q i;obtain⟨⟨v,hv⟩,hs,⟨i0,i1⟩,hl⟩:=h;rw[fm hv]at hs hl⊢;obtain⟨i,rfl⟩:=kK i0;exact⟨λN hN=>aQ.of (asi hN hv hs (by omega) hl) rfl rfl,λr hr=>g5 hv _ hr⟩
 ·exact h.elim
def ani{l:List (Nat×DM.Spec)}(h:ay aj (bB l)):ay aj (bB ((134,en GV)::l)):=ay.ij h adC
def fZ(s:Qs)(x:Int)(w:dg):Qs:=⟨s.heap++[⟨x,w,s.next,s.bA⟩],s.bI+1,eu s.es s.mc s.next s.heap.length,xC s.es s.mc s.next,s.next+1,s.bA+1⟩
def ip(s:Qs)(x:Int)(w:dg):Qs:=uQ s.heap.length (fZ s x w)
def vQ{s:Qs}{x:Int}{w:dg}(h:s.ok):(fZ s x w).ok:=by
 obtain⟨h1,h2⟩:=Au (k:=s.next) (v:=s.heap.length) h.pl h.st;refine⟨h1,h2,λe he=>?_⟩;rcases oi.1 he with he|he
 ·obtain⟨i,hi⟩:=h.qJ e he;exact⟨i,CU hi⟩
 ·simp at he;subst he;exact CV _ _ _ _
def yu(s:Qs):Prop:=s.ok/\s.heap.length<=100000/\(0<=s.next/\s.next<=1000000000000)/\(0<=s.bA/\s.bA<=1000000000000)
def ar6{f0:bw}{q N:Nat}{x:Int}{w:dg}{v:QV}(hN:∀r,N<=r->f0 r=none)(h:v.at f0 q)(hs:yu v.s):
  aQ aj 132 [.ptr q 0,.v (.agg [ti x,ti w.aI,ti w.size])] f0 ⟨True,.v (ti v.s.next),bO f0 q v (ip v.s x w)⟩:=by
 obtain⟨ho,h5,h6,h7⟩:=hs;have m9:=vQ (x:=x) (w:=w) ho;obtain⟨R,hR⟩:=be (ip v.s x w);rw[hR];unfold ip at hR;obtain⟨S,hS⟩:=be (fZ v.s x w);rw[hS]at hR m9;have aC:=anh ay.nil;refine aqe.qE hN (by simp) λaV=>?_;have ew:∀s,bO f0 q v s q=some (qB v.hp v.m s):=λs=>(eo h s).q;obtain⟨n1,n2,n3⟩:=h.ne;have IA:=Ne.symm n1;have Hl:=Ne.symm n2;have Ly:=Ne.symm n3;have h1:=h.q;have h2:=h.hp;have h3:=h.m;simp only[qB,hB,mB]at h1 h2 h3;obtain⟨nx,EL⟩:=be v.s.next;obtain⟨ck,DE⟩:=be v.s.bA;obtain⟨hp,mO⟩:=be v.hp;obtain⟨m,hm⟩:=be v.m;obtain⟨bI,hve⟩:=be v.s.bI;have VW:S=⟨v.s.heap++[⟨x,w,nx,ck⟩],bI+1,eu v.s.es v.s.mc nx v.s.heap.length,xC v.s.es v.s.mc nx,nx+1,ck+1⟩:=by rw[<-hS,<-EL,<-DE,<-hve];rfl
 rw[EL,DE,mO,hve]at h1;rw[hm]at h1 h3;rw[mO,hve]at h2;rw[EL]at h6;rw[DE]at h7;rw[mO]at n1 n3 IA Ly;rw[hm]at n2 n3 Hl Ly;rw[EL];have w1:IntKind.i64.wrap (nx+1)=nx+1:=aF (by omega);have w2:IntKind.i64.wrap (ck+1)=ck+1:=aF (by omega);have pU:dR 40 (v.s.heap.length+1):=by simp[dR];omega
 simp;apply aa.ag aC fw [0,3];simp[TI];have Pc:q<N:=(aV q _ h.q).1;have nu:v.hp<N:=(aV v.hp _ h.hp).1;have CR:v.m<N:=(aV v.m _ h.m).1;have nq:∀k,q≠N+k:=λk=>by omega
 have np:∀k,v.hp≠N+k:=λk=>by omega
 have nm:∀k,v.m≠N+k:=λk=>by omega
 refine aa.le (sP v.s (l:=[(0,.ptr q 0),(3,.v (.box [ti x,ti w.aI,ti w.size]))]) (aZ:=N+1000) aV h (by omega) (fq _) ?_ ?_ ?_ ?_ ?_) ?_
 ·intro p hp';simp only[fN,g9,wh]at hp';subst hp';exact .inr (.inr (.inr (by show N<=N+3+1;omega)))
 ·simp[nq,ed,h.q]
 ·simp[np,ed,h.hp]
 ·simp[nm,ed,h.m]
 ·simp[ed,ew,qB];refine bY aV (by omega) ?_;simp;omega
 rw[YA h];change aa aj 58 _ _ ⟨DM.look _,aO [] f0,_,_,_⟩;apply aa.ag aC fw [0,3,5,6];simp[TJ,h1,h2];apply aa.ag aC fw [0,5,6];have O9:gn 5 1 [ti x,ti w.aI,ti w.size,ti nx,ti ck]=[[ti x,ti w.aI,ti w.size,ti nx,ti ck]]:=rfl;simp[TK,h1,h2,n1,O9,pU];apply aa.ag aC fw [0,5,6];simp[TL,h3,Hl,Ly,N8,GW];apply aa.ag aC fw [0,5,6];simp[TM,w1,w2,n2];refine aa.le (sP (v:=v) S (l:=[(0,.ptr q 0),(5,.v (ti nx)),(6,.v (ti v.s.heap.length))]) (aZ:=N+2000) aV h (by omega) (by rw[hve,VW];simp) ?_ ?_ ?_ ?_ ?_) ?_
 ·rw[mO,hm];simp
 ·rw[mO,hm,VW];simp[qB]
 ·rw[mO,VW];simp[IA,n3,hB,ua];rfl
 ·rw[hm,VW];simp[Hl,mB]
 ·simp[ew,qB]
 have k1:=λy=>adz (i:=y) (eo h S);have hl:S.heap.length=v.s.heap.length+1:=by rw[VW];simp
 have e0:∀s',bO (bO f0 q v S) q (v.to S) s'=bO f0 q v s':=jy f0 q v S;simp only[QV.to]at k1 e0;apply aa.cY aC fw (rs:=F0) rfl (by kernel_rfl) [5];simp[F0,k1,m9,hl,e0,hR];refine⟨by omega, ?_⟩;apply aa.ag aC fw [4];simp[TN];apply aa.ret;simp[dj]
def gk(s:Qs):Qs:=let s1:=s.swap 0 ((s.heap.length:Int)-1)
 ⟨s1.heap.take (s.heap.length-1),s1.bI+1,oL s1.es (s.e 0).h,s1.mc,s1.next,s1.bA⟩
def fQ(s:Qs):Qs:=if s.heap=[]then s else fH 0 (gk s)
def vR(s:Qs):T:=if s.heap=[]then .eB [.agg [ti 0,ti 0,ti 0],.bool false]else .eB [.agg [ti (s.e 0).x,ti (s.e 0).v.aI,ti (s.e 0).v.size],.bool true]
def Qs.nd(s:Qs):Prop:=∀i j:Nat,i<s.heap.length->j<s.heap.length->(s.e i).h=(s.e j).h->i=j
def Ap{s:Qs}(h:s.ok)(hn:s.nd)(hl:0<s.heap.length):(gk s).ok:=by
 have h1:=h.swap (i:=0) (j:=(s.heap.length:Int)-1) ⟨by omega,by omega⟩ ⟨by omega,by omega⟩;obtain⟨a1,a2⟩:=N9 (k:=(s.e 0).h) h1.pl h1.st;refine⟨a1,a2,λe he=>?_⟩;have he1:e∈(s.swap 0 ((s.heap.length:Int)-1)).heap:=Es he;refine WI (λhk=>?_) (h1.qJ e he1);obtain⟨y,hy,rfl⟩:=Ib he;simp only[gk,ld,Qs.dP]at hy;have mf:y<s.heap.length-1:=by omega
 have fW:y<s.heap.length:=by omega
 have Yk:((s.heap.length:Int)-1).toNat=s.heap.length-1:=by omega
 by_cases hz:y=0
 ·subst hz;have Zo:s.heap.length-1<s.heap.length:=by omega
  have:(gk s).heap[0]=s.e ((s.heap.length-1:Nat):Int):=by
   have h0:¬s.heap.length-1=0:=by omega
   simp only[gk,Qs.swap,ZcX,Yk,Zdh,Zcf,h0,OV,jP];rw[show(s.heap.length:Int)-1=((s.heap.length-1:Nat):Int)by omega]
  rw[this]at hk;have:=hn 0 (s.heap.length-1) hl (by omega) (by simpa using hk);omega
 ·have:(gk s).heap[y]=s.e (y:Int):=by
   have h0:¬s.heap.length-1=y:=by omega
   have h00:¬0=y:=by omega
   simp only[gk,Qs.swap,ZcX,Yk,Zdh,Zcf,h0,h00,OV,Qs.e,iP];simp[List.getD,fW]
  rw[this]at hk;have:=hn 0 y hl fW (by simpa using hk);omega
def xA(s:Qs):Prop:=s.ok/\s.nd/\s.heap.length<=1000000
def adD:∀{n:Nat} {i:Nat} {s:Qs},s.heap.length-i=n->(fH i s).bI=s.bI:=by
 intro n;induction n using Nat.strongRecOn with
 |_ n ih=>
  intro i s hn;unfold fH;split
  ·rfl
  ·rename_i he;have hp:=(ir s i).resolve_left he;rw[ih (s.heap.length-dF s i) (by omega) (by simp)];simp
def ar8{f0:bw}{q N:Nat}{v:QV}(hN:∀r,N<=r->f0 r=none)(h:v.at f0 q)(hs:xA v.s):
  aQ aj 103 [.ptr q 0] f0 ⟨True,.v (vR v.s),bO f0 q v (fQ v.s)⟩:=by
 obtain⟨ho,zg,dN⟩:=hs;obtain⟨RV,Rq⟩:=be (vR v.s);obtain⟨R,hR⟩:=be (fQ v.s);rw[hR,Rq];unfold fQ at hR;unfold vR at Rq;have aC:=Rp (ani ay.nil);refine ap9.qE hN (by simp) λaV=>?_;have ew:∀s,bO f0 q v s q=some (qB v.hp v.m s):=λs=>(eo h s).q;have Pc:q<N:=(aV q _ h.q).1;have nu:v.hp<N:=(aV v.hp _ h.hp).1;have CR:v.m<N:=(aV v.m _ h.m).1;obtain⟨n1,n2,n3⟩:=h.ne;have IA:=Ne.symm n1;have Hl:=Ne.symm n2;have Ly:=Ne.symm n3;have h1:=h.q;have h2:=h.hp;have h3:=h.m;simp only[qB,hB,mB]at h1 h2 h3;have nq:∀k,q≠N+k:=λk=>by omega
 have np:∀k,v.hp≠N+k:=λk=>by omega
 have nm:∀k,v.m≠N+k:=λk=>by omega
 have nq':∀k,N+k≠q:=λk=>by omega
 have np':∀k,N+k≠v.hp:=λk=>by omega
 have nm':∀k,N+k≠v.m:=λk=>by omega
 simp;apply aa.ag aC fw [0,2,3];simp[Tv,ed];apply aa.sq aC fw [0,2,3,11];simp[Tw,h1,h2,nq,np];refine aa.cond rfl (λg=>?_) (λg=>?_)
 ·have g:v.s.heap=[]:=by simpa using g
  rw[cF g]at hR Rq;apply aa.ag aC fw [2,3];simp[Tx,ed];rw[<-hR];refine aa.le (sP v.s (l:=[(2,.v (.box [ti 0,ti 0,ti 0])),(3,.v (.bool false))]) (aZ:=N+1000) aV h (by omega) (fq _) ?_ ?_ ?_ ?_ ?_) ?_
  ·simp
  ·simp[nq,ed,h.q]
  ·simp[np,ed,h.hp]
  ·simp[nm,ed,h.m]
  ·simp;refine bY aV (by omega) ?_;simp;omega
  apply aa.ret;simp[FX,Rq]
 ·have g:¬v.s.heap=[]:=by simpa using g
  rw[aY g]at hR Rq;have hl:0<v.s.heap.length:=Xd.2 g;have r0:=dO hl;have w1:IntKind.i64.wrap ((v.s.heap.length:Int)-1)=(v.s.heap.length:Int)-1:=aF (by omega);obtain⟨⟨ex,⟨ec,ez⟩,eh,et⟩,he⟩:=be (v.s.heap.getD 0 default);have Zj:v.s.e 0=⟨ex,⟨ec,ez⟩,eh,et⟩:=he;rw[he]at r0;rw[Zj]at Rq;simp only[kU.enc]at r0;have r0':DM.rowAt (dJ v.s.heap) (0:Int)=[ti ex,ti ec,ti ez,ti eh,ti et]:=r0;apply aa.skip;simp;apply aa.kv aC fw (rs:=db (jo q v.hp N) (fg J6 [none,none,none,some [0],none,some [1],none,none,none,some [0],some [1],none,none,some [105],none])) (.inl rfl) ((d8 (kh Pc nu n1) _ _ _).trans (by kernel_rfl)) [0,2,3,4,5];simp[J6,db,fG,fg,jo,cX,bN,aP,h1,h2,hl,r0',np,nq,w1,ed];obtain⟨O,hO⟩:=be (Ob.box [DV.v (ti 0),DV.v (ti 0),DV.v (ti 0)]:Ob);have hOn:bb O=[]:=by rw[<-hO];rfl
  refine aa.le (alc v.s (X:=[(N+3,O)]) (l:=[(0,.ptr q 0),(2,.ptr (N+3) 0),(3,.v (.bool false)),(4,.v (.box [ti ex,ti ec,ti ez,ti eh,ti et])),(5,.v (ti ((v.s.heap.length:Int)-1)))]) (aZ:=N+1000) aV h (by omega) (fq _) ?_ ?_ ?_ ?_ ?_ ?_) ?_
  ·simp
  ·simp[hOn];exact hO
  ·simp[nq,ed,h.q]
  ·simp[np,ed,h.hp]
  ·simp[nm,ed,h.m]
  ·simp[nq,ew,qB,<-hO];exact WH aV h (by omega) (by simp)
  have a1:=λs=>QV.at.aO (o:=O) (eo h s) (x:=N+3) (by omega) (by simp only;omega) (by simp only;omega);have po:=λs s'=>BP (f:=bO f0 q v s) (q:=q) (v:=v.to s) (x:=N+3) (o:=O) s' (by omega) (by simp only;omega) (by simp only;omega);have k1:=λx y=>GS (i:=x) (j:=y) (a1 v.s);have e0:∀s s',bO (bO f0 q v s) q (v.to s) s'=bO f0 q v s':=λs s'=>jy f0 q v s s';simp only[e0]at po;simp only[QV.to]at k1 e0 po;have so:=ho.dm (i:=0) (j:=(v.s.heap.length:Int)-1) ⟨by omega,by omega⟩ ⟨by omega,by omega⟩;have so2:=ho.swap (i:=0) (j:=(v.s.heap.length:Int)-1) ⟨by omega,by omega⟩ ⟨by omega,by omega⟩;apply aa.cY aC fw (rs:=FV) rfl (by kernel_rfl) [0,2,3,4,5];simp[FV,k1,so,po];obtain⟨P,hP⟩:=be (gk v.s);have adE:=Ap ho zg hl;rw[hP]at adE hR;obtain⟨S1,sY⟩:=be (v.s.swap 0 ((v.s.heap.length:Int)-1));have Zw:P=⟨S1.heap.take (v.s.heap.length-1),S1.bI+1,oL S1.es eh,S1.mc,S1.next,S1.bA⟩:=by rw[<-hP,<-sY];simp only[gk,Zj]
  have hSl:S1.heap.length=v.s.heap.length:=by rw[<-sY];simp
  have hSv:S1.bI=v.s.bI:=by rw[<-sY];simp
  rw[sY];have Ch:=eo h S1;have j1:=Ch.q;have j2:=Ch.hp;have j3:=Ch.m;simp only[qB,hB,mB]at j1 j2 j3;apply aa.ag aC fw [0,2,3,4];simp[Tz,j1,j2,hSl,nq,np];refine⟨⟨by omega,by omega⟩, ?_⟩;obtain⟨G,hG⟩:=be (bO f0 q v R);rw[hG];simp only[bO,vS,C5,yP];refine aa.le (Le.cut q 1 (q:=v.hp) (bI:=S1.bI) (n:=v.s.heap.length-1) (e:=211) (sz:=5) (av:=dJ S1.heap) (cs:=[.v (.fn (.func 101) []),.wd v.hp S1.bI 0 (v.s.heap.length-1),.je v.m,.v (ti S1.next),.v (ti S1.bA)]) ?_ rfl ?_) ?_
  ·simp
  ·simp[IA,hB,np]
  rw[kx,kx];simp only[Zcg,Zb4];apply aa.ag aC fw [0,2,3,4];simp[TA,Hl,Ly,mB,Oa,nm];refine aa.le (alc P (X:=[(N+3,O)]) (l:=[(0,.ptr q 0),(2,.ptr (N+3) 0),(3,.v (.bool false)),(4,.v (.box [ti ex,ti ec,ti ez,ti eh,ti et]))]) (aZ:=N+4000) aV h (by omega) (by rw[Zw];simp[hSv]) ?_ ?_ ?_ ?_ ?_ ?_) ?_
  ·simp
  ·simp[hOn,nq',np',nm']
  ·rw[Zw];simp[n2,qB]
  ·rw[Zw];simp[IA,n3,hB,yq]
  ·rw[Zw];simp[mB]
  ·simp[ew,qB,nq,<-hO]
  have k2:=λx=>adB (i:=x) (a1 P);simp only[QV.to]at k2;have hPl:P.heap.length<=1000000:=by rw[Zw];simp;omega
  apply aa.cY aC fw (rs:=FW) rfl (by kernel_rfl) [2,3,4];simp[FW,k2,adE,po,hR,hPl,hG];rw[<-hO];apply aa.ag aC fw [2,3];simp[TB];rw[<-hG];unfold bO;rw[vS];have hRv:v.s.bI<=R.bI:=by rw[<-hR,adD rfl,Zw];simp[hSv]
  refine aa.le (sP R (l:=[(2,.v (.box [ti ex,ti ec,ti ez])),(3,.v (.bool true))]) (aZ:=N+9000) aV h (by omega) hRv ?_ ?_ ?_ ?_ ?_) ?_
  ·intro p hp;simp only[oi,fN,g9,wh]at hp;rcases hp with(rfl|rfl)|rfl|rfl|rfl
   ·exact .inr (.inr (.inr (by show N<=N+3;omega)))
   ·exact .inr (.inr (.inr (by show N<=N+3;omega)))
   ·exact .inl rfl
   ·exact .inr (.inl rfl)
   ·exact .inr (.inr (.inl rfl))
  ·simp[nq]
  ·simp[np,IA]
  ·simp[nm,Hl,Ly]
  ·simp;exact WH (X:=[]) aV h (by omega) (by simp)
  apply aa.ret;simp[FX,<-Rq];rfl
def oJ(N:Nat):c7:=[(N+15,.box [.v (.fn (.func 101) []),.aX,.je (N+13),.v (ti 0),.v (ti 0)]),(N+13,.map [.int .i64] false 0 [])]
def asg{f0:bw}{N:Nat}(hN:∀r,N<=r->f0 r=none):
  tP aj 100 [.v (.fn (.func 101) [])] f0 N (N+20) (λval mG=>val=.ptr (N+15) 0/\mG=aO (oJ N) f0):=by
 refine ap3.aeM hN (by simp) (by omega) ?_ λaV=>?_
 ·rintro val mG ⟨rfl,rfl⟩;refine⟨λr hr h=>?_,λr hr=>?_⟩
  ·rw[qr hr (by simp[oJ])];exact h
  ·rw[fF λo h=>by simp[oJ]at h;omega];exact hN r (by omega)
 ·simp;apply aa.ag cL fw [0,2];simp[Tp];apply aa.ag cL fw [2];simp[Tq,ed];apply aa.ret;simp[aeL,oJ]
def gC{a b c:kU}(h:¬ja b a)(k:¬ja c b):¬ja c a:=by
 unfold ja at*
 generalize a.v=u at*
 generalize b.v=v at*
 generalize c.v=w at*
 obtain⟨u1,u2⟩:=u;obtain⟨v1,v2⟩:=v;obtain⟨w1,w2⟩:=w;simp only[dg.lt]at*
 omega
def uh(a:kU):¬ja a a:=by
 unfold ja;generalize a.v=u;obtain⟨u1,u2⟩:=u;simp only[dg.lt];omega
def qt{a b:kU}(h:ja a b):¬ja b a:=by
 unfold ja at*
 generalize a.v=u at*
 generalize b.v=v at*
 obtain⟨u1,u2⟩:=u;obtain⟨v1,v2⟩:=v;simp only[dg.lt]at*
 omega
def py(s:Qs):Prop:=∀i:Nat,0<i->i<s.heap.length->¬ja (s.e i) (s.e ((i-1)/2:Nat))
def yA{s:Qs}(h:py s):∀i:Nat,i<s.heap.length->¬ja (s.e i) (s.e (0:Nat)):=by
 intro i;induction i using Nat.strongRecOn with
 |_ i ih=>
  intro hi;by_cases hz:i=0
  ·subst hz;exact uh _
  ·exact gC (ih ((i-1)/2) (by omega) (by omega)) (h i (by omega) hi)
def iC{s:Qs}{i j k:Nat}(hi:i<s.heap.length)(hj:j<s.heap.length)(hk:k<s.heap.length):(s.swap i j).e k=if k=j then s.e i else if k=i then s.e j else s.e k:=by
 simp only[Qs.swap,Qs.e,iP,List.getD,ZbN];by_cases h1:k=j
 ·subst h1;simp[hj]
 ·by_cases h2:k=i
  ·subst h2;have:¬j=k:=λe=>h1 e.symm;simp[this,h1,hi]
  ·have a1:¬j=k:=λe=>h1 e.symm;have a2:¬i=k:=λe=>h2 e.symm;simp[a1,a2,h1,h2]
def D5:∀{i:Nat} {s:Qs},i<s.heap.length->(∀k:Nat,0<k->k<s.heap.length->k≠i->¬ja (s.e k) (s.e ((k-1)/2:Nat)))->
  (∀k:Nat,0<k->k<s.heap.length->(k-1)/2=i->0<i->¬ja (s.e k) (s.e ((i-1)/2:Nat)))->py (uQ i s):=by
 intro i;induction i using Nat.strongRecOn with
 |_ i ih=>
  intro s hi h1 h2;unfold uQ;split
  ·rename_i hc;obtain⟨c1,c2⟩:=hc;obtain⟨y,hy⟩:=be ((i-1)/2);rw[hy]at c2⊢;have AS:y<s.heap.length:=by omega
   have E:=λ{k:Nat} (hk:k<s.heap.length)=>iC (s:=s) (i:=i) (j:=y) hi AS hk;refine ih y (by omega) (by simpa using AS) (λk k1 k2 k3=>?_) (λk k1 k2 k3 k4=>?_)
   ·simp only[Qs.dP]at k2;rw[E k2,E (k:=(k-1)/2) (by omega)];by_cases e1:k=i
    ·subst e1;rw[aY k3,cF rfl,hy,cF rfl];exact qt c2
    ·rw[aY k3,aY e1];by_cases e2:(k-1)/2=y
     ·rw[cF e2];have:=h1 k k1 k2 e1;rw[e2]at this;exact gC (qt c2) this
     ·rw[aY e2];by_cases e3:(k-1)/2=i
      ·rw[cF e3];have:=h2 k k1 k2 e3 c1;rw[hy]at this;exact this
      ·rw[aY e3];exact h1 k k1 k2 e1
   ·simp only[Qs.dP]at k2;rw[E k2,E (k:=(y-1)/2) (by omega)];have p1:¬(y-1)/2=y:=by omega
    have p2:¬(y-1)/2=i:=by omega
    have p3:¬k=y:=by omega
    rw[aY p1,aY p2,aY p3];have hpy:=h1 y k4 AS (by omega);by_cases e1:k=i
    ·rw[cF e1];exact hpy
    ·rw[aY e1];have:=h1 k k1 k2 e1;rw[k3]at this;exact gC hpy this
  ·rename_i hc;intro k k1 k2;by_cases e:k=i
   ·subst e;exact λhb=>hc ⟨k1,hb⟩
   ·exact h1 k k1 k2 e
def Av(s:Qs)(i:Nat):∀t,¬ja (s.e i) (s.e (uR s i t))/\∀u,u<t->¬ja (s.e (2*i+1+u:Nat)) (s.e (uR s i t))
 |0=>⟨uh _,λu hu=>by omega⟩
 |t+1=>by
  obtain⟨h1,h2⟩:=Av s i t;unfold uR;split
  ·rename_i hc;have ha:=qt hc;refine⟨gC ha h1,λu hu=>?_⟩;by_cases e:u=t
   ·subst e;exact uh _
   ·exact gC ha (h2 u (by omega))
  ·rename_i hc;refine⟨h1,λu hu=>?_⟩;by_cases e:u=t
   ·subst e;exact hc
   ·exact h2 u (by omega)
def BR(s:Qs)(i:Nat):¬ja (s.e i) (s.e (dF s i))/\∀k:Nat,0<k->k<s.heap.length->(k-1)/2=i->¬ja (s.e k) (s.e (dF s i)):=by
 obtain⟨h1,h2⟩:=Av s i (kT s i);refine⟨h1,λk k1 k2 k3=>?_⟩;have:=h2 (k-(2*i+1)) (by unfold kT;omega);rw[show 2*i+1+(k-(2*i+1))=k by omega]at this;exact this
def BS(s:Qs)(i:Nat):dF s i=i\/((dF s i-1)/2=i/\i<dF s i/\dF s i<s.heap.length):=by
 have:=ug s i (kT s i);have h3:=ir s i;unfold dF at*
 unfold kT at*
 omega
def wJ:∀{n:Nat} {i:Nat} {s:Qs},s.heap.length-i=n->(∀k:Nat,0<k->k<s.heap.length->(k-1)/2≠i->¬ja (s.e k) (s.e ((k-1)/2:Nat)))->
  (∀k:Nat,0<k->k<s.heap.length->(k-1)/2=i->0<i->¬ja (s.e k) (s.e ((i-1)/2:Nat)))->py (fH i s):=by
 intro n;induction n using Nat.strongRecOn with
 |_ n ih=>
  intro i s hn h1 h2;obtain⟨m1,m2⟩:=BR s i;have hp:=BS s i;unfold fH;split
  ·rename_i he;intro k k1 k2;by_cases e:(k-1)/2=i
   ·rw[e];have:=m2 k k1 k2 e;rw[he]at this;exact this
   ·exact h1 k k1 k2 e
  ·rename_i he;obtain⟨j,hj⟩:=be (dF s i);rw[hj]at m1 m2 hp he⊢;obtain⟨p1,p2,p3⟩:=hp.resolve_left he;have hi:i<s.heap.length:=by omega
   have E:=λ{k:Nat} (hk:k<s.heap.length)=>iC (s:=s) (i:=i) (j:=j) hi p3 hk;refine ih (s.heap.length-j) (by omega) (by simp) (λk k1 k2 k3=>?_) (λk k1 k2 k3 k4=>?_)
   ·simp only[Qs.dP]at k2;rw[E k2,E (k:=(k-1)/2) (by omega),aY k3];by_cases e1:k=j
    ·subst e1;rw[cF rfl,cF p1];exact m1
    ·rw[aY e1];by_cases e2:k=i
     ·subst e2;have:¬(k-1)/2=k:=by omega
      rw[cF rfl,aY this];exact h2 j (by omega) p3 p1 k1
     ·rw[aY e2];by_cases e3:(k-1)/2=i
      ·rw[cF e3];exact m2 k k1 k2 e3
      ·rw[aY e3];exact h1 k k1 k2 e3
   ·simp only[Qs.dP]at k2;rw[p1,E k2,E hi];have q1:¬k=j:=by omega
    have q2:¬k=i:=by omega
    have q3:¬i=j:=by omega
    rw[aY q1,aY q2,aY q3,cF rfl];have:=h1 k k1 k2 (by omega);rw[k3]at this;exact this
def ui{s:Qs}{x:Int}{w:dg}{k:Nat}(hk:k<s.heap.length):(fZ s x w).e k=s.e k:=by
 simp only[fZ,Qs.e,iP,List.getD];rw[Zbl hk]
def BN{s:Qs}{x:Int}{w:dg}(h:py s):py (ip s x w):=by
 have hl:(fZ s x w).heap.length=s.heap.length+1:=by simp[fZ]
 refine D5 (by omega) (λk k1 k2 k3=>?_) (λk k1 k2 k3 k4=>?_)
 ·rw[ui (by omega),ui (by omega)];exact h k k1 (by omega)
 ·omega
def qk{s:Qs}{k:Nat}(hk:k<s.heap.length-1):(gk s).e k=if k=0 then s.e (s.heap.length-1:Nat)else s.e k:=by
 have hj:s.heap.length-1<s.heap.length:=by omega
 have E:=iC (s:=s) (i:=0) (j:=s.heap.length-1) (k:=k) (by omega) hj (by omega);have hc:((s.heap.length-1:Nat):Int)=(s.heap.length:Int)-1:=by omega
 have:(gk s).e k=(s.swap (0:Nat) (s.heap.length-1:Nat)).e k:=by
  simp only[gk,Qs.e,iP,List.getD,HO,hk,jP,hc];rfl
 rw[this,E,aY (by omega)]
def Aq{s:Qs}(h:py s):py (fQ s):=by
 unfold fQ;split
 ·exact h
 ·rename_i bZ;have x7:0<s.heap.length:=Xd.2 bZ;have hl:(gk s).heap.length=s.heap.length-1:=by
   simp only[gk,ld,Qs.dP];omega
  refine wJ rfl (λk k1 k2 k3=>?_) (λk k1 k2 k3 k4=>by omega);rw[hl]at k2;rw[qk k2,qk (by omega),aY (by omega),aY k3];exact h k k1 (by omega)
def dc(s:Qs):Prop:=∀k:Nat,k<s.heap.length->kl s.es (s.e k).h=some (k:Int)
def dc.nd{s:Qs}(h:dc s):s.nd:=λi j hi hj he=>by
 have h1:=h i hi;have h2:=h j hj;rw[he,h2]at h1;simp only[cu]at h1;omega
def lM{s:Qs}(h:dc s){i j:Nat}(hi:i<s.heap.length)(hj:j<s.heap.length):dc (s.swap i j):=by
 intro k hk;rw[Qs.dP]at hk;rw[iC hi hj hk];show kl (eu (eu s.es s.mc (s.e j).h i) s.mc (s.e i).h j) _=_;rw[pL,pL];have nd:=h.nd;by_cases h1:k=j
 ·subst h1;rw[cF rfl,cF rfl]
 ·rw[aY h1];by_cases h2:k=i
  ·subst h2;rw[cF rfl];by_cases h3:(s.e j).h=(s.e k).h
   ·have:=nd j k hj hk h3;exact eA this.symm h1
   ·rw[aY h3,cF rfl]
  ·rw[aY h2,aY (λe=>h2 (nd k i hk hi e)),aY (λe=>h1 (nd k j hk hj e))];exact h k hk
def vU:∀{i:Nat} {s:Qs},i<s.heap.length->dc s->dc (uQ i s):=by
 intro i;induction i using Nat.strongRecOn with
 |_ i ih=>
  intro s hi h;unfold uQ;split
  ·exact ih _ (by omega) (by simp;omega) (lM h hi (by omega))
  ·exact h
def uj:∀{n:Nat} {i:Nat} {s:Qs},s.heap.length-i=n->dc s->dc (fH i s):=by
 intro n;induction n using Nat.strongRecOn with
 |_ n ih=>
  intro i s hn h;unfold fH;split
  ·exact h
  ·rename_i he;have hp:=(ir s i).resolve_left he;exact ih (s.heap.length-dF s i) (by omega) (by simp) (lM h (by omega) hp.2)
def fR{s:Qs}{e:kU}:e∈s.heap↔∃k:Nat,k<s.heap.length/\s.e k=e:=by
 constructor
 ·intro h;obtain⟨k,hk,rfl⟩:=Ib h;exact⟨k,hk,by simp[Qs.e,List.getD,hk]⟩
 ·rintro⟨k,hk,rfl⟩;simp only[Qs.e,iP];exact bq hk
def oK{s:Qs}{i j:Nat}(hi:i<s.heap.length)(hj:j<s.heap.length)(e:kU):e∈(s.swap i j).heap↔e∈s.heap:=by
 rw[fR,fR];simp only[Qs.dP];constructor
 ·rintro⟨k,hk,rfl⟩;rw[iC hi hj hk];split
  ·exact⟨i,hi,rfl⟩
  ·split
   ·exact⟨j,hj,rfl⟩
   ·exact⟨k,hk,rfl⟩
 ·rintro⟨k,hk,rfl⟩;by_cases h1:k=j
  ·subst h1;by_cases h2:i=k
   ·subst h2;exact⟨i,hi,by rw[iC hi hi hi];simp⟩
   ·exact⟨i,hi,by rw[iC hi hk hi,aY h2,cF rfl]⟩
  ·by_cases h2:k=i
   ·subst h2;exact⟨j,hj,by rw[iC hk hj hj,cF rfl]⟩
   ·exact⟨k,hk,by rw[iC hi hj hk,aY h1,aY h2]⟩
structure mm(s s':Qs):Prop where
 len:s'.heap.length=s.heap.length
 mem:∀e,e∈s'.heap↔e∈s.heap
 next:s'.next=s.next
 bA:s'.bA=s.bA
 mc:s'.mc=s.mc
 bI:s'.bI=s.bI
def mm.refl(s:Qs):mm s s:=⟨rfl,λ_=>Iff.rfl,rfl,rfl,rfl,rfl⟩
def mm.trans{a b c:Qs}(h:mm a b)(k:mm b c):mm a c:=⟨k.len.trans h.len,λe=>(k.mem e).trans (h.mem e),k.next.trans h.next,k.bA.trans h.bA,k.mc.trans h.mc,k.bI.trans h.bI⟩
def sR{s:Qs}{i j:Nat}(hi:i<s.heap.length)(hj:j<s.heap.length):mm s (s.swap i j):=⟨by simp,oK hi hj,rfl,rfl,rfl,rfl⟩
def wH:∀{i:Nat} {s:Qs},i<s.heap.length->mm s (uQ i s):=by
 intro i;induction i using Nat.strongRecOn with
 |_ i ih=>
  intro s hi;unfold uQ;split
  ·exact(sR hi (by omega)).trans (ih _ (by omega) (by simp;omega))
  ·exact mm.refl s
def l7:∀{n:Nat} {i:Nat} {s:Qs},s.heap.length-i=n->mm s (fH i s):=by
 intro n;induction n using Nat.strongRecOn with
 |_ n ih=>
  intro i s hn;unfold fH;split
  ·exact mm.refl s
  ·rename_i he;have hp:=(ir s i).resolve_left he;exact(sR (by omega) hp.2).trans (ih (s.heap.length-dF s i) (by omega) (by simp))
def D1:∀{n:Nat} {i:Nat} {s:Qs},s.heap.length-i=n->s.ok->(fH i s).ok:=by
 intro n;induction n using Nat.strongRecOn with
 |_ n ih=>
  intro i s hn h;unfold fH;split
  ·exact h
  ·rename_i he;have hp:=(ir s i).resolve_left he;exact ih (s.heap.length-dF s i) (by omega) (by simp) (h.swap ⟨by omega,by omega⟩ ⟨by omega,by omega⟩)
def yz{s:Qs}{x:Int}{w:dg}(h:dc s)(hn:∀e∈s.heap,e.h≠s.next):dc (ip s x w):=by
 have hl:(fZ s x w).heap.length=s.heap.length+1:=by simp[fZ]
 refine vU (by omega) λk hk=>?_;rw[hl]at hk;show kl (eu s.es s.mc s.next s.heap.length) _=_;rw[pL];by_cases h1:k<s.heap.length
 ·rw[ui h1,aY (hn _ (fR.2 ⟨k,h1,rfl⟩))];exact h k h1
 ·obtain rfl:k=s.heap.length:=by omega
  have:(fZ s x w).e (s.heap.length:Nat)=⟨x,w,s.next,s.bA⟩:=by simp[fZ,Qs.e,List.getD]
  rw[this,cF rfl]
def wI{s:Qs}(h:dc s):dc (fQ s):=by
 unfold fQ;split
 ·exact h
 ·rename_i bZ;have x7:0<s.heap.length:=Xd.2 bZ;have hl:(gk s).heap.length=s.heap.length-1:=by
   simp only[gk,ld,Qs.dP];omega
  have hc:((s.heap.length-1:Nat):Int)=(s.heap.length:Int)-1:=by omega
  have OW:=lM h (i:=0) (j:=s.heap.length-1) x7 (by omega);refine uj rfl λk hk=>?_;rw[hl]at hk;have he:(gk s).e k=(s.swap (0:Nat) (s.heap.length-1:Nat)).e k:=by
   simp only[gk,Qs.e,iP,List.getD,HO,hk,jP,hc];rfl
  have qK:(gk s).es=oL (s.swap (0:Nat) (s.heap.length-1:Nat)).es (s.e (0:Nat)).h:=by
   simp only[gk,hc];rfl
  rw[he,qK,IF]
  ·exact OW k (by simp;omega)
  ·rw[iC x7 (by omega) (by omega),aY (by omega)];have nd:=h.nd;by_cases h1:k=0
   ·subst h1;rw[cF rfl];exact λe=>by have:=nd (s.heap.length-1) 0 (by omega) x7 e;omega
   ·rw[aY h1];exact λe=>h1 (nd k 0 (by omega) x7 e)
section
variable{f:bw}{sp:Nat}
structure Pf where
 (rb rf rh q u hp m:Nat)
structure dy where
 an:b7
 cj:List Bool
 fB:bU
 s:Qs
structure fp where
 nd:Int
 es:List bK
 GJ:List (bU)
def oH(l:List (bU)):bG:=l.map λx=>.v (.sl (aG x))
@[simp] def aoG(l:List (bU)):(oH l).length=l.length:=by simp[oH]
def mW(k:Pf)(z:fp):bG:=[.v (ti z.nd),.v (.sl (bn z.es)),.bC k.rb 0,.bC k.rf 0,.bC k.rh 0,.Hm k.u z.GJ.length,.ptr k.q 0]
def sd(s:dy):Ob:=.bE 0 63 2 (bH s.an)
def sZ(s:dy):Ob:=.bE 0 4 1 (iy s.cj)
def s8(s:dy):Ob:=.bE 0 3 1 (aG s.fB)
structure SV where
 k:Pf
 z:fp
 s:dy
structure SV.at(v:SV)(f:bw)(p:Nat):Prop where
 sp:f p=some (.box (mW v.k v.z))
 rb:f v.k.rb=some (sd v.s)
 rf:f v.k.rf=some (sZ v.s)
 rh:f v.k.rh=some (s8 v.s)
 q:f v.k.q=some (qB v.k.hp v.k.m v.s.s)
 hp:f v.k.hp=some (hB v.s.s)
 m:f v.k.m=some (mB v.s.s)
 u:f v.k.u=some (.box (oH v.z.GJ))
def SV.qv(v:SV):QV:=⟨v.k.hp,v.k.m,v.s.s⟩
def SV.at.qv{v:SV}(h:v.at f sp):v.qv.at f v.k.q:=⟨h.q,h.hp,h.m⟩
abbrev SV.to(v:SV)(s:dy):SV:=⟨v.k,v.z,s⟩
def cg(f:bw)(v:SV)(s:dy):bw:=aO [(v.k.rb,sd s),(v.k.rf,sZ s),(v.k.rh,s8 s),(v.k.q,qB v.k.hp v.k.m s.s),(v.k.hp,hB s.s),(v.k.m,mB s.s)] f
structure SV.Ne(v:SV)(sp:Nat):Prop where
 pa:sp≠v.k.rb
 pb:sp≠v.k.rf
 pc:sp≠v.k.rh
 vN:sp≠v.k.q
 oG:sp≠v.k.hp
 vO:sp≠v.k.m
 Yo:sp≠v.k.u
 q8:v.k.rb≠sp
 qi:v.k.rb≠v.k.rf
 q9:v.k.rb≠v.k.rh
 Ac:v.k.rb≠v.k.q
 rj:v.k.rb≠v.k.hp
 Ad:v.k.rb≠v.k.m
 Yp:v.k.rb≠v.k.u
 qj:v.k.rf≠sp
 pe:v.k.rf≠v.k.rb
 rn:v.k.rf≠v.k.rh
 Ae:v.k.rf≠v.k.q
 ru:v.k.rf≠v.k.hp
 Af:v.k.rf≠v.k.m
 Yq:v.k.rf≠v.k.u
 rC:v.k.rh≠sp
 pf:v.k.rh≠v.k.rb
 pg:v.k.rh≠v.k.rf
 Ag:v.k.rh≠v.k.q
 rE:v.k.rh≠v.k.hp
 Ah:v.k.rh≠v.k.m
 Yr:v.k.rh≠v.k.u
 Ai:v.k.q≠sp
 uJ:v.k.q≠v.k.rb
 uK:v.k.q≠v.k.rf
 uL:v.k.q≠v.k.rh
 yx:v.k.q≠v.k.hp
 Re:v.k.q≠v.k.m
 nqu:v.k.q≠v.k.u
 rF:v.k.hp≠sp
 nv:v.k.hp≠v.k.rb
 nw:v.k.hp≠v.k.rf
 ny:v.k.hp≠v.k.rh
 wT:v.k.hp≠v.k.q
 yy:v.k.hp≠v.k.m
 Ys:v.k.hp≠v.k.u
 Aj:v.k.m≠sp
 uM:v.k.m≠v.k.rb
 uN:v.k.m≠v.k.rf
 uO:v.k.m≠v.k.rh
 Pe:v.k.m≠v.k.q
 wU:v.k.m≠v.k.hp
 nmu:v.k.m≠v.k.u
 Yt:v.k.u≠sp
 Rf:v.k.u≠v.k.rb
 Rg:v.k.u≠v.k.rf
 Rh:v.k.u≠v.k.rh
 nuq:v.k.u≠v.k.q
 Ri:v.k.u≠v.k.hp
 num:v.k.u≠v.k.m
def SV.at.ne{v:SV}(h:v.at f sp):v.Ne sp:=by
 obtain⟨ou,pM,pN,oI,hq,mO,hm,hu⟩:=h;simp only[mW,sd,sZ,s8,qB,hB,mB]at ou pM pN oI hq mO hm;have e1:∀z:DV,∀l,oH v.z.GJ=z::l->∃x,z=.v (.sl x):=λz l h=>by
  cases hu2:v.z.GJ with
  |nil=>rw[hu2]at h;simp[oH]at h
  |cons a b=>rw[hu2]at h;simp only[oH,qD,LS]at h;exact⟨_,h.1.symm⟩
 exact⟨λe=>by rw[e,pM]at ou;simp at ou,
  λe=>by rw[e,pN]at ou;simp at ou,
  λe=>by rw[e,oI]at ou;simp at ou,
  λe=>by rw[e,hq]at ou;simp at ou,
  λe=>by rw[e,mO]at ou;simp at ou,
  λe=>by rw[e,hm]at ou;simp at ou,
  λe=>by rw[e,hu]at ou;simp only[cu,Ob.box.injEq]at ou;obtain⟨x,hx⟩:=e1 _ _ ou;simp at hx,
  λe=>by rw[e,ou]at pM;simp at pM,
  λe=>by rw[e,pN]at pM;simp at pM,
  λe=>by rw[e,oI]at pM;simp at pM,
  λe=>by rw[e,hq]at pM;simp at pM,
  λe=>by rw[e,mO]at pM;simp at pM,
  λe=>by rw[e,hm]at pM;simp at pM,
  λe=>by rw[e,hu]at pM;simp at pM,
  λe=>by rw[e,ou]at pN;simp at pN,
  λe=>by rw[e,pM]at pN;simp at pN,
  λe=>by rw[e,oI]at pN;simp at pN,
  λe=>by rw[e,hq]at pN;simp at pN,
  λe=>by rw[e,mO]at pN;simp at pN,
  λe=>by rw[e,hm]at pN;simp at pN,
  λe=>by rw[e,hu]at pN;simp at pN,
  λe=>by rw[e,ou]at oI;simp at oI,
  λe=>by rw[e,pM]at oI;simp at oI,
  λe=>by rw[e,pN]at oI;simp at oI,
  λe=>by rw[e,hq]at oI;simp at oI,
  λe=>by rw[e,mO]at oI;simp at oI,
  λe=>by rw[e,hm]at oI;simp at oI,
  λe=>by rw[e,hu]at oI;simp at oI,
  λe=>by rw[e,ou]at hq;simp at hq,
  λe=>by rw[e,pM]at hq;simp at hq,
  λe=>by rw[e,pN]at hq;simp at hq,
  λe=>by rw[e,oI]at hq;simp at hq,
  λe=>by rw[e,mO]at hq;simp at hq,
  λe=>by rw[e,hm]at hq;simp at hq,
  λe=>by rw[e,hu]at hq;simp only[cu,Ob.box.injEq]at hq;obtain⟨x,hx⟩:=e1 _ _ hq;simp at hx,
  λe=>by rw[e,ou]at mO;simp at mO,
  λe=>by rw[e,pM]at mO;simp at mO,
  λe=>by rw[e,pN]at mO;simp at mO,
  λe=>by rw[e,oI]at mO;simp at mO,
  λe=>by rw[e,hq]at mO;simp at mO,
  λe=>by rw[e,hm]at mO;simp at mO,
  λe=>by rw[e,hu]at mO;simp at mO,
  λe=>by rw[e,ou]at hm;simp at hm,
  λe=>by rw[e,pM]at hm;simp at hm,
  λe=>by rw[e,pN]at hm;simp at hm,
  λe=>by rw[e,oI]at hm;simp at hm,
  λe=>by rw[e,hq]at hm;simp at hm,
  λe=>by rw[e,mO]at hm;simp at hm,
  λe=>by rw[e,hu]at hm;simp at hm,
  λe=>by rw[e,ou]at hu;simp only[cu,Ob.box.injEq]at hu;obtain⟨x,hx⟩:=e1 _ _ hu.symm;simp at hx,
  λe=>by rw[e,pM]at hu;simp at hu,
  λe=>by rw[e,pN]at hu;simp at hu,
  λe=>by rw[e,oI]at hu;simp at hu,
  λe=>by rw[e,hq]at hu;simp only[cu,Ob.box.injEq]at hu;obtain⟨x,hx⟩:=e1 _ _ hu.symm;simp at hx,
  λe=>by rw[e,mO]at hu;simp at hu,
  λe=>by rw[e,hm]at hu;simp at hu⟩
def lA{v:SV}(h:v.at f sp)(s:dy):(v.to s).at (cg f v s) sp:=by
 obtain⟨pa,pb,pc,vN,oG,vO,Yo,q8,qi,q9,Ac,rj,Ad,Yp,qj,pe,rn,Ae,ru,Af,Yq,rC,pf,pg,Ag,rE,Ah,Yr,Ai,uJ,uK,uL,yx,Re,nqu,rF,nv,nw,ny,wT,yy,Ys,Aj,uM,uN,uO,Pe,wU,nmu,Yt,Rf,Rg,Rh,nuq,Ri,num⟩:=h.ne;refine⟨?_, ?_, ?_, ?_, ?_, ?_, ?_, ?_⟩
 ·simp[cg,pa,pb,pc,vN,oG,vO,h.sp]
 ·simp[cg]
 ·simp[cg,pe]
 ·simp[cg,pf,pg]
 ·simp[cg,uJ,uK,uL]
 ·simp[cg,nv,nw,ny,wT]
 ·simp[cg,uM,uN,uO,Pe,wU]
 ·simp[cg,Rf,Rg,Rh,nuq,Ri,num,h.u]
def Am(f:bw)(v:SV)(s s':dy):cg (cg f v s) (v.to s) s'=cg f v s':=by
 funext k;simp only[cg,aH,bL];by_cases h1:k=v.k.rb<;>by_cases h2:k=v.k.rf<;>by_cases h3:k=v.k.rh<;>by_cases h4:k=v.k.q<;>by_cases h5:k=v.k.hp<;>by_cases h6:k=v.k.m<;>simp[h1,h2,h3,h4,h5,h6]
def g6{v:SV}{r:Nat}(h:v.at f sp)(s:dy)(hr:f r=none):cg f v s r=none:=by
 have e1:r≠v.k.rb:=λe=>by rw[e,h.rb]at hr;cases hr
 have e2:r≠v.k.rf:=λe=>by rw[e,h.rf]at hr;cases hr
 have e3:r≠v.k.rh:=λe=>by rw[e,h.rh]at hr;cases hr
 have e4:r≠v.k.q:=λe=>by rw[e,h.q]at hr;cases hr
 have e5:r≠v.k.hp:=λe=>by rw[e,h.hp]at hr;cases hr
 have e6:r≠v.k.m:=λe=>by rw[e,h.m]at hr;cases hr
 simp[cg,e1,e2,e3,e4,e5,e6,hr]
def eS{v:SV}(h:v.at f sp):cg f v v.s=f:=by
 funext k;simp only[cg,aH,bL];split
 ·rename_i e;rw[e];exact h.rb.symm
 ·split
  ·rename_i e;rw[e];exact h.rf.symm
  ·split
   ·rename_i e;rw[e];exact h.rh.symm
   ·split
    ·rename_i e;rw[e];exact h.q.symm
    ·split
     ·rename_i e;rw[e];exact h.hp.symm
     ·split
      ·rename_i e;rw[e];exact h.m.symm
      ·rfl
def sN{v:SV}{p:Nat}(h:v.at f p)(a:dy)(s:Qs):bO (cg f v a) v.k.q (v.to a).qv s=cg f v ⟨a.an,a.cj,a.fB,s⟩:=by
 obtain⟨pa,pb,pc,vN,oG,vO,Yo,q8,qi,q9,Ac,rj,Ad,Yp,qj,pe,rn,Ae,ru,Af,Yq,rC,pf,pg,Ag,rE,Ah,Yr,Ai,uJ,uK,uL,yx,Re,nqu,rF,nv,nw,ny,wT,yy,Ys,Aj,uM,uN,uO,Pe,wU,nmu,Yt,Rf,Rg,Rh,nuq,Ri,num⟩:=h.ne;funext k;simp only[bO,cg,SV.qv,aH,bL,sd,sZ,s8];by_cases h1:k=v.k.q
 ·subst h1;simp[uJ,uK,uL]
 ·by_cases h2:k=v.k.hp
  ·subst h2;simp[h1,nv,nw,ny]
  ·by_cases h3:k=v.k.m
   ·subst h3;simp[h1,h2,uM,uN,uO]
   ·simp[h1,h2,h3]
def qu{v:SV}{g:bw}{s:dy}(h1:g v.k.rb=some (sd s))(h2:g v.k.rf=some (sZ s))(h3:g v.k.rh=some (s8 s))(h4:g v.k.q=some (qB v.k.hp v.k.m s.s))(h5:g v.k.hp=some (hB s.s))(h6:g v.k.m=some (mB s.s))
  (h7:∀k,k≠v.k.rb->k≠v.k.rf->k≠v.k.rh->k≠v.k.q->k≠v.k.hp->k≠v.k.m->g k=f k):g=cg f v s:=by
 funext k;simp only[cg,aH,bL];repeat' split
 all_goals first|(rename_i e;rw[e];assumption)|(apply h7<;>assumption)
def GK{v:SV}{p:Nat}(h:v.at f p)(s:dy)(B:b7):aO [(v.k.rb,.bE 0 63 2 (bH B))] (cg f v s)=cg f v ⟨B,s.cj,s.fB,s.s⟩:=by
 obtain⟨pa,pb,pc,vN,oG,vO,Yo,q8,qi,q9,Ac,rj,Ad,Yp,qj,pe,rn,Ae,ru,Af,Yq,rC,pf,pg,Ag,rE,Ah,Yr,Ai,uJ,uK,uL,yx,Re,nqu,rF,nv,nw,ny,wT,yy,Ys,Aj,uM,uN,uO,Pe,wU,nmu,Yt,Rf,Rg,Rh,nuq,Ri,num⟩:=h.ne;refine qu ?_ ?_ ?_ ?_ ?_ ?_ λk a1 a2 a3 a4 a5 a6=>?_<;>simp[cg, *]<;>rfl
def KU{v:SV}{p:Nat}(h:v.at f p)(s:dy)(B:List Bool):aO [(v.k.rf,.bE 0 4 1 (iy B))] (cg f v s)=cg f v ⟨s.an,B,s.fB,s.s⟩:=by
 obtain⟨pa,pb,pc,vN,oG,vO,Yo,q8,qi,q9,Ac,rj,Ad,Yp,qj,pe,rn,Ae,ru,Af,Yq,rC,pf,pg,Ag,rE,Ah,Yr,Ai,uJ,uK,uL,yx,Re,nqu,rF,nv,nw,ny,wT,yy,Ys,Aj,uM,uN,uO,Pe,wU,nmu,Yt,Rf,Rg,Rh,nuq,Ri,num⟩:=h.ne;refine qu ?_ ?_ ?_ ?_ ?_ ?_ λk a1 a2 a3 a4 a5 a6=>?_<;>simp[cg, *]<;>rfl
def KV{v:SV}{p:Nat}(h:v.at f p)(s:dy)(B:bU):aO [(v.k.rh,.bE 0 3 1 (aG B))] (cg f v s)=cg f v ⟨s.an,s.cj,B,s.s⟩:=by
 obtain⟨pa,pb,pc,vN,oG,vO,Yo,q8,qi,q9,Ac,rj,Ad,Yp,qj,pe,rn,Ae,ru,Af,Yq,rC,pf,pg,Ag,rE,Ah,Yr,Ai,uJ,uK,uL,yx,Re,nqu,rF,nv,nw,ny,wT,yy,Ys,Aj,uM,uN,uO,Pe,wU,nmu,Yt,Rf,Rg,Rh,nuq,Ri,num⟩:=h.ne;refine qu ?_ ?_ ?_ ?_ ?_ ?_ λk a1 a2 a3 a4 a5 a6=>?_<;>simp[cg, *]<;>rfl
end
def afA(n:Nat)(e:bK):Prop:=(∀t∈e.dH,0<=t/\t<n)/\(0<=e.aI/\e.aI<=4000000000000)/\e.dH.length<=1000000
abbrev gW(an:b7)(e:bK):dg:=d0 e.aI (dY an e.dH)
def ar4{f0:bw}{p N:Nat}{v:SV}{e:bK}(hN:∀r,N<=r->f0 r=none)(hv:v.at f0 p)(he:afA v.s.an.length e)(hb:∀x∈v.s.an,jI x):
  aQ aj 105 [.ptr p 0,.v (.agg e.enc)] f0 ⟨True,.v (.agg [ti (gW v.s.an e).aI,ti (gW v.s.an e).size]),f0⟩:=by
 obtain⟨R,hR⟩:=be (gW v.s.an e);rw[hR];unfold gW at hR;obtain⟨eh,ts,ec,e0,e1⟩:=e;obtain⟨ht,hc,hl⟩:=he;simp only at ht hc hl hR;obtain⟨Vs,Pd⟩:=be (dY v.s.an ts);rw[Pd]at hR;have hVl:Vs.length=ts.length:=by rw[<-Pd];simp[dY]
 have Hz:∀x∈Vs,jI x:=by
  rw[<-Pd];intro x hx;obtain⟨y,hy,rfl⟩:=lq.1 hx;have:=ht y hy;exact hb _ (bq (by omega))
 have aC:=afB ay.nil;refine ajt.qE hN (by simp) λaV=>?_;have h1:=hv.sp;have h2:=hv.rb;have nu:p<N:=(aV p _ h1).1;have Wz:v.k.rb<N:=(aV _ _ h2).1;have np:∀k,p≠N+k:=λk=>by omega
 have nb:∀k,v.k.rb≠N+k:=λk=>by omega
 simp only[mW,sd]at h1 h2;have ew:(∃cs,f0 p=some (.box cs)):=⟨_,h1⟩;simp;apply aa.ag aC fw [0,3,4];simp[J9,bK.enc];refine aa.le (Le.d6 (l1:=[(N+5,.box [.v (ti 0),.v (ti 0)])]) (l:=[(0,.ptr p 0),(3,.v (.box [ti eh,.sl (aG ts),ti ec,ti e0,ti e1])),(4,.ptr (N+5) 0)]) (aZ:=N+500) aV ?_ ?_ ?_ ?_ ?_) ?_
 ·omega
 ·simp
 ·simp[bT,ed]
 ·simp[dT,eK,ed]
 ·simp[np,ed,ew];exact bY aV (by omega) (by simp)
 apply aa.ag aC fw [0,3,4,5];simp[Ka,CP,dR];refine⟨by omega,by omega, ?_⟩;obtain⟨Z,hZ⟩:=be (List.replicate ts.length ⟨0,0⟩:b7);refine aa.le (Le.d6 (l1:=[(N+5,.box [.v (ti 0),.v (ti 0)]),(N+512,.bE 0 63 2 (bH (Vs.take 0++List.replicate (ts.length-0) ⟨0,0⟩)))]) (l:=[(0,.ptr p 0),(3,.v (.box [ti eh,.sl (aG ts),ti ec,ti e0,ti e1])),(4,.ptr (N+5) 0),(5,.bC (N+512) 0)]) (aZ:=N+1000) aV ?_ ?_ ?_ ?_ ?_) ?_
 ·omega
 ·simp
 ·simp[bT,ed]
 ·simp[dT,eK,ed,bH]
 ·simp[np,ed,ew,bH]
 apply aa.sq aC fw [0,3,4,5,13,14,15];simp[Kb];apply aa.block;refine aa.loop (λi:Nat=>⟨DM.look [(0,.ptr p 0),(3,.v (.box [ti eh,.sl (aG ts),ti ec,ti e0,ti e1])),(4,.ptr (N+5) 0),(5,.bC (N+512) 0),(13,.v (.sl (aG ts))),(14,.v (ti ts.length)),(15,.v (ti i))],aO [(N+5,.box [.v (ti 0),.v (ti 0)]),(N+512,.bE 0 63 2 (bH (Vs.take i++List.replicate (ts.length-i) ⟨0,0⟩)))] f0,N+2000,N,[]⟩)
  (λi=>i<=ts.length) (λi=>ts.length-i) 0 (Le.d6 aV ?_ ?_ ?_ ?_ ?_) (by omega) (λi Zf=>?_)
 ·omega
 ·simp
 ·simp[bT]
 ·simp[dT,eK]
 ·simp[np,ew]
 obtain⟨A,hA⟩:=be (Vs.take i++List.replicate (ts.length-i) (⟨0,0⟩:dg));have hAl:A.length=ts.length:=by rw[<-hA];simp;omega
 rw[hA];apply aa.ag aC fw [0,3,4,5,13,14,15,16];simp[Kc];apply aa.seq;refine aa.cond rfl (λg=>?_) (λg=>?_)
 ·have g:i<ts.length:=by simpa using g
  have rt:=cM g;obtain⟨t,L9⟩:=be (ts.getD i default);rw[L9]at rt;obtain⟨t0,t1⟩:=ht t (by rw[<-L9];exact bq g);obtain⟨t,rfl⟩:=kK t0;have t1:t<v.s.an.length:=by omega
  have rv:=dq t1;obtain⟨⟨wc,wz⟩,hw⟩:=be (v.s.an.getD t default);rw[hw]at rv;have hiA:i<A.length:=by omega
  have rA:=dq hiA;have dA:∀a b:T,List.drop 2 [a,b]=[]:=λ_ _=>rfl;have hS:Vs.take (i+1)++List.replicate (ts.length-(i+1)) (⟨0,0⟩:dg)=A.set i ⟨wc,wz⟩:=by
   have hVi:Vs.take (i+1)=Vs.take i++[⟨wc,wz⟩]:=by
    have:Vs[i]? =some ⟨wc,wz⟩:=by
     rw[<-Pd,dY,ZbG];have:ts[i]? =some (t:Int):=by
      have:=xb g;rw[this];simp only[List.getD,this,Su]at L9;rw[L9]
     rw[this];simp only[O6,iP,hw]
    rw[Zb0,this];rfl
   rw[hVi,<-hA,ZbS _ _ (by rw[ld];omega)];have hl':(Vs.take i).length=i:=by rw[ld];omega
   rw[hl',ZcF,show ts.length-i=(ts.length-(i+1))+1 by omega,Xb,Zb4,ZbY];rfl
  apply aa.skip;simp;apply aa.seq;apply aa.block;apply aa.ag aC fw [0,3,4,5,6,7,13,14,15];simp[Kd,rt,g];apply aa.fA aC fw [0,3,4,5,13,14,15];simp[Ke,h1,h2,np,nb,ed,t1,rv,hiA,rA];apply aa.fA aC fw [0,3,4,5,13,14,15];simp[Kf];rw[aF (by omega)];refine⟨i+1,Le.d6 aV ?_ ?_ ?_ ?_ ?_,by omega,by omega⟩
  ·omega
  ·simp
  ·simp[bT]
  ·simp[dT,eK,hS,jE]
  ·simp[np,ew,hS,jE]
 ·have g:¬i<ts.length:=by simpa using g
  have hie:i=ts.length:=by omega
  subst hie;rw[OY (by omega),ZcF,Zcv,wa]at hA;subst hA;apply aa.exit;simp;refine aa.le (Le.d6 (l1:=[(N+5,.box [.v (ti 0),.v (ti 0)])]) (l:=[(3,.v (.box [ti eh,.sl (aG ts),ti ec,ti e0,ti e1])),(4,.ptr (N+5) 0),(5,.v (.sl (bH Vs)))]) (aZ:=N+5000) aV ?_ ?_ ?_ ?_ ?_) ?_
  ·omega
  ·simp
  ·simp[bT]
  ·simp[dT,eK]
  ·simp;exact bY aV (by omega) (by simp)
  apply aa.ag aC fw [4];simp[Kg,CP,hVl,hR];refine⟨Hz,hc.1,hc.2,by omega, ?_⟩;refine aa.le (ml (l:=[(4,.v (.box [ti R.aI,ti R.size]))]) (aZ:=N+6000) aV (by omega) (by simp) ?_) ?_
  ·simp;exact bY (l:=[]) aV (by omega) (by simp)
  apply aa.ret;simp[FZ];rfl
def aQ.am6{f:Nat}{a:DV}{ts:aL}{ab:bw}{r:fV}(h:aQ aj f [a,.v (.agg ts)] ab r):aQ aj f [a,.agg (ts.map .v)] ab r:=by
 refine⟨h.entry,λbase W M w0 w L cI hO C9=>h.run base W M w0 w L cI hO ⟨C9.1,λi d v hd hv=>?_⟩⟩
 match i with
 |0=>exact C9.2 0 d v hd hv
 |1=>
  simp only[JE,HK,cu]at hd;subst hd;have:=C9.2 1 _ v rfl hv;simp only[aA]at this;obtain⟨vs,rfl,h2⟩:=this;simp only[aA,bm];exact⟨vs,rfl,xU h2⟩
 |i+2=>simp at hd
def qh(st:dy)(e:bK):dy:=if(gW st.an e).aI<1099511627776/\st.cj.getD e.head.toNat false=false then⟨st.an,st.cj,st.fB,ip st.s e.head (gW st.an e)⟩else st
def r8(z:fp)(st:dy)(k:Nat):dy:=qh st (z.es.getD k default)
def qZ(z:fp)(st:dy)(k:Nat):Prop:=k<z.es.length/\afA st.an.length (z.es.getD k default)/\(0<=(z.es.getD k default).head/\(z.es.getD k default).head<st.cj.length)/\(∀x∈st.an,jI x)/\yu st.s
def ala{f0:bw}{p N k:Nat}{v:SV}(hN:∀r,N<=r->f0 r=none)(hv:v.at f0 p)(ho:qZ v.z v.s k):
  aQ aj 102 [.ptr p 0,.v (ti k)] f0 ⟨True,.v (.eB []),cg f0 v (r8 v.z v.s k)⟩:=by
 obtain⟨hk,hE,hh,hb,hpu⟩:=ho;obtain⟨R,hR⟩:=be (r8 v.z v.s k);rw[hR];unfold r8 at hR;have rr:=kE hk;obtain⟨e,KT⟩:=be (v.z.es.getD k default);rw[KT]at hR hE hh rr;unfold qh at hR;obtain⟨⟨wc,wz⟩,hw⟩:=be (gW v.s.an e);rw[hw]at hR;have afC:=λ(N:Nat) (h:∀r,N<=r->aO [] f0 r=none)=>ar4 (f0:=aO [] f0) h hv hE hb;rw[hw]at afC;have ar5:=λ(N:Nat) (h:∀r,N<=r->aO [] f0 r=none)=>aQ.am6 (ar6 (f0:=aO [] f0) (x:=e.head) (w:=⟨wc,wz⟩) h hv.qv hpu);have aC:=BK (BK ay.nil ar5 (λr h=>g5 (f:=aO [] f0) hv.qv _ h)) afC (λr h=>h);refine ap7.qE hN (by simp) λaV=>?_;have h1:=hv.sp;have h3:=hv.rf;have nu:p<N:=(aV p _ h1).1;have np:∀k,p≠N+k:=λk=>by omega
 simp only[mW,sZ]at h1 h3;have ew:(∃cs,f0 p=some (.box cs)):=⟨_,h1⟩;obtain⟨eh,ts,ec,e0,e1⟩:=e;simp only[bK.enc]at rr aC hh hR;obtain⟨y,rfl⟩:=kK hh.1;have hy:y<v.s.cj.length:=by omega
 have rb:=kb hy;rw[show(default:Bool)=false from rfl]at rb;obtain⟨fb,NP⟩:=be (v.s.cj.getD y false);rw[NP]at rb;simp only[iP,NP]at hR;simp;apply aa.ag aC fw [0,4];simp[Tu,h1,hk,rr];refine aa.le (ml (l:=[(0,.ptr p 0),(4,.v (.box [ti y,.sl (aG ts),ti ec,ti e0,ti e1]))]) (aZ:=N+1000) aV (by omega) (by simp;omega) ?_) ?_
 ·simp[np,ed,ew];exact bY (l:=[]) aV (by omega) (by simp)
 apply aa.cY aC fw (rs:=FR) rfl (by kernel_rfl) [0,4,5];simp[FR];refine aa.le (ml (l:=[(0,.ptr p 0),(4,.v (.box [ti y,.sl (aG ts),ti ec,ti e0,ti e1])),(5,.v (.box [ti wc,ti wz]))]) (aZ:=N+2000) aV (by omega) (by simp;omega) ?_) ?_
 ·simp[np,ed,ew];exact bY (l:=[]) aV (by omega) (by simp)
 obtain⟨c1,b8⟩:=be (decide (wc<1099511627776/\fb=false):Bool);refine aa.cH aC fw [(0,.ptr p 0),(4,.v (.box [ti y,.sl (aG ts),ti ec,ti e0,ti e1])),(5,.v (.box [ti wc,ti wz])),(30,.v (.bool c1))] ?_ ?_
 ·by_cases q1:wc<1099511627776
  ·cases fb with
   |true=>
    have:c1=false:=by rw[<-b8];simp
    simp[DG,h1,h3,hy,rb,q1,this]
   |false=>
    have:c1=true:=by rw[<-b8];simp[q1]
    simp[DG,h1,h3,hy,rb,q1,this]
  ·have:c1=false:=by rw[<-b8];simp[q1]
   simp[DG,q1,this]
 refine aa.cond rfl (λg=>?_) (λg=>?_)
 ·have g:c1=true:=by simpa using g
  subst g;rw[cF (qW b8)]at hR;have e2:=sN hv v.s (ip v.s.s (y:Int) ⟨wc,wz⟩);rw[eS hv]at e2;have e2:bO (aO [] f0) v.k.q v.qv (ip v.s.s (y:Int) ⟨wc,wz⟩)=cg f0 v R:=by rw[<-hR];exact e2
  refine aa.qa aC fw (rs:=fg FT []) (.inr ⟨_,rfl⟩) (by kernel_rfl) [] ?_;simp[FT,fg,h1,FU];exact e2
 ·have g:c1=false:=by simpa using g
  subst g;rw[aY (wS b8)]at hR;apply aa.skip;simp[FU];rw[<-hR,eS hv];rfl
section
variable{v:SV}{f0:bw}{p N:Nat}{L:c7}
def oF(aV:df f0 N)(hv:v.at f0 p)(s:dy):df (cg f0 v s) N:=by
 have qR:∀m,f0 m≠none->cg f0 v s m≠none:=by
  intro m hm;simp only[cg,aH,bL];repeat' split
  all_goals first|(intro h;cases h)|exact hm
 intro r o h;by_cases hr:f0 r=none
 ·rw[g6 hv s hr]at h;cases h
 ·obtain⟨o',iV⟩:=Zz.1 hr;obtain⟨h1,h2⟩:=aV r o' iV;refine⟨h1,λm hm=>?_⟩;simp only[cg,aH,bL]at h;split at h
  ·cases h;simp[sd,bb]at hm
  ·split at h
   ·cases h;simp[sZ,bb]at hm
   ·split at h
    ·cases h;simp[s8,bb]at hm
    ·split at h
     ·cases h;simp only[qB,bb,bQ,aP,wa,oi,fN,g9,wh,JJ]at hm;apply qR;rcases hm with rfl|rfl
      ·rw[hv.hp];simp
      ·rw[hv.m];simp
     ·split at h
      ·cases h;simp[hB,bb]at hm
      ·split at h
       ·cases h;exfalso;simp only[mB,bb,Ll,vM,lq]at hm;obtain⟨e,⟨e',_,rfl⟩,hk⟩:=hm;simp[aP]at hk
       ·rw[iV]at h;cases h;exact qR m (h2 m hm)
end
def Ab(st:dy)(x:Int)(w:dg):dy:=⟨st.an.set x.toNat w,st.cj.set x.toNat true,st.fB,st.s⟩
def yw(st:dy)(k:Int):dy:=⟨st.an,st.cj,st.fB.set k.toNat (st.fB.getD k.toNat 0-1),st.s⟩
def nZ(z:fp)(st:dy)(k:Int):dy:=if(yw st k).fB.getD k.toNat 0=0 then r8 z (yw st k) k.toNat else yw st k
def r9(z:fp)(st:dy)(us:bU)(i:Nat):dy:=(us.take i).foldl (nZ z) st
def Iw(z:fp)(st:dy){us:bU}{i:Nat}(h:i<us.length):r9 z st us (i+1)=nZ z (r9 z st us i) (us.getD i default):=by
 unfold r9;rw[c8 h,Dg];rfl
def iQ(z:fp)(x:Int):bU:=z.GJ.getD x.toNat []
def ub(z:fp)(st:dy)(x:Int)(w:dg):dy:=r9 z (Ab st x w) (iQ z x) (iQ z x).length
def adl(z:fp)(st:dy)(x:Int)(w:dg):Prop:=0<=x/\x<st.an.length/\x<st.cj.length/\x<z.GJ.length/\(iQ z x).length<=1000000000/\
 ∀i,i<(iQ z x).length->(0<=(iQ z x).getD i default/\(iQ z x).getD i default<(r9 z (Ab st x w) (iQ z x) i).fB.length)/\
  (-1000000000000<=(r9 z (Ab st x w) (iQ z x) i).fB.getD ((iQ z x).getD i default).toNat 0/\(r9 z (Ab st x w) (iQ z x) i).fB.getD ((iQ z x).getD i default).toNat 0<=1000000000000)/\
  ((yw (r9 z (Ab st x w) (iQ z x) i) ((iQ z x).getD i default)).fB.getD ((iQ z x).getD i default).toNat 0=0->qZ z (yw (r9 z (Ab st x w) (iQ z x) i) ((iQ z x).getD i default)) ((iQ z x).getD i default).toNat)
def ar7{f0:bw}{p N:Nat}{x:Int}{w:dg}{v:SV}(hN:∀r,N<=r->f0 r=none)(hv:v.at f0 p)(ho:adl v.z v.s x w):
  aQ aj 104 [.ptr p 0,.v (.agg [ti x,ti w.aI,ti w.size])] f0 ⟨True,.v (.eB []),cg f0 v (ub v.z v.s x w)⟩:=by
 obtain⟨PZ,Ji,xi,hx3,hul,yS⟩:=ho;obtain⟨y,rfl⟩:=kK PZ;obtain⟨R,hR⟩:=be (ub v.z v.s y w);rw[hR];unfold ub at hR;obtain⟨us,XR⟩:=be (iQ v.z y);rw[XR]at hR hul yS;have avK:=XR;unfold iQ at XR;simp only[iP]at XR;obtain⟨wc,wz⟩:=w;refine aqb.qE hN (by simp) λaV=>?_;obtain⟨pa,pb,pc,vN,oG,vO,Yo,q8,qi,q9,Ac,rj,Ad,Yp,qj,pe,rn,Ae,ru,Af,Yq,rC,pf,pg,Ag,rE,Ah,Yr,Ai,uJ,uK,uL,yx,Re,nqu,rF,nv,nw,ny,wT,yy,Ys,Aj,uM,uN,uO,Pe,wU,nmu,Yt,Rf,Rg,Rh,nuq,Ri,num⟩:=hv.ne;have h1:=hv.sp;have h2:=hv.rb;have h3:=hv.rf;have nu:p<N:=(aV p _ h1).1;have Wz:v.k.rb<N:=(aV _ _ h2).1;have hfN:v.k.rf<N:=(aV _ _ h3).1;have np:∀k,p≠N+k:=λk=>by omega
 have nb:∀k,v.k.rb≠N+k:=λk=>by omega
 have nf:∀k,v.k.rf≠N+k:=λk=>by omega
 simp only[mW,sd,sZ]at h1 h2 h3;have ew:(∃cs,f0 p=some (.box cs)):=⟨_,h1⟩;have mf:y<v.s.an.length:=by omega
 have fW:y<v.s.cj.length:=by omega
 have Vr:y<v.z.GJ.length:=by omega
 have rr1:=dq mf;have rr2:=kb fW;obtain⟨S0,hS0⟩:=be (Ab v.s y ⟨wc,wz⟩);rw[hS0]at hR yS;have hbx:∀s,cg f0 v s p=some (.box (mW v.k v.z)):=λs=>(lA hv s).sp;have avL:∀s,(∃cs,cg f0 v s p=some (.box cs)):=λs=>⟨_,hbx s⟩;have hC:=λs=>oF aV hv s;simp;apply aa.ag cL fw [0,3];simp[TC];refine aa.le (ml (l:=[(0,.ptr p 0),(3,.v (.box [ti y,ti wc,ti wz]))]) (aZ:=N+1000) aV (by omega) (by simp;omega) ?_) ?_
 ·simp[ed,ew];exact bY (l:=[]) aV (by omega) (by simp)
 apply aa.kv cL fw (rs:=db (jo v.k.rf p N) (fg J7 [none,none,none,none,none,none,none,none,none,some [1],none,some [],none,some [],none,some [0],none,none])) (.inl rfl) ((d8 (kh hfN nu qj) _ _ _).trans (by kernel_rfl)) [0,3];simp[J7,db,fG,fg,jo,cX,bN,aP,h1,h2,h3,mf,fW,rr1,rr2,qi];have e1:=KU hv v.s (v.s.cj.set y true);rw[eS hv]at e1;have e2:=GK hv ⟨v.s.an,v.s.cj.set y true,v.s.fB,v.s.s⟩ (v.s.an.set y ⟨wc,wz⟩);rw[<-e1]at e2;have e3:aO [(v.k.rb,.bE 0 63 2 ((bH v.s.an).set y [ti wc,ti wz])),(v.k.rf,.bE 0 4 1 ((iy v.s.cj).set y [T.bool true]))] f0=cg f0 v S0:=by
  rw[<-hS0];unfold Ab;rw[show(bH v.s.an).set y [ti wc,ti wz]=bH (v.s.an.set y ⟨wc,wz⟩)from(jE v.s.an y ⟨wc,wz⟩).symm,<-Gk];exact e2
 rw[e3];have hu:∀s,cg f0 v s v.k.u=some (.box (oH v.z.GJ)):=λs=>(lA hv s).u;have oI:∀s,cg f0 v s v.k.rh=some (.bE 0 3 1 (aG s.fB)):=λs=>(lA hv s).rh;have Zs:∀s r,N<=r->cg f0 v s r=none:=λs r hr=>g6 hv s (hN r hr);simp only[mW]at hbx;have Ak:∀h,(oH v.z.GJ)[y]'h=.v (.sl (aG us)):=by
  intro h;rw[<-XR];simp[oH,List.getD,Vr]
 have Db:y+1<=v.z.GJ.length:=Vr;apply aa.ag cL fw [0,29,30,31];simp[TD,hbx,hu,Vr,Db,Ak];apply aa.block;refine aa.loop (λi:Nat=>⟨DM.look [(0,.ptr p 0),(29,.v (.sl (aG us))),(30,.v (ti us.length)),(31,.v (ti i))],cg f0 v (r9 v.z S0 us i),N+3000,N,[]⟩)
  (λi=>i<=us.length) (λi=>us.length-i) 0 (Le.same (λr hr=>Zs _ r (by omega)) (by simp)) (by omega) (λi hi=>?_)
 obtain⟨st,hse⟩:=be (r9 v.z S0 us i);apply aa.ag cL fw [0,29,30,31,32];simp[TE];apply aa.seq;refine aa.cond rfl (λg=>?_) (λg=>?_)
 ·have g:i<us.length:=by simpa using g
  have rt:=cM g;have Ls:=Iw v.z S0 g;obtain⟨q1,q2,q3⟩:=yS i g;obtain⟨k,hk⟩:=be (us.getD i default);rw[hk,hse]at q1 q2 q3;rw[hk]at rt Ls;rw[hse]at Ls⊢;obtain⟨k,rfl⟩:=kK q1.1;have Il:k<st.fB.length:=by omega
  have rh:=cM Il;simp only[iP]at q2 q3;obtain⟨h,hh⟩:=be (st.fB.getD k 0);rw[show(default:Int)=0 from rfl,hh]at rh;rw[hh]at q2;obtain⟨D,hD⟩:=be (yw st k);rw[hD]at q3;unfold nZ at Ls;rw[hD]at Ls;simp only[iP]at Ls;have hDh:D.fB=st.fB.set k (h-1):=by rw[<-hD];simp only[yw,iP,hh]
  have hDk:D.fB.getD k 0=h-1:=by rw[hDh];simp[List.getD,Il]
  rw[hDk]at q3 Ls;have hDl:k<D.fB.length:=by rw[hDh];simpa using Il
  have rD:=cM hDl;rw[show(default:Int)=0 from rfl,hDk]at rD;have w1:IntKind.i64.wrap (h-1)=h-1:=aF (by omega);apply aa.skip;simp;apply aa.seq;apply aa.block;apply aa.ag cL fw [0,5,29,30,31];simp[TF,rt,g];apply aa.ag cL fw [0,5,29,30,31];simp[TG,hbx,oI,Il,rh,w1];have e4:=KV hv st (st.fB.set k (h-1));rw[lX,<-Al]at e4;have e5:cN (cg f0 v st) (some (v.k.rh,.bE 0 3 1 ((aG st.fB).set k [ti (h-1)])))=cg f0 v D:=by
   rw[e4,<-hD];simp only[yw,iP,hh]
  rw[e5];have w2:IntKind.i64.wrap ((i:Int)+1)=((i+1:Nat):Int):=by rw[aF (by omega)];omega
  apply aa.ag cL fw [0,5,29,30,31,51];simp[TH,hbx,oI,hDl,rD];refine aa.cond rfl (λg2=>?_) (λg2=>?_)
  ·have g2:h-1=0:=by simpa using g2
   rw[cF g2]at Ls;have nh:∀N',(∀r,N'<=r->cg f0 v D r=none)->aQ aj 102 [.ptr p 0,.v (ti k)] (cg f0 v D) ⟨True,.v (.eB []),cg f0 v (r8 v.z D k)⟩:=λN' h'=>by
    have:=ala (f0:=cg f0 v D) (p:=p) (k:=k) (v:=v.to D) h' (lA hv D) (q3 g2);rw[Am]at this;exact this
   have Vu:∀r,cg f0 v D r=none->cg f0 v (r8 v.z D k) r=none:=λr hr=>by
    have:=g6 (lA hv D) (r8 v.z D k) hr;rw[Am]at this;exact this
   apply aa.De (BK ay.nil nh Vu) fw (rs:=FY) rfl (by kernel_rfl) [0,29,30,31];simp[FY];apply aa.fA cL fw [0,29,30,31];simp[J8,w2];refine⟨i+1, ?_,by omega,by omega⟩;rw[Ls];exact Le.same (λr hr=>Zs _ r (by omega)) (by simp)
  ·have g2:¬h-1=0:=by simpa using g2
   rw[aY g2]at Ls;apply aa.skip;simp;apply aa.fA cL fw [0,29,30,31];simp[J8,w2];refine⟨i+1, ?_,by omega,by omega⟩;rw[Ls];exact Le.same (λr hr=>Zs _ r (by omega)) (by simp)
 ·have g:i=us.length:=by
   have:¬i<us.length:=by simpa using g
   omega
  subst g;rw[hR]at hse;apply aa.exit;simp[M1,hR]
section
variable{us:List (bU)}
def hE(nd:Int)(es:List bK):Prop:=0<=nd/\nd<=1000/\es.length<=20000/\∀e∈es,tY nd e/\e.dH.length<=2
structure Sol(nd:Int)(es:List bK)(S:b7):Prop where
 len:(S.length:Int)=nd
 ok:∀v∈S,jI v
 cl:∀e∈es,¬(gW S e).lt (bv S e.head)
def NQ{a b:b7}{e:bK}(hl:e.dH.length<=2)(h:∀t∈e.dH,¬(bv b t).lt (bv a t)/\0<=(bv a t).aI/\0<=(bv b t).aI):¬(gW b e).lt (gW a e):=by
 unfold gW dY
 match ht:e.dH,hl with
 |[],_=>unfold dg.lt;simp only[SK];omega
 |[t],_=>
  have h1:=h t (by rw[ht];simp);exact tU h1.1
 |[t,u],_=>
  have h1:=h t (by rw[ht];simp);have h2:=h u (by rw[ht];simp);exact tV h1.2.2 h1.2.1 h2.2.2 h2.2.1 h1.1 h2.1
def BL{a b:b7}{e:bK}(h:∀t∈e.dH,bv a t=bv b t):gW a e=gW b e:=by
 unfold gW dY
 congr 1
 exact Zbz λt ht=>h t ht
def GL{n:Int}{a:b7}(hl:(a.length:Int)=n)(ha:∀v∈a,jI v){t:Int}(h:0<=t/\t<n):jI (bv a t):=ha _ (bq (by omega))
def WD{n:Int}{a:b7}{e:bK}(hl:(a.length:Int)=n)(ha:∀v∈a,jI v)(he:tY n e){t:Int}(ht:t∈e.dH)(hf:(bv a t).aI<1099511627776\/(bv a t).size=0):¬(gW a e).lt (bv a t):=by
 obtain⟨_,_,e3,e4,_,_⟩:=he;refine WE e4 (λv hv=>?_) (lq.2 ⟨t,ht,rfl⟩) hf;obtain⟨u,hu,rfl⟩:=lq.1 hv;exact GL hl ha (e3 u hu)
def DZ{n:Int}{a:b7}{e:bK}(hl:(a.length:Int)=n)(ha:∀v∈a,jI v)(he:tY n e):jI (gW a e):=by
 obtain⟨_,_,e3,e4,e5,_⟩:=he;refine jS (λv hv=>?_) e4 e5;obtain⟨u,hu,rfl⟩:=lq.1 hv;exact GL hl ha (e3 u hu)
def BM(cj:List Bool)(ts:bU):Nat:=ts.countP λt=> !(cj.getD t.toNat false)
def uP:bU->Int
 |[]=>0
 |a::l=>a+uP l
def NR:∀{l:bU} {i:Nat} {x:Int},i<l.length->uP (l.set i x)=uP l-l.getD i 0+x
 |[],i,x,h=>by simp at h
 |a::l,0,x,h=>by simp[uP];omega
 |a::l,i+1,x,h=>by
  have:=NR (l:=l) (i:=i) (x:=x) (by simpa using h);simp only[Zcg,uP,ZcL];omega
def vP:∀{l:bU},(∀h∈l,0<=h)->0<=uP l
 |[],_=>by simp[uP]
 |a::l,h=>by
  have h1:=h a (by simp);have:=vP (l:=l) λx hx=>h x (by simp[hx]);simp only[uP];omega
def WG:∀{l:bU} {i:Nat},(∀h∈l,0<=h)->i<l.length->l.getD i 0<=uP l
 |[],i,_,h=>by simp at h
 |a::l,0,hp,h=>by
  have:=vP (l:=l) λx hx=>hp x (by simp[hx]);simp[uP];omega
 |a::l,i+1,hp,h=>by
  have h1:=hp a (by simp);have:=WG (l:=l) (i:=i) (λx hx=>hp x (by simp[hx])) (by simpa using h);simp only[uP,ZcL];omega
def done(es:List bK)(st:dy)(k:Nat):Prop:=
 (gW st.an (es.getD k default)).aI>=1099511627776\/(st.cj.getD (es.getD k default).head.toNat false=true/\¬(gW st.an (es.getD k default)).lt (bv st.an (es.getD k default).head))\/
  ∃c∈st.s.heap,c.x=(es.getD k default).head/\c.v=gW st.an (es.getD k default)
structure KI(nd:Int)(es:List bK)(S:b7)(pd:Nat->Nat)(ex:fI)(c:Int)(st:dy):Prop where
 lb:(st.an.length:Int)=nd
 lf:(st.cj.length:Int)=nd
 lh:st.fB.length=es.length
 ok:st.s.ok
 pl:dc st.s
 hp:py st.s
 bo:∀v∈st.an,jI v
 Zt:∀k,k<es.length->st.fB.getD k 0=(BM st.cj (es.getD k default).dH:Int)+pd k
 don:∀k,k<es.length->BM st.cj (es.getD k default).dH=0->pd k=0->¬ex k->done es st k
 wV:∀e∈st.s.heap,(0<=e.x/\e.x<nd)/\jI e.v/\e.v.aI<1099511627776/\(0<=e.h/\e.h<st.s.next)/\¬e.v.lt (bv S e.x)/\∀y:Nat,(y:Int)<nd->st.cj.getD y false=true->¬e.v.lt (bv st.an y)
 val:∀y:Nat,(y:Int)<nd->¬(bv st.an y).lt (bv S y)
 fv:∀y:Nat,(y:Int)<nd->st.cj.getD y false=true->(bv st.an y).aI<1099511627776
 uv:∀y:Nat,(y:Int)<nd->st.cj.getD y false=false->bv st.an y=⟨1099511627776,0⟩
 pot:st.s.bA+uP st.fB<=c
 nn:∀h∈st.fB,0<=h
 nc:st.s.next=st.s.bA/\0<=st.s.bA/\(st.s.heap.length:Int)<=st.s.bA
section
variable{nd:Int}{es:List bK}{S:b7}{pd:Nat->Nat}{ex:fI}{c:Int}{st:dy}
def KI.Yu{ex':fI}(h:KI nd es S pd ex c st)(hx:∀k,k<es.length->¬ex' k->BM st.cj (es.getD k default).dH=0->pd k=0->¬ex k){c':Int}(hc:c<=c'):KI nd es S pd ex' c' st:=
 ⟨h.lb,h.lf,h.lh,h.ok,h.pl,h.hp,h.bo,h.Zt,λk hk h1 h2 h3=>h.don k hk h1 h2 (hx k hk h3 h1 h2),h.wV,h.val,h.fv,h.uv,by have:=h.pot;omega,h.nn,h.nc⟩
def KI.yi(h:KI nd es S pd ex c st):st.s.bA<=c:=by
 have:=vP h.nn;have:=h.pot;omega
def lD(H:hE nd es){k:Nat}(hk:k<es.length):tY nd (es.getD k default)/\(es.getD k default).dH.length<=2:=H.2.2.2 _ (bq hk)
def KI.qZ(H:hE nd es)(h:KI nd es S pd ex c st)(hc:c<=90000){k:Nat}(hk:k<es.length):Kn.qZ ⟨nd,es,us⟩ st k:=by
 obtain⟨⟨e1,e2,e3,e4,e5,e6⟩,e7⟩:=lD H hk;have h1:=h.lb;have h2:=h.lf;have h3:=h.nc;have h4:=h.yi;exact⟨hk,⟨λt ht=>by have:=e3 t ht;omega,⟨e4,e5⟩,by simp only;omega⟩,⟨e1,by simp only;omega⟩,h.bo,h.ok,by omega,by omega,by omega⟩
def GM:∀{i:Nat} {s:Qs},s.ok->i<s.heap.length->(uQ i s).ok:=by
 intro i;induction i using Nat.strongRecOn with
 |_ i ih=>
  intro s h hi;unfold uQ;split
  ·rename_i hc;exact ih ((i-1)/2) (by omega) (h.swap (i:=i) (j:=((i-1)/2:Nat)) ⟨by omega,by omega⟩ ⟨by omega,by omega⟩) (by simp;omega)
  ·exact h
def KI.GN(H:hE nd es)(hS:Sol nd es S)(h:KI nd es S pd ex c st){k:Nat}(hk:k<es.length)(ha:BM st.cj (es.getD k default).dH=0)
  (hl:∀y:Nat,(y:Int)<nd->st.cj.getD y false=true->¬(gW st.an (es.getD k default)).lt (bv st.an y)):KI nd es S pd (λk'=>ex k'/\k'≠k) (c+1) (qh st (es.getD k default)):=by
 obtain⟨he,Zj⟩:=lD H hk;obtain⟨e,KT⟩:=be (es.getD k default);have li:e∈es:=by rw[<-KT];exact bq hk
 have hdk:∀dx,(gW dx.an e).aI>=1099511627776\/(dx.cj.getD e.head.toNat false=true/\¬(gW dx.an e).lt (bv dx.an e.head))\/(∃c∈dx.s.heap,c.x=e.head/\c.v=gW dx.an e)->done es dx k:=λdx hh=>by unfold done;rw[KT];exact hh
 rw[KT]at ha hl he Zj⊢;unfold qh;split
 ·rename_i hc;obtain⟨c1,c2⟩:=hc;obtain⟨w,hw⟩:=be (gW st.an e);have hwo:jI w:=by rw[<-hw];exact DZ h.lb h.bo he
  rw[hw]at c1 hl⊢;have hs:mm (fZ st.s e.head w) (ip st.s e.head w):=wH (by simp[fZ]);have hm:∀x,x∈(ip st.s e.head w).heap↔x∈st.s.heap\/x=⟨e.head,w,st.s.next,st.s.bA⟩:=λx=>(hs.mem x).trans (by simp[fZ]);have uB:(ip st.s e.head w).next=st.s.next+1:=hs.next;have KW:(ip st.s e.head w).bA=st.s.bA+1:=hs.bA;have dN:(ip st.s e.head w).heap.length=st.s.heap.length+1:=by rw[hs.len];simp[fZ]
  have Jl:=h.nc;refine⟨h.lb,h.lf,h.lh,GM (vQ h.ok) (by simp[fZ]),yz h.pl (λx hx=>by have:=(h.wV x hx).2.2.2.1;omega),BN h.hp,h.bo,h.Zt,λj hj h1 h2 h3=>?_,λx hx=>?_,h.val,h.fv,h.uv,by have:=h.pot;simp only[KW];omega,h.nn, ?_⟩
  ·by_cases ej:j=k
   ·subst ej;exact hdk _ (.inr (.inr ⟨_,(hm _).2 (.inr rfl),rfl,hw.symm⟩))
   ·have:=h.don j hj h1 h2 (λhx=>h3 ⟨hx,ej⟩);unfold done at this⊢;rcases this with h4|h4|⟨c,h4,h5⟩
    ·exact .inl h4
    ·exact .inr (.inl h4)
    ·exact .inr (.inr ⟨c,(hm _).2 (.inl h4),h5⟩)
  ·rcases(hm x).1 hx with hx|rfl
   ·obtain⟨a1,a2,a3,a4,a5,a6⟩:=h.wV x hx;exact⟨a1,a2,a3,by simp only[uB];omega,a5,a6⟩
   ·refine⟨⟨he.1,he.2.1⟩,hwo,c1,by simp only[uB];omega, ?_,hl⟩;have g1:=hS.cl e li;have g2:¬(gW st.an e).lt (gW S e):=NQ Zj λt ht=>by
     have Lw:=he.2.2.1 t ht;obtain⟨t,rfl⟩:=kK Lw.1;exact⟨h.val t Lw.2,(GL hS.len hS.ok Lw).1,(GL h.lb h.bo Lw).1⟩
    rw[hw]at g2;exact kc g1 g2
  ·simp only[uB,KW,dN];omega
 ·rename_i hc;refine(h.Yu (ex':=ex) (λ_ _ h _ _=>h) (ZcK c)).1|>λ_=>?_
  refine⟨h.lb,h.lf,h.lh,h.ok,h.pl,h.hp,h.bo,h.Zt,λj hj h1 h2 h3=>?_,h.wV,h.val,h.fv,h.uv,by have:=h.pot;omega,h.nn,h.nc⟩;by_cases ej:j=k
  ·subst ej;refine hdk _ ?_;by_cases q1:(gW st.an e).aI<1099511627776
   ·have q2:st.cj.getD e.head.toNat false=true:=by
     cases hq:st.cj.getD e.head.toNat false with
     |true=>rfl
     |false=>exact eA ⟨q1,hq⟩ hc
    obtain⟨x,hx⟩:=kK he.1;have xi:=he.2.1;rw[hx]at q2 xi⊢;exact .inr (.inl ⟨q2,hl x xi (by simpa using q2)⟩)
   ·exact .inl (by omega)
  ·exact h.don j hj h1 h2 (λhx=>h3 ⟨hx,ej⟩)
def KI.dec(h:KI nd es S pd ex c st){k:Nat}(hk:k<es.length)(hp:0<pd k):
  KI nd es S (λj=>if j=k then pd k-1 else pd j) (λj=>ex j\/j=k) (c-1) (yw st k):=by
 have Il:k<st.fB.length:=by rw[h.lh];exact hk
 have DE:=h.Zt k hk;refine⟨h.lb,h.lf,by simpa [yw]using h.lh,h.ok,h.pl,h.hp,h.bo,λj hj=>?_,λj hj h1 h2 h3=>?_,h.wV,h.val,h.fv,h.uv, ?_,λx hx=>?_,h.nc⟩
 ·have:=h.Zt j hj;simp only[yw,iP];rw[eV Il];by_cases e:j=k
  ·subst e;simp only[jP];omega
  ·simp only[e,OV];exact this
 ·by_cases e:j=k
  ·exact eA (.inr e) h3
  ·simp only[e,OV]at h2;exact h.don j hj h1 h2 (λhx=>h3 (.inl hx))
 ·have:=h.pot;have e:=NR (x:=st.fB.getD k 0-1) Il;show st.s.bA+uP (st.fB.set (k:Int).toNat (st.fB.getD (k:Int).toNat 0-1))<=c-1;simp only[iP];rw[e];omega
 ·simp only[yw,iP]at hx;rcases Hk hx with hx|rfl
  ·exact h.nn x hx
  ·omega
def KI.use(H:hE nd es)(hS:Sol nd es S)(h:KI nd es S pd (λ_=>False) c st){k:Nat}(hk:k<es.length)(hp:0<pd k)
  (hl:∀y:Nat,(y:Int)<nd->st.cj.getD y false=true->¬(gW st.an (es.getD k default)).lt (bv st.an y)):
  KI nd es S (λj=>if j=k then pd k-1 else pd j) (λ_=>False) c (nZ ⟨nd,es,us⟩ st k):=by
 have hd:=h.dec hk hp;have SO:=hd.Zt k hk;simp only[jP]at SO;unfold nZ;simp only[iP];split
 ·rename_i hz;rw[hz]at SO;have hz1:BM (yw st k).cj (es.getD k default).dH=0:=by omega
  have:=hd.GN H hS hk hz1 hl;refine this.Yu (λj _ _ _ _=>?_) (by omega);rintro⟨hx|hx,hy⟩
  ·exact hx
  ·exact hy hx
 ·rename_i hz;refine hd.Yu (λj hj _ h1 h2=>?_) (by omega);rintro(hx|rfl)
  ·exact hx
  ·simp only[jP]at h2;exact hz (by rw[SO];omega)
end
end
section
def An{s:Qs}(bZ:s.heap≠[])(e:kU):e∈(fQ s).heap↔∃k:Nat,0<k/\k<s.heap.length/\s.e k=e:=by
 have x7:0<s.heap.length:=Xd.2 bZ;have hl:(gk s).heap.length=s.heap.length-1:=by
  simp only[gk,ld,Qs.dP];omega
 unfold fQ;rw[aY bZ,((l7 rfl).mem e),fR,hl];constructor
 ·rintro⟨k,hk,rfl⟩;rw[qk hk];split
  ·exact⟨s.heap.length-1,by omega,by omega,rfl⟩
  ·exact⟨k,by omega,by omega,rfl⟩
 ·rintro⟨k,k1,k2,rfl⟩;by_cases hk:k=s.heap.length-1
  ·refine⟨0,by omega, ?_⟩;rw[qk (by omega),cF rfl,hk]
  ·refine⟨k,by omega, ?_⟩;rw[qk (by omega),aY (by omega)]
def mn(st:dy):dy:=⟨st.an,st.cj,st.fB,fQ st.s⟩
abbrev root(st:dy):kU:=st.s.e 0
structure Ao(nd:Int)(es:List bK)(us:List (bU)):Prop where
 len:(us.length:Int)=nd
 rng:∀x:Nat,(x:Int)<nd->∀k∈us.getD x [],0<=k/\k<es.length
 Zt:∀x k:Nat,(x:Int)<nd->k<es.length->(us.getD x []).count (k:Int)=(es.getD k default).dH.count (x:Int)
section
variable{nd:Int}{es:List bK}{S:b7}{pd:Nat->Nat}{c:Int}{st:dy}
def D0(bZ:st.s.heap≠[]):root st∈st.s.heap:=fR.2 ⟨0,Xd.2 bZ,rfl⟩
def am7{a b:kU}(h:¬ja a b):¬a.v.lt b.v:=λhl=>h (.inl hl)
def adm(h:KI nd es S pd (λ_=>False) c st){e:kU}(he:e∈st.s.heap):¬e.v.lt (root st).v:=by
 obtain⟨k,hk,rfl⟩:=fR.1 he;exact am7 (yA h.hp k hk)
def adn(bZ:st.s.heap≠[]){e:kU}(he:e∈st.s.heap):e=root st\/e∈(fQ st.s).heap:=by
 obtain⟨k,hk,rfl⟩:=fR.1 he;by_cases h0:k=0
 ·subst h0;exact .inl rfl
 ·exact .inr ((An bZ _).2 ⟨k,by omega,hk,rfl⟩)
def ado(bZ:st.s.heap≠[]){e:kU}(he:e∈(fQ st.s).heap):e∈st.s.heap:=by
 obtain⟨k,_,hk,rfl⟩:=(An bZ _).1 he;exact fR.2 ⟨k,hk,rfl⟩
def BO{s:Qs}(bZ:s.heap≠[]):(fQ s).next=s.next/\(fQ s).bA=s.bA/\(fQ s).heap.length=s.heap.length-1:=by
 have x7:0<s.heap.length:=Xd.2 bZ;have hl:(gk s).heap.length=s.heap.length-1:=by
  simp only[gk,ld,Qs.dP];omega
 unfold fQ;rw[aY bZ];have h:=l7 (s:=gk s) (i:=0) rfl;exact⟨h.next,h.bA,h.len.trans hl⟩
def KI.nd'(h:KI nd es S pd (λ_=>False) c st):st.s.nd:=h.pl.nd
def adp(h:KI nd es S pd (λ_=>False) c st)(bZ:st.s.heap≠[]):(fQ st.s).ok:=by
 unfold fQ;rw[aY bZ];exact D1 rfl (Ap h.ok h.pl.nd (Xd.2 bZ))
def KI.drop(h:KI nd es S pd (λ_=>False) c st)(bZ:st.s.heap≠[])(hf:st.cj.getD (root st).x.toNat false=true):KI nd es S pd (λ_=>False) c (mn st):=by
 obtain⟨f1,f2,f3⟩:=BO bZ;have hr:=h.wV _ (D0 bZ);have Jl:=h.nc;refine⟨h.lb,h.lf,h.lh,adp h bZ,wI h.pl,Aq h.hp,h.bo,h.Zt,λk hk h1 h2 h3=>?_,λe he=>?_,h.val,h.fv,h.uv,by have:=h.pot;simp only[mn,f2];exact this,h.nn, ?_⟩
 ·have:=h.don k hk h1 h2 h3;unfold done at this⊢;rcases this with h4|h4|⟨x,h4,h5,h6⟩
  ·exact .inl h4
  ·exact .inr (.inl h4)
  ·rcases adn bZ h4 with rfl|h4
   ·refine .inr (.inl ⟨by rw[<-h5];exact hf, ?_⟩);show ¬(gW st.an (es.getD k default)).lt (bv st.an (es.getD k default).head);rw[<-h6,<-h5];obtain⟨y,hy⟩:=kK hr.1.1;rw[hy]at hf hr⊢;exact hr.2.2.2.2.2 y hr.1.2 (by simpa using hf)
   ·exact .inr (.inr ⟨x,h4,h5,h6⟩)
 ·obtain⟨a1,a2,a3,a4,a5,a6⟩:=h.wV e (ado bZ he);exact⟨a1,a2,a3,by simp only[mn,f1];exact a4,a5,a6⟩
 ·simp only[mn,f1,f2,f3];omega
def NT{cj:List Bool}{x:Nat}{ts:bU}(hx:x<cj.length)(hf:cj.getD x false=false)(hp:∀t∈ts,0<=t):BM cj ts=BM (cj.set x true) ts+ts.count (x:Int):=by
 induction ts with
 |nil=>rfl
 |cons t ts ih=>
  have ih:=ih λu hu=>hp u (by simp[hu]);have ht:=hp t (by simp);unfold BM at ih⊢;rw[Zc2,Zc2,ZcP,ih];by_cases e:t=(x:Int)
  ·subst e;have h1:(cj.set x true).getD x false=true:=by rw[eV hx,cF rfl]
   simp only[iP,hf,h1];simp;omega
  ·have h1:(cj.set x true).getD t.toNat false=cj.getD t.toNat false:=by rw[eV hx,aY (by omega)]
   have h2:(t==(x:Int))=false:=by simpa using e
   simp only[h1,h2];simp;omega
def KI.set(H:hE nd es)(h:KI nd es S (λ_=>0) (λ_=>False) c st)(bZ:st.s.heap≠[]){x:Nat}(hx:(root st).x=x)(hf:st.cj.getD x false=false):
  KI nd es S (λk=>(es.getD k default).dH.count (x:Int)) (λ_=>False) c (Ab (mn st) x (root st).v)/\
   ∀y:Nat,(y:Int)<nd->(Ab (mn st) x (root st).v).cj.getD y false=true->¬(bv (Ab (mn st) x (root st).v).an x).lt (bv (Ab (mn st) x (root st).v).an y):=by
 obtain⟨f1,f2,f3⟩:=BO bZ;obtain⟨⟨r1,r2⟩,r3,r4,r5,r6,r7⟩:=h.wV _ (D0 bZ);have Jl:=h.nc;obtain⟨w,hw⟩:=be ((root st).v);rw[hx]at r1 r2 r6;rw[hw]at r3 r4 r6 r7;have O8:x<st.an.length:=by have:=h.lb;omega
 have Zu:x<st.cj.length:=by have:=h.lf;omega
 have KX:∀y:Nat,bv (st.an.set x w) y=if y=x then w else bv st.an y:=λy=>by
  unfold bv;simp only[iP];rw[eV O8]
 have tz:∀y:Nat,(st.cj.set x true).getD y false=if y=x then true else st.cj.getD y false:=λy=>eV Zu
 have KC:Ab (mn st) x (root st).v=⟨st.an.set x w,st.cj.set x true,st.fB,fQ st.s⟩:=by rw[hw];rfl
 rw[KC];have afC:∀k,k<es.length->(es.getD k default).dH.count (x:Int)=0->gW (st.an.set x w) (es.getD k default)=gW st.an (es.getD k default):=λk hk h0=>BL λt ht=>by
  have Lw:=(lD H hk).1.2.2.1 t ht;obtain⟨t,rfl⟩:=kK Lw.1;rw[KX,aY];rintro rfl;rw[List.count_eq_zero]at h0;exact h0 ht
 refine⟨⟨by simpa using h.lb,by simpa using h.lf,h.lh,adp h bZ,wI h.pl,Aq h.hp,λv hv=>?_,λk hk=>?_,λk hk h1 h2 _=>?_,λe he=>?_,λy hy=>?_,λy hy yB=>?_,λy hy yB=>?_,by have:=h.pot;simp only[f2];exact this,h.nn, ?_⟩,λy hy yB=>?_⟩
 ·rcases Hk hv with hv|rfl
  ·exact h.bo v hv
  ·exact r3
 ·have h1:=h.Zt k hk;have h2:=NT (ts:=(es.getD k default).dH) Zu hf λt ht=>((lD H hk).1.2.2.1 t ht).1;simp only at h1⊢;omega
 ·have h3:=NT (ts:=(es.getD k default).dH) Zu hf λt ht=>((lD H hk).1.2.2.1 t ht).1;have:=h.don k hk (by simp only at h1;omega) rfl (λh=>h);have hc:=afC k hk h2;have Vv:=(lD H hk).1;obtain⟨hd,hhe⟩:=kK Vv.1;unfold done at this⊢;simp only;rw[hc];rw[hhe]at this⊢;rcases this with h4|⟨h4,h5⟩|⟨z,h4,h5,h6⟩
  ·exact .inl h4
  ·simp only[iP]at h4;have hdx:¬hd=x:=by rintro rfl;rw[hf]at h4;cases h4
   exact .inr (.inl ⟨by simp only[iP];rw[tz,aY hdx];exact h4,by rw[KX,aY hdx];exact h5⟩)
  ·rcases adn bZ h4 with rfl|h4
   ·have hdx:hd=x:=by omega
    subst hdx;refine .inr (.inl ⟨by simp only[iP];rw[tz,cF rfl], ?_⟩);rw[KX,cF rfl,<-h6,hw];unfold dg.lt;omega
   ·exact .inr (.inr ⟨z,h4,h5,h6⟩)
 ·have ur:=ado bZ he;obtain⟨a1,a2,a3,a4,a5,a6⟩:=h.wV e ur;refine⟨a1,a2,a3,by simp only[f1];exact a4,a5,λy hy yB=>?_⟩;simp only at yB⊢;rw[tz]at yB;rw[KX];by_cases e1:y=x
  ·rw[cF e1];have:=adm h ur;rw[hw]at this;exact this
  ·rw[aY e1]at yB⊢;exact a6 y hy yB
 ·simp only;rw[KX];split
  ·rename_i e1;subst e1;exact r6
  ·exact h.val y hy
 ·simp only at yB⊢;rw[tz]at yB;rw[KX];split
  ·exact r4
  ·rename_i e1;rw[aY e1]at yB;exact h.fv y hy yB
 ·simp only at yB⊢;rw[tz]at yB;by_cases e1:y=x
  ·rw[cF e1]at yB;cases yB
  ·rw[aY e1]at yB;rw[KX,aY e1];exact h.uv y hy yB
 ·simp only[f1,f2,f3];omega
 ·simp only at yB⊢;rw[tz]at yB;rw[KX,cF rfl,KX];by_cases e1:y=x
  ·rw[cF e1];unfold dg.lt;omega
  ·rw[aY e1]at yB⊢;exact r7 y hy yB
def adq(z:fp)(st:dy)(k:Int):(nZ z st k).an=st.an/\(nZ z st k).cj=st.cj/\(nZ z st k).fB.length=st.fB.length:=by
 unfold nZ r8 qh;split
 ·split<;>exact⟨rfl,rfl,by simp[yw]⟩
 ·exact⟨rfl,rfl,by simp[yw]⟩
def Yv(z:fp)(st:dy)(us:bU)(i:Nat):(r9 z st us i).an=st.an/\(r9 z st us i).cj=st.cj/\(r9 z st us i).fB.length=st.fB.length:=by
 unfold r9;generalize us.take i=l;induction l generalizing st with
 |nil=>exact⟨rfl,rfl,rfl⟩
 |cons k l ih=>
  obtain⟨a1,a2,a3⟩:=adq z st k;obtain⟨b1,b2,b3⟩:=ih (nZ z st k);exact⟨b1.trans a1,b2.trans a2,b3.trans a3⟩
def KI.settle(H:hE nd es)(hS:Sol nd es S)(h:KI nd es S (λ_=>0) (λ_=>False) c st)(hc:c<=90000)(bZ:st.s.heap≠[]){us:List (bU)}(hu:Ao nd es us)(hf:st.cj.getD (root st).x.toNat false=false):
  adl ⟨nd,es,us⟩ (mn st) (root st).x (root st).v/\KI nd es S (λ_=>0) (λ_=>False) c (ub ⟨nd,es,us⟩ (mn st) (root st).x (root st).v)/\
   (ub ⟨nd,es,us⟩ (mn st) (root st).x (root st).v).cj=st.cj.set (root st).x.toNat true:=by
 obtain⟨⟨r1,r2⟩,_⟩:=h.wV _ (D0 bZ);obtain⟨x,hx⟩:=kK r1;rw[hx]at hf r2;simp only[iP]at hf;obtain⟨k1,k2⟩:=h.set H bZ hx hf;rw[hx];obtain⟨T,hT⟩:=be (Ab (mn st) x (root st).v);have hTf:T.cj=st.cj.set x true:=by rw[<-hT];rfl
 have hTx:T.cj.getD x false=true:=by rw[hTf,eV (by have:=h.lf;omega),cF rfl]
 unfold ub adl;rw[hT]at k1 k2⊢;have hul:iQ ⟨nd,es,us⟩ (x:Int)=us.getD x []:=rfl;rw[hul];obtain⟨l,hl⟩:=be (us.getD x []);have afD:=hu.rng x r2;have Yw:=λk=>hu.Zt x k r2;rw[hl]at afD Yw⊢;have Cx:=λi=>Yv ⟨nd,es,us⟩ T l i;have main:∀i,i<=l.length->KI nd es S (λk=>(l.drop i).count (k:Int)) (λ_=>False) c (r9 ⟨nd,es,us⟩ T l i):=by
  intro i;induction i with
  |zero=>
   intro _;show KI nd es S (λk=>(l.drop 0).count (k:Int)) (λ_=>False) c T;refine⟨k1.lb,k1.lf,k1.lh,k1.ok,k1.pl,k1.hp,k1.bo,λk hk=>?_,λk hk a1 a2 a3=>k1.don k hk a1 (by simp only[ZcD]at a2;rw[Yw k hk]at a2;exact a2) a3,k1.wV,k1.val,k1.fv,k1.uv,k1.pot,k1.nn,k1.nc⟩;rw[ZcD,Yw k hk];exact k1.Zt k hk
  |succ i ih=>
   intro hi;have ih:=ih (by omega);have Bj:i<l.length:=by omega
   have hd:l.drop i=l.getD i default::l.drop (i+1):=by
    rw[ZbR Bj];simp[List.getD,Bj]
   rw[Iw _ _ Bj];obtain⟨q0,q1⟩:=afD _ (bq Bj);obtain⟨k,hk⟩:=kK q0;rw[hk]at hd q1⊢;have pq:k<es.length:=by omega
   have Hp:0<(l.drop i).count (k:Int):=by rw[hd];simp
   have ur:(x:Int)∈(es.getD k default).dH:=by
    rw[<-List.count_pos_iff,<-Yw k pq];refine ZcT.2 ?_;rw[<-hk];exact bq Bj
   obtain⟨g1,g2,g3⟩:=Cx i;have A1:∀y:Nat,(y:Int)<nd->(r9 ⟨nd,es,us⟩ T l i).cj.getD y false=true->¬(gW (r9 ⟨nd,es,us⟩ T l i).an (es.getD k default)).lt (bv (r9 ⟨nd,es,us⟩ T l i).an y):=by
    rw[g1,g2];intro y hy yB;exact kc (k2 y hy yB) (WD k1.lb k1.bo (lD H pq).1 ur (.inl (k1.fv x r2 hTx)))
   have:=ih.use H hS (us:=us) pq Hp A1;refine⟨this.lb,this.lf,this.lh,this.ok,this.pl,this.hp,this.bo,λj hj=>?_,λj hj a1 a2 a3=>this.don j hj a1 ?_ a3,this.wV,this.val,this.fv,this.uv,this.pot,this.nn,this.nc⟩
   ·rw[this.Zt j hj,hd];simp only[ZcP];by_cases e:j=k
    ·subst e;simp
    ·have:¬(k:Int)=(j:Int):=by omega
     simp[e,this]
   ·rw[hd];simp only[ZcP];by_cases e:j=k
    ·subst e;simpa using a2
    ·have:¬(k:Int)=(j:Int):=by omega
     simpa [e,this]using a2
 have hlb:=k1.lb;have hlf:=k1.lf;have Xf:((mn st).an.length:Int)=nd/\((mn st).cj.length:Int)=nd:=⟨h.lb,h.lf⟩;have Yc:l.length<=1000000000:=by
  have key:∀(m:bU) (n:Nat),(∀k∈m,0<=k/\k<n)->(∀k:Nat,k<n->m.count (k:Int)<=2)->m.length<=2*n:=by
   intro m n;induction n generalizing m with
   |zero=>
    intro h1 _;cases m with
    |nil=>simp
    |cons a m=>have:=h1 a (by simp);omega
   |succ n ih=>
    intro h1 h2;have AY:∀m:bU,m.length=(m.filter λk=>k !=(n:Int)).length+m.count (n:Int):=by
     intro m;induction m with
     |nil=>rfl
     |cons a m ih2=>
      rw[Sj,ZcP,w9];by_cases e:a=(n:Int)
      ·subst e;simp;omega
      ·have h1:(a !=(n:Int))=true:=by simpa using e
       have h2:(a==(n:Int))=false:=by simpa using e
       rw[h1,h2];simp;omega
    have AY:=AY m;have:=ih (m.filter λk=>k !=(n:Int)) (λk hk=>by
     simp only[Sv,Zdm,ne_eq]at hk;have:=h1 k hk.1;omega) (λk hk=>by
     have h3:=h2 k (by omega);have:(m.filter λk=>k !=(n:Int)).count (k:Int)<=m.count (k:Int):=(List.filter_sublist).count_le _;omega)
    have h3:=h2 n (by omega);omega
  have:=key l es.length afD (λk hk=>by
   rw[Yw k hk];have:=List.count_le_length (a:=(x:Int)) (l:=(es.getD k default).dH);have:=(lD H hk).2;omega)
  have:=H.2.2.1;omega
 refine⟨⟨by omega,by omega,by omega,by have:=hu.len;simp only;omega,Yc,λi hi=>?_⟩, ?_, ?_⟩
 ·have ih:=main i (by omega);obtain⟨q0,q1⟩:=afD _ (bq hi);obtain⟨k,hk⟩:=kK q0;have hd:l.drop i=l.getD i default::l.drop (i+1):=by
   rw[ZbR hi];simp[List.getD,hi]
  rw[hk]at hd q1⊢;have pq:k<es.length:=by omega
  have Hp:0<(l.drop i).count (k:Int):=by rw[hd];simp
  simp only[iP];have Il:k<(r9 ⟨nd,es,us⟩ T l i).fB.length:=by rw[ih.lh];exact pq
  have b1:0<=(r9 ⟨nd,es,us⟩ T l i).fB.getD k 0:=ih.nn _ (bq Il);have b2:=WG ih.nn Il;have b3:=ih.pot;have b4:=ih.nc;have amu:=ih.dec pq Hp;exact⟨⟨by omega,by omega⟩,⟨by omega,by omega⟩,λ_=>amu.qZ H (by omega) pq⟩
 ·have:=main l.length (fq _);simp only[List.drop_length,List.count_nil]at this;exact this
 ·rw[(Cx _).2.1,hTf];rfl
def KI.am8(H:hE nd es)(hS:Sol nd es S)(hSv:∀v:b7,(v.length:Int)=nd->(∀x∈v,jI x/\(x.aI<1099511627776\/x.size=0))->(∀e∈es,¬(gW v e).lt (bv v e.head))->∀y:Nat,(y:Int)<nd->¬(bv S y).lt (bv v y))
  (h:KI nd es S (λ_=>0) (λ_=>False) c st) (bZ:st.s.heap=[]):st.an=S:=by
 have aV:∀e∈es,¬(gW st.an e).lt (bv st.an e.head):=by
  intro e he;obtain⟨k,hk,rfl⟩:=Ib he;have KT:es.getD k default=es[k]:=by simp[List.getD,hk]
  rw[<-KT];obtain⟨sO,_⟩:=lD H hk;have Cs:∀t:Int,0<=t/\t<nd->jI (bv st.an t):=λt ht=>GL h.lb h.bo ht;by_cases hz:BM st.cj (es.getD k default).dH=0
  ·have:=h.don k hk hz rfl (λh=>h);unfold done at this;rcases this with h4|⟨_,h5⟩|⟨x,h4,_⟩
   ·have:=DZ h.lb h.bo sO;have h2:=Cs _ ⟨sO.1,sO.2.1⟩;by_cases hfh:st.cj.getD (es.getD k default).head.toNat false=true
    ·obtain⟨y,hy⟩:=kK sO.1;rw[hy]at hfh h2⊢;have:=h.fv y (by rw[<-hy];exact sO.2.1) (by simpa using hfh);unfold dg.lt;omega
    ·obtain⟨y,hy⟩:=kK sO.1;rw[hy]at hfh⊢;have:=h.uv y (by rw[<-hy];exact sO.2.1) (by simpa using hfh);rw[this];unfold dg.lt;simp only;have:=(DZ h.lb h.bo sO).2.2.1;omega
   ·exact h5
   ·rw[bZ]at h4;cases h4
  ·have:∃t∈(es.getD k default).dH,st.cj.getD t.toNat false=false:=by
    unfold BM at hz;have:=List.countP_pos_iff.1 (Nat.pos_of_ne_zero hz);obtain⟨t,ht,hf⟩:=this;exact⟨t,ht,by simpa using hf⟩
   obtain⟨t,ht,hf⟩:=this;have Lw:=sO.2.2.1 t ht;obtain⟨t,rfl⟩:=kK Lw.1;have hu:=h.uv t Lw.2 (by simpa using hf);have yQ:=WD h.lb h.bo sO ht (.inr (by rw[hu]));rw[hu]at yQ;have h2:=Cs _ ⟨sO.1,sO.2.1⟩;have h3:=DZ h.lb h.bo sO;obtain⟨y,hy⟩:=kK sO.1;rw[hy]at h2⊢;have GB:(y:Int)<nd:=by rw[<-hy];exact sO.2.1
   cases hfy:st.cj.getD y false with
   |true=>
    have:=h.fv y GB hfy;unfold dg.lt at yQ⊢;simp only at yQ;omega
   |false=>
    rw[h.uv y GB hfy];exact yQ
 have jW:=hSv st.an h.lb (λx hx=>⟨h.bo x hx,by
  obtain⟨y,hy,rfl⟩:=Ib hx;have e1:bv st.an y=st.an[y]:=by simp[bv,List.getD,hy]
  have GB:(y:Int)<nd:=by have:=h.lb;omega
  rw[<-e1];cases hf:st.cj.getD y false with
  |true=>exact .inl (h.fv y GB hf)
  |false=>rw[h.uv y GB hf];exact .inr rfl⟩) aV
 refine Vt (by have:=h.lb;have:=hS.len;omega) λy h1 h2=>?_;have GB:(y:Int)<nd:=by have:=h.lb;omega
 have e1:bv st.an y=st.an[y]:=by simp[bv,List.getD,h1]
 have e2:bv S y=S[y]:=by simp[bv,List.getD,h2]
 rw[<-e1,<-e2];exact dg.vI (h.val y GB) (jW y GB)
end
end
section
variable{nd:Int}{es:List bK}
def hE.Lu(H:hE nd es):Lu nd es:=⟨H.1,by have:=H.2.1;omega,by have:=H.2.2.1;omega,λe he=>(H.2.2.2 e he).1⟩
def adr(H:hE nd es){v:b7}(hv:Lv nd v):∀{a b:Nat},a<=b->b<=es.length->jx (eL es v b)<=jx (eL es v a):=by
 intro a b W8 hb;induction b with
 |zero=>
  obtain rfl:a=0:=by omega
  exact fq _
 |succ b ih=>
  by_cases e:a=b+1
  ·subst e;exact fq _
  ·have:=ih (by omega) (by omega);rw[ke];obtain⟨_,h2⟩:=sK (H.Lu.2.2.2 _ (bq (l:=es) (i:=b) (by omega))) (pG H.Lu hv b (by omega)).1;rcases h2 with h2|h2
   ·rw[h2];exact this
   ·omega
def Yx(H:hE nd es){v:b7}(hv:Lv nd v)(h:eL es v es.length=v):∀e∈es,¬(gW v e).lt (bv v e.head):=by
 have hp:∀y,y<=es.length->eL es v y=v:=by
  intro y hy;rcases(pG H.Lu hv y hy).2 with h1|h1
  ·exact h1
  ·have:=adr H hv hy (fq _);rw[h]at this;omega
 intro e he ef;obtain⟨k,hk,rfl⟩:=Ib he;have h1:=hp (k+1) (by omega);rw[ke,hp k (by omega)]at h1;have KT:es.getD k default=es[k]:=by simp[List.getD,hk]
 rw[KT]at h1;obtain⟨h2,h3⟩:=sK (H.Lu.2.2.2 _ he) hv;have sO:=(H.2.2.2 _ he).1;unfold qX at h1;have aeQ:(d0 (es[k]).aI (dY v (es[k]).dH)).lt (v.getD (es[k]).head.toNat default):=ef;rw[cF aeQ]at h1;have hh:(es[k]).head.toNat<v.length:=by have:=hv.1;have:=sO.1;have:=sO.2.1;omega
 have:bv v (es[k]).head=gW v es[k]:=by
  have h4:=congrArg (λl=>List.getD l (es[k]).head.toNat default) h1;simp only[eV hh,jP]at h4;exact h4.symm
 rw[this]at ef;unfold dg.lt at ef;omega
def Ix(H:hE nd es):∀(f:Nat) (v:b7),jx v<f->Lv nd v->eL es (lJ es f v) es.length=lJ es f v
 |0,v,h,_=>by omega
 |f+1,v,h,hv=>by
  obtain⟨h1,h2⟩:=pG H.Lu hv es.length (fq _);unfold lJ;split
  ·assumption
  ·rename_i bZ;exact Ix H f _ (by have:=h2.resolve_left bZ;omega) h1
def KY(H:hE nd es):Sol nd es (gj nd es):=by
 have hv:=BB H.Lu;exact⟨hv.1,hv.2,Yx H hv (Ix H _ _ (by omega) (z7 H.Lu))⟩
def Yy(H:hE nd es):∀v:b7,(v.length:Int)=nd->(∀x∈v,jI x/\(x.aI<1099511627776\/x.size=0))->(∀e∈es,¬(gW v e).lt (bv v e.head))->∀y:Nat,(y:Int)<nd->¬(bv (gj nd es) y).lt (bv v y):=by
 intro v hl ho hc;have hvo:∀x∈v,jI x:=λx hx=>(ho x hx).1
 let P:b7->Prop:=λw=>Lv nd w/\∀y:Nat,(y:Int)<nd->¬(bv w y).lt (bv v y)
 have GO:∀w,P w->∀e∈es,P (qX w e):=by
  intro w hw e he;have sO:=H.2.2.2 e he;refine⟨(sK sO.1 hw.1).1,λy hy=>?_⟩;unfold qX;split
  ·have hh:e.head.toNat<w.length:=by have:=hw.1.1;have:=sO.1.1;have:=sO.1.2.1;omega
   have KX:bv (w.set e.head.toNat (d0 e.aI (dY w e.dH))) y=if y=e.head.toNat then d0 e.aI (dY w e.dH)else bv w y:=by
    unfold bv;simp only[iP];exact eV hh
   rw[KX];split
   ·rename_i e1;have hm:¬(gW w e).lt (gW v e):=NQ sO.2 λt ht=>by
     have Lw:=sO.1.2.2.1 t ht;obtain⟨t,rfl⟩:=kK Lw.1;exact⟨hw.2 t Lw.2,(GL hl hvo Lw).1,(GL hw.1.1 hw.1.2 Lw).1⟩
    have h3:=hc e he;have:(e.head:Int)=(y:Int):=by have:=sO.1.1;omega
    rw[this]at h3;exact kc h3 hm
   ·exact hw.2 y hy
  ·exact hw.2 y hy
 have Rj:∀w,P w->∀y,y<=es.length->P (eL es w y):=by
  intro w hw y;induction y with
  |zero=>intro _;exact hw
  |succ y ih=>intro hy;rw[ke];exact GO _ (ih (by omega)) _ (bq (by omega))
 have Rk:∀f w,P w->P (lJ es f w):=by
  intro f;induction f with
  |zero=>intro w hw;exact hw
  |succ f ih=>
   intro w hw;unfold lJ;split
   ·exact hw
   ·exact ih _ (Rj w hw _ (fq _))
 refine(Rk _ _ ⟨z7 H.Lu,λy hy=>?_⟩).2;have fW:y<v.length:=by omega
 obtain⟨⟨o1,o2,o3,o4⟩,o5⟩:=ho _ (bq fW);have e1:bv (GA nd) y=⟨1099511627776,0⟩:=by unfold bv GA;exact iq (by omega)
 rw[e1];show ¬dg.lt _ (v.getD (y:Int).toNat default);rw[iP];unfold dg.lt;simp only;omega
end
section
variable{ts:bU}{L':c7}{tm:dn}{aK aZ:Nat}
def yC:Pf:=⟨2021,2024,2028,2414,2031,2419,2412⟩
def eM(z:fp)(st:dy)(E:bU):c7:=[(2033,.box (mW yC z)),(2021,sd st),(2024,sZ st),(2028,s8 st),(2031,.box (oH z.GJ)),(2414,qB 2419 2412 st.s),(2419,hB st.s),(2412,mB st.s),(3040,.bE 0 3 1 (aG E))]
def oY(z:fp)(st:dy)(E:bU):(⟨yC,z,st⟩:SV).at (cJ (eM z st E)) 2033:=by
 refine⟨?_, ?_, ?_, ?_, ?_, ?_, ?_, ?_⟩<;>simp[eM,yC]
def Ar(z:fp)(st dx:dy)(E:bU):cg (cJ (eM z st E)) ⟨yC,z,st⟩ dx=cJ (eM z dx E):=by
 funext k;show(if k=2021 then some (sd dx)else if k=2024 then some (sZ dx)else if k=2028 then some (s8 dx)else if k=2414 then some (qB 2419 2412 dx.s)else if k=2419 then some (hB dx.s)else if k=2412 then some (mB dx.s)else cJ (eM z st E) k)=cJ (eM z dx E) k;simp only[eM,c6,ii];by_cases h1:k=2021
 ·subst h1;simp
 by_cases h2:k=2024
 ·subst h2;simp
 by_cases h3:k=2028
 ·subst h3;simp
 by_cases h4:k=2414
 ·subst h4;simp
 by_cases h5:k=2419
 ·subst h5;simp
 by_cases h6:k=2412
 ·subst h6;simp
 simp only[aY h1,aY h2,aY h3,aY h4,aY h5,aY h6]
def ads(z:fp)(st:dy)(E:bU):∀q∈eM z st E,q.1<3041:=by
 simp[eM]
def NU(z:fp)(st:dy)(E:bU):∀r,3041<=r->cJ (eM z st E) r=none:=fS (ads z st E)
def q0:Qs:=⟨[],0,[],0,0,0⟩
def Lx(n m k:Nat):dy:=⟨List.replicate k ⟨1099511627776,0⟩++List.replicate (n-k) ⟨0,0⟩,List.replicate n false,List.replicate m 0,q0⟩
def mU(n k:Nat):bU:=List.replicate k (-1)++List.replicate (n-k) 0
def yD(U:List (bU))(j:Int)(ts:bU):List (bU):=ts.foldl (λU t=>U.set t.toNat (U.getD t.toNat []++[j])) U
def kj(n:Nat)(es:List bK)(k:Nat):List (bU):=(List.range k).foldl (λU (j:Nat)=>yD U (j:Int) (es.getD j default).dH) (List.replicate n [])
def ql(n:Nat)(es:List bK)(k:Nat):kj n es (k+1)=yD (kj n es k) k (es.getD k default).dH:=by simp[kj,Hu,Dg]
def KZ(n:Nat)(es:List bK)(k:Nat):dy:=⟨List.replicate n ⟨1099511627776,0⟩,List.replicate n false,(es.take k).map (λe=>(e.dH.length:Int))++List.replicate (es.length-k) 0,q0⟩
def NV(U:List (bU))(j:Int)(ts:bU):(yD U j ts).length=U.length:=by
 unfold yD;induction ts generalizing U with
 |nil=>rfl
 |cons t ts ih=>rw[B6,ih];simp
def pH(n:Nat)(es:List bK)(k:Nat):(kj n es k).length=n:=by
 induction k with
 |zero=>simp[kj]
 |succ k ih=>rw[ql,NV,ih]
def GP{U:List (bU)}{j:Int}(ht:∀t∈ts,0<=t/\t<U.length)(x:Nat)(hx:x<U.length)(k:Int):
  ((yD U j ts).getD x []).count k=(U.getD x []).count k+if k=j then ts.count (x:Int)else 0:=by
 unfold yD;induction ts generalizing U with
 |nil=>simp
 |cons t ts ih=>
  obtain⟨t0,t1⟩:=ht t (by simp);obtain⟨t,rfl⟩:=kK t0;rw[B6,ih (λu hu=>by have:=ht u (by simp[hu]);simpa using this) (by simpa using hx)];simp only[iP];rw[eV (by omega),ZcP];by_cases e:x=t
  ·subst e;rw[cF rfl,List.count_append];by_cases e2:k=j
   ·subst e2;simp;omega
   ·have:¬j=k:=λh=>e2 h.symm;simp[e2,this]
  ·have:¬(t:Int)=(x:Int):=by omega
   rw[aY e];simp[this]
def adt{U:List (bU)}{j:Int}(ht:∀t∈ts,0<=t/\t<U.length)(x:Nat)(hx:x<U.length){k:Int}(h:k∈(yD U j ts).getD x []):k∈U.getD x []\/k=j:=by
 by_cases e:k=j
 ·exact .inr e
 ·have h1:=GP (j:=j) ht x hx k;rw[aY e]at h1;refine .inl (ZcT.1 ?_);have:=ZcT.2 h;omega
def Yz{nd:Int}{es:List bK}(H:hE nd es):Ao nd es (kj nd.toNat es es.length):=by
 have h0:=H.1;have main:∀j,j<=es.length->(∀x:Nat,(x:Int)<nd->∀k∈(kj nd.toNat es j).getD x [],0<=k/\k<j)/\∀x k:Nat,(x:Int)<nd->((kj nd.toNat es j).getD x []).count (k:Int)=if k<j then(es.getD k default).dH.count (x:Int)else 0:=by
  intro j;induction j with
  |zero=>
   intro _;have h1:∀x:Nat,(x:Int)<nd->(kj nd.toNat es 0).getD x []=[]:=λx hx=>by
    have xi:x<nd.toNat:=by omega
    show(List.replicate nd.toNat ([]:bU)).getD x []=[];exact iq xi
   refine⟨λx hx k hk=>?_,λx k hx=>?_⟩
   ·rw[h1 x hx]at hk;cases hk
   ·rw[h1 x hx];simp
  |succ j ih=>
   intro hj;obtain⟨i1,i2⟩:=ih (by omega);have sO:=(lD H (k:=j) (by omega)).1;have ht:∀t∈(es.getD j default).dH,0<=t/\t<(kj nd.toNat es j).length:=λt ht=>by rw[pH];have:=sO.2.2.1 t ht;omega
   refine⟨λx hx k hk=>?_,λx k hx=>?_⟩
   ·rw[ql]at hk;rcases adt ht x (by rw[pH];omega) hk with h|rfl
    ·have:=i1 x hx k h;omega
    ·omega
   ·rw[ql,GP ht x (by rw[pH];omega),i2 x k hx];by_cases e:k=j
    ·subst e;simp
    ·have e1:¬(k:Int)=(j:Int):=by omega
     simp only[e1,OV,YQ];by_cases e2:k<j
     ·rw[cF e2,cF (by omega)]
     ·rw[aY e2,aY (by omega)]
 obtain⟨m1,m2⟩:=main es.length (fq _);exact⟨by rw[pH];omega,m1,λx k hx hk=>by rw[m2 x k hx,cF hk]⟩
def am9{A:c7}{M:Nat}(aV:df (cJ A) M)(hA:∀q∈A,1000<=q.1/\q.1<M){L:c7}{l:eO}(hL:∀q∈L,M<=q.1)(hL':∀q∈L',M<=q.1/\q.1<aZ)(hn:1000<=M/\M<=aZ)
  (gP:tH (cJ (L++A)) (cJ (L'++A)) id L') (iW:fK (cJ (L++A)) (cJ (L'++A)) id tm l):
  Le ⟨tm,cJ (L++A),aK,1000,[]⟩ ⟨DM.look l,cJ (L'++A),aZ,1000,[]⟩:=by
 have low:∀{B:c7},(∀q∈B,M<=q.1)->∀r,r<M->cJ (B++A) r=cJ A r:=λhB r hr=>NW λq hq e=>by have:=hB q hq;omega
 have hLs:∀q∈L',M<=q.1:=λq hq=>(hL' q hq).1;refine Le.XT rfl rfl ?_ (λr o h=>?_) (λr hr o h=>?_) (λk=>mI l iW k)
 ·refine fS λq hq=>?_;rcases oi.1 hq with hq|hq
  ·exact(hL' q hq).2
  ·have:=hA q hq;simp only;omega
 ·rcases rG h with h|⟨_,h⟩
  ·obtain⟨o0,h1,h2⟩:=tJ gP r o h;exact⟨o0,h1,.inl h2⟩
  ·have hr:=(aV r o h).1;refine⟨o,(low hL r hr).trans h,.inr ⟨rfl,λm hm=>?_⟩⟩;have Ps:=(aV r o h).2 m hm;cases D2:cJ A m with
   |none=>exact eA D2 Ps
   |some o'=>exact⟨o',o',(low hL m (aV m o' D2).1).trans D2,(low hLs m (aV m o' D2).1).trans D2,bk _⟩
 ·exfalso;simp only at h hr;rcases rG h with h|⟨_,h⟩
  ·have:=hL _ h;simp only at this;omega
  ·have hm:=kw h;have:=hA _ hm;simp only at this;omega
def adu(z:fp)(st:dy)(E:bU):∀q∈eM z st E,1000<=q.1/\q.1<3041:=by
 simp[eM]
def ud(z:fp)(st:dy)(E:bU):df (cJ (eM z st E)) 3041:=by
 have dK:=oY z st E;have h1:=dK.rb;have h2:=dK.rf;have h3:=dK.rh;have h4:=dK.u;have h5:=dK.q;have h6:=dK.hp;have h7:=dK.m;simp only[yC]at h1 h2 h3 h4 h5 h6 h7;intro r o h;have hm:=kw h;refine⟨(adu z st E _ hm).2,λm AW=>?_⟩;simp only[eM,fN,g9,wh,tD]at hm;rcases hm with⟨rfl,rfl⟩|⟨rfl,rfl⟩|⟨rfl,rfl⟩|⟨rfl,rfl⟩|⟨rfl,rfl⟩|⟨rfl,rfl⟩|⟨rfl,rfl⟩|⟨rfl,rfl⟩|⟨rfl,rfl⟩
 ·simp only[mW,yC,bb,bQ,aP,wa,yP,oi,fN,g9,wh]at AW;rcases AW with rfl|rfl|rfl|rfl|rfl
  ·rw[h1];simp
  ·rw[h2];simp
  ·rw[h3];simp
  ·rw[h4];simp
  ·rw[h5];simp
 ·simp[sd,bb]at AW
 ·simp[sZ,bb]at AW
 ·simp[s8,bb]at AW
 ·exfalso;have:∀l:List (bU),bQ (oH l)=[]:=λl=>by induction l with
   |nil=>rfl
   |cons a l ih=>simp only[oH,qD,bQ,aP,yP];exact ih
  simp[bb,this]at AW
 ·simp only[qB,bb,bQ,aP,wa,yP,oi,fN,g9,wh]at AW;rcases AW with rfl|rfl
  ·rw[h6];simp
  ·rw[h7];simp
 ·simp[hB,bb]at AW
 ·exfalso;simp only[mB,bb,Ll,vM,lq]at AW;obtain⟨e,⟨e',_,rfl⟩,hk⟩:=AW;simp[aP]at hk
 ·simp[bb]at AW
def alb{z:fp}{st:dy}{E:bU}{L:c7}{l:eO}(hL:∀q∈L,3041<=q.1)(hL':∀q∈L',3041<=q.1/\q.1<aZ)(hn:3041<=aZ)
  (gP:tH (cJ (L++eM z st E)) (cJ (L'++eM z st E)) id L') (iW:fK (cJ (L++eM z st E)) (cJ (L'++eM z st E)) id tm l):
  Le ⟨tm,cJ (L++eM z st E),aK,1000,[]⟩ ⟨DM.look l,cJ (L'++eM z st E),aZ,1000,[]⟩:=
 am9 (ud z st E) (adu z st E) hL hL' ⟨by omega,hn⟩ gP iW
end
end Kn
end cD
end Go.Proofs
