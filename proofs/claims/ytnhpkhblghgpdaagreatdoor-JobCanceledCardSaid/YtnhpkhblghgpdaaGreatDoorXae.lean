/- A part. Conditions: none. -/
import Derived.Test.YtnhpkhblghgpdaaGreatDoorXad
set_option linter.unusedSectionVars false
set_option linter.unusedSimpArgs false
set_option linter.unusedVariables false
set_option linter.defProp false
set_option maxRecDepth 20000
set_option maxHeartbeats 40000000
namespace Go.Proofs
namespace cC
open Go.DM
section
variable{f:bq}
noncomputable def P8:bB->bq->fI
 |[.v (.int .i64 n),.nG (.func 141) [.ptr b 0]],f=>⟨f b=some (.box [.ptr (gr f b) 0])/\(∃v:SV,v.at f (gr f b))/\n=(jm f (gr f b)).z.l.bE.length/\mono (jm f (gr f b)).z/\(jm f (gr f b)).z.l.bE.length<=1000000000,.v (ti (jn (jm f (gr f b)).z)),f⟩
 |_,f=>⟨False,.undef,f⟩
def k107_eq{v:SV}{b p:Nat}{n:Int}(hb:f b=some (.box [.ptr p 0]))(hv:v.at f p):P8 [.v (ti n),.nG (.func 141) [.ptr b 0]] f=⟨n=v.z.l.bE.length/\mono v.z/\v.z.l.bE.length<=1000000000,.v (ti (jn v.z)),f⟩:=by
 have hx:∃v:SV,v.at f p:=⟨v,hv⟩;have hd:gr f b=p:=by simp[gr,hb]
 simp only[P8,hd,io hv,hx,hb,true_and]
def k107_ok:∀args ab,(P8 args ab).ok->(∀N,(∀r,N<=r->ab r=none)->aR aj 140 args ab (P8 args ab))/\∀r,ab r=none->(P8 args ab).ab r=none:=by
 intro args ab h;unfold P8 at h⊢;split at h
 ·rename_i n b;obtain⟨hb,⟨v,hv⟩,hn,hm,hl⟩:=h;rw[io hv]at hn hm hl⊢;subst hn;exact⟨λN hN=>aR.of (t107 hN hb hv hm hl) rfl rfl,λr hr=>hr⟩
 ·exact h.elim
def ok107{l:List (Nat×DM.Spec)}(h:ay aj (bu l)):ay aj (bu ((140,eS P8)::l)):=ay.gS h k107_ok
def Kc(z:eY)(a:cw):Prop:=a.f=z.fr/\a.t=z.to
instance(z:eY)(a:cw):Decidable (Kc z a):=by unfold Kc;infer_instance
def tW(z:eY):Nat:=jn z+(z.l.bE.drop (jn z)).findIdx λa=> !decide (Kc z a)
def hiI_eq{z:eY}{k:Nat}(h0:jn z<=k)(hk:k<=z.l.bE.length)(h1:∀i,jn z<=i->i<k->Kc z (z.l.bE.getD i default))(h2:k<z.l.bE.length->¬Kc z (z.l.bE.getD k default)):tW z=k:=by
 unfold tW;have fl:(z.l.bE.drop (jn z)).length=z.l.bE.length-jn z:=Zbo ..
 suffices (z.l.bE.drop (jn z)).findIdx (λa=> !decide (Kc z a))=k-jn z by omega
 by_cases hl:k<z.l.bE.length
 ·rw[List.findIdx_eq (by omega)];refine⟨?_,λj hj=>?_⟩
  ·have:=h2 hl;rw[Zcm];simpa [List.getD,hl,show jn z+(k-jn z)=k by omega]using this
  ·have J3:jn z+j<z.l.bE.length:=by omega
   have:=h1 (jn z+j) (by omega) (by omega);rw[Zcm];simpa [List.getD,J3]using this
 ·obtain rfl:k=z.l.bE.length:=by omega
  rw[<-fl,List.findIdx_eq_length];intro x hx;obtain⟨i,hi,rfl⟩:=ZaO hx;rw[fl]at hi;have As:jn z+i<z.l.bE.length:=by omega
  have:=h1 (jn z+i) (by omega) (by omega);rw[Zcm];simpa [List.getD,As]using this
def loI_le(z:eY):jn z<=z.l.bE.length:=List.findIdx_le_length
def t80{f0:bq}{p N:Nat}{v:SV}(hN:∀r,N<=r->f0 r=none)(hv:v.at f0 p)(hm:mono v.z)(hl:v.z.l.bE.length<=1000000000):
  aR aj 119 [.ptr p 0] f0 ⟨True,.v (.eo [ti (jn v.z),ti (tW v.z)]),f0⟩:=by
 have aC:=ok107 ay.nil;refine c80.pQ hN (by simp) λaT=>?_;have h1:=hv.sp;have nu:p<N:=(aT p _ h1).1;simp only[ma]at h1;have np:∀k,p≠N+k:=λk=>by omega
 have en:∃cs,f0 p=some (.box cs):=⟨_,h1⟩;obtain⟨lo,hlo⟩:=bb (jn v.z);have Wc:=loI_le v.z;rw[hlo]at Wc⊢;simp;apply aa.ch aC fw [1];simp[d80r0];refine aa.le (Le.dV (l1:=[(N+2,.box [.ptr p 0])]) (l:=[(1,.ptr (N+2) 0)]) (ba:=N+500) aT ?_ ?_ ?_ ?_ ?_) ?_
 ·omega
 ·simp
 ·simp[bK,Nat.add_assoc]
 ·simp[dN,eA,np,Nat.add_assoc,en]
 ·simp[Nat.add_assoc]
 have mQ:v.at (aM [(N+2,.box [.ptr p 0])] f0) p:=hv.aM aT (by simp);have k1:=λn=>k107_eq (n:=n) (b:=N+2) (f:=aM [(N+2,.box [.ptr p 0])] f0) (by simp) mQ;rw[hlo]at k1;apply aa.cX aC fw (rs:=O1) rfl (by kernel_rfl) [1,4];simp[O1,h1,np,k1,hm,hl];have jy:∀{tm aJ ba l},N+3<=ba->fR (aM [(N+2,.box [.ptr p 0])] f0) (aM [(N+2,.box [.ptr p 0])] f0) id tm l->Le ⟨tm,aM [(N+2,.box [.ptr p 0])] f0,aJ,N,[]⟩ ⟨DM.look l,aM [(N+2,.box [.ptr p 0])] f0,ba,N,[]⟩:=by
  intro tm aJ ba l hn ik;refine Le.dV aT (by omega) ?_ ?_ ?_ ik
  ·simp;omega
  ·simp[bK]
  ·simp[dN,eA,np,en]
 apply aa.ch aC fw [1,4,5];simp[d80r2];apply aa.seq;apply aa.block;refine aa.loop (λj:Nat=>⟨DM.look [(1,.ptr (N+2) 0),(4,.v (ti lo)),(5,.v (ti j))],aM [(N+2,.box [.ptr p 0])] f0,N+1000,N,[]⟩)
  (λj=>lo<=j/\j<=v.z.l.bE.length/\∀i,lo<=i->i<j->Kc v.z (v.z.l.bE.getD i default)) (λj=>v.z.l.bE.length-j) lo (jy (by omega) ?_) ⟨Zaf _,Wc,λi a b=>by omega⟩ (λj hj=>?_)
 ·simp
 obtain⟨j1,j2,j3⟩:=hj;obtain⟨c1,bU⟩:=bb (decide (j<v.z.l.bE.length/\Kc v.z (v.z.l.bE.getD j default)):Bool);apply aa.seq;refine aa.cz aC fw [(1,.ptr (N+2) 0),(4,.v (ti lo)),(5,.v (ti j)),(54,.v (.bool c1))] ?_ ?_
 ·by_cases q1:j<v.z.l.bE.length
  ·have rr:=w7 q1;obtain⟨⟨af,wW,ae,ac,ao⟩,hx⟩:=bb (v.z.l.bE.getD j default);rw[hx]at rr bU;simp only[cw.enc]at rr;simp only[Kc]at bU;by_cases q2:af=v.z.fr
   ·by_cases q3:wW=v.z.to
    ·have:c1=true:=by rw[<-bU];simp[q1,q2,q3]
     simp[Ll,h1,np,q1,rr,q2,q3,this]
    ·have:c1=false:=by rw[<-bU];simp[q3]
     simp[Ll,h1,np,q1,rr,q2,q3,this]
   ·have:c1=false:=by rw[<-bU];simp[q2]
    simp[Ll,h1,np,q1,rr,q2,this]
  ·have:c1=false:=by rw[<-bU];simp;omega
   simp[Ll,h1,np,q1,this]
 refine aa.cond rfl (λg=>?_) (λg=>?_)
 ·have g:c1=true:=by simpa using g
  subst g;obtain⟨g1,g2⟩:=Zat bU;have w1:IntKind.i64.wrap ((j:Int)+1)=((j+1:Nat):Int):=by rw[aF (by omega)];omega
  apply aa.skip;simp;apply aa.block;apply aa.fK aC fw [1,4,5];simp[d80r4,w1];refine⟨j+1,jy (by omega) ?_,⟨by omega,by omega,λi a b=>?_⟩,by omega⟩
  ·simp
  ·by_cases e:i=j
   ·subst e;simpa using g2
   ·simpa using j3 i a (by omega)
 ·have g:c1=false:=by simpa using g
  subst g;have hn:=Zay bU;have hH:tW v.z=j:=hiI_eq (by omega) j2 (by rw[hlo];exact j3) λh hp=>hn ⟨h,hp⟩;rw[hH];apply aa.exit;simp;apply aa.ch aC fw [2,3];simp[d80r5];refine aa.le (kO (l:=[(2,.v (ti lo)),(3,.v (ti j))]) (ba:=N+6000) aT (by omega) (by simp) ?_) ?_
  ·simp
  apply aa.ret;simp[Z0];rfl
noncomputable def k80:bB->bq->fI
 |[.ptr p 0],f=>⟨(∃v:SV,v.at f p)/\mono (jm f p).z/\(jm f p).z.l.bE.length<=1000000000,.v (.eo [ti (jn (jm f p).z),ti (tW (jm f p).z)]),f⟩
 |_,f=>⟨False,.undef,f⟩
def k80_eq{v:SV}{p:Nat}(hv:v.at f p):k80 [.ptr p 0] f=⟨mono v.z/\v.z.l.bE.length<=1000000000,.v (.eo [ti (jn v.z),ti (tW v.z)]),f⟩:=by
 have hx:∃v:SV,v.at f p:=⟨v,hv⟩;simp only[k80,io hv,hx,true_and]
def k80_ok:∀args ab,(k80 args ab).ok->(∀N,(∀r,N<=r->ab r=none)->aR aj 119 args ab (k80 args ab))/\∀r,ab r=none->(k80 args ab).ab r=none:=by
 intro args ab h;unfold k80 at h⊢;split at h
 ·rename_i p;obtain⟨⟨v,hv⟩,hm,hl⟩:=h;rw[io hv]at hm hl⊢;exact⟨λN hN=>aR.of (t80 hN hv hm hl) rfl rfl,λr hr=>hr⟩
 ·exact h.elim
def ok80{l:List (Nat×DM.Spec)}(h:ay aj (bu l)):ay aj (bu ((119,eS k80)::l)):=ay.gS h k80_ok
end
section
variable{h:Int}
inductive jU(n:aD)(l:aV):Int->Nat->Nat->Nat->Int->c8->Prop
 |empty {s k:Nat} {r:di} (hk:n.au[k]? =some r) (h1:r.kind=1) (hv:(dU r.cq []).aH<1099511627776):jU n l r.head s s k s (dU r.cq [])
 |term {s t k a:Nat} {r:di} {x:cw} (hk:n.au[k]? =some r) (h1:r.kind=2) (ha:l.bE[a]? =some x) (h2:x.f=s) (h3:x.t=t) (h4:x.term=r.a)
   (hv:(dU (r.cq+x.aH) []).aH<1099511627776):jU n l r.head s t k a (dU (r.cq+x.aH) [])
 |unary {s t k k1:Nat} {g1:Int} {r:di} {v:c8} (hk:n.au[k]? =some r) (h1:r.kind=3) (d:jU n l r.a s t k1 g1 v) (hv:(dU r.cq [v]).aH<1099511627776):jU n l r.head s t k s (dU r.cq [v])
 |wV {s m t k k1 k2:Nat} {g1 g2:Int} {r:di} {v w:c8} (hk:n.au[k]? =some r) (h1:r.kind=4) (hs:s<=m) (ht:m<=t) (d1:jU n l r.a s m k1 g1 v) (d2:jU n l r.b m t k2 g2 w)
   (hv:(dU r.cq [v,w]).aH<1099511627776):jU n l r.head s t k m (dU r.cq [v,w])
def Der(n:aD)(l:aV)(h:Int)(s t:Nat)(v:c8):Prop:=∃k g,jU n l h s t k g v
def BN(k:Int)(g:Int)(k':Int)(g':Int):Prop:=k<k'\/(k=k'/\g<=g')
structure Good(n:aD)(l:aV)(h:Int)(s t:Nat)(x:Cell):Prop where
 UJ:∀v,Der n l h s t v->¬v.lt x.val
 top:x=lP\/((∃k:Nat,x.qE=k/\jU n l h s t k x.arg x.val)/\∀(k':Nat) g',jU n l h s t k' g' x.val->BN x.qE x.arg k' g')
def jU.bZ{n:aD}{l:aV}{s t k:Nat}{g:Int}{v:c8}(d:jU n l h s t k g v):v.aH<1099511627776:=by
 cases d<;>assumption
def Der.bZ{n:aD}{l:aV}{s t:Nat}{v:c8}(d:Der n l h s t v):v.aH<1099511627776:=by
 obtain⟨k,g,d⟩:=d;exact d.bZ
def c8.uL{a b:c8}(h1:¬a.lt b)(h2:¬b.lt a):a=b:=by
 obtain⟨a1,a2⟩:=a;obtain⟨b1,b2⟩:=b;simp only[c8.lt]at h1 h2;have:a1=b1:=by omega
 have:a2=b2:=by omega
 simp[*]
def Cell.ext'{a b:Cell}(h1:a.val=b.val)(h2:a.qE=b.qE)(h3:a.arg=b.arg):a=b:=by
 obtain⟨a1,a2,a3,a4⟩:=a;obtain⟨b1,b2,b3,b4⟩:=b;simp only[Cell.val,c8.mk.injEq]at h1 h2 h3;simp[h1,h2,h3]
def Good.val_eq{n:aD}{l:aV}{s t:Nat}{x y:Cell}(hx:Good n l h s t x)(hy:Good n l h s t y):x.val=y.val:=by
 have key:∀{x y:Cell},Good n l h s t x->Good n l h s t y->x=lP->x.val=y.val:=by
  intro x y hx hy e;subst e;rcases hy.top with rfl|⟨⟨k,_,d⟩,_⟩
  ·rfl
  ·exact Zar (show y.val.lt lP.val by left;exact d.bZ) (hx.UJ _ ⟨k,_,d⟩)
 rcases hx.top with e|⟨⟨k,_,d⟩,_⟩
 ·exact key hx hy e
 ·rcases hy.top with e|⟨⟨k',_,d'⟩,_⟩
  ·exact(key hy hx e).symm
  ·exact c8.uL (hy.UJ _ ⟨k,_,d⟩) (hx.UJ _ ⟨k',_,d'⟩)
def Good.unique{n:aD}{l:aV}{s t:Nat}{x y:Cell}(hx:Good n l h s t x)(hy:Good n l h s t y):x=y:=by
 have hv:=hx.val_eq hy;rcases hx.top with e|⟨⟨k,e1,d⟩,m⟩
 ·rcases hy.top with e'|⟨⟨k',_,d'⟩,_⟩
  ·rw[e,e']
  ·have:=d'.bZ;rw[<-hv,e]at this;exact Zar this (by decide)
 ·rcases hy.top with e'|⟨⟨k',e2,d'⟩,m'⟩
  ·have:=d.bZ;rw[hv,e']at this;exact Zar this (by decide)
  ·have a:=m k' y.arg (hv▸d');have b:=m' k x.arg (hv▸d);unfold BN at a b;refine Cell.ext' hv ?_ ?_<;>omega
def aax(c:Int)(v:c8):dU c [v]=if min (c+v.aH) 1099511627776>=1099511627776 then⟨1099511627776,0⟩else⟨min (c+v.aH) 1099511627776,min (1+v.size) 1099511627776⟩:=rfl
def aay(c:Int)(v w:c8):dU c [v,w]=if min (min (c+v.aH) 1099511627776+w.aH) 1099511627776>=1099511627776 then⟨1099511627776,0⟩else⟨min (min (c+v.aH) 1099511627776+w.aH) 1099511627776,min (min (1+v.size) 1099511627776+w.size) 1099511627776⟩:=rfl
def GZ{c:Int}{v:c8}(hc:0<=c)(h:(dU c [v]).aH<1099511627776):v.aH<1099511627776:=by
 rw[aax]at h;split at h
 ·simp at h
 ·simp only at h;omega
def G0{c:Int}{v w:c8}(hc:0<=c)(hv:0<=v.aH)(hw:0<=w.aH)(h:(dU c [v,w]).aH<1099511627776):v.aH<1099511627776/\w.aH<1099511627776:=by
 rw[aay]at h;split at h
 ·simp at h
 ·simp only at h;omega
def sJ{c:Int}{v v':c8}(h:¬v.lt v'):¬(dU c [v]).lt (dU c [v']):=by
 rw[aax,aax];unfold c8.lt at h⊢;split<;>split<;>simp only<;>omega
def sK{c:Int}{v v' w w':c8}(p1:0<=v.aH)(p2:0<=v'.aH)(p3:0<=w.aH)(p4:0<=w'.aH)(hv:¬v.lt v')(hw:¬w.lt w'):¬(dU c [v,w]).lt (dU c [v',w']):=by
 rw[aay,aay];unfold c8.lt at hv hw⊢;split<;>split<;>simp only<;>omega
def jH{a b c:c8}(h:¬b.lt a)(k:¬c.lt b):¬c.lt a:=by
 unfold c8.lt at*
 omega
def pk(n:aD)(l:aV)(c:d6)(own:eV)(s t:Nat)(k:Nat)(g:Int)(v:c8):Prop:=
 ∃r,n.au[k]? =some r/\((r.kind=1/\s=t/\g=s/\v=dU r.cq [])\/
  (r.kind=2/\∃(a:Nat) (x:cw),l.bE[a]? =some x/\x.f=s/\x.t=t/\x.term=r.a/\g=a/\v=dU (r.cq+x.aH) [])\/
  (r.kind=3/\g=s/\v=dU r.cq [eJ c own s t r.a s t])\/
  (r.kind=4/\∃d:Nat,s+d<=t/\g=s+d/\v=dU r.cq [eJ c own s t r.a s (s+d),eJ c own s t r.b (s+d) t]))
def lQ(x:Cell)(v:c8)(i g:Int):jV x v i g=x\/(v.aH<1099511627776/\¬x.val.lt v/\jV x v i g=⟨v.aH,v.size,i,g⟩):=by
 unfold jV;split
 ·exact .inl rfl
 ·rename_i h;split
  ·rename_i h2;refine .inr ⟨by omega, ?_,rfl⟩;rcases h2 with h2|⟨rfl,_⟩
   ·unfold c8.lt at*;omega
   ·unfold c8.lt;omega
  ·exact .inl rfl
def sL{x:Cell}{v:c8}{i g:Int}(h:jV x v i g=x)(hv:v.aH<1099511627776):¬v.lt x.val/\(v=x.val->BN x.qE x.arg i g):=by
 obtain⟨xc,xs,xr,xa⟩:=x;obtain⟨vc,vs⟩:=v;unfold jV at h;rw[Zab (by simp only at hv⊢;omega)]at h;split at h
 ·rename_i h2;simp only[Cell.mk.injEq]at h;obtain⟨rfl,rfl,rfl,rfl⟩:=h;simp only[Cell.val,c8.lt]at h2;exfalso;rcases h2 with h2|⟨_,h2⟩<;>omega
 ·rename_i h2;simp only[not_or,not_and]at h2;refine⟨h2.1,λe=>?_⟩;have:=h2.2 e;unfold BN;simp only at this⊢;omega
def za{n:aD}{l:aV}{c:d6}{own:eV}{s t k:Nat}{r:di}(hk:n.au[k]? =some r)(YW:r.kind=1\/r.kind=2\/r.kind=3\/r.kind=4)(la:s<=t)(x:Cell):
  rj r l c own s t k x=x\/∃g v,pk n l c own s t k g v/\v.aH<1099511627776/\¬x.val.lt v/\rj r l c own s t k x=⟨v.aH,v.size,k,g⟩:=by
 have L8:∀(f:Cell->Nat->Cell) (N:Nat),(∀y j,j<N->f y j=y\/∃g v,pk n l c own s t k g v/\v.aH<1099511627776/\¬y.val.lt v/\f y j=⟨v.aH,v.size,k,g⟩)->
   (List.range N).foldl f x=x\/∃g v,pk n l c own s t k g v/\v.aH<1099511627776/\¬x.val.lt v/\(List.range N).foldl f x=⟨v.aH,v.size,k,g⟩:=by
  intro f N;induction N with
  |zero=>intro _;exact .inl rfl
  |succ N ih=>
   intro h;rw[ZaR,ZaI];have ih:=ih λy j hj=>h y j (by omega);simp only[ZaN,Zca];obtain⟨y,hy⟩:=bb ((List.range N).foldl f x);rw[hy]at ih⊢;rcases h y N (by omega)with e|⟨g,v,h1,h2,h3,h4⟩
   ·rw[e];exact ih
   ·refine .inr ⟨g,v,h1,h2, ?_,h4⟩;rcases ih with rfl|⟨g',v',_,_,h3',rfl⟩
    ·exact h3
    ·have h3'':¬(⟨v'.aH,v'.size⟩:c8).lt v:=h3;exact jH h3'' h3'
 have one:∀(y:Cell) (v:c8) (g:Int),pk n l c own s t k g v->jV y v k g=y\/∃g v,pk n l c own s t k g v/\v.aH<1099511627776/\¬y.val.lt v/\jV y v k g=⟨v.aH,v.size,k,g⟩:=by
  intro y v g hi;rcases lQ y v k g with e|⟨h1,h2,h3⟩
  ·exact .inl e
  ·exact .inr ⟨g,v,hi,h1,h2,h3⟩
 unfold rj;split
 ·rename_i h1;split
  ·rename_i h2;rcases lQ x (dU r.cq []) k s with e|⟨h3,h4,h5⟩
   ·exact .inl e
   ·exact .inr ⟨_,_,⟨r,hk,.inl ⟨h1,by omega,rfl,rfl⟩⟩,h3,h4,h5⟩
  ·exact .inl rfl
 ·split
  ·rename_i h1;refine L8 _ _ λy j hj=>?_;unfold stepT;split
   ·rename_i h2;have ha:l.bE[j]? =some (l.bE.getD j default):=by simp[List.getD,hj]
    rcases lQ y (dU (r.cq+(l.bE.getD j default).aH) []) k j with e|⟨h3,h4,h5⟩
    ·exact .inl e
    ·exact .inr ⟨_,_,⟨r,hk,.inr (.inl ⟨h1,j,_,ha,h2.1,h2.2.1,h2.2.2,rfl,rfl⟩)⟩,h3,h4,h5⟩
   ·exact .inl rfl
  ·split
   ·rename_i h1;rcases lQ x (dU r.cq [eJ c own s t r.a s t]) k s with e|⟨h3,h4,h5⟩
    ·exact .inl e
    ·exact .inr ⟨_,_,⟨r,hk,.inr (.inr (.inl ⟨h1,rfl,rfl⟩))⟩,h3,h4,h5⟩
   ·rename_i h1 h2 h3;have h4:r.kind=4:=by omega
    refine L8 _ _ λy j hj=>?_;unfold L9;rcases lQ y (dU r.cq [eJ c own s t r.a s (s+j),eJ c own s t r.b (s+j) t]) k (s+j)with e|⟨h5,h6,h7⟩
    ·exact .inl e
    ·exact .inr ⟨_,_,⟨r,hk,.inr (.inr (.inr ⟨h4,j,by omega,rfl,rfl⟩))⟩,h5,h6,h7⟩
def Fb{f:Cell->Nat->Cell}:∀{N:Nat},(∀x k,k<N->mH x->goes x (f x k))->∀x,mH x->(List.range N).foldl f x=x->∀k,k<N->f x k=x
 |0,_,_,_,_,k,h=>by omega
 |N+1,hf,x,hx,he,k,hk=>by
  rw[ZaR,ZaI]at he;simp only[ZaN,Zca]at he;have h1:=AC (λx k hk=>hf x k (by omega)) x hx (N:=N);obtain⟨z,hz⟩:=bb ((List.range N).foldl f x);rw[hz]at h1 he;have h2:=hf z N (by omega) h1.1;rw[he]at h2;have e:z=x:=by
   rcases h1.2 with e|h1
   ·exact e
   ·rcases h2.2 with e|h2
    ·exact e.symm
    ·omega
  subst e;by_cases hkN:k=N
  ·subst hkN;exact he
  ·exact Fb (λx k hk=>hf x k (by omega)) z hx hz k (by omega)
end
section
variable{r:di}{own:eV}{h:Int}{s' t':Nat}
def fB{n:aD}(hn:AD n){k:Nat}(h:n.au[k]? =some r):Fc n r/\k<n.au.length/\n.au.getD k default=r:=by
 have hk:=(Zaw.1 h).1;exact⟨hn.2.2.2 r (Zax h),hk,by simp[List.getD,h]⟩
def G1{n:aD}(h:Fc n r):r.kind=1\/r.kind=2\/r.kind=3\/r.kind=4:=by
 obtain⟨_,_,_,_,h⟩:=h;omega
section
variable{n:aD}{l:aV}{c:d6}{s t:Nat}
structure nl(n:aD)(l:aV)(c:d6)(s t:Nat):Prop where
 hn:AD n
 hl:F7 l
 hc:NI c
 ar:∀a∈l.bE,a.f<=a.t
 st:s<=t
 tm:t<=1000
 Xl:∀(h:Int) (s' t':Nat),0<=h->h<n.an->s<=s'->s'<=t'->t'<=t->(s'≠s\/t'≠t)->Good n l h s' t' (NJ c h s' t')
def PS(n:aD)(l:aV)(c:d6)(s t:Nat)(own:eV):Prop:=
 ∀h:Nat,h<own.length->own.getD h default=lP\/(Der n l h s t (own.getD h default).val/\
  ∃(k:Nat) (g:Int) (v:c8),pk n l c own s t k g v/\(∃r,n.au[k]? =some r/\r.head=h)/\(own.getD h default).qE=k/\(own.getD h default).arg=g/\¬(own.getD h default).val.lt v)
def iv(C:nl n l c s t)(ho:nM n own)(h0:0<=h)(h1:h<n.an)(f t':Int):jj (eJ c own s t h f t'):=
 G2 ⟨C.hc,by have:=ho.1;have:=C.hn.2.1;omega,λ_=>⟨h0,by have:=ho.1;omega⟩⟩ ho.ok.2
def AE(C:nl n l c s t)(ho:nM n own)(hp:PS n l c s t own)(h0:0<=h)(h1:h<n.an)(a1:s<=s')(a2:s'<=t')(a3:t'<=t)
  (hf:(eJ c own s t h s' t').aH<1099511627776):Der n l h s' t' (eJ c own s t h s' t'):=by
 obtain⟨h,rfl⟩:=Zae h0;unfold eJ at hf⊢;split
 ·rename_i e;rw[Zai e]at hf;have e1:s'=s:=by omega
  have e2:t'=t:=by omega
  subst e1 e2;simp only[Zag]at hf⊢;rcases hp h (by have:=ho.1;omega)with e|⟨d,_⟩
  ·rw[e]at hf;exact Zar hf (by decide)
  ·exact d
 ·rename_i e;rw[Zab e]at hf;rcases(C.Xl h s' t' h0 h1 a1 a2 a3 (by omega)).top with e|⟨⟨k,_,d⟩,_⟩
  ·rw[e]at hf;exact Zar hf (by decide)
  ·exact⟨k,_,d⟩
def Ma(C:nl n l c s t)(ho:nM n own)(hp:PS n l c s t own){k:Nat}{g:Int}{v:c8}(hk:n.au[k]? =some r)(h:pk n l c own s t k g v)(hf:v.aH<1099511627776):jU n l r.head s t k g v:=by
 obtain⟨r',tU,h⟩:=h;rw[hk]at tU;cases tU;obtain⟨q1,q2,q3,q4,q5⟩:=(fB C.hn hk).1;rcases h with⟨h1,rfl,rfl,rfl⟩|⟨h1,a,x,ha,h2,h3,h4,rfl,rfl⟩|⟨h1,rfl,rfl⟩|⟨h1,d,hd,rfl,rfl⟩
 ·exact jU.empty hk h1 hf
 ·exact jU.term hk h1 ha h2 h3 h4 hf
 ·obtain⟨k1,g1,d1⟩:=AE C ho hp (h:=r.a) (by omega) (by omega) (Zaf s) C.st (Zaf t) (GZ q3 hf);exact jU.unary hk h1 d1 hf
 ·have o1:=iv C ho (h:=r.a) (by omega) (by omega) s (s+d);have o2:=iv C ho (h:=r.b) (by omega) (by omega) (s+d) t;have hff:=G0 q3 o1.1 o2.1 hf;have e:((s:Int)+d)=((s+d:Nat):Int):=by omega
  rw[e]at hf hff⊢;obtain⟨k1,g1,d1⟩:=AE C ho hp (h:=r.a) (by omega) (by omega) (Zaf s) (by omega) hd hff.1;obtain⟨k2,g2,d2⟩:=AE C ho hp (h:=r.b) (by omega) (by omega) (by omega) hd (Zaf t) hff.2;exact jU.wV hk h1 (by omega) hd d1 d2 hf
def G3(C:nl n l c s t){own':eV}(ho:nM n own)(iA:nM n own')(hm:∀(h f t':Int),0<=h->h<n.an->¬(eJ c own s t h f t').lt (eJ c own' s t h f t')){k:Nat}{g:Int}{v:c8}(h:pk n l c own s t k g v):
  ∃v',pk n l c own' s t k g v'/\¬v.lt v':=by
 obtain⟨r,hk,h⟩:=h;obtain⟨q1,q2,q3,q4,q5⟩:=(fB C.hn hk).1;rcases h with⟨h1,rfl,rfl,rfl⟩|⟨h1,a,x,ha,h2,h3,h4,rfl,rfl⟩|⟨h1,rfl,rfl⟩|⟨h1,d,hd,rfl,rfl⟩
 ·exact⟨_,⟨r,hk,.inl ⟨h1,rfl,rfl,rfl⟩⟩,by unfold c8.lt;omega⟩
 ·exact⟨_,⟨r,hk,.inr (.inl ⟨h1,a,x,ha,h2,h3,h4,rfl,rfl⟩)⟩,by unfold c8.lt;omega⟩
 ·exact⟨_,⟨r,hk,.inr (.inr (.inl ⟨h1,rfl,rfl⟩))⟩,sJ (hm _ _ _ (by omega) (by omega))⟩
 ·refine⟨_,⟨r,hk,.inr (.inr (.inr ⟨h1,d,hd,rfl,rfl⟩))⟩,sK ?_ ?_ ?_ ?_ (hm _ _ _ (by omega) (by omega)) (hm _ _ _ (by omega) (by omega))⟩
  ·exact(iv C ho (by omega) (by omega) _ _).1
  ·exact(iv C iA (by omega) (by omega) _ _).1
  ·exact(iv C ho (by omega) (by omega) _ _).1
  ·exact(iv C iA (by omega) (by omega) _ _).1
def Mb{i h:Nat}{y:Cell}(hi:i<own.length):(own.set i y).getD h default=if h=i then y else own.getD h default:=by
 simp only[List.getD,ZbC];by_cases e:i=h
 ·subst e;simp[hi]
 ·have e':¬h=i:=λx=>e x.symm;simp[e,e']
def UK(C:nl n l c s t){k:Nat}(ho:nM n own)(hk:k<n.au.length)(hp:PS n l c s t own):PS n l c s t (wk n l c s t own k):=by
 have iA:=(Mc C.hn C.hl C.hc ho hk C.st C.tm).1;have hr:n.au[k]? =some (n.au.getD k default):=by simp[List.getD,hk]
 obtain⟨r,er⟩:=bb (n.au.getD k default);unfold wk at iA⊢;unfold kA at iA⊢;rw[er]at hr iA⊢;have I2:=(fB C.hn hr).1;obtain⟨hd,ehd⟩:=Zae I2.1;have fl:hd<own.length:=by have:=ho.1;have:=I2.2.1;omega
 rw[ehd]at iA⊢;simp only[Zag]at iA⊢;obtain⟨x,hx⟩:=bb (own.getD hd default);rw[hx]at iA⊢;rcases za (c:=c) (own:=own) hr (G1 I2) C.st x with e|⟨g,v,hi,hf,jy,e⟩
 ·rw[e,<-hx,Md rfl];exact hp
 ·rw[e]at iA⊢;have hm:∀(h f t':Int),0<=h->h<n.an->¬(eJ c own s t h f t').lt (eJ c (own.set hd ⟨v.aH,v.size,k,g⟩) s t h f t'):=by
   intro h f t' h0 h1;unfold eJ;split
   ·rw[Mb fl];split
    ·rename_i e2;rw[e2,hx];exact jy
    ·unfold c8.lt;omega
   ·unfold c8.lt;omega
  have hder:=Ma C ho hp hr hi hf;intro h hh;rw[Mb fl];split
  ·rename_i e2;subst e2;obtain⟨v',pW,V2⟩:=G3 C ho iA hm hi;exact .inr ⟨⟨k,g,by rw[<-ehd];exact hder⟩,k,g,v',pW,⟨r,hr,ehd⟩,rfl,rfl,V2⟩
  ·rcases hp h (by simpa using hh)with e3|⟨d,k1,g1,v1,hi1,sg,h2,h3,h4⟩
   ·exact .inl e3
   ·obtain⟨v',pW,V2⟩:=G3 C ho iA hm hi1;exact .inr ⟨d,k1,g1,v',pW,sg,h2,h3,jH V2 h4⟩
def UL(C:nl n l c s t):PS n l c s t (Me n):=by
 intro h hh;left;have hh:h<n.an.toNat:=by simpa [Me]using hh
 simp[Me,List.getD,hh]
def Fd(C:nl n l c s t)(ho:nM n own)(B5:Pb n l c s t own){k:Nat}{g:Int}{v:c8}(hk:n.au[k]? =some r)(h:pk n l c own s t k g v)(hf:v.aH<1099511627776):
  ¬v.lt (own.getD r.head.toNat default).val/\(v=(own.getD r.head.toNat default).val->BN (own.getD r.head.toNat default).qE (own.getD r.head.toNat default).arg k g):=by
 obtain⟨r',tU,h⟩:=h;rw[hk]at tU;cases tU;obtain⟨I2,J5,hkd⟩:=fB C.hn hk;have J2:=B5 k J5;unfold kA at J2;rw[hkd]at J2;obtain⟨q1,q2,q3,q4,q5⟩:=I2;have X5:mH (own.getD r.head.toNat default):=ho.2 _ (bm (by have:=ho.1;omega));obtain⟨x,hx⟩:=bb (own.getD r.head.toNat default);rw[hx]at J2 X5⊢;have hk6:=C.hn.2.2.1;have Xj:=C.hl.2.2.1;have la:=C.st;have ik:=C.tm;unfold rj at J2;rcases h with⟨h1,rfl,rfl,rfl⟩|⟨h1,a,y,ha,h2,h3,h4,rfl,rfl⟩|⟨h1,rfl,rfl⟩|⟨h1,d,hd,rfl,rfl⟩
 ·rw[Zai h1,Zai rfl]at J2;exact sL J2 hf
 ·rw[Zab (by omega),Zai h1]at J2;have P1:=(Zaw.1 ha).1;have had:l.bE.getD a default=y:=by simp[List.getD,ha]
  have:=Fb (λx k hk hx=>by
   unfold stepT;split
   ·have:=C.hl.2.2.2 (l.bE.getD k default) (bm hk);exact kY hx (ju Uc (by omega) (by omega)) (by omega) (by omega) (by omega) (by omega)
   ·exact vC hx) x X5 J2 a P1
  unfold stepT at this;rw[had,Zai ⟨h2,h3,h4⟩]at this;exact sL this hf
 ·rw[Zab (by omega),Zab (by omega),Zai h1]at J2;exact sL J2 hf
 ·rw[Zab (by omega),Zab (by omega),Zab (by omega)]at J2;have:=Fb (λx k hk hx=>by
   unfold L9;refine kY hx (ju (λv hv=>?_) q3 (by omega)) (by omega) (by omega) (by omega) (by omega);simp only[Zah,Zal,or_false]at hv;rcases hv with rfl|rfl<;>exact iv C ho (by omega) (by omega) _ _) x X5 J2 d (by omega)
  unfold L9 at this;exact sL this hf
def jU.le(ha:∀a∈l.bE,a.f<=a.t){k:Nat}{g:Int}{v:c8}(d:jU n l h s' t' k g v):s'<=t':=by
 induction d with
 |empty _ _ _=>exact Zaf _
 |term _ _ hx h2 h3 _ _=>have:=ha _ (Zax hx);omega
 |unary _ _ _ _ ih=>exact ih
 |wV _ _ _ _ _ _ _ ih1 ih2=>omega
def jU.pos(hn:AD n)(hl:F7 l){k:Nat}{g:Int}{v:c8}(d:jU n l h s' t' k g v):jj v:=by
 induction d with
 |empty hk _ _=>exact ju Uc (fB hn hk).1.2.2.1 (by have:=(fB hn hk).1.2.2.2.1;omega)
 |term hk _ hx _ _ _ _=>exact ju Uc (by have:=(fB hn hk).1.2.2.1;have:=hl.2.2.2 _ (Zax hx);omega) (by have:=(fB hn hk).1.2.2.2.1;have:=hl.2.2.2 _ (Zax hx);omega)
 |unary hk _ _ _ ih=>exact ju (λv hv=>by simp only[Zan]at hv;subst hv;exact ih) (fB hn hk).1.2.2.1 (by have:=(fB hn hk).1.2.2.2.1;omega)
 |wV hk _ _ _ _ _ _ ih1 ih2=>exact ju (λv hv=>by simp only[Zah,Zal,or_false]at hv;rcases hv with rfl|rfl<;>assumption) (fB hn hk).1.2.2.1 (by have:=(fB hn hk).1.2.2.2.1;omega)
def Mf(C:nl n l c s t)(ho:nM n own)(B5:Pb n l c s t own){k:Nat}{g:Int}{v:c8}(d:jU n l h s' t' k g v):
  s<=s'->t'<=t->¬v.lt (eJ c own s t h s' t'):=by
 have out:∀{h:Int} {s' t':Nat} {v:c8},0<=h->h<n.an->s<=s'->s'<=t'->t'<=t->(s'≠s\/t'≠t)->Der n l h s' t' v->¬v.lt (eJ c own s t h s' t'):=by
  intro h s' t' v h0 h1 a1 a2 a3 bT d;unfold eJ;rw[Zab (by omega)];exact(C.Xl h s' t' h0 h1 a1 a2 a3 bT).UJ v d
 have onn:∀{r:di} {k:Nat} {g:Int} {v v':c8},n.au[k]? =some r->pk n l c own s t k g v'->¬v.lt v'->v.aH<1099511627776->¬v.lt (eJ c own s t r.head s t):=by
  intro r k g v v' hk hi jy hf;unfold eJ;rw[Zai ⟨rfl,rfl⟩];have mN:v'.aH<1099511627776:=by unfold c8.lt at jy;omega
  exact jH (Fd C ho B5 hk hi mN).1 jy
 induction d with
 | @empty s0 k r hk h1 hv=>
  intro a1 a2;obtain⟨q1,q2,q3,q4,q5⟩:=(fB C.hn hk).1;by_cases e:s0=s/\s0=t
  ·obtain⟨rfl,rfl⟩:=e;exact onn hk ⟨r,hk,.inl ⟨h1,rfl,rfl,rfl⟩⟩ (by unfold c8.lt;omega) hv
  ·exact out q1 q2 a1 (Zaf _) a2 (by omega) ⟨k,_,jU.empty hk h1 hv⟩
 | @term s0 t0 k a r x hk h1 ha h2 h3 h4 hv=>
  intro a1 a2;obtain⟨q1,q2,q3,q4,q5⟩:=(fB C.hn hk).1;by_cases e:s0=s/\t0=t
  ·obtain⟨rfl,rfl⟩:=e;exact onn hk ⟨r,hk,.inr (.inl ⟨h1,a,x,ha,h2,h3,h4,rfl,rfl⟩)⟩ (by unfold c8.lt;omega) hv
  ·exact out q1 q2 a1 (by have:=C.ar x (Zax ha);omega) a2 (by omega) ⟨k,_,jU.term hk h1 ha h2 h3 h4 hv⟩
 | @unary s0 t0 k k1 g1 r v hk h1 d hv ih=>
  intro a1 a2;obtain⟨q1,q2,q3,q4,q5⟩:=(fB C.hn hk).1;by_cases e:s0=s/\t0=t
  ·obtain⟨rfl,rfl⟩:=e;exact onn hk ⟨r,hk,.inr (.inr (.inl ⟨h1,rfl,rfl⟩))⟩ (sJ (ih (Zaf _) (Zaf _))) hv
  ·exact out q1 q2 a1 (d.le C.ar) a2 (by omega) ⟨k,_,jU.unary hk h1 d hv⟩
 | @wV s0 m t0 k k1 k2 g1 g2 r v w hk h1 hs ht d1 d2 hv ih1 ih2=>
  intro a1 a2;obtain⟨q1,q2,q3,q4,q5⟩:=(fB C.hn hk).1;by_cases e:s0=s/\t0=t
  ·obtain⟨rfl,rfl⟩:=e;have em:(m:Int)=(s0:Int)+((m-s0:Nat):Int):=by omega
   refine onn hk ⟨r,hk,.inr (.inr (.inr ⟨h1,m-s0,by omega,rfl,rfl⟩))⟩ (sK ?_ ?_ ?_ ?_ ?_ ?_) hv
   ·exact(d1.pos C.hn C.hl).1
   ·exact(iv C ho (by omega) (by omega) _ _).1
   ·exact(d2.pos C.hn C.hl).1
   ·exact(iv C ho (by omega) (by omega) _ _).1
   ·rw[<-em];exact ih1 (Zaf _) ht
   ·rw[<-em];exact ih2 hs (Zaf _)
  ·exact out q1 q2 a1 (by omega) a2 (by omega) ⟨k,_,jU.wV hk h1 hs ht d1 d2 hv⟩
def Hz(C:nl n l c s t)(ho:nM n own)(B5:Pb n l c s t own){k:Nat}{g:Int}{v:c8}(d:jU n l h s t k g v):
  ∃r v',n.au[k]? =some r/\r.head=h/\pk n l c own s t k g v'/\¬v.lt v':=by
 have jy:=λ{h:Int} {s' t' k:Nat} {g:Int} {v:c8} (d:jU n l h s' t' k g v)=>Mf C ho B5 d;cases d with
 | @empty s0 k r hk h1 hv=>exact⟨r,_,hk,rfl,⟨r,hk,.inl ⟨h1,rfl,rfl,rfl⟩⟩,by unfold c8.lt;omega⟩
 | @term s0 t0 k a r x hk h1 ha h2 h3 h4 hv=>exact⟨r,_,hk,rfl,⟨r,hk,.inr (.inl ⟨h1,a,x,ha,h2,h3,h4,rfl,rfl⟩)⟩,by unfold c8.lt;omega⟩
 | @unary s0 t0 k k1 g1 r v hk h1 d hv=>
  exact⟨r,_,hk,rfl,⟨r,hk,.inr (.inr (.inl ⟨h1,rfl,rfl⟩))⟩,sJ (jy d (Zaf _) (Zaf _))⟩
 | @wV s0 m t0 k k1 k2 g1 g2 r v w hk h1 hs ht d1 d2 hv=>
  obtain⟨q1,q2,q3,q4,q5⟩:=(fB C.hn hk).1;have em:(m:Int)=(s:Int)+((m-s:Nat):Int):=by omega
  refine⟨r,_,hk,rfl,⟨r,hk,.inr (.inr (.inr ⟨h1,m-s,by omega,em,rfl⟩))⟩,sK ?_ ?_ ?_ ?_ ?_ ?_⟩
  ·exact(d1.pos C.hn C.hl).1
  ·exact(iv C ho (by omega) (by omega) _ _).1
  ·exact(d2.pos C.hn C.hl).1
  ·exact(iv C ho (by omega) (by omega) _ _).1
  ·rw[<-em];exact jy d1 (Zaf _) ht
  ·rw[<-em];exact jy d2 hs (Zaf _)
def Mg(C:nl n l c s t)(ho:nM n own)(hp:PS n l c s t own)(B5:Pb n l c s t own)(h:Nat)(hh:(h:Int)<n.an):Good n l h s t (own.getD h default):=by
 have hl:h<own.length:=by have:=ho.1;omega
 have c7:eJ c own s t h s t=(own.getD h default).val:=by unfold eJ;rw[Zai ⟨rfl,rfl⟩];rfl
 refine⟨λv ⟨k,g,d⟩=>?_, ?_⟩
 ·rw[<-c7];exact Mf C ho B5 d (Zaf _) (Zaf _)
 ·rcases hp h hl with e|⟨hd,k,g,v,hi,⟨r,hk,hr⟩,h2,h3,jy⟩
  ·exact .inl e
  ·right;have hf:=hd.bZ;have hvf:v.aH<1099511627776:=by unfold c8.lt at jy;omega
   have hx:=Fd C ho B5 hk hi hvf;rw[hr]at hx;simp only[Zag]at hx;have he:v=(own.getD h default).val:=c8.uL hx.1 jy;refine⟨⟨k,h2, ?_⟩,λk' g' d=>?_⟩
   ·have:=Ma C ho hp hk hi hvf;rw[hr,he]at this;rw[h3];exact this
   ·obtain⟨r',v',tU,gD,pW,V2⟩:=Hz C ho B5 d;have hvf':v'.aH<1099511627776:=by unfold c8.lt at V2;omega
    have mh:=Fd C ho B5 tU pW hvf';rw[gD]at mh;simp only[Zag]at mh;exact mh.2 (c8.uL mh.1 V2)
def G4(C:nl n l c s t)(h:Nat)(hh:(h:Int)<n.an):Good n l h s t ((mm n l c s t).getD h default):=by
 obtain⟨h1,h2,h3⟩:=zc C.hn C.hl C.hc C.st C.tm (PS n l c s t) (UL C) (λown k ho hk hp=>UK C ho hk hp);exact Mg C h1 h2 h3 h hh
end
end
section
variable{z:eY}{r:di}{ak:bR}
abbrev gf:=Int×Int×List It
def tT(z:eY)(r:di)(i:Nat):Option gf:=if(z.l.bE.getD i default).term=r.a then some ((i:Int),r.cq+(z.l.bE.getD i default).aH,[])else none
def pE(z:eY)(r:di)(m:Int):gf:=(m,r.cq,[(r.a,z.fr,m),(r.b,m,z.to)])
def cD(z:eY)(r:di):List gf:=
 if r.kind=1 then(if z.fr=z.to then [(z.fr,r.cq,[])]else [])
 else if r.kind=2 then(List.range' (jn z) (tW z-jn z)).filterMap (tT z r)
 else if r.kind=3 then [(z.fr,r.cq,[(r.a,z.fr,z.to)])]
 else if r.kind=4 then(List.range ((z.to-z.fr).toNat+1)).map λ(d:Nat)=>pE z r (z.fr+(d:Int))
 else []
def eD(z:eY)(r:di):List gf:=if r.kind=4 then [pE z r z.fr,pE z r z.to]else cD z r
def qI(z:eY)(bZ:List Bool)(i:gf):Prop:=∀x∈i.2.2,me z x->bZ.getD x.1.toNat false=true
abbrev qJ(z:eY)(ak:bR)(i:gf):c8:=j8 z ak i.2.1 i.2.2
def wu(z:eY):jn z<=tW z/\tW z<=z.l.bE.length:=by
 have:=loI_le z;unfold tW;have h:(z.l.bE.drop (jn z)).findIdx (λa=> !decide (Kc z a))<=(z.l.bE.drop (jn z)).length:=List.findIdx_le_length;rw[Zbo]at h;omega
def Ni{i:Nat}(h1:jn z<=i)(h2:i<tW z):Kc z (z.l.bE.getD i default):=by
 have hh:=(wu z).2;have h3:i-jn z<(z.l.bE.drop (jn z)).findIdx (λa=> !decide (Kc z a)):=by unfold tW at h2;omega
 have:=List.not_of_lt_findIdx h3;rw[Zcm]at this;have hl:i<z.l.bE.length:=by omega
 simpa [List.getD,hl,show jn z+(i-jn z)=i by omega]using this
def at_range(hm:mono z)(hs:∀i j:Nat,i<=j->j<z.l.bE.length->jn z<=i->Kc z (z.l.bE.getD j default)->Kc z (z.l.bE.getD i default)){i:Nat}(hi:i<z.l.bE.length)(h:Kc z (z.l.bE.getD i default)):jn z<=i/\i<tW z:=by
 have hp:lV z (z.l.bE.getD i default):=.inr ⟨h.1,by have:=h.2;omega⟩;have h1:jn z<=i:=by
  rcases Zc5 i (jn z)with ln|xL
  ·have:=List.not_of_lt_findIdx ln;have e:z.l.bE.getD i default=z.l.bE[i]:=by simp[List.getD,hi]
   rw[e]at hp;exact Zar hp (by simpa using this)
  ·exact xL
 refine⟨h1, ?_⟩;rcases Zc5 i (tW z)with ln|xL
 ·exact ln
 ·exfalso;have hh:=(wu z).2;have hl:tW z<z.l.bE.length:=by omega
  have h2:(z.l.bE.drop (jn z)).findIdx (λa=> !decide (Kc z a))<(z.l.bE.drop (jn z)).length:=by
   rw[Zbo];unfold tW at hl;omega
  have h3:=List.findIdx_getElem (w:=h2);rw[Zcm]at h3;have h4:=hs (tW z) i xL hi (wu z).1 h;simp only[Zbf,Zaz]at h3;apply h3;have e:z.l.bE.getD (tW z) default=z.l.bE[tW z]:=by simp[List.getD,hl]
  rw[e]at h4;exact h4
def A4(vR:z.fr<=z.to){i:gf}(h:i∈eD z r):i∈cD z r:=by
 unfold eD at h;split at h
 ·rename_i hk;unfold cD;rw[Zab (by omega),Zab (by omega),Zab (by omega),Zai hk,Zak];simp only[Zah,Zal,or_false]at h;rcases h with rfl|rfl
  ·exact⟨0,by simp,by simp⟩
  ·exact⟨(z.to-z.fr).toNat,by simp,by rw[show z.fr+((z.to-z.fr).toNat:Int)=z.to by omega]⟩
 ·exact h
def in_bound{i:gf}(h:i∈cD z r){x:It}(hx:x∈i.2.2)(hi:me z x):i∈eD z r/\jv r x.1:=by
 unfold cD at h;split at h
 ·split at h
  ·simp only[Zah,Zal,or_false]at h;subst h;cases hx
  ·cases h
 ·split at h
  ·obtain⟨k,_,hk⟩:=ZbA.1 h;unfold tT at hk;split at hk
   ·cases hk;cases hx
   ·cases hk
  ·split at h
   ·rename_i h1 h2 h3;simp only[Zah,Zal,or_false]at h;subst h;simp only[Zah,Zal,or_false]at hx;subst hx;refine⟨?_,.inl ⟨h3,rfl⟩⟩;unfold eD cD;rw[Zab (by omega),Zab h1,Zab h2,Zai h3];simp
   ·split at h
    ·rename_i h4;obtain⟨d,_,rfl⟩:=Zak.1 h;unfold eD;rw[Zai h4];simp only[pE,Zah,Zal,or_false]at hx;unfold me at hi;rcases hx with rfl|rfl
     ·refine⟨?_,.inr ⟨h4,.inl rfl⟩⟩;simp only at hi;rw[hi.2];simp
     ·refine⟨?_,.inr ⟨h4,.inr rfl⟩⟩;simp only at hi;rw[hi.1];simp
    ·cases h
def AS{a b:bR}{i:gf}(h:∀x∈i.2.2,me z x->bv a x.1=bv b x.1):qJ z a i=qJ z b i:=by
 show dU _ _=dU _ _
 congr 1
 refine Zbq λx hx=>?_;unfold jY;split
 ·rename_i e;exact h x hx e
 ·rfl
def US{p:Int}(hp:0<=p){l:bR}(hl:∀v∈l,jj v){w:c8}(hw:w∈l)(hw2:w.aH<1099511627776\/w.size=0):¬(dU p l).lt w:=by
 have key:∀(l:bR),(∀v∈l,jj v)->∀(c s:Int),0<=c->0<=s->(∀w∈l,¬(fW c s l).lt w)/\(fW c s l).aH>=min c 1099511627776/\(fW c s l).size>=min s 1099511627776:=by
  intro l;induction l with
  |nil=>intro _ c s _ _;exact⟨λw hw=>(by cases hw),(by simp only[fW];omega),(by simp only[fW];omega)⟩
  |cons v l ih=>
   intro hl c s hc hs;obtain⟨v1,v2,v3,v4⟩:=hl v (by simp);obtain⟨i1,i2,i3⟩:=ih (λv hv=>hl v (by simp[hv])) (min (c+v.aH) 1099511627776) (min (s+v.size) 1099511627776) (by omega) (by omega);simp only[fW];refine⟨λw hw=>?_,by omega,by omega⟩;rcases Zah.1 hw with rfl|hw
   ·unfold c8.lt;omega
   ·exact i1 w hw
 have:=(key l hl p 1 hp (by omega)).1 w hw;unfold dU;split
 ·rename_i h;obtain⟨v1,v2,v3,v4⟩:=hl w hw;unfold c8.lt at this⊢;simp only at this⊢;omega
 ·exact this
structure Kx(z:eY):Prop where
 hn:AD z.n
 hl:F7 z.l
 hc:NI z.c
 ft:0<=z.fr/\z.fr<=z.to
def A5(K:Kx z)(hr:r∈z.n.au){i:gf}(hi:i∈cD z r):0<=i.2.1/\i.2.1<=4000000000000:=by
 obtain⟨q1,q2,q3,q4,q5⟩:=K.hn.2.2.2 r hr;unfold cD at hi;split at hi
 ·split at hi
  ·simp only[Zah,Zal,or_false]at hi;subst hi;simp only;omega
  ·cases hi
 ·split at hi
  ·obtain⟨k,Cd,hk⟩:=ZbA.1 hi;have:=(wu z).2;have:=(wu z).1;simp only[Zb6]at Cd;have J5:k<z.l.bE.length:=by omega
   unfold tT at hk;split at hk
   ·cases hk;have:=K.hl.2.2.2 _ (bm J5);simp only;omega
   ·cases hk
  ·split at hi
   ·simp only[Zah,Zal,or_false]at hi;subst hi;simp only;omega
   ·split at hi
    ·obtain⟨d,_,rfl⟩:=Zak.1 hi;simp only[pE];omega
    ·cases hi
def pF(K:Kx z)(hr:r∈z.n.au){i:gf}(hi:i∈cD z r){x:It}(hx:x∈i.2.2):0<=x.1/\x.1<z.n.an:=by
 obtain⟨q1,q2,q3,q4,q5⟩:=K.hn.2.2.2 r hr;unfold cD at hi;split at hi
 ·split at hi
  ·simp only[Zah,Zal,or_false]at hi;subst hi;cases hx
  ·cases hi
 ·split at hi
  ·obtain⟨k,Cd,hk⟩:=ZbA.1 hi;unfold tT at hk;split at hk
   ·cases hk;cases hx
   ·cases hk
  ·split at hi
   ·simp only[Zah,Zal,or_false]at hi;subst hi;simp only[Zah,Zal,or_false]at hx;subst hx;simp only;omega
   ·split at hi
    ·obtain⟨d,_,rfl⟩:=Zak.1 hi;simp only[pE,Zah,Zal,or_false]at hx;rcases hx with rfl|rfl<;>simp only<;>omega
    ·cases hi
def Nj(K:Kx z)(hb:∀v∈ak,jj v)(i:gf):∀v∈i.2.2.map (λx=>jY z ak x.1 x.2.1 x.2.2),jj v:=by
 intro v hv;obtain⟨x,_,rfl⟩:=Zak.1 hv;exact JU K.hc hb _ _ _
def JW(K:Kx z)(hb:∀v∈ak,jj v)(hr:r∈z.n.au){i:gf}(hi:i∈cD z r):jj (qJ z ak i):=by
 have:=A5 K hr hi;exact ju (Nj K hb i) this.1 this.2
def cmb_ge(K:Kx z)(hb:∀v∈ak,jj v)(hr:r∈z.n.au){i:gf}(hi:i∈cD z r){x:It}(hx:x∈i.2.2)(ic:me z x)(qr:(bv ak x.1).aH<1099511627776\/(bv ak x.1).size=0):¬(qJ z ak i).lt (bv ak x.1):=by
 refine US (A5 K hr hi).1 (Nj K hb i) (Zak.2 ⟨x,hx, ?_⟩) qr;unfold jY;exact Zai ic
end
section
variable{h:Int}{r:di}
def lW(st:kl)(x:Int):Bool:=st.bZ.getD x.toNat false
structure KN(z:eY)(st:kl):Prop where
 wf:WF z.n.an.toNat st
 ord:∀x y:Int,0<=x->x<z.n.an->0<=y->y<z.n.an->lW st x=true->lW st y=false->¬(bv st.ak y).lt (bv st.ak x)
 att:∀x:Int,0<=x->x<z.n.an->(bv st.ak x).aH<1099511627776->∃(k:Nat) (r:di),z.n.au[k]? =some r/\r.head=x/\∃i∈cD z r,qI z st.bZ i/\qJ z st.ak i=bv st.ak x
 der:∀x:Int,0<=x->x<z.n.an->(bv st.ak x).aH<1099511627776->Der z.n z.l x z.fr.toNat z.to.toNat (bv st.ak x)
def done(z:eY)(st:kl)(r:di)(i:gf):Prop:=qI z st.bZ i->¬(qJ z st.ak i).lt (bv st.ak r.head)
section
variable{z:eY}{st:kl}
def FR(st:kl)(x:Int):st.bZ.getD x.toNat false=lW st x:=rfl
def kS(K:Kx z)(W:WF z.n.an.toNat st)(hh:0<=h/\h<z.n.an){v:c8}{y:Int}(hy:0<=y):bv (fG st h v).ak y=bv st.ak y\/(y=h/\bv (fG st h v).ak y=v/\lW st h=false/\v.aH<1099511627776/\v.lt (bv st.ak h)):=by
 rcases Qc st h v with e|⟨e,h1,h2,h3⟩
 ·rw[e];exact .inl rfl
 ·rw[e,A3 ⟨hh.1,by rw[W.lb];omega⟩ hy];split
  ·rename_i e2;exact .inr ⟨e2,rfl,h1,h2,h3⟩
  ·exact .inl rfl
def vM(K:Kx z)(W:WF z.n.an.toNat st)(hh:0<=h/\h<z.n.an){v:c8}(hr:r∈z.n.au){i:gf}(hi:i∈cD z r)(hf:qI z st.bZ i):qJ z (fG st h v).ak i=qJ z st.ak i:=by
 refine AS λx hx ic=>?_;rcases kS K W hh (v:=v) (pF K hr hi hx).1 with e|⟨e,_,h1,_⟩
 ·exact e
 ·have:=hf x hx ic;rw[FR,e,h1]at this;cases this
def offer_le(K:Kx z)(W:WF z.n.an.toNat st)(hh:0<=h/\h<z.n.an){v w:c8}{y:Int}(hy:0<=y)(hw:¬w.lt (bv st.ak y)):¬w.lt (bv (fG st h v).ak y):=by
 rcases kS K W hh (v:=v) hy with e|⟨rfl,e,_,_,h3⟩
 ·rw[e];exact hw
 ·rw[e];unfold c8.lt at*
  omega
def xE(K:Kx z)(W:WF z.n.an.toNat st)(hh:0<=h/\h<z.n.an){v:c8}(hr:r∈z.n.au){i:gf}(hi:i∈cD z r)(hd:done z st r i):done z (fG st h v) r i:=by
 intro hf;rw[mL]at hf;rw[vM K W hh hr hi hf];exact offer_le K W hh (K.hn.2.2.2 r hr).1 (hd hf)
def cmb_der(C:nl z.n z.l z.c z.fr.toNat z.to.toNat)(K:Kx z){ak:bR}(hb:∀v∈ak,jj v)(hd:∀x:Int,0<=x->x<z.n.an->(bv ak x).aH<1099511627776->Der z.n z.l x z.fr.toNat z.to.toNat (bv ak x))
  {k:Nat} (hk:z.n.au[k]? =some r) {i:gf} (hi:i∈cD z r) (hf:(qJ z ak i).aH<1099511627776):jU z.n z.l r.head z.fr.toNat z.to.toNat k i.1 (qJ z ak i):=by
 have hr:r∈z.n.au:=Zax hk;obtain⟨q1,q2,q3,q4,q5⟩:=K.hn.2.2.2 r hr;obtain⟨hf0,hf1⟩:=K.ft;obtain⟨s,hs⟩:=Zae hf0;obtain⟨t,ht⟩:=Zae (show 0<=z.to by omega);have es:z.fr.toNat=s:=by omega
 have et:z.to.toNat=t:=by omega
 have val:∀(x:Int) (a b:Nat),0<=x->x<z.n.an->s<=a->a<=b->b<=t->(jY z ak x a b).aH<1099511627776->Der z.n z.l x a b (jY z ak x a b):=by
  intro x a b h0 h1 a1 a2 a3 hfv;unfold jY at hfv⊢;split
  ·rename_i e;rw[Zai e]at hfv;have e1:a=z.fr.toNat:=by omega
   have e2:b=z.to.toNat:=by omega
   rw[e1,e2];exact hd x h0 h1 hfv
  ·rename_i e;rw[Zab e]at hfv;rcases(C.Xl x a b h0 h1 (by omega) a2 (by omega) (by omega)).top with e|⟨⟨k,_,d⟩,_⟩
   ·rw[e]at hfv;exact Zar hfv (by decide)
   ·exact⟨k,_,d⟩
 have vok:∀(x a b:Int),jj (jY z ak x a b):=λx a b=>JU K.hc hb x a b;unfold cD at hi;split at hi
 ·rename_i h1;split at hi
  ·rename_i h2;simp only[Zah,Zal,or_false]at hi;subst hi;have e:z.to.toNat=z.fr.toNat:=by omega
   rw[e,show z.fr=(z.fr.toNat:Int)by omega];exact jU.empty hk h1 hf
  ·cases hi
 ·split at hi
  ·rename_i h1;obtain⟨a,ha0,ha⟩:=ZbA.1 hi;have:=wu z;simp only[Zb6]at ha0;have P1:a<z.l.bE.length:=by omega
   have dP:=Ni (z:=z) (i:=a) (by omega) (by omega);unfold tT at ha;split at ha
   ·rename_i Nk;cases ha;exact jU.term hk h1 (a:=a) (x:=z.l.bE.getD a default) (by simp[List.getD,P1]) (by rw[dP.1];omega) (by rw[dP.2];omega) Nk hf
   ·cases ha
  ·split at hi
   ·rename_i h1;simp only[Zah,Zal,or_false]at hi;subst hi;have mN:(dU r.cq [jY z ak r.a z.fr z.to]).aH<1099511627776:=hf;have hv:=GZ q3 mN;have d:=val r.a s t (by omega) (by omega) (Zaf _) (by omega) (Zaf _) (by rw[<-hs,<-ht];exact hv);obtain⟨k1,g1,d1⟩:=d;rw[<-hs,<-ht]at d1;have:=jU.unary hk h1 d1 mN;rw[es,et];rw[hs]at this⊢;exact this
   ·split at hi
    ·rename_i h1;obtain⟨d,hd0,rfl⟩:=Zak.1 hi;simp only[Za2]at hd0;have mN:(dU r.cq [jY z ak r.a z.fr (z.fr+(d:Int)),jY z ak r.b (z.fr+(d:Int)) z.to]).aH<1099511627776:=hf;have hv:=G0 q3 (vok _ _ _).1 (vok _ _ _).1 mN;have em:z.fr+(d:Int)=((s+d:Nat):Int):=by omega
     rw[em,hs,ht]at hv;obtain⟨k1,g1,d1⟩:=val r.a s (s+d) (by omega) (by omega) (Zaf _) (by omega) (by omega) hv.1;obtain⟨k2,g2,d2⟩:=val r.b (s+d) t (by omega) (by omega) (by omega) (by omega) (Zaf _) hv.2;rw[em,hs,ht]at mN;have:=jU.wV hk h1 (by omega) (by omega) d1 d2 mN;rw[es,et];show jU z.n z.l r.head s t k (z.fr+(d:Int)) (dU r.cq [jY z ak r.a z.fr (z.fr+(d:Int)),jY z ak r.b (z.fr+(d:Int)) z.to]);rw[em,hs,ht];exact this
    ·cases hi
def KN.FC(C:nl z.n z.l z.c z.fr.toNat z.to.toNat)(K:Kx z)(h:KN z st){k:Nat}(hk:z.n.au[k]? =some r){i:gf}(hi:i∈cD z r)(hf:qI z st.bZ i)
  (ho:(qJ z st.ak i).lt (bv st.ak r.head)->∀x:Int,0<=x->x<z.n.an->lW st x=true->¬(qJ z st.ak i).lt (bv st.ak x)):KN z (fG st r.head (qJ z st.ak i)):=by
 have hr:r∈z.n.au:=Zax hk;have hh:0<=r.head/\r.head<z.n.an:=⟨(K.hn.2.2.2 r hr).1,(K.hn.2.2.2 r hr).2.1⟩;obtain⟨V,hV⟩:=bb (qJ z st.ak i);have Gk:jj V:=by rw[<-hV];exact JW K h.wf.bo hr hi
 have W2:WF z.n.an.toNat (fG st r.head V):=h.wf.FC (by omega) Gk;have lr:∀x,lW (fG st r.head V) x=lW st x:=λx=>by unfold lW;rw[mL]
 rw[hV]at ho⊢;refine⟨W2,λx y x0 x1 y0 y1 fx fy=>?_,λx x0 x1 hx=>?_,λx x0 x1 hx=>?_⟩
 ·rw[lr]at fx fy;have ex:bv (fG st r.head V).ak x=bv st.ak x:=by
   rcases kS K h.wf hh (v:=V) x0 with e|⟨rfl,_,h1,_⟩
   ·exact e
   ·rw[fx]at h1;cases h1
  rw[ex];rcases kS K h.wf hh (v:=V) y0 with e|⟨rfl,e,h1,_,h3⟩
  ·rw[e];exact h.ord x y x0 x1 y0 y1 fx fy
  ·rw[e];exact ho h3 x x0 x1 fx
 ·rcases kS K h.wf hh (v:=V) x0 with e|⟨rfl,e,h1,_,h3⟩
  ·rw[e]at hx⊢;obtain⟨k',r',tU,gD,i',pW,mN,Xb⟩:=h.att x x0 x1 hx;exact⟨k',r',tU,gD,i',pW,by rw[mL];exact mN,by rw[vM K h.wf hh (Zax tU) pW mN];exact Xb⟩
  ·rw[e];exact⟨k,r,hk,rfl,i,hi,by rw[mL];exact hf,by rw[vM K h.wf hh hr hi hf];exact hV⟩
 ·rcases kS K h.wf hh (v:=V) x0 with e|⟨rfl,e,h1,h2,h3⟩
  ·rw[e]at hx⊢;exact h.der x x0 x1 hx
  ·rw[e];have:=cmb_der C K h.wf.bo h.der hk hi (by rw[hV];exact h2);rw[hV]at this;exact⟨_,_,this⟩
def FT(K:Kx z)(W:WF z.n.an.toNat st)(hr:r∈z.n.au){i:gf}(hi:i∈cD z r)(hf:qI z st.bZ i)
  (ho:lW st r.head=true->¬(qJ z st.ak i).lt (bv st.ak r.head)):done z (fG st r.head (qJ z st.ak i)) r i:=by
 have hh:0<=r.head/\r.head<z.n.an:=⟨(K.hn.2.2.2 r hr).1,(K.hn.2.2.2 r hr).2.1⟩;intro _;rw[vM K W hh hr hi hf];have Gk:=JW K W.bo hr hi;obtain⟨V,hV⟩:=bb (qJ z st.ak i);rw[hV]at ho Gk⊢;unfold fG;split
 ·rename_i hc;rcases hc with hc|hc|hc
  ·exact ho hc
  ·have hb:jj (bv st.ak r.head):=W.bo _ (bm (by rw[W.lb];omega));by_cases ln:V.lt (bv st.ak r.head)
   ·exfalso;obtain⟨b1,b2,b3,b4⟩:=hb;have Bv:(bv st.ak r.head).aH=1099511627776:=by unfold c8.lt at ln;omega
    have HQ:(bv st.ak r.head)=⟨1099511627776,0⟩:=by
     rcases ilt (st.fl.getD r.head.toNat 0)with h0|h0
     ·exact(W.old r.head.toNat (by omega) h0).2
     ·have:=W.Qb r.head.toNat (by omega) h0;unfold bv at Bv;omega
    rw[HQ]at ln;obtain⟨c1,c2,c3,c4⟩:=Gk;unfold c8.lt at ln;simp only at ln;omega
   ·exact ln
  ·exact hc
 ·have hbs:bv (st.ak.set r.head.toNat V) r.head=V:=by
   rw[A3 ⟨hh.1,by rw[W.lb];omega⟩ hh.1,Zai rfl]
  split;all_goals
   show ¬V.lt (bv (st.ak.set r.head.toNat V) r.head);rw[hbs];unfold c8.lt;omega
end
end
section
variable{st:kl}{bZ:List Bool}
def xi(z:eY)(r:di)(st:kl)(i:gf):kl:=if ff z i.2.2=true then st else fG st r.head (qJ z st.ak i)
def BZ(z:eY)(st:kl):kl:=z.n.au.foldl (λst r=>(cD z r).foldl (xi z r) st) st
def iP(z:eY)(r:di)(st:kl)(i:gf):kl:=if ff z i.2.2=true/\od z st.bZ i.2.2=false then fG st r.head (qJ z st.ak i)else st
def CZ(z:eY)(x:Int)(st:kl)(r:di):kl:=if jv r x then(eD z r).foldl (iP z r) st else st
def oA(z:eY)(st:kl):kl:=z.n.au.foldl (CZ z (st.s.e 0).x) (pU st)
def ip(z:eY):Nat->kl->kl
 |0,st=>st
 |f+1,st=>if st.s.heap=[]then st else ip z f (oA z st)
def py(st:kl):Nat:=st.bZ.count false
def gG(n:Nat):kl:=⟨List.replicate n ⟨1099511627776,0⟩,List.replicate n false,List.replicate n (-1),⟨[],0,[],0,0,0⟩⟩
abbrev PR:=di×gf
def NO(z:eY)(p:PR):Prop:=p.1∈z.n.au/\p.2∈cD z p.1
def B0(z:eY)(st:kl)(p:PR):Prop:=done z st p.1 p.2
structure FU(z:eY)(P:kl->Prop)(ok:PR->Prop)(f:kl->PR->kl):Prop where
 bi:∀st p,P st->ok p->P (f st p)
 self:∀st p,P st->ok p->B0 z (f st p) p
 rest:∀st p,P st->ok p->∀q,NO z q->B0 z st q->B0 z (f st p) q
 dv:∀st p,P st->ok p->(f st p).s.dv<=st.s.dv+1
def FU.L8{z:eY}{P:kl->Prop}{ok:PR->Prop}{f:kl->PR->kl}(h:FU z P ok f)(dq:∀p,ok p->NO z p):∀(L:List PR),(∀p∈L,ok p)->∀st,P st->
  P (L.foldl f st)/\(∀p∈L,B0 z (L.foldl f st) p)/\(∀q,NO z q->B0 z st q->B0 z (L.foldl f st) q)/\(L.foldl f st).s.dv<=st.s.dv+L.length
 |[],_,st,hp=>⟨hp,λp hp=>(by cases hp),λq _ h=>h,by simp⟩
 |p::L,hL,st,hp=>by
  have h1:=hL p (by simp);obtain⟨a1,a2,a3,a4⟩:=FU.L8 h dq L (λq hq=>hL q (by simp[hq])) (f st p) (h.bi st p hp h1);rw[ZaN];refine⟨a1,λq hq=>?_,λq hq hd=>a3 q hq (h.rest st p hp h1 q hq hd), ?_⟩
  ·rcases Zah.1 hq with rfl|hq
   ·exact a3 _ (dq _ h1) (h.self st _ hp h1)
   ·exact a2 q hq
  ·have:=h.dv st p hp h1;simp only[Za5];omega
def qq{σ α β:Type}(f:σ->α×β->σ)(g:α->List β):∀(l:List α) (x:σ),l.foldl (λx a=>(g a).foldl (λx b=>f x (a,b)) x) x=(l.flatMap λa=>(g a).map λb=>(a,b)).foldl f x
 |[],x=>rfl
 |a::l,x=>by
  rw[ZaN,Zbt,ZaI,qq f g l,ZcC]
def xF{z:eY}{l:List It}(h:¬ff z l=true):∀x∈l,¬me z x:=by
 intro x hx hi;exact h (Zce.2 ⟨x,hx,by simpa using hi⟩)
section
variable{z:eY}
def gY{α:Type}{n x:Nat}{a d:α}(h:x<n):(List.replicate n a).getD x d=a:=by simp[List.getD,h]
def KN0(K:Kx z):KN z (gG z.n.an.toNat):=by
 have hb:∀x:Int,0<=x->x<z.n.an->bv (gG z.n.an.toNat).ak x=⟨1099511627776,0⟩:=λx h0 h1=>gY (by omega);have hf:∀x:Int,0<=x->x<z.n.an->lW (gG z.n.an.toNat) x=false:=λx h0 h1=>gY (by omega);refine⟨⟨by simp[gG],by simp[gG],by simp[gG],⟨by simp[gG,pA],λe he=>by simp[gG]at he,λe he=>by simp[gG]at he,λe he=>by simp[gG]at he⟩,λk hk=>by simp[gG]at hk,λk _ hk=>by simp[gG]at hk,
  λe he=>by simp[gG]at he,λx hx h0 _=>?_,λx hx h0=>⟨gY hx,gY hx⟩,λx hx h0=>?_,λx hx=>?_,by simp[gG],λv hv=>?_⟩,λx y x0 x1 _ _ fx _=>?_,λx x0 x1 hx=>?_,λx x0 x1 hx=>?_⟩
 ·have:=gY (a:=(-1:Int)) (d:=0) hx;simp only[gG]at h0;omega
 ·have:=gY (a:=(-1:Int)) (d:=0) hx;simp only[gG]at h0;omega
 ·have:=gY (a:=(-1:Int)) (d:=0) hx;simp only[gG];omega
 ·rw[ZbI hv];exact⟨by decide,by decide,by decide,by decide⟩
 ·rw[hf x x0 x1]at fx;cases fx
 ·rw[hb x x0 x1]at hx;exact Zar hx (by decide)
 ·rw[hb x x0 x1]at hx;exact Zar hx (by decide)
def U5{p:PR}(h:NO z p):∃k:Nat,z.n.au[k]? =some p.1:=by
 obtain⟨k,hk,e⟩:=ZaO h.1;exact⟨k,by rw[Zas hk,e]⟩
def PI(z:eY)(st:kl):Prop:=KN z st/\∀x:Int,0<=x->x<z.n.an->lW st x=false
def U6(C:nl z.n z.l z.c z.fr.toNat z.to.toNat)(K:Kx z):FU z (PI z) (NO z) (λst p=>xi z p.1 st p.2):=by
 have hh:∀p,NO z p->0<=p.1.head/\p.1.head<z.n.an:=λp hp=>⟨(K.hn.2.2.2 _ hp.1).1,(K.hn.2.2.2 _ hp.1).2.1⟩;refine⟨λst p hp ho=>?_,λst p hp ho=>?_,λst p hp ho q hq hd=>?_,λst p hp ho=>?_⟩<;>unfold xi
 ·split
  ·exact hp
  ·rename_i hw;obtain⟨k,hk⟩:=U5 ho;have hf:qI z st.bZ p.2:=λx hx hi=>Zar hi (xF hw x hx);refine⟨hp.1.FC C K hk ho.2 hf λ_ x x0 x1 fx=>?_,λx x0 x1=>?_⟩
   ·rw[hp.2 x x0 x1]at fx;cases fx
   ·unfold lW;rw[mL];exact hp.2 x x0 x1
 ·split
  ·rename_i hw;intro hf;exfalso;obtain⟨x,hx,hi⟩:=Zce.1 hw;have qr:=pF K ho.1 ho.2 hx;have:=hf x hx (by simpa using hi);rw[FR,hp.2 x.1 qr.1 qr.2]at this;cases this
  ·rename_i hw;refine FT K hp.1.wf ho.1 ho.2 (λx hx hi=>Zar hi (xF hw x hx)) λhf=>?_;rw[hp.2 _ (hh p ho).1 (hh p ho).2]at hf;cases hf
 ·split
  ·exact hd
  ·exact xE K hp.1.wf (hh p ho) hq.1 hq.2 hd
 ·split
  ·omega
  ·exact BY hp.1.wf (by have:=hh p ho;omega) _
def IV(z:eY)(st:kl):Prop:=KN z st/\∀q,NO z q->B0 z st q
def allP(z:eY):List PR:=z.n.au.flatMap λr=>(cD z r).map λi=>(r,i)
def Nl{q:PR}:q∈allP z↔NO z q:=by
 unfold allP NO;constructor
 ·intro h;obtain⟨r,hr,h⟩:=ZaV.1 h;obtain⟨i,hi,rfl⟩:=Zak.1 h;exact⟨hr,hi⟩
 ·rintro⟨h1,h2⟩;exact ZaV.2 ⟨q.1,h1,Zak.2 ⟨q.2,h2,rfl⟩⟩
def initF_eq(st:kl):BZ z st=(allP z).foldl (λst p=>xi z p.1 st p.2) st:=qq (λst (p:PR)=>xi z p.1 st p.2) (cD z) _ _
def PI0(K:Kx z):PI z (gG z.n.an.toNat):=⟨KN0 K,λx h0 h1=>gY (by omega)⟩
def init_iv(C:nl z.n z.l z.c z.fr.toNat z.to.toNat)(K:Kx z):IV z (BZ z (gG z.n.an.toNat))/\(BZ z (gG z.n.an.toNat)).s.dv<=(allP z).length:=by
 rw[initF_eq];obtain⟨a1,a2,a3,a4⟩:=(U6 C K).L8 (λ_ h=>h) (allP z) (λp hp=>Nl.1 hp) _ (PI0 K);exact⟨⟨a1.1,λq hq=>a2 q (Nl.2 hq)⟩,by simpa [gG]using a4⟩
def tf(h:WF z.n.an.toNat st)(bT:st.s.heap≠[]){y:Int}(h0:0<=y)(h1:y<z.n.an):lW (pU st) y=if y=(st.s.e 0).x then true else lW st y:=by
 have xN:0<st.s.heap.length:=ZaT.2 bT;have a:=h.vU _ (fD.2 ⟨0,xN,rfl⟩);have e0:(st.s.e (0:Nat)).x=(st.s.e 0).x:=rfl;rw[e0]at a;unfold lW pU;simp only;rw[eI (by have:=h.lf;omega)];by_cases e:y=(st.s.e 0).x
 ·rw[Zai (by omega),Zai e]
 ·rw[Zab (by omega),Zab e]
def KN.pop(K:Kx z)(h:KN z st)(bT:st.s.heap≠[]):KN z (pU st)/\(0<=(st.s.e 0).x/\(st.s.e 0).x<z.n.an)/\lW st (st.s.e 0).x=false/\(∀y:Int,0<=y->y<z.n.an->lW (pU st) y=true->¬(bv st.ak (st.s.e 0).x).lt (bv st.ak y)):=by
 have xN:0<st.s.heap.length:=ZaT.2 bT;obtain⟨a1,a2,a3,a4,a5⟩:=h.wf.vU _ (fD.2 ⟨0,xN,rfl⟩);have e0:(st.s.e (0:Nat)).x=(st.s.e 0).x:=rfl;rw[e0]at a1 a2 a3 a4;have hx:0<=(st.s.e 0).x/\(st.s.e 0).x<z.n.an:=by omega
 have X9:∀y:Int,0<=y->y<z.n.an->lW st y=false->¬(bv st.ak y).lt (bv st.ak (st.s.e 0).x):=by
  intro y y0 y1 fy;rcases ilt (st.fl.getD y.toNat 0)with h0|h0
  ·have hy:=(h.wf.old y.toNat (by omega) h0).2;have Xp:=h.wf.Qb (st.s.e 0).x.toNat (by omega) (by omega);unfold bv;rw[hy];unfold c8.lt;simp only;omega
  ·obtain⟨e,he,hey⟩:=h.wf.Xl y.toNat (by omega) h0 fy;obtain⟨i,hi,rfl⟩:=fD.1 he;have:=xu h.wf.hp i hi;unfold iC at this;rw[show(st.s.e i).x=y by omega]at this;exact λln=>this (.inl ln)
 refine⟨⟨h.wf.pop bT,λx y x0 x1 y0 y1 fx fy=>?_,λx x0 x1 mh=>?_,h.der⟩,hx,a3,λy y0 y1 fy=>?_⟩
 ·rw[tf h.wf bT x0 x1]at fx;rw[tf h.wf bT y0 y1]at fy;split at fy
  ·cases fy
  ·split at fx
   ·rename_i e;rw[e];exact X9 y y0 y1 fy
   ·exact h.ord x y x0 x1 y0 y1 fx fy
 ·obtain⟨k,r,hk,hr,i,hi,hf,hc⟩:=h.att x x0 x1 mh;refine⟨k,r,hk,hr,i,hi,λw hw hwi=>?_,hc⟩;have hwb:=pF K (Zax hk) hi hw;show lW (pU st) w.1=true;rw[tf h.wf bT hwb.1 hwb.2];split
  ·rfl
  ·exact hf w hw hwi
 ·rw[tf h.wf bT y0 y1]at fy;split at fy
  ·rename_i e;rw[e];unfold c8.lt;omega
  ·exact h.ord y _ y0 y1 hx.1 hx.2 fy a3
structure PS2(z:eY)(x:Int)(bZ:List Bool)(st:kl):Prop where
 kn:KN z st
 bZ:st.bZ=bZ
 mx:∀y:Int,0<=y->y<z.n.an->lW st y=true->¬(bv st.ak x).lt (bv st.ak y)
 old:∀q,NO z q->(∀w∈q.2.2.2,me z w->w.1≠x)->B0 z st q
def FV{i:gf}:(od z bZ i.2.2=false)↔qI z bZ i:=by
 unfold od qI;rw[Zcl];constructor
 ·intro h x hx hi;have:=h x hx;simp only[hi,decide_true,ZcF,Zbf,Bool.not_eq_false]at this;exact this
 ·intro h x hx;by_cases hi:me z x
  ·have:=h x hx hi;rw[show(default:Bool)=false from rfl,this];simp
  ·simp[hi]
def set_ok(C:nl z.n z.l z.c z.fr.toNat z.to.toNat)(K:Kx z){x:Int}(hx:0<=x/\x<z.n.an)(Xp:bZ.getD x.toNat false=true):FU z (PS2 z x bZ) (NO z) (λst p=>iP z p.1 st p.2):=by
 have hh:∀p,NO z p->0<=p.1.head/\p.1.head<z.n.an:=λp hp=>⟨(K.hn.2.2.2 _ hp.1).1,(K.hn.2.2.2 _ hp.1).2.1⟩;have two:∀(st:kl) (p:PR),PS2 z x bZ st->NO z p->qI z st.bZ p.2->(∀y:Int,0<=y->y<z.n.an->lW st y=true->¬(qJ z st.ak p.2).lt (bv st.ak y))\/¬(qJ z st.ak p.2).lt (bv st.ak p.1.head):=by
  intro st p hp ho hf;by_cases hq:∀w∈p.2.2.2,me z w->w.1≠x
  ·exact .inr (hp.old p ho hq hf)
  ·left;intro y y0 y1 fy;have⟨w,hw⟩:=Classical.not_forall.1 hq;obtain⟨Xd,hw⟩:=Classical.not_imp.1 hw;obtain⟨hw2,hw⟩:=Classical.not_imp.1 hw;have hw3:w.1=x:=Decidable.not_not.1 hw;have h1:=cmb_ge K hp.kn.wf.bo ho.1 ho.2 Xd hw2 (by have:=pF K ho.1 ho.2 Xd;exact hp.kn.wf.canon (by omega));rw[hw3]at h1;have h2:=hp.mx y y0 y1 fy;exact jH h2 h1
 refine⟨λst p hp ho=>?_,λst p hp ho=>?_,λst p hp ho q hq hd=>?_,λst p hp ho=>?_⟩<;>unfold iP
 ·split
  ·rename_i hw;have hf:=FV.1 hw.2;obtain⟨k,hk⟩:=U5 ho;refine⟨hp.kn.FC C K hk ho.2 hf λln y y0 y1 fy=>?_,by rw[mL];exact hp.bZ,λy y0 y1 fy=>?_,λq hq Xh=>xE K hp.kn.wf (hh p ho) hq.1 hq.2 (hp.old q hq Xh)⟩
   ·rcases two st p hp ho hf with h|h
    ·exact h y y0 y1 fy
    ·exact Zar ln h
   ·unfold lW at fy;rw[mL]at fy;have fx:lW st x=true:=by unfold lW;rw[hp.bZ];exact Xp
    have fix:∀w:Int,0<=w->lW st w=true->bv (fG st p.1.head (qJ z st.ak p.2)).ak w=bv st.ak w:=λw w0 fw=>by
     rcases kS K hp.kn.wf (hh p ho) (v:=qJ z st.ak p.2) w0 with e|⟨rfl,_,h1,_⟩
     ·exact e
     ·rw[fw]at h1;cases h1
    rw[fix x hx.1 fx,fix y y0 fy];exact hp.mx y y0 y1 fy
  ·exact hp
 ·split
  ·rename_i hw;have hf:=FV.1 hw.2;refine FT K hp.kn.wf ho.1 ho.2 hf λfh=>?_;rcases two st p hp ho hf with h|h
   ·exact h _ (hh p ho).1 (hh p ho).2 fh
   ·exact h
  ·rename_i hw;by_cases h1:ff z p.2.2.2=true
   ·intro hf;exact Zar ⟨h1,FV.2 hf⟩ hw
   ·exact hp.old p ho λw hw hwi=>Zar hwi (xF h1 w hw)
 ·split
  ·exact xE K hp.kn.wf (hh p ho) hq.1 hq.2 hd
  ·exact hd
 ·split
  ·exact BY hp.kn.wf (by have:=hh p ho;omega) _
  ·omega
def setP(z:eY)(x:Int):List PR:=(z.n.au.filter λr=>decide (jv r x)).flatMap λr=>(eD z r).map λi=>(r,i)
def lO{σ α:Type}(p:α->Prop) [DecidablePred p](f:σ->α->σ):∀(l:List α) (x:σ),l.foldl (λx a=>if p a then f x a else x) x=(l.filter λa=>decide (p a)).foldl f x
 |[],x=>rfl
 |a::l,x=>by
  rw[ZaN,lO p f l];by_cases h:p a
  ·rw[Zai h,List.filter_cons_of_pos (by simpa using h),ZaN]
  ·rw[Zab h,List.filter_cons_of_neg (by simpa using h)]
def FW(x:Int)(l:Cf)(st:kl):l.foldl (CZ z x) st=((l.filter λr=>decide (jv r x)).flatMap λr=>(eD z r).map λi=>(r,i)).foldl (λst (p:PR)=>iP z p.1 st p.2) st:=by
 have:=lO (λr=>jv r x) (λst r=>(eD z r).foldl (iP z r) st) l st;show l.foldl (λst r=>if jv r x then(eD z r).foldl (iP z r) st else st) st=_;rw[this];exact qq (λst (p:PR)=>iP z p.1 st p.2) (eD z) _ _
def U7(K:Kx z){x:Int}{l:Cf}(hl:∀r∈l,r∈z.n.au):∀p∈(l.filter λr=>decide (jv r x)).flatMap λr=>(eD z r).map λi=>((r,i):PR),NO z p:=by
 intro p hp;obtain⟨r,hr,h⟩:=ZaV.1 hp;obtain⟨i,hi,rfl⟩:=Zak.1 h;exact⟨hl r (Zbj.1 hr).1,A4 K.ft.2 hi⟩
def pop_ps(C:nl z.n z.l z.c z.fr.toNat z.to.toNat)(K:Kx z)(h:IV z st)(bT:st.s.heap≠[]):PS2 z (st.s.e 0).x (pU st).bZ (pU st):=by
 obtain⟨k1,k2,k3,k4⟩:=h.1.pop K bT;refine⟨k1,rfl,k4,λq hq Xh hf=>h.2 q hq λw hw hwi=>?_⟩;have hwb:=pF K hq.1 hq.2 hw;have:=hf w hw hwi;rw[FR,tf h.1.wf bT hwb.1 hwb.2,Zab (Xh w hw hwi)]at this;exact this
def A6(C:nl z.n z.l z.c z.fr.toNat z.to.toNat)(K:Kx z)(h:IV z st)(bT:st.s.heap≠[]):IV z (oA z st)/\py (oA z st)<py st/\(oA z st).s.dv<=st.s.dv+(setP z (st.s.e 0).x).length:=by
 have hP:=pop_ps C K h bT;obtain⟨k1,k2,k3,k4⟩:=h.1.pop K bT;have xN:0<st.s.heap.length:=ZaT.2 bT;have Xp:(pU st).bZ.getD (st.s.e 0).x.toNat false=true:=by
  show lW (pU st) _=true;rw[tf h.1.wf bT k2.1 k2.2,Zai rfl]
 have aT:(pU st).s.dv=st.s.dv:=by
  have hs:lu (fT st.s) (fC st.ak st.s):=by unfold fC;rw[Zab bT];exact li rfl
  exact hs.dv
 obtain⟨a1,a2,a3,a4⟩:=(set_ok C K k2 Xp).L8 (λ_ h=>h) (setP z (st.s.e 0).x) (U7 K λr h=>h) _ hP;have e:oA z st=(setP z (st.s.e 0).x).foldl (λst p=>iP z p.1 st p.2) (pU st):=FW _ _ _;rw[<-e]at a1 a2 a3 a4;refine⟨⟨a1.kn,λq hq=>?_⟩, ?_,by omega⟩
 ·by_cases Xh:∀w∈q.2.2.2,me z w->w.1≠(st.s.e 0).x
  ·exact a1.old q hq Xh
  ·have⟨w,hw⟩:=Classical.not_forall.1 Xh;obtain⟨Xd,hw⟩:=Classical.not_imp.1 hw;obtain⟨hw2,hw⟩:=Classical.not_imp.1 hw;have hw3:w.1=(st.s.e 0).x:=Decidable.not_not.1 hw;obtain⟨b1,b2⟩:=in_bound hq.2 Xd hw2;rw[hw3]at b2;exact a2 q (ZaV.2 ⟨q.1,Zbj.2 ⟨hq.1,by simpa using b2⟩,Zak.2 ⟨q.2,b1,rfl⟩⟩)
 ·unfold py;rw[a1.bZ];have ln:(st.s.e 0).x.toNat<st.bZ.length:=by rw[h.1.wf.lf];omega
  show(st.bZ.set _ true).count false<_;have mF:st.bZ[(st.s.e 0).x.toNat]=false:=by
   have:st.bZ.getD (st.s.e 0).x.toNat false=false:=k3;rw[List.getD,Zas ln]at this;exact this
  rw[List.count_set ln,mF];have:0<st.bZ.count false:=List.count_pos_iff.2 (mF▸Zbe ln);simp;omega
end
end
section
variable{f:bq}
def k1(A:bB)(O:bq)(v:DV)(O':bq):bB->bq->fI:=λargs ab=>⟨args=A/\ab=O,v,O'⟩
@[simp] def k1_eq(A:bB)(O:bq)(v:DV)(O':bq)(args:bB)(ab:bq):k1 A O v O' args ab=⟨args=A/\ab=O,v,O'⟩:=rfl
def Hd{f:Nat}{A:bB}{O:bq}{v:DV}{O':bq}{l:List (Nat×DM.Spec)}(h:ay aj (bu l))(hc:∀N,(∀r,N<=r->O r=none)->aR aj f A O ⟨True,v,O'⟩)(hn:∀r,O r=none->O' r=none):
  ay aj (bu ((f,eS (k1 A O v O'))::l)):=
 ay.gS h (by
  rintro args ab ⟨rfl,rfl⟩;exact⟨λN hN=>aR.of (hc N hN) rfl rfl,hn⟩)
def rF{v:SV}{p:Nat}(h:v.at f p)(a:kl)(s:Qs):bH (bX f v a) v.k.q ((v.to a).qv p) s=bX f v ⟨a.ak,a.bZ,a.fl,s⟩:=by
 obtain⟨nV,nW,nX,uP,nw,uQ,PZ,TX,pq,TY,zi,aar,zj,P0,pu,nY,aaE,zk,aaF,zl,P3,aaG,nZ,oa,zm,aaH,zn,P4,zo,tH,tJ,tK,xo,PD,nqa,qj,mo,mq,mr,vS,xp,P5,zp,tM,tN,tO,NM,vT,nma,P6,Nb,Nc,Nd,naq,Nf,nam⟩:=h.ne;funext k;simp only[bH,bX,SV.qv,aP,cm,qK,rU,rV];by_cases h1:k=v.k.q
 ·subst h1;simp[tH,tJ,tK]
 ·by_cases h2:k=v.k.hp
  ·subst h2;simp[h1,mo,mq,mr]
  ·by_cases h3:k=v.k.m
   ·subst h3;simp[h1,h2,tM,tN,tO]
   ·simp[h1,h2,h3]
def JE(f:bq)(r:Nat)(o:Ob):cG f (some (r,o))=aM [(r,o)] f:=rfl
def pD{v:SV}{g:bq}{s:kl}(h1:g v.k.rb=some (qK s))(h2:g v.k.rf=some (rU s))(h3:g v.k.rh=some (rV s))(h4:g v.k.q=some (qB v.k.a v.k.hp v.k.m s.s))(h5:g v.k.hp=some (hB s.s))(h6:g v.k.m=some (mB s.s))
  (h7:∀k,k≠v.k.rb->k≠v.k.rf->k≠v.k.rh->k≠v.k.q->k≠v.k.hp->k≠v.k.m->g k=f k):g=bX f v s:=by
 funext k;simp only[bX,aP,cm];repeat' split
 all_goals first|(rename_i e;rw[e];assumption)|(apply h7<;>assumption)
def Fz{v:SV}{p:Nat}(h:v.at f p)(s:kl)(B:bR):aM [(v.k.rb,.dT 0 63 2 (bC B))] (bX f v s)=bX f v ⟨B,s.bZ,s.fl,s.s⟩:=by
 obtain⟨nV,nW,nX,uP,nw,uQ,PZ,TX,pq,TY,zi,aar,zj,P0,pu,nY,aaE,zk,aaF,zl,P3,aaG,nZ,oa,zm,aaH,zn,P4,zo,tH,tJ,tK,xo,PD,nqa,qj,mo,mq,mr,vS,xp,P5,zp,tM,tN,tO,NM,vT,nma,P6,Nb,Nc,Nd,naq,Nf,nam⟩:=h.ne;refine pD ?_ ?_ ?_ ?_ ?_ ?_ λk a1 a2 a3 a4 a5 a6=>?_<;>simp[bX, *]<;>rfl
def JC{v:SV}{p:Nat}(h:v.at f p)(s:kl)(B:List Bool):aM [(v.k.rf,.dT 0 4 1 (g8 B))] (bX f v s)=bX f v ⟨s.ak,B,s.fl,s.s⟩:=by
 obtain⟨nV,nW,nX,uP,nw,uQ,PZ,TX,pq,TY,zi,aar,zj,P0,pu,nY,aaE,zk,aaF,zl,P3,aaG,nZ,oa,zm,aaH,zn,P4,zo,tH,tJ,tK,xo,PD,nqa,qj,mo,mq,mr,vS,xp,P5,zp,tM,tN,tO,NM,vT,nma,P6,Nb,Nc,Nd,naq,Nf,nam⟩:=h.ne;refine pD ?_ ?_ ?_ ?_ ?_ ?_ λk a1 a2 a3 a4 a5 a6=>?_<;>simp[bX, *]<;>rfl
def JD{v:SV}{p:Nat}(h:v.at f p)(s:kl)(B:bO):aM [(v.k.rh,.dT 0 3 1 (aG B))] (bX f v s)=bX f v ⟨s.ak,s.bZ,B,s.s⟩:=by
 obtain⟨nV,nW,nX,uP,nw,uQ,PZ,TX,pq,TY,zi,aar,zj,P0,pu,nY,aaE,zk,aaF,zl,P3,aaG,nZ,oa,zm,aaH,zn,P4,zo,tH,tJ,tK,xo,PD,nqa,qj,mo,mq,mr,vS,xp,P5,zp,tM,tN,tO,NM,vT,nma,P6,Nb,Nc,Nd,naq,Nf,nam⟩:=h.ne;refine pD ?_ ?_ ?_ ?_ ?_ ?_ λk a1 a2 a3 a4 a5 a6=>?_<;>simp[bX, *]<;>rfl
def FX(a b c d N:Nat)(n:Nat):Nat:=if n=0 then a else if n=1 then b else if n=2 then c else if n=3 then d else N+n
def Qg{a b c d N:Nat}(h1:a<N)(h2:b<N)(h3:c<N)(h4:d<N)(n1:a≠b)(n2:a≠c)(n3:a≠d)(n4:b≠c)(n5:b≠d)(n6:c≠d)(x y:Nat)(e:FX a b c d N x=FX a b c d N y):x=y:=by
 unfold FX at e;repeat' split at e
 all_goals omega
def cE{l:bO}{y:Nat}(h:y<l.length):DM.rowAt (aG l) y=[ti (l.getD y default)]:=by simp[DM.rowAt,aG,h]
def t60{f0:bq}{p N:Nat}{h:Int}{x:c8}{v:SV}(hN:∀r,N<=r->f0 r=none)(hv:v.at f0 p)(ho:TW v.s h x):
  aR aj 88 [.ptr p 0,.v (ti h),.v (.agg [ti x.aH,ti x.size])] f0 ⟨True,.v (.eo []),bX f0 v (fG v.s h x)⟩:=by
 obtain⟨⟨Ow,HS⟩,Xj,Bl,hxo,cR⟩:=ho;obtain⟨y,rfl⟩:=Zae Ow;have hy:y<v.s.ak.length:=by omega
 obtain⟨xc,xs⟩:=x;obtain⟨R,hR⟩:=bb (fG v.s y ⟨xc,xs⟩);rw[hR];unfold fG at hR;have aC:=ok56 (ok81 (ok82 ay.nil));refine c60.pQ hN (by simp) λaT=>?_;obtain⟨nV,nW,nX,uP,nw,uQ,PZ,TX,pq,TY,zi,aar,zj,P0,pu,nY,aaE,zk,aaF,zl,P3,aaG,nZ,oa,zm,aaH,zn,P4,zo,tH,tJ,tK,xo,PD,nqa,qj,mo,mq,mr,vS,xp,P5,zp,tM,tN,tO,NM,vT,nma,P6,Nb,Nc,Nd,naq,Nf,nam⟩:=hv.ne;have h1:=hv.sp;have h2:=hv.rb;have h3:=hv.rf;have h4:=hv.rh;have nu:p<N:=(aT p _ h1).1;have UN:v.k.rb<N:=(aT _ _ h2).1;have hfN:v.k.rf<N:=(aT _ _ h3).1;have hhN:v.k.rh<N:=(aT _ _ h4).1;have NK:v.k.q<N:=(aT _ _ hv.q).1;have hpqN:v.k.hp<N:=(aT _ _ hv.hp).1;have BS:v.k.m<N:=(aT _ _ hv.m).1;simp only[ma,qK,rU,rV]at h1 h2 h3 h4;have rr1:=dd hy;have rr2:=jG (show y<v.s.bZ.length by omega);have rr3:=cE (show y<v.s.fl.length by omega);obtain⟨⟨bc,bs⟩,hbe⟩:=bb (v.s.ak.getD y default);obtain⟨fb,MC⟩:=bb (v.s.bZ.getD y false);obtain⟨hd,hhd⟩:=bb (v.s.fl.getD y 0);rw[hbe]at rr1;rw[show(default:Bool)=false from rfl,MC]at rr2;rw[show(default:Int)=0 from rfl,hhd]at rr3;have JG:bv v.s.ak y=⟨bc,bs⟩:=hbe;simp only[Zag,MC,hhd,JG]at hR cR;have lq:y<v.s.bZ.length:=by omega
 have fJ:y<v.s.fl.length:=by omega
 simp;apply aa.ch aC fw [0,1,5];simp[Lh];refine aa.le (kO (l:=[(0,.ptr p 0),(1,.v (ti y)),(5,.v (.box [ti xc,ti xs]))]) (ba:=N+500) aT (by omega) (by simp;omega) ?_) ?_
 ·have np:∀k,p≠N+k:=λk=>by omega
  simp[Nat.add_assoc,hv.sp];exact bL (l:=[]) aT (by omega) (by simp)
 apply aa.seq;obtain⟨c1,bU⟩:=bb (decide (fb=true\/xc>=1099511627776\/¬(⟨xc,xs⟩:c8).lt ⟨bc,bs⟩):Bool);refine aa.cz aC fw [(0,.ptr p 0),(1,.v (ti y)),(5,.v (.box [ti xc,ti xs])),(29,.v (.bool c1))] ?_ ?_
 ·cases fb with
  |true=>
   have:c1=true:=by rw[<-bU];simp
   simp[BM,h1,h3,lq,rr2,this]
  |false=>
   by_cases q2:xc>=1099511627776
   ·have:c1=true:=by rw[<-bU];simp[q2]
    simp[BM,h1,h3,lq,rr2,q2,this]
   ·by_cases q3:(⟨xc,xs⟩:c8).lt ⟨bc,bs⟩
    ·have:c1=false:=by rw[<-bU];simp[q2,q3]
     simp[BM,h1,h2,h3,hy,lq,rr1,rr2,q2,q3,this]
    ·have:c1=true:=by rw[<-bU];simp[q3]
     simp[BM,h1,h2,h3,hy,lq,rr1,rr2,q2,q3,this]
 refine aa.cond rfl (λg=>?_) (λg=>?_)
 ·have g:c1=true:=by simpa using g
  subst g;rw[Zai (Zat bU)]at hR;rw[<-hR,eH hv];apply aa.ret;simp[wU];rfl
 ·have g:c1=false:=by simpa using g
  subst g;have hc:=Zay bU;rw[Zab hc]at hR;have cR:=cR hc;apply aa.skip;simp;obtain⟨B,hB⟩:=bb (v.s.ak.set y ⟨xc,xs⟩);have hBT:bC B=(bC v.s.ak).set y [ti xc,ti xs]:=by rw[<-hB];simp[bC,Zcd]
  rw[hB]at hR cR;have wp:∀w,DM.rowAt ((bC v.s.ak).set y w) (y:Int)=w:=λw=>by simp[DM.rowAt,hy]
  apply aa.ch aC fw [0,1];simp[Li,h1,h2,hy,rr1];have e1:=Fz hv v.s B;rw[eH hv,hBT]at e1;rw[e1];have mQ:=kH hv ⟨B,v.s.bZ,v.s.fl,v.s.s⟩;obtain⟨G,hG⟩:=bb (bX f0 v ⟨B,v.s.bZ,v.s.fl,v.s.s⟩);have j1:=mQ.sp;have j4:=mQ.rh;have k81:=λa b=>k81_eq (hd:=a) (x:=b) mQ.qv;have k82:=λa=>k82_eq (x:=a) mQ.qv;have eq:=λs=>rF hv ⟨B,v.s.bZ,v.s.fl,v.s.s⟩ s;rw[hG]at j1 j4 k81 k82 eq⊢;simp only[ma,rV,SV.qv]at j1 j4 k81 k82 eq;apply aa.ch aC fw [0,1,44];simp[Lj,j1,j4,fJ,rr3];refine aa.cond rfl (λg=>?_) (λg=>?_)
  ·have g:0<=hd:=by simpa using g
   rw[Zai g]at hR cR;refine aa.pe aC fw (rs:=eR ZO []) (.inr ⟨_,rfl⟩) (by kernel_rfl) [] ?_;simp[ZO,eR,j1,j4,fJ,rr3,k81,cR,eq,wU,hR]
  ·have g:¬0<=hd:=by simpa using g
   rw[Zab g]at hR cR;have hkn:∀s',GL [v.k.q,v.k.hp,v.k.m] G (bX f0 v ⟨B,v.s.bZ,v.s.fl,s'⟩):=by
    intro s' n hn;simp only[Zah,Zal,or_false,not_or]at hn;rw[<-eq s'];simp[bH,hn]
   obtain⟨S',hS'⟩:=bb (gX B v.s.s y);rw[hS']at hR;have e2:=JD hv ⟨B,v.s.bZ,v.s.fl,S'⟩ (v.s.fl.set y v.s.s.next);have hHT:aG (v.s.fl.set y v.s.s.next)=(aG v.s.fl).set y [ti v.s.s.next]:=by simp[aG,Zcd]
   rw[hHT]at e2;have hv3:=(kH hv ⟨B,v.s.bZ,v.s.fl,S'⟩).rh;simp only[rV]at hv3;refine aa.pe aC fw (rs:=c5 (FX p v.k.q v.k.hp v.k.m N) (eR ZP [none,none,none,some [0],none,none,none,none,none,none,some [1,2,3],none,none])) (.inr ⟨_,rfl⟩) ((dX (Qg nu NK hpqN BS uP nw uQ xo PD xp) _ _ _).trans (by kernel_rfl)) [] ?_;simp[ZP,eR,c5,fk,FX,cP,bG,aN,j1,fJ,rr3,k82,cR,eq,wU,hS',hkn,hv3,JE,e2,hR]
end
section
variable{fn:Nat}{bY:bB}
def j9(l:List It):DV:=if l=[]then .aW else .v (.sl (mb l))
def FY(D:DV)(r:di):Prop:=mO D/\cellsOf D=[.v (ti r.kind),.v (ti r.head),.v (ti r.a),.v (ti r.b),.v (ti r.cq),.v (ti r.origin)]
def Qh(r:di):FY (.agg [.v (ti r.kind),.v (ti r.head),.v (ti r.a),.v (ti r.b),.v (ti r.cq),.v (ti r.origin)]) r:=⟨trivial,rfl⟩
def ruleD2(r:di):FY (.v (.agg r.enc)) r:=⟨trivial,rfl⟩
structure zL(fn:Nat)(bY:bB)(L:List gf)(F:Nat->bq)(B:Nat->Bool)(m:Nat):Prop where
 call:∀j i,L[j]? =some i->j<m->∀N,(∀r,N<=r->F j r=none)->aR aj fn ([.v (ti i.1),.v (ti i.2.1),j9 i.2.2]++bY) (F j) ⟨True,.v (.bool (B j)),F (j+1)⟩
 none:∀j r,j<m->F j r=none->F (j+1) r=none
 go:∀j,j+1<m->B j=true
 stop:m=L.length\/(0<m/\m<=L.length/\B (m-1)=false)
def zL.le{L:List gf}{F:Nat->bq}{B:Nat->Bool}{m:Nat}(h:zL fn bY L F B m):m<=L.length:=by
 rcases h.stop with h|h<;>omega
def zL.next{L:List gf}{F:Nat->bq}{B:Nat->Bool}{m j:Nat}(h:zL fn bY L F B m)(hb:∀k,k<j->B k=true)(hj:j<L.length):j<m:=by
 rcases h.stop with h1|⟨h1,h2,h3⟩
 ·omega
 ·rcases Zc5 j m with h4|h4
  ·exact h4
  ·have:=hb (m-1) (by omega);rw[h3]at this;cases this
def zL.end{L:List gf}{F:Nat->bq}{B:Nat->Bool}{m j:Nat}(h:zL fn bY L F B m)(hj:j<m)(hb:B j=false):m=j+1:=by
 rcases Zc5 (j+1) m with h1|h1
 ·have:=h.go j h1;rw[hb]at this;cases this
 ·omega
def zL.env{L:List gf}{F:Nat->bq}{B:Nat->Bool}{m j:Nat}{i:gf}(h:zL fn bY L F B m)(hi:L[j]? =some i)(hj:j<m):
  ay aj (bu [(fn,eS (k1 ([.v (ti i.1),.v (ti i.2.1),j9 i.2.2]++bY) (F j) (.v (.bool (B j))) (F (j+1))))]):=
 Hd ay.nil (λN hN=>h.call j i hi hj N hN) (λr hr=>h.none j r hj hr)
structure Seen(z:eY)(p N:Nat)(k:NN)(F:Nat->bq)(m:Nat):Prop where
 wW:∀j,j<=m->∃s:kl,(⟨k,z,s⟩:SV).at (F j) p
 cl:∀j,j<=m->dh (F j) N
def Seen.sp{z:eY}{p N m j:Nat}{k:NN}{F:Nat->bq}(h:Seen z p N k F m)(hj:j<=m):F j p=some (.box (ma k z)):=by
 obtain⟨s,hs⟩:=h.wW j hj;exact hs.sp
end
section
variable{z:eY}{r:di}{fn:Nat}{bY:bB}
def inst1(h:r.kind=1):cD z r=if z.fr=z.to then [(z.fr,r.cq,[])]else []:=by unfold cD;rw[Zai h]
def inst2(h:r.kind=2):cD z r=(List.range' (jn z) (tW z-jn z)).filterMap (tT z r):=by unfold cD;rw[Zab (by omega),Zai h]
def inst3(h:r.kind=3):cD z r=[(z.fr,r.cq,[(r.a,z.fr,z.to)])]:=by unfold cD;rw[Zab (by omega),Zab (by omega),Zai h]
def inst4(h:r.kind=4):cD z r=(List.range ((z.to-z.fr).toNat+1)).map λ(d:Nat)=>pE z r (z.fr+(d:Int)):=by unfold cD;rw[Zab (by omega),Zab (by omega),Zab (by omega),Zai h]
def inst0(h:r.kind≠1/\r.kind≠2/\r.kind≠3/\r.kind≠4):cD z r=[]:=by unfold cD;rw[Zab h.1,Zab h.2.1,Zab h.2.2.1,Zab h.2.2.2]
def xG(z:eY)(r:di)(i:Nat):Nat:=((List.range' (jn z) (i-jn z)).filterMap (tT z r)).length
def JX(z:eY)(r:di):xG z r (jn z)=0:=by simp[xG]
def Np(s n:Nat):List.range' s (n+1)=List.range' s n++[s+n]:=by
 rw[List.range'_concat];simp
def WY{i:Nat}(h:jn z<=i):xG z r (i+1)=xG z r i+(if(z.l.bE.getD i default).term=r.a then 1 else 0):=by
 unfold xG;rw[show i+1-jn z=(i-jn z)+1 by omega,Np,List.filterMap_append,ZaK,show jn z+(i-jn z)=i by omega];by_cases e:(z.l.bE.getD i default).term=r.a
 ·have:tT z r i=some ((i:Int),r.cq+(z.l.bE.getD i default).aH,[]):=Zai e;rw[ZcR,this,Zai e];rfl
 ·have:tT z r i=none:=Zab e;rw[ZcR,this,Zab e];rfl
def cntA_get{i:Nat}(h:jn z<=i)(hi:i<tW z)(e:(z.l.bE.getD i default).term=r.a):
  ((List.range' (jn z) (tW z-jn z)).filterMap (tT z r))[xG z r i]? =some ((i:Int),r.cq+(z.l.bE.getD i default).aH,[]):=by
 have h1:List.range' (jn z) (tW z-jn z)=List.range' (jn z) (i-jn z)++i::List.range' (i+1) (tW z-(i+1)):=by
  rw[show tW z-jn z=(i-jn z)+(1+(tW z-(i+1)))by omega,<-List.range'_append_1,<-List.range'_append_1,show jn z+(i-jn z)=i by omega];rfl
 rw[h1,List.filterMap_append];unfold xG;have:tT z r i=some ((i:Int),r.cq+(z.l.bE.getD i default).aH,[]):=Zai e;rw[Za9 (Zaf _),Zcp,ZcR,this];rfl
def cntA_hi(z:eY)(r:di):xG z r (tW z)=((List.range' (jn z) (tW z-jn z)).filterMap (tT z r)).length:=rfl
def zL.one{L:List gf}{F:Nat->bq}{B:Nat->Bool}{m:Nat}(h:zL fn bY L F B m)(hL:L.length=1):m=1:=by
 have h1:=h.next (j:=0) (λ_ h=>Zar h (Nat.not_lt_zero _)) (by omega);have:=h.le;omega
def zL.full{L:List gf}{F:Nat->bq}{B:Nat->Bool}{m j:Nat}(h:zL fn bY L F B m)(hj:j=L.length)(hb:∀k,k<j->B k=true):m=j:=by
 rcases h.stop with h1|⟨h1,h2,h3⟩
 ·omega
 ·have:=hb (m-1) (by omega);rw[h3]at this;cases this
def lY(l:cO):bB:=l.map λx=>.ptr x 0
def FZ(l:cO)(f:bq):Prop:=∀x∈l,∃cs,f x=some (.box cs)
def vN{f g:bq}:∀{l:cO},FZ l f->FZ l g->ij f g id (lY l) (lY l)
 |[],_,_=>rfl
 |x::l,h,k=>by
  obtain⟨cs,hc⟩:=h x (by simp);obtain⟨iz,Xb⟩:=k x (by simp);refine⟨?_,vN (λy hy=>h y (by simp[hy])) (λy hy=>k y (by simp[hy]))⟩;simp[Xb]
def t57{p N m:Nat}{bY:cO}{F:Nat->bq}{B:Nat->Bool}{k:NN}(hs:Seen z p N k F m)(hf:zL fn (lY bY) (cD z r) F B m)
  (hm:mono z) (Xs:z.l.bE.length<=1000000000) (vR:0<=z.fr/\z.fr<=z.to/\z.to<=1000) (hp:0<=r.cq/\r.cq<=1000) (hac:∀a∈z.l.bE,0<=a.aH/\a.aH<=1099511627776) (hcp:FZ bY (F 0)) {D:DV} (hD:FY D r):
  aR aj 85 [.ptr p 0,D,.nG (.func fn) (lY bY)] (F 0) ⟨True,.v (.eo []),F m⟩:=by
 have hN0:∀{j},j<=m->∀r,N<=r->F j r=none:=λ{j} hj r hr=>by
  cases h:F j r with
  |none=>rfl
  |some o=>have:=(hs.cl j hj r o h).1;omega
 have spj:=λ{j} (hj:j<=m)=>hs.sp (j:=j) hj;simp only[ma]at spj;have sp0:=spj (ZbB m);have nu:p<N:=(hs.cl 0 (ZbB m) p _ sp0).1;have np:∀k,p≠N+k:=λk=>by omega
 obtain⟨C,hC⟩:=bb (lY bY);have cR:ij (aM [] (F 0)) (aM [] (F 0)) id C C:=by rw[<-hC];exact vN hcp hcp
 obtain⟨rk,rh,ra,rb,rp,ro⟩:=r;obtain⟨RR,zQ⟩:=bb ((⟨rk,rh,ra,rb,rp,ro⟩:di):di);have hRa:RR.a=ra:=by rw[<-zQ]
 have hRb:RR.b=rb:=by rw[<-zQ]
 have hRp:RR.cq=rp:=by rw[<-zQ]
 have hRk:RR.kind=rk:=by rw[<-zQ]
 rw[zQ,hC]at hf;simp only at hp;refine c57.pQ (hN0 (ZbB m)) (by simp) λaT=>?_;obtain⟨hD1,hD2⟩:=hD;simp[hC];apply aa.ch cF fw [0,2,4];simp[d57r0,hD1,hD2,-mO,-cellsOf];have hcc1:ij (aM [(N+5,.box [.v (ti rk),.v (ti rh),.v (ti ra),.v (ti rb),.v (ti rp),.v (ti ro)])] (F 0)) (aM [] (F 0)) id C C:=by
  rw[<-hC];refine vN (λx hx=>?_) hcp;obtain⟨cs,hc⟩:=hcp x hx;have:=(aT x _ hc).1;exact⟨cs,by simp[hc];omega⟩
 refine aa.le (kO (l:=[(0,.ptr p 0),(2,.nG (.func fn) C),(4,.v (.box [ti rk,ti rh,ti ra,ti rb,ti rp,ti ro]))]) (ba:=N+500) aT (by omega) (by simp;omega) ?_) ?_
 ·simp[Nat.add_assoc,sp0,fR,iL,hcc1];exact bL (l:=[]) aT (by omega) (by simp)
 show aa _ _ _ _ ⟨_,F 0,_,_,_⟩;apply aa.ch cF fw [0,2,4,11];simp[d57r1];apply aa.block;apply aa.ch cF fw [0,2,4,11,12];simp[d57r2];refine aa.cond rfl (λg=>?_) (λg=>?_)
 ·have g:rk=1:=by simpa using g
  rw[inst1 (by omega)]at hf;apply aa.ch cF fw [0,2,4,22];simp[d57r3,sp0];refine aa.cond rfl (λg2=>?_) (λg2=>?_)
  ·have g2:z.fr=z.to:=by simpa using g2
   rw[Zai g2]at hf;have QD:=hf.one rfl;have aC:=hf.env (j:=0) (i:=(z.fr,RR.cq,[])) rfl (by omega);apply aa.fK aC fw [];simp[d57r4,sp0,j9,hRp,sG,QD]
  ·have g2:¬z.fr=z.to:=by simpa using g2
   rw[Zab g2]at hf;have hm0:m=0:=by have:=hf.le;simpa using this
   apply aa.skip;simp[sG,hm0]
 have g1:rk≠1:=by simpa using g
 apply aa.ch cF fw [0,2,4,11,31];simp[d57r5];refine aa.cond rfl (λg=>?_) (λg=>?_)
 ·have g:rk=2:=by simpa using g
  rw[inst2 (by omega)]at hf;obtain⟨s0,hv0⟩:=hs.wW 0 (ZbB m);have k80:=k80_eq hv0;have hih:=wu z;apply aa.cX (ok80 ay.nil) fw (rs:=O2) rfl (by kernel_rfl) [0,2,4,6,7];simp[O2,k80,hm,Xs];apply aa.ch cF fw [0,2,4,7,8];simp[d57r7];have e0:F 0=F (xG z RR (jn z)):=by rw[JX]
  apply aa.block;refine aa.loop (λi:Nat=>⟨DM.look [(0,.ptr p 0),(2,.nG (.func fn) C),(4,.v (.box [ti rk,ti rh,ti ra,ti rb,ti rp,ti ro])),(7,.v (ti (tW z))),(8,.v (ti i))],F (xG z RR i),N+1000,N,[]⟩)
   (λi=>jn z<=i/\i<=tW z/\xG z RR i<=m/\∀q,q<xG z RR i->B q=true) (λi=>tW z-i) (jn z) (by rw[<-e0];exact Le.same (λr hr=>hN0 (ZbB m) r (by omega)) (by simp[gn])) ⟨Zaf _,hih.1,by rw[JX];omega,by rw[JX];intro q hq;omega⟩ (λi hi=>?_)
  obtain⟨i1,i2,i3,i4⟩:=hi;have spi:=spj i3;apply aa.seq;apply aa.ch cF fw [0,2,4,7,8,41];simp[d57r8];refine aa.cond rfl (λg=>?_) (λg=>?_)
  ·have g:i<tW z:=by simpa using g
   have As:i<z.l.bE.length:=by omega
   have rr:=w7 As;have uG:=hac _ (bm As);have oj:=WY (z:=z) (r:=RR) (i:=i) i1;have hcg:=cntA_get (z:=z) (r:=RR) (i:=i) i1 g;have hch:=cntA_hi z RR;obtain⟨⟨af,wW,ae,ac,ao⟩,hx⟩:=bb (z.l.bE.getD i default);rw[hx]at rr uG oj hcg;simp only[cw.enc]at rr;simp only[hRa,hRp]at uG oj hcg;have w1:IntKind.i64.wrap (rp+ac)=rp+ac:=aF (by omega);have w2:IntKind.i64.wrap ((i:Int)+1)=((i+1:Nat):Int):=by rw[aF (by omega)];omega
   apply aa.skip;simp;apply aa.seq;apply aa.block;by_cases e:ae=ra
   ·rw[Zai e]at oj;have mF:=hcg e;have hjm:=hf.next i4 (Zaw.1 mF).1;have aC:=hf.env mF hjm;obtain⟨b,hb⟩:=bb (B (xG z RR i));rw[hb]at aC;apply aa.ch aC fw [0,2,4,7,8,73];simp[Z1,spi,As,rr,e,j9,w1];refine aa.cond rfl (λg2=>?_) (λg2=>?_)
    ·have g2:b=false:=by simpa using g2
     rw[g2]at hb;have hme:=hf.end hjm hb;apply aa.ret;simp[sG,hme]
    ·have g2:b=true:=by simpa using g2
     rw[g2]at hb;apply aa.skip;simp;apply aa.fK cF fw [0,2,4,7,8];simp[O3,w2];refine⟨i+1,by rw[oj];exact Le.same (λr hr=>hN0 hjm r (by omega)) (by simp[gn]),⟨by omega,by omega,by omega,λq hq=>?_⟩,by omega⟩;by_cases hqe:q=xG z RR i
     ·rw[hqe];exact hb
     ·exact i4 q (by omega)
   ·rw[Zab e]at oj;apply aa.ch cF fw [0,2,4,7,8,73];simp[Z1,spi,As,rr,e];refine aa.cond rfl (λg2=>by cases g2) (λg2=>?_);apply aa.skip;simp;apply aa.fK cF fw [0,2,4,7,8];simp[O3,w2];exact⟨i+1,by rw[oj];exact Le.same (λr hr=>hN0 i3 r (by omega)) (by simp[gn]),⟨by omega,by omega,by omega,λq hq=>i4 q (by omega)⟩,by omega⟩
  ·have g:¬i<tW z:=by simpa using g
   have hie:i=tW z:=by omega
   have hme:=hf.full (j:=xG z RR i) (by rw[hie];rfl) i4;apply aa.exit;simp[sG,hme]
 have g2:rk≠2:=by simpa using g
 apply aa.ch cF fw [0,2,4,11,74];simp[Z2];refine aa.cond rfl (λg=>?_) (λg=>?_)
 ·have g:rk=3:=by simpa using g
  rw[inst3 (by omega)]at hf;have QD:=hf.one rfl;have aC:=hf.env (j:=0) (i:=(z.fr,RR.cq,[(RR.a,z.fr,z.to)])) rfl (by omega);have hch:fU 3 1 [ti ra,ti z.fr,ti z.to]=[[ti ra,ti z.fr,ti z.to]]:=rfl;apply aa.fK aC fw [];simp[Z3,sp0,j9,hRp,hRa,sG,QD,hch,mb,itT]
 have g3:rk≠3:=by simpa using g
 apply aa.ch cF fw [0,2,4,11,96];simp[Z4];refine aa.cond rfl (λg=>?_) (λg=>?_)
 ·have g:rk=4:=by simpa using g
  rw[inst4 (by omega)]at hf;have Xq:((List.range ((z.to-z.fr).toNat+1)).map λ(d:Nat)=>pE z RR (z.fr+(d:Int))).length=(z.to-z.fr).toNat+1:=by simp
  apply aa.ch cF fw [0,2,4,9];simp[Z5,sp0];apply aa.block;refine aa.loop (λd:Nat=>⟨DM.look [(0,.ptr p 0),(2,.nG (.func fn) C),(4,.v (.box [ti rk,ti rh,ti ra,ti rb,ti rp,ti ro])),(9,.v (ti (z.fr+(d:Int))))],F d,N+1000,N,[]⟩)
   (λd=>z.fr+(d:Int)<=z.to+1/\d<=m/\∀q,q<d->B q=true) (λd=>((z.to-z.fr).toNat+1)-d) 0 (Le.same (λr hr=>hN0 (ZbB m) r (by omega)) (by simp[gn])) ⟨by omega,by omega,by intro q hq;omega⟩ (λd hd=>?_)
  obtain⟨d1,d2,d3⟩:=hd;have spd:=spj d2;apply aa.seq;apply aa.ch cF fw [0,2,4,9,107];simp[Z6,spd];refine aa.cond rfl (λg=>?_) (λg=>?_)
  ·have g:z.fr+(d:Int)<=z.to:=by simpa using g
   have fl:d<(z.to-z.fr).toNat+1:=by omega
   have hjm:=hf.next d3 (by rw[Xq];exact fl);have mF:((List.range ((z.to-z.fr).toNat+1)).map λ(d:Nat)=>pE z RR (z.fr+(d:Int)))[d]? =some (pE z RR (z.fr+(d:Int))):=by simp[fl]
   have aC:=hf.env mF hjm;obtain⟨b,hb⟩:=bb (B d);rw[hb]at aC;have hch:fU 3 2 [ti ra,ti z.fr,ti (z.fr+(d:Int)),ti rb,ti (z.fr+(d:Int)),ti z.to]=[[ti ra,ti z.fr,ti (z.fr+(d:Int))],[ti rb,ti (z.fr+(d:Int)),ti z.to]]:=rfl;have w2:IntKind.i64.wrap (z.fr+(d:Int)+1)=z.fr+((d+1:Nat):Int):=by rw[aF (by omega)];omega
   apply aa.skip;simp;apply aa.seq;apply aa.block;apply aa.ch aC fw [0,2,4,9,132];simp[Z7,spd,j9,pE,hRp,hRa,hRb,hch,mb,itT];refine aa.cond rfl (λg2=>?_) (λg2=>?_)
   ·have g2:b=false:=by simpa using g2
    rw[g2]at hb;have hme:=hf.end hjm hb;apply aa.ret;simp[sG,hme]
   ·have g2:b=true:=by simpa using g2
    rw[g2]at hb;apply aa.skip;simp;apply aa.fK cF fw [0,2,4,9];simp[Z8,w2];refine⟨d+1,Le.same (λr hr=>hN0 hjm r (by omega)) (by simp[gn]),⟨by omega,by omega,λq hq=>?_⟩,by omega⟩;by_cases hqe:q=d
    ·rw[hqe];exact hb
    ·exact d3 q (by omega)
  ·have g:¬z.fr+(d:Int)<=z.to:=by simpa using g
   have hme:=hf.full (j:=d) (by rw[Xq];omega) d3;apply aa.exit;simp[sG,hme]
 ·have g4:rk≠4:=by simpa using g
  rw[inst0 (by rw[hRk];exact⟨g1,g2,g3,g4⟩)]at hf;have hm0:m=0:=by have:=hf.le;simpa using this
  apply aa.skip;simp[sG,hm0]
end
section
variable{z:eY}{r:di}
def bound4(h:r.kind=4):eD z r=[pE z r z.fr,pE z r z.to]:=by unfold eD;rw[Zai h]
def bound0(h:r.kind≠4):eD z r=cD z r:=by unfold eD;rw[Zab h]
def t87{fn p N m:Nat}{bY:cO}{F:Nat->bq}{k:NN}(hs:Seen z p N k F m)(hf:zL fn (lY bY) (eD z r) F (λ_=>true) m)(hml:m=(eD z r).length)
  (hm:mono z) (Xs:z.l.bE.length<=1000000000) (vR:0<=z.fr/\z.fr<=z.to/\z.to<=1000) (hp:0<=r.cq/\r.cq<=1000) (hac:∀a∈z.l.bE,0<=a.aH/\a.aH<=1099511627776) (hcp:FZ bY (F 0)) {D:DV} (hD:FY D r):
  aR aj 126 [.ptr p 0,D,.nG (.func fn) (lY bY)] (F 0) ⟨True,.v (.eo []),F m⟩:=by
 have hN0:∀{j},j<=m->∀r,N<=r->F j r=none:=λ{j} hj r hr=>by
  cases h:F j r with
  |none=>rfl
  |some o=>have:=(hs.cl j hj r o h).1;omega
 have spj:=λ{j} (hj:j<=m)=>hs.sp (j:=j) hj;simp only[ma]at spj;have sp0:=spj (ZbB m);have nu:p<N:=(hs.cl 0 (ZbB m) p _ sp0).1;have np:∀k,p≠N+k:=λk=>by omega
 have rQ:∀r,F 0 r=none->F m r=none:=by
  have:∀j,j<=m->∀r,F 0 r=none->F j r=none:=by
   intro j;induction j with
   |zero=>intro _ r h;exact h
   |succ j ih=>intro hj r h;exact hf.none j r (by omega) (ih (by omega) r h)
  exact this m (Zaf m)
 have Qi:r.kind≠4->∀N',(∀r,N'<=r->F 0 r=none)->aR aj 85 [.ptr p 0,.v (.agg r.enc),.nG (.func fn) (lY bY)] (F 0) ⟨True,.v (.eo []),F m⟩:=λhk N' _=>by
  rw[bound0 hk]at hf;exact t57 hs hf hm Xs vR hp hac hcp (ruleD2 r)
 obtain⟨C,hC⟩:=bb (lY bY);obtain⟨rk,rh,ra,rb,rp,ro⟩:=r;obtain⟨RR,zQ⟩:=bb ((⟨rk,rh,ra,rb,rp,ro⟩:di):di);have hRa:RR.a=ra:=by rw[<-zQ]
 have hRb:RR.b=rb:=by rw[<-zQ]
 have hRp:RR.cq=rp:=by rw[<-zQ]
 have hRk:RR.kind=rk:=by rw[<-zQ]
 rw[hC]at Qi;simp only[di.enc]at Qi;rw[zQ,hC]at hf;rw[zQ]at hml;refine c87.pQ (hN0 (ZbB m)) (by simp) λaT=>?_;obtain⟨hD1,hD2⟩:=hD;simp[hC];apply aa.ch cF fw [0,2,4];simp[d87r0,hD1,hD2,-mO,-cellsOf];have hcc1:ij (aM [(N+5,.box [.v (ti rk),.v (ti rh),.v (ti ra),.v (ti rb),.v (ti rp),.v (ti ro)])] (F 0)) (aM [] (F 0)) id C C:=by
  rw[<-hC];refine vN (λx hx=>?_) hcp;obtain⟨cs,hc⟩:=hcp x hx;have:=(aT x _ hc).1;exact⟨cs,by simp[hc];omega⟩
 refine aa.le (kO (l:=[(0,.ptr p 0),(2,.nG (.func fn) C),(4,.v (.box [ti rk,ti rh,ti ra,ti rb,ti rp,ti ro]))]) (ba:=N+500) aT (by omega) (by simp;omega) ?_) ?_
 ·simp[Nat.add_assoc,sp0,fR,iL,hcc1];exact bL (l:=[]) aT (by omega) (by simp)
 show aa _ _ _ _ ⟨_,F 0,_,_,_⟩;apply aa.seq;apply aa.ch cF fw [0,2,4,10];simp[d87r1];refine aa.cond rfl (λg=>?_) (λg=>?_)
 ·have g:rk≠4:=by simpa using g
  have aC:=Hd (ay.nil) (Qi g) rQ;apply aa.cX aC fw (rs:=O4) rfl (by kernel_rfl) [];simp[O4];apply aa.ret;simp[O5]
 ·have g:rk=4:=by simpa using g
  rw[bound4 (by omega)]at hf hml;simp only[Za5,Zcj]at hml;apply aa.skip;simp;have hch:fU 1 2 [ti z.fr,ti z.to]=[[ti z.fr],[ti z.to]]:=rfl;apply aa.ch cF fw [0,2,4,23,24,25];simp[d87r3,sp0,hch];apply aa.block;refine aa.loop (λj:Nat=>⟨DM.look [(0,.ptr p 0),(2,.nG (.func fn) C),(4,.v (.box [ti rk,ti rh,ti ra,ti rb,ti rp,ti ro])),(23,.v (.sl [[ti z.fr],[ti z.to]])),(24,.v (ti 2)),(25,.v (ti j))],F j,N+1000,N,[]⟩)
   (λj=>j<=2) (λj=>2-j) 0 (Le.same (λr hr=>hN0 (ZbB m) r (by omega)) (by simp[gn])) (by omega) (λj hj=>?_)
  have spd:=spj (show j<=m by omega);apply aa.ch cF fw [0,2,4,23,24,25,26];simp[d87r4];apply aa.seq;refine aa.cond rfl (λg=>?_) (λg=>?_)
  ·have gi:(j:Int)<2:=by simpa using g
   have g:j<2:=by omega
   obtain⟨x,hx⟩:=bb ((if j=0 then z.fr else z.to));have wp:DM.rowAt [[ti z.fr],[ti z.to]] (j:Int)=[ti x]:=by
    rw[<-hx];rcases(show j=0\/j=1 by omega)with rfl|rfl<;>rfl
   have mF:[pE z RR z.fr,pE z RR z.to][j]? =some (pE z RR x):=by
    rw[<-hx];rcases(show j=0\/j=1 by omega)with rfl|rfl<;>rfl
   have aC:=hf.env mF (by omega);have hch:fU 3 2 [ti ra,ti z.fr,ti x,ti rb,ti x,ti z.to]=[[ti ra,ti z.fr,ti x],[ti rb,ti x,ti z.to]]:=rfl;have w2:IntKind.i64.wrap ((j:Int)+1)=((j+1:Nat):Int):=by rw[aF (by omega)];omega
   apply aa.skip;simp;apply aa.seq;apply aa.block;apply aa.ch cF fw [0,2,4,7,23,24,25];simp[d87r5,wp,gi];apply aa.fK aC fw [0,2,4,23,24,25];simp[d87r6,spd,j9,pE,hRp,hRa,hRb,hch,mb,itT];apply aa.fK cF fw [0,2,4,23,24,25];simp[d87r7,w2];exact⟨j+1,Le.same (λr hr=>hN0 (show j+1<=m by omega) r (by omega)) (by simp[gn]),by omega,by omega⟩
  ·have gi:(2:Int)<=j:=by simpa using g
   have hme:m=j:=by omega
   apply aa.exit;simp[O5,hme]
end
section
variable{f:bq}{sB rB:Nat}{r:di}
def xH(l:List It):aN (j9 l)=[]:=by unfold j9;split<;>simp[aN]
def k59_D{v:SV}{p:Nat}{l:List It}(hv:v.at f p):k59 [.ptr p 0,j9 l] f=⟨l.length<=1000,.v (.bool (ff v.z l)),f⟩:=by
 unfold j9;split
 ·rename_i e;subst e;rw[k59_nil hv];simp[ff]
 ·exact k59_eq hv
def k61_D{v:SV}{p:Nat}{c:Int}{l:List It}(hv:v.at f p)(hb:v.okB)(hl:l.length<=1000)(hi:itOk v.z v.s.ak l)(hc:0<=c/\c<=4000000000000):k61 [.ptr p 0,.v (ti c),j9 l] f=⟨True,.v (.agg [ti (j8 v.z v.s.ak c l).aH,ti (j8 v.z v.s.ak c l).size]),f⟩:=by
 unfold j9;split
 ·rename_i e;subst e;rw[k61_nil hv];simp[hc]
 ·rw[k61_eq hv];simp[hb,hl,hi,hc]
def Qk{z:eY}{l:List It}(h:ff z l=true):l≠[]:=by
 rintro rfl;simp[ff]at h
def k89_D{v:SV}{p:Nat}{l:List It}(hv:v.at f p)(hn:l≠[])(hl:l.length<=1000)(hf:∀x∈l,me v.z x->0<=x.1/\x.1<v.s.bZ.length):k89 [.ptr p 0,j9 l] f=⟨True,.v (.bool (!od v.z v.s.bZ l)),f⟩:=by
 unfold j9;rw[Zab hn,k89_eq hv];simp[hl];exact λa b c h hi=>hf _ h hi
def dS(r:di):Ob:=.box [.v (ti r.kind),.v (ti r.head),.v (ti r.a),.v (ti r.b),.v (ti r.cq),.v (ti r.origin)]
structure JY(v:SV)(i:gf):Prop where
 b:v.okB
 l:i.2.2.length<=1000
 it:itOk v.z v.s.ak i.2.2
 p:0<=i.2.1/\i.2.1<=4000000000000
def tg(a b c N:Nat)(n:Nat):Nat:=if n=0 then a else if n=1 then b else if n=2 then c else N+n
def xI{a b c N:Nat}(h1:a<N)(h2:b<N)(h3:c<N)(n1:a≠b)(n2:a≠c)(n4:b≠c)(x y:Nat)(e:tg a b c N x=tg a b c N y):x=y:=by
 unfold tg at e;repeat' split at e
 all_goals omega
def xJ(l:cO)(o:bq):GL l o o:=λ_ _=>rfl
def t58{p N:Nat}{v:SV}{i:gf}(hN:∀r,N<=r->f r=none)(hv:v.at f p)(hs:f sB=some (.box [.ptr p 0]))(hr:f rB=some (dS r))(ho:JY v i)(Ce:ff v.z i.2.2=false->TW v.s r.head (qJ v.z v.s.ak i)):
  aR aj 86 ([.v (ti i.1),.v (ti i.2.1),j9 i.2.2]++lY [sB,rB]) f ⟨True,.v (.bool true),bX f v (xi v.z r v.s i)⟩:=by
 obtain⟨g,c,l⟩:=i;obtain⟨o1,o2,o3,o4⟩:=ho;simp only at o2 o3 o4 Ce;obtain⟨R,hR⟩:=bb (xi v.z r v.s (g,c,l));rw[hR];unfold xi at hR;simp only at hR;have k1:=k59_D (l:=l) hv;have k2:=k61_D (l:=l) (c:=c) hv o1 o2 o3 o4;obtain⟨U,hU⟩:=bb (j9 l);have hUn:aN U=[]:=by rw[<-hU];exact xH l
 simp only[hU]at k1 k2⊢;obtain⟨V,hV⟩:=bb (j8 v.z v.s.ak c l);have hV2:qJ v.z v.s.ak (g,c,l)=V:=hV;rw[hV2]at Ce hR;rw[hV]at k2;obtain⟨w,hw⟩:=bb (ff v.z l);rw[hw]at Ce hR k1;refine c58.pQ hN (by simp[lY]) λaT=>?_;have nu:p<N:=(aT p _ hv.sp).1;have hsN:sB<N:=(aT _ _ hs).1;have hrN:rB<N:=(aT _ _ hr).1;have n1:p≠sB:=λe=>by rw[<-e,hv.sp]at hs;simp[ma]at hs
 have n2:p≠rB:=λe=>by rw[<-e,hv.sp]at hr;simp[ma,dS]at hr
 have n3:sB≠rB:=λe=>by rw[e,hr]at hs;simp[dS]at hs
 simp only[dS]at hr;simp[lY];show aa _ _ _ _ ⟨_,f,_,_,_⟩;apply aa.ch cF fw [0,1,2,3,4];simp[Lm];apply aa.seq;apply aa.cX (ok59 ay.nil) fw (rs:=Z9) rfl (by kernel_rfl) [0,1,2,3,4,12];simp[Z9,hs,k1,o2];refine aa.cond rfl (λq=>?_) (λq=>?_)
 ·have q:w=false:=by simpa using q
  rw[Zab (by rw[q];simp)]at hR;have aC:=ok61 (Hd (ay.nil) (λN' Va=>t60 Va hv (Ce q)) (λr hr=>gK hv _ hr));rw[hR]at aC;refine aa.pe aC fw (rs:=c5 (tg p sB rB N) (eR aaa [some [1],none,some [2],none,none,none,some [0],none])) (.inr ⟨_,rfl⟩) ((dX (xI nu hsN hrN n1 n2 n3) _ _ _).trans (by kernel_rfl)) [] ?_;simp[aaa,eR,c5,fk,tg,cP,bG,aN,hs,hr,k2,hUn,xJ];apply aa.ch cF fw [8];simp[GW];apply aa.ret;simp[uI]
 ·have q:w=true:=by simpa using q
  rw[Zai q]at hR;apply aa.skip;simp;apply aa.ch cF fw [8];simp[GW];rw[<-hR,eH hv];apply aa.ret;simp[uI]
def t88{p N:Nat}{v:SV}{i:gf}(hN:∀r,N<=r->f r=none)(hv:v.at f p)(hs:f sB=some (.box [.ptr p 0]))(hr:f rB=some (dS r))(ho:JY v i)(hfl:v.s.bZ.length=v.s.ak.length)(Ce:ff v.z i.2.2=true->od v.z v.s.bZ i.2.2=false->TW v.s r.head (qJ v.z v.s.ak i)):
  aR aj 127 ([.v (ti i.1),.v (ti i.2.1),j9 i.2.2]++lY [sB,rB]) f ⟨True,.v (.bool true),bX f v (iP v.z r v.s i)⟩:=by
 obtain⟨g,c,l⟩:=i;obtain⟨o1,o2,o3,o4⟩:=ho;simp only at o2 o3 o4 Ce;obtain⟨R,hR⟩:=bb (iP v.z r v.s (g,c,l));rw[hR];unfold iP at hR;simp only at hR;have k1:=k59_D (l:=l) hv;have k2:=k61_D (l:=l) (c:=c) hv o1 o2 o3 o4;have k3:l≠[]->_:=λhl=>k89_D (l:=l) hv hl o2 (λx hx hi=>by rw[hfl];exact o3 x hx hi);have hwn:ff v.z l=true->l≠[]:=Qk;obtain⟨U,hU⟩:=bb (j9 l);have hUn:aN U=[]:=by rw[<-hU];exact xH l
 simp only[hU]at k1 k2 k3⊢;obtain⟨V,hV⟩:=bb (j8 v.z v.s.ak c l);have hV2:qJ v.z v.s.ak (g,c,l)=V:=hV;rw[hV2]at Ce hR;rw[hV]at k2;obtain⟨w,hw⟩:=bb (ff v.z l);rw[hw]at Ce hR k1 hwn;obtain⟨y,hy⟩:=bb (od v.z v.s.bZ l);rw[hy]at Ce hR k3;refine c88.pQ hN (by simp[lY]) λaT=>?_;have nu:p<N:=(aT p _ hv.sp).1;have hsN:sB<N:=(aT _ _ hs).1;have hrN:rB<N:=(aT _ _ hr).1;have n1:p≠sB:=λe=>by rw[<-e,hv.sp]at hs;simp[ma]at hs
 have n2:p≠rB:=λe=>by rw[<-e,hv.sp]at hr;simp[ma,dS]at hr
 have n3:sB≠rB:=λe=>by rw[e,hr]at hs;simp[dS]at hs
 simp only[dS]at hr;simp[lY];show aa _ _ _ _ ⟨_,f,_,_,_⟩;apply aa.ch cF fw [0,1,2,3,4];simp[d88r0];apply aa.seq;obtain⟨c1,bU⟩:=bb ((w&& !y):Bool);cases w with
 |false=>
  rw[Zab (by simp)]at hR;apply aa.cX (ok59 (ok89 ay.nil)) fw (rs:=Ek) rfl (by kernel_rfl) [0,1,2,3,4,16];simp[Ek,hs,k1,o2];refine aa.cond rfl (λq=>by cases q) (λq=>?_);apply aa.skip;simp;apply aa.ch cF fw [8];simp[Rj];rw[<-hR,eH hv];apply aa.ret;simp[IF]
 |true=>
  have k3:=k3 (hwn rfl);apply aa.cX (ok59 (ok89 ay.nil)) fw (rs:=Ek) rfl (by kernel_rfl) [0,1,2,3,4,16];simp[Ek,hs,k1,o2,k3];refine aa.cond rfl (λq=>?_) (λq=>?_)
  ·have q:y=false:=by simpa using q
   rw[Zai ⟨rfl,q⟩]at hR;have aC:=ok61 (Hd (ay.nil) (λN' Va=>t60 Va hv (Ce rfl q)) (λr hr=>gK hv _ hr));rw[hR]at aC;refine aa.pe aC fw (rs:=c5 (tg p sB rB N) (eR O6 [some [1],none,some [2],none,none,none,some [0],none])) (.inr ⟨_,rfl⟩) ((dX (xI nu hsN hrN n1 n2 n3) _ _ _).trans (by kernel_rfl)) [] ?_;simp[O6,eR,c5,fk,tg,cP,bG,aN,hs,hr,k2,hUn,xJ];apply aa.ch cF fw [8];simp[Rj];apply aa.ret;simp[IF]
  ·have q:y=true:=by simpa using q
   rw[Zab (by rw[q];simp)]at hR;apply aa.skip;simp;apply aa.ch cF fw [8];simp[Rj];rw[<-hR,eH hv];apply aa.ret;simp[IF]
def nF(v:c8):Ob:=.box [.v (ti v.aH),.v (ti v.size)]
def db(x:Cell):Ob:=.box [.v (ti x.aH),.v (ti x.size),.v (ti x.qE),.v (ti x.arg)]
def t90{p N vB iB cB:Nat}{v:SV}{w:c8}{k:Int}{x:Cell}{i:gf}(hN:∀r,N<=r->f r=none)(hv:v.at f p)(hs:f sB=some (.box [.ptr p 0]))(hw:f vB=some (nF w))(hi:f iB=some (.box [.v (ti k)]))(hx:f cB=some (db x))(ho:JY v i):
  aR aj 129 ([.v (ti i.1),.v (ti i.2.1),j9 i.2.2]++lY [sB,vB,iB,cB]) f
   ⟨True,.v (.bool (!decide (qJ v.z v.s.ak i=w))),if qJ v.z v.s.ak i=w then aM [(cB,db ⟨w.aH,w.size,k,i.1⟩)] f else f⟩:=by
 obtain⟨g,c,l⟩:=i;obtain⟨o1,o2,o3,o4⟩:=ho;simp only at o2 o3 o4;have k2:=k61_D (l:=l) (c:=c) hv o1 o2 o3 o4;obtain⟨U,hU⟩:=bb (j9 l);have hUn:aN U=[]:=by rw[<-hU];exact xH l
 simp only[hU]at k2⊢;obtain⟨⟨vc,vs⟩,hV⟩:=bb (j8 v.z v.s.ak c l);have hV2:qJ v.z v.s.ak (g,c,l)=⟨vc,vs⟩:=hV;rw[hV2];rw[hV]at k2;obtain⟨wc,ws⟩:=w;refine c90.pQ hN (by simp[lY]) λaT=>?_;have nu:p<N:=(aT p _ hv.sp).1;have hvN:vB<N:=(aT _ _ hw).1;have hsN:sB<N:=(aT _ _ hs).1;have n1:p≠vB:=λe=>by rw[<-e,hv.sp]at hw;simp[ma,nF]at hw
 have n2:p≠sB:=λe=>by rw[<-e,hv.sp]at hs;simp[ma]at hs
 have n3:vB≠sB:=λe=>by rw[e,hs]at hw;simp[nF]at hw
 have n4:vB≠cB:=λe=>by rw[e,hx]at hw;simp[nF,db]at hw
 have n5:iB≠cB:=λe=>by rw[e,hx]at hi;simp[db]at hi
 simp only[nF,db]at hw hx⊢;simp[lY];show aa _ _ _ _ ⟨_,f,_,_,_⟩;apply aa.ch cF fw [0,1,2,3,4,5,6];simp[d90r0];apply aa.seq;refine aa.jR (ok61 ay.nil) fw (rs:=c5 (tg p vB sB N) (eR O8 [none,none,none,some [0],some [1],none])) (.inr ⟨_,rfl⟩) ((dX (xI nu hvN hsN n1 n2 n3) _ _ _).trans (by kernel_rfl)) [0,3,4,5,6,16] ?_;simp[O8,eR,c5,fk,tg,cP,bG,aN,hs,hw,k2,hUn,xJ];refine aa.cond rfl (λq=>?_) (λq=>?_)
 ·have q:¬(vc=wc/\vs=ws):=by
   simp at q;rintro⟨rfl,rfl⟩;simp at q
  rw[Zab q];apply aa.ch cF fw [10];simp[d90r2];apply aa.ret;simp[O9];exact Classical.not_and_iff_not_or_not.1 q
 ·have q:vc=wc/\vs=ws:=by simpa using q
  rw[Zai q];apply aa.skip;simp;apply aa.ch cF fw [0,3,4,5,6];simp[d90r3,hw,hi,hx];apply aa.ch cF fw [10];simp[d90r4];apply aa.ret;simp[O9,q,JE]
end
section
variable{f:bq}{z:eY}{r:di}{st:kl}
def zM(A B:cV)(f:bq):aM A (aM B f)=aM (A++B) f:=by
 funext k;induction A with
 |nil=>rfl
 |cons a A ih=>
  obtain⟨r,o⟩:=a;simp only[aP,ZaM,ih]
def A7{A B:cV}(h:∀a∈A,∀b∈B,a.1≠b.1):aM A (aM B f)=aM B (aM A f):=by
 funext k;by_cases hA:∃o,(k,o)∈A
 ·obtain⟨o,ho⟩:=hA;have hB:∀o',(k,o')∉B:=λo' iA=>h _ ho _ iA rfl;rw[fj (l:=B) hB];obtain⟨o1,h1,h2⟩:=Cz (f:=aM B f) ho;obtain⟨o2,h3,h4⟩:=Cz (f:=f) ho;have key:∀(A:cV) (g:bq),(∃o,(k,o)∈A)->aM A g k=aM A f k:=by
   intro A g;induction A with
   |nil=>rintro⟨o,ho⟩;cases ho
   |cons a A ih=>
    rintro⟨o,ho⟩;rw[aP,aP];split
    ·rfl
    ·rename_i bT;rcases Zah.1 ho with e|ho
     ·exact Zar (by rw[<-e]) bT
     ·exact ih ⟨o,ho⟩
  exact key A _ ⟨o,ho⟩
 ·have hA:∀o',(k,o')∉A:=λo' iA=>hA ⟨o',iA⟩;rw[fj (l:=A) hA];by_cases hB:∃o,(k,o)∈B
  ·obtain⟨o,ho⟩:=hB;have key:∀(B:cV) (g:bq),(∃o,(k,o)∈B)->aM B g k=aM B f k:=by
    intro B g;induction B with
    |nil=>rintro⟨o,ho⟩;cases ho
    |cons a B ih=>
     rintro⟨o,ho⟩;rw[aP,aP];split
     ·rfl
     ·rename_i bT;rcases Zah.1 ho with e|ho
      ·exact Zar (by rw[<-e]) bT
      ·exact ih ⟨o,ho⟩
   exact(key B _ ⟨o,ho⟩).symm
  ·have hB:∀o',(k,o')∉B:=λo' iA=>hB ⟨o',iA⟩;rw[fj (l:=B) hB,fj (l:=B) hB,fj (l:=A) hA]
section
variable{v:SV}{f0:bq}{p N:Nat}{L:cV}
def WZ(aT:dh f0 N)(hv:v.at f0 p)(hL:∀q∈L,N<=q.1)(s s':kl):bX (aM L (bX f0 v s)) (v.to s) s'=aM L (bX f0 v s'):=by
 have h1:bX (aM L (bX f0 v s)) (v.to s) s'=aM L (bX (bX f0 v s) (v.to s) s'):=by
  have a1:=(aT _ _ hv.rb).1;have a2:=(aT _ _ hv.rf).1;have a3:=(aT _ _ hv.rh).1;have a4:=(aT _ _ hv.q).1;have a5:=(aT _ _ hv.hp).1;have a6:=(aT _ _ hv.m).1;refine A7 λa ha b hb=>?_;have:=hL b hb;simp only[Zah,Zal,or_false]at ha;rcases ha with rfl|rfl|rfl|rfl|rfl|rfl<;>simp only[]<;>omega
 rw[h1,zr]
def AW(aT:dh f0 N)(hv:v.at f0 p)(hL:∀q∈L,N<=q.1)(a:kl)(s:Qs):bH (aM L (bX f0 v a)) v.k.q ((v.to a).qv p) s=aM L (bX f0 v ⟨a.ak,a.bZ,a.fl,s⟩):=by
 rw[<-rF hv a s];have a4:=(aT _ _ hv.q).1;have a5:=(aT _ _ hv.hp).1;have a6:=(aT _ _ hv.m).1;refine A7 λa ha b hb=>?_;have:=hL b hb;simp only[Zah,Zal,or_false]at ha;rcases ha with rfl|rfl|rfl<;>simp only[SV.qv]<;>omega
def nv(aT:dh f0 N)(hv:v.at f0 p)(s:kl):dh (bX f0 v s) N:=by
 have p0:∀m,f0 m≠none->bX f0 v s m≠none:=by
  intro m hm;simp only[bX,aP,cm];repeat' split
  all_goals first|(intro h;cases h)|exact hm
 intro r o h;by_cases hr:f0 r=none
 ·rw[gK hv s hr]at h;cases h
 ·obtain⟨o',iA⟩:=ZbP.1 hr;obtain⟨h1,h2⟩:=aT r o' iA;refine⟨h1,λm hm=>?_⟩;simp only[bX,aP,cm]at h;split at h
  ·cases h;simp[qK,aZ]at hm
  ·split at h
   ·cases h;simp[rU,aZ]at hm
   ·split at h
    ·cases h;simp[rV,aZ]at hm
    ·split at h
     ·cases h;simp only[qB,aZ,bM,aN,ZaC,Zaq,Zah,Zal,or_false]at hm;apply p0;rcases hm with rfl|rfl|rfl
      ·rw[hv.a];simp
      ·rw[hv.hp];simp
      ·rw[hv.m];simp
     ·split at h
      ·cases h;simp[hB,aZ]at hm
      ·split at h
       ·cases h;exfalso;simp only[mB,aZ,ZaV,uO,Zak]at hm;obtain⟨e,⟨e',_,rfl⟩,hk⟩:=hm;simp[aN]at hk
       ·rw[iA]at h;cases h;exact p0 m (h2 m hm)
def zN(aT:dh f0 N)(hv:v.at f0 p)(hL:∀q∈L,N<=q.1)(s:kl):(v.to s).at (aM L (bX f0 v s)) p:=(kH hv s).aM (nv aT hv s) hL
def ll{N M:Nat}{L:cV}(h:dh f N)(hNM:N<=M)(hL:∀q∈L,q.1<M/\∀m∈aZ q.2,aM L f m≠none):dh (aM L f) M:=by
 have p0:∀m,f m≠none->aM L f m≠none:=by
  intro m hm;cases ho:aM L f m with
  |some o=>simp
  |none=>
   exfalso;clear hL;induction L with
   |nil=>exact hm ho
   |cons a L ih=>
    rw[aP]at ho;split at ho
    ·cases ho
    ·exact ih ho
 intro r o ho;rcases qX ho with h1|⟨_,h1⟩
 ·exact⟨(hL _ h1).1,(hL _ h1).2⟩
 ·obtain⟨h2,h3⟩:=h r o h1;exact⟨by omega,λm hm=>p0 m (h3 m hm)⟩
end
def W0{i:gf}(h:i∈cD z r):i.2.2.length<=2:=by
 unfold cD at h;split at h
 ·split at h
  ·simp only[Zah,Zal,or_false]at h;subst h;simp
  ·cases h
 ·split at h
  ·obtain⟨k,_,hk⟩:=ZbA.1 h;unfold tT at hk;split at hk
   ·cases hk;simp
   ·cases hk
  ·split at h
   ·simp only[Zah,Zal,or_false]at h;subst h;simp
   ·split at h
    ·obtain⟨d,_,rfl⟩:=Zak.1 h;simp[pE]
    ·cases h
def Hw{x:Int}(h:jv r x):(eD z r).length<=2:=by
 unfold jv at h;unfold eD;split
 ·simp
 ·unfold cD;rw[Zab (by omega),Zab (by omega),Zai (by omega)];simp
def A8(K:Kx z)(hcf:zH z.c){k:NN}(W:WF z.n.an.toNat st)(hr:r∈z.n.au){i:gf}(hi:i∈cD z r):JY ⟨k,z,st⟩ i:=
 ⟨⟨hcf,K.hc,W.bo⟩,by have:=W0 hi;omega,λx hx _=>by
  have:=pF K hr hi hx;have:=W.lb;exact⟨by omega,by simp only;omega⟩,A5 K hr hi⟩
def Ci(z:eY)(x:Int)(st:kl)(k:Nat):kl:=(z.n.au.take k).foldl (CZ z x) (pU st)
def rN(z:eY)(x:Int)(st:kl)(k j:Nat):kl:=((eD z (z.n.au.getD k default)).take j).foldl (iP z (z.n.au.getD k default)) (Ci z x st k)
def zD{α β:Type}{f:α->List β}{c:Nat}:∀(l:List α),(∀a∈l,(f a).length<=c)->(l.flatMap f).length<=c*l.length
 |[],_=>by simp
 |a::l,h=>by
  have h1:=h a (by simp);have h2:=zD (f:=f) (c:=c) l (λb hb=>h b (by simp[hb]));rw[Zbt,ZaK,Za5,Nat.mul_succ];omega
def Nq{x:Int}(l:Cf):((l.filter λr=>decide (jv r x)).flatMap λr=>(eD z r).map λi=>((r,i):PR)).length<=2*l.length:=by
 have h1:=zD (c:=2) (f:=λr=>(eD z r).map λi=>((r,i):PR)) (l.filter λr=>decide (jv r x)) (λr hr=>by
  rw[Zbn];exact Hw (by simpa using(Zbj.1 hr).2))
 have h2:=List.length_filter_le (λr=>decide (jv r x)) l;omega
def mid_ok(C:nl z.n z.l z.c z.fr.toNat z.to.toNat)(K:Kx z)(h:IV z st)(bT:st.s.heap≠[]){k j:Nat}(hk:k<z.n.au.length)(hu:jv (z.n.au.getD k default) (st.s.e 0).x):
  KN z (rN z (st.s.e 0).x st k j)/\(rN z (st.s.e 0).x st k j).s.dv<=st.s.dv+1202/\(rN z (st.s.e 0).x st k j).bZ.length=(rN z (st.s.e 0).x st k j).ak.length:=by
 obtain⟨k1,k2,k3,k4⟩:=h.1.pop K bT;have hP:=pop_ps C K h bT;have Xp:(pU st).bZ.getD (st.s.e 0).x.toNat false=true:=by
  show lW (pU st) _=true;rw[tf h.1.wf bT k2.1 k2.2,Zai rfl]
 have aT:(pU st).s.dv=st.s.dv:=by
  have hs:lu (fT st.s) (fC st.ak st.s):=by unfold fC;rw[Zab bT];exact li rfl
  exact hs.dv
 have Ql:z.n.au.getD k default∈z.n.au:=bm hk;obtain⟨r,hr⟩:=bb (z.n.au.getD k default);have e:rN z (st.s.e 0).x st k j=((((z.n.au.take k).filter λr=>decide (jv r (st.s.e 0).x)).flatMap λr=>(eD z r).map λi=>((r,i):PR))++((eD z r).take j).map λi=>((r,i):PR)).foldl (λst (p:PR)=>iP z p.1 st p.2) (pU st):=by
  rw[ZaI,<-FW,ZcC];unfold rN Ci;rw[hr]
 have dq:∀p∈(((z.n.au.take k).filter λr=>decide (jv r (st.s.e 0).x)).flatMap λr=>(eD z r).map λi=>((r,i):PR))++((eD z r).take j).map λi=>((r,i):PR),NO z p:=by
  intro p hp;rcases Zaq.1 hp with hp|hp
  ·exact U7 K (λr h=>ZaE h) p hp
  ·obtain⟨i,hi,rfl⟩:=Zak.1 hp;rw[hr]at Ql;exact⟨Ql,A4 K.ft.2 (ZaE hi)⟩
 obtain⟨a1,_,_,a4⟩:=(set_ok C K k2 Xp).L8 (λ_ h=>h) _ dq _ hP;rw[<-e]at a1 a4;have l1:=Nq (z:=z) (x:=(st.s.e 0).x) (z.n.au.take k);have l2:=Hw (z:=z) hu;have l3:=K.hn.2.2.1;rw[hr]at l2;rw[ZaK,Zbn,ZaB]at a4;rw[ZaB]at l1;exact⟨a1.kn,by omega,by rw[a1.kn.wf.lf,a1.kn.wf.lb]⟩
def W3{x:Int}{k:Nat}(hk:k<z.n.au.length):Ci z x st (k+1)=if jv (z.n.au.getD k default) x then rN z x st k (eD z (z.n.au.getD k default)).length else Ci z x st k:=by
 unfold rN Ci;rw[cW hk,ZaI];simp only[ZaN,Zca,CZ,ZbM]
def W4{x:Int}{k j:Nat}{i:gf}(h:(eD z (z.n.au.getD k default))[j]? =some i):rN z x st k (j+1)=iP z (z.n.au.getD k default) (rN z x st k j) i:=by
 unfold rN;rw[ZbO,h,ZaI];rfl
end
section
deriving instance DecidableEq for c8
section
variable{r:di}
def Nm(z:eY)(ak:bR)(v:c8)(r:di):Option gf:=(cD z r).find? λi=>decide (qJ z ak i=v)
def mM(z:eY)(ak:bR)(h:Int)(x:Cell)(k:Nat):Cell:=
 if(z.n.au.getD k default).head≠h\/(bv ak h).aH>=1099511627776\/x.qE>=0 then x
 else match Nm z ak (bv ak h) (z.n.au.getD k default)with
  |some i=>⟨(bv ak h).aH,(bv ak h).size,k,i.1⟩
  |none=>x
def oB(z:eY)(ak:bR)(h:Int)(m:Nat):Cell:=(List.range m).foldl (mM z ak h) lP
def iQ(z:eY)(ak:bR)(h:Int):Cell:=oB z ak h z.n.au.length
def pG(z:eY)(ak:bR):eV:=(List.range z.n.an.toNat).map λ(h:Nat)=>iQ z ak (h:Int)
def zK(z:eY)(ak:bR)(h:Int)(m:Nat):oB z ak h (m+1)=mM z ak h (oB z ak h m) m:=by
 unfold oB;rw[ZaR,ZaI];rfl
def Kb(l:aV):Prop:=∀i j:Nat,i<=j->j<l.bE.length->(l.bE.getD i default).f<(l.bE.getD j default).f\/((l.bE.getD i default).f=(l.bE.getD j default).f/\(l.bE.getD i default).t<=(l.bE.getD j default).t)
def Kb.mono{z:eY}(h:Kb z.l):mono z:=by
 intro i j hij hj hp;have:=h i j hij hj;unfold lV at hp⊢;omega
def loI_past{z:eY}(hs:Kb z.l){i:Nat}(h:jn z<=i)(hi:i<z.l.bE.length):lV z (z.l.bE.getD i default):=by
 have hl:jn z<z.l.bE.length:=by omega
 have h1:=List.findIdx_getElem (w:=hl);simp only[Zau]at h1;refine hs.mono (jn z) i h hi ?_;have e:z.l.bE.getD (jn z) default=z.l.bE[jn z]:=by simp[List.getD,hl]
 rw[e];exact h1
def at_in{z:eY}(hs:Kb z.l){i:Nat}(hi:i<z.l.bE.length)(h:Kc z (z.l.bE.getD i default)):jn z<=i/\i<tW z:=by
 refine at_range hs.mono (λi j hij hj hl dP=>?_) hi h;have h1:=loI_past hs hl (by omega);have h2:=hs i j hij hj;unfold lV Kc at*
 omega
def lX(z:eY)(ak:bR)(h:Int):∀m,m<=z.n.au.length->
  ((bv ak h).aH>=1099511627776->oB z ak h m=lP)/\
  ((bv ak h).aH<1099511627776->
   (oB z ak h m=lP/\∀(k:Nat) r,k<m->z.n.au[k]? =some r->r.head=h->∀i∈cD z r,qJ z ak i≠bv ak h)\/
   (∃(k:Nat) (r:di) (i:gf),k<m/\z.n.au[k]? =some r/\r.head=h/\Nm z ak (bv ak h) r=some i/\oB z ak h m=⟨(bv ak h).aH,(bv ak h).size,k,i.1⟩/\
    ∀(k':Nat) r,k'<k->z.n.au[k']? =some r->r.head=h->∀i∈cD z r,qJ z ak i≠bv ak h))
 |0,_=>⟨λ_=>rfl,λ_=>.inl ⟨rfl,λk r hk=>by omega⟩⟩
 |m+1,hm=>by
  obtain⟨a,b⟩:=lX z ak h m (by omega);have hr:z.n.au[m]? =some (z.n.au.getD m default):=by simp[List.getD,show m<z.n.au.length by omega]
  rw[zK];refine⟨λhf=>?_,λhf=>?_⟩
  ·rw[a hf];unfold mM;rw[Zai (.inr (.inl hf))]
  ·rcases b hf with⟨b1,b2⟩|⟨k,r,i,b1,b2,b3,b4,b5,b6⟩
   ·rw[b1];unfold mM;split
    ·rename_i hc;have hc:(z.n.au.getD m default).head≠h:=by
      rcases hc with hc|hc|hc
      ·exact hc
      ·omega
      ·exact Zar hc (by decide)
     refine .inl ⟨rfl,λk r hk yE nz=>?_⟩;by_cases e:k=m
     ·subst e;rw[hr]at yE;cases yE;exact Zar nz hc
     ·exact b2 k r (by omega) yE nz
    ·rename_i hc;simp only[not_or,ne_eq,Decidable.not_not]at hc;cases hp:Nm z ak (bv ak h) (z.n.au.getD m default)with
     |some i=>exact .inr ⟨m,_,i,by omega,hr,hc.1,hp,rfl,b2⟩
     |none=>
      refine .inl ⟨rfl,λk r hk yE nz=>?_⟩;by_cases e:k=m
      ·subst e;rw[hr]at yE;cases yE;intro i hi;have:=ZcX.1 hp i hi;simpa using this
      ·exact b2 k r (by omega) yE nz
   ·refine .inr ⟨k,r,i,by omega,b2,b3,b4, ?_,b6⟩;rw[b5];unfold mM;rw[Zai (.inr (.inr (by simp only;omega)))]
def C0{z:eY}{ak:bR}{h:Nat}(hh:h<z.n.an.toNat):(pG z ak).getD h default=iQ z ak (h:Int):=by
 simp[pG,List.getD,hh]
def C1(z:eY)(ak:bR):(pG z ak).length=z.n.an.toNat:=by simp[pG]
def Qd{l:List gf}{p:gf->Bool}{i:gf}(hs:l.Pairwise λa b=>a.1<=b.1)(h:l.find? p=some i):∀j∈l,p j=true->i.1<=j.1:=by
 induction l with
 |nil=>cases h
 |cons a l ih=>
  rw[Za0]at hs;intro j hj hp;by_cases ha:p a=true
  ·rw[List.find?_cons_of_pos ha]at h;cases h;rcases Zah.1 hj with rfl|hj
   ·omega
   ·exact hs.1 j hj
  ·rw[List.find?_cons_of_neg ha]at h;rcases Zah.1 hj with rfl|hj
   ·exact Zar hp ha
   ·exact ih hs.2 h j hj hp
def Nn(z:eY)(r:di):(cD z r).Pairwise λa b=>a.1<=b.1:=by
 unfold cD;split
 ·split<;>simp
 ·split
  ·rw[List.pairwise_filterMap];refine List.Pairwise.imp (R:=λa b=>a<b) (λ{a b} hab x hx y hy=>?_) List.pairwise_lt_range';unfold tT at hx hy;split at hx
   ·split at hy
    ·cases hx;cases hy;simp only;omega
    ·cases hy
   ·cases hx
  ·split
   ·simp
   ·split
    ·rw[ZcD];refine List.Pairwise.imp (R:=λa b=>a<b) (λ{a b} hab=>?_) List.pairwise_lt_range;simp only[pE];omega
    ·simp
section
variable{z:eY}{st:kl}
def end_fin(K:Kx z)(h:KN z st)(bT:st.s.heap=[]){x:Int}(h0:0<=x)(h1:x<z.n.an)(hf:(bv st.ak x).aH<1099511627776):lW st x=true:=by
 cases J2:lW st x with
 |true=>rfl
 |false=>
  exfalso;rcases ilt (st.fl.getD x.toNat 0)with hd|hd
  ·have:=(h.wf.old x.toNat (by omega) hd).2;unfold bv at hf;rw[this]at hf;exact Zar hf (by decide)
  ·obtain⟨e,he,_⟩:=h.wf.Xl x.toNat (by omega) hd J2;rw[bT]at he;cases he
def end_inf(K:Kx z)(h:KN z st){x:Int}(h0:0<=x)(h1:x<z.n.an)(hf:¬(bv st.ak x).aH<1099511627776):bv st.ak x=⟨1099511627776,0⟩:=by
 rcases ilt (st.fl.getD x.toNat 0)with hd|hd
 ·exact(h.wf.old x.toNat (by omega) hd).2
 ·exact Zar (h.wf.Qb x.toNat (by omega) hd) hf
def C2(K:Kx z)(h:KN z st){x:Int}(h0:0<=x)(h1:x<z.n.an):((pG z st.ak).getD x.toNat default).val=bv st.ak x:=by
 obtain⟨y,rfl⟩:=Zae h0;rw[Zag,C0 (by omega)];obtain⟨a,b⟩:=lX z st.ak y z.n.au.length (Zaf _);unfold iQ;by_cases hf:(bv st.ak y).aH<1099511627776
 ·rcases b hf with⟨b1,b2⟩|⟨k,r,i,_,_,_,_,b5,_⟩
  ·obtain⟨k,r,hk,hr,i,hi,_,hc⟩:=h.att y h0 h1 hf;exact Zar hc (b2 k r (Zaw.1 hk).1 hk hr i hi)
  ·rw[b5]
 ·rw[a (by omega),end_inf K h h0 h1 hf];rfl
def Hv(K:Kx z)(h:KN z st){x:Int}(h0:0<=x)(h1:x<z.n.an)(f t:Int):eJ z.c (pG z st.ak) z.fr z.to x f t=jY z st.ak x f t:=by
 unfold eJ jY;split
 ·exact C2 K h h0 h1
 ·rfl
def instR_of(K:Kx z)(h:KN z st){s t:Nat}(es:z.fr=s)(et:z.to=t){k:Nat}(hk:z.n.au[k]? =some r){i:gf}(hi:i∈cD z r):pk z.n z.l z.c (pG z st.ak) s t k i.1 (qJ z st.ak i):=by
 have hr:r∈z.n.au:=Zax hk;obtain⟨q1,q2,q3,q4,q5⟩:=K.hn.2.2.2 r hr;have hv:=λ{x:Int} (h0:0<=x) (h1:x<z.n.an) (f t:Int)=>Hv K h h0 h1 f t;have vR:=K.ft;refine⟨r,hk, ?_⟩;unfold cD at hi;split at hi
 ·rename_i h1;split at hi
  ·simp only[Zah,Zal,or_false]at hi;subst hi;exact .inl ⟨h1,by omega,es,rfl⟩
  ·cases hi
 ·split at hi
  ·rename_i h1;obtain⟨a,ha0,ha⟩:=ZbA.1 hi;have:=wu z;simp only[Zb6]at ha0;have P1:a<z.l.bE.length:=by omega
   have dP:=Ni (z:=z) (i:=a) (by omega) (by omega);unfold tT at ha;split at ha
   ·rename_i Nk;cases ha;exact .inr (.inl ⟨h1,a,z.l.bE.getD a default,by simp[List.getD,P1],by rw[dP.1,es],by rw[dP.2,et],Nk,rfl,rfl⟩)
   ·cases ha
  ·split at hi
   ·rename_i h1;simp only[Zah,Zal,or_false]at hi;subst hi;refine .inr (.inr (.inl ⟨h1,es, ?_⟩));show dU r.cq [jY z st.ak r.a z.fr z.to]=_;rw[<-es,<-et,hv (by omega) (by omega)]
   ·split at hi
    ·rename_i h1;obtain⟨d,hd0,rfl⟩:=Zak.1 hi;simp only[Za2]at hd0;refine .inr (.inr (.inr ⟨h1,d,by omega,by simp only[pE];omega, ?_⟩));show dU r.cq [jY z st.ak r.a z.fr (z.fr+(d:Int)),jY z st.ak r.b (z.fr+(d:Int)) z.to]=_;rw[<-es,<-et,hv (by omega) (by omega),hv (by omega) (by omega)]
    ·cases hi
def of_instR(K:Kx z)(hs:Kb z.l)(h:KN z st){s t:Nat}(es:z.fr=s)(et:z.to=t){k:Nat}{g:Int}{v:c8}(hi:pk z.n z.l z.c (pG z st.ak) s t k g v):∃r,z.n.au[k]? =some r/\∃i∈cD z r,i.1=g/\qJ z st.ak i=v:=by
 obtain⟨r,hk,hi⟩:=hi;have hr:r∈z.n.au:=Zax hk;obtain⟨q1,q2,q3,q4,q5⟩:=K.hn.2.2.2 r hr;have hv:=λ{x:Int} (h0:0<=x) (h1:x<z.n.an) (f t:Int)=>Hv K h h0 h1 f t;have vR:=K.ft;refine⟨r,hk, ?_⟩;rcases hi with⟨h1,h2,rfl,rfl⟩|⟨h1,a,x,ha,Xp,hxt,Nk,rfl,rfl⟩|⟨h1,rfl,rfl⟩|⟨h1,d,hd,rfl,rfl⟩
 ·refine⟨(z.fr,r.cq,[]), ?_,es,rfl⟩;unfold cD;rw[Zai h1,Zai (by omega)];simp
 ·have P1:=(Zaw.1 ha).1;have hx:z.l.bE.getD a default=x:=by simp[List.getD,ha]
  have:=at_in hs P1 (by rw[hx];exact⟨by rw[Xp,es],by rw[hxt,et]⟩);refine⟨((a:Int),r.cq+x.aH,[]), ?_,rfl,rfl⟩;unfold cD;rw[Zab (by omega),Zai h1];refine ZbA.2 ⟨a,by simp only[Zb6];omega, ?_⟩;unfold tT;rw[hx,Zai Nk]
 ·refine⟨(z.fr,r.cq,[(r.a,z.fr,z.to)]), ?_,es, ?_⟩
  ·unfold cD;rw[Zab (by omega),Zab (by omega),Zai h1];simp
  ·show dU r.cq [jY z st.ak r.a z.fr z.to]=_;rw[<-es,<-et,hv (by omega) (by omega)]
 ·refine⟨pE z r (z.fr+(d:Int)), ?_,by simp only[pE];omega, ?_⟩
  ·unfold cD;rw[Zab (by omega),Zab (by omega),Zab (by omega),Zai h1];exact Zak.2 ⟨d,by simp only[Za2];omega,rfl⟩
  ·show dU r.cq [jY z st.ak r.a z.fr (z.fr+(d:Int)),jY z st.ak r.b (z.fr+(d:Int)) z.to]=_;rw[<-es,<-et,hv (by omega) (by omega),hv (by omega) (by omega)]
def Qe(K:Kx z)(h:KN z st)(bT:st.s.heap=[])(hr:r∈z.n.au){i:gf}(hi:i∈cD z r)(hf:(qJ z st.ak i).aH<1099511627776):qI z st.bZ i:=by
 intro x hx ic;have NG:=pF K hr hi hx;refine end_fin K h bT NG.1 NG.2 ?_;have h2:=h.wf.canon (x:=x.1.toNat) (by omega);have:=cmb_ge K h.wf.bo hr hi hx ic h2;unfold c8.lt at this;unfold bv at this⊢;have:=(h.wf.bo _ (bm (l:=st.ak) (show x.1.toNat<st.ak.length by rw[h.wf.lb];omega))).2.1;omega
def WX(K:Kx z)(hs:Kb z.l)(h:IV z st)(bT:st.s.heap=[]){s t:Nat}(es:z.fr=s)(et:z.to=t){k:Nat}(hk:z.n.au[k]? =some r){g:Int}{v:c8}(hi:pk z.n z.l z.c (pG z st.ak) s t k g v)(hf:v.aH<1099511627776):
  ¬v.lt (bv st.ak r.head)/\(v=bv st.ak r.head->BN (iQ z st.ak r.head).qE (iQ z st.ak r.head).arg k g):=by
 obtain⟨r',tU,i,pW,rfl,rfl⟩:=of_instR K hs h.1 es et hi;rw[hk]at tU;cases tU;have hr:r∈z.n.au:=Zax hk;refine⟨h.2 (r,i) ⟨hr,pW⟩ (Qe K h.1 bT hr pW hf),λe=>?_⟩;obtain⟨_,b⟩:=lX z st.ak r.head z.n.au.length (Zaf _);unfold iQ;rcases b (by rw[<-e];exact hf)with⟨b1,b2⟩|⟨k',r',i',_,b2,b3,b4,b5,b6⟩
 ·exact Zar e (b2 k r (Zaw.1 hk).1 hk rfl i pW)
 ·rw[b5];unfold BN;simp only;rcases Nat.lt_trichotomy k k' with ln|rfl|hgt
  ·exact Zar e (b6 k r ln hk rfl i pW)
  ·rw[hk]at b2;cases b2;have:=Qd (Nn z r) b4 i pW (by simpa using e);exact .inr ⟨rfl,this⟩
  ·exact .inl (by omega)
def own_ps(C:nl z.n z.l z.c z.fr.toNat z.to.toNat)(K:Kx z)(h:KN z st):PS z.n z.l z.c z.fr.toNat z.to.toNat (pG z st.ak):=by
 have vR:=K.ft;intro y hy;rw[C1]at hy;have fJ:(y:Int)<z.n.an:=by omega
 have c7:((pG z st.ak).getD y default).val=bv st.ak y:=C2 K h (x:=(y:Int)) (by omega) fJ;rw[C0 hy]at c7⊢;obtain⟨a,b⟩:=lX z st.ak y z.n.au.length (Zaf _);by_cases hf:(bv st.ak y).aH<1099511627776
 ·rcases b hf with⟨b1,b2⟩|⟨k,r,i,_,b2,b3,b4,b5,b6⟩
  ·exact .inl b1
  ·right;refine⟨by rw[c7];exact h.der y (by omega) fJ hf,k,i.1,qJ z st.ak i,instR_of K h (by omega) (by omega) b2 (Zb8 b4),⟨r,b2,b3⟩, ?_, ?_, ?_⟩
   ·unfold iQ;rw[b5]
   ·unfold iQ;rw[b5]
   ·have:=Zc7 b4;simp only[Zau]at this;rw[c7,this];unfold c8.lt;omega
 ·exact .inl (a (by omega))
def No(C:nl z.n z.l z.c z.fr.toNat z.to.toNat)(K:Kx z)(h:KN z st):nM z.n (pG z st.ak):=by
 have hn:=K.hn;have vR:=K.ft;have ik:=C.tm;refine⟨by rw[C1];have:=hn.1;omega,λx hx=>?_⟩;obtain⟨y,hy0,rfl⟩:=Zak.1 hx;simp only[Za2]at hy0;have fJ:(y:Int)<z.n.an:=by omega
 have c7:((pG z st.ak).getD y default).val=bv st.ak y:=C2 K h (x:=(y:Int)) (by omega) fJ;rw[C0 hy0]at c7;have hvo:jj (bv st.ak y):=h.wf.bo _ (bm (by rw[h.wf.lb];omega));obtain⟨a,b⟩:=lX z st.ak y z.n.au.length (Zaf _);have mi:iQ z st.ak y=lP->mH (iQ z st.ak y):=λe=>by rw[e];exact BP
 by_cases hf:(bv st.ak y).aH<1099511627776
 ·rcases b hf with⟨b1,b2⟩|⟨k,r,i,b0,b2,b3,b4,b5,b6⟩
  ·exact mi b1
  ·refine⟨by rw[c7];exact hvo, ?_⟩;unfold iQ;rw[b5];have hk:=hn.2.2.1;have hi:=Zb8 b4;simp only;refine⟨by omega,by omega, ?_⟩;have Xs:=K.hl.2.2.1;unfold cD at hi;split at hi
   ·split at hi
    ·simp only[Zah,Zal,or_false]at hi;subst hi;simp only;omega
    ·cases hi
   ·split at hi
    ·obtain⟨a,ha0,ha⟩:=ZbA.1 hi;have:=wu z;simp only[Zb6]at ha0;unfold tT at ha;split at ha
     ·cases ha;simp only;omega
     ·cases ha
    ·split at hi
     ·simp only[Zah,Zal,or_false]at hi;subst hi;simp only;omega
     ·split at hi
      ·obtain⟨d,hd0,rfl⟩:=Zak.1 hi;simp only[Za2]at hd0;simp only[pE];omega
      ·cases hi
 ·exact mi (a (by omega))
def own_fix(C:nl z.n z.l z.c z.fr.toNat z.to.toNat)(K:Kx z)(hs:Kb z.l)(h:IV z st)(bT:st.s.heap=[]):Pb z.n z.l z.c z.fr.toNat z.to.toNat (pG z st.ak):=by
 have ho:=No C K h.1;have vR:=K.ft;intro k hk;obtain⟨r,hr⟩:=bb (z.n.au.getD k default);have yE:z.n.au[k]? =some r:=by rw[<-hr];simp[List.getD,hk]
 have hrm:r∈z.n.au:=Zax yE;have I2:=K.hn.2.2.2 r hrm;have hh0:0<=r.head:=I2.1;have hh1:r.head<z.n.an:=I2.2.1;have hxm:(pG z st.ak).getD r.head.toNat default∈pG z st.ak:=bm (by rw[C1];omega);have hg:=zd K.hn K.hl K.hc ho.ok hk C.st C.tm (by rw[hr];exact ho.2 _ hxm);unfold kA at hg⊢;rw[hr]at hg⊢;have c7:=C2 K h.1 hh0 hh1;have zq:(pG z st.ak).getD r.head.toNat default=iQ z st.ak r.head:=by rw[C0 (by omega),show((r.head.toNat:Nat):Int)=r.head by omega]
 obtain⟨X,hX⟩:=bb ((pG z st.ak).getD r.head.toNat default);rw[hX]at hg c7 zq hxm⊢;have hXok:=ho.2 _ hxm;rcases za yE (G1 I2) C.st X (c:=z.c) (own:=pG z st.ak) (l:=z.l)with e|⟨g,v,hi,hf,h3,e⟩
 ·exact e
 ·obtain⟨l1,l2⟩:=WX K hs h bT (s:=z.fr.toNat) (t:=z.to.toNat) (by omega) (by omega) yE hi hf;rw[c7]at h3;have ev:=c8.uL l1 h3;have l3:=l2 ev;rw[<-zq]at l3;rw[e]at hg⊢;obtain⟨g1,g2⟩:=hg;have e1:X.aH=v.aH/\X.size=v.size:=by
   have:X.val=v:=by rw[c7,ev]
   rw[<-this];exact⟨rfl,rfl⟩
  rcases g2 with e'|ln
  ·exact e'
  ·exfalso;obtain⟨_,x1,x2,x3,x4⟩:=hXok;obtain⟨_,y1,y2,y3,y4⟩:=g1;unfold Fl at ln;simp only at ln y1 y2 y3 y4;rw[e1.1,e1.2]at ln;unfold BN at l3;omega
def Qf(C:nl z.n z.l z.c z.fr.toNat z.to.toNat)(K:Kx z)(hs:Kb z.l)(h:IV z st)(bT:st.s.heap=[]):pG z st.ak=mm z.n z.l z.c z.fr z.to:=by
 have vR:=K.ft;have ho:=No C K h.1;have h2:=(zc C.hn C.hl C.hc C.st C.tm (PS z.n z.l z.c z.fr.toNat z.to.toNat) (UL C) (λown k ho hk hp=>UK C ho hk hp)).1;have e:∀x:Nat,(x:Int)<z.n.an->(pG z st.ak).getD x default=(mm z.n z.l z.c z.fr.toNat z.to.toNat).getD x default:=λx hx=>
  (Mg C ho (own_ps C K h.1) (own_fix C K hs h bT) x hx).unique (G4 C x hx)
 have e1:((z.fr.toNat:Nat):Int)=z.fr:=by omega
 have e2:((z.to.toNat:Nat):Int)=z.to:=by omega
 rw[e1,e2]at e h2;refine Zbw (by have:=h2.1;have:=ho.1;omega) λi h1 h2'=>?_;have:=e i (by have:=ho.1;omega);simpa [List.getD,h1,h2']using this
end
end
end
structure Run(z:eY):Prop where
 C:nl z.n z.l z.c z.fr.toNat z.to.toNat
 K:Kx z
 cf:zH z.c
 Kb:Kb z.l
def Nr{z:eY}(H:Run z){k0:NN}{f0:bq}{p N M sB rB:Nat}{s0 st:kl}(aT:dh f0 N)(hv:(⟨k0,z,s0⟩:SV).at f0 p)(h:IV z st)(bT:st.s.heap≠[])(Cy:st.s.dv+1300<=1000000000000)
  (h1:N<=sB) (h2:N<=rB) (h3:sB<M) (h4:rB<M) (h5:rB≠sB) {k:Nat} (hk:k<z.n.au.length) (hu:jv (z.n.au.getD k default) (st.s.e 0).x) {D:DV} (hD:FY D (z.n.au.getD k default)):
  aR aj 126 [.ptr p 0,D,.nG (.func 127) [.ptr sB 0,.ptr rB 0]] (aM [(rB,dS (z.n.au.getD k default)),(sB,.box [.ptr p 0])] (bX f0 ⟨k0,z,s0⟩ (Ci z (st.s.e 0).x st k)))
   ⟨True,.v (.eo []),aM [(rB,dS (z.n.au.getD k default)),(sB,.box [.ptr p 0])] (bX f0 ⟨k0,z,s0⟩ (rN z (st.s.e 0).x st k (eD z (z.n.au.getD k default)).length))⟩:=by
 have Ql:z.n.au.getD k default∈z.n.au:=bm hk;have hmid:=λj=>mid_ok H.C H.K h bT (j:=j) hk hu;obtain⟨r,hr⟩:=bb (z.n.au.getD k default);have hms:=λ{j i}=>W4 (z:=z) (x:=(st.s.e 0).x) (st:=st) (k:=k) (j:=j) (i:=i);have I2:=H.K.hn.2.2.2 r (by rw[<-hr];exact Ql);rw[hr]at hD Ql hms⊢;obtain⟨V,hV⟩:=bb ((⟨k0,z,s0⟩:SV):SV);have hVz:V.z=z:=by rw[<-hV]
 have hVk:V.k=k0:=by rw[<-hV]
 have hVto:∀s,V.to s=⟨k0,z,s⟩:=λs=>by rw[<-hV]
 rw[hV]at hv⊢;have hL:∀q∈[(rB,dS r),(sB,Ob.box [.ptr p 0])],N<=q.1:=by simp;omega
 have e0:Ci z (st.s.e 0).x st k=rN z (st.s.e 0).x st k 0:=rfl;rw[e0];have nu:=(aT _ _ hv.sp).1;refine t87 (k:=k0) (z:=z) (N:=M) (r:=r) (bY:=[sB,rB]) (F:=λj=>aM [(rB,dS r),(sB,.box [.ptr p 0])] (bX f0 V (rN z (st.s.e 0).x st k j))) ⟨λj _=>⟨_,by have:=zN aT hv hL (rN z (st.s.e 0).x st k j);rw[hVto]at this;exact this⟩,λj _=>?_⟩ ⟨λj i hi _ N' Va=>?_,λj r' hj hn=>?_,λ_ _=>rfl,.inl rfl⟩ rfl H.Kb.mono H.K.hl.2.2.1 ?_ ⟨I2.2.2.1,I2.2.2.2.1⟩ H.K.hl.2.2.2 ?_ hD
 ·refine ll (nv aT hv _) (by omega) λq hq=>?_;simp only[Zah,Zal,or_false]at hq;rcases hq with rfl|rfl
  ·exact⟨h4,λm hm=>by simp[dS,aZ,bM,aN]at hm⟩
  ·refine⟨h3,λm hm=>?_⟩;simp only[aZ,bM,aN,ZaC,Zah,Zal,or_false]at hm;subst hm;rw[pB nu hL,(kH hv _).sp];simp
 ·have hib:=A4 (z:=z) H.K.ft.2 (Zax hi);obtain⟨m1,m2,m3⟩:=hmid j;have dP:=zN aT hv hL (rN z (st.s.e 0).x st k j);rw[hVto]at dP;have:=t88 (i:=i) (r:=r) (sB:=sB) (rB:=rB) Va dP (by simp[h5.symm]) (by simp) (A8 H.K H.cf m1.wf Ql hib) m3 (λ_ hw=>by
   have hh:0<=r.head/\r.head<z.n.an:=⟨I2.1,I2.2.1⟩;exact m1.wf.TW (by omega) (JW H.K m1.wf.bo Ql hib) (by have:=H.K.hn.2.1;omega) (by omega))
  have e:=WZ aT hv hL (rN z (st.s.e 0).x st k j) (iP z r (rN z (st.s.e 0).x st k j) i);rw[hVto]at e;simp only at this;rw[e,<-hms hi]at this;exact this
 ·simp only[aP,cm]at hn⊢;split at hn
  ·cases hn
  ·split at hn
   ·cases hn
   ·rename_i g1 g2;rw[Zab g1,Zab g2];have hf:f0 r'=none:=by
     cases ho:f0 r' with
     |none=>rfl
     |some o=>
      exfalso;have:bX f0 V (rN z (st.s.e 0).x st k j) r'≠none:=by
       simp only[bX,aP,cm];repeat' split
       all_goals first|(intro h;cases h)|(rw[ho];simp)
      exact this hn
    exact gK hv _ hf
 ·have:=H.C.tm;have:=H.K.ft;omega
 ·intro x hx;simp only[Zah,Zal,or_false]at hx;rcases hx with rfl|rfl
  ·exact⟨_,by simp[h5.symm];rfl⟩
  ·exact⟨_,by simp[dS];rfl⟩
section
variable{f0:bq}{z:eY}
def C3{v:SV}{p N:Nat}{L:cV}(hN:∀r,N<=r->f0 r=none)(hv:v.at f0 p){M:Nat}(hM:N<=M)(hL:∀q∈L,q.1<M)(s:kl):∀r,M<=r->aM L (bX f0 v s) r=none:=λr hr=>by
 rw[fj λo h=>by have:=hL _ h;simp only at this;omega];exact gK hv s (hN r (by omega))
def Ns(a:Nat)(o o':Ob)(L:cV)(f:bq):aM ((a,o)::(a,o')::L) f=aM ((a,o)::L) f:=by
 funext k;simp only[aP];split<;>rfl
def le_L{X:bq}{N p:Nat}{aJ ba:Nat}{tm:dw}{l:fA}{L1:cV}{cs:bB}(hX:dh X N)(hp:X p=some (.box cs))(nu:p<N)(hM:N+3<=ba)(VR:∀q∈L1,N+3<=q.1)(ik:fR (aM (L1++[(N+2,.box [.ptr p 0])]) X) (aM [(N+2,.box [.ptr p 0])] X) id tm l):
  Le ⟨tm,aM (L1++[(N+2,.box [.ptr p 0])]) X,aJ,N,[]⟩ ⟨DM.look l,aM [(N+2,.box [.ptr p 0])] X,ba,N,[]⟩:=by
 have e1:aM (L1++[(N+2,Ob.box [.ptr p 0])]) X (N+2)=some (.box [.ptr p 0]):=by
  rw[<-zM,fj λo h=>by have:=VR _ h;simp only at this;omega];simp
 have e2:aM (L1++[(N+2,Ob.box [.ptr p 0])]) X p=some (.box cs):=by
  rw[<-zM,fj λo h=>by have:=VR _ h;simp only at this;omega];simp[hp];omega
 refine Le.dV hX (by omega) ?_ ?_ ?_ ik
 ·simp;omega
 ·clear ik e1 e2;induction L1 with
  |nil=>simp[bK]
  |cons a L1 ih=>
   refine⟨λh=>?_,ih λq hq=>VR q (by simp[hq])⟩;have:=VR a (by simp);omega
 ·refine⟨⟨_,e1,.inr ⟨rfl,λm hm=>?_⟩,λh=>by omega⟩,trivial⟩;simp only[aZ,bM,aN,ZaC,Zah,Zal,or_false]at hm;subst hm;exact⟨_,_,e2,by simp[hp];omega,be _⟩
def aaI{st:kl}{f:Nat}(bT:st.s.heap≠[]):ip z (f+1) st=ip z f (oA z st):=by
 simp only[ip,Zab bT]
def B1{z:eY}(H:Run z):∀{f g:Nat} {st:kl},IV z st->py st<f->py st<g->ip z f st=ip z g st
 |0,_,_,_,h,_=>by omega
 |_,0,_,_,_,h=>by omega
 |f+1,g+1,st,hI,h1,h2=>by
  by_cases bT:st.s.heap=[]
  ·simp only[ip,Zai bT]
  ·rw[aaI bT,aaI bT];obtain⟨a,b,_⟩:=A6 H.C H.K hI bT;exact B1 H a (by omega) (by omega)
def t62{p N:Nat}(H:Run z){k0:NN}{s0:kl}(hN:∀r,N<=r->f0 r=none)(hv:(⟨k0,z,s0⟩:SV).at f0 p)(hI:IV z s0)(Cy:s0.s.dv+1300*(py s0+1)<=1000000000000):
  aR aj 90 [.ptr p 0] f0 ⟨True,.v (.eo []),bX f0 ⟨k0,z,s0⟩ (ip z (py s0+1) s0)⟩:=by
 obtain⟨R,hR⟩:=bb (ip z (py s0+1) s0);rw[hR];refine c62.pQ hN (by simp) λaT=>?_;obtain⟨V,hV⟩:=bb ((⟨k0,z,s0⟩:SV):SV);have hVz:V.z=z:=by rw[<-hV]
 have hVk:V.k=k0:=by rw[<-hV]
 have NL:V.s=s0:=by rw[<-hV]
 have hVto:∀s,V.to s=⟨k0,z,s⟩:=λs=>by rw[<-hV]
 have nu:=(aT _ _ hv.sp).1;have np:∀k,p≠N+k:=λk=>by omega
 have en:=hv.sp;rw[hV]at hv⊢;simp;apply aa.ch cF fw [1];simp[d62r0];obtain⟨L,hL⟩:=bb ([(N+2,Ob.box [.ptr p 0])]);have hLN:∀q∈L,N<=q.1:=by rw[<-hL];simp
 have hLM:∀{M},N+3<=M->∀q∈L,q.1<M:=by rw[<-hL];simp;omega
 have hf0:bX f0 V s0=f0:=by rw[<-NL];exact eH hv
 apply aa.block;refine aa.loop (λst:kl=>⟨DM.look [(1,.ptr (N+2) 0)],aM L (bX f0 V st),N+1000,N,[]⟩)
  (λst=>IV z st/\st.s.dv+1300*(py st+1)<=1000000000000/\ip z (py st+1) st=R) py s0 (by
   rw[hf0,<-hL];refine Le.same (λr hr=>?_) (by simp[gn]);simp only[aP,cm];rw[Zab (by omega)];exact hN r (by omega)) ⟨hI,Cy,hR⟩ (λst la=>?_)
 obtain⟨hI',hck',hR'⟩:=la;apply aa.block;have dP:=zN aT hv hLN st;have Vb:cC.Vb [.ptr V.k.q 0] (aM L (bX f0 V st))=⟨wo st.s st.ak,.v (uT st.s),aM L (bX f0 V ⟨st.ak,st.bZ,st.fl,fC st.ak st.s⟩)⟩:=by
  have:=k85_eq dP.qv;rw[AW aT hv hLN]at this;exact this
 have hq:∀s,aM L (bX f0 V s) p=some (.box (ma V.k V.z)):=λs=>(zN aT hv hLN s).sp;have hb:∀s,aM L (bX f0 V s) (N+2)=some (.box [.ptr p 0]):=λs=>by rw[<-hL];simp
 simp only[ma]at hq;have ho:=hI'.1.wf.wo (by have:=H.K.hn.2.1;omega);have hC:=λs=>nv aT hv s;have Xn:=H.K.hn;by_cases bT:st.s.heap=[]
 ·have hp1:uT st.s=.eo [ti 0,.bool false]:=Zai bT;have Qu:fC st.ak st.s=st.s:=Zai bT;rw[hp1,Qu]at Vb;apply aa.cX (ok85 ay.nil) fw (rs:=El) rfl (by kernel_rfl) [1,2,3];simp[El,hb,hq,Vb,ho];apply aa.seq;apply aa.ch cF fw [1,15];simp[aab];refine aa.cond rfl (λ_=>?_) (λg=>by cases g);simp only[ip,Zai bT]at hR';subst hR';refine aa.le (kO (l:=[]) (ba:=N+2000) (hC st) (by omega) hLN (by simp)) ?_;apply aa.ret;simp[aad];rfl
 ·obtain⟨kn,⟨x0,x1⟩,xf,_⟩:=hI'.1.pop H.K bT;have hlf:=hI'.1.wf.lf;obtain⟨y,hy⟩:=Zae x0;have hp1:uT st.s=.eo [ti y,.bool true]:=by rw[<-hy];exact Zab bT
  rw[hp1]at Vb;have xw:y<st.bZ.length:=by omega
  have rr:=jG xw;obtain⟨stp,hstp⟩:=bb ((⟨st.ak,st.bZ,st.fl,fC st.ak st.s⟩:kl):kl);have hpf:stp.bZ=st.bZ:=by rw[<-hstp]
  have hpp:(⟨stp.ak,st.bZ.set y true,stp.fl,stp.s⟩:kl)=pU st:=by rw[<-hstp];unfold pU;rw[hy];rfl
  rw[hstp]at Vb;apply aa.cX (ok85 ay.nil) fw (rs:=El) rfl (by kernel_rfl) [1,2,3];simp[El,hb,hq,Vb,ho];apply aa.seq;apply aa.ch cF fw [1,2,15];simp[aab];refine aa.cond rfl (λg=>by cases g) (λ_=>?_);apply aa.skip;simp;have oP:=(zN aT hv hLN stp).rf;simp only[rU,hpf]at oP;apply aa.ch cF fw [1,2];simp[d62r3,hb,hq,oP,xw,rr];have e3:aM ((V.k.rf,.dT 0 4 1 ((g8 st.bZ).set y [.bool true]))::L) (bX f0 V stp)=aM L (bX f0 V (pU st)):=by
   rw[show(V.k.rf,Ob.dT 0 4 1 ((g8 st.bZ).set y [.bool true]))::L=[(V.k.rf,Ob.dT 0 4 1 ((g8 st.bZ).set y [.bool true]))]++L from rfl,<-zM,A7,<-Fa,JC hv,hpp];intro a ha b fp;have:=hLN b fp;have:=(aT _ _ hv.rf).1;simp only[Zah,Zal,or_false]at ha;subst ha;simp only;omega
  rw[e3];apply aa.ch cF fw [1,2,26,27,28];simp[d62r4,hb,hq,hVz];apply aa.block;refine aa.loop (λk:Nat=>⟨DM.look [(1,.ptr (N+2) 0),(2,.v (ti y)),(26,.v (.sl (aU z.n.au))),(27,.v (ti z.n.au.length)),(28,.v (ti k))],aM L (bX f0 V (Ci z (y:Int) st k)),N+2000,N,[]⟩)
   (λk=>k<=z.n.au.length) (λk=>z.n.au.length-k) 0 (Le.same (C3 hN hv (by omega) (hLM (by omega)) _) (by simp[gn])) (by omega) (λk hk=>?_)
  apply aa.ch cF fw [1,2,26,27,28,29];simp[d62r5];apply aa.seq;refine aa.cond rfl (λg=>?_) (λg=>?_)
  ·have g:k<z.n.au.length:=by simpa using g
   have rk:=kZ g;have hms:=W3 (z:=z) (x:=(y:Int)) (st:=st) g;have hsc:=λD hD hu=>Nr (M:=N+2500) H (k0:=k0) aT (by rw[hV];exact hv) hI' bT (by omega) (sB:=N+2) (rB:=N+2048) (by omega) (by omega) (by omega) (by omega) (by omega) g hu (D:=D) hD;have w2:IntKind.i64.wrap ((k:Int)+1)=((k+1:Nat):Int):=by rw[aF (by have:=Xn.2.2.1;omega)];omega
   apply aa.skip;simp;apply aa.seq;apply aa.block;obtain⟨⟨Vc,rh,ra,rb,rp,ro⟩,hr⟩:=bb (z.n.au.getD k default);rw[hr]at rk hms hsc;simp only[di.enc]at rk;apply aa.ch cF fw [1,2,5,26,27,28];simp[d62r6,g,rk,Nat.add_assoc];rw[Ns];apply aa.seq;obtain⟨u,hu⟩:=bb (decide (jv ⟨Vc,rh,ra,rb,rp,ro⟩ y):Bool);apply aa.ch (ok86 ay.nil) fw [1,2,5,26,27,28,35];simp[d62r7,hu,Nat.add_assoc];have hpX:∀s,bX f0 V s p=some (.box (ma V.k V.z)):=λs=>(kH hv s).sp;refine aa.cond rfl (λg2=>?_) (λg2=>?_)
   ·have g2:u=false:=by simpa using g2
    rw[g2]at hu;have hu:=Zay hu;rw[Zab hu]at hms;apply aa.exit;simp;rw[<-hL];refine aa.le (le_L (L1:=[_]) (l:=[(1,.ptr (N+2) 0),(2,.v (ti y)),(26,.v (.sl (aU z.n.au))),(27,.v (ti z.n.au.length)),(28,.v (ti k))]) (ba:=N+3000) (hC _) (hpX _) nu (by omega) (by simp) (by simp)) ?_;apply aa.fK cF fw [1,2,26,27,28];simp[aac,w2];rw[hL,<-hms];exact⟨k+1,Le.same (C3 hN hv (by omega) (hLM (by omega)) _) (by simp[gn]),by omega,by omega⟩
   ·have g2:u=true:=by simpa using g2
    rw[g2]at hu;have hu:=Zat hu;rw[Zai hu]at hms;apply aa.skip;simp;simp only[hy]at hsc;have rQ:∀r',aM [(N+2048,dS ⟨Vc,rh,ra,rb,rp,ro⟩),(N+2,.box [.ptr p 0])] (bX f0 V (Ci z (y:Int) st k)) r'=none->aM [(N+2048,dS ⟨Vc,rh,ra,rb,rp,ro⟩),(N+2,.box [.ptr p 0])] (bX f0 V (rN z (y:Int) st k (eD z ⟨Vc,rh,ra,rb,rp,ro⟩).length)) r'=none:=by
     intro r' gD;simp only[aP,cm]at gD⊢;split at gD
     ·cases gD
     ·split at gD
      ·cases gD
      ·rename_i a1 a2;rw[Zab a1,Zab a2];cases hf:f0 r' with
       |none=>exact gK hv _ hf
       |some o=>
        exfalso;have:bX f0 V (Ci z (y:Int) st k) r'≠none:=by
         simp only[bX,aP,cm];repeat' split
         all_goals first|(intro h;cases h)|(rw[hf];simp)
        exact this gD
    have aC:=Hd ay.nil (λN' _=>hsc _ (Qh _) hu) (by rw[hV];exact rQ);rw[hV]at aC;rw[<-hL];apply aa.Iq aC fw (rs:=O7) rfl (by kernel_rfl) [1,2,26,27,28];simp[O7,dS,Nat.add_assoc];refine aa.le (le_L (L1:=[_]) (l:=[(1,.ptr (N+2) 0),(2,.v (ti y)),(26,.v (.sl (aU z.n.au))),(27,.v (ti z.n.au.length)),(28,.v (ti k))]) (ba:=N+3000) (hC _) (hpX _) nu (by omega) (by simp) (by simp)) ?_;apply aa.fK cF fw [1,2,26,27,28];simp[aac,w2];rw[hL,<-hms];exact⟨k+1,Le.same (C3 hN hv (by omega) (hLM (by omega)) _) (by simp[gn]),by omega,by omega⟩
  ·have g:k=z.n.au.length:=by
    have:¬k<z.n.au.length:=by simpa using g
    omega
   apply aa.exit;simp;have e4:Ci z (y:Int) st k=oA z st:=by
    unfold Ci oA;rw[g,ZbM,hy]
   rw[e4];obtain⟨i1,i2,i3⟩:=A6 H.C H.K hI' bT;have l1:=Nq (z:=z) (x:=(st.s.e 0).x) z.n.au;refine⟨oA z st,Le.same (C3 hN hv (by omega) (hLM (by omega)) _) (by simp[gn]),⟨i1, ?_, ?_⟩,i2⟩
   ·have:=Xn.2.2.1;unfold setP at i3;omega
   ·rw[aaI bT]at hR';rw[<-hR'];exact B1 H i1 (by omega) (by omega)
end
def ii(p N:Nat)(r:di)(k:Int)(w:c8):cV:=[(N+1058,dS r),(N+1057,.box [.v (ti k)]),(N+55,nF w),(N+3,.box [.ptr p 0]),(N+5,.box [.v (ti 0),.v (ti 0),.v (ti 0),.v (ti 0)])]
def pickC(z:eY)(ak:bR)(w:c8)(r:di)(k:Int)(x:Cell):Cell:=match Nm z ak w r with
 |some i=>⟨w.aH,w.size,k,i.1⟩
 |none=>x
def Nt{z:eY}(H:Run z){k0:NN}{f0:bq}{p N:Nat}{st:kl}(aT:dh f0 N)(hv:(⟨k0,z,st⟩:SV).at f0 p)(W:WF z.n.an.toNat st){r:di}(hr:r∈z.n.au){k:Int}{x:Cell}{w:c8}{D:DV}(hD:FY D r):
  aR aj 85 [.ptr p 0,D,.nG (.func 129) [.ptr (N+3) 0,.ptr (N+55) 0,.ptr (N+1057) 0,.ptr (N+105) 0]] (aM ((N+105,db x)::ii p N r k w) f0)
   ⟨True,.v (.eo []),aM ((N+105,db (pickC z st.ak w r k x))::ii p N r k w) f0⟩:=by
 have I2:=H.K.hn.2.2.2 r hr;have nu:=(aT _ _ hv.sp).1;have vR:=H.K.ft;have ik:=H.C.tm;have hL:∀(y:Cell),∀q∈((N+105,db y)::ii p N r k w),N<=q.1:=by intro y;simp[ii]
 have dP:∀y,(⟨k0,z,st⟩:SV).at (aM ((N+105,db y)::ii p N r k w) f0) p:=λy=>hv.aM aT (hL y);have hCl:∀y,dh (aM ((N+105,db y)::ii p N r k w) f0) (N+2000):=λy=>by
  refine ll aT (by omega) λq hq=>?_;simp only[ii,Zah,Zal,or_false]at hq;rcases hq with rfl|rfl|rfl|rfl|rfl|rfl
  ·exact⟨by simp only;omega,λm hm=>by simp[db,aZ,bM,aN]at hm⟩
  ·exact⟨by simp only;omega,λm hm=>by simp[dS,aZ,bM,aN]at hm⟩
  ·exact⟨by simp only;omega,λm hm=>by simp[aZ,bM,aN]at hm⟩
  ·exact⟨by simp only;omega,λm hm=>by simp[nF,aZ,bM,aN]at hm⟩
  ·refine⟨by simp only;omega,λm hm=>?_⟩;simp only[aZ,bM,aN,ZaC,Zah,Zal,or_false]at hm;subst hm;rw[(dP y).sp];simp
  ·exact⟨by simp only;omega,λm hm=>by simp[aZ,bM,aN]at hm⟩
 have rQ:∀(y y':Cell) r',aM ((N+105,db y)::ii p N r k w) f0 r'=none->aM ((N+105,db y')::ii p N r k w) f0 r'=none:=by
  intro y y' r' h;rw[aP]at h⊢;split at h
  ·cases h
  ·rename_i h1;rw[Zab h1];exact h
 have oV:∀y y',aM [(N+105,db y')] (aM ((N+105,db y)::ii p N r k w) f0)=aM ((N+105,db y')::ii p N r k w) f0:=λy y'=>by
  rw[zM];exact Ns _ _ _ _ _
 have call:∀(y:Cell) (i:gf),i∈cD z r->∀N',(∀r',N'<=r'->aM ((N+105,db y)::ii p N r k w) f0 r'=none)->
   aR aj 129 ([.v (ti i.1),.v (ti i.2.1),j9 i.2.2]++lY [N+3,N+55,N+1057,N+105]) (aM ((N+105,db y)::ii p N r k w) f0)
    ⟨True,.v (.bool (!decide (qJ z st.ak i=w))),aM ((N+105,db (if qJ z st.ak i=w then⟨w.aH,w.size,k,i.1⟩else y))::ii p N r k w) f0⟩:=λy i hi N' Va=>by
  have:=t90 (i:=i) (sB:=N+3) (vB:=N+55) (iB:=N+1057) (cB:=N+105) (w:=w) (k:=k) (x:=y) Va (dP y) (by simp[ii]) (by simp[ii]) (by simp[ii]) (by simp) (A8 H.K H.cf W hr hi);rw[oV]at this;by_cases e:qJ z st.ak i=w
  ·simpa [e]using this
  ·simpa [e]using this
 have bY:FZ [N+3,N+55,N+1057,N+105] (aM ((N+105,db x)::ii p N r k w) f0):=by
  intro q hq;simp only[Zah,Zal,or_false]at hq;rcases hq with rfl|rfl|rfl|rfl
  ·exact⟨_,by simp[ii];rfl⟩
  ·exact⟨_,by simp[ii,nF];rfl⟩
  ·exact⟨_,by simp[ii];rfl⟩
  ·exact⟨_,by simp[db];rfl⟩
 unfold pickC;cases hp:Nm z st.ak w r with
 |none=>
  have bT:∀i∈cD z r,qJ z st.ak i≠w:=λi hi=>by
   have:=ZcX.1 hp i hi;simpa using this
  refine t57 (k:=k0) (z:=z) (N:=N+2000) (r:=r) (bY:=[N+3,N+55,N+1057,N+105]) (F:=λ_=>aM ((N+105,db x)::ii p N r k w) f0) (B:=λ_=>true) (m:=(cD z r).length) ⟨λ_ _=>⟨_,dP x⟩,λ_ _=>hCl x⟩ ⟨λj i hi _ N' Va=>?_,λ_ _ _ h=>h,λ_ _=>rfl,.inl rfl⟩ H.Kb.mono H.K.hl.2.2.1 (by omega) ⟨I2.2.2.1,I2.2.2.2.1⟩ H.K.hl.2.2.2 bY hD;have h1:=call x i (Zax hi) N' Va;have h2:=bT i (Zax hi);simpa [h2]using h1
 |some i=>
  obtain⟨hi1,idx,hidx,mF,ln⟩:=ZcO.1 hp;have hi1:qJ z st.ak i=w:=by simpa using hi1
  have e0:(λj=>aM ((N+105,db (if idx<j then⟨w.aH,w.size,k,i.1⟩else x))::ii p N r k w) f0) 0=aM ((N+105,db x)::ii p N r k w) f0:=by simp
  have e1:(λj=>aM ((N+105,db (if idx<j then⟨w.aH,w.size,k,i.1⟩else x))::ii p N r k w) f0) (idx+1)=aM ((N+105,db ⟨w.aH,w.size,k,i.1⟩)::ii p N r k w) f0:=by simp
  rw[<-e0]at bY⊢;simp only;rw[<-e1];refine t57 (k:=k0) (z:=z) (N:=N+2000) (r:=r) (bY:=[N+3,N+55,N+1057,N+105]) (F:=λj=>aM ((N+105,db (if idx<j then⟨w.aH,w.size,k,i.1⟩else x))::ii p N r k w) f0) (B:=λj=>decide (j≠idx)) (m:=idx+1) ⟨λ_ _=>⟨_,dP _⟩,λ_ _=>hCl _⟩ ⟨λj i' pW hj N' Va=>?_,λ_ _ _ h=>rQ _ _ _ h,λj hj=>?_,.inr ⟨by omega,by omega,by simp⟩⟩ H.Kb.mono H.K.hl.2.2.1 (by omega) ⟨I2.2.2.1,I2.2.2.2.1⟩ H.K.hl.2.2.2 bY hD
  ·have XB:¬idx<j:=by omega
   simp only[XB,if_false]at Va⊢;have h1:=call x i' (Zax pW) N' Va;by_cases e:j=idx
   ·subst e;rw[Zas hidx,mF]at pW;cases pW;simpa [hi1]using h1
   ·have h2:=ln j (by omega);have J3:j<(cD z r).length:=by omega
    rw[Zas J3]at pW;cases pW;have h3:¬idx<j+1:=by omega
    have h4:qJ z st.ak (cD z r)[j]≠w:=by simpa using h2
    simpa [h4,e,h3]using h1
  ·have:j≠idx:=by omega
   simpa using this
section
variable{z:eY}{r:di}{f0:bq}
def oe(p N:Nat)(w:c8):cV:=[(N+55,nF w),(N+3,.box [.ptr p 0]),(N+5,.box [.v (ti 0),.v (ti 0),.v (ti 0),.v (ti 0)])]
def Gq{ak:bR}{h:Int}{x:Cell}{k:Nat}(hr:z.n.au.getD k default=r):mM z ak h x k=if r.head≠h\/(bv ak h).aH>=1099511627776\/x.qE>=0 then x else pickC z ak (bv ak h) r k x:=by
 subst hr;rfl
def le_cho{N p:Nat}{aJ ba:Nat}{tm:dw}{l:fA}{cs:bB}{k:Int}{w:c8}{x:Cell}(aT:dh f0 N)(hp:f0 p=some (.box cs))(hM:N+106<=ba)(ik:fR (aM ((N+105,db x)::ii p N r k w) f0) (aM ((N+105,db x)::oe p N w) f0) id tm l):
  Le ⟨tm,aM ((N+105,db x)::ii p N r k w) f0,aJ,N,[]⟩ ⟨DM.look l,aM ((N+105,db x)::oe p N w) f0,ba,N,[]⟩:=by
 have nu:=(aT _ _ hp).1;have np:∀k,p≠N+k:=λk=>by omega
 refine Le.dV aT (by omega) ?_ ?_ ?_ ik
 ·simp[oe];omega
 ·simp[bK,ii,oe]
 ·simp[dN,eA,ii,oe,db,nF,np,hp]
def t63{p N h:Nat}(H:Run z){k0:NN}{st:kl}(hN:∀r,N<=r->f0 r=none)(hv:(⟨k0,z,st⟩:SV).at f0 p)(W:WF z.n.an.toNat st)(hh:h<z.n.an.toNat):
  aR aj 91 [.ptr p 0,.v (ti h)] f0 ⟨True,.v (.agg (iQ z st.ak h).enc),f0⟩:=by
 obtain⟨R,hR⟩:=bb (iQ z st.ak h);rw[hR];refine c63.pQ hN (by simp) λaT=>?_;have P2:=hv.sp;have oO:=hv.rb;simp only[ma,qK]at P2 oO;have nu:=(aT _ _ hv.sp).1;have UN:=(aT _ _ hv.rb).1;simp only at UN;have np:∀k,p≠N+k:=λk=>by omega
 have nb:∀k,k0.rb≠N+k:=λk=>by omega
 have hhb:h<st.ak.length:=by rw[W.lb];exact hh
 have rr:=dd hhb;obtain⟨w,hw⟩:=bb (st.ak.getD h default);rw[hw]at rr;have JG:bv st.ak h=w:=hw;have Xn:=H.K.hn;simp;apply aa.ch cF fw [1,2,4];simp[d63r0,Nat.add_assoc];apply aa.ch cF fw [1,2,4,5];simp[d63r1,P2,oO,np,nb,hhb,rr,Nat.add_assoc];apply aa.ch cF fw [1,2,4,5,6];simp[d63r2,Nat.add_assoc];apply aa.seq;apply aa.ch cF fw [1,2,4,5,6,21,22,23];simp[d63r3,P2,np,Nat.add_assoc];have eT:aM [(N+105,Ob.box [.v (ti 1099511627776),.v (ti 0),.v (ti (-1)),.v (ti 0)]),(N+105,Ob.box [.v (ti 0),.v (ti 0),.v (ti 0),.v (ti 0)]),(N+55,Ob.box [.v (ti w.aH),.v (ti w.size)]),(N+55,Ob.box [.v (ti 0),.v (ti 0)]),(N+5,Ob.box [.v (ti 0),.v (ti 0),.v (ti 0),.v (ti 0)]),(N+3,Ob.box [.ptr p 0])] f0=aM ((N+105,db lP)::oe p N w) f0:=by
  funext q;simp only[aP,cm,oe,nF,db,lP]
  (repeat' split)<;>first|rfl|omega
 rw[eT];apply aa.block;have mi:∀(L:cV) M,N<=M->(∀q∈L,q.1<M)->∀r,M<=r->aM L f0 r=none:=λL M hM hL r hr=>by
  rw[fj λo h=>by have:=hL _ h;simp only at this;omega];exact hN r (by omega)
 refine aa.loop (λk:Nat=>⟨DM.look [(1,.v (ti h)),(2,.ptr (N+3) 0),(4,.ptr (N+5) 0),(5,.ptr (N+55) 0),(6,.ptr (N+105) 0),(21,.v (.sl (aU z.n.au))),(22,.v (ti z.n.au.length)),(23,.v (ti k))],aM ((N+105,db (oB z st.ak h k))::oe p N w) f0,N+1000,N,[]⟩)
  (λk=>k<=z.n.au.length) (λk=>z.n.au.length-k) 0 (Le.same (mi _ _ (by omega) (by simp[oe])) (by simp[gn])) (by omega) (λk hk=>?_)
 obtain⟨x,hx⟩:=bb (oB z st.ak h k);rw[hx];apply aa.ch cF fw [1,2,4,5,6,21,22,23,24];simp[d63r4];apply aa.seq;refine aa.cond rfl (λg=>?_) (λg=>?_)
 ·have g:k<z.n.au.length:=by simpa using g
  have rk:=kZ g;have hrm:z.n.au.getD k default∈z.n.au:=bm g;have oj:=zK z st.ak h k;have w2:IntKind.i64.wrap ((k:Int)+1)=((k+1:Nat):Int):=by rw[aF (by have:=Xn.2.2.1;omega)];omega
  obtain⟨r,hr⟩:=bb (z.n.au.getD k default);rw[hr]at rk hrm;rw[Gq hr,hx,JG]at oj;have nP:=λD hD=>Nt (k:=k) (x:=x) (w:=w) H aT hv W hrm (D:=D) hD;obtain⟨Vc,rh,ra,rb,rp,ro⟩:=r;simp only[di.enc]at rk;simp only at oj;apply aa.skip;simp;apply aa.seq;apply aa.block;apply aa.ch cF fw [1,2,4,5,6,7,8,21,22,23];simp[d63r5,g,rk,Nat.add_assoc];have eU:aM ((N+1058,Ob.box [.v (ti Vc),.v (ti rh),.v (ti ra),.v (ti rb),.v (ti rp),.v (ti ro)])::(N+1057,Ob.box [.v (ti k)])::(N+1058,Ob.box [.v (ti 0),.v (ti 0),.v (ti 0),.v (ti 0),.v (ti 0),.v (ti 0)])::(N+1057,Ob.box [.v (ti 0)])::(N+105,db x)::oe p N w) f0=aM ((N+105,db x)::ii p N ⟨Vc,rh,ra,rb,rp,ro⟩ k w) f0:=by
   funext q;simp only[aP,cm,oe,ii,dS]
   (repeat' split)<;>first|rfl|omega
  rw[eU];apply aa.seq;obtain⟨c1,bU⟩:=bb (decide (rh≠h\/w.aH>=1099511627776\/x.qE>=0):Bool);refine aa.cz cF fw [(1,.v (ti h)),(2,.ptr (N+3) 0),(4,.ptr (N+5) 0),(5,.ptr (N+55) 0),(6,.ptr (N+105) 0),(7,.ptr (N+1057) 0),(8,.ptr (N+1058) 0),(21,.v (.sl (aU z.n.au))),(22,.v (ti z.n.au.length)),(23,.v (ti k)),(41,.v (.bool c1))] ?_ ?_
  ·by_cases q1:rh=h
   ·by_cases q2:w.aH>=1099511627776
    ·have:c1=true:=by rw[<-bU];simp[q2]
     simp[Ln,ii,db,nF,dS,q1,q2,this]
    ·by_cases q3:x.qE>=0
     ·have:c1=true:=by rw[<-bU];simp[q3]
      simp[Ln,ii,db,nF,dS,q1,q2,q3,this]
     ·have:c1=false:=by rw[<-bU];simp[q1,q2,q3]
      simp[Ln,ii,db,nF,dS,q1,q2,q3,this]
   ·have:c1=true:=by rw[<-bU];simp[q1]
    simp[Ln,ii,db,nF,dS,q1,this]
  refine aa.cond rfl (λg2=>?_) (λg2=>?_)
  ·have g2:c1=true:=by simpa using g2
   rw[g2]at bU;rw[Zai (Zat bU)]at oj;apply aa.exit;simp;refine aa.le (le_cho (l:=[(1,.v (ti h)),(2,.ptr (N+3) 0),(4,.ptr (N+5) 0),(5,.ptr (N+55) 0),(6,.ptr (N+105) 0),(21,.v (.sl (aU z.n.au))),(22,.v (ti z.n.au.length)),(23,.v (ti k))]) (ba:=N+3000) aT hv.sp (by omega) (by simp[ii,oe,db,nF])) ?_;apply aa.fK cF fw [1,2,4,5,6,21,22,23];simp[aae,w2];refine⟨k+1, ?_,by omega,by omega⟩;rw[oj];exact Le.same (mi _ _ (by omega) (by simp[oe])) (by simp[gn])
  ·have g2:c1=false:=by simpa using g2
   rw[g2]at bU;rw[Zab (Zay bU)]at oj;have aC:=Hd ay.nil (λN' _=>nP _ (Qh _)) (λr' h=>by
    rw[aP]at h⊢;split at h
    ·cases h
    ·rename_i h1;rw[Zab h1];exact h)
   apply aa.skip;simp;apply aa.Iq aC fw (rs:=Pa) rfl (by kernel_rfl) [1,2,4,5,6,21,22,23];have l1:aM (ii p N ⟨Vc,rh,ra,rb,rp,ro⟩ k w) f0 (N+3)=some (.box [.ptr p 0]):=by simp[ii]
   have l2:aM (ii p N ⟨Vc,rh,ra,rb,rp,ro⟩ k w) f0 (N+1058)=some (dS ⟨Vc,rh,ra,rb,rp,ro⟩):=by simp[ii]
   simp[Pa,l1,l2,dS];refine aa.le (le_cho (l:=[(1,.v (ti h)),(2,.ptr (N+3) 0),(4,.ptr (N+5) 0),(5,.ptr (N+55) 0),(6,.ptr (N+105) 0),(21,.v (.sl (aU z.n.au))),(22,.v (ti z.n.au.length)),(23,.v (ti k))]) (ba:=N+3000) aT hv.sp (by omega) (by simp[ii,oe,db,nF])) ?_;apply aa.fK cF fw [1,2,4,5,6,21,22,23];simp[aae,w2];refine⟨k+1, ?_,by omega,by omega⟩;rw[oj];exact Le.same (mi _ _ (by omega) (by simp[oe])) (by simp[gn])
 ·have g:k=z.n.au.length:=by
   have:¬k<z.n.au.length:=by simpa using g
   omega
  have hxR:x=R:=by rw[<-hx,g,<-hR];rfl
  subst hxR;apply aa.exit;simp;apply aa.ch cF fw [4];simp[d63r9,db,oe];refine aa.le (kO (l:=[(4,.v (.box [ti x.aH,ti x.size,ti x.qE,ti x.arg]))]) (ba:=N+3000) aT (by omega) (by simp) ?_) ?_
  ·simp;exact bL (l:=[]) aT (by omega) (by simp)
  apply aa.ret;simp[aaf,Cell.enc];rfl
end
def nA(a N:Nat):cV:=[(N+15,.box [.nG (.func 83) [.ptr a 0],.aW,.iE (N+13),.v (ti 0),.v (ti 0)]),(N+13,.map [.int .i64] false 0 [])]
def t54{f0:bq}{a N:Nat}{cs:bB}(hN:∀r,N<=r->f0 r=none)(ha:f0 a=some (.box cs)):
  sE aj 82 [.nG (.func 83) [.ptr a 0]] f0 N (N+20) (λval nJ=>val=.ptr (N+15) 0/\nJ=aM (nA a N) f0):=by
 refine c54.YJ hN (by simp) (by omega) ?_ λaT=>?_
 ·rintro val nJ ⟨rfl,rfl⟩;refine⟨λr hr h=>?_,λr hr=>?_⟩
  ·rw[pB hr (by simp[nA])];exact h
  ·rw[fj λo h=>by simp[nA]at h;omega];exact hN r (by omega)
 ·simp;apply aa.ch cF fw [0,2];simp[Lf];apply aa.ch cF fw [2];simp[Lg,Nat.add_assoc];apply aa.ret;simp[finN,nA]
section
variable{z:eY}{st:kl}
def Hx:NN:=⟨2025,2028,2031,2304,2012,2309,2302⟩
def dJ(z:eY)(st:kl):cV:=[(2033,.box (ma Hx z)),(2025,qK st),(2028,rU st),(2031,rV st),(2304,qB 2012 2309 2302 st.s),(2309,hB st.s),(2302,mB st.s),(2012,.box [.ptr 2033 0])]
def oC(z:eY)(st:kl)(L:cV)(hL:∀q∈L,3000<=q.1):(⟨Hx,z,st⟩:SV).at (cM (L++dJ z st)) 2033:=by
 have h:∀k,k<3000->cM (L++dJ z st) k=cM (dJ z st) k:=by
  intro k hk;induction L with
  |nil=>rfl
  |cons a L ih=>
   obtain⟨r,o⟩:=a;have:=hL (r,o) (by simp);simp only at this;rw[ZaM,cS,Zab (by omega)];exact ih λq hq=>hL q (by simp[hq])
 refine⟨?_, ?_, ?_, ?_, ?_, ?_, ?_, ?_⟩<;>(rw[h _ (by simp[Hx])];simp[dJ,Hx])
def Nu(z:eY)(st dm:kl)(L:cV)(hL:∀q∈L,3000<=q.1):bX (cM (L++dJ z st)) ⟨Hx,z,st⟩ dm=cM (L++dJ z dm):=by
 funext k;induction L with
 |nil=>
  show(if k=2025 then some (qK dm)else if k=2028 then some (rU dm)else if k=2031 then some (rV dm)else if k=2304 then some (qB 2012 2309 2302 dm.s)else if k=2309 then some (hB dm.s)else if k=2302 then some (mB dm.s)else cM (dJ z st) k)=cM (dJ z dm) k;simp only[dJ,cS,gR];by_cases h1:k=2025
  ·subst h1;simp
  by_cases h2:k=2028
  ·subst h2;simp
  by_cases h3:k=2031
  ·subst h3;simp
  by_cases h4:k=2304
  ·subst h4;simp
  by_cases h5:k=2309
  ·subst h5;simp
  by_cases h6:k=2302
  ·subst h6;simp
  simp only[Zab h1,Zab h2,Zab h3,Zab h4,Zab h5,Zab h6]
 |cons a L ih=>
  obtain⟨r,o⟩:=a;have hr:=hL (r,o) (by simp);simp only at hr;have ih:=ih λq hq=>hL q (by simp[hq]);show(if k=2025 then some (qK dm)else if k=2028 then some (rU dm)else if k=2031 then some (rV dm)else if k=2304 then some (qB 2012 2309 2302 dm.s)else if k=2309 then some (hB dm.s)else if k=2302 then some (mB dm.s)else(if k=r then some o else cM (L++dJ z st) k))=if k=r then some o else cM (L++dJ z dm) k
  rw[<-ih];show _=if k=r then some o else(if k=2025 then some (qK dm)else if k=2028 then some (rU dm)else if k=2031 then some (rV dm)else if k=2304 then some (qB 2012 2309 2302 dm.s)else if k=2309 then some (hB dm.s)else if k=2302 then some (mB dm.s)else cM (L++dJ z st) k)
  (repeat' split)<;>first|rfl|omega
def obs_over(L:cV):cM L=aM L (λ_=>none):=by
 funext k;induction L with
 |nil=>rfl
 |cons a L ih=>
  obtain⟨r,o⟩:=a;simp only[cS,aP,ih]
def B2(z:eY)(st:kl){M:Nat}(hM:3000<=M){L:cV}(hL:∀q∈L,3000<=q.1/\q.1<M/\aZ q.2=[]):dh (cM (L++dJ z st)) M:=by
 have dP:=oC z st L (λq hq=>(hL q hq).1);have e:=obs_over (L++dJ z st);rw[e]at dP⊢;refine ll (N:=0) (λr o h=>by cases h) (ZbB _) λq hq=>?_;rcases Zaq.1 hq with hq|hq
 ·obtain⟨_,h2,h3⟩:=hL q hq;exact⟨h2,λm hm=>by rw[h3]at hm;cases hm⟩
 ·simp only[dJ,Zah,Zal,or_false]at hq;have h1:=dP.rb;have h2:=dP.rf;have h3:=dP.rh;have h4:=dP.q;have h5:=dP.hp;have h6:=dP.m;have h7:=dP.a;have h8:=dP.sp;simp only[Hx]at h1 h2 h3 h4 h5 h6 h7 h8;rcases hq with rfl|rfl|rfl|rfl|rfl|rfl|rfl|rfl
  ·refine⟨by simp only;omega,λm hm=>?_⟩;simp only[ma,Hx,aZ,bM,aN,ZaC,ZaG,Zah,Zal,or_false,ZaM]at hm;rcases hm with rfl|rfl|rfl|rfl
   ·rw[h1];simp
   ·rw[h2];simp
   ·rw[h3];simp
   ·rw[h4];simp
  ·exact⟨by simp only;omega,λm hm=>by simp[qK,aZ]at hm⟩
  ·exact⟨by simp only;omega,λm hm=>by simp[rU,aZ]at hm⟩
  ·exact⟨by simp only;omega,λm hm=>by simp[rV,aZ]at hm⟩
  ·refine⟨by simp only;omega,λm hm=>?_⟩;simp only[qB,aZ,bM,aN,ZaC,Zaq,Zah,Zal,or_false]at hm;rcases hm with rfl|rfl|rfl
   ·rw[h7];simp
   ·rw[h5];simp
   ·rw[h6];simp
  ·exact⟨by simp only;omega,λm hm=>by simp[hB,aZ]at hm⟩
  ·refine⟨by simp only;omega,λm hm=>?_⟩;exfalso;simp only[mB,aZ,ZaV,uO,Zak]at hm;obtain⟨e,⟨e',_,rfl⟩,hk⟩:=hm;simp[aN]at hk
  ·refine⟨by simp only;omega,λm hm=>?_⟩;simp only[aZ,bM,aN,ZaC,Zah,Zal,or_false]at hm;subst hm;rw[h8];simp
def vV(z:eY)(st:kl)(k:Nat):kl:=(z.n.au.take k).foldl (λst r=>(cD z r).foldl (xi z r) st) st
def Cj(z:eY)(st:kl)(k j:Nat):kl:=((cD z (z.n.au.getD k default)).take j).foldl (xi z (z.n.au.getD k default)) (vV z st k)
def Nv(r:di):(cD z r).length<=z.l.bE.length+((z.to-z.fr).toNat+1):=by
 have:=wu z;unfold cD;split
 ·split<;>simp;omega
 ·split
  ·have:=List.length_filterMap_le (tT z r) (List.range' (jn z) (tW z-jn z));rw[List.length_range']at this;omega
  ·split
   ·simp;omega
   ·split
    ·simp
    ·simp
def ini_ok(C:nl z.n z.l z.c z.fr.toNat z.to.toNat)(K:Kx z){k j:Nat}(hk:k<z.n.au.length):PI z (Cj z (gG z.n.an.toNat) k j)/\(Cj z (gG z.n.an.toNat) k j).s.dv<=700000000000:=by
 have Ql:z.n.au.getD k default∈z.n.au:=bm hk;obtain⟨r,hr⟩:=bb (z.n.au.getD k default);have e:Cj z (gG z.n.an.toNat) k j=(((z.n.au.take k).flatMap λr=>(cD z r).map λi=>((r,i):PR))++((cD z r).take j).map λi=>((r,i):PR)).foldl (λst (p:PR)=>xi z p.1 st p.2) (gG z.n.an.toNat):=by
  rw[ZaI,<-qq (λst (p:PR)=>xi z p.1 st p.2) (cD z),ZcC];unfold Cj vV;rw[hr]
 have dq:∀p∈((z.n.au.take k).flatMap λr=>(cD z r).map λi=>((r,i):PR))++((cD z r).take j).map λi=>((r,i):PR),NO z p:=by
  intro p hp;rcases Zaq.1 hp with hp|hp
  ·obtain⟨r',gD,hp⟩:=ZaV.1 hp;obtain⟨i,hi,rfl⟩:=Zak.1 hp;exact⟨ZaE gD,hi⟩
  ·obtain⟨i,hi,rfl⟩:=Zak.1 hp;rw[hr]at Ql;exact⟨Ql,ZaE hi⟩
 obtain⟨a1,_,_,a4⟩:=(U6 C K).L8 (λ_ h=>h) _ dq _ (PI0 K);rw[<-e]at a1 a4;refine⟨a1, ?_⟩;have l1:=zD (c:=1000001001) (f:=λr=>(cD z r).map λi=>((r,i):PR)) (z.n.au.take k) (λr hr=>by
  have:=Nv (z:=z) r;have:=K.hl.2.2.1;have:=C.tm;have:=K.ft;rw[Zbn];omega)
 have l2:=Nv (z:=z) r;have l3:=K.hn.2.2.1;have l4:=K.hl.2.2.1;have:=C.tm;have:=K.ft;rw[ZaK,Zbn,ZaB]at a4;rw[ZaB]at l1;have l5:1000001001*min k z.n.au.length<=1000001001*600:=Nat.mul_le_mul_left _ (by omega);have l6:(gG z.n.an.toNat).s.dv=0:=rfl;omega
def Hy{k:Nat}(hk:k<z.n.au.length):vV z st (k+1)=Cj z st k (cD z (z.n.au.getD k default)).length:=by
 unfold Cj vV;rw[cW hk,ZaI];simp only[ZaN,Zca,ZbM]
def W6{k j:Nat}{i:gf}(h:(cD z (z.n.au.getD k default))[j]? =some i):Cj z st k (j+1)=xi z (z.n.au.getD k default) (Cj z st k j) i:=by
 unfold Cj;rw[ZbO,h,ZaI];rfl
def ini_call(H:Run z){k:Nat}(hk:k<z.n.au.length){D:DV}(hD:FY D (z.n.au.getD k default)):
  aR aj 85 [.ptr 2033 0,D,.nG (.func 86) [.ptr 2012 0,.ptr 4104 0]] (cM ([(4104,dS (z.n.au.getD k default))]++dJ z (vV z (gG z.n.an.toNat) k)))
   ⟨True,.v (.eo []),cM ([(4104,dS (z.n.au.getD k default))]++dJ z (vV z (gG z.n.an.toNat) (k+1)))⟩:=by
 have Ql:z.n.au.getD k default∈z.n.au:=bm hk;have hini:=λj=>ini_ok H.C H.K (j:=j) hk;rw[Hy hk];have hsu:=λ{j i}=>W6 (z:=z) (st:=gG z.n.an.toNat) (k:=k) (j:=j) (i:=i);obtain⟨r,hr⟩:=bb (z.n.au.getD k default);have I2:=H.K.hn.2.2.2 r (by rw[<-hr];exact Ql);rw[hr]at hD Ql hsu⊢;have hL:∀q∈[((4104:Nat),dS r)],3000<=q.1:=by simp
 have e0:vV z (gG z.n.an.toNat) k=Cj z (gG z.n.an.toNat) k 0:=rfl;rw[e0];have vR:=H.K.ft;have ik:=H.C.tm;refine t57 (k:=Hx) (z:=z) (N:=5000) (r:=r) (bY:=[2012,4104]) (F:=λj=>cM ([(4104,dS r)]++dJ z (Cj z (gG z.n.an.toNat) k j))) (B:=λ_=>true) ⟨λj _=>⟨_,oC z _ _ hL⟩,λj _=>B2 z _ (by omega) (by simp[dS,aZ,bM,aN])⟩
  ⟨λj i hi _ N' Va=>?_,λj r' hj hn=>?_,λ_ _=>rfl,.inl rfl⟩ H.Kb.mono H.K.hl.2.2.1 (by omega) ⟨I2.2.2.1,I2.2.2.2.1⟩ H.K.hl.2.2.2 ?_ hD
 ·have hib:i∈cD z r:=Zax hi;obtain⟨m1,m2⟩:=hini j;have:=t58 (i:=i) (r:=r) (sB:=2012) (rB:=4104) Va (oC z (Cj z (gG z.n.an.toNat) k j) _ hL) (by simp[dJ]) (by simp) (A8 H.K H.cf m1.1.wf Ql hib) (λ_=>by
   have hh:0<=r.head/\r.head<z.n.an:=⟨I2.1,I2.2.1⟩;exact m1.1.wf.TW (by omega) (JW H.K m1.1.wf.bo Ql hib) (by have:=H.K.hn.2.1;omega) (by omega))
  rw[Nu z _ _ _ hL]at this;simp only at this;rw[<-hsu hi]at this;exact this
 ·simp only[dJ,ZaM,ZaG,cS,gR]at hn⊢;repeat' split at hn
  all_goals first|(cases hn;done)|skip
  simp[*]
 ·intro x hx;simp only[Zah,Zal,or_false]at hx;rcases hx with rfl|rfl
  ·exact⟨[.ptr 2033 0],by simp[dJ]⟩
  ·exact⟨_,by simp[dS];rfl⟩
end
section
variable{tm:dw}{aJ ba r:Nat}{A:cV}{z:eY}
def F0{z:eY}(H:Run z):∀{f:Nat} {st:kl},IV z st->py st<f->IV z (ip z f st)/\(ip z f st).s.heap=[]
 |0,_,_,h=>by omega
 |f+1,st,hI,h=>by
  by_cases bT:st.s.heap=[]
  ·simp only[ip,Zai bT];exact⟨hI,bT⟩
  ·rw[aaI bT];obtain⟨a,b,_⟩:=A6 H.C H.K hI bT;exact F0 H a (by omega)
def CX{α:Type}(a b:α){n k:Nat}(h:k<n):(List.replicate k a++List.replicate (n-k) b).set k a=List.replicate (k+1) a++List.replicate (n-(k+1)) b:=by
 obtain⟨m,hm⟩:∃m,n-k=m+1:=⟨n-k-1,by omega⟩;rw[hm,show n-(k+1)=m by omega,ZbG _ _ (by simp),ZcN (n:=k)];simp[ZaY]
def pH(n k:Nat):kl:=⟨List.replicate k ⟨1099511627776,0⟩++List.replicate (n-k) ⟨0,0⟩,List.replicate n false,List.replicate k (-1)++List.replicate (n-k) 0,⟨[],0,[],0,0,0⟩⟩
def sttK_end(n:Nat):pH n n=gG n:=by simp[pH,gG]
def eO{ob nJ:bq}{low:Nat}{td:List (aK)}{l:fA}(e:ob=nJ)(h:∀r,ba<=r->nJ r=none)(hl:gn tm l):Le ⟨tm,ob,aJ,low,td⟩ ⟨DM.look l,nJ,ba,low,td⟩:=by
 subst e;exact Le.same h hl
def fE{L:cV}{M:Nat}(h:∀q∈L,q.1<M):∀r,M<=r->cM L r=none:=by
 induction L with
 |nil=>intro r _;rfl
 |cons a L ih=>
  intro r hr;obtain⟨j,o⟩:=a;have:=h (j,o) (by simp);simp only at this;rw[cS,Zab (by omega)];exact ih (λq hq=>h q (by simp[hq])) r hr
def jZ(z:eY)(st:kl):∀q∈dJ z st,2000<=q.1/\q.1<3000:=by
 intro q hq;simp only[dJ,Zah,Zal,or_false]at hq;rcases hq with rfl|rfl|rfl|rfl|rfl|rfl|rfl|rfl<;>simp only[]<;>omega
def qk{B:cV}{o:Ob}(h:cM (A++B) r=some o):(r,o)∈A\/((∀q∈A,q.1≠r)/\cM B r=some o):=by
 induction A with
 |nil=>exact .inr ⟨λq hq=>(by cases hq),h⟩
 |cons a A ih=>
  obtain⟨j,x⟩:=a;rw[ZaM,cS]at h;by_cases e:r=j
  ·rw[Zai e]at h;cases h;subst e;exact .inl (by simp)
  ·rw[Zab e]at h;rcases ih h with h|⟨h1,h2⟩
   ·exact .inl (by simp[h])
   ·exact .inr ⟨λq hq=>by
     rcases Zah.1 hq with rfl|hq
     ·exact λe2=>e e2.symm
     ·exact h1 q hq,h2⟩
def MI{B:cV}(h:∀q∈A,q.1≠r):cM (A++B) r=cM B r:=by
 induction A with
 |nil=>rfl
 |cons a A ih=>
  obtain⟨j,x⟩:=a;have:=h (j,x) (by simp);simp only at this;rw[ZaM,cS,Zab (λe=>this e.symm)];exact ih λq hq=>h q (by simp[hq])
def le_sp{st:kl}{L L':cV}{l:fA}(hL:∀q∈L,3000<=q.1)(hL':∀q∈L',3000<=q.1/\q.1<ba)(hn:3000<=ba)
  (gH:uC (cM (L++dJ z st)) (cM (L'++dJ z st)) id L') (ik:fR (cM (L++dJ z st)) (cM (L'++dJ z st)) id tm l):
  Le ⟨tm,cM (L++dJ z st),aJ,1000,[]⟩ ⟨DM.look l,cM (L'++dJ z st),ba,1000,[]⟩:=by
 have aT:=B2 z st (Zaf 3000) (L:=[]) (λq hq=>by cases hq);simp only[ZaG]at aT;have low:∀{A:cV},(∀q∈A,3000<=q.1)->∀r,r<3000->cM (A++dJ z st) r=cM (dJ z st) r:=λhA r hr=>MI λq hq e=>by have:=hA q hq;omega
 have hLs:∀q∈L',3000<=q.1:=λq hq=>(hL' q hq).1;refine Le.YG rfl rfl ?_ (λr o h=>?_) (λr hr o h=>?_) (λk=>nk l ik k)
 ·refine fE λq hq=>?_;rcases Zaq.1 hq with hq|hq
  ·exact(hL' q hq).2
  ·have:=jZ z st q hq;simp only;omega
 ·rcases qk h with h|⟨_,h⟩
  ·obtain⟨o0,h1,h2⟩:=sx gH r o h;exact⟨o0,h1,.inl h2⟩
  ·have hr:=(aT r o h).1;refine⟨o,(low hL r hr).trans h,.inr ⟨rfl,λm hm=>?_⟩⟩;have NX:=(aT r o h).2 m hm;cases CV:cM (dJ z st) m with
   |none=>exact Zar CV NX
   |some o'=>exact⟨o',o',(low hL m (aT m o' CV).1).trans CV,(low hLs m (aT m o' CV).1).trans CV,be _⟩
 ·exfalso;simp only at h hr;rcases qk h with h|⟨_,h⟩
  ·have:=hL _ h;simp only at this;omega
  ·have hm:=jS h;have:=jZ z st _ hm;simp only at this;omega
def spP(z:eY):bB:=[.v (ti z.n.aL),.v (ti z.n.an),.v (ti z.n.start),.v (.sl (aU z.n.au)),.v (ti z.l.bn),.v (.sl (j7 z.l.bE)),.v (.sl (aG z.l.uH)),.v (ti z.c.an),.v (ti z.c.bn),.v (.sl (cu z.c.cells)),.v (ti z.fr),.v (ti z.to),.bA 2025 0,.bA 2028 0,.bA 2031 0,.v (.mg (Go.Value.pointer Option.none))]
def u4(z:eY)(n:Nat):cV:=[(2012,.box [.ptr 2033 0]),(2033,.box (spP z)),(2031,rV (pH n 0)),(2028,rU (pH n 0)),(2025,qK (pH n 0))]
def t35(H:Run z):oW aj 52 [z.n.enc,z.l.enc,z.c.enc,ti z.fr,ti z.to] 65 4 (cu (mm z.n z.l z.c z.fr z.to)):=by
 have hst0:=init_iv H.C H.K;obtain⟨s0,hs0⟩:=bb (BZ z (gG z.n.an.toNat));rw[hs0]at hst0;have Xn:=H.K.hn;have hck0:s0.s.dv<=700000000000:=by
  by_cases e:z.n.au.length=0
  ·have:z.n.au=[]:=ZaD e;rw[<-hs0];simp[BZ,this,gG]
  ·have h1:=(ini_ok H.C H.K (k:=z.n.au.length-1) (j:=(cD z (z.n.au.getD (z.n.au.length-1) default)).length) (by omega)).2;rw[<-Hy (by omega),show z.n.au.length-1+1=z.n.au.length by omega]at h1;have:vV z (gG z.n.an.toNat) z.n.au.length=BZ z (gG z.n.an.toNat):=by unfold vV BZ;rw[ZbM]
   rw[this,hs0]at h1;exact h1
 have Ww:py s0<=z.n.an.toNat:=by
  unfold py;have:=hst0.1.1.wf.lf;have:=List.count_le_length (a:=false) (l:=s0.bZ);omega
 obtain⟨hI,Av⟩:=F0 H (f:=py s0+1) hst0.1 (by omega);obtain⟨s9,hs9⟩:=bb (ip z (py s0+1) s0);have Wk:1<=z.n.an:=Xn.1;have hn2:z.n.an<=1000:=Xn.2.1;have h62:=t62 (p:=2033) (k0:=Hx) (N:=5000) (f0:=cM (dJ z s0)) H (fE λq hq=>by have:=jZ z s0 q hq;omega) (oC z s0 [] (λq hq=>by cases hq)) hst0.1 (by omega);have oV:=Nu z s0 (ip z (py s0+1) s0) [] (λq hq=>by cases hq);simp only[ZaG]at oV;rw[oV,hs9]at h62;rw[hs9]at hI Av;have hspan:=Qf H.C H.K H.Kb hI Av;rw[<-hspan];have h63:=λ(h:Nat) (hh:h<z.n.an.toNat) (L:cV) (hL:∀q∈L,3000<=q.1) (N:Nat) (hN:∀r,N<=r->cM (L++dJ z s9) r=none)=>t63 (p:=2033) H hN (oC z s9 L hL) hI.1.wf hh;have z8:z.n.au.length<=600:=Xn.2.2.1;obtain⟨nn,hnn2⟩:=Zae (a:=z.n.an) (by omega);have hnt:z.n.an.toNat=nn:=by omega
 rw[hnt]at h63 hs0;refine c35.okF (by simp) (aO ?_);simp[aD.enc,aV.enc,d6.enc];apply aa.ch cF fw [3,4,5,6,7,10];simp[d35r0];refine aa.lk (o:=[]) (l:=[(3,.v (ti z.fr)),(4,.v (ti z.to)),(5,.v (.box [ti z.n.aL,ti z.n.an,ti z.n.start,.sl (aU z.n.au)])),(6,.v (.box [ti z.l.bn,.sl (j7 z.l.bE),.sl (aG z.l.uH)])),(7,.v (.box [ti z.c.an,ti z.c.bn,.sl (cu z.c.cells)])),(10,.aW)]) (ba:=2000) (by simp) ?_;apply aa.ch cF fw [5,11];simp[d35r1,Zba,dK];repeat (refine⟨by omega, ?_⟩)
 have XF:z.n.an.toNat=nn:=hnt;have sl5:∀n1:Nat,∀x,List.replicate n1 [T.int .i64 x]=aG (List.replicate n1 x):=λn1 x=>by simp[aG]
 refine aa.le (eO (nJ:=cM (u4 z nn)) (l:=[(5,.v (.box [ti z.n.aL,ti z.n.an,ti z.n.start,.sl (aU z.n.au)])),(11,.ptr 2012 0)]) (ba:=2200) ?_ ?_ ?_) ?_
 ·funext q;simp only[u4,spP,cS,gR,rV,rU,qK,pH,XF,aG,g8,bC,Zcg,ZaG,List.map_replicate,Zcb]
  (repeat' split)<;>first|rfl|omega
 ·exact fE (by simp[u4])
 ·simp
 have KH:∀{tm:dw} {ob:bq},ob=aM ((2033,.box (ma Hx z))::nA 2012 2289) (cM (u4 z nn))->gn tm [(5,.v (.box [ti z.n.aL,ti z.n.an,ti z.n.start,.sl (aU z.n.au)])),(11,.ptr 2012 0)]->
   Le ⟨tm,ob,2309,1000,[]⟩ ⟨DM.look [(5,.v (.box [ti z.n.aL,ti z.n.an,ti z.n.start,.sl (aU z.n.au)])),(11,.ptr 2012 0)],cM (dJ z (pH nn 0)),3000,1000,[]⟩:=by
  intro tm ob e ik;subst e;refine Le.trans (Le.Cx 2304 1 220 (sz:=3) (cs:=[.nG (.func 83) [.ptr 2012 0],.aW,.iE 2302,.v (ti 0),.v (ti 0)]) (by omega) (by simp[nA]) rfl) (eO ?_ (fE λq hq=>(jZ z _ q hq).2) ik);funext q;show(if q=2304 then _ else if q=2309 then _ else _)=_;simp only[nA,u4,dJ,cS,gR,aP,cm];by_cases h1:q=2304
  ·subst h1;rfl
  by_cases h2:q=2309
  ·subst h2;rfl
  by_cases h3:q=2033
  ·subst h3;rfl
  by_cases h4:q=2302
  ·subst h4;rfl
  by_cases h5:q=2012
  ·subst h5;rfl
  by_cases h6:q=2031
  ·subst h6;rfl
  by_cases h7:q=2028
  ·subst h7;rfl
  by_cases h8:q=2025
  ·subst h8;rfl
  simp[h1,h2,h3,h4,h5,h6,h7,h8]
 refine aa.seq (aa.to ⟨DM.look [(5,.v (.box [ti z.n.aL,ti z.n.an,ti z.n.start,.sl (aU z.n.au)])),(11,.ptr 2012 0)],cM (dJ z (pH nn 0)),3000,1000,[]⟩ (aa.regI cF fw (rs:=Rk) rfl (by kernel_rfl) [5,11] 2309 (λD s=>s.todo=[]/\(D 2=false->s.ab=cM (u4 z nn))/\(D 2=true->D 5=false->s.ab=aM (nA 2012 2289) (cM (u4 z nn)))/\(D 5=true->s.ab=aM ((2033,.box (ma Hx z))::nA 2012 2289) (cM (u4 z nn)))/\
  s.tmps 5=.v (.box [ti z.n.aL,ti z.n.an,ti z.n.start,.sl (aU z.n.au)])/\s.tmps 11=.ptr 2012 0/\(D 0=true->s.tmps 33=.ptr 2033 0)/\(D 1=true->s.tmps 34=.nG (.func 83) [.ptr 2012 0])/\(D 2=true->s.tmps 35=.ptr 2304 0)/\(D 3=true->s.tmps 36=.ptr 2033 0)/\(D 4=true->s.tmps 37=.ptr 2033 15)) ?_ ?_ ?_ rfl) ?_)
 ·intro h;simp
 ·rintro D i r ⟨tm,ob,td⟩ hr hi ha aT ⟨rfl,i1,i2,i3,i4,i5,i6,i7,i8,i9,i10⟩;simp only at i1 i2 i3 i4 i5 i6 i7 i8 i9 i10;have gH:ob=cM (u4 z nn)\/ob=aM (nA 2012 2289) (cM (u4 z nn))\/ob=aM ((2033,.box (ma Hx z))::nA 2012 2289) (cM (u4 z nn)):=by
   cases h2:D 2 with
   |false=>exact .inl (i1 h2)
   |true=>
    cases h5:D 5 with
    |false=>exact .inr (.inl (i2 h2 h5))
    |true=>exact .inr (.inr (i3 h5))
  have rQ:∀k,2200<=k->k<=2250->ob k=none:=λk h1 h2=>by
   have e:∀m,(m<2200\/2250<m)->k≠m:=λm h=>by omega
   rcases gH with h|h|h<;>(rw[h];simp[nA,u4,aP,cS,e])
  have hq:ob 2012=some (.box [.ptr 2033 0]):=by rcases gH with h|h|h<;>(rw[h];simp[nA,u4,aP,cS])
  have h50:∀i,i<5->D i=false->D 5=false:=λi h1 h2=>by
   cases h:D 5 with
   |false=>rfl
   |true=>
    exfalso;have k4:=aT 5 _ rfl h 4 (by simp);have k:=λm hm=>aT 4 _ rfl k4 m hm;simp at k;have:i=0\/i=1\/i=2\/i=3\/i=4:=by omega
    rcases this with rfl|rfl|rfl|rfl|rfl<;>simp_all
  rcases i with _|_|_|_|_|_|i;all_goals simp only[Rk,ZaF,Zbb,List.getElem?_nil,Zaa,reduceCtorEq]at hr
  all_goals subst hr
  ·refine .of (rQ _ (by simp[nm,bN]) (by simp[nm,bN])) ?_;simp[i5,hq,K6];exact⟨i1,i2,i3,i4,i7,i8,i9,i10⟩
  ·refine .of (rQ _ (by simp[nm,bN]) (by simp[nm,bN])) ?_;simp[i5,K6];exact⟨i1,i2,i3,i4,i6,i8,i9,i10⟩
  ·have h5:=h50 2 (by omega) hi;have h1:=i1 hi;subst h1;have e:=i7 (ha 1 (by simp));refine .inr ⟨_,_,_,_,2289,2309,λval nJ=>val=.ptr (2289+15) 0/\nJ=aM (nA 2012 2289) (cM (u4 z nn)),rfl, ?_, ?_⟩
   ·simp only[ZaA,ZbL,bQ.ev,e];exact t54 (cs:=[.ptr 2033 0]) (fE (by simp[u4])) hq
   rintro val nJ ⟨rfl,rfl⟩;simp[K6,h5,i4,i5];exact⟨i6,i7,i9,i10⟩
  ·refine .of (rQ _ (by simp[nm,bN]) (by simp[nm,bN])) ?_;simp[i6 (ha 0 (by simp)),K6];exact⟨i1,i2,i3,i4,i5,i7,i8,i10⟩
  ·refine .of (rQ _ (by simp[nm,bN]) (by simp[nm,bN])) ?_;simp[i9 (ha 3 (by simp)),K6];exact⟨i1,i2,i3,i4,i5,i6,i7,i8⟩
  ·have h2:=ha 2 (by simp);have h1:=i2 h2 hi;subst h1;refine .of (show _ from rQ 2200 (by omega) (by omega)) ?_;simp[i10 (ha 4 (by simp)),i8 h2,K6,nA,u4,aP,cS,spP,h2,i4,i5];exact⟨rfl,i6,i7,i9⟩
 ·rintro D ⟨tm,ob,td⟩ hD ⟨rfl,i1,i2,i3,i4,i5,i6,i7,i8,i9,i10⟩;have h5:=i3 (hD 5 (by simp[Rk]));simp only at h5 i4 i5;subst h5;refine⟨λq hq=>?_,rfl,KH rfl ?_⟩
  ·have e:∀m,m<2309->q≠m:=λm h=>by omega
   simp[nA,u4,aP,cS,e]
  ·simp[nR,i4,i5]
 obtain⟨RT,hRT⟩:=bb (T.box [ti z.n.aL,ti z.n.an,ti z.n.start,.sl (aU z.n.au)]:T);have ek:=λk=>oC z (pH nn k) [] (λq hq=>by cases hq);have e1:=λk=>(ek k).sp;have e2:=λk=>(ek k).rb;have e3:=λk=>(ek k).rh;have e4:=λk=>(ek k).a;simp only[ZaG,ma,Hx]at e1;simp only[ZaG,qK,Hx]at e2;simp only[ZaG,rV,Hx]at e3;simp only[ZaG,Hx]at e4;have lenB:∀k,k<=nn->(pH nn k).ak.length=nn:=λk hk=>by simp[pH];omega
 have lenH:∀k,k<=nn->(pH nn k).fl.length=nn:=λk hk=>by simp[pH];omega
 apply aa.seq;apply aa.ch cF fw [5,11,42,43];simp[d35r3,e1,e2,e4,lenB 0 (by omega)];apply aa.block;refine aa.loop (λk:Nat=>⟨DM.look [(5,.v (.box [ti z.n.aL,ti z.n.an,ti z.n.start,.sl (aU z.n.au)])),(11,.ptr 2012 0),(42,.v (ti nn)),(43,.v (ti k))],cM (dJ z (pH nn k)),3500,1000,[]⟩)
  (λk=>k<=nn) (λk=>nn-k) 0 (Le.same (fE λq hq=>by have:=jZ z _ q hq;omega) (by simp[gn])) (by omega) (λk hk=>?_)
 apply aa.ch cF fw [5,11,42,43,44];simp[d35r4];apply aa.seq;refine aa.cond rfl (λg=>?_) (λg=>?_)
 ·have g:k<nn:=by simpa using g
  apply aa.skip;simp;apply aa.seq;apply aa.block;apply aa.ch cF fw [5,11,42,43,12];simp[d35r5];apply aa.ch cF fw [5,11,42,43,12];have rb:=dd (l:=(pH nn k).ak) (y:=k) (by rw[lenB k hk];exact g);have rh:=cE (l:=(pH nn k).fl) (y:=k) (by rw[lenH k hk];exact g);simp[d35r6,e1,e2,e4,lenB k hk,g,rb];have e5:∀(q:Ob),cM ((2025,q)::dJ z (pH nn k)) 2012=some (.box [.ptr 2033 0]):=λq=>by rw[cS,Zab (by omega)];exact e4 k
  apply aa.fK cF fw [5,11,42,43];simp[d35r7,e1,e3,e4,lenH k hk,g,rh];apply aa.fK cF fw [5,11,42,43];simp[d35r8];rw[aF (x:=(k:Int)+1) (by omega)];refine⟨k+1,eO ?_ (fE λq hq=>by have:=jZ z _ q hq;omega) (by simp),by omega,by omega⟩;funext q;have v1:(bC (pH nn k).ak).set k [T.int .i64 1099511627776,T.int .i64 0]=bC (pH nn (k+1)).ak:=by
   rw[show [T.int .i64 1099511627776,T.int .i64 0]=[ti (⟨1099511627776,0⟩:c8).aH,ti (⟨1099511627776,0⟩:c8).size]from rfl,<-jh];simp only[pH,CX _ _ g]
  have v2:(aG (pH nn k).fl).set k [T.int .i64 (-1)]=aG (pH nn (k+1)).fl:=by
   rw[<-LR];simp only[pH,CX _ _ g]
  rw[v1,v2];simp only[dJ,cS,gR];by_cases h1:q=2025
  ·subst h1;rfl
  by_cases h2:q=2031
  ·subst h2;rfl
  simp only[Zab h1,Zab h2];rfl
 ·have g:k=nn:=by
   have:¬k<nn:=by simpa using g
   omega
  subst g;rw[sttK_end];apply aa.exit;simp;have ek:=λk'=>oC z (vV z (gG k) k') [] (λq hq=>by cases hq);have e1:=λk'=>(ek k').sp;have e4:=λk'=>(ek k').a;simp only[ZaG,ma,Hx]at e1;simp only[ZaG,Hx]at e4;apply aa.seq;apply aa.ch cF fw [5,11,62,63,64];simp[d35r9];apply aa.block;refine aa.loop (λy:Nat=>⟨DM.look [(5,.v (.box [ti z.n.aL,ti z.n.an,ti z.n.start,.sl (aU z.n.au)])),(11,.ptr 2012 0),(62,.v (.sl (aU z.n.au))),(63,.v (ti z.n.au.length)),(64,.v (ti y))],cM (dJ z (vV z (gG k) y)),4000,1000,[]⟩)
   (λy=>y<=z.n.au.length) (λy=>z.n.au.length-y) 0 (Le.same (fE λq hq=>by have:=jZ z _ q hq;omega) (by simp[gn])) (by omega) (λy hy=>?_)
  apply aa.ch cF fw [5,11,62,63,64,65];simp[aah];apply aa.seq;refine aa.cond rfl (λg=>?_) (λg=>?_)
  ·have g:y<z.n.au.length:=by simpa using g
   apply aa.skip;simp;apply aa.seq;apply aa.block;have rk:=kZ g;have hic:=λD hD=>ini_call H g (D:=D) hD;rw[XF]at hic;obtain⟨⟨Vc,rh,ra,rb,rp,ro⟩,hr⟩:=bb (z.n.au.getD y default);rw[hr]at rk hic;simp only[di.enc]at rk;apply aa.ch cF fw [5,11,62,63,64,14];simp[aai,g,rk];have eU:∀(o o':Ob) (L:cV),cM ((4104,o)::(4104,o')::L)=cM ((4104,o)::L):=λo o' L=>by
    funext q;simp only[cS];split<;>rfl
   rw[eU];have rQ:∀r',cM ([(4104,dS ⟨Vc,rh,ra,rb,rp,ro⟩)]++dJ z (vV z (gG k) y)) r'=none->cM ([(4104,dS ⟨Vc,rh,ra,rb,rp,ro⟩)]++dJ z (vV z (gG k) (y+1))) r'=none:=by
    intro r' gD;simp only[dJ,ZaM,ZaG,cS,gR]at gD⊢;repeat' split at gD
    all_goals first|(cases gD;done)|skip
    simp[*]
   have aC:=Hd ay.nil (λN' _=>hic _ (Qh _)) rQ;have q1:cM ((4104,Ob.box [.v (ti Vc),.v (ti rh),.v (ti ra),.v (ti rb),.v (ti rp),.v (ti ro)])::dJ z (vV z (gG k) y)) 2012=some (.box [.ptr 2033 0]):=by rw[cS,Zab (by omega)];exact e4 y
   apply aa.Iq aC fw (rs:=IG) rfl (by kernel_rfl) [5,11,62,63,64];simp[IG,q1,dS];refine aa.le (le_sp (L:=[_]) (L':=[]) (l:=[(5,.v (.box [ti z.n.aL,ti z.n.an,ti z.n.start,.sl (aU z.n.au)])),(11,.ptr 2012 0),(62,.v (.sl (aU z.n.au))),(63,.v (ti z.n.au.length)),(64,.v (ti y))]) (ba:=4500) (by simp) (by simp) (by omega) trivial ?_) ?_
   ·simp[e4]
   simp;apply aa.fK cF fw [5,11,62,63,64];simp[aaj];rw[aF (x:=(y:Int)+1) (by omega)];exact⟨y+1,eO rfl (fE λq hq=>by have:=jZ z _ q hq;omega) (by simp),by omega,by omega⟩
  ·have g:y=z.n.au.length:=by
    have:¬y<z.n.au.length:=by simpa using g
    omega
   subst g;have e0:vV z (gG k) z.n.au.length=s0:=by rw[<-hs0];unfold vV BZ;rw[ZbM]
   rw[e0];apply aa.exit;simp;have e4:=(oC z s0 [] (λq hq=>by cases hq)).a;simp only[ZaG,Hx]at e4;have rQ:∀r',cM (dJ z s0) r'=none->cM (dJ z s9) r'=none:=by
    intro r' gD;simp only[dJ,cS,gR]at gD⊢;repeat' split at gD
    all_goals first|(cases gD;done)|skip
    simp[*]
   have aC:=Hd ay.nil (λN' _=>h62) rQ;apply aa.cX aC fw (rs:=IH) rfl (by kernel_rfl) [5,11];simp[IH,e4];apply aa.ch cF fw [5,11,15];simp[aak];refine aa.le (eO rfl (l:=[(5,.v (.box [ti z.n.aL,ti z.n.an,ti z.n.start,.sl (aU z.n.au)])),(11,.ptr 2012 0),(15,.aW)]) (ba:=5000) (fE λq hq=>by have:=jZ z _ q hq;omega) (by simp)) ?_;refine aa.le (Le.vr (k:=15) 65 (sz:=4) (by omega) (by simp)) ?_;rw[ky];apply aa.seq;apply aa.ch cF fw [11,15,76,77];simp[aal];apply aa.block;obtain⟨own,iu⟩:=bb (pG z s9.ak);have hol:own.length=k:=by rw[<-iu,C1,XF]
   have hog:∀y,y<k->own.getD y default=iQ z s9.ak y:=λy hy=>by rw[<-iu];simp[pG,List.getD,XF,hy]
   have dP:=λ(o:Ob)=>(oC z s9 [(5000,o)] (by simp)).a;simp only[ZaM,ZaG,Hx]at dP;rw[iu];refine aa.loop (λy:Nat=>⟨DM.look [(11,.ptr 2012 0),(15,.bA 5000 0),(76,.v (ti k)),(77,.v (ti y))],cM ([(5000,.dT 0 65 4 (cu (own.take y)))]++dJ z s9),6000,1000,[]⟩)
    (λy=>y<=k) (λy=>k-y) 0 (le_sp (L:=[_]) (by simp) (by simp) (by omega) ?_ ?_) (by omega) (λy hy=>?_)
   ·simp[cu]
   ·simp[dP,hnn2]
   apply aa.ch cF fw [11,15,76,77,78];simp[aam];apply aa.seq;refine aa.cond rfl (λg=>?_) (λg=>?_)
   ·have g:y<k:=by simpa using g
    have hg:=hog y g;have h63':=λN hN=>h63 y g [(5000,.dT 0 65 4 (cu (own.take y)))] (by simp) N hN;rw[<-hg]at h63';have tk:own.take (y+1)=own.take y++[own.getD y default]:=cW (by omega);obtain⟨cx,X5⟩:=bb (own.getD y default);rw[X5]at h63' tk;apply aa.skip;simp;apply aa.seq;apply aa.block;apply aa.ch cF fw [11,15,16,76,77];simp[aan];have aC:=Hd ay.nil h63' (λr h=>h);apply aa.Iq aC fw (rs:=II) rfl (by kernel_rfl) [11,15,76,77];simp[II,dP,dK,fU,Cell.enc];refine⟨by omega, ?_⟩;apply aa.fK cF fw [11,15,76,77];simp[aao];rw[aF (x:=(y:Int)+1) (by omega)];refine⟨y+1,le_sp (L:=[_,_]) (L':=[_]) (by simp) (by simp) (by omega) ?_ ?_,by omega,by omega⟩
    ·simp[tk,cu,Cell.enc]
    ·simp[dP]
   ·have g:y=k:=by
     have:¬y<k:=by simpa using g
     omega
    subst g;apply aa.exit;simp;apply aa.ch cF fw [10];simp[aap];apply aa.ret;exact .inr ⟨5000,0,by simp,by simp[<-hol]⟩
end
section
variable{nn h h':Int}
def Mh{p p':Int}(a1:0<=h)(a2:h<nn)(b1:0<=h')(b2:h'<nn)(e:p*nn+h=p'*nn+h'):p=p'/\h=h':=by
 have key:∀{p p' h h':Int},0<=h->h<nn->0<=h'->h'<nn->p*nn+h=p'*nn+h'->¬p<p':=by
  intro p p' h h' a1 a2 b1 b2 e ln;have h1:(p+1)*nn<=p'*nn:=Zck (by omega) (by omega);have h2:(p+1)*nn=p*nn+nn:=by grind
  omega
 have h1:=key a1 a2 b1 b2 e;have h2:=key b1 b2 a1 a2 e.symm;have:p=p':=by omega
 subst this;exact⟨rfl,by omega⟩
def V3{st:Int}{s t s' t':Nat}(a1:0<=h)(a2:h<nn)(b1:0<=h')(b2:h'<nn)(c1:s<=t)(c2:(t:Int)<st)(d1:s'<=t')(d2:(t':Int)<st)
  (e:ef nn st s t+h=ef nn st s' t'+h'):s=s'/\t=t'/\h=h':=by
 unfold ef at e;obtain⟨e1,e2⟩:=Mh a1 a2 b1 b2 e;have key:∀{s t s' t':Nat},s<=t->(t:Int)<st->s'<=t'->(t':Int)<st->pre st s+t-s=pre st s'+t'-s'->¬s<s':=by
  intro s t s' t' c1 c2 d1 d2 e ln;have:=Fe (st:=st) (f:=s+1) (k:=s') (by omega) (by omega);simp only[pre]at this;omega
 have h1:=key c1 c2 d1 d2 e1;have h2:=key d1 d2 c1 c2 e1.symm;have:s=s':=by omega
 subst this;exact⟨rfl,by omega,e2⟩
def aaz(cells own:eV)(AF y:Nat)(hl:AF+y<=cells.length)(i:Nat)(d:Cell):(tE cells own AF y).getD i d=if AF<=i/\i<AF+y then own.getD (i-AF) default else cells.getD i d:=by
 induction y with
 |zero=>simp only[tE,Zda,Zca];rw[Zab (by omega)]
 |succ y ih=>
  rw[vD];have ih:=ih (by omega);by_cases e:i=AF+y
  ·subst e;rw[Zai (by omega),show AF+y-AF=y by omega];simp only[List.getD,ZbC,Mi];rw[Zai trivial,Zai (by omega)];rfl
  ·have:((tE cells own AF y).set (AF+y) (own.getD y default)).getD i d=(tE cells own AF y).getD i d:=by
    simp only[List.getD,ZbC];rw[Zab (λx=>e x.symm)]
   rw[this,ih];by_cases h:AF<=i/\i<AF+y
   ·rw[Zai h,Zai (by omega)]
   ·rw[Zab h,Zab (by omega)]
section
variable{n:aD}{l:aV}
def aaA{c:d6}{s t:Nat}(h0:0<=h)(h1:h<c.an)(c1:s<=t)(c2:(t:Int)<c.bn):NJ c h s t=c.cells.getD (ef c.an c.bn s t+h).toNat lP:=by
 unfold NJ;rw[Zab (by omega)];simp
def Mj(n:aD)(l:aV)(cells:eV)(len f:Nat):Prop:=
 ∀(h:Int) (s t:Nat),0<=h->h<n.an->s<=t->(t:Int)<l.bn->(t-s<len\/(t-s=len/\s<f))->Good n l h s t (NJ ⟨n.an,l.bn,cells⟩ h s t)
def V4(hn:AD n)(hl:F7 l)(ha:∀a∈l.bE,a.f<=a.t){cells:eV}{len f:Nat}(hc:kG n l cells)(hf:((f+len:Nat):Int)<l.bn)(hd:Mj n l cells len f):Mj n l (Ff n l len cells f) len (f+1):=by
 have h1:=hn.1;have h2:=hn.2.1;have h3:=hl.1;have h4:=hl.2.1;have C:nl n l ⟨n.an,l.bn,cells⟩ f (f+len):=⟨hn,hl,hc.ok hn hl,ha,by omega,by omega,λh s' t' a1 a2 a3 a4 a5 a6=>hd h s' t' a1 a2 a4 (by omega) (by omega)⟩;have hg:=G4 C;have iu:=Mk hn hl C.hc C.st C.tm;rw[show((f+len:Nat):Int)=(f:Int)+len by omega]at hg iu;obtain⟨own,ho⟩:=bb (mm n l ⟨n.an,l.bn,cells⟩ f ((f:Int)+len));rw[ho]at hg iu;have hib:=sM (n:=n.an) (st:=l.bn) (f:=f) (t:=f+len) (by omega) h2 h4 (by omega) (by omega) (by omega);have ln:=Fg (nn:=n.an) (st:=l.bn) (f:=f) (t:=f+len) (by omega) (by omega) (by omega) (i:=n.an-1) (by omega);have aT:=hc.1;intro h s t a1 a2 a3 a4 a5;unfold Ff;rw[ho,aaA a1 a2 a3 a4];simp only;have hsb:=sM (n:=n.an) (st:=l.bn) (f:=s) (t:=t) (by omega) h2 h4 (by omega) (by omega) (by omega);rw[aaz _ _ _ _ (by omega)];split
 ·rename_i e;have hx:ef n.an l.bn s t+h=ef n.an l.bn f (f+len)+(((ef n.an l.bn s t+h).toNat-(ef n.an l.bn f (f+len)).toNat:Nat):Int):=by omega
  obtain⟨e1,e2,e3⟩:=V3 a1 a2 (by omega) (by omega) a3 a4 (by omega) (by omega) hx;subst e1 e2;obtain⟨h,rfl⟩:=Zae a1;have e4:(ef n.an l.bn s (s+len)+(h:Int)).toNat-(ef n.an l.bn s (s+len)).toNat=h:=by omega
  rw[e4];exact hg h a2
 ·rename_i e;have bT:¬(s=f/\t=f+len):=by
   rintro⟨rfl,rfl⟩;omega
  have:=hd h s t a1 a2 a3 a4 (by omega);rw[aaA a1 a2 a3 a4]at this;exact this
def Fh(hn:AD n)(hl:F7 l)(ha:∀a∈l.bE,a.f<=a.t){cells:eV}{len:Nat}(hc:kG n l cells)(hd:Mj n l cells len 0):∀k,((k+len:Nat):Int)<=l.bn->Mj n l ((List.range k).foldl (Ff n l len) cells) len k
 |0,_=>hd
 |k+1,hk=>by
  rw[ZaR,ZaI];have h4:=hl.2.1;exact V4 hn hl ha (CN hn hl hc k (by omega)) (by omega) (Fh hn hl ha hc hd k (by omega))
def V5(hn:AD n)(hl:F7 l)(ha:∀a∈l.bE,a.f<=a.t):∀k:Nat,(k:Int)<=l.bn->Mj n l ((List.range k).foldl (aaB n l) (List.replicate (lR n.an l.bn).toNat ⟨0,0,0,0⟩)) k 0:=by
 intro k;induction k with
 |zero=>
  intro _ h s t a1 a2 a3 a4 a5;omega
 |succ k ih=>
  intro hk;rw[ZaR,ZaI];have h4:=hl.2.1;have:=Fh hn hl ha (Ml hn hl k (by omega)) (ih (by omega)) (l.bn.toNat-k) (by omega);intro h s t a1 a2 a3 a4 a5;exact this h s t a1 a2 a3 a4 (by omega)
end
end
namespace Kn
section
variable{f:bq}
structure kh where
 (x:Int) (v:c8) (h t:Int)
 deriving DecidableEq,Inhabited
def kh.enc(e:kh):aK:=[ti e.x,ti e.v.aH,ti e.v.size,ti e.h,ti e.t]
def dF(l:List kh):List (aK):=l.map kh.enc
def xj:aK->kh
 |[a,c,s,b,d]=>⟨dH a,⟨dH c,dH s⟩,dH b,dH d⟩
 |_=>default
@[simp] def xk(e:kh):xj e.enc=e:=by simp[xj,kh.enc,dH]
@[simp] def vI{a b:List kh}:dF a=dF b↔a=b:=⟨λh=>by
 have:=congrArg (List.map xj) h;simpa [dF,gq xk]using this,λh=>by rw[h]⟩
@[simp] def Wn(l:List kh):(dF l).length=l.length:=by simp[dF]
def dG{l:List kh}{y:Nat}(h:y<l.length):DM.rowAt (dF l) y=(l.getD y default).enc:=by simp[DM.rowAt,dF,h]
def lg(l:List kh)(i:Nat)(e:kh):dF (l.set i e)=(dF l).set i e.enc:=by simp[dF,Zcd]
def sS(a b:List kh):dF (a++b)=dF a++dF b:=by simp[dF]
def xl(a:List kh)(n:Nat):(dF a).take n=dF (a.take n):=by simp[dF,List.map_take]
structure Qs where
 heap:List kh
 bD:Nat
 es:Pl
 mc:Nat
 (next dv:Int)
def qB(hp m:Nat)(s:Qs):Ob:=.box [.v (.fn (.func 101) []),.bA hp s.bD,.iE m,.v (ti s.next),.v (ti s.dv)]
def hB(s:Qs):Ob:=.dT s.bD 211 5 (dF s.heap)
def mB(s:Qs):Ob:=.map [.int .i64] false s.mc (uO s.es)
structure QV where
 (hp m:Nat)
 s:Qs
structure QV.at(v:QV)(f:bq)(q:Nat):Prop where
 q:f q=some (qB v.hp v.m v.s)
 hp:f v.hp=some (hB v.s)
 m:f v.m=some (mB v.s)
def QV.Cg{v w:QV}{q:Nat}(h:v.at f q)(k:w.at f q):v=w:=by
 obtain⟨hp,m,⟨heap,bD,es,mc,next,dv⟩⟩:=v;obtain⟨hp',m',⟨Yu,cg,m0,mc',next',clock'⟩⟩:=w;obtain⟨h1,h2,h3⟩:=h;obtain⟨k1,k2,k3⟩:=k;simp only at h1 h2 h3 k1 k2 k3;rw[h1]at k1;simp only[qB,Zaa,Ob.box.injEq,Za1,DV.bA.injEq,DV.iE.injEq,DV.v.injEq,T.int.injEq,true_and,and_true]at k1;obtain⟨⟨e2,e3⟩,e4,e5,e6⟩:=k1;subst e2 e3 e4 e5 e6;rw[h2]at k2;simp only[hB,Zaa,Ob.dT.injEq,vI,true_and]at k2;rw[h3]at k3;simp only[mB,Zaa,Ob.map.injEq,JA,true_and]at k3;obtain⟨e7,e8⟩:=k3;subst k2 e7 e8;rfl
open Classical in
noncomputable def eK(f:bq)(q:Nat):QV:=if h:∃v:QV,v.at f q then Classical.choose h else⟨0,0,⟨[],0,[],0,0,0⟩⟩
def eW{v:QV}{q:Nat}(h:v.at f q):eK f q=v:=by
 have hx:∃v:QV,v.at f q:=⟨v,h⟩;unfold eK;rw[ZcV hx];exact QV.Cg (Classical.choose_spec hx) h
def iC(a b:kh):Prop:=a.v.lt b.v\/(¬b.v.lt a.v/\a.t<b.t)
instance(a b:kh):Decidable (iC a b):=by unfold iC;infer_instance
abbrev Qs.e(s:Qs)(i:Int):kh:=s.heap.getD i.toNat default
noncomputable def Fx:bB->bq->fI
 |[.ptr q 0,.v (.int .i64 i),.v (.int .i64 j)],f=>⟨(∃v:QV,v.at f q)/\(0<=i/\i<(eK f q).s.heap.length)/\(0<=j/\j<(eK f q).s.heap.length),.v (.bool (decide (iC ((eK f q).s.e i) ((eK f q).s.e j)))),f⟩
 |_,f=>⟨False,.undef,f⟩
def MB{v:QV}{q:Nat}{i j:Int}(h:v.at f q):Fx [.ptr q 0,.v (ti i),.v (ti j)] f=⟨(0<=i/\i<v.s.heap.length)/\(0<=j/\j<v.s.heap.length),.v (.bool (decide (iC (v.s.e i) (v.s.e j)))),f⟩:=by
 have hx:∃v:QV,v.at f q:=⟨v,h⟩;simp only[Fx,eW h,hx,true_and]
def t1101(a b:Int)(v w:c8):bl aj 101 [.agg [ti a,ti v.aH,ti v.size],.agg [ti b,ti w.aH,ti w.size]] (.bool (decide (v.lt w))):=by
 obtain⟨R,hR⟩:=bb (decide (v.lt w));rw[hR];obtain⟨vc,vs⟩:=v;obtain⟨wc,ws⟩:=w;have aC:=ok56 ay.nil;refine c1101.ok (by simp) (aO ?_);simp;apply aa.ch aC fw [2,3];simp[Rw];apply aa.ch aC fw [4];simp[Rx,hR];apply aa.ret;simp[Lt]
abbrev s1101:DM.Spec:=cT (λts=>∃x a b y c d,ts=[.agg [ti x,ti a,ti b],.agg [ti y,ti c,ti d]]) (fun|[.agg [_,.int _ a,.int _ b],.agg [_,.int _ c,.int _ d]]=>.bool (decide ((⟨a,b⟩:c8).lt ⟨c,d⟩))|_=>.bool false) true
def ok1101{l:List (Nat×DM.Spec)}(h:ay aj (bu l)):ay aj (bu ((101,s1101)::l)):=by
 refine ay.cons h ?_;rintro ts ⟨x,a,b,y,c,d,rfl⟩;exact⟨t1101 x y ⟨a,b⟩ ⟨c,d⟩,λ_=>rfl⟩
def t1148{f0:bq}{q N i j:Nat}{v:QV}(hN:∀r,N<=r->f0 r=none)(h:v.at f0 q)(hi:i<v.s.heap.length)(hj:j<v.s.heap.length):
  aR aj 148 [.ptr q 0,.v (ti i),.v (ti j)] f0 ⟨True,.v (.bool (decide (iC (v.s.e i) (v.s.e j)))),f0⟩:=by
 obtain⟨R,hR⟩:=bb (decide (iC (v.s.e i) (v.s.e j)));rw[hR];have aC:=ok1101 ay.nil;refine c1148.pQ hN (by simp) λaT=>?_;obtain⟨hp,m,⟨heap,bD,es,mc,next,dv⟩⟩:=v;obtain⟨h1,h2,h3⟩:=h;simp only[qB,hB,mB]at h1 h2 h3 hi hj;have NK:q<N:=(aT q _ h1).1;have nu:hp<N:=(aT hp _ h2).1;have hqp:q≠hp:=λe=>by rw[e,h2]at h1;cases h1
 have r1:=dG hi;have r2:=dG hj;simp only[Qs.e,Zag]at hR;obtain⟨⟨ax,⟨ac,az⟩,ah,wW⟩,ex⟩:=bb (heap.getD i default);obtain⟨⟨bx,⟨bc,bz⟩,bh,bt⟩,ey⟩:=bb (heap.getD j default);simp only[ex,ey,kh.enc]at r1 r2 hR;have nq:∀k,q≠N+k:=λk=>by omega
 have np:∀k,hp≠N+k:=λk=>by omega
 simp;apply aa.ch aC fw [0,1,2];simp[Sb];apply aa.jR aC fw (rs:=c5 (iO q hp N) (eR IW [none,none,none,none,none,none,none,none,none,none,some [0],none,some [1],some [1],none,none,some [58],none])) (.inl rfl) ((dX (jK NK nu hqp) _ _ _).trans (by kernel_rfl)) [0,7,8];simp[IW,c5,fk,eR,iO,cP,bG,aN,h1,h2,hi,hj,r1,r2];refine aa.le (Le.dV (l1:=[]) (l:=[(0,.ptr q 0),(7,.v (.box [ti ax,ti ac,ti az,ti ah,ti wW])),(8,.v (.box [ti bx,ti bc,ti bz,ti bh,ti bt]))]) (ba:=N+1000) aT ?_ ?_ ?_ ?_ ?_) ?_
 ·omega
 ·simp
 ·simp[bK];omega
 ·simp[dN]
 ·simp[h1,Nat.add_assoc];exact⟨bL (l:=[]) aT (by omega) (by simp),bL (l:=[]) aT (by omega) (by simp)⟩
 obtain⟨c1,bU⟩:=bb (decide ((⟨ac,az⟩:c8).lt ⟨bc,bz⟩):Bool);obtain⟨c2,gI⟩:=bb (decide ((⟨bc,bz⟩:c8).lt ⟨ac,az⟩):Bool);have e0:aM [] f0=f0:=rfl;rw[e0];apply aa.seq;apply aa.ch aC fw [0,7,8,31];simp[Sc,h1,bU];refine aa.cond rfl (λg=>?_) (λg=>?_)
 ·have g:c1=true:=by simpa using g
  subst g;have:R=true:=by rw[<-hR];unfold iC;simp[Zat bU]
  subst this;apply aa.ch aC fw [6];simp[Sd];apply aa.ret;simp[ER]
 ·have g:c1=false:=by simpa using g
  subst g;apply aa.skip;simp;refine aa.cz aC fw [(6,.v (.bool R))] ?_ ?_
  ·have zQ:(!c2&&decide (wW<bt))=R:=by
    rw[<-hR,<-gI];unfold iC;have:=Zay bU;by_cases z1:(⟨bc,bz⟩:c8).lt ⟨ac,az⟩<;>by_cases z2:wW<bt<;>simp[this,z1,z2]
   cases c2
   ·simp[IX,h1,gI]at zQ⊢;exact zQ
   ·simp[IX,h1,gI]at zQ⊢;exact zQ
  apply aa.ret;simp[ER]
def k1148_ok:∀args ab,(Fx args ab).ok->(∀N,(∀r,N<=r->ab r=none)->aR aj 148 args ab (Fx args ab))/\∀r,ab r=none->(Fx args ab).ab r=none:=by
 intro args ab h;unfold Fx at h⊢;split at h
 ·rename_i q i j;obtain⟨⟨v,hv⟩,⟨i0,i1⟩,j0,j1⟩:=h;rw[eW hv]at i1 j1⊢;obtain⟨i,rfl⟩:=Zae i0;obtain⟨j,rfl⟩:=Zae j0;exact⟨λN hN=>aR.of (t1148 hN hv (by omega) (by omega)) rfl rfl,λr hr=>hr⟩
 ·exact h.elim
def ok1148{l:List (Nat×DM.Spec)}(h:ay aj (bu l)):ay aj (bu ((148,eS Fx)::l)):=ay.gS h k1148_ok
end
section
variable{f f0:bq}{r aJ ba:Nat}{tm:dw}{X:cV}
def bH(f:bq)(q:Nat)(v:QV)(s:Qs):bq:=aM [(q,qB v.hp v.m s),(v.hp,hB s),(v.m,mB s)] f
abbrev QV.to(v:QV)(s:Qs):QV:=⟨v.hp,v.m,s⟩
structure QV.Ne(v:QV)(q:Nat):Prop where
 qp:q≠v.hp
 qm:q≠v.m
 pm:v.hp≠v.m
def QV.at.ne{v:QV}{q:Nat}(h:v.at f q):v.Ne q:=by
 obtain⟨h1,h2,h3⟩:=h;simp only[qB,hB,mB]at h1 h2 h3;refine⟨λe=>?_,λe=>?_,λe=>?_⟩
 ·rw[e,h2]at h1;cases h1
 ·rw[e,h3]at h1;cases h1
 ·rw[e,h3]at h2;cases h2
def ig{v:QV}{q:Nat}(h:v.at f q)(s:Qs):(v.to s).at (bH f q v s) q:=by
 have n:=h.ne;exact⟨by simp[bH],by simp[bH,Ne.symm n.qp],by simp[bH,Ne.symm n.qm,Ne.symm n.pm]⟩
def iY(f:bq)(q:Nat)(v:QV)(s s':Qs):bH (bH f q v s) q (v.to s) s'=bH f q v s':=by
 funext k;simp only[bH,aP,cm];by_cases h1:k=q<;>by_cases h2:k=v.hp<;>by_cases h3:k=v.m<;>simp[h1,h2,h3]
def WA{v:QV}{q:Nat}(h:v.at f q):bH f q v v.s=f:=by
 funext k;simp only[bH,aP,cm];split
 ·rename_i e;rw[e];exact h.q.symm
 ·split
  ·rename_i e;rw[e];exact h.hp.symm
  ·split
   ·rename_i e;rw[e];exact h.m.symm
   ·rfl
def gJ{v:QV}{q:Nat}(h:v.at f q)(s:Qs)(hr:f r=none):bH f q v s r=none:=by
 have e1:r≠q:=λe=>by rw[e,h.q]at hr;cases hr
 have e2:r≠v.hp:=λe=>by rw[e,h.hp]at hr;cases hr
 have e3:r≠v.m:=λe=>by rw[e,h.m]at hr;cases hr
 simp[bH,e1,e2,e3,hr]
def rH{N q:Nat}{l:fA}{L:cV}{v:QV}(s:Qs)(aT:dh f0 N)(hv:v.at f0 q)(hn:N<=ba)(OB:v.s.bD<=s.bD)
  (hL:∀p∈L,p.1=q\/p.1=v.hp\/p.1=v.m\/N<=p.1) (h1:aM L f0 q=some (qB v.hp v.m s)) (h2:aM L f0 v.hp=some (hB s)) (h3:aM L f0 v.m=some (mB s))
  (ik:fR (aM L f0) (bH f0 q v s) id tm l):
  Le ⟨tm,aM L f0,aJ,N,[]⟩ ⟨DM.look l,bH f0 q v s,ba,N,[]⟩:=by
 have NK:q<N:=(aT q _ hv.q).1;have nu:v.hp<N:=(aT v.hp _ hv.hp).1;have BS:v.m<N:=(aT v.m _ hv.m).1;have n:=hv.ne;refine Le.dV aT hn ?_ ?_ ?_ ik
 ·simp;omega
 ·have:∀(L:cV),(∀p∈L,p.1=q\/p.1=v.hp\/p.1=v.m\/N<=p.1)->bK N [(q,qB v.hp v.m s),(v.hp,hB s),(v.m,mB s)] L:=by
   intro L;induction L with
   |nil=>intro _;trivial
   |cons p L ih=>
    intro h;refine⟨λhq=>?_,ih λp hp=>h p (by simp[hp])⟩;rcases h p (by simp)with h|h|h|h
    ·exact⟨_,by rw[h];exact .head _⟩
    ·exact⟨_,by rw[h];exact .tail _ (.head _)⟩
    ·exact⟨_,by rw[h];exact .tail _ (.tail _ (.head _))⟩
    ·omega
  exact this _ hL
 ·refine⟨⟨_,h1,.inr ⟨rfl,λk hk=>?_⟩,λ_=>be _⟩,⟨_,h2,.inr ⟨rfl,λk hk=>by simp[aZ,hB]at hk⟩,λ_=>be _⟩,⟨_,h3,.inr ⟨rfl,λk hk=>?_⟩,λ_=>be _⟩,trivial⟩
  ·simp only[qB,aZ,bM,aN,ZaC,Zaq,Zah,Zal,or_false,false_or]at hk;rcases hk with rfl|rfl
   ·exact⟨_,_,h2,by simp[Ne.symm n.qp],be _⟩
   ·exact⟨_,_,h3,by simp[Ne.symm n.qm,Ne.symm n.pm],be _⟩
  ·exfalso;simp only[mB,aZ,ZaV,uO,Zak]at hk;obtain⟨e,⟨e',_,rfl⟩,hk⟩:=hk;simp[aN]at hk
def Qs.pO(s:Qs)(k:Int):Prop:=∃i,sV s.es k=some i
def Qs.swap(s:Qs)(i j:Int):Qs:=⟨(s.heap.set i.toNat (s.e j)).set j.toNat (s.e i),s.bD,d8 (d8 s.es s.mc (s.e j).h i) s.mc (s.e i).h j,s.mc,s.next,s.dv⟩
def Qs.dc(s:Qs)(i j:Int):Prop:=pA s.es/\(0<=i/\i<s.heap.length)/\(0<=j/\j<s.heap.length)/\s.pO (s.e i).h/\s.pO (s.e j).h
def t1133{q N i j:Nat}{v:QV}(hN:∀r,N<=r->f0 r=none)(h:v.at f0 q)(hs:v.s.dc i j):
  aR aj 133 [.ptr q 0,.v (ti i),.v (ti j)] f0 ⟨True,.v (.eo []),bH f0 q v (v.s.swap i j)⟩:=by
 obtain⟨S,hS⟩:=bb (v.s.swap i j);rw[hS];have aC:=cF;have h0:=h;have n:=h.ne;refine c1133.pQ hN (by simp) λaT=>?_;obtain⟨hp,m,⟨heap,bD,es,mc,next,dv⟩⟩:=v;obtain⟨h1,h2,h3⟩:=h;obtain⟨s1,⟨_,s2⟩,⟨_,s3⟩,⟨i1,s4⟩,⟨i2,s5⟩⟩:=hs;simp only[qB,hB,mB,Qs.e,Zag]at h1 h2 h3 s1 s2 s3 s4 s5;have hi:i<heap.length:=by omega
 have hj:j<heap.length:=by omega
 have NK:q<N:=(aT q _ h1).1;have nu:hp<N:=(aT hp _ h2).1;have BS:m<N:=(aT m _ h3).1;have r1:=dG hi;have r2:=dG hj;simp only[Qs.swap,Qs.e,Zag]at hS;obtain⟨ea,ex⟩:=bb (heap.getD i default);obtain⟨eb,ey⟩:=bb (heap.getD j default);simp only[ex,ey]at r1 r2 hS s4 s5;obtain⟨H,hH⟩:=bb ((heap.set i eb).set j ea);have hHl:H.length=heap.length:=by rw[<-hH];simp
 have pW:i<H.length:=by omega
 have hj':j<H.length:=by omega
 have r3:=dG pW;have r4:=dG hj';have e3:H.getD i default=eb:=by
  rw[<-hH];by_cases e:i=j
  ·subst e;rw[<-ex,<-ey];simp[List.getD,hi]
  ·have:j≠i:=λq=>e q.symm;simp[List.getD,this,hi]
 have e4:H.getD j default=ea:=by rw[<-hH];simp[List.getD,hj]
 rw[e3]at r3;rw[e4]at r4;have Dm:((dF heap).set i eb.enc).set j ea.enc=dF H:=by rw[<-hH,lg,lg]
 obtain⟨x1,y1,z1,z2,z3⟩:=CW s5 (.v (ti 0)) mc;obtain⟨E1,hE1⟩:=bb (d8 es mc eb.h i);have b1:=zz (v:=(i:Int)) s1 s5 y1 mc;rw[hE1]at b1 hS;have s6:sV E1 ea.h=some i1:=by rw[<-hE1,mW s5];exact s4
 have s7:pA E1:=by rw[<-hE1];exact lj s5 s1
 obtain⟨x2,y2,z4,z5,z6⟩:=CW s6 (.v (ti 0)) mc;have b2:=zz (v:=(j:Int)) s7 s6 y2 mc;obtain⟨E2,Jk⟩:=bb (d8 E1 mc ea.h j);rw[Jk]at b2 hS;rw[hH]at hS;obtain⟨ax,⟨ac,az⟩,ah,wW⟩:=ea;obtain⟨bx,⟨bc,bz⟩,bh,bt⟩:=eb;simp only[kh.enc]at r1 r2 r3 r4 Dm z1 z2 z3 z4 z5 z6;simp;apply aa.ch aC fw [0,1,2];have hd:List.drop 5 (DM.rowAt ((dF heap).set i [ti bx,ti bc,ti bz,ti bh,ti bt]) (j:Int))=[]:=by
  rw[show(dF heap).set i [ti bx,ti bc,ti bz,ti bh,ti bt]=dF (heap.set i ⟨bx,⟨bc,bz⟩,bh,bt⟩)from(lg heap i ⟨bx,⟨bc,bz⟩,bh,bt⟩).symm,dG (by simpa using hj)];rfl
 simp[RX,h1,h2,hi,hj,r1,r2,hd,Dm];obtain⟨V,hV⟩:=bb ((⟨hp,m,⟨heap,bD,es,mc,next,dv⟩⟩:QV):QV);have wq:V.hp=hp/\V.m=m:=by rw[<-hV];exact⟨rfl,rfl⟩
 obtain⟨S1,tF⟩:=bb ((⟨H,bD,es,mc,next,dv⟩:Qs):Qs);rw[hV]at h0 n⊢;have n2:=n;obtain⟨n1,F8,n3⟩:=n;rw[wq.1]at n1 n3;rw[wq.2]at F8 n3;refine aa.le (rH (v:=V) S1 (l:=[(0,.ptr q 0),(1,.v (ti i)),(2,.v (ti j))]) (ba:=N+100) aT h0 (by omega) (by rw[<-hV,<-tF];exact Zaf _) ?_ ?_ ?_ ?_ ?_) ?_
 ·simp[wq]
 ·rw[wq.1,wq.2,<-tF];simp[n1,h1,qB]
 ·rw[wq.1,<-tF];simp[hB]
 ·rw[wq.2,<-tF];simp[mB,Ne.symm n3,h3]
 ·simp[bH,qB]
 obtain⟨G,hG⟩:=bb (bH f0 q V S);rw[hG];simp only[bH,wq,<-tF,qB,hB,mB];have Hi:=Ne.symm n1;have Ka:=Ne.symm n3;have n22':=Ne.symm F8;refine aa.to ⟨DM.look [],bH f0 q V S,N+1000,N,[]⟩ ?_ (by simp[Lw,hG]);apply aa.fK aC fw [];simp[RY,pW,hj',r3,r4,Hi,Ka,n22',z1,z2,z3,z4,z5,z6,b1,b2];refine rH S (l:=[]) (ba:=N+1000) aT h0 (by omega) (by rw[<-hV,<-hS];exact Zaf _) ?_ ?_ ?_ ?_ ?_
 ·simp[wq]
 ·rw[wq.1,wq.2,<-hS];simp[F8,qB]
 ·rw[wq.1,<-hS];simp[n3,Hi,hB]
 ·rw[wq.2,<-hS];simp[mB]
 ·simp
def uU(X Y:cV)(f:bq):aM X (aM Y f)=aM (X++Y) f:=by
 induction X with
 |nil=>rfl
 |cons a X ih=>funext k;obtain⟨r,o⟩:=a;simp only[ZaM,aP,ih]
def le_qx{N q:Nat}{l:fA}{L:cV}{v:QV}(s:Qs)(aT:dh f0 N)(hv:v.at f0 q)(hn:N<=ba)(OB:v.s.bD<=s.bD)
  (hL:∀p∈L,p.1=q\/p.1=v.hp\/p.1=v.m\/N<=p.1) (hX:∀p∈X,N<=p.1/\p.1<ba/\aM L f0 p.1=some p.2/\aZ p.2=[])
  (h1:aM L f0 q=some (qB v.hp v.m s)) (h2:aM L f0 v.hp=some (hB s)) (h3:aM L f0 v.m=some (mB s))
  (ik:fR (aM L f0) (aM X (bH f0 q v s)) id tm l):
  Le ⟨tm,aM L f0,aJ,N,[]⟩ ⟨DM.look l,aM X (bH f0 q v s),ba,N,[]⟩:=by
 have NK:q<N:=(aT q _ hv.q).1;have nu:v.hp<N:=(aT v.hp _ hv.hp).1;have BS:v.m<N:=(aT v.m _ hv.m).1;have n:=hv.ne;have hxn:∀r,r<N->aM X (bH f0 q v s) r=bH f0 q v s r:=λr hr=>fj λo ho=>by have:=(hX _ ho).1;simp only at this;omega
 unfold bH at ik hxn⊢;rw[uU]at ik⊢;refine Le.dV aT hn ?_ ?_ ?_ ik
 ·clear ik hxn;induction X with
  |nil=>simp;omega
  |cons a X ih=>obtain⟨r,o⟩:=a;exact⟨(hX (r,o) (by simp)).2.1,ih λp hp=>hX p (by simp[hp])⟩
 ·have:∀(L:cV),(∀p∈L,p.1=q\/p.1=v.hp\/p.1=v.m\/N<=p.1)->bK N (X++[(q,qB v.hp v.m s),(v.hp,hB s),(v.m,mB s)]) L:=by
   intro L;induction L with
   |nil=>intro _;trivial
   |cons p L ih=>
    intro h;refine⟨λhq=>?_,ih λp hp=>h p (by simp[hp])⟩;rcases h p (by simp)with h|h|h|h
    ·exact⟨_,Zb3 X (by rw[h];exact .head _)⟩
    ·exact⟨_,Zb3 X (by rw[h];exact .tail _ (.head _))⟩
    ·exact⟨_,Zb3 X (by rw[h];exact .tail _ (.tail _ (.head _)))⟩
    ·omega
  exact this _ hL
 ·have tail:dN N (aM L f0) (aM (X++[(q,qB v.hp v.m s),(v.hp,hB s),(v.m,mB s)]) f0) [(q,qB v.hp v.m s),(v.hp,hB s),(v.m,mB s)]:=by
   rw[<-uU];refine⟨⟨_,h1,.inr ⟨rfl,λk hk=>?_⟩,λ_=>be _⟩,⟨_,h2,.inr ⟨rfl,λk hk=>by simp[aZ,hB]at hk⟩,λ_=>be _⟩,⟨_,h3,.inr ⟨rfl,λk hk=>?_⟩,λ_=>be _⟩,trivial⟩
   ·simp only[qB,aZ,bM,aN,ZaC,Zaq,Zah,Zal,or_false,false_or]at hk;rcases hk with rfl|rfl
    ·exact⟨_,_,h2,by rw[hxn _ nu];simp[Ne.symm n.qp],be _⟩
    ·exact⟨_,_,h3,by rw[hxn _ BS];simp[Ne.symm n.qm,Ne.symm n.pm],be _⟩
   ·exfalso;simp only[mB,aZ,ZaV,uO,Zak]at hk;obtain⟨e,⟨e',_,rfl⟩,hk⟩:=hk;simp[aN]at hk
  have key:∀(Y Z:cV) (b:bq),(∀p∈Y,N<=p.1/\aM L f0 p.1=some p.2/\aZ p.2=[])->dN N (aM L f0) b Z->dN N (aM L f0) b (Y++Z):=by
   intro Y;induction Y with
   |nil=>intro Z b _ h;exact h
   |cons a Y ih=>
    intro Z b hY h;obtain⟨r,o⟩:=a;obtain⟨y1,y2,y3⟩:=hY (r,o) (by simp);exact⟨⟨o,y2,.inr ⟨rfl,λm hm=>by rw[y3]at hm;cases hm⟩,λ_=>be _⟩,ih Z b (λp hp=>hY p (by simp[hp])) h⟩
  exact key X _ _ (λp hp=>⟨(hX p hp).1,(hX p hp).2.2⟩) tail
def UU{N q:Nat}{v:QV}{s:Qs}(aT:dh f0 N)(hv:v.at f0 q)(hr:N<=r)(hx:∀p∈X,p.1≠r):gone (DM.aM X (bH f0 q v s)) id r:=by
 have NK:q<N:=(aT q _ hv.q).1;have nu:v.hp<N:=(aT v.hp _ hv.hp).1;have BS:v.m<N:=(aT v.m _ hv.m).1;unfold bH;rw[uU];refine bL aT hr λp hp=>?_;rcases Zaq.1 hp with hp|hp
 ·exact hx p hp
 ·simp only[Zah,Zal,or_false]at hp;rcases hp with rfl|rfl|rfl<;>simp only<;>omega
def QV.at.aM{v:QV}{q x:Nat}{o:Ob}(h:v.at f q)(h1:x≠q)(h2:x≠v.hp)(h3:x≠v.m):v.at (DM.aM [(x,o)] f) q:=
 ⟨by simp[Ne.symm h1,h.q],by simp[Ne.symm h2,h.hp],by simp[Ne.symm h3,h.m]⟩
def AW{v:QV}{q x:Nat}{o:Ob}(s:Qs)(h1:x≠q)(h2:x≠v.hp)(h3:x≠v.m):bH (DM.aM [(x,o)] f) q v s=DM.aM [(x,o)] (bH f q v s):=by
 funext k;simp only[bH,aP,cm];by_cases e:k=x
 ·subst e;simp[h1,h2,h3]
 ·simp[e]
end
section
variable{f f0:bq}
noncomputable def FG:bB->bq->fI
 |[.ptr q 0,.v (.int .i64 i),.v (.int .i64 j)],f=>⟨(∃v:QV,v.at f q)/\(eK f q).s.dc i j,.v (.eo []),bH f q (eK f q) ((eK f q).s.swap i j)⟩
 |_,f=>⟨False,.undef,f⟩
def FH{v:QV}{q:Nat}{i j:Int}(h:v.at f q):FG [.ptr q 0,.v (ti i),.v (ti j)] f=⟨v.s.dc i j,.v (.eo []),bH f q v (v.s.swap i j)⟩:=by
 have hx:∃v:QV,v.at f q:=⟨v,h⟩;simp only[FG,eW h,hx,true_and]
def k1133_ok:∀args ab,(FG args ab).ok->(∀N,(∀r,N<=r->ab r=none)->aR aj 133 args ab (FG args ab))/\∀r,ab r=none->(FG args ab).ab r=none:=by
 intro args ab h;unfold FG at h⊢;split at h
 ·rename_i q i j;obtain⟨⟨v,hv⟩,hs⟩:=h;rw[eW hv]at hs⊢;have hs':=hs;obtain⟨_,⟨i0,_⟩,⟨j0,_⟩,_⟩:=hs';obtain⟨i,rfl⟩:=Zae i0;obtain⟨j,rfl⟩:=Zae j0;exact⟨λN hN=>aR.of (t1133 hN hv hs) rfl rfl,λr hr=>gJ hv _ hr⟩
 ·exact h.elim
def PO{l:List (Nat×DM.Spec)}(h:ay aj (bu l)):ay aj (bu ((133,eS FG)::l)):=ay.gS h k1133_ok
structure Qs.ok(s:Qs):Prop where
 pl:pA s.es
 st:∀e∈s.es,e.1<s.mc
 pO:∀e∈s.heap,s.pO e.h
def Qs.nC{s:Qs}{i j:Int}(hi:i.toNat<s.heap.length)(hj:j.toNat<s.heap.length){e:kh}(h:e∈(s.swap i j).heap):e∈s.heap:=by
 rcases ZaS h with h|rfl
 ·rcases ZaS h with h|rfl
  ·exact h
  ·exact bm hj
 ·exact bm hi
def Qs.ok.dc{s:Qs}(h:s.ok){i j:Int}(hi:0<=i/\i<s.heap.length)(hj:0<=j/\j<s.heap.length):s.dc i j:=
 ⟨h.pl,hi,hj,h.pO _ (bm (by omega)),h.pO _ (bm (by omega))⟩
def Qs.ok.swap{s:Qs}(h:s.ok){i j:Int}(hi:0<=i/\i<s.heap.length)(hj:0<=j/\j<s.heap.length):(s.swap i j).ok:=by
 obtain⟨_,_,_,⟨i1,s4⟩,⟨i2,s5⟩⟩:=h.dc hi hj;have s6:sV (d8 s.es s.mc (s.e j).h i) (s.e i).h=some i1:=by rw[mW s5];exact s4
 have la:∀{l:Pl} {c:Nat} {k v:Int} {i:Nat},sV l k=some i->pA l->(∀e∈l,e.1<c)->∀e∈d8 l c k v,e.1<c:=by
  intro l c k v i hk hl hc e he;have:=(zA (k:=k) (v:=v) hl hc).2 e he;unfold wr at this;rw[hk]at this;exact this
 refine⟨lj s6 (lj s5 h.pl),la s6 (lj s5 h.pl) (la s5 h.pl h.st),λe he=>?_⟩;obtain⟨k,hk⟩:=h.pO e (Qs.nC (by omega) (by omega) he);exact⟨k,by show sV (d8 _ _ _ _) _=_;rw[mW s6,mW s5];exact hk⟩
@[simp] def Qs.dI(s:Qs)(i j:Int):(s.swap i j).heap.length=s.heap.length:=by simp[Qs.swap]
@[simp] def Qs.swap_ver(s:Qs)(i j:Int):(s.swap i j).bD=s.bD:=rfl
def tQ(i:Nat)(s:Qs):Qs:=
 if h:0<i/\iC (s.e i) (s.e ((i-1)/2:Nat))then tQ ((i-1)/2) (s.swap i ((i-1)/2:Nat))else s
termination_by i
decreasing_by omega
def rJ{N aJ ba q:Nat}{tm:dw}{l:fA}{v:QV}(s:Qs)(aT:dh f0 N)(hv:v.at f0 q)(hn:N<=ba)(OB:v.s.bD<=s.bD)
  (ik:fR (bH f0 q v s) (bH f0 q v s) id tm l):
  Le ⟨tm,bH f0 q v s,aJ,N,[]⟩ ⟨DM.look l,bH f0 q v s,ba,N,[]⟩:=by
 have k:=ig hv s;have n:=hv.ne;refine rH s aT hv hn OB ?_ k.q k.hp k.m ik
 ·simp
def t1147{q N i:Nat}{v:QV}(hN:∀r,N<=r->f0 r=none)(h:v.at f0 q)(hs:v.s.ok)(hi:i<v.s.heap.length)(dM:v.s.heap.length<=1000000):
  aR aj 147 [.ptr q 0,.v (ti i)] f0 ⟨True,.v (.eo []),bH f0 q v (tQ i v.s)⟩:=by
 obtain⟨R,hR⟩:=bb (tQ i v.s);rw[hR];have aC:=ok1148 (PO ay.nil);refine c1147.pQ hN (by simp) λaT=>?_;have en:∀s,bH f0 q v s q=some (qB v.hp v.m s):=λs=>(ig h s).q;simp;apply aa.block;refine aa.loop (λp:Nat×Qs=>⟨DM.look [(0,.ptr q 0),(1,.v (ti p.1))],bH f0 q v p.2,N+1000,N,[]⟩)
  (λp=>p.1<p.2.heap.length/\p.2.ok/\tQ p.1 p.2=R/\p.2.heap.length<=1000000/\p.2.bD=v.s.bD) (λp=>p.1) (i,v.s) ?_ ⟨hi,hs,hR,dM,rfl⟩ (λp hp=>?_)
 ·refine rH v.s (L:=[]) aT h (by omega) (Zaf _) (by simp) h.q h.hp h.m ?_;simp[en,qB]
 obtain⟨i,s⟩:=p;obtain⟨p1,p2,p3,p4,p5⟩:=hp;simp only at p1 p2 p3 p4 p5;have hv:=ig h s;have k1:=λx y=>MB (i:=x) (j:=y) hv;have k2:=λx y=>FH (i:=x) (j:=y) hv;have e0:∀s',bH (bH f0 q v s) q (v.to s) s'=bH f0 q v s':=iY f0 q v s;simp only[QV.to,Qs.e]at k1 k2;unfold tQ at p3;by_cases hz:i=0
 ·subst hz;rw[ZcT (by omega)]at p3;subst p3;apply aa.seq;apply aa.cX aC fw (rs:=uJ) rfl (by kernel_rfl) [13];simp[uJ];refine aa.cond rfl (λg=>by cases g) (λg=>?_);apply aa.exit;simp[EQ]
 ·have w1:IntKind.i64.wrap ((i:Int)-1)=((i-1:Nat):Int):=by rw[aF (by omega)];omega
  have w2:IntKind.i64.wrap (((i-1:Nat):Int).tdiv 2)=(((i-1)/2:Nat):Int):=by rw[DP (by omega),aF (by omega)];omega
  have w3:IntKind.i64.wrap (((i-1:Nat):Int)/2)=(((i-1)/2:Nat):Int):=by rw[aF (by omega)];omega
  obtain⟨c1,bU⟩:=bb (decide (iC (s.e i) (s.e ((i-1)/2:Nat))):Bool);have gI:=bU;simp only[Qs.e,Zag]at gI;have hz':0<i:=by omega
  have ym:(i-1)/2<s.heap.length:=by omega
  apply aa.seq;apply aa.cX aC fw (rs:=uJ) rfl (by kernel_rfl) [0,1,13];obtain⟨y,hy⟩:=bb ((i-1)/2);rw[hy]at w2 w3 bU gI ym p3;simp[uJ,w1,w3,k1,hz',ym,p1];refine aa.cond rfl (λg=>?_) (λg=>?_)
  ·have g:c1=true:=by rw[<-bU];simpa [Qs.e,p1,ym]using g
   subst g;rw[ZcV ⟨hz',Zat bU⟩]at p3;have so:=p2.dc (i:=i) (j:=y) ⟨by omega,by omega⟩ ⟨by omega,by omega⟩;have so2:=p2.swap (i:=i) (j:=y) ⟨by omega,by omega⟩ ⟨by omega,by omega⟩;apply aa.skip;simp;apply aa.block;apply aa.cX aC fw (rs:=EP) rfl (by kernel_rfl) [0,1];simp[EP,w1,w3,k2,so,e0];apply aa.fK aC fw [0,1];simp[Sa,w1,w3];refine⟨y,s.swap i y,rJ _ aT h (by omega) (by simp[p5]) ?_,⟨by simpa using ym,so2,p3,by simpa using p4,by simpa using p5⟩,by omega⟩;simp[en,qB]
  ·have g:c1=false:=by rw[<-bU];simpa [Qs.e,p1,ym]using g
   subst g;rw[ZcT λx=>Zay bU x.2]at p3;subst p3;apply aa.exit;simp[EQ]
noncomputable def FI:bB->bq->fI
 |[.ptr q 0,.v (.int .i64 i)],f=>⟨(∃v:QV,v.at f q)/\(eK f q).s.ok/\(0<=i/\i<(eK f q).s.heap.length)/\(eK f q).s.heap.length<=1000000,.v (.eo []),bH f q (eK f q) (tQ i.toNat (eK f q).s)⟩
 |_,f=>⟨False,.undef,f⟩
def k1147_eq{v:QV}{q:Nat}{i:Int}(h:v.at f q):FI [.ptr q 0,.v (ti i)] f=⟨v.s.ok/\(0<=i/\i<v.s.heap.length)/\v.s.heap.length<=1000000,.v (.eo []),bH f q v (tQ i.toNat v.s)⟩:=by
 have hx:∃v:QV,v.at f q:=⟨v,h⟩;simp only[FI,eW h,hx,true_and]
def k1147_ok:∀args ab,(FI args ab).ok->(∀N,(∀r,N<=r->ab r=none)->aR aj 147 args ab (FI args ab))/\∀r,ab r=none->(FI args ab).ab r=none:=by
 intro args ab h;unfold FI at h⊢;split at h
 ·rename_i q i;obtain⟨⟨v,hv⟩,hs,⟨i0,i1⟩,hl⟩:=h;rw[eW hv]at hs i1 hl⊢;obtain⟨i,rfl⟩:=Zae i0;exact⟨λN hN=>aR.of (t1147 hN hv hs (by omega) hl) rfl rfl,λr hr=>gJ hv _ hr⟩
 ·exact h.elim
def ok1147{l:List (Nat×DM.Spec)}(h:ay aj (bu l)):ay aj (bu ((147,eS FI)::l)):=ay.gS h k1147_ok
end
def tR(s:Qs)(i:Nat):Nat->Nat
 |0=>i
 |t+1=>if iC (s.e (2*i+1+t:Nat)) (s.e (tR s i t))then 2*i+1+t else tR s i t
def kg(s:Qs)(i:Nat):Nat:=min 2 (s.heap.length-(2*i+1))
def dt(s:Qs)(i:Nat):Nat:=tR s i (kg s i)
def sX(s:Qs)(i:Nat):∀t,tR s i t=i\/(2*i+1<=tR s i t/\tR s i t<2*i+1+t)
 |0=>.inl rfl
 |t+1=>by
  have:=sX s i t;unfold tR;split<;>omega
def gZ(s:Qs)(i:Nat):dt s i=i\/(i<dt s i/\dt s i<s.heap.length):=by
 have:=sX s i (kg s i);unfold dt;unfold kg at*
 omega
def fm(i:Nat)(s:Qs):Qs:=
 if h:dt s i=i then s else fm (dt s i) (s.swap i (dt s i:Nat))
termination_by s.heap.length-i
decreasing_by
 have:=gZ s i;simp only[Qs.dI];omega
def t1134{f0:bq}{q N i:Nat}{v:QV}(hN:∀r,N<=r->f0 r=none)(h:v.at f0 q)(hs:v.s.ok)(hi:i<=1000000)(dM:v.s.heap.length<=1000000):
  aR aj 134 [.ptr q 0,.v (ti i)] f0 ⟨True,.v (.eo []),bH f0 q v (fm i v.s)⟩:=by
 obtain⟨R,hR⟩:=bb (fm i v.s);rw[hR];have aC:=ok1148 (PO ay.nil);refine c1134.pQ hN (by simp) λaT=>?_;have en:∀s,bH f0 q v s q=some (qB v.hp v.m s):=λs=>(ig h s).q;simp;apply aa.block;refine aa.loop (λp:Nat×Qs=>⟨DM.look [(0,.ptr q 0),(1,.v (ti p.1))],bH f0 q v p.2,N+1000,N,[]⟩)
  (λp=>p.1<=1000000/\p.2.ok/\fm p.1 p.2=R/\p.2.heap.length<=1000000/\p.2.bD=v.s.bD) (λp=>p.2.heap.length-p.1) (i,v.s) ?_ ⟨hi,hs,hR,dM,rfl⟩ (λp hp=>?_)
 ·refine rH v.s (L:=[]) aT h (by omega) (Zaf _) (by simp) h.q h.hp h.m ?_;simp[en,qB]
 obtain⟨i,s⟩:=p;obtain⟨p1,p2,p3,p4,p5⟩:=hp;simp only at p1 p2 p3 p4 p5;have hv:=ig h s;have k1:=λx y=>MB (i:=x) (j:=y) hv;have k2:=λx y=>FH (i:=x) (j:=y) hv;have e0:∀s',bH (bH f0 q v s) q (v.to s) s'=bH f0 q v s':=iY f0 q v s;have hq:=hv.q;have hh:=hv.hp;simp only[QV.to,Qs.e,qB,hB]at k1 k2 hq hh;have w1:IntKind.i64.wrap (2*(i:Int))=2*(i:Int):=aF (by omega);have w2:IntKind.i64.wrap (2*(i:Int)+1)=2*(i:Int)+1:=aF (by omega);have w3:IntKind.i64.wrap (2*(i:Int)+2)=2*(i:Int)+2:=aF (by omega);apply aa.block;apply aa.ch aC fw [0,1,4];simp[RZ];apply aa.seq;apply aa.ch aC fw [0,1,4,5];simp[R5,w1,w2];apply aa.block;refine aa.loop (λt:Nat=>⟨DM.look [(0,.ptr q 0),(1,.v (ti i)),(4,.v (ti (tR s i t))),(5,.v (ti (2*i+1+t:Nat)))],bH f0 q v s,N+2000,N,[]⟩)
  (λt=>t<=kg s i) (λt=>2-t) 0 (rJ _ aT h (by omega) (by simp[p5]) ?_) (by omega) (λt ht=>?_)
 ·simp[en,qB,tR]
 have hkid:kg s i<=2/\(kg s i<=s.heap.length-(2*i+1))/\(kg s i=2\/kg s i=s.heap.length-(2*i+1)):=by unfold kg;omega
 obtain⟨L,hL⟩:=bb (tR s i t);have hLo:=sX s i t;rw[hL]at hLo⊢;obtain⟨K,hK⟩:=bb (2*i+1+t);rw[hK]at hLo⊢;obtain⟨c1,bU⟩:=bb (decide (t<kg s i):Bool);apply aa.seq;refine aa.cz aC fw [(0,.ptr q 0),(1,.v (ti i)),(4,.v (ti L)),(5,.v (ti K)),(23,.v (.bool c1))] ?_ ?_
 ·by_cases z1:t<2
  ·have z2:(K:Int)<=2*(i:Int)+2:=by omega
   by_cases z3:K<s.heap.length
   ·have:c1=true:=by rw[<-bU];simp;omega
    simp[CB,w1,w3,hq,hh,z2,z3,this]
   ·have:c1=false:=by rw[<-bU];simp;omega
    simp[CB,w1,w3,hq,hh,z2,z3,this]
  ·have z2:¬(K:Int)<=2*(i:Int)+2:=by omega
   have:c1=false:=by rw[<-bU];simp;omega
   simp[CB,w1,w3,z2,this]
 refine aa.cond rfl (λg=>?_) (λg=>?_)
 ·have g:c1=true:=by simpa using g
  subst g;have ht2:t<kg s i:=Zat bU;have hKl:K<s.heap.length:=by omega
  have Xq:L<s.heap.length:=by omega
  have wK:IntKind.i64.wrap ((K:Int)+1)=((2*i+1+(t+1):Nat):Int):=by rw[aF (by omega)];omega
  have nU:tR s i (t+1)=if iC (s.e K) (s.e L)then K else L:=by
   have:tR s i (t+1)=if iC (s.e (2*i+1+t:Nat)) (s.e (tR s i t))then 2*i+1+t else tR s i t:=rfl
   rw[this,hK,hL]
  apply aa.skip;simp;apply aa.seq;apply aa.block;apply aa.cX aC fw (rs:=EN) rfl (by kernel_rfl) [0,1,4,5,29];simp[EN,k1,hKl,Xq];obtain⟨c2,gI⟩:=bb (decide (iC (s.e K) (s.e L)):Bool);refine aa.to ⟨DM.look [(0,.ptr q 0),(1,.v (ti i)),(4,.v (ti (tR s i (t+1)))),(5,.v (ti K))],bH f0 q v s,N+4000,N,[]⟩ ?_ ?_
  ·refine aa.cond rfl (λg=>?_) (λg=>?_)
   ·have g:iC (s.e K) (s.e L):=by simpa [Qs.e,hKl,Xq]using g
    rw[Zai g]at nU;apply aa.fK aC fw [0,1,4,5];simp[R6];refine rJ _ aT h (by omega) (by simp[p5]) ?_;simp[en,qB,nU]
   ·have g:¬iC (s.e K) (s.e L):=by simpa [Qs.e,hKl,Xq]using g
    rw[Zab g]at nU;apply aa.skip;simp;refine rJ _ aT h (by omega) (by simp[p5]) ?_;simp[en,qB,nU]
  simp;apply aa.fK aC fw [0,1,4,5];simp[R7,wK];refine⟨t+1,rJ _ aT h (by omega) (by simp[p5]) ?_,by omega,by omega⟩;simp[en,qB]
 ·have g:c1=false:=by simpa using g
  subst g;have ht2:t=kg s i:=by have:=Zay bU;omega
  have hLs:dt s i=L:=by rw[<-hL,ht2];rfl
  unfold fm at p3;rw[hLs]at p3;apply aa.exit;simp;apply aa.seq;apply aa.ch aC fw [0,1,4,33];simp[R8];refine aa.cond rfl (λg=>?_) (λg=>?_)
  ·have g:L=i:=by simp at g;omega
   rw[ZcV g]at p3;subst p3;apply aa.ret;simp[Lx]
  ·have g:¬L=i:=by simp at g;omega
   rw[ZcT g]at p3;have Xq:i<L/\L<s.heap.length:=by have:=gZ s i;omega
   have so:=p2.dc (i:=i) (j:=L) ⟨by omega,by omega⟩ ⟨by omega,by omega⟩;have so2:=p2.swap (i:=i) (j:=L) ⟨by omega,by omega⟩ ⟨by omega,by omega⟩;apply aa.skip;simp;apply aa.cX aC fw (rs:=EO) rfl (by kernel_rfl) [0,4];simp[EO,k2,so,e0];apply aa.fK aC fw [0,1];simp[R9];refine⟨L,s.swap i L,rJ _ aT h (by omega) (by simp[p5]) ?_,⟨by omega,so2,p3,by simpa using p4,by simpa using p5⟩,by simp;omega⟩;simp[en,qB]
noncomputable def FJ:bB->bq->fI
 |[.ptr q 0,.v (.int .i64 i)],f=>⟨(∃v:QV,v.at f q)/\(eK f q).s.ok/\(0<=i/\i<=1000000)/\(eK f q).s.heap.length<=1000000,.v (.eo []),bH f q (eK f q) (fm i.toNat (eK f q).s)⟩
 |_,f=>⟨False,.undef,f⟩
def k1134_eq{v:QV}{f:bq}{q:Nat}{i:Int}(h:v.at f q):FJ [.ptr q 0,.v (ti i)] f=⟨v.s.ok/\(0<=i/\i<=1000000)/\v.s.heap.length<=1000000,.v (.eo []),bH f q v (fm i.toNat v.s)⟩:=by
 have hx:∃v:QV,v.at f q:=⟨v,h⟩;simp only[FJ,eW h,hx,true_and]
def k1134_ok:∀args ab,(FJ args ab).ok->(∀N,(∀r,N<=r->ab r=none)->aR aj 134 args ab (FJ args ab))/\∀r,ab r=none->(FJ args ab).ab r=none:=by
 intro args ab h;unfold FJ at h⊢;split at h
 ·rename_i q i;obtain⟨⟨v,hv⟩,hs,⟨i0,i1⟩,hl⟩:=h;rw[eW hv]at hs hl⊢;obtain⟨i,rfl⟩:=Zae i0;exact⟨λN hN=>aR.of (t1134 hN hv hs (by omega) hl) rfl rfl,λr hr=>gJ hv _ hr⟩
 ·exact h.elim
def ok1134{l:List (Nat×DM.Spec)}(h:ay aj (bu l)):ay aj (bu ((134,eS FJ)::l)):=ay.gS h k1134_ok
def fM(s:Qs)(x:Int)(w:c8):Qs:=⟨s.heap++[⟨x,w,s.next,s.dv⟩],s.bD+1,d8 s.es s.mc s.next s.heap.length,wr s.es s.mc s.next,s.next+1,s.dv+1⟩
def gX(s:Qs)(x:Int)(w:c8):Qs:=tQ s.heap.length (fM s x w)
def uS{s:Qs}{x:Int}{w:c8}(h:s.ok):(fM s x w).ok:=by
 obtain⟨h1,h2⟩:=zA (k:=s.next) (v:=s.heap.length) h.pl h.st;refine⟨h1,h2,λe he=>?_⟩;rcases Zaq.1 he with he|he
 ·obtain⟨i,hi⟩:=h.pO e he;exact⟨i,BV hi⟩
 ·simp at he;subst he;exact BW _ _ _ _
def xm(s:Qs):Prop:=s.ok/\s.heap.length<=100000/\(0<=s.next/\s.next<=1000000000000)/\(0<=s.dv/\s.dv<=1000000000000)
def t1132{f0:bq}{q N:Nat}{x:Int}{w:c8}{v:QV}(hN:∀r,N<=r->f0 r=none)(h:v.at f0 q)(hs:xm v.s):
  aR aj 132 [.ptr q 0,.v (.agg [ti x,ti w.aH,ti w.size])] f0 ⟨True,.v (ti v.s.next),bH f0 q v (gX v.s x w)⟩:=by
 obtain⟨ho,h5,h6,h7⟩:=hs;have nH:=uS (x:=x) (w:=w) ho;obtain⟨R,hR⟩:=bb (gX v.s x w);rw[hR];unfold gX at hR;obtain⟨S,hS⟩:=bb (fM v.s x w);rw[hS]at hR nH;have aC:=ok1147 ay.nil;refine c1132.pQ hN (by simp) λaT=>?_;have en:∀s,bH f0 q v s q=some (qB v.hp v.m s):=λs=>(ig h s).q;obtain⟨n1,n2,n3⟩:=h.ne;have Hi:=Ne.symm n1;have F8:=Ne.symm n2;have Ka:=Ne.symm n3;have h1:=h.q;have h2:=h.hp;have h3:=h.m;simp only[qB,hB,mB]at h1 h2 h3;obtain⟨nx,Dx⟩:=bb v.s.next;obtain⟨ck,Cy⟩:=bb v.s.dv;obtain⟨hp,lU⟩:=bb v.hp;obtain⟨m,hm⟩:=bb v.m;obtain⟨bD,hve⟩:=bb v.s.bD;have hSd:S=⟨v.s.heap++[⟨x,w,nx,ck⟩],bD+1,d8 v.s.es v.s.mc nx v.s.heap.length,wr v.s.es v.s.mc nx,nx+1,ck+1⟩:=by rw[<-hS,<-Dx,<-Cy,<-hve];rfl
 rw[Dx,Cy,lU,hve]at h1;rw[hm]at h1 h3;rw[lU,hve]at h2;rw[Dx]at h6;rw[Cy]at h7;rw[lU]at n1 n3 Hi Ka;rw[hm]at n2 n3 F8 Ka;rw[Dx];have w1:IntKind.i64.wrap (nx+1)=nx+1:=aF (by omega);have w2:IntKind.i64.wrap (ck+1)=ck+1:=aF (by omega);have TU:dK 40 (v.s.heap.length+1):=by simp[dK];omega
 simp;apply aa.ch aC fw [0,3];simp[RM];have NK:q<N:=(aT q _ h.q).1;have nu:v.hp<N:=(aT v.hp _ h.hp).1;have BS:v.m<N:=(aT v.m _ h.m).1;have nq:∀k,q≠N+k:=λk=>by omega
 have np:∀k,v.hp≠N+k:=λk=>by omega
 have nm:∀k,v.m≠N+k:=λk=>by omega
 refine aa.le (rH v.s (l:=[(0,.ptr q 0),(3,.v (.box [ti x,ti w.aH,ti w.size]))]) (ba:=N+1000) aT h (by omega) (Zaf _) ?_ ?_ ?_ ?_ ?_) ?_
 ·intro p hp';simp only[Zah,Zal,or_false]at hp';subst hp';exact .inr (.inr (.inr (by show N<=N+3+1;omega)))
 ·simp[nq,Nat.add_assoc,h.q]
 ·simp[np,Nat.add_assoc,h.hp]
 ·simp[nm,Nat.add_assoc,h.m]
 ·simp[Nat.add_assoc,en,qB];refine bL aT (by omega) ?_;simp;omega
 rw[WA h];change aa aj 58 _ _ ⟨DM.look _,aM [] f0,_,_,_⟩;apply aa.ch aC fw [0,3,5,6];simp[RN,h1,h2];apply aa.ch aC fw [0,5,6];have hch:fU 5 1 [ti x,ti w.aH,ti w.size,ti nx,ti ck]=[[ti x,ti w.aH,ti w.size,ti nx,ti ck]]:=rfl;simp[RP,h1,h2,n1,hch,TU];apply aa.ch aC fw [0,5,6];simp[RQ,h3,F8,Ka,MS,FK];apply aa.ch aC fw [0,5,6];simp[RU,w1,w2,n2];refine aa.le (rH (v:=v) S (l:=[(0,.ptr q 0),(5,.v (ti nx)),(6,.v (ti v.s.heap.length))]) (ba:=N+2000) aT h (by omega) (by rw[hve,hSd];simp) ?_ ?_ ?_ ?_ ?_) ?_
 ·rw[lU,hm];simp
 ·rw[lU,hm,hSd];simp[qB]
 ·rw[lU,hSd];simp[Hi,n3,hB,sS];rfl
 ·rw[hm,hSd];simp[F8,mB]
 ·simp[en,qB]
 have k1:=λy=>k1147_eq (i:=y) (ig h S);have hl:S.heap.length=v.s.heap.length+1:=by rw[hSd];simp
 have e0:∀s',bH (bH f0 q v S) q (v.to S) s'=bH f0 q v s':=iY f0 q v S;simp only[QV.to]at k1 e0;apply aa.cX aC fw (rs:=EM) rfl (by kernel_rfl) [5];simp[EM,k1,nH,hl,e0,hR];refine⟨by omega, ?_⟩;apply aa.ch aC fw [4];simp[RW];apply aa.ret;simp[Lv]
def fT(s:Qs):Qs:=let s1:=s.swap 0 ((s.heap.length:Int)-1)
 ⟨s1.heap.take (s.heap.length-1),s1.bD+1,nD s1.es (s.e 0).h,s1.mc,s1.next,s1.dv⟩
def fC(s:Qs):Qs:=if s.heap=[]then s else fm 0 (fT s)
def uT(s:Qs):T:=if s.heap=[]then .eo [.agg [ti 0,ti 0,ti 0],.bool false]else .eo [.agg [ti (s.e 0).x,ti (s.e 0).v.aH,ti (s.e 0).v.size],.bool true]
def Qs.nd(s:Qs):Prop:=∀i j:Nat,i<s.heap.length->j<s.heap.length->(s.e i).h=(s.e j).h->i=j
def zw{s:Qs}(h:s.ok)(hn:s.nd)(hl:0<s.heap.length):(fT s).ok:=by
 have h1:=h.swap (i:=0) (j:=(s.heap.length:Int)-1) ⟨by omega,by omega⟩ ⟨by omega,by omega⟩;obtain⟨a1,a2⟩:=MT (k:=(s.e 0).h) h1.pl h1.st;refine⟨a1,a2,λe he=>?_⟩;have he1:e∈(s.swap 0 ((s.heap.length:Int)-1)).heap:=ZaE he;refine UV (λhk=>?_) (h1.pO e he1);obtain⟨y,hy,rfl⟩:=ZaO he;simp only[fT,ZaB,Qs.dI]at hy;have lq:y<s.heap.length-1:=by omega
 have fJ:y<s.heap.length:=by omega
 have Wk:((s.heap.length:Int)-1).toNat=s.heap.length-1:=by omega
 by_cases hz:y=0
 ·subst hz;have Xj:s.heap.length-1<s.heap.length:=by omega
  have:(fT s).heap[0]=s.e ((s.heap.length-1:Nat):Int):=by
   have h0:¬s.heap.length-1=0:=by omega
   simp only[fT,Qs.swap,ZcE,Wk,ZcW,Zb1,h0,if_false,if_true];rw[show(s.heap.length:Int)-1=((s.heap.length-1:Nat):Int)by omega]
  rw[this]at hk;have:=hn 0 (s.heap.length-1) hl (by omega) (by simpa using hk);omega
 ·have:(fT s).heap[y]=s.e (y:Int):=by
   have h0:¬s.heap.length-1=y:=by omega
   have h00:¬0=y:=by omega
   simp only[fT,Qs.swap,ZcE,Wk,ZcW,Zb1,h0,h00,if_false,Qs.e,Zag];simp[List.getD,fJ]
  rw[this]at hk;have:=hn 0 y hl fJ (by simpa using hk);omega
def wo(s:Qs):Prop:=s.ok/\s.nd/\s.heap.length<=1000000
def down_ver:∀{n:Nat} {i:Nat} {s:Qs},s.heap.length-i=n->(fm i s).bD=s.bD:=by
 intro n;induction n using Nat.strongRecOn with
 |_ n ih=>
  intro i s hn;unfold fm;split
  ·rfl
  ·rename_i he;have hp:=(gZ s i).resolve_left he;rw[ih (s.heap.length-dt s i) (by omega) (by simp)];simp
def t1103{f0:bq}{q N:Nat}{v:QV}(hN:∀r,N<=r->f0 r=none)(h:v.at f0 q)(hs:wo v.s):
  aR aj 103 [.ptr q 0] f0 ⟨True,.v (uT v.s),bH f0 q v (fC v.s)⟩:=by
 obtain⟨ho,yd,dM⟩:=hs;obtain⟨RV,PP⟩:=bb (uT v.s);obtain⟨R,hR⟩:=bb (fC v.s);rw[hR,PP];unfold fC at hR;unfold uT at PP;have aC:=PO (ok1134 ay.nil);refine c1103.pQ hN (by simp) λaT=>?_;have en:∀s,bH f0 q v s q=some (qB v.hp v.m s):=λs=>(ig h s).q;have NK:q<N:=(aT q _ h.q).1;have nu:v.hp<N:=(aT v.hp _ h.hp).1;have BS:v.m<N:=(aT v.m _ h.m).1;obtain⟨n1,n2,n3⟩:=h.ne;have Hi:=Ne.symm n1;have F8:=Ne.symm n2;have Ka:=Ne.symm n3;have h1:=h.q;have h2:=h.hp;have h3:=h.m;simp only[qB,hB,mB]at h1 h2 h3;have nq:∀k,q≠N+k:=λk=>by omega
 have np:∀k,v.hp≠N+k:=λk=>by omega
 have nm:∀k,v.m≠N+k:=λk=>by omega
 have nq':∀k,N+k≠q:=λk=>by omega
 have np':∀k,N+k≠v.hp:=λk=>by omega
 have nm':∀k,N+k≠v.m:=λk=>by omega
 simp;apply aa.ch aC fw [0,2,3];simp[Rz,Nat.add_assoc];apply aa.seq;apply aa.ch aC fw [0,2,3,11];simp[RA,h1,h2,nq,np];refine aa.cond rfl (λg=>?_) (λg=>?_)
 ·have g:v.s.heap=[]:=by simpa using g
  rw[Zai g]at hR PP;apply aa.ch aC fw [2,3];simp[RB,Nat.add_assoc];rw[<-hR];refine aa.le (rH v.s (l:=[(2,.v (.box [ti 0,ti 0,ti 0])),(3,.v (.bool false))]) (ba:=N+1000) aT h (by omega) (Zaf _) ?_ ?_ ?_ ?_ ?_) ?_
  ·simp
  ·simp[nq,Nat.add_assoc,h.q]
  ·simp[np,Nat.add_assoc,h.hp]
  ·simp[nm,Nat.add_assoc,h.m]
  ·simp;refine bL aT (by omega) ?_;simp;omega
  apply aa.ret;simp[EJ,PP]
 ·have g:¬v.s.heap=[]:=by simpa using g
  rw[Zab g]at hR PP;have hl:0<v.s.heap.length:=ZaT.2 g;have r0:=dG hl;have w1:IntKind.i64.wrap ((v.s.heap.length:Int)-1)=(v.s.heap.length:Int)-1:=aF (by omega);obtain⟨⟨ex,⟨ec,ez⟩,eh,et⟩,he⟩:=bb (v.s.heap.getD 0 default);have Xf:v.s.e 0=⟨ex,⟨ec,ez⟩,eh,et⟩:=he;rw[he]at r0;rw[Xf]at PP;simp only[kh.enc]at r0;have r0':DM.rowAt (dF v.s.heap) (0:Int)=[ti ex,ti ec,ti ez,ti eh,ti et]:=r0;apply aa.skip;simp;apply aa.jR aC fw (rs:=c5 (iO q v.hp N) (eR IJ [none,none,none,some [0],none,some [1],none,none,none,some [0],some [1],none,none,some [105],none])) (.inl rfl) ((dX (jK NK nu n1) _ _ _).trans (by kernel_rfl)) [0,2,3,4,5];simp[IJ,c5,fk,eR,iO,cP,bG,aN,h1,h2,hl,r0',np,nq,w1,Nat.add_assoc];obtain⟨O,hO⟩:=bb (Ob.box [DV.v (ti 0),DV.v (ti 0),DV.v (ti 0)]:Ob);have hOn:aZ O=[]:=by rw[<-hO];rfl
  refine aa.le (le_qx v.s (X:=[(N+3,O)]) (l:=[(0,.ptr q 0),(2,.ptr (N+3) 0),(3,.v (.bool false)),(4,.v (.box [ti ex,ti ec,ti ez,ti eh,ti et])),(5,.v (ti ((v.s.heap.length:Int)-1)))]) (ba:=N+1000) aT h (by omega) (Zaf _) ?_ ?_ ?_ ?_ ?_ ?_) ?_
  ·simp
  ·simp[hOn];exact hO
  ·simp[nq,Nat.add_assoc,h.q]
  ·simp[np,Nat.add_assoc,h.hp]
  ·simp[nm,Nat.add_assoc,h.m]
  ·simp[nq,en,qB,<-hO];exact UU aT h (by omega) (by simp)
  have a1:=λs=>QV.at.aM (o:=O) (ig h s) (x:=N+3) (by omega) (by simp only;omega) (by simp only;omega);have po:=λs s'=>AW (f:=bH f0 q v s) (q:=q) (v:=v.to s) (x:=N+3) (o:=O) s' (by omega) (by simp only;omega) (by simp only;omega);have k1:=λx y=>FH (i:=x) (j:=y) (a1 v.s);have e0:∀s s',bH (bH f0 q v s) q (v.to s) s'=bH f0 q v s':=λs s'=>iY f0 q v s s';simp only[e0]at po;simp only[QV.to]at k1 e0 po;have so:=ho.dc (i:=0) (j:=(v.s.heap.length:Int)-1) ⟨by omega,by omega⟩ ⟨by omega,by omega⟩;have so2:=ho.swap (i:=0) (j:=(v.s.heap.length:Int)-1) ⟨by omega,by omega⟩ ⟨by omega,by omega⟩;apply aa.cX aC fw (rs:=EH) rfl (by kernel_rfl) [0,2,3,4,5];simp[EH,k1,so,po];obtain⟨P,hP⟩:=bb (fT v.s);have hPok:=zw ho yd hl;rw[hP]at hPok hR;obtain⟨S1,tF⟩:=bb (v.s.swap 0 ((v.s.heap.length:Int)-1));have Xr:P=⟨S1.heap.take (v.s.heap.length-1),S1.bD+1,nD S1.es eh,S1.mc,S1.next,S1.dv⟩:=by rw[<-hP,<-tF];simp only[fT,Xf]
  have hSl:S1.heap.length=v.s.heap.length:=by rw[<-tF];simp
  have hSv:S1.bD=v.s.bD:=by rw[<-tF];simp
  rw[tF];have Bk:=ig h S1;have j1:=Bk.q;have j2:=Bk.hp;have j3:=Bk.m;simp only[qB,hB,mB]at j1 j2 j3;apply aa.ch aC fw [0,2,3,4];simp[RC,j1,j2,hSl,nq,np];refine⟨⟨by omega,by omega⟩, ?_⟩;obtain⟨G,hG⟩:=bb (bH f0 q v R);rw[hG];simp only[bH,uU,ZaM,ZaG];refine aa.le (Le.cut q 1 (q:=v.hp) (bD:=S1.bD) (n:=v.s.heap.length-1) (e:=211) (sz:=5) (av:=dF S1.heap) (cs:=[.v (.fn (.func 101) []),.u9 v.hp S1.bD 0 (v.s.heap.length-1),.iE v.m,.v (ti S1.next),.v (ti S1.dv)]) ?_ rfl ?_) ?_
  ·simp
  ·simp[Hi,hB,np]
  rw[jT,jT];simp only[Zb2,ZbR];apply aa.ch aC fw [0,2,3,4];simp[RD,F8,Ka,mB,MU,nm];refine aa.le (le_qx P (X:=[(N+3,O)]) (l:=[(0,.ptr q 0),(2,.ptr (N+3) 0),(3,.v (.bool false)),(4,.v (.box [ti ex,ti ec,ti ez,ti eh,ti et]))]) (ba:=N+4000) aT h (by omega) (by rw[Xr];simp[hSv]) ?_ ?_ ?_ ?_ ?_ ?_) ?_
  ·simp
  ·simp[hOn,nq',np',nm']
  ·rw[Xr];simp[n2,qB]
  ·rw[Xr];simp[Hi,n3,hB,xl]
  ·rw[Xr];simp[mB]
  ·simp[en,qB,nq,<-hO]
  have k2:=λx=>k1134_eq (i:=x) (a1 P);simp only[QV.to]at k2;have hPl:P.heap.length<=1000000:=by rw[Xr];simp;omega
  apply aa.cX aC fw (rs:=EI) rfl (by kernel_rfl) [2,3,4];simp[EI,k2,hPok,po,hR,hPl,hG];rw[<-hO];apply aa.ch aC fw [2,3];simp[RE];rw[<-hG];unfold bH;rw[uU];have hRv:v.s.bD<=R.bD:=by rw[<-hR,down_ver rfl,Xr];simp[hSv]
  refine aa.le (rH R (l:=[(2,.v (.box [ti ex,ti ec,ti ez])),(3,.v (.bool true))]) (ba:=N+9000) aT h (by omega) hRv ?_ ?_ ?_ ?_ ?_) ?_
  ·intro p hp;simp only[Zaq,Zah,Zal,or_false]at hp;rcases hp with(rfl|rfl)|rfl|rfl|rfl
   ·exact .inr (.inr (.inr (by show N<=N+3;omega)))
   ·exact .inr (.inr (.inr (by show N<=N+3;omega)))
   ·exact .inl rfl
   ·exact .inr (.inl rfl)
   ·exact .inr (.inr (.inl rfl))
  ·simp[nq]
  ·simp[np,Hi]
  ·simp[nm,F8,Ka]
  ·simp;exact UU (X:=[]) aT h (by omega) (by simp)
  apply aa.ret;simp[EJ,<-PP];rfl
def nA(N:Nat):cV:=[(N+15,.box [.v (.fn (.func 101) []),.aW,.iE (N+13),.v (ti 0),.v (ti 0)]),(N+13,.map [.int .i64] false 0 [])]
def t1100{f0:bq}{N:Nat}(hN:∀r,N<=r->f0 r=none):
  sE aj 100 [.v (.fn (.func 101) [])] f0 N (N+20) (λval nJ=>val=.ptr (N+15) 0/\nJ=aM (nA N) f0):=by
 refine c1100.YJ hN (by simp) (by omega) ?_ λaT=>?_
 ·rintro val nJ ⟨rfl,rfl⟩;refine⟨λr hr h=>?_,λr hr=>?_⟩
  ·rw[pB hr (by simp[nA])];exact h
  ·rw[fj λo h=>by simp[nA]at h;omega];exact hN r (by omega)
 ·simp;apply aa.ch cF fw [0,2];simp[Ru];apply aa.ch cF fw [2];simp[Rv,Nat.add_assoc];apply aa.ret;simp[finN,nA]
def gb{a b c:kh}(h:¬iC b a)(k:¬iC c b):¬iC c a:=by
 unfold iC at*
 generalize a.v=u at*
 generalize b.v=v at*
 generalize c.v=w at*
 obtain⟨u1,u2⟩:=u;obtain⟨v1,v2⟩:=v;obtain⟨w1,w2⟩:=w;simp only[c8.lt]at*
 omega
def sY(a:kh):¬iC a a:=by
 unfold iC;generalize a.v=u;obtain⟨u1,u2⟩:=u;simp only[c8.lt];omega
def pC{a b:kh}(h:iC a b):¬iC b a:=by
 unfold iC at*
 generalize a.v=u at*
 generalize b.v=v at*
 obtain⟨u1,u2⟩:=u;obtain⟨v1,v2⟩:=v;simp only[c8.lt]at*
 omega
def oz(s:Qs):Prop:=∀i:Nat,0<i->i<s.heap.length->¬iC (s.e i) (s.e ((i-1)/2:Nat))
def xu{s:Qs}(h:oz s):∀i:Nat,i<s.heap.length->¬iC (s.e i) (s.e (0:Nat)):=by
 intro i;induction i using Nat.strongRecOn with
 |_ i ih=>
  intro hi;by_cases hz:i=0
  ·subst hz;exact sY _
  ·exact gb (ih ((i-1)/2) (by omega) (by omega)) (h i (by omega) hi)
def wt{s:Qs}{i j k:Nat}(hi:i<s.heap.length)(hj:j<s.heap.length)(hk:k<s.heap.length):(s.swap i j).e k=if k=j then s.e i else if k=i then s.e j else s.e k:=by
 simp only[Qs.swap,Qs.e,Zag,List.getD,ZbC];by_cases h1:k=j
 ·subst h1;simp[hj]
 ·by_cases h2:k=i
  ·subst h2;have:¬j=k:=λe=>h1 e.symm;simp[this,h1,hi]
  ·have a1:¬j=k:=λe=>h1 e.symm;have a2:¬i=k:=λe=>h2 e.symm;simp[a1,a2,h1,h2]
def CY:∀{i:Nat} {s:Qs},i<s.heap.length->(∀k:Nat,0<k->k<s.heap.length->k≠i->¬iC (s.e k) (s.e ((k-1)/2:Nat)))->
  (∀k:Nat,0<k->k<s.heap.length->(k-1)/2=i->0<i->¬iC (s.e k) (s.e ((i-1)/2:Nat)))->oz (tQ i s):=by
 intro i;induction i using Nat.strongRecOn with
 |_ i ih=>
  intro s hi h1 h2;unfold tQ;split
  ·rename_i hc;obtain⟨c1,c2⟩:=hc;obtain⟨y,hy⟩:=bb ((i-1)/2);rw[hy]at c2⊢;have zW:y<s.heap.length:=by omega
   have E:=λ{k:Nat} (hk:k<s.heap.length)=>wt (s:=s) (i:=i) (j:=y) hi zW hk;refine ih y (by omega) (by simpa using zW) (λk k1 k2 k3=>?_) (λk k1 k2 k3 k4=>?_)
   ·simp only[Qs.dI]at k2;rw[E k2,E (k:=(k-1)/2) (by omega)];by_cases e1:k=i
    ·subst e1;rw[Zab k3,Zai rfl,hy,Zai rfl];exact pC c2
    ·rw[Zab k3,Zab e1];by_cases e2:(k-1)/2=y
     ·rw[Zai e2];have:=h1 k k1 k2 e1;rw[e2]at this;exact gb (pC c2) this
     ·rw[Zab e2];by_cases e3:(k-1)/2=i
      ·rw[Zai e3];have:=h2 k k1 k2 e3 c1;rw[hy]at this;exact this
      ·rw[Zab e3];exact h1 k k1 k2 e1
   ·simp only[Qs.dI]at k2;rw[E k2,E (k:=(y-1)/2) (by omega)];have p1:¬(y-1)/2=y:=by omega
    have p2:¬(y-1)/2=i:=by omega
    have p3:¬k=y:=by omega
    rw[Zab p1,Zab p2,Zab p3];have hpy:=h1 y k4 zW (by omega);by_cases e1:k=i
    ·rw[Zai e1];exact hpy
    ·rw[Zab e1];have:=h1 k k1 k2 e1;rw[k3]at this;exact gb hpy this
  ·rename_i hc;intro k k1 k2;by_cases e:k=i
   ·subst e;exact λhb=>hc ⟨k1,hb⟩
   ·exact h1 k k1 k2 e
def zB(s:Qs)(i:Nat):∀t,¬iC (s.e i) (s.e (tR s i t))/\∀u,u<t->¬iC (s.e (2*i+1+u:Nat)) (s.e (tR s i t))
 |0=>⟨sY _,λu hu=>by omega⟩
 |t+1=>by
  obtain⟨h1,h2⟩:=zB s i t;unfold tR;split
  ·rename_i hc;have ha:=pC hc;refine⟨gb ha h1,λu hu=>?_⟩;by_cases e:u=t
   ·subst e;exact sY _
   ·exact gb ha (h2 u (by omega))
  ·rename_i hc;refine⟨h1,λu hu=>?_⟩;by_cases e:u=t
   ·subst e;exact hc
   ·exact h2 u (by omega)
def AY(s:Qs)(i:Nat):¬iC (s.e i) (s.e (dt s i))/\∀k:Nat,0<k->k<s.heap.length->(k-1)/2=i->¬iC (s.e k) (s.e (dt s i)):=by
 obtain⟨h1,h2⟩:=zB s i (kg s i);refine⟨h1,λk k1 k2 k3=>?_⟩;have:=h2 (k-(2*i+1)) (by unfold kg;omega);rw[show 2*i+1+(k-(2*i+1))=k by omega]at this;exact this
def AZ(s:Qs)(i:Nat):dt s i=i\/((dt s i-1)/2=i/\i<dt s i/\dt s i<s.heap.length):=by
 have:=sX s i (kg s i);have h3:=gZ s i;unfold dt at*
 unfold kg at*
 omega
def vL:∀{n:Nat} {i:Nat} {s:Qs},s.heap.length-i=n->(∀k:Nat,0<k->k<s.heap.length->(k-1)/2≠i->¬iC (s.e k) (s.e ((k-1)/2:Nat)))->
  (∀k:Nat,0<k->k<s.heap.length->(k-1)/2=i->0<i->¬iC (s.e k) (s.e ((i-1)/2:Nat)))->oz (fm i s):=by
 intro n;induction n using Nat.strongRecOn with
 |_ n ih=>
  intro i s hn h1 h2;obtain⟨m1,m2⟩:=AY s i;have hp:=AZ s i;unfold fm;split
  ·rename_i he;intro k k1 k2;by_cases e:(k-1)/2=i
   ·rw[e];have:=m2 k k1 k2 e;rw[he]at this;exact this
   ·exact h1 k k1 k2 e
  ·rename_i he;obtain⟨j,hj⟩:=bb (dt s i);rw[hj]at m1 m2 hp he⊢;obtain⟨p1,p2,p3⟩:=hp.resolve_left he;have hi:i<s.heap.length:=by omega
   have E:=λ{k:Nat} (hk:k<s.heap.length)=>wt (s:=s) (i:=i) (j:=j) hi p3 hk;refine ih (s.heap.length-j) (by omega) (by simp) (λk k1 k2 k3=>?_) (λk k1 k2 k3 k4=>?_)
   ·simp only[Qs.dI]at k2;rw[E k2,E (k:=(k-1)/2) (by omega),Zab k3];by_cases e1:k=j
    ·subst e1;rw[Zai rfl,Zai p1];exact m1
    ·rw[Zab e1];by_cases e2:k=i
     ·subst e2;have:¬(k-1)/2=k:=by omega
      rw[Zai rfl,Zab this];exact h2 j (by omega) p3 p1 k1
     ·rw[Zab e2];by_cases e3:(k-1)/2=i
      ·rw[Zai e3];exact m2 k k1 k2 e3
      ·rw[Zab e3];exact h1 k k1 k2 e3
   ·simp only[Qs.dI]at k2;rw[p1,E k2,E hi];have q1:¬k=j:=by omega
    have q2:¬k=i:=by omega
    have q3:¬i=j:=by omega
    rw[Zab q1,Zab q2,Zab q3,Zai rfl];have:=h1 k k1 k2 (by omega);rw[k3]at this;exact this
def sZ{s:Qs}{x:Int}{w:c8}{k:Nat}(hk:k<s.heap.length):(fM s x w).e k=s.e k:=by
 simp only[fM,Qs.e,Zag,List.getD];rw[Zbc hk]
def AU{s:Qs}{x:Int}{w:c8}(h:oz s):oz (gX s x w):=by
 have hl:(fM s x w).heap.length=s.heap.length+1:=by simp[fM]
 refine CY (by omega) (λk k1 k2 k3=>?_) (λk k1 k2 k3 k4=>?_)
 ·rw[sZ (by omega),sZ (by omega)];exact h k k1 (by omega)
 ·omega
def pw{s:Qs}{k:Nat}(hk:k<s.heap.length-1):(fT s).e k=if k=0 then s.e (s.heap.length-1:Nat)else s.e k:=by
 have hj:s.heap.length-1<s.heap.length:=by omega
 have E:=wt (s:=s) (i:=0) (j:=s.heap.length-1) (k:=k) (by omega) hj (by omega);have hc:((s.heap.length-1:Nat):Int)=(s.heap.length:Int)-1:=by omega
 have:(fT s).e k=(s.swap (0:Nat) (s.heap.length-1:Nat)).e k:=by
  simp only[fT,Qs.e,Zag,List.getD,ZaQ,hk,if_true,hc];rfl
 rw[this,E,Zab (by omega)]
def zx{s:Qs}(h:oz s):oz (fC s):=by
 unfold fC;split
 ·exact h
 ·rename_i bT;have xN:0<s.heap.length:=ZaT.2 bT;have hl:(fT s).heap.length=s.heap.length-1:=by
   simp only[fT,ZaB,Qs.dI];omega
  refine vL rfl (λk k1 k2 k3=>?_) (λk k1 k2 k3 k4=>by omega);rw[hl]at k2;rw[pw k2,pw (by omega),Zab (by omega),Zab k3];exact h k k1 (by omega)
def c6(s:Qs):Prop:=∀k:Nat,k<s.heap.length->jM s.es (s.e k).h=some (k:Int)
def c6.nd{s:Qs}(h:c6 s):s.nd:=λi j hi hj he=>by
 have h1:=h i hi;have h2:=h j hj;rw[he,h2]at h1;simp only[Zaa]at h1;omega
def kQ{s:Qs}(h:c6 s){i j:Nat}(hi:i<s.heap.length)(hj:j<s.heap.length):c6 (s.swap i j):=by
 intro k hk;rw[Qs.dI]at hk;rw[wt hi hj hk];show jM (d8 (d8 s.es s.mc (s.e j).h i) s.mc (s.e i).h j) _=_;rw[oM,oM];have nd:=h.nd;by_cases h1:k=j
 ·subst h1;rw[Zai rfl,Zai rfl]
 ·rw[Zab h1];by_cases h2:k=i
  ·subst h2;rw[Zai rfl];by_cases h3:(s.e j).h=(s.e k).h
   ·have:=nd j k hj hk h3;exact Zar this.symm h1
   ·rw[Zab h3,Zai rfl]
  ·rw[Zab h2,Zab (λe=>h2 (nd k i hk hi e)),Zab (λe=>h1 (nd k j hk hj e))];exact h k hk
def uW:∀{i:Nat} {s:Qs},i<s.heap.length->c6 s->c6 (tQ i s):=by
 intro i;induction i using Nat.strongRecOn with
 |_ i ih=>
  intro s hi h;unfold tQ;split
  ·exact ih _ (by omega) (by simp;omega) (kQ h hi (by omega))
  ·exact h
def s8:∀{n:Nat} {i:Nat} {s:Qs},s.heap.length-i=n->c6 s->c6 (fm i s):=by
 intro n;induction n using Nat.strongRecOn with
 |_ n ih=>
  intro i s hn h;unfold fm;split
  ·exact h
  ·rename_i he;have hp:=(gZ s i).resolve_left he;exact ih (s.heap.length-dt s i) (by omega) (by simp) (kQ h (by omega) hp.2)
def fD{s:Qs}{e:kh}:e∈s.heap↔∃k:Nat,k<s.heap.length/\s.e k=e:=by
 constructor
 ·intro h;obtain⟨k,hk,rfl⟩:=ZaO h;exact⟨k,hk,by simp[Qs.e,List.getD,hk]⟩
 ·rintro⟨k,hk,rfl⟩;simp only[Qs.e,Zag];exact bm hk
def nC{s:Qs}{i j:Nat}(hi:i<s.heap.length)(hj:j<s.heap.length)(e:kh):e∈(s.swap i j).heap↔e∈s.heap:=by
 rw[fD,fD];simp only[Qs.dI];constructor
 ·rintro⟨k,hk,rfl⟩;rw[wt hi hj hk];split
  ·exact⟨i,hi,rfl⟩
  ·split
   ·exact⟨j,hj,rfl⟩
   ·exact⟨k,hk,rfl⟩
 ·rintro⟨k,hk,rfl⟩;by_cases h1:k=j
  ·subst h1;by_cases h2:i=k
   ·subst h2;exact⟨i,hi,by rw[wt hi hi hi];simp⟩
   ·exact⟨i,hi,by rw[wt hi hk hi,Zab h2,Zai rfl]⟩
  ·by_cases h2:k=i
   ·subst h2;exact⟨j,hj,by rw[wt hk hj hj,Zai rfl]⟩
   ·exact⟨k,hk,by rw[wt hi hj hk,Zab h1,Zab h2]⟩
structure lu(s s':Qs):Prop where
 len:s'.heap.length=s.heap.length
 mem:∀e,e∈s'.heap↔e∈s.heap
 next:s'.next=s.next
 dv:s'.dv=s.dv
 mc:s'.mc=s.mc
 bD:s'.bD=s.bD
def lu.refl(s:Qs):lu s s:=⟨rfl,λ_=>Iff.rfl,rfl,rfl,rfl,rfl⟩
def lu.trans{a b c:Qs}(h:lu a b)(k:lu b c):lu a c:=⟨k.len.trans h.len,λe=>(k.mem e).trans (h.mem e),k.next.trans h.next,k.dv.trans h.dv,k.mc.trans h.mc,k.bD.trans h.bD⟩
def rK{s:Qs}{i j:Nat}(hi:i<s.heap.length)(hj:j<s.heap.length):lu s (s.swap i j):=⟨by simp,nC hi hj,rfl,rfl,rfl,rfl⟩
def vJ:∀{i:Nat} {s:Qs},i<s.heap.length->lu s (tQ i s):=by
 intro i;induction i using Nat.strongRecOn with
 |_ i ih=>
  intro s hi;unfold tQ;split
  ·exact(rK hi (by omega)).trans (ih _ (by omega) (by simp;omega))
  ·exact lu.refl s
def li:∀{n:Nat} {i:Nat} {s:Qs},s.heap.length-i=n->lu s (fm i s):=by
 intro n;induction n using Nat.strongRecOn with
 |_ n ih=>
  intro i s hn;unfold fm;split
  ·exact lu.refl s
  ·rename_i he;have hp:=(gZ s i).resolve_left he;exact(rK (by omega) hp.2).trans (ih (s.heap.length-dt s i) (by omega) (by simp))
def CU:∀{n:Nat} {i:Nat} {s:Qs},s.heap.length-i=n->s.ok->(fm i s).ok:=by
 intro n;induction n using Nat.strongRecOn with
 |_ n ih=>
  intro i s hn h;unfold fm;split
  ·exact h
  ·rename_i he;have hp:=(gZ s i).resolve_left he;exact ih (s.heap.length-dt s i) (by omega) (by simp) (h.swap ⟨by omega,by omega⟩ ⟨by omega,by omega⟩)
def xq{s:Qs}{x:Int}{w:c8}(h:c6 s)(hn:∀e∈s.heap,e.h≠s.next):c6 (gX s x w):=by
 have hl:(fM s x w).heap.length=s.heap.length+1:=by simp[fM]
 refine uW (by omega) λk hk=>?_;rw[hl]at hk;show jM (d8 s.es s.mc s.next s.heap.length) _=_;rw[oM];by_cases h1:k<s.heap.length
 ·rw[sZ h1,Zab (hn _ (fD.2 ⟨k,h1,rfl⟩))];exact h k h1
 ·obtain rfl:k=s.heap.length:=by omega
  have:(fM s x w).e (s.heap.length:Nat)=⟨x,w,s.next,s.dv⟩:=by simp[fM,Qs.e,List.getD]
  rw[this,Zai rfl]
def vK{s:Qs}(h:c6 s):c6 (fC s):=by
 unfold fC;split
 ·exact h
 ·rename_i bT;have xN:0<s.heap.length:=ZaT.2 bT;have hl:(fT s).heap.length=s.heap.length-1:=by
   simp only[fT,ZaB,Qs.dI];omega
  have hc:((s.heap.length-1:Nat):Int)=(s.heap.length:Int)-1:=by omega
  have Nx:=kQ h (i:=0) (j:=s.heap.length-1) xN (by omega);refine s8 rfl λk hk=>?_;rw[hl]at hk;have he:(fT s).e k=(s.swap (0:Nat) (s.heap.length-1:Nat)).e k:=by
   simp only[fT,Qs.e,Zag,List.getD,ZaQ,hk,if_true,hc];rfl
  have pP:(fT s).es=nD (s.swap (0:Nat) (s.heap.length-1:Nat)).es (s.e (0:Nat)).h:=by
   simp only[fT,hc];rfl
  rw[he,pP,Hn]
  ·exact Nx k (by simp;omega)
  ·rw[wt xN (by omega) (by omega),Zab (by omega)];have nd:=h.nd;by_cases h1:k=0
   ·subst h1;rw[Zai rfl];exact λe=>by have:=nd (s.heap.length-1) 0 (by omega) xN e;omega
   ·rw[Zab h1];exact λe=>h1 (nd k 0 (by omega) xN e)
section
variable{f:bq}{sp:Nat}
structure NN where
 (rb rf rh q u hp m:Nat)
structure kl where
 ak:bR
 bZ:List Bool
 fl:bO
 s:Qs
structure eY where
 nd:Int
 es:List bF
 Fy:List (bO)
def ny(l:List (bO)):bB:=l.map λx=>.v (.sl (aG x))
@[simp] def usesC_len(l:List (bO)):(ny l).length=l.length:=by simp[ny]
def ma(k:NN)(z:eY):bB:=[.v (ti z.nd),.v (.sl (bk z.es)),.bA k.rb 0,.bA k.rf 0,.bA k.rh 0,.F9 k.u z.Fy.length,.ptr k.q 0]
def qK(s:kl):Ob:=.dT 0 63 2 (bC s.ak)
def rU(s:kl):Ob:=.dT 0 4 1 (g8 s.bZ)
def rV(s:kl):Ob:=.dT 0 3 1 (aG s.fl)
structure SV where
 k:NN
 z:eY
 s:kl
structure SV.at(v:SV)(f:bq)(p:Nat):Prop where
 sp:f p=some (.box (ma v.k v.z))
 rb:f v.k.rb=some (qK v.s)
 rf:f v.k.rf=some (rU v.s)
 rh:f v.k.rh=some (rV v.s)
 q:f v.k.q=some (qB v.k.hp v.k.m v.s.s)
 hp:f v.k.hp=some (hB v.s.s)
 m:f v.k.m=some (mB v.s.s)
 u:f v.k.u=some (.box (ny v.z.Fy))
def SV.qv(v:SV):QV:=⟨v.k.hp,v.k.m,v.s.s⟩
def SV.at.qv{v:SV}(h:v.at f sp):v.qv.at f v.k.q:=⟨h.q,h.hp,h.m⟩
abbrev SV.to(v:SV)(s:kl):SV:=⟨v.k,v.z,s⟩
def bX(f:bq)(v:SV)(s:kl):bq:=aM [(v.k.rb,qK s),(v.k.rf,rU s),(v.k.rh,rV s),(v.k.q,qB v.k.hp v.k.m s.s),(v.k.hp,hB s.s),(v.k.m,mB s.s)] f
structure SV.Ne(v:SV)(sp:Nat):Prop where
 nV:sp≠v.k.rb
 nW:sp≠v.k.rf
 nX:sp≠v.k.rh
 uP:sp≠v.k.q
 nw:sp≠v.k.hp
 uQ:sp≠v.k.m
 Wo:sp≠v.k.u
 TX:v.k.rb≠sp
 pq:v.k.rb≠v.k.rf
 TY:v.k.rb≠v.k.rh
 zi:v.k.rb≠v.k.q
 aar:v.k.rb≠v.k.hp
 zj:v.k.rb≠v.k.m
 Wp:v.k.rb≠v.k.u
 pu:v.k.rf≠sp
 nY:v.k.rf≠v.k.rb
 aaE:v.k.rf≠v.k.rh
 zk:v.k.rf≠v.k.q
 aaF:v.k.rf≠v.k.hp
 zl:v.k.rf≠v.k.m
 Wq:v.k.rf≠v.k.u
 aaG:v.k.rh≠sp
 nZ:v.k.rh≠v.k.rb
 oa:v.k.rh≠v.k.rf
 zm:v.k.rh≠v.k.q
 aaH:v.k.rh≠v.k.hp
 zn:v.k.rh≠v.k.m
 Wr:v.k.rh≠v.k.u
 zo:v.k.q≠sp
 tH:v.k.q≠v.k.rb
 tJ:v.k.q≠v.k.rf
 tK:v.k.q≠v.k.rh
 xo:v.k.q≠v.k.hp
 PD:v.k.q≠v.k.m
 nqu:v.k.q≠v.k.u
 qj:v.k.hp≠sp
 mo:v.k.hp≠v.k.rb
 mq:v.k.hp≠v.k.rf
 mr:v.k.hp≠v.k.rh
 vS:v.k.hp≠v.k.q
 xp:v.k.hp≠v.k.m
 Ws:v.k.hp≠v.k.u
 zp:v.k.m≠sp
 tM:v.k.m≠v.k.rb
 tN:v.k.m≠v.k.rf
 tO:v.k.m≠v.k.rh
 NM:v.k.m≠v.k.q
 vT:v.k.m≠v.k.hp
 nmu:v.k.m≠v.k.u
 Wt:v.k.u≠sp
 PE:v.k.u≠v.k.rb
 PF:v.k.u≠v.k.rf
 PG:v.k.u≠v.k.rh
 nuq:v.k.u≠v.k.q
 PH:v.k.u≠v.k.hp
 num:v.k.u≠v.k.m
def SV.at.ne{v:SV}(h:v.at f sp):v.Ne sp:=by
 obtain⟨P2,oO,oP,nz,hq,lU,hm,hu⟩:=h;simp only[ma,qK,rU,rV,qB,hB,mB]at P2 oO oP nz hq lU hm;have e1:∀z:DV,∀l,ny v.z.Fy=z::l->∃x,z=.v (.sl x):=λz l h=>by
  cases hu2:v.z.Fy with
  |nil=>rw[hu2]at h;simp[ny]at h
  |cons a b=>rw[hu2]at h;simp only[ny,ZaA,Za1]at h;exact⟨_,h.1.symm⟩
 exact⟨λe=>by rw[e,oO]at P2;simp at P2,
  λe=>by rw[e,oP]at P2;simp at P2,
  λe=>by rw[e,nz]at P2;simp at P2,
  λe=>by rw[e,hq]at P2;simp at P2,
  λe=>by rw[e,lU]at P2;simp at P2,
  λe=>by rw[e,hm]at P2;simp at P2,
  λe=>by rw[e,hu]at P2;simp only[Zaa,Ob.box.injEq]at P2;obtain⟨x,hx⟩:=e1 _ _ P2;simp at hx,
  λe=>by rw[e,P2]at oO;simp at oO,
  λe=>by rw[e,oP]at oO;simp at oO,
  λe=>by rw[e,nz]at oO;simp at oO,
  λe=>by rw[e,hq]at oO;simp at oO,
  λe=>by rw[e,lU]at oO;simp at oO,
  λe=>by rw[e,hm]at oO;simp at oO,
  λe=>by rw[e,hu]at oO;simp at oO,
  λe=>by rw[e,P2]at oP;simp at oP,
  λe=>by rw[e,oO]at oP;simp at oP,
  λe=>by rw[e,nz]at oP;simp at oP,
  λe=>by rw[e,hq]at oP;simp at oP,
  λe=>by rw[e,lU]at oP;simp at oP,
  λe=>by rw[e,hm]at oP;simp at oP,
  λe=>by rw[e,hu]at oP;simp at oP,
  λe=>by rw[e,P2]at nz;simp at nz,
  λe=>by rw[e,oO]at nz;simp at nz,
  λe=>by rw[e,oP]at nz;simp at nz,
  λe=>by rw[e,hq]at nz;simp at nz,
  λe=>by rw[e,lU]at nz;simp at nz,
  λe=>by rw[e,hm]at nz;simp at nz,
  λe=>by rw[e,hu]at nz;simp at nz,
  λe=>by rw[e,P2]at hq;simp at hq,
  λe=>by rw[e,oO]at hq;simp at hq,
  λe=>by rw[e,oP]at hq;simp at hq,
  λe=>by rw[e,nz]at hq;simp at hq,
  λe=>by rw[e,lU]at hq;simp at hq,
  λe=>by rw[e,hm]at hq;simp at hq,
  λe=>by rw[e,hu]at hq;simp only[Zaa,Ob.box.injEq]at hq;obtain⟨x,hx⟩:=e1 _ _ hq;simp at hx,
  λe=>by rw[e,P2]at lU;simp at lU,
  λe=>by rw[e,oO]at lU;simp at lU,
  λe=>by rw[e,oP]at lU;simp at lU,
  λe=>by rw[e,nz]at lU;simp at lU,
  λe=>by rw[e,hq]at lU;simp at lU,
  λe=>by rw[e,hm]at lU;simp at lU,
  λe=>by rw[e,hu]at lU;simp at lU,
  λe=>by rw[e,P2]at hm;simp at hm,
  λe=>by rw[e,oO]at hm;simp at hm,
  λe=>by rw[e,oP]at hm;simp at hm,
  λe=>by rw[e,nz]at hm;simp at hm,
  λe=>by rw[e,hq]at hm;simp at hm,
  λe=>by rw[e,lU]at hm;simp at hm,
  λe=>by rw[e,hu]at hm;simp at hm,
  λe=>by rw[e,P2]at hu;simp only[Zaa,Ob.box.injEq]at hu;obtain⟨x,hx⟩:=e1 _ _ hu.symm;simp at hx,
  λe=>by rw[e,oO]at hu;simp at hu,
  λe=>by rw[e,oP]at hu;simp at hu,
  λe=>by rw[e,nz]at hu;simp at hu,
  λe=>by rw[e,hq]at hu;simp only[Zaa,Ob.box.injEq]at hu;obtain⟨x,hx⟩:=e1 _ _ hu.symm;simp at hx,
  λe=>by rw[e,lU]at hu;simp at hu,
  λe=>by rw[e,hm]at hu;simp at hu⟩
def kH{v:SV}(h:v.at f sp)(s:kl):(v.to s).at (bX f v s) sp:=by
 obtain⟨nV,nW,nX,uP,nw,uQ,Wo,TX,pq,TY,zi,aar,zj,Wp,pu,nY,aaE,zk,aaF,zl,Wq,aaG,nZ,oa,zm,aaH,zn,Wr,zo,tH,tJ,tK,xo,PD,nqu,qj,mo,mq,mr,vS,xp,Ws,zp,tM,tN,tO,NM,vT,nmu,Wt,PE,PF,PG,nuq,PH,num⟩:=h.ne;refine⟨?_, ?_, ?_, ?_, ?_, ?_, ?_, ?_⟩
 ·simp[bX,nV,nW,nX,uP,nw,uQ,h.sp]
 ·simp[bX]
 ·simp[bX,nY]
 ·simp[bX,nZ,oa]
 ·simp[bX,tH,tJ,tK]
 ·simp[bX,mo,mq,mr,vS]
 ·simp[bX,tM,tN,tO,NM,vT]
 ·simp[bX,PE,PF,PG,nuq,PH,num,h.u]
def zr(f:bq)(v:SV)(s s':kl):bX (bX f v s) (v.to s) s'=bX f v s':=by
 funext k;simp only[bX,aP,cm];by_cases h1:k=v.k.rb<;>by_cases h2:k=v.k.rf<;>by_cases h3:k=v.k.rh<;>by_cases h4:k=v.k.q<;>by_cases h5:k=v.k.hp<;>by_cases h6:k=v.k.m<;>simp[h1,h2,h3,h4,h5,h6]
def gK{v:SV}{r:Nat}(h:v.at f sp)(s:kl)(hr:f r=none):bX f v s r=none:=by
 have e1:r≠v.k.rb:=λe=>by rw[e,h.rb]at hr;cases hr
 have e2:r≠v.k.rf:=λe=>by rw[e,h.rf]at hr;cases hr
 have e3:r≠v.k.rh:=λe=>by rw[e,h.rh]at hr;cases hr
 have e4:r≠v.k.q:=λe=>by rw[e,h.q]at hr;cases hr
 have e5:r≠v.k.hp:=λe=>by rw[e,h.hp]at hr;cases hr
 have e6:r≠v.k.m:=λe=>by rw[e,h.m]at hr;cases hr
 simp[bX,e1,e2,e3,e4,e5,e6,hr]
def eH{v:SV}(h:v.at f sp):bX f v v.s=f:=by
 funext k;simp only[bX,aP,cm];split
 ·rename_i e;rw[e];exact h.rb.symm
 ·split
  ·rename_i e;rw[e];exact h.rf.symm
  ·split
   ·rename_i e;rw[e];exact h.rh.symm
   ·split
    ·rename_i e;rw[e];exact h.q.symm
    ·split
     ·rename_i e;rw[e];exact h.hp.symm
     ·split
      ·rename_i e;rw[e];exact h.m.symm
      ·rfl
def rF{v:SV}{p:Nat}(h:v.at f p)(a:kl)(s:Qs):bH (bX f v a) v.k.q (v.to a).qv s=bX f v ⟨a.ak,a.bZ,a.fl,s⟩:=by
 obtain⟨nV,nW,nX,uP,nw,uQ,Wo,TX,pq,TY,zi,aar,zj,Wp,pu,nY,aaE,zk,aaF,zl,Wq,aaG,nZ,oa,zm,aaH,zn,Wr,zo,tH,tJ,tK,xo,PD,nqu,qj,mo,mq,mr,vS,xp,Ws,zp,tM,tN,tO,NM,vT,nmu,Wt,PE,PF,PG,nuq,PH,num⟩:=h.ne;funext k;simp only[bH,bX,SV.qv,aP,cm,qK,rU,rV];by_cases h1:k=v.k.q
 ·subst h1;simp[tH,tJ,tK]
 ·by_cases h2:k=v.k.hp
  ·subst h2;simp[h1,mo,mq,mr]
  ·by_cases h3:k=v.k.m
   ·subst h3;simp[h1,h2,tM,tN,tO]
   ·simp[h1,h2,h3]
def pD{v:SV}{g:bq}{s:kl}(h1:g v.k.rb=some (qK s))(h2:g v.k.rf=some (rU s))(h3:g v.k.rh=some (rV s))(h4:g v.k.q=some (qB v.k.hp v.k.m s.s))(h5:g v.k.hp=some (hB s.s))(h6:g v.k.m=some (mB s.s))
  (h7:∀k,k≠v.k.rb->k≠v.k.rf->k≠v.k.rh->k≠v.k.q->k≠v.k.hp->k≠v.k.m->g k=f k):g=bX f v s:=by
 funext k;simp only[bX,aP,cm];repeat' split
 all_goals first|(rename_i e;rw[e];assumption)|(apply h7<;>assumption)
def Fz{v:SV}{p:Nat}(h:v.at f p)(s:kl)(B:bR):aM [(v.k.rb,.dT 0 63 2 (bC B))] (bX f v s)=bX f v ⟨B,s.bZ,s.fl,s.s⟩:=by
 obtain⟨nV,nW,nX,uP,nw,uQ,Wo,TX,pq,TY,zi,aar,zj,Wp,pu,nY,aaE,zk,aaF,zl,Wq,aaG,nZ,oa,zm,aaH,zn,Wr,zo,tH,tJ,tK,xo,PD,nqu,qj,mo,mq,mr,vS,xp,Ws,zp,tM,tN,tO,NM,vT,nmu,Wt,PE,PF,PG,nuq,PH,num⟩:=h.ne;refine pD ?_ ?_ ?_ ?_ ?_ ?_ λk a1 a2 a3 a4 a5 a6=>?_<;>simp[bX, *]<;>rfl
def JC{v:SV}{p:Nat}(h:v.at f p)(s:kl)(B:List Bool):aM [(v.k.rf,.dT 0 4 1 (g8 B))] (bX f v s)=bX f v ⟨s.ak,B,s.fl,s.s⟩:=by
 obtain⟨nV,nW,nX,uP,nw,uQ,Wo,TX,pq,TY,zi,aar,zj,Wp,pu,nY,aaE,zk,aaF,zl,Wq,aaG,nZ,oa,zm,aaH,zn,Wr,zo,tH,tJ,tK,xo,PD,nqu,qj,mo,mq,mr,vS,xp,Ws,zp,tM,tN,tO,NM,vT,nmu,Wt,PE,PF,PG,nuq,PH,num⟩:=h.ne;refine pD ?_ ?_ ?_ ?_ ?_ ?_ λk a1 a2 a3 a4 a5 a6=>?_<;>simp[bX, *]<;>rfl
def JD{v:SV}{p:Nat}(h:v.at f p)(s:kl)(B:bO):aM [(v.k.rh,.dT 0 3 1 (aG B))] (bX f v s)=bX f v ⟨s.ak,s.bZ,B,s.s⟩:=by
 obtain⟨nV,nW,nX,uP,nw,uQ,Wo,TX,pq,TY,zi,aar,zj,Wp,pu,nY,aaE,zk,aaF,zl,Wq,aaG,nZ,oa,zm,aaH,zn,Wr,zo,tH,tJ,tK,xo,PD,nqu,qj,mo,mq,mr,vS,xp,Ws,zp,tM,tN,tO,NM,vT,nmu,Wt,PE,PF,PG,nuq,PH,num⟩:=h.ne;refine pD ?_ ?_ ?_ ?_ ?_ ?_ λk a1 a2 a3 a4 a5 a6=>?_<;>simp[bX, *]<;>rfl
end
def edOk(n:Nat)(e:bF):Prop:=(∀t∈e.dy,0<=t/\t<n)/\(0<=e.aH/\e.aH<=4000000000000)/\e.dy.length<=1000000
abbrev gF(ak:bR)(e:bF):c8:=dU e.aH (dR ak e.dy)
def t1105{f0:bq}{p N:Nat}{v:SV}{e:bF}(hN:∀r,N<=r->f0 r=none)(hv:v.at f0 p)(he:edOk v.s.ak.length e)(hb:∀x∈v.s.ak,jj x):
  aR aj 105 [.ptr p 0,.v (.agg e.enc)] f0 ⟨True,.v (.agg [ti (gF v.s.ak e).aH,ti (gF v.s.ak e).size]),f0⟩:=by
 obtain⟨R,hR⟩:=bb (gF v.s.ak e);rw[hR];unfold gF at hR;obtain⟨eh,ts,ec,e0,e1⟩:=e;obtain⟨ht,hc,hl⟩:=he;simp only at ht hc hl hR;obtain⟨Vs,NL⟩:=bb (dR v.s.ak ts);rw[NL]at hR;have hVl:Vs.length=ts.length:=by rw[<-NL];simp[dR]
 have Gk:∀x∈Vs,jj x:=by
  rw[<-NL];intro x hx;obtain⟨y,hy,rfl⟩:=Zak.1 hx;have:=ht y hy;exact hb _ (bm (by omega))
 have aC:=ok84 ay.nil;refine c1105.pQ hN (by simp) λaT=>?_;have h1:=hv.sp;have h2:=hv.rb;have nu:p<N:=(aT p _ h1).1;have UN:v.k.rb<N:=(aT _ _ h2).1;have np:∀k,p≠N+k:=λk=>by omega
 have nb:∀k,v.k.rb≠N+k:=λk=>by omega
 simp only[ma,qK]at h1 h2;have en:(∃cs,f0 p=some (.box cs)):=⟨_,h1⟩;simp;apply aa.ch aC fw [0,3,4];simp[IM,bF.enc];refine aa.le (Le.dV (l1:=[(N+5,.box [.v (ti 0),.v (ti 0)])]) (l:=[(0,.ptr p 0),(3,.v (.box [ti eh,.sl (aG ts),ti ec,ti e0,ti e1])),(4,.ptr (N+5) 0)]) (ba:=N+500) aT ?_ ?_ ?_ ?_ ?_) ?_
 ·omega
 ·simp
 ·simp[bK,Nat.add_assoc]
 ·simp[dN,eA,Nat.add_assoc]
 ·simp[np,Nat.add_assoc,en];exact bL aT (by omega) (by simp)
 apply aa.ch aC fw [0,3,4,5];simp[IN,Zba,dK];refine⟨by omega,by omega, ?_⟩;obtain⟨Z,hZ⟩:=bb (List.replicate ts.length ⟨0,0⟩:bR);refine aa.le (Le.dV (l1:=[(N+5,.box [.v (ti 0),.v (ti 0)]),(N+512,.dT 0 63 2 (bC (Vs.take 0++List.replicate (ts.length-0) ⟨0,0⟩)))]) (l:=[(0,.ptr p 0),(3,.v (.box [ti eh,.sl (aG ts),ti ec,ti e0,ti e1])),(4,.ptr (N+5) 0),(5,.bA (N+512) 0)]) (ba:=N+1000) aT ?_ ?_ ?_ ?_ ?_) ?_
 ·omega
 ·simp
 ·simp[bK,Nat.add_assoc]
 ·simp[dN,eA,Nat.add_assoc,bC]
 ·simp[np,Nat.add_assoc,en,bC]
 apply aa.seq;apply aa.ch aC fw [0,3,4,5,13,14,15];simp[IP];apply aa.block;refine aa.loop (λi:Nat=>⟨DM.look [(0,.ptr p 0),(3,.v (.box [ti eh,.sl (aG ts),ti ec,ti e0,ti e1])),(4,.ptr (N+5) 0),(5,.bA (N+512) 0),(13,.v (.sl (aG ts))),(14,.v (ti ts.length)),(15,.v (ti i))],aM [(N+5,.box [.v (ti 0),.v (ti 0)]),(N+512,.dT 0 63 2 (bC (Vs.take i++List.replicate (ts.length-i) ⟨0,0⟩)))] f0,N+2000,N,[]⟩)
  (λi=>i<=ts.length) (λi=>ts.length-i) 0 (Le.dV aT ?_ ?_ ?_ ?_ ?_) (by omega) (λi hi2=>?_)
 ·omega
 ·simp
 ·simp[bK]
 ·simp[dN,eA]
 ·simp[np,en]
 obtain⟨A,hA⟩:=bb (Vs.take i++List.replicate (ts.length-i) (⟨0,0⟩:c8));have hAl:A.length=ts.length:=by rw[<-hA];simp;omega
 rw[hA];apply aa.ch aC fw [0,3,4,5,13,14,15,16];simp[IQ];apply aa.seq;refine aa.cond rfl (λg=>?_) (λg=>?_)
 ·have g:i<ts.length:=by simpa using g
  have rt:=cE g;obtain⟨t,KB⟩:=bb (ts.getD i default);rw[KB]at rt;obtain⟨t0,t1⟩:=ht t (by rw[<-KB];exact bm g);obtain⟨t,rfl⟩:=Zae t0;have t1:t<v.s.ak.length:=by omega
  have rv:=dd t1;obtain⟨⟨wc,wz⟩,hw⟩:=bb (v.s.ak.getD t default);rw[hw]at rv;have hiA:i<A.length:=by omega
  have rA:=dd hiA;have dA:∀a b:T,List.drop 2 [a,b]=[]:=λ_ _=>rfl;have hS:Vs.take (i+1)++List.replicate (ts.length-(i+1)) (⟨0,0⟩:c8)=A.set i ⟨wc,wz⟩:=by
   have hVi:Vs.take (i+1)=Vs.take i++[⟨wc,wz⟩]:=by
    have:Vs[i]? =some ⟨wc,wz⟩:=by
     rw[<-NL,dR,Zbx];have:ts[i]? =some (t:Int):=by
      have:=Zas g;rw[this];simp only[List.getD,this,Zbd]at KB;rw[KB]
     rw[this];simp only[Za8,Zag,hw]
    rw[ZbO,this];rfl
   rw[hVi,<-hA,ZbG _ _ (by rw[ZaB];omega)];have hl':(Vs.take i).length=i:=by rw[ZaB];omega
   rw[hl',Zcp,show ts.length-i=(ts.length-(i+1))+1 by omega,ZaY,ZbR,List.append_assoc];rfl
  apply aa.skip;simp;apply aa.seq;apply aa.block;apply aa.ch aC fw [0,3,4,5,6,7,13,14,15];simp[IR,rt,g];apply aa.fK aC fw [0,3,4,5,13,14,15];simp[IS,h1,h2,np,nb,Nat.add_assoc,t1,rv,hiA,rA];apply aa.fK aC fw [0,3,4,5,13,14,15];simp[IT];rw[aF (by omega)];refine⟨i+1,Le.dV aT ?_ ?_ ?_ ?_ ?_,by omega,by omega⟩
  ·omega
  ·simp
  ·simp[bK]
  ·simp[dN,eA,hS,jh]
  ·simp[np,en,hS,jh]
 ·have g:¬i<ts.length:=by simpa using g
  have hie:i=ts.length:=by omega
  subst hie;rw[ZaX (by omega),Zcp,Zcg,ZaC]at hA;subst hA;apply aa.exit;simp;refine aa.le (Le.dV (l1:=[(N+5,.box [.v (ti 0),.v (ti 0)])]) (l:=[(3,.v (.box [ti eh,.sl (aG ts),ti ec,ti e0,ti e1])),(4,.ptr (N+5) 0),(5,.v (.sl (bC Vs)))]) (ba:=N+5000) aT ?_ ?_ ?_ ?_ ?_) ?_
  ·omega
  ·simp
  ·simp[bK]
  ·simp[dN,eA]
  ·simp;exact bL aT (by omega) (by simp)
  apply aa.ch aC fw [4];simp[IU,Zba,hVl,hR];refine⟨Gk,hc.1,hc.2,by omega, ?_⟩;refine aa.le (kO (l:=[(4,.v (.box [ti R.aH,ti R.size]))]) (ba:=N+6000) aT (by omega) (by simp) ?_) ?_
  ·simp;exact bL (l:=[]) aT (by omega) (by simp)
  apply aa.ret;simp[EL];rfl
def aR.pieces{f:Nat}{a:DV}{ts:aK}{ab:bq}{r:fI}(h:aR aj f [a,.v (.agg ts)] ab r):aR aj f [a,.agg (ts.map .v)] ab r:=by
 refine⟨h.entry,λbase W M w0 w L cA hO B9=>h.run base W M w0 w L cA hO ⟨B9.1,λi d v hd hv=>?_⟩⟩
 match i with
 |0=>exact B9.2 0 d v hd hv
 |1=>
  simp only[Zbb,ZaF,Zaa]at hd;subst hd;have:=B9.2 1 _ v rfl hv;simp only[aA]at this;obtain⟨vs,rfl,h2⟩:=this;simp only[aA,bj];exact⟨vs,rfl,wN h2⟩
 |i+2=>simp at hd
def pp(st:kl)(e:bF):kl:=if(gF st.ak e).aH<1099511627776/\st.bZ.getD e.head.toNat false=false then⟨st.ak,st.bZ,st.fl,gX st.s e.head (gF st.ak e)⟩else st
def qF(z:eY)(st:kl)(k:Nat):kl:=pp st (z.es.getD k default)
def TW(z:eY)(st:kl)(k:Nat):Prop:=k<z.es.length/\edOk st.ak.length (z.es.getD k default)/\(0<=(z.es.getD k default).head/\(z.es.getD k default).head<st.bZ.length)/\(∀x∈st.ak,jj x)/\xm st.s
def t1102{f0:bq}{p N k:Nat}{v:SV}(hN:∀r,N<=r->f0 r=none)(hv:v.at f0 p)(ho:TW v.z v.s k):
  aR aj 102 [.ptr p 0,.v (ti k)] f0 ⟨True,.v (.eo []),bX f0 v (qF v.z v.s k)⟩:=by
 obtain⟨hk,hE,hh,hb,hpu⟩:=ho;obtain⟨R,hR⟩:=bb (qF v.z v.s k);rw[hR];unfold qF at hR;have rr:=jX hk;obtain⟨e,JB⟩:=bb (v.z.es.getD k default);rw[JB]at hR hE hh rr;unfold pp at hR;obtain⟨⟨wc,wz⟩,hw⟩:=bb (gF v.s.ak e);rw[hw]at hR;have hcmb:=λ(N:Nat) (h:∀r,N<=r->aM [] f0 r=none)=>t1105 (f0:=aM [] f0) h hv hE hb;rw[hw]at hcmb;have hpush:=λ(N:Nat) (h:∀r,N<=r->aM [] f0 r=none)=>aR.pieces (t1132 (f0:=aM [] f0) (x:=e.head) (w:=⟨wc,wz⟩) h hv.qv hpu);have aC:=Hd (Hd ay.nil hpush (λr h=>gJ (f:=aM [] f0) hv.qv _ h)) hcmb (λr h=>h);refine c1102.pQ hN (by simp) λaT=>?_;have h1:=hv.sp;have h3:=hv.rf;have nu:p<N:=(aT p _ h1).1;have np:∀k,p≠N+k:=λk=>by omega
 simp only[ma,rU]at h1 h3;have en:(∃cs,f0 p=some (.box cs)):=⟨_,h1⟩;obtain⟨eh,ts,ec,e0,e1⟩:=e;simp only[bF.enc]at rr aC hh hR;obtain⟨y,rfl⟩:=Zae hh.1;have hy:y<v.s.bZ.length:=by omega
 have rb:=jG hy;rw[show(default:Bool)=false from rfl]at rb;obtain⟨fb,MC⟩:=bb (v.s.bZ.getD y false);rw[MC]at rb;simp only[Zag,MC]at hR;simp;apply aa.ch aC fw [0,4];simp[Ry,h1,hk,rr];refine aa.le (kO (l:=[(0,.ptr p 0),(4,.v (.box [ti y,.sl (aG ts),ti ec,ti e0,ti e1]))]) (ba:=N+1000) aT (by omega) (by simp;omega) ?_) ?_
 ·simp[np,Nat.add_assoc,en];exact bL (l:=[]) aT (by omega) (by simp)
 apply aa.cX aC fw (rs:=EE) rfl (by kernel_rfl) [0,4,5];simp[EE];refine aa.le (kO (l:=[(0,.ptr p 0),(4,.v (.box [ti y,.sl (aG ts),ti ec,ti e0,ti e1])),(5,.v (.box [ti wc,ti wz]))]) (ba:=N+2000) aT (by omega) (by simp;omega) ?_) ?_
 ·simp[np,Nat.add_assoc,en];exact bL (l:=[]) aT (by omega) (by simp)
 obtain⟨c1,bU⟩:=bb (decide (wc<1099511627776/\fb=false):Bool);refine aa.cz aC fw [(0,.ptr p 0),(4,.v (.box [ti y,.sl (aG ts),ti ec,ti e0,ti e1])),(5,.v (.box [ti wc,ti wz])),(30,.v (.bool c1))] ?_ ?_
 ·by_cases q1:wc<1099511627776
  ·cases fb with
   |true=>
    have:c1=false:=by rw[<-bU];simp
    simp[CA,h1,h3,hy,rb,q1,this]
   |false=>
    have:c1=true:=by rw[<-bU];simp[q1]
    simp[CA,h1,h3,hy,rb,q1,this]
  ·have:c1=false:=by rw[<-bU];simp[q1]
   simp[CA,q1,this]
 refine aa.cond rfl (λg=>?_) (λg=>?_)
 ·have g:c1=true:=by simpa using g
  subst g;rw[Zai (Zat bU)]at hR;have e2:=rF hv v.s (gX v.s.s (y:Int) ⟨wc,wz⟩);rw[eH hv]at e2;have e2:bH (aM [] f0) v.k.q v.qv (gX v.s.s (y:Int) ⟨wc,wz⟩)=bX f0 v R:=by rw[<-hR];exact e2
  refine aa.pe aC fw (rs:=eR EF []) (.inr ⟨_,rfl⟩) (by kernel_rfl) [] ?_;simp[EF,eR,h1,EG];exact e2
 ·have g:c1=false:=by simpa using g
  subst g;rw[Zab (Zay bU)]at hR;apply aa.skip;simp[EG];rw[<-hR,eH hv];rfl
section
variable{v:SV}{f0:bq}{p N:Nat}{L:cV}
def nv(aT:dh f0 N)(hv:v.at f0 p)(s:kl):dh (bX f0 v s) N:=by
 have p0:∀m,f0 m≠none->bX f0 v s m≠none:=by
  intro m hm;simp only[bX,aP,cm];repeat' split
  all_goals first|(intro h;cases h)|exact hm
 intro r o h;by_cases hr:f0 r=none
 ·rw[gK hv s hr]at h;cases h
 ·obtain⟨o',iA⟩:=ZbP.1 hr;obtain⟨h1,h2⟩:=aT r o' iA;refine⟨h1,λm hm=>?_⟩;simp only[bX,aP,cm]at h;split at h
  ·cases h;simp[qK,aZ]at hm
  ·split at h
   ·cases h;simp[rU,aZ]at hm
   ·split at h
    ·cases h;simp[rV,aZ]at hm
    ·split at h
     ·cases h;simp only[qB,aZ,bM,aN,ZaC,Zaq,Zah,Zal,or_false,false_or]at hm;apply p0;rcases hm with rfl|rfl
      ·rw[hv.hp];simp
      ·rw[hv.m];simp
     ·split at h
      ·cases h;simp[hB,aZ]at hm
      ·split at h
       ·cases h;exfalso;simp only[mB,aZ,ZaV,uO,Zak]at hm;obtain⟨e,⟨e',_,rfl⟩,hk⟩:=hm;simp[aN]at hk
       ·rw[iA]at h;cases h;exact p0 m (h2 m hm)
end
def zh(st:kl)(x:Int)(w:c8):kl:=⟨st.ak.set x.toNat w,st.bZ.set x.toNat true,st.fl,st.s⟩
def xn(st:kl)(k:Int):kl:=⟨st.ak,st.bZ,st.fl.set k.toNat (st.fl.getD k.toNat 0-1),st.s⟩
def mV(z:eY)(st:kl)(k:Int):kl:=if(xn st k).fl.getD k.toNat 0=0 then qF z (xn st k) k.toNat else xn st k
def qG(z:eY)(st:kl)(us:bO)(i:Nat):kl:=(us.take i).foldl (mV z) st
def He(z:eY)(st:kl){us:bO}{i:Nat}(h:i<us.length):qG z st us (i+1)=mV z (qG z st us i) (us.getD i default):=by
 unfold qG;rw[cW h,ZaI];rfl
def iw(z:eY)(x:Int):bO:=z.Fy.getD x.toNat []
def sT(z:eY)(st:kl)(x:Int)(w:c8):kl:=qG z (zh st x w) (iw z x) (iw z x).length
def setOk(z:eY)(st:kl)(x:Int)(w:c8):Prop:=0<=x/\x<st.ak.length/\x<st.bZ.length/\x<z.Fy.length/\(iw z x).length<=1000000000/\
 ∀i,i<(iw z x).length->(0<=(iw z x).getD i default/\(iw z x).getD i default<(qG z (zh st x w) (iw z x) i).fl.length)/\
  (-1000000000000<=(qG z (zh st x w) (iw z x) i).fl.getD ((iw z x).getD i default).toNat 0/\(qG z (zh st x w) (iw z x) i).fl.getD ((iw z x).getD i default).toNat 0<=1000000000000)/\
  ((xn (qG z (zh st x w) (iw z x) i) ((iw z x).getD i default)).fl.getD ((iw z x).getD i default).toNat 0=0->TW z (xn (qG z (zh st x w) (iw z x) i) ((iw z x).getD i default)) ((iw z x).getD i default).toNat)
def t1104{f0:bq}{p N:Nat}{x:Int}{w:c8}{v:SV}(hN:∀r,N<=r->f0 r=none)(hv:v.at f0 p)(ho:setOk v.z v.s x w):
  aR aj 104 [.ptr p 0,.v (.agg [ti x,ti w.aH,ti w.size])] f0 ⟨True,.v (.eo []),bX f0 v (sT v.z v.s x w)⟩:=by
 obtain⟨Ow,HS,qr,hx3,hul,la⟩:=ho;obtain⟨y,rfl⟩:=Zae Ow;obtain⟨R,hR⟩:=bb (sT v.z v.s y w);rw[hR];unfold sT at hR;obtain⟨us,VT⟩:=bb (iw v.z y);rw[VT]at hR hul la;have hus':=VT;unfold iw at VT;simp only[Zag]at VT;obtain⟨wc,wz⟩:=w;refine c1104.pQ hN (by simp) λaT=>?_;obtain⟨nV,nW,nX,uP,nw,uQ,Wo,TX,pq,TY,zi,aar,zj,Wp,pu,nY,aaE,zk,aaF,zl,Wq,aaG,nZ,oa,zm,aaH,zn,Wr,zo,tH,tJ,tK,xo,PD,nqu,qj,mo,mq,mr,vS,xp,Ws,zp,tM,tN,tO,NM,vT,nmu,Wt,PE,PF,PG,nuq,PH,num⟩:=hv.ne;have h1:=hv.sp;have h2:=hv.rb;have h3:=hv.rf;have nu:p<N:=(aT p _ h1).1;have UN:v.k.rb<N:=(aT _ _ h2).1;have hfN:v.k.rf<N:=(aT _ _ h3).1;have np:∀k,p≠N+k:=λk=>by omega
 have nb:∀k,v.k.rb≠N+k:=λk=>by omega
 have nf:∀k,v.k.rf≠N+k:=λk=>by omega
 simp only[ma,qK,rU]at h1 h2 h3;have en:(∃cs,f0 p=some (.box cs)):=⟨_,h1⟩;have lq:y<v.s.ak.length:=by omega
 have fJ:y<v.s.bZ.length:=by omega
 have hy3:y<v.z.Fy.length:=by omega
 have rr1:=dd lq;have rr2:=jG fJ;obtain⟨S0,hS0⟩:=bb (zh v.s y ⟨wc,wz⟩);rw[hS0]at hR la;have hbx:∀s,bX f0 v s p=some (.box (ma v.k v.z)):=λs=>(kH hv s).sp;have hbx':∀s,(∃cs,bX f0 v s p=some (.box cs)):=λs=>⟨_,hbx s⟩;have hC:=λs=>nv aT hv s;simp;apply aa.ch cF fw [0,3];simp[RF];refine aa.le (kO (l:=[(0,.ptr p 0),(3,.v (.box [ti y,ti wc,ti wz]))]) (ba:=N+1000) aT (by omega) (by simp;omega) ?_) ?_
 ·simp[Nat.add_assoc,en];exact bL (l:=[]) aT (by omega) (by simp)
 apply aa.jR cF fw (rs:=c5 (iO v.k.rf p N) (eR IK [none,none,none,none,none,none,none,none,none,some [1],none,some [],none,some [],none,some [0],none,none])) (.inl rfl) ((dX (jK hfN nu pu) _ _ _).trans (by kernel_rfl)) [0,3];simp[IK,c5,fk,eR,iO,cP,bG,aN,h1,h2,h3,lq,fJ,rr1,rr2,pq];have e1:=JC hv v.s (v.s.bZ.set y true);rw[eH hv]at e1;have e2:=Fz hv ⟨v.s.ak,v.s.bZ.set y true,v.s.fl,v.s.s⟩ (v.s.ak.set y ⟨wc,wz⟩);rw[<-e1]at e2;have e3:aM [(v.k.rb,.dT 0 63 2 ((bC v.s.ak).set y [ti wc,ti wz])),(v.k.rf,.dT 0 4 1 ((g8 v.s.bZ).set y [T.bool true]))] f0=bX f0 v S0:=by
  rw[<-hS0];unfold zh;rw[show(bC v.s.ak).set y [ti wc,ti wz]=bC (v.s.ak.set y ⟨wc,wz⟩)from(jh v.s.ak y ⟨wc,wz⟩).symm,<-Fa];exact e2
 rw[e3];have hu:∀s,bX f0 v s v.k.u=some (.box (ny v.z.Fy)):=λs=>(kH hv s).u;have nz:∀s,bX f0 v s v.k.rh=some (.dT 0 3 1 (aG s.fl)):=λs=>(kH hv s).rh;have Xn:∀s r,N<=r->bX f0 v s r=none:=λs r hr=>gK hv s (hN r hr);simp only[ma]at hbx;have zq:∀h,(ny v.z.Fy)[y]'h=.v (.sl (aG us)):=by
  intro h;rw[<-VT];simp[ny,List.getD,hy3]
 have Cb:y+1<=v.z.Fy.length:=hy3;apply aa.ch cF fw [0,29,30,31];simp[RG,hbx,hu,hy3,Cb,zq];apply aa.block;refine aa.loop (λi:Nat=>⟨DM.look [(0,.ptr p 0),(29,.v (.sl (aG us))),(30,.v (ti us.length)),(31,.v (ti i))],bX f0 v (qG v.z S0 us i),N+3000,N,[]⟩)
  (λi=>i<=us.length) (λi=>us.length-i) 0 (Le.same (λr hr=>Xn _ r (by omega)) (by simp)) (by omega) (λi hi=>?_)
 obtain⟨st,hse⟩:=bb (qG v.z S0 us i);apply aa.ch cF fw [0,29,30,31,32];simp[RH];apply aa.seq;refine aa.cond rfl (λg=>?_) (λg=>?_)
 ·have g:i<us.length:=by simpa using g
  have rt:=cE g;have J4:=He v.z S0 g;obtain⟨q1,q2,q3⟩:=la i g;obtain⟨k,hk⟩:=bb (us.getD i default);rw[hk,hse]at q1 q2 q3;rw[hk]at rt J4;rw[hse]at J4⊢;obtain⟨k,rfl⟩:=Zae q1.1;have J5:k<st.fl.length:=by omega
  have rh:=cE J5;simp only[Zag]at q2 q3;obtain⟨h,hh⟩:=bb (st.fl.getD k 0);rw[show(default:Int)=0 from rfl,hh]at rh;rw[hh]at q2;obtain⟨D,hD⟩:=bb (xn st k);rw[hD]at q3;unfold mV at J4;rw[hD]at J4;simp only[Zag]at J4;have hDh:D.fl=st.fl.set k (h-1):=by rw[<-hD];simp only[xn,Zag,hh]
  have hDk:D.fl.getD k 0=h-1:=by rw[hDh];simp[List.getD,J5]
  rw[hDk]at q3 J4;have hDl:k<D.fl.length:=by rw[hDh];simpa using J5
  have rD:=cE hDl;rw[show(default:Int)=0 from rfl,hDk]at rD;have w1:IntKind.i64.wrap (h-1)=h-1:=aF (by omega);apply aa.skip;simp;apply aa.seq;apply aa.block;apply aa.ch cF fw [0,5,29,30,31];simp[RI,rt,g];apply aa.ch cF fw [0,5,29,30,31];simp[RK,hbx,nz,J5,rh,w1];have e4:=JD hv st (st.fl.set k (h-1));rw[LR,<-JE]at e4;have e5:cG (bX f0 v st) (some (v.k.rh,.dT 0 3 1 ((aG st.fl).set k [ti (h-1)])))=bX f0 v D:=by
   rw[e4,<-hD];simp only[xn,Zag,hh]
  rw[e5];have w2:IntKind.i64.wrap ((i:Int)+1)=((i+1:Nat):Int):=by rw[aF (by omega)];omega
  apply aa.ch cF fw [0,5,29,30,31,51];simp[RL,hbx,nz,hDl,rD];refine aa.cond rfl (λg2=>?_) (λg2=>?_)
  ·have g2:h-1=0:=by simpa using g2
   rw[Zai g2]at J4;have nP:∀N',(∀r,N'<=r->bX f0 v D r=none)->aR aj 102 [.ptr p 0,.v (ti k)] (bX f0 v D) ⟨True,.v (.eo []),bX f0 v (qF v.z D k)⟩:=λN' h'=>by
    have:=t1102 (f0:=bX f0 v D) (p:=p) (k:=k) (v:=v.to D) h' (kH hv D) (q3 g2);rw[zr]at this;exact this
   have hn2:∀r,bX f0 v D r=none->bX f0 v (qF v.z D k) r=none:=λr hr=>by
    have:=gK (kH hv D) (qF v.z D k) hr;rw[zr]at this;exact this
   apply aa.Iq (Hd ay.nil nP hn2) fw (rs:=EK) rfl (by kernel_rfl) [0,29,30,31];simp[EK];apply aa.fK cF fw [0,29,30,31];simp[IL,w2];refine⟨i+1, ?_,by omega,by omega⟩;rw[J4];exact Le.same (λr hr=>Xn _ r (by omega)) (by simp)
  ·have g2:¬h-1=0:=by simpa using g2
   rw[Zab g2]at J4;apply aa.skip;simp;apply aa.fK cF fw [0,29,30,31];simp[IL,w2];refine⟨i+1, ?_,by omega,by omega⟩;rw[J4];exact Le.same (λr hr=>Xn _ r (by omega)) (by simp)
 ·have g:i=us.length:=by
   have:¬i<us.length:=by simpa using g
   omega
  subst g;rw[hR]at hse;apply aa.exit;simp[Lu,hR]
section
variable{us:List (bO)}
def hE(nd:Int)(es:List bF):Prop:=0<=nd/\nd<=1000/\es.length<=20000/\∀e∈es,sN nd e/\e.dy.length<=2
structure Sol(nd:Int)(es:List bF)(S:bR):Prop where
 len:(S.length:Int)=nd
 ok:∀v∈S,jj v
 cl:∀e∈es,¬(gF S e).lt (bv S e.head)
def MD{a b:bR}{e:bF}(hl:e.dy.length<=2)(h:∀t∈e.dy,¬(bv b t).lt (bv a t)/\0<=(bv a t).aH/\0<=(bv b t).aH):¬(gF b e).lt (gF a e):=by
 unfold gF dR
 match ht:e.dy,hl with
 |[],_=>unfold c8.lt;simp only[ZbL];omega
 |[t],_=>
  have h1:=h t (by rw[ht];simp);exact sJ h1.1
 |[t,u],_=>
  have h1:=h t (by rw[ht];simp);have h2:=h u (by rw[ht];simp);exact sK h1.2.2 h1.2.1 h2.2.2 h2.2.1 h1.1 h2.1
def AS{a b:bR}{e:bF}(h:∀t∈e.dy,bv a t=bv b t):gF a e=gF b e:=by
 unfold gF dR
 congr 1
 exact Zbq λt ht=>h t ht
def FA{n:Int}{a:bR}(hl:(a.length:Int)=n)(ha:∀v∈a,jj v){t:Int}(h:0<=t/\t<n):jj (bv a t):=ha _ (bm (by omega))
def UR{n:Int}{a:bR}{e:bF}(hl:(a.length:Int)=n)(ha:∀v∈a,jj v)(he:sN n e){t:Int}(ht:t∈e.dy)(hf:(bv a t).aH<1099511627776\/(bv a t).size=0):¬(gF a e).lt (bv a t):=by
 obtain⟨_,_,e3,e4,_,_⟩:=he;refine US e4 (λv hv=>?_) (Zak.2 ⟨t,ht,rfl⟩) hf;obtain⟨u,hu,rfl⟩:=Zak.1 hv;exact FA hl ha (e3 u hu)
def CS{n:Int}{a:bR}{e:bF}(hl:(a.length:Int)=n)(ha:∀v∈a,jj v)(he:sN n e):jj (gF a e):=by
 obtain⟨_,_,e3,e4,e5,_⟩:=he;refine ju (λv hv=>?_) e4 e5;obtain⟨u,hu,rfl⟩:=Zak.1 hv;exact FA hl ha (e3 u hu)
def AT(bZ:List Bool)(ts:bO):Nat:=ts.countP λt=> !(bZ.getD t.toNat false)
def tP:bO->Int
 |[]=>0
 |a::l=>a+tP l
def ME:∀{l:bO} {i:Nat} {x:Int},i<l.length->tP (l.set i x)=tP l-l.getD i 0+x
 |[],i,x,h=>by simp at h
 |a::l,0,x,h=>by simp[tP];omega
 |a::l,i+1,x,h=>by
  have:=ME (l:=l) (i:=i) (x:=x) (by simpa using h);simp only[Zb2,tP,Zcu];omega
def uR:∀{l:bO},(∀h∈l,0<=h)->0<=tP l
 |[],_=>by simp[tP]
 |a::l,h=>by
  have h1:=h a (by simp);have:=uR (l:=l) λx hx=>h x (by simp[hx]);simp only[tP];omega
def UT:∀{l:bO} {i:Nat},(∀h∈l,0<=h)->i<l.length->l.getD i 0<=tP l
 |[],i,_,h=>by simp at h
 |a::l,0,hp,h=>by
  have:=uR (l:=l) λx hx=>hp x (by simp[hx]);simp[tP];omega
 |a::l,i+1,hp,h=>by
  have h1:=hp a (by simp);have:=UT (l:=l) (i:=i) (λx hx=>hp x (by simp[hx])) (by simpa using h);simp only[tP,Zcu];omega
def done(es:List bF)(st:kl)(k:Nat):Prop:=
 (gF st.ak (es.getD k default)).aH>=1099511627776\/(st.bZ.getD (es.getD k default).head.toNat false=true/\¬(gF st.ak (es.getD k default)).lt (bv st.ak (es.getD k default).head))\/
  ∃c∈st.s.heap,c.x=(es.getD k default).head/\c.v=gF st.ak (es.getD k default)
structure KI(nd:Int)(es:List bF)(S:bR)(pd:Nat->Nat)(ex:fo)(c:Int)(st:kl):Prop where
 lb:(st.ak.length:Int)=nd
 lf:(st.bZ.length:Int)=nd
 lh:st.fl.length=es.length
 ok:st.s.ok
 pl:c6 st.s
 hp:oz st.s
 bo:∀v∈st.ak,jj v
 Xo:∀k,k<es.length->st.fl.getD k 0=(AT st.bZ (es.getD k default).dy:Int)+pd k
 don:∀k,k<es.length->AT st.bZ (es.getD k default).dy=0->pd k=0->¬ex k->done es st k
 vU:∀e∈st.s.heap,(0<=e.x/\e.x<nd)/\jj e.v/\e.v.aH<1099511627776/\(0<=e.h/\e.h<st.s.next)/\¬e.v.lt (bv S e.x)/\∀y:Nat,(y:Int)<nd->st.bZ.getD y false=true->¬e.v.lt (bv st.ak y)
 val:∀y:Nat,(y:Int)<nd->¬(bv st.ak y).lt (bv S y)
 fv:∀y:Nat,(y:Int)<nd->st.bZ.getD y false=true->(bv st.ak y).aH<1099511627776
 uv:∀y:Nat,(y:Int)<nd->st.bZ.getD y false=false->bv st.ak y=⟨1099511627776,0⟩
 pot:st.s.dv+tP st.fl<=c
 nn:∀h∈st.fl,0<=h
 nc:st.s.next=st.s.dv/\0<=st.s.dv/\(st.s.heap.length:Int)<=st.s.dv
section
variable{nd:Int}{es:List bF}{S:bR}{pd:Nat->Nat}{ex:fo}{c:Int}{st:kl}
def KI.Wu{ex':fo}(h:KI nd es S pd ex c st)(hx:∀k,k<es.length->¬ex' k->AT st.bZ (es.getD k default).dy=0->pd k=0->¬ex k){c':Int}(hc:c<=c'):KI nd es S pd ex' c' st:=
 ⟨h.lb,h.lf,h.lh,h.ok,h.pl,h.hp,h.bo,h.Xo,λk hk h1 h2 h3=>h.don k hk h1 h2 (hx k hk h3 h1 h2),h.vU,h.val,h.fv,h.uv,by have:=h.pot;omega,h.nn,h.nc⟩
def KI.w9(h:KI nd es S pd ex c st):st.s.dv<=c:=by
 have:=uR h.nn;have:=h.pot;omega
def kI(H:hE nd es){k:Nat}(hk:k<es.length):sN nd (es.getD k default)/\(es.getD k default).dy.length<=2:=H.2.2.2 _ (bm hk)
def KI.TW(H:hE nd es)(h:KI nd es S pd ex c st)(hc:c<=90000){k:Nat}(hk:k<es.length):Kn.TW ⟨nd,es,us⟩ st k:=by
 obtain⟨⟨e1,e2,e3,e4,e5,e6⟩,e7⟩:=kI H hk;have h1:=h.lb;have h2:=h.lf;have h3:=h.nc;have h4:=h.w9;exact⟨hk,⟨λt ht=>by have:=e3 t ht;omega,⟨e4,e5⟩,by simp only;omega⟩,⟨e1,by simp only;omega⟩,h.bo,h.ok,by omega,by omega,by omega⟩
def FB:∀{i:Nat} {s:Qs},s.ok->i<s.heap.length->(tQ i s).ok:=by
 intro i;induction i using Nat.strongRecOn with
 |_ i ih=>
  intro s h hi;unfold tQ;split
  ·rename_i hc;exact ih ((i-1)/2) (by omega) (h.swap (i:=i) (j:=((i-1)/2:Nat)) ⟨by omega,by omega⟩ ⟨by omega,by omega⟩) (by simp;omega)
  ·exact h
def KI.FC(H:hE nd es)(hS:Sol nd es S)(h:KI nd es S pd ex c st){k:Nat}(hk:k<es.length)(ha:AT st.bZ (es.getD k default).dy=0)
  (hl:∀y:Nat,(y:Int)<nd->st.bZ.getD y false=true->¬(gF st.ak (es.getD k default)).lt (bv st.ak y)):KI nd es S pd (λk'=>ex k'/\k'≠k) (c+1) (pp st (es.getD k default)):=by
 obtain⟨he,Xf⟩:=kI H hk;obtain⟨e,JB⟩:=bb (es.getD k default);have kx:e∈es:=by rw[<-JB];exact bm hk
 have hdk:∀dm,(gF dm.ak e).aH>=1099511627776\/(dm.bZ.getD e.head.toNat false=true/\¬(gF dm.ak e).lt (bv dm.ak e.head))\/(∃c∈dm.s.heap,c.x=e.head/\c.v=gF dm.ak e)->done es dm k:=λdm hh=>by unfold done;rw[JB];exact hh
 rw[JB]at ha hl he Xf⊢;unfold pp;split
 ·rename_i hc;obtain⟨c1,c2⟩:=hc;obtain⟨w,hw⟩:=bb (gF st.ak e);have hwo:jj w:=by rw[<-hw];exact CS h.lb h.bo he
  rw[hw]at c1 hl⊢;have hs:lu (fM st.s e.head w) (gX st.s e.head w):=vJ (by simp[fM]);have hm:∀x,x∈(gX st.s e.head w).heap↔x∈st.s.heap\/x=⟨e.head,w,st.s.next,st.s.dv⟩:=λx=>(hs.mem x).trans (by simp[fM]);have tw:(gX st.s e.head w).next=st.s.next+1:=hs.next;have JF:(gX st.s e.head w).dv=st.s.dv+1:=hs.dv;have dM:(gX st.s e.head w).heap.length=st.s.heap.length+1:=by rw[hs.len];simp[fM]
  have Lk:=h.nc;refine⟨h.lb,h.lf,h.lh,FB (uS h.ok) (by simp[fM]),xq h.pl (λx hx=>by have:=(h.vU x hx).2.2.2.1;omega),AU h.hp,h.bo,h.Xo,λj hj h1 h2 h3=>?_,λx hx=>?_,h.val,h.fv,h.uv,by have:=h.pot;simp only[JF];omega,h.nn, ?_⟩
  ·by_cases ej:j=k
   ·subst ej;exact hdk _ (.inr (.inr ⟨_,(hm _).2 (.inr rfl),rfl,hw.symm⟩))
   ·have:=h.don j hj h1 h2 (λhx=>h3 ⟨hx,ej⟩);unfold done at this⊢;rcases this with h4|h4|⟨c,h4,h5⟩
    ·exact .inl h4
    ·exact .inr (.inl h4)
    ·exact .inr (.inr ⟨c,(hm _).2 (.inl h4),h5⟩)
  ·rcases(hm x).1 hx with hx|rfl
   ·obtain⟨a1,a2,a3,a4,a5,a6⟩:=h.vU x hx;exact⟨a1,a2,a3,by simp only[tw];omega,a5,a6⟩
   ·refine⟨⟨he.1,he.2.1⟩,hwo,c1,by simp only[tw];omega, ?_,hl⟩;have g1:=hS.cl e kx;have g2:¬(gF st.ak e).lt (gF S e):=MD Xf λt ht=>by
     have J8:=he.2.2.1 t ht;obtain⟨t,rfl⟩:=Zae J8.1;exact⟨h.val t J8.2,(FA hS.len hS.ok J8).1,(FA h.lb h.bo J8).1⟩
    rw[hw]at g2;exact jH g1 g2
  ·simp only[tw,JF,dM];omega
 ·rename_i hc;refine(h.Wu (ex':=ex) (λ_ _ h _ _=>h) (Zct c)).1|>λ_=>?_
  refine⟨h.lb,h.lf,h.lh,h.ok,h.pl,h.hp,h.bo,h.Xo,λj hj h1 h2 h3=>?_,h.vU,h.val,h.fv,h.uv,by have:=h.pot;omega,h.nn,h.nc⟩;by_cases ej:j=k
  ·subst ej;refine hdk _ ?_;by_cases q1:(gF st.ak e).aH<1099511627776
   ·have q2:st.bZ.getD e.head.toNat false=true:=by
     cases hq:st.bZ.getD e.head.toNat false with
     |true=>rfl
     |false=>exact Zar ⟨q1,hq⟩ hc
    obtain⟨x,hx⟩:=Zae he.1;have qr:=he.2.1;rw[hx]at q2 qr⊢;exact .inr (.inl ⟨q2,hl x qr (by simpa using q2)⟩)
   ·exact .inl (by omega)
  ·exact h.don j hj h1 h2 (λhx=>h3 ⟨hx,ej⟩)
def KI.dec(h:KI nd es S pd ex c st){k:Nat}(hk:k<es.length)(hp:0<pd k):
  KI nd es S (λj=>if j=k then pd k-1 else pd j) (λj=>ex j\/j=k) (c-1) (xn st k):=by
 have J5:k<st.fl.length:=by rw[h.lh];exact hk
 have Cy:=h.Xo k hk;refine⟨h.lb,h.lf,by simpa [xn]using h.lh,h.ok,h.pl,h.hp,h.bo,λj hj=>?_,λj hj h1 h2 h3=>?_,h.vU,h.val,h.fv,h.uv, ?_,λx hx=>?_,h.nc⟩
 ·have:=h.Xo j hj;simp only[xn,Zag];rw[eI J5];by_cases e:j=k
  ·subst e;simp only[if_true];omega
  ·simp only[e,if_false];exact this
 ·by_cases e:j=k
  ·exact Zar (.inr e) h3
  ·simp only[e,if_false]at h2;exact h.don j hj h1 h2 (λhx=>h3 (.inl hx))
 ·have:=h.pot;have e:=ME (x:=st.fl.getD k 0-1) J5;show st.s.dv+tP (st.fl.set (k:Int).toNat (st.fl.getD (k:Int).toNat 0-1))<=c-1;simp only[Zag];rw[e];omega
 ·simp only[xn,Zag]at hx;rcases ZaS hx with hx|rfl
  ·exact h.nn x hx
  ·omega
def KI.use(H:hE nd es)(hS:Sol nd es S)(h:KI nd es S pd (λ_=>False) c st){k:Nat}(hk:k<es.length)(hp:0<pd k)
  (hl:∀y:Nat,(y:Int)<nd->st.bZ.getD y false=true->¬(gF st.ak (es.getD k default)).lt (bv st.ak y)):
  KI nd es S (λj=>if j=k then pd k-1 else pd j) (λ_=>False) c (mV ⟨nd,es,us⟩ st k):=by
 have hd:=h.dec hk hp;have QT:=hd.Xo k hk;simp only[if_true]at QT;unfold mV;simp only[Zag];split
 ·rename_i hz;rw[hz]at QT;have hz1:AT (xn st k).bZ (es.getD k default).dy=0:=by omega
  have:=hd.FC H hS hk hz1 hl;refine this.Wu (λj _ _ _ _=>?_) (by omega);rintro⟨hx|hx,hy⟩
  ·exact hx
  ·exact hy hx
 ·rename_i hz;refine hd.Wu (λj hj _ h1 h2=>?_) (by omega);rintro(hx|rfl)
  ·exact hx
  ·simp only[if_true]at h2;exact hz (by rw[QT];omega)
end
end
section
def zt{s:Qs}(bT:s.heap≠[])(e:kh):e∈(fC s).heap↔∃k:Nat,0<k/\k<s.heap.length/\s.e k=e:=by
 have xN:0<s.heap.length:=ZaT.2 bT;have hl:(fT s).heap.length=s.heap.length-1:=by
  simp only[fT,ZaB,Qs.dI];omega
 unfold fC;rw[Zab bT,((li rfl).mem e),fD,hl];constructor
 ·rintro⟨k,hk,rfl⟩;rw[pw hk];split
  ·exact⟨s.heap.length-1,by omega,by omega,rfl⟩
  ·exact⟨k,by omega,by omega,rfl⟩
 ·rintro⟨k,k1,k2,rfl⟩;by_cases hk:k=s.heap.length-1
  ·refine⟨0,by omega, ?_⟩;rw[pw (by omega),Zai rfl,hk]
  ·refine⟨k,by omega, ?_⟩;rw[pw (by omega),Zab (by omega)]
def lw(st:kl):kl:=⟨st.ak,st.bZ,st.fl,fC st.s⟩
abbrev root(st:kl):kh:=st.s.e 0
structure zu(nd:Int)(es:List bF)(us:List (bO)):Prop where
 len:(us.length:Int)=nd
 rng:∀x:Nat,(x:Int)<nd->∀k∈us.getD x [],0<=k/\k<es.length
 Xo:∀x k:Nat,(x:Int)<nd->k<es.length->(us.getD x []).count (k:Int)=(es.getD k default).dy.count (x:Int)
section
variable{nd:Int}{es:List bF}{S:bR}{pd:Nat->Nat}{c:Int}{st:kl}
def CT(bT:st.s.heap≠[]):root st∈st.s.heap:=fD.2 ⟨0,ZaT.2 bT,rfl⟩
def bef_lt{a b:kh}(h:¬iC a b):¬a.v.lt b.v:=λhl=>h (.inl hl)
def root_min(h:KI nd es S pd (λ_=>False) c st){e:kh}(he:e∈st.s.heap):¬e.v.lt (root st).v:=by
 obtain⟨k,hk,rfl⟩:=fD.1 he;exact bef_lt (xu h.hp k hk)
def in_pop(bT:st.s.heap≠[]){e:kh}(he:e∈st.s.heap):e=root st\/e∈(fC st.s).heap:=by
 obtain⟨k,hk,rfl⟩:=fD.1 he;by_cases h0:k=0
 ·subst h0;exact .inl rfl
 ·exact .inr ((zt bT _).2 ⟨k,by omega,hk,rfl⟩)
def pop_in(bT:st.s.heap≠[]){e:kh}(he:e∈(fC st.s).heap):e∈st.s.heap:=by
 obtain⟨k,_,hk,rfl⟩:=(zt bT _).1 he;exact fD.2 ⟨k,hk,rfl⟩
def AV{s:Qs}(bT:s.heap≠[]):(fC s).next=s.next/\(fC s).dv=s.dv/\(fC s).heap.length=s.heap.length-1:=by
 have xN:0<s.heap.length:=ZaT.2 bT;have hl:(fT s).heap.length=s.heap.length-1:=by
  simp only[fT,ZaB,Qs.dI];omega
 unfold fC;rw[Zab bT];have h:=li (s:=fT s) (i:=0) rfl;exact⟨h.next,h.dv,h.len.trans hl⟩
def KI.nd'(h:KI nd es S pd (λ_=>False) c st):st.s.nd:=h.pl.nd
def pop_ok(h:KI nd es S pd (λ_=>False) c st)(bT:st.s.heap≠[]):(fC st.s).ok:=by
 unfold fC;rw[Zab bT];exact CU rfl (zw h.ok h.pl.nd (ZaT.2 bT))
def KI.drop(h:KI nd es S pd (λ_=>False) c st)(bT:st.s.heap≠[])(hf:st.bZ.getD (root st).x.toNat false=true):KI nd es S pd (λ_=>False) c (lw st):=by
 obtain⟨f1,f2,f3⟩:=AV bT;have hr:=h.vU _ (CT bT);have Lk:=h.nc;refine⟨h.lb,h.lf,h.lh,pop_ok h bT,vK h.pl,zx h.hp,h.bo,h.Xo,λk hk h1 h2 h3=>?_,λe he=>?_,h.val,h.fv,h.uv,by have:=h.pot;simp only[lw,f2];exact this,h.nn, ?_⟩
 ·have:=h.don k hk h1 h2 h3;unfold done at this⊢;rcases this with h4|h4|⟨x,h4,h5,h6⟩
  ·exact .inl h4
  ·exact .inr (.inl h4)
  ·rcases in_pop bT h4 with rfl|h4
   ·refine .inr (.inl ⟨by rw[<-h5];exact hf, ?_⟩);show ¬(gF st.ak (es.getD k default)).lt (bv st.ak (es.getD k default).head);rw[<-h6,<-h5];obtain⟨y,hy⟩:=Zae hr.1.1;rw[hy]at hf hr⊢;exact hr.2.2.2.2.2 y hr.1.2 (by simpa using hf)
   ·exact .inr (.inr ⟨x,h4,h5,h6⟩)
 ·obtain⟨a1,a2,a3,a4,a5,a6⟩:=h.vU e (pop_in bT he);exact⟨a1,a2,a3,by simp only[lw,f1];exact a4,a5,a6⟩
 ·simp only[lw,f1,f2,f3];omega
def MF{bZ:List Bool}{x:Nat}{ts:bO}(hx:x<bZ.length)(hf:bZ.getD x false=false)(hp:∀t∈ts,0<=t):AT bZ ts=AT (bZ.set x true) ts+ts.count (x:Int):=by
 induction ts with
 |nil=>rfl
 |cons t ts ih=>
  have ih:=ih λu hu=>hp u (by simp[hu]);have ht:=hp t (by simp);unfold AT at ih⊢;rw[ZcJ,ZcJ,Zcy,ih];by_cases e:t=(x:Int)
  ·subst e;have h1:(bZ.set x true).getD x false=true:=by rw[eI hx,Zai rfl]
   simp only[Zag,hf,h1];simp;omega
  ·have h1:(bZ.set x true).getD t.toNat false=bZ.getD t.toNat false:=by rw[eI hx,Zab (by omega)]
   have h2:(t==(x:Int))=false:=by simpa using e
   simp only[h1,h2];simp;omega
def KI.set(H:hE nd es)(h:KI nd es S (λ_=>0) (λ_=>False) c st)(bT:st.s.heap≠[]){x:Nat}(hx:(root st).x=x)(hf:st.bZ.getD x false=false):
  KI nd es S (λk=>(es.getD k default).dy.count (x:Int)) (λ_=>False) c (zh (lw st) x (root st).v)/\
   ∀y:Nat,(y:Int)<nd->(zh (lw st) x (root st).v).bZ.getD y false=true->¬(bv (zh (lw st) x (root st).v).ak x).lt (bv (zh (lw st) x (root st).v).ak y):=by
 obtain⟨f1,f2,f3⟩:=AV bT;obtain⟨⟨r1,r2⟩,r3,r4,r5,r6,r7⟩:=h.vU _ (CT bT);have Lk:=h.nc;obtain⟨w,hw⟩:=bb ((root st).v);rw[hx]at r1 r2 r6;rw[hw]at r3 r4 r6 r7;have NG:x<st.ak.length:=by have:=h.lb;omega
 have Xp:x<st.bZ.length:=by have:=h.lf;omega
 have JG:∀y:Nat,bv (st.ak.set x w) y=if y=x then w else bv st.ak y:=λy=>by
  unfold bv;simp only[Zag];rw[eI NG]
 have dn:∀y:Nat,(st.bZ.set x true).getD y false=if y=x then true else st.bZ.getD y false:=λy=>eI Xp
 have Jk:zh (lw st) x (root st).v=⟨st.ak.set x w,st.bZ.set x true,st.fl,fC st.s⟩:=by rw[hw];rfl
 rw[Jk];have hcmb:∀k,k<es.length->(es.getD k default).dy.count (x:Int)=0->gF (st.ak.set x w) (es.getD k default)=gF st.ak (es.getD k default):=λk hk h0=>AS λt ht=>by
  have J8:=(kI H hk).1.2.2.1 t ht;obtain⟨t,rfl⟩:=Zae J8.1;rw[JG,Zab];rintro rfl;rw[List.count_eq_zero]at h0;exact h0 ht
 refine⟨⟨by simpa using h.lb,by simpa using h.lf,h.lh,pop_ok h bT,vK h.pl,zx h.hp,λv hv=>?_,λk hk=>?_,λk hk h1 h2 _=>?_,λe he=>?_,λy hy=>?_,λy hy xw=>?_,λy hy xw=>?_,by have:=h.pot;simp only[f2];exact this,h.nn, ?_⟩,λy hy xw=>?_⟩
 ·rcases ZaS hv with hv|rfl
  ·exact h.bo v hv
  ·exact r3
 ·have h1:=h.Xo k hk;have h2:=MF (ts:=(es.getD k default).dy) Xp hf λt ht=>((kI H hk).1.2.2.1 t ht).1;simp only at h1⊢;omega
 ·have h3:=MF (ts:=(es.getD k default).dy) Xp hf λt ht=>((kI H hk).1.2.2.1 t ht).1;have:=h.don k hk (by simp only at h1;omega) rfl (λh=>h);have hc:=hcmb k hk h2;have hhd:=(kI H hk).1;obtain⟨hd,hhe⟩:=Zae hhd.1;unfold done at this⊢;simp only;rw[hc];rw[hhe]at this⊢;rcases this with h4|⟨h4,h5⟩|⟨z,h4,h5,h6⟩
  ·exact .inl h4
  ·simp only[Zag]at h4;have hdx:¬hd=x:=by rintro rfl;rw[hf]at h4;cases h4
   exact .inr (.inl ⟨by simp only[Zag];rw[dn,Zab hdx];exact h4,by rw[JG,Zab hdx];exact h5⟩)
  ·rcases in_pop bT h4 with rfl|h4
   ·have hdx:hd=x:=by omega
    subst hdx;refine .inr (.inl ⟨by simp only[Zag];rw[dn,Zai rfl], ?_⟩);rw[JG,Zai rfl,<-h6,hw];unfold c8.lt;omega
   ·exact .inr (.inr ⟨z,h4,h5,h6⟩)
 ·have ic:=pop_in bT he;obtain⟨a1,a2,a3,a4,a5,a6⟩:=h.vU e ic;refine⟨a1,a2,a3,by simp only[f1];exact a4,a5,λy hy xw=>?_⟩;simp only at xw⊢;rw[dn]at xw;rw[JG];by_cases e1:y=x
  ·rw[Zai e1];have:=root_min h ic;rw[hw]at this;exact this
  ·rw[Zab e1]at xw⊢;exact a6 y hy xw
 ·simp only;rw[JG];split
  ·rename_i e1;subst e1;exact r6
  ·exact h.val y hy
 ·simp only at xw⊢;rw[dn]at xw;rw[JG];split
  ·exact r4
  ·rename_i e1;rw[Zab e1]at xw;exact h.fv y hy xw
 ·simp only at xw⊢;rw[dn]at xw;by_cases e1:y=x
  ·rw[Zai e1]at xw;cases xw
  ·rw[Zab e1]at xw;rw[JG,Zab e1];exact h.uv y hy xw
 ·simp only[f1,f2,f3];omega
 ·simp only at xw⊢;rw[dn]at xw;rw[JG,Zai rfl,JG];by_cases e1:y=x
  ·rw[Zai e1];unfold c8.lt;omega
  ·rw[Zab e1]at xw⊢;exact r7 y hy xw
def use_keep(z:eY)(st:kl)(k:Int):(mV z st k).ak=st.ak/\(mV z st k).bZ=st.bZ/\(mV z st k).fl.length=st.fl.length:=by
 unfold mV qF pp;split
 ·split<;>exact⟨rfl,rfl,by simp[xn]⟩
 ·exact⟨rfl,rfl,by simp[xn]⟩
def Wv(z:eY)(st:kl)(us:bO)(i:Nat):(qG z st us i).ak=st.ak/\(qG z st us i).bZ=st.bZ/\(qG z st us i).fl.length=st.fl.length:=by
 unfold qG;generalize us.take i=l;induction l generalizing st with
 |nil=>exact⟨rfl,rfl,rfl⟩
 |cons k l ih=>
  obtain⟨a1,a2,a3⟩:=use_keep z st k;obtain⟨b1,b2,b3⟩:=ih (mV z st k);exact⟨b1.trans a1,b2.trans a2,b3.trans a3⟩
def KI.settle(H:hE nd es)(hS:Sol nd es S)(h:KI nd es S (λ_=>0) (λ_=>False) c st)(hc:c<=90000)(bT:st.s.heap≠[]){us:List (bO)}(hu:zu nd es us)(hf:st.bZ.getD (root st).x.toNat false=false):
  setOk ⟨nd,es,us⟩ (lw st) (root st).x (root st).v/\KI nd es S (λ_=>0) (λ_=>False) c (sT ⟨nd,es,us⟩ (lw st) (root st).x (root st).v)/\
   (sT ⟨nd,es,us⟩ (lw st) (root st).x (root st).v).bZ=st.bZ.set (root st).x.toNat true:=by
 obtain⟨⟨r1,r2⟩,_⟩:=h.vU _ (CT bT);obtain⟨x,hx⟩:=Zae r1;rw[hx]at hf r2;simp only[Zag]at hf;obtain⟨k1,k2⟩:=h.set H bT hx hf;rw[hx];obtain⟨T,hT⟩:=bb (zh (lw st) x (root st).v);have hTf:T.bZ=st.bZ.set x true:=by rw[<-hT];rfl
 have hTx:T.bZ.getD x false=true:=by rw[hTf,eI (by have:=h.lf;omega),Zai rfl]
 unfold sT setOk;rw[hT]at k1 k2⊢;have hul:iw ⟨nd,es,us⟩ (x:Int)=us.getD x []:=rfl;rw[hul];obtain⟨l,hl⟩:=bb (us.getD x []);have hrng:=hu.rng x r2;have Ww:=λk=>hu.Xo x k r2;rw[hl]at hrng Ww⊢;have BA:=λi=>Wv ⟨nd,es,us⟩ T l i;have main:∀i,i<=l.length->KI nd es S (λk=>(l.drop i).count (k:Int)) (λ_=>False) c (qG ⟨nd,es,us⟩ T l i):=by
  intro i;induction i with
  |zero=>
   intro _;show KI nd es S (λk=>(l.drop 0).count (k:Int)) (λ_=>False) c T;refine⟨k1.lb,k1.lf,k1.lh,k1.ok,k1.pl,k1.hp,k1.bo,λk hk=>?_,λk hk a1 a2 a3=>k1.don k hk a1 (by simp only[Zcn]at a2;rw[Ww k hk]at a2;exact a2) a3,k1.vU,k1.val,k1.fv,k1.uv,k1.pot,k1.nn,k1.nc⟩;rw[Zcn,Ww k hk];exact k1.Xo k hk
  |succ i ih=>
   intro hi;have ih:=ih (by omega);have As:i<l.length:=by omega
   have hd:l.drop i=l.getD i default::l.drop (i+1):=by
    rw[ZbF As];simp[List.getD,As]
   rw[He _ _ As];obtain⟨q0,q1⟩:=hrng _ (bm As);obtain⟨k,hk⟩:=Zae q0;rw[hk]at hd q1⊢;have pJ:k<es.length:=by omega
   have Gc:0<(l.drop i).count (k:Int):=by rw[hd];simp
   have ic:(x:Int)∈(es.getD k default).dy:=by
    rw[<-List.count_pos_iff,<-Ww k pJ];refine List.count_pos_iff.2 ?_;rw[<-hk];exact bm As
   obtain⟨g1,g2,g3⟩:=BA i;have Dw:∀y:Nat,(y:Int)<nd->(qG ⟨nd,es,us⟩ T l i).bZ.getD y false=true->¬(gF (qG ⟨nd,es,us⟩ T l i).ak (es.getD k default)).lt (bv (qG ⟨nd,es,us⟩ T l i).ak y):=by
    rw[g1,g2];intro y hy xw;exact jH (k2 y hy xw) (UR k1.lb k1.bo (kI H pJ).1 ic (.inl (k1.fv x r2 hTx)))
   have:=ih.use H hS (us:=us) pJ Gc Dw;refine⟨this.lb,this.lf,this.lh,this.ok,this.pl,this.hp,this.bo,λj hj=>?_,λj hj a1 a2 a3=>this.don j hj a1 ?_ a3,this.vU,this.val,this.fv,this.uv,this.pot,this.nn,this.nc⟩
   ·rw[this.Xo j hj,hd];simp only[Zcy];by_cases e:j=k
    ·subst e;simp
    ·have:¬(k:Int)=(j:Int):=by omega
     simp[e,this]
   ·rw[hd];simp only[Zcy];by_cases e:j=k
    ·subst e;simpa using a2
    ·have:¬(k:Int)=(j:Int):=by omega
     simpa [e,this]using a2
 have hlb:=k1.lb;have hlf:=k1.lf;have Vj:((lw st).ak.length:Int)=nd/\((lw st).bZ.length:Int)=nd:=⟨h.lb,h.lf⟩;have Wc:l.length<=1000000000:=by
  have key:∀(m:bO) (n:Nat),(∀k∈m,0<=k/\k<n)->(∀k:Nat,k<n->m.count (k:Int)<=2)->m.length<=2*n:=by
   intro m n;induction n generalizing m with
   |zero=>
    intro h1 _;cases m with
    |nil=>simp
    |cons a m=>have:=h1 a (by simp);omega
   |succ n ih=>
    intro h1 h2;have Aa:∀m:bO,m.length=(m.filter λk=>k !=(n:Int)).length+m.count (n:Int):=by
     intro m;induction m with
     |nil=>rfl
     |cons a m ih2=>
      rw[Za4,Zcy,Za5];by_cases e:a=(n:Int)
      ·subst e;simp;omega
      ·have h1:(a !=(n:Int))=true:=by simpa using e
       have h2:(a==(n:Int))=false:=by simpa using e
       rw[h1,h2];simp;omega
    have Aa:=Aa m;have:=ih (m.filter λk=>k !=(n:Int)) (λk hk=>by
     simp only[Zbj,bne_iff_ne,ne_eq]at hk;have:=h1 k hk.1;omega) (λk hk=>by
     have h3:=h2 k (by omega);have:(m.filter λk=>k !=(n:Int)).count (k:Int)<=m.count (k:Int):=(List.filter_sublist).count_le _;omega)
    have h3:=h2 n (by omega);omega
  have:=key l es.length hrng (λk hk=>by
   rw[Ww k hk];have:=List.count_le_length (a:=(x:Int)) (l:=(es.getD k default).dy);have:=(kI H hk).2;omega)
  have:=H.2.2.1;omega
 refine⟨⟨by omega,by omega,by omega,by have:=hu.len;simp only;omega,Wc,λi hi=>?_⟩, ?_, ?_⟩
 ·have ih:=main i (by omega);obtain⟨q0,q1⟩:=hrng _ (bm hi);obtain⟨k,hk⟩:=Zae q0;have hd:l.drop i=l.getD i default::l.drop (i+1):=by
   rw[ZbF hi];simp[List.getD,hi]
  rw[hk]at hd q1⊢;have pJ:k<es.length:=by omega
  have Gc:0<(l.drop i).count (k:Int):=by rw[hd];simp
  simp only[Zag];have J5:k<(qG ⟨nd,es,us⟩ T l i).fl.length:=by rw[ih.lh];exact pJ
  have b1:0<=(qG ⟨nd,es,us⟩ T l i).fl.getD k 0:=ih.nn _ (bm J5);have b2:=UT ih.nn J5;have b3:=ih.pot;have b4:=ih.nc;have hdec:=ih.dec pJ Gc;exact⟨⟨by omega,by omega⟩,⟨by omega,by omega⟩,λ_=>hdec.TW H (by omega) pJ⟩
 ·have:=main l.length (Zaf _);simp only[List.drop_length,List.count_nil]at this;exact this
 ·rw[(BA _).2.1,hTf];rfl
def KI.fin_eq(H:hE nd es)(hS:Sol nd es S)(hSv:∀v:bR,(v.length:Int)=nd->(∀x∈v,jj x/\(x.aH<1099511627776\/x.size=0))->(∀e∈es,¬(gF v e).lt (bv v e.head))->∀y:Nat,(y:Int)<nd->¬(bv S y).lt (bv v y))
  (h:KI nd es S (λ_=>0) (λ_=>False) c st) (bT:st.s.heap=[]):st.ak=S:=by
 have aT:∀e∈es,¬(gF st.ak e).lt (bv st.ak e.head):=by
  intro e he;obtain⟨k,hk,rfl⟩:=ZaO he;have JB:es.getD k default=es[k]:=by simp[List.getD,hk]
  rw[<-JB];obtain⟨rG,_⟩:=kI H hk;have Bv:∀t:Int,0<=t/\t<nd->jj (bv st.ak t):=λt ht=>FA h.lb h.bo ht;by_cases hz:AT st.bZ (es.getD k default).dy=0
  ·have:=h.don k hk hz rfl (λh=>h);unfold done at this;rcases this with h4|⟨_,h5⟩|⟨x,h4,_⟩
   ·have:=CS h.lb h.bo rG;have h2:=Bv _ ⟨rG.1,rG.2.1⟩;by_cases hfh:st.bZ.getD (es.getD k default).head.toNat false=true
    ·obtain⟨y,hy⟩:=Zae rG.1;rw[hy]at hfh h2⊢;have:=h.fv y (by rw[<-hy];exact rG.2.1) (by simpa using hfh);unfold c8.lt;omega
    ·obtain⟨y,hy⟩:=Zae rG.1;rw[hy]at hfh⊢;have:=h.uv y (by rw[<-hy];exact rG.2.1) (by simpa using hfh);rw[this];unfold c8.lt;simp only;have:=(CS h.lb h.bo rG).2.2.1;omega
   ·exact h5
   ·rw[bT]at h4;cases h4
  ·have:∃t∈(es.getD k default).dy,st.bZ.getD t.toNat false=false:=by
    unfold AT at hz;have:=List.countP_pos_iff.1 (Nat.pos_of_ne_zero hz);obtain⟨t,ht,hf⟩:=this;exact⟨t,ht,by simpa using hf⟩
   obtain⟨t,ht,hf⟩:=this;have J8:=rG.2.2.1 t ht;obtain⟨t,rfl⟩:=Zae J8.1;have hu:=h.uv t J8.2 (by simpa using hf);have xL:=UR h.lb h.bo rG ht (.inr (by rw[hu]));rw[hu]at xL;have h2:=Bv _ ⟨rG.1,rG.2.1⟩;have h3:=CS h.lb h.bo rG;obtain⟨y,hy⟩:=Zae rG.1;rw[hy]at h2⊢;have Fq:(y:Int)<nd:=by rw[<-hy];exact rG.2.1
   cases hfy:st.bZ.getD y false with
   |true=>
    have:=h.fv y Fq hfy;unfold c8.lt at xL⊢;simp only at xL;omega
   |false=>
    rw[h.uv y Fq hfy];exact xL
 have jy:=hSv st.ak h.lb (λx hx=>⟨h.bo x hx,by
  obtain⟨y,hy,rfl⟩:=ZaO hx;have e1:bv st.ak y=st.ak[y]:=by simp[bv,List.getD,hy]
  have Fq:(y:Int)<nd:=by have:=h.lb;omega
  rw[<-e1];cases hf:st.bZ.getD y false with
  |true=>exact .inl (h.fv y Fq hf)
  |false=>rw[h.uv y Fq hf];exact .inr rfl⟩) aT
 refine Zbw (by have:=h.lb;have:=hS.len;omega) λy h1 h2=>?_;have Fq:(y:Int)<nd:=by have:=h.lb;omega
 have e1:bv st.ak y=st.ak[y]:=by simp[bv,List.getD,h1]
 have e2:bv S y=S[y]:=by simp[bv,List.getD,h2]
 rw[<-e1,<-e2];exact c8.uL (h.val y Fq) (jy y Fq)
end
end
end Kn
end cC
end Go.Proofs
