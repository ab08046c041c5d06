/- Part of the proof. Conditions: none. -/
import Derived.Test.YtnhpkhblghgpdaaGreatDoorXag
set_option linter.unusedSectionVars false
set_option linter.unusedSimpArgs false
set_option linter.unusedVariables false
set_option linter.defProp false
set_option maxRecDepth 20000
set_option maxHeartbeats 8000000
namespace Go.Proofs
namespace cC
open Go.DM
section
variable{f0 f:bq}
abbrev s56:DM.Spec:=cT (λts=>∃a b c d,ts=[.agg [ti a,ti b],.agg [ti c,ti d]]) (fun|[.agg [.int _ a,.int _ b],.agg [.int _ c,.int _ d]]=>.bool (decide ((⟨a,b⟩:c8).lt ⟨c,d⟩))|_=>.bool false) true
def ok56{l:List (Nat×DM.Spec)}(h:ay aj (bu l)):ay aj (bu ((84,s56)::l)):=by
 refine ay.cons h ?_;rintro ts ⟨a,b,c,d,rfl⟩;exact⟨t56 ⟨a,b⟩ ⟨c,d⟩,λ_=>rfl⟩
def U8{α:Type}{l:List α}{i:Nat}{a d:α}(h:l[i]? =some a):l.getD i d=a/\i<l.length:=by
 obtain⟨h1,h2⟩:=Zaw.1 h;exact⟨by simp[List.getD,h],h1⟩
def iO(p q N:Nat)(n:Nat):Nat:=if n=0 then p else if n=1 then q else N+n
def jK{p q N:Nat}(h:p<N)(k:q<N)(bT:p≠q)(x y:Nat)(e:iO p q N x=iO p q N y):x=y:=by
 unfold iO at e;split at e<;>split at e<;>(try split at e)<;>(try split at e)<;>omega
def t55{a N x y:Nat}{v:LV}(hN:∀r,N<=r->f0 r=none)(h:v.at f0 a)(hx:x<v.ak.length)(hy:y<v.ak.length):
  aR aj 83 [.v (ti x),.v (ti y),.ptr a 0] f0 ⟨True,.v (.bool (decide ((bv v.ak x).lt (bv v.ak y)))),f0⟩:=by
 obtain⟨R,hR⟩:=bb (decide ((bv v.ak x).lt (bv v.ak y)));rw[hR];have aC:=ok56 ay.nil;refine c55.pQ hN (by simp) λaT=>?_;obtain⟨sp,rb,cs,ak⟩:=v;obtain⟨h1,h2,h3,h4⟩:=h;simp only at h1 h2 h3 h4 hx hy;obtain⟨h5,h6⟩:=U8 (d:=DV.undef) h3;have r1:=dd hx;have r2:=dd hy;simp only[bv,Zag]at hR;obtain⟨⟨xc,xs⟩,ex⟩:=bb (ak.getD x default);obtain⟨⟨yc,ys⟩,ey⟩:=bb (ak.getD y default);simp only[ex,ey]at r1 r2 hR;have h7:cs[12]'h6=.bA rb 0:=by rw[Zas h6]at h3;exact ZbU h3
 simp;apply aa.ag aC fw [0,1,2];simp[d55r0];apply aa.ag aC fw [5];simp[d55r1,h1,h2,h6,h7,h4,hx,hy,r1,r2,Zba,hR];refine⟨h6, ?_⟩;apply aa.ret;simp[aag];rfl
def k55_ok:∀args ab,(k55 args ab).ok->(∀N,(∀r,N<=r->ab r=none)->aR aj 83 args ab (k55 args ab))/\∀r,ab r=none->(k55 args ab).ab r=none:=by
 intro args ab h;unfold k55 at h⊢;split at h
 ·rename_i x y a;obtain⟨⟨v,hv⟩,⟨x0,x1⟩,y0,y1⟩:=h;rw[Ng hv]at x1 y1⊢;obtain⟨x,rfl⟩:=Zae x0;obtain⟨y,rfl⟩:=Zae y0;exact⟨λN hN=>aR.of (t55 hN hv (by omega) (by omega)) rfl rfl,λr hr=>hr⟩
 ·exact h.elim
structure Qs where
 heap:List kh
 bD:Nat
 es:Pl
 mc:Nat
 (next clock:Int)
def qB(a hp m:Nat)(s:Qs):Ob:=.box [.nG (.func 83) [.ptr a 0],.bA hp s.bD,.iE m,.v (ti s.next),.v (ti s.clock)]
def hB(s:Qs):Ob:=.arr s.bD 220 3 (dF s.heap)
def mB(s:Qs):Ob:=.map [.int .i64] false s.mc (uO s.es)
structure QV where
 (a hp m:Nat)
 l:LV
 s:Qs
structure QV.at(v:QV)(f:bq)(q:Nat):Prop where
 q:f q=some (qB v.a v.hp v.m v.s)
 hp:f v.hp=some (hB v.s)
 m:f v.m=some (mB v.s)
 l:v.l.at f v.a
def QV.Cg{v w:QV}{q:Nat}(h:v.at f q)(k:w.at f q):v=w:=by
 obtain⟨a,hp,m,l,⟨heap,bD,es,mc,next,clock⟩⟩:=v;obtain⟨a',hp',m',l',⟨Yu,cg,m0,mc',next',clock'⟩⟩:=w;obtain⟨h1,h2,h3,h4⟩:=h;obtain⟨k1,k2,k3,k4⟩:=k;simp only at h1 h2 h3 h4 k1 k2 k3 k4;rw[h1]at k1;simp only[qB,Zaa,Ob.box.injEq,Za1,DV.nG.injEq,DV.ptr.injEq,DV.bA.injEq,DV.iE.injEq,DV.v.injEq,T.int.injEq,true_and,and_true]at k1;obtain⟨e1,⟨e2,e3⟩,e4,e5,e6⟩:=k1;subst e1 e2 e3 e4 e5 e6;rw[h2]at k2;simp only[hB,Zaa,Ob.arr.injEq,vI,true_and]at k2;rw[h3]at k3;simp only[mB,Zaa,Ob.map.injEq,JA,true_and]at k3;obtain⟨e7,e8⟩:=k3;have e9:=LV.Cg h4 k4;subst k2 e7 e8 e9;rfl
open Classical in
noncomputable def eK(f:bq)(q:Nat):QV:=if h:∃v:QV,v.at f q then Classical.choose h else⟨0,0,0,⟨0,0,[],[]⟩,⟨[],0,[],0,0,0⟩⟩
def eW{v:QV}{q:Nat}(h:v.at f q):eK f q=v:=by
 have hx:∃v:QV,v.at f q:=⟨v,h⟩;unfold eK;rw[ZcV hx];exact QV.Cg (Classical.choose_spec hx) h
def Qs.inR(s:Qs)(ak:bR):Prop:=∀e∈s.heap,0<=e.x/\e.x<ak.length
def iC(ak:bR)(a b:kh):Prop:=(bv ak a.x).lt (bv ak b.x)\/(¬(bv ak b.x).lt (bv ak a.x)/\a.t<b.t)
instance(ak:bR)(a b:kh):Decidable (iC ak a b):=by unfold iC;infer_instance
abbrev Qs.e(s:Qs)(i:Int):kh:=s.heap.getD i.toNat default
noncomputable def Qj:bB->bq->fI
 |[.ptr q 0,.v (.int .i64 i),.v (.int .i64 j)],f=>⟨(∃v:QV,v.at f q)/\(eK f q).s.inR (eK f q).l.ak/\(0<=i/\i<(eK f q).s.heap.length)/\(0<=j/\j<(eK f q).s.heap.length),.v (.bool (decide (iC (eK f q).l.ak ((eK f q).s.e i) ((eK f q).s.e j)))),f⟩
 |_,f=>⟨False,.undef,f⟩
def U9{v:QV}{q:Nat}{i j:Int}(h:v.at f q):Qj [.ptr q 0,.v (ti i),.v (ti j)] f=⟨v.s.inR v.l.ak/\(0<=i/\i<v.s.heap.length)/\(0<=j/\j<v.s.heap.length),.v (.bool (decide (iC v.l.ak (v.s.e i) (v.s.e j)))),f⟩:=by
 have hx:∃v:QV,v.at f q:=⟨v,h⟩;simp only[Qj,eW h,hx,true_and]
def ok55{l:List (Nat×DM.Spec)}(h:ay aj (bu l)):ay aj (bu ((83,eS k55)::l)):=ay.gS h k55_ok
def t117{q N i j:Nat}{v:QV}(hN:∀r,N<=r->f0 r=none)(h:v.at f0 q)(hr:v.s.inR v.l.ak)(hi:i<v.s.heap.length)(hj:j<v.s.heap.length):
  aR aj 150 [.ptr q 0,.v (ti i),.v (ti j)] f0 ⟨True,.v (.bool (decide (iC v.l.ak (v.s.e i) (v.s.e j)))),f0⟩:=by
 obtain⟨R,hR⟩:=bb (decide (iC v.l.ak (v.s.e i) (v.s.e j)));rw[hR];have aC:=ok55 ay.nil;refine c117.pQ hN (by simp) λaT=>?_;obtain⟨a,hp,m,l,⟨heap,bD,es,mc,next,clock⟩⟩:=v;obtain⟨h1,h2,h3,h4⟩:=h;simp only[qB,hB,mB]at h1 h2 h3 h4 hi hj hr;have NK:q<N:=(aT q _ h1).1;have nu:hp<N:=(aT hp _ h2).1;have haN:a<N:=(aT a _ h4.a).1;have hqp:q≠hp:=λe=>by rw[e,h2]at h1;cases h1
 have r1:=dG hi;have r2:=dG hj;have x1:=hr _ (bm hi);have x2:=hr _ (bm hj);simp only[Qs.e,Zag]at hR;obtain⟨⟨ax,ah,wW⟩,ex⟩:=bb (heap.getD i default);obtain⟨⟨bx,bh,bt⟩,ey⟩:=bb (heap.getD j default);simp only[ex,ey,kh.enc]at r1 r2 x1 x2 hR;have nq:∀k,q≠N+k:=λk=>by omega
 have np:∀k,hp≠N+k:=λk=>by omega
 simp;apply aa.ag aC fw [0,1,2];simp[Zz];apply aa.jR aC fw (rs:=c5 (iO q hp N) (eR OT [none,none,none,none,none,none,none,none,none,none,some [0],none,some [1],some [1],none,none,some [58],none])) (.inl rfl) ((dX (jK NK nu hqp) _ _ _).trans (by kernel_rfl)) [0,7,8];simp[OT,c5,fk,eR,iO,cP,bG,aN,h1,h2,hi,hj,r1,r2];refine aa.le (Le.dV (l1:=[]) (l:=[(0,.ptr q 0),(7,.v (.box [ti ax,ti ah,ti wW])),(8,.v (.box [ti bx,ti bh,ti bt]))]) (ba:=N+1000) aT ?_ ?_ ?_ ?_ ?_) ?_
 ·omega
 ·simp
 ·simp[bK];omega
 ·simp[dN]
 ·simp[h1,Nat.add_assoc];exact⟨bL (l:=[]) aT (by omega) (by simp),bL (l:=[]) aT (by omega) (by simp)⟩
 have hk:=λx y=>k55_eq (x:=x) (y:=y) h4;obtain⟨c1,bU⟩:=bb (decide ((bv l.ak ax).lt (bv l.ak bx)):Bool);obtain⟨c2,gI⟩:=bb (decide ((bv l.ak bx).lt (bv l.ak ax)):Bool);have e0:aM [] f0=f0:=rfl;rw[e0];apply aa.seq;apply aa.ag aC fw [0,7,8,31];simp[ZA,h1,hk,x1,x2,bU];refine aa.cond rfl (λg=>?_) (λg=>?_)
 ·have g:c1=true:=by simpa using g
  subst g;have:R=true:=by rw[<-hR];unfold iC;simp[Zat bU]
  subst this;apply aa.ag aC fw [6];simp[ZB];apply aa.ret;simp[Iz]
 ·have g:c1=false:=by simpa using g
  subst g;apply aa.skip;simp;refine aa.cz aC fw [(6,.v (.bool R))] ?_ ?_
  ·have zQ:(!c2&&decide (wW<bt))=R:=by
    rw[<-hR,<-gI];unfold iC;have:=Zay bU;by_cases z1:(bv l.ak bx).lt (bv l.ak ax)<;>by_cases z2:wW<bt<;>simp[this,z1,z2]
   cases c2
   ·simp[OU,h1,hk,x1,x2,gI]at zQ⊢;exact zQ
   ·simp[OU,h1,hk,x1,x2,gI]at zQ⊢;exact zQ
  apply aa.ret;simp[Iz]
def k117_ok:∀args ab,(Qj args ab).ok->(∀N,(∀r,N<=r->ab r=none)->aR aj 150 args ab (Qj args ab))/\∀r,ab r=none->(Qj args ab).ab r=none:=by
 intro args ab h;unfold Qj at h⊢;split at h
 ·rename_i q i j;obtain⟨⟨v,hv⟩,hr,⟨i0,i1⟩,j0,j1⟩:=h;rw[eW hv]at hr i1 j1⊢;obtain⟨i,rfl⟩:=Zae i0;obtain⟨j,rfl⟩:=Zae j0;exact⟨λN hN=>aR.of (t117 hN hv hr (by omega) (by omega)) rfl rfl,λr hr=>hr⟩
 ·exact h.elim
def ok117{l:List (Nat×DM.Spec)}(h:ay aj (bu l)):ay aj (bu ((150,eS Qj)::l)):=ay.gS h k117_ok
end
section
variable{f f0:bq}
def bH(f:bq)(q:Nat)(v:QV)(s:Qs):bq:=aM [(q,qB v.a v.hp v.m s),(v.hp,hB s),(v.m,mB s)] f
abbrev QV.to(v:QV)(s:Qs):QV:=⟨v.a,v.hp,v.m,v.l,s⟩
structure QV.Ne(v:QV)(q:Nat):Prop where
 qp:q≠v.hp
 qm:q≠v.m
 pm:v.hp≠v.m
 aq:v.a≠q
 ap:v.a≠v.hp
 am:v.a≠v.m
 sq:v.l.sp≠q
 sp:v.l.sp≠v.hp
 sm:v.l.sp≠v.m
 rq:v.l.rb≠q
 rp:v.l.rb≠v.hp
 rm:v.l.rb≠v.m
def QV.at.ne{v:QV}{q:Nat}(h:v.at f q):v.Ne q:=by
 obtain⟨h1,h2,h3,h4,h5,h6,h7⟩:=h;simp only[qB,hB,mB]at h1 h2 h3;have:=(U8 (d:=DV.undef) h6).2;refine⟨λe=>?_,λe=>?_,λe=>?_,λe=>?_,λe=>?_,λe=>?_,λe=>?_,λe=>?_,λe=>?_,λe=>?_,λe=>?_,λe=>?_⟩
 ·rw[e,h2]at h1;cases h1
 ·rw[e,h3]at h1;cases h1
 ·rw[e,h3]at h2;cases h2
 ·rw[e,h1]at h4;simp at h4
 ·rw[e,h2]at h4;cases h4
 ·rw[e,h3]at h4;cases h4
 ·rw[e,h1]at h5;simp only[Zaa,Ob.box.injEq]at h5;rw[<-h5]at this;simp at this
 ·rw[e,h2]at h5;cases h5
 ·rw[e,h3]at h5;cases h5
 ·rw[e,h1]at h7;cases h7
 ·rw[e,h2]at h7;simp at h7
 ·rw[e,h3]at h7;cases h7
def d7{v:QV}{q:Nat}(h:v.at f q)(s:Qs):(v.to s).at (bH f q v s) q:=by
 have n:=h.ne;obtain⟨h1,h2,h3,h4,h5,h6,h7⟩:=h;refine⟨by simp[bH],by simp[bH,Ne.symm n.qp],by simp[bH,Ne.symm n.qm,Ne.symm n.pm],⟨?_, ?_,h6, ?_⟩⟩
 ·simp[bH,n.aq,n.ap,n.am,h4]
 ·simp[bH,n.sq,n.sp,n.sm,h5]
 ·simp[bH,n.rq,n.rp,n.rm,h7]
def iY(f:bq)(q:Nat)(v:QV)(s s':Qs):bH (bH f q v s) q (v.to s) s'=bH f q v s':=by
 funext k;simp only[bH,aP,cm];by_cases h1:k=q<;>by_cases h2:k=v.hp<;>by_cases h3:k=v.m<;>simp[h1,h2,h3]
def gJ{v:QV}{q r:Nat}(h:v.at f q)(s:Qs)(hr:f r=none):bH f q v s r=none:=by
 have e1:r≠q:=λe=>by rw[e,h.q]at hr;cases hr
 have e2:r≠v.hp:=λe=>by rw[e,h.hp]at hr;cases hr
 have e3:r≠v.m:=λe=>by rw[e,h.m]at hr;cases hr
 simp[bH,e1,e2,e3,hr]
def rH{N aJ ba q:Nat}{tm:dw}{l:fA}{L:cV}{v:QV}(s:Qs)(aT:dh f0 N)(hv:v.at f0 q)(hn:N<=ba)(OB:v.s.bD<=s.bD)
  (hL:∀p∈L,p.1=q\/p.1=v.hp\/p.1=v.m\/N<=p.1) (h1:aM L f0 q=some (qB v.a v.hp v.m s)) (h2:aM L f0 v.hp=some (hB s)) (h3:aM L f0 v.m=some (mB s))
  (h4:aM L f0 v.a=f0 v.a)
  (ik:fR (aM L f0) (bH f0 q v s) id tm l):
  Le ⟨tm,aM L f0,aJ,N,[]⟩ ⟨DM.look l,bH f0 q v s,ba,N,[]⟩:=by
 have NK:q<N:=(aT q _ hv.q).1;have nu:v.hp<N:=(aT v.hp _ hv.hp).1;have BS:v.m<N:=(aT v.m _ hv.m).1;have n:=hv.ne;refine Le.dV aT hn ?_ ?_ ?_ ik
 ·simp;omega
 ·have:∀(L:cV),(∀p∈L,p.1=q\/p.1=v.hp\/p.1=v.m\/N<=p.1)->bK N [(q,qB v.a v.hp v.m s),(v.hp,hB s),(v.m,mB s)] L:=by
   intro L;induction L with
   |nil=>intro _;trivial
   |cons p L ih=>
    intro h;refine⟨λhq=>?_,ih λp hp=>h p (by simp[hp])⟩;rcases h p (by simp)with h|h|h|h
    ·exact⟨_,by rw[h];exact .head _⟩
    ·exact⟨_,by rw[h];exact .tail _ (.head _)⟩
    ·exact⟨_,by rw[h];exact .tail _ (.tail _ (.head _))⟩
    ·omega
  exact this _ hL
 ·refine⟨⟨_,h1,.inr ⟨rfl,λk hk=>?_⟩,λ_=>be _⟩,⟨_,h2,.inr ⟨rfl,λk hk=>by simp[aZ,hB]at hk⟩,λ_=>be _⟩,⟨_,h3,.inr ⟨rfl,λk hk=>?_⟩,λ_=>be _⟩,trivial⟩
  ·simp only[qB,aZ,bM,aN,ZaC,Zaq,Zah,Zal,or_false]at hk;rcases hk with rfl|rfl|rfl
   ·exact⟨_,_,h4.trans hv.l.a,by simp[n.aq,n.ap,n.am,hv.l.a],be _⟩
   ·exact⟨_,_,h2,by simp[Ne.symm n.qp],be _⟩
   ·exact⟨_,_,h3,by simp[Ne.symm n.qm,Ne.symm n.pm],be _⟩
  ·exfalso;simp only[mB,aZ,ZaV,uO,Zak]at hk;obtain⟨e,⟨e',_,rfl⟩,hk⟩:=hk;simp[aN]at hk
def Nw(l:Pl)(k:Int):sV l k=(l.map (·.2.1)).findIdx? (·==k):=by
 unfold sV;rw[List.findIdx?_map];rfl
def mW{l:Pl}{c:Nat}{k v:Int}{i:Nat}(h:sV l k=some i)(k':Int):sV (d8 l c k v) k'=sV l k':=by
 rw[Nw,Nw];unfold d8;rw[h];simp only;have h1:=lm (f:=λe:Nat×Int×Int=>e.2.1) (g:=λe=>(e.1,e.2.1,v)) (g':=id) (λ_=>rfl) l i;rw[Zdd]at h1;rw[<-h1]
def lj{l:Pl}{c:Nat}{k v:Int}{i:Nat}(h:sV l k=some i)(hk:pA l):pA (d8 l c k v):=by
 unfold d8 pA;rw[h];have h1:=lm (f:=λe:Nat×Int×Int=>e.1) (g:=λe=>(e.1,e.2.1,v)) (g':=id) (λ_=>rfl) l i;rw[Zdd]at h1;simp only;rw[<-h1];exact hk
def CW{l:Pl}{k:Int}{i:Nat}(h:sV l k=some i)(z:DV)(c:Nat):∃e,l[i]? =some e/\entV (ti k) z c (uO l)=.eo [.v (ti e.2.2),.v (ti e.1)]/\entE (ti k) z c (uO l)=uO l/\oR (ti k) c (uO l)=c:=by
 obtain⟨e,h1,h2,h3⟩:=zJ h;refine⟨e,h1, ?_, ?_, ?_⟩
 ·unfold entV;rw[Na,h3];rfl
 ·unfold entE;rw[zI,h]
 ·unfold oR;rw[zI,h]
def Qs.pO(s:Qs)(k:Int):Prop:=∃i,sV s.es k=some i
def Qs.swap(s:Qs)(i j:Int):Qs:=⟨(s.heap.set i.toNat (s.e j)).set j.toNat (s.e i),s.bD,d8 (d8 s.es s.mc (s.e j).h i) s.mc (s.e i).h j,s.mc,s.next,s.clock⟩
def Qs.dc(s:Qs)(i j:Int):Prop:=pA s.es/\(0<=i/\i<s.heap.length)/\(0<=j/\j<s.heap.length)/\s.pO (s.e i).h/\s.pO (s.e j).h
def t111{q N i j:Nat}{v:QV}(hN:∀r,N<=r->f0 r=none)(h:v.at f0 q)(hs:v.s.dc i j):
  aR aj 145 [.ptr q 0,.v (ti i),.v (ti j)] f0 ⟨True,.v (.eo []),bH f0 q v (v.s.swap i j)⟩:=by
 obtain⟨S,hS⟩:=bb (v.s.swap i j);rw[hS];have aC:=cF;have h0:=h;have n:=h.ne;refine c111.pQ hN (by simp) λaT=>?_;obtain⟨a,hp,m,l,⟨heap,bD,es,mc,next,clock⟩⟩:=v;obtain⟨h1,h2,h3,h4⟩:=h;obtain⟨s1,⟨_,s2⟩,⟨_,s3⟩,⟨i1,s4⟩,⟨i2,s5⟩⟩:=hs;simp only[qB,hB,mB,Qs.e,Zag]at h1 h2 h3 h4 s1 s2 s3 s4 s5;have hi:i<heap.length:=by omega
 have hj:j<heap.length:=by omega
 have NK:q<N:=(aT q _ h1).1;have nu:hp<N:=(aT hp _ h2).1;have BS:m<N:=(aT m _ h3).1;have r1:=dG hi;have r2:=dG hj;simp only[Qs.swap,Qs.e,Zag]at hS;obtain⟨ea,ex⟩:=bb (heap.getD i default);obtain⟨eb,ey⟩:=bb (heap.getD j default);simp only[ex,ey]at r1 r2 hS s4 s5;obtain⟨H,hH⟩:=bb ((heap.set i eb).set j ea);have hHl:H.length=heap.length:=by rw[<-hH];simp
 have pW:i<H.length:=by omega
 have hj':j<H.length:=by omega
 have r3:=dG pW;have r4:=dG hj';have e3:H.getD i default=eb:=by
  rw[<-hH];by_cases e:i=j
  ·subst e;rw[<-ex,<-ey];simp[List.getD,hi]
  ·have:j≠i:=λq=>e q.symm;simp[List.getD,this,hi]
 have e4:H.getD j default=ea:=by rw[<-hH];simp[List.getD,hj]
 rw[e3]at r3;rw[e4]at r4;have Dm:((dF heap).set i eb.enc).set j ea.enc=dF H:=by rw[<-hH,lg,lg]
 obtain⟨x1,y1,z1,z2,z3⟩:=CW s5 (.v (ti 0)) mc;obtain⟨E1,hE1⟩:=bb (d8 es mc eb.h i);have b1:=zz (v:=(i:Int)) s1 s5 y1 mc;rw[hE1]at b1 hS;have s6:sV E1 ea.h=some i1:=by rw[<-hE1,mW s5];exact s4
 have s7:pA E1:=by rw[<-hE1];exact lj s5 s1
 obtain⟨x2,y2,z4,z5,z6⟩:=CW s6 (.v (ti 0)) mc;have b2:=zz (v:=(j:Int)) s7 s6 y2 mc;obtain⟨E2,Jk⟩:=bb (d8 E1 mc ea.h j);rw[Jk]at b2 hS;rw[hH]at hS;obtain⟨ax,ah,wW⟩:=ea;obtain⟨bx,bh,bt⟩:=eb;simp only[kh.enc]at r1 r2 r3 r4 Dm z1 z2 z3 z4 z5 z6;simp;apply aa.ag aC fw [0,1,2];have hd:List.drop 3 (DM.rowAt ((dF heap).set i [ti bx,ti bh,ti bt]) (j:Int))=[]:=by
  rw[show(dF heap).set i [ti bx,ti bh,ti bt]=dF (heap.set i ⟨bx,bh,bt⟩)from(lg heap i ⟨bx,bh,bt⟩).symm,dG (by simpa using hj)];rfl
 simp[ZC,h1,h2,hi,hj,r1,r2,hd,Dm];obtain⟨V,hV⟩:=bb ((⟨a,hp,m,l,⟨heap,bD,es,mc,next,clock⟩⟩:QV):QV);have wq:V.a=a/\V.hp=hp/\V.m=m/\V.l=l:=by rw[<-hV];exact⟨rfl,rfl,rfl,rfl⟩
 obtain⟨S1,tF⟩:=bb ((⟨H,bD,es,mc,next,clock⟩:Qs):Qs);rw[hV]at h0 n⊢;have n2:=n;obtain⟨n1,F8,n3,n4,n5,n6,n7,n8,n9,n10,n11,n12⟩:=n;rw[wq.2.1]at n1 n3 n5;rw[wq.2.2.1]at F8 n3 n6;rw[wq.1]at n4 n5 n6;refine aa.le (rH (v:=V) S1 (l:=[(0,.ptr q 0),(1,.v (ti i)),(2,.v (ti j))]) (ba:=N+100) aT h0 (by omega) (by rw[<-hV,<-tF];exact Zaf _) ?_ ?_ ?_ ?_ ?_ ?_) ?_
 ·simp[wq]
 ·rw[wq.1,wq.2.1,wq.2.2.1,<-tF];simp[n1,h1,qB]
 ·rw[wq.2.1,<-tF];simp[hB]
 ·rw[wq.2.2.1,<-tF];simp[mB,Ne.symm n3,h3]
 ·rw[wq.1];simp[n5]
 ·simp[bH,qB]
 obtain⟨G,hG⟩:=bb (bH f0 q V S);rw[hG];simp only[bH,wq,<-tF,qB,hB,mB];have Hi:=Ne.symm n1;have Ka:=Ne.symm n3;have n22':=Ne.symm F8;refine aa.to ⟨DM.look [],bH f0 q V S,N+1000,N,[]⟩ ?_ (by simp[Rc,hG]);apply aa.fK aC fw [];simp[ZD,pW,hj',r3,r4,Hi,Ka,n22',z1,z2,z3,z4,z5,z6,b1,b2];refine rH S (l:=[]) (ba:=N+1000) aT h0 (by omega) (by rw[<-hV,<-hS];exact Zaf _) ?_ ?_ ?_ ?_ ?_ ?_
 ·simp[wq]
 ·rw[wq.1,wq.2.1,wq.2.2.1,<-hS];simp[F8,qB]
 ·rw[wq.2.1,<-hS];simp[n3,Hi,hB]
 ·rw[wq.2.2.1,<-hS];simp[mB]
 ·rw[wq.1];simp[n4,n5,n6]
 ·simp
end
section
variable{f f0:bq}{ak:bR}
noncomputable def Qm:bB->bq->fI
 |[.ptr q 0,.v (.int .i64 i),.v (.int .i64 j)],f=>⟨(∃v:QV,v.at f q)/\(eK f q).s.dc i j,.v (.eo []),bH f q (eK f q) ((eK f q).s.swap i j)⟩
 |_,f=>⟨False,.undef,f⟩
def JZ{v:QV}{q:Nat}{i j:Int}(h:v.at f q):Qm [.ptr q 0,.v (ti i),.v (ti j)] f=⟨v.s.dc i j,.v (.eo []),bH f q v (v.s.swap i j)⟩:=by
 have hx:∃v:QV,v.at f q:=⟨v,h⟩;simp only[Qm,eW h,hx,true_and]
def k111_ok:∀args ab,(Qm args ab).ok->(∀N,(∀r,N<=r->ab r=none)->aR aj 145 args ab (Qm args ab))/\∀r,ab r=none->(Qm args ab).ab r=none:=by
 intro args ab h;unfold Qm at h⊢;split at h
 ·rename_i q i j;obtain⟨⟨v,hv⟩,hs⟩:=h;rw[eW hv]at hs⊢;have hs':=hs;obtain⟨_,⟨i0,_⟩,⟨j0,_⟩,_⟩:=hs';obtain⟨i,rfl⟩:=Zae i0;obtain⟨j,rfl⟩:=Zae j0;exact⟨λN hN=>aR.of (t111 hN hv hs) rfl rfl,λr hr=>gJ hv _ hr⟩
 ·exact h.elim
def ok111{l:List (Nat×DM.Spec)}(h:ay aj (bu l)):ay aj (bu ((145,eS Qm)::l)):=ay.gS h k111_ok
structure Qs.ok(s:Qs)(ak:bR):Prop where
 pl:pA s.es
 st:∀e∈s.es,e.1<s.mc
 pO:∀e∈s.heap,s.pO e.h
 r:s.inR ak
def Qs.nC{s:Qs}{i j:Int}(hi:i.toNat<s.heap.length)(hj:j.toNat<s.heap.length){e:kh}(h:e∈(s.swap i j).heap):e∈s.heap:=by
 rcases ZaS h with h|rfl
 ·rcases ZaS h with h|rfl
  ·exact h
  ·exact bm hj
 ·exact bm hi
def Qs.ok.dc{s:Qs}(h:s.ok ak){i j:Int}(hi:0<=i/\i<s.heap.length)(hj:0<=j/\j<s.heap.length):s.dc i j:=
 ⟨h.pl,hi,hj,h.pO _ (bm (by omega)),h.pO _ (bm (by omega))⟩
def Qs.ok.swap{s:Qs}(h:s.ok ak){i j:Int}(hi:0<=i/\i<s.heap.length)(hj:0<=j/\j<s.heap.length):(s.swap i j).ok ak:=by
 obtain⟨_,_,_,⟨i1,s4⟩,⟨i2,s5⟩⟩:=h.dc hi hj;have s6:sV (d8 s.es s.mc (s.e j).h i) (s.e i).h=some i1:=by rw[mW s5];exact s4
 have hst:∀{l:Pl} {c:Nat} {k v:Int} {i:Nat},sV l k=some i->pA l->(∀e∈l,e.1<c)->∀e∈d8 l c k v,e.1<c:=by
  intro l c k v i hk hl hc e he;have:=(zA (k:=k) (v:=v) hl hc).2 e he;unfold wr at this;rw[hk]at this;exact this
 refine⟨lj s6 (lj s5 h.pl),hst s6 (lj s5 h.pl) (hst s5 h.pl h.st),λe he=>?_,λe he=>h.r e (Qs.nC (by omega) (by omega) he)⟩;obtain⟨k,hk⟩:=h.pO e (Qs.nC (by omega) (by omega) he);exact⟨k,by show sV (d8 _ _ _ _) _=_;rw[mW s6,mW s5];exact hk⟩
@[simp] def Qs.dI(s:Qs)(i j:Int):(s.swap i j).heap.length=s.heap.length:=by simp[Qs.swap]
@[simp] def Qs.swap_ver(s:Qs)(i j:Int):(s.swap i j).bD=s.bD:=rfl
def tQ(ak:bR)(i:Nat)(s:Qs):Qs:=
 if h:0<i/\iC ak (s.e i) (s.e ((i-1)/2:Nat))then tQ ak ((i-1)/2) (s.swap i ((i-1)/2:Nat))else s
termination_by i
decreasing_by omega
def rJ{N aJ ba q:Nat}{tm:dw}{l:fA}{v:QV}(s:Qs)(aT:dh f0 N)(hv:v.at f0 q)(hn:N<=ba)(OB:v.s.bD<=s.bD)
  (ik:fR (bH f0 q v s) (bH f0 q v s) id tm l):
  Le ⟨tm,bH f0 q v s,aJ,N,[]⟩ ⟨DM.look l,bH f0 q v s,ba,N,[]⟩:=by
 have k:=d7 hv s;have n:=hv.ne;refine rH s aT hv hn OB ?_ k.q k.hp k.m ?_ ik
 ·simp
 ·simp[n.aq,n.ap,n.am]
def t109{q N i:Nat}{v:QV}(hN:∀r,N<=r->f0 r=none)(h:v.at f0 q)(hs:v.s.ok v.l.ak)(hi:i<v.s.heap.length)(dM:v.s.heap.length<=1000000):
  aR aj 142 [.ptr q 0,.v (ti i)] f0 ⟨True,.v (.eo []),bH f0 q v (tQ v.l.ak i v.s)⟩:=by
 obtain⟨R,hR⟩:=bb (tQ v.l.ak i v.s);rw[hR];have aC:=ok117 (ok111 ay.nil);refine c109.pQ hN (by simp) λaT=>?_;have en:∀s,bH f0 q v s q=some (qB v.a v.hp v.m s):=λs=>(d7 h s).q;simp;apply aa.block;refine aa.loop (λp:Nat×Qs=>⟨DM.look [(0,.ptr q 0),(1,.v (ti p.1))],bH f0 q v p.2,N+1000,N,[]⟩)
  (λp=>p.1<p.2.heap.length/\p.2.ok v.l.ak/\tQ v.l.ak p.1 p.2=R/\p.2.heap.length<=1000000/\p.2.bD=v.s.bD) (λp=>p.1) (i,v.s) ?_ ⟨hi,hs,hR,dM,rfl⟩ (λp hp=>?_)
 ·refine rH v.s (L:=[]) aT h (by omega) (Zaf _) (by simp) h.q h.hp h.m rfl ?_;simp[en,qB]
 obtain⟨i,s⟩:=p;obtain⟨p1,p2,p3,p4,p5⟩:=hp;simp only at p1 p2 p3 p4 p5;have hv:=d7 h s;have k1:=λx y=>U9 (i:=x) (j:=y) hv;have k2:=λx y=>JZ (i:=x) (j:=y) hv;have e0:∀s',bH (bH f0 q v s) q (v.to s) s'=bH f0 q v s':=iY f0 q v s;simp only[QV.to,Qs.e]at k1 k2;unfold tQ at p3;by_cases hz:i=0
 ·subst hz;rw[ZcT (by omega)]at p3;subst p3;apply aa.seq;apply aa.cX aC fw (rs:=yN) rfl (by kernel_rfl) [13];simp[yN];refine aa.cond rfl (λg=>by cases g) (λg=>?_);apply aa.exit;simp[IB]
 ·have w1:IntKind.i64.wrap ((i:Int)-1)=((i-1:Nat):Int):=by rw[aF (by omega)];omega
  have w2:IntKind.i64.wrap (((i-1:Nat):Int).tdiv 2)=(((i-1)/2:Nat):Int):=by rw[DP (by omega),aF (by omega)];omega
  have w3:IntKind.i64.wrap (((i-1:Nat):Int)/2)=(((i-1)/2:Nat):Int):=by rw[aF (by omega)];omega
  obtain⟨c1,bU⟩:=bb (decide (iC v.l.ak (s.e i) (s.e ((i-1)/2:Nat))):Bool);have gI:=bU;simp only[Qs.e,Zag]at gI;have hz':0<i:=by omega
  have ym:(i-1)/2<s.heap.length:=by omega
  apply aa.seq;apply aa.cX aC fw (rs:=yN) rfl (by kernel_rfl) [0,1,13];obtain⟨y,hy⟩:=bb ((i-1)/2);rw[hy]at w2 w3 bU gI ym p3;simp[yN,w1,w3,k1,hz',ym,p1,p2.r];refine aa.cond rfl (λg=>?_) (λg=>?_)
  ·have g:c1=true:=by rw[<-bU];simpa [Qs.e,p1,ym]using g
   subst g;rw[ZcV ⟨hz',Zat bU⟩]at p3;have so:=p2.dc (i:=i) (j:=y) ⟨by omega,by omega⟩ ⟨by omega,by omega⟩;have so2:=p2.swap (i:=i) (j:=y) ⟨by omega,by omega⟩ ⟨by omega,by omega⟩;apply aa.skip;simp;apply aa.block;apply aa.cX aC fw (rs:=IA) rfl (by kernel_rfl) [0,1];simp[IA,w1,w3,k2,so,e0];apply aa.fK aC fw [0,1];simp[ZE,w1,w3];refine⟨y,s.swap i y,rJ _ aT h (by omega) (by simp[p5]) ?_,⟨by simpa using ym,so2,p3,by simpa using p4,by simpa using p5⟩,by omega⟩;simp[en,qB]
  ·have g:c1=false:=by rw[<-bU];simpa [Qs.e,p1,ym]using g
   subst g;rw[ZcT λx=>Zay bU x.2]at p3;subst p3;apply aa.exit;simp[IB]
noncomputable def Qn:bB->bq->fI
 |[.ptr q 0,.v (.int .i64 i)],f=>⟨(∃v:QV,v.at f q)/\(eK f q).s.ok (eK f q).l.ak/\(0<=i/\i<(eK f q).s.heap.length)/\(eK f q).s.heap.length<=1000000,.v (.eo []),bH f q (eK f q) (tQ (eK f q).l.ak i.toNat (eK f q).s)⟩
 |_,f=>⟨False,.undef,f⟩
def U2{v:QV}{q:Nat}{i:Int}(h:v.at f q):Qn [.ptr q 0,.v (ti i)] f=⟨v.s.ok v.l.ak/\(0<=i/\i<v.s.heap.length)/\v.s.heap.length<=1000000,.v (.eo []),bH f q v (tQ v.l.ak i.toNat v.s)⟩:=by
 have hx:∃v:QV,v.at f q:=⟨v,h⟩;simp only[Qn,eW h,hx,true_and]
def k109_ok:∀args ab,(Qn args ab).ok->(∀N,(∀r,N<=r->ab r=none)->aR aj 142 args ab (Qn args ab))/\∀r,ab r=none->(Qn args ab).ab r=none:=by
 intro args ab h;unfold Qn at h⊢;split at h
 ·rename_i q i;obtain⟨⟨v,hv⟩,hs,⟨i0,i1⟩,hl⟩:=h;rw[eW hv]at hs i1 hl⊢;obtain⟨i,rfl⟩:=Zae i0;exact⟨λN hN=>aR.of (t109 hN hv hs (by omega) hl) rfl rfl,λr hr=>gJ hv _ hr⟩
 ·exact h.elim
def ok109{l:List (Nat×DM.Spec)}(h:ay aj (bu l)):ay aj (bu ((142,eS Qn)::l)):=ay.gS h k109_ok
end
def tR(ak:bR)(s:Qs)(i:Nat):Nat->Nat
 |0=>i
 |t+1=>if iC ak (s.e (2*i+1+t:Nat)) (s.e (tR ak s i t))then 2*i+1+t else tR ak s i t
def kg(s:Qs)(i:Nat):Nat:=min 2 (s.heap.length-(2*i+1))
def dt(ak:bR)(s:Qs)(i:Nat):Nat:=tR ak s i (kg s i)
def sX(ak:bR)(s:Qs)(i:Nat):∀t,tR ak s i t=i\/(2*i+1<=tR ak s i t/\tR ak s i t<2*i+1+t)
 |0=>.inl rfl
 |t+1=>by
  have:=sX ak s i t;unfold tR;split<;>omega
def gZ(ak:bR)(s:Qs)(i:Nat):dt ak s i=i\/(i<dt ak s i/\dt ak s i<s.heap.length):=by
 have:=sX ak s i (kg s i);unfold dt;unfold kg at*
 omega
def fm(ak:bR)(i:Nat)(s:Qs):Qs:=
 if h:dt ak s i=i then s else fm ak (dt ak s i) (s.swap i (dt ak s i:Nat))
termination_by s.heap.length-i
decreasing_by
 have:=gZ ak s i;simp only[Qs.dI];omega
def t110{f0:bq}{q N i:Nat}{v:QV}(hN:∀r,N<=r->f0 r=none)(h:v.at f0 q)(hs:v.s.ok v.l.ak)(hi:i<=1000000)(dM:v.s.heap.length<=1000000):
  aR aj 143 [.ptr q 0,.v (ti i)] f0 ⟨True,.v (.eo []),bH f0 q v (fm v.l.ak i v.s)⟩:=by
 obtain⟨R,hR⟩:=bb (fm v.l.ak i v.s);rw[hR];have aC:=ok117 (ok111 ay.nil);refine c110.pQ hN (by simp) λaT=>?_;have en:∀s,bH f0 q v s q=some (qB v.a v.hp v.m s):=λs=>(d7 h s).q;simp;apply aa.block;refine aa.loop (λp:Nat×Qs=>⟨DM.look [(0,.ptr q 0),(1,.v (ti p.1))],bH f0 q v p.2,N+1000,N,[]⟩)
  (λp=>p.1<=1000000/\p.2.ok v.l.ak/\fm v.l.ak p.1 p.2=R/\p.2.heap.length<=1000000/\p.2.bD=v.s.bD) (λp=>p.2.heap.length-p.1) (i,v.s) ?_ ⟨hi,hs,hR,dM,rfl⟩ (λp hp=>?_)
 ·refine rH v.s (L:=[]) aT h (by omega) (Zaf _) (by simp) h.q h.hp h.m rfl ?_;simp[en,qB]
 obtain⟨i,s⟩:=p;obtain⟨p1,p2,p3,p4,p5⟩:=hp;simp only at p1 p2 p3 p4 p5;have hv:=d7 h s;have k1:=λx y=>U9 (i:=x) (j:=y) hv;have k2:=λx y=>JZ (i:=x) (j:=y) hv;have e0:∀s',bH (bH f0 q v s) q (v.to s) s'=bH f0 q v s':=iY f0 q v s;have hq:=hv.q;have hh:=hv.hp;simp only[QV.to,Qs.e,qB,hB]at k1 k2 hq hh;have w1:IntKind.i64.wrap (2*(i:Int))=2*(i:Int):=aF (by omega);have w2:IntKind.i64.wrap (2*(i:Int)+1)=2*(i:Int)+1:=aF (by omega);have w3:IntKind.i64.wrap (2*(i:Int)+2)=2*(i:Int)+2:=aF (by omega);apply aa.block;apply aa.ag aC fw [0,1,4];simp[ZF];apply aa.seq;apply aa.ag aC fw [0,1,4,5];simp[ZG,w1,w2];apply aa.block;refine aa.loop (λt:Nat=>⟨DM.look [(0,.ptr q 0),(1,.v (ti i)),(4,.v (ti (tR v.l.ak s i t))),(5,.v (ti (2*i+1+t:Nat)))],bH f0 q v s,N+2000,N,[]⟩)
  (λt=>t<=kg s i) (λt=>2-t) 0 (rJ _ aT h (by omega) (by simp[p5]) ?_) (by omega) (λt ht=>?_)
 ·simp[en,qB,tR]
 have hkid:kg s i<=2/\(kg s i<=s.heap.length-(2*i+1))/\(kg s i=2\/kg s i=s.heap.length-(2*i+1)):=by unfold kg;omega
 obtain⟨L,hL⟩:=bb (tR v.l.ak s i t);have hLo:=sX v.l.ak s i t;rw[hL]at hLo⊢;obtain⟨K,hK⟩:=bb (2*i+1+t);rw[hK]at hLo⊢;obtain⟨c1,bU⟩:=bb (decide (t<kg s i):Bool);apply aa.seq;refine aa.cz aC fw [(0,.ptr q 0),(1,.v (ti i)),(4,.v (ti L)),(5,.v (ti K)),(23,.v (.bool c1))] ?_ ?_
 ·by_cases z1:t<2
  ·have z2:(K:Int)<=2*(i:Int)+2:=by omega
   by_cases z3:K<s.heap.length
   ·have:c1=true:=by rw[<-bU];simp;omega
    simp[IC,w1,w3,hq,hh,z2,z3,this]
   ·have:c1=false:=by rw[<-bU];simp;omega
    simp[IC,w1,w3,hq,hh,z2,z3,this]
  ·have z2:¬(K:Int)<=2*(i:Int)+2:=by omega
   have:c1=false:=by rw[<-bU];simp;omega
   simp[IC,w1,w3,z2,this]
 refine aa.cond rfl (λg=>?_) (λg=>?_)
 ·have g:c1=true:=by simpa using g
  subst g;have ht2:t<kg s i:=Zat bU;have hKl:K<s.heap.length:=by omega
  have Xq:L<s.heap.length:=by omega
  have wK:IntKind.i64.wrap ((K:Int)+1)=((2*i+1+(t+1):Nat):Int):=by rw[aF (by omega)];omega
  have nU:tR v.l.ak s i (t+1)=if iC v.l.ak (s.e K) (s.e L)then K else L:=by
   have:tR v.l.ak s i (t+1)=if iC v.l.ak (s.e (2*i+1+t:Nat)) (s.e (tR v.l.ak s i t))then 2*i+1+t else tR v.l.ak s i t:=rfl
   rw[this,hK,hL]
  apply aa.skip;simp;apply aa.seq;apply aa.block;apply aa.cX aC fw (rs:=ID) rfl (by kernel_rfl) [0,1,4,5,29];simp[ID,k1,p2.r,hKl,Xq];obtain⟨c2,gI⟩:=bb (decide (iC v.l.ak (s.e K) (s.e L)):Bool);refine aa.to ⟨DM.look [(0,.ptr q 0),(1,.v (ti i)),(4,.v (ti (tR v.l.ak s i (t+1)))),(5,.v (ti K))],bH f0 q v s,N+4000,N,[]⟩ ?_ ?_
  ·refine aa.cond rfl (λg=>?_) (λg=>?_)
   ·have g:iC v.l.ak (s.e K) (s.e L):=by simpa [Qs.e,hKl,Xq]using g
    rw[Zai g]at nU;apply aa.fK aC fw [0,1,4,5];simp[ZH];refine rJ _ aT h (by omega) (by simp[p5]) ?_;simp[en,qB,nU]
   ·have g:¬iC v.l.ak (s.e K) (s.e L):=by simpa [Qs.e,hKl,Xq]using g
    rw[Zab g]at nU;apply aa.skip;simp;refine rJ _ aT h (by omega) (by simp[p5]) ?_;simp[en,qB,nU]
  simp;apply aa.fK aC fw [0,1,4,5];simp[ZI,wK];refine⟨t+1,rJ _ aT h (by omega) (by simp[p5]) ?_,by omega,by omega⟩;simp[en,qB]
 ·have g:c1=false:=by simpa using g
  subst g;have ht2:t=kg s i:=by have:=Zay bU;omega
  have hLs:dt v.l.ak s i=L:=by rw[<-hL,ht2];rfl
  unfold fm at p3;rw[hLs]at p3;apply aa.exit;simp;apply aa.seq;apply aa.ag aC fw [0,1,4,33];simp[ZJ];refine aa.cond rfl (λg=>?_) (λg=>?_)
  ·have g:L=i:=by simp at g;omega
   rw[ZcV g]at p3;subst p3;apply aa.ret;simp[Rd]
  ·have g:¬L=i:=by simp at g;omega
   rw[ZcT g]at p3;have Xq:i<L/\L<s.heap.length:=by have:=gZ v.l.ak s i;omega
   have so:=p2.dc (i:=i) (j:=L) ⟨by omega,by omega⟩ ⟨by omega,by omega⟩;have so2:=p2.swap (i:=i) (j:=L) ⟨by omega,by omega⟩ ⟨by omega,by omega⟩;apply aa.skip;simp;apply aa.cX aC fw (rs:=IE) rfl (by kernel_rfl) [0,4];simp[IE,k2,so,e0];apply aa.fK aC fw [0,1];simp[ZK];refine⟨L,s.swap i L,rJ _ aT h (by omega) (by simp[p5]) ?_,⟨by omega,so2,p3,by simpa using p4,by simpa using p5⟩,by simp;omega⟩;simp[en,qB]
noncomputable def Qo:bB->bq->fI
 |[.ptr q 0,.v (.int .i64 i)],f=>⟨(∃v:QV,v.at f q)/\(eK f q).s.ok (eK f q).l.ak/\(0<=i/\i<=1000000)/\(eK f q).s.heap.length<=1000000,.v (.eo []),bH f q (eK f q) (fm (eK f q).l.ak i.toNat (eK f q).s)⟩
 |_,f=>⟨False,.undef,f⟩
def U3{v:QV}{f:bq}{q:Nat}{i:Int}(h:v.at f q):Qo [.ptr q 0,.v (ti i)] f=⟨v.s.ok v.l.ak/\(0<=i/\i<=1000000)/\v.s.heap.length<=1000000,.v (.eo []),bH f q v (fm v.l.ak i.toNat v.s)⟩:=by
 have hx:∃v:QV,v.at f q:=⟨v,h⟩;simp only[Qo,eW h,hx,true_and]
def k110_ok:∀args ab,(Qo args ab).ok->(∀N,(∀r,N<=r->ab r=none)->aR aj 143 args ab (Qo args ab))/\∀r,ab r=none->(Qo args ab).ab r=none:=by
 intro args ab h;unfold Qo at h⊢;split at h
 ·rename_i q i;obtain⟨⟨v,hv⟩,hs,⟨i0,i1⟩,hl⟩:=h;rw[eW hv]at hs hl⊢;obtain⟨i,rfl⟩:=Zae i0;exact⟨λN hN=>aR.of (t110 hN hv hs (by omega) hl) rfl rfl,λr hr=>gJ hv _ hr⟩
 ·exact h.elim
def ok110{l:List (Nat×DM.Spec)}(h:ay aj (bu l)):ay aj (bu ((143,eS Qo)::l)):=ay.gS h k110_ok
def fM(s:Qs)(x:Int):Qs:=⟨s.heap++[⟨x,s.next,s.clock⟩],s.bD+1,d8 s.es s.mc s.next s.heap.length,wr s.es s.mc s.next,s.next+1,s.clock+1⟩
def gX(ak:bR)(s:Qs)(x:Int):Qs:=tQ ak s.heap.length (fM s x)
def vW{α:Type}{p:α->Bool}{a b:List α}{i:Nat}(h:a.findIdx? p=some i):(a++b).findIdx? p=some i:=by
 rw[List.findIdx?_append,h];rfl
def BV{l:Pl}{c:Nat}{k v k':Int}{i:Nat}(h:sV l k'=some i):sV (d8 l c k v) k'=some i:=by
 cases hk:sV l k with
 |some j=>rw[mW hk];exact h
 |none=>
  unfold d8;rw[hk];exact vW h
def BW(l:Pl)(c:Nat)(k v:Int):∃i,sV (d8 l c k v) k=some i:=by
 cases hk:sV l k with
 |some j=>exact⟨j,by rw[mW hk];exact hk⟩
 |none=>
  unfold d8;rw[hk];unfold sV at hk⊢;rw[List.findIdx?_append,hk];exact⟨_,by simp;rfl⟩
def uS{s:Qs}{ak:bR}{x:Int}(h:s.ok ak)(hx:0<=x/\x<ak.length):(fM s x).ok ak:=by
 obtain⟨h1,h2⟩:=zA (k:=s.next) (v:=s.heap.length) h.pl h.st;refine⟨h1,h2,λe he=>?_,λe he=>?_⟩
 ·rcases Zaq.1 he with he|he
  ·obtain⟨i,hi⟩:=h.pO e he;exact⟨i,BV hi⟩
  ·simp at he;subst he;exact BW _ _ _ _
 ·rcases Zaq.1 he with he|he
  ·exact h.r e he
  ·simp at he;subst he;exact hx
def xm(s:Qs)(ak:bR)(x:Int):Prop:=s.ok ak/\(0<=x/\x<ak.length)/\s.heap.length<=100000/\(0<=s.next/\s.next<=1000000000000)/\(0<=s.clock/\s.clock<=1000000000000)
def t82{f0:bq}{q N:Nat}{x:Int}{v:QV}(hN:∀r,N<=r->f0 r=none)(h:v.at f0 q)(hs:xm v.s v.l.ak x):
  aR aj 121 [.ptr q 0,.v (ti x)] f0 ⟨True,.v (ti v.s.next),bH f0 q v (gX v.l.ak v.s x)⟩:=by
 obtain⟨ho,hx,h5,h6,h7⟩:=hs;have nH:=uS ho hx;obtain⟨R,hR⟩:=bb (gX v.l.ak v.s x);rw[hR];unfold gX at hR;obtain⟨S,hS⟩:=bb (fM v.s x);rw[hS]at hR nH;have aC:=ok109 ay.nil;refine c82.pQ hN (by simp) λaT=>?_;have en:∀s,bH f0 q v s q=some (qB v.a v.hp v.m s):=λs=>(d7 h s).q;obtain⟨n1,n2,n3,n4,n5,n6,_,_,_,_,_,_⟩:=h.ne;have Hi:=Ne.symm n1;have F8:=Ne.symm n2;have Ka:=Ne.symm n3;have h1:=h.q;have h2:=h.hp;have h3:=h.m;simp only[qB,hB,mB]at h1 h2 h3;obtain⟨nx,Dx⟩:=bb v.s.next;obtain⟨ck,Cy⟩:=bb v.s.clock;obtain⟨hp,lU⟩:=bb v.hp;obtain⟨m,hm⟩:=bb v.m;obtain⟨bD,hve⟩:=bb v.s.bD;have hSd:S=⟨v.s.heap++[⟨x,nx,ck⟩],bD+1,d8 v.s.es v.s.mc nx v.s.heap.length,wr v.s.es v.s.mc nx,nx+1,ck+1⟩:=by rw[<-hS,<-Dx,<-Cy,<-hve];rfl
 rw[Dx,Cy,lU,hve]at h1;rw[hm]at h1 h3;rw[lU,hve]at h2;rw[Dx]at h6;rw[Cy]at h7;rw[lU]at n1 n3 n5 Hi Ka;rw[hm]at n2 n3 n6 F8 Ka;rw[Dx];have w1:IntKind.i64.wrap (nx+1)=nx+1:=aF (by omega);have w2:IntKind.i64.wrap (ck+1)=ck+1:=aF (by omega);have hroom:dK 24 (v.s.heap.length+1):=by simp[dK];omega
 simp;apply aa.ag aC fw [0,1];simp[d82r0];apply aa.ag aC fw [0,1,5,6];simp[d82r1,h1,h2];apply aa.ag aC fw [0,5,6];have hch:fU 3 1 [ti x,ti nx,ti ck]=[[ti x,ti nx,ti ck]]:=rfl;simp[d82r2,h1,h2,n1,hch,hroom];apply aa.ag aC fw [0,5,6];simp[d82r3,h3,F8,Ka,MS,FK];apply aa.ag aC fw [0,5,6];simp[d82r4,w1,w2,n2];refine aa.le (rH (v:=v) S (l:=[(0,.ptr q 0),(5,.v (ti nx)),(6,.v (ti v.s.heap.length))]) (ba:=N+2000) aT h (by omega) (by rw[hve,hSd];simp) ?_ ?_ ?_ ?_ ?_ ?_) ?_
 ·rw[lU,hm];simp
 ·rw[lU,hm,hSd];simp[qB]
 ·rw[lU,hSd];simp[Hi,n3,hB,sS];rfl
 ·rw[hm,hSd];simp[F8,mB]
 ·simp[n4,n5,n6]
 ·simp[en,qB]
 have k1:=λy=>U2 (i:=y) (d7 h S);have hl:S.heap.length=v.s.heap.length+1:=by rw[hSd];simp
 have e0:∀s',bH (bH f0 q v S) q (v.to S) s'=bH f0 q v s':=iY f0 q v S;simp only[QV.to]at k1 e0;apply aa.cX aC fw (rs:=OV) rfl (by kernel_rfl) [5];simp[OV,k1,nH,hl,e0,hR];refine⟨by omega, ?_⟩;apply aa.ag aC fw [4];simp[d82r6];apply aa.ret;simp[ZL]
noncomputable def k82:bB->bq->fI
 |[.ptr q 0,.v (.int .i64 x)],f=>⟨(∃v:QV,v.at f q)/\xm (eK f q).s (eK f q).l.ak x,.v (ti (eK f q).s.next),bH f q (eK f q) (gX (eK f q).l.ak (eK f q).s x)⟩
 |_,f=>⟨False,.undef,f⟩
def k82_eq{v:QV}{f:bq}{q:Nat}{x:Int}(h:v.at f q):k82 [.ptr q 0,.v (ti x)] f=⟨xm v.s v.l.ak x,.v (ti v.s.next),bH f q v (gX v.l.ak v.s x)⟩:=by
 have hx:∃v:QV,v.at f q:=⟨v,h⟩;simp only[k82,eW h,hx,true_and]
def k82_ok:∀args ab,(k82 args ab).ok->(∀N,(∀r,N<=r->ab r=none)->aR aj 121 args ab (k82 args ab))/\∀r,ab r=none->(k82 args ab).ab r=none:=by
 intro args ab h;unfold k82 at h⊢;split at h
 ·rename_i q x;obtain⟨⟨v,hv⟩,hs⟩:=h;rw[eW hv]at hs⊢;exact⟨λN hN=>aR.of (t82 hN hv hs) rfl rfl,λr hr=>gJ hv _ hr⟩
 ·exact h.elim
def ok82{l:List (Nat×DM.Spec)}(h:ay aj (bu l)):ay aj (bu ((121,eS k82)::l)):=ay.gS h k82_ok
def fT(s:Qs):Qs:=let s1:=s.swap 0 ((s.heap.length:Int)-1)
 ⟨s1.heap.take (s.heap.length-1),s1.bD+1,nD s1.es (s.e 0).h,s1.mc,s1.next,s1.clock⟩
def fC(ak:bR)(s:Qs):Qs:=if s.heap=[]then s else fm ak 0 (fT s)
def uT(s:Qs):T:=if s.heap=[]then .eo [ti 0,.bool false]else .eo [ti (s.e 0).x,.bool true]
def UV{l:Pl}{k k':Int}(h:k≠k'):(∃i,sV l k'=some i)->∃i,sV (nD l k) k'=some i:=by
 rintro⟨i,hi⟩;unfold nD;cases hk:sV l k with
 |none=>exact⟨i,hi⟩
 |some j=>
  obtain⟨e,h1,h2,_⟩:=zJ hi;obtain⟨e',h3,h4,_⟩:=zJ hk;have bT:i≠j:=λx=>by
   subst x;rw[h1]at h3;cases h3;simp at h2 h4;exact h (h4.symm.trans h2)
  have kx:e∈l.eraseIdx j:=List.mem_eraseIdx_iff_getElem?.2 ⟨i,bT,h1⟩;have:(List.findIdx? (λe=>e.2.1==k') (l.eraseIdx j)).isSome=true:=by
   rw[List.findIdx?_isSome,Zce];exact⟨e,kx,h2⟩
  exact Zbp.1 this
def MT{l:Pl}{k:Int}{c:Nat}(h:pA l)(hc:∀e∈l,e.1<c):pA (nD l k)/\∀e∈nD l k,e.1<c:=by
 unfold nD;cases sV l k with
 |none=>exact⟨h,hc⟩
 |some j=>
  refine⟨?_,λe he=>hc e (ZcA he)⟩;unfold pA;rw[<-qH];exact h.eraseIdx j
def Qs.nd(s:Qs):Prop:=∀i j:Nat,i<s.heap.length->j<s.heap.length->(s.e i).h=(s.e j).h->i=j
def zw{s:Qs}{ak:bR}(h:s.ok ak)(hn:s.nd)(hl:0<s.heap.length):(fT s).ok ak:=by
 have h1:=h.swap (i:=0) (j:=(s.heap.length:Int)-1) ⟨by omega,by omega⟩ ⟨by omega,by omega⟩;obtain⟨a1,a2⟩:=MT (k:=(s.e 0).h) h1.pl h1.st;refine⟨a1,a2,λe he=>?_,λe he=>h1.r e (ZaE he)⟩;have he1:e∈(s.swap 0 ((s.heap.length:Int)-1)).heap:=ZaE he;refine UV (λhk=>?_) (h1.pO e he1);obtain⟨y,hy,rfl⟩:=ZaO he;simp only[fT,ZaB,Qs.dI]at hy;have lq:y<s.heap.length-1:=by omega
 have fJ:y<s.heap.length:=by omega
 have Wk:((s.heap.length:Int)-1).toNat=s.heap.length-1:=by omega
 by_cases hz:y=0
 ·subst hz;have Xj:s.heap.length-1<s.heap.length:=by omega
  have:(fT s).heap[0]=s.e ((s.heap.length-1:Nat):Int):=by
   have h0:¬s.heap.length-1=0:=by omega
   simp only[fT,Qs.swap,ZcE,Wk,ZcW,Zb1,h0,if_false,if_true];rw[show(s.heap.length:Int)-1=((s.heap.length-1:Nat):Int)by omega]
  rw[this]at hk;have:=hn 0 (s.heap.length-1) hl (by omega) (by simpa using hk);omega
 ·have:(fT s).heap[y]=s.e (y:Int):=by
   have h0:¬s.heap.length-1=y:=by omega
   have h00:¬0=y:=by omega
   simp only[fT,Qs.swap,ZcE,Wk,ZcW,Zb1,h0,h00,if_false,Qs.e,Zag];simp[List.getD,fJ]
  rw[this]at hk;have:=hn 0 y hl fJ (by simpa using hk);omega
def wo(s:Qs)(ak:bR):Prop:=s.ok ak/\s.nd/\s.heap.length<=1000000
def t85{f0:bq}{q N:Nat}{v:QV}(hN:∀r,N<=r->f0 r=none)(h:v.at f0 q)(hs:wo v.s v.l.ak):
  aR aj 124 [.ptr q 0] f0 ⟨True,.v (uT v.s),bH f0 q v (fC v.l.ak v.s)⟩:=by
 obtain⟨ho,yd,dM⟩:=hs;obtain⟨RV,PP⟩:=bb (uT v.s);obtain⟨R,hR⟩:=bb (fC v.l.ak v.s);rw[hR,PP];unfold fC at hR;unfold uT at PP;have aC:=ok111 (ok110 ay.nil);refine c85.pQ hN (by simp) λaT=>?_;have en:∀s,bH f0 q v s q=some (qB v.a v.hp v.m s):=λs=>(d7 h s).q;have NK:q<N:=(aT q _ h.q).1;have nu:v.hp<N:=(aT v.hp _ h.hp).1;have BS:v.m<N:=(aT v.m _ h.m).1;obtain⟨n1,n2,n3,n4,n5,n6,_,_,_,_,_,_⟩:=h.ne;have Hi:=Ne.symm n1;have F8:=Ne.symm n2;have Ka:=Ne.symm n3;have n4':=Ne.symm n4;have h1:=h.q;have h2:=h.hp;have h3:=h.m;simp only[qB,hB,mB]at h1 h2 h3;have nq:∀k,q≠N+k:=λk=>by omega
 have np:∀k,v.hp≠N+k:=λk=>by omega
 have nm:∀k,v.m≠N+k:=λk=>by omega
 have na:∀k,v.a≠N+k:=λk=>by have:=(aT v.a _ h.l.a).1;omega
 simp;apply aa.ag aC fw [0,2,3];simp[d85r0];apply aa.seq;apply aa.ag aC fw [0,2,3,11];simp[d85r1,h1,h2];refine aa.cond rfl (λg=>?_) (λg=>?_)
 ·have g:v.s.heap=[]:=by simpa using g
  rw[Zai g]at hR PP;apply aa.ag aC fw [2,3];simp[d85r2];rw[<-hR];refine aa.le (rH v.s (l:=[(2,.v (ti 0)),(3,.v (.bool false))]) (ba:=N+1000) aT h (by omega) (Zaf _) ?_ ?_ ?_ ?_ ?_ ?_) ?_
  ·simp;omega
  ·simp[nq,Nat.add_assoc,h.q]
  ·simp[np,Nat.add_assoc,h.hp]
  ·simp[nm,Nat.add_assoc,h.m]
  ·simp[na,Nat.add_assoc]
  ·simp
  apply aa.ret;simp[OY,PP]
 ·have g:¬v.s.heap=[]:=by simpa using g
  rw[Zab g]at hR PP;have hl:0<v.s.heap.length:=ZaT.2 g;have r0:=dG hl;have w1:IntKind.i64.wrap ((v.s.heap.length:Int)-1)=(v.s.heap.length:Int)-1:=aF (by omega);obtain⟨⟨ex,eh,et⟩,he⟩:=bb (v.s.heap.getD 0 default);have Xf:v.s.e 0=⟨ex,eh,et⟩:=he;rw[he]at r0;rw[Xf]at PP;simp only[kh.enc]at r0;have r0':DM.rowAt (dF v.s.heap) (0:Int)=[ti ex,ti eh,ti et]:=r0;apply aa.skip;simp;apply aa.jR aC fw (rs:=c5 (iO q v.hp N) (eR ZM [none,none,none,none,none,none,none,none,none,some [0],some [1],none,none,some [105],none])) (.inl rfl) ((dX (jK NK nu n1) _ _ _).trans (by kernel_rfl)) [0,4,5];simp[ZM,c5,fk,eR,iO,cP,bG,aN,h1,h2,hl,r0',w1];refine aa.le (rH v.s (l:=[(0,.ptr q 0),(4,.v (.box [ti ex,ti eh,ti et])),(5,.v (ti ((v.s.heap.length:Int)-1)))]) (ba:=N+1000) aT h (by omega) (Zaf _) ?_ ?_ ?_ ?_ ?_ ?_) ?_
  ·simp;omega
  ·simp[nq,Nat.add_assoc,h.q]
  ·simp[np,Nat.add_assoc,h.hp]
  ·simp[nm,Nat.add_assoc,h.m]
  ·simp[na,Nat.add_assoc]
  ·simp[Nat.add_assoc,en,qB];refine bL aT (by omega) ?_;simp;omega
  have k1:=λx y=>JZ (i:=x) (j:=y) (d7 h v.s);have e0:∀s',bH (bH f0 q v v.s) q (v.to v.s) s'=bH f0 q v s':=iY f0 q v v.s;simp only[QV.to]at k1 e0;have so:=ho.dc (i:=0) (j:=(v.s.heap.length:Int)-1) ⟨by omega,by omega⟩ ⟨by omega,by omega⟩;have so2:=ho.swap (i:=0) (j:=(v.s.heap.length:Int)-1) ⟨by omega,by omega⟩ ⟨by omega,by omega⟩;apply aa.cX aC fw (rs:=OW) rfl (by kernel_rfl) [0,4,5];simp[OW,k1,so,e0];obtain⟨P,hP⟩:=bb (fT v.s);have hPok:=zw ho yd hl;rw[hP]at hPok hR;obtain⟨S1,tF⟩:=bb (v.s.swap 0 ((v.s.heap.length:Int)-1));have Xr:P=⟨S1.heap.take (v.s.heap.length-1),S1.bD+1,nD S1.es eh,S1.mc,S1.next,S1.clock⟩:=by rw[<-hP,<-tF];simp only[fT,Xf]
  have hSl:S1.heap.length=v.s.heap.length:=by rw[<-tF];simp
  have hSv:S1.bD=v.s.bD:=by rw[<-tF];simp
  rw[tF];have Bk:=d7 h S1;have j1:=Bk.q;have j2:=Bk.hp;have j3:=Bk.m;simp only[qB,hB,mB]at j1 j2 j3;apply aa.ag aC fw [0,4];simp[d85r5,j1,j2,hSl];refine⟨⟨by omega,by omega⟩, ?_⟩;obtain⟨G,hG⟩:=bb (bH f0 q v R);rw[hG];simp only[bH,VU];refine aa.le (Le.cut q 1 (q:=v.hp) (bD:=S1.bD) (n:=v.s.heap.length-1) (e:=220) (sz:=3) (av:=dF S1.heap) (cs:=[.nG (.func 83) [.ptr v.a 0],.u9 v.hp S1.bD 0 (v.s.heap.length-1),.iE v.m,.v (ti S1.next),.v (ti S1.clock)]) ?_ rfl ?_) ?_
  ·simp
  ·simp[Hi,hB]
  rw[jT,jT];simp only[Zb2,ZbR];apply aa.ag aC fw [0,4];simp[d85r6,F8,Ka,mB,MU];refine aa.le (rH P (l:=[(0,.ptr q 0),(4,.v (.box [ti ex,ti eh,ti et]))]) (ba:=N+4000) aT h (by omega) (by rw[Xr];simp[hSv]) ?_ ?_ ?_ ?_ ?_ ?_) ?_
  ·simp
  ·rw[Xr];simp[n2,qB]
  ·rw[Xr];simp[Hi,n3,hB,xl]
  ·rw[Xr];simp[mB]
  ·simp[n4,n5,n6]
  ·simp[en,qB]
  have k2:=λx=>U3 (i:=x) (d7 h P);have e1:∀s',bH (bH f0 q v P) q (v.to P) s'=bH f0 q v s':=iY f0 q v P;simp only[QV.to]at k2 e1;have hPl:P.heap.length<=1000000:=by rw[Xr];simp;omega
  apply aa.cX aC fw (rs:=OX) rfl (by kernel_rfl) [4];simp[OX,k2,hPok,e1,hR,hPl,hG];apply aa.ag aC fw [2,3];simp[d85r8];apply aa.ret;simp[OY,PP]
noncomputable def Vb:bB->bq->fI
 |[.ptr q 0],f=>⟨(∃v:QV,v.at f q)/\wo (eK f q).s (eK f q).l.ak,.v (uT (eK f q).s),bH f q (eK f q) (fC (eK f q).l.ak (eK f q).s)⟩
 |_,f=>⟨False,.undef,f⟩
def k85_eq{v:QV}{f:bq}{q:Nat}(h:v.at f q):Vb [.ptr q 0] f=⟨wo v.s v.l.ak,.v (uT v.s),bH f q v (fC v.l.ak v.s)⟩:=by
 have hx:∃v:QV,v.at f q:=⟨v,h⟩;simp only[Vb,eW h,hx,true_and]
def k85_ok:∀args ab,(Vb args ab).ok->(∀N,(∀r,N<=r->ab r=none)->aR aj 124 args ab (Vb args ab))/\∀r,ab r=none->(Vb args ab).ab r=none:=by
 intro args ab h;unfold Vb at h⊢;split at h
 ·rename_i q;obtain⟨⟨v,hv⟩,hs⟩:=h;rw[eW hv]at hs⊢;exact⟨λN hN=>aR.of (t85 hN hv hs) rfl rfl,λr hr=>gJ hv _ hr⟩
 ·exact h.elim
def ok85{l:List (Nat×DM.Spec)}(h:ay aj (bu l)):ay aj (bu ((124,eS Vb)::l)):=ay.gS h k85_ok
section
variable{ak:bR}{hd:Int}
def mJ(s:Qs)(i:Nat)(x:Int):Qs:=⟨s.heap.set i ⟨x,(s.e i).h,s.clock⟩,s.bD,s.es,s.mc,s.next,s.clock+1⟩
def Gp(ak:bR)(s:Qs)(i:Nat)(x:Int):Qs:=tQ ak i (mJ s i x)
def tS(ak:bR)(s:Qs)(hd x:Int):Qs:=
 fm ak ((jM (Gp ak s ((jM s.es hd).getD 0).toNat x).es hd).getD 0).toNat (Gp ak s ((jM s.es hd).getD 0).toNat x)
structure M8(s:Qs)(ak:bR)(hd x:Int):Prop where
 ok:s.ok ak
 wW:∃i:Nat,jM s.es hd=some (i:Int)/\i<s.heap.length/\∃j:Nat,jM (Gp ak s i x).es hd=some (j:Int)/\j<=1000000
 x:0<=x/\x<ak.length
 len:s.heap.length<=1000000
 clock:0<=s.clock/\s.clock<=1000000000000
def U1{s:Qs}{i:Nat}{x:Int}(h:s.ok ak)(hi:i<s.heap.length)(hx:0<=x/\x<ak.length):(mJ s i x).ok ak:=by
 refine⟨h.pl,h.st,λe he=>?_,λe he=>?_⟩
 ·rcases ZaS he with he|rfl
  ·exact h.pO e he
  ·exact h.pO (s.e (i:Int)) (bm (by simpa using hi))
 ·rcases ZaS he with he|rfl
  ·exact h.r e he
  ·exact hx
def FB:∀{i:Nat} {s:Qs},s.ok ak->i<s.heap.length->(tQ ak i s).ok ak/\(tQ ak i s).heap.length=s.heap.length/\(tQ ak i s).bD=s.bD:=by
 intro i;induction i using Nat.strongRecOn with
 |_ i ih=>
  intro s h hi;unfold tQ;split
  ·rename_i hc;have hk:=h.swap (i:=i) (j:=((i-1)/2:Nat)) ⟨by omega,by omega⟩ ⟨by omega,by omega⟩;obtain⟨a,b,c⟩:=ih ((i-1)/2) (by omega) hk (by simp;omega);exact⟨a,by simpa using b,by simpa using c⟩
  ·exact⟨h,rfl,rfl⟩
def M9{l:Pl}{k v:Int}(h:jM l k=some v):∃e:Nat×Int×Int,l.find? (λe=>e.2.1==k)=some e/\e.2.2=v:=by
 unfold jM at h;obtain⟨e,h1,h2⟩:=Zac.1 h;exact⟨e,h1,h2⟩
def zG{l:Pl}{k v:Int}(h:jM l k=some v):∃b:Nat,qP (ti k) (uO l)=some (b,ti k,.v (ti v)):=by
 obtain⟨⟨b,k',v'⟩,h1,h2⟩:=M9 h;simp only at h2;subst h2;have:=Zc7 h1;simp at this;subst this;exact⟨b,by rw[Na,h1];rfl⟩
def t81{f0:bq}{q N:Nat}{x:Int}{v:QV}(hN:∀r,N<=r->f0 r=none)(h:v.at f0 q)(hs:M8 v.s v.l.ak hd x):
  aR aj 120 [.ptr q 0,.v (ti hd),.v (ti x)] f0 ⟨True,.v (.bool true),bH f0 q v (tS v.l.ak v.s hd x)⟩:=by
 obtain⟨ho,⟨i,hg,hi,j,hg2,hj⟩,hx,dM,Cy⟩:=hs;have hU1:=U1 ho hi hx;have hU2:=FB hU1 (i:=i) (by simp[mJ];exact hi);obtain⟨b1,hf1⟩:=zG hg;obtain⟨b2,hf2⟩:=zG hg2;obtain⟨R,hR⟩:=bb (tS v.l.ak v.s hd x);rw[hR];unfold tS at hR;rw[hg]at hR;simp only[Zbd,Zag]at hR;rw[hg2]at hR;simp only[Zbd,Zag]at hR;have hupd:Gp v.l.ak v.s i x=tQ v.l.ak i (mJ v.s i x):=rfl;rw[<-hupd]at hU2;obtain⟨S2,NF⟩:=bb (Gp v.l.ak v.s i x);rw[NF]at hR hU2 hf2 hupd;obtain⟨S1,tF⟩:=bb (mJ v.s i x);rw[tF]at hU1 hU2 hupd;obtain⟨u1,u2,u3⟩:=hU2;have hS1l:S1.heap.length=v.s.heap.length:=by rw[<-tF];simp[mJ]
 have aC:=ok109 (ok110 ay.nil);refine c81.pQ hN (by simp) λaT=>?_;have en:∀s,bH f0 q v s q=some (qB v.a v.hp v.m s):=λs=>(d7 h s).q;obtain⟨n1,n2,n3,n4,n5,n6,_,_,_,_,_,_⟩:=h.ne;have Hi:=Ne.symm n1;have F8:=Ne.symm n2;have Ka:=Ne.symm n3;have h1:=h.q;have h2:=h.hp;have h3:=h.m;simp only[qB,hB,mB]at h1 h2 h3;have r0:=dG hi;obtain⟨⟨ox,oh,ot⟩,he⟩:=bb (v.s.heap.getD i default);have Xf:v.s.e (i:Int)=⟨ox,oh,ot⟩:=by simpa using he
 rw[he]at r0;simp only[kh.enc]at r0;have hS1d:S1=⟨v.s.heap.set i ⟨x,oh,v.s.clock⟩,v.s.bD,v.s.es,v.s.mc,v.s.next,v.s.clock+1⟩:=by rw[<-tF];simp only[mJ,Xf]
 have w1:IntKind.i64.wrap (v.s.clock+1)=v.s.clock+1:=aF (by omega);simp;apply aa.ag aC fw [0,1,2];simp[d81r0];apply aa.ag aC fw [0,1,2,7,8];simp[d81r1,h1,h3,hf1];apply aa.seq;apply aa.ag aC fw [0,1,2,7,19];simp[d81r2];refine aa.cond rfl (λg=>by cases g) (λg=>?_);apply aa.skip;simp;have hrow:∀y,DM.rowAt ((dF v.s.heap).set i y) (i:Int)=y:=λy=>by simp[DM.rowAt,hi]
 apply aa.ag aC fw [0,1,7];simp[d81r4,h1,h2,hi,r0,hrow];apply aa.ag aC fw [0,1,7];simp[d81r5,h1,w1,n1];refine aa.le (rH (v:=v) S1 (l:=[(0,.ptr q 0),(1,.v (ti hd)),(7,.v (ti (i:Int)))]) (ba:=N+2000) aT h (by omega) (by rw[hS1d];exact Zaf _) ?_ ?_ ?_ ?_ ?_ ?_) ?_
 ·simp
 ·rw[hS1d];simp[qB]
 ·rw[hS1d];simp[Hi,hB,lg];rfl
 ·rw[hS1d];simp[F8,Ka,mB,h3]
 ·simp[n4,n5]
 ·simp[en,qB]
 have k1:=λy=>U2 (i:=y) (d7 h S1);have e0:∀s',bH (bH f0 q v S1) q (v.to S1) s'=bH f0 q v s':=iY f0 q v S1;simp only[QV.to]at k1 e0;apply aa.cX aC fw (rs:=OZ) rfl (by kernel_rfl) [0,1];simp[OZ,k1,hU1,hS1l,hi,dM,e0,<-hupd];have k2:=λy=>U3 (i:=y) (d7 h S2);have e1:∀s',bH (bH f0 q v S2) q (v.to S2) s'=bH f0 q v s':=iY f0 q v S2;have mQ:=d7 h S2;have j1:=mQ.q;have j3:=mQ.m;simp only[QV.to,qB,mB]at k2 e1 j1 j3;have u2':S2.heap.length<=1000000:=by omega
 apply aa.cX aC fw (rs:=O0) rfl (by kernel_rfl) [];simp[O0,j1,j3,hf2,k2,u1,u2',e1,hR];refine⟨by omega, ?_⟩;apply aa.ag aC fw [6];simp[d81r8];apply aa.ret;simp[ZN]
noncomputable def k81:bB->bq->fI
 |[.ptr q 0,.v (.int .i64 hd),.v (.int .i64 x)],f=>⟨(∃v:QV,v.at f q)/\M8 (eK f q).s (eK f q).l.ak hd x,.v (.bool true),bH f q (eK f q) (tS (eK f q).l.ak (eK f q).s hd x)⟩
 |_,f=>⟨False,.undef,f⟩
def k81_eq{v:QV}{f:bq}{q:Nat}{x:Int}(h:v.at f q):k81 [.ptr q 0,.v (ti hd),.v (ti x)] f=⟨M8 v.s v.l.ak hd x,.v (.bool true),bH f q v (tS v.l.ak v.s hd x)⟩:=by
 have hx:∃v:QV,v.at f q:=⟨v,h⟩;simp only[k81,eW h,hx,true_and]
def k81_ok:∀args ab,(k81 args ab).ok->(∀N,(∀r,N<=r->ab r=none)->aR aj 120 args ab (k81 args ab))/\∀r,ab r=none->(k81 args ab).ab r=none:=by
 intro args ab h;unfold k81 at h⊢;split at h
 ·rename_i q hd x;obtain⟨⟨v,hv⟩,hs⟩:=h;rw[eW hv]at hs⊢;exact⟨λN hN=>aR.of (t81 hN hv hs) rfl rfl,λr hr=>gJ hv _ hr⟩
 ·exact h.elim
def ok81{l:List (Nat×DM.Spec)}(h:ay aj (bu l)):ay aj (bu ((120,eS k81)::l)):=ay.gS h k81_ok
end
section
variable{ak:bR}
def gb{a b c:kh}(h:¬iC ak b a)(k:¬iC ak c b):¬iC ak c a:=by
 unfold iC at*
 generalize bv ak a.x=u at*
 generalize bv ak b.x=v at*
 generalize bv ak c.x=w at*
 obtain⟨u1,u2⟩:=u;obtain⟨v1,v2⟩:=v;obtain⟨w1,w2⟩:=w;simp only[c8.lt]at*
 omega
def sY(a:kh):¬iC ak a a:=by
 unfold iC;generalize bv ak a.x=u;obtain⟨u1,u2⟩:=u;simp only[c8.lt];omega
def pC{a b:kh}(h:iC ak a b):¬iC ak b a:=by
 unfold iC at*
 generalize bv ak a.x=u at*
 generalize bv ak b.x=v at*
 obtain⟨u1,u2⟩:=u;obtain⟨v1,v2⟩:=v;simp only[c8.lt]at*
 omega
def oz(ak:bR)(s:Qs):Prop:=∀i:Nat,0<i->i<s.heap.length->¬iC ak (s.e i) (s.e ((i-1)/2:Nat))
def xu{s:Qs}(h:oz ak s):∀i:Nat,i<s.heap.length->¬iC ak (s.e i) (s.e (0:Nat)):=by
 intro i;induction i using Nat.strongRecOn with
 |_ i ih=>
  intro hi;by_cases hz:i=0
  ·subst hz;exact sY _
  ·exact gb (ih ((i-1)/2) (by omega) (by omega)) (h i (by omega) hi)
def ic{s:Qs}{i j k:Nat}(hi:i<s.heap.length)(hj:j<s.heap.length)(hk:k<s.heap.length):(s.swap i j).e k=if k=j then s.e i else if k=i then s.e j else s.e k:=by
 simp only[Qs.swap,Qs.e,Zag,List.getD,ZbC];by_cases h1:k=j
 ·subst h1;simp[hj]
 ·by_cases h2:k=i
  ·subst h2;have:¬j=k:=λe=>h1 e.symm;simp[this,h1,hi]
  ·have a1:¬j=k:=λe=>h1 e.symm;have a2:¬i=k:=λe=>h2 e.symm;simp[a1,a2,h1,h2]
def CY:∀{i:Nat} {s:Qs},i<s.heap.length->(∀k:Nat,0<k->k<s.heap.length->k≠i->¬iC ak (s.e k) (s.e ((k-1)/2:Nat)))->
  (∀k:Nat,0<k->k<s.heap.length->(k-1)/2=i->0<i->¬iC ak (s.e k) (s.e ((i-1)/2:Nat)))->oz ak (tQ ak i s):=by
 intro i;induction i using Nat.strongRecOn with
 |_ i ih=>
  intro s hi h1 h2;unfold tQ;split
  ·rename_i hc;obtain⟨c1,c2⟩:=hc;obtain⟨y,hy⟩:=bb ((i-1)/2);rw[hy]at c2⊢;have zW:y<s.heap.length:=by omega
   have E:=λ{k:Nat} (hk:k<s.heap.length)=>ic (s:=s) (i:=i) (j:=y) hi zW hk;refine ih y (by omega) (by simpa using zW) (λk k1 k2 k3=>?_) (λk k1 k2 k3 k4=>?_)
   ·simp only[Qs.dI]at k2;rw[E k2,E (k:=(k-1)/2) (by omega)];by_cases e1:k=i
    ·subst e1;rw[Zab k3,Zai rfl,hy,Zai rfl];exact pC c2
    ·rw[Zab k3,Zab e1];by_cases e2:(k-1)/2=y
     ·rw[Zai e2];have:=h1 k k1 k2 e1;rw[e2]at this;exact gb (pC c2) this
     ·rw[Zab e2];by_cases e3:(k-1)/2=i
      ·rw[Zai e3];have:=h2 k k1 k2 e3 c1;rw[hy]at this;exact this
      ·rw[Zab e3];exact h1 k k1 k2 e1
   ·simp only[Qs.dI]at k2;rw[E k2,E (k:=(y-1)/2) (by omega)];have p1:¬(y-1)/2=y:=by omega
    have p2:¬(y-1)/2=i:=by omega
    have p3:¬k=y:=by omega
    rw[Zab p1,Zab p2,Zab p3];have hpy:=h1 y k4 zW (by omega);by_cases e1:k=i
    ·rw[Zai e1];exact hpy
    ·rw[Zab e1];have:=h1 k k1 k2 e1;rw[k3]at this;exact gb hpy this
  ·rename_i hc;intro k k1 k2;by_cases e:k=i
   ·subst e;exact λhb=>hc ⟨k1,hb⟩
   ·exact h1 k k1 k2 e
end
def zB(ak:bR)(s:Qs)(i:Nat):∀t,¬iC ak (s.e i) (s.e (tR ak s i t))/\∀u,u<t->¬iC ak (s.e (2*i+1+u:Nat)) (s.e (tR ak s i t))
 |0=>⟨sY _,λu hu=>by omega⟩
 |t+1=>by
  obtain⟨h1,h2⟩:=zB ak s i t;unfold tR;split
  ·rename_i hc;have ha:=pC hc;refine⟨gb ha h1,λu hu=>?_⟩;by_cases e:u=t
   ·subst e;exact sY _
   ·exact gb ha (h2 u (by omega))
  ·rename_i hc;refine⟨h1,λu hu=>?_⟩;by_cases e:u=t
   ·subst e;exact hc
   ·exact h2 u (by omega)
def AY(ak:bR)(s:Qs)(i:Nat):¬iC ak (s.e i) (s.e (dt ak s i))/\∀k:Nat,0<k->k<s.heap.length->(k-1)/2=i->¬iC ak (s.e k) (s.e (dt ak s i)):=by
 obtain⟨h1,h2⟩:=zB ak s i (kg s i);refine⟨h1,λk k1 k2 k3=>?_⟩;have:=h2 (k-(2*i+1)) (by unfold kg;omega);rw[show 2*i+1+(k-(2*i+1))=k by omega]at this;exact this
def AZ(ak:bR)(s:Qs)(i:Nat):dt ak s i=i\/((dt ak s i-1)/2=i/\i<dt ak s i/\dt ak s i<s.heap.length):=by
 have:=sX ak s i (kg s i);have h3:=gZ ak s i;unfold dt at*
 unfold kg at*
 omega
def vL{ak:bR}:∀{n:Nat} {i:Nat} {s:Qs},s.heap.length-i=n->(∀k:Nat,0<k->k<s.heap.length->(k-1)/2≠i->¬iC ak (s.e k) (s.e ((k-1)/2:Nat)))->
  (∀k:Nat,0<k->k<s.heap.length->(k-1)/2=i->0<i->¬iC ak (s.e k) (s.e ((i-1)/2:Nat)))->oz ak (fm ak i s):=by
 intro n;induction n using Nat.strongRecOn with
 |_ n ih=>
  intro i s hn h1 h2;obtain⟨m1,m2⟩:=AY ak s i;have hp:=AZ ak s i;unfold fm;split
  ·rename_i he;intro k k1 k2;by_cases e:(k-1)/2=i
   ·rw[e];have:=m2 k k1 k2 e;rw[he]at this;exact this
   ·exact h1 k k1 k2 e
  ·rename_i he;obtain⟨j,hj⟩:=bb (dt ak s i);rw[hj]at m1 m2 hp he⊢;obtain⟨p1,p2,p3⟩:=hp.resolve_left he;have hi:i<s.heap.length:=by omega
   have E:=λ{k:Nat} (hk:k<s.heap.length)=>ic (s:=s) (i:=i) (j:=j) hi p3 hk;refine ih (s.heap.length-j) (by omega) (by simp) (λk k1 k2 k3=>?_) (λk k1 k2 k3 k4=>?_)
   ·simp only[Qs.dI]at k2;rw[E k2,E (k:=(k-1)/2) (by omega),Zab k3];by_cases e1:k=j
    ·subst e1;rw[Zai rfl,Zai p1];exact m1
    ·rw[Zab e1];by_cases e2:k=i
     ·subst e2;have:¬(k-1)/2=k:=by omega
      rw[Zai rfl,Zab this];exact h2 j (by omega) p3 p1 k1
     ·rw[Zab e2];by_cases e3:(k-1)/2=i
      ·rw[Zai e3];exact m2 k k1 k2 e3
      ·rw[Zab e3];exact h1 k k1 k2 e3
   ·simp only[Qs.dI]at k2;rw[p1,E k2,E hi];have q1:¬k=j:=by omega
    have q2:¬k=i:=by omega
    have q3:¬i=j:=by omega
    rw[Zab q1,Zab q2,Zab q3,Zai rfl];have:=h1 k k1 k2 (by omega);rw[k3]at this;exact this
section
variable{ak:bR}
def sZ{s:Qs}{x:Int}{k:Nat}(hk:k<s.heap.length):(fM s x).e k=s.e k:=by
 simp only[fM,Qs.e,Zag,List.getD];rw[Zbc hk]
def AU{s:Qs}{x:Int}(h:oz ak s):oz ak (gX ak s x):=by
 have hl:(fM s x).heap.length=s.heap.length+1:=by simp[fM]
 refine CY (by omega) (λk k1 k2 k3=>?_) (λk k1 k2 k3 k4=>?_)
 ·rw[sZ (by omega),sZ (by omega)];exact h k k1 (by omega)
 ·omega
def WR{s:Qs}(h:oz ak s)(i:Nat):oz ak (fm ak i s):=
 vL rfl (λk k1 k2 _=>h k k1 k2) λk k1 k2 k3 k4=>by
  have a:=h k k1 k2;rw[k3]at a;exact gb (h i k4 (by omega)) a
def pw{s:Qs}{k:Nat}(hk:k<s.heap.length-1):(fT s).e k=if k=0 then s.e (s.heap.length-1:Nat)else s.e k:=by
 have hj:s.heap.length-1<s.heap.length:=by omega
 have E:=ic (s:=s) (i:=0) (j:=s.heap.length-1) (k:=k) (by omega) hj (by omega);have hc:((s.heap.length-1:Nat):Int)=(s.heap.length:Int)-1:=by omega
 have:(fT s).e k=(s.swap (0:Nat) (s.heap.length-1:Nat)).e k:=by
  simp only[fT,Qs.e,Zag,List.getD,ZaQ,hk,if_true,hc];rfl
 rw[this,E,Zab (by omega)]
def zx{s:Qs}(h:oz ak s):oz ak (fC ak s):=by
 unfold fC;split
 ·exact h
 ·rename_i bT;have xN:0<s.heap.length:=ZaT.2 bT;have hl:(fT s).heap.length=s.heap.length-1:=by
   simp only[fT,ZaB,Qs.dI];omega
  refine vL rfl (λk k1 k2 k3=>?_) (λk k1 k2 k3 k4=>by omega);rw[hl]at k2;rw[pw k2,pw (by omega),Zab (by omega),Zab k3];exact h k k1 (by omega)
end
section
variable{ak:bR}
def WS(c:Nat)(k v:Int):d8 [] c k v=[(c,k,v)]:=rfl
def P9(a:Nat×Int×Int)(l:Pl)(c:Nat)(k v:Int):d8 (a::l) c k v=if a.2.1=k then(a.1,a.2.1,v)::l else a::d8 l c k v:=by
 unfold d8 sV;rw[Zbh];by_cases h:a.2.1=k
 ·simp[h]
 ·have:(a.2.1==k)=false:=by simpa using h
  rw[this,Zab h];simp only[ZaW,if_false];cases List.findIdx? (λe=>e.2.1==k) l<;>simp
def WT(k:Int):jM [] k=none:=rfl
def kR(a:Nat×Int×Int)(l:Pl)(k:Int):jM (a::l) k=if a.2.1=k then some a.2.2 else jM l k:=by
 unfold jM;rw[Za6];by_cases h:a.2.1=k
 ·simp[h]
 ·have:(a.2.1==k)=false:=by simpa using h
  rw[this,Zab h]
def oM(l:Pl)(c:Nat)(k v k':Int):jM (d8 l c k v) k'=if k'=k then some v else jM l k':=by
 induction l with
 |nil=>
  rw[WS,kR,WT];by_cases h:k'=k
  ·simp[h]
  ·have:¬k=k':=λe=>h e.symm;simp[h,this]
 |cons a l ih=>
  rw[P9];by_cases h:a.2.1=k
  ·rw[Zai h,kR,kR];simp only;by_cases h2:k'=k
   ·rw[Zai h2,Zai (by rw[h,h2])]
   ·have:¬a.2.1=k':=λe=>h2 (e▸h);rw[Zab h2,Zab this,Zab this]
  ·rw[Zab h,kR,kR,ih];by_cases h2:k'=k
   ·have:¬a.2.1=k':=λe=>h (e.trans h2);simp[h2,h]
   ·simp[h2]
def c6(s:Qs):Prop:=∀k:Nat,k<s.heap.length->jM s.es (s.e k).h=some (k:Int)
def c6.nd{s:Qs}(h:c6 s):s.nd:=λi j hi hj he=>by
 have h1:=h i hi;have h2:=h j hj;rw[he,h2]at h1;simp only[Zaa]at h1;omega
def kQ{s:Qs}(h:c6 s){i j:Nat}(hi:i<s.heap.length)(hj:j<s.heap.length):c6 (s.swap i j):=by
 intro k hk;rw[Qs.dI]at hk;rw[ic hi hj hk];show jM (d8 (d8 s.es s.mc (s.e j).h i) s.mc (s.e i).h j) _=_;rw[oM,oM];have nd:=h.nd;by_cases h1:k=j
 ·subst h1;rw[Zai rfl,Zai rfl]
 ·rw[Zab h1];by_cases h2:k=i
  ·subst h2;rw[Zai rfl];by_cases h3:(s.e j).h=(s.e k).h
   ·have:=nd j k hj hk h3;exact Zar this.symm h1
   ·rw[Zab h3,Zai rfl]
  ·rw[Zab h2,Zab (λe=>h2 (nd k i hk hi e)),Zab (λe=>h1 (nd k j hk hj e))];exact h k hk
def uW:∀{i:Nat} {s:Qs},i<s.heap.length->c6 s->c6 (tQ ak i s):=by
 intro i;induction i using Nat.strongRecOn with
 |_ i ih=>
  intro s hi h;unfold tQ;split
  ·exact ih _ (by omega) (by simp;omega) (kQ h hi (by omega))
  ·exact h
def s8:∀{n:Nat} {i:Nat} {s:Qs},s.heap.length-i=n->c6 s->c6 (fm ak i s):=by
 intro n;induction n using Nat.strongRecOn with
 |_ n ih=>
  intro i s hn h;unfold fm;split
  ·exact h
  ·rename_i he;have hp:=(gZ ak s i).resolve_left he;exact ih (s.heap.length-dt ak s i) (by omega) (by simp) (kQ h (by omega) hp.2)
end
section
variable{ak:bR}
def fD{s:Qs}{e:kh}:e∈s.heap↔∃k:Nat,k<s.heap.length/\s.e k=e:=by
 constructor
 ·intro h;obtain⟨k,hk,rfl⟩:=ZaO h;exact⟨k,hk,by simp[Qs.e,List.getD,hk]⟩
 ·rintro⟨k,hk,rfl⟩;simp only[Qs.e,Zag];exact bm hk
def nC{s:Qs}{i j:Nat}(hi:i<s.heap.length)(hj:j<s.heap.length)(e:kh):e∈(s.swap i j).heap↔e∈s.heap:=by
 rw[fD,fD];simp only[Qs.dI];constructor
 ·rintro⟨k,hk,rfl⟩;rw[ic hi hj hk];split
  ·exact⟨i,hi,rfl⟩
  ·split
   ·exact⟨j,hj,rfl⟩
   ·exact⟨k,hk,rfl⟩
 ·rintro⟨k,hk,rfl⟩;by_cases h1:k=j
  ·subst h1;by_cases h2:i=k
   ·subst h2;exact⟨i,hi,by rw[ic hi hi hi];simp⟩
   ·exact⟨i,hi,by rw[ic hi hk hi,Zab h2,Zai rfl]⟩
  ·by_cases h2:k=i
   ·subst h2;exact⟨j,hj,by rw[ic hk hj hj,Zai rfl]⟩
   ·exact⟨k,hk,by rw[ic hi hj hk,Zab h1,Zab h2]⟩
structure lu(s s':Qs):Prop where
 len:s'.heap.length=s.heap.length
 mem:∀e,e∈s'.heap↔e∈s.heap
 next:s'.next=s.next
 clock:s'.clock=s.clock
 mc:s'.mc=s.mc
 bD:s'.bD=s.bD
def lu.refl(s:Qs):lu s s:=⟨rfl,λ_=>Iff.rfl,rfl,rfl,rfl,rfl⟩
def lu.trans{a b c:Qs}(h:lu a b)(k:lu b c):lu a c:=⟨k.len.trans h.len,λe=>(k.mem e).trans (h.mem e),k.next.trans h.next,k.clock.trans h.clock,k.mc.trans h.mc,k.bD.trans h.bD⟩
def rK{s:Qs}{i j:Nat}(hi:i<s.heap.length)(hj:j<s.heap.length):lu s (s.swap i j):=⟨by simp,nC hi hj,rfl,rfl,rfl,rfl⟩
def vJ:∀{i:Nat} {s:Qs},i<s.heap.length->lu s (tQ ak i s):=by
 intro i;induction i using Nat.strongRecOn with
 |_ i ih=>
  intro s hi;unfold tQ;split
  ·exact(rK hi (by omega)).trans (ih _ (by omega) (by simp;omega))
  ·exact lu.refl s
def li:∀{n:Nat} {i:Nat} {s:Qs},s.heap.length-i=n->lu s (fm ak i s):=by
 intro n;induction n using Nat.strongRecOn with
 |_ n ih=>
  intro i s hn;unfold fm;split
  ·exact lu.refl s
  ·rename_i he;have hp:=(gZ ak s i).resolve_left he;exact(rK (by omega) hp.2).trans (ih (s.heap.length-dt ak s i) (by omega) (by simp))
def CU:∀{n:Nat} {i:Nat} {s:Qs},s.heap.length-i=n->s.ok ak->(fm ak i s).ok ak:=by
 intro n;induction n using Nat.strongRecOn with
 |_ n ih=>
  intro i s hn h;unfold fm;split
  ·exact h
  ·rename_i he;have hp:=(gZ ak s i).resolve_left he;exact ih (s.heap.length-dt ak s i) (by omega) (by simp) (h.swap ⟨by omega,by omega⟩ ⟨by omega,by omega⟩)
end
section
variable{ak:bR}
def Qa(a:Nat×Int×Int)(l:Pl)(k:Int):nD (a::l) k=if a.2.1=k then l else a::nD l k:=by
 unfold nD sV;rw[Zbh];by_cases h:a.2.1=k
 ·simp[h]
 ·have:(a.2.1==k)=false:=by simpa using h
  rw[this,Zab h];simp only[ZaW,if_false];cases List.findIdx? (λe=>e.2.1==k) l<;>simp
def Hn{l:Pl}{k k':Int}(h:k'≠k):jM (nD l k) k'=jM l k':=by
 induction l with
 |nil=>rfl
 |cons a l ih=>
  rw[Qa,kR];by_cases h1:a.2.1=k
  ·have:¬a.2.1=k':=λe=>h (e.symm.trans h1);rw[Zai h1,Zab this]
  ·rw[Zab h1,kR,ih]
def xq{s:Qs}{x:Int}(h:c6 s)(hn:∀e∈s.heap,e.h≠s.next):c6 (gX ak s x):=by
 have hl:(fM s x).heap.length=s.heap.length+1:=by simp[fM]
 refine uW (by omega) λk hk=>?_;rw[hl]at hk;show jM (d8 s.es s.mc s.next s.heap.length) _=_;rw[oM];by_cases h1:k<s.heap.length
 ·rw[sZ h1,Zab (hn _ (fD.2 ⟨k,h1,rfl⟩))];exact h k h1
 ·obtain rfl:k=s.heap.length:=by omega
  have:(fM s x).e (s.heap.length:Nat)=⟨x,s.next,s.clock⟩:=by simp[fM,Qs.e,List.getD]
  rw[this,Zai rfl]
def vK{s:Qs}(h:c6 s):c6 (fC ak s):=by
 unfold fC;split
 ·exact h
 ·rename_i bT;have xN:0<s.heap.length:=ZaT.2 bT;have hl:(fT s).heap.length=s.heap.length-1:=by
   simp only[fT,ZaB,Qs.dI];omega
  have hc:((s.heap.length-1:Nat):Int)=(s.heap.length:Int)-1:=by omega
  have Nx:=kQ h (i:=0) (j:=s.heap.length-1) xN (by omega);refine s8 rfl λk hk=>?_;rw[hl]at hk;have he:(fT s).e k=(s.swap (0:Nat) (s.heap.length-1:Nat)).e k:=by
   simp only[fT,Qs.e,Zag,List.getD,ZaQ,hk,if_true,hc];rfl
  have pP:(fT s).es=nD (s.swap (0:Nat) (s.heap.length-1:Nat)).es (s.e (0:Nat)).h:=by
   simp only[fT,hc];rfl
  rw[he,pP,Hn]
  ·exact Nx k (by simp;omega)
  ·rw[ic xN (by omega) (by omega),Zab (by omega)];have nd:=h.nd;by_cases h1:k=0
   ·subst h1;rw[Zai rfl];exact λe=>by have:=nd (s.heap.length-1) 0 (by omega) xN e;omega
   ·rw[Zab h1];exact λe=>h1 (nd k 0 (by omega) xN e)
end
section
variable{ak:bR}
def A3{x y:Int}{v:c8}(hx:0<=x/\x<ak.length)(hy:0<=y):bv (ak.set x.toNat v) y=if y=x then v else bv ak y:=by
 unfold bv;simp only[List.getD,ZbC];by_cases h:y=x
 ·subst h;have:y.toNat<ak.length:=by omega
  simp[this]
 ·have:¬x.toNat=y.toNat:=by omega
  simp[this,h]
def te{s:Qs}{i k:Nat}{x:Int}(hi:i<s.heap.length):(mJ s i x).e k=if k=i then⟨x,(s.e i).h,s.clock⟩else s.e k:=by
 simp only[mJ,Qs.e,Zag,List.getD,ZbC];by_cases h:k=i
 ·subst h;simp[hi]
 ·have:¬i=k:=λe=>h e.symm;simp[this,h]
def upd_heap{s:Qs}{i:Nat}{x:Int}{v:c8}(h:oz ak s)(hr:s.inR ak)(hi:i<s.heap.length)(hx:0<=x/\x<ak.length)(hix:(s.e i).x=x)
  (ho:∀k:Nat,k<s.heap.length->k≠i->(s.e k).x≠x) (hv:v.lt (bv ak x)):oz (ak.set x.toNat v) (Gp (ak.set x.toNat v) s i x):=by
 have hl:(mJ s i x).heap.length=s.heap.length:=by simp[mJ]
 have Gc:∀k:Nat,k<s.heap.length->0<=(s.e k).x:=λk hk=>(hr _ (fD.2 ⟨k,hk,rfl⟩)).1;have c7:∀k:Nat,k<s.heap.length->k≠i->bv (ak.set x.toNat v) (s.e k).x=bv ak (s.e k).x:=λk hk bT=>by
  rw[A3 hx (Gc k hk),Zab (ho k hk bT)]
 have hbef:∀k l:Nat,k<s.heap.length->l<s.heap.length->k≠i->l≠i->¬iC ak (s.e k) (s.e l)->¬iC (ak.set x.toNat v) (s.e k) (s.e l):=by
  intro k l hk Bl bT hne2 hb;unfold iC at hb⊢;rw[c7 k hk bT,c7 l Bl hne2];exact hb
 refine CY (by omega) (λk k1 k2 k3=>?_) (λk k1 k2 k3 k4=>?_)
 ·rw[hl]at k2;rw[te hi,te hi,Zab k3];by_cases e:(k-1)/2=i
  ·rw[Zai e];have hb:=h k k1 k2;rw[e]at hb;unfold iC at hb⊢;rw[c7 k k2 k3,A3 hx hx.1,Zai rfl];rw[hix]at hb;generalize bv ak (s.e k).x=w at*
   generalize bv ak x=u at*
   obtain⟨u1,u2⟩:=u;obtain⟨v1,v2⟩:=v;obtain⟨w1,w2⟩:=w;simp only[c8.lt]at*
   omega
  ·rw[Zab e];exact hbef k _ k2 (by omega) k3 e (h k k1 k2)
 ·rw[hl]at k2;have n1:k≠i:=by omega
  have n2:¬(i-1)/2=i:=by omega
  rw[te hi,te hi,Zab n1,Zab n2];have a:=h k k1 k2;rw[k3]at a;exact hbef k _ k2 (by omega) n1 n2 (gb (h i k4 hi) a)
end
section
variable{ak:bR}
def FQ{s:Qs}{i:Nat}{x:Int}(h:c6 s)(hi:i<s.heap.length):c6 (mJ s i x):=by
 intro k hk;have hl:(mJ s i x).heap.length=s.heap.length:=by simp[mJ]
 rw[hl]at hk;rw[te hi];show jM s.es _=_;by_cases h1:k=i
 ·subst h1;rw[Zai rfl];exact h k hk
 ·rw[Zab h1];exact h k hk
def updOk_of{s:Qs}{i:Nat}{x:Int}(ho:s.ok ak)(hp:c6 s)(hi:i<s.heap.length)(hx:0<=x/\x<ak.length)(hl:s.heap.length<=1000000)(hc:0<=s.clock/\s.clock<=1000000000000):M8 s ak (s.e i).h x:=by
 have Xj:(mJ s i x).heap.length=s.heap.length:=by simp[mJ]
 have Qu:c6 (Gp ak s i x):=uW (by omega) (FQ hp hi);have hs:=vJ (ak:=ak) (i:=i) (s:=mJ s i x) (by omega);have hm:(⟨x,(s.e i).h,s.clock⟩:kh)∈(Gp ak s i x).heap:=(hs.mem _).2 (fD.2 ⟨i,by omega,by rw[te hi,Zai rfl]⟩);obtain⟨j,hj,he⟩:=fD.1 hm;have hj2:=Qu j hj;rw[he]at hj2;have dM:(Gp ak s i x).heap.length=s.heap.length:=hs.len.trans Xj;exact⟨ho,⟨i,hp i hi,hi,j,hj2,by omega⟩,hx,hl,hc⟩
def WU{s:Qs}{i:Nat}{x:Int}(hp:c6 s)(hi:i<s.heap.length):c6 (tS ak s (s.e i).h x):=by
 have Xj:(mJ s i x).heap.length=s.heap.length:=by simp[mJ]
 unfold tS;rw[hp i hi];simp only[Zbd,Zag];exact s8 rfl (uW (by omega) (FQ hp hi))
def WV{s:Qs}{i:Nat}{x:Int}(hp:c6 s)(hi:i<s.heap.length)(h:oz ak (Gp ak s i x)):oz ak (tS ak s (s.e i).h x):=by
 unfold tS;rw[hp i hi];simp only[Zbd,Zag];exact WR h _
end
def Fc(n:aD)(r:di):Prop:=0<=r.head/\r.head<n.an/\0<=r.cq/\r.cq<=1000/\(r.kind=1\/(r.kind=2/\0<=r.a/\r.a<n.aL)\/(r.kind=3/\0<=r.a/\r.a<n.an)\/(r.kind=4/\0<=r.a/\r.a<n.an/\0<=r.b/\r.b<n.an))
def AD(n:aD):Prop:=1<=n.an/\n.an<=1000/\n.au.length<=600/\∀r∈n.au,Fc n r
def F7(l:aV):Prop:=1<=l.bn/\l.bn<=1000/\l.bE.length<=1000000000/\∀a∈l.bE,0<=a.aH/\a.aH<=1099511627776
def ownOk(n:aD)(own:eV):Prop:=(own.length:Int)=n.an/\∀x∈own,jj x.val
def stepT(r:di)(bE:List cw)(fr to i:Int)(x:Cell)(k:Nat):Cell:=
 if(bE.getD k default).f=fr/\(bE.getD k default).t=to/\(bE.getD k default).term=r.a then jV x (dU (r.cq+(bE.getD k default).aH) []) i k else x
def L9(r:di)(c:d6)(own:eV)(fr to i:Int)(x:Cell)(k:Nat):Cell:=
 jV x (dU r.cq [eJ c own fr to r.a fr (fr+k),eJ c own fr to r.b (fr+k) to]) i (fr+k)
def rj(r:di)(l:aV)(c:d6)(own:eV)(fr to i:Int)(x:Cell):Cell:=
 if r.kind=1 then(if fr=to then jV x (dU r.cq []) i fr else x)
 else if r.kind=2 then(List.range l.bE.length).foldl (stepT r l.bE fr to i) x
 else if r.kind=3 then jV x (dU r.cq [eJ c own fr to r.a fr to]) i fr
 else(List.range (to-fr+1).toNat).foldl (L9 r c own fr to i) x
def kA(n:aD)(l:aV)(c:d6)(own:eV)(fr to:Int)(i:Nat):Cell:=
 rj (n.au.getD i default) l c own fr to i (own.getD (n.au.getD i default).head.toNat default)
abbrev s69:DM.Spec:=cT (λts=>∃c l,ts=[ti c,.sl (bC l)]/\(∀v∈l,jj v)/\0<=c/\c<=4000000000000/\l.length<=1000000) (fun|[.int _ c,.sl l]=>.agg [ti (dU c (mT l)).aH,ti (dU c (mT l)).size]|_=>.bool false) true
@[simp] def valsT_nil2{l:bR}:bC l=[]↔l=[]:=by rw[eq_comm,V8]
def zb:∀v∈([]:bR),jj v:=λv h=>by cases h
section
variable{own:eV}{fr to h:Nat}
def mH(x:Cell):Prop:=jj x.val/\-1<=x.qE/\x.qE<=600/\0<=x.arg/\x.arg<=10000000000
def Fl(x:Cell):Nat:=((x.aH.toNat*2199023255552+x.size.toNat)*1024+(x.qE+1).toNat)*17179869184+x.arg.toNat
def goes(x y:Cell):Prop:=mH y/\(y=x\/Fl y<Fl x)
def kY{x:Cell}{v:c8}{r g:Int}(hx:mH x)(hv:jj v)(h1:0<=r)(h2:r<=600)(h3:0<=g)(h4:g<=10000000000):goes x (jV x v r g):=by
 obtain⟨xc,xs,xr,xg⟩:=x;obtain⟨vc,vs⟩:=v;obtain⟨⟨a1,a2,a3,a4⟩,a5,a6,a7,a8⟩:=hx;obtain⟨b1,b2,b3,b4⟩:=hv;simp only[]at a1 a2 a3 a4 a5 a6 a7 a8 b1 b2 b3 b4;unfold jV;split
 ·exact⟨⟨⟨a1,a2,a3,a4⟩,a5,a6,a7,a8⟩,.inl rfl⟩
 ·split
  ·rename_i h;refine⟨⟨⟨b1,b2,b3,b4⟩,by simp only;omega,by simp only;omega,by simp only;omega,by simp only;omega⟩,.inr ?_⟩;simp only[c8.lt,Cell.val,c8.mk.injEq]at h;simp only[Fl];omega
  ·exact⟨⟨⟨a1,a2,a3,a4⟩,a5,a6,a7,a8⟩,.inl rfl⟩
def vC{x:Cell}(h:mH x):goes x x:=⟨h,.inl rfl⟩
def Pf{x y z:Cell}(h:goes x y)(k:goes y z):goes x z:=by
 refine⟨k.1, ?_⟩;rcases h.2 with rfl|h2
 ·exact k.2
 ·rcases k.2 with rfl|k2
  ·exact .inr h2
  ·exact .inr (by omega)
def AC{f:Cell->Nat->Cell}{N:Nat}(hf:∀x k,k<N->mH x->goes x (f x k))(x:Cell)(hx:mH x):goes x ((List.range N).foldl f x):=by
 induction N with
 |zero=>exact vC hx
 |succ N ih=>
  rw[ZaR,ZaI];have h1:=ih λx k hk=>hf x k (by omega);exact Pf h1 (hf _ N (by omega) h1.1)
def zd{n:aD}{l:aV}{c:d6}{i:Nat}(hn:AD n)(hl:F7 l)(hc:NI c)(ho:ownOk n own)(hi:i<n.au.length)(vR:fr<=to)(ik:to<=1000)
  (hx:mH (own.getD (n.au.getD i default).head.toNat default)):goes (own.getD (n.au.getD i default).head.toNat default) (kA n l c own fr to i):=by
 unfold kA;obtain⟨r,hr⟩:=bb (n.au.getD i default);have hro:Fc n r:=hn.2.2.2 r (by rw[<-hr];exact bm hi);rw[hr]at hx⊢;obtain⟨x,mh⟩:=bb (own.getD r.head.toNat default);rw[mh]at hx⊢;obtain⟨q1,q2,q3,q4,q5⟩:=hro;have hi2:=hn.2.2.1;have hvp:∀h f t:Int,0<=h->h<n.an->jj (eJ c own fr to h f t):=λh f t h1 h2=>G2 ⟨hc,by have:=ho.1;have:=hn.2.1;omega,λ_=>⟨h1,by have:=ho.1;omega⟩⟩ ho.2;unfold rj;split
 ·split
  ·exact kY hx (ju zb q3 (by omega)) (by omega) (by omega) (by omega) (by omega)
  ·exact vC hx
 ·split
  ·refine AC (λx k hk hx=>?_) x hx;unfold stepT;split
   ·have:=hl.2.2.2 (l.bE.getD k default) (bm hk);have:=hl.2.2.1;exact kY hx (ju zb (by omega) (by omega)) (by omega) (by omega) (by omega) (by omega)
   ·exact vC hx
  ·split
   ·refine kY hx (ju (λv hv=>?_) q3 (by omega)) (by omega) (by omega) (by omega) (by omega);simp only[Zan]at hv;subst hv;exact hvp _ _ _ (by omega) (by omega)
   ·refine AC (λx k hk hx=>?_) x hx;unfold L9;refine kY hx (ju (λv hv=>?_) q3 (by omega)) (by omega) (by omega) (by omega) (by omega);simp only[Zah,Zal,or_false]at hv;rcases hv with rfl|rfl<;>exact hvp _ _ _ (by omega) (by omega)
def wl(own:eV):Nat:=(own.map Fl).sum
def V9{y:Cell}(hh:h<own.length)(hy:Fl y<Fl (own.getD h default)):wl (own.set h y)<wl own:=by
 induction own generalizing h with
 |nil=>simp at hh
 |cons x own ih=>
  cases h with
  |zero=>simp[wl]at hy⊢;omega
  |succ h=>
   have:=ih (h:=h) (by simpa using hh) (by simpa using hy);simp[wl]at this⊢;omega
def wk(n:aD)(l:aV)(c:d6)(fr to:Int)(own:eV)(k:Nat):eV:=own.set (n.au.getD k default).head.toNat (kA n l c own fr to k)
def nM(n:aD)(own:eV):Prop:=(own.length:Int)=n.an/\∀x∈own,mH x
def nM.ok{n:aD}(h:nM n own):ownOk n own:=⟨h.1,λx hx=>(h.2 x hx).1⟩
def Mc{n:aD}{l:aV}{c:d6}{k:Nat}(hn:AD n)(hl:F7 l)(hc:NI c)(ho:nM n own)(hk:k<n.au.length)(vR:fr<=to)(ik:to<=1000):
  nM n (wk n l c fr to own k)/\(kA n l c own fr to k≠own.getD (n.au.getD k default).head.toNat default->wl (wk n l c fr to own k)<wl own):=by
 have hro:=hn.2.2.2 (n.au.getD k default) (bm hk);have hh:(n.au.getD k default).head.toNat<own.length:=by have:=ho.1;have:=hro.1;have:=hro.2.1;omega
 have hg:=zd hn hl hc ho.ok hk vR ik (ho.2 _ (bm hh));refine⟨⟨by simpa [wk]using ho.1,λx hx=>?_⟩,λbT=>?_⟩
 ·rcases ZaS hx with h|rfl
  ·exact ho.2 x h
  ·exact hg.1
 ·rcases hg.2 with h|h
  ·exact Zar h bT
  ·exact V9 hh h
def Pb(n:aD)(l:aV)(c:d6)(fr to:Int)(own:eV):Prop:=∀k,k<n.au.length->kA n l c own fr to k=own.getD (n.au.getD k default).head.toNat default
def BP:mH lP:=by simp[mH,jj,lP]
def mI(n:aD)(l:aV)(c:d6)(fr to:Int)(own:eV)(y:Nat):eV:=(List.range y).foldl (wk n l c fr to) own
def BQ(n:aD)(l:aV)(c:d6)(fr to:Int)(own:eV)(y:Nat):mI n l c fr to own (y+1)=wk n l c fr to (mI n l c fr to own y) y:=by
 simp[mI,ZaR,ZaI]
def Md{x:Cell}(hx:x=own.getD h default):own.set h x=own:=by
 subst hx;apply ZbN;intro j;rw[ZbC];split
 ·rename_i e;subst e;split
  ·rename_i hl;simp[List.getD,hl]
  ·rename_i hl;rw[Zbs (by omega)]
 ·rfl
def AH{n:aD}{l:aV}{c:d6}{own:eV}{fr to:Nat}(hn:AD n)(hl:F7 l)(hc:NI c)(ho:nM n own)(vR:fr<=to)(ik:to<=1000):∀y,y<=n.au.length->
  nM n (mI n l c fr to own y)/\((mI n l c fr to own y=own/\∀k,k<y->kA n l c own fr to k=own.getD (n.au.getD k default).head.toNat default)\/wl (mI n l c fr to own y)<wl own)
 |0,_=>⟨ho,.inl ⟨rfl,λk h=>by omega⟩⟩
 |y+1,hy=>by
  obtain⟨h1,h2⟩:=AH hn hl hc ho vR ik y (by omega);obtain⟨h3,h4⟩:=Mc hn hl hc h1 (k:=y) (by omega) vR ik;rw[BQ];refine⟨h3, ?_⟩;by_cases e:kA n l c (mI n l c fr to own y) fr to y=(mI n l c fr to own y).getD (n.au.getD y default).head.toNat default
  ·have e2:wk n l c fr to (mI n l c fr to own y) y=mI n l c fr to own y:=Md e;rw[e2];rcases h2 with⟨g1,g2⟩|h2
   ·refine .inl ⟨g1,λk hk=>?_⟩;by_cases wH:k=y
    ·subst wH;rwa [g1]at e
    ·exact g2 k (by omega)
   ·exact .inr h2
  ·have:=h4 e;rcases h2 with⟨g1,g2⟩|h2
   ·rw[g1]at this⊢;exact .inr this
   ·exact .inr (by omega)
def G6(n:aD)(l:aV)(c:d6)(fr to:Int):Nat->eV->eV
 |0,own=>own
 |f+1,own=>if mI n l c fr to own n.au.length=own then own else G6 n l c fr to f (mI n l c fr to own n.au.length)
def Me(n:aD):eV:=List.replicate n.an.toNat lP
def mm(n:aD)(l:aV)(c:d6)(fr to:Int):eV:=G6 n l c fr to (wl (Me n)+1) (Me n)
def own0_ok{n:aD}(hn:AD n):nM n (Me n):=by
 refine⟨?_,λx hx=>?_⟩
 ·have:=hn.1;simp only[Me,Zby];omega
 ·rw[ZbI hx];exact BP
def Mp{n:aD}{l:aV}{c:d6}{fr to:Nat}(hn:AD n)(hl:F7 l)(hc:NI c)(vR:fr<=to)(ik:to<=1000)
  (P:eV->Prop) (hPs:∀own k,nM n own->k<n.au.length->P own->P (wk n l c fr to own k)):∀f own,wl own<f->nM n own->P own->nM n (G6 n l c fr to f own)/\P (G6 n l c fr to f own)/\Pb n l c fr to (G6 n l c fr to f own)
 |0,own,h,_,_=>by omega
 |f+1,own,h,ho,hp=>by
  obtain⟨h1,h2⟩:=AH hn hl hc ho vR ik n.au.length (Zaf _);have hpw:∀y,y<=n.au.length->P (mI n l c fr to own y):=by
   intro y;induction y with
   |zero=>intro _;exact hp
   |succ y ih=>intro hy;rw[BQ];exact hPs _ _ (AH hn hl hc ho vR ik y (by omega)).1 (by omega) (ih (by omega))
  unfold G6;split
  ·rename_i e;rcases h2 with⟨_,g⟩|h2
   ·exact⟨ho,hp,g⟩
   ·rw[e]at h2;omega
  ·rename_i e;rcases h2 with⟨g,_⟩|h2
   ·exact Zar g e
   ·exact Mp hn hl hc vR ik P hPs f _ (by omega) h1 (hpw _ (Zaf _))
def zc{n:aD}{l:aV}{c:d6}(hn:AD n)(hl:F7 l)(hc:NI c)(vR:fr<=to)(ik:to<=1000)
  (P:eV->Prop) (hP0:P (Me n)) (hPs:∀own k,nM n own->k<n.au.length->P own->P (wk n l c fr to own k)):nM n (mm n l c fr to)/\P (mm n l c fr to)/\Pb n l c fr to (mm n l c fr to):=
 Mp hn hl hc vR ik P hPs _ _ (by omega) (own0_ok hn) hP0
end
section
variable{st nn:Int}{f:Nat}{cells:eV}
def Ji(l:eV):iJ.iU (cu l).flatten=true:=by
 induction l with
 |nil=>rfl
 |cons x l ih=>simpa [cu,Cell.enc,iJ.iU,iJ]using ih
def Fe{k:Nat}(h:(k:Int)<=st)(hf:f<=k):pre st f<=pre st k:=by
 induction k with
 |zero=>
   obtain rfl:f=0:=by omega
   omega
 |succ k ih=>
  by_cases e:f=k+1
  ·subst e;omega
  ·have:=ih (by omega) (by omega);simp only[pre];omega
def Jj(st:Int):∀n:Nat,2*pre st n=n*(2*st-n+1)
 |0=>by simp[pre]
 |n+1=>by
  have:=Jj st n;simp only[pre];have e:2*(pre st n+st-n)=2*pre st n+2*st-2*n:=by omega
  rw[e,this]
  push_cast
  grind
def vE(h:0<=st):lR nn st=nn*pre st st.toNat:=by
 unfold lR;have h2:=Jj st st.toNat;rw[show((st.toNat:Nat):Int)=st by omega]at h2;have e:nn*st*(st+1)=2*(nn*pre st st.toNat):=by grind
 rw[e];omega
def Fg{t:Nat}(h1:0<nn)(h3:(t:Int)<st)(h4:f<=t){i:Int}(hi:i<nn):ef nn st f t+i<lR nn st:=by
 rw[vE (by omega)];have h5:=Fe (st:=st) (f:=f+1) (k:=st.toNat) (by omega) (by omega);simp only[pre]at h5;have h6:(pre st f+t-f+1)*nn<=pre st st.toNat*nn:=Zck (by omega) (by omega);unfold ef;rw[Int.mul_comm nn];have:(pre st f+t-f+1)*nn=(pre st f+t-f)*nn+nn:=by grind
 omega
def tE(cells own:eV)(wW:Nat)(y:Nat):eV:=(List.range y).foldl (λcs i=>cs.set (wW+i) (own.getD i default)) cells
def vD(cells own:eV)(wW y:Nat):tE cells own wW (y+1)=(tE cells own wW y).set (wW+y) (own.getD y default):=by simp[tE,ZaR,ZaI]
@[simp] def Mi(cells own:eV)(wW y:Nat):(tE cells own wW y).length=cells.length:=by
 induction y with
 |zero=>rfl
 |succ y ih=>rw[vD,List.length_set,ih]
def aaD{own:eV}{wW y:Nat}{x:Cell}(h:x∈tE cells own wW y)(hy:y<=own.length):x∈cells\/x∈own:=by
 induction y with
 |zero=>exact .inl h
 |succ y ih=>
  rw[vD]at h;rcases ZaS h with h|rfl
  ·exact ih h (by omega)
  ·exact .inr (bm (by omega))
def Ff(n:aD)(l:aV)(len:Nat)(cells:eV)(f:Nat):eV:=
 tE cells (mm n l ⟨n.an,l.bn,cells⟩ f ((f:Int)+len)) (ef n.an l.bn f (f+len)).toNat n.an.toNat
def aaB(n:aD)(l:aV)(cells:eV)(len:Nat):eV:=(List.range (l.bn.toNat-len)).foldl (Ff n l len) cells
def nK(n:aD)(l:aV):eV:=(List.range l.bn.toNat).foldl (aaB n l) (List.replicate (lR n.an l.bn).toNat ⟨0,0,0,0⟩)
def Mk{n:aD}{l:aV}{c:d6}{fr to:Nat}(hn:AD n)(hl:F7 l)(hc:NI c)(vR:fr<=to)(ik:to<=1000):nM n (mm n l c fr to):=
 (zc hn hl hc vR ik (λ_=>True) trivial λ_ _ _ _ _=>trivial).1
def kG(n:aD)(l:aV)(cells:eV):Prop:=(cells.length:Int)=lR n.an l.bn/\∀x∈cells,jj x.val
def kG.ok{n:aD}{l:aV}(hn:AD n)(hl:F7 l)(h:kG n l cells):NI ⟨n.an,l.bn,cells⟩:=by
 have h1:=hn.1;have h2:=hn.2.1;have h3:=hl.1;have h4:=hl.2.1;refine⟨by simp only;omega,h2,by simp only;omega,h4, ?_,h.2⟩;have:=vE (nn:=n.an) (st:=l.bn) (by omega);have hb:=(k9 h4 l.bn.toNat (by omega));have:=g9 (a:=n.an) (A:=1000) (b:=pre l.bn l.bn.toNat) (B:=1000000) (by omega) (by omega) hb.1 (by omega);have:=h.1;simp only;omega
def kG.step{n:aD}{l:aV}(hn:AD n)(hl:F7 l)(h:kG n l cells){len y:Nat}(vR:f+len<=1000)(hy:y<=n.an.toNat)(a:Nat):kG n l (tE cells (mm n l ⟨n.an,l.bn,cells⟩ f ((f:Int)+len)) a y):=by
 have ho:=Mk hn hl (h.ok hn hl) (fr:=f) (to:=f+len) (by omega) vR;rw[show((f+len:Nat):Int)=(f:Int)+len by omega]at ho;refine⟨by rw[Mi];exact h.1,λx hx=>?_⟩;rcases aaD hx (by have:=ho.1;omega)with hx|hx
 ·exact h.2 x hx
 ·exact(ho.2 x hx).1
def CN{n:aD}{l:aV}{cells:eV}(hn:AD n)(hl:F7 l)(h:kG n l cells){len:Nat}:∀k,(k+len:Nat)<=1001->kG n l ((List.range k).foldl (Ff n l len) cells)
 |0,_=>h
 |k+1,hk=>by
  rw[ZaR,ZaI];exact(CN hn hl h k (by omega)).step hn hl (by omega) (Zaf _) _
def cells0{n:aD}{l:aV}(hn:AD n)(hl:F7 l):kG n l (List.replicate (lR n.an l.bn).toNat ⟨0,0,0,0⟩):=by
 have h4:=hl.2.1;have hb:=(k9 h4 l.bn.toNat (by have:=hl.1;omega));have:=Zcq (a:=n.an) (by have:=hn.1;omega) hb.1;have:=vE (nn:=n.an) (st:=l.bn) (by have:=hl.1;omega);refine⟨by rw[Zby];omega,λx hx=>?_⟩;rw[ZbI hx];simp[jj]
def Ml{n:aD}{l:aV}(hn:AD n)(hl:F7 l):∀k:Nat,(k:Int)<=l.bn->kG n l ((List.range k).foldl (aaB n l) (List.replicate (lR n.an l.bn).toNat ⟨0,0,0,0⟩)):=by
 intro k;induction k with
 |zero=>intro _;exact cells0 hn hl
 |succ k ih=>
  intro hk;rw[ZaR,ZaI];exact CN hn hl (ih (by omega)) _ (by have:=hl.2.1;omega)
end
def FN(st:Int)(f:Nat):(f:Int)*st-((f:Int)*((f:Int)-1)).tdiv 2=pre st f:=by
 have h:=Jj st f;obtain⟨k,hk⟩:∃k:Nat,f*(f-1)=2*k:=by
  rcases(show(∃a,f=2*a)\/∃a,f=2*a+1 from by
   by_cases e:f % 2=0
   ·exact .inl ⟨f/2,by omega⟩
   ·exact .inr ⟨f/2,by omega⟩)with h|h
  ·obtain⟨a,rfl⟩:=h;exact⟨a*(2*a-1),by rw[Nat.mul_assoc]⟩
  ·obtain⟨a,rfl⟩:=h;exact⟨(2*a+1)*a,by rw[show 2*a+1-1=2*a by omega,Nat.mul_left_comm]⟩
 have wH:(f:Int)*((f:Int)-1)=2*(k:Int):=by
  cases f with
  |zero=>
    obtain rfl:k=0:=by omega
    simp
  |succ f=>rw[show f+1-1=f by omega]at hk;rw[show((f+1:Nat):Int)-1=(f:Int)by omega];exact_mod_cast hk
 rw[wH,show(2*(k:Int)).tdiv 2=k by rw[DP (by omega)];omega];have:(f:Int)*(2*st-f+1)=2*((f:Int)*st)-(f:Int)*((f:Int)-1):=by grind
 omega
def t64(c:d6)(f t:Nat)(h1:0<=c.an)(h2:c.an<=1000)(h3:c.bn<=1000)(h4:(f:Int)<=c.bn)(h5:t<=1000)(h6:f<=t):bl aj 151 [c.enc,ti f,ti t] (ti (ef c.an c.bn f t)):=by
 obtain⟨cn,cs,cl⟩:=c;simp only at h1 h2 h3 h4;have hb:=k9 h3 f h4;have hc:=FN cs f;have b1:=g9 (a:=(f:Int)) (A:=1000) (b:=cs) (B:=1000) (by omega) (by omega) (by omega) h3;have b2:=g9 (a:=(f:Int)) (A:=1000) (b:=(f:Int)) (B:=1000) (by omega) (by omega) (by omega) (by omega);have hff:(f:Int)*((f:Int)-1)=(f:Int)*f-f:=by grind
 have hffb:0<=(f:Int)*((f:Int)-1)/\(f:Int)*((f:Int)-1)<=1000000:=by
  refine⟨?_,by omega⟩;cases f with
  |zero=>simp
  |succ f=>exact Zcq (by omega) (by omega)
 obtain⟨P,hP⟩:=bb (pre cs f);rw[hP]at hb hc;have hq:((f:Int)*((f:Int)-1)).tdiv 2=(f:Int)*((f:Int)-1)/2:=DP hffb.1;have b3:=g9 (a:=P+t-f) (A:=2000000) (b:=cn) (B:=1000) (by omega) (by omega) h1 h2;have m1:IntKind.i64.wrap ((f:Int)*cs)=(f:Int)*cs:=aF (by omega);have m2:IntKind.i64.wrap ((f:Int)-1)=(f:Int)-1:=aF (by omega);have m3:IntKind.i64.wrap ((f:Int)*((f:Int)-1))=(f:Int)*((f:Int)-1):=aF (by omega);have m4:IntKind.i64.wrap (((f:Int)*((f:Int)-1)).tdiv 2)=((f:Int)*((f:Int)-1)).tdiv 2:=by rw[hq];exact aF (by omega)
 have m5:IntKind.i64.wrap ((f:Int)*cs-((f:Int)*((f:Int)-1)).tdiv 2)=P:=by rw[hc];exact aF (by omega)
 have m6:IntKind.i64.wrap (P+t)=P+t:=aF (by omega);have m7:IntKind.i64.wrap (P+t-f)=P+t-f:=aF (by omega);have m8:IntKind.i64.wrap ((P+t-f)*cn)=ef cn cs f t:=by unfold ef;rw[hP];exact aF (by omega)
 have aC:=cF;refine c64.ok (by simp) (aO ?_);simp[d6.enc];apply aa.ag aC fw [1,2,3];simp[d64r0];refine aa.le (Le.bi (o:=[]) (l:=[(1,.v (ti f)),(2,.v (ti t)),(3,.v (.box [ti cn,ti cs,.sl (cu cl)]))]) (ba:=1200) ?_ ?_ ?_ ?_) ?_;iterate 4(·simp)
 apply aa.ag aC fw [1,2,3,7];simp[d64r1,m1,m2,m3,m4,m5];apply aa.ag aC fw [6];simp[d64r2,m6,m7,m8];apply aa.ret;simp[Zm]
def zH(c:d6):Prop:=1<=c.an/\c.an<=1000/\1<=c.bn/\c.bn<=1000/\(c.cells.length:Int)=lR c.an c.bn
abbrev s64:DM.Spec:=cT (λts=>∃cn cs cl,∃f t:Int,ts=[.agg [ti cn,ti cs,.sl (cu cl)],ti f,ti t]/\0<=cn/\cn<=1000/\cs<=1000/\0<=f/\f<=cs/\t<=1000/\f<=t) (fun|[.agg [.int _ n,.int _ st,_],.int _ f,.int _ t]=>ti (ef n st f.toNat t.toNat)|_=>.bool false) true
def ok64:ay aj (bu [(151,s64)]):=by
 refine ay.cons ay.nil ?_;rintro ts ⟨cn,cs,cl,f,t,rfl,h1,h2,h3,h4,h5,h6,h7⟩;obtain⟨f,rfl⟩:=Zae h4;obtain⟨t,rfl⟩:=Zae (a:=t) (by omega);exact⟨by simpa [d6.enc]using t64 ⟨cn,cs,cl⟩ f t h1 h2 h3 h5 (by omega) (by omega),λ_=>rfl⟩
def t37(c:d6)(h f t:Int)(hc:zH c):bl aj 144 [c.enc,.agg [ti h,ti f,ti t]] (.agg (NJ c h f t).enc):=by
 obtain⟨cn,cs,cl⟩:=c;obtain⟨k1,k2,k3,k4,k5⟩:=hc;simp only at k1 k2 k3 k4 k5;obtain⟨R,hR⟩:=bb (NJ ⟨cn,cs,cl⟩ h f t);rw[hR];unfold NJ at hR;simp only at hR;have aC:=ok64;refine c37.ok (by simp) (aO ?_);simp[d6.enc];apply aa.ag aC fw [2,3,4];simp[d37r0];refine aa.le (Le.bi (o:=[(1005,.box [.v (ti 0),.v (ti 0),.v (ti 0),.v (ti 0)])]) (l:=[(2,.v (.box [ti cn,ti cs,.sl (cu cl)])),(3,.v (.box [ti h,ti f,ti t])),(4,.ptr 1005 0)]) (ba:=1200) ?_ ?_ ?_ ?_) ?_;iterate 4(·simp)
 apply aa.seq;obtain⟨c1,bU⟩:=bb (decide (h<0\/h>=cn\/f<0\/t<f\/t>=cs):Bool);refine aa.cz aC fw [(2,.v (.box [ti cn,ti cs,.sl (cu cl)])),(3,.v (.box [ti h,ti f,ti t])),(4,.ptr 1005 0),(35,.v (.bool c1))] ?_ ?_
 ·by_cases q1:h<0
  ·have:c1=true:=by rw[<-bU];simp[q1]
   simp[Eh,q1,this]
  ·skip
   by_cases q2:h>=cn
   ·have:c1=true:=by rw[<-bU];simp[q2]
    simp[Eh,q1,q2,this]
   ·skip
    by_cases q3:f<0
    ·have:c1=true:=by rw[<-bU];simp[q3]
     simp[Eh,q1,q2,q3,this]
    ·skip
     by_cases q4:t<f
     ·have:c1=true:=by rw[<-bU];simp[q4]
      simp[Eh,q1,q2,q3,q4,this]
     ·skip
      by_cases q5:t>=cs
      ·have:c1=true:=by rw[<-bU];simp[q5]
       simp[Eh,q1,q2,q3,q4,q5,this]
      ·skip
       have:c1=false:=by rw[<-bU];simp[q1,q2,q3,q4,q5]
       simp[Eh,q1,q2,q3,q4,q5,this]
 refine aa.cond rfl (λg1=>?_) (λg1=>?_)
 ·rw[g1]at bU;rw[Zai (Zat bU)]at hR;subst hR;apply aa.ag aC fw [4];simp[d37r2];apply aa.ret;simp[ON,lP,Cell.enc]
 ·rw[g1]at bU;have bU:=Zay bU;rw[Zab bU]at hR;obtain⟨f,rfl⟩:=Zae (a:=f) (by omega);obtain⟨t,rfl⟩:=Zae (a:=t) (by omega);simp only[Zag]at hR;have hlt:=Fg (nn:=cn) (st:=cs) (f:=f) (t:=t) (by omega) (by omega) (by omega) (i:=h) (by omega);have hib:=k9 k4 f (by omega);have hcp:=vE (nn:=cn) (st:=cs) (by omega);have hpn:pre cs 1<=pre cs cs.toNat:=Fe (by omega) (by omega);have hp1:pre cs 1=cs:=by simp[pre]
  have QD:cn*cs<=cn*pre cs cs.toNat:=ZcP (by omega) (by omega);have NX:cn*1<=cn*cs:=ZcP (by omega) (by omega);have hm3:1*cs<=cn*cs:=Zck (by omega) (by omega);have hi0:0<=ef cn cs f t:=by unfold ef;exact Zcq (by omega) (by omega)
  obtain⟨I,hI⟩:=bb (ef cn cs f t);rw[hI]at hlt hi0 hR;obtain⟨i,hi⟩:=Zae (a:=I+h) (by omega);rw[hi]at hR;have As:i<cl.length:=by omega
  have aT:cl.length<=1000000000000:=by
   have hb:=k9 k4 cs.toNat (by omega);have:=g9 (a:=cn) (A:=1000) (b:=pre cs cs.toNat) (B:=1000000) (by omega) (by omega) hb.1 (by omega);omega
  apply aa.skip;simp;apply aa.ag aC fw [2,3,4,5];simp[d37r3];apply aa.seq;have q1:¬(t:Int)>cl.length:=by omega
  have q2:¬cs>cl.length:=by omega
  have q3:¬cn>cl.length:=by omega
  have q4:¬h>=cl.length:=by omega
  have q1n:¬cl.length<t:=by omega
  refine aa.cz aC fw [(2,.v (.box [ti cn,ti cs,.sl (cu cl)])),(3,.v (.box [ti h,ti f,ti t])),(4,.ptr 1005 0),(5,.v (ti cl.length)),(71,.v (.bool false))] ?_ ?_
  ·by_cases z1:0<f
   ·by_cases z2:0<t
    ·simp[Lc,q1,q1n,q2,q3,q4,z1,z2]
    ·simp[Lc,q1,q1n,q2,q3,q4,z1,z2]
   ·by_cases z2:0<t
    ·simp[Lc,q1,q1n,q2,q3,q4,z1,z2]
    ·simp[Lc,q1,q1n,q2,q3,q4,z1,z2]
  refine aa.cond rfl (λg4=>?_) (λg4=>?_)
  ·exact Zar g4 (by simp)
  ·apply aa.skip;simp;apply aa.ag aC fw [2,4,5,6];simp[d37r6,Zba,hI,hi,aF (x:=(i:Int)) (by omega)];repeat (refine⟨by omega, ?_⟩)
   apply aa.seq;apply aa.ag aC fw [2,4,6,84];simp[d37r7];refine aa.cond rfl (λg7=>?_) (λg7=>?_)
   ·exact Zar g7 (by simp;omega)
   ·apply aa.skip;simp;have rr:=BO As;have zQ:cl.getD i default=R:=by rw[<-hR];simp[List.getD,As]
    rw[zQ]at rr;obtain⟨rc,rz,rr1,ra⟩:=R;apply aa.ag aC fw [4];simp[d37r9,As,rr,Cell.enc];apply aa.ret;simp[ON]
def kindOk(n:aD)(r:di):Prop:=
 if r.kind=1 then r.a=0/\r.b=0 else if r.kind=2 then r.a>=0/\r.a<n.aL/\r.b=0 else if r.kind=3 then r.a>=0/\r.a<n.an/\r.b=0
 else if r.kind=4 then r.a>=0/\r.a<n.an/\r.b>=0/\r.b<n.an else False
instance(n:aD)(r:di):Decidable (kindOk n r):=by unfold kindOk;infer_instance
def gE(n:aD)(r:di):Prop:=¬(r.head<0\/r.head>=n.an\/r.cq<0\/r.cq>1000\/r.origin< -1)
instance(n:aD)(r:di):Decidable (gE n r):=by unfold gE;infer_instance
def nT(n:aD):Prop:=¬(n.aL<0\/n.aL>120\/n.an<1\/n.an>1000\/n.start<0\/n.start>=n.an\/(n.au.length:Int)>600)
instance(n:aD):Decidable (nT n):=by unfold nT;infer_instance
def dO(n:aD):Prop:=nT n/\∀i,i<n.au.length->gE n (n.au.getD i default)/\kindOk n (n.au.getD i default)
instance(n:aD):Decidable (dO n):=by unfold dO;infer_instance
def dO.ok{n:aD}(h:dO n):AD n:=by
 obtain⟨h1,h2⟩:=h;unfold nT at h1;refine⟨by omega,by omega,by omega,λr hr=>?_⟩;obtain⟨i,hi,rfl⟩:=ZaO hr;obtain⟨h3,h4⟩:=h2 i hi;rw[show n.au.getD i default=n.au[i]by simp[List.getD,hi]]at h3 h4;unfold gE at h3;unfold kindOk at h4;unfold Fc;refine⟨by omega,by omega,by omega,by omega, ?_⟩;split at h4
 ·exact .inl (by assumption)
 ·split at h4
  ·exact .inr (.inl ⟨by assumption,by omega,by omega⟩)
  ·split at h4
   ·exact .inr (.inr (.inl ⟨by assumption,by omega,by omega⟩))
   ·split at h4
    ·exact .inr (.inr (.inr ⟨by assumption,by omega,by omega,by omega,by omega⟩))
    ·exact h4.elim
def t20(n:aD)(hl:n.au.length<=9223372036854775807):bl aj 34 [n.enc] (.bool (decide (dO n))):=by
 obtain⟨nt,nn,ns,au⟩:=n;obtain⟨v,hv⟩:=bb (decide (dO ⟨nt,nn,ns,au⟩));rw[hv];simp only at hl;have c7:dO ⟨nt,nn,ns,au⟩↔nT ⟨nt,nn,ns,au⟩/\∀i,i<au.length->gE ⟨nt,nn,ns,au⟩ (au.getD i default)/\kindOk ⟨nt,nn,ns,au⟩ (au.getD i default):=Iff.rfl;have cZ:¬dO ⟨nt,nn,ns,au⟩->v=false:=λh=>by rw[<-hv];simp[h]
 have aC:=cF;refine c20.ok (by simp) (aO ?_);simp[aD.enc];apply aa.ag aC fw [1];simp[d20r0];refine aa.le (Le.bi (o:=[]) (l:=[(1,.v (.box [ti nt,ti nn,ti ns,.sl (aU au)]))]) (ba:=1200) ?_ ?_ ?_ ?_) ?_;iterate 4(·simp)
 apply aa.seq;obtain⟨c1,bU⟩:=bb (decide (nt<0\/nt>120\/nn<1\/nn>1000\/ns<0\/ns>=nn\/(au.length:Int)>600):Bool);refine aa.cz aC fw [(1,.v (.box [ti nt,ti nn,ti ns,.sl (aU au)])),(41,.v (.bool c1))] ?_ ?_
 ·by_cases q1:nt<0
  ·have:c1=true:=by rw[<-bU];simp[q1]
   simp[yM,q1,this]
  ·skip
   by_cases q2:nt>120
   ·have:c1=true:=by rw[<-bU];simp[q2]
    simp[yM,q1,q2,this]
   ·skip
    by_cases q3:nn<1
    ·have:c1=true:=by rw[<-bU];simp[q3]
     simp[yM,q1,q2,q3,this]
    ·skip
     by_cases q4:nn>1000
     ·have:c1=true:=by rw[<-bU];simp[q4]
      simp[yM,q1,q2,q3,q4,this]
     ·skip
      by_cases q5:ns<0
      ·have:c1=true:=by rw[<-bU];simp[q5]
       simp[yM,q1,q2,q3,q4,q5,this]
      ·skip
       by_cases q6:ns>=nn
       ·have:c1=true:=by rw[<-bU];simp[q6]
        simp[yM,q1,q2,q3,q4,q5,q6,this]
       ·skip
        by_cases q7:(au.length:Int)>600
        ·have:c1=true:=by rw[<-bU];simp[q7]
         simp[yM,q1,q2,q3,q4,q5,q6,q7,this]
        ·skip
         have:c1=false:=by rw[<-bU];simp[q1,q2,q3,q4,q5,q6,q7]
         simp[yM,q1,q2,q3,q4,q5,q6,q7,this]
 refine aa.cond rfl (λh1=>?_) (λh1=>?_)
 ·rw[h1]at bU;have bU:=Zat bU;apply aa.ag aC fw [2];simp[d20r2];apply aa.ret;rw[cZ λh=>(c7.1 h).1 bU];simp[sF]
 ·rw[h1]at bU;have bU:=Zay bU;apply aa.skip;simp;apply aa.seq;apply aa.ag aC fw [1,3];simp[d20r3];apply aa.block;refine aa.loop (λy:Nat=>⟨DM.look [(1,.v (.box [ti nt,ti nn,ti ns,.sl (aU au)])),(3,.v (ti y))],cM [],2000,1000,[]⟩)
   (λy=>y<=au.length/\∀i,i<y->gE ⟨nt,nn,ns,au⟩ (au.getD i default)/\kindOk ⟨nt,nn,ns,au⟩ (au.getD i default)) (λy=>au.length-y) 0 (Le.bi (o:=[]) ?_ ?_ ?_ ?_) (by simp) (λy hy=>?_)
  iterate 4(·simp)
  obtain⟨lq,fJ⟩:=hy;apply aa.seq;apply aa.ag aC fw [1,3,46];simp[d20r4];refine aa.cond rfl (λcR=>?_) (λcR=>?_)
  ·have cR:y<au.length:=by simpa using cR
   apply aa.skip;simp;apply aa.seq;apply aa.block;have rr:=kZ cR;obtain⟨⟨rk,rh,ra,rb,rp,rg⟩,hr⟩:=bb (au.getD y default);rw[hr]at rr;apply aa.ag aC fw [1,3,4];simp[d20r5,cR,rr,di.enc];refine aa.le (Le.bi (o:=[]) (l:=[(1,.v (.box [ti nt,ti nn,ti ns,.sl (aU au)])),(3,.v (ti y)),(4,.v (.box [ti rk,ti rh,ti ra,ti rb,ti rp,ti rg]))]) (ba:=2400) ?_ ?_ ?_ ?_) ?_;iterate 4(·simp)
   apply aa.seq;obtain⟨c2,gI⟩:=bb (decide (rh<0\/rh>=nn\/rp<0\/rp>1000\/rg< -1):Bool);refine aa.cz aC fw [(1,.v (.box [ti nt,ti nn,ti ns,.sl (aU au)])),(3,.v (ti y)),(4,.v (.box [ti rk,ti rh,ti ra,ti rb,ti rp,ti rg])),(78,.v (.bool c2))] ?_ ?_
   ·by_cases q1:rh<0
    ·have:c2=true:=by rw[<-gI];simp[q1]
     simp[Ee,q1,this]
    ·skip
     by_cases q2:rh>=nn
     ·have:c2=true:=by rw[<-gI];simp[q2]
      simp[Ee,q1,q2,this]
     ·skip
      by_cases q3:rp<0
      ·have:c2=true:=by rw[<-gI];simp[q3]
       simp[Ee,q1,q2,q3,this]
      ·skip
       by_cases q4:rp>1000
       ·have:c2=true:=by rw[<-gI];simp[q4]
        simp[Ee,q1,q2,q3,q4,this]
       ·skip
        by_cases q5:rg< -1
        ·have:c2=true:=by rw[<-gI];simp[q5]
         simp[Ee,q1,q2,q3,q4,q5,this]
        ·skip
         have:c2=false:=by rw[<-gI];simp[q1,q2,q3,q4,q5]
         simp[Ee,q1,q2,q3,q4,q5,this]
   refine aa.cond rfl (λh2=>?_) (λh2=>?_)
   ·rw[h2]at gI;have gI:=Zat gI;apply aa.ag aC fw [2];simp[d20r7];apply aa.ret;rw[cZ λh=>((c7.1 h).2 y cR).1 (by rw[hr];exact gI)];simp[sF]
   ·rw[h2]at gI;have gI:gE ⟨nt,nn,ns,au⟩ ⟨rk,rh,ra,rb,rp,rg⟩:=Zay gI;apply aa.skip;simp;obtain⟨k1,pJ⟩:=bb (decide (kindOk ⟨nt,nn,ns,au⟩ ⟨rk,rh,ra,rb,rp,rg⟩):Bool);have Cd:=pJ;have pJ:k1=true↔kindOk ⟨nt,nn,ns,au⟩ ⟨rk,rh,ra,rb,rp,rg⟩:=by rw[<-Cd,decide_eq_true_iff]
    simp only[kindOk]at pJ;apply aa.ag aC fw [1,3,4,5];simp[d20r8];apply aa.seq;apply aa.ag aC fw [1,3,4,5,80];simp[d20r9];apply aa.block;apply aa.ag aC fw [1,3,4,5,80,81];simp[Zh];refine aa.cond rfl (λg1=>?_) (λg1=>?_)
    ·have g1:rk=1:=by simpa using g1
     rw[Zai g1]at pJ;have wH:decide (ra=0/\rb=0)=k1:=by cases k1<;>simp at pJ⊢<;>first|exact pJ|omega
     refine aa.Ij aC fw [(1,.v (.box [ti nt,ti nn,ti ns,.sl (aU au)])),(3,.v (ti y)),(5,.v (.bool k1))] ?_ ?_
     ·by_cases q1:ra=0
      ·skip
       by_cases q2:rb=0
       ·skip
        have:k1=true:=by rw[<-wH];simp[q1,q2]
        simp[Ix,q1,q2,this]
       ·have:k1=false:=by rw[<-wH];simp[q2]
        simp[Ix,q1,q2,this]
      ·have:k1=false:=by rw[<-wH];simp[q1]
       simp[Ix,q1,this]
     apply aa.ag aC fw [1,3,150];simp[Ay];refine aa.cond rfl (λh5=>?_) (λh5=>?_)
     ·skip
      apply aa.ag aC fw [2];simp[Az];apply aa.ret;rw[cZ λh=>by
       have h6:=((c7.1 h).2 y cR).2;rw[hr]at h6;rw[decide_eq_true h6]at Cd
       simp_all]
      simp[sF]
     ·skip
      apply aa.skip;simp;have pJ:kindOk ⟨nt,nn,ns,au⟩ ⟨rk,rh,ra,rb,rp,rg⟩:=Zat (by rw[Cd];simp_all);apply aa.fK aC fw [1,3];simp[AA];rw[aF (x:=(y:Int)+1) (by omega)];refine⟨y+1,Le.bi (o:=[]) ?_ ?_ ?_ ?_,⟨by omega,λi hi=>?_⟩,by omega⟩;iterate 4(·simp)
      ·by_cases e:i=y
       ·subst e;show gE _ (au.getD i default)/\kindOk _ (au.getD i default);rw[hr];exact⟨gI,pJ⟩
       ·exact fJ i (by omega)
    ·have g1:¬rk=1:=by simpa using g1
     rw[Zab g1]at pJ;apply aa.ag aC fw [1,3,4,5,80,91];simp[Zi];refine aa.cond rfl (λg2=>?_) (λg2=>?_)
     ·have g2:rk=2:=by simpa using g2
      rw[Zai g2]at pJ;have wH:decide (ra>=0/\ra<nt/\rb=0)=k1:=by cases k1<;>simp at pJ⊢<;>first|exact pJ|omega
      refine aa.Ij aC fw [(1,.v (.box [ti nt,ti nn,ti ns,.sl (aU au)])),(3,.v (ti y)),(5,.v (.bool k1))] ?_ ?_
      ·by_cases q1:ra>=0
       ·skip
        by_cases q2:ra<nt
        ·skip
         by_cases q3:rb=0
         ·skip
          have:k1=true:=by rw[<-wH];simp[q1,q2,q3]
          simp[Ef,q1,q2,q3,this]
         ·have:k1=false:=by rw[<-wH];simp[q3]
          simp[Ef,q1,q2,q3,this]
        ·have:k1=false:=by rw[<-wH];simp[q2]
         simp[Ef,q1,q2,this]
       ·have:k1=false:=by rw[<-wH];simp[q1]
        simp[Ef,q1,this]
      apply aa.ag aC fw [1,3,150];simp[Ay];refine aa.cond rfl (λh5=>?_) (λh5=>?_)
      ·skip
       apply aa.ag aC fw [2];simp[Az];apply aa.ret;rw[cZ λh=>by
        have h6:=((c7.1 h).2 y cR).2;rw[hr]at h6;rw[decide_eq_true h6]at Cd
        simp_all]
       simp[sF]
      ·skip
       apply aa.skip;simp;have pJ:kindOk ⟨nt,nn,ns,au⟩ ⟨rk,rh,ra,rb,rp,rg⟩:=Zat (by rw[Cd];simp_all);apply aa.fK aC fw [1,3];simp[AA];rw[aF (x:=(y:Int)+1) (by omega)];refine⟨y+1,Le.bi (o:=[]) ?_ ?_ ?_ ?_,⟨by omega,λi hi=>?_⟩,by omega⟩;iterate 4(·simp)
       ·by_cases e:i=y
        ·subst e;show gE _ (au.getD i default)/\kindOk _ (au.getD i default);rw[hr];exact⟨gI,pJ⟩
        ·exact fJ i (by omega)
     ·have g2:¬rk=2:=by simpa using g2
      rw[Zab g2]at pJ;apply aa.ag aC fw [1,3,4,5,80,108];simp[Zj];refine aa.cond rfl (λg3=>?_) (λg3=>?_)
      ·have g3:rk=3:=by simpa using g3
       rw[Zai g3]at pJ;have wH:decide (ra>=0/\ra<nn/\rb=0)=k1:=by cases k1<;>simp at pJ⊢<;>first|exact pJ|omega
       refine aa.Ij aC fw [(1,.v (.box [ti nt,ti nn,ti ns,.sl (aU au)])),(3,.v (ti y)),(5,.v (.bool k1))] ?_ ?_
       ·by_cases q1:ra>=0
        ·skip
         by_cases q2:ra<nn
         ·skip
          by_cases q3:rb=0
          ·skip
           have:k1=true:=by rw[<-wH];simp[q1,q2,q3]
           simp[Eg,q1,q2,q3,this]
          ·have:k1=false:=by rw[<-wH];simp[q3]
           simp[Eg,q1,q2,q3,this]
         ·have:k1=false:=by rw[<-wH];simp[q2]
          simp[Eg,q1,q2,this]
        ·have:k1=false:=by rw[<-wH];simp[q1]
         simp[Eg,q1,this]
       apply aa.ag aC fw [1,3,150];simp[Ay];refine aa.cond rfl (λh5=>?_) (λh5=>?_)
       ·skip
        apply aa.ag aC fw [2];simp[Az];apply aa.ret;rw[cZ λh=>by
         have h6:=((c7.1 h).2 y cR).2;rw[hr]at h6;rw[decide_eq_true h6]at Cd
         simp_all]
        simp[sF]
       ·skip
        apply aa.skip;simp;have pJ:kindOk ⟨nt,nn,ns,au⟩ ⟨rk,rh,ra,rb,rp,rg⟩:=Zat (by rw[Cd];simp_all);apply aa.fK aC fw [1,3];simp[AA];rw[aF (x:=(y:Int)+1) (by omega)];refine⟨y+1,Le.bi (o:=[]) ?_ ?_ ?_ ?_,⟨by omega,λi hi=>?_⟩,by omega⟩;iterate 4(·simp)
        ·by_cases e:i=y
         ·subst e;show gE _ (au.getD i default)/\kindOk _ (au.getD i default);rw[hr];exact⟨gI,pJ⟩
         ·exact fJ i (by omega)
      ·have g3:¬rk=3:=by simpa using g3
       rw[Zab g3]at pJ;apply aa.ag aC fw [1,3,4,5,125];simp[Zk];refine aa.cond rfl (λg4=>?_) (λg4=>?_)
       ·have g4:rk=4:=by simpa using g4
        rw[Zai g4]at pJ;have wH:decide (ra>=0/\ra<nn/\rb>=0/\rb<nn)=k1:=by cases k1<;>simp at pJ⊢<;>first|exact pJ|omega
        refine aa.Ij aC fw [(1,.v (.box [ti nt,ti nn,ti ns,.sl (aU au)])),(3,.v (ti y)),(5,.v (.bool k1))] ?_ ?_
        ·by_cases q1:ra>=0
         ·skip
          by_cases q2:ra<nn
          ·skip
           by_cases q3:rb>=0
           ·skip
            by_cases q4:rb<nn
            ·skip
             have:k1=true:=by rw[<-wH];simp[q1,q2,q3,q4]
             simp[Ax,q1,q2,q3,q4,this]
            ·have:k1=false:=by rw[<-wH];simp[q4]
             simp[Ax,q1,q2,q3,q4,this]
           ·have:k1=false:=by rw[<-wH];simp[q3]
            simp[Ax,q1,q2,q3,this]
          ·have:k1=false:=by rw[<-wH];simp[q2]
           simp[Ax,q1,q2,this]
         ·have:k1=false:=by rw[<-wH];simp[q1]
          simp[Ax,q1,this]
        apply aa.ag aC fw [1,3,150];simp[Ay];refine aa.cond rfl (λh5=>?_) (λh5=>?_)
        ·skip
         apply aa.ag aC fw [2];simp[Az];apply aa.ret;rw[cZ λh=>by
          have h6:=((c7.1 h).2 y cR).2;rw[hr]at h6;rw[decide_eq_true h6]at Cd
          simp_all]
         simp[sF]
        ·skip
         apply aa.skip;simp;have pJ:kindOk ⟨nt,nn,ns,au⟩ ⟨rk,rh,ra,rb,rp,rg⟩:=Zat (by rw[Cd];simp_all);apply aa.fK aC fw [1,3];simp[AA];rw[aF (x:=(y:Int)+1) (by omega)];refine⟨y+1,Le.bi (o:=[]) ?_ ?_ ?_ ?_,⟨by omega,λi hi=>?_⟩,by omega⟩;iterate 4(·simp)
         ·by_cases e:i=y
          ·subst e;show gE _ (au.getD i default)/\kindOk _ (au.getD i default);rw[hr];exact⟨gI,pJ⟩
          ·exact fJ i (by omega)
       ·have g4:¬rk=4:=by simpa using g4
        rw[Zab g4]at pJ;have wH:k1=false:=by cases k1<;>simp at pJ⊢
        rw[wH]at Cd;apply aa.skip;simp;apply aa.ag aC fw [1,3,150];simp[Ay];refine aa.cond rfl (λh5=>?_) (λh5=>?_)
        ·skip
         apply aa.ag aC fw [2];simp[Az];apply aa.ret;rw[cZ λh=>by
          have h6:=((c7.1 h).2 y cR).2;rw[hr]at h6;rw[decide_eq_true h6]at Cd
          simp_all]
         simp[sF]
        ·skip
         apply aa.skip;simp;have pJ:kindOk ⟨nt,nn,ns,au⟩ ⟨rk,rh,ra,rb,rp,rg⟩:=Zat (by rw[Cd];simp_all);apply aa.fK aC fw [1,3];simp[AA];rw[aF (x:=(y:Int)+1) (by omega)];refine⟨y+1,Le.bi (o:=[]) ?_ ?_ ?_ ?_,⟨by omega,λi hi=>?_⟩,by omega⟩;iterate 4(·simp)
         ·by_cases e:i=y
          ·subst e;show gE _ (au.getD i default)/\kindOk _ (au.getD i default);rw[hr];exact⟨gI,pJ⟩
          ·exact fJ i (by omega)
  ·have hy3:y=au.length:=by simp at cR;omega
   subst hy3;apply aa.exit;simp;apply aa.ag aC fw [2];simp[Zl];apply aa.ret;have:v=true:=by rw[<-hv];exact decide_eq_true (c7.2 ⟨bU,fJ⟩)
   rw[this];simp[sF]
structure bF where
 head:Int
 dy:bO
 (aH l0 l1:Int)
 deriving DecidableEq,Inhabited
def bF.enc(e:bF):aK:=[ti e.head,.sl (aG e.dy),ti e.aH,ti e.l0,ti e.l1]
def bk(l:List bF):List (aK):=l.map bF.enc
def decHE:aK->bF
 |[a,.sl b,c,d,e]=>⟨dH a,lS b,dH c,dH d,dH e⟩
 |_=>default
def Fm(l:List (aK)):List bF:=l.map decHE
@[simp] def Wa(r:bF):decHE r.enc=r:=by simp[decHE,bF.enc,dH]
@[simp] def decHEs_enc(l:List bF):Fm (bk l)=l:=gq Wa l
@[simp] def hedgesT_len(l:List bF):(bk l).length=l.length:=by simp[bk]
@[simp] def hedgesT_inj{a b:List bF}:bk a=bk b↔a=b:=⟨λh=>by have:=congrArg Fm h;simpa using this,λh=>by rw[h]⟩
def jX{l:List bF}{y:Nat}(h:y<l.length):DM.rowAt (bk l) y=(l.getD y default).enc:=by simp[DM.rowAt,bk,h]
def jk(r:di):bO:=if r.kind=3 then [r.a]else if r.kind=4 then [r.a,r.b]else []
def t93(r:di):bl aj 98 [.agg r.enc] (.sl (aG (jk r))):=by
 obtain⟨rk,rh,ra,rb,rp,rg⟩:=r;obtain⟨R,hR⟩:=bb (jk ⟨rk,rh,ra,rb,rp,rg⟩);rw[hR];simp only[jk]at hR;have aC:=cF;refine c93.ok (by simp) (aO ?_);simp[di.enc];apply aa.ag aC fw [1];simp[d93r0];refine aa.le (Le.bi (o:=[]) (l:=[(1,.v (.box [ti rk,ti rh,ti ra,ti rb,ti rp,ti rg]))]) (ba:=1200) ?_ ?_ ?_ ?_) ?_;iterate 4(·simp)
 apply aa.seq;apply aa.ag aC fw [1,4];simp[d93r1];apply aa.block;apply aa.ag aC fw [1,4,5];simp[d93r2];refine aa.cond rfl (λh1=>?_) (λh1=>?_)
 ·have h1:rk=3:=by simpa using h1
  rw[Zai h1]at hR;subst hR;apply aa.ag aC fw [2];simp[d93r3,fU];apply aa.ret;simp[Iu,aG]
 ·have h1:¬rk=3:=by simpa using h1
  rw[Zab h1]at hR;apply aa.ag aC fw [1,10];simp[d93r4];refine aa.cond rfl (λh2=>?_) (λh2=>?_)
  ·have h2:rk=4:=by simpa using h2
   rw[Zai h2]at hR;subst hR;apply aa.ag aC fw [2];simp[d93r5,fU];apply aa.ret;simp[Iu,aG]
  ·have h2:¬rk=4:=by simpa using h2
   rw[Zab h2]at hR;subst hR;apply aa.skip;simp;apply aa.ag aC fw [2];simp[d93r6];apply aa.ret;simp[Iu,aG]
def dR(v:bR)(ts:bO):bR:=ts.map λt=>v.getD t.toNat default
def t91(e:bF)(v:bR)(h:∀t∈e.dy,0<=t/\t<v.length)(hl:e.dy.length<=1000000):oW aj 96 [.agg e.enc,.sl (bC v)] 63 2 (bC (dR v e.dy)):=by
 obtain⟨eh,ts,ec,e0,e1⟩:=e;simp only at h hl;have aC:=cF;refine c91.okF (by simp) (aO ?_);simp[bF.enc];apply aa.ag aC fw [1,2];simp[d91r0];refine aa.le (Le.bi (o:=[]) (l:=[(1,.v (.sl (bC v))),(2,.v (.box [ti eh,.sl (aG ts),ti ec,ti e0,ti e1]))]) (ba:=1200) ?_ ?_ ?_ ?_) ?_;iterate 4(·simp)
 apply aa.ag aC fw [1,2,5];simp[d91r1];refine aa.le (Le.bi (o:=[]) (l:=[(1,.v (.sl (bC v))),(2,.v (.box [ti eh,.sl (aG ts),ti ec,ti e0,ti e1])),(5,.aW)]) (ba:=1400) ?_ ?_ ?_ ?_) ?_;iterate 4(·simp)
 refine aa.le (Le.vr (k:=5) 63 (sz:=2) (by omega) (by simp)) ?_;rw[ky];apply aa.seq;apply aa.ag aC fw [1,2,5,6];simp[d91r2];apply aa.block;refine aa.loop (λy:Nat=>⟨DM.look [(1,.v (.sl (bC v))),(2,.v (.box [ti eh,.sl (aG ts),ti ec,ti e0,ti e1])),(5,.bA 1400 0),(6,.v (ti y))],cM [(1400,.arr 0 63 2 (bC (dR v (ts.take y))))],1600,1000,[]⟩)
  (λy=>y<=ts.length) (λy=>ts.length-y) 0 (Le.bi ?_ ?_ ?_ ?_) (by simp) (λy hy=>?_)
 ·simp
 ·simp
 ·simp[dR]
 ·simp
 apply aa.seq;apply aa.ag aC fw [1,2,5,6,11];simp[d91r3];refine aa.cond rfl (λcR=>?_) (λcR=>?_)
 ·have cR:y<ts.length:=by simpa using cR
  apply aa.skip;simp;apply aa.seq;apply aa.block;have rt:=cE cR;obtain⟨t,ht⟩:=bb (ts.getD y default);rw[ht]at rt;obtain⟨q1,q2⟩:=h t (by rw[<-ht];exact bm cR);obtain⟨t,rfl⟩:=Zae q1;have q2:t<v.length:=by omega
  have rv:=dd q2;obtain⟨w,hw⟩:=bb (v.getD t default);rw[hw]at rv;have hS:bC (dR v (ts.take (y+1)))=bC (dR v (ts.take y))++[[ti w.aH,ti w.size]]:=by
   rw[cW cR,ht];simp only[dR,ZaZ,ZaA,ZbL,Zag,hw,bC]
  have hTl:(dR v (ts.take y)).length<=1000000:=by simp[dR];omega
  apply aa.fK aC fw [1,2,5,6];simp[d91r4,cR,rt,q2,rv,dK,fU];repeat (refine⟨by omega, ?_⟩)
  apply aa.fK aC fw [1,2,5,6];simp[d91r5];rw[aF (x:=(y:Int)+1) (by omega)];refine⟨y+1,Le.bi ?_ ?_ ?_ ?_,by omega,by omega⟩
  ·simp
  ·simp
  ·simp[hS]
  ·simp
 ·have fJ:y=ts.length:=by simp at cR;omega
  subst fJ;rw[ZbM];apply aa.exit;simp;apply aa.ag aC fw [4];simp[d91r6];apply aa.ret;exact .inr ⟨1400,0,by simp,by simp⟩
def wX(b7:bO)(i:Nat):Prop:=¬(b7.getD i default<1\/b7.getD i default>60000)
instance(b7:bO)(i:Nat):Decidable (wX b7 i):=by unfold wX;infer_instance
def dY(n:aD)(b7:bO):Prop:=(b7.length:Int)=n.aL/\∀i,i<b7.length->wX b7 i
instance(n:aD)(b7:bO):Decidable (dY n b7):=by unfold dY;infer_instance
def t44(n:aD)(b7:bO)(hl:b7.length<=9223372036854775807):bl aj 35 [n.enc,.sl (aG b7)] (.bool (decide (dY n b7))):=by
 obtain⟨nt,nn,ns,au⟩:=n;obtain⟨v,hv⟩:=bb (decide (dY ⟨nt,nn,ns,au⟩ b7));rw[hv];have c7:dY ⟨nt,nn,ns,au⟩ b7↔(b7.length:Int)=nt/\∀i,i<b7.length->wX b7 i:=Iff.rfl;have cZ:¬dY ⟨nt,nn,ns,au⟩ b7->v=false:=λh=>by rw[<-hv];simp[h]
 have aC:=cF;refine c44.ok (by simp) (aO ?_);simp[aD.enc];apply aa.ag aC fw [1,2];simp[d44r0];refine aa.le (Le.bi (o:=[]) (l:=[(1,.v (.sl (aG b7))),(2,.v (.box [ti nt,ti nn,ti ns,.sl (aU au)]))]) (ba:=1200) ?_ ?_ ?_ ?_) ?_;iterate 4(·simp)
 apply aa.seq;apply aa.ag aC fw [1,10];simp[d44r1];refine aa.cond rfl (λh1=>?_) (λh1=>?_)
 ·have h1:¬(b7.length:Int)=nt:=by simpa using h1
  apply aa.ag aC fw [4];simp[d44r2];apply aa.ret;rw[cZ λh=>h1 (c7.1 h).1];simp[Iv]
 ·have h1:(b7.length:Int)=nt:=by simpa using h1
  apply aa.skip;simp;apply aa.seq;apply aa.ag aC fw [1,5];simp[d44r3];apply aa.block;refine aa.loop (λy:Nat=>⟨DM.look [(1,.v (.sl (aG b7))),(5,.v (ti y))],cM [],2000,1000,[]⟩)
   (λy=>y<=b7.length/\∀i,i<y->wX b7 i) (λy=>b7.length-y) 0 (Le.bi (o:=[]) ?_ ?_ ?_ ?_) (by simp) (λy hy=>?_)
  iterate 4(·simp)
  obtain⟨lq,fJ⟩:=hy;apply aa.seq;apply aa.ag aC fw [1,5,14];simp[d44r4];refine aa.cond rfl (λcR=>?_) (λcR=>?_)
  ·have cR:y<b7.length:=by simpa using cR
   apply aa.skip;simp;apply aa.seq;apply aa.block;have rr:=cE cR;obtain⟨x,hx⟩:=bb (b7.getD y default);rw[hx]at rr;obtain⟨c2,gI⟩:=bb (decide (x<1\/x>60000):Bool);refine aa.cz aC fw [(1,.v (.sl (aG b7))),(5,.v (ti y)),(28,.v (.bool c2))] ?_ ?_
   ·by_cases q1:x<1
    ·have:c2=true:=by rw[<-gI];simp[q1]
     simp[QY,q1,this,cR,rr]
    ·skip
     by_cases q2:x>60000
     ·have:c2=true:=by rw[<-gI];simp[q2]
      simp[QY,q1,q2,this,cR,rr]
     ·skip
      have:c2=false:=by rw[<-gI];simp[q1,q2]
      simp[QY,q1,q2,this,cR,rr]
   refine aa.cond rfl (λh2=>?_) (λh2=>?_)
   ·rw[h2]at gI;have gI:=Zat gI;apply aa.ag aC fw [4];simp[d44r6];apply aa.ret;rw[cZ λh=>by have:=(c7.1 h).2 y cR;unfold wX at this;rw[hx]at this;exact this gI];simp[Iv]
   ·rw[h2]at gI;have gI:=Zay gI;apply aa.skip;simp;apply aa.fK aC fw [1,5];simp[d44r7];rw[aF (x:=(y:Int)+1) (by omega)];refine⟨y+1,Le.bi (o:=[]) ?_ ?_ ?_ ?_,⟨by omega,λi hi=>?_⟩,by omega⟩;iterate 4(·simp)
    ·by_cases e:i=y
     ·subst e;unfold wX;rw[hx];exact gI
     ·exact fJ i (by omega)
  ·have hy3:y=b7.length:=by simp at cR;omega
   subst hy3;apply aa.exit;simp;apply aa.ag aC fw [4];simp[d44r8];apply aa.ret;have:v=true:=by rw[<-hv];exact decide_eq_true (c7.2 ⟨h1,fJ⟩)
   rw[this];simp[Iv]
def fu(b7:bO)(r:di):bF:=⟨r.head,jk r,if r.kind=2 then r.cq+b7.getD r.a.toNat default else r.cq,0,0⟩
def kb(n:aD)(b7:bO):List bF:=n.au.map (fu b7)
abbrev s93:DM.Spec:=cT (λts=>∃a b c d e f,ts=[.agg [ti a,ti b,ti c,ti d,ti e,ti f]]) (fun|[.agg r]=>.sl (aG (jk (jW r)))|_=>.bool false) false
def ok93:ay aj (bu [(98,s93)]):=by
 refine ay.cons ay.nil ?_;rintro ts ⟨a,b,c,d,e,f,rfl⟩;exact⟨by simpa [di.enc,jW,dH]using t93 ⟨a,b,c,d,e,f⟩,λh=>by cases h⟩
def Fo(r:di):(jk r).length<=2:=by unfold jk;split<;>(try split)<;>simp
def t67(n:aD)(b7:bO)(hn:AD n)(hp:dY n b7):bl aj 62 [n.enc,.sl (aG b7)] (.agg [ti n.an,.sl (bk (kb n b7))]):=by
 obtain⟨nt,nn,ns,au⟩:=n;obtain⟨n1,n2,n3,n4⟩:=hn;obtain⟨p1,p2⟩:=hp;simp only[kb]at n1 n2 n3 n4 p1 p2⊢;have aC:=ok93;refine c67.ok (by simp) (aO ?_);simp[aD.enc];apply aa.ag aC fw [1,2,4];simp[d67r0];refine aa.le (Le.bi (o:=[(1005,.box [.v (ti 0),.aW])]) (l:=[(1,.v (.sl (aG b7))),(2,.v (.box [ti nt,ti nn,ti ns,.sl (aU au)])),(4,.ptr 1005 0)]) (ba:=1200) ?_ ?_ ?_ ?_) ?_;iterate 4(·simp)
 apply aa.ag aC fw [1,2,4,5];simp[d67r1];refine aa.le (Le.bi (o:=[(1005,.box [.v (ti 0),.aW])]) (l:=[(1,.v (.sl (aG b7))),(2,.v (.box [ti nt,ti nn,ti ns,.sl (aU au)])),(4,.ptr 1005 0),(5,.aW)]) (ba:=1400) ?_ ?_ ?_ ?_) ?_;iterate 4(·simp)
 refine aa.le (Le.vr (k:=5) 157 (sz:=5) (by omega) (by simp)) ?_;rw[ky];apply aa.seq;apply aa.ag aC fw [1,2,4,5,6];simp[d67r2];apply aa.block;refine aa.loop (λy:Nat=>⟨DM.look [(1,.v (.sl (aG b7))),(2,.v (.box [ti nt,ti nn,ti ns,.sl (aU au)])),(4,.ptr 1005 0),(5,.bA 1400 0),(6,.v (ti y))],cM [(1005,.box [.v (ti 0),.aW]),(1400,.arr 0 157 5 (bk ((au.take y).map (fu b7))))],1600,1000,[]⟩)
  (λy=>y<=au.length) (λy=>au.length-y) 0 (Le.bi ?_ ?_ ?_ ?_) (by simp) (λy hy=>?_)
 ·simp
 ·simp
 ·simp[bk]
 ·simp
 apply aa.seq;apply aa.ag aC fw [1,2,4,5,6,13];simp[d67r3];refine aa.cond rfl (λcR=>?_) (λcR=>?_)
 ·have cR:y<au.length:=by simpa using cR
  apply aa.skip;simp;apply aa.seq;apply aa.block;have rr:=kZ cR;obtain⟨⟨rk,rh,ra,rb,rp,rg⟩,hr⟩:=bb (au.getD y default);rw[hr]at rr;have hro:=n4 ⟨rk,rh,ra,rb,rp,rg⟩ (by rw[<-hr];exact bm cR);obtain⟨q1,q2,q3,q4,q5⟩:=hro;simp only at q1 q2 q3 q4 q5;apply aa.ag aC fw [1,2,4,5,6,7];simp[d67r4,cR,rr,di.enc];refine aa.le (Le.bi (o:=[(1005,.box [.v (ti 0),.aW]),(1400,.arr 0 157 5 (bk ((au.take y).map (fu b7))))]) (l:=[(1,.v (.sl (aG b7))),(2,.v (.box [ti nt,ti nn,ti ns,.sl (aU au)])),(4,.ptr 1005 0),(5,.bA 1400 0),(6,.v (ti y)),(7,.v (.box [ti rk,ti rh,ti ra,ti rb,ti rp,ti rg]))]) (ba:=2400) ?_ ?_ ?_ ?_) ?_;iterate 4(·simp)
  apply aa.ag aC fw [1,2,4,5,6,7,8];simp[d67r5];apply aa.seq;apply aa.ag aC fw [1,2,4,5,6,7,8,25];simp[d67r6];refine aa.cond rfl (λh6=>?_) (λh6=>?_)
  ·have h6:rk=2:=by simpa using h6
   have N7:0<=ra/\ra<b7.length:=by omega
   obtain⟨a,rfl⟩:=Zae N7.1;have hal:a<b7.length:=by omega
   have ri:=cE hal;have hpi:=p2 a hal;unfold wX at hpi;obtain⟨x,hx⟩:=bb (b7.getD a default);rw[hx]at ri hpi;have hE:fu b7 ⟨rk,rh,a,rb,rp,rg⟩=⟨rh,jk ⟨rk,rh,a,rb,rp,rg⟩,rp+x,0,0⟩:=by unfold fu;simp only[Zai h6,Zag,hx]
   apply aa.fK aC fw [1,2,4,5,6,7,8];simp[d67r7,hal,ri,aF (x:=rp+x) (by omega)];apply aa.fK aC fw [1,2,4,5,6];simp[Zd,jW,dH,fU,dK];repeat (refine⟨by omega, ?_⟩)
   have hS:∀ec,fu b7 (au.getD y default)=⟨rh,jk (au.getD y default),ec,0,0⟩->bk ((au.map (fu b7)).take (y+1))=bk ((au.map (fu b7)).take y)++[[ti rh,.sl (aG (jk (au.getD y default))),ti ec,ti 0,ti 0]]:=by
    intro ec h;rw[<-List.map_take,cW cR,ZaZ,bk,ZaZ,List.map_take];simp only[ZaA,ZbL,h,bF.enc,bk]
   rw[hr]at hS;have hS:=hS _ hE;apply aa.fK aC fw [1,2,4,5,6];simp[Ze];rw[aF (x:=(y:Int)+1) (by omega)];refine⟨y+1,Le.bi ?_ ?_ ?_ ?_,by omega,by omega⟩
   ·simp
   ·simp
   ·simp[hS]
   ·simp
  ·have h6:¬rk=2:=by simpa using h6
   have hE:fu b7 ⟨rk,rh,ra,rb,rp,rg⟩=⟨rh,jk ⟨rk,rh,ra,rb,rp,rg⟩,rp,0,0⟩:=by unfold fu;simp only[Zab h6]
   apply aa.skip;simp;apply aa.fK aC fw [1,2,4,5,6];simp[Zd,jW,dH,fU,dK];repeat (refine⟨by omega, ?_⟩)
   have hS:∀ec,fu b7 (au.getD y default)=⟨rh,jk (au.getD y default),ec,0,0⟩->bk ((au.map (fu b7)).take (y+1))=bk ((au.map (fu b7)).take y)++[[ti rh,.sl (aG (jk (au.getD y default))),ti ec,ti 0,ti 0]]:=by
    intro ec h;rw[<-List.map_take,cW cR,ZaZ,bk,ZaZ,List.map_take];simp only[ZaA,ZbL,h,bF.enc,bk]
   rw[hr]at hS;have hS:=hS _ hE;apply aa.fK aC fw [1,2,4,5,6];simp[Ze];rw[aF (x:=(y:Int)+1) (by omega)];refine⟨y+1,Le.bi ?_ ?_ ?_ ?_,by omega,by omega⟩
   ·simp
   ·simp
   ·simp[hS]
   ·simp
 ·have fJ:y=au.length:=by simp at cR;omega
  subst fJ;rw[show(au.map (fu b7)).take au.length=au.map (fu b7)from ZaX (by simp)];apply aa.exit;simp;apply aa.ag aC fw [4];simp[Zf];apply aa.ret;simp[Zg]
section
variable{nd:Int}{es:List bF}
def jh(l:bR)(i:Nat)(x:c8):bC (l.set i x)=(bC l).set i [ti x.aH,ti x.size]:=by simp[bC,Zcd]
def la(l:bO)(i:Nat)(x:Int):aG (l.set i x)=(aG l).set i [ti x]:=by simp[aG,Zcd]
def set_rep{α:Type}(a b:α){n y:Nat}(h:y<n):(List.replicate y a++List.replicate (n-y) b).set y a=List.replicate (y+1) a++List.replicate (n-(y+1)) b:=by
 rw[ZbG _ _ (by simp)];simp only[Zby,Zcp];rw[show n-y=(n-(y+1))+1 by omega,ZaY,ZbR,ZcN (n:=y),List.append_assoc];rfl
def sN(nd:Int)(e:bF):Prop:=0<=e.head/\e.head<nd/\(∀t∈e.dy,0<=t/\t<nd)/\0<=e.aH/\e.aH<=4000000000000/\e.dy.length<=1000000
def J6(nd:Int)(es:List bF):Prop:=0<=nd/\nd<=1000000/\es.length<=1000000/\∀e∈es,sN nd e
def J7(nd:Int)(v:bR):Prop:=(v.length:Int)=nd/\∀x∈v,jj x
def G7(x:c8):Nat:=x.aH.toNat*2199023255552+x.size.toNat
def iX(v:bR):Nat:=(v.map G7).sum
def G8{own:bR}{h:Nat}{y:c8}(hh:h<own.length)(hy:G7 y<G7 (own.getD h default)):iX (own.set h y)<iX own:=by
 induction own generalizing h with
 |nil=>simp at hh
 |cons x own ih=>
  cases h with
  |zero=>simp[iX]at hy⊢;omega
  |succ h=>
   have:=ih (h:=h) (by simpa using hh) (by simpa using hy);simp[iX]at this⊢;omega
def UM{a b:c8}(ha:jj a)(hb:jj b)(h:a.lt b):G7 a<G7 b:=by
 obtain⟨a1,a2,a3,a4⟩:=ha;obtain⟨b1,b2,b3,b4⟩:=hb;unfold c8.lt at h;unfold G7;omega
def p9(v:bR)(e:bF):bR:=if(dU e.aH (dR v e.dy)).lt (v.getD e.head.toNat default)then v.set e.head.toNat (dU e.aH (dR v e.dy))else v
def AI{v:bR}{ts:bO}(hv:J7 nd v)(h:∀t∈ts,0<=t/\t<nd):∀x∈dR v ts,jj x:=by
 intro x hx;simp only[dR,Zak]at hx;obtain⟨t,ht,rfl⟩:=hx;have:=h t ht;have:=hv.1;exact hv.2 _ (bm (by omega))
def ru{v:bR}{e:bF}(he:sN nd e)(hv:J7 nd v):J7 nd (p9 v e)/\(p9 v e=v\/iX (p9 v e)<iX v):=by
 obtain⟨e1,e2,e3,e4,e5,e6⟩:=he;have hc:=ju (c:=e.aH) (l:=dR v e.dy) (AI hv e3) e4 e5;have hh:e.head.toNat<v.length:=by have:=hv.1;omega
 unfold p9;split
 ·rename_i h;refine⟨⟨by simpa using hv.1,λx hx=>?_⟩,.inr (G8 hh (UM hc (hv.2 _ (bm hh)) h))⟩;rcases ZaS hx with h|rfl
  ·exact hv.2 x h
  ·exact hc
 ·exact⟨hv,.inl rfl⟩
def eB(es:List bF)(v:bR)(y:Nat):bR:=(List.range y).foldl (λv k=>p9 v (es.getD k default)) v
def jI(es:List bF)(v:bR)(y:Nat):eB es v (y+1)=p9 (eB es v y) (es.getD y default):=by simp[eB,ZaR,ZaI]
def oI{nd:Int}{es:List bF}(hh:J6 nd es){v:bR}(hv:J7 nd v):∀y,y<=es.length->J7 nd (eB es v y)/\(eB es v y=v\/iX (eB es v y)<iX v)
 |0,_=>⟨hv,.inl rfl⟩
 |y+1,hy=>by
  obtain⟨h1,h2⟩:=oI hh hv y (by omega);obtain⟨h3,h4⟩:=ru (hh.2.2.2 _ (bm (l:=es) (i:=y) (by omega))) h1;rw[jI];refine⟨h3, ?_⟩;rcases h4 with e|h4
  ·rw[e];exact h2
  ·rcases h2 with e|h2
   ·rw[e]at h4⊢;exact .inr h4
   ·exact .inr (by omega)
def kN(es:List bF):Nat->bR->bR
 |0,v=>v
 |f+1,v=>if eB es v es.length=v then v else kN es f (eB es v es.length)
def Pg{v:bR}{f:Nat}{R:bR}(hs:eB es v es.length=v\/iX (eB es v es.length)<iX v)(h1:iX v<f)(h2:kN es f v=R):
  (eB es v es.length≠v->iX (eB es v es.length)<iX v/\∃f,iX (eB es v es.length)<f/\kN es f (eB es v es.length)=R)/\(eB es v es.length=v->v=R):=by
 cases f with
 |zero=>omega
 |succ f=>
  unfold kN at h2;refine⟨λbT=>?_,λe=>?_⟩
  ·rw[Zab bT]at h2;have:=hs.resolve_left bT;exact⟨this,f,by omega,h2⟩
  ·rwa [Zai e]at h2
def Fp(nd:Int):bR:=List.replicate nd.toNat ⟨1099511627776,0⟩
def fS(nd:Int)(es:List bF):bR:=kN es (iX (Fp nd)+1) (Fp nd)
def G9{nd:Int}{es:List bF}(hh:J6 nd es):∀f v,iX v<f->J7 nd v->J7 nd (kN es f v)
 |0,v,h,_=>by omega
 |f+1,v,h,hv=>by
  obtain⟨h1,h2⟩:=oI hh hv es.length (Zaf _);unfold kN;split
  ·exact hv
  ·rename_i bT;exact G9 hh f _ (by have:=h2.resolve_left bT;omega) h1
def ze(hh:J6 nd es):J7 nd (Fp nd):=by
 refine⟨by have:=hh.1;simp only[Fp,Zby];omega,λx hx=>?_⟩;rw[ZbI hx];simp[jj]
def AJ(hh:J6 nd es):J7 nd (fS nd es):=G9 hh _ _ (by omega) (ze hh)
def stepG(es:List bF)(v:bR)(g:bO)(j:Nat):bO:=
 if(v.getD (es.getD (es.length-1-j) default).head.toNat default).aH<1099511627776/\dU (es.getD (es.length-1-j) default).aH (dR v (es.getD (es.length-1-j) default).dy)=v.getD (es.getD (es.length-1-j) default).head.toNat default then g.set (es.getD (es.length-1-j) default).head.toNat ((es.length-1-j:Nat):Int)else g
def wm(es:List bF)(v:bR)(nd:Int)(j:Nat):bO:=(List.range j).foldl (stepG es v) (List.replicate nd.toNat (-1))
def wY(es:List bF)(v:bR)(nd:Int)(y:Nat):wm es v nd (y+1)=stepG es v (wm es v nd y) y:=by simp[wm,ZaR,ZaI]
def Wb(es:List bF)(v:bR)(h:0<=nd)(y:Nat):((wm es v nd y).length:Int)=nd:=by
 induction y with
 |zero=>simp[wm];omega
 |succ y ih=>
  rw[wY];unfold stepG;split
  ·simpa using ih
  ·exact ih
structure VM where
 v:bR
 Ph:Bool
abbrev s91:DM.Spec:=DQ (λts=>∃a b c d e v,ts=[.agg [ti a,.sl (aG b),ti c,ti d,ti e],.sl (bC v)]/\(∀t∈b,0<=t/\t<v.length)/\b.length<=1000000) (fun|[.agg [_,.sl b,_,_,_],.sl v]=>bC (dR (mT v) (lS b))|_=>[]) 63 2
def Mq(l:bR):iJ.iU (bC l).flatten=true:=by
 induction l with
 |nil=>rfl
 |cons x l ih=>simpa [bC,iJ.iU,iJ]using ih
def okSo:ay aj (bu [(96,s91),(95,s69),(97,s92)]):=by
 refine ay.consL (ay.cons (ay.cons ay.nil ?_) ?_) ?_
 ·rintro ts ⟨a,b,c,d,rfl⟩;exact⟨t92 ⟨a,b⟩ ⟨c,d⟩,λ_=>rfl⟩
 ·rintro ts ⟨c,l,rfl,h1,h2,h3,h4⟩;exact⟨by simpa using t69 c l h1 h2 h3 h4,λ_=>rfl⟩
 ·rintro ts ⟨a,b,c,d,e,v,rfl,h1,h2⟩;exact⟨by simpa [bF.enc]using t91 ⟨a,b,c,d,e⟩ v h1 h2,Mq _⟩
def t66(nd:Int)(es:List bF)(hh:J6 nd es):bl aj 61 [.agg [ti nd,.sl (bk es)]] (.eo [.sl (bC (fS nd es)),.sl (aG (wm es (fS nd es) nd es.length))]):=by
 obtain⟨R,hR⟩:=bb (fS nd es);have hRo:J7 nd R:=hR▸AJ hh;rw[hR];have h0:=ze hh;have Nx:=λ(v:bR) (hv:J7 nd v)=>oI hh hv;have hst:=λ(v:bR) (hv:J7 nd v) (e:bF) (he:sN nd e)=>ru he hv;obtain⟨g1,g2,g3,g4⟩:=hh;have aC:=okSo;refine c66.ok (by simp) (aO ?_);simp;apply aa.ag aC fw [1];simp[d66r0];refine aa.le (Le.bi (o:=[]) (l:=[(1,.v (.box [ti nd,.sl (bk es)]))]) (ba:=1200) ?_ ?_ ?_ ?_) ?_;iterate 4(·simp)
 apply aa.ag aC fw [1,4];simp[d66r1,Zba,dK];repeat (refine⟨by omega, ?_⟩)
 refine aa.le (Le.bi (o:=[(1217,.arr 0 63 2 (bC ((List.replicate nd.toNat (⟨0,0⟩:c8)))))]) (l:=[(1,.v (.box [ti nd,.sl (bk es)])),(4,.bA 1217 0)]) (ba:=1400) ?_ ?_ ?_ ?_) ?_
 ·simp
 ·simp
 ·simp[bC]
 ·simp
 apply aa.ag aC fw [1,4,5];simp[d66r2,Zba,dK];repeat (refine⟨by omega, ?_⟩)
 refine aa.le (Le.bi (o:=[(1217,.arr 0 63 2 (bC ((List.replicate nd.toNat (⟨0,0⟩:c8))))),(1420,.arr 0 3 1 (aG (List.replicate nd.toNat 0)))]) (l:=[(1,.v (.box [ti nd,.sl (bk es)])),(4,.bA 1217 0),(5,.bA 1420 0)]) (ba:=1600) ?_ ?_ ?_ ?_) ?_
 ·simp
 ·simp
 ·simp[bC,aG]
 ·simp
 apply aa.seq;apply aa.ag aC fw [1,4,5,6];simp[d66r3];apply aa.block;refine aa.loop (λy:Nat=>⟨DM.look [(1,.v (.box [ti nd,.sl (bk es)])),(4,.bA 1217 0),(5,.bA 1420 0),(6,.v (ti y))],cM [(1217,.arr 0 63 2 (bC (List.replicate y (⟨1099511627776,0⟩:c8)++List.replicate (nd.toNat-y) (⟨0,0⟩:c8)))),(1420,.arr 0 3 1 (aG (List.replicate y (-1:Int)++List.replicate (nd.toNat-y) (0:Int))))],2000,1000,[]⟩)
  (λy=>y<=nd.toNat) (λy=>nd.toNat-y) 0 (Le.bi ?_ ?_ ?_ ?_) (by simp) (λy hy=>?_)
 iterate 4(·simp)
 obtain⟨A,hA⟩:=bb (List.replicate y (⟨1099511627776,0⟩:c8)++List.replicate (nd.toNat-y) (⟨0,0⟩:c8));obtain⟨E,hE⟩:=bb (List.replicate y (-1:Int)++List.replicate (nd.toNat-y) (0:Int));have hAl:A.length=nd.toNat:=by rw[<-hA];simp;omega
 have hEl:E.length=nd.toNat:=by rw[<-hE];simp;omega
 rw[hA,hE];apply aa.seq;apply aa.ag aC fw [1,4,5,6,23];simp[d66r4];refine aa.cond rfl (λcR=>?_) (λcR=>?_)
 ·have cR:(y:Int)<nd:=by simpa using cR
  have Fq:y<nd.toNat:=by omega
  apply aa.skip;simp;apply aa.seq;apply aa.block;have ra:=dd (l:=A) (y:=y) (by omega);have re:=cE (l:=E) (y:=y) (by omega);have q1:y<A.length:=by omega
  have q2:y<E.length:=by omega
  apply aa.fK aC fw [1,4,5,6];simp[d66r5,q1,q2,ra,re];apply aa.fK aC fw [1,4,5,6];simp[d66r6];rw[aF (x:=(y:Int)+1) (by omega)];refine⟨y+1,Le.bi ?_ ?_ ?_ ?_,by omega,by omega⟩
  ·simp
  ·simp
  ·simp only[<-set_rep _ _ Fq,hA,hE,jh,la];simp
  ·simp
 ·have fJ:y=nd.toNat:=by simp at cR;omega
  subst fJ;have tC:A=Fp nd:=by rw[<-hA];simp[Fp]
  have Jk:E=List.replicate nd.toNat (-1):=by rw[<-hE];simp
  subst tC;subst Jk;apply aa.exit;simp;apply aa.seq;apply aa.ag aC fw [1,4,5,7];simp[d66r7];apply aa.block;refine aa.loop (λz:VM=>⟨DM.look [(1,.v (.box [ti nd,.sl (bk es)])),(4,.bA 1217 0),(5,.bA 1420 0),(7,.v (.bool z.Ph))],cM [(1217,.arr 0 63 2 (bC (z.v))),(1420,.arr 0 3 1 (aG (List.replicate nd.toNat (-1))))],3000,1000,[]⟩)
   (λz=>J7 nd z.v/\(z.Ph=true->∃f,iX z.v<f/\kN es f z.v=R)/\(z.Ph=false->z.v=R)) (λz=>2*iX z.v+(if z.Ph then 1 else 0)) ⟨Fp nd,true⟩ (Le.bi ?_ ?_ ?_ ?_) (⟨h0,λ_=>⟨_,Zcc _,hR⟩,λh=>by cases h⟩) (λz hy=>?_)
  iterate 4(·simp)
  obtain⟨own,Ph⟩:=z;obtain⟨hz1,hz2,hz3⟩:=hy;simp only at hz1 hz2 hz3⊢;apply aa.seq;apply aa.ag aC fw [1,4,5,33];simp[d66r8];refine aa.cond rfl (λhm=>?_) (λhm=>?_)
  ·have hm:Ph=true:=by simpa using hm
   subst hm;obtain⟨f,hf1,hf2⟩:=hz2 rfl;apply aa.skip;simp;apply aa.block;apply aa.ag aC fw [1,4,5,7];simp[d66r9];apply aa.ag aC fw [1,4,5,7,8];simp[Y0];apply aa.block;refine aa.loop (λy:Nat=>⟨DM.look [(1,.v (.box [ti nd,.sl (bk es)])),(4,.bA 1217 0),(5,.bA 1420 0),(7,.v (.bool (decide (eB es own y≠own)))),(8,.v (ti y))],cM [(1217,.arr 0 63 2 (bC (eB es own y))),(1420,.arr 0 3 1 (aG (List.replicate nd.toNat (-1))))],4000,1000,[]⟩)
    (λy=>y<=es.length) (λy=>es.length-y) 0 (Le.bi ?_ ?_ ?_ ?_) (by simp) (λy hy3=>?_)
   ·simp
   ·simp[eB]
   ·simp[eB]
   ·simp[eB]
   obtain⟨O,hO⟩:=bb (eB es own y);obtain⟨wi,NE⟩:=Nx own hz1 y hy3;rw[hO]at wi NE;obtain⟨m1,QD⟩:=bb (decide (O≠own):Bool);rw[hO,QD];apply aa.seq;apply aa.ag aC fw [1,4,5,7,8,38];simp[Y1];refine aa.cond rfl (λcR=>?_) (λcR=>?_)
   ·have cR:y<es.length:=by simpa using cR
    apply aa.skip;simp;apply aa.seq;apply aa.block;have rr:=jX cR;obtain⟨⟨xh,xt,xc,x0,x1⟩,hx⟩:=bb (es.getD y default);rw[hx]at rr;have hxo:sN nd ⟨xh,xt,xc,x0,x1⟩:=g4 _ (by rw[<-hx];exact bm cR);have hso:=hst O wi _ hxo;obtain⟨q1,q2,q3,q4,q5,q6⟩:=hxo;simp only at q1 q2 q3 q4 q5 q6;obtain⟨xh,rfl⟩:=Zae q1;apply aa.ag aC fw [1,4,5,7,8,9];simp[Y2,cR,rr,bF.enc];refine aa.le (Le.bi (o:=[(1217,.arr 0 63 2 (bC (O))),(1420,.arr 0 3 1 (aG (List.replicate nd.toNat (-1))))]) (l:=[(1,.v (.box [ti nd,.sl (bk es)])),(4,.bA 1217 0),(5,.bA 1420 0),(7,.v (.bool m1)),(8,.v (ti y)),(9,.v (.box [ti xh,.sl (aG xt),ti xc,ti x0,ti x1]))]) (ba:=4200) ?_ ?_ ?_ ?_) ?_;iterate 4(·simp)
    have J8:∀t∈xt,0<=t/\t<O.length:=λt ht=>by have:=q3 t ht;have:=wi.1;omega
    have htv:=AI wi q3;have HG:(dR O xt).length<=1000000:=by simpa [dR]using q6
    obtain⟨⟨wc,wz⟩,hw⟩:=bb (dU xc (dR O xt));refine aa.jR aC fw (rs:=eR Is [none,some [],some [],none,some [1217],some [4251],none,some [4211]]) (.inr ⟨_,rfl⟩) (by kernel_rfl) [1,4,5,7,8,9,10] ?_;simp[Is,eR,cP,bG,aN,Zba,q6,HG,hw];refine⟨J8,htv, ?_⟩;repeat (refine⟨by omega, ?_⟩)
    refine aa.le (Le.bi (o:=[(1217,.arr 0 63 2 (bC (O))),(1420,.arr 0 3 1 (aG (List.replicate nd.toNat (-1))))]) (l:=[(1,.v (.box [ti nd,.sl (bk es)])),(4,.bA 1217 0),(5,.bA 1420 0),(7,.v (.bool m1)),(8,.v (ti y)),(9,.v (.box [ti xh,.sl (aG xt),ti xc,ti x0,ti x1])),(10,.v (.box [ti wc,ti wz]))]) (ba:=4400) ?_ ?_ ?_ ?_) ?_;iterate 4(·simp)
    have hhl:xh<O.length:=by have:=wi.1;omega
    have ro:=dd hhl;obtain⟨⟨uc,uz⟩,hu⟩:=bb (O.getD xh default);rw[hu]at ro;obtain⟨c1,bU⟩:=bb (decide ((⟨wc,wz⟩:c8).lt ⟨uc,uz⟩):Bool);apply aa.ag aC fw [1,4,5,7,8,9,10,58];simp[Y3,hhl,ro,bU];refine aa.cond rfl (λh5=>?_) (λh5=>?_)
    ·have h5:c1=true:=by simpa using h5
     rw[h5]at bU;have bU:=Zat bU;have hS0:p9 O ⟨xh,xt,xc,x0,x1⟩=O.set xh ⟨wc,wz⟩:=by unfold p9;simp only[hw,hu,Zag];rw[Zai bU]
     have tF:eB es own (y+1)=O.set xh ⟨wc,wz⟩:=by rw[jI,hO,hx,hS0]
     have bT:¬eB es own (y+1)=own:=by
      intro e;have h6:iX (O.set xh ⟨wc,wz⟩)<iX O:=by
       refine G8 hhl ?_;rw[hu];exact UM (by rw[<-hw];exact ju htv q4 q5) (by rw[<-hu];exact wi.2 _ (bm hhl)) bU
      rw[<-tF,e]at h6;rcases NE with h|h
      ·rw[h]at h6;omega
      ·omega
     apply aa.ag aC fw [1,4,5,8];simp[Y4,hhl,ro];apply aa.fK aC fw [1,4,5,7,8];simp[Y5];apply aa.fK aC fw [1,4,5,7,8];simp[OL];rw[aF (x:=(y:Int)+1) (by omega)];refine⟨y+1,Le.bi ?_ ?_ ?_ ?_,by omega,by omega⟩
     ·simp
     ·simp
     ·simp[tF,jh]
     ·simp;simpa using bT
    ·have h5:c1=false:=by simpa using h5
     rw[h5]at bU;have bU:=Zay bU;have tF:eB es own (y+1)=O:=by rw[jI,hO,hx];unfold p9;simp only[hw,hu,Zag];rw[Zab bU]
     have bT:=QD;rw[<-tF]at bT;apply aa.skip;simp;apply aa.fK aC fw [1,4,5,7,8];simp[OL];rw[aF (x:=(y:Int)+1) (by omega)];refine⟨y+1,Le.bi ?_ ?_ ?_ ?_,by omega,by omega⟩
     ·simp
     ·simp
     ·simp[tF,jh]
     ·simp;simpa using bT
   ·have Cb:y=es.length:=by simp at cR;omega
    subst Cb;have Dx:=Pg (Nx own hz1 _ (Zaf _)).2 hf1 hf2;simp only[hO]at Dx;have hdec:2*iX O+(if m1 then 1 else 0)<2*iX own+1:=by
     by_cases e:O=own
     ·have NX:m1=false:=by rw[<-QD];simp[e]
      subst NX;rw[e];simp
     ·have:=(Dx.1 e).1;cases m1<;>simp<;>omega
    apply aa.exit;simp;refine⟨⟨O,m1⟩,Le.bi ?_ ?_ ?_ ?_,⟨wi,λh=>(Dx.1 (Zat (QD.trans h))).2,λh=>by have e:=Classical.not_not.1 (Zay (QD.trans h));simp only;rw[e];exact Dx.2 e⟩,by simpa using hdec⟩;iterate 3(·simp)
    ·simp
  ·have hm:Ph=false:=by simpa using hm
   subst hm;have hz3:=hz3 rfl;subst hz3;apply aa.exit;simp;apply aa.seq;apply aa.ag aC fw [1,4,5,11];simp[Y6,aF (x:=(es.length:Int)-1) (by omega)];apply aa.block;refine aa.loop (λj:Nat=>⟨DM.look [(1,.v (.box [ti nd,.sl (bk es)])),(4,.bA 1217 0),(5,.bA 1420 0),(11,.v (ti ((es.length:Int)-1-j)))],cM [(1217,.arr 0 63 2 (bC (own))),(1420,.arr 0 3 1 (aG (wm es own nd j)))],5000,1000,[]⟩)
    (λj=>j<=es.length) (λj=>es.length-j) 0 (Le.bi ?_ ?_ ?_ ?_) (by simp) (λj hj=>?_)
   ·simp
   ·simp
   ·simp[wm]
   ·simp
   obtain⟨G,hG⟩:=bb (wm es own nd j);have hGl:=Wb es own g1 j;rw[hG]at hGl;rw[hG];obtain⟨k,hk⟩:=bb ((es.length:Int)-1-j);rw[hk];apply aa.seq;apply aa.ag aC fw [1,4,5,11,69];simp[Y7];refine aa.cond rfl (λh9=>?_) (λh9=>?_)
   ·have h9:0<=k:=by simpa using h9
    obtain⟨k,rfl⟩:=Zae h9;have J5:k<es.length:=by omega
    have hke:es.length-1-j=k:=by omega
    apply aa.skip;simp;apply aa.seq;apply aa.block;have rr:=jX J5;obtain⟨⟨xh,xt,xc,x0,x1⟩,hx⟩:=bb (es.getD k default);rw[hx]at rr;have hxo:sN nd ⟨xh,xt,xc,x0,x1⟩:=g4 _ (by rw[<-hx];exact bm J5);obtain⟨q1,q2,q3,q4,q5,q6⟩:=hxo;simp only at q1 q2 q3 q4 q5 q6;obtain⟨xh,rfl⟩:=Zae q1;apply aa.ag aC fw [1,4,5,11,12];simp[Y8,J5,rr,bF.enc];refine aa.le (Le.bi (o:=[(1217,.arr 0 63 2 (bC (own))),(1420,.arr 0 3 1 (aG (G)))]) (l:=[(1,.v (.box [ti nd,.sl (bk es)])),(4,.bA 1217 0),(5,.bA 1420 0),(11,.v (ti k)),(12,.v (.box [ti xh,.sl (aG xt),ti xc,ti x0,ti x1]))]) (ba:=5200) ?_ ?_ ?_ ?_) ?_;iterate 4(·simp)
    have hhl:xh<own.length:=by have:=hRo.1;omega
    have ro:=dd hhl;obtain⟨⟨uc,uz⟩,hu⟩:=bb (own.getD xh default);rw[hu]at ro;apply aa.ag aC fw [1,4,5,11,12,13];simp[Y9,hhl,ro];refine aa.le (Le.bi (o:=[(1217,.arr 0 63 2 (bC (own))),(1420,.arr 0 3 1 (aG (G)))]) (l:=[(1,.v (.box [ti nd,.sl (bk es)])),(4,.bA 1217 0),(5,.bA 1420 0),(11,.v (ti k)),(12,.v (.box [ti xh,.sl (aG xt),ti xc,ti x0,ti x1])),(13,.v (.box [ti uc,ti uz]))]) (ba:=5400) ?_ ?_ ?_ ?_) ?_;iterate 4(·simp)
    have J8:∀t∈xt,0<=t/\t<own.length:=λt ht=>by have:=q3 t ht;have:=hRo.1;omega
    have htv:=AI hRo q3;have HG:(dR own xt).length<=1000000:=by simpa [dR]using q6
    obtain⟨⟨wc,wz⟩,hw⟩:=bb (dU xc (dR own xt));obtain⟨c1,bU⟩:=bb (decide (uc<1099511627776/\(⟨wc,wz⟩:c8)=⟨uc,uz⟩):Bool);apply aa.seq;refine aa.to ⟨DM.look [(1,.v (.box [ti nd,.sl (bk es)])),(4,.bA 1217 0),(5,.bA 1420 0),(11,.v (ti k)),(12,.v (.box [ti xh,.sl (aG xt),ti xc,ti x0,ti x1])),(94,.v (.bool c1))],cM [(1217,.arr 0 63 2 (bC (own))),(1420,.arr 0 3 1 (aG (G)))],6000,1000,[]⟩ ?_ ?_
    ·by_cases k1:uc<1099511627776
     ·refine aa.pe aC fw (rs:=eR yL [none,some [],none,none,none,some [],some [],none,some [1217],some [5491],some [],some [],none]) (.inr ⟨_,rfl⟩) (by kernel_rfl) [1,4,5,11,12,94] ?_;simp[eR,yL,cP,bG,aN,Zba,k1,q6,HG,hw];refine⟨J8,htv,by omega,by omega, ?_⟩;have:c1=(decide (wc=uc)&&decide (wz=uz)):=by rw[<-bU];simp[k1]
      rw[this];exact Le.bi (by simp) (by simp) (by simp) (by simp)
     ·have:c1=false:=by rw[<-bU];simp[k1]
      refine aa.pe aC fw (rs:=eR yL [none,some [],none,none,none,some [],some [],none,some [1217],some [5491],some [],some [],none]) (.inr ⟨_,rfl⟩) (by kernel_rfl) [1,4,5,11,12,94] ?_;simp[eR,yL,cP,bG,aN,k1];subst this;exact Le.bi (by simp) (by simp) (by simp) (by simp)
    simp only[QF];refine aa.cond rfl (λh8=>?_) (λh8=>?_)
    ·have h8:c1=true:=by simpa using h8
     rw[h8]at bU;have bU:=Zat bU;have NF:stepG es own G j=G.set xh (k:Int):=by unfold stepG;rw[hke,hx];simp only[hw,hu,Zag];rw[Zai bU]
     have hgl2:xh<G.length:=by omega
     have rg:=cE hgl2;apply aa.fK aC fw [1,4,5,11];simp[Za,hgl2,rg];apply aa.fK aC fw [1,4,5,11];simp[OM];rw[aF (x:=(k:Int)-1) (by omega)];refine⟨j+1,Le.bi ?_ ?_ ?_ ?_,by omega,by omega⟩
     ·simp
     ·simp
     ·simp[wY,hG,NF,la]
     ·simp;omega
    ·have h8:c1=false:=by simpa using h8
     rw[h8]at bU;have bU:=Zay bU;have NF:stepG es own G j=G:=by unfold stepG;rw[hke,hx];simp only[hw,hu,Zag];rw[Zab bU]
     apply aa.skip;simp;apply aa.fK aC fw [1,4,5,11];simp[OM];rw[aF (x:=(k:Int)-1) (by omega)];refine⟨j+1,Le.bi ?_ ?_ ?_ ?_,by omega,by omega⟩
     ·simp
     ·simp
     ·simp[wY,hG,NF,la]
     ·simp;omega
   ·have h9:¬0<=k:=by simpa using h9
    have hj2:j=es.length:=by omega
    subst hj2;subst hG;apply aa.exit;simp;apply aa.ag aC fw [2,3];simp[Zb];apply aa.ret;simp[Zc]
end
end cC
end Go.Proofs
