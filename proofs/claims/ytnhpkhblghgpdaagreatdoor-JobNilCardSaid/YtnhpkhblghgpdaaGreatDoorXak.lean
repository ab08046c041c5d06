/- Part of the proof. Conditions: none. -/
import Derived.Test.YtnhpkhblghgpdaaGreatDoorXaj
set_option linter.unusedSectionVars false
set_option linter.unusedSimpArgs false
set_option linter.unusedVariables false
set_option linter.defProp false
set_option maxRecDepth 20000
set_option maxHeartbeats 40000000
namespace Go.Proofs
namespace cC
namespace Kn
open Go.DM
def fM(s:Qs)(x:Int)(w:c8):Qs:=⟨s.heap++[⟨x,w,s.next,s.clock⟩],s.bD+1,d8 s.es s.mc s.next s.heap.length,wr s.es s.mc s.next,s.next+1,s.clock+1⟩
def gX(s:Qs)(x:Int)(w:c8):Qs:=tQ s.heap.length (fM s x w)
def uS{s:Qs}{x:Int}{w:c8}(h:s.ok):(fM s x w).ok:=by
 obtain⟨h1,h2⟩:=zA (k:=s.next) (v:=s.heap.length) h.pl h.st;refine⟨h1,h2,λe he=>?_⟩;rcases Zaq.1 he with he|he
 ·obtain⟨i,hi⟩:=h.pO e he;exact⟨i,BV hi⟩
 ·simp at he;subst he;exact BW _ _ _ _
def xm(s:Qs):Prop:=s.ok/\s.heap.length<=100000/\(0<=s.next/\s.next<=1000000000000)/\(0<=s.clock/\s.clock<=1000000000000)
def t1132{f0:bq}{q N:Nat}{x:Int}{w:c8}{v:QV}(hN:∀r,N<=r->f0 r=none)(h:v.at f0 q)(hs:xm v.s):
  aR aj 132 [.ptr q 0,.v (.agg [ti x,ti w.aH,ti w.size])] f0 ⟨True,.v (ti v.s.next),bH f0 q v (gX v.s x w)⟩:=by
 obtain⟨ho,h5,h6,h7⟩:=hs;have nH:=uS (x:=x) (w:=w) ho;obtain⟨R,hR⟩:=bb (gX v.s x w);rw[hR];unfold gX at hR;obtain⟨S,hS⟩:=bb (fM v.s x w);rw[hS]at hR nH;have aC:=ok1147 ay.nil;refine c1132.pQ hN (by simp) λaT=>?_;have en:∀s,bH f0 q v s q=some (qB v.hp v.m s):=λs=>(d7 h s).q;obtain⟨n1,n2,n3⟩:=h.ne;have Hi:=Ne.symm n1;have F8:=Ne.symm n2;have Ka:=Ne.symm n3;have h1:=h.q;have h2:=h.hp;have h3:=h.m;simp only[qB,hB,mB]at h1 h2 h3;obtain⟨nx,Dx⟩:=bb v.s.next;obtain⟨ck,Cy⟩:=bb v.s.clock;obtain⟨hp,lU⟩:=bb v.hp;obtain⟨m,hm⟩:=bb v.m;obtain⟨bD,hve⟩:=bb v.s.bD;have hSd:S=⟨v.s.heap++[⟨x,w,nx,ck⟩],bD+1,d8 v.s.es v.s.mc nx v.s.heap.length,wr v.s.es v.s.mc nx,nx+1,ck+1⟩:=by rw[<-hS,<-Dx,<-Cy,<-hve];rfl
 rw[Dx,Cy,lU,hve]at h1;rw[hm]at h1 h3;rw[lU,hve]at h2;rw[Dx]at h6;rw[Cy]at h7;rw[lU]at n1 n3 Hi Ka;rw[hm]at n2 n3 F8 Ka;rw[Dx];have w1:IntKind.i64.wrap (nx+1)=nx+1:=aF (by omega);have w2:IntKind.i64.wrap (ck+1)=ck+1:=aF (by omega);have hroom:dK 40 (v.s.heap.length+1):=by simp[dK];omega
 simp;apply aa.ag aC fw [0,3];simp[RM];have NK:q<N:=(aT q _ h.q).1;have nu:v.hp<N:=(aT v.hp _ h.hp).1;have BS:v.m<N:=(aT v.m _ h.m).1;have nq:∀k,q≠N+k:=λk=>by omega
 have np:∀k,v.hp≠N+k:=λk=>by omega
 have nm:∀k,v.m≠N+k:=λk=>by omega
 refine aa.le (rH v.s (l:=[(0,.ptr q 0),(3,.v (.box [ti x,ti w.aH,ti w.size]))]) (ba:=N+1000) aT h (by omega) (Zaf _) ?_ ?_ ?_ ?_ ?_) ?_
 ·intro p hp';simp only[Zah,Zal,or_false]at hp';subst hp';exact .inr (.inr (.inr (by show N<=N+3+1;omega)))
 ·simp[nq,Nat.add_assoc,h.q]
 ·simp[np,Nat.add_assoc,h.hp]
 ·simp[nm,Nat.add_assoc,h.m]
 ·simp[Nat.add_assoc,en,qB];refine bL aT (by omega) ?_;simp;omega
 rw[WA h];change aa aj 58 _ _ ⟨DM.look _,aM [] f0,_,_,_⟩;apply aa.ag aC fw [0,3,5,6];simp[RN,h1,h2];apply aa.ag aC fw [0,5,6];have hch:fU 5 1 [ti x,ti w.aH,ti w.size,ti nx,ti ck]=[[ti x,ti w.aH,ti w.size,ti nx,ti ck]]:=rfl;simp[RP,h1,h2,n1,hch,hroom];apply aa.ag aC fw [0,5,6];simp[RQ,h3,F8,Ka,MS,FK];apply aa.ag aC fw [0,5,6];simp[RU,w1,w2,n2];refine aa.le (rH (v:=v) S (l:=[(0,.ptr q 0),(5,.v (ti nx)),(6,.v (ti v.s.heap.length))]) (ba:=N+2000) aT h (by omega) (by rw[hve,hSd];simp) ?_ ?_ ?_ ?_ ?_) ?_
 ·rw[lU,hm];simp
 ·rw[lU,hm,hSd];simp[qB]
 ·rw[lU,hSd];simp[Hi,n3,hB,sS];rfl
 ·rw[hm,hSd];simp[F8,mB]
 ·simp[en,qB]
 have k1:=λy=>k1147_eq (i:=y) (d7 h S);have hl:S.heap.length=v.s.heap.length+1:=by rw[hSd];simp
 have e0:∀s',bH (bH f0 q v S) q (v.to S) s'=bH f0 q v s':=iY f0 q v S;simp only[QV.to]at k1 e0;apply aa.cX aC fw (rs:=EM) rfl (by kernel_rfl) [5];simp[EM,k1,nH,hl,e0,hR];refine⟨by omega, ?_⟩;apply aa.ag aC fw [4];simp[RW];apply aa.ret;simp[Lv]
def fT(s:Qs):Qs:=let s1:=s.swap 0 ((s.heap.length:Int)-1)
 ⟨s1.heap.take (s.heap.length-1),s1.bD+1,nD s1.es (s.e 0).h,s1.mc,s1.next,s1.clock⟩
def fC(s:Qs):Qs:=if s.heap=[]then s else fm 0 (fT s)
def uT(s:Qs):T:=if s.heap=[]then .eo [.agg [ti 0,ti 0,ti 0],.bool false]else .eo [.agg [ti (s.e 0).x,ti (s.e 0).v.aH,ti (s.e 0).v.size],.bool true]
def Qs.nd(s:Qs):Prop:=∀i j:Nat,i<s.heap.length->j<s.heap.length->(s.e i).h=(s.e j).h->i=j
def zw{s:Qs}(h:s.ok)(hn:s.nd)(hl:0<s.heap.length):(fT s).ok:=by
 have h1:=h.swap (i:=0) (j:=(s.heap.length:Int)-1) ⟨by omega,by omega⟩ ⟨by omega,by omega⟩;obtain⟨a1,a2⟩:=MT (k:=(s.e 0).h) h1.pl h1.st;refine⟨a1,a2,λe he=>?_⟩;have he1:e∈(s.swap 0 ((s.heap.length:Int)-1)).heap:=ZaE he;refine UV (λhk=>?_) (h1.pO e he1);obtain⟨y,hy,rfl⟩:=ZaO he;simp only[fT,ZaB,Qs.dI]at hy;have lq:y<s.heap.length-1:=by omega
 have fJ:y<s.heap.length:=by omega
 have Wk:((s.heap.length:Int)-1).toNat=s.heap.length-1:=by omega
 by_cases hz:y=0
 ·subst hz;have Xj:s.heap.length-1<s.heap.length:=by omega
  have:(fT s).heap[0]=s.e ((s.heap.length-1:Nat):Int):=by
   have h0:¬s.heap.length-1=0:=by omega
   simp only[fT,Qs.swap,ZcE,Wk,ZcW,Zb1,h0,if_false,if_true];rw[show(s.heap.length:Int)-1=((s.heap.length-1:Nat):Int)by omega]
  rw[this]at hk;have:=hn 0 (s.heap.length-1) hl (by omega) (by simpa using hk);omega
 ·have:(fT s).heap[y]=s.e (y:Int):=by
   have h0:¬s.heap.length-1=y:=by omega
   have h00:¬0=y:=by omega
   simp only[fT,Qs.swap,ZcE,Wk,ZcW,Zb1,h0,h00,if_false,Qs.e,Zag];simp[List.getD,fJ]
  rw[this]at hk;have:=hn 0 y hl fJ (by simpa using hk);omega
def wo(s:Qs):Prop:=s.ok/\s.nd/\s.heap.length<=1000000
def down_ver:∀{n:Nat} {i:Nat} {s:Qs},s.heap.length-i=n->(fm i s).bD=s.bD:=by
 intro n;induction n using Nat.strongRecOn with
 |_ n ih=>
  intro i s hn;unfold fm;split
  ·rfl
  ·rename_i he;have hp:=(gZ s i).resolve_left he;rw[ih (s.heap.length-dt s i) (by omega) (by simp)];simp
def t1103{f0:bq}{q N:Nat}{v:QV}(hN:∀r,N<=r->f0 r=none)(h:v.at f0 q)(hs:wo v.s):
  aR aj 103 [.ptr q 0] f0 ⟨True,.v (uT v.s),bH f0 q v (fC v.s)⟩:=by
 obtain⟨ho,yd,dM⟩:=hs;obtain⟨RV,PP⟩:=bb (uT v.s);obtain⟨R,hR⟩:=bb (fC v.s);rw[hR,PP];unfold fC at hR;unfold uT at PP;have aC:=PO (ok1134 ay.nil);refine c1103.pQ hN (by simp) λaT=>?_;have en:∀s,bH f0 q v s q=some (qB v.hp v.m s):=λs=>(d7 h s).q;have NK:q<N:=(aT q _ h.q).1;have nu:v.hp<N:=(aT v.hp _ h.hp).1;have BS:v.m<N:=(aT v.m _ h.m).1;obtain⟨n1,n2,n3⟩:=h.ne;have Hi:=Ne.symm n1;have F8:=Ne.symm n2;have Ka:=Ne.symm n3;have h1:=h.q;have h2:=h.hp;have h3:=h.m;simp only[qB,hB,mB]at h1 h2 h3;have nq:∀k,q≠N+k:=λk=>by omega
 have np:∀k,v.hp≠N+k:=λk=>by omega
 have nm:∀k,v.m≠N+k:=λk=>by omega
 have nq':∀k,N+k≠q:=λk=>by omega
 have np':∀k,N+k≠v.hp:=λk=>by omega
 have nm':∀k,N+k≠v.m:=λk=>by omega
 simp;apply aa.ag aC fw [0,2,3];simp[Rz,Nat.add_assoc];apply aa.seq;apply aa.ag aC fw [0,2,3,11];simp[RA,h1,h2,nq,np];refine aa.cond rfl (λg=>?_) (λg=>?_)
 ·have g:v.s.heap=[]:=by simpa using g
  rw[Zai g]at hR PP;apply aa.ag aC fw [2,3];simp[RB,Nat.add_assoc];rw[<-hR];refine aa.le (rH v.s (l:=[(2,.v (.box [ti 0,ti 0,ti 0])),(3,.v (.bool false))]) (ba:=N+1000) aT h (by omega) (Zaf _) ?_ ?_ ?_ ?_ ?_) ?_
  ·simp
  ·simp[nq,Nat.add_assoc,h.q]
  ·simp[np,Nat.add_assoc,h.hp]
  ·simp[nm,Nat.add_assoc,h.m]
  ·simp;refine bL aT (by omega) ?_;simp;omega
  apply aa.ret;simp[EJ,PP]
 ·have g:¬v.s.heap=[]:=by simpa using g
  rw[Zab g]at hR PP;have hl:0<v.s.heap.length:=ZaT.2 g;have r0:=dG hl;have w1:IntKind.i64.wrap ((v.s.heap.length:Int)-1)=(v.s.heap.length:Int)-1:=aF (by omega);obtain⟨⟨ex,⟨ec,ez⟩,eh,et⟩,he⟩:=bb (v.s.heap.getD 0 default);have Xf:v.s.e 0=⟨ex,⟨ec,ez⟩,eh,et⟩:=he;rw[he]at r0;rw[Xf]at PP;simp only[kh.enc]at r0;have r0':DM.rowAt (dF v.s.heap) (0:Int)=[ti ex,ti ec,ti ez,ti eh,ti et]:=r0;apply aa.skip;simp;apply aa.jR aC fw (rs:=c5 (iO q v.hp N) (eR IJ [none,none,none,some [0],none,some [1],none,none,none,some [0],some [1],none,none,some [105],none])) (.inl rfl) ((dX (jK NK nu n1) _ _ _).trans (by kernel_rfl)) [0,2,3,4,5];simp[IJ,c5,fk,eR,iO,cP,bG,aN,h1,h2,hl,r0',np,nq,w1,Nat.add_assoc];obtain⟨O,hO⟩:=bb (Ob.box [DV.v (ti 0),DV.v (ti 0),DV.v (ti 0)]:Ob);have hOn:aZ O=[]:=by rw[<-hO];rfl
  refine aa.le (le_qx v.s (X:=[(N+3,O)]) (l:=[(0,.ptr q 0),(2,.ptr (N+3) 0),(3,.v (.bool false)),(4,.v (.box [ti ex,ti ec,ti ez,ti eh,ti et])),(5,.v (ti ((v.s.heap.length:Int)-1)))]) (ba:=N+1000) aT h (by omega) (Zaf _) ?_ ?_ ?_ ?_ ?_ ?_) ?_
  ·simp
  ·simp[hOn];exact hO
  ·simp[nq,Nat.add_assoc,h.q]
  ·simp[np,Nat.add_assoc,h.hp]
  ·simp[nm,Nat.add_assoc,h.m]
  ·simp[nq,en,qB,<-hO];exact UU aT h (by omega) (by simp)
  have a1:=λs=>QV.at.aM (o:=O) (d7 h s) (x:=N+3) (by omega) (by simp only;omega) (by simp only;omega);have po:=λs s'=>AW (f:=bH f0 q v s) (q:=q) (v:=v.to s) (x:=N+3) (o:=O) s' (by omega) (by simp only;omega) (by simp only;omega);have k1:=λx y=>FH (i:=x) (j:=y) (a1 v.s);have e0:∀s s',bH (bH f0 q v s) q (v.to s) s'=bH f0 q v s':=λs s'=>iY f0 q v s s';simp only[e0]at po;simp only[QV.to]at k1 e0 po;have so:=ho.dc (i:=0) (j:=(v.s.heap.length:Int)-1) ⟨by omega,by omega⟩ ⟨by omega,by omega⟩;have so2:=ho.swap (i:=0) (j:=(v.s.heap.length:Int)-1) ⟨by omega,by omega⟩ ⟨by omega,by omega⟩;apply aa.cX aC fw (rs:=EH) rfl (by kernel_rfl) [0,2,3,4,5];simp[EH,k1,so,po];obtain⟨P,hP⟩:=bb (fT v.s);have hPok:=zw ho yd hl;rw[hP]at hPok hR;obtain⟨S1,tF⟩:=bb (v.s.swap 0 ((v.s.heap.length:Int)-1));have Xr:P=⟨S1.heap.take (v.s.heap.length-1),S1.bD+1,nD S1.es eh,S1.mc,S1.next,S1.clock⟩:=by rw[<-hP,<-tF];simp only[fT,Xf]
  have hSl:S1.heap.length=v.s.heap.length:=by rw[<-tF];simp
  have hSv:S1.bD=v.s.bD:=by rw[<-tF];simp
  rw[tF];have Bk:=d7 h S1;have j1:=Bk.q;have j2:=Bk.hp;have j3:=Bk.m;simp only[qB,hB,mB]at j1 j2 j3;apply aa.ag aC fw [0,2,3,4];simp[RC,j1,j2,hSl,nq,np];refine⟨⟨by omega,by omega⟩, ?_⟩;obtain⟨G,hG⟩:=bb (bH f0 q v R);rw[hG];simp only[bH,uU,ZaM,ZaG];refine aa.le (Le.cut q 1 (q:=v.hp) (bD:=S1.bD) (n:=v.s.heap.length-1) (e:=211) (sz:=5) (av:=dF S1.heap) (cs:=[.v (.fn (.func 101) []),.u9 v.hp S1.bD 0 (v.s.heap.length-1),.iE v.m,.v (ti S1.next),.v (ti S1.clock)]) ?_ rfl ?_) ?_
  ·simp
  ·simp[Hi,hB,np]
  rw[jT,jT];simp only[Zb2,ZbR];apply aa.ag aC fw [0,2,3,4];simp[RD,F8,Ka,mB,MU,nm];refine aa.le (le_qx P (X:=[(N+3,O)]) (l:=[(0,.ptr q 0),(2,.ptr (N+3) 0),(3,.v (.bool false)),(4,.v (.box [ti ex,ti ec,ti ez,ti eh,ti et]))]) (ba:=N+4000) aT h (by omega) (by rw[Xr];simp[hSv]) ?_ ?_ ?_ ?_ ?_ ?_) ?_
  ·simp
  ·simp[hOn,nq',np',nm']
  ·rw[Xr];simp[n2,qB]
  ·rw[Xr];simp[Hi,n3,hB,xl]
  ·rw[Xr];simp[mB]
  ·simp[en,qB,nq,<-hO]
  have k2:=λx=>k1134_eq (i:=x) (a1 P);simp only[QV.to]at k2;have hPl:P.heap.length<=1000000:=by rw[Xr];simp;omega
  apply aa.cX aC fw (rs:=EI) rfl (by kernel_rfl) [2,3,4];simp[EI,k2,hPok,po,hR,hPl,hG];rw[<-hO];apply aa.ag aC fw [2,3];simp[RE];rw[<-hG];unfold bH;rw[uU];have hRv:v.s.bD<=R.bD:=by rw[<-hR,down_ver rfl,Xr];simp[hSv]
  refine aa.le (rH R (l:=[(2,.v (.box [ti ex,ti ec,ti ez])),(3,.v (.bool true))]) (ba:=N+9000) aT h (by omega) hRv ?_ ?_ ?_ ?_ ?_) ?_
  ·intro p hp;simp only[Zaq,Zah,Zal,or_false]at hp;rcases hp with(rfl|rfl)|rfl|rfl|rfl
   ·exact .inr (.inr (.inr (by show N<=N+3;omega)))
   ·exact .inr (.inr (.inr (by show N<=N+3;omega)))
   ·exact .inl rfl
   ·exact .inr (.inl rfl)
   ·exact .inr (.inr (.inl rfl))
  ·simp[nq]
  ·simp[np,Hi]
  ·simp[nm,F8,Ka]
  ·simp;exact UU (X:=[]) aT h (by omega) (by simp)
  apply aa.ret;simp[EJ,<-PP];rfl
def nA(N:Nat):cV:=[(N+15,.box [.v (.fn (.func 101) []),.aW,.iE (N+13),.v (ti 0),.v (ti 0)]),(N+13,.map [.int .i64] false 0 [])]
def t1100{f0:bq}{N:Nat}(hN:∀r,N<=r->f0 r=none):
  sE aj 100 [.v (.fn (.func 101) [])] f0 N (N+20) (λval nJ=>val=.ptr (N+15) 0/\nJ=aM (nA N) f0):=by
 refine c1100.YJ hN (by simp) (by omega) ?_ λaT=>?_
 ·rintro val nJ ⟨rfl,rfl⟩;refine⟨λr hr h=>?_,λr hr=>?_⟩
  ·rw[pB hr (by simp[nA])];exact h
  ·rw[fj λo h=>by simp[nA]at h;omega];exact hN r (by omega)
 ·simp;apply aa.ag cF fw [0,2];simp[Ru];apply aa.ag cF fw [2];simp[Rv,Nat.add_assoc];apply aa.ret;simp[finN,nA]
def gb{a b c:kh}(h:¬iC b a)(k:¬iC c b):¬iC c a:=by
 unfold iC at*
 generalize a.v=u at*
 generalize b.v=v at*
 generalize c.v=w at*
 obtain⟨u1,u2⟩:=u;obtain⟨v1,v2⟩:=v;obtain⟨w1,w2⟩:=w;simp only[c8.lt]at*
 omega
def sY(a:kh):¬iC a a:=by
 unfold iC;generalize a.v=u;obtain⟨u1,u2⟩:=u;simp only[c8.lt];omega
def pC{a b:kh}(h:iC a b):¬iC b a:=by
 unfold iC at*
 generalize a.v=u at*
 generalize b.v=v at*
 obtain⟨u1,u2⟩:=u;obtain⟨v1,v2⟩:=v;simp only[c8.lt]at*
 omega
def oz(s:Qs):Prop:=∀i:Nat,0<i->i<s.heap.length->¬iC (s.e i) (s.e ((i-1)/2:Nat))
def xu{s:Qs}(h:oz s):∀i:Nat,i<s.heap.length->¬iC (s.e i) (s.e (0:Nat)):=by
 intro i;induction i using Nat.strongRecOn with
 |_ i ih=>
  intro hi;by_cases hz:i=0
  ·subst hz;exact sY _
  ·exact gb (ih ((i-1)/2) (by omega) (by omega)) (h i (by omega) hi)
def ic{s:Qs}{i j k:Nat}(hi:i<s.heap.length)(hj:j<s.heap.length)(hk:k<s.heap.length):(s.swap i j).e k=if k=j then s.e i else if k=i then s.e j else s.e k:=by
 simp only[Qs.swap,Qs.e,Zag,List.getD,ZbC];by_cases h1:k=j
 ·subst h1;simp[hj]
 ·by_cases h2:k=i
  ·subst h2;have:¬j=k:=λe=>h1 e.symm;simp[this,h1,hi]
  ·have a1:¬j=k:=λe=>h1 e.symm;have a2:¬i=k:=λe=>h2 e.symm;simp[a1,a2,h1,h2]
def CY:∀{i:Nat} {s:Qs},i<s.heap.length->(∀k:Nat,0<k->k<s.heap.length->k≠i->¬iC (s.e k) (s.e ((k-1)/2:Nat)))->
  (∀k:Nat,0<k->k<s.heap.length->(k-1)/2=i->0<i->¬iC (s.e k) (s.e ((i-1)/2:Nat)))->oz (tQ i s):=by
 intro i;induction i using Nat.strongRecOn with
 |_ i ih=>
  intro s hi h1 h2;unfold tQ;split
  ·rename_i hc;obtain⟨c1,c2⟩:=hc;obtain⟨y,hy⟩:=bb ((i-1)/2);rw[hy]at c2⊢;have zW:y<s.heap.length:=by omega
   have E:=λ{k:Nat} (hk:k<s.heap.length)=>ic (s:=s) (i:=i) (j:=y) hi zW hk;refine ih y (by omega) (by simpa using zW) (λk k1 k2 k3=>?_) (λk k1 k2 k3 k4=>?_)
   ·simp only[Qs.dI]at k2;rw[E k2,E (k:=(k-1)/2) (by omega)];by_cases e1:k=i
    ·subst e1;rw[Zab k3,Zai rfl,hy,Zai rfl];exact pC c2
    ·rw[Zab k3,Zab e1];by_cases e2:(k-1)/2=y
     ·rw[Zai e2];have:=h1 k k1 k2 e1;rw[e2]at this;exact gb (pC c2) this
     ·rw[Zab e2];by_cases e3:(k-1)/2=i
      ·rw[Zai e3];have:=h2 k k1 k2 e3 c1;rw[hy]at this;exact this
      ·rw[Zab e3];exact h1 k k1 k2 e1
   ·simp only[Qs.dI]at k2;rw[E k2,E (k:=(y-1)/2) (by omega)];have p1:¬(y-1)/2=y:=by omega
    have p2:¬(y-1)/2=i:=by omega
    have p3:¬k=y:=by omega
    rw[Zab p1,Zab p2,Zab p3];have hpy:=h1 y k4 zW (by omega);by_cases e1:k=i
    ·rw[Zai e1];exact hpy
    ·rw[Zab e1];have:=h1 k k1 k2 e1;rw[k3]at this;exact gb hpy this
  ·rename_i hc;intro k k1 k2;by_cases e:k=i
   ·subst e;exact λhb=>hc ⟨k1,hb⟩
   ·exact h1 k k1 k2 e
def zB(s:Qs)(i:Nat):∀t,¬iC (s.e i) (s.e (tR s i t))/\∀u,u<t->¬iC (s.e (2*i+1+u:Nat)) (s.e (tR s i t))
 |0=>⟨sY _,λu hu=>by omega⟩
 |t+1=>by
  obtain⟨h1,h2⟩:=zB s i t;unfold tR;split
  ·rename_i hc;have ha:=pC hc;refine⟨gb ha h1,λu hu=>?_⟩;by_cases e:u=t
   ·subst e;exact sY _
   ·exact gb ha (h2 u (by omega))
  ·rename_i hc;refine⟨h1,λu hu=>?_⟩;by_cases e:u=t
   ·subst e;exact hc
   ·exact h2 u (by omega)
def AY(s:Qs)(i:Nat):¬iC (s.e i) (s.e (dt s i))/\∀k:Nat,0<k->k<s.heap.length->(k-1)/2=i->¬iC (s.e k) (s.e (dt s i)):=by
 obtain⟨h1,h2⟩:=zB s i (kg s i);refine⟨h1,λk k1 k2 k3=>?_⟩;have:=h2 (k-(2*i+1)) (by unfold kg;omega);rw[show 2*i+1+(k-(2*i+1))=k by omega]at this;exact this
def AZ(s:Qs)(i:Nat):dt s i=i\/((dt s i-1)/2=i/\i<dt s i/\dt s i<s.heap.length):=by
 have:=sX s i (kg s i);have h3:=gZ s i;unfold dt at*
 unfold kg at*
 omega
def vL:∀{n:Nat} {i:Nat} {s:Qs},s.heap.length-i=n->(∀k:Nat,0<k->k<s.heap.length->(k-1)/2≠i->¬iC (s.e k) (s.e ((k-1)/2:Nat)))->
  (∀k:Nat,0<k->k<s.heap.length->(k-1)/2=i->0<i->¬iC (s.e k) (s.e ((i-1)/2:Nat)))->oz (fm i s):=by
 intro n;induction n using Nat.strongRecOn with
 |_ n ih=>
  intro i s hn h1 h2;obtain⟨m1,m2⟩:=AY s i;have hp:=AZ s i;unfold fm;split
  ·rename_i he;intro k k1 k2;by_cases e:(k-1)/2=i
   ·rw[e];have:=m2 k k1 k2 e;rw[he]at this;exact this
   ·exact h1 k k1 k2 e
  ·rename_i he;obtain⟨j,hj⟩:=bb (dt s i);rw[hj]at m1 m2 hp he⊢;obtain⟨p1,p2,p3⟩:=hp.resolve_left he;have hi:i<s.heap.length:=by omega
   have E:=λ{k:Nat} (hk:k<s.heap.length)=>ic (s:=s) (i:=i) (j:=j) hi p3 hk;refine ih (s.heap.length-j) (by omega) (by simp) (λk k1 k2 k3=>?_) (λk k1 k2 k3 k4=>?_)
   ·simp only[Qs.dI]at k2;rw[E k2,E (k:=(k-1)/2) (by omega),Zab k3];by_cases e1:k=j
    ·subst e1;rw[Zai rfl,Zai p1];exact m1
    ·rw[Zab e1];by_cases e2:k=i
     ·subst e2;have:¬(k-1)/2=k:=by omega
      rw[Zai rfl,Zab this];exact h2 j (by omega) p3 p1 k1
     ·rw[Zab e2];by_cases e3:(k-1)/2=i
      ·rw[Zai e3];exact m2 k k1 k2 e3
      ·rw[Zab e3];exact h1 k k1 k2 e3
   ·simp only[Qs.dI]at k2;rw[p1,E k2,E hi];have q1:¬k=j:=by omega
    have q2:¬k=i:=by omega
    have q3:¬i=j:=by omega
    rw[Zab q1,Zab q2,Zab q3,Zai rfl];have:=h1 k k1 k2 (by omega);rw[k3]at this;exact this
def sZ{s:Qs}{x:Int}{w:c8}{k:Nat}(hk:k<s.heap.length):(fM s x w).e k=s.e k:=by
 simp only[fM,Qs.e,Zag,List.getD];rw[Zbc hk]
def AU{s:Qs}{x:Int}{w:c8}(h:oz s):oz (gX s x w):=by
 have hl:(fM s x w).heap.length=s.heap.length+1:=by simp[fM]
 refine CY (by omega) (λk k1 k2 k3=>?_) (λk k1 k2 k3 k4=>?_)
 ·rw[sZ (by omega),sZ (by omega)];exact h k k1 (by omega)
 ·omega
def pw{s:Qs}{k:Nat}(hk:k<s.heap.length-1):(fT s).e k=if k=0 then s.e (s.heap.length-1:Nat)else s.e k:=by
 have hj:s.heap.length-1<s.heap.length:=by omega
 have E:=ic (s:=s) (i:=0) (j:=s.heap.length-1) (k:=k) (by omega) hj (by omega);have hc:((s.heap.length-1:Nat):Int)=(s.heap.length:Int)-1:=by omega
 have:(fT s).e k=(s.swap (0:Nat) (s.heap.length-1:Nat)).e k:=by
  simp only[fT,Qs.e,Zag,List.getD,ZaQ,hk,if_true,hc];rfl
 rw[this,E,Zab (by omega)]
def zx{s:Qs}(h:oz s):oz (fC s):=by
 unfold fC;split
 ·exact h
 ·rename_i bT;have xN:0<s.heap.length:=ZaT.2 bT;have hl:(fT s).heap.length=s.heap.length-1:=by
   simp only[fT,ZaB,Qs.dI];omega
  refine vL rfl (λk k1 k2 k3=>?_) (λk k1 k2 k3 k4=>by omega);rw[hl]at k2;rw[pw k2,pw (by omega),Zab (by omega),Zab k3];exact h k k1 (by omega)
def c6(s:Qs):Prop:=∀k:Nat,k<s.heap.length->jM s.es (s.e k).h=some (k:Int)
def c6.nd{s:Qs}(h:c6 s):s.nd:=λi j hi hj he=>by
 have h1:=h i hi;have h2:=h j hj;rw[he,h2]at h1;simp only[Zaa]at h1;omega
def kQ{s:Qs}(h:c6 s){i j:Nat}(hi:i<s.heap.length)(hj:j<s.heap.length):c6 (s.swap i j):=by
 intro k hk;rw[Qs.dI]at hk;rw[ic hi hj hk];show jM (d8 (d8 s.es s.mc (s.e j).h i) s.mc (s.e i).h j) _=_;rw[oM,oM];have nd:=h.nd;by_cases h1:k=j
 ·subst h1;rw[Zai rfl,Zai rfl]
 ·rw[Zab h1];by_cases h2:k=i
  ·subst h2;rw[Zai rfl];by_cases h3:(s.e j).h=(s.e k).h
   ·have:=nd j k hj hk h3;exact Zar this.symm h1
   ·rw[Zab h3,Zai rfl]
  ·rw[Zab h2,Zab (λe=>h2 (nd k i hk hi e)),Zab (λe=>h1 (nd k j hk hj e))];exact h k hk
def uW:∀{i:Nat} {s:Qs},i<s.heap.length->c6 s->c6 (tQ i s):=by
 intro i;induction i using Nat.strongRecOn with
 |_ i ih=>
  intro s hi h;unfold tQ;split
  ·exact ih _ (by omega) (by simp;omega) (kQ h hi (by omega))
  ·exact h
def s8:∀{n:Nat} {i:Nat} {s:Qs},s.heap.length-i=n->c6 s->c6 (fm i s):=by
 intro n;induction n using Nat.strongRecOn with
 |_ n ih=>
  intro i s hn h;unfold fm;split
  ·exact h
  ·rename_i he;have hp:=(gZ s i).resolve_left he;exact ih (s.heap.length-dt s i) (by omega) (by simp) (kQ h (by omega) hp.2)
def fD{s:Qs}{e:kh}:e∈s.heap↔∃k:Nat,k<s.heap.length/\s.e k=e:=by
 constructor
 ·intro h;obtain⟨k,hk,rfl⟩:=ZaO h;exact⟨k,hk,by simp[Qs.e,List.getD,hk]⟩
 ·rintro⟨k,hk,rfl⟩;simp only[Qs.e,Zag];exact bm hk
def nC{s:Qs}{i j:Nat}(hi:i<s.heap.length)(hj:j<s.heap.length)(e:kh):e∈(s.swap i j).heap↔e∈s.heap:=by
 rw[fD,fD];simp only[Qs.dI];constructor
 ·rintro⟨k,hk,rfl⟩;rw[ic hi hj hk];split
  ·exact⟨i,hi,rfl⟩
  ·split
   ·exact⟨j,hj,rfl⟩
   ·exact⟨k,hk,rfl⟩
 ·rintro⟨k,hk,rfl⟩;by_cases h1:k=j
  ·subst h1;by_cases h2:i=k
   ·subst h2;exact⟨i,hi,by rw[ic hi hi hi];simp⟩
   ·exact⟨i,hi,by rw[ic hi hk hi,Zab h2,Zai rfl]⟩
  ·by_cases h2:k=i
   ·subst h2;exact⟨j,hj,by rw[ic hk hj hj,Zai rfl]⟩
   ·exact⟨k,hk,by rw[ic hi hj hk,Zab h1,Zab h2]⟩
structure lu(s s':Qs):Prop where
 len:s'.heap.length=s.heap.length
 mem:∀e,e∈s'.heap↔e∈s.heap
 next:s'.next=s.next
 clock:s'.clock=s.clock
 mc:s'.mc=s.mc
 bD:s'.bD=s.bD
def lu.refl(s:Qs):lu s s:=⟨rfl,λ_=>Iff.rfl,rfl,rfl,rfl,rfl⟩
def lu.trans{a b c:Qs}(h:lu a b)(k:lu b c):lu a c:=⟨k.len.trans h.len,λe=>(k.mem e).trans (h.mem e),k.next.trans h.next,k.clock.trans h.clock,k.mc.trans h.mc,k.bD.trans h.bD⟩
def rK{s:Qs}{i j:Nat}(hi:i<s.heap.length)(hj:j<s.heap.length):lu s (s.swap i j):=⟨by simp,nC hi hj,rfl,rfl,rfl,rfl⟩
def vJ:∀{i:Nat} {s:Qs},i<s.heap.length->lu s (tQ i s):=by
 intro i;induction i using Nat.strongRecOn with
 |_ i ih=>
  intro s hi;unfold tQ;split
  ·exact(rK hi (by omega)).trans (ih _ (by omega) (by simp;omega))
  ·exact lu.refl s
def li:∀{n:Nat} {i:Nat} {s:Qs},s.heap.length-i=n->lu s (fm i s):=by
 intro n;induction n using Nat.strongRecOn with
 |_ n ih=>
  intro i s hn;unfold fm;split
  ·exact lu.refl s
  ·rename_i he;have hp:=(gZ s i).resolve_left he;exact(rK (by omega) hp.2).trans (ih (s.heap.length-dt s i) (by omega) (by simp))
def CU:∀{n:Nat} {i:Nat} {s:Qs},s.heap.length-i=n->s.ok->(fm i s).ok:=by
 intro n;induction n using Nat.strongRecOn with
 |_ n ih=>
  intro i s hn h;unfold fm;split
  ·exact h
  ·rename_i he;have hp:=(gZ s i).resolve_left he;exact ih (s.heap.length-dt s i) (by omega) (by simp) (h.swap ⟨by omega,by omega⟩ ⟨by omega,by omega⟩)
def xq{s:Qs}{x:Int}{w:c8}(h:c6 s)(hn:∀e∈s.heap,e.h≠s.next):c6 (gX s x w):=by
 have hl:(fM s x w).heap.length=s.heap.length+1:=by simp[fM]
 refine uW (by omega) λk hk=>?_;rw[hl]at hk;show jM (d8 s.es s.mc s.next s.heap.length) _=_;rw[oM];by_cases h1:k<s.heap.length
 ·rw[sZ h1,Zab (hn _ (fD.2 ⟨k,h1,rfl⟩))];exact h k h1
 ·obtain rfl:k=s.heap.length:=by omega
  have:(fM s x w).e (s.heap.length:Nat)=⟨x,w,s.next,s.clock⟩:=by simp[fM,Qs.e,List.getD]
  rw[this,Zai rfl]
def vK{s:Qs}(h:c6 s):c6 (fC s):=by
 unfold fC;split
 ·exact h
 ·rename_i bT;have xN:0<s.heap.length:=ZaT.2 bT;have hl:(fT s).heap.length=s.heap.length-1:=by
   simp only[fT,ZaB,Qs.dI];omega
  have hc:((s.heap.length-1:Nat):Int)=(s.heap.length:Int)-1:=by omega
  have Nx:=kQ h (i:=0) (j:=s.heap.length-1) xN (by omega);refine s8 rfl λk hk=>?_;rw[hl]at hk;have he:(fT s).e k=(s.swap (0:Nat) (s.heap.length-1:Nat)).e k:=by
   simp only[fT,Qs.e,Zag,List.getD,ZaQ,hk,if_true,hc];rfl
  have pP:(fT s).es=nD (s.swap (0:Nat) (s.heap.length-1:Nat)).es (s.e (0:Nat)).h:=by
   simp only[fT,hc];rfl
  rw[he,pP,Hn]
  ·exact Nx k (by simp;omega)
  ·rw[ic xN (by omega) (by omega),Zab (by omega)];have nd:=h.nd;by_cases h1:k=0
   ·subst h1;rw[Zai rfl];exact λe=>by have:=nd (s.heap.length-1) 0 (by omega) xN e;omega
   ·rw[Zab h1];exact λe=>h1 (nd k 0 (by omega) xN e)
section
variable{f:bq}{sp:Nat}
structure NN where
 (rb rf rh q u hp m:Nat)
structure dn where
 ak:bR
 bZ:List Bool
 fl:bO
 s:Qs
structure eY where
 nd:Int
 es:List bF
 Fy:List (bO)
def ny(l:List (bO)):bB:=l.map λx=>.v (.sl (aG x))
@[simp] def usesC_len(l:List (bO)):(ny l).length=l.length:=by simp[ny]
def ma(k:NN)(z:eY):bB:=[.v (ti z.nd),.v (.sl (bk z.es)),.bA k.rb 0,.bA k.rf 0,.bA k.rh 0,.F9 k.u z.Fy.length,.ptr k.q 0]
def qK(s:dn):Ob:=.arr 0 63 2 (bC s.ak)
def rU(s:dn):Ob:=.arr 0 4 1 (g8 s.bZ)
def rV(s:dn):Ob:=.arr 0 3 1 (aG s.fl)
structure SV where
 k:NN
 z:eY
 s:dn
structure SV.at(v:SV)(f:bq)(p:Nat):Prop where
 sp:f p=some (.box (ma v.k v.z))
 rb:f v.k.rb=some (qK v.s)
 rf:f v.k.rf=some (rU v.s)
 rh:f v.k.rh=some (rV v.s)
 q:f v.k.q=some (qB v.k.hp v.k.m v.s.s)
 hp:f v.k.hp=some (hB v.s.s)
 m:f v.k.m=some (mB v.s.s)
 u:f v.k.u=some (.box (ny v.z.Fy))
def SV.qv(v:SV):QV:=⟨v.k.hp,v.k.m,v.s.s⟩
def SV.at.qv{v:SV}(h:v.at f sp):v.qv.at f v.k.q:=⟨h.q,h.hp,h.m⟩
abbrev SV.to(v:SV)(s:dn):SV:=⟨v.k,v.z,s⟩
def bX(f:bq)(v:SV)(s:dn):bq:=aM [(v.k.rb,qK s),(v.k.rf,rU s),(v.k.rh,rV s),(v.k.q,qB v.k.hp v.k.m s.s),(v.k.hp,hB s.s),(v.k.m,mB s.s)] f
structure SV.Ne(v:SV)(sp:Nat):Prop where
 nV:sp≠v.k.rb
 nW:sp≠v.k.rf
 nX:sp≠v.k.rh
 uP:sp≠v.k.q
 nw:sp≠v.k.hp
 uQ:sp≠v.k.m
 Wo:sp≠v.k.u
 qc:v.k.rb≠sp
 pq:v.k.rb≠v.k.rf
 qd:v.k.rb≠v.k.rh
 zi:v.k.rb≠v.k.q
 qe:v.k.rb≠v.k.hp
 zj:v.k.rb≠v.k.m
 Wp:v.k.rb≠v.k.u
 pu:v.k.rf≠sp
 nY:v.k.rf≠v.k.rb
 qf:v.k.rf≠v.k.rh
 zk:v.k.rf≠v.k.q
 qg:v.k.rf≠v.k.hp
 zl:v.k.rf≠v.k.m
 Wq:v.k.rf≠v.k.u
 qh:v.k.rh≠sp
 nZ:v.k.rh≠v.k.rb
 oa:v.k.rh≠v.k.rf
 zm:v.k.rh≠v.k.q
 qi:v.k.rh≠v.k.hp
 zn:v.k.rh≠v.k.m
 Wr:v.k.rh≠v.k.u
 zo:v.k.q≠sp
 tH:v.k.q≠v.k.rb
 tJ:v.k.q≠v.k.rf
 tK:v.k.q≠v.k.rh
 xo:v.k.q≠v.k.hp
 PD:v.k.q≠v.k.m
 nqu:v.k.q≠v.k.u
 qj:v.k.hp≠sp
 mo:v.k.hp≠v.k.rb
 mq:v.k.hp≠v.k.rf
 mr:v.k.hp≠v.k.rh
 vS:v.k.hp≠v.k.q
 xp:v.k.hp≠v.k.m
 Ws:v.k.hp≠v.k.u
 zp:v.k.m≠sp
 tM:v.k.m≠v.k.rb
 tN:v.k.m≠v.k.rf
 tO:v.k.m≠v.k.rh
 NM:v.k.m≠v.k.q
 vT:v.k.m≠v.k.hp
 nmu:v.k.m≠v.k.u
 Wt:v.k.u≠sp
 PE:v.k.u≠v.k.rb
 PF:v.k.u≠v.k.rf
 PG:v.k.u≠v.k.rh
 nuq:v.k.u≠v.k.q
 PH:v.k.u≠v.k.hp
 num:v.k.u≠v.k.m
def SV.at.ne{v:SV}(h:v.at f sp):v.Ne sp:=by
 obtain⟨hsp,oO,oP,nz,hq,lU,hm,hu⟩:=h;simp only[ma,qK,rU,rV,qB,hB,mB]at hsp oO oP nz hq lU hm;have e1:∀z:DV,∀l,ny v.z.Fy=z::l->∃x,z=.v (.sl x):=λz l h=>by
  cases hu2:v.z.Fy with
  |nil=>rw[hu2]at h;simp[ny]at h
  |cons a b=>rw[hu2]at h;simp only[ny,ZaA,Za1]at h;exact⟨_,h.1.symm⟩
 exact⟨λe=>by rw[e,oO]at hsp;simp at hsp,
  λe=>by rw[e,oP]at hsp;simp at hsp,
  λe=>by rw[e,nz]at hsp;simp at hsp,
  λe=>by rw[e,hq]at hsp;simp at hsp,
  λe=>by rw[e,lU]at hsp;simp at hsp,
  λe=>by rw[e,hm]at hsp;simp at hsp,
  λe=>by rw[e,hu]at hsp;simp only[Zaa,Ob.box.injEq]at hsp;obtain⟨x,hx⟩:=e1 _ _ hsp;simp at hx,
  λe=>by rw[e,hsp]at oO;simp at oO,
  λe=>by rw[e,oP]at oO;simp at oO,
  λe=>by rw[e,nz]at oO;simp at oO,
  λe=>by rw[e,hq]at oO;simp at oO,
  λe=>by rw[e,lU]at oO;simp at oO,
  λe=>by rw[e,hm]at oO;simp at oO,
  λe=>by rw[e,hu]at oO;simp at oO,
  λe=>by rw[e,hsp]at oP;simp at oP,
  λe=>by rw[e,oO]at oP;simp at oP,
  λe=>by rw[e,nz]at oP;simp at oP,
  λe=>by rw[e,hq]at oP;simp at oP,
  λe=>by rw[e,lU]at oP;simp at oP,
  λe=>by rw[e,hm]at oP;simp at oP,
  λe=>by rw[e,hu]at oP;simp at oP,
  λe=>by rw[e,hsp]at nz;simp at nz,
  λe=>by rw[e,oO]at nz;simp at nz,
  λe=>by rw[e,oP]at nz;simp at nz,
  λe=>by rw[e,hq]at nz;simp at nz,
  λe=>by rw[e,lU]at nz;simp at nz,
  λe=>by rw[e,hm]at nz;simp at nz,
  λe=>by rw[e,hu]at nz;simp at nz,
  λe=>by rw[e,hsp]at hq;simp at hq,
  λe=>by rw[e,oO]at hq;simp at hq,
  λe=>by rw[e,oP]at hq;simp at hq,
  λe=>by rw[e,nz]at hq;simp at hq,
  λe=>by rw[e,lU]at hq;simp at hq,
  λe=>by rw[e,hm]at hq;simp at hq,
  λe=>by rw[e,hu]at hq;simp only[Zaa,Ob.box.injEq]at hq;obtain⟨x,hx⟩:=e1 _ _ hq;simp at hx,
  λe=>by rw[e,hsp]at lU;simp at lU,
  λe=>by rw[e,oO]at lU;simp at lU,
  λe=>by rw[e,oP]at lU;simp at lU,
  λe=>by rw[e,nz]at lU;simp at lU,
  λe=>by rw[e,hq]at lU;simp at lU,
  λe=>by rw[e,hm]at lU;simp at lU,
  λe=>by rw[e,hu]at lU;simp at lU,
  λe=>by rw[e,hsp]at hm;simp at hm,
  λe=>by rw[e,oO]at hm;simp at hm,
  λe=>by rw[e,oP]at hm;simp at hm,
  λe=>by rw[e,nz]at hm;simp at hm,
  λe=>by rw[e,hq]at hm;simp at hm,
  λe=>by rw[e,lU]at hm;simp at hm,
  λe=>by rw[e,hu]at hm;simp at hm,
  λe=>by rw[e,hsp]at hu;simp only[Zaa,Ob.box.injEq]at hu;obtain⟨x,hx⟩:=e1 _ _ hu.symm;simp at hx,
  λe=>by rw[e,oO]at hu;simp at hu,
  λe=>by rw[e,oP]at hu;simp at hu,
  λe=>by rw[e,nz]at hu;simp at hu,
  λe=>by rw[e,hq]at hu;simp only[Zaa,Ob.box.injEq]at hu;obtain⟨x,hx⟩:=e1 _ _ hu.symm;simp at hx,
  λe=>by rw[e,lU]at hu;simp at hu,
  λe=>by rw[e,hm]at hu;simp at hu⟩
def kH{v:SV}(h:v.at f sp)(s:dn):(v.to s).at (bX f v s) sp:=by
 obtain⟨nV,nW,nX,uP,nw,uQ,Wo,qc,pq,qd,zi,qe,zj,Wp,pu,nY,qf,zk,qg,zl,Wq,qh,nZ,oa,zm,qi,zn,Wr,zo,tH,tJ,tK,xo,PD,nqu,qj,mo,mq,mr,vS,xp,Ws,zp,tM,tN,tO,NM,vT,nmu,Wt,PE,PF,PG,nuq,PH,num⟩:=h.ne;refine⟨?_, ?_, ?_, ?_, ?_, ?_, ?_, ?_⟩
 ·simp[bX,nV,nW,nX,uP,nw,uQ,h.sp]
 ·simp[bX]
 ·simp[bX,nY]
 ·simp[bX,nZ,oa]
 ·simp[bX,tH,tJ,tK]
 ·simp[bX,mo,mq,mr,vS]
 ·simp[bX,tM,tN,tO,NM,vT]
 ·simp[bX,PE,PF,PG,nuq,PH,num,h.u]
def zr(f:bq)(v:SV)(s s':dn):bX (bX f v s) (v.to s) s'=bX f v s':=by
 funext k;simp only[bX,aP,cm];by_cases h1:k=v.k.rb<;>by_cases h2:k=v.k.rf<;>by_cases h3:k=v.k.rh<;>by_cases h4:k=v.k.q<;>by_cases h5:k=v.k.hp<;>by_cases h6:k=v.k.m<;>simp[h1,h2,h3,h4,h5,h6]
def gK{v:SV}{r:Nat}(h:v.at f sp)(s:dn)(hr:f r=none):bX f v s r=none:=by
 have e1:r≠v.k.rb:=λe=>by rw[e,h.rb]at hr;cases hr
 have e2:r≠v.k.rf:=λe=>by rw[e,h.rf]at hr;cases hr
 have e3:r≠v.k.rh:=λe=>by rw[e,h.rh]at hr;cases hr
 have e4:r≠v.k.q:=λe=>by rw[e,h.q]at hr;cases hr
 have e5:r≠v.k.hp:=λe=>by rw[e,h.hp]at hr;cases hr
 have e6:r≠v.k.m:=λe=>by rw[e,h.m]at hr;cases hr
 simp[bX,e1,e2,e3,e4,e5,e6,hr]
def eH{v:SV}(h:v.at f sp):bX f v v.s=f:=by
 funext k;simp only[bX,aP,cm];split
 ·rename_i e;rw[e];exact h.rb.symm
 ·split
  ·rename_i e;rw[e];exact h.rf.symm
  ·split
   ·rename_i e;rw[e];exact h.rh.symm
   ·split
    ·rename_i e;rw[e];exact h.q.symm
    ·split
     ·rename_i e;rw[e];exact h.hp.symm
     ·split
      ·rename_i e;rw[e];exact h.m.symm
      ·rfl
def rF{v:SV}{p:Nat}(h:v.at f p)(a:dn)(s:Qs):bH (bX f v a) v.k.q (v.to a).qv s=bX f v ⟨a.ak,a.bZ,a.fl,s⟩:=by
 obtain⟨nV,nW,nX,uP,nw,uQ,Wo,qc,pq,qd,zi,qe,zj,Wp,pu,nY,qf,zk,qg,zl,Wq,qh,nZ,oa,zm,qi,zn,Wr,zo,tH,tJ,tK,xo,PD,nqu,qj,mo,mq,mr,vS,xp,Ws,zp,tM,tN,tO,NM,vT,nmu,Wt,PE,PF,PG,nuq,PH,num⟩:=h.ne;funext k;simp only[bH,bX,SV.qv,aP,cm,qK,rU,rV];by_cases h1:k=v.k.q
 ·subst h1;simp[tH,tJ,tK]
 ·by_cases h2:k=v.k.hp
  ·subst h2;simp[h1,mo,mq,mr]
  ·by_cases h3:k=v.k.m
   ·subst h3;simp[h1,h2,tM,tN,tO]
   ·simp[h1,h2,h3]
def pD{v:SV}{g:bq}{s:dn}(h1:g v.k.rb=some (qK s))(h2:g v.k.rf=some (rU s))(h3:g v.k.rh=some (rV s))(h4:g v.k.q=some (qB v.k.hp v.k.m s.s))(h5:g v.k.hp=some (hB s.s))(h6:g v.k.m=some (mB s.s))
  (h7:∀k,k≠v.k.rb->k≠v.k.rf->k≠v.k.rh->k≠v.k.q->k≠v.k.hp->k≠v.k.m->g k=f k):g=bX f v s:=by
 funext k;simp only[bX,aP,cm];repeat' split
 all_goals first|(rename_i e;rw[e];assumption)|(apply h7<;>assumption)
def Fz{v:SV}{p:Nat}(h:v.at f p)(s:dn)(B:bR):aM [(v.k.rb,.arr 0 63 2 (bC B))] (bX f v s)=bX f v ⟨B,s.bZ,s.fl,s.s⟩:=by
 obtain⟨nV,nW,nX,uP,nw,uQ,Wo,qc,pq,qd,zi,qe,zj,Wp,pu,nY,qf,zk,qg,zl,Wq,qh,nZ,oa,zm,qi,zn,Wr,zo,tH,tJ,tK,xo,PD,nqu,qj,mo,mq,mr,vS,xp,Ws,zp,tM,tN,tO,NM,vT,nmu,Wt,PE,PF,PG,nuq,PH,num⟩:=h.ne;refine pD ?_ ?_ ?_ ?_ ?_ ?_ λk a1 a2 a3 a4 a5 a6=>?_<;>simp[bX, *]<;>rfl
def JC{v:SV}{p:Nat}(h:v.at f p)(s:dn)(B:List Bool):aM [(v.k.rf,.arr 0 4 1 (g8 B))] (bX f v s)=bX f v ⟨s.ak,B,s.fl,s.s⟩:=by
 obtain⟨nV,nW,nX,uP,nw,uQ,Wo,qc,pq,qd,zi,qe,zj,Wp,pu,nY,qf,zk,qg,zl,Wq,qh,nZ,oa,zm,qi,zn,Wr,zo,tH,tJ,tK,xo,PD,nqu,qj,mo,mq,mr,vS,xp,Ws,zp,tM,tN,tO,NM,vT,nmu,Wt,PE,PF,PG,nuq,PH,num⟩:=h.ne;refine pD ?_ ?_ ?_ ?_ ?_ ?_ λk a1 a2 a3 a4 a5 a6=>?_<;>simp[bX, *]<;>rfl
def JD{v:SV}{p:Nat}(h:v.at f p)(s:dn)(B:bO):aM [(v.k.rh,.arr 0 3 1 (aG B))] (bX f v s)=bX f v ⟨s.ak,s.bZ,B,s.s⟩:=by
 obtain⟨nV,nW,nX,uP,nw,uQ,Wo,qc,pq,qd,zi,qe,zj,Wp,pu,nY,qf,zk,qg,zl,Wq,qh,nZ,oa,zm,qi,zn,Wr,zo,tH,tJ,tK,xo,PD,nqu,qj,mo,mq,mr,vS,xp,Ws,zp,tM,tN,tO,NM,vT,nmu,Wt,PE,PF,PG,nuq,PH,num⟩:=h.ne;refine pD ?_ ?_ ?_ ?_ ?_ ?_ λk a1 a2 a3 a4 a5 a6=>?_<;>simp[bX, *]<;>rfl
end
def edOk(n:Nat)(e:bF):Prop:=(∀t∈e.dy,0<=t/\t<n)/\(0<=e.aH/\e.aH<=4000000000000)/\e.dy.length<=1000000
abbrev gF(ak:bR)(e:bF):c8:=dU e.aH (dR ak e.dy)
def t1105{f0:bq}{p N:Nat}{v:SV}{e:bF}(hN:∀r,N<=r->f0 r=none)(hv:v.at f0 p)(he:edOk v.s.ak.length e)(hb:∀x∈v.s.ak,jj x):
  aR aj 105 [.ptr p 0,.v (.agg e.enc)] f0 ⟨True,.v (.agg [ti (gF v.s.ak e).aH,ti (gF v.s.ak e).size]),f0⟩:=by
 obtain⟨R,hR⟩:=bb (gF v.s.ak e);rw[hR];unfold gF at hR;obtain⟨eh,ts,ec,e0,e1⟩:=e;obtain⟨ht,hc,hl⟩:=he;simp only at ht hc hl hR;obtain⟨Vs,NL⟩:=bb (dR v.s.ak ts);rw[NL]at hR;have hVl:Vs.length=ts.length:=by rw[<-NL];simp[dR]
 have Gk:∀x∈Vs,jj x:=by
  rw[<-NL];intro x hx;obtain⟨y,hy,rfl⟩:=Zak.1 hx;have:=ht y hy;exact hb _ (bm (by omega))
 have aC:=ok84 ay.nil;refine c1105.pQ hN (by simp) λaT=>?_;have h1:=hv.sp;have h2:=hv.rb;have nu:p<N:=(aT p _ h1).1;have UN:v.k.rb<N:=(aT _ _ h2).1;have np:∀k,p≠N+k:=λk=>by omega
 have nb:∀k,v.k.rb≠N+k:=λk=>by omega
 simp only[ma,qK]at h1 h2;have en:(∃cs,f0 p=some (.box cs)):=⟨_,h1⟩;simp;apply aa.ag aC fw [0,3,4];simp[IM,bF.enc];refine aa.le (Le.dV (l1:=[(N+5,.box [.v (ti 0),.v (ti 0)])]) (l:=[(0,.ptr p 0),(3,.v (.box [ti eh,.sl (aG ts),ti ec,ti e0,ti e1])),(4,.ptr (N+5) 0)]) (ba:=N+500) aT ?_ ?_ ?_ ?_ ?_) ?_
 ·omega
 ·simp
 ·simp[bK,Nat.add_assoc]
 ·simp[dN,eA,Nat.add_assoc]
 ·simp[np,Nat.add_assoc,en];exact bL aT (by omega) (by simp)
 apply aa.ag aC fw [0,3,4,5];simp[IN,Zba,dK];refine⟨by omega,by omega, ?_⟩;obtain⟨Z,hZ⟩:=bb (List.replicate ts.length ⟨0,0⟩:bR);refine aa.le (Le.dV (l1:=[(N+5,.box [.v (ti 0),.v (ti 0)]),(N+512,.arr 0 63 2 (bC (Vs.take 0++List.replicate (ts.length-0) ⟨0,0⟩)))]) (l:=[(0,.ptr p 0),(3,.v (.box [ti eh,.sl (aG ts),ti ec,ti e0,ti e1])),(4,.ptr (N+5) 0),(5,.bA (N+512) 0)]) (ba:=N+1000) aT ?_ ?_ ?_ ?_ ?_) ?_
 ·omega
 ·simp
 ·simp[bK,Nat.add_assoc]
 ·simp[dN,eA,Nat.add_assoc,bC]
 ·simp[np,Nat.add_assoc,en,bC]
 apply aa.seq;apply aa.ag aC fw [0,3,4,5,13,14,15];simp[IP];apply aa.block;refine aa.loop (λi:Nat=>⟨DM.look [(0,.ptr p 0),(3,.v (.box [ti eh,.sl (aG ts),ti ec,ti e0,ti e1])),(4,.ptr (N+5) 0),(5,.bA (N+512) 0),(13,.v (.sl (aG ts))),(14,.v (ti ts.length)),(15,.v (ti i))],aM [(N+5,.box [.v (ti 0),.v (ti 0)]),(N+512,.arr 0 63 2 (bC (Vs.take i++List.replicate (ts.length-i) ⟨0,0⟩)))] f0,N+2000,N,[]⟩)
  (λi=>i<=ts.length) (λi=>ts.length-i) 0 (Le.dV aT ?_ ?_ ?_ ?_ ?_) (by omega) (λi hi2=>?_)
 ·omega
 ·simp
 ·simp[bK]
 ·simp[dN,eA]
 ·simp[np,en]
 obtain⟨A,hA⟩:=bb (Vs.take i++List.replicate (ts.length-i) (⟨0,0⟩:c8));have hAl:A.length=ts.length:=by rw[<-hA];simp;omega
 rw[hA];apply aa.ag aC fw [0,3,4,5,13,14,15,16];simp[IQ];apply aa.seq;refine aa.cond rfl (λg=>?_) (λg=>?_)
 ·have g:i<ts.length:=by simpa using g
  have rt:=cE g;obtain⟨t,KB⟩:=bb (ts.getD i default);rw[KB]at rt;obtain⟨t0,t1⟩:=ht t (by rw[<-KB];exact bm g);obtain⟨t,rfl⟩:=Zae t0;have t1:t<v.s.ak.length:=by omega
  have rv:=dd t1;obtain⟨⟨wc,wz⟩,hw⟩:=bb (v.s.ak.getD t default);rw[hw]at rv;have hiA:i<A.length:=by omega
  have rA:=dd hiA;have dA:∀a b:T,List.drop 2 [a,b]=[]:=λ_ _=>rfl;have hS:Vs.take (i+1)++List.replicate (ts.length-(i+1)) (⟨0,0⟩:c8)=A.set i ⟨wc,wz⟩:=by
   have hVi:Vs.take (i+1)=Vs.take i++[⟨wc,wz⟩]:=by
    have:Vs[i]? =some ⟨wc,wz⟩:=by
     rw[<-NL,dR,Zbx];have:ts[i]? =some (t:Int):=by
      have:=Zas g;rw[this];simp only[List.getD,this,Zbd]at KB;rw[KB]
     rw[this];simp only[Za8,Zag,hw]
    rw[ZbO,this];rfl
   rw[hVi,<-hA,ZbG _ _ (by rw[ZaB];omega)];have hl':(Vs.take i).length=i:=by rw[ZaB];omega
   rw[hl',Zcp,show ts.length-i=(ts.length-(i+1))+1 by omega,ZaY,ZbR,List.append_assoc];rfl
  apply aa.skip;simp;apply aa.seq;apply aa.block;apply aa.ag aC fw [0,3,4,5,6,7,13,14,15];simp[IR,rt,g];apply aa.fK aC fw [0,3,4,5,13,14,15];simp[IS,h1,h2,np,nb,Nat.add_assoc,t1,rv,hiA,rA];apply aa.fK aC fw [0,3,4,5,13,14,15];simp[IT];rw[aF (by omega)];refine⟨i+1,Le.dV aT ?_ ?_ ?_ ?_ ?_,by omega,by omega⟩
  ·omega
  ·simp
  ·simp[bK]
  ·simp[dN,eA,hS,jh]
  ·simp[np,en,hS,jh]
 ·have g:¬i<ts.length:=by simpa using g
  have hie:i=ts.length:=by omega
  subst hie;rw[ZaX (by omega),Zcp,Zcg,ZaC]at hA;subst hA;apply aa.exit;simp;refine aa.le (Le.dV (l1:=[(N+5,.box [.v (ti 0),.v (ti 0)])]) (l:=[(3,.v (.box [ti eh,.sl (aG ts),ti ec,ti e0,ti e1])),(4,.ptr (N+5) 0),(5,.v (.sl (bC Vs)))]) (ba:=N+5000) aT ?_ ?_ ?_ ?_ ?_) ?_
  ·omega
  ·simp
  ·simp[bK]
  ·simp[dN,eA]
  ·simp;exact bL aT (by omega) (by simp)
  apply aa.ag aC fw [4];simp[IU,Zba,hVl,hR];refine⟨Gk,hc.1,hc.2,by omega, ?_⟩;refine aa.le (kO (l:=[(4,.v (.box [ti R.aH,ti R.size]))]) (ba:=N+6000) aT (by omega) (by simp) ?_) ?_
  ·simp;exact bL (l:=[]) aT (by omega) (by simp)
  apply aa.ret;simp[EL];rfl
def aR.pieces{f:Nat}{a:DV}{ts:aK}{ab:bq}{r:fI}(h:aR aj f [a,.v (.agg ts)] ab r):aR aj f [a,.agg (ts.map .v)] ab r:=by
 refine⟨h.entry,λbase W M w0 w L cA hO B9=>h.run base W M w0 w L cA hO ⟨B9.1,λi d v hd hv=>?_⟩⟩
 match i with
 |0=>exact B9.2 0 d v hd hv
 |1=>
  simp only[Zbb,ZaF,Zaa]at hd;subst hd;have:=B9.2 1 _ v rfl hv;simp only[aA]at this;obtain⟨vs,rfl,h2⟩:=this;simp only[aA,bj];exact⟨vs,rfl,wN h2⟩
 |i+2=>simp at hd
def pp(st:dn)(e:bF):dn:=if(gF st.ak e).aH<1099511627776/\st.bZ.getD e.head.toNat false=false then⟨st.ak,st.bZ,st.fl,gX st.s e.head (gF st.ak e)⟩else st
def qF(z:eY)(st:dn)(k:Nat):dn:=pp st (z.es.getD k default)
def qb(z:eY)(st:dn)(k:Nat):Prop:=k<z.es.length/\edOk st.ak.length (z.es.getD k default)/\(0<=(z.es.getD k default).head/\(z.es.getD k default).head<st.bZ.length)/\(∀x∈st.ak,jj x)/\xm st.s
def t1102{f0:bq}{p N k:Nat}{v:SV}(hN:∀r,N<=r->f0 r=none)(hv:v.at f0 p)(ho:qb v.z v.s k):
  aR aj 102 [.ptr p 0,.v (ti k)] f0 ⟨True,.v (.eo []),bX f0 v (qF v.z v.s k)⟩:=by
 obtain⟨hk,hE,hh,hb,hpu⟩:=ho;obtain⟨R,hR⟩:=bb (qF v.z v.s k);rw[hR];unfold qF at hR;have rr:=jX hk;obtain⟨e,JB⟩:=bb (v.z.es.getD k default);rw[JB]at hR hE hh rr;unfold pp at hR;obtain⟨⟨wc,wz⟩,hw⟩:=bb (gF v.s.ak e);rw[hw]at hR;have hcmb:=λ(N:Nat) (h:∀r,N<=r->aM [] f0 r=none)=>t1105 (f0:=aM [] f0) h hv hE hb;rw[hw]at hcmb;have hpush:=λ(N:Nat) (h:∀r,N<=r->aM [] f0 r=none)=>aR.pieces (t1132 (f0:=aM [] f0) (x:=e.head) (w:=⟨wc,wz⟩) h hv.qv hpu);have aC:=Hd (Hd ay.nil hpush (λr h=>gJ (f:=aM [] f0) hv.qv _ h)) hcmb (λr h=>h);refine c1102.pQ hN (by simp) λaT=>?_;have h1:=hv.sp;have h3:=hv.rf;have nu:p<N:=(aT p _ h1).1;have np:∀k,p≠N+k:=λk=>by omega
 simp only[ma,rU]at h1 h3;have en:(∃cs,f0 p=some (.box cs)):=⟨_,h1⟩;obtain⟨eh,ts,ec,e0,e1⟩:=e;simp only[bF.enc]at rr aC hh hR;obtain⟨y,rfl⟩:=Zae hh.1;have hy:y<v.s.bZ.length:=by omega
 have rb:=jG hy;rw[show(default:Bool)=false from rfl]at rb;obtain⟨fb,MC⟩:=bb (v.s.bZ.getD y false);rw[MC]at rb;simp only[Zag,MC]at hR;simp;apply aa.ag aC fw [0,4];simp[Ry,h1,hk,rr];refine aa.le (kO (l:=[(0,.ptr p 0),(4,.v (.box [ti y,.sl (aG ts),ti ec,ti e0,ti e1]))]) (ba:=N+1000) aT (by omega) (by simp;omega) ?_) ?_
 ·simp[np,Nat.add_assoc,en];exact bL (l:=[]) aT (by omega) (by simp)
 apply aa.cX aC fw (rs:=EE) rfl (by kernel_rfl) [0,4,5];simp[EE];refine aa.le (kO (l:=[(0,.ptr p 0),(4,.v (.box [ti y,.sl (aG ts),ti ec,ti e0,ti e1])),(5,.v (.box [ti wc,ti wz]))]) (ba:=N+2000) aT (by omega) (by simp;omega) ?_) ?_
 ·simp[np,Nat.add_assoc,en];exact bL (l:=[]) aT (by omega) (by simp)
 obtain⟨c1,bU⟩:=bb (decide (wc<1099511627776/\fb=false):Bool);refine aa.cz aC fw [(0,.ptr p 0),(4,.v (.box [ti y,.sl (aG ts),ti ec,ti e0,ti e1])),(5,.v (.box [ti wc,ti wz])),(30,.v (.bool c1))] ?_ ?_
 ·by_cases q1:wc<1099511627776
  ·cases fb with
   |true=>
    have:c1=false:=by rw[<-bU];simp
    simp[CA,h1,h3,hy,rb,q1,this]
   |false=>
    have:c1=true:=by rw[<-bU];simp[q1]
    simp[CA,h1,h3,hy,rb,q1,this]
  ·have:c1=false:=by rw[<-bU];simp[q1]
   simp[CA,q1,this]
 refine aa.cond rfl (λg=>?_) (λg=>?_)
 ·have g:c1=true:=by simpa using g
  subst g;rw[Zai (Zat bU)]at hR;have e2:=rF hv v.s (gX v.s.s (y:Int) ⟨wc,wz⟩);rw[eH hv]at e2;have e2:bH (aM [] f0) v.k.q v.qv (gX v.s.s (y:Int) ⟨wc,wz⟩)=bX f0 v R:=by rw[<-hR];exact e2
  refine aa.pe aC fw (rs:=eR EF []) (.inr ⟨_,rfl⟩) (by kernel_rfl) [] ?_;simp[EF,eR,h1,EG];exact e2
 ·have g:c1=false:=by simpa using g
  subst g;rw[Zab (Zay bU)]at hR;apply aa.skip;simp[EG];rw[<-hR,eH hv];rfl
section
variable{v:SV}{f0:bq}{p N:Nat}{L:cV}
def nv(aT:dh f0 N)(hv:v.at f0 p)(s:dn):dh (bX f0 v s) N:=by
 have p0:∀m,f0 m≠none->bX f0 v s m≠none:=by
  intro m hm;simp only[bX,aP,cm];repeat' split
  all_goals first|(intro h;cases h)|exact hm
 intro r o h;by_cases hr:f0 r=none
 ·rw[gK hv s hr]at h;cases h
 ·obtain⟨o',iA⟩:=ZbP.1 hr;obtain⟨h1,h2⟩:=aT r o' iA;refine⟨h1,λm hm=>?_⟩;simp only[bX,aP,cm]at h;split at h
  ·cases h;simp[qK,aZ]at hm
  ·split at h
   ·cases h;simp[rU,aZ]at hm
   ·split at h
    ·cases h;simp[rV,aZ]at hm
    ·split at h
     ·cases h;simp only[qB,aZ,bM,aN,ZaC,Zaq,Zah,Zal,or_false,false_or]at hm;apply p0;rcases hm with rfl|rfl
      ·rw[hv.hp];simp
      ·rw[hv.m];simp
     ·split at h
      ·cases h;simp[hB,aZ]at hm
      ·split at h
       ·cases h;exfalso;simp only[mB,aZ,ZaV,uO,Zak]at hm;obtain⟨e,⟨e',_,rfl⟩,hk⟩:=hm;simp[aN]at hk
       ·rw[iA]at h;cases h;exact p0 m (h2 m hm)
end
def zh(st:dn)(x:Int)(w:c8):dn:=⟨st.ak.set x.toNat w,st.bZ.set x.toNat true,st.fl,st.s⟩
def xn(st:dn)(k:Int):dn:=⟨st.ak,st.bZ,st.fl.set k.toNat (st.fl.getD k.toNat 0-1),st.s⟩
def mV(z:eY)(st:dn)(k:Int):dn:=if(xn st k).fl.getD k.toNat 0=0 then qF z (xn st k) k.toNat else xn st k
def qG(z:eY)(st:dn)(us:bO)(i:Nat):dn:=(us.take i).foldl (mV z) st
def He(z:eY)(st:dn){us:bO}{i:Nat}(h:i<us.length):qG z st us (i+1)=mV z (qG z st us i) (us.getD i default):=by
 unfold qG;rw[cW h,ZaI];rfl
def iw(z:eY)(x:Int):bO:=z.Fy.getD x.toNat []
def sT(z:eY)(st:dn)(x:Int)(w:c8):dn:=qG z (zh st x w) (iw z x) (iw z x).length
def setOk(z:eY)(st:dn)(x:Int)(w:c8):Prop:=0<=x/\x<st.ak.length/\x<st.bZ.length/\x<z.Fy.length/\(iw z x).length<=1000000000/\
 ∀i,i<(iw z x).length->(0<=(iw z x).getD i default/\(iw z x).getD i default<(qG z (zh st x w) (iw z x) i).fl.length)/\
  (-1000000000000<=(qG z (zh st x w) (iw z x) i).fl.getD ((iw z x).getD i default).toNat 0/\(qG z (zh st x w) (iw z x) i).fl.getD ((iw z x).getD i default).toNat 0<=1000000000000)/\
  ((xn (qG z (zh st x w) (iw z x) i) ((iw z x).getD i default)).fl.getD ((iw z x).getD i default).toNat 0=0->qb z (xn (qG z (zh st x w) (iw z x) i) ((iw z x).getD i default)) ((iw z x).getD i default).toNat)
def t1104{f0:bq}{p N:Nat}{x:Int}{w:c8}{v:SV}(hN:∀r,N<=r->f0 r=none)(hv:v.at f0 p)(ho:setOk v.z v.s x w):
  aR aj 104 [.ptr p 0,.v (.agg [ti x,ti w.aH,ti w.size])] f0 ⟨True,.v (.eo []),bX f0 v (sT v.z v.s x w)⟩:=by
 obtain⟨Ow,HS,v7,hx3,hul,hst⟩:=ho;obtain⟨y,rfl⟩:=Zae Ow;obtain⟨R,hR⟩:=bb (sT v.z v.s y w);rw[hR];unfold sT at hR;obtain⟨us,VT⟩:=bb (iw v.z y);rw[VT]at hR hul hst;have hus':=VT;unfold iw at VT;simp only[Zag]at VT;obtain⟨wc,wz⟩:=w;refine c1104.pQ hN (by simp) λaT=>?_;obtain⟨nV,nW,nX,uP,nw,uQ,Wo,qc,pq,qd,zi,qe,zj,Wp,pu,nY,qf,zk,qg,zl,Wq,qh,nZ,oa,zm,qi,zn,Wr,zo,tH,tJ,tK,xo,PD,nqu,qj,mo,mq,mr,vS,xp,Ws,zp,tM,tN,tO,NM,vT,nmu,Wt,PE,PF,PG,nuq,PH,num⟩:=hv.ne;have h1:=hv.sp;have h2:=hv.rb;have h3:=hv.rf;have nu:p<N:=(aT p _ h1).1;have UN:v.k.rb<N:=(aT _ _ h2).1;have hfN:v.k.rf<N:=(aT _ _ h3).1;have np:∀k,p≠N+k:=λk=>by omega
 have nb:∀k,v.k.rb≠N+k:=λk=>by omega
 have nf:∀k,v.k.rf≠N+k:=λk=>by omega
 simp only[ma,qK,rU]at h1 h2 h3;have en:(∃cs,f0 p=some (.box cs)):=⟨_,h1⟩;have lq:y<v.s.ak.length:=by omega
 have fJ:y<v.s.bZ.length:=by omega
 have hy3:y<v.z.Fy.length:=by omega
 have rr1:=dd lq;have rr2:=jG fJ;obtain⟨S0,hS0⟩:=bb (zh v.s y ⟨wc,wz⟩);rw[hS0]at hR hst;have hbx:∀s,bX f0 v s p=some (.box (ma v.k v.z)):=λs=>(kH hv s).sp;have hbx':∀s,(∃cs,bX f0 v s p=some (.box cs)):=λs=>⟨_,hbx s⟩;have hC:=λs=>nv aT hv s;simp;apply aa.ag cF fw [0,3];simp[RF];refine aa.le (kO (l:=[(0,.ptr p 0),(3,.v (.box [ti y,ti wc,ti wz]))]) (ba:=N+1000) aT (by omega) (by simp;omega) ?_) ?_
 ·simp[Nat.add_assoc,en];exact bL (l:=[]) aT (by omega) (by simp)
 apply aa.jR cF fw (rs:=c5 (iO v.k.rf p N) (eR IK [none,none,none,none,none,none,none,none,none,some [1],none,some [],none,some [],none,some [0],none,none])) (.inl rfl) ((dX (jK hfN nu pu) _ _ _).trans (by kernel_rfl)) [0,3];simp[IK,c5,fk,eR,iO,cP,bG,aN,h1,h2,h3,lq,fJ,rr1,rr2,pq];have e1:=JC hv v.s (v.s.bZ.set y true);rw[eH hv]at e1;have e2:=Fz hv ⟨v.s.ak,v.s.bZ.set y true,v.s.fl,v.s.s⟩ (v.s.ak.set y ⟨wc,wz⟩);rw[<-e1]at e2;have e3:aM [(v.k.rb,.arr 0 63 2 ((bC v.s.ak).set y [ti wc,ti wz])),(v.k.rf,.arr 0 4 1 ((g8 v.s.bZ).set y [T.bool true]))] f0=bX f0 v S0:=by
  rw[<-hS0];unfold zh;rw[show(bC v.s.ak).set y [ti wc,ti wz]=bC (v.s.ak.set y ⟨wc,wz⟩)from(jh v.s.ak y ⟨wc,wz⟩).symm,<-Fa];exact e2
 rw[e3];have hu:∀s,bX f0 v s v.k.u=some (.box (ny v.z.Fy)):=λs=>(kH hv s).u;have nz:∀s,bX f0 v s v.k.rh=some (.arr 0 3 1 (aG s.fl)):=λs=>(kH hv s).rh;have Xn:∀s r,N<=r->bX f0 v s r=none:=λs r hr=>gK hv s (hN r hr);simp only[ma]at hbx;have zq:∀h,(ny v.z.Fy)[y]'h=.v (.sl (aG us)):=by
  intro h;rw[<-VT];simp[ny,List.getD,hy3]
 have Cb:y+1<=v.z.Fy.length:=hy3;apply aa.ag cF fw [0,29,30,31];simp[RG,hbx,hu,hy3,Cb,zq];apply aa.block;refine aa.loop (λi:Nat=>⟨DM.look [(0,.ptr p 0),(29,.v (.sl (aG us))),(30,.v (ti us.length)),(31,.v (ti i))],bX f0 v (qG v.z S0 us i),N+3000,N,[]⟩)
  (λi=>i<=us.length) (λi=>us.length-i) 0 (Le.same (λr hr=>Xn _ r (by omega)) (by simp)) (by omega) (λi hi=>?_)
 obtain⟨st,hse⟩:=bb (qG v.z S0 us i);apply aa.ag cF fw [0,29,30,31,32];simp[RH];apply aa.seq;refine aa.cond rfl (λg=>?_) (λg=>?_)
 ·have g:i<us.length:=by simpa using g
  have rt:=cE g;have J4:=He v.z S0 g;obtain⟨q1,q2,q3⟩:=hst i g;obtain⟨k,hk⟩:=bb (us.getD i default);rw[hk,hse]at q1 q2 q3;rw[hk]at rt J4;rw[hse]at J4⊢;obtain⟨k,rfl⟩:=Zae q1.1;have J5:k<st.fl.length:=by omega
  have rh:=cE J5;simp only[Zag]at q2 q3;obtain⟨h,hh⟩:=bb (st.fl.getD k 0);rw[show(default:Int)=0 from rfl,hh]at rh;rw[hh]at q2;obtain⟨D,hD⟩:=bb (xn st k);rw[hD]at q3;unfold mV at J4;rw[hD]at J4;simp only[Zag]at J4;have hDh:D.fl=st.fl.set k (h-1):=by rw[<-hD];simp only[xn,Zag,hh]
  have hDk:D.fl.getD k 0=h-1:=by rw[hDh];simp[List.getD,J5]
  rw[hDk]at q3 J4;have hDl:k<D.fl.length:=by rw[hDh];simpa using J5
  have rD:=cE hDl;rw[show(default:Int)=0 from rfl,hDk]at rD;have w1:IntKind.i64.wrap (h-1)=h-1:=aF (by omega);apply aa.skip;simp;apply aa.seq;apply aa.block;apply aa.ag cF fw [0,5,29,30,31];simp[RI,rt,g];apply aa.ag cF fw [0,5,29,30,31];simp[RK,hbx,nz,J5,rh,w1];have e4:=JD hv st (st.fl.set k (h-1));rw[la,<-JE]at e4;have e5:cG (bX f0 v st) (some (v.k.rh,.arr 0 3 1 ((aG st.fl).set k [ti (h-1)])))=bX f0 v D:=by
   rw[e4,<-hD];simp only[xn,Zag,hh]
  rw[e5];have w2:IntKind.i64.wrap ((i:Int)+1)=((i+1:Nat):Int):=by rw[aF (by omega)];omega
  apply aa.ag cF fw [0,5,29,30,31,51];simp[RL,hbx,nz,hDl,rD];refine aa.cond rfl (λg2=>?_) (λg2=>?_)
  ·have g2:h-1=0:=by simpa using g2
   rw[Zai g2]at J4;have nP:∀N',(∀r,N'<=r->bX f0 v D r=none)->aR aj 102 [.ptr p 0,.v (ti k)] (bX f0 v D) ⟨True,.v (.eo []),bX f0 v (qF v.z D k)⟩:=λN' h'=>by
    have:=t1102 (f0:=bX f0 v D) (p:=p) (k:=k) (v:=v.to D) h' (kH hv D) (q3 g2);rw[zr]at this;exact this
   have hn2:∀r,bX f0 v D r=none->bX f0 v (qF v.z D k) r=none:=λr hr=>by
    have:=gK (kH hv D) (qF v.z D k) hr;rw[zr]at this;exact this
   apply aa.Iq (Hd ay.nil nP hn2) fw (rs:=EK) rfl (by kernel_rfl) [0,29,30,31];simp[EK];apply aa.fK cF fw [0,29,30,31];simp[IL,w2];refine⟨i+1, ?_,by omega,by omega⟩;rw[J4];exact Le.same (λr hr=>Xn _ r (by omega)) (by simp)
  ·have g2:¬h-1=0:=by simpa using g2
   rw[Zab g2]at J4;apply aa.skip;simp;apply aa.fK cF fw [0,29,30,31];simp[IL,w2];refine⟨i+1, ?_,by omega,by omega⟩;rw[J4];exact Le.same (λr hr=>Xn _ r (by omega)) (by simp)
 ·have g:i=us.length:=by
   have:¬i<us.length:=by simpa using g
   omega
  subst g;rw[hR]at hse;apply aa.exit;simp[Lu,hR]
section
variable{us:List (bO)}
def hE(nd:Int)(es:List bF):Prop:=0<=nd/\nd<=1000/\es.length<=20000/\∀e∈es,sN nd e/\e.dy.length<=2
structure Sol(nd:Int)(es:List bF)(S:bR):Prop where
 len:(S.length:Int)=nd
 ok:∀v∈S,jj v
 cl:∀e∈es,¬(gF S e).lt (bv S e.head)
def MD{a b:bR}{e:bF}(hl:e.dy.length<=2)(h:∀t∈e.dy,¬(bv b t).lt (bv a t)/\0<=(bv a t).aH/\0<=(bv b t).aH):¬(gF b e).lt (gF a e):=by
 unfold gF dR
 match ht:e.dy,hl with
 |[],_=>unfold c8.lt;simp only[ZbL];omega
 |[t],_=>
  have h1:=h t (by rw[ht];simp);exact sJ h1.1
 |[t,u],_=>
  have h1:=h t (by rw[ht];simp);have h2:=h u (by rw[ht];simp);exact sK h1.2.2 h1.2.1 h2.2.2 h2.2.1 h1.1 h2.1
def AS{a b:bR}{e:bF}(h:∀t∈e.dy,bv a t=bv b t):gF a e=gF b e:=by
 unfold gF dR
 congr 1
 exact Zbq λt ht=>h t ht
def FA{n:Int}{a:bR}(hl:(a.length:Int)=n)(ha:∀v∈a,jj v){t:Int}(h:0<=t/\t<n):jj (bv a t):=ha _ (bm (by omega))
def UR{n:Int}{a:bR}{e:bF}(hl:(a.length:Int)=n)(ha:∀v∈a,jj v)(he:sN n e){t:Int}(ht:t∈e.dy)(hf:(bv a t).aH<1099511627776\/(bv a t).size=0):¬(gF a e).lt (bv a t):=by
 obtain⟨_,_,e3,e4,_,_⟩:=he;refine US e4 (λv hv=>?_) (Zak.2 ⟨t,ht,rfl⟩) hf;obtain⟨u,hu,rfl⟩:=Zak.1 hv;exact FA hl ha (e3 u hu)
def CS{n:Int}{a:bR}{e:bF}(hl:(a.length:Int)=n)(ha:∀v∈a,jj v)(he:sN n e):jj (gF a e):=by
 obtain⟨_,_,e3,e4,e5,_⟩:=he;refine ju (λv hv=>?_) e4 e5;obtain⟨u,hu,rfl⟩:=Zak.1 hv;exact FA hl ha (e3 u hu)
def AT(bZ:List Bool)(ts:bO):Nat:=ts.countP λt=> !(bZ.getD t.toNat false)
def tP:bO->Int
 |[]=>0
 |a::l=>a+tP l
def ME:∀{l:bO} {i:Nat} {x:Int},i<l.length->tP (l.set i x)=tP l-l.getD i 0+x
 |[],i,x,h=>by simp at h
 |a::l,0,x,h=>by simp[tP];omega
 |a::l,i+1,x,h=>by
  have:=ME (l:=l) (i:=i) (x:=x) (by simpa using h);simp only[Zb2,tP,Zcu];omega
def uR:∀{l:bO},(∀h∈l,0<=h)->0<=tP l
 |[],_=>by simp[tP]
 |a::l,h=>by
  have h1:=h a (by simp);have:=uR (l:=l) λx hx=>h x (by simp[hx]);simp only[tP];omega
def UT:∀{l:bO} {i:Nat},(∀h∈l,0<=h)->i<l.length->l.getD i 0<=tP l
 |[],i,_,h=>by simp at h
 |a::l,0,hp,h=>by
  have:=uR (l:=l) λx hx=>hp x (by simp[hx]);simp[tP];omega
 |a::l,i+1,hp,h=>by
  have h1:=hp a (by simp);have:=UT (l:=l) (i:=i) (λx hx=>hp x (by simp[hx])) (by simpa using h);simp only[tP,Zcu];omega
def done(es:List bF)(st:dn)(k:Nat):Prop:=
 (gF st.ak (es.getD k default)).aH>=1099511627776\/(st.bZ.getD (es.getD k default).head.toNat false=true/\¬(gF st.ak (es.getD k default)).lt (bv st.ak (es.getD k default).head))\/
  ∃c∈st.s.heap,c.x=(es.getD k default).head/\c.v=gF st.ak (es.getD k default)
structure KI(nd:Int)(es:List bF)(S:bR)(pd:Nat->Nat)(ex:fo)(c:Int)(st:dn):Prop where
 lb:(st.ak.length:Int)=nd
 lf:(st.bZ.length:Int)=nd
 lh:st.fl.length=es.length
 ok:st.s.ok
 pl:c6 st.s
 hp:oz st.s
 bo:∀v∈st.ak,jj v
 Xo:∀k,k<es.length->st.fl.getD k 0=(AT st.bZ (es.getD k default).dy:Int)+pd k
 don:∀k,k<es.length->AT st.bZ (es.getD k default).dy=0->pd k=0->¬ex k->done es st k
 vU:∀e∈st.s.heap,(0<=e.x/\e.x<nd)/\jj e.v/\e.v.aH<1099511627776/\(0<=e.h/\e.h<st.s.next)/\¬e.v.lt (bv S e.x)/\∀y:Nat,(y:Int)<nd->st.bZ.getD y false=true->¬e.v.lt (bv st.ak y)
 val:∀y:Nat,(y:Int)<nd->¬(bv st.ak y).lt (bv S y)
 fv:∀y:Nat,(y:Int)<nd->st.bZ.getD y false=true->(bv st.ak y).aH<1099511627776
 uv:∀y:Nat,(y:Int)<nd->st.bZ.getD y false=false->bv st.ak y=⟨1099511627776,0⟩
 pot:st.s.clock+tP st.fl<=c
 nn:∀h∈st.fl,0<=h
 nc:st.s.next=st.s.clock/\0<=st.s.clock/\(st.s.heap.length:Int)<=st.s.clock
section
variable{nd:Int}{es:List bF}{S:bR}{pd:Nat->Nat}{ex:fo}{c:Int}{st:dn}
def KI.Wu{ex':fo}(h:KI nd es S pd ex c st)(hx:∀k,k<es.length->¬ex' k->AT st.bZ (es.getD k default).dy=0->pd k=0->¬ex k){c':Int}(hc:c<=c'):KI nd es S pd ex' c' st:=
 ⟨h.lb,h.lf,h.lh,h.ok,h.pl,h.hp,h.bo,h.Xo,λk hk h1 h2 h3=>h.don k hk h1 h2 (hx k hk h3 h1 h2),h.vU,h.val,h.fv,h.uv,by have:=h.pot;omega,h.nn,h.nc⟩
def KI.w9(h:KI nd es S pd ex c st):st.s.clock<=c:=by
 have:=uR h.nn;have:=h.pot;omega
def kI(H:hE nd es){k:Nat}(hk:k<es.length):sN nd (es.getD k default)/\(es.getD k default).dy.length<=2:=H.2.2.2 _ (bm hk)
def KI.qb(H:hE nd es)(h:KI nd es S pd ex c st)(hc:c<=90000){k:Nat}(hk:k<es.length):Kn.qb ⟨nd,es,us⟩ st k:=by
 obtain⟨⟨e1,e2,e3,e4,e5,e6⟩,e7⟩:=kI H hk;have h1:=h.lb;have h2:=h.lf;have h3:=h.nc;have h4:=h.w9;exact⟨hk,⟨λt ht=>by have:=e3 t ht;omega,⟨e4,e5⟩,by simp only;omega⟩,⟨e1,by simp only;omega⟩,h.bo,h.ok,by omega,by omega,by omega⟩
def FB:∀{i:Nat} {s:Qs},s.ok->i<s.heap.length->(tQ i s).ok:=by
 intro i;induction i using Nat.strongRecOn with
 |_ i ih=>
  intro s h hi;unfold tQ;split
  ·rename_i hc;exact ih ((i-1)/2) (by omega) (h.swap (i:=i) (j:=((i-1)/2:Nat)) ⟨by omega,by omega⟩ ⟨by omega,by omega⟩) (by simp;omega)
  ·exact h
def KI.FC(H:hE nd es)(hS:Sol nd es S)(h:KI nd es S pd ex c st){k:Nat}(hk:k<es.length)(ha:AT st.bZ (es.getD k default).dy=0)
  (hl:∀y:Nat,(y:Int)<nd->st.bZ.getD y false=true->¬(gF st.ak (es.getD k default)).lt (bv st.ak y)):KI nd es S pd (λk'=>ex k'/\k'≠k) (c+1) (pp st (es.getD k default)):=by
 obtain⟨he,Xf⟩:=kI H hk;obtain⟨e,JB⟩:=bb (es.getD k default);have kx:e∈es:=by rw[<-JB];exact bm hk
 have hdk:∀dm,(gF dm.ak e).aH>=1099511627776\/(dm.bZ.getD e.head.toNat false=true/\¬(gF dm.ak e).lt (bv dm.ak e.head))\/(∃c∈dm.s.heap,c.x=e.head/\c.v=gF dm.ak e)->done es dm k:=λdm hh=>by unfold done;rw[JB];exact hh
 rw[JB]at ha hl he Xf⊢;unfold pp;split
 ·rename_i hc;obtain⟨c1,c2⟩:=hc;obtain⟨w,hw⟩:=bb (gF st.ak e);have hwo:jj w:=by rw[<-hw];exact CS h.lb h.bo he
  rw[hw]at c1 hl⊢;have hs:lu (fM st.s e.head w) (gX st.s e.head w):=vJ (by simp[fM]);have hm:∀x,x∈(gX st.s e.head w).heap↔x∈st.s.heap\/x=⟨e.head,w,st.s.next,st.s.clock⟩:=λx=>(hs.mem x).trans (by simp[fM]);have tw:(gX st.s e.head w).next=st.s.next+1:=hs.next;have JF:(gX st.s e.head w).clock=st.s.clock+1:=hs.clock;have dM:(gX st.s e.head w).heap.length=st.s.heap.length+1:=by rw[hs.len];simp[fM]
  have hnc:=h.nc;refine⟨h.lb,h.lf,h.lh,FB (uS h.ok) (by simp[fM]),xq h.pl (λx hx=>by have:=(h.vU x hx).2.2.2.1;omega),AU h.hp,h.bo,h.Xo,λj hj h1 h2 h3=>?_,λx hx=>?_,h.val,h.fv,h.uv,by have:=h.pot;simp only[JF];omega,h.nn, ?_⟩
  ·by_cases ej:j=k
   ·subst ej;exact hdk _ (.inr (.inr ⟨_,(hm _).2 (.inr rfl),rfl,hw.symm⟩))
   ·have:=h.don j hj h1 h2 (λhx=>h3 ⟨hx,ej⟩);unfold done at this⊢;rcases this with h4|h4|⟨c,h4,h5⟩
    ·exact .inl h4
    ·exact .inr (.inl h4)
    ·exact .inr (.inr ⟨c,(hm _).2 (.inl h4),h5⟩)
  ·rcases(hm x).1 hx with hx|rfl
   ·obtain⟨a1,a2,a3,a4,a5,a6⟩:=h.vU x hx;exact⟨a1,a2,a3,by simp only[tw];omega,a5,a6⟩
   ·refine⟨⟨he.1,he.2.1⟩,hwo,c1,by simp only[tw];omega, ?_,hl⟩;have g1:=hS.cl e kx;have g2:¬(gF st.ak e).lt (gF S e):=MD Xf λt ht=>by
     have J8:=he.2.2.1 t ht;obtain⟨t,rfl⟩:=Zae J8.1;exact⟨h.val t J8.2,(FA hS.len hS.ok J8).1,(FA h.lb h.bo J8).1⟩
    rw[hw]at g2;exact jH g1 g2
  ·simp only[tw,JF,dM];omega
 ·rename_i hc;refine(h.Wu (ex':=ex) (λ_ _ h _ _=>h) (Zct c)).1|>λ_=>?_
  refine⟨h.lb,h.lf,h.lh,h.ok,h.pl,h.hp,h.bo,h.Xo,λj hj h1 h2 h3=>?_,h.vU,h.val,h.fv,h.uv,by have:=h.pot;omega,h.nn,h.nc⟩;by_cases ej:j=k
  ·subst ej;refine hdk _ ?_;by_cases q1:(gF st.ak e).aH<1099511627776
   ·have q2:st.bZ.getD e.head.toNat false=true:=by
     cases hq:st.bZ.getD e.head.toNat false with
     |true=>rfl
     |false=>exact Zar ⟨q1,hq⟩ hc
    obtain⟨x,hx⟩:=Zae he.1;have v7:=he.2.1;rw[hx]at q2 v7⊢;exact .inr (.inl ⟨q2,hl x v7 (by simpa using q2)⟩)
   ·exact .inl (by omega)
  ·exact h.don j hj h1 h2 (λhx=>h3 ⟨hx,ej⟩)
def KI.dec(h:KI nd es S pd ex c st){k:Nat}(hk:k<es.length)(hp:0<pd k):
  KI nd es S (λj=>if j=k then pd k-1 else pd j) (λj=>ex j\/j=k) (c-1) (xn st k):=by
 have J5:k<st.fl.length:=by rw[h.lh];exact hk
 have Cy:=h.Xo k hk;refine⟨h.lb,h.lf,by simpa [xn]using h.lh,h.ok,h.pl,h.hp,h.bo,λj hj=>?_,λj hj h1 h2 h3=>?_,h.vU,h.val,h.fv,h.uv, ?_,λx hx=>?_,h.nc⟩
 ·have:=h.Xo j hj;simp only[xn,Zag];rw[eI J5];by_cases e:j=k
  ·subst e;simp only[if_true];omega
  ·simp only[e,if_false];exact this
 ·by_cases e:j=k
  ·exact Zar (.inr e) h3
  ·simp only[e,if_false]at h2;exact h.don j hj h1 h2 (λhx=>h3 (.inl hx))
 ·have:=h.pot;have e:=ME (x:=st.fl.getD k 0-1) J5;show st.s.clock+tP (st.fl.set (k:Int).toNat (st.fl.getD (k:Int).toNat 0-1))<=c-1;simp only[Zag];rw[e];omega
 ·simp only[xn,Zag]at hx;rcases ZaS hx with hx|rfl
  ·exact h.nn x hx
  ·omega
def KI.use(H:hE nd es)(hS:Sol nd es S)(h:KI nd es S pd (λ_=>False) c st){k:Nat}(hk:k<es.length)(hp:0<pd k)
  (hl:∀y:Nat,(y:Int)<nd->st.bZ.getD y false=true->¬(gF st.ak (es.getD k default)).lt (bv st.ak y)):
  KI nd es S (λj=>if j=k then pd k-1 else pd j) (λ_=>False) c (mV ⟨nd,es,us⟩ st k):=by
 have hd:=h.dec hk hp;have QT:=hd.Xo k hk;simp only[if_true]at QT;unfold mV;simp only[Zag];split
 ·rename_i hz;rw[hz]at QT;have hz1:AT (xn st k).bZ (es.getD k default).dy=0:=by omega
  have:=hd.FC H hS hk hz1 hl;refine this.Wu (λj _ _ _ _=>?_) (by omega);rintro⟨hx|hx,hy⟩
  ·exact hx
  ·exact hy hx
 ·rename_i hz;refine hd.Wu (λj hj _ h1 h2=>?_) (by omega);rintro(hx|rfl)
  ·exact hx
  ·simp only[if_true]at h2;exact hz (by rw[QT];omega)
end
end
def zt{s:Qs}(bT:s.heap≠[])(e:kh):e∈(fC s).heap↔∃k:Nat,0<k/\k<s.heap.length/\s.e k=e:=by
 have xN:0<s.heap.length:=ZaT.2 bT;have hl:(fT s).heap.length=s.heap.length-1:=by
  simp only[fT,ZaB,Qs.dI];omega
 unfold fC;rw[Zab bT,((li rfl).mem e),fD,hl];constructor
 ·rintro⟨k,hk,rfl⟩;rw[pw hk];split
  ·exact⟨s.heap.length-1,by omega,by omega,rfl⟩
  ·exact⟨k,by omega,by omega,rfl⟩
 ·rintro⟨k,k1,k2,rfl⟩;by_cases hk:k=s.heap.length-1
  ·refine⟨0,by omega, ?_⟩;rw[pw (by omega),Zai rfl,hk]
  ·refine⟨k,by omega, ?_⟩;rw[pw (by omega),Zab (by omega)]
def lw(st:dn):dn:=⟨st.ak,st.bZ,st.fl,fC st.s⟩
abbrev root(st:dn):kh:=st.s.e 0
structure zu(nd:Int)(es:List bF)(us:List (bO)):Prop where
 len:(us.length:Int)=nd
 rng:∀x:Nat,(x:Int)<nd->∀k∈us.getD x [],0<=k/\k<es.length
 Xo:∀x k:Nat,(x:Int)<nd->k<es.length->(us.getD x []).count (k:Int)=(es.getD k default).dy.count (x:Int)
section
variable{nd:Int}{es:List bF}{S:bR}{pd:Nat->Nat}{c:Int}{st:dn}
def CT(bT:st.s.heap≠[]):root st∈st.s.heap:=fD.2 ⟨0,ZaT.2 bT,rfl⟩
def bef_lt{a b:kh}(h:¬iC a b):¬a.v.lt b.v:=λhl=>h (.inl hl)
def root_min(h:KI nd es S pd (λ_=>False) c st){e:kh}(he:e∈st.s.heap):¬e.v.lt (root st).v:=by
 obtain⟨k,hk,rfl⟩:=fD.1 he;exact bef_lt (xu h.hp k hk)
def in_pop(bT:st.s.heap≠[]){e:kh}(he:e∈st.s.heap):e=root st\/e∈(fC st.s).heap:=by
 obtain⟨k,hk,rfl⟩:=fD.1 he;by_cases h0:k=0
 ·subst h0;exact .inl rfl
 ·exact .inr ((zt bT _).2 ⟨k,by omega,hk,rfl⟩)
def pop_in(bT:st.s.heap≠[]){e:kh}(he:e∈(fC st.s).heap):e∈st.s.heap:=by
 obtain⟨k,_,hk,rfl⟩:=(zt bT _).1 he;exact fD.2 ⟨k,hk,rfl⟩
def AV{s:Qs}(bT:s.heap≠[]):(fC s).next=s.next/\(fC s).clock=s.clock/\(fC s).heap.length=s.heap.length-1:=by
 have xN:0<s.heap.length:=ZaT.2 bT;have hl:(fT s).heap.length=s.heap.length-1:=by
  simp only[fT,ZaB,Qs.dI];omega
 unfold fC;rw[Zab bT];have h:=li (s:=fT s) (i:=0) rfl;exact⟨h.next,h.clock,h.len.trans hl⟩
def KI.nd'(h:KI nd es S pd (λ_=>False) c st):st.s.nd:=h.pl.nd
def pop_ok(h:KI nd es S pd (λ_=>False) c st)(bT:st.s.heap≠[]):(fC st.s).ok:=by
 unfold fC;rw[Zab bT];exact CU rfl (zw h.ok h.pl.nd (ZaT.2 bT))
def KI.drop(h:KI nd es S pd (λ_=>False) c st)(bT:st.s.heap≠[])(hf:st.bZ.getD (root st).x.toNat false=true):KI nd es S pd (λ_=>False) c (lw st):=by
 obtain⟨f1,f2,f3⟩:=AV bT;have hr:=h.vU _ (CT bT);have hnc:=h.nc;refine⟨h.lb,h.lf,h.lh,pop_ok h bT,vK h.pl,zx h.hp,h.bo,h.Xo,λk hk h1 h2 h3=>?_,λe he=>?_,h.val,h.fv,h.uv,by have:=h.pot;simp only[lw,f2];exact this,h.nn, ?_⟩
 ·have:=h.don k hk h1 h2 h3;unfold done at this⊢;rcases this with h4|h4|⟨x,h4,h5,h6⟩
  ·exact .inl h4
  ·exact .inr (.inl h4)
  ·rcases in_pop bT h4 with rfl|h4
   ·refine .inr (.inl ⟨by rw[<-h5];exact hf, ?_⟩);show ¬(gF st.ak (es.getD k default)).lt (bv st.ak (es.getD k default).head);rw[<-h6,<-h5];obtain⟨y,hy⟩:=Zae hr.1.1;rw[hy]at hf hr⊢;exact hr.2.2.2.2.2 y hr.1.2 (by simpa using hf)
   ·exact .inr (.inr ⟨x,h4,h5,h6⟩)
 ·obtain⟨a1,a2,a3,a4,a5,a6⟩:=h.vU e (pop_in bT he);exact⟨a1,a2,a3,by simp only[lw,f1];exact a4,a5,a6⟩
 ·simp only[lw,f1,f2,f3];omega
def MF{bZ:List Bool}{x:Nat}{ts:bO}(hx:x<bZ.length)(hf:bZ.getD x false=false)(hp:∀t∈ts,0<=t):AT bZ ts=AT (bZ.set x true) ts+ts.count (x:Int):=by
 induction ts with
 |nil=>rfl
 |cons t ts ih=>
  have ih:=ih λu hu=>hp u (by simp[hu]);have ht:=hp t (by simp);unfold AT at ih⊢;rw[ZcJ,ZcJ,Zcy,ih];by_cases e:t=(x:Int)
  ·subst e;have h1:(bZ.set x true).getD x false=true:=by rw[eI hx,Zai rfl]
   simp only[Zag,hf,h1];simp;omega
  ·have h1:(bZ.set x true).getD t.toNat false=bZ.getD t.toNat false:=by rw[eI hx,Zab (by omega)]
   have h2:(t==(x:Int))=false:=by simpa using e
   simp only[h1,h2];simp;omega
def KI.set(H:hE nd es)(h:KI nd es S (λ_=>0) (λ_=>False) c st)(bT:st.s.heap≠[]){x:Nat}(hx:(root st).x=x)(hf:st.bZ.getD x false=false):
  KI nd es S (λk=>(es.getD k default).dy.count (x:Int)) (λ_=>False) c (zh (lw st) x (root st).v)/\
   ∀y:Nat,(y:Int)<nd->(zh (lw st) x (root st).v).bZ.getD y false=true->¬(bv (zh (lw st) x (root st).v).ak x).lt (bv (zh (lw st) x (root st).v).ak y):=by
 obtain⟨f1,f2,f3⟩:=AV bT;obtain⟨⟨r1,r2⟩,r3,r4,r5,r6,r7⟩:=h.vU _ (CT bT);have hnc:=h.nc;obtain⟨w,hw⟩:=bb ((root st).v);rw[hx]at r1 r2 r6;rw[hw]at r3 r4 r6 r7;have NG:x<st.ak.length:=by have:=h.lb;omega
 have Xp:x<st.bZ.length:=by have:=h.lf;omega
 have JG:∀y:Nat,bv (st.ak.set x w) y=if y=x then w else bv st.ak y:=λy=>by
  unfold bv;simp only[Zag];rw[eI NG]
 have hfn:∀y:Nat,(st.bZ.set x true).getD y false=if y=x then true else st.bZ.getD y false:=λy=>eI Xp
 have Jk:zh (lw st) x (root st).v=⟨st.ak.set x w,st.bZ.set x true,st.fl,fC st.s⟩:=by rw[hw];rfl
 rw[Jk];have hcmb:∀k,k<es.length->(es.getD k default).dy.count (x:Int)=0->gF (st.ak.set x w) (es.getD k default)=gF st.ak (es.getD k default):=λk hk h0=>AS λt ht=>by
  have J8:=(kI H hk).1.2.2.1 t ht;obtain⟨t,rfl⟩:=Zae J8.1;rw[JG,Zab];rintro rfl;rw[List.count_eq_zero]at h0;exact h0 ht
 refine⟨⟨by simpa using h.lb,by simpa using h.lf,h.lh,pop_ok h bT,vK h.pl,zx h.hp,λv hv=>?_,λk hk=>?_,λk hk h1 h2 _=>?_,λe he=>?_,λy hy=>?_,λy hy xw=>?_,λy hy xw=>?_,by have:=h.pot;simp only[f2];exact this,h.nn, ?_⟩,λy hy xw=>?_⟩
 ·rcases ZaS hv with hv|rfl
  ·exact h.bo v hv
  ·exact r3
 ·have h1:=h.Xo k hk;have h2:=MF (ts:=(es.getD k default).dy) Xp hf λt ht=>((kI H hk).1.2.2.1 t ht).1;simp only at h1⊢;omega
 ·have h3:=MF (ts:=(es.getD k default).dy) Xp hf λt ht=>((kI H hk).1.2.2.1 t ht).1;have:=h.don k hk (by simp only at h1;omega) rfl (λh=>h);have hc:=hcmb k hk h2;have hhd:=(kI H hk).1;obtain⟨hd,hhe⟩:=Zae hhd.1;unfold done at this⊢;simp only;rw[hc];rw[hhe]at this⊢;rcases this with h4|⟨h4,h5⟩|⟨z,h4,h5,h6⟩
  ·exact .inl h4
  ·simp only[Zag]at h4;have hdx:¬hd=x:=by rintro rfl;rw[hf]at h4;cases h4
   exact .inr (.inl ⟨by simp only[Zag];rw[hfn,Zab hdx];exact h4,by rw[JG,Zab hdx];exact h5⟩)
  ·rcases in_pop bT h4 with rfl|h4
   ·have hdx:hd=x:=by omega
    subst hdx;refine .inr (.inl ⟨by simp only[Zag];rw[hfn,Zai rfl], ?_⟩);rw[JG,Zai rfl,<-h6,hw];unfold c8.lt;omega
   ·exact .inr (.inr ⟨z,h4,h5,h6⟩)
 ·have hin:=pop_in bT he;obtain⟨a1,a2,a3,a4,a5,a6⟩:=h.vU e hin;refine⟨a1,a2,a3,by simp only[f1];exact a4,a5,λy hy xw=>?_⟩;simp only at xw⊢;rw[hfn]at xw;rw[JG];by_cases e1:y=x
  ·rw[Zai e1];have:=root_min h hin;rw[hw]at this;exact this
  ·rw[Zab e1]at xw⊢;exact a6 y hy xw
 ·simp only;rw[JG];split
  ·rename_i e1;subst e1;exact r6
  ·exact h.val y hy
 ·simp only at xw⊢;rw[hfn]at xw;rw[JG];split
  ·exact r4
  ·rename_i e1;rw[Zab e1]at xw;exact h.fv y hy xw
 ·simp only at xw⊢;rw[hfn]at xw;by_cases e1:y=x
  ·rw[Zai e1]at xw;cases xw
  ·rw[Zab e1]at xw;rw[JG,Zab e1];exact h.uv y hy xw
 ·simp only[f1,f2,f3];omega
 ·simp only at xw⊢;rw[hfn]at xw;rw[JG,Zai rfl,JG];by_cases e1:y=x
  ·rw[Zai e1];unfold c8.lt;omega
  ·rw[Zab e1]at xw⊢;exact r7 y hy xw
def use_keep(z:eY)(st:dn)(k:Int):(mV z st k).ak=st.ak/\(mV z st k).bZ=st.bZ/\(mV z st k).fl.length=st.fl.length:=by
 unfold mV qF pp;split
 ·split<;>exact⟨rfl,rfl,by simp[xn]⟩
 ·exact⟨rfl,rfl,by simp[xn]⟩
def Wv(z:eY)(st:dn)(us:bO)(i:Nat):(qG z st us i).ak=st.ak/\(qG z st us i).bZ=st.bZ/\(qG z st us i).fl.length=st.fl.length:=by
 unfold qG;generalize us.take i=l;induction l generalizing st with
 |nil=>exact⟨rfl,rfl,rfl⟩
 |cons k l ih=>
  obtain⟨a1,a2,a3⟩:=use_keep z st k;obtain⟨b1,b2,b3⟩:=ih (mV z st k);exact⟨b1.trans a1,b2.trans a2,b3.trans a3⟩
def KI.settle(H:hE nd es)(hS:Sol nd es S)(h:KI nd es S (λ_=>0) (λ_=>False) c st)(hc:c<=90000)(bT:st.s.heap≠[]){us:List (bO)}(hu:zu nd es us)(hf:st.bZ.getD (root st).x.toNat false=false):
  setOk ⟨nd,es,us⟩ (lw st) (root st).x (root st).v/\KI nd es S (λ_=>0) (λ_=>False) c (sT ⟨nd,es,us⟩ (lw st) (root st).x (root st).v)/\
   (sT ⟨nd,es,us⟩ (lw st) (root st).x (root st).v).bZ=st.bZ.set (root st).x.toNat true:=by
 obtain⟨⟨r1,r2⟩,_⟩:=h.vU _ (CT bT);obtain⟨x,hx⟩:=Zae r1;rw[hx]at hf r2;simp only[Zag]at hf;obtain⟨k1,k2⟩:=h.set H bT hx hf;rw[hx];obtain⟨T,hT⟩:=bb (zh (lw st) x (root st).v);have hTf:T.bZ=st.bZ.set x true:=by rw[<-hT];rfl
 have hTx:T.bZ.getD x false=true:=by rw[hTf,eI (by have:=h.lf;omega),Zai rfl]
 unfold sT setOk;rw[hT]at k1 k2⊢;have hul:iw ⟨nd,es,us⟩ (x:Int)=us.getD x []:=rfl;rw[hul];obtain⟨l,hl⟩:=bb (us.getD x []);have hrng:=hu.rng x r2;have Ww:=λk=>hu.Xo x k r2;rw[hl]at hrng Ww⊢;have BA:=λi=>Wv ⟨nd,es,us⟩ T l i;have main:∀i,i<=l.length->KI nd es S (λk=>(l.drop i).count (k:Int)) (λ_=>False) c (qG ⟨nd,es,us⟩ T l i):=by
  intro i;induction i with
  |zero=>
   intro _;show KI nd es S (λk=>(l.drop 0).count (k:Int)) (λ_=>False) c T;refine⟨k1.lb,k1.lf,k1.lh,k1.ok,k1.pl,k1.hp,k1.bo,λk hk=>?_,λk hk a1 a2 a3=>k1.don k hk a1 (by simp only[Zcn]at a2;rw[Ww k hk]at a2;exact a2) a3,k1.vU,k1.val,k1.fv,k1.uv,k1.pot,k1.nn,k1.nc⟩;rw[Zcn,Ww k hk];exact k1.Xo k hk
  |succ i ih=>
   intro hi;have ih:=ih (by omega);have As:i<l.length:=by omega
   have hd:l.drop i=l.getD i default::l.drop (i+1):=by
    rw[ZbF As];simp[List.getD,As]
   rw[He _ _ As];obtain⟨q0,q1⟩:=hrng _ (bm As);obtain⟨k,hk⟩:=Zae q0;rw[hk]at hd q1⊢;have pJ:k<es.length:=by omega
   have Gc:0<(l.drop i).count (k:Int):=by rw[hd];simp
   have hin:(x:Int)∈(es.getD k default).dy:=by
    rw[<-List.count_pos_iff,<-Ww k pJ];refine List.count_pos_iff.2 ?_;rw[<-hk];exact bm As
   obtain⟨g1,g2,g3⟩:=BA i;have Dw:∀y:Nat,(y:Int)<nd->(qG ⟨nd,es,us⟩ T l i).bZ.getD y false=true->¬(gF (qG ⟨nd,es,us⟩ T l i).ak (es.getD k default)).lt (bv (qG ⟨nd,es,us⟩ T l i).ak y):=by
    rw[g1,g2];intro y hy xw;exact jH (k2 y hy xw) (UR k1.lb k1.bo (kI H pJ).1 hin (.inl (k1.fv x r2 hTx)))
   have:=ih.use H hS (us:=us) pJ Gc Dw;refine⟨this.lb,this.lf,this.lh,this.ok,this.pl,this.hp,this.bo,λj hj=>?_,λj hj a1 a2 a3=>this.don j hj a1 ?_ a3,this.vU,this.val,this.fv,this.uv,this.pot,this.nn,this.nc⟩
   ·rw[this.Xo j hj,hd];simp only[Zcy];by_cases e:j=k
    ·subst e;simp
    ·have:¬(k:Int)=(j:Int):=by omega
     simp[e,this]
   ·rw[hd];simp only[Zcy];by_cases e:j=k
    ·subst e;simpa using a2
    ·have:¬(k:Int)=(j:Int):=by omega
     simpa [e,this]using a2
 have hlb:=k1.lb;have hlf:=k1.lf;have Vj:((lw st).ak.length:Int)=nd/\((lw st).bZ.length:Int)=nd:=⟨h.lb,h.lf⟩;have Wc:l.length<=1000000000:=by
  have key:∀(m:bO) (n:Nat),(∀k∈m,0<=k/\k<n)->(∀k:Nat,k<n->m.count (k:Int)<=2)->m.length<=2*n:=by
   intro m n;induction n generalizing m with
   |zero=>
    intro h1 _;cases m with
    |nil=>simp
    |cons a m=>have:=h1 a (by simp);omega
   |succ n ih=>
    intro h1 h2;have Aa:∀m:bO,m.length=(m.filter λk=>k !=(n:Int)).length+m.count (n:Int):=by
     intro m;induction m with
     |nil=>rfl
     |cons a m ih2=>
      rw[Za4,Zcy,Za5];by_cases e:a=(n:Int)
      ·subst e;simp;omega
      ·have h1:(a !=(n:Int))=true:=by simpa using e
       have h2:(a==(n:Int))=false:=by simpa using e
       rw[h1,h2];simp;omega
    have Aa:=Aa m;have:=ih (m.filter λk=>k !=(n:Int)) (λk hk=>by
     simp only[Zbj,bne_iff_ne,ne_eq]at hk;have:=h1 k hk.1;omega) (λk hk=>by
     have h3:=h2 k (by omega);have:(m.filter λk=>k !=(n:Int)).count (k:Int)<=m.count (k:Int):=(List.filter_sublist).count_le _;omega)
    have h3:=h2 n (by omega);omega
  have:=key l es.length hrng (λk hk=>by
   rw[Ww k hk];have:=List.count_le_length (a:=(x:Int)) (l:=(es.getD k default).dy);have:=(kI H hk).2;omega)
  have:=H.2.2.1;omega
 refine⟨⟨by omega,by omega,by omega,by have:=hu.len;simp only;omega,Wc,λi hi=>?_⟩, ?_, ?_⟩
 ·have ih:=main i (by omega);obtain⟨q0,q1⟩:=hrng _ (bm hi);obtain⟨k,hk⟩:=Zae q0;have hd:l.drop i=l.getD i default::l.drop (i+1):=by
   rw[ZbF hi];simp[List.getD,hi]
  rw[hk]at hd q1⊢;have pJ:k<es.length:=by omega
  have Gc:0<(l.drop i).count (k:Int):=by rw[hd];simp
  simp only[Zag];have J5:k<(qG ⟨nd,es,us⟩ T l i).fl.length:=by rw[ih.lh];exact pJ
  have b1:0<=(qG ⟨nd,es,us⟩ T l i).fl.getD k 0:=ih.nn _ (bm J5);have b2:=UT ih.nn J5;have b3:=ih.pot;have b4:=ih.nc;have hdec:=ih.dec pJ Gc;exact⟨⟨by omega,by omega⟩,⟨by omega,by omega⟩,λ_=>hdec.qb H (by omega) pJ⟩
 ·have:=main l.length (Zaf _);simp only[List.drop_length,List.count_nil]at this;exact this
 ·rw[(BA _).2.1,hTf];rfl
def KI.fin_eq(H:hE nd es)(hS:Sol nd es S)(hSv:∀v:bR,(v.length:Int)=nd->(∀x∈v,jj x/\(x.aH<1099511627776\/x.size=0))->(∀e∈es,¬(gF v e).lt (bv v e.head))->∀y:Nat,(y:Int)<nd->¬(bv S y).lt (bv v y))
  (h:KI nd es S (λ_=>0) (λ_=>False) c st) (bT:st.s.heap=[]):st.ak=S:=by
 have aT:∀e∈es,¬(gF st.ak e).lt (bv st.ak e.head):=by
  intro e he;obtain⟨k,hk,rfl⟩:=ZaO he;have JB:es.getD k default=es[k]:=by simp[List.getD,hk]
  rw[<-JB];obtain⟨rG,_⟩:=kI H hk;have Bv:∀t:Int,0<=t/\t<nd->jj (bv st.ak t):=λt ht=>FA h.lb h.bo ht;by_cases hz:AT st.bZ (es.getD k default).dy=0
  ·have:=h.don k hk hz rfl (λh=>h);unfold done at this;rcases this with h4|⟨_,h5⟩|⟨x,h4,_⟩
   ·have:=CS h.lb h.bo rG;have h2:=Bv _ ⟨rG.1,rG.2.1⟩;by_cases hfh:st.bZ.getD (es.getD k default).head.toNat false=true
    ·obtain⟨y,hy⟩:=Zae rG.1;rw[hy]at hfh h2⊢;have:=h.fv y (by rw[<-hy];exact rG.2.1) (by simpa using hfh);unfold c8.lt;omega
    ·obtain⟨y,hy⟩:=Zae rG.1;rw[hy]at hfh⊢;have:=h.uv y (by rw[<-hy];exact rG.2.1) (by simpa using hfh);rw[this];unfold c8.lt;simp only;have:=(CS h.lb h.bo rG).2.2.1;omega
   ·exact h5
   ·rw[bT]at h4;cases h4
  ·have:∃t∈(es.getD k default).dy,st.bZ.getD t.toNat false=false:=by
    unfold AT at hz;have:=List.countP_pos_iff.1 (Nat.pos_of_ne_zero hz);obtain⟨t,ht,hf⟩:=this;exact⟨t,ht,by simpa using hf⟩
   obtain⟨t,ht,hf⟩:=this;have J8:=rG.2.2.1 t ht;obtain⟨t,rfl⟩:=Zae J8.1;have hu:=h.uv t J8.2 (by simpa using hf);have xL:=UR h.lb h.bo rG ht (.inr (by rw[hu]));rw[hu]at xL;have h2:=Bv _ ⟨rG.1,rG.2.1⟩;have h3:=CS h.lb h.bo rG;obtain⟨y,hy⟩:=Zae rG.1;rw[hy]at h2⊢;have Fq:(y:Int)<nd:=by rw[<-hy];exact rG.2.1
   cases hfy:st.bZ.getD y false with
   |true=>
    have:=h.fv y Fq hfy;unfold c8.lt at xL⊢;simp only at xL;omega
   |false=>
    rw[h.uv y Fq hfy];exact xL
 have jy:=hSv st.ak h.lb (λx hx=>⟨h.bo x hx,by
  obtain⟨y,hy,rfl⟩:=ZaO hx;have e1:bv st.ak y=st.ak[y]:=by simp[bv,List.getD,hy]
  have Fq:(y:Int)<nd:=by have:=h.lb;omega
  rw[<-e1];cases hf:st.bZ.getD y false with
  |true=>exact .inl (h.fv y Fq hf)
  |false=>rw[h.uv y Fq hf];exact .inr rfl⟩) aT
 refine Zbw (by have:=h.lb;have:=hS.len;omega) λy h1 h2=>?_;have Fq:(y:Int)<nd:=by have:=h.lb;omega
 have e1:bv st.ak y=st.ak[y]:=by simp[bv,List.getD,h1]
 have e2:bv S y=S[y]:=by simp[bv,List.getD,h2]
 rw[<-e1,<-e2];exact c8.uL (h.val y Fq) (jy y Fq)
end
section
variable{nd:Int}{es:List bF}
def hE.J6(H:hE nd es):J6 nd es:=⟨H.1,by have:=H.2.1;omega,by have:=H.2.2.1;omega,λe he=>(H.2.2.2 e he).1⟩
def sweep_le(H:hE nd es){v:bR}(hv:J7 nd v):∀{a b:Nat},a<=b->b<=es.length->iX (eB es v b)<=iX (eB es v a):=by
 intro a b hab hb;induction b with
 |zero=>
  obtain rfl:a=0:=by omega
  exact Zaf _
 |succ b ih=>
  by_cases e:a=b+1
  ·subst e;exact Zaf _
  ·have:=ih (by omega) (by omega);rw[jI];obtain⟨_,h2⟩:=ru (H.J6.2.2.2 _ (bm (l:=es) (i:=b) (by omega))) (oI H.J6 hv b (by omega)).1;rcases h2 with h2|h2
   ·rw[h2];exact this
   ·omega
def Wx(H:hE nd es){v:bR}(hv:J7 nd v)(h:eB es v es.length=v):∀e∈es,¬(gF v e).lt (bv v e.head):=by
 have hp:∀y,y<=es.length->eB es v y=v:=by
  intro y hy;rcases(oI H.J6 hv y hy).2 with h1|h1
  ·exact h1
  ·have:=sweep_le H hv hy (Zaf _);rw[h]at this;omega
 intro e he hlt;obtain⟨k,hk,rfl⟩:=ZaO he;have h1:=hp (k+1) (by omega);rw[jI,hp k (by omega)]at h1;have JB:es.getD k default=es[k]:=by simp[List.getD,hk]
 rw[JB]at h1;obtain⟨h2,h3⟩:=ru (H.J6.2.2.2 _ he) hv;have rG:=(H.2.2.2 _ he).1;unfold p9 at h1;have hlt':(dU (es[k]).aH (dR v (es[k]).dy)).lt (v.getD (es[k]).head.toNat default):=hlt;rw[Zai hlt']at h1;have hh:(es[k]).head.toNat<v.length:=by have:=hv.1;have:=rG.1;have:=rG.2.1;omega
 have:bv v (es[k]).head=gF v es[k]:=by
  have h4:=congrArg (λl=>List.getD l (es[k]).head.toNat default) h1;simp only[eI hh,if_true]at h4;exact h4.symm
 rw[this]at hlt;unfold c8.lt at hlt;omega
def Hf(H:hE nd es):∀(f:Nat) (v:bR),iX v<f->J7 nd v->eB es (kN es f v) es.length=kN es f v
 |0,v,h,_=>by omega
 |f+1,v,h,hv=>by
  obtain⟨h1,h2⟩:=oI H.J6 hv es.length (Zaf _);unfold kN;split
  ·assumption
  ·rename_i bT;exact Hf H f _ (by have:=h2.resolve_left bT;omega) h1
def JH(H:hE nd es):Sol nd es (fS nd es):=by
 have hv:=AJ H.J6;exact⟨hv.1,hv.2,Wx H hv (Hf H _ _ (by omega) (ze H.J6))⟩
def Wy(H:hE nd es):∀v:bR,(v.length:Int)=nd->(∀x∈v,jj x/\(x.aH<1099511627776\/x.size=0))->(∀e∈es,¬(gF v e).lt (bv v e.head))->∀y:Nat,(y:Int)<nd->¬(bv (fS nd es) y).lt (bv v y):=by
 intro v hl ho hc;have hvo:∀x∈v,jj x:=λx hx=>(ho x hx).1
 let P:bR->Prop:=λw=>J7 nd w/\∀y:Nat,(y:Int)<nd->¬(bv w y).lt (bv v y)
 have FD:∀w,P w->∀e∈es,P (p9 w e):=by
  intro w hw e he;have rG:=H.2.2.2 e he;refine⟨(ru rG.1 hw.1).1,λy hy=>?_⟩;unfold p9;split
  ·have hh:e.head.toNat<w.length:=by have:=hw.1.1;have:=rG.1.1;have:=rG.1.2.1;omega
   have JG:bv (w.set e.head.toNat (dU e.aH (dR w e.dy))) y=if y=e.head.toNat then dU e.aH (dR w e.dy)else bv w y:=by
    unfold bv;simp only[Zag];exact eI hh
   rw[JG];split
   ·rename_i e1;have hm:¬(gF w e).lt (gF v e):=MD rG.2 λt ht=>by
     have J8:=rG.1.2.2.1 t ht;obtain⟨t,rfl⟩:=Zae J8.1;exact⟨hw.2 t J8.2,(FA hl hvo J8).1,(FA hw.1.1 hw.1.2 J8).1⟩
    have h3:=hc e he;have:(e.head:Int)=(y:Int):=by have:=rG.1.1;omega
    rw[this]at h3;exact jH h3 hm
   ·exact hw.2 y hy
  ·exact hw.2 y hy
 have PJ:∀w,P w->∀y,y<=es.length->P (eB es w y):=by
  intro w hw y;induction y with
  |zero=>intro _;exact hw
  |succ y ih=>intro hy;rw[jI];exact FD _ (ih (by omega)) _ (bm (by omega))
 have PK:∀f w,P w->P (kN es f w):=by
  intro f;induction f with
  |zero=>intro w hw;exact hw
  |succ f ih=>
   intro w hw;unfold kN;split
   ·exact hw
   ·exact ih _ (PJ w hw _ (Zaf _))
 refine(PK _ _ ⟨ze H.J6,λy hy=>?_⟩).2;have fJ:y<v.length:=by omega
 obtain⟨⟨o1,o2,o3,o4⟩,o5⟩:=ho _ (bm fJ);have e1:bv (Fp nd) y=⟨1099511627776,0⟩:=by unfold bv Fp;exact gY (by omega)
 rw[e1];show ¬c8.lt _ (v.getD (y:Int).toNat default);rw[Zag];unfold c8.lt;simp only;omega
end
section
variable{ts:bO}{L':cV}{tm:dw}{aJ ba:Nat}
def xx:NN:=⟨2021,2024,2028,2414,2031,2419,2412⟩
def eC(z:eY)(st:dn)(E:bO):cV:=[(2033,.box (ma xx z)),(2021,qK st),(2024,rU st),(2028,rV st),(2031,.box (ny z.Fy)),(2414,qB 2419 2412 st.s),(2419,hB st.s),(2412,mB st.s),(3040,.arr 0 3 1 (aG E))]
def nN(z:eY)(st:dn)(E:bO):(⟨xx,z,st⟩:SV).at (cM (eC z st E)) 2033:=by
 refine⟨?_, ?_, ?_, ?_, ?_, ?_, ?_, ?_⟩<;>simp[eC,xx]
def zy(z:eY)(st dm:dn)(E:bO):bX (cM (eC z st E)) ⟨xx,z,st⟩ dm=cM (eC z dm E):=by
 funext k;show(if k=2021 then some (qK dm)else if k=2024 then some (rU dm)else if k=2028 then some (rV dm)else if k=2414 then some (qB 2419 2412 dm.s)else if k=2419 then some (hB dm.s)else if k=2412 then some (mB dm.s)else cM (eC z st E) k)=cM (eC z dm E) k;simp only[eC,cS,gR];by_cases h1:k=2021
 ·subst h1;simp
 by_cases h2:k=2024
 ·subst h2;simp
 by_cases h3:k=2028
 ·subst h3;simp
 by_cases h4:k=2414
 ·subst h4;simp
 by_cases h5:k=2419
 ·subst h5;simp
 by_cases h6:k=2412
 ·subst h6;simp
 simp only[Zab h1,Zab h2,Zab h3,Zab h4,Zab h5,Zab h6]
def sol_keys(z:eY)(st:dn)(E:bO):∀q∈eC z st E,q.1<3041:=by
 simp[eC]
def MG(z:eY)(st:dn)(E:bO):∀r,3041<=r->cM (eC z st E) r=none:=fE (sol_keys z st E)
def q0:Qs:=⟨[],0,[],0,0,0⟩
def J9(n m k:Nat):dn:=⟨List.replicate k ⟨1099511627776,0⟩++List.replicate (n-k) ⟨0,0⟩,List.replicate n false,List.replicate m 0,q0⟩
def lZ(n k:Nat):bO:=List.replicate k (-1)++List.replicate (n-k) 0
def xy(U:List (bO))(j:Int)(ts:bO):List (bO):=ts.foldl (λU t=>U.set t.toNat (U.getD t.toNat []++[j])) U
def jL(n:Nat)(es:List bF)(k:Nat):List (bO):=(List.range k).foldl (λU (j:Nat)=>xy U (j:Int) (es.getD j default).dy) (List.replicate n [])
def px(n:Nat)(es:List bF)(k:Nat):jL n es (k+1)=xy (jL n es k) k (es.getD k default).dy:=by simp[jL,ZaR,ZaI]
def JI(n:Nat)(es:List bF)(k:Nat):dn:=⟨List.replicate n ⟨1099511627776,0⟩,List.replicate n false,(es.take k).map (λe=>(e.dy.length:Int))++List.replicate (es.length-k) 0,q0⟩
def MH(U:List (bO))(j:Int)(ts:bO):(xy U j ts).length=U.length:=by
 unfold xy;induction ts generalizing U with
 |nil=>rfl
 |cons t ts ih=>rw[ZaN,ih];simp
def oJ(n:Nat)(es:List bF)(k:Nat):(jL n es k).length=n:=by
 induction k with
 |zero=>simp[jL]
 |succ k ih=>rw[px,MH,ih]
def FE{U:List (bO)}{j:Int}(ht:∀t∈ts,0<=t/\t<U.length)(x:Nat)(hx:x<U.length)(k:Int):
  ((xy U j ts).getD x []).count k=(U.getD x []).count k+if k=j then ts.count (x:Int)else 0:=by
 unfold xy;induction ts generalizing U with
 |nil=>simp
 |cons t ts ih=>
  obtain⟨t0,t1⟩:=ht t (by simp);obtain⟨t,rfl⟩:=Zae t0;rw[ZaN,ih (λu hu=>by have:=ht u (by simp[hu]);simpa using this) (by simpa using hx)];simp only[Zag];rw[eI (by omega),Zcy];by_cases e:x=t
  ·subst e;rw[Zai rfl,List.count_append];by_cases e2:k=j
   ·subst e2;simp;omega
   ·have:¬j=k:=λh=>e2 h.symm;simp[e2,this]
  ·have:¬(t:Int)=(x:Int):=by omega
   rw[Zab e];simp[this]
def addU_mem{U:List (bO)}{j:Int}(ht:∀t∈ts,0<=t/\t<U.length)(x:Nat)(hx:x<U.length){k:Int}(h:k∈(xy U j ts).getD x []):k∈U.getD x []\/k=j:=by
 by_cases e:k=j
 ·exact .inr e
 ·have h1:=FE (j:=j) ht x hx k;rw[Zab e]at h1;refine .inl (List.count_pos_iff.1 ?_);have:=List.count_pos_iff.2 h;omega
def Wz{nd:Int}{es:List bF}(H:hE nd es):zu nd es (jL nd.toNat es es.length):=by
 have h0:=H.1;have main:∀j,j<=es.length->(∀x:Nat,(x:Int)<nd->∀k∈(jL nd.toNat es j).getD x [],0<=k/\k<j)/\∀x k:Nat,(x:Int)<nd->((jL nd.toNat es j).getD x []).count (k:Int)=if k<j then(es.getD k default).dy.count (x:Int)else 0:=by
  intro j;induction j with
  |zero=>
   intro _;have h1:∀x:Nat,(x:Int)<nd->(jL nd.toNat es 0).getD x []=[]:=λx hx=>by
    have v7:x<nd.toNat:=by omega
    show(List.replicate nd.toNat ([]:bO)).getD x []=[];exact gY v7
   refine⟨λx hx k hk=>?_,λx k hx=>?_⟩
   ·rw[h1 x hx]at hk;cases hk
   ·rw[h1 x hx];simp
  |succ j ih=>
   intro hj;obtain⟨i1,i2⟩:=ih (by omega);have rG:=(kI H (k:=j) (by omega)).1;have ht:∀t∈(es.getD j default).dy,0<=t/\t<(jL nd.toNat es j).length:=λt ht=>by rw[oJ];have:=rG.2.2.1 t ht;omega
   refine⟨λx hx k hk=>?_,λx k hx=>?_⟩
   ·rw[px]at hk;rcases addU_mem ht x (by rw[oJ];omega) hk with h|rfl
    ·have:=i1 x hx k h;omega
    ·omega
   ·rw[px,FE ht x (by rw[oJ];omega),i2 x k hx];by_cases e:k=j
    ·subst e;simp
    ·have e1:¬(k:Int)=(j:Int):=by omega
     simp only[e1,if_false,ZbV];by_cases e2:k<j
     ·rw[Zai e2,Zai (by omega)]
     ·rw[Zab e2,Zab (by omega)]
 obtain⟨m1,m2⟩:=main es.length (Zaf _);exact⟨by rw[oJ];omega,m1,λx k hx hk=>by rw[m2 x k hx,Zai hk]⟩
def le_obs{A:cV}{M:Nat}(aT:dh (cM A) M)(hA:∀q∈A,1000<=q.1/\q.1<M){L:cV}{l:fA}(hL:∀q∈L,M<=q.1)(hL':∀q∈L',M<=q.1/\q.1<ba)(hn:1000<=M/\M<=ba)
  (gH:uC (cM (L++A)) (cM (L'++A)) id L') (ik:fR (cM (L++A)) (cM (L'++A)) id tm l):
  Le ⟨tm,cM (L++A),aJ,1000,[]⟩ ⟨DM.look l,cM (L'++A),ba,1000,[]⟩:=by
 have low:∀{B:cV},(∀q∈B,M<=q.1)->∀r,r<M->cM (B++A) r=cM A r:=λhB r hr=>MI λq hq e=>by have:=hB q hq;omega
 have hLs:∀q∈L',M<=q.1:=λq hq=>(hL' q hq).1;refine Le.YG rfl rfl ?_ (λr o h=>?_) (λr hr o h=>?_) (λk=>nk l ik k)
 ·refine fE λq hq=>?_;rcases Zaq.1 hq with hq|hq
  ·exact(hL' q hq).2
  ·have:=hA q hq;simp only;omega
 ·rcases qk h with h|⟨_,h⟩
  ·obtain⟨o0,h1,h2⟩:=sx gH r o h;exact⟨o0,h1,.inl h2⟩
  ·have hr:=(aT r o h).1;refine⟨o,(low hL r hr).trans h,.inr ⟨rfl,λm hm=>?_⟩⟩;have NX:=(aT r o h).2 m hm;cases CV:cM A m with
   |none=>exact Zar CV NX
   |some o'=>exact⟨o',o',(low hL m (aT m o' CV).1).trans CV,(low hLs m (aT m o' CV).1).trans CV,be _⟩
 ·exfalso;simp only at h hr;rcases qk h with h|⟨_,h⟩
  ·have:=hL _ h;simp only at this;omega
  ·have hm:=jS h;have:=hA _ hm;simp only at this;omega
def sol_lo(z:eY)(st:dn)(E:bO):∀q∈eC z st E,1000<=q.1/\q.1<3041:=by
 simp[eC]
def sU(z:eY)(st:dn)(E:bO):dh (cM (eC z st E)) 3041:=by
 have dP:=nN z st E;have h1:=dP.rb;have h2:=dP.rf;have h3:=dP.rh;have h4:=dP.u;have h5:=dP.q;have h6:=dP.hp;have h7:=dP.m;simp only[xx]at h1 h2 h3 h4 h5 h6 h7;intro r o h;have hm:=jS h;refine⟨(sol_lo z st E _ hm).2,λm z7=>?_⟩;simp only[eC,Zah,Zal,or_false,Zav]at hm;rcases hm with⟨rfl,rfl⟩|⟨rfl,rfl⟩|⟨rfl,rfl⟩|⟨rfl,rfl⟩|⟨rfl,rfl⟩|⟨rfl,rfl⟩|⟨rfl,rfl⟩|⟨rfl,rfl⟩|⟨rfl,rfl⟩
 ·simp only[ma,xx,aZ,bM,aN,ZaC,ZaG,Zaq,Zah,Zal,or_false]at z7;rcases z7 with rfl|rfl|rfl|rfl|rfl
  ·rw[h1];simp
  ·rw[h2];simp
  ·rw[h3];simp
  ·rw[h4];simp
  ·rw[h5];simp
 ·simp[qK,aZ]at z7
 ·simp[rU,aZ]at z7
 ·simp[rV,aZ]at z7
 ·exfalso;have:∀l:List (bO),bM (ny l)=[]:=λl=>by induction l with
   |nil=>rfl
   |cons a l ih=>simp only[ny,ZaA,bM,aN,ZaG];exact ih
  simp[aZ,this]at z7
 ·simp only[qB,aZ,bM,aN,ZaC,ZaG,Zaq,Zah,Zal,or_false]at z7;rcases z7 with rfl|rfl
  ·rw[h6];simp
  ·rw[h7];simp
 ·simp[hB,aZ]at z7
 ·exfalso;simp only[mB,aZ,ZaV,uO,Zak]at z7;obtain⟨e,⟨e',_,rfl⟩,hk⟩:=z7;simp[aN]at hk
 ·simp[aZ]at z7
def le_so{z:eY}{st:dn}{E:bO}{L:cV}{l:fA}(hL:∀q∈L,3041<=q.1)(hL':∀q∈L',3041<=q.1/\q.1<ba)(hn:3041<=ba)
  (gH:uC (cM (L++eC z st E)) (cM (L'++eC z st E)) id L') (ik:fR (cM (L++eC z st E)) (cM (L'++eC z st E)) id tm l):
  Le ⟨tm,cM (L++eC z st E),aJ,1000,[]⟩ ⟨DM.look l,cM (L'++eC z st E),ba,1000,[]⟩:=
 le_obs (sU z st E) (sol_lo z st E) hL hL' ⟨by omega,hn⟩ gH ik
end
def t1105F{f0:bq}{p N:Nat}{ak:bR}{A B C:DV}{D:bB}{e:bF}(hN:∀r,N<=r->f0 r=none)(h1:f0 p=some (.box (A::B:: .v (.sl (bC ak))::C::D)))(he:edOk ak.length e)(hb:∀x∈ak,jj x):
  aR aj 105 [.ptr p 0,.v (.agg e.enc)] f0 ⟨True,.v (.agg [ti (gF ak e).aH,ti (gF ak e).size]),f0⟩:=by
 obtain⟨R,hR⟩:=bb (gF ak e);rw[hR];unfold gF at hR;obtain⟨eh,ts,ec,e0,e1⟩:=e;obtain⟨ht,hc,hl⟩:=he;simp only at ht hc hl hR;obtain⟨Vs,NL⟩:=bb (dR ak ts);rw[NL]at hR;have hVl:Vs.length=ts.length:=by rw[<-NL];simp[dR]
 have Gk:∀x∈Vs,jj x:=by
  rw[<-NL];intro x hx;obtain⟨y,hy,rfl⟩:=Zak.1 hx;have:=ht y hy;exact hb _ (bm (by omega))
 have aC:=ok84 ay.nil;refine c1105.pQ hN (by simp) λaT=>?_;have nu:p<N:=(aT p _ h1).1;have np:∀k,p≠N+k:=λk=>by omega
 have en:(∃cs,f0 p=some (.box cs)):=⟨_,h1⟩;simp;apply aa.ag aC fw [0,3,4];simp[IM,bF.enc];refine aa.le (Le.dV (l1:=[(N+5,.box [.v (ti 0),.v (ti 0)])]) (l:=[(0,.ptr p 0),(3,.v (.box [ti eh,.sl (aG ts),ti ec,ti e0,ti e1])),(4,.ptr (N+5) 0)]) (ba:=N+500) aT ?_ ?_ ?_ ?_ ?_) ?_
 ·omega
 ·simp
 ·simp[bK,Nat.add_assoc]
 ·simp[dN,eA,Nat.add_assoc]
 ·simp[np,Nat.add_assoc,en];exact bL aT (by omega) (by simp)
 apply aa.ag aC fw [0,3,4,5];simp[IN,Zba,dK];refine⟨by omega,by omega, ?_⟩;obtain⟨Z,hZ⟩:=bb (List.replicate ts.length ⟨0,0⟩:bR);refine aa.le (Le.dV (l1:=[(N+5,.box [.v (ti 0),.v (ti 0)]),(N+512,.arr 0 63 2 (bC (Vs.take 0++List.replicate (ts.length-0) ⟨0,0⟩)))]) (l:=[(0,.ptr p 0),(3,.v (.box [ti eh,.sl (aG ts),ti ec,ti e0,ti e1])),(4,.ptr (N+5) 0),(5,.bA (N+512) 0)]) (ba:=N+1000) aT ?_ ?_ ?_ ?_ ?_) ?_
 ·omega
 ·simp
 ·simp[bK,Nat.add_assoc]
 ·simp[dN,eA,Nat.add_assoc,bC]
 ·simp[np,Nat.add_assoc,en,bC]
 apply aa.seq;apply aa.ag aC fw [0,3,4,5,13,14,15];simp[IP];apply aa.block;refine aa.loop (λi:Nat=>⟨DM.look [(0,.ptr p 0),(3,.v (.box [ti eh,.sl (aG ts),ti ec,ti e0,ti e1])),(4,.ptr (N+5) 0),(5,.bA (N+512) 0),(13,.v (.sl (aG ts))),(14,.v (ti ts.length)),(15,.v (ti i))],aM [(N+5,.box [.v (ti 0),.v (ti 0)]),(N+512,.arr 0 63 2 (bC (Vs.take i++List.replicate (ts.length-i) ⟨0,0⟩)))] f0,N+2000,N,[]⟩)
  (λi=>i<=ts.length) (λi=>ts.length-i) 0 (Le.dV aT ?_ ?_ ?_ ?_ ?_) (by omega) (λi hi2=>?_)
 ·omega
 ·simp
 ·simp[bK]
 ·simp[dN,eA]
 ·simp[np,en]
 obtain⟨A,hA⟩:=bb (Vs.take i++List.replicate (ts.length-i) (⟨0,0⟩:c8));have hAl:A.length=ts.length:=by rw[<-hA];simp;omega
 rw[hA];apply aa.ag aC fw [0,3,4,5,13,14,15,16];simp[IQ];apply aa.seq;refine aa.cond rfl (λg=>?_) (λg=>?_)
 ·have g:i<ts.length:=by simpa using g
  have rt:=cE g;obtain⟨t,KB⟩:=bb (ts.getD i default);rw[KB]at rt;obtain⟨t0,t1⟩:=ht t (by rw[<-KB];exact bm g);obtain⟨t,rfl⟩:=Zae t0;have t1:t<ak.length:=by omega
  have rv:=dd t1;obtain⟨⟨wc,wz⟩,hw⟩:=bb (ak.getD t default);rw[hw]at rv;have hiA:i<A.length:=by omega
  have rA:=dd hiA;have dA:∀a b:T,List.drop 2 [a,b]=[]:=λ_ _=>rfl;have hS:Vs.take (i+1)++List.replicate (ts.length-(i+1)) (⟨0,0⟩:c8)=A.set i ⟨wc,wz⟩:=by
   have hVi:Vs.take (i+1)=Vs.take i++[⟨wc,wz⟩]:=by
    have:Vs[i]? =some ⟨wc,wz⟩:=by
     rw[<-NL,dR,Zbx];have:ts[i]? =some (t:Int):=by
      have:=Zas g;rw[this];simp only[List.getD,this,Zbd]at KB;rw[KB]
     rw[this];simp only[Za8,Zag,hw]
    rw[ZbO,this];rfl
   rw[hVi,<-hA,ZbG _ _ (by rw[ZaB];omega)];have hl':(Vs.take i).length=i:=by rw[ZaB];omega
   rw[hl',Zcp,show ts.length-i=(ts.length-(i+1))+1 by omega,ZaY,ZbR,List.append_assoc];rfl
  apply aa.skip;simp;apply aa.seq;apply aa.block;apply aa.ag aC fw [0,3,4,5,6,7,13,14,15];simp[IR,rt,g];apply aa.fK aC fw [0,3,4,5,13,14,15];simp[IS,h1,np,Nat.add_assoc,t1,rv,hiA,rA];apply aa.fK aC fw [0,3,4,5,13,14,15];simp[IT];rw[aF (by omega)];refine⟨i+1,Le.dV aT ?_ ?_ ?_ ?_ ?_,by omega,by omega⟩
  ·omega
  ·simp
  ·simp[bK]
  ·simp[dN,eA,hS,jh]
  ·simp[np,en,hS,jh]
 ·have g:¬i<ts.length:=by simpa using g
  have hie:i=ts.length:=by omega
  subst hie;rw[ZaX (by omega),Zcp,Zcg,ZaC]at hA;subst hA;apply aa.exit;simp;refine aa.le (Le.dV (l1:=[(N+5,.box [.v (ti 0),.v (ti 0)])]) (l:=[(3,.v (.box [ti eh,.sl (aG ts),ti ec,ti e0,ti e1])),(4,.ptr (N+5) 0),(5,.v (.sl (bC Vs)))]) (ba:=N+5000) aT ?_ ?_ ?_ ?_ ?_) ?_
  ·omega
  ·simp
  ·simp[bK]
  ·simp[dN,eA]
  ·simp;exact bL aT (by omega) (by simp)
  apply aa.ag aC fw [4];simp[IU,Zba,hVl,hR];refine⟨Gk,hc.1,hc.2,by omega, ?_⟩;refine aa.le (kO (l:=[(4,.v (.box [ti R.aH,ti R.size]))]) (ba:=N+6000) aT (by omega) (by simp) ?_) ?_
  ·simp;exact bL (l:=[]) aT (by omega) (by simp)
  apply aa.ret;simp[EL];rfl
section
variable{st:dn}{es:List bF}
def dE:DC:=(.seq (.seq (.region false Ez)
 (.block 10 (.loop (.seq (.region false EA)
 (.seq (.cond (.tmp 153) .skip
 (.exit 10))
 (.seq (.block 11 (.seq (.region false EB)
 (.seq (.region true Ls)
 (.cond (.tmp 186) (.region false EC)
 .skip))))
 (.region false yS)))))))
 (.seq (.region false ED)
 .ret))
def dD:DC:=(.seq (.block 8 (.loop (.block 9 (.seq (.region false Lq)
 (.seq (.seq (.region false yR)
 (.cond (.tmp 136) (.exit 8)
 .skip))
 (.seq (.region true Ey)
 (.cond (.tmp 145) (.region false Lr)
 .skip)))))))
 dE)
def dC:DC:=(.seq (.seq (.region false Ev)
 (.block 6 (.loop (.seq (.region false Ew)
 (.seq (.cond (.tmp 107) .skip
 (.exit 6))
 (.seq (.block 7 (.seq (.region false Ex)
 (.seq (.region false yP)
 (.cond (.tmp 122) (.region false Lp)
 .skip))))
 (.region false yQ)))))))
 dD)
def dB:DC:=(.seq (.seq (.region false Em)
 (.block 2 (.loop (.seq (.region false En)
 (.seq (.cond (.tmp 63) .skip
 (.exit 2))
 (.seq (.block 3 (.seq (.region false Eo)
 (.seq (.region true Ep)
 (.seq (.region false Er)
 (.block 4 (.loop (.seq (.region false Es)
 (.seq (.cond (.tmp 80) .skip
 (.exit 4))
 (.seq (.block 5 (.seq (.region false Et)
 (.jr qZ)))
 (.region false yO))))))))))
 (.region false Eu)))))))
 dC)
def JJ(st:dn)(es:List bF)(E:bO)(k:Nat):bO:=
 if(E.getD (es.getD k default).head.toNat 0<0/\st.bZ.getD (es.getD k default).head.toNat false=true)/\gF st.ak (es.getD k default)=bv st.ak (es.getD k default).head then E.set (es.getD k default).head.toNat (k:Int)else E
def PL(st:dn)(es:List bF)(n k:Nat):bO:=(List.range k).foldl (JJ st es) (lZ n n)
def MJ(st:dn)(es:List bF)(n k:Nat):PL st es n (k+1)=JJ st es (PL st es n k) k:=by simp[PL,ZaR,ZaI]
def edF_len(st:dn)(es:List bF)(n k:Nat):(PL st es n k).length=n:=by
 induction k with
 |zero=>simp[PL,lZ]
 |succ k ih=>
  rw[MJ];unfold JJ;split<;>simp[ih]
abbrev lK(n:Nat)(es:List bF):fA:=[(1,.v (.box [ti n,.sl (bk es)])),(4,.ptr 2033 0),(5,.bA 3040 0)]
def kP{z:eY}{E:bO}{k:Nat}(h:3041<=k):∀r,k<=r->cM (eC z st E) r=none:=λr hr=>MG z st E r (by omega)
def oK:ai:=[
 n 5 157,
 a 0 16 158 [],
 l 158 159 [1],
 x 1 157 159 160 [0,2],
 l 160 161 [3],
 C .lss 161 0 162 [4],
 m 162 163 [5],
 w 4 164 163 true [6],
 g (.nilCheck (t 164)) 165 163 true [7,6],
 u 3 165 166 163 true [8,6],
 v 166 167 163 true [9,6],
 u 0 16 168 163 true [6],
 v 168 169 163 true [11,6],
 g (.idxAddr 1 (t 167) (t 169)) 170 163 true [10,12,6],
 v 170 171 163 true [13,6],
 q 163 171 172 [6,14],
 m 172 173 [15,6],
 w 4 174 173 true [16],
 g (.load 5 true (t 16)) 175 173 true [16],
 g (.callR 105 [(t 174),(t 175)]) 176 173 true [17,18,16,16],
 w 4 177 173 true [16],
 g (.nilCheck (t 177)) 178 173 true [20,16],
 u 2 178 179 173 true [21,16],
 v 179 180 173 true [22,16],
 u 0 16 181 173 true [16],
 v 181 182 173 true [24,16],
 g (.idxAddr 2 (t 180) (t 182)) 183 173 true [23,25,16],
 g (.load 2 true (t 183)) 184 173 true [26,16],
 g (.eqT false true [(.int .i64),(.int .i64)] (t 176) (t 184)) 185 173 true [19,27,16],
 q 173 185 186 [16,28]]
def PM(n:Nat)(es:List bF)(st:dn):bB:=[.v (ti n),.v (.sl (bk es)),.v (.sl (bC st.ak)),.v (.sl (g8 st.bZ)),.undef,.undef,.undef]
def nO(n:Nat)(es:List bF)(st:dn)(E:bO):cV:=[(2033,.box (PM n es st)),(3040,.arr 0 3 1 (aG E))]
def frz{n:Nat}{us:List (bO)}{E:bO}{aJ ba:Nat}{tm:dw}(hx:3041<=ba)(hl:gn tm (lK n es)):
  Le ⟨tm,cM (eC ⟨n,es,us⟩ st E),aJ,1000,[]⟩ ⟨DM.look (lK n es),cM (nO n es st E),ba,1000,[]⟩:=by
 refine Le.bi ?_ ?_ ?_ ?_
 ·simp[eC]
 ·simp[nO];omega
 ·simp[eC,nO,PM,ma,xx,qK,rU]
 ·simp at hl;simp[hl,eC,nO]
def kF(A:bB)(p:Nat)(C:bB)(val:DV):bB->bq->fI:=λargs f=>⟨args=A/\f p=some (.box C),val,f⟩
def kF_read{A:bB}{p:Nat}{C:bB}{val:DV}{f:bq}(hp:p∈bM A)(hf:f p=some (.box C)):wD (kF A p C val) A f:=λaI h=>⟨⟨rfl,(h p hp).trans hf⟩,rfl,rfl⟩
def phE{n:Nat}(H:hE n es)(lb:st.ak.length=n)(lf:st.bZ.length=n)(bo:∀v∈st.ak,jj v):
  aa aj 198 dE (On q8 (.eo [.sl (bC st.ak),.sl (aG (PL st es n es.length))])) ⟨DM.look (lK n es),cM (nO n es st (lZ n n)),3500,1000,[]⟩:=by
 have hn:=H.2.1;have hel:=H.2.2.1;have e1:∀E,cM (nO n es st E) 2033=some (.box (PM n es st)):=λE=>by simp[nO]
 have e6:∀E,cM (nO n es st E) 3040=some (.arr 0 3 1 (aG E)):=λE=>by simp[nO]
 have kP:∀{E:bO} {k:Nat},3041<=k->∀r,k<=r->cM (nO n es st E) r=none:=λhk r hr=>fE (M:=3041) (by simp[nO]) r (by omega);simp only[PM]at e1;have lenE:=edF_len st es n;unfold dE;apply aa.seq;apply aa.ag cF fw [1,4,5,150,151,152];simp[Ez];apply aa.block;refine aa.loop (λk:Nat=>⟨DM.look [(1,.v (.box [ti n,.sl (bk es)])),(4,.ptr 2033 0),(5,.bA 3040 0),(150,.v (.sl (bk es))),(151,.v (ti es.length)),(152,.v (ti k))],cM (nO n es st (PL st es n k)),4000,1000,[]⟩)
  (λk=>k<=es.length) (λk=>es.length-k) 0 (eO rfl (kP (by omega)) (by simp)) (by omega) (λk hk=>?_)
 apply aa.ag cF fw [1,4,5,150,151,152,153];simp[EA];apply aa.seq;refine aa.cond rfl (λg=>?_) (λg=>?_)
 ·have g:k<es.length:=by simpa using g
  have hs:=MJ st es n k;obtain⟨rG,het⟩:=kI H g;have rr:=jX g;have Kp:=lenE k;unfold JJ at hs;have lr:∀{E:bO},E=PL st es n (k+1)->Le ⟨DM.look [(1,.v (.box [ti n,.sl (bk es)])),(4,.ptr 2033 0),(5,.bA 3040 0),(150,.v (.sl (bk es))),(151,.v (ti es.length)),(152,.v (ti (k+1)))],cM (nO n es st E),5000,1000,[]⟩ ⟨DM.look [(1,.v (.box [ti n,.sl (bk es)])),(4,.ptr 2033 0),(5,.bA 3040 0),(150,.v (.sl (bk es))),(151,.v (ti es.length)),(152,.v (ti (k+1)))],cM (nO n es st (PL st es n (k+1))),4000,1000,[]⟩:=λh=>by
   subst h;exact eO rfl (kP (by omega)) (by simp)
  obtain⟨E,hE⟩:=bb (PL st es n k);rw[hE]at hs Kp⊢;obtain⟨e,JB⟩:=bb (es.getD k default);rw[JB]at hs rG het rr;have hed:edOk st.ak.length e:=⟨λt ht=>by have:=rG.2.2.1 t ht;omega,⟨rG.2.2.2.1,rG.2.2.2.2.1⟩,by omega⟩;obtain⟨⟨wc,wz⟩,hw⟩:=bb (gF st.ak e);have aC:ay aj (bu [(105,eS (kF [.ptr 2033 0,.v (.agg e.enc)] 2033 (PM n es st) (.v (.agg [ti wc,ti wz]))))]):=by
   refine ay.gS ay.nil ?_;rintro args ab ⟨rfl,h⟩;refine⟨λN hN=>?_,λr hr=>hr⟩;have:=t1105F hN h hed bo;rw[hw]at this;exact⟨this.entry,this.run⟩
  rw[hw]at hs;obtain⟨eh,ts,ec,e0',e1'⟩:=e;obtain⟨y,rfl⟩:=Zae rG.1;have hy:y<n:=by have:=rG.2.1;simp only at this;omega
  simp only[bF.enc]at rr aC;simp only[Zag]at hs;have rb:=dd (l:=st.ak) (y:=y) (by omega);have rf:=jG (l:=st.bZ) (y:=y) (by omega);have re:=cE (l:=E) (y:=y) (by omega);rw[show(default:Bool)=false from rfl]at rf;rw[show(default:Int)=0 from rfl]at re;have JG:bv st.ak y=st.ak.getD y default:=rfl;rw[JG]at hs;obtain⟨⟨bc,bz⟩,hb⟩:=bb (st.ak.getD y default);obtain⟨fb,hf⟩:=bb (st.bZ.getD y false);obtain⟨ev,hev⟩:=bb (E.getD y 0);rw[hb]at rb hs;rw[hf]at rf hs;rw[hev]at re hs;apply aa.skip;simp;apply aa.seq;apply aa.block;apply aa.ag cF fw [1,4,5,15,16,150,151,152];simp[EB,rr,g];refine aa.le (Le.bi (o0:=(_,.box [.v (ti y),.v (.sl (aG ts)),.v (ti ec),.v (ti e0'),.v (ti e1')])::(_,.box [.v (ti 0),.aW,.v (ti 0),.v (ti 0),.v (ti 0)])::nO n es st E) (o:=nO n es st E) (l:=[(1,.v (.box [ti n,.sl (bk es)])),(4,.ptr 2033 0),(5,.bA 3040 0),(15,.v (ti k)),(16,.v (.box [ti y,.sl (aG ts),ti ec,ti e0',ti e1'])),(150,.v (.sl (bk es))),(151,.v (ti es.length)),(152,.v (ti k))]) (ba:=4200) ?_ ?_ ?_ ?_) ?_
  ·simp[nO]
  ·simp[nO]
  ·simp[nO,PM]
  ·simp[nO]
  obtain⟨c1,bU⟩:=bb (decide ((ev<0/\fb=true)/\(⟨wc,wz⟩:c8)=⟨bc,bz⟩):Bool);refine aa.seq (aa.to ⟨DM.look [(1,.v (.box [ti n,.sl (bk es)])),(4,.ptr 2033 0),(5,.bA 3040 0),(15,.v (ti k)),(16,.v (.box [ti y,.sl (aG ts),ti ec,ti e0',ti e1'])),(150,.v (.sl (bk es))),(151,.v (ti es.length)),(152,.v (ti k)),(186,.v (.bool c1))],cM (nO n es st E),4500,1000,[]⟩ ?_ ?_)
  ·by_cases q1:ev<0
   ·cases fb with
    |true=>
     refine aa.pe aC fw (rs:=oK) (.inr ⟨_,rfl⟩) (by kernel_rfl) [1,4,5,15,16,150,151,152,186] ?_;simp[oK,kF,e1,e6,re,rb,rf,q1,lb,lf,Kp,hy];refine⟨kF_read (by simp[bM,aN]) (e1 E),eO rfl (kP (by omega)) ?_⟩;rw[<-bU];simp;exact λ_ _=>q1
    |false=>
     have:c1=false:=by rw[<-bU];simp
     refine aa.pe aC fw (rs:=oK) (.inr ⟨_,rfl⟩) (by kernel_rfl) [1,4,5,15,16,150,151,152,186] ?_;simp[oK,e1,e6,re,rf,q1,lf,Kp,hy,this];exact eO rfl (kP (by omega)) (by simp)
   ·have:c1=false:=by rw[<-bU];simp[q1]
    refine aa.pe aC fw (rs:=oK) (.inr ⟨_,rfl⟩) (by kernel_rfl) [1,4,5,15,16,150,151,152,186] ?_;simp[oK,e6,re,q1,Kp,hy,this];exact eO rfl (kP (by omega)) (by simp)
  have w2:IntKind.i64.wrap ((k:Int)+1)=((k+1:Nat):Int):=by rw[aF (by omega)];omega
  refine aa.cond rfl (λg2=>?_) (λg2=>?_)
  ·have g2:c1=true:=by simpa using g2
   subst g2;have hc:=Zat bU;rw[Zai hc]at hs;apply aa.fK cF fw [1,4,5,150,151,152];simp[EC,e6,Kp,hy,re];apply aa.fK cF fw [1,4,5,150,151,152];simp[yS,w2];refine⟨k+1,eO ?_ (kP (by omega)) (by simp),by omega,by omega⟩;rw[hs];funext q;simp only[nO,cS,gR,la];by_cases h1:q=3040
   ·subst h1;rfl
   ·simp only[Zab h1]
  ·have g2:c1=false:=by simpa using g2
   subst g2;have hc:=Zay bU;rw[Zab hc]at hs;apply aa.skip;simp;apply aa.fK cF fw [1,4,5,150,151,152];simp[yS,w2];exact⟨k+1,eO (by rw[hs]) (kP (by omega)) (by simp),by omega,by omega⟩
 ·have g:k=es.length:=by
   have:¬k<es.length:=by simpa using g
   omega
  subst g;apply aa.exit;simp;apply aa.seq;apply aa.fK cF fw [2,3];simp[ED,e1];apply aa.ret;simp[q8,On,e6]
end
section
variable{es:List bF}{st:dn}
def stF(nd:Int)(es:List bF):dn:=⟨fS nd es,(fS nd es).map (λv=>decide (v.aH<1099511627776)),[],q0⟩
def fin_of{nd:Int}{c:Int}(h:KI nd es (fS nd es) (λ_=>0) (λ_=>False) c st)(hb:st.ak=(stF nd es).ak):st.bZ=(stF nd es).bZ:=by
 have l1:=h.lb;have l2:=h.lf;have fp:st.ak=fS nd es:=hb;show st.bZ=(fS nd es).map _;rw[<-fp];refine Zbw (by simp;omega) λi h1 h2=>?_;have hi:i<st.ak.length:=by simpa using h2
 have e1:bv st.ak i=st.ak[i]:=by simp[bv,List.getD,hi]
 have e2:st.bZ.getD i false=st.bZ[i]:=by simp[List.getD,h1]
 rw[ZbQ,<-e1,<-e2];cases hf:st.bZ.getD i false with
 |true=>
  have:=h.fv i (by omega) hf;simp[this]
 |false=>
  have:=h.uv i (by omega) hf;rw[this];rfl
def py(l:List Bool):Nat:=l.countP (λb=> !b)
def MK:∀{l:List Bool} {i:Nat},i<l.length->l.getD i false=false->py (l.set i true)+1=py l
 |[],i,h,_=>by simp at h
 |b::l,0,h,hb=>by
  simp at hb;subst hb;simp[py]
 |b::l,i+1,h,hb=>by
  have:=MK (l:=l) (i:=i) (by simpa using h) (by simpa using hb);unfold py at this⊢;rw[Zb2,ZcJ,ZcJ];omega
def ML(z:eY)(st:dn)(E:bO)(s:Qs):bH (cM (eC z st E)) 2414 (⟨xx,z,st⟩:SV).qv s=cM (eC z ⟨st.ak,st.bZ,st.fl,s⟩ E):=by
 have h:=nN z st E;have e:=rF h st s;rw[show bX (cM (eC z st E)) ⟨xx,z,st⟩ st=cM (eC z st E)from eH h]at e;exact e.trans (zy z st ⟨st.ak,st.bZ,st.fl,s⟩ E)
def MM{z:eY}{E:bO}{r:Nat}(h:3041<=r):gone (cM (eC z st E)) id r:=by
 rintro q hq rfl;exact hq (MG z st E _ h)
def phD{n:Nat}{us:List (bO)}{st:dn}{c:Int}(H:hE n es)(hu:zu n es us)(hc:c<=90000)(hK:KI n es (fS n es) (λ_=>0) (λ_=>False) c st):
  aa aj 198 dD (On q8 (.eo [.sl (bC (fS n es)),.sl (aG (PL (stF n es) es n es.length))])) ⟨DM.look (lK n es),cM (eC ⟨n,es,us⟩ st (lZ n n)),3500,1000,[]⟩:=by
 have hS:=JH H;have hG:=Wy H;unfold dD;apply aa.seq;apply aa.block;refine aa.loop (λs:dn=>⟨DM.look (lK n es),cM (eC ⟨n,es,us⟩ s (lZ n n)),3500,1000,[]⟩)
  (λs=>KI n es (fS n es) (λ_=>0) (λ_=>False) c s) (λs=>py s.bZ*(c.toNat+1)+s.s.heap.length) st (Le.refl _) hK (λs hs=>?_)
 clear hK st;have e1:=λs=>(nN ⟨n,es,us⟩ s (lZ n n)).sp;have e3:=λs=>(nN ⟨n,es,us⟩ s (lZ n n)).rf;have e6:∀z s E,cM (eC z s E) 3040=some (.arr 0 3 1 (aG E)):=λz s E=>by simp[eC]
 simp only[ma,xx]at e1;simp only[rU,xx]at e3;have JF:=hs.w9;have hnc:=hs.nc;have mi:∀r,cM (eC ⟨n,es,us⟩ s (lZ n n)) r=none->cM (eC ⟨n,es,us⟩ (lw s) (lZ n n)) r=none:=λr hr=>by
  rw[show cM (eC ⟨n,es,us⟩ (lw s) (lZ n n))=bH (cM (eC ⟨n,es,us⟩ s (lZ n n))) 2414 (⟨xx,⟨n,es,us⟩,s⟩:SV).qv (fC s.s)from(ML _ _ _ _).symm];exact gJ (f:=cM (eC ⟨n,es,us⟩ s (lZ n n))) (nN ⟨n,es,us⟩ s (lZ n n)).qv _ hr
 have nP:∀N,(∀r,N<=r->cM (eC ⟨n,es,us⟩ s (lZ n n)) r=none)->aR aj 103 [.ptr 2414 0] (cM (eC ⟨n,es,us⟩ s (lZ n n))) ⟨True,.v (uT s.s),cM (eC ⟨n,es,us⟩ (lw s) (lZ n n))⟩:=λN h=>by
  have:=t1103 (f0:=cM (eC ⟨n,es,us⟩ s (lZ n n))) h (nN ⟨n,es,us⟩ s (lZ n n)).qv (show wo s.s from⟨hs.ok,hs.nd',by omega⟩);have e:bH (cM (eC ⟨n,es,us⟩ s (lZ n n))) (⟨xx,⟨n,es,us⟩,s⟩:SV).k.q (⟨xx,⟨n,es,us⟩,s⟩:SV).qv (fC s.s)=cM (eC ⟨n,es,us⟩ (lw s) (lZ n n)):=ML _ _ _ _;have e2:(⟨xx,⟨n,es,us⟩,s⟩:SV).qv.s=s.s:=rfl;rw[e2,e]at this;exact this
 have aC:=Hd ay.nil nP mi;apply aa.block;by_cases bT:s.s.heap=[]
 ·have hpv:uT s.s=.eo [.agg [ti 0,ti 0,ti 0],.bool false]:=by simp[uT,bT]
  have hb:s.ak=(stF n es).ak:=hs.fin_eq H hS hG bT;have hf:=fin_of hs hb;have Vo:lw s=s:=by simp[lw,fC,bT]
  rw[hpv,Vo]at aC;apply aa.cX aC fw (rs:=vu) rfl (by kernel_rfl) [1,4,5,13,14];simp[vu,e1];refine aa.le (le_so (L:=[(_,.box [.v (ti 0),.v (ti 0),.v (ti 0)]),(_,.box [.v (ti 0),.v (ti 0),.v (ti 0)])]) (L':=[]) (l:=[(1,.v (.box [ti n,.sl (bk es)])),(4,.ptr 2033 0),(5,.bA 3040 0),(14,.v (.bool false))]) (ba:=3800) ?_ ?_ (by omega) ?_ ?_) ?_;iterate 3(·simp)
  ·simp[e1,e6]
  apply aa.seq;apply aa.ag cF fw [1,4,5,136];simp[yR];refine aa.cond rfl (λ_=>?_) (λg=>by cases g);apply aa.exit;simp;refine aa.le (frz (ba:=3500) (by omega) (by simp)) ?_;have hfo:nO n es s (lZ n n)=nO n es (stF n es) (lZ n n):=by simp only[nO,PM,hb,hf]
  rw[hfo];have hlb:(stF n es).ak.length=n:=by have:=hs.lb;rw[hb]at this;omega
  have hlf:(stF n es).bZ.length=n:=by have:=hs.lf;rw[hf]at this;omega
  have Bv:=hs.bo;rw[hb]at Bv;exact phE H hlb hlf Bv
 ·obtain⟨re,hre⟩:=bb (root s);have hpv:uT s.s=.eo [.agg [ti re.x,ti re.v.aH,ti re.v.size],.bool true]:=by simp[uT,bT,<-hre]
  rw[hpv]at aC;apply aa.cX aC fw (rs:=vu) rfl (by kernel_rfl) [1,4,5,13,14];simp[vu,e1];obtain⟨⟨r1,r2⟩,r3,r4,r5,r6,r7⟩:=hs.vU _ (CT bT);obtain⟨f1,f2,f3⟩:=AV bT;rw[hre]at r1 r2 r3 r4 r5 r6 r7;obtain⟨y,hy⟩:=Zae r1;have Fq:y<n:=by omega
  have hlf:s.bZ.length=n:=by have:=hs.lf;omega
  have rf:=jG (l:=s.bZ) (y:=y) (by omega);rw[show(default:Bool)=false from rfl]at rf;obtain⟨fb,MC⟩:=bb (s.bZ.getD y false);rw[MC]at rf;have hpf:(lw s).bZ=s.bZ:=rfl;have Vj:(lw s).s.heap.length+1=s.s.heap.length:=by
   have:=ZaT.2 bT;show(fC s.s).heap.length+1=_;omega
  refine aa.le (le_so (L:=[(_,.box [.v (ti re.x),.v (ti re.v.aH),.v (ti re.v.size)]),(_,.box [.v (ti 0),.v (ti 0),.v (ti 0)])]) (L':=[]) (l:=[(1,.v (.box [ti n,.sl (bk es)])),(4,.ptr 2033 0),(5,.bA 3040 0),(13,.v (.box [ti re.x,ti re.v.aH,ti re.v.size])),(14,.v (.bool true))]) (ba:=3800) ?_ ?_ (by omega) ?_ ?_) ?_;iterate 3(·simp)
  ·simp[e1,e6];exact MM (by omega)
  apply aa.seq;apply aa.ag cF fw [1,4,5,13,136];simp[yR];refine aa.cond rfl (λg=>by cases g) (λ_=>?_);apply aa.skip;simp;apply aa.ag cF fw [1,4,5,13,145];simp[Ey,e1,e3,hy,hpf,hlf,Fq,rf];refine aa.cond rfl (λg=>?_) (λg=>?_)
  ·have g:s.bZ.getD y false=false:=MC.trans (by simpa using g);obtain⟨k1,k2,k3⟩:=hs.settle H hS hc bT hu (by rw[hre,hy];simpa using g);rw[hre]at k1 k2 k3;obtain⟨R,hR⟩:=bb (sT ⟨n,es,us⟩ (lw s) re.x re.v);rw[hR]at k2 k3;rw[hy]at k1 hR k3;have hcall2:∀N,(∀r,N<=r->cM (eC ⟨n,es,us⟩ (lw s) (lZ n n)) r=none)->aR aj 104 [.ptr 2033 0,.v (.agg [ti y,ti re.v.aH,ti re.v.size])] (cM (eC ⟨n,es,us⟩ (lw s) (lZ n n))) ⟨True,.v (.eo []),cM (eC ⟨n,es,us⟩ R (lZ n n))⟩:=λN h=>by
    have:=t1104 (f0:=cM (eC ⟨n,es,us⟩ (lw s) (lZ n n))) h (nN ⟨n,es,us⟩ (lw s) (lZ n n)) k1;rw[zy]at this;simp only[hR]at this;exact this
   refine aa.Iq (Hd ay.nil hcall2 ?_) fw (rs:=GY) rfl (by kernel_rfl) [1,4,5] ?_
   ·intro r hr;rw[<-hR,<-zy];exact gK (v:=⟨xx,⟨n,es,us⟩,lw s⟩) (nN _ _ _) _ hr
   simp[GY];refine⟨R,eO rfl (kP (by omega)) (by simp),k2, ?_⟩;have hcf:=MK (l:=s.bZ) (i:=y) (by omega) g;have hRn:=k2.nc;have hRc:=k2.w9;rw[k3,Zag,<-hcf,Nat.add_mul];omega
  ·have g:s.bZ.getD y false=true:=MC.trans (by simpa using g);apply aa.skip;simp;refine⟨lw s,eO rfl (kP (by omega)) (by simp),hs.drop bT (by rw[hre,hy];simpa using g), ?_⟩;rw[hpf];omega
end
section
variable{nd:Int}{es:List bF}
def sol_le(H:hE nd es):∀y:Nat,(y:Int)<nd->¬(⟨1099511627776,0⟩:c8).lt (bv (fS nd es) y):=by
 let P:bR->Prop:=λw=>J7 nd w/\∀y:Nat,(y:Int)<nd->¬(⟨1099511627776,0⟩:c8).lt (bv w y)
 have FD:∀w,P w->∀e∈es,P (p9 w e):=by
  intro w hw e he;have rG:=H.2.2.2 e he;refine⟨(ru rG.1 hw.1).1,λy hy=>?_⟩;unfold p9;split
  ·rename_i hlt;have hh:e.head.toNat<w.length:=by have:=hw.1.1;have:=rG.1.1;have:=rG.1.2.1;omega
   have JG:bv (w.set e.head.toNat (dU e.aH (dR w e.dy))) y=if y=e.head.toNat then dU e.aH (dR w e.dy)else bv w y:=by
    unfold bv;simp only[Zag];exact eI hh
   rw[JG];split
   ·rename_i e1;have h3:=hw.2 y hy;have e2:bv w y=w.getD e.head.toNat default:=by unfold bv;rw[Zag,e1]
    rw[e2]at h3;unfold c8.lt at hlt h3⊢;simp only at h3⊢;omega
   ·exact hw.2 y hy
  ·exact hw.2 y hy
 have PJ:∀w,P w->∀y,y<=es.length->P (eB es w y):=by
  intro w hw y;induction y with
  |zero=>intro _;exact hw
  |succ y ih=>intro hy;rw[jI];exact FD _ (ih (by omega)) _ (bm (by omega))
 have PK:∀f w,P w->P (kN es f w):=by
  intro f;induction f with
  |zero=>intro w hw;exact hw
  |succ f ih=>
   intro w hw;unfold kN;split
   ·exact hw
   ·exact ih _ (PJ w hw _ (Zaf _))
 refine(PK _ _ ⟨ze H.J6,λy hy=>?_⟩).2;have h0:=H.1;have e1:bv (Fp nd) y=⟨1099511627776,0⟩:=by unfold bv Fp;exact gY (by omega)
 rw[e1];simp[c8.lt]
def pz(es:List bF):bO:=es.map λe=>(e.dy.length:Int)
def Hg{k:Nat}(h:k<es.length):(pz es).getD k 0=((es.getD k default).dy.length:Int):=by simp[pz,List.getD,h]
def Hh:∀{es:List bF},(∀e∈es,e.dy.length<=2)->tP (pz es)<=2*es.length
 |[],_=>by simp[pz,tP]
 |e::es,h=>by
  have h1:=h e (by simp);have:=Hh (es:=es) λx hx=>h x (by simp[hx]);simp only[pz,ZaA,tP,Za5]at this⊢;omega
def FF(n:Nat)(ts:bO):AT (List.replicate n false) ts=ts.length:=by
 unfold AT;rw[List.countP_eq_length];intro t _;have:(List.replicate n false).getD t.toNat false=false:=by
  simp only[List.getD,Zch];split<;>rfl
 rw[this];rfl
def JK(n:Nat)(es:List bF):JI n es es.length=⟨List.replicate n ⟨1099511627776,0⟩,List.replicate n false,pz es,q0⟩:=by simp[JI,pz]
def KI.init{n:Nat}(hn:nd=n)(H:hE nd es):KI nd es (fS nd es) (λ_=>0) (λk=>0<=k) (tP (pz es)) (JI n es es.length):=by
 have hb:∀y:Nat,(y:Int)<nd->bv (List.replicate n (⟨1099511627776,0⟩:c8)) y=⟨1099511627776,0⟩:=λy hy=>by unfold bv;exact gY (by simp;omega)
 have hf:∀y:Nat,(List.replicate n false).getD y false=false:=λy=>by
  simp only[List.getD,Zch];split<;>rfl
 rw[JK];refine⟨by simp[hn],by simp[hn],by simp[pz], ?_,λk hk=>by simp[q0]at hk,λi _ hi=>by simp[q0]at hi,λv hv=>?_,λk hk=>?_,λk _ _ _ h=>Zar (ZbB k) h,λe he=>by simp[q0]at he,λy hy=>?_,λy hy h=>?_,λy hy _=>?_, ?_,λh hh=>?_, ?_⟩
 ·exact⟨by simp[q0,pA],by simp[q0],by simp[q0]⟩
 ·rw[ZbI hv];simp[jj]
 ·simp only[FF];rw[Hg hk];simp
 ·simp only;rw[hb y hy];exact sol_le H y hy
 ·simp only at h;rw[hf]at h;cases h
 ·exact hb y hy
 ·simp[q0]
 ·obtain⟨e,_,rfl⟩:=Zak.1 hh;omega
 ·simp[q0]
def phC{n:Nat}(H:hE n es):
  aa aj 198 dC (On q8 (.eo [.sl (bC (fS n es)),.sl (aG (PL (stF n es) es n es.length))])) ⟨DM.look (lK n es),cM (eC ⟨n,es,jL n es es.length⟩ (JI n es es.length) (lZ n n)),3500,1000,[]⟩:=by
 have hu:zu n es (jL n es es.length):=Wz H;obtain⟨us,VT⟩:=bb (jL n es es.length);rw[VT]at hu⊢;have hS:=JH H;have hsum2:=Hh (es:=es) λe he=>(H.2.2.2 e he).2;have hel:=H.2.2.1;obtain⟨C,hC⟩:=bb (tP (pz es));have hK:=KI.init (n:=n) rfl H;rw[hC]at hK hsum2;have e1:=λs=>(nN ⟨n,es,us⟩ s (lZ n n)).sp;have e4:=λs=>(nN ⟨n,es,us⟩ s (lZ n n)).rh;simp only[ma,xx]at e1;simp only[rV,xx]at e4;have dM:(JI n es es.length).fl.length=es.length:=by rw[JK];simp[pz]
 unfold dC;apply aa.seq;apply aa.ag cF fw [1,4,5,104,105,106];simp[Ev,e1,e4,dM];apply aa.block;refine aa.loop (λp:Nat×dn=>⟨DM.look [(1,.v (.box [ti n,.sl (bk es)])),(4,.ptr 2033 0),(5,.bA 3040 0),(104,.bA 2028 0),(105,.v (ti es.length)),(106,.v (ti p.1))],cM (eC ⟨n,es,us⟩ p.2 (lZ n n)),4000,1000,[]⟩)
  (λp=>p.1<=es.length/\KI n es (fS n es) (λ_=>0) (λk=>p.1<=k) (C+p.1) p.2/\p.2.bZ=List.replicate n false/\p.2.fl=pz es) (λp=>es.length-p.1) (0,JI n es es.length) (eO rfl (kP (by omega)) (by simp)) ⟨by omega,by simpa using hK,by rw[JK],by rw[JK]⟩ ?_
 rintro⟨k,s⟩ ⟨hk,hs,hfs,hhs⟩;simp only at hk hs hfs hhs;apply aa.ag cF fw [1,4,5,104,105,106,107];simp[Ew];apply aa.seq;refine aa.cond rfl (λg=>?_) (λg=>?_)
 ·have g:k<es.length:=by simpa using g
  have Bl:(pz es).length=es.length:=by simp[pz]
  have rh:=cE (l:=pz es) (y:=k) (by omega);rw[show(default:Int)=0 from rfl,Hg g]at rh;have rr:=jX g;obtain⟨e,JB⟩:=bb (es.getD k default);rw[JB]at rh rr;have w2:IntKind.i64.wrap ((k:Int)+1)=((k+1:Nat):Int):=by rw[aF (by omega)];omega
  have hwk:e.dy.length≠0->KI n es (fS n es) (λ_=>0) (λj=>k+1<=j) (C+(k+1:Nat)) s:=λbT=>hs.Wu (λj hj h1 h2 _ h3=>by
   by_cases ej:j=k
   ·subst ej;rw[hfs,FF,JB]at h2;exact bT h2
   ·omega) (by omega)
  have hof:e.dy.length=0->KI n es (fS n es) (λ_=>0) (λj=>k+1<=j) (C+(k+1:Nat)) (pp s e):=λhe0=>by
   have h0:AT s.bZ (es.getD k default).dy=0:=by rw[hfs,FF,JB];exact he0
   have:=hs.FC H hS g h0 (λy hy xw=>by
    rw[hfs]at xw;simp only[List.getD,Zch]at xw;split at xw<;>cases xw)
   rw[JB]at this;exact this.Wu (λj hj h1 _ _ h2=>by omega) (by omega)
  have hoo:=hs.qb H (by omega) (us:=us) g;have hofh:(pp s e).fl=s.fl/\(pp s e).bZ=s.bZ:=by
   unfold pp;split<;>exact⟨rfl,rfl⟩
  have hok:qF ⟨n,es,us⟩ s k=pp s e:=by unfold qF;rw[show(⟨n,es,us⟩:eY).es=es from rfl,JB]
  obtain⟨eh,ts,ec,e0',e1'⟩:=e;simp only[bF.enc]at rr rh hwk hof;apply aa.skip;simp;apply aa.seq;apply aa.block;apply aa.ag cF fw [1,4,5,11,12,104,105,106];simp[Ex,e4,hhs,Bl,rh,g];obtain⟨c1,bU⟩:=bb (decide (ts.length=0):Bool);refine aa.cz cF fw [(1,.v (.box [ti n,.sl (bk es)])),(4,.ptr 2033 0),(5,.bA 3040 0),(11,.v (ti k)),(12,.v (ti ts.length)),(104,.bA 2028 0),(105,.v (ti es.length)),(106,.v (ti k)),(122,.v (.bool c1))] ?_ ?_
  ·by_cases q1:ts.length=0
   ·have:c1=true:=by rw[<-bU];simp[q1]
    have q2:ts=[]:=ZaD q1;simp[yP,rr,q2,this,g]
   ·have:c1=false:=by rw[<-bU];simp[q1]
    have q2:ts≠[]:=λh=>q1 (by rw[h];rfl);have q3:¬(ts.length:Int)=0:=by omega
    simp[yP,q2,this]
  refine aa.cond rfl (λg2=>?_) (λg2=>?_)
  ·have g2:c1=true:=by simpa using g2
   subst g2;have h0:ts.length=0:=Zat bU;have nP:∀N,(∀r,N<=r->cM (eC ⟨n,es,us⟩ s (lZ n n)) r=none)->aR aj 102 [.ptr 2033 0,.v (ti k)] (cM (eC ⟨n,es,us⟩ s (lZ n n))) ⟨True,.v (.eo []),cM (eC ⟨n,es,us⟩ (pp s ⟨eh,ts,ec,e0',e1'⟩) (lZ n n))⟩:=λN h=>by
    have:=t1102 (f0:=cM (eC ⟨n,es,us⟩ s (lZ n n))) h (nN ⟨n,es,us⟩ s (lZ n n)) hoo;rw[zy]at this;simp only[hok]at this;exact this
   refine aa.Iq (Hd ay.nil nP ?_) fw (rs:=GX) rfl (by kernel_rfl) [1,4,5,104,105,106] ?_
   ·intro r hr;rw[<-hok,<-zy];exact gK (v:=⟨xx,⟨n,es,us⟩,s⟩) (nN _ _ _) _ hr
   simp[GX];apply aa.fK cF fw [1,4,5,104,105,106];simp[yQ,w2];exact⟨k+1,_,eO rfl (kP (by omega)) (by simp),⟨by omega,hof h0,hofh.2.trans hfs,hofh.1.trans hhs⟩,by omega⟩
  ·have g2:c1=false:=by simpa using g2
   subst g2;have h0:ts.length≠0:=Zay bU;apply aa.skip;simp;apply aa.fK cF fw [1,4,5,104,105,106];simp[yQ,w2];exact⟨k+1,s,eO rfl (kP (by omega)) (by simp),⟨by omega,hwk h0,hfs,hhs⟩,by omega⟩
 ·have g:k=es.length:=by
   have:¬k<es.length:=by simpa using g
   omega
  subst g;apply aa.exit;simp;refine aa.le (eO (l:=lK n es) (ba:=3500) rfl (kP (by omega)) (by simp)) ?_;exact phD H hu (by omega) (hs.Wu (ex':=λ_=>False) (λk hk _ _ _ h=>by omega) (Zct _))
end
section
variable{es:List bF}{st:dn}{f tm:dw}{aJ ba:Nat}
def iy(n:Nat)(es:List bF)(st:dn)(E:bO)(cs:bB):cV:=[(2033,.box (ma xx ⟨n,es,List.replicate n []⟩)),(2021,qK st),(2024,rU st),(2028,rV st),(2031,.box cs),(2414,qB 2419 2412 q0),(2419,hB q0),(2412,mB q0),(3040,.arr 0 3 1 (aG E))]
def uV(U:List (bO))(t:Nat):DV:=if U.getD t []=[]then .aW else .bA (5000+t) ((U.getD t []).length-1)
def fF(n:Nat)(U:List (bO)):bB:=(List.range n).map (uV U)
def ql(U:List (bO))(t:Nat):Option Ob:=if U.getD t []=[]then none else some (.arr ((U.getD t []).length-1) 3 1 (aG (U.getD t [])))
def sW(n:Nat)(es:List bF)(st:dn)(U:List (bO)):bq:=λr=>if 5000<=r/\r<5000+n then ql U (r-5000)else cM (iy n es st (lZ n n) (fF n U)) r
def oL(n:Nat)(es:List bF)(st:dn)(E:bO)(cs:bB):∀q∈iy n es st E cs,1000<=q.1/\q.1<3041:=by simp[iy]
def AX{n:Nat}{U:List (bO)}(hn:n<=1000){k:Nat}(hk:7000<=k):∀r,k<=r->sW n es st U r=none:=λr hr=>by
 unfold sW;rw[Zab (by omega)];exact fE (λq hq=>(oL _ _ _ _ _ q hq).2) r (by omega)
def ke{n:Nat}{U:List (bO)}{r:Nat}(h:r<5000):sW n es st U r=cM (iy n es st (lZ n n) (fF n U)) r:=by
 unfold sW;rw[Zab (by omega)]
def mX{n:Nat}{U:List (bO)}{t:Nat}(h:t<n):sW n es st U (5000+t)=ql U t:=by
 unfold sW;rw[Zai (by omega),Nat.add_sub_cancel_left]
def MN{U:List (bO)}{t m:Nat}(h:m∈aN (uV U t)):m=5000+t/\U.getD t []≠[]:=by
 unfold uV at h;split at h
 ·simp[aN]at h
 ·simp only[aN,Zah,Zal,or_false]at h;exact⟨h,by assumption⟩
def o6{l:cO}{m:Nat}(h:m∈bM (l.map f)):∃t∈l,m∈aN (f t):=by
 induction l with
 |nil=>simp[bM]at h
 |cons a l ih=>
  simp only[ZaA,bM,Zaq]at h;rcases h with h|h
  ·exact⟨a,by simp,h⟩
  ·obtain⟨t,ht,h⟩:=ih h;exact⟨t,by simp[ht],h⟩
def Hj{a b:bq}{σ:Nat->Nat}{l:cO}{g:dw}(h:∀t∈l,iL a b σ (f t) (g t)):ij a b σ (l.map f) (l.map g):=by
 induction l with
 |nil=>simp[ij]
 |cons x l ih=>
  simp only[ZaA,ij];exact⟨h x (by simp),ih λt ht=>h t (by simp[ht])⟩
def Hk{n t:Nat}{U:List (bO)}{c:DV}(ht:t<n):(fF n U).set t c=(List.range n).map (λs=>if s=t then c else uV U s):=by
 refine Zbw (by simp[fF]) λi h1 h2=>?_;simp only[Zb1,fF,ZbQ,ZbS];by_cases e:t=i
 ·subst e;simp
 ·rw[Zab e,Zab (λh=>e h.symm)]
def PN{n:Nat}{U:List (bO)}(hn:n<=1000):dh (sW n es st U) 7000:=by
 intro r o h;have hr:r<7000:=by
  by_cases hr:r<7000
  ·exact hr
  ·rw[AX hn (Zaf 7000) r (by omega)]at h;cases h
 refine⟨hr,λm hm=>?_⟩;by_cases hrow:5000<=r/\r<5000+n
 ·unfold sW at h;rw[Zai hrow]at h;unfold ql at h;split at h
  ·cases h
  ·simp only[Zaa]at h;subst h;simp[aZ]at hm
 ·unfold sW at h;rw[Zab hrow]at h;have kx:=jS h;simp only[iy,Zah,Zal,or_false,Zav]at kx;rcases kx with⟨rfl,rfl⟩|⟨rfl,rfl⟩|⟨rfl,rfl⟩|⟨rfl,rfl⟩|⟨rfl,rfl⟩|⟨rfl,rfl⟩|⟨rfl,rfl⟩|⟨rfl,rfl⟩|⟨rfl,rfl⟩
  ·simp only[ma,xx,aZ,bM,aN,ZaC,ZaG,Zaq,Zah,Zal,or_false]at hm;rcases hm with rfl|rfl|rfl|rfl|rfl<;>rw[ke (by omega)]<;>simp[iy]
  ·simp[qK,aZ]at hm
  ·simp[rU,aZ]at hm
  ·simp[rV,aZ]at hm
  ·obtain⟨t,ht,h2⟩:=o6 (f:=uV U) (l:=List.range n) (show m∈bM (fF n U)from hm);obtain⟨rfl,h3⟩:=MN h2;rw[mX (by simpa using ht)];unfold ql;rw[Zab h3];simp
  ·simp only[qB,aZ,bM,aN,ZaC,ZaG,Zaq,Zah,Zal,or_false]at hm;rcases hm with rfl|rfl<;>rw[ke (by omega)]<;>simp[iy]
  ·simp[hB,aZ]at hm
  ·simp[mB,q0,uO,aZ]at hm
  ·simp[aZ]at hm
def le_fr{f:bq}{M:Nat}(aT:dh f M)(hM:1000<=M){L:cV}{l:fA}(hL:∀q∈L,M<=q.1)(hn:M<=ba)
  (ik:fR (aM L f) f id tm l):Le ⟨tm,aM L f,aJ,1000,[]⟩ ⟨DM.look l,f,ba,1000,[]⟩:=by
 have low:∀r,r<M->aM L f r=f r:=λr hr=>pB hr hL;refine Le.YG rfl rfl (λr hr=>?_) (λr o h=>?_) (λr hr o h=>?_) (λk=>nk l ik k)
 ·simp only at hr⊢;cases h:f r with
  |none=>rfl
  |some o=>have:=(aT r o h).1;omega
 ·have hr:=(aT r o h).1;refine⟨o,(low r hr).trans h,.inr ⟨rfl,λm hm=>?_⟩⟩;have NX:=(aT r o h).2 m hm;cases CV:f m with
  |none=>exact Zar CV NX
  |some o'=>exact⟨o',o',(low m (aT m o' CV).1).trans CV,CV,be _⟩
 ·simp only at hr h⊢;rw[low r (by omega)]at h;exact⟨o,h,be _⟩
def WB{n:Nat}{U:List (bO)}(h:U.length=n):ny U=(List.range n).map (λt=>.v (.sl (aG (U.getD t [])))):=by
 refine Zbw (by simp[ny,h]) λi h1 h2=>?_;have:i<U.length:=by simpa [ny]using h1
 simp[ny,List.getD,this]
def le_rows{n:Nat}{U:List (bO)}(hn:n<=1000)(hst:st.s=q0)(hU:U.length=n)(hx:3041<=ba)(hl:gn tm (lK n es)):
  Le ⟨tm,sW n es st U,aJ,1000,[]⟩ ⟨DM.look (lK n es),cM (eC ⟨n,es,U⟩ st (lZ n n)),ba,1000,[]⟩:=by
 have hgone:∀t,gone (cM (eC ⟨n,es,U⟩ st (lZ n n))) id (5000+t):=λt=>MM (by omega);have lo:∀r,r<3041->r≠2031->sW n es st U r=cM (eC ⟨n,es,U⟩ st (lZ n n)) r:=λr hr bT=>by
  rw[ke (by omega)];simp only[iy,eC,cS,gR,hst,Zab bT];simp[ma,xx,hU]
 have lo31:sW n es st U 2031=some (.box (fF n U)):=by rw[ke (by omega)];simp[iy]
 have ne31:cM (eC ⟨n,es,U⟩ st (lZ n n)) 2031=some (.box (ny U)):=by simp[eC]
 refine Le.YG rfl rfl (kP hx) (λr o h=>?_) (λr hr o h=>?_) (λk=>nk _ ?_ k)
 ·simp only at h;have hr:r<3041:=(sU _ _ _ r o h).1;by_cases e:r=2031
  ·subst e;rw[ne31]at h;simp only[Zaa]at h;subst h;refine⟨_,lo31,.inl ?_⟩;show ij _ _ _ _ _;rw[WB hU];refine Hj λt ht=>?_;have ht:t<n:=by simpa using ht
   unfold uV;split
   ·rename_i h0;rw[h0];simp[iL,aG]
   ·rename_i h0;simp only[iL,yo];refine .inr ⟨⟨3,1, ?_⟩,hgone t⟩;rw[mX ht];unfold ql;rw[Zab h0]
  ·refine⟨o,(lo r hr e).trans h,.inr ⟨rfl,λm hm=>?_⟩⟩;have NX:=(sU _ _ _ r o h).2 m hm;cases CV:cM (eC ⟨n,es,U⟩ st (lZ n n)) m with
   |none=>exact Zar CV NX
   |some o'=>
    have hm3:=(sU _ _ _ m o' CV).1;by_cases e:m=2031
    ·subst e;rw[ne31]at CV;simp only[Zaa]at CV;subst CV;exact⟨_,_,lo31,ne31,trivial⟩
    ·exact⟨o',o',(lo m hm3 e).trans CV,CV,be _⟩
 ·exfalso;simp only at hr h;rw[ke (by omega)]at h;have:=(oL _ _ _ _ _ _ (jS h)).1;omega
 ·simp at hl;simp[hl,eC];rw[ke (by omega)];simp[iy]
end
def lB(n:Nat)(es:List bF)(k:Nat)(ts:bO)(i:Nat):fA:=[(1,.v (.box [ti n,.sl (bk es)])),(4,.ptr 2033 0),(5,.bA 3040 0),(7,.v (ti k)),(60,.v (.sl (bk es))),(61,.v (ti es.length)),(62,.v (ti k)),(77,.v (.sl (aG ts))),(78,.v (ti ts.length)),(79,.v (ti i))]
def le_ren{n:Nat}{es:List bF}{st:dn}{U:List (bO)}(hn:n<=1000){t:Nat}(ht:t<n)(hU:U.length=n)(h0:U.getD t []=[]){N0:Nat}(hN:7000<=N0){x:Int}{tm:dw}{aJ k i:Nat}{ts:bO}(hl:gn tm (lB n es k ts i)):
  Le ⟨tm,aM [(2031,.box ((fF n U).set t (.bA N0 0))),(N0,.arr 0 3 1 [[ti x]])] (sW n es st U),aJ,1000,[]⟩ ⟨DM.look (lB n es k ts i),sW n es st (U.set t [x]),7000,1000,[]⟩:=by
 have mF:∀s,(U.set t [x]).getD s []=if s=t then [x]else U.getD s []:=λs=>eI (by omega)
 obtain⟨A,hA⟩:=bb (aM [(2031,.box ((fF n U).set t (.bA N0 0))),(N0,.arr 0 3 1 [[ti x]])] (sW n es st U));have lo:∀r,r<7000->r≠2031->A r=sW n es st U r:=λr hr bT=>by
  rw[<-hA,aP,Zab bT,aP,Zab (by omega)];rfl
 have loB:∀r,r<5000->r≠2031->A r=sW n es st (U.set t [x]) r:=λr hr bT=>by
  rw[lo r (by omega) bT,ke hr,ke hr];simp only[iy,cS,gR,Zab bT]
 have o31:A 2031=some (.box ((fF n U).set t (.bA N0 0))):=by rw[<-hA,aP,Zai rfl]
 have oN:A N0=some (.arr 0 3 1 [[ti x]]):=by rw[<-hA,aP,Zab (by omega),aP,Zai rfl]
 have n31:sW n es st (U.set t [x]) 2031=some (.box (fF n (U.set t [x]))):=by rw[ke (by omega)];simp[iy]
 have nt:sW n es st (U.set t [x]) (5000+t)=some (.arr 0 3 1 [[ti x]]):=by
  rw[mX ht];unfold ql;rw[mF,Zai rfl];rfl
 have ns:∀s,s<n->s≠t->sW n es st (U.set t [x]) (5000+s)=A (5000+s):=λs hs bT=>by
  rw[lo _ (by omega) (by omega),mX hs,mX hs];unfold ql;rw[mF,Zab bT]
 rw[hA];have sne:∀r,r<5000->(if r=5000+t then N0 else r)=r:=λr hr=>Zab (by omega);have base:∀r o,r<5000->sW n es st (U.set t [x]) r=some o->r=2021\/r=2024\/r=2028\/r=2031\/r=2033\/r=2412\/r=2414\/r=2419\/r=3040:=λr o hr h=>by
  rw[ke hr]at h;have kx:=jS h;simp only[iy,Zah,Zal,or_false,Zav]at kx;omega
 have hv:∀r o,r<5000->r≠2031->cM (iy n es st (lZ n n) (fF n U)) r=some o->A r=some o/\sW n es st (U.set t [x]) r=some o:=λr o hr bT h=>by
  have h1:A r=some o:=by rw[lo r (by omega) bT,ke hr];exact h
  exact⟨h1,(loB r hr bT).symm.trans h1⟩
 have v21:=hv 2021 (qK st) (by omega) (by omega) (by simp[iy]);have v24:=hv 2024 (rU st) (by omega) (by omega) (by simp[iy]);have v28:=hv 2028 (rV st) (by omega) (by omega) (by simp[iy]);have v33:=hv 2033 (.box (ma xx ⟨n,es,List.replicate n []⟩)) (by omega) (by omega) (by simp[iy]);have v12:=hv 2412 (mB q0) (by omega) (by omega) (by simp[iy]);have v14:=hv 2414 (qB 2419 2412 q0) (by omega) (by omega) (by simp[iy]);have v19:=hv 2419 (hB q0) (by omega) (by omega) (by simp[iy]);have v40:=hv 3040 (.arr 0 3 1 (aG (lZ n n))) (by omega) (by omega) (by simp[iy]);simp only[qK,rU,rV,mB,hB,qB,ma,xx]at v21 v24 v28 v33 v12 v14 v19;refine Le.cor (λr=>if r=5000+t then N0 else r) rfl rfl (λr hr=>AX hn (Zaf 7000) r hr) (λr o h=>?_) (λr1 r2 h1 h2 e=>?_) (λr hr o h=>?_) (λk=>nk _ ?_ k)
 ·simp only at h⊢;have hr:r<7000:=by
   by_cases hr:r<7000
   ·exact hr
   ·rw[AX hn (Zaf 7000) r (by omega)]at h;cases h
  by_cases hb:r<5000
  ·rw[sne r hb];rcases base r o hb h with rfl|rfl|rfl|rfl|rfl|rfl|rfl|rfl|rfl
   ·rw[v21.2]at h;simp only[Zaa]at h;subst h;exact⟨_,v21.1,by simp⟩
   ·rw[v24.2]at h;simp only[Zaa]at h;subst h;exact⟨_,v24.1,by simp⟩
   ·rw[v28.2]at h;simp only[Zaa]at h;subst h;exact⟨_,v28.1,by simp⟩
   ·rw[n31]at h;simp only[Zaa]at h;subst h;refine⟨_,o31, ?_⟩;show ij _ _ _ _ _;rw[Hk ht];refine Hj λs hs=>?_;have hs:s<n:=by simpa using hs
    unfold uV;rw[mF];by_cases e:s=t
    ·subst e;rw[Zai rfl,Zai rfl,Zab (by simp)];simp only[iL,yo];refine .inr ⟨by simp,3,1,_,3,1,_,oN,nt⟩
    ·rw[Zab e,Zab e];split
     ·simp[iL]
     ·rename_i hh;simp only[iL,yo];refine .inr ⟨by rw[Zab (by omega)],3,1,aG (U.getD s []),3,1,aG (U.getD s []), ?_, ?_⟩
      ·rw[lo _ (by omega) (by omega),mX hs];unfold ql;rw[Zab hh]
      ·rw[ns s hs e,lo _ (by omega) (by omega),mX hs];unfold ql;rw[Zab hh]
   ·rw[v33.2]at h;simp only[Zaa]at h;subst h;exact⟨_,v33.1,by simp[v21.1,v21.2,v24.1,v24.2,v28.1,v28.2,n31,v14.2,sne]⟩
   ·rw[v12.2]at h;simp only[Zaa]at h;subst h;exact⟨_,v12.1,by simp[q0,uO,jF]⟩
   ·rw[v14.2]at h;simp only[Zaa]at h;subst h;exact⟨_,v14.1,by simp[v19.1,v19.2,v12.2,sne,q0,pg,qW]⟩
   ·rw[v19.2]at h;simp only[Zaa]at h;subst h;exact⟨_,v19.1,by simp⟩
   ·rw[v40.2]at h;simp only[Zaa]at h;subst h;exact⟨_,v40.1,by simp⟩
  ·have hrow:5000<=r/\r<5000+n:=by
    by_cases hh:5000<=r/\r<5000+n
    ·exact hh
    ·unfold sW at h;rw[Zab hh]at h;have:=(oL _ _ _ _ _ _ (jS h)).2;omega
   obtain⟨s,rfl⟩:∃s,r=5000+s:=⟨r-5000,by omega⟩;by_cases e:s=t
   ·subst e;rw[nt]at h;simp only[Zaa]at h;subst h;rw[Zai rfl];exact⟨_,oN,by simp⟩
   ·rw[Zab (by omega)];rw[ns s (by omega) e]at h;refine⟨o,h, ?_⟩;rw[lo _ (by omega) (by omega),mX (by omega)]at h;unfold ql at h;split at h
    ·cases h
    ·simp only[Zaa]at h;subst h;simp
 ·simp only at h1 h2 e;have hr:∀r,sW n es st (U.set t [x]) r≠none->r<7000:=λr h=>by
   by_cases hr:r<7000
   ·exact hr
   ·exact Zar (AX hn (Zaf 7000) r (by omega)) h
  have:=hr r1 h1;have:=hr r2 h2;split at e<;>split at e<;>omega
 ·exfalso;simp only at hr h;rw[lo r (by omega) (by omega),ke (by omega)]at h;have:=(oL _ _ _ _ _ _ (jS h)).1;omega
 ·simp[lB]at hl;simp[lB,hl,v33.2,v40.1,v40.2,sne]
end Kn
end cC
end Go.Proofs
