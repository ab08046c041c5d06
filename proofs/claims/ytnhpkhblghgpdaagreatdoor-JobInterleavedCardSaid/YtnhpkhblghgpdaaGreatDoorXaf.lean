/- Part. Conditions: none. -/
import Derived.Test.YtnhpkhblghgpdaaGreatDoorXae
import Derived.Deep.Strs
import Derived.Lib.LaidTab
set_option linter.all false
set_option maxRecDepth 100000
set_option maxHeartbeats 40000000
namespace Go.Proofs
namespace cD
namespace Kn
open Go.DM
def ane{f0:bq}{p N:Nat}{an:bY}{A B C:DV}{D:bF}{e:bI}(hN:∀r,N<=r->f0 r=none)(h1:f0 p=some (.box (A::B:: .v (.sl (bG an))::C::D)))(he:afE an.length e)(hb:∀x∈an,jI x):
  aQ aj 105 [.ptr p 0,.v (.agg e.enc)] f0 ⟨True,.v (.agg [ti (gW an e).aI,ti (gW an e).size]),f0⟩:=by
 obtain⟨R,hR⟩:=be (gW an e);rw[hR];unfold gW at hR;obtain⟨eh,ts,ec,e0,e1⟩:=e;obtain⟨ht,hc,hl⟩:=he;simp only at ht hc hl hR;obtain⟨Vs,Pc⟩:=be (dY an ts);rw[Pc]at hR;have hVl:Vs.length=ts.length:=by rw[<-Pc];simp[dY]
 have HC:∀x∈Vs,jI x:=by
  rw[<-Pc];intro x hx;obtain⟨y,hy,rfl⟩:=g9.1 hx;have:=ht y hy;exact hb _ (bu (by omega))
 have aC:=afF ay.nil;refine ajx.qE hN (by simp) λaV=>?_;have nk:p<N:=(aV p _ h1).1;have np:∀k,p≠N+k:=λk=>by omega
 have eA:(∃cs,f0 p=some (.box cs)):=⟨_,h1⟩;simp;apply aa.ag aC fw [0,3,4];simp[Kd,bI.enc];refine aa.le (Le.d6 (l1:=[(N+5,.box [.v (ti 0),.v (ti 0)])]) (l:=[(0,.ptr p 0),(3,.v (.box [ti eh,.sl (aG ts),ti ec,ti e0,ti e1])),(4,.ptr (N+5) 0)]) (aY:=N+500) aV ?_ ?_ ?_ ?_ ?_) ?_
 ·omega
 ·simp
 ·simp[bU,fq]
 ·simp[dT,eK,fq]
 ·simp[np,fq,eA];exact bZ aV (by omega) (by simp)
 apply aa.ag aC fw [0,3,4,5];simp[Ke,CT,dR];refine⟨by omega,by omega, ?_⟩;obtain⟨Z,hZ⟩:=be (List.replicate ts.length ⟨0,0⟩:bY);refine aa.le (Le.d6 (l1:=[(N+5,.box [.v (ti 0),.v (ti 0)]),(N+512,.bE 0 63 2 (bG (Vs.take 0++List.replicate (ts.length-0) ⟨0,0⟩)))]) (l:=[(0,.ptr p 0),(3,.v (.box [ti eh,.sl (aG ts),ti ec,ti e0,ti e1])),(4,.ptr (N+5) 0),(5,.bC (N+512) 0)]) (aY:=N+1000) aV ?_ ?_ ?_ ?_ ?_) ?_
 ·omega
 ·simp
 ·simp[bU,fq]
 ·simp[dT,eK,fq,bG]
 ·simp[np,fq,eA,bG]
 apply aa.sq aC fw [0,3,4,5,13,14,15];simp[Kf];apply aa.block;refine aa.loop (λi:Nat=>⟨DM.look [(0,.ptr p 0),(3,.v (.box [ti eh,.sl (aG ts),ti ec,ti e0,ti e1])),(4,.ptr (N+5) 0),(5,.bC (N+512) 0),(13,.v (.sl (aG ts))),(14,.v (ti ts.length)),(15,.v (ti i))],aO [(N+5,.box [.v (ti 0),.v (ti 0)]),(N+512,.bE 0 63 2 (bG (Vs.take i++List.replicate (ts.length-i) ⟨0,0⟩)))] f0,N+2000,N,[]⟩)
  (λi=>i<=ts.length) (λi=>ts.length-i) 0 (Le.d6 aV ?_ ?_ ?_ ?_ ?_) (by omega) (λi Zg=>?_)
 ·omega
 ·simp
 ·simp[bU]
 ·simp[dT,eK]
 ·simp[np,eA]
 obtain⟨A,hA⟩:=be (Vs.take i++List.replicate (ts.length-i) (⟨0,0⟩:dg));have hAl:A.length=ts.length:=by rw[<-hA];simp;omega
 rw[hA];apply aa.ag aC fw [0,3,4,5,13,14,15,16];simp[Kg];apply aa.seq;refine aa.cond rfl (λg=>?_) (λg=>?_)
 ·have g:i<ts.length:=by simpa using g
  have rt:=cM g;obtain⟨t,Mb⟩:=be (ts.getD i default);rw[Mb]at rt;obtain⟨t0,t1⟩:=ht t (by rw[<-Mb];exact bu g);obtain⟨t,rfl⟩:=kK t0;have t1:t<an.length:=by omega
  have rv:=dt t1;obtain⟨⟨wc,wz⟩,hw⟩:=be (an.getD t default);rw[hw]at rv;have hiA:i<A.length:=by omega
  have rA:=dt hiA;have dA:∀a b:T,List.drop 2 [a,b]=[]:=λ_ _=>rfl;have hS:Vs.take (i+1)++List.replicate (ts.length-(i+1)) (⟨0,0⟩:dg)=A.set i ⟨wc,wz⟩:=by
   have hVi:Vs.take (i+1)=Vs.take i++[⟨wc,wz⟩]:=by
    have:Vs[i]? =some ⟨wc,wz⟩:=by
     rw[<-Pc,dY,ZbG];have:ts[i]? =some (t:Int):=by
      have:=w8 g;rw[this];simp only[List.getD,this,St]at Mb;rw[Mb]
     rw[this];simp only[O5,iQ,hw]
    rw[Zb0,this];rfl
   rw[hVi,<-hA,ZbS _ _ (by rw[we];omega)];have hl':(Vs.take i).length=i:=by rw[we];omega
   rw[hl',ZcF,show ts.length-i=(ts.length-(i+1))+1 by omega,Pu,Zb5,ZbY];rfl
  apply aa.skip;simp;apply aa.seq;apply aa.block;apply aa.ag aC fw [0,3,4,5,6,7,13,14,15];simp[Kh,rt,g];apply aa.fJ aC fw [0,3,4,5,13,14,15];simp[Ki,h1,np,fq,t1,rv,hiA,rA];apply aa.fJ aC fw [0,3,4,5,13,14,15];simp[Kj];rw[aF (by omega)];refine⟨i+1,Le.d6 aV ?_ ?_ ?_ ?_ ?_,by omega,by omega⟩
  ·omega
  ·simp
  ·simp[bU]
  ·simp[dT,eK,hS,jE]
  ·simp[np,eA,hS,jE]
 ·have g:¬i<ts.length:=by simpa using g
  have hie:i=ts.length:=by omega
  subst hie;rw[Xd (by omega),ZcF,Zcv,vZ]at hA;subst hA;apply aa.exit;simp;refine aa.le (Le.d6 (l1:=[(N+5,.box [.v (ti 0),.v (ti 0)])]) (l:=[(3,.v (.box [ti eh,.sl (aG ts),ti ec,ti e0,ti e1])),(4,.ptr (N+5) 0),(5,.v (.sl (bG Vs)))]) (aY:=N+5000) aV ?_ ?_ ?_ ?_ ?_) ?_
  ·omega
  ·simp
  ·simp[bU]
  ·simp[dT,eK]
  ·simp;exact bZ aV (by omega) (by simp)
  apply aa.ag aC fw [4];simp[Kk,CT,hVl,hR];refine⟨HC,hc.1,hc.2,by omega, ?_⟩;refine aa.le (ml (l:=[(4,.v (.box [ti R.aI,ti R.size]))]) (aY:=N+6000) aV (by omega) (by simp) ?_) ?_
  ·simp;exact bZ (l:=[]) aV (by omega) (by simp)
  apply aa.ret;simp[F3];rfl
section
variable{st:dy}{es:List bI}
def dE:DC:=(.seq (.seq (.region false FQ)
 (.block 10 (.loop (.seq (.region false FR)
 (.seq (.cond (.tmp 153) .skip
 (.exit 10))
 (.seq (.block 11 (.seq (.region false FT)
 (.seq (.region true M1)
 (.cond (.tmp 186) (.region false FU)
 .skip))))
 (.region false zS)))))))
 (.seq (.region false FV)
 .ret))
def dD:DC:=(.seq (.block 8 (.loop (.block 9 (.seq (.region false MZ)
 (.seq (.seq (.region false zR)
 (.cond (.tmp 136) (.exit 8)
 .skip))
 (.seq (.region true FP)
 (.cond (.tmp 145) (.region false M0)
 .skip)))))))
 dE)
def dC:DC:=(.seq (.seq (.region false FM)
 (.block 6 (.loop (.seq (.region false FN)
 (.seq (.cond (.tmp 107) .skip
 (.exit 6))
 (.seq (.block 7 (.seq (.region false FO)
 (.seq (.region false zP)
 (.cond (.tmp 122) (.region false MY)
 .skip))))
 (.region false zQ)))))))
 dD)
def dB:DC:=(.seq (.seq (.region false FE)
 (.block 2 (.loop (.seq (.region false FF)
 (.seq (.cond (.tmp 63) .skip
 (.exit 2))
 (.seq (.block 3 (.seq (.region false FG)
 (.seq (.region true FH)
 (.seq (.region false FI)
 (.block 4 (.loop (.seq (.region false FJ)
 (.seq (.cond (.tmp 80) .skip
 (.exit 4))
 (.seq (.block 5 (.seq (.region false FK)
 (.jQ sF)))
 (.region false zO))))))))))
 (.region false FL)))))))
 dC)
def K2(st:dy)(es:List bI)(E:bT)(k:Nat):bT:=
 if(E.getD (es.getD k default).head.toNat 0<0/\st.cj.getD (es.getD k default).head.toNat false=true)/\gW st.an (es.getD k default)=bv st.an (es.getD k default).head then E.set (es.getD k default).head.toNat (k:Int)else E
def Rk(st:dy)(es:List bI)(n k:Nat):bT:=(List.range k).foldl (K2 st es) (mU n n)
def NY(st:dy)(es:List bI)(n k:Nat):Rk st es n (k+1)=K2 st es (Rk st es n k) k:=by simp[Rk,Ho,Dk]
def afI(st:dy)(es:List bI)(n k:Nat):(Rk st es n k).length=n:=by
 induction k with
 |zero=>simp[Rk,mU]
 |succ k ih=>
  rw[NY];unfold K2;split<;>simp[ih]
abbrev lK(n:Nat)(es:List bI):eO:=[(1,.v (.box [ti n,.sl (bn es)])),(4,.ptr 2033 0),(5,.bC 3040 0)]
def lL{z:fo}{E:bT}{k:Nat}(h:3041<=k):∀r,k<=r->cJ (eM z st E) r=none:=λr hr=>NV z st E r (by omega)
def pI:ai:=[
 n 5 157,
 a 0 16 158 [],
 l 158 159 [1],
 x 1 157 159 160 [0,2],
 l 160 161 [3],
 C .lss 161 0 162 [4],
 m 162 163 [5],
 w 4 164 163 true [6],
 g (.nilCheck (t 164)) 165 163 true [7,6],
 u 3 165 166 163 true [8,6],
 v 166 167 163 true [9,6],
 u 0 16 168 163 true [6],
 v 168 169 163 true [11,6],
 g (.idxAddr 1 (t 167) (t 169)) 170 163 true [10,12,6],
 v 170 171 163 true [13,6],
 q 163 171 172 [6,14],
 m 172 173 [15,6],
 w 4 174 173 true [16],
 g (.load 5 true (t 16)) 175 173 true [16],
 g (.callR 105 [(t 174),(t 175)]) 176 173 true [17,18,16,16],
 w 4 177 173 true [16],
 g (.nilCheck (t 177)) 178 173 true [20,16],
 u 2 178 179 173 true [21,16],
 v 179 180 173 true [22,16],
 u 0 16 181 173 true [16],
 v 181 182 173 true [24,16],
 g (.idxAddr 2 (t 180) (t 182)) 183 173 true [23,25,16],
 g (.load 2 true (t 183)) 184 173 true [26,16],
 g (.eqT false true [(.int .i64),(.int .i64)] (t 176) (t 184)) 185 173 true [19,27,16],
 q 173 185 186 [16,28]]
def Rl(n:Nat)(es:List bI)(st:dy):bF:=[.v (ti n),.v (.sl (bn es)),.v (.sl (bG st.an)),.v (.sl (iy st.cj)),.undef,.undef,.undef]
def oZ(n:Nat)(es:List bI)(st:dy)(E:bT):c7:=[(2033,.box (Rl n es st)),(3040,.bE 0 3 1 (aG E))]
def frz{n:Nat}{us:List (bT)}{E:bT}{aK aY:Nat}{tm:dj}(hx:3041<=aY)(hl:fk tm (lK n es)):
  Le ⟨tm,cJ (eM ⟨n,es,us⟩ st E),aK,1000,[]⟩ ⟨DM.look (lK n es),cJ (oZ n es st E),aY,1000,[]⟩:=by
 refine Le.bH ?_ ?_ ?_ ?_
 ·simp[eM]
 ·simp[oZ];omega
 ·simp[eM,oZ,Rl,mW,yA,sd,sZ]
 ·simp at hl;simp[hl,eM,oZ]
def kF(A:bF)(p:Nat)(C:bF)(val:DV):bF->bq->fV:=λargs f=>⟨args=A/\f p=some (.box C),val,f⟩
def afJ{A:bF}{p:Nat}{C:bF}{val:DV}{f:bq}(hp:p∈bQ A)(hf:f p=some (.box C)):xH (kF A p C val) A f:=λaJ h=>⟨⟨rfl,(h p hp).trans hf⟩,rfl,rfl⟩
def phE{n:Nat}(H:hE n es)(lb:st.an.length=n)(lf:st.cj.length=n)(bo:∀v∈st.an,jI v):
  aa aj 198 dE (PQ sG (.ew [.sl (bG st.an),.sl (aG (Rk st es n es.length))])) ⟨DM.look (lK n es),cJ (oZ n es st (mU n n)),3500,1000,[]⟩:=by
 have hn:=H.2.1;have hel:=H.2.2.1;have e1:∀E,cJ (oZ n es st E) 2033=some (.box (Rl n es st)):=λE=>by simp[oZ]
 have e6:∀E,cJ (oZ n es st E) 3040=some (.bE 0 3 1 (aG E)):=λE=>by simp[oZ]
 have lL:∀{E:bT} {k:Nat},3041<=k->∀r,k<=r->cJ (oZ n es st E) r=none:=λhk r hr=>fS (M:=3041) (by simp[oZ]) r (by omega);simp only[Rl]at e1;have afK:=afI st es n;unfold dE;apply aa.sq cL fw [1,4,5,150,151,152];simp[FQ];apply aa.block;refine aa.loop (λk:Nat=>⟨DM.look [(1,.v (.box [ti n,.sl (bn es)])),(4,.ptr 2033 0),(5,.bC 3040 0),(150,.v (.sl (bn es))),(151,.v (ti es.length)),(152,.v (ti k))],cJ (oZ n es st (Rk st es n k)),4000,1000,[]⟩)
  (λk=>k<=es.length) (λk=>es.length-k) 0 (dU rfl (lL (by omega)) (by simp)) (by omega) (λk hk=>?_)
 apply aa.ag cL fw [1,4,5,150,151,152,153];simp[FR];apply aa.seq;refine aa.cond rfl (λg=>?_) (λg=>?_)
 ·have g:k<es.length:=by simpa using g
  have hs:=NY st es n k;obtain⟨sO,het⟩:=lD H g;have rr:=kE g;have LR:=afK k;unfold K2 at hs;have mh:∀{E:bT},E=Rk st es n (k+1)->Le ⟨DM.look [(1,.v (.box [ti n,.sl (bn es)])),(4,.ptr 2033 0),(5,.bC 3040 0),(150,.v (.sl (bn es))),(151,.v (ti es.length)),(152,.v (ti (k+1)))],cJ (oZ n es st E),5000,1000,[]⟩ ⟨DM.look [(1,.v (.box [ti n,.sl (bn es)])),(4,.ptr 2033 0),(5,.bC 3040 0),(150,.v (.sl (bn es))),(151,.v (ti es.length)),(152,.v (ti (k+1)))],cJ (oZ n es st (Rk st es n (k+1))),4000,1000,[]⟩:=λh=>by
   subst h;exact dU rfl (lL (by omega)) (by simp)
  obtain⟨E,hE⟩:=be (Rk st es n k);rw[hE]at hs LR⊢;obtain⟨e,KV⟩:=be (es.getD k default);rw[KV]at hs sO het rr;have hed:afE st.an.length e:=⟨λt ht=>by have:=sO.2.2.1 t ht;omega,⟨sO.2.2.2.1,sO.2.2.2.2.1⟩,by omega⟩;obtain⟨⟨wc,wz⟩,hw⟩:=be (gW st.an e);have aC:ay aj (bB [(105,en (kF [.ptr 2033 0,.v (.agg e.enc)] 2033 (Rl n es st) (.v (.agg [ti wc,ti wz]))))]):=by
   refine ay.ij ay.nil ?_;rintro args ab ⟨rfl,h⟩;refine⟨λN hN=>?_,λr hr=>hr⟩;have:=ane hN h hed bo;rw[hw]at this;exact⟨this.entry,this.run⟩
  rw[hw]at hs;obtain⟨eh,ts,ec,e0',e1'⟩:=e;obtain⟨y,rfl⟩:=kK sO.1;have hy:y<n:=by have:=sO.2.1;simp only at this;omega
  simp only[bI.enc]at rr aC;simp only[iQ]at hs;have rb:=dt (l:=st.an) (y:=y) (by omega);have rf:=kb (l:=st.cj) (y:=y) (by omega);have re:=cM (l:=E) (y:=y) (by omega);rw[show(default:Bool)=false from rfl]at rf;rw[show(default:Int)=0 from rfl]at re;have KZ:bv st.an y=st.an.getD y default:=rfl;rw[KZ]at hs;obtain⟨⟨bc,bz⟩,hb⟩:=be (st.an.getD y default);obtain⟨fb,hf⟩:=be (st.cj.getD y false);obtain⟨ev,hev⟩:=be (E.getD y 0);rw[hb]at rb hs;rw[hf]at rf hs;rw[hev]at re hs;apply aa.skip;simp;apply aa.seq;apply aa.block;apply aa.ag cL fw [1,4,5,15,16,150,151,152];simp[FT,rr,g];refine aa.le (Le.bH (o0:=(_,.box [.v (ti y),.v (.sl (aG ts)),.v (ti ec),.v (ti e0'),.v (ti e1')])::(_,.box [.v (ti 0),.aX,.v (ti 0),.v (ti 0),.v (ti 0)])::oZ n es st E) (o:=oZ n es st E) (l:=[(1,.v (.box [ti n,.sl (bn es)])),(4,.ptr 2033 0),(5,.bC 3040 0),(15,.v (ti k)),(16,.v (.box [ti y,.sl (aG ts),ti ec,ti e0',ti e1'])),(150,.v (.sl (bn es))),(151,.v (ti es.length)),(152,.v (ti k))]) (aY:=4200) ?_ ?_ ?_ ?_) ?_
  ·simp[oZ]
  ·simp[oZ]
  ·simp[oZ,Rl]
  ·simp[oZ]
  obtain⟨c1,b8⟩:=be (decide ((ev<0/\fb=true)/\(⟨wc,wz⟩:dg)=⟨bc,bz⟩):Bool);refine aa.seq (aa.to ⟨DM.look [(1,.v (.box [ti n,.sl (bn es)])),(4,.ptr 2033 0),(5,.bC 3040 0),(15,.v (ti k)),(16,.v (.box [ti y,.sl (aG ts),ti ec,ti e0',ti e1'])),(150,.v (.sl (bn es))),(151,.v (ti es.length)),(152,.v (ti k)),(186,.v (.bool c1))],cJ (oZ n es st E),4500,1000,[]⟩ ?_ ?_)
  ·by_cases q1:ev<0
   ·cases fb with
    |true=>
     refine aa.qa aC fw (rs:=pI) (.inr ⟨_,rfl⟩) (by kernel_rfl) [1,4,5,15,16,150,151,152,186] ?_;simp[pI,kF,e1,e6,re,rb,rf,q1,lb,lf,LR,hy];refine⟨afJ (by simp[bQ,aP]) (e1 E),dU rfl (lL (by omega)) ?_⟩;rw[<-b8];simp;exact λ_ _=>q1
    |false=>
     have:c1=false:=by rw[<-b8];simp
     refine aa.qa aC fw (rs:=pI) (.inr ⟨_,rfl⟩) (by kernel_rfl) [1,4,5,15,16,150,151,152,186] ?_;simp[pI,e1,e6,re,rf,q1,lf,LR,hy,this];exact dU rfl (lL (by omega)) (by simp)
   ·have:c1=false:=by rw[<-b8];simp[q1]
    refine aa.qa aC fw (rs:=pI) (.inr ⟨_,rfl⟩) (by kernel_rfl) [1,4,5,15,16,150,151,152,186] ?_;simp[pI,e6,re,q1,LR,hy,this];exact dU rfl (lL (by omega)) (by simp)
  have w2:IntKind.i64.wrap ((k:Int)+1)=((k+1:Nat):Int):=by rw[aF (by omega)];omega
  refine aa.cond rfl (λg2=>?_) (λg2=>?_)
  ·have g2:c1=true:=by simpa using g2
   subst g2;have hc:=qW b8;rw[cF hc]at hs;apply aa.fJ cL fw [1,4,5,150,151,152];simp[FU,e6,LR,hy,re];apply aa.fJ cL fw [1,4,5,150,151,152];simp[zS,w2];refine⟨k+1,dU ?_ (lL (by omega)) (by simp),by omega,by omega⟩;rw[hs];funext q;simp only[oZ,c6,ii,lX];by_cases h1:q=3040
   ·subst h1;rfl
   ·simp only[aZ h1]
  ·have g2:c1=false:=by simpa using g2
   subst g2;have hc:=wQ b8;rw[aZ hc]at hs;apply aa.skip;simp;apply aa.fJ cL fw [1,4,5,150,151,152];simp[zS,w2];exact⟨k+1,dU (by rw[hs]) (lL (by omega)) (by simp),by omega,by omega⟩
 ·have g:k=es.length:=by
   have:¬k<es.length:=by simpa using g
   omega
  subst g;apply aa.exit;simp;apply aa.seq;apply aa.fJ cL fw [2,3];simp[FV,e1];apply aa.ret;simp[sG,PQ,e6]
end
section
variable{es:List bI}{st:dy}
def stF(nd:Int)(es:List bI):dy:=⟨gj nd es,(gj nd es).map (λv=>decide (v.aI<1099511627776)),[],q0⟩
def anf{nd:Int}{c:Int}(h:KI nd es (gj nd es) (λ_=>0) (λ_=>False) c st)(hb:st.an=(stF nd es).an):st.cj=(stF nd es).cj:=by
 have l1:=h.lb;have l2:=h.lf;have fI:st.an=gj nd es:=hb;show st.cj=(gj nd es).map _;rw[<-fI];refine ZbF (by simp;omega) λi h1 h2=>?_;have hi:i<st.an.length:=by simpa using h2
 have e1:bv st.an i=st.an[i]:=by simp[bv,List.getD,hi]
 have e2:st.cj.getD i false=st.cj[i]:=by simp[List.getD,h1]
 rw[Zb4,<-e1,<-e2];cases hf:st.cj.getD i false with
 |true=>
  have:=h.fv i (by omega) hf;simp[this]
 |false=>
  have:=h.uv i (by omega) hf;rw[this];rfl
def qn(l:List Bool):Nat:=l.countP (λb=> !b)
def NZ:∀{l:List Bool} {i:Nat},i<l.length->l.getD i false=false->qn (l.set i true)+1=qn l
 |[],i,h,_=>by simp at h
 |b::l,0,h,hb=>by
  simp at hb;subst hb;simp[qn]
 |b::l,i+1,h,hb=>by
  have:=NZ (l:=l) (i:=i) (by simpa using h) (by simpa using hb);unfold qn at this⊢;rw[Zcg,Zc3,Zc3];omega
def N1(z:fo)(st:dy)(E:bT)(s:Qs):bO (cJ (eM z st E)) 2414 (⟨yA,z,st⟩:SV).qv s=cJ (eM z ⟨st.an,st.cj,st.fA,s⟩ E):=by
 have h:=oY z st E;have e:=sN h st s;rw[show cg (cJ (eM z st E)) ⟨yA,z,st⟩ st=cJ (eM z st E)from eS h]at e;exact e.trans (Aw z st ⟨st.an,st.cj,st.fA,s⟩ E)
def N3{z:fo}{E:bT}{r:Nat}(h:3041<=r):gone (cJ (eM z st E)) id r:=by
 rintro q hq rfl;exact hq (NV z st E _ h)
def phD{n:Nat}{us:List (bT)}{st:dy}{c:Int}(H:hE n es)(hu:As n es us)(hc:c<=90000)(hK:KI n es (gj n es) (λ_=>0) (λ_=>False) c st):
  aa aj 198 dD (PQ sG (.ew [.sl (bG (gj n es)),.sl (aG (Rk (stF n es) es n es.length))])) ⟨DM.look (lK n es),cJ (eM ⟨n,es,us⟩ st (mU n n)),3500,1000,[]⟩:=by
 have hS:=K0 H;have hG:=YA H;unfold dD;apply aa.seq;apply aa.block;refine aa.loop (λs:dy=>⟨DM.look (lK n es),cJ (eM ⟨n,es,us⟩ s (mU n n)),3500,1000,[]⟩)
  (λs=>KI n es (gj n es) (λ_=>0) (λ_=>False) c s) (λs=>qn s.cj*(c.toNat+1)+s.s.heap.length) st (Le.refl _) hK (λs hs=>?_)
 clear hK st;have e1:=λs=>(oY ⟨n,es,us⟩ s (mU n n)).sp;have e3:=λs=>(oY ⟨n,es,us⟩ s (mU n n)).rf;have e6:∀z s E,cJ (eM z s E) 3040=some (.bE 0 3 1 (aG E)):=λz s E=>by simp[eM]
 simp only[mW,yA]at e1;simp only[sZ,yA]at e3;have KY:=hs.yg;have Jp:=hs.nc;have ng:∀r,cJ (eM ⟨n,es,us⟩ s (mU n n)) r=none->cJ (eM ⟨n,es,us⟩ (mn s) (mU n n)) r=none:=λr hr=>by
  rw[show cJ (eM ⟨n,es,us⟩ (mn s) (mU n n))=bO (cJ (eM ⟨n,es,us⟩ s (mU n n))) 2414 (⟨yA,⟨n,es,us⟩,s⟩:SV).qv (fQ s.s)from(N1 _ _ _ _).symm];exact g5 (f:=cJ (eM ⟨n,es,us⟩ s (mU n n))) (oY ⟨n,es,us⟩ s (mU n n)).qv _ hr
 have m9:∀N,(∀r,N<=r->cJ (eM ⟨n,es,us⟩ s (mU n n)) r=none)->aQ aj 103 [.ptr 2414 0] (cJ (eM ⟨n,es,us⟩ s (mU n n))) ⟨True,.v (vQ s.s),cJ (eM ⟨n,es,us⟩ (mn s) (mU n n))⟩:=λN h=>by
  have:=ar8 (f0:=cJ (eM ⟨n,es,us⟩ s (mU n n))) h (oY ⟨n,es,us⟩ s (mU n n)).qv (show xy s.s from⟨hs.ok,hs.nd',by omega⟩);have e:bO (cJ (eM ⟨n,es,us⟩ s (mU n n))) (⟨yA,⟨n,es,us⟩,s⟩:SV).k.q (⟨yA,⟨n,es,us⟩,s⟩:SV).qv (fQ s.s)=cJ (eM ⟨n,es,us⟩ (mn s) (mU n n)):=N1 _ _ _ _;have e2:(⟨yA,⟨n,es,us⟩,s⟩:SV).qv.s=s.s:=rfl;rw[e2,e]at this;exact this
 have aC:=BO ay.nil m9 ng;apply aa.block;by_cases b7:s.s.heap=[]
 ·have hpv:vQ s.s=.ew [.agg [ti 0,ti 0,ti 0],.bool false]:=by simp[vQ,b7]
  have hb:s.an=(stF n es).an:=hs.anb H hS hG b7;have hf:=anf hs hb;have Xm:mn s=s:=by simp[mn,fQ,b7]
  rw[hpv,Xm]at aC;apply aa.cY aC fw (rs:=wu) rfl (by kernel_rfl) [1,4,5,13,14];simp[wu,e1];refine aa.le (alf (L:=[(_,.box [.v (ti 0),.v (ti 0),.v (ti 0)]),(_,.box [.v (ti 0),.v (ti 0),.v (ti 0)])]) (L':=[]) (l:=[(1,.v (.box [ti n,.sl (bn es)])),(4,.ptr 2033 0),(5,.bC 3040 0),(14,.v (.bool false))]) (aY:=3800) ?_ ?_ (by omega) ?_ ?_) ?_;iterate 3(·simp)
  ·simp[e1,e6]
  apply aa.sq cL fw [1,4,5,136];simp[zR];refine aa.cond rfl (λ_=>?_) (λg=>by cases g);apply aa.exit;simp;refine aa.le (frz (aY:=3500) (by omega) (by simp)) ?_;have hfo:oZ n es s (mU n n)=oZ n es (stF n es) (mU n n):=by simp only[oZ,Rl,hb,hf]
  rw[hfo];have hlb:(stF n es).an.length=n:=by have:=hs.lb;rw[hb]at this;omega
  have hlf:(stF n es).cj.length=n:=by have:=hs.lf;rw[hf]at this;omega
  have Cw:=hs.bo;rw[hb]at Cw;exact phE H hlb hlf Cw
 ·obtain⟨re,hre⟩:=be (root s);have hpv:vQ s.s=.ew [.agg [ti re.x,ti re.v.aI,ti re.v.size],.bool true]:=by simp[vQ,b7,<-hre]
  rw[hpv]at aC;apply aa.cY aC fw (rs:=wu) rfl (by kernel_rfl) [1,4,5,13,14];simp[wu,e1];obtain⟨⟨r1,r2⟩,r3,r4,r5,r6,r7⟩:=hs.wT _ (D4 b7);obtain⟨f1,f2,f3⟩:=BS b7;rw[hre]at r1 r2 r3 r4 r5 r6 r7;obtain⟨y,hy⟩:=kK r1;have GG:y<n:=by omega
  have hlf:s.cj.length=n:=by have:=hs.lf;omega
  have rf:=kb (l:=s.cj) (y:=y) (by omega);rw[show(default:Bool)=false from rfl]at rf;obtain⟨fb,NQ⟩:=be (s.cj.getD y false);rw[NQ]at rf;have hpf:(mn s).cj=s.cj:=rfl;have Xh:(mn s).s.heap.length+1=s.s.heap.length:=by
   have:=NT.2 b7;show(fQ s.s).heap.length+1=_;omega
  refine aa.le (alf (L:=[(_,.box [.v (ti re.x),.v (ti re.v.aI),.v (ti re.v.size)]),(_,.box [.v (ti 0),.v (ti 0),.v (ti 0)])]) (L':=[]) (l:=[(1,.v (.box [ti n,.sl (bn es)])),(4,.ptr 2033 0),(5,.bC 3040 0),(13,.v (.box [ti re.x,ti re.v.aI,ti re.v.size])),(14,.v (.bool true))]) (aY:=3800) ?_ ?_ (by omega) ?_ ?_) ?_;iterate 3(·simp)
  ·simp[e1,e6];exact N3 (by omega)
  apply aa.sq cL fw [1,4,5,13,136];simp[zR];refine aa.cond rfl (λg=>by cases g) (λ_=>?_);apply aa.skip;simp;apply aa.ag cL fw [1,4,5,13,145];simp[FP,e1,e3,hy,hpf,hlf,GG,rf];refine aa.cond rfl (λg=>?_) (λg=>?_)
  ·have g:s.cj.getD y false=false:=NQ.trans (by simpa using g);obtain⟨k1,k2,k3⟩:=hs.settle H hS hc b7 hu (by rw[hre,hy];simpa using g);rw[hre]at k1 k2 k3;obtain⟨R,hR⟩:=be (ub ⟨n,es,us⟩ (mn s) re.x re.v);rw[hR]at k2 k3;rw[hy]at k1 hR k3;have Rm:∀N,(∀r,N<=r->cJ (eM ⟨n,es,us⟩ (mn s) (mU n n)) r=none)->aQ aj 104 [.ptr 2033 0,.v (.agg [ti y,ti re.v.aI,ti re.v.size])] (cJ (eM ⟨n,es,us⟩ (mn s) (mU n n))) ⟨True,.v (.ew []),cJ (eM ⟨n,es,us⟩ R (mU n n))⟩:=λN h=>by
    have:=ar7 (f0:=cJ (eM ⟨n,es,us⟩ (mn s) (mU n n))) h (oY ⟨n,es,us⟩ (mn s) (mU n n)) k1;rw[Aw]at this;simp only[hR]at this;exact this
   refine aa.Di (BO ay.nil Rm ?_) fw (rs:=Ij) rfl (by kernel_rfl) [1,4,5] ?_
   ·intro r hr;rw[<-hR,<-Aw];exact g6 (v:=⟨yA,⟨n,es,us⟩,mn s⟩) (oY _ _ _) _ hr
   simp[Ij];refine⟨R,dU rfl (lL (by omega)) (by simp),k2, ?_⟩;have hcf:=NZ (l:=s.cj) (i:=y) (by omega) g;have hRn:=k2.nc;have hRc:=k2.yg;rw[k3,iQ,<-hcf,C7];omega
  ·have g:s.cj.getD y false=true:=NQ.trans (by simpa using g);apply aa.skip;simp;refine⟨mn s,dU rfl (lL (by omega)) (by simp),hs.drop b7 (by rw[hre,hy];simpa using g), ?_⟩;rw[hpf];omega
end
section
variable{nd:Int}{es:List bI}
def ady(H:hE nd es):∀y:Nat,(y:Int)<nd->¬(⟨1099511627776,0⟩:dg).lt (bv (gj nd es) y):=by
 let P:bY->Prop:=λw=>Lx nd w/\∀y:Nat,(y:Int)<nd->¬(⟨1099511627776,0⟩:dg).lt (bv w y)
 have GS:∀w,P w->∀e∈es,P (qX w e):=by
  intro w hw e he;have sO:=H.2.2.2 e he;refine⟨(sK sO.1 hw.1).1,λy hy=>?_⟩;unfold qX;split
  ·rename_i ef;have hh:e.head.toNat<w.length:=by have:=hw.1.1;have:=sO.1.1;have:=sO.1.2.1;omega
   have KZ:bv (w.set e.head.toNat (d0 e.aI (dY w e.dH))) y=if y=e.head.toNat then d0 e.aI (dY w e.dH)else bv w y:=by
    unfold bv;simp only[iQ];exact eV hh
   rw[KZ];split
   ·rename_i e1;have h3:=hw.2 y hy;have e2:bv w y=w.getD e.head.toNat default:=by unfold bv;rw[iQ,e1]
    rw[e2]at h3;unfold dg.lt at ef h3⊢;simp only at h3⊢;omega
   ·exact hw.2 y hy
  ·exact hw.2 y hy
 have Ri:∀w,P w->∀y,y<=es.length->P (eL es w y):=by
  intro w hw y;induction y with
  |zero=>intro _;exact hw
  |succ y ih=>intro hy;rw[ke];exact GS _ (ih (by omega)) _ (bu (by omega))
 have Rj:∀f w,P w->P (lJ es f w):=by
  intro f;induction f with
  |zero=>intro w hw;exact hw
  |succ f ih=>
   intro w hw;unfold lJ;split
   ·exact hw
   ·exact ih _ (Ri w hw _ (ed _))
 refine(Rj _ _ ⟨Ac H.Lw,λy hy=>?_⟩).2;have h0:=H.1;have e1:bv (GF nd) y=⟨1099511627776,0⟩:=by unfold bv GF;exact iq (by omega)
 rw[e1];simp[dg.lt]
def qo(es:List bI):bT:=es.map λe=>(e.dH.length:Int)
def IC{k:Nat}(h:k<es.length):(qo es).getD k 0=((es.getD k default).dH.length:Int):=by simp[qo,List.getD,h]
def ID:∀{es:List bI},(∀e∈es,e.dH.length<=2)->uQ (qo es)<=2*es.length
 |[],_=>by simp[qo,uQ]
 |e::es,h=>by
  have h1:=h e (by simp);have:=ID (es:=es) λx hx=>h x (by simp[hx]);simp only[qo,qD,uQ,Lr]at this⊢;omega
def GV(n:Nat)(ts:bT):BQ (List.replicate n false) ts=ts.length:=by
 unfold BQ;rw[List.countP_eq_length];intro t _;have:(List.replicate n false).getD t.toNat false=false:=by
  simp only[List.getD,Zcw];split<;>rfl
 rw[this];rfl
def K3(n:Nat)(es:List bI):K1 n es es.length=⟨List.replicate n ⟨1099511627776,0⟩,List.replicate n false,qo es,q0⟩:=by simp[K1,qo]
def KI.auL{n:Nat}(hn:nd=n)(H:hE nd es):KI nd es (gj nd es) (λ_=>0) (λk=>0<=k) (uQ (qo es)) (K1 n es es.length):=by
 have hb:∀y:Nat,(y:Int)<nd->bv (List.replicate n (⟨1099511627776,0⟩:dg)) y=⟨1099511627776,0⟩:=λy hy=>by unfold bv;exact iq (by simp;omega)
 have hf:∀y:Nat,(List.replicate n false).getD y false=false:=λy=>by
  simp only[List.getD,Zcw];split<;>rfl
 rw[K3];refine⟨by simp[hn],by simp[hn],by simp[qo], ?_,λk hk=>by simp[q0]at hk,λi _ hi=>by simp[q0]at hi,λv hv=>?_,λk hk=>?_,λk _ _ _ h=>eB (Sj k) h,λe he=>by simp[q0]at he,λy hy=>?_,λy hy h=>?_,λy hy _=>?_, ?_,λh hh=>?_, ?_⟩
 ·exact⟨by simp[q0,qq],by simp[q0],by simp[q0]⟩
 ·rw[ZbU hv];simp[jI]
 ·simp only[GV];rw[IC hk];simp
 ·simp only;rw[hb y hy];exact ady H y hy
 ·simp only at h;rw[hf]at h;cases h
 ·exact hb y hy
 ·simp[q0]
 ·obtain⟨e,_,rfl⟩:=g9.1 hh;omega
 ·simp[q0]
def phC{n:Nat}(H:hE n es):
  aa aj 198 dC (PQ sG (.ew [.sl (bG (gj n es)),.sl (aG (Rk (stF n es) es n es.length))])) ⟨DM.look (lK n es),cJ (eM ⟨n,es,kj n es es.length⟩ (K1 n es es.length) (mU n n)),3500,1000,[]⟩:=by
 have hu:As n es (kj n es es.length):=YB H;obtain⟨us,XT⟩:=be (kj n es es.length);rw[XT]at hu⊢;have hS:=K0 H;have ar9:=ID (es:=es) λe he=>(H.2.2.2 e he).2;have hel:=H.2.2.1;obtain⟨C,hC⟩:=be (uQ (qo es));have hK:=KI.auL (n:=n) rfl H;rw[hC]at hK ar9;have e1:=λs=>(oY ⟨n,es,us⟩ s (mU n n)).sp;have e4:=λs=>(oY ⟨n,es,us⟩ s (mU n n)).rh;simp only[mW,yA]at e1;simp only[s8,yA]at e4;have dN:(K1 n es es.length).fA.length=es.length:=by rw[K3];simp[qo]
 unfold dC;apply aa.sq cL fw [1,4,5,104,105,106];simp[FM,e1,e4,dN];apply aa.block;refine aa.loop (λp:Nat×dy=>⟨DM.look [(1,.v (.box [ti n,.sl (bn es)])),(4,.ptr 2033 0),(5,.bC 3040 0),(104,.bC 2028 0),(105,.v (ti es.length)),(106,.v (ti p.1))],cJ (eM ⟨n,es,us⟩ p.2 (mU n n)),4000,1000,[]⟩)
  (λp=>p.1<=es.length/\KI n es (gj n es) (λ_=>0) (λk=>p.1<=k) (C+p.1) p.2/\p.2.cj=List.replicate n false/\p.2.fA=qo es) (λp=>es.length-p.1) (0,K1 n es es.length) (dU rfl (lL (by omega)) (by simp)) ⟨by omega,by simpa using hK,by rw[K3],by rw[K3]⟩ ?_
 rintro⟨k,s⟩ ⟨hk,hs,hfs,hhs⟩;simp only at hk hs hfs hhs;apply aa.ag cL fw [1,4,5,104,105,106,107];simp[FN];apply aa.seq;refine aa.cond rfl (λg=>?_) (λg=>?_)
 ·have g:k<es.length:=by simpa using g
  have Cm:(qo es).length=es.length:=by simp[qo]
  have rh:=cM (l:=qo es) (y:=k) (by omega);rw[show(default:Int)=0 from rfl,IC g]at rh;have rr:=kE g;obtain⟨e,KV⟩:=be (es.getD k default);rw[KV]at rh rr;have w2:IntKind.i64.wrap ((k:Int)+1)=((k+1:Nat):Int):=by rw[aF (by omega)];omega
  have hwk:e.dH.length≠0->KI n es (gj n es) (λ_=>0) (λj=>k+1<=j) (C+(k+1:Nat)) s:=λb7=>hs.Yw (λj hj h1 h2 _ h3=>by
   by_cases ej:j=k
   ·subst ej;rw[hfs,GV,KV]at h2;exact b7 h2
   ·omega) (by omega)
  have hof:e.dH.length=0->KI n es (gj n es) (λ_=>0) (λj=>k+1<=j) (C+(k+1:Nat)) (qh s e):=λhe0=>by
   have h0:BQ s.cj (es.getD k default).dH=0:=by rw[hfs,GV,KV];exact he0
   have:=hs.GR H hS g h0 (λy hy yz=>by
    rw[hfs]at yz;simp only[List.getD,Zcw]at yz;split at yz<;>cases yz)
   rw[KV]at this;exact this.Yw (λj hj h1 _ _ h2=>by omega) (by omega)
  have hoo:=hs.qZ H (by omega) (us:=us) g;have asa:(qh s e).fA=s.fA/\(qh s e).cj=s.cj:=by
   unfold qh;split<;>exact⟨rfl,rfl⟩
  have aN:r8 ⟨n,es,us⟩ s k=qh s e:=by unfold r8;rw[show(⟨n,es,us⟩:fo).es=es from rfl,KV]
  obtain⟨eh,ts,ec,e0',e1'⟩:=e;simp only[bI.enc]at rr rh hwk hof;apply aa.skip;simp;apply aa.seq;apply aa.block;apply aa.ag cL fw [1,4,5,11,12,104,105,106];simp[FO,e4,hhs,Cm,rh,g];obtain⟨c1,b8⟩:=be (decide (ts.length=0):Bool);refine aa.cH cL fw [(1,.v (.box [ti n,.sl (bn es)])),(4,.ptr 2033 0),(5,.bC 3040 0),(11,.v (ti k)),(12,.v (ti ts.length)),(104,.bC 2028 0),(105,.v (ti es.length)),(106,.v (ti k)),(122,.v (.bool c1))] ?_ ?_
  ·by_cases q1:ts.length=0
   ·have:c1=true:=by rw[<-b8];simp[q1]
    have q2:ts=[]:=LS q1;simp[zP,rr,q2,this,g]
   ·have:c1=false:=by rw[<-b8];simp[q1]
    have q2:ts≠[]:=λh=>q1 (by rw[h];rfl);have q3:¬(ts.length:Int)=0:=by omega
    simp[zP,q2,this]
  refine aa.cond rfl (λg2=>?_) (λg2=>?_)
  ·have g2:c1=true:=by simpa using g2
   subst g2;have h0:ts.length=0:=qW b8;have m9:∀N,(∀r,N<=r->cJ (eM ⟨n,es,us⟩ s (mU n n)) r=none)->aQ aj 102 [.ptr 2033 0,.v (ti k)] (cJ (eM ⟨n,es,us⟩ s (mU n n))) ⟨True,.v (.ew []),cJ (eM ⟨n,es,us⟩ (qh s ⟨eh,ts,ec,e0',e1'⟩) (mU n n))⟩:=λN h=>by
    have:=ale (f0:=cJ (eM ⟨n,es,us⟩ s (mU n n))) h (oY ⟨n,es,us⟩ s (mU n n)) hoo;rw[Aw]at this;simp only[aN]at this;exact this
   refine aa.Di (BO ay.nil m9 ?_) fw (rs:=Ii) rfl (by kernel_rfl) [1,4,5,104,105,106] ?_
   ·intro r hr;rw[<-aN,<-Aw];exact g6 (v:=⟨yA,⟨n,es,us⟩,s⟩) (oY _ _ _) _ hr
   simp[Ii];apply aa.fJ cL fw [1,4,5,104,105,106];simp[zQ,w2];exact⟨k+1,_,dU rfl (lL (by omega)) (by simp),⟨by omega,hof h0,asa.2.trans hfs,asa.1.trans hhs⟩,by omega⟩
  ·have g2:c1=false:=by simpa using g2
   subst g2;have h0:ts.length≠0:=wQ b8;apply aa.skip;simp;apply aa.fJ cL fw [1,4,5,104,105,106];simp[zQ,w2];exact⟨k+1,s,dU rfl (lL (by omega)) (by simp),⟨by omega,hwk h0,hfs,hhs⟩,by omega⟩
 ·have g:k=es.length:=by
   have:¬k<es.length:=by simpa using g
   omega
  subst g;apply aa.exit;simp;refine aa.le (dU (l:=lK n es) (aY:=3500) rfl (lL (by omega)) (by simp)) ?_;exact phD H hu (by omega) (hs.Yw (ex':=λ_=>False) (λk hk _ _ _ h=>by omega) (ZcK _))
end
section
variable{es:List bI}{st:dy}{f tm:dj}{aK aY:Nat}
def iS(n:Nat)(es:List bI)(st:dy)(E:bT)(cs:bF):c7:=[(2033,.box (mW yA ⟨n,es,List.replicate n []⟩)),(2021,sd st),(2024,sZ st),(2028,s8 st),(2031,.box cs),(2414,qB 2419 2412 q0),(2419,hB q0),(2412,mB q0),(3040,.bE 0 3 1 (aG E))]
def vS(U:List (bT))(t:Nat):DV:=if U.getD t []=[]then .aX else .bC (5000+t) ((U.getD t []).length-1)
def fT(n:Nat)(U:List (bT)):bF:=(List.range n).map (vS U)
def rH(U:List (bT))(t:Nat):Option Ob:=if U.getD t []=[]then none else some (.bE ((U.getD t []).length-1) 3 1 (aG (U.getD t [])))
def uf(n:Nat)(es:List bI)(st:dy)(U:List (bT)):bq:=λr=>if 5000<=r/\r<5000+n then rH U (r-5000)else cJ (iS n es st (mU n n) (fT n U)) r
def pJ(n:Nat)(es:List bI)(st:dy)(E:bT)(cs:bF):∀q∈iS n es st E cs,1000<=q.1/\q.1<3041:=by simp[iS]
def BU{n:Nat}{U:List (bT)}(hn:n<=1000){k:Nat}(hk:7000<=k):∀r,k<=r->uf n es st U r=none:=λr hr=>by
 unfold uf;rw[aZ (by omega)];exact fS (λq hq=>(pJ _ _ _ _ _ q hq).2) r (by omega)
def kS{n:Nat}{U:List (bT)}{r:Nat}(h:r<5000):uf n es st U r=cJ (iS n es st (mU n n) (fT n U)) r:=by
 unfold uf;rw[aZ (by omega)]
def od{n:Nat}{U:List (bT)}{t:Nat}(h:t<n):uf n es st U (5000+t)=rH U t:=by
 unfold uf;rw[cF (by omega),Nat.add_sub_cancel_left]
def N4{U:List (bT)}{t m:Nat}(h:m∈aP (vS U t)):m=5000+t/\U.getD t []≠[]:=by
 unfold vS at h;split at h
 ·simp[aP]at h
 ·simp only[aP,fN,lq,ld]at h;exact⟨h,by assumption⟩
def p0{l:cQ}{m:Nat}(h:m∈bQ (l.map f)):∃t∈l,m∈aP (f t):=by
 induction l with
 |nil=>simp[bQ]at h
 |cons a l ih=>
  simp only[qD,bQ,oi]at h;rcases h with h|h
  ·exact⟨a,by simp,h⟩
  ·obtain⟨t,ht,h⟩:=ih h;exact⟨t,by simp[ht],h⟩
def IF{a b:bq}{σ:Nat->Nat}{l:cQ}{g:dj}(h:∀t∈l,iY a b σ (f t) (g t)):iF a b σ (l.map f) (l.map g):=by
 induction l with
 |nil=>simp[iF]
 |cons x l ih=>
  simp only[qD,iF];exact⟨h x (by simp),ih λt ht=>h t (by simp[ht])⟩
def IG{n t:Nat}{U:List (bT)}{c:DV}(ht:t<n):(fT n U).set t c=(List.range n).map (λs=>if s=t then c else vS U s):=by
 refine ZbF (by simp[fT]) λi h1 h2=>?_;simp only[Zcf,fT,Zb4,Zb6];by_cases e:t=i
 ·subst e;simp
 ·rw[aZ e,aZ (λh=>e h.symm)]
def Rn{n:Nat}{U:List (bT)}(hn:n<=1000):df (uf n es st U) 7000:=by
 intro r o h;have hr:r<7000:=by
  by_cases hr:r<7000
  ·exact hr
  ·rw[BU hn (ed 7000) r (by omega)]at h;cases h
 refine⟨hr,λm hm=>?_⟩;by_cases jH:5000<=r/\r<5000+n
 ·unfold uf at h;rw[cF jH]at h;unfold rH at h;split at h
  ·cases h
  ·simp only[cu]at h;subst h;simp[bb]at hm
 ·unfold uf at h;rw[aZ jH]at h;have li:=kw h;simp only[iS,fN,lq,ld,oS]at li;rcases li with⟨rfl,rfl⟩|⟨rfl,rfl⟩|⟨rfl,rfl⟩|⟨rfl,rfl⟩|⟨rfl,rfl⟩|⟨rfl,rfl⟩|⟨rfl,rfl⟩|⟨rfl,rfl⟩|⟨rfl,rfl⟩
  ·simp only[mW,yA,bb,bQ,aP,vZ,yN,oi,fN,lq,ld]at hm;rcases hm with rfl|rfl|rfl|rfl|rfl<;>rw[kS (by omega)]<;>simp[iS]
  ·simp[sd,bb]at hm
  ·simp[sZ,bb]at hm
  ·simp[s8,bb]at hm
  ·obtain⟨t,ht,h2⟩:=p0 (f:=vS U) (l:=List.range n) (show m∈bQ (fT n U)from hm);obtain⟨rfl,h3⟩:=N4 h2;rw[od (by simpa using ht)];unfold rH;rw[aZ h3];simp
  ·simp only[qB,bb,bQ,aP,vZ,yN,oi,fN,lq,ld]at hm;rcases hm with rfl|rfl<;>rw[kS (by omega)]<;>simp[iS]
  ·simp[hB,bb]at hm
  ·simp[mB,q0,vL,bb]at hm
  ·simp[bb]at hm
def alh{f:bq}{M:Nat}(aV:df f M)(hM:1000<=M){L:c7}{l:eO}(hL:∀q∈L,M<=q.1)(hn:M<=aY)
  (iX:fK (aO L f) f id tm l):Le ⟨tm,aO L f,aK,1000,[]⟩ ⟨DM.look l,f,aY,1000,[]⟩:=by
 have low:∀r,r<M->aO L f r=f r:=λr hr=>qr hr hL;refine Le.XV rfl rfl (λr hr=>?_) (λr o h=>?_) (λr hr o h=>?_) (λk=>mI l iX k)
 ·simp only at hr⊢;cases h:f r with
  |none=>rfl
  |some o=>have:=(aV r o h).1;omega
 ·have hr:=(aV r o h).1;refine⟨o,(low r hr).trans h,.inr ⟨rfl,λm hm=>?_⟩⟩;have Pr:=(aV r o h).2 m hm;cases D6:f m with
  |none=>exact eB D6 Pr
  |some o'=>exact⟨o',o',(low m (aV m o' D6).1).trans D6,D6,bk _⟩
 ·simp only at hr h⊢;rw[low r (by omega)]at h;exact⟨o,h,bk _⟩
def YD{n:Nat}{U:List (bT)}(h:U.length=n):oH U=(List.range n).map (λt=>.v (.sl (aG (U.getD t [])))):=by
 refine ZbF (by simp[oH,h]) λi h1 h2=>?_;have:i<U.length:=by simpa [oH]using h1
 simp[oH,List.getD,this]
def afL{n:Nat}{U:List (bT)}(hn:n<=1000)(yQ:st.s=q0)(hU:U.length=n)(hx:3041<=aY)(hl:fk tm (lK n es)):
  Le ⟨tm,uf n es st U,aK,1000,[]⟩ ⟨DM.look (lK n es),cJ (eM ⟨n,es,U⟩ st (mU n n)),aY,1000,[]⟩:=by
 have asc:∀t,gone (cJ (eM ⟨n,es,U⟩ st (mU n n))) id (5000+t):=λt=>N3 (by omega);have lo:∀r,r<3041->r≠2031->uf n es st U r=cJ (eM ⟨n,es,U⟩ st (mU n n)) r:=λr hr b7=>by
  rw[kS (by omega)];simp only[iS,eM,c6,ii,yQ,aZ b7];simp[mW,yA,hU]
 have asd:uf n es st U 2031=some (.box (fT n U)):=by rw[kS (by omega)];simp[iS]
 have anh:cJ (eM ⟨n,es,U⟩ st (mU n n)) 2031=some (.box (oH U)):=by simp[eM]
 refine Le.XV rfl rfl (lL hx) (λr o h=>?_) (λr hr o h=>?_) (λk=>mI _ ?_ k)
 ·simp only at h;have hr:r<3041:=(ud _ _ _ r o h).1;by_cases e:r=2031
  ·subst e;rw[anh]at h;simp only[cu]at h;subst h;refine⟨_,asd,.inl ?_⟩;show iF _ _ _ _ _;rw[YD hU];refine IF λt ht=>?_;have ht:t<n:=by simpa using ht
   unfold vS;split
   ·rename_i h0;rw[h0];simp[iY,aG]
   ·rename_i h0;simp only[iY,zq];refine .inr ⟨⟨3,1, ?_⟩,asc t⟩;rw[od ht];unfold rH;rw[aZ h0]
  ·refine⟨o,(lo r hr e).trans h,.inr ⟨rfl,λm hm=>?_⟩⟩;have Pr:=(ud _ _ _ r o h).2 m hm;cases D6:cJ (eM ⟨n,es,U⟩ st (mU n n)) m with
   |none=>exact eB D6 Pr
   |some o'=>
    have hm3:=(ud _ _ _ m o' D6).1;by_cases e:m=2031
    ·subst e;rw[anh]at D6;simp only[cu]at D6;subst D6;exact⟨_,_,asd,anh,trivial⟩
    ·exact⟨o',o',(lo m hm3 e).trans D6,D6,bk _⟩
 ·exfalso;simp only at hr h;rw[kS (by omega)]at h;have:=(pJ _ _ _ _ _ _ (kw h)).1;omega
 ·simp at hl;simp[hl,eM];rw[kS (by omega)];simp[iS]
end
def lB(n:Nat)(es:List bI)(k:Nat)(ts:bT)(i:Nat):eO:=[(1,.v (.box [ti n,.sl (bn es)])),(4,.ptr 2033 0),(5,.bC 3040 0),(7,.v (ti k)),(60,.v (.sl (bn es))),(61,.v (ti es.length)),(62,.v (ti k)),(77,.v (.sl (aG ts))),(78,.v (ti ts.length)),(79,.v (ti i))]
def ani{n:Nat}{es:List bI}{st:dy}{U:List (bT)}(hn:n<=1000){t:Nat}(ht:t<n)(hU:U.length=n)(h0:U.getD t []=[]){N0:Nat}(hN:7000<=N0){x:Int}{tm:dj}{aK k i:Nat}{ts:bT}(hl:fk tm (lB n es k ts i)):
  Le ⟨tm,aO [(2031,.box ((fT n U).set t (.bC N0 0))),(N0,.bE 0 3 1 [[ti x]])] (uf n es st U),aK,1000,[]⟩ ⟨DM.look (lB n es k ts i),uf n es st (U.set t [x]),7000,1000,[]⟩:=by
 have mF:∀s,(U.set t [x]).getD s []=if s=t then [x]else U.getD s []:=λs=>eV (by omega)
 obtain⟨A,hA⟩:=be (aO [(2031,.box ((fT n U).set t (.bC N0 0))),(N0,.bE 0 3 1 [[ti x]])] (uf n es st U));have lo:∀r,r<7000->r≠2031->A r=uf n es st U r:=λr hr b7=>by
  rw[<-hA,aH,aZ b7,aH,aZ (by omega)];rfl
 have loB:∀r,r<5000->r≠2031->A r=uf n es st (U.set t [x]) r:=λr hr b7=>by
  rw[lo r (by omega) b7,kS hr,kS hr];simp only[iS,c6,ii,aZ b7]
 have o31:A 2031=some (.box ((fT n U).set t (.bC N0 0))):=by rw[<-hA,aH,cF rfl]
 have oN:A N0=some (.bE 0 3 1 [[ti x]]):=by rw[<-hA,aH,aZ (by omega),aH,cF rfl]
 have n31:uf n es st (U.set t [x]) 2031=some (.box (fT n (U.set t [x]))):=by rw[kS (by omega)];simp[iS]
 have nt:uf n es st (U.set t [x]) (5000+t)=some (.bE 0 3 1 [[ti x]]):=by
  rw[od ht];unfold rH;rw[mF,cF rfl];rfl
 have ns:∀s,s<n->s≠t->uf n es st (U.set t [x]) (5000+s)=A (5000+s):=λs hs b7=>by
  rw[lo _ (by omega) (by omega),od hs,od hs];unfold rH;rw[mF,aZ b7]
 rw[hA];have sne:∀r,r<5000->(if r=5000+t then N0 else r)=r:=λr hr=>aZ (by omega);have base:∀r o,r<5000->uf n es st (U.set t [x]) r=some o->r=2021\/r=2024\/r=2028\/r=2031\/r=2033\/r=2412\/r=2414\/r=2419\/r=3040:=λr o hr h=>by
  rw[kS hr]at h;have li:=kw h;simp only[iS,fN,lq,ld,oS]at li;omega
 have hv:∀r o,r<5000->r≠2031->cJ (iS n es st (mU n n) (fT n U)) r=some o->A r=some o/\uf n es st (U.set t [x]) r=some o:=λr o hr b7 h=>by
  have h1:A r=some o:=by rw[lo r (by omega) b7,kS hr];exact h
  exact⟨h1,(loB r hr b7).symm.trans h1⟩
 have v21:=hv 2021 (sd st) (by omega) (by omega) (by simp[iS]);have v24:=hv 2024 (sZ st) (by omega) (by omega) (by simp[iS]);have v28:=hv 2028 (s8 st) (by omega) (by omega) (by simp[iS]);have v33:=hv 2033 (.box (mW yA ⟨n,es,List.replicate n []⟩)) (by omega) (by omega) (by simp[iS]);have v12:=hv 2412 (mB q0) (by omega) (by omega) (by simp[iS]);have v14:=hv 2414 (qB 2419 2412 q0) (by omega) (by omega) (by simp[iS]);have v19:=hv 2419 (hB q0) (by omega) (by omega) (by simp[iS]);have v40:=hv 3040 (.bE 0 3 1 (aG (mU n n))) (by omega) (by omega) (by simp[iS]);simp only[sd,sZ,s8,mB,hB,qB,mW,yA]at v21 v24 v28 v33 v12 v14 v19;refine Le.cor (λr=>if r=5000+t then N0 else r) rfl rfl (λr hr=>BU hn (ed 7000) r hr) (λr o h=>?_) (λr1 r2 h1 h2 e=>?_) (λr hr o h=>?_) (λk=>mI _ ?_ k)
 ·simp only at h⊢;have hr:r<7000:=by
   by_cases hr:r<7000
   ·exact hr
   ·rw[BU hn (ed 7000) r (by omega)]at h;cases h
  by_cases hb:r<5000
  ·rw[sne r hb];rcases base r o hb h with rfl|rfl|rfl|rfl|rfl|rfl|rfl|rfl|rfl
   ·rw[v21.2]at h;simp only[cu]at h;subst h;exact⟨_,v21.1,by simp⟩
   ·rw[v24.2]at h;simp only[cu]at h;subst h;exact⟨_,v24.1,by simp⟩
   ·rw[v28.2]at h;simp only[cu]at h;subst h;exact⟨_,v28.1,by simp⟩
   ·rw[n31]at h;simp only[cu]at h;subst h;refine⟨_,o31, ?_⟩;show iF _ _ _ _ _;rw[IG ht];refine IF λs hs=>?_;have hs:s<n:=by simpa using hs
    unfold vS;rw[mF];by_cases e:s=t
    ·subst e;rw[cF rfl,cF rfl,aZ (by simp)];simp only[iY,zq];refine .inr ⟨by simp,3,1,_,3,1,_,oN,nt⟩
    ·rw[aZ e,aZ e];split
     ·simp[iY]
     ·rename_i hh;simp only[iY,zq];refine .inr ⟨by rw[aZ (by omega)],3,1,aG (U.getD s []),3,1,aG (U.getD s []), ?_, ?_⟩
      ·rw[lo _ (by omega) (by omega),od hs];unfold rH;rw[aZ hh]
      ·rw[ns s hs e,lo _ (by omega) (by omega),od hs];unfold rH;rw[aZ hh]
   ·rw[v33.2]at h;simp only[cu]at h;subst h;exact⟨_,v33.1,by simp[v21.1,v21.2,v24.1,v24.2,v28.1,v28.2,n31,v14.2,sne]⟩
   ·rw[v12.2]at h;simp only[cu]at h;subst h;exact⟨_,v12.1,by simp[q0,vL,ka]⟩
   ·rw[v14.2]at h;simp only[cu]at h;subst h;exact⟨_,v14.1,by simp[v19.1,v19.2,v12.2,sne,q0,qc,sA]⟩
   ·rw[v19.2]at h;simp only[cu]at h;subst h;exact⟨_,v19.1,by simp⟩
   ·rw[v40.2]at h;simp only[cu]at h;subst h;exact⟨_,v40.1,by simp⟩
  ·have jH:5000<=r/\r<5000+n:=by
    by_cases hh:5000<=r/\r<5000+n
    ·exact hh
    ·unfold uf at h;rw[aZ hh]at h;have:=(pJ _ _ _ _ _ _ (kw h)).2;omega
   obtain⟨s,rfl⟩:∃s,r=5000+s:=⟨r-5000,by omega⟩;by_cases e:s=t
   ·subst e;rw[nt]at h;simp only[cu]at h;subst h;rw[cF rfl];exact⟨_,oN,by simp⟩
   ·rw[aZ (by omega)];rw[ns s (by omega) e]at h;refine⟨o,h, ?_⟩;rw[lo _ (by omega) (by omega),od (by omega)]at h;unfold rH at h;split at h
    ·cases h
    ·simp only[cu]at h;subst h;simp
 ·simp only at h1 h2 e;have hr:∀r,uf n es st (U.set t [x]) r≠none->r<7000:=λr h=>by
   by_cases hr:r<7000
   ·exact hr
   ·exact eB (BU hn (ed 7000) r (by omega)) h
  have:=hr r1 h1;have:=hr r2 h2;split at e<;>split at e<;>omega
 ·exfalso;simp only at hr h;rw[lo r (by omega) (by omega),kS (by omega)]at h;have:=(pJ _ _ _ _ _ _ (kw h)).1;omega
 ·simp[lB]at hl;simp[lB,hl,v33.2,v40.1,v40.2,sne]
section
variable{es:List bI}{ts:bT}
def N5{l:bF}{t:Nat}{c:DV}(h:t<l.length):l.take t++c::l.drop (t+1)=l.set t c:=by
 rw[List.set_eq_take_append_cons_drop,cF h]
def afM{n:Nat}{k:Nat}(h:k<es.length):(K1 n es k).fA.set k ((es.getD k default).dH.length:Int)=(K1 n es (k+1)).fA:=by
 have e1:es.take (k+1)=es.take k++[es.getD k default]:=c8 h;have e2:es.length-k=(es.length-(k+1))+1:=by omega
 simp only[K1];rw[ZbS _ _ (by simp;omega),e1,e2,Pu];simp only[XP,we,JI,qD,SJ,ZbY];rw[show k-min k es.length=0 by omega];rfl
def N6{U:List (bT)}{j:Int}(x:Nat):((yB U j ts).getD x []).length<=(U.getD x []).length+ts.length:=by
 unfold yB;induction ts generalizing U with
 |nil=>simp
 |cons t ts ih=>
  rw[Ca];have:=ih (U:=U.set t.toNat (U.getD t.toNat []++[j]));have h2:((U.set t.toNat (U.getD t.toNat []++[j])).getD x []).length<=(U.getD x []).length+1:=by
   by_cases hx:t.toNat<U.length
   ·rw[eV hx];split
    ·rename_i e;rw[e];simp
    ·omega
   ·rw[List.set_eq_of_length_le (by omega)];omega
  simp only[Lr];omega
def IH{n:Nat}{es:List bI}(h:∀e∈es,e.dH.length<=2)(x:Nat):∀k,k<=es.length->((kj n es k).getD x []).length<=2*k
 |0,_=>by
  simp only[kj,Zdw,Zcp,List.getD,Zcw];split<;>simp
 |k+1,hk=>by
  rw[ql];have:=IH (n:=n) h x k (by omega);have h1:=N6 (U:=kj n es k) (j:=k) (ts:=(es.getD k default).dH) x;have h2:=h _ (bu (l:=es) (i:=k) (by omega));omega
def YE{U:List (bT)}{j:Int}{i:Nat}(h:i<ts.length):yB U j (ts.take (i+1))=(yB U j (ts.take i)).set (ts.getD i 0).toNat ((yB U j (ts.take i)).getD (ts.getD i 0).toNat []++[j]):=by
 unfold yB;rw[show ts.take (i+1)=ts.take i++[ts.getD i 0]from c8 h,Dk];rfl
abbrev lC(n:Nat)(es:List bI)(k:Nat):eO:=[(1,.v (.box [ti n,.sl (bn es)])),(4,.ptr 2033 0),(5,.bC 3040 0),(60,.v (.sl (bn es))),(61,.v (ti es.length)),(62,.v (ti k))]
def phB{n:Nat}(H:hE n es):
  aa aj 198 dB (PQ sG (.ew [.sl (bG (gj n es)),.sl (aG (Rk (stF n es) es n es.length))])) ⟨DM.look (lK n es),uf n es (K1 n es 0) (kj n es 0),7000,1000,[]⟩:=by
 have hn:n<=1000:=by have:=H.2.1;omega
 have hel:=H.2.2.1;have e1:∀s U,uf n es s U 2033=some (.box (mW yA ⟨n,es,List.replicate n []⟩)):=λs U=>by rw[kS (by omega)];simp[iS]
 have e4:∀s U,uf n es s U 2028=some (s8 s):=λs U=>by rw[kS (by omega)];simp[iS]
 have e5:∀s U,uf n es s U 2031=some (.box (fT n U)):=λs U=>by rw[kS (by omega)];simp[iS]
 have e6:∀s U,uf n es s U 3040=some (.bE 0 3 1 (aG (mU n n))):=λs U=>by rw[kS (by omega)];simp[iS]
 simp only[mW,yA,ZbH]at e1;simp only[s8]at e4;have aV:=λs U=>Rn (n:=n) (es:=es) (st:=s) (U:=U) hn;have mE:∀{s:dy} {U:List (bT)} {k:Nat},7000<=k->∀r,k<=r->uf n es s U r=none:=λhk=>BU hn hk;unfold dB;apply aa.sq cL fw [1,4,5,60,61,62];simp[FE];apply aa.block;refine aa.loop (λk:Nat=>⟨DM.look (lC n es k),uf n es (K1 n es k) (kj n es k),7500,1000,[]⟩)
  (λk=>k<=es.length) (λk=>es.length-k) 0 (dU rfl (mE (by omega)) (by simp)) (by omega) (λk hk=>?_)
 apply aa.ag cL fw [1,4,5,60,61,62,63];simp[FF];apply aa.seq;refine aa.cond rfl (λg=>?_) (λg=>?_)
 ·have g:k<es.length:=by simpa using g
  have rr:=kE g;have EG:=afM (n:=n) g;obtain⟨sO,het⟩:=lD H g;have hU0:=IH (n:=n) (λe he=>(H.2.2.2 e he).2) (k:=k) (es:=es);obtain⟨e,KV⟩:=be (es.getD k default);have XT:=ql n es k;rw[KV]at rr EG sO het XT;obtain⟨eh,ts,ec,e0',e1'⟩:=e;have LX:=sO.2.2.1;simp only[bI.enc]at rr EG LX het XT;have w2:IntKind.i64.wrap ((k:Int)+1)=((k+1:Nat):Int):=by rw[aF (by omega)];omega
  have hhl:(K1 n es k).fA.length=es.length:=by simp[K1];omega
  apply aa.skip;simp;apply aa.seq;apply aa.block;apply aa.ag cL fw [1,4,5,7,8,60,61,62];simp[FG,rr,g];refine aa.le (alh (L:=[(7708,.box [.v (ti eh),.v (.sl (aG ts)),.v (ti ec),.v (ti e0'),.v (ti e1')]),(7708,.box [.v (ti 0),.aX,.v (ti 0),.v (ti 0),.v (ti 0)])]) (l:=[(1,.v (.box [ti n,.sl (bn es)])),(4,.ptr 2033 0),(5,.bC 3040 0),(7,.v (ti k)),(8,.v (.box [ti eh,.sl (aG ts),ti ec,ti e0',ti e1'])),(60,.v (.sl (bn es))),(61,.v (ti es.length)),(62,.v (ti k))]) (aY:=8000) (aV _ _) (by omega) (by simp) (by omega) ?_) ?_
  ·simp[e1,e6];exact bZ (l:=[]) (aV _ _) (by omega) (by simp)
  apply aa.ag cL fw [1,4,5,7,8,60,61,62];simp[FH,e1,e4,hhl,g];refine aa.le (dU (mG:=uf n es (K1 n es (k+1)) (kj n es k)) (aY:=8500) (l:=[(1,.v (.box [ti n,.sl (bn es)])),(4,.ptr 2033 0),(5,.bC 3040 0),(7,.v (ti k)),(8,.v (.box [ti eh,.sl (aG ts),ti ec,ti e0',ti e1'])),(60,.v (.sl (bn es))),(61,.v (ti es.length)),(62,.v (ti k))]) ?_ (mE (by omega)) (by simp)) ?_
  ·have rh:=cM (l:=(K1 n es k).fA) (y:=k) (by omega);rw[rh,List.tail_cons,show [T.int IntKind.i64 (ts.length:Int)]=[ti (ts.length:Int)]from rfl,<-lX,EG];funext q;by_cases hq:q=2028
   ·subst hq;rw[e4];rfl
   ·show(if q=2028 then _ else _)=_;rw[aZ hq];unfold uf;split
    ·rfl
    ·simp only[iS,c6,ii,aZ hq];rfl
  obtain⟨st,yQ⟩:=be (K1 n es (k+1));rw[yQ];apply aa.ag cL fw [1,4,5,7,60,61,62,77,78,79];simp[FI];apply aa.block;refine aa.loop (λi:Nat=>⟨DM.look (lB n es k ts i),uf n es st (yB (kj n es k) k (ts.take i)),7000,1000,[]⟩)
   (λi=>i<=ts.length) (λi=>ts.length-i) 0 (dU rfl (mE (by omega)) (by simp[lB])) (by omega) (λi hi=>?_)
  apply aa.ag cL fw [1,4,5,7,60,61,62,77,78,79,80];simp[FJ,lB];apply aa.seq;refine aa.cond rfl (λg2=>?_) (λg2=>?_)
  ·have g2:i<ts.length:=by simpa using g2
   apply aa.skip;simp;apply aa.seq;apply aa.block;have rt:=cM g2;have hsu:=YE (U:=kj n es k) (j:=k) g2;have jH:=N6 (U:=kj n es k) (j:=k) (ts:=ts.take i);have hU0:=λx=>hU0 x (by omega);obtain⟨U,hU⟩:=be (yB (kj n es k) k (ts.take i));have hUl:U.length=n:=by rw[<-hU,NW,pH]
   rw[hU]at hsu jH⊢;obtain⟨tt,Mb⟩:=be (ts.getD i default);have iX:tt∈ts:=by rw[<-Mb];exact bu g2
   rw[show ts.getD i 0=tt from Mb]at hsu;rw[Mb]at rt;obtain⟨t0,t1⟩:=LX tt iX;obtain⟨t,rfl⟩:=kK t0;have t1:t<n:=by omega
   rw[iQ]at hsu;have w3:IntKind.i64.wrap ((i:Int)+1)=((i+1:Nat):Int):=by rw[aF (by omega)];omega
   have A1:=jH t;have auM:=hU0 t;simp only[we]at A1;apply aa.ag cL fw [1,4,5,7,10,60,61,62,77,78,79];simp[FK,rt,g2];have dN:(fT n U).length=n:=by simp[fT]
   by_cases h0:U.getD t []=[]
   ·have Ao:∀h,(fT n U)[t]'h=.aX:=λh=>by simp only[fT,Zb4,Zb6,vS,cF h0]
    apply aa.qa cL fw (rs:=db (jo (5000+t) 2033 7000) (fg sF [none,none,none,some [1],none,none,none,none,none,none,none,none,none,none,some [0],none,none])) (.inl rfl) ((d8 (kh (by omega) (by omega) (by omega)) _ _ _).trans (by kernel_rfl)) [1,4,5,7,60,61,62,77,78,79];simp[sF,db,fF,fg,jo,cX,bN,aP,bQ,CT,gn,dR,e1,e5,Ao,dN,t1];refine⟨by omega, ?_⟩;apply aa.fJ cL fw [1,4,5,7,60,61,62,77,78,79];simp[zO,w3];refine⟨i+1, ?_,by omega,by omega⟩;rw[hsu,h0];rw[N5 (by omega)];exact ani (N0:=7496) (n:=n) (es:=es) (st:=st) (U:=U) (t:=t) (x:=(k:Int)) (k:=k) (i:=i+1) (ts:=ts) hn t1 hUl h0 (by omega) (by simp[lB])
   ·have Ao:∀h,(fT n U)[t]'h=.bC (5000+t) ((U.getD t []).length-1):=λh=>by simp only[fT,Zb4,Zb6,vS,aZ h0]
    have kr:uf n es st U (5000+t)=some (.bE ((U.getD t []).length-1) 3 1 (aG (U.getD t []))):=by
     rw[od t1];unfold rH;rw[aZ h0]
    have pV:∀o,cN (uf n es st U) (some (5000+t,o)) 2031=some (.box (fT n U)):=λo=>by
     show(if 2031=5000+t then _ else _)=_;rw[aZ (by omega),e5]
    obtain⟨row,ase⟩:=be (U.getD t []);rw[ase]at Ao kr hsu h0 A1;apply aa.qa cL fw (rs:=db (jo (5000+t) 2033 7000) (fg sF [none,none,none,some [1],none,none,none,none,none,none,none,none,none,none,some [0],none,none])) (.inl rfl) ((d8 (kh (by omega) (by omega) (by omega)) _ _ _).trans (by kernel_rfl)) [1,4,5,7,60,61,62,77,78,79];simp[sF,db,fF,fg,jo,cX,bN,aP,bQ,CT,gn,dR,e1,e5,Ao,dN,t1,kr,pV];refine⟨by omega,by omega,by omega,by omega, ?_⟩;apply aa.fJ cL fw [1,4,5,7,60,61,62,77,78,79];simp[zO,w3];refine⟨i+1,dU ?_ (mE (by omega)) (by simp),by omega,by omega⟩;rw[hsu,N5 (by omega)];have auM:0<row.length:=NT.2 h0;have mF:∀s,(U.set t (row++[(k:Int)])).getD s []=if s=t then row++[(k:Int)]else U.getD s []:=λs=>eV (by omega)
    have oT:(fT n U).set t (.bC (5000+t) (row.length-1+1))=fT n (U.set t (row++[(k:Int)])):=by
     rw[IG t1];unfold fT;refine Zbz λs hs=>?_;unfold vS;rw[mF];by_cases e:s=t
     ·subst e;rw[cF rfl,cF rfl,aZ (by simp)];simp;omega
     ·rw[aZ e,aZ e]
    rw[oT];funext q;show(if q=2031 then _ else if q=5000+t then _ else _)=_;by_cases h1:q=2031
    ·subst h1;rw[cF rfl,e5]
    rw[aZ h1];by_cases h2:q=5000+t
    ·subst h2;rw[cF rfl,od t1];unfold rH;rw[mF,cF rfl,aZ (by simp)];simp[aG];omega
    rw[aZ h2];unfold uf;split
    ·have e3:q-5000≠t:=by omega
     unfold rH;simp only[mF,aZ e3]
    ·simp only[iS,c6,ii,aZ h1]
  ·have g2:i=ts.length:=by
    have:¬i<ts.length:=by simpa using g2
    omega
   subst g2;apply aa.exit;simp;apply aa.fJ cL fw [1,4,5,60,61,62];simp[FL,w2];refine⟨k+1,dU ?_ (mE (by omega)) (by simp),by omega,by omega⟩;rw[XT,yQ]
 ·have g:k=es.length:=by
   have:¬k<es.length:=by simpa using g
   omega
  subst g;apply aa.exit;simp;refine aa.le (afL (aY:=3500) hn (by simp[K1]) (pH _ _ _) (by omega) (by simp)) ?_;exact phC H
end
def afN(nd:Int)(es:List bI)(n:Nat):bF:=[.v (ti nd),.v (.sl (bn es)),.bC 2021 0,.bC 2024 0,.bC 2028 0,.Hq 2031 n,.v (.pO (Go.Value.pointer Option.none))]
def N7(nd:Int)(es:List bI)(n:Nat):c7:=[(2033,.box (afN nd es n)),(2021,sd (Lz n es.length 0)),(2024,sZ (Lz n es.length 0)),(2028,s8 (Lz n es.length 0)),(2031,.box (List.replicate n .aX))]
def N8(nd:Int)(es:List bI)(n:Nat):c7:=[(2033,.box (mW yA ⟨nd,es,List.replicate n []⟩)),(2021,sd (Lz n es.length 0)),(2024,sZ (Lz n es.length 0)),(2028,s8 (Lz n es.length 0)),(2031,.box (List.replicate n .aX)),(2414,qB 2419 2412 q0),(2419,hB q0),(2412,mB q0)]
def II(a b:bq)(σ:Nat->Nat):∀n,iF a b σ (List.replicate n .aX) (List.replicate n .aX)
 |0=>by simp[iF]
 |n+1=>by
  simp only[Pu,iF];exact⟨by simp[iY],II a b σ n⟩
def YF(n:Nat):fT n (List.replicate n [])=List.replicate n .aX:=by
 refine ZbF (by simp[fT]) λi h1 h2=>?_;have:i<n:=by simpa using h2
 simp only[fT,Zb4,Zb6,vS,List.getElem_replicate];rw[cF];exact iq this
def afO(n:Nat)(es:List bI)(st:dy):uf n es st (List.replicate n [])=cJ (iS n es st (mU n n) (List.replicate n .aX)):=by
 funext q;unfold uf;rw[YF];split
 ·unfold rH;rw[cF (iq (by omega))];exact(fS (M:=3041) (λp hp=>(pJ _ _ _ _ _ p hp).2) q (by omega)).symm
 ·rfl
def K4{n:Nat}{es:List bI}{st:dy}{E:bT}{cs:bF}{k:Nat}(h:3041<=k):∀r,k<=r->cJ (iS n es st E cs) r=none:=λr hr=>fS (M:=3041) (λp hp=>(pJ _ _ _ _ _ p hp).2) r (by omega)
def asf{nd:Int}{es:List bI}(H:hE nd es):bw aj 71 [.agg [ti nd,.sl (bn es)]] (.ew [.sl (bG (gj nd es)),.sl (aG (Rk (stF nd es) es nd.toNat es.length))]):=by
 obtain⟨n,rfl⟩:=kK H.1;have hn:=H.2.1;have hel:=H.2.2.1;rw[iQ];refine ap1.ok (by simp) (aT ?_);simp;apply aa.ag cL fw [1];simp[Tf];refine aa.lk (o:=[]) (l:=[(1,.v (.box [ti n,.sl (bn es)]))]) (aY:=2000) (by simp) ?_;refine aa.kv cL fw (rs:=fg MX []) (.inr ⟨_,rfl⟩) (by kernel_rfl) [1,4] ?_;simp[MX,fg,CT,dR];refine⟨by omega,by omega,by omega,by omega,by omega,by omega, ?_⟩;refine aa.le (Le.bH (o:=N7 n es n) (l:=[(1,.v (.box [ti n,.sl (bn es)])),(4,.ptr 2033 0)]) (aY:=2200) ?_ ?_ ?_ ?_) ?_
 ·simp
 ·simp[N7]
 ·simp only[N7,afN,s8,sZ,sd,Lz];simp[aG,iy,bG,II]
 ·simp[N7]
 have Mj:∀{tm:dj} {ob:bq},ob=aO ((2033,.box (mW yA ⟨n,es,List.replicate n []⟩))::oJ 2399) (cJ (N7 n es n))->fk tm [(1,.v (.box [ti n,.sl (bn es)])),(4,.ptr 2033 0)]->
   Le ⟨tm,ob,2419,1000,[]⟩ ⟨DM.look [(1,.v (.box [ti n,.sl (bn es)])),(4,.ptr 2033 0)],cJ (N8 n es n),3000,1000,[]⟩:=by
  intro tm ob e iX;subst e;refine Le.trans (Le.DH 2414 1 211 (sz:=5) (cs:=[.v (.fn (.func 101) []),.aX,.je 2412,.v (ti 0),.v (ti 0)]) (by omega) (by simp[oJ]) rfl) (dU ?_ (fS (by simp[N8])) iX);funext q;show(if q=2414 then _ else if q=2419 then _ else _)=_;simp only[oJ,N7,N8,c6,ii,aH,bL];by_cases h1:q=2414
  ·subst h1;rfl
  by_cases h2:q=2419
  ·subst h2;rfl
  by_cases h3:q=2033
  ·subst h3;rfl
  by_cases h4:q=2412
  ·subst h4;rfl
  by_cases h6:q=2031
  ·subst h6;rfl
  by_cases h7:q=2028
  ·subst h7;rfl
  by_cases h8:q=2021
  ·subst h8;rfl
  by_cases h9:q=2024
  ·subst h9;rfl
  simp[h1,h2,h3,h4,h6,h7,h8,h9]
 refine aa.seq (aa.to ⟨DM.look [(1,.v (.box [ti n,.sl (bn es)])),(4,.ptr 2033 0)],cJ (N8 n es n),3000,1000,[]⟩ (aa.al8 cL (N':=2419) [1,4] (pre:=[⟨.sh (.tmp 4),(some 33),none,[],none⟩]) (rs:=Tg) rfl ?_) ?_)
 ·have hP:cJ (N7 n es n) 2033=some (.box (afN n es n)):=by simp[N7]
  simp;refine⟨_,λhN=>asg hN, ?_⟩;rintro val mG ⟨rfl,rfl⟩;simp[oJ,aH,afN,hP];exact Mj (by simp[mW,yA,oJ]) (by simp)
 simp;have e1:=λst E=>(by simp[iS]:cJ (iS n es st E (List.replicate n .aX)) 2033=some (.box (mW yA ⟨n,es,List.replicate n []⟩)));have e2:=λst E=>(by simp[iS]:cJ (iS n es st E (List.replicate n .aX)) 2021=some (sd st));have e6:=λst E=>(by simp[iS]:cJ (iS n es st E (List.replicate n .aX)) 3040=some (.bE 0 3 1 (aG E)));simp only[mW,yA,ZbH]at e1;simp only[sd]at e2;obtain⟨m,hm⟩:=be es.length;have anj:∀k,k<=n->(Lz n m k).an.length=n:=λk hk=>by simp[Lz];omega
 have afK:∀k,k<=n->(mU n k).length=n:=λk hk=>by simp[mU];omega
 apply aa.ag cL fw [1,4,5];simp[Th,CT,dR];refine⟨by omega,by omega, ?_⟩;refine aa.le (dU (mG:=cJ (iS n es (Lz n m 0) (mU n 0) (List.replicate n .aX))) (l:=lK n es) (aY:=3200) ?_ (K4 (by omega)) ?_) ?_
 ·funext q;rw[<-hm];simp only[N8,iS,c6,ii,mU,Zcv,yN,Zcq,aG,List.map_replicate]
  (repeat' split)<;>first|rfl|omega
 ·simp
 apply aa.sq cL fw [1,4,5,44,45];simp[Ti,e1,e2,anj 0 (by omega)];apply aa.block;refine aa.loop (λk:Nat=>⟨DM.look [(1,.v (.box [ti n,.sl (bn es)])),(4,.ptr 2033 0),(5,.bC 3040 0),(44,.v (ti n)),(45,.v (ti k))],cJ (iS n es (Lz n m k) (mU n k) (List.replicate n .aX)),3500,1000,[]⟩)
  (λk=>k<=n) (λk=>n-k) 0 (dU rfl (K4 (by omega)) (by simp)) (by omega) (λk hk=>?_)
 apply aa.ag cL fw [1,4,5,44,45,46];simp[Tj];apply aa.seq;refine aa.cond rfl (λg=>?_) (λg=>?_)
 ·have g:k<n:=by simpa using g
  apply aa.skip;simp;apply aa.seq;apply aa.block;apply aa.ag cL fw [1,4,5,6,44,45];simp[Tk];have rb:=dt (l:=(Lz n m k).an) (y:=k) (by rw[anj k hk];exact g);have re:=cM (l:=mU n k) (y:=k) (by rw[afK k hk];exact g);apply aa.ag cL fw [1,4,5,6,44,45];simp[Tl,e1,e2,anj k hk,g,rb];have e7:∀(q:Ob),cJ ((2021,q)::iS n es (Lz n m k) (mU n k) (List.replicate n .aX)) 3040=some (.bE 0 3 1 (aG (mU n k))):=λq=>by rw[c6,aZ (by omega)];exact e6 _ _
  apply aa.fJ cL fw [1,4,5,44,45];simp[Tm,e7,afK k hk,g,re];apply aa.fJ cL fw [1,4,5,44,45];simp[Tn];rw[aF (x:=(k:Int)+1) (by omega)];refine⟨k+1,dU ?_ (K4 (by omega)) (by simp),by omega,by omega⟩;funext q;have v1:(bG (Lz n m k).an).set k [T.int .i64 1099511627776,T.int .i64 0]=bG (Lz n m (k+1)).an:=by
   rw[show [T.int .i64 1099511627776,T.int .i64 0]=[ti (⟨1099511627776,0⟩:dg).aI,ti (⟨1099511627776,0⟩:dg).size]from rfl,<-jE];simp only[Lz,D8 _ _ g]
  have v2:(aG (mU n k)).set k [T.int .i64 (-1)]=aG (mU n (k+1)):=by
   rw[<-lX];simp only[mU,D8 _ _ g]
  rw[v1,v2];simp only[iS,c6,ii];by_cases h1:q=2021
  ·subst h1;rfl
  by_cases h2:q=3040
  ·subst h2;rfl
  simp only[aZ h1,aZ h2];rfl
 ·have g:k=n:=by
   have:¬k<n:=by simpa using g
   omega
  rw[g];apply aa.exit;simp;have hsA:Lz n m n=K1 n es 0:=by simp[Lz,K1,hm]
  rw[hsA,<-afO];exact aa.le (dU rfl (BU (by omega) (ed 7000)) (by simp)) (phB H)
end Kn
namespace Jb
open Go.DM
section
variable{av:List (aL)}
def yC(p:aL->Bool)(av:List (aL)):Int:=match av.findIdx? p with|some i=>i|none=> -1
def BX{p:aL->Bool}{y:Nat}(hy:y<av.length)(hp:p (av.getD y [])=true)(h:∀i,i<y->p (av.getD i [])=false):yC p av=y:=by
 have:av.findIdx? p=some y:=by
  rw[Zbv];refine⟨hy,by simpa [List.getD,hy]using hp,λj hj=>?_⟩;have hj2:j<av.length:=by omega
  have:=h j hj;simpa [List.getD,hj2]using this
 simp[yC,this]
def BY{p:aL->Bool}(h:∀i,i<av.length->p (av.getD i [])=false):yC p av= -1:=by
 have:av.findIdx? p=none:=by
  rw[Zco];intro x hx;obtain⟨i,hi,rfl⟩:=If hx;have:=h i hi;simpa [List.getD,hi]using this
 simp[yC,this]
def K5(p:aL->Bool)(av:List (aL)):decide (yC p av>=0)=av.any p:=by
 unfold yC;cases h:av.findIdx? p with
 |none=>
  rw[Zco]at h;have:av.any p=false:=by
   rw[ZcB];intro x hx;simp[h x hx]
  simp[this]
 |some i=>
  rw[Zbv]at h;obtain⟨hi,hp,_⟩:=h;have:av.any p=true:=Zct.2 ⟨_,SK hi,hp⟩;simp[this]
def K6(o:bq):∀l:aL,uE true o (l.map .v)
 |[]=>trivial
 |x::l=>by
  simp only[qD];exact⟨by simp,K6 o l⟩
def K7{i:Nat}(h:i<av.length):av.getD i []∈av:=by
 simp[List.getD,h]
def asj(av:List (aL))(g:Nat)(ch:aL)(p:aL->Bool)(hl:av.length<=1000000000)(hz:∀r∈av,∃x0 x1 x2 x3 x4 x5,r=[x0,x1,x2,x3,x4,x5])(hg:∀r∈av,bw aj g (.agg r::ch) (.bool (p r))):bw aj 64 [.sl av,.fn (.func g) ch] (ti (yC p av)):=by
 obtain⟨R,hR⟩:=be (yC p av);rw[hR];have aC:ay aj (bB [(g,dh (λts=>∃r∈av,ts=.agg r::ch) (λts=>match ts with|.agg r::_=>.bool (p r)|_=>.bool false) true)]):=by
  refine ay.cons ay.nil ?_;rintro ts ⟨r,hr,rfl⟩;obtain⟨x0,x1,x2,x3,x4,x5,rfl⟩:=hz r hr;exact⟨hg _ hr,λ_=>rfl⟩
 refine aqJ.ok (by simp) (aT ?_);simp;apply aa.ag aC fw [0,1];simp[Ux];apply aa.sq aC fw [0,1,7,8];simp[Uy];apply aa.block;refine aa.loop (λy:Nat=>⟨DM.look [(0,.v (.sl av)),(1,.v (.fn (.func g) ch)),(7,.v (ti av.length)),(8,.v (ti y))],cJ [],2000,1000,[]⟩)
  (λy=>y<=av.length/\∀i,i<y->p (av.getD i [])=false) (λy=>av.length-y) 0 (Le.bH (o:=[]) ?_ ?_ ?_ ?_) (by simp) (λy hy=>?_)
 iterate 4(·simp)
 obtain⟨mf,fW⟩:=hy;apply aa.ag aC fw [0,1,7,8,9];simp[Uz];apply aa.seq;refine aa.cond rfl (λh=>?_) (λh=>?_)
 ·have h:y<av.length:=by simpa using h
  have jH:DM.rowAt av (y:Int)=av.getD y []:=by simp[DM.rowAt,List.getD,h]
  have li:=K7 h;obtain⟨row,hr⟩:=be (av.getD y []);rw[hr]at li jH;obtain⟨x0,x1,x2,x3,x4,x5,rfl⟩:=hz row li;obtain⟨b,hb⟩:=be (p [x0,x1,x2,x3,x4,x5]);have w2:IntKind.i64.wrap ((y:Int)+1)=((y+1:Nat):Int):=by rw[aF (by omega)];omega
  apply aa.skip;simp;apply aa.seq;apply aa.block;apply aa.ag aC fw [0,1,5,7,8];simp[UA];apply aa.ag aC fw [0,1,5,7,8,16];simp[UB,h,jH,li,hb];refine⟨K6 _ _, ?_⟩;refine aa.cond rfl (λh2=>?_) (λh2=>?_)
  ·have h2:b=true:=by simpa using h2
   apply aa.ag aC fw [4];simp[UC];apply aa.ret;rw[BX h (by rw[hr,hb,h2]) fW]at hR;subst hR;simp[dm]
  ·have h2:b=false:=by simpa using h2
   apply aa.skip;simp;apply aa.fJ aC fw [0,1,7,8];simp[UD,w2];refine⟨y+1,Le.bH (o:=[]) ?_ ?_ ?_ ?_,⟨by omega,λi hi=>?_⟩,by omega⟩;iterate 4(·simp)
   ·by_cases e:i=y
    ·subst e;exact(congrArg p hr).trans (hb.trans h2)
    ·exact fW i (by omega)
 ·have h:y=av.length:=by
   have:¬y<av.length:=by simpa using h
   omega
  subst h;apply aa.exit;simp;apply aa.ag aC fw [4];simp[UE];apply aa.ret;rw[BY fW]at hR;subst hR;simp[dm]
def ask(av:List (aL))(g:Nat)(ch:aL)(p:aL->Bool)(hl:av.length<=1000000000)(hz:∀r∈av,∃x0 x1 x2 x3 x4 x5,r=[x0,x1,x2,x3,x4,x5])(hg:∀r∈av,bw aj g (.agg r::ch) (.bool (p r))):bw aj 38 [.sl av,.fn (.func g) ch] (.bool (av.any p)):=by
 have hi:=K5 p av;obtain⟨R,hR⟩:=be (av.any p);rw[hR]at hi⊢;have aC:ay aj (bB [(64,dh (λts=>ts=[.sl av,.fn (.func g) ch]) (λts=>ti (yC p av)) true)]):=by
  refine ay.cons ay.nil ?_;rintro ts rfl;exact⟨asj av g ch p hl hz hg,λ_=>rfl⟩
 refine aqu.ok (by simp) (aT ?_);simp;apply aa.ag aC fw [0,1];simp[Uc];apply aa.ag aC fw [4];simp[Ud];apply aa.ret;simp[dm];simpa using hi.symm
def asm(av:List (aL))(g:Nat)(ch:aL)(p:aL->Bool)(hl:av.length<=1000000000)(hz:∀r∈av,∃x0,r=[x0])(hg:∀r∈av,bw aj g ((r.headD (.bool false))::ch) (.bool (p r))):bw aj 66 [.sl av,.fn (.func g) ch] (ti (yC p av)):=by
 obtain⟨R,hR⟩:=be (yC p av);rw[hR];have aC:ay aj (bB [(g,dh (λts=>∃r∈av,ts=(r.headD (.bool false))::ch) (λts=>match ts with|x::_=>.bool (p [x])|_=>.bool false) true)]):=by
  refine ay.cons ay.nil ?_;rintro ts ⟨r,hr,rfl⟩;obtain⟨x0,rfl⟩:=hz r hr;exact⟨hg _ hr,λ_=>rfl⟩
 refine aqN.ok (by simp) (aT ?_);simp;apply aa.ag aC fw [0,1];simp[UG];apply aa.sq aC fw [0,1,7,8];simp[UH];apply aa.block;refine aa.loop (λy:Nat=>⟨DM.look [(0,.v (.sl av)),(1,.v (.fn (.func g) ch)),(7,.v (ti av.length)),(8,.v (ti y))],cJ [],2000,1000,[]⟩)
  (λy=>y<=av.length/\∀i,i<y->p (av.getD i [])=false) (λy=>av.length-y) 0 (Le.bH (o:=[]) ?_ ?_ ?_ ?_) (by simp) (λy hy=>?_)
 iterate 4(·simp)
 obtain⟨mf,fW⟩:=hy;apply aa.ag aC fw [0,1,7,8,9];simp[UI];apply aa.seq;refine aa.cond rfl (λh=>?_) (λh=>?_)
 ·have h:y<av.length:=by simpa using h
  have jH:DM.rowAt av (y:Int)=av.getD y []:=by simp[DM.rowAt,List.getD,h]
  have li:=K7 h;obtain⟨row,hr⟩:=be (av.getD y []);rw[hr]at li jH;obtain⟨x0,rfl⟩:=hz row li;obtain⟨b,hb⟩:=be (p [x0]);have w2:IntKind.i64.wrap ((y:Int)+1)=((y+1:Nat):Int):=by rw[aF (by omega)];omega
  apply aa.skip;simp;apply aa.seq;apply aa.block;apply aa.ag aC fw [0,1,5,7,8];simp[UJ];apply aa.ag aC fw [0,1,5,7,8,16];simp[UK,h,jH,hb];refine⟨⟨K6 _ _,_,li,rfl⟩, ?_⟩;refine aa.cond rfl (λh2=>?_) (λh2=>?_)
  ·have h2:b=true:=by simpa using h2
   apply aa.ag aC fw [4];simp[UL];apply aa.ret;rw[BX h (by rw[hr,hb,h2]) fW]at hR;subst hR;simp[dm]
  ·have h2:b=false:=by simpa using h2
   apply aa.skip;simp;apply aa.fJ aC fw [0,1,7,8];simp[UM,w2];refine⟨y+1,Le.bH (o:=[]) ?_ ?_ ?_ ?_,⟨by omega,λi hi=>?_⟩,by omega⟩;iterate 4(·simp)
   ·by_cases e:i=y
    ·subst e;exact(congrArg p hr).trans (hb.trans h2)
    ·exact fW i (by omega)
 ·have h:y=av.length:=by
   have:¬y<av.length:=by simpa using h
   omega
  subst h;apply aa.exit;simp;apply aa.ag aC fw [4];simp[UN];apply aa.ret;rw[BY fW]at hR;subst hR;simp[dm]
def asn(av:List (aL))(g:Nat)(ch:aL)(p:aL->Bool)(hl:av.length<=1000000000)(hz:∀r∈av,∃x0,r=[x0])(hg:∀r∈av,bw aj g ((r.headD (.bool false))::ch) (.bool (p r))):bw aj 42 [.sl av,.fn (.func g) ch] (.bool (av.any p)):=by
 have hi:=K5 p av;obtain⟨R,hR⟩:=be (av.any p);rw[hR]at hi⊢;have aC:ay aj (bB [(66,dh (λts=>ts=[.sl av,.fn (.func g) ch]) (λts=>ti (yC p av)) true)]):=by
  refine ay.cons ay.nil ?_;rintro ts rfl;exact⟨asm av g ch p hl hz hg,λ_=>rfl⟩
 refine aqC.ok (by simp) (aT ?_);simp;apply aa.ag aC fw [0,1];simp[Uo];apply aa.ag aC fw [4];simp[Up];apply aa.ret;simp[dm];simpa using hi.symm
def aso(av:List (aL))(g:Nat)(ch:aL)(p:aL->Bool)(hl:av.length<=1000000000)(hz:∀r∈av,∃x0 x1 x2,r=[x0,x1,x2])(hg:∀r∈av,bw aj g (.agg r::ch) (.bool (p r))):bw aj 99 [.sl av,.fn (.func g) ch] (ti (yC p av)):=by
 obtain⟨R,hR⟩:=be (yC p av);rw[hR];have aC:ay aj (bB [(g,dh (λts=>∃r∈av,ts=.agg r::ch) (λts=>match ts with|.agg r::_=>.bool (p r)|_=>.bool false) true)]):=by
  refine ay.cons ay.nil ?_;rintro ts ⟨r,hr,rfl⟩;obtain⟨x0,x1,x2,rfl⟩:=hz r hr;exact⟨hg _ hr,λ_=>rfl⟩
 refine aqZ.ok (by simp) (aT ?_);simp;apply aa.ag aC fw [0,1];simp[Vi];apply aa.sq aC fw [0,1,7,8];simp[Vj];apply aa.block;refine aa.loop (λy:Nat=>⟨DM.look [(0,.v (.sl av)),(1,.v (.fn (.func g) ch)),(7,.v (ti av.length)),(8,.v (ti y))],cJ [],2000,1000,[]⟩)
  (λy=>y<=av.length/\∀i,i<y->p (av.getD i [])=false) (λy=>av.length-y) 0 (Le.bH (o:=[]) ?_ ?_ ?_ ?_) (by simp) (λy hy=>?_)
 iterate 4(·simp)
 obtain⟨mf,fW⟩:=hy;apply aa.ag aC fw [0,1,7,8,9];simp[Vk];apply aa.seq;refine aa.cond rfl (λh=>?_) (λh=>?_)
 ·have h:y<av.length:=by simpa using h
  have jH:DM.rowAt av (y:Int)=av.getD y []:=by simp[DM.rowAt,List.getD,h]
  have li:=K7 h;obtain⟨row,hr⟩:=be (av.getD y []);rw[hr]at li jH;obtain⟨x0,x1,x2,rfl⟩:=hz row li;obtain⟨b,hb⟩:=be (p [x0,x1,x2]);have w2:IntKind.i64.wrap ((y:Int)+1)=((y+1:Nat):Int):=by rw[aF (by omega)];omega
  apply aa.skip;simp;apply aa.seq;apply aa.block;apply aa.ag aC fw [0,1,5,7,8];simp[Vl];apply aa.ag aC fw [0,1,5,7,8,16];simp[Vm,h,jH,li,hb];refine⟨K6 _ _, ?_⟩;refine aa.cond rfl (λh2=>?_) (λh2=>?_)
  ·have h2:b=true:=by simpa using h2
   apply aa.ag aC fw [4];simp[Vn];apply aa.ret;rw[BX h (by rw[hr,hb,h2]) fW]at hR;subst hR;simp[dm]
  ·have h2:b=false:=by simpa using h2
   apply aa.skip;simp;apply aa.fJ aC fw [0,1,7,8];simp[Vo,w2];refine⟨y+1,Le.bH (o:=[]) ?_ ?_ ?_ ?_,⟨by omega,λi hi=>?_⟩,by omega⟩;iterate 4(·simp)
   ·by_cases e:i=y
    ·subst e;exact(congrArg p hr).trans (hb.trans h2)
    ·exact fW i (by omega)
 ·have h:y=av.length:=by
   have:¬y<av.length:=by simpa using h
   omega
  subst h;apply aa.exit;simp;apply aa.ag aC fw [4];simp[Vp];apply aa.ret;rw[BY fW]at hR;subst hR;simp[dm]
def asp(av:List (aL))(g:Nat)(ch:aL)(p:aL->Bool)(hl:av.length<=1000000000)(hz:∀r∈av,∃x0 x1 x2,r=[x0,x1,x2])(hg:∀r∈av,bw aj g (.agg r::ch) (.bool (p r))):bw aj 67 [.sl av,.fn (.func g) ch] (.bool (av.any p)):=by
 have hi:=K5 p av;obtain⟨R,hR⟩:=be (av.any p);rw[hR]at hi⊢;have aC:ay aj (bB [(99,dh (λts=>ts=[.sl av,.fn (.func g) ch]) (λts=>ti (yC p av)) true)]):=by
  refine ay.cons ay.nil ?_;rintro ts rfl;exact⟨aso av g ch p hl hz hg,λ_=>rfl⟩
 refine aqP.ok (by simp) (aT ?_);simp;apply aa.ag aC fw [0,1];simp[UO];apply aa.ag aC fw [4];simp[UP];apply aa.ret;simp[dm];simpa using hi.symm
end
def fB(n:Int):Prop:=1<=n/\n<=60000
instance(n:Int):Decidable (fB n):=by unfold fB;infer_instance
def asq(n:Int):bw aj 41 [ti n] (.bool (decide (fB n))):=by
 obtain⟨R,hR⟩:=be (decide (fB n));rw[hR];refine aqA.ok (by simp) (aT ?_);simp;apply aa.ag cL fw [0];simp[Un];refine aa.cH cL fw [(2,.v (.bool R))] ?_ ?_
 ·by_cases q1:1<=n
  ·by_cases q2:n<=60000
   ·have:R=true:=by rw[<-hR];simp[fB,q1,q2]
    simp[DQ,q1,q2,this]
   ·have:R=false:=by rw[<-hR];simp[fB,q2]
    simp[DQ,q1,q2,this]
  ·have:R=false:=by rw[<-hR];simp[fB,q1]
   simp[DQ,q1,this]
 apply aa.ret;simp[dm]
abbrev ali:DM.Spec:=dh (λts=>∃n:Int,ts=[ti n]) (fun|[.int _ n]=>.bool (decide (fB n))|_=>.bool false) true
def K8:ay aj (bB [(41,ali)]):=by
 refine ay.cons ay.nil ?_;rintro ts ⟨n,rfl⟩;exact⟨asq n,λ_=>rfl⟩
def asr(n:Int):bw aj 43 [ti n] (.bool (!decide (fB n))):=by
 obtain⟨R,hR⟩:=be ((!decide (fB n)));rw[hR];refine aqE.ok (by simp) (aT ?_);simp;apply aa.ag K8 fw [0];simp[Uq];apply aa.ag K8 fw [2];simp[Ur];apply aa.ret;simp[dm];simpa using hR.symm
def ass(c:cP)(aM:Int)(h:aM<=1000000000000):bw aj 69 [.agg c.enc,ti aM] (.bool (decide (qL c aM))):=by
 have aC:=K8;obtain⟨v,hv⟩:=be (decide (qL c aM));rw[hv];have da:¬qL c aM->v=false:=λh=>by rw[<-hv];simp[h]
 have dd:qL c aM↔(¬(c.kind< -1\/c.kind>=aM\/(c.read.length:Int)≠aM\/c.delete<1\/(c.delete>60000/\c.delete≠1099511627776)))/\∀t,t<aM.toNat->lw c t:=Iff.rfl;refine aqT.ok (by simp) (aT ?_);simp[cP.enc];apply aa.ag aC fw [1,2];simp[US];refine aa.lk (o:=[]) (l:=[(1,.v (ti aM)),(2,.v (.box [ti c.kind,.sl (aG c.read),ti c.delete]))]) (aY:=1200) (by simp) ?_;apply aa.seq;obtain⟨b,hb⟩:=be (decide (c.kind< -1\/c.kind>=aM\/(c.read.length:Int)≠aM\/c.delete<1\/(c.delete>60000/\c.delete≠1099511627776)):Bool);refine aa.cH aC fw [(1,.v (ti aM)),(2,.v (.box [ti c.kind,.sl (aG c.read),ti c.delete])),(33,.v (.bool b))] ?_ ?_
 ·by_cases q1:c.kind< -1
  ·have fI:b=true:=by rw[<-hb];simp[q1]
   simp[tS,q1,fI]
  ·by_cases q2:aM<=c.kind
   ·have fI:b=true:=by rw[<-hb];simp[q2]
    simp[tS,q1,q2,fI]
   ·by_cases q3:(c.read.length:Int)=aM
    ·by_cases q4:fB c.delete
     ·have fI:b=false:=by
       rw[<-hb];simp only[Dm];unfold fB at q4;omega
      simp[tS,q1,q2,q3,q4,fI]
     ·by_cases q6:c.delete=1099511627776
      ·have fI:b=false:=by rw[<-hb];simp only[Dm];omega
       simp[tS,q1,q2,q3,show ¬fB 1099511627776 from by simp[fB],q6,fI]
      ·have fI:b=true:=by
        rw[<-hb];simp only[tD];unfold fB at q4;omega
       simp[tS,q1,q2,q3,q4,q6,fI]
    ·have fI:b=true:=by rw[<-hb];simp[q3]
     simp[tS,q1,q2,q3,fI]
 refine aa.cond rfl (λh=>?_) (λh=>?_)
 ·rw[h]at hb;simp only[tD]at hb;apply aa.ag aC fw [4];simp[UT];apply aa.ret;rw[da λe=>(dd.1 e).1 hb];simp[dm]
 rw[h]at hb;simp only[Dm]at hb;obtain⟨n,hn⟩:=be c.read.length;have hnt:aM=(n:Int):=by omega
 subst hnt;apply aa.skip;simp;apply aa.sq aC fw [1,2,35,36,37];simp[UU];apply aa.block;refine aa.loop (λy:Nat=>⟨DM.look [(1,.v (ti n)),(2,.v (.box [ti c.kind,.sl (aG c.read),ti c.delete])),(35,.v (.sl (aG c.read))),(36,.v (ti n)),(37,.v (ti y))],cJ [],2000,1000,[]⟩)
  (λy=>y<=n/\∀t,t<y->lw c t) (λy=>n-y) 0 (Le.bH (o:=[]) ?_ ?_ ?_ ?_) (by simp) (λy hy=>?_)
 iterate 3(·simp)
 ·simp[hn]
 obtain⟨mf,fW⟩:=hy;apply aa.ag aC fw [1,2,35,36,37,38];simp[UV];apply aa.seq;refine aa.cond rfl (λcU=>?_) (λcU=>?_)
 ·simp at cU;have Md:y<c.read.length:=by omega
  have r1:=cM Md;obtain⟨u,hu⟩:=be (c.read.getD y default);rw[hu]at r1;have kr:lw c y↔¬(((y:Int)=c.kind/\u≠0)\/((y:Int)≠c.kind/\u≠-1/\(u<1\/u>60000))):=by unfold lw;rw[hu]
  obtain⟨kd,hkd⟩:=be c.kind;rw[hkd]at kr⊢;apply aa.skip;simp;apply aa.seq;apply aa.block;apply aa.ag aC fw [1,2,5,6,35,36,37];simp[UW,r1,Md];obtain⟨b2,gm⟩:=be (decide (((y:Int)=kd/\u≠0)\/((y:Int)≠kd/\u≠-1/\(u<1\/u>60000))):Bool);refine aa.cH aC fw [(1,.v (ti n)),(2,.v (.box [ti kd,.sl (aG c.read),ti c.delete])),(35,.v (.sl (aG c.read))),(36,.v (ti n)),(37,.v (ti y)),(64,.v (.bool b2))] ?_ ?_
  ·by_cases q1:(y:Int)=kd
   ·by_cases q2:u=0
    ·have fI:b2=false:=by rw[<-gm];simp[q1,q2]
     simp[ww,q1,q2,fI]
    ·have fI:b2=true:=by rw[<-gm];simp[q1,q2]
     simp[ww,q1,q2,fI]
   ·by_cases q2:u= -1
    ·have fI:b2=false:=by rw[<-gm];simp[q1,q2]
     simp[ww,q1,q2,fI]
    ·by_cases q3:fB u
     ·have fI:b2=false:=by rw[<-gm];simp only[Dm];unfold fB at q3;omega
      simp[ww,q1,q2,q3,fI]
     ·have fI:b2=true:=by rw[<-gm];simp only[tD];unfold fB at q3;omega
      simp[ww,q1,q2,q3,fI]
  refine aa.cond rfl (λh=>?_) (λh=>?_)
  ·rw[h]at gm;simp only[tD]at gm;apply aa.ag aC fw [4];simp[UX];apply aa.ret;rw[da λe=>kr.1 ((dd.1 e).2 y (by simpa using cU)) gm];simp[dm]
  ·rw[h]at gm;simp only[Dm]at gm;apply aa.skip;simp;apply aa.fJ aC fw [1,2,35,36,37];simp[UY];rw[aF (by omega)];refine⟨y+1,Le.bH (o:=[]) ?_ ?_ ?_ ?_,⟨by omega,λi hi=>?_⟩,by omega⟩;iterate 3(·simp)
   ·simp[]
   ·by_cases e:i=y
    ·subst e;exact kr.2 gm
    ·exact fW i (by omega)
 ·apply aa.exit;have GG:y=n:=by
   have:¬y<n:=by simpa using cU
   omega
  simp;apply aa.ag aC fw [4];simp[UZ];apply aa.ret;have:v=true:=by
   rw[<-hv];exact decide_eq_true (dd.2 ⟨hb,λt ht=>fW t (by simp at ht;omega)⟩)
  simp[dm,this]
abbrev ast:DM.Spec:=dh (λts=>∃(k d:Int) (r:bT) (aM:Int),ts=[.agg [ti k,.sl (aG r),ti d],ti aM]/\aM<=1000000000000) (fun|[.agg c,.int _ t]=>.bool (decide (qL (t6 c) t))|_=>.bool false) true
def adH:ay aj (bB [(69,ast)]):=by
 refine ay.cons ay.nil ?_;rintro ts ⟨k,d,r,aM,rfl,h⟩;exact⟨by simpa [cP.enc,t6,dL]using ass ⟨k,r,d⟩ aM h,λ_=>rfl⟩
def asu(c:cP)(aM:Int)(h:aM<=1000000000000):bw aj 68 [.agg c.enc,.box [ti aM]] (.bool (!decide (qL c aM))):=by
 obtain⟨R,hR⟩:=be ((!decide (qL c aM)));rw[hR];have hd:=qg c;obtain⟨k,r,d⟩:=c;simp only[cP.enc]at hd⊢;refine aqR.ok (by simp) (aT ?_);simp;apply aa.ag adH fw [1,2];simp[UQ];apply aa.ag adH fw [3];simp[UR,hd];refine⟨⟨k,d,r,aM,⟨⟨rfl,rfl,rfl⟩,rfl⟩,h⟩, ?_⟩;apply aa.ret;simp[dm];simpa using hR.symm
def YG(l:List cP)(aM:Int)(p:aL->Bool)(hp:∀c,p c.enc= !decide (qL c aM)):(!(cz l).any p)=decide (ll l aM):=by
 rw[Zcb,decide_eq_true_iff];unfold ll;simp only[Xr,ZcB,cz,g9];constructor
 ·intro h i hi;have:=h (l[i].enc) ⟨l[i],SK hi,rfl⟩;rw[hp]at this;have e:l.getD i default=l[i]:=by simp[List.getD,hi]
  rw[e];simpa using this
 ·rintro h x ⟨c,hc,rfl⟩;obtain⟨i,hi,rfl⟩:=If hc;have:=h i hi;have e:l.getD i default=l[i]:=by simp[List.getD,hi]
  rw[e]at this;rw[hp];simp[this]
def asv(l:List cP)(aM:Int)(h:aM<=1000000000000)(hl:l.length<=1000000000):bw aj 44 [.sl (cz l),ti aM] (.bool (decide (ll l aM))):=by
 have Od:=YG l aM (λr=> !decide (qL (t6 r) aM)) (λc=>by rw[qg]);obtain⟨R,hR⟩:=be (decide (ll l aM));rw[hR]at Od⊢;have aC:ay aj (bB [(67,dh (λts=>ts=[.sl (cz l),.fn (.func 68) [.box [ti aM]]]) (λts=>.bool ((cz l).any λr=> !decide (qL (t6 r) aM))) true)]):=by
  refine ay.cons ay.nil ?_;rintro ts rfl;refine⟨asp (cz l) 68 [.box [ti aM]] _ (by simpa [cz]using hl) (λr hr=>?_) (λr hr=>?_),λ_=>rfl⟩
  ·obtain⟨c,_,rfl⟩:=g9.1 hr;exact⟨_,_,_,rfl⟩
  ·obtain⟨c,_,rfl⟩:=g9.1 hr;simp only[qg];exact asu c aM h
 refine aqG.ok (by simp) (aT ?_);simp;apply aa.ag aC fw [0,3];simp[Us];refine aa.lk (o:=[]) (l:=[(0,.v (.sl (cz l))),(3,.v (.box [ti aM]))]) (aY:=1200) (by simp) ?_;apply aa.ag aC fw [4];simp[Ut];apply aa.ret;simp[dm];simpa using Od.symm
def afP(l:bT)(p:aL->Bool)(hp:∀n:Int,p [ti n]= !decide (fB n)):(!(aG l).any p)=decide (∀t,t<l.length->zJ l t):=by
 rw[Zcb];simp only[Xr,ZcB,aG,g9,tD];constructor
 ·intro h i hi;have:=h [ti l[i]] ⟨l[i],SK hi,rfl⟩;rw[hp]at this;have e:l.getD i default=l[i]:=by simp[List.getD,hi]
  unfold zJ;rw[e];have this:fB l[i]:=by simpa using this
  unfold fB at this;omega
 ·rintro h x ⟨c,hc,rfl⟩;obtain⟨i,hi,rfl⟩:=If hc;have:=h i hi;have e:l.getD i default=l[i]:=by simp[List.getD,hi]
  unfold zJ at this;rw[e]at this;have:fB l[i]:=by unfold fB;omega
  rw[hp];simp[this]
def asw(x:Input)(aM:Int)(h:aM<=1000000000):bw aj 27 [x.enc,ti aM] (.bool (decide (P9 x aM))):=by
 have dd:P9 x aM↔(¬(aM<0\/(x.aw.length:Int)>60\/(x.insert.length:Int)≠aM\/x.swap<0\/x.swap>60000\/¬ll x.aw aM))/\∀t,t<aM.toNat->zJ x.insert t:=Iff.rfl;obtain⟨R,hR⟩:=be (decide (P9 x aM));rw[hR];have da:¬P9 x aM->R=false:=λh=>by rw[<-hR];simp[h]
 obtain⟨cs,ci,sw⟩:=x;simp only at dd;have Od:=afP ci (λr=> !decide (fB (dL (r.headD (.bool false))))) (λn=>by simp[dL]);obtain⟨A,hA⟩:=be (((aG ci).any λr=> !decide (fB (dL (r.headD (.bool false))))));rw[hA]at Od;obtain⟨V,hV⟩:=be (decide (ll cs aM));have aC:ay aj (bB [(44,dh (λts=>ts=[.sl (cz cs),ti aM]/\cs.length<=1000000000) (λ_=>.bool V) true),(42,dh (λts=>ts=[.sl (aG ci),.fn (.func 43) []]/\ci.length<=1000000000) (λts=>.bool A) true),(41,ali)]):=by
  refine ay.cons (ay.cons K8 ?_) ?_
  ·rintro ts ⟨rfl,hl⟩;rw[<-hA];refine⟨asn (aG ci) 43 [] _ (by simpa using hl) (λr hr=>?_) (λr hr=>?_),λ_=>rfl⟩
   ·obtain⟨c,_,rfl⟩:=g9.1 hr;exact⟨_,rfl⟩
   ·obtain⟨c,_,rfl⟩:=g9.1 hr;simpa [dL]using asr c
  ·rintro ts ⟨rfl,h2⟩;rw[<-hV];exact⟨asv cs aM (by omega) h2,λ_=>rfl⟩
 refine aqq.ok (by simp) (aT ?_);simp[Input.enc];apply aa.ag aC fw [1,2];simp[T2];refine aa.lk (o:=[]) (l:=[(1,.v (ti aM)),(2,.v (.box [.sl (cz cs),.sl (aG ci),ti sw]))]) (aY:=1200) (by simp) ?_;apply aa.seq;obtain⟨b,hb⟩:=be (decide (aM<0\/(cs.length:Int)>60\/(ci.length:Int)≠aM\/sw<0\/sw>60000):Bool);refine aa.cH aC fw [(1,.v (ti aM)),(2,.v (.box [.sl (cz cs),.sl (aG ci),ti sw])),(30,.v (.bool b))] ?_ ?_
 ·by_cases q1:aM<0
  ·have fI:b=true:=by rw[<-hb];simp[q1]
   simp[tR,q1,fI]
  ·by_cases q2:60<(cs.length:Int)
   ·have fI:b=true:=by rw[<-hb];simp[q2]
    simp[tR,q1,q2,fI]
   ·by_cases q3:(ci.length:Int)=aM
    ·by_cases q4:sw=0
     ·have fI:b=false:=by rw[<-hb];simp only[Dm];omega
      simp[tR,q1,q2,q3,q4,fI]
     ·by_cases q5:fB sw
      ·have fI:b=false:=by rw[<-hb];simp only[Dm];unfold fB at q5;omega
       simp[tR,q1,q2,q3,q4,q5,fI]
      ·have fI:b=true:=by rw[<-hb];simp only[tD];unfold fB at q5;omega
       simp[tR,q1,q2,q3,q4,q5,fI]
    ·have fI:b=true:=by rw[<-hb];simp[q3]
     simp[tR,q1,q2,q3,fI]
 refine aa.cond rfl (λhbt=>?_) (λhbt=>?_)
 ·rw[hbt]at hb;have hb:=qW hb;apply aa.ag aC fw [4];simp[T3];apply aa.ret;rw[da λe=>(dd.1 e).1 (by omega)];simp[dm]
 rw[hbt]at hb;have hb:=wQ hb;apply aa.skip;simp;have hl:ci.length<=1000000000:=by omega
 have Cm:cs.length<=1000000000:=by omega
 have hR2:R=(!A&&V):=by
  rw[<-hR,<-hV,Od,Zcb,decide_eq_true_iff,mD,decide_eq_true_iff,decide_eq_true_iff,dd];constructor
  ·rintro⟨h1,h2⟩;refine⟨λt ht=>h2 t (by omega), ?_⟩;by_cases e:ll cs aM
   ·exact e
   ·exact eB (by simp[e]) h1
  ·rintro⟨h1,h2⟩;exact⟨by simp only[h2,not_true_eq_false,ld];exact hb,λt ht=>h1 t (by omega)⟩
 refine aa.cH aC fw [(4,.v (.bool R))] ?_ ?_
 ·cases A with
  |true=>simp[Ko,hl,hR2]
  |false=>simp[Ko,hl,Cm,hR2]
 apply aa.ret;simp[dm]
def IK(nn x:Int):Prop:=0<=x/\x<nn
instance(nn x:Int):Decidable (IK nn x):=by unfold IK;infer_instance
abbrev nB(n:aD):T:=.box [ti n.aM,ti n.ak,ti n.start,.sl (aW n.au)]
def asx(n:aD)(x:Int):bw aj 65 [ti x,nB n] (.bool (decide (IK n.ak x))):=by
 obtain⟨R,hR⟩:=be (decide (IK n.ak x));rw[hR];refine aqL.ok (by simp) (aT ?_);simp;apply aa.ag cL fw [0,1];simp[UF];refine aa.cH cL fw [(3,.v (.bool R))] ?_ ?_
 ·by_cases q1:0<=x
  ·by_cases q2:x<n.ak
   ·have:R=true:=by rw[<-hR];simp[IK,q1,q2]
    simp[DR,q1,q2,this]
   ·have:R=false:=by rw[<-hR];simp[IK,q2]
    simp[DR,q1,q2,this]
  ·have:R=false:=by rw[<-hR];simp[IK,q1]
   simp[DR,q1,this]
 apply aa.ret;simp[dm]
def asy(n:aD)(r:dq):bw aj 40 [n.enc,.agg r.enc] (.bool (decide (gV n r/\kindOk n r))):=by
 obtain⟨R,hR⟩:=be (decide (gV n r/\kindOk n r));rw[hR];have aC:ay aj (bB [(65,dh (λts=>∃x:Int,ts=[ti x,nB n]) (λts=>match ts with|[.int _ x,_]=>.bool (decide (IK n.ak x))|_=>.bool false) true)]):=by
  refine ay.cons ay.nil ?_;rintro ts ⟨x,rfl⟩;exact⟨asx n x,λ_=>rfl⟩
 obtain⟨nt,nn,ns,au⟩:=n;obtain⟨k,h,a,b,p,o⟩:=r;simp only[gV,kindOk,nB]at hR aC;refine aqy.ok (by simp) (aT ?_);simp[aD.enc,dq.enc];apply aa.ag aC fw [2,3];simp[Ug];refine aa.lk (o:=[]) (l:=[(2,.v (.box [ti nt,ti nn,ti ns,.sl (aW au)])),(3,.v (.box [ti k,ti h,ti a,ti b,ti p,ti o]))]) (aY:=1200) (by simp) ?_;apply aa.ag aC fw [2,3,5];simp[Uh];apply aa.seq;obtain⟨c1,b8⟩:=be (decide (h<0\/h>=nn\/p<0\/p>1000\/o< -1):Bool);refine aa.cH aC fw [(2,.v (.box [ti nt,ti nn,ti ns,.sl (aW au)])),(3,.v (.box [ti k,ti h,ti a,ti b,ti p,ti o])),(5,.v (.fn (.func 65) [.box [ti nt,ti nn,ti ns,.sl (aW au)]])),(26,.v (.bool c1))] ?_ ?_
 ·by_cases q1:IK nn h
  ·by_cases q2:p<0
   ·have:c1=true:=by rw[<-b8];simp[q2]
    simp[wv,q1,q2,this]
   ·by_cases q3:1000<p
    ·have:c1=true:=by rw[<-b8];simp[q3]
     simp[wv,q1,q2,q3,this]
    ·by_cases q4:o< -1
     ·have:c1=true:=by rw[<-b8];simp[q4]
      simp[wv,q1,q2,q3,q4,this]
     ·have:c1=false:=by rw[<-b8];simp only[Dm];unfold IK at q1;omega
      simp[wv,q1,q2,q3,q4,this]
  ·have:c1=true:=by rw[<-b8];simp only[tD];unfold IK at q1;omega
   simp[wv,q1,this]
 refine aa.cond rfl (λg=>?_) (λg=>?_)
 ·rw[g]at b8;have hc:=qW b8;have:R=false:=by rw[<-hR];simp only[Dm];exact λe=>e.1 hc
  apply aa.ag aC fw [4];simp[Ui];apply aa.ret;simp[dm,this]
 rw[g]at b8;have hc:=wQ b8;apply aa.skip;simp;apply aa.sq aC fw [2,3,5,28];simp[Uj];apply aa.block;apply aa.ag aC fw [2,3,5,28,29];simp[Uk];refine aa.cond rfl (λg=>?_) (λg=>?_)
 ·have g:k=1:=by simpa using g
  subst g;refine aa.cH aC fw [(4,.v (.bool R))] ?_ ?_
  ·by_cases q1:a=0
   ·by_cases q2:b=0
    ·have:R=true:=by rw[<-hR];simp only[tD];refine⟨hc, ?_⟩;simp[q1,q2]
     simp[DP,q1,q2,this]
    ·have:R=false:=by rw[<-hR];simp[q2]
     simp[DP,q1,q2,this]
   ·have:R=false:=by rw[<-hR];simp[q1]
    simp[DP,q1,this]
  apply aa.ret;simp[dm]
 have k1:k≠1:=by simpa using g
 apply aa.ag aC fw [2,3,5,28,39];simp[Ul];refine aa.cond rfl (λg=>?_) (λg=>?_)
 ·have g:k=2:=by simpa using g
  subst g;refine aa.cH aC fw [(4,.v (.bool R))] ?_ ?_
  ·by_cases q1:0<=a
   ·by_cases q2:a<nt
    ·by_cases q3:b=0
     ·have:R=true:=by rw[<-hR];simp only[tD];refine⟨hc, ?_⟩;simp[q1,q2,q3]
      simp[zT,q1,q2,q3,this]
     ·have:R=false:=by rw[<-hR];simp[q3]
      simp[zT,q1,q2,q3,this]
    ·have:R=false:=by rw[<-hR];simp[q2]
     simp[zT,q1,q2,this]
   ·have:R=false:=by rw[<-hR];simp[q1]
    simp[zT,q1,this]
  apply aa.ret;simp[dm]
 have k2:k≠2:=by simpa using g
 apply aa.ag aC fw [2,3,5,28,56];simp[Um];refine aa.cond rfl (λg=>?_) (λg=>?_)
 ·have g:k=3:=by simpa using g
  subst g;refine aa.cH aC fw [(4,.v (.bool R))] ?_ ?_
  ·by_cases q1:IK nn a
   ·have q1':=q1;unfold IK at q1';by_cases q3:b=0
    ·have:R=true:=by rw[<-hR];simp only[tD];refine⟨hc, ?_⟩;simp[q1'.1,q1'.2,q3]
     simp[zU,q1,q3,this]
    ·have:R=false:=by rw[<-hR];simp[q3]
     simp[zU,q1,q3,this]
   ·have:R=false:=by
     rw[<-hR];unfold IK at q1;simp only[Dm];rintro⟨_,h2⟩;simp at h2;omega
    simp[zU,q1,this]
  apply aa.ret;simp[dm]
 have k3:k≠3:=by simpa using g
 apply aa.ag aC fw [2,3,5,28,67];simp[M7];refine aa.cond rfl (λg=>?_) (λg=>?_)
 ·have g:k=4:=by simpa using g
  subst g;refine aa.cH aC fw [(4,.v (.bool R))] ?_ ?_
  ·by_cases q1:IK nn a
   ·have q1':=q1;unfold IK at q1';by_cases q3:IK nn b
    ·have q3':=q3;unfold IK at q3';have:R=true:=by rw[<-hR];simp only[tD];refine⟨hc, ?_⟩;simp[q1'.1,q1'.2,q3'.1,q3'.2]
     simp[zV,q1,q3,this]
    ·have:R=false:=by
      rw[<-hR];unfold IK at q3;simp only[Dm];rintro⟨_,h2⟩;simp at h2;omega
     simp[zV,q1,q3,this]
   ·have:R=false:=by
     rw[<-hR];unfold IK at q1;simp only[Dm];rintro⟨_,h2⟩;simp at h2;omega
    simp[zV,q1,this]
  apply aa.ret;simp[dm]
 have k4:k≠4:=by simpa using g
 apply aa.skip;simp;apply aa.ag aC fw [4];simp[M8];apply aa.ret;have:R=false:=by rw[<-hR];simp[k1,k2,k3,k4]
 simp[dm,this]
def qU(r:dq):kC r.enc=r:=by
 obtain⟨a,b,c,d,e,f⟩:=r;simp[kC,dq.enc,dL]
def asA(n:aD)(r:dq):bw aj 39 [.agg r.enc,nB n] (.bool (!decide (gV n r/\kindOk n r))):=by
 obtain⟨R,hR⟩:=be ((decide (gV n r/\kindOk n r)));have aC:ay aj (bB [(40,dh (λts=>ts=[n.enc,.agg r.enc]) (λts=>.bool R) true)]):=by
  refine ay.cons ay.nil ?_;rintro ts rfl;rw[<-hR];exact⟨asy n r,λ_=>rfl⟩
 rw[hR];obtain⟨nt,nn,ns,au⟩:=n;obtain⟨k,h,a,b,p,o⟩:=r;simp only[aD.enc,dq.enc]at aC;refine aqw.ok (by simp) (aT ?_);simp[dq.enc];apply aa.ag aC fw [1,2];simp[Ue];apply aa.ag aC fw [3];simp[Uf];apply aa.ret;simp[dm]
def YH(n:aD)(l:Dl)(p:aL->Bool)(hp:∀r,p r.enc= !decide (gV n r/\kindOk n r)):(!(aW l).any p)=decide (∀i,i<l.length->gV n (l.getD i default)/\kindOk n (l.getD i default)):=by
 rw[Zcb,decide_eq_true_iff];simp only[Xr,ZcB,aW,g9];constructor
 ·intro h i hi;have:=h (l[i].enc) ⟨l[i],SK hi,rfl⟩;rw[hp]at this;have e:l.getD i default=l[i]:=by simp[List.getD,hi]
  rw[e];simpa using this
 ·rintro h x ⟨c,hc,rfl⟩;obtain⟨i,hi,rfl⟩:=If hc;have:=h i hi;have e:l.getD i default=l[i]:=by simp[List.getD,hi]
  rw[e]at this;rw[hp];simp[this]
def adI(n:aD):bw aj 26 [n.enc] (.bool (decide (dX n))):=by
 have dd:dX n↔qV n/\∀i,i<n.au.length->gV n (n.au.getD i default)/\kindOk n (n.au.getD i default):=Iff.rfl;obtain⟨R,hR⟩:=be (decide (dX n));rw[hR];have Od:=YH n n.au (λr=> !decide (gV n (kC r)/\kindOk n (kC r))) (λr=>by rw[qU]);obtain⟨A,hA⟩:=be (((aW n.au).any λr=> !decide (gV n (kC r)/\kindOk n (kC r))));have aC:ay aj (bB [(38,dh (λts=>ts=[.sl (aW n.au),.fn (.func 39) [nB n]]/\n.au.length<=1000000000) (λts=>.bool A) true)]):=by
  refine ay.cons ay.nil ?_;rintro ts ⟨rfl,hl⟩;rw[<-hA];refine⟨ask (aW n.au) 39 [nB n] _ (by simpa [aW]using hl) (λr hr=>?_) (λr hr=>?_),λ_=>rfl⟩
  ·obtain⟨c,_,rfl⟩:=g9.1 hr;exact⟨_,_,_,_,_,_,rfl⟩
  ·obtain⟨c,_,rfl⟩:=g9.1 hr;simp only[qU];exact asA n c
 rw[hA]at Od;have A1:(aW n.au).length=n.au.length:=by simp[aW]
 have anm:qV n↔¬(n.aM<0\/n.aM>120\/n.ak<1\/n.ak>1000\/n.start<0\/n.start>=n.ak\/(n.au.length:Int)>600):=Iff.rfl;have hR2:R=(decide (qV n)&& !A):=by
  rw[<-hR,Od,Zcb,decide_eq_true_iff,mD,decide_eq_true_iff,decide_eq_true_iff];exact dd
 clear dd;obtain⟨nt,nn,ns,au⟩:=n;simp only at anm A1 aC;refine aqo.ok (by simp) (aT ?_);simp[aD.enc];apply aa.ag aC fw [1];simp[TZ];refine aa.lk (o:=[]) (l:=[(1,.v (.box [ti nt,ti nn,ti ns,.sl (aW au)]))]) (aY:=1200) (by simp) ?_;apply aa.seq;obtain⟨b,hb⟩:=be (decide (nt<0\/nt>120\/nn<1\/nn>1000\/ns<0\/ns>=nn\/(au.length:Int)>600):Bool);refine aa.cH aC fw [(1,.v (.box [ti nt,ti nn,ti ns,.sl (aW au)])),(38,.v (.bool b))] ?_ ?_
 ·by_cases q1:nt<0
  ·have fI:b=true:=by rw[<-hb];simp[q1]
   simp[px,q1,fI]
  ·by_cases q2:120<nt
   ·have fI:b=true:=by rw[<-hb];simp[q2]
    simp[px,q1,q2,fI]
   ·by_cases q3:nn<1
    ·have fI:b=true:=by rw[<-hb];simp[q3]
     simp[px,q1,q2,q3,fI]
    ·by_cases q4:1000<nn
     ·have fI:b=true:=by rw[<-hb];simp[q4]
      simp[px,q1,q2,q3,q4,fI]
     ·by_cases q5:ns<0
      ·have fI:b=true:=by rw[<-hb];simp[q5]
       simp[px,q1,q2,q3,q4,q5,fI]
      ·by_cases q6:nn<=ns
       ·have fI:b=true:=by rw[<-hb];simp[q6]
        simp[px,q1,q2,q3,q4,q5,q6,fI]
       ·by_cases q7:600<(au.length:Int)
        ·have fI:b=true:=by rw[<-hb];simp[q7]
         simp[px,q1,q2,q3,q4,q5,q6,q7,A1,fI]
        ·have fI:b=false:=by rw[<-hb];simp only[Dm];omega
         simp[px,q1,q2,q3,q4,q5,q6,q7,A1,fI]
 refine aa.cond rfl (λg=>?_) (λg=>?_)
 ·rw[g]at hb;have hb:=qW hb;have:decide (qV ⟨nt,nn,ns,au⟩)=false:=by simp only[Dm,anm];exact λh=>h hb
  apply aa.ag aC fw [2];simp[T0];apply aa.ret;simp[dm,hR2,this]
 ·rw[g]at hb;have hb:=wQ hb;have:decide (qV ⟨nt,nn,ns,au⟩)=true:=by simp only[tD,anm];exact hb
  have hl:au.length<=1000000000:=by omega
  apply aa.skip;simp;apply aa.ag aC fw [2];simp[T1,hl];apply aa.ret;simp[dm,hR2,this]
section
variable{ci:bT}
abbrev alj(n:aD):DM.Spec:=dh (λts=>ts=[n.enc]) (λ_=>.bool (decide (dX n))) true
def ann(n:aD):ay aj (bB [(26,alj n)]):=by
 refine ay.cons ay.nil ?_;rintro ts rfl;exact⟨adI n,λ_=>rfl⟩
def asB(n:aD)(ci:bT)(hl:ci.length<=1000000000):bw aj 70 [n.enc,.sl (aG ci)] (.bool (decide (dX n/\d9 n ci))):=by
 have aC:=ann n;obtain⟨v,hv⟩:=be (decide (dX n/\d9 n ci));rw[hv];obtain⟨nt,nn,ns,au⟩:=n;have dd:d9 ⟨nt,nn,ns,au⟩ ci↔(ci.length:Int)=nt/\∀i,i<ci.length->x9 ci i:=Iff.rfl;have da:¬(dX ⟨nt,nn,ns,au⟩/\d9 ⟨nt,nn,ns,au⟩ ci)->v=false:=λh=>by rw[<-hv];simp[h]
 simp only[alj,aD.enc]at aC;refine aqV.ok (by simp) (aT ?_);simp[aD.enc];apply aa.ag aC fw [1,2];simp[U0];refine aa.lk (o:=[]) (l:=[(1,.v (.sl (aG ci))),(2,.v (.box [ti nt,ti nn,ti ns,.sl (aW au)]))]) (aY:=1200) (by simp) ?_;apply aa.seq;obtain⟨c1,b8⟩:=be (decide (¬dX ⟨nt,nn,ns,au⟩\/(ci.length:Int)≠nt):Bool);refine aa.cH aC fw [(1,.v (.sl (aG ci))),(2,.v (.box [ti nt,ti nn,ti ns,.sl (aW au)])),(16,.v (.bool c1))] ?_ ?_
 ·by_cases q1:dX ⟨nt,nn,ns,au⟩
  ·by_cases q2:(ci.length:Int)=nt
   ·have:c1=false:=by rw[<-b8];simp[q1,q2]
    simp[DS,q1,q2,this]
   ·have:c1=true:=by rw[<-b8];simp[q2]
    simp[DS,q1,q2,this]
  ·have:c1=true:=by rw[<-b8];simp[q1]
   simp[DS,q1,this]
 refine aa.cond rfl (λg=>?_) (λg=>?_)
 ·rw[g]at b8;have b8:=qW b8;apply aa.ag aC fw [4];simp[U1];apply aa.ret;rw[da (λh=>b8.elim (λq=>q h.1) (λq=>q (dd.1 h.2).1))];simp[dm]
 rw[g]at b8;have b8:=wQ b8;simp only[Zc7,Classical.not_not]at b8;obtain⟨Cl,nU⟩:=b8;apply aa.skip;simp;apply aa.sq aC fw [1,17,18,19];simp[U2];apply aa.block;refine aa.loop (λy:Nat=>⟨DM.look [(17,.v (.sl (aG ci))),(18,.v (ti ci.length)),(19,.v (ti y))],cJ [],2000,1000,[]⟩)
  (λy=>y<=ci.length/\∀i,i<y->x9 ci i) (λy=>ci.length-y) 0 (Le.bH (o:=[]) ?_ ?_ ?_ ?_) (by simp) (λy hy=>?_)
 iterate 4(·simp)
 obtain⟨mf,fW⟩:=hy;apply aa.ag aC fw [17,18,19,20];simp[U3];apply aa.seq;refine aa.cond rfl (λcU=>?_) (λcU=>?_)
 ·have cU:y<ci.length:=by simpa using cU
  have r1:=cM cU;obtain⟨u,hu⟩:=be (ci.getD y default);rw[hu]at r1;have kr:x9 ci y↔¬(u<1\/u>60000):=by unfold x9;rw[hu]
  apply aa.skip;simp;apply aa.seq;apply aa.block;apply aa.ag aC fw [6,17,18,19];simp[U4,r1,cU];obtain⟨b2,gm⟩:=be (decide (u<1\/u>60000):Bool);refine aa.cH aC fw [(17,.v (.sl (aG ci))),(18,.v (ti ci.length)),(19,.v (ti y)),(28,.v (.bool b2))] ?_ ?_
  ·by_cases q1:u<1
   ·have fI:b2=true:=by rw[<-gm];simp[q1]
    simp[DT,q1,fI]
   ·by_cases q2:60000<u
    ·have fI:b2=true:=by rw[<-gm];simp[q2]
     simp[DT,q1,q2,fI]
    ·have fI:b2=false:=by rw[<-gm];simp only[Dm];omega
     simp[DT,q1,q2,fI]
  refine aa.cond rfl (λh=>?_) (λh=>?_)
  ·rw[h]at gm;have gm:=qW gm;apply aa.ag aC fw [4];simp[U5];apply aa.ret;rw[da λe=>kr.1 ((dd.1 e.2).2 y cU) gm];simp[dm]
  ·rw[h]at gm;have gm:=wQ gm;apply aa.skip;simp;apply aa.fJ aC fw [17,18,19];simp[U6];rw[aF (by omega)];refine⟨y+1,Le.bH (o:=[]) ?_ ?_ ?_ ?_,⟨by omega,λi hi=>?_⟩,by omega⟩;iterate 4(·simp)
   ·by_cases e:i=y
    ·subst e;exact kr.2 gm
    ·exact fW i (by omega)
 ·have GG:y=ci.length:=by
   have:¬y<ci.length:=by simpa using cU
   omega
  subst GG;apply aa.exit;simp;apply aa.ag aC fw [4];simp[U7];apply aa.ret;have:v=true:=by
   rw[<-hv];exact decide_eq_true ⟨Cl,dd.2 ⟨nU,fW⟩⟩
  simp[dm,this]
def asC(n:aD)(ci:bT)(hn:AP n)(hp:d9 n ci):bw aj 72 [n.enc,.sl (aG ci)] (.agg [ti n.ak,.sl (bn (kR n ci))]):=by
 obtain⟨nt,nn,ns,au⟩:=n;obtain⟨n1,n2,n3,n4⟩:=hn;obtain⟨p1,p2⟩:=hp;simp only[kR]at n1 n2 n3 n4 p1 p2⊢;have aC:=cL;refine aqX.ok (by simp) (aT ?_);simp[aD.enc];apply aa.ag aC fw [1,2,4];simp[U8];refine aa.lk (o:=[(1005,.box [.v (ti 0),.aX])]) (l:=[(1,.v (.sl (aG ci))),(2,.v (.box [ti nt,ti nn,ti ns,.sl (aW au)])),(4,.ptr 1005 0)]) (aY:=1200) (by simp) ?_;apply aa.ag aC fw [1,2,4,5];simp[U9];refine aa.lk (o:=[(1005,.box [.v (ti 0),.aX]),(1206,.box [.v (ti nn),.aX])]) (l:=[(1,.v (.sl (aG ci))),(2,.v (.box [ti nt,ti nn,ti ns,.sl (aW au)])),(4,.ptr 1005 0),(5,.ptr 1206 0)]) (aY:=1400) (by simp) ?_;refine aa.le (Le.DH 1206 1 157 (sz:=5) (cs:=[.v (ti nn),.aX]) (by omega) (by simp) rfl) ?_;rw[lj,lj];apply aa.sq aC fw [1,4,5,13,14,15];simp[Va];apply aa.block;refine aa.loop (λy:Nat=>⟨DM.look [(1,.v (.sl (aG ci))),(4,.ptr 1005 0),(5,.ptr 1206 0),(13,.v (.sl (aW au))),(14,.v (ti au.length)),(15,.v (ti y))],cJ [(1005,.box [.v (ti 0),.aX]),(1206,.box [.v (ti nn),.bC 1400 0]),(1400,.bE 0 157 5 (bn ((au.map (fM ci)).take y)))],1600,1000,[]⟩)
  (λy=>y<=au.length) (λy=>au.length-y) 0 (Le.bH ?_ ?_ ?_ ?_) (by simp) (λy hy=>?_)
 ·simp
 ·simp
 ·simp[bn]
 ·simp[aW]
 apply aa.ag aC fw [1,4,5,13,14,15,16];simp[Vb];apply aa.seq;refine aa.cond rfl (λcU=>?_) (λcU=>?_)
 ·have cU:y<au.length:=by simpa using cU
  have rr:=lW cU;have hS:bn ((au.map (fM ci)).take (y+1))=bn ((au.map (fM ci)).take y)++[(fM ci (au.getD y default)).enc]:=by
   rw[<-List.map_take,c8 cU,JI,bn,JI,Zcx];rfl
  obtain⟨⟨rk,rh,ra,rb,rp,rg⟩,hr⟩:=be (au.getD y default);rw[hr]at rr hS;have kr:=n4 ⟨rk,rh,ra,rb,rp,rg⟩ (by rw[<-hr];exact bu cU);obtain⟨q1,q2,q3,q4,q5⟩:=kr;simp only at q1 q2 q3 q4 q5;have dN:(bn ((au.map (fM ci)).take y)).length=y:=by simp[bn];omega
  obtain⟨⟨eh,et,ec,e0,e1⟩,hE⟩:=be (fM ci ⟨rk,rh,ra,rb,rp,rg⟩);rw[hE]at hS;simp only[bI.enc]at hS;have A1:(aW au).length=au.length:=by simp[aW]
  apply aa.skip;simp;apply aa.seq;apply aa.block;apply aa.ag aC fw [1,4,5,7,13,14,15];simp[Vc,cU,rr,A1,dq.enc];refine aa.lk (o:=[(1005,.box [.v (ti 0),.aX]),(1206,.box [.v (ti nn),.bC 1400 0]),(1400,.bE 0 157 5 (bn ((au.map (fM ci)).take y)))]) (l:=[(1,.v (.sl (aG ci))),(4,.ptr 1005 0),(5,.ptr 1206 0),(13,.v (.sl (aW au))),(14,.v (ti au.length)),(15,.v (ti y)),(7,.v (.box [ti rk,ti rh,ti ra,ti rb,ti rp,ti rg]))]) (aY:=2400) (by simp) ?_;apply aa.ag aC fw [1,4,5,7,8,13,14,15];simp[Vd];refine aa.seq (aa.to ⟨DM.look [(1,.v (.sl (aG ci))),(4,.ptr 1005 0),(5,.ptr 1206 0),(13,.v (.sl (aW au))),(14,.v (ti au.length)),(15,.v (ti y)),(8,.v (.box [ti eh,.sl (aG et),ti ec,ti e0,ti e1]))],cJ [(1005,.box [.v (ti 0),.aX]),(1206,.box [.v (ti nn),.bC 1400 0]),(1400,.bE 0 157 5 (bn ((au.map (fM ci)).take y)))],4000,1000,[]⟩ ?_ ?_)
  ·apply aa.ag aC fw [1,4,5,7,8,13,14,15,25];simp[Ve];apply aa.block;apply aa.ag aC fw [1,4,5,7,8,13,14,15,25,26];simp[Vf];refine aa.cond rfl (λg=>?_) (λg=>?_)
   ·have g:rk=2:=by simpa using g
    have PA:0<=ra/\ra<ci.length:=by omega
    obtain⟨a,rfl⟩:=kK PA.1;have oQ:a<ci.length:=by omega
    have ri:=cM oQ;have hpi:=p2 a oQ;unfold x9 at hpi;obtain⟨x,hx⟩:=be (ci.getD a default);rw[hx]at ri hpi;have KE:(⟨rh,[],rp+x,0,0⟩:bI)=⟨eh,et,ec,e0,e1⟩:=by rw[<-hE];simp[fM,jJ,g];exact hx.symm
    simp only[bI.mk.injEq]at KE;obtain⟨rfl,rfl,rfl,rfl,rfl⟩:=KE;apply aa.fJ aC fw [1,4,5,8,13,14,15];simp[Vg,oQ,ri,aF (x:=rp+x) (by omega)];refine Le.trans (Le.bH (o:=[(1005,.box [.v (ti 0),.aX]),(1206,.box [.v (ti nn),.bC 1400 0]),(1400,.bE 0 157 5 (bn ((au.map (fM ci)).take y))),(2409,.box [.v (ti rh),.v (.sl []),.v (ti (rp+x)),.v (ti 0),.v (ti 0)])]) (l:=[(1,.v (.sl (aG ci))),(4,.ptr 1005 0),(5,.ptr 1206 0),(13,.v (.sl (aW au))),(14,.v (ti au.length)),(15,.v (ti y)),(8,.ptr 2409 0)]) (aY:=3600) ?_ ?_ ?_ ?_) (Le.bH ?_ ?_ ?_ ?_);iterate 7(·simp)
    ·simp[aG]
   have k2:¬rk=2:=by simpa using g
   apply aa.ag aC fw [1,4,5,7,8,13,14,15,25,37];simp[Vh];refine aa.cond rfl (λg=>?_) (λg=>?_)
   ·have g:rk=3:=by simpa using g
    have KE:(⟨rh,[ra],rp,0,0⟩:bI)=⟨eh,et,ec,e0,e1⟩:=by rw[<-hE];simp[fM,jJ,g]
    simp only[bI.mk.injEq]at KE;obtain⟨rfl,rfl,rfl,rfl,rfl⟩:=KE;apply aa.fJ aC fw [1,4,5,8,13,14,15];simp[M9,gn];refine Le.bH ?_ ?_ ?_ ?_;iterate 3(·simp)
    ·simp[aG]
   have k3:¬rk=3:=by simpa using g
   apply aa.ag aC fw [1,4,5,7,8,13,14,15,43];simp[Na];refine aa.cond rfl (λg=>?_) (λg=>?_)
   ·have g:rk=4:=by simpa using g
    have KE:(⟨rh,[ra,rb],rp,0,0⟩:bI)=⟨eh,et,ec,e0,e1⟩:=by rw[<-hE];simp[fM,jJ,g]
    simp only[bI.mk.injEq]at KE;obtain⟨rfl,rfl,rfl,rfl,rfl⟩:=KE;apply aa.fJ aC fw [1,4,5,8,13,14,15];simp[Nb,gn];refine Le.bH ?_ ?_ ?_ ?_;iterate 3(·simp)
    ·simp[aG]
   have k4:¬rk=4:=by simpa using g
   have KE:(⟨rh,[],rp,0,0⟩:bI)=⟨eh,et,ec,e0,e1⟩:=by rw[<-hE];simp[fM,jJ,k2,k3,k4]
   simp only[bI.mk.injEq]at KE;obtain⟨rfl,rfl,rfl,rfl,rfl⟩:=KE;apply aa.skip;simp;refine Le.trans (Le.bH (o:=[(1005,.box [.v (ti 0),.aX]),(1206,.box [.v (ti nn),.bC 1400 0]),(1400,.bE 0 157 5 (bn ((au.map (fM ci)).take y))),(2409,.box [.v (ti rh),.v (.sl []),.v (ti (rp)),.v (ti 0),.v (ti 0)])]) (l:=[(1,.v (.sl (aG ci))),(4,.ptr 1005 0),(5,.ptr 1206 0),(13,.v (.sl (aW au))),(14,.v (ti au.length)),(15,.v (ti y)),(8,.ptr 2409 0)]) (aY:=3600) ?_ ?_ ?_ ?_) (Le.bH ?_ ?_ ?_ ?_);iterate 7(·simp)
   ·simp[aG]
  simp;apply aa.fJ aC fw [1,4,5,13,14,15];simp[Nc,gn,dR,dN];repeat (refine⟨by omega, ?_⟩)
  apply aa.fJ aC fw [1,4,5,13,14,15];simp[Nd];rw[aF (x:=(y:Int)+1) (by omega)];refine⟨y+1,Le.bH ?_ ?_ ?_ ?_,by omega,by omega⟩
  ·simp
  ·simp
  ·simp[hS]
  ·simp
 ·have fW:y=au.length:=by simp at cU;omega
  subst fW;rw[show(au.map (fM ci)).take au.length=au.map (fM ci)from Xd (by simp)];apply aa.exit;simp;apply aa.ag aC fw [4];simp[Nf];apply aa.ret;simp[Ng]
def G1{n:aD}(hn:dX n)(hp:d9 n ci):Kn.hE n.ak (kR n ci):=by
 have h:=GH hn hp;have h2:=hn.ok;refine⟨h.1,h2.2.1,by simp only[kR,XP];have:=h2.2.2.1;omega,λe he=>⟨h.2.2.2 e he, ?_⟩⟩;simp only[kR,g9]at he;obtain⟨r,_,rfl⟩:=he;exact GD r
def asD(n:aD)(ci:bT)(hl:ci.length<=1000000000):bw aj 45 [n.enc,.sl (aG ci)] (.sl (bG (eI n ci))):=by
 obtain⟨R,hR⟩:=be (eI n ci);rw[hR];unfold eI at hR;obtain⟨c1,b8⟩:=be (decide (dX n/\d9 n ci));have t70:=asB n ci hl;rw[b8]at t70;have adJ:ay aj (bB [(70,dh (λts=>ts=[n.enc,.sl (aG ci)]) (λ_=>.bool c1) true)]):=by
  refine ay.cons ay.nil ?_;rintro ts rfl;exact⟨t70,λ_=>rfl⟩
 cases c1 with
 |false=>
  rw[aZ (wQ b8)]at hR;subst hR;obtain⟨nt,nn,ns,au⟩:=n;simp only[aD.enc]at adJ;refine ajy.ok (by simp) (aT ?_);simp[aD.enc];apply aa.ag adJ fw [1,2];simp[Kp];refine aa.lk (o:=[]) (l:=[(1,.v (.sl (aG ci))),(2,.v (.box [ti nt,ti nn,ti ns,.sl (aW au)]))]) (aY:=1200) (by simp) ?_;apply aa.sq adJ fw [1,2,10];simp[Kq];refine aa.cond rfl (λg=>?_) (λg=>by simp at g);apply aa.ag adJ fw [4];simp[Uu];apply aa.ret;simp[dm]
 |true=>
  have hv:=qW b8;rw[cF hv]at hR;have hg:=G1 hv.1 hv.2;have t71:=Kn.asf hg;rw[hR]at t71;have t72:=asC n ci hv.1.ok hv.2;obtain⟨E,hE⟩:=be (Kn.Rk (Kn.stF n.ak (kR n ci)) (kR n ci) n.ak.toNat (kR n ci).length);rw[hE]at t71;obtain⟨es,qK⟩:=be (kR n ci);rw[qK]at t71 t72;have aC:ay aj (bB [(71,dh (λts=>ts=[.agg [ti n.ak,.sl (bn es)]]) (λ_=>.ew [.sl (bG R),.sl (aG E)]) false),(72,dh (λts=>ts=[n.enc,.sl (aG ci)]) (λ_=>.agg [ti n.ak,.sl (bn es)]) false),(70,dh (λts=>ts=[n.enc,.sl (aG ci)]) (λ_=>.bool true) true)]):=by
   refine ay.cons (ay.cons adJ ?_) ?_
   ·rintro ts rfl;exact⟨t72,λh=>by cases h⟩
   ·rintro ts rfl;exact⟨t71,λh=>by cases h⟩
  clear hR hE qK t71 t72 hg t70;obtain⟨nt,nn,ns,au⟩:=n;simp only[aD.enc]at aC;refine ajy.ok (by simp) (aT ?_);simp[aD.enc];apply aa.ag aC fw [1,2];simp[Kp];refine aa.lk (o:=[]) (l:=[(1,.v (.sl (aG ci))),(2,.v (.box [ti nt,ti nn,ti ns,.sl (aW au)]))]) (aY:=1200) (by simp) ?_;apply aa.sq aC fw [1,2,10];simp[Kq];refine aa.cond rfl (λg=>by simp at g) (λg=>?_);apply aa.skip;simp;apply aa.ag aC fw [5];simp[Uv];apply aa.ag aC fw [4];simp[Uw];apply aa.ret;simp[dm]
def YI{n:aD}(i:Nat)(hi:i<(eI n ci).length):((eI n ci).getD i default).aI<1099511627776\/((eI n ci).getD i default).size<=0:=by
 unfold eI at hi⊢;split
 ·rename_i hv;rw[cF hv]at hi;have hg:=G1 hv.1 hv.2;have hs:=Kn.K0 hg;have:=Kn.ady hg i (by have:=hs.len;omega);unfold bv at this;rw[iQ]at this;unfold dg.lt at this;simp only at this;omega
 ·rename_i hv;rw[aZ hv]at hi;simp at hi
def AA(v:bY)(i:Nat):Prop:=¬((v.getD i default).aI<1099511627776/\(v.getD i default).size>1000)
instance(v:bY)(i:Nat):Decidable (AA v i):=by unfold AA;infer_instance
def K9(n:aD)(ci:bT):Prop:=(dX n/\(ci.length:Int)=n.aM)/\∀i,i<(eI n ci).length->AA (eI n ci) i
instance(n:aD)(ci:bT):Decidable (K9 n ci):=by unfold K9;infer_instance
def Oe{n:aD}(hp:d9 n ci):K9 n ci↔HB n ci:=by
 unfold K9 HB;constructor
 ·rintro⟨⟨h1,h2⟩,h3⟩;refine⟨⟨h1,hp⟩,λi hi=>?_⟩;have a:=YI i hi;have b:=h3 i hi;unfold AA at b;unfold tZ;omega
 ·rintro⟨⟨h1,h2⟩,h3⟩;refine⟨⟨h1,hp.1⟩,λi hi=>?_⟩;have b:=h3 i hi;unfold tZ at b;unfold AA;omega
def asE(n:aD)(ci:bT)(hl:ci.length<=1000000000):bw aj 28 [n.enc,.sl (aG ci)] (.bool (decide (K9 n ci))):=by
 obtain⟨R,hR⟩:=be (decide (K9 n ci));rw[hR];have dd:K9 n ci↔(dX n/\(ci.length:Int)=n.aM)/\∀i,i<(eI n ci).length->AA (eI n ci) i:=Iff.rfl;have da:¬K9 n ci->R=false:=λh=>by rw[<-hR];simp[h]
 have t45:=asD n ci hl;have yP:(eI n ci).length<=1000000:=by
  unfold eI;split
  ·rename_i hv;have hs:=Kn.K0 (G1 hv.1 hv.2);have:=hs.len;have:=hv.1.ok.2.1;omega
  ·simp
 obtain⟨V,hV⟩:=be (eI n ci);rw[hV]at dd t45 yP;obtain⟨vb,hvb⟩:=be (decide (dX n));have t26:=adI n;rw[hvb]at t26;have aC:ay aj (bB [(45,dh (λts=>ts=[n.enc,.sl (aG ci)]) (λ_=>.sl (bG V)) false),(26,dh (λts=>ts=[n.enc]) (λ_=>.bool vb) true)]):=by
  refine ay.cons (ay.cons ay.nil ?_) ?_
  ·rintro ts rfl;exact⟨t26,λ_=>rfl⟩
  ·rintro ts rfl;exact⟨t45,λh=>by cases h⟩
 have ano:vb=true↔dX n:=by rw[<-hvb];simp
 clear hV t45 t26 hvb;obtain⟨N,hN⟩:=be (dX n);rw[hN]at dd ano;clear hN;obtain⟨nt,nn,ns,au⟩:=n;simp only[aD.enc]at aC dd;refine aqs.ok (by simp) (aT ?_);simp[aD.enc];apply aa.ag aC fw [1,2];simp[T4];refine aa.lk (o:=[]) (l:=[(1,.v (.sl (aG ci))),(2,.v (.box [ti nt,ti nn,ti ns,.sl (aW au)]))]) (aY:=1200) (by simp) ?_;apply aa.seq;obtain⟨c1,b8⟩:=be (decide (vb=false\/(ci.length:Int)≠nt):Bool);refine aa.cH aC fw [(1,.v (.sl (aG ci))),(2,.v (.box [ti nt,ti nn,ti ns,.sl (aW au)])),(16,.v (.bool c1))] ?_ ?_
 ·cases vb with
  |true=>
   by_cases q2:(ci.length:Int)=nt
   ·have:c1=false:=by rw[<-b8];simp[q2]
    simp[DN,q2,this]
   ·have:c1=true:=by rw[<-b8];simp[q2]
    simp[DN,q2,this]
  |false=>
   have:c1=true:=by rw[<-b8];simp
   simp[DN,this]
 refine aa.cond rfl (λg=>?_) (λg=>?_)
 ·rw[g]at b8;have b8:=qW b8;apply aa.ag aC fw [4];simp[T5];apply aa.ret;rw[da (λh=>b8.elim (λq=>by have:=ano.2 (dd.1 h).1.1;rw[q]at this;cases this) (λq=>q (dd.1 h).1.2))];simp[dm]
 rw[g]at b8;have b8:=wQ b8;have Cl:N:=ano.1 (by cases vb<;>simp_all)
 have nU:(ci.length:Int)=nt:=by
  by_cases e:(ci.length:Int)=nt
  ·exact e
  ·exact eB (.inr e) b8
 apply aa.skip;simp;apply aa.sq aC fw [19,20,21];simp[T6];apply aa.block;refine aa.loop (λy:Nat=>⟨DM.look [(19,.v (.sl (bG V))),(20,.v (ti V.length)),(21,.v (ti y))],cJ [],2000,1000,[]⟩)
  (λy=>y<=V.length/\∀i,i<y->AA V i) (λy=>V.length-y) 0 (Le.bH (o:=[]) ?_ ?_ ?_ ?_) (by simp) (λy hy=>?_)
 iterate 3(·simp)
 ·simp[bG]
 obtain⟨mf,fW⟩:=hy;apply aa.ag aC fw [19,20,21,22];simp[T7];apply aa.seq;refine aa.cond rfl (λcU=>?_) (λcU=>?_)
 ·have cU:y<V.length:=by simpa using cU
  have r1:=dt cU;have asF:(bG V).length=V.length:=by simp[bG]
  obtain⟨⟨uc,us⟩,hu⟩:=be (V.getD y default);rw[hu]at r1;have kr:AA V y↔¬(uc<1099511627776/\us>1000):=by unfold AA;rw[hu]
  apply aa.skip;simp;apply aa.seq;apply aa.block;apply aa.ag aC fw [6,19,20,21];simp[T8,r1,cU,asF];refine aa.lk (o:=[]) (l:=[(6,.v (.box [ti uc,ti us])),(19,.v (.sl (bG V))),(20,.v (ti V.length)),(21,.v (ti y))]) (aY:=3000) (by simp) ?_;obtain⟨b2,gm⟩:=be (decide (uc<1099511627776/\us>1000):Bool);refine aa.cH aC fw [(19,.v (.sl (bG V))),(20,.v (ti V.length)),(21,.v (ti y)),(32,.v (.bool b2))] ?_ ?_
  ·by_cases q1:uc<1099511627776
   ·by_cases q2:1000<us
    ·have fI:b2=true:=by rw[<-gm];simp[q1,q2]
     simp[DO,q1,q2,fI]
    ·have fI:b2=false:=by rw[<-gm];simp[q2]
     simp[DO,q1,q2,fI]
   ·have fI:b2=false:=by rw[<-gm];simp[q1]
    simp[DO,q1,fI]
  refine aa.cond rfl (λh=>?_) (λh=>?_)
  ·rw[h]at gm;have gm:=qW gm;apply aa.ag aC fw [4];simp[T9];apply aa.ret;rw[da λe=>kr.1 ((dd.1 e).2 y cU) gm];simp[dm]
  ·rw[h]at gm;have gm:=wQ gm;apply aa.skip;simp;apply aa.fJ aC fw [19,20,21];simp[Ua];rw[aF (by omega)];refine⟨y+1,Le.bH (o:=[]) ?_ ?_ ?_ ?_,⟨by omega,λi hi=>?_⟩,by omega⟩;iterate 4(·simp)
   ·by_cases e:i=y
    ·subst e;exact kr.2 gm
    ·exact fW i (by omega)
 ·have GG:y=V.length:=by
   have:¬y<V.length:=by simpa using cU
   omega
  subst GG;apply aa.exit;simp;apply aa.ag aC fw [4];simp[Ub];apply aa.ret;have:R=true:=by
   rw[<-hR];exact decide_eq_true (dd.2 ⟨⟨Cl,nU⟩,fW⟩)
  simp[dm,this]
end
end Jb
open Go.DM
section
variable{rest:List (Nat×Nat)}{aM:Int}
def rJ(S a:Nat):List (Nat×Nat):=(List.range (S-a)).map λb=>(b,b+a)
def Rq(S:Nat):List (Nat×Nat):=(List.range S).flatMap (rJ S)
def yD{n y:Nat}(h:y<n):(List.range n).drop y=y::(List.range n).drop (y+1):=by
 rw[ZbR (by simpa using h)];simp
def iD(n:aD)(l:aU)(L:List (Nat×Nat)):fl:=L.foldl (λB p=>uI B (ni n l ⟨n.ak,l.ba,B⟩ p.1 p.2) (eG n.ak l.ba p.1 p.2).toNat n.ak.toNat) (List.replicate (mM n.ak l.ba).toNat ⟨0,0,0,0⟩)
def Of(n:aD)(l:aU)(L:List (Nat×Nat))(p:Nat×Nat):iD n l (L++[p])=uI (iD n l L) (ni n l ⟨n.ak,l.ba,iD n l L⟩ p.1 p.2) (eG n.ak l.ba p.1 p.2).toNat n.ak.toNat:=by
 unfold iD;rw[Dk];rfl
def IL(B own:fl)(a:Nat)(h:a+own.length<=B.length):∀y,y<=own.length->uI B own a y=B.take a++(own.take y++B.drop (a+y))
 |0,_=>by simp[uI]
 |y+1,hy=>by
  rw[wA,IL B own a h y (by omega),c8 (by omega),ZbS _ _ (by rw[we];omega),we,ZbS _ _ (by rw[we];omega),we,
   ZbR (i:=a+y) (by omega),show a+y-min a B.length-min y own.length=0 by omega]
  simp[fq]
def afQ(S:Nat):(Rq S).length<=S*S:=by
 have:=AB (f:=rJ S) (c:=S) (List.range S) (λa _=>by simp[rJ])
 rwa [Zcj]at this
def G2{α β:Type}(g:α->List β):∀(l:List α) (pre:List β) (x:β) (rest:List β),l.flatMap g=pre++x::rest->∃l1 a l2 p q,l=l1++a::l2/\g a=p++x::q/\pre=l1.flatMap g++p
 |[],pre,x,rest,h=>by simp at h
 |b::l,pre,x,rest,h=>by
  rw[Zz]at h;have next:∀a',l.flatMap g=a'++x::rest->pre=g b++a'->∃l1 a l2 p q,b::l=l1++a::l2/\g a=p++x::q/\pre=l1.flatMap g++p:=by
   intro a' h2 h3;obtain⟨l1,a,l2,p,q,e1,e2,e3⟩:=G2 g l a' x rest h2;exact⟨b::l1,a,l2,p,q,by rw[e1];rfl,e2,by rw[h3,e3,Zz,ZbY]⟩
  rcases List.append_eq_append_iff.1 h with⟨a',h1,h2⟩|⟨c',h1,h2⟩
  ·exact next a' h2 h1
  ·cases c' with
   |nil=>exact next [] (by simpa using h2.symm) (by simpa using h1.symm)
   |cons y c'=>
    simp only[C9,LW]at h2;obtain⟨rfl,h2⟩:=h2;exact⟨[],b,l,pre,c',rfl,h1,rfl⟩
def range_split{n:Nat}{l1 l2:cQ}{a:Nat}(h:List.range n=l1++a::l2):l1=List.range a/\a<n:=by
 have hl:=congrArg List.length h;simp only[Zcj,Ey,Lr]at hl;have h1:(List.range n)[l1.length]? =some a:=by rw[h];simp
 rw[List.getElem?_range (by omega)]at h1;have ea:l1.length=a:=by simpa using h1
 have h2:(List.range n).take l1.length=l1:=by rw[h];simp
 rw[List.take_range,ea,Zdv (by omega)]at h2;exact⟨h2.symm,by omega⟩
def YJ{S:Nat}{pre:List (Nat×Nat)}{p:Nat×Nat}(h:Rq S=pre++p::rest):
  ∃len f,p=(f,f+len)/\f+len<S/\pre=(List.range len).flatMap (rJ S)++(List.range f).map λb=>(b,b+len):=by
 obtain⟨l1,a,l2,q,r,e1,e2,e3⟩:=G2 (rJ S) _ _ _ _ h;obtain⟨rfl,ha⟩:=range_split e1;unfold rJ at e2;obtain⟨l1',l2',e4,e5,e6⟩:=List.map_eq_append_iff.1 e2;obtain⟨b,l3,rfl,rfl,e7⟩:=List.map_eq_cons_iff.1 e6;obtain⟨rfl,hb⟩:=range_split e4;exact⟨a,b,rfl,by omega,by rw[e3,<-e5]⟩
def IM{n:aD}{l:aU}{S:Nat}(a:Nat)(B:fl)(k:Nat):((List.range k).map λb=>(b,b+a)).foldl (λB (p:Nat×Nat)=>uI B (ni n l ⟨n.ak,l.ba,B⟩ p.1 p.2) (eG n.ak l.ba p.1 p.2).toNat n.ak.toNat) B=(List.range k).foldl (Gv n l a) B:=by
 rw[ZcU]
 congr 1
def IN{n:aD}{l:aU}{S:Nat}(hS:l.ba=S)(len f:Nat):iD n l ((List.range len).flatMap (rJ S)++(List.range f).map λb=>(b,b+len))=
  (List.range f).foldl (Gv n l len) ((List.range len).foldl (acv n l) (List.replicate (mM n.ak l.ba).toNat ⟨0,0,0,0⟩)):=by
 unfold iD;rw[Dk,IM (S:=S),List.foldl_flatMap]
 congr 2
 funext B a;unfold rJ acv;rw[IM (S:=S),hS,iQ]
def G3{n:aD}{l:aU}{S:Nat}(hS:l.ba=S):iD n l (Rq S)=gE n l:=by
 have:=IN (n:=n) hS S 0;simp only[Zdw,SJ,vZ,Zcp]at this;rw[show Rq S=(List.range S).flatMap (rJ S)from rfl,this];unfold gE;rw[hS,iQ]
def anp{n:aD}{l:aU}{S:Nat}(hn:AP n)(hl:Gn l)(hS:l.ba=S)(ha:∀a∈l.bK,a.f<=a.t)(hs:LB l){pre:List (Nat×Nat)}{p:Nat×Nat}(h:Rq S=pre++p::rest):
  p.1<=p.2/\p.2<S/\Run ⟨n,l,⟨n.ak,l.ba,iD n l pre⟩,p.1,p.2⟩/\kz n l (iD n l pre):=by
 obtain⟨len,f,rfl,ef,rfl⟩:=YJ h;rw[IN hS];have h3:=hl.1;have h4:=hl.2.1;have hr:=Gq hn hl len (by omega);have hc:=DY hn hl hr f (len:=len) (by omega);have hd:=Gx hn hl ha hr (X7 hn hl ha len (by omega)) f (by omega);refine⟨by simp only;omega,ef,⟨⟨hn,hl,hc.ok hn hl,ha, ?_, ?_, ?_⟩,⟨hn,hl,hc.ok hn hl, ?_⟩,⟨hn.1,hn.2.1,h3,h4,hc.1⟩,hs⟩,hc⟩
 ·simp only[iQ];omega
 ·simp only[iQ];omega
 ·simp only[iQ];exact λh s' t' a1 a2 a3 a4 a5 a6=>hd h s' t' a1 a2 a4 (by omega) (by omega)
 ·simp only;omega
def before_trans{a b c:cE}(h1:cR a b)(h2:cR b c):cR a c:=by
 unfold cR at*
 omega
def La{l:aU}(h:Fu l aM):∀i j:Nat,i<j->j<l.bK.length->cR (l.bK.getD i default) (l.bK.getD j default):=by
 intro i j hij;induction j with
 |zero=>omega
 |succ j ih=>
  intro hj;have h1:=(h.2.2 (j+1) hj).2.resolve_left (by omega);rw[show j+1-1=j by omega]at h1;by_cases e:i=j
  ·rw[e];exact h1
  ·exact before_trans (ih (by omega) (by omega)) h1
def YK{l:aU}(h:Fu l aM):LB l:=by
 intro i j hij hj;by_cases e:i=j
 ·subst e;right;exact⟨rfl,ZcK _⟩
 ·have:=La h i j (by omega) hj;unfold cR at this;omega
end
namespace Jb
def Og:ai:=[
 n 0 24,
 c 24 25 [0],
 a 7 25 26 [1],
 a 2 26 27 [2],
 l 27 28 [3],
 n 6 29,
 n 0 30,
 c 30 31 [6],
 a 0 31 32 [7],
 a 1 32 33 [8],
 l 33 34 [9],
 b .mul 29 34 35 [5,10],
 o (.slice 4 (t 28) (some (t 35)) none) 36 [4,11],
 n 0 37,
 c 37 38 [13],
 a 0 38 39 [14],
 L 4 39 40 [15],
 n 0 41,
 c 41 42 [17],
 a 4 42 43 [18],
 L 3 43 44 [19],
 n 0 45,
 c 45 46 [21],
 a 7 46 47 [22],
 L 3 47 48 [23],
 n 1 49,
 n 2 50,
 o (.callF 52 [(t 40),(t 44),(t 48),(t 49),(t 50)]) 51 [16,20,24,25,26],
 o (.copy 4 (t 36) (t 51)) 52 [12,27,27]]
def Rr{ob g:bq}{N aK aY:Nat}{tm:dj}{l:eO}(L:c7)(aV:df g N)(e:ob=aO L g)(hn:N<=aY)(hL:∀p∈L,N<=p.1)(iX:fK (aO L g) (aO [] g) id tm l):
  Le ⟨tm,ob,aK,N,[]⟩ ⟨DM.look l,g,aY,N,[]⟩:=by
 subst e;exact ml aV hn hL iX
def YL{n:aD}{l:aU}{c:dW}{fr to:Nat}(hn:AP n)(hl:Gn l)(hc:O9 c)(wP:fr<=to)(iX:to<=1000):oX n (ni n l c fr to):=(zZ hn hl hc wP iX (λ_=>True) trivial (λ_ _ _ _ _=>trivial)).1
def asG{f0:bq}{p r N:Nat}{n:aD}{l:aU}{B:fl}{f t:Nat}{x1 x2 x3 x4:DV}(hN:∀q,N<=q->f0 q=none)
  (hp:f0 p=some (.box [.v (ti n.aM),.v (ti n.ak),.v (ti n.start),.v (.sl (aW n.au)),.v (ti l.ba),.v (.sl (kL l.bK)),.v (.sl (aG l.vE)),.v (ti n.ak),.v (ti l.ba),.bC r 0,x1,x2,x3,x4]))
  (hr:f0 r=some (.bE 0 65 4 (bR B))) (hn:AP n) (hl:Gn l) (wP:f<=t) (htS:(t:Int)<l.ba) (H:Run ⟨n,l,⟨n.ak,l.ba,B⟩,f,t⟩):
  aQ aj 31 [.ptr p 0,.v (ti f),.v (ti t)] f0 ⟨True,.v (.ew []),aO [(r,.bE 0 65 4 (bR (uI B (ni n l ⟨n.ak,l.ba,B⟩ f t) (eG n.ak l.ba f t).toNat n.ak.toNat)))] f0⟩:=by
 have afR:=t35 H;have aV:O9 ⟨n.ak,l.ba,B⟩:=H.C.hc;have dN:=H.cf.2.2.2.2;have Ym:=hn.1;have hn2:=hn.2.1;have Cm:=hl.2.1;simp only at afR dN;have hso:=YL hn hl aV wP (by omega);obtain⟨own,iN⟩:=be (ni n l ⟨n.ak,l.ba,B⟩ f t);rw[iN]at hso afR⊢;have hol:(own.length:Int)=n.ak:=hso.1;clear H aV hso;obtain⟨nt,on,ns,au⟩:=n;obtain⟨S,bK,cj⟩:=l;simp only at hp Ym hn2 Cm dN hol htS afR⊢;have hib:=tX (n:=on) (st:=S) (f:=f) (t:=t) (by omega) hn2 Cm (by omega) (by omega) wP;have hix:=λ(i:Int) (hi:i<on)=>Gw (nn:=on) (st:=S) (f:=f) (t:=t) (by omega) (by omega) wP hi;have asH:=gM (a:=(f:Int)) (A:=1000) (b:=S) (B:=1000) (by omega) (by omega) (by omega) Cm;have asI:=G4 (S:Int) f;have hpb:=kD Cm f (by omega);have hff:(f:Int)*((f:Int)-1)=(f:Int)*f-f:=by grind
 have gm:=gM (a:=(f:Int)) (A:=1000) (b:=(f:Int)) (B:=1000) (by omega) (by omega) (by omega) (by omega);have anq:0<=(f:Int)*((f:Int)-1)/\(f:Int)*((f:Int)-1)<=1000000:=by
  refine⟨?_,by omega⟩;cases f with
  |zero=>simp
  |succ f=>exact ZcG (by omega) (by omega)
 have hq:((f:Int)*((f:Int)-1)).tdiv 2=(f:Int)*((f:Int)-1)/2:=E6 anq.1;obtain⟨Q,hQ⟩:=be (pre (S:Int) f);rw[hQ]at asI hpb;have b9:=gM (a:=Q+t-f) (A:=2000000) (b:=on) (B:=1000) (by omega) (by omega) (by omega) hn2;obtain⟨BB,dK⟩:=be (eG on S f t);have m1:IntKind.i64.wrap ((f:Int)*S)=(f:Int)*S:=aF (by omega);have m2:IntKind.i64.wrap ((f:Int)-1)=(f:Int)-1:=aF (by omega);have m3:IntKind.i64.wrap ((f:Int)*((f:Int)-1))=(f:Int)*((f:Int)-1):=aF (by omega);have m4:IntKind.i64.wrap (((f:Int)*((f:Int)-1)).tdiv 2)=((f:Int)*((f:Int)-1)).tdiv 2:=by rw[hq];exact aF (by omega)
 have m5:IntKind.i64.wrap ((f:Int)*S-((f:Int)*((f:Int)-1)).tdiv 2)=Q:=by rw[asI];exact aF (by omega)
 have m6:IntKind.i64.wrap (Q+t)=Q+t:=aF (by omega);have m7:IntKind.i64.wrap (Q+t-f)=Q+t-f:=aF (by omega);have m8:IntKind.i64.wrap ((Q+t-f)*on)=BB:=by rw[<-dK];unfold eG;rw[hQ];exact aF (by omega)
 rw[dK]at hib hix⊢;obtain⟨BB,rfl⟩:=kK hib.1;have avt:=hix (on-1) (by omega);have Ev:BB+own.length<=B.length:=by omega
 have pV:=IL B own BB Ev own.length (ed _);rw[ZbX]at pV;have hon:on.toNat=own.length:=by omega
 rw[iQ,hon,pV];have aC:ay aj (bB [(52,E7 (λts=>ts=[(⟨nt,on,ns,au⟩:aD).enc,(⟨S,bK,cj⟩:aU).enc,(⟨on,S,B⟩:dW).enc,ti f,ti t]) (λ_=>bR own) 65 4)]):=by
  refine ay.agB ay.nil ?_;rintro ts rfl;exact⟨afR,KC _⟩
 simp only[aD.enc,aU.enc,dW.enc]at aC;refine arv.qE hN (by simp) λaV=>?_;have nk:p<N:=(aV p _ hp).1;have hrN:r<N:=(aV r _ hr).1;have np:∀k,p≠N+k:=λk=>by omega
 have nr:∀k,r≠N+k:=λk=>by omega
 simp;apply aa.ag aC fw [0,1,2,6];simp[Wp,hp,m1,m2,m3,m4,m5,m6,m7];obtain⟨g,hg⟩:=be (aO [(r,.bE 0 65 4 (bR (B.take BB++(own++B.drop (BB+own.length)))))] f0);have auO:df g N:=by
  rw[<-hg];exact km aV (ed _) (by simp[bb];omega)
 have nH:List.take BB (bR B)++(List.take (B.length-BB) (bR own)++List.drop (BB+min (B.length-BB) own.length) (bR B))=bR (B.take BB++(own++B.drop (BB+own.length))):=by
  have h1:(bR own).length=own.length:=by simp[bR]
  rw[show min (B.length-BB) own.length=own.length by omega,Xd (l:=bR own) (by omega)];simp[bR]
 refine aa.to ⟨DM.look [],g,N+1000,N,[]⟩ ?_ ?_
 ·refine aa.qa aC fw (rs:=Og) (.inr ⟨_,rfl⟩) (by kernel_rfl) [] ?_;simp[Og,hp,hr,nr,m8,fq];refine⟨by omega,λq hq=>?_, ?_⟩
  ·obtain⟨c,_,rfl⟩:=g9.1 hq;rfl
  rw[nH];refine Rr (N:=N) (l:=[]) [(N+106,.bE 0 65 4 (bR own))] auO ?_ (by omega) (by simp) trivial;rw[<-hg];funext q;simp only[aH,bL];by_cases h1:q=r
  ·subst h1;rw[cF rfl,aZ (by omega),cF rfl]
  ·rw[aZ h1,aZ h1]
 ·simp[Nl,Bd,kQ,oA,hg,p7]
section
variable{f:bq}{r:Nat}
def vU(S len f:Nat):List (Nat×Nat):=((List.range (S-len)).drop f).map (λb=>(b,b+len))++((List.range S).drop (len+1)).flatMap (rJ S)
def Rx{S:Nat}(h:1<=S):vU S 0 0=Rq S:=by
 have h1:=yD (n:=S) (y:=0) (by omega);rw[ZcD]at h1;unfold vU Rq
 conv=>rhs;rw[h1]
 rw[Zz];simp[rJ]
def YS(S:Nat):vU S S 0=[]:=by
 unfold vU;have h:(List.range S).drop (S+1)=[]:=ZbE (by simp);rw[h];simp
def yE{S len f:Nat}(h:f+len<S):vU S len f=(f,f+len)::vU S (if f+1+len>=S then len+1 else len) (if f+1+len>=S then 0 else f+1):=by
 have h1:=yD (n:=S-len) (y:=f) (by omega);split
 ·rename_i g;have h2:(List.range (S-len)).drop (f+1)=[]:=ZbE (by simp;omega);rw[h2]at h1;unfold vU;rw[h1];simp only[qD,SJ,C9,yN,ZcD,LW,qI];by_cases e:len+1<S
  ·rw[yD e,Zz];rfl
  ·have e2:(List.range S).drop (len+1)=[]:=ZbE (by simp;omega);have e3:(List.range S).drop (len+1+1)=[]:=ZbE (by simp;omega);rw[e2,e3,show S-(len+1)=0 by omega];simp
 ·rename_i g;unfold vU;rw[h1];simp
def Ol(S:Nat):∀k,k<=S->2*((List.range k).flatMap (rJ S)).length+k*k=k*(2*S+1)
 |0,_=>by simp
 |k+1,hk=>by
  have ih:=Ol S k (by omega);rw[Ho,ZcM,Ey];simp only[Zz,List.flatMap_nil,vZ,rJ,XP,Zcj]at ih⊢;obtain⟨d,rfl⟩:∃d,S=k+1+d:=⟨S-(k+1),by omega⟩;rw[show k+1+d-k=d+1 by omega];generalize ((List.range k).flatMap λa=>(List.range (k+1+d-a)).map λb=>(b,b+a)).length=X at ih⊢
  grind
def WQ(S:Nat):2*(Rq S).length=S*(S+1):=by
 have:=Ol S S (ed _);unfold Rq;generalize ((List.range S).flatMap (rJ S)).length=X at this⊢
 grind
structure JS where
 pre:List (Nat×Nat)
 len:Nat
 f:Nat
 C0:Bool
def JS.left(S:Nat)(j:JS):Nat:=(vU S j.len j.f).length
structure JS.ok(S:Nat)(j:JS):Prop where
 spl:Rq S=j.pre++vU S j.len j.f
 xu:j.f+j.len<S\/(j.len=S/\j.f=0)
def JS.ok.lt{S:Nat}{j:JS}(h:j.ok S)(hl:0<j.left S):j.f+j.len<S:=by
 rcases h.xu with h1|⟨h1,h2⟩
 ·exact h1
 ·unfold JS.left at hl;rw[h1,h2,YS]at hl;simp at hl
def JS.fu(S:Nat)(j:JS):JS:=⟨j.pre,if j.f+1+j.len>=S then j.len+1 else j.len,if j.f+1+j.len>=S then 0 else j.f+1,j.C0⟩
def JS.next(S:Nat)(j:JS):JS:=⟨j.pre++[(j.f,j.f+j.len)],(j.fu S).len,(j.fu S).f,j.C0⟩
def JS.ok.Om{S:Nat}{j:JS}(h:j.ok S)(hl:0<j.left S):(j.fu S).left S+1=j.left S:=by
 have h1:=yE (h.lt hl);unfold JS.left JS.fu;simp only;rw[h1];simp
def JS.ok.YT{S:Nat}{j:JS}(h:j.ok S)(hl:0<j.left S):(j.next S).left S+1=j.left S:=h.Om hl
def JS.ok.next{S:Nat}{j:JS}(h:j.ok S)(hl:0<j.left S):(j.next S).ok S:=by
 have ef:=h.lt hl;have h1:=yE ef;refine⟨?_, ?_⟩
 ·rw[h.spl,h1];unfold JS.next JS.fu;simp
 ·unfold JS.next JS.fu;simp only;split<;>omega
def JS.ok.WM{S:Nat}{j:JS}(h:j.ok S):j.pre.length+j.left S=(Rq S).length:=by
 rw[h.spl,Ey];rfl
def J0:JS:=⟨[],0,0,false⟩
def IP{S:Nat}(h:1<=S):J0.ok S:=⟨by rw[show J0.len=0 from rfl,show J0.f=0 from rfl,Rx h];rfl,.inl (by simp[J0];omega)⟩
def JS.cm(S:Nat)(j:JS):Nat->JS
 |0=>j
 |i+1=>(j.cm S i).next S
def JS.ok.cm{S:Nat}{j:JS}(h:j.ok S):∀i,i<=j.left S->(j.cm S i).ok S/\(j.cm S i).left S+i=j.left S/\(j.cm S i).C0=j.C0
 |0,_=>⟨h,rfl,rfl⟩
 |i+1,hi=>by
  obtain⟨h1,h2,h3⟩:=h.cm i (by omega);have:=h1.YT (by omega);exact⟨h1.next (by omega),by simp only[JS.cm];omega,h3⟩
def JS.ok.done{S:Nat}{j:JS}(h:j.ok S)(hl:j.left S=0):j.pre=Rq S:=by
 rw[h.spl,show vU S j.len j.f=[]from LS hl,vZ]
def mo(n:aD)(l:aU)(S:Nat)(c9:DV)(j:JS):bF:=[.v (ti n.aM),.v (ti n.ak),.v (ti n.start),.v (.sl (aW n.au)),.v (ti l.ba),.v (.sl (kL l.bK)),.v (.sl (aG l.vE)),.v (ti n.ak),.v (ti l.ba),c9,.v (ti j.len),.v (ti j.f),.v (ti (j.left S)),.v (.bool j.C0)]
def qx(n:aD)(l:aU)(L:List (Nat×Nat)):Ob:=.bE 0 65 4 (bR (iD n l L))
structure Rt(n:aD)(l:aU)(S:Nat)(j:JS)(f:bq)(p r:Nat):Prop where
 box:f p=some (.box (mo n l S (.bC r 0) j))
 bE:f r=some (qx n l j.pre)
def fX(f:bq)(p r:Nat)(n:aD)(l:aU)(S:Nat)(j:JS):bq:=aO [(p,.box (mo n l S (.bC r 0) j)),(r,qx n l j.pre)] f
def Rt.ne{n:aD}{l:aU}{S:Nat}{j:JS}{p:Nat}(h:Rt n l S j f p r):p≠r:=by
 rintro rfl;have:=h.box.symm.trans h.bE;simp[qx]at this
def AC{n:aD}{l:aU}{S:Nat}{j:JS}{p:Nat}(h:p≠r)(j':JS):Rt n l S j' (fX f p r n l S j') p r:=
 ⟨by simp[fX],by
  have:r≠p:=λe=>h e.symm;simp[fX,this]⟩
def B1{n:aD}{l:aU}{S:Nat}{j:JS}{p:Nat}(h:Rt n l S j f p r):fX f p r n l S j=f:=by
 funext q;simp only[fX,aH,bL];split
 ·rename_i e;rw[e];exact h.box.symm
 ·split
  ·rename_i e;rw[e];exact h.bE.symm
  ·rfl
structure YN(n:aD)(l:aU)(S:Nat):Prop where
 hn:AP n
 hl:Gn l
 hS:l.ba=S
 sY:1<=S
 O6:S<=1000
 ha:∀a∈l.bK,a.f<=a.t
 hs:LB l
def YN.len{n:aD}{l:aU}{S:Nat}(h:YN n l S):(Rq S).length<=1000000:=by
 have:=afQ S;have h4:S*S<=1000*1000:=ZcV h.O6 h.O6;omega
def YN.run{n:aD}{l:aU}{S:Nat}(h:YN n l S){j:JS}(hj:j.ok S)(hl:0<j.left S):
  Run ⟨n,l,⟨n.ak,l.ba,iD n l j.pre⟩,j.f,(j.f+j.len:Nat)⟩/\iD n l (j.next S).pre=uI (iD n l j.pre) (ni n l ⟨n.ak,l.ba,iD n l j.pre⟩ j.f (j.f+j.len:Nat)) (eG n.ak l.ba j.f (j.f+j.len)).toNat n.ak.toNat:=by
 have h1:=yE (hj.lt hl);have h2:=hj.spl;rw[h1]at h2;obtain⟨_,_,h3,_⟩:=anp h.hn h.hl h.hS h.ha h.hs h2;exact⟨h3,Of n l j.pre (j.f,j.f+j.len)⟩
end
def HD:Option Ob->Nat
 |some (.box [.v (.int _ x)])=>x.toNat
 |_=>0
structure SC where
 n:aD
 l:aU
 S:Nat
 j0:JS
 p:Nat
 r:Nat
 d5:Nat
 bS:Nat
 k:Int
 f:bq
def SC.J(c:SC)(i:Nat):JS:=c.j0.cm c.S i
def SC.Do(c:SC)(i:Nat):bq:=aO [(c.d5,.box [.v (ti i)]),(c.p,.box (mo c.n c.l c.S (.bC c.r 0) (c.J i))),(c.r,qx c.n c.l (c.J i).pre)] c.f
def SC.HE(c:SC)(i:Nat):bq:=aO [(c.d5,.box [.v (ti i)]),(c.p,.box (mo c.n c.l c.S (.bC c.r 0) ((c.J i).fu c.S))),(c.r,qx c.n c.l (c.J i).pre)] c.f
def SC.M(c:SC):Nat:=min c.k.toNat (c.j0.left c.S)
def SC.kf(c:SC):bF->bq->fV:=λargs ab=>
 ⟨HD (ab c.d5)<c.M/\args=[.v (ti (c.J (HD (ab c.d5))).f),.v (ti ((c.J (HD (ab c.d5))).f+(c.J (HD (ab c.d5))).len:Nat))]/\ab=c.HE (HD (ab c.d5)),
  .v (.bool (decide ((HD (ab c.d5)+1:Nat)≠c.k))),c.Do (HD (ab c.d5)+1)⟩
structure SC.ok(c:SC):Prop where
 jin:YN c.n c.l c.S
 jok:c.j0.ok c.S
 k1:1<=c.k
 pr:c.p≠c.r
 dp:c.d5≠c.p
 dr:c.d5≠c.r
 bp:c.bS≠c.p
 br:c.bS≠c.r
 bd:c.bS≠c.d5
 fb:c.f c.bS=some (.box [.ptr c.p 0])
def SC.auP(c:SC)(i:Nat):HD (c.HE i c.d5)=i:=by simp[SC.HE,HD]
def SC.alm(c:SC)(i:Nat)(hi:i<c.M):c.kf [.v (ti (c.J i).f),.v (ti ((c.J i).f+(c.J i).len:Nat))] (c.HE i)=⟨True,.v (.bool (decide ((i+1:Nat)≠c.k))),c.Do (i+1)⟩:=by
 unfold SC.kf;simp only[c.auP,hi,and_self]
def WR{f:bq}{a b d x:Nat}{A B D:Ob}(A' B' D':Ob)(h:aO [(a,A),(b,B),(d,D)] f x=none):aO [(a,A'),(b,B'),(d,D')] f x=none:=by
 simp only[aH,bL]at h⊢;split at h
 ·cases h
 ·rw[aZ (by assumption)];split at h
  ·cases h
  ·rw[aZ (by assumption)];split at h
   ·cases h
   ·rw[aZ (by assumption)];exact h
def SC.On(c:SC):P7 c.kf:=by
 intro args ab h x hx;obtain⟨h1,h2,h3⟩:=h;rw[h3]at hx;exact WR _ _ _ hx
def SC.adN{c:SC}{N:Nat}(h:∀q,N<=q->c.Do 0 q=none)(i:Nat):∀q,N<=q->c.Do i q=none:=λq hq=>WR _ _ _ (h q hq)
def asS(c:SC)(H:c.ok){N:Nat}(hN:∀q,N<=q->c.Do 0 q=none):P8 aj 51 [.ptr c.bS 0] (c.Do 0) c.kf (c.Do c.M):=by
 have mE:=λi=>SC.adN hN i;have O6:=H.jin.O6;have zG:=H.jok.WM;have auQ:=H.jin.len;have hit:=λi (hi:i<=c.j0.left c.S)=>H.jok.cm i hi;have pq:=H.k1;have hlS:=H.jin.hS;have Lv:=H.pr;have hdp:=H.dp;have LU:=H.dr;have hbp:=H.bp;have hbr:=H.br;have Me:=H.bd;have NQ:=H.fb;have hrp:c.r≠c.p:=λe=>Lv e.symm;have hpd:c.p≠c.d5:=λe=>hdp e.symm;have Z3:c.r≠c.d5:=λe=>LU e.symm;have hpb:c.p≠c.bS:=λe=>hbp e.symm;refine arx.okY c.On hN (by simp) λy=>?_
 letI:dM:=yk y c.kf c.On
 refine aa.le (Le.same (l:=[(0,.v (.pO (.func (.yield y) #[] #[]))),(1,.ptr c.bS 0)]) (aY:=N) (mE 0) ⟨rfl,rfl,trivial⟩) ?_;apply aa.block;refine aa.loop (λi:Nat=>⟨DM.look [(0,.v (.pO (.func (.yield y) #[] #[]))),(1,.ptr c.bS 0)],c.Do i,N,N,[[]]⟩)
  (λi=>i<=c.M/\(i:Int)<c.k) (λi=>c.M-i) 0 (Le.refl _) ⟨by omega,by omega⟩ (λi hi=>?_)
 obtain⟨hi1,Zg⟩:=hi;have hM:c.M=min c.k.toNat (c.j0.left c.S):=rfl;obtain⟨hj,H2,hjc⟩:=hit i (by omega);rw[show c.j0.cm c.S i=c.J i from rfl]at hj H2 hjc;have eb:∀i,c.Do i c.bS=some (.box [.ptr c.p 0]):=λi=>by simp[SC.Do,hbp,hbr,Me,NQ]
 have ep:∀i,c.Do i c.p=some (.box (mo c.n c.l c.S (.bC c.r 0) (c.J i))):=λi=>by simp[SC.Do,hpd]
 have nk:c.p<N:=ZbW λh=>by have h2:=hN _ h;rw[ep]at h2;cases h2
 have WA:c.bS<N:=ZbW λh=>by have h2:=hN _ h;rw[eb]at h2;cases h2
 simp only[mo]at ep;have Zh:dM.k=some (y,c.kf):=rfl;apply aa.seq;apply aa.seq;apply aa.fJ cL fw [0,1,9];simp[Wq,eb,ep];refine aa.cond rfl (λg=>?_) (λg=>?_)
 ·have g:0<(c.J i).left c.S:=by simpa using g
  have ef:=hj.lt g;have Zy:=hj.Om g;obtain⟨J,hJ⟩:=be (c.J i);have hJ1:c.J (i+1)=J.next c.S:=by rw[<-hJ];rfl
  have hiM:i<c.M:=by omega
  have hkf:=c.alm i hiM;have hoY:c.HE i=aO [(c.d5,.box [.v (ti i)]),(c.p,.box (mo c.n c.l c.S (.bC c.r 0) (J.fu c.S))),(c.r,qx c.n c.l J.pre)] c.f:=by unfold SC.HE;rw[hJ]
  have hoH:c.Do i=aO [(c.d5,.box [.v (ti i)]),(c.p,.box (mo c.n c.l c.S (.bC c.r 0) J)),(c.r,qx c.n c.l J.pre)] c.f:=by unfold SC.Do;rw[hJ]
  rw[hJ]at g ef Zy hj H2 hkf;rw[hoH];simp only[mo,JS.fu]at hoY Zy;have eb':∀A B C,aO [(c.d5,A),(c.p,B),(c.r,C)] c.f c.bS=some (.box [.ptr c.p 0]):=λA B C=>by simp[hbp,hbr,Me,NQ]
  simp only[mo];obtain⟨S,hS⟩:=be c.S;rw[hS]at ef Zy hj H2 g O6 hlS auQ zG hoY⊢;obtain⟨jp,jl,jf,jc⟩:=J;simp only at ef Zy hoY hkf⊢;have w1:IntKind.i64.wrap ((jf:Int)+jl)=((jf+jl:Nat):Int):=by rw[aF (by omega)];omega
  have w2:IntKind.i64.wrap ((JS.left S ⟨jp,jl,jf,jc⟩:Int)-1)=((JS.left S ⟨jp,jl,jf,jc⟩-1:Nat):Int):=by rw[aF (by omega)];omega
  have w3:IntKind.i64.wrap ((jf:Int)+1)=((jf+1:Nat):Int):=by rw[aF (by omega)];omega
  have w4:IntKind.i64.wrap ((jf:Int)+1+jl)=(jf:Int)+1+jl:=aF (by omega);have w5:IntKind.i64.wrap ((jl:Int)+1)=((jl+1:Nat):Int):=by rw[aF (by omega)];omega
  obtain⟨L,hL⟩:=be (JS.left S ⟨jp,jl,jf,jc⟩);rw[hL]at Zy g H2 w2⊢;apply aa.skip;simp;apply aa.block;apply aa.ag cL fw [0,1,3,4];simp[Wr,hbp,hbr,Me,NQ,hpd,w1];apply aa.ag cL fw [0,1,3,4];simp[Ws,hbp,hbr,Me,NQ,hpd,w2];apply aa.ag cL fw [0,1,3,4];simp[Wt,hbp,hbr,Me,NQ,w3];refine aa.seq (aa.to ⟨DM.look [(0,.v (.pO (.func (.yield y) #[] #[]))),(1,.ptr c.bS 0),(3,.v (ti jf)),(4,.v (ti (jf+jl:Nat)))],c.HE i,N+5000,N,[[]]⟩ ?_ ?_)
  ·apply aa.ag cL fw [0,1,3,4,51];simp[Wu,hbp,hbr,Me,NQ,w4,hlS];have asT:∀q,N+5000<=q->c.HE i q=none:=λq hq=>WR _ _ _ (hN q (by omega));refine aa.cond rfl (λg2=>?_) (λg2=>?_)
   ·have g2:jf+1+jl>=S:=by
     have:(S:Int)<=(jf:Int)+1+jl:=by simpa using g2
     omega
    rw[cF g2,cF g2]at hoY Zy;apply aa.qa cL fw (rs:=db (jo c.p c.bS N) (fg Ky [none,some [1],none,none,none,none,none,none,none,some [0],none,none,none])) (.inl rfl) ((d8 (kh nk WA hpb) _ _ _).trans (by kernel_rfl)) [0,1,3,4];simp[Ky,db,fF,fg,jo,cX,bN,aP,hbp,hbr,Me,NQ,w5];refine dU ?_ asT (by simp);rw[hoY,show JS.left S ⟨jp,jl+1,0,jc⟩=L-1 by omega,hlS];funext q;simp only[aH,bL];by_cases hq:q=c.p
    ·subst hq;simp[hpd]
    ·simp only[aZ hq]
   ·have g2:¬jf+1+jl>=S:=by
     have:¬(S:Int)<=(jf:Int)+1+jl:=by simpa using g2
     omega
    rw[aZ g2,aZ g2]at hoY Zy;apply aa.skip;simp;refine dU ?_ asT (by simp);rw[hoY,show JS.left S ⟨jp,jl,jf+1,jc⟩=L-1 by omega,hlS];funext q;simp only[aH,bL];by_cases hq:q=c.p
    ·subst hq;simp[hpd]
    ·simp only[aZ hq]
  simp;apply aa.ag cL fw [0,1,67];rw[Int.natCast_add]at hkf;simp[Wv,Zh,hkf];refine aa.cond rfl (λg2=>?_) (λg2=>?_)
  ·have g2:(i:Int)+1=c.k:=by simpa using g2
   apply aa.ret;simp;rw[show c.M=i+1 by omega]
  ·have g2:¬(i:Int)+1=c.k:=by simpa using g2
   apply aa.skip;simp;rw[aZ g2];exact⟨i+1,dU rfl (mE _) ⟨rfl,rfl,trivial⟩,⟨by omega,by omega⟩,by omega⟩
 ·have g:(c.J i).left c.S=0:=by simpa using g
  apply aa.exit;simp;have:i=c.M:=by omega
  rw[this]
def asU{f0:bq}{p N:Nat}(hN:∀r,N<=r->f0 r=none)(hp:∃cs,f0 p=some (.box cs)):
  tP aj 30 [.ptr p 0] f0 N (N+20) (λval mG=>val=.oP (.func 51) [.ptr (N+2) 0]/\mG=aO [(N+2,.box [.ptr p 0])] f0):=by
 refine art.aeQ hN (by simp) (by omega) ?_ λaV=>?_
 ·rintro val mG ⟨rfl,rfl⟩;refine⟨λr hr h=>?_,λr hr=>?_⟩
  ·rw[qr hr (by simp)];exact h
  ·rw[aH,aZ (by omega)];exact hN r (by omega)
 simp;apply aa.ag cL fw [1];simp[Wn];apply aa.ag cL fw [2];simp[Wo];apply aa.ret;simp[aeP]
def asV{f0:bq}{p r N S:Nat}{n:aD}{l:aU}{j:JS}{k:Int}(hN:∀q,N<=q->f0 q=none)(I:YN n l S)(hj:j.ok S)(dK:Rt n l S j f0 p r)(afW:j.C0=false)(hk:1<=k):
  aQ aj 17 [.ptr p 0,.v (ti k)] f0 ⟨True,.v (ti (min k.toNat (j.left S):Nat)),fX f0 p r n l S (j.cm S (min k.toNat (j.left S)))⟩:=by
 refine ajz.qE hN (by simp) λaV=>?_;have Lv:=dK.ne;have hp:=dK.box;have hr:=dK.bE;have nk:p<N:=(aV p _ hp).1;have hrN:r<N:=(aV r _ hr).1;have np:∀k,p≠N+k:=λk=>by omega
 have nr:∀k,r≠N+k:=λk=>by omega
 have eA:(∃cs,f0 p=some (.box cs)):=⟨_,hp⟩;simp only[mo]at hp;simp;apply aa.ag cL fw [2,3];simp[Ks];refine aa.le (Le.d6 (l1:=[(N+3,.box [.ptr p 0])]) (l:=[(2,.ptr (N+3) 0),(3,.v (.box [ti k]))]) (aY:=N+500) aV ?_ ?_ ?_ ?_ ?_) ?_
 ·omega
 ·simp
 ·simp[bU,fq]
 ·simp[dT,eK,fq,np,eA]
 ·simp[np,fq,eA];exact bZ (l:=[(N+3,.box [.ptr p 0])]) aV (by omega) (by simp)
 apply aa.seq;refine aa.cH cL fw [(2,.ptr (N+3) 0),(3,.v (.box [ti k])),(19,.v (.bool false))] ?_ ?_
 ·have Dh:¬k<=0:=by omega
  simp[DW,hp,np,afW,Dh]
 apply aa.c0 rfl;apply aa.skip;simp;apply aa.ag cL fw [2,3,5];simp[V0];refine aa.le (Le.d6 (l1:=[(N+541,.box [.v (ti 0)]),(N+3,.box [.ptr p 0])]) (l:=[(2,.ptr (N+3) 0),(3,.v (.box [ti k])),(5,.ptr (N+541) 0)]) (aY:=N+1000) aV ?_ ?_ ?_ ?_ ?_) ?_
 ·omega
 ·simp
 ·simp[bU,fq]
 ·simp[dT,eK,fq,np,eA]
 ·simp[np,fq,eA]
 obtain⟨c,hc⟩:=be ((⟨n,l,S,j,p,r,N+541,N+1037,k,aO [(N+1037,.box [.ptr p 0]),(N+3,.box [.ptr p 0])] f0⟩:SC):SC);have auR:c.ok:=by
  rw[<-hc];exact⟨I,hj,hk,Lv,λe=>np _ e.symm,λe=>nr _ e.symm,λe=>np _ e.symm,λe=>nr _ e.symm,by simp only;omega,by simp⟩
 have asW:aO [(N+1037,.box [.ptr p 0]),(N+541,.box [.v (ti 0)]),(N+3,.box [.ptr p 0])] f0=c.Do 0:=by
  rw[<-hc];funext q;simp only[SC.Do,SC.J,JS.cm,aH,bL];by_cases h1:q=p
  ·subst h1;rw[aZ (np _),aZ (np _),aZ (np _),aZ (np _),cF rfl];simp only[hp,mo]
  by_cases h2:q=r
  ·subst h2;rw[aZ (nr _),aZ (nr _),aZ (nr _),aZ (nr _),aZ h1,cF rfl];exact hr
  rw[aZ h1,aZ h2];by_cases h3:q=N+1037
  ·subst h3;simp
  by_cases h4:q=N+541
  ·subst h4;simp
  rw[aZ h3,aZ h4,aZ h4,aZ h3]
 have mE:∀i,∀q,N+1055<=q->c.Do i q=none:=λi=>SC.adN (N:=N+1055) (λq hq=>by
  rw[<-asW];simp only[aH,bL];rw[aZ (by omega),aZ (by omega),aZ (by omega)];exact hN q (by omega)) i
 have hM:c.M=min k.toNat (j.left S):=by rw[<-hc];rfl
 have hJ:∀i,c.J i=j.cm S i:=λi=>by rw[<-hc];rfl
 apply aa.seq;refine aa.seq (aa.to ⟨DM.look [(2,.ptr (N+3) 0),(3,.v (.box [ti k])),(5,.ptr (N+541) 0),(21,.oP (.func 51) [.ptr (N+1037) 0])],c.Do 0,N+1055,N,[]⟩ (aa.al8 cL (N':=N+1055) [2,3,5,21] (pre:=[⟨.load 1 false (.tmp 2),(some 20),none,[],none⟩]) (rs:=V1) rfl ?_) ?_)
 ·simp;refine⟨_,λhN2=>asU hN2 ⟨_,by simp[np,hp];rfl⟩, ?_⟩;rintro val mG ⟨rfl,rfl⟩;exact dU asW (mE 0) (by simp)
 simp;have hpc:c.p=p:=by rw[<-hc]
 have hrc:c.r=r:=by rw[<-hc]
 have Jp:c.n=n:=by rw[<-hc]
 have hlc:c.l=l:=by rw[<-hc]
 have hSc:c.S=S:=by rw[<-hc]
 have hdc:c.d5=N+541:=by rw[<-hc]
 have Dc:c.k=k:=by rw[<-hc]
 have hbc:c.bS=N+1037:=by rw[<-hc]
 have hf3:c.f (N+3)=some (.box [.ptr p 0]):=by
  rw[<-hc];simp
 have hit:=asS c auR (mE 0);rw[hbc]at hit;have hNp:0<N:=by omega
 obtain⟨M,hMM⟩:=be c.M;have hM2:M=min k.toNat (j.left S):=hMM.symm.trans hM;rw[<-hM2];have ans:∀j',df (fX f0 p r n l S j') N:=λj'=>km aV (ed _) (by
  have hrn:aO [(p,Ob.box (mo n l S (.bC r 0) j')),(r,qx n l j'.pre)] f0 r≠none:=by
   simp only[aH,bL];split
   ·simp
   ·simp
  intro q hq;simp only[fN,lq,ld]at hq;rcases hq with rfl|rfl
  ·refine⟨nk,λm hm=>?_⟩;simp only[mo,bb,bQ,aP,vZ,yN,fN,lq,ld]at hm;rw[hm];exact hrn
  ·exact⟨hrN,λm hm=>by simp[qx,bb]at hm⟩)
 have e5:∀i,c.Do i (N+541)=some (.box [.v (ti i)]):=λi=>by
  unfold SC.Do;rw[hdc,aH,cF rfl]
 have Bp:aa aj 34 (.seq (.region false Gm) .ret) (Bd (dm 4) ⟨True,.v (ti M),fX f0 p r n l S (j.cm S M)⟩) ⟨DM.look [(2,.ptr (N+3) 0),(3,.v (.box [ti k])),(5,.ptr (N+541) 0),(21,.oP (.func 51) [.ptr (N+1037) 0])],c.Do c.M,N+1055,N,[]⟩:=by
  rw[hMM];apply aa.ag cL fw [4];simp[Gm,e5];refine aa.le (Rr (N:=N) (aY:=N+2000) (l:=[(4,.v (ti M))]) [(N+541,.box [.v (ti M)]),(N+1037,.box [.ptr p 0]),(N+3,.box [.ptr p 0])] (ans (j.cm S M)) ?_ (by omega) (by simp) (by simp)) ?_
  ·rw[<-hc];funext q;simp only[SC.Do,SC.J,fX,aH,bL];by_cases h1:q=p
   ·subst h1;simp[np]
   by_cases h2:q=r
   ·subst h2;simp[nr,h1]
   rw[aZ h1,aZ h2,aZ h1,aZ h2]
  ·apply aa.ret;simp[dm,Bd,p7,kQ,oA]
 apply aa.block;refine aa.aeT 0 hit hNp (by rfl) (mE c.M) ?_ Bp Bp;intro args ab N2 hN2 aN hyi ant;obtain⟨h1,h2,h3⟩:=aN;obtain⟨i,hi⟩:=be (HD (ab c.d5));rw[hi]at h1 h2 h3;subst h2;refine⟨by simp, ?_⟩;have hkf:=c.alm i h1;subst h3;rw[hkf];obtain⟨Xz,H2,hjc⟩:=hj.cm i (by omega);have hJi:=hJ i;have hJn:=hJ (i+1);rw[<-hJi]at Xz H2 hjc;have ef:=Xz.lt (by omega);obtain⟨ce,uG⟩:=I.run Xz (by omega);have EP:(c.J i).next S=c.J (i+1):=by rw[hJn,hJi];rfl
 rw[EP]at uG;have yp:c.HE i p=some (.box (mo n l S (.bC r 0) ((c.J i).fu S))):=by
  unfold SC.HE;rw[hdc,hpc,hrc,Jp,hlc,hSc];simp[np]
 have yr:c.HE i r=some (.bE 0 65 4 (bR (iD n l (c.J i).pre))):=by
  unfold SC.HE;rw[hdc,hpc,hrc,Jp,hlc,hSc];have:r≠p:=λe=>Lv e.symm;simp[nr,this,qx]
 have y3:c.HE i (N+3)=some (.box [.ptr p 0]):=by
  unfold SC.HE;rw[hdc,hpc,hrc];have h1:∀k,N+k≠p:=λk e=>np k e.symm;have h2:∀k,N+k≠r:=λk e=>nr k e.symm;simp[h1,h2,hf3]
 have y5:c.HE i (N+541)=some (.box [.v (ti i)]):=by
  unfold SC.HE;rw[hdc,aH,cF rfl]
 have hn3:N+3<N2:=ZbW λh=>by have:=ant _ h;rw[y3]at this;cases this
 have aln:=λ(M:Nat) (hM:∀q,M<=q->c.HE i q=none)=>asG (f0:=c.HE i) (B:=iD n l (c.J i).pre) (f:=(c.J i).f) (t:=(c.J i).f+(c.J i).len) hM yp yr I.hn I.hl (by omega) (by rw[I.hS];omega) ce;rw[<-uG]at aln;have aC:=BO ay.nil aln (λq hq=>by
  rw[aH];split
  ·rename_i e;rw[e,yr]at hq;cases hq
  ·exact hq)
 obtain⟨F,hF⟩:=be ((c.J i).f);obtain⟨Tt,hT⟩:=be ((c.J i).f+(c.J i).len);rw[hT,hF]at aC;rw[hT,hF];refine aa.le (Le.same (l:=[(2,.ptr (N+3) 0),(3,.v (.box [ti k])),(5,.ptr (N+541) 0),(22,.v (ti F)),(23,.v (ti Tt))]) (aY:=N2) ant (by simp[Ft])) ?_;apply aa.ag cL fw [2,3,5,6,22,23];simp[V2];apply aa.fJ cL fw [2,3,5,6,7];simp[V3];apply aa.block;apply aa.cY aC fw (rs:=Gl) rfl (by kernel_rfl) [3,5];simp[Gl,y3];have n5r:N+541≠r:=λe=>nr _ e.symm;have w1:IntKind.i64.wrap ((i:Int)+1)=(i:Int)+1:=aF (by have:=I.len;have:=hj.WM;omega);apply aa.ag cL fw [3,5];simp[V4,y5,n5r,w1];apply aa.ag cL fw [32];simp[V5];have auS:aO [(N+541,.box [.v (.int .i64 ((i:Int)+1))]),(r,.bE 0 65 4 (bR (iD n l (c.J (i+1)).pre)))] (c.HE i)=c.Do (i+1):=by
  unfold SC.HE SC.Do;rw[hdc,hpc,hrc,Jp,hlc,hSc];funext q;simp only[aH,bL];by_cases h1:q=N+541
  ·subst h1;rw[cF rfl,cF rfl];rfl
  rw[aZ h1,aZ h1,aZ h1];by_cases h2:q=r
  ·subst h2;have h3:¬q=p:=λe=>Lv e.symm;rw[cF rfl,aZ h3,cF rfl];rfl
  rw[aZ h2,aZ h2,aZ h2];by_cases h3:q=p
  ·subst h3;rw[cF rfl,cF rfl,<-EP];rfl
  ·rw[aZ h3,aZ h3]
 have mh:∀{tm:dj} {nx:Nat},N2<=nx->Le ⟨tm,aO [(N+541,.box [.v (.int .i64 ((i:Int)+1))]),(r,.bE 0 65 4 (bR (iD n l (c.J (i+1)).pre)))] (c.HE i),nx,N2,[]⟩ ⟨λ_=>.undef,c.Do (i+1),N2,N2,[]⟩:=λ{tm nx} _=>by
  rw[<-JT];exact dU auS (λq hq=>WR _ _ _ (ant q hq)) trivial
 refine aa.cond rfl (λg=>?_) (λg=>?_)
 ·have g:(i:Int)+1=k:=by simpa using g
  apply aa.exit;simp[Dc,g];rw[<-g];exact⟨N2,mh (by omega)⟩
 ·have g:¬(i:Int)+1=k:=by simpa using g
  apply aa.skip;simp[Dc,g];exact⟨N2,mh (by omega)⟩
section
variable{f0:bq}{c9:DV}{r:Nat}
def ln(S:Nat)(j:JS)(k:Int):Nat:=if k<=0\/j.C0=true then 0 else min k.toNat (j.left S)
def anu{p N:Nat}{n:aD}{l:aU}{S:Nat}{j:JS}{k:Int}(hN:∀q,N<=q->f0 q=none)(hp:f0 p=some (.box (mo n l S c9 j)))(h:k<=0\/j.C0=true):
  aQ aj 17 [.ptr p 0,.v (ti k)] f0 ⟨True,.v (ti 0),f0⟩:=by
 refine ajz.qE hN (by simp) λaV=>?_;have nk:p<N:=(aV p _ hp).1;have np:∀k,p≠N+k:=λk=>by omega
 have eA:(∃cs,f0 p=some (.box cs)):=⟨_,hp⟩;simp only[mo]at hp;simp;apply aa.ag cL fw [2,3];simp[Ks];refine aa.le (Le.d6 (l1:=[(N+3,.box [.ptr p 0])]) (l:=[(2,.ptr (N+3) 0),(3,.v (.box [ti k]))]) (aY:=N+500) aV ?_ ?_ ?_ ?_ ?_) ?_
 ·omega
 ·simp
 ·simp[bU,fq]
 ·simp[dT,eK,fq,np,eA]
 ·simp[fq];exact bZ (l:=[(N+3,.box [.ptr p 0])]) aV (by omega) (by simp)
 apply aa.seq;refine aa.cH cL fw [(19,.v (.bool true))] ?_ ?_
 ·by_cases hc:j.C0=true
  ·simp[DW,hp,np,hc]
  ·have hk:k<=0:=h.resolve_right hc;have hc:j.C0=false:=by simpa using hc
   simp[DW,hp,np,hc,hk]
 apply aa.c1 rfl;apply aa.ag cL fw [4];simp[VZ];refine aa.le (ml (l:=[(4,.v (ti 0))]) (aY:=N+1000) aV (by omega) (by simp) (by simp)) ?_;apply aa.ret;simp[dm,Bd,p7,kQ,oA];rfl
def Lc{p N S:Nat}{n:aD}{l:aU}{j:JS}{k:Int}(hN:∀q,N<=q->f0 q=none)(I:YN n l S)(hj:j.ok S)(dK:Rt n l S j f0 p r):
  aQ aj 17 [.ptr p 0,.v (ti k)] f0 ⟨True,.v (ti (ln S j k:Nat)),fX f0 p r n l S (j.cm S (ln S j k))⟩:=by
 unfold ln;by_cases h:k<=0\/j.C0=true
 ·rw[cF h,show j.cm S 0=j from rfl,B1 dK];exact anu hN dK.box h
 ·rw[aZ h];exact asV hN I hj dK (by simpa using λe=>h (.inr e)) (by omega)
def asX{p N:Nat}{n:aD}{l:aU}{S:Nat}{j:JS}(hN:∀q,N<=q->f0 q=none)(hp:f0 p=some (.box (mo n l S c9 j))):
  aQ aj 18 [.ptr p 0] f0 ⟨True,.v (ti (j.left S)),f0⟩:=by
 refine arj.qE hN (by simp) λaV=>?_;simp only[mo]at hp;simp;apply aa.ag cL fw [0];simp[V6];apply aa.sq cL fw [0,4];simp[V7];apply aa.c0 rfl;apply aa.skip;simp;apply aa.ag cL fw [2];simp[V8,hp];apply aa.ret;simp[dm,Bd,p7,kQ,oA];rfl
def JS.o6(S:Nat)(j:JS):JS:=if j.left S=0 then j else⟨j.pre,j.len,j.f,true⟩
def JS.ok.o6{S:Nat}{j:JS}(h:j.ok S):(j.o6 S).ok S:=by
 unfold JS.o6;split
 ·exact h
 ·exact⟨h.spl,h.xu⟩
def Ry(S:Nat)(j:JS):(j.o6 S).pre=j.pre:=by
 unfold JS.o6;split<;>rfl
def asL{p N S:Nat}{n:aD}{l:aU}{j:JS}(hN:∀q,N<=q->f0 q=none)(dK:Rt n l S j f0 p r):
  aQ aj 14 [.ptr p 0] f0 ⟨True,.v (.ew []),fX f0 p r n l S (j.o6 S)⟩:=by
 refine arf.qE hN (by simp) λaV=>?_;have hp:=dK.box;have hr:=dK.bE;have Lv:=dK.ne;simp only[mo]at hp;simp;refine aa.cH cL fw [(0,.ptr p 0),(10,.v (.bool (decide (0<j.left S))))] ?_ ?_
 ·simp[VX,hp]
 refine aa.cond rfl (λg=>?_) (λg=>?_)
 ·have g:0<j.left S:=by simpa using g
  apply aa.fJ cL fw [];simp[VY,hp,Gk,Bd,p7,kQ,oA];funext q;simp only[fX,aH,bL];by_cases h1:q=p
  ·subst h1;rw[cF rfl,cF rfl];simp only[mo,JS.o6,aZ (show ¬j.left S=0 by omega)];rfl
  ·rw[aZ h1,aZ h1];by_cases h2:q=r
   ·subst h2;rw[cF rfl,hr,Ry]
   ·rw[aZ h2]
 ·have g:j.left S=0:=by simpa using g
  apply aa.skip;have e:j.o6 S=j:=by unfold JS.o6;rw[cF g]
  rw[e,B1 dK];simp[Gk,Bd,p7,kQ,oA];rfl
def anv{p N:Nat}{n:aD}{l:aU}{S:Nat}{j:JS}(hN:∀q,N<=q->f0 q=none)(hp:f0 p=some (.box (mo n l S c9 j)))(h:j.C0=true\/0<j.left S):
  aQ aj 19 [.ptr p 0] f0 ⟨True,.v (.ew [.agg [ti 0,ti 0,.sl []],ti (if j.C0=true then 12 else 15)]),f0⟩:=by
 refine ajA.qE hN (by simp) λaV=>?_;have nk:p<N:=(aV p _ hp).1;have np:∀k,p≠N+k:=λk=>by omega
 have eA:(∃cs,f0 p=some (.box cs)):=⟨_,hp⟩;simp only[mo]at hp;have cj:∀{x:Int} {nx:Nat} {tm:dj} {e:Int},tm 2=.ptr (N+3) 0->tm 3=.v (ti e)->N<=nx->Le ⟨tm,aO [(N+3,.box [.v (ti 0),.v (ti 0),.aX]),(N+3,.box [.v (ti 0),.v (ti 0),.aX])] f0,nx,N,[]⟩ ⟨DM.look [(2,.v (.box [ti 0,ti 0,.sl []])),(3,.v (ti e))],aO [] f0,nx,N,[]⟩:=λ{x nx tm e} h2 h3 hx=>by
  refine Le.trans (Le.d6 (l1:=[(N+3,.box [.v (ti 0),.v (ti 0),.v (.sl [])])]) (l:=[(2,.ptr (N+3) 0),(3,.v (ti e))]) (aY:=N+4) aV ?_ ?_ ?_ ?_ ?_) (ml aV hx ?_ ?_)
  ·omega
  ·simp
  ·simp[bU]
  ·simp[dT,eK]
  ·simp[h2,h3]
  ·simp
  ·simp;exact bZ (l:=[]) aV (by omega) (by simp)
 simp;apply aa.ag cL fw [0,2,3];simp[Kt];apply aa.seq;apply aa.block;apply aa.ag cL fw [0,2,3,4];simp[Ku];apply aa.c0 rfl;apply aa.ag cL fw [0,2,3,8];simp[Kv,hp,np,fq];refine aa.cond rfl (λg=>?_) (λg=>?_)
 ·have g:j.C0=true:=by simpa using g
  apply aa.ag cL fw [2,3];simp[V9,fq];refine aa.le (cj (x:=0) (e:=12) rfl rfl (by omega)) ?_;apply aa.ret;simp[vG,Bd,p7,kQ,oA,g];rfl
 ·have g:j.C0=false:=by simpa using g
  have hl:0<j.left S:=h.resolve_left (by simp[g]);apply aa.ag cL fw [0,2,3,14];simp[Kw,hp,np,hl,fq];apply aa.c1 rfl;apply aa.ag cL fw [2,3];simp[Wa,fq,g];refine aa.le (cj (x:=0) (e:=15) rfl rfl (by omega)) ?_;apply aa.ret;simp[vG,Bd,p7,kQ,oA];rfl
def Rw{p N S:Nat}{n:aD}{l:aU}{j:JS}(hN:∀q,N<=q->f0 q=none)(dK:Rt n l S j f0 p r)(h1:j.C0=false)(h2:j.left S=0):
  aQ aj 19 [.ptr p 0] f0 ⟨True,.ew [.agg [.v (ti n.ak),.v (ti l.ba),.bC r 0],.v (ti 0)],f0⟩:=by
 refine ajA.okD hN (by simp) (by omega) λaV=>?_;have hp:=dK.box;have hr:=dK.bE;have nk:p<N:=(aV p _ hp).1;have hrN:r<N:=(aV r _ hr).1;have np:∀k,p≠N+k:=λk=>by omega
 have nr:∀k,r≠N+k:=λk=>by omega
 have eA:(∃cs,f0 p=some (.box cs)):=⟨_,hp⟩;have uF:(∃e sz av,f0 r=some (.bE 0 e sz av)):=⟨_,_,_,hr⟩;simp only[mo]at hp;simp only[qx]at hr;simp;apply aa.ag cL fw [0,2,3];simp[Kt];apply aa.seq;apply aa.block;apply aa.ag cL fw [0,2,3,4];simp[Ku];apply aa.c0 rfl;apply aa.ag cL fw [0,2,3,8];simp[Kv,hp,np,fq,h1];apply aa.c0 rfl;apply aa.ag cL fw [0,2,3,14];simp[Kw,hp,np,h2,fq];apply aa.c0 rfl;apply aa.skip;simp;apply aa.ag cL fw [2,3];simp[Wb,hp,np,fq];apply aa.ret;refine⟨by simp[vG,dS.oU], ?_⟩;simp[vG,JX,CM,dS.oU];refine ml aV (by omega) (by simp) ?_;have h3:¬r=N+3:=nr 3;simp[hr,h3]
end
section
variable{f f0:bq}{r:Nat}{j':JS}
def AD(S:Nat)(j:JS)(a:Nat):∀b,(j.cm S a).cm S b=j.cm S (a+b)
 |0=>rfl
 |b+1=>by
  show((j.cm S a).cm S b).next S=(j.cm S (a+b)).next S;rw[AD S j a b]
def sS{p S:Nat}{n:aD}{l:aU}{j:JS}:fX (fX f p r n l S j) p r n l S j'=fX f p r n l S j':=by
 funext q;simp only[fX,aH,bL];split
 ·rfl
 ·split<;>rfl
def YU{p S x:Nat}{o:Ob}{n:aD}{l:aU}{j:JS}(h1:x≠p)(h2:x≠r):fX (aO [(x,o)] (fX f p r n l S j)) p r n l S j'=aO [(x,o)] (fX f p r n l S j'):=by
 funext q;simp only[fX,aH,bL];by_cases e:q=x
 ·subst e;simp[h1,h2]
 ·simp only[aZ e];split
  ·rfl
  ·split<;>rfl
def Oo{p S x:Nat}{o:Ob}{n:aD}{l:aU}{j j':JS}(Lv:p≠r)(h1:x≠p)(h2:x≠r):Rt n l S j (aO [(x,o)] (fX f p r n l S j)) p r:=by
 have h:=AC (f:=f) (n:=n) (l:=l) (S:=S) (j:=j) Lv j;have Ls:p≠x:=λe=>h1 e.symm;have h2':r≠x:=λe=>h2 e.symm;exact⟨by rw[aH,aZ Ls];exact h.box,by rw[aH,aZ h2'];exact h.bE⟩
def Oq{p N S:Nat}{n:aD}{l:aU}{j:JS}(aV:df f0 N)(dK:Rt n l S j f0 p r):df (fX f0 p r n l S j') N:=km aV (ed _) (by
 have nk:p<N:=(aV p _ dK.box).1;have hrN:r<N:=(aV r _ dK.bE).1;have hrn:aO [(p,Ob.box (mo n l S (.bC r 0) j')),(r,qx n l j'.pre)] f0 r≠none:=by
  simp only[aH,bL];split
  ·simp
  ·simp
 intro q hq;simp only[fN,lq,ld]at hq;rcases hq with rfl|rfl
 ·refine⟨nk,λm hm=>?_⟩;simp only[mo,bb,bQ,aP,vZ,yN,fN,lq,ld]at hm;rw[hm];exact hrn
 ·exact⟨hrN,λm hm=>by simp[qx,bb]at hm⟩)
def sT{p S:Nat}{n:aD}{l:aU}{j:JS}(dK:Rt n l S j f0 p r){q:Nat}(h:f0 q=none):fX f0 p r n l S j' q=none:=by
 simp only[fX,aH,bL];split
 ·rename_i e;rw[e,dK.box]at h;cases h
 ·split
  ·rename_i e;rw[e,dK.bE]at h;cases h
  ·exact h
def Rz{g:bq}{x:Nat}{o:Ob}{q:Nat}(h:aO [(x,o)] f q=none)(hg:f q=none->g q=none):aO [(x,o)] g q=none:=by
 rw[aH]at h⊢;split at h
 ·cases h
 ·rw[aZ (by assumption)];exact hg h
def asM{p N S:Nat}{n:aD}{l:aU}{j:JS}{k:Int}(hN:∀q,N<=q->f0 q=none)(I:YN n l S)(hj:j.ok S)(dK:Rt n l S j f0 p r)(afW:j.C0=false)(hk:1<=k)(hl:j.left S<=1000):
  aQ aj 11 [.ptr p 0,.v (ti k)] f0 ⟨True,.ew [.agg [.v (ti n.ak),.v (ti l.ba),.bC r 0],.v (ti 0)],fX f0 p r n l S (j.cm S (j.left S))⟩:=by
 refine aq9.okD hN (by simp) (by omega) λaV=>?_;have hp:=dK.box;have hr:=dK.bE;have Lv:=dK.ne;have nk:p<N:=(aV p _ hp).1;have hrN:r<N:=(aV r _ hr).1;have np:∀k,p≠N+k:=λk=>by omega
 have nr:∀k,r≠N+k:=λk=>by omega
 have np':∀k,N+k≠p:=λk=>by omega
 have nr':∀k,N+k≠r:=λk=>by omega
 have eA:(∃cs,f0 p=some (.box cs)):=⟨_,hp⟩;have ans:∀j',df (fX f0 p r n l S j') N:=λj'=>Oq aV dK;simp;apply aa.ag cL fw [0,1,4,5];simp[VH];apply aa.sq cL fw [0,1,4,5,6];simp[VI];apply aa.block;have mE:∀(o:Ob) (d:Nat),∀q,N+500<=q->aO [(N+5,o)] (fX f0 p r n l S (j.cm S d)) q=none:=λo d q hq=>by
  rw[aH,aZ (by omega)];exact sT dK (hN q (by omega))
 refine aa.loop (λx:Nat×Nat=>⟨DM.look [(0,.ptr p 0),(1,.v (ti k)),(4,.ptr (N+5) 0),(5,.v (ti 0)),(6,.v (ti x.1))],aO [(N+5,.box [.v (ti 0),.v (ti 0),.aX])] (fX f0 p r n l S (j.cm S x.2)),N+500,N,[]⟩)
  (λx=>x.1<=x.2/\x.2<=j.left S) (λx=>j.left S-x.2) (0,0) (dU ?_ (mE _ _) (by simp[fq])) ⟨by simp,by simp⟩ ?_
 ·rw[show j.cm S 0=j from rfl,B1 dK,fq]
 rintro⟨i,d⟩ ⟨hi1,Zg⟩;simp only at hi1 Zg;obtain⟨Xz,H2,hjc⟩:=hj.cm d Zg;obtain⟨J,hJ⟩:=be (j.cm S d);have hjm:∀m,J.cm S m=j.cm S (d+m):=λm=>by rw[<-hJ];exact AD S j d m
 rw[hJ]at Xz H2 hjc;obtain⟨m,hm⟩:=be (ln S J k);have hmv:m=min k.toNat (J.left S):=by
  rw[<-hm];unfold ln;rw[aZ (by rw[hjc,afW];simp;omega)]
 have m9:∀M,(∀q,M<=q->aO [(N+5,.box [.v (ti 0),.v (ti 0),.aX])] (fX f0 p r n l S J) q=none)->aQ aj 17 [.ptr p 0,.v (ti k)] (aO [(N+5,.box [.v (ti 0),.v (ti 0),.aX])] (fX f0 p r n l S J)) ⟨True,.v (ti m),aO [(N+5,.box [.v (ti 0),.v (ti 0),.aX])] (fX f0 p r n l S (j.cm S (d+m)))⟩:=λM hM=>by
  have:=Lc (k:=k) hM I Xz (Oo (j':=J) Lv (np' 5) (nr' 5));rw[YU (np' 5) (nr' 5),hm,hjm]at this;exact this
 have aC:=BO ay.nil m9 (λq hq=>Rz hq λh=>by
  have:=sT (j':=j.cm S (d+m)) (AC (f:=f0) (n:=n) (l:=l) (S:=S) (j:=J) Lv J) h;rw[sS]at this;exact this)
 simp only[hJ];apply aa.seq;apply aa.seq;have anw:(i:Int)<2000:=by omega
 apply aa.Di aC fw (rs:=Gh) rfl (by kernel_rfl) [0,1,4,5,6,14];simp[Gh,anw];have w1:IntKind.i64.wrap ((i:Int)+1)=((i+1:Nat):Int):=by rw[aF (by omega)];omega
 refine aa.cond rfl (λg=>?_) (λg=>?_)
 ·have g:0<m:=by simpa using g
  apply aa.skip;simp;apply aa.seq;apply aa.block;apply aa.skip;simp;apply aa.fJ cL fw [0,1,4,5,6];simp[VJ,w1];exact⟨i+1,d+m,dU rfl (mE _ _) (by simp),⟨by omega,by omega⟩,by omega⟩
 ·have g:m=0:=by simpa using g
  have fA:d=j.left S:=by omega
  apply aa.exit;simp;have Rm:∀M,(∀q,M<=q->aO [(N+5,.box [.v (ti 0),.v (ti 0),.aX])] (fX f0 p r n l S J) q=none)->aQ aj 19 [.ptr p 0] (aO [(N+5,.box [.v (ti 0),.v (ti 0),.aX])] (fX f0 p r n l S J)) ⟨True,.ew [.agg [.v (ti n.ak),.v (ti l.ba),.bC r 0],.v (ti 0)],aO [(N+5,.box [.v (ti 0),.v (ti 0),.aX])] (fX f0 p r n l S J)⟩:=λM hM=>
   Rw hM (Oo (j':=J) Lv (np' 5) (nr' 5)) (hjc.trans afW) (by omega)
  rw[g,show d+0=d from rfl,hJ];apply aa.cY (BO ay.nil Rm (λq h=>h)) fw (rs:=Gi) rfl (by kernel_rfl) [4,5];simp[Gi];apply aa.ret;refine⟨by simp[Gj,dS.oU], ?_⟩;simp[Gj,JX,CM,dS.oU];have h3:¬r=N+5:=nr 5;have AM:fX f0 p r n l S J r=some (qx n l J.pre):=(AC (j:=J) Lv J).bE;simp only[qx]at AM;rw[<-fA,hJ];refine Rr (N:=N) [(N+5,.box [.v (ti n.ak),.v (ti l.ba),.bC r 0]),(N+5,.box [.v (ti 0),.v (ti 0),.aX])] (ans J) rfl (by omega) (by simp) ?_;simp[h3,AM]
end
end Jb
end cD
open Go.DM Go.DM.W9
def Zq(x:Input):Prop:=((x.aw.length:Int)<=60/\(x.insert.length:Int)<=100)/\P9 x x.insert.length
def Bq{x:Input}(h:Zq x):Qa x/\x.aw.length<=60/\x.insert.length<=100/\(∀c∈x.aw,c.read.length=x.insert.length):=by
 obtain⟨⟨h1,h2⟩,h3,h4⟩:=h;have aaU:ll x.aw x.insert.length:=by
  by_cases e:ll x.aw x.insert.length
  ·exact e
  ·exact eB (.inr (.inr (.inr (.inr (.inr e))))) h3
 have hc:∀c∈x.aw,qL c x.insert.length:=by
  intro c hc;obtain⟨i,hi,rfl⟩:=If hc;have:=aaU i hi
  rwa [show x.aw.getD i default=x.aw[i]by simp[List.getD,hi]]at this
 have OV:0<=x.swap/\x.swap<=60000:=by
  constructor
  ·by_cases e:x.swap<0
   ·exact eB (.inr (.inr (.inr (.inl e)))) h3
   ·omega
  ·by_cases e:x.swap>60000
   ·exact eB (.inr (.inr (.inr (.inr (.inl e))))) h3
   ·omega
 have hn:x.aw.length<=60:=by
  by_cases e:(x.aw.length:Int)>60
  ·exact eB (.inr (.inl e)) h3
  ·omega
 have Z3:∀c∈x.aw,c.read.length=x.insert.length:=by
  intro c ZM;have:=(hc c ZM).1;omega
 refine⟨⟨⟨by omega,λc ZM=>?_⟩,λc ZM=>⟨by rw[Z3 c ZM];omega,λp hp=>?_⟩,by omega,λp hp=>?_,OV.1,by omega⟩,hn,by omega,Z3⟩
 ·have:=(hc c ZM).1;omega
 ·obtain⟨t,ht,rfl⟩:=If hp;have:=(hc c ZM).2 t (by rw[Z3 c ZM]at ht;simpa using ht);unfold lw at this;rw[show c.read.getD t default=c.read[t]by simp[List.getD,ht]]at this;omega
 ·obtain⟨t,ht,rfl⟩:=If hp;have:=h4 t (by simpa using ht);unfold zJ at this;rw[show x.insert.getD t default=x.insert[t]by simp[List.getD,ht]]at this;omega
def aaV{x:Input}(h:Zq x):∀c∈x.aw,qL c x.insert.length:=by
 obtain⟨⟨h1,h2⟩,h3,h4⟩:=h;have aaU:ll x.aw x.insert.length:=by
  by_cases e:ll x.aw x.insert.length
  ·exact e
  ·exact eB (.inr (.inr (.inr (.inr (.inr e))))) h3
 intro c hc;obtain⟨i,hi,rfl⟩:=If hc;have:=aaU i hi
 rwa [show x.aw.getD i default=x.aw[i]by simp[List.getD,hi]]at this
def aeW{x:Input}(h:Zq x){t:Nat}(ht:t<x.insert.length):1<=x.insert.getD t default:=by
 have:=h.2.2 t (by simpa using ht);unfold zJ at this;omega
def CN{x:Input}(h:Zq x):∀a∈jM x,Ig (2*x.aw.length+1:Nat) x.insert.length a:=by
 obtain⟨g1,g2,g3,g4⟩:=Bq h;have hc:=aaV h;have aaW:∀m,m<x.aw.length->(x.aw.getD m default).kind<x.insert.length:=by
  intro m hm;have:=(hc (x.aw.getD m default) (by simp[List.getD,hm])).1;omega
 intro a ha;obtain⟨hm,vD⟩:=Ci ha;unfold Ig;rcases hm with hm|hm
 ·obtain⟨i,_,hi,hm⟩:=gU hm;unfold rI at hm;rw[oi]at hm;rcases hm with hm|hm
  ·obtain⟨m,him,hmn,hm⟩:=gU hm;unfold rM at hm;rw[oi]at hm;rcases hm with hm|hm
   ·obtain⟨t,_,ht,hm⟩:=gU hm;unfold rA at hm;split at hm
    ·rename_i hr;simp only[oO]at hm;subst hm;have:=zK (iu g1.1 i m).1 hr.2;simp only at vD⊢;omega
    ·simp at hm
   ·unfold rS at hm;split at hm
    ·rename_i hr;simp only[oO]at hm;subst hm;have:=zK (iu g1.1 i m).1 g1.2.2.2.2.1;unfold dn at hr;rw[tD]at hr;have:=aaW (m+1) hr.1;simp only at vD⊢;omega
    ·simp at hm
  ·obtain⟨hr,rfl⟩:=I5 hm;unfold dn at hr;rw[tD]at hr;have:=aaW i (by omega);simp only;omega
 ·obtain⟨i,_,hi,hm⟩:=gU hm;unfold iI at hm;obtain⟨m,him,hmn,hm⟩:=gU hm;unfold iM at hm;obtain⟨t,_,ht,hm⟩:=gU hm;simp only[iT,oO]at hm;subst hm;have:=ZF (iu g1.1 i m).1 (aeW h ht);simp only at vD⊢;omega
def X1{x:Input}(h:Zq x):Fu (bf x) x.insert.length:=by
 obtain⟨g1,g2,g3,g4⟩:=Bq h;have dN:(bf x).vE.length=2*x.aw.length+1:=Qb x _;have yQ:(bf x).ba=2*x.aw.length+1:=rfl;refine⟨⟨by omega,by omega⟩,λi hi=>?_,λi hi=>⟨?_, ?_⟩⟩
 ·rw[dN]at hi;unfold SR;have:(bf x).vE.getD i default=if i % 2=0 then pj x (i/2) x.aw.length else 1099511627776:=by
   simp[bf,AU,List.getD,hi]
  rw[this];split
  ·exact iu g1.1 _ _
  ·omega
 ·have:=CN h ((bf x).bK.getD i default) (by simp only[List.getD,w8 hi,St];exact SK hi);rw[yQ];simpa using this
 ·by_cases hi0:i=0
  ·exact .inl hi0
  ·right;have hs:=mw x;rw[Zdn]at hs;have:=hs (i-1) i (by show i-1<(bf x).bK.length;omega) hi (by omega);have e1:(bf x).bK.getD (i-1) default=(jM x)[i-1]'(by show i-1<(bf x).bK.length;omega):=by
    simp only[List.getD];rw[w8 (by omega)];rfl
   have e2:(bf x).bK.getD i default=(jM x)[i]'hi:=by
    simp only[List.getD];rw[w8 hi];rfl
   rw[e1,e2];exact this
def aaX{x:Input}(h:Zq x):gE x=bf x:=by
 obtain⟨h1,h2,h3,h4⟩:=Bq h;exact Pn ⟨λp hp=>(h1.2.2.2.1 p hp).1,h1.2.2.2.2.1⟩ h1.1 h4
def aaY{x:Input}(h:Zq x):(mu x).length<=900000:=by
 obtain⟨h1,h2,h3,h4⟩:=Bq h;rw[<-I8,HM ⟨λp hp=>(h1.2.2.2.1 p hp).1,h1.2.2.2.2.1⟩ h1.1 h4];exact CO (by omega) h2
def X2{x:Input}(h:Zq x):bw aj 29 [x.enc] (bf x).enc:=by
 rw[<-aaX h];have:=aaY h;exact t12 x (Bq h).1 (by unfold sE;omega) (by omega)
namespace cD
namespace Jb
open Go.DM
def uT(n:aD)(x:Input):Prop:=dX n/\P9 x n.aM/\K9 n x.insert
instance(n:aD)(x:Input):Decidable (uT n x):=by unfold uT;infer_instance
def uT.Zq{n:aD}{x:Input}(h:uT n x)(h6:x.insert.length<=100):Go.Proofs.Zq x:=by
 obtain⟨h1,h2,h3⟩:=h;have hl:(x.insert.length:Int)=n.aM:=by
  by_cases e:(x.insert.length:Int)=n.aM
  ·exact e
  ·exact eB (.inr (.inr (.inl e))) h2.1
 have hc:(x.aw.length:Int)<=60:=by
  by_cases e:(x.aw.length:Int)>60
  ·exact eB (.inr (.inl e)) h2.1
  ·omega
 exact⟨⟨hc,by omega⟩,by rw[hl];exact h2⟩
abbrev gX(x:Input):Nat:=2*x.aw.length+1
def uT.jin{n:aD}{x:Input}(h:uT n x)(h6:x.insert.length<=100):YN n (bf x) (gX x):=by
 have hs:=h.Zq h6;obtain⟨g1,g2,g3,g4⟩:=Bq hs;have hip:ajB x:=⟨g1,g2,by omega,g4⟩;refine⟨h.1.ok,afo hip,rfl,by simp only[gX];omega,by simp only[gX];omega,λa ha=>?_,YK (X1 hs)⟩;have:=CN hs a ha;unfold Ig at this;omega
def WN(S:Nat):(Rq S).length=S*(S+1)/2:=by
 have:=WQ S;omega
def B0(n:aD)(x:Input)(P R:Nat):c7:=[(P,.box (mo n (bf x) (gX x) (.bC R 0) J0)),(R,qx n (bf x) [])]
def Ld{f0:bq}{N:Nat}{n:aD}{x:Input}(hN:∀q,N<=q->f0 q=none)(h:uT n x)(h6:x.insert.length<=100):
  tP aj 12 [.v n.enc,.v x.enc] f0 N (N+3000) (λval mG=>val=.ptr (N+2048) 0/\mG=aO (B0 n x (N+2048) (N+2044)) f0):=by
 have hj:=h.jin h6;have hs:=h.Zq h6;have tL:=X2 hs;have t26:=adI n;have iX:n.aM<=1000000000:=by
  have:qV n:=h.1.1;unfold qV at this;omega
 have t27:=asw x n.aM iX;have t28:=asE n x.insert (by omega);rw[decide_eq_true h.1]at t26;rw[decide_eq_true h.2.1]at t27;rw[decide_eq_true h.2.2]at t28;obtain⟨l,hl⟩:=be (bf x);have hls:l.ba=(gX x:Nat):=by rw[<-hl];rfl
 unfold B0;rw[hl]at tL hj⊢;have aC:ay aj (bB [(29,dh (λts=>ts=[x.enc]) (λ_=>l.enc) false),(28,dh (λts=>ts=[n.enc,.sl (aG x.insert)]) (λ_=>.bool true) true),(27,dh (λts=>ts=[x.enc,ti n.aM]) (λ_=>.bool true) true),(26,dh (λts=>ts=[n.enc]) (λ_=>.bool true) true)]):=by
  refine ay.cons (ay.cons (ay.cons (ay.cons ay.nil ?_) ?_) ?_) ?_
  ·rintro ts rfl;exact⟨t26,λ_=>rfl⟩
  ·rintro ts rfl;exact⟨t27,λ_=>rfl⟩
  ·rintro ts rfl;exact⟨t28,λ_=>rfl⟩
  ·rintro ts rfl;exact⟨tL,λh=>by cases h⟩
 have Ym:=hj.hn.1;have hn2:=hj.hn.2.1;have O6:=hj.O6;obtain⟨S,hS⟩:=be (gX x);have sY:=hj.sY;rw[hS]at O6 hls sY⊢;have auT:=WN S;have hz:iD n l []=List.replicate (mM n.ak S).toNat ⟨0,0,0,0⟩:=by unfold iD;rw[hls];rfl
 have zG:J0.left S=S*(S+1)/2:=by
  have:=(IP sY).WM;rw[<-auT];simpa [J0]using this
 have hSS:S*(S+1)<=1000*1001:=ZcV (by omega) (by omega);obtain⟨G,hG⟩:=be (S*(S+1)/2);have hGI:((S:Int)*((S:Int)+1)).tdiv 2=(G:Int):=by
  rw[E6 (ZcG (by omega) (by omega)),<-hG]
  push_cast
  rfl
 have avG:G<=500500:=by omega
 have hcI:mM n.ak S=n.ak*G:=by
  unfold mM;rw[<-hG];have h2:S*(S+1) % 2=0:=by
   have:=WQ S;omega
  obtain⟨g,hg⟩:∃g,S*(S+1)=2*g:=⟨S*(S+1)/2,by omega⟩;have Sq:(S:Int)*((S:Int)+1)=2*(g:Int):=by exact_mod_cast hg
  rw[hg,Int.mul_assoc,Sq,show n.ak*(2*(g:Int))=2*(n.ak*g)by grind];simp
 have b1:=gM (a:=n.ak) (A:=1000) (b:=(G:Int)) (B:=500500) (by omega) hn2 (by omega) (by omega);have auU:(S:Int)*((S:Int)+1)=((S*(S+1):Nat):Int):=by push_cast;rfl
 have m1:IntKind.i64.wrap ((S:Int)+1)=(S:Int)+1:=aF (by omega);have m2:IntKind.i64.wrap ((S:Int)*((S:Int)+1))=(S:Int)*((S:Int)+1):=by rw[auU];exact aF (by omega)
 have m3:IntKind.i64.wrap (((S:Int)*((S:Int)+1)).tdiv 2)=(G:Int):=by rw[hGI];exact aF (by omega)
 have m4:IntKind.i64.wrap (n.ak*(G:Int))=n.ak*(G:Int):=aF (by omega);obtain⟨C,hC⟩:=kK (a:=n.ak*(G:Int)) (by omega);rw[hC]at m4 hcI b1;rw[hG]at zG;refine arb.aeQ hN (by simp) (by omega) ?_ λaV=>?_
 ·rintro val mG ⟨rfl,rfl⟩;refine⟨λr hr h=>?_,λr hr=>?_⟩
  ·rw[qr hr (by simp)];exact h
  ·rw[aH,aZ (by omega),aH,aZ (by omega)];exact hN r (by omega)
 obtain⟨nt,nn,ns,au⟩:=n;obtain⟨cs,ci,sw⟩:=x;obtain⟨ls,bK,cj⟩:=l;simp only at hls;subst hls;simp only[aD.enc,Input.enc,aU.enc]at aC;simp only at m4 hcI hC;simp[aD.enc,Input.enc];apply aa.ag aC fw [2,3,4];simp[VK];refine aa.le (ml (l:=[(2,.v (.box [ti nt,ti nn,ti ns,.sl (aW au)])),(3,.v (.box [.sl (cz cs),.sl (aG ci),ti sw]))]) (aY:=N+500) aV (by omega) (by simp;omega) ?_) ?_
 ·simp[fq];exact⟨bZ (l:=[]) aV (by omega) (by simp),bZ (l:=[]) aV (by omega) (by simp)⟩
 apply aa.sq aC fw [2,3,23];simp[VL];apply aa.c0 rfl;apply aa.skip;simp;apply aa.ag aC fw [2,3,5];simp[VN];refine aa.le (ml (l:=[(2,.v (.box [ti nt,ti nn,ti ns,.sl (aW au)])),(3,.v (.box [.sl (cz cs),.sl (aG ci),ti sw])),(5,.v (.box [ti S,.sl (kL bK),.sl (aG cj)]))]) (aY:=N+1000) aV (by omega) (by simp;omega) ?_) ?_
 ·simp[fq];exact bZ (l:=[]) aV (by omega) (by simp)
 apply aa.ag aC fw [2,3,5,6];simp[VO,m1,m2,m3];refine aa.le (Le.same (l:=[(2,.v (.box [ti nt,ti nn,ti ns,.sl (aW au)])),(3,.v (.box [.sl (cz cs),.sl (aG ci),ti sw])),(5,.v (.box [ti S,.sl (kL bK),.sl (aG cj)])),(6,.v (ti G))]) (aY:=N+2000) (λq hq=>hN q (by omega)) (by simp)) ?_;apply aa.ag aC fw [4];simp[VP,m4,hC];refine⟨by simp[dR];omega, ?_⟩;apply aa.ret;refine⟨rfl, ?_⟩;have hcT:bR (iD ⟨nt,nn,ns,au⟩ ⟨S,bK,cj⟩ [])=List.replicate C [T.int .i64 0,T.int .i64 0,T.int .i64 0,T.int .i64 0]:=by
  rw[hz];simp only;rw[hcI];simp[bR,Cell.enc]
 simp only[mo,J0,qx,hcT];rw[show JS.left S ⟨[],0,0,false⟩=G from zG];rfl
def og(n:aD)(ci:bT):Prop:=(n.au.length:Int)<=60/\n.ak<=60/\(ci.length:Int)<=30
instance(n:aD)(ci:bT):Decidable (og n ci):=by unfold og;infer_instance
def asY(n:aD)(ci:bT):bw aj 24 [n.enc,.sl (aG ci)] (.bool (decide (og n ci))):=by
 obtain⟨R,hR⟩:=be (decide (og n ci));rw[hR];obtain⟨nt,nn,ns,au⟩:=n;have A1:(aW au).length=au.length:=by simp[aW]
 refine aro.ok (by simp) (aT ?_);simp[aD.enc];apply aa.ag cL fw [1,2];simp[We];refine aa.lk (o:=[]) (l:=[(1,.v (.sl (aG ci))),(2,.v (.box [ti nt,ti nn,ti ns,.sl (aW au)]))]) (aY:=1200) (by simp) ?_;refine aa.cH cL fw [(4,.v (.bool R))] ?_ ?_
 ·by_cases q1:(au.length:Int)<=60
  ·by_cases q2:nn<=60
   ·by_cases q3:(ci.length:Int)<=30
    ·have:R=true:=by rw[<-hR];simp[og,q1,q2,q3]
     simp[zW,A1,q1,q2,q3,this]
    ·have:R=false:=by rw[<-hR];simp[og,q3]
     simp[zW,A1,q1,q2,q3,this]
   ·have:R=false:=by rw[<-hR];simp[og,q2]
    simp[zW,A1,q1,q2,this]
  ·have:R=false:=by rw[<-hR];simp[og,q1]
   simp[zW,A1,q1,this]
 apply aa.ret;simp[dm]
def yF(l:List cP)(b:Int)(i:Nat):Prop:=((l.getD i default).read.length:Int)<=b
instance(l:List cP)(b:Int)(i:Nat):Decidable (yF l b i):=by unfold yF;infer_instance
def Ot(x:Input)(a b:Int):Prop:=((x.aw.length:Int)<=a/\(x.insert.length:Int)<=b)/\∀i,i<x.aw.length->yF x.aw b i
instance(x:Input)(a b:Int):Decidable (Ot x a b):=by unfold Ot;infer_instance
def asZ(x:Input)(a b:Int)(ha:a<=1000000000):bw aj 25 [x.enc,ti a,ti b] (.bool (decide (Ot x a b))):=by
 have dd:Ot x a b↔((x.aw.length:Int)<=a/\(x.insert.length:Int)<=b)/\∀i,i<x.aw.length->yF x.aw b i:=Iff.rfl;obtain⟨R,hR⟩:=be (decide (Ot x a b));rw[hR];have da:¬Ot x a b->R=false:=λh=>by rw[<-hR];simp[h]
 obtain⟨cs,ci,sw⟩:=x;simp only at dd;refine arq.ok (by simp) (aT ?_);simp[Input.enc];apply aa.ag cL fw [1,2,3];simp[Wf];refine aa.lk (o:=[]) (l:=[(1,.v (ti a)),(2,.v (ti b)),(3,.v (.box [.sl (cz cs),.sl (aG ci),ti sw]))]) (aY:=1200) (by simp) ?_;apply aa.seq;obtain⟨c1,b8⟩:=be (decide (¬((cs.length:Int)<=a/\(ci.length:Int)<=b)):Bool);refine aa.cH cL fw [(1,.v (ti a)),(2,.v (ti b)),(3,.v (.box [.sl (cz cs),.sl (aG ci),ti sw])),(19,.v (.bool c1))] ?_ ?_
 ·by_cases q1:a<(cs.length:Int)
  ·have:c1=true:=by rw[<-b8];simp only[tD];omega
   simp[DX,q1,this]
  ·by_cases q2:b<(ci.length:Int)
   ·have:c1=true:=by rw[<-b8];simp only[tD];omega
    simp[DX,q1,q2,this]
   ·have:c1=false:=by rw[<-b8];simp only[Dm];omega
    simp[DX,q1,q2,this]
 refine aa.cond rfl (λg=>?_) (λg=>?_)
 ·rw[g]at b8;have b8:=qW b8;apply aa.ag cL fw [6];simp[Wg];apply aa.ret;rw[da λh=>b8 (dd.1 h).1];simp[dm]
 rw[g]at b8;have b8:=wQ b8;simp only[Classical.not_not]at b8;apply aa.skip;simp;apply aa.sq cL fw [2,3,7];simp[Wh];apply aa.block;refine aa.loop (λy:Nat=>⟨DM.look [(2,.v (ti b)),(3,.v (.box [.sl (cz cs),.sl (aG ci),ti sw])),(7,.v (ti y))],cJ [],2000,1000,[]⟩)
  (λy=>y<=cs.length/\∀i,i<y->yF cs b i) (λy=>cs.length-y) 0 (Le.bH (o:=[]) ?_ ?_ ?_ ?_) (by simp) (λy hy=>?_)
 iterate 4(·simp)
 obtain⟨mf,fW⟩:=hy;apply aa.seq;apply aa.seq;apply aa.fJ cL fw [2,3,7,24];simp[Wi];refine aa.cond rfl (λcU=>?_) (λcU=>?_)
 ·have cU:y<cs.length:=by simpa using cU
  have r1:=kg cU;obtain⟨⟨ck,cr,cd⟩,hu⟩:=be (cs.getD y default);rw[hu]at r1;have kr:yF cs b y↔(cr.length:Int)<=b:=by unfold yF;rw[hu]
  apply aa.skip;simp;apply aa.seq;apply aa.block;apply aa.ag cL fw [2,3,7,35];simp[Wj,r1,cU,cP.enc];refine aa.cond rfl (λg2=>?_) (λg2=>?_)
  ·have g2:b<(cr.length:Int):=by simpa using g2
   apply aa.ag cL fw [6];simp[Wk];apply aa.ret;rw[da λh=>by have:=kr.1 ((dd.1 h).2 y cU);omega];simp[dm]
  ·have g2:¬b<(cr.length:Int):=by simpa using g2
   apply aa.skip;simp;apply aa.fJ cL fw [2,3,7];simp[Wl];rw[aF (by omega)];refine⟨y+1,Le.bH (o:=[]) ?_ ?_ ?_ ?_,⟨by omega,λi hi=>?_⟩,by omega⟩;iterate 4(·simp)
   ·by_cases e:i=y
    ·subst e;exact kr.2 (by omega)
    ·exact fW i (by omega)
 ·have GG:y=cs.length:=by
   have:¬y<cs.length:=by simpa using cU
   omega
  subst GG;apply aa.exit;simp;apply aa.ag cL fw [6];simp[Wm];apply aa.ret;have:R=true:=by rw[<-hR];exact decide_eq_true (dd.2 ⟨b8,fW⟩)
  simp[dm,this]
def qw(n:aD)(x:Input):Prop:=((og n x.insert/\n.ak<=12)/\(n.au.length:Int)<=20)/\Ot x 4 6
instance(n:aD)(x:Input):Decidable (qw n x):=by unfold qw;infer_instance
def adK(n:aD)(x:Input):bw aj 10 [n.enc,x.enc] (.bool (decide (qw n x))):=by
 obtain⟨R,hR⟩:=be (decide (qw n x));rw[hR];have t24:=asY n x.insert;have t25:=asZ x 4 6 (by omega);obtain⟨b1,xT⟩:=be (decide (og n x.insert));obtain⟨b2,gm⟩:=be (decide (Ot x 4 6));rw[xT]at t24;rw[gm]at t25;have aC:ay aj (bB [(25,dh (λts=>ts=[x.enc,ti 4,ti 6]) (λ_=>.bool b2) true),(24,dh (λts=>ts=[n.enc,.sl (aG x.insert)]) (λ_=>.bool b1) true)]):=by
  refine ay.cons (ay.cons ay.nil ?_) ?_
  ·rintro ts rfl;exact⟨t24,λ_=>rfl⟩
  ·rintro ts rfl;exact⟨t25,λ_=>rfl⟩
 have hRv:R=(((b1&&decide (n.ak<=12))&&decide ((n.au.length:Int)<=20))&&b2):=by
  rw[<-hR,<-xT,<-gm,Zcb,decide_eq_true_iff];simp[qw]
 clear hR xT gm t24 t25;obtain⟨nt,nn,ns,au⟩:=n;obtain⟨cs,ci,sw⟩:=x;have A1:(aW au).length=au.length:=by simp[aW]
 simp only[aD.enc,Input.enc]at aC;simp only at hRv;refine aq7.ok (by simp) (aT ?_);simp[aD.enc,Input.enc];apply aa.ag aC fw [2,3];simp[VG];refine aa.lk (o:=[]) (l:=[(2,.v (.box [ti nt,ti nn,ti ns,.sl (aW au)])),(3,.v (.box [.sl (cz cs),.sl (aG ci),ti sw]))]) (aY:=1200) (by simp) ?_;refine aa.cH aC fw [(4,.v (.bool R))] ?_ ?_
 ·cases b1 with
  |false=>simp[wx,hRv]
  |true=>
   by_cases q2:nn<=12
   ·by_cases q3:(au.length:Int)<=20
    ·have q3':au.length<=20:=by omega
     cases b2 with
     |false=>simp[wx,A1,q2,q3,hRv]
     |true=>simp[wx,A1,q2,q3,hRv]
    ·have q3':¬au.length<=20:=by omega
     simp[wx,A1,q2,q3,hRv]
   ·simp[wx,q2,hRv]
 apply aa.ret;simp[dm]
def asR(c:dW)(hl:c.cells.length<=1000000000000):bw aj 13 [c.enc,c.enc] (.bool true):=by
 obtain⟨cn,cs,cl⟩:=c;simp only at hl;refine ard.ok (by simp) (aT ?_);simp[dW.enc];apply aa.ag cL fw [2,3];simp[VQ];refine aa.lk (o:=[]) (l:=[(2,.v (.box [ti cn,ti cs,.sl (bR cl)])),(3,.v (.box [ti cn,ti cs,.sl (bR cl)]))]) (aY:=1200) (by simp) ?_;apply aa.seq;refine aa.cH cL fw [(2,.v (.box [ti cn,ti cs,.sl (bR cl)])),(3,.v (.box [ti cn,ti cs,.sl (bR cl)])),(26,.v (.bool false))] ?_ ?_
 ·simp[VR]
 apply aa.c0 rfl;apply aa.skip;simp;apply aa.sq cL fw [2,3,5];simp[VS];apply aa.block;refine aa.loop (λy:Nat=>⟨DM.look [(2,.v (.box [ti cn,ti cs,.sl (bR cl)])),(3,.v (.box [ti cn,ti cs,.sl (bR cl)])),(5,.v (ti y))],cJ [],2000,1000,[]⟩)
  (λy=>y<=cl.length) (λy=>cl.length-y) 0 (Le.bH (o:=[]) ?_ ?_ ?_ ?_) (by simp) (λy hy=>?_)
 iterate 4(·simp)
 have aV:(bR cl).length=cl.length:=by simp[bR]
 apply aa.seq;apply aa.seq;apply aa.fJ cL fw [2,3,5,31];simp[VT];refine aa.cond rfl (λcU=>?_) (λcU=>?_)
 ·have cU:y<cl.length:=by simpa [aV]using cU
  have r1:=vI cU;obtain⟨⟨a,b,c,d⟩,hu⟩:=be (cl.getD y default);rw[hu]at r1;apply aa.skip;simp;apply aa.seq;apply aa.block;apply aa.ag cL fw [2,3,5,44];simp[VU,r1,cU,aV,Cell.enc];apply aa.c0 rfl;apply aa.skip;simp;apply aa.fJ cL fw [2,3,5];simp[VV];rw[aF (by omega)];refine⟨y+1,Le.bH (o:=[]) ?_ ?_ ?_ ?_,by omega,by omega⟩;iterate 3(·simp)
  ·simp
 ·apply aa.exit;simp;apply aa.ag cL fw [4];simp[VW];apply aa.ret;simp[dm]
structure RJ where
 n:aD
 x:Input
 as0:Int
 done:Int
 C0:Bool
abbrev RJ.cells(j:RJ):aL:=[ti j.n.aM,ti j.n.ak,ti j.n.start,.sl (aW j.n.au),.sl (cz j.x.aw),.sl (aG j.x.insert),ti j.x.swap,ti j.as0,ti j.done,.bool j.C0]
def RJ.enc(j:RJ):T:=.agg j.cells
abbrev WL:T:=.agg [ti 0,ti 0,ti 0,.sl [],.sl [],.sl [],ti 0,ti 0,ti 0,.bool false]
def RA(n:aD)(x:Input):Prop:=HB n x.insert/\P9 x n.aM
instance(n:aD)(x:Input):Decidable (RA n x):=by unfold RA;infer_instance
def WK(n:aD)(x:Input):RA n x↔uT n x:=by
 have Lv:P9 x n.aM->d9 n x.insert:=λh=>by
  obtain⟨h1,h2⟩:=h;have hl:(x.insert.length:Int)=n.aM:=by
   by_cases e:(x.insert.length:Int)=n.aM
   ·exact e
   ·exact eB (.inr (.inr (.inl e))) h1
  refine⟨hl,λi hi=>?_⟩;have:=h2 i (by omega);unfold zJ at this;unfold x9;exact this
 constructor
 ·rintro⟨h1,h2⟩;exact⟨h1.1.1,h2,(Oe (Lv h2)).2 h1⟩
 ·rintro⟨_,h2,h3⟩;exact⟨(Oe (Lv h2)).1 h3,h2⟩
def uk(n:aD)(x:Input):T:=if RA n x then .ew [RJ.enc ⟨n,x,((gX x*(gX x+1)/2:Nat):Int),0,false⟩,.bool true]else .ew [WL,.bool false]
def asK(n:aD)(x:Input)(h1:n.au.length<=9223372036854775807)(h2:x.insert.length<=9223372036854775807):bw aj 9 [n.enc,x.enc] (uk n x):=by
 obtain⟨R,hR⟩:=be (uk n x);rw[hR];unfold uk at hR;have anx:=t22 n x.insert h1 h2;have anz:=λh=>t28 x n.aM h;obtain⟨b1,xT⟩:=be (decide (HB n x.insert));obtain⟨b2,gm⟩:=be (decide (P9 x n.aM));rw[xT]at anx;rw[gm]at anz;have iX:b1=true->n.aM<=1000000000000:=λhb=>by
  rw[<-xT]at hb;have:qV n:=(qW hb).1.1.1;unfold qV at this;omega
 have as1:b2=true->x.aw.length<=60:=λhb=>by
  rw[<-gm]at hb;have h:=(qW hb).1;by_cases e:(x.aw.length:Int)>60
  ·exact eB (.inr (.inl e)) h
  ·omega
 have aC:ay aj (bB [(23,dh (λts=>ts=[x.enc,ti n.aM]/\b1=true) (λ_=>.bool b2) true),(22,dh (λts=>ts=[n.enc,.sl (aG x.insert)]) (λ_=>.bool b1) true)]):=by
  refine ay.cons (ay.cons ay.nil ?_) ?_
  ·rintro ts rfl;exact⟨anx,λ_=>rfl⟩
  ·rintro ts ⟨rfl,hb⟩;exact⟨anz (iX hb),λ_=>rfl⟩
 have hP:RA n x↔b1=true/\b2=true:=by
  rw[<-xT,<-gm];simp[RA]
 rw[show(if RA n x then T.ew [RJ.enc ⟨n,x,((gX x*(gX x+1)/2:Nat):Int),0,false⟩,.bool true]else .ew [WL,.bool false])=if b1=true/\b2=true then T.ew [RJ.enc ⟨n,x,((gX x*(gX x+1)/2:Nat):Int),0,false⟩,.bool true]else .ew [WL,.bool false]by simp only[hP]]at hR;clear hP iX anx anz xT gm;obtain⟨nt,nn,ns,au⟩:=n;obtain⟨cs,ci,sw⟩:=x;simp only[aD.enc,Input.enc]at aC;simp only[RJ.enc,RJ.cells,gX]at hR as1;refine aq5.ok (by simp) (aT ?_);simp[aD.enc,Input.enc];apply aa.ag aC fw [2,3,4,5];simp[VC];refine aa.lk (o:=[(1005,.box [.v (ti 0),.v (ti 0),.v (ti 0),.aX,.aX,.aX,.v (ti 0),.v (ti 0),.v (ti 0),.v (.bool false)])]) (l:=[(2,.v (.box [ti nt,ti nn,ti ns,.sl (aW au)])),(3,.v (.box [.sl (cz cs),.sl (aG ci),ti sw])),(4,.ptr 1005 0),(5,.v (.bool false))]) (aY:=1200) (by simp) ?_;apply aa.seq;obtain⟨c1,b8⟩:=be ((!(b1&&b2)):Bool);refine aa.cH aC fw [(2,.v (.box [ti nt,ti nn,ti ns,.sl (aW au)])),(3,.v (.box [.sl (cz cs),.sl (aG ci),ti sw])),(4,.ptr 1005 0),(5,.v (.bool false)),(18,.v (.bool c1))] ?_ ?_
 ·cases b1 with
  |false=>simp[Kr,<-b8]
  |true=>cases b2<;>simp[Kr,<-b8]
 refine aa.cond rfl (λg=>?_) (λg=>?_)
 ·rw[g]at b8;rw[aZ (by rintro⟨e1,e2⟩;rw[e1,e2]at b8;simp at b8)]at hR;subst hR;apply aa.ag aC fw [4,5];simp[VD];apply aa.ret;simp[Gg]
 ·rw[g]at b8;have hb:b1=true/\b2=true:=by simpa using b8
  rw[cF hb]at hR;subst hR;have hk:=as1 hb.2;obtain⟨K,hK⟩:=be cs.length;rw[hK]at hk⊢;have asH:(2*K+1)*(2*K+1+1)<=121*122:=ZcV (by omega) (by omega);have m1:IntKind.i64.wrap (2*(K:Int))=2*(K:Int):=aF (by omega);have m2:IntKind.i64.wrap (2*(K:Int)+1)=2*(K:Int)+1:=aF (by omega);have m3:IntKind.i64.wrap (2*(K:Int)+1+1)=2*(K:Int)+1+1:=aF (by omega);have hI:(2*(K:Int)+1)*(2*(K:Int)+1+1)=(((2*K+1)*(2*K+1+1):Nat):Int):=by push_cast;rfl
  obtain⟨W,hW⟩:=be ((2*K+1)*(2*K+1+1));rw[hW]at hI asH⊢;have m4:IntKind.i64.wrap (W:Int)=(W:Int):=aF (by omega);have m5:IntKind.i64.wrap ((W:Int).tdiv 2)=((W/2:Nat):Int):=by rw[E6 (by omega),aF (by omega)];omega
  apply aa.skip;simp;apply aa.ag aC fw [2,3,4,6];simp[VE,hK,m1,m2];apply aa.ag aC fw [4,5];simp[VF,m3,hI,m4];apply aa.ret;simp[Gg];exact(aF (by omega)).symm
section
def n0:aD:=⟨1,1,0,[⟨2,0,0,0,2,0⟩]⟩
def x0:Input:=⟨[⟨0,[0],3⟩],[4],0⟩
def adO:uT n0 x0:=by decide+kernel
def b0:((gE n0 (bf x0)).getD 2 default).val=⟨2,1⟩:=by decide+kernel
def anA:(gE n0 (bf x0)).length=6:=by decide+kernel
def as2:bw aj 21 [] (.ew [n0.enc,x0.enc]):=by
 refine arm.ok (by simp) (aT ?_);simp;apply aa.ag cL fw [0,1];simp[Wc];apply aa.ag cL fw [0,1];simp[Wd,gn];apply aa.ret;simp[Nk,n0,x0,aD.enc,Input.enc,aW,dq.enc,cz,cP.enc,aG]
def e0:bq:=λ_=>none
abbrev mP(P R:Nat)(n:aD)(x:Input)(j:JS):bq:=fX e0 P R n (bf x) (gX x) j
def Ou{P R:Nat}{n:aD}{x:Input}{j:JS}(h:R<P):df (mP P R n x j) (P+1):=by
 have hrn:aO [(P,Ob.box (mo n (bf x) (gX x) (.bC R 0) j)),(R,qx n (bf x) j.pre)] e0 R≠none:=by
  simp only[aH,bL];rw[aZ (by omega)];simp
 refine km (N:=0) (f:=e0) (λr o h=>by cases h) (by omega) λq hq=>?_;simp only[fN,lq,ld]at hq;rcases hq with rfl|rfl
 ·refine⟨by simp,λm hm=>?_⟩;simp only[mo,bb,bQ,aP,vZ,yN,fN,lq,ld]at hm;rw[hm];exact hrn
 ·exact⟨by simp only;omega,λm hm=>by simp[qx,bb]at hm⟩
def oe{P R:Nat}{n:aD}{x:Input}{j:JS}(h:R<P):Rt n (bf x) (gX x) j (mP P R n x j) P R:=AC (j:=j) (by omega) j
def Lf{P R:Nat}{n:aD}{x:Input}{j:JS}(h:R<P){k:Nat}(hk:P<k):∀q,k<=q->mP P R n x j q=none:=λq hq=>by
 simp only[mP,fX,aH,bL];rw[aZ (by omega),aZ (by omega)];rfl
def Ok(n:aD)(x:Input)(P R:Nat):aO (B0 n x P R) e0=mP P R n x J0:=rfl
section
variable{P R:Nat}{n:aD}{x:Input}{j:JS}
def IS(h:R<P)(j':JS){q:Nat}(hq:mP P R n x j q=none):mP P R n x j' q=none:=by
 have:=sT (j':=j') (oe (n:=n) (x:=x) (j:=j) h) hq
 rwa [show fX (mP P R n x j) P R n (bf x) (gX x) j'=mP P R n x j' from sS]at this
def Ov(h:R<P)(I:YN n (bf x) (gX x))(hj:j.ok (gX x))(k:Int):ay aj (bB [(17,en (k1 [.ptr P 0,.v (ti k)] (mP P R n x j) (.v (ti (ln (gX x) j k:Nat))) (mP P R n x (j.cm (gX x) (ln (gX x) j k)))))]):=
 BO ay.nil (λM hM=>by
  have:=Lc (k:=k) hM I hj (oe h)
  rwa [show fX (mP P R n x j) P R n (bf x) (gX x) (j.cm (gX x) (ln (gX x) j k))=mP P R n x (j.cm (gX x) (ln (gX x) j k))from sS]at this) (λq hq=>IS h _ hq)
def afX(h:R<P):ay aj (bB [(18,en (k1 [.ptr P 0] (mP P R n x j) (.v (ti (j.left (gX x)))) (mP P R n x j)))]):=
 BO ay.nil (λM hM=>asX hM (oe h).box) (λq hq=>hq)
def RB(h:R<P)(hc:j.C0=true\/0<j.left (gX x)):ay aj (bB [(19,en (k1 [.ptr P 0] (mP P R n x j) (.v (.ew [.agg [ti 0,ti 0,.sl []],ti (if j.C0=true then 12 else 15)])) (mP P R n x j)))]):=
 BO ay.nil (λM hM=>anv hM (oe h).box hc) (λq hq=>hq)
def RC(h:R<P)(h1:j.C0=false)(h2:j.left (gX x)=0):ay aj (bB [(19,en (k1 [.ptr P 0] (mP P R n x j) (.ew [.agg [.v (ti n.ak),.v (ti (bf x).ba),.bC R 0],.v (ti 0)]) (mP P R n x j)))]):=
 BO ay.nil (λM hM=>Rw hM (oe h) h1 h2) (λq hq=>hq)
end
def asJ:bw aj 8 [] (.bool true):=by
 have hJ:=adO.jin (by decide);have hS:gX x0=3:=rfl;have hj0:J0.ok 3:=IP (by omega);have xZ:J0.left 3=6:=by decide+kernel
 have aC:ay aj (bB [(21,dh (λts=>ts=[]) (λ_=>.ew [n0.enc,x0.enc]) false)]):=by
  refine ay.cons ay.nil ?_;rintro ts rfl;exact⟨as2,λh=>by cases h⟩
 have b7:n0.enc=.agg [ti 1,ti 1,ti 0,.sl (aW n0.au)]:=rfl;have DE:x0.enc=.agg [.sl (cz x0.aw),.sl (aG x0.insert),ti 0]:=rfl;refine aq3.ok (by simp) (aT ?_);simp;apply aa.ag aC fw [0];simp[Vy];apply aa.ag aC fw [0,1,2];simp[Vz,b7,DE];refine aa.lk (o:=[]) (l:=[(1,.v (.box [ti 1,ti 1,ti 0,.sl (aW n0.au)])),(2,.v (.box [.sl (cz x0.aw),.sl (aG x0.insert),ti 0]))]) (aY:=1500) (by simp) ?_;refine aa.seq (aa.to ⟨DM.look [(3,.ptr 3623 0)],mP 3623 3619 n0 x0 J0,5000,1000,[]⟩ (aa.al8 cL (N':=1575+3000) [3] (pre:=[⟨.load 4 true (.tmp 1),(some 15),none,[],none⟩,⟨.load 3 true (.tmp 2),(some 16),none,[],none⟩]) (post:=[⟨.sh (.tmp 17),(some 3),none,[2,2,0,1,2],none⟩]) (rs:=VA) rfl ?_) ?_)
 ·simp;refine⟨_,Ld (n:=n0) (x:=x0) (λq _=>rfl) adO (by decide), ?_⟩;rintro val mG ⟨rfl,rfl⟩;exact dU (Ok n0 x0 3623 3619) (Lf (by omega) (by omega)) (by simp)
 have WP:3619<3623:=by omega
 have aV:=λj=>Ou (n:=n0) (x:=x0) (j:=j) WP;have mE:=λj=>Lf (n:=n0) (x:=x0) (j:=j) WP (k:=5000) (by omega);have s1:ln (gX x0) J0 4=4:=by unfold ln;rw[aZ (by simp[J0]),hS,xZ];rfl
 obtain⟨ha1,ha2,ha3⟩:=hj0.cm 4 (by omega);obtain⟨xT,gm,Pq⟩:=hj0.cm 6 (by omega);have Xa:(J0.cm 3 4).cm 3 2=J0.cm 3 6:=AD 3 J0 4 2;obtain⟨Ja,hJa⟩:=be (J0.cm 3 4);obtain⟨Jc,hJc⟩:=be (J0.cm 3 6);rw[hJa]at ha1 ha2 ha3 Xa;rw[hJc]at xT gm Pq Xa;have ha2:Ja.left (gX x0)=2:=by rw[hS];omega
 have gm:Jc.left (gX x0)=0:=by rw[hS];omega
 have ha3:Ja.C0=false:=ha3;have Pq:Jc.C0=false:=Pq;have s2:ln (gX x0) Ja 9=2:=by unfold ln;rw[aZ (by simp[ha3]),ha2];rfl
 have e1:=Ov WP hJ (j:=J0) (k:=4) hj0;rw[s1,hS,hJa]at e1;have e2:=RB (n:=n0) (x:=x0) WP (j:=Ja) (.inr (by omega));rw[ha3]at e2;have e3:=afX (n:=n0) (x:=x0) WP (j:=Ja);rw[ha2]at e3;have e4:=Ov WP hJ (j:=Ja) (k:=9) (by rw[hS];exact ha1);rw[s2,hS,Xa]at e4;have e5:=RC (n:=n0) (x:=x0) WP (j:=Jc) Pq gm;simp;apply aa.sq cL fw [3,19];simp[VB];apply aa.c0 rfl;apply aa.skip;simp;apply aa.cY e1 fw (rs:=Gb) rfl (by kernel_rfl) [3,4];simp[Gb];refine aa.le (dU (l:=[(3,.ptr 3623 0),(4,.v (ti 4))]) (aY:=5000) rfl (mE _) (by simp)) ?_;apply aa.cY e2 fw (rs:=Gc) rfl (by kernel_rfl) [3,4,5,6];simp[Gc];refine aa.le (Kn.alh (L:=[(5006,.box [.v (ti 0),.v (ti 0),.v (.sl [])]),(5006,.box [.v (ti 0),.v (ti 0),.aX])]) (l:=[(3,.ptr 3623 0),(4,.v (ti 4)),(6,.v (ti 15))]) (aY:=5000) (aV Ja) (by omega) (by simp) (by omega) ?_) ?_
 ·have:=(oe (n:=n0) (x:=x0) (j:=Ja) WP).box;simp[this]
 apply aa.cY e3 fw (rs:=Gd) rfl (by kernel_rfl) [3,4,6,7];simp[Gd];refine aa.le (dU (l:=[(3,.ptr 3623 0),(4,.v (ti 4)),(6,.v (ti 15)),(7,.v (ti 2))]) (aY:=5000) rfl (mE _) (by simp)) ?_;apply aa.cY e4 fw (rs:=Ge) rfl (by kernel_rfl) [3,4,6,7,8];simp[Ge];refine aa.le (dU (l:=[(3,.ptr 3623 0),(4,.v (ti 4)),(6,.v (ti 15)),(7,.v (ti 2)),(8,.v (ti 2))]) (aY:=5000) rfl (mE _) (by simp)) ?_;apply aa.cY e5 fw (rs:=Gf) rfl (by kernel_rfl) [4,6,7,8,9,10];simp[Gf];have uG:Jc.pre=Rq 3:=xT.done (by rw[<-hS];exact gm);have uF:=(oe (n:=n0) (x:=x0) (j:=Jc) WP).bE;rw[show qx n0 (bf x0) Jc.pre=.bE 0 65 4 (bR (gE n0 (bf x0)))by rw[uG];unfold qx;rw[G3 (S:=3) rfl]]at uF;obtain⟨B,hB⟩:=be (gE n0 (bf x0));have hB6:=anA;have hB2:=b0;rw[hB]at uF hB6 hB2;have jH:=vI (l:=B) (y:=2) (by omega);obtain⟨⟨ca,cb,cc,cd⟩,gZ⟩:=be (B.getD 2 default);rw[gZ]at jH hB2;simp only[Cell.val,dg.mk.injEq]at hB2;obtain⟨rfl,rfl⟩:=hB2;have auV:(bR B).length=6:=by simp[bR,hB6]
 refine aa.le (dU (mG:=aO [(5010,.box [.v (ti 1),.v (ti 3),.bC 3619 0]),(5010,.box [.v (ti 0),.v (ti 0),.aX])] (mP 3623 3619 n0 x0 Jc)) (l:=[(4,.v (ti 4)),(6,.v (ti 15)),(7,.v (ti 2)),(8,.v (ti 2)),(9,.ptr 5010 0),(10,.v (ti 0))]) (aY:=5075) rfl (λq hq=>by
  rw[aH,aZ (by omega),aH,aZ (by omega)];exact mE Jc q (by omega)) (by simp)) ?_
 refine aa.cH cL fw [(0,.v (.bool true))] ?_ ?_
 ·have jH:DM.rowAt (bR B) 2=_:=jH;simp[Nj,uF,auV,jH,Cell.enc]
 apply aa.ret;simp[dm]
end
def qw.ci{n:aD}{x:Input}(h:qw n x):x.insert.length<=6/\x.aw.length<=4:=by
 have:=h.2.1;omega
def alk(n:aD)(x:Input)(h1:n.au.length<=9223372036854775807)(h2:x.insert.length<=9223372036854775807){b:Bool}(hb:decide (qw n x)=b):
  ay aj (bB [(10,dh (λts=>ts=[n.enc,x.enc]) (λ_=>.bool b) true),(9,dh (λts=>ts=[n.enc,x.enc]) (λ_=>uk n x) false),(8,dh (λts=>ts=[]) (λ_=>.bool true) true)]):=by
 refine ay.cons (ay.cons (ay.cons ay.nil ?_) ?_) ?_
 ·rintro ts rfl;exact⟨asJ,λ_=>rfl⟩
 ·rintro ts rfl;exact⟨asK n x h1 h2,λh=>by cases h⟩
 ·rintro ts rfl;rw[<-hb];exact⟨adK n x,λ_=>rfl⟩
def adL{n:aD}{x:Input}(h:uT n x):uk n x=.ew [RJ.enc ⟨n,x,((gX x*(gX x+1)/2:Nat):Int),0,false⟩,.bool true]:=by
 unfold uk;rw[cF ((WK n x).2 h)]
def adM{n:aD}{x:Input}(h:¬uT n x):uk n x=.ew [WL,.bool false]:=by
 unfold uk;rw[aZ (λe=>h ((WK n x).1 e))]
def afS(S:Nat)(h:1<=S):J0.left S=S*(S+1)/2:=by
 have:=(IP h).WM;have h3:=WN S;have h5:J0.pre.length=0:=rfl;omega
section
def G5{f g:bq}{tm:dj}:∀{l:eO},fk tm l->(∀p∈l,∃t,p.2=.v t)->fK f g id tm l
 |[],_,_=>trivial
 |(k,d)::l,h,hv=>by
  obtain⟨t,ht⟩:=hv _ (Zl ..);simp only at ht;subst ht;refine⟨?_,G5 h.2 λp hp=>hv p (Zm _ hp)⟩;rw[h.1];exact .inr rfl
def WO{tm:dj}:∀{l:eO},fk tm l->∀p∈l,DM.look l p.1=tm p.1
 |(j,d)::l,h,p,hp=>by
  rw[nJ];split
  ·rename_i e;rw[e];exact h.1.symm
  ·rename_i e;rcases fN.1 hp with rfl|hp
   ·exact eB rfl e
   ·exact WO h.2 p hp
def BZ{tm:dj}:∀{l:eO},fk tm l↔∀p∈l,tm p.1=p.2
 |[]=>by simp[fk]
 |(k,d)::l=>by simp[fk,BZ (l:=l)]
def Rs{tm:dj}{l:eO}{k:Nat}{d:DV}(hl:fk tm l)(hk:∀p∈l,p.1≠k):fk (DM.look ((k,d)::l)) l:=by
 rw[BZ];intro p hp;rw[nJ,aZ (hk p hp),WO hl p hp];exact BZ.1 hl p hp
def Oh{tm:dj}{f:bq}{k X R:Nat}{a b:Int}{e sz:Nat}{av:List (aL)}{l:eO}{aK aY:Nat}(hX:f X=some (.box [.v (ti a),.v (ti b),.bC R 0]))(hR:f R=some (.bE 0 e sz av))(hXn:X<aY)(hX0:1000<=X)(A5:∀r,r<1000->f r=none)
  (hk:tm k=.ptr X 0) (hl:fk tm l) (hv:∀p∈l,∃t,p.2=.v t) (Ip:∀p∈l,p.1≠k):
  Le ⟨tm,f,aK,1000,[]⟩ ⟨DM.look ((k,.v (.box [ti a,ti b,.sl av]))::l),cJ [],aY,1000,[]⟩:=by
 have hXR:R≠X:=λh=>by rw[h,hX]at hR;cases hR
 have avF:X≠R:=λh=>hXR h.symm;refine Le.trans (b:=⟨DM.look ((k,.ptr X 0)::l),cJ [(X,.box [.v (ti a),.v (ti b),.v (.sl av)])],aY,1000,[]⟩) ?_ (Le.bH (o:=[]) (l:=(k,.v (.box [ti a,ti b,.sl av]))::l) ?_ ?_ ?_ ?_)
 ·refine Le.XV rfl rfl (λr hr=>?_) (λr o h=>?_) (λr hr o h=>?_) (λq=>mI ((k,.ptr X 0)::l) ⟨?_,G5 hl hv⟩ q)
  ·have:r≠X:=by simp only at hr;omega
   simp[cJ,this]
  ·simp only[cJ]at h;split at h
   ·rename_i e1;subst e1;cases h;refine⟨_,hX,.inl ?_⟩;refine⟨.inr rfl,.inr rfl,.inr ⟨⟨_,_,hR⟩, ?_⟩,rfl⟩;intro r' gS e2;simp only[id]at e2;subst e2;exact gS (by simp[cJ,hXR])
   ·cases h
  ·simp only at hr h;rw[A5 r hr]at h;cases h
  ·rw[hk];exact .inr ⟨rfl,rfl,_,show cJ _ X=_ by rw[cJ,cF rfl]⟩
 ·exact⟨hX0,trivial⟩
 ·trivial
 ·trivial
 ·refine⟨?_,G5 (Rs hl Ip) hv⟩;show iY _ _ id (DM.look ((k,.ptr X 0)::l) k) _;rw[nJ,cF rfl];exact .inr ⟨rfl,by simp[cJ],λ_ h=>eB rfl h⟩
section
variable{P R X:Nat}{n:aD}{x:Input}{j:JS}{o:Ob}
def IQ{S:Nat}(h1:j.ok S)(h2:j.left S=0){l:aU}(hS:l.ba=S):qx n l j.pre=.bE 0 65 4 (bR (gE n l)):=by
 unfold qx;rw[h1.done h2,G3 hS]
end
def YM{n:aD}{l:aU}{S:Nat}(I:YN n l S):(gE n l).length<=1000000000:=by
 have hn:=I.hn;have hl:=I.hl;have h1:=(X3 hn hl).1;have h2:=sJ (nn:=n.ak) (st:=l.ba) (by have:=hl.1;omega);have hb:=kD hl.2.1 l.ba.toNat (by have:=hl.1;omega);have:=gM (a:=n.ak) (A:=1000) (b:=pre l.ba l.ba.toNat) (B:=1000000) (by have:=hn.1;omega) hn.2.1 hb.1 (by have:=hl.2.1;have:=hl.1;omega);omega
end
section
def Oi:ai:=[
 L 4 3 51 [],
 L 3 4 52 [],
 o (.call 12 [(t 51),(t 52)]) 53 [0,1],
 o (.callS 11 [(t 53),(i 3)]) 54 [2,2],
 m 54 50 [3],
 e 0 50 55 [4],
 e 1 50 56 [4],
 o (.alloc [V 0,V 0,.aX]) 11 [],
 S 3 11 55 [7,5,3,0,1,2,3,4,5,7],
 m 56 12 (k [6,8] 8)]
def IR(n:aD)(x:Input):∃(a b c:Int) (d e f:List (aL)) (g h i:Int) (j:Bool),uk n x=.ew [.agg [ti a,ti b,ti c,.sl d,.sl e,.sl f,ti g,ti h,ti i,.bool j],.bool (decide (uT n x))]:=by
 by_cases h:uT n x
 ·exact⟨_,_,_,_,_,_,_,_,_,_,by rw[adL h,decide_eq_true h];rfl⟩
 ·exact⟨_,_,_,_,_,_,_,_,_,_,by rw[adM h,decide_eq_false h]⟩
def Ea{f:bq}{q:Nat}{P R:Nat}{n:aD}{x:Input}(h1:q≠P)(h2:q≠R)(h:f q=none):aO (B0 n x P R) f q=none:=by
 simp only[B0,aH,bL];rw[aZ h1,aZ h2];exact h
def nN(n:aD)(x y:Input)(j k:JS):bq:=fX (fX e0 10143 10139 n (bf y) (gX y) k) 7143 7139 n (bf x) (gX x) j
section
variable{n:aD}{x y:Input}{j k:JS}
def Eb:Rt n (bf x) (gX x) j (nN n x y j k) 7143 7139:=AC (j:=j) (by omega) j
def Oj(j':JS):fX (nN n x y j k) 7143 7139 n (bf x) (gX x) j'=nN n x y j' k:=sS
def Lb:Rt n (bf y) (gX y) k (nN n x y j k) 10143 10139:=by
 have:=oe (P:=10143) (R:=10139) (n:=n) (x:=y) (j:=k) (by omega);exact⟨by unfold nN fX;rw[aH,aZ (by omega),aH,aZ (by omega)];exact this.box,by unfold nN fX;rw[aH,aZ (by omega),aH,aZ (by omega)];exact this.bE⟩
def G6(k':JS):fX (nN n x y j k) 10143 10139 n (bf y) (gX y) k'=nN n x y j k':=by
 funext q;simp only[nN,fX,aH,bL];by_cases h1:q=10143
 ·subst h1;rfl
 by_cases h2:q=10139
 ·subst h2;rfl
 simp only[aZ h1,aZ h2]
def Ru(j k:JS):∀q,11095<=q->nN n x y j k q=none:=λq hq=>by
 simp only[nN,fX,aH,bL];rw[aZ (by omega),aZ (by omega),aZ (by omega),aZ (by omega)];rfl
def G7(j' k':JS){q:Nat}(h:nN n x y j k q=none):nN n x y j' k' q=none:=by
 have h1:=sT (j':=j') (Eb (n:=n) (x:=x) (y:=y) (j:=j) (k:=k)) h;rw[Oj]at h1;have h2:=sT (j':=k') (Lb (n:=n) (x:=x) (y:=y) (j:=j') (k:=k)) h1
 rwa [G6]at h2
def YO(I:YN n (bf x) (gX x))(hj:j.ok (gX x))(c:Int):ay aj (bB [(17,en (cD.k1 [.ptr 7143 0,.v (ti c)] (nN n x y j k) (.v (ti (ln (gX x) j c:Nat))) (nN n x y (j.cm (gX x) (ln (gX x) j c)) k)))]):=
 BO ay.nil (λM hM=>by
  have:=Lc (k:=c) hM I hj Eb
  rwa [Oj]at this) (λq hq=>G7 _ _ hq)
def YP(I:YN n (bf y) (gX y))(hj:k.ok (gX y))(c:Int):ay aj (bB [(17,en (cD.k1 [.ptr 10143 0,.v (ti c)] (nN n x y j k) (.v (ti (ln (gX y) k c:Nat))) (nN n x y j (k.cm (gX y) (ln (gX y) k c)))))]):=
 BO ay.nil (λM hM=>by
  have:=Lc (k:=c) hM I hj Lb
  rwa [G6]at this) (λq hq=>G7 _ _ hq)
def Rv:ay aj (bB [(14,en (cD.k1 [.ptr 10143 0] (nN n x y j k) (.v (.ew [])) (nN n x y j (k.o6 (gX y)))))]):=
 BO ay.nil (λM hM=>by
  have:=asL hM (Lb (n:=n) (x:=x) (y:=y) (j:=j) (k:=k))
  rwa [G6]at this) (λq hq=>G7 _ _ hq)
def YQ(h1:j.C0=false)(h2:j.left (gX x)=0):ay aj (bB [(19,en (cD.k1 [.ptr 7143 0] (nN n x y j k) (.ew [.agg [.v (ti n.ak),.v (ti (bf x).ba),.bC 7139 0],.v (ti 0)]) (nN n x y j k)))]):=
 BO ay.nil (λM hM=>Rw hM Eb h1 h2) (λq hq=>hq)
def afT:aO (B0 n y 10143 10139) (aO (B0 n x 7143 7139) e0)=nN n x y J0 J0:=by
 funext q;simp only[B0,nN,fX,aH,bL];by_cases h1:q=10143
 ·subst h1;rfl
 by_cases h2:q=10139
 ·subst h2;rfl
 simp only[aZ h1,aZ h2];by_cases h3:q=7143
 ·subst h3;rfl
 by_cases h4:q=7139
 ·subst h4;rfl
 simp only[aZ h3,aZ h4]
end
def YR{n:aD}{x y:Input}(hp:uT n x)(h6:x.insert.length<=100)(hl:J0.left (gX x)<=1000):
  aa aj 94 (.region false Vw) (λe s=>e=.normal/\Le s ⟨DM.look [(11,.v (.box [ti n.ak,ti (bf x).ba,.sl (bR (gE n (bf x)))])),(3,.v (.box [ti n.aM,ti n.ak,ti n.start,.sl (aW n.au)])),(4,.v (.box [.sl (cz x.aw),.sl (aG x.insert),ti x.swap])),(5,.v (.box [.sl (cz y.aw),.sl (aG y.insert),ti y.swap])),(12,.v (ti 0))],cJ [],4900,1000,[]⟩) ⟨DM.look [(3,.v (.box [ti n.aM,ti n.ak,ti n.start,.sl (aW n.au)])),(4,.v (.box [.sl (cz x.aw),.sl (aG x.insert),ti x.swap])),(5,.v (.box [.sl (cz y.aw),.sl (aG y.insert),ti y.swap]))],cJ [],1500,1000,[]⟩:=by
 have hJ:=hp.jin h6;have hj0:=IP hJ.sY;have hjo:=hj0.cm (J0.left (gX x)) (ed _);have WP:3639<3643:=by omega
 have aC:ay aj (bB [(11,en (cD.k1 [.ptr 3643 0,.v (ti 3)] (mP 3643 3639 n x J0) (.ew [.agg [.v (ti n.ak),.v (ti (bf x).ba),.bC 3639 0],.v (ti 0)]) (mP 3643 3639 n x (J0.cm (gX x) (J0.left (gX x))))))]):=
  BO ay.nil (λM hM=>by
   have:=asM (k:=3) hM hJ hj0 (oe WP) rfl (by omega) hl
   rwa [show fX (mP 3643 3639 n x J0) 3643 3639 n (bf x) (gX x) (J0.cm (gX x) (J0.left (gX x)))=mP 3643 3639 n x (J0.cm (gX x) (J0.left (gX x)))from sS]at this) (λq hq=>IS WP _ hq)
 refine aa.aub aC (rs:=Oi) rfl (by kernel_rfl) [3,4,5,11,12] 4595 λmE=>?_;have gP:∀j q,1500<=q->q<3639->mP 3643 3639 n x j q=none:=λj q h1 h2=>by
  simp only[mP,fX,aH,bL];rw[aZ (by omega),aZ (by omega)];rfl
 unfold Oi;refine ky (mE 1552 (by omega)) ?_;simp;refine ky (mE 1553 (by omega)) ?_;simp;refine MH (Ld (N:=1595) (λq _=>rfl) hp h6) ?_;rintro val mG ⟨rfl,rfl⟩;have e:=Ok n x 3643 3639;refine ky (gP J0 1555 (by omega) (by omega)) ?_;simp;refine⟨e, ?_⟩;have rV:∀o q,1500<=q->q<3639->q≠1512->aO [(1512,o)] (mP 3643 3639 n x (J0.cm (gX x) (J0.left (gX x)))) q=none:=λo q h1 h2 h3=>by
  rw[aH,aZ h3];exact gP _ q h1 h2
 have afU:=gP (J0.cm (gX x) (J0.left (gX x)));refine ky (afU 1551 (by omega) (by omega)) ?_;simp;refine ky (afU 1556 (by omega) (by omega)) ?_;simp;refine ky (afU 1557 (by omega) (by omega)) ?_;simp;refine ky (afU 1512 (by omega) (by omega)) ?_;simp;simp only[Ap];refine ky (rV (.box [.v (ti 0),.v (ti 0),.aX]) 1500 (by omega) (by omega) (by omega)) ?_;simp;refine ky (show aO _ _ 1513=none by rw[aH,aZ (by omega)];exact rV _ 1513 (by omega) (by omega) (by omega)) ?_;simp;have uF:=(oe (P:=3643) (R:=3639) (n:=n) (x:=x) (j:=J0.cm (gX x) (J0.left (gX x))) WP).bE;rw[IQ hjo.1 (by omega) hJ.hS]at uF;refine⟨λq hq=>?_,Oh (k:=11) (X:=1512) (R:=3639) (av:=bR (gE n (bf x))) (aY:=4900) (show aO _ _ _=_ by rw[aH,cF rfl]) (show aO _ _ _=_ by rw[aH,aZ (by omega),aH,aZ (by omega)];exact uF) (by omega) (by omega) (λq hq=>?_) rfl (by simp) (by simp) (by simp)⟩
 ·show aO _ _ q=none;rw[aH,aZ (by omega),aH,aZ (by omega)];exact Lf WP (show 3643<4595 by omega) q hq
 ·show aO _ _ q=none;rw[aH,aZ (by omega),aH,aZ (by omega)];simp only[mP,fX,aH,bL];rw[aZ (by omega),aZ (by omega)];rfl
def afV{n:aD}{x y:Input}{CB:DV}(hp:uT n x)(h6:x.insert.length<=100)(Ji:uT n y)(h62:y.insert.length<=100):
  aa aj 94 (.region true tT) (λe s=>e=.normal/\Le s ⟨DM.look [(11,CB),(12,.v (ti 0)),(13,.ptr 7143 0),(14,.ptr 10143 0)],nN n x y J0 J0,12000,1000,[]⟩) ⟨DM.look [(3,.v (.box [ti n.aM,ti n.ak,ti n.start,.sl (aW n.au)])),(4,.v (.box [.sl (cz x.aw),.sl (aG x.insert),ti x.swap])),(5,.v (.box [.sl (cz y.aw),.sl (aG y.insert),ti y.swap])),(11,CB),(12,.v (ti 0))],cJ [],5000,1000,[]⟩:=by
 refine aa.apF cL fw (rs:=tT) rfl (by kernel_rfl) [11,12,13,14] 11095 (λD s=>s.todo=[]/\(D 2=false->s.ab=e0)/\(D 2=true->D 5=false->s.ab=aO (B0 n x 7143 7139) e0)/\(D 5=true->s.ab=aO (B0 n y 10143 10139) (aO (B0 n x 7143 7139) e0))/\
  s.tmps 3=.v (.box [ti n.aM,ti n.ak,ti n.start,.sl (aW n.au)])/\s.tmps 4=.v (.box [.sl (cz x.aw),.sl (aG x.insert),ti x.swap])/\s.tmps 5=.v (.box [.sl (cz y.aw),.sl (aG y.insert),ti y.swap])/\s.tmps 11=CB/\s.tmps 12=.v (ti 0)/\
  (D 0=true->s.tmps 57=.v (.agg [ti n.aM,ti n.ak,ti n.start,.sl (aW n.au)]))/\(D 1=true->s.tmps 58=.v (.agg [.sl (cz x.aw),.sl (aG x.insert),ti x.swap]))/\(D 2=true->s.tmps 59=.ptr 7143 0)/\
  (D 3=true->s.tmps 60=.v (.agg [ti n.aM,ti n.ak,ti n.start,.sl (aW n.au)]))/\(D 4=true->s.tmps 61=.v (.agg [.sl (cz y.aw),.sl (aG y.insert),ti y.swap]))/\(D 5=true->s.tmps 62=.ptr 10143 0)/\(D 6=true->s.tmps 13=.ptr 7143 0)/\(D 7=true->s.tmps 14=.ptr 10143 0)) (λh=>?_) ?_ ?_ rfl
 ·simp;rfl
 ·rintro D i r ⟨tm,ob,td⟩ hr hi ha aV ⟨rfl,i1,i2,i3,k3,k4,k5,k11,k12,v0,v1,v2,v3,v4,v5,v6,v7⟩;simp only at i1 i2 i3 k3 k4 k5 k11 k12 v0 v1 v2 v3 v4 v5 v6 v7;have h52:D 2=false->D 5=false:=λh2=>by
   cases h:D 5 with
   |false=>rfl
   |true=>
    have:=aV 5 _ rfl h 2 (by simp);rw[h2]at this;cases this
  have mE:∀q,5000<=q->q<7139->ob q=none:=λq h1 h2=>by
   cases d2:D 2 with
   |false=>rw[i1 d2];rfl
   |true=>
    cases d5:D 5 with
    |false=>rw[i2 d2 d5];exact Ea (by omega) (by omega) rfl
    |true=>rw[i3 d5];exact Ea (by omega) (by omega) (Ea (by omega) (by omega) rfl)
  rcases i with _|_|_|_|_|_|_|_|i;all_goals simp only[tT,HN,Zb,List.getElem?_nil,cu,reduceCtorEq]at hr
  all_goals subst hr
  ·refine .of (mE 5058 (by omega) (by omega)) ?_;simp[k3,wO];repeat' first|assumption|exact rfl|refine⟨?_, ?_⟩
  ·refine .of (mE 5059 (by omega) (by omega)) ?_;simp[k4,wO];repeat' first|assumption|exact rfl|refine⟨?_, ?_⟩
  ·have h1:=i1 hi;have h5:=h52 hi;have q0:=v0 (ha 0 (by simp));have q1:=v1 (ha 1 (by simp));refine .inr ⟨_,_,_,_,5095,8095,λval mG=>val=.ptr (5095+2048) 0/\mG=aO (B0 n x (5095+2048) (5095+2044)) ob,rfl, ?_, ?_⟩
   ·simp only[qD,SJ,bW.ev,q0,q1];exact Ld (λq hq=>by rw[h1];rfl) hp h6
   ·rintro val mG ⟨rfl,rfl⟩;rw[h1];simp[wO,h5];repeat' first|assumption|exact rfl|refine⟨?_, ?_⟩
  ·refine .of (mE 5061 (by omega) (by omega)) ?_;simp[k3,wO];repeat' first|assumption|exact rfl|refine⟨?_, ?_⟩
  ·refine .of (mE 5062 (by omega) (by omega)) ?_;simp[k5,wO];repeat' first|assumption|exact rfl|refine⟨?_, ?_⟩
  ·have d2:=ha 2 (by simp);have h1:=i2 d2 hi;have q2:=v2 d2;have q0:=v3 (ha 3 (by simp));have q1:=v4 (ha 4 (by simp));refine .inr ⟨_,_,_,_,8095,11095,λval mG=>val=.ptr (8095+2048) 0/\mG=aO (B0 n y (8095+2048) (8095+2044)) ob,rfl, ?_, ?_⟩
   ·simp only[qD,SJ,bW.ev,q0,q1];exact Ld (λq hq=>by rw[h1];exact Ea (by omega) (by omega) rfl) Ji h62
   ·rintro val mG ⟨rfl,rfl⟩;rw[h1];simp[wO,d2];repeat' first|assumption|exact rfl|refine⟨?_, ?_⟩
  ·refine .of (mE 5014 (by omega) (by omega)) ?_;simp[v2 (ha 2 (by simp)),wO];repeat' first|assumption|exact rfl|refine⟨?_, ?_⟩
  ·refine .of (mE 5015 (by omega) (by omega)) ?_;simp[v5 (ha 5 (by simp)),wO];repeat' first|assumption|exact rfl|refine⟨?_, ?_⟩
 ·rintro D ⟨tm,ob,td⟩ hD ⟨rfl,i1,i2,i3,k3,k4,k5,k11,k12,v0,v1,v2,v3,v4,v5,v6,v7⟩;have h5:=i3 (hD 5 (by simp[tT]));have q6:=v6 (hD 6 (by simp[tT]));have q7:=v7 (hD 7 (by simp[tT]));simp only at h5 q6 q7 k11 k12;rw[afT]at h5;refine⟨λq hq=>?_,rfl,dU h5 (λq hq=>Ru J0 J0 q (by omega)) (by simp[lU,k11,k12,q6,q7])⟩;show ob q=none;rw[h5];exact Ru J0 J0 q hq
def asN(n:aD)(x y:Input)(h1:n.au.length<=9223372036854775807)(h2:x.insert.length<=9223372036854775807)(h3:y.insert.length<=9223372036854775807):bw aj 5 [n.enc,x.enc,y.enc] (.bool true):=by
 obtain⟨b,hb⟩:=be (decide (qw n x));obtain⟨c,hc⟩:=be (decide (qw n y));have aC:=alk n x h1 h2 hb;have anr:=alk n y h1 h3 hc;have b7:n.enc=.agg [ti n.aM,ti n.ak,ti n.start,.sl (aW n.au)]:=rfl;have DE:x.enc=.agg [.sl (cz x.aw),.sl (aG x.insert),ti x.swap]:=rfl;have hye:y.enc=.agg [.sl (cz y.aw),.sl (aG y.insert),ti y.swap]:=rfl;obtain⟨g0,hg1,Sq⟩:∃g:aL->Bool,g [n.enc,x.enc]=b/\g [n.enc,y.enc]=c:=⟨λts=>match ts with|[_,z]=>decide (qw n (aft z))|_=>false,by simp[hb],by simp[hc]⟩;have asO:ay aj (bB [(10,dh (λts=>ts=[n.enc,x.enc]\/ts=[n.enc,y.enc]) (λts=>.bool (g0 ts)) true)]):=by
  refine ay.cons ay.nil ?_;rintro ts (rfl|rfl)
  ·exact⟨show bw aj 10 _ (.bool (g0 _))by rw[hg1,<-hb];exact adK n x,λ_=>rfl⟩
  ·exact⟨show bw aj 10 _ (.bool (g0 _))by rw[Sq,<-hc];exact adK n y,λ_=>rfl⟩
 rw[b7,DE]at aC;rw[b7,hye]at anr;rw[b7,DE,hye]at asO;rw[b7,DE]at hg1;rw[b7,hye]at Sq;refine aq1.ok (by simp) (aT ?_);simp[b7,DE,hye];apply aa.ag aC fw [3,4,5];simp[Vq];refine aa.lk (o:=[]) (l:=[(3,.v (.box [ti n.aM,ti n.ak,ti n.start,.sl (aW n.au)])),(4,.v (.box [.sl (cz x.aw),.sl (aG x.insert),ti x.swap])),(5,.v (.box [.sl (cz y.aw),.sl (aG y.insert),ti y.swap]))]) (aY:=1200) (by simp) ?_;apply aa.sq aC fw [3,4,5,19];simp[Vr];apply aa.c0 rfl;apply aa.skip;simp;obtain⟨o1,H9⟩:=be (decide (uT n x));obtain⟨o2,nA⟩:=be (decide (uT n y));obtain⟨z0,z1,z2,z3,z4,z5,z6,z7,z8,z9,hz⟩:=IR n x;rw[hz,H9]at aC;apply aa.ag aC fw [3,4,5,8];simp[Vt];refine aa.lk (o:=[]) (l:=[(3,.v (.box [ti n.aM,ti n.ak,ti n.start,.sl (aW n.au)])),(4,.v (.box [.sl (cz x.aw),.sl (aG x.insert),ti x.swap])),(5,.v (.box [.sl (cz y.aw),.sl (aG y.insert),ti y.swap])),(8,.v (.bool o1))]) (aY:=1300) (by simp) ?_;obtain⟨y0,y1,y2,y3,y4,y5,y6,y7,y8,y9,hy⟩:=IR n y;rw[hy,nA]at anr;apply aa.ag anr fw [3,4,5,8,10];simp[Vu];refine aa.lk (o:=[]) (l:=[(3,.v (.box [ti n.aM,ti n.ak,ti n.start,.sl (aW n.au)])),(4,.v (.box [.sl (cz x.aw),.sl (aG x.insert),ti x.swap])),(5,.v (.box [.sl (cz y.aw),.sl (aG y.insert),ti y.swap])),(8,.v (.bool o1)),(10,.v (.bool o2))]) (aY:=1400) (by simp) ?_;apply aa.seq;refine aa.cH asO fw [(3,.v (.box [ti n.aM,ti n.ak,ti n.start,.sl (aW n.au)])),(4,.v (.box [.sl (cz x.aw),.sl (aG x.insert),ti x.swap])),(5,.v (.box [.sl (cz y.aw),.sl (aG y.insert),ti y.swap])),(49,.v (.bool (!(o1&&o2&&b&&c))))] ?_ ?_
 ·cases o1
  ·simp[DU]
  ·cases o2
   ·simp[DU]
   ·simp[DU,hg1,Sq];cases b
    ·simp
    ·simp
 refine aa.cond rfl (λg=>?_) (λg=>?_)
 ·apply aa.ag cL fw [6];simp[Vv];apply aa.ret;simp[dm]
 have g:((o1=true/\o2=true)/\b=true)/\c=true:=by simpa using g
 obtain⟨⟨⟨rfl,rfl⟩,rfl⟩,rfl⟩:=g;have hp:=qW H9;have Ji:=qW nA;have hs:=qW hb;have hs2:=qW hc;have hJ:=hp.jin (by have:=hs.ci.1;omega);have hJ2:=Ji.jin (by have:=hs2.ci.1;omega);have hj0:=IP hJ.sY;have hl:J0.left (gX x)<=1000:=by
  rw[afS _ hJ.sY];have h7:gX x<=9:=by have:=hs.ci.2;simp only[gX];omega
  have h8:gX x*(gX x+1)<=9*10:=ZcV h7 (by omega);omega
 apply aa.skip;simp;refine aa.le (dU (l:=[(3,.v (.box [ti n.aM,ti n.ak,ti n.start,.sl (aW n.au)])),(4,.v (.box [.sl (cz x.aw),.sl (aG x.insert),ti x.swap])),(5,.v (.box [.sl (cz y.aw),.sl (aG y.insert),ti y.swap]))]) (aY:=1500) rfl (λq _=>rfl) (by simp)) ?_;refine aa.seq (aa.to _ (YR hp (by have:=hs.ci.1;omega) hl) ?_);simp;refine aa.le (dU (l:=[(3,.v (.box [ti n.aM,ti n.ak,ti n.start,.sl (aW n.au)])),(4,.v (.box [.sl (cz x.aw),.sl (aG x.insert),ti x.swap])),(5,.v (.box [.sl (cz y.aw),.sl (aG y.insert),ti y.swap])),(11,.v (.box [ti n.ak,ti (bf x).ba,.sl (bR (gE n (bf x)))])),(12,.v (ti 0))]) (aY:=5000) rfl (λq _=>rfl) (by simp)) ?_;obtain⟨CB,hCB⟩:=be (.v (.box [ti n.ak,ti (bf x).ba,.sl (bR (gE n (bf x)))]):DV);rw[hCB];refine aa.seq (aa.to _ (afV hp (by have:=hs.ci.1;omega) Ji (by have:=hs2.ci.1;omega)) ?_);simp;apply aa.sq cL fw [11,12,13,14,15];simp[Vx];apply aa.block;have mE:=λj k=>Ru (n:=n) (x:=x) (y:=y) j k;refine aa.loop (λs:Nat×JS=>⟨DM.look [(11,CB),(12,.v (ti 0)),(13,.ptr 7143 0),(14,.ptr 10143 0),(15,.v (ti s.1))],nN n x y (J0.cm (gX x) s.1) s.2,12000,1000,[]⟩)
  (λs=>s.1<=J0.left (gX x)/\s.2.ok (gX y)) (λs=>J0.left (gX x)-s.1) (0,J0) (dU rfl (λq hq=>mE _ _ q (by omega)) (by simp)) ⟨by simp,IP hJ2.sY⟩ ?_
 rintro⟨i,k⟩ ⟨hi,hk⟩;simp only at hi hk;obtain⟨a1,a2,a3⟩:=hj0.cm i hi;obtain⟨j,hj⟩:=be (J0.cm (gX x) i);rw[hj]at a1 a2 a3;have a3:j.C0=false:=a3;simp only[hj];have Zg:(i:Int)<2000:=by omega
 have e1:=YO (y:=y) (k:=k) hJ a1 1;obtain⟨m,hm⟩:=be (ln (gX x) j 1);have hmv:m=min 1 (j.left (gX x)):=by rw[<-hm];unfold ln;rw[aZ (by simp[a3])];rfl
 rw[hm]at e1;apply aa.seq;apply aa.seq;apply aa.Di e1 fw (rs:=Bv) rfl (by kernel_rfl) [11,12,13,14,15,69];simp[Bv,Zg];refine aa.cond rfl (λg=>?_) (λg=>?_)
 ·have g:0<m:=by simpa using g
  have O3:m=1:=by omega
  have hjs:j.cm (gX x) m=J0.cm (gX x) (i+1):=by rw[<-hj,AD,O3]
  rw[hjs];apply aa.skip;simp;obtain⟨j1,hj1⟩:=be (J0.cm (gX x) (i+1));rw[hj1];refine aa.le (dU (l:=[(11,CB),(12,.v (ti 0)),(13,.ptr 7143 0),(14,.ptr 10143 0),(15,.v (ti i))]) (aY:=12000) rfl (λq hq=>mE _ _ q (by omega)) (by simp)) ?_;have e2:=YP (x:=x) (j:=j1) hJ2 hk 2;obtain⟨k1,pq⟩:=be (k.cm (gX y) (ln (gX y) k 2));have asP:k1.ok (gX y):=by
   rw[<-pq];exact(hk.cm _ (by unfold ln;split<;>omega)).1
  rw[pq]at e2;apply aa.seq;apply aa.block;apply aa.cY e2 fw (rs:=Bw) rfl (by kernel_rfl) [11,12,13,14,15];simp[Bw];apply aa.ag cL fw [11,12,13,14,15,75];simp[Nh];have w2:IntKind.i64.wrap ((i:Int)+1)=((i+1:Nat):Int):=by rw[aF (by omega)];omega
  refine aa.cond rfl (λ_=>?_) (λ_=>?_)
  ·have e3:=Rv (n:=n) (x:=x) (y:=y) (j:=j1) (k:=k1);apply aa.Di e3 fw (rs:=Bx) rfl (by kernel_rfl) [11,12,13,14,15];simp[Bx];apply aa.fJ cL fw [11,12,13,14,15];simp[Ga,w2];exact⟨i+1,k1.o6 (gX y),dU (by rw[hj1]) (λq hq=>mE _ _ q (by omega)) (by simp),⟨by omega,asP.o6⟩,by omega⟩
  ·apply aa.skip;simp;apply aa.fJ cL fw [11,12,13,14,15];simp[Ga,w2];exact⟨i+1,k1,dU (by rw[hj1]) (λq hq=>mE _ _ q (by omega)) (by simp),⟨by omega,asP⟩,by omega⟩
 ·have g:m=0:=by simpa using g
  have xZ:j.left (gX x)=0:=by omega
  rw[g,show j.cm (gX x) 0=j from rfl];apply aa.exit;simp;have e4:=YQ (n:=n) (x:=x) (y:=y) (j:=j) (k:=k) a3 xZ;have asQ:ay aj (bB [(13,dh (λts=>ts=[(QH n (bf x)).enc,(QH n (bf x)).enc]) (λ_=>.bool true) true)]):=by
   refine ay.cons ay.nil ?_;rintro ts rfl;exact⟨asR _ (xI (YM hJ) (by omega)),λ_=>rfl⟩
  rw[show(QH n (bf x)).enc=.agg [ti n.ak,ti (bf x).ba,.sl (bR (gE n (bf x)))]from rfl]at asQ;have uF:=(Eb (n:=n) (x:=x) (y:=y) (j:=j) (k:=k)).bE;rw[IQ a1 xZ hJ.hS]at uF;refine aa.le (dU (l:=[(11,CB),(12,.v (ti 0)),(13,.ptr 7143 0)]) (aY:=12000) rfl (λq hq=>mE _ _ q (by omega)) (by simp)) ?_;apply aa.cY e4 fw (rs:=By) rfl (by kernel_rfl) [11,12,16,17];simp[By];simp only[<-hCB,Ap];refine aa.le (Oh (k:=16) (X:=12017) (R:=7139) (av:=bR (gE n (bf x))) (l:=[(11,.v (.box [ti n.ak,ti (bf x).ba,.sl (bR (gE n (bf x)))])),(12,.v (ti 0)),(17,.v (ti 0))]) (aY:=13000) (show aO _ _ _=_ by rw[aH,cF rfl]) (show aO _ _ _=_ by rw[aH,aZ (by omega),bL,aH,aZ (by omega)];exact uF) (by omega) (by omega) (λq hq=>?_) rfl (by simp) (by simp) (by simp)) ?_
  ·show aO _ _ q=none;rw[aH,aZ (by omega),bL,aH,aZ (by omega)];show nN n x y j k q=none;simp only[nN,fX,aH,bL];rw[aZ (by omega),aZ (by omega),aZ (by omega),aZ (by omega)];rfl
  apply aa.ag asQ fw [6];simp[Ni];apply aa.ret;simp[dm]
end
end Jb
open Go.DM Go.ChangeShapes Go.Deep
def aeh:Ty:=.seq [.int .i64,.int .i64,.int .i64,.int .i64,.int .i64,.int .i64]
def Hj:Ty:=.seq [.int .i64,.int .i64,.int .i64,.slice aeh]
def agm{ts:aL}(h:aeh.qJ ts):∃r:dq,ts=r.enc:=by
 obtain⟨_,_,rfl,h1,h⟩:=all_cons (adj h);obtain⟨_,_,rfl,h2,h⟩:=all_cons h;obtain⟨_,_,rfl,h3,h⟩:=all_cons h;obtain⟨_,_,rfl,h4,h⟩:=all_cons h;obtain⟨_,_,rfl,h5,h⟩:=all_cons h;obtain⟨_,_,rfl,h6,h⟩:=all_cons h;obtain rfl:=D1 h;obtain⟨a,rfl⟩:=mN h1;obtain⟨b,rfl⟩:=mN h2;obtain⟨c,rfl⟩:=mN h3;obtain⟨d,rfl⟩:=mN h4;obtain⟨e,rfl⟩:=mN h5;obtain⟨f,rfl⟩:=mN h6;exact⟨⟨a,b,c,d,e,f⟩,rfl⟩
def Y7{x:T}(h:Hj.arg x):∃z:aD,x=z.enc/\z.au.length<=9223372036854775807:=by
 unfold Hj Ty.arg at h;obtain⟨ts,rfl,h⟩:=h;obtain⟨_,_,rfl,n1,h1⟩:=all_cons h;obtain⟨_,_,rfl,n2,h1⟩:=all_cons h1;obtain⟨_,_,rfl,n3,h1⟩:=all_cons h1;obtain⟨_,_,rfl,n4,h1⟩:=all_cons h1;obtain rfl:=D1 h1;obtain⟨nt,rfl⟩:=mN n1;obtain⟨nn,rfl⟩:=mN n2;obtain⟨ns,rfl⟩:=mN n3;obtain⟨au,rfl,hr⟩:=Ae (λr=>agm) n4;exact⟨⟨nt,nn,ns,au⟩,rfl,hr⟩
abbrev W8:List (String×DataW Unit):=[("emendate/chart.none",.agg [.agg [.lit (.int .i64 1099511627776),.lit (.int .i64 0)],.lit (.int .i64 (-1)),.lit (.int .i64 0)])]
def atm:aj.globalNamed "emendate/chart.none" =some 0:=by kernel_rfl
def atn:(aj.globals[0]?).map (·.type)=some 65:=by kernel_rfl
def ato:aj.underlying 65=some (.struct #[⟨"Value",63,0,false, "", "",0⟩,⟨"Rule",3,2,false, "", "",16⟩,⟨"Arg",3,3,false, "", "",24⟩]):=by kernel_rfl
def avj:aj.underlying 63=some (.struct #[⟨"Cost",3,0,false, "", "",0⟩,⟨"Size",3,1,false, "", "",8⟩]):=by kernel_rfl
def agn:aj.underlying 3=some (.int .i64):=by kernel_rfl
def ago:aj.cellsOf 65=4:=by kernel_rfl
def agp:aj.cellsOf 63=2:=by kernel_rfl
def an7:aj.cellsOf 3=1:=by kernel_rfl
def cs4{cs:List Value}(h:cs.length=4):∃a b c d,cs=[a,b,c,d]:=by
 match cs,h with
 |[a,b,c,d],_=>exact⟨a,b,c,d,rfl⟩
def agq{W:World}(h:laidMet aj W8 W):W.cell? ⟨0,0,none⟩=some (.int .i64 1099511627776)/\W.cell? ⟨0,1,none⟩=some (.int .i64 0)/\W.cell? ⟨0,2,none⟩=some (.int .i64 (-1))/\W.cell? ⟨0,3,none⟩=some (.int .i64 0):=by
 obtain⟨ps,⟨g,t,cs,Bb,p,q,hg,ht,hv,hd,_,_⟩,_⟩:=h;obtain rfl:=Zb9 (atm.symm.trans hg);obtain rfl:=Zb9 (atn.symm.trans ht);obtain⟨y0,y1,y2,n,ex,hl,e0,e1,e2⟩:=trod_struct3 ato hd;rw[ago]at hl;obtain⟨v0,v1,v2,v3,oT⟩:=cs4 hl;rw[oT]at e0 e1 e2;obtain⟨z0,z1,m,ey,Cm,f0,f1⟩:=trod_struct2 avj e0;simp only[agp,an7,ZcD,Zcu,List.take_zero,List.drop_succ_cons]at e1 e2 f0 f1;obtain⟨i1,r1,rfl,_⟩:=DataW.trod_int agn e1;obtain⟨i2,r2,rfl,_⟩:=DataW.trod_int agn e2;obtain⟨i3,r3,rfl,_⟩:=DataW.trod_int agn f0;obtain⟨i4,r4,rfl,_⟩:=DataW.trod_int agn f1;subst ey;have ex:=(congrArg Prod.fst ex).symm;simp only[DataW.agg.injEq,LW,DataW.lit.injEq,Lit.int.injEq,OY,qI,LW]at ex r1 r2 r3 r4;obtain⟨⟨rfl,rfl⟩,rfl,rfl⟩:=ex;subst r1 r2 r3 r4;have hc:cs= #[.int .i64 1099511627776,.int .i64 0,.int .i64 (-1),.int .i64 0]:=by
  apply Array.toList_inj.1;rw[oT]
 subst hc;exact⟨World.var?_cell hg hv 0,World.var?_cell hg hv 1,World.var?_cell hg hv 2,World.var?_cell hg hv 3⟩
def an8{W:World}(h:laidMet aj W8 W):Hk W λ_=>False:=by
 obtain⟨h0,h1,h2,h3⟩:=agq h;intro p hp;obtain rfl:p=_:=oO.1 hp;refine⟨(SA h0).1,λx=>x, ?_⟩;simp only[eD,bm,OY,Lo,Nat.reduceAdd];exact⟨⟨_,h0,rfl,rfl⟩,⟨_,h1,rfl,rfl⟩,⟨_,h2,rfl,rfl⟩,⟨_,h3,rfl,rfl⟩⟩
end cD
end Go.Proofs
