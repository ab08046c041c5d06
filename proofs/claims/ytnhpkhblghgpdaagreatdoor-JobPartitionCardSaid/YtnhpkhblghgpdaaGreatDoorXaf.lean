/- A part. Conditions: none. -/
import Derived.Test.YtnhpkhblghgpdaaGreatDoorXae
import Derived.Deep.Strs
import Derived.Lib.LaidTab
set_option linter.all false
set_option maxRecDepth 100000
set_option maxHeartbeats 40000000
namespace Go.Proofs
namespace cD
namespace Kn
open Go.DM
def ana{f0:bw}{p N:Nat}{an:b7}{A B C:DV}{D:bG}{e:bK}(hN:∀r,N<=r->f0 r=none)(h1:f0 p=some (.box (A::B:: .v (.sl (bH an))::C::D)))(he:afA an.length e)(hb:∀x∈an,jI x):
  aQ aj 105 [.ptr p 0,.v (.agg e.enc)] f0 ⟨True,.v (.agg [ti (gW an e).aI,ti (gW an e).size]),f0⟩:=by
 obtain⟨R,hR⟩:=be (gW an e);rw[hR];unfold gW at hR;obtain⟨eh,ts,ec,e0,e1⟩:=e;obtain⟨ht,hc,hl⟩:=he;simp only at ht hc hl hR;obtain⟨Vs,Pd⟩:=be (dY an ts);rw[Pd]at hR;have hVl:Vs.length=ts.length:=by rw[<-Pd];simp[dY]
 have Hz:∀x∈Vs,jI x:=by
  rw[<-Pd];intro x hx;obtain⟨y,hy,rfl⟩:=lq.1 hx;have:=ht y hy;exact hb _ (bq (by omega))
 have aC:=afB ay.nil;refine ajt.qE hN (by simp) λaV=>?_;have nu:p<N:=(aV p _ h1).1;have np:∀k,p≠N+k:=λk=>by omega
 have ew:(∃cs,f0 p=some (.box cs)):=⟨_,h1⟩;simp;apply aa.ag aC fw [0,3,4];simp[J9,bK.enc];refine aa.le (Le.d6 (l1:=[(N+5,.box [.v (ti 0),.v (ti 0)])]) (l:=[(0,.ptr p 0),(3,.v (.box [ti eh,.sl (aG ts),ti ec,ti e0,ti e1])),(4,.ptr (N+5) 0)]) (aZ:=N+500) aV ?_ ?_ ?_ ?_ ?_) ?_
 ·omega
 ·simp
 ·simp[bT,ed]
 ·simp[dT,eK,ed]
 ·simp[np,ed,ew];exact bY aV (by omega) (by simp)
 apply aa.ag aC fw [0,3,4,5];simp[Ka,CP,dR];refine⟨by omega,by omega, ?_⟩;obtain⟨Z,hZ⟩:=be (List.replicate ts.length ⟨0,0⟩:b7);refine aa.le (Le.d6 (l1:=[(N+5,.box [.v (ti 0),.v (ti 0)]),(N+512,.bE 0 63 2 (bH (Vs.take 0++List.replicate (ts.length-0) ⟨0,0⟩)))]) (l:=[(0,.ptr p 0),(3,.v (.box [ti eh,.sl (aG ts),ti ec,ti e0,ti e1])),(4,.ptr (N+5) 0),(5,.bC (N+512) 0)]) (aZ:=N+1000) aV ?_ ?_ ?_ ?_ ?_) ?_
 ·omega
 ·simp
 ·simp[bT,ed]
 ·simp[dT,eK,ed,bH]
 ·simp[np,ed,ew,bH]
 apply aa.sq aC fw [0,3,4,5,13,14,15];simp[Kb];apply aa.block;refine aa.loop (λi:Nat=>⟨DM.look [(0,.ptr p 0),(3,.v (.box [ti eh,.sl (aG ts),ti ec,ti e0,ti e1])),(4,.ptr (N+5) 0),(5,.bC (N+512) 0),(13,.v (.sl (aG ts))),(14,.v (ti ts.length)),(15,.v (ti i))],aO [(N+5,.box [.v (ti 0),.v (ti 0)]),(N+512,.bE 0 63 2 (bH (Vs.take i++List.replicate (ts.length-i) ⟨0,0⟩)))] f0,N+2000,N,[]⟩)
  (λi=>i<=ts.length) (λi=>ts.length-i) 0 (Le.d6 aV ?_ ?_ ?_ ?_ ?_) (by omega) (λi Zf=>?_)
 ·omega
 ·simp
 ·simp[bT]
 ·simp[dT,eK]
 ·simp[np,ew]
 obtain⟨A,hA⟩:=be (Vs.take i++List.replicate (ts.length-i) (⟨0,0⟩:dg));have hAl:A.length=ts.length:=by rw[<-hA];simp;omega
 rw[hA];apply aa.ag aC fw [0,3,4,5,13,14,15,16];simp[Kc];apply aa.seq;refine aa.cond rfl (λg=>?_) (λg=>?_)
 ·have g:i<ts.length:=by simpa using g
  have rt:=cM g;obtain⟨t,L9⟩:=be (ts.getD i default);rw[L9]at rt;obtain⟨t0,t1⟩:=ht t (by rw[<-L9];exact bq g);obtain⟨t,rfl⟩:=kK t0;have t1:t<an.length:=by omega
  have rv:=dq t1;obtain⟨⟨wc,wz⟩,hw⟩:=be (an.getD t default);rw[hw]at rv;have hiA:i<A.length:=by omega
  have rA:=dq hiA;have dA:∀a b:T,List.drop 2 [a,b]=[]:=λ_ _=>rfl;have hS:Vs.take (i+1)++List.replicate (ts.length-(i+1)) (⟨0,0⟩:dg)=A.set i ⟨wc,wz⟩:=by
   have hVi:Vs.take (i+1)=Vs.take i++[⟨wc,wz⟩]:=by
    have:Vs[i]? =some ⟨wc,wz⟩:=by
     rw[<-Pd,dY,ZbG];have:ts[i]? =some (t:Int):=by
      have:=xb g;rw[this];simp only[List.getD,this,Su]at L9;rw[L9]
     rw[this];simp only[O6,iP,hw]
    rw[Zb0,this];rfl
   rw[hVi,<-hA,ZbS _ _ (by rw[ld];omega)];have hl':(Vs.take i).length=i:=by rw[ld];omega
   rw[hl',ZcF,show ts.length-i=(ts.length-(i+1))+1 by omega,Xb,Zb4,ZbY];rfl
  apply aa.skip;simp;apply aa.seq;apply aa.block;apply aa.ag aC fw [0,3,4,5,6,7,13,14,15];simp[Kd,rt,g];apply aa.fA aC fw [0,3,4,5,13,14,15];simp[Ke,h1,np,ed,t1,rv,hiA,rA];apply aa.fA aC fw [0,3,4,5,13,14,15];simp[Kf];rw[aF (by omega)];refine⟨i+1,Le.d6 aV ?_ ?_ ?_ ?_ ?_,by omega,by omega⟩
  ·omega
  ·simp
  ·simp[bT]
  ·simp[dT,eK,hS,jE]
  ·simp[np,ew,hS,jE]
 ·have g:¬i<ts.length:=by simpa using g
  have hie:i=ts.length:=by omega
  subst hie;rw[OY (by omega),ZcF,Zcv,wa]at hA;subst hA;apply aa.exit;simp;refine aa.le (Le.d6 (l1:=[(N+5,.box [.v (ti 0),.v (ti 0)])]) (l:=[(3,.v (.box [ti eh,.sl (aG ts),ti ec,ti e0,ti e1])),(4,.ptr (N+5) 0),(5,.v (.sl (bH Vs)))]) (aZ:=N+5000) aV ?_ ?_ ?_ ?_ ?_) ?_
  ·omega
  ·simp
  ·simp[bT]
  ·simp[dT,eK]
  ·simp;exact bY aV (by omega) (by simp)
  apply aa.ag aC fw [4];simp[Kg,CP,hVl,hR];refine⟨Hz,hc.1,hc.2,by omega, ?_⟩;refine aa.le (ml (l:=[(4,.v (.box [ti R.aI,ti R.size]))]) (aZ:=N+6000) aV (by omega) (by simp) ?_) ?_
  ·simp;exact bY (l:=[]) aV (by omega) (by simp)
  apply aa.ret;simp[FZ];rfl
section
variable{st:dy}{es:List bK}
def dE:DC:=(.seq (.seq (.region false FM)
 (.block 10 (.loop (.seq (.region false FN)
 (.seq (.cond (.tmp 153) .skip
 (.exit 10))
 (.seq (.block 11 (.seq (.region false FO)
 (.seq (.region true M0)
 (.cond (.tmp 186) (.region false FP)
 .skip))))
 (.region false zQ)))))))
 (.seq (.region false FQ)
 .ret))
def dD:DC:=(.seq (.block 8 (.loop (.block 9 (.seq (.region false MY)
 (.seq (.seq (.region false zP)
 (.cond (.tmp 136) (.exit 8)
 .skip))
 (.seq (.region true FL)
 (.cond (.tmp 145) (.region false MZ)
 .skip)))))))
 dE)
def dC:DC:=(.seq (.seq (.region false FI)
 (.block 6 (.loop (.seq (.region false FJ)
 (.seq (.cond (.tmp 107) .skip
 (.exit 6))
 (.seq (.block 7 (.seq (.region false FK)
 (.seq (.region false zN)
 (.cond (.tmp 122) (.region false MX)
 .skip))))
 (.region false zO)))))))
 dD)
def dB:DC:=(.seq (.seq (.region false FA)
 (.block 2 (.loop (.seq (.region false FB)
 (.seq (.cond (.tmp 63) .skip
 (.exit 2))
 (.seq (.block 3 (.seq (.region false FC)
 (.seq (.region true FD)
 (.seq (.region false FE)
 (.block 4 (.loop (.seq (.region false FF)
 (.seq (.cond (.tmp 80) .skip
 (.exit 4))
 (.seq (.block 5 (.seq (.region false FG)
 (.jQ sF)))
 (.region false zM))))))))))
 (.region false FH)))))))
 dC)
def K0(st:dy)(es:List bK)(E:bU)(k:Nat):bU:=
 if(E.getD (es.getD k default).head.toNat 0<0/\st.cj.getD (es.getD k default).head.toNat false=true)/\gW st.an (es.getD k default)=bv st.an (es.getD k default).head then E.set (es.getD k default).head.toNat (k:Int)else E
def Rl(st:dy)(es:List bK)(n k:Nat):bU:=(List.range k).foldl (K0 st es) (mU n n)
def NX(st:dy)(es:List bK)(n k:Nat):Rl st es n (k+1)=K0 st es (Rl st es n k) k:=by simp[Rl,Hu,Dg]
def afE(st:dy)(es:List bK)(n k:Nat):(Rl st es n k).length=n:=by
 induction k with
 |zero=>simp[Rl,mU]
 |succ k ih=>
  rw[NX];unfold K0;split<;>simp[ih]
abbrev lK(n:Nat)(es:List bK):eO:=[(1,.v (.box [ti n,.sl (bn es)])),(4,.ptr 2033 0),(5,.bC 3040 0)]
def lL{z:fp}{E:bU}{k:Nat}(h:3041<=k):∀r,k<=r->cJ (eM z st E) r=none:=λr hr=>NU z st E r (by omega)
def pI:ai:=[
 n 5 157,
 a 0 16 158 [],
 l 158 159 [1],
 x 1 157 159 160 [0,2],
 l 160 161 [3],
 C .lss 161 0 162 [4],
 m 162 163 [5],
 w 4 164 163 true [6],
 g (.nilCheck (t 164)) 165 163 true [7,6],
 u 3 165 166 163 true [8,6],
 v 166 167 163 true [9,6],
 u 0 16 168 163 true [6],
 v 168 169 163 true [11,6],
 g (.idxAddr 1 (t 167) (t 169)) 170 163 true [10,12,6],
 v 170 171 163 true [13,6],
 q 163 171 172 [6,14],
 m 172 173 [15,6],
 w 4 174 173 true [16],
 g (.load 5 true (t 16)) 175 173 true [16],
 g (.callR 105 [(t 174),(t 175)]) 176 173 true [17,18,16,16],
 w 4 177 173 true [16],
 g (.nilCheck (t 177)) 178 173 true [20,16],
 u 2 178 179 173 true [21,16],
 v 179 180 173 true [22,16],
 u 0 16 181 173 true [16],
 v 181 182 173 true [24,16],
 g (.idxAddr 2 (t 180) (t 182)) 183 173 true [23,25,16],
 g (.load 2 true (t 183)) 184 173 true [26,16],
 g (.eqT false true [(.int .i64),(.int .i64)] (t 176) (t 184)) 185 173 true [19,27,16],
 q 173 185 186 [16,28]]
def Rm(n:Nat)(es:List bK)(st:dy):bG:=[.v (ti n),.v (.sl (bn es)),.v (.sl (bH st.an)),.v (.sl (iy st.cj)),.undef,.undef,.undef]
def oZ(n:Nat)(es:List bK)(st:dy)(E:bU):c7:=[(2033,.box (Rm n es st)),(3040,.bE 0 3 1 (aG E))]
def frz{n:Nat}{us:List (bU)}{E:bU}{aK aZ:Nat}{tm:dn}(hx:3041<=aZ)(hl:fk tm (lK n es)):
  Le ⟨tm,cJ (eM ⟨n,es,us⟩ st E),aK,1000,[]⟩ ⟨DM.look (lK n es),cJ (oZ n es st E),aZ,1000,[]⟩:=by
 refine Le.bF ?_ ?_ ?_ ?_
 ·simp[eM]
 ·simp[oZ];omega
 ·simp[eM,oZ,Rm,mW,yC,sd,sZ]
 ·simp at hl;simp[hl,eM,oZ]
def kF(A:bG)(p:Nat)(C:bG)(val:DV):bG->bw->fV:=λargs f=>⟨args=A/\f p=some (.box C),val,f⟩
def afF{A:bG}{p:Nat}{C:bG}{val:DV}{f:bw}(hp:p∈bQ A)(hf:f p=some (.box C)):xJ (kF A p C val) A f:=λaJ h=>⟨⟨rfl,(h p hp).trans hf⟩,rfl,rfl⟩
def phE{n:Nat}(H:hE n es)(lb:st.an.length=n)(lf:st.cj.length=n)(bo:∀v∈st.an,jI v):
  aa aj 198 dE (PT sG (.eB [.sl (bH st.an),.sl (aG (Rl st es n es.length))])) ⟨DM.look (lK n es),cJ (oZ n es st (mU n n)),3500,1000,[]⟩:=by
 have hn:=H.2.1;have hel:=H.2.2.1;have e1:∀E,cJ (oZ n es st E) 2033=some (.box (Rm n es st)):=λE=>by simp[oZ]
 have e6:∀E,cJ (oZ n es st E) 3040=some (.bE 0 3 1 (aG E)):=λE=>by simp[oZ]
 have lL:∀{E:bU} {k:Nat},3041<=k->∀r,k<=r->cJ (oZ n es st E) r=none:=λhk r hr=>fS (M:=3041) (by simp[oZ]) r (by omega);simp only[Rm]at e1;have afG:=afE st es n;unfold dE;apply aa.sq cL fw [1,4,5,150,151,152];simp[FM];apply aa.block;refine aa.loop (λk:Nat=>⟨DM.look [(1,.v (.box [ti n,.sl (bn es)])),(4,.ptr 2033 0),(5,.bC 3040 0),(150,.v (.sl (bn es))),(151,.v (ti es.length)),(152,.v (ti k))],cJ (oZ n es st (Rl st es n k)),4000,1000,[]⟩)
  (λk=>k<=es.length) (λk=>es.length-k) 0 (dU rfl (lL (by omega)) (by simp)) (by omega) (λk hk=>?_)
 apply aa.ag cL fw [1,4,5,150,151,152,153];simp[FN];apply aa.seq;refine aa.cond rfl (λg=>?_) (λg=>?_)
 ·have g:k<es.length:=by simpa using g
  have hs:=NX st es n k;obtain⟨sO,het⟩:=lD H g;have rr:=kE g;have LP:=afG k;unfold K0 at hs;have mh:∀{E:bU},E=Rl st es n (k+1)->Le ⟨DM.look [(1,.v (.box [ti n,.sl (bn es)])),(4,.ptr 2033 0),(5,.bC 3040 0),(150,.v (.sl (bn es))),(151,.v (ti es.length)),(152,.v (ti (k+1)))],cJ (oZ n es st E),5000,1000,[]⟩ ⟨DM.look [(1,.v (.box [ti n,.sl (bn es)])),(4,.ptr 2033 0),(5,.bC 3040 0),(150,.v (.sl (bn es))),(151,.v (ti es.length)),(152,.v (ti (k+1)))],cJ (oZ n es st (Rl st es n (k+1))),4000,1000,[]⟩:=λh=>by
   subst h;exact dU rfl (lL (by omega)) (by simp)
  obtain⟨E,hE⟩:=be (Rl st es n k);rw[hE]at hs LP⊢;obtain⟨e,KT⟩:=be (es.getD k default);rw[KT]at hs sO het rr;have hed:afA st.an.length e:=⟨λt ht=>by have:=sO.2.2.1 t ht;omega,⟨sO.2.2.2.1,sO.2.2.2.2.1⟩,by omega⟩;obtain⟨⟨wc,wz⟩,hw⟩:=be (gW st.an e);have aC:ay aj (bB [(105,en (kF [.ptr 2033 0,.v (.agg e.enc)] 2033 (Rm n es st) (.v (.agg [ti wc,ti wz]))))]):=by
   refine ay.ij ay.nil ?_;rintro args ab ⟨rfl,h⟩;refine⟨λN hN=>?_,λr hr=>hr⟩;have:=ana hN h hed bo;rw[hw]at this;exact⟨this.entry,this.run⟩
  rw[hw]at hs;obtain⟨eh,ts,ec,e0',e1'⟩:=e;obtain⟨y,rfl⟩:=kK sO.1;have hy:y<n:=by have:=sO.2.1;simp only at this;omega
  simp only[bK.enc]at rr aC;simp only[iP]at hs;have rb:=dq (l:=st.an) (y:=y) (by omega);have rf:=kb (l:=st.cj) (y:=y) (by omega);have re:=cM (l:=E) (y:=y) (by omega);rw[show(default:Bool)=false from rfl]at rf;rw[show(default:Int)=0 from rfl]at re;have KX:bv st.an y=st.an.getD y default:=rfl;rw[KX]at hs;obtain⟨⟨bc,bz⟩,hb⟩:=be (st.an.getD y default);obtain⟨fb,hf⟩:=be (st.cj.getD y false);obtain⟨ev,hev⟩:=be (E.getD y 0);rw[hb]at rb hs;rw[hf]at rf hs;rw[hev]at re hs;apply aa.skip;simp;apply aa.seq;apply aa.block;apply aa.ag cL fw [1,4,5,15,16,150,151,152];simp[FO,rr,g];refine aa.le (Le.bF (o0:=(_,.box [.v (ti y),.v (.sl (aG ts)),.v (ti ec),.v (ti e0'),.v (ti e1')])::(_,.box [.v (ti 0),.aX,.v (ti 0),.v (ti 0),.v (ti 0)])::oZ n es st E) (o:=oZ n es st E) (l:=[(1,.v (.box [ti n,.sl (bn es)])),(4,.ptr 2033 0),(5,.bC 3040 0),(15,.v (ti k)),(16,.v (.box [ti y,.sl (aG ts),ti ec,ti e0',ti e1'])),(150,.v (.sl (bn es))),(151,.v (ti es.length)),(152,.v (ti k))]) (aZ:=4200) ?_ ?_ ?_ ?_) ?_
  ·simp[oZ]
  ·simp[oZ]
  ·simp[oZ,Rm]
  ·simp[oZ]
  obtain⟨c1,b8⟩:=be (decide ((ev<0/\fb=true)/\(⟨wc,wz⟩:dg)=⟨bc,bz⟩):Bool);refine aa.seq (aa.to ⟨DM.look [(1,.v (.box [ti n,.sl (bn es)])),(4,.ptr 2033 0),(5,.bC 3040 0),(15,.v (ti k)),(16,.v (.box [ti y,.sl (aG ts),ti ec,ti e0',ti e1'])),(150,.v (.sl (bn es))),(151,.v (ti es.length)),(152,.v (ti k)),(186,.v (.bool c1))],cJ (oZ n es st E),4500,1000,[]⟩ ?_ ?_)
  ·by_cases q1:ev<0
   ·cases fb with
    |true=>
     refine aa.qa aC fw (rs:=pI) (.inr ⟨_,rfl⟩) (by kernel_rfl) [1,4,5,15,16,150,151,152,186] ?_;simp[pI,kF,e1,e6,re,rb,rf,q1,lb,lf,LP,hy];refine⟨afF (by simp[bQ,aP]) (e1 E),dU rfl (lL (by omega)) ?_⟩;rw[<-b8];simp;exact λ_ _=>q1
    |false=>
     have:c1=false:=by rw[<-b8];simp
     refine aa.qa aC fw (rs:=pI) (.inr ⟨_,rfl⟩) (by kernel_rfl) [1,4,5,15,16,150,151,152,186] ?_;simp[pI,e1,e6,re,rf,q1,lf,LP,hy,this];exact dU rfl (lL (by omega)) (by simp)
   ·have:c1=false:=by rw[<-b8];simp[q1]
    refine aa.qa aC fw (rs:=pI) (.inr ⟨_,rfl⟩) (by kernel_rfl) [1,4,5,15,16,150,151,152,186] ?_;simp[pI,e6,re,q1,LP,hy,this];exact dU rfl (lL (by omega)) (by simp)
  have w2:IntKind.i64.wrap ((k:Int)+1)=((k+1:Nat):Int):=by rw[aF (by omega)];omega
  refine aa.cond rfl (λg2=>?_) (λg2=>?_)
  ·have g2:c1=true:=by simpa using g2
   subst g2;have hc:=qW b8;rw[cF hc]at hs;apply aa.fA cL fw [1,4,5,150,151,152];simp[FP,e6,LP,hy,re];apply aa.fA cL fw [1,4,5,150,151,152];simp[zQ,w2];refine⟨k+1,dU ?_ (lL (by omega)) (by simp),by omega,by omega⟩;rw[hs];funext q;simp only[oZ,c6,ii,lX];by_cases h1:q=3040
   ·subst h1;rfl
   ·simp only[aY h1]
  ·have g2:c1=false:=by simpa using g2
   subst g2;have hc:=wS b8;rw[aY hc]at hs;apply aa.skip;simp;apply aa.fA cL fw [1,4,5,150,151,152];simp[zQ,w2];exact⟨k+1,dU (by rw[hs]) (lL (by omega)) (by simp),by omega,by omega⟩
 ·have g:k=es.length:=by
   have:¬k<es.length:=by simpa using g
   omega
  subst g;apply aa.exit;simp;apply aa.seq;apply aa.fA cL fw [2,3];simp[FQ,e1];apply aa.ret;simp[sG,PT,e6]
end
section
variable{es:List bK}{st:dy}
def Vw(nd:Int)(es:List bK):dy:=⟨gj nd es,(gj nd es).map (λv=>decide (v.aI<1099511627776)),[],q0⟩
def anb{nd:Int}{c:Int}(h:KI nd es (gj nd es) (λ_=>0) (λ_=>False) c st)(hb:st.an=(Vw nd es).an):st.cj=(Vw nd es).cj:=by
 have l1:=h.lb;have l2:=h.lf;have fJ:st.an=gj nd es:=hb;show st.cj=(gj nd es).map _;rw[<-fJ];refine Vt (by simp;omega) λi h1 h2=>?_;have hi:i<st.an.length:=by simpa using h2
 have e1:bv st.an i=st.an[i]:=by simp[bv,List.getD,hi]
 have e2:st.cj.getD i false=st.cj[i]:=by simp[List.getD,h1]
 rw[OZ,<-e1,<-e2];cases hf:st.cj.getD i false with
 |true=>
  have:=h.fv i (by omega) hf;simp[this]
 |false=>
  have:=h.uv i (by omega) hf;rw[this];rfl
def qn(l:List Bool):Nat:=l.countP (λb=> !b)
def NY:∀{l:List Bool} {i:Nat},i<l.length->l.getD i false=false->qn (l.set i true)+1=qn l
 |[],i,h,_=>by simp at h
 |b::l,0,h,hb=>by
  simp at hb;subst hb;simp[qn]
 |b::l,i+1,h,hb=>by
  have:=NY (l:=l) (i:=i) (by simpa using h) (by simpa using hb);unfold qn at this⊢;rw[Zcg,Zc2,Zc2];omega
def NZ(z:fp)(st:dy)(E:bU)(s:Qs):bO (cJ (eM z st E)) 2414 (⟨yC,z,st⟩:SV).qv s=cJ (eM z ⟨st.an,st.cj,st.fB,s⟩ E):=by
 have h:=oY z st E;have e:=sN h st s;rw[show cg (cJ (eM z st E)) ⟨yC,z,st⟩ st=cJ (eM z st E)from eS h]at e;exact e.trans (Ar z st ⟨st.an,st.cj,st.fB,s⟩ E)
def N1{z:fp}{E:bU}{r:Nat}(h:3041<=r):gone (cJ (eM z st E)) id r:=by
 rintro q hq rfl;exact hq (NU z st E _ h)
def phD{n:Nat}{us:List (bU)}{st:dy}{c:Int}(H:hE n es)(hu:Ao n es us)(hc:c<=90000)(hK:KI n es (gj n es) (λ_=>0) (λ_=>False) c st):
  aa aj 198 dD (PT sG (.eB [.sl (bH (gj n es)),.sl (aG (Rl (Vw n es) es n es.length))])) ⟨DM.look (lK n es),cJ (eM ⟨n,es,us⟩ st (mU n n)),3500,1000,[]⟩:=by
 have hS:=KY H;have hG:=Yy H;unfold dD;apply aa.seq;apply aa.block;refine aa.loop (λs:dy=>⟨DM.look (lK n es),cJ (eM ⟨n,es,us⟩ s (mU n n)),3500,1000,[]⟩)
  (λs=>KI n es (gj n es) (λ_=>0) (λ_=>False) c s) (λs=>qn s.cj*(c.toNat+1)+s.s.heap.length) st (Le.refl _) hK (λs hs=>?_)
 clear hK st;have e1:=λs=>(oY ⟨n,es,us⟩ s (mU n n)).sp;have e3:=λs=>(oY ⟨n,es,us⟩ s (mU n n)).rf;have e6:∀z s E,cJ (eM z s E) 3040=some (.bE 0 3 1 (aG E)):=λz s E=>by simp[eM]
 simp only[mW,yC]at e1;simp only[sZ,yC]at e3;have KW:=hs.yi;have Jl:=hs.nc;have ni:∀r,cJ (eM ⟨n,es,us⟩ s (mU n n)) r=none->cJ (eM ⟨n,es,us⟩ (mn s) (mU n n)) r=none:=λr hr=>by
  rw[show cJ (eM ⟨n,es,us⟩ (mn s) (mU n n))=bO (cJ (eM ⟨n,es,us⟩ s (mU n n))) 2414 (⟨yC,⟨n,es,us⟩,s⟩:SV).qv (fQ s.s)from(NZ _ _ _ _).symm];exact g5 (f:=cJ (eM ⟨n,es,us⟩ s (mU n n))) (oY ⟨n,es,us⟩ s (mU n n)).qv _ hr
 have nh:∀N,(∀r,N<=r->cJ (eM ⟨n,es,us⟩ s (mU n n)) r=none)->aQ aj 103 [.ptr 2414 0] (cJ (eM ⟨n,es,us⟩ s (mU n n))) ⟨True,.v (vR s.s),cJ (eM ⟨n,es,us⟩ (mn s) (mU n n))⟩:=λN h=>by
  have:=ar8 (f0:=cJ (eM ⟨n,es,us⟩ s (mU n n))) h (oY ⟨n,es,us⟩ s (mU n n)).qv (show xA s.s from⟨hs.ok,hs.nd',by omega⟩);have e:bO (cJ (eM ⟨n,es,us⟩ s (mU n n))) (⟨yC,⟨n,es,us⟩,s⟩:SV).k.q (⟨yC,⟨n,es,us⟩,s⟩:SV).qv (fQ s.s)=cJ (eM ⟨n,es,us⟩ (mn s) (mU n n)):=NZ _ _ _ _;have e2:(⟨yC,⟨n,es,us⟩,s⟩:SV).qv.s=s.s:=rfl;rw[e2,e]at this;exact this
 have aC:=BK ay.nil nh ni;apply aa.block;by_cases bZ:s.s.heap=[]
 ·have hpv:vR s.s=.eB [.agg [ti 0,ti 0,ti 0],.bool false]:=by simp[vR,bZ]
  have hb:s.an=(Vw n es).an:=hs.am8 H hS hG bZ;have hf:=anb hs hb;have Xk:mn s=s:=by simp[mn,fQ,bZ]
  rw[hpv,Xk]at aC;apply aa.cY aC fw (rs:=ww) rfl (by kernel_rfl) [1,4,5,13,14];simp[ww,e1];refine aa.le (alb (L:=[(_,.box [.v (ti 0),.v (ti 0),.v (ti 0)]),(_,.box [.v (ti 0),.v (ti 0),.v (ti 0)])]) (L':=[]) (l:=[(1,.v (.box [ti n,.sl (bn es)])),(4,.ptr 2033 0),(5,.bC 3040 0),(14,.v (.bool false))]) (aZ:=3800) ?_ ?_ (by omega) ?_ ?_) ?_;iterate 3(·simp)
  ·simp[e1,e6]
  apply aa.sq cL fw [1,4,5,136];simp[zP];refine aa.cond rfl (λ_=>?_) (λg=>by cases g);apply aa.exit;simp;refine aa.le (frz (aZ:=3500) (by omega) (by simp)) ?_;have hfo:oZ n es s (mU n n)=oZ n es (Vw n es) (mU n n):=by simp only[oZ,Rm,hb,hf]
  rw[hfo];have hlb:(Vw n es).an.length=n:=by have:=hs.lb;rw[hb]at this;omega
  have hlf:(Vw n es).cj.length=n:=by have:=hs.lf;rw[hf]at this;omega
  have Cs:=hs.bo;rw[hb]at Cs;exact phE H hlb hlf Cs
 ·obtain⟨re,hre⟩:=be (root s);have hpv:vR s.s=.eB [.agg [ti re.x,ti re.v.aI,ti re.v.size],.bool true]:=by simp[vR,bZ,<-hre]
  rw[hpv]at aC;apply aa.cY aC fw (rs:=ww) rfl (by kernel_rfl) [1,4,5,13,14];simp[ww,e1];obtain⟨⟨r1,r2⟩,r3,r4,r5,r6,r7⟩:=hs.wV _ (D0 bZ);obtain⟨f1,f2,f3⟩:=BO bZ;rw[hre]at r1 r2 r3 r4 r5 r6 r7;obtain⟨y,hy⟩:=kK r1;have GB:y<n:=by omega
  have hlf:s.cj.length=n:=by have:=hs.lf;omega
  have rf:=kb (l:=s.cj) (y:=y) (by omega);rw[show(default:Bool)=false from rfl]at rf;obtain⟨fb,NP⟩:=be (s.cj.getD y false);rw[NP]at rf;have hpf:(mn s).cj=s.cj:=rfl;have Xf:(mn s).s.heap.length+1=s.s.heap.length:=by
   have:=Xd.2 bZ;show(fQ s.s).heap.length+1=_;omega
  refine aa.le (alb (L:=[(_,.box [.v (ti re.x),.v (ti re.v.aI),.v (ti re.v.size)]),(_,.box [.v (ti 0),.v (ti 0),.v (ti 0)])]) (L':=[]) (l:=[(1,.v (.box [ti n,.sl (bn es)])),(4,.ptr 2033 0),(5,.bC 3040 0),(13,.v (.box [ti re.x,ti re.v.aI,ti re.v.size])),(14,.v (.bool true))]) (aZ:=3800) ?_ ?_ (by omega) ?_ ?_) ?_;iterate 3(·simp)
  ·simp[e1,e6];exact N1 (by omega)
  apply aa.sq cL fw [1,4,5,13,136];simp[zP];refine aa.cond rfl (λg=>by cases g) (λ_=>?_);apply aa.skip;simp;apply aa.ag cL fw [1,4,5,13,145];simp[FL,e1,e3,hy,hpf,hlf,GB,rf];refine aa.cond rfl (λg=>?_) (λg=>?_)
  ·have g:s.cj.getD y false=false:=NP.trans (by simpa using g);obtain⟨k1,k2,k3⟩:=hs.settle H hS hc bZ hu (by rw[hre,hy];simpa using g);rw[hre]at k1 k2 k3;obtain⟨R,hR⟩:=be (ub ⟨n,es,us⟩ (mn s) re.x re.v);rw[hR]at k2 k3;rw[hy]at k1 hR k3;have Rn:∀N,(∀r,N<=r->cJ (eM ⟨n,es,us⟩ (mn s) (mU n n)) r=none)->aQ aj 104 [.ptr 2033 0,.v (.agg [ti y,ti re.v.aI,ti re.v.size])] (cJ (eM ⟨n,es,us⟩ (mn s) (mU n n))) ⟨True,.v (.eB []),cJ (eM ⟨n,es,us⟩ R (mU n n))⟩:=λN h=>by
    have:=ar7 (f0:=cJ (eM ⟨n,es,us⟩ (mn s) (mU n n))) h (oY ⟨n,es,us⟩ (mn s) (mU n n)) k1;rw[Ar]at this;simp only[hR]at this;exact this
   refine aa.De (BK ay.nil Rn ?_) fw (rs:=If) rfl (by kernel_rfl) [1,4,5] ?_
   ·intro r hr;rw[<-hR,<-Ar];exact g6 (v:=⟨yC,⟨n,es,us⟩,mn s⟩) (oY _ _ _) _ hr
   simp[If];refine⟨R,dU rfl (lL (by omega)) (by simp),k2, ?_⟩;have hcf:=NY (l:=s.cj) (i:=y) (by omega) g;have hRn:=k2.nc;have hRc:=k2.yi;rw[k3,iP,<-hcf,Za];omega
  ·have g:s.cj.getD y false=true:=NP.trans (by simpa using g);apply aa.skip;simp;refine⟨mn s,dU rfl (lL (by omega)) (by simp),hs.drop bZ (by rw[hre,hy];simpa using g), ?_⟩;rw[hpf];omega
end
section
variable{nd:Int}{es:List bK}
def adw(H:hE nd es):∀y:Nat,(y:Int)<nd->¬(⟨1099511627776,0⟩:dg).lt (bv (gj nd es) y):=by
 let P:b7->Prop:=λw=>Lv nd w/\∀y:Nat,(y:Int)<nd->¬(⟨1099511627776,0⟩:dg).lt (bv w y)
 have GO:∀w,P w->∀e∈es,P (qX w e):=by
  intro w hw e he;have sO:=H.2.2.2 e he;refine⟨(sK sO.1 hw.1).1,λy hy=>?_⟩;unfold qX;split
  ·rename_i ef;have hh:e.head.toNat<w.length:=by have:=hw.1.1;have:=sO.1.1;have:=sO.1.2.1;omega
   have KX:bv (w.set e.head.toNat (d0 e.aI (dY w e.dH))) y=if y=e.head.toNat then d0 e.aI (dY w e.dH)else bv w y:=by
    unfold bv;simp only[iP];exact eV hh
   rw[KX];split
   ·rename_i e1;have h3:=hw.2 y hy;have e2:bv w y=w.getD e.head.toNat default:=by unfold bv;rw[iP,e1]
    rw[e2]at h3;unfold dg.lt at ef h3⊢;simp only at h3⊢;omega
   ·exact hw.2 y hy
  ·exact hw.2 y hy
 have Rj:∀w,P w->∀y,y<=es.length->P (eL es w y):=by
  intro w hw y;induction y with
  |zero=>intro _;exact hw
  |succ y ih=>intro hy;rw[ke];exact GO _ (ih (by omega)) _ (bq (by omega))
 have Rk:∀f w,P w->P (lJ es f w):=by
  intro f;induction f with
  |zero=>intro w hw;exact hw
  |succ f ih=>
   intro w hw;unfold lJ;split
   ·exact hw
   ·exact ih _ (Rj w hw _ (fq _))
 refine(Rk _ _ ⟨z7 H.Lu,λy hy=>?_⟩).2;have h0:=H.1;have e1:bv (GA nd) y=⟨1099511627776,0⟩:=by unfold bv GA;exact iq (by omega)
 rw[e1];simp[dg.lt]
def qo(es:List bK):bU:=es.map λe=>(e.dH.length:Int)
def Iy{k:Nat}(h:k<es.length):(qo es).getD k 0=((es.getD k default).dH.length:Int):=by simp[qo,List.getD,h]
def Iz:∀{es:List bK},(∀e∈es,e.dH.length<=2)->uP (qo es)<=2*es.length
 |[],_=>by simp[qo,uP]
 |e::es,h=>by
  have h1:=h e (by simp);have:=Iz (es:=es) λx hx=>h x (by simp[hx]);simp only[qo,qD,uP,w9]at this⊢;omega
def GQ(n:Nat)(ts:bU):BM (List.replicate n false) ts=ts.length:=by
 unfold BM;rw[List.countP_eq_length];intro t _;have:(List.replicate n false).getD t.toNat false=false:=by
  simp only[List.getD,Zcw];split<;>rfl
 rw[this];rfl
def K1(n:Nat)(es:List bK):KZ n es es.length=⟨List.replicate n ⟨1099511627776,0⟩,List.replicate n false,qo es,q0⟩:=by simp[KZ,qo]
def KI.auQ{n:Nat}(hn:nd=n)(H:hE nd es):KI nd es (gj nd es) (λ_=>0) (λk=>0<=k) (uP (qo es)) (KZ n es es.length):=by
 have hb:∀y:Nat,(y:Int)<nd->bv (List.replicate n (⟨1099511627776,0⟩:dg)) y=⟨1099511627776,0⟩:=λy hy=>by unfold bv;exact iq (by simp;omega)
 have hf:∀y:Nat,(List.replicate n false).getD y false=false:=λy=>by
  simp only[List.getD,Zcw];split<;>rfl
 rw[K1];refine⟨by simp[hn],by simp[hn],by simp[qo], ?_,λk hk=>by simp[q0]at hk,λi _ hi=>by simp[q0]at hi,λv hv=>?_,λk hk=>?_,λk _ _ _ h=>eA (Sk k) h,λe he=>by simp[q0]at he,λy hy=>?_,λy hy h=>?_,λy hy _=>?_, ?_,λh hh=>?_, ?_⟩
 ·exact⟨by simp[q0,qq],by simp[q0],by simp[q0]⟩
 ·rw[ZbU hv];simp[jI]
 ·simp only[GQ];rw[Iy hk];simp
 ·simp only;rw[hb y hy];exact adw H y hy
 ·simp only at h;rw[hf]at h;cases h
 ·exact hb y hy
 ·simp[q0]
 ·obtain⟨e,_,rfl⟩:=lq.1 hh;omega
 ·simp[q0]
def phC{n:Nat}(H:hE n es):
  aa aj 198 dC (PT sG (.eB [.sl (bH (gj n es)),.sl (aG (Rl (Vw n es) es n es.length))])) ⟨DM.look (lK n es),cJ (eM ⟨n,es,kj n es es.length⟩ (KZ n es es.length) (mU n n)),3500,1000,[]⟩:=by
 have hu:Ao n es (kj n es es.length):=Yz H;obtain⟨us,XR⟩:=be (kj n es es.length);rw[XR]at hu⊢;have hS:=KY H;have ar9:=Iz (es:=es) λe he=>(H.2.2.2 e he).2;have hel:=H.2.2.1;obtain⟨C,hC⟩:=be (uP (qo es));have hK:=KI.auQ (n:=n) rfl H;rw[hC]at hK ar9;have e1:=λs=>(oY ⟨n,es,us⟩ s (mU n n)).sp;have e4:=λs=>(oY ⟨n,es,us⟩ s (mU n n)).rh;simp only[mW,yC]at e1;simp only[s8,yC]at e4;have dN:(KZ n es es.length).fB.length=es.length:=by rw[K1];simp[qo]
 unfold dC;apply aa.sq cL fw [1,4,5,104,105,106];simp[FI,e1,e4,dN];apply aa.block;refine aa.loop (λp:Nat×dy=>⟨DM.look [(1,.v (.box [ti n,.sl (bn es)])),(4,.ptr 2033 0),(5,.bC 3040 0),(104,.bC 2028 0),(105,.v (ti es.length)),(106,.v (ti p.1))],cJ (eM ⟨n,es,us⟩ p.2 (mU n n)),4000,1000,[]⟩)
  (λp=>p.1<=es.length/\KI n es (gj n es) (λ_=>0) (λk=>p.1<=k) (C+p.1) p.2/\p.2.cj=List.replicate n false/\p.2.fB=qo es) (λp=>es.length-p.1) (0,KZ n es es.length) (dU rfl (lL (by omega)) (by simp)) ⟨by omega,by simpa using hK,by rw[K1],by rw[K1]⟩ ?_
 rintro⟨k,s⟩ ⟨hk,hs,hfs,hhs⟩;simp only at hk hs hfs hhs;apply aa.ag cL fw [1,4,5,104,105,106,107];simp[FJ];apply aa.seq;refine aa.cond rfl (λg=>?_) (λg=>?_)
 ·have g:k<es.length:=by simpa using g
  have Ci:(qo es).length=es.length:=by simp[qo]
  have rh:=cM (l:=qo es) (y:=k) (by omega);rw[show(default:Int)=0 from rfl,Iy g]at rh;have rr:=kE g;obtain⟨e,KT⟩:=be (es.getD k default);rw[KT]at rh rr;have w2:IntKind.i64.wrap ((k:Int)+1)=((k+1:Nat):Int):=by rw[aF (by omega)];omega
  have hwk:e.dH.length≠0->KI n es (gj n es) (λ_=>0) (λj=>k+1<=j) (C+(k+1:Nat)) s:=λbZ=>hs.Yu (λj hj h1 h2 _ h3=>by
   by_cases ej:j=k
   ·subst ej;rw[hfs,GQ,KT]at h2;exact bZ h2
   ·omega) (by omega)
  have hof:e.dH.length=0->KI n es (gj n es) (λ_=>0) (λj=>k+1<=j) (C+(k+1:Nat)) (qh s e):=λhe0=>by
   have h0:BM s.cj (es.getD k default).dH=0:=by rw[hfs,GQ,KT];exact he0
   have:=hs.GN H hS g h0 (λy hy yB=>by
    rw[hfs]at yB;simp only[List.getD,Zcw]at yB;split at yB<;>cases yB)
   rw[KT]at this;exact this.Yu (λj hj h1 _ _ h2=>by omega) (by omega)
  have hoo:=hs.qZ H (by omega) (us:=us) g;have asa:(qh s e).fB=s.fB/\(qh s e).cj=s.cj:=by
   unfold qh;split<;>exact⟨rfl,rfl⟩
  have aN:r8 ⟨n,es,us⟩ s k=qh s e:=by unfold r8;rw[show(⟨n,es,us⟩:fp).es=es from rfl,KT]
  obtain⟨eh,ts,ec,e0',e1'⟩:=e;simp only[bK.enc]at rr rh hwk hof;apply aa.skip;simp;apply aa.seq;apply aa.block;apply aa.ag cL fw [1,4,5,11,12,104,105,106];simp[FK,e4,hhs,Ci,rh,g];obtain⟨c1,b8⟩:=be (decide (ts.length=0):Bool);refine aa.cH cL fw [(1,.v (.box [ti n,.sl (bn es)])),(4,.ptr 2033 0),(5,.bC 3040 0),(11,.v (ti k)),(12,.v (ti ts.length)),(104,.bC 2028 0),(105,.v (ti es.length)),(106,.v (ti k)),(122,.v (.bool c1))] ?_ ?_
  ·by_cases q1:ts.length=0
   ·have:c1=true:=by rw[<-b8];simp[q1]
    have q2:ts=[]:=LQ q1;simp[zN,rr,q2,this,g]
   ·have:c1=false:=by rw[<-b8];simp[q1]
    have q2:ts≠[]:=λh=>q1 (by rw[h];rfl);have q3:¬(ts.length:Int)=0:=by omega
    simp[zN,q2,this]
  refine aa.cond rfl (λg2=>?_) (λg2=>?_)
  ·have g2:c1=true:=by simpa using g2
   subst g2;have h0:ts.length=0:=qW b8;have nh:∀N,(∀r,N<=r->cJ (eM ⟨n,es,us⟩ s (mU n n)) r=none)->aQ aj 102 [.ptr 2033 0,.v (ti k)] (cJ (eM ⟨n,es,us⟩ s (mU n n))) ⟨True,.v (.eB []),cJ (eM ⟨n,es,us⟩ (qh s ⟨eh,ts,ec,e0',e1'⟩) (mU n n))⟩:=λN h=>by
    have:=ala (f0:=cJ (eM ⟨n,es,us⟩ s (mU n n))) h (oY ⟨n,es,us⟩ s (mU n n)) hoo;rw[Ar]at this;simp only[aN]at this;exact this
   refine aa.De (BK ay.nil nh ?_) fw (rs:=Ie) rfl (by kernel_rfl) [1,4,5,104,105,106] ?_
   ·intro r hr;rw[<-aN,<-Ar];exact g6 (v:=⟨yC,⟨n,es,us⟩,s⟩) (oY _ _ _) _ hr
   simp[Ie];apply aa.fA cL fw [1,4,5,104,105,106];simp[zO,w2];exact⟨k+1,_,dU rfl (lL (by omega)) (by simp),⟨by omega,hof h0,asa.2.trans hfs,asa.1.trans hhs⟩,by omega⟩
  ·have g2:c1=false:=by simpa using g2
   subst g2;have h0:ts.length≠0:=wS b8;apply aa.skip;simp;apply aa.fA cL fw [1,4,5,104,105,106];simp[zO,w2];exact⟨k+1,s,dU rfl (lL (by omega)) (by simp),⟨by omega,hwk h0,hfs,hhs⟩,by omega⟩
 ·have g:k=es.length:=by
   have:¬k<es.length:=by simpa using g
   omega
  subst g;apply aa.exit;simp;refine aa.le (dU (l:=lK n es) (aZ:=3500) rfl (lL (by omega)) (by simp)) ?_;exact phD H hu (by omega) (hs.Yu (ex':=λ_=>False) (λk hk _ _ _ h=>by omega) (ZcK _))
end
section
variable{es:List bK}{st:dy}{f tm:dn}{aK aZ:Nat}
def iR(n:Nat)(es:List bK)(st:dy)(E:bU)(cs:bG):c7:=[(2033,.box (mW yC ⟨n,es,List.replicate n []⟩)),(2021,sd st),(2024,sZ st),(2028,s8 st),(2031,.box cs),(2414,qB 2419 2412 q0),(2419,hB q0),(2412,mB q0),(3040,.bE 0 3 1 (aG E))]
def vT(U:List (bU))(t:Nat):DV:=if U.getD t []=[]then .aX else .bC (5000+t) ((U.getD t []).length-1)
def fT(n:Nat)(U:List (bU)):bG:=(List.range n).map (vT U)
def rH(U:List (bU))(t:Nat):Option Ob:=if U.getD t []=[]then none else some (.bE ((U.getD t []).length-1) 3 1 (aG (U.getD t [])))
def uf(n:Nat)(es:List bK)(st:dy)(U:List (bU)):bw:=λr=>if 5000<=r/\r<5000+n then rH U (r-5000)else cJ (iR n es st (mU n n) (fT n U)) r
def pJ(n:Nat)(es:List bK)(st:dy)(E:bU)(cs:bG):∀q∈iR n es st E cs,1000<=q.1/\q.1<3041:=by simp[iR]
def BQ{n:Nat}{U:List (bU)}(hn:n<=1000){k:Nat}(hk:7000<=k):∀r,k<=r->uf n es st U r=none:=λr hr=>by
 unfold uf;rw[aY (by omega)];exact fS (λq hq=>(pJ _ _ _ _ _ q hq).2) r (by omega)
def kS{n:Nat}{U:List (bU)}{r:Nat}(h:r<5000):uf n es st U r=cJ (iR n es st (mU n n) (fT n U)) r:=by
 unfold uf;rw[aY (by omega)]
def od{n:Nat}{U:List (bU)}{t:Nat}(h:t<n):uf n es st U (5000+t)=rH U t:=by
 unfold uf;rw[cF (by omega),Nat.add_sub_cancel_left]
def N3{U:List (bU)}{t m:Nat}(h:m∈aP (vT U t)):m=5000+t/\U.getD t []≠[]:=by
 unfold vT at h;split at h
 ·simp[aP]at h
 ·simp only[aP,fN,g9,wh]at h;exact⟨h,by assumption⟩
def p0{l:cQ}{m:Nat}(h:m∈bQ (l.map f)):∃t∈l,m∈aP (f t):=by
 induction l with
 |nil=>simp[bQ]at h
 |cons a l ih=>
  simp only[qD,bQ,oi]at h;rcases h with h|h
  ·exact⟨a,by simp,h⟩
  ·obtain⟨t,ht,h⟩:=ih h;exact⟨t,by simp[ht],h⟩
def IB{a b:bw}{σ:Nat->Nat}{l:cQ}{g:dn}(h:∀t∈l,iY a b σ (f t) (g t)):iF a b σ (l.map f) (l.map g):=by
 induction l with
 |nil=>simp[iF]
 |cons x l ih=>
  simp only[qD,iF];exact⟨h x (by simp),ih λt ht=>h t (by simp[ht])⟩
def IC{n t:Nat}{U:List (bU)}{c:DV}(ht:t<n):(fT n U).set t c=(List.range n).map (λs=>if s=t then c else vT U s):=by
 refine Vt (by simp[fT]) λi h1 h2=>?_;simp only[Zcf,fT,OZ,Zb5];by_cases e:t=i
 ·subst e;simp
 ·rw[aY e,aY (λh=>e h.symm)]
def Ro{n:Nat}{U:List (bU)}(hn:n<=1000):df (uf n es st U) 7000:=by
 intro r o h;have hr:r<7000:=by
  by_cases hr:r<7000
  ·exact hr
  ·rw[BQ hn (fq 7000) r (by omega)]at h;cases h
 refine⟨hr,λm hm=>?_⟩;by_cases jH:5000<=r/\r<5000+n
 ·unfold uf at h;rw[cF jH]at h;unfold rH at h;split at h
  ·cases h
  ·simp only[cu]at h;subst h;simp[bb]at hm
 ·unfold uf at h;rw[aY jH]at h;have li:=kw h;simp only[iR,fN,g9,wh,tD]at li;rcases li with⟨rfl,rfl⟩|⟨rfl,rfl⟩|⟨rfl,rfl⟩|⟨rfl,rfl⟩|⟨rfl,rfl⟩|⟨rfl,rfl⟩|⟨rfl,rfl⟩|⟨rfl,rfl⟩|⟨rfl,rfl⟩
  ·simp only[mW,yC,bb,bQ,aP,wa,yP,oi,fN,g9,wh]at hm;rcases hm with rfl|rfl|rfl|rfl|rfl<;>rw[kS (by omega)]<;>simp[iR]
  ·simp[sd,bb]at hm
  ·simp[sZ,bb]at hm
  ·simp[s8,bb]at hm
  ·obtain⟨t,ht,h2⟩:=p0 (f:=vT U) (l:=List.range n) (show m∈bQ (fT n U)from hm);obtain⟨rfl,h3⟩:=N3 h2;rw[od (by simpa using ht)];unfold rH;rw[aY h3];simp
  ·simp only[qB,bb,bQ,aP,wa,yP,oi,fN,g9,wh]at hm;rcases hm with rfl|rfl<;>rw[kS (by omega)]<;>simp[iR]
  ·simp[hB,bb]at hm
  ·simp[mB,q0,vM,bb]at hm
  ·simp[bb]at hm
def ald{f:bw}{M:Nat}(aV:df f M)(hM:1000<=M){L:c7}{l:eO}(hL:∀q∈L,M<=q.1)(hn:M<=aZ)
  (iW:fK (aO L f) f id tm l):Le ⟨tm,aO L f,aK,1000,[]⟩ ⟨DM.look l,f,aZ,1000,[]⟩:=by
 have low:∀r,r<M->aO L f r=f r:=λr hr=>qr hr hL;refine Le.XT rfl rfl (λr hr=>?_) (λr o h=>?_) (λr hr o h=>?_) (λk=>mI l iW k)
 ·simp only at hr⊢;cases h:f r with
  |none=>rfl
  |some o=>have:=(aV r o h).1;omega
 ·have hr:=(aV r o h).1;refine⟨o,(low r hr).trans h,.inr ⟨rfl,λm hm=>?_⟩⟩;have Ps:=(aV r o h).2 m hm;cases D2:f m with
  |none=>exact eA D2 Ps
  |some o'=>exact⟨o',o',(low m (aV m o' D2).1).trans D2,D2,bk _⟩
 ·simp only at hr h⊢;rw[low r (by omega)]at h;exact⟨o,h,bk _⟩
def YB{n:Nat}{U:List (bU)}(h:U.length=n):oH U=(List.range n).map (λt=>.v (.sl (aG (U.getD t [])))):=by
 refine Vt (by simp[oH,h]) λi h1 h2=>?_;have:i<U.length:=by simpa [oH]using h1
 simp[oH,List.getD,this]
def afH{n:Nat}{U:List (bU)}(hn:n<=1000)(yS:st.s=q0)(hU:U.length=n)(hx:3041<=aZ)(hl:fk tm (lK n es)):
  Le ⟨tm,uf n es st U,aK,1000,[]⟩ ⟨DM.look (lK n es),cJ (eM ⟨n,es,U⟩ st (mU n n)),aZ,1000,[]⟩:=by
 have asc:∀t,gone (cJ (eM ⟨n,es,U⟩ st (mU n n))) id (5000+t):=λt=>N1 (by omega);have lo:∀r,r<3041->r≠2031->uf n es st U r=cJ (eM ⟨n,es,U⟩ st (mU n n)) r:=λr hr bZ=>by
  rw[kS (by omega)];simp only[iR,eM,c6,ii,yS,aY bZ];simp[mW,yC,hU]
 have asd:uf n es st U 2031=some (.box (fT n U)):=by rw[kS (by omega)];simp[iR]
 have ane:cJ (eM ⟨n,es,U⟩ st (mU n n)) 2031=some (.box (oH U)):=by simp[eM]
 refine Le.XT rfl rfl (lL hx) (λr o h=>?_) (λr hr o h=>?_) (λk=>mI _ ?_ k)
 ·simp only at h;have hr:r<3041:=(ud _ _ _ r o h).1;by_cases e:r=2031
  ·subst e;rw[ane]at h;simp only[cu]at h;subst h;refine⟨_,asd,.inl ?_⟩;show iF _ _ _ _ _;rw[YB hU];refine IB λt ht=>?_;have ht:t<n:=by simpa using ht
   unfold vT;split
   ·rename_i h0;rw[h0];simp[iY,aG]
   ·rename_i h0;simp only[iY,zo];refine .inr ⟨⟨3,1, ?_⟩,asc t⟩;rw[od ht];unfold rH;rw[aY h0]
  ·refine⟨o,(lo r hr e).trans h,.inr ⟨rfl,λm hm=>?_⟩⟩;have Ps:=(ud _ _ _ r o h).2 m hm;cases D2:cJ (eM ⟨n,es,U⟩ st (mU n n)) m with
   |none=>exact eA D2 Ps
   |some o'=>
    have hm3:=(ud _ _ _ m o' D2).1;by_cases e:m=2031
    ·subst e;rw[ane]at D2;simp only[cu]at D2;subst D2;exact⟨_,_,asd,ane,trivial⟩
    ·exact⟨o',o',(lo m hm3 e).trans D2,D2,bk _⟩
 ·exfalso;simp only at hr h;rw[kS (by omega)]at h;have:=(pJ _ _ _ _ _ _ (kw h)).1;omega
 ·simp at hl;simp[hl,eM];rw[kS (by omega)];simp[iR]
end
def lB(n:Nat)(es:List bK)(k:Nat)(ts:bU)(i:Nat):eO:=[(1,.v (.box [ti n,.sl (bn es)])),(4,.ptr 2033 0),(5,.bC 3040 0),(7,.v (ti k)),(60,.v (.sl (bn es))),(61,.v (ti es.length)),(62,.v (ti k)),(77,.v (.sl (aG ts))),(78,.v (ti ts.length)),(79,.v (ti i))]
def anf{n:Nat}{es:List bK}{st:dy}{U:List (bU)}(hn:n<=1000){t:Nat}(ht:t<n)(hU:U.length=n)(h0:U.getD t []=[]){N0:Nat}(hN:7000<=N0){x:Int}{tm:dn}{aK k i:Nat}{ts:bU}(hl:fk tm (lB n es k ts i)):
  Le ⟨tm,aO [(2031,.box ((fT n U).set t (.bC N0 0))),(N0,.bE 0 3 1 [[ti x]])] (uf n es st U),aK,1000,[]⟩ ⟨DM.look (lB n es k ts i),uf n es st (U.set t [x]),7000,1000,[]⟩:=by
 have mF:∀s,(U.set t [x]).getD s []=if s=t then [x]else U.getD s []:=λs=>eV (by omega)
 obtain⟨A,hA⟩:=be (aO [(2031,.box ((fT n U).set t (.bC N0 0))),(N0,.bE 0 3 1 [[ti x]])] (uf n es st U));have lo:∀r,r<7000->r≠2031->A r=uf n es st U r:=λr hr bZ=>by
  rw[<-hA,aH,aY bZ,aH,aY (by omega)];rfl
 have loB:∀r,r<5000->r≠2031->A r=uf n es st (U.set t [x]) r:=λr hr bZ=>by
  rw[lo r (by omega) bZ,kS hr,kS hr];simp only[iR,c6,ii,aY bZ]
 have o31:A 2031=some (.box ((fT n U).set t (.bC N0 0))):=by rw[<-hA,aH,cF rfl]
 have oN:A N0=some (.bE 0 3 1 [[ti x]]):=by rw[<-hA,aH,aY (by omega),aH,cF rfl]
 have n31:uf n es st (U.set t [x]) 2031=some (.box (fT n (U.set t [x]))):=by rw[kS (by omega)];simp[iR]
 have nt:uf n es st (U.set t [x]) (5000+t)=some (.bE 0 3 1 [[ti x]]):=by
  rw[od ht];unfold rH;rw[mF,cF rfl];rfl
 have ns:∀s,s<n->s≠t->uf n es st (U.set t [x]) (5000+s)=A (5000+s):=λs hs bZ=>by
  rw[lo _ (by omega) (by omega),od hs,od hs];unfold rH;rw[mF,aY bZ]
 rw[hA];have sne:∀r,r<5000->(if r=5000+t then N0 else r)=r:=λr hr=>aY (by omega);have base:∀r o,r<5000->uf n es st (U.set t [x]) r=some o->r=2021\/r=2024\/r=2028\/r=2031\/r=2033\/r=2412\/r=2414\/r=2419\/r=3040:=λr o hr h=>by
  rw[kS hr]at h;have li:=kw h;simp only[iR,fN,g9,wh,tD]at li;omega
 have hv:∀r o,r<5000->r≠2031->cJ (iR n es st (mU n n) (fT n U)) r=some o->A r=some o/\uf n es st (U.set t [x]) r=some o:=λr o hr bZ h=>by
  have h1:A r=some o:=by rw[lo r (by omega) bZ,kS hr];exact h
  exact⟨h1,(loB r hr bZ).symm.trans h1⟩
 have v21:=hv 2021 (sd st) (by omega) (by omega) (by simp[iR]);have v24:=hv 2024 (sZ st) (by omega) (by omega) (by simp[iR]);have v28:=hv 2028 (s8 st) (by omega) (by omega) (by simp[iR]);have v33:=hv 2033 (.box (mW yC ⟨n,es,List.replicate n []⟩)) (by omega) (by omega) (by simp[iR]);have v12:=hv 2412 (mB q0) (by omega) (by omega) (by simp[iR]);have v14:=hv 2414 (qB 2419 2412 q0) (by omega) (by omega) (by simp[iR]);have v19:=hv 2419 (hB q0) (by omega) (by omega) (by simp[iR]);have v40:=hv 3040 (.bE 0 3 1 (aG (mU n n))) (by omega) (by omega) (by simp[iR]);simp only[sd,sZ,s8,mB,hB,qB,mW,yC]at v21 v24 v28 v33 v12 v14 v19;refine Le.cor (λr=>if r=5000+t then N0 else r) rfl rfl (λr hr=>BQ hn (fq 7000) r hr) (λr o h=>?_) (λr1 r2 h1 h2 e=>?_) (λr hr o h=>?_) (λk=>mI _ ?_ k)
 ·simp only at h⊢;have hr:r<7000:=by
   by_cases hr:r<7000
   ·exact hr
   ·rw[BQ hn (fq 7000) r (by omega)]at h;cases h
  by_cases hb:r<5000
  ·rw[sne r hb];rcases base r o hb h with rfl|rfl|rfl|rfl|rfl|rfl|rfl|rfl|rfl
   ·rw[v21.2]at h;simp only[cu]at h;subst h;exact⟨_,v21.1,by simp⟩
   ·rw[v24.2]at h;simp only[cu]at h;subst h;exact⟨_,v24.1,by simp⟩
   ·rw[v28.2]at h;simp only[cu]at h;subst h;exact⟨_,v28.1,by simp⟩
   ·rw[n31]at h;simp only[cu]at h;subst h;refine⟨_,o31, ?_⟩;show iF _ _ _ _ _;rw[IC ht];refine IB λs hs=>?_;have hs:s<n:=by simpa using hs
    unfold vT;rw[mF];by_cases e:s=t
    ·subst e;rw[cF rfl,cF rfl,aY (by simp)];simp only[iY,zo];refine .inr ⟨by simp,3,1,_,3,1,_,oN,nt⟩
    ·rw[aY e,aY e];split
     ·simp[iY]
     ·rename_i hh;simp only[iY,zo];refine .inr ⟨by rw[aY (by omega)],3,1,aG (U.getD s []),3,1,aG (U.getD s []), ?_, ?_⟩
      ·rw[lo _ (by omega) (by omega),od hs];unfold rH;rw[aY hh]
      ·rw[ns s hs e,lo _ (by omega) (by omega),od hs];unfold rH;rw[aY hh]
   ·rw[v33.2]at h;simp only[cu]at h;subst h;exact⟨_,v33.1,by simp[v21.1,v21.2,v24.1,v24.2,v28.1,v28.2,n31,v14.2,sne]⟩
   ·rw[v12.2]at h;simp only[cu]at h;subst h;exact⟨_,v12.1,by simp[q0,vM,ka]⟩
   ·rw[v14.2]at h;simp only[cu]at h;subst h;exact⟨_,v14.1,by simp[v19.1,v19.2,v12.2,sne,q0,qc,sA]⟩
   ·rw[v19.2]at h;simp only[cu]at h;subst h;exact⟨_,v19.1,by simp⟩
   ·rw[v40.2]at h;simp only[cu]at h;subst h;exact⟨_,v40.1,by simp⟩
  ·have jH:5000<=r/\r<5000+n:=by
    by_cases hh:5000<=r/\r<5000+n
    ·exact hh
    ·unfold uf at h;rw[aY hh]at h;have:=(pJ _ _ _ _ _ _ (kw h)).2;omega
   obtain⟨s,rfl⟩:∃s,r=5000+s:=⟨r-5000,by omega⟩;by_cases e:s=t
   ·subst e;rw[nt]at h;simp only[cu]at h;subst h;rw[cF rfl];exact⟨_,oN,by simp⟩
   ·rw[aY (by omega)];rw[ns s (by omega) e]at h;refine⟨o,h, ?_⟩;rw[lo _ (by omega) (by omega),od (by omega)]at h;unfold rH at h;split at h
    ·cases h
    ·simp only[cu]at h;subst h;simp
 ·simp only at h1 h2 e;have hr:∀r,uf n es st (U.set t [x]) r≠none->r<7000:=λr h=>by
   by_cases hr:r<7000
   ·exact hr
   ·exact eA (BQ hn (fq 7000) r (by omega)) h
  have:=hr r1 h1;have:=hr r2 h2;split at e<;>split at e<;>omega
 ·exfalso;simp only at hr h;rw[lo r (by omega) (by omega),kS (by omega)]at h;have:=(pJ _ _ _ _ _ _ (kw h)).1;omega
 ·simp[lB]at hl;simp[lB,hl,v33.2,v40.1,v40.2,sne]
section
variable{es:List bK}{ts:bU}
def N4{l:bG}{t:Nat}{c:DV}(h:t<l.length):l.take t++c::l.drop (t+1)=l.set t c:=by
 rw[List.set_eq_take_append_cons_drop,cF h]
def afI{n:Nat}{k:Nat}(h:k<es.length):(KZ n es k).fB.set k ((es.getD k default).dH.length:Int)=(KZ n es (k+1)).fB:=by
 have e1:es.take (k+1)=es.take k++[es.getD k default]:=c8 h;have e2:es.length-k=(es.length-(k+1))+1:=by omega
 simp only[KZ];rw[ZbS _ _ (by simp;omega),e1,e2,Xb];simp only[XN,ld,Pv,qD,SK,ZbY];rw[show k-min k es.length=0 by omega];rfl
def N5{U:List (bU)}{j:Int}(x:Nat):((yD U j ts).getD x []).length<=(U.getD x []).length+ts.length:=by
 unfold yD;induction ts generalizing U with
 |nil=>simp
 |cons t ts ih=>
  rw[B6];have:=ih (U:=U.set t.toNat (U.getD t.toNat []++[j]));have h2:((U.set t.toNat (U.getD t.toNat []++[j])).getD x []).length<=(U.getD x []).length+1:=by
   by_cases hx:t.toNat<U.length
   ·rw[eV hx];split
    ·rename_i e;rw[e];simp
    ·omega
   ·rw[List.set_eq_of_length_le (by omega)];omega
  simp only[w9];omega
def ID{n:Nat}{es:List bK}(h:∀e∈es,e.dH.length<=2)(x:Nat):∀k,k<=es.length->((kj n es k).getD x []).length<=2*k
 |0,_=>by
  simp only[kj,Zdx,Zcp,List.getD,Zcw];split<;>simp
 |k+1,hk=>by
  rw[ql];have:=ID (n:=n) h x k (by omega);have h1:=N5 (U:=kj n es k) (j:=k) (ts:=(es.getD k default).dH) x;have h2:=h _ (bq (l:=es) (i:=k) (by omega));omega
def YC{U:List (bU)}{j:Int}{i:Nat}(h:i<ts.length):yD U j (ts.take (i+1))=(yD U j (ts.take i)).set (ts.getD i 0).toNat ((yD U j (ts.take i)).getD (ts.getD i 0).toNat []++[j]):=by
 unfold yD;rw[show ts.take (i+1)=ts.take i++[ts.getD i 0]from c8 h,Dg];rfl
abbrev lC(n:Nat)(es:List bK)(k:Nat):eO:=[(1,.v (.box [ti n,.sl (bn es)])),(4,.ptr 2033 0),(5,.bC 3040 0),(60,.v (.sl (bn es))),(61,.v (ti es.length)),(62,.v (ti k))]
def phB{n:Nat}(H:hE n es):
  aa aj 198 dB (PT sG (.eB [.sl (bH (gj n es)),.sl (aG (Rl (Vw n es) es n es.length))])) ⟨DM.look (lK n es),uf n es (KZ n es 0) (kj n es 0),7000,1000,[]⟩:=by
 have hn:n<=1000:=by have:=H.2.1;omega
 have hel:=H.2.2.1;have e1:∀s U,uf n es s U 2033=some (.box (mW yC ⟨n,es,List.replicate n []⟩)):=λs U=>by rw[kS (by omega)];simp[iR]
 have e4:∀s U,uf n es s U 2028=some (s8 s):=λs U=>by rw[kS (by omega)];simp[iR]
 have e5:∀s U,uf n es s U 2031=some (.box (fT n U)):=λs U=>by rw[kS (by omega)];simp[iR]
 have e6:∀s U,uf n es s U 3040=some (.bE 0 3 1 (aG (mU n n))):=λs U=>by rw[kS (by omega)];simp[iR]
 simp only[mW,yC,ZbH]at e1;simp only[s8]at e4;have aV:=λs U=>Ro (n:=n) (es:=es) (st:=s) (U:=U) hn;have mE:∀{s:dy} {U:List (bU)} {k:Nat},7000<=k->∀r,k<=r->uf n es s U r=none:=λhk=>BQ hn hk;unfold dB;apply aa.sq cL fw [1,4,5,60,61,62];simp[FA];apply aa.block;refine aa.loop (λk:Nat=>⟨DM.look (lC n es k),uf n es (KZ n es k) (kj n es k),7500,1000,[]⟩)
  (λk=>k<=es.length) (λk=>es.length-k) 0 (dU rfl (mE (by omega)) (by simp)) (by omega) (λk hk=>?_)
 apply aa.ag cL fw [1,4,5,60,61,62,63];simp[FB];apply aa.seq;refine aa.cond rfl (λg=>?_) (λg=>?_)
 ·have g:k<es.length:=by simpa using g
  have rr:=kE g;have EC:=afI (n:=n) g;obtain⟨sO,het⟩:=lD H g;have hU0:=ID (n:=n) (λe he=>(H.2.2.2 e he).2) (k:=k) (es:=es);obtain⟨e,KT⟩:=be (es.getD k default);have XR:=ql n es k;rw[KT]at rr EC sO het XR;obtain⟨eh,ts,ec,e0',e1'⟩:=e;have LU:=sO.2.2.1;simp only[bK.enc]at rr EC LU het XR;have w2:IntKind.i64.wrap ((k:Int)+1)=((k+1:Nat):Int):=by rw[aF (by omega)];omega
  have hhl:(KZ n es k).fB.length=es.length:=by simp[KZ];omega
  apply aa.skip;simp;apply aa.seq;apply aa.block;apply aa.ag cL fw [1,4,5,7,8,60,61,62];simp[FC,rr,g];refine aa.le (ald (L:=[(7708,.box [.v (ti eh),.v (.sl (aG ts)),.v (ti ec),.v (ti e0'),.v (ti e1')]),(7708,.box [.v (ti 0),.aX,.v (ti 0),.v (ti 0),.v (ti 0)])]) (l:=[(1,.v (.box [ti n,.sl (bn es)])),(4,.ptr 2033 0),(5,.bC 3040 0),(7,.v (ti k)),(8,.v (.box [ti eh,.sl (aG ts),ti ec,ti e0',ti e1'])),(60,.v (.sl (bn es))),(61,.v (ti es.length)),(62,.v (ti k))]) (aZ:=8000) (aV _ _) (by omega) (by simp) (by omega) ?_) ?_
  ·simp[e1,e6];exact bY (l:=[]) (aV _ _) (by omega) (by simp)
  apply aa.ag cL fw [1,4,5,7,8,60,61,62];simp[FD,e1,e4,hhl,g];refine aa.le (dU (mG:=uf n es (KZ n es (k+1)) (kj n es k)) (aZ:=8500) (l:=[(1,.v (.box [ti n,.sl (bn es)])),(4,.ptr 2033 0),(5,.bC 3040 0),(7,.v (ti k)),(8,.v (.box [ti eh,.sl (aG ts),ti ec,ti e0',ti e1'])),(60,.v (.sl (bn es))),(61,.v (ti es.length)),(62,.v (ti k))]) ?_ (mE (by omega)) (by simp)) ?_
  ·have rh:=cM (l:=(KZ n es k).fB) (y:=k) (by omega);rw[rh,List.tail_cons,show [T.int IntKind.i64 (ts.length:Int)]=[ti (ts.length:Int)]from rfl,<-lX,EC];funext q;by_cases hq:q=2028
   ·subst hq;rw[e4];rfl
   ·show(if q=2028 then _ else _)=_;rw[aY hq];unfold uf;split
    ·rfl
    ·simp only[iR,c6,ii,aY hq];rfl
  obtain⟨st,yS⟩:=be (KZ n es (k+1));rw[yS];apply aa.ag cL fw [1,4,5,7,60,61,62,77,78,79];simp[FE];apply aa.block;refine aa.loop (λi:Nat=>⟨DM.look (lB n es k ts i),uf n es st (yD (kj n es k) k (ts.take i)),7000,1000,[]⟩)
   (λi=>i<=ts.length) (λi=>ts.length-i) 0 (dU rfl (mE (by omega)) (by simp[lB])) (by omega) (λi hi=>?_)
  apply aa.ag cL fw [1,4,5,7,60,61,62,77,78,79,80];simp[FF,lB];apply aa.seq;refine aa.cond rfl (λg2=>?_) (λg2=>?_)
  ·have g2:i<ts.length:=by simpa using g2
   apply aa.skip;simp;apply aa.seq;apply aa.block;have rt:=cM g2;have hsu:=YC (U:=kj n es k) (j:=k) g2;have jH:=N5 (U:=kj n es k) (j:=k) (ts:=ts.take i);have hU0:=λx=>hU0 x (by omega);obtain⟨U,hU⟩:=be (yD (kj n es k) k (ts.take i));have hUl:U.length=n:=by rw[<-hU,NV,pH]
   rw[hU]at hsu jH⊢;obtain⟨tt,L9⟩:=be (ts.getD i default);have iW:tt∈ts:=by rw[<-L9];exact bq g2
   rw[show ts.getD i 0=tt from L9]at hsu;rw[L9]at rt;obtain⟨t0,t1⟩:=LU tt iW;obtain⟨t,rfl⟩:=kK t0;have t1:t<n:=by omega
   rw[iP]at hsu;have w3:IntKind.i64.wrap ((i:Int)+1)=((i+1:Nat):Int):=by rw[aF (by omega)];omega
   have AX:=jH t;have auR:=hU0 t;simp only[ld]at AX;apply aa.ag cL fw [1,4,5,7,10,60,61,62,77,78,79];simp[FG,rt,g2];have dN:(fT n U).length=n:=by simp[fT]
   by_cases h0:U.getD t []=[]
   ·have Ak:∀h,(fT n U)[t]'h=.aX:=λh=>by simp only[fT,OZ,Zb5,vT,cF h0]
    apply aa.qa cL fw (rs:=db (jo (5000+t) 2033 7000) (fg sF [none,none,none,some [1],none,none,none,none,none,none,none,none,none,none,some [0],none,none])) (.inl rfl) ((d8 (kh (by omega) (by omega) (by omega)) _ _ _).trans (by kernel_rfl)) [1,4,5,7,60,61,62,77,78,79];simp[sF,db,fG,fg,jo,cX,bN,aP,bQ,CP,gn,dR,e1,e5,Ak,dN,t1];refine⟨by omega, ?_⟩;apply aa.fA cL fw [1,4,5,7,60,61,62,77,78,79];simp[zM,w3];refine⟨i+1, ?_,by omega,by omega⟩;rw[hsu,h0];rw[N4 (by omega)];exact anf (N0:=7496) (n:=n) (es:=es) (st:=st) (U:=U) (t:=t) (x:=(k:Int)) (k:=k) (i:=i+1) (ts:=ts) hn t1 hUl h0 (by omega) (by simp[lB])
   ·have Ak:∀h,(fT n U)[t]'h=.bC (5000+t) ((U.getD t []).length-1):=λh=>by simp only[fT,OZ,Zb5,vT,aY h0]
    have kr:uf n es st U (5000+t)=some (.bE ((U.getD t []).length-1) 3 1 (aG (U.getD t []))):=by
     rw[od t1];unfold rH;rw[aY h0]
    have pV:∀o,cN (uf n es st U) (some (5000+t,o)) 2031=some (.box (fT n U)):=λo=>by
     show(if 2031=5000+t then _ else _)=_;rw[aY (by omega),e5]
    obtain⟨row,ase⟩:=be (U.getD t []);rw[ase]at Ak kr hsu h0 AX;apply aa.qa cL fw (rs:=db (jo (5000+t) 2033 7000) (fg sF [none,none,none,some [1],none,none,none,none,none,none,none,none,none,none,some [0],none,none])) (.inl rfl) ((d8 (kh (by omega) (by omega) (by omega)) _ _ _).trans (by kernel_rfl)) [1,4,5,7,60,61,62,77,78,79];simp[sF,db,fG,fg,jo,cX,bN,aP,bQ,CP,gn,dR,e1,e5,Ak,dN,t1,kr,pV];refine⟨by omega,by omega,by omega,by omega, ?_⟩;apply aa.fA cL fw [1,4,5,7,60,61,62,77,78,79];simp[zM,w3];refine⟨i+1,dU ?_ (mE (by omega)) (by simp),by omega,by omega⟩;rw[hsu,N4 (by omega)];have auR:0<row.length:=Xd.2 h0;have mF:∀s,(U.set t (row++[(k:Int)])).getD s []=if s=t then row++[(k:Int)]else U.getD s []:=λs=>eV (by omega)
    have oT:(fT n U).set t (.bC (5000+t) (row.length-1+1))=fT n (U.set t (row++[(k:Int)])):=by
     rw[IC t1];unfold fT;refine Zbz λs hs=>?_;unfold vT;rw[mF];by_cases e:s=t
     ·subst e;rw[cF rfl,cF rfl,aY (by simp)];simp;omega
     ·rw[aY e,aY e]
    rw[oT];funext q;show(if q=2031 then _ else if q=5000+t then _ else _)=_;by_cases h1:q=2031
    ·subst h1;rw[cF rfl,e5]
    rw[aY h1];by_cases h2:q=5000+t
    ·subst h2;rw[cF rfl,od t1];unfold rH;rw[mF,cF rfl,aY (by simp)];simp[aG];omega
    rw[aY h2];unfold uf;split
    ·have e3:q-5000≠t:=by omega
     unfold rH;simp only[mF,aY e3]
    ·simp only[iR,c6,ii,aY h1]
  ·have g2:i=ts.length:=by
    have:¬i<ts.length:=by simpa using g2
    omega
   subst g2;apply aa.exit;simp;apply aa.fA cL fw [1,4,5,60,61,62];simp[FH,w2];refine⟨k+1,dU ?_ (mE (by omega)) (by simp),by omega,by omega⟩;rw[XR,yS]
 ·have g:k=es.length:=by
   have:¬k<es.length:=by simpa using g
   omega
  subst g;apply aa.exit;simp;refine aa.le (afH (aZ:=3500) hn (by simp[KZ]) (pH _ _ _) (by omega) (by simp)) ?_;exact phC H
end
section
variable{es:List bK}
def afJ(nd:Int)(es:List bK)(n:Nat):bG:=[.v (ti nd),.v (.sl (bn es)),.bC 2021 0,.bC 2024 0,.bC 2028 0,.Hm 2031 n,.v (.pO (Go.Value.pointer Option.none))]
def N6(nd:Int)(es:List bK)(n:Nat):c7:=[(2033,.box (afJ nd es n)),(2021,sd (Lx n es.length 0)),(2024,sZ (Lx n es.length 0)),(2028,s8 (Lx n es.length 0)),(2031,.box (List.replicate n .aX))]
def N7(nd:Int)(es:List bK)(n:Nat):c7:=[(2033,.box (mW yC ⟨nd,es,List.replicate n []⟩)),(2021,sd (Lx n es.length 0)),(2024,sZ (Lx n es.length 0)),(2028,s8 (Lx n es.length 0)),(2031,.box (List.replicate n .aX)),(2414,qB 2419 2412 q0),(2419,hB q0),(2412,mB q0)]
def IE(a b:bw)(σ:Nat->Nat):∀n,iF a b σ (List.replicate n .aX) (List.replicate n .aX)
 |0=>by simp[iF]
 |n+1=>by
  simp only[Xb,iF];exact⟨by simp[iY],IE a b σ n⟩
def YD(n:Nat):fT n (List.replicate n [])=List.replicate n .aX:=by
 refine Vt (by simp[fT]) λi h1 h2=>?_;have:i<n:=by simpa using h2
 simp only[fT,OZ,Zb5,vT,List.getElem_replicate];rw[cF];exact iq this
def afK(n:Nat)(es:List bK)(st:dy):uf n es st (List.replicate n [])=cJ (iR n es st (mU n n) (List.replicate n .aX)):=by
 funext q;unfold uf;rw[YD];split
 ·unfold rH;rw[cF (iq (by omega))];exact(fS (M:=3041) (λp hp=>(pJ _ _ _ _ _ p hp).2) q (by omega)).symm
 ·rfl
def K2{n:Nat}{st:dy}{E:bU}{cs:bG}{k:Nat}(h:3041<=k):∀r,k<=r->cJ (iR n es st E cs) r=none:=λr hr=>fS (M:=3041) (λp hp=>(pJ _ _ _ _ _ p hp).2) r (by omega)
def asf{nd:Int}(H:hE nd es):bu aj 71 [.agg [ti nd,.sl (bn es)]] (.eB [.sl (bH (gj nd es)),.sl (aG (Rl (Vw nd es) es nd.toNat es.length))]):=by
 obtain⟨n,rfl⟩:=kK H.1;have hn:=H.2.1;have hel:=H.2.2.1;rw[iP];refine ap1.ok (by simp) (aT ?_);simp;apply aa.ag cL fw [1];simp[Tg];refine aa.lk (o:=[]) (l:=[(1,.v (.box [ti n,.sl (bn es)]))]) (aZ:=2000) (by simp) ?_;refine aa.kv cL fw (rs:=fg MW []) (.inr ⟨_,rfl⟩) (by kernel_rfl) [1,4] ?_;simp[MW,fg,CP,dR];refine⟨by omega,by omega,by omega,by omega,by omega,by omega, ?_⟩;refine aa.le (Le.bF (o:=N6 n es n) (l:=[(1,.v (.box [ti n,.sl (bn es)])),(4,.ptr 2033 0)]) (aZ:=2200) ?_ ?_ ?_ ?_) ?_
 ·simp
 ·simp[N6]
 ·simp only[N6,afJ,s8,sZ,sd,Lx];simp[aG,iy,bH,IE]
 ·simp[N6]
 have Mh:∀{tm:dn} {ob:bw},ob=aO ((2033,.box (mW yC ⟨n,es,List.replicate n []⟩))::oJ 2399) (cJ (N6 n es n))->fk tm [(1,.v (.box [ti n,.sl (bn es)])),(4,.ptr 2033 0)]->
   Le ⟨tm,ob,2419,1000,[]⟩ ⟨DM.look [(1,.v (.box [ti n,.sl (bn es)])),(4,.ptr 2033 0)],cJ (N7 n es n),3000,1000,[]⟩:=by
  intro tm ob e iW;subst e;refine Le.trans (Le.DD 2414 1 211 (sz:=5) (cs:=[.v (.fn (.func 101) []),.aX,.je 2412,.v (ti 0),.v (ti 0)]) (by omega) (by simp[oJ]) rfl) (dU ?_ (fS (by simp[N7])) iW);funext q;show(if q=2414 then _ else if q=2419 then _ else _)=_;simp only[oJ,N6,N7,c6,ii,aH,bL];by_cases h1:q=2414
  ·subst h1;rfl
  by_cases h2:q=2419
  ·subst h2;rfl
  by_cases h3:q=2033
  ·subst h3;rfl
  by_cases h4:q=2412
  ·subst h4;rfl
  by_cases h6:q=2031
  ·subst h6;rfl
  by_cases h7:q=2028
  ·subst h7;rfl
  by_cases h8:q=2021
  ·subst h8;rfl
  by_cases h9:q=2024
  ·subst h9;rfl
  simp[h1,h2,h3,h4,h6,h7,h8,h9]
 refine aa.seq (aa.to ⟨DM.look [(1,.v (.box [ti n,.sl (bn es)])),(4,.ptr 2033 0)],cJ (N7 n es n),3000,1000,[]⟩ (aa.al5 cL (N':=2419) [1,4] (pre:=[⟨.sh (.tmp 4),(some 33),none,[],none⟩]) (rs:=Th) rfl ?_) ?_)
 ·have hP:cJ (N6 n es n) 2033=some (.box (afJ n es n)):=by simp[N6]
  simp;refine⟨_,λhN=>asg hN, ?_⟩;rintro val mG ⟨rfl,rfl⟩;simp[oJ,aH,afJ,hP];exact Mh (by simp[mW,yC,oJ]) (by simp)
 simp;have e1:=λst E=>(by simp[iR]:cJ (iR n es st E (List.replicate n .aX)) 2033=some (.box (mW yC ⟨n,es,List.replicate n []⟩)));have e2:=λst E=>(by simp[iR]:cJ (iR n es st E (List.replicate n .aX)) 2021=some (sd st));have e6:=λst E=>(by simp[iR]:cJ (iR n es st E (List.replicate n .aX)) 3040=some (.bE 0 3 1 (aG E)));simp only[mW,yC,ZbH]at e1;simp only[sd]at e2;obtain⟨m,hm⟩:=be es.length;have ang:∀k,k<=n->(Lx n m k).an.length=n:=λk hk=>by simp[Lx];omega
 have afG:∀k,k<=n->(mU n k).length=n:=λk hk=>by simp[mU];omega
 apply aa.ag cL fw [1,4,5];simp[Ti,CP,dR];refine⟨by omega,by omega, ?_⟩;refine aa.le (dU (mG:=cJ (iR n es (Lx n m 0) (mU n 0) (List.replicate n .aX))) (l:=lK n es) (aZ:=3200) ?_ (K2 (by omega)) ?_) ?_
 ·funext q;rw[<-hm];simp only[N7,iR,c6,ii,mU,Zcv,yP,Zcq,aG,List.map_replicate]
  (repeat' split)<;>first|rfl|omega
 ·simp
 apply aa.sq cL fw [1,4,5,44,45];simp[Tj,e1,e2,ang 0 (by omega)];apply aa.block;refine aa.loop (λk:Nat=>⟨DM.look [(1,.v (.box [ti n,.sl (bn es)])),(4,.ptr 2033 0),(5,.bC 3040 0),(44,.v (ti n)),(45,.v (ti k))],cJ (iR n es (Lx n m k) (mU n k) (List.replicate n .aX)),3500,1000,[]⟩)
  (λk=>k<=n) (λk=>n-k) 0 (dU rfl (K2 (by omega)) (by simp)) (by omega) (λk hk=>?_)
 apply aa.ag cL fw [1,4,5,44,45,46];simp[Tk];apply aa.seq;refine aa.cond rfl (λg=>?_) (λg=>?_)
 ·have g:k<n:=by simpa using g
  apply aa.skip;simp;apply aa.seq;apply aa.block;apply aa.ag cL fw [1,4,5,6,44,45];simp[Tl];have rb:=dq (l:=(Lx n m k).an) (y:=k) (by rw[ang k hk];exact g);have re:=cM (l:=mU n k) (y:=k) (by rw[afG k hk];exact g);apply aa.ag cL fw [1,4,5,6,44,45];simp[Tm,e1,e2,ang k hk,g,rb];have e7:∀(q:Ob),cJ ((2021,q)::iR n es (Lx n m k) (mU n k) (List.replicate n .aX)) 3040=some (.bE 0 3 1 (aG (mU n k))):=λq=>by rw[c6,aY (by omega)];exact e6 _ _
  apply aa.fA cL fw [1,4,5,44,45];simp[Tn,e7,afG k hk,g,re];apply aa.fA cL fw [1,4,5,44,45];simp[To];rw[aF (x:=(k:Int)+1) (by omega)];refine⟨k+1,dU ?_ (K2 (by omega)) (by simp),by omega,by omega⟩;funext q;have v1:(bH (Lx n m k).an).set k [T.int .i64 1099511627776,T.int .i64 0]=bH (Lx n m (k+1)).an:=by
   rw[show [T.int .i64 1099511627776,T.int .i64 0]=[ti (⟨1099511627776,0⟩:dg).aI,ti (⟨1099511627776,0⟩:dg).size]from rfl,<-jE];simp only[Lx,D4 _ _ g]
  have v2:(aG (mU n k)).set k [T.int .i64 (-1)]=aG (mU n (k+1)):=by
   rw[<-lX];simp only[mU,D4 _ _ g]
  rw[v1,v2];simp only[iR,c6,ii];by_cases h1:q=2021
  ·subst h1;rfl
  by_cases h2:q=3040
  ·subst h2;rfl
  simp only[aY h1,aY h2];rfl
 ·have g:k=n:=by
   have:¬k<n:=by simpa using g
   omega
  rw[g];apply aa.exit;simp;have hsA:Lx n m n=KZ n es 0:=by simp[Lx,KZ,hm]
  rw[hsA,<-afK];exact aa.le (dU rfl (BQ (by omega) (fq 7000)) (by simp)) (phB H)
end
end Kn
namespace Jb
open Go.DM
section
variable{av:List (aL)}
def yE(p:aL->Bool)(av:List (aL)):Int:=match av.findIdx? p with|some i=>i|none=> -1
def BT{p:aL->Bool}{y:Nat}(hy:y<av.length)(hp:p (av.getD y [])=true)(h:∀i,i<y->p (av.getD i [])=false):yE p av=y:=by
 have:av.findIdx? p=some y:=by
  rw[Zbv];refine⟨hy,by simpa [List.getD,hy]using hp,λj hj=>?_⟩;have hj2:j<av.length:=by omega
  have:=h j hj;simpa [List.getD,hj2]using this
 simp[yE,this]
def BU{p:aL->Bool}(h:∀i,i<av.length->p (av.getD i [])=false):yE p av= -1:=by
 have:av.findIdx? p=none:=by
  rw[Zco];intro x hx;obtain⟨i,hi,rfl⟩:=Ib hx;have:=h i hi;simpa [List.getD,hi]using this
 simp[yE,this]
def K3(p:aL->Bool)(av:List (aL)):decide (yE p av>=0)=av.any p:=by
 unfold yE;cases h:av.findIdx? p with
 |none=>
  rw[Zco]at h;have:av.any p=false:=by
   rw[ZcB];intro x hx;simp[h x hx]
  simp[this]
 |some i=>
  rw[Zbv]at h;obtain⟨hi,hp,_⟩:=h;have:av.any p=true:=Zct.2 ⟨_,SL hi,hp⟩;simp[this]
def K4(o:bw):∀l:aL,uD true o (l.map .v)
 |[]=>trivial
 |x::l=>by
  simp only[qD];exact⟨by simp,K4 o l⟩
def K5{i:Nat}(h:i<av.length):av.getD i []∈av:=by
 simp[List.getD,h]
def asj(av:List (aL))(g:Nat)(ch:aL)(p:aL->Bool)(hl:av.length<=1000000000)(hz:∀r∈av,∃x0 x1 x2 x3 x4 x5,r=[x0,x1,x2,x3,x4,x5])(hg:∀r∈av,bu aj g (.agg r::ch) (.bool (p r))):bu aj 64 [.sl av,.fn (.func g) ch] (ti (yE p av)):=by
 obtain⟨R,hR⟩:=be (yE p av);rw[hR];have aC:ay aj (bB [(g,dh (λts=>∃r∈av,ts=.agg r::ch) (λts=>match ts with|.agg r::_=>.bool (p r)|_=>.bool false) true)]):=by
  refine ay.cons ay.nil ?_;rintro ts ⟨r,hr,rfl⟩;obtain⟨x0,x1,x2,x3,x4,x5,rfl⟩:=hz r hr;exact⟨hg _ hr,λ_=>rfl⟩
 refine aqJ.ok (by simp) (aT ?_);simp;apply aa.ag aC fw [0,1];simp[Uy];apply aa.sq aC fw [0,1,7,8];simp[Uz];apply aa.block;refine aa.loop (λy:Nat=>⟨DM.look [(0,.v (.sl av)),(1,.v (.fn (.func g) ch)),(7,.v (ti av.length)),(8,.v (ti y))],cJ [],2000,1000,[]⟩)
  (λy=>y<=av.length/\∀i,i<y->p (av.getD i [])=false) (λy=>av.length-y) 0 (Le.bF (o:=[]) ?_ ?_ ?_ ?_) (by simp) (λy hy=>?_)
 iterate 4(·simp)
 obtain⟨mf,fW⟩:=hy;apply aa.ag aC fw [0,1,7,8,9];simp[UA];apply aa.seq;refine aa.cond rfl (λh=>?_) (λh=>?_)
 ·have h:y<av.length:=by simpa using h
  have jH:DM.rowAt av (y:Int)=av.getD y []:=by simp[DM.rowAt,List.getD,h]
  have li:=K5 h;obtain⟨row,hr⟩:=be (av.getD y []);rw[hr]at li jH;obtain⟨x0,x1,x2,x3,x4,x5,rfl⟩:=hz row li;obtain⟨b,hb⟩:=be (p [x0,x1,x2,x3,x4,x5]);have w2:IntKind.i64.wrap ((y:Int)+1)=((y+1:Nat):Int):=by rw[aF (by omega)];omega
  apply aa.skip;simp;apply aa.seq;apply aa.block;apply aa.ag aC fw [0,1,5,7,8];simp[UB];apply aa.ag aC fw [0,1,5,7,8,16];simp[UC,h,jH,li,hb];refine⟨K4 _ _, ?_⟩;refine aa.cond rfl (λh2=>?_) (λh2=>?_)
  ·have h2:b=true:=by simpa using h2
   apply aa.ag aC fw [4];simp[UD];apply aa.ret;rw[BT h (by rw[hr,hb,h2]) fW]at hR;subst hR;simp[dj]
  ·have h2:b=false:=by simpa using h2
   apply aa.skip;simp;apply aa.fA aC fw [0,1,7,8];simp[UE,w2];refine⟨y+1,Le.bF (o:=[]) ?_ ?_ ?_ ?_,⟨by omega,λi hi=>?_⟩,by omega⟩;iterate 4(·simp)
   ·by_cases e:i=y
    ·subst e;exact(congrArg p hr).trans (hb.trans h2)
    ·exact fW i (by omega)
 ·have h:y=av.length:=by
   have:¬y<av.length:=by simpa using h
   omega
  subst h;apply aa.exit;simp;apply aa.ag aC fw [4];simp[UF];apply aa.ret;rw[BU fW]at hR;subst hR;simp[dj]
def ask(av:List (aL))(g:Nat)(ch:aL)(p:aL->Bool)(hl:av.length<=1000000000)(hz:∀r∈av,∃x0 x1 x2 x3 x4 x5,r=[x0,x1,x2,x3,x4,x5])(hg:∀r∈av,bu aj g (.agg r::ch) (.bool (p r))):bu aj 38 [.sl av,.fn (.func g) ch] (.bool (av.any p)):=by
 have hi:=K3 p av;obtain⟨R,hR⟩:=be (av.any p);rw[hR]at hi⊢;have aC:ay aj (bB [(64,dh (λts=>ts=[.sl av,.fn (.func g) ch]) (λts=>ti (yE p av)) true)]):=by
  refine ay.cons ay.nil ?_;rintro ts rfl;exact⟨asj av g ch p hl hz hg,λ_=>rfl⟩
 refine aqu.ok (by simp) (aT ?_);simp;apply aa.ag aC fw [0,1];simp[Ud];apply aa.ag aC fw [4];simp[Ue];apply aa.ret;simp[dj];simpa using hi.symm
def asm(av:List (aL))(g:Nat)(ch:aL)(p:aL->Bool)(hl:av.length<=1000000000)(hz:∀r∈av,∃x0,r=[x0])(hg:∀r∈av,bu aj g ((r.headD (.bool false))::ch) (.bool (p r))):bu aj 66 [.sl av,.fn (.func g) ch] (ti (yE p av)):=by
 obtain⟨R,hR⟩:=be (yE p av);rw[hR];have aC:ay aj (bB [(g,dh (λts=>∃r∈av,ts=(r.headD (.bool false))::ch) (λts=>match ts with|x::_=>.bool (p [x])|_=>.bool false) true)]):=by
  refine ay.cons ay.nil ?_;rintro ts ⟨r,hr,rfl⟩;obtain⟨x0,rfl⟩:=hz r hr;exact⟨hg _ hr,λ_=>rfl⟩
 refine aqN.ok (by simp) (aT ?_);simp;apply aa.ag aC fw [0,1];simp[UH];apply aa.sq aC fw [0,1,7,8];simp[UI];apply aa.block;refine aa.loop (λy:Nat=>⟨DM.look [(0,.v (.sl av)),(1,.v (.fn (.func g) ch)),(7,.v (ti av.length)),(8,.v (ti y))],cJ [],2000,1000,[]⟩)
  (λy=>y<=av.length/\∀i,i<y->p (av.getD i [])=false) (λy=>av.length-y) 0 (Le.bF (o:=[]) ?_ ?_ ?_ ?_) (by simp) (λy hy=>?_)
 iterate 4(·simp)
 obtain⟨mf,fW⟩:=hy;apply aa.ag aC fw [0,1,7,8,9];simp[UJ];apply aa.seq;refine aa.cond rfl (λh=>?_) (λh=>?_)
 ·have h:y<av.length:=by simpa using h
  have jH:DM.rowAt av (y:Int)=av.getD y []:=by simp[DM.rowAt,List.getD,h]
  have li:=K5 h;obtain⟨row,hr⟩:=be (av.getD y []);rw[hr]at li jH;obtain⟨x0,rfl⟩:=hz row li;obtain⟨b,hb⟩:=be (p [x0]);have w2:IntKind.i64.wrap ((y:Int)+1)=((y+1:Nat):Int):=by rw[aF (by omega)];omega
  apply aa.skip;simp;apply aa.seq;apply aa.block;apply aa.ag aC fw [0,1,5,7,8];simp[UK];apply aa.ag aC fw [0,1,5,7,8,16];simp[UL,h,jH,hb];refine⟨⟨K4 _ _,_,li,rfl⟩, ?_⟩;refine aa.cond rfl (λh2=>?_) (λh2=>?_)
  ·have h2:b=true:=by simpa using h2
   apply aa.ag aC fw [4];simp[UM];apply aa.ret;rw[BT h (by rw[hr,hb,h2]) fW]at hR;subst hR;simp[dj]
  ·have h2:b=false:=by simpa using h2
   apply aa.skip;simp;apply aa.fA aC fw [0,1,7,8];simp[UN,w2];refine⟨y+1,Le.bF (o:=[]) ?_ ?_ ?_ ?_,⟨by omega,λi hi=>?_⟩,by omega⟩;iterate 4(·simp)
   ·by_cases e:i=y
    ·subst e;exact(congrArg p hr).trans (hb.trans h2)
    ·exact fW i (by omega)
 ·have h:y=av.length:=by
   have:¬y<av.length:=by simpa using h
   omega
  subst h;apply aa.exit;simp;apply aa.ag aC fw [4];simp[UO];apply aa.ret;rw[BU fW]at hR;subst hR;simp[dj]
def asn(av:List (aL))(g:Nat)(ch:aL)(p:aL->Bool)(hl:av.length<=1000000000)(hz:∀r∈av,∃x0,r=[x0])(hg:∀r∈av,bu aj g ((r.headD (.bool false))::ch) (.bool (p r))):bu aj 42 [.sl av,.fn (.func g) ch] (.bool (av.any p)):=by
 have hi:=K3 p av;obtain⟨R,hR⟩:=be (av.any p);rw[hR]at hi⊢;have aC:ay aj (bB [(66,dh (λts=>ts=[.sl av,.fn (.func g) ch]) (λts=>ti (yE p av)) true)]):=by
  refine ay.cons ay.nil ?_;rintro ts rfl;exact⟨asm av g ch p hl hz hg,λ_=>rfl⟩
 refine aqC.ok (by simp) (aT ?_);simp;apply aa.ag aC fw [0,1];simp[Up];apply aa.ag aC fw [4];simp[Uq];apply aa.ret;simp[dj];simpa using hi.symm
def aso(av:List (aL))(g:Nat)(ch:aL)(p:aL->Bool)(hl:av.length<=1000000000)(hz:∀r∈av,∃x0 x1 x2,r=[x0,x1,x2])(hg:∀r∈av,bu aj g (.agg r::ch) (.bool (p r))):bu aj 99 [.sl av,.fn (.func g) ch] (ti (yE p av)):=by
 obtain⟨R,hR⟩:=be (yE p av);rw[hR];have aC:ay aj (bB [(g,dh (λts=>∃r∈av,ts=.agg r::ch) (λts=>match ts with|.agg r::_=>.bool (p r)|_=>.bool false) true)]):=by
  refine ay.cons ay.nil ?_;rintro ts ⟨r,hr,rfl⟩;obtain⟨x0,x1,x2,rfl⟩:=hz r hr;exact⟨hg _ hr,λ_=>rfl⟩
 refine aqZ.ok (by simp) (aT ?_);simp;apply aa.ag aC fw [0,1];simp[Vj];apply aa.sq aC fw [0,1,7,8];simp[Vk];apply aa.block;refine aa.loop (λy:Nat=>⟨DM.look [(0,.v (.sl av)),(1,.v (.fn (.func g) ch)),(7,.v (ti av.length)),(8,.v (ti y))],cJ [],2000,1000,[]⟩)
  (λy=>y<=av.length/\∀i,i<y->p (av.getD i [])=false) (λy=>av.length-y) 0 (Le.bF (o:=[]) ?_ ?_ ?_ ?_) (by simp) (λy hy=>?_)
 iterate 4(·simp)
 obtain⟨mf,fW⟩:=hy;apply aa.ag aC fw [0,1,7,8,9];simp[Vl];apply aa.seq;refine aa.cond rfl (λh=>?_) (λh=>?_)
 ·have h:y<av.length:=by simpa using h
  have jH:DM.rowAt av (y:Int)=av.getD y []:=by simp[DM.rowAt,List.getD,h]
  have li:=K5 h;obtain⟨row,hr⟩:=be (av.getD y []);rw[hr]at li jH;obtain⟨x0,x1,x2,rfl⟩:=hz row li;obtain⟨b,hb⟩:=be (p [x0,x1,x2]);have w2:IntKind.i64.wrap ((y:Int)+1)=((y+1:Nat):Int):=by rw[aF (by omega)];omega
  apply aa.skip;simp;apply aa.seq;apply aa.block;apply aa.ag aC fw [0,1,5,7,8];simp[Vm];apply aa.ag aC fw [0,1,5,7,8,16];simp[Vn,h,jH,li,hb];refine⟨K4 _ _, ?_⟩;refine aa.cond rfl (λh2=>?_) (λh2=>?_)
  ·have h2:b=true:=by simpa using h2
   apply aa.ag aC fw [4];simp[Vo];apply aa.ret;rw[BT h (by rw[hr,hb,h2]) fW]at hR;subst hR;simp[dj]
  ·have h2:b=false:=by simpa using h2
   apply aa.skip;simp;apply aa.fA aC fw [0,1,7,8];simp[Vp,w2];refine⟨y+1,Le.bF (o:=[]) ?_ ?_ ?_ ?_,⟨by omega,λi hi=>?_⟩,by omega⟩;iterate 4(·simp)
   ·by_cases e:i=y
    ·subst e;exact(congrArg p hr).trans (hb.trans h2)
    ·exact fW i (by omega)
 ·have h:y=av.length:=by
   have:¬y<av.length:=by simpa using h
   omega
  subst h;apply aa.exit;simp;apply aa.ag aC fw [4];simp[Vq];apply aa.ret;rw[BU fW]at hR;subst hR;simp[dj]
def asp(av:List (aL))(g:Nat)(ch:aL)(p:aL->Bool)(hl:av.length<=1000000000)(hz:∀r∈av,∃x0 x1 x2,r=[x0,x1,x2])(hg:∀r∈av,bu aj g (.agg r::ch) (.bool (p r))):bu aj 67 [.sl av,.fn (.func g) ch] (.bool (av.any p)):=by
 have hi:=K3 p av;obtain⟨R,hR⟩:=be (av.any p);rw[hR]at hi⊢;have aC:ay aj (bB [(99,dh (λts=>ts=[.sl av,.fn (.func g) ch]) (λts=>ti (yE p av)) true)]):=by
  refine ay.cons ay.nil ?_;rintro ts rfl;exact⟨aso av g ch p hl hz hg,λ_=>rfl⟩
 refine aqP.ok (by simp) (aT ?_);simp;apply aa.ag aC fw [0,1];simp[UP];apply aa.ag aC fw [4];simp[UQ];apply aa.ret;simp[dj];simpa using hi.symm
end
def fC(n:Int):Prop:=1<=n/\n<=60000
instance(n:Int):Decidable (fC n):=by unfold fC;infer_instance
def asq(n:Int):bu aj 41 [ti n] (.bool (decide (fC n))):=by
 obtain⟨R,hR⟩:=be (decide (fC n));rw[hR];refine aqA.ok (by simp) (aT ?_);simp;apply aa.ag cL fw [0];simp[Uo];refine aa.cH cL fw [(2,.v (.bool R))] ?_ ?_
 ·by_cases q1:1<=n
  ·by_cases q2:n<=60000
   ·have:R=true:=by rw[<-hR];simp[fC,q1,q2]
    simp[DL,q1,q2,this]
   ·have:R=false:=by rw[<-hR];simp[fC,q2]
    simp[DL,q1,q2,this]
  ·have:R=false:=by rw[<-hR];simp[fC,q1]
   simp[DL,q1,this]
 apply aa.ret;simp[dj]
abbrev ale:DM.Spec:=dh (λts=>∃n:Int,ts=[ti n]) (fun|[.int _ n]=>.bool (decide (fC n))|_=>.bool false) true
def K6:ay aj (bB [(41,ale)]):=by
 refine ay.cons ay.nil ?_;rintro ts ⟨n,rfl⟩;exact⟨asq n,λ_=>rfl⟩
def asr(n:Int):bu aj 43 [ti n] (.bool (!decide (fC n))):=by
 obtain⟨R,hR⟩:=be ((!decide (fC n)));rw[hR];refine aqE.ok (by simp) (aT ?_);simp;apply aa.ag K6 fw [0];simp[Ur];apply aa.ag K6 fw [2];simp[Us];apply aa.ret;simp[dj];simpa using hR.symm
def ass(c:cP)(aM:Int)(h:aM<=1000000000000):bu aj 69 [.agg c.enc,ti aM] (.bool (decide (qL c aM))):=by
 have aC:=K6;obtain⟨v,hv⟩:=be (decide (qL c aM));rw[hv];have da:¬qL c aM->v=false:=λh=>by rw[<-hv];simp[h]
 have dd:qL c aM↔(¬(c.kind< -1\/c.kind>=aM\/(c.read.length:Int)≠aM\/c.delete<1\/(c.delete>60000/\c.delete≠1099511627776)))/\∀t,t<aM.toNat->lw c t:=Iff.rfl;refine aqT.ok (by simp) (aT ?_);simp[cP.enc];apply aa.ag aC fw [1,2];simp[UT];refine aa.lk (o:=[]) (l:=[(1,.v (ti aM)),(2,.v (.box [ti c.kind,.sl (aG c.read),ti c.delete]))]) (aZ:=1200) (by simp) ?_;apply aa.seq;obtain⟨b,hb⟩:=be (decide (c.kind< -1\/c.kind>=aM\/(c.read.length:Int)≠aM\/c.delete<1\/(c.delete>60000/\c.delete≠1099511627776)):Bool);refine aa.cH aC fw [(1,.v (ti aM)),(2,.v (.box [ti c.kind,.sl (aG c.read),ti c.delete])),(33,.v (.bool b))] ?_ ?_
 ·by_cases q1:c.kind< -1
  ·have fJ:b=true:=by rw[<-hb];simp[q1]
   simp[tS,q1,fJ]
  ·by_cases q2:aM<=c.kind
   ·have fJ:b=true:=by rw[<-hb];simp[q2]
    simp[tS,q1,q2,fJ]
   ·by_cases q3:(c.read.length:Int)=aM
    ·by_cases q4:fC c.delete
     ·have fJ:b=false:=by
       rw[<-hb];simp only[Di];unfold fC at q4;omega
      simp[tS,q1,q2,q3,q4,fJ]
     ·by_cases q6:c.delete=1099511627776
      ·have fJ:b=false:=by rw[<-hb];simp only[Di];omega
       simp[tS,q1,q2,q3,show ¬fC 1099511627776 from by simp[fC],q6,fJ]
      ·have fJ:b=true:=by
        rw[<-hb];simp only[oS];unfold fC at q4;omega
       simp[tS,q1,q2,q3,q4,q6,fJ]
    ·have fJ:b=true:=by rw[<-hb];simp[q3]
     simp[tS,q1,q2,q3,fJ]
 refine aa.cond rfl (λh=>?_) (λh=>?_)
 ·rw[h]at hb;simp only[oS]at hb;apply aa.ag aC fw [4];simp[UU];apply aa.ret;rw[da λe=>(dd.1 e).1 hb];simp[dj]
 rw[h]at hb;simp only[Di]at hb;obtain⟨n,hn⟩:=be c.read.length;have hnt:aM=(n:Int):=by omega
 subst hnt;apply aa.skip;simp;apply aa.sq aC fw [1,2,35,36,37];simp[UV];apply aa.block;refine aa.loop (λy:Nat=>⟨DM.look [(1,.v (ti n)),(2,.v (.box [ti c.kind,.sl (aG c.read),ti c.delete])),(35,.v (.sl (aG c.read))),(36,.v (ti n)),(37,.v (ti y))],cJ [],2000,1000,[]⟩)
  (λy=>y<=n/\∀t,t<y->lw c t) (λy=>n-y) 0 (Le.bF (o:=[]) ?_ ?_ ?_ ?_) (by simp) (λy hy=>?_)
 iterate 3(·simp)
 ·simp[hn]
 obtain⟨mf,fW⟩:=hy;apply aa.ag aC fw [1,2,35,36,37,38];simp[UW];apply aa.seq;refine aa.cond rfl (λcU=>?_) (λcU=>?_)
 ·simp at cU;have Mb:y<c.read.length:=by omega
  have r1:=cM Mb;obtain⟨u,hu⟩:=be (c.read.getD y default);rw[hu]at r1;have kr:lw c y↔¬(((y:Int)=c.kind/\u≠0)\/((y:Int)≠c.kind/\u≠-1/\(u<1\/u>60000))):=by unfold lw;rw[hu]
  obtain⟨kd,hkd⟩:=be c.kind;rw[hkd]at kr⊢;apply aa.skip;simp;apply aa.seq;apply aa.block;apply aa.ag aC fw [1,2,5,6,35,36,37];simp[UX,r1,Mb];obtain⟨b2,gm⟩:=be (decide (((y:Int)=kd/\u≠0)\/((y:Int)≠kd/\u≠-1/\(u<1\/u>60000))):Bool);refine aa.cH aC fw [(1,.v (ti n)),(2,.v (.box [ti kd,.sl (aG c.read),ti c.delete])),(35,.v (.sl (aG c.read))),(36,.v (ti n)),(37,.v (ti y)),(64,.v (.bool b2))] ?_ ?_
  ·by_cases q1:(y:Int)=kd
   ·by_cases q2:u=0
    ·have fJ:b2=false:=by rw[<-gm];simp[q1,q2]
     simp[wy,q1,q2,fJ]
    ·have fJ:b2=true:=by rw[<-gm];simp[q1,q2]
     simp[wy,q1,q2,fJ]
   ·by_cases q2:u= -1
    ·have fJ:b2=false:=by rw[<-gm];simp[q1,q2]
     simp[wy,q1,q2,fJ]
    ·by_cases q3:fC u
     ·have fJ:b2=false:=by rw[<-gm];simp only[Di];unfold fC at q3;omega
      simp[wy,q1,q2,q3,fJ]
     ·have fJ:b2=true:=by rw[<-gm];simp only[oS];unfold fC at q3;omega
      simp[wy,q1,q2,q3,fJ]
  refine aa.cond rfl (λh=>?_) (λh=>?_)
  ·rw[h]at gm;simp only[oS]at gm;apply aa.ag aC fw [4];simp[UY];apply aa.ret;rw[da λe=>kr.1 ((dd.1 e).2 y (by simpa using cU)) gm];simp[dj]
  ·rw[h]at gm;simp only[Di]at gm;apply aa.skip;simp;apply aa.fA aC fw [1,2,35,36,37];simp[UZ];rw[aF (by omega)];refine⟨y+1,Le.bF (o:=[]) ?_ ?_ ?_ ?_,⟨by omega,λi hi=>?_⟩,by omega⟩;iterate 3(·simp)
   ·simp[]
   ·by_cases e:i=y
    ·subst e;exact kr.2 gm
    ·exact fW i (by omega)
 ·apply aa.exit;have GB:y=n:=by
   have:¬y<n:=by simpa using cU
   omega
  simp;apply aa.ag aC fw [4];simp[U0];apply aa.ret;have:v=true:=by
   rw[<-hv];exact decide_eq_true (dd.2 ⟨hb,λt ht=>fW t (by simp at ht;omega)⟩)
  simp[dj,this]
abbrev ast:DM.Spec:=dh (λts=>∃(k d:Int) (r:bU) (aM:Int),ts=[.agg [ti k,.sl (aG r),ti d],ti aM]/\aM<=1000000000000) (fun|[.agg c,.int _ t]=>.bool (decide (qL (t6 c) t))|_=>.bool false) true
def adF:ay aj (bB [(69,ast)]):=by
 refine ay.cons ay.nil ?_;rintro ts ⟨k,d,r,aM,rfl,h⟩;exact⟨by simpa [cP.enc,t6,dL]using ass ⟨k,r,d⟩ aM h,λ_=>rfl⟩
def asu(c:cP)(aM:Int)(h:aM<=1000000000000):bu aj 68 [.agg c.enc,.box [ti aM]] (.bool (!decide (qL c aM))):=by
 obtain⟨R,hR⟩:=be ((!decide (qL c aM)));rw[hR];have hd:=qg c;obtain⟨k,r,d⟩:=c;simp only[cP.enc]at hd⊢;refine aqR.ok (by simp) (aT ?_);simp;apply aa.ag adF fw [1,2];simp[UR];apply aa.ag adF fw [3];simp[US,hd];refine⟨⟨k,d,r,aM,⟨⟨rfl,rfl,rfl⟩,rfl⟩,h⟩, ?_⟩;apply aa.ret;simp[dj];simpa using hR.symm
def YE(l:List cP)(aM:Int)(p:aL->Bool)(hp:∀c,p c.enc= !decide (qL c aM)):(!(cz l).any p)=decide (ll l aM):=by
 rw[Zcb,decide_eq_true_iff];unfold ll;simp only[Xp,ZcB,cz,lq];constructor
 ·intro h i hi;have:=h (l[i].enc) ⟨l[i],SL hi,rfl⟩;rw[hp]at this;have e:l.getD i default=l[i]:=by simp[List.getD,hi]
  rw[e];simpa using this
 ·rintro h x ⟨c,hc,rfl⟩;obtain⟨i,hi,rfl⟩:=Ib hc;have:=h i hi;have e:l.getD i default=l[i]:=by simp[List.getD,hi]
  rw[e]at this;rw[hp];simp[this]
def asv(l:List cP)(aM:Int)(h:aM<=1000000000000)(hl:l.length<=1000000000):bu aj 44 [.sl (cz l),ti aM] (.bool (decide (ll l aM))):=by
 have Oc:=YE l aM (λr=> !decide (qL (t6 r) aM)) (λc=>by rw[qg]);obtain⟨R,hR⟩:=be (decide (ll l aM));rw[hR]at Oc⊢;have aC:ay aj (bB [(67,dh (λts=>ts=[.sl (cz l),.fn (.func 68) [.box [ti aM]]]) (λts=>.bool ((cz l).any λr=> !decide (qL (t6 r) aM))) true)]):=by
  refine ay.cons ay.nil ?_;rintro ts rfl;refine⟨asp (cz l) 68 [.box [ti aM]] _ (by simpa [cz]using hl) (λr hr=>?_) (λr hr=>?_),λ_=>rfl⟩
  ·obtain⟨c,_,rfl⟩:=lq.1 hr;exact⟨_,_,_,rfl⟩
  ·obtain⟨c,_,rfl⟩:=lq.1 hr;simp only[qg];exact asu c aM h
 refine aqG.ok (by simp) (aT ?_);simp;apply aa.ag aC fw [0,3];simp[Ut];refine aa.lk (o:=[]) (l:=[(0,.v (.sl (cz l))),(3,.v (.box [ti aM]))]) (aZ:=1200) (by simp) ?_;apply aa.ag aC fw [4];simp[Uu];apply aa.ret;simp[dj];simpa using Oc.symm
def afL(l:bU)(p:aL->Bool)(hp:∀n:Int,p [ti n]= !decide (fC n)):(!(aG l).any p)=decide (∀t,t<l.length->zH l t):=by
 rw[Zcb];simp only[Xp,ZcB,aG,lq,oS];constructor
 ·intro h i hi;have:=h [ti l[i]] ⟨l[i],SL hi,rfl⟩;rw[hp]at this;have e:l.getD i default=l[i]:=by simp[List.getD,hi]
  unfold zH;rw[e];have this:fC l[i]:=by simpa using this
  unfold fC at this;omega
 ·rintro h x ⟨c,hc,rfl⟩;obtain⟨i,hi,rfl⟩:=Ib hc;have:=h i hi;have e:l.getD i default=l[i]:=by simp[List.getD,hi]
  unfold zH at this;rw[e]at this;have:fC l[i]:=by unfold fC;omega
  rw[hp];simp[this]
def asw(x:Input)(aM:Int)(h:aM<=1000000000):bu aj 27 [x.enc,ti aM] (.bool (decide (Qa x aM))):=by
 have dd:Qa x aM↔(¬(aM<0\/(x.aw.length:Int)>60\/(x.insert.length:Int)≠aM\/x.swap<0\/x.swap>60000\/¬ll x.aw aM))/\∀t,t<aM.toNat->zH x.insert t:=Iff.rfl;obtain⟨R,hR⟩:=be (decide (Qa x aM));rw[hR];have da:¬Qa x aM->R=false:=λh=>by rw[<-hR];simp[h]
 obtain⟨cs,ci,sw⟩:=x;simp only at dd;have Oc:=afL ci (λr=> !decide (fC (dL (r.headD (.bool false))))) (λn=>by simp[dL]);obtain⟨A,hA⟩:=be (((aG ci).any λr=> !decide (fC (dL (r.headD (.bool false))))));rw[hA]at Oc;obtain⟨V,hV⟩:=be (decide (ll cs aM));have aC:ay aj (bB [(44,dh (λts=>ts=[.sl (cz cs),ti aM]/\cs.length<=1000000000) (λ_=>.bool V) true),(42,dh (λts=>ts=[.sl (aG ci),.fn (.func 43) []]/\ci.length<=1000000000) (λts=>.bool A) true),(41,ale)]):=by
  refine ay.cons (ay.cons K6 ?_) ?_
  ·rintro ts ⟨rfl,hl⟩;rw[<-hA];refine⟨asn (aG ci) 43 [] _ (by simpa using hl) (λr hr=>?_) (λr hr=>?_),λ_=>rfl⟩
   ·obtain⟨c,_,rfl⟩:=lq.1 hr;exact⟨_,rfl⟩
   ·obtain⟨c,_,rfl⟩:=lq.1 hr;simpa [dL]using asr c
  ·rintro ts ⟨rfl,h2⟩;rw[<-hV];exact⟨asv cs aM (by omega) h2,λ_=>rfl⟩
 refine aqq.ok (by simp) (aT ?_);simp[Input.enc];apply aa.ag aC fw [1,2];simp[T3];refine aa.lk (o:=[]) (l:=[(1,.v (ti aM)),(2,.v (.box [.sl (cz cs),.sl (aG ci),ti sw]))]) (aZ:=1200) (by simp) ?_;apply aa.seq;obtain⟨b,hb⟩:=be (decide (aM<0\/(cs.length:Int)>60\/(ci.length:Int)≠aM\/sw<0\/sw>60000):Bool);refine aa.cH aC fw [(1,.v (ti aM)),(2,.v (.box [.sl (cz cs),.sl (aG ci),ti sw])),(30,.v (.bool b))] ?_ ?_
 ·by_cases q1:aM<0
  ·have fJ:b=true:=by rw[<-hb];simp[q1]
   simp[tR,q1,fJ]
  ·by_cases q2:60<(cs.length:Int)
   ·have fJ:b=true:=by rw[<-hb];simp[q2]
    simp[tR,q1,q2,fJ]
   ·by_cases q3:(ci.length:Int)=aM
    ·by_cases q4:sw=0
     ·have fJ:b=false:=by rw[<-hb];simp only[Di];omega
      simp[tR,q1,q2,q3,q4,fJ]
     ·by_cases q5:fC sw
      ·have fJ:b=false:=by rw[<-hb];simp only[Di];unfold fC at q5;omega
       simp[tR,q1,q2,q3,q4,q5,fJ]
      ·have fJ:b=true:=by rw[<-hb];simp only[oS];unfold fC at q5;omega
       simp[tR,q1,q2,q3,q4,q5,fJ]
    ·have fJ:b=true:=by rw[<-hb];simp[q3]
     simp[tR,q1,q2,q3,fJ]
 refine aa.cond rfl (λhbt=>?_) (λhbt=>?_)
 ·rw[hbt]at hb;have hb:=qW hb;apply aa.ag aC fw [4];simp[T4];apply aa.ret;rw[da λe=>(dd.1 e).1 (by omega)];simp[dj]
 rw[hbt]at hb;have hb:=wS hb;apply aa.skip;simp;have hl:ci.length<=1000000000:=by omega
 have Ci:cs.length<=1000000000:=by omega
 have hR2:R=(!A&&V):=by
  rw[<-hR,<-hV,Oc,Zcb,decide_eq_true_iff,mD,decide_eq_true_iff,decide_eq_true_iff,dd];constructor
  ·rintro⟨h1,h2⟩;refine⟨λt ht=>h2 t (by omega), ?_⟩;by_cases e:ll cs aM
   ·exact e
   ·exact eA (by simp[e]) h1
  ·rintro⟨h1,h2⟩;exact⟨by simp only[h2,not_true_eq_false,wh];exact hb,λt ht=>h1 t (by omega)⟩
 refine aa.cH aC fw [(4,.v (.bool R))] ?_ ?_
 ·cases A with
  |true=>simp[Kj,hl,hR2]
  |false=>simp[Kj,hl,Ci,hR2]
 apply aa.ret;simp[dj]
def IG(nn x:Int):Prop:=0<=x/\x<nn
instance(nn x:Int):Decidable (IG nn x):=by unfold IG;infer_instance
abbrev nB(n:aD):T:=.box [ti n.aM,ti n.ak,ti n.start,.sl (aW n.au)]
def asx(n:aD)(x:Int):bu aj 65 [ti x,nB n] (.bool (decide (IG n.ak x))):=by
 obtain⟨R,hR⟩:=be (decide (IG n.ak x));rw[hR];refine aqL.ok (by simp) (aT ?_);simp;apply aa.ag cL fw [0,1];simp[UG];refine aa.cH cL fw [(3,.v (.bool R))] ?_ ?_
 ·by_cases q1:0<=x
  ·by_cases q2:x<n.ak
   ·have:R=true:=by rw[<-hR];simp[IG,q1,q2]
    simp[DN,q1,q2,this]
   ·have:R=false:=by rw[<-hR];simp[IG,q2]
    simp[DN,q1,q2,this]
  ·have:R=false:=by rw[<-hR];simp[IG,q1]
   simp[DN,q1,this]
 apply aa.ret;simp[dj]
def asy(n:aD)(r:dv):bu aj 40 [n.enc,.agg r.enc] (.bool (decide (gV n r/\kindOk n r))):=by
 obtain⟨R,hR⟩:=be (decide (gV n r/\kindOk n r));rw[hR];have aC:ay aj (bB [(65,dh (λts=>∃x:Int,ts=[ti x,nB n]) (λts=>match ts with|[.int _ x,_]=>.bool (decide (IG n.ak x))|_=>.bool false) true)]):=by
  refine ay.cons ay.nil ?_;rintro ts ⟨x,rfl⟩;exact⟨asx n x,λ_=>rfl⟩
 obtain⟨nt,nn,ns,au⟩:=n;obtain⟨k,h,a,b,p,o⟩:=r;simp only[gV,kindOk,nB]at hR aC;refine aqy.ok (by simp) (aT ?_);simp[aD.enc,dv.enc];apply aa.ag aC fw [2,3];simp[Uh];refine aa.lk (o:=[]) (l:=[(2,.v (.box [ti nt,ti nn,ti ns,.sl (aW au)])),(3,.v (.box [ti k,ti h,ti a,ti b,ti p,ti o]))]) (aZ:=1200) (by simp) ?_;apply aa.ag aC fw [2,3,5];simp[Ui];apply aa.seq;obtain⟨c1,b8⟩:=be (decide (h<0\/h>=nn\/p<0\/p>1000\/o< -1):Bool);refine aa.cH aC fw [(2,.v (.box [ti nt,ti nn,ti ns,.sl (aW au)])),(3,.v (.box [ti k,ti h,ti a,ti b,ti p,ti o])),(5,.v (.fn (.func 65) [.box [ti nt,ti nn,ti ns,.sl (aW au)]])),(26,.v (.bool c1))] ?_ ?_
 ·by_cases q1:IG nn h
  ·by_cases q2:p<0
   ·have:c1=true:=by rw[<-b8];simp[q2]
    simp[wx,q1,q2,this]
   ·by_cases q3:1000<p
    ·have:c1=true:=by rw[<-b8];simp[q3]
     simp[wx,q1,q2,q3,this]
    ·by_cases q4:o< -1
     ·have:c1=true:=by rw[<-b8];simp[q4]
      simp[wx,q1,q2,q3,q4,this]
     ·have:c1=false:=by rw[<-b8];simp only[Di];unfold IG at q1;omega
      simp[wx,q1,q2,q3,q4,this]
  ·have:c1=true:=by rw[<-b8];simp only[oS];unfold IG at q1;omega
   simp[wx,q1,this]
 refine aa.cond rfl (λg=>?_) (λg=>?_)
 ·rw[g]at b8;have hc:=qW b8;have:R=false:=by rw[<-hR];simp only[Di];exact λe=>e.1 hc
  apply aa.ag aC fw [4];simp[Uj];apply aa.ret;simp[dj,this]
 rw[g]at b8;have hc:=wS b8;apply aa.skip;simp;apply aa.sq aC fw [2,3,5,28];simp[Uk];apply aa.block;apply aa.ag aC fw [2,3,5,28,29];simp[Ul];refine aa.cond rfl (λg=>?_) (λg=>?_)
 ·have g:k=1:=by simpa using g
  subst g;refine aa.cH aC fw [(4,.v (.bool R))] ?_ ?_
  ·by_cases q1:a=0
   ·by_cases q2:b=0
    ·have:R=true:=by rw[<-hR];simp only[oS];refine⟨hc, ?_⟩;simp[q1,q2]
     simp[DK,q1,q2,this]
    ·have:R=false:=by rw[<-hR];simp[q2]
     simp[DK,q1,q2,this]
   ·have:R=false:=by rw[<-hR];simp[q1]
    simp[DK,q1,this]
  apply aa.ret;simp[dj]
 have k1:k≠1:=by simpa using g
 apply aa.ag aC fw [2,3,5,28,39];simp[Um];refine aa.cond rfl (λg=>?_) (λg=>?_)
 ·have g:k=2:=by simpa using g
  subst g;refine aa.cH aC fw [(4,.v (.bool R))] ?_ ?_
  ·by_cases q1:0<=a
   ·by_cases q2:a<nt
    ·by_cases q3:b=0
     ·have:R=true:=by rw[<-hR];simp only[oS];refine⟨hc, ?_⟩;simp[q1,q2,q3]
      simp[zR,q1,q2,q3,this]
     ·have:R=false:=by rw[<-hR];simp[q3]
      simp[zR,q1,q2,q3,this]
    ·have:R=false:=by rw[<-hR];simp[q2]
     simp[zR,q1,q2,this]
   ·have:R=false:=by rw[<-hR];simp[q1]
    simp[zR,q1,this]
  apply aa.ret;simp[dj]
 have k2:k≠2:=by simpa using g
 apply aa.ag aC fw [2,3,5,28,56];simp[Un];refine aa.cond rfl (λg=>?_) (λg=>?_)
 ·have g:k=3:=by simpa using g
  subst g;refine aa.cH aC fw [(4,.v (.bool R))] ?_ ?_
  ·by_cases q1:IG nn a
   ·have q1':=q1;unfold IG at q1';by_cases q3:b=0
    ·have:R=true:=by rw[<-hR];simp only[oS];refine⟨hc, ?_⟩;simp[q1'.1,q1'.2,q3]
     simp[zS,q1,q3,this]
    ·have:R=false:=by rw[<-hR];simp[q3]
     simp[zS,q1,q3,this]
   ·have:R=false:=by
     rw[<-hR];unfold IG at q1;simp only[Di];rintro⟨_,h2⟩;simp at h2;omega
    simp[zS,q1,this]
  apply aa.ret;simp[dj]
 have k3:k≠3:=by simpa using g
 apply aa.ag aC fw [2,3,5,28,67];simp[M6];refine aa.cond rfl (λg=>?_) (λg=>?_)
 ·have g:k=4:=by simpa using g
  subst g;refine aa.cH aC fw [(4,.v (.bool R))] ?_ ?_
  ·by_cases q1:IG nn a
   ·have q1':=q1;unfold IG at q1';by_cases q3:IG nn b
    ·have q3':=q3;unfold IG at q3';have:R=true:=by rw[<-hR];simp only[oS];refine⟨hc, ?_⟩;simp[q1'.1,q1'.2,q3'.1,q3'.2]
     simp[zT,q1,q3,this]
    ·have:R=false:=by
      rw[<-hR];unfold IG at q3;simp only[Di];rintro⟨_,h2⟩;simp at h2;omega
     simp[zT,q1,q3,this]
   ·have:R=false:=by
     rw[<-hR];unfold IG at q1;simp only[Di];rintro⟨_,h2⟩;simp at h2;omega
    simp[zT,q1,this]
  apply aa.ret;simp[dj]
 have k4:k≠4:=by simpa using g
 apply aa.skip;simp;apply aa.ag aC fw [4];simp[M7];apply aa.ret;have:R=false:=by rw[<-hR];simp[k1,k2,k3,k4]
 simp[dj,this]
def qU(r:dv):kC r.enc=r:=by
 obtain⟨a,b,c,d,e,f⟩:=r;simp[kC,dv.enc,dL]
def asA(n:aD)(r:dv):bu aj 39 [.agg r.enc,nB n] (.bool (!decide (gV n r/\kindOk n r))):=by
 obtain⟨R,hR⟩:=be ((decide (gV n r/\kindOk n r)));have aC:ay aj (bB [(40,dh (λts=>ts=[n.enc,.agg r.enc]) (λts=>.bool R) true)]):=by
  refine ay.cons ay.nil ?_;rintro ts rfl;rw[<-hR];exact⟨asy n r,λ_=>rfl⟩
 rw[hR];obtain⟨nt,nn,ns,au⟩:=n;obtain⟨k,h,a,b,p,o⟩:=r;simp only[aD.enc,dv.enc]at aC;refine aqw.ok (by simp) (aT ?_);simp[dv.enc];apply aa.ag aC fw [1,2];simp[Uf];apply aa.ag aC fw [3];simp[Ug];apply aa.ret;simp[dj]
def YF(n:aD)(l:Dh)(p:aL->Bool)(hp:∀r,p r.enc= !decide (gV n r/\kindOk n r)):(!(aW l).any p)=decide (∀i,i<l.length->gV n (l.getD i default)/\kindOk n (l.getD i default)):=by
 rw[Zcb,decide_eq_true_iff];simp only[Xp,ZcB,aW,lq];constructor
 ·intro h i hi;have:=h (l[i].enc) ⟨l[i],SL hi,rfl⟩;rw[hp]at this;have e:l.getD i default=l[i]:=by simp[List.getD,hi]
  rw[e];simpa using this
 ·rintro h x ⟨c,hc,rfl⟩;obtain⟨i,hi,rfl⟩:=Ib hc;have:=h i hi;have e:l.getD i default=l[i]:=by simp[List.getD,hi]
  rw[e]at this;rw[hp];simp[this]
def adG(n:aD):bu aj 26 [n.enc] (.bool (decide (dX n))):=by
 have dd:dX n↔qV n/\∀i,i<n.au.length->gV n (n.au.getD i default)/\kindOk n (n.au.getD i default):=Iff.rfl;obtain⟨R,hR⟩:=be (decide (dX n));rw[hR];have Oc:=YF n n.au (λr=> !decide (gV n (kC r)/\kindOk n (kC r))) (λr=>by rw[qU]);obtain⟨A,hA⟩:=be (((aW n.au).any λr=> !decide (gV n (kC r)/\kindOk n (kC r))));have aC:ay aj (bB [(38,dh (λts=>ts=[.sl (aW n.au),.fn (.func 39) [nB n]]/\n.au.length<=1000000000) (λts=>.bool A) true)]):=by
  refine ay.cons ay.nil ?_;rintro ts ⟨rfl,hl⟩;rw[<-hA];refine⟨ask (aW n.au) 39 [nB n] _ (by simpa [aW]using hl) (λr hr=>?_) (λr hr=>?_),λ_=>rfl⟩
  ·obtain⟨c,_,rfl⟩:=lq.1 hr;exact⟨_,_,_,_,_,_,rfl⟩
  ·obtain⟨c,_,rfl⟩:=lq.1 hr;simp only[qU];exact asA n c
 rw[hA]at Oc;have AX:(aW n.au).length=n.au.length:=by simp[aW]
 have anj:qV n↔¬(n.aM<0\/n.aM>120\/n.ak<1\/n.ak>1000\/n.start<0\/n.start>=n.ak\/(n.au.length:Int)>600):=Iff.rfl;have hR2:R=(decide (qV n)&& !A):=by
  rw[<-hR,Oc,Zcb,decide_eq_true_iff,mD,decide_eq_true_iff,decide_eq_true_iff];exact dd
 clear dd;obtain⟨nt,nn,ns,au⟩:=n;simp only at anj AX aC;refine aqo.ok (by simp) (aT ?_);simp[aD.enc];apply aa.ag aC fw [1];simp[T0];refine aa.lk (o:=[]) (l:=[(1,.v (.box [ti nt,ti nn,ti ns,.sl (aW au)]))]) (aZ:=1200) (by simp) ?_;apply aa.seq;obtain⟨b,hb⟩:=be (decide (nt<0\/nt>120\/nn<1\/nn>1000\/ns<0\/ns>=nn\/(au.length:Int)>600):Bool);refine aa.cH aC fw [(1,.v (.box [ti nt,ti nn,ti ns,.sl (aW au)])),(38,.v (.bool b))] ?_ ?_
 ·by_cases q1:nt<0
  ·have fJ:b=true:=by rw[<-hb];simp[q1]
   simp[px,q1,fJ]
  ·by_cases q2:120<nt
   ·have fJ:b=true:=by rw[<-hb];simp[q2]
    simp[px,q1,q2,fJ]
   ·by_cases q3:nn<1
    ·have fJ:b=true:=by rw[<-hb];simp[q3]
     simp[px,q1,q2,q3,fJ]
    ·by_cases q4:1000<nn
     ·have fJ:b=true:=by rw[<-hb];simp[q4]
      simp[px,q1,q2,q3,q4,fJ]
     ·by_cases q5:ns<0
      ·have fJ:b=true:=by rw[<-hb];simp[q5]
       simp[px,q1,q2,q3,q4,q5,fJ]
      ·by_cases q6:nn<=ns
       ·have fJ:b=true:=by rw[<-hb];simp[q6]
        simp[px,q1,q2,q3,q4,q5,q6,fJ]
       ·by_cases q7:600<(au.length:Int)
        ·have fJ:b=true:=by rw[<-hb];simp[q7]
         simp[px,q1,q2,q3,q4,q5,q6,q7,AX,fJ]
        ·have fJ:b=false:=by rw[<-hb];simp only[Di];omega
         simp[px,q1,q2,q3,q4,q5,q6,q7,AX,fJ]
 refine aa.cond rfl (λg=>?_) (λg=>?_)
 ·rw[g]at hb;have hb:=qW hb;have:decide (qV ⟨nt,nn,ns,au⟩)=false:=by simp only[Di,anj];exact λh=>h hb
  apply aa.ag aC fw [2];simp[T1];apply aa.ret;simp[dj,hR2,this]
 ·rw[g]at hb;have hb:=wS hb;have:decide (qV ⟨nt,nn,ns,au⟩)=true:=by simp only[oS,anj];exact hb
  have hl:au.length<=1000000000:=by omega
  apply aa.skip;simp;apply aa.ag aC fw [2];simp[T2,hl];apply aa.ret;simp[dj,hR2,this]
section
variable{ci:bU}
abbrev alf(n:aD):DM.Spec:=dh (λts=>ts=[n.enc]) (λ_=>.bool (decide (dX n))) true
def ank(n:aD):ay aj (bB [(26,alf n)]):=by
 refine ay.cons ay.nil ?_;rintro ts rfl;exact⟨adG n,λ_=>rfl⟩
def asB(n:aD)(ci:bU)(hl:ci.length<=1000000000):bu aj 70 [n.enc,.sl (aG ci)] (.bool (decide (dX n/\d9 n ci))):=by
 have aC:=ank n;obtain⟨v,hv⟩:=be (decide (dX n/\d9 n ci));rw[hv];obtain⟨nt,nn,ns,au⟩:=n;have dd:d9 ⟨nt,nn,ns,au⟩ ci↔(ci.length:Int)=nt/\∀i,i<ci.length->yb ci i:=Iff.rfl;have da:¬(dX ⟨nt,nn,ns,au⟩/\d9 ⟨nt,nn,ns,au⟩ ci)->v=false:=λh=>by rw[<-hv];simp[h]
 simp only[alf,aD.enc]at aC;refine aqV.ok (by simp) (aT ?_);simp[aD.enc];apply aa.ag aC fw [1,2];simp[U1];refine aa.lk (o:=[]) (l:=[(1,.v (.sl (aG ci))),(2,.v (.box [ti nt,ti nn,ti ns,.sl (aW au)]))]) (aZ:=1200) (by simp) ?_;apply aa.seq;obtain⟨c1,b8⟩:=be (decide (¬dX ⟨nt,nn,ns,au⟩\/(ci.length:Int)≠nt):Bool);refine aa.cH aC fw [(1,.v (.sl (aG ci))),(2,.v (.box [ti nt,ti nn,ti ns,.sl (aW au)])),(16,.v (.bool c1))] ?_ ?_
 ·by_cases q1:dX ⟨nt,nn,ns,au⟩
  ·by_cases q2:(ci.length:Int)=nt
   ·have:c1=false:=by rw[<-b8];simp[q1,q2]
    simp[DO,q1,q2,this]
   ·have:c1=true:=by rw[<-b8];simp[q2]
    simp[DO,q1,q2,this]
  ·have:c1=true:=by rw[<-b8];simp[q1]
   simp[DO,q1,this]
 refine aa.cond rfl (λg=>?_) (λg=>?_)
 ·rw[g]at b8;have b8:=qW b8;apply aa.ag aC fw [4];simp[U2];apply aa.ret;rw[da (λh=>b8.elim (λq=>q h.1) (λq=>q (dd.1 h.2).1))];simp[dj]
 rw[g]at b8;have b8:=wS b8;simp only[Zc6,Classical.not_not]at b8;obtain⟨Ch,nU⟩:=b8;apply aa.skip;simp;apply aa.sq aC fw [1,17,18,19];simp[U3];apply aa.block;refine aa.loop (λy:Nat=>⟨DM.look [(17,.v (.sl (aG ci))),(18,.v (ti ci.length)),(19,.v (ti y))],cJ [],2000,1000,[]⟩)
  (λy=>y<=ci.length/\∀i,i<y->yb ci i) (λy=>ci.length-y) 0 (Le.bF (o:=[]) ?_ ?_ ?_ ?_) (by simp) (λy hy=>?_)
 iterate 4(·simp)
 obtain⟨mf,fW⟩:=hy;apply aa.ag aC fw [17,18,19,20];simp[U4];apply aa.seq;refine aa.cond rfl (λcU=>?_) (λcU=>?_)
 ·have cU:y<ci.length:=by simpa using cU
  have r1:=cM cU;obtain⟨u,hu⟩:=be (ci.getD y default);rw[hu]at r1;have kr:yb ci y↔¬(u<1\/u>60000):=by unfold yb;rw[hu]
  apply aa.skip;simp;apply aa.seq;apply aa.block;apply aa.ag aC fw [6,17,18,19];simp[U5,r1,cU];obtain⟨b2,gm⟩:=be (decide (u<1\/u>60000):Bool);refine aa.cH aC fw [(17,.v (.sl (aG ci))),(18,.v (ti ci.length)),(19,.v (ti y)),(28,.v (.bool b2))] ?_ ?_
  ·by_cases q1:u<1
   ·have fJ:b2=true:=by rw[<-gm];simp[q1]
    simp[DP,q1,fJ]
   ·by_cases q2:60000<u
    ·have fJ:b2=true:=by rw[<-gm];simp[q2]
     simp[DP,q1,q2,fJ]
    ·have fJ:b2=false:=by rw[<-gm];simp only[Di];omega
     simp[DP,q1,q2,fJ]
  refine aa.cond rfl (λh=>?_) (λh=>?_)
  ·rw[h]at gm;have gm:=qW gm;apply aa.ag aC fw [4];simp[U6];apply aa.ret;rw[da λe=>kr.1 ((dd.1 e.2).2 y cU) gm];simp[dj]
  ·rw[h]at gm;have gm:=wS gm;apply aa.skip;simp;apply aa.fA aC fw [17,18,19];simp[U7];rw[aF (by omega)];refine⟨y+1,Le.bF (o:=[]) ?_ ?_ ?_ ?_,⟨by omega,λi hi=>?_⟩,by omega⟩;iterate 4(·simp)
   ·by_cases e:i=y
    ·subst e;exact kr.2 gm
    ·exact fW i (by omega)
 ·have GB:y=ci.length:=by
   have:¬y<ci.length:=by simpa using cU
   omega
  subst GB;apply aa.exit;simp;apply aa.ag aC fw [4];simp[U8];apply aa.ret;have:v=true:=by
   rw[<-hv];exact decide_eq_true ⟨Ch,dd.2 ⟨nU,fW⟩⟩
  simp[dj,this]
def asC(n:aD)(ci:bU)(hn:AL n)(hp:d9 n ci):bu aj 72 [n.enc,.sl (aG ci)] (.agg [ti n.ak,.sl (bn (kR n ci))]):=by
 obtain⟨nt,nn,ns,au⟩:=n;obtain⟨n1,n2,n3,n4⟩:=hn;obtain⟨p1,p2⟩:=hp;simp only[kR]at n1 n2 n3 n4 p1 p2⊢;have aC:=cL;refine aqX.ok (by simp) (aT ?_);simp[aD.enc];apply aa.ag aC fw [1,2,4];simp[U9];refine aa.lk (o:=[(1005,.box [.v (ti 0),.aX])]) (l:=[(1,.v (.sl (aG ci))),(2,.v (.box [ti nt,ti nn,ti ns,.sl (aW au)])),(4,.ptr 1005 0)]) (aZ:=1200) (by simp) ?_;apply aa.ag aC fw [1,2,4,5];simp[Va];refine aa.lk (o:=[(1005,.box [.v (ti 0),.aX]),(1206,.box [.v (ti nn),.aX])]) (l:=[(1,.v (.sl (aG ci))),(2,.v (.box [ti nt,ti nn,ti ns,.sl (aW au)])),(4,.ptr 1005 0),(5,.ptr 1206 0)]) (aZ:=1400) (by simp) ?_;refine aa.le (Le.DD 1206 1 157 (sz:=5) (cs:=[.v (ti nn),.aX]) (by omega) (by simp) rfl) ?_;rw[lj,lj];apply aa.sq aC fw [1,4,5,13,14,15];simp[Vb];apply aa.block;refine aa.loop (λy:Nat=>⟨DM.look [(1,.v (.sl (aG ci))),(4,.ptr 1005 0),(5,.ptr 1206 0),(13,.v (.sl (aW au))),(14,.v (ti au.length)),(15,.v (ti y))],cJ [(1005,.box [.v (ti 0),.aX]),(1206,.box [.v (ti nn),.bC 1400 0]),(1400,.bE 0 157 5 (bn ((au.map (fM ci)).take y)))],1600,1000,[]⟩)
  (λy=>y<=au.length) (λy=>au.length-y) 0 (Le.bF ?_ ?_ ?_ ?_) (by simp) (λy hy=>?_)
 ·simp
 ·simp
 ·simp[bn]
 ·simp[aW]
 apply aa.ag aC fw [1,4,5,13,14,15,16];simp[Vc];apply aa.seq;refine aa.cond rfl (λcU=>?_) (λcU=>?_)
 ·have cU:y<au.length:=by simpa using cU
  have rr:=lW cU;have hS:bn ((au.map (fM ci)).take (y+1))=bn ((au.map (fM ci)).take y)++[(fM ci (au.getD y default)).enc]:=by
   rw[<-List.map_take,c8 cU,Pv,bn,Pv,Zcx];rfl
  obtain⟨⟨rk,rh,ra,rb,rp,rg⟩,hr⟩:=be (au.getD y default);rw[hr]at rr hS;have kr:=n4 ⟨rk,rh,ra,rb,rp,rg⟩ (by rw[<-hr];exact bq cU);obtain⟨q1,q2,q3,q4,q5⟩:=kr;simp only at q1 q2 q3 q4 q5;have dN:(bn ((au.map (fM ci)).take y)).length=y:=by simp[bn];omega
  obtain⟨⟨eh,et,ec,e0,e1⟩,hE⟩:=be (fM ci ⟨rk,rh,ra,rb,rp,rg⟩);rw[hE]at hS;simp only[bK.enc]at hS;have AX:(aW au).length=au.length:=by simp[aW]
  apply aa.skip;simp;apply aa.seq;apply aa.block;apply aa.ag aC fw [1,4,5,7,13,14,15];simp[Vd,cU,rr,AX,dv.enc];refine aa.lk (o:=[(1005,.box [.v (ti 0),.aX]),(1206,.box [.v (ti nn),.bC 1400 0]),(1400,.bE 0 157 5 (bn ((au.map (fM ci)).take y)))]) (l:=[(1,.v (.sl (aG ci))),(4,.ptr 1005 0),(5,.ptr 1206 0),(13,.v (.sl (aW au))),(14,.v (ti au.length)),(15,.v (ti y)),(7,.v (.box [ti rk,ti rh,ti ra,ti rb,ti rp,ti rg]))]) (aZ:=2400) (by simp) ?_;apply aa.ag aC fw [1,4,5,7,8,13,14,15];simp[Ve];refine aa.seq (aa.to ⟨DM.look [(1,.v (.sl (aG ci))),(4,.ptr 1005 0),(5,.ptr 1206 0),(13,.v (.sl (aW au))),(14,.v (ti au.length)),(15,.v (ti y)),(8,.v (.box [ti eh,.sl (aG et),ti ec,ti e0,ti e1]))],cJ [(1005,.box [.v (ti 0),.aX]),(1206,.box [.v (ti nn),.bC 1400 0]),(1400,.bE 0 157 5 (bn ((au.map (fM ci)).take y)))],4000,1000,[]⟩ ?_ ?_)
  ·apply aa.ag aC fw [1,4,5,7,8,13,14,15,25];simp[Vf];apply aa.block;apply aa.ag aC fw [1,4,5,7,8,13,14,15,25,26];simp[Vg];refine aa.cond rfl (λg=>?_) (λg=>?_)
   ·have g:rk=2:=by simpa using g
    have PB:0<=ra/\ra<ci.length:=by omega
    obtain⟨a,rfl⟩:=kK PB.1;have oQ:a<ci.length:=by omega
    have ri:=cM oQ;have hpi:=p2 a oQ;unfold yb at hpi;obtain⟨x,hx⟩:=be (ci.getD a default);rw[hx]at ri hpi;have KC:(⟨rh,[],rp+x,0,0⟩:bK)=⟨eh,et,ec,e0,e1⟩:=by rw[<-hE];simp[fM,jJ,g];exact hx.symm
    simp only[bK.mk.injEq]at KC;obtain⟨rfl,rfl,rfl,rfl,rfl⟩:=KC;apply aa.fA aC fw [1,4,5,8,13,14,15];simp[Vh,oQ,ri,aF (x:=rp+x) (by omega)];refine Le.trans (Le.bF (o:=[(1005,.box [.v (ti 0),.aX]),(1206,.box [.v (ti nn),.bC 1400 0]),(1400,.bE 0 157 5 (bn ((au.map (fM ci)).take y))),(2409,.box [.v (ti rh),.v (.sl []),.v (ti (rp+x)),.v (ti 0),.v (ti 0)])]) (l:=[(1,.v (.sl (aG ci))),(4,.ptr 1005 0),(5,.ptr 1206 0),(13,.v (.sl (aW au))),(14,.v (ti au.length)),(15,.v (ti y)),(8,.ptr 2409 0)]) (aZ:=3600) ?_ ?_ ?_ ?_) (Le.bF ?_ ?_ ?_ ?_);iterate 7(·simp)
    ·simp[aG]
   have k2:¬rk=2:=by simpa using g
   apply aa.ag aC fw [1,4,5,7,8,13,14,15,25,37];simp[Vi];refine aa.cond rfl (λg=>?_) (λg=>?_)
   ·have g:rk=3:=by simpa using g
    have KC:(⟨rh,[ra],rp,0,0⟩:bK)=⟨eh,et,ec,e0,e1⟩:=by rw[<-hE];simp[fM,jJ,g]
    simp only[bK.mk.injEq]at KC;obtain⟨rfl,rfl,rfl,rfl,rfl⟩:=KC;apply aa.fA aC fw [1,4,5,8,13,14,15];simp[M8,gn];refine Le.bF ?_ ?_ ?_ ?_;iterate 3(·simp)
    ·simp[aG]
   have k3:¬rk=3:=by simpa using g
   apply aa.ag aC fw [1,4,5,7,8,13,14,15,43];simp[M9];refine aa.cond rfl (λg=>?_) (λg=>?_)
   ·have g:rk=4:=by simpa using g
    have KC:(⟨rh,[ra,rb],rp,0,0⟩:bK)=⟨eh,et,ec,e0,e1⟩:=by rw[<-hE];simp[fM,jJ,g]
    simp only[bK.mk.injEq]at KC;obtain⟨rfl,rfl,rfl,rfl,rfl⟩:=KC;apply aa.fA aC fw [1,4,5,8,13,14,15];simp[Na,gn];refine Le.bF ?_ ?_ ?_ ?_;iterate 3(·simp)
    ·simp[aG]
   have k4:¬rk=4:=by simpa using g
   have KC:(⟨rh,[],rp,0,0⟩:bK)=⟨eh,et,ec,e0,e1⟩:=by rw[<-hE];simp[fM,jJ,k2,k3,k4]
   simp only[bK.mk.injEq]at KC;obtain⟨rfl,rfl,rfl,rfl,rfl⟩:=KC;apply aa.skip;simp;refine Le.trans (Le.bF (o:=[(1005,.box [.v (ti 0),.aX]),(1206,.box [.v (ti nn),.bC 1400 0]),(1400,.bE 0 157 5 (bn ((au.map (fM ci)).take y))),(2409,.box [.v (ti rh),.v (.sl []),.v (ti (rp)),.v (ti 0),.v (ti 0)])]) (l:=[(1,.v (.sl (aG ci))),(4,.ptr 1005 0),(5,.ptr 1206 0),(13,.v (.sl (aW au))),(14,.v (ti au.length)),(15,.v (ti y)),(8,.ptr 2409 0)]) (aZ:=3600) ?_ ?_ ?_ ?_) (Le.bF ?_ ?_ ?_ ?_);iterate 7(·simp)
   ·simp[aG]
  simp;apply aa.fA aC fw [1,4,5,13,14,15];simp[Nb,gn,dR,dN];repeat (refine⟨by omega, ?_⟩)
  apply aa.fA aC fw [1,4,5,13,14,15];simp[Nc];rw[aF (x:=(y:Int)+1) (by omega)];refine⟨y+1,Le.bF ?_ ?_ ?_ ?_,by omega,by omega⟩
  ·simp
  ·simp
  ·simp[hS]
  ·simp
 ·have fW:y=au.length:=by simp at cU;omega
  subst fW;rw[show(au.map (fM ci)).take au.length=au.map (fM ci)from OY (by simp)];apply aa.exit;simp;apply aa.ag aC fw [4];simp[Nd];apply aa.ret;simp[Nf]
def GX{n:aD}(hn:dX n)(hp:d9 n ci):Kn.hE n.ak (kR n ci):=by
 have h:=GC hn hp;have h2:=hn.ok;refine⟨h.1,h2.2.1,by simp only[kR,XN];have:=h2.2.2.1;omega,λe he=>⟨h.2.2.2 e he, ?_⟩⟩;simp only[kR,lq]at he;obtain⟨r,_,rfl⟩:=he;exact Gz r
def asD(n:aD)(ci:bU)(hl:ci.length<=1000000000):bu aj 45 [n.enc,.sl (aG ci)] (.sl (bH (eI n ci))):=by
 obtain⟨R,hR⟩:=be (eI n ci);rw[hR];unfold eI at hR;obtain⟨c1,b8⟩:=be (decide (dX n/\d9 n ci));have t70:=asB n ci hl;rw[b8]at t70;have adH:ay aj (bB [(70,dh (λts=>ts=[n.enc,.sl (aG ci)]) (λ_=>.bool c1) true)]):=by
  refine ay.cons ay.nil ?_;rintro ts rfl;exact⟨t70,λ_=>rfl⟩
 cases c1 with
 |false=>
  rw[aY (wS b8)]at hR;subst hR;obtain⟨nt,nn,ns,au⟩:=n;simp only[aD.enc]at adH;refine aju.ok (by simp) (aT ?_);simp[aD.enc];apply aa.ag adH fw [1,2];simp[Kk];refine aa.lk (o:=[]) (l:=[(1,.v (.sl (aG ci))),(2,.v (.box [ti nt,ti nn,ti ns,.sl (aW au)]))]) (aZ:=1200) (by simp) ?_;apply aa.sq adH fw [1,2,10];simp[Kl];refine aa.cond rfl (λg=>?_) (λg=>by simp at g);apply aa.ag adH fw [4];simp[Uv];apply aa.ret;simp[dj]
 |true=>
  have hv:=qW b8;rw[cF hv]at hR;have hg:=GX hv.1 hv.2;have t71:=Kn.asf hg;rw[hR]at t71;have t72:=asC n ci hv.1.ok hv.2;obtain⟨E,hE⟩:=be (Kn.Rl (Kn.Vw n.ak (kR n ci)) (kR n ci) n.ak.toNat (kR n ci).length);rw[hE]at t71;obtain⟨es,qK⟩:=be (kR n ci);rw[qK]at t71 t72;have aC:ay aj (bB [(71,dh (λts=>ts=[.agg [ti n.ak,.sl (bn es)]]) (λ_=>.eB [.sl (bH R),.sl (aG E)]) false),(72,dh (λts=>ts=[n.enc,.sl (aG ci)]) (λ_=>.agg [ti n.ak,.sl (bn es)]) false),(70,dh (λts=>ts=[n.enc,.sl (aG ci)]) (λ_=>.bool true) true)]):=by
   refine ay.cons (ay.cons adH ?_) ?_
   ·rintro ts rfl;exact⟨t72,λh=>by cases h⟩
   ·rintro ts rfl;exact⟨t71,λh=>by cases h⟩
  clear hR hE qK t71 t72 hg t70;obtain⟨nt,nn,ns,au⟩:=n;simp only[aD.enc]at aC;refine aju.ok (by simp) (aT ?_);simp[aD.enc];apply aa.ag aC fw [1,2];simp[Kk];refine aa.lk (o:=[]) (l:=[(1,.v (.sl (aG ci))),(2,.v (.box [ti nt,ti nn,ti ns,.sl (aW au)]))]) (aZ:=1200) (by simp) ?_;apply aa.sq aC fw [1,2,10];simp[Kl];refine aa.cond rfl (λg=>by simp at g) (λg=>?_);apply aa.skip;simp;apply aa.ag aC fw [5];simp[Uw];apply aa.ag aC fw [4];simp[Ux];apply aa.ret;simp[dj]
def YG{n:aD}(i:Nat)(hi:i<(eI n ci).length):((eI n ci).getD i default).aI<1099511627776\/((eI n ci).getD i default).size<=0:=by
 unfold eI at hi⊢;split
 ·rename_i hv;rw[cF hv]at hi;have hg:=GX hv.1 hv.2;have hs:=Kn.KY hg;have:=Kn.adw hg i (by have:=hs.len;omega);unfold bv at this;rw[iP]at this;unfold dg.lt at this;simp only at this;omega
 ·rename_i hv;rw[aY hv]at hi;simp at hi
def Aw(v:b7)(i:Nat):Prop:=¬((v.getD i default).aI<1099511627776/\(v.getD i default).size>1000)
instance(v:b7)(i:Nat):Decidable (Aw v i):=by unfold Aw;infer_instance
def K7(n:aD)(ci:bU):Prop:=(dX n/\(ci.length:Int)=n.aM)/\∀i,i<(eI n ci).length->Aw (eI n ci) i
instance(n:aD)(ci:bU):Decidable (K7 n ci):=by unfold K7;infer_instance
def Od{n:aD}(hp:d9 n ci):K7 n ci↔Hy n ci:=by
 unfold K7 Hy;constructor
 ·rintro⟨⟨h1,h2⟩,h3⟩;refine⟨⟨h1,hp⟩,λi hi=>?_⟩;have a:=YG i hi;have b:=h3 i hi;unfold Aw at b;unfold tZ;omega
 ·rintro⟨⟨h1,h2⟩,h3⟩;refine⟨⟨h1,hp.1⟩,λi hi=>?_⟩;have b:=h3 i hi;unfold tZ at b;unfold Aw;omega
def asE(n:aD)(ci:bU)(hl:ci.length<=1000000000):bu aj 28 [n.enc,.sl (aG ci)] (.bool (decide (K7 n ci))):=by
 obtain⟨R,hR⟩:=be (decide (K7 n ci));rw[hR];have dd:K7 n ci↔(dX n/\(ci.length:Int)=n.aM)/\∀i,i<(eI n ci).length->Aw (eI n ci) i:=Iff.rfl;have da:¬K7 n ci->R=false:=λh=>by rw[<-hR];simp[h]
 have t45:=asD n ci hl;have yR:(eI n ci).length<=1000000:=by
  unfold eI;split
  ·rename_i hv;have hs:=Kn.KY (GX hv.1 hv.2);have:=hs.len;have:=hv.1.ok.2.1;omega
  ·simp
 obtain⟨V,hV⟩:=be (eI n ci);rw[hV]at dd t45 yR;obtain⟨vb,hvb⟩:=be (decide (dX n));have t26:=adG n;rw[hvb]at t26;have aC:ay aj (bB [(45,dh (λts=>ts=[n.enc,.sl (aG ci)]) (λ_=>.sl (bH V)) false),(26,dh (λts=>ts=[n.enc]) (λ_=>.bool vb) true)]):=by
  refine ay.cons (ay.cons ay.nil ?_) ?_
  ·rintro ts rfl;exact⟨t26,λ_=>rfl⟩
  ·rintro ts rfl;exact⟨t45,λh=>by cases h⟩
 have anl:vb=true↔dX n:=by rw[<-hvb];simp
 clear hV t45 t26 hvb;obtain⟨N,hN⟩:=be (dX n);rw[hN]at dd anl;clear hN;obtain⟨nt,nn,ns,au⟩:=n;simp only[aD.enc]at aC dd;refine aqs.ok (by simp) (aT ?_);simp[aD.enc];apply aa.ag aC fw [1,2];simp[T5];refine aa.lk (o:=[]) (l:=[(1,.v (.sl (aG ci))),(2,.v (.box [ti nt,ti nn,ti ns,.sl (aW au)]))]) (aZ:=1200) (by simp) ?_;apply aa.seq;obtain⟨c1,b8⟩:=be (decide (vb=false\/(ci.length:Int)≠nt):Bool);refine aa.cH aC fw [(1,.v (.sl (aG ci))),(2,.v (.box [ti nt,ti nn,ti ns,.sl (aW au)])),(16,.v (.bool c1))] ?_ ?_
 ·cases vb with
  |true=>
   by_cases q2:(ci.length:Int)=nt
   ·have:c1=false:=by rw[<-b8];simp[q2]
    simp[DI,q2,this]
   ·have:c1=true:=by rw[<-b8];simp[q2]
    simp[DI,q2,this]
  |false=>
   have:c1=true:=by rw[<-b8];simp
   simp[DI,this]
 refine aa.cond rfl (λg=>?_) (λg=>?_)
 ·rw[g]at b8;have b8:=qW b8;apply aa.ag aC fw [4];simp[T6];apply aa.ret;rw[da (λh=>b8.elim (λq=>by have:=anl.2 (dd.1 h).1.1;rw[q]at this;cases this) (λq=>q (dd.1 h).1.2))];simp[dj]
 rw[g]at b8;have b8:=wS b8;have Ch:N:=anl.1 (by cases vb<;>simp_all)
 have nU:(ci.length:Int)=nt:=by
  by_cases e:(ci.length:Int)=nt
  ·exact e
  ·exact eA (.inr e) b8
 apply aa.skip;simp;apply aa.sq aC fw [19,20,21];simp[T7];apply aa.block;refine aa.loop (λy:Nat=>⟨DM.look [(19,.v (.sl (bH V))),(20,.v (ti V.length)),(21,.v (ti y))],cJ [],2000,1000,[]⟩)
  (λy=>y<=V.length/\∀i,i<y->Aw V i) (λy=>V.length-y) 0 (Le.bF (o:=[]) ?_ ?_ ?_ ?_) (by simp) (λy hy=>?_)
 iterate 3(·simp)
 ·simp[bH]
 obtain⟨mf,fW⟩:=hy;apply aa.ag aC fw [19,20,21,22];simp[T8];apply aa.seq;refine aa.cond rfl (λcU=>?_) (λcU=>?_)
 ·have cU:y<V.length:=by simpa using cU
  have r1:=dq cU;have asF:(bH V).length=V.length:=by simp[bH]
  obtain⟨⟨uc,us⟩,hu⟩:=be (V.getD y default);rw[hu]at r1;have kr:Aw V y↔¬(uc<1099511627776/\us>1000):=by unfold Aw;rw[hu]
  apply aa.skip;simp;apply aa.seq;apply aa.block;apply aa.ag aC fw [6,19,20,21];simp[T9,r1,cU,asF];refine aa.lk (o:=[]) (l:=[(6,.v (.box [ti uc,ti us])),(19,.v (.sl (bH V))),(20,.v (ti V.length)),(21,.v (ti y))]) (aZ:=3000) (by simp) ?_;obtain⟨b2,gm⟩:=be (decide (uc<1099511627776/\us>1000):Bool);refine aa.cH aC fw [(19,.v (.sl (bH V))),(20,.v (ti V.length)),(21,.v (ti y)),(32,.v (.bool b2))] ?_ ?_
  ·by_cases q1:uc<1099511627776
   ·by_cases q2:1000<us
    ·have fJ:b2=true:=by rw[<-gm];simp[q1,q2]
     simp[DJ,q1,q2,fJ]
    ·have fJ:b2=false:=by rw[<-gm];simp[q2]
     simp[DJ,q1,q2,fJ]
   ·have fJ:b2=false:=by rw[<-gm];simp[q1]
    simp[DJ,q1,fJ]
  refine aa.cond rfl (λh=>?_) (λh=>?_)
  ·rw[h]at gm;have gm:=qW gm;apply aa.ag aC fw [4];simp[Ua];apply aa.ret;rw[da λe=>kr.1 ((dd.1 e).2 y cU) gm];simp[dj]
  ·rw[h]at gm;have gm:=wS gm;apply aa.skip;simp;apply aa.fA aC fw [19,20,21];simp[Ub];rw[aF (by omega)];refine⟨y+1,Le.bF (o:=[]) ?_ ?_ ?_ ?_,⟨by omega,λi hi=>?_⟩,by omega⟩;iterate 4(·simp)
   ·by_cases e:i=y
    ·subst e;exact kr.2 gm
    ·exact fW i (by omega)
 ·have GB:y=V.length:=by
   have:¬y<V.length:=by simpa using cU
   omega
  subst GB;apply aa.exit;simp;apply aa.ag aC fw [4];simp[Uc];apply aa.ret;have:R=true:=by
   rw[<-hR];exact decide_eq_true (dd.2 ⟨⟨Ch,nU⟩,fW⟩)
  simp[dj,this]
end
end Jb
open Go.DM
section
variable{rest:List (Nat×Nat)}{aM:Int}
def rJ(S a:Nat):List (Nat×Nat):=(List.range (S-a)).map λb=>(b,b+a)
def Rr(S:Nat):List (Nat×Nat):=(List.range S).flatMap (rJ S)
def yF{n y:Nat}(h:y<n):(List.range n).drop y=y::(List.range n).drop (y+1):=by
 rw[ZbR (by simpa using h)];simp
def iD(n:aD)(l:aU)(L:List (Nat×Nat)):fl:=L.foldl (λB p=>uH B (nk n l ⟨n.ak,l.ba,B⟩ p.1 p.2) (eG n.ak l.ba p.1 p.2).toNat n.ak.toNat) (List.replicate (mM n.ak l.ba).toNat ⟨0,0,0,0⟩)
def Oe(n:aD)(l:aU)(L:List (Nat×Nat))(p:Nat×Nat):iD n l (L++[p])=uH (iD n l L) (nk n l ⟨n.ak,l.ba,iD n l L⟩ p.1 p.2) (eG n.ak l.ba p.1 p.2).toNat n.ak.toNat:=by
 unfold iD;rw[Dg];rfl
def IH(B own:fl)(a:Nat)(h:a+own.length<=B.length):∀y,y<=own.length->uH B own a y=B.take a++(own.take y++B.drop (a+y))
 |0,_=>by simp[uH]
 |y+1,hy=>by
  rw[wC,IH B own a h y (by omega),c8 (by omega),ZbS _ _ (by rw[ld];omega),ld,ZbS _ _ (by rw[ld];omega),ld,
   ZbR (i:=a+y) (by omega),show a+y-min a B.length-min y own.length=0 by omega]
  simp[ed]
def afM(S:Nat):(Rr S).length<=S*S:=by
 have:=Ax (f:=rJ S) (c:=S) (List.range S) (λa _=>by simp[rJ])
 rwa [Zcj]at this
def GY{α β:Type}(g:α->List β):∀(l:List α) (pre:List β) (x:β) (rest:List β),l.flatMap g=pre++x::rest->∃l1 a l2 p q,l=l1++a::l2/\g a=p++x::q/\pre=l1.flatMap g++p
 |[],pre,x,rest,h=>by simp at h
 |b::l,pre,x,rest,h=>by
  rw[Zy]at h;have next:∀a',l.flatMap g=a'++x::rest->pre=g b++a'->∃l1 a l2 p q,b::l=l1++a::l2/\g a=p++x::q/\pre=l1.flatMap g++p:=by
   intro a' h2 h3;obtain⟨l1,a,l2,p,q,e1,e2,e3⟩:=GY g l a' x rest h2;exact⟨b::l1,a,l2,p,q,by rw[e1];rfl,e2,by rw[h3,e3,Zy,ZbY]⟩
  rcases List.append_eq_append_iff.1 h with⟨a',h1,h2⟩|⟨c',h1,h2⟩
  ·exact next a' h2 h1
  ·cases c' with
   |nil=>exact next [] (by simpa using h2.symm) (by simpa using h1.symm)
   |cons y c'=>
    simp only[C5,LS]at h2;obtain⟨rfl,h2⟩:=h2;exact⟨[],b,l,pre,c',rfl,h1,rfl⟩
def range_split{n:Nat}{l1 l2:cQ}{a:Nat}(h:List.range n=l1++a::l2):l1=List.range a/\a<n:=by
 have hl:=congrArg List.length h;simp only[Zcj,Eu,w9]at hl;have h1:(List.range n)[l1.length]? =some a:=by rw[h];simp
 rw[List.getElem?_range (by omega)]at h1;have ea:l1.length=a:=by simpa using h1
 have h2:(List.range n).take l1.length=l1:=by rw[h];simp
 rw[List.take_range,ea,Zdw (by omega)]at h2;exact⟨h2.symm,by omega⟩
def YH{S:Nat}{pre:List (Nat×Nat)}{p:Nat×Nat}(h:Rr S=pre++p::rest):
  ∃len f,p=(f,f+len)/\f+len<S/\pre=(List.range len).flatMap (rJ S)++(List.range f).map λb=>(b,b+len):=by
 obtain⟨l1,a,l2,q,r,e1,e2,e3⟩:=GY (rJ S) _ _ _ _ h;obtain⟨rfl,ha⟩:=range_split e1;unfold rJ at e2;obtain⟨l1',l2',e4,e5,e6⟩:=List.map_eq_append_iff.1 e2;obtain⟨b,l3,rfl,rfl,e7⟩:=List.map_eq_cons_iff.1 e6;obtain⟨rfl,hb⟩:=range_split e4;exact⟨a,b,rfl,by omega,by rw[e3,<-e5]⟩
def II{n:aD}{l:aU}{S:Nat}(a:Nat)(B:fl)(k:Nat):((List.range k).map λb=>(b,b+a)).foldl (λB (p:Nat×Nat)=>uH B (nk n l ⟨n.ak,l.ba,B⟩ p.1 p.2) (eG n.ak l.ba p.1 p.2).toNat n.ak.toNat) B=(List.range k).foldl (Gr n l a) B:=by
 rw[ZcU]
 congr 1
def IJ{n:aD}{l:aU}{S:Nat}(hS:l.ba=S)(len f:Nat):iD n l ((List.range len).flatMap (rJ S)++(List.range f).map λb=>(b,b+len))=
  (List.range f).foldl (Gr n l len) ((List.range len).foldl (acs n l) (List.replicate (mM n.ak l.ba).toNat ⟨0,0,0,0⟩)):=by
 unfold iD;rw[Dg,II (S:=S),List.foldl_flatMap]
 congr 2
 funext B a;unfold rJ acs;rw[II (S:=S),hS,iP]
def GZ{n:aD}{l:aU}{S:Nat}(hS:l.ba=S):iD n l (Rr S)=gE n l:=by
 have:=IJ (n:=n) hS S 0;simp only[Zdx,SK,wa,Zcp]at this;rw[show Rr S=(List.range S).flatMap (rJ S)from rfl,this];unfold gE;rw[hS,iP]
def anm{n:aD}{l:aU}{S:Nat}(hn:AL n)(hl:Gj l)(hS:l.ba=S)(ha:∀a∈l.bJ,a.f<=a.t)(hs:Lz l){pre:List (Nat×Nat)}{p:Nat×Nat}(h:Rr S=pre++p::rest):
  p.1<=p.2/\p.2<S/\VX ⟨n,l,⟨n.ak,l.ba,iD n l pre⟩,p.1,p.2⟩/\kz n l (iD n l pre):=by
 obtain⟨len,f,rfl,ef,rfl⟩:=YH h;rw[IJ hS];have h3:=hl.1;have h4:=hl.2.1;have hr:=Gl hn hl len (by omega);have hc:=DT hn hl hr f (len:=len) (by omega);have hd:=Gt hn hl ha hr (X5 hn hl ha len (by omega)) f (by omega);refine⟨by simp only;omega,ef,⟨⟨hn,hl,hc.ok hn hl,ha, ?_, ?_, ?_⟩,⟨hn,hl,hc.ok hn hl, ?_⟩,⟨hn.1,hn.2.1,h3,h4,hc.1⟩,hs⟩,hc⟩
 ·simp only[iP];omega
 ·simp only[iP];omega
 ·simp only[iP];exact λh s' t' a1 a2 a3 a4 a5 a6=>hd h s' t' a1 a2 a4 (by omega) (by omega)
 ·simp only;omega
def before_trans{a b c:cE}(h1:cR a b)(h2:cR b c):cR a c:=by
 unfold cR at*
 omega
def K8{l:aU}(h:Fp l aM):∀i j:Nat,i<j->j<l.bJ.length->cR (l.bJ.getD i default) (l.bJ.getD j default):=by
 intro i j hij;induction j with
 |zero=>omega
 |succ j ih=>
  intro hj;have h1:=(h.2.2 (j+1) hj).2.resolve_left (by omega);rw[show j+1-1=j by omega]at h1;by_cases e:i=j
  ·rw[e];exact h1
  ·exact before_trans (ih (by omega) (by omega)) h1
def YI{l:aU}(h:Fp l aM):Lz l:=by
 intro i j hij hj;by_cases e:i=j
 ·subst e;right;exact⟨rfl,ZcK _⟩
 ·have:=K8 h i j (by omega) hj;unfold cR at this;omega
end
namespace Jb
def Of:ai:=[
 n 0 24,
 c 24 25 [0],
 a 7 25 26 [1],
 a 2 26 27 [2],
 l 27 28 [3],
 n 6 29,
 n 0 30,
 c 30 31 [6],
 a 0 31 32 [7],
 a 1 32 33 [8],
 l 33 34 [9],
 b .mul 29 34 35 [5,10],
 o (.slice 4 (t 28) (some (t 35)) none) 36 [4,11],
 n 0 37,
 c 37 38 [13],
 a 0 38 39 [14],
 L 4 39 40 [15],
 n 0 41,
 c 41 42 [17],
 a 4 42 43 [18],
 L 3 43 44 [19],
 n 0 45,
 c 45 46 [21],
 a 7 46 47 [22],
 L 3 47 48 [23],
 n 1 49,
 n 2 50,
 o (.callF 52 [(t 40),(t 44),(t 48),(t 49),(t 50)]) 51 [16,20,24,25,26],
 o (.copy 4 (t 36) (t 51)) 52 [12,27,27]]
def Rs{ob g:bw}{N aK aZ:Nat}{tm:dn}{l:eO}(L:c7)(aV:df g N)(e:ob=aO L g)(hn:N<=aZ)(hL:∀p∈L,N<=p.1)(iW:fK (aO L g) (aO [] g) id tm l):
  Le ⟨tm,ob,aK,N,[]⟩ ⟨DM.look l,g,aZ,N,[]⟩:=by
 subst e;exact ml aV hn hL iW
def YJ{n:aD}{l:aU}{c:dW}{fr to:Nat}(hn:AL n)(hl:Gj l)(hc:Pa c)(wR:fr<=to)(iW:to<=1000):oX n (nk n l c fr to):=(zX hn hl hc wR iW (λ_=>True) trivial (λ_ _ _ _ _=>trivial)).1
def asG{f0:bw}{p r N:Nat}{n:aD}{l:aU}{B:fl}{f t:Nat}{x1 x2 x3 x4:DV}(hN:∀q,N<=q->f0 q=none)
  (hp:f0 p=some (.box [.v (ti n.aM),.v (ti n.ak),.v (ti n.start),.v (.sl (aW n.au)),.v (ti l.ba),.v (.sl (kL l.bJ)),.v (.sl (aG l.vF)),.v (ti n.ak),.v (ti l.ba),.bC r 0,x1,x2,x3,x4]))
  (hr:f0 r=some (.bE 0 65 4 (bR B))) (hn:AL n) (hl:Gj l) (wR:f<=t) (htS:(t:Int)<l.ba) (H:VX ⟨n,l,⟨n.ak,l.ba,B⟩,f,t⟩):
  aQ aj 31 [.ptr p 0,.v (ti f),.v (ti t)] f0 ⟨True,.v (.eB []),aO [(r,.bE 0 65 4 (bR (uH B (nk n l ⟨n.ak,l.ba,B⟩ f t) (eG n.ak l.ba f t).toNat n.ak.toNat)))] f0⟩:=by
 have afN:=t35 H;have aV:Pa ⟨n.ak,l.ba,B⟩:=H.C.hc;have dN:=H.cf.2.2.2.2;have Yk:=hn.1;have Vu:=hn.2.1;have Ci:=hl.2.1;simp only at afN dN;have hso:=YJ hn hl aV wR (by omega);obtain⟨own,iN⟩:=be (nk n l ⟨n.ak,l.ba,B⟩ f t);rw[iN]at hso afN⊢;have hol:(own.length:Int)=n.ak:=hso.1;clear H aV hso;obtain⟨nt,on,ns,au⟩:=n;obtain⟨S,bJ,cj⟩:=l;simp only at hp Yk Vu Ci dN hol htS afN⊢;have hib:=tX (n:=on) (st:=S) (f:=f) (t:=t) (by omega) Vu Ci (by omega) (by omega) wR;have hix:=λ(i:Int) (hi:i<on)=>Gs (nn:=on) (st:=S) (f:=f) (t:=t) (by omega) (by omega) wR hi;have asH:=gM (a:=(f:Int)) (A:=1000) (b:=S) (B:=1000) (by omega) (by omega) (by omega) Ci;have asI:=G0 (S:Int) f;have hpb:=kD Ci f (by omega);have hff:(f:Int)*((f:Int)-1)=(f:Int)*f-f:=by grind
 have gm:=gM (a:=(f:Int)) (A:=1000) (b:=(f:Int)) (B:=1000) (by omega) (by omega) (by omega) (by omega);have ann:0<=(f:Int)*((f:Int)-1)/\(f:Int)*((f:Int)-1)<=1000000:=by
  refine⟨?_,by omega⟩;cases f with
  |zero=>simp
  |succ f=>exact ZcG (by omega) (by omega)
 have hq:((f:Int)*((f:Int)-1)).tdiv 2=(f:Int)*((f:Int)-1)/2:=E0 ann.1;obtain⟨Q,hQ⟩:=be (pre (S:Int) f);rw[hQ]at asI hpb;have b9:=gM (a:=Q+t-f) (A:=2000000) (b:=on) (B:=1000) (by omega) (by omega) (by omega) Vu;obtain⟨Bx,dK⟩:=be (eG on S f t);have m1:IntKind.i64.wrap ((f:Int)*S)=(f:Int)*S:=aF (by omega);have m2:IntKind.i64.wrap ((f:Int)-1)=(f:Int)-1:=aF (by omega);have m3:IntKind.i64.wrap ((f:Int)*((f:Int)-1))=(f:Int)*((f:Int)-1):=aF (by omega);have m4:IntKind.i64.wrap (((f:Int)*((f:Int)-1)).tdiv 2)=((f:Int)*((f:Int)-1)).tdiv 2:=by rw[hq];exact aF (by omega)
 have m5:IntKind.i64.wrap ((f:Int)*S-((f:Int)*((f:Int)-1)).tdiv 2)=Q:=by rw[asI];exact aF (by omega)
 have m6:IntKind.i64.wrap (Q+t)=Q+t:=aF (by omega);have m7:IntKind.i64.wrap (Q+t-f)=Q+t-f:=aF (by omega);have m8:IntKind.i64.wrap ((Q+t-f)*on)=Bx:=by rw[<-dK];unfold eG;rw[hQ];exact aF (by omega)
 rw[dK]at hib hix⊢;obtain⟨Bx,rfl⟩:=kK hib.1;have avz:=hix (on-1) (by omega);have Er:Bx+own.length<=B.length:=by omega
 have pV:=IH B own Bx Er own.length (fq _);rw[ZbX]at pV;have hon:on.toNat=own.length:=by omega
 rw[iP,hon,pV];have aC:ay aj (bB [(52,E3 (λts=>ts=[(⟨nt,on,ns,au⟩:aD).enc,(⟨S,bJ,cj⟩:aU).enc,(⟨on,S,B⟩:dW).enc,ti f,ti t]) (λ_=>bR own) 65 4)]):=by
  refine ay.agx ay.nil ?_;rintro ts rfl;exact⟨afN,KA _⟩
 simp only[aD.enc,aU.enc,dW.enc]at aC;refine arv.qE hN (by simp) λaV=>?_;have nu:p<N:=(aV p _ hp).1;have hrN:r<N:=(aV r _ hr).1;have np:∀k,p≠N+k:=λk=>by omega
 have nr:∀k,r≠N+k:=λk=>by omega
 simp;apply aa.ag aC fw [0,1,2,6];simp[Wo,hp,m1,m2,m3,m4,m5,m6,m7];obtain⟨g,hg⟩:=be (aO [(r,.bE 0 65 4 (bR (B.take Bx++(own++B.drop (Bx+own.length)))))] f0);have auT:df g N:=by
  rw[<-hg];exact km aV (fq _) (by simp[bb];omega)
 have nI:List.take Bx (bR B)++(List.take (B.length-Bx) (bR own)++List.drop (Bx+min (B.length-Bx) own.length) (bR B))=bR (B.take Bx++(own++B.drop (Bx+own.length))):=by
  have h1:(bR own).length=own.length:=by simp[bR]
  rw[show min (B.length-Bx) own.length=own.length by omega,OY (l:=bR own) (by omega)];simp[bR]
 refine aa.to ⟨DM.look [],g,N+1000,N,[]⟩ ?_ ?_
 ·refine aa.qa aC fw (rs:=Of) (.inr ⟨_,rfl⟩) (by kernel_rfl) [] ?_;simp[Of,hp,hr,nr,m8,ed];refine⟨by omega,λq hq=>?_, ?_⟩
  ·obtain⟨c,_,rfl⟩:=lq.1 hq;rfl
  rw[nI];refine Rs (N:=N) (l:=[]) [(N+106,.bE 0 65 4 (bR own))] auT ?_ (by omega) (by simp) trivial;rw[<-hg];funext q;simp only[aH,bL];by_cases h1:q=r
  ·subst h1;rw[cF rfl,aY (by omega),cF rfl]
  ·rw[aY h1,aY h1]
 ·simp[Nk,A9,kQ,oA,hg,p7]
section
variable{f:bw}{r:Nat}
def vW(S len f:Nat):List (Nat×Nat):=((List.range (S-len)).drop f).map (λb=>(b,b+len))++((List.range S).drop (len+1)).flatMap (rJ S)
def Ry{S:Nat}(h:1<=S):vW S 0 0=Rr S:=by
 have h1:=yF (n:=S) (y:=0) (by omega);rw[ZcD]at h1;unfold vW Rr
 conv=>rhs;rw[h1]
 rw[Zy];simp[rJ]
def YR(S:Nat):vW S S 0=[]:=by
 unfold vW;have h:(List.range S).drop (S+1)=[]:=ZbE (by simp);rw[h];simp
def yG{S len f:Nat}(h:f+len<S):vW S len f=(f,f+len)::vW S (if f+1+len>=S then len+1 else len) (if f+1+len>=S then 0 else f+1):=by
 have h1:=yF (n:=S-len) (y:=f) (by omega);split
 ·rename_i g;have h2:(List.range (S-len)).drop (f+1)=[]:=ZbE (by simp;omega);rw[h2]at h1;unfold vW;rw[h1];simp only[qD,SK,C5,yP,ZcD,LS,qI];by_cases e:len+1<S
  ·rw[yF e,Zy];rfl
  ·have e2:(List.range S).drop (len+1)=[]:=ZbE (by simp;omega);have e3:(List.range S).drop (len+1+1)=[]:=ZbE (by simp;omega);rw[e2,e3,show S-(len+1)=0 by omega];simp
 ·rename_i g;unfold vW;rw[h1];simp
def Om(S:Nat):∀k,k<=S->2*((List.range k).flatMap (rJ S)).length+k*k=k*(2*S+1)
 |0,_=>by simp
 |k+1,hk=>by
  have ih:=Om S k (by omega);rw[Hu,ZcM,Eu];simp only[Zy,List.flatMap_nil,wa,rJ,XN,Zcj]at ih⊢;obtain⟨d,rfl⟩:∃d,S=k+1+d:=⟨S-(k+1),by omega⟩;rw[show k+1+d-k=d+1 by omega];generalize ((List.range k).flatMap λa=>(List.range (k+1+d-a)).map λb=>(b,b+a)).length=X at ih⊢
  grind
def WO(S:Nat):2*(Rr S).length=S*(S+1):=by
 have:=Om S S (fq _);unfold Rr;generalize ((List.range S).flatMap (rJ S)).length=X at this⊢
 grind
structure JS where
 pre:List (Nat×Nat)
 len:Nat
 f:Nat
 CW:Bool
def JS.left(S:Nat)(j:JS):Nat:=(vW S j.len j.f).length
structure JS.ok(S:Nat)(j:JS):Prop where
 spl:Rr S=j.pre++vW S j.len j.f
 xx:j.f+j.len<S\/(j.len=S/\j.f=0)
def JS.ok.lt{S:Nat}{j:JS}(h:j.ok S)(hl:0<j.left S):j.f+j.len<S:=by
 rcases h.xx with h1|⟨h1,h2⟩
 ·exact h1
 ·unfold JS.left at hl;rw[h1,h2,YR]at hl;simp at hl
def JS.fu(S:Nat)(j:JS):JS:=⟨j.pre,if j.f+1+j.len>=S then j.len+1 else j.len,if j.f+1+j.len>=S then 0 else j.f+1,j.CW⟩
def JS.next(S:Nat)(j:JS):JS:=⟨j.pre++[(j.f,j.f+j.len)],(j.fu S).len,(j.fu S).f,j.CW⟩
def JS.ok.On{S:Nat}{j:JS}(h:j.ok S)(hl:0<j.left S):(j.fu S).left S+1=j.left S:=by
 have h1:=yG (h.lt hl);unfold JS.left JS.fu;simp only;rw[h1];simp
def JS.ok.YS{S:Nat}{j:JS}(h:j.ok S)(hl:0<j.left S):(j.next S).left S+1=j.left S:=h.On hl
def JS.ok.next{S:Nat}{j:JS}(h:j.ok S)(hl:0<j.left S):(j.next S).ok S:=by
 have ef:=h.lt hl;have h1:=yG ef;refine⟨?_, ?_⟩
 ·rw[h.spl,h1];unfold JS.next JS.fu;simp
 ·unfold JS.next JS.fu;simp only;split<;>omega
def JS.ok.WK{S:Nat}{j:JS}(h:j.ok S):j.pre.length+j.left S=(Rr S).length:=by
 rw[h.spl,Eu];rfl
def J0:JS:=⟨[],0,0,false⟩
def IL{S:Nat}(h:1<=S):J0.ok S:=⟨by rw[show J0.len=0 from rfl,show J0.f=0 from rfl,Ry h];rfl,.inl (by simp[J0];omega)⟩
def JS.cm(S:Nat)(j:JS):Nat->JS
 |0=>j
 |i+1=>(j.cm S i).next S
def JS.ok.cm{S:Nat}{j:JS}(h:j.ok S):∀i,i<=j.left S->(j.cm S i).ok S/\(j.cm S i).left S+i=j.left S/\(j.cm S i).CW=j.CW
 |0,_=>⟨h,rfl,rfl⟩
 |i+1,hi=>by
  obtain⟨h1,h2,h3⟩:=h.cm i (by omega);have:=h1.YS (by omega);exact⟨h1.next (by omega),by simp only[JS.cm];omega,h3⟩
def JS.ok.done{S:Nat}{j:JS}(h:j.ok S)(hl:j.left S=0):j.pre=Rr S:=by
 rw[h.spl,show vW S j.len j.f=[]from LQ hl,wa]
def mo(n:aD)(l:aU)(S:Nat)(c9:DV)(j:JS):bG:=[.v (ti n.aM),.v (ti n.ak),.v (ti n.start),.v (.sl (aW n.au)),.v (ti l.ba),.v (.sl (kL l.bJ)),.v (.sl (aG l.vF)),.v (ti n.ak),.v (ti l.ba),c9,.v (ti j.len),.v (ti j.f),.v (ti (j.left S)),.v (.bool j.CW)]
def qx(n:aD)(l:aU)(L:List (Nat×Nat)):Ob:=.bE 0 65 4 (bR (iD n l L))
structure Ru(n:aD)(l:aU)(S:Nat)(j:JS)(f:bw)(p r:Nat):Prop where
 box:f p=some (.box (mo n l S (.bC r 0) j))
 bE:f r=some (qx n l j.pre)
def fX(f:bw)(p r:Nat)(n:aD)(l:aU)(S:Nat)(j:JS):bw:=aO [(p,.box (mo n l S (.bC r 0) j)),(r,qx n l j.pre)] f
def Ru.ne{n:aD}{l:aU}{S:Nat}{j:JS}{p:Nat}(h:Ru n l S j f p r):p≠r:=by
 rintro rfl;have:=h.box.symm.trans h.bE;simp[qx]at this
def Ay{n:aD}{l:aU}{S:Nat}{j:JS}{p:Nat}(h:p≠r)(j':JS):Ru n l S j' (fX f p r n l S j') p r:=
 ⟨by simp[fX],by
  have:r≠p:=λe=>h e.symm;simp[fX,this]⟩
def BX{n:aD}{l:aU}{S:Nat}{j:JS}{p:Nat}(h:Ru n l S j f p r):fX f p r n l S j=f:=by
 funext q;simp only[fX,aH,bL];split
 ·rename_i e;rw[e];exact h.box.symm
 ·split
  ·rename_i e;rw[e];exact h.bE.symm
  ·rfl
structure YL(n:aD)(l:aU)(S:Nat):Prop where
 hn:AL n
 hl:Gj l
 hS:l.ba=S
 sY:1<=S
 O7:S<=1000
 ha:∀a∈l.bJ,a.f<=a.t
 hs:Lz l
def YL.len{n:aD}{l:aU}{S:Nat}(h:YL n l S):(Rr S).length<=1000000:=by
 have:=afM S;have h4:S*S<=1000*1000:=ZcV h.O7 h.O7;omega
def YL.run{n:aD}{l:aU}{S:Nat}(h:YL n l S){j:JS}(hj:j.ok S)(hl:0<j.left S):
  VX ⟨n,l,⟨n.ak,l.ba,iD n l j.pre⟩,j.f,(j.f+j.len:Nat)⟩/\iD n l (j.next S).pre=uH (iD n l j.pre) (nk n l ⟨n.ak,l.ba,iD n l j.pre⟩ j.f (j.f+j.len:Nat)) (eG n.ak l.ba j.f (j.f+j.len)).toNat n.ak.toNat:=by
 have h1:=yG (hj.lt hl);have h2:=hj.spl;rw[h1]at h2;obtain⟨_,_,h3,_⟩:=anm h.hn h.hl h.hS h.ha h.hs h2;exact⟨h3,Oe n l j.pre (j.f,j.f+j.len)⟩
end
def HA:Option Ob->Nat
 |some (.box [.v (.int _ x)])=>x.toNat
 |_=>0
structure SC where
 n:aD
 l:aU
 S:Nat
 j0:JS
 p:Nat
 r:Nat
 d5:Nat
 bS:Nat
 k:Int
 f:bw
def SC.J(c:SC)(i:Nat):JS:=c.j0.cm c.S i
def SC.Dk(c:SC)(i:Nat):bw:=aO [(c.d5,.box [.v (ti i)]),(c.p,.box (mo c.n c.l c.S (.bC c.r 0) (c.J i))),(c.r,qx c.n c.l (c.J i).pre)] c.f
def SC.HB(c:SC)(i:Nat):bw:=aO [(c.d5,.box [.v (ti i)]),(c.p,.box (mo c.n c.l c.S (.bC c.r 0) ((c.J i).fu c.S))),(c.r,qx c.n c.l (c.J i).pre)] c.f
def SC.M(c:SC):Nat:=min c.k.toNat (c.j0.left c.S)
def SC.kf(c:SC):bG->bw->fV:=λargs ab=>
 ⟨HA (ab c.d5)<c.M/\args=[.v (ti (c.J (HA (ab c.d5))).f),.v (ti ((c.J (HA (ab c.d5))).f+(c.J (HA (ab c.d5))).len:Nat))]/\ab=c.HB (HA (ab c.d5)),
  .v (.bool (decide ((HA (ab c.d5)+1:Nat)≠c.k))),c.Dk (HA (ab c.d5)+1)⟩
structure SC.ok(c:SC):Prop where
 jin:YL c.n c.l c.S
 jok:c.j0.ok c.S
 k1:1<=c.k
 pr:c.p≠c.r
 dp:c.d5≠c.p
 dr:c.d5≠c.r
 bp:c.bS≠c.p
 br:c.bS≠c.r
 bd:c.bS≠c.d5
 fb:c.f c.bS=some (.box [.ptr c.p 0])
def SC.auU(c:SC)(i:Nat):HA (c.HB i c.d5)=i:=by simp[SC.HB,HA]
def SC.alh(c:SC)(i:Nat)(hi:i<c.M):c.kf [.v (ti (c.J i).f),.v (ti ((c.J i).f+(c.J i).len:Nat))] (c.HB i)=⟨True,.v (.bool (decide ((i+1:Nat)≠c.k))),c.Dk (i+1)⟩:=by
 unfold SC.kf;simp only[c.auU,hi,and_self]
def WP{f:bw}{a b d x:Nat}{A B D:Ob}(A' B' D':Ob)(h:aO [(a,A),(b,B),(d,D)] f x=none):aO [(a,A'),(b,B'),(d,D')] f x=none:=by
 simp only[aH,bL]at h⊢;split at h
 ·cases h
 ·rw[aY (by assumption)];split at h
  ·cases h
  ·rw[aY (by assumption)];split at h
   ·cases h
   ·rw[aY (by assumption)];exact h
def SC.Oo(c:SC):P8 c.kf:=by
 intro args ab h x hx;obtain⟨h1,h2,h3⟩:=h;rw[h3]at hx;exact WP _ _ _ hx
def SC.adJ{c:SC}{N:Nat}(h:∀q,N<=q->c.Dk 0 q=none)(i:Nat):∀q,N<=q->c.Dk i q=none:=λq hq=>WP _ _ _ (h q hq)
def asS(c:SC)(H:c.ok){N:Nat}(hN:∀q,N<=q->c.Dk 0 q=none):P9 aj 51 [.ptr c.bS 0] (c.Dk 0) c.kf (c.Dk c.M):=by
 have mE:=λi=>SC.adJ hN i;have O7:=H.jin.O7;have zD:=H.jok.WK;have auV:=H.jin.len;have hit:=λi (hi:i<=c.j0.left c.S)=>H.jok.cm i hi;have pq:=H.k1;have hlS:=H.jin.hS;have Lt:=H.pr;have hdp:=H.dp;have LR:=H.dr;have hbp:=H.bp;have Rw:=H.br;have Mc:=H.bd;have NP:=H.fb;have hrp:c.r≠c.p:=λe=>Lt e.symm;have hpd:c.p≠c.d5:=λe=>hdp e.symm;have Z2:c.r≠c.d5:=λe=>LR e.symm;have hpb:c.p≠c.bS:=λe=>hbp e.symm;refine arx.okY c.Oo hN (by simp) λy=>?_
 letI:dM:=yk y c.kf c.Oo
 refine aa.le (Le.same (l:=[(0,.v (.pO (.func (.yield y) #[] #[]))),(1,.ptr c.bS 0)]) (aZ:=N) (mE 0) ⟨rfl,rfl,trivial⟩) ?_;apply aa.block;refine aa.loop (λi:Nat=>⟨DM.look [(0,.v (.pO (.func (.yield y) #[] #[]))),(1,.ptr c.bS 0)],c.Dk i,N,N,[[]]⟩)
  (λi=>i<=c.M/\(i:Int)<c.k) (λi=>c.M-i) 0 (Le.refl _) ⟨by omega,by omega⟩ (λi hi=>?_)
 obtain⟨hi1,Zf⟩:=hi;have hM:c.M=min c.k.toNat (c.j0.left c.S):=rfl;obtain⟨hj,HZ,hjc⟩:=hit i (by omega);rw[show c.j0.cm c.S i=c.J i from rfl]at hj HZ hjc;have eb:∀i,c.Dk i c.bS=some (.box [.ptr c.p 0]):=λi=>by simp[SC.Dk,hbp,Rw,Mc,NP]
 have ep:∀i,c.Dk i c.p=some (.box (mo c.n c.l c.S (.bC c.r 0) (c.J i))):=λi=>by simp[SC.Dk,hpd]
 have nu:c.p<N:=ZbW λh=>by have h2:=hN _ h;rw[ep]at h2;cases h2
 have Wz:c.bS<N:=ZbW λh=>by have h2:=hN _ h;rw[eb]at h2;cases h2
 simp only[mo]at ep;have Zg:dM.k=some (y,c.kf):=rfl;apply aa.seq;apply aa.seq;apply aa.fA cL fw [0,1,9];simp[Wp,eb,ep];refine aa.cond rfl (λg=>?_) (λg=>?_)
 ·have g:0<(c.J i).left c.S:=by simpa using g
  have ef:=hj.lt g;have Zx:=hj.On g;obtain⟨J,hJ⟩:=be (c.J i);have hJ1:c.J (i+1)=J.next c.S:=by rw[<-hJ];rfl
  have hiM:i<c.M:=by omega
  have hkf:=c.alh i hiM;have hoY:c.HB i=aO [(c.d5,.box [.v (ti i)]),(c.p,.box (mo c.n c.l c.S (.bC c.r 0) (J.fu c.S))),(c.r,qx c.n c.l J.pre)] c.f:=by unfold SC.HB;rw[hJ]
  have hoH:c.Dk i=aO [(c.d5,.box [.v (ti i)]),(c.p,.box (mo c.n c.l c.S (.bC c.r 0) J)),(c.r,qx c.n c.l J.pre)] c.f:=by unfold SC.Dk;rw[hJ]
  rw[hJ]at g ef Zx hj HZ hkf;rw[hoH];simp only[mo,JS.fu]at hoY Zx;have eb':∀A B C,aO [(c.d5,A),(c.p,B),(c.r,C)] c.f c.bS=some (.box [.ptr c.p 0]):=λA B C=>by simp[hbp,Rw,Mc,NP]
  simp only[mo];obtain⟨S,hS⟩:=be c.S;rw[hS]at ef Zx hj HZ g O7 hlS auV zD hoY⊢;obtain⟨jp,jl,jf,jc⟩:=J;simp only at ef Zx hoY hkf⊢;have w1:IntKind.i64.wrap ((jf:Int)+jl)=((jf+jl:Nat):Int):=by rw[aF (by omega)];omega
  have w2:IntKind.i64.wrap ((JS.left S ⟨jp,jl,jf,jc⟩:Int)-1)=((JS.left S ⟨jp,jl,jf,jc⟩-1:Nat):Int):=by rw[aF (by omega)];omega
  have w3:IntKind.i64.wrap ((jf:Int)+1)=((jf+1:Nat):Int):=by rw[aF (by omega)];omega
  have w4:IntKind.i64.wrap ((jf:Int)+1+jl)=(jf:Int)+1+jl:=aF (by omega);have w5:IntKind.i64.wrap ((jl:Int)+1)=((jl+1:Nat):Int):=by rw[aF (by omega)];omega
  obtain⟨L,hL⟩:=be (JS.left S ⟨jp,jl,jf,jc⟩);rw[hL]at Zx g HZ w2⊢;apply aa.skip;simp;apply aa.block;apply aa.ag cL fw [0,1,3,4];simp[Wq,hbp,Rw,Mc,NP,hpd,w1];apply aa.ag cL fw [0,1,3,4];simp[Wr,hbp,Rw,Mc,NP,hpd,w2];apply aa.ag cL fw [0,1,3,4];simp[Ws,hbp,Rw,Mc,NP,w3];refine aa.seq (aa.to ⟨DM.look [(0,.v (.pO (.func (.yield y) #[] #[]))),(1,.ptr c.bS 0),(3,.v (ti jf)),(4,.v (ti (jf+jl:Nat)))],c.HB i,N+5000,N,[[]]⟩ ?_ ?_)
  ·apply aa.ag cL fw [0,1,3,4,51];simp[Wt,hbp,Rw,Mc,NP,w4,hlS];have asT:∀q,N+5000<=q->c.HB i q=none:=λq hq=>WP _ _ _ (hN q (by omega));refine aa.cond rfl (λg2=>?_) (λg2=>?_)
   ·have g2:jf+1+jl>=S:=by
     have:(S:Int)<=(jf:Int)+1+jl:=by simpa using g2
     omega
    rw[cF g2,cF g2]at hoY Zx;apply aa.qa cL fw (rs:=db (jo c.p c.bS N) (fg Kv [none,some [1],none,none,none,none,none,none,none,some [0],none,none,none])) (.inl rfl) ((d8 (kh nu Wz hpb) _ _ _).trans (by kernel_rfl)) [0,1,3,4];simp[Kv,db,fG,fg,jo,cX,bN,aP,hbp,Rw,Mc,NP,w5];refine dU ?_ asT (by simp);rw[hoY,show JS.left S ⟨jp,jl+1,0,jc⟩=L-1 by omega,hlS];funext q;simp only[aH,bL];by_cases hq:q=c.p
    ·subst hq;simp[hpd]
    ·simp only[aY hq]
   ·have g2:¬jf+1+jl>=S:=by
     have:¬(S:Int)<=(jf:Int)+1+jl:=by simpa using g2
     omega
    rw[aY g2,aY g2]at hoY Zx;apply aa.skip;simp;refine dU ?_ asT (by simp);rw[hoY,show JS.left S ⟨jp,jl,jf+1,jc⟩=L-1 by omega,hlS];funext q;simp only[aH,bL];by_cases hq:q=c.p
    ·subst hq;simp[hpd]
    ·simp only[aY hq]
  simp;apply aa.ag cL fw [0,1,67];rw[Int.natCast_add]at hkf;simp[Wu,Zg,hkf];refine aa.cond rfl (λg2=>?_) (λg2=>?_)
  ·have g2:(i:Int)+1=c.k:=by simpa using g2
   apply aa.ret;simp;rw[show c.M=i+1 by omega]
  ·have g2:¬(i:Int)+1=c.k:=by simpa using g2
   apply aa.skip;simp;rw[aY g2];exact⟨i+1,dU rfl (mE _) ⟨rfl,rfl,trivial⟩,⟨by omega,by omega⟩,by omega⟩
 ·have g:(c.J i).left c.S=0:=by simpa using g
  apply aa.exit;simp;have:i=c.M:=by omega
  rw[this]
section
variable{f0:bw}
def asU{p N:Nat}(hN:∀r,N<=r->f0 r=none)(hp:∃cs,f0 p=some (.box cs)):
  tP aj 30 [.ptr p 0] f0 N (N+20) (λval mG=>val=.oP (.func 51) [.ptr (N+2) 0]/\mG=aO [(N+2,.box [.ptr p 0])] f0):=by
 refine art.aeM hN (by simp) (by omega) ?_ λaV=>?_
 ·rintro val mG ⟨rfl,rfl⟩;refine⟨λr hr h=>?_,λr hr=>?_⟩
  ·rw[qr hr (by simp)];exact h
  ·rw[aH,aY (by omega)];exact hN r (by omega)
 simp;apply aa.ag cL fw [1];simp[Wm];apply aa.ag cL fw [2];simp[Wn];apply aa.ret;simp[aeL]
def asV{p r N S:Nat}{n:aD}{l:aU}{j:JS}{k:Int}(hN:∀q,N<=q->f0 q=none)(I:YL n l S)(hj:j.ok S)(dK:Ru n l S j f0 p r)(afS:j.CW=false)(hk:1<=k):
  aQ aj 17 [.ptr p 0,.v (ti k)] f0 ⟨True,.v (ti (min k.toNat (j.left S):Nat)),fX f0 p r n l S (j.cm S (min k.toNat (j.left S)))⟩:=by
 refine ajv.qE hN (by simp) λaV=>?_;have Lt:=dK.ne;have hp:=dK.box;have hr:=dK.bE;have nu:p<N:=(aV p _ hp).1;have hrN:r<N:=(aV r _ hr).1;have np:∀k,p≠N+k:=λk=>by omega
 have nr:∀k,r≠N+k:=λk=>by omega
 have ew:(∃cs,f0 p=some (.box cs)):=⟨_,hp⟩;simp only[mo]at hp;simp;apply aa.ag cL fw [2,3];simp[Kq];refine aa.le (Le.d6 (l1:=[(N+3,.box [.ptr p 0])]) (l:=[(2,.ptr (N+3) 0),(3,.v (.box [ti k]))]) (aZ:=N+500) aV ?_ ?_ ?_ ?_ ?_) ?_
 ·omega
 ·simp
 ·simp[bT,ed]
 ·simp[dT,eK,ed,np,ew]
 ·simp[np,ed,ew];exact bY (l:=[(N+3,.box [.ptr p 0])]) aV (by omega) (by simp)
 apply aa.seq;refine aa.cH cL fw [(2,.ptr (N+3) 0),(3,.v (.box [ti k])),(19,.v (.bool false))] ?_ ?_
 ·have Dd:¬k<=0:=by omega
  simp[DR,hp,np,afS,Dd]
 apply aa.c0 rfl;apply aa.skip;simp;apply aa.ag cL fw [2,3,5];simp[VZ];refine aa.le (Le.d6 (l1:=[(N+541,.box [.v (ti 0)]),(N+3,.box [.ptr p 0])]) (l:=[(2,.ptr (N+3) 0),(3,.v (.box [ti k])),(5,.ptr (N+541) 0)]) (aZ:=N+1000) aV ?_ ?_ ?_ ?_ ?_) ?_
 ·omega
 ·simp
 ·simp[bT,ed]
 ·simp[dT,eK,ed,np,ew]
 ·simp[np,ed,ew]
 obtain⟨c,hc⟩:=be ((⟨n,l,S,j,p,r,N+541,N+1037,k,aO [(N+1037,.box [.ptr p 0]),(N+3,.box [.ptr p 0])] f0⟩:SC):SC);have auW:c.ok:=by
  rw[<-hc];exact⟨I,hj,hk,Lt,λe=>np _ e.symm,λe=>nr _ e.symm,λe=>np _ e.symm,λe=>nr _ e.symm,by simp only;omega,by simp⟩
 have asW:aO [(N+1037,.box [.ptr p 0]),(N+541,.box [.v (ti 0)]),(N+3,.box [.ptr p 0])] f0=c.Dk 0:=by
  rw[<-hc];funext q;simp only[SC.Dk,SC.J,JS.cm,aH,bL];by_cases h1:q=p
  ·subst h1;rw[aY (np _),aY (np _),aY (np _),aY (np _),cF rfl];simp only[hp,mo]
  by_cases h2:q=r
  ·subst h2;rw[aY (nr _),aY (nr _),aY (nr _),aY (nr _),aY h1,cF rfl];exact hr
  rw[aY h1,aY h2];by_cases h3:q=N+1037
  ·subst h3;simp
  by_cases h4:q=N+541
  ·subst h4;simp
  rw[aY h3,aY h4,aY h4,aY h3]
 have mE:∀i,∀q,N+1055<=q->c.Dk i q=none:=λi=>SC.adJ (N:=N+1055) (λq hq=>by
  rw[<-asW];simp only[aH,bL];rw[aY (by omega),aY (by omega),aY (by omega)];exact hN q (by omega)) i
 have hM:c.M=min k.toNat (j.left S):=by rw[<-hc];rfl
 have hJ:∀i,c.J i=j.cm S i:=λi=>by rw[<-hc];rfl
 apply aa.seq;refine aa.seq (aa.to ⟨DM.look [(2,.ptr (N+3) 0),(3,.v (.box [ti k])),(5,.ptr (N+541) 0),(21,.oP (.func 51) [.ptr (N+1037) 0])],c.Dk 0,N+1055,N,[]⟩ (aa.al5 cL (N':=N+1055) [2,3,5,21] (pre:=[⟨.load 1 false (.tmp 2),(some 20),none,[],none⟩]) (rs:=V0) rfl ?_) ?_)
 ·simp;refine⟨_,λhN2=>asU hN2 ⟨_,by simp[np,hp];rfl⟩, ?_⟩;rintro val mG ⟨rfl,rfl⟩;exact dU asW (mE 0) (by simp)
 simp;have hpc:c.p=p:=by rw[<-hc]
 have hrc:c.r=r:=by rw[<-hc]
 have Jl:c.n=n:=by rw[<-hc]
 have hlc:c.l=l:=by rw[<-hc]
 have hSc:c.S=S:=by rw[<-hc]
 have hdc:c.d5=N+541:=by rw[<-hc]
 have C8:c.k=k:=by rw[<-hc]
 have hbc:c.bS=N+1037:=by rw[<-hc]
 have hf3:c.f (N+3)=some (.box [.ptr p 0]):=by
  rw[<-hc];simp
 have hit:=asS c auW (mE 0);rw[hbc]at hit;have hNp:0<N:=by omega
 obtain⟨M,hMM⟩:=be c.M;have hM2:M=min k.toNat (j.left S):=hMM.symm.trans hM;rw[<-hM2];have ano:∀j',df (fX f0 p r n l S j') N:=λj'=>km aV (fq _) (by
  have hrn:aO [(p,Ob.box (mo n l S (.bC r 0) j')),(r,qx n l j'.pre)] f0 r≠none:=by
   simp only[aH,bL];split
   ·simp
   ·simp
  intro q hq;simp only[fN,g9,wh]at hq;rcases hq with rfl|rfl
  ·refine⟨nu,λm hm=>?_⟩;simp only[mo,bb,bQ,aP,wa,yP,fN,g9,wh]at hm;rw[hm];exact hrn
  ·exact⟨hrN,λm hm=>by simp[qx,bb]at hm⟩)
 have e5:∀i,c.Dk i (N+541)=some (.box [.v (ti i)]):=λi=>by
  unfold SC.Dk;rw[hdc,aH,cF rfl]
 have Bl:aa aj 34 (.seq (.region false Gi) .ret) (A9 (dj 4) ⟨True,.v (ti M),fX f0 p r n l S (j.cm S M)⟩) ⟨DM.look [(2,.ptr (N+3) 0),(3,.v (.box [ti k])),(5,.ptr (N+541) 0),(21,.oP (.func 51) [.ptr (N+1037) 0])],c.Dk c.M,N+1055,N,[]⟩:=by
  rw[hMM];apply aa.ag cL fw [4];simp[Gi,e5];refine aa.le (Rs (N:=N) (aZ:=N+2000) (l:=[(4,.v (ti M))]) [(N+541,.box [.v (ti M)]),(N+1037,.box [.ptr p 0]),(N+3,.box [.ptr p 0])] (ano (j.cm S M)) ?_ (by omega) (by simp) (by simp)) ?_
  ·rw[<-hc];funext q;simp only[SC.Dk,SC.J,fX,aH,bL];by_cases h1:q=p
   ·subst h1;simp[np]
   by_cases h2:q=r
   ·subst h2;simp[nr,h1]
   rw[aY h1,aY h2,aY h1,aY h2]
  ·apply aa.ret;simp[dj,A9,p7,kQ,oA]
 apply aa.block;refine aa.aeP 0 hit hNp (by rfl) (mE c.M) ?_ Bl Bl;intro args ab N2 hN2 aN hyi anp;obtain⟨h1,h2,h3⟩:=aN;obtain⟨i,hi⟩:=be (HA (ab c.d5));rw[hi]at h1 h2 h3;subst h2;refine⟨by simp, ?_⟩;have hkf:=c.alh i h1;subst h3;rw[hkf];obtain⟨Xx,HZ,hjc⟩:=hj.cm i (by omega);have hJi:=hJ i;have hJn:=hJ (i+1);rw[<-hJi]at Xx HZ hjc;have ef:=Xx.lt (by omega);obtain⟨ce,uF⟩:=I.run Xx (by omega);have EL:(c.J i).next S=c.J (i+1):=by rw[hJn,hJi];rfl
 rw[EL]at uF;have yp:c.HB i p=some (.box (mo n l S (.bC r 0) ((c.J i).fu S))):=by
  unfold SC.HB;rw[hdc,hpc,hrc,Jl,hlc,hSc];simp[np]
 have yr:c.HB i r=some (.bE 0 65 4 (bR (iD n l (c.J i).pre))):=by
  unfold SC.HB;rw[hdc,hpc,hrc,Jl,hlc,hSc];have:r≠p:=λe=>Lt e.symm;simp[nr,this,qx]
 have y3:c.HB i (N+3)=some (.box [.ptr p 0]):=by
  unfold SC.HB;rw[hdc,hpc,hrc];have h1:∀k,N+k≠p:=λk e=>np k e.symm;have h2:∀k,N+k≠r:=λk e=>nr k e.symm;simp[h1,h2,hf3]
 have y5:c.HB i (N+541)=some (.box [.v (ti i)]):=by
  unfold SC.HB;rw[hdc,aH,cF rfl]
 have hn3:N+3<N2:=ZbW λh=>by have:=anp _ h;rw[y3]at this;cases this
 have ali:=λ(M:Nat) (hM:∀q,M<=q->c.HB i q=none)=>asG (f0:=c.HB i) (B:=iD n l (c.J i).pre) (f:=(c.J i).f) (t:=(c.J i).f+(c.J i).len) hM yp yr I.hn I.hl (by omega) (by rw[I.hS];omega) ce;rw[<-uF]at ali;have aC:=BK ay.nil ali (λq hq=>by
  rw[aH];split
  ·rename_i e;rw[e,yr]at hq;cases hq
  ·exact hq)
 obtain⟨F,hF⟩:=be ((c.J i).f);obtain⟨Tt,hT⟩:=be ((c.J i).f+(c.J i).len);rw[hT,hF]at aC;rw[hT,hF];refine aa.le (Le.same (l:=[(2,.ptr (N+3) 0),(3,.v (.box [ti k])),(5,.ptr (N+541) 0),(22,.v (ti F)),(23,.v (ti Tt))]) (aZ:=N2) anp (by simp[Fo])) ?_;apply aa.ag cL fw [2,3,5,6,22,23];simp[V1];apply aa.fA cL fw [2,3,5,6,7];simp[V2];apply aa.block;apply aa.cY aC fw (rs:=Gh) rfl (by kernel_rfl) [3,5];simp[Gh,y3];have n5r:N+541≠r:=λe=>nr _ e.symm;have w1:IntKind.i64.wrap ((i:Int)+1)=(i:Int)+1:=aF (by have:=I.len;have:=hj.WK;omega);apply aa.ag cL fw [3,5];simp[V3,y5,n5r,w1];apply aa.ag cL fw [32];simp[V4];have auX:aO [(N+541,.box [.v (.int .i64 ((i:Int)+1))]),(r,.bE 0 65 4 (bR (iD n l (c.J (i+1)).pre)))] (c.HB i)=c.Dk (i+1):=by
  unfold SC.HB SC.Dk;rw[hdc,hpc,hrc,Jl,hlc,hSc];funext q;simp only[aH,bL];by_cases h1:q=N+541
  ·subst h1;rw[cF rfl,cF rfl];rfl
  rw[aY h1,aY h1,aY h1];by_cases h2:q=r
  ·subst h2;have h3:¬q=p:=λe=>Lt e.symm;rw[cF rfl,aY h3,cF rfl];rfl
  rw[aY h2,aY h2,aY h2];by_cases h3:q=p
  ·subst h3;rw[cF rfl,cF rfl,<-EL];rfl
  ·rw[aY h3,aY h3]
 have mh:∀{tm:dn} {nx:Nat},N2<=nx->Le ⟨tm,aO [(N+541,.box [.v (.int .i64 ((i:Int)+1))]),(r,.bE 0 65 4 (bR (iD n l (c.J (i+1)).pre)))] (c.HB i),nx,N2,[]⟩ ⟨λ_=>.undef,c.Dk (i+1),N2,N2,[]⟩:=λ{tm nx} _=>by
  rw[<-JO];exact dU auX (λq hq=>WP _ _ _ (anp q hq)) trivial
 refine aa.cond rfl (λg=>?_) (λg=>?_)
 ·have g:(i:Int)+1=k:=by simpa using g
  apply aa.exit;simp[C8,g];rw[<-g];exact⟨N2,mh (by omega)⟩
 ·have g:¬(i:Int)+1=k:=by simpa using g
  apply aa.skip;simp[C8,g];exact⟨N2,mh (by omega)⟩
end
section
variable{f0:bw}{c9:DV}{r:Nat}
def ln(S:Nat)(j:JS)(k:Int):Nat:=if k<=0\/j.CW=true then 0 else min k.toNat (j.left S)
def anq{p N:Nat}{n:aD}{l:aU}{S:Nat}{j:JS}{k:Int}(hN:∀q,N<=q->f0 q=none)(hp:f0 p=some (.box (mo n l S c9 j)))(h:k<=0\/j.CW=true):
  aQ aj 17 [.ptr p 0,.v (ti k)] f0 ⟨True,.v (ti 0),f0⟩:=by
 refine ajv.qE hN (by simp) λaV=>?_;have nu:p<N:=(aV p _ hp).1;have np:∀k,p≠N+k:=λk=>by omega
 have ew:(∃cs,f0 p=some (.box cs)):=⟨_,hp⟩;simp only[mo]at hp;simp;apply aa.ag cL fw [2,3];simp[Kq];refine aa.le (Le.d6 (l1:=[(N+3,.box [.ptr p 0])]) (l:=[(2,.ptr (N+3) 0),(3,.v (.box [ti k]))]) (aZ:=N+500) aV ?_ ?_ ?_ ?_ ?_) ?_
 ·omega
 ·simp
 ·simp[bT,ed]
 ·simp[dT,eK,ed,np,ew]
 ·simp[ed];exact bY (l:=[(N+3,.box [.ptr p 0])]) aV (by omega) (by simp)
 apply aa.seq;refine aa.cH cL fw [(19,.v (.bool true))] ?_ ?_
 ·by_cases hc:j.CW=true
  ·simp[DR,hp,np,hc]
  ·have hk:k<=0:=h.resolve_right hc;have hc:j.CW=false:=by simpa using hc
   simp[DR,hp,np,hc,hk]
 apply aa.c1 rfl;apply aa.ag cL fw [4];simp[VY];refine aa.le (ml (l:=[(4,.v (ti 0))]) (aZ:=N+1000) aV (by omega) (by simp) (by simp)) ?_;apply aa.ret;simp[dj,A9,p7,kQ,oA];rfl
def La{p N S:Nat}{n:aD}{l:aU}{j:JS}{k:Int}(hN:∀q,N<=q->f0 q=none)(I:YL n l S)(hj:j.ok S)(dK:Ru n l S j f0 p r):
  aQ aj 17 [.ptr p 0,.v (ti k)] f0 ⟨True,.v (ti (ln S j k:Nat)),fX f0 p r n l S (j.cm S (ln S j k))⟩:=by
 unfold ln;by_cases h:k<=0\/j.CW=true
 ·rw[cF h,show j.cm S 0=j from rfl,BX dK];exact anq hN dK.box h
 ·rw[aY h];exact asV hN I hj dK (by simpa using λe=>h (.inr e)) (by omega)
def asX{p N:Nat}{n:aD}{l:aU}{S:Nat}{j:JS}(hN:∀q,N<=q->f0 q=none)(hp:f0 p=some (.box (mo n l S c9 j))):
  aQ aj 18 [.ptr p 0] f0 ⟨True,.v (ti (j.left S)),f0⟩:=by
 refine arj.qE hN (by simp) λaV=>?_;simp only[mo]at hp;simp;apply aa.ag cL fw [0];simp[V5];apply aa.sq cL fw [0,4];simp[V6];apply aa.c0 rfl;apply aa.skip;simp;apply aa.ag cL fw [2];simp[V7,hp];apply aa.ret;simp[dj,A9,p7,kQ,oA];rfl
def anr{p N:Nat}{n:aD}{l:aU}{S:Nat}{j:JS}(hN:∀q,N<=q->f0 q=none)(hp:f0 p=some (.box (mo n l S c9 j)))(h:j.CW=true\/0<j.left S):
  aQ aj 19 [.ptr p 0] f0 ⟨True,.v (.eB [.agg [ti 0,ti 0,.sl []],ti (if j.CW=true then 12 else 15)]),f0⟩:=by
 refine ajw.qE hN (by simp) λaV=>?_;have nu:p<N:=(aV p _ hp).1;have np:∀k,p≠N+k:=λk=>by omega
 have ew:(∃cs,f0 p=some (.box cs)):=⟨_,hp⟩;simp only[mo]at hp;have cj:∀{x:Int} {nx:Nat} {tm:dn} {e:Int},tm 2=.ptr (N+3) 0->tm 3=.v (ti e)->N<=nx->Le ⟨tm,aO [(N+3,.box [.v (ti 0),.v (ti 0),.aX]),(N+3,.box [.v (ti 0),.v (ti 0),.aX])] f0,nx,N,[]⟩ ⟨DM.look [(2,.v (.box [ti 0,ti 0,.sl []])),(3,.v (ti e))],aO [] f0,nx,N,[]⟩:=λ{x nx tm e} h2 h3 hx=>by
  refine Le.trans (Le.d6 (l1:=[(N+3,.box [.v (ti 0),.v (ti 0),.v (.sl [])])]) (l:=[(2,.ptr (N+3) 0),(3,.v (ti e))]) (aZ:=N+4) aV ?_ ?_ ?_ ?_ ?_) (ml aV hx ?_ ?_)
  ·omega
  ·simp
  ·simp[bT]
  ·simp[dT,eK]
  ·simp[h2,h3]
  ·simp
  ·simp;exact bY (l:=[]) aV (by omega) (by simp)
 simp;apply aa.ag cL fw [0,2,3];simp[Kr];apply aa.seq;apply aa.block;apply aa.ag cL fw [0,2,3,4];simp[Ks];apply aa.c0 rfl;apply aa.ag cL fw [0,2,3,8];simp[Kt,hp,np,ed];refine aa.cond rfl (λg=>?_) (λg=>?_)
 ·have g:j.CW=true:=by simpa using g
  apply aa.ag cL fw [2,3];simp[V8,ed];refine aa.le (cj (x:=0) (e:=12) rfl rfl (by omega)) ?_;apply aa.ret;simp[vH,A9,p7,kQ,oA,g];rfl
 ·have g:j.CW=false:=by simpa using g
  have hl:0<j.left S:=h.resolve_left (by simp[g]);apply aa.ag cL fw [0,2,3,14];simp[Ku,hp,np,hl,ed];apply aa.c1 rfl;apply aa.ag cL fw [2,3];simp[V9,ed,g];refine aa.le (cj (x:=0) (e:=15) rfl rfl (by omega)) ?_;apply aa.ret;simp[vH,A9,p7,kQ,oA];rfl
def Rx{p N S:Nat}{n:aD}{l:aU}{j:JS}(hN:∀q,N<=q->f0 q=none)(dK:Ru n l S j f0 p r)(h1:j.CW=false)(h2:j.left S=0):
  aQ aj 19 [.ptr p 0] f0 ⟨True,.eB [.agg [.v (ti n.ak),.v (ti l.ba),.bC r 0],.v (ti 0)],f0⟩:=by
 refine ajw.okD hN (by simp) (by omega) λaV=>?_;have hp:=dK.box;have hr:=dK.bE;have nu:p<N:=(aV p _ hp).1;have hrN:r<N:=(aV r _ hr).1;have np:∀k,p≠N+k:=λk=>by omega
 have nr:∀k,r≠N+k:=λk=>by omega
 have ew:(∃cs,f0 p=some (.box cs)):=⟨_,hp⟩;have uE:(∃e sz av,f0 r=some (.bE 0 e sz av)):=⟨_,_,_,hr⟩;simp only[mo]at hp;simp only[qx]at hr;simp;apply aa.ag cL fw [0,2,3];simp[Kr];apply aa.seq;apply aa.block;apply aa.ag cL fw [0,2,3,4];simp[Ks];apply aa.c0 rfl;apply aa.ag cL fw [0,2,3,8];simp[Kt,hp,np,ed,h1];apply aa.c0 rfl;apply aa.ag cL fw [0,2,3,14];simp[Ku,hp,np,h2,ed];apply aa.c0 rfl;apply aa.skip;simp;apply aa.ag cL fw [2,3];simp[Wa,hp,np,ed];apply aa.ret;refine⟨by simp[vH,dS.oU], ?_⟩;simp[vH,JT,CI,dS.oU];refine ml aV (by omega) (by simp) ?_;have h3:¬r=N+3:=nr 3;simp[hr,h3]
end
section
variable{f f0:bw}{r:Nat}{j':JS}
def Az(S:Nat)(j:JS)(a:Nat):∀b,(j.cm S a).cm S b=j.cm S (a+b)
 |0=>rfl
 |b+1=>by
  show((j.cm S a).cm S b).next S=(j.cm S (a+b)).next S;rw[Az S j a b]
def sS{p S:Nat}{n:aD}{l:aU}{j:JS}:fX (fX f p r n l S j) p r n l S j'=fX f p r n l S j':=by
 funext q;simp only[fX,aH,bL];split
 ·rfl
 ·split<;>rfl
def YT{p S x:Nat}{o:Ob}{n:aD}{l:aU}{j:JS}(h1:x≠p)(h2:x≠r):fX (aO [(x,o)] (fX f p r n l S j)) p r n l S j'=aO [(x,o)] (fX f p r n l S j'):=by
 funext q;simp only[fX,aH,bL];by_cases e:q=x
 ·subst e;simp[h1,h2]
 ·simp only[aY e];split
  ·rfl
  ·split<;>rfl
def Oq{p S x:Nat}{o:Ob}{n:aD}{l:aU}{j j':JS}(Lt:p≠r)(h1:x≠p)(h2:x≠r):Ru n l S j (aO [(x,o)] (fX f p r n l S j)) p r:=by
 have h:=Ay (f:=f) (n:=n) (l:=l) (S:=S) (j:=j) Lt j;have Lq:p≠x:=λe=>h1 e.symm;have h2':r≠x:=λe=>h2 e.symm;exact⟨by rw[aH,aY Lq];exact h.box,by rw[aH,aY h2'];exact h.bE⟩
def Ot{p N S:Nat}{n:aD}{l:aU}{j:JS}(aV:df f0 N)(dK:Ru n l S j f0 p r):df (fX f0 p r n l S j') N:=km aV (fq _) (by
 have nu:p<N:=(aV p _ dK.box).1;have hrN:r<N:=(aV r _ dK.bE).1;have hrn:aO [(p,Ob.box (mo n l S (.bC r 0) j')),(r,qx n l j'.pre)] f0 r≠none:=by
  simp only[aH,bL];split
  ·simp
  ·simp
 intro q hq;simp only[fN,g9,wh]at hq;rcases hq with rfl|rfl
 ·refine⟨nu,λm hm=>?_⟩;simp only[mo,bb,bQ,aP,wa,yP,fN,g9,wh]at hm;rw[hm];exact hrn
 ·exact⟨hrN,λm hm=>by simp[qx,bb]at hm⟩)
def sT{p S:Nat}{n:aD}{l:aU}{j:JS}(dK:Ru n l S j f0 p r){q:Nat}(h:f0 q=none):fX f0 p r n l S j' q=none:=by
 simp only[fX,aH,bL];split
 ·rename_i e;rw[e,dK.box]at h;cases h
 ·split
  ·rename_i e;rw[e,dK.bE]at h;cases h
  ·exact h
def RA{g:bw}{x:Nat}{o:Ob}{q:Nat}(h:aO [(x,o)] f q=none)(hg:f q=none->g q=none):aO [(x,o)] g q=none:=by
 rw[aH]at h⊢;split at h
 ·cases h
 ·rw[aY (by assumption)];exact hg h
def asM{p N S:Nat}{n:aD}{l:aU}{j:JS}{k:Int}(hN:∀q,N<=q->f0 q=none)(I:YL n l S)(hj:j.ok S)(dK:Ru n l S j f0 p r)(afS:j.CW=false)(hk:1<=k)(hl:j.left S<=1000):
  aQ aj 11 [.ptr p 0,.v (ti k)] f0 ⟨True,.eB [.agg [.v (ti n.ak),.v (ti l.ba),.bC r 0],.v (ti 0)],fX f0 p r n l S (j.cm S (j.left S))⟩:=by
 refine aq9.okD hN (by simp) (by omega) λaV=>?_;have hp:=dK.box;have hr:=dK.bE;have Lt:=dK.ne;have nu:p<N:=(aV p _ hp).1;have hrN:r<N:=(aV r _ hr).1;have np:∀k,p≠N+k:=λk=>by omega
 have nr:∀k,r≠N+k:=λk=>by omega
 have np':∀k,N+k≠p:=λk=>by omega
 have nr':∀k,N+k≠r:=λk=>by omega
 have ew:(∃cs,f0 p=some (.box cs)):=⟨_,hp⟩;have ano:∀j',df (fX f0 p r n l S j') N:=λj'=>Ot aV dK;simp;apply aa.ag cL fw [0,1,4,5];simp[VG];apply aa.sq cL fw [0,1,4,5,6];simp[VH];apply aa.block;have mE:∀(o:Ob) (d:Nat),∀q,N+500<=q->aO [(N+5,o)] (fX f0 p r n l S (j.cm S d)) q=none:=λo d q hq=>by
  rw[aH,aY (by omega)];exact sT dK (hN q (by omega))
 refine aa.loop (λx:Nat×Nat=>⟨DM.look [(0,.ptr p 0),(1,.v (ti k)),(4,.ptr (N+5) 0),(5,.v (ti 0)),(6,.v (ti x.1))],aO [(N+5,.box [.v (ti 0),.v (ti 0),.aX])] (fX f0 p r n l S (j.cm S x.2)),N+500,N,[]⟩)
  (λx=>x.1<=x.2/\x.2<=j.left S) (λx=>j.left S-x.2) (0,0) (dU ?_ (mE _ _) (by simp[ed])) ⟨by simp,by simp⟩ ?_
 ·rw[show j.cm S 0=j from rfl,BX dK,ed]
 rintro⟨i,d⟩ ⟨hi1,Zf⟩;simp only at hi1 Zf;obtain⟨Xx,HZ,hjc⟩:=hj.cm d Zf;obtain⟨J,hJ⟩:=be (j.cm S d);have hjm:∀m,J.cm S m=j.cm S (d+m):=λm=>by rw[<-hJ];exact Az S j d m
 rw[hJ]at Xx HZ hjc;obtain⟨m,hm⟩:=be (ln S J k);have hmv:m=min k.toNat (J.left S):=by
  rw[<-hm];unfold ln;rw[aY (by rw[hjc,afS];simp;omega)]
 have nh:∀M,(∀q,M<=q->aO [(N+5,.box [.v (ti 0),.v (ti 0),.aX])] (fX f0 p r n l S J) q=none)->aQ aj 17 [.ptr p 0,.v (ti k)] (aO [(N+5,.box [.v (ti 0),.v (ti 0),.aX])] (fX f0 p r n l S J)) ⟨True,.v (ti m),aO [(N+5,.box [.v (ti 0),.v (ti 0),.aX])] (fX f0 p r n l S (j.cm S (d+m)))⟩:=λM hM=>by
  have:=La (k:=k) hM I Xx (Oq (j':=J) Lt (np' 5) (nr' 5));rw[YT (np' 5) (nr' 5),hm,hjm]at this;exact this
 have aC:=BK ay.nil nh (λq hq=>RA hq λh=>by
  have:=sT (j':=j.cm S (d+m)) (Ay (f:=f0) (n:=n) (l:=l) (S:=S) (j:=J) Lt J) h;rw[sS]at this;exact this)
 simp only[hJ];apply aa.seq;apply aa.seq;have ans:(i:Int)<2000:=by omega
 apply aa.De aC fw (rs:=Gd) rfl (by kernel_rfl) [0,1,4,5,6,14];simp[Gd,ans];have w1:IntKind.i64.wrap ((i:Int)+1)=((i+1:Nat):Int):=by rw[aF (by omega)];omega
 refine aa.cond rfl (λg=>?_) (λg=>?_)
 ·have g:0<m:=by simpa using g
  apply aa.skip;simp;apply aa.seq;apply aa.block;apply aa.skip;simp;apply aa.fA cL fw [0,1,4,5,6];simp[VI,w1];exact⟨i+1,d+m,dU rfl (mE _ _) (by simp),⟨by omega,by omega⟩,by omega⟩
 ·have g:m=0:=by simpa using g
  have fB:d=j.left S:=by omega
  apply aa.exit;simp;have Rn:∀M,(∀q,M<=q->aO [(N+5,.box [.v (ti 0),.v (ti 0),.aX])] (fX f0 p r n l S J) q=none)->aQ aj 19 [.ptr p 0] (aO [(N+5,.box [.v (ti 0),.v (ti 0),.aX])] (fX f0 p r n l S J)) ⟨True,.eB [.agg [.v (ti n.ak),.v (ti l.ba),.bC r 0],.v (ti 0)],aO [(N+5,.box [.v (ti 0),.v (ti 0),.aX])] (fX f0 p r n l S J)⟩:=λM hM=>
   Rx hM (Oq (j':=J) Lt (np' 5) (nr' 5)) (hjc.trans afS) (by omega)
  rw[g,show d+0=d from rfl,hJ];apply aa.cY (BK ay.nil Rn (λq h=>h)) fw (rs:=Ge) rfl (by kernel_rfl) [4,5];simp[Ge];apply aa.ret;refine⟨by simp[Gf,dS.oU], ?_⟩;simp[Gf,JT,CI,dS.oU];have h3:¬r=N+5:=nr 5;have AI:fX f0 p r n l S J r=some (qx n l J.pre):=(Ay (j:=J) Lt J).bE;simp only[qx]at AI;rw[<-fB,hJ];refine Rs (N:=N) [(N+5,.box [.v (ti n.ak),.v (ti l.ba),.bC r 0]),(N+5,.box [.v (ti 0),.v (ti 0),.aX])] (ano J) rfl (by omega) (by simp) ?_;simp[h3,AI]
end
end Jb
end cD
open Go.DM Go.DM.W7
def Zp(x:Input):Prop:=((x.aw.length:Int)<=60/\(x.insert.length:Int)<=100)/\Qa x x.insert.length
def Bm{x:Input}(h:Zp x):Qb x/\x.aw.length<=60/\x.insert.length<=100/\(∀c∈x.aw,c.read.length=x.insert.length):=by
 obtain⟨⟨h1,h2⟩,h3,h4⟩:=h;have aaS:ll x.aw x.insert.length:=by
  by_cases e:ll x.aw x.insert.length
  ·exact e
  ·exact eA (.inr (.inr (.inr (.inr (.inr e))))) h3
 have hc:∀c∈x.aw,qL c x.insert.length:=by
  intro c hc;obtain⟨i,hi,rfl⟩:=Ib hc;have:=aaS i hi
  rwa [show x.aw.getD i default=x.aw[i]by simp[List.getD,hi]]at this
 have OW:0<=x.swap/\x.swap<=60000:=by
  constructor
  ·by_cases e:x.swap<0
   ·exact eA (.inr (.inr (.inr (.inl e)))) h3
   ·omega
  ·by_cases e:x.swap>60000
   ·exact eA (.inr (.inr (.inr (.inr (.inl e))))) h3
   ·omega
 have hn:x.aw.length<=60:=by
  by_cases e:(x.aw.length:Int)>60
  ·exact eA (.inr (.inl e)) h3
  ·omega
 have Z2:∀c∈x.aw,c.read.length=x.insert.length:=by
  intro c ZL;have:=(hc c ZL).1;omega
 refine⟨⟨⟨by omega,λc ZL=>?_⟩,λc ZL=>⟨by rw[Z2 c ZL];omega,λp hp=>?_⟩,by omega,λp hp=>?_,OW.1,by omega⟩,hn,by omega,Z2⟩
 ·have:=(hc c ZL).1;omega
 ·obtain⟨t,ht,rfl⟩:=Ib hp;have:=(hc c ZL).2 t (by rw[Z2 c ZL]at ht;simpa using ht);unfold lw at this;rw[show c.read.getD t default=c.read[t]by simp[List.getD,ht]]at this;omega
 ·obtain⟨t,ht,rfl⟩:=Ib hp;have:=h4 t (by simpa using ht);unfold zH at this;rw[show x.insert.getD t default=x.insert[t]by simp[List.getD,ht]]at this;omega
def aaT{x:Input}(h:Zp x):∀c∈x.aw,qL c x.insert.length:=by
 obtain⟨⟨h1,h2⟩,h3,h4⟩:=h;have aaS:ll x.aw x.insert.length:=by
  by_cases e:ll x.aw x.insert.length
  ·exact e
  ·exact eA (.inr (.inr (.inr (.inr (.inr e))))) h3
 intro c hc;obtain⟨i,hi,rfl⟩:=Ib hc;have:=aaS i hi
 rwa [show x.aw.getD i default=x.aw[i]by simp[List.getD,hi]]at this
def aeS{x:Input}(h:Zp x){t:Nat}(ht:t<x.insert.length):1<=x.insert.getD t default:=by
 have:=h.2.2 t (by simpa using ht);unfold zH at this;omega
def CJ{x:Input}(h:Zp x):∀a∈jM x,Ic (2*x.aw.length+1:Nat) x.insert.length a:=by
 obtain⟨g1,g2,g3,g4⟩:=Bm h;have hc:=aaT h;have aaU:∀m,m<x.aw.length->(x.aw.getD m default).kind<x.insert.length:=by
  intro m hm;have:=(hc (x.aw.getD m default) (by simp[List.getD,hm])).1;omega
 intro a ha;obtain⟨hm,vE⟩:=Ce ha;unfold Ic;rcases hm with hm|hm
 ·obtain⟨i,_,hi,hm⟩:=gU hm;unfold rI at hm;rw[oi]at hm;rcases hm with hm|hm
  ·obtain⟨m,him,hmn,hm⟩:=gU hm;unfold rM at hm;rw[oi]at hm;rcases hm with hm|hm
   ·obtain⟨t,_,ht,hm⟩:=gU hm;unfold rA at hm;split at hm
    ·rename_i hr;simp only[oO]at hm;subst hm;have:=zI (iu g1.1 i m).1 hr.2;simp only at vE⊢;omega
    ·simp at hm
   ·unfold rS at hm;split at hm
    ·rename_i hr;simp only[oO]at hm;subst hm;have:=zI (iu g1.1 i m).1 g1.2.2.2.2.1;unfold dm at hr;rw[oS]at hr;have:=aaU (m+1) hr.1;simp only at vE⊢;omega
    ·simp at hm
  ·obtain⟨hr,rfl⟩:=I1 hm;unfold dm at hr;rw[oS]at hr;have:=aaU i (by omega);simp only;omega
 ·obtain⟨i,_,hi,hm⟩:=gU hm;unfold iI at hm;obtain⟨m,him,hmn,hm⟩:=gU hm;unfold iM at hm;obtain⟨t,_,ht,hm⟩:=gU hm;simp only[iT,oO]at hm;subst hm;have:=ZE (iu g1.1 i m).1 (aeS h ht);simp only at vE⊢;omega
def XZ{x:Input}(h:Zp x):Fp (bf x) x.insert.length:=by
 obtain⟨g1,g2,g3,g4⟩:=Bm h;have dN:(bf x).vF.length=2*x.aw.length+1:=Qc x _;have yS:(bf x).ba=2*x.aw.length+1:=rfl;refine⟨⟨by omega,by omega⟩,λi hi=>?_,λi hi=>⟨?_, ?_⟩⟩
 ·rw[dN]at hi;unfold SS;have:(bf x).vF.getD i default=if i % 2=0 then pj x (i/2) x.aw.length else 1099511627776:=by
   simp[bf,AQ,List.getD,hi]
  rw[this];split
  ·exact iu g1.1 _ _
  ·omega
 ·have:=CJ h ((bf x).bJ.getD i default) (by simp only[List.getD,xb hi,Su];exact SL hi);rw[yS];simpa using this
 ·by_cases hi0:i=0
  ·exact .inl hi0
  ·right;have hs:=mw x;rw[Zdn]at hs;have:=hs (i-1) i (by show i-1<(bf x).bJ.length;omega) hi (by omega);have e1:(bf x).bJ.getD (i-1) default=(jM x)[i-1]'(by show i-1<(bf x).bJ.length;omega):=by
    simp only[List.getD];rw[xb (by omega)];rfl
   have e2:(bf x).bJ.getD i default=(jM x)[i]'hi:=by
    simp only[List.getD];rw[xb hi];rfl
   rw[e1,e2];exact this
def aaV{x:Input}(h:Zp x):gE x=bf x:=by
 obtain⟨h1,h2,h3,h4⟩:=Bm h;exact Po ⟨λp hp=>(h1.2.2.2.1 p hp).1,h1.2.2.2.2.1⟩ h1.1 h4
def aaW{x:Input}(h:Zp x):(mu x).length<=900000:=by
 obtain⟨h1,h2,h3,h4⟩:=Bm h;rw[<-I4,HJ ⟨λp hp=>(h1.2.2.2.1 p hp).1,h1.2.2.2.2.1⟩ h1.1 h4];exact CK (by omega) h2
def X0{x:Input}(h:Zp x):bu aj 29 [x.enc] (bf x).enc:=by
 rw[<-aaV h];have:=aaW h;exact t12 x (Bm h).1 (by unfold sE;omega) (by omega)
namespace cD
namespace Jb
open Go.DM
def uS(n:aD)(x:Input):Prop:=dX n/\Qa x n.aM/\K7 n x.insert
instance(n:aD)(x:Input):Decidable (uS n x):=by unfold uS;infer_instance
def uS.Zp{n:aD}{x:Input}(h:uS n x)(h6:x.insert.length<=100):Go.Proofs.Zp x:=by
 obtain⟨h1,h2,h3⟩:=h;have hl:(x.insert.length:Int)=n.aM:=by
  by_cases e:(x.insert.length:Int)=n.aM
  ·exact e
  ·exact eA (.inr (.inr (.inl e))) h2.1
 have hc:(x.aw.length:Int)<=60:=by
  by_cases e:(x.aw.length:Int)>60
  ·exact eA (.inr (.inl e)) h2.1
  ·omega
 exact⟨⟨hc,by omega⟩,by rw[hl];exact h2⟩
abbrev gX(x:Input):Nat:=2*x.aw.length+1
def uS.jin{n:aD}{x:Input}(h:uS n x)(h6:x.insert.length<=100):YL n (bf x) (gX x):=by
 have hs:=h.Zp h6;obtain⟨g1,g2,g3,g4⟩:=Bm hs;have hip:ajx x:=⟨g1,g2,by omega,g4⟩;refine⟨h.1.ok,afk hip,rfl,by simp only[gX];omega,by simp only[gX];omega,λa ha=>?_,YI (XZ hs)⟩;have:=CJ hs a ha;unfold Ic at this;omega
def WL(S:Nat):(Rr S).length=S*(S+1)/2:=by
 have:=WO S;omega
def BW(n:aD)(x:Input)(P R:Nat):c7:=[(P,.box (mo n (bf x) (gX x) (.bC R 0) J0)),(R,qx n (bf x) [])]
def Lb{f0:bw}{N:Nat}{n:aD}{x:Input}(hN:∀q,N<=q->f0 q=none)(h:uS n x)(h6:x.insert.length<=100):
  tP aj 12 [.v n.enc,.v x.enc] f0 N (N+3000) (λval mG=>val=.ptr (N+2048) 0/\mG=aO (BW n x (N+2048) (N+2044)) f0):=by
 have hj:=h.jin h6;have hs:=h.Zp h6;have tL:=X0 hs;have t26:=adG n;have iW:n.aM<=1000000000:=by
  have:qV n:=h.1.1;unfold qV at this;omega
 have t27:=asw x n.aM iW;have t28:=asE n x.insert (by omega);rw[decide_eq_true h.1]at t26;rw[decide_eq_true h.2.1]at t27;rw[decide_eq_true h.2.2]at t28;obtain⟨l,hl⟩:=be (bf x);have hls:l.ba=(gX x:Nat):=by rw[<-hl];rfl
 unfold BW;rw[hl]at tL hj⊢;have aC:ay aj (bB [(29,dh (λts=>ts=[x.enc]) (λ_=>l.enc) false),(28,dh (λts=>ts=[n.enc,.sl (aG x.insert)]) (λ_=>.bool true) true),(27,dh (λts=>ts=[x.enc,ti n.aM]) (λ_=>.bool true) true),(26,dh (λts=>ts=[n.enc]) (λ_=>.bool true) true)]):=by
  refine ay.cons (ay.cons (ay.cons (ay.cons ay.nil ?_) ?_) ?_) ?_
  ·rintro ts rfl;exact⟨t26,λ_=>rfl⟩
  ·rintro ts rfl;exact⟨t27,λ_=>rfl⟩
  ·rintro ts rfl;exact⟨t28,λ_=>rfl⟩
  ·rintro ts rfl;exact⟨tL,λh=>by cases h⟩
 have Yk:=hj.hn.1;have Vu:=hj.hn.2.1;have O7:=hj.O7;obtain⟨S,hS⟩:=be (gX x);have sY:=hj.sY;rw[hS]at O7 hls sY⊢;have auY:=WL S;have hz:iD n l []=List.replicate (mM n.ak S).toNat ⟨0,0,0,0⟩:=by unfold iD;rw[hls];rfl
 have zD:J0.left S=S*(S+1)/2:=by
  have:=(IL sY).WK;rw[<-auY];simpa [J0]using this
 have hSS:S*(S+1)<=1000*1001:=ZcV (by omega) (by omega);obtain⟨G,hG⟩:=be (S*(S+1)/2);have hGI:((S:Int)*((S:Int)+1)).tdiv 2=(G:Int):=by
  rw[E0 (ZcG (by omega) (by omega)),<-hG]
  push_cast
  rfl
 have avN:G<=500500:=by omega
 have hcI:mM n.ak S=n.ak*G:=by
  unfold mM;rw[<-hG];have h2:S*(S+1) % 2=0:=by
   have:=WO S;omega
  obtain⟨g,hg⟩:∃g,S*(S+1)=2*g:=⟨S*(S+1)/2,by omega⟩;have Sr:(S:Int)*((S:Int)+1)=2*(g:Int):=by exact_mod_cast hg
  rw[hg,Int.mul_assoc,Sr,show n.ak*(2*(g:Int))=2*(n.ak*g)by grind];simp
 have b1:=gM (a:=n.ak) (A:=1000) (b:=(G:Int)) (B:=500500) (by omega) Vu (by omega) (by omega);have auZ:(S:Int)*((S:Int)+1)=((S*(S+1):Nat):Int):=by push_cast;rfl
 have m1:IntKind.i64.wrap ((S:Int)+1)=(S:Int)+1:=aF (by omega);have m2:IntKind.i64.wrap ((S:Int)*((S:Int)+1))=(S:Int)*((S:Int)+1):=by rw[auZ];exact aF (by omega)
 have m3:IntKind.i64.wrap (((S:Int)*((S:Int)+1)).tdiv 2)=(G:Int):=by rw[hGI];exact aF (by omega)
 have m4:IntKind.i64.wrap (n.ak*(G:Int))=n.ak*(G:Int):=aF (by omega);obtain⟨C,hC⟩:=kK (a:=n.ak*(G:Int)) (by omega);rw[hC]at m4 hcI b1;rw[hG]at zD;refine arb.aeM hN (by simp) (by omega) ?_ λaV=>?_
 ·rintro val mG ⟨rfl,rfl⟩;refine⟨λr hr h=>?_,λr hr=>?_⟩
  ·rw[qr hr (by simp)];exact h
  ·rw[aH,aY (by omega),aH,aY (by omega)];exact hN r (by omega)
 obtain⟨nt,nn,ns,au⟩:=n;obtain⟨cs,ci,sw⟩:=x;obtain⟨ls,bJ,cj⟩:=l;simp only at hls;subst hls;simp only[aD.enc,Input.enc,aU.enc]at aC;simp only at m4 hcI hC;simp[aD.enc,Input.enc];apply aa.ag aC fw [2,3,4];simp[VJ];refine aa.le (ml (l:=[(2,.v (.box [ti nt,ti nn,ti ns,.sl (aW au)])),(3,.v (.box [.sl (cz cs),.sl (aG ci),ti sw]))]) (aZ:=N+500) aV (by omega) (by simp;omega) ?_) ?_
 ·simp[ed];exact⟨bY (l:=[]) aV (by omega) (by simp),bY (l:=[]) aV (by omega) (by simp)⟩
 apply aa.sq aC fw [2,3,23];simp[VK];apply aa.c0 rfl;apply aa.skip;simp;apply aa.ag aC fw [2,3,5];simp[VL];refine aa.le (ml (l:=[(2,.v (.box [ti nt,ti nn,ti ns,.sl (aW au)])),(3,.v (.box [.sl (cz cs),.sl (aG ci),ti sw])),(5,.v (.box [ti S,.sl (kL bJ),.sl (aG cj)]))]) (aZ:=N+1000) aV (by omega) (by simp;omega) ?_) ?_
 ·simp[ed];exact bY (l:=[]) aV (by omega) (by simp)
 apply aa.ag aC fw [2,3,5,6];simp[VN,m1,m2,m3];refine aa.le (Le.same (l:=[(2,.v (.box [ti nt,ti nn,ti ns,.sl (aW au)])),(3,.v (.box [.sl (cz cs),.sl (aG ci),ti sw])),(5,.v (.box [ti S,.sl (kL bJ),.sl (aG cj)])),(6,.v (ti G))]) (aZ:=N+2000) (λq hq=>hN q (by omega)) (by simp)) ?_;apply aa.ag aC fw [4];simp[VO,m4,hC];refine⟨by simp[dR];omega, ?_⟩;apply aa.ret;refine⟨rfl, ?_⟩;have hcT:bR (iD ⟨nt,nn,ns,au⟩ ⟨S,bJ,cj⟩ [])=List.replicate C [T.int .i64 0,T.int .i64 0,T.int .i64 0,T.int .i64 0]:=by
  rw[hz];simp only;rw[hcI];simp[bR,Cell.enc]
 simp only[mo,J0,qx,hcT];rw[show JS.left S ⟨[],0,0,false⟩=G from zD];rfl
def og(n:aD)(ci:bU):Prop:=(n.au.length:Int)<=60/\n.ak<=60/\(ci.length:Int)<=30
instance(n:aD)(ci:bU):Decidable (og n ci):=by unfold og;infer_instance
def asY(n:aD)(ci:bU):bu aj 24 [n.enc,.sl (aG ci)] (.bool (decide (og n ci))):=by
 obtain⟨R,hR⟩:=be (decide (og n ci));rw[hR];obtain⟨nt,nn,ns,au⟩:=n;have AX:(aW au).length=au.length:=by simp[aW]
 refine aro.ok (by simp) (aT ?_);simp[aD.enc];apply aa.ag cL fw [1,2];simp[Wd];refine aa.lk (o:=[]) (l:=[(1,.v (.sl (aG ci))),(2,.v (.box [ti nt,ti nn,ti ns,.sl (aW au)]))]) (aZ:=1200) (by simp) ?_;refine aa.cH cL fw [(4,.v (.bool R))] ?_ ?_
 ·by_cases q1:(au.length:Int)<=60
  ·by_cases q2:nn<=60
   ·by_cases q3:(ci.length:Int)<=30
    ·have:R=true:=by rw[<-hR];simp[og,q1,q2,q3]
     simp[zU,AX,q1,q2,q3,this]
    ·have:R=false:=by rw[<-hR];simp[og,q3]
     simp[zU,AX,q1,q2,q3,this]
   ·have:R=false:=by rw[<-hR];simp[og,q2]
    simp[zU,AX,q1,q2,this]
  ·have:R=false:=by rw[<-hR];simp[og,q1]
   simp[zU,AX,q1,this]
 apply aa.ret;simp[dj]
def yH(l:List cP)(b:Int)(i:Nat):Prop:=((l.getD i default).read.length:Int)<=b
instance(l:List cP)(b:Int)(i:Nat):Decidable (yH l b i):=by unfold yH;infer_instance
def Ou(x:Input)(a b:Int):Prop:=((x.aw.length:Int)<=a/\(x.insert.length:Int)<=b)/\∀i,i<x.aw.length->yH x.aw b i
instance(x:Input)(a b:Int):Decidable (Ou x a b):=by unfold Ou;infer_instance
def asZ(x:Input)(a b:Int)(ha:a<=1000000000):bu aj 25 [x.enc,ti a,ti b] (.bool (decide (Ou x a b))):=by
 have dd:Ou x a b↔((x.aw.length:Int)<=a/\(x.insert.length:Int)<=b)/\∀i,i<x.aw.length->yH x.aw b i:=Iff.rfl;obtain⟨R,hR⟩:=be (decide (Ou x a b));rw[hR];have da:¬Ou x a b->R=false:=λh=>by rw[<-hR];simp[h]
 obtain⟨cs,ci,sw⟩:=x;simp only at dd;refine arq.ok (by simp) (aT ?_);simp[Input.enc];apply aa.ag cL fw [1,2,3];simp[We];refine aa.lk (o:=[]) (l:=[(1,.v (ti a)),(2,.v (ti b)),(3,.v (.box [.sl (cz cs),.sl (aG ci),ti sw]))]) (aZ:=1200) (by simp) ?_;apply aa.seq;obtain⟨c1,b8⟩:=be (decide (¬((cs.length:Int)<=a/\(ci.length:Int)<=b)):Bool);refine aa.cH cL fw [(1,.v (ti a)),(2,.v (ti b)),(3,.v (.box [.sl (cz cs),.sl (aG ci),ti sw])),(19,.v (.bool c1))] ?_ ?_
 ·by_cases q1:a<(cs.length:Int)
  ·have:c1=true:=by rw[<-b8];simp only[oS];omega
   simp[DS,q1,this]
  ·by_cases q2:b<(ci.length:Int)
   ·have:c1=true:=by rw[<-b8];simp only[oS];omega
    simp[DS,q1,q2,this]
   ·have:c1=false:=by rw[<-b8];simp only[Di];omega
    simp[DS,q1,q2,this]
 refine aa.cond rfl (λg=>?_) (λg=>?_)
 ·rw[g]at b8;have b8:=qW b8;apply aa.ag cL fw [6];simp[Wf];apply aa.ret;rw[da λh=>b8 (dd.1 h).1];simp[dj]
 rw[g]at b8;have b8:=wS b8;simp only[Classical.not_not]at b8;apply aa.skip;simp;apply aa.sq cL fw [2,3,7];simp[Wg];apply aa.block;refine aa.loop (λy:Nat=>⟨DM.look [(2,.v (ti b)),(3,.v (.box [.sl (cz cs),.sl (aG ci),ti sw])),(7,.v (ti y))],cJ [],2000,1000,[]⟩)
  (λy=>y<=cs.length/\∀i,i<y->yH cs b i) (λy=>cs.length-y) 0 (Le.bF (o:=[]) ?_ ?_ ?_ ?_) (by simp) (λy hy=>?_)
 iterate 4(·simp)
 obtain⟨mf,fW⟩:=hy;apply aa.seq;apply aa.seq;apply aa.fA cL fw [2,3,7,24];simp[Wh];refine aa.cond rfl (λcU=>?_) (λcU=>?_)
 ·have cU:y<cs.length:=by simpa using cU
  have r1:=kg cU;obtain⟨⟨ck,cr,cd⟩,hu⟩:=be (cs.getD y default);rw[hu]at r1;have kr:yH cs b y↔(cr.length:Int)<=b:=by unfold yH;rw[hu]
  apply aa.skip;simp;apply aa.seq;apply aa.block;apply aa.ag cL fw [2,3,7,35];simp[Wi,r1,cU,cP.enc];refine aa.cond rfl (λg2=>?_) (λg2=>?_)
  ·have g2:b<(cr.length:Int):=by simpa using g2
   apply aa.ag cL fw [6];simp[Wj];apply aa.ret;rw[da λh=>by have:=kr.1 ((dd.1 h).2 y cU);omega];simp[dj]
  ·have g2:¬b<(cr.length:Int):=by simpa using g2
   apply aa.skip;simp;apply aa.fA cL fw [2,3,7];simp[Wk];rw[aF (by omega)];refine⟨y+1,Le.bF (o:=[]) ?_ ?_ ?_ ?_,⟨by omega,λi hi=>?_⟩,by omega⟩;iterate 4(·simp)
   ·by_cases e:i=y
    ·subst e;exact kr.2 (by omega)
    ·exact fW i (by omega)
 ·have GB:y=cs.length:=by
   have:¬y<cs.length:=by simpa using cU
   omega
  subst GB;apply aa.exit;simp;apply aa.ag cL fw [6];simp[Wl];apply aa.ret;have:R=true:=by rw[<-hR];exact decide_eq_true (dd.2 ⟨b8,fW⟩)
  simp[dj,this]
def qw(n:aD)(x:Input):Prop:=((og n x.insert/\n.ak<=12)/\(n.au.length:Int)<=20)/\Ou x 4 6
instance(n:aD)(x:Input):Decidable (qw n x):=by unfold qw;infer_instance
def adI(n:aD)(x:Input):bu aj 10 [n.enc,x.enc] (.bool (decide (qw n x))):=by
 obtain⟨R,hR⟩:=be (decide (qw n x));rw[hR];have t24:=asY n x.insert;have t25:=asZ x 4 6 (by omega);obtain⟨b1,xV⟩:=be (decide (og n x.insert));obtain⟨b2,gm⟩:=be (decide (Ou x 4 6));rw[xV]at t24;rw[gm]at t25;have aC:ay aj (bB [(25,dh (λts=>ts=[x.enc,ti 4,ti 6]) (λ_=>.bool b2) true),(24,dh (λts=>ts=[n.enc,.sl (aG x.insert)]) (λ_=>.bool b1) true)]):=by
  refine ay.cons (ay.cons ay.nil ?_) ?_
  ·rintro ts rfl;exact⟨t24,λ_=>rfl⟩
  ·rintro ts rfl;exact⟨t25,λ_=>rfl⟩
 have hRv:R=(((b1&&decide (n.ak<=12))&&decide ((n.au.length:Int)<=20))&&b2):=by
  rw[<-hR,<-xV,<-gm,Zcb,decide_eq_true_iff];simp[qw]
 clear hR xV gm t24 t25;obtain⟨nt,nn,ns,au⟩:=n;obtain⟨cs,ci,sw⟩:=x;have AX:(aW au).length=au.length:=by simp[aW]
 simp only[aD.enc,Input.enc]at aC;simp only at hRv;refine aq7.ok (by simp) (aT ?_);simp[aD.enc,Input.enc];apply aa.ag aC fw [2,3];simp[VF];refine aa.lk (o:=[]) (l:=[(2,.v (.box [ti nt,ti nn,ti ns,.sl (aW au)])),(3,.v (.box [.sl (cz cs),.sl (aG ci),ti sw]))]) (aZ:=1200) (by simp) ?_;refine aa.cH aC fw [(4,.v (.bool R))] ?_ ?_
 ·cases b1 with
  |false=>simp[wA,hRv]
  |true=>
   by_cases q2:nn<=12
   ·by_cases q3:(au.length:Int)<=20
    ·have q3':au.length<=20:=by omega
     cases b2 with
     |false=>simp[wA,AX,q2,q3,hRv]
     |true=>simp[wA,AX,q2,q3,hRv]
    ·have q3':¬au.length<=20:=by omega
     simp[wA,AX,q2,q3,hRv]
   ·simp[wA,q2,hRv]
 apply aa.ret;simp[dj]
def asR(c:dW)(hl:c.cells.length<=1000000000000):bu aj 13 [c.enc,c.enc] (.bool true):=by
 obtain⟨cn,cs,cl⟩:=c;simp only at hl;refine ard.ok (by simp) (aT ?_);simp[dW.enc];apply aa.ag cL fw [2,3];simp[VP];refine aa.lk (o:=[]) (l:=[(2,.v (.box [ti cn,ti cs,.sl (bR cl)])),(3,.v (.box [ti cn,ti cs,.sl (bR cl)]))]) (aZ:=1200) (by simp) ?_;apply aa.seq;refine aa.cH cL fw [(2,.v (.box [ti cn,ti cs,.sl (bR cl)])),(3,.v (.box [ti cn,ti cs,.sl (bR cl)])),(26,.v (.bool false))] ?_ ?_
 ·simp[VQ]
 apply aa.c0 rfl;apply aa.skip;simp;apply aa.sq cL fw [2,3,5];simp[VR];apply aa.block;refine aa.loop (λy:Nat=>⟨DM.look [(2,.v (.box [ti cn,ti cs,.sl (bR cl)])),(3,.v (.box [ti cn,ti cs,.sl (bR cl)])),(5,.v (ti y))],cJ [],2000,1000,[]⟩)
  (λy=>y<=cl.length) (λy=>cl.length-y) 0 (Le.bF (o:=[]) ?_ ?_ ?_ ?_) (by simp) (λy hy=>?_)
 iterate 4(·simp)
 have aV:(bR cl).length=cl.length:=by simp[bR]
 apply aa.seq;apply aa.seq;apply aa.fA cL fw [2,3,5,31];simp[VS];refine aa.cond rfl (λcU=>?_) (λcU=>?_)
 ·have cU:y<cl.length:=by simpa [aV]using cU
  have r1:=vJ cU;obtain⟨⟨a,b,c,d⟩,hu⟩:=be (cl.getD y default);rw[hu]at r1;apply aa.skip;simp;apply aa.seq;apply aa.block;apply aa.ag cL fw [2,3,5,44];simp[VT,r1,cU,aV,Cell.enc];apply aa.c0 rfl;apply aa.skip;simp;apply aa.fA cL fw [2,3,5];simp[VU];rw[aF (by omega)];refine⟨y+1,Le.bF (o:=[]) ?_ ?_ ?_ ?_,by omega,by omega⟩;iterate 3(·simp)
  ·simp
 ·apply aa.exit;simp;apply aa.ag cL fw [4];simp[VV];apply aa.ret;simp[dj]
structure RJ where
 n:aD
 x:Input
 as0:Int
 done:Int
 CW:Bool
abbrev RJ.cells(j:RJ):aL:=[ti j.n.aM,ti j.n.ak,ti j.n.start,.sl (aW j.n.au),.sl (cz j.x.aw),.sl (aG j.x.insert),ti j.x.swap,ti j.as0,ti j.done,.bool j.CW]
def RJ.enc(j:RJ):T:=.agg j.cells
abbrev IK:T:=.agg [ti 0,ti 0,ti 0,.sl [],.sl [],.sl [],ti 0,ti 0,ti 0,.bool false]
def RB(n:aD)(x:Input):Prop:=Hy n x.insert/\Qa x n.aM
instance(n:aD)(x:Input):Decidable (RB n x):=by unfold RB;infer_instance
def WJ(n:aD)(x:Input):RB n x↔uS n x:=by
 have Lt:Qa x n.aM->d9 n x.insert:=λh=>by
  obtain⟨h1,h2⟩:=h;have hl:(x.insert.length:Int)=n.aM:=by
   by_cases e:(x.insert.length:Int)=n.aM
   ·exact e
   ·exact eA (.inr (.inr (.inl e))) h1
  refine⟨hl,λi hi=>?_⟩;have:=h2 i (by omega);unfold zH at this;unfold yb;exact this
 constructor
 ·rintro⟨h1,h2⟩;exact⟨h1.1.1,h2,(Od (Lt h2)).2 h1⟩
 ·rintro⟨_,h2,h3⟩;exact⟨(Od (Lt h2)).1 h3,h2⟩
def vV(n:aD)(x:Input):T:=if RB n x then .eB [RJ.enc ⟨n,x,((gX x*(gX x+1)/2:Nat):Int),0,false⟩,.bool true]else .eB [IK,.bool false]
def asK(n:aD)(x:Input)(h1:n.au.length<=9223372036854775807)(h2:x.insert.length<=9223372036854775807):bu aj 9 [n.enc,x.enc] (vV n x):=by
 obtain⟨R,hR⟩:=be (vV n x);rw[hR];unfold vV at hR;have ant:=t22 n x.insert h1 h2;have anu:=λh=>t28 x n.aM h;obtain⟨b1,xV⟩:=be (decide (Hy n x.insert));obtain⟨b2,gm⟩:=be (decide (Qa x n.aM));rw[xV]at ant;rw[gm]at anu;have iW:b1=true->n.aM<=1000000000000:=λhb=>by
  rw[<-xV]at hb;have:qV n:=(qW hb).1.1.1;unfold qV at this;omega
 have as1:b2=true->x.aw.length<=60:=λhb=>by
  rw[<-gm]at hb;have h:=(qW hb).1;by_cases e:(x.aw.length:Int)>60
  ·exact eA (.inr (.inl e)) h
  ·omega
 have aC:ay aj (bB [(23,dh (λts=>ts=[x.enc,ti n.aM]/\b1=true) (λ_=>.bool b2) true),(22,dh (λts=>ts=[n.enc,.sl (aG x.insert)]) (λ_=>.bool b1) true)]):=by
  refine ay.cons (ay.cons ay.nil ?_) ?_
  ·rintro ts rfl;exact⟨ant,λ_=>rfl⟩
  ·rintro ts ⟨rfl,hb⟩;exact⟨anu (iW hb),λ_=>rfl⟩
 have hP:RB n x↔b1=true/\b2=true:=by
  rw[<-xV,<-gm];simp[RB]
 rw[show(if RB n x then T.eB [RJ.enc ⟨n,x,((gX x*(gX x+1)/2:Nat):Int),0,false⟩,.bool true]else .eB [IK,.bool false])=if b1=true/\b2=true then T.eB [RJ.enc ⟨n,x,((gX x*(gX x+1)/2:Nat):Int),0,false⟩,.bool true]else .eB [IK,.bool false]by simp only[hP]]at hR;clear hP iW ant anu xV gm;obtain⟨nt,nn,ns,au⟩:=n;obtain⟨cs,ci,sw⟩:=x;simp only[aD.enc,Input.enc]at aC;simp only[RJ.enc,RJ.cells,gX]at hR as1;refine aq5.ok (by simp) (aT ?_);simp[aD.enc,Input.enc];apply aa.ag aC fw [2,3,4,5];simp[VB];refine aa.lk (o:=[(1005,.box [.v (ti 0),.v (ti 0),.v (ti 0),.aX,.aX,.aX,.v (ti 0),.v (ti 0),.v (ti 0),.v (.bool false)])]) (l:=[(2,.v (.box [ti nt,ti nn,ti ns,.sl (aW au)])),(3,.v (.box [.sl (cz cs),.sl (aG ci),ti sw])),(4,.ptr 1005 0),(5,.v (.bool false))]) (aZ:=1200) (by simp) ?_;apply aa.seq;obtain⟨c1,b8⟩:=be ((!(b1&&b2)):Bool);refine aa.cH aC fw [(2,.v (.box [ti nt,ti nn,ti ns,.sl (aW au)])),(3,.v (.box [.sl (cz cs),.sl (aG ci),ti sw])),(4,.ptr 1005 0),(5,.v (.bool false)),(18,.v (.bool c1))] ?_ ?_
 ·cases b1 with
  |false=>simp[Kp,<-b8]
  |true=>cases b2<;>simp[Kp,<-b8]
 refine aa.cond rfl (λg=>?_) (λg=>?_)
 ·rw[g]at b8;rw[aY (by rintro⟨e1,e2⟩;rw[e1,e2]at b8;simp at b8)]at hR;subst hR;apply aa.ag aC fw [4,5];simp[VC];apply aa.ret;simp[Gc]
 ·rw[g]at b8;have hb:b1=true/\b2=true:=by simpa using b8
  rw[cF hb]at hR;subst hR;have hk:=as1 hb.2;obtain⟨K,hK⟩:=be cs.length;rw[hK]at hk⊢;have asH:(2*K+1)*(2*K+1+1)<=121*122:=ZcV (by omega) (by omega);have m1:IntKind.i64.wrap (2*(K:Int))=2*(K:Int):=aF (by omega);have m2:IntKind.i64.wrap (2*(K:Int)+1)=2*(K:Int)+1:=aF (by omega);have m3:IntKind.i64.wrap (2*(K:Int)+1+1)=2*(K:Int)+1+1:=aF (by omega);have hI:(2*(K:Int)+1)*(2*(K:Int)+1+1)=(((2*K+1)*(2*K+1+1):Nat):Int):=by push_cast;rfl
  obtain⟨W,hW⟩:=be ((2*K+1)*(2*K+1+1));rw[hW]at hI asH⊢;have m4:IntKind.i64.wrap (W:Int)=(W:Int):=aF (by omega);have m5:IntKind.i64.wrap ((W:Int).tdiv 2)=((W/2:Nat):Int):=by rw[E0 (by omega),aF (by omega)];omega
  apply aa.skip;simp;apply aa.ag aC fw [2,3,4,6];simp[VD,hK,m1,m2];apply aa.ag aC fw [4,5];simp[VE,m3,hI,m4];apply aa.ret;simp[Gc];exact(aF (by omega)).symm
section
def n0:aD:=⟨1,1,0,[⟨2,0,0,0,2,0⟩]⟩
def x0:Input:=⟨[⟨0,[0],3⟩],[4],0⟩
def adK:uS n0 x0:=by decide+kernel
def b0:((gE n0 (bf x0)).getD 2 default).val=⟨2,1⟩:=by decide+kernel
def anv:(gE n0 (bf x0)).length=6:=by decide+kernel
def as2:bu aj 21 [] (.eB [n0.enc,x0.enc]):=by
 refine arm.ok (by simp) (aT ?_);simp;apply aa.ag cL fw [0,1];simp[Wb];apply aa.ag cL fw [0,1];simp[Wc,gn];apply aa.ret;simp[Nj,n0,x0,aD.enc,Input.enc,aW,dv.enc,cz,cP.enc,aG]
def e0:bw:=λ_=>none
abbrev mP(P R:Nat)(n:aD)(x:Input)(j:JS):bw:=fX e0 P R n (bf x) (gX x) j
def Ov{P R:Nat}{n:aD}{x:Input}{j:JS}(h:R<P):df (mP P R n x j) (P+1):=by
 have hrn:aO [(P,Ob.box (mo n (bf x) (gX x) (.bC R 0) j)),(R,qx n (bf x) j.pre)] e0 R≠none:=by
  simp only[aH,bL];rw[aY (by omega)];simp
 refine km (N:=0) (f:=e0) (λr o h=>by cases h) (by omega) λq hq=>?_;simp only[fN,g9,wh]at hq;rcases hq with rfl|rfl
 ·refine⟨by simp,λm hm=>?_⟩;simp only[mo,bb,bQ,aP,wa,yP,fN,g9,wh]at hm;rw[hm];exact hrn
 ·exact⟨by simp only;omega,λm hm=>by simp[qx,bb]at hm⟩
def oe{P R:Nat}{n:aD}{x:Input}{j:JS}(h:R<P):Ru n (bf x) (gX x) j (mP P R n x j) P R:=Ay (j:=j) (by omega) j
def Lc{P R:Nat}{n:aD}{x:Input}{j:JS}(h:R<P){k:Nat}(hk:P<k):∀q,k<=q->mP P R n x j q=none:=λq hq=>by
 simp only[mP,fX,aH,bL];rw[aY (by omega),aY (by omega)];rfl
def Ol(n:aD)(x:Input)(P R:Nat):aO (BW n x P R) e0=mP P R n x J0:=rfl
section
variable{P R:Nat}{n:aD}{x:Input}{j:JS}
def IN(h:R<P)(j':JS){q:Nat}(hq:mP P R n x j q=none):mP P R n x j' q=none:=by
 have:=sT (j':=j') (oe (n:=n) (x:=x) (j:=j) h) hq
 rwa [show fX (mP P R n x j) P R n (bf x) (gX x) j'=mP P R n x j' from sS]at this
def Ow(h:R<P)(I:YL n (bf x) (gX x))(hj:j.ok (gX x))(k:Int):ay aj (bB [(17,en (k1 [.ptr P 0,.v (ti k)] (mP P R n x j) (.v (ti (ln (gX x) j k:Nat))) (mP P R n x (j.cm (gX x) (ln (gX x) j k)))))]):=
 BK ay.nil (λM hM=>by
  have:=La (k:=k) hM I hj (oe h)
  rwa [show fX (mP P R n x j) P R n (bf x) (gX x) (j.cm (gX x) (ln (gX x) j k))=mP P R n x (j.cm (gX x) (ln (gX x) j k))from sS]at this) (λq hq=>IN h _ hq)
def afT(h:R<P):ay aj (bB [(18,en (k1 [.ptr P 0] (mP P R n x j) (.v (ti (j.left (gX x)))) (mP P R n x j)))]):=
 BK ay.nil (λM hM=>asX hM (oe h).box) (λq hq=>hq)
def RC(h:R<P)(hc:j.CW=true\/0<j.left (gX x)):ay aj (bB [(19,en (k1 [.ptr P 0] (mP P R n x j) (.v (.eB [.agg [ti 0,ti 0,.sl []],ti (if j.CW=true then 12 else 15)])) (mP P R n x j)))]):=
 BK ay.nil (λM hM=>anr hM (oe h).box hc) (λq hq=>hq)
def RD(h:R<P)(h1:j.CW=false)(h2:j.left (gX x)=0):ay aj (bB [(19,en (k1 [.ptr P 0] (mP P R n x j) (.eB [.agg [.v (ti n.ak),.v (ti (bf x).ba),.bC R 0],.v (ti 0)]) (mP P R n x j)))]):=
 BK ay.nil (λM hM=>Rx hM (oe h) h1 h2) (λq hq=>hq)
end
def asJ:bu aj 8 [] (.bool true):=by
 have hJ:=adK.jin (by decide);have hS:gX x0=3:=rfl;have hj0:J0.ok 3:=IL (by omega);have x7:J0.left 3=6:=by decide+kernel
 have aC:ay aj (bB [(21,dh (λts=>ts=[]) (λ_=>.eB [n0.enc,x0.enc]) false)]):=by
  refine ay.cons ay.nil ?_;rintro ts rfl;exact⟨as2,λh=>by cases h⟩
 have bZ:n0.enc=.agg [ti 1,ti 1,ti 0,.sl (aW n0.au)]:=rfl;have Dz:x0.enc=.agg [.sl (cz x0.aw),.sl (aG x0.insert),ti 0]:=rfl;refine aq3.ok (by simp) (aT ?_);simp;apply aa.ag aC fw [0];simp[Vx];apply aa.ag aC fw [0,1,2];simp[Vy,bZ,Dz];refine aa.lk (o:=[]) (l:=[(1,.v (.box [ti 1,ti 1,ti 0,.sl (aW n0.au)])),(2,.v (.box [.sl (cz x0.aw),.sl (aG x0.insert),ti 0]))]) (aZ:=1500) (by simp) ?_;refine aa.seq (aa.to ⟨DM.look [(3,.ptr 3623 0)],mP 3623 3619 n0 x0 J0,5000,1000,[]⟩ (aa.al5 cL (N':=1575+3000) [3] (pre:=[⟨.load 4 true (.tmp 1),(some 15),none,[],none⟩,⟨.load 3 true (.tmp 2),(some 16),none,[],none⟩]) (post:=[⟨.sh (.tmp 17),(some 3),none,[2,2,0,1,2],none⟩]) (rs:=Vz) rfl ?_) ?_)
 ·simp;refine⟨_,Lb (n:=n0) (x:=x0) (λq _=>rfl) adK (by decide), ?_⟩;rintro val mG ⟨rfl,rfl⟩;exact dU (Ol n0 x0 3623 3619) (Lc (by omega) (by omega)) (by simp)
 have WN:3619<3623:=by omega
 have aV:=λj=>Ov (n:=n0) (x:=x0) (j:=j) WN;have mE:=λj=>Lc (n:=n0) (x:=x0) (j:=j) WN (k:=5000) (by omega);have s1:ln (gX x0) J0 4=4:=by unfold ln;rw[aY (by simp[J0]),hS,x7];rfl
 obtain⟨ha1,o6,ha3⟩:=hj0.cm 4 (by omega);obtain⟨xV,gm,Pr⟩:=hj0.cm 6 (by omega);have W8:(J0.cm 3 4).cm 3 2=J0.cm 3 6:=Az 3 J0 4 2;obtain⟨Ja,hJa⟩:=be (J0.cm 3 4);obtain⟨Jc,hJc⟩:=be (J0.cm 3 6);rw[hJa]at ha1 o6 ha3 W8;rw[hJc]at xV gm Pr W8;have o6:Ja.left (gX x0)=2:=by rw[hS];omega
 have gm:Jc.left (gX x0)=0:=by rw[hS];omega
 have ha3:Ja.CW=false:=ha3;have Pr:Jc.CW=false:=Pr;have s2:ln (gX x0) Ja 9=2:=by unfold ln;rw[aY (by simp[ha3]),o6];rfl
 have e1:=Ow WN hJ (j:=J0) (k:=4) hj0;rw[s1,hS,hJa]at e1;have e2:=RC (n:=n0) (x:=x0) WN (j:=Ja) (.inr (by omega));rw[ha3]at e2;have e3:=afT (n:=n0) (x:=x0) WN (j:=Ja);rw[o6]at e3;have e4:=Ow WN hJ (j:=Ja) (k:=9) (by rw[hS];exact ha1);rw[s2,hS,W8]at e4;have e5:=RD (n:=n0) (x:=x0) WN (j:=Jc) Pr gm;simp;apply aa.sq cL fw [3,19];simp[VA];apply aa.c0 rfl;apply aa.skip;simp;apply aa.cY e1 fw (rs:=F7) rfl (by kernel_rfl) [3,4];simp[F7];refine aa.le (dU (l:=[(3,.ptr 3623 0),(4,.v (ti 4))]) (aZ:=5000) rfl (mE _) (by simp)) ?_;apply aa.cY e2 fw (rs:=F8) rfl (by kernel_rfl) [3,4,5,6];simp[F8];refine aa.le (Kn.ald (L:=[(5006,.box [.v (ti 0),.v (ti 0),.v (.sl [])]),(5006,.box [.v (ti 0),.v (ti 0),.aX])]) (l:=[(3,.ptr 3623 0),(4,.v (ti 4)),(6,.v (ti 15))]) (aZ:=5000) (aV Ja) (by omega) (by simp) (by omega) ?_) ?_
 ·have:=(oe (n:=n0) (x:=x0) (j:=Ja) WN).box;simp[this]
 apply aa.cY e3 fw (rs:=F9) rfl (by kernel_rfl) [3,4,6,7];simp[F9];refine aa.le (dU (l:=[(3,.ptr 3623 0),(4,.v (ti 4)),(6,.v (ti 15)),(7,.v (ti 2))]) (aZ:=5000) rfl (mE _) (by simp)) ?_;apply aa.cY e4 fw (rs:=Ga) rfl (by kernel_rfl) [3,4,6,7,8];simp[Ga];refine aa.le (dU (l:=[(3,.ptr 3623 0),(4,.v (ti 4)),(6,.v (ti 15)),(7,.v (ti 2)),(8,.v (ti 2))]) (aZ:=5000) rfl (mE _) (by simp)) ?_;apply aa.cY e5 fw (rs:=Gb) rfl (by kernel_rfl) [4,6,7,8,9,10];simp[Gb];have uF:Jc.pre=Rr 3:=xV.done (by rw[<-hS];exact gm);have uE:=(oe (n:=n0) (x:=x0) (j:=Jc) WN).bE;rw[show qx n0 (bf x0) Jc.pre=.bE 0 65 4 (bR (gE n0 (bf x0)))by rw[uF];unfold qx;rw[GZ (S:=3) rfl]]at uE;obtain⟨B,hB⟩:=be (gE n0 (bf x0));have hB6:=anv;have hB2:=b0;rw[hB]at uE hB6 hB2;have jH:=vJ (l:=B) (y:=2) (by omega);obtain⟨⟨ca,cb,cc,cd⟩,gZ⟩:=be (B.getD 2 default);rw[gZ]at jH hB2;simp only[Cell.val,dg.mk.injEq]at hB2;obtain⟨rfl,rfl⟩:=hB2;have au0:(bR B).length=6:=by simp[bR,hB6]
 refine aa.le (dU (mG:=aO [(5010,.box [.v (ti 1),.v (ti 3),.bC 3619 0]),(5010,.box [.v (ti 0),.v (ti 0),.aX])] (mP 3623 3619 n0 x0 Jc)) (l:=[(4,.v (ti 4)),(6,.v (ti 15)),(7,.v (ti 2)),(8,.v (ti 2)),(9,.ptr 5010 0),(10,.v (ti 0))]) (aZ:=5075) rfl (λq hq=>by
  rw[aH,aY (by omega),aH,aY (by omega)];exact mE Jc q (by omega)) (by simp)) ?_
 refine aa.cH cL fw [(0,.v (.bool true))] ?_ ?_
 ·have jH:DM.rowAt (bR B) 2=_:=jH;simp[Ni,uE,au0,jH,Cell.enc]
 apply aa.ret;simp[dj]
end
def qw.ci{n:aD}{x:Input}(h:qw n x):x.insert.length<=6/\x.aw.length<=4:=by
 have:=h.2.1;omega
def alg(n:aD)(x:Input)(h1:n.au.length<=9223372036854775807)(h2:x.insert.length<=9223372036854775807){b:Bool}(hb:decide (qw n x)=b):
  ay aj (bB [(10,dh (λts=>ts=[n.enc,x.enc]) (λ_=>.bool b) true),(9,dh (λts=>ts=[n.enc,x.enc]) (λ_=>vV n x) false),(8,dh (λts=>ts=[]) (λ_=>.bool true) true)]):=by
 refine ay.cons (ay.cons (ay.cons ay.nil ?_) ?_) ?_
 ·rintro ts rfl;exact⟨asJ,λ_=>rfl⟩
 ·rintro ts rfl;exact⟨asK n x h1 h2,λh=>by cases h⟩
 ·rintro ts rfl;rw[<-hb];exact⟨adI n x,λ_=>rfl⟩
def Og{n:aD}{x:Input}(h:uS n x):vV n x=.eB [RJ.enc ⟨n,x,((gX x*(gX x+1)/2:Nat):Int),0,false⟩,.bool true]:=by
 unfold vV;rw[cF ((WJ n x).2 h)]
def Oh{n:aD}{x:Input}(h:¬uS n x):vV n x=.eB [IK,.bool false]:=by
 unfold vV;rw[aY (λe=>h ((WJ n x).1 e))]
def afO(S:Nat)(h:1<=S):J0.left S=S*(S+1)/2:=by
 have:=(IL h).WK;have h3:=WL S;have h5:J0.pre.length=0:=rfl;omega
section
variable{tm:dn}
def G1{f g:bw}{tm:dn}:∀{l:eO},fk tm l->(∀p∈l,∃t,p.2=.v t)->fK f g id tm l
 |[],_,_=>trivial
 |(k,d)::l,h,hv=>by
  obtain⟨t,ht⟩:=hv _ (Zk ..);simp only at ht;subst ht;refine⟨?_,G1 h.2 λp hp=>hv p (Zl _ hp)⟩;rw[h.1];exact .inr rfl
def WM{tm:dn}:∀{l:eO},fk tm l->∀p∈l,DM.look l p.1=tm p.1
 |(j,d)::l,h,p,hp=>by
  rw[nK];split
  ·rename_i e;rw[e];exact h.1.symm
  ·rename_i e;rcases fN.1 hp with rfl|hp
   ·exact eA rfl e
   ·exact WM h.2 p hp
def BV{tm:dn}:∀{l:eO},fk tm l↔∀p∈l,tm p.1=p.2
 |[]=>by simp[fk]
 |(k,d)::l=>by simp[fk,BV (l:=l)]
def Rt{l:eO}{k:Nat}{d:DV}(hl:fk tm l)(hk:∀p∈l,p.1≠k):fk (DM.look ((k,d)::l)) l:=by
 rw[BV];intro p hp;rw[nK,aY (hk p hp),WM hl p hp];exact BV.1 hl p hp
def Oi{f:bw}{k X R:Nat}{a b:Int}{e sz:Nat}{av:List (aL)}{l:eO}{aK aZ:Nat}(hX:f X=some (.box [.v (ti a),.v (ti b),.bC R 0]))(hR:f R=some (.bE 0 e sz av))(hXn:X<aZ)(hX0:1000<=X)(A1:∀r,r<1000->f r=none)
  (hk:tm k=.ptr X 0) (hl:fk tm l) (hv:∀p∈l,∃t,p.2=.v t) (Il:∀p∈l,p.1≠k):
  Le ⟨tm,f,aK,1000,[]⟩ ⟨DM.look ((k,.v (.box [ti a,ti b,.sl av]))::l),cJ [],aZ,1000,[]⟩:=by
 have hXR:R≠X:=λh=>by rw[h,hX]at hR;cases hR
 have avM:X≠R:=λh=>hXR h.symm;refine Le.trans (b:=⟨DM.look ((k,.ptr X 0)::l),cJ [(X,.box [.v (ti a),.v (ti b),.v (.sl av)])],aZ,1000,[]⟩) ?_ (Le.bF (o:=[]) (l:=(k,.v (.box [ti a,ti b,.sl av]))::l) ?_ ?_ ?_ ?_)
 ·refine Le.XT rfl rfl (λr hr=>?_) (λr o h=>?_) (λr hr o h=>?_) (λq=>mI ((k,.ptr X 0)::l) ⟨?_,G1 hl hv⟩ q)
  ·have:r≠X:=by simp only at hr;omega
   simp[cJ,this]
  ·simp only[cJ]at h;split at h
   ·rename_i e1;subst e1;cases h;refine⟨_,hX,.inl ?_⟩;refine⟨.inr rfl,.inr rfl,.inr ⟨⟨_,_,hR⟩, ?_⟩,rfl⟩;intro r' gS e2;simp only[id]at e2;subst e2;exact gS (by simp[cJ,hXR])
   ·cases h
  ·simp only at hr h;rw[A1 r hr]at h;cases h
  ·rw[hk];exact .inr ⟨rfl,rfl,_,show cJ _ X=_ by rw[cJ,cF rfl]⟩
 ·exact⟨hX0,trivial⟩
 ·trivial
 ·trivial
 ·refine⟨?_,G1 (Rt hl Il) hv⟩;show iY _ _ id (DM.look ((k,.ptr X 0)::l) k) _;rw[nK,cF rfl];exact .inr ⟨rfl,by simp[cJ],λ_ h=>eA rfl h⟩
section
variable{P R X:Nat}{n:aD}{x:Input}{j:JS}{o:Ob}
def IM{S:Nat}(h1:j.ok S)(h2:j.left S=0){l:aU}(hS:l.ba=S):qx n l j.pre=.bE 0 65 4 (bR (gE n l)):=by
 unfold qx;rw[h1.done h2,GZ hS]
end
def YK{n:aD}{l:aU}{S:Nat}(I:YL n l S):(gE n l).length<=1000000000:=by
 have hn:=I.hn;have hl:=I.hl;have h1:=(X1 hn hl).1;have h2:=sJ (nn:=n.ak) (st:=l.ba) (by have:=hl.1;omega);have hb:=kD hl.2.1 l.ba.toNat (by have:=hl.1;omega);have:=gM (a:=n.ak) (A:=1000) (b:=pre l.ba l.ba.toNat) (B:=1000000) (by have:=hn.1;omega) hn.2.1 hb.1 (by have:=hl.2.1;have:=hl.1;omega);omega
end
section
variable{al:Bool}{A P:Nat}
def zb:Ob:=.box [.v (ti 0),.v (ti 0),.aX]
def Bu(P R:Nat)(n:aD)(x:Input)(j:JS)(c f:Bool):bw:=if f=true then mP P R n x j else if c=true then mP P R n x J0 else e0
def mX(al:Bool)(A:Nat)(o:Ob)(f:bw):bw:=if al=true then aO [(A,o)] f else f
def Ko{R:Nat}{o:Ob}{n:aD}{x:Input}{j j':JS}(h1:A≠P)(h2:A≠R):fX (mX al A o (mP P R n x j)) P R n (bf x) (gX x) j'=mX al A o (mP P R n x j'):=by
 unfold mX;split
 ·exact YT h1 h2
 ·exact sS
def YM{R:Nat}{o:Ob}{n:aD}{x:Input}{j:JS}(h:R<P)(h1:A≠P)(h2:A≠R):Ru n (bf x) (gX x) j (mX al A o (mP P R n x j)) P R:=by
 have:=oe (n:=n) (x:=x) (j:=j) h;unfold mX;split
 ·exact⟨by rw[aH,aY (λe=>h1 e.symm)];exact this.box,by rw[aH,aY (λe=>h2 e.symm)];exact this.bE⟩
 ·exact this
def K9{R:Nat}{o:Ob}{n:aD}{x:Input}(h1:A≠P)(h2:A≠R):aO (BW n x P R) (mX al A o e0)=mX al A o (mP P R n x J0):=by
 unfold mX;split
 ·funext q;simp only[BW,mP,fX,aH,bL];by_cases e:q=A
  ·subst e;simp[h1,h2]
  ·simp only[aY e];rfl
 ·rfl
def afQ(P R A:Nat)(n:aD)(x:Input)(k:Int):bG->bw->fV:=λargs ab=>⟨args=[.ptr P 0,.v (ti k)]/\(ab=mX false A zb (mP P R n x J0)\/ab=mX true A zb (mP P R n x J0)),.eB [.agg [.v (ti n.ak),.v (ti (bf x).ba),.bC R 0],.v (ti 0)],fX ab P R n (bf x) (gX x) (J0.cm (gX x) (J0.left (gX x)))⟩
def MG(P R A:Nat)(n:aD)(x:Input)(k:Int)(args:bG)(ab:bw):afQ P R A n x k args ab=⟨args=[.ptr P 0,.v (ti k)]/\(ab=mX false A zb (mP P R n x J0)\/ab=mX true A zb (mP P R n x J0)),.eB [.agg [.v (ti n.ak),.v (ti (bf x).ba),.bC R 0],.v (ti 0)],fX ab P R n (bf x) (gX x) (J0.cm (gX x) (J0.left (gX x)))⟩:=rfl
def ack{R:Nat}{n:aD}{x:Input}{k:Int}(h:R<P)(h1:A≠P)(h2:A≠R)(I:YL n (bf x) (gX x))(hk:1<=k)(hl:J0.left (gX x)<=1000):ay aj (bB [(11,en (afQ P R A n x k))]):=
 ay.ij ay.nil (by
  have key:∀al,∀N,(∀r,N<=r->mX al A zb (mP P R n x J0) r=none)->aQ aj 11 [.ptr P 0,.v (ti k)] (mX al A zb (mP P R n x J0)) ⟨True,.eB [.agg [.v (ti n.ak),.v (ti (bf x).ba),.bC R 0],.v (ti 0)],fX (mX al A zb (mP P R n x J0)) P R n (bf x) (gX x) (J0.cm (gX x) (J0.left (gX x)))⟩:=λal N hN=>asM hN I (IL I.sY) (YM h h1 h2) rfl hk hl;have nn:∀al q,mX al A zb (mP P R n x J0) q=none->fX (mX al A zb (mP P R n x J0)) P R n (bf x) (gX x) (J0.cm (gX x) (J0.left (gX x))) q=none:=λal q hq=>sT (YM h h1 h2) hq;rintro args ab ⟨rfl,rfl|rfl⟩
  ·exact⟨λN hN=>aQ.of (key false N hN) rfl rfl,nn false⟩
  ·exact⟨λN hN=>aQ.of (key true N hN) rfl rfl,nn true⟩)
def tT:ai:=[
 L 4 3 30 [],
 L 3 4 31 [],
 o (.call 12 [(t 30),(t 31)]) 32 [0,1],
 o (.arrAddr 2 1 (t 5) (i 0)) 33 [],
 l 33 34 [3],
 o (.conv .i64 (t 34)) 35 [4],
 o (.bin .add (i 1) (t 35)) 36 [5],
 o (.callS 11 [(t 32),(t 36)]) 37 [2,6,2],
 m 37 29 [7],
 e 0 29 38 [8],
 e 1 29 39 [8],
 o (.alloc [V 0,V 0,.aX]) 9 [],
 S 3 9 38 [11,9,7,0,1,2,3,4,5,6,7,8,9,11],
 m 39 10 (k [10,12] 12)]
def acl{n:aD}{x:Input}{a b:Nat}(ha:a<256)(hb:b<256)(hp:uS n x)(h6:x.insert.length<=100)(hl:J0.left (gX x)<=1000):
  aa aj 62 (.region true G2) (λe s=>e=.normal/\Le s ⟨DM.look [(9,.v (.box [ti n.ak,ti (bf x).ba,.sl (bR (gE n (bf x)))])),(3,.v (.box [ti n.aM,ti n.ak,ti n.start,.sl (aW n.au)])),(4,.v (.box [.sl (cz x.aw),.sl (aG x.insert),ti x.swap])),(5,.v (.box [.int .u8 a,.int .u8 b])),(10,.v (ti 0))],cJ [],5000,1000,[]⟩) ⟨DM.look [(3,.v (.box [ti n.aM,ti n.ak,ti n.start,.sl (aW n.au)])),(4,.v (.box [.sl (cz x.aw),.sl (aG x.insert),ti x.swap])),(5,.v (.box [.int .u8 a,.int .u8 b]))],cJ [],1500,1000,[]⟩:=by
 have hJ:=hp.jin h6;have aC:=ack (P:=3611) (R:=3607) (A:=1510) (n:=n) (x:=x) (k:=1+(a:Int)) (by omega) (by omega) (by omega) hJ (by omega) hl;have hjo:=(IL hJ.sY).cm (J0.left (gX x)) (fq _);refine aa.apF aC fw (rs:=tT) rfl (by kernel_rfl) [3,4,5,9,10] 4563 (λD s=>s.todo=[]/\(D 12=false->s.ab=mX (D 11) 1510 zb (Bu 3611 3607 n x (J0.cm (gX x) (J0.left (gX x))) (D 2) (D 7)))/\(D 12=true->s.ab=aO [(1510,.box [.v (ti n.ak),.v (ti (bf x).ba),.bC 3607 0])] (mP 3611 3607 n x (J0.cm (gX x) (J0.left (gX x)))))/\s.tmps 3=.v (.box [ti n.aM,ti n.ak,ti n.start,.sl (aW n.au)])/\s.tmps 4=.v (.box [.sl (cz x.aw),.sl (aG x.insert),ti x.swap])/\s.tmps 5=.v (.box [.int .u8 a,.int .u8 b])/\(D 0=true->s.tmps 30=.v (.agg [ti n.aM,ti n.ak,ti n.start,.sl (aW n.au)]))/\(D 1=true->s.tmps 31=.v (.agg [.sl (cz x.aw),.sl (aG x.insert),ti x.swap]))/\(D 2=true->s.tmps 32=.ptr 3611 0)/\(D 3=true->s.tmps 33=.jd [.int .u8 a,.int .u8 b] 0)/\(D 4=true->s.tmps 34=.v (.int .u8 a))/\(D 5=true->s.tmps 35=.v (ti a))/\(D 6=true->s.tmps 36=.v (ti (1+(a:Int))))/\(D 7=true->s.tmps 37=.eB [.agg [.v (ti n.ak),.v (ti (bf x).ba),.bC 3607 0],.v (ti 0)])/\(D 8=true->s.tmps 29=.eB [.agg [.v (ti n.ak),.v (ti (bf x).ba),.bC 3607 0],.v (ti 0)])/\(D 9=true->s.tmps 38=.agg [.v (ti n.ak),.v (ti (bf x).ba),.bC 3607 0])/\(D 10=true->s.tmps 39=.v (ti 0))/\(D 11=true->s.tmps 9=.ptr 1510 0)/\(D 13=true->s.tmps 10=.v (ti 0))) (λh=>?_) ?_ ?_ rfl
 ·simp[mX,Bu];rfl
 ·rintro D i r ⟨tm,ob,td⟩ hr hi o6 aV ⟨rfl,i1,i2,k3,k4,k5,v0,v1,v2,v3,v4,v5,v6,v7,v8,v9,v10,v11,v13⟩;simp only at i1 i2 k3 k4 k5 v0 v1 v2 v3 v4 v5 v6 v7 v8 v9 v10 v11 v13;have hP:∀c f q,1500<=q->q<1563->Bu 3611 3607 n x (J0.cm (gX x) (J0.left (gX x))) c f q=none:=λc f q h1 h2=>by
   unfold Bu;have:∀j,mP 3611 3607 n x j q=none:=λj=>by
    simp only[mP,fX,aH,bL];rw[aY (by omega),aY (by omega)];rfl
   split
   ·exact this _
   ·split
    ·exact this _
    ·rfl
  have mE:∀q,1500<=q->q<1563->q≠1510->ob q=none:=λq h1 h2 h3=>by
   cases Bs:D 12 with
   |false=>
    rw[i1 Bs];unfold mX;split
    ·rw[aH,aY h3];exact hP _ _ q h1 h2
    ·exact hP _ _ q h1 h2
   |true=>
    rw[i2 Bs,aH,aY h3];have:=hP true true q h1 h2;simpa [Bu]using this
  have d12:∀j,j∈[11,9,7,0,1,2,3,4,5,6,8]->D j=false->D 12=false:=λj hj hf=>by
   cases h:D 12 with
   |false=>rfl
   |true=>
    have:=aV 12 _ rfl h j (by simp only[fN,g9,wh]at hj⊢;omega);rw[hf]at this;cases this
  have d7:∀j,j∈[2,6]->D j=false->D 7=false:=λj hj hf=>by
   cases h:D 7 with
   |false=>rfl
   |true=>
    have:=aV 7 _ rfl h j (by simp only[fN,g9,wh]at hj⊢;omega);rw[hf]at this;cases this
  have w1:IntKind.i64.wrap (a:Int)=(a:Int):=aF (by omega);have w2:IntKind.i64.wrap (1+(a:Int))=1+(a:Int):=aF (by omega);rcases i with _|_|_|_|_|_|_|_|_|_|_|_|_|_|i;all_goals simp only[tT,HK,JE,Zdl,cu,reduceCtorEq]at hr
  all_goals subst hr
  ·refine .of (mE 1531 (by omega) (by omega) (by omega)) ?_;simp[k3,wQ,w1,w2];repeat' first|assumption|exact rfl|refine⟨?_, ?_⟩
  ·refine .of (mE 1532 (by omega) (by omega) (by omega)) ?_;simp[k4,wQ,w1,w2];repeat' first|assumption|exact rfl|refine⟨?_, ?_⟩
  ·have Bs:=d12 2 (by simp) hi;have h7:=d7 2 (by simp) hi;have h1:=i1 Bs;rw[hi,h7]at h1;have h1:ob=mX (D 11) 1510 zb e0:=by simpa [Bu]using h1
   have q0:=v0 (o6 0 (by simp));have q1:=v1 (o6 1 (by simp));refine .inr ⟨_,_,_,_,1563,4563,λval mG=>val=.ptr (1563+2048) 0/\mG=aO (BW n x (1563+2048) (1563+2044)) ob,rfl, ?_, ?_⟩
   ·simp only[qD,SK,bW.ev,q0,q1];exact Lb (λq hq=>by
     rw[h1];unfold mX;split
     ·rw[aH,aY (by omega)];rfl
     ·rfl) hp h6
   ·rintro val mG ⟨rfl,rfl⟩;have e:=K9 (al:=D 11) (A:=1510) (P:=3611) (R:=3607) (o:=zb) (n:=n) (x:=x) (by omega) (by omega);rw[h1];simp[wQ,Bs,h7,Bu,e];repeat' first|assumption|exact rfl|refine⟨?_, ?_⟩
  ·refine .of (mE 1534 (by omega) (by omega) (by omega)) ?_;simp[k5,wQ,w1,w2];repeat' first|assumption|exact rfl|refine⟨?_, ?_⟩
  ·refine .of (mE 1535 (by omega) (by omega) (by omega)) ?_;simp[v3 (o6 3 (by simp)),wQ,w1,w2];repeat' first|assumption|exact rfl|refine⟨?_, ?_⟩
  ·refine .of (mE 1536 (by omega) (by omega) (by omega)) ?_;simp[v4 (o6 4 (by simp)),wQ,w1,w2];repeat' first|assumption|exact rfl|refine⟨?_, ?_⟩
  ·refine .of (mE 1537 (by omega) (by omega) (by omega)) ?_;simp[v5 (o6 5 (by simp)),wQ,w1,w2];repeat' first|assumption|exact rfl|refine⟨?_, ?_⟩
  ·have Bs:=d12 7 (by simp) hi;have h1:=i1 Bs;rw[hi,o6 2 (by simp)]at h1;have h1:ob=mX (D 11) 1510 zb (mP 3611 3607 n x J0):=by simpa [Bu]using h1
   have q0:=v2 (o6 2 (by simp));have q1:=v6 (o6 6 (by simp));refine .of (mE 1538 (by omega) (by omega) (by omega)) ?_;have e:=Ko (al:=D 11) (A:=1510) (P:=3611) (R:=3607) (o:=zb) (n:=n) (x:=x) (j:=J0) (j':=J0.cm (gX x) (J0.left (gX x))) (by omega) (by omega);have e2:ob=mX false 1510 zb (mP 3611 3607 n x J0)\/ob=mX true 1510 zb (mP 3611 3607 n x J0):=by
    rw[h1];cases D 11
    ·exact .inl rfl
    ·exact .inr rfl
   rw[<-h1]at e;simp[q0,q1,wQ,MG,e2,Bs,Bu,e];repeat' first|assumption|exact rfl|refine⟨?_, ?_⟩
  ·refine .of (mE 1530 (by omega) (by omega) (by omega)) ?_;simp[v7 (o6 7 (by simp)),wQ,w1,w2];repeat' first|assumption|exact rfl|refine⟨?_, ?_⟩
  ·refine .of (mE 1539 (by omega) (by omega) (by omega)) ?_;simp[v8 (o6 8 (by simp)),wQ,w1,w2];repeat' first|assumption|exact rfl|refine⟨?_, ?_⟩
  ·refine .of (mE 1540 (by omega) (by omega) (by omega)) ?_;simp[v8 (o6 8 (by simp)),wQ,w1,w2];repeat' first|assumption|exact rfl|refine⟨?_, ?_⟩
  ·have Bs:=d12 11 (by simp) hi;have h1:=i1 Bs;rw[hi]at h1;have h1:ob=Bu 3611 3607 n x (J0.cm (gX x) (J0.left (gX x))) (D 2) (D 7):=by simpa [mX]using h1
   refine .of (by rw[h1];exact hP _ _ _ (by simp[nm,bV]) (by simp[nm,bV])) ?_;simp[wQ,Bs,mX,<-h1];refine⟨rfl, ?_⟩;repeat' first|assumption|exact rfl|refine⟨?_, ?_⟩
  ·have h1:=i1 hi;rw[o6 11 (by simp),o6 7 (by simp)]at h1;have h1:ob=aO [(1510,zb)] (mP 3611 3607 n x (J0.cm (gX x) (J0.left (gX x)))):=by simpa [Bu,mX]using h1
   have q0:=v11 (o6 11 (by simp));have q1:=v9 (o6 9 (by simp));refine .of (mE 1500 (by omega) (by omega) (by omega)) ?_;subst h1;simp[q0,q1,wQ,zb];refine⟨by funext q;simp only[aH,bL];split<;>rfl, ?_⟩
   repeat' first|assumption|exact rfl|refine⟨?_, ?_⟩
  ·refine .of (mE 1511 (by omega) (by omega) (by omega)) ?_;simp[v10 (o6 10 (by simp)),wQ,w1,w2];repeat' first|assumption|exact rfl|refine⟨?_, ?_⟩
 ·rintro D ⟨tm,ob,td⟩ hD ⟨rfl,i1,i2,k3,k4,k5,v0,v1,v2,v3,v4,v5,v6,v7,v8,v9,v10,v11,v13⟩;have Bs:=i2 (hD 12 (by simp[tT]));have q1:=v11 (hD 11 (by simp[tT]));have q2:=v13 (hD 13 (by simp[tT]));simp only at k3 k4 k5 Bs q1 q2;have uE:=(oe (P:=3611) (R:=3607) (n:=n) (x:=x) (j:=J0.cm (gX x) (J0.left (gX x))) (by omega)).bE;rw[IM hjo.1 (by omega) hJ.hS]at uE;refine⟨λq hq=>?_,rfl, ?_⟩
  ·show ob q=none;rw[Bs,aH,aY (by omega)];exact Lc (by omega) (by omega) q hq
  ·subst Bs;refine Oi (k:=9) (X:=1510) (R:=3607) (av:=bR (gE n (bf x))) (aZ:=5000) (show aO _ _ _=_ by rw[aH,cF rfl]) (show aO _ _ _=_ by rw[aH,aY (by omega)];exact uE) (by omega) (by omega) (λq hq=>?_) (by simp[lU,q1]) (by simp[lU,k3,k4,k5,q2]) (by simp) (by simp);show aO _ _ q=none;rw[aH,aY (by omega)];simp only[mP,fX,aH,bL];rw[aY (by omega),aY (by omega)];rfl
def x8:ai:=[
 L 4 3 41 [],
 L 3 4 42 [],
 o (.call 12 [(t 41),(t 42)]) 43 [0,1],
 o (.arrAddr 2 1 (t 5) (i 1)) 44 [],
 l 44 45 [3],
 o (.conv .i64 (t 45)) 46 [4],
 o (.bin .add (i 1) (t 46)) 47 [5],
 o (.callS 11 [(t 43),(t 47)]) 48 [2,6,2],
 m 48 40 [7],
 e 0 40 49 [8],
 e 1 40 50 [8],
 o (.alloc [V 0,V 0,.aX]) 11 [],
 S 3 11 49 [11,9,7,0,1,2,3,4,5,6,7,8,9,11],
 m 50 12 (k [10,12] 12)]
def ae4{n:aD}{x:Input}{a b:Nat}(ha:a<256)(hb:b<256)(hp:uS n x)(h6:x.insert.length<=100)(hl:J0.left (gX x)<=1000):
  aa aj 62 (.region true G3) (λe s=>e=.normal/\Le s ⟨DM.look [(11,.v (.box [ti n.ak,ti (bf x).ba,.sl (bR (gE n (bf x)))])),(3,.v (.box [ti n.aM,ti n.ak,ti n.start,.sl (aW n.au)])),(4,.v (.box [.sl (cz x.aw),.sl (aG x.insert),ti x.swap])),(5,.v (.box [.int .u8 a,.int .u8 b])),(9,.v (.box [ti n.ak,ti (bf x).ba,.sl (bR (gE n (bf x)))])),(10,.v (ti 0)),(12,.v (ti 0))],cJ [],8500,1000,[]⟩) ⟨DM.look [(3,.v (.box [ti n.aM,ti n.ak,ti n.start,.sl (aW n.au)])),(4,.v (.box [.sl (cz x.aw),.sl (aG x.insert),ti x.swap])),(5,.v (.box [.int .u8 a,.int .u8 b])),(9,.v (.box [ti n.ak,ti (bf x).ba,.sl (bR (gE n (bf x)))])),(10,.v (ti 0))],cJ [],5000,1000,[]⟩:=by
 have hJ:=hp.jin h6;have aC:=ack (P:=7111) (R:=7107) (A:=5012) (n:=n) (x:=x) (k:=1+(b:Int)) (by omega) (by omega) (by omega) hJ (by omega) hl;have hjo:=(IL hJ.sY).cm (J0.left (gX x)) (fq _);refine aa.apF aC fw (rs:=x8) rfl (by kernel_rfl) [3,4,5,9,10,11,12] 8063 (λD s=>s.todo=[]/\(D 12=false->s.ab=mX (D 11) 5012 zb (Bu 7111 7107 n x (J0.cm (gX x) (J0.left (gX x))) (D 2) (D 7)))/\(D 12=true->s.ab=aO [(5012,.box [.v (ti n.ak),.v (ti (bf x).ba),.bC 7107 0])] (mP 7111 7107 n x (J0.cm (gX x) (J0.left (gX x)))))/\s.tmps 3=.v (.box [ti n.aM,ti n.ak,ti n.start,.sl (aW n.au)])/\s.tmps 4=.v (.box [.sl (cz x.aw),.sl (aG x.insert),ti x.swap])/\s.tmps 5=.v (.box [.int .u8 a,.int .u8 b])/\s.tmps 9=.v (.box [ti n.ak,ti (bf x).ba,.sl (bR (gE n (bf x)))])/\s.tmps 10=.v (ti 0)/\(D 0=true->s.tmps 41=.v (.agg [ti n.aM,ti n.ak,ti n.start,.sl (aW n.au)]))/\(D 1=true->s.tmps 42=.v (.agg [.sl (cz x.aw),.sl (aG x.insert),ti x.swap]))/\(D 2=true->s.tmps 43=.ptr 7111 0)/\(D 3=true->s.tmps 44=.jd [.int .u8 a,.int .u8 b] 1)/\(D 4=true->s.tmps 45=.v (.int .u8 b))/\(D 5=true->s.tmps 46=.v (ti b))/\(D 6=true->s.tmps 47=.v (ti (1+(b:Int))))/\(D 7=true->s.tmps 48=.eB [.agg [.v (ti n.ak),.v (ti (bf x).ba),.bC 7107 0],.v (ti 0)])/\(D 8=true->s.tmps 40=.eB [.agg [.v (ti n.ak),.v (ti (bf x).ba),.bC 7107 0],.v (ti 0)])/\(D 9=true->s.tmps 49=.agg [.v (ti n.ak),.v (ti (bf x).ba),.bC 7107 0])/\(D 10=true->s.tmps 50=.v (ti 0))/\(D 11=true->s.tmps 11=.ptr 5012 0)/\(D 13=true->s.tmps 12=.v (ti 0))) (λh=>?_) ?_ ?_ rfl
 ·simp[mX,Bu];rfl
 ·rintro D i r ⟨tm,ob,td⟩ hr hi o6 aV ⟨rfl,i1,i2,k3,k4,k5,k9,k10,v0,v1,v2,v3,v4,v5,v6,v7,v8,v9,v10,v11,v13⟩;simp only at i1 i2 k3 k4 k5 k9 k10 v0 v1 v2 v3 v4 v5 v6 v7 v8 v9 v10 v11 v13;have hP:∀c f q,5000<=q->q<5063->Bu 7111 7107 n x (J0.cm (gX x) (J0.left (gX x))) c f q=none:=λc f q h1 h2=>by
   unfold Bu;have:∀j,mP 7111 7107 n x j q=none:=λj=>by
    simp only[mP,fX,aH,bL];rw[aY (by omega),aY (by omega)];rfl
   split
   ·exact this _
   ·split
    ·exact this _
    ·rfl
  have mE:∀q,5000<=q->q<5063->q≠5012->ob q=none:=λq h1 h2 h3=>by
   cases Bs:D 12 with
   |false=>
    rw[i1 Bs];unfold mX;split
    ·rw[aH,aY h3];exact hP _ _ q h1 h2
    ·exact hP _ _ q h1 h2
   |true=>
    rw[i2 Bs,aH,aY h3];have:=hP true true q h1 h2;simpa [Bu]using this
  have d12:∀j,j∈[11,9,7,0,1,2,3,4,5,6,8]->D j=false->D 12=false:=λj hj hf=>by
   cases h:D 12 with
   |false=>rfl
   |true=>
    have:=aV 12 _ rfl h j (by simp only[fN,g9,wh]at hj⊢;omega);rw[hf]at this;cases this
  have d7:∀j,j∈[2,6]->D j=false->D 7=false:=λj hj hf=>by
   cases h:D 7 with
   |false=>rfl
   |true=>
    have:=aV 7 _ rfl h j (by simp only[fN,g9,wh]at hj⊢;omega);rw[hf]at this;cases this
  have w1:IntKind.i64.wrap (b:Int)=(b:Int):=aF (by omega);have w2:IntKind.i64.wrap (1+(b:Int))=1+(b:Int):=aF (by omega);rcases i with _|_|_|_|_|_|_|_|_|_|_|_|_|_|i;all_goals simp only[x8,HK,JE,Zdl,cu,reduceCtorEq]at hr
  all_goals subst hr
  ·refine .of (mE 5042 (by omega) (by omega) (by omega)) ?_;simp[k3,wQ,w1,w2];repeat' first|assumption|exact rfl|refine⟨?_, ?_⟩
  ·refine .of (mE 5043 (by omega) (by omega) (by omega)) ?_;simp[k4,wQ,w1,w2];repeat' first|assumption|exact rfl|refine⟨?_, ?_⟩
  ·have Bs:=d12 2 (by simp) hi;have h7:=d7 2 (by simp) hi;have h1:=i1 Bs;rw[hi,h7]at h1;have h1:ob=mX (D 11) 5012 zb e0:=by simpa [Bu]using h1
   have q0:=v0 (o6 0 (by simp));have q1:=v1 (o6 1 (by simp));refine .inr ⟨_,_,_,_,5063,8063,λval mG=>val=.ptr (5063+2048) 0/\mG=aO (BW n x (5063+2048) (5063+2044)) ob,rfl, ?_, ?_⟩
   ·simp only[qD,SK,bW.ev,q0,q1];exact Lb (λq hq=>by
     rw[h1];unfold mX;split
     ·rw[aH,aY (by omega)];rfl
     ·rfl) hp h6
   ·rintro val mG ⟨rfl,rfl⟩;have e:=K9 (al:=D 11) (A:=5012) (P:=7111) (R:=7107) (o:=zb) (n:=n) (x:=x) (by omega) (by omega);rw[h1];simp[wQ,Bs,h7,Bu,e];repeat' first|assumption|exact rfl|refine⟨?_, ?_⟩
  ·refine .of (mE 5045 (by omega) (by omega) (by omega)) ?_;simp[k5,wQ,w1,w2];repeat' first|assumption|exact rfl|refine⟨?_, ?_⟩
  ·refine .of (mE 5046 (by omega) (by omega) (by omega)) ?_;simp[v3 (o6 3 (by simp)),wQ,w1,w2];repeat' first|assumption|exact rfl|refine⟨?_, ?_⟩
  ·refine .of (mE 5047 (by omega) (by omega) (by omega)) ?_;simp[v4 (o6 4 (by simp)),wQ,w1,w2];repeat' first|assumption|exact rfl|refine⟨?_, ?_⟩
  ·refine .of (mE 5048 (by omega) (by omega) (by omega)) ?_;simp[v5 (o6 5 (by simp)),wQ,w1,w2];repeat' first|assumption|exact rfl|refine⟨?_, ?_⟩
  ·have Bs:=d12 7 (by simp) hi;have h1:=i1 Bs;rw[hi,o6 2 (by simp)]at h1;have h1:ob=mX (D 11) 5012 zb (mP 7111 7107 n x J0):=by simpa [Bu]using h1
   have q0:=v2 (o6 2 (by simp));have q1:=v6 (o6 6 (by simp));refine .of (mE 5049 (by omega) (by omega) (by omega)) ?_;have e:=Ko (al:=D 11) (A:=5012) (P:=7111) (R:=7107) (o:=zb) (n:=n) (x:=x) (j:=J0) (j':=J0.cm (gX x) (J0.left (gX x))) (by omega) (by omega);have e2:ob=mX false 5012 zb (mP 7111 7107 n x J0)\/ob=mX true 5012 zb (mP 7111 7107 n x J0):=by
    rw[h1];cases D 11
    ·exact .inl rfl
    ·exact .inr rfl
   rw[<-h1]at e;simp[q0,q1,wQ,MG,e2,Bs,Bu,e];repeat' first|assumption|exact rfl|refine⟨?_, ?_⟩
  ·refine .of (mE 5041 (by omega) (by omega) (by omega)) ?_;simp[v7 (o6 7 (by simp)),wQ,w1,w2];repeat' first|assumption|exact rfl|refine⟨?_, ?_⟩
  ·refine .of (mE 5050 (by omega) (by omega) (by omega)) ?_;simp[v8 (o6 8 (by simp)),wQ,w1,w2];repeat' first|assumption|exact rfl|refine⟨?_, ?_⟩
  ·refine .of (mE 5051 (by omega) (by omega) (by omega)) ?_;simp[v8 (o6 8 (by simp)),wQ,w1,w2];repeat' first|assumption|exact rfl|refine⟨?_, ?_⟩
  ·have Bs:=d12 11 (by simp) hi;have h1:=i1 Bs;rw[hi]at h1;have h1:ob=Bu 7111 7107 n x (J0.cm (gX x) (J0.left (gX x))) (D 2) (D 7):=by simpa [mX]using h1
   refine .of (by rw[h1];exact hP _ _ _ (by simp[nm,bV]) (by simp[nm,bV])) ?_;simp[wQ,Bs,mX,<-h1];refine⟨rfl, ?_⟩;repeat' first|assumption|exact rfl|refine⟨?_, ?_⟩
  ·have h1:=i1 hi;rw[o6 11 (by simp),o6 7 (by simp)]at h1;have h1:ob=aO [(5012,zb)] (mP 7111 7107 n x (J0.cm (gX x) (J0.left (gX x)))):=by simpa [Bu,mX]using h1
   have q0:=v11 (o6 11 (by simp));have q1:=v9 (o6 9 (by simp));refine .of (mE 5000 (by omega) (by omega) (by omega)) ?_;subst h1;simp[q0,q1,wQ,zb];refine⟨by funext q;simp only[aH,bL];split<;>rfl, ?_⟩
   repeat' first|assumption|exact rfl|refine⟨?_, ?_⟩
  ·refine .of (mE 5013 (by omega) (by omega) (by omega)) ?_;simp[v10 (o6 10 (by simp)),wQ,w1,w2];repeat' first|assumption|exact rfl|refine⟨?_, ?_⟩
 ·rintro D ⟨tm,ob,td⟩ hD ⟨rfl,i1,i2,k3,k4,k5,k9,k10,v0,v1,v2,v3,v4,v5,v6,v7,v8,v9,v10,v11,v13⟩;have Bs:=i2 (hD 12 (by simp[x8]));have q1:=v11 (hD 11 (by simp[x8]));have q2:=v13 (hD 13 (by simp[x8]));simp only at k3 k4 k5 k9 k10 Bs q1 q2;have uE:=(oe (P:=7111) (R:=7107) (n:=n) (x:=x) (j:=J0.cm (gX x) (J0.left (gX x))) (by omega)).bE;rw[IM hjo.1 (by omega) hJ.hS]at uE;refine⟨λq hq=>?_,rfl, ?_⟩
  ·show ob q=none;rw[Bs,aH,aY (by omega)];exact Lc (by omega) (by omega) q hq
  ·subst Bs;refine Oi (k:=11) (X:=5012) (R:=7107) (av:=bR (gE n (bf x))) (aZ:=8500) (show aO _ _ _=_ by rw[aH,cF rfl]) (show aO _ _ _=_ by rw[aH,aY (by omega)];exact uE) (by omega) (by omega) (λq hq=>?_) (by simp[lU,q1]) (by simp[lU,k3,k4,k5,k9,k10,q2]) (by simp) (by simp);show aO _ _ q=none;rw[aH,aY (by omega)];simp only[mP,fX,aH,bL];rw[aY (by omega),aY (by omega)];rfl
def afR(n:aD)(x:Input)(a b:Nat)(h1:n.au.length<=9223372036854775807)(h2:x.insert.length<=9223372036854775807)(ha:a<256)(hb:b<256):bu aj 3 [n.enc,x.enc,.agg [.int .u8 a,.int .u8 b]] (.bool true):=by
 obtain⟨c,hc⟩:=be (decide (qw n x));have aC:=alg n x h1 h2 hc;have bZ:n.enc=.agg [ti n.aM,ti n.ak,ti n.start,.sl (aW n.au)]:=rfl;have Dz:x.enc=.agg [.sl (cz x.aw),.sl (aG x.insert),ti x.swap]:=rfl;rw[bZ,Dz]at aC;refine afP.ok (by simp) (aT ?_);simp[bZ,Dz];apply aa.ag aC fw [3,4,5];simp[F5];refine aa.lk (o:=[]) (l:=[(3,.v (.box [ti n.aM,ti n.ak,ti n.start,.sl (aW n.au)])),(4,.v (.box [.sl (cz x.aw),.sl (aG x.insert),ti x.swap])),(5,.v (.box [.int .u8 a,.int .u8 b]))]) (aZ:=1200) (by simp) ?_;apply aa.sq aC fw [3,4,5,14];simp[Gg];apply aa.c0 rfl;apply aa.skip;simp;by_cases hp:uS n x
 ·rw[Og hp]at aC;simp only[RJ.enc,RJ.cells]at aC;apply aa.sq aC fw [3,4,5,8];simp[CB];refine aa.lk (o:=[]) (l:=[(3,.v (.box [ti n.aM,ti n.ak,ti n.start,.sl (aW n.au)])),(4,.v (.box [.sl (cz x.aw),.sl (aG x.insert),ti x.swap])),(5,.v (.box [.int .u8 a,.int .u8 b])),(8,.v (.bool true))]) (aZ:=1300) (by simp) ?_;apply aa.seq;apply aa.fA aC fw [3,4,5,28];simp[DQ];refine aa.cond rfl (λg=>?_) (λg=>?_)
  ·apply aa.ag aC fw [6];simp[D6];apply aa.ret;simp[dj]
  have g:c=true:=by simpa using g
  rw[g]at hc;have hs:=qW hc;have h6:=hs.ci.1;have hJ:=hp.jin (by omega);have hl:J0.left (gX x)<=1000:=by
   rw[afO _ hJ.sY];have h7:gX x<=9:=by have:=hs.ci.2;simp only[gX];omega
   have h8:gX x*(gX x+1)<=9*10:=ZcV h7 (by omega);omega
  apply aa.skip;simp;refine aa.le (dU (l:=[(3,.v (.box [ti n.aM,ti n.ak,ti n.start,.sl (aW n.au)])),(4,.v (.box [.sl (cz x.aw),.sl (aG x.insert),ti x.swap])),(5,.v (.box [.int .u8 a,.int .u8 b]))]) (aZ:=1500) rfl (λq _=>rfl) (by simp)) ?_;refine aa.seq (aa.to _ (acl ha hb hp (by omega) hl) ?_);simp;refine aa.le (dU (l:=[(3,.v (.box [ti n.aM,ti n.ak,ti n.start,.sl (aW n.au)])),(4,.v (.box [.sl (cz x.aw),.sl (aG x.insert),ti x.swap])),(5,.v (.box [.int .u8 a,.int .u8 b])),(9,.v (.box [ti n.ak,ti (bf x).ba,.sl (bR (gE n (bf x)))])),(10,.v (ti 0))]) (aZ:=5000) rfl (λq _=>rfl) (by simp)) ?_;refine aa.seq (aa.to _ (ae4 ha hb hp (by omega) hl) ?_);have asQ:ay aj (bB [(13,dh (λts=>ts=[(QI n (bf x)).enc,(QI n (bf x)).enc]) (λ_=>.bool true) true)]):=by
   refine ay.cons ay.nil ?_;rintro ts rfl;exact⟨asR _ (xK (YK hJ) (by omega)),λ_=>rfl⟩
  rw[show(QI n (bf x)).enc=.agg [ti n.ak,ti (bf x).ba,.sl (bR (gE n (bf x)))]from rfl]at asQ;simp;apply aa.ag asQ fw [6];simp[Km];apply aa.ret;simp[dj]
 ·rw[Oh hp]at aC;apply aa.sq aC fw [3,4,5,8];simp[CB,IK];apply aa.seq;apply aa.fA aC fw [28];simp[DQ];refine aa.cond rfl (λg=>?_) (λg=>by simp at g);apply aa.ag aC fw [6];simp[D6];apply aa.ret;simp[dj]
end
end Jb
open Go.DM Go.ChangeShapes Go.Deep
section
variable{ts:aL}{W:World}
def aed:Ty:=.seq [.int .i64,.int .i64,.int .i64,.int .i64,.int .i64,.int .i64]
def Hf:Ty:=.seq [.int .i64,.int .i64,.int .i64,.slice aed]
def agi(h:aed.qJ ts):∃r:dv,ts=r.enc:=by
 obtain⟨_,_,rfl,h1,h⟩:=all_cons (adh h);obtain⟨_,_,rfl,h2,h⟩:=all_cons h;obtain⟨_,_,rfl,h3,h⟩:=all_cons h;obtain⟨_,_,rfl,h4,h⟩:=all_cons h;obtain⟨_,_,rfl,h5,h⟩:=all_cons h;obtain⟨_,_,rfl,h6,h⟩:=all_cons h;obtain rfl:=DX h;obtain⟨a,rfl⟩:=mN h1;obtain⟨b,rfl⟩:=mN h2;obtain⟨c,rfl⟩:=mN h3;obtain⟨d,rfl⟩:=mN h4;obtain⟨e,rfl⟩:=mN h5;obtain⟨f,rfl⟩:=mN h6;exact⟨⟨a,b,c,d,e,f⟩,rfl⟩
def Y6{x:T}(h:Hf.arg x):∃z:aD,x=z.enc/\z.au.length<=9223372036854775807:=by
 unfold Hf Ty.arg at h;obtain⟨ts,rfl,h⟩:=h;obtain⟨_,_,rfl,n1,h1⟩:=all_cons h;obtain⟨_,_,rfl,n2,h1⟩:=all_cons h1;obtain⟨_,_,rfl,n3,h1⟩:=all_cons h1;obtain⟨_,_,rfl,n4,h1⟩:=all_cons h1;obtain rfl:=DX h1;obtain⟨nt,rfl⟩:=mN n1;obtain⟨nn,rfl⟩:=mN n2;obtain⟨ns,rfl⟩:=mN n3;obtain⟨au,rfl,hr⟩:=Aa (λr=>agi) n4;exact⟨⟨nt,nn,ns,au⟩,rfl,hr⟩
def YP(h:Ty.qJ (.int .u8) ts):∃n:Nat,ts=[.int .u8 n]/\n<256:=by
 unfold Ty.qJ at h;obtain⟨n,hx,hw⟩:=h;simp only[Lit.wf,mD,oS]at hw;have e1:IntKind.u8.min=0:=by decide
 have e2:IntKind.u8.max=255:=by decide
 rw[e1,e2]at hw;obtain⟨n,rfl⟩:=kK hw.1;exact⟨n,hx,by omega⟩
def acj{x:T}(h:(Ty.seq [.int .u8,.int .u8]).arg x):∃a b:Nat,x=.agg [.int .u8 a,.int .u8 b]/\a<256/\b<256:=by
 unfold Ty.arg at h;obtain⟨ts,rfl,h⟩:=h;obtain⟨_,_,rfl,h1,h⟩:=all_cons h;obtain⟨_,_,rfl,h2,h⟩:=all_cons h;obtain rfl:=DX h;obtain⟨a,rfl,ha⟩:=YP h1;obtain⟨b,rfl,hb⟩:=YP h2;exact⟨a,b,rfl,ha,hb⟩
abbrev W6:List (String×DataW Unit):=[("emendate/chart.none",.agg [.agg [.lit (.int .i64 1099511627776),.lit (.int .i64 0)],.lit (.int .i64 (-1)),.lit (.int .i64 0)])]
def atm:aj.globalNamed "emendate/chart.none" =some 0:=by kernel_rfl
def atn:(aj.globals[0]?).map (·.type)=some 65:=by kernel_rfl
def ato:aj.underlying 65=some (.struct #[⟨"Value",63,0,false, "", "",0⟩,⟨"Rule",3,2,false, "", "",16⟩,⟨"Arg",3,3,false, "", "",24⟩]):=by kernel_rfl
def avo:aj.underlying 63=some (.struct #[⟨"Cost",3,0,false, "", "",0⟩,⟨"Size",3,1,false, "", "",8⟩]):=by kernel_rfl
def agj:aj.underlying 3=some (.int .i64):=by kernel_rfl
def agk:aj.cellsOf 65=4:=by kernel_rfl
def agl:aj.cellsOf 63=2:=by kernel_rfl
def an3:aj.cellsOf 3=1:=by kernel_rfl
def cs4{cs:List Value}(h:cs.length=4):∃a b c d,cs=[a,b,c,d]:=by
 match cs,h with
 |[a,b,c,d],_=>exact⟨a,b,c,d,rfl⟩
def agm(h:laidMet aj W6 W):W.cell? ⟨0,0,none⟩=some (.int .i64 1099511627776)/\W.cell? ⟨0,1,none⟩=some (.int .i64 0)/\W.cell? ⟨0,2,none⟩=some (.int .i64 (-1))/\W.cell? ⟨0,3,none⟩=some (.int .i64 0):=by
 obtain⟨ps,⟨g,t,cs,A7,p,q,hg,ht,hv,hd,_,_⟩,_⟩:=h;obtain rfl:=Zb8 (atm.symm.trans hg);obtain rfl:=Zb8 (atn.symm.trans ht);obtain⟨y0,y1,y2,n,ex,hl,e0,e1,e2⟩:=trod_struct3 ato hd;rw[agk]at hl;obtain⟨v0,v1,v2,v3,oT⟩:=cs4 hl;rw[oT]at e0 e1 e2;obtain⟨z0,z1,m,ey,Ci,f0,f1⟩:=trod_struct2 avo e0;simp only[agl,an3,ZcD,Zcu,List.take_zero,List.drop_succ_cons]at e1 e2 f0 f1;obtain⟨i1,r1,rfl,_⟩:=DataW.trod_int agj e1;obtain⟨i2,r2,rfl,_⟩:=DataW.trod_int agj e2;obtain⟨i3,r3,rfl,_⟩:=DataW.trod_int agj f0;obtain⟨i4,r4,rfl,_⟩:=DataW.trod_int agj f1;subst ey;have ex:=(congrArg Prod.fst ex).symm;simp only[DataW.agg.injEq,LS,DataW.lit.injEq,Lit.int.injEq,D7,qI,LS]at ex r1 r2 r3 r4;obtain⟨⟨rfl,rfl⟩,rfl,rfl⟩:=ex;subst r1 r2 r3 r4;have hc:cs= #[.int .i64 1099511627776,.int .i64 0,.int .i64 (-1),.int .i64 0]:=by
  apply Array.toList_inj.1;rw[oT]
 subst hc;exact⟨World.var?_cell hg hv 0,World.var?_cell hg hv 1,World.var?_cell hg hv 2,World.var?_cell hg hv 3⟩
def an4(h:laidMet aj W6 W):Hg W λ_=>False:=by
 obtain⟨h0,h1,h2,h3⟩:=agm h;intro p hp;obtain rfl:p=_:=oO.1 hp;refine⟨(SB h0).1,λx=>x, ?_⟩;simp only[eD,bm,D7,Lm,Nat.reduceAdd];exact⟨⟨_,h0,rfl,rfl⟩,⟨_,h1,rfl,rfl⟩,⟨_,h2,rfl,rfl⟩,⟨_,h3,rfl,rfl⟩⟩
end
end cD
end Go.Proofs
