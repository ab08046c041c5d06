/- A part. Conditions: none. -/
import Derived.Test.YtnhpkhblghgpdaaGreatDoorXae
import Derived.Deep.Strs
import Derived.Lib.LaidTab
set_option linter.unusedSectionVars false
set_option linter.unusedSimpArgs false
set_option linter.unusedVariables false
set_option linter.defProp false
set_option maxRecDepth 100000
set_option maxHeartbeats 40000000
namespace Go.Proofs
namespace cC
namespace Kn
open Go.DM
section
variable{nd:Int}{es:List bF}
def hE.J6(H:hE nd es):J6 nd es:=⟨H.1,by have:=H.2.1;omega,by have:=H.2.2.1;omega,λe he=>(H.2.2.2 e he).1⟩
def sweep_le(H:hE nd es){v:bR}(hv:J7 nd v):∀{a b:Nat},a<=b->b<=es.length->iX (eB es v b)<=iX (eB es v a):=by
 intro a b hab hb;induction b with
 |zero=>
  obtain rfl:a=0:=by omega
  exact Zaf _
 |succ b ih=>
  by_cases e:a=b+1
  ·subst e;exact Zaf _
  ·have:=ih (by omega) (by omega);rw[jI];obtain⟨_,h2⟩:=ru (H.J6.2.2.2 _ (bm (l:=es) (i:=b) (by omega))) (oI H.J6 hv b (by omega)).1;rcases h2 with h2|h2
   ·rw[h2];exact this
   ·omega
def Wx(H:hE nd es){v:bR}(hv:J7 nd v)(h:eB es v es.length=v):∀e∈es,¬(gF v e).lt (bv v e.head):=by
 have hp:∀y,y<=es.length->eB es v y=v:=by
  intro y hy;rcases(oI H.J6 hv y hy).2 with h1|h1
  ·exact h1
  ·have:=sweep_le H hv hy (Zaf _);rw[h]at this;omega
 intro e he ln;obtain⟨k,hk,rfl⟩:=ZaO he;have h1:=hp (k+1) (by omega);rw[jI,hp k (by omega)]at h1;have JB:es.getD k default=es[k]:=by simp[List.getD,hk]
 rw[JB]at h1;obtain⟨h2,h3⟩:=ru (H.J6.2.2.2 _ he) hv;have rG:=(H.2.2.2 _ he).1;unfold p9 at h1;have hlt':(dU (es[k]).aH (dR v (es[k]).dy)).lt (v.getD (es[k]).head.toNat default):=ln;rw[Zai hlt']at h1;have hh:(es[k]).head.toNat<v.length:=by have:=hv.1;have:=rG.1;have:=rG.2.1;omega
 have:bv v (es[k]).head=gF v es[k]:=by
  have h4:=congrArg (λl=>List.getD l (es[k]).head.toNat default) h1;simp only[eI hh,if_true]at h4;exact h4.symm
 rw[this]at ln;unfold c8.lt at ln;omega
def Hf(H:hE nd es):∀(f:Nat) (v:bR),iX v<f->J7 nd v->eB es (kN es f v) es.length=kN es f v
 |0,v,h,_=>by omega
 |f+1,v,h,hv=>by
  obtain⟨h1,h2⟩:=oI H.J6 hv es.length (Zaf _);unfold kN;split
  ·assumption
  ·rename_i bT;exact Hf H f _ (by have:=h2.resolve_left bT;omega) h1
def JH(H:hE nd es):Sol nd es (fS nd es):=by
 have hv:=AJ H.J6;exact⟨hv.1,hv.2,Wx H hv (Hf H _ _ (by omega) (ze H.J6))⟩
def Wy(H:hE nd es):∀v:bR,(v.length:Int)=nd->(∀x∈v,jj x/\(x.aH<1099511627776\/x.size=0))->(∀e∈es,¬(gF v e).lt (bv v e.head))->∀y:Nat,(y:Int)<nd->¬(bv (fS nd es) y).lt (bv v y):=by
 intro v hl ho hc;have hvo:∀x∈v,jj x:=λx hx=>(ho x hx).1
 let P:bR->Prop:=λw=>J7 nd w/\∀y:Nat,(y:Int)<nd->¬(bv w y).lt (bv v y)
 have FD:∀w,P w->∀e∈es,P (p9 w e):=by
  intro w hw e he;have rG:=H.2.2.2 e he;refine⟨(ru rG.1 hw.1).1,λy hy=>?_⟩;unfold p9;split
  ·have hh:e.head.toNat<w.length:=by have:=hw.1.1;have:=rG.1.1;have:=rG.1.2.1;omega
   have JG:bv (w.set e.head.toNat (dU e.aH (dR w e.dy))) y=if y=e.head.toNat then dU e.aH (dR w e.dy)else bv w y:=by
    unfold bv;simp only[Zag];exact eI hh
   rw[JG];split
   ·rename_i e1;have hm:¬(gF w e).lt (gF v e):=MD rG.2 λt ht=>by
     have J8:=rG.1.2.2.1 t ht;obtain⟨t,rfl⟩:=Zae J8.1;exact⟨hw.2 t J8.2,(FA hl hvo J8).1,(FA hw.1.1 hw.1.2 J8).1⟩
    have h3:=hc e he;have:(e.head:Int)=(y:Int):=by have:=rG.1.1;omega
    rw[this]at h3;exact jH h3 hm
   ·exact hw.2 y hy
  ·exact hw.2 y hy
 have PJ:∀w,P w->∀y,y<=es.length->P (eB es w y):=by
  intro w hw y;induction y with
  |zero=>intro _;exact hw
  |succ y ih=>intro hy;rw[jI];exact FD _ (ih (by omega)) _ (bm (by omega))
 have PK:∀f w,P w->P (kN es f w):=by
  intro f;induction f with
  |zero=>intro w hw;exact hw
  |succ f ih=>
   intro w hw;unfold kN;split
   ·exact hw
   ·exact ih _ (PJ w hw _ (Zaf _))
 refine(PK _ _ ⟨ze H.J6,λy hy=>?_⟩).2;have fJ:y<v.length:=by omega
 obtain⟨⟨o1,o2,o3,o4⟩,o5⟩:=ho _ (bm fJ);have e1:bv (Fp nd) y=⟨1099511627776,0⟩:=by unfold bv Fp;exact gY (by omega)
 rw[e1];show ¬c8.lt _ (v.getD (y:Int).toNat default);rw[Zag];unfold c8.lt;simp only;omega
end
section
variable{ts:bO}{L':cV}{tm:dw}{aJ ba:Nat}
def xx:NN:=⟨2021,2024,2028,2414,2031,2419,2412⟩
def eC(z:eY)(st:kl)(E:bO):cV:=[(2033,.box (ma xx z)),(2021,qK st),(2024,rU st),(2028,rV st),(2031,.box (ny z.Fy)),(2414,qB 2419 2412 st.s),(2419,hB st.s),(2412,mB st.s),(3040,.dT 0 3 1 (aG E))]
def nN(z:eY)(st:kl)(E:bO):(⟨xx,z,st⟩:SV).at (cM (eC z st E)) 2033:=by
 refine⟨?_, ?_, ?_, ?_, ?_, ?_, ?_, ?_⟩<;>simp[eC,xx]
def zy(z:eY)(st dm:kl)(E:bO):bX (cM (eC z st E)) ⟨xx,z,st⟩ dm=cM (eC z dm E):=by
 funext k;show(if k=2021 then some (qK dm)else if k=2024 then some (rU dm)else if k=2028 then some (rV dm)else if k=2414 then some (qB 2419 2412 dm.s)else if k=2419 then some (hB dm.s)else if k=2412 then some (mB dm.s)else cM (eC z st E) k)=cM (eC z dm E) k;simp only[eC,cS,gR];by_cases h1:k=2021
 ·subst h1;simp
 by_cases h2:k=2024
 ·subst h2;simp
 by_cases h3:k=2028
 ·subst h3;simp
 by_cases h4:k=2414
 ·subst h4;simp
 by_cases h5:k=2419
 ·subst h5;simp
 by_cases h6:k=2412
 ·subst h6;simp
 simp only[Zab h1,Zab h2,Zab h3,Zab h4,Zab h5,Zab h6]
def sol_keys(z:eY)(st:kl)(E:bO):∀q∈eC z st E,q.1<3041:=by
 simp[eC]
def MG(z:eY)(st:kl)(E:bO):∀r,3041<=r->cM (eC z st E) r=none:=fE (sol_keys z st E)
def q0:Qs:=⟨[],0,[],0,0,0⟩
def J9(n m k:Nat):kl:=⟨List.replicate k ⟨1099511627776,0⟩++List.replicate (n-k) ⟨0,0⟩,List.replicate n false,List.replicate m 0,q0⟩
def lZ(n k:Nat):bO:=List.replicate k (-1)++List.replicate (n-k) 0
def xy(U:List (bO))(j:Int)(ts:bO):List (bO):=ts.foldl (λU t=>U.set t.toNat (U.getD t.toNat []++[j])) U
def jL(n:Nat)(es:List bF)(k:Nat):List (bO):=(List.range k).foldl (λU (j:Nat)=>xy U (j:Int) (es.getD j default).dy) (List.replicate n [])
def px(n:Nat)(es:List bF)(k:Nat):jL n es (k+1)=xy (jL n es k) k (es.getD k default).dy:=by simp[jL,ZaR,ZaI]
def JI(n:Nat)(es:List bF)(k:Nat):kl:=⟨List.replicate n ⟨1099511627776,0⟩,List.replicate n false,(es.take k).map (λe=>(e.dy.length:Int))++List.replicate (es.length-k) 0,q0⟩
def MH(U:List (bO))(j:Int)(ts:bO):(xy U j ts).length=U.length:=by
 unfold xy;induction ts generalizing U with
 |nil=>rfl
 |cons t ts ih=>rw[ZaN,ih];simp
def oJ(n:Nat)(es:List bF)(k:Nat):(jL n es k).length=n:=by
 induction k with
 |zero=>simp[jL]
 |succ k ih=>rw[px,MH,ih]
def FE{U:List (bO)}{j:Int}(ht:∀t∈ts,0<=t/\t<U.length)(x:Nat)(hx:x<U.length)(k:Int):
  ((xy U j ts).getD x []).count k=(U.getD x []).count k+if k=j then ts.count (x:Int)else 0:=by
 unfold xy;induction ts generalizing U with
 |nil=>simp
 |cons t ts ih=>
  obtain⟨t0,t1⟩:=ht t (by simp);obtain⟨t,rfl⟩:=Zae t0;rw[ZaN,ih (λu hu=>by have:=ht u (by simp[hu]);simpa using this) (by simpa using hx)];simp only[Zag];rw[eI (by omega),Zcy];by_cases e:x=t
  ·subst e;rw[Zai rfl,List.count_append];by_cases e2:k=j
   ·subst e2;simp;omega
   ·have:¬j=k:=λh=>e2 h.symm;simp[e2,this]
  ·have:¬(t:Int)=(x:Int):=by omega
   rw[Zab e];simp[this]
def addU_mem{U:List (bO)}{j:Int}(ht:∀t∈ts,0<=t/\t<U.length)(x:Nat)(hx:x<U.length){k:Int}(h:k∈(xy U j ts).getD x []):k∈U.getD x []\/k=j:=by
 by_cases e:k=j
 ·exact .inr e
 ·have h1:=FE (j:=j) ht x hx k;rw[Zab e]at h1;refine .inl (List.count_pos_iff.1 ?_);have:=List.count_pos_iff.2 h;omega
def Wz{nd:Int}{es:List bF}(H:hE nd es):zu nd es (jL nd.toNat es es.length):=by
 have h0:=H.1;have main:∀j,j<=es.length->(∀x:Nat,(x:Int)<nd->∀k∈(jL nd.toNat es j).getD x [],0<=k/\k<j)/\∀x k:Nat,(x:Int)<nd->((jL nd.toNat es j).getD x []).count (k:Int)=if k<j then(es.getD k default).dy.count (x:Int)else 0:=by
  intro j;induction j with
  |zero=>
   intro _;have h1:∀x:Nat,(x:Int)<nd->(jL nd.toNat es 0).getD x []=[]:=λx hx=>by
    have qr:x<nd.toNat:=by omega
    show(List.replicate nd.toNat ([]:bO)).getD x []=[];exact gY qr
   refine⟨λx hx k hk=>?_,λx k hx=>?_⟩
   ·rw[h1 x hx]at hk;cases hk
   ·rw[h1 x hx];simp
  |succ j ih=>
   intro hj;obtain⟨i1,i2⟩:=ih (by omega);have rG:=(kI H (k:=j) (by omega)).1;have ht:∀t∈(es.getD j default).dy,0<=t/\t<(jL nd.toNat es j).length:=λt ht=>by rw[oJ];have:=rG.2.2.1 t ht;omega
   refine⟨λx hx k hk=>?_,λx k hx=>?_⟩
   ·rw[px]at hk;rcases addU_mem ht x (by rw[oJ];omega) hk with h|rfl
    ·have:=i1 x hx k h;omega
    ·omega
   ·rw[px,FE ht x (by rw[oJ];omega),i2 x k hx];by_cases e:k=j
    ·subst e;simp
    ·have e1:¬(k:Int)=(j:Int):=by omega
     simp only[e1,if_false,ZbV];by_cases e2:k<j
     ·rw[Zai e2,Zai (by omega)]
     ·rw[Zab e2,Zab (by omega)]
 obtain⟨m1,m2⟩:=main es.length (Zaf _);exact⟨by rw[oJ];omega,m1,λx k hx hk=>by rw[m2 x k hx,Zai hk]⟩
def le_obs{A:cV}{M:Nat}(aT:dh (cM A) M)(hA:∀q∈A,1000<=q.1/\q.1<M){L:cV}{l:fA}(hL:∀q∈L,M<=q.1)(hL':∀q∈L',M<=q.1/\q.1<ba)(hn:1000<=M/\M<=ba)
  (gH:uC (cM (L++A)) (cM (L'++A)) id L') (ik:fR (cM (L++A)) (cM (L'++A)) id tm l):
  Le ⟨tm,cM (L++A),aJ,1000,[]⟩ ⟨DM.look l,cM (L'++A),ba,1000,[]⟩:=by
 have low:∀{B:cV},(∀q∈B,M<=q.1)->∀r,r<M->cM (B++A) r=cM A r:=λhB r hr=>MI λq hq e=>by have:=hB q hq;omega
 have hLs:∀q∈L',M<=q.1:=λq hq=>(hL' q hq).1;refine Le.YG rfl rfl ?_ (λr o h=>?_) (λr hr o h=>?_) (λk=>nk l ik k)
 ·refine fE λq hq=>?_;rcases Zaq.1 hq with hq|hq
  ·exact(hL' q hq).2
  ·have:=hA q hq;simp only;omega
 ·rcases qk h with h|⟨_,h⟩
  ·obtain⟨o0,h1,h2⟩:=sx gH r o h;exact⟨o0,h1,.inl h2⟩
  ·have hr:=(aT r o h).1;refine⟨o,(low hL r hr).trans h,.inr ⟨rfl,λm hm=>?_⟩⟩;have NX:=(aT r o h).2 m hm;cases CV:cM A m with
   |none=>exact Zar CV NX
   |some o'=>exact⟨o',o',(low hL m (aT m o' CV).1).trans CV,(low hLs m (aT m o' CV).1).trans CV,be _⟩
 ·exfalso;simp only at h hr;rcases qk h with h|⟨_,h⟩
  ·have:=hL _ h;simp only at this;omega
  ·have hm:=jS h;have:=hA _ hm;simp only at this;omega
def sol_lo(z:eY)(st:kl)(E:bO):∀q∈eC z st E,1000<=q.1/\q.1<3041:=by
 simp[eC]
def sU(z:eY)(st:kl)(E:bO):dh (cM (eC z st E)) 3041:=by
 have dP:=nN z st E;have h1:=dP.rb;have h2:=dP.rf;have h3:=dP.rh;have h4:=dP.u;have h5:=dP.q;have h6:=dP.hp;have h7:=dP.m;simp only[xx]at h1 h2 h3 h4 h5 h6 h7;intro r o h;have hm:=jS h;refine⟨(sol_lo z st E _ hm).2,λm z7=>?_⟩;simp only[eC,Zah,Zal,or_false,Zav]at hm;rcases hm with⟨rfl,rfl⟩|⟨rfl,rfl⟩|⟨rfl,rfl⟩|⟨rfl,rfl⟩|⟨rfl,rfl⟩|⟨rfl,rfl⟩|⟨rfl,rfl⟩|⟨rfl,rfl⟩|⟨rfl,rfl⟩
 ·simp only[ma,xx,aZ,bM,aN,ZaC,ZaG,Zaq,Zah,Zal,or_false]at z7;rcases z7 with rfl|rfl|rfl|rfl|rfl
  ·rw[h1];simp
  ·rw[h2];simp
  ·rw[h3];simp
  ·rw[h4];simp
  ·rw[h5];simp
 ·simp[qK,aZ]at z7
 ·simp[rU,aZ]at z7
 ·simp[rV,aZ]at z7
 ·exfalso;have:∀l:List (bO),bM (ny l)=[]:=λl=>by induction l with
   |nil=>rfl
   |cons a l ih=>simp only[ny,ZaA,bM,aN,ZaG];exact ih
  simp[aZ,this]at z7
 ·simp only[qB,aZ,bM,aN,ZaC,ZaG,Zaq,Zah,Zal,or_false]at z7;rcases z7 with rfl|rfl
  ·rw[h6];simp
  ·rw[h7];simp
 ·simp[hB,aZ]at z7
 ·exfalso;simp only[mB,aZ,ZaV,uO,Zak]at z7;obtain⟨e,⟨e',_,rfl⟩,hk⟩:=z7;simp[aN]at hk
 ·simp[aZ]at z7
def le_so{z:eY}{st:kl}{E:bO}{L:cV}{l:fA}(hL:∀q∈L,3041<=q.1)(hL':∀q∈L',3041<=q.1/\q.1<ba)(hn:3041<=ba)
  (gH:uC (cM (L++eC z st E)) (cM (L'++eC z st E)) id L') (ik:fR (cM (L++eC z st E)) (cM (L'++eC z st E)) id tm l):
  Le ⟨tm,cM (L++eC z st E),aJ,1000,[]⟩ ⟨DM.look l,cM (L'++eC z st E),ba,1000,[]⟩:=
 le_obs (sU z st E) (sol_lo z st E) hL hL' ⟨by omega,hn⟩ gH ik
end
def t1105F{f0:bq}{p N:Nat}{ak:bR}{A B C:DV}{D:bB}{e:bF}(hN:∀r,N<=r->f0 r=none)(h1:f0 p=some (.box (A::B:: .v (.sl (bC ak))::C::D)))(he:edOk ak.length e)(hb:∀x∈ak,jj x):
  aR aj 105 [.ptr p 0,.v (.agg e.enc)] f0 ⟨True,.v (.agg [ti (gF ak e).aH,ti (gF ak e).size]),f0⟩:=by
 obtain⟨R,hR⟩:=bb (gF ak e);rw[hR];unfold gF at hR;obtain⟨eh,ts,ec,e0,e1⟩:=e;obtain⟨ht,hc,hl⟩:=he;simp only at ht hc hl hR;obtain⟨Vs,NL⟩:=bb (dR ak ts);rw[NL]at hR;have hVl:Vs.length=ts.length:=by rw[<-NL];simp[dR]
 have Gk:∀x∈Vs,jj x:=by
  rw[<-NL];intro x hx;obtain⟨y,hy,rfl⟩:=Zak.1 hx;have:=ht y hy;exact hb _ (bm (by omega))
 have aC:=ok84 ay.nil;refine c1105.pQ hN (by simp) λaT=>?_;have nu:p<N:=(aT p _ h1).1;have np:∀k,p≠N+k:=λk=>by omega
 have en:(∃cs,f0 p=some (.box cs)):=⟨_,h1⟩;simp;apply aa.ch aC fw [0,3,4];simp[IM,bF.enc];refine aa.le (Le.dV (l1:=[(N+5,.box [.v (ti 0),.v (ti 0)])]) (l:=[(0,.ptr p 0),(3,.v (.box [ti eh,.sl (aG ts),ti ec,ti e0,ti e1])),(4,.ptr (N+5) 0)]) (ba:=N+500) aT ?_ ?_ ?_ ?_ ?_) ?_
 ·omega
 ·simp
 ·simp[bK,Nat.add_assoc]
 ·simp[dN,eA,Nat.add_assoc]
 ·simp[np,Nat.add_assoc,en];exact bL aT (by omega) (by simp)
 apply aa.ch aC fw [0,3,4,5];simp[IN,Zba,dK];refine⟨by omega,by omega, ?_⟩;obtain⟨Z,hZ⟩:=bb (List.replicate ts.length ⟨0,0⟩:bR);refine aa.le (Le.dV (l1:=[(N+5,.box [.v (ti 0),.v (ti 0)]),(N+512,.dT 0 63 2 (bC (Vs.take 0++List.replicate (ts.length-0) ⟨0,0⟩)))]) (l:=[(0,.ptr p 0),(3,.v (.box [ti eh,.sl (aG ts),ti ec,ti e0,ti e1])),(4,.ptr (N+5) 0),(5,.bA (N+512) 0)]) (ba:=N+1000) aT ?_ ?_ ?_ ?_ ?_) ?_
 ·omega
 ·simp
 ·simp[bK,Nat.add_assoc]
 ·simp[dN,eA,Nat.add_assoc,bC]
 ·simp[np,Nat.add_assoc,en,bC]
 apply aa.seq;apply aa.ch aC fw [0,3,4,5,13,14,15];simp[IP];apply aa.block;refine aa.loop (λi:Nat=>⟨DM.look [(0,.ptr p 0),(3,.v (.box [ti eh,.sl (aG ts),ti ec,ti e0,ti e1])),(4,.ptr (N+5) 0),(5,.bA (N+512) 0),(13,.v (.sl (aG ts))),(14,.v (ti ts.length)),(15,.v (ti i))],aM [(N+5,.box [.v (ti 0),.v (ti 0)]),(N+512,.dT 0 63 2 (bC (Vs.take i++List.replicate (ts.length-i) ⟨0,0⟩)))] f0,N+2000,N,[]⟩)
  (λi=>i<=ts.length) (λi=>ts.length-i) 0 (Le.dV aT ?_ ?_ ?_ ?_ ?_) (by omega) (λi hi2=>?_)
 ·omega
 ·simp
 ·simp[bK]
 ·simp[dN,eA]
 ·simp[np,en]
 obtain⟨A,hA⟩:=bb (Vs.take i++List.replicate (ts.length-i) (⟨0,0⟩:c8));have hAl:A.length=ts.length:=by rw[<-hA];simp;omega
 rw[hA];apply aa.ch aC fw [0,3,4,5,13,14,15,16];simp[IQ];apply aa.seq;refine aa.cond rfl (λg=>?_) (λg=>?_)
 ·have g:i<ts.length:=by simpa using g
  have rt:=cE g;obtain⟨t,KB⟩:=bb (ts.getD i default);rw[KB]at rt;obtain⟨t0,t1⟩:=ht t (by rw[<-KB];exact bm g);obtain⟨t,rfl⟩:=Zae t0;have t1:t<ak.length:=by omega
  have rv:=dd t1;obtain⟨⟨wc,wz⟩,hw⟩:=bb (ak.getD t default);rw[hw]at rv;have hiA:i<A.length:=by omega
  have rA:=dd hiA;have dA:∀a b:T,List.drop 2 [a,b]=[]:=λ_ _=>rfl;have hS:Vs.take (i+1)++List.replicate (ts.length-(i+1)) (⟨0,0⟩:c8)=A.set i ⟨wc,wz⟩:=by
   have hVi:Vs.take (i+1)=Vs.take i++[⟨wc,wz⟩]:=by
    have:Vs[i]? =some ⟨wc,wz⟩:=by
     rw[<-NL,dR,Zbx];have:ts[i]? =some (t:Int):=by
      have:=Zas g;rw[this];simp only[List.getD,this,Zbd]at KB;rw[KB]
     rw[this];simp only[Za8,Zag,hw]
    rw[ZbO,this];rfl
   rw[hVi,<-hA,ZbG _ _ (by rw[ZaB];omega)];have hl':(Vs.take i).length=i:=by rw[ZaB];omega
   rw[hl',Zcp,show ts.length-i=(ts.length-(i+1))+1 by omega,ZaY,ZbR,List.append_assoc];rfl
  apply aa.skip;simp;apply aa.seq;apply aa.block;apply aa.ch aC fw [0,3,4,5,6,7,13,14,15];simp[IR,rt,g];apply aa.fK aC fw [0,3,4,5,13,14,15];simp[IS,h1,np,Nat.add_assoc,t1,rv,hiA,rA];apply aa.fK aC fw [0,3,4,5,13,14,15];simp[IT];rw[aF (by omega)];refine⟨i+1,Le.dV aT ?_ ?_ ?_ ?_ ?_,by omega,by omega⟩
  ·omega
  ·simp
  ·simp[bK]
  ·simp[dN,eA,hS,jh]
  ·simp[np,en,hS,jh]
 ·have g:¬i<ts.length:=by simpa using g
  have hie:i=ts.length:=by omega
  subst hie;rw[ZaX (by omega),Zcp,Zcg,ZaC]at hA;subst hA;apply aa.exit;simp;refine aa.le (Le.dV (l1:=[(N+5,.box [.v (ti 0),.v (ti 0)])]) (l:=[(3,.v (.box [ti eh,.sl (aG ts),ti ec,ti e0,ti e1])),(4,.ptr (N+5) 0),(5,.v (.sl (bC Vs)))]) (ba:=N+5000) aT ?_ ?_ ?_ ?_ ?_) ?_
  ·omega
  ·simp
  ·simp[bK]
  ·simp[dN,eA]
  ·simp;exact bL aT (by omega) (by simp)
  apply aa.ch aC fw [4];simp[IU,Zba,hVl,hR];refine⟨Gk,hc.1,hc.2,by omega, ?_⟩;refine aa.le (kO (l:=[(4,.v (.box [ti R.aH,ti R.size]))]) (ba:=N+6000) aT (by omega) (by simp) ?_) ?_
  ·simp;exact bL (l:=[]) aT (by omega) (by simp)
  apply aa.ret;simp[EL];rfl
section
variable{st:kl}{es:List bF}
def dE:DC:=(.seq (.seq (.region false Ez)
 (.block 10 (.loop (.seq (.region false EA)
 (.seq (.cond (.tmp 153) .skip
 (.exit 10))
 (.seq (.block 11 (.seq (.region false EB)
 (.seq (.region true Ls)
 (.cond (.tmp 186) (.region false EC)
 .skip))))
 (.region false yS)))))))
 (.seq (.region false ED)
 .ret))
def dD:DC:=(.seq (.block 8 (.loop (.block 9 (.seq (.region false Lq)
 (.seq (.seq (.region false yR)
 (.cond (.tmp 136) (.exit 8)
 .skip))
 (.seq (.region true Ey)
 (.cond (.tmp 145) (.region false Lr)
 .skip)))))))
 dE)
def dC:DC:=(.seq (.seq (.region false Ev)
 (.block 6 (.loop (.seq (.region false Ew)
 (.seq (.cond (.tmp 107) .skip
 (.exit 6))
 (.seq (.block 7 (.seq (.region false Ex)
 (.seq (.region false yP)
 (.cond (.tmp 122) (.region false Lp)
 .skip))))
 (.region false yQ)))))))
 dD)
def dB:DC:=(.seq (.seq (.region false Em)
 (.block 2 (.loop (.seq (.region false En)
 (.seq (.cond (.tmp 63) .skip
 (.exit 2))
 (.seq (.block 3 (.seq (.region false Eo)
 (.seq (.region true Ep)
 (.seq (.region false Er)
 (.block 4 (.loop (.seq (.region false Es)
 (.seq (.cond (.tmp 80) .skip
 (.exit 4))
 (.seq (.block 5 (.seq (.region false Et)
 (.jr qZ)))
 (.region false yO))))))))))
 (.region false Eu)))))))
 dC)
def JJ(st:kl)(es:List bF)(E:bO)(k:Nat):bO:=
 if(E.getD (es.getD k default).head.toNat 0<0/\st.bZ.getD (es.getD k default).head.toNat false=true)/\gF st.ak (es.getD k default)=bv st.ak (es.getD k default).head then E.set (es.getD k default).head.toNat (k:Int)else E
def PL(st:kl)(es:List bF)(n k:Nat):bO:=(List.range k).foldl (JJ st es) (lZ n n)
def MJ(st:kl)(es:List bF)(n k:Nat):PL st es n (k+1)=JJ st es (PL st es n k) k:=by simp[PL,ZaR,ZaI]
def edF_len(st:kl)(es:List bF)(n k:Nat):(PL st es n k).length=n:=by
 induction k with
 |zero=>simp[PL,lZ]
 |succ k ih=>
  rw[MJ];unfold JJ;split<;>simp[ih]
abbrev lK(n:Nat)(es:List bF):fA:=[(1,.v (.box [ti n,.sl (bk es)])),(4,.ptr 2033 0),(5,.bA 3040 0)]
def kP{z:eY}{E:bO}{k:Nat}(h:3041<=k):∀r,k<=r->cM (eC z st E) r=none:=λr hr=>MG z st E r (by omega)
def oK:ai:=[
 n 5 157,
 a 0 16 158 [],
 l 158 159 [1],
 x 1 157 159 160 [0,2],
 l 160 161 [3],
 C .lss 161 0 162 [4],
 m 162 163 [5],
 w 4 164 163 true [6],
 g (.nilCheck (t 164)) 165 163 true [7,6],
 u 3 165 166 163 true [8,6],
 v 166 167 163 true [9,6],
 u 0 16 168 163 true [6],
 v 168 169 163 true [11,6],
 g (.idxAddr 1 (t 167) (t 169)) 170 163 true [10,12,6],
 v 170 171 163 true [13,6],
 q 163 171 172 [6,14],
 m 172 173 [15,6],
 w 4 174 173 true [16],
 g (.load 5 true (t 16)) 175 173 true [16],
 g (.callR 105 [(t 174),(t 175)]) 176 173 true [17,18,16,16],
 w 4 177 173 true [16],
 g (.nilCheck (t 177)) 178 173 true [20,16],
 u 2 178 179 173 true [21,16],
 v 179 180 173 true [22,16],
 u 0 16 181 173 true [16],
 v 181 182 173 true [24,16],
 g (.idxAddr 2 (t 180) (t 182)) 183 173 true [23,25,16],
 g (.load 2 true (t 183)) 184 173 true [26,16],
 g (.eqT false true [(.int .i64),(.int .i64)] (t 176) (t 184)) 185 173 true [19,27,16],
 q 173 185 186 [16,28]]
def PM(n:Nat)(es:List bF)(st:kl):bB:=[.v (ti n),.v (.sl (bk es)),.v (.sl (bC st.ak)),.v (.sl (g8 st.bZ)),.undef,.undef,.undef]
def nO(n:Nat)(es:List bF)(st:kl)(E:bO):cV:=[(2033,.box (PM n es st)),(3040,.dT 0 3 1 (aG E))]
def frz{n:Nat}{us:List (bO)}{E:bO}{aJ ba:Nat}{tm:dw}(hx:3041<=ba)(hl:gn tm (lK n es)):
  Le ⟨tm,cM (eC ⟨n,es,us⟩ st E),aJ,1000,[]⟩ ⟨DM.look (lK n es),cM (nO n es st E),ba,1000,[]⟩:=by
 refine Le.bi ?_ ?_ ?_ ?_
 ·simp[eC]
 ·simp[nO];omega
 ·simp[eC,nO,PM,ma,xx,qK,rU]
 ·simp at hl;simp[hl,eC,nO]
def kF(A:bB)(p:Nat)(C:bB)(val:DV):bB->bq->fI:=λargs f=>⟨args=A/\f p=some (.box C),val,f⟩
def kF_read{A:bB}{p:Nat}{C:bB}{val:DV}{f:bq}(hp:p∈bM A)(hf:f p=some (.box C)):wD (kF A p C val) A f:=λaI h=>⟨⟨rfl,(h p hp).trans hf⟩,rfl,rfl⟩
def phE{n:Nat}(H:hE n es)(lb:st.ak.length=n)(lf:st.bZ.length=n)(bo:∀v∈st.ak,jj v):
  aa aj 198 dE (On q8 (.eo [.sl (bC st.ak),.sl (aG (PL st es n es.length))])) ⟨DM.look (lK n es),cM (nO n es st (lZ n n)),3500,1000,[]⟩:=by
 have hn:=H.2.1;have hel:=H.2.2.1;have e1:∀E,cM (nO n es st E) 2033=some (.box (PM n es st)):=λE=>by simp[nO]
 have e6:∀E,cM (nO n es st E) 3040=some (.dT 0 3 1 (aG E)):=λE=>by simp[nO]
 have kP:∀{E:bO} {k:Nat},3041<=k->∀r,k<=r->cM (nO n es st E) r=none:=λhk r hr=>fE (M:=3041) (by simp[nO]) r (by omega);simp only[PM]at e1;have lenE:=edF_len st es n;unfold dE;apply aa.seq;apply aa.ch cF fw [1,4,5,150,151,152];simp[Ez];apply aa.block;refine aa.loop (λk:Nat=>⟨DM.look [(1,.v (.box [ti n,.sl (bk es)])),(4,.ptr 2033 0),(5,.bA 3040 0),(150,.v (.sl (bk es))),(151,.v (ti es.length)),(152,.v (ti k))],cM (nO n es st (PL st es n k)),4000,1000,[]⟩)
  (λk=>k<=es.length) (λk=>es.length-k) 0 (eO rfl (kP (by omega)) (by simp)) (by omega) (λk hk=>?_)
 apply aa.ch cF fw [1,4,5,150,151,152,153];simp[EA];apply aa.seq;refine aa.cond rfl (λg=>?_) (λg=>?_)
 ·have g:k<es.length:=by simpa using g
  have hs:=MJ st es n k;obtain⟨rG,het⟩:=kI H g;have rr:=jX g;have Kp:=lenE k;unfold JJ at hs;have lr:∀{E:bO},E=PL st es n (k+1)->Le ⟨DM.look [(1,.v (.box [ti n,.sl (bk es)])),(4,.ptr 2033 0),(5,.bA 3040 0),(150,.v (.sl (bk es))),(151,.v (ti es.length)),(152,.v (ti (k+1)))],cM (nO n es st E),5000,1000,[]⟩ ⟨DM.look [(1,.v (.box [ti n,.sl (bk es)])),(4,.ptr 2033 0),(5,.bA 3040 0),(150,.v (.sl (bk es))),(151,.v (ti es.length)),(152,.v (ti (k+1)))],cM (nO n es st (PL st es n (k+1))),4000,1000,[]⟩:=λh=>by
   subst h;exact eO rfl (kP (by omega)) (by simp)
  obtain⟨E,hE⟩:=bb (PL st es n k);rw[hE]at hs Kp⊢;obtain⟨e,JB⟩:=bb (es.getD k default);rw[JB]at hs rG het rr;have hed:edOk st.ak.length e:=⟨λt ht=>by have:=rG.2.2.1 t ht;omega,⟨rG.2.2.2.1,rG.2.2.2.2.1⟩,by omega⟩;obtain⟨⟨wc,wz⟩,hw⟩:=bb (gF st.ak e);have aC:ay aj (bu [(105,eS (kF [.ptr 2033 0,.v (.agg e.enc)] 2033 (PM n es st) (.v (.agg [ti wc,ti wz]))))]):=by
   refine ay.gS ay.nil ?_;rintro args ab ⟨rfl,h⟩;refine⟨λN hN=>?_,λr hr=>hr⟩;have:=t1105F hN h hed bo;rw[hw]at this;exact⟨this.entry,this.run⟩
  rw[hw]at hs;obtain⟨eh,ts,ec,e0',e1'⟩:=e;obtain⟨y,rfl⟩:=Zae rG.1;have hy:y<n:=by have:=rG.2.1;simp only at this;omega
  simp only[bF.enc]at rr aC;simp only[Zag]at hs;have rb:=dd (l:=st.ak) (y:=y) (by omega);have rf:=jG (l:=st.bZ) (y:=y) (by omega);have re:=cE (l:=E) (y:=y) (by omega);rw[show(default:Bool)=false from rfl]at rf;rw[show(default:Int)=0 from rfl]at re;have JG:bv st.ak y=st.ak.getD y default:=rfl;rw[JG]at hs;obtain⟨⟨bc,bz⟩,hb⟩:=bb (st.ak.getD y default);obtain⟨fb,hf⟩:=bb (st.bZ.getD y false);obtain⟨ev,hev⟩:=bb (E.getD y 0);rw[hb]at rb hs;rw[hf]at rf hs;rw[hev]at re hs;apply aa.skip;simp;apply aa.seq;apply aa.block;apply aa.ch cF fw [1,4,5,15,16,150,151,152];simp[EB,rr,g];refine aa.le (Le.bi (o0:=(_,.box [.v (ti y),.v (.sl (aG ts)),.v (ti ec),.v (ti e0'),.v (ti e1')])::(_,.box [.v (ti 0),.aW,.v (ti 0),.v (ti 0),.v (ti 0)])::nO n es st E) (o:=nO n es st E) (l:=[(1,.v (.box [ti n,.sl (bk es)])),(4,.ptr 2033 0),(5,.bA 3040 0),(15,.v (ti k)),(16,.v (.box [ti y,.sl (aG ts),ti ec,ti e0',ti e1'])),(150,.v (.sl (bk es))),(151,.v (ti es.length)),(152,.v (ti k))]) (ba:=4200) ?_ ?_ ?_ ?_) ?_
  ·simp[nO]
  ·simp[nO]
  ·simp[nO,PM]
  ·simp[nO]
  obtain⟨c1,bU⟩:=bb (decide ((ev<0/\fb=true)/\(⟨wc,wz⟩:c8)=⟨bc,bz⟩):Bool);refine aa.seq (aa.to ⟨DM.look [(1,.v (.box [ti n,.sl (bk es)])),(4,.ptr 2033 0),(5,.bA 3040 0),(15,.v (ti k)),(16,.v (.box [ti y,.sl (aG ts),ti ec,ti e0',ti e1'])),(150,.v (.sl (bk es))),(151,.v (ti es.length)),(152,.v (ti k)),(186,.v (.bool c1))],cM (nO n es st E),4500,1000,[]⟩ ?_ ?_)
  ·by_cases q1:ev<0
   ·cases fb with
    |true=>
     refine aa.pe aC fw (rs:=oK) (.inr ⟨_,rfl⟩) (by kernel_rfl) [1,4,5,15,16,150,151,152,186] ?_;simp[oK,kF,e1,e6,re,rb,rf,q1,lb,lf,Kp,hy];refine⟨kF_read (by simp[bM,aN]) (e1 E),eO rfl (kP (by omega)) ?_⟩;rw[<-bU];simp;exact λ_ _=>q1
    |false=>
     have:c1=false:=by rw[<-bU];simp
     refine aa.pe aC fw (rs:=oK) (.inr ⟨_,rfl⟩) (by kernel_rfl) [1,4,5,15,16,150,151,152,186] ?_;simp[oK,e1,e6,re,rf,q1,lf,Kp,hy,this];exact eO rfl (kP (by omega)) (by simp)
   ·have:c1=false:=by rw[<-bU];simp[q1]
    refine aa.pe aC fw (rs:=oK) (.inr ⟨_,rfl⟩) (by kernel_rfl) [1,4,5,15,16,150,151,152,186] ?_;simp[oK,e6,re,q1,Kp,hy,this];exact eO rfl (kP (by omega)) (by simp)
  have w2:IntKind.i64.wrap ((k:Int)+1)=((k+1:Nat):Int):=by rw[aF (by omega)];omega
  refine aa.cond rfl (λg2=>?_) (λg2=>?_)
  ·have g2:c1=true:=by simpa using g2
   subst g2;have hc:=Zat bU;rw[Zai hc]at hs;apply aa.fK cF fw [1,4,5,150,151,152];simp[EC,e6,Kp,hy,re];apply aa.fK cF fw [1,4,5,150,151,152];simp[yS,w2];refine⟨k+1,eO ?_ (kP (by omega)) (by simp),by omega,by omega⟩;rw[hs];funext q;simp only[nO,cS,gR,LR];by_cases h1:q=3040
   ·subst h1;rfl
   ·simp only[Zab h1]
  ·have g2:c1=false:=by simpa using g2
   subst g2;have hc:=Zay bU;rw[Zab hc]at hs;apply aa.skip;simp;apply aa.fK cF fw [1,4,5,150,151,152];simp[yS,w2];exact⟨k+1,eO (by rw[hs]) (kP (by omega)) (by simp),by omega,by omega⟩
 ·have g:k=es.length:=by
   have:¬k<es.length:=by simpa using g
   omega
  subst g;apply aa.exit;simp;apply aa.seq;apply aa.fK cF fw [2,3];simp[ED,e1];apply aa.ret;simp[q8,On,e6]
end
section
variable{es:List bF}{st:kl}
def stF(nd:Int)(es:List bF):kl:=⟨fS nd es,(fS nd es).map (λv=>decide (v.aH<1099511627776)),[],q0⟩
def fin_of{nd:Int}{c:Int}(h:KI nd es (fS nd es) (λ_=>0) (λ_=>False) c st)(hb:st.ak=(stF nd es).ak):st.bZ=(stF nd es).bZ:=by
 have l1:=h.lb;have l2:=h.lf;have fp:st.ak=fS nd es:=hb;show st.bZ=(fS nd es).map _;rw[<-fp];refine Zbw (by simp;omega) λi h1 h2=>?_;have hi:i<st.ak.length:=by simpa using h2
 have e1:bv st.ak i=st.ak[i]:=by simp[bv,List.getD,hi]
 have e2:st.bZ.getD i false=st.bZ[i]:=by simp[List.getD,h1]
 rw[ZbQ,<-e1,<-e2];cases hf:st.bZ.getD i false with
 |true=>
  have:=h.fv i (by omega) hf;simp[this]
 |false=>
  have:=h.uv i (by omega) hf;rw[this];rfl
def py(l:List Bool):Nat:=l.countP (λb=> !b)
def MK:∀{l:List Bool} {i:Nat},i<l.length->l.getD i false=false->py (l.set i true)+1=py l
 |[],i,h,_=>by simp at h
 |b::l,0,h,hb=>by
  simp at hb;subst hb;simp[py]
 |b::l,i+1,h,hb=>by
  have:=MK (l:=l) (i:=i) (by simpa using h) (by simpa using hb);unfold py at this⊢;rw[Zb2,ZcJ,ZcJ];omega
def ML(z:eY)(st:kl)(E:bO)(s:Qs):bH (cM (eC z st E)) 2414 (⟨xx,z,st⟩:SV).qv s=cM (eC z ⟨st.ak,st.bZ,st.fl,s⟩ E):=by
 have h:=nN z st E;have e:=rF h st s;rw[show bX (cM (eC z st E)) ⟨xx,z,st⟩ st=cM (eC z st E)from eH h]at e;exact e.trans (zy z st ⟨st.ak,st.bZ,st.fl,s⟩ E)
def MM{z:eY}{E:bO}{r:Nat}(h:3041<=r):gone (cM (eC z st E)) id r:=by
 rintro q hq rfl;exact hq (MG z st E _ h)
def phD{n:Nat}{us:List (bO)}{st:kl}{c:Int}(H:hE n es)(hu:zu n es us)(hc:c<=90000)(hK:KI n es (fS n es) (λ_=>0) (λ_=>False) c st):
  aa aj 198 dD (On q8 (.eo [.sl (bC (fS n es)),.sl (aG (PL (stF n es) es n es.length))])) ⟨DM.look (lK n es),cM (eC ⟨n,es,us⟩ st (lZ n n)),3500,1000,[]⟩:=by
 have hS:=JH H;have hG:=Wy H;unfold dD;apply aa.seq;apply aa.block;refine aa.loop (λs:kl=>⟨DM.look (lK n es),cM (eC ⟨n,es,us⟩ s (lZ n n)),3500,1000,[]⟩)
  (λs=>KI n es (fS n es) (λ_=>0) (λ_=>False) c s) (λs=>py s.bZ*(c.toNat+1)+s.s.heap.length) st (Le.refl _) hK (λs hs=>?_)
 clear hK st;have e1:=λs=>(nN ⟨n,es,us⟩ s (lZ n n)).sp;have e3:=λs=>(nN ⟨n,es,us⟩ s (lZ n n)).rf;have e6:∀z s E,cM (eC z s E) 3040=some (.dT 0 3 1 (aG E)):=λz s E=>by simp[eC]
 simp only[ma,xx]at e1;simp only[rU,xx]at e3;have JF:=hs.w9;have Lk:=hs.nc;have mi:∀r,cM (eC ⟨n,es,us⟩ s (lZ n n)) r=none->cM (eC ⟨n,es,us⟩ (lw s) (lZ n n)) r=none:=λr hr=>by
  rw[show cM (eC ⟨n,es,us⟩ (lw s) (lZ n n))=bH (cM (eC ⟨n,es,us⟩ s (lZ n n))) 2414 (⟨xx,⟨n,es,us⟩,s⟩:SV).qv (fC s.s)from(ML _ _ _ _).symm];exact gJ (f:=cM (eC ⟨n,es,us⟩ s (lZ n n))) (nN ⟨n,es,us⟩ s (lZ n n)).qv _ hr
 have nP:∀N,(∀r,N<=r->cM (eC ⟨n,es,us⟩ s (lZ n n)) r=none)->aR aj 103 [.ptr 2414 0] (cM (eC ⟨n,es,us⟩ s (lZ n n))) ⟨True,.v (uT s.s),cM (eC ⟨n,es,us⟩ (lw s) (lZ n n))⟩:=λN h=>by
  have:=t1103 (f0:=cM (eC ⟨n,es,us⟩ s (lZ n n))) h (nN ⟨n,es,us⟩ s (lZ n n)).qv (show wo s.s from⟨hs.ok,hs.nd',by omega⟩);have e:bH (cM (eC ⟨n,es,us⟩ s (lZ n n))) (⟨xx,⟨n,es,us⟩,s⟩:SV).k.q (⟨xx,⟨n,es,us⟩,s⟩:SV).qv (fC s.s)=cM (eC ⟨n,es,us⟩ (lw s) (lZ n n)):=ML _ _ _ _;have e2:(⟨xx,⟨n,es,us⟩,s⟩:SV).qv.s=s.s:=rfl;rw[e2,e]at this;exact this
 have aC:=Hd ay.nil nP mi;apply aa.block;by_cases bT:s.s.heap=[]
 ·have hpv:uT s.s=.eo [.agg [ti 0,ti 0,ti 0],.bool false]:=by simp[uT,bT]
  have hb:s.ak=(stF n es).ak:=hs.fin_eq H hS hG bT;have hf:=fin_of hs hb;have Vo:lw s=s:=by simp[lw,fC,bT]
  rw[hpv,Vo]at aC;apply aa.cX aC fw (rs:=vu) rfl (by kernel_rfl) [1,4,5,13,14];simp[vu,e1];refine aa.le (le_so (L:=[(_,.box [.v (ti 0),.v (ti 0),.v (ti 0)]),(_,.box [.v (ti 0),.v (ti 0),.v (ti 0)])]) (L':=[]) (l:=[(1,.v (.box [ti n,.sl (bk es)])),(4,.ptr 2033 0),(5,.bA 3040 0),(14,.v (.bool false))]) (ba:=3800) ?_ ?_ (by omega) ?_ ?_) ?_;iterate 3(·simp)
  ·simp[e1,e6]
  apply aa.seq;apply aa.ch cF fw [1,4,5,136];simp[yR];refine aa.cond rfl (λ_=>?_) (λg=>by cases g);apply aa.exit;simp;refine aa.le (frz (ba:=3500) (by omega) (by simp)) ?_;have hfo:nO n es s (lZ n n)=nO n es (stF n es) (lZ n n):=by simp only[nO,PM,hb,hf]
  rw[hfo];have hlb:(stF n es).ak.length=n:=by have:=hs.lb;rw[hb]at this;omega
  have hlf:(stF n es).bZ.length=n:=by have:=hs.lf;rw[hf]at this;omega
  have Bv:=hs.bo;rw[hb]at Bv;exact phE H hlb hlf Bv
 ·obtain⟨re,hre⟩:=bb (root s);have hpv:uT s.s=.eo [.agg [ti re.x,ti re.v.aH,ti re.v.size],.bool true]:=by simp[uT,bT,<-hre]
  rw[hpv]at aC;apply aa.cX aC fw (rs:=vu) rfl (by kernel_rfl) [1,4,5,13,14];simp[vu,e1];obtain⟨⟨r1,r2⟩,r3,r4,r5,r6,r7⟩:=hs.vU _ (CT bT);obtain⟨f1,f2,f3⟩:=AV bT;rw[hre]at r1 r2 r3 r4 r5 r6 r7;obtain⟨y,hy⟩:=Zae r1;have Fq:y<n:=by omega
  have hlf:s.bZ.length=n:=by have:=hs.lf;omega
  have rf:=jG (l:=s.bZ) (y:=y) (by omega);rw[show(default:Bool)=false from rfl]at rf;obtain⟨fb,MC⟩:=bb (s.bZ.getD y false);rw[MC]at rf;have hpf:(lw s).bZ=s.bZ:=rfl;have Vj:(lw s).s.heap.length+1=s.s.heap.length:=by
   have:=ZaT.2 bT;show(fC s.s).heap.length+1=_;omega
  refine aa.le (le_so (L:=[(_,.box [.v (ti re.x),.v (ti re.v.aH),.v (ti re.v.size)]),(_,.box [.v (ti 0),.v (ti 0),.v (ti 0)])]) (L':=[]) (l:=[(1,.v (.box [ti n,.sl (bk es)])),(4,.ptr 2033 0),(5,.bA 3040 0),(13,.v (.box [ti re.x,ti re.v.aH,ti re.v.size])),(14,.v (.bool true))]) (ba:=3800) ?_ ?_ (by omega) ?_ ?_) ?_;iterate 3(·simp)
  ·simp[e1,e6];exact MM (by omega)
  apply aa.seq;apply aa.ch cF fw [1,4,5,13,136];simp[yR];refine aa.cond rfl (λg=>by cases g) (λ_=>?_);apply aa.skip;simp;apply aa.ch cF fw [1,4,5,13,145];simp[Ey,e1,e3,hy,hpf,hlf,Fq,rf];refine aa.cond rfl (λg=>?_) (λg=>?_)
  ·have g:s.bZ.getD y false=false:=MC.trans (by simpa using g);obtain⟨k1,k2,k3⟩:=hs.settle H hS hc bT hu (by rw[hre,hy];simpa using g);rw[hre]at k1 k2 k3;obtain⟨R,hR⟩:=bb (sT ⟨n,es,us⟩ (lw s) re.x re.v);rw[hR]at k2 k3;rw[hy]at k1 hR k3;have hcall2:∀N,(∀r,N<=r->cM (eC ⟨n,es,us⟩ (lw s) (lZ n n)) r=none)->aR aj 104 [.ptr 2033 0,.v (.agg [ti y,ti re.v.aH,ti re.v.size])] (cM (eC ⟨n,es,us⟩ (lw s) (lZ n n))) ⟨True,.v (.eo []),cM (eC ⟨n,es,us⟩ R (lZ n n))⟩:=λN h=>by
    have:=t1104 (f0:=cM (eC ⟨n,es,us⟩ (lw s) (lZ n n))) h (nN ⟨n,es,us⟩ (lw s) (lZ n n)) k1;rw[zy]at this;simp only[hR]at this;exact this
   refine aa.Iq (Hd ay.nil hcall2 ?_) fw (rs:=GY) rfl (by kernel_rfl) [1,4,5] ?_
   ·intro r hr;rw[<-hR,<-zy];exact gK (v:=⟨xx,⟨n,es,us⟩,lw s⟩) (nN _ _ _) _ hr
   simp[GY];refine⟨R,eO rfl (kP (by omega)) (by simp),k2, ?_⟩;have hcf:=MK (l:=s.bZ) (i:=y) (by omega) g;have hRn:=k2.nc;have hRc:=k2.w9;rw[k3,Zag,<-hcf,Nat.add_mul];omega
  ·have g:s.bZ.getD y false=true:=MC.trans (by simpa using g);apply aa.skip;simp;refine⟨lw s,eO rfl (kP (by omega)) (by simp),hs.drop bT (by rw[hre,hy];simpa using g), ?_⟩;rw[hpf];omega
end
section
variable{nd:Int}{es:List bF}
def sol_le(H:hE nd es):∀y:Nat,(y:Int)<nd->¬(⟨1099511627776,0⟩:c8).lt (bv (fS nd es) y):=by
 let P:bR->Prop:=λw=>J7 nd w/\∀y:Nat,(y:Int)<nd->¬(⟨1099511627776,0⟩:c8).lt (bv w y)
 have FD:∀w,P w->∀e∈es,P (p9 w e):=by
  intro w hw e he;have rG:=H.2.2.2 e he;refine⟨(ru rG.1 hw.1).1,λy hy=>?_⟩;unfold p9;split
  ·rename_i ln;have hh:e.head.toNat<w.length:=by have:=hw.1.1;have:=rG.1.1;have:=rG.1.2.1;omega
   have JG:bv (w.set e.head.toNat (dU e.aH (dR w e.dy))) y=if y=e.head.toNat then dU e.aH (dR w e.dy)else bv w y:=by
    unfold bv;simp only[Zag];exact eI hh
   rw[JG];split
   ·rename_i e1;have h3:=hw.2 y hy;have e2:bv w y=w.getD e.head.toNat default:=by unfold bv;rw[Zag,e1]
    rw[e2]at h3;unfold c8.lt at ln h3⊢;simp only at h3⊢;omega
   ·exact hw.2 y hy
  ·exact hw.2 y hy
 have PJ:∀w,P w->∀y,y<=es.length->P (eB es w y):=by
  intro w hw y;induction y with
  |zero=>intro _;exact hw
  |succ y ih=>intro hy;rw[jI];exact FD _ (ih (by omega)) _ (bm (by omega))
 have PK:∀f w,P w->P (kN es f w):=by
  intro f;induction f with
  |zero=>intro w hw;exact hw
  |succ f ih=>
   intro w hw;unfold kN;split
   ·exact hw
   ·exact ih _ (PJ w hw _ (Zaf _))
 refine(PK _ _ ⟨ze H.J6,λy hy=>?_⟩).2;have h0:=H.1;have e1:bv (Fp nd) y=⟨1099511627776,0⟩:=by unfold bv Fp;exact gY (by omega)
 rw[e1];simp[c8.lt]
def pz(es:List bF):bO:=es.map λe=>(e.dy.length:Int)
def Hg{k:Nat}(h:k<es.length):(pz es).getD k 0=((es.getD k default).dy.length:Int):=by simp[pz,List.getD,h]
def Hh:∀{es:List bF},(∀e∈es,e.dy.length<=2)->tP (pz es)<=2*es.length
 |[],_=>by simp[pz,tP]
 |e::es,h=>by
  have h1:=h e (by simp);have:=Hh (es:=es) λx hx=>h x (by simp[hx]);simp only[pz,ZaA,tP,Za5]at this⊢;omega
def FF(n:Nat)(ts:bO):AT (List.replicate n false) ts=ts.length:=by
 unfold AT;rw[List.countP_eq_length];intro t _;have:(List.replicate n false).getD t.toNat false=false:=by
  simp only[List.getD,Zch];split<;>rfl
 rw[this];rfl
def JK(n:Nat)(es:List bF):JI n es es.length=⟨List.replicate n ⟨1099511627776,0⟩,List.replicate n false,pz es,q0⟩:=by simp[JI,pz]
def KI.init{n:Nat}(hn:nd=n)(H:hE nd es):KI nd es (fS nd es) (λ_=>0) (λk=>0<=k) (tP (pz es)) (JI n es es.length):=by
 have hb:∀y:Nat,(y:Int)<nd->bv (List.replicate n (⟨1099511627776,0⟩:c8)) y=⟨1099511627776,0⟩:=λy hy=>by unfold bv;exact gY (by simp;omega)
 have hf:∀y:Nat,(List.replicate n false).getD y false=false:=λy=>by
  simp only[List.getD,Zch];split<;>rfl
 rw[JK];refine⟨by simp[hn],by simp[hn],by simp[pz], ?_,λk hk=>by simp[q0]at hk,λi _ hi=>by simp[q0]at hi,λv hv=>?_,λk hk=>?_,λk _ _ _ h=>Zar (ZbB k) h,λe he=>by simp[q0]at he,λy hy=>?_,λy hy h=>?_,λy hy _=>?_, ?_,λh hh=>?_, ?_⟩
 ·exact⟨by simp[q0,pA],by simp[q0],by simp[q0]⟩
 ·rw[ZbI hv];simp[jj]
 ·simp only[FF];rw[Hg hk];simp
 ·simp only;rw[hb y hy];exact sol_le H y hy
 ·simp only at h;rw[hf]at h;cases h
 ·exact hb y hy
 ·simp[q0]
 ·obtain⟨e,_,rfl⟩:=Zak.1 hh;omega
 ·simp[q0]
def phC{n:Nat}(H:hE n es):
  aa aj 198 dC (On q8 (.eo [.sl (bC (fS n es)),.sl (aG (PL (stF n es) es n es.length))])) ⟨DM.look (lK n es),cM (eC ⟨n,es,jL n es es.length⟩ (JI n es es.length) (lZ n n)),3500,1000,[]⟩:=by
 have hu:zu n es (jL n es es.length):=Wz H;obtain⟨us,VT⟩:=bb (jL n es es.length);rw[VT]at hu⊢;have hS:=JH H;have hsum2:=Hh (es:=es) λe he=>(H.2.2.2 e he).2;have hel:=H.2.2.1;obtain⟨C,hC⟩:=bb (tP (pz es));have hK:=KI.init (n:=n) rfl H;rw[hC]at hK hsum2;have e1:=λs=>(nN ⟨n,es,us⟩ s (lZ n n)).sp;have e4:=λs=>(nN ⟨n,es,us⟩ s (lZ n n)).rh;simp only[ma,xx]at e1;simp only[rV,xx]at e4;have dM:(JI n es es.length).fl.length=es.length:=by rw[JK];simp[pz]
 unfold dC;apply aa.seq;apply aa.ch cF fw [1,4,5,104,105,106];simp[Ev,e1,e4,dM];apply aa.block;refine aa.loop (λp:Nat×kl=>⟨DM.look [(1,.v (.box [ti n,.sl (bk es)])),(4,.ptr 2033 0),(5,.bA 3040 0),(104,.bA 2028 0),(105,.v (ti es.length)),(106,.v (ti p.1))],cM (eC ⟨n,es,us⟩ p.2 (lZ n n)),4000,1000,[]⟩)
  (λp=>p.1<=es.length/\KI n es (fS n es) (λ_=>0) (λk=>p.1<=k) (C+p.1) p.2/\p.2.bZ=List.replicate n false/\p.2.fl=pz es) (λp=>es.length-p.1) (0,JI n es es.length) (eO rfl (kP (by omega)) (by simp)) ⟨by omega,by simpa using hK,by rw[JK],by rw[JK]⟩ ?_
 rintro⟨k,s⟩ ⟨hk,hs,hfs,hhs⟩;simp only at hk hs hfs hhs;apply aa.ch cF fw [1,4,5,104,105,106,107];simp[Ew];apply aa.seq;refine aa.cond rfl (λg=>?_) (λg=>?_)
 ·have g:k<es.length:=by simpa using g
  have Bl:(pz es).length=es.length:=by simp[pz]
  have rh:=cE (l:=pz es) (y:=k) (by omega);rw[show(default:Int)=0 from rfl,Hg g]at rh;have rr:=jX g;obtain⟨e,JB⟩:=bb (es.getD k default);rw[JB]at rh rr;have w2:IntKind.i64.wrap ((k:Int)+1)=((k+1:Nat):Int):=by rw[aF (by omega)];omega
  have hwk:e.dy.length≠0->KI n es (fS n es) (λ_=>0) (λj=>k+1<=j) (C+(k+1:Nat)) s:=λbT=>hs.Wu (λj hj h1 h2 _ h3=>by
   by_cases ej:j=k
   ·subst ej;rw[hfs,FF,JB]at h2;exact bT h2
   ·omega) (by omega)
  have hof:e.dy.length=0->KI n es (fS n es) (λ_=>0) (λj=>k+1<=j) (C+(k+1:Nat)) (pp s e):=λhe0=>by
   have h0:AT s.bZ (es.getD k default).dy=0:=by rw[hfs,FF,JB];exact he0
   have:=hs.FC H hS g h0 (λy hy xw=>by
    rw[hfs]at xw;simp only[List.getD,Zch]at xw;split at xw<;>cases xw)
   rw[JB]at this;exact this.Wu (λj hj h1 _ _ h2=>by omega) (by omega)
  have hoo:=hs.TW H (by omega) (us:=us) g;have hofh:(pp s e).fl=s.fl/\(pp s e).bZ=s.bZ:=by
   unfold pp;split<;>exact⟨rfl,rfl⟩
  have dq:qF ⟨n,es,us⟩ s k=pp s e:=by unfold qF;rw[show(⟨n,es,us⟩:eY).es=es from rfl,JB]
  obtain⟨eh,ts,ec,e0',e1'⟩:=e;simp only[bF.enc]at rr rh hwk hof;apply aa.skip;simp;apply aa.seq;apply aa.block;apply aa.ch cF fw [1,4,5,11,12,104,105,106];simp[Ex,e4,hhs,Bl,rh,g];obtain⟨c1,bU⟩:=bb (decide (ts.length=0):Bool);refine aa.cz cF fw [(1,.v (.box [ti n,.sl (bk es)])),(4,.ptr 2033 0),(5,.bA 3040 0),(11,.v (ti k)),(12,.v (ti ts.length)),(104,.bA 2028 0),(105,.v (ti es.length)),(106,.v (ti k)),(122,.v (.bool c1))] ?_ ?_
  ·by_cases q1:ts.length=0
   ·have:c1=true:=by rw[<-bU];simp[q1]
    have q2:ts=[]:=ZaD q1;simp[yP,rr,q2,this,g]
   ·have:c1=false:=by rw[<-bU];simp[q1]
    have q2:ts≠[]:=λh=>q1 (by rw[h];rfl);have q3:¬(ts.length:Int)=0:=by omega
    simp[yP,q2,this]
  refine aa.cond rfl (λg2=>?_) (λg2=>?_)
  ·have g2:c1=true:=by simpa using g2
   subst g2;have h0:ts.length=0:=Zat bU;have nP:∀N,(∀r,N<=r->cM (eC ⟨n,es,us⟩ s (lZ n n)) r=none)->aR aj 102 [.ptr 2033 0,.v (ti k)] (cM (eC ⟨n,es,us⟩ s (lZ n n))) ⟨True,.v (.eo []),cM (eC ⟨n,es,us⟩ (pp s ⟨eh,ts,ec,e0',e1'⟩) (lZ n n))⟩:=λN h=>by
    have:=t1102 (f0:=cM (eC ⟨n,es,us⟩ s (lZ n n))) h (nN ⟨n,es,us⟩ s (lZ n n)) hoo;rw[zy]at this;simp only[dq]at this;exact this
   refine aa.Iq (Hd ay.nil nP ?_) fw (rs:=GX) rfl (by kernel_rfl) [1,4,5,104,105,106] ?_
   ·intro r hr;rw[<-dq,<-zy];exact gK (v:=⟨xx,⟨n,es,us⟩,s⟩) (nN _ _ _) _ hr
   simp[GX];apply aa.fK cF fw [1,4,5,104,105,106];simp[yQ,w2];exact⟨k+1,_,eO rfl (kP (by omega)) (by simp),⟨by omega,hof h0,hofh.2.trans hfs,hofh.1.trans hhs⟩,by omega⟩
  ·have g2:c1=false:=by simpa using g2
   subst g2;have h0:ts.length≠0:=Zay bU;apply aa.skip;simp;apply aa.fK cF fw [1,4,5,104,105,106];simp[yQ,w2];exact⟨k+1,s,eO rfl (kP (by omega)) (by simp),⟨by omega,hwk h0,hfs,hhs⟩,by omega⟩
 ·have g:k=es.length:=by
   have:¬k<es.length:=by simpa using g
   omega
  subst g;apply aa.exit;simp;refine aa.le (eO (l:=lK n es) (ba:=3500) rfl (kP (by omega)) (by simp)) ?_;exact phD H hu (by omega) (hs.Wu (ex':=λ_=>False) (λk hk _ _ _ h=>by omega) (Zct _))
end
section
variable{es:List bF}{st:kl}{f tm:dw}{aJ ba:Nat}
def iy(n:Nat)(es:List bF)(st:kl)(E:bO)(cs:bB):cV:=[(2033,.box (ma xx ⟨n,es,List.replicate n []⟩)),(2021,qK st),(2024,rU st),(2028,rV st),(2031,.box cs),(2414,qB 2419 2412 q0),(2419,hB q0),(2412,mB q0),(3040,.dT 0 3 1 (aG E))]
def uV(U:List (bO))(t:Nat):DV:=if U.getD t []=[]then .aW else .bA (5000+t) ((U.getD t []).length-1)
def fF(n:Nat)(U:List (bO)):bB:=(List.range n).map (uV U)
def ql(U:List (bO))(t:Nat):Option Ob:=if U.getD t []=[]then none else some (.dT ((U.getD t []).length-1) 3 1 (aG (U.getD t [])))
def sW(n:Nat)(es:List bF)(st:kl)(U:List (bO)):bq:=λr=>if 5000<=r/\r<5000+n then ql U (r-5000)else cM (iy n es st (lZ n n) (fF n U)) r
def oL(n:Nat)(es:List bF)(st:kl)(E:bO)(cs:bB):∀q∈iy n es st E cs,1000<=q.1/\q.1<3041:=by simp[iy]
def AX{n:Nat}{U:List (bO)}(hn:n<=1000){k:Nat}(hk:7000<=k):∀r,k<=r->sW n es st U r=none:=λr hr=>by
 unfold sW;rw[Zab (by omega)];exact fE (λq hq=>(oL _ _ _ _ _ q hq).2) r (by omega)
def ke{n:Nat}{U:List (bO)}{r:Nat}(h:r<5000):sW n es st U r=cM (iy n es st (lZ n n) (fF n U)) r:=by
 unfold sW;rw[Zab (by omega)]
def mX{n:Nat}{U:List (bO)}{t:Nat}(h:t<n):sW n es st U (5000+t)=ql U t:=by
 unfold sW;rw[Zai (by omega),Nat.add_sub_cancel_left]
def MN{U:List (bO)}{t m:Nat}(h:m∈aN (uV U t)):m=5000+t/\U.getD t []≠[]:=by
 unfold uV at h;split at h
 ·simp[aN]at h
 ·simp only[aN,Zah,Zal,or_false]at h;exact⟨h,by assumption⟩
def o6{l:cO}{m:Nat}(h:m∈bM (l.map f)):∃t∈l,m∈aN (f t):=by
 induction l with
 |nil=>simp[bM]at h
 |cons a l ih=>
  simp only[ZaA,bM,Zaq]at h;rcases h with h|h
  ·exact⟨a,by simp,h⟩
  ·obtain⟨t,ht,h⟩:=ih h;exact⟨t,by simp[ht],h⟩
def Hj{a b:bq}{σ:Nat->Nat}{l:cO}{g:dw}(h:∀t∈l,iL a b σ (f t) (g t)):ij a b σ (l.map f) (l.map g):=by
 induction l with
 |nil=>simp[ij]
 |cons x l ih=>
  simp only[ZaA,ij];exact⟨h x (by simp),ih λt ht=>h t (by simp[ht])⟩
def Hk{n t:Nat}{U:List (bO)}{c:DV}(ht:t<n):(fF n U).set t c=(List.range n).map (λs=>if s=t then c else uV U s):=by
 refine Zbw (by simp[fF]) λi h1 h2=>?_;simp only[Zb1,fF,ZbQ,ZbS];by_cases e:t=i
 ·subst e;simp
 ·rw[Zab e,Zab (λh=>e h.symm)]
def PN{n:Nat}{U:List (bO)}(hn:n<=1000):dh (sW n es st U) 7000:=by
 intro r o h;have hr:r<7000:=by
  by_cases hr:r<7000
  ·exact hr
  ·rw[AX hn (Zaf 7000) r (by omega)]at h;cases h
 refine⟨hr,λm hm=>?_⟩;by_cases wp:5000<=r/\r<5000+n
 ·unfold sW at h;rw[Zai wp]at h;unfold ql at h;split at h
  ·cases h
  ·simp only[Zaa]at h;subst h;simp[aZ]at hm
 ·unfold sW at h;rw[Zab wp]at h;have kx:=jS h;simp only[iy,Zah,Zal,or_false,Zav]at kx;rcases kx with⟨rfl,rfl⟩|⟨rfl,rfl⟩|⟨rfl,rfl⟩|⟨rfl,rfl⟩|⟨rfl,rfl⟩|⟨rfl,rfl⟩|⟨rfl,rfl⟩|⟨rfl,rfl⟩|⟨rfl,rfl⟩
  ·simp only[ma,xx,aZ,bM,aN,ZaC,ZaG,Zaq,Zah,Zal,or_false]at hm;rcases hm with rfl|rfl|rfl|rfl|rfl<;>rw[ke (by omega)]<;>simp[iy]
  ·simp[qK,aZ]at hm
  ·simp[rU,aZ]at hm
  ·simp[rV,aZ]at hm
  ·obtain⟨t,ht,h2⟩:=o6 (f:=uV U) (l:=List.range n) (show m∈bM (fF n U)from hm);obtain⟨rfl,h3⟩:=MN h2;rw[mX (by simpa using ht)];unfold ql;rw[Zab h3];simp
  ·simp only[qB,aZ,bM,aN,ZaC,ZaG,Zaq,Zah,Zal,or_false]at hm;rcases hm with rfl|rfl<;>rw[ke (by omega)]<;>simp[iy]
  ·simp[hB,aZ]at hm
  ·simp[mB,q0,uO,aZ]at hm
  ·simp[aZ]at hm
def le_fr{f:bq}{M:Nat}(aT:dh f M)(hM:1000<=M){L:cV}{l:fA}(hL:∀q∈L,M<=q.1)(hn:M<=ba)
  (ik:fR (aM L f) f id tm l):Le ⟨tm,aM L f,aJ,1000,[]⟩ ⟨DM.look l,f,ba,1000,[]⟩:=by
 have low:∀r,r<M->aM L f r=f r:=λr hr=>pB hr hL;refine Le.YG rfl rfl (λr hr=>?_) (λr o h=>?_) (λr hr o h=>?_) (λk=>nk l ik k)
 ·simp only at hr⊢;cases h:f r with
  |none=>rfl
  |some o=>have:=(aT r o h).1;omega
 ·have hr:=(aT r o h).1;refine⟨o,(low r hr).trans h,.inr ⟨rfl,λm hm=>?_⟩⟩;have NX:=(aT r o h).2 m hm;cases CV:f m with
  |none=>exact Zar CV NX
  |some o'=>exact⟨o',o',(low m (aT m o' CV).1).trans CV,CV,be _⟩
 ·simp only at hr h⊢;rw[low r (by omega)]at h;exact⟨o,h,be _⟩
def WB{n:Nat}{U:List (bO)}(h:U.length=n):ny U=(List.range n).map (λt=>.v (.sl (aG (U.getD t [])))):=by
 refine Zbw (by simp[ny,h]) λi h1 h2=>?_;have:i<U.length:=by simpa [ny]using h1
 simp[ny,List.getD,this]
def le_rows{n:Nat}{U:List (bO)}(hn:n<=1000)(la:st.s=q0)(hU:U.length=n)(hx:3041<=ba)(hl:gn tm (lK n es)):
  Le ⟨tm,sW n es st U,aJ,1000,[]⟩ ⟨DM.look (lK n es),cM (eC ⟨n,es,U⟩ st (lZ n n)),ba,1000,[]⟩:=by
 have hgone:∀t,gone (cM (eC ⟨n,es,U⟩ st (lZ n n))) id (5000+t):=λt=>MM (by omega);have lo:∀r,r<3041->r≠2031->sW n es st U r=cM (eC ⟨n,es,U⟩ st (lZ n n)) r:=λr hr bT=>by
  rw[ke (by omega)];simp only[iy,eC,cS,gR,la,Zab bT];simp[ma,xx,hU]
 have lo31:sW n es st U 2031=some (.box (fF n U)):=by rw[ke (by omega)];simp[iy]
 have ne31:cM (eC ⟨n,es,U⟩ st (lZ n n)) 2031=some (.box (ny U)):=by simp[eC]
 refine Le.YG rfl rfl (kP hx) (λr o h=>?_) (λr hr o h=>?_) (λk=>nk _ ?_ k)
 ·simp only at h;have hr:r<3041:=(sU _ _ _ r o h).1;by_cases e:r=2031
  ·subst e;rw[ne31]at h;simp only[Zaa]at h;subst h;refine⟨_,lo31,.inl ?_⟩;show ij _ _ _ _ _;rw[WB hU];refine Hj λt ht=>?_;have ht:t<n:=by simpa using ht
   unfold uV;split
   ·rename_i h0;rw[h0];simp[iL,aG]
   ·rename_i h0;simp only[iL,yo];refine .inr ⟨⟨3,1, ?_⟩,hgone t⟩;rw[mX ht];unfold ql;rw[Zab h0]
  ·refine⟨o,(lo r hr e).trans h,.inr ⟨rfl,λm hm=>?_⟩⟩;have NX:=(sU _ _ _ r o h).2 m hm;cases CV:cM (eC ⟨n,es,U⟩ st (lZ n n)) m with
   |none=>exact Zar CV NX
   |some o'=>
    have hm3:=(sU _ _ _ m o' CV).1;by_cases e:m=2031
    ·subst e;rw[ne31]at CV;simp only[Zaa]at CV;subst CV;exact⟨_,_,lo31,ne31,trivial⟩
    ·exact⟨o',o',(lo m hm3 e).trans CV,CV,be _⟩
 ·exfalso;simp only at hr h;rw[ke (by omega)]at h;have:=(oL _ _ _ _ _ _ (jS h)).1;omega
 ·simp at hl;simp[hl,eC];rw[ke (by omega)];simp[iy]
end
def lB(n:Nat)(es:List bF)(k:Nat)(ts:bO)(i:Nat):fA:=[(1,.v (.box [ti n,.sl (bk es)])),(4,.ptr 2033 0),(5,.bA 3040 0),(7,.v (ti k)),(60,.v (.sl (bk es))),(61,.v (ti es.length)),(62,.v (ti k)),(77,.v (.sl (aG ts))),(78,.v (ti ts.length)),(79,.v (ti i))]
def le_ren{n:Nat}{es:List bF}{st:kl}{U:List (bO)}(hn:n<=1000){t:Nat}(ht:t<n)(hU:U.length=n)(h0:U.getD t []=[]){N0:Nat}(hN:7000<=N0){x:Int}{tm:dw}{aJ k i:Nat}{ts:bO}(hl:gn tm (lB n es k ts i)):
  Le ⟨tm,aM [(2031,.box ((fF n U).set t (.bA N0 0))),(N0,.dT 0 3 1 [[ti x]])] (sW n es st U),aJ,1000,[]⟩ ⟨DM.look (lB n es k ts i),sW n es st (U.set t [x]),7000,1000,[]⟩:=by
 have mF:∀s,(U.set t [x]).getD s []=if s=t then [x]else U.getD s []:=λs=>eI (by omega)
 obtain⟨A,hA⟩:=bb (aM [(2031,.box ((fF n U).set t (.bA N0 0))),(N0,.dT 0 3 1 [[ti x]])] (sW n es st U));have lo:∀r,r<7000->r≠2031->A r=sW n es st U r:=λr hr bT=>by
  rw[<-hA,aP,Zab bT,aP,Zab (by omega)];rfl
 have loB:∀r,r<5000->r≠2031->A r=sW n es st (U.set t [x]) r:=λr hr bT=>by
  rw[lo r (by omega) bT,ke hr,ke hr];simp only[iy,cS,gR,Zab bT]
 have o31:A 2031=some (.box ((fF n U).set t (.bA N0 0))):=by rw[<-hA,aP,Zai rfl]
 have oN:A N0=some (.dT 0 3 1 [[ti x]]):=by rw[<-hA,aP,Zab (by omega),aP,Zai rfl]
 have n31:sW n es st (U.set t [x]) 2031=some (.box (fF n (U.set t [x]))):=by rw[ke (by omega)];simp[iy]
 have nt:sW n es st (U.set t [x]) (5000+t)=some (.dT 0 3 1 [[ti x]]):=by
  rw[mX ht];unfold ql;rw[mF,Zai rfl];rfl
 have ns:∀s,s<n->s≠t->sW n es st (U.set t [x]) (5000+s)=A (5000+s):=λs hs bT=>by
  rw[lo _ (by omega) (by omega),mX hs,mX hs];unfold ql;rw[mF,Zab bT]
 rw[hA];have sne:∀r,r<5000->(if r=5000+t then N0 else r)=r:=λr hr=>Zab (by omega);have base:∀r o,r<5000->sW n es st (U.set t [x]) r=some o->r=2021\/r=2024\/r=2028\/r=2031\/r=2033\/r=2412\/r=2414\/r=2419\/r=3040:=λr o hr h=>by
  rw[ke hr]at h;have kx:=jS h;simp only[iy,Zah,Zal,or_false,Zav]at kx;omega
 have hv:∀r o,r<5000->r≠2031->cM (iy n es st (lZ n n) (fF n U)) r=some o->A r=some o/\sW n es st (U.set t [x]) r=some o:=λr o hr bT h=>by
  have h1:A r=some o:=by rw[lo r (by omega) bT,ke hr];exact h
  exact⟨h1,(loB r hr bT).symm.trans h1⟩
 have v21:=hv 2021 (qK st) (by omega) (by omega) (by simp[iy]);have v24:=hv 2024 (rU st) (by omega) (by omega) (by simp[iy]);have v28:=hv 2028 (rV st) (by omega) (by omega) (by simp[iy]);have v33:=hv 2033 (.box (ma xx ⟨n,es,List.replicate n []⟩)) (by omega) (by omega) (by simp[iy]);have v12:=hv 2412 (mB q0) (by omega) (by omega) (by simp[iy]);have v14:=hv 2414 (qB 2419 2412 q0) (by omega) (by omega) (by simp[iy]);have v19:=hv 2419 (hB q0) (by omega) (by omega) (by simp[iy]);have v40:=hv 3040 (.dT 0 3 1 (aG (lZ n n))) (by omega) (by omega) (by simp[iy]);simp only[qK,rU,rV,mB,hB,qB,ma,xx]at v21 v24 v28 v33 v12 v14 v19;refine Le.cor (λr=>if r=5000+t then N0 else r) rfl rfl (λr hr=>AX hn (Zaf 7000) r hr) (λr o h=>?_) (λr1 r2 h1 h2 e=>?_) (λr hr o h=>?_) (λk=>nk _ ?_ k)
 ·simp only at h⊢;have hr:r<7000:=by
   by_cases hr:r<7000
   ·exact hr
   ·rw[AX hn (Zaf 7000) r (by omega)]at h;cases h
  by_cases hb:r<5000
  ·rw[sne r hb];rcases base r o hb h with rfl|rfl|rfl|rfl|rfl|rfl|rfl|rfl|rfl
   ·rw[v21.2]at h;simp only[Zaa]at h;subst h;exact⟨_,v21.1,by simp⟩
   ·rw[v24.2]at h;simp only[Zaa]at h;subst h;exact⟨_,v24.1,by simp⟩
   ·rw[v28.2]at h;simp only[Zaa]at h;subst h;exact⟨_,v28.1,by simp⟩
   ·rw[n31]at h;simp only[Zaa]at h;subst h;refine⟨_,o31, ?_⟩;show ij _ _ _ _ _;rw[Hk ht];refine Hj λs hs=>?_;have hs:s<n:=by simpa using hs
    unfold uV;rw[mF];by_cases e:s=t
    ·subst e;rw[Zai rfl,Zai rfl,Zab (by simp)];simp only[iL,yo];refine .inr ⟨by simp,3,1,_,3,1,_,oN,nt⟩
    ·rw[Zab e,Zab e];split
     ·simp[iL]
     ·rename_i hh;simp only[iL,yo];refine .inr ⟨by rw[Zab (by omega)],3,1,aG (U.getD s []),3,1,aG (U.getD s []), ?_, ?_⟩
      ·rw[lo _ (by omega) (by omega),mX hs];unfold ql;rw[Zab hh]
      ·rw[ns s hs e,lo _ (by omega) (by omega),mX hs];unfold ql;rw[Zab hh]
   ·rw[v33.2]at h;simp only[Zaa]at h;subst h;exact⟨_,v33.1,by simp[v21.1,v21.2,v24.1,v24.2,v28.1,v28.2,n31,v14.2,sne]⟩
   ·rw[v12.2]at h;simp only[Zaa]at h;subst h;exact⟨_,v12.1,by simp[q0,uO,jF]⟩
   ·rw[v14.2]at h;simp only[Zaa]at h;subst h;exact⟨_,v14.1,by simp[v19.1,v19.2,v12.2,sne,q0,pg,qW]⟩
   ·rw[v19.2]at h;simp only[Zaa]at h;subst h;exact⟨_,v19.1,by simp⟩
   ·rw[v40.2]at h;simp only[Zaa]at h;subst h;exact⟨_,v40.1,by simp⟩
  ·have wp:5000<=r/\r<5000+n:=by
    by_cases hh:5000<=r/\r<5000+n
    ·exact hh
    ·unfold sW at h;rw[Zab hh]at h;have:=(oL _ _ _ _ _ _ (jS h)).2;omega
   obtain⟨s,rfl⟩:∃s,r=5000+s:=⟨r-5000,by omega⟩;by_cases e:s=t
   ·subst e;rw[nt]at h;simp only[Zaa]at h;subst h;rw[Zai rfl];exact⟨_,oN,by simp⟩
   ·rw[Zab (by omega)];rw[ns s (by omega) e]at h;refine⟨o,h, ?_⟩;rw[lo _ (by omega) (by omega),mX (by omega)]at h;unfold ql at h;split at h
    ·cases h
    ·simp only[Zaa]at h;subst h;simp
 ·simp only at h1 h2 e;have hr:∀r,sW n es st (U.set t [x]) r≠none->r<7000:=λr h=>by
   by_cases hr:r<7000
   ·exact hr
   ·exact Zar (AX hn (Zaf 7000) r (by omega)) h
  have:=hr r1 h1;have:=hr r2 h2;split at e<;>split at e<;>omega
 ·exfalso;simp only at hr h;rw[lo r (by omega) (by omega),ke (by omega)]at h;have:=(oL _ _ _ _ _ _ (jS h)).1;omega
 ·simp[lB]at hl;simp[lB,hl,v33.2,v40.1,v40.2,sne]
section
variable{es:List bF}{ts:bO}
def MO{l:bB}{t:Nat}{c:DV}(h:t<l.length):l.take t++c::l.drop (t+1)=l.set t c:=by
 rw[List.set_eq_take_append_cons_drop,Zai h]
def stB_set{n:Nat}{k:Nat}(h:k<es.length):(JI n es k).fl.set k ((es.getD k default).dy.length:Int)=(JI n es (k+1)).fl:=by
 have e1:es.take (k+1)=es.take k++[es.getD k default]:=cW h;have e2:es.length-k=(es.length-(k+1))+1:=by omega
 simp only[JI];rw[ZbG _ _ (by simp;omega),e1,e2,ZaY];simp only[Zbn,ZaB,ZaZ,ZaA,ZbL,List.append_assoc];rw[show k-min k es.length=0 by omega];rfl
def MP{U:List (bO)}{j:Int}(x:Nat):((xy U j ts).getD x []).length<=(U.getD x []).length+ts.length:=by
 unfold xy;induction ts generalizing U with
 |nil=>simp
 |cons t ts ih=>
  rw[ZaN];have:=ih (U:=U.set t.toNat (U.getD t.toNat []++[j]));have h2:((U.set t.toNat (U.getD t.toNat []++[j])).getD x []).length<=(U.getD x []).length+1:=by
   by_cases hx:t.toNat<U.length
   ·rw[eI hx];split
    ·rename_i e;rw[e];simp
    ·omega
   ·rw[List.set_eq_of_length_le (by omega)];omega
  simp only[Za5];omega
def Hl{n:Nat}{es:List bF}(h:∀e∈es,e.dy.length<=2)(x:Nat):∀k,k<=es.length->((jL n es k).getD x []).length<=2*k
 |0,_=>by
  simp only[jL,Zda,Zca,List.getD,Zch];split<;>simp
 |k+1,hk=>by
  rw[px];have:=Hl (n:=n) h x k (by omega);have h1:=MP (U:=jL n es k) (j:=k) (ts:=(es.getD k default).dy) x;have h2:=h _ (bm (l:=es) (i:=k) (by omega));omega
def WC{U:List (bO)}{j:Int}{i:Nat}(h:i<ts.length):xy U j (ts.take (i+1))=(xy U j (ts.take i)).set (ts.getD i 0).toNat ((xy U j (ts.take i)).getD (ts.getD i 0).toNat []++[j]):=by
 unfold xy;rw[show ts.take (i+1)=ts.take i++[ts.getD i 0]from cW h,ZaI];rfl
abbrev lC(n:Nat)(es:List bF)(k:Nat):fA:=[(1,.v (.box [ti n,.sl (bk es)])),(4,.ptr 2033 0),(5,.bA 3040 0),(60,.v (.sl (bk es))),(61,.v (ti es.length)),(62,.v (ti k))]
def phB{n:Nat}(H:hE n es):
  aa aj 198 dB (On q8 (.eo [.sl (bC (fS n es)),.sl (aG (PL (stF n es) es n es.length))])) ⟨DM.look (lK n es),sW n es (JI n es 0) (jL n es 0),7000,1000,[]⟩:=by
 have hn:n<=1000:=by have:=H.2.1;omega
 have hel:=H.2.2.1;have e1:∀s U,sW n es s U 2033=some (.box (ma xx ⟨n,es,List.replicate n []⟩)):=λs U=>by rw[ke (by omega)];simp[iy]
 have e4:∀s U,sW n es s U 2028=some (rV s):=λs U=>by rw[ke (by omega)];simp[iy]
 have e5:∀s U,sW n es s U 2031=some (.box (fF n U)):=λs U=>by rw[ke (by omega)];simp[iy]
 have e6:∀s U,sW n es s U 3040=some (.dT 0 3 1 (aG (lZ n n))):=λs U=>by rw[ke (by omega)];simp[iy]
 simp only[ma,xx,Zby]at e1;simp only[rV]at e4;have aT:=λs U=>PN (n:=n) (es:=es) (st:=s) (U:=U) hn;have rQ:∀{s:kl} {U:List (bO)} {k:Nat},7000<=k->∀r,k<=r->sW n es s U r=none:=λhk=>AX hn hk;unfold dB;apply aa.seq;apply aa.ch cF fw [1,4,5,60,61,62];simp[Em];apply aa.block;refine aa.loop (λk:Nat=>⟨DM.look (lC n es k),sW n es (JI n es k) (jL n es k),7500,1000,[]⟩)
  (λk=>k<=es.length) (λk=>es.length-k) 0 (eO rfl (rQ (by omega)) (by simp)) (by omega) (λk hk=>?_)
 apply aa.ch cF fw [1,4,5,60,61,62,63];simp[En];apply aa.seq;refine aa.cond rfl (λg=>?_) (λg=>?_)
 ·have g:k<es.length:=by simpa using g
  have rr:=jX g;have Dm:=stB_set (n:=n) g;obtain⟨rG,het⟩:=kI H g;have hU0:=Hl (n:=n) (λe he=>(H.2.2.2 e he).2) (k:=k) (es:=es);obtain⟨e,JB⟩:=bb (es.getD k default);have VT:=px n es k;rw[JB]at rr Dm rG het VT;obtain⟨eh,ts,ec,e0',e1'⟩:=e;have Kr:=rG.2.2.1;simp only[bF.enc]at rr Dm Kr het VT;have w2:IntKind.i64.wrap ((k:Int)+1)=((k+1:Nat):Int):=by rw[aF (by omega)];omega
  have hhl:(JI n es k).fl.length=es.length:=by simp[JI];omega
  apply aa.skip;simp;apply aa.seq;apply aa.block;apply aa.ch cF fw [1,4,5,7,8,60,61,62];simp[Eo,rr,g];refine aa.le (le_fr (L:=[(7708,.box [.v (ti eh),.v (.sl (aG ts)),.v (ti ec),.v (ti e0'),.v (ti e1')]),(7708,.box [.v (ti 0),.aW,.v (ti 0),.v (ti 0),.v (ti 0)])]) (l:=[(1,.v (.box [ti n,.sl (bk es)])),(4,.ptr 2033 0),(5,.bA 3040 0),(7,.v (ti k)),(8,.v (.box [ti eh,.sl (aG ts),ti ec,ti e0',ti e1'])),(60,.v (.sl (bk es))),(61,.v (ti es.length)),(62,.v (ti k))]) (ba:=8000) (aT _ _) (by omega) (by simp) (by omega) ?_) ?_
  ·simp[e1,e6];exact bL (l:=[]) (aT _ _) (by omega) (by simp)
  apply aa.ch cF fw [1,4,5,7,8,60,61,62];simp[Ep,e1,e4,hhl,g];refine aa.le (eO (nJ:=sW n es (JI n es (k+1)) (jL n es k)) (ba:=8500) (l:=[(1,.v (.box [ti n,.sl (bk es)])),(4,.ptr 2033 0),(5,.bA 3040 0),(7,.v (ti k)),(8,.v (.box [ti eh,.sl (aG ts),ti ec,ti e0',ti e1'])),(60,.v (.sl (bk es))),(61,.v (ti es.length)),(62,.v (ti k))]) ?_ (rQ (by omega)) (by simp)) ?_
  ·have rh:=cE (l:=(JI n es k).fl) (y:=k) (by omega);rw[rh,List.tail_cons,show [T.int IntKind.i64 (ts.length:Int)]=[ti (ts.length:Int)]from rfl,<-LR,Dm];funext q;by_cases hq:q=2028
   ·subst hq;rw[e4];rfl
   ·show(if q=2028 then _ else _)=_;rw[Zab hq];unfold sW;split
    ·rfl
    ·simp only[iy,cS,gR,Zab hq];rfl
  obtain⟨st,la⟩:=bb (JI n es (k+1));rw[la];apply aa.ch cF fw [1,4,5,7,60,61,62,77,78,79];simp[Er];apply aa.block;refine aa.loop (λi:Nat=>⟨DM.look (lB n es k ts i),sW n es st (xy (jL n es k) k (ts.take i)),7000,1000,[]⟩)
   (λi=>i<=ts.length) (λi=>ts.length-i) 0 (eO rfl (rQ (by omega)) (by simp[lB])) (by omega) (λi hi=>?_)
  apply aa.ch cF fw [1,4,5,7,60,61,62,77,78,79,80];simp[Es,lB];apply aa.seq;refine aa.cond rfl (λg2=>?_) (λg2=>?_)
  ·have g2:i<ts.length:=by simpa using g2
   apply aa.skip;simp;apply aa.seq;apply aa.block;have rt:=cE g2;have hsu:=WC (U:=jL n es k) (j:=k) g2;have wp:=MP (U:=jL n es k) (j:=k) (ts:=ts.take i);have hU0:=λx=>hU0 x (by omega);obtain⟨U,hU⟩:=bb (xy (jL n es k) k (ts.take i));have hUl:U.length=n:=by rw[<-hU,MH,oJ]
   rw[hU]at hsu wp⊢;obtain⟨tt,KB⟩:=bb (ts.getD i default);have ik:tt∈ts:=by rw[<-KB];exact bm g2
   rw[show ts.getD i 0=tt from KB]at hsu;rw[KB]at rt;obtain⟨t0,t1⟩:=Kr tt ik;obtain⟨t,rfl⟩:=Zae t0;have t1:t<n:=by omega
   rw[Zag]at hsu;have w3:IntKind.i64.wrap ((i:Int)+1)=((i+1:Nat):Int):=by rw[aF (by omega)];omega
   have z8:=wp t;have hrl0:=hU0 t;simp only[ZaB]at z8;apply aa.ch cF fw [1,4,5,7,10,60,61,62,77,78,79];simp[Et,rt,g2];have dM:(fF n U).length=n:=by simp[fF]
   by_cases h0:U.getD t []=[]
   ·have zq:∀h,(fF n U)[t]'h=.aW:=λh=>by simp only[fF,ZbQ,ZbS,uV,Zai h0]
    apply aa.pe cF fw (rs:=c5 (iO (5000+t) 2033 7000) (eR qZ [none,none,none,some [1],none,none,none,none,none,none,none,none,none,none,some [0],none,none])) (.inl rfl) ((dX (jK (by omega) (by omega) (by omega)) _ _ _).trans (by kernel_rfl)) [1,4,5,7,60,61,62,77,78,79];simp[qZ,c5,fk,eR,iO,cP,bG,aN,bM,Zba,fU,dK,e1,e5,zq,dM,t1];refine⟨by omega, ?_⟩;apply aa.fK cF fw [1,4,5,7,60,61,62,77,78,79];simp[yO,w3];refine⟨i+1, ?_,by omega,by omega⟩;rw[hsu,h0];rw[MO (by omega)];exact le_ren (N0:=7496) (n:=n) (es:=es) (st:=st) (U:=U) (t:=t) (x:=(k:Int)) (k:=k) (i:=i+1) (ts:=ts) hn t1 hUl h0 (by omega) (by simp[lB])
   ·have zq:∀h,(fF n U)[t]'h=.bA (5000+t) ((U.getD t []).length-1):=λh=>by simp only[fF,ZbQ,ZbS,uV,Zab h0]
    have I2:sW n es st U (5000+t)=some (.dT ((U.getD t []).length-1) 3 1 (aG (U.getD t []))):=by
     rw[mX t1];unfold ql;rw[Zab h0]
    have oV:∀o,cG (sW n es st U) (some (5000+t,o)) 2031=some (.box (fF n U)):=λo=>by
     show(if 2031=5000+t then _ else _)=_;rw[Zab (by omega),e5]
    obtain⟨row,hrow'⟩:=bb (U.getD t []);rw[hrow']at zq I2 hsu h0 z8;apply aa.pe cF fw (rs:=c5 (iO (5000+t) 2033 7000) (eR qZ [none,none,none,some [1],none,none,none,none,none,none,none,none,none,none,some [0],none,none])) (.inl rfl) ((dX (jK (by omega) (by omega) (by omega)) _ _ _).trans (by kernel_rfl)) [1,4,5,7,60,61,62,77,78,79];simp[qZ,c5,fk,eR,iO,cP,bG,aN,bM,Zba,fU,dK,e1,e5,zq,dM,t1,I2,oV];refine⟨by omega,by omega,by omega,by omega, ?_⟩;apply aa.fK cF fw [1,4,5,7,60,61,62,77,78,79];simp[yO,w3];refine⟨i+1,eO ?_ (rQ (by omega)) (by simp),by omega,by omega⟩;rw[hsu,MO (by omega)];have hrl0:0<row.length:=ZaT.2 h0;have mF:∀s,(U.set t (row++[(k:Int)])).getD s []=if s=t then row++[(k:Int)]else U.getD s []:=λs=>eI (by omega)
    have oj:(fF n U).set t (.bA (5000+t) (row.length-1+1))=fF n (U.set t (row++[(k:Int)])):=by
     rw[Hk t1];unfold fF;refine Zbq λs hs=>?_;unfold uV;rw[mF];by_cases e:s=t
     ·subst e;rw[Zai rfl,Zai rfl,Zab (by simp)];simp;omega
     ·rw[Zab e,Zab e]
    rw[oj];funext q;show(if q=2031 then _ else if q=5000+t then _ else _)=_;by_cases h1:q=2031
    ·subst h1;rw[Zai rfl,e5]
    rw[Zab h1];by_cases h2:q=5000+t
    ·subst h2;rw[Zai rfl,mX t1];unfold ql;rw[mF,Zai rfl,Zab (by simp)];simp[aG];omega
    rw[Zab h2];unfold sW;split
    ·have e3:q-5000≠t:=by omega
     unfold ql;simp only[mF,Zab e3]
    ·simp only[iy,cS,gR,Zab h1]
  ·have g2:i=ts.length:=by
    have:¬i<ts.length:=by simpa using g2
    omega
   subst g2;apply aa.exit;simp;apply aa.fK cF fw [1,4,5,60,61,62];simp[Eu,w2];refine⟨k+1,eO ?_ (rQ (by omega)) (by simp),by omega,by omega⟩;rw[VT,la]
 ·have g:k=es.length:=by
   have:¬k<es.length:=by simpa using g
   omega
  subst g;apply aa.exit;simp;refine aa.le (le_rows (ba:=3500) hn (by simp[JI]) (oJ _ _ _) (by omega) (by simp)) ?_;exact phC H
end
section
variable{es:List bF}
def solP(nd:Int)(es:List bF)(n:Nat):bB:=[.v (ti nd),.v (.sl (bk es)),.bA 2021 0,.bA 2024 0,.bA 2028 0,.F9 2031 n,.v (.mg (Go.Value.pointer Option.none))]
def MQ(nd:Int)(es:List bF)(n:Nat):cV:=[(2033,.box (solP nd es n)),(2021,qK (J9 n es.length 0)),(2024,rU (J9 n es.length 0)),(2028,rV (J9 n es.length 0)),(2031,.box (List.replicate n .aW))]
def MR(nd:Int)(es:List bF)(n:Nat):cV:=[(2033,.box (ma xx ⟨nd,es,List.replicate n []⟩)),(2021,qK (J9 n es.length 0)),(2024,rU (J9 n es.length 0)),(2028,rV (J9 n es.length 0)),(2031,.box (List.replicate n .aW)),(2414,qB 2419 2412 q0),(2419,hB q0),(2412,mB q0)]
def Hm(a b:bq)(σ:Nat->Nat):∀n,ij a b σ (List.replicate n .aW) (List.replicate n .aW)
 |0=>by simp[ij]
 |n+1=>by
  simp only[ZaY,ij];exact⟨by simp[iL],Hm a b σ n⟩
def WD(n:Nat):fF n (List.replicate n [])=List.replicate n .aW:=by
 refine Zbw (by simp[fF]) λi h1 h2=>?_;have:i<n:=by simpa using h2
 simp only[fF,ZbQ,ZbS,uV,List.getElem_replicate];rw[Zai];exact gY this
def obW_nil(n:Nat)(es:List bF)(st:kl):sW n es st (List.replicate n [])=cM (iy n es st (lZ n n) (List.replicate n .aW)):=by
 funext q;unfold sW;rw[WD];split
 ·unfold ql;rw[Zai (gY (by omega))];exact(fE (M:=3041) (λp hp=>(oL _ _ _ _ _ p hp).2) q (by omega)).symm
 ·rfl
def JL{n:Nat}{st:kl}{E:bO}{cs:bB}{k:Nat}(h:3041<=k):∀r,k<=r->cM (iy n es st E cs) r=none:=λr hr=>fE (M:=3041) (λp hp=>(oL _ _ _ _ _ p hp).2) r (by omega)
def t1071{nd:Int}(H:hE nd es):bl aj 71 [.agg [ti nd,.sl (bk es)]] (.eo [.sl (bC (fS nd es)),.sl (aG (PL (stF nd es) es nd.toNat es.length))]):=by
 obtain⟨n,rfl⟩:=Zae H.1;have hn:=H.2.1;have hel:=H.2.2.1;rw[Zag];refine c1071.ok (by simp) (aO ?_);simp;apply aa.ch cF fw [1];simp[Rl];refine aa.lk (o:=[]) (l:=[(1,.v (.box [ti n,.sl (bk es)]))]) (ba:=2000) (by simp) ?_;refine aa.jR cF fw (rs:=eR Lo []) (.inr ⟨_,rfl⟩) (by kernel_rfl) [1,4] ?_;simp[Lo,eR,Zba,dK];refine⟨by omega,by omega,by omega,by omega,by omega,by omega, ?_⟩;refine aa.le (Le.bi (o:=MQ n es n) (l:=[(1,.v (.box [ti n,.sl (bk es)])),(4,.ptr 2033 0)]) (ba:=2200) ?_ ?_ ?_ ?_) ?_
 ·simp
 ·simp[MQ]
 ·simp only[MQ,solP,rV,rU,qK,J9];simp[aG,g8,bC,Hm]
 ·simp[MQ]
 have KH:∀{tm:dw} {ob:bq},ob=aM ((2033,.box (ma xx ⟨n,es,List.replicate n []⟩))::nA 2399) (cM (MQ n es n))->gn tm [(1,.v (.box [ti n,.sl (bk es)])),(4,.ptr 2033 0)]->
   Le ⟨tm,ob,2419,1000,[]⟩ ⟨DM.look [(1,.v (.box [ti n,.sl (bk es)])),(4,.ptr 2033 0)],cM (MR n es n),3000,1000,[]⟩:=by
  intro tm ob e ik;subst e;refine Le.trans (Le.Cx 2414 1 211 (sz:=5) (cs:=[.v (.fn (.func 101) []),.aW,.iE 2412,.v (ti 0),.v (ti 0)]) (by omega) (by simp[nA]) rfl) (eO ?_ (fE (by simp[MR])) ik);funext q;show(if q=2414 then _ else if q=2419 then _ else _)=_;simp only[nA,MQ,MR,cS,gR,aP,cm];by_cases h1:q=2414
  ·subst h1;rfl
  by_cases h2:q=2419
  ·subst h2;rfl
  by_cases h3:q=2033
  ·subst h3;rfl
  by_cases h4:q=2412
  ·subst h4;rfl
  by_cases h6:q=2031
  ·subst h6;rfl
  by_cases h7:q=2028
  ·subst h7;rfl
  by_cases h8:q=2021
  ·subst h8;rfl
  by_cases h9:q=2024
  ·subst h9;rfl
  simp[h1,h2,h3,h4,h6,h7,h8,h9]
 refine aa.seq (aa.to ⟨DM.look [(1,.v (.box [ti n,.sl (bk es)])),(4,.ptr 2033 0)],cM (MR n es n),3000,1000,[]⟩ (aa.YK cF (N':=2419) [1,4] (pre:=[⟨.qu (.tmp 4),(some 33),none,[],none⟩]) (rs:=Rm) rfl ?_) ?_)
 ·have hP:cM (MQ n es n) 2033=some (.box (solP n es n)):=by simp[MQ]
  simp;refine⟨_,λhN=>t1100 hN, ?_⟩;rintro val nJ ⟨rfl,rfl⟩;simp[nA,aP,solP,hP];exact KH (by simp[ma,xx,nA]) (by simp)
 simp;have e1:=λst E=>(by simp[iy]:cM (iy n es st E (List.replicate n .aW)) 2033=some (.box (ma xx ⟨n,es,List.replicate n []⟩)));have e2:=λst E=>(by simp[iy]:cM (iy n es st E (List.replicate n .aW)) 2021=some (qK st));have e6:=λst E=>(by simp[iy]:cM (iy n es st E (List.replicate n .aW)) 3040=some (.dT 0 3 1 (aG E)));simp only[ma,xx,Zby]at e1;simp only[qK]at e2;obtain⟨m,hm⟩:=bb es.length;have lenA:∀k,k<=n->(J9 n m k).ak.length=n:=λk hk=>by simp[J9];omega
 have lenE:∀k,k<=n->(lZ n k).length=n:=λk hk=>by simp[lZ];omega
 apply aa.ch cF fw [1,4,5];simp[Rn,Zba,dK];refine⟨by omega,by omega, ?_⟩;refine aa.le (eO (nJ:=cM (iy n es (J9 n m 0) (lZ n 0) (List.replicate n .aW))) (l:=lK n es) (ba:=3200) ?_ (JL (by omega)) ?_) ?_
 ·funext q;rw[<-hm];simp only[MR,iy,cS,gR,lZ,Zcg,ZaG,Zcb,aG,List.map_replicate]
  (repeat' split)<;>first|rfl|omega
 ·simp
 apply aa.seq;apply aa.ch cF fw [1,4,5,44,45];simp[Ro,e1,e2,lenA 0 (by omega)];apply aa.block;refine aa.loop (λk:Nat=>⟨DM.look [(1,.v (.box [ti n,.sl (bk es)])),(4,.ptr 2033 0),(5,.bA 3040 0),(44,.v (ti n)),(45,.v (ti k))],cM (iy n es (J9 n m k) (lZ n k) (List.replicate n .aW)),3500,1000,[]⟩)
  (λk=>k<=n) (λk=>n-k) 0 (eO rfl (JL (by omega)) (by simp)) (by omega) (λk hk=>?_)
 apply aa.ch cF fw [1,4,5,44,45,46];simp[Rp];apply aa.seq;refine aa.cond rfl (λg=>?_) (λg=>?_)
 ·have g:k<n:=by simpa using g
  apply aa.skip;simp;apply aa.seq;apply aa.block;apply aa.ch cF fw [1,4,5,6,44,45];simp[Rq];have rb:=dd (l:=(J9 n m k).ak) (y:=k) (by rw[lenA k hk];exact g);have re:=cE (l:=lZ n k) (y:=k) (by rw[lenE k hk];exact g);apply aa.ch cF fw [1,4,5,6,44,45];simp[Rr,e1,e2,lenA k hk,g,rb];have e7:∀(q:Ob),cM ((2021,q)::iy n es (J9 n m k) (lZ n k) (List.replicate n .aW)) 3040=some (.dT 0 3 1 (aG (lZ n k))):=λq=>by rw[cS,Zab (by omega)];exact e6 _ _
  apply aa.fK cF fw [1,4,5,44,45];simp[Rs,e7,lenE k hk,g,re];apply aa.fK cF fw [1,4,5,44,45];simp[Rt];rw[aF (x:=(k:Int)+1) (by omega)];refine⟨k+1,eO ?_ (JL (by omega)) (by simp),by omega,by omega⟩;funext q;have v1:(bC (J9 n m k).ak).set k [T.int .i64 1099511627776,T.int .i64 0]=bC (J9 n m (k+1)).ak:=by
   rw[show [T.int .i64 1099511627776,T.int .i64 0]=[ti (⟨1099511627776,0⟩:c8).aH,ti (⟨1099511627776,0⟩:c8).size]from rfl,<-jh];simp only[J9,CX _ _ g]
  have v2:(aG (lZ n k)).set k [T.int .i64 (-1)]=aG (lZ n (k+1)):=by
   rw[<-LR];simp only[lZ,CX _ _ g]
  rw[v1,v2];simp only[iy,cS,gR];by_cases h1:q=2021
  ·subst h1;rfl
  by_cases h2:q=3040
  ·subst h2;rfl
  simp only[Zab h1,Zab h2];rfl
 ·have g:k=n:=by
   have:¬k<n:=by simpa using g
   omega
  rw[g];apply aa.exit;simp;have hsA:J9 n m n=JI n es 0:=by simp[J9,JI,hm]
  rw[hsA,<-obW_nil];exact aa.le (eO rfl (AX (by omega) (Zaf 7000)) (by simp)) (phB H)
end
end Kn
namespace Jb
open Go.DM
section
variable{av:List (aK)}
def xz(p:aK->Bool)(av:List (aK)):Int:=match av.findIdx? p with|some i=>i|none=> -1
def A0{p:aK->Bool}{y:Nat}(hy:y<av.length)(hp:p (av.getD y [])=true)(h:∀i,i<y->p (av.getD i [])=false):xz p av=y:=by
 have:av.findIdx? p=some y:=by
  rw[Zbm];refine⟨hy,by simpa [List.getD,hy]using hp,λj hj=>?_⟩;have hj2:j<av.length:=by omega
  have:=h j hj;simpa [List.getD,hj2]using this
 simp[xz,this]
def A1{p:aK->Bool}(h:∀i,i<av.length->p (av.getD i [])=false):xz p av= -1:=by
 have:av.findIdx? p=none:=by
  rw[Zb9];intro x hx;obtain⟨i,hi,rfl⟩:=ZaO hx;have:=h i hi;simpa [List.getD,hi]using this
 simp[xz,this]
def JM(p:aK->Bool)(av:List (aK)):decide (xz p av>=0)=av.any p:=by
 unfold xz;cases h:av.findIdx? p with
 |none=>
  rw[Zb9]at h;have:av.any p=false:=by
   rw[Zcl];intro x hx;simp[h x hx]
  simp[this]
 |some i=>
  rw[Zbm]at h;obtain⟨hi,hp,_⟩:=h;have:av.any p=true:=Zce.2 ⟨_,Zbe hi,hp⟩;simp[this]
def JN(o:bq):∀l:aK,tA true o (l.map .v)
 |[]=>trivial
 |x::l=>by
  simp only[ZaA];exact⟨by simp,JN o l⟩
def JO{i:Nat}(h:i<av.length):av.getD i []∈av:=by
 simp[List.getD,h]
def t1064(av:List (aK))(g:Nat)(bY:aK)(p:aK->Bool)(hl:av.length<=1000000000)(hz:∀r∈av,∃x0 x1 x2 x3 x4 x5,r=[x0,x1,x2,x3,x4,x5])(hg:∀r∈av,bl aj g (.agg r::bY) (.bool (p r))):bl aj 64 [.sl av,.fn (.func g) bY] (ti (xz p av)):=by
 obtain⟨R,hR⟩:=bb (xz p av);rw[hR];have aC:ay aj (bu [(g,cT (λts=>∃r∈av,ts=.agg r::bY) (λts=>match ts with|.agg r::_=>.bool (p r)|_=>.bool false) true)]):=by
  refine ay.cons ay.nil ?_;rintro ts ⟨r,hr,rfl⟩;obtain⟨x0,x1,x2,x3,x4,x5,rfl⟩:=hz r hr;exact⟨hg _ hr,λ_=>rfl⟩
 refine c1064.ok (by simp) (aO ?_);simp;apply aa.ch aC fw [0,1];simp[SO];apply aa.seq;apply aa.ch aC fw [0,1,7,8];simp[SP];apply aa.block;refine aa.loop (λy:Nat=>⟨DM.look [(0,.v (.sl av)),(1,.v (.fn (.func g) bY)),(7,.v (ti av.length)),(8,.v (ti y))],cM [],2000,1000,[]⟩)
  (λy=>y<=av.length/\∀i,i<y->p (av.getD i [])=false) (λy=>av.length-y) 0 (Le.bi (o:=[]) ?_ ?_ ?_ ?_) (by simp) (λy hy=>?_)
 iterate 4(·simp)
 obtain⟨lq,fJ⟩:=hy;apply aa.ch aC fw [0,1,7,8,9];simp[SQ];apply aa.seq;refine aa.cond rfl (λh=>?_) (λh=>?_)
 ·have h:y<av.length:=by simpa using h
  have wp:DM.rowAt av (y:Int)=av.getD y []:=by simp[DM.rowAt,List.getD,h]
  have kx:=JO h;obtain⟨row,hr⟩:=bb (av.getD y []);rw[hr]at kx wp;obtain⟨x0,x1,x2,x3,x4,x5,rfl⟩:=hz row kx;obtain⟨b,hb⟩:=bb (p [x0,x1,x2,x3,x4,x5]);have w2:IntKind.i64.wrap ((y:Int)+1)=((y+1:Nat):Int):=by rw[aF (by omega)];omega
  apply aa.skip;simp;apply aa.seq;apply aa.block;apply aa.ch aC fw [0,1,5,7,8];simp[SR];apply aa.ch aC fw [0,1,5,7,8,16];simp[SS,h,wp,kx,hb];refine⟨JN _ _, ?_⟩;refine aa.cond rfl (λh2=>?_) (λh2=>?_)
  ·have h2:b=true:=by simpa using h2
   apply aa.ch aC fw [4];simp[ST];apply aa.ret;rw[A0 h (by rw[hr,hb,h2]) fJ]at hR;subst hR;simp[EV]
  ·have h2:b=false:=by simpa using h2
   apply aa.skip;simp;apply aa.fK aC fw [0,1,7,8];simp[SU,w2];refine⟨y+1,Le.bi (o:=[]) ?_ ?_ ?_ ?_,⟨by omega,λi hi=>?_⟩,by omega⟩;iterate 4(·simp)
   ·by_cases e:i=y
    ·subst e;exact(congrArg p hr).trans (hb.trans h2)
    ·exact fJ i (by omega)
 ·have h:y=av.length:=by
   have:¬y<av.length:=by simpa using h
   omega
  subst h;apply aa.exit;simp;apply aa.ch aC fw [4];simp[SW];apply aa.ret;rw[A1 fJ]at hR;subst hR;simp[EV]
def t1038(av:List (aK))(g:Nat)(bY:aK)(p:aK->Bool)(hl:av.length<=1000000000)(hz:∀r∈av,∃x0 x1 x2 x3 x4 x5,r=[x0,x1,x2,x3,x4,x5])(hg:∀r∈av,bl aj g (.agg r::bY) (.bool (p r))):bl aj 38 [.sl av,.fn (.func g) bY] (.bool (av.any p)):=by
 have hi:=JM p av;obtain⟨R,hR⟩:=bb (av.any p);rw[hR]at hi⊢;have aC:ay aj (bu [(64,cT (λts=>ts=[.sl av,.fn (.func g) bY]) (λts=>ti (xz p av)) true)]):=by
  refine ay.cons ay.nil ?_;rintro ts rfl;exact⟨t1064 av g bY p hl hz hg,λ_=>rfl⟩
 refine c1038.ok (by simp) (aO ?_);simp;apply aa.ch aC fw [0,1];simp[Ss];apply aa.ch aC fw [4];simp[St];apply aa.ret;simp[Ly];simpa using hi.symm
def t1066(av:List (aK))(g:Nat)(bY:aK)(p:aK->Bool)(hl:av.length<=1000000000)(hz:∀r∈av,∃x0,r=[x0])(hg:∀r∈av,bl aj g ((r.headD (.bool false))::bY) (.bool (p r))):bl aj 66 [.sl av,.fn (.func g) bY] (ti (xz p av)):=by
 obtain⟨R,hR⟩:=bb (xz p av);rw[hR];have aC:ay aj (bu [(g,cT (λts=>∃r∈av,ts=(r.headD (.bool false))::bY) (λts=>match ts with|x::_=>.bool (p [x])|_=>.bool false) true)]):=by
  refine ay.cons ay.nil ?_;rintro ts ⟨r,hr,rfl⟩;obtain⟨x0,rfl⟩:=hz r hr;exact⟨hg _ hr,λ_=>rfl⟩
 refine c1066.ok (by simp) (aO ?_);simp;apply aa.ch aC fw [0,1];simp[SY];apply aa.seq;apply aa.ch aC fw [0,1,7,8];simp[SZ];apply aa.block;refine aa.loop (λy:Nat=>⟨DM.look [(0,.v (.sl av)),(1,.v (.fn (.func g) bY)),(7,.v (ti av.length)),(8,.v (ti y))],cM [],2000,1000,[]⟩)
  (λy=>y<=av.length/\∀i,i<y->p (av.getD i [])=false) (λy=>av.length-y) 0 (Le.bi (o:=[]) ?_ ?_ ?_ ?_) (by simp) (λy hy=>?_)
 iterate 4(·simp)
 obtain⟨lq,fJ⟩:=hy;apply aa.ch aC fw [0,1,7,8,9];simp[Ta];apply aa.seq;refine aa.cond rfl (λh=>?_) (λh=>?_)
 ·have h:y<av.length:=by simpa using h
  have wp:DM.rowAt av (y:Int)=av.getD y []:=by simp[DM.rowAt,List.getD,h]
  have kx:=JO h;obtain⟨row,hr⟩:=bb (av.getD y []);rw[hr]at kx wp;obtain⟨x0,rfl⟩:=hz row kx;obtain⟨b,hb⟩:=bb (p [x0]);have w2:IntKind.i64.wrap ((y:Int)+1)=((y+1:Nat):Int):=by rw[aF (by omega)];omega
  apply aa.skip;simp;apply aa.seq;apply aa.block;apply aa.ch aC fw [0,1,5,7,8];simp[Tb];apply aa.ch aC fw [0,1,5,7,8,16];simp[Tc,h,wp,hb];refine⟨⟨JN _ _,_,kx,rfl⟩, ?_⟩;refine aa.cond rfl (λh2=>?_) (λh2=>?_)
  ·have h2:b=true:=by simpa using h2
   apply aa.ch aC fw [4];simp[Td];apply aa.ret;rw[A0 h (by rw[hr,hb,h2]) fJ]at hR;subst hR;simp[EW]
  ·have h2:b=false:=by simpa using h2
   apply aa.skip;simp;apply aa.fK aC fw [0,1,7,8];simp[Te,w2];refine⟨y+1,Le.bi (o:=[]) ?_ ?_ ?_ ?_,⟨by omega,λi hi=>?_⟩,by omega⟩;iterate 4(·simp)
   ·by_cases e:i=y
    ·subst e;exact(congrArg p hr).trans (hb.trans h2)
    ·exact fJ i (by omega)
 ·have h:y=av.length:=by
   have:¬y<av.length:=by simpa using h
   omega
  subst h;apply aa.exit;simp;apply aa.ch aC fw [4];simp[Tf];apply aa.ret;rw[A1 fJ]at hR;subst hR;simp[EW]
def t1042(av:List (aK))(g:Nat)(bY:aK)(p:aK->Bool)(hl:av.length<=1000000000)(hz:∀r∈av,∃x0,r=[x0])(hg:∀r∈av,bl aj g ((r.headD (.bool false))::bY) (.bool (p r))):bl aj 42 [.sl av,.fn (.func g) bY] (.bool (av.any p)):=by
 have hi:=JM p av;obtain⟨R,hR⟩:=bb (av.any p);rw[hR]at hi⊢;have aC:ay aj (bu [(66,cT (λts=>ts=[.sl av,.fn (.func g) bY]) (λts=>ti (xz p av)) true)]):=by
  refine ay.cons ay.nil ?_;rintro ts rfl;exact⟨t1066 av g bY p hl hz hg,λ_=>rfl⟩
 refine c1042.ok (by simp) (aO ?_);simp;apply aa.ch aC fw [0,1];simp[SF];apply aa.ch aC fw [4];simp[SG];apply aa.ret;simp[LD];simpa using hi.symm
def t1099(av:List (aK))(g:Nat)(bY:aK)(p:aK->Bool)(hl:av.length<=1000000000)(hz:∀r∈av,∃x0 x1 x2,r=[x0,x1,x2])(hg:∀r∈av,bl aj g (.agg r::bY) (.bool (p r))):bl aj 99 [.sl av,.fn (.func g) bY] (ti (xz p av)):=by
 obtain⟨R,hR⟩:=bb (xz p av);rw[hR];have aC:ay aj (bu [(g,cT (λts=>∃r∈av,ts=.agg r::bY) (λts=>match ts with|.agg r::_=>.bool (p r)|_=>.bool false) true)]):=by
  refine ay.cons ay.nil ?_;rintro ts ⟨r,hr,rfl⟩;obtain⟨x0,x1,x2,rfl⟩:=hz r hr;exact⟨hg _ hr,λ_=>rfl⟩
 refine c1099.ok (by simp) (aO ?_);simp;apply aa.ch aC fw [0,1];simp[TM];apply aa.seq;apply aa.ch aC fw [0,1,7,8];simp[TN];apply aa.block;refine aa.loop (λy:Nat=>⟨DM.look [(0,.v (.sl av)),(1,.v (.fn (.func g) bY)),(7,.v (ti av.length)),(8,.v (ti y))],cM [],2000,1000,[]⟩)
  (λy=>y<=av.length/\∀i,i<y->p (av.getD i [])=false) (λy=>av.length-y) 0 (Le.bi (o:=[]) ?_ ?_ ?_ ?_) (by simp) (λy hy=>?_)
 iterate 4(·simp)
 obtain⟨lq,fJ⟩:=hy;apply aa.ch aC fw [0,1,7,8,9];simp[TO];apply aa.seq;refine aa.cond rfl (λh=>?_) (λh=>?_)
 ·have h:y<av.length:=by simpa using h
  have wp:DM.rowAt av (y:Int)=av.getD y []:=by simp[DM.rowAt,List.getD,h]
  have kx:=JO h;obtain⟨row,hr⟩:=bb (av.getD y []);rw[hr]at kx wp;obtain⟨x0,x1,x2,rfl⟩:=hz row kx;obtain⟨b,hb⟩:=bb (p [x0,x1,x2]);have w2:IntKind.i64.wrap ((y:Int)+1)=((y+1:Nat):Int):=by rw[aF (by omega)];omega
  apply aa.skip;simp;apply aa.seq;apply aa.block;apply aa.ch aC fw [0,1,5,7,8];simp[TP];apply aa.ch aC fw [0,1,5,7,8,16];simp[TQ,h,wp,kx,hb];refine⟨JN _ _, ?_⟩;refine aa.cond rfl (λh2=>?_) (λh2=>?_)
  ·have h2:b=true:=by simpa using h2
   apply aa.ch aC fw [4];simp[TR];apply aa.ret;rw[A0 h (by rw[hr,hb,h2]) fJ]at hR;subst hR;simp[EX]
  ·have h2:b=false:=by simpa using h2
   apply aa.skip;simp;apply aa.fK aC fw [0,1,7,8];simp[TS,w2];refine⟨y+1,Le.bi (o:=[]) ?_ ?_ ?_ ?_,⟨by omega,λi hi=>?_⟩,by omega⟩;iterate 4(·simp)
   ·by_cases e:i=y
    ·subst e;exact(congrArg p hr).trans (hb.trans h2)
    ·exact fJ i (by omega)
 ·have h:y=av.length:=by
   have:¬y<av.length:=by simpa using h
   omega
  subst h;apply aa.exit;simp;apply aa.ch aC fw [4];simp[TT];apply aa.ret;rw[A1 fJ]at hR;subst hR;simp[EX]
def t1067(av:List (aK))(g:Nat)(bY:aK)(p:aK->Bool)(hl:av.length<=1000000000)(hz:∀r∈av,∃x0 x1 x2,r=[x0,x1,x2])(hg:∀r∈av,bl aj g (.agg r::bY) (.bool (p r))):bl aj 67 [.sl av,.fn (.func g) bY] (.bool (av.any p)):=by
 have hi:=JM p av;obtain⟨R,hR⟩:=bb (av.any p);rw[hR]at hi⊢;have aC:ay aj (bu [(99,cT (λts=>ts=[.sl av,.fn (.func g) bY]) (λts=>ti (xz p av)) true)]):=by
  refine ay.cons ay.nil ?_;rintro ts rfl;exact⟨t1099 av g bY p hl hz hg,λ_=>rfl⟩
 refine c1067.ok (by simp) (aO ?_);simp;apply aa.ch aC fw [0,1];simp[Tg];apply aa.ch aC fw [4];simp[Th];apply aa.ret;simp[LI];simpa using hi.symm
end
def fe(n:Int):Prop:=1<=n/\n<=60000
instance(n:Int):Decidable (fe n):=by unfold fe;infer_instance
def t1041(n:Int):bl aj 41 [ti n] (.bool (decide (fe n))):=by
 obtain⟨R,hR⟩:=bb (decide (fe n));rw[hR];refine c1041.ok (by simp) (aO ?_);simp;apply aa.ch cF fw [0];simp[SE];refine aa.cz cF fw [(2,.v (.bool R))] ?_ ?_
 ·by_cases q1:1<=n
  ·by_cases q2:n<=60000
   ·have:R=true:=by rw[<-hR];simp[fe,q1,q2]
    simp[CF,q1,q2,this]
   ·have:R=false:=by rw[<-hR];simp[fe,q2]
    simp[CF,q1,q2,this]
  ·have:R=false:=by rw[<-hR];simp[fe,q1]
   simp[CF,q1,this]
 apply aa.ret;simp[LC]
abbrev s1041:DM.Spec:=cT (λts=>∃n:Int,ts=[ti n]) (fun|[.int _ n]=>.bool (decide (fe n))|_=>.bool false) true
def JP:ay aj (bu [(41,s1041)]):=by
 refine ay.cons ay.nil ?_;rintro ts ⟨n,rfl⟩;exact⟨t1041 n,λ_=>rfl⟩
def t1043(n:Int):bl aj 43 [ti n] (.bool (!decide (fe n))):=by
 obtain⟨R,hR⟩:=bb ((!decide (fe n)));rw[hR];refine c1043.ok (by simp) (aO ?_);simp;apply aa.ch JP fw [0];simp[SH];apply aa.ch JP fw [2];simp[SI];apply aa.ret;simp[LF];simpa using hR.symm
def t1069(c:cK)(aL:Int)(h:aL<=1000000000000):bl aj 69 [.agg c.enc,ti aL] (.bool (decide (pR c aL))):=by
 have aC:=JP;obtain⟨v,hv⟩:=bb (decide (pR c aL));rw[hv];have cZ:¬pR c aL->v=false:=λh=>by rw[<-hv];simp[h]
 have c7:pR c aL↔(¬(c.kind< -1\/c.kind>=aL\/(c.read.length:Int)≠aL\/c.delete<1\/(c.delete>60000/\c.delete≠1099511627776)))/\∀t,t<aL.toNat->kE c t:=Iff.rfl;refine c1069.ok (by simp) (aO ?_);simp[cK.enc];apply aa.ch aC fw [1,2];simp[Tk];refine aa.lk (o:=[]) (l:=[(1,.v (ti aL)),(2,.v (.box [ti c.kind,.sl (aG c.read),ti c.delete]))]) (ba:=1200) (by simp) ?_;apply aa.seq;obtain⟨b,hb⟩:=bb (decide (c.kind< -1\/c.kind>=aL\/(c.read.length:Int)≠aL\/c.delete<1\/(c.delete>60000/\c.delete≠1099511627776)):Bool);refine aa.cz aC fw [(1,.v (ti aL)),(2,.v (.box [ti c.kind,.sl (aG c.read),ti c.delete])),(33,.v (.bool b))] ?_ ?_
 ·by_cases q1:c.kind< -1
  ·have fp:b=true:=by rw[<-hb];simp[q1]
   simp[sI,q1,fp]
  ·by_cases q2:aL<=c.kind
   ·have fp:b=true:=by rw[<-hb];simp[q2]
    simp[sI,q1,q2,fp]
   ·by_cases q3:(c.read.length:Int)=aL
    ·by_cases q4:fe c.delete
     ·have fp:b=false:=by
       rw[<-hb];simp only[Zaz];unfold fe at q4;omega
      simp[sI,q1,q2,q3,q4,fp]
     ·by_cases q6:c.delete=1099511627776
      ·have fp:b=false:=by rw[<-hb];simp only[Zaz];omega
       simp[sI,q1,q2,q3,show ¬fe 1099511627776 from by simp[fe],q6,fp]
      ·have fp:b=true:=by
        rw[<-hb];simp only[Zau];unfold fe at q4;omega
       simp[sI,q1,q2,q3,q4,q6,fp]
    ·have fp:b=true:=by rw[<-hb];simp[q3]
     simp[sI,q1,q2,q3,fp]
 refine aa.cond rfl (λh=>?_) (λh=>?_)
 ·rw[h]at hb;simp only[Zau]at hb;apply aa.ch aC fw [4];simp[Tl];apply aa.ret;rw[cZ λe=>(c7.1 e).1 hb];simp[yX]
 rw[h]at hb;simp only[Zaz]at hb;obtain⟨n,hn⟩:=bb c.read.length;have hnt:aL=(n:Int):=by omega
 subst hnt;apply aa.skip;simp;apply aa.seq;apply aa.ch aC fw [1,2,35,36,37];simp[Tm];apply aa.block;refine aa.loop (λy:Nat=>⟨DM.look [(1,.v (ti n)),(2,.v (.box [ti c.kind,.sl (aG c.read),ti c.delete])),(35,.v (.sl (aG c.read))),(36,.v (ti n)),(37,.v (ti y))],cM [],2000,1000,[]⟩)
  (λy=>y<=n/\∀t,t<y->kE c t) (λy=>n-y) 0 (Le.bi (o:=[]) ?_ ?_ ?_ ?_) (by simp) (λy hy=>?_)
 iterate 3(·simp)
 ·simp[hn]
 obtain⟨lq,fJ⟩:=hy;apply aa.ch aC fw [1,2,35,36,37,38];simp[Tn];apply aa.seq;refine aa.cond rfl (λcR=>?_) (λcR=>?_)
 ·simp at cR;have KD:y<c.read.length:=by omega
  have r1:=cE KD;obtain⟨u,hu⟩:=bb (c.read.getD y default);rw[hu]at r1;have I2:kE c y↔¬(((y:Int)=c.kind/\u≠0)\/((y:Int)≠c.kind/\u≠-1/\(u<1\/u>60000))):=by unfold kE;rw[hu]
  obtain⟨kd,hkd⟩:=bb c.kind;rw[hkd]at I2⊢;apply aa.skip;simp;apply aa.seq;apply aa.block;apply aa.ch aC fw [1,2,5,6,35,36,37];simp[To,r1,KD];obtain⟨b2,fH⟩:=bb (decide (((y:Int)=kd/\u≠0)\/((y:Int)≠kd/\u≠-1/\(u<1\/u>60000))):Bool);refine aa.cz aC fw [(1,.v (ti n)),(2,.v (.box [ti kd,.sl (aG c.read),ti c.delete])),(35,.v (.sl (aG c.read))),(36,.v (ti n)),(37,.v (ti y)),(64,.v (.bool b2))] ?_ ?_
  ·by_cases q1:(y:Int)=kd
   ·by_cases q2:u=0
    ·have fp:b2=false:=by rw[<-fH];simp[q1,q2]
     simp[vw,q1,q2,fp]
    ·have fp:b2=true:=by rw[<-fH];simp[q1,q2]
     simp[vw,q1,q2,fp]
   ·by_cases q2:u= -1
    ·have fp:b2=false:=by rw[<-fH];simp[q1,q2]
     simp[vw,q1,q2,fp]
    ·by_cases q3:fe u
     ·have fp:b2=false:=by rw[<-fH];simp only[Zaz];unfold fe at q3;omega
      simp[vw,q1,q2,q3,fp]
     ·have fp:b2=true:=by rw[<-fH];simp only[Zau];unfold fe at q3;omega
      simp[vw,q1,q2,q3,fp]
  refine aa.cond rfl (λh=>?_) (λh=>?_)
  ·rw[h]at fH;simp only[Zau]at fH;apply aa.ch aC fw [4];simp[Tp];apply aa.ret;rw[cZ λe=>I2.1 ((c7.1 e).2 y (by simpa using cR)) fH];simp[yX]
  ·rw[h]at fH;simp only[Zaz]at fH;apply aa.skip;simp;apply aa.fK aC fw [1,2,35,36,37];simp[Tq];rw[aF (by omega)];refine⟨y+1,Le.bi (o:=[]) ?_ ?_ ?_ ?_,⟨by omega,λi hi=>?_⟩,by omega⟩;iterate 3(·simp)
   ·simp[]
   ·by_cases e:i=y
    ·subst e;exact I2.2 fH
    ·exact fJ i (by omega)
 ·apply aa.exit;have Fq:y=n:=by
   have:¬y<n:=by simpa using cR
   omega
  simp;apply aa.ch aC fw [4];simp[Tr];apply aa.ret;have:v=true:=by
   rw[<-hv];exact decide_eq_true (c7.2 ⟨hb,λt ht=>fJ t (by simp at ht;omega)⟩)
  simp[yX,this]
abbrev s1069:DM.Spec:=cT (λts=>∃(k d:Int) (r:bO) (aL:Int),ts=[.agg [ti k,.sl (aG r),ti d],ti aL]/\aL<=1000000000000) (fun|[.agg c,.int _ t]=>.bool (decide (pR (sP c) t))|_=>.bool false) true
def ok1069:ay aj (bu [(69,s1069)]):=by
 refine ay.cons ay.nil ?_;rintro ts ⟨k,d,r,aL,rfl,h⟩;exact⟨by simpa [cK.enc,sP,dH]using t1069 ⟨k,r,d⟩ aL h,λ_=>rfl⟩
def t1068(c:cK)(aL:Int)(h:aL<=1000000000000):bl aj 68 [.agg c.enc,.box [ti aL]] (.bool (!decide (pR c aL))):=by
 obtain⟨R,hR⟩:=bb ((!decide (pR c aL)));rw[hR];have hd:=pn c;obtain⟨k,r,d⟩:=c;simp only[cK.enc]at hd⊢;refine c1068.ok (by simp) (aO ?_);simp;apply aa.ch ok1069 fw [1,2];simp[Ti];apply aa.ch ok1069 fw [3];simp[Tj,hd];refine⟨⟨k,d,r,aL,⟨⟨rfl,rfl,rfl⟩,rfl⟩,h⟩, ?_⟩;apply aa.ret;simp[LJ];simpa using hR.symm
def WE(l:List cK)(aL:Int)(p:aK->Bool)(hp:∀c,p c.enc= !decide (pR c aL)):(!(cY l).any p)=decide (kz l aL):=by
 rw[ZbX,decide_eq_true_iff];unfold kz;simp only[Zbf,Zcl,cY,Zak];constructor
 ·intro h i hi;have:=h (l[i].enc) ⟨l[i],Zbe hi,rfl⟩;rw[hp]at this;have e:l.getD i default=l[i]:=by simp[List.getD,hi]
  rw[e];simpa using this
 ·rintro h x ⟨c,hc,rfl⟩;obtain⟨i,hi,rfl⟩:=ZaO hc;have:=h i hi;have e:l.getD i default=l[i]:=by simp[List.getD,hi]
  rw[e]at this;rw[hp];simp[this]
def t1044(l:List cK)(aL:Int)(h:aL<=1000000000000)(hl:l.length<=1000000000):bl aj 44 [.sl (cY l),ti aL] (.bool (decide (kz l aL))):=by
 have MV:=WE l aL (λr=> !decide (pR (sP r) aL)) (λc=>by rw[pn]);obtain⟨R,hR⟩:=bb (decide (kz l aL));rw[hR]at MV⊢;have aC:ay aj (bu [(67,cT (λts=>ts=[.sl (cY l),.fn (.func 68) [.box [ti aL]]]) (λts=>.bool ((cY l).any λr=> !decide (pR (sP r) aL))) true)]):=by
  refine ay.cons ay.nil ?_;rintro ts rfl;refine⟨t1067 (cY l) 68 [.box [ti aL]] _ (by simpa [cY]using hl) (λr hr=>?_) (λr hr=>?_),λ_=>rfl⟩
  ·obtain⟨c,_,rfl⟩:=Zak.1 hr;exact⟨_,_,_,rfl⟩
  ·obtain⟨c,_,rfl⟩:=Zak.1 hr;simp only[pn];exact t1068 c aL h
 refine c1044.ok (by simp) (aO ?_);simp;apply aa.ch aC fw [0,3];simp[SJ];refine aa.lk (o:=[]) (l:=[(0,.v (.sl (cY l))),(3,.v (.box [ti aL]))]) (ba:=1200) (by simp) ?_;apply aa.ch aC fw [4];simp[SK];apply aa.ret;simp[LG];simpa using MV.symm
def ins_any(l:bO)(p:aK->Bool)(hp:∀n:Int,p [ti n]= !decide (fe n)):(!(aG l).any p)=decide (∀t,t<l.length->yJ l t):=by
 rw[ZbX];simp only[Zbf,Zcl,aG,Zak,Zau];constructor
 ·intro h i hi;have:=h [ti l[i]] ⟨l[i],Zbe hi,rfl⟩;rw[hp]at this;have e:l.getD i default=l[i]:=by simp[List.getD,hi]
  unfold yJ;rw[e];have this:fe l[i]:=by simpa using this
  unfold fe at this;omega
 ·rintro h x ⟨c,hc,rfl⟩;obtain⟨i,hi,rfl⟩:=ZaO hc;have:=h i hi;have e:l.getD i default=l[i]:=by simp[List.getD,hi]
  unfold yJ at this;rw[e]at this;have:fe l[i]:=by unfold fe;omega
  rw[hp];simp[this]
def t1027(x:Input)(aL:Int)(h:aL<=1000000000):bl aj 27 [x.enc,ti aL] (.bool (decide (NH x aL))):=by
 have c7:NH x aL↔(¬(aL<0\/(x.aw.length:Int)>60\/(x.insert.length:Int)≠aL\/x.swap<0\/x.swap>60000\/¬kz x.aw aL))/\∀t,t<aL.toNat->yJ x.insert t:=Iff.rfl;obtain⟨R,hR⟩:=bb (decide (NH x aL));rw[hR];have cZ:¬NH x aL->R=false:=λh=>by rw[<-hR];simp[h]
 obtain⟨cs,b7,sw⟩:=x;simp only at c7;have MV:=ins_any b7 (λr=> !decide (fe (dH (r.headD (.bool false))))) (λn=>by simp[dH]);obtain⟨A,hA⟩:=bb (((aG b7).any λr=> !decide (fe (dH (r.headD (.bool false))))));rw[hA]at MV;obtain⟨V,hV⟩:=bb (decide (kz cs aL));have aC:ay aj (bu [(44,cT (λts=>ts=[.sl (cY cs),ti aL]/\cs.length<=1000000000) (λ_=>.bool V) true),(42,cT (λts=>ts=[.sl (aG b7),.fn (.func 43) []]/\b7.length<=1000000000) (λts=>.bool A) true),(41,s1041)]):=by
  refine ay.cons (ay.cons JP ?_) ?_
  ·rintro ts ⟨rfl,hl⟩;rw[<-hA];refine⟨t1042 (aG b7) 43 [] _ (by simpa using hl) (λr hr=>?_) (λr hr=>?_),λ_=>rfl⟩
   ·obtain⟨c,_,rfl⟩:=Zak.1 hr;exact⟨_,rfl⟩
   ·obtain⟨c,_,rfl⟩:=Zak.1 hr;simpa [dH]using t1043 c
  ·rintro ts ⟨rfl,h2⟩;rw[<-hV];exact⟨t1044 cs aL (by omega) h2,λ_=>rfl⟩
 refine c1027.ok (by simp) (aO ?_);simp[Input.enc];apply aa.ch aC fw [1,2];simp[Si];refine aa.lk (o:=[]) (l:=[(1,.v (ti aL)),(2,.v (.box [.sl (cY cs),.sl (aG b7),ti sw]))]) (ba:=1200) (by simp) ?_;apply aa.seq;obtain⟨b,hb⟩:=bb (decide (aL<0\/(cs.length:Int)>60\/(b7.length:Int)≠aL\/sw<0\/sw>60000):Bool);refine aa.cz aC fw [(1,.v (ti aL)),(2,.v (.box [.sl (cY cs),.sl (aG b7),ti sw])),(30,.v (.bool b))] ?_ ?_
 ·by_cases q1:aL<0
  ·have fp:b=true:=by rw[<-hb];simp[q1]
   simp[sH,q1,fp]
  ·by_cases q2:60<(cs.length:Int)
   ·have fp:b=true:=by rw[<-hb];simp[q2]
    simp[sH,q1,q2,fp]
   ·by_cases q3:(b7.length:Int)=aL
    ·by_cases q4:sw=0
     ·have fp:b=false:=by rw[<-hb];simp only[Zaz];omega
      simp[sH,q1,q2,q3,q4,fp]
     ·by_cases q5:fe sw
      ·have fp:b=false:=by rw[<-hb];simp only[Zaz];unfold fe at q5;omega
       simp[sH,q1,q2,q3,q4,q5,fp]
      ·have fp:b=true:=by rw[<-hb];simp only[Zau];unfold fe at q5;omega
       simp[sH,q1,q2,q3,q4,q5,fp]
    ·have fp:b=true:=by rw[<-hb];simp[q3]
     simp[sH,q1,q2,q3,fp]
 refine aa.cond rfl (λhbt=>?_) (λhbt=>?_)
 ·rw[hbt]at hb;have hb:=Zat hb;apply aa.ch aC fw [4];simp[Sj];apply aa.ret;rw[cZ λe=>(c7.1 e).1 (by omega)];simp[ET]
 rw[hbt]at hb;have hb:=Zay hb;apply aa.skip;simp;have hl:b7.length<=1000000000:=by omega
 have Bl:cs.length<=1000000000:=by omega
 have hR2:R=(!A&&V):=by
  rw[<-hR,<-hV,MV,ZbX,decide_eq_true_iff,Zam,decide_eq_true_iff,decide_eq_true_iff,c7];constructor
  ·rintro⟨h1,h2⟩;refine⟨λt ht=>h2 t (by omega), ?_⟩;by_cases e:kz cs aL
   ·exact e
   ·exact Zar (by simp[e]) h1
  ·rintro⟨h1,h2⟩;exact⟨by simp only[h2,not_true_eq_false,or_false];exact hb,λt ht=>h1 t (by omega)⟩
 refine aa.cz aC fw [(4,.v (.bool R))] ?_ ?_
 ·cases A with
  |true=>simp[IY,hl,hR2]
  |false=>simp[IY,hl,Bl,hR2]
 apply aa.ret;simp[ET]
def Ho(nn x:Int):Prop:=0<=x/\x<nn
instance(nn x:Int):Decidable (Ho nn x):=by unfold Ho;infer_instance
abbrev nB(n:aD):T:=.box [ti n.aL,ti n.an,ti n.start,.sl (aU n.au)]
def t1065(n:aD)(x:Int):bl aj 65 [ti x,nB n] (.bool (decide (Ho n.an x))):=by
 obtain⟨R,hR⟩:=bb (decide (Ho n.an x));rw[hR];refine c1065.ok (by simp) (aO ?_);simp;apply aa.ch cF fw [0,1];simp[SX];refine aa.cz cF fw [(3,.v (.bool R))] ?_ ?_
 ·by_cases q1:0<=x
  ·by_cases q2:x<n.an
   ·have:R=true:=by rw[<-hR];simp[Ho,q1,q2]
    simp[CG,q1,q2,this]
   ·have:R=false:=by rw[<-hR];simp[Ho,q2]
    simp[CG,q1,q2,this]
  ·have:R=false:=by rw[<-hR];simp[Ho,q1]
   simp[CG,q1,this]
 apply aa.ret;simp[LH]
def t1040(n:aD)(r:di):bl aj 40 [n.enc,.agg r.enc] (.bool (decide (gE n r/\kindOk n r))):=by
 obtain⟨R,hR⟩:=bb (decide (gE n r/\kindOk n r));rw[hR];have aC:ay aj (bu [(65,cT (λts=>∃x:Int,ts=[ti x,nB n]) (λts=>match ts with|[.int _ x,_]=>.bool (decide (Ho n.an x))|_=>.bool false) true)]):=by
  refine ay.cons ay.nil ?_;rintro ts ⟨x,rfl⟩;exact⟨t1065 n x,λ_=>rfl⟩
 obtain⟨nt,nn,ns,au⟩:=n;obtain⟨k,h,a,b,p,o⟩:=r;simp only[gE,kindOk,nB]at hR aC;refine c1040.ok (by simp) (aO ?_);simp[aD.enc,di.enc];apply aa.ch aC fw [2,3];simp[Sw];refine aa.lk (o:=[]) (l:=[(2,.v (.box [ti nt,ti nn,ti ns,.sl (aU au)])),(3,.v (.box [ti k,ti h,ti a,ti b,ti p,ti o]))]) (ba:=1200) (by simp) ?_;apply aa.ch aC fw [2,3,5];simp[Sx];apply aa.seq;obtain⟨c1,bU⟩:=bb (decide (h<0\/h>=nn\/p<0\/p>1000\/o< -1):Bool);refine aa.cz aC fw [(2,.v (.box [ti nt,ti nn,ti ns,.sl (aU au)])),(3,.v (.box [ti k,ti h,ti a,ti b,ti p,ti o])),(5,.v (.fn (.func 65) [.box [ti nt,ti nn,ti ns,.sl (aU au)]])),(26,.v (.bool c1))] ?_ ?_
 ·by_cases q1:Ho nn h
  ·by_cases q2:p<0
   ·have:c1=true:=by rw[<-bU];simp[q2]
    simp[vv,q1,q2,this]
   ·by_cases q3:1000<p
    ·have:c1=true:=by rw[<-bU];simp[q3]
     simp[vv,q1,q2,q3,this]
    ·by_cases q4:o< -1
     ·have:c1=true:=by rw[<-bU];simp[q4]
      simp[vv,q1,q2,q3,q4,this]
     ·have:c1=false:=by rw[<-bU];simp only[Zaz];unfold Ho at q1;omega
      simp[vv,q1,q2,q3,q4,this]
  ·have:c1=true:=by rw[<-bU];simp only[Zau];unfold Ho at q1;omega
   simp[vv,q1,this]
 refine aa.cond rfl (λg=>?_) (λg=>?_)
 ·rw[g]at bU;have hc:=Zat bU;have:R=false:=by rw[<-hR];simp only[Zaz];exact λe=>e.1 hc
  apply aa.ch aC fw [4];simp[Sy];apply aa.ret;simp[pj,this]
 rw[g]at bU;have hc:=Zay bU;apply aa.skip;simp;apply aa.seq;apply aa.ch aC fw [2,3,5,28];simp[Sz];apply aa.block;apply aa.ch aC fw [2,3,5,28,29];simp[SA];refine aa.cond rfl (λg=>?_) (λg=>?_)
 ·have g:k=1:=by simpa using g
  subst g;refine aa.cz aC fw [(4,.v (.bool R))] ?_ ?_
  ·by_cases q1:a=0
   ·by_cases q2:b=0
    ·have:R=true:=by rw[<-hR];simp only[Zau];refine⟨hc, ?_⟩;simp[q1,q2]
     simp[CE,q1,q2,this]
    ·have:R=false:=by rw[<-hR];simp[q2]
     simp[CE,q1,q2,this]
   ·have:R=false:=by rw[<-hR];simp[q1]
    simp[CE,q1,this]
  apply aa.ret;simp[pj]
 have k1:k≠1:=by simpa using g
 apply aa.ch aC fw [2,3,5,28,39];simp[SB];refine aa.cond rfl (λg=>?_) (λg=>?_)
 ·have g:k=2:=by simpa using g
  subst g;refine aa.cz aC fw [(4,.v (.bool R))] ?_ ?_
  ·by_cases q1:0<=a
   ·by_cases q2:a<nt
    ·by_cases q3:b=0
     ·have:R=true:=by rw[<-hR];simp only[Zau];refine⟨hc, ?_⟩;simp[q1,q2,q3]
      simp[yU,q1,q2,q3,this]
     ·have:R=false:=by rw[<-hR];simp[q3]
      simp[yU,q1,q2,q3,this]
    ·have:R=false:=by rw[<-hR];simp[q2]
     simp[yU,q1,q2,this]
   ·have:R=false:=by rw[<-hR];simp[q1]
    simp[yU,q1,this]
  apply aa.ret;simp[pj]
 have k2:k≠2:=by simpa using g
 apply aa.ch aC fw [2,3,5,28,56];simp[SD];refine aa.cond rfl (λg=>?_) (λg=>?_)
 ·have g:k=3:=by simpa using g
  subst g;refine aa.cz aC fw [(4,.v (.bool R))] ?_ ?_
  ·by_cases q1:Ho nn a
   ·have q1':=q1;unfold Ho at q1';by_cases q3:b=0
    ·have:R=true:=by rw[<-hR];simp only[Zau];refine⟨hc, ?_⟩;simp[q1'.1,q1'.2,q3]
     simp[yV,q1,q3,this]
    ·have:R=false:=by rw[<-hR];simp[q3]
     simp[yV,q1,q3,this]
   ·have:R=false:=by
     rw[<-hR];unfold Ho at q1;simp only[Zaz];rintro⟨_,h2⟩;simp at h2;omega
    simp[yV,q1,this]
  apply aa.ret;simp[pj]
 have k3:k≠3:=by simpa using g
 apply aa.ch aC fw [2,3,5,28,67];simp[LA];refine aa.cond rfl (λg=>?_) (λg=>?_)
 ·have g:k=4:=by simpa using g
  subst g;refine aa.cz aC fw [(4,.v (.bool R))] ?_ ?_
  ·by_cases q1:Ho nn a
   ·have q1':=q1;unfold Ho at q1';by_cases q3:Ho nn b
    ·have q3':=q3;unfold Ho at q3';have:R=true:=by rw[<-hR];simp only[Zau];refine⟨hc, ?_⟩;simp[q1'.1,q1'.2,q3'.1,q3'.2]
     simp[yW,q1,q3,this]
    ·have:R=false:=by
      rw[<-hR];unfold Ho at q3;simp only[Zaz];rintro⟨_,h2⟩;simp at h2;omega
     simp[yW,q1,q3,this]
   ·have:R=false:=by
     rw[<-hR];unfold Ho at q1;simp only[Zaz];rintro⟨_,h2⟩;simp at h2;omega
    simp[yW,q1,this]
  apply aa.ret;simp[pj]
 have k4:k≠4:=by simpa using g
 apply aa.skip;simp;apply aa.ch aC fw [4];simp[LB];apply aa.ret;have:R=false:=by rw[<-hR];simp[k1,k2,k3,k4]
 simp[pj,this]
def p8(r:di):jW r.enc=r:=by
 obtain⟨a,b,c,d,e,f⟩:=r;simp[jW,di.enc,dH]
def t1039(n:aD)(r:di):bl aj 39 [.agg r.enc,nB n] (.bool (!decide (gE n r/\kindOk n r))):=by
 obtain⟨R,hR⟩:=bb ((decide (gE n r/\kindOk n r)));have aC:ay aj (bu [(40,cT (λts=>ts=[n.enc,.agg r.enc]) (λts=>.bool R) true)]):=by
  refine ay.cons ay.nil ?_;rintro ts rfl;rw[<-hR];exact⟨t1040 n r,λ_=>rfl⟩
 rw[hR];obtain⟨nt,nn,ns,au⟩:=n;obtain⟨k,h,a,b,p,o⟩:=r;simp only[aD.enc,di.enc]at aC;refine c1039.ok (by simp) (aO ?_);simp[di.enc];apply aa.ch aC fw [1,2];simp[Su];apply aa.ch aC fw [3];simp[Sv];apply aa.ret;simp[Lz]
def WG(n:aD)(l:Cf)(p:aK->Bool)(hp:∀r,p r.enc= !decide (gE n r/\kindOk n r)):(!(aU l).any p)=decide (∀i,i<l.length->gE n (l.getD i default)/\kindOk n (l.getD i default)):=by
 rw[ZbX,decide_eq_true_iff];simp only[Zbf,Zcl,aU,Zak];constructor
 ·intro h i hi;have:=h (l[i].enc) ⟨l[i],Zbe hi,rfl⟩;rw[hp]at this;have e:l.getD i default=l[i]:=by simp[List.getD,hi]
  rw[e];simpa using this
 ·rintro h x ⟨c,hc,rfl⟩;obtain⟨i,hi,rfl⟩:=ZaO hc;have:=h i hi;have e:l.getD i default=l[i]:=by simp[List.getD,hi]
  rw[e]at this;rw[hp];simp[this]
def UW(n:aD):bl aj 26 [n.enc] (.bool (decide (dO n))):=by
 have c7:dO n↔nT n/\∀i,i<n.au.length->gE n (n.au.getD i default)/\kindOk n (n.au.getD i default):=Iff.rfl;obtain⟨R,hR⟩:=bb (decide (dO n));rw[hR];have MV:=WG n n.au (λr=> !decide (gE n (jW r)/\kindOk n (jW r))) (λr=>by rw[p8]);obtain⟨A,hA⟩:=bb (((aU n.au).any λr=> !decide (gE n (jW r)/\kindOk n (jW r))));have aC:ay aj (bu [(38,cT (λts=>ts=[.sl (aU n.au),.fn (.func 39) [nB n]]/\n.au.length<=1000000000) (λts=>.bool A) true)]):=by
  refine ay.cons ay.nil ?_;rintro ts ⟨rfl,hl⟩;rw[<-hA];refine⟨t1038 (aU n.au) 39 [nB n] _ (by simpa [aU]using hl) (λr hr=>?_) (λr hr=>?_),λ_=>rfl⟩
  ·obtain⟨c,_,rfl⟩:=Zak.1 hr;exact⟨_,_,_,_,_,_,rfl⟩
  ·obtain⟨c,_,rfl⟩:=Zak.1 hr;simp only[p8];exact t1039 n c
 rw[hA]at MV;have z8:(aU n.au).length=n.au.length:=by simp[aU]
 have htop:nT n↔¬(n.aL<0\/n.aL>120\/n.an<1\/n.an>1000\/n.start<0\/n.start>=n.an\/(n.au.length:Int)>600):=Iff.rfl;have hR2:R=(decide (nT n)&& !A):=by
  rw[<-hR,MV,ZbX,decide_eq_true_iff,Zam,decide_eq_true_iff,decide_eq_true_iff];exact c7
 clear c7;obtain⟨nt,nn,ns,au⟩:=n;simp only at htop z8 aC;refine c1026.ok (by simp) (aO ?_);simp[aD.enc];apply aa.ch aC fw [1];simp[Se];refine aa.lk (o:=[]) (l:=[(1,.v (.box [ti nt,ti nn,ti ns,.sl (aU au)]))]) (ba:=1200) (by simp) ?_;apply aa.seq;obtain⟨b,hb⟩:=bb (decide (nt<0\/nt>120\/nn<1\/nn>1000\/ns<0\/ns>=nn\/(au.length:Int)>600):Bool);refine aa.cz aC fw [(1,.v (.box [ti nt,ti nn,ti ns,.sl (aU au)])),(38,.v (.bool b))] ?_ ?_
 ·by_cases q1:nt<0
  ·have fp:b=true:=by rw[<-hb];simp[q1]
   simp[ow,q1,fp]
  ·by_cases q2:120<nt
   ·have fp:b=true:=by rw[<-hb];simp[q2]
    simp[ow,q1,q2,fp]
   ·by_cases q3:nn<1
    ·have fp:b=true:=by rw[<-hb];simp[q3]
     simp[ow,q1,q2,q3,fp]
    ·by_cases q4:1000<nn
     ·have fp:b=true:=by rw[<-hb];simp[q4]
      simp[ow,q1,q2,q3,q4,fp]
     ·by_cases q5:ns<0
      ·have fp:b=true:=by rw[<-hb];simp[q5]
       simp[ow,q1,q2,q3,q4,q5,fp]
      ·by_cases q6:nn<=ns
       ·have fp:b=true:=by rw[<-hb];simp[q6]
        simp[ow,q1,q2,q3,q4,q5,q6,fp]
       ·by_cases q7:600<(au.length:Int)
        ·have fp:b=true:=by rw[<-hb];simp[q7]
         simp[ow,q1,q2,q3,q4,q5,q6,q7,z8,fp]
        ·have fp:b=false:=by rw[<-hb];simp only[Zaz];omega
         simp[ow,q1,q2,q3,q4,q5,q6,q7,z8,fp]
 refine aa.cond rfl (λg=>?_) (λg=>?_)
 ·rw[g]at hb;have hb:=Zat hb;have:decide (nT ⟨nt,nn,ns,au⟩)=false:=by simp only[Zaz,htop];exact λh=>h hb
  apply aa.ch aC fw [2];simp[Sf];apply aa.ret;simp[ES,hR2,this]
 ·rw[g]at hb;have hb:=Zay hb;have:decide (nT ⟨nt,nn,ns,au⟩)=true:=by simp only[Zau,htop];exact hb
  have hl:au.length<=1000000000:=by omega
  apply aa.skip;simp;apply aa.ch aC fw [2];simp[Sg,hl];apply aa.ret;simp[ES,hR2,this]
section
variable{b7:bO}
abbrev s1026(n:aD):DM.Spec:=cT (λts=>ts=[n.enc]) (λ_=>.bool (decide (dO n))) true
def ok1026(n:aD):ay aj (bu [(26,s1026 n)]):=by
 refine ay.cons ay.nil ?_;rintro ts rfl;exact⟨UW n,λ_=>rfl⟩
def t1070(n:aD)(b7:bO)(hl:b7.length<=1000000000):bl aj 70 [n.enc,.sl (aG b7)] (.bool (decide (dO n/\dY n b7))):=by
 have aC:=ok1026 n;obtain⟨v,hv⟩:=bb (decide (dO n/\dY n b7));rw[hv];obtain⟨nt,nn,ns,au⟩:=n;have c7:dY ⟨nt,nn,ns,au⟩ b7↔(b7.length:Int)=nt/\∀i,i<b7.length->wX b7 i:=Iff.rfl;have cZ:¬(dO ⟨nt,nn,ns,au⟩/\dY ⟨nt,nn,ns,au⟩ b7)->v=false:=λh=>by rw[<-hv];simp[h]
 simp only[s1026,aD.enc]at aC;refine c1070.ok (by simp) (aO ?_);simp[aD.enc];apply aa.ch aC fw [1,2];simp[Ts];refine aa.lk (o:=[]) (l:=[(1,.v (.sl (aG b7))),(2,.v (.box [ti nt,ti nn,ti ns,.sl (aU au)]))]) (ba:=1200) (by simp) ?_;apply aa.seq;obtain⟨c1,bU⟩:=bb (decide (¬dO ⟨nt,nn,ns,au⟩\/(b7.length:Int)≠nt):Bool);refine aa.cz aC fw [(1,.v (.sl (aG b7))),(2,.v (.box [ti nt,ti nn,ti ns,.sl (aU au)])),(16,.v (.bool c1))] ?_ ?_
 ·by_cases q1:dO ⟨nt,nn,ns,au⟩
  ·by_cases q2:(b7.length:Int)=nt
   ·have:c1=false:=by rw[<-bU];simp[q1,q2]
    simp[CH,q1,q2,this]
   ·have:c1=true:=by rw[<-bU];simp[q2]
    simp[CH,q1,q2,this]
  ·have:c1=true:=by rw[<-bU];simp[q1]
   simp[CH,q1,this]
 refine aa.cond rfl (λg=>?_) (λg=>?_)
 ·rw[g]at bU;have bU:=Zat bU;apply aa.ch aC fw [4];simp[Tu];apply aa.ret;rw[cZ (λh=>bU.elim (λq=>q h.1) (λq=>q (c7.1 h.2).1))];simp[yY]
 rw[g]at bU;have bU:=Zay bU;simp only[not_or,Classical.not_not]at bU;obtain⟨Bk,mQ⟩:=bU;apply aa.skip;simp;apply aa.seq;apply aa.ch aC fw [1,17,18,19];simp[Tv];apply aa.block;refine aa.loop (λy:Nat=>⟨DM.look [(17,.v (.sl (aG b7))),(18,.v (ti b7.length)),(19,.v (ti y))],cM [],2000,1000,[]⟩)
  (λy=>y<=b7.length/\∀i,i<y->wX b7 i) (λy=>b7.length-y) 0 (Le.bi (o:=[]) ?_ ?_ ?_ ?_) (by simp) (λy hy=>?_)
 iterate 4(·simp)
 obtain⟨lq,fJ⟩:=hy;apply aa.ch aC fw [17,18,19,20];simp[Tw];apply aa.seq;refine aa.cond rfl (λcR=>?_) (λcR=>?_)
 ·have cR:y<b7.length:=by simpa using cR
  have r1:=cE cR;obtain⟨u,hu⟩:=bb (b7.getD y default);rw[hu]at r1;have I2:wX b7 y↔¬(u<1\/u>60000):=by unfold wX;rw[hu]
  apply aa.skip;simp;apply aa.seq;apply aa.block;apply aa.ch aC fw [6,17,18,19];simp[Tx,r1,cR];obtain⟨b2,fH⟩:=bb (decide (u<1\/u>60000):Bool);refine aa.cz aC fw [(17,.v (.sl (aG b7))),(18,.v (ti b7.length)),(19,.v (ti y)),(28,.v (.bool b2))] ?_ ?_
  ·by_cases q1:u<1
   ·have fp:b2=true:=by rw[<-fH];simp[q1]
    simp[CI,q1,fp]
   ·by_cases q2:60000<u
    ·have fp:b2=true:=by rw[<-fH];simp[q2]
     simp[CI,q1,q2,fp]
    ·have fp:b2=false:=by rw[<-fH];simp only[Zaz];omega
     simp[CI,q1,q2,fp]
  refine aa.cond rfl (λh=>?_) (λh=>?_)
  ·rw[h]at fH;have fH:=Zat fH;apply aa.ch aC fw [4];simp[Tz];apply aa.ret;rw[cZ λe=>I2.1 ((c7.1 e.2).2 y cR) fH];simp[yY]
  ·rw[h]at fH;have fH:=Zay fH;apply aa.skip;simp;apply aa.fK aC fw [17,18,19];simp[TA];rw[aF (by omega)];refine⟨y+1,Le.bi (o:=[]) ?_ ?_ ?_ ?_,⟨by omega,λi hi=>?_⟩,by omega⟩;iterate 4(·simp)
   ·by_cases e:i=y
    ·subst e;exact I2.2 fH
    ·exact fJ i (by omega)
 ·have Fq:y=b7.length:=by
   have:¬y<b7.length:=by simpa using cR
   omega
  subst Fq;apply aa.exit;simp;apply aa.ch aC fw [4];simp[TB];apply aa.ret;have:v=true:=by
   rw[<-hv];exact decide_eq_true ⟨Bk,c7.2 ⟨mQ,fJ⟩⟩
  simp[yY,this]
def t1072(n:aD)(b7:bO)(hn:AD n)(hp:dY n b7):bl aj 72 [n.enc,.sl (aG b7)] (.agg [ti n.an,.sl (bk (kb n b7))]):=by
 obtain⟨nt,nn,ns,au⟩:=n;obtain⟨n1,n2,n3,n4⟩:=hn;obtain⟨p1,p2⟩:=hp;simp only[kb]at n1 n2 n3 n4 p1 p2⊢;have aC:=cF;refine c1072.ok (by simp) (aO ?_);simp[aD.enc];apply aa.ch aC fw [1,2,4];simp[TC];refine aa.lk (o:=[(1005,.box [.v (ti 0),.aW])]) (l:=[(1,.v (.sl (aG b7))),(2,.v (.box [ti nt,ti nn,ti ns,.sl (aU au)])),(4,.ptr 1005 0)]) (ba:=1200) (by simp) ?_;apply aa.ch aC fw [1,2,4,5];simp[TD];refine aa.lk (o:=[(1005,.box [.v (ti 0),.aW]),(1206,.box [.v (ti nn),.aW])]) (l:=[(1,.v (.sl (aG b7))),(2,.v (.box [ti nt,ti nn,ti ns,.sl (aU au)])),(4,.ptr 1005 0),(5,.ptr 1206 0)]) (ba:=1400) (by simp) ?_;refine aa.le (Le.Cx 1206 1 157 (sz:=5) (cs:=[.v (ti nn),.aW]) (by omega) (by simp) rfl) ?_;rw[ky,ky];apply aa.seq;apply aa.ch aC fw [1,4,5,13,14,15];simp[TE];apply aa.block;refine aa.loop (λy:Nat=>⟨DM.look [(1,.v (.sl (aG b7))),(4,.ptr 1005 0),(5,.ptr 1206 0),(13,.v (.sl (aU au))),(14,.v (ti au.length)),(15,.v (ti y))],cM [(1005,.box [.v (ti 0),.aW]),(1206,.box [.v (ti nn),.bA 1400 0]),(1400,.dT 0 157 5 (bk ((au.map (fu b7)).take y)))],1600,1000,[]⟩)
  (λy=>y<=au.length) (λy=>au.length-y) 0 (Le.bi ?_ ?_ ?_ ?_) (by simp) (λy hy=>?_)
 ·simp
 ·simp
 ·simp[bk]
 ·simp[aU]
 apply aa.ch aC fw [1,4,5,13,14,15,16];simp[TF];apply aa.seq;refine aa.cond rfl (λcR=>?_) (λcR=>?_)
 ·have cR:y<au.length:=by simpa using cR
  have rr:=kZ cR;have hS:bk ((au.map (fu b7)).take (y+1))=bk ((au.map (fu b7)).take y)++[(fu b7 (au.getD y default)).enc]:=by
   rw[<-List.map_take,cW cR,ZaZ,bk,ZaZ,List.map_take];rfl
  obtain⟨⟨rk,rh,ra,rb,rp,rg⟩,hr⟩:=bb (au.getD y default);rw[hr]at rr hS;have I2:=n4 ⟨rk,rh,ra,rb,rp,rg⟩ (by rw[<-hr];exact bm cR);obtain⟨q1,q2,q3,q4,q5⟩:=I2;simp only at q1 q2 q3 q4 q5;have dM:(bk ((au.map (fu b7)).take y)).length=y:=by simp[bk];omega
  obtain⟨⟨eh,et,ec,e0,e1⟩,hE⟩:=bb (fu b7 ⟨rk,rh,ra,rb,rp,rg⟩);rw[hE]at hS;simp only[bF.enc]at hS;have z8:(aU au).length=au.length:=by simp[aU]
  apply aa.skip;simp;apply aa.seq;apply aa.block;apply aa.ch aC fw [1,4,5,7,13,14,15];simp[TG,cR,rr,z8,di.enc];refine aa.lk (o:=[(1005,.box [.v (ti 0),.aW]),(1206,.box [.v (ti nn),.bA 1400 0]),(1400,.dT 0 157 5 (bk ((au.map (fu b7)).take y)))]) (l:=[(1,.v (.sl (aG b7))),(4,.ptr 1005 0),(5,.ptr 1206 0),(13,.v (.sl (aU au))),(14,.v (ti au.length)),(15,.v (ti y)),(7,.v (.box [ti rk,ti rh,ti ra,ti rb,ti rp,ti rg]))]) (ba:=2400) (by simp) ?_;apply aa.ch aC fw [1,4,5,7,8,13,14,15];simp[TH];refine aa.seq (aa.to ⟨DM.look [(1,.v (.sl (aG b7))),(4,.ptr 1005 0),(5,.ptr 1206 0),(13,.v (.sl (aU au))),(14,.v (ti au.length)),(15,.v (ti y)),(8,.v (.box [ti eh,.sl (aG et),ti ec,ti e0,ti e1]))],cM [(1005,.box [.v (ti 0),.aW]),(1206,.box [.v (ti nn),.bA 1400 0]),(1400,.dT 0 157 5 (bk ((au.map (fu b7)).take y)))],4000,1000,[]⟩ ?_ ?_)
  ·apply aa.ch aC fw [1,4,5,7,8,13,14,15,25];simp[TI];apply aa.block;apply aa.ch aC fw [1,4,5,7,8,13,14,15,25,26];simp[TJ];refine aa.cond rfl (λg=>?_) (λg=>?_)
   ·have g:rk=2:=by simpa using g
    have N7:0<=ra/\ra<b7.length:=by omega
    obtain⟨a,rfl⟩:=Zae N7.1;have P1:a<b7.length:=by omega
    have ri:=cE P1;have hpi:=p2 a P1;unfold wX at hpi;obtain⟨x,hx⟩:=bb (b7.getD a default);rw[hx]at ri hpi;have Jk:(⟨rh,[],rp+x,0,0⟩:bF)=⟨eh,et,ec,e0,e1⟩:=by rw[<-hE];simp[fu,jk,g];exact hx.symm
    simp only[bF.mk.injEq]at Jk;obtain⟨rfl,rfl,rfl,rfl,rfl⟩:=Jk;apply aa.fK aC fw [1,4,5,8,13,14,15];simp[TK,P1,ri,aF (x:=rp+x) (by omega)];refine Le.trans (Le.bi (o:=[(1005,.box [.v (ti 0),.aW]),(1206,.box [.v (ti nn),.bA 1400 0]),(1400,.dT 0 157 5 (bk ((au.map (fu b7)).take y))),(2409,.box [.v (ti rh),.v (.sl []),.v (ti (rp+x)),.v (ti 0),.v (ti 0)])]) (l:=[(1,.v (.sl (aG b7))),(4,.ptr 1005 0),(5,.ptr 1206 0),(13,.v (.sl (aU au))),(14,.v (ti au.length)),(15,.v (ti y)),(8,.ptr 2409 0)]) (ba:=3600) ?_ ?_ ?_ ?_) (Le.bi ?_ ?_ ?_ ?_);iterate 7(·simp)
    ·simp[aG]
   have k2:¬rk=2:=by simpa using g
   apply aa.ch aC fw [1,4,5,7,8,13,14,15,25,37];simp[TL];refine aa.cond rfl (λg=>?_) (λg=>?_)
   ·have g:rk=3:=by simpa using g
    have Jk:(⟨rh,[ra],rp,0,0⟩:bF)=⟨eh,et,ec,e0,e1⟩:=by rw[<-hE];simp[fu,jk,g]
    simp only[bF.mk.injEq]at Jk;obtain⟨rfl,rfl,rfl,rfl,rfl⟩:=Jk;apply aa.fK aC fw [1,4,5,8,13,14,15];simp[LK,fU];refine Le.bi ?_ ?_ ?_ ?_;iterate 3(·simp)
    ·simp[aG]
   have k3:¬rk=3:=by simpa using g
   apply aa.ch aC fw [1,4,5,7,8,13,14,15,43];simp[LL];refine aa.cond rfl (λg=>?_) (λg=>?_)
   ·have g:rk=4:=by simpa using g
    have Jk:(⟨rh,[ra,rb],rp,0,0⟩:bF)=⟨eh,et,ec,e0,e1⟩:=by rw[<-hE];simp[fu,jk,g]
    simp only[bF.mk.injEq]at Jk;obtain⟨rfl,rfl,rfl,rfl,rfl⟩:=Jk;apply aa.fK aC fw [1,4,5,8,13,14,15];simp[LM,fU];refine Le.bi ?_ ?_ ?_ ?_;iterate 3(·simp)
    ·simp[aG]
   have k4:¬rk=4:=by simpa using g
   have Jk:(⟨rh,[],rp,0,0⟩:bF)=⟨eh,et,ec,e0,e1⟩:=by rw[<-hE];simp[fu,jk,k2,k3,k4]
   simp only[bF.mk.injEq]at Jk;obtain⟨rfl,rfl,rfl,rfl,rfl⟩:=Jk;apply aa.skip;simp;refine Le.trans (Le.bi (o:=[(1005,.box [.v (ti 0),.aW]),(1206,.box [.v (ti nn),.bA 1400 0]),(1400,.dT 0 157 5 (bk ((au.map (fu b7)).take y))),(2409,.box [.v (ti rh),.v (.sl []),.v (ti (rp)),.v (ti 0),.v (ti 0)])]) (l:=[(1,.v (.sl (aG b7))),(4,.ptr 1005 0),(5,.ptr 1206 0),(13,.v (.sl (aU au))),(14,.v (ti au.length)),(15,.v (ti y)),(8,.ptr 2409 0)]) (ba:=3600) ?_ ?_ ?_ ?_) (Le.bi ?_ ?_ ?_ ?_);iterate 7(·simp)
   ·simp[aG]
  simp;apply aa.fK aC fw [1,4,5,13,14,15];simp[LN,fU,dK,dM];repeat (refine⟨by omega, ?_⟩)
  apply aa.fK aC fw [1,4,5,13,14,15];simp[LO];rw[aF (x:=(y:Int)+1) (by omega)];refine⟨y+1,Le.bi ?_ ?_ ?_ ?_,by omega,by omega⟩
  ·simp
  ·simp
  ·simp[hS]
  ·simp
 ·have fJ:y=au.length:=by simp at cR;omega
  subst fJ;rw[show(au.map (fu b7)).take au.length=au.map (fu b7)from ZaX (by simp)];apply aa.exit;simp;apply aa.ch aC fw [4];simp[LP];apply aa.ret;simp[LQ]
def FL{n:aD}(hn:dO n)(hp:dY n b7):Kn.hE n.an (kb n b7):=by
 have h:=Fs hn hp;have h2:=hn.ok;refine⟨h.1,h2.2.1,by simp only[kb,Zbn];have:=h2.2.2.1;omega,λe he=>⟨h.2.2.2 e he, ?_⟩⟩;simp only[kb,Zak]at he;obtain⟨r,_,rfl⟩:=he;exact Fo r
def t1045(n:aD)(b7:bO)(hl:b7.length<=1000000000):bl aj 45 [n.enc,.sl (aG b7)] (.sl (bC (eu n b7))):=by
 obtain⟨R,hR⟩:=bb (eu n b7);rw[hR];unfold eu at hR;obtain⟨c1,bU⟩:=bb (decide (dO n/\dY n b7));have t70:=t1070 n b7 hl;rw[bU]at t70;have hΓ0:ay aj (bu [(70,cT (λts=>ts=[n.enc,.sl (aG b7)]) (λ_=>.bool c1) true)]):=by
  refine ay.cons ay.nil ?_;rintro ts rfl;exact⟨t70,λ_=>rfl⟩
 cases c1 with
 |false=>
  rw[Zab (Zay bU)]at hR;subst hR;obtain⟨nt,nn,ns,au⟩:=n;simp only[aD.enc]at hΓ0;refine c1045.ok (by simp) (aO ?_);simp[aD.enc];apply aa.ch hΓ0 fw [1,2];simp[IZ];refine aa.lk (o:=[]) (l:=[(1,.v (.sl (aG b7))),(2,.v (.box [ti nt,ti nn,ti ns,.sl (aU au)]))]) (ba:=1200) (by simp) ?_;apply aa.seq;apply aa.ch hΓ0 fw [1,2,10];simp[I0];refine aa.cond rfl (λg=>?_) (λg=>by simp at g);apply aa.ch hΓ0 fw [4];simp[SL];apply aa.ret;simp[EU]
 |true=>
  have hv:=Zat bU;rw[Zai hv]at hR;have hg:=FL hv.1 hv.2;have t71:=Kn.t1071 hg;rw[hR]at t71;have t72:=t1072 n b7 hv.1.ok hv.2;obtain⟨E,hE⟩:=bb (Kn.PL (Kn.stF n.an (kb n b7)) (kb n b7) n.an.toNat (kb n b7).length);rw[hE]at t71;obtain⟨es,pP⟩:=bb (kb n b7);rw[pP]at t71 t72;have aC:ay aj (bu [(71,cT (λts=>ts=[.agg [ti n.an,.sl (bk es)]]) (λ_=>.eo [.sl (bC R),.sl (aG E)]) false),(72,cT (λts=>ts=[n.enc,.sl (aG b7)]) (λ_=>.agg [ti n.an,.sl (bk es)]) false),(70,cT (λts=>ts=[n.enc,.sl (aG b7)]) (λ_=>.bool true) true)]):=by
   refine ay.cons (ay.cons hΓ0 ?_) ?_
   ·rintro ts rfl;exact⟨t72,λh=>by cases h⟩
   ·rintro ts rfl;exact⟨t71,λh=>by cases h⟩
  clear hR hE pP t71 t72 hg t70;obtain⟨nt,nn,ns,au⟩:=n;simp only[aD.enc]at aC;refine c1045.ok (by simp) (aO ?_);simp[aD.enc];apply aa.ch aC fw [1,2];simp[IZ];refine aa.lk (o:=[]) (l:=[(1,.v (.sl (aG b7))),(2,.v (.box [ti nt,ti nn,ti ns,.sl (aU au)]))]) (ba:=1200) (by simp) ?_;apply aa.seq;apply aa.ch aC fw [1,2,10];simp[I0];refine aa.cond rfl (λg=>by simp at g) (λg=>?_);apply aa.skip;simp;apply aa.ch aC fw [5];simp[SM];apply aa.ch aC fw [4];simp[SN];apply aa.ret;simp[EU]
def WH{n:aD}(i:Nat)(hi:i<(eu n b7).length):((eu n b7).getD i default).aH<1099511627776\/((eu n b7).getD i default).size<=0:=by
 unfold eu at hi⊢;split
 ·rename_i hv;rw[Zai hv]at hi;have hg:=FL hv.1 hv.2;have hs:=Kn.JH hg;have:=Kn.sol_le hg i (by have:=hs.len;omega);unfold bv at this;rw[Zag]at this;unfold c8.lt at this;simp only at this;omega
 ·rename_i hv;rw[Zab hv]at hi;simp at hi
def zC(v:bR)(i:Nat):Prop:=¬((v.getD i default).aH<1099511627776/\(v.getD i default).size>1000)
instance(v:bR)(i:Nat):Decidable (zC v i):=by unfold zC;infer_instance
def Gl(n:aD)(b7:bO):Prop:=(dO n/\(b7.length:Int)=n.aL)/\∀i,i<(eu n b7).length->zC (eu n b7) i
instance(n:aD)(b7:bO):Decidable (Gl n b7):=by unfold Gl;infer_instance
def MW{n:aD}(hp:dY n b7):Gl n b7↔Gj n b7:=by
 unfold Gl Gj;constructor
 ·rintro⟨⟨h1,h2⟩,h3⟩;refine⟨⟨h1,hp⟩,λi hi=>?_⟩;have a:=WH i hi;have b:=h3 i hi;unfold zC at b;unfold sO;omega
 ·rintro⟨⟨h1,h2⟩,h3⟩;refine⟨⟨h1,hp.1⟩,λi hi=>?_⟩;have b:=h3 i hi;unfold sO at b;unfold zC;omega
def t1028(n:aD)(b7:bO)(hl:b7.length<=1000000000):bl aj 28 [n.enc,.sl (aG b7)] (.bool (decide (Gl n b7))):=by
 obtain⟨R,hR⟩:=bb (decide (Gl n b7));rw[hR];have c7:Gl n b7↔(dO n/\(b7.length:Int)=n.aL)/\∀i,i<(eu n b7).length->zC (eu n b7) i:=Iff.rfl;have cZ:¬Gl n b7->R=false:=λh=>by rw[<-hR];simp[h]
 have t45:=t1045 n b7 hl;have xM:(eu n b7).length<=1000000:=by
  unfold eu;split
  ·rename_i hv;have hs:=Kn.JH (FL hv.1 hv.2);have:=hs.len;have:=hv.1.ok.2.1;omega
  ·simp
 obtain⟨V,hV⟩:=bb (eu n b7);rw[hV]at c7 t45 xM;obtain⟨vb,hvb⟩:=bb (decide (dO n));have t26:=UW n;rw[hvb]at t26;have aC:ay aj (bu [(45,cT (λts=>ts=[n.enc,.sl (aG b7)]) (λ_=>.sl (bC V)) false),(26,cT (λts=>ts=[n.enc]) (λ_=>.bool vb) true)]):=by
  refine ay.cons (ay.cons ay.nil ?_) ?_
  ·rintro ts rfl;exact⟨t26,λ_=>rfl⟩
  ·rintro ts rfl;exact⟨t45,λh=>by cases h⟩
 have hvb':vb=true↔dO n:=by rw[<-hvb];simp
 clear hV t45 t26 hvb;obtain⟨N,hN⟩:=bb (dO n);rw[hN]at c7 hvb';clear hN;obtain⟨nt,nn,ns,au⟩:=n;simp only[aD.enc]at aC c7;refine c1028.ok (by simp) (aO ?_);simp[aD.enc];apply aa.ch aC fw [1,2];simp[Sk];refine aa.lk (o:=[]) (l:=[(1,.v (.sl (aG b7))),(2,.v (.box [ti nt,ti nn,ti ns,.sl (aU au)]))]) (ba:=1200) (by simp) ?_;apply aa.seq;obtain⟨c1,bU⟩:=bb (decide (vb=false\/(b7.length:Int)≠nt):Bool);refine aa.cz aC fw [(1,.v (.sl (aG b7))),(2,.v (.box [ti nt,ti nn,ti ns,.sl (aU au)])),(16,.v (.bool c1))] ?_ ?_
 ·cases vb with
  |true=>
   by_cases q2:(b7.length:Int)=nt
   ·have:c1=false:=by rw[<-bU];simp[q2]
    simp[CC,q2,this]
   ·have:c1=true:=by rw[<-bU];simp[q2]
    simp[CC,q2,this]
  |false=>
   have:c1=true:=by rw[<-bU];simp
   simp[CC,this]
 refine aa.cond rfl (λg=>?_) (λg=>?_)
 ·rw[g]at bU;have bU:=Zat bU;apply aa.ch aC fw [4];simp[Sl];apply aa.ret;rw[cZ (λh=>bU.elim (λq=>by have:=hvb'.2 (c7.1 h).1.1;rw[q]at this;cases this) (λq=>q (c7.1 h).1.2))];simp[yT]
 rw[g]at bU;have bU:=Zay bU;have Bk:N:=hvb'.1 (by cases vb<;>simp_all)
 have mQ:(b7.length:Int)=nt:=by
  by_cases e:(b7.length:Int)=nt
  ·exact e
  ·exact Zar (.inr e) bU
 apply aa.skip;simp;apply aa.seq;apply aa.ch aC fw [19,20,21];simp[Sm];apply aa.block;refine aa.loop (λy:Nat=>⟨DM.look [(19,.v (.sl (bC V))),(20,.v (ti V.length)),(21,.v (ti y))],cM [],2000,1000,[]⟩)
  (λy=>y<=V.length/\∀i,i<y->zC V i) (λy=>V.length-y) 0 (Le.bi (o:=[]) ?_ ?_ ?_ ?_) (by simp) (λy hy=>?_)
 iterate 3(·simp)
 ·simp[bC]
 obtain⟨lq,fJ⟩:=hy;apply aa.ch aC fw [19,20,21,22];simp[Sn];apply aa.seq;refine aa.cond rfl (λcR=>?_) (λcR=>?_)
 ·have cR:y<V.length:=by simpa using cR
  have r1:=dd cR;have hvlen:(bC V).length=V.length:=by simp[bC]
  obtain⟨⟨uc,us⟩,hu⟩:=bb (V.getD y default);rw[hu]at r1;have I2:zC V y↔¬(uc<1099511627776/\us>1000):=by unfold zC;rw[hu]
  apply aa.skip;simp;apply aa.seq;apply aa.block;apply aa.ch aC fw [6,19,20,21];simp[So,r1,cR,hvlen];refine aa.lk (o:=[]) (l:=[(6,.v (.box [ti uc,ti us])),(19,.v (.sl (bC V))),(20,.v (ti V.length)),(21,.v (ti y))]) (ba:=3000) (by simp) ?_;obtain⟨b2,fH⟩:=bb (decide (uc<1099511627776/\us>1000):Bool);refine aa.cz aC fw [(19,.v (.sl (bC V))),(20,.v (ti V.length)),(21,.v (ti y)),(32,.v (.bool b2))] ?_ ?_
  ·by_cases q1:uc<1099511627776
   ·by_cases q2:1000<us
    ·have fp:b2=true:=by rw[<-fH];simp[q1,q2]
     simp[CD,q1,q2,fp]
    ·have fp:b2=false:=by rw[<-fH];simp[q2]
     simp[CD,q1,q2,fp]
   ·have fp:b2=false:=by rw[<-fH];simp[q1]
    simp[CD,q1,fp]
  refine aa.cond rfl (λh=>?_) (λh=>?_)
  ·rw[h]at fH;have fH:=Zat fH;apply aa.ch aC fw [4];simp[Sp];apply aa.ret;rw[cZ λe=>I2.1 ((c7.1 e).2 y cR) fH];simp[yT]
  ·rw[h]at fH;have fH:=Zay fH;apply aa.skip;simp;apply aa.fK aC fw [19,20,21];simp[Sq];rw[aF (by omega)];refine⟨y+1,Le.bi (o:=[]) ?_ ?_ ?_ ?_,⟨by omega,λi hi=>?_⟩,by omega⟩;iterate 4(·simp)
   ·by_cases e:i=y
    ·subst e;exact I2.2 fH
    ·exact fJ i (by omega)
 ·have Fq:y=V.length:=by
   have:¬y<V.length:=by simpa using cR
   omega
  subst Fq;apply aa.exit;simp;apply aa.ch aC fw [4];simp[Sr];apply aa.ret;have:R=true:=by
   rw[<-hR];exact decide_eq_true (c7.2 ⟨⟨Bk,mQ⟩,fJ⟩)
  simp[yT,this]
end
end Jb
open Go.DM
section
variable{rest:List (Nat×Nat)}{aL:Int}
def qn(S a:Nat):List (Nat×Nat):=(List.range (S-a)).map λb=>(b,b+a)
def PQ(S:Nat):List (Nat×Nat):=(List.range S).flatMap (qn S)
def xA{n y:Nat}(h:y<n):(List.range n).drop y=y::(List.range n).drop (y+1):=by
 rw[ZbF (by simpa using h)];simp
def wx(n:aD)(l:aV)(L:List (Nat×Nat)):eV:=L.foldl (λB p=>tE B (mm n l ⟨n.an,l.bn,B⟩ p.1 p.2) (ef n.an l.bn p.1 p.2).toNat n.an.toNat) (List.replicate (lR n.an l.bn).toNat ⟨0,0,0,0⟩)
def MX(n:aD)(l:aV)(L:List (Nat×Nat))(p:Nat×Nat):wx n l (L++[p])=tE (wx n l L) (mm n l ⟨n.an,l.bn,wx n l L⟩ p.1 p.2) (ef n.an l.bn p.1 p.2).toNat n.an.toNat:=by
 unfold wx;rw[ZaI];rfl
def Hp(B own:eV)(a:Nat)(h:a+own.length<=B.length):∀y,y<=own.length->tE B own a y=B.take a++(own.take y++B.drop (a+y))
 |0,_=>by simp[tE]
 |y+1,hy=>by
  rw[vD,Hp B own a h y (by omega),cW (by omega),ZbG _ _ (by rw[ZaB];omega),ZaB,ZbG _ _ (by rw[ZaB];omega),ZaB,
   ZbF (i:=a+y) (by omega),show a+y-min a B.length-min y own.length=0 by omega]
  simp[Nat.add_assoc]
def spL_len(S:Nat):(PQ S).length<=S*S:=by
 have:=zD (f:=qn S) (c:=S) (List.range S) (λa _=>by simp[qn])
 rwa [Zb5]at this
def FM{α β:Type}(g:α->List β):∀(l:List α) (pre:List β) (x:β) (rest:List β),l.flatMap g=pre++x::rest->∃l1 a l2 p q,l=l1++a::l2/\g a=p++x::q/\pre=l1.flatMap g++p
 |[],pre,x,rest,h=>by simp at h
 |b::l,pre,x,rest,h=>by
  rw[Zbt]at h;have next:∀a',l.flatMap g=a'++x::rest->pre=g b++a'->∃l1 a l2 p q,b::l=l1++a::l2/\g a=p++x::q/\pre=l1.flatMap g++p:=by
   intro a' h2 h3;obtain⟨l1,a,l2,p,q,e1,e2,e3⟩:=FM g l a' x rest h2;exact⟨b::l1,a,l2,p,q,by rw[e1];rfl,e2,by rw[h3,e3,Zbt,List.append_assoc]⟩
  rcases List.append_eq_append_iff.1 h with⟨a',h1,h2⟩|⟨c',h1,h2⟩
  ·exact next a' h2 h1
  ·cases c' with
   |nil=>exact next [] (by simpa using h2.symm) (by simpa using h1.symm)
   |cons y c'=>
    simp only[ZaM,Za1]at h2;obtain⟨rfl,h2⟩:=h2;exact⟨[],b,l,pre,c',rfl,h1,rfl⟩
def range_split{n:Nat}{l1 l2:cO}{a:Nat}(h:List.range n=l1++a::l2):l1=List.range a/\a<n:=by
 have hl:=congrArg List.length h;simp only[Zb5,ZaK,Za5]at hl;have h1:(List.range n)[l1.length]? =some a:=by rw[h];simp
 rw[List.getElem?_range (by omega)]at h1;have ea:l1.length=a:=by simpa using h1
 have h2:(List.range n).take l1.length=l1:=by rw[h];simp
 rw[List.take_range,ea,Zc9 (by omega)]at h2;exact⟨h2.symm,by omega⟩
def WI{S:Nat}{pre:List (Nat×Nat)}{p:Nat×Nat}(h:PQ S=pre++p::rest):
  ∃len f,p=(f,f+len)/\f+len<S/\pre=(List.range len).flatMap (qn S)++(List.range f).map λb=>(b,b+len):=by
 obtain⟨l1,a,l2,q,r,e1,e2,e3⟩:=FM (qn S) _ _ _ _ h;obtain⟨rfl,ha⟩:=range_split e1;unfold qn at e2;obtain⟨l1',l2',e4,e5,e6⟩:=List.map_eq_append_iff.1 e2;obtain⟨b,l3,rfl,rfl,e7⟩:=List.map_eq_cons_iff.1 e6;obtain⟨rfl,hb⟩:=range_split e4;exact⟨a,b,rfl,by omega,by rw[e3,<-e5]⟩
def Hq{n:aD}{l:aV}{S:Nat}(a:Nat)(B:eV)(k:Nat):((List.range k).map λb=>(b,b+a)).foldl (λB (p:Nat×Nat)=>tE B (mm n l ⟨n.an,l.bn,B⟩ p.1 p.2) (ef n.an l.bn p.1 p.2).toNat n.an.toNat) B=(List.range k).foldl (Ff n l a) B:=by
 rw[ZcC]
 congr 1
def Hr{n:aD}{l:aV}{S:Nat}(hS:l.bn=S)(len f:Nat):wx n l ((List.range len).flatMap (qn S)++(List.range f).map λb=>(b,b+len))=
  (List.range f).foldl (Ff n l len) ((List.range len).foldl (aaB n l) (List.replicate (lR n.an l.bn).toNat ⟨0,0,0,0⟩)):=by
 unfold wx;rw[ZaI,Hq (S:=S),List.foldl_flatMap]
 congr 2
 funext B a;unfold qn aaB;rw[Hq (S:=S),hS,Zag]
def PT{n:aD}{l:aV}{S:Nat}(hS:l.bn=S):wx n l (PQ S)=nK n l:=by
 have:=Hr (n:=n) hS S 0;simp only[Zda,ZbL,ZaC,Zca]at this;rw[show PQ S=(List.range S).flatMap (qn S)from rfl,this];unfold nK;rw[hS,Zag]
def run_of{n:aD}{l:aV}{S:Nat}(hn:AD n)(hl:F7 l)(hS:l.bn=S)(ha:∀a∈l.bE,a.f<=a.t)(hs:Kb l){pre:List (Nat×Nat)}{p:Nat×Nat}(h:PQ S=pre++p::rest):
  p.1<=p.2/\p.2<S/\Run ⟨n,l,⟨n.an,l.bn,wx n l pre⟩,p.1,p.2⟩/\kG n l (wx n l pre):=by
 obtain⟨len,f,rfl,ln,rfl⟩:=WI h;rw[Hr hS];have h3:=hl.1;have h4:=hl.2.1;have hr:=Ml hn hl len (by omega);have hc:=CN hn hl hr f (len:=len) (by omega);have hd:=Fh hn hl ha hr (V5 hn hl ha len (by omega)) f (by omega);refine⟨by simp only;omega,ln,⟨⟨hn,hl,hc.ok hn hl,ha, ?_, ?_, ?_⟩,⟨hn,hl,hc.ok hn hl, ?_⟩,⟨hn.1,hn.2.1,h3,h4,hc.1⟩,hs⟩,hc⟩
 ·simp only[Zag];omega
 ·simp only[Zag];omega
 ·simp only[Zag];exact λh s' t' a1 a2 a3 a4 a5 a6=>hd h s' t' a1 a2 a4 (by omega) (by omega)
 ·simp only;omega
def before_trans{a b c:cw}(h1:im a b)(h2:im b c):im a c:=by
 unfold im at*
 omega
def JQ{l:aV}(h:Ec l aL):∀i j:Nat,i<j->j<l.bE.length->im (l.bE.getD i default) (l.bE.getD j default):=by
 intro i j hij;induction j with
 |zero=>omega
 |succ j ih=>
  intro hj;have h1:=(h.2.2 (j+1) hj).2.resolve_left (by omega);rw[show j+1-1=j by omega]at h1;by_cases e:i=j
  ·rw[e];exact h1
  ·exact before_trans (ih (by omega) (by omega)) h1
def WJ{l:aV}(h:Ec l aL):Kb l:=by
 intro i j hij hj;by_cases e:i=j
 ·subst e;right;exact⟨rfl,Zct _⟩
 ·have:=JQ h i j (by omega) hj;unfold im at this;omega
end
namespace Jb
def MY:ai:=[
 n 0 24,
 c 24 25 [0],
 a 7 25 26 [1],
 a 2 26 27 [2],
 l 27 28 [3],
 n 6 29,
 n 0 30,
 c 30 31 [6],
 a 0 31 32 [7],
 a 1 32 33 [8],
 l 33 34 [9],
 b .mul 29 34 35 [5,10],
 o (.slice 4 (t 28) (some (t 35)) none) 36 [4,11],
 n 0 37,
 c 37 38 [13],
 a 0 38 39 [14],
 L 4 39 40 [15],
 n 0 41,
 c 41 42 [17],
 a 4 42 43 [18],
 L 3 43 44 [19],
 n 0 45,
 c 45 46 [21],
 a 7 46 47 [22],
 L 3 47 48 [23],
 n 1 49,
 n 2 50,
 o (.callF 52 [(t 40),(t 44),(t 48),(t 49),(t 50)]) 51 [16,20,24,25,26],
 o (.copy 4 (t 36) (t 51)) 52 [12,27,27]]
def le_end{ob g:bq}{N aJ ba:Nat}{tm:dw}{l:fA}(L:cV)(aT:dh g N)(e:ob=aM L g)(hn:N<=ba)(hL:∀p∈L,N<=p.1)(ik:fR (aM L g) (aM [] g) id tm l):
  Le ⟨tm,ob,aJ,N,[]⟩ ⟨DM.look l,g,ba,N,[]⟩:=by
 subst e;exact kO aT hn hL ik
def WK{n:aD}{l:aV}{c:d6}{fr to:Nat}(hn:AD n)(hl:F7 l)(hc:NI c)(vR:fr<=to)(ik:to<=1000):nM n (mm n l c fr to):=(zc hn hl hc vR ik (λ_=>True) trivial (λ_ _ _ _ _=>trivial)).1
def t1031{f0:bq}{p r N:Nat}{n:aD}{l:aV}{B:eV}{f t:Nat}{x1 x2 x3 x4:DV}(hN:∀q,N<=q->f0 q=none)
  (hp:f0 p=some (.box [.v (ti n.aL),.v (ti n.an),.v (ti n.start),.v (.sl (aU n.au)),.v (ti l.bn),.v (.sl (j7 l.bE)),.v (.sl (aG l.uH)),.v (ti n.an),.v (ti l.bn),.bA r 0,x1,x2,x3,x4]))
  (hr:f0 r=some (.dT 0 65 4 (cu B))) (hn:AD n) (hl:F7 l) (vR:f<=t) (htS:(t:Int)<l.bn) (H:Run ⟨n,l,⟨n.an,l.bn,B⟩,f,t⟩):
  aR aj 31 [.ptr p 0,.v (ti f),.v (ti t)] f0 ⟨True,.v (.eo []),aM [(r,.dT 0 65 4 (cu (tE B (mm n l ⟨n.an,l.bn,B⟩ f t) (ef n.an l.bn f t).toNat n.an.toNat)))] f0⟩:=by
 have t35':=t35 H;have aT:NI ⟨n.an,l.bn,B⟩:=H.C.hc;have dM:=H.cf.2.2.2.2;have Wk:=hn.1;have hn2:=hn.2.1;have Bl:=hl.2.1;simp only at t35' dM;have hso:=WK hn hl aT vR (by omega);obtain⟨own,iu⟩:=bb (mm n l ⟨n.an,l.bn,B⟩ f t);rw[iu]at hso t35'⊢;have hol:(own.length:Int)=n.an:=hso.1;clear H aT hso;obtain⟨nt,on,ns,au⟩:=n;obtain⟨S,bE,bZ⟩:=l;simp only at hp Wk hn2 Bl dM hol htS t35'⊢;have hib:=sM (n:=on) (st:=S) (f:=f) (t:=t) (by omega) hn2 Bl (by omega) (by omega) vR;have hix:=λ(i:Int) (hi:i<on)=>Fg (nn:=on) (st:=S) (f:=f) (t:=t) (by omega) (by omega) vR hi;have hmul:=g9 (a:=(f:Int)) (A:=1000) (b:=S) (B:=1000) (by omega) (by omega) (by omega) Bl;have hc64:=FN (S:Int) f;have hpb:=ir Bl f (by omega);have hff:(f:Int)*((f:Int)-1)=(f:Int)*f-f:=by grind
 have fH:=g9 (a:=(f:Int)) (A:=1000) (b:=(f:Int)) (B:=1000) (by omega) (by omega) (by omega) (by omega);have hffb:0<=(f:Int)*((f:Int)-1)/\(f:Int)*((f:Int)-1)<=1000000:=by
  refine⟨?_,by omega⟩;cases f with
  |zero=>simp
  |succ f=>exact Zcq (by omega) (by omega)
 have hq:((f:Int)*((f:Int)-1)).tdiv 2=(f:Int)*((f:Int)-1)/2:=DP hffb.1;obtain⟨Q,hQ⟩:=bb (pre (S:Int) f);rw[hQ]at hc64 hpb;have b9:=g9 (a:=Q+t-f) (A:=2000000) (b:=on) (B:=1000) (by omega) (by omega) (by omega) hn2;obtain⟨AF,dP⟩:=bb (ef on S f t);have m1:IntKind.i64.wrap ((f:Int)*S)=(f:Int)*S:=aF (by omega);have m2:IntKind.i64.wrap ((f:Int)-1)=(f:Int)-1:=aF (by omega);have m3:IntKind.i64.wrap ((f:Int)*((f:Int)-1))=(f:Int)*((f:Int)-1):=aF (by omega);have m4:IntKind.i64.wrap (((f:Int)*((f:Int)-1)).tdiv 2)=((f:Int)*((f:Int)-1)).tdiv 2:=by rw[hq];exact aF (by omega)
 have m5:IntKind.i64.wrap ((f:Int)*S-((f:Int)*((f:Int)-1)).tdiv 2)=Q:=by rw[hc64];exact aF (by omega)
 have m6:IntKind.i64.wrap (Q+t)=Q+t:=aF (by omega);have m7:IntKind.i64.wrap (Q+t-f)=Q+t-f:=aF (by omega);have m8:IntKind.i64.wrap ((Q+t-f)*on)=AF:=by rw[<-dP];unfold ef;rw[hQ];exact aF (by omega)
 rw[dP]at hib hix⊢;obtain⟨AF,rfl⟩:=Zae hib.1;have hlast:=hix (on-1) (by omega);have qe:AF+own.length<=B.length:=by omega
 have oV:=Hp B own AF qe own.length (Zaf _);rw[ZbM]at oV;have hon:on.toNat=own.length:=by omega
 rw[Zag,hon,oV];have aC:ay aj (bu [(52,DQ (λts=>ts=[(⟨nt,on,ns,au⟩:aD).enc,(⟨S,bE,bZ⟩:aV).enc,(⟨on,S,B⟩:d6).enc,ti f,ti t]) (λ_=>cu own) 65 4)]):=by
  refine ay.consL ay.nil ?_;rintro ts rfl;exact⟨t35',Ji _⟩
 simp only[aD.enc,aV.enc,d6.enc]at aC;refine c1031.pQ hN (by simp) λaT=>?_;have nu:p<N:=(aT p _ hp).1;have hrN:r<N:=(aT r _ hr).1;have np:∀k,p≠N+k:=λk=>by omega
 have nr:∀k,r≠N+k:=λk=>by omega
 simp;apply aa.ch aC fw [0,1,2,6];simp[UC,hp,m1,m2,m3,m4,m5,m6,m7];obtain⟨g,hg⟩:=bb (aM [(r,.dT 0 65 4 (cu (B.take AF++(own++B.drop (AF+own.length)))))] f0);have hclg:dh g N:=by
  rw[<-hg];exact ll aT (Zaf _) (by simp[aZ];omega)
 have mE:List.take AF (cu B)++(List.take (B.length-AF) (cu own)++List.drop (AF+min (B.length-AF) own.length) (cu B))=cu (B.take AF++(own++B.drop (AF+own.length))):=by
  have h1:(cu own).length=own.length:=by simp[cu]
  rw[show min (B.length-AF) own.length=own.length by omega,ZaX (l:=cu own) (by omega)];simp[cu]
 refine aa.to ⟨DM.look [],g,N+1000,N,[]⟩ ?_ ?_
 ·refine aa.pe aC fw (rs:=MY) (.inr ⟨_,rfl⟩) (by kernel_rfl) [] ?_;simp[MY,hp,hr,nr,m8,Nat.add_assoc];refine⟨by omega,λq hq=>?_, ?_⟩
  ·obtain⟨c,_,rfl⟩:=Zak.1 hq;rfl
  rw[mE];refine le_end (N:=N) (l:=[]) [(N+106,.dT 0 65 4 (cu own))] hclg ?_ (by omega) (by simp) trivial;rw[<-hg];funext q;simp only[aP,cm];by_cases h1:q=r
  ·subst h1;rw[Zai rfl,Zab (by omega),Zai rfl]
  ·rw[Zab h1,Zab h1]
 ·simp[L7,DK,lM,o9,hg,su]
section
variable{f:bq}{r:Nat}
def uY(S len f:Nat):List (Nat×Nat):=((List.range (S-len)).drop f).map (λb=>(b,b+len))++((List.range S).drop (len+1)).flatMap (qn S)
def PU{S:Nat}(h:1<=S):uY S 0 0=PQ S:=by
 have h1:=xA (n:=S) (y:=0) (by omega);rw[Zcn]at h1;unfold uY PQ
 conv=>rhs;rw[h1]
 rw[Zbt];simp[qn]
def WM(S:Nat):uY S S 0=[]:=by
 unfold uY;have h:(List.range S).drop (S+1)=[]:=Zbv (by simp);rw[h];simp
def xB{S len f:Nat}(h:f+len<S):uY S len f=(f,f+len)::uY S (if f+1+len>=S then len+1 else len) (if f+1+len>=S then 0 else f+1):=by
 have h1:=xA (n:=S-len) (y:=f) (by omega);split
 ·rename_i g;have h2:(List.range (S-len)).drop (f+1)=[]:=Zbv (by simp;omega);rw[h2]at h1;unfold uY;rw[h1];simp only[ZaA,ZbL,ZaM,ZaG,Zcn,Za1,true_and];by_cases e:len+1<S
  ·rw[xA e,Zbt];rfl
  ·have e2:(List.range S).drop (len+1)=[]:=Zbv (by simp;omega);have e3:(List.range S).drop (len+1+1)=[]:=Zbv (by simp;omega);rw[e2,e3,show S-(len+1)=0 by omega];simp
 ·rename_i g;unfold uY;rw[h1];simp
def M0(S:Nat):∀k,k<=S->2*((List.range k).flatMap (qn S)).length+k*k=k*(2*S+1)
 |0,_=>by simp
 |k+1,hk=>by
  have ih:=M0 S k (by omega);rw[ZaR,Zcv,ZaK];simp only[Zbt,List.flatMap_nil,ZaC,qn,Zbn,Zb5]at ih⊢;obtain⟨d,rfl⟩:∃d,S=k+1+d:=⟨S-(k+1),by omega⟩;rw[show k+1+d-k=d+1 by omega];generalize ((List.range k).flatMap λa=>(List.range (k+1+d-a)).map λb=>(b,b+a)).length=X at ih⊢
  grind
def JR(S:Nat):2*(PQ S).length=S*(S+1):=by
 have:=M0 S S (Zaf _);unfold PQ;generalize ((List.range S).flatMap (qn S)).length=X at this⊢
 grind
structure JS where
 pre:List (Nat×Nat)
 len:Nat
 f:Nat
 FO:Bool
def JS.left(S:Nat)(j:JS):Nat:=(uY S j.len j.f).length
structure JS.ok(S:Nat)(j:JS):Prop where
 spl:PQ S=j.pre++uY S j.len j.f
 wW:j.f+j.len<S\/(j.len=S/\j.f=0)
def JS.ok.lt{S:Nat}{j:JS}(h:j.ok S)(hl:0<j.left S):j.f+j.len<S:=by
 rcases h.wW with h1|⟨h1,h2⟩
 ·exact h1
 ·unfold JS.left at hl;rw[h1,h2,WM]at hl;simp at hl
def JS.eZ(S:Nat)(j:JS):JS:=⟨j.pre,if j.f+1+j.len>=S then j.len+1 else j.len,if j.f+1+j.len>=S then 0 else j.f+1,j.FO⟩
def JS.next(S:Nat)(j:JS):JS:=⟨j.pre++[(j.f,j.f+j.len)],(j.eZ S).len,(j.eZ S).f,j.FO⟩
def JS.ok.M1{S:Nat}{j:JS}(h:j.ok S)(hl:0<j.left S):(j.eZ S).left S+1=j.left S:=by
 have h1:=xB (h.lt hl);unfold JS.left JS.eZ;simp only;rw[h1];simp
def JS.ok.WN{S:Nat}{j:JS}(h:j.ok S)(hl:0<j.left S):(j.next S).left S+1=j.left S:=h.M1 hl
def JS.ok.next{S:Nat}{j:JS}(h:j.ok S)(hl:0<j.left S):(j.next S).ok S:=by
 have ln:=h.lt hl;have h1:=xB ln;refine⟨?_, ?_⟩
 ·rw[h.spl,h1];unfold JS.next JS.eZ;simp
 ·unfold JS.next JS.eZ;simp only;split<;>omega
def JS.ok.total{S:Nat}{j:JS}(h:j.ok S):j.pre.length+j.left S=(PQ S).length:=by
 rw[h.spl,ZaK];rfl
def J0:JS:=⟨[],0,0,false⟩
def J0_ok{S:Nat}(h:1<=S):J0.ok S:=⟨by rw[show J0.len=0 from rfl,show J0.f=0 from rfl,PU h];rfl,.inl (by simp[J0];omega)⟩
def JS.kc(S:Nat)(j:JS):Nat->JS
 |0=>j
 |i+1=>(j.kc S i).next S
def JS.ok.kc{S:Nat}{j:JS}(h:j.ok S):∀i,i<=j.left S->(j.kc S i).ok S/\(j.kc S i).left S+i=j.left S/\(j.kc S i).FO=j.FO
 |0,_=>⟨h,rfl,rfl⟩
 |i+1,hi=>by
  obtain⟨h1,h2,h3⟩:=h.kc i (by omega);have:=h1.WN (by omega);exact⟨h1.next (by omega),by simp only[JS.kc];omega,h3⟩
def JS.ok.done{S:Nat}{j:JS}(h:j.ok S)(hl:j.left S=0):j.pre=PQ S:=by
 rw[h.spl,show uY S j.len j.f=[]from ZaD hl,ZaC]
def nE(n:aD)(l:aV)(S:Nat)(c9:DV)(j:JS):bB:=[.v (ti n.aL),.v (ti n.an),.v (ti n.start),.v (.sl (aU n.au)),.v (ti l.bn),.v (.sl (j7 l.bE)),.v (.sl (aG l.uH)),.v (ti n.an),.v (ti l.bn),c9,.v (ti j.len),.v (ti j.f),.v (ti (j.left S)),.v (.bool j.FO)]
def uZ(n:aD)(l:aV)(L:List (Nat×Nat)):Ob:=.dT 0 65 4 (cu (wx n l L))
structure jat(n:aD)(l:aV)(S:Nat)(j:JS)(f:bq)(p r:Nat):Prop where
 box:f p=some (.box (nE n l S (.bA r 0) j))
 dT:f r=some (uZ n l j.pre)
def rL(f:bq)(p r:Nat)(n:aD)(l:aV)(S:Nat)(j:JS):bq:=aM [(p,.box (nE n l S (.bA r 0) j)),(r,uZ n l j.pre)] f
def jat.ne{n:aD}{l:aV}{S:Nat}{j:JS}{p:Nat}(h:jat n l S j f p r):p≠r:=by
 rintro rfl;have:=h.box.symm.trans h.dT;simp[uZ]at this
def aaK{n:aD}{l:aV}{S:Nat}{j:JS}{p:Nat}(h:p≠r)(j':JS):jat n l S j' (rL f p r n l S j') p r:=
 ⟨by simp[rL],by
  have:r≠p:=λe=>h e.symm;simp[rL,this]⟩
def WO{n:aD}{l:aV}{S:Nat}{j:JS}{p:Nat}(h:jat n l S j f p r):rL f p r n l S j=f:=by
 funext q;simp only[rL,aP,cm];split
 ·rename_i e;rw[e];exact h.box.symm
 ·split
  ·rename_i e;rw[e];exact h.dT.symm
  ·rfl
structure JIn(n:aD)(l:aV)(S:Nat):Prop where
 hn:AD n
 hl:F7 l
 hS:l.bn=S
 tF:1<=S
 NF:S<=1000
 ha:∀a∈l.bE,a.f<=a.t
 hs:Kb l
def JIn.len{n:aD}{l:aV}{S:Nat}(h:JIn n l S):(PQ S).length<=1000000:=by
 have:=spL_len S;have h4:S*S<=1000*1000:=ZcU h.NF h.NF;omega
def JIn.run{n:aD}{l:aV}{S:Nat}(h:JIn n l S){j:JS}(hj:j.ok S)(hl:0<j.left S):
  Run ⟨n,l,⟨n.an,l.bn,wx n l j.pre⟩,j.f,(j.f+j.len:Nat)⟩/\wx n l (j.next S).pre=tE (wx n l j.pre) (mm n l ⟨n.an,l.bn,wx n l j.pre⟩ j.f (j.f+j.len:Nat)) (ef n.an l.bn j.f (j.f+j.len)).toNat n.an.toNat:=by
 have h1:=xB (hj.lt hl);have h2:=hj.spl;rw[h1]at h2;obtain⟨_,_,h3,_⟩:=run_of h.hn h.hl h.hS h.ha h.hs h2;exact⟨h3,MX n l j.pre (j.f,j.f+j.len)⟩
end
def Gm:Option Ob->Nat
 |some (.box [.v (.int _ x)])=>x.toNat
 |_=>0
structure SC where
 n:aD
 l:aV
 S:Nat
 j0:JS
 p:Nat
 r:Nat
 d5:Nat
 bS:Nat
 k:Int
 f:bq
def SC.J(c:SC)(i:Nat):JS:=c.j0.kc c.S i
def SC.Ch(c:SC)(i:Nat):bq:=aM [(c.d5,.box [.v (ti i)]),(c.p,.box (nE c.n c.l c.S (.bA c.r 0) (c.J i))),(c.r,uZ c.n c.l (c.J i).pre)] c.f
def SC.Gn(c:SC)(i:Nat):bq:=aM [(c.d5,.box [.v (ti i)]),(c.p,.box (nE c.n c.l c.S (.bA c.r 0) ((c.J i).eZ c.S))),(c.r,uZ c.n c.l (c.J i).pre)] c.f
def SC.M(c:SC):Nat:=min c.k.toNat (c.j0.left c.S)
def SC.kf(c:SC):bB->bq->fI:=λargs ab=>
 ⟨Gm (ab c.d5)<c.M/\args=[.v (ti (c.J (Gm (ab c.d5))).f),.v (ti ((c.J (Gm (ab c.d5))).f+(c.J (Gm (ab c.d5))).len:Nat))]/\ab=c.Gn (Gm (ab c.d5)),
  .v (.bool (decide ((Gm (ab c.d5)+1:Nat)≠c.k))),c.Ch (Gm (ab c.d5)+1)⟩
structure SC.ok(c:SC):Prop where
 jin:JIn c.n c.l c.S
 jok:c.j0.ok c.S
 k1:1<=c.k
 pr:c.p≠c.r
 dp:c.d5≠c.p
 dr:c.d5≠c.r
 bp:c.bS≠c.p
 br:c.bS≠c.r
 bd:c.bS≠c.d5
 fb:c.f c.bS=some (.box [.ptr c.p 0])
def SC.decY(c:SC)(i:Nat):Gm (c.Gn i c.d5)=i:=by simp[SC.Gn,Gm]
def SC.kf_at(c:SC)(i:Nat)(hi:i<c.M):c.kf [.v (ti (c.J i).f),.v (ti ((c.J i).f+(c.J i).len:Nat))] (c.Gn i)=⟨True,.v (.bool (decide ((i+1:Nat)≠c.k))),c.Ch (i+1)⟩:=by
 unfold SC.kf;simp only[c.decY,hi,and_self]
def U0{f:bq}{a b d x:Nat}{A B D:Ob}(A' B' D':Ob)(h:aM [(a,A),(b,B),(d,D)] f x=none):aM [(a,A'),(b,B'),(d,D')] f x=none:=by
 simp only[aP,cm]at h⊢;split at h
 ·cases h
 ·rw[Zab (by assumption)];split at h
  ·cases h
  ·rw[Zab (by assumption)];split at h
   ·cases h
   ·rw[Zab (by assumption)];exact h
def SC.M3(c:SC):OG c.kf:=by
 intro args ab h x hx;obtain⟨h1,h2,h3⟩:=h;rw[h3]at hx;exact U0 _ _ _ hx
def SC.obH_no{c:SC}{N:Nat}(h:∀q,N<=q->c.Ch 0 q=none)(i:Nat):∀q,N<=q->c.Ch i q=none:=λq hq=>U0 _ _ _ (h q hq)
def t1051(c:SC)(H:c.ok){N:Nat}(hN:∀q,N<=q->c.Ch 0 q=none):OH aj 51 [.ptr c.bS 0] (c.Ch 0) c.kf (c.Ch c.M):=by
 have rQ:=λi=>SC.obH_no hN i;have NF:=H.jin.NF;have yG:=H.jok.total;have hspl:=H.jin.len;have hit:=λi (hi:i<=c.j0.left c.S)=>H.jok.kc i hi;have pJ:=H.k1;have hlS:=H.jin.hS;have hpr:=H.pr;have hdp:=H.dp;have Kq:=H.dr;have hbp:=H.bp;have YQ:=H.br;have hbd:=H.bd;have MC:=H.fb;have hrp:c.r≠c.p:=λe=>hpr e.symm;have hpd:c.p≠c.d5:=λe=>hdp e.symm;have XT:c.r≠c.d5:=λe=>Kq e.symm;have hpb:c.p≠c.bS:=λe=>hbp e.symm;refine c1051.okY c.M3 hN (by simp) λy=>?_
 letI:dL:=yk y c.kf c.M3
 refine aa.le (Le.same (l:=[(0,.v (.mg (.func (.yield y) #[] #[]))),(1,.ptr c.bS 0)]) (ba:=N) (rQ 0) ⟨rfl,rfl,trivial⟩) ?_;apply aa.block;refine aa.loop (λi:Nat=>⟨DM.look [(0,.v (.mg (.func (.yield y) #[] #[]))),(1,.ptr c.bS 0)],c.Ch i,N,N,[[]]⟩)
  (λi=>i<=c.M/\(i:Int)<c.k) (λi=>c.M-i) 0 (Le.refl _) ⟨by omega,by omega⟩ (λi hi=>?_)
 obtain⟨hi1,hi2⟩:=hi;have hM:c.M=min c.k.toNat (c.j0.left c.S):=rfl;obtain⟨hj,J3,hjc⟩:=hit i (by omega);rw[show c.j0.kc c.S i=c.J i from rfl]at hj J3 hjc;have eb:∀i,c.Ch i c.bS=some (.box [.ptr c.p 0]):=λi=>by simp[SC.Ch,hbp,YQ,hbd,MC]
 have ep:∀i,c.Ch i c.p=some (.box (nE c.n c.l c.S (.bA c.r 0) (c.J i))):=λi=>by simp[SC.Ch,hpd]
 have nu:c.p<N:=ZbK λh=>by have h2:=hN _ h;rw[ep]at h2;cases h2
 have UN:c.bS<N:=ZbK λh=>by have h2:=hN _ h;rw[eb]at h2;cases h2
 simp only[nE]at ep;have Xc:dL.k=some (y,c.kf):=rfl;apply aa.seq;apply aa.seq;apply aa.fK cF fw [0,1,9];simp[UD,eb,ep];refine aa.cond rfl (λg=>?_) (λg=>?_)
 ·have g:0<(c.J i).left c.S:=by simpa using g
  have ln:=hj.lt g;have Xs:=hj.M1 g;obtain⟨J,hJ⟩:=bb (c.J i);have hJ1:c.J (i+1)=J.next c.S:=by rw[<-hJ];rfl
  have hiM:i<c.M:=by omega
  have hkf:=c.kf_at i hiM;have hoY:c.Gn i=aM [(c.d5,.box [.v (ti i)]),(c.p,.box (nE c.n c.l c.S (.bA c.r 0) (J.eZ c.S))),(c.r,uZ c.n c.l J.pre)] c.f:=by unfold SC.Gn;rw[hJ]
  have hoH:c.Ch i=aM [(c.d5,.box [.v (ti i)]),(c.p,.box (nE c.n c.l c.S (.bA c.r 0) J)),(c.r,uZ c.n c.l J.pre)] c.f:=by unfold SC.Ch;rw[hJ]
  rw[hJ]at g ln Xs hj J3 hkf;rw[hoH];simp only[nE,JS.eZ]at hoY Xs;have eb':∀A B C,aM [(c.d5,A),(c.p,B),(c.r,C)] c.f c.bS=some (.box [.ptr c.p 0]):=λA B C=>by simp[hbp,YQ,hbd,MC]
  simp only[nE];obtain⟨S,hS⟩:=bb c.S;rw[hS]at ln Xs hj J3 g NF hlS hspl yG hoY⊢;obtain⟨jp,jl,jf,jc⟩:=J;simp only at ln Xs hoY hkf⊢;have w1:IntKind.i64.wrap ((jf:Int)+jl)=((jf+jl:Nat):Int):=by rw[aF (by omega)];omega
  have w2:IntKind.i64.wrap ((JS.left S ⟨jp,jl,jf,jc⟩:Int)-1)=((JS.left S ⟨jp,jl,jf,jc⟩-1:Nat):Int):=by rw[aF (by omega)];omega
  have w3:IntKind.i64.wrap ((jf:Int)+1)=((jf+1:Nat):Int):=by rw[aF (by omega)];omega
  have w4:IntKind.i64.wrap ((jf:Int)+1+jl)=(jf:Int)+1+jl:=aF (by omega);have w5:IntKind.i64.wrap ((jl:Int)+1)=((jl+1:Nat):Int):=by rw[aF (by omega)];omega
  obtain⟨L,hL⟩:=bb (JS.left S ⟨jp,jl,jf,jc⟩);rw[hL]at Xs g J3 w2⊢;apply aa.skip;simp;apply aa.block;apply aa.ch cF fw [0,1,3,4];simp[UE,hbp,YQ,hbd,MC,hpd,w1];apply aa.ch cF fw [0,1,3,4];simp[UF,hbp,YQ,hbd,MC,hpd,w2];apply aa.ch cF fw [0,1,3,4];simp[UG,hbp,YQ,hbd,MC,w3];refine aa.seq (aa.to ⟨DM.look [(0,.v (.mg (.func (.yield y) #[] #[]))),(1,.ptr c.bS 0),(3,.v (ti jf)),(4,.v (ti (jf+jl:Nat)))],c.Gn i,N+5000,N,[[]]⟩ ?_ ?_)
  ·apply aa.ch cF fw [0,1,3,4,51];simp[UH,hbp,YQ,hbd,MC,w4,hlS];have hYno:∀q,N+5000<=q->c.Gn i q=none:=λq hq=>U0 _ _ _ (hN q (by omega));refine aa.cond rfl (λg2=>?_) (λg2=>?_)
   ·have g2:jf+1+jl>=S:=by
     have:(S:Int)<=(jf:Int)+1+jl:=by simpa using g2
     omega
    rw[Zai g2,Zai g2]at hoY Xs;apply aa.pe cF fw (rs:=c5 (iO c.p c.bS N) (eR Je [none,some [1],none,none,none,none,none,none,none,some [0],none,none,none])) (.inl rfl) ((dX (jK nu UN hpb) _ _ _).trans (by kernel_rfl)) [0,1,3,4];simp[Je,c5,fk,eR,iO,cP,bG,aN,hbp,YQ,hbd,MC,w5];refine eO ?_ hYno (by simp);rw[hoY,show JS.left S ⟨jp,jl+1,0,jc⟩=L-1 by omega,hlS];funext q;simp only[aP,cm];by_cases hq:q=c.p
    ·subst hq;simp[hpd]
    ·simp only[Zab hq]
   ·have g2:¬jf+1+jl>=S:=by
     have:¬(S:Int)<=(jf:Int)+1+jl:=by simpa using g2
     omega
    rw[Zab g2,Zab g2]at hoY Xs;apply aa.skip;simp;refine eO ?_ hYno (by simp);rw[hoY,show JS.left S ⟨jp,jl,jf+1,jc⟩=L-1 by omega,hlS];funext q;simp only[aP,cm];by_cases hq:q=c.p
    ·subst hq;simp[hpd]
    ·simp only[Zab hq]
  simp;apply aa.ch cF fw [0,1,67];rw[Int.natCast_add]at hkf;simp[UI,Xc,hkf];refine aa.cond rfl (λg2=>?_) (λg2=>?_)
  ·have g2:(i:Int)+1=c.k:=by simpa using g2
   apply aa.ret;simp;rw[show c.M=i+1 by omega]
  ·have g2:¬(i:Int)+1=c.k:=by simpa using g2
   apply aa.skip;simp;rw[Zab g2];exact⟨i+1,eO rfl (rQ _) ⟨rfl,rfl,trivial⟩,⟨by omega,by omega⟩,by omega⟩
 ·have g:(c.J i).left c.S=0:=by simpa using g
  apply aa.exit;simp;have:i=c.M:=by omega
  rw[this]
section
variable{f0:bq}
def t1030{p N:Nat}(hN:∀r,N<=r->f0 r=none)(hp:∃cs,f0 p=some (.box cs)):
  sE aj 30 [.ptr p 0] f0 N (N+20) (λval nJ=>val=.nG (.func 51) [.ptr (N+2) 0]/\nJ=aM [(N+2,.box [.ptr p 0])] f0):=by
 refine c1030.YJ hN (by simp) (by omega) ?_ λaT=>?_
 ·rintro val nJ ⟨rfl,rfl⟩;refine⟨λr hr h=>?_,λr hr=>?_⟩
  ·rw[pB hr (by simp)];exact h
  ·rw[aP,Zab (by omega)];exact hN r (by omega)
 simp;apply aa.ch cF fw [1];simp[UA];apply aa.ch cF fw [2];simp[UB];apply aa.ret;simp[finN]
def t1017{p r N S:Nat}{n:aD}{l:aV}{j:JS}{k:Int}(hN:∀q,N<=q->f0 q=none)(I:JIn n l S)(hj:j.ok S)(dP:jat n l S j f0 p r)(hcan:j.FO=false)(hk:1<=k):
  aR aj 17 [.ptr p 0,.v (ti k)] f0 ⟨True,.v (ti (min k.toNat (j.left S):Nat)),rL f0 p r n l S (j.kc S (min k.toNat (j.left S)))⟩:=by
 refine aat.pQ hN (by simp) λaT=>?_;have hpr:=dP.ne;have hp:=dP.box;have hr:=dP.dT;have nu:p<N:=(aT p _ hp).1;have hrN:r<N:=(aT r _ hr).1;have np:∀k,p≠N+k:=λk=>by omega
 have nr:∀k,r≠N+k:=λk=>by omega
 have en:(∃cs,f0 p=some (.box cs)):=⟨_,hp⟩;simp only[nE]at hp;simp;apply aa.ch cF fw [2,3];simp[CJ];refine aa.le (Le.dV (l1:=[(N+3,.box [.ptr p 0])]) (l:=[(2,.ptr (N+3) 0),(3,.v (.box [ti k]))]) (ba:=N+500) aT ?_ ?_ ?_ ?_ ?_) ?_
 ·omega
 ·simp
 ·simp[bK,Nat.add_assoc]
 ·simp[dN,eA,Nat.add_assoc,np,en]
 ·simp[np,Nat.add_assoc,en];exact bL (l:=[(N+3,.box [.ptr p 0])]) aT (by omega) (by simp)
 apply aa.seq;refine aa.cz cF fw [(2,.ptr (N+3) 0),(3,.v (.box [ti k])),(19,.v (.bool false))] ?_ ?_
 ·have Cd:¬k<=0:=by omega
  simp[y7,hp,np,hcan,Cd]
 apply aa.c0 rfl;apply aa.skip;simp;apply aa.ch cF fw [2,3,5];simp[Ud];refine aa.le (Le.dV (l1:=[(N+541,.box [.v (ti 0)]),(N+3,.box [.ptr p 0])]) (l:=[(2,.ptr (N+3) 0),(3,.v (.box [ti k])),(5,.ptr (N+541) 0)]) (ba:=N+1000) aT ?_ ?_ ?_ ?_ ?_) ?_
 ·omega
 ·simp
 ·simp[bK,Nat.add_assoc]
 ·simp[dN,eA,Nat.add_assoc,np,en]
 ·simp[np,Nat.add_assoc,en]
 obtain⟨c,hc⟩:=bb ((⟨n,l,S,j,p,r,N+541,N+1037,k,aM [(N+1037,.box [.ptr p 0]),(N+3,.box [.ptr p 0])] f0⟩:SC):SC);have hcok:c.ok:=by
  rw[<-hc];exact⟨I,hj,hk,hpr,λe=>np _ e.symm,λe=>nr _ e.symm,λe=>np _ e.symm,λe=>nr _ e.symm,by simp only;omega,by simp⟩
 have hob0:aM [(N+1037,.box [.ptr p 0]),(N+541,.box [.v (ti 0)]),(N+3,.box [.ptr p 0])] f0=c.Ch 0:=by
  rw[<-hc];funext q;simp only[SC.Ch,SC.J,JS.kc,aP,cm];by_cases h1:q=p
  ·subst h1;rw[Zab (np _),Zab (np _),Zab (np _),Zab (np _),Zai rfl];simp only[hp,nE]
  by_cases h2:q=r
  ·subst h2;rw[Zab (nr _),Zab (nr _),Zab (nr _),Zab (nr _),Zab h1,Zai rfl];exact hr
  rw[Zab h1,Zab h2];by_cases h3:q=N+1037
  ·subst h3;simp
  by_cases h4:q=N+541
  ·subst h4;simp
  rw[Zab h3,Zab h4,Zab h4,Zab h3]
 have rQ:∀i,∀q,N+1055<=q->c.Ch i q=none:=λi=>SC.obH_no (N:=N+1055) (λq hq=>by
  rw[<-hob0];simp only[aP,cm];rw[Zab (by omega),Zab (by omega),Zab (by omega)];exact hN q (by omega)) i
 have hM:c.M=min k.toNat (j.left S):=by rw[<-hc];rfl
 have hJ:∀i,c.J i=j.kc S i:=λi=>by rw[<-hc];rfl
 apply aa.seq;refine aa.seq (aa.to ⟨DM.look [(2,.ptr (N+3) 0),(3,.v (.box [ti k])),(5,.ptr (N+541) 0),(21,.nG (.func 51) [.ptr (N+1037) 0])],c.Ch 0,N+1055,N,[]⟩ (aa.YK cF (N':=N+1055) [2,3,5,21] (pre:=[⟨.load 1 false (.tmp 2),(some 20),none,[],none⟩]) (rs:=Ue) rfl ?_) ?_)
 ·simp;refine⟨_,λhN2=>t1030 hN2 ⟨_,by simp[np,hp];rfl⟩, ?_⟩;rintro val nJ ⟨rfl,rfl⟩;exact eO hob0 (rQ 0) (by simp)
 simp;have hpc:c.p=p:=by rw[<-hc]
 have hrc:c.r=r:=by rw[<-hc]
 have Lk:c.n=n:=by rw[<-hc]
 have hlc:c.l=l:=by rw[<-hc]
 have hSc:c.S=S:=by rw[<-hc]
 have hdc:c.d5=N+541:=by rw[<-hc]
 have B8:c.k=k:=by rw[<-hc]
 have hbc:c.bS=N+1037:=by rw[<-hc]
 have hf3:c.f (N+3)=some (.box [.ptr p 0]):=by
  rw[<-hc];simp
 have hit:=t1051 c hcok (rQ 0);rw[hbc]at hit;have hNp:0<N:=by omega
 obtain⟨M,hMM⟩:=bb c.M;have hM2:M=min k.toNat (j.left S):=hMM.symm.trans hM;rw[<-hM2];have hclP:∀j',dh (rL f0 p r n l S j') N:=λj'=>ll aT (Zaf _) (by
  have hrn:aM [(p,Ob.box (nE n l S (.bA r 0) j')),(r,uZ n l j'.pre)] f0 r≠none:=by
   simp only[aP,cm];split
   ·simp
   ·simp
  intro q hq;simp only[Zah,Zal,or_false]at hq;rcases hq with rfl|rfl
  ·refine⟨nu,λm hm=>?_⟩;simp only[nE,aZ,bM,aN,ZaC,ZaG,Zah,Zal,or_false]at hm;rw[hm];exact hrn
  ·exact⟨hrN,λm hm=>by simp[uZ,aZ]at hm⟩)
 have e5:∀i,c.Ch i (N+541)=some (.box [.v (ti i)]):=λi=>by
  unfold SC.Ch;rw[hdc,aP,Zai rfl]
 have Av:aa aj 34 (.seq (.region false E8) .ret) (DK uK ⟨True,.v (ti M),rL f0 p r n l S (j.kc S M)⟩) ⟨DM.look [(2,.ptr (N+3) 0),(3,.v (.box [ti k])),(5,.ptr (N+541) 0),(21,.nG (.func 51) [.ptr (N+1037) 0])],c.Ch c.M,N+1055,N,[]⟩:=by
  rw[hMM];apply aa.ch cF fw [4];simp[E8,e5];refine aa.le (le_end (N:=N) (ba:=N+2000) (l:=[(4,.v (ti M))]) [(N+541,.box [.v (ti M)]),(N+1037,.box [.ptr p 0]),(N+3,.box [.ptr p 0])] (hclP (j.kc S M)) ?_ (by omega) (by simp) (by simp)) ?_
  ·rw[<-hc];funext q;simp only[SC.Ch,SC.J,rL,aP,cm];by_cases h1:q=p
   ·subst h1;simp[np]
   by_cases h2:q=r
   ·subst h2;simp[nr,h1]
   rw[Zab h1,Zab h2,Zab h1,Zab h2]
  ·apply aa.ret;simp[uK,DK,su,lM,o9]
 apply aa.block;refine aa.rangeFS 0 hit hNp (by rfl) (rQ c.M) ?_ Av Av;intro args ab N2 hN2 dq hyi hno2;obtain⟨h1,h2,h3⟩:=dq;obtain⟨i,hi⟩:=bb (Gm (ab c.d5));rw[hi]at h1 h2 h3;subst h2;refine⟨by simp, ?_⟩;have hkf:=c.kf_at i h1;subst h3;rw[hkf];obtain⟨hji,J3,hjc⟩:=hj.kc i (by omega);have hJi:=hJ i;have hJn:=hJ (i+1);rw[<-hJi]at hji J3 hjc;have ln:=hji.lt (by omega);obtain⟨bW,tB⟩:=I.run hji (by omega);have Dx:(c.J i).next S=c.J (i+1):=by rw[hJn,hJi];rfl
 rw[Dx]at tB;have yp:c.Gn i p=some (.box (nE n l S (.bA r 0) ((c.J i).eZ S))):=by
  unfold SC.Gn;rw[hdc,hpc,hrc,Lk,hlc,hSc];simp[np]
 have yr:c.Gn i r=some (.dT 0 65 4 (cu (wx n l (c.J i).pre))):=by
  unfold SC.Gn;rw[hdc,hpc,hrc,Lk,hlc,hSc];have:r≠p:=λe=>hpr e.symm;simp[nr,this,uZ]
 have y3:c.Gn i (N+3)=some (.box [.ptr p 0]):=by
  unfold SC.Gn;rw[hdc,hpc,hrc];have h1:∀k,N+k≠p:=λk e=>np k e.symm;have h2:∀k,N+k≠r:=λk e=>nr k e.symm;simp[h1,h2,hf3]
 have y5:c.Gn i (N+541)=some (.box [.v (ti i)]):=by
  unfold SC.Gn;rw[hdc,aP,Zai rfl]
 have hn3:N+3<N2:=ZbK λh=>by have:=hno2 _ h;rw[y3]at this;cases this
 have hperf:=λ(M:Nat) (hM:∀q,M<=q->c.Gn i q=none)=>t1031 (f0:=c.Gn i) (B:=wx n l (c.J i).pre) (f:=(c.J i).f) (t:=(c.J i).f+(c.J i).len) hM yp yr I.hn I.hl (by omega) (by rw[I.hS];omega) bW;rw[<-tB]at hperf;have aC:=Hd ay.nil hperf (λq hq=>by
  rw[aP];split
  ·rename_i e;rw[e,yr]at hq;cases hq
  ·exact hq)
 obtain⟨F,hF⟩:=bb ((c.J i).f);obtain⟨Tt,hT⟩:=bb ((c.J i).f+(c.J i).len);rw[hT,hF]at aC;rw[hT,hF];refine aa.le (Le.same (l:=[(2,.ptr (N+3) 0),(3,.v (.box [ti k])),(5,.ptr (N+541) 0),(22,.v (ti F)),(23,.v (ti Tt))]) (ba:=N2) hno2 (by simp[Ea])) ?_;apply aa.ch cF fw [2,3,5,6,22,23];simp[Uf];apply aa.fK cF fw [2,3,5,6,7];simp[Ug];apply aa.block;apply aa.cX aC fw (rs:=E7) rfl (by kernel_rfl) [3,5];simp[E7,y3];have n5r:N+541≠r:=λe=>nr _ e.symm;have w1:IntKind.i64.wrap ((i:Int)+1)=(i:Int)+1:=aF (by have:=I.len;have:=hj.total;omega);apply aa.ch cF fw [3,5];simp[Uh,y5,n5r,w1];apply aa.ch cF fw [32];simp[Ui];have hobn:aM [(N+541,.box [.v (.int .i64 ((i:Int)+1))]),(r,.dT 0 65 4 (cu (wx n l (c.J (i+1)).pre)))] (c.Gn i)=c.Ch (i+1):=by
  unfold SC.Gn SC.Ch;rw[hdc,hpc,hrc,Lk,hlc,hSc];funext q;simp only[aP,cm];by_cases h1:q=N+541
  ·subst h1;rw[Zai rfl,Zai rfl];rfl
  rw[Zab h1,Zab h1,Zab h1];by_cases h2:q=r
  ·subst h2;have h3:¬q=p:=λe=>hpr e.symm;rw[Zai rfl,Zab h3,Zai rfl];rfl
  rw[Zab h2,Zab h2,Zab h2];by_cases h3:q=p
  ·subst h3;rw[Zai rfl,Zai rfl,<-Dx];rfl
  ·rw[Zab h3,Zab h3]
 have lr:∀{tm:dw} {nx:Nat},N2<=nx->Le ⟨tm,aM [(N+541,.box [.v (.int .i64 ((i:Int)+1))]),(r,.dT 0 65 4 (cu (wx n l (c.J (i+1)).pre)))] (c.Gn i),nx,N2,[]⟩ ⟨λ_=>.undef,c.Ch (i+1),N2,N2,[]⟩:=λ{tm nx} _=>by
  rw[<-Im];exact eO hobn (λq hq=>U0 _ _ _ (hno2 q hq)) trivial
 refine aa.cond rfl (λg=>?_) (λg=>?_)
 ·have g:(i:Int)+1=k:=by simpa using g
  apply aa.exit;simp[B8,g];rw[<-g];exact⟨N2,lr (by omega)⟩
 ·have g:¬(i:Int)+1=k:=by simpa using g
  apply aa.skip;simp[B8,g];exact⟨N2,lr (by omega)⟩
end
section
variable{f0:bq}{c9:DV}{r:Nat}
def u0(S:Nat)(j:JS)(k:Int):Nat:=if k<=0\/j.FO=true then 0 else min k.toNat (j.left S)
def t1017s{p N:Nat}{n:aD}{l:aV}{S:Nat}{j:JS}{k:Int}(hN:∀q,N<=q->f0 q=none)(hp:f0 p=some (.box (nE n l S c9 j)))(h:k<=0\/j.FO=true):
  aR aj 17 [.ptr p 0,.v (ti k)] f0 ⟨True,.v (ti 0),f0⟩:=by
 refine aat.pQ hN (by simp) λaT=>?_;have nu:p<N:=(aT p _ hp).1;have np:∀k,p≠N+k:=λk=>by omega
 have en:(∃cs,f0 p=some (.box cs)):=⟨_,hp⟩;simp only[nE]at hp;simp;apply aa.ch cF fw [2,3];simp[CJ];refine aa.le (Le.dV (l1:=[(N+3,.box [.ptr p 0])]) (l:=[(2,.ptr (N+3) 0),(3,.v (.box [ti k]))]) (ba:=N+500) aT ?_ ?_ ?_ ?_ ?_) ?_
 ·omega
 ·simp
 ·simp[bK,Nat.add_assoc]
 ·simp[dN,eA,Nat.add_assoc,np,en]
 ·simp[Nat.add_assoc];exact bL (l:=[(N+3,.box [.ptr p 0])]) aT (by omega) (by simp)
 apply aa.seq;refine aa.cz cF fw [(19,.v (.bool true))] ?_ ?_
 ·by_cases hc:j.FO=true
  ·simp[y7,hp,np,hc]
  ·have hk:k<=0:=h.resolve_right hc;have hc:j.FO=false:=by simpa using hc
   simp[y7,hp,np,hc,hk]
 apply aa.c1 rfl;apply aa.ch cF fw [4];simp[I6];refine aa.le (kO (l:=[(4,.v (ti 0))]) (ba:=N+1000) aT (by omega) (by simp) (by simp)) ?_;apply aa.ret;simp[uK,DK,su,lM,o9];rfl
def t1017a{p N S:Nat}{n:aD}{l:aV}{j:JS}{k:Int}(hN:∀q,N<=q->f0 q=none)(I:JIn n l S)(hj:j.ok S)(dP:jat n l S j f0 p r):
  aR aj 17 [.ptr p 0,.v (ti k)] f0 ⟨True,.v (ti (u0 S j k:Nat)),rL f0 p r n l S (j.kc S (u0 S j k))⟩:=by
 unfold u0;by_cases h:k<=0\/j.FO=true
 ·rw[Zai h,show j.kc S 0=j from rfl,WO dP];exact t1017s hN dP.box h
 ·rw[Zab h];exact t1017 hN I hj dP (by simpa using λe=>h (.inr e)) (by omega)
def t1018{p N:Nat}{n:aD}{l:aV}{S:Nat}{j:JS}(hN:∀q,N<=q->f0 q=none)(hp:f0 p=some (.box (nE n l S c9 j))):
  aR aj 18 [.ptr p 0] f0 ⟨True,.v (ti (j.left S)),f0⟩:=by
 refine c1018.pQ hN (by simp) λaT=>?_;simp only[nE]at hp;simp;apply aa.ch cF fw [0];simp[I7];apply aa.seq;apply aa.ch cF fw [0,4];simp[I8];apply aa.c0 rfl;apply aa.skip;simp;apply aa.ch cF fw [2];simp[Uk,hp];apply aa.ret;simp[E9,DK,su,lM,o9];rfl
def JS.d7(S:Nat)(j:JS):JS:=if j.left S=0 then j else⟨j.pre,j.len,j.f,true⟩
def JS.ok.d7{S:Nat}{j:JS}(h:j.ok S):(j.d7 S).ok S:=by
 unfold JS.d7;split
 ·exact h
 ·exact⟨h.spl,h.wW⟩
def cancel_left(S:Nat)(j:JS):(j.d7 S).left S=j.left S:=by
 unfold JS.d7;split<;>rfl
def cancel_pre(S:Nat)(j:JS):(j.d7 S).pre=j.pre:=by
 unfold JS.d7;split<;>rfl
def t1014{p N S:Nat}{n:aD}{l:aV}{j:JS}(hN:∀q,N<=q->f0 q=none)(dP:jat n l S j f0 p r):
  aR aj 14 [.ptr p 0] f0 ⟨True,.v (.eo []),rL f0 p r n l S (j.d7 S)⟩:=by
 refine c1014.pQ hN (by simp) λaT=>?_;have hp:=dP.box;have hr:=dP.dT;have hpr:=dP.ne;simp only[nE]at hp;simp;refine aa.cz cF fw [(0,.ptr p 0),(10,.v (.bool (decide (0<j.left S))))] ?_ ?_
 ·simp[d1014r0,hp]
 refine aa.cond rfl (λg=>?_) (λg=>?_)
 ·have g:0<j.left S:=by simpa using g
  apply aa.fK cF fw [];simp[d1014r1,hp,LU,DK,su,lM,o9];funext q;simp only[rL,aP,cm];by_cases h1:q=p
  ·subst h1;rw[Zai rfl,Zai rfl];simp only[nE,JS.d7,Zab (show ¬j.left S=0 by omega)];rfl
  ·rw[Zab h1,Zab h1];by_cases h2:q=r
   ·subst h2;rw[Zai rfl,hr,cancel_pre]
   ·rw[Zab h2]
 ·have g:j.left S=0:=by simpa using g
  apply aa.skip;have e:j.d7 S=j:=by unfold JS.d7;rw[Zai g]
  rw[e,WO dP];simp[LU,DK,su,lM,o9];rfl
def t1019e{p N:Nat}{n:aD}{l:aV}{S:Nat}{j:JS}(hN:∀q,N<=q->f0 q=none)(hp:f0 p=some (.box (nE n l S c9 j)))(h:j.FO=true\/0<j.left S):
  aR aj 19 [.ptr p 0] f0 ⟨True,.v (.eo [.agg [ti 0,ti 0,.sl []],ti (if j.FO=true then 12 else 15)]),f0⟩:=by
 refine aau.pQ hN (by simp) λaT=>?_;have nu:p<N:=(aT p _ hp).1;have np:∀k,p≠N+k:=λk=>by omega
 have en:(∃cs,f0 p=some (.box cs)):=⟨_,hp⟩;simp only[nE]at hp;have bZ:∀{x:Int} {nx:Nat} {tm:dw} {e:Int},tm 2=.ptr (N+3) 0->tm 3=.v (ti e)->N<=nx->Le ⟨tm,aM [(N+3,.box [.v (ti 0),.v (ti 0),.aW]),(N+3,.box [.v (ti 0),.v (ti 0),.aW])] f0,nx,N,[]⟩ ⟨DM.look [(2,.v (.box [ti 0,ti 0,.sl []])),(3,.v (ti e))],aM [] f0,nx,N,[]⟩:=λ{x nx tm e} h2 h3 hx=>by
  refine Le.trans (Le.dV (l1:=[(N+3,.box [.v (ti 0),.v (ti 0),.v (.sl [])])]) (l:=[(2,.ptr (N+3) 0),(3,.v (ti e))]) (ba:=N+4) aT ?_ ?_ ?_ ?_ ?_) (kO aT hx ?_ ?_)
  ·omega
  ·simp
  ·simp[bK]
  ·simp[dN,eA]
  ·simp[h2,h3]
  ·simp
  ·simp;exact bL (l:=[]) aT (by omega) (by simp)
 simp;apply aa.ch cF fw [0,2,3];simp[CK];apply aa.seq;apply aa.block;apply aa.ch cF fw [0,2,3,4];simp[CL];apply aa.c0 rfl;apply aa.ch cF fw [0,2,3,8];simp[I9,hp,np,Nat.add_assoc];refine aa.cond rfl (λg=>?_) (λg=>?_)
 ·have g:j.FO=true:=by simpa using g
  apply aa.ch cF fw [2,3];simp[Um,Nat.add_assoc];refine aa.le (bZ (x:=0) (e:=12) rfl rfl (by omega)) ?_;apply aa.ret;simp[q9,DK,su,lM,o9,g];rfl
 ·have g:j.FO=false:=by simpa using g
  have hl:0<j.left S:=h.resolve_left (by simp[g]);apply aa.ch cF fw [0,2,3,14];simp[Jd,hp,np,hl,Nat.add_assoc];apply aa.c1 rfl;apply aa.ch cF fw [2,3];simp[Un,Nat.add_assoc,g];refine aa.le (bZ (x:=0) (e:=15) rfl rfl (by omega)) ?_;apply aa.ret;simp[q9,DK,su,lM,o9];rfl
def t1019d{p N S:Nat}{n:aD}{l:aV}{j:JS}(hN:∀q,N<=q->f0 q=none)(dP:jat n l S j f0 p r)(h1:j.FO=false)(h2:j.left S=0):
  aR aj 19 [.ptr p 0] f0 ⟨True,.eo [.agg [.v (ti n.an),.v (ti l.bn),.bA r 0],.v (ti 0)],f0⟩:=by
 refine aau.okD hN (by simp) (by omega) λaT=>?_;have hp:=dP.box;have hr:=dP.dT;have nu:p<N:=(aT p _ hp).1;have hrN:r<N:=(aT r _ hr).1;have np:∀k,p≠N+k:=λk=>by omega
 have nr:∀k,r≠N+k:=λk=>by omega
 have en:(∃cs,f0 p=some (.box cs)):=⟨_,hp⟩;have B6:(∃e sz av,f0 r=some (.dT 0 e sz av)):=⟨_,_,_,hr⟩;simp only[nE]at hp;simp only[uZ]at hr;simp;apply aa.ch cF fw [0,2,3];simp[CK];apply aa.seq;apply aa.block;apply aa.ch cF fw [0,2,3,4];simp[CL];apply aa.c0 rfl;apply aa.ch cF fw [0,2,3,8];simp[I9,hp,np,Nat.add_assoc,h1];apply aa.c0 rfl;apply aa.ch cF fw [0,2,3,14];simp[Jd,hp,np,h2,Nat.add_assoc];apply aa.c0 rfl;apply aa.skip;simp;apply aa.ch cF fw [2,3];simp[Uo,hp,np,Nat.add_assoc];apply aa.ret;refine⟨by simp[q9,bV.oq], ?_⟩;simp[q9,K4,Eb,bV.oq];refine kO aT (by omega) (by simp) ?_;have h3:¬r=N+3:=nr 3;simp[hr,h3]
end
section
variable{r:Nat}{j':JS}
def M4(S:Nat)(j:JS)(a:Nat):∀b,(j.kc S a).kc S b=j.kc S (a+b)
 |0=>rfl
 |b+1=>by
  show((j.kc S a).kc S b).next S=(j.kc S (a+b)).next S;rw[M4 S j a b]
def Hs{f:bq}{p S:Nat}{n:aD}{l:aV}{j:JS}:rL (rL f p r n l S j) p r n l S j'=rL f p r n l S j':=by
 funext q;simp only[rL,aP,cm];split
 ·rfl
 ·split<;>rfl
def WP{f0:bq}{p S:Nat}{n:aD}{l:aV}{j:JS}(dP:jat n l S j f0 p r){q:Nat}(h:f0 q=none):rL f0 p r n l S j' q=none:=by
 simp only[rL,aP,cm];split
 ·rename_i e;rw[e,dP.box]at h;cases h
 ·split
  ·rename_i e;rw[e,dP.dT]at h;cases h
  ·exact h
end
end Jb
end cC
open Go.DM Go.DM.Ve
def Xk(x:Input):Prop:=((x.aw.length:Int)<=60/\(x.insert.length:Int)<=100)/\NH x x.insert.length
def Aw{x:Input}(h:Xk x):OI x/\x.aw.length<=60/\x.insert.length<=100/\(∀c∈x.aw,c.read.length=x.insert.length):=by
 obtain⟨⟨h1,h2⟩,h3,h4⟩:=h;have YU:kz x.aw x.insert.length:=by
  by_cases e:kz x.aw x.insert.length
  ·exact e
  ·exact Zar (.inr (.inr (.inr (.inr (.inr e))))) h3
 have hc:∀c∈x.aw,pR c x.insert.length:=by
  intro c hc;obtain⟨i,hi,rfl⟩:=ZaO hc;have:=YU i hi
  rwa [show x.aw.getD i default=x.aw[i]by simp[List.getD,hi]]at this
 have Nx:0<=x.swap/\x.swap<=60000:=by
  constructor
  ·by_cases e:x.swap<0
   ·exact Zar (.inr (.inr (.inr (.inl e)))) h3
   ·omega
  ·by_cases e:x.swap>60000
   ·exact Zar (.inr (.inr (.inr (.inr (.inl e))))) h3
   ·omega
 have hn:x.aw.length<=60:=by
  by_cases e:(x.aw.length:Int)>60
  ·exact Zar (.inr (.inl e)) h3
  ·omega
 have XT:∀c∈x.aw,c.read.length=x.insert.length:=by
  intro c XD;have:=(hc c XD).1;omega
 refine⟨⟨⟨by omega,λc XD=>?_⟩,λc XD=>⟨by rw[XT c XD];omega,λp hp=>?_⟩,by omega,λp hp=>?_,Nx.1,by omega⟩,hn,by omega,XT⟩
 ·have:=(hc c XD).1;omega
 ·obtain⟨t,ht,rfl⟩:=ZaO hp;have:=(hc c XD).2 t (by rw[XT c XD]at ht;simpa using ht);unfold kE at this;rw[show c.read.getD t default=c.read[t]by simp[List.getD,ht]]at this;omega
 ·obtain⟨t,ht,rfl⟩:=ZaO hp;have:=h4 t (by simpa using ht);unfold yJ at this;rw[show x.insert.getD t default=x.insert[t]by simp[List.getD,ht]]at this;omega
def YV{x:Input}(h:Xk x):∀c∈x.aw,pR c x.insert.length:=by
 obtain⟨⟨h1,h2⟩,h3,h4⟩:=h;have YU:kz x.aw x.insert.length:=by
  by_cases e:kz x.aw x.insert.length
  ·exact e
  ·exact Zar (.inr (.inr (.inr (.inr (.inr e))))) h3
 intro c hc;obtain⟨i,hi,rfl⟩:=ZaO hc;have:=YU i hi
 rwa [show x.aw.getD i default=x.aw[i]by simp[List.getD,hi]]at this
def six_ins{x:Input}(h:Xk x){t:Nat}(ht:t<x.insert.length):1<=x.insert.getD t default:=by
 have:=h.2.2 t (by simpa using ht);unfold yJ at this;omega
def BK{x:Input}(h:Xk x):∀a∈jo x,GV (2*x.aw.length+1:Nat) x.insert.length a:=by
 obtain⟨g1,g2,g3,g4⟩:=Aw h;have hc:=YV h;have YW:∀m,m<x.aw.length->(x.aw.getD m default).kind<x.insert.length:=by
  intro m hm;have:=(hc (x.aw.getD m default) (by simp[List.getD,hm])).1;omega
 intro a ha;obtain⟨hm,uG⟩:=Bh ha;unfold GV;rcases hm with hm|hm
 ·obtain⟨i,_,hi,hm⟩:=gC hm;unfold rI at hm;rw[Zaq]at hm;rcases hm with hm|hm
  ·obtain⟨m,him,hmn,hm⟩:=gC hm;unfold rM at hm;rw[Zaq]at hm;rcases hm with hm|hm
   ·obtain⟨t,_,ht,hm⟩:=gC hm;unfold rA at hm;split at hm
    ·rename_i hr;simp only[Zan]at hm;subst hm;have:=yK (g0 g1.1 i m).1 hr.2;simp only at uG⊢;omega
    ·simp at hm
   ·unfold rS at hm;split at hm
    ·rename_i hr;simp only[Zan]at hm;subst hm;have:=yK (g0 g1.1 i m).1 g1.2.2.2.2.1;unfold dc at hr;rw[Zau]at hr;have:=YW (m+1) hr.1;simp only at uG⊢;omega
    ·simp at hm
  ·obtain⟨hr,rfl⟩:=HE hm;unfold dc at hr;rw[Zau]at hr;have:=YW i (by omega);simp only;omega
 ·obtain⟨i,_,hi,hm⟩:=gC hm;unfold iI at hm;obtain⟨m,him,hmn,hm⟩:=gC hm;unfold iM at hm;obtain⟨t,_,ht,hm⟩:=gC hm;simp only[iT,Zan]at hm;subst hm;have:=Xx (g0 g1.1 i m).1 (six_ins h ht);simp only at uG⊢;omega
def V0{x:Input}(h:Xk x):Ec (ci x) x.insert.length:=by
 obtain⟨g1,g2,g3,g4⟩:=Aw h;have dM:(ci x).uH.length=2*x.aw.length+1:=OJ x _;have la:(ci x).bn=2*x.aw.length+1:=rfl;refine⟨⟨by omega,by omega⟩,λi hi=>?_,λi hi=>⟨?_, ?_⟩⟩
 ·rw[dM]at hi;unfold QX;have:(ci x).uH.getD i default=if i % 2=0 then og x (i/2) x.aw.length else 1099511627776:=by
   simp[ci,zU,List.getD,hi]
  rw[this];split
  ·exact g0 g1.1 _ _
  ·omega
 ·have:=BK h ((ci x).bE.getD i default) (by simp only[List.getD,Zas hi,Zbd];exact Zbe hi);rw[la];simpa using this
 ·by_cases hi0:i=0
  ·exact .inl hi0
  ·right;have hs:=lF x;rw[Zc0]at hs;have:=hs (i-1) i (by show i-1<(ci x).bE.length;omega) hi (by omega);have e1:(ci x).bE.getD (i-1) default=(jo x)[i-1]'(by show i-1<(ci x).bE.length;omega):=by
    simp only[List.getD];rw[Zas (by omega)];rfl
   have e2:(ci x).bE.getD i default=(jo x)[i]'hi:=by
    simp only[List.getD];rw[Zas hi];rfl
   rw[e1,e2];exact this
def YX{x:Input}(h:Xk x):nK x=ci x:=by
 obtain⟨h1,h2,h3,h4⟩:=Aw h;exact NU ⟨λp hp=>(h1.2.2.2.1 p hp).1,h1.2.2.2.2.1⟩ h1.1 h4
def YY{x:Input}(h:Xk x):(lE x).length<=900000:=by
 obtain⟨h1,h2,h3,h4⟩:=Aw h;rw[<-HH,Gw ⟨λp hp=>(h1.2.2.2.1 p hp).1,h1.2.2.2.2.1⟩ h1.1 h4];exact BL (by omega) h2
def V1{x:Input}(h:Xk x):bl aj 29 [x.enc] (ci x).enc:=by
 rw[<-YX h];have:=YY h;exact t12 x (Aw h).1 (by unfold qY;omega) (by omega)
namespace cC
namespace Jb
open Go.DM
def zF(n:aD)(x:Input):Prop:=dO n/\NH x n.aL/\Gl n x.insert
instance(n:aD)(x:Input):Decidable (zF n x):=by unfold zF;infer_instance
def zF.Xk{n:aD}{x:Input}(h:zF n x)(h6:x.insert.length<=100):Go.Proofs.Xk x:=by
 obtain⟨h1,h2,h3⟩:=h;have hl:(x.insert.length:Int)=n.aL:=by
  by_cases e:(x.insert.length:Int)=n.aL
  ·exact e
  ·exact Zar (.inr (.inr (.inl e))) h2.1
 have hc:(x.aw.length:Int)<=60:=by
  by_cases e:(x.aw.length:Int)>60
  ·exact Zar (.inr (.inl e)) h2.1
  ·omega
 exact⟨⟨hc,by omega⟩,by rw[hl];exact h2⟩
abbrev pS(x:Input):Nat:=2*x.aw.length+1
def zF.jin{n:aD}{x:Input}(h:zF n x)(h6:x.insert.length<=100):JIn n (ci x) (pS x):=by
 have hs:=h.Xk h6;obtain⟨g1,g2,g3,g4⟩:=Aw hs;have hip:inpOk x:=⟨g1,g2,by omega,g4⟩;refine⟨h.1.ok,ref_lOk hip,rfl,by simp only[pS];omega,by simp only[pS];omega,λa ha=>?_,WJ (V0 hs)⟩;have:=BK hs a ha;unfold GV at this;omega
def aaL(S:Nat):(PQ S).length=S*(S+1)/2:=by
 have:=JR S;omega
def newO(n:aD)(x:Input)(P R:Nat):cV:=[(P,.box (nE n (ci x) (pS x) (.bA R 0) J0)),(R,uZ n (ci x) [])]
def t1012v{f0:bq}{N:Nat}{n:aD}{x:Input}(hN:∀q,N<=q->f0 q=none)(h:zF n x)(h6:x.insert.length<=100):
  sE aj 12 [.v n.enc,.v x.enc] f0 N (N+3000) (λval nJ=>val=.ptr (N+2048) 0/\nJ=aM (newO n x (N+2048) (N+2044)) f0):=by
 have hj:=h.jin h6;have hs:=h.Xk h6;have tL:=V1 hs;have t26:=UW n;have ik:n.aL<=1000000000:=by
  have:nT n:=h.1.1;unfold nT at this;omega
 have t27:=t1027 x n.aL ik;have t28:=t1028 n x.insert (by omega);rw[decide_eq_true h.1]at t26;rw[decide_eq_true h.2.1]at t27;rw[decide_eq_true h.2.2]at t28;obtain⟨l,hl⟩:=bb (ci x);have hls:l.bn=(pS x:Nat):=by rw[<-hl];rfl
 unfold newO;rw[hl]at tL hj⊢;have aC:ay aj (bu [(29,cT (λts=>ts=[x.enc]) (λ_=>l.enc) false),(28,cT (λts=>ts=[n.enc,.sl (aG x.insert)]) (λ_=>.bool true) true),(27,cT (λts=>ts=[x.enc,ti n.aL]) (λ_=>.bool true) true),(26,cT (λts=>ts=[n.enc]) (λ_=>.bool true) true)]):=by
  refine ay.cons (ay.cons (ay.cons (ay.cons ay.nil ?_) ?_) ?_) ?_
  ·rintro ts rfl;exact⟨t26,λ_=>rfl⟩
  ·rintro ts rfl;exact⟨t27,λ_=>rfl⟩
  ·rintro ts rfl;exact⟨t28,λ_=>rfl⟩
  ·rintro ts rfl;exact⟨tL,λh=>by cases h⟩
 have Wk:=hj.hn.1;have hn2:=hj.hn.2.1;have NF:=hj.NF;obtain⟨S,hS⟩:=bb (pS x);have tF:=hj.tF;rw[hS]at NF hls tF⊢;have htri:=aaL S;have hz:wx n l []=List.replicate (lR n.an S).toNat ⟨0,0,0,0⟩:=by unfold wx;rw[hls];rfl
 have yG:J0.left S=S*(S+1)/2:=by
  have:=(J0_ok tF).total;rw[<-htri];simpa [J0]using this
 have hSS:S*(S+1)<=1000*1001:=ZcU (by omega) (by omega);obtain⟨G,hG⟩:=bb (S*(S+1)/2);have hGI:((S:Int)*((S:Int)+1)).tdiv 2=(G:Int):=by
  rw[DP (Zcq (by omega) (by omega)),<-hG]
  push_cast
  rfl
 have hGle:G<=500500:=by omega
 have hcI:lR n.an S=n.an*G:=by
  unfold lR;rw[<-hG];have h2:S*(S+1) % 2=0:=by
   have:=JR S;omega
  obtain⟨g,hg⟩:∃g,S*(S+1)=2*g:=⟨S*(S+1)/2,by omega⟩;have hg2:(S:Int)*((S:Int)+1)=2*(g:Int):=by exact_mod_cast hg
  rw[hg,Int.mul_assoc,hg2,show n.an*(2*(g:Int))=2*(n.an*g)by grind];simp
 have b1:=g9 (a:=n.an) (A:=1000) (b:=(G:Int)) (B:=500500) (by omega) hn2 (by omega) (by omega);have hSSI:(S:Int)*((S:Int)+1)=((S*(S+1):Nat):Int):=by push_cast;rfl
 have m1:IntKind.i64.wrap ((S:Int)+1)=(S:Int)+1:=aF (by omega);have m2:IntKind.i64.wrap ((S:Int)*((S:Int)+1))=(S:Int)*((S:Int)+1):=by rw[hSSI];exact aF (by omega)
 have m3:IntKind.i64.wrap (((S:Int)*((S:Int)+1)).tdiv 2)=(G:Int):=by rw[hGI];exact aF (by omega)
 have m4:IntKind.i64.wrap (n.an*(G:Int))=n.an*(G:Int):=aF (by omega);obtain⟨C,hC⟩:=Zae (a:=n.an*(G:Int)) (by omega);rw[hC]at m4 hcI b1;rw[hG]at yG;refine c1012.YJ hN (by simp) (by omega) ?_ λaT=>?_
 ·rintro val nJ ⟨rfl,rfl⟩;refine⟨λr hr h=>?_,λr hr=>?_⟩
  ·rw[pB hr (by simp)];exact h
  ·rw[aP,Zab (by omega),aP,Zab (by omega)];exact hN r (by omega)
 obtain⟨nt,nn,ns,au⟩:=n;obtain⟨cs,b7,sw⟩:=x;obtain⟨ls,bE,bZ⟩:=l;simp only at hls;subst hls;simp only[aD.enc,Input.enc,aV.enc]at aC;simp only at m4 hcI hC;simp[aD.enc,Input.enc];apply aa.ch aC fw [2,3,4];simp[I5];refine aa.le (kO (l:=[(2,.v (.box [ti nt,ti nn,ti ns,.sl (aU au)])),(3,.v (.box [.sl (cY cs),.sl (aG b7),ti sw]))]) (ba:=N+500) aT (by omega) (by simp;omega) ?_) ?_
 ·simp[Nat.add_assoc];exact⟨bL (l:=[]) aT (by omega) (by simp),bL (l:=[]) aT (by omega) (by simp)⟩
 apply aa.seq;apply aa.ch aC fw [2,3,23];simp[y6];apply aa.c0 rfl;apply aa.skip;simp;apply aa.ch aC fw [2,3,5];simp[T9];refine aa.le (kO (l:=[(2,.v (.box [ti nt,ti nn,ti ns,.sl (aU au)])),(3,.v (.box [.sl (cY cs),.sl (aG b7),ti sw])),(5,.v (.box [ti S,.sl (j7 bE),.sl (aG bZ)]))]) (ba:=N+1000) aT (by omega) (by simp;omega) ?_) ?_
 ·simp[Nat.add_assoc];exact bL (l:=[]) aT (by omega) (by simp)
 apply aa.ch aC fw [2,3,5,6];simp[Ua,m1,m2,m3];refine aa.le (Le.same (l:=[(2,.v (.box [ti nt,ti nn,ti ns,.sl (aU au)])),(3,.v (.box [.sl (cY cs),.sl (aG b7),ti sw])),(5,.v (.box [ti S,.sl (j7 bE),.sl (aG bZ)])),(6,.v (ti G))]) (ba:=N+2000) (λq hq=>hN q (by omega)) (by simp)) ?_;apply aa.ch aC fw [4];simp[Ub,m4,hC];refine⟨by simp[dK];omega, ?_⟩;apply aa.ret;refine⟨rfl, ?_⟩;have hcT:cu (wx ⟨nt,nn,ns,au⟩ ⟨S,bE,bZ⟩ [])=List.replicate C [T.int .i64 0,T.int .i64 0,T.int .i64 0,T.int .i64 0]:=by
  rw[hz];simp only;rw[hcI];simp[cu,Cell.enc]
 simp only[nE,J0,uZ,hcT];rw[show JS.left S ⟨[],0,0,false⟩=G from yG];rfl
def mY(n:aD)(b7:bO):Prop:=(n.au.length:Int)<=60/\n.an<=60/\(b7.length:Int)<=30
instance(n:aD)(b7:bO):Decidable (mY n b7):=by unfold mY;infer_instance
def t1024(n:aD)(b7:bO):bl aj 24 [n.enc,.sl (aG b7)] (.bool (decide (mY n b7))):=by
 obtain⟨R,hR⟩:=bb (decide (mY n b7));rw[hR];obtain⟨nt,nn,ns,au⟩:=n;have z8:(aU au).length=au.length:=by simp[aU]
 refine c1024.ok (by simp) (aO ?_);simp[aD.enc];apply aa.ch cF fw [1,2];simp[Ur];refine aa.lk (o:=[]) (l:=[(1,.v (.sl (aG b7))),(2,.v (.box [ti nt,ti nn,ti ns,.sl (aU au)]))]) (ba:=1200) (by simp) ?_;refine aa.cz cF fw [(4,.v (.bool R))] ?_ ?_
 ·by_cases q1:(au.length:Int)<=60
  ·by_cases q2:nn<=60
   ·by_cases q3:(b7.length:Int)<=30
    ·have:R=true:=by rw[<-hR];simp[mY,q1,q2,q3]
     simp[y8,z8,q1,q2,q3,this]
    ·have:R=false:=by rw[<-hR];simp[mY,q3]
     simp[y8,z8,q1,q2,q3,this]
   ·have:R=false:=by rw[<-hR];simp[mY,q2]
    simp[y8,z8,q1,q2,this]
  ·have:R=false:=by rw[<-hR];simp[mY,q1]
   simp[y8,z8,q1,this]
 apply aa.ret;simp[L6]
def xC(l:List cK)(b:Int)(i:Nat):Prop:=((l.getD i default).read.length:Int)<=b
instance(l:List cK)(b:Int)(i:Nat):Decidable (xC l b i):=by unfold xC;infer_instance
def M6(x:Input)(a b:Int):Prop:=((x.aw.length:Int)<=a/\(x.insert.length:Int)<=b)/\∀i,i<x.aw.length->xC x.aw b i
instance(x:Input)(a b:Int):Decidable (M6 x a b):=by unfold M6;infer_instance
def t1025(x:Input)(a b:Int)(ha:a<=1000000000):bl aj 25 [x.enc,ti a,ti b] (.bool (decide (M6 x a b))):=by
 have c7:M6 x a b↔((x.aw.length:Int)<=a/\(x.insert.length:Int)<=b)/\∀i,i<x.aw.length->xC x.aw b i:=Iff.rfl;obtain⟨R,hR⟩:=bb (decide (M6 x a b));rw[hR];have cZ:¬M6 x a b->R=false:=λh=>by rw[<-hR];simp[h]
 obtain⟨cs,b7,sw⟩:=x;simp only at c7;refine c1025.ok (by simp) (aO ?_);simp[Input.enc];apply aa.ch cF fw [1,2,3];simp[Us];refine aa.lk (o:=[]) (l:=[(1,.v (ti a)),(2,.v (ti b)),(3,.v (.box [.sl (cY cs),.sl (aG b7),ti sw]))]) (ba:=1200) (by simp) ?_;apply aa.seq;obtain⟨c1,bU⟩:=bb (decide (¬((cs.length:Int)<=a/\(b7.length:Int)<=b)):Bool);refine aa.cz cF fw [(1,.v (ti a)),(2,.v (ti b)),(3,.v (.box [.sl (cY cs),.sl (aG b7),ti sw])),(19,.v (.bool c1))] ?_ ?_
 ·by_cases q1:a<(cs.length:Int)
  ·have:c1=true:=by rw[<-bU];simp only[Zau];omega
   simp[CM,q1,this]
  ·by_cases q2:b<(b7.length:Int)
   ·have:c1=true:=by rw[<-bU];simp only[Zau];omega
    simp[CM,q1,q2,this]
   ·have:c1=false:=by rw[<-bU];simp only[Zaz];omega
    simp[CM,q1,q2,this]
 refine aa.cond rfl (λg=>?_) (λg=>?_)
 ·rw[g]at bU;have bU:=Zat bU;apply aa.ch cF fw [6];simp[Ut];apply aa.ret;rw[cZ λh=>bU (c7.1 h).1];simp[y9]
 rw[g]at bU;have bU:=Zay bU;simp only[Classical.not_not]at bU;apply aa.skip;simp;apply aa.seq;apply aa.ch cF fw [2,3,7];simp[Uu];apply aa.block;refine aa.loop (λy:Nat=>⟨DM.look [(2,.v (ti b)),(3,.v (.box [.sl (cY cs),.sl (aG b7),ti sw])),(7,.v (ti y))],cM [],2000,1000,[]⟩)
  (λy=>y<=cs.length/\∀i,i<y->xC cs b i) (λy=>cs.length-y) 0 (Le.bi (o:=[]) ?_ ?_ ?_ ?_) (by simp) (λy hy=>?_)
 iterate 4(·simp)
 obtain⟨lq,fJ⟩:=hy;apply aa.seq;apply aa.seq;apply aa.fK cF fw [2,3,7,24];simp[Uv];refine aa.cond rfl (λcR=>?_) (λcR=>?_)
 ·have cR:y<cs.length:=by simpa using cR
  have r1:=jJ cR;obtain⟨⟨ck,cr,cd⟩,hu⟩:=bb (cs.getD y default);rw[hu]at r1;have I2:xC cs b y↔(cr.length:Int)<=b:=by unfold xC;rw[hu]
  apply aa.skip;simp;apply aa.seq;apply aa.block;apply aa.ch cF fw [2,3,7,35];simp[Uw,r1,cR,cK.enc];refine aa.cond rfl (λg2=>?_) (λg2=>?_)
  ·have g2:b<(cr.length:Int):=by simpa using g2
   apply aa.ch cF fw [6];simp[Ux];apply aa.ret;rw[cZ λh=>by have:=I2.1 ((c7.1 h).2 y cR);omega];simp[y9]
  ·have g2:¬b<(cr.length:Int):=by simpa using g2
   apply aa.skip;simp;apply aa.fK cF fw [2,3,7];simp[Uy];rw[aF (by omega)];refine⟨y+1,Le.bi (o:=[]) ?_ ?_ ?_ ?_,⟨by omega,λi hi=>?_⟩,by omega⟩;iterate 4(·simp)
   ·by_cases e:i=y
    ·subst e;exact I2.2 (by omega)
    ·exact fJ i (by omega)
 ·have Fq:y=cs.length:=by
   have:¬y<cs.length:=by simpa using cR
   omega
  subst Fq;apply aa.exit;simp;apply aa.ch cF fw [6];simp[Uz];apply aa.ret;have:R=true:=by rw[<-hR];exact decide_eq_true (c7.2 ⟨bU,fJ⟩)
  simp[y9,this]
def ta(n:aD)(x:Input):Prop:=((mY n x.insert/\n.an<=12)/\(n.au.length:Int)<=20)/\M6 x 4 6
instance(n:aD)(x:Input):Decidable (ta n x):=by unfold ta;infer_instance
def t1010(n:aD)(x:Input):bl aj 10 [n.enc,x.enc] (.bool (decide (ta n x))):=by
 obtain⟨R,hR⟩:=bb (decide (ta n x));rw[hR];have t24:=t1024 n x.insert;have t25:=t1025 x 4 6 (by omega);obtain⟨b1,tV⟩:=bb (decide (mY n x.insert));obtain⟨b2,fH⟩:=bb (decide (M6 x 4 6));rw[tV]at t24;rw[fH]at t25;have aC:ay aj (bu [(25,cT (λts=>ts=[x.enc,ti 4,ti 6]) (λ_=>.bool b2) true),(24,cT (λts=>ts=[n.enc,.sl (aG x.insert)]) (λ_=>.bool b1) true)]):=by
  refine ay.cons (ay.cons ay.nil ?_) ?_
  ·rintro ts rfl;exact⟨t24,λ_=>rfl⟩
  ·rintro ts rfl;exact⟨t25,λ_=>rfl⟩
 have hRv:R=(((b1&&decide (n.an<=12))&&decide ((n.au.length:Int)<=20))&&b2):=by
  rw[<-hR,<-tV,<-fH,ZbX,decide_eq_true_iff];simp[ta]
 clear hR tV fH t24 t25;obtain⟨nt,nn,ns,au⟩:=n;obtain⟨cs,b7,sw⟩:=x;have z8:(aU au).length=au.length:=by simp[aU]
 simp only[aD.enc,Input.enc]at aC;simp only at hRv;refine c1010.ok (by simp) (aO ?_);simp[aD.enc,Input.enc];apply aa.ch aC fw [2,3];simp[T7];refine aa.lk (o:=[]) (l:=[(2,.v (.box [ti nt,ti nn,ti ns,.sl (aU au)])),(3,.v (.box [.sl (cY cs),.sl (aG b7),ti sw]))]) (ba:=1200) (by simp) ?_;refine aa.cz aC fw [(4,.v (.bool R))] ?_ ?_
 ·cases b1 with
  |false=>simp[vA,hRv]
  |true=>
   by_cases q2:nn<=12
   ·by_cases q3:(au.length:Int)<=20
    ·have q3':au.length<=20:=by omega
     cases b2 with
     |false=>simp[vA,z8,q2,q3,hRv]
     |true=>simp[vA,z8,q2,q3,hRv]
    ·have q3':¬au.length<=20:=by omega
     simp[vA,z8,q2,q3,hRv]
   ·simp[vA,q2,hRv]
 apply aa.ret;simp[LY]
structure RJ where
 n:aD
 x:Input
 I3:Int
 done:Int
 FO:Bool
abbrev RJ.cells(j:RJ):aK:=[ti j.n.aL,ti j.n.an,ti j.n.start,.sl (aU j.n.au),.sl (cY j.x.aw),.sl (aG j.x.insert),ti j.x.swap,ti j.I3,ti j.done,.bool j.FO]
def RJ.enc(j:RJ):T:=.agg j.cells
abbrev UY:T:=.agg [ti 0,ti 0,ti 0,.sl [],.sl [],.sl [],ti 0,ti 0,ti 0,.bool false]
def PV(n:aD)(x:Input):Prop:=Gj n x.insert/\NH x n.aL
instance(n:aD)(x:Input):Decidable (PV n x):=by unfold PV;infer_instance
def UX(n:aD)(x:Input):PV n x↔zF n x:=by
 have hpr:NH x n.aL->dY n x.insert:=λh=>by
  obtain⟨h1,h2⟩:=h;have hl:(x.insert.length:Int)=n.aL:=by
   by_cases e:(x.insert.length:Int)=n.aL
   ·exact e
   ·exact Zar (.inr (.inr (.inl e))) h1
  refine⟨hl,λi hi=>?_⟩;have:=h2 i (by omega);unfold yJ at this;unfold wX;exact this
 constructor
 ·rintro⟨h1,h2⟩;exact⟨h1.1.1,h2,(MW (hpr h2)).2 h1⟩
 ·rintro⟨_,h2,h3⟩;exact⟨(MW (hpr h2)).1 h3,h2⟩
def uX(n:aD)(x:Input):T:=if PV n x then .eo [RJ.enc ⟨n,x,((pS x*(pS x+1)/2:Nat):Int),0,false⟩,.bool true]else .eo [UY,.bool false]
def t1009(n:aD)(x:Input)(h1:n.au.length<=9223372036854775807)(h2:x.insert.length<=9223372036854775807):bl aj 9 [n.enc,x.enc] (uX n x):=by
 obtain⟨R,hR⟩:=bb (uX n x);rw[hR];unfold uX at hR;have t22':=t22 n x.insert h1 h2;have t28':=λh=>t28 x n.aL h;obtain⟨b1,tV⟩:=bb (decide (Gj n x.insert));obtain⟨b2,fH⟩:=bb (decide (NH x n.aL));rw[tV]at t22';rw[fH]at t28';have ik:b1=true->n.aL<=1000000000000:=λhb=>by
  rw[<-tV]at hb;have:nT n:=(Zat hb).1.1.1;unfold nT at this;omega
 have hc60:b2=true->x.aw.length<=60:=λhb=>by
  rw[<-fH]at hb;have h:=(Zat hb).1;by_cases e:(x.aw.length:Int)>60
  ·exact Zar (.inr (.inl e)) h
  ·omega
 have aC:ay aj (bu [(23,cT (λts=>ts=[x.enc,ti n.aL]/\b1=true) (λ_=>.bool b2) true),(22,cT (λts=>ts=[n.enc,.sl (aG x.insert)]) (λ_=>.bool b1) true)]):=by
  refine ay.cons (ay.cons ay.nil ?_) ?_
  ·rintro ts rfl;exact⟨t22',λ_=>rfl⟩
  ·rintro ts ⟨rfl,hb⟩;exact⟨t28' (ik hb),λ_=>rfl⟩
 have hP:PV n x↔b1=true/\b2=true:=by
  rw[<-tV,<-fH];simp[PV]
 rw[show(if PV n x then T.eo [RJ.enc ⟨n,x,((pS x*(pS x+1)/2:Nat):Int),0,false⟩,.bool true]else .eo [UY,.bool false])=if b1=true/\b2=true then T.eo [RJ.enc ⟨n,x,((pS x*(pS x+1)/2:Nat):Int),0,false⟩,.bool true]else .eo [UY,.bool false]by simp only[hP]]at hR;clear hP ik t22' t28' tV fH;obtain⟨nt,nn,ns,au⟩:=n;obtain⟨cs,b7,sw⟩:=x;simp only[aD.enc,Input.enc]at aC;simp only[RJ.enc,RJ.cells,pS]at hR hc60;refine c1009.ok (by simp) (aO ?_);simp[aD.enc,Input.enc];apply aa.ch aC fw [2,3,4,5];simp[T3];refine aa.lk (o:=[(1005,.box [.v (ti 0),.v (ti 0),.v (ti 0),.aW,.aW,.aW,.v (ti 0),.v (ti 0),.v (ti 0),.v (.bool false)])]) (l:=[(2,.v (.box [ti nt,ti nn,ti ns,.sl (aU au)])),(3,.v (.box [.sl (cY cs),.sl (aG b7),ti sw])),(4,.ptr 1005 0),(5,.v (.bool false))]) (ba:=1200) (by simp) ?_;apply aa.seq;obtain⟨c1,bU⟩:=bb ((!(b1&&b2)):Bool);refine aa.cz aC fw [(2,.v (.box [ti nt,ti nn,ti ns,.sl (aU au)])),(3,.v (.box [.sl (cY cs),.sl (aG b7),ti sw])),(4,.ptr 1005 0),(5,.v (.bool false)),(18,.v (.bool c1))] ?_ ?_
 ·cases b1 with
  |false=>simp[I4,<-bU]
  |true=>cases b2<;>simp[I4,<-bU]
 refine aa.cond rfl (λg=>?_) (λg=>?_)
 ·rw[g]at bU;rw[Zab (by rintro⟨e1,e2⟩;rw[e1,e2]at bU;simp at bU)]at hR;subst hR;apply aa.ch aC fw [4,5];simp[T4];apply aa.ret;simp[E6]
 ·rw[g]at bU;have hb:b1=true/\b2=true:=by simpa using bU
  rw[Zai hb]at hR;subst hR;have hk:=hc60 hb.2;obtain⟨K,hK⟩:=bb cs.length;rw[hK]at hk⊢;have hmul:(2*K+1)*(2*K+1+1)<=121*122:=ZcU (by omega) (by omega);have m1:IntKind.i64.wrap (2*(K:Int))=2*(K:Int):=aF (by omega);have m2:IntKind.i64.wrap (2*(K:Int)+1)=2*(K:Int)+1:=aF (by omega);have m3:IntKind.i64.wrap (2*(K:Int)+1+1)=2*(K:Int)+1+1:=aF (by omega);have hI:(2*(K:Int)+1)*(2*(K:Int)+1+1)=(((2*K+1)*(2*K+1+1):Nat):Int):=by push_cast;rfl
  obtain⟨W,hW⟩:=bb ((2*K+1)*(2*K+1+1));rw[hW]at hI hmul⊢;have m4:IntKind.i64.wrap (W:Int)=(W:Int):=aF (by omega);have m5:IntKind.i64.wrap ((W:Int).tdiv 2)=((W/2:Nat):Int):=by rw[DP (by omega),aF (by omega)];omega
  apply aa.skip;simp;apply aa.ch aC fw [2,3,4,6];simp[T5,hK,m1,m2];apply aa.ch aC fw [4,5];simp[T6,m3,hI,m4];apply aa.ret;simp[E6];exact(aF (by omega)).symm
section
def n0:aD:=⟨1,1,0,[⟨2,0,0,0,2,0⟩]⟩
def x0:Input:=⟨[⟨0,[0],3⟩],[4],0⟩
def n0_new:zF n0 x0:=by decide+kernel
def b0:((nK n0 (ci x0)).getD 2 default).val=⟨2,1⟩:=by decide+kernel
def b0_len:(nK n0 (ci x0)).length=6:=by decide+kernel
def t1021:bl aj 21 [] (.eo [n0.enc,x0.enc]):=by
 refine c1021.ok (by simp) (aO ?_);simp;apply aa.ch cF fw [0,1];simp[Up];apply aa.ch cF fw [0,1];simp[Uq,fU];apply aa.ret;simp[L5,n0,x0,aD.enc,Input.enc,aU,di.enc,cY,cK.enc,aG]
def e0:bq:=λ_=>none
abbrev pT(P R:Nat)(n:aD)(x:Input)(j:JS):bq:=rL e0 P R n (ci x) (pS x) j
def BX{P R:Nat}{n:aD}{x:Input}{j:JS}(h:R<P):dh (pT P R n x j) (P+1):=by
 have hrn:aM [(P,Ob.box (nE n (ci x) (pS x) (.bA R 0) j)),(R,uZ n (ci x) j.pre)] e0 R≠none:=by
  simp only[aP,cm];rw[Zab (by omega)];simp
 refine ll (N:=0) (f:=e0) (λr o h=>by cases h) (by omega) λq hq=>?_;simp only[Zah,Zal,or_false]at hq;rcases hq with rfl|rfl
 ·refine⟨by simp,λm hm=>?_⟩;simp only[nE,aZ,bM,aN,ZaC,ZaG,Zah,Zal,or_false]at hm;rw[hm];exact hrn
 ·exact⟨by simp only;omega,λm hm=>by simp[uZ,aZ]at hm⟩
def qo{P R:Nat}{n:aD}{x:Input}{j:JS}(h:R<P):jat n (ci x) (pS x) j (pT P R n x j) P R:=aaK (j:=j) (by omega) j
def JT{P R:Nat}{n:aD}{x:Input}{j:JS}(h:R<P){k:Nat}(hk:P<k):∀q,k<=q->pT P R n x j q=none:=λq hq=>by
 simp only[pT,rL,aP,cm];rw[Zab (by omega),Zab (by omega)];rfl
def MZ(n:aD)(x:Input)(P R:Nat):aM (newO n x P R) e0=pT P R n x J0:=rfl
section
variable{P R:Nat}{n:aD}{x:Input}{j:JS}
def WQ(h:R<P)(j':JS){q:Nat}(hq:pT P R n x j q=none):pT P R n x j' q=none:=by
 have:=WP (j':=j') (qo (n:=n) (x:=x) (j:=j) h) hq
 rwa [show rL (pT P R n x j) P R n (ci x) (pS x) j'=pT P R n x j' from Hs]at this
def M7(h:R<P)(I:JIn n (ci x) (pS x))(hj:j.ok (pS x))(k:Int):ay aj (bu [(17,eS (k1 [.ptr P 0,.v (ti k)] (pT P R n x j) (.v (ti (u0 (pS x) j k:Nat))) (pT P R n x (j.kc (pS x) (u0 (pS x) j k)))))]):=
 Hd ay.nil (λM hM=>by
  have:=t1017a (k:=k) hM I hj (qo h)
  rwa [show rL (pT P R n x j) P R n (ci x) (pS x) (j.kc (pS x) (u0 (pS x) j k))=pT P R n x (j.kc (pS x) (u0 (pS x) j k))from Hs]at this) (λq hq=>WQ h _ hq)
def UZ(h:R<P):ay aj (bu [(18,eS (k1 [.ptr P 0] (pT P R n x j) (.v (ti (j.left (pS x)))) (pT P R n x j)))]):=
 Hd ay.nil (λM hM=>t1018 hM (qo h).box) (λq hq=>hq)
def one_cancel(h:R<P):ay aj (bu [(14,eS (k1 [.ptr P 0] (pT P R n x j) (.v (.eo [])) (pT P R n x (j.d7 (pS x)))))]):=
 Hd ay.nil (λM hM=>by
  have:=t1014 hM (qo (n:=n) (x:=x) (j:=j) h)
  rwa [show rL (pT P R n x j) P R n (ci x) (pS x) (j.d7 (pS x))=pT P R n x (j.d7 (pS x))from Hs]at this) (λq hq=>WQ h _ hq)
def PW(h:R<P)(hc:j.FO=true\/0<j.left (pS x)):ay aj (bu [(19,eS (k1 [.ptr P 0] (pT P R n x j) (.v (.eo [.agg [ti 0,ti 0,.sl []],ti (if j.FO=true then 12 else 15)])) (pT P R n x j)))]):=
 Hd ay.nil (λM hM=>t1019e hM (qo h).box hc) (λq hq=>hq)
def PX(h:R<P)(h1:j.FO=false)(h2:j.left (pS x)=0):ay aj (bu [(19,eS (k1 [.ptr P 0] (pT P R n x j) (.eo [.agg [.v (ti n.an),.v (ti (ci x).bn),.bA R 0],.v (ti 0)]) (pT P R n x j)))]):=
 Hd ay.nil (λM hM=>t1019d hM (qo h) h1 h2) (λq hq=>hq)
end
def t1008:bl aj 8 [] (.bool true):=by
 have hJ:=n0_new.jin (by decide);have hS:pS x0=3:=rfl;have hj0:J0.ok 3:=J0_ok (by omega);have xN:J0.left 3=6:=by decide+kernel
 have aC:ay aj (bu [(21,cT (λts=>ts=[]) (λ_=>.eo [n0.enc,x0.enc]) false)]):=by
  refine ay.cons ay.nil ?_;rintro ts rfl;exact⟨t1021,λh=>by cases h⟩
 have bT:n0.enc=.agg [ti 1,ti 1,ti 0,.sl (aU n0.au)]:=rfl;have F5:x0.enc=.agg [.sl (cY x0.aw),.sl (aG x0.insert),ti 0]:=rfl;refine c1008.ok (by simp) (aO ?_);simp;apply aa.ch aC fw [0];simp[TZ];apply aa.ch aC fw [0,1,2];simp[T0,bT,F5];refine aa.lk (o:=[]) (l:=[(1,.v (.box [ti 1,ti 1,ti 0,.sl (aU n0.au)])),(2,.v (.box [.sl (cY x0.aw),.sl (aG x0.insert),ti 0]))]) (ba:=1500) (by simp) ?_;refine aa.seq (aa.to ⟨DM.look [(3,.ptr 3623 0)],pT 3623 3619 n0 x0 J0,5000,1000,[]⟩ (aa.YK cF (N':=1575+3000) [3] (pre:=[⟨.load 4 true (.tmp 1),(some 15),none,[],none⟩,⟨.load 3 true (.tmp 2),(some 16),none,[],none⟩]) (post:=[⟨.qu (.tmp 17),(some 3),none,[2,2,0,1,2],none⟩]) (rs:=T1) rfl ?_) ?_)
 ·simp;refine⟨_,t1012v (n:=n0) (x:=x0) (λq _=>rfl) n0_new (by decide), ?_⟩;rintro val nJ ⟨rfl,rfl⟩;exact eO (MZ n0 x0 3623 3619) (JT (by omega) (by omega)) (by simp)
 have WL:3619<3623:=by omega
 have aT:=λj=>BX (n:=n0) (x:=x0) (j:=j) WL;have rQ:=λj=>JT (n:=n0) (x:=x0) (j:=j) WL (k:=5000) (by omega);have s1:u0 (pS x0) J0 4=4:=by unfold u0;rw[Zab (by simp[J0]),hS,xN];rfl
 obtain⟨ha1,qc,ha3⟩:=hj0.kc 4 (by omega);obtain⟨tV,fH,HL⟩:=hj0.kc 6 (by omega);have hab:(J0.kc 3 4).kc 3 2=J0.kc 3 6:=M4 3 J0 4 2;obtain⟨Ja,hJa⟩:=bb (J0.kc 3 4);obtain⟨Jc,hJc⟩:=bb (J0.kc 3 6);rw[hJa]at ha1 qc ha3 hab;rw[hJc]at tV fH HL hab;have qc:Ja.left (pS x0)=2:=by rw[hS];omega
 have fH:Jc.left (pS x0)=0:=by rw[hS];omega
 have ha3:Ja.FO=false:=ha3;have HL:Jc.FO=false:=HL;have s2:u0 (pS x0) Ja 9=2:=by unfold u0;rw[Zab (by simp[ha3]),qc];rfl
 have e1:=M7 WL hJ (j:=J0) (k:=4) hj0;rw[s1,hS,hJa]at e1;have e2:=PW (n:=n0) (x:=x0) WL (j:=Ja) (.inr (by omega));rw[ha3]at e2;have e3:=UZ (n:=n0) (x:=x0) WL (j:=Ja);rw[qc]at e3;have e4:=M7 WL hJ (j:=Ja) (k:=9) (by rw[hS];exact ha1);rw[s2,hS,hab]at e4;have e5:=PX (n:=n0) (x:=x0) WL (j:=Jc) HL fH;simp;apply aa.seq;apply aa.ch cF fw [3,19];simp[T2];apply aa.c0 rfl;apply aa.skip;simp;apply aa.cX e1 fw (rs:=EZ) rfl (by kernel_rfl) [3,4];simp[EZ];refine aa.le (eO (l:=[(3,.ptr 3623 0),(4,.v (ti 4))]) (ba:=5000) rfl (rQ _) (by simp)) ?_;apply aa.cX e2 fw (rs:=E0) rfl (by kernel_rfl) [3,4,5,6];simp[E0];refine aa.le (Kn.le_fr (L:=[(5006,.box [.v (ti 0),.v (ti 0),.v (.sl [])]),(5006,.box [.v (ti 0),.v (ti 0),.aW])]) (l:=[(3,.ptr 3623 0),(4,.v (ti 4)),(6,.v (ti 15))]) (ba:=5000) (aT Ja) (by omega) (by simp) (by omega) ?_) ?_
 ·have:=(qo (n:=n0) (x:=x0) (j:=Ja) WL).box;simp[this]
 apply aa.cX e3 fw (rs:=E3) rfl (by kernel_rfl) [3,4,6,7];simp[E3];refine aa.le (eO (l:=[(3,.ptr 3623 0),(4,.v (ti 4)),(6,.v (ti 15)),(7,.v (ti 2))]) (ba:=5000) rfl (rQ _) (by simp)) ?_;apply aa.cX e4 fw (rs:=E4) rfl (by kernel_rfl) [3,4,6,7,8];simp[E4];refine aa.le (eO (l:=[(3,.ptr 3623 0),(4,.v (ti 4)),(6,.v (ti 15)),(7,.v (ti 2)),(8,.v (ti 2))]) (ba:=5000) rfl (rQ _) (by simp)) ?_;apply aa.cX e5 fw (rs:=E5) rfl (by kernel_rfl) [4,6,7,8,9,10];simp[E5];have tB:Jc.pre=PQ 3:=tV.done (by rw[<-hS];exact fH);have B6:=(qo (n:=n0) (x:=x0) (j:=Jc) WL).dT;rw[show uZ n0 (ci x0) Jc.pre=.dT 0 65 4 (cu (nK n0 (ci x0)))by rw[tB];unfold uZ;rw[PT (S:=3) rfl]]at B6;obtain⟨B,hB⟩:=bb (nK n0 (ci x0));have hB6:=b0_len;have hB2:=b0;rw[hB]at B6 hB6 hB2;have wp:=BO (l:=B) (y:=2) (by omega);obtain⟨⟨ca,cb,cc,cd⟩,gI⟩:=bb (B.getD 2 default);rw[gI]at wp hB2;simp only[Cell.val,c8.mk.injEq]at hB2;obtain⟨rfl,rfl⟩:=hB2;have hcl6:(cu B).length=6:=by simp[cu,hB6]
 refine aa.le (eO (nJ:=aM [(5010,.box [.v (ti 1),.v (ti 3),.bA 3619 0]),(5010,.box [.v (ti 0),.v (ti 0),.aW])] (pT 3623 3619 n0 x0 Jc)) (l:=[(4,.v (ti 4)),(6,.v (ti 15)),(7,.v (ti 2)),(8,.v (ti 2)),(9,.ptr 5010 0),(10,.v (ti 0))]) (ba:=5075) rfl (λq hq=>by
  rw[aP,Zab (by omega),aP,Zab (by omega)];exact rQ Jc q (by omega)) (by simp)) ?_
 refine aa.cz cF fw [(0,.v (.bool true))] ?_ ?_
 ·have wp:DM.rowAt (cu B) 2=_:=wp;simp[LW,B6,hcl6,wp,Cell.enc]
 apply aa.ret;simp[LX]
end
def ta.b7{n:aD}{x:Input}(h:ta n x):x.insert.length<=6/\x.aw.length<=4:=by
 have:=h.2.1;omega
def okLaw(n:aD)(x:Input)(h1:n.au.length<=9223372036854775807)(h2:x.insert.length<=9223372036854775807){b:Bool}(hb:decide (ta n x)=b):
  ay aj (bu [(10,cT (λts=>ts=[n.enc,x.enc]) (λ_=>.bool b) true),(9,cT (λts=>ts=[n.enc,x.enc]) (λ_=>uX n x) false),(8,cT (λts=>ts=[]) (λ_=>.bool true) true)]):=by
 refine ay.cons (ay.cons (ay.cons ay.nil ?_) ?_) ?_
 ·rintro ts rfl;exact⟨t1008,λ_=>rfl⟩
 ·rintro ts rfl;exact⟨t1009 n x h1 h2,λh=>by cases h⟩
 ·rintro ts rfl;rw[<-hb];exact⟨t1010 n x,λ_=>rfl⟩
def refNew_t{n:aD}{x:Input}(h:zF n x):uX n x=.eo [RJ.enc ⟨n,x,((pS x*(pS x+1)/2:Nat):Int),0,false⟩,.bool true]:=by
 unfold uX;rw[Zai ((UX n x).2 h)]
def refNew_f{n:aD}{x:Input}(h:¬zF n x):uX n x=.eo [UY,.bool false]:=by
 unfold uX;rw[Zab (λe=>h ((UX n x).1 e))]
def J0_left(S:Nat)(h:1<=S):J0.left S=S*(S+1)/2:=by
 have:=(J0_ok h).total;have h3:=aaL S;have h5:J0.pre.length=0:=rfl;omega
def t1006(n:aD)(x:Input)(k:Int)(h1:n.au.length<=9223372036854775807)(h2:x.insert.length<=9223372036854775807)(k0:0<=k)(k1:k<=255):bl aj 6 [n.enc,x.enc,.int .u8 k] (.bool true):=by
 obtain⟨b,hb⟩:=bb (decide (ta n x));have aC:=okLaw n x h1 h2 hb;have bT:n.enc=.agg [ti n.aL,ti n.an,ti n.start,.sl (aU n.au)]:=rfl;have F5:x.enc=.agg [.sl (cY x.aw),.sl (aG x.insert),ti x.swap]:=rfl;rw[bT,F5]at aC;refine c1006.ok (by simp) (aO ?_);simp[bT,F5];apply aa.ch aC fw [2,3,4];simp[d1006r0];refine aa.lk (o:=[]) (l:=[(2,.v (.int .u8 k)),(3,.v (.box [ti n.aL,ti n.an,ti n.start,.sl (aU n.au)])),(4,.v (.box [.sl (cY x.aw),.sl (aG x.insert),ti x.swap]))]) (ba:=1200) (by simp) ?_;apply aa.seq;apply aa.ch aC fw [2,3,4,15];simp[d1006r1];apply aa.c0 rfl;apply aa.skip;simp;by_cases hp:zF n x
 ·rw[refNew_t hp]at aC;simp only[RJ.enc,RJ.cells]at aC;obtain⟨s0,hs0⟩:=bb (pS x*(pS x+1)/2);rw[hs0]at aC;apply aa.ch aC fw [2,3,4,7,8];simp[LZ];refine aa.lk (o:=[]) (l:=[(2,.v (.int .u8 k)),(3,.v (.box [ti n.aL,ti n.an,ti n.start,.sl (aU n.au)])),(4,.v (.box [.sl (cY x.aw),.sl (aG x.insert),ti x.swap])),(7,.v (.box [ti n.aL,ti n.an,ti n.start,.sl (aU n.au),.sl (cY x.aw),.sl (aG x.insert),ti x.swap,ti s0,ti 0,.bool false])),(8,.v (.bool true))]) (ba:=1500) (by simp) ?_;apply aa.seq;apply aa.ch aC fw [2,3,4,7,29];simp[aaJ];refine aa.cond rfl (λg=>?_) (λg=>?_)
  ·apply aa.ch aC fw [6];simp[aaO];apply aa.ret;simp[qb]
  have g:b=true:=by simpa using g
  rw[g]at hb;have hs:=Zat hb;have h6:=hs.b7.1;have hJ:=hp.jin (by omega);have hj0:J0.ok (pS x):=J0_ok hJ.tF;have xN:J0.left (pS x)=s0:=by rw[<-hs0];exact J0_left _ hJ.tF
  apply aa.skip;simp;have WL:(3641:Nat)<3645:=by omega
  refine aa.le (Le.same (l:=[(2,.v (.int .u8 k)),(3,.v (.box [ti n.aL,ti n.an,ti n.start,.sl (aU n.au)])),(4,.v (.box [.sl (cY x.aw),.sl (aG x.insert),ti x.swap])),(7,.v (.box [ti n.aL,ti n.an,ti n.start,.sl (aU n.au),.sl (cY x.aw),.sl (aG x.insert),ti x.swap,ti s0,ti 0,.bool false]))]) (ba:=1500) (λq _=>rfl) (by simp)) ?_;refine aa.seq (aa.to ⟨DM.look [(2,.v (.int .u8 k)),(7,.v (.box [ti n.aL,ti n.an,ti n.start,.sl (aU n.au),.sl (cY x.aw),.sl (aG x.insert),ti x.swap,ti s0,ti 0,.bool false])),(9,.ptr 3645 0)],pT 3645 3641 n x J0,5000,1000,[]⟩ (aa.YK cF (N':=1597+3000) [2,7,9] (pre:=[⟨.load 4 true (.tmp 3),(some 30),none,[],none⟩,⟨.load 3 true (.tmp 4),(some 31),none,[],none⟩]) (post:=[⟨.qu (.tmp 32),(some 9),none,[2,2,0,1,2],none⟩]) (rs:=d1006r6) rfl ?_) ?_)
  ·simp;refine⟨_,t1012v (n:=n) (x:=x) (λq _=>rfl) hp (by omega), ?_⟩;rintro val nJ ⟨rfl,rfl⟩;exact eO (MZ n x 3645 3641) (JT (by omega) (by omega)) (by simp)
  have aT:=λj=>BX (n:=n) (x:=x) (j:=j) WL;have rQ:=λj=>JT (n:=n) (x:=x) (j:=j) WL (k:=5000) (by omega);obtain⟨m,hm⟩:=bb (u0 (pS x) J0 k);have QD:m<=s0:=by
   rw[<-hm];unfold u0;split
   ·omega
   ·rw[xN];omega
  have NX:m<s0->(m:Int)=k:=by
   intro h;rw[<-hm]at h⊢;unfold u0 at h⊢;split at h
   ·rename_i g;rw[Zai g];simp[J0]at g;omega
   ·rename_i g;rw[Zab g,xN]at*
    omega
  obtain⟨ha1,qc,ha3⟩:=hj0.kc m (by omega);obtain⟨Ja,hJa⟩:=bb (J0.kc (pS x) m);rw[hJa]at ha1 qc ha3;have ha3:Ja.FO=false:=ha3;have e1:=M7 WL hJ (j:=J0) (k:=k) hj0;rw[hm,hJa]at e1;have e2:=one_cancel (n:=n) (x:=x) WL (j:=Ja);have w1:IntKind.i64.wrap k=k:=aF (by omega);apply aa.cX e1 fw (rs:=v7) rfl (by kernel_rfl) [2,7,9,10];simp[v7,w1];refine aa.le (eO (l:=[(2,.v (.int .u8 k)),(7,.v (.box [ti n.aL,ti n.an,ti n.start,.sl (aU n.au),.sl (cY x.aw),.sl (aG x.insert),ti x.swap,ti s0,ti 0,.bool false])),(9,.ptr 3645 0),(10,.v (ti m))]) (ba:=5000) rfl (rQ _) (by simp)) ?_;apply aa.cX e2 fw (rs:=v8) rfl (by kernel_rfl) [2,7,9,10];simp[v8];refine aa.le (eO (l:=[(2,.v (.int .u8 k)),(7,.v (.box [ti n.aL,ti n.an,ti n.start,.sl (aU n.au),.sl (cY x.aw),.sl (aG x.insert),ti x.swap,ti s0,ti 0,.bool false])),(9,.ptr 3645 0),(10,.v (ti m))]) (ba:=5000) rfl (rQ _) (by simp)) ?_;by_cases hms:m=s0
  ·have hl:Ja.left (pS x)=0:=by omega
   have cR:Ja.d7 (pS x)=Ja:=by unfold JS.d7;rw[Zai hl]
   rw[cR];have e3:=PX (n:=n) (x:=x) WL (j:=Ja) ha3 hl;have e4:=UZ (n:=n) (x:=x) WL (j:=Ja);rw[hl]at e4;apply aa.cX e3 fw (rs:=k9) rfl (by kernel_rfl) [2,7,9,10,12];simp[k9];refine aa.le (Kn.le_fr (L:=[(5012,.box [.v (ti n.an),.v (ti (ci x).bn),.bA 3641 0]),(5012,.box [.v (ti 0),.v (ti 0),.aW])]) (l:=[(2,.v (.int .u8 k)),(7,.v (.box [ti n.aL,ti n.an,ti n.start,.sl (aU n.au),.sl (cY x.aw),.sl (aG x.insert),ti x.swap,ti s0,ti 0,.bool false])),(9,.ptr 3645 0),(10,.v (ti m)),(12,.v (ti 0))]) (ba:=5000) (aT Ja) (by omega) (by simp) (by omega) ?_) ?_
   ·have:=(qo (n:=n) (x:=x) (j:=Ja) WL).box;simp[this]
   apply aa.seq;apply aa.ch cF fw [2,7,9,10,12,47];simp[zb,hms];apply aa.c1 rfl;apply aa.cX e4 fw (rs:=qd) rfl (by kernel_rfl) [6];simp[qd];apply aa.ret;simp[qb]
  ·have hmk:=NX (by omega);have hl:Ja.left (pS x)=s0-m:=by omega
   have Xj:0<s0-m:=by omega
   obtain⟨Jb,hJb⟩:=bb (Ja.d7 (pS x));have Ox:Jb.left (pS x)=s0-m:=by rw[<-hJb,cancel_left];exact hl
   have hbc:Jb.FO=true:=by rw[<-hJb];unfold JS.d7;rw[Zab (by omega)]
   have Bv:Jb.ok (pS x):=by rw[<-hJb];exact ha1.d7
   rw[hJb];have e3:=PW (n:=n) (x:=x) WL (j:=Jb) (.inl hbc);rw[hbc]at e3;have e4:=UZ (n:=n) (x:=x) WL (j:=Jb);rw[Ox]at e4;apply aa.cX e3 fw (rs:=k9) rfl (by kernel_rfl) [2,7,9,10,11,12];simp[k9];refine aa.le (Kn.le_fr (L:=[(5012,.box [.v (ti 0),.v (ti 0),.v (.sl [])]),(5012,.box [.v (ti 0),.v (ti 0),.aW])]) (l:=[(2,.v (.int .u8 k)),(7,.v (.box [ti n.aL,ti n.an,ti n.start,.sl (aU n.au),.sl (cY x.aw),.sl (aG x.insert),ti x.swap,ti s0,ti 0,.bool false])),(9,.ptr 3645 0),(10,.v (ti m)),(11,.v (.box [ti 0,ti 0,.sl []])),(12,.v (ti 12))]) (ba:=5000) (aT Jb) (by omega) (by simp) (by omega) ?_) ?_
   ·have:=(qo (n:=n) (x:=x) (j:=Jb) WL).box;simp[this];exact bL (l:=[]) (aT Jb) (by omega) (by simp)
   apply aa.seq;apply aa.ch cF fw [2,7,9,10,11,12,47];have hsm:¬(s0:Int)<=(m:Int):=by omega
   simp[zb,hsm];have hsm':¬s0<=m:=by omega
   refine aa.cond rfl (λg=>by simp[]at g) (λ_=>?_);apply aa.skip;simp;refine aa.le (eO (l:=[(2,.v (.int .u8 k)),(7,.v (.box [ti n.aL,ti n.an,ti n.start,.sl (aU n.au),.sl (cY x.aw),.sl (aG x.insert),ti x.swap,ti s0,ti 0,.bool false])),(9,.ptr 3645 0),(10,.v (ti m)),(11,.v (.box [ti 0,ti 0,.sl []])),(12,.v (ti 12))]) (ba:=6000) rfl (λq hq=>rQ Jb q (by omega)) (by simp)) ?_;apply aa.cX e4 fw (rs:=qh) rfl (by kernel_rfl) [2,7,9,10,11,12,13];simp[qh];have s5:u0 (pS x) Jb 100=0:=by unfold u0;rw[Zai (.inr hbc)]
   have e5:ay aj (bu [(17,eS (cC.k1 [.ptr 3645 0,.v (ti 100)] (pT 3645 3641 n x Jb) (.v (ti 0)) (pT 3645 3641 n x Jb))),(18,eS (cC.k1 [.ptr 3645 0] (pT 3645 3641 n x Jb) (.v (ti ((s0-m:Nat):Int))) (pT 3645 3641 n x Jb)))]):=
    Hd e4 (λM hM=>by
     have:=t1017a (k:=100) hM hJ Bv (qo WL);rw[s5]at this
     rwa [show rL (pT 3645 3641 n x Jb) 3645 3641 n (ci x) (pS x) (Jb.kc (pS x) 0)=pT 3645 3641 n x Jb from Hs]at this) (λq hq=>hq)
   have w2:IntKind.i64.wrap ((s0:Int)-k)=((s0-m:Nat):Int):=by
    have:=hJ.len;have h3:=aaL (pS x);rw[aF (by omega)];omega
   apply aa.cX e5 fw (rs:=v6) rfl (by kernel_rfl) [6];simp[v6,w1,w2,hmk];apply aa.ret;simp[qb]
 ·rw[refNew_f hp]at aC;apply aa.ch aC fw [2,3,4,7,8];simp[LZ,UY];apply aa.seq;apply aa.ch aC fw [29];simp[aaJ];refine aa.cond rfl (λg=>?_) (λg=>by simp at g);apply aa.ch aC fw [6];simp[aaO];apply aa.ret;simp[qb]
end Jb
open Go.DM Go.ChangeShapes Go.Deep
section
variable{W:World}
def ruleTy:Ty:=.seq [.int .i64,.int .i64,.int .i64,.int .i64,.int .i64,.int .i64]
def F1:Ty:=.seq [.int .i64,.int .i64,.int .i64,.slice ruleTy]
def rule_of{ts:aK}(h:ruleTy.pO ts):∃r:di,ts=r.enc:=by
 obtain⟨_,_,rfl,h1,h⟩:=all_cons (seq_of h);obtain⟨_,_,rfl,h2,h⟩:=all_cons h;obtain⟨_,_,rfl,h3,h⟩:=all_cons h;obtain⟨_,_,rfl,h4,h⟩:=all_cons h;obtain⟨_,_,rfl,h5,h⟩:=all_cons h;obtain⟨_,_,rfl,h6,h⟩:=all_cons h;obtain rfl:=CR h;obtain⟨a,rfl⟩:=lT h1;obtain⟨b,rfl⟩:=lT h2;obtain⟨c,rfl⟩:=lT h3;obtain⟨d,rfl⟩:=lT h4;obtain⟨e,rfl⟩:=lT h5;obtain⟨f,rfl⟩:=lT h6;exact⟨⟨a,b,c,d,e,f⟩,rfl⟩
def W7{x:T}(h:F1.arg x):∃z:aD,x=z.enc/\z.au.length<=9223372036854775807:=by
 unfold F1 Ty.arg at h;obtain⟨ts,rfl,h⟩:=h;obtain⟨_,_,rfl,n1,h1⟩:=all_cons h;obtain⟨_,_,rfl,n2,h1⟩:=all_cons h1;obtain⟨_,_,rfl,n3,h1⟩:=all_cons h1;obtain⟨_,_,rfl,n4,h1⟩:=all_cons h1;obtain rfl:=CR h1;obtain⟨nt,rfl⟩:=lT n1;obtain⟨nn,rfl⟩:=lT n2;obtain⟨ns,rfl⟩:=lT n3;obtain⟨au,rfl,hr⟩:=zg (λr=>rule_of) n4;exact⟨⟨nt,nn,ns,au⟩,rfl,hr⟩
abbrev Vd:List (String×DataW Unit):=[("emendate/chart.none",.agg [.agg [.lit (.int .i64 1099511627776),.lit (.int .i64 0)],.lit (.int .i64 (-1)),.lit (.int .i64 0)])]
def gNone:aj.globalNamed "emendate/chart.none" =some 0:=by kernel_rfl
def tNone:(aj.globals[0]?).map (·.type)=some 65:=by kernel_rfl
def uCell:aj.underlying 65=some (.struct #[⟨"Value",63,0,false, "", "",0⟩,⟨"Rule",3,2,false, "", "",16⟩,⟨"Arg",3,3,false, "", "",24⟩]):=by kernel_rfl
def uVal:aj.underlying 63=some (.struct #[⟨"Cost",3,0,false, "", "",0⟩,⟨"Size",3,1,false, "", "",8⟩]):=by kernel_rfl
def uInt:aj.underlying 3=some (.int .i64):=by kernel_rfl
def cells65:aj.cellsOf 65=4:=by kernel_rfl
def cells63:aj.cellsOf 63=2:=by kernel_rfl
def cells3:aj.cellsOf 3=1:=by kernel_rfl
def cs4{cs:List Value}(h:cs.length=4):∃a b c d,cs=[a,b,c,d]:=by
 match cs,h with
 |[a,b,c,d],_=>exact⟨a,b,c,d,rfl⟩
def of_laid(h:laidMet aj Vd W):W.cell? ⟨0,0,none⟩=some (.int .i64 1099511627776)/\W.cell? ⟨0,1,none⟩=some (.int .i64 0)/\W.cell? ⟨0,2,none⟩=some (.int .i64 (-1))/\W.cell? ⟨0,3,none⟩=some (.int .i64 0):=by
 obtain⟨ps,⟨g,t,cs,qa,p,q,hg,ht,hv,hd,_,_⟩,_⟩:=h;obtain rfl:=ZbU (gNone.symm.trans hg);obtain rfl:=ZbU (tNone.symm.trans ht);obtain⟨y0,y1,y2,n,ex,hl,e0,e1,e2⟩:=trod_struct3 uCell hd;rw[cells65]at hl;obtain⟨v0,v1,v2,v3,oj⟩:=cs4 hl;rw[oj]at e0 e1 e2;obtain⟨z0,z1,m,ey,Bl,f0,f1⟩:=trod_struct2 uVal e0;simp only[cells63,cells3,Zcn,Zcf,List.take_zero,List.drop_succ_cons]at e1 e2 f0 f1;obtain⟨i1,r1,rfl,_⟩:=DataW.trod_int uInt e1;obtain⟨i2,r2,rfl,_⟩:=DataW.trod_int uInt e2;obtain⟨i3,r3,rfl,_⟩:=DataW.trod_int uInt f0;obtain⟨i4,r4,rfl,_⟩:=DataW.trod_int uInt f1;subst ey;have ex:=(congrArg Prod.fst ex).symm;simp only[DataW.agg.injEq,Za1,DataW.lit.injEq,Lit.int.injEq,and_true,true_and,Za1]at ex r1 r2 r3 r4;obtain⟨⟨rfl,rfl⟩,rfl,rfl⟩:=ex;subst r1 r2 r3 r4;have hc:cs= #[.int .i64 1099511627776,.int .i64 0,.int .i64 (-1),.int .i64 0]:=by
  apply Array.toList_inj.1;rw[oj]
 subst hc;exact⟨World.var?_cell hg hv 0,World.var?_cell hg hv 1,World.var?_cell hg hv 2,World.var?_cell hg hv 3⟩
def laidOk(h:laidMet aj Vd W):F2 W λ_=>False:=by
 obtain⟨h0,h1,h2,h3⟩:=of_laid h;intro p hp;obtain rfl:p=_:=Zan.1 hp;refine⟨(QJ h0).1,λx=>x, ?_⟩;simp only[ed,bj,and_true,Zbi,Nat.reduceAdd];exact⟨⟨_,h0,rfl,rfl⟩,⟨_,h1,rfl,rfl⟩,⟨_,h2,rfl,rfl⟩,⟨_,h3,rfl,rfl⟩⟩
end
end cC
end Go.Proofs
