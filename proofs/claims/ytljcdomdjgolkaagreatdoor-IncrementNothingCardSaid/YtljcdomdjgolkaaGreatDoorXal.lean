/- Part of the proof. Conditions: none. -/
import Derived.Test.YtljcdomdjgolkaaGreatDoorXak
import Derived.Test.YtljcdomdjgolkaaGreatDoorXae
import Derived.Test.YtljcdomdjgolkaaGreatDoorXai
import Derived.Test.YtljcdomdjgolkaaGreatDoorXac
import Derived.Test.YtljcdomdjgolkaaGreatDoorXag
set_option linter.unusedSectionVars false
set_option linter.unusedSimpArgs false
set_option linter.unusedVariables false
set_option maxHeartbeats 40000000
set_option maxRecDepth 20000
namespace Go.Proofs
namespace cu
open Go.DM
def fG(p N:Nat)(r:bC)(k:Int)(w:br):List (Nat×Ob):=[(N+1058,cP r),(N+1057,.box [.v (ti k)]),(N+55,lE w),(N+3,.box [.ptr p 0]),(N+5,.box [.v (ti 0),.v (ti 0),.v (ti 0),.v (ti 0)])]
def NP(z:dc)(best:List br)(w:br)(r:bC)(k:Int)(x:Cell):Cell:=match IZ z best w r with
 |some i=>⟨w.cost,w.size,k,i.1⟩
 |none=>x
theorem I9{z:dc}(H:P4 z){k0:P3}{f0:aU}{p N:Nat}{st:eo}(bd:dO f0 N)(hv:(⟨k0,z,st⟩:SV).at f0 p)(W:WF z.n.an.toNat st){r:bC}(hr:r∈z.n.rules){k:Int}{x:Cell}{w:br}{D:DV}(hD:B3 D r):
  aY Tryz.prog 57 [.ptr p 0,D,.mu (.func 90) [.ptr (N+3) 0,.ptr (N+55) 0,.ptr (N+1057) 0,.ptr (N+105) 0]] (over ((N+105,ca x)::fG p N r k w) f0)
   ⟨True,.v (.eF []),over ((N+105,ca (NP z st.best w r k x))::fG p N r k w) f0⟩:=by
 have jS:=H.K.hn.2.2.2 r hr;have uE:=(bd _ _ hv.sp).1;have p8:=H.K.ft;have iY:=H.C.tm;have hL:∀(y:Cell),∀q∈((N+105,ca y)::fG p N r k w),N<=q.1:=by intro y;simp[fG]
 have dI:∀y,(⟨k0,z,st⟩:SV).at (over ((N+105,ca y)::fG p N r k w) f0) p:=λy=>hv.over bd (hL y);have hCl:∀y,dO (over ((N+105,ca y)::fG p N r k w) f0) (N+2000):=λy=>by
  refine rV bd (by omega) λq hq=>?_;simp only[fG,Zag,Zap,or_false]at hq;rcases hq with rfl|rfl|rfl|rfl|rfl|rfl
  ·exact⟨by simp only;omega,λm hm=>by simp[ca,bF,bJ,names]at hm⟩
  ·exact⟨by simp only;omega,λm hm=>by simp[cP,bF,bJ,names]at hm⟩
  ·exact⟨by simp only;omega,λm hm=>by simp[bF,bJ,names]at hm⟩
  ·exact⟨by simp only;omega,λm hm=>by simp[lE,bF,bJ,names]at hm⟩
  ·refine⟨by simp only;omega,λm hm=>?_⟩;simp only[bF,bJ,names,ZaJ,Zag,Zap,or_false]at hm;subst hm;rw[(dI y).sp];simp
  ·exact⟨by simp only;omega,λm hm=>by simp[bF,bJ,names]at hm⟩
 have uB:∀(y y':Cell) r',over ((N+105,ca y)::fG p N r k w) f0 r'=none->over ((N+105,ca y')::fG p N r k w) f0 r'=none:=by
  intro y y' r' h;rw[bL]at h⊢;split at h
  ·cases h
  ·rename_i h1;rw[if_neg h1];exact h
 have nL:∀y y',over [(N+105,ca y')] (over ((N+105,ca y)::fG p N r k w) f0)=over ((N+105,ca y')::fG p N r k w) f0:=λy y'=>by
  rw[we];exact I7 _ _ _ _ _
 have call:∀(y:Cell) (i:eD),i∈bO z r->∀N',(∀r',N'<=r'->over ((N+105,ca y)::fG p N r k w) f0 r'=none)->
   aY Tryz.prog 90 ([.v (ti i.1),.v (ti i.2.1),iR i.2.2]++kc [N+3,N+55,N+1057,N+105]) (over ((N+105,ca y)::fG p N r k w) f0)
    ⟨True,.v (.bool (!decide (nY z st.best i=w))),over ((N+105,ca (if nY z st.best i=w then⟨w.cost,w.size,k,i.1⟩else y))::fG p N r k w) f0⟩:=λy i hi N' NN=>by
  have:=t90 (i:=i) (sB:=N+3) (vB:=N+55) (iB:=N+1057) (cB:=N+105) (w:=w) (k:=k) (x:=y) NN (dI y) (by simp[fG]) (by simp[fG]) (by simp[fG]) (by simp) (xS H.K H.cf W hr hi);rw[nL]at this;by_cases e:nY z st.best i=w
  ·simpa [e]using this
  ·simpa [e]using this
 have caps:B4 [N+3,N+55,N+1057,N+105] (over ((N+105,ca x)::fG p N r k w) f0):=by
  intro q hq;simp only[Zag,Zap,or_false]at hq;rcases hq with rfl|rfl|rfl|rfl
  ·exact⟨_,by simp[fG];rfl⟩
  ·exact⟨_,by simp[fG,lE];rfl⟩
  ·exact⟨_,by simp[fG];rfl⟩
  ·exact⟨_,by simp[ca];rfl⟩
 unfold NP;cases hp:IZ z st.best w r with
 |none=>
  have bG:∀i∈bO z r,nY z st.best i≠w:=λi hi=>by
   have:=Zcy.1 hp i hi;simpa using this
  refine t57 (k:=k0) (z:=z) (N:=N+2000) (r:=r) (caps:=[N+3,N+55,N+1057,N+105]) (F:=λ_=>over ((N+105,ca x)::fG p N r k w) f0) (B:=λ_=>true) (m:=(bO z r).length) ⟨λ_ _=>⟨_,dI x⟩,λ_ _=>hCl x⟩ ⟨λj i hi _ N' NN=>?_,λ_ _ _ h=>h,λ_ _=>rfl,.inl rfl⟩ H.I0.mono H.K.hl.2.2.1 (by omega) ⟨jS.2.2.1,jS.2.2.2.1⟩ H.K.hl.2.2.2 caps hD;have h1:=call x i (Zaq hi) N' NN;have h2:=bG i (Zaq hi);simpa [h2]using h1
 |some i=>
  obtain⟨hi1,idx,hidx,pj,cW⟩:=Zcr.1 hp;have hi1:nY z st.best i=w:=by simpa using hi1
  have e0:(λj=>over ((N+105,ca (if idx<j then⟨w.cost,w.size,k,i.1⟩else x))::fG p N r k w) f0) 0=over ((N+105,ca x)::fG p N r k w) f0:=by simp
  have e1:(λj=>over ((N+105,ca (if idx<j then⟨w.cost,w.size,k,i.1⟩else x))::fG p N r k w) f0) (idx+1)=over ((N+105,ca ⟨w.cost,w.size,k,i.1⟩)::fG p N r k w) f0:=by simp
  rw[<-e0]at caps⊢;simp only;rw[<-e1];refine t57 (k:=k0) (z:=z) (N:=N+2000) (r:=r) (caps:=[N+3,N+55,N+1057,N+105]) (F:=λj=>over ((N+105,ca (if idx<j then⟨w.cost,w.size,k,i.1⟩else x))::fG p N r k w) f0) (B:=λj=>decide (j≠idx)) (m:=idx+1) ⟨λ_ _=>⟨_,dI _⟩,λ_ _=>hCl _⟩ ⟨λj i' nj hj N' NN=>?_,λ_ _ _ h=>uB _ _ _ h,λj hj=>?_,.inr ⟨by omega,by omega,by simp⟩⟩ H.I0.mono H.K.hl.2.2.1 (by omega) ⟨jS.2.2.1,jS.2.2.2.1⟩ H.K.hl.2.2.2 caps hD
  ·have W0:¬idx<j:=by omega
   simp only[W0,if_false]at NN⊢;have h1:=call x i' (Zaq nj) N' NN;by_cases e:j=idx
   ·subst e;rw[Zan hidx,pj]at nj;cases nj;simpa [hi1]using h1
   ·have h2:=cW j (by omega);have Mz:j<(bO z r).length:=by omega
    rw[Zan Mz]at nj;cases nj;have h3:¬idx<j+1:=by omega
    have h4:nY z st.best (bO z r)[j]≠w:=by simpa using h2
    simpa [h4,e,h3]using h1
  ·have:j≠idx:=by omega
   simpa using this
def lT(p N:Nat)(w:br):List (Nat×Ob):=[(N+55,lE w),(N+3,.box [.ptr p 0]),(N+5,.box [.v (ti 0),.v (ti 0),.v (ti 0),.v (ti 0)])]
theorem Cx{z:dc}{best:List br}{h:Int}{x:Cell}{k:Nat}{r:bC}(hr:z.n.rules.getD k default=r):jr z best h x k=if r.head≠h\/(bv best h).cost>=1099511627776\/x.ez>=0 then x else NP z best (bv best h) r k x:=by
 unfold jr NP;rw[hr];rfl
theorem Wa{f0:aU}{N p:Nat}{nxt nxt':Nat}{tm:Nat->DV}{l:List (Nat×DV)}{cs:List DV}{r:bC}{k:Int}{w:br}{x:Cell}(bd:dO f0 N)(hp:f0 p=some (.box cs))(hM:N+106<=nxt')(iY:gm (over ((N+105,ca x)::fG p N r k w) f0) (over ((N+105,ca x)::lT p N w) f0) id tm l):
  Le ⟨tm,over ((N+105,ca x)::fG p N r k w) f0,nxt,N,[]⟩ ⟨DM.look l,over ((N+105,ca x)::lT p N w) f0,nxt',N,[]⟩:=by
 have uE:=(bd _ _ hp).1;have np:∀k,p≠N+k:=λk=>by omega
 refine Le.fp bd (by omega) ?_ ?_ ?_ iY
 ·simp[lT];omega
 ·simp[bZ,fG,lT]
 ·simp[gP,il,fG,lT,ca,lE,np,hp]
theorem t63{f0:aU}{p N h:Nat}{z:dc}(H:P4 z){k0:P3}{st:eo}(hN:∀r,N<=r->f0 r=none)(hv:(⟨k0,z,st⟩:SV).at f0 p)(W:WF z.n.an.toNat st)(hh:h<z.n.an.toNat):
  aY Tryz.prog 63 [.ptr p 0,.v (ti h)] f0 ⟨True,.v (.agg (gv z st.best h).enc),f0⟩:=by
 obtain⟨R,hR⟩:∃R,gv z st.best h=R:=⟨_,rfl⟩;rw[hR];refine c63.uC hN (by simp) λbd=>?_;have uO:=hv.sp;have xq:=hv.rb;simp only[uD,Dz]at uO xq;have uE:=(bd _ _ hv.sp).1;have WE:=(bd _ _ hv.rb).1;simp only at WE;have np:∀k,p≠N+k:=λk=>by omega
 have nb:∀k,k0.rb≠N+k:=λk=>by omega
 have hhb:h<st.best.length:=by rw[W.lb];exact hh
 have rr:=dP hhb;obtain⟨w,hw⟩:∃w,st.best.getD h default=w:=⟨_,rfl⟩;rw[hw]at rr;have hbv:bv st.best h=w:=hw;have hnn:=H.K.hn;simp;refine aa.ab ed fw [1,2,4] ?_;simp[adl,Nat.add_assoc];refine aa.ab ed fw [1,2,4,5] ?_;simp[adm,uO,xq,np,nb,hhb,rr,Nat.add_assoc];refine aa.ab ed fw [1,2,4,5,6] ?_;simp[adn,Nat.add_assoc];refine aa.seq ?_;refine aa.ab ed fw [1,2,4,5,6,21,22,23] ?_;simp[ado,uO,np,Nat.add_assoc];have eT:over [(N+105,Ob.box [.v (ti 1099511627776),.v (ti 0),.v (ti (-1)),.v (ti 0)]),(N+105,Ob.box [.v (ti 0),.v (ti 0),.v (ti 0),.v (ti 0)]),(N+55,Ob.box [.v (ti w.cost),.v (ti w.size)]),(N+55,Ob.box [.v (ti 0),.v (ti 0)]),(N+5,Ob.box [.v (ti 0),.v (ti 0),.v (ti 0),.v (ti 0)]),(N+3,Ob.box [.ptr p 0])] f0=over ((N+105,ca fc)::lT p N w) f0:=by
  funext q;simp only[bL,eN,lT,lE,ca,fc]
  (repeat' split)<;>first|rfl|omega
 rw[eT];refine aa.block ?_;have lQ:∀(L:List (Nat×Ob)) M,N<=M->(∀q∈L,q.1<M)->∀r,M<=r->over L f0 r=none:=λL M hM hL r hr=>by
  rw[ej λo h=>by have:=hL _ h;simp only at this;omega];exact hN r (by omega)
 refine aa.loop (λk:Nat=>⟨DM.look [(1,.v (ti h)),(2,.ptr (N+3) 0),(4,.ptr (N+5) 0),(5,.ptr (N+55) 0),(6,.ptr (N+105) 0),(21,.v (.sl (aS z.n.rules))),(22,.v (ti z.n.rules.length)),(23,.v (ti k))],over ((N+105,ca (mb z st.best h k))::lT p N w) f0,N+1000,N,[]⟩)
  (λk=>k<=z.n.rules.length) (λk=>z.n.rules.length-k) 0 (Le.same (lQ _ _ (by omega) (by simp[lT])) (by simp[fQ])) (by omega) (λk hk=>?_)
 obtain⟨x,hx⟩:∃x,mb z st.best h k=x:=⟨_,rfl⟩;rw[hx];refine aa.ab ed fw [1,2,4,5,6,21,22,23,24] ?_;simp[adp];refine aa.seq ?_;refine aa.cond rfl (λg=>?_) (λg=>?_)
 ·have g:k<z.n.rules.length:=by simpa using g
  have rk:=fT g;have hrm:z.n.rules.getD k default∈z.n.rules:=bw g;have mC:=wa z st.best h k;have w2:IntKind.i64.wrap ((k:Int)+1)=((k+1:Nat):Int):=by rw[au (by have:=hnn.2.2.1;omega)];omega
  obtain⟨r,hr⟩:∃r,z.n.rules.getD k default=r:=⟨_,rfl⟩;rw[hr]at rk hrm;rw[Cx hr,hx,hbv]at mC;have yg:=λD hD=>I9 (k:=k) (x:=x) (w:=w) H bd hv W hrm (D:=D) hD;obtain⟨DI,rh,ra,rb,rp,ro⟩:=r;simp only[bC.enc]at rk;simp only at mC;refine aa.skip ?_;simp;refine aa.seq ?_;refine aa.block ?_;refine aa.ab ed fw [1,2,4,5,6,7,8,21,22,23] ?_;simp[adq,g,rk,Nat.add_assoc];have eU:over ((N+1058,Ob.box [.v (ti DI),.v (ti rh),.v (ti ra),.v (ti rb),.v (ti rp),.v (ti ro)])::(N+1057,Ob.box [.v (ti k)])::(N+1058,Ob.box [.v (ti 0),.v (ti 0),.v (ti 0),.v (ti 0),.v (ti 0),.v (ti 0)])::(N+1057,Ob.box [.v (ti 0)])::(N+105,ca x)::lT p N w) f0=over ((N+105,ca x)::fG p N ⟨DI,rh,ra,rb,rp,ro⟩ k w) f0:=by
   funext q;simp only[bL,eN,lT,fG,cP]
   (repeat' split)<;>first|rfl|omega
  rw[eU];refine aa.seq ?_;obtain⟨c1,bb⟩:∃c1:Bool,decide (rh≠h\/w.cost>=1099511627776\/x.ez>=0)=c1:=⟨_,rfl⟩;refine aa.bY ed fw [(1,.v (ti h)),(2,.ptr (N+3) 0),(4,.ptr (N+5) 0),(5,.ptr (N+55) 0),(6,.ptr (N+105) 0),(7,.ptr (N+1057) 0),(8,.ptr (N+1058) 0),(21,.v (.sl (aS z.n.rules))),(22,.v (ti z.n.rules.length)),(23,.v (ti k)),(41,.v (.bool c1))] ?_ ?_
  ·by_cases q1:rh=h
   ·by_cases q2:w.cost>=1099511627776
    ·have:c1=true:=by rw[<-bb];simp[q2]
     simp[HP,fG,ca,lE,cP,q1,q2,this]
    ·by_cases q3:x.ez>=0
     ·have:c1=true:=by rw[<-bb];simp[q3]
      simp[HP,fG,ca,lE,cP,q1,q2,q3,this]
     ·have:c1=false:=by rw[<-bb];simp[q1,q2,q3]
      simp[HP,fG,ca,lE,cP,q1,q2,q3,this]
   ·have:c1=true:=by rw[<-bb];simp[q1]
    simp[HP,fG,ca,lE,cP,q1,this]
  refine aa.cond rfl (λg2=>?_) (λg2=>?_)
  ·have g2:c1=true:=by simpa using g2
   rw[g2]at bb;rw[if_pos (of_decide_eq_true bb)]at mC;refine aa.exit ?_;simp;refine aa.le (Wa (l:=[(1,.v (ti h)),(2,.ptr (N+3) 0),(4,.ptr (N+5) 0),(5,.ptr (N+55) 0),(6,.ptr (N+105) 0),(21,.v (.sl (aS z.n.rules))),(22,.v (ti z.n.rules.length)),(23,.v (ti k))]) (nxt':=N+3000) bd hv.sp (by omega) (by simp[fG,lT,ca,lE])) ?_;refine aa.dp ed fw [1,2,4,5,6,21,22,23] ?_;simp[TL,w2];refine⟨k+1, ?_,by omega,by omega⟩;rw[mC];exact Le.same (lQ _ _ (by omega) (by simp[lT])) (by simp[fQ])
  ·have g2:c1=false:=by simpa using g2
   rw[g2]at bb;rw[if_neg (of_decide_eq_false bb)]at mC;have aw:=Yr ay.nil (λN' _=>yg _ (L9 _)) (λr' h=>by
    rw[bL]at h⊢;split at h
    ·cases h
    ·rename_i h1;rw[if_neg h1];exact h)
   refine aa.skip ?_;simp;refine aa.OT aw fw (rs:=KP) rfl (by kernel_rfl) [1,2,4,5,6,21,22,23] ?_;have l1:over (fG p N ⟨DI,rh,ra,rb,rp,ro⟩ k w) f0 (N+3)=some (.box [.ptr p 0]):=by simp[fG]
   have l2:over (fG p N ⟨DI,rh,ra,rb,rp,ro⟩ k w) f0 (N+1058)=some (cP ⟨DI,rh,ra,rb,rp,ro⟩):=by simp[fG]
   simp[KP,l1,l2,cP];refine aa.le (Wa (l:=[(1,.v (ti h)),(2,.ptr (N+3) 0),(4,.ptr (N+5) 0),(5,.ptr (N+55) 0),(6,.ptr (N+105) 0),(21,.v (.sl (aS z.n.rules))),(22,.v (ti z.n.rules.length)),(23,.v (ti k))]) (nxt':=N+3000) bd hv.sp (by omega) (by simp[fG,lT,ca,lE])) ?_;refine aa.dp ed fw [1,2,4,5,6,21,22,23] ?_;simp[TL,w2];refine⟨k+1, ?_,by omega,by omega⟩;rw[mC];exact Le.same (lQ _ _ (by omega) (by simp[lT])) (by simp[fQ])
 ·have g:k=z.n.rules.length:=by
   have:¬k<z.n.rules.length:=by simpa using g
   omega
  have hxR:x=R:=by rw[<-hx,g,<-hR];rfl
  subst hxR;refine aa.exit ?_;simp;refine aa.ab ed fw [4] ?_;simp[adr,ca,lT];refine aa.le (pN (l:=[(4,.v (.box [ti x.cost,ti x.size,ti x.ez,ti x.arg]))]) (nxt':=N+3000) bd (by omega) (by simp) ?_) ?_
  ·simp;exact cT (l:=[]) bd (by omega) (by simp)
  refine aa.ret ?_;simp[TM,Cell.enc];rfl
def Cy(a N:Nat):List (Nat×Ob):=[(N+15,.box [.mu (.func 55) [.ptr a 0],.aI,.iv (N+13),.v (ti 0),.v (ti 0)]),(N+13,.map [.int .i64] false 0 [])]
theorem t54{f0:aU}{a N:Nat}{cs:List DV}(hN:∀r,N<=r->f0 r=none)(ha:f0 a=some (.box cs)):
  EH Tryz.prog 54 [.mu (.func 55) [.ptr a 0]] f0 N (N+20) (λval ob'=>val=.ptr (N+15) 0/\ob'=over (Cy a N) f0):=by
 refine c54.okNs hN (by simp) (by omega) ?_ λbd=>?_
 ·rintro val ob' ⟨rfl,rfl⟩;refine⟨λr hr h=>?_,λr hr=>?_⟩
  ·rw[BN hr (by simp[Cy])];exact h
  ·rw[ej λo h=>by simp[Cy]at h;omega];exact hN r (by omega)
 ·simp;refine aa.ab ed fw [0,2] ?_;simp[HI];refine aa.ab ed fw [2] ?_;simp[HJ,Nat.add_assoc];refine aa.ret ?_;simp[finN,Cy]
def F7:P3:=⟨2025,2028,2031,2304,2012,2309,2302⟩
def cH(z:dc)(st:eo):List (Nat×Ob):=[(2033,.box (uD F7 z)),(2025,Dz st),(2028,Fy st),(2031,DA st),(2304,qB 2012 2309 2302 st.s),(2309,hB st.s),(2302,mB st.s),(2012,.box [.ptr 2033 0])]
theorem me(z:dc)(st:eo)(L:List (Nat×Ob))(hL:∀q∈L,3000<=q.1):(⟨F7,z,st⟩:SV).at (cA (L++cH z st)) 2033:=by
 have h:∀k,k<3000->cA (L++cH z st) k=cA (cH z st) k:=by
  intro k hk;induction L with
  |nil=>rfl
  |cons a L ih=>
   obtain⟨r,o⟩:=a;have:=hL (r,o) (by simp);simp only at this;rw[ZaH,dt,if_neg (by omega)];exact ih λq hq=>hL q (by simp[hq])
 refine⟨?_, ?_, ?_, ?_, ?_, ?_, ?_, ?_⟩<;>(rw[h _ (by simp[F7])];simp[cH,F7])
theorem Ja(z:dc)(st df:eo)(L:List (Nat×Ob))(hL:∀q∈L,3000<=q.1):cF (cA (L++cH z st)) ⟨F7,z,st⟩ df=cA (L++cH z df):=by
 funext k;induction L with
 |nil=>
  show(if k=2025 then some (Dz df)else if k=2028 then some (Fy df)else if k=2031 then some (DA df)else if k=2304 then some (qB 2012 2309 2302 df.s)else if k=2309 then some (hB df.s)else if k=2302 then some (mB df.s)else cA (cH z st) k)=cA (cH z df) k;simp only[cH,dt,lY];by_cases h1:k=2025
  ·subst h1;simp
  by_cases h2:k=2028
  ·subst h2;simp
  by_cases h3:k=2031
  ·subst h3;simp
  by_cases h4:k=2304
  ·subst h4;simp
  by_cases h5:k=2309
  ·subst h5;simp
  by_cases h6:k=2302
  ·subst h6;simp
  simp only[if_neg h1,if_neg h2,if_neg h3,if_neg h4,if_neg h5,if_neg h6]
 |cons a L ih=>
  obtain⟨r,o⟩:=a;have hr:=hL (r,o) (by simp);simp only at hr;have ih:=ih λq hq=>hL q (by simp[hq]);show(if k=2025 then some (Dz df)else if k=2028 then some (Fy df)else if k=2031 then some (DA df)else if k=2304 then some (qB 2012 2309 2302 df.s)else if k=2309 then some (hB df.s)else if k=2302 then some (mB df.s)else(if k=r then some o else cA (L++cH z st) k))=if k=r then some o else cA (L++cH z df) k
  rw[<-ih];show _=if k=r then some o else(if k=2025 then some (Dz df)else if k=2028 then some (Fy df)else if k=2031 then some (DA df)else if k=2304 then some (qB 2012 2309 2302 df.s)else if k=2309 then some (hB df.s)else if k=2302 then some (mB df.s)else cA (L++cH z st) k)
  (repeat' split)<;>first|rfl|omega
theorem Wb(L:List (Nat×Ob)):cA L=over L (λ_=>none):=by
 funext k;induction L with
 |nil=>rfl
 |cons a L ih=>
  obtain⟨r,o⟩:=a;simp only[dt,bL,ih]
theorem yV(z:dc)(st:eo){M:Nat}(hM:3000<=M){L:List (Nat×Ob)}(hL:∀q∈L,3000<=q.1/\q.1<M/\bF q.2=[]):dO (cA (L++cH z st)) M:=by
 have dI:=me z st L (λq hq=>(hL q hq).1);have e:=Wb (L++cH z st);rw[e]at dI⊢;refine rV (N:=0) (λr o h=>by cases h) (Zbf _) λq hq=>?_;rcases Zao.1 hq with hq|hq
 ·obtain⟨_,h2,h3⟩:=hL q hq;exact⟨h2,λm hm=>by rw[h3]at hm;cases hm⟩
 ·simp only[cH,Zag,Zap,or_false]at hq;have h1:=dI.rb;have h2:=dI.rf;have h3:=dI.rh;have h4:=dI.q;have h5:=dI.hp;have h6:=dI.m;have h7:=dI.a;have h8:=dI.sp;simp only[F7]at h1 h2 h3 h4 h5 h6 h7 h8;rcases hq with rfl|rfl|rfl|rfl|rfl|rfl|rfl|rfl
  ·refine⟨by simp only;omega,λm hm=>?_⟩;simp only[uD,F7,bF,bJ,names,ZaJ,ZaK,Zag,Zap,or_false,ZaH]at hm;rcases hm with rfl|rfl|rfl|rfl
   ·rw[h1];simp
   ·rw[h2];simp
   ·rw[h3];simp
   ·rw[h4];simp
  ·exact⟨by simp only;omega,λm hm=>by simp[Dz,bF]at hm⟩
  ·exact⟨by simp only;omega,λm hm=>by simp[Fy,bF]at hm⟩
  ·exact⟨by simp only;omega,λm hm=>by simp[DA,bF]at hm⟩
  ·refine⟨by simp only;omega,λm hm=>?_⟩;simp only[qB,bF,bJ,names,ZaJ,Zao,Zag,Zap,or_false]at hm;rcases hm with rfl|rfl|rfl
   ·rw[h7];simp
   ·rw[h5];simp
   ·rw[h6];simp
  ·exact⟨by simp only;omega,λm hm=>by simp[hB,bF]at hm⟩
  ·refine⟨by simp only;omega,λm hm=>?_⟩;exfalso;simp only[mB,bF,ZaV,wC,Zal]at hm;obtain⟨e,⟨e',_,rfl⟩,hk⟩:=hm;simp[names]at hk
  ·refine⟨by simp only;omega,λm hm=>?_⟩;simp only[bF,bJ,names,ZaJ,Zag,Zap,or_false]at hm;subst hm;rw[h8];simp
def sV(z:dc)(st:eo)(k:Nat):eo:=(z.n.rules.take k).foldl (λst r=>(bO z r).foldl (fS z r) st) st
def zc(z:dc)(st:eo)(k j:Nat):eo:=((bO z (z.n.rules.getD k default)).take j).foldl (fS z (z.n.rules.getD k default)) (sV z st k)
theorem Jb{z:dc}(r:bC):(bO z r).length<=z.l.aD.length+((z.to-z.fr).toNat+1):=by
 have:=tw z;unfold bO;split
 ·split<;>simp;omega
 ·split
  ·have:=List.length_filterMap_le (qq z r) (List.range' (gR z) (qu z-gR z));rw[List.length_range']at this;omega
  ·split
   ·simp;omega
   ·split
    ·simp
    ·simp
theorem Wc{z:dc}(C:lz z.n z.l z.c z.fr.toNat z.to.toNat)(K:Kx z){k j:Nat}(hk:k<z.n.rules.length):PI z (zc z (fg z.n.an.toNat) k j)/\(zc z (fg z.n.an.toNat) k j).s.clock<=700000000000:=by
 have Mb:z.n.rules.getD k default∈z.n.rules:=bw hk;obtain⟨r,hr⟩:∃r,z.n.rules.getD k default=r:=⟨_,rfl⟩;have e:zc z (fg z.n.an.toNat) k j=(((z.n.rules.take k).flatMap λr=>(bO z r).map λi=>((r,i):PR))++((bO z r).take j).map λi=>((r,i):PR)).foldl (λst (p:PR)=>fS z p.1 st p.2) (fg z.n.an.toNat):=by
  rw[Zat,<-nE (λst (p:PR)=>fS z p.1 st p.2) (bO z),Zb4];unfold zc sV;rw[hr]
 have aF:∀p∈((z.n.rules.take k).flatMap λr=>(bO z r).map λi=>((r,i):PR))++((bO z r).take j).map λi=>((r,i):PR),Js z p:=by
  intro p hp;rcases Zao.1 hp with hp|hp
  ·obtain⟨r',ff,hp⟩:=ZaV.1 hp;obtain⟨i,hi,rfl⟩:=Zal.1 hp;exact⟨Zav ff,hi⟩
  ·obtain⟨i,hi,rfl⟩:=Zal.1 hp;rw[hr]at Mb;exact⟨Mb,Zav hi⟩
 obtain⟨a1,_,_,a4⟩:=(NJ C K).fold (λ_ h=>h) _ aF _ (PI0 K);rw[<-e]at a1 a4;refine⟨a1, ?_⟩;have l1:=wh (c:=1000001001) (f:=λr=>(bO z r).map λi=>((r,i):PR)) (z.n.rules.take k) (λr hr=>by
  have:=Jb (z:=z) r;have:=K.hl.2.2.1;have:=C.tm;have:=K.ft;rw[Zbt];omega)
 have l2:=Jb (z:=z) r;have l3:=K.hn.2.2.1;have l4:=K.hl.2.2.1;have:=C.tm;have:=K.ft;rw[ZaA,Zbt,Zaw]at a4;rw[Zaw]at l1;have l5:1000001001*min k z.n.rules.length<=1000001001*600:=Nat.mul_le_mul_left _ (by omega);have l6:(fg z.n.an.toNat).s.clock=0:=rfl;omega
theorem DJ{z:dc}{st:eo}{k:Nat}(hk:k<z.n.rules.length):sV z st (k+1)=zc z st k (bO z (z.n.rules.getD k default)).length:=by
 unfold zc sV;rw[cM hk,Zat];simp only[ZaB,ZbU,Zbn]
theorem PF{z:dc}{st:eo}{k j:Nat}{i:eD}(h:(bO z (z.n.rules.getD k default))[j]? =some i):zc z st k (j+1)=fS z (z.n.rules.getD k default) (zc z st k j) i:=by
 unfold zc;rw[Zbw,h,Zat];rfl
theorem Wd{z:dc}(H:P4 z){k:Nat}(hk:k<z.n.rules.length){D:DV}(hD:B3 D (z.n.rules.getD k default)):
  aY Tryz.prog 57 [.ptr 2033 0,D,.mu (.func 58) [.ptr 2012 0,.ptr 4104 0]] (cA ([(4104,cP (z.n.rules.getD k default))]++cH z (sV z (fg z.n.an.toNat) k)))
   ⟨True,.v (.eF []),cA ([(4104,cP (z.n.rules.getD k default))]++cH z (sV z (fg z.n.an.toNat) (k+1)))⟩:=by
 have Mb:z.n.rules.getD k default∈z.n.rules:=bw hk;have hini:=λj=>Wc H.C H.K (j:=j) hk;rw[DJ hk];have hsu:=λ{j i}=>PF (z:=z) (st:=fg z.n.an.toNat) (k:=k) (j:=j) (i:=i);obtain⟨r,hr⟩:∃r,z.n.rules.getD k default=r:=⟨_,rfl⟩;have jS:=H.K.hn.2.2.2 r (by rw[<-hr];exact Mb);rw[hr]at hD Mb hsu⊢;have hL:∀q∈[((4104:Nat),cP r)],3000<=q.1:=by simp
 have e0:sV z (fg z.n.an.toNat) k=zc z (fg z.n.an.toNat) k 0:=rfl;rw[e0];have p8:=H.K.ft;have iY:=H.C.tm;refine t57 (k:=F7) (z:=z) (N:=5000) (r:=r) (caps:=[2012,4104]) (F:=λj=>cA ([(4104,cP r)]++cH z (zc z (fg z.n.an.toNat) k j))) (B:=λ_=>true) ⟨λj _=>⟨_,me z _ _ hL⟩,λj _=>yV z _ (by omega) (by simp[cP,bF,bJ,names])⟩
  ⟨λj i hi _ N' NN=>?_,λj r' hj hn=>?_,λ_ _=>rfl,.inl rfl⟩ H.I0.mono H.K.hl.2.2.1 (by omega) ⟨jS.2.2.1,jS.2.2.2.1⟩ H.K.hl.2.2.2 ?_ hD
 ·have Nj:i∈bO z r:=Zaq hi;obtain⟨m1,m2⟩:=hini j;have:=t58 (i:=i) (r:=r) (sB:=2012) (rB:=4104) NN (me z (zc z (fg z.n.an.toNat) k j) _ hL) (by simp[cH]) (by simp) (xS H.K H.cf m1.1.wf Mb Nj) (λ_=>by
   have hh:0<=r.head/\r.head<z.n.an:=⟨jS.1,jS.2.1⟩;exact m1.1.wf.BU (by omega) (FR H.K m1.1.wf.bo Mb Nj) (by have:=H.K.hn.2.1;omega) (by omega))
  rw[Ja z _ _ _ hL]at this;simp only at this;rw[<-hsu hi]at this;exact this
 ·simp only[cH,ZaH,ZaK,dt,lY]at hn⊢;repeat' split at hn
  all_goals first|(cases hn;done)|skip
  simp[*]
 ·intro x hx;simp only[Zag,Zap,or_false]at hx;rcases hx with rfl|rfl
  ·exact⟨[.ptr 2033 0],by simp[cH]⟩
  ·exact⟨_,by simp[cP];rfl⟩
theorem B5{z:dc}(H:P4 z):∀{f:Nat} {st:eo},IV z st->rQ st<f->IV z (fM z f st)/\(fM z f st).s.heap=[]
 |0,_,_,h=>by omega
 |f+1,st,hI,h=>by
  by_cases bG:st.s.heap=[]
  ·simp only[fM,if_pos bG];exact⟨hI,bG⟩
  ·rw[nF bG];obtain⟨a,b,_⟩:=xQ H.C H.K hI bG;exact B5 H a (by omega)
theorem NQ{α:Type}(a b:α){n k:Nat}(h:k<n):(List.replicate k a++List.replicate (n-k) b).set k a=List.replicate (k+1) a++List.replicate (n-(k+1)) b:=by
 obtain⟨m,hm⟩:∃m,n-k=m+1:=⟨n-k-1,by omega⟩;rw[hm,show n-(k+1)=m by omega,Zb5 _ _ (by simp),ZbR (n:=k)];simp[Za7]
def mY(n k:Nat):eo:=⟨List.replicate k ⟨1099511627776,0⟩++List.replicate (n-k) ⟨0,0⟩,List.replicate n false,List.replicate k (-1)++List.replicate (n-k) 0,⟨[],0,[],0,0,0⟩⟩
theorem We(n:Nat):mY n n=fg n:=by simp[mY,fg]
theorem le_eq{tm:Nat->DV}{ob ob':aU}{nxt nxt' low:Nat}{td:List (List T)}{l:List (Nat×DV)}(e:ob=ob')(h:∀r,nxt'<=r->ob' r=none)(hl:fQ tm l):Le ⟨tm,ob,nxt,low,td⟩ ⟨DM.look l,ob',nxt',low,td⟩:=by
 subst e;exact Le.same h hl
theorem ke{L:List (Nat×Ob)}{M:Nat}(h:∀q∈L,q.1<M):∀r,M<=r->cA L r=none:=by
 induction L with
 |nil=>intro r _;rfl
 |cons a L ih=>
  intro r hr;obtain⟨j,o⟩:=a;have:=h (j,o) (by simp);simp only at this;rw[dt,if_neg (by omega)];exact ih (λq hq=>h q (by simp[hq])) r hr
theorem iH(z:dc)(st:eo):∀q∈cH z st,2000<=q.1/\q.1<3000:=by
 intro q hq;simp only[cH,Zag,Zap,or_false]at hq;rcases hq with rfl|rfl|rfl|rfl|rfl|rfl|rfl|rfl<;>simp only[]<;>omega
theorem yW{A B:List (Nat×Ob)}{r:Nat}{o:Ob}(h:cA (A++B) r=some o):(r,o)∈A\/((∀q∈A,q.1≠r)/\cA B r=some o):=by
 induction A with
 |nil=>exact .inr ⟨λq hq=>(by cases hq),h⟩
 |cons a A ih=>
  obtain⟨j,x⟩:=a;rw[ZaH,dt]at h;by_cases e:r=j
  ·rw[if_pos e]at h;cases h;subst e;exact .inl (by simp)
  ·rw[if_neg e]at h;rcases ih h with h|⟨h1,h2⟩
   ·exact .inl (by simp[h])
   ·exact .inr ⟨λq hq=>by
     rcases Zag.1 hq with rfl|hq
     ·exact λe2=>e e2.symm
     ·exact h1 q hq,h2⟩
theorem Wf{A B:List (Nat×Ob)}{r:Nat}(h:∀q∈A,q.1≠r):cA (A++B) r=cA B r:=by
 induction A with
 |nil=>rfl
 |cons a A ih=>
  obtain⟨j,x⟩:=a;have:=h (j,x) (by simp);simp only at this;rw[ZaH,dt,if_neg (λe=>this e.symm)];exact ih λq hq=>h q (by simp[hq])
theorem Wg{z:dc}{st:eo}{L L':List (Nat×Ob)}{l:List (Nat×DV)}{tm:Nat->DV}{nxt nxt':Nat}(hL:∀q∈L,3000<=q.1)(hL':∀q∈L',3000<=q.1/\q.1<nxt')(hn:3000<=nxt')
  (fH:tQ (cA (L++cH z st)) (cA (L'++cH z st)) id L') (iY:gm (cA (L++cH z st)) (cA (L'++cH z st)) id tm l):
  Le ⟨tm,cA (L++cH z st),nxt,1000,[]⟩ ⟨DM.look l,cA (L'++cH z st),nxt',1000,[]⟩:=by
 have bd:=yV z st (Zae 3000) (L:=[]) (λq hq=>by cases hq);simp only[ZaK]at bd;have low:∀{A:List (Nat×Ob)},(∀q∈A,3000<=q.1)->∀r,r<3000->cA (A++cH z st) r=cA (cH z st) r:=λhA r hr=>Wf λq hq e=>by have:=hA q hq;omega
 have hLs:∀q∈L',3000<=q.1:=λq hq=>(hL' q hq).1;refine Le.cor2 rfl rfl ?_ (λr o h=>?_) (λr hr o h=>?_) (λk=>rn l iY k)
 ·refine ke λq hq=>?_;rcases Zao.1 hq with hq|hq
  ·exact(hL' q hq).2
  ·have:=iH z st q hq;simp only;omega
 ·rcases yW h with h|⟨_,h⟩
  ·obtain⟨o0,h1,h2⟩:=pr fH r o h;exact⟨o0,h1,.inl h2⟩
  ·have hr:=(bd r o h).1;refine⟨o,(low hL r hr).trans h,.inr ⟨rfl,λm hm=>?_⟩⟩;have Ed:=(bd r o h).2 m hm;cases hmo:cA (cH z st) m with
   |none=>exact absurd hmo Ed
   |some o'=>exact⟨o',o',(low hL m (bd m o' hmo).1).trans hmo,(low hLs m (bd m o' hmo).1).trans hmo,bu _⟩
 ·exfalso;simp only at h hr;rcases yW h with h|⟨_,h⟩
  ·have:=hL _ h;simp only at this;omega
  ·have hm:=l7 h;have:=iH z st _ hm;simp only at this;omega
def spP(z:dc):List DV:=[.v (ti z.n.aV),.v (ti z.n.an),.v (ti z.n.start),.v (.sl (aS z.n.rules)),.v (ti z.l.aN),.v (.sl (ba z.l.aD)),.v (.sl (aB z.l.final)),.v (ti z.c.an),.v (ti z.c.aN),.v (.sl (aL z.c.cells)),.v (ti z.fr),.v (ti z.to),.bk 2025 0,.bk 2028 0,.bk 2031 0,.v (.raw (Go.Value.pointer Option.none))]
def Jc(z:dc)(n:Nat):List (Nat×Ob):=[(2012,.box [.ptr 2033 0]),(2033,.box (spP z)),(2031,DA (mY n 0)),(2028,Fy (mY n 0)),(2025,Dz (mY n 0))]
theorem t35{z:dc}(H:P4 z):lJ Tryz.prog 35 [z.n.enc,z.l.enc,z.c.enc,ti z.fr,ti z.to] 57 4 (aL (ji z.n z.l z.c z.fr z.to)):=by
 have Yx:=Ym H.C H.K;obtain⟨s0,Rn⟩:∃s,yS z (fg z.n.an.toNat)=s:=⟨_,rfl⟩;rw[Rn]at Yx;have hnn:=H.K.hn;have hck0:s0.s.clock<=700000000000:=by
  by_cases e:z.n.rules.length=0
  ·have:z.n.rules=[]:=ZaD e;rw[<-Rn];simp[yS,this,fg]
  ·have h1:=(Wc H.C H.K (k:=z.n.rules.length-1) (j:=(bO z (z.n.rules.getD (z.n.rules.length-1) default)).length) (by omega)).2;rw[<-DJ (by omega),show z.n.rules.length-1+1=z.n.rules.length by omega]at h1;have:sV z (fg z.n.an.toNat) z.n.rules.length=yS z (fg z.n.an.toNat):=by unfold sV yS;rw[Zbn]
   rw[this,Rn]at h1;exact h1
 have hcnt:rQ s0<=z.n.an.toNat:=by
  unfold rQ;have:=Yx.1.1.wf.lf;have:=List.count_le_length (a:=false) (l:=s0.fin);omega
 obtain⟨hI,GL⟩:=B5 H (f:=rQ s0+1) Yx.1 (by omega);obtain⟨s9,hs9⟩:∃s,fM z (rQ s0+1) s0=s:=⟨_,rfl⟩;have P1:1<=z.n.an:=hnn.1;have O5:z.n.an<=1000:=hnn.2.1;have h62:=t62 (p:=2033) (k0:=F7) (N:=5000) (f0:=cA (cH z s0)) H (ke λq hq=>by have:=iH z s0 q hq;omega) (me z s0 [] (λq hq=>by cases hq)) Yx.1 (by omega);have nL:=Ja z s0 (fM z (rQ s0+1) s0) [] (λq hq=>by cases hq);simp only[ZaK]at nL;rw[nL,hs9]at h62;rw[hs9]at hI GL;have hspan:=L7 H.C H.K H.I0 hI GL;rw[<-hspan];have h63:=λ(h:Nat) (hh:h<z.n.an.toNat) (L:List (Nat×Ob)) (hL:∀q∈L,3000<=q.1) (N:Nat) (hN:∀r,N<=r->cA (L++cH z s9) r=none)=>t63 (p:=2033) H hN (me z s9 L hL) hI.1.wf hh;have PT:z.n.rules.length<=600:=hnn.2.2.1;obtain⟨nn,hnn2⟩:=Zad (a:=z.n.an) (by omega);have hnt:z.n.an.toNat=nn:=by omega
 rw[hnt]at h63 Rn;refine c35.okF (by simp) (aJ ?_);simp[aG.enc,aM.enc,bV.enc];refine aa.ab ed fw [3,4,5,6,7,10] ?_;simp[HQ];refine aa.le (Le.aC (o:=[]) (l:=[(3,.v (ti z.fr)),(4,.v (ti z.to)),(5,.v (.box [ti z.n.aV,ti z.n.an,ti z.n.start,.sl (aS z.n.rules)])),(6,.v (.box [ti z.l.aN,.sl (ba z.l.aD),.sl (aB z.l.final)])),(7,.v (.box [ti z.c.an,ti z.c.aN,.sl (aL z.c.cells)])),(10,.aI)]) (nxt':=2000) ?_ ?_ ?_ ?_) ?_;iterate 4(·simp)
 refine aa.ab ed fw [5,11] ?_;simp[HR,and_assoc,cG];repeat (refine⟨by omega, ?_⟩)
 have N3:z.n.an.toNat=nn:=hnt;have sl5:∀n1:Nat,∀x,List.replicate n1 [T.int .i64 x]=aB (List.replicate n1 x):=λn1 x=>by simp[aB]
 refine aa.le (le_eq (ob':=cA (Jc z nn)) (l:=[(5,.v (.box [ti z.n.aV,ti z.n.an,ti z.n.start,.sl (aS z.n.rules)])),(11,.ptr 2012 0)]) (nxt':=2200) ?_ ?_ ?_) ?_
 ·funext q;simp only[Jc,spP,dt,lY,DA,Fy,Dz,mY,N3,aB,iU,bI,List.replicate_zero,ZaK,List.map_replicate,Zb1]
  (repeat' split)<;>first|rfl|omega
 ·exact ke (by simp[Jc])
 ·simp
 have Gy:∀{tm:Nat->DV} {ob:aU},ob=over ((2033,.box (uD F7 z))::Cy 2012 2289) (cA (Jc z nn))->fQ tm [(5,.v (.box [ti z.n.aV,ti z.n.an,ti z.n.start,.sl (aS z.n.rules)])),(11,.ptr 2012 0)]->
   Le ⟨tm,ob,2309,1000,[]⟩ ⟨DM.look [(5,.v (.box [ti z.n.aV,ti z.n.an,ti z.n.start,.sl (aS z.n.rules)])),(11,.ptr 2012 0)],cA (cH z (mY nn 0)),3000,1000,[]⟩:=by
  intro tm ob e iY;subst e;refine Le.trans (Le.MM 2304 1 177 (sz:=3) (cs:=[.mu (.func 55) [.ptr 2012 0],.aI,.iv 2302,.v (ti 0),.v (ti 0)]) (by omega) (by simp[Cy]) rfl) (le_eq ?_ (ke λq hq=>(iH z _ q hq).2) iY);funext q;show(if q=2304 then _ else if q=2309 then _ else _)=_;simp only[Cy,Jc,cH,dt,lY,bL,eN];by_cases h1:q=2304
  ·subst h1;rfl
  by_cases h2:q=2309
  ·subst h2;rfl
  by_cases h3:q=2033
  ·subst h3;rfl
  by_cases h4:q=2302
  ·subst h4;rfl
  by_cases h5:q=2012
  ·subst h5;rfl
  by_cases h6:q=2031
  ·subst h6;rfl
  by_cases h7:q=2028
  ·subst h7;rfl
  by_cases h8:q=2025
  ·subst h8;rfl
  simp[h1,h2,h3,h4,h5,h6,h7,h8]
 refine aa.seq (aa.to ⟨DM.look [(5,.v (.box [ti z.n.aV,ti z.n.an,ti z.n.start,.sl (aS z.n.rules)])),(11,.ptr 2012 0)],cA (cH z (mY nn 0)),3000,1000,[]⟩ (aa.regND ed fw (N':=2309) [5,11] (rs:=HS) rfl ⟨rfl,rfl⟩ (by simp) ?_ ?_ ?_) ?_)
 ·simp[CN,Jc];refine⟨_,λhN=>t54 (cs:=[.ptr 2033 0]) hN (by simp), ?_⟩;rintro val ob' ⟨rfl,rfl⟩;simp[Cy,bL,spP];exact Gy rfl (by simp)
 ·simp[CN,Jc];refine⟨_,λhN=>t54 (cs:=[.ptr 2033 0]) hN (by simp), ?_⟩;rintro val ob' ⟨rfl,rfl⟩;simp[Cy,bL,spP];exact Gy rfl (by simp)
 ·simp[CN,Jc];refine⟨_,λhN=>t54 (cs:=[.ptr 2033 0]) hN (by simp), ?_⟩;rintro val ob' ⟨rfl,rfl⟩;simp[Cy,bL,spP];exact Gy rfl (by simp)
 obtain⟨RT,hRT⟩:∃t:T,T.box [ti z.n.aV,ti z.n.an,ti z.n.start,.sl (aS z.n.rules)]=t:=⟨_,rfl⟩;have ek:=λk=>me z (mY nn k) [] (λq hq=>by cases hq);have e1:=λk=>(ek k).sp;have e2:=λk=>(ek k).rb;have e3:=λk=>(ek k).rh;have e4:=λk=>(ek k).a;simp only[ZaK,uD,F7]at e1;simp only[ZaK,Dz,F7]at e2;simp only[ZaK,DA,F7]at e3;simp only[ZaK,F7]at e4;have Pj:∀k,k<=nn->(mY nn k).best.length=nn:=λk hk=>by simp[mY];omega
 have lenH:∀k,k<=nn->(mY nn k).jn.length=nn:=λk hk=>by simp[mY];omega
 refine aa.seq ?_;refine aa.ab ed fw [5,11,42,43] ?_;simp[HT,e1,e2,e4,Pj 0 (by omega)];refine aa.block ?_;refine aa.loop (λk:Nat=>⟨DM.look [(5,.v (.box [ti z.n.aV,ti z.n.an,ti z.n.start,.sl (aS z.n.rules)])),(11,.ptr 2012 0),(42,.v (ti nn)),(43,.v (ti k))],cA (cH z (mY nn k)),3500,1000,[]⟩)
  (λk=>k<=nn) (λk=>nn-k) 0 (Le.same (ke λq hq=>by have:=iH z _ q hq;omega) (by simp[fQ])) (by omega) (λk hk=>?_)
 refine aa.ab ed fw [5,11,42,43,44] ?_;simp[HU];refine aa.seq ?_;refine aa.cond rfl (λg=>?_) (λg=>?_)
 ·have g:k<nn:=by simpa using g
  refine aa.skip ?_;simp;refine aa.seq ?_;refine aa.block ?_;refine aa.ab ed fw [5,11,42,43,12] ?_;simp[HV];refine aa.ab ed fw [5,11,42,43,12] ?_;have rb:=dP (l:=(mY nn k).best) (y:=k) (by rw[Pj k hk];exact g);have rh:=cO (l:=(mY nn k).jn) (y:=k) (by rw[lenH k hk];exact g);simp[HW,e1,e2,e4,Pj k hk,g,rb];have e5:∀(q:Ob),cA ((2025,q)::cH z (mY nn k)) 2012=some (.box [.ptr 2033 0]):=λq=>by rw[dt,if_neg (by omega)];exact e4 k
  refine aa.dp ed fw [5,11,42,43] ?_;simp[vA,e1,e3,e4,lenH k hk,g,rh];refine aa.dp ed fw [5,11,42,43] ?_;simp[HX];rw[au (x:=(k:Int)+1) (by omega)];refine⟨k+1,le_eq ?_ (ke λq hq=>by have:=iH z _ q hq;omega) (by simp),by omega,by omega⟩;funext q;have v1:(bI (mY nn k).best).set k [T.int .i64 1099511627776,T.int .i64 0]=bI (mY nn (k+1)).best:=by
   rw[show [T.int .i64 1099511627776,T.int .i64 0]=[ti (⟨1099511627776,0⟩:br).cost,ti (⟨1099511627776,0⟩:br).size]from rfl,<-sA];simp only[mY,NQ _ _ g]
  have v2:(aB (mY nn k).jn).set k [T.int .i64 (-1)]=aB (mY nn (k+1)).jn:=by
   rw[<-sC];simp only[mY,NQ _ _ g]
  rw[v1,v2];simp only[cH,dt,lY];by_cases h1:q=2025
  ·subst h1;rfl
  by_cases h2:q=2031
  ·subst h2;rfl
  simp only[if_neg h1,if_neg h2];rfl
 ·have g:k=nn:=by
   have:¬k<nn:=by simpa using g
   omega
  subst g;rw[We];refine aa.exit ?_;simp;have ek:=λk'=>me z (sV z (fg k) k') [] (λq hq=>by cases hq);have e1:=λk'=>(ek k').sp;have e4:=λk'=>(ek k').a;simp only[ZaK,uD,F7]at e1;simp only[ZaK,F7]at e4;refine aa.seq ?_;refine aa.ab ed fw [5,11,62,63,64] ?_;simp[HY];refine aa.block ?_;refine aa.loop (λy:Nat=>⟨DM.look [(5,.v (.box [ti z.n.aV,ti z.n.an,ti z.n.start,.sl (aS z.n.rules)])),(11,.ptr 2012 0),(62,.v (.sl (aS z.n.rules))),(63,.v (ti z.n.rules.length)),(64,.v (ti y))],cA (cH z (sV z (fg k) y)),4000,1000,[]⟩)
   (λy=>y<=z.n.rules.length) (λy=>z.n.rules.length-y) 0 (Le.same (ke λq hq=>by have:=iH z _ q hq;omega) (by simp[fQ])) (by omega) (λy hy=>?_)
  refine aa.ab ed fw [5,11,62,63,64,65] ?_;simp[Ba];refine aa.seq ?_;refine aa.cond rfl (λg=>?_) (λg=>?_)
  ·have g:y<z.n.rules.length:=by simpa using g
   refine aa.skip ?_;simp;refine aa.seq ?_;refine aa.block ?_;have rk:=fT g;have hic:=λD hD=>Wd H g (D:=D) hD;rw[N3]at hic;obtain⟨⟨DI,rh,ra,rb,rp,ro⟩,hr⟩:∃r,z.n.rules.getD y default=r:=⟨_,rfl⟩;rw[hr]at rk hic;simp only[bC.enc]at rk;refine aa.ab ed fw [5,11,62,63,64,14] ?_;simp[tY,g,rk];have eU:∀(o o':Ob) (L:List (Nat×Ob)),cA ((4104,o)::(4104,o')::L)=cA ((4104,o)::L):=λo o' L=>by
    funext q;simp only[dt];split<;>rfl
   rw[eU];have uB:∀r',cA ([(4104,cP ⟨DI,rh,ra,rb,rp,ro⟩)]++cH z (sV z (fg k) y)) r'=none->cA ([(4104,cP ⟨DI,rh,ra,rb,rp,ro⟩)]++cH z (sV z (fg k) (y+1))) r'=none:=by
    intro r' ff;simp only[cH,ZaH,ZaK,dt,lY]at ff⊢;repeat' split at ff
    all_goals first|(cases ff;done)|skip
    simp[*]
   have aw:=Yr ay.nil (λN' _=>hic _ (L9 _)) uB;have q1:cA ((4104,Ob.box [.v (ti DI),.v (ti rh),.v (ti ra),.v (ti rb),.v (ti rp),.v (ti ro)])::cH z (sV z (fg k) y)) 2012=some (.box [.ptr 2033 0]):=by rw[dt,if_neg (by omega)];exact e4 y
   refine aa.OT aw fw (rs:=Nf) rfl (by kernel_rfl) [5,11,62,63,64] ?_;simp[Nf,q1,cP];refine aa.le (Wg (L:=[_]) (L':=[]) (l:=[(5,.v (.box [ti z.n.aV,ti z.n.an,ti z.n.start,.sl (aS z.n.rules)])),(11,.ptr 2012 0),(62,.v (.sl (aS z.n.rules))),(63,.v (ti z.n.rules.length)),(64,.v (ti y))]) (nxt':=4500) (by simp) (by simp) (by omega) trivial ?_) ?_
   ·simp[e4]
   simp;refine aa.dp ed fw [5,11,62,63,64] ?_;simp[Bb];rw[au (x:=(y:Int)+1) (by omega)];exact⟨y+1,le_eq rfl (ke λq hq=>by have:=iH z _ q hq;omega) (by simp),by omega,by omega⟩
  ·have g:y=z.n.rules.length:=by
    have:¬y<z.n.rules.length:=by simpa using g
    omega
   subst g;have e0:sV z (fg k) z.n.rules.length=s0:=by rw[<-Rn];unfold sV yS;rw[Zbn]
   rw[e0];refine aa.exit ?_;simp;have e4:=(me z s0 [] (λq hq=>by cases hq)).a;simp only[ZaK,F7]at e4;have uB:∀r',cA (cH z s0) r'=none->cA (cH z s9) r'=none:=by
    intro r' ff;simp only[cH,dt,lY]at ff⊢;repeat' split at ff
    all_goals first|(cases ff;done)|skip
    simp[*]
   have aw:=Yr ay.nil (λN' _=>h62) uB;refine aa.ew aw fw (rs:=Ng) rfl (by kernel_rfl) [5,11] ?_;simp[Ng,e4];refine aa.ab ed fw [5,11,15] ?_;simp[Bd];refine aa.le (le_eq rfl (l:=[(5,.v (.box [ti z.n.aV,ti z.n.an,ti z.n.start,.sl (aS z.n.rules)])),(11,.ptr 2012 0),(15,.aI)]) (nxt':=5000) (ke λq hq=>by have:=iH z _ q hq;omega) (by simp)) ?_;refine aa.le (Le.l8 (k:=15) 57 (sz:=4) (by omega) (by simp)) ?_;rw[im];refine aa.seq ?_;refine aa.ab ed fw [11,15,76,77] ?_;simp[Be];refine aa.block ?_;obtain⟨own,eX⟩:∃l,mX z s9.best=l:=⟨_,rfl⟩;have hol:own.length=k:=by rw[<-eX,zA,N3]
   have hog:∀y,y<k->own.getD y default=gv z s9.best y:=λy hy=>by rw[<-eX];simp[mX,List.getD,N3,hy]
   have dI:=λ(o:Ob)=>(me z s9 [(5000,o)] (by simp)).a;simp only[ZaH,ZaK,F7]at dI;rw[eX];refine aa.loop (λy:Nat=>⟨DM.look [(11,.ptr 2012 0),(15,.bk 5000 0),(76,.v (ti k)),(77,.v (ti y))],cA ([(5000,.arr 0 57 4 (aL (own.take y)))]++cH z s9),6000,1000,[]⟩)
    (λy=>y<=k) (λy=>k-y) 0 (Wg (L:=[_]) (by simp) (by simp) (by omega) ?_ ?_) (by omega) (λy hy=>?_)
   ·simp[aL]
   ·simp[dI,hnn2]
   refine aa.ab ed fw [11,15,76,77,78] ?_;simp[Bf];refine aa.seq ?_;refine aa.cond rfl (λg=>?_) (λg=>?_)
   ·have g:y<k:=by simpa using g
    have hg:=hog y g;have h63':=λN hN=>h63 y g [(5000,.arr 0 57 4 (aL (own.take y)))] (by simp) N hN;rw[<-hg]at h63';have tk:own.take (y+1)=own.take y++[own.getD y default]:=cM (by omega);obtain⟨cx,QJ⟩:∃c,own.getD y default=c:=⟨_,rfl⟩;rw[QJ]at h63' tk;refine aa.skip ?_;simp;refine aa.seq ?_;refine aa.block ?_;refine aa.ab ed fw [11,15,16,76,77] ?_;simp[Bg];have aw:=Yr ay.nil h63' (λr h=>h);refine aa.OT aw fw (rs:=E0) rfl (by kernel_rfl) [11,15,76,77] ?_;simp[E0,dI,cG,chunk,Cell.enc];refine⟨by omega, ?_⟩;refine aa.dp ed fw [11,15,76,77] ?_;simp[TO];rw[au (x:=(y:Int)+1) (by omega)];refine⟨y+1,Wg (L:=[_,_]) (L':=[_]) (by simp) (by simp) (by omega) ?_ ?_,by omega,by omega⟩
    ·simp[tk,aL,Cell.enc]
    ·simp[dI]
   ·have g:y=k:=by
     have:¬y<k:=by simpa using g
     omega
    subst g;refine aa.exit ?_;simp;refine aa.ab ed fw [10] ?_;simp[TP];refine aa.ret ?_;exact .inr ⟨5000,0,by simp,by simp[<-hol]⟩
def dm(f:Nat->Nat):Nat->Nat
 |0=>0
 |n+1=>dm f n+f n
theorem kV{f g:Nat->Nat}:∀{n:Nat},(∀i,i<n->f i=g i)->dm f n=dm g n
 |0,_=>rfl
 |n+1,h=>by simp only[dm];rw[kV λi hi=>h i (by omega),h n (by omega)]
theorem FW{f g:Nat->Nat}:∀{n:Nat},(∀i,i<n->f i<=g i)->dm f n<=dm g n
 |0,_=>Zae _
 |n+1,h=>by
  have:=FW (n:=n) λi hi=>h i (by omega);have:=h n (by omega);simp only[dm];omega
theorem Jd(f:Nat->Nat)(a:Nat):∀b:Nat,dm f (a+b)=dm f a+dm (λi=>f (a+i)) b
 |0=>rfl
 |b+1=>by
  show dm f (a+b)+f (a+b)=_;rw[Jd f a b];simp only[dm];omega
theorem xT:∀n:Nat,dm (λ_=>0) n=0
 |0=>rfl
 |n+1=>by simp only[dm,xT n]
theorem DL(f g:Nat->Nat):∀n:Nat,dm (λi=>f i+g i) n=dm f n+dm g n
 |0=>rfl
 |n+1=>by simp only[dm,DL f g n];omega
theorem DN(f:Nat->Nat->Nat)(n:Nat):∀m:Nat,dm (λa=>dm (λb=>f a b) n) m=dm (λb=>dm (λa=>f a b) m) n
 |0=>by simp only[dm,xT]
 |m+1=>by simp only[dm,DN f n m,DL]
theorem Je(f:Nat->Nat){k n:Nat}(h:k<=n):dm (λi=>if i<k then f i else 0) n=dm f k:=by
 obtain⟨d,rfl⟩:=Nat.exists_eq_add_of_le h;rw[Jd,kV (g:=f) λi hi=>if_pos hi,kV (g:=λ_=>0) λi _=>if_neg (by omega),xT];rfl
theorem Wi(g:Nat->Nat->Nat)(S:Nat):dm (λa=>dm (λb=>g b a) (S-a)) S=dm (λs=>dm (λj=>g s j) (S-s)) S:=by
 rw[kV (g:=λa=>dm (λb=>if b<S-a then g b a else 0) S) λa _=>(Je _ (by omega)).symm,DN];refine kV λs hs=>?_;rw[<-Je (λj=>g s j) (k:=S-s) (n:=S) (by omega)];refine kV λa ha=>?_;by_cases h:a<S-s
 ·rw[if_pos h,if_pos (by omega)]
 ·rw[if_neg h,if_neg (by omega)]
def Me(cf co cn fr to os k:Int):KR:=gH 0 (fr-k) (to-k) cf co cn os
def zd(cf co cn fr to os k:Int):Prop:=(Me cf co cn fr to os k).ok=true/\(Me cf co cn fr to os k).f=fr/\(Me cf co cn fr to os k).t=to
instance(cf co cn fr to os k:Int):Decidable (zd cf co cn fr to os k):=by unfold zd;infer_instance
structure OR where
 (f t:Int)
 ok:Bool
def OR.enc(o:OR):T:=.eF [ti o.f,ti o.t,.bool o.ok]
def cm(cf co cn fr to os:Int):OR:=
 if zd cf co cn fr to os 0 then⟨fr,to,true⟩else if zd cf co cn fr to os (2*(cn-co))then⟨fr-2*(cn-co),to-2*(cn-co),true⟩else⟨0,0,false⟩
def Jf(x:Int):Prop:= -1000000<=x/\x<=1000000
theorem t34(cf co cn fr to os:Int)(h1:Jf co)(h2:Jf cn)(h3:Jf fr)(h4:Jf to)(hs:1<=os)(N9:os<=10000):aT Tryz.prog 34 [.agg [ti cf,ti co,ti cn],ti fr,ti to,ti os] (cm cf co cn fr to os).enc:=by
 obtain⟨R,hR⟩:∃R,cm cf co cn fr to os=R:=⟨_,rfl⟩;rw[hR];unfold Jf at h1 h2 h3 h4;have aw:=ok18 (l:=[]) ay.nil;have w1:IntKind.i64.wrap (cn-co)=cn-co:=au (by omega);have w2:IntKind.i64.wrap (2*(cn-co))=2*(cn-co):=au (by omega);obtain⟨d,hd⟩:∃d,2*(cn-co)=d:=⟨_,rfl⟩;rw[hd]at w2;refine c34.ok (by simp) (aJ ?_);simp;refine aa.ab aw fw [1,2,3,4,8,9,10] ?_;simp[Ht];refine aa.le (Le.aC (o:=[]) (l:=[(1,.v (ti fr)),(2,.v (ti to)),(3,.v (ti os)),(4,.v (.box [ti cf,ti co,ti cn]))]) (nxt':=1200) ?_ ?_ ?_ ?_) ?_;iterate 4(·simp)
 refine aa.ab aw fw [1,2,3,4,11] ?_;simp[Hu,w1,hd,w2];refine aa.seq ?_;refine aa.ab aw fw [1,2,3,4,11,24,25,26] ?_;simp[Hv,chunk];refine aa.block ?_;unfold cm at hR;rw[hd]at hR;refine aa.loop (λy:Nat=>⟨DM.look [(1,.v (ti fr)),(2,.v (ti to)),(3,.v (ti os)),(4,.v (.box [ti cf,ti co,ti cn])),(24,.v (.sl [[ti 0],[ti d]])),(25,.v (ti 2)),(26,.v (ti y))],cA [],2000,1000,[]⟩)
  (λy=>y<=2/\(1<=y->¬zd cf co cn fr to os 0)/\(2<=y->¬zd cf co cn fr to os d)) (λy=>2-y) 0 (Le.aC ?_ ?_ ?_ ?_) ⟨by omega,by omega,by omega⟩ (λy hy=>?_)
 iterate 4(·simp)
 obtain⟨hy,jR,fl⟩:=hy;refine aa.ab aw fw [1,2,3,4,24,25,26,27] ?_;simp[Hw];refine aa.seq ?_;refine aa.cond rfl (λg=>?_) (λg=>?_)
 ·have g':(y:Int)<2:=by simpa using g
  have g:y<2:=by omega
  obtain⟨k,hk⟩:∃k:Int,(if y=0 then 0 else d)=k:=⟨_,rfl⟩;have tT:DM.rowAt [[ti 0],[ti d]] (y:Int)=[ti k]:=by
   rw[<-hk]
   match y,g with
   |0,_=>rfl
   |1,_=>rfl
  have hkb: -4000000<=k/\k<=4000000:=by rw[<-hk];split<;>omega
  have w3:IntKind.i64.wrap (fr-k)=fr-k:=au (by omega);have w4:IntKind.i64.wrap (to-k)=to-k:=au (by omega);obtain⟨⟨qh,qf,qt,qo⟩,hq⟩:∃q,Me cf co cn fr to os k=q:=⟨_,rfl⟩;have hq':gH 0 (fr-k) (to-k) cf co cn os=⟨qh,qf,qt,qo⟩:=hq;have hP:zd cf co cn fr to os k↔(qo=true/\qf=fr/\qt=to):=by unfold zd;rw[hq]
  refine aa.skip ?_;simp;refine aa.seq ?_;refine aa.block ?_;refine aa.ab aw fw [1,2,3,4,13,24,25,26] ?_;simp[Hx,g',tT];refine aa.ab aw fw [1,2,3,4,14,24,25,26] ?_;simp[Hy,w3,w4];refine aa.ab aw fw [1,2,3,4,14,15,16,24,25,26] ?_;simp[Hz,hq'];refine⟨⟨_,_,_,_,_,_,_,⟨⟨rfl,rfl,rfl⟩,⟨rfl,rfl,rfl⟩,rfl⟩,hs,N9⟩, ?_⟩;obtain⟨c1,bb⟩:∃c1:Bool,decide (zd cf co cn fr to os k)=c1:=⟨_,rfl⟩;refine aa.bY aw fw [(1,.v (ti fr)),(2,.v (ti to)),(3,.v (ti os)),(4,.v (.box [ti cf,ti co,ti cn])),(14,.ptr 2141 0),(24,.v (.sl [[ti 0],[ti d]])),(25,.v (ti 2)),(26,.v (ti y)),(56,.v (.bool c1))] ?_ ?_
  ·by_cases q1:qo=true
   ·by_cases q2:qf=fr
    ·have:c1=decide (qt=to):=by rw[<-bb];simp[hP,q1,q2]
     simp[MY,q1,q2,this]
    ·have:c1=false:=by rw[<-bb];simp[hP,q2]
     simp[MY,q1,q2,this]
   ·have q1:qo=false:=by simpa using q1
    have:c1=false:=by rw[<-bb];simp[hP,q1]
    simp[MY,q1,this]
  refine aa.cond rfl (λg2=>?_) (λg2=>?_)
  ·have g2:c1=true:=by simpa using g2
   rw[g2]at bb;have hp:=of_decide_eq_true bb;have hRk:R=⟨fr-k,to-k,true⟩:=by
    rw[<-hR]
    match y,g,hk,jR with
    |0,_,hk,_=>
     have:k=0:=by rw[<-hk];simp
     subst this;rw[if_pos hp];simp
    |1,_,hk,jR=>
     have:d=k:=by rw[<-hk];simp
     subst this;rw[if_neg (jR (by omega)),if_pos hp]
   subst hRk;refine aa.ab aw fw [8,9,10] ?_;simp[abM];refine aa.ret ?_;simp[xm,OR.enc]
  ·have g2:c1=false:=by simpa using g2
   rw[g2]at bb;have hp:=of_decide_eq_false bb;refine aa.skip ?_;simp;refine aa.dp aw fw [1,2,3,4,24,25,26] ?_;simp[abN];rw[au (x:=(y:Int)+1) (by omega)];refine⟨y+1,Le.aC ?_ ?_ ?_ ?_,⟨by omega,λ_=>?_,λh=>?_⟩,by omega⟩;iterate 4(·simp)
   ·match y,hk,jR with
    |0,hk,_=>
     have:k=0:=by rw[<-hk];simp
     subst this;exact hp
    |y+1,_,jR=>exact jR (by omega)
   ·have:d=k:=by rw[<-hk,if_neg (by omega)]
    subst this;exact hp
 ·have g:y=2:=by
   have:¬(y:Int)<2:=by simpa using g
   omega
  subst g;rw[if_neg (jR (by omega)),if_neg (fl (by omega))]at hR;subst hR;refine aa.exit ?_;simp;refine aa.ab aw fw [8,9,10] ?_;simp[SH];refine aa.ret ?_;simp[xm,OR.enc]
def yX(aD:List bn)(fr to a arg:Int)(m:Nat):Int:=(List.range m).foldl (λg i=>if(aD.getD i default).f=fr/\(aD.getD i default).t=to/\(aD.getD i default).term=a then(i:Int)else g) arg
theorem B6(aD:List bn)(fr to a arg:Int)(m:Nat):yX aD fr to a arg (m+1)=if(aD.getD m default).f=fr/\(aD.getD m default).t=to/\(aD.getD m default).term=a then(m:Int)else yX aD fr to a arg m:=by
 unfold yX;rw[ZaE,Zat];rfl
def nZ(n:aG)(l:aM)(c:Cell)(fr to d:Int):Cell:=
 if c.ez<0\/c.ez>=n.rules.length then c
 else if(n.rules.getD c.ez.toNat default).kind≠2 then⟨c.cost,c.size,c.ez,c.arg+d⟩
 else⟨c.cost,c.size,c.ez,yX l.aD fr to (n.rules.getD c.ez.toNat default).a c.arg l.aD.length⟩
theorem t36(n:aG)(l:aM)(c:Cell)(fr to d:Int)(hn:n.rules.length<=1000000)(hl:l.aD.length<=1000000000)(hc:Jf d/\-1<=c.arg/\c.arg<=10000000000):aT Tryz.prog 36 [n.enc,l.enc,.agg c.enc,ti fr,ti to,ti d] (.agg (nZ n l c fr to d).enc):=by
 obtain⟨R,hR⟩:∃R,nZ n l c fr to d=R:=⟨_,rfl⟩;rw[hR];unfold nZ at hR;obtain⟨nt,nn,ns,rules⟩:=n;obtain⟨ls,aD,fin⟩:=l;obtain⟨cc,cs,cr,cg⟩:=c;simp only at hR hn hl hc;have aw:ay Tryz.prog (aW []):=ay.nil;unfold Jf at hc;have w1:IntKind.i64.wrap (cg+d)=cg+d:=au (by omega);refine c36.ok (by simp) (aJ ?_);simp[aG.enc,aM.enc,Cell.enc];refine aa.ab aw fw [3,4,5,6,7,8,12] ?_;simp[HA];refine aa.le (Le.aC (o:=[(1009,.box [.v (ti cc),.v (ti cs),.v (ti cr),.v (ti cg)]),(1013,.box [.v (ti 0),.v (ti 0),.v (ti 0),.v (ti 0)])]) (l:=[(3,.v (ti fr)),(4,.v (ti to)),(5,.v (ti d)),(6,.v (.box [ti nt,ti nn,ti ns,.sl (aS rules)])),(7,.v (.box [ti ls,.sl (ba aD),.sl (aB fin)])),(8,.ptr 1009 0),(12,.ptr 1013 0)]) (nxt':=1200) ?_ ?_ ?_ ?_) ?_;iterate 4(·simp)
 refine aa.seq ?_;obtain⟨c1,bb⟩:∃c1:Bool,decide (cr<0\/cr>=rules.length)=c1:=⟨_,rfl⟩;refine aa.bY aw fw [(3,.v (ti fr)),(4,.v (ti to)),(5,.v (ti d)),(6,.v (.box [ti nt,ti nn,ti ns,.sl (aS rules)])),(7,.v (.box [ti ls,.sl (ba aD),.sl (aB fin)])),(8,.ptr 1009 0),(12,.ptr 1013 0),(26,.v (.bool c1))] ?_ ?_
 ·by_cases q1:cr<0
  ·have:c1=true:=by rw[<-bb];simp[q1]
   simp[vx,q1,this]
  ·have:c1=decide ((rules.length:Int)<=cr):=by rw[<-bb];simp[q1]
   simp[vx,q1,this]
 refine aa.cond rfl (λg=>?_) (λg=>?_)
 ·have g:c1=true:=by simpa using g
  rw[g]at bb;rw[if_pos (of_decide_eq_true bb)]at hR;subst hR;refine aa.ab aw fw [12] ?_;simp[HB];refine aa.ret ?_;simp[rD]
 ·have g:c1=false:=by simpa using g
  rw[g]at bb;have bb:=of_decide_eq_false bb;rw[if_neg bb]at hR;obtain⟨k,rfl⟩:=Zad (a:=cr) (by omega);have hk:k<rules.length:=by omega
  have rk:=fT hk;simp only[Zak]at hR;obtain⟨⟨DI,rh,ra,rb,rp,ro⟩,hr⟩:∃r,rules.getD k default=r:=⟨_,rfl⟩;rw[hr]at rk hR;simp only[bC.enc]at rk;simp only at hR;refine aa.skip ?_;simp;refine aa.ab aw fw [3,4,5,6,7,8,12,13] ?_;simp[HC,hk,rk];refine aa.le (Le.aC (o:=[(1009,.box [.v (ti cc),.v (ti cs),.v (ti k),.v (ti cg)]),(1013,.box [.v (ti 0),.v (ti 0),.v (ti 0),.v (ti 0)])]) (l:=[(3,.v (ti fr)),(4,.v (ti to)),(5,.v (ti d)),(7,.v (.box [ti ls,.sl (ba aD),.sl (aB fin)])),(8,.ptr 1009 0),(12,.ptr 1013 0),(13,.v (.box [ti DI,ti rh,ti ra,ti rb,ti rp,ti ro]))]) (nxt':=1500) ?_ ?_ ?_ ?_) ?_;iterate 4(·simp)
  refine aa.seq ?_;refine aa.ab aw fw [3,4,5,7,8,12,13,36] ?_;simp[abO];refine aa.cond rfl (λg2=>?_) (λg2=>?_)
  ·have g2:DI≠2:=by simpa using g2
   rw[if_pos g2]at hR;subst hR;refine aa.ab aw fw [8,12] ?_;simp[abP,w1];refine aa.ab aw fw [12] ?_;simp[abQ];refine aa.ret ?_;simp[rD]
  ·have g2:¬DI≠2:=by simpa using g2
   rw[if_neg g2]at hR;refine aa.skip ?_;simp;refine aa.seq ?_;refine aa.ab aw fw [3,4,8,12,13,44,45,46] ?_;simp[abR];refine aa.block ?_;refine aa.loop (λy:Nat=>⟨DM.look [(3,.v (ti fr)),(4,.v (ti to)),(8,.ptr 1009 0),(12,.ptr 1013 0),(13,.v (.box [ti DI,ti rh,ti ra,ti rb,ti rp,ti ro])),(44,.v (.sl (ba aD))),(45,.v (ti aD.length)),(46,.v (ti y))],cA [(1009,.box [.v (ti cc),.v (ti cs),.v (ti k),.v (ti (yX aD fr to ra cg y))]),(1013,.box [.v (ti 0),.v (ti 0),.v (ti 0),.v (ti 0)])],2000,1000,[]⟩)
    (λy=>y<=aD.length) (λy=>aD.length-y) 0 (Le.aC ?_ ?_ ?_ ?_) (by omega) (λy hy=>?_)
   ·simp
   ·simp
   ·simp[yX]
   ·simp
   have hs:=B6 aD fr to ra cg y;obtain⟨G,hG⟩:∃G,yX aD fr to ra cg y=G:=⟨_,rfl⟩;rw[hG]at hs⊢;refine aa.ab aw fw [3,4,8,12,13,44,45,46,47] ?_;simp[abS];refine aa.seq ?_;refine aa.cond rfl (λg=>?_) (λg=>?_)
   ·have g:y<aD.length:=by simpa using g
    have w2:IntKind.i64.wrap ((y:Int)+1)=((y+1:Nat):Int):=by rw[au (by omega)];omega
    have rw1:=kP g;obtain⟨⟨af,at',ae,ac,ak⟩,ha⟩:∃a,aD.getD y default=a:=⟨_,rfl⟩;rw[ha]at rw1 hs;simp only[bn.enc]at rw1;simp only at hs;refine aa.skip ?_;simp;refine aa.seq ?_;refine aa.block ?_;refine aa.ab aw fw [3,4,8,12,13,14,15,44,45,46] ?_;simp[abT,g,rw1];obtain⟨c2,dG⟩:∃c2:Bool,decide (af=fr/\at'=to/\ae=ra)=c2:=⟨_,rfl⟩;refine aa.bY aw fw [(3,.v (ti fr)),(4,.v (ti to)),(8,.ptr 1009 0),(12,.ptr 1013 0),(13,.v (.box [ti DI,ti rh,ti ra,ti rb,ti rp,ti ro])),(14,.v (ti y)),(44,.v (.sl (ba aD))),(45,.v (ti aD.length)),(46,.v (ti y)),(67,.v (.bool c2))] ?_ ?_
    ·by_cases q1:af=fr
     ·by_cases q2:at'=to
      ·have:c2=decide (ae=ra):=by rw[<-dG];simp[q1,q2]
       simp[EP,q1,q2,this]
      ·have:c2=false:=by rw[<-dG];simp[q2]
       simp[EP,q1,q2,this]
     ·have:c2=false:=by rw[<-dG];simp[q1]
      simp[EP,q1,this]
    refine aa.cond rfl (λg3=>?_) (λg3=>?_)
    ·have g3:c2=true:=by simpa using g3
     rw[g3]at dG;rw[if_pos (of_decide_eq_true dG)]at hs;refine aa.dp aw fw [3,4,8,12,13,44,45,46] ?_;simp[SI];refine aa.dp aw fw [3,4,8,12,13,44,45,46] ?_;simp[Kq,w2];refine⟨y+1,Le.aC ?_ ?_ ?_ ?_,by omega,by omega⟩
     ·simp
     ·simp
     ·simp[hs]
     ·simp
    ·have g3:c2=false:=by simpa using g3
     rw[g3]at dG;rw[if_neg (of_decide_eq_false dG)]at hs;refine aa.skip ?_;simp;refine aa.dp aw fw [3,4,8,12,13,44,45,46] ?_;simp[Kq,w2];refine⟨y+1,Le.aC ?_ ?_ ?_ ?_,by omega,by omega⟩
     ·simp
     ·simp
     ·simp[hs]
     ·simp
   ·have g:y=aD.length:=by
     have:¬y<aD.length:=by simpa using g
     omega
    subst g;rw[hG]at hR;subst hR;refine aa.exit ?_;simp;refine aa.ab aw fw [12] ?_;simp[SJ];refine aa.ret ?_;simp[rD]
def qb(S a:Nat):List (Nat×Nat):=(List.range (S-a)).map λb=>(b,b+a)
def B7(S:Nat):List (Nat×Nat):=(List.range S).flatMap (qb S)
def YA(p:Nat×Nat):List T:=[ti p.1,ti p.2]
theorem B8{n y:Nat}(h:y<n):(List.range n).drop y=y::(List.range n).drop (y+1):=by
 rw[ZbS (by simpa using h)];simp
theorem t53(S:Nat)(hS:S<=1000):ItOk Tryz.prog 53 [.box [ti S]] ((B7 S).map YA):=by
 have aw:ay Tryz.prog (aW []):=ay.nil;obtain⟨rest,ta⟩:∃rest:Nat->List (List T),∀y,rest y=(((List.range S).drop y).flatMap (qb S)).map YA:=⟨_,λ_=>rfl⟩;obtain⟨row,lW⟩:∃row:Nat->Nat->List (List T),∀a y,row a y=(((List.range (S-a)).drop y).map λb=>(b,b+a)).map YA:=⟨_,λ_ _=>rfl⟩;rw[show(B7 S).map YA=rest 0 by rw[ta];rfl];have GL:rest S=[]:=by rw[ta,Zby (by simp)];rfl
 have hrend:∀a,row a (S-a)=[]:=λa=>by rw[lW,Zby (by simp)];rfl
 have tu:∀a,a<S->rest a=row a 0++rest (a+1):=λa h=>by
  rw[ta,ta,lW,B8 h,Zbo,ZaP];rfl
 have hrstep:∀a b,b<S-a->row a b=[ti b,ti (b+a:Nat)]::row a (b+1):=λa b h=>by
  rw[lW,lW,B8 h];rfl
 refine c53.okI (by simp) (OL ?_);simp;refine aa.ab aw fw [0,1,5,6] ?_;simp[Hl];refine aa.block ?_;refine aa.loop (λa:Nat=>⟨DM.look [(0,.CF),(1,.v (.box [ti S])),(5,.v (ti S)),(6,.v (ti a))],cA [],2000,0,rest a⟩)
  (λa=>a<=S) (λa=>S-a) 0 (Le.aC ?_ ?_ ?_ ?_) (by omega) (λa ha=>?_)
 iterate 4(·simp)
 refine aa.ab aw fw [0,1,5,6,7] ?_;simp[Hm];refine aa.seq ?_;refine aa.cond rfl (λg=>?_) (λg=>?_)
 ·have g:a<S:=by simpa using g
  have w1:IntKind.i64.wrap ((a:Int)+1)=((a+1:Nat):Int):=by rw[au (by omega)];omega
  refine aa.skip ?_;simp;refine aa.seq ?_;refine aa.block ?_;refine aa.ab aw fw [0,1,3,5,6] ?_;simp[Hn];refine aa.ab aw fw [0,1,3,4,5,6] ?_;simp[Ho];refine aa.block ?_;refine aa.loop (λb:Nat=>⟨DM.look [(0,.CF),(1,.v (.box [ti S])),(3,.v (ti a)),(4,.v (ti b)),(5,.v (ti S)),(6,.v (ti a))],cA [],3000,0,row a b++rest (a+1)⟩)
   (λb=>b<=S-a) (λb=>S-a-b) 0 ?_ (by omega) (λb hb=>?_)
  ·rw[tu a g];refine Le.aC ?_ ?_ ?_ ?_<;>simp
  have w3:IntKind.i64.wrap ((b:Int)+a)=((b+a:Nat):Int):=by rw[au (by omega)];omega
  refine aa.seq ?_;refine aa.ab aw fw [0,1,3,4,5,6,13] ?_;simp[Hp,w3];refine aa.cond rfl (λg2=>?_) (λg2=>?_)
  ·have g2:(b:Int)+a<S:=by simpa using g2
   have w2:IntKind.i64.wrap ((b:Int)+1)=((b+1:Nat):Int):=by rw[au (by omega)];omega
   rw[hrstep a b (by omega)];refine aa.skip ?_;simp;refine aa.seq ?_;refine aa.block ?_;refine aa.ab aw fw [0,1,3,4,5,6,22] ?_;simp[Hq,w3];refine⟨by funext r;rfl, ?_⟩;refine aa.cond rfl (λh=>by cases h) (λ_=>?_);refine aa.skip ?_;simp;refine aa.dp aw fw [0,1,3,4,5,6] ?_;simp[Hr,w2];refine⟨b+1,Le.aC ?_ ?_ ?_ ?_,by omega,by omega⟩<;>simp
  ·have g2:b=S-a:=by
    have:¬(b:Int)+a<S:=by simpa using g2
    omega
   subst g2;refine aa.exit ?_;simp;refine aa.dp aw fw [0,1,5,6] ?_;simp[Hs,w1,hrend];refine⟨a+1,Le.aC ?_ ?_ ?_ ?_,by omega,by omega⟩<;>simp
 ·have g:a=S:=by
   have:¬a<S:=by simpa using g
   omega
  subst g;refine aa.exit ?_;simp[finI,GL]
theorem t33(S:Nat):aT Tryz.prog 33 [ti S] (.fn (.func 53) [.box [ti S]]):=by
 have aw:ay Tryz.prog (aW []):=ay.nil;refine c33.ok (by simp) (aJ ?_);simp;refine aa.ab aw fw [1] ?_;simp[Hj];refine aa.le (Le.aC (o:=[]) (l:=[(1,.v (.box [ti S]))]) (nxt':=1200) ?_ ?_ ?_ ?_) ?_;iterate 4(·simp)
 refine aa.ab aw fw [2] ?_;simp[Hk];refine aa.ret ?_;simp[A4]
theorem t31(n s:Int)(h1:0<=n)(h2:n<=1000000)(h3:0<=s)(h4:s<=1000000):aT Tryz.prog 31 [ti n,ti s] (ti (dQ n s)):=by
 have k1:=cN h1 h2 h3 h4;have k2:=cN (b:=s+1) (B:=1000001) k1.1 k1.2 (by omega) (by omega);have w1:IntKind.i64.wrap (n*s)=n*s:=au (by omega);have w2:IntKind.i64.wrap (s+1)=s+1:=au (by omega);have w3:IntKind.i64.wrap (n*s*(s+1))=n*s*(s+1):=au (by omega);have w4:IntKind.i64.wrap ((n*s*(s+1)).tdiv 2)=n*s*(s+1)/2:=by rw[p0 k2.1];exact au (by omega)
 refine c31.ok (by simp) (aJ ?_);simp;refine aa.ab ed fw [0,1] ?_;simp[Hh];refine aa.ab ed fw [4] ?_;simp[Hi,w1,w2,w3,w4];refine aa.ret ?_;simp[A3,dQ]
def iW(n:aG)(l:aM)(L:List (Nat×Nat)):List Cell:=L.foldl (λB p=>l9 B (ji n l ⟨n.an,l.aN,B⟩ p.1 p.2) (cJ n.an l.aN p.1 p.2).toNat n.an.toNat) (List.replicate (dQ n.an l.aN).toNat ⟨0,0,0,0⟩)
def rW(cf co cn os:Int)(nn:Nat)(L:List (Nat×Nat)):Nat:=L.foldl (λw p=>w+if(cm cf co cn p.1 p.2 os).ok then 0 else nn) 0
theorem Jg(n:aG)(l:aM)(L:List (Nat×Nat))(p:Nat×Nat):iW n l (L++[p])=l9 (iW n l L) (ji n l ⟨n.an,l.aN,iW n l L⟩ p.1 p.2) (cJ n.an l.aN p.1 p.2).toNat n.an.toNat:=by
 unfold iW;rw[Zat];rfl
theorem Mf(cf co cn os:Int)(nn:Nat)(L:List (Nat×Nat))(p:Nat×Nat):rW cf co cn os nn (L++[p])=rW cf co cn os nn L+if(cm cf co cn p.1 p.2 os).ok then 0 else nn:=by
 unfold rW;rw[Zat];rfl
theorem DO(B own:List Cell)(a:Nat)(h:a+own.length<=B.length):∀y,y<=own.length->l9 B own a y=B.take a++(own.take y++B.drop (a+y))
 |0,_=>by simp[l9]
 |y+1,hy=>by
  rw[mm,DO B own a h y (by omega),cM (by omega),Zb5 _ _ (by rw[Zaw];omega),Zaw,Zb5 _ _ (by rw[Zaw];omega),Zaw,
   ZbS (i:=a+y) (by omega),show a+y-min a B.length-min y own.length=0 by omega]
  simp[Nat.add_assoc]
theorem Wj(cf co cn os:Int)(nn:Nat)(L:List (Nat×Nat)):rW cf co cn os nn L<=nn*L.length:=by
 have key:∀(L:List (Nat×Nat)) (w:Nat),L.foldl (λw p=>w+if(cm cf co cn p.1 p.2 os).ok then 0 else nn) w<=w+nn*L.length:=by
  intro L;induction L with
  |nil=>intro w;simp
  |cons p L ih=>
   intro w;rw[ZaB,Zba,Nat.mul_succ];obtain⟨d,hd⟩:∃d,(if(cm cf co cn p.1 p.2 os).ok then 0 else nn)=d:=⟨_,rfl⟩;have hd2:d<=nn:=by rw[<-hd];split<;>omega
   rw[hd];have:=ih (w+d);omega
 have:=key L 0;unfold rW;omega
theorem YB(S:Nat):(B7 S).length<=S*S:=by
 have:=wh (f:=qb S) (c:=S) (List.range S) (λa _=>by simp[qb])
 rwa [ZcE]at this
structure UpdOk(n:aG)(old:bV)(l:aM)(cf co cn:Int)(S:Nat):Prop where
 hn:oK n
 hl:vD l
 hS:l.aN=S
 old1:old.an=n.an
 old2:tt old
 arg:∀h f t:Int,-1<=(lG old h f t).arg/\(lG old h f t).arg<=10000000000
 hco:0<=co/\co<=1000
 hcn:0<=cn/\cn<=1000
 run:∀pre p rest,B7 S=pre++p::rest->p.1<=p.2/\p.2<S/\P4 ⟨n,l,⟨n.an,l.aN,iW n l pre⟩,p.1,p.2⟩
 mv:∀pre p rest,B7 S=pre++p::rest->(cm cf co cn p.1 p.2 old.aN).ok=true->∀y:Nat,(y:Int)<n.an->
  nZ n l (lG old y (cm cf co cn p.1 p.2 old.aN).f (cm cf co cn p.1 p.2 old.aN).t) p.1 p.2 (p.1-(cm cf co cn p.1 p.2 old.aN).f)=(ji n l ⟨n.an,l.aN,iW n l pre⟩ p.1 p.2).getD y default
theorem Wl{cf co cn fr to os:Int}(h:(cm cf co cn fr to os).ok=true):(cm cf co cn fr to os).f=fr\/(cm cf co cn fr to os).f=fr-2*(cn-co):=by
 unfold cm at h⊢;split
 ·exact .inl rfl
 ·rename_i h1;rw[if_neg h1]at h;split
  ·exact .inr rfl
  ·rename_i h2;rw[if_neg h2]at h;cases h
abbrev s31:DM.Spec:=cy (λts=>∃n s:Int,ts=[ti n,ti s]/\0<=n/\n<=1000000/\0<=s/\s<=1000000) (fun|[.int _ n,.int _ s]=>ti (dQ n s)|_=>.bool false) true
theorem ok31{l:List (Nat×DM.Spec)}(h:ay Tryz.prog (aW l)):ay Tryz.prog (aW ((31,s31)::l)):=by
 refine ay.cons h ?_;rintro ts ⟨n,s,rfl,h1,h2,h3,h4⟩;exact⟨by simpa using t31 n s h1 h2 h3 h4,λ_=>rfl⟩
abbrev s32(x:Input)(l:aM):DM.Spec:=cy (λts=>ts=[x.enc]) (λ_=>l.enc) false
abbrev s33:DM.Spec:=cy (λts=>∃S:Nat,ts=[ti S]) (fun|[.int _ s]=>.fn (.func 53) [.box [ti s]]|_=>.bool false) false
theorem ok33{l:List (Nat×DM.Spec)}(h:ay Tryz.prog (aW l)):ay Tryz.prog (aW ((33,s33)::l)):=by
 refine ay.cons h ?_;rintro ts ⟨S,rfl⟩;exact⟨t33 S,λh=>by cases h⟩
abbrev s34:DM.Spec:=cy (λts=>∃cf co cn fr to os,ts=[.agg [ti cf,ti co,ti cn],ti fr,ti to,ti os]/\Jf co/\Jf cn/\Jf fr/\Jf to/\1<=os/\os<=10000)
 (fun|[.agg [.int _ cf,.int _ co,.int _ cn],.int _ fr,.int _ to,.int _ os]=>.eF [ti (cm cf co cn fr to os).f,ti (cm cf co cn fr to os).t,.bool (cm cf co cn fr to os).ok]|_=>.bool false) true
theorem ok34{l:List (Nat×DM.Spec)}(h:ay Tryz.prog (aW l)):ay Tryz.prog (aW ((34,s34)::l)):=by
 refine ay.cons h ?_;rintro ts ⟨cf,co,cn,fr,to,os,rfl,h1,h2,h3,h4,h5,h6⟩;exact⟨by simpa [OR.enc]using t34 cf co cn fr to os h1 h2 h3 h4 h5 h6,λ_=>rfl⟩
abbrev s35:DM.Spec:=yo (λts=>∃nt nn ns rules ls aD fin cn cs cl,∃fr to:Int,ts=[.agg [ti nt,ti nn,ti ns,.sl (aS rules)],.agg [ti ls,.sl (ba aD),.sl (aB fin)],.agg [ti cn,ti cs,.sl (aL cl)],ti fr,ti to]/\P4 ⟨⟨nt,nn,ns,rules⟩,⟨ls,aD,fin⟩,⟨cn,cs,cl⟩,fr,to⟩)
 (fun|[n,l,c,.int _ fr,.int _ to]=>aL (ji (nR n) (_root_.Go.Proofs.tZ l) (pG c) fr to)|_=>[]) 57 4
theorem ok35{l:List (Nat×DM.Spec)}(h:ay Tryz.prog (aW l)):ay Tryz.prog (aW ((35,s35)::l)):=by
 refine ay.Q1 h ?_;rintro ts ⟨nt,nn,ns,rules,ls,aD,fin,cn,cs,cl,fr,to,rfl,h1⟩;exact⟨by simpa [aG.enc,aM.enc,bV.enc]using t35 h1,vO _⟩
abbrev s36:DM.Spec:=cy (λts=>∃nt nn ns rules ls aD fin cc cs cr cg,∃fr to d:Int,ts=[.agg [ti nt,ti nn,ti ns,.sl (aS rules)],.agg [ti ls,.sl (ba aD),.sl (aB fin)],.agg [ti cc,ti cs,ti cr,ti cg],ti fr,ti to,ti d]/\rules.length<=1000000/\aD.length<=1000000000/\Jf d/\-1<=cg/\cg<=10000000000)
 (fun|[n,l,.agg [.int _ cc,.int _ cs,.int _ cr,.int _ cg],.int _ fr,.int _ to,.int _ d]=>.agg [ti (nZ (nR n) (_root_.Go.Proofs.tZ l) ⟨cc,cs,cr,cg⟩ fr to d).cost,ti (nZ (nR n) (_root_.Go.Proofs.tZ l) ⟨cc,cs,cr,cg⟩ fr to d).size,ti (nZ (nR n) (_root_.Go.Proofs.tZ l) ⟨cc,cs,cr,cg⟩ fr to d).ez,ti (nZ (nR n) (_root_.Go.Proofs.tZ l) ⟨cc,cs,cr,cg⟩ fr to d).arg]|_=>.bool false) true
theorem X0{l:List (Nat×DM.Spec)}(h:ay Tryz.prog (aW l)):ay Tryz.prog (aW ((36,s36)::l)):=by
 refine ay.cons h ?_;rintro ts ⟨nt,nn,ns,rules,ls,aD,fin,cc,cs,cr,cg,fr,to,d,rfl,h1,h2,h3,h4,h5⟩;exact⟨by simpa [aG.enc,aM.enc,Cell.enc]using t36 ⟨nt,nn,ns,rules⟩ ⟨ls,aD,fin⟩ ⟨cc,cs,cr,cg⟩ fr to d h1 h2 ⟨h3,h4,h5⟩,λ_=>rfl⟩
theorem okUp{x:Input}{l:aM}(h:aT Tryz.prog 32 [x.enc] l.enc):ay Tryz.prog (aW [(35,s35),(36,s36),(37,s37),(34,s34),(33,s33),(31,s31),(32,s32 x l)]):=by
 refine ok35 (X0 (ok37 (ok34 (ok33 (ok31 (ay.cons ay.nil ?_))))));rintro ts rfl;exact⟨h,λh=>by cases h⟩
def NR:List RO:=[
 l 15 146 [],
 l 14 147 [],
 n 18 148,
 n 18 149,
 a 1 4 150 [],
 l 150 151 [4],
 b .add 149 151 152 [3,5],
 o (.slice 4 (t 147) (some (t 148)) (some (t 152))) 153 [1,2,6],
 L 4 4 154 [],
 L 3 12 155 [],
 L 3 13 156 [],
 n 16 157,
 n 17 158,
 o (.callF 35 [(t 154),(t 155),(t 156),(t 157),(t 158)]) 159 [8,9,10,11,12],
 o (.copy 4 (t 153) (t 159)) 160 [7,13,13],
 b .add 146 160 161 [0,14],
 S 1 15 161 (k [15,14] 15)]
theorem t13(n:aG)(old:bV)(x:Input)(l:aM)(cf co cn:Int)(S:Nat)(U:UpdOk n old l cf co cn S)(hx:aT Tryz.prog 32 [x.enc] l.enc)(hk:x.aj.length<=1000)(hbr:¬TS x.aj.length cf co cn)(hos:old.aN=2*(x.aj.length-cn)+1+2*co):
  aT Tryz.prog 13 [n.enc,old.enc,x.enc,.agg [ti cf,ti co,ti cn]] (.eF [.agg [ti n.an,ti S,.sl (aL (iW n l (B7 S)))],ti (rW cf co cn old.aN n.an.toNat (B7 S)),ti 0]):=by
 have aw:=okUp hx;obtain⟨hn,hl,hS,o1,o2,harg,hco,hcn,bz,hmv⟩:=U;obtain⟨nt,nn,ns,rules⟩:=n;obtain⟨ls,aD,fin⟩:=l;obtain⟨on,os,oc⟩:=old;obtain⟨ct,ins,sw⟩:=x;simp only at hS hos hk hbr o1;subst hS o1;have P1:1<=on:=hn.1;have O5:on<=1000:=hn.2.1;have lI:=o2;obtain⟨_,_,c3,c4,c5⟩:=o2;simp only at c3 c4 c5;have wy:1<=(S:Int):=hl.1;have qe:(S:Int)<=1000:=hl.2.1;unfold TS at hbr;simp only[not_or,Int.not_lt,gt_iff_lt]at hbr;obtain⟨b1,b2,b3,b4,b5⟩:=hbr;have w1:IntKind.i64.wrap ((ct.length:Int)-cn)=ct.length-cn:=au (by omega);have w2:IntKind.i64.wrap (os-1)=os-1:=au (by omega);have w3:IntKind.i64.wrap ((os-1).tdiv 2)=(os-1)/2:=by rw[p0 (by omega)];exact au (by omega)
 have w4:os.tmod 2=1:=by rw[GB (by omega)];omega
 have w5:IntKind.i64.wrap ((os-1)/2-(ct.length-cn))=co:=by rw[au (by omega)];omega
 refine c13.ok (by simp) (aJ ?_);simp[aG.enc,bV.enc,Input.enc];refine aa.ab aw fw [4,5,6,7,8,9,10] ?_;simp[Sr];refine aa.le (Le.aC (o:=[(1009,.box [.v (ti 0),.v (ti 0),.aI])]) (l:=[(4,.v (.box [ti nt,ti on,ti ns,.sl (aS rules)])),(5,.v (.box [ti on,ti os,.sl (aL oc)])),(6,.v (.box [.sl (aZ ct),.sl (aB ins),ti sw])),(7,.v (.box [ti cf,ti co,ti cn])),(8,.ptr 1009 0)]) (nxt':=1200) ?_ ?_ ?_ ?_) ?_;iterate 4(·simp)
 refine aa.ab aw fw [4,5,6,7,8,11] ?_;simp[Ss];refine aa.seq ?_;refine aa.ab aw fw [4,5,6,7,8,11,53] ?_;simp[St,w1,show ¬cf<0 by omega,show ¬co<0 by omega,show ¬cn<0 by omega,show ¬(ct.length:Int)<cn by omega,show ¬(ct.length:Int)-cn<cf by omega];refine aa.cond rfl (λg=>by cases g) (λ_=>?_);refine aa.skip ?_;simp;refine aa.seq ?_;refine aa.ab aw fw [4,5,6,7,8,11,95] ?_;simp[Su,w1,w2,w3,w4,w5,show ¬os<1 by omega,c5];refine⟨⟨_,_,⟨rfl,rfl⟩,by omega,by omega,by omega,by omega⟩, ?_⟩;refine aa.cond rfl (λg=>by cases g) (λ_=>?_);refine aa.skip ?_;simp;refine aa.ab aw fw [4,5,7,8,12] ?_;simp[abI,Input.enc,aM.enc];refine aa.le (Le.aC (o:=[(1009,.box [.v (ti 0),.v (ti 0),.aI])]) (l:=[(4,.v (.box [ti nt,ti on,ti ns,.sl (aS rules)])),(5,.v (.box [ti on,ti os,.sl (aL oc)])),(7,.v (.box [ti cf,ti co,ti cn])),(8,.ptr 1009 0),(12,.v (.box [ti S,.sl (ba aD),.sl (aB fin)]))]) (nxt':=2000) ?_ ?_ ?_ ?_) ?_;iterate 4(·simp)
 refine aa.ab aw fw [4,5,7,8,12,13] ?_;simp[abJ];refine aa.le (Le.aC (o:=[(1009,.box [.v (ti 0),.v (ti 0),.aI]),(2014,.box [.v (ti on),.v (ti S),.aI])]) (l:=[(4,.v (.box [ti nt,ti on,ti ns,.sl (aS rules)])),(5,.v (.box [ti on,ti os,.sl (aL oc)])),(7,.v (.box [ti cf,ti co,ti cn])),(8,.ptr 1009 0),(12,.v (.box [ti S,.sl (ba aD),.sl (aB fin)])),(13,.ptr 2014 0)]) (nxt':=3000) ?_ ?_ ?_ ?_) ?_;iterate 4(·simp)
 have uA:0<=dQ on S/\dQ on S<=1000000000:=by
  have:=kQ (nn:=on) (st:=S) (by omega);have hb:=(dY qe (S:Int).toNat (by omega));have:=cN (a:=on) (A:=1000) (b:=pre S (S:Int).toNat) (B:=1000000) (by omega) (by omega) hb.1 (by omega);omega
 refine aa.ab aw fw [4,5,7,8,12,13,14] ?_;simp[abK,and_assoc,cG];repeat (refine⟨by omega, ?_⟩)
 refine aa.ab aw fw [4,5,7,8,12,13,14] ?_;simp[abL];refine aa.le (Le.aC (o:=[(1009,.box [.v (ti 0),.v (ti 0),.aI]),(2014,.box [.v (ti on),.v (ti S),.bk 3110 0]),(3015,.box [.bk 3110 0]),(3110,.arr 0 57 4 (aL (List.replicate (dQ on S).toNat ⟨0,0,0,0⟩)))]) (l:=[(4,.v (.box [ti nt,ti on,ti ns,.sl (aS rules)])),(5,.v (.box [ti on,ti os,.sl (aL oc)])),(7,.v (.box [ti cf,ti co,ti cn])),(8,.ptr 1009 0),(12,.v (.box [ti S,.sl (ba aD),.sl (aB fin)])),(13,.ptr 2014 0),(14,.ptr 3015 0)]) (nxt':=4000) ?_ ?_ ?_ ?_) ?_
 ·simp
 ·simp
 ·simp[aL,Cell.enc]
 ·simp
 refine aa.ab aw fw [4,5,7,8,12,13,14,15] ?_;simp[Sv];refine aa.le (Le.aC (o:=[(1009,.box [.v (ti 0),.v (ti 0),.aI]),(2014,.box [.v (ti on),.v (ti S),.bk 3110 0]),(3015,.box [.bk 3110 0]),(3110,.arr 0 57 4 (aL (List.replicate (dQ on S).toNat ⟨0,0,0,0⟩))),(4016,.box [.v (ti 0)])]) (l:=[(4,.v (.box [ti nt,ti on,ti ns,.sl (aS rules)])),(5,.v (.box [ti on,ti os,.sl (aL oc)])),(7,.v (.box [ti cf,ti co,ti cn])),(8,.ptr 1009 0),(12,.v (.box [ti S,.sl (ba aD),.sl (aB fin)])),(13,.ptr 2014 0),(14,.ptr 3015 0),(15,.ptr 4016 0)]) (nxt':=5000) ?_ ?_ ?_ ?_) ?_;iterate 4(·simp)
 refine aa.seq ?_;refine aa.ab aw fw [4,5,7,8,12,13,14,15,114] ?_;simp[Sw];refine⟨⟨S,rfl⟩, ?_⟩;refine aa.block ?_;have tK:∀(L rest:List (Nat×Nat)) (x:List T) (pre:List (List T)) (rest':List (List T)),(B7 S).map YA=pre++x::rest'->∃(P:List (Nat×Nat)) (f t:Nat) (R:List (Nat×Nat)),B7 S=P++(f,t)::R/\pre=P.map YA/\x=[ti f,ti t]:=by
  intro _ _ x pre rest' h;obtain⟨P,R',e1,e2,e3⟩:=List.map_eq_append_iff.1 h;obtain⟨⟨f,t⟩,R,e4,e5,e6⟩:=List.map_eq_cons_iff.1 e3;exact⟨P,f,t,R,by rw[e1,e4],e2.symm,e5.symm⟩
 refine aa.wT (t53 S (by omega)) (by simp) (by simp) ?_ (λpre=>cA [(1009,.box [.v (ti 0),.v (ti 0),.aI]),(2014,.box [.v (ti on),.v (ti S),.bk 3110 0]),(3015,.box [.bk 3110 0]),(3110,.arr 0 57 4 (aL (iW ⟨nt,on,ns,rules⟩ ⟨S,aD,fin⟩ ((B7 S).take pre.length)))),(4016,.box [.v (ti (rW cf co cn os on.toNat ((B7 S).take pre.length)))])]) ?_ ?_ (λpre x rest hxx=>?_) ?_
 ·intro x hx;obtain⟨p,_,rfl⟩:=Zal.1 hx;rfl
 ·simp[iW,rW]
 ·intro pre r hr;simp only at hr;simp only[dt,lY];repeat rw[if_neg (by omega)]
 ·obtain⟨P,f,t,R,hP,rfl,rfl⟩:=tK [] [] x pre rest hxx;have tk1:(B7 S).take (P.map YA).length=P:=by rw[hP];simp
  have tk2:(B7 S).take (P.map YA++[[ti f,ti t]]).length=P++[(f,t)]:=by rw[hP,show P++(f,t)::R=(P++[(f,t)])++R by simp];exact Zco (by simp)
  rw[tk2,Jg,Mf];simp only[tk1];obtain⟨p8,htS,hR⟩:=bz P (f,t) R hP;have Jh:=hmv P (f,t) R hP;simp only at p8 htS hR Jh;have bd:Cs ⟨on,S,iW ⟨nt,on,ns,rules⟩ ⟨S,aD,fin⟩ P⟩:=hR.C.hc;have hlen:=hR.cf.2.2.2.2;simp only at hlen;obtain⟨B,hB⟩:∃B,iW ⟨nt,on,ns,rules⟩ ⟨S,aD,fin⟩ P=B:=⟨_,rfl⟩;rw[hB]at hR Jh bd hlen⊢;obtain⟨w0,hw0⟩:∃w,rW cf co cn os on.toNat P=w:=⟨_,rfl⟩;rw[hw0];have XP:=vJ hn hl bd p8 (by omega);obtain⟨own,eX⟩:∃q,ji ⟨nt,on,ns,rules⟩ ⟨S,aD,fin⟩ ⟨on,S,B⟩ f t=q:=⟨_,rfl⟩;rw[eX]at XP Jh⊢;have hol:(own.length:Int)=on:=XP.1;have Nj:=jZ (n:=on) (st:=S) (f:=f) (t:=t) (by omega) O5 qe (by omega) (by omega) p8;have hix:=λ(i:Int) (hi:i<on)=>vK (nn:=on) (st:=S) (f:=f) (t:=t) (by omega) (by omega) p8 hi;have hmul:=cN (a:=(f:Int)) (A:=1000) (b:=S) (B:=1000) (by omega) (by omega) (by omega) qe;have hc64:=BB (S:Int) f;have PW:=dY qe f (by omega);have hff:(f:Int)*((f:Int)-1)=(f:Int)*f-f:=by grind
  have kv:=cN (a:=(f:Int)) (A:=1000) (b:=(f:Int)) (B:=1000) (by omega) (by omega) (by omega) (by omega);have hffb:0<=(f:Int)*((f:Int)-1)/\(f:Int)*((f:Int)-1)<=1000000:=by
   refine⟨?_,by omega⟩;cases f with
   |zero=>simp
   |succ f=>exact Zch (by omega) (by omega)
  have hq:((f:Int)*((f:Int)-1)).tdiv 2=(f:Int)*((f:Int)-1)/2:=p0 hffb.1;obtain⟨Q,hQ⟩:∃Q,pre (S:Int) f=Q:=⟨_,rfl⟩;rw[hQ]at hc64 PW;have b9:=cN (a:=Q+t-f) (A:=2000000) (b:=on) (B:=1000) (by omega) (by omega) (by omega) O5;obtain⟨ml,dI⟩:∃q,cJ on S f t=q:=⟨_,rfl⟩;have m1:IntKind.i64.wrap ((f:Int)*S)=(f:Int)*S:=au (by omega);have m2:IntKind.i64.wrap ((f:Int)-1)=(f:Int)-1:=au (by omega);have m3:IntKind.i64.wrap ((f:Int)*((f:Int)-1))=(f:Int)*((f:Int)-1):=au (by omega);have m4:IntKind.i64.wrap (((f:Int)*((f:Int)-1)).tdiv 2)=((f:Int)*((f:Int)-1)).tdiv 2:=by rw[hq];exact au (by omega)
  have m5:IntKind.i64.wrap ((f:Int)*S-((f:Int)*((f:Int)-1)).tdiv 2)=Q:=by rw[hc64];exact au (by omega)
  have m6:IntKind.i64.wrap (Q+t)=Q+t:=au (by omega);have m7:IntKind.i64.wrap (Q+t-f)=Q+t-f:=au (by omega);have m8:IntKind.i64.wrap ((Q+t-f)*on)=ml:=by rw[<-dI];unfold cJ;rw[hQ];exact au (by omega)
  rw[dI]at Nj hix⊢;obtain⟨ml,rfl⟩:=Zad Nj.1;obtain⟨⟨of,ot,oo⟩,ho⟩:∃o,cm cf co cn f t os=o:=⟨_,rfl⟩;have hof:=Wl (cf:=cf) (co:=co) (cn:=cn) (fr:=f) (to:=t) (os:=os);rw[ho]at Jh hof⊢;simp only at Jh hof⊢;simp only[AH];refine aa.ab aw fw [4,5,7,8,12,13,14,15,16,116] ?_;simp[Sx];refine aa.dp aw fw [4,5,7,8,12,13,14,15,16,17] ?_;simp[Sy];refine aa.block ?_;refine aa.ab aw fw [4,5,7,8,12,13,14,15,16,17,18] ?_;simp[Sz,m1,m2,m3,m4,m5,m6,m7,m8];refine aa.ab aw fw [4,5,7,8,12,13,14,15,16,17,18,19,20,21] ?_;simp[SA,ho];refine⟨⟨_,_,_,_,_,_,⟨⟨rfl,rfl,rfl⟩,rfl,rfl,rfl⟩,by unfold Jf;omega,by unfold Jf;omega,by unfold Jf;omega,by unfold Jf;omega,by omega,by omega⟩, ?_⟩;refine aa.seq ?_;refine aa.ab aw fw [4,5,7,8,12,13,14,15,16,17,18,19,20,145] ?_;simp[SB];refine aa.cond rfl (λg=>?_) (λg=>?_)
  ·have g:oo=false:=by simpa using g
   subst g;have rR:∃nt' nn' ns' Lz ls' VA fin' cn' qI cl',∃fr' to':Int,[T.agg [ti nt,ti on,ti ns,.sl (aS rules)],.agg [ti S,.sl (ba aD),.sl (aB fin)],.agg [ti on,ti S,.sl (aL B)],ti f,ti t]=[.agg [ti nt',ti nn',ti ns',.sl (aS Lz)],.agg [ti ls',.sl (ba VA),.sl (aB fin')],.agg [ti cn',ti qI,.sl (aL cl')],ti fr',ti to']/\P4 ⟨⟨nt',nn',ns',Lz⟩,⟨ls',VA,fin'⟩,⟨cn',qI,cl'⟩,fr',to'⟩:=⟨_,_,_,_,_,_,_,_,_,_,_,_,rfl,hR⟩;have m9:IntKind.i64.wrap ((ml:Int)+on)=ml+on:=au (by omega);refine aa.iD aw fw (rs:=fm NR [some [4016],some [3015],none,none,none,some [],none,some [3110],some [],some [],some [2014],none,none,some [3110],some [3110,6300],none,some [4016]]) (.inl rfl) (by kernel_rfl) [] ?_;simp[NR,fm,b8,bm,names,bJ,m9,eX];have e1:((ml:Int)+on).toNat-ml=own.length:=by omega
   have e2:on.toNat=own.length:=by omega
   have e3:max on 0=own.length:=by omega
   have hlast:=hix (on-1) (by omega);have qK:ml+own.length<=B.length:=by omega
   have nL:=DO B own ml qK own.length (Zae _);rw[Zbn]at nL;have w9:IntKind.i64.wrap ((w0:Int)+own.length)=w0+own.length:=by
    have h1:=Wj cf co cn os on.toNat P;rw[hw0]at h1;have h2:=YB S;have h3:P.length<=(B7 S).length:=by rw[hP];simp
    have h4:S*S<=1000*1000:=Zb6 (by omega) (by omega);have h5:on.toNat*P.length<=1000*1000000:=Zb6 (by omega) (by omega);exact au (by omega)
   refine⟨⟨by omega,by omega⟩,⟨_,_,_,_,_,_,_,_,_,_,_,_,⟨⟨rfl,rfl,rfl,rfl⟩,⟨rfl,rfl,rfl⟩,⟨rfl,rfl,rfl⟩,rfl,rfl⟩,hR⟩,λr hr=>?_, ?_⟩
   ·obtain⟨c,_,rfl⟩:=Zal.1 hr;rfl
   refine aa.exit ?_;simp only[Ar,tN,if_true];refine⟨trivial, ?_⟩;simp only[<-vj,e1,Nat.min_self,w9];refine Le.zq ?_ ?_ ?_ ?_
   ·simp[];omega
   ·simp
   ·simp[e2,e3,nL,aL];exact Za3 (by simp)
   ·simp
  ·have g:oo=true:=by simpa using g
   subst g;have Jh:=Jh rfl;have hof:=hof rfl;refine aa.skip ?_;simp;refine aa.ab aw fw [4,5,7,8,12,13,14,15,16,17,18,19,20,163,164] ?_;simp[SC];refine aa.block ?_;refine aa.loop (λy:Nat=>⟨DM.look [(4,.v (.box [ti nt,ti on,ti ns,.sl (aS rules)])),(5,.v (.box [ti on,ti os,.sl (aL oc)])),(7,.v (.box [ti cf,ti co,ti cn])),(8,.ptr 1009 0),(12,.v (.box [ti S,.sl (ba aD),.sl (aB fin)])),(13,.ptr 2014 0),(14,.ptr 3015 0),(15,.ptr 4016 0),(16,.v (ti f)),(17,.v (ti t)),(18,.v (ti ml)),(19,.v (ti of)),(20,.v (ti ot)),(163,.v (ti on)),(164,.v (ti y))],
     cA [(1009,.box [.v (ti 0),.v (ti 0),.aI]),(2014,.box [.v (ti on),.v (ti S),.bk 3110 0]),(3015,.box [.bk 3110 0]),(3110,.arr 0 57 4 (aL (l9 B own ml y))),(4016,.box [.v (ti w0)])],7000,5190,[]⟩)
    (λy=>(y:Int)<=on) (λy=>on.toNat-y) 0 (Le.zq ?_ ?_ ?_ ?_) (by omega) (λy hy=>?_)
   ·simp
   ·simp
   ·simp[l9]
   ·simp
   refine aa.ab aw fw [4,5,7,8,12,13,14,15,16,17,18,19,20,163,164,165] ?_;simp[SD];refine aa.seq ?_;refine aa.cond rfl (λg=>?_) (λg=>?_)
   ·have g:(y:Int)<on:=by simpa using g
    have n1:IntKind.i64.wrap ((ml:Int)+y)=((ml+y:Nat):Int):=by rw[au (by omega)];omega
    have n2:IntKind.i64.wrap ((f:Int)-of)=f-of:=au (by omega);have n3:IntKind.i64.wrap ((y:Int)+1)=((y+1:Nat):Int):=by rw[au (by omega)];omega
    have hv:=Jh y g;have ha:=harg y of ot;obtain⟨⟨xc,xs,xr,xg⟩,sR⟩:∃c,lG ⟨on,os,oc⟩ y of ot=c:=⟨_,rfl⟩;rw[sR]at hv ha;obtain⟨⟨vc,vs,vr,vg⟩,jj⟩:∃c,own.getD y default=c:=⟨_,rfl⟩;rw[jj]at hv;simp only at ha;have cW:=hix y g;have Fb:ml+y<(l9 B own ml y).length:=by rw[vI];omega
    have rz:=fq (l:=l9 B own ml y) (y:=ml+y) Fb;rw[show((ml+y:Nat):Int)=(ml:Int)+y by omega]at rz;have e9:((ml:Int)+y).toNat=ml+y:=by omega
    refine aa.skip ?_;simp;refine aa.seq ?_;refine aa.block ?_;refine aa.ab aw fw [4,5,7,8,12,13,14,15,16,17,18,19,20,22,163,164] ?_;simp[SE];refine aa.dp aw fw [4,5,7,8,12,13,14,15,16,17,18,19,20,163,164] ?_;simp[SF,n1,n2,sR,hv,rz,e9];refine⟨⟨_,_,_,⟨rfl,rfl,rfl⟩,lI⟩,⟨_,_,_,_,_,_,_,_,_,_,_,_,_,_,⟨⟨rfl,rfl,rfl,rfl⟩,⟨rfl,rfl,rfl⟩,⟨rfl,rfl,rfl,rfl⟩,rfl,rfl,rfl⟩,by have:=hn.2.2.1;simp only at this;omega,by have:=hl.2.2.1;simp only at this;omega,by unfold Jf;omega,ha.1,ha.2⟩,⟨by omega,by rw[vI]at Fb;omega⟩, ?_⟩;refine aa.dp aw fw [4,5,7,8,12,13,14,15,16,17,18,19,20,163,164] ?_;simp[SG,n3];refine⟨y+1,Le.zq ?_ ?_ ?_ ?_,by omega,by omega⟩
    ·simp
    ·simp
    ·simp[mm,pJ,-List.getD_eq_getElem?_getD,jj,Cell.enc]
    ·simp
   ·have g:y=on.toNat:=by
     have:¬(y:Int)<on:=by simpa using g
     omega
    subst g;refine aa.exit ?_;simp only[Ar,tN,if_true];simp;simp only[<-vj];refine Le.zq ?_ ?_ ?_ ?_;iterate 3(·simp)
    ·simp
 ·have tk:(B7 S).take ((B7 S).map YA).length=B7 S:=by simp
  simp only[tk,tN,Ar];refine aa.iD aw fw (rs:=fm Ko [some [2014],some [4016],some [1009,3110],none,none]) (.inl rfl) (by kernel_rfl) [8,9,10] ?_;simp[Ko,fm,b8,bm,names,bJ];refine aa.ret ?_;simp[Kp]
theorem B9{α β:Type}(g:α->List β):∀(l:List α) (pre:List β) (x:β) (rest:List β),l.flatMap g=pre++x::rest->∃l1 a l2 p q,l=l1++a::l2/\g a=p++x::q/\pre=l1.flatMap g++p
 |[],pre,x,rest,h=>by simp at h
 |b::l,pre,x,rest,h=>by
  rw[Zbo]at h;have next:∀a',l.flatMap g=a'++x::rest->pre=g b++a'->∃l1 a l2 p q,b::l=l1++a::l2/\g a=p++x::q/\pre=l1.flatMap g++p:=by
   intro a' h2 h3;obtain⟨l1,a,l2,p,q,e1,e2,e3⟩:=B9 g l a' x rest h2;exact⟨b::l1,a,l2,p,q,by rw[e1];rfl,e2,by rw[h3,e3,Zbo,List.append_assoc]⟩
  rcases List.append_eq_append_iff.1 h with⟨a',h1,h2⟩|⟨c',h1,h2⟩
  ·exact next a' h2 h1
  ·cases c' with
   |nil=>exact next [] (by simpa using h2.symm) (by simpa using h1.symm)
   |cons y c'=>
    simp only[ZaH,Za6]at h2;obtain⟨rfl,h2⟩:=h2;exact⟨[],b,l,pre,c',rfl,h1,rfl⟩
theorem range_split{n:Nat}{l1 l2:List Nat}{a:Nat}(h:List.range n=l1++a::l2):l1=List.range a/\a<n:=by
 have hl:=congrArg List.length h;simp only[ZcE,ZaA,Zba]at hl;have h1:(List.range n)[l1.length]? =some a:=by rw[h];simp
 rw[List.getElem?_range (by omega)]at h1;have ea:l1.length=a:=by simpa using h1
 have h2:(List.range n).take l1.length=l1:=by rw[h];simp
 rw[List.take_range,ea,ZcO (by omega)]at h2;exact⟨h2.symm,by omega⟩
theorem PG{S:Nat}{pre rest:List (Nat×Nat)}{p:Nat×Nat}(h:B7 S=pre++p::rest):
  ∃len f,p=(f,f+len)/\f+len<S/\pre=(List.range len).flatMap (qb S)++(List.range f).map λb=>(b,b+len):=by
 obtain⟨l1,a,l2,q,r,e1,e2,e3⟩:=B9 (qb S) _ _ _ _ h;obtain⟨rfl,ha⟩:=range_split e1;unfold qb at e2;obtain⟨l1',l2',e4,e5,e6⟩:=List.map_eq_append_iff.1 e2;obtain⟨b,l3,rfl,rfl,e7⟩:=List.map_eq_cons_iff.1 e6;obtain⟨rfl,hb⟩:=range_split e4;exact⟨a,b,rfl,by omega,by rw[e3,<-e5]⟩
theorem DP{n:aG}{l:aM}{S:Nat}(a:Nat)(B:List Cell)(k:Nat):((List.range k).map λb=>(b,b+a)).foldl (λB (p:Nat×Nat)=>l9 B (ji n l ⟨n.an,l.aN,B⟩ p.1 p.2) (cJ n.an l.aN p.1 p.2).toNat n.an.toNat) B=(List.range k).foldl (rJ n l a) B:=by
 rw[Zb4]
 congr 1
theorem DQ{n:aG}{l:aM}{S:Nat}(hS:l.aN=S)(len f:Nat):iW n l ((List.range len).flatMap (qb S)++(List.range f).map λb=>(b,b+len))=
  (List.range f).foldl (rJ n l len) ((List.range len).foldl (H9 n l) (List.replicate (dQ n.an l.aN).toNat ⟨0,0,0,0⟩)):=by
 unfold iW;rw[Zat,DP (S:=S),List.foldl_flatMap]
 congr 2
 funext B a;unfold qb H9;rw[DP (S:=S),hS,Zak]
theorem Mg{n:aG}{l:aM}{S:Nat}(hS:l.aN=S):iW n l (B7 S)=iS n l:=by
 have:=DQ (n:=n) hS S 0;simp only[List.range_zero,ZbX,ZaJ,ZbU]at this;rw[show B7 S=(List.range S).flatMap (qb S)from rfl,this];unfold iS;rw[hS,Zak]
theorem Wm{n:aG}{l:aM}{S:Nat}(hn:oK n)(hl:vD l)(hS:l.aN=S)(ha:∀a∈l.aD,a.f<=a.t)(hs:I0 l){pre rest:List (Nat×Nat)}{p:Nat×Nat}(h:B7 S=pre++p::rest):
  p.1<=p.2/\p.2<S/\P4 ⟨n,l,⟨n.an,l.aN,iW n l pre⟩,p.1,p.2⟩/\fK n l (iW n l pre):=by
 obtain⟨len,f,rfl,cW,rfl⟩:=PG h;rw[DQ hS];have h3:=hl.1;have h4:=hl.2.1;have hr:=vE hn hl len (by omega);have hc:=vL hn hl hr f (len:=len) (by omega);have hd:=Bp hn hl ha hr (Dk hn hl ha len (by omega)) f (by omega);refine⟨by simp only;omega,cW,⟨⟨hn,hl,hc.ok hn hl,ha, ?_, ?_, ?_⟩,⟨hn,hl,hc.ok hn hl, ?_⟩,⟨hn.1,hn.2.1,h3,h4,hc.1⟩,hs⟩,hc⟩
 ·simp only[Zak];omega
 ·simp only[Zak];omega
 ·simp only[Zak];exact λh s' t' a1 a2 a3 a4 a5 a6=>hd h s' t' a1 a2 a4 (by omega) (by omega)
 ·simp only;omega
structure YC(x x':Input)(fr od nw:Nat):Prop where
 le:fr+od<=x.aj.length
 len:x'.aj.length+od=x.aj.length+nw
 w1:OZ x x' 0 0 fr
 w2:OZ x x' (fr+od) (fr+nw) (x.aj.length-(fr+od))
theorem YC.of{x:Input}{fr od:Nat}{new:List bD}(h1:fr<=x.aj.length)(h2:od<=x.aj.length-fr):YC x (cQ x fr od new) fr od new.length:=
 ⟨by omega,by rw[xz h1 h2];omega,KX h1 h2,Ig h1 h2⟩
theorem PH{n:aG}{x x':Input}{fr od nw:Nat}(C:YC x x' fr od nw){hd f' t' f t:Int}(hn:oK n)(hx:jX x)(fZ:jX x')(h0:0<=hd)(h3:hd<n.an)
  (hk:gH 0 f' t' fr od nw (2*x.aj.length+1)=⟨0,f,t,true⟩):0<=f'/\f'<=t'/\t'<2*x.aj.length+1/\
  (lG (cC n (aH x)) hd f' t').val=(lG (cC n (aH x')) hd f t).val/\(lG (cC n (aH x)) hd f' t').ez=(lG (cC n (aH x')) hd f t).ez/\
   (∀(k0:Nat) r,n.rules[k0]? =some r->(lG (cC n (aH x)) hd f' t').ez=k0->r.kind≠2->(lG (cC n (aH x')) hd f t).arg=(lG (cC n (aH x)) hd f' t').arg+(f-f')):=by
 have hle:=C.le;have hlen:=C.len;unfold gH at hk;split at hk
 ·cases hk
 ·rename_i hb;unfold nv at hb;obtain⟨F,rfl⟩:=Zad (a:=f') (by omega);obtain⟨T',rfl⟩:=Zad (a:=t') (by omega);refine⟨by omega,by omega,by omega, ?_⟩;split at hk
  ·rename_i he;simp only[KR.mk.injEq,and_true,true_and]at hk;obtain⟨rfl,rfl⟩:=hk;unfold E4 at he;have hr:reach x x' 0 0 fr T':=by
    unfold reach;split at he
    ·left;omega
    ·right;left;omega
   obtain⟨k',e,r1,r2,r3⟩:=Dl hn hx fZ C.w1 (hd:=hd) (s:=F) (t:=T') h0 h3 (by omega) (by omega) (by split at he<;>omega) hr
   rw[show F+2*0-2*0=F by omega]at r1 r2 r3;rw[show T'+2*0-2*0=T' by omega]at e;subst e;exact⟨r1,r2,λk0 r h1 h2 h4=>by have:=r3 k0 r h1 h2 h4;omega⟩
  ·split at hk
   ·rename_i he hf;simp only[KR.mk.injEq,and_true,true_and]at hk;obtain⟨h5,h6⟩:=hk;have hr:reach x x' (fr+od) (fr+nw) (x.aj.length-(fr+od)) T':=by
     unfold reach;right;right;omega
    obtain⟨k',e,r1,r2,r3⟩:=Dl hn hx fZ C.w2 (hd:=hd) (s:=F) (t:=T') h0 h3 (by omega) (by omega) (by omega) hr;have e1:((F+2*(fr+nw)-2*(fr+od):Nat):Int)=f:=by omega
    have e2:(k':Int)=t:=by omega
    rw[e1,e2]at r1 r2 r3;exact⟨r1,r2,λk0 r h1 h2 h4=>by have:=r3 k0 r h1 h2 h4;omega⟩
   ·cases hk
theorem before_trans{a b c:bn}(h1:before a b)(h2:before b c):before a c:=by
 unfold before at*
 omega
theorem pR{l:aM}{aV:Int}(h:qD l aV):∀i j:Nat,i<j->j<l.aD.length->before (l.aD.getD i default) (l.aD.getD j default):=by
 intro i j Wx;induction j with
 |zero=>omega
 |succ j ih=>
  intro hj;have h1:=(h.2.2 (j+1) hj).2.resolve_left (by omega);rw[show j+1-1=j by omega]at h1;by_cases e:i=j
  ·rw[e];exact h1
  ·exact before_trans (ih (by omega) (by omega)) h1
theorem DR{l:aM}{aV:Int}(h:qD l aV):I0 l:=by
 intro i j Wx hj;by_cases e:i=j
 ·subst e;right;exact⟨rfl,Zcx _⟩
 ·have:=pR h i j (by omega) hj;unfold before at this;omega
theorem PJ{l:aM}{aV:Int}(h:qD l aV){fr to e g:Int}{a:Nat}(ha:a<l.aD.length)(h1:(l.aD.getD a default).f=fr/\(l.aD.getD a default).t=to/\(l.aD.getD a default).term=e):
  ∀m,m<=l.aD.length->yX l.aD fr to e g m=if a<m then(a:Int)else g:=by
 intro m;induction m with
 |zero=>intro _;rfl
 |succ m ih=>
  intro hm;rw[B6];by_cases e1:m=a
  ·subst e1;rw[if_pos h1,if_pos (by omega)]
  ·rw[if_neg,ih (by omega)]
   ·by_cases e2:a<m
    ·rw[if_pos e2,if_pos (by omega)]
    ·rw[if_neg e2,if_neg (by omega)]
   ·rintro⟨h2,h3,h4⟩;rcases Zbz m a with h5|h5
    ·have:=pR h m a h5 ha;unfold before at this;omega
    ·have:=pR h a m (by omega) (by omega);unfold before at this;omega
theorem YD{n:aG}{l:aM}{h:Int}{s t k:Nat}{g:Int}{v:br}(d:eP n l h s t k g v):∃r,n.rules[k]? =some r:=by
 cases d<;>exact⟨_,by assumption⟩
theorem Wn{n:aG}{l:aM}{h:Int}{s t k:Nat}{g:Int}{v:br}(d:eP n l h s t k g v){r:bC}(hr:n.rules[k]? =some r)(h2:r.kind=2):∃a:Nat,g=a/\a<l.aD.length/\(l.aD.getD a default).f=s/\(l.aD.getD a default).t=t/\(l.aD.getD a default).term=r.a:=by
 cases d with
 |term hk h1 ha h3 h4 h5 hv=>
  rw[hr]at hk;cases hk;obtain⟨cW,he⟩:=Zas.1 ha;refine⟨_,rfl,cW, ?_, ?_, ?_⟩<;>simp[List.getD,ha,h3,h4,h5]
 |empty hk h1 hv=>rw[hr]at hk;cases hk;omega
 |unary hk h1 d hv=>rw[hr]at hk;cases hk;omega
 |binary hk h1 hs ht d1 d2 hv=>rw[hr]at hk;cases hk;omega
theorem Mh{n:aG}{x x':Input}{fr od nw:Nat}(C:YC x x' fr od nw){hd f' t':Int}{f t:Nat}(hn:oK n)(hx:jX x)(fZ:jX x'){aV:Int}(hv:qD (aH x') aV)(h0:0<=hd)(h3:hd<n.an)(p8:f<=t)(ht:(t:Int)<(aH x').aN)
  (hk:gH 0 f' t' fr od nw (2*x.aj.length+1)=⟨0,f,t,true⟩):nZ n (aH x') (lG (cC n (aH x)) hd f' t') f t (f-f')=lG (cC n (aH x')) hd f t:=by
 obtain⟨k1,k2,k3,r1,r2,r3⟩:=PH C hn hx fZ h0 h3 hk;obtain⟨F,rfl⟩:=Zad k1;obtain⟨T',rfl⟩:=Zad (a:=t') (by omega);have Kf:(aH x).aN=2*x.aj.length+1:=rfl;have g1:=kO hn (ny hx) (nS hx) h0 h3 (s:=F) (t:=T') (by omega) (by omega);have g2:=kO hn (ny fZ) (nS fZ) h0 h3 p8 ht;obtain⟨old,ho⟩:∃c,lG (cC n (aH x)) hd F T'=c:=⟨_,rfl⟩;obtain⟨new,hw⟩:∃c,lG (cC n (aH x')) hd f t=c:=⟨_,rfl⟩;rw[ho]at r1 r2 r3 g1⊢;rw[hw]at r1 r2 r3 g2⊢;have C1:old.cost=new.cost/\old.size=new.size:=by
  have h:=r1;simp only[Cell.val,br.mk.injEq]at h;exact h
 unfold nZ;rcases g2.top with e2|⟨⟨k,ek,d⟩,_⟩
 ·have hr:old.ez= -1:=by rw[r2,e2];rfl
  rw[if_pos (by omega)];rcases g1.top with e1|⟨⟨k',ek',_⟩,_⟩
  ·rw[e1,e2]
  ·omega
 ·obtain⟨r,hr⟩:=YD d;obtain⟨cW,_⟩:=Zas.1 hr;have jS:old.ez=k:=by rw[r2,ek]
  rw[if_neg (by omega)];have hg:n.rules.getD old.ez.toNat default=r:=by rw[jS];simp[List.getD,hr]
  rw[hg];by_cases h2:r.kind=2
  ·rw[if_neg (by omega)];obtain⟨a,ea,ha,h4⟩:=Wn d hr h2;rw[PJ hv ha h4 _ (Zae _),if_pos ha];refine Cell.ext' ?_ ?_ ?_
   ·simp only[Cell.val];rw[C1.1,C1.2]
   ·simp only;exact r2
   ·simp only;exact ea.symm
  ·rw[if_pos h2];have:=r3 k r hr jS h2;refine Cell.ext' ?_ ?_ ?_
   ·simp only[Cell.val];rw[C1.1,C1.2]
   ·simp only;exact r2
   ·simp only;exact this.symm
theorem YE(f t cf co cn st:Int):(gH 0 f t cf co cn st).h=0:=by
 unfold gH;split
 ·rfl
 ·split
  ·rfl
  ·split<;>rfl
theorem DS{cf co cn fr to os k:Int}(h:zd cf co cn fr to os k):gH 0 (fr-k) (to-k) cf co cn os=⟨0,fr,to,true⟩:=by
 obtain⟨h1,h2,h3⟩:=h;unfold Me at h1 h2 h3;have h4:=YE (fr-k) (to-k) cf co cn os;obtain⟨q,hq⟩:∃q,gH 0 (fr-k) (to-k) cf co cn os=q:=⟨_,rfl⟩;rw[hq]at h1 h2 h3 h4⊢;obtain⟨a,b,c,d⟩:=q;simp only at h1 h2 h3 h4;subst h1 h2 h3 h4;rfl
theorem Ji{cf co cn fr to os:Int}(h:(cm cf co cn fr to os).ok=true):gH 0 (cm cf co cn fr to os).f (cm cf co cn fr to os).t cf co cn os=⟨0,fr,to,true⟩:=by
 unfold cm at h⊢;split
 ·rename_i h1;have:=DS h1;simpa using this
 ·rename_i h1;rw[if_neg h1]at h;split
  ·rename_i h2;exact DS h2
  ·rename_i h2;rw[if_neg h2]at h;cases h
theorem PK{f t cf co cn fr to os:Int}(h:gH 0 f t cf co cn os=⟨0,fr,to,true⟩):(cm cf co cn fr to os).ok=true:=by
 have h0:=h;unfold gH at h;split at h
 ·cases h
 ·split at h
  ·simp only[KR.mk.injEq,and_true,true_and]at h;obtain⟨rfl,rfl⟩:=h;unfold cm;rw[if_pos];unfold zd Me;rw[Int.sub_zero,Int.sub_zero,h0];exact⟨rfl,rfl,rfl⟩
  ·split at h
   ·simp only[KR.mk.injEq,and_true,true_and]at h;obtain⟨h1,h2⟩:=h;unfold cm;split
    ·rfl
    ·rw[if_pos];unfold zd Me;rw[show fr-2*(cn-co)=f by omega,show to-2*(cn-co)=t by omega,h0];exact⟨rfl,rfl,rfl⟩
   ·cases h
theorem rX(g:Nat->Nat)(w:Nat):∀m:Nat,(List.range m).foldl (λw b=>w+g b) w=w+dm g m
 |0=>rfl
 |m+1=>by
  rw[ZaE,Zat,rX g w m];simp only[ZaB,ZbU,dm];omega
theorem PL(cf co cn os:Int)(nn S:Nat):rW cf co cn os nn (B7 S)=dm (λs=>dm (λj=>if(cm cf co cn s ((s+j:Nat):Int) os).ok then 0 else nn) (S-s)) S:=by
 rw[<-Wi (λs j=>if(cm cf co cn s ((s+j:Nat):Int) os).ok then 0 else nn) S];unfold rW B7;rw[List.foldl_flatMap];have e:∀(w a:Nat),(qb S a).foldl (λw p=>w+if(cm cf co cn p.1 p.2 os).ok then 0 else nn) w=w+dm (λb=>if(cm cf co cn b ((b+a:Nat):Int) os).ok then 0 else nn) (S-a):=by
  intro w a;unfold qb;rw[Zb4];exact rX (λb=>if(cm cf co cn b ((b+a:Nat):Int) os).ok then 0 else nn) w (S-a)
 simp only[e];rw[rX];simp
theorem arg_ok{n:aG}{l:aM}(hn:oK n)(hl:vD l)(ha:∀a∈l.aD,a.f<=a.t)(h f t:Int): -1<=(lG (cC n l) h f t).arg/\(lG (cC n l) h f t).arg<=10000000000:=by
 have h3:=hl.1;have h4:=hl.2.1;have h5:=hl.2.2.1;by_cases hb:h<0\/h>=n.an\/f<0\/f>t\/t>=l.aN
 ·have:lG (cC n l) h f t=fc:=by
   unfold lG;rw[if_pos];exact hb
  rw[this];simp[fc]
 ·obtain⟨F,rfl⟩:=Zad (a:=f) (by omega);obtain⟨T',rfl⟩:=Zad (a:=t) (by omega);rcases(kO hn hl ha (h:=h) (s:=F) (t:=T') (by omega) (by omega) (by omega) (by omega)).top with e|⟨⟨k,_,d⟩,_⟩
  ·rw[e];simp[fc]
  ·obtain⟨g,hg⟩:∃g,(lG (cC n l) h F T').arg=g:=⟨_,rfl⟩;obtain⟨v,hv⟩:∃v,(lG (cC n l) h F T').val=v:=⟨_,rfl⟩;rw[hg,hv]at d;rw[hg];have hT:(T':Int)<1000:=by omega
   have hF:F<=T':=by omega
   clear hg hb hv;cases d with
   |empty=>omega
   |term hk h1 ha h2=>
    have:=(Zas.1 ha).1;omega
   |unary=>omega
   |binary=>omega
theorem upd_ok{n:aG}{x x':Input}{fr od nw:Nat}(C:YC x x' fr od nw)(hn:oK n)(hx:jX x)(fZ:jX x'){aV:Int}(hv:qD (aH x') aV):UpdOk n (cC n (aH x)) (aH x') fr od nw (2*x'.aj.length+1):=by
 have hl:=ny hx;have Y6:=ny fZ;have Kf:(aH x).aN=2*x.aj.length+1:=rfl;have N9:(aH x').aN=2*x'.aj.length+1:=rfl;have hS:(aH x').aN=(2*x'.aj.length+1:Nat):=by omega
 have c1:=C.le;have c2:=C.len;have l1:=hx.2.1;have l2:=fZ.2.1;refine⟨hn,Y6,hS,rfl,⟨hn.1,hn.2.1,hl.1,hl.2.1,(Df hn hl).1⟩,arg_ok hn hl (nS hx),⟨by omega,by omega⟩,⟨by omega,by omega⟩,λpre p rest h=>?_,λpre p rest h ho y hy=>?_⟩
 ·obtain⟨r1,r2,r3,_⟩:=Wm hn Y6 hS (nS fZ) (DR hv) h;exact⟨r1,r2,r3⟩
 ·obtain⟨r1,r2,r3,_⟩:=Wm hn Y6 hS (nS fZ) (DR hv) h;have hk:=Ji ho;have hos:(cC n (aH x)).aN=2*x.aj.length+1:=rfl;rw[hos]at hk⊢;rw[Mh C hn hx fZ hv (by omega) hy r1 (by omega) hk];have g1:=kO hn Y6 (nS fZ) (h:=y) (s:=p.1) (t:=p.2) (by omega) hy r1 (by omega);have g2:=xx r3.C y hy;simp only[Zak]at g2;exact g1.unique g2
theorem PM{n:aG}{x x':Input}{fr od nw:Nat}(C:YC x x' fr od nw)(hn:oK n)(hx:jX x)(fZ:jX x'){k:Int}(hf:mr x' k):
  aT Tryz.prog 13 [n.enc,(cC n (aH x)).enc,x'.enc,.agg [ti fr,ti od,ti nw]]
   (.eF [(cC n (aH x')).enc,ti (dm (λs=>dm (λj=>if(cm fr od nw s ((s+j:Nat):Int) (2*x.aj.length+1)).ok then 0 else n.an.toNat) (2*x'.aj.length+1-s)) (2*x'.aj.length+1):Nat),ti 0]):=by
 have c1:=C.le;have c2:=C.len;have U:=upd_ok C hn hx fZ (NX hf);have:=t13 n _ x' _ fr od nw _ U (JA hf) (by have:=fZ.2.1;omega) (by unfold TS;omega) (by show(2*(x.aj.length:Int)+1)=_;omega);rw[Mg U.hS,PL]at this;have hos:(cC n (aH x)).aN=2*x.aj.length+1:=rfl;rw[hos]at this;have e:(cC n (aH x')).enc=.agg [ti n.an,ti ((2*x'.aj.length+1:Nat):Int),.sl (aL (iS n (aH x')))]:=by
  unfold cC bV.enc;simp only;rw[show(aH x').aN=((2*x'.aj.length+1:Nat):Int)from U.hS]
 rw[e];exact this
theorem t40(l:List Cell)(hl:l.length<=1000000000):aT Tryz.prog 40 [.sl (aL l),.sl (aL l)] (.bool true):=by
 have aw:=ed;refine c40.ok (by simp) (aJ ?_);simp;refine aa.ab aw fw [0,1] ?_;simp[aa9];refine aa.seq ?_;refine aa.ab aw fw [0,1,10] ?_;simp[aba];refine aa.cond rfl (λg=>by cases g) (λ_=>?_);refine aa.skip ?_;simp;refine aa.seq ?_;refine aa.ab aw fw [0,1,5] ?_;simp[abb];refine aa.block ?_;refine aa.loop (λy:Nat=>⟨DM.look [(0,.v (.sl (aL l))),(1,.v (.sl (aL l))),(5,.v (ti y))],cA [],2000,1000,[]⟩)
  (λy=>y<=l.length) (λy=>l.length-y) 0 (Le.aC ?_ ?_ ?_ ?_) (by omega) (λy hy=>?_)
 iterate 4(·simp)
 refine aa.seq ?_;refine aa.ab aw fw [0,1,5,14] ?_;simp[abc];refine aa.cond rfl (λg=>?_) (λg=>?_)
 ·have g:y<l.length:=by simpa using g
  have ro:=fq g;obtain⟨⟨a,b,c,d⟩,hx⟩:∃x,l.getD y default=x:=⟨_,rfl⟩;rw[hx]at ro;simp only[Cell.enc]at ro;have w1:IntKind.i64.wrap ((y:Int)+1)=((y+1:Nat):Int):=by rw[au (by omega)];omega
  refine aa.skip ?_;simp;refine aa.seq ?_;refine aa.block ?_;refine aa.ab aw fw [0,1,5,25] ?_;simp[abd,g,ro,oq,fe];refine aa.cond rfl (λg=>by cases g) (λ_=>?_);refine aa.skip ?_;simp;refine aa.dp aw fw [0,1,5] ?_;simp[abe,w1];refine⟨y+1,Le.aC ?_ ?_ ?_ ?_,by omega,by omega⟩<;>simp
 ·refine aa.exit ?_;simp;refine aa.ab aw fw [4] ?_;simp[abf];refine aa.ret ?_;simp[Sk]
abbrev sK(args:List T)(r:T):DM.Spec:=cy (λts=>ts=args) (λ_=>r) false
theorem okK1{f:Nat}{args:List T}{r:T}{l:List (Nat×DM.Spec)}(h:ay Tryz.prog (aW l))(k:aT Tryz.prog f args r):ay Tryz.prog (aW ((f,sK args r)::l)):=by
 refine ay.cons h ?_;rintro ts rfl;exact⟨k,λh=>by cases h⟩
theorem t17(c:bV)(hl:c.cells.length<=1000000000):aT Tryz.prog 17 [c.enc,c.enc] (.bool true):=by
 obtain⟨cn,cs,cl⟩:=c;have aw:=okK1 ed (t40 cl hl);refine c17.ok (by simp) (aJ ?_);simp[bV.enc];refine aa.ab aw fw [2,3] ?_;simp[abg];refine aa.ab aw fw [4] ?_;simp[abh];refine aa.ret ?_;simp[Sl]
theorem Jj{x:Input}{t:Int}(h:De x t)(ht:t<=5):mr x 60:=by
 have h1:=h.1;have hl:(x.insert.length:Int)=t:=by
  by_cases e:(x.insert.length:Int)=t
  ·exact e
  ·exact absurd (.inr (.inr (.inl e))) h1
 have h2:(x.aj.length:Int)<=60:=by
  by_cases e:(x.aj.length:Int)>60
  ·exact absurd (.inr (.inl e)) h1
  ·omega
 exact⟨⟨h2,by omega⟩,by rw[hl];exact h⟩
theorem Wo{z:Ask}(h:Cq z):mr z.x 60/\mr (rG z) 60:=by
 obtain⟨h1,h2,_⟩:=h;have h3:z.n.aV<=5:=by omega
 have h5:De z.x z.n.aV:=Classical.not_not.1 λc=>h1 (.inr (.inr (.inr (.inr (.inr (.inr (.inl c)))))));exact⟨Jj h5 h3,Jj h2 h3⟩
def YF(n:aG)(x x':Input)(fr od nw:Nat):Nat:=dm (λs=>dm (λj=>if(cm fr od nw s ((s+j:Nat):Int) (2*x.aj.length+1)).ok then 0 else n.an.toNat) (2*x'.aj.length+1-s)) (2*x'.aj.length+1)
theorem upd_to{n:aG}{x x':Input}{fr od nw:Nat}(C:YC x x' fr od nw)(hn:oK n)(hx:jX x)(fZ:jX x'){k:Int}(hf:mr x' k):
  aT Tryz.prog 13 [n.enc,(cC n (aH x)).enc,x'.enc,.agg [ti fr,ti od,ti nw]] (.eF [(cC n (aH x')).enc,ti (YF n x x' fr od nw),ti 0]):=PM C hn hx fZ hf
theorem PN{n:aG}{x:Input}(hn:oK n)(hx:jX x):(iS n (aH x)).length<=1000000000:=by
 have hl:=ny hx;have h1:=(Df hn hl).1;have h2:=kQ (nn:=n.an) (st:=(aH x).aN) (by have:=hl.1;omega);have hb:=dY hl.2.1 (aH x).aN.toNat (by have:=hl.1;omega);have:=cN (a:=n.an) (A:=1000) (b:=pre (aH x).aN (aH x).aN.toNat) (B:=1000000) (by have:=hn.1;omega) hn.2.1 hb.1 (by have:=hl.2.1;have:=hl.1;omega);omega
def DT(fr:Int)(s t:Nat):Bool:=decide ((s:Int)<=2*fr/\(t:Int)+3>=2*fr)
theorem Jk{fr:Nat}{k s j:Nat}(hk:fr<=k)(h:s+j<2*k+1)(hn:DT fr s (s+j)=false):(cm fr (0:Nat) (0:Nat) s ((s+j:Nat):Int) (2*k+1)).ok=true:=by
 have hnb:¬nv 0 s ((s+j:Nat):Int) fr (0:Nat) (0:Nat) (2*k+1):=by unfold nv;omega
 have h1:=of_decide_eq_false hn;refine PK (f:=s) (t:=((s+j:Nat):Int)) ?_;unfold gH;rw[if_neg hnb];by_cases h2:E4 ((s+j:Nat):Int)<=fr
 ·rw[if_pos h2]
 ·unfold E4 at h2;rw[if_neg (by unfold E4;exact h2),if_pos (by split at h2<;>omega)]
  simp
def oT(fr:Int)(m s j:Nat):Nat:=if DT fr s (s+j)then m else 0
def tz(fr:Int)(m S s:Nat):Nat:=dm (oT fr m s) (S-s)
theorem Mj{n:aG}{x:Input}{fr:Nat}{m:Nat}(hm:n.an.toNat=m)(hk:fr<=x.aj.length):YF n x x fr 0 0<=dm (tz fr m (2*x.aj.length+1)) (2*x.aj.length+1):=by
 unfold YF;refine FW λs hs=>FW λj hj=>?_;rw[hm];unfold oT;cases hc:DT fr s (s+j)with
 |true=>simp only[if_true];split<;>omega
 |false=>rw[Jk hk (by omega) hc];simp
theorem Ca(fr:Int)(m S s:Nat):∀k,dm (oT fr m s) k<=k*m
 |0=>by simp[dm]
 |k+1=>by
  have:=Ca fr m S s k;have h:oT fr m s k<=m:=by unfold oT;split<;>omega
  simp only[dm,Nat.succ_mul];omega
theorem NS(fr:Int)(m S:Nat):∀s,dm (tz fr m S) s<=s*(S*m)
 |0=>by simp[dm]
 |s+1=>by
  have h1:=NS fr m S s;have h2:=Ca fr m S s (S-s);have h3:(S-s)*m<=S*m:=ZaM m (by omega);have h4:tz fr m S s<=S*m:=ZaC h2 h3;simp only[dm,Nat.succ_mul];omega
theorem FX{x:Input}{fr:Nat}:cQ x fr 0 []=x:=by
 obtain⟨a,b,c⟩:=x;simp[cQ]
theorem t6(z:Ask)(hl:z.n.rules.length<=9223372036854775807/\z.x.insert.length<=9223372036854775807):aT Tryz.prog 6 [z.enc] (.bool true):=by
 obtain⟨n,x,fr,od,new⟩:=z;have aw:=ok9 (T1 (TQ (l:=[]) ay.nil));have Wp:∀(nt nn ns:Int) (rules:List bC) (ct:List bD) (ins:List Int) (sw:Int),(aa Tryz.prog 80 (.seq (.seq (.region false Xy) (.cond (.tmp 14) (.seq (.region false d6r3) .ret) .skip)) (match d6 with|.seq _ (.seq _ (.seq _ r))=>r|_=>.skip)) (finQ MZ (.bool true)) ⟨DM.look [(1,.v (.box [ti nt,ti nn,ti ns,.sl (aS rules),.sl (aZ ct),.sl (aB ins),ti sw,ti fr,ti 0,.sl []]))],cA [],1600,1000,[]⟩)->
   n=⟨nt,nn,ns,rules⟩->x=⟨ct,ins,sw⟩->aT Tryz.prog 6 [(⟨n,x,fr,od,new⟩:Ask).enc] (.bool true):=by
  rintro nt nn ns rules ct ins sw h rfl rfl;refine c6.ok (by simp) (aJ ?_);simp[Ask.enc];refine aa.ab aw fw [1] ?_;simp[d6r0];refine aa.ab aw fw [1] ?_;simp[d6r1];refine aa.le (Le.aC (o:=[(1002,.box [.v (ti nt),.v (ti nn),.v (ti ns),.v (.sl (aS rules)),.v (.sl (aZ ct)),.v (.sl (aB ins)),.v (ti sw),.v (ti fr),.v (ti 0),.v (.sl [])])]) (l:=[(1,.ptr 1002 0)]) (nxt':=1500) ?_ ?_ ?_ ?_) ?_;iterate 4(·simp)
  refine aa.le (Le.aC (o:=[]) (l:=[(1,.v (.box [ti nt,ti nn,ti ns,.sl (aS rules),.sl (aZ ct),.sl (aB ins),ti sw,ti fr,ti 0,.sl []]))]) (nxt':=1600) ?_ ?_ ?_ ?_) h;iterate 3(·simp)
  ·simp
 by_cases g:Cq ⟨n,x,fr,0,[]⟩
 ·obtain⟨hn,hx,sR,qK,hc4,hn3⟩:=O2 g;obtain⟨hf1,hf2⟩:=Wo g;have hfit0:=qK;obtain⟨f1,f2,f3,f4,f5,f6⟩:=qK;simp only at f1 f2 f3 f4 f5 f6 hc4 hn3 hn hx;obtain⟨fr,rfl⟩:=Zad f1;have C0:YC x (cQ x fr 0 []) fr 0 0:=YC.of (by omega) (by omega);rw[FX]at C0;have hU:=upd_to C0 hn hx hx hf1;have Wv:=ny hx;have hSm:=t17 (cC n (aH x)) (PN hn hx);have P1:1<=n.an:=hn.1;have O5:n.an<=1000:=hn.2.1;obtain⟨m,hm⟩:=Zad (a:=n.an) (by omega);have hW:=Mj (n:=n) (x:=x) (fr:=fr) (m:=m) (by omega) (by omega);obtain⟨W,hWW⟩:∃W,YF n x x fr 0 0=W:=⟨_,rfl⟩;rw[hWW]at hU hW;obtain⟨nt,nn,ns,rules⟩:=n;obtain⟨ct,ins,sw⟩:=x;simp only at hm P1 O5 hc4;have hSt:(aH ⟨ct,ins,sw⟩).aN=((2*ct.length+1:Nat):Int):=by show(2*(ct.length:Int)+1)=_;omega
  obtain⟨⟨l0,la0,lf0⟩,hL0⟩:∃l,aH ⟨ct,ins,sw⟩=l:=⟨_,rfl⟩;rw[hL0]at hU Wv hSt hSm;obtain⟨D0,hD0⟩:∃D,iS ⟨nt,nn,ns,rules⟩ ⟨l0,la0,lf0⟩=D:=⟨_,rfl⟩;simp only[cC,hD0,aG.enc,bV.enc,Input.enc]at hU hSm;simp only at hSt hW;obtain⟨S,hS⟩:∃S,2*ct.length+1=S:=⟨_,rfl⟩;rw[hS]at hSt hW;have hS9:S<=9:=by omega
  have hΓ2:=ok9 (T1 (TQ (okK1 (l:=[]) ay.nil hU)));have hΓ4:=ok9 (okK1 (l:=[]) ay.nil hSm);have hwl:=NS (fr:Int) m S;have hwi:=Ca (fr:Int) m S;have hb9:S*(S*m)<=9*(9*1000):=Zb6 hS9 (Zb6 hS9 (by omega));have hwS:∀s,s<S->tz (fr:Int) m S s=dm (oT (fr:Int) m s) (S-s):=λ_ _=>rfl;have hsS:∀s,dm (tz (fr:Int) m S) (s+1)=dm (tz (fr:Int) m S) s+tz (fr:Int) m S s:=λ_=>rfl;have hsJ:∀s j,dm (oT (fr:Int) m s) (j+1)=dm (oT (fr:Int) m s) j+oT (fr:Int) m s j:=λ_ _=>rfl;refine Wp nt nn ns rules ct ins sw ?_ rfl rfl;simp only[d6];refine aa.seq ?_;refine aa.ab aw fw [1,14] ?_;simp[Xy,and_assoc,hl.1,hl.2,show eS []=[]from rfl,g];refine⟨⟨[],rfl⟩, ?_⟩;refine aa.cond rfl (λg=>by cases g) (λ_=>?_);refine aa.skip ?_;simp;refine aa.ab aw fw [1,3] ?_;simp[d6r4,and_assoc,hx,hn,hL0,Wv,hD0];refine aa.le (Le.aC (o:=[]) (l:=[(1,.v (.box [ti nt,ti nn,ti ns,.sl (aS rules),.sl (aZ ct),.sl (aB ins),ti sw,ti fr,ti 0,.sl []])),(3,.v (.box [ti nn,ti l0,.sl (aL D0)]))]) (nxt':=1800) ?_ ?_ ?_ ?_) ?_;iterate 4(·simp)
  refine aa.ab hΓ2 fw [1,3,4,5,6] ?_;simp[d6r5,and_assoc];refine⟨⟨[],rfl⟩, ?_⟩;refine aa.le (Le.aC (o:=[]) (l:=[(1,.v (.box [ti nt,ti nn,ti ns,.sl (aS rules),.sl (aZ ct),.sl (aB ins),ti sw,ti fr,ti 0,.sl []])),(3,.v (.box [ti nn,ti l0,.sl (aL D0)])),(4,.v (.box [ti nn,ti l0,.sl (aL D0)])),(5,.v (ti W)),(6,.v (ti 0))]) (nxt':=2000) ?_ ?_ ?_ ?_) ?_;iterate 4(·simp)
  subst hSt;refine aa.ab aw fw [1,3,4,5,6,7] ?_;simp[d6r6];refine aa.seq ?_;refine aa.ab aw fw [1,3,4,5,6,7,8] ?_;simp[d6r7];refine aa.block ?_;refine aa.loop (λs:Nat=>⟨DM.look [(1,.v (.box [ti nt,ti nn,ti ns,.sl (aS rules),.sl (aZ ct),.sl (aB ins),ti sw,ti fr,ti 0,.sl []])),(3,.v (.box [ti nn,ti S,.sl (aL D0)])),(4,.v (.box [ti nn,ti S,.sl (aL D0)])),(5,.v (ti W)),(6,.v (ti 0)),(7,.v (ti (dm (tz (fr:Int) m S) s))),(8,.v (ti s))],cA [],3000,1000,[]⟩)
   (λs=>s<=S) (λs=>S-s) 0 (Le.aC ?_ ?_ ?_ ?_) (by omega) (λs hs=>?_)
  iterate 3(·simp)
  ·simp[dm]
  have Oe:=hwl s;have GJ:s*(S*m)<=S*(S*m):=ZaM _ hs;refine aa.seq ?_;refine aa.ab aw fw [1,3,4,5,6,7,8,37] ?_;simp[d6r8];refine aa.cond rfl (λg=>?_) (λg=>?_)
  ·have g:s<S:=by simpa using g
   have w1:IntKind.i64.wrap ((s:Int)+1)=((s+1:Nat):Int):=by rw[au (by omega)];omega
   refine aa.skip ?_;simp;refine aa.seq ?_;refine aa.block ?_;refine aa.ab aw fw [1,3,4,5,6,7,8,9] ?_;simp[d6r9];refine aa.block ?_;refine aa.loop (λj:Nat=>⟨DM.look [(1,.v (.box [ti nt,ti nn,ti ns,.sl (aS rules),.sl (aZ ct),.sl (aB ins),ti sw,ti fr,ti 0,.sl []])),(3,.v (.box [ti nn,ti S,.sl (aL D0)])),(4,.v (.box [ti nn,ti S,.sl (aL D0)])),(5,.v (ti W)),(6,.v (ti 0)),(7,.v (ti (dm (tz (fr:Int) m S) s+dm (oT (fr:Int) m s) j:Nat))),(8,.v (ti s)),(9,.v (ti (s+j:Nat)))],cA [],4000,1000,[]⟩)
    (λj=>j<=S-s) (λj=>S-s-j) 0 (Le.aC ?_ ?_ ?_ ?_) (by omega) (λj hj=>?_)
   iterate 3(·simp)
   ·simp[dm]
   have YO:=hwi s j;have kv:j*m<=S*m:=ZaM _ (by omega);have Qd:S*m<=9*1000:=Zb6 hS9 (by omega);obtain⟨A,hA0⟩:∃A,dm (tz (fr:Int) m S) s+dm (oT (fr:Int) m s) j=A:=⟨_,rfl⟩;rw[hA0];obtain⟨t,ht⟩:∃t,s+j=t:=⟨_,rfl⟩;rw[ht];refine aa.seq ?_;refine aa.ab aw fw [1,3,4,5,6,7,8,9,44] ?_;simp[abU];refine aa.cond rfl (λg2=>?_) (λg2=>?_)
   ·have g2:t<S:=by simpa using g2
    have w2:IntKind.i64.wrap ((t:Int)+1)=((s+(j+1):Nat):Int):=by rw[au (by omega)];omega
    have w3:IntKind.i64.wrap (2*(fr:Int))=2*fr:=au (by omega);have w4:IntKind.i64.wrap ((t:Int)+3)=t+3:=au (by omega);have w8:IntKind.i64.wrap ((A:Int)+nn)=((A+m:Nat):Int):=by rw[au (by omega)];omega
    have tu:=hsJ s j;have hJ:oT (fr:Int) m s j=if DT (fr:Int) s t then m else 0:=by unfold oT;rw[ht]
    rw[hJ]at tu;refine aa.skip ?_;simp;refine aa.seq ?_;refine aa.block ?_;obtain⟨c2,dG⟩:∃c2:Bool,DT (fr:Int) s t=c2:=⟨_,rfl⟩;rw[dG]at tu;unfold DT at dG;refine aa.bY aw fw [(1,.v (.box [ti nt,ti nn,ti ns,.sl (aS rules),.sl (aZ ct),.sl (aB ins),ti sw,ti fr,ti 0,.sl []])),(3,.v (.box [ti nn,ti S,.sl (aL D0)])),(4,.v (.box [ti nn,ti S,.sl (aL D0)])),(5,.v (ti W)),(6,.v (ti 0)),(7,.v (ti A)),(8,.v (ti s)),(9,.v (ti t)),(59,.v (.bool c2))] ?_ ?_
    ·by_cases q1:(s:Int)<=2*fr
     ·have:c2=decide (2*(fr:Int)<=t+3):=by rw[<-dG];simp[q1]
      simp[SK,w3,w4,q1,this]
     ·have:c2=false:=by rw[<-dG];simp[q1]
      simp[SK,w3,w4,q1,this]
    refine aa.cond rfl (λh=>?_) (λh=>?_)
    ·have h:c2=true:=by simpa using h
     rw[h,if_pos rfl]at tu;refine aa.dp aw fw [1,3,4,5,6,7,8,9] ?_;simp[abV,w8];refine aa.dp aw fw [1,3,4,5,6,7,8,9] ?_;simp[SL,w2];refine⟨j+1,Le.aC ?_ ?_ ?_ ?_,by omega,by omega⟩;iterate 3(·simp)
     ·simp;omega
    ·have h:c2=false:=by simpa using h
     rw[h,if_neg (by simp)]at tu;refine aa.skip ?_;simp;refine aa.dp aw fw [1,3,4,5,6,7,8,9] ?_;simp[SL,w2];refine⟨j+1,Le.aC ?_ ?_ ?_ ?_,by omega,by omega⟩;iterate 3(·simp)
     ·simp;omega
   ·have g2:t=S:=by
     have:¬t<S:=by simpa using g2
     omega
    have hjj:j=S-s:=by omega
    subst hjj;refine aa.exit ?_;simp;refine aa.dp aw fw [1,3,4,5,6,7,8] ?_;simp[abW,w1];refine⟨s+1,Le.aC ?_ ?_ ?_ ?_,by omega,by omega⟩;iterate 3(·simp)
    ·simp;have:=hsS s;have:=hwS s g;omega
  ·have g:s=S:=by
    have:¬s<S:=by simpa using g
    omega
   subst g;refine aa.exit ?_;simp;refine aa.ab hΓ4 fw [2] ?_;simp[abX,hW];refine aa.ret ?_;simp[MZ]
 ·obtain⟨nt,nn,ns,rules⟩:=n;obtain⟨ct,ins,sw⟩:=x;refine Wp nt nn ns rules ct ins sw ?_ rfl rfl;simp only[d6];refine aa.seq ?_;refine aa.ab aw fw [1,14] ?_;simp[Xy,and_assoc,hl.1,hl.2,show eS []=[]from rfl,g];refine⟨⟨[],rfl⟩, ?_⟩;refine aa.cond rfl (λ_=>?_) (λg=>by cases g);refine aa.ab aw fw [2] ?_;simp[d6r3];refine aa.ret ?_;simp[MZ]
end cu
end Go.Proofs
