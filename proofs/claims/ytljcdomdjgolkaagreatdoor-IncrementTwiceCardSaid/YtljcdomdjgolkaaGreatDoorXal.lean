/- Part of the proof. Conditions: none. -/
import Derived.Test.YtljcdomdjgolkaaGreatDoorXak
import Derived.Test.YtljcdomdjgolkaaGreatDoorXae
import Derived.Test.YtljcdomdjgolkaaGreatDoorXai
import Derived.Test.YtljcdomdjgolkaaGreatDoorXac
import Derived.Test.YtljcdomdjgolkaaGreatDoorXag
set_option linter.unusedSectionVars false
set_option linter.unusedSimpArgs false
set_option linter.unusedVariables false
set_option maxHeartbeats 40000000
set_option maxRecDepth 20000
namespace Go.Proofs
namespace cu
open Go.DM
def fD(p N:Nat)(r:bD)(k:Int)(w:br):List (Nat×Ob):=[(N+1058,cQ r),(N+1057,.box [.v (ti k)]),(N+55,lD w),(N+3,.box [.ptr p 0]),(N+5,.box [.v (ti 0),.v (ti 0),.v (ti 0),.v (ti 0)])]
def NB(z:db)(best:List br)(w:br)(r:bD)(k:Int)(x:Cell):Cell:=match IL z best w r with
 |some i=>⟨w.cost,w.size,k,i.1⟩
 |none=>x
theorem IY{z:db}(H:PJ z){k0:PH}{f0:aU}{p N:Nat}{st:ej}(bd:dL f0 N)(hv:(⟨k0,z,st⟩:SV).at f0 p)(W:WF z.n.an.toNat st){r:bD}(hr:r∈z.n.rules){k:Int}{x:Cell}{w:br}{D:DV}(hD:BX D r):
  aY Tryz.prog 57 [.ptr p 0,D,.mr (.func 90) [.ptr (N+3) 0,.ptr (N+55) 0,.ptr (N+1057) 0,.ptr (N+105) 0]] (over ((N+105,ca x)::fD p N r k w) f0)
   ⟨True,.v (.eD []),over ((N+105,ca (NB z st.best w r k x))::fD p N r k w) f0⟩:=by
 have jR:=H.K.hn.2.2.2 r hr;have uB:=(bd _ _ hv.sp).1;have p6:=H.K.ft;have iX:=H.C.tm;have hL:∀(y:Cell),∀q∈((N+105,ca y)::fD p N r k w),N<=q.1:=by intro y;simp[fD]
 have dF:∀y,(⟨k0,z,st⟩:SV).at (over ((N+105,ca y)::fD p N r k w) f0) p:=λy=>hv.over bd (hL y);have hCl:∀y,dL (over ((N+105,ca y)::fD p N r k w) f0) (N+2000):=λy=>by
  refine rQ bd (by omega) λq hq=>?_;simp only[fD,Zag,Zap,or_false]at hq;rcases hq with rfl|rfl|rfl|rfl|rfl|rfl
  ·exact⟨by simp only;omega,λm hm=>by simp[ca,bF,bJ,names]at hm⟩
  ·exact⟨by simp only;omega,λm hm=>by simp[cQ,bF,bJ,names]at hm⟩
  ·exact⟨by simp only;omega,λm hm=>by simp[bF,bJ,names]at hm⟩
  ·exact⟨by simp only;omega,λm hm=>by simp[lD,bF,bJ,names]at hm⟩
  ·refine⟨by simp only;omega,λm hm=>?_⟩;simp only[bF,bJ,names,ZaJ,Zag,Zap,or_false]at hm;subst hm;rw[(dF y).sp];simp
  ·exact⟨by simp only;omega,λm hm=>by simp[bF,bJ,names]at hm⟩
 have ux:∀(y y':Cell) r',over ((N+105,ca y)::fD p N r k w) f0 r'=none->over ((N+105,ca y')::fD p N r k w) f0 r'=none:=by
  intro y y' r' h;rw[bL]at h⊢;split at h
  ·cases h
  ·rename_i h1;rw[if_neg h1];exact h
 have nJ:∀y y',over [(N+105,ca y')] (over ((N+105,ca y)::fD p N r k w) f0)=over ((N+105,ca y')::fD p N r k w) f0:=λy y'=>by
  rw[v8];exact IW _ _ _ _ _
 have call:∀(y:Cell) (i:eB),i∈bO z r->∀N',(∀r',N'<=r'->over ((N+105,ca y)::fD p N r k w) f0 r'=none)->
   aY Tryz.prog 90 ([.v (ti i.1),.v (ti i.2.1),iQ i.2.2]++kb [N+3,N+55,N+1057,N+105]) (over ((N+105,ca y)::fD p N r k w) f0)
    ⟨True,.v (.bool (!decide (nX z st.best i=w))),over ((N+105,ca (if nX z st.best i=w then⟨w.cost,w.size,k,i.1⟩else y))::fD p N r k w) f0⟩:=λy i hi N' Nz=>by
  have:=t90 (i:=i) (sB:=N+3) (vB:=N+55) (iB:=N+1057) (cB:=N+105) (w:=w) (k:=k) (x:=y) Nz (dF y) (by simp[fD]) (by simp[fD]) (by simp[fD]) (by simp) (xN H.K H.cf W hr hi);rw[nJ]at this;by_cases e:nX z st.best i=w
  ·simpa [e]using this
  ·simpa [e]using this
 have caps:BY [N+3,N+55,N+1057,N+105] (over ((N+105,ca x)::fD p N r k w) f0):=by
  intro q hq;simp only[Zag,Zap,or_false]at hq;rcases hq with rfl|rfl|rfl|rfl
  ·exact⟨_,by simp[fD];rfl⟩
  ·exact⟨_,by simp[fD,lD];rfl⟩
  ·exact⟨_,by simp[fD];rfl⟩
  ·exact⟨_,by simp[ca];rfl⟩
 unfold NB;cases hp:IL z st.best w r with
 |none=>
  have bG:∀i∈bO z r,nX z st.best i≠w:=λi hi=>by
   have:=Zcx.1 hp i hi;simpa using this
  refine t57 (k:=k0) (z:=z) (N:=N+2000) (r:=r) (caps:=[N+3,N+55,N+1057,N+105]) (F:=λ_=>over ((N+105,ca x)::fD p N r k w) f0) (B:=λ_=>true) (m:=(bO z r).length) ⟨λ_ _=>⟨_,dF x⟩,λ_ _=>hCl x⟩ ⟨λj i hi _ N' Nz=>?_,λ_ _ _ h=>h,λ_ _=>rfl,.inl rfl⟩ H.IM.mono H.K.hl.2.2.1 (by omega) ⟨jR.2.2.1,jR.2.2.2.1⟩ H.K.hl.2.2.2 caps hD;have h1:=call x i (Zaq hi) N' Nz;have h2:=bG i (Zaq hi);simpa [h2]using h1
 |some i=>
  obtain⟨hi1,idx,hidx,pg,cW⟩:=Zcq.1 hp;have hi1:nX z st.best i=w:=by simpa using hi1
  have e0:(λj=>over ((N+105,ca (if idx<j then⟨w.cost,w.size,k,i.1⟩else x))::fD p N r k w) f0) 0=over ((N+105,ca x)::fD p N r k w) f0:=by simp
  have e1:(λj=>over ((N+105,ca (if idx<j then⟨w.cost,w.size,k,i.1⟩else x))::fD p N r k w) f0) (idx+1)=over ((N+105,ca ⟨w.cost,w.size,k,i.1⟩)::fD p N r k w) f0:=by simp
  rw[<-e0]at caps⊢;simp only;rw[<-e1];refine t57 (k:=k0) (z:=z) (N:=N+2000) (r:=r) (caps:=[N+3,N+55,N+1057,N+105]) (F:=λj=>over ((N+105,ca (if idx<j then⟨w.cost,w.size,k,i.1⟩else x))::fD p N r k w) f0) (B:=λj=>decide (j≠idx)) (m:=idx+1) ⟨λ_ _=>⟨_,dF _⟩,λ_ _=>hCl _⟩ ⟨λj i' ni hj N' Nz=>?_,λ_ _ _ h=>ux _ _ _ h,λj hj=>?_,.inr ⟨by omega,by omega,by simp⟩⟩ H.IM.mono H.K.hl.2.2.1 (by omega) ⟨jR.2.2.1,jR.2.2.2.1⟩ H.K.hl.2.2.2 caps hD
  ·have WL:¬idx<j:=by omega
   simp only[WL,if_false]at Nz⊢;have h1:=call x i' (Zaq ni) N' Nz;by_cases e:j=idx
   ·subst e;rw[Zan hidx,pg]at ni;cases ni;simpa [hi1]using h1
   ·have h2:=cW j (by omega);have Mn:j<(bO z r).length:=by omega
    rw[Zan Mn]at ni;cases ni;have h3:¬idx<j+1:=by omega
    have h4:nX z st.best (bO z r)[j]≠w:=by simpa using h2
    simpa [h4,e,h3]using h1
  ·have:j≠idx:=by omega
   simpa using this
def lS(p N:Nat)(w:br):List (Nat×Ob):=[(N+55,lD w),(N+3,.box [.ptr p 0]),(N+5,.box [.v (ti 0),.v (ti 0),.v (ti 0),.v (ti 0)])]
theorem Cq{z:db}{best:List br}{h:Int}{x:Cell}{k:Nat}{r:bD}(hr:z.n.rules.getD k default=r):jq z best h x k=if r.head≠h\/(bv best h).cost>=1099511627776\/x.eu>=0 then x else NB z best (bv best h) r k x:=by
 unfold jq NB;rw[hr];rfl
theorem VI{f0:aU}{N p:Nat}{nxt nxt':Nat}{tm:Nat->DV}{l:List (Nat×DV)}{cs:List DV}{r:bD}{k:Int}{w:br}{x:Cell}(bd:dL f0 N)(hp:f0 p=some (.box cs))(hM:N+106<=nxt')(iX:gj (over ((N+105,ca x)::fD p N r k w) f0) (over ((N+105,ca x)::lS p N w) f0) id tm l):
  Le ⟨tm,over ((N+105,ca x)::fD p N r k w) f0,nxt,N,[]⟩ ⟨DM.look l,over ((N+105,ca x)::lS p N w) f0,nxt',N,[]⟩:=by
 have uB:=(bd _ _ hp).1;have np:∀k,p≠N+k:=λk=>by omega
 refine Le.fl bd (by omega) ?_ ?_ ?_ iX
 ·simp[lS];omega
 ·simp[bY,fD,lS]
 ·simp[gM,ij,fD,lS,ca,lD,np,hp]
theorem t63{f0:aU}{p N h:Nat}{z:db}(H:PJ z){k0:PH}{st:ej}(hN:∀r,N<=r->f0 r=none)(hv:(⟨k0,z,st⟩:SV).at f0 p)(W:WF z.n.an.toNat st)(hh:h<z.n.an.toNat):
  aY Tryz.prog 63 [.ptr p 0,.v (ti h)] f0 ⟨True,.v (.agg (gr z st.best h).enc),f0⟩:=by
 obtain⟨R,hR⟩:∃R,gr z st.best h=R:=⟨_,rfl⟩;rw[hR];refine c63.uy hN (by simp) λbd=>?_;have uL:=hv.sp;have xl:=hv.rb;simp only[uA,Dr]at uL xl;have uB:=(bd _ _ hv.sp).1;have Wr:=(bd _ _ hv.rb).1;simp only at Wr;have np:∀k,p≠N+k:=λk=>by omega
 have nb:∀k,k0.rb≠N+k:=λk=>by omega
 have hhb:h<st.best.length:=by rw[W.lb];exact hh
 have rr:=dM hhb;obtain⟨w,hw⟩:∃w,st.best.getD h default=w:=⟨_,rfl⟩;rw[hw]at rr;have hbv:bv st.best h=w:=hw;have hnn:=H.K.hn;simp;refine aa.ab dY fw [1,2,4] ?_;simp[ac0,Nat.add_assoc];refine aa.ab dY fw [1,2,4,5] ?_;simp[ac1,uL,xl,np,nb,hhb,rr,Nat.add_assoc];refine aa.ab dY fw [1,2,4,5,6] ?_;simp[ac2,Nat.add_assoc];refine aa.seq ?_;refine aa.ab dY fw [1,2,4,5,6,21,22,23] ?_;simp[ac3,uL,np,Nat.add_assoc];have eT:over [(N+105,Ob.box [.v (ti 1099511627776),.v (ti 0),.v (ti (-1)),.v (ti 0)]),(N+105,Ob.box [.v (ti 0),.v (ti 0),.v (ti 0),.v (ti 0)]),(N+55,Ob.box [.v (ti w.cost),.v (ti w.size)]),(N+55,Ob.box [.v (ti 0),.v (ti 0)]),(N+5,Ob.box [.v (ti 0),.v (ti 0),.v (ti 0),.v (ti 0)]),(N+3,Ob.box [.ptr p 0])] f0=over ((N+105,ca eY)::lS p N w) f0:=by
  funext q;simp only[bL,eL,lS,lD,ca,eY]
  (repeat' split)<;>first|rfl|omega
 rw[eT];refine aa.block ?_;have lP:∀(L:List (Nat×Ob)) M,N<=M->(∀q∈L,q.1<M)->∀r,M<=r->over L f0 r=none:=λL M hM hL r hr=>by
  rw[ee λo h=>by have:=hL _ h;simp only at this;omega];exact hN r (by omega)
 refine aa.loop (λk:Nat=>⟨DM.look [(1,.v (ti h)),(2,.ptr (N+3) 0),(4,.ptr (N+5) 0),(5,.ptr (N+55) 0),(6,.ptr (N+105) 0),(21,.v (.sl (aS z.n.rules))),(22,.v (ti z.n.rules.length)),(23,.v (ti k))],over ((N+105,ca (ma z st.best h k))::lS p N w) f0,N+1000,N,[]⟩)
  (λk=>k<=z.n.rules.length) (λk=>z.n.rules.length-k) 0 (Le.same (lP _ _ (by omega) (by simp[lS])) (by simp[fO])) (by omega) (λk hk=>?_)
 obtain⟨x,hx⟩:∃x,ma z st.best h k=x:=⟨_,rfl⟩;rw[hx];refine aa.ab dY fw [1,2,4,5,6,21,22,23,24] ?_;simp[ac4];refine aa.seq ?_;refine aa.cond rfl (λg=>?_) (λg=>?_)
 ·have g:k<z.n.rules.length:=by simpa using g
  have rk:=fR g;have hrm:z.n.rules.getD k default∈z.n.rules:=bw g;have mA:=vZ z st.best h k;have w2:IntKind.i64.wrap ((k:Int)+1)=((k+1:Nat):Int):=by rw[au (by have:=hnn.2.2.1;omega)];omega
  obtain⟨r,hr⟩:∃r,z.n.rules.getD k default=r:=⟨_,rfl⟩;rw[hr]at rk hrm;rw[Cq hr,hx,hbv]at mA;have ya:=λD hD=>IY (k:=k) (x:=x) (w:=w) H bd hv W hrm (D:=D) hD;obtain⟨DA,rh,ra,rb,rp,ro⟩:=r;simp only[bD.enc]at rk;simp only at mA;refine aa.skip ?_;simp;refine aa.seq ?_;refine aa.block ?_;refine aa.ab dY fw [1,2,4,5,6,7,8,21,22,23] ?_;simp[ac5,g,rk,Nat.add_assoc];have eU:over ((N+1058,Ob.box [.v (ti DA),.v (ti rh),.v (ti ra),.v (ti rb),.v (ti rp),.v (ti ro)])::(N+1057,Ob.box [.v (ti k)])::(N+1058,Ob.box [.v (ti 0),.v (ti 0),.v (ti 0),.v (ti 0),.v (ti 0),.v (ti 0)])::(N+1057,Ob.box [.v (ti 0)])::(N+105,ca x)::lS p N w) f0=over ((N+105,ca x)::fD p N ⟨DA,rh,ra,rb,rp,ro⟩ k w) f0:=by
   funext q;simp only[bL,eL,lS,fD,cQ]
   (repeat' split)<;>first|rfl|omega
  rw[eU];refine aa.seq ?_;obtain⟨c1,bb⟩:∃c1:Bool,decide (rh≠h\/w.cost>=1099511627776\/x.eu>=0)=c1:=⟨_,rfl⟩;refine aa.bZ dY fw [(1,.v (ti h)),(2,.ptr (N+3) 0),(4,.ptr (N+5) 0),(5,.ptr (N+55) 0),(6,.ptr (N+105) 0),(7,.ptr (N+1057) 0),(8,.ptr (N+1058) 0),(21,.v (.sl (aS z.n.rules))),(22,.v (ti z.n.rules.length)),(23,.v (ti k)),(41,.v (.bool c1))] ?_ ?_
  ·by_cases q1:rh=h
   ·by_cases q2:w.cost>=1099511627776
    ·have:c1=true:=by rw[<-bb];simp[q2]
     simp[HD,fD,ca,lD,cQ,q1,q2,this]
    ·by_cases q3:x.eu>=0
     ·have:c1=true:=by rw[<-bb];simp[q3]
      simp[HD,fD,ca,lD,cQ,q1,q2,q3,this]
     ·have:c1=false:=by rw[<-bb];simp[q1,q2,q3]
      simp[HD,fD,ca,lD,cQ,q1,q2,q3,this]
   ·have:c1=true:=by rw[<-bb];simp[q1]
    simp[HD,fD,ca,lD,cQ,q1,this]
  refine aa.cond rfl (λg2=>?_) (λg2=>?_)
  ·have g2:c1=true:=by simpa using g2
   rw[g2]at bb;rw[if_pos (of_decide_eq_true bb)]at mA;refine aa.exit ?_;simp;refine aa.le (VI (l:=[(1,.v (ti h)),(2,.ptr (N+3) 0),(4,.ptr (N+5) 0),(5,.ptr (N+55) 0),(6,.ptr (N+105) 0),(21,.v (.sl (aS z.n.rules))),(22,.v (ti z.n.rules.length)),(23,.v (ti k))]) (nxt':=N+3000) bd hv.sp (by omega) (by simp[fD,lS,ca,lD])) ?_;refine aa.dv dY fw [1,2,4,5,6,21,22,23] ?_;simp[Tr,w2];refine⟨k+1, ?_,by omega,by omega⟩;rw[mA];exact Le.same (lP _ _ (by omega) (by simp[lS])) (by simp[fO])
  ·have g2:c1=false:=by simpa using g2
   rw[g2]at bb;rw[if_neg (of_decide_eq_false bb)]at mA;have ay:=Ye aw.nil (λN' _=>ya _ (LS _)) (λr' h=>by
    rw[bL]at h⊢;split at h
    ·cases h
    ·rename_i h1;rw[if_neg h1];exact h)
   refine aa.skip ?_;simp;refine aa.OC ay fw (rs:=KE) rfl (by kernel_rfl) [1,2,4,5,6,21,22,23] ?_;have l1:over (fD p N ⟨DA,rh,ra,rb,rp,ro⟩ k w) f0 (N+3)=some (.box [.ptr p 0]):=by simp[fD]
   have l2:over (fD p N ⟨DA,rh,ra,rb,rp,ro⟩ k w) f0 (N+1058)=some (cQ ⟨DA,rh,ra,rb,rp,ro⟩):=by simp[fD]
   simp[KE,l1,l2,cQ];refine aa.le (VI (l:=[(1,.v (ti h)),(2,.ptr (N+3) 0),(4,.ptr (N+5) 0),(5,.ptr (N+55) 0),(6,.ptr (N+105) 0),(21,.v (.sl (aS z.n.rules))),(22,.v (ti z.n.rules.length)),(23,.v (ti k))]) (nxt':=N+3000) bd hv.sp (by omega) (by simp[fD,lS,ca,lD])) ?_;refine aa.dv dY fw [1,2,4,5,6,21,22,23] ?_;simp[Tr,w2];refine⟨k+1, ?_,by omega,by omega⟩;rw[mA];exact Le.same (lP _ _ (by omega) (by simp[lS])) (by simp[fO])
 ·have g:k=z.n.rules.length:=by
   have:¬k<z.n.rules.length:=by simpa using g
   omega
  have hxR:x=R:=by rw[<-hx,g,<-hR];rfl
  subst hxR;refine aa.exit ?_;simp;refine aa.ab dY fw [4] ?_;simp[ac6,ca,lS];refine aa.le (pL (l:=[(4,.v (.box [ti x.cost,ti x.size,ti x.eu,ti x.arg]))]) (nxt':=N+3000) bd (by omega) (by simp) ?_) ?_
  ·simp;exact cT (l:=[]) bd (by omega) (by simp)
  refine aa.ret ?_;simp[Ts,Cell.enc];rfl
def Cr(a N:Nat):List (Nat×Ob):=[(N+15,.box [.mr (.func 55) [.ptr a 0],.aI,.iq (N+13),.v (ti 0),.v (ti 0)]),(N+13,.map [.int .i64] false 0 [])]
theorem t54{f0:aU}{a N:Nat}{cs:List DV}(hN:∀r,N<=r->f0 r=none)(ha:f0 a=some (.box cs)):
  Ez Tryz.prog 54 [.mr (.func 55) [.ptr a 0]] f0 N (N+20) (λval ob'=>val=.ptr (N+15) 0/\ob'=over (Cr a N) f0):=by
 refine c54.okNs hN (by simp) (by omega) ?_ λbd=>?_
 ·rintro val ob' ⟨rfl,rfl⟩;refine⟨λr hr h=>?_,λr hr=>?_⟩
  ·rw[BH hr (by simp[Cr])];exact h
  ·rw[ee λo h=>by simp[Cr]at h;omega];exact hN r (by omega)
 ·simp;refine aa.ab dY fw [0,2] ?_;simp[Hw];refine aa.ab dY fw [2] ?_;simp[Hx,Nat.add_assoc];refine aa.ret ?_;simp[finN,Cr]
def FV:PH:=⟨2025,2028,2031,2304,2012,2309,2302⟩
def cH(z:db)(st:ej):List (Nat×Ob):=[(2033,.box (uA FV z)),(2025,Dr st),(2028,Fo st),(2031,Dt st),(2304,qB 2012 2309 2302 st.s),(2309,hB st.s),(2302,mB st.s),(2012,.box [.ptr 2033 0])]
theorem mb(z:db)(st:ej)(L:List (Nat×Ob))(hL:∀q∈L,3000<=q.1):(⟨FV,z,st⟩:SV).at (cE (L++cH z st)) 2033:=by
 have h:∀k,k<3000->cE (L++cH z st) k=cE (cH z st) k:=by
  intro k hk;induction L with
  |nil=>rfl
  |cons a L ih=>
   obtain⟨r,o⟩:=a;have:=hL (r,o) (by simp);simp only at this;rw[ZaH,dm,if_neg (by omega)];exact ih λq hq=>hL q (by simp[hq])
 refine⟨?_, ?_, ?_, ?_, ?_, ?_, ?_, ?_⟩<;>(rw[h _ (by simp[FV])];simp[cH,FV])
theorem IZ(z:db)(st dd:ej)(L:List (Nat×Ob))(hL:∀q∈L,3000<=q.1):cF (cE (L++cH z st)) ⟨FV,z,st⟩ dd=cE (L++cH z dd):=by
 funext k;induction L with
 |nil=>
  show(if k=2025 then some (Dr dd)else if k=2028 then some (Fo dd)else if k=2031 then some (Dt dd)else if k=2304 then some (qB 2012 2309 2302 dd.s)else if k=2309 then some (hB dd.s)else if k=2302 then some (mB dd.s)else cE (cH z st) k)=cE (cH z dd) k;simp only[cH,dm,lX];by_cases h1:k=2025
  ·subst h1;simp
  by_cases h2:k=2028
  ·subst h2;simp
  by_cases h3:k=2031
  ·subst h3;simp
  by_cases h4:k=2304
  ·subst h4;simp
  by_cases h5:k=2309
  ·subst h5;simp
  by_cases h6:k=2302
  ·subst h6;simp
  simp only[if_neg h1,if_neg h2,if_neg h3,if_neg h4,if_neg h5,if_neg h6]
 |cons a L ih=>
  obtain⟨r,o⟩:=a;have hr:=hL (r,o) (by simp);simp only at hr;have ih:=ih λq hq=>hL q (by simp[hq]);show(if k=2025 then some (Dr dd)else if k=2028 then some (Fo dd)else if k=2031 then some (Dt dd)else if k=2304 then some (qB 2012 2309 2302 dd.s)else if k=2309 then some (hB dd.s)else if k=2302 then some (mB dd.s)else(if k=r then some o else cE (L++cH z st) k))=if k=r then some o else cE (L++cH z dd) k
  rw[<-ih];show _=if k=r then some o else(if k=2025 then some (Dr dd)else if k=2028 then some (Fo dd)else if k=2031 then some (Dt dd)else if k=2304 then some (qB 2012 2309 2302 dd.s)else if k=2309 then some (hB dd.s)else if k=2302 then some (mB dd.s)else cE (L++cH z st) k)
  (repeat' split)<;>first|rfl|omega
theorem VJ(L:List (Nat×Ob)):cE L=over L (λ_=>none):=by
 funext k;induction L with
 |nil=>rfl
 |cons a L ih=>
  obtain⟨r,o⟩:=a;simp only[dm,bL,ih]
theorem yQ(z:db)(st:ej){M:Nat}(hM:3000<=M){L:List (Nat×Ob)}(hL:∀q∈L,3000<=q.1/\q.1<M/\bF q.2=[]):dL (cE (L++cH z st)) M:=by
 have dF:=mb z st L (λq hq=>(hL q hq).1);have e:=VJ (L++cH z st);rw[e]at dF⊢;refine rQ (N:=0) (λr o h=>by cases h) (Zbf _) λq hq=>?_;rcases Zao.1 hq with hq|hq
 ·obtain⟨_,h2,h3⟩:=hL q hq;exact⟨h2,λm hm=>by rw[h3]at hm;cases hm⟩
 ·simp only[cH,Zag,Zap,or_false]at hq;have h1:=dF.rb;have h2:=dF.rf;have h3:=dF.rh;have h4:=dF.q;have h5:=dF.hp;have h6:=dF.m;have h7:=dF.a;have h8:=dF.sp;simp only[FV]at h1 h2 h3 h4 h5 h6 h7 h8;rcases hq with rfl|rfl|rfl|rfl|rfl|rfl|rfl|rfl
  ·refine⟨by simp only;omega,λm hm=>?_⟩;simp only[uA,FV,bF,bJ,names,ZaJ,ZaK,Zag,Zap,or_false,ZaH]at hm;rcases hm with rfl|rfl|rfl|rfl
   ·rw[h1];simp
   ·rw[h2];simp
   ·rw[h3];simp
   ·rw[h4];simp
  ·exact⟨by simp only;omega,λm hm=>by simp[Dr,bF]at hm⟩
  ·exact⟨by simp only;omega,λm hm=>by simp[Fo,bF]at hm⟩
  ·exact⟨by simp only;omega,λm hm=>by simp[Dt,bF]at hm⟩
  ·refine⟨by simp only;omega,λm hm=>?_⟩;simp only[qB,bF,bJ,names,ZaJ,Zao,Zag,Zap,or_false]at hm;rcases hm with rfl|rfl|rfl
   ·rw[h7];simp
   ·rw[h5];simp
   ·rw[h6];simp
  ·exact⟨by simp only;omega,λm hm=>by simp[hB,bF]at hm⟩
  ·refine⟨by simp only;omega,λm hm=>?_⟩;exfalso;simp only[mB,bF,ZaU,wx,Zal]at hm;obtain⟨e,⟨e',_,rfl⟩,hk⟩:=hm;simp[names]at hk
  ·refine⟨by simp only;omega,λm hm=>?_⟩;simp only[bF,bJ,names,ZaJ,Zag,Zap,or_false]at hm;subst hm;rw[h8];simp
def sT(z:db)(st:ej)(k:Nat):ej:=(z.n.rules.take k).foldl (λst r=>(bO z r).foldl (fQ z r) st) st
def y7(z:db)(st:ej)(k j:Nat):ej:=((bO z (z.n.rules.getD k default)).take j).foldl (fQ z (z.n.rules.getD k default)) (sT z st k)
theorem I0{z:db}(r:bD):(bO z r).length<=z.l.aC.length+((z.to-z.fr).toNat+1):=by
 have:=tr z;unfold bO;split
 ·split<;>simp;omega
 ·split
  ·have:=List.length_filterMap_le (ql z r) (List.range' (gO z) (qq z-gO z));rw[List.length_range']at this;omega
  ·split
   ·simp;omega
   ·split
    ·simp
    ·simp
theorem VK{z:db}(C:lu z.n z.l z.c z.fr.toNat z.to.toNat)(K:Kx z){k j:Nat}(hk:k<z.n.rules.length):PI z (y7 z (fc z.n.an.toNat) k j)/\(y7 z (fc z.n.an.toNat) k j).s.clock<=700000000000:=by
 have LW:z.n.rules.getD k default∈z.n.rules:=bw hk;obtain⟨r,hr⟩:∃r,z.n.rules.getD k default=r:=⟨_,rfl⟩;have e:y7 z (fc z.n.an.toNat) k j=(((z.n.rules.take k).flatMap λr=>(bO z r).map λi=>((r,i):PR))++((bO z r).take j).map λi=>((r,i):PR)).foldl (λst (p:PR)=>fQ z p.1 st p.2) (fc z.n.an.toNat):=by
  rw[Zat,<-nC (λst (p:PR)=>fQ z p.1 st p.2) (bO z),Zb4];unfold y7 sT;rw[hr]
 have aF:∀p∈((z.n.rules.take k).flatMap λr=>(bO z r).map λi=>((r,i):PR))++((bO z r).take j).map λi=>((r,i):PR),Jh z p:=by
  intro p hp;rcases Zao.1 hp with hp|hp
  ·obtain⟨r',fa,hp⟩:=ZaU.1 hp;obtain⟨i,hi,rfl⟩:=Zal.1 hp;exact⟨Zav fa,hi⟩
  ·obtain⟨i,hi,rfl⟩:=Zal.1 hp;rw[hr]at LW;exact⟨LW,Zav hi⟩
 obtain⟨a1,_,_,a4⟩:=(Nv C K).fold (λ_ h=>h) _ aF _ (PI0 K);rw[<-e]at a1 a4;refine⟨a1, ?_⟩;have l1:=wb (c:=1000001001) (f:=λr=>(bO z r).map λi=>((r,i):PR)) (z.n.rules.take k) (λr hr=>by
  have:=I0 (z:=z) r;have:=K.hl.2.2.1;have:=C.tm;have:=K.ft;rw[Zbt];omega)
 have l2:=I0 (z:=z) r;have l3:=K.hn.2.2.1;have l4:=K.hl.2.2.1;have:=C.tm;have:=K.ft;rw[ZaA,Zbt,Zaw]at a4;rw[Zaw]at l1;have l5:1000001001*min k z.n.rules.length<=1000001001*600:=Nat.mul_le_mul_left _ (by omega);have l6:(fc z.n.an.toNat).s.clock=0:=rfl;omega
theorem DB{z:db}{st:ej}{k:Nat}(hk:k<z.n.rules.length):sT z st (k+1)=y7 z st k (bO z (z.n.rules.getD k default)).length:=by
 unfold y7 sT;rw[cN hk,Zat];simp only[ZaB,ZbU,Zbn]
theorem Pp{z:db}{st:ej}{k j:Nat}{i:eB}(h:(bO z (z.n.rules.getD k default))[j]? =some i):y7 z st k (j+1)=fQ z (z.n.rules.getD k default) (y7 z st k j) i:=by
 unfold y7;rw[Zbw,h,Zat];rfl
theorem VL{z:db}(H:PJ z){k:Nat}(hk:k<z.n.rules.length){D:DV}(hD:BX D (z.n.rules.getD k default)):
  aY Tryz.prog 57 [.ptr 2033 0,D,.mr (.func 58) [.ptr 2012 0,.ptr 4104 0]] (cE ([(4104,cQ (z.n.rules.getD k default))]++cH z (sT z (fc z.n.an.toNat) k)))
   ⟨True,.v (.eD []),cE ([(4104,cQ (z.n.rules.getD k default))]++cH z (sT z (fc z.n.an.toNat) (k+1)))⟩:=by
 have LW:z.n.rules.getD k default∈z.n.rules:=bw hk;have hini:=λj=>VK H.C H.K (j:=j) hk;rw[DB hk];have hsu:=λ{j i}=>Pp (z:=z) (st:=fc z.n.an.toNat) (k:=k) (j:=j) (i:=i);obtain⟨r,hr⟩:∃r,z.n.rules.getD k default=r:=⟨_,rfl⟩;have jR:=H.K.hn.2.2.2 r (by rw[<-hr];exact LW);rw[hr]at hD LW hsu⊢;have hL:∀q∈[((4104:Nat),cQ r)],3000<=q.1:=by simp
 have e0:sT z (fc z.n.an.toNat) k=y7 z (fc z.n.an.toNat) k 0:=rfl;rw[e0];have p6:=H.K.ft;have iX:=H.C.tm;refine t57 (k:=FV) (z:=z) (N:=5000) (r:=r) (caps:=[2012,4104]) (F:=λj=>cE ([(4104,cQ r)]++cH z (y7 z (fc z.n.an.toNat) k j))) (B:=λ_=>true) ⟨λj _=>⟨_,mb z _ _ hL⟩,λj _=>yQ z _ (by omega) (by simp[cQ,bF,bJ,names])⟩
  ⟨λj i hi _ N' Nz=>?_,λj r' hj hn=>?_,λ_ _=>rfl,.inl rfl⟩ H.IM.mono H.K.hl.2.2.1 (by omega) ⟨jR.2.2.1,jR.2.2.2.1⟩ H.K.hl.2.2.2 ?_ hD
 ·have M4:i∈bO z r:=Zaq hi;obtain⟨m1,m2⟩:=hini j;have:=t58 (i:=i) (r:=r) (sB:=2012) (rB:=4104) Nz (mb z (y7 z (fc z.n.an.toNat) k j) _ hL) (by simp[cH]) (by simp) (xN H.K H.cf m1.1.wf LW M4) (λ_=>by
   have hh:0<=r.head/\r.head<z.n.an:=⟨jR.1,jR.2.1⟩;exact m1.1.wf.BO (by omega) (FI H.K m1.1.wf.bo LW M4) (by have:=H.K.hn.2.1;omega) (by omega))
  rw[IZ z _ _ _ hL]at this;simp only at this;rw[<-hsu hi]at this;exact this
 ·simp only[cH,ZaH,ZaK,dm,lX]at hn⊢;repeat' split at hn
  all_goals first|(cases hn;done)|skip
  simp[*]
 ·intro x hx;simp only[Zag,Zap,or_false]at hx;rcases hx with rfl|rfl
  ·exact⟨[.ptr 2033 0],by simp[cH]⟩
  ·exact⟨_,by simp[cQ];rfl⟩
theorem BZ{z:db}(H:PJ z):∀{f:Nat} {st:ej},IV z st->rO st<f->IV z (fK z f st)/\(fK z f st).s.heap=[]
 |0,_,_,h=>by omega
 |f+1,st,hI,h=>by
  by_cases bG:st.s.heap=[]
  ·simp only[fK,if_pos bG];exact⟨hI,bG⟩
  ·rw[nD bG];obtain⟨a,b,_⟩:=xL H.C H.K hI bG;exact BZ H a (by omega)
theorem NC{α:Type}(a b:α){n k:Nat}(h:k<n):(List.replicate k a++List.replicate (n-k) b).set k a=List.replicate (k+1) a++List.replicate (n-(k+1)) b:=by
 obtain⟨m,hm⟩:∃m,n-k=m+1:=⟨n-k-1,by omega⟩;rw[hm,show n-(k+1)=m by omega,Zb5 _ _ (by simp),ZbR (n:=k)];simp[Za6]
def mX(n k:Nat):ej:=⟨List.replicate k ⟨1099511627776,0⟩++List.replicate (n-k) ⟨0,0⟩,List.replicate n false,List.replicate k (-1)++List.replicate (n-k) 0,⟨[],0,[],0,0,0⟩⟩
theorem VN(n:Nat):mX n n=fc n:=by simp[mX,fc]
theorem le_eq{tm:Nat->DV}{ob ob':aU}{nxt nxt' low:Nat}{td:List (List T)}{l:List (Nat×DV)}(e:ob=ob')(h:∀r,nxt'<=r->ob' r=none)(hl:fO tm l):Le ⟨tm,ob,nxt,low,td⟩ ⟨DM.look l,ob',nxt',low,td⟩:=by
 subst e;exact Le.same h hl
theorem kc{L:List (Nat×Ob)}{M:Nat}(h:∀q∈L,q.1<M):∀r,M<=r->cE L r=none:=by
 induction L with
 |nil=>intro r _;rfl
 |cons a L ih=>
  intro r hr;obtain⟨j,o⟩:=a;have:=h (j,o) (by simp);simp only at this;rw[dm,if_neg (by omega)];exact ih (λq hq=>h q (by simp[hq])) r hr
theorem iF(z:db)(st:ej):∀q∈cH z st,2000<=q.1/\q.1<3000:=by
 intro q hq;simp only[cH,Zag,Zap,or_false]at hq;rcases hq with rfl|rfl|rfl|rfl|rfl|rfl|rfl|rfl<;>simp only[]<;>omega
theorem yR{A B:List (Nat×Ob)}{r:Nat}{o:Ob}(h:cE (A++B) r=some o):(r,o)∈A\/((∀q∈A,q.1≠r)/\cE B r=some o):=by
 induction A with
 |nil=>exact .inr ⟨λq hq=>(by cases hq),h⟩
 |cons a A ih=>
  obtain⟨j,x⟩:=a;rw[ZaH,dm]at h;by_cases e:r=j
  ·rw[if_pos e]at h;cases h;subst e;exact .inl (by simp)
  ·rw[if_neg e]at h;rcases ih h with h|⟨h1,h2⟩
   ·exact .inl (by simp[h])
   ·exact .inr ⟨λq hq=>by
     rcases Zag.1 hq with rfl|hq
     ·exact λe2=>e e2.symm
     ·exact h1 q hq,h2⟩
theorem VO{A B:List (Nat×Ob)}{r:Nat}(h:∀q∈A,q.1≠r):cE (A++B) r=cE B r:=by
 induction A with
 |nil=>rfl
 |cons a A ih=>
  obtain⟨j,x⟩:=a;have:=h (j,x) (by simp);simp only at this;rw[ZaH,dm,if_neg (λe=>this e.symm)];exact ih λq hq=>h q (by simp[hq])
theorem VP{z:db}{st:ej}{L L':List (Nat×Ob)}{l:List (Nat×DV)}{tm:Nat->DV}{nxt nxt':Nat}(hL:∀q∈L,3000<=q.1)(hL':∀q∈L',3000<=q.1/\q.1<nxt')(hn:3000<=nxt')
  (fE:tN (cE (L++cH z st)) (cE (L'++cH z st)) id L') (iX:gj (cE (L++cH z st)) (cE (L'++cH z st)) id tm l):
  Le ⟨tm,cE (L++cH z st),nxt,1000,[]⟩ ⟨DM.look l,cE (L'++cH z st),nxt',1000,[]⟩:=by
 have bd:=yQ z st (Zae 3000) (L:=[]) (λq hq=>by cases hq);simp only[ZaK]at bd;have low:∀{A:List (Nat×Ob)},(∀q∈A,3000<=q.1)->∀r,r<3000->cE (A++cH z st) r=cE (cH z st) r:=λhA r hr=>VO λq hq e=>by have:=hA q hq;omega
 have hLs:∀q∈L',3000<=q.1:=λq hq=>(hL' q hq).1;refine Le.cor2 rfl rfl ?_ (λr o h=>?_) (λr hr o h=>?_) (λk=>rl l iX k)
 ·refine kc λq hq=>?_;rcases Zao.1 hq with hq|hq
  ·exact(hL' q hq).2
  ·have:=iF z st q hq;simp only;omega
 ·rcases yR h with h|⟨_,h⟩
  ·obtain⟨o0,h1,h2⟩:=po fE r o h;exact⟨o0,h1,.inl h2⟩
  ·have hr:=(bd r o h).1;refine⟨o,(low hL r hr).trans h,.inr ⟨rfl,λm hm=>?_⟩⟩;have D5:=(bd r o h).2 m hm;cases hmo:cE (cH z st) m with
   |none=>exact absurd hmo D5
   |some o'=>exact⟨o',o',(low hL m (bd m o' hmo).1).trans hmo,(low hLs m (bd m o' hmo).1).trans hmo,bu _⟩
 ·exfalso;simp only at h hr;rcases yR h with h|⟨_,h⟩
  ·have:=hL _ h;simp only at this;omega
  ·have hm:=lZ h;have:=iF z st _ hm;simp only at this;omega
def spP(z:db):List DV:=[.v (ti z.n.aV),.v (ti z.n.an),.v (ti z.n.start),.v (.sl (aS z.n.rules)),.v (ti z.l.aN),.v (.sl (ba z.l.aC)),.v (.sl (aB z.l.final)),.v (ti z.c.an),.v (ti z.c.aN),.v (.sl (aM z.c.cells)),.v (ti z.fr),.v (ti z.to),.bk 2025 0,.bk 2028 0,.bk 2031 0,.v (.raw (Go.Value.pointer Option.none))]
def I1(z:db)(n:Nat):List (Nat×Ob):=[(2012,.box [.ptr 2033 0]),(2033,.box (spP z)),(2031,Dt (mX n 0)),(2028,Fo (mX n 0)),(2025,Dr (mX n 0))]
theorem t35{z:db}(H:PJ z):lI Tryz.prog 35 [z.n.enc,z.l.enc,z.c.enc,ti z.fr,ti z.to] 57 4 (aM (jh z.n z.l z.c z.fr z.to)):=by
 have Yk:=X9 H.C H.K;obtain⟨s0,Q4⟩:∃s,yN z (fc z.n.an.toNat)=s:=⟨_,rfl⟩;rw[Q4]at Yk;have hnn:=H.K.hn;have hck0:s0.s.clock<=700000000000:=by
  by_cases e:z.n.rules.length=0
  ·have:z.n.rules=[]:=ZaC e;rw[<-Q4];simp[yN,this,fc]
  ·have h1:=(VK H.C H.K (k:=z.n.rules.length-1) (j:=(bO z (z.n.rules.getD (z.n.rules.length-1) default)).length) (by omega)).2;rw[<-DB (by omega),show z.n.rules.length-1+1=z.n.rules.length by omega]at h1;have:sT z (fc z.n.an.toNat) z.n.rules.length=yN z (fc z.n.an.toNat):=by unfold sT yN;rw[Zbn]
   rw[this,Q4]at h1;exact h1
 have hcnt:rO s0<=z.n.an.toNat:=by
  unfold rO;have:=Yk.1.1.wf.lf;have:=List.count_le_length (a:=false) (l:=s0.fin);omega
 obtain⟨hI,Gy⟩:=BZ H (f:=rO s0+1) Yk.1 (by omega);obtain⟨s9,hs9⟩:∃s,fK z (rO s0+1) s0=s:=⟨_,rfl⟩;have Wp:1<=z.n.an:=hnn.1;have TO:z.n.an<=1000:=hnn.2.1;have h62:=t62 (p:=2033) (k0:=FV) (N:=5000) (f0:=cE (cH z s0)) H (kc λq hq=>by have:=iF z s0 q hq;omega) (mb z s0 [] (λq hq=>by cases hq)) Yk.1 (by omega);have nJ:=IZ z s0 (fK z (rO s0+1) s0) [] (λq hq=>by cases hq);simp only[ZaK]at nJ;rw[nJ,hs9]at h62;rw[hs9]at hI Gy;have hspan:=LQ H.C H.K H.IM hI Gy;rw[<-hspan];have h63:=λ(h:Nat) (hh:h<z.n.an.toNat) (L:List (Nat×Ob)) (hL:∀q∈L,3000<=q.1) (N:Nat) (hN:∀r,N<=r->cE (L++cH z s9) r=none)=>t63 (p:=2033) H hN (mb z s9 L hL) hI.1.wf hh;have Px:z.n.rules.length<=600:=hnn.2.2.1;obtain⟨nn,hnn2⟩:=Zad (a:=z.n.an) (by omega);have hnt:z.n.an.toNat=nn:=by omega
 rw[hnt]at h63 Q4;refine c35.okF (by simp) (aJ ?_);simp[aG.enc,aL.enc,bV.enc];refine aa.ab dY fw [3,4,5,6,7,10] ?_;simp[HE];refine aa.le (Le.aD (o:=[]) (l:=[(3,.v (ti z.fr)),(4,.v (ti z.to)),(5,.v (.box [ti z.n.aV,ti z.n.an,ti z.n.start,.sl (aS z.n.rules)])),(6,.v (.box [ti z.l.aN,.sl (ba z.l.aC),.sl (aB z.l.final)])),(7,.v (.box [ti z.c.an,ti z.c.aN,.sl (aM z.c.cells)])),(10,.aI)]) (nxt':=2000) ?_ ?_ ?_ ?_) ?_;iterate 4(·simp)
 refine aa.ab dY fw [5,11] ?_;simp[HF,and_assoc,cG];repeat (refine⟨by omega, ?_⟩)
 have NP:z.n.an.toNat=nn:=hnt;have sl5:∀n1:Nat,∀x,List.replicate n1 [T.int .i64 x]=aB (List.replicate n1 x):=λn1 x=>by simp[aB]
 refine aa.le (le_eq (ob':=cE (I1 z nn)) (l:=[(5,.v (.box [ti z.n.aV,ti z.n.an,ti z.n.start,.sl (aS z.n.rules)])),(11,.ptr 2012 0)]) (nxt':=2200) ?_ ?_ ?_) ?_
 ·funext q;simp only[I1,spP,dm,lX,Dt,Fo,Dr,mX,NP,aB,iS,bI,List.replicate_zero,ZaK,List.map_replicate,Zb1]
  (repeat' split)<;>first|rfl|omega
 ·exact kc (by simp[I1])
 ·simp
 have Gm:∀{tm:Nat->DV} {ob:aU},ob=over ((2033,.box (uA FV z))::Cr 2012 2289) (cE (I1 z nn))->fO tm [(5,.v (.box [ti z.n.aV,ti z.n.an,ti z.n.start,.sl (aS z.n.rules)])),(11,.ptr 2012 0)]->
   Le ⟨tm,ob,2309,1000,[]⟩ ⟨DM.look [(5,.v (.box [ti z.n.aV,ti z.n.an,ti z.n.start,.sl (aS z.n.rules)])),(11,.ptr 2012 0)],cE (cH z (mX nn 0)),3000,1000,[]⟩:=by
  intro tm ob e iX;subst e;refine Le.trans (Le.MA 2304 1 177 (sz:=3) (cs:=[.mr (.func 55) [.ptr 2012 0],.aI,.iq 2302,.v (ti 0),.v (ti 0)]) (by omega) (by simp[Cr]) rfl) (le_eq ?_ (kc λq hq=>(iF z _ q hq).2) iX);funext q;show(if q=2304 then _ else if q=2309 then _ else _)=_;simp only[Cr,I1,cH,dm,lX,bL,eL];by_cases h1:q=2304
  ·subst h1;rfl
  by_cases h2:q=2309
  ·subst h2;rfl
  by_cases h3:q=2033
  ·subst h3;rfl
  by_cases h4:q=2302
  ·subst h4;rfl
  by_cases h5:q=2012
  ·subst h5;rfl
  by_cases h6:q=2031
  ·subst h6;rfl
  by_cases h7:q=2028
  ·subst h7;rfl
  by_cases h8:q=2025
  ·subst h8;rfl
  simp[h1,h2,h3,h4,h5,h6,h7,h8]
 refine aa.seq (aa.to ⟨DM.look [(5,.v (.box [ti z.n.aV,ti z.n.an,ti z.n.start,.sl (aS z.n.rules)])),(11,.ptr 2012 0)],cE (cH z (mX nn 0)),3000,1000,[]⟩ (aa.regND dY fw (N':=2309) [5,11] (rs:=HG) rfl ⟨rfl,rfl⟩ (by simp) ?_ ?_ ?_) ?_)
 ·simp[CN,I1];refine⟨_,λhN=>t54 (cs:=[.ptr 2033 0]) hN (by simp), ?_⟩;rintro val ob' ⟨rfl,rfl⟩;simp[Cr,bL,spP];exact Gm rfl (by simp)
 ·simp[CN,I1];refine⟨_,λhN=>t54 (cs:=[.ptr 2033 0]) hN (by simp), ?_⟩;rintro val ob' ⟨rfl,rfl⟩;simp[Cr,bL,spP];exact Gm rfl (by simp)
 ·simp[CN,I1];refine⟨_,λhN=>t54 (cs:=[.ptr 2033 0]) hN (by simp), ?_⟩;rintro val ob' ⟨rfl,rfl⟩;simp[Cr,bL,spP];exact Gm rfl (by simp)
 obtain⟨RT,hRT⟩:∃t:T,T.box [ti z.n.aV,ti z.n.an,ti z.n.start,.sl (aS z.n.rules)]=t:=⟨_,rfl⟩;have ek:=λk=>mb z (mX nn k) [] (λq hq=>by cases hq);have e1:=λk=>(ek k).sp;have e2:=λk=>(ek k).rb;have e3:=λk=>(ek k).rh;have e4:=λk=>(ek k).a;simp only[ZaK,uA,FV]at e1;simp only[ZaK,Dr,FV]at e2;simp only[ZaK,Dt,FV]at e3;simp only[ZaK,FV]at e4;have O2:∀k,k<=nn->(mX nn k).best.length=nn:=λk hk=>by simp[mX];omega
 have lenH:∀k,k<=nn->(mX nn k).jm.length=nn:=λk hk=>by simp[mX];omega
 refine aa.seq ?_;refine aa.ab dY fw [5,11,42,43] ?_;simp[HH,e1,e2,e4,O2 0 (by omega)];refine aa.block ?_;refine aa.loop (λk:Nat=>⟨DM.look [(5,.v (.box [ti z.n.aV,ti z.n.an,ti z.n.start,.sl (aS z.n.rules)])),(11,.ptr 2012 0),(42,.v (ti nn)),(43,.v (ti k))],cE (cH z (mX nn k)),3500,1000,[]⟩)
  (λk=>k<=nn) (λk=>nn-k) 0 (Le.same (kc λq hq=>by have:=iF z _ q hq;omega) (by simp[fO])) (by omega) (λk hk=>?_)
 refine aa.ab dY fw [5,11,42,43,44] ?_;simp[HI];refine aa.seq ?_;refine aa.cond rfl (λg=>?_) (λg=>?_)
 ·have g:k<nn:=by simpa using g
  refine aa.skip ?_;simp;refine aa.seq ?_;refine aa.block ?_;refine aa.ab dY fw [5,11,42,43,12] ?_;simp[HJ];refine aa.ab dY fw [5,11,42,43,12] ?_;have rb:=dM (l:=(mX nn k).best) (y:=k) (by rw[O2 k hk];exact g);have rh:=cP (l:=(mX nn k).jm) (y:=k) (by rw[lenH k hk];exact g);simp[HK,e1,e2,e4,O2 k hk,g,rb];have e5:∀(q:Ob),cE ((2025,q)::cH z (mX nn k)) 2012=some (.box [.ptr 2033 0]):=λq=>by rw[dm,if_neg (by omega)];exact e4 k
  refine aa.dv dY fw [5,11,42,43] ?_;simp[vw,e1,e3,e4,lenH k hk,g,rh];refine aa.dv dY fw [5,11,42,43] ?_;simp[HL];rw[au (x:=(k:Int)+1) (by omega)];refine⟨k+1,le_eq ?_ (kc λq hq=>by have:=iF z _ q hq;omega) (by simp),by omega,by omega⟩;funext q;have v1:(bI (mX nn k).best).set k [T.int .i64 1099511627776,T.int .i64 0]=bI (mX nn (k+1)).best:=by
   rw[show [T.int .i64 1099511627776,T.int .i64 0]=[ti (⟨1099511627776,0⟩:br).cost,ti (⟨1099511627776,0⟩:br).size]from rfl,<-sy];simp only[mX,NC _ _ g]
  have v2:(aB (mX nn k).jm).set k [T.int .i64 (-1)]=aB (mX nn (k+1)).jm:=by
   rw[<-sA];simp only[mX,NC _ _ g]
  rw[v1,v2];simp only[cH,dm,lX];by_cases h1:q=2025
  ·subst h1;rfl
  by_cases h2:q=2031
  ·subst h2;rfl
  simp only[if_neg h1,if_neg h2];rfl
 ·have g:k=nn:=by
   have:¬k<nn:=by simpa using g
   omega
  subst g;rw[VN];refine aa.exit ?_;simp;have ek:=λk'=>mb z (sT z (fc k) k') [] (λq hq=>by cases hq);have e1:=λk'=>(ek k').sp;have e4:=λk'=>(ek k').a;simp only[ZaK,uA,FV]at e1;simp only[ZaK,FV]at e4;refine aa.seq ?_;refine aa.ab dY fw [5,11,62,63,64] ?_;simp[HM];refine aa.block ?_;refine aa.loop (λy:Nat=>⟨DM.look [(5,.v (.box [ti z.n.aV,ti z.n.an,ti z.n.start,.sl (aS z.n.rules)])),(11,.ptr 2012 0),(62,.v (.sl (aS z.n.rules))),(63,.v (ti z.n.rules.length)),(64,.v (ti y))],cE (cH z (sT z (fc k) y)),4000,1000,[]⟩)
   (λy=>y<=z.n.rules.length) (λy=>z.n.rules.length-y) 0 (Le.same (kc λq hq=>by have:=iF z _ q hq;omega) (by simp[fO])) (by omega) (λy hy=>?_)
  refine aa.ab dY fw [5,11,62,63,64,65] ?_;simp[A4];refine aa.seq ?_;refine aa.cond rfl (λg=>?_) (λg=>?_)
  ·have g:y<z.n.rules.length:=by simpa using g
   refine aa.skip ?_;simp;refine aa.seq ?_;refine aa.block ?_;have rk:=fR g;have hic:=λD hD=>VL H g (D:=D) hD;rw[NP]at hic;obtain⟨⟨DA,rh,ra,rb,rp,ro⟩,hr⟩:∃r,z.n.rules.getD y default=r:=⟨_,rfl⟩;rw[hr]at rk hic;simp only[bD.enc]at rk;refine aa.ab dY fw [5,11,62,63,64,14] ?_;simp[tV,g,rk];have eU:∀(o o':Ob) (L:List (Nat×Ob)),cE ((4104,o)::(4104,o')::L)=cE ((4104,o)::L):=λo o' L=>by
    funext q;simp only[dm];split<;>rfl
   rw[eU];have ux:∀r',cE ([(4104,cQ ⟨DA,rh,ra,rb,rp,ro⟩)]++cH z (sT z (fc k) y)) r'=none->cE ([(4104,cQ ⟨DA,rh,ra,rb,rp,ro⟩)]++cH z (sT z (fc k) (y+1))) r'=none:=by
    intro r' fa;simp only[cH,ZaH,ZaK,dm,lX]at fa⊢;repeat' split at fa
    all_goals first|(cases fa;done)|skip
    simp[*]
   have ay:=Ye aw.nil (λN' _=>hic _ (LS _)) ux;have q1:cE ((4104,Ob.box [.v (ti DA),.v (ti rh),.v (ti ra),.v (ti rb),.v (ti rp),.v (ti ro)])::cH z (sT z (fc k) y)) 2012=some (.box [.ptr 2033 0]):=by rw[dm,if_neg (by omega)];exact e4 y
   refine aa.OC ay fw (rs:=MZ) rfl (by kernel_rfl) [5,11,62,63,64] ?_;simp[MZ,q1,cQ];refine aa.le (VP (L:=[_]) (L':=[]) (l:=[(5,.v (.box [ti z.n.aV,ti z.n.an,ti z.n.start,.sl (aS z.n.rules)])),(11,.ptr 2012 0),(62,.v (.sl (aS z.n.rules))),(63,.v (ti z.n.rules.length)),(64,.v (ti y))]) (nxt':=4500) (by simp) (by simp) (by omega) trivial ?_) ?_
   ·simp[e4]
   simp;refine aa.dv dY fw [5,11,62,63,64] ?_;simp[A5];rw[au (x:=(y:Int)+1) (by omega)];exact⟨y+1,le_eq rfl (kc λq hq=>by have:=iF z _ q hq;omega) (by simp),by omega,by omega⟩
  ·have g:y=z.n.rules.length:=by
    have:¬y<z.n.rules.length:=by simpa using g
    omega
   subst g;have e0:sT z (fc k) z.n.rules.length=s0:=by rw[<-Q4];unfold sT yN;rw[Zbn]
   rw[e0];refine aa.exit ?_;simp;have e4:=(mb z s0 [] (λq hq=>by cases hq)).a;simp only[ZaK,FV]at e4;have ux:∀r',cE (cH z s0) r'=none->cE (cH z s9) r'=none:=by
    intro r' fa;simp only[cH,dm,lX]at fa⊢;repeat' split at fa
    all_goals first|(cases fa;done)|skip
    simp[*]
   have ay:=Ye aw.nil (λN' _=>h62) ux;refine aa.ep ay fw (rs:=M0) rfl (by kernel_rfl) [5,11] ?_;simp[M0,e4];refine aa.ab dY fw [5,11,15] ?_;simp[A7];refine aa.le (le_eq rfl (l:=[(5,.v (.box [ti z.n.aV,ti z.n.an,ti z.n.start,.sl (aS z.n.rules)])),(11,.ptr 2012 0),(15,.aI)]) (nxt':=5000) (kc λq hq=>by have:=iF z _ q hq;omega) (by simp)) ?_;refine aa.le (Le.l7 (k:=15) 57 (sz:=4) (by omega) (by simp)) ?_;rw[ik];refine aa.seq ?_;refine aa.ab dY fw [11,15,76,77] ?_;simp[A8];refine aa.block ?_;obtain⟨own,eS⟩:∃l,mW z s9.best=l:=⟨_,rfl⟩;have hol:own.length=k:=by rw[<-eS,zt,NP]
   have hog:∀y,y<k->own.getD y default=gr z s9.best y:=λy hy=>by rw[<-eS];simp[mW,List.getD,NP,hy]
   have dF:=λ(o:Ob)=>(mb z s9 [(5000,o)] (by simp)).a;simp only[ZaH,ZaK,FV]at dF;rw[eS];refine aa.loop (λy:Nat=>⟨DM.look [(11,.ptr 2012 0),(15,.bk 5000 0),(76,.v (ti k)),(77,.v (ti y))],cE ([(5000,.arr 0 57 4 (aM (own.take y)))]++cH z s9),6000,1000,[]⟩)
    (λy=>y<=k) (λy=>k-y) 0 (VP (L:=[_]) (by simp) (by simp) (by omega) ?_ ?_) (by omega) (λy hy=>?_)
   ·simp[aM]
   ·simp[dF,hnn2]
   refine aa.ab dY fw [11,15,76,77,78] ?_;simp[A9];refine aa.seq ?_;refine aa.cond rfl (λg=>?_) (λg=>?_)
   ·have g:y<k:=by simpa using g
    have hg:=hog y g;have h63':=λN hN=>h63 y g [(5000,.arr 0 57 4 (aM (own.take y)))] (by simp) N hN;rw[<-hg]at h63';have tk:own.take (y+1)=own.take y++[own.getD y default]:=cN (by omega);obtain⟨cx,Qq⟩:∃c,own.getD y default=c:=⟨_,rfl⟩;rw[Qq]at h63' tk;refine aa.skip ?_;simp;refine aa.seq ?_;refine aa.block ?_;refine aa.ab dY fw [11,15,16,76,77] ?_;simp[Ba];have ay:=Ye aw.nil h63' (λr h=>h);refine aa.OC ay fw (rs:=ES) rfl (by kernel_rfl) [11,15,76,77] ?_;simp[ES,dF,cG,chunk,Cell.enc];refine⟨by omega, ?_⟩;refine aa.dv dY fw [11,15,76,77] ?_;simp[Tu];rw[au (x:=(y:Int)+1) (by omega)];refine⟨y+1,VP (L:=[_,_]) (L':=[_]) (by simp) (by simp) (by omega) ?_ ?_,by omega,by omega⟩
    ·simp[tk,aM,Cell.enc]
    ·simp[dF]
   ·have g:y=k:=by
     have:¬y<k:=by simpa using g
     omega
    subst g;refine aa.exit ?_;simp;refine aa.ab dY fw [10] ?_;simp[Tv];refine aa.ret ?_;exact .inr ⟨5000,0,by simp,by simp[<-hol]⟩
def gP(f:Nat->Nat):Nat->Nat
 |0=>0
 |n+1=>gP f n+f n
theorem kT{f g:Nat->Nat}:∀{n:Nat},(∀i,i<n->f i=g i)->gP f n=gP g n
 |0,_=>rfl
 |n+1,h=>by simp only[gP];rw[kT λi hi=>h i (by omega),h n (by omega)]
theorem I2(f:Nat->Nat)(a:Nat):∀b:Nat,gP f (a+b)=gP f a+gP (λi=>f (a+i)) b
 |0=>rfl
 |b+1=>by
  show gP f (a+b)+f (a+b)=_;rw[I2 f a b];simp only[gP];omega
theorem xO:∀n:Nat,gP (λ_=>0) n=0
 |0=>rfl
 |n+1=>by simp only[gP,xO n]
theorem DE(f g:Nat->Nat):∀n:Nat,gP (λi=>f i+g i) n=gP f n+gP g n
 |0=>rfl
 |n+1=>by simp only[gP,DE f g n];omega
theorem DF(f:Nat->Nat->Nat)(n:Nat):∀m:Nat,gP (λa=>gP (λb=>f a b) n) m=gP (λb=>gP (λa=>f a b) m) n
 |0=>by simp only[gP,xO]
 |m+1=>by simp only[gP,DF f n m,DE]
theorem I3(f:Nat->Nat){k n:Nat}(h:k<=n):gP (λi=>if i<k then f i else 0) n=gP f k:=by
 obtain⟨d,rfl⟩:=Nat.exists_eq_add_of_le h;rw[I2,kT (g:=f) λi hi=>if_pos hi,kT (g:=λ_=>0) λi _=>if_neg (by omega),xO];rfl
theorem VR(g:Nat->Nat->Nat)(S:Nat):gP (λa=>gP (λb=>g b a) (S-a)) S=gP (λs=>gP (λj=>g s j) (S-s)) S:=by
 rw[kT (g:=λa=>gP (λb=>if b<S-a then g b a else 0) S) λa _=>(I3 _ (by omega)).symm,DF];refine kT λs hs=>?_;rw[<-I3 (λj=>g s j) (k:=S-s) (n:=S) (by omega)];refine kT λa ha=>?_;by_cases h:a<S-s
 ·rw[if_pos h,if_pos (by omega)]
 ·rw[if_neg h,if_neg (by omega)]
def VS(cf co cn fr to os k:Int):KR:=iN 0 (fr-k) (to-k) cf co cn os
def Cs(cf co cn fr to os k:Int):Prop:=(VS cf co cn fr to os k).ok=true/\(VS cf co cn fr to os k).f=fr/\(VS cf co cn fr to os k).t=to
instance(cf co cn fr to os k:Int):Decidable (Cs cf co cn fr to os k):=by unfold Cs;infer_instance
structure OR where
 (f t:Int)
 ok:Bool
def OR.enc(o:OR):T:=.eD [ti o.f,ti o.t,.bool o.ok]
def cC(cf co cn fr to os:Int):OR:=
 if Cs cf co cn fr to os 0 then⟨fr,to,true⟩else if Cs cf co cn fr to os (2*(cn-co))then⟨fr-2*(cn-co),to-2*(cn-co),true⟩else⟨0,0,false⟩
def I4(x:Int):Prop:= -1000000<=x/\x<=1000000
theorem t34(cf co cn fr to os:Int)(h1:I4 co)(h2:I4 cn)(h3:I4 fr)(h4:I4 to)(hs:1<=os)(NU:os<=10000):aT Tryz.prog 34 [.agg [ti cf,ti co,ti cn],ti fr,ti to,ti os] (cC cf co cn fr to os).enc:=by
 obtain⟨R,hR⟩:∃R,cC cf co cn fr to os=R:=⟨_,rfl⟩;rw[hR];unfold I4 at h1 h2 h3 h4;have ay:=ok18 (l:=[]) aw.nil;have w1:IntKind.i64.wrap (cn-co)=cn-co:=au (by omega);have w2:IntKind.i64.wrap (2*(cn-co))=2*(cn-co):=au (by omega);obtain⟨d,hd⟩:∃d,2*(cn-co)=d:=⟨_,rfl⟩;rw[hd]at w2;refine c34.ok (by simp) (aJ ?_);simp;refine aa.ab ay fw [1,2,3,4,8,9,10] ?_;simp[Hh];refine aa.le (Le.aD (o:=[]) (l:=[(1,.v (ti fr)),(2,.v (ti to)),(3,.v (ti os)),(4,.v (.box [ti cf,ti co,ti cn]))]) (nxt':=1200) ?_ ?_ ?_ ?_) ?_;iterate 4(·simp)
 refine aa.ab ay fw [1,2,3,4,11] ?_;simp[Hi,w1,hd,w2];refine aa.seq ?_;refine aa.ab ay fw [1,2,3,4,11,24,25,26] ?_;simp[Hj,chunk];refine aa.block ?_;unfold cC at hR;rw[hd]at hR;refine aa.loop (λy:Nat=>⟨DM.look [(1,.v (ti fr)),(2,.v (ti to)),(3,.v (ti os)),(4,.v (.box [ti cf,ti co,ti cn])),(24,.v (.sl [[ti 0],[ti d]])),(25,.v (ti 2)),(26,.v (ti y))],cE [],2000,1000,[]⟩)
  (λy=>y<=2/\(1<=y->¬Cs cf co cn fr to os 0)/\(2<=y->¬Cs cf co cn fr to os d)) (λy=>2-y) 0 (Le.aD ?_ ?_ ?_ ?_) ⟨by omega,by omega,by omega⟩ (λy hy=>?_)
 iterate 4(·simp)
 obtain⟨hy,jQ,fg⟩:=hy;refine aa.ab ay fw [1,2,3,4,24,25,26,27] ?_;simp[Hk];refine aa.seq ?_;refine aa.cond rfl (λg=>?_) (λg=>?_)
 ·have g':(y:Int)<2:=by simpa using g
  have g:y<2:=by omega
  obtain⟨k,hk⟩:∃k:Int,(if y=0 then 0 else d)=k:=⟨_,rfl⟩;have tQ:DM.rowAt [[ti 0],[ti d]] (y:Int)=[ti k]:=by
   rw[<-hk]
   match y,g with
   |0,_=>rfl
   |1,_=>rfl
  have hkb: -4000000<=k/\k<=4000000:=by rw[<-hk];split<;>omega
  have w3:IntKind.i64.wrap (fr-k)=fr-k:=au (by omega);have w4:IntKind.i64.wrap (to-k)=to-k:=au (by omega);obtain⟨⟨qh,qf,qt,qo⟩,hq⟩:∃q,VS cf co cn fr to os k=q:=⟨_,rfl⟩;have hq':iN 0 (fr-k) (to-k) cf co cn os=⟨qh,qf,qt,qo⟩:=hq;have hP:Cs cf co cn fr to os k↔(qo=true/\qf=fr/\qt=to):=by unfold Cs;rw[hq]
  refine aa.skip ?_;simp;refine aa.seq ?_;refine aa.block ?_;refine aa.ab ay fw [1,2,3,4,13,24,25,26] ?_;simp[Hl,g',tQ];refine aa.ab ay fw [1,2,3,4,14,24,25,26] ?_;simp[Hm,w3,w4];refine aa.ab ay fw [1,2,3,4,14,15,16,24,25,26] ?_;simp[Hn,hq'];refine⟨⟨_,_,_,_,_,_,_,⟨⟨rfl,rfl,rfl⟩,⟨rfl,rfl,rfl⟩,rfl⟩,hs,NU⟩, ?_⟩;obtain⟨c1,bb⟩:∃c1:Bool,decide (Cs cf co cn fr to os k)=c1:=⟨_,rfl⟩;refine aa.bZ ay fw [(1,.v (ti fr)),(2,.v (ti to)),(3,.v (ti os)),(4,.v (.box [ti cf,ti co,ti cn])),(14,.ptr 2141 0),(24,.v (.sl [[ti 0],[ti d]])),(25,.v (ti 2)),(26,.v (ti y)),(56,.v (.bool c1))] ?_ ?_
  ·by_cases q1:qo=true
   ·by_cases q2:qf=fr
    ·have:c1=decide (qt=to):=by rw[<-bb];simp[hP,q1,q2]
     simp[MM,q1,q2,this]
    ·have:c1=false:=by rw[<-bb];simp[hP,q2]
     simp[MM,q1,q2,this]
   ·have q1:qo=false:=by simpa using q1
    have:c1=false:=by rw[<-bb];simp[hP,q1]
    simp[MM,q1,this]
  refine aa.cond rfl (λg2=>?_) (λg2=>?_)
  ·have g2:c1=true:=by simpa using g2
   rw[g2]at bb;have hp:=of_decide_eq_true bb;have hRk:R=⟨fr-k,to-k,true⟩:=by
    rw[<-hR]
    match y,g,hk,jQ with
    |0,_,hk,_=>
     have:k=0:=by rw[<-hk];simp
     subst this;rw[if_pos hp];simp
    |1,_,hk,jQ=>
     have:d=k:=by rw[<-hk];simp
     subst this;rw[if_neg (jQ (by omega)),if_pos hp]
   subst hRk;refine aa.ab ay fw [8,9,10] ?_;simp[abx];refine aa.ret ?_;simp[xd,OR.enc]
  ·have g2:c1=false:=by simpa using g2
   rw[g2]at bb;have hp:=of_decide_eq_false bb;refine aa.skip ?_;simp;refine aa.dv ay fw [1,2,3,4,24,25,26] ?_;simp[aby];rw[au (x:=(y:Int)+1) (by omega)];refine⟨y+1,Le.aD ?_ ?_ ?_ ?_,⟨by omega,λ_=>?_,λh=>?_⟩,by omega⟩;iterate 4(·simp)
   ·match y,hk,jQ with
    |0,hk,_=>
     have:k=0:=by rw[<-hk];simp
     subst this;exact hp
    |y+1,_,jQ=>exact jQ (by omega)
   ·have:d=k:=by rw[<-hk,if_neg (by omega)]
    subst this;exact hp
 ·have g:y=2:=by
   have:¬(y:Int)<2:=by simpa using g
   omega
  subst g;rw[if_neg (jQ (by omega)),if_neg (fg (by omega))]at hR;subst hR;refine aa.exit ?_;simp;refine aa.ab ay fw [8,9,10] ?_;simp[Sp];refine aa.ret ?_;simp[xd,OR.enc]
def yS(aC:List bn)(fr to a arg:Int)(m:Nat):Int:=(List.range m).foldl (λg i=>if(aC.getD i default).f=fr/\(aC.getD i default).t=to/\(aC.getD i default).term=a then(i:Int)else g) arg
theorem B0(aC:List bn)(fr to a arg:Int)(m:Nat):yS aC fr to a arg (m+1)=if(aC.getD m default).f=fr/\(aC.getD m default).t=to/\(aC.getD m default).term=a then(m:Int)else yS aC fr to a arg m:=by
 unfold yS;rw[ZaD,Zat];rfl
def nY(n:aG)(l:aL)(c:Cell)(fr to d:Int):Cell:=
 if c.eu<0\/c.eu>=n.rules.length then c
 else if(n.rules.getD c.eu.toNat default).kind≠2 then⟨c.cost,c.size,c.eu,c.arg+d⟩
 else⟨c.cost,c.size,c.eu,yS l.aC fr to (n.rules.getD c.eu.toNat default).a c.arg l.aC.length⟩
theorem t36(n:aG)(l:aL)(c:Cell)(fr to d:Int)(hn:n.rules.length<=1000000)(hl:l.aC.length<=1000000000)(hc:I4 d/\-1<=c.arg/\c.arg<=10000000000):aT Tryz.prog 36 [n.enc,l.enc,.agg c.enc,ti fr,ti to,ti d] (.agg (nY n l c fr to d).enc):=by
 obtain⟨R,hR⟩:∃R,nY n l c fr to d=R:=⟨_,rfl⟩;rw[hR];unfold nY at hR;obtain⟨nt,nn,ns,rules⟩:=n;obtain⟨ls,aC,fin⟩:=l;obtain⟨cc,cs,cr,cg⟩:=c;simp only at hR hn hl hc;have ay:aw Tryz.prog (aW []):=aw.nil;unfold I4 at hc;have w1:IntKind.i64.wrap (cg+d)=cg+d:=au (by omega);refine c36.ok (by simp) (aJ ?_);simp[aG.enc,aL.enc,Cell.enc];refine aa.ab ay fw [3,4,5,6,7,8,12] ?_;simp[Ho];refine aa.le (Le.aD (o:=[(1009,.box [.v (ti cc),.v (ti cs),.v (ti cr),.v (ti cg)]),(1013,.box [.v (ti 0),.v (ti 0),.v (ti 0),.v (ti 0)])]) (l:=[(3,.v (ti fr)),(4,.v (ti to)),(5,.v (ti d)),(6,.v (.box [ti nt,ti nn,ti ns,.sl (aS rules)])),(7,.v (.box [ti ls,.sl (ba aC),.sl (aB fin)])),(8,.ptr 1009 0),(12,.ptr 1013 0)]) (nxt':=1200) ?_ ?_ ?_ ?_) ?_;iterate 4(·simp)
 refine aa.seq ?_;obtain⟨c1,bb⟩:∃c1:Bool,decide (cr<0\/cr>=rules.length)=c1:=⟨_,rfl⟩;refine aa.bZ ay fw [(3,.v (ti fr)),(4,.v (ti to)),(5,.v (ti d)),(6,.v (.box [ti nt,ti nn,ti ns,.sl (aS rules)])),(7,.v (.box [ti ls,.sl (ba aC),.sl (aB fin)])),(8,.ptr 1009 0),(12,.ptr 1013 0),(26,.v (.bool c1))] ?_ ?_
 ·by_cases q1:cr<0
  ·have:c1=true:=by rw[<-bb];simp[q1]
   simp[vu,q1,this]
  ·have:c1=decide ((rules.length:Int)<=cr):=by rw[<-bb];simp[q1]
   simp[vu,q1,this]
 refine aa.cond rfl (λg=>?_) (λg=>?_)
 ·have g:c1=true:=by simpa using g
  rw[g]at bb;rw[if_pos (of_decide_eq_true bb)]at hR;subst hR;refine aa.ab ay fw [12] ?_;simp[Hp];refine aa.ret ?_;simp[rC]
 ·have g:c1=false:=by simpa using g
  rw[g]at bb;have bb:=of_decide_eq_false bb;rw[if_neg bb]at hR;obtain⟨k,rfl⟩:=Zad (a:=cr) (by omega);have hk:k<rules.length:=by omega
  have rk:=fR hk;simp only[Zak]at hR;obtain⟨⟨DA,rh,ra,rb,rp,ro⟩,hr⟩:∃r,rules.getD k default=r:=⟨_,rfl⟩;rw[hr]at rk hR;simp only[bD.enc]at rk;simp only at hR;refine aa.skip ?_;simp;refine aa.ab ay fw [3,4,5,6,7,8,12,13] ?_;simp[Hq,hk,rk];refine aa.le (Le.aD (o:=[(1009,.box [.v (ti cc),.v (ti cs),.v (ti k),.v (ti cg)]),(1013,.box [.v (ti 0),.v (ti 0),.v (ti 0),.v (ti 0)])]) (l:=[(3,.v (ti fr)),(4,.v (ti to)),(5,.v (ti d)),(7,.v (.box [ti ls,.sl (ba aC),.sl (aB fin)])),(8,.ptr 1009 0),(12,.ptr 1013 0),(13,.v (.box [ti DA,ti rh,ti ra,ti rb,ti rp,ti ro]))]) (nxt':=1500) ?_ ?_ ?_ ?_) ?_;iterate 4(·simp)
  refine aa.seq ?_;refine aa.ab ay fw [3,4,5,7,8,12,13,36] ?_;simp[abz];refine aa.cond rfl (λg2=>?_) (λg2=>?_)
  ·have g2:DA≠2:=by simpa using g2
   rw[if_pos g2]at hR;subst hR;refine aa.ab ay fw [8,12] ?_;simp[abA,w1];refine aa.ab ay fw [12] ?_;simp[abB];refine aa.ret ?_;simp[rC]
  ·have g2:¬DA≠2:=by simpa using g2
   rw[if_neg g2]at hR;refine aa.skip ?_;simp;refine aa.seq ?_;refine aa.ab ay fw [3,4,8,12,13,44,45,46] ?_;simp[abC];refine aa.block ?_;refine aa.loop (λy:Nat=>⟨DM.look [(3,.v (ti fr)),(4,.v (ti to)),(8,.ptr 1009 0),(12,.ptr 1013 0),(13,.v (.box [ti DA,ti rh,ti ra,ti rb,ti rp,ti ro])),(44,.v (.sl (ba aC))),(45,.v (ti aC.length)),(46,.v (ti y))],cE [(1009,.box [.v (ti cc),.v (ti cs),.v (ti k),.v (ti (yS aC fr to ra cg y))]),(1013,.box [.v (ti 0),.v (ti 0),.v (ti 0),.v (ti 0)])],2000,1000,[]⟩)
    (λy=>y<=aC.length) (λy=>aC.length-y) 0 (Le.aD ?_ ?_ ?_ ?_) (by omega) (λy hy=>?_)
   ·simp
   ·simp
   ·simp[yS]
   ·simp
   have hs:=B0 aC fr to ra cg y;obtain⟨G,hG⟩:∃G,yS aC fr to ra cg y=G:=⟨_,rfl⟩;rw[hG]at hs⊢;refine aa.ab ay fw [3,4,8,12,13,44,45,46,47] ?_;simp[abD];refine aa.seq ?_;refine aa.cond rfl (λg=>?_) (λg=>?_)
   ·have g:y<aC.length:=by simpa using g
    have w2:IntKind.i64.wrap ((y:Int)+1)=((y+1:Nat):Int):=by rw[au (by omega)];omega
    have rw1:=kN g;obtain⟨⟨af,at',ae,ac,ak⟩,ha⟩:∃a,aC.getD y default=a:=⟨_,rfl⟩;rw[ha]at rw1 hs;simp only[bn.enc]at rw1;simp only at hs;refine aa.skip ?_;simp;refine aa.seq ?_;refine aa.block ?_;refine aa.ab ay fw [3,4,8,12,13,14,15,44,45,46] ?_;simp[abE,g,rw1];obtain⟨c2,dR⟩:∃c2:Bool,decide (af=fr/\at'=to/\ae=ra)=c2:=⟨_,rfl⟩;refine aa.bZ ay fw [(3,.v (ti fr)),(4,.v (ti to)),(8,.ptr 1009 0),(12,.ptr 1013 0),(13,.v (.box [ti DA,ti rh,ti ra,ti rb,ti rp,ti ro])),(14,.v (ti y)),(44,.v (.sl (ba aC))),(45,.v (ti aC.length)),(46,.v (ti y)),(67,.v (.bool c2))] ?_ ?_
    ·by_cases q1:af=fr
     ·by_cases q2:at'=to
      ·have:c2=decide (ae=ra):=by rw[<-dR];simp[q1,q2]
       simp[EH,q1,q2,this]
      ·have:c2=false:=by rw[<-dR];simp[q2]
       simp[EH,q1,q2,this]
     ·have:c2=false:=by rw[<-dR];simp[q1]
      simp[EH,q1,this]
    refine aa.cond rfl (λg3=>?_) (λg3=>?_)
    ·have g3:c2=true:=by simpa using g3
     rw[g3]at dR;rw[if_pos (of_decide_eq_true dR)]at hs;refine aa.dv ay fw [3,4,8,12,13,44,45,46] ?_;simp[Sq];refine aa.dv ay fw [3,4,8,12,13,44,45,46] ?_;simp[Kg,w2];refine⟨y+1,Le.aD ?_ ?_ ?_ ?_,by omega,by omega⟩
     ·simp
     ·simp
     ·simp[hs]
     ·simp
    ·have g3:c2=false:=by simpa using g3
     rw[g3]at dR;rw[if_neg (of_decide_eq_false dR)]at hs;refine aa.skip ?_;simp;refine aa.dv ay fw [3,4,8,12,13,44,45,46] ?_;simp[Kg,w2];refine⟨y+1,Le.aD ?_ ?_ ?_ ?_,by omega,by omega⟩
     ·simp
     ·simp
     ·simp[hs]
     ·simp
   ·have g:y=aC.length:=by
     have:¬y<aC.length:=by simpa using g
     omega
    subst g;rw[hG]at hR;subst hR;refine aa.exit ?_;simp;refine aa.ab ay fw [12] ?_;simp[Sr];refine aa.ret ?_;simp[rC]
def p9(S a:Nat):List (Nat×Nat):=(List.range (S-a)).map λb=>(b,b+a)
def B1(S:Nat):List (Nat×Nat):=(List.range S).flatMap (p9 S)
def Yn(p:Nat×Nat):List T:=[ti p.1,ti p.2]
theorem B2{n y:Nat}(h:y<n):(List.range n).drop y=y::(List.range n).drop (y+1):=by
 rw[ZbS (by simpa using h)];simp
theorem t53(S:Nat)(hS:S<=1000):ItOk Tryz.prog 53 [.box [ti S]] ((B1 S).map Yn):=by
 have ay:aw Tryz.prog (aW []):=aw.nil;obtain⟨rest,sZ⟩:∃rest:Nat->List (List T),∀y,rest y=(((List.range S).drop y).flatMap (p9 S)).map Yn:=⟨_,λ_=>rfl⟩;obtain⟨row,lV⟩:∃row:Nat->Nat->List (List T),∀a y,row a y=(((List.range (S-a)).drop y).map λb=>(b,b+a)).map Yn:=⟨_,λ_ _=>rfl⟩;rw[show(B1 S).map Yn=rest 0 by rw[sZ];rfl];have Gy:rest S=[]:=by rw[sZ,Zby (by simp)];rfl
 have hrend:∀a,row a (S-a)=[]:=λa=>by rw[lV,Zby (by simp)];rfl
 have ID:∀a,a<S->rest a=row a 0++rest (a+1):=λa h=>by
  rw[sZ,sZ,lV,B2 h,Zbo,ZaO];rfl
 have hrstep:∀a b,b<S-a->row a b=[ti b,ti (b+a:Nat)]::row a (b+1):=λa b h=>by
  rw[lV,lV,B2 h];rfl
 refine c53.okI (by simp) (Ov ?_);simp;refine aa.ab ay fw [0,1,5,6] ?_;simp[G0];refine aa.block ?_;refine aa.loop (λa:Nat=>⟨DM.look [(0,.Cz),(1,.v (.box [ti S])),(5,.v (ti S)),(6,.v (ti a))],cE [],2000,0,rest a⟩)
  (λa=>a<=S) (λa=>S-a) 0 (Le.aD ?_ ?_ ?_ ?_) (by omega) (λa ha=>?_)
 iterate 4(·simp)
 refine aa.ab ay fw [0,1,5,6,7] ?_;simp[Ha];refine aa.seq ?_;refine aa.cond rfl (λg=>?_) (λg=>?_)
 ·have g:a<S:=by simpa using g
  have w1:IntKind.i64.wrap ((a:Int)+1)=((a+1:Nat):Int):=by rw[au (by omega)];omega
  refine aa.skip ?_;simp;refine aa.seq ?_;refine aa.block ?_;refine aa.ab ay fw [0,1,3,5,6] ?_;simp[Hb];refine aa.ab ay fw [0,1,3,4,5,6] ?_;simp[Hc];refine aa.block ?_;refine aa.loop (λb:Nat=>⟨DM.look [(0,.Cz),(1,.v (.box [ti S])),(3,.v (ti a)),(4,.v (ti b)),(5,.v (ti S)),(6,.v (ti a))],cE [],3000,0,row a b++rest (a+1)⟩)
   (λb=>b<=S-a) (λb=>S-a-b) 0 ?_ (by omega) (λb hb=>?_)
  ·rw[ID a g];refine Le.aD ?_ ?_ ?_ ?_<;>simp
  have w3:IntKind.i64.wrap ((b:Int)+a)=((b+a:Nat):Int):=by rw[au (by omega)];omega
  refine aa.seq ?_;refine aa.ab ay fw [0,1,3,4,5,6,13] ?_;simp[Hd,w3];refine aa.cond rfl (λg2=>?_) (λg2=>?_)
  ·have g2:(b:Int)+a<S:=by simpa using g2
   have w2:IntKind.i64.wrap ((b:Int)+1)=((b+1:Nat):Int):=by rw[au (by omega)];omega
   rw[hrstep a b (by omega)];refine aa.skip ?_;simp;refine aa.seq ?_;refine aa.block ?_;refine aa.ab ay fw [0,1,3,4,5,6,22] ?_;simp[He,w3];refine⟨by funext r;rfl, ?_⟩;refine aa.cond rfl (λh=>by cases h) (λ_=>?_);refine aa.skip ?_;simp;refine aa.dv ay fw [0,1,3,4,5,6] ?_;simp[Hf,w2];refine⟨b+1,Le.aD ?_ ?_ ?_ ?_,by omega,by omega⟩<;>simp
  ·have g2:b=S-a:=by
    have:¬(b:Int)+a<S:=by simpa using g2
    omega
   subst g2;refine aa.exit ?_;simp;refine aa.dv ay fw [0,1,5,6] ?_;simp[Hg,w1,hrend];refine⟨a+1,Le.aD ?_ ?_ ?_ ?_,by omega,by omega⟩<;>simp
 ·have g:a=S:=by
   have:¬a<S:=by simpa using g
   omega
  subst g;refine aa.exit ?_;simp[finI,Gy]
theorem t33(S:Nat):aT Tryz.prog 33 [ti S] (.fn (.func 53) [.box [ti S]]):=by
 have ay:aw Tryz.prog (aW []):=aw.nil;refine c33.ok (by simp) (aJ ?_);simp;refine aa.ab ay fw [1] ?_;simp[GY];refine aa.le (Le.aD (o:=[]) (l:=[(1,.v (.box [ti S]))]) (nxt':=1200) ?_ ?_ ?_ ?_) ?_;iterate 4(·simp)
 refine aa.ab ay fw [2] ?_;simp[GZ];refine aa.ret ?_;simp[AY]
theorem t31(n s:Int)(h1:0<=n)(h2:n<=1000000)(h3:0<=s)(h4:s<=1000000):aT Tryz.prog 31 [ti n,ti s] (ti (dN n s)):=by
 have k1:=cO h1 h2 h3 h4;have k2:=cO (b:=s+1) (B:=1000001) k1.1 k1.2 (by omega) (by omega);have w1:IntKind.i64.wrap (n*s)=n*s:=au (by omega);have w2:IntKind.i64.wrap (s+1)=s+1:=au (by omega);have w3:IntKind.i64.wrap (n*s*(s+1))=n*s*(s+1):=au (by omega);have w4:IntKind.i64.wrap ((n*s*(s+1)).tdiv 2)=n*s*(s+1)/2:=by rw[pY k2.1];exact au (by omega)
 refine c31.ok (by simp) (aJ ?_);simp;refine aa.ab dY fw [0,1] ?_;simp[GW];refine aa.ab dY fw [4] ?_;simp[GX,w1,w2,w3,w4];refine aa.ret ?_;simp[AX,dN]
def iV(n:aG)(l:aL)(L:List (Nat×Nat)):List Cell:=L.foldl (λB p=>l8 B (jh n l ⟨n.an,l.aN,B⟩ p.1 p.2) (cJ n.an l.aN p.1 p.2).toNat n.an.toNat) (List.replicate (dN n.an l.aN).toNat ⟨0,0,0,0⟩)
def rU(cf co cn os:Int)(nn:Nat)(L:List (Nat×Nat)):Nat:=L.foldl (λw p=>w+if(cC cf co cn p.1 p.2 os).ok then 0 else nn) 0
theorem I5(n:aG)(l:aL)(L:List (Nat×Nat))(p:Nat×Nat):iV n l (L++[p])=l8 (iV n l L) (jh n l ⟨n.an,l.aN,iV n l L⟩ p.1 p.2) (cJ n.an l.aN p.1 p.2).toNat n.an.toNat:=by
 unfold iV;rw[Zat];rfl
theorem LZ(cf co cn os:Int)(nn:Nat)(L:List (Nat×Nat))(p:Nat×Nat):rU cf co cn os nn (L++[p])=rU cf co cn os nn L+if(cC cf co cn p.1 p.2 os).ok then 0 else nn:=by
 unfold rU;rw[Zat];rfl
theorem DG(B own:List Cell)(a:Nat)(h:a+own.length<=B.length):∀y,y<=own.length->l8 B own a y=B.take a++(own.take y++B.drop (a+y))
 |0,_=>by simp[l8]
 |y+1,hy=>by
  rw[ml,DG B own a h y (by omega),cN (by omega),Zb5 _ _ (by rw[Zaw];omega),Zaw,Zb5 _ _ (by rw[Zaw];omega),Zaw,
   ZbS (i:=a+y) (by omega),show a+y-min a B.length-min y own.length=0 by omega]
  simp[Nat.add_assoc]
theorem VT(cf co cn os:Int)(nn:Nat)(L:List (Nat×Nat)):rU cf co cn os nn L<=nn*L.length:=by
 have key:∀(L:List (Nat×Nat)) (w:Nat),L.foldl (λw p=>w+if(cC cf co cn p.1 p.2 os).ok then 0 else nn) w<=w+nn*L.length:=by
  intro L;induction L with
  |nil=>intro w;simp
  |cons p L ih=>
   intro w;rw[ZaB,Za9,Nat.mul_succ];obtain⟨d,hd⟩:∃d,(if(cC cf co cn p.1 p.2 os).ok then 0 else nn)=d:=⟨_,rfl⟩;have hd2:d<=nn:=by rw[<-hd];split<;>omega
   rw[hd];have:=ih (w+d);omega
 have:=key L 0;unfold rU;omega
theorem Yo(S:Nat):(B1 S).length<=S*S:=by
 have:=wb (f:=p9 S) (c:=S) (List.range S) (λa _=>by simp[p9])
 rwa [ZcD]at this
structure UpdOk(n:aG)(old:bV)(l:aL)(cf co cn:Int)(S:Nat):Prop where
 hn:oJ n
 hl:vy l
 hS:l.aN=S
 old1:old.an=n.an
 old2:tq old
 arg:∀h f t:Int,-1<=(lF old h f t).arg/\(lF old h f t).arg<=10000000000
 hco:0<=co/\co<=1000
 hcn:0<=cn/\cn<=1000
 run:∀pre p rest,B1 S=pre++p::rest->p.1<=p.2/\p.2<S/\PJ ⟨n,l,⟨n.an,l.aN,iV n l pre⟩,p.1,p.2⟩
 mv:∀pre p rest,B1 S=pre++p::rest->(cC cf co cn p.1 p.2 old.aN).ok=true->∀y:Nat,(y:Int)<n.an->
  nY n l (lF old y (cC cf co cn p.1 p.2 old.aN).f (cC cf co cn p.1 p.2 old.aN).t) p.1 p.2 (p.1-(cC cf co cn p.1 p.2 old.aN).f)=(jh n l ⟨n.an,l.aN,iV n l pre⟩ p.1 p.2).getD y default
theorem VU{cf co cn fr to os:Int}(h:(cC cf co cn fr to os).ok=true):(cC cf co cn fr to os).f=fr\/(cC cf co cn fr to os).f=fr-2*(cn-co):=by
 unfold cC at h⊢;split
 ·exact .inl rfl
 ·rename_i h1;rw[if_neg h1]at h;split
  ·exact .inr rfl
  ·rename_i h2;rw[if_neg h2]at h;cases h
abbrev s31:DM.Spec:=ct (λts=>∃n s:Int,ts=[ti n,ti s]/\0<=n/\n<=1000000/\0<=s/\s<=1000000) (fun|[.int _ n,.int _ s]=>ti (dN n s)|_=>.bool false) true
theorem ok31{l:List (Nat×DM.Spec)}(h:aw Tryz.prog (aW l)):aw Tryz.prog (aW ((31,s31)::l)):=by
 refine aw.cons h ?_;rintro ts ⟨n,s,rfl,h1,h2,h3,h4⟩;exact⟨by simpa using t31 n s h1 h2 h3 h4,λ_=>rfl⟩
abbrev s32(x:Input)(l:aL):DM.Spec:=ct (λts=>ts=[x.enc]) (λ_=>l.enc) false
abbrev s33:DM.Spec:=ct (λts=>∃S:Nat,ts=[ti S]) (fun|[.int _ s]=>.fn (.func 53) [.box [ti s]]|_=>.bool false) false
theorem ok33{l:List (Nat×DM.Spec)}(h:aw Tryz.prog (aW l)):aw Tryz.prog (aW ((33,s33)::l)):=by
 refine aw.cons h ?_;rintro ts ⟨S,rfl⟩;exact⟨t33 S,λh=>by cases h⟩
abbrev s34:DM.Spec:=ct (λts=>∃cf co cn fr to os,ts=[.agg [ti cf,ti co,ti cn],ti fr,ti to,ti os]/\I4 co/\I4 cn/\I4 fr/\I4 to/\1<=os/\os<=10000)
 (fun|[.agg [.int _ cf,.int _ co,.int _ cn],.int _ fr,.int _ to,.int _ os]=>.eD [ti (cC cf co cn fr to os).f,ti (cC cf co cn fr to os).t,.bool (cC cf co cn fr to os).ok]|_=>.bool false) true
theorem ok34{l:List (Nat×DM.Spec)}(h:aw Tryz.prog (aW l)):aw Tryz.prog (aW ((34,s34)::l)):=by
 refine aw.cons h ?_;rintro ts ⟨cf,co,cn,fr,to,os,rfl,h1,h2,h3,h4,h5,h6⟩;exact⟨by simpa [OR.enc]using t34 cf co cn fr to os h1 h2 h3 h4 h5 h6,λ_=>rfl⟩
abbrev s35:DM.Spec:=yi (λts=>∃nt nn ns rules ls aC fin cn cs cl,∃fr to:Int,ts=[.agg [ti nt,ti nn,ti ns,.sl (aS rules)],.agg [ti ls,.sl (ba aC),.sl (aB fin)],.agg [ti cn,ti cs,.sl (aM cl)],ti fr,ti to]/\PJ ⟨⟨nt,nn,ns,rules⟩,⟨ls,aC,fin⟩,⟨cn,cs,cl⟩,fr,to⟩)
 (fun|[n,l,c,.int _ fr,.int _ to]=>aM (jh (nP n) (_root_.Go.Proofs.tW l) (pE c) fr to)|_=>[]) 57 4
theorem ok35{l:List (Nat×DM.Spec)}(h:aw Tryz.prog (aW l)):aw Tryz.prog (aW ((35,s35)::l)):=by
 refine aw.QI h ?_;rintro ts ⟨nt,nn,ns,rules,ls,aC,fin,cn,cs,cl,fr,to,rfl,h1⟩;exact⟨by simpa [aG.enc,aL.enc,bV.enc]using t35 h1,vL _⟩
abbrev s36:DM.Spec:=ct (λts=>∃nt nn ns rules ls aC fin cc cs cr cg,∃fr to d:Int,ts=[.agg [ti nt,ti nn,ti ns,.sl (aS rules)],.agg [ti ls,.sl (ba aC),.sl (aB fin)],.agg [ti cc,ti cs,ti cr,ti cg],ti fr,ti to,ti d]/\rules.length<=1000000/\aC.length<=1000000000/\I4 d/\-1<=cg/\cg<=10000000000)
 (fun|[n,l,.agg [.int _ cc,.int _ cs,.int _ cr,.int _ cg],.int _ fr,.int _ to,.int _ d]=>.agg [ti (nY (nP n) (_root_.Go.Proofs.tW l) ⟨cc,cs,cr,cg⟩ fr to d).cost,ti (nY (nP n) (_root_.Go.Proofs.tW l) ⟨cc,cs,cr,cg⟩ fr to d).size,ti (nY (nP n) (_root_.Go.Proofs.tW l) ⟨cc,cs,cr,cg⟩ fr to d).eu,ti (nY (nP n) (_root_.Go.Proofs.tW l) ⟨cc,cs,cr,cg⟩ fr to d).arg]|_=>.bool false) true
theorem XN{l:List (Nat×DM.Spec)}(h:aw Tryz.prog (aW l)):aw Tryz.prog (aW ((36,s36)::l)):=by
 refine aw.cons h ?_;rintro ts ⟨nt,nn,ns,rules,ls,aC,fin,cc,cs,cr,cg,fr,to,d,rfl,h1,h2,h3,h4,h5⟩;exact⟨by simpa [aG.enc,aL.enc,Cell.enc]using t36 ⟨nt,nn,ns,rules⟩ ⟨ls,aC,fin⟩ ⟨cc,cs,cr,cg⟩ fr to d h1 h2 ⟨h3,h4,h5⟩,λ_=>rfl⟩
theorem okUp{x:Input}{l:aL}(h:aT Tryz.prog 32 [x.enc] l.enc):aw Tryz.prog (aW [(35,s35),(36,s36),(37,s37),(34,s34),(33,s33),(31,s31),(32,s32 x l)]):=by
 refine ok35 (XN (ok37 (ok34 (ok33 (ok31 (aw.cons aw.nil ?_))))));rintro ts rfl;exact⟨h,λh=>by cases h⟩
def ND:List RO:=[
 l 15 146 [],
 l 14 147 [],
 n 18 148,
 n 18 149,
 a 1 4 150 [],
 l 150 151 [4],
 b .add 149 151 152 [3,5],
 o (.slice 4 (t 147) (some (t 148)) (some (t 152))) 153 [1,2,6],
 L 4 4 154 [],
 L 3 12 155 [],
 L 3 13 156 [],
 n 16 157,
 n 17 158,
 o (.callF 35 [(t 154),(t 155),(t 156),(t 157),(t 158)]) 159 [8,9,10,11,12],
 o (.copy 4 (t 153) (t 159)) 160 [7,13,13],
 b .add 146 160 161 [0,14],
 S 1 15 161 (k [15,14] 15)]
theorem t13(n:aG)(old:bV)(x:Input)(l:aL)(cf co cn:Int)(S:Nat)(U:UpdOk n old l cf co cn S)(hx:aT Tryz.prog 32 [x.enc] l.enc)(hk:x.aj.length<=1000)(hbr:¬Tz x.aj.length cf co cn)(hos:old.aN=2*(x.aj.length-cn)+1+2*co):
  aT Tryz.prog 13 [n.enc,old.enc,x.enc,.agg [ti cf,ti co,ti cn]] (.eD [.agg [ti n.an,ti S,.sl (aM (iV n l (B1 S)))],ti (rU cf co cn old.aN n.an.toNat (B1 S)),ti 0]):=by
 have ay:=okUp hx;obtain⟨hn,hl,hS,o1,o2,harg,hco,hcn,bz,hmv⟩:=U;obtain⟨nt,nn,ns,rules⟩:=n;obtain⟨ls,aC,fin⟩:=l;obtain⟨on,os,oc⟩:=old;obtain⟨cK,ins,sw⟩:=x;simp only at hS hos hk hbr o1;subst hS o1;have Wp:1<=on:=hn.1;have TO:on<=1000:=hn.2.1;have lH:=o2;obtain⟨_,_,c3,c4,c5⟩:=o2;simp only at c3 c4 c5;have wq:1<=(S:Int):=hl.1;have qc:(S:Int)<=1000:=hl.2.1;unfold Tz at hbr;simp only[not_or,Int.not_lt,gt_iff_lt]at hbr;obtain⟨b1,b2,b3,b4,b5⟩:=hbr;have w1:IntKind.i64.wrap ((cK.length:Int)-cn)=cK.length-cn:=au (by omega);have w2:IntKind.i64.wrap (os-1)=os-1:=au (by omega);have w3:IntKind.i64.wrap ((os-1).tdiv 2)=(os-1)/2:=by rw[pY (by omega)];exact au (by omega)
 have w4:os.tmod 2=1:=by rw[Gq (by omega)];omega
 have w5:IntKind.i64.wrap ((os-1)/2-(cK.length-cn))=co:=by rw[au (by omega)];omega
 refine c13.ok (by simp) (aJ ?_);simp[aG.enc,bV.enc,Input.enc];refine aa.ab ay fw [4,5,6,7,8,9,10] ?_;simp[R7];refine aa.le (Le.aD (o:=[(1009,.box [.v (ti 0),.v (ti 0),.aI])]) (l:=[(4,.v (.box [ti nt,ti on,ti ns,.sl (aS rules)])),(5,.v (.box [ti on,ti os,.sl (aM oc)])),(6,.v (.box [.sl (aZ cK),.sl (aB ins),ti sw])),(7,.v (.box [ti cf,ti co,ti cn])),(8,.ptr 1009 0)]) (nxt':=1200) ?_ ?_ ?_ ?_) ?_;iterate 4(·simp)
 refine aa.ab ay fw [4,5,6,7,8,11] ?_;simp[R8];refine aa.seq ?_;refine aa.ab ay fw [4,5,6,7,8,11,53] ?_;simp[R9,w1,show ¬cf<0 by omega,show ¬co<0 by omega,show ¬cn<0 by omega,show ¬(cK.length:Int)<cn by omega,show ¬(cK.length:Int)-cn<cf by omega];refine aa.cond rfl (λg=>by cases g) (λ_=>?_);refine aa.skip ?_;simp;refine aa.seq ?_;refine aa.ab ay fw [4,5,6,7,8,11,95] ?_;simp[Sa,w1,w2,w3,w4,w5,show ¬os<1 by omega,c5];refine⟨⟨_,_,⟨rfl,rfl⟩,by omega,by omega,by omega,by omega⟩, ?_⟩;refine aa.cond rfl (λg=>by cases g) (λ_=>?_);refine aa.skip ?_;simp;refine aa.ab ay fw [4,5,7,8,12] ?_;simp[abt,Input.enc,aL.enc];refine aa.le (Le.aD (o:=[(1009,.box [.v (ti 0),.v (ti 0),.aI])]) (l:=[(4,.v (.box [ti nt,ti on,ti ns,.sl (aS rules)])),(5,.v (.box [ti on,ti os,.sl (aM oc)])),(7,.v (.box [ti cf,ti co,ti cn])),(8,.ptr 1009 0),(12,.v (.box [ti S,.sl (ba aC),.sl (aB fin)]))]) (nxt':=2000) ?_ ?_ ?_ ?_) ?_;iterate 4(·simp)
 refine aa.ab ay fw [4,5,7,8,12,13] ?_;simp[abu];refine aa.le (Le.aD (o:=[(1009,.box [.v (ti 0),.v (ti 0),.aI]),(2014,.box [.v (ti on),.v (ti S),.aI])]) (l:=[(4,.v (.box [ti nt,ti on,ti ns,.sl (aS rules)])),(5,.v (.box [ti on,ti os,.sl (aM oc)])),(7,.v (.box [ti cf,ti co,ti cn])),(8,.ptr 1009 0),(12,.v (.box [ti S,.sl (ba aC),.sl (aB fin)])),(13,.ptr 2014 0)]) (nxt':=3000) ?_ ?_ ?_ ?_) ?_;iterate 4(·simp)
 have uw:0<=dN on S/\dN on S<=1000000000:=by
  have:=kO (nn:=on) (st:=S) (by omega);have hb:=(dW qc (S:Int).toNat (by omega));have:=cO (a:=on) (A:=1000) (b:=pre S (S:Int).toNat) (B:=1000000) (by omega) (by omega) hb.1 (by omega);omega
 refine aa.ab ay fw [4,5,7,8,12,13,14] ?_;simp[abv,and_assoc,cG];repeat (refine⟨by omega, ?_⟩)
 refine aa.ab ay fw [4,5,7,8,12,13,14] ?_;simp[abw];refine aa.le (Le.aD (o:=[(1009,.box [.v (ti 0),.v (ti 0),.aI]),(2014,.box [.v (ti on),.v (ti S),.bk 3110 0]),(3015,.box [.bk 3110 0]),(3110,.arr 0 57 4 (aM (List.replicate (dN on S).toNat ⟨0,0,0,0⟩)))]) (l:=[(4,.v (.box [ti nt,ti on,ti ns,.sl (aS rules)])),(5,.v (.box [ti on,ti os,.sl (aM oc)])),(7,.v (.box [ti cf,ti co,ti cn])),(8,.ptr 1009 0),(12,.v (.box [ti S,.sl (ba aC),.sl (aB fin)])),(13,.ptr 2014 0),(14,.ptr 3015 0)]) (nxt':=4000) ?_ ?_ ?_ ?_) ?_
 ·simp
 ·simp
 ·simp[aM,Cell.enc]
 ·simp
 refine aa.ab ay fw [4,5,7,8,12,13,14,15] ?_;simp[Sb];refine aa.le (Le.aD (o:=[(1009,.box [.v (ti 0),.v (ti 0),.aI]),(2014,.box [.v (ti on),.v (ti S),.bk 3110 0]),(3015,.box [.bk 3110 0]),(3110,.arr 0 57 4 (aM (List.replicate (dN on S).toNat ⟨0,0,0,0⟩))),(4016,.box [.v (ti 0)])]) (l:=[(4,.v (.box [ti nt,ti on,ti ns,.sl (aS rules)])),(5,.v (.box [ti on,ti os,.sl (aM oc)])),(7,.v (.box [ti cf,ti co,ti cn])),(8,.ptr 1009 0),(12,.v (.box [ti S,.sl (ba aC),.sl (aB fin)])),(13,.ptr 2014 0),(14,.ptr 3015 0),(15,.ptr 4016 0)]) (nxt':=5000) ?_ ?_ ?_ ?_) ?_;iterate 4(·simp)
 refine aa.seq ?_;refine aa.ab ay fw [4,5,7,8,12,13,14,15,114] ?_;simp[Sc];refine⟨⟨S,rfl⟩, ?_⟩;refine aa.block ?_;have tF:∀(L rest:List (Nat×Nat)) (x:List T) (pre:List (List T)) (rest':List (List T)),(B1 S).map Yn=pre++x::rest'->∃(P:List (Nat×Nat)) (f t:Nat) (R:List (Nat×Nat)),B1 S=P++(f,t)::R/\pre=P.map Yn/\x=[ti f,ti t]:=by
  intro _ _ x pre rest' h;obtain⟨P,R',e1,e2,e3⟩:=List.map_eq_append_iff.1 h;obtain⟨⟨f,t⟩,R,e4,e5,e6⟩:=List.map_eq_cons_iff.1 e3;exact⟨P,f,t,R,by rw[e1,e4],e2.symm,e5.symm⟩
 refine aa.wP (t53 S (by omega)) (by simp) (by simp) ?_ (λpre=>cE [(1009,.box [.v (ti 0),.v (ti 0),.aI]),(2014,.box [.v (ti on),.v (ti S),.bk 3110 0]),(3015,.box [.bk 3110 0]),(3110,.arr 0 57 4 (aM (iV ⟨nt,on,ns,rules⟩ ⟨S,aC,fin⟩ ((B1 S).take pre.length)))),(4016,.box [.v (ti (rU cf co cn os on.toNat ((B1 S).take pre.length)))])]) ?_ ?_ (λpre x rest hxx=>?_) ?_
 ·intro x hx;obtain⟨p,_,rfl⟩:=Zal.1 hx;rfl
 ·simp[iV,rU]
 ·intro pre r hr;simp only at hr;simp only[dm,lX];repeat rw[if_neg (by omega)]
 ·obtain⟨P,f,t,R,hP,rfl,rfl⟩:=tF [] [] x pre rest hxx;have tk1:(B1 S).take (P.map Yn).length=P:=by rw[hP];simp
  have tk2:(B1 S).take (P.map Yn++[[ti f,ti t]]).length=P++[(f,t)]:=by rw[hP,show P++(f,t)::R=(P++[(f,t)])++R by simp];exact Zcn (by simp)
  rw[tk2,I5,LZ];simp only[tk1];obtain⟨p6,htS,hR⟩:=bz P (f,t) R hP;have I6:=hmv P (f,t) R hP;simp only at p6 htS hR I6;have bd:Cl ⟨on,S,iV ⟨nt,on,ns,rules⟩ ⟨S,aC,fin⟩ P⟩:=hR.C.hc;have hlen:=hR.cf.2.2.2.2;simp only at hlen;obtain⟨B,hB⟩:∃B,iV ⟨nt,on,ns,rules⟩ ⟨S,aC,fin⟩ P=B:=⟨_,rfl⟩;rw[hB]at hR I6 bd hlen⊢;obtain⟨w0,hw0⟩:∃w,rU cf co cn os on.toNat P=w:=⟨_,rfl⟩;rw[hw0];have XC:=vG hn hl bd p6 (by omega);obtain⟨own,eS⟩:∃q,jh ⟨nt,on,ns,rules⟩ ⟨S,aC,fin⟩ ⟨on,S,B⟩ f t=q:=⟨_,rfl⟩;rw[eS]at XC I6⊢;have hol:(own.length:Int)=on:=XC.1;have M4:=jY (n:=on) (st:=S) (f:=f) (t:=t) (by omega) TO qc (by omega) (by omega) p6;have hix:=λ(i:Int) (hi:i<on)=>vH (nn:=on) (st:=S) (f:=f) (t:=t) (by omega) (by omega) p6 hi;have hmul:=cO (a:=(f:Int)) (A:=1000) (b:=S) (B:=1000) (by omega) (by omega) (by omega) qc;have hc64:=Bv (S:Int) f;have PA:=dW qc f (by omega);have hff:(f:Int)*((f:Int)-1)=(f:Int)*f-f:=by grind
  have kU:=cO (a:=(f:Int)) (A:=1000) (b:=(f:Int)) (B:=1000) (by omega) (by omega) (by omega) (by omega);have hffb:0<=(f:Int)*((f:Int)-1)/\(f:Int)*((f:Int)-1)<=1000000:=by
   refine⟨?_,by omega⟩;cases f with
   |zero=>simp
   |succ f=>exact Zcg (by omega) (by omega)
  have hq:((f:Int)*((f:Int)-1)).tdiv 2=(f:Int)*((f:Int)-1)/2:=pY hffb.1;obtain⟨Q,hQ⟩:∃Q,pre (S:Int) f=Q:=⟨_,rfl⟩;rw[hQ]at hc64 PA;have b9:=cO (a:=Q+t-f) (A:=2000000) (b:=on) (B:=1000) (by omega) (by omega) (by omega) TO;obtain⟨mi,dF⟩:∃q,cJ on S f t=q:=⟨_,rfl⟩;have m1:IntKind.i64.wrap ((f:Int)*S)=(f:Int)*S:=au (by omega);have m2:IntKind.i64.wrap ((f:Int)-1)=(f:Int)-1:=au (by omega);have m3:IntKind.i64.wrap ((f:Int)*((f:Int)-1))=(f:Int)*((f:Int)-1):=au (by omega);have m4:IntKind.i64.wrap (((f:Int)*((f:Int)-1)).tdiv 2)=((f:Int)*((f:Int)-1)).tdiv 2:=by rw[hq];exact au (by omega)
  have m5:IntKind.i64.wrap ((f:Int)*S-((f:Int)*((f:Int)-1)).tdiv 2)=Q:=by rw[hc64];exact au (by omega)
  have m6:IntKind.i64.wrap (Q+t)=Q+t:=au (by omega);have m7:IntKind.i64.wrap (Q+t-f)=Q+t-f:=au (by omega);have m8:IntKind.i64.wrap ((Q+t-f)*on)=mi:=by rw[<-dF];unfold cJ;rw[hQ];exact au (by omega)
  rw[dF]at M4 hix⊢;obtain⟨mi,rfl⟩:=Zad M4.1;obtain⟨⟨of,ot,oo⟩,ho⟩:∃o,cC cf co cn f t os=o:=⟨_,rfl⟩;have hof:=VU (cf:=cf) (co:=co) (cn:=cn) (fr:=f) (to:=t) (os:=os);rw[ho]at I6 hof⊢;simp only at I6 hof⊢;simp only[AA];refine aa.ab ay fw [4,5,7,8,12,13,14,15,16,116] ?_;simp[Sd];refine aa.dv ay fw [4,5,7,8,12,13,14,15,16,17] ?_;simp[Se];refine aa.block ?_;refine aa.ab ay fw [4,5,7,8,12,13,14,15,16,17,18] ?_;simp[Sf,m1,m2,m3,m4,m5,m6,m7,m8];refine aa.ab ay fw [4,5,7,8,12,13,14,15,16,17,18,19,20,21] ?_;simp[Sg,ho];refine⟨⟨_,_,_,_,_,_,⟨⟨rfl,rfl,rfl⟩,rfl,rfl,rfl⟩,by unfold I4;omega,by unfold I4;omega,by unfold I4;omega,by unfold I4;omega,by omega,by omega⟩, ?_⟩;refine aa.seq ?_;refine aa.ab ay fw [4,5,7,8,12,13,14,15,16,17,18,19,20,145] ?_;simp[Si];refine aa.cond rfl (λg=>?_) (λg=>?_)
  ·have g:oo=false:=by simpa using g
   subst g;have rR:∃nt' nn' ns' Lp ls' Vh fin' cn' qH cl',∃fr' to':Int,[T.agg [ti nt,ti on,ti ns,.sl (aS rules)],.agg [ti S,.sl (ba aC),.sl (aB fin)],.agg [ti on,ti S,.sl (aM B)],ti f,ti t]=[.agg [ti nt',ti nn',ti ns',.sl (aS Lp)],.agg [ti ls',.sl (ba Vh),.sl (aB fin')],.agg [ti cn',ti qH,.sl (aM cl')],ti fr',ti to']/\PJ ⟨⟨nt',nn',ns',Lp⟩,⟨ls',Vh,fin'⟩,⟨cn',qH,cl'⟩,fr',to'⟩:=⟨_,_,_,_,_,_,_,_,_,_,_,_,rfl,hR⟩;have m9:IntKind.i64.wrap ((mi:Int)+on)=mi+on:=au (by omega);refine aa.iA ay fw (rs:=fj ND [some [4016],some [3015],none,none,none,some [],none,some [3110],some [],some [],some [2014],none,none,some [3110],some [3110,6300],none,some [4016]]) (.inl rfl) (by kernel_rfl) [] ?_;simp[ND,fj,b8,bm,names,bJ,m9,eS];have e1:((mi:Int)+on).toNat-mi=own.length:=by omega
   have e2:on.toNat=own.length:=by omega
   have e3:max on 0=own.length:=by omega
   have hlast:=hix (on-1) (by omega);have qJ:mi+own.length<=B.length:=by omega
   have nJ:=DG B own mi qJ own.length (Zae _);rw[Zbn]at nJ;have w9:IntKind.i64.wrap ((w0:Int)+own.length)=w0+own.length:=by
    have h1:=VT cf co cn os on.toNat P;rw[hw0]at h1;have h2:=Yo S;have h3:P.length<=(B1 S).length:=by rw[hP];simp
    have h4:S*S<=1000*1000:=ZcQ (by omega) (by omega);have h5:on.toNat*P.length<=1000*1000000:=ZcQ (by omega) (by omega);exact au (by omega)
   refine⟨⟨by omega,by omega⟩,⟨_,_,_,_,_,_,_,_,_,_,_,_,⟨⟨rfl,rfl,rfl,rfl⟩,⟨rfl,rfl,rfl⟩,⟨rfl,rfl,rfl⟩,rfl,rfl⟩,hR⟩,λr hr=>?_, ?_⟩
   ·obtain⟨c,_,rfl⟩:=Zal.1 hr;rfl
   refine aa.exit ?_;simp only[Al,tJ,if_true];refine⟨trivial, ?_⟩;simp only[<-vf,e1,Nat.min_self,w9];refine Le.zk ?_ ?_ ?_ ?_
   ·simp[];omega
   ·simp
   ·simp[e2,e3,nJ,aM];exact Za2 (by simp)
   ·simp
  ·have g:oo=true:=by simpa using g
   subst g;have I6:=I6 rfl;have hof:=hof rfl;refine aa.skip ?_;simp;refine aa.ab ay fw [4,5,7,8,12,13,14,15,16,17,18,19,20,163,164] ?_;simp[Sj];refine aa.block ?_;refine aa.loop (λy:Nat=>⟨DM.look [(4,.v (.box [ti nt,ti on,ti ns,.sl (aS rules)])),(5,.v (.box [ti on,ti os,.sl (aM oc)])),(7,.v (.box [ti cf,ti co,ti cn])),(8,.ptr 1009 0),(12,.v (.box [ti S,.sl (ba aC),.sl (aB fin)])),(13,.ptr 2014 0),(14,.ptr 3015 0),(15,.ptr 4016 0),(16,.v (ti f)),(17,.v (ti t)),(18,.v (ti mi)),(19,.v (ti of)),(20,.v (ti ot)),(163,.v (ti on)),(164,.v (ti y))],
     cE [(1009,.box [.v (ti 0),.v (ti 0),.aI]),(2014,.box [.v (ti on),.v (ti S),.bk 3110 0]),(3015,.box [.bk 3110 0]),(3110,.arr 0 57 4 (aM (l8 B own mi y))),(4016,.box [.v (ti w0)])],7000,5190,[]⟩)
    (λy=>(y:Int)<=on) (λy=>on.toNat-y) 0 (Le.zk ?_ ?_ ?_ ?_) (by omega) (λy hy=>?_)
   ·simp
   ·simp
   ·simp[l8]
   ·simp
   refine aa.ab ay fw [4,5,7,8,12,13,14,15,16,17,18,19,20,163,164,165] ?_;simp[Sk];refine aa.seq ?_;refine aa.cond rfl (λg=>?_) (λg=>?_)
   ·have g:(y:Int)<on:=by simpa using g
    have n1:IntKind.i64.wrap ((mi:Int)+y)=((mi+y:Nat):Int):=by rw[au (by omega)];omega
    have n2:IntKind.i64.wrap ((f:Int)-of)=f-of:=au (by omega);have n3:IntKind.i64.wrap ((y:Int)+1)=((y+1:Nat):Int):=by rw[au (by omega)];omega
    have hv:=I6 y g;have ha:=harg y of ot;obtain⟨⟨xc,xs,xr,xg⟩,qn⟩:∃c,lF ⟨on,os,oc⟩ y of ot=c:=⟨_,rfl⟩;rw[qn]at hv ha;obtain⟨⟨vc,vs,vr,vg⟩,ji⟩:∃c,own.getD y default=c:=⟨_,rfl⟩;rw[ji]at hv;simp only at ha;have cW:=hix y g;have E0:mi+y<(l8 B own mi y).length:=by rw[vF];omega
    have rz:=fm (l:=l8 B own mi y) (y:=mi+y) E0;rw[show((mi+y:Nat):Int)=(mi:Int)+y by omega]at rz;have e9:((mi:Int)+y).toNat=mi+y:=by omega
    refine aa.skip ?_;simp;refine aa.seq ?_;refine aa.block ?_;refine aa.ab ay fw [4,5,7,8,12,13,14,15,16,17,18,19,20,22,163,164] ?_;simp[Sl];refine aa.dv ay fw [4,5,7,8,12,13,14,15,16,17,18,19,20,163,164] ?_;simp[Sm,n1,n2,qn,hv,rz,e9];refine⟨⟨_,_,_,⟨rfl,rfl,rfl⟩,lH⟩,⟨_,_,_,_,_,_,_,_,_,_,_,_,_,_,⟨⟨rfl,rfl,rfl,rfl⟩,⟨rfl,rfl,rfl⟩,⟨rfl,rfl,rfl,rfl⟩,rfl,rfl,rfl⟩,by have:=hn.2.2.1;simp only at this;omega,by have:=hl.2.2.1;simp only at this;omega,by unfold I4;omega,ha.1,ha.2⟩,⟨by omega,by rw[vF]at E0;omega⟩, ?_⟩;refine aa.dv ay fw [4,5,7,8,12,13,14,15,16,17,18,19,20,163,164] ?_;simp[Sn,n3];refine⟨y+1,Le.zk ?_ ?_ ?_ ?_,by omega,by omega⟩
    ·simp
    ·simp
    ·simp[ml,pH,-List.getD_eq_getElem?_getD,ji,Cell.enc]
    ·simp
   ·have g:y=on.toNat:=by
     have:¬(y:Int)<on:=by simpa using g
     omega
    subst g;refine aa.exit ?_;simp only[Al,tJ,if_true];simp;simp only[<-vf];refine Le.zk ?_ ?_ ?_ ?_;iterate 3(·simp)
    ·simp
 ·have tk:(B1 S).take ((B1 S).map Yn).length=B1 S:=by simp
  simp only[tk,tJ,Al];refine aa.iA ay fw (rs:=fj Ke [some [2014],some [4016],some [1009,3110],none,none]) (.inl rfl) (by kernel_rfl) [8,9,10] ?_;simp[Ke,fj,b8,bm,names,bJ];refine aa.ret ?_;simp[Kf]
theorem B3{α β:Type}(g:α->List β):∀(l:List α) (pre:List β) (x:β) (rest:List β),l.flatMap g=pre++x::rest->∃l1 a l2 p q,l=l1++a::l2/\g a=p++x::q/\pre=l1.flatMap g++p
 |[],pre,x,rest,h=>by simp at h
 |b::l,pre,x,rest,h=>by
  rw[Zbo]at h;have next:∀a',l.flatMap g=a'++x::rest->pre=g b++a'->∃l1 a l2 p q,b::l=l1++a::l2/\g a=p++x::q/\pre=l1.flatMap g++p:=by
   intro a' h2 h3;obtain⟨l1,a,l2,p,q,e1,e2,e3⟩:=B3 g l a' x rest h2;exact⟨b::l1,a,l2,p,q,by rw[e1];rfl,e2,by rw[h3,e3,Zbo,List.append_assoc]⟩
  rcases List.append_eq_append_iff.1 h with⟨a',h1,h2⟩|⟨c',h1,h2⟩
  ·exact next a' h2 h1
  ·cases c' with
   |nil=>exact next [] (by simpa using h2.symm) (by simpa using h1.symm)
   |cons y c'=>
    simp only[ZaH,Za5]at h2;obtain⟨rfl,h2⟩:=h2;exact⟨[],b,l,pre,c',rfl,h1,rfl⟩
theorem range_split{n:Nat}{l1 l2:List Nat}{a:Nat}(h:List.range n=l1++a::l2):l1=List.range a/\a<n:=by
 have hl:=congrArg List.length h;simp only[ZcD,ZaA,Za9]at hl;have h1:(List.range n)[l1.length]? =some a:=by rw[h];simp
 rw[List.getElem?_range (by omega)]at h1;have ea:l1.length=a:=by simpa using h1
 have h2:(List.range n).take l1.length=l1:=by rw[h];simp
 rw[List.take_range,ea,ZcN (by omega)]at h2;exact⟨h2.symm,by omega⟩
theorem Pq{S:Nat}{pre rest:List (Nat×Nat)}{p:Nat×Nat}(h:B1 S=pre++p::rest):
  ∃len f,p=(f,f+len)/\f+len<S/\pre=(List.range len).flatMap (p9 S)++(List.range f).map λb=>(b,b+len):=by
 obtain⟨l1,a,l2,q,r,e1,e2,e3⟩:=B3 (p9 S) _ _ _ _ h;obtain⟨rfl,ha⟩:=range_split e1;unfold p9 at e2;obtain⟨l1',l2',e4,e5,e6⟩:=List.map_eq_append_iff.1 e2;obtain⟨b,l3,rfl,rfl,e7⟩:=List.map_eq_cons_iff.1 e6;obtain⟨rfl,hb⟩:=range_split e4;exact⟨a,b,rfl,by omega,by rw[e3,<-e5]⟩
theorem DH{n:aG}{l:aL}{S:Nat}(a:Nat)(B:List Cell)(k:Nat):((List.range k).map λb=>(b,b+a)).foldl (λB (p:Nat×Nat)=>l8 B (jh n l ⟨n.an,l.aN,B⟩ p.1 p.2) (cJ n.an l.aN p.1 p.2).toNat n.an.toNat) B=(List.range k).foldl (rG n l a) B:=by
 rw[Zb4]
 congr 1
theorem DI{n:aG}{l:aL}{S:Nat}(hS:l.aN=S)(len f:Nat):iV n l ((List.range len).flatMap (p9 S)++(List.range f).map λb=>(b,b+len))=
  (List.range f).foldl (rG n l len) ((List.range len).foldl (HW n l) (List.replicate (dN n.an l.aN).toNat ⟨0,0,0,0⟩)):=by
 unfold iV;rw[Zat,DH (S:=S),List.foldl_flatMap]
 congr 2
 funext B a;unfold p9 HW;rw[DH (S:=S),hS,Zak]
theorem L5{n:aG}{l:aL}{S:Nat}(hS:l.aN=S):iV n l (B1 S)=iR n l:=by
 have:=DI (n:=n) hS S 0;simp only[List.range_zero,ZbX,ZaJ,ZbU]at this;rw[show B1 S=(List.range S).flatMap (p9 S)from rfl,this];unfold iR;rw[hS,Zak]
theorem VV{n:aG}{l:aL}{S:Nat}(hn:oJ n)(hl:vy l)(hS:l.aN=S)(ha:∀a∈l.aC,a.f<=a.t)(hs:IM l){pre rest:List (Nat×Nat)}{p:Nat×Nat}(h:B1 S=pre++p::rest):
  p.1<=p.2/\p.2<S/\PJ ⟨n,l,⟨n.an,l.aN,iV n l pre⟩,p.1,p.2⟩/\fI n l (iV n l pre):=by
 obtain⟨len,f,rfl,cW,rfl⟩:=Pq h;rw[DI hS];have h3:=hl.1;have h4:=hl.2.1;have hr:=vA hn hl len (by omega);have hc:=vI hn hl hr f (len:=len) (by omega);have hd:=Bj hn hl ha hr (Dd hn hl ha len (by omega)) f (by omega);refine⟨by simp only;omega,cW,⟨⟨hn,hl,hc.ok hn hl,ha, ?_, ?_, ?_⟩,⟨hn,hl,hc.ok hn hl, ?_⟩,⟨hn.1,hn.2.1,h3,h4,hc.1⟩,hs⟩,hc⟩
 ·simp only[Zak];omega
 ·simp only[Zak];omega
 ·simp only[Zak];exact λh s' t' a1 a2 a3 a4 a5 a6=>hd h s' t' a1 a2 a4 (by omega) (by omega)
 ·simp only;omega
structure PK(x x':Input)(fr od nw:Nat):Prop where
 le:fr+od<=x.aj.length
 len:x'.aj.length+od=x.aj.length+nw
 w1:OJ x x' 0 0 fr
 w2:OJ x x' (fr+od) (fr+nw) (x.aj.length-(fr+od))
theorem PK.of{x:Input}{fr od:Nat}{new:List bC}(h1:fr<=x.aj.length)(h2:od<=x.aj.length-fr):PK x (cw x fr od new) fr od new.length:=
 ⟨by omega,by rw[xq h1 h2];omega,KL h1 h2,H2 h1 h2⟩
theorem PK.symm{x x':Input}{fr od nw:Nat}(h:PK x x' fr od nw):PK x' x fr nw od:=by
 have h1:=h.le;have h2:=h.len;refine⟨by omega,by omega,h.w1.symm, ?_⟩;have:=h.w2.symm
 rwa [show x.aj.length-(fr+od)=x'.aj.length-(fr+nw)by omega]at this
theorem Pr{n:aG}{x x':Input}{fr od nw:Nat}(C:PK x x' fr od nw){hd f' t' f t:Int}(hn:oJ n)(hx:jW x)(fX:jW x')(h0:0<=hd)(h3:hd<n.an)
  (hk:iN 0 f' t' fr od nw (2*x.aj.length+1)=⟨0,f,t,true⟩):0<=f'/\f'<=t'/\t'<2*x.aj.length+1/\
  (lF (cz n (aH x)) hd f' t').val=(lF (cz n (aH x')) hd f t).val/\(lF (cz n (aH x)) hd f' t').eu=(lF (cz n (aH x')) hd f t).eu/\
   (∀(k0:Nat) r,n.rules[k0]? =some r->(lF (cz n (aH x)) hd f' t').eu=k0->r.kind≠2->(lF (cz n (aH x')) hd f t).arg=(lF (cz n (aH x)) hd f' t').arg+(f-f')):=by
 have hle:=C.le;have hlen:=C.len;unfold iN at hk;split at hk
 ·cases hk
 ·rename_i hb;unfold sk at hb;obtain⟨F,rfl⟩:=Zad (a:=f') (by omega);obtain⟨T',rfl⟩:=Zad (a:=t') (by omega);refine⟨by omega,by omega,by omega, ?_⟩;split at hk
  ·rename_i he;simp only[KR.mk.injEq,and_true,true_and]at hk;obtain⟨rfl,rfl⟩:=hk;unfold OF at he;have hr:reach x x' 0 0 fr T':=by
    unfold reach;split at he
    ·left;omega
    ·right;left;omega
   obtain⟨k',e,r1,r2,r3⟩:=De hn hx fX C.w1 (hd:=hd) (s:=F) (t:=T') h0 h3 (by omega) (by omega) (by split at he<;>omega) hr
   rw[show F+2*0-2*0=F by omega]at r1 r2 r3;rw[show T'+2*0-2*0=T' by omega]at e;subst e;exact⟨r1,r2,λk0 r h1 h2 h4=>by have:=r3 k0 r h1 h2 h4;omega⟩
  ·split at hk
   ·rename_i he hf;simp only[KR.mk.injEq,and_true,true_and]at hk;obtain⟨h5,h6⟩:=hk;have hr:reach x x' (fr+od) (fr+nw) (x.aj.length-(fr+od)) T':=by
     unfold reach;right;right;omega
    obtain⟨k',e,r1,r2,r3⟩:=De hn hx fX C.w2 (hd:=hd) (s:=F) (t:=T') h0 h3 (by omega) (by omega) (by omega) hr;have e1:((F+2*(fr+nw)-2*(fr+od):Nat):Int)=f:=by omega
    have e2:(k':Int)=t:=by omega
    rw[e1,e2]at r1 r2 r3;exact⟨r1,r2,λk0 r h1 h2 h4=>by have:=r3 k0 r h1 h2 h4;omega⟩
   ·cases hk
theorem before_trans{a b c:bn}(h1:before a b)(h2:before b c):before a c:=by
 unfold before at*
 omega
theorem pP{l:aL}{aV:Int}(h:qC l aV):∀i j:Nat,i<j->j<l.aC.length->before (l.aC.getD i default) (l.aC.getD j default):=by
 intro i j Wi;induction j with
 |zero=>omega
 |succ j ih=>
  intro hj;have h1:=(h.2.2 (j+1) hj).2.resolve_left (by omega);rw[show j+1-1=j by omega]at h1;by_cases e:i=j
  ·rw[e];exact h1
  ·exact before_trans (ih (by omega) (by omega)) h1
theorem DJ{l:aL}{aV:Int}(h:qC l aV):IM l:=by
 intro i j Wi hj;by_cases e:i=j
 ·subst e;right;exact⟨rfl,Zcw _⟩
 ·have:=pP h i j (by omega) hj;unfold before at this;omega
theorem Ps{l:aL}{aV:Int}(h:qC l aV){fr to e g:Int}{a:Nat}(ha:a<l.aC.length)(h1:(l.aC.getD a default).f=fr/\(l.aC.getD a default).t=to/\(l.aC.getD a default).term=e):
  ∀m,m<=l.aC.length->yS l.aC fr to e g m=if a<m then(a:Int)else g:=by
 intro m;induction m with
 |zero=>intro _;rfl
 |succ m ih=>
  intro hm;rw[B0];by_cases e1:m=a
  ·subst e1;rw[if_pos h1,if_pos (by omega)]
  ·rw[if_neg,ih (by omega)]
   ·by_cases e2:a<m
    ·rw[if_pos e2,if_pos (by omega)]
    ·rw[if_neg e2,if_neg (by omega)]
   ·rintro⟨h2,h3,h4⟩;rcases Zbz m a with h5|h5
    ·have:=pP h m a h5 ha;unfold before at this;omega
    ·have:=pP h a m (by omega) (by omega);unfold before at this;omega
theorem Yp{n:aG}{l:aL}{h:Int}{s t k:Nat}{g:Int}{v:br}(d:eN n l h s t k g v):∃r,n.rules[k]? =some r:=by
 cases d<;>exact⟨_,by assumption⟩
theorem VW{n:aG}{l:aL}{h:Int}{s t k:Nat}{g:Int}{v:br}(d:eN n l h s t k g v){r:bD}(hr:n.rules[k]? =some r)(h2:r.kind=2):∃a:Nat,g=a/\a<l.aC.length/\(l.aC.getD a default).f=s/\(l.aC.getD a default).t=t/\(l.aC.getD a default).term=r.a:=by
 cases d with
 |term hk h1 ha h3 h4 h5 hv=>
  rw[hr]at hk;cases hk;obtain⟨cW,he⟩:=Zas.1 ha;refine⟨_,rfl,cW, ?_, ?_, ?_⟩<;>simp[List.getD,ha,h3,h4,h5]
 |empty hk h1 hv=>rw[hr]at hk;cases hk;omega
 |unary hk h1 d hv=>rw[hr]at hk;cases hk;omega
 |binary hk h1 hs ht d1 d2 hv=>rw[hr]at hk;cases hk;omega
theorem L6{n:aG}{x x':Input}{fr od nw:Nat}(C:PK x x' fr od nw){hd f' t':Int}{f t:Nat}(hn:oJ n)(hx:jW x)(fX:jW x'){aV:Int}(hv:qC (aH x') aV)(h0:0<=hd)(h3:hd<n.an)(p6:f<=t)(ht:(t:Int)<(aH x').aN)
  (hk:iN 0 f' t' fr od nw (2*x.aj.length+1)=⟨0,f,t,true⟩):nY n (aH x') (lF (cz n (aH x)) hd f' t') f t (f-f')=lF (cz n (aH x')) hd f t:=by
 obtain⟨k1,k2,k3,r1,r2,r3⟩:=Pr C hn hx fX h0 h3 hk;obtain⟨F,rfl⟩:=Zad k1;obtain⟨T',rfl⟩:=Zad (a:=t') (by omega);have J5:(aH x).aN=2*x.aj.length+1:=rfl;have g1:=kM hn (nu hx) (nR hx) h0 h3 (s:=F) (t:=T') (by omega) (by omega);have g2:=kM hn (nu fX) (nR fX) h0 h3 p6 ht;obtain⟨old,ho⟩:∃c,lF (cz n (aH x)) hd F T'=c:=⟨_,rfl⟩;obtain⟨new,hw⟩:∃c,lF (cz n (aH x')) hd f t=c:=⟨_,rfl⟩;rw[ho]at r1 r2 r3 g1⊢;rw[hw]at r1 r2 r3 g2⊢;have CU:old.cost=new.cost/\old.size=new.size:=by
  have h:=r1;simp only[Cell.val,br.mk.injEq]at h;exact h
 unfold nY;rcases g2.top with e2|⟨⟨k,ek,d⟩,_⟩
 ·have hr:old.eu= -1:=by rw[r2,e2];rfl
  rw[if_pos (by omega)];rcases g1.top with e1|⟨⟨k',ek',_⟩,_⟩
  ·rw[e1,e2]
  ·omega
 ·obtain⟨r,hr⟩:=Yp d;obtain⟨cW,_⟩:=Zas.1 hr;have jR:old.eu=k:=by rw[r2,ek]
  rw[if_neg (by omega)];have hg:n.rules.getD old.eu.toNat default=r:=by rw[jR];simp[List.getD,hr]
  rw[hg];by_cases h2:r.kind=2
  ·rw[if_neg (by omega)];obtain⟨a,ea,ha,h4⟩:=VW d hr h2;rw[Ps hv ha h4 _ (Zae _),if_pos ha];refine Cell.ext' ?_ ?_ ?_
   ·simp only[Cell.val];rw[CU.1,CU.2]
   ·simp only;exact r2
   ·simp only;exact ea.symm
  ·rw[if_pos h2];have:=r3 k r hr jR h2;refine Cell.ext' ?_ ?_ ?_
   ·simp only[Cell.val];rw[CU.1,CU.2]
   ·simp only;exact r2
   ·simp only;exact this.symm
theorem Yq(f t cf co cn st:Int):(iN 0 f t cf co cn st).h=0:=by
 unfold iN;split
 ·rfl
 ·split
  ·rfl
  ·split<;>rfl
theorem DK{cf co cn fr to os k:Int}(h:Cs cf co cn fr to os k):iN 0 (fr-k) (to-k) cf co cn os=⟨0,fr,to,true⟩:=by
 obtain⟨h1,h2,h3⟩:=h;unfold VS at h1 h2 h3;have h4:=Yq (fr-k) (to-k) cf co cn os;obtain⟨q,hq⟩:∃q,iN 0 (fr-k) (to-k) cf co cn os=q:=⟨_,rfl⟩;rw[hq]at h1 h2 h3 h4⊢;obtain⟨a,b,c,d⟩:=q;simp only at h1 h2 h3 h4;subst h1 h2 h3 h4;rfl
theorem I7{cf co cn fr to os:Int}(h:(cC cf co cn fr to os).ok=true):iN 0 (cC cf co cn fr to os).f (cC cf co cn fr to os).t cf co cn os=⟨0,fr,to,true⟩:=by
 unfold cC at h⊢;split
 ·rename_i h1;have:=DK h1;simpa using this
 ·rename_i h1;rw[if_neg h1]at h;split
  ·rename_i h2;exact DK h2
  ·rename_i h2;rw[if_neg h2]at h;cases h
theorem rV(g:Nat->Nat)(w:Nat):∀m:Nat,(List.range m).foldl (λw b=>w+g b) w=w+gP g m
 |0=>rfl
 |m+1=>by
  rw[ZaD,Zat,rV g w m];simp only[ZaB,ZbU,gP];omega
theorem Pt(cf co cn os:Int)(nn S:Nat):rU cf co cn os nn (B1 S)=gP (λs=>gP (λj=>if(cC cf co cn s ((s+j:Nat):Int) os).ok then 0 else nn) (S-s)) S:=by
 rw[<-VR (λs j=>if(cC cf co cn s ((s+j:Nat):Int) os).ok then 0 else nn) S];unfold rU B1;rw[List.foldl_flatMap];have e:∀(w a:Nat),(p9 S a).foldl (λw p=>w+if(cC cf co cn p.1 p.2 os).ok then 0 else nn) w=w+gP (λb=>if(cC cf co cn b ((b+a:Nat):Int) os).ok then 0 else nn) (S-a):=by
  intro w a;unfold p9;rw[Zb4];exact rV (λb=>if(cC cf co cn b ((b+a:Nat):Int) os).ok then 0 else nn) w (S-a)
 simp only[e];rw[rV];simp
theorem arg_ok{n:aG}{l:aL}(hn:oJ n)(hl:vy l)(ha:∀a∈l.aC,a.f<=a.t)(h f t:Int): -1<=(lF (cz n l) h f t).arg/\(lF (cz n l) h f t).arg<=10000000000:=by
 have h3:=hl.1;have h4:=hl.2.1;have h5:=hl.2.2.1;by_cases hb:h<0\/h>=n.an\/f<0\/f>t\/t>=l.aN
 ·have:lF (cz n l) h f t=eY:=by
   unfold lF;rw[if_pos];exact hb
  rw[this];simp[eY]
 ·obtain⟨F,rfl⟩:=Zad (a:=f) (by omega);obtain⟨T',rfl⟩:=Zad (a:=t) (by omega);rcases(kM hn hl ha (h:=h) (s:=F) (t:=T') (by omega) (by omega) (by omega) (by omega)).top with e|⟨⟨k,_,d⟩,_⟩
  ·rw[e];simp[eY]
  ·obtain⟨g,hg⟩:∃g,(lF (cz n l) h F T').arg=g:=⟨_,rfl⟩;obtain⟨v,hv⟩:∃v,(lF (cz n l) h F T').val=v:=⟨_,rfl⟩;rw[hg,hv]at d;rw[hg];have hT:(T':Int)<1000:=by omega
   have hF:F<=T':=by omega
   clear hg hb hv;cases d with
   |empty=>omega
   |term hk h1 ha h2=>
    have:=(Zas.1 ha).1;omega
   |unary=>omega
   |binary=>omega
theorem upd_ok{n:aG}{x x':Input}{fr od nw:Nat}(C:PK x x' fr od nw)(hn:oJ n)(hx:jW x)(fX:jW x'){aV:Int}(hv:qC (aH x') aV):UpdOk n (cz n (aH x)) (aH x') fr od nw (2*x'.aj.length+1):=by
 have hl:=nu hx;have YR:=nu fX;have J5:(aH x).aN=2*x.aj.length+1:=rfl;have NU:(aH x').aN=2*x'.aj.length+1:=rfl;have hS:(aH x').aN=(2*x'.aj.length+1:Nat):=by omega
 have c1:=C.le;have c2:=C.len;have l1:=hx.2.1;have l2:=fX.2.1;refine⟨hn,YR,hS,rfl,⟨hn.1,hn.2.1,hl.1,hl.2.1,(C8 hn hl).1⟩,arg_ok hn hl (nR hx),⟨by omega,by omega⟩,⟨by omega,by omega⟩,λpre p rest h=>?_,λpre p rest h ho y hy=>?_⟩
 ·obtain⟨r1,r2,r3,_⟩:=VV hn YR hS (nR fX) (DJ hv) h;exact⟨r1,r2,r3⟩
 ·obtain⟨r1,r2,r3,_⟩:=VV hn YR hS (nR fX) (DJ hv) h;have hk:=I7 ho;have hos:(cz n (aH x)).aN=2*x.aj.length+1:=rfl;rw[hos]at hk⊢;rw[L6 C hn hx fX hv (by omega) hy r1 (by omega) hk];have g1:=kM hn YR (nR fX) (h:=y) (s:=p.1) (t:=p.2) (by omega) hy r1 (by omega);have g2:=xo r3.C y hy;simp only[Zak]at g2;exact g1.unique g2
theorem Pu{n:aG}{x x':Input}{fr od nw:Nat}(C:PK x x' fr od nw)(hn:oJ n)(hx:jW x)(fX:jW x'){k:Int}(hf:mq x' k):
  aT Tryz.prog 13 [n.enc,(cz n (aH x)).enc,x'.enc,.agg [ti fr,ti od,ti nw]]
   (.eD [(cz n (aH x')).enc,ti (gP (λs=>gP (λj=>if(cC fr od nw s ((s+j:Nat):Int) (2*x.aj.length+1)).ok then 0 else n.an.toNat) (2*x'.aj.length+1-s)) (2*x'.aj.length+1):Nat),ti 0]):=by
 have c1:=C.le;have c2:=C.len;have U:=upd_ok C hn hx fX (NJ hf);have:=t13 n _ x' _ fr od nw _ U (Jp hf) (by have:=fX.2.1;omega) (by unfold Tz;omega) (by show(2*(x.aj.length:Int)+1)=_;omega);rw[L5 U.hS,Pt]at this;have hos:(cz n (aH x)).aN=2*x.aj.length+1:=rfl;rw[hos]at this;have e:(cz n (aH x')).enc=.agg [ti n.an,ti ((2*x'.aj.length+1:Nat):Int),.sl (aM (iR n (aH x')))]:=by
  unfold cz bV.enc;simp only;rw[show(aH x').aN=((2*x'.aj.length+1:Nat):Int)from U.hS]
 rw[e];exact this
theorem t40(l:List Cell)(hl:l.length<=1000000000):aT Tryz.prog 40 [.sl (aM l),.sl (aM l)] (.bool true):=by
 have ay:=dY;refine c40.ok (by simp) (aJ ?_);simp;refine aa.ab ay fw [0,1] ?_;simp[aaU];refine aa.seq ?_;refine aa.ab ay fw [0,1,10] ?_;simp[aaV];refine aa.cond rfl (λg=>by cases g) (λ_=>?_);refine aa.skip ?_;simp;refine aa.seq ?_;refine aa.ab ay fw [0,1,5] ?_;simp[aaW];refine aa.block ?_;refine aa.loop (λy:Nat=>⟨DM.look [(0,.v (.sl (aM l))),(1,.v (.sl (aM l))),(5,.v (ti y))],cE [],2000,1000,[]⟩)
  (λy=>y<=l.length) (λy=>l.length-y) 0 (Le.aD ?_ ?_ ?_ ?_) (by omega) (λy hy=>?_)
 iterate 4(·simp)
 refine aa.seq ?_;refine aa.ab ay fw [0,1,5,14] ?_;simp[aaX];refine aa.cond rfl (λg=>?_) (λg=>?_)
 ·have g:y<l.length:=by simpa using g
  have ro:=fm g;obtain⟨⟨a,b,c,d⟩,hx⟩:∃x,l.getD y default=x:=⟨_,rfl⟩;rw[hx]at ro;simp only[Cell.enc]at ro;have w1:IntKind.i64.wrap ((y:Int)+1)=((y+1:Nat):Int):=by rw[au (by omega)];omega
  refine aa.skip ?_;simp;refine aa.seq ?_;refine aa.block ?_;refine aa.ab ay fw [0,1,5,25] ?_;simp[aaY,g,ro,oj,eZ];refine aa.cond rfl (λg=>by cases g) (λ_=>?_);refine aa.skip ?_;simp;refine aa.dv ay fw [0,1,5] ?_;simp[aaZ,w1];refine⟨y+1,Le.aD ?_ ?_ ?_ ?_,by omega,by omega⟩<;>simp
 ·refine aa.exit ?_;simp;refine aa.ab ay fw [4] ?_;simp[aa0];refine aa.ret ?_;simp[RW]
abbrev sK(args:List T)(r:T):DM.Spec:=ct (λts=>ts=args) (λ_=>r) false
theorem Yr{f:Nat}{args:List T}{r:T}{l:List (Nat×DM.Spec)}(h:aw Tryz.prog (aW l))(k:aT Tryz.prog f args r):aw Tryz.prog (aW ((f,sK args r)::l)):=by
 refine aw.cons h ?_;rintro ts rfl;exact⟨k,λh=>by cases h⟩
theorem t17(c:bV)(hl:c.cells.length<=1000000000):aT Tryz.prog 17 [c.enc,c.enc] (.bool true):=by
 obtain⟨cn,cs,cl⟩:=c;have ay:=Yr dY (t40 cl hl);refine c17.ok (by simp) (aJ ?_);simp[bV.enc];refine aa.ab ay fw [2,3] ?_;simp[aa1];refine aa.ab ay fw [4] ?_;simp[aa2];refine aa.ret ?_;simp[RX]
theorem I8{x:Input}{t:Int}(h:C7 x t)(ht:t<=5):mq x 60:=by
 have h1:=h.1;have hl:(x.insert.length:Int)=t:=by
  by_cases e:(x.insert.length:Int)=t
  ·exact e
  ·exact absurd (.inr (.inr (.inl e))) h1
 have h2:(x.aj.length:Int)<=60:=by
  by_cases e:(x.aj.length:Int)>60
  ·exact absurd (.inr (.inl e)) h1
  ·omega
 exact⟨⟨h2,by omega⟩,by rw[hl];exact h⟩
theorem VX{z:Ask}(h:Cj z):mq z.x 60/\mq (nQ z) 60:=by
 obtain⟨h1,h2,_⟩:=h;have h3:z.n.aV<=5:=by omega
 have h5:C7 z.x z.n.aV:=Classical.not_not.1 λc=>h1 (.inr (.inr (.inr (.inr (.inr (.inr (.inl c)))))));exact⟨I8 h5 h3,I8 h2 h3⟩
def updW(n:aG)(x x':Input)(fr od nw:Nat):Nat:=gP (λs=>gP (λj=>if(cC fr od nw s ((s+j:Nat):Int) (2*x.aj.length+1)).ok then 0 else n.an.toNat) (2*x'.aj.length+1-s)) (2*x'.aj.length+1)
theorem VY{n:aG}{x x':Input}{fr od nw:Nat}(C:PK x x' fr od nw)(hn:oJ n)(hx:jW x)(fX:jW x'){k:Int}(hf:mq x' k):
  aT Tryz.prog 13 [n.enc,(cz n (aH x)).enc,x'.enc,.agg [ti fr,ti od,ti nw]] (.eD [(cz n (aH x')).enc,ti (updW n x x' fr od nw),ti 0]):=Pu C hn hx fX hf
theorem VZ{n:aG}{x:Input}{fr od:Nat}{new:List bC}:nQ ⟨n,x,fr,od,new⟩=cw x fr od new:=by simp[nQ]
theorem Pv{n:aG}{x:Input}(hn:oJ n)(hx:jW x):(iR n (aH x)).length<=1000000000:=by
 have hl:=nu hx;have h1:=(C8 hn hl).1;have h2:=kO (nn:=n.an) (st:=(aH x).aN) (by have:=hl.1;omega);have hb:=dW hl.2.1 (aH x).aN.toNat (by have:=hl.1;omega);have:=cO (a:=n.an) (A:=1000) (b:=pre (aH x).aN (aH x).aN.toNat) (B:=1000000) (by have:=hn.1;omega) hn.2.1 hb.1 (by have:=hl.2.1;have:=hl.1;omega);omega
theorem t4(z:Ask)(hl:z.n.rules.length<=9223372036854775807/\z.x.insert.length<=9223372036854775807):aT Tryz.prog 4 [z.enc] (.bool true):=by
 obtain⟨n,x,fr,od,new⟩:=z;have ay:=ok9 (TI (Tw (l:=[]) aw.nil));by_cases g:Cj ⟨n,x,fr,od,new⟩
 ·obtain⟨hn,hx,qn,qJ,hc4,hn3⟩:=OM g;obtain⟨hf1,XA⟩:=VX g;have hfit0:=qJ;obtain⟨f1,f2,f3,f4,f5,f6⟩:=qJ;simp only at f1 f2 f3 f4 f5 f6 hc4 hn3 hn hx;obtain⟨fr,rfl⟩:=Zad f1;obtain⟨od,rfl⟩:=Zad f3;rw[VZ]at qn XA;have C:PK x (cw x fr od new) fr od new.length:=PK.of (by omega) (by omega);have hU:=VY C hn hx qn XA;have hR:=VY C.symm hn qn hx hf1;have Wg:=nu hx;have hS:=t17 (cz n (aH x)) (Pv hn hx);obtain⟨W,hW⟩:∃W,updW n x (cw x fr od new) fr od new.length=W:=⟨_,rfl⟩;obtain⟨W2,Jy⟩:∃W,updW n (cw x fr od new) x fr new.length od=W:=⟨_,rfl⟩;rw[hW]at hU;rw[Jy]at hR;obtain⟨⟨k1,k2,k3⟩,hC⟩:∃c,cz n (aH (cw x fr od new))=c:=⟨_,rfl⟩;rw[hC]at hU hR;have hA:cw x fr od new=cw x ((fr:Int).toNat) ((od:Int).toNat) new:=by simp
  obtain⟨⟨ac,ai,asw⟩,tK⟩:∃A,cw x fr od new=A:=⟨_,rfl⟩;rw[tK]at hU hA;obtain⟨nt,nn,ns,rules⟩:=n;obtain⟨cK,ins,sw⟩:=x;obtain⟨⟨l0,la0,lf0⟩,hL0⟩:∃l,aH ⟨cK,ins,sw⟩=l:=⟨_,rfl⟩;rw[hL0]at hU hR hS Wg;obtain⟨D0,hD0⟩:∃D,iR ⟨nt,nn,ns,rules⟩ ⟨l0,la0,lf0⟩=D:=⟨_,rfl⟩;simp only[cz,hD0,aG.enc,bV.enc,Input.enc]at hU hR hS;have hΓ2:=ok9 (TI (Tw (Yr (l:=[]) aw.nil hU)));have hΓ3:=Yr (l:=[]) aw.nil hR;have hΓ4:=ok9 (Yr (l:=[]) aw.nil hS);refine c4.ok (by simp) (aJ ?_);simp[Ask.enc];refine aa.ab ay fw [1] ?_;simp[d4r0];refine aa.le (Le.aD (o:=[]) (l:=[(1,.v (.box [ti nt,ti nn,ti ns,.sl (aS rules),.sl (aZ cK),.sl (aB ins),ti sw,ti fr,ti od,.sl (aZ new)]))]) (nxt':=1200) ?_ ?_ ?_ ?_) ?_;iterate 4(·simp)
  refine aa.seq ?_;refine aa.ab ay fw [1,12] ?_;simp[d4r1,and_assoc,hl.1,hl.2,g];refine aa.cond rfl (λg=>by cases g) (λ_=>?_);refine aa.skip ?_;simp;refine aa.ab ay fw [1,3] ?_;simp[d4r3,and_assoc,hx,hn,hL0,Wg,hD0];refine aa.le (Le.aD (o:=[]) (l:=[(1,.v (.box [ti nt,ti nn,ti ns,.sl (aS rules),.sl (aZ cK),.sl (aB ins),ti sw,ti fr,ti od,.sl (aZ new)])),(3,.v (.box [ti nn,ti l0,.sl (aM D0)]))]) (nxt':=1400) ?_ ?_ ?_ ?_) ?_;iterate 4(·simp)
  refine aa.ab hΓ2 fw [1,3,4,5,6] ?_;simp[d4r4,and_assoc,<-hA,tK];refine⟨hfit0, ?_⟩;refine aa.le (Le.aD (o:=[]) (l:=[(1,.v (.box [ti nt,ti nn,ti ns,.sl (aS rules),.sl (aZ cK),.sl (aB ins),ti sw,ti fr,ti od,.sl (aZ new)])),(3,.v (.box [ti nn,ti l0,.sl (aM D0)])),(4,.v (.box [ti k1,ti k2,.sl (aM k3)])),(5,.v (ti W)),(6,.v (ti 0))]) (nxt':=1600) ?_ ?_ ?_ ?_) ?_;iterate 4(·simp)
  refine aa.ab hΓ3 fw [3,6,7,8,9] ?_;simp[d4r5];refine aa.le (Le.aD (o:=[]) (l:=[(3,.v (.box [ti nn,ti l0,.sl (aM D0)])),(6,.v (ti 0)),(7,.v (.box [ti nn,ti l0,.sl (aM D0)])),(9,.v (ti 0))]) (nxt':=1800) ?_ ?_ ?_ ?_) ?_;iterate 4(·simp)
  refine aa.ab hΓ4 fw [2] ?_;simp[d4r6];refine aa.ret ?_;simp[Ss]
 ·obtain⟨nt,nn,ns,rules⟩:=n;obtain⟨cK,ins,sw⟩:=x;refine c4.ok (by simp) (aJ ?_);simp[Ask.enc];refine aa.ab ay fw [1] ?_;simp[d4r0];refine aa.le (Le.aD (o:=[]) (l:=[(1,.v (.box [ti nt,ti nn,ti ns,.sl (aS rules),.sl (aZ cK),.sl (aB ins),ti sw,ti fr,ti od,.sl (aZ new)]))]) (nxt':=1200) ?_ ?_ ?_ ?_) ?_;iterate 4(·simp)
  refine aa.seq ?_;refine aa.ab ay fw [1,12] ?_;simp[d4r1,and_assoc,hl.1,hl.2,g];refine aa.cond rfl (λ_=>?_) (λg=>by cases g);refine aa.ab ay fw [2] ?_;simp[d4r2];refine aa.ret ?_;simp[Ss]
end cu
end Go.Proofs
