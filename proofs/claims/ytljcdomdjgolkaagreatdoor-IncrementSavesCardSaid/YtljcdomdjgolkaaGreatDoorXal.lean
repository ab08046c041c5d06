/- Part of the proof. Conditions: none. -/
import Derived.Test.YtljcdomdjgolkaaGreatDoorXak
import Derived.Test.YtljcdomdjgolkaaGreatDoorXae
import Derived.Test.YtljcdomdjgolkaaGreatDoorXai
import Derived.Test.YtljcdomdjgolkaaGreatDoorXac
import Derived.Test.YtljcdomdjgolkaaGreatDoorXag
set_option linter.unusedSectionVars false
set_option linter.unusedSimpArgs false
set_option linter.unusedVariables false
set_option maxHeartbeats 40000000
set_option maxRecDepth 20000
namespace Go.Proofs
namespace cq
open Go.DM
def fF(p N:Nat)(r:bD)(k:Int)(w:br):List (Nat×Ob):=[(N+1058,cP r),(N+1057,.box [.v (ti k)]),(N+55,lF w),(N+3,.box [.ptr p 0]),(N+5,.box [.v (ti 0),.v (ti 0),.v (ti 0),.v (ti 0)])]
def NO(z:dc)(best:List br)(w:br)(r:bD)(k:Int)(x:Cell):Cell:=match IZ z best w r with
 |some i=>⟨w.cost,w.size,k,i.1⟩
 |none=>x
theorem I9{z:dc}(H:P2 z){k0:P1}{f0:aT}{p N:Nat}{st:eo}(bd:dO f0 N)(hv:(⟨k0,z,st⟩:SV).at f0 p)(W:WF z.n.an.toNat st){r:bD}(hr:r∈z.n.rules){k:Int}{x:Cell}{w:br}{D:DV}(hD:B9 D r):
  aZ Tryz.prog 57 [.ptr p 0,D,.my (.func 90) [.ptr (N+3) 0,.ptr (N+55) 0,.ptr (N+1057) 0,.ptr (N+105) 0]] (over ((N+105,ca x)::fF p N r k w) f0)
   ⟨True,.v (.eG []),over ((N+105,ca (NO z st.best w r k x))::fF p N r k w) f0⟩:=by
 have jV:=H.K.hn.2.2.2 r hr;have uI:=(bd _ _ hv.sp).1;have qb:=H.K.ft;have ja:=H.C.tm;have hL:∀(y:Cell),∀q∈((N+105,ca y)::fF p N r k w),N<=q.1:=by intro y;simp[fF]
 have dH:∀y,(⟨k0,z,st⟩:SV).at (over ((N+105,ca y)::fF p N r k w) f0) p:=λy=>hv.over bd (hL y);have hCl:∀y,dO (over ((N+105,ca y)::fF p N r k w) f0) (N+2000):=λy=>by
  refine rZ bd (by omega) λq hq=>?_;simp only[fF,Zag,Zap,or_false]at hq;rcases hq with rfl|rfl|rfl|rfl|rfl|rfl
  ·exact⟨by simp only;omega,λm hm=>by simp[ca,bF,bJ,names]at hm⟩
  ·exact⟨by simp only;omega,λm hm=>by simp[cP,bF,bJ,names]at hm⟩
  ·exact⟨by simp only;omega,λm hm=>by simp[bF,bJ,names]at hm⟩
  ·exact⟨by simp only;omega,λm hm=>by simp[lF,bF,bJ,names]at hm⟩
  ·refine⟨by simp only;omega,λm hm=>?_⟩;simp only[bF,bJ,names,ZaJ,Zag,Zap,or_false]at hm;subst hm;rw[(dH y).sp];simp
  ·exact⟨by simp only;omega,λm hm=>by simp[bF,bJ,names]at hm⟩
 have uE:∀(y y':Cell) r',over ((N+105,ca y)::fF p N r k w) f0 r'=none->over ((N+105,ca y')::fF p N r k w) f0 r'=none:=by
  intro y y' r' h;rw[bL]at h⊢;split at h
  ·cases h
  ·rename_i h1;rw[if_neg h1];exact h
 have nM:∀y y',over [(N+105,ca y')] (over ((N+105,ca y)::fF p N r k w) f0)=over ((N+105,ca y')::fF p N r k w) f0:=λy y'=>by
  rw[wj];exact I7 _ _ _ _ _
 have call:∀(y:Cell) (i:eE),i∈bN z r->∀N',(∀r',N'<=r'->over ((N+105,ca y)::fF p N r k w) f0 r'=none)->
   aZ Tryz.prog 90 ([.v (ti i.1),.v (ti i.2.1),iV i.2.2]++kf [N+3,N+55,N+1057,N+105]) (over ((N+105,ca y)::fF p N r k w) f0)
    ⟨True,.v (.bool (!decide (oa z st.best i=w))),over ((N+105,ca (if oa z st.best i=w then⟨w.cost,w.size,k,i.1⟩else y))::fF p N r k w) f0⟩:=λy i hi N' NM=>by
  have:=t90 (i:=i) (sB:=N+3) (vB:=N+55) (iB:=N+1057) (cB:=N+105) (w:=w) (k:=k) (x:=y) NM (dH y) (by simp[fF]) (by simp[fF]) (by simp[fF]) (by simp) (xV H.K H.cf W hr hi);rw[nM]at this;by_cases e:oa z st.best i=w
  ·simpa [e]using this
  ·simpa [e]using this
 have caps:Ca [N+3,N+55,N+1057,N+105] (over ((N+105,ca x)::fF p N r k w) f0):=by
  intro q hq;simp only[Zag,Zap,or_false]at hq;rcases hq with rfl|rfl|rfl|rfl
  ·exact⟨_,by simp[fF];rfl⟩
  ·exact⟨_,by simp[fF,lF];rfl⟩
  ·exact⟨_,by simp[fF];rfl⟩
  ·exact⟨_,by simp[ca];rfl⟩
 unfold NO;cases hp:IZ z st.best w r with
 |none=>
  have bG:∀i∈bN z r,oa z st.best i≠w:=λi hi=>by
   have:=Zcy.1 hp i hi;simpa using this
  refine t57 (k:=k0) (z:=z) (N:=N+2000) (r:=r) (caps:=[N+3,N+55,N+1057,N+105]) (F:=λ_=>over ((N+105,ca x)::fF p N r k w) f0) (B:=λ_=>true) (m:=(bN z r).length) ⟨λ_ _=>⟨_,dH x⟩,λ_ _=>hCl x⟩ ⟨λj i hi _ N' NM=>?_,λ_ _ _ h=>h,λ_ _=>rfl,.inl rfl⟩ H.I0.mono H.K.hl.2.2.1 (by omega) ⟨jV.2.2.1,jV.2.2.2.1⟩ H.K.hl.2.2.2 caps hD;have h1:=call x i (Zaq hi) N' NM;have h2:=bG i (Zaq hi);simpa [h2]using h1
 |some i=>
  obtain⟨hi1,idx,hidx,pn,cW⟩:=Zcr.1 hp;have hi1:oa z st.best i=w:=by simpa using hi1
  have e0:(λj=>over ((N+105,ca (if idx<j then⟨w.cost,w.size,k,i.1⟩else x))::fF p N r k w) f0) 0=over ((N+105,ca x)::fF p N r k w) f0:=by simp
  have e1:(λj=>over ((N+105,ca (if idx<j then⟨w.cost,w.size,k,i.1⟩else x))::fF p N r k w) f0) (idx+1)=over ((N+105,ca ⟨w.cost,w.size,k,i.1⟩)::fF p N r k w) f0:=by simp
  rw[<-e0]at caps⊢;simp only;rw[<-e1];refine t57 (k:=k0) (z:=z) (N:=N+2000) (r:=r) (caps:=[N+3,N+55,N+1057,N+105]) (F:=λj=>over ((N+105,ca (if idx<j then⟨w.cost,w.size,k,i.1⟩else x))::fF p N r k w) f0) (B:=λj=>decide (j≠idx)) (m:=idx+1) ⟨λ_ _=>⟨_,dH _⟩,λ_ _=>hCl _⟩ ⟨λj i' nr hj N' NM=>?_,λ_ _ _ h=>uE _ _ _ h,λj hj=>?_,.inr ⟨by omega,by omega,by simp⟩⟩ H.I0.mono H.K.hl.2.2.1 (by omega) ⟨jV.2.2.1,jV.2.2.2.1⟩ H.K.hl.2.2.2 caps hD
  ·have WZ:¬idx<j:=by omega
   simp only[WZ,if_false]at NM⊢;have h1:=call x i' (Zaq nr) N' NM;by_cases e:j=idx
   ·subst e;rw[Zan hidx,pn]at nr;cases nr;simpa [hi1]using h1
   ·have h2:=cW j (by omega);have Mz:j<(bN z r).length:=by omega
    rw[Zan Mz]at nr;cases nr;have h3:¬idx<j+1:=by omega
    have h4:oa z st.best (bN z r)[j]≠w:=by simpa using h2
    simpa [h4,e,h3]using h1
  ·have:j≠idx:=by omega
   simpa using this
def lU(p N:Nat)(w:br):List (Nat×Ob):=[(N+55,lF w),(N+3,.box [.ptr p 0]),(N+5,.box [.v (ti 0),.v (ti 0),.v (ti 0),.v (ti 0)])]
theorem CD{z:dc}{best:List br}{h:Int}{x:Cell}{k:Nat}{r:bD}(hr:z.n.rules.getD k default=r):jv z best h x k=if r.head≠h\/(bv best h).cost>=1099511627776\/x.ez>=0 then x else NO z best (bv best h) r k x:=by
 unfold jv NO;rw[hr];rfl
theorem VZ{f0:aT}{N p:Nat}{nxt nxt':Nat}{tm:Nat->DV}{l:List (Nat×DV)}{cs:List DV}{r:bD}{k:Int}{w:br}{x:Cell}(bd:dO f0 N)(hp:f0 p=some (.box cs))(hM:N+106<=nxt')(ja:gq (over ((N+105,ca x)::fF p N r k w) f0) (over ((N+105,ca x)::lU p N w) f0) id tm l):
  Le ⟨tm,over ((N+105,ca x)::fF p N r k w) f0,nxt,N,[]⟩ ⟨DM.look l,over ((N+105,ca x)::lU p N w) f0,nxt',N,[]⟩:=by
 have uI:=(bd _ _ hp).1;have np:∀k,p≠N+k:=λk=>by omega
 refine Le.fp bd (by omega) ?_ ?_ ?_ ja
 ·simp[lU];omega
 ·simp[bZ,fF,lU]
 ·simp[gR,iq,fF,lU,ca,lF,np,hp]
theorem t63{f0:aT}{p N h:Nat}{z:dc}(H:P2 z){k0:P1}{st:eo}(hN:∀r,N<=r->f0 r=none)(hv:(⟨k0,z,st⟩:SV).at f0 p)(W:WF z.n.an.toNat st)(hh:h<z.n.an.toNat):
  aZ Tryz.prog 63 [.ptr p 0,.v (ti h)] f0 ⟨True,.v (.agg (gC z st.best h).enc),f0⟩:=by
 obtain⟨R,hR⟩:∃R,gC z st.best h=R:=⟨_,rfl⟩;rw[hR];refine c63.uG hN (by simp) λbd=>?_;have uS:=hv.sp;have xx:=hv.rb;simp only[uH,DE]at uS xx;have uI:=(bd _ _ hv.sp).1;have WD:=(bd _ _ hv.rb).1;simp only at WD;have np:∀k,p≠N+k:=λk=>by omega
 have nb:∀k,k0.rb≠N+k:=λk=>by omega
 have hhb:h<st.best.length:=by rw[W.lb];exact hh
 have rr:=dP hhb;obtain⟨w,hw⟩:∃w,st.best.getD h default=w:=⟨_,rfl⟩;rw[hw]at rr;have hbv:bv st.best h=w:=hw;have hnn:=H.K.hn;simp;refine aa.ab ej fw [1,2,4] ?_;simp[ac9,Nat.add_assoc];refine aa.ab ej fw [1,2,4,5] ?_;simp[ada,uS,xx,np,nb,hhb,rr,Nat.add_assoc];refine aa.ab ej fw [1,2,4,5,6] ?_;simp[adb,Nat.add_assoc];refine aa.seq ?_;refine aa.ab ej fw [1,2,4,5,6,21,22,23] ?_;simp[ade,uS,np,Nat.add_assoc];have eT:over [(N+105,Ob.box [.v (ti 1099511627776),.v (ti 0),.v (ti (-1)),.v (ti 0)]),(N+105,Ob.box [.v (ti 0),.v (ti 0),.v (ti 0),.v (ti 0)]),(N+55,Ob.box [.v (ti w.cost),.v (ti w.size)]),(N+55,Ob.box [.v (ti 0),.v (ti 0)]),(N+5,Ob.box [.v (ti 0),.v (ti 0),.v (ti 0),.v (ti 0)]),(N+3,Ob.box [.ptr p 0])] f0=over ((N+105,ca fc)::lU p N w) f0:=by
  funext q;simp only[bL,eO,lU,lF,ca,fc]
  (repeat' split)<;>first|rfl|omega
 rw[eT];refine aa.block ?_;have lR:∀(L:List (Nat×Ob)) M,N<=M->(∀q∈L,q.1<M)->∀r,M<=r->over L f0 r=none:=λL M hM hL r hr=>by
  rw[ee λo h=>by have:=hL _ h;simp only at this;omega];exact hN r (by omega)
 refine aa.loop (λk:Nat=>⟨DM.look [(1,.v (ti h)),(2,.ptr (N+3) 0),(4,.ptr (N+5) 0),(5,.ptr (N+55) 0),(6,.ptr (N+105) 0),(21,.v (.sl (aR z.n.rules))),(22,.v (ti z.n.rules.length)),(23,.v (ti k))],over ((N+105,ca (me z st.best h k))::lU p N w) f0,N+1000,N,[]⟩)
  (λk=>k<=z.n.rules.length) (λk=>z.n.rules.length-k) 0 (Le.same (lR _ _ (by omega) (by simp[lU])) (by simp[fQ])) (by omega) (λk hk=>?_)
 obtain⟨x,hx⟩:∃x,me z st.best h k=x:=⟨_,rfl⟩;rw[hx];refine aa.ab ej fw [1,2,4,5,6,21,22,23,24] ?_;simp[adf];refine aa.seq ?_;refine aa.cond rfl (λg=>?_) (λg=>?_)
 ·have g:k<z.n.rules.length:=by simpa using g
  have rk:=fT g;have hrm:z.n.rules.getD k default∈z.n.rules:=bw g;have mE:=wh z st.best h k;have w2:IntKind.i64.wrap ((k:Int)+1)=((k+1:Nat):Int):=by rw[au (by have:=hnn.2.2.1;omega)];omega
  obtain⟨r,hr⟩:∃r,z.n.rules.getD k default=r:=⟨_,rfl⟩;rw[hr]at rk hrm;rw[CD hr,hx,hbv]at mE;have yj:=λD hD=>I9 (k:=k) (x:=x) (w:=w) H bd hv W hrm (D:=D) hD;obtain⟨DN,rh,ra,rb,rp,ro⟩:=r;simp only[bD.enc]at rk;simp only at mE;refine aa.skip ?_;simp;refine aa.seq ?_;refine aa.block ?_;refine aa.ab ej fw [1,2,4,5,6,7,8,21,22,23] ?_;simp[adg,g,rk,Nat.add_assoc];have eU:over ((N+1058,Ob.box [.v (ti DN),.v (ti rh),.v (ti ra),.v (ti rb),.v (ti rp),.v (ti ro)])::(N+1057,Ob.box [.v (ti k)])::(N+1058,Ob.box [.v (ti 0),.v (ti 0),.v (ti 0),.v (ti 0),.v (ti 0),.v (ti 0)])::(N+1057,Ob.box [.v (ti 0)])::(N+105,ca x)::lU p N w) f0=over ((N+105,ca x)::fF p N ⟨DN,rh,ra,rb,rp,ro⟩ k w) f0:=by
   funext q;simp only[bL,eO,lU,fF,cP]
   (repeat' split)<;>first|rfl|omega
  rw[eU];refine aa.seq ?_;obtain⟨c1,bb⟩:∃c1:Bool,decide (rh≠h\/w.cost>=1099511627776\/x.ez>=0)=c1:=⟨_,rfl⟩;refine aa.bY ej fw [(1,.v (ti h)),(2,.ptr (N+3) 0),(4,.ptr (N+5) 0),(5,.ptr (N+55) 0),(6,.ptr (N+105) 0),(7,.ptr (N+1057) 0),(8,.ptr (N+1058) 0),(21,.v (.sl (aR z.n.rules))),(22,.v (ti z.n.rules.length)),(23,.v (ti k)),(41,.v (.bool c1))] ?_ ?_
  ·by_cases q1:rh=h
   ·by_cases q2:w.cost>=1099511627776
    ·have:c1=true:=by rw[<-bb];simp[q2]
     simp[HP,fF,ca,lF,cP,q1,q2,this]
    ·by_cases q3:x.ez>=0
     ·have:c1=true:=by rw[<-bb];simp[q3]
      simp[HP,fF,ca,lF,cP,q1,q2,q3,this]
     ·have:c1=false:=by rw[<-bb];simp[q1,q2,q3]
      simp[HP,fF,ca,lF,cP,q1,q2,q3,this]
   ·have:c1=true:=by rw[<-bb];simp[q1]
    simp[HP,fF,ca,lF,cP,q1,this]
  refine aa.cond rfl (λg2=>?_) (λg2=>?_)
  ·have g2:c1=true:=by simpa using g2
   rw[g2]at bb;rw[if_pos (of_decide_eq_true bb)]at mE;refine aa.exit ?_;simp;refine aa.le (VZ (l:=[(1,.v (ti h)),(2,.ptr (N+3) 0),(4,.ptr (N+5) 0),(5,.ptr (N+55) 0),(6,.ptr (N+105) 0),(21,.v (.sl (aR z.n.rules))),(22,.v (ti z.n.rules.length)),(23,.v (ti k))]) (nxt':=N+3000) bd hv.sp (by omega) (by simp[fF,lU,ca,lF])) ?_;refine aa.dm ej fw [1,2,4,5,6,21,22,23] ?_;simp[TI,w2];refine⟨k+1, ?_,by omega,by omega⟩;rw[mE];exact Le.same (lR _ _ (by omega) (by simp[lU])) (by simp[fQ])
  ·have g2:c1=false:=by simpa using g2
   rw[g2]at bb;rw[if_neg (of_decide_eq_false bb)]at mE;have ay:=Yp aw.nil (λN' _=>yj _ (L8 _)) (λr' h=>by
    rw[bL]at h⊢;split at h
    ·cases h
    ·rename_i h1;rw[if_neg h1];exact h)
   refine aa.skip ?_;simp;refine aa.OS ay fw (rs:=KO) rfl (by kernel_rfl) [1,2,4,5,6,21,22,23] ?_;have l1:over (fF p N ⟨DN,rh,ra,rb,rp,ro⟩ k w) f0 (N+3)=some (.box [.ptr p 0]):=by simp[fF]
   have l2:over (fF p N ⟨DN,rh,ra,rb,rp,ro⟩ k w) f0 (N+1058)=some (cP ⟨DN,rh,ra,rb,rp,ro⟩):=by simp[fF]
   simp[KO,l1,l2,cP];refine aa.le (VZ (l:=[(1,.v (ti h)),(2,.ptr (N+3) 0),(4,.ptr (N+5) 0),(5,.ptr (N+55) 0),(6,.ptr (N+105) 0),(21,.v (.sl (aR z.n.rules))),(22,.v (ti z.n.rules.length)),(23,.v (ti k))]) (nxt':=N+3000) bd hv.sp (by omega) (by simp[fF,lU,ca,lF])) ?_;refine aa.dm ej fw [1,2,4,5,6,21,22,23] ?_;simp[TI,w2];refine⟨k+1, ?_,by omega,by omega⟩;rw[mE];exact Le.same (lR _ _ (by omega) (by simp[lU])) (by simp[fQ])
 ·have g:k=z.n.rules.length:=by
   have:¬k<z.n.rules.length:=by simpa using g
   omega
  have hxR:x=R:=by rw[<-hx,g,<-hR];rfl
  subst hxR;refine aa.exit ?_;simp;refine aa.ab ej fw [4] ?_;simp[adh,ca,lU];refine aa.le (pQ (l:=[(4,.v (.box [ti x.cost,ti x.size,ti x.ez,ti x.arg]))]) (nxt':=N+3000) bd (by omega) (by simp) ?_) ?_
  ·simp;exact cT (l:=[]) bd (by omega) (by simp)
  refine aa.ret ?_;simp[TJ,Cell.enc];rfl
def CE(a N:Nat):List (Nat×Ob):=[(N+15,.box [.my (.func 55) [.ptr a 0],.aH,.iA (N+13),.v (ti 0),.v (ti 0)]),(N+13,.map [.int .i64] false 0 [])]
theorem t54{f0:aT}{a N:Nat}{cs:List DV}(hN:∀r,N<=r->f0 r=none)(ha:f0 a=some (.box cs)):
  EK Tryz.prog 54 [.my (.func 55) [.ptr a 0]] f0 N (N+20) (λval ob'=>val=.ptr (N+15) 0/\ob'=over (CE a N) f0):=by
 refine c54.okNs hN (by simp) (by omega) ?_ λbd=>?_
 ·rintro val ob' ⟨rfl,rfl⟩;refine⟨λr hr h=>?_,λr hr=>?_⟩
  ·rw[BT hr (by simp[CE])];exact h
  ·rw[ee λo h=>by simp[CE]at h;omega];exact hN r (by omega)
 ·simp;refine aa.ab ej fw [0,2] ?_;simp[HI];refine aa.ab ej fw [2] ?_;simp[HJ,Nat.add_assoc];refine aa.ret ?_;simp[finN,CE]
def F7:P1:=⟨2025,2028,2031,2304,2012,2309,2302⟩
def cI(z:dc)(st:eo):List (Nat×Ob):=[(2033,.box (uH F7 z)),(2025,DE st),(2028,FD st),(2031,DF st),(2304,qB 2012 2309 2302 st.s),(2309,hB st.s),(2302,mB st.s),(2012,.box [.ptr 2033 0])]
theorem mf(z:dc)(st:eo)(L:List (Nat×Ob))(hL:∀q∈L,3000<=q.1):(⟨F7,z,st⟩:SV).at (cC (L++cI z st)) 2033:=by
 have h:∀k,k<3000->cC (L++cI z st) k=cC (cI z st) k:=by
  intro k hk;induction L with
  |nil=>rfl
  |cons a L ih=>
   obtain⟨r,o⟩:=a;have:=hL (r,o) (by simp);simp only at this;rw[ZaH,dq,if_neg (by omega)];exact ih λq hq=>hL q (by simp[hq])
 refine⟨?_, ?_, ?_, ?_, ?_, ?_, ?_, ?_⟩<;>(rw[h _ (by simp[F7])];simp[cI,F7])
theorem Ja(z:dc)(st df:eo)(L:List (Nat×Ob))(hL:∀q∈L,3000<=q.1):cG (cC (L++cI z st)) ⟨F7,z,st⟩ df=cC (L++cI z df):=by
 funext k;induction L with
 |nil=>
  show(if k=2025 then some (DE df)else if k=2028 then some (FD df)else if k=2031 then some (DF df)else if k=2304 then some (qB 2012 2309 2302 df.s)else if k=2309 then some (hB df.s)else if k=2302 then some (mB df.s)else cC (cI z st) k)=cC (cI z df) k;simp only[cI,dq,lZ];by_cases h1:k=2025
  ·subst h1;simp
  by_cases h2:k=2028
  ·subst h2;simp
  by_cases h3:k=2031
  ·subst h3;simp
  by_cases h4:k=2304
  ·subst h4;simp
  by_cases h5:k=2309
  ·subst h5;simp
  by_cases h6:k=2302
  ·subst h6;simp
  simp only[if_neg h1,if_neg h2,if_neg h3,if_neg h4,if_neg h5,if_neg h6]
 |cons a L ih=>
  obtain⟨r,o⟩:=a;have hr:=hL (r,o) (by simp);simp only at hr;have ih:=ih λq hq=>hL q (by simp[hq]);show(if k=2025 then some (DE df)else if k=2028 then some (FD df)else if k=2031 then some (DF df)else if k=2304 then some (qB 2012 2309 2302 df.s)else if k=2309 then some (hB df.s)else if k=2302 then some (mB df.s)else(if k=r then some o else cC (L++cI z st) k))=if k=r then some o else cC (L++cI z df) k
  rw[<-ih];show _=if k=r then some o else(if k=2025 then some (DE df)else if k=2028 then some (FD df)else if k=2031 then some (DF df)else if k=2304 then some (qB 2012 2309 2302 df.s)else if k=2309 then some (hB df.s)else if k=2302 then some (mB df.s)else cC (L++cI z st) k)
  (repeat' split)<;>first|rfl|omega
theorem V0(L:List (Nat×Ob)):cC L=over L (λ_=>none):=by
 funext k;induction L with
 |nil=>rfl
 |cons a L ih=>
  obtain⟨r,o⟩:=a;simp only[dq,bL,ih]
theorem yZ(z:dc)(st:eo){M:Nat}(hM:3000<=M){L:List (Nat×Ob)}(hL:∀q∈L,3000<=q.1/\q.1<M/\bF q.2=[]):dO (cC (L++cI z st)) M:=by
 have dH:=mf z st L (λq hq=>(hL q hq).1);have e:=V0 (L++cI z st);rw[e]at dH⊢;refine rZ (N:=0) (λr o h=>by cases h) (Zbf _) λq hq=>?_;rcases Zao.1 hq with hq|hq
 ·obtain⟨_,h2,h3⟩:=hL q hq;exact⟨h2,λm hm=>by rw[h3]at hm;cases hm⟩
 ·simp only[cI,Zag,Zap,or_false]at hq;have h1:=dH.rb;have h2:=dH.rf;have h3:=dH.rh;have h4:=dH.q;have h5:=dH.hp;have h6:=dH.m;have h7:=dH.a;have h8:=dH.sp;simp only[F7]at h1 h2 h3 h4 h5 h6 h7 h8;rcases hq with rfl|rfl|rfl|rfl|rfl|rfl|rfl|rfl
  ·refine⟨by simp only;omega,λm hm=>?_⟩;simp only[uH,F7,bF,bJ,names,ZaJ,ZaK,Zag,Zap,or_false,ZaH]at hm;rcases hm with rfl|rfl|rfl|rfl
   ·rw[h1];simp
   ·rw[h2];simp
   ·rw[h3];simp
   ·rw[h4];simp
  ·exact⟨by simp only;omega,λm hm=>by simp[DE,bF]at hm⟩
  ·exact⟨by simp only;omega,λm hm=>by simp[FD,bF]at hm⟩
  ·exact⟨by simp only;omega,λm hm=>by simp[DF,bF]at hm⟩
  ·refine⟨by simp only;omega,λm hm=>?_⟩;simp only[qB,bF,bJ,names,ZaJ,Zao,Zag,Zap,or_false]at hm;rcases hm with rfl|rfl|rfl
   ·rw[h7];simp
   ·rw[h5];simp
   ·rw[h6];simp
  ·exact⟨by simp only;omega,λm hm=>by simp[hB,bF]at hm⟩
  ·refine⟨by simp only;omega,λm hm=>?_⟩;exfalso;simp only[mB,bF,ZaV,wE,Zal]at hm;obtain⟨e,⟨e',_,rfl⟩,hk⟩:=hm;simp[names]at hk
  ·refine⟨by simp only;omega,λm hm=>?_⟩;simp only[bF,bJ,names,ZaJ,Zag,Zap,or_false]at hm;subst hm;rw[h8];simp
def sZ(z:dc)(st:eo)(k:Nat):eo:=(z.n.rules.take k).foldl (λst r=>(bN z r).foldl (fS z r) st) st
def zi(z:dc)(st:eo)(k j:Nat):eo:=((bN z (z.n.rules.getD k default)).take j).foldl (fS z (z.n.rules.getD k default)) (sZ z st k)
theorem Jb{z:dc}(r:bD):(bN z r).length<=z.l.aD.length+((z.to-z.fr).toNat+1):=by
 have:=tB z;unfold bN;split
 ·split<;>simp;omega
 ·split
  ·have:=List.length_filterMap_le (qx z r) (List.range' (gT z) (qy z-gT z));rw[List.length_range']at this;omega
  ·split
   ·simp;omega
   ·split
    ·simp
    ·simp
theorem Wa{z:dc}(C:lA z.n z.l z.c z.fr.toNat z.to.toNat)(K:Kx z){k j:Nat}(hk:k<z.n.rules.length):PI z (zi z (ff z.n.an.toNat) k j)/\(zi z (ff z.n.an.toNat) k j).s.clock<=700000000000:=by
 have Ma:z.n.rules.getD k default∈z.n.rules:=bw hk;obtain⟨r,hr⟩:∃r,z.n.rules.getD k default=r:=⟨_,rfl⟩;have e:zi z (ff z.n.an.toNat) k j=(((z.n.rules.take k).flatMap λr=>(bN z r).map λi=>((r,i):PR))++((bN z r).take j).map λi=>((r,i):PR)).foldl (λst (p:PR)=>fS z p.1 st p.2) (ff z.n.an.toNat):=by
  rw[Zat,<-nF (λst (p:PR)=>fS z p.1 st p.2) (bN z),Zb4];unfold zi sZ;rw[hr]
 have aF:∀p∈((z.n.rules.take k).flatMap λr=>(bN z r).map λi=>((r,i):PR))++((bN z r).take j).map λi=>((r,i):PR),Jr z p:=by
  intro p hp;rcases Zao.1 hp with hp|hp
  ·obtain⟨r',fe,hp⟩:=ZaV.1 hp;obtain⟨i,hi,rfl⟩:=Zal.1 hp;exact⟨Zav fe,hi⟩
  ·obtain⟨i,hi,rfl⟩:=Zal.1 hp;rw[hr]at Ma;exact⟨Ma,Zav hi⟩
 obtain⟨a1,_,_,a4⟩:=(NI C K).fold (λ_ h=>h) _ aF _ (PI0 K);rw[<-e]at a1 a4;refine⟨a1, ?_⟩;have l1:=wo (c:=1000001001) (f:=λr=>(bN z r).map λi=>((r,i):PR)) (z.n.rules.take k) (λr hr=>by
  have:=Jb (z:=z) r;have:=K.hl.2.2.1;have:=C.tm;have:=K.ft;rw[Zbt];omega)
 have l2:=Jb (z:=z) r;have l3:=K.hn.2.2.1;have l4:=K.hl.2.2.1;have:=C.tm;have:=K.ft;rw[ZaA,Zbt,Zaw]at a4;rw[Zaw]at l1;have l5:1000001001*min k z.n.rules.length<=1000001001*600:=Nat.mul_le_mul_left _ (by omega);have l6:(ff z.n.an.toNat).s.clock=0:=rfl;omega
theorem DO{z:dc}{st:eo}{k:Nat}(hk:k<z.n.rules.length):sZ z st (k+1)=zi z st k (bN z (z.n.rules.getD k default)).length:=by
 unfold zi sZ;rw[cN hk,Zat];simp only[ZaB,ZbU,Zbn]
theorem PF{z:dc}{st:eo}{k j:Nat}{i:eE}(h:(bN z (z.n.rules.getD k default))[j]? =some i):zi z st k (j+1)=fS z (z.n.rules.getD k default) (zi z st k j) i:=by
 unfold zi;rw[Zbw,h,Zat];rfl
theorem Wb{z:dc}(H:P2 z){k:Nat}(hk:k<z.n.rules.length){D:DV}(hD:B9 D (z.n.rules.getD k default)):
  aZ Tryz.prog 57 [.ptr 2033 0,D,.my (.func 58) [.ptr 2012 0,.ptr 4104 0]] (cC ([(4104,cP (z.n.rules.getD k default))]++cI z (sZ z (ff z.n.an.toNat) k)))
   ⟨True,.v (.eG []),cC ([(4104,cP (z.n.rules.getD k default))]++cI z (sZ z (ff z.n.an.toNat) (k+1)))⟩:=by
 have Ma:z.n.rules.getD k default∈z.n.rules:=bw hk;have hini:=λj=>Wa H.C H.K (j:=j) hk;rw[DO hk];have hsu:=λ{j i}=>PF (z:=z) (st:=ff z.n.an.toNat) (k:=k) (j:=j) (i:=i);obtain⟨r,hr⟩:∃r,z.n.rules.getD k default=r:=⟨_,rfl⟩;have jV:=H.K.hn.2.2.2 r (by rw[<-hr];exact Ma);rw[hr]at hD Ma hsu⊢;have hL:∀q∈[((4104:Nat),cP r)],3000<=q.1:=by simp
 have e0:sZ z (ff z.n.an.toNat) k=zi z (ff z.n.an.toNat) k 0:=rfl;rw[e0];have qb:=H.K.ft;have ja:=H.C.tm;refine t57 (k:=F7) (z:=z) (N:=5000) (r:=r) (caps:=[2012,4104]) (F:=λj=>cC ([(4104,cP r)]++cI z (zi z (ff z.n.an.toNat) k j))) (B:=λ_=>true) ⟨λj _=>⟨_,mf z _ _ hL⟩,λj _=>yZ z _ (by omega) (by simp[cP,bF,bJ,names])⟩
  ⟨λj i hi _ N' NM=>?_,λj r' hj hn=>?_,λ_ _=>rfl,.inl rfl⟩ H.I0.mono H.K.hl.2.2.1 (by omega) ⟨jV.2.2.1,jV.2.2.2.1⟩ H.K.hl.2.2.2 ?_ hD
 ·have Ni:i∈bN z r:=Zaq hi;obtain⟨m1,m2⟩:=hini j;have:=t58 (i:=i) (r:=r) (sB:=2012) (rB:=4104) NM (mf z (zi z (ff z.n.an.toNat) k j) _ hL) (by simp[cI]) (by simp) (xV H.K H.cf m1.1.wf Ma Ni) (λ_=>by
   have hh:0<=r.head/\r.head<z.n.an:=⟨jV.1,jV.2.1⟩;exact m1.1.wf.B0 (by omega) (FU H.K m1.1.wf.bo Ma Ni) (by have:=H.K.hn.2.1;omega) (by omega))
  rw[Ja z _ _ _ hL]at this;simp only at this;rw[<-hsu hi]at this;exact this
 ·simp only[cI,ZaH,ZaK,dq,lZ]at hn⊢;repeat' split at hn
  all_goals first|(cases hn;done)|skip
  simp[*]
 ·intro x hx;simp only[Zag,Zap,or_false]at hx;rcases hx with rfl|rfl
  ·exact⟨[.ptr 2033 0],by simp[cI]⟩
  ·exact⟨_,by simp[cP];rfl⟩
theorem Cb{z:dc}(H:P2 z):∀{f:Nat} {st:eo},IV z st->rX st<f->IV z (fM z f st)/\(fM z f st).s.heap=[]
 |0,_,_,h=>by omega
 |f+1,st,hI,h=>by
  by_cases bG:st.s.heap=[]
  ·simp only[fM,if_pos bG];exact⟨hI,bG⟩
  ·rw[nG bG];obtain⟨a,b,_⟩:=xT H.C H.K hI bG;exact Cb H a (by omega)
theorem NP{α:Type}(a b:α){n k:Nat}(h:k<n):(List.replicate k a++List.replicate (n-k) b).set k a=List.replicate (k+1) a++List.replicate (n-(k+1)) b:=by
 obtain⟨m,hm⟩:∃m,n-k=m+1:=⟨n-k-1,by omega⟩;rw[hm,show n-(k+1)=m by omega,Zb5 _ _ (by simp),ZbR (n:=k)];simp[Za7]
def nf(n k:Nat):eo:=⟨List.replicate k ⟨1099511627776,0⟩++List.replicate (n-k) ⟨0,0⟩,List.replicate n false,List.replicate k (-1)++List.replicate (n-k) 0,⟨[],0,[],0,0,0⟩⟩
theorem Wc(n:Nat):nf n n=ff n:=by simp[nf,ff]
theorem le_eq{tm:Nat->DV}{ob ob':aT}{nxt nxt' low:Nat}{td:List (List T)}{l:List (Nat×DV)}(e:ob=ob')(h:∀r,nxt'<=r->ob' r=none)(hl:fQ tm l):Le ⟨tm,ob,nxt,low,td⟩ ⟨DM.look l,ob',nxt',low,td⟩:=by
 subst e;exact Le.same h hl
theorem kg{L:List (Nat×Ob)}{M:Nat}(h:∀q∈L,q.1<M):∀r,M<=r->cC L r=none:=by
 induction L with
 |nil=>intro r _;rfl
 |cons a L ih=>
  intro r hr;obtain⟨j,o⟩:=a;have:=h (j,o) (by simp);simp only at this;rw[dq,if_neg (by omega)];exact ih (λq hq=>h q (by simp[hq])) r hr
theorem iL(z:dc)(st:eo):∀q∈cI z st,2000<=q.1/\q.1<3000:=by
 intro q hq;simp only[cI,Zag,Zap,or_false]at hq;rcases hq with rfl|rfl|rfl|rfl|rfl|rfl|rfl|rfl<;>simp only[]<;>omega
theorem y5{A B:List (Nat×Ob)}{r:Nat}{o:Ob}(h:cC (A++B) r=some o):(r,o)∈A\/((∀q∈A,q.1≠r)/\cC B r=some o):=by
 induction A with
 |nil=>exact .inr ⟨λq hq=>(by cases hq),h⟩
 |cons a A ih=>
  obtain⟨j,x⟩:=a;rw[ZaH,dq]at h;by_cases e:r=j
  ·rw[if_pos e]at h;cases h;subst e;exact .inl (by simp)
  ·rw[if_neg e]at h;rcases ih h with h|⟨h1,h2⟩
   ·exact .inl (by simp[h])
   ·exact .inr ⟨λq hq=>by
     rcases Zag.1 hq with rfl|hq
     ·exact λe2=>e e2.symm
     ·exact h1 q hq,h2⟩
theorem Wd{A B:List (Nat×Ob)}{r:Nat}(h:∀q∈A,q.1≠r):cC (A++B) r=cC B r:=by
 induction A with
 |nil=>rfl
 |cons a A ih=>
  obtain⟨j,x⟩:=a;have:=h (j,x) (by simp);simp only at this;rw[ZaH,dq,if_neg (λe=>this e.symm)];exact ih λq hq=>h q (by simp[hq])
theorem We{z:dc}{st:eo}{L L':List (Nat×Ob)}{l:List (Nat×DV)}{tm:Nat->DV}{nxt nxt':Nat}(hL:∀q∈L,3000<=q.1)(hL':∀q∈L',3000<=q.1/\q.1<nxt')(hn:3000<=nxt')
  (fG:tT (cC (L++cI z st)) (cC (L'++cI z st)) id L') (ja:gq (cC (L++cI z st)) (cC (L'++cI z st)) id tm l):
  Le ⟨tm,cC (L++cI z st),nxt,1000,[]⟩ ⟨DM.look l,cC (L'++cI z st),nxt',1000,[]⟩:=by
 have bd:=yZ z st (Zae 3000) (L:=[]) (λq hq=>by cases hq);simp only[ZaK]at bd;have low:∀{A:List (Nat×Ob)},(∀q∈A,3000<=q.1)->∀r,r<3000->cC (A++cI z st) r=cC (cI z st) r:=λhA r hr=>Wd λq hq e=>by have:=hA q hq;omega
 have hLs:∀q∈L',3000<=q.1:=λq hq=>(hL' q hq).1;refine Le.cor2 rfl rfl ?_ (λr o h=>?_) (λr hr o h=>?_) (λk=>rE l ja k)
 ·refine kg λq hq=>?_;rcases Zao.1 hq with hq|hq
  ·exact(hL' q hq).2
  ·have:=iL z st q hq;simp only;omega
 ·rcases y5 h with h|⟨_,h⟩
  ·obtain⟨o0,h1,h2⟩:=px fG r o h;exact⟨o0,h1,.inl h2⟩
  ·have hr:=(bd r o h).1;refine⟨o,(low hL r hr).trans h,.inr ⟨rfl,λm hm=>?_⟩⟩;have Eg:=(bd r o h).2 m hm;cases hmo:cC (cI z st) m with
   |none=>exact absurd hmo Eg
   |some o'=>exact⟨o',o',(low hL m (bd m o' hmo).1).trans hmo,(low hLs m (bd m o' hmo).1).trans hmo,bu _⟩
 ·exfalso;simp only at h hr;rcases y5 h with h|⟨_,h⟩
  ·have:=hL _ h;simp only at this;omega
  ·have hm:=l8 h;have:=iL z st _ hm;simp only at this;omega
def spP(z:dc):List DV:=[.v (ti z.n.aW),.v (ti z.n.an),.v (ti z.n.start),.v (.sl (aR z.n.rules)),.v (ti z.l.aP),.v (.sl (ba z.l.aD)),.v (.sl (aB z.l.final)),.v (ti z.c.an),.v (ti z.c.aP),.v (.sl (aM z.c.cells)),.v (ti z.fr),.v (ti z.to),.bk 2025 0,.bk 2028 0,.bk 2031 0,.v (.raw (Go.Value.pointer Option.none))]
def Jc(z:dc)(n:Nat):List (Nat×Ob):=[(2012,.box [.ptr 2033 0]),(2033,.box (spP z)),(2031,DF (nf n 0)),(2028,FD (nf n 0)),(2025,DE (nf n 0))]
theorem t35{z:dc}(H:P2 z):lK Tryz.prog 35 [z.n.enc,z.l.enc,z.c.enc,ti z.fr,ti z.to] 57 4 (aM (jk z.n z.l z.c z.fr z.to)):=by
 have Yv:=Yk H.C H.K;obtain⟨s0,Rk⟩:∃s,yW z (ff z.n.an.toNat)=s:=⟨_,rfl⟩;rw[Rk]at Yv;have hnn:=H.K.hn;have hck0:s0.s.clock<=700000000000:=by
  by_cases e:z.n.rules.length=0
  ·have:z.n.rules=[]:=ZaD e;rw[<-Rk];simp[yW,this,ff]
  ·have h1:=(Wa H.C H.K (k:=z.n.rules.length-1) (j:=(bN z (z.n.rules.getD (z.n.rules.length-1) default)).length) (by omega)).2;rw[<-DO (by omega),show z.n.rules.length-1+1=z.n.rules.length by omega]at h1;have:sZ z (ff z.n.an.toNat) z.n.rules.length=yW z (ff z.n.an.toNat):=by unfold sZ yW;rw[Zbn]
   rw[this,Rk]at h1;exact h1
 have hcnt:rX s0<=z.n.an.toNat:=by
  unfold rX;have:=Yv.1.1.wf.lf;have:=List.count_le_length (a:=false) (l:=s0.fin);omega
 obtain⟨hI,GK⟩:=Cb H (f:=rX s0+1) Yv.1 (by omega);obtain⟨s9,hs9⟩:∃s,fM z (rX s0+1) s0=s:=⟨_,rfl⟩;have PZ:1<=z.n.an:=hnn.1;have O5:z.n.an<=1000:=hnn.2.1;have h62:=t62 (p:=2033) (k0:=F7) (N:=5000) (f0:=cC (cI z s0)) H (kg λq hq=>by have:=iL z s0 q hq;omega) (mf z s0 [] (λq hq=>by cases hq)) Yv.1 (by omega);have nM:=Ja z s0 (fM z (rX s0+1) s0) [] (λq hq=>by cases hq);simp only[ZaK]at nM;rw[nM,hs9]at h62;rw[hs9]at hI GK;have hspan:=L6 H.C H.K H.I0 hI GK;rw[<-hspan];have h63:=λ(h:Nat) (hh:h<z.n.an.toNat) (L:List (Nat×Ob)) (hL:∀q∈L,3000<=q.1) (N:Nat) (hN:∀r,N<=r->cC (L++cI z s9) r=none)=>t63 (p:=2033) H hN (mf z s9 L hL) hI.1.wf hh;have PO:z.n.rules.length<=600:=hnn.2.2.1;obtain⟨nn,hnn2⟩:=Zad (a:=z.n.an) (by omega);have hnt:z.n.an.toNat=nn:=by omega
 rw[hnt]at h63 Rk;refine c35.okF (by simp) (aK ?_);simp[aG.enc,aL.enc,bW.enc];refine aa.ab ej fw [3,4,5,6,7,10] ?_;simp[HQ];refine aa.le (Le.aC (o:=[]) (l:=[(3,.v (ti z.fr)),(4,.v (ti z.to)),(5,.v (.box [ti z.n.aW,ti z.n.an,ti z.n.start,.sl (aR z.n.rules)])),(6,.v (.box [ti z.l.aP,.sl (ba z.l.aD),.sl (aB z.l.final)])),(7,.v (.box [ti z.c.an,ti z.c.aP,.sl (aM z.c.cells)])),(10,.aH)]) (nxt':=2000) ?_ ?_ ?_ ?_) ?_;iterate 4(·simp)
 refine aa.ab ej fw [5,11] ?_;simp[HR,and_assoc,cH];repeat (refine⟨by omega, ?_⟩)
 have N2:z.n.an.toNat=nn:=hnt;have sl5:∀n1:Nat,∀x,List.replicate n1 [T.int .i64 x]=aB (List.replicate n1 x):=λn1 x=>by simp[aB]
 refine aa.le (le_eq (ob':=cC (Jc z nn)) (l:=[(5,.v (.box [ti z.n.aW,ti z.n.an,ti z.n.start,.sl (aR z.n.rules)])),(11,.ptr 2012 0)]) (nxt':=2200) ?_ ?_ ?_) ?_
 ·funext q;simp only[Jc,spP,dq,lZ,DF,FD,DE,nf,N2,aB,iW,bI,List.replicate_zero,ZaK,List.map_replicate,Zb1]
  (repeat' split)<;>first|rfl|omega
 ·exact kg (by simp[Jc])
 ·simp
 have Gy:∀{tm:Nat->DV} {ob:aT},ob=over ((2033,.box (uH F7 z))::CE 2012 2289) (cC (Jc z nn))->fQ tm [(5,.v (.box [ti z.n.aW,ti z.n.an,ti z.n.start,.sl (aR z.n.rules)])),(11,.ptr 2012 0)]->
   Le ⟨tm,ob,2309,1000,[]⟩ ⟨DM.look [(5,.v (.box [ti z.n.aW,ti z.n.an,ti z.n.start,.sl (aR z.n.rules)])),(11,.ptr 2012 0)],cC (cI z (nf nn 0)),3000,1000,[]⟩:=by
  intro tm ob e ja;subst e;refine Le.trans (Le.MM 2304 1 177 (sz:=3) (cs:=[.my (.func 55) [.ptr 2012 0],.aH,.iA 2302,.v (ti 0),.v (ti 0)]) (by omega) (by simp[CE]) rfl) (le_eq ?_ (kg λq hq=>(iL z _ q hq).2) ja);funext q;show(if q=2304 then _ else if q=2309 then _ else _)=_;simp only[CE,Jc,cI,dq,lZ,bL,eO];by_cases h1:q=2304
  ·subst h1;rfl
  by_cases h2:q=2309
  ·subst h2;rfl
  by_cases h3:q=2033
  ·subst h3;rfl
  by_cases h4:q=2302
  ·subst h4;rfl
  by_cases h5:q=2012
  ·subst h5;rfl
  by_cases h6:q=2031
  ·subst h6;rfl
  by_cases h7:q=2028
  ·subst h7;rfl
  by_cases h8:q=2025
  ·subst h8;rfl
  simp[h1,h2,h3,h4,h5,h6,h7,h8]
 refine aa.seq (aa.to ⟨DM.look [(5,.v (.box [ti z.n.aW,ti z.n.an,ti z.n.start,.sl (aR z.n.rules)])),(11,.ptr 2012 0)],cC (cI z (nf nn 0)),3000,1000,[]⟩ (aa.regND ej fw (N':=2309) [5,11] (rs:=HS) rfl ⟨rfl,rfl⟩ (by simp) ?_ ?_ ?_) ?_)
 ·simp[CN,Jc];refine⟨_,λhN=>t54 (cs:=[.ptr 2033 0]) hN (by simp), ?_⟩;rintro val ob' ⟨rfl,rfl⟩;simp[CE,bL,spP];exact Gy rfl (by simp)
 ·simp[CN,Jc];refine⟨_,λhN=>t54 (cs:=[.ptr 2033 0]) hN (by simp), ?_⟩;rintro val ob' ⟨rfl,rfl⟩;simp[CE,bL,spP];exact Gy rfl (by simp)
 ·simp[CN,Jc];refine⟨_,λhN=>t54 (cs:=[.ptr 2033 0]) hN (by simp), ?_⟩;rintro val ob' ⟨rfl,rfl⟩;simp[CE,bL,spP];exact Gy rfl (by simp)
 obtain⟨RT,hRT⟩:∃t:T,T.box [ti z.n.aW,ti z.n.an,ti z.n.start,.sl (aR z.n.rules)]=t:=⟨_,rfl⟩;have ek:=λk=>mf z (nf nn k) [] (λq hq=>by cases hq);have e1:=λk=>(ek k).sp;have e2:=λk=>(ek k).rb;have e3:=λk=>(ek k).rh;have e4:=λk=>(ek k).a;simp only[ZaK,uH,F7]at e1;simp only[ZaK,DE,F7]at e2;simp only[ZaK,DF,F7]at e3;simp only[ZaK,F7]at e4;have Pj:∀k,k<=nn->(nf nn k).best.length=nn:=λk hk=>by simp[nf];omega
 have lenH:∀k,k<=nn->(nf nn k).jr.length=nn:=λk hk=>by simp[nf];omega
 refine aa.seq ?_;refine aa.ab ej fw [5,11,42,43] ?_;simp[HT,e1,e2,e4,Pj 0 (by omega)];refine aa.block ?_;refine aa.loop (λk:Nat=>⟨DM.look [(5,.v (.box [ti z.n.aW,ti z.n.an,ti z.n.start,.sl (aR z.n.rules)])),(11,.ptr 2012 0),(42,.v (ti nn)),(43,.v (ti k))],cC (cI z (nf nn k)),3500,1000,[]⟩)
  (λk=>k<=nn) (λk=>nn-k) 0 (Le.same (kg λq hq=>by have:=iL z _ q hq;omega) (by simp[fQ])) (by omega) (λk hk=>?_)
 refine aa.ab ej fw [5,11,42,43,44] ?_;simp[HU];refine aa.seq ?_;refine aa.cond rfl (λg=>?_) (λg=>?_)
 ·have g:k<nn:=by simpa using g
  refine aa.skip ?_;simp;refine aa.seq ?_;refine aa.block ?_;refine aa.ab ej fw [5,11,42,43,12] ?_;simp[HV];refine aa.ab ej fw [5,11,42,43,12] ?_;have rb:=dP (l:=(nf nn k).best) (y:=k) (by rw[Pj k hk];exact g);have rh:=cO (l:=(nf nn k).jr) (y:=k) (by rw[lenH k hk];exact g);simp[HW,e1,e2,e4,Pj k hk,g,rb];have e5:∀(q:Ob),cC ((2025,q)::cI z (nf nn k)) 2012=some (.box [.ptr 2033 0]):=λq=>by rw[dq,if_neg (by omega)];exact e4 k
  refine aa.dm ej fw [5,11,42,43] ?_;simp[vF,e1,e3,e4,lenH k hk,g,rh];refine aa.dm ej fw [5,11,42,43] ?_;simp[HX];rw[au (x:=(k:Int)+1) (by omega)];refine⟨k+1,le_eq ?_ (kg λq hq=>by have:=iL z _ q hq;omega) (by simp),by omega,by omega⟩;funext q;have v1:(bI (nf nn k).best).set k [T.int .i64 1099511627776,T.int .i64 0]=bI (nf nn (k+1)).best:=by
   rw[show [T.int .i64 1099511627776,T.int .i64 0]=[ti (⟨1099511627776,0⟩:br).cost,ti (⟨1099511627776,0⟩:br).size]from rfl,<-sG];simp only[nf,NP _ _ g]
  have v2:(aB (nf nn k).jr).set k [T.int .i64 (-1)]=aB (nf nn (k+1)).jr:=by
   rw[<-sH];simp only[nf,NP _ _ g]
  rw[v1,v2];simp only[cI,dq,lZ];by_cases h1:q=2025
  ·subst h1;rfl
  by_cases h2:q=2031
  ·subst h2;rfl
  simp only[if_neg h1,if_neg h2];rfl
 ·have g:k=nn:=by
   have:¬k<nn:=by simpa using g
   omega
  subst g;rw[Wc];refine aa.exit ?_;simp;have ek:=λk'=>mf z (sZ z (ff k) k') [] (λq hq=>by cases hq);have e1:=λk'=>(ek k').sp;have e4:=λk'=>(ek k').a;simp only[ZaK,uH,F7]at e1;simp only[ZaK,F7]at e4;refine aa.seq ?_;refine aa.ab ej fw [5,11,62,63,64] ?_;simp[HY];refine aa.block ?_;refine aa.loop (λy:Nat=>⟨DM.look [(5,.v (.box [ti z.n.aW,ti z.n.an,ti z.n.start,.sl (aR z.n.rules)])),(11,.ptr 2012 0),(62,.v (.sl (aR z.n.rules))),(63,.v (ti z.n.rules.length)),(64,.v (ti y))],cC (cI z (sZ z (ff k) y)),4000,1000,[]⟩)
   (λy=>y<=z.n.rules.length) (λy=>z.n.rules.length-y) 0 (Le.same (kg λq hq=>by have:=iL z _ q hq;omega) (by simp[fQ])) (by omega) (λy hy=>?_)
  refine aa.ab ej fw [5,11,62,63,64,65] ?_;simp[Bg];refine aa.seq ?_;refine aa.cond rfl (λg=>?_) (λg=>?_)
  ·have g:y<z.n.rules.length:=by simpa using g
   refine aa.skip ?_;simp;refine aa.seq ?_;refine aa.block ?_;have rk:=fT g;have hic:=λD hD=>Wb H g (D:=D) hD;rw[N2]at hic;obtain⟨⟨DN,rh,ra,rb,rp,ro⟩,hr⟩:∃r,z.n.rules.getD y default=r:=⟨_,rfl⟩;rw[hr]at rk hic;simp only[bD.enc]at rk;refine aa.ab ej fw [5,11,62,63,64,14] ?_;simp[ub,g,rk];have eU:∀(o o':Ob) (L:List (Nat×Ob)),cC ((4104,o)::(4104,o')::L)=cC ((4104,o)::L):=λo o' L=>by
    funext q;simp only[dq];split<;>rfl
   rw[eU];have uE:∀r',cC ([(4104,cP ⟨DN,rh,ra,rb,rp,ro⟩)]++cI z (sZ z (ff k) y)) r'=none->cC ([(4104,cP ⟨DN,rh,ra,rb,rp,ro⟩)]++cI z (sZ z (ff k) (y+1))) r'=none:=by
    intro r' fe;simp only[cI,ZaH,ZaK,dq,lZ]at fe⊢;repeat' split at fe
    all_goals first|(cases fe;done)|skip
    simp[*]
   have ay:=Yp aw.nil (λN' _=>hic _ (L8 _)) uE;have q1:cC ((4104,Ob.box [.v (ti DN),.v (ti rh),.v (ti ra),.v (ti rb),.v (ti rp),.v (ti ro)])::cI z (sZ z (ff k) y)) 2012=some (.box [.ptr 2033 0]):=by rw[dq,if_neg (by omega)];exact e4 y
   refine aa.OS ay fw (rs:=Nd) rfl (by kernel_rfl) [5,11,62,63,64] ?_;simp[Nd,q1,cP];refine aa.le (We (L:=[_]) (L':=[]) (l:=[(5,.v (.box [ti z.n.aW,ti z.n.an,ti z.n.start,.sl (aR z.n.rules)])),(11,.ptr 2012 0),(62,.v (.sl (aR z.n.rules))),(63,.v (ti z.n.rules.length)),(64,.v (ti y))]) (nxt':=4500) (by simp) (by simp) (by omega) trivial ?_) ?_
   ·simp[e4]
   simp;refine aa.dm ej fw [5,11,62,63,64] ?_;simp[Bh];rw[au (x:=(y:Int)+1) (by omega)];exact⟨y+1,le_eq rfl (kg λq hq=>by have:=iL z _ q hq;omega) (by simp),by omega,by omega⟩
  ·have g:y=z.n.rules.length:=by
    have:¬y<z.n.rules.length:=by simpa using g
    omega
   subst g;have e0:sZ z (ff k) z.n.rules.length=s0:=by rw[<-Rk];unfold sZ yW;rw[Zbn]
   rw[e0];refine aa.exit ?_;simp;have e4:=(mf z s0 [] (λq hq=>by cases hq)).a;simp only[ZaK,F7]at e4;have uE:∀r',cC (cI z s0) r'=none->cC (cI z s9) r'=none:=by
    intro r' fe;simp only[cI,dq,lZ]at fe⊢;repeat' split at fe
    all_goals first|(cases fe;done)|skip
    simp[*]
   have ay:=Yp aw.nil (λN' _=>h62) uE;refine aa.ew ay fw (rs:=Nf) rfl (by kernel_rfl) [5,11] ?_;simp[Nf,e4];refine aa.ab ej fw [5,11,15] ?_;simp[Bj];refine aa.le (le_eq rfl (l:=[(5,.v (.box [ti z.n.aW,ti z.n.an,ti z.n.start,.sl (aR z.n.rules)])),(11,.ptr 2012 0),(15,.aH)]) (nxt':=5000) (kg λq hq=>by have:=iL z _ q hq;omega) (by simp)) ?_;refine aa.le (Le.l9 (k:=15) 57 (sz:=4) (by omega) (by simp)) ?_;rw[iu];refine aa.seq ?_;refine aa.ab ej fw [11,15,76,77] ?_;simp[Bk];refine aa.block ?_;obtain⟨own,eX⟩:∃l,mZ z s9.best=l:=⟨_,rfl⟩;have hol:own.length=k:=by rw[<-eX,zH,N2]
   have hog:∀y,y<k->own.getD y default=gC z s9.best y:=λy hy=>by rw[<-eX];simp[mZ,List.getD,N2,hy]
   have dH:=λ(o:Ob)=>(mf z s9 [(5000,o)] (by simp)).a;simp only[ZaH,ZaK,F7]at dH;rw[eX];refine aa.loop (λy:Nat=>⟨DM.look [(11,.ptr 2012 0),(15,.bk 5000 0),(76,.v (ti k)),(77,.v (ti y))],cC ([(5000,.arr 0 57 4 (aM (own.take y)))]++cI z s9),6000,1000,[]⟩)
    (λy=>y<=k) (λy=>k-y) 0 (We (L:=[_]) (by simp) (by simp) (by omega) ?_ ?_) (by omega) (λy hy=>?_)
   ·simp[aM]
   ·simp[dH,hnn2]
   refine aa.ab ej fw [11,15,76,77,78] ?_;simp[Bl];refine aa.seq ?_;refine aa.cond rfl (λg=>?_) (λg=>?_)
   ·have g:y<k:=by simpa using g
    have hg:=hog y g;have h63':=λN hN=>h63 y g [(5000,.arr 0 57 4 (aM (own.take y)))] (by simp) N hN;rw[<-hg]at h63';have tk:own.take (y+1)=own.take y++[own.getD y default]:=cN (by omega);obtain⟨cx,QH⟩:∃c,own.getD y default=c:=⟨_,rfl⟩;rw[QH]at h63' tk;refine aa.skip ?_;simp;refine aa.seq ?_;refine aa.block ?_;refine aa.ab ej fw [11,15,16,76,77] ?_;simp[Bm];have ay:=Yp aw.nil h63' (λr h=>h);refine aa.OS ay fw (rs:=E5) rfl (by kernel_rfl) [11,15,76,77] ?_;simp[E5,dH,cH,chunk,Cell.enc];refine⟨by omega, ?_⟩;refine aa.dm ej fw [11,15,76,77] ?_;simp[TL];rw[au (x:=(y:Int)+1) (by omega)];refine⟨y+1,We (L:=[_,_]) (L':=[_]) (by simp) (by simp) (by omega) ?_ ?_,by omega,by omega⟩
    ·simp[tk,aM,Cell.enc]
    ·simp[dH]
   ·have g:y=k:=by
     have:¬y<k:=by simpa using g
     omega
    subst g;refine aa.exit ?_;simp;refine aa.ab ej fw [10] ?_;simp[TM];refine aa.ret ?_;exact .inr ⟨5000,0,by simp,by simp[<-hol]⟩
def dw(f:Nat->Nat):Nat->Nat
 |0=>0
 |n+1=>dw f n+f n
theorem iy{f g:Nat->Nat}:∀{n:Nat},(∀i,i<n->f i=g i)->dw f n=dw g n
 |0,_=>rfl
 |n+1,h=>by simp only[dw];rw[iy λi hi=>h i (by omega),h n (by omega)]
theorem Jd(f:Nat->Nat)(a:Nat):∀b:Nat,dw f (a+b)=dw f a+dw (λi=>f (a+i)) b
 |0=>rfl
 |b+1=>by
  show dw f (a+b)+f (a+b)=_;rw[Jd f a b];simp only[dw];omega
theorem xW:∀n:Nat,dw (λ_=>0) n=0
 |0=>rfl
 |n+1=>by simp only[dw,xW n]
theorem DQ(f g:Nat->Nat):∀n:Nat,dw (λi=>f i+g i) n=dw f n+dw g n
 |0=>rfl
 |n+1=>by simp only[dw,DQ f g n];omega
theorem DR(f:Nat->Nat->Nat)(n:Nat):∀m:Nat,dw (λa=>dw (λb=>f a b) n) m=dw (λb=>dw (λa=>f a b) m) n
 |0=>by simp only[dw,xW]
 |m+1=>by simp only[dw,DR f n m,DQ]
theorem Je(f:Nat->Nat){k n:Nat}(h:k<=n):dw (λi=>if i<k then f i else 0) n=dw f k:=by
 obtain⟨d,rfl⟩:=Nat.exists_eq_add_of_le h;rw[Jd,iy (g:=f) λi hi=>if_pos hi,iy (g:=λ_=>0) λi _=>if_neg (by omega),xW];rfl
theorem Wg(g:Nat->Nat->Nat)(S:Nat):dw (λa=>dw (λb=>g b a) (S-a)) S=dw (λs=>dw (λj=>g s j) (S-s)) S:=by
 rw[iy (g:=λa=>dw (λb=>if b<S-a then g b a else 0) S) λa _=>(Je _ (by omega)).symm,DR];refine iy λs hs=>?_;rw[<-Je (λj=>g s j) (k:=S-s) (n:=S) (by omega)];refine iy λa ha=>?_;by_cases h:a<S-s
 ·rw[if_pos h,if_pos (by omega)]
 ·rw[if_neg h,if_neg (by omega)]
def Md(cf co cn fr to os k:Int):KR:=fV 0 (fr-k) (to-k) cf co cn os
def zj(cf co cn fr to os k:Int):Prop:=(Md cf co cn fr to os k).ok=true/\(Md cf co cn fr to os k).f=fr/\(Md cf co cn fr to os k).t=to
instance(cf co cn fr to os k:Int):Decidable (zj cf co cn fr to os k):=by unfold zj;infer_instance
structure OR where
 (f t:Int)
 ok:Bool
def OR.enc(o:OR):T:=.eG [ti o.f,ti o.t,.bool o.ok]
def cb(cf co cn fr to os:Int):OR:=
 if zj cf co cn fr to os 0 then⟨fr,to,true⟩else if zj cf co cn fr to os (2*(cn-co))then⟨fr-2*(cn-co),to-2*(cn-co),true⟩else⟨0,0,false⟩
def Jf(x:Int):Prop:= -1000000<=x/\x<=1000000
theorem t34(cf co cn fr to os:Int)(h1:Jf co)(h2:Jf cn)(h3:Jf fr)(h4:Jf to)(hs:1<=os)(N8:os<=10000):aU Tryz.prog 34 [.agg [ti cf,ti co,ti cn],ti fr,ti to,ti os] (cb cf co cn fr to os).enc:=by
 obtain⟨R,hR⟩:∃R,cb cf co cn fr to os=R:=⟨_,rfl⟩;rw[hR];unfold Jf at h1 h2 h3 h4;have ay:=ok18 (l:=[]) aw.nil;have w1:IntKind.i64.wrap (cn-co)=cn-co:=au (by omega);have w2:IntKind.i64.wrap (2*(cn-co))=2*(cn-co):=au (by omega);obtain⟨d,hd⟩:∃d,2*(cn-co)=d:=⟨_,rfl⟩;rw[hd]at w2;refine c34.ok (by simp) (aK ?_);simp;refine aa.ab ay fw [1,2,3,4,8,9,10] ?_;simp[Ht];refine aa.le (Le.aC (o:=[]) (l:=[(1,.v (ti fr)),(2,.v (ti to)),(3,.v (ti os)),(4,.v (.box [ti cf,ti co,ti cn]))]) (nxt':=1200) ?_ ?_ ?_ ?_) ?_;iterate 4(·simp)
 refine aa.ab ay fw [1,2,3,4,11] ?_;simp[Hu,w1,hd,w2];refine aa.seq ?_;refine aa.ab ay fw [1,2,3,4,11,24,25,26] ?_;simp[Hv,chunk];refine aa.block ?_;unfold cb at hR;rw[hd]at hR;refine aa.loop (λy:Nat=>⟨DM.look [(1,.v (ti fr)),(2,.v (ti to)),(3,.v (ti os)),(4,.v (.box [ti cf,ti co,ti cn])),(24,.v (.sl [[ti 0],[ti d]])),(25,.v (ti 2)),(26,.v (ti y))],cC [],2000,1000,[]⟩)
  (λy=>y<=2/\(1<=y->¬zj cf co cn fr to os 0)/\(2<=y->¬zj cf co cn fr to os d)) (λy=>2-y) 0 (Le.aC ?_ ?_ ?_ ?_) ⟨by omega,by omega,by omega⟩ (λy hy=>?_)
 iterate 4(·simp)
 obtain⟨hy,jU,fl⟩:=hy;refine aa.ab ay fw [1,2,3,4,24,25,26,27] ?_;simp[Hw];refine aa.seq ?_;refine aa.cond rfl (λg=>?_) (λg=>?_)
 ·have g':(y:Int)<2:=by simpa using g
  have g:y<2:=by omega
  obtain⟨k,hk⟩:∃k:Int,(if y=0 then 0 else d)=k:=⟨_,rfl⟩;have tW:DM.rowAt [[ti 0],[ti d]] (y:Int)=[ti k]:=by
   rw[<-hk]
   match y,g with
   |0,_=>rfl
   |1,_=>rfl
  have hkb: -4000000<=k/\k<=4000000:=by rw[<-hk];split<;>omega
  have w3:IntKind.i64.wrap (fr-k)=fr-k:=au (by omega);have w4:IntKind.i64.wrap (to-k)=to-k:=au (by omega);obtain⟨⟨qh,qf,qt,qo⟩,hq⟩:∃q,Md cf co cn fr to os k=q:=⟨_,rfl⟩;have hq':fV 0 (fr-k) (to-k) cf co cn os=⟨qh,qf,qt,qo⟩:=hq;have hP:zj cf co cn fr to os k↔(qo=true/\qf=fr/\qt=to):=by unfold zj;rw[hq]
  refine aa.skip ?_;simp;refine aa.seq ?_;refine aa.block ?_;refine aa.ab ay fw [1,2,3,4,13,24,25,26] ?_;simp[Hx,g',tW];refine aa.ab ay fw [1,2,3,4,14,24,25,26] ?_;simp[Hy,w3,w4];refine aa.ab ay fw [1,2,3,4,14,15,16,24,25,26] ?_;simp[Hz,hq'];refine⟨⟨_,_,_,_,_,_,_,⟨⟨rfl,rfl,rfl⟩,⟨rfl,rfl,rfl⟩,rfl⟩,hs,N8⟩, ?_⟩;obtain⟨c1,bb⟩:∃c1:Bool,decide (zj cf co cn fr to os k)=c1:=⟨_,rfl⟩;refine aa.bY ay fw [(1,.v (ti fr)),(2,.v (ti to)),(3,.v (ti os)),(4,.v (.box [ti cf,ti co,ti cn])),(14,.ptr 2141 0),(24,.v (.sl [[ti 0],[ti d]])),(25,.v (ti 2)),(26,.v (ti y)),(56,.v (.bool c1))] ?_ ?_
  ·by_cases q1:qo=true
   ·by_cases q2:qf=fr
    ·have:c1=decide (qt=to):=by rw[<-bb];simp[hP,q1,q2]
     simp[MY,q1,q2,this]
    ·have:c1=false:=by rw[<-bb];simp[hP,q2]
     simp[MY,q1,q2,this]
   ·have q1:qo=false:=by simpa using q1
    have:c1=false:=by rw[<-bb];simp[hP,q1]
    simp[MY,q1,this]
  refine aa.cond rfl (λg2=>?_) (λg2=>?_)
  ·have g2:c1=true:=by simpa using g2
   rw[g2]at bb;have hp:=of_decide_eq_true bb;have hRk:R=⟨fr-k,to-k,true⟩:=by
    rw[<-hR]
    match y,g,hk,jU with
    |0,_,hk,_=>
     have:k=0:=by rw[<-hk];simp
     subst this;rw[if_pos hp];simp
    |1,_,hk,jU=>
     have:d=k:=by rw[<-hk];simp
     subst this;rw[if_neg (jU (by omega)),if_pos hp]
   subst hRk;refine aa.ab ay fw [8,9,10] ?_;simp[abA];refine aa.ret ?_;simp[xp,OR.enc]
  ·have g2:c1=false:=by simpa using g2
   rw[g2]at bb;have hp:=of_decide_eq_false bb;refine aa.skip ?_;simp;refine aa.dm ay fw [1,2,3,4,24,25,26] ?_;simp[abB];rw[au (x:=(y:Int)+1) (by omega)];refine⟨y+1,Le.aC ?_ ?_ ?_ ?_,⟨by omega,λ_=>?_,λh=>?_⟩,by omega⟩;iterate 4(·simp)
   ·match y,hk,jU with
    |0,hk,_=>
     have:k=0:=by rw[<-hk];simp
     subst this;exact hp
    |y+1,_,jU=>exact jU (by omega)
   ·have:d=k:=by rw[<-hk,if_neg (by omega)]
    subst this;exact hp
 ·have g:y=2:=by
   have:¬(y:Int)<2:=by simpa using g
   omega
  subst g;rw[if_neg (jU (by omega)),if_neg (fl (by omega))]at hR;subst hR;refine aa.exit ?_;simp;refine aa.ab ay fw [8,9,10] ?_;simp[SC];refine aa.ret ?_;simp[xp,OR.enc]
def y6(aD:List bn)(fr to a arg:Int)(m:Nat):Int:=(List.range m).foldl (λg i=>if(aD.getD i default).f=fr/\(aD.getD i default).t=to/\(aD.getD i default).term=a then(i:Int)else g) arg
theorem Cc(aD:List bn)(fr to a arg:Int)(m:Nat):y6 aD fr to a arg (m+1)=if(aD.getD m default).f=fr/\(aD.getD m default).t=to/\(aD.getD m default).term=a then(m:Int)else y6 aD fr to a arg m:=by
 unfold y6;rw[ZaE,Zat];rfl
def oe(n:aG)(l:aL)(c:Cell)(fr to d:Int):Cell:=
 if c.ez<0\/c.ez>=n.rules.length then c
 else if(n.rules.getD c.ez.toNat default).kind≠2 then⟨c.cost,c.size,c.ez,c.arg+d⟩
 else⟨c.cost,c.size,c.ez,y6 l.aD fr to (n.rules.getD c.ez.toNat default).a c.arg l.aD.length⟩
theorem t36(n:aG)(l:aL)(c:Cell)(fr to d:Int)(hn:n.rules.length<=1000000)(hl:l.aD.length<=1000000000)(hc:Jf d/\-1<=c.arg/\c.arg<=10000000000):aU Tryz.prog 36 [n.enc,l.enc,.agg c.enc,ti fr,ti to,ti d] (.agg (oe n l c fr to d).enc):=by
 obtain⟨R,hR⟩:∃R,oe n l c fr to d=R:=⟨_,rfl⟩;rw[hR];unfold oe at hR;obtain⟨nt,nn,ns,rules⟩:=n;obtain⟨ls,aD,fin⟩:=l;obtain⟨cc,cs,cr,cg⟩:=c;simp only at hR hn hl hc;have ay:aw Tryz.prog (aX []):=aw.nil;unfold Jf at hc;have w1:IntKind.i64.wrap (cg+d)=cg+d:=au (by omega);refine c36.ok (by simp) (aK ?_);simp[aG.enc,aL.enc,Cell.enc];refine aa.ab ay fw [3,4,5,6,7,8,12] ?_;simp[HA];refine aa.le (Le.aC (o:=[(1009,.box [.v (ti cc),.v (ti cs),.v (ti cr),.v (ti cg)]),(1013,.box [.v (ti 0),.v (ti 0),.v (ti 0),.v (ti 0)])]) (l:=[(3,.v (ti fr)),(4,.v (ti to)),(5,.v (ti d)),(6,.v (.box [ti nt,ti nn,ti ns,.sl (aR rules)])),(7,.v (.box [ti ls,.sl (ba aD),.sl (aB fin)])),(8,.ptr 1009 0),(12,.ptr 1013 0)]) (nxt':=1200) ?_ ?_ ?_ ?_) ?_;iterate 4(·simp)
 refine aa.seq ?_;obtain⟨c1,bb⟩:∃c1:Bool,decide (cr<0\/cr>=rules.length)=c1:=⟨_,rfl⟩;refine aa.bY ay fw [(3,.v (ti fr)),(4,.v (ti to)),(5,.v (ti d)),(6,.v (.box [ti nt,ti nn,ti ns,.sl (aR rules)])),(7,.v (.box [ti ls,.sl (ba aD),.sl (aB fin)])),(8,.ptr 1009 0),(12,.ptr 1013 0),(26,.v (.bool c1))] ?_ ?_
 ·by_cases q1:cr<0
  ·have:c1=true:=by rw[<-bb];simp[q1]
   simp[vD,q1,this]
  ·have:c1=decide ((rules.length:Int)<=cr):=by rw[<-bb];simp[q1]
   simp[vD,q1,this]
 refine aa.cond rfl (λg=>?_) (λg=>?_)
 ·have g:c1=true:=by simpa using g
  rw[g]at bb;rw[if_pos (of_decide_eq_true bb)]at hR;subst hR;refine aa.ab ay fw [12] ?_;simp[HB];refine aa.ret ?_;simp[rH]
 ·have g:c1=false:=by simpa using g
  rw[g]at bb;have bb:=of_decide_eq_false bb;rw[if_neg bb]at hR;obtain⟨k,rfl⟩:=Zad (a:=cr) (by omega);have hk:k<rules.length:=by omega
  have rk:=fT hk;simp only[Zak]at hR;obtain⟨⟨DN,rh,ra,rb,rp,ro⟩,hr⟩:∃r,rules.getD k default=r:=⟨_,rfl⟩;rw[hr]at rk hR;simp only[bD.enc]at rk;simp only at hR;refine aa.skip ?_;simp;refine aa.ab ay fw [3,4,5,6,7,8,12,13] ?_;simp[HC,hk,rk];refine aa.le (Le.aC (o:=[(1009,.box [.v (ti cc),.v (ti cs),.v (ti k),.v (ti cg)]),(1013,.box [.v (ti 0),.v (ti 0),.v (ti 0),.v (ti 0)])]) (l:=[(3,.v (ti fr)),(4,.v (ti to)),(5,.v (ti d)),(7,.v (.box [ti ls,.sl (ba aD),.sl (aB fin)])),(8,.ptr 1009 0),(12,.ptr 1013 0),(13,.v (.box [ti DN,ti rh,ti ra,ti rb,ti rp,ti ro]))]) (nxt':=1500) ?_ ?_ ?_ ?_) ?_;iterate 4(·simp)
  refine aa.seq ?_;refine aa.ab ay fw [3,4,5,7,8,12,13,36] ?_;simp[abC];refine aa.cond rfl (λg2=>?_) (λg2=>?_)
  ·have g2:DN≠2:=by simpa using g2
   rw[if_pos g2]at hR;subst hR;refine aa.ab ay fw [8,12] ?_;simp[abD,w1];refine aa.ab ay fw [12] ?_;simp[abE];refine aa.ret ?_;simp[rH]
  ·have g2:¬DN≠2:=by simpa using g2
   rw[if_neg g2]at hR;refine aa.skip ?_;simp;refine aa.seq ?_;refine aa.ab ay fw [3,4,8,12,13,44,45,46] ?_;simp[abF];refine aa.block ?_;refine aa.loop (λy:Nat=>⟨DM.look [(3,.v (ti fr)),(4,.v (ti to)),(8,.ptr 1009 0),(12,.ptr 1013 0),(13,.v (.box [ti DN,ti rh,ti ra,ti rb,ti rp,ti ro])),(44,.v (.sl (ba aD))),(45,.v (ti aD.length)),(46,.v (ti y))],cC [(1009,.box [.v (ti cc),.v (ti cs),.v (ti k),.v (ti (y6 aD fr to ra cg y))]),(1013,.box [.v (ti 0),.v (ti 0),.v (ti 0),.v (ti 0)])],2000,1000,[]⟩)
    (λy=>y<=aD.length) (λy=>aD.length-y) 0 (Le.aC ?_ ?_ ?_ ?_) (by omega) (λy hy=>?_)
   ·simp
   ·simp
   ·simp[y6]
   ·simp
   have hs:=Cc aD fr to ra cg y;obtain⟨G,hG⟩:∃G,y6 aD fr to ra cg y=G:=⟨_,rfl⟩;rw[hG]at hs⊢;refine aa.ab ay fw [3,4,8,12,13,44,45,46,47] ?_;simp[abG];refine aa.seq ?_;refine aa.cond rfl (λg=>?_) (λg=>?_)
   ·have g:y<aD.length:=by simpa using g
    have w2:IntKind.i64.wrap ((y:Int)+1)=((y+1:Nat):Int):=by rw[au (by omega)];omega
    have rw1:=kS g;obtain⟨⟨af,at',ae,ac,ak⟩,ha⟩:∃a,aD.getD y default=a:=⟨_,rfl⟩;rw[ha]at rw1 hs;simp only[bn.enc]at rw1;simp only at hs;refine aa.skip ?_;simp;refine aa.seq ?_;refine aa.block ?_;refine aa.ab ay fw [3,4,8,12,13,14,15,44,45,46] ?_;simp[abH,g,rw1];obtain⟨c2,dL⟩:∃c2:Bool,decide (af=fr/\at'=to/\ae=ra)=c2:=⟨_,rfl⟩;refine aa.bY ay fw [(3,.v (ti fr)),(4,.v (ti to)),(8,.ptr 1009 0),(12,.ptr 1013 0),(13,.v (.box [ti DN,ti rh,ti ra,ti rb,ti rp,ti ro])),(14,.v (ti y)),(44,.v (.sl (ba aD))),(45,.v (ti aD.length)),(46,.v (ti y)),(67,.v (.bool c2))] ?_ ?_
    ·by_cases q1:af=fr
     ·by_cases q2:at'=to
      ·have:c2=decide (ae=ra):=by rw[<-dL];simp[q1,q2]
       simp[ET,q1,q2,this]
      ·have:c2=false:=by rw[<-dL];simp[q2]
       simp[ET,q1,q2,this]
     ·have:c2=false:=by rw[<-dL];simp[q1]
      simp[ET,q1,this]
    refine aa.cond rfl (λg3=>?_) (λg3=>?_)
    ·have g3:c2=true:=by simpa using g3
     rw[g3]at dL;rw[if_pos (of_decide_eq_true dL)]at hs;refine aa.dm ay fw [3,4,8,12,13,44,45,46] ?_;simp[SD];refine aa.dm ay fw [3,4,8,12,13,44,45,46] ?_;simp[Kp,w2];refine⟨y+1,Le.aC ?_ ?_ ?_ ?_,by omega,by omega⟩
     ·simp
     ·simp
     ·simp[hs]
     ·simp
    ·have g3:c2=false:=by simpa using g3
     rw[g3]at dL;rw[if_neg (of_decide_eq_false dL)]at hs;refine aa.skip ?_;simp;refine aa.dm ay fw [3,4,8,12,13,44,45,46] ?_;simp[Kp,w2];refine⟨y+1,Le.aC ?_ ?_ ?_ ?_,by omega,by omega⟩
     ·simp
     ·simp
     ·simp[hs]
     ·simp
   ·have g:y=aD.length:=by
     have:¬y<aD.length:=by simpa using g
     omega
    subst g;rw[hG]at hR;subst hR;refine aa.exit ?_;simp;refine aa.ab ay fw [12] ?_;simp[SE];refine aa.ret ?_;simp[rH]
def qe(S a:Nat):List (Nat×Nat):=(List.range (S-a)).map λb=>(b,b+a)
def Cd(S:Nat):List (Nat×Nat):=(List.range S).flatMap (qe S)
def Yy(p:Nat×Nat):List T:=[ti p.1,ti p.2]
theorem Ce{n y:Nat}(h:y<n):(List.range n).drop y=y::(List.range n).drop (y+1):=by
 rw[ZbS (by simpa using h)];simp
theorem t53(S:Nat)(hS:S<=1000):ItOk Tryz.prog 53 [.box [ti S]] ((Cd S).map Yy):=by
 have ay:aw Tryz.prog (aX []):=aw.nil;obtain⟨rest,th⟩:∃rest:Nat->List (List T),∀y,rest y=(((List.range S).drop y).flatMap (qe S)).map Yy:=⟨_,λ_=>rfl⟩;obtain⟨row,lX⟩:∃row:Nat->Nat->List (List T),∀a y,row a y=(((List.range (S-a)).drop y).map λb=>(b,b+a)).map Yy:=⟨_,λ_ _=>rfl⟩;rw[show(Cd S).map Yy=rest 0 by rw[th];rfl];have GK:rest S=[]:=by rw[th,Zby (by simp)];rfl
 have hrend:∀a,row a (S-a)=[]:=λa=>by rw[lX,Zby (by simp)];rfl
 have rV:∀a,a<S->rest a=row a 0++rest (a+1):=λa h=>by
  rw[th,th,lX,Ce h,Zbo,ZaP];rfl
 have hrstep:∀a b,b<S-a->row a b=[ti b,ti (b+a:Nat)]::row a (b+1):=λa b h=>by
  rw[lX,lX,Ce h];rfl
 refine c53.okI (by simp) (OK ?_);simp;refine aa.ab ay fw [0,1,5,6] ?_;simp[Hl];refine aa.block ?_;refine aa.loop (λa:Nat=>⟨DM.look [(0,.CL),(1,.v (.box [ti S])),(5,.v (ti S)),(6,.v (ti a))],cC [],2000,0,rest a⟩)
  (λa=>a<=S) (λa=>S-a) 0 (Le.aC ?_ ?_ ?_ ?_) (by omega) (λa ha=>?_)
 iterate 4(·simp)
 refine aa.ab ay fw [0,1,5,6,7] ?_;simp[Hm];refine aa.seq ?_;refine aa.cond rfl (λg=>?_) (λg=>?_)
 ·have g:a<S:=by simpa using g
  have w1:IntKind.i64.wrap ((a:Int)+1)=((a+1:Nat):Int):=by rw[au (by omega)];omega
  refine aa.skip ?_;simp;refine aa.seq ?_;refine aa.block ?_;refine aa.ab ay fw [0,1,3,5,6] ?_;simp[Hn];refine aa.ab ay fw [0,1,3,4,5,6] ?_;simp[Ho];refine aa.block ?_;refine aa.loop (λb:Nat=>⟨DM.look [(0,.CL),(1,.v (.box [ti S])),(3,.v (ti a)),(4,.v (ti b)),(5,.v (ti S)),(6,.v (ti a))],cC [],3000,0,row a b++rest (a+1)⟩)
   (λb=>b<=S-a) (λb=>S-a-b) 0 ?_ (by omega) (λb hb=>?_)
  ·rw[rV a g];refine Le.aC ?_ ?_ ?_ ?_<;>simp
  have w3:IntKind.i64.wrap ((b:Int)+a)=((b+a:Nat):Int):=by rw[au (by omega)];omega
  refine aa.seq ?_;refine aa.ab ay fw [0,1,3,4,5,6,13] ?_;simp[Hp,w3];refine aa.cond rfl (λg2=>?_) (λg2=>?_)
  ·have g2:(b:Int)+a<S:=by simpa using g2
   have w2:IntKind.i64.wrap ((b:Int)+1)=((b+1:Nat):Int):=by rw[au (by omega)];omega
   rw[hrstep a b (by omega)];refine aa.skip ?_;simp;refine aa.seq ?_;refine aa.block ?_;refine aa.ab ay fw [0,1,3,4,5,6,22] ?_;simp[Hq,w3];refine⟨by funext r;rfl, ?_⟩;refine aa.cond rfl (λh=>by cases h) (λ_=>?_);refine aa.skip ?_;simp;refine aa.dm ay fw [0,1,3,4,5,6] ?_;simp[Hr,w2];refine⟨b+1,Le.aC ?_ ?_ ?_ ?_,by omega,by omega⟩<;>simp
  ·have g2:b=S-a:=by
    have:¬(b:Int)+a<S:=by simpa using g2
    omega
   subst g2;refine aa.exit ?_;simp;refine aa.dm ay fw [0,1,5,6] ?_;simp[Hs,w1,hrend];refine⟨a+1,Le.aC ?_ ?_ ?_ ?_,by omega,by omega⟩<;>simp
 ·have g:a=S:=by
   have:¬a<S:=by simpa using g
   omega
  subst g;refine aa.exit ?_;simp[finI,GK]
theorem t33(S:Nat):aU Tryz.prog 33 [ti S] (.fn (.func 53) [.box [ti S]]):=by
 have ay:aw Tryz.prog (aX []):=aw.nil;refine c33.ok (by simp) (aK ?_);simp;refine aa.ab ay fw [1] ?_;simp[Hj];refine aa.le (Le.aC (o:=[]) (l:=[(1,.v (.box [ti S]))]) (nxt':=1200) ?_ ?_ ?_ ?_) ?_;iterate 4(·simp)
 refine aa.ab ay fw [2] ?_;simp[Hk];refine aa.ret ?_;simp[Ba]
theorem t31(n s:Int)(h1:0<=n)(h2:n<=1000000)(h3:0<=s)(h4:s<=1000000):aU Tryz.prog 31 [ti n,ti s] (ti (dQ n s)):=by
 have k1:=cQ h1 h2 h3 h4;have k2:=cQ (b:=s+1) (B:=1000001) k1.1 k1.2 (by omega) (by omega);have w1:IntKind.i64.wrap (n*s)=n*s:=au (by omega);have w2:IntKind.i64.wrap (s+1)=s+1:=au (by omega);have w3:IntKind.i64.wrap (n*s*(s+1))=n*s*(s+1):=au (by omega);have w4:IntKind.i64.wrap ((n*s*(s+1)).tdiv 2)=n*s*(s+1)/2:=by rw[oK k2.1];exact au (by omega)
 refine c31.ok (by simp) (aK ?_);simp;refine aa.ab ej fw [0,1] ?_;simp[Hh];refine aa.ab ej fw [4] ?_;simp[Hi,w1,w2,w3,w4];refine aa.ret ?_;simp[A9,dQ]
def iY(n:aG)(l:aL)(L:List (Nat×Nat)):List Cell:=L.foldl (λB p=>ma B (jk n l ⟨n.an,l.aP,B⟩ p.1 p.2) (cK n.an l.aP p.1 p.2).toNat n.an.toNat) (List.replicate (dQ n.an l.aP).toNat ⟨0,0,0,0⟩)
def r8(cf co cn os:Int)(nn:Nat)(L:List (Nat×Nat)):Nat:=L.foldl (λw p=>w+if(cb cf co cn p.1 p.2 os).ok then 0 else nn) 0
theorem Jg(n:aG)(l:aL)(L:List (Nat×Nat))(p:Nat×Nat):iY n l (L++[p])=ma (iY n l L) (jk n l ⟨n.an,l.aP,iY n l L⟩ p.1 p.2) (cK n.an l.aP p.1 p.2).toNat n.an.toNat:=by
 unfold iY;rw[Zat];rfl
theorem Me(cf co cn os:Int)(nn:Nat)(L:List (Nat×Nat))(p:Nat×Nat):r8 cf co cn os nn (L++[p])=r8 cf co cn os nn L+if(cb cf co cn p.1 p.2 os).ok then 0 else nn:=by
 unfold r8;rw[Zat];rfl
theorem DS(B own:List Cell)(a:Nat)(h:a+own.length<=B.length):∀y,y<=own.length->ma B own a y=B.take a++(own.take y++B.drop (a+y))
 |0,_=>by simp[ma]
 |y+1,hy=>by
  rw[mn,DS B own a h y (by omega),cN (by omega),Zb5 _ _ (by rw[Zaw];omega),Zaw,Zb5 _ _ (by rw[Zaw];omega),Zaw,
   ZbS (i:=a+y) (by omega),show a+y-min a B.length-min y own.length=0 by omega]
  simp[Nat.add_assoc]
theorem Wh(cf co cn os:Int)(nn:Nat)(L:List (Nat×Nat)):r8 cf co cn os nn L<=nn*L.length:=by
 have key:∀(L:List (Nat×Nat)) (w:Nat),L.foldl (λw p=>w+if(cb cf co cn p.1 p.2 os).ok then 0 else nn) w<=w+nn*L.length:=by
  intro L;induction L with
  |nil=>intro w;simp
  |cons p L ih=>
   intro w;rw[ZaB,Zba,Nat.mul_succ];obtain⟨d,hd⟩:∃d,(if(cb cf co cn p.1 p.2 os).ok then 0 else nn)=d:=⟨_,rfl⟩;have hd2:d<=nn:=by rw[<-hd];split<;>omega
   rw[hd];have:=ih (w+d);omega
 have:=key L 0;unfold r8;omega
theorem Yz(S:Nat):(Cd S).length<=S*S:=by
 have:=wo (f:=qe S) (c:=S) (List.range S) (λa _=>by simp[qe])
 rwa [ZcE]at this
structure UpdOk(n:aG)(old:bW)(l:aL)(cf co cn:Int)(S:Nat):Prop where
 hn:oX n
 hl:vH l
 hS:l.aP=S
 old1:old.an=n.an
 old2:tA old
 arg:∀h f t:Int,-1<=(lH old h f t).arg/\(lH old h f t).arg<=10000000000
 hco:0<=co/\co<=1000
 hcn:0<=cn/\cn<=1000
 run:∀pre p rest,Cd S=pre++p::rest->p.1<=p.2/\p.2<S/\P2 ⟨n,l,⟨n.an,l.aP,iY n l pre⟩,p.1,p.2⟩
 mv:∀pre p rest,Cd S=pre++p::rest->(cb cf co cn p.1 p.2 old.aP).ok=true->∀y:Nat,(y:Int)<n.an->
  oe n l (lH old y (cb cf co cn p.1 p.2 old.aP).f (cb cf co cn p.1 p.2 old.aP).t) p.1 p.2 (p.1-(cb cf co cn p.1 p.2 old.aP).f)=(jk n l ⟨n.an,l.aP,iY n l pre⟩ p.1 p.2).getD y default
theorem Jh{cf co cn fr to os:Int}(h:(cb cf co cn fr to os).ok=true):(cb cf co cn fr to os).f=fr\/(cb cf co cn fr to os).f=fr-2*(cn-co):=by
 unfold cb at h⊢;split
 ·exact .inl rfl
 ·rename_i h1;rw[if_neg h1]at h;split
  ·exact .inr rfl
  ·rename_i h2;rw[if_neg h2]at h;cases h
abbrev s31:DM.Spec:=cy (λts=>∃n s:Int,ts=[ti n,ti s]/\0<=n/\n<=1000000/\0<=s/\s<=1000000) (fun|[.int _ n,.int _ s]=>ti (dQ n s)|_=>.bool false) true
theorem ok31{l:List (Nat×DM.Spec)}(h:aw Tryz.prog (aX l)):aw Tryz.prog (aX ((31,s31)::l)):=by
 refine aw.cons h ?_;rintro ts ⟨n,s,rfl,h1,h2,h3,h4⟩;exact⟨by simpa using t31 n s h1 h2 h3 h4,λ_=>rfl⟩
abbrev s32(x:Input)(l:aL):DM.Spec:=cy (λts=>ts=[x.enc]) (λ_=>l.enc) false
abbrev s33:DM.Spec:=cy (λts=>∃S:Nat,ts=[ti S]) (fun|[.int _ s]=>.fn (.func 53) [.box [ti s]]|_=>.bool false) false
theorem ok33{l:List (Nat×DM.Spec)}(h:aw Tryz.prog (aX l)):aw Tryz.prog (aX ((33,s33)::l)):=by
 refine aw.cons h ?_;rintro ts ⟨S,rfl⟩;exact⟨t33 S,λh=>by cases h⟩
abbrev s34:DM.Spec:=cy (λts=>∃cf co cn fr to os,ts=[.agg [ti cf,ti co,ti cn],ti fr,ti to,ti os]/\Jf co/\Jf cn/\Jf fr/\Jf to/\1<=os/\os<=10000)
 (fun|[.agg [.int _ cf,.int _ co,.int _ cn],.int _ fr,.int _ to,.int _ os]=>.eG [ti (cb cf co cn fr to os).f,ti (cb cf co cn fr to os).t,.bool (cb cf co cn fr to os).ok]|_=>.bool false) true
theorem ok34{l:List (Nat×DM.Spec)}(h:aw Tryz.prog (aX l)):aw Tryz.prog (aX ((34,s34)::l)):=by
 refine aw.cons h ?_;rintro ts ⟨cf,co,cn,fr,to,os,rfl,h1,h2,h3,h4,h5,h6⟩;exact⟨by simpa [OR.enc]using t34 cf co cn fr to os h1 h2 h3 h4 h5 h6,λ_=>rfl⟩
abbrev s35:DM.Spec:=yw (λts=>∃nt nn ns rules ls aD fin cn cs cl,∃fr to:Int,ts=[.agg [ti nt,ti nn,ti ns,.sl (aR rules)],.agg [ti ls,.sl (ba aD),.sl (aB fin)],.agg [ti cn,ti cs,.sl (aM cl)],ti fr,ti to]/\P2 ⟨⟨nt,nn,ns,rules⟩,⟨ls,aD,fin⟩,⟨cn,cs,cl⟩,fr,to⟩)
 (fun|[n,l,c,.int _ fr,.int _ to]=>aM (jk (nS n) (_root_.Go.Proofs.ud l) (pI c) fr to)|_=>[]) 57 4
theorem ok35{l:List (Nat×DM.Spec)}(h:aw Tryz.prog (aX l)):aw Tryz.prog (aX ((35,s35)::l)):=by
 refine aw.QZ h ?_;rintro ts ⟨nt,nn,ns,rules,ls,aD,fin,cn,cs,cl,fr,to,rfl,h1⟩;exact⟨by simpa [aG.enc,aL.enc,bW.enc]using t35 h1,vS _⟩
abbrev s36:DM.Spec:=cy (λts=>∃nt nn ns rules ls aD fin cc cs cr cg,∃fr to d:Int,ts=[.agg [ti nt,ti nn,ti ns,.sl (aR rules)],.agg [ti ls,.sl (ba aD),.sl (aB fin)],.agg [ti cc,ti cs,ti cr,ti cg],ti fr,ti to,ti d]/\rules.length<=1000000/\aD.length<=1000000000/\Jf d/\-1<=cg/\cg<=10000000000)
 (fun|[n,l,.agg [.int _ cc,.int _ cs,.int _ cr,.int _ cg],.int _ fr,.int _ to,.int _ d]=>.agg [ti (oe (nS n) (_root_.Go.Proofs.ud l) ⟨cc,cs,cr,cg⟩ fr to d).cost,ti (oe (nS n) (_root_.Go.Proofs.ud l) ⟨cc,cs,cr,cg⟩ fr to d).size,ti (oe (nS n) (_root_.Go.Proofs.ud l) ⟨cc,cs,cr,cg⟩ fr to d).ez,ti (oe (nS n) (_root_.Go.Proofs.ud l) ⟨cc,cs,cr,cg⟩ fr to d).arg]|_=>.bool false) true
theorem XY{l:List (Nat×DM.Spec)}(h:aw Tryz.prog (aX l)):aw Tryz.prog (aX ((36,s36)::l)):=by
 refine aw.cons h ?_;rintro ts ⟨nt,nn,ns,rules,ls,aD,fin,cc,cs,cr,cg,fr,to,d,rfl,h1,h2,h3,h4,h5⟩;exact⟨by simpa [aG.enc,aL.enc,Cell.enc]using t36 ⟨nt,nn,ns,rules⟩ ⟨ls,aD,fin⟩ ⟨cc,cs,cr,cg⟩ fr to d h1 h2 ⟨h3,h4,h5⟩,λ_=>rfl⟩
theorem okUp{x:Input}{l:aL}(h:aU Tryz.prog 32 [x.enc] l.enc):aw Tryz.prog (aX [(35,s35),(36,s36),(37,s37),(34,s34),(33,s33),(31,s31),(32,s32 x l)]):=by
 refine ok35 (XY (ok37 (ok34 (ok33 (ok31 (aw.cons aw.nil ?_))))));rintro ts rfl;exact⟨h,λh=>by cases h⟩
def NQ:List RO:=[
 l 15 146 [],
 l 14 147 [],
 n 18 148,
 n 18 149,
 a 1 4 150 [],
 l 150 151 [4],
 b .add 149 151 152 [3,5],
 o (.slice 4 (t 147) (some (t 148)) (some (t 152))) 153 [1,2,6],
 L 4 4 154 [],
 L 3 12 155 [],
 L 3 13 156 [],
 n 16 157,
 n 17 158,
 o (.callF 35 [(t 154),(t 155),(t 156),(t 157),(t 158)]) 159 [8,9,10,11,12],
 o (.copy 4 (t 153) (t 159)) 160 [7,13,13],
 b .add 146 160 161 [0,14],
 S 1 15 161 (k [15,14] 15)]
theorem t13(n:aG)(old:bW)(x:Input)(l:aL)(cf co cn:Int)(S:Nat)(U:UpdOk n old l cf co cn S)(hx:aU Tryz.prog 32 [x.enc] l.enc)(hk:x.aj.length<=1000)(hbr:¬TQ x.aj.length cf co cn)(hos:old.aP=2*(x.aj.length-cn)+1+2*co):
  aU Tryz.prog 13 [n.enc,old.enc,x.enc,.agg [ti cf,ti co,ti cn]] (.eG [.agg [ti n.an,ti S,.sl (aM (iY n l (Cd S)))],ti (r8 cf co cn old.aP n.an.toNat (Cd S)),ti 0]):=by
 have ay:=okUp hx;obtain⟨hn,hl,hS,o1,o2,harg,hco,hcn,bz,hmv⟩:=U;obtain⟨nt,nn,ns,rules⟩:=n;obtain⟨ls,aD,fin⟩:=l;obtain⟨on,os,oc⟩:=old;obtain⟨ct,ins,sw⟩:=x;simp only at hS hos hk hbr o1;subst hS o1;have PZ:1<=on:=hn.1;have O5:on<=1000:=hn.2.1;have lJ:=o2;obtain⟨_,_,c3,c4,c5⟩:=o2;simp only at c3 c4 c5;have wC:1<=(S:Int):=hl.1;have qj:(S:Int)<=1000:=hl.2.1;unfold TQ at hbr;simp only[not_or,Int.not_lt,gt_iff_lt]at hbr;obtain⟨b1,b2,b3,b4,b5⟩:=hbr;have w1:IntKind.i64.wrap ((ct.length:Int)-cn)=ct.length-cn:=au (by omega);have w2:IntKind.i64.wrap (os-1)=os-1:=au (by omega);have w3:IntKind.i64.wrap ((os-1).tdiv 2)=(os-1)/2:=by rw[oK (by omega)];exact au (by omega)
 have w4:os.tmod 2=1:=by rw[AD (by omega)];omega
 have w5:IntKind.i64.wrap ((os-1)/2-(ct.length-cn))=co:=by rw[au (by omega)];omega
 refine c13.ok (by simp) (aK ?_);simp[aG.enc,bW.enc,Input.enc];refine aa.ab ay fw [4,5,6,7,8,9,10] ?_;simp[Sl];refine aa.le (Le.aC (o:=[(1009,.box [.v (ti 0),.v (ti 0),.aH])]) (l:=[(4,.v (.box [ti nt,ti on,ti ns,.sl (aR rules)])),(5,.v (.box [ti on,ti os,.sl (aM oc)])),(6,.v (.box [.sl (aV ct),.sl (aB ins),ti sw])),(7,.v (.box [ti cf,ti co,ti cn])),(8,.ptr 1009 0)]) (nxt':=1200) ?_ ?_ ?_ ?_) ?_;iterate 4(·simp)
 refine aa.ab ay fw [4,5,6,7,8,11] ?_;simp[Sm];refine aa.seq ?_;refine aa.ab ay fw [4,5,6,7,8,11,53] ?_;simp[Sn,w1,show ¬cf<0 by omega,show ¬co<0 by omega,show ¬cn<0 by omega,show ¬(ct.length:Int)<cn by omega,show ¬(ct.length:Int)-cn<cf by omega];refine aa.cond rfl (λg=>by cases g) (λ_=>?_);refine aa.skip ?_;simp;refine aa.seq ?_;refine aa.ab ay fw [4,5,6,7,8,11,95] ?_;simp[Sp,w1,w2,w3,w4,w5,show ¬os<1 by omega,c5];refine⟨⟨_,_,⟨rfl,rfl⟩,by omega,by omega,by omega,by omega⟩, ?_⟩;refine aa.cond rfl (λg=>by cases g) (λ_=>?_);refine aa.skip ?_;simp;refine aa.ab ay fw [4,5,7,8,12] ?_;simp[abw,Input.enc,aL.enc];refine aa.le (Le.aC (o:=[(1009,.box [.v (ti 0),.v (ti 0),.aH])]) (l:=[(4,.v (.box [ti nt,ti on,ti ns,.sl (aR rules)])),(5,.v (.box [ti on,ti os,.sl (aM oc)])),(7,.v (.box [ti cf,ti co,ti cn])),(8,.ptr 1009 0),(12,.v (.box [ti S,.sl (ba aD),.sl (aB fin)]))]) (nxt':=2000) ?_ ?_ ?_ ?_) ?_;iterate 4(·simp)
 refine aa.ab ay fw [4,5,7,8,12,13] ?_;simp[abx];refine aa.le (Le.aC (o:=[(1009,.box [.v (ti 0),.v (ti 0),.aH]),(2014,.box [.v (ti on),.v (ti S),.aH])]) (l:=[(4,.v (.box [ti nt,ti on,ti ns,.sl (aR rules)])),(5,.v (.box [ti on,ti os,.sl (aM oc)])),(7,.v (.box [ti cf,ti co,ti cn])),(8,.ptr 1009 0),(12,.v (.box [ti S,.sl (ba aD),.sl (aB fin)])),(13,.ptr 2014 0)]) (nxt':=3000) ?_ ?_ ?_ ?_) ?_;iterate 4(·simp)
 have uD:0<=dQ on S/\dQ on S<=1000000000:=by
  have:=mo (nn:=on) (st:=S) (by omega);have hb:=(eD qj (S:Int).toNat (by omega));have:=cQ (a:=on) (A:=1000) (b:=pre S (S:Int).toNat) (B:=1000000) (by omega) (by omega) hb.1 (by omega);omega
 refine aa.ab ay fw [4,5,7,8,12,13,14] ?_;simp[aby,and_assoc,cH];repeat (refine⟨by omega, ?_⟩)
 refine aa.ab ay fw [4,5,7,8,12,13,14] ?_;simp[abz];refine aa.le (Le.aC (o:=[(1009,.box [.v (ti 0),.v (ti 0),.aH]),(2014,.box [.v (ti on),.v (ti S),.bk 3110 0]),(3015,.box [.bk 3110 0]),(3110,.arr 0 57 4 (aM (List.replicate (dQ on S).toNat ⟨0,0,0,0⟩)))]) (l:=[(4,.v (.box [ti nt,ti on,ti ns,.sl (aR rules)])),(5,.v (.box [ti on,ti os,.sl (aM oc)])),(7,.v (.box [ti cf,ti co,ti cn])),(8,.ptr 1009 0),(12,.v (.box [ti S,.sl (ba aD),.sl (aB fin)])),(13,.ptr 2014 0),(14,.ptr 3015 0)]) (nxt':=4000) ?_ ?_ ?_ ?_) ?_
 ·simp
 ·simp
 ·simp[aM,Cell.enc]
 ·simp
 refine aa.ab ay fw [4,5,7,8,12,13,14,15] ?_;simp[Sq];refine aa.le (Le.aC (o:=[(1009,.box [.v (ti 0),.v (ti 0),.aH]),(2014,.box [.v (ti on),.v (ti S),.bk 3110 0]),(3015,.box [.bk 3110 0]),(3110,.arr 0 57 4 (aM (List.replicate (dQ on S).toNat ⟨0,0,0,0⟩))),(4016,.box [.v (ti 0)])]) (l:=[(4,.v (.box [ti nt,ti on,ti ns,.sl (aR rules)])),(5,.v (.box [ti on,ti os,.sl (aM oc)])),(7,.v (.box [ti cf,ti co,ti cn])),(8,.ptr 1009 0),(12,.v (.box [ti S,.sl (ba aD),.sl (aB fin)])),(13,.ptr 2014 0),(14,.ptr 3015 0),(15,.ptr 4016 0)]) (nxt':=5000) ?_ ?_ ?_ ?_) ?_;iterate 4(·simp)
 refine aa.seq ?_;refine aa.ab ay fw [4,5,7,8,12,13,14,15,114] ?_;simp[Sr];refine⟨⟨S,rfl⟩, ?_⟩;refine aa.block ?_;have tM:∀(L rest:List (Nat×Nat)) (x:List T) (pre:List (List T)) (rest':List (List T)),(Cd S).map Yy=pre++x::rest'->∃(P:List (Nat×Nat)) (f t:Nat) (R:List (Nat×Nat)),Cd S=P++(f,t)::R/\pre=P.map Yy/\x=[ti f,ti t]:=by
  intro _ _ x pre rest' h;obtain⟨P,R',e1,e2,e3⟩:=List.map_eq_append_iff.1 h;obtain⟨⟨f,t⟩,R,e4,e5,e6⟩:=List.map_eq_cons_iff.1 e3;exact⟨P,f,t,R,by rw[e1,e4],e2.symm,e5.symm⟩
 refine aa.wV (t53 S (by omega)) (by simp) (by simp) ?_ (λpre=>cC [(1009,.box [.v (ti 0),.v (ti 0),.aH]),(2014,.box [.v (ti on),.v (ti S),.bk 3110 0]),(3015,.box [.bk 3110 0]),(3110,.arr 0 57 4 (aM (iY ⟨nt,on,ns,rules⟩ ⟨S,aD,fin⟩ ((Cd S).take pre.length)))),(4016,.box [.v (ti (r8 cf co cn os on.toNat ((Cd S).take pre.length)))])]) ?_ ?_ (λpre x rest hxx=>?_) ?_
 ·intro x hx;obtain⟨p,_,rfl⟩:=Zal.1 hx;rfl
 ·simp[iY,r8]
 ·intro pre r hr;simp only at hr;simp only[dq,lZ];repeat rw[if_neg (by omega)]
 ·obtain⟨P,f,t,R,hP,rfl,rfl⟩:=tM [] [] x pre rest hxx;have tk1:(Cd S).take (P.map Yy).length=P:=by rw[hP];simp
  have tk2:(Cd S).take (P.map Yy++[[ti f,ti t]]).length=P++[(f,t)]:=by rw[hP,show P++(f,t)::R=(P++[(f,t)])++R by simp];exact Zco (by simp)
  rw[tk2,Jg,Me];simp only[tk1];obtain⟨qb,htS,hR⟩:=bz P (f,t) R hP;have Ji:=hmv P (f,t) R hP;simp only at qb htS hR Ji;have bd:Cy ⟨on,S,iY ⟨nt,on,ns,rules⟩ ⟨S,aD,fin⟩ P⟩:=hR.C.hc;have hlen:=hR.cf.2.2.2.2;simp only at hlen;obtain⟨B,hB⟩:∃B,iY ⟨nt,on,ns,rules⟩ ⟨S,aD,fin⟩ P=B:=⟨_,rfl⟩;rw[hB]at hR Ji bd hlen⊢;obtain⟨w0,hw0⟩:∃w,r8 cf co cn os on.toNat P=w:=⟨_,rfl⟩;rw[hw0];have XN:=vN hn hl bd qb (by omega);obtain⟨own,eX⟩:∃q,jk ⟨nt,on,ns,rules⟩ ⟨S,aD,fin⟩ ⟨on,S,B⟩ f t=q:=⟨_,rfl⟩;rw[eX]at XN Ji⊢;have hol:(own.length:Int)=on:=XN.1;have Ni:=j6 (n:=on) (st:=S) (f:=f) (t:=t) (by omega) O5 qj (by omega) (by omega) qb;have hix:=λ(i:Int) (hi:i<on)=>vO (nn:=on) (st:=S) (f:=f) (t:=t) (by omega) (by omega) qb hi;have hmul:=cQ (a:=(f:Int)) (A:=1000) (b:=S) (B:=1000) (by omega) (by omega) (by omega) qj;have hc64:=BH (S:Int) f;have PU:=eD qj f (by omega);have hff:(f:Int)*((f:Int)-1)=(f:Int)*f-f:=by grind
  have kz:=cQ (a:=(f:Int)) (A:=1000) (b:=(f:Int)) (B:=1000) (by omega) (by omega) (by omega) (by omega);have hffb:0<=(f:Int)*((f:Int)-1)/\(f:Int)*((f:Int)-1)<=1000000:=by
   refine⟨?_,by omega⟩;cases f with
   |zero=>simp
   |succ f=>exact Zch (by omega) (by omega)
  have hq:((f:Int)*((f:Int)-1)).tdiv 2=(f:Int)*((f:Int)-1)/2:=oK hffb.1;obtain⟨Q,hQ⟩:∃Q,pre (S:Int) f=Q:=⟨_,rfl⟩;rw[hQ]at hc64 PU;have b9:=cQ (a:=Q+t-f) (A:=2000000) (b:=on) (B:=1000) (by omega) (by omega) (by omega) O5;obtain⟨mm,dH⟩:∃q,cK on S f t=q:=⟨_,rfl⟩;have m1:IntKind.i64.wrap ((f:Int)*S)=(f:Int)*S:=au (by omega);have m2:IntKind.i64.wrap ((f:Int)-1)=(f:Int)-1:=au (by omega);have m3:IntKind.i64.wrap ((f:Int)*((f:Int)-1))=(f:Int)*((f:Int)-1):=au (by omega);have m4:IntKind.i64.wrap (((f:Int)*((f:Int)-1)).tdiv 2)=((f:Int)*((f:Int)-1)).tdiv 2:=by rw[hq];exact au (by omega)
  have m5:IntKind.i64.wrap ((f:Int)*S-((f:Int)*((f:Int)-1)).tdiv 2)=Q:=by rw[hc64];exact au (by omega)
  have m6:IntKind.i64.wrap (Q+t)=Q+t:=au (by omega);have m7:IntKind.i64.wrap (Q+t-f)=Q+t-f:=au (by omega);have m8:IntKind.i64.wrap ((Q+t-f)*on)=mm:=by rw[<-dH];unfold cK;rw[hQ];exact au (by omega)
  rw[dH]at Ni hix⊢;obtain⟨mm,rfl⟩:=Zad Ni.1;obtain⟨⟨of,ot,oo⟩,ho⟩:∃o,cb cf co cn f t os=o:=⟨_,rfl⟩;have hof:=Jh (cf:=cf) (co:=co) (cn:=cn) (fr:=f) (to:=t) (os:=os);rw[ho]at Ji hof⊢;simp only at Ji hof⊢;simp only[AN];refine aa.ab ay fw [4,5,7,8,12,13,14,15,16,116] ?_;simp[Ss];refine aa.dm ay fw [4,5,7,8,12,13,14,15,16,17] ?_;simp[St];refine aa.block ?_;refine aa.ab ay fw [4,5,7,8,12,13,14,15,16,17,18] ?_;simp[Su,m1,m2,m3,m4,m5,m6,m7,m8];refine aa.ab ay fw [4,5,7,8,12,13,14,15,16,17,18,19,20,21] ?_;simp[Sv,ho];refine⟨⟨_,_,_,_,_,_,⟨⟨rfl,rfl,rfl⟩,rfl,rfl,rfl⟩,by unfold Jf;omega,by unfold Jf;omega,by unfold Jf;omega,by unfold Jf;omega,by omega,by omega⟩, ?_⟩;refine aa.seq ?_;refine aa.ab ay fw [4,5,7,8,12,13,14,15,16,17,18,19,20,145] ?_;simp[Sw];refine aa.cond rfl (λg=>?_) (λg=>?_)
  ·have g:oo=false:=by simpa using g
   subst g;have rR:∃nt' nn' ns' Ly ls' Vy fin' cn' qL cl',∃fr' to':Int,[T.agg [ti nt,ti on,ti ns,.sl (aR rules)],.agg [ti S,.sl (ba aD),.sl (aB fin)],.agg [ti on,ti S,.sl (aM B)],ti f,ti t]=[.agg [ti nt',ti nn',ti ns',.sl (aR Ly)],.agg [ti ls',.sl (ba Vy),.sl (aB fin')],.agg [ti cn',ti qL,.sl (aM cl')],ti fr',ti to']/\P2 ⟨⟨nt',nn',ns',Ly⟩,⟨ls',Vy,fin'⟩,⟨cn',qL,cl'⟩,fr',to'⟩:=⟨_,_,_,_,_,_,_,_,_,_,_,_,rfl,hR⟩;have m9:IntKind.i64.wrap ((mm:Int)+on)=mm+on:=au (by omega);refine aa.iG ay fw (rs:=fm NQ [some [4016],some [3015],none,none,none,some [],none,some [3110],some [],some [],some [2014],none,none,some [3110],some [3110,6300],none,some [4016]]) (.inl rfl) (by kernel_rfl) [] ?_;simp[NQ,fm,b8,bm,names,bJ,m9,eX];have e1:((mm:Int)+on).toNat-mm=own.length:=by omega
   have e2:on.toNat=own.length:=by omega
   have e3:max on 0=own.length:=by omega
   have hlast:=hix (on-1) (by omega);have qN:mm+own.length<=B.length:=by omega
   have nM:=DS B own mm qN own.length (Zae _);rw[Zbn]at nM;have w9:IntKind.i64.wrap ((w0:Int)+own.length)=w0+own.length:=by
    have h1:=Wh cf co cn os on.toNat P;rw[hw0]at h1;have h2:=Yz S;have h3:P.length<=(Cd S).length:=by rw[hP];simp
    have h4:S*S<=1000*1000:=Zb6 (by omega) (by omega);have h5:on.toNat*P.length<=1000*1000000:=Zb6 (by omega) (by omega);exact au (by omega)
   refine⟨⟨by omega,by omega⟩,⟨_,_,_,_,_,_,_,_,_,_,_,_,⟨⟨rfl,rfl,rfl,rfl⟩,⟨rfl,rfl,rfl⟩,⟨rfl,rfl,rfl⟩,rfl,rfl⟩,hR⟩,λr hr=>?_, ?_⟩
   ·obtain⟨c,_,rfl⟩:=Zal.1 hr;rfl
   refine aa.exit ?_;simp only[yr,tP,if_true];refine⟨trivial, ?_⟩;simp only[<-vo,e1,Nat.min_self,w9];refine Le.zy ?_ ?_ ?_ ?_
   ·simp[];omega
   ·simp
   ·simp[e2,e3,nM,aM];exact Za3 (by simp)
   ·simp
  ·have g:oo=true:=by simpa using g
   subst g;have Ji:=Ji rfl;have hof:=hof rfl;refine aa.skip ?_;simp;refine aa.ab ay fw [4,5,7,8,12,13,14,15,16,17,18,19,20,163,164] ?_;simp[Sx];refine aa.block ?_;refine aa.loop (λy:Nat=>⟨DM.look [(4,.v (.box [ti nt,ti on,ti ns,.sl (aR rules)])),(5,.v (.box [ti on,ti os,.sl (aM oc)])),(7,.v (.box [ti cf,ti co,ti cn])),(8,.ptr 1009 0),(12,.v (.box [ti S,.sl (ba aD),.sl (aB fin)])),(13,.ptr 2014 0),(14,.ptr 3015 0),(15,.ptr 4016 0),(16,.v (ti f)),(17,.v (ti t)),(18,.v (ti mm)),(19,.v (ti of)),(20,.v (ti ot)),(163,.v (ti on)),(164,.v (ti y))],
     cC [(1009,.box [.v (ti 0),.v (ti 0),.aH]),(2014,.box [.v (ti on),.v (ti S),.bk 3110 0]),(3015,.box [.bk 3110 0]),(3110,.arr 0 57 4 (aM (ma B own mm y))),(4016,.box [.v (ti w0)])],7000,5190,[]⟩)
    (λy=>(y:Int)<=on) (λy=>on.toNat-y) 0 (Le.zy ?_ ?_ ?_ ?_) (by omega) (λy hy=>?_)
   ·simp
   ·simp
   ·simp[ma]
   ·simp
   refine aa.ab ay fw [4,5,7,8,12,13,14,15,16,17,18,19,20,163,164,165] ?_;simp[Sy];refine aa.seq ?_;refine aa.cond rfl (λg=>?_) (λg=>?_)
   ·have g:(y:Int)<on:=by simpa using g
    have n1:IntKind.i64.wrap ((mm:Int)+y)=((mm+y:Nat):Int):=by rw[au (by omega)];omega
    have n2:IntKind.i64.wrap ((f:Int)-of)=f-of:=au (by omega);have n3:IntKind.i64.wrap ((y:Int)+1)=((y+1:Nat):Int):=by rw[au (by omega)];omega
    have hv:=Ji y g;have ha:=harg y of ot;obtain⟨⟨xc,xs,xr,xg⟩,qU⟩:∃c,lH ⟨on,os,oc⟩ y of ot=c:=⟨_,rfl⟩;rw[qU]at hv ha;obtain⟨⟨vc,vs,vr,vg⟩,jl⟩:∃c,own.getD y default=c:=⟨_,rfl⟩;rw[jl]at hv;simp only at ha;have cW:=hix y g;have Fe:mm+y<(ma B own mm y).length:=by rw[vM];omega
    have rz:=fU (l:=ma B own mm y) (y:=mm+y) Fe;rw[show((mm+y:Nat):Int)=(mm:Int)+y by omega]at rz;have e9:((mm:Int)+y).toNat=mm+y:=by omega
    refine aa.skip ?_;simp;refine aa.seq ?_;refine aa.block ?_;refine aa.ab ay fw [4,5,7,8,12,13,14,15,16,17,18,19,20,22,163,164] ?_;simp[Sz];refine aa.dm ay fw [4,5,7,8,12,13,14,15,16,17,18,19,20,163,164] ?_;simp[SA,n1,n2,qU,hv,rz,e9];refine⟨⟨_,_,_,⟨rfl,rfl,rfl⟩,lJ⟩,⟨_,_,_,_,_,_,_,_,_,_,_,_,_,_,⟨⟨rfl,rfl,rfl,rfl⟩,⟨rfl,rfl,rfl⟩,⟨rfl,rfl,rfl,rfl⟩,rfl,rfl,rfl⟩,by have:=hn.2.2.1;simp only at this;omega,by have:=hl.2.2.1;simp only at this;omega,by unfold Jf;omega,ha.1,ha.2⟩,⟨by omega,by rw[vM]at Fe;omega⟩, ?_⟩;refine aa.dm ay fw [4,5,7,8,12,13,14,15,16,17,18,19,20,163,164] ?_;simp[SB,n3];refine⟨y+1,Le.zy ?_ ?_ ?_ ?_,by omega,by omega⟩
    ·simp
    ·simp
    ·simp[mn,pN,-List.getD_eq_getElem?_getD,jl,Cell.enc]
    ·simp
   ·have g:y=on.toNat:=by
     have:¬(y:Int)<on:=by simpa using g
     omega
    subst g;refine aa.exit ?_;simp only[yr,tP,if_true];simp;simp only[<-vo];refine Le.zy ?_ ?_ ?_ ?_;iterate 3(·simp)
    ·simp
 ·have tk:(Cd S).take ((Cd S).map Yy).length=Cd S:=by simp
  simp only[tk,tP,yr];refine aa.iG ay fw (rs:=fm Kn [some [2014],some [4016],some [1009,3110],none,none]) (.inl rfl) (by kernel_rfl) [8,9,10] ?_;simp[Kn,fm,b8,bm,names,bJ];refine aa.ret ?_;simp[Ko]
theorem Cf{α β:Type}(g:α->List β):∀(l:List α) (pre:List β) (x:β) (rest:List β),l.flatMap g=pre++x::rest->∃l1 a l2 p q,l=l1++a::l2/\g a=p++x::q/\pre=l1.flatMap g++p
 |[],pre,x,rest,h=>by simp at h
 |b::l,pre,x,rest,h=>by
  rw[Zbo]at h;have next:∀a',l.flatMap g=a'++x::rest->pre=g b++a'->∃l1 a l2 p q,b::l=l1++a::l2/\g a=p++x::q/\pre=l1.flatMap g++p:=by
   intro a' h2 h3;obtain⟨l1,a,l2,p,q,e1,e2,e3⟩:=Cf g l a' x rest h2;exact⟨b::l1,a,l2,p,q,by rw[e1];rfl,e2,by rw[h3,e3,Zbo,List.append_assoc]⟩
  rcases List.append_eq_append_iff.1 h with⟨a',h1,h2⟩|⟨c',h1,h2⟩
  ·exact next a' h2 h1
  ·cases c' with
   |nil=>exact next [] (by simpa using h2.symm) (by simpa using h1.symm)
   |cons y c'=>
    simp only[ZaH,Za6]at h2;obtain⟨rfl,h2⟩:=h2;exact⟨[],b,l,pre,c',rfl,h1,rfl⟩
theorem range_split{n:Nat}{l1 l2:List Nat}{a:Nat}(h:List.range n=l1++a::l2):l1=List.range a/\a<n:=by
 have hl:=congrArg List.length h;simp only[ZcE,ZaA,Zba]at hl;have h1:(List.range n)[l1.length]? =some a:=by rw[h];simp
 rw[List.getElem?_range (by omega)]at h1;have ea:l1.length=a:=by simpa using h1
 have h2:(List.range n).take l1.length=l1:=by rw[h];simp
 rw[List.take_range,ea,ZcO (by omega)]at h2;exact⟨h2.symm,by omega⟩
theorem PG{S:Nat}{pre rest:List (Nat×Nat)}{p:Nat×Nat}(h:Cd S=pre++p::rest):
  ∃len f,p=(f,f+len)/\f+len<S/\pre=(List.range len).flatMap (qe S)++(List.range f).map λb=>(b,b+len):=by
 obtain⟨l1,a,l2,q,r,e1,e2,e3⟩:=Cf (qe S) _ _ _ _ h;obtain⟨rfl,ha⟩:=range_split e1;unfold qe at e2;obtain⟨l1',l2',e4,e5,e6⟩:=List.map_eq_append_iff.1 e2;obtain⟨b,l3,rfl,rfl,e7⟩:=List.map_eq_cons_iff.1 e6;obtain⟨rfl,hb⟩:=range_split e4;exact⟨a,b,rfl,by omega,by rw[e3,<-e5]⟩
theorem DT{n:aG}{l:aL}{S:Nat}(a:Nat)(B:List Cell)(k:Nat):((List.range k).map λb=>(b,b+a)).foldl (λB (p:Nat×Nat)=>ma B (jk n l ⟨n.an,l.aP,B⟩ p.1 p.2) (cK n.an l.aP p.1 p.2).toNat n.an.toNat) B=(List.range k).foldl (rN n l a) B:=by
 rw[Zb4]
 congr 1
theorem DU{n:aG}{l:aL}{S:Nat}(hS:l.aP=S)(len f:Nat):iY n l ((List.range len).flatMap (qe S)++(List.range f).map λb=>(b,b+len))=
  (List.range f).foldl (rN n l len) ((List.range len).foldl (H9 n l) (List.replicate (dQ n.an l.aP).toNat ⟨0,0,0,0⟩)):=by
 unfold iY;rw[Zat,DT (S:=S),List.foldl_flatMap]
 congr 2
 funext B a;unfold qe H9;rw[DT (S:=S),hS,Zak]
theorem Mf{n:aG}{l:aL}{S:Nat}(hS:l.aP=S):iY n l (Cd S)=jn n l:=by
 have:=DU (n:=n) hS S 0;simp only[List.range_zero,ZbX,ZaJ,ZbU]at this;rw[show Cd S=(List.range S).flatMap (qe S)from rfl,this];unfold jn;rw[hS,Zak]
theorem Wi{n:aG}{l:aL}{S:Nat}(hn:oX n)(hl:vH l)(hS:l.aP=S)(ha:∀a∈l.aD,a.f<=a.t)(hs:I0 l){pre rest:List (Nat×Nat)}{p:Nat×Nat}(h:Cd S=pre++p::rest):
  p.1<=p.2/\p.2<S/\P2 ⟨n,l,⟨n.an,l.aP,iY n l pre⟩,p.1,p.2⟩/\fK n l (iY n l pre):=by
 obtain⟨len,f,rfl,cW,rfl⟩:=PG h;rw[DU hS];have h3:=hl.1;have h4:=hl.2.1;have hr:=vI hn hl len (by omega);have hc:=vP hn hl hr f (len:=len) (by omega);have hd:=Bv hn hl ha hr (Dp hn hl ha len (by omega)) f (by omega);refine⟨by simp only;omega,cW,⟨⟨hn,hl,hc.ok hn hl,ha, ?_, ?_, ?_⟩,⟨hn,hl,hc.ok hn hl, ?_⟩,⟨hn.1,hn.2.1,h3,h4,hc.1⟩,hs⟩,hc⟩
 ·simp only[Zak];omega
 ·simp only[Zak];omega
 ·simp only[Zak];exact λh s' t' a1 a2 a3 a4 a5 a6=>hd h s' t' a1 a2 a4 (by omega) (by omega)
 ·simp only;omega
structure YA(x x':Input)(fr od nw:Nat):Prop where
 le:fr+od<=x.aj.length
 len:x'.aj.length+od=x.aj.length+nw
 w1:OZ x x' 0 0 fr
 w2:OZ x x' (fr+od) (fr+nw) (x.aj.length-(fr+od))
theorem YA.of{x:Input}{fr od:Nat}{new:List bC}(h1:fr<=x.aj.length)(h2:od<=x.aj.length-fr):YA x (cz x fr od new) fr od new.length:=
 ⟨by omega,by rw[xC h1 h2];omega,KW h1 h2,Ig h1 h2⟩
theorem PH{n:aG}{x x':Input}{fr od nw:Nat}(C:YA x x' fr od nw){hd f' t' f t:Int}(hn:oX n)(hx:ku x)(gb:ku x')(h0:0<=hd)(h3:hd<n.an)
  (hk:fV 0 f' t' fr od nw (2*x.aj.length+1)=⟨0,f,t,true⟩):0<=f'/\f'<=t'/\t'<2*x.aj.length+1/\
  (lH (cD n (aI x)) hd f' t').val=(lH (cD n (aI x')) hd f t).val/\(lH (cD n (aI x)) hd f' t').ez=(lH (cD n (aI x')) hd f t).ez/\
   (∀(k0:Nat) r,n.rules[k0]? =some r->(lH (cD n (aI x)) hd f' t').ez=k0->r.kind≠2->(lH (cD n (aI x')) hd f t).arg=(lH (cD n (aI x)) hd f' t').arg+(f-f')):=by
 have hle:=C.le;have hlen:=C.len;unfold fV at hk;split at hk
 ·cases hk
 ·rename_i hb;unfold nz at hb;obtain⟨F,rfl⟩:=Zad (a:=f') (by omega);obtain⟨T',rfl⟩:=Zad (a:=t') (by omega);refine⟨by omega,by omega,by omega, ?_⟩;split at hk
  ·rename_i he;simp only[KR.mk.injEq,and_true,true_and]at hk;obtain⟨rfl,rfl⟩:=hk;unfold Cv at he;have hr:reach x x' 0 0 fr T':=by
    unfold reach;split at he
    ·left;omega
    ·right;left;omega
   obtain⟨k',e,r1,r2,r3⟩:=Dq hn hx gb C.w1 (hd:=hd) (s:=F) (t:=T') h0 h3 (by omega) (by omega) (by split at he<;>omega) hr
   rw[show F+2*0-2*0=F by omega]at r1 r2 r3;rw[show T'+2*0-2*0=T' by omega]at e;subst e;exact⟨r1,r2,λk0 r h1 h2 h4=>by have:=r3 k0 r h1 h2 h4;omega⟩
  ·split at hk
   ·rename_i he hf;simp only[KR.mk.injEq,and_true,true_and]at hk;obtain⟨h5,h6⟩:=hk;have hr:reach x x' (fr+od) (fr+nw) (x.aj.length-(fr+od)) T':=by
     unfold reach;right;right;omega
    obtain⟨k',e,r1,r2,r3⟩:=Dq hn hx gb C.w2 (hd:=hd) (s:=F) (t:=T') h0 h3 (by omega) (by omega) (by omega) hr;have e1:((F+2*(fr+nw)-2*(fr+od):Nat):Int)=f:=by omega
    have e2:(k':Int)=t:=by omega
    rw[e1,e2]at r1 r2 r3;exact⟨r1,r2,λk0 r h1 h2 h4=>by have:=r3 k0 r h1 h2 h4;omega⟩
   ·cases hk
theorem before_trans{a b c:bn}(h1:before a b)(h2:before b c):before a c:=by
 unfold before at*
 omega
theorem pU{l:aL}{aW:Int}(h:qG l aW):∀i j:Nat,i<j->j<l.aD.length->before (l.aD.getD i default) (l.aD.getD j default):=by
 intro i j Ww;induction j with
 |zero=>omega
 |succ j ih=>
  intro hj;have h1:=(h.2.2 (j+1) hj).2.resolve_left (by omega);rw[show j+1-1=j by omega]at h1;by_cases e:i=j
  ·rw[e];exact h1
  ·exact before_trans (ih (by omega) (by omega)) h1
theorem DW{l:aL}{aW:Int}(h:qG l aW):I0 l:=by
 intro i j Ww hj;by_cases e:i=j
 ·subst e;right;exact⟨rfl,Zcx _⟩
 ·have:=pU h i j (by omega) hj;unfold before at this;omega
theorem PJ{l:aL}{aW:Int}(h:qG l aW){fr to e g:Int}{a:Nat}(ha:a<l.aD.length)(h1:(l.aD.getD a default).f=fr/\(l.aD.getD a default).t=to/\(l.aD.getD a default).term=e):
  ∀m,m<=l.aD.length->y6 l.aD fr to e g m=if a<m then(a:Int)else g:=by
 intro m;induction m with
 |zero=>intro _;rfl
 |succ m ih=>
  intro hm;rw[Cc];by_cases e1:m=a
  ·subst e1;rw[if_pos h1,if_pos (by omega)]
  ·rw[if_neg,ih (by omega)]
   ·by_cases e2:a<m
    ·rw[if_pos e2,if_pos (by omega)]
    ·rw[if_neg e2,if_neg (by omega)]
   ·rintro⟨h2,h3,h4⟩;rcases Zbz m a with h5|h5
    ·have:=pU h m a h5 ha;unfold before at this;omega
    ·have:=pU h a m (by omega) (by omega);unfold before at this;omega
theorem YB{n:aG}{l:aL}{h:Int}{s t k:Nat}{g:Int}{v:br}(d:eQ n l h s t k g v):∃r,n.rules[k]? =some r:=by
 cases d<;>exact⟨_,by assumption⟩
theorem Wj{n:aG}{l:aL}{h:Int}{s t k:Nat}{g:Int}{v:br}(d:eQ n l h s t k g v){r:bD}(hr:n.rules[k]? =some r)(h2:r.kind=2):∃a:Nat,g=a/\a<l.aD.length/\(l.aD.getD a default).f=s/\(l.aD.getD a default).t=t/\(l.aD.getD a default).term=r.a:=by
 cases d with
 |term hk h1 ha h3 h4 h5 hv=>
  rw[hr]at hk;cases hk;obtain⟨cW,he⟩:=Zas.1 ha;refine⟨_,rfl,cW, ?_, ?_, ?_⟩<;>simp[List.getD,ha,h3,h4,h5]
 |empty hk h1 hv=>rw[hr]at hk;cases hk;omega
 |unary hk h1 d hv=>rw[hr]at hk;cases hk;omega
 |binary hk h1 hs ht d1 d2 hv=>rw[hr]at hk;cases hk;omega
theorem Mg{n:aG}{x x':Input}{fr od nw:Nat}(C:YA x x' fr od nw){hd f' t':Int}{f t:Nat}(hn:oX n)(hx:ku x)(gb:ku x'){aW:Int}(hv:qG (aI x') aW)(h0:0<=hd)(h3:hd<n.an)(qb:f<=t)(ht:(t:Int)<(aI x').aP)
  (hk:fV 0 f' t' fr od nw (2*x.aj.length+1)=⟨0,f,t,true⟩):oe n (aI x') (lH (cD n (aI x)) hd f' t') f t (f-f')=lH (cD n (aI x')) hd f t:=by
 obtain⟨k1,k2,k3,r1,r2,r3⟩:=PH C hn hx gb h0 h3 hk;obtain⟨F,rfl⟩:=Zad k1;obtain⟨T',rfl⟩:=Zad (a:=t') (by omega);have Ke:(aI x).aP=2*x.aj.length+1:=rfl;have g1:=kR hn (pJ hx) (nU hx) h0 h3 (s:=F) (t:=T') (by omega) (by omega);have g2:=kR hn (pJ gb) (nU gb) h0 h3 qb ht;obtain⟨old,ho⟩:∃c,lH (cD n (aI x)) hd F T'=c:=⟨_,rfl⟩;obtain⟨new,hw⟩:∃c,lH (cD n (aI x')) hd f t=c:=⟨_,rfl⟩;rw[ho]at r1 r2 r3 g1⊢;rw[hw]at r1 r2 r3 g2⊢;have C6:old.cost=new.cost/\old.size=new.size:=by
  have h:=r1;simp only[Cell.val,br.mk.injEq]at h;exact h
 unfold oe;rcases g2.top with e2|⟨⟨k,ek,d⟩,_⟩
 ·have hr:old.ez= -1:=by rw[r2,e2];rfl
  rw[if_pos (by omega)];rcases g1.top with e1|⟨⟨k',ek',_⟩,_⟩
  ·rw[e1,e2]
  ·omega
 ·obtain⟨r,hr⟩:=YB d;obtain⟨cW,_⟩:=Zas.1 hr;have jV:old.ez=k:=by rw[r2,ek]
  rw[if_neg (by omega)];have hg:n.rules.getD old.ez.toNat default=r:=by rw[jV];simp[List.getD,hr]
  rw[hg];by_cases h2:r.kind=2
  ·rw[if_neg (by omega)];obtain⟨a,ea,ha,h4⟩:=Wj d hr h2;rw[PJ hv ha h4 _ (Zae _),if_pos ha];refine Cell.ext' ?_ ?_ ?_
   ·simp only[Cell.val];rw[C6.1,C6.2]
   ·simp only;exact r2
   ·simp only;exact ea.symm
  ·rw[if_pos h2];have:=r3 k r hr jV h2;refine Cell.ext' ?_ ?_ ?_
   ·simp only[Cell.val];rw[C6.1,C6.2]
   ·simp only;exact r2
   ·simp only;exact this.symm
theorem YC(f t cf co cn st:Int):(fV 0 f t cf co cn st).h=0:=by
 unfold fV;split
 ·rfl
 ·split
  ·rfl
  ·split<;>rfl
theorem DX{cf co cn fr to os k:Int}(h:zj cf co cn fr to os k):fV 0 (fr-k) (to-k) cf co cn os=⟨0,fr,to,true⟩:=by
 obtain⟨h1,h2,h3⟩:=h;unfold Md at h1 h2 h3;have h4:=YC (fr-k) (to-k) cf co cn os;obtain⟨q,hq⟩:∃q,fV 0 (fr-k) (to-k) cf co cn os=q:=⟨_,rfl⟩;rw[hq]at h1 h2 h3 h4⊢;obtain⟨a,b,c,d⟩:=q;simp only at h1 h2 h3 h4;subst h1 h2 h3 h4;rfl
theorem y7{cf co cn fr to os:Int}(h:(cb cf co cn fr to os).ok=true):fV 0 (cb cf co cn fr to os).f (cb cf co cn fr to os).t cf co cn os=⟨0,fr,to,true⟩:=by
 unfold cb at h⊢;split
 ·rename_i h1;have:=DX h1;simpa using this
 ·rename_i h1;rw[if_neg h1]at h;split
  ·rename_i h2;exact DX h2
  ·rename_i h2;rw[if_neg h2]at h;cases h
theorem PK{f t cf co cn fr to os:Int}(h:fV 0 f t cf co cn os=⟨0,fr,to,true⟩):(cb cf co cn fr to os).ok=true:=by
 have h0:=h;unfold fV at h;split at h
 ·cases h
 ·split at h
  ·simp only[KR.mk.injEq,and_true,true_and]at h;obtain⟨rfl,rfl⟩:=h;unfold cb;rw[if_pos];unfold zj Md;rw[Int.sub_zero,Int.sub_zero,h0];exact⟨rfl,rfl,rfl⟩
  ·split at h
   ·simp only[KR.mk.injEq,and_true,true_and]at h;obtain⟨h1,h2⟩:=h;unfold cb;split
    ·rfl
    ·rw[if_pos];unfold zj Md;rw[show fr-2*(cn-co)=f by omega,show to-2*(cn-co)=t by omega,h0];exact⟨rfl,rfl,rfl⟩
   ·cases h
theorem r9(g:Nat->Nat)(w:Nat):∀m:Nat,(List.range m).foldl (λw b=>w+g b) w=w+dw g m
 |0=>rfl
 |m+1=>by
  rw[ZaE,Zat,r9 g w m];simp only[ZaB,ZbU,dw];omega
theorem PL(cf co cn os:Int)(nn S:Nat):r8 cf co cn os nn (Cd S)=dw (λs=>dw (λj=>if(cb cf co cn s ((s+j:Nat):Int) os).ok then 0 else nn) (S-s)) S:=by
 rw[<-Wg (λs j=>if(cb cf co cn s ((s+j:Nat):Int) os).ok then 0 else nn) S];unfold r8 Cd;rw[List.foldl_flatMap];have e:∀(w a:Nat),(qe S a).foldl (λw p=>w+if(cb cf co cn p.1 p.2 os).ok then 0 else nn) w=w+dw (λb=>if(cb cf co cn b ((b+a:Nat):Int) os).ok then 0 else nn) (S-a):=by
  intro w a;unfold qe;rw[Zb4];exact r9 (λb=>if(cb cf co cn b ((b+a:Nat):Int) os).ok then 0 else nn) w (S-a)
 simp only[e];rw[r9];simp
theorem arg_ok{n:aG}{l:aL}(hn:oX n)(hl:vH l)(ha:∀a∈l.aD,a.f<=a.t)(h f t:Int): -1<=(lH (cD n l) h f t).arg/\(lH (cD n l) h f t).arg<=10000000000:=by
 have h3:=hl.1;have h4:=hl.2.1;have h5:=hl.2.2.1;by_cases hb:h<0\/h>=n.an\/f<0\/f>t\/t>=l.aP
 ·have:lH (cD n l) h f t=fc:=by
   unfold lH;rw[if_pos];exact hb
  rw[this];simp[fc]
 ·obtain⟨F,rfl⟩:=Zad (a:=f) (by omega);obtain⟨T',rfl⟩:=Zad (a:=t) (by omega);rcases(kR hn hl ha (h:=h) (s:=F) (t:=T') (by omega) (by omega) (by omega) (by omega)).top with e|⟨⟨k,_,d⟩,_⟩
  ·rw[e];simp[fc]
  ·obtain⟨g,hg⟩:∃g,(lH (cD n l) h F T').arg=g:=⟨_,rfl⟩;obtain⟨v,hv⟩:∃v,(lH (cD n l) h F T').val=v:=⟨_,rfl⟩;rw[hg,hv]at d;rw[hg];have hT:(T':Int)<1000:=by omega
   have hF:F<=T':=by omega
   clear hg hb hv;cases d with
   |empty=>omega
   |term hk h1 ha h2=>
    have:=(Zas.1 ha).1;omega
   |unary=>omega
   |binary=>omega
theorem upd_ok{n:aG}{x x':Input}{fr od nw:Nat}(C:YA x x' fr od nw)(hn:oX n)(hx:ku x)(gb:ku x'){aW:Int}(hv:qG (aI x') aW):UpdOk n (cD n (aI x)) (aI x') fr od nw (2*x'.aj.length+1):=by
 have hl:=pJ hx;have Y3:=pJ gb;have Ke:(aI x).aP=2*x.aj.length+1:=rfl;have N8:(aI x').aP=2*x'.aj.length+1:=rfl;have hS:(aI x').aP=(2*x'.aj.length+1:Nat):=by omega
 have c1:=C.le;have c2:=C.len;have l1:=hx.2.1;have l2:=gb.2.1;refine⟨hn,Y3,hS,rfl,⟨hn.1,hn.2.1,hl.1,hl.2.1,(OV hn hl).1⟩,arg_ok hn hl (nU hx),⟨by omega,by omega⟩,⟨by omega,by omega⟩,λpre p rest h=>?_,λpre p rest h ho y hy=>?_⟩
 ·obtain⟨r1,r2,r3,_⟩:=Wi hn Y3 hS (nU gb) (DW hv) h;exact⟨r1,r2,r3⟩
 ·obtain⟨r1,r2,r3,_⟩:=Wi hn Y3 hS (nU gb) (DW hv) h;have hk:=y7 ho;have hos:(cD n (aI x)).aP=2*x.aj.length+1:=rfl;rw[hos]at hk⊢;rw[Mg C hn hx gb hv (by omega) hy r1 (by omega) hk];have g1:=kR hn Y3 (nU gb) (h:=y) (s:=p.1) (t:=p.2) (by omega) hy r1 (by omega);have g2:=xA r3.C y hy;simp only[Zak]at g2;exact g1.unique g2
theorem PM{n:aG}{x x':Input}{fr od nw:Nat}(C:YA x x' fr od nw)(hn:oX n)(hx:ku x)(gb:ku x'){k:Int}(hf:mw x' k):
  aU Tryz.prog 13 [n.enc,(cD n (aI x)).enc,x'.enc,.agg [ti fr,ti od,ti nw]]
   (.eG [(cD n (aI x')).enc,ti (dw (λs=>dw (λj=>if(cb fr od nw s ((s+j:Nat):Int) (2*x.aj.length+1)).ok then 0 else n.an.toNat) (2*x'.aj.length+1-s)) (2*x'.aj.length+1):Nat),ti 0]):=by
 have c1:=C.le;have c2:=C.len;have U:=upd_ok C hn hx gb (NW hf);have:=t13 n _ x' _ fr od nw _ U (Jz hf) (by have:=gb.2.1;omega) (by unfold TQ;omega) (by show(2*(x.aj.length:Int)+1)=_;omega);rw[Mf U.hS,PL]at this;have hos:(cD n (aI x)).aP=2*x.aj.length+1:=rfl;rw[hos]at this;have e:(cD n (aI x')).enc=.agg [ti n.an,ti ((2*x'.aj.length+1:Nat):Int),.sl (aM (jn n (aI x')))]:=by
  unfold cD bW.enc;simp only;rw[show(aI x').aP=((2*x'.aj.length+1:Nat):Int)from U.hS]
 rw[e];exact this
abbrev sK(args:List T)(r:T):DM.Spec:=cy (λts=>ts=args) (λ_=>r) false
theorem okK1{f:Nat}{args:List T}{r:T}{l:List (Nat×DM.Spec)}(h:aw Tryz.prog (aX l))(k:aU Tryz.prog f args r):aw Tryz.prog (aX ((f,sK args r)::l)):=by
 refine aw.cons h ?_;rintro ts rfl;exact⟨k,λh=>by cases h⟩
theorem Jj{x:Input}{t:Int}(h:Dj x t)(ht:t<=5):mw x 60:=by
 have h1:=h.1;have hl:(x.insert.length:Int)=t:=by
  by_cases e:(x.insert.length:Int)=t
  ·exact e
  ·exact absurd (.inr (.inr (.inl e))) h1
 have h2:(x.aj.length:Int)<=60:=by
  by_cases e:(x.aj.length:Int)>60
  ·exact absurd (.inr (.inl e)) h1
  ·omega
 exact⟨⟨h2,by omega⟩,by rw[hl];exact h⟩
theorem Wl{z:Ask}(h:zf z):mw z.x 60/\mw (nT z) 60:=by
 obtain⟨h1,h2,_⟩:=h;have h3:z.n.aW<=5:=by omega
 have h5:Dj z.x z.n.aW:=Classical.not_not.1 λc=>h1 (.inr (.inr (.inr (.inr (.inr (.inr (.inl c)))))));exact⟨Jj h5 h3,Jj h2 h3⟩
def updW(n:aG)(x x':Input)(fr od nw:Nat):Nat:=dw (λs=>dw (λj=>if(cb fr od nw s ((s+j:Nat):Int) (2*x.aj.length+1)).ok then 0 else n.an.toNat) (2*x'.aj.length+1-s)) (2*x'.aj.length+1)
theorem upd_to{n:aG}{x x':Input}{fr od nw:Nat}(C:YA x x' fr od nw)(hn:oX n)(hx:ku x)(gb:ku x'){k:Int}(hf:mw x' k):
  aU Tryz.prog 13 [n.enc,(cD n (aI x)).enc,x'.enc,.agg [ti fr,ti od,ti nw]] (.eG [(cD n (aI x')).enc,ti (updW n x x' fr od nw),ti 0]):=PM C hn hx gb hf
theorem Wm{n:aG}{x:Input}{fr od:Nat}{new:List bC}:nT ⟨n,x,fr,od,new⟩=cz x fr od new:=by simp[nT]
def Mh(fr:Int)(s t:Nat):Bool:=decide ((s:Int)/2<=fr/\fr<Cv t)
theorem Mi{fr:Nat}{k s j:Nat}(hk:fr<k)(h:s+j<2*k+1):(cb fr (1:Nat) (1:Nat) s ((s+j:Nat):Int) (2*k+1)).ok= !Mh fr s (s+j):=by
 have hnb:¬nz 0 s ((s+j:Nat):Int) fr (1:Nat) (1:Nat) (2*k+1):=by unfold nz;omega
 rw[ZcP];unfold Mh;simp only[Zbg,decide_eq_false_iff_not];constructor
 ·intro h1 h2;have h3:=y7 h1;have h4:=Jh h1;have ef:(cb fr (1:Nat) (1:Nat) s ((s+j:Nat):Int) (2*k+1)).f=s:=by omega
  rw[ef]at h3;unfold fV at h3;split at h3
  ·exact absurd (congrArg KR.ok h3) (by simp)
  ·split at h3
   ·rename_i h5;have h6:=congrArg KR.t h3;simp only at h6;rw[h6]at h5;omega
   ·split at h3
    ·rename_i h5;omega
    ·exact absurd (congrArg KR.ok h3) (by simp)
 ·intro h1;refine PK (f:=s) (t:=((s+j:Nat):Int)) ?_;unfold fV;rw[if_neg hnb];by_cases h2:Cv ((s+j:Nat):Int)<=fr
  ·rw[if_pos h2]
  ·rw[if_neg h2,if_pos (by omega)];simp
def oU(fr:Int)(m s j:Nat):Nat:=if Mh fr s (s+j)then m else 0
def sa(fr:Int)(m S s:Nat):Nat:=dw (oU fr m s) (S-s)
theorem Wn{n:aG}{x x':Input}{fr:Nat}{m:Nat}(hm:n.an.toNat=m)(hk:fr<x.aj.length)(hl:x'.aj.length=x.aj.length):updW n x x' fr 1 1=dw (sa fr m (2*x.aj.length+1)) (2*x.aj.length+1):=by
 unfold updW;rw[hl];refine iy λs hs=>iy λj hj=>?_;rw[Mi hk (by omega),hm];unfold oU;cases Mh fr s (s+j)<;>rfl
theorem Cg(fr:Int)(m S s:Nat):∀k,dw (oU fr m s) k<=k*m
 |0=>by simp[dw]
 |k+1=>by
  have:=Cg fr m S s k;have h:oU fr m s k<=m:=by unfold oU;split<;>omega
  simp only[dw,Nat.succ_mul];omega
theorem NR(fr:Int)(m S:Nat):∀s,dw (sa fr m S) s<=s*(S*m)
 |0=>by simp[dw]
 |s+1=>by
  have h1:=NR fr m S s;have h2:=Cg fr m S s (S-s);have h3:(S-s)*m<=S*m:=ZaM m (by omega);have h4:sa fr m S s<=S*m:=ZaC h2 h3;simp only[dw,Nat.succ_mul];omega
theorem t8(z:Ask)(hl:z.n.rules.length<=9223372036854775807/\z.x.insert.length<=9223372036854775807):aU Tryz.prog 8 [z.enc] (.bool true):=by
 obtain⟨n,x,fr,od,new⟩:=z;have ay:=ok9 (TZ (TO (l:=[]) aw.nil));by_cases g:zf ⟨n,x,fr,od,new⟩/\od=1/\new.length=1
 ·obtain⟨g,gd,gn⟩:=g;obtain⟨hn,hx,qU,qN,hc4,hn3⟩:=O2 g;obtain⟨hf1,XL⟩:=Wl g;have hfit0:=qN;obtain⟨f1,f2,f3,f4,f5,f6⟩:=qN;simp only at f1 f2 f3 f4 f5 f6 hc4 hn3 hn hx;obtain⟨fr,rfl⟩:=Zad f1;obtain⟨od,rfl⟩:=Zad f3;have gd':od=1:=by omega
  subst gd';rw[Wm]at qU XL;have C:YA x (cz x fr 1 new) fr 1 new.length:=YA.of (by omega) (by omega);have hU:=upd_to C hn hx qU XL;have Wu:=pJ hx;have PZ:1<=n.an:=hn.1;have O5:n.an<=1000:=hn.2.1;obtain⟨m,hm⟩:=Zad (a:=n.an) (by omega);have uF:=C.len;have hW:=Wn (n:=n) (x:=x) (x':=cz x fr 1 new) (fr:=fr) (m:=m) (by omega) (by omega) (by omega);rw[gn]at hU uF;rw[hW]at hU;obtain⟨⟨k1,k2,k3⟩,hC⟩:∃c,cD n (aI (cz x fr 1 new))=c:=⟨_,rfl⟩;rw[hC]at hU;have hA:cz x fr 1 new=cz x ((fr:Int).toNat) 1 new:=by simp
  obtain⟨⟨ac,ai,asw⟩,tQ⟩:∃A,cz x fr 1 new=A:=⟨_,rfl⟩;rw[tQ]at hU hA;obtain⟨nt,nn,ns,rules⟩:=n;obtain⟨ct,ins,sw⟩:=x;simp only at hm PZ O5 hc4;have hSt:(aI ⟨ct,ins,sw⟩).aP=((2*ct.length+1:Nat):Int):=by show(2*(ct.length:Int)+1)=_;omega
  obtain⟨⟨l0,la0,lf0⟩,hL0⟩:∃l,aI ⟨ct,ins,sw⟩=l:=⟨_,rfl⟩;rw[hL0]at hU Wu hSt;obtain⟨D0,hD0⟩:∃D,jn ⟨nt,nn,ns,rules⟩ ⟨l0,la0,lf0⟩=D:=⟨_,rfl⟩;simp only[cD,hD0,aG.enc,bW.enc,Input.enc]at hU;simp only at hSt hU;obtain⟨S,hS⟩:∃S,2*ct.length+1=S:=⟨_,rfl⟩;rw[hS]at hU hSt;have hS9:S<=9:=by omega
  have hΓ2:=ok9 (TZ (TO (okK1 (l:=[]) aw.nil hU)));have hwl:=NR (fr:Int) m S;have hwi:=Cg (fr:Int) m S;have hb9:S*(S*m)<=9*(9*1000):=Zb6 hS9 (Zb6 hS9 (by omega));obtain⟨W,hWW⟩:∃W,dw (sa (fr:Int) m S) S=W:=⟨_,rfl⟩;have hwS:∀s,s<S->sa (fr:Int) m S s=dw (oU (fr:Int) m s) (S-s):=λ_ _=>rfl;have hsS:∀s,dw (sa (fr:Int) m S) (s+1)=dw (sa (fr:Int) m S) s+sa (fr:Int) m S s:=λ_=>rfl;have hsJ:∀s j,dw (oU (fr:Int) m s) (j+1)=dw (oU (fr:Int) m s) j+oU (fr:Int) m s j:=λ_ _=>rfl;rw[hWW]at hΓ2;have g1:zf ⟨⟨nt,nn,ns,rules⟩,⟨ct,ins,sw⟩,fr,1,new⟩:=by simpa using g
  have hfit1:TN ⟨⟨nt,nn,ns,rules⟩,⟨ct,ins,sw⟩,fr,1,new⟩:=by simpa using hfit0
  refine c8.ok (by simp) (aK ?_);simp[Ask.enc];refine aa.ab ay fw [1] ?_;simp[d8r0];refine aa.le (Le.aC (o:=[]) (l:=[(1,.v (.box [ti nt,ti nn,ti ns,.sl (aR rules),.sl (aV ct),.sl (aB ins),ti sw,ti fr,ti 1,.sl (aV new)]))]) (nxt':=1200) ?_ ?_ ?_ ?_) ?_;iterate 4(·simp)
  refine aa.seq ?_;refine aa.ab ay fw [1,24] ?_;simp[SF,and_assoc,hl.1,hl.2,g1,gn];refine aa.cond rfl (λg=>by cases g) (λ_=>?_);refine aa.skip ?_;simp;refine aa.ab ay fw [1,3] ?_;simp[d8r3,and_assoc,hx,hn,hL0,Wu,hD0];refine aa.le (Le.aC (o:=[]) (l:=[(1,.v (.box [ti nt,ti nn,ti ns,.sl (aR rules),.sl (aV ct),.sl (aB ins),ti sw,ti fr,ti 1,.sl (aV new)])),(3,.v (.box [ti nn,ti l0,.sl (aM D0)]))]) (nxt':=1400) ?_ ?_ ?_ ?_) ?_;iterate 4(·simp)
  refine aa.ab hΓ2 fw [1,3,4,5,6] ?_;simp[d8r4,and_assoc,<-hA,tQ,gn];refine⟨hfit1, ?_⟩;refine aa.le (Le.aC (o:=[]) (l:=[(1,.v (.box [ti nt,ti nn,ti ns,.sl (aR rules),.sl (aV ct),.sl (aB ins),ti sw,ti fr,ti 1,.sl (aV new)])),(3,.v (.box [ti nn,ti l0,.sl (aM D0)])),(5,.v (ti W)),(6,.v (ti 0))]) (nxt':=1600) ?_ ?_ ?_ ?_) ?_;iterate 4(·simp)
  subst hSt;refine aa.ab ay fw [1,3,5,6,7] ?_;simp[d8r5];refine aa.seq ?_;refine aa.ab ay fw [1,3,5,6,7,8] ?_;simp[d8r6];refine aa.block ?_;refine aa.loop (λs:Nat=>⟨DM.look [(1,.v (.box [ti nt,ti nn,ti ns,.sl (aR rules),.sl (aV ct),.sl (aB ins),ti sw,ti fr,ti 1,.sl (aV new)])),(3,.v (.box [ti nn,ti S,.sl (aM D0)])),(5,.v (ti W)),(6,.v (ti 0)),(7,.v (ti (dw (sa (fr:Int) m S) s))),(8,.v (ti s))],cC [],3000,1000,[]⟩)
   (λs=>s<=S) (λs=>S-s) 0 (Le.aC ?_ ?_ ?_ ?_) (by omega) (λs hs=>?_)
  iterate 3(·simp)
  ·simp[dw]
  have Od:=hwl s;have GI:s*(S*m)<=S*(S*m):=ZaM _ hs;refine aa.seq ?_;refine aa.ab ay fw [1,3,5,6,7,8,47] ?_;simp[d8r7];refine aa.cond rfl (λg=>?_) (λg=>?_)
  ·have g:s<S:=by simpa using g
   have w1:IntKind.i64.wrap ((s:Int)+1)=((s+1:Nat):Int):=by rw[au (by omega)];omega
   refine aa.skip ?_;simp;refine aa.seq ?_;refine aa.block ?_;refine aa.ab ay fw [1,3,5,6,7,8,9] ?_;simp[d8r8];refine aa.block ?_;refine aa.loop (λj:Nat=>⟨DM.look [(1,.v (.box [ti nt,ti nn,ti ns,.sl (aR rules),.sl (aV ct),.sl (aB ins),ti sw,ti fr,ti 1,.sl (aV new)])),(3,.v (.box [ti nn,ti S,.sl (aM D0)])),(5,.v (ti W)),(6,.v (ti 0)),(7,.v (ti (dw (sa (fr:Int) m S) s+dw (oU (fr:Int) m s) j:Nat))),(8,.v (ti s)),(9,.v (ti (s+j:Nat)))],cC [],4000,1000,[]⟩)
    (λj=>j<=S-s) (λj=>S-s-j) 0 (Le.aC ?_ ?_ ?_ ?_) (by omega) (λj hj=>?_)
   iterate 3(·simp)
   ·simp[dw]
   have YL:=hwi s j;have kz:j*m<=S*m:=ZaM _ (by omega);have Qb:S*m<=9*1000:=Zb6 hS9 (by omega);obtain⟨A,hA0⟩:∃A,dw (sa (fr:Int) m S) s+dw (oU (fr:Int) m s) j=A:=⟨_,rfl⟩;rw[hA0];obtain⟨t,ht⟩:∃t,s+j=t:=⟨_,rfl⟩;rw[ht];refine aa.seq ?_;refine aa.ab ay fw [1,3,5,6,7,8,9,54] ?_;simp[d8r9];refine aa.cond rfl (λg2=>?_) (λg2=>?_)
   ·have g2:t<S:=by simpa using g2
    have w2:IntKind.i64.wrap ((t:Int)+1)=((s+(j+1):Nat):Int):=by rw[au (by omega)];omega
    have w3:IntKind.i64.wrap ((t:Int)/2)=(t:Int)/2:=au (by omega);have w5:IntKind.i64.wrap ((t:Int)-1)=(t:Int)-1:=au (by omega);have w7:IntKind.i64.wrap ((s:Int)/2)=(s:Int)/2:=au (by omega);have w8:IntKind.i64.wrap ((A:Int)+nn)=((A+m:Nat):Int):=by rw[au (by omega)];omega
    have rV:=hsJ s j;have hJ:oU (fr:Int) m s j=if Mh (fr:Int) s t then m else 0:=by unfold oU;rw[ht]
    rw[hJ]at rV;obtain⟨e,he⟩:∃e,Cv t=e:=⟨_,rfl⟩;have hdep:Mh (fr:Int) s t=decide ((s:Int)/2<=fr/\(fr:Int)<e):=by unfold Mh;rw[he]
    rw[hdep]at rV;unfold Cv at he;refine aa.skip ?_;simp;refine aa.seq ?_;refine aa.block ?_;refine aa.ab ay fw [1,3,5,6,7,8,9,10] ?_;simp[abI,w3];refine aa.seq (aa.to ⟨DM.look [(1,.v (.box [ti nt,ti nn,ti ns,.sl (aR rules),.sl (aV ct),.sl (aB ins),ti sw,ti fr,ti 1,.sl (aV new)])),(3,.v (.box [ti nn,ti S,.sl (aM D0)])),(5,.v (ti W)),(6,.v (ti 0)),(7,.v (ti A)),(8,.v (ti s)),(9,.v (ti t)),(10,.v (ti e))],cC [],5000,1000,[]⟩ ?_ ?_)
    ·refine aa.ab ay fw [1,3,5,6,7,8,9,10,61] ?_;simp[abJ];refine aa.cond rfl (λh=>?_) (λh=>?_)
     ·have h:(t:Int) % 2=1:=by
       have h':(t:Int).tmod 2=1:=by simpa using h
       rwa [AD (by omega)]at h'
      rw[if_pos h]at he;have w10:IntKind.i64.wrap (((t:Int)-1).tdiv 2)=((t:Int)-1)/2:=by rw[oK (by omega)];exact au (by omega)
      have w11:IntKind.i64.wrap (((t:Int)-1)/2+2)=e:=by rw[<-he];exact au (by omega)
      refine aa.dm ay fw [1,3,5,6,7,8,9,10] ?_;simp[abK,w5,w10,w11];refine Le.aC ?_ ?_ ?_ ?_<;>simp
     ·have h:¬(t:Int) % 2=1:=by
       have h':¬(t:Int).tmod 2=1:=by simpa using h
       rwa [AD (by omega)]at h'
      rw[if_neg h]at he;refine aa.skip ?_;refine⟨rfl,Le.aC ?_ ?_ ?_ ?_⟩<;>simp[he]
    simp only[yr];obtain⟨c2,dL⟩:∃c2:Bool,decide ((s:Int)/2<=fr/\(fr:Int)<e)=c2:=⟨_,rfl⟩;rw[dL]at rV;refine aa.bY ay fw [(1,.v (.box [ti nt,ti nn,ti ns,.sl (aR rules),.sl (aV ct),.sl (aB ins),ti sw,ti fr,ti 1,.sl (aV new)])),(3,.v (.box [ti nn,ti S,.sl (aM D0)])),(5,.v (ti W)),(6,.v (ti 0)),(7,.v (ti A)),(8,.v (ti s)),(9,.v (ti t)),(76,.v (.bool c2))] ?_ ?_
    ·by_cases q1:(s:Int)/2<=fr
     ·have:c2=decide ((fr:Int)<e):=by rw[<-dL];simp[q1]
      simp[SG,w7,q1,this]
     ·have:c2=false:=by rw[<-dL];simp[q1]
      simp[SG,w7,q1,this]
    refine aa.cond rfl (λh=>?_) (λh=>?_)
    ·have h:c2=true:=by simpa using h
     rw[h,if_pos rfl]at rV;refine aa.dm ay fw [1,3,5,6,7,8,9] ?_;simp[abL,w8];refine aa.dm ay fw [1,3,5,6,7,8,9] ?_;simp[SH,w2];refine⟨j+1,Le.aC ?_ ?_ ?_ ?_,by omega,by omega⟩;iterate 3(·simp)
     ·simp;omega
    ·have h:c2=false:=by simpa using h
     rw[h,if_neg (by simp)]at rV;refine aa.skip ?_;simp;refine aa.dm ay fw [1,3,5,6,7,8,9] ?_;simp[SH,w2];refine⟨j+1,Le.aC ?_ ?_ ?_ ?_,by omega,by omega⟩;iterate 3(·simp)
     ·simp;omega
   ·have g2:t=S:=by
     have:¬t<S:=by simpa using g2
     omega
    have hjj:j=S-s:=by omega
    subst hjj;refine aa.exit ?_;simp;refine aa.dm ay fw [1,3,5,6,7,8] ?_;simp[abM,w1];refine⟨s+1,Le.aC ?_ ?_ ?_ ?_,by omega,by omega⟩;iterate 3(·simp)
    ·simp;have:=hsS s;have:=hwS s g;omega
  ·have g:s=S:=by
    have:¬s<S:=by simpa using g
    omega
   subst g;rw[hWW];refine aa.exit ?_;simp;refine aa.ab ay fw [2] ?_;simp[abN];refine aa.ret ?_;simp[SI]
 ·obtain⟨nt,nn,ns,rules⟩:=n;obtain⟨ct,ins,sw⟩:=x;refine c8.ok (by simp) (aK ?_);simp[Ask.enc];refine aa.ab ay fw [1] ?_;simp[d8r0];refine aa.le (Le.aC (o:=[]) (l:=[(1,.v (.box [ti nt,ti nn,ti ns,.sl (aR rules),.sl (aV ct),.sl (aB ins),ti sw,ti fr,ti od,.sl (aV new)]))]) (nxt':=1200) ?_ ?_ ?_ ?_) ?_;iterate 4(·simp)
  refine aa.seq ?_;refine aa.GM ay fw [(1,.v (.box [ti nt,ti nn,ti ns,.sl (aR rules),.sl (aV ct),.sl (aB ins),ti sw,ti fr,ti od,.sl (aV new)])),(24,.v (.bool true))] (cC []) ?_ ?_
  ·by_cases q1:zf ⟨⟨nt,nn,ns,rules⟩,⟨ct,ins,sw⟩,fr,od,new⟩
   ·by_cases q2:od=1
    ·have q3:new.length≠1:=λq3=>g ⟨q1,q2,q3⟩;have q3':¬(new.length:Int)=1:=by omega
     subst q2;simp[SF,and_assoc,hl.1,hl.2,q1,q3,q3']
    ·simp[SF,and_assoc,hl.1,hl.2,q1,q2]
   ·simp[SF,and_assoc,hl.1,hl.2,q1]
  refine aa.cond rfl (λ_=>?_) (λg=>by cases g);refine aa.ab ay fw [2] ?_;simp[d8r2];refine aa.ret ?_;simp[SI]
end cq
end Go.Proofs
