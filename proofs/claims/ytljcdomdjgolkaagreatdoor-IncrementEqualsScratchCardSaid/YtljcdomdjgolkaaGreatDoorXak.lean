/- Part of the proof. Conditions: none. -/
import Derived.Test.YtljcdomdjgolkaaGreatDoorXaj
import Derived.Test.YtljcdomdjgolkaaGreatDoorXai
set_option linter.unusedSectionVars false
set_option linter.unusedSimpArgs false
set_option linter.unusedVariables false
set_option maxHeartbeats 40000000
set_option maxRecDepth 20000
namespace Go.Proofs
namespace cC
open Go.DM
theorem t61n{f0:aU}{p N:Nat}{bF:Int}{v:SV}(hN:∀r,N<=r->f0 r=none)(hv:v.at f0 p)(hp:0<=bF/\bF<=4000000000000):
  aZ Tryz.prog 61 [.ptr p 0,.v (ti bF),.aJ] f0 ⟨True,.v (.agg [ti (iX v.z v.s.best bF []).cost,ti (iX v.z v.s.best bF []).size]),f0⟩:=by
 obtain⟨R,hR⟩:∃R,iX v.z v.s.best bF []=R:=⟨_,rfl⟩;rw[hR];unfold iX at hR;simp only[ZbY]at hR;have aw:=ok83 (ok84 ay.nil);refine c61.uM hN (by simp) λbj=>?_;simp;refine aa.ab aw fw [0,1,2,6] ?_;simp[TS];refine aa.ab aw fw [0,1,2,6,7] ?_;simp[TT];refine aa.seq ?_;refine aa.ab aw fw [1,6,7,11,12] ?_;simp[TU];refine aa.block ?_;refine aa.loop (λi:Nat=>⟨DM.look [(1,.v (ti bF)),(6,.ptr (N+7) 0),(7,.aJ),(11,.v (ti 0)),(12,.v (ti 0))],over [(N+7,.box [.v (ti 0),.v (ti 0)])] f0,N+1000,N,[]⟩)
  (λi=>True) (λi=>0) 0 (Le.fp bj ?_ ?_ ?_ ?_ ?_) trivial (λi hi=>?_)
 ·omega
 ·simp
 ·simp[ca,Nat.add_assoc]
 ·simp[gS,iv,Nat.add_assoc]
 ·simp[Nat.add_assoc]
 refine aa.ab aw fw [1,6,7,13] ?_;simp[TV];refine aa.seq ?_;refine aa.cond rfl (λg=>by cases g) (λg=>?_);refine aa.exit ?_;simp;refine aa.ab aw fw [6] ?_;simp[TW,and_assoc,hR,hp];refine aa.le (pX (l:=[(6,.v (.box [ti R.cost,ti R.size]))]) (nxt':=N+6000) bj (by omega) (by simp) ?_) ?_
 ·simp;exact cW (l:=[]) bj (by omega) (by simp)
 refine aa.ret ?_;simp[K2];rfl
structure SV.okB(v:SV):Prop where
 cf:tJ v.z.c
 co:CO v.z.c
 b:∀x∈v.s.best,kU x
noncomputable def XJ:List DV->aU->iD
 |[.ptr p 0,.v (.int .i64 c),.v (.sl rows)],f=>⟨(∃v:SV,v.at f p)/\(gT f p).okB/\rows=kr (k9 rows)/\rows.length<=1000/\WH (gT f p).z (gT f p).s.best (k9 rows)/\0<=c/\c<=4000000000000,.v (.agg [ti (iX (gT f p).z (gT f p).s.best c (k9 rows)).cost,ti (iX (gT f p).z (gT f p).s.best c (k9 rows)).size]),f⟩
 |[.ptr p 0,.v (.int .i64 c),.aJ],f=>⟨(∃v:SV,v.at f p)/\0<=c/\c<=4000000000000,.v (.agg [ti (iX (gT f p).z (gT f p).s.best c []).cost,ti (iX (gT f p).z (gT f p).s.best c []).size]),f⟩
 |_,f=>⟨False,.undef,f⟩
theorem k61_eq{v:SV}{f:aU}{p:Nat}{c:Int}{l:List It}(hv:v.at f p):XJ [.ptr p 0,.v (ti c),.v (.sl (kr l))] f=⟨v.okB/\l.length<=1000/\WH v.z v.s.best l/\0<=c/\c<=4000000000000,.v (.agg [ti (iX v.z v.s.best c l).cost,ti (iX v.z v.s.best c l).size]),f⟩:=by
 have hx:∃v:SV,v.at f p:=⟨v,hv⟩;simp only[XJ,fN hv,hx,true_and,uB,B5]
theorem Y7{v:SV}{f:aU}{p:Nat}{c:Int}(hv:v.at f p):XJ [.ptr p 0,.v (ti c),.aJ] f=⟨0<=c/\c<=4000000000000,.v (.agg [ti (iX v.z v.s.best c []).cost,ti (iX v.z v.s.best c []).size]),f⟩:=by
 have hx:∃v:SV,v.at f p:=⟨v,hv⟩;simp only[XJ,fN hv,hx,true_and]
theorem k61_ok:∀args objs,(XJ args objs).ok->(∀N,(∀r,N<=r->objs r=none)->aZ Tryz.prog 61 args objs (XJ args objs))/\∀r,objs r=none->(XJ args objs).objs r=none:=by
 intro args objs h;unfold XJ at h⊢;split at h
 ·rename_i p c rows;obtain⟨⟨v,hv⟩,ho,hr,hl,hi,hp⟩:=h;obtain⟨l,U5⟩:∃l,k9 rows=l:=⟨_,rfl⟩;rw[U5]at hr hi⊢;subst hr;rw[fN hv]at ho hi⊢;exact⟨λN hN=>aZ.of (t61 hN hv ho.cf ho.co ho.b hi hp (by simpa using hl)) rfl rfl,λr hr=>hr⟩
 ·rename_i p c;obtain⟨⟨v,hv⟩,hp⟩:=h;rw[fN hv];exact⟨λN hN=>aZ.of (t61n hN hv hp) rfl rfl,λr hr=>hr⟩
 ·exact h.elim
theorem ok61{l:List (Nat×DM.Spec)}(h:ay Tryz.prog (aW l)):ay Tryz.prog (aW ((61,fa XJ)::l)):=ay.gV h k61_ok
def l8(z:df)(fin:List Bool)(l:List It):Bool:=l.any λx=>decide (ku z x)&& !(fin.getD x.1.toNat default)
theorem t89{f0:aU}{p N:Nat}{l:List It}{v:SV}(hN:∀r,N<=r->f0 r=none)(hv:v.at f0 p)(hf:∀x∈l,ku v.z x->0<=x.1/\x.1<v.s.fin.length)(hl:l.length<=1000):
  aZ Tryz.prog 89 [.ptr p 0,.v (.sl (kr l))] f0 ⟨True,.v (.bool (!l8 v.z v.s.fin l)),f0⟩:=by
 obtain⟨R,hR⟩:∃R,(!l8 v.z v.s.fin l)=R:=⟨_,rfl⟩;rw[hR];have aw:=dZ;refine c89.uM hN (by simp) λbj=>?_;have h1:=hv.sp;have uO:p<N:=(bj p _ h1).1;simp only[uN]at h1;have h2:=hv.rf;simp only[FY]at h2;have np:∀k,p≠N+k:=λk=>by omega
 simp;refine aa.ab aw fw [0,1] ?_;simp[adn];refine aa.seq ?_;refine aa.ab aw fw [0,7,8,9] ?_;simp[ado];refine aa.block ?_;refine aa.loop (λi:Nat=>⟨DM.look [(0,.ptr p 0),(7,.v (.sl (kr l))),(8,.v (ti l.length)),(9,.v (ti i))],over [] f0,N+1000,N,[]⟩)
  (λi=>i<=l.length/\l8 v.z v.s.fin (l.take i)=false) (λi=>l.length-i) 0 (pX bj (by omega) (by simp) ?_) (by simp[l8]) (λi hi=>?_)
 ·simp[h1]
 obtain⟨hi,hw⟩:=hi;refine aa.ab aw fw [0,7,8,9,10] ?_;simp[adp];refine aa.seq ?_;refine aa.cond rfl (λg=>?_) (λg=>?_)
 ·have g:i<l.length:=by simpa using g
  have rr:=xV g;obtain⟨⟨xh,xf,xt⟩,hx⟩:∃x,l.getD i default=x:=⟨_,rfl⟩;rw[hx]at rr;simp only[Y5]at rr;have Ji:l8 v.z v.s.fin (l.take (i+1))=(decide (ku v.z (xh,xf,xt))&& !(v.s.fin.getD xh.toNat default)):=by
   rw[cG g,hx];unfold l8 at hw⊢;rw[List.any_append,hw];simp
  refine aa.skip ?_;simp;refine aa.seq ?_;refine aa.block ?_;refine aa.ab aw fw [0,6,7,8,9] ?_;simp[adq,rr,g];refine aa.le (pX (l:=[(0,.ptr p 0),(6,.v (.box [ti xh,ti xf,ti xt])),(7,.v (.sl (kr l))),(8,.v (ti l.length)),(9,.v (ti i))]) (nxt':=N+2000) bj (by omega) (by simp;omega) ?_) ?_
  ·simp[Nat.add_assoc,h1];exact cW (l:=[]) bj (by omega) (by simp)
  obtain⟨c1,aX⟩:∃c1:Bool,(decide (ku v.z (xh,xf,xt))&& !(v.s.fin.getD xh.toNat default))=c1:=⟨_,rfl⟩;refine aa.b7 aw fw [(0,.ptr p 0),(7,.v (.sl (kr l))),(8,.v (ti l.length)),(9,.v (ti i)),(39,.v (.bool c1))] ?_ ?_
  ·by_cases q1:xf=v.z.fr
   ·by_cases q2:xt=v.z.to
    ·obtain⟨x0,x1⟩:=hf _ (show(xh,xf,xt)∈l from hx▸bw g) ⟨q1,q2⟩;simp only at x0 x1;obtain⟨y,rfl⟩:=Zad x0;have hy:y<v.s.fin.length:=by omega
     have rb:=lI hy;obtain⟨b,hb⟩:∃b,v.s.fin.getD y default=b:=⟨_,rfl⟩;rw[hb]at rb;have:c1= !b:=by rw[<-aX];simp only[Zai,hb];simp[ku,q1,q2]
     cases b<;>simp[ND,h1,h2,hy,rb,q1,q2,this]
    ·have:c1=false:=by rw[<-aX];simp[ku,q2]
     simp[ND,h1,q1,q2,this]
   ·have:c1=false:=by rw[<-aX];simp[ku,q1]
    simp[ND,h1,q1,this]
  refine aa.cond rfl (λg2=>?_) (λg2=>?_)
  ·have g2:c1=true:=by simpa using g2
   subst g2;have:R=false:=by
    rw[<-hR];have:l8 v.z v.s.fin l=true:=by
     unfold l8;rw[Zcb];exact⟨(xh,xf,xt),hx▸bw g,aX⟩
    rw[this];rfl
   subst this;refine aa.ab aw fw [4] ?_;simp[adr];refine aa.ret ?_;simp[K3];rfl
  ·have g2:c1=false:=by simpa using g2
   subst g2;refine aa.skip ?_;simp;refine aa.dc aw fw [0,7,8,9] ?_;simp[ads];rw[au (by omega)];refine⟨i+1,pX bj (by omega) (by simp) ?_,⟨by omega,by rw[Ji,aX]⟩,by omega⟩;simp[h1]
 ·have g:¬i<l.length:=by simpa using g
  have:R=true:=by
   rw[Za2 (by omega)]at hw;rw[<-hR,hw];rfl
  subst this;refine aa.exit ?_;simp;refine aa.ab aw fw [4] ?_;simp[adt];refine aa.ret ?_;simp[K3];rfl
noncomputable def k89:List DV->aU->iD
 |[.ptr p 0,.v (.sl rows)],f=>⟨(∃v:SV,v.at f p)/\rows=kr (k9 rows)/\rows.length<=1000/\(∀x∈k9 rows,ku (gT f p).z x->0<=x.1/\x.1<(gT f p).s.fin.length),.v (.bool (!l8 (gT f p).z (gT f p).s.fin (k9 rows))),f⟩
 |_,f=>⟨False,.undef,f⟩
theorem k89_eq{v:SV}{f:aU}{p:Nat}{l:List It}(hv:v.at f p):k89 [.ptr p 0,.v (.sl (kr l))] f=⟨l.length<=1000/\(∀x∈l,ku v.z x->0<=x.1/\x.1<v.s.fin.length),.v (.bool (!l8 v.z v.s.fin l)),f⟩:=by
 have hx:∃v:SV,v.at f p:=⟨v,hv⟩;simp only[k89,fN hv,hx,true_and,uB,B5]
theorem k89_ok:∀args objs,(k89 args objs).ok->(∀N,(∀r,N<=r->objs r=none)->aZ Tryz.prog 89 args objs (k89 args objs))/\∀r,objs r=none->(k89 args objs).objs r=none:=by
 intro args objs h;unfold k89 at h⊢;split at h
 ·rename_i p rows;obtain⟨⟨v,hv⟩,hr,hl,hf⟩:=h;obtain⟨l,U5⟩:∃l,k9 rows=l:=⟨_,rfl⟩;rw[U5]at hr hf⊢;subst hr;rw[fN hv]at hf⊢;exact⟨λN hN=>aZ.of (t89 hN hv hf (by simpa using hl)) rfl rfl,λr hr=>hr⟩
 ·exact h.elim
theorem ok89{l:List (Nat×DM.Spec)}(h:ay Tryz.prog (aW l)):ay Tryz.prog (aW ((89,fa k89)::l)):=ay.gV h k89_ok
theorem ilt(a:Int):a<0\/0<=a:=by omega
def dX(st:eo)(h:Int)(v:br):eo:=
 if st.fin.getD h.toNat false=true\/v.cost>=1099511627776\/¬v.lt (bv st.best h)then st
 else if 0<=st.jt.getD h.toNat 0 then⟨st.best.set h.toNat v,st.fin,st.jt,qF (st.best.set h.toNat v) st.s (st.jt.getD h.toNat 0) h⟩
 else⟨st.best.set h.toNat v,st.fin,st.jt.set h.toNat st.s.next,nh (st.best.set h.toNat v) st.s h⟩
def nv(st:eo):eo:=⟨st.best,st.fin.set (st.s.e 0).x.toNat true,st.jt,ke st.best st.s⟩
theorem WN:∀(n:Nat) (l:List Nat),l.Nodup->(∀x∈l,x<n)->l.length<=n
 |0,[],_,_=>by simp
 |0,a::l,_,h=>by have:=h a (by simp);omega
 |n+1,l,hn,h=>by
  have:=WN n (l.erase n) (hn.erase n) λx hx=>by
   have h1:=h x (List.mem_of_mem_erase hx);have h2:x≠n:=(hn.mem_erase_iff.1 hx).1;omega
  have:=List.le_length_erase (a:=n) (l:=l);omega
structure WF(n:Nat)(st:eo):Prop where
 lb:st.best.length=n
 lf:st.fin.length=n
 lh:st.jt.length=n
 ok:st.s.ok st.best
 pl:dH st.s
 hp:uC st.best st.s
 Gd:∀e∈st.s.heap,0<=e.x/\e.x<n/\st.fin.getD e.x.toNat false=false/\st.jt.getD e.x.toNat 0=e.h/\0<=e.h
 Qz:∀x:Nat,x<n->0<=st.jt.getD x 0->st.fin.getD x false=false->∃e∈st.s.heap,e.x=x
 old:∀x:Nat,x<n->st.jt.getD x 0<0->st.fin.getD x false=false/\st.best.getD x default=⟨1099511627776,0⟩
 Mz:∀x:Nat,x<n->0<=st.jt.getD x 0->(st.best.getD x default).cost<1099511627776
 nx:∀x:Nat,x<n->st.jt.getD x 0<st.s.next
 nc:0<=st.s.next/\st.s.next<=st.s.clock
 bo:∀v∈st.best,kU v
theorem Qs.ok.of{s:Qs}{a b:List br}(h:s.ok a)(e:b.length=a.length):s.ok b:=⟨h.pl,h.st,h.has,λx hx=>by rw[e];exact h.r x hx⟩
theorem o6{α:Type}{l:List α}{i j:Nat}{d x:α}(hi:i<l.length):(l.set i x).getD j d=if j=i then x else l.getD j d:=by
 by_cases h:j=i
 ·subst h;simp[List.getD,hi]
 ·have:¬i=j:=λe=>h e.symm;simp[List.getD,this,h]
section
variable{n:Nat}{st:eo}
theorem WF.uniq(h:WF n st){i j:Nat}(hi:i<st.s.heap.length)(hj:j<st.s.heap.length)(e:(st.s.e i).x=(st.s.e j).x):i=j:=by
 obtain⟨_,_,_,a,_⟩:=h.Gd _ (fY.2 ⟨i,hi,rfl⟩);obtain⟨_,_,_,b,_⟩:=h.Gd _ (fY.2 ⟨j,hj,rfl⟩);refine h.pl.nd i j hi hj ?_;rw[<-a,<-b,e]
theorem WF.len(h:WF n st):st.s.heap.length<=n:=by
 have:=WN n (st.s.heap.map λe=>e.x.toNat) ?_ ?_
 ·simpa using this
 ·unfold List.Nodup;rw[ZcF];intro i j ZF hj Xx e;simp only[Zbt]at hj;have hi:i<st.s.heap.length:=by omega
  have a:=h.Gd _ (fY.2 ⟨i,hi,rfl⟩);have b:=h.Gd _ (fY.2 ⟨j,hj,rfl⟩);have:=h.uniq hi hj ?_
  ·omega
  ·simp only[Zcl]at e;simp only[Qs.e,Zai,List.getD,Zan hi,Zan hj,Zbc]at a b⊢;omega
 ·intro x hx;obtain⟨e,he,rfl⟩:=Zal.1 hx;have:=h.Gd e he;omega
theorem WF.canon(h:WF n st){x:Nat}(hx:x<n):(st.best.getD x default).cost<1099511627776\/(st.best.getD x default).size=0:=by
 rcases ilt (st.jt.getD x 0)with h0|h0
 ·right;rw[(h.old x hx h0).2]
 ·exact .inl (h.Mz x hx h0)
theorem lg(st:eo)(h:Int)(v:br):(dX st h v).fin=st.fin:=by
 unfold dX;split
 ·rfl
 ·split<;>rfl
theorem MA(st:eo)(h:Int)(v:br):(dX st h v).best=st.best\/((dX st h v).best=st.best.set h.toNat v/\st.fin.getD h.toNat false=false/\v.cost<1099511627776/\v.lt (bv st.best h)):=by
 unfold dX;split
 ·exact .inl rfl
 ·rename_i hc;have dU:st.fin.getD h.toNat false=false/\v.cost<1099511627776/\v.lt (bv st.best h):=by
   simp only[not_or,Decidable.not_not]at hc;exact⟨by simpa using hc.1,by omega,hc.2.2⟩
  split<;>exact .inr ⟨rfl,dU⟩
theorem WO{s:Qs}{i:Nat}{x:Int}(hi:i<s.heap.length)(e:tH):e∈(kZ s i x).heap↔e=⟨x,(s.e i).h,s.clock⟩\/∃k:Nat,k<s.heap.length/\k≠i/\e=s.e k:=by
 have hl:(kZ s i x).heap.length=s.heap.length:=by simp[kZ]
 rw[fY];constructor
 ·rintro⟨k,hk,rfl⟩;rw[pY hi];split
  ·exact .inl rfl
  ·exact .inr ⟨k,by omega,by assumption,rfl⟩
 ·rintro(rfl|⟨k,hk,bH,rfl⟩)
  ·exact⟨i,by omega,by rw[pY hi,if_pos rfl]⟩
  ·exact⟨k,by omega,by rw[pY hi,if_neg bH]⟩
theorem Jk{s:Qs}{best:List br}{i:Nat}{x:Int}(hp:dH s)(hi:i<s.heap.length):sb (kZ s i x) (qF best s (s.e i).h x):=by
 have wJ:(kZ s i x).heap.length=s.heap.length:=by simp[kZ]
 unfold qF;rw[hp i hi];simp only[Zbc,Zai];exact(zO (by omega)).trans (o5 rfl)
theorem ok_upd{s:Qs}{best:List br}{i:Nat}{x:Int}(ho:s.ok best)(hp:dH s)(hi:i<s.heap.length)(hx:0<=x/\x<best.length):(qF best s (s.e i).h x).ok best:=by
 have wJ:(kZ s i x).heap.length=s.heap.length:=by simp[kZ]
 unfold qF;rw[hp i hi];simp only[Zbc,Zai];exact N9 rfl (Mb (N4 ho hi hx) (by omega)).1
theorem WF.offer(h:WF n st){x:Int}(hx:0<=x/\x<n){v:br}(hv:kU v):WF n (dX st x v):=by
 unfold dX;split
 ·exact h
 ·rename_i hc;simp only[not_or,Decidable.not_not]at hc;obtain⟨c1,c2,c3⟩:=hc;have c1:st.fin.getD x.toNat false=false:=by simpa using c1
  have Nq:0<=x/\x<st.best.length:=by have:=h.lb;omega
  have hxn:x.toNat<n:=by omega
  have Nh:(st.best.set x.toNat v).length=st.best.length:=by simp
  have Cx:∀w∈st.best.set x.toNat v,kU w:=λw hw=>by
   rcases ZaZ hw with hw|rfl
   ·exact h.bo w hw
   ·exact hv
  have Qw:∀y:Nat,y<n->(st.best.set x.toNat v).getD y default=if y=x.toNat then v else st.best.getD y default:=λy hy=>o6 (by omega)
  split
  ·rename_i hh;obtain⟨e,he,hex⟩:=h.Qz x.toNat hxn hh c1;obtain⟨i,hi,rfl⟩:=fY.1 he;have hex:(st.s.e i).x=x:=by omega
   have hd:st.jt.getD x.toNat 0=(st.s.e i).h:=by rw[<-hex];exact(h.Gd _ he).2.2.2.1
   rw[hd];have hs:=Jk (best:=st.best.set x.toNat v) (x:=x) h.pl hi;have xo:∀e,e∈(qF (st.best.set x.toNat v) st.s (st.s.e i).h x).heap↔e=⟨x,(st.s.e i).h,st.s.clock⟩\/∃k:Nat,k<st.s.heap.length/\k≠i/\e=st.s.e k:=λe=>(hs.mem e).trans (WO hi e);have qn:(qF (st.best.set x.toNat v) st.s (st.s.e i).h x).next=st.s.next:=hs.next;have WQ:(qF (st.best.set x.toNat v) st.s (st.s.e i).h x).clock=st.s.clock+1:=hs.clock;refine⟨by simp[h.lb],h.lf,h.lh,ok_upd (h.ok.of Nh) h.pl hi (by rw[Nh];exact Nq),P4 h.pl hi,
    P5 h.pl hi (WL h.hp h.ok.r hi Nq hex (λk hk bH e=>bH (h.uniq hk hi (e.trans hex.symm))) c3),λe he=>?_,λy hy jV fg=>?_,λy hy jV=>?_,λy hy jV=>?_,λy hy=>?_, ?_,Cx⟩
   ·rcases(xo e).1 he with rfl|⟨k,hk,_,rfl⟩
    ·exact⟨hx.1,hx.2,c1,hd,(h.Gd _ (fY.2 ⟨i,hi,rfl⟩)).2.2.2.2⟩
    ·exact h.Gd _ (fY.2 ⟨k,hk,rfl⟩)
   ·obtain⟨e,he,hey⟩:=h.Qz y hy jV fg;obtain⟨k,hk,rfl⟩:=fY.1 he;by_cases JO:k=i
    ·subst JO;exact⟨_,(xo _).2 (.inl rfl),by simp only;omega⟩
    ·exact⟨_,(xo _).2 (.inr ⟨k,hk,JO,rfl⟩),hey⟩
   ·have:=h.old y hy jV;refine⟨this.1, ?_⟩;simp only;rw[Qw y hy,if_neg]
    ·exact this.2
    ·rintro rfl;simp only at jV;omega
   ·simp only;rw[Qw y hy];split
    ·omega
    ·exact h.Mz y hy jV
   ·rw[show(eo.mk (st.best.set x.toNat v) st.fin st.jt (qF (st.best.set x.toNat v) st.s (st.s.e i).h x)).s.next=st.s.next from qn];exact h.nx y hy
   ·have:=h.nc;simp only[qn,WQ];omega
  ·rename_i hh;have bH:∀e∈st.s.heap,e.x≠x:=λe he ex=>by
    obtain⟨a1,a2,a3,a4,a5⟩:=h.Gd e he;rw[ex]at a4;omega
   have Zd:∀a b:tH,a∈st.s.heap->b∈st.s.heap->(oi (st.best.set x.toNat v) a b↔oi st.best a b):=λa b ha hb=>by
    unfold oi;rw[xX Nq (h.Gd a ha).1,xX Nq (h.Gd b hb).1,if_neg (bH a ha),if_neg (bH b hb)]
   have GJ:uC (st.best.set x.toNat v) st.s:=λk k1 k2 hk=>h.hp k k1 k2 ((Zd _ _ (fY.2 ⟨k,k2,rfl⟩) (fY.2 ⟨_,by omega,rfl⟩)).1 hk);have hs:sb (lL st.s x) (nh (st.best.set x.toNat v) st.s x):=zO (by simp[lL]);have xo:∀e,e∈(nh (st.best.set x.toNat v) st.s x).heap↔e∈st.s.heap\/e=⟨x,st.s.next,st.s.clock⟩:=λe=>(hs.mem e).trans (by simp[lL]);have qn:(nh (st.best.set x.toNat v) st.s x).next=st.s.next+1:=hs.next;have WQ:(nh (st.best.set x.toNat v) st.s x).clock=st.s.clock+1:=hs.clock;have Zf:∀y:Nat,y<n->(st.jt.set x.toNat st.s.next).getD y 0=if y=x.toNat then st.s.next else st.jt.getD y 0:=λy hy=>o6 (by have:=h.lh;omega)
   have QW:=h.nc;refine⟨by simp[h.lb],h.lf,by simp[h.lh],(Mb (Jl (h.ok.of Nh) (by rw[Nh];exact Nq)) (by simp[lL])).1,Mx h.pl (λe he=>?_),PY GJ,λe he=>?_,λy hy jV fg=>?_,λy hy jV=>?_,λy hy jV=>?_,λy hy=>?_, ?_,Cx⟩
   ·obtain⟨a1,a2,a3,a4,a5⟩:=h.Gd e he;have:=h.nx e.x.toNat (by omega);omega
   ·rcases(xo e).1 he with he|rfl
    ·obtain⟨a1,a2,a3,a4,a5⟩:=h.Gd e he;refine⟨a1,a2,a3, ?_,a5⟩;simp only;rw[Zf _ (by omega),if_neg]
     ·exact a4
     ·have:=bH e he;omega
    ·refine⟨hx.1,hx.2,c1, ?_,QW.1⟩;simp only;rw[Zf _ (by omega),if_pos rfl]
   ·simp only at jV;rw[Zf y hy]at jV;split at jV
    ·rename_i e;exact⟨_,(xo _).2 (.inr rfl),by simp only;omega⟩
    ·obtain⟨e,he,hey⟩:=h.Qz y hy jV fg;exact⟨e,(xo e).2 (.inl he),hey⟩
   ·simp only at jV;rw[Zf y hy]at jV;split at jV
    ·omega
    ·rename_i e;have:=h.old y hy jV;refine⟨this.1, ?_⟩;simp only;rw[Qw y hy,if_neg e];exact this.2
   ·simp only at jV⊢;rw[Zf y hy]at jV;rw[Qw y hy];split
    ·omega
    ·rename_i e;rw[if_neg e]at jV;exact h.Mz y hy jV
   ·show(st.jt.set x.toNat st.s.next).getD y 0<(nh (st.best.set x.toNat v) st.s x).next;rw[Zf y hy,qn];have:=h.nx y hy;split<;>omega
   ·simp only[qn,WQ];omega
theorem za(h:WF n st){x:Int}(hx:0<=x/\x<n)(v:br):(dX st x v).s.clock<=st.s.clock+1:=by
 unfold dX;split
 ·omega
 ·rename_i hc;simp only[not_or,Decidable.not_not]at hc;obtain⟨c1,c2,c3⟩:=hc;have c1:st.fin.getD x.toNat false=false:=by simpa using c1
  split
  ·rename_i hh;obtain⟨e,he,hex⟩:=h.Qz x.toNat (by omega) hh c1;obtain⟨i,hi,rfl⟩:=fY.1 he;have hex:(st.s.e i).x=x:=by omega
   have hd:st.jt.getD x.toNat 0=(st.s.e i).h:=by rw[<-hex];exact(h.Gd _ he).2.2.2.1
   rw[hd];have hs:=Jk (best:=st.best.set x.toNat v) (x:=x) h.pl hi;exact Int.le_of_eq hs.clock
  ·have hs:sb (lL st.s x) (nh (st.best.set x.toNat v) st.s x):=zO (by simp[lL]);exact Int.le_of_eq hs.clock
def Cd(st:eo)(x:Int)(v:br):Prop:=
 (0<=x/\x<st.best.length)/\st.fin.length=st.best.length/\st.jt.length=st.best.length/\kU v/\
  (¬(st.fin.getD x.toNat false=true\/v.cost>=1099511627776\/¬v.lt (bv st.best x))->
   if 0<=st.jt.getD x.toNat 0 then I8 st.s (st.best.set x.toNat v) (st.jt.getD x.toNat 0) x else Ge st.s (st.best.set x.toNat v) x)
theorem WF.Cd(h:WF n st){x:Int}(hx:0<=x/\x<n){v:br}(hv:kU v)(hn:n<=1000)(hc:st.s.clock<=1000000000000):Cd st x v:=by
 have Nq:0<=x/\x<st.best.length:=by have:=h.lb;omega
 refine⟨Nq,by rw[h.lf,h.lb],by rw[h.lh,h.lb],hv,λc=>?_⟩;simp only[not_or,Decidable.not_not]at c;obtain⟨c1,c2,c3⟩:=c;have c1:st.fin.getD x.toNat false=false:=by simpa using c1
 have hl:=h.len;have QW:=h.nc;have Nh:(st.best.set x.toNat v).length=st.best.length:=by simp
 split
 ·rename_i hh;obtain⟨e,he,hex⟩:=h.Qz x.toNat (by omega) hh c1;obtain⟨i,hi,rfl⟩:=fY.1 he;have hex:(st.s.e i).x=x:=by omega
  have hd:st.jt.getD x.toNat 0=(st.s.e i).h:=by rw[<-hex];exact(h.Gd _ he).2.2.2.1
  rw[hd];exact WM (h.ok.of Nh) h.pl hi (by rw[Nh];exact Nq) (by omega) (by omega)
 ·exact⟨h.ok.of Nh,by rw[Nh];exact Nq,by omega,by omega,by omega⟩
theorem Od{s:Qs}{best:List br}(bH:s.heap≠[])(e:tH):e∈(ke best s).heap↔∃k:Nat,0<k/\k<s.heap.length/\s.e k=e:=by
 have CA:0<s.heap.length:=Zbr.2 bH;have hl:(lW s).heap.length=s.heap.length-1:=by
  simp only[lW,Zaw,Qs.iA];omega
 unfold ke;rw[if_neg bH,((o5 rfl).mem e),fY,hl];constructor
 ·rintro⟨k,hk,rfl⟩;rw[B8 hk];split
  ·exact⟨s.heap.length-1,by omega,by omega,rfl⟩
  ·exact⟨k,by omega,by omega,rfl⟩
 ·rintro⟨k,k1,k2,rfl⟩;by_cases hk:k=s.heap.length-1
  ·refine⟨0,by omega, ?_⟩;rw[B8 (by omega),if_pos rfl,hk]
  ·refine⟨k,by omega, ?_⟩;rw[B8 (by omega),if_neg (by omega)]
theorem WF.Ce(h:WF n st)(hn:n<=1000):Ce st.s st.best:=⟨h.ok,h.pl.nd,by have:=h.len;omega⟩
theorem WF.pop(h:WF n st)(bH:st.s.heap≠[]):WF n (nv st):=by
 have CA:0<st.s.heap.length:=Zbr.2 bH;obtain⟨x,hx⟩:∃x,(st.s.e 0).x=x:=⟨_,rfl⟩;have O9:(st.s.e (0:Nat)).x=x:=hx;obtain⟨a1,a2,a3,a4,a5⟩:=h.Gd _ (fY.2 ⟨0,CA,rfl⟩);rw[O9]at a1 a2 a3 a4;unfold nv;rw[hx];have hs:sb (lW st.s) (ke st.best st.s):=by unfold ke;rw[if_neg bH];exact o5 rfl
 have hfd:∀y:Nat,y<n->(st.fin.set x.toNat true).getD y false=if y=x.toNat then true else st.fin.getD y false:=λy hy=>o6 (by have:=h.lf;omega)
 have qn:(ke st.best st.s).next=st.s.next:=hs.next;have WQ:(ke st.best st.s).clock=st.s.clock:=hs.clock;refine⟨h.lb,by simp[h.lf],h.lh, ?_,P3 h.pl,WK h.hp,λe he=>?_,λy hy jV fg=>?_,λy hy jV=>?_,h.Mz,λy hy=>?_, ?_,h.bo⟩
 ·show(ke st.best st.s).ok st.best;unfold ke;rw[if_neg bH];exact N9 rfl (Oe h.ok h.pl.nd CA)
 ·obtain⟨k,k1,k2,rfl⟩:=(Od bH e).1 he;obtain⟨b1,b2,b3,b4,b5⟩:=h.Gd _ (fY.2 ⟨k,k2,rfl⟩);refine⟨b1,b2, ?_,b4,b5⟩;simp only;rw[hfd _ (by omega),if_neg]
  ·exact b3
  ·intro e;have:=h.uniq k2 CA (by rw[O9];omega);omega
 ·simp only at fg jV;rw[hfd y hy]at fg;split at fg
  ·cases fg
  ·rename_i hyx;obtain⟨e,he,hey⟩:=h.Qz y hy jV fg;obtain⟨k,hk,rfl⟩:=fY.1 he;refine⟨_,(Od bH _).2 ⟨k, ?_,hk,rfl⟩,hey⟩;rcases ZcA k with rfl|wI
   ·rw[O9]at hey;omega
   ·exact wI
 ·have:=h.old y hy jV;simp only at jV⊢;refine⟨?_,this.2⟩;rw[hfd y hy,if_neg]
  ·exact this.1
  ·rintro rfl;omega
 ·show st.jt.getD y 0<(ke st.best st.s).next;rw[qn];exact h.nx y hy
 ·show 0<=(ke st.best st.s).next/\(ke st.best st.s).next<=(ke st.best st.s).clock;rw[qn,WQ];exact h.nc
end
def gZ(r:bE)(x:Int):Prop:=(r.kind=3/\r.a=x)\/(r.kind=4/\(r.a=x\/r.b=x))
instance(r:bE)(x:Int):Decidable (gZ r x):=by unfold gZ;infer_instance
theorem t86(r:bE)(x:Int):aT Tryz.prog 86 [.agg r.enc,ti x] (.bool (decide (gZ r x))):=by
 obtain⟨k,h,a,b,p,o⟩:=r;obtain⟨c1,aX⟩:∃c1:Bool,decide (gZ ⟨k,h,a,b,p,o⟩ x)=c1:=⟨_,rfl⟩;rw[aX];simp only[gZ]at aX;have aw:=dZ;refine c86.ok (by simp) (aK ?_);simp[bE.enc];refine aa.ab aw fw [1,2] ?_;simp[ade];refine aa.le (Le.aD (o:=[]) (l:=[(1,.v (ti x)),(2,.v (.box [ti k,ti h,ti a,ti b,ti p,ti o]))]) (nxt':=1200) ?_ ?_ ?_ ?_) ?_;iterate 4(·simp)
 refine aa.b7 aw fw [(4,.v (.bool c1))] ?_ ?_
 ·by_cases q1:k=3
  ·have q4:¬(3:Int)=4:=by omega
   subst q1;by_cases q2:a=x
   ·have:c1=true:=by rw[<-aX];simp[q2]
    simp[Bn,q2,this]
   ·have:c1=false:=by rw[<-aX];simp[q2]
    simp[Bn,q2,this]
  ·by_cases q4:k=4
   ·subst q4;by_cases q2:a=x
    ·have:c1=true:=by rw[<-aX];simp[q2]
     simp[Bn,q2,this]
    ·by_cases q3:b=x
     ·have:c1=true:=by rw[<-aX];simp[q3]
      simp[Bn,q2,q3,this]
     ·have:c1=false:=by rw[<-aX];simp[q2,q3]
      simp[Bn,q2,q3,this]
   ·have:c1=false:=by rw[<-aX];simp[q1,q4]
    simp[Bn,q1,q4,this]
 refine aa.ret ?_;simp[TN]
abbrev s86:DM.Spec:=cz (λts=>∃k h a b p o x,ts=[.agg [ti k,ti h,ti a,ti b,ti p,ti o],ti x]) (fun|[.agg [.int _ k,.int _ h,.int _ a,.int _ b,.int _ p,.int _ o],.int _ x]=>.bool (decide (gZ ⟨k,h,a,b,p,o⟩ x))|_=>.bool false) true
theorem ok86{l:List (Nat×DM.Spec)}(h:ay Tryz.prog (aW l)):ay Tryz.prog (aW ((86,s86)::l)):=by
 refine ay.cons h ?_;rintro ts ⟨k,h,a,b,p,o,x,rfl⟩;exact⟨by simpa [bE.enc]using t86 ⟨k,h,a,b,p,o⟩ x,λ_=>rfl⟩
def kc(z:df)(a:bn):Prop:=a.f>z.fr\/(a.f=z.fr/\a.t>=z.to)
instance(z:df)(a:bn):Decidable (kc z a):=by unfold kc;infer_instance
def eR(f:aU)(b:Nat):Nat:=match f b with
 |some (.box [.ptr p _])=>p
 |_=>0
theorem t108{f0:aU}{b p N i:Nat}{v:SV}(hN:∀r,N<=r->f0 r=none)(hb:f0 b=some (.box [.ptr p 0]))(hv:v.at f0 p)(hi:i<v.z.l.aF.length):
  aZ Tryz.prog 108 [.v (ti i),.ptr b 0] f0 ⟨True,.v (.bool (decide (kc v.z (v.z.l.aF.getD i default)))),f0⟩:=by
 obtain⟨R,hR⟩:∃R,decide (kc v.z (v.z.l.aF.getD i default))=R:=⟨_,rfl⟩;rw[hR];have aw:=dZ;refine c108.uM hN (by simp) λbj=>?_;have h1:=hv.sp;have uO:p<N:=(bj p _ h1).1;have XE:b<N:=(bj b _ hb).1;simp only[uN]at h1;have np:∀k,p≠N+k:=λk=>by omega
 have nb:∀k,b≠N+k:=λk=>by omega
 have rr:=kY hi;obtain⟨⟨af,at',ae,ac,ao⟩,hx⟩:∃x,v.z.l.aF.getD i default=x:=⟨_,rfl⟩;rw[hx]at rr;simp only[hx,kc]at hR;simp only[bn.enc]at rr;simp;refine aa.ab aw fw [0,1] ?_;simp[Um];refine aa.ab aw fw [1,4] ?_;simp[Un,hb,h1,hi,rr];refine aa.le (pX (l:=[(1,.ptr b 0),(4,.v (.box [ti af,ti at',ti ae,ti ac,.sl (cT ao)]))]) (nxt':=N+2000) bj (by omega) (by simp;omega) ?_) ?_
 ·simp[Nat.add_assoc,hb];exact cW (l:=[]) bj (by omega) (by simp)
 refine aa.b7 aw fw [(3,.v (.bool R))] ?_ ?_
 ·by_cases q1:af>v.z.fr
  ·have:R=true:=by rw[<-hR];simp[q1]
   simp[Bo,hb,h1,q1,this]
  ·by_cases q2:af=v.z.fr
   ·subst q2;by_cases q3:at'>=v.z.to
    ·have:R=true:=by rw[<-hR];simp[q3]
     simp[Bo,hb,h1,q3,this]
    ·have:R=false:=by rw[<-hR];simp[q3]
     simp[Bo,hb,h1,q3,this]
   ·have:R=false:=by rw[<-hR];simp[q1,q2]
    simp[Bo,hb,h1,q1,q2,this]
 refine aa.ret ?_;simp[NK];rfl
noncomputable def Ms:List DV->aU->iD
 |[.v (.int .i64 i),.ptr b 0],f=>⟨f b=some (.box [.ptr (eR f b) 0])/\(∃v:SV,v.at f (eR f b))/\0<=i/\i<(gT f (eR f b)).z.l.aF.length,.v (.bool (decide (kc (gT f (eR f b)).z ((gT f (eR f b)).z.l.aF.getD i.toNat default)))),f⟩
 |_,f=>⟨False,.undef,f⟩
theorem Y8{v:SV}{f:aU}{b p:Nat}{i:Int}(hb:f b=some (.box [.ptr p 0]))(hv:v.at f p):Ms [.v (ti i),.ptr b 0] f=⟨0<=i/\i<v.z.l.aF.length,.v (.bool (decide (kc v.z (v.z.l.aF.getD i.toNat default)))),f⟩:=by
 have hx:∃v:SV,v.at f p:=⟨v,hv⟩;have hd:eR f b=p:=by simp[eR,hb]
 simp only[Ms,hd,fN hv,hx,hb,true_and]
theorem Y9:∀args objs,(Ms args objs).ok->(∀N,(∀r,N<=r->objs r=none)->aZ Tryz.prog 108 args objs (Ms args objs))/\∀r,objs r=none->(Ms args objs).objs r=none:=by
 intro args objs h;unfold Ms at h⊢;split at h
 ·rename_i i b;obtain⟨hb,⟨v,hv⟩,i0,i1⟩:=h;rw[fN hv]at i1⊢;obtain⟨i,rfl⟩:=Zad i0;exact⟨λN hN=>aZ.of (t108 hN hb hv (by omega)) rfl rfl,λr hr=>hr⟩
 ·exact h.elim
theorem ok108{l:List (Nat×DM.Spec)}(h:ay Tryz.prog (aW l)):ay Tryz.prog (aW ((108,fa Ms)::l)):=ay.gV h Y9
def gU(z:df):Nat:=z.l.aF.findIdx λa=>decide (kc z a)
def mono(z:df):Prop:=∀i j:Nat,i<=j->j<z.l.aF.length->kc z (z.l.aF.getD i default)->kc z (z.l.aF.getD j default)
theorem loI_eq{z:df}{k:Nat}(hk:k<=z.l.aF.length)(h1:∀i,i<k->¬kc z (z.l.aF.getD i default))(h2:k<z.l.aF.length->kc z (z.l.aF.getD k default)):gU z=k:=by
 unfold gU;by_cases hl:k<z.l.aF.length
 ·rw[List.findIdx_eq hl];refine⟨?_,λj hj=>?_⟩
  ·have:=h2 hl;simpa [List.getD,hl]using this
  ·have M8:j<z.l.aF.length:=by omega
   have:=h1 j hj;simpa [List.getD,M8]using this
 ·obtain rfl:k=z.l.aF.length:=by omega
  rw[List.findIdx_eq_length];intro x hx;obtain⟨i,hi,rfl⟩:=ZaY hx;have:=h1 i hi;simpa [List.getD,hi]using this
theorem t107{f0:aU}{b p N:Nat}{v:SV}(hN:∀r,N<=r->f0 r=none)(hb:f0 b=some (.box [.ptr p 0]))(hv:v.at f0 p)(hm:mono v.z)(hl:v.z.l.aF.length<=1000000000):
  aZ Tryz.prog 107 [.v (ti v.z.l.aF.length),.mF (.func 108) [.ptr b 0]] f0 ⟨True,.v (ti (gU v.z)),f0⟩:=by
 obtain⟨n,hn⟩:∃n,v.z.l.aF.length=n:=⟨_,rfl⟩;rw[hn]at hl⊢;have aw:=ok108 ay.nil;refine c107.uM hN (by simp) λbj=>?_;have XE:b<N:=(bj b _ hb).1;have k1:=λi=>Y8 (i:=i) hb hv;simp;refine aa.ab aw fw [0,1] ?_;simp[Ue];refine aa.ab aw fw [1,5,6] ?_;simp[Uf];refine aa.seq ?_;refine aa.block ?_;refine aa.loop (λq:Nat×Nat=>⟨DM.look [(1,.mF (.func 108) [.ptr b 0]),(5,.v (ti q.1)),(6,.v (ti q.2))],over [] f0,N+1000,N,[]⟩)
  (λq=>q.1<=q.2/\q.2<=n/\(∀i,i<q.1->¬kc v.z (v.z.l.aF.getD i default))/\(∀i,q.2<=i->i<n->kc v.z (v.z.l.aF.getD i default))) (λq=>q.2-q.1) (0,n) (pX bj (by omega) (by simp) ?_) ⟨by simp,by simp,λi hi=>by simp at hi,λi h1 h2=>by simp at h1;omega⟩ (λq hq=>?_)
 ·simp[hb]
 obtain⟨lo,hi⟩:=q;obtain⟨q1,q2,q3,q4⟩:=hq;simp only at q1 q2 q3 q4;refine aa.seq ?_;refine aa.ab aw fw [1,5,6,11] ?_;simp[Ug];refine aa.cond rfl (λg=>?_) (λg=>?_)
 ·have g:lo<hi:=by simpa using g
  have w1:IntKind.i64.wrap ((lo:Int)+hi)=(lo:Int)+hi:=au (by omega);obtain⟨md,hmd⟩:∃md,(lo+hi)/2=md:=⟨_,rfl⟩;refine aa.skip ?_;simp;refine aa.block ?_;refine aa.ab aw fw [1,5,6,7] ?_;have hu:IntKind.u64.wrap ((lo:Int)+hi)=(lo:Int)+hi:=by
   unfold IntKind.wrap;simp[IntKind.signed,IntKind.bits];omega
  have w2:IntKind.i64.wrap (IntKind.u64.wrap ((lo:Int)+hi)/2^min 1 IntKind.u64.bits)=md:=by
   rw[hu,show min 1 IntKind.u64.bits=1 from rfl,au (by omega)];omega
  have hmd2:lo<=md/\md<hi:=by omega
  simp[Uh,w1,w2];obtain⟨c1,aX⟩:∃c1:Bool,decide (kc v.z (v.z.l.aF.getD md default))=c1:=⟨_,rfl⟩;have dU:=k1 md;simp only[Zai,aX]at dU;have Qo:md<v.z.l.aF.length:=by omega
  refine aa.ab aw fw [1,5,6,7,21] ?_;rw[show over [] f0=f0 from rfl];simp[Ui,dU,Qo];refine aa.cond rfl (λg2=>?_) (λg2=>?_)
  ·have g2:c1=false:=by simpa using g2
   subst g2;have h3:=of_decide_eq_false aX;have w3:IntKind.i64.wrap ((md:Int)+1)=((md+1:Nat):Int):=by rw[au (by omega)];omega
   refine aa.dc aw fw [1,5,6] ?_;simp[Uj,w3];refine⟨md+1,hi,pX (L:=[]) bj (by omega) (by simp) ?_,⟨by omega,by omega,λi hi3 hp=>h3 (hm i md (by omega) Qo (by simpa using hp)),λi h4 h5=>by simpa using q4 i h4 h5⟩,by omega⟩;simp[hb]
  ·have g2:c1=true:=by simpa using g2
   subst g2;have h3:=of_decide_eq_true aX;refine aa.dc aw fw [1,5,6] ?_;simp[Uk];refine⟨lo,md,pX (L:=[]) bj (by omega) (by simp) ?_,⟨by omega,by omega,λi hi3=>by simpa using q3 i hi3,λi h4 h5=>by simpa using hm md i h4 (by omega) h3⟩,by omega⟩;simp[hb]
 ·have g:¬lo<hi:=by simpa using g
  have he:lo=hi:=by omega
  subst he;have hL:gU v.z=lo:=loI_eq (by omega) q3 λh=>q4 lo (Zae _) (by omega);refine aa.exit ?_;simp;refine aa.ab aw fw [4] ?_;simp[Ul,hL];refine aa.ret ?_;simp[NJ];rfl
noncomputable def Mt:List DV->aU->iD
 |[.v (.int .i64 n),.mF (.func 108) [.ptr b 0]],f=>⟨f b=some (.box [.ptr (eR f b) 0])/\(∃v:SV,v.at f (eR f b))/\n=(gT f (eR f b)).z.l.aF.length/\mono (gT f (eR f b)).z/\(gT f (eR f b)).z.l.aF.length<=1000000000,.v (ti (gU (gT f (eR f b)).z)),f⟩
 |_,f=>⟨False,.undef,f⟩
theorem Za{v:SV}{f:aU}{b p:Nat}{n:Int}(hb:f b=some (.box [.ptr p 0]))(hv:v.at f p):Mt [.v (ti n),.mF (.func 108) [.ptr b 0]] f=⟨n=v.z.l.aF.length/\mono v.z/\v.z.l.aF.length<=1000000000,.v (ti (gU v.z)),f⟩:=by
 have hx:∃v:SV,v.at f p:=⟨v,hv⟩;have hd:eR f b=p:=by simp[eR,hb]
 simp only[Mt,hd,fN hv,hx,hb,true_and]
theorem Zb:∀args objs,(Mt args objs).ok->(∀N,(∀r,N<=r->objs r=none)->aZ Tryz.prog 107 args objs (Mt args objs))/\∀r,objs r=none->(Mt args objs).objs r=none:=by
 intro args objs h;unfold Mt at h⊢;split at h
 ·rename_i n b;obtain⟨hb,⟨v,hv⟩,hn,hm,hl⟩:=h;rw[fN hv]at hn hm hl⊢;subst hn;exact⟨λN hN=>aZ.of (t107 hN hb hv hm hl) rfl rfl,λr hr=>hr⟩
 ·exact h.elim
theorem ok107{l:List (Nat×DM.Spec)}(h:ay Tryz.prog (aW l)):ay Tryz.prog (aW ((107,fa Mt)::l)):=ay.gV h Zb
def Gs(z:df)(a:bn):Prop:=a.f=z.fr/\a.t=z.to
instance(z:df)(a:bn):Decidable (Gs z a):=by unfold Gs;infer_instance
def qI(z:df):Nat:=gU z+(z.l.aF.drop (gU z)).findIdx λa=> !decide (Gs z a)
theorem hiI_eq{z:df}{k:Nat}(h0:gU z<=k)(hk:k<=z.l.aF.length)(h1:∀i,gU z<=i->i<k->Gs z (z.l.aF.getD i default))(h2:k<z.l.aF.length->¬Gs z (z.l.aF.getD k default)):qI z=k:=by
 unfold qI;have jt:(z.l.aF.drop (gU z)).length=z.l.aF.length-gU z:=Za8 ..
 suffices (z.l.aF.drop (gU z)).findIdx (λa=> !decide (Gs z a))=k-gU z by omega
 by_cases hl:k<z.l.aF.length
 ·rw[List.findIdx_eq (by omega)];refine⟨?_,λj hj=>?_⟩
  ·have:=h2 hl;rw[Zb1];simpa [List.getD,hl,show gU z+(k-gU z)=k by omega]using this
  ·have M8:gU z+j<z.l.aF.length:=by omega
   have:=h1 (gU z+j) (by omega) (by omega);rw[Zb1];simpa [List.getD,M8]using this
 ·obtain rfl:k=z.l.aF.length:=by omega
  rw[<-jt,List.findIdx_eq_length];intro x hx;obtain⟨i,hi,rfl⟩:=ZaY hx;rw[jt]at hi;have tg:gU z+i<z.l.aF.length:=by omega
  have:=h1 (gU z+i) (by omega) (by omega);rw[Zb1];simpa [List.getD,tg]using this
theorem WJ(z:df):gU z<=z.l.aF.length:=List.findIdx_le_length
theorem t80{f0:aU}{p N:Nat}{v:SV}(hN:∀r,N<=r->f0 r=none)(hv:v.at f0 p)(hm:mono v.z)(hl:v.z.l.aF.length<=1000000000):
  aZ Tryz.prog 80 [.ptr p 0] f0 ⟨True,.v (.eC [ti (gU v.z),ti (qI v.z)]),f0⟩:=by
 have aw:=ok107 ay.nil;refine c80.uM hN (by simp) λbj=>?_;have h1:=hv.sp;have uO:p<N:=(bj p _ h1).1;simp only[uN]at h1;have np:∀k,p≠N+k:=λk=>by omega
 have lV:∃cs,f0 p=some (.box cs):=⟨_,h1⟩;obtain⟨lo,MY⟩:∃lo,gU v.z=lo:=⟨_,rfl⟩;have U5:=WJ v.z;rw[MY]at U5⊢;simp;refine aa.ab aw fw [1] ?_;simp[adN];refine aa.le (Le.fp (l1:=[(N+2,.box [.ptr p 0])]) (l:=[(1,.ptr (N+2) 0)]) (nxt':=N+500) bj ?_ ?_ ?_ ?_ ?_) ?_
 ·omega
 ·simp
 ·simp[ca,Nat.add_assoc]
 ·simp[gS,iv,np,Nat.add_assoc,lV]
 ·simp[Nat.add_assoc]
 have jn:v.at (over [(N+2,.box [.ptr p 0])] f0) p:=hv.over bj (by simp);have k1:=λn=>Za (n:=n) (b:=N+2) (f:=over [(N+2,.box [.ptr p 0])] f0) (by simp) jn;rw[MY]at k1;refine aa.ew aw fw (rs:=Lc) rfl (by kernel_rfl) [1,4] ?_;simp[Lc,h1,np,k1,hm,hl];have hle:∀{tm nxt nxt' l},N+3<=nxt'->gp (over [(N+2,.box [.ptr p 0])] f0) (over [(N+2,.box [.ptr p 0])] f0) id tm l->Le ⟨tm,over [(N+2,.box [.ptr p 0])] f0,nxt,N,[]⟩ ⟨DM.look l,over [(N+2,.box [.ptr p 0])] f0,nxt',N,[]⟩:=by
  intro tm nxt nxt' l hn jd;refine Le.fp bj (by omega) ?_ ?_ ?_ jd
  ·simp;omega
  ·simp[ca]
  ·simp[gS,iv,np,lV]
 refine aa.ab aw fw [1,4,5] ?_;simp[adO];refine aa.seq ?_;refine aa.block ?_;refine aa.loop (λj:Nat=>⟨DM.look [(1,.ptr (N+2) 0),(4,.v (ti lo)),(5,.v (ti j))],over [(N+2,.box [.ptr p 0])] f0,N+1000,N,[]⟩)
  (λj=>lo<=j/\j<=v.z.l.aF.length/\∀i,lo<=i->i<j->Gs v.z (v.z.l.aF.getD i default)) (λj=>v.z.l.aF.length-j) lo (hle (by omega) ?_) ⟨Zae _,U5,λi a b=>by omega⟩ (λj hj=>?_)
 ·simp
 obtain⟨j1,j2,j3⟩:=hj;obtain⟨c1,aX⟩:∃c1:Bool,decide (j<v.z.l.aF.length/\Gs v.z (v.z.l.aF.getD j default))=c1:=⟨_,rfl⟩;refine aa.seq ?_;refine aa.b7 aw fw [(1,.ptr (N+2) 0),(4,.v (ti lo)),(5,.v (ti j)),(54,.v (.bool c1))] ?_ ?_
 ·by_cases q1:j<v.z.l.aF.length
  ·have rr:=kY q1;obtain⟨⟨af,at',ae,ac,ao⟩,hx⟩:∃x,v.z.l.aF.getD j default=x:=⟨_,rfl⟩;rw[hx]at rr aX;simp only[bn.enc]at rr;simp only[Gs]at aX;by_cases q2:af=v.z.fr
   ·by_cases q3:at'=v.z.to
    ·have:c1=true:=by rw[<-aX];simp[q1,q2,q3]
     simp[Ig,h1,np,q1,rr,q2,q3,this]
    ·have:c1=false:=by rw[<-aX];simp[q3]
     simp[Ig,h1,np,q1,rr,q2,q3,this]
   ·have:c1=false:=by rw[<-aX];simp[q2]
    simp[Ig,h1,np,q1,rr,q2,this]
  ·have:c1=false:=by rw[<-aX];simp;omega
   simp[Ig,h1,np,q1,this]
 refine aa.cond rfl (λg=>?_) (λg=>?_)
 ·have g:c1=true:=by simpa using g
  subst g;obtain⟨g1,g2⟩:=of_decide_eq_true aX;have w1:IntKind.i64.wrap ((j:Int)+1)=((j+1:Nat):Int):=by rw[au (by omega)];omega
  refine aa.skip ?_;simp;refine aa.block ?_;refine aa.dc aw fw [1,4,5] ?_;simp[adP,w1];refine⟨j+1,hle (by omega) ?_,⟨by omega,by omega,λi a b=>?_⟩,by omega⟩
  ·simp
  ·by_cases e:i=j
   ·subst e;simpa using g2
   ·simpa using j3 i a (by omega)
 ·have g:c1=false:=by simpa using g
  subst g;have hn:=of_decide_eq_false aX;have hH:qI v.z=j:=hiI_eq (by omega) j2 (by rw[MY];exact j3) λh hp=>hn ⟨h,hp⟩;rw[hH];refine aa.exit ?_;simp;refine aa.ab aw fw [2,3] ?_;simp[adQ];refine aa.le (pX (l:=[(2,.v (ti lo)),(3,.v (ti j))]) (nxt':=N+6000) bj (by omega) (by simp) ?_) ?_
  ·simp
  refine aa.ret ?_;simp[Uo];rfl
noncomputable def Zc:List DV->aU->iD
 |[.ptr p 0],f=>⟨(∃v:SV,v.at f p)/\mono (gT f p).z/\(gT f p).z.l.aF.length<=1000000000,.v (.eC [ti (gU (gT f p).z),ti (qI (gT f p).z)]),f⟩
 |_,f=>⟨False,.undef,f⟩
theorem k80_eq{v:SV}{f:aU}{p:Nat}(hv:v.at f p):Zc [.ptr p 0] f=⟨mono v.z/\v.z.l.aF.length<=1000000000,.v (.eC [ti (gU v.z),ti (qI v.z)]),f⟩:=by
 have hx:∃v:SV,v.at f p:=⟨v,hv⟩;simp only[Zc,fN hv,hx,true_and]
theorem k80_ok:∀args objs,(Zc args objs).ok->(∀N,(∀r,N<=r->objs r=none)->aZ Tryz.prog 80 args objs (Zc args objs))/\∀r,objs r=none->(Zc args objs).objs r=none:=by
 intro args objs h;unfold Zc at h⊢;split at h
 ·rename_i p;obtain⟨⟨v,hv⟩,hm,hl⟩:=h;rw[fN hv]at hm hl⊢;exact⟨λN hN=>aZ.of (t80 hN hv hm hl) rfl rfl,λr hr=>hr⟩
 ·exact h.elim
theorem ok80{l:List (Nat×DM.Spec)}(h:ay Tryz.prog (aW l)):ay Tryz.prog (aW ((80,fa Zc)::l)):=ay.gV h k80_ok
abbrev eE:=Int×Int×List It
def qG(z:df)(r:bE)(i:Nat):Option eE:=if(z.l.aF.getD i default).term=r.a then some ((i:Int),r.bF+(z.l.aF.getD i default).cost,[])else none
def ni(z:df)(r:bE)(m:Int):eE:=(m,r.bF,[(r.a,z.fr,m),(r.b,m,z.to)])
def bQ(z:df)(r:bE):List eE:=
 if r.kind=1 then(if z.fr=z.to then [(z.fr,r.bF,[])]else [])
 else if r.kind=2 then(List.range' (gU z) (qI z-gU z)).filterMap (qG z r)
 else if r.kind=3 then [(z.fr,r.bF,[(r.a,z.fr,z.to)])]
 else if r.kind=4 then(List.range ((z.to-z.fr).toNat+1)).map λ(d:Nat)=>ni z r (z.fr+(d:Int))
 else []
def c8(z:df)(r:bE):List eE:=if r.kind=4 then [ni z r z.fr,ni z r z.to]else bQ z r
def oq(z:df)(fin:List Bool)(i:eE):Prop:=∀x∈i.2.2,ku z x->fin.getD x.1.toNat false=true
abbrev ou(z:df)(best:List br)(i:eE):br:=iX z best i.2.1 i.2.2
theorem tK(z:df):gU z<=qI z/\qI z<=z.l.aF.length:=by
 have:=WJ z;unfold qI;have h:(z.l.aF.drop (gU z)).findIdx (λa=> !decide (Gs z a))<=(z.l.aF.drop (gU z)).length:=List.findIdx_le_length;rw[Za8]at h;omega
theorem Jm{z:df}{i:Nat}(h1:gU z<=i)(h2:i<qI z):Gs z (z.l.aF.getD i default):=by
 have hh:=(tK z).2;have h3:i-gU z<(z.l.aF.drop (gU z)).findIdx (λa=> !decide (Gs z a)):=by unfold qI at h2;omega
 have:=List.not_of_lt_findIdx h3;rw[Zb1]at this;have hl:i<z.l.aF.length:=by omega
 simpa [List.getD,hl,show gU z+(i-gU z)=i by omega]using this
theorem WR{z:df}(hm:mono z)(hs:∀i j:Nat,i<=j->j<z.l.aF.length->gU z<=i->Gs z (z.l.aF.getD j default)->Gs z (z.l.aF.getD i default)){i:Nat}(hi:i<z.l.aF.length)(h:Gs z (z.l.aF.getD i default)):gU z<=i/\i<qI z:=by
 have hp:kc z (z.l.aF.getD i default):=.inr ⟨h.1,by have:=h.2;omega⟩;have h1:gU z<=i:=by
  rcases Zbz i (gU z)with cV|zx
  ·have:=List.not_of_lt_findIdx cV;have e:z.l.aF.getD i default=z.l.aF[i]:=by simp[List.getD,hi]
   rw[e]at hp;exact absurd hp (by simpa using this)
  ·exact zx
 refine⟨h1, ?_⟩;rcases Zbz i (qI z)with cV|zx
 ·exact cV
 ·exfalso;have hh:=(tK z).2;have hl:qI z<z.l.aF.length:=by omega
  have h2:(z.l.aF.drop (gU z)).findIdx (λa=> !decide (Gs z a))<(z.l.aF.drop (gU z)).length:=by
   rw[Za8];unfold qI at hl;omega
  have h3:=List.findIdx_getElem (w:=h2);rw[Zb1]at h3;have h4:=hs (qI z) i zx hi (tK z).1 h;simp only[Zbm,decide_eq_false_iff_not]at h3;apply h3;have e:z.l.aF.getD (qI z) default=z.l.aF[qI z]:=by simp[List.getD,hl]
  rw[e]at h4;exact h4
theorem xY{z:df}(qk:z.fr<=z.to){r:bE}{i:eE}(h:i∈c8 z r):i∈bQ z r:=by
 unfold c8 at h;split at h
 ·rename_i hk;unfold bQ;rw[if_neg (by omega),if_neg (by omega),if_neg (by omega),if_pos hk,Zal];simp only[Zag,Zap,or_false]at h;rcases h with rfl|rfl
  ·exact⟨0,by simp,by simp⟩
  ·exact⟨(z.to-z.fr).toNat,by simp,by rw[show z.fr+((z.to-z.fr).toNat:Int)=z.to by omega]⟩
 ·exact h
theorem WS{z:df}{r:bE}{i:eE}(h:i∈bQ z r){x:It}(hx:x∈i.2.2)(hi:ku z x):i∈c8 z r/\gZ r x.1:=by
 unfold bQ at h;split at h
 ·split at h
  ·simp only[Zag,Zap,or_false]at h;subst h;cases hx
  ·cases h
 ·split at h
  ·obtain⟨k,_,hk⟩:=Zbn.1 h;unfold qG at hk;split at hk
   ·cases hk;cases hx
   ·cases hk
  ·split at h
   ·rename_i h1 h2 h3;simp only[Zag,Zap,or_false]at h;subst h;simp only[Zag,Zap,or_false]at hx;subst hx;refine⟨?_,.inl ⟨h3,rfl⟩⟩;unfold c8 bQ;rw[if_neg (by omega),if_neg h1,if_neg h2,if_pos h3];simp
   ·split at h
    ·rename_i h4;obtain⟨d,_,rfl⟩:=Zal.1 h;unfold c8;rw[if_pos h4];simp only[ni,Zag,Zap,or_false]at hx;unfold ku at hi;rcases hx with rfl|rfl
     ·refine⟨?_,.inr ⟨h4,.inl rfl⟩⟩;simp only at hi;rw[hi.2];simp
     ·refine⟨?_,.inr ⟨h4,.inr rfl⟩⟩;simp only at hi;rw[hi.1];simp
    ·cases h
theorem P6{z:df}{a b:List br}{i:eE}(h:∀x∈i.2.2,ku z x->bv a x.1=bv b x.1):ou z a i=ou z b i:=by
 show comb _ _=comb _ _
 congr 1
 refine Zbq λx hx=>?_;unfold iO;split
 ·rename_i e;exact h x hx e
 ·rfl
theorem Zg{p:Int}(hp:0<=p){l:List br}(hl:∀v∈l,kU v){w:br}(hw:w∈l)(hw2:w.cost<1099511627776\/w.size=0):¬(comb p l).lt w:=by
 have key:∀(l:List br),(∀v∈l,kU v)->∀(c s:Int),0<=c->0<=s->(∀w∈l,¬(en c s l).lt w)/\(en c s l).cost>=min c 1099511627776/\(en c s l).size>=min s 1099511627776:=by
  intro l;induction l with
  |nil=>intro _ c s _ _;exact⟨λw hw=>(by cases hw),(by simp only[en];omega),(by simp only[en];omega)⟩
  |cons v l ih=>
   intro hl c s hc hs;obtain⟨v1,v2,v3,v4⟩:=hl v (by simp);obtain⟨i1,i2,i3⟩:=ih (λv hv=>hl v (by simp[hv])) (min (c+v.cost) 1099511627776) (min (s+v.size) 1099511627776) (by omega) (by omega);simp only[en];refine⟨λw hw=>?_,by omega,by omega⟩;rcases Zag.1 hw with rfl|hw
   ·unfold br.lt;omega
   ·exact i1 w hw
 have:=(key l hl p 1 hp (by omega)).1 w hw;unfold comb;split
 ·rename_i h;obtain⟨v1,v2,v3,v4⟩:=hl w hw;unfold br.lt at this⊢;simp only at this⊢;omega
 ·exact this
structure Kx(z:df):Prop where
 hn:nF z.n
 hl:vN z.l
 hc:CO z.c
 ft:0<=z.fr/\z.fr<=z.to
theorem xZ{z:df}(K:Kx z){r:bE}(hr:r∈z.n.rules){i:eE}(hi:i∈bQ z r):0<=i.2.1/\i.2.1<=4000000000000:=by
 obtain⟨q1,q2,q3,q4,q5⟩:=K.hn.2.2.2 r hr;unfold bQ at hi;split at hi
 ·split at hi
  ·simp only[Zag,Zap,or_false]at hi;subst hi;simp only;omega
  ·cases hi
 ·split at hi
  ·obtain⟨k,wI,hk⟩:=Zbn.1 hi;have:=(tK z).2;have:=(tK z).1;simp only[Zbh]at wI;have QA:k<z.l.aF.length:=by omega
   unfold qG at hk;split at hk
   ·cases hk;have:=K.hl.2.2.2 _ (bw QA);simp only;omega
   ·cases hk
  ·split at hi
   ·simp only[Zag,Zap,or_false]at hi;subst hi;simp only;omega
   ·split at hi
    ·obtain⟨d,_,rfl⟩:=Zal.1 hi;simp only[ni];omega
    ·cases hi
theorem nj{z:df}(K:Kx z){r:bE}(hr:r∈z.n.rules){i:eE}(hi:i∈bQ z r){x:It}(hx:x∈i.2.2):0<=x.1/\x.1<z.n.an:=by
 obtain⟨q1,q2,q3,q4,q5⟩:=K.hn.2.2.2 r hr;unfold bQ at hi;split at hi
 ·split at hi
  ·simp only[Zag,Zap,or_false]at hi;subst hi;cases hx
  ·cases hi
 ·split at hi
  ·obtain⟨k,wI,hk⟩:=Zbn.1 hi;unfold qG at hk;split at hk
   ·cases hk;cases hx
   ·cases hk
  ·split at hi
   ·simp only[Zag,Zap,or_false]at hi;subst hi;simp only[Zag,Zap,or_false]at hx;subst hx;simp only;omega
   ·split at hi
    ·obtain⟨d,_,rfl⟩:=Zal.1 hi;simp only[ni,Zag,Zap,or_false]at hx;rcases hx with rfl|rfl<;>simp only<;>omega
    ·cases hi
theorem Jn{z:df}(K:Kx z){best:List br}(hb:∀v∈best,kU v)(i:eE):∀v∈i.2.2.map (λx=>iO z best x.1 x.2.1 x.2.2),kU v:=by
 intro v hv;obtain⟨x,_,rfl⟩:=Zal.1 hv;exact F8 K.hc hb _ _ _
theorem Gf{z:df}(K:Kx z){best:List br}(hb:∀v∈best,kU v){r:bE}(hr:r∈z.n.rules){i:eE}(hi:i∈bQ z r):kU (ou z best i):=by
 have:=xZ K hr hi;exact iJ (Jn K hb i) this.1 this.2
theorem WT{z:df}(K:Kx z){best:List br}(hb:∀v∈best,kU v){r:bE}(hr:r∈z.n.rules){i:eE}(hi:i∈bQ z r){x:It}(hx:x∈i.2.2)(qu:ku z x)(qy:(bv best x.1).cost<1099511627776\/(bv best x.1).size=0):¬(ou z best i).lt (bv best x.1):=by
 refine Zg (xZ K hr hi).1 (Jn K hb i) (Zal.2 ⟨x,hx, ?_⟩) qy;unfold iO;exact if_pos qu
def kg(st:eo)(x:Int):Bool:=st.fin.getD x.toNat false
structure KN(z:df)(st:eo):Prop where
 wf:WF z.n.an.toNat st
 ord:∀x y:Int,0<=x->x<z.n.an->0<=y->y<z.n.an->kg st x=true->kg st y=false->¬(bv st.best y).lt (bv st.best x)
 att:∀x:Int,0<=x->x<z.n.an->(bv st.best x).cost<1099511627776->∃(k:Nat) (r:bE),z.n.rules[k]? =some r/\r.head=x/\∃i∈bQ z r,oq z st.fin i/\ou z st.best i=bv st.best x
 der:∀x:Int,0<=x->x<z.n.an->(bv st.best x).cost<1099511627776->Yy z.n z.l x z.fr.toNat z.to.toNat (bv st.best x)
def done(z:df)(st:eo)(r:bE)(i:eE):Prop:=oq z st.fin i->¬(ou z st.best i).lt (bv st.best r.head)
section
variable{z:df}{st:eo}
theorem Cf(st:eo)(x:Int):st.fin.getD x.toNat false=kg st x:=rfl
theorem jv(K:Kx z)(W:WF z.n.an.toNat st){h:Int}(hh:0<=h/\h<z.n.an){v:br}{y:Int}(hy:0<=y):bv (dX st h v).best y=bv st.best y\/(y=h/\bv (dX st h v).best y=v/\kg st h=false/\v.cost<1099511627776/\v.lt (bv st.best h)):=by
 rcases MA st h v with e|⟨e,h1,h2,h3⟩
 ·rw[e];exact .inl rfl
 ·rw[e,xX ⟨hh.1,by rw[W.lb];omega⟩ hy];split
  ·rename_i e2;exact .inr ⟨e2,rfl,h1,h2,h3⟩
  ·exact .inl rfl
theorem sW(K:Kx z)(W:WF z.n.an.toNat st){h:Int}(hh:0<=h/\h<z.n.an){v:br}{r:bE}(hr:r∈z.n.rules){i:eE}(hi:i∈bQ z r)(hf:oq z st.fin i):ou z (dX st h v).best i=ou z st.best i:=by
 refine P6 λx hx qu=>?_;rcases jv K W hh (v:=v) (nj K hr hi hx).1 with e|⟨e,_,h1,_⟩
 ·exact e
 ·have:=hf x hx qu;rw[Cf,e,h1]at this;cases this
theorem WU(K:Kx z)(W:WF z.n.an.toNat st){h:Int}(hh:0<=h/\h<z.n.an){v w:br}{y:Int}(hy:0<=y)(hw:¬w.lt (bv st.best y)):¬w.lt (bv (dX st h v).best y):=by
 rcases jv K W hh (v:=v) hy with e|⟨rfl,e,_,_,h3⟩
 ·rw[e];exact hw
 ·rw[e];unfold br.lt at*
  omega
theorem uF(K:Kx z)(W:WF z.n.an.toNat st){h:Int}(hh:0<=h/\h<z.n.an){v:br}{r:bE}(hr:r∈z.n.rules){i:eE}(hi:i∈bQ z r)(hd:done z st r i):done z (dX st h v) r i:=by
 intro hf;rw[lg]at hf;rw[sW K W hh hr hi hf];exact WU K W hh (K.hn.2.2.2 r hr).1 (hd hf)
theorem Zh(C:lK z.n z.l z.c z.fr.toNat z.to.toNat)(K:Kx z){best:List br}(hb:∀v∈best,kU v)(hd:∀x:Int,0<=x->x<z.n.an->(bv best x).cost<1099511627776->Yy z.n z.l x z.fr.toNat z.to.toNat (bv best x))
  {k:Nat} {r:bE} (hk:z.n.rules[k]? =some r) {i:eE} (hi:i∈bQ z r) (hf:(ou z best i).cost<1099511627776):eQ z.n z.l r.head z.fr.toNat z.to.toNat k i.1 (ou z best i):=by
 have hr:r∈z.n.rules:=Zaq hk;obtain⟨q1,q2,q3,q4,q5⟩:=K.hn.2.2.2 r hr;obtain⟨hf0,hf1⟩:=K.ft;obtain⟨s,hs⟩:=Zad hf0;obtain⟨t,ht⟩:=Zad (show 0<=z.to by omega);have es:z.fr.toNat=s:=by omega
 have et:z.to.toNat=t:=by omega
 have val:∀(x:Int) (a b:Nat),0<=x->x<z.n.an->s<=a->a<=b->b<=t->(iO z best x a b).cost<1099511627776->Yy z.n z.l x a b (iO z best x a b):=by
  intro x a b h0 h1 a1 a2 a3 hfv;unfold iO at hfv⊢;split
  ·rename_i e;rw[if_pos e]at hfv;have e1:a=z.fr.toNat:=by omega
   have e2:b=z.to.toNat:=by omega
   rw[e1,e2];exact hd x h0 h1 hfv
  ·rename_i e;rw[if_neg e]at hfv;rcases(C.Qz x a b h0 h1 (by omega) a2 (by omega) (by omega)).top with e|⟨⟨k,_,d⟩,_⟩
   ·rw[e]at hfv;exact absurd hfv (by decide)
   ·exact⟨k,_,d⟩
 have vok:∀(x a b:Int),kU (iO z best x a b):=λx a b=>F8 K.hc hb x a b;unfold bQ at hi;split at hi
 ·rename_i h1;split at hi
  ·rename_i h2;simp only[Zag,Zap,or_false]at hi;subst hi;have e:z.to.toNat=z.fr.toNat:=by omega
   rw[e,show z.fr=(z.fr.toNat:Int)by omega];exact eQ.empty hk h1 hf
  ·cases hi
 ·split at hi
  ·rename_i h1;obtain⟨a,Ys,ha⟩:=Zbn.1 hi;have:=tK z;simp only[Zbh]at Ys;have ky:a<z.l.aF.length:=by omega
   have dy:=Jm (z:=z) (i:=a) (by omega) (by omega);unfold qG at ha;split at ha
   ·rename_i Jo;cases ha;exact eQ.term hk h1 (a:=a) (x:=z.l.aF.getD a default) (by simp[List.getD,ky]) (by rw[dy.1];omega) (by rw[dy.2];omega) Jo hf
   ·cases ha
  ·split at hi
   ·rename_i h1;simp only[Zag,Zap,or_false]at hi;subst hi;have UN:(comb r.bF [iO z best r.a z.fr z.to]).cost<1099511627776:=hf;have hv:=DE q3 UN;have d:=val r.a s t (by omega) (by omega) (Zae _) (by omega) (Zae _) (by rw[<-hs,<-ht];exact hv);obtain⟨k1,g1,d1⟩:=d;rw[<-hs,<-ht]at d1;have:=eQ.unary hk h1 d1 UN;rw[es,et];rw[hs]at this⊢;exact this
   ·split at hi
    ·rename_i h1;obtain⟨d,hd0,rfl⟩:=Zal.1 hi;simp only[ZaM]at hd0;have UN:(comb r.bF [iO z best r.a z.fr (z.fr+(d:Int)),iO z best r.b (z.fr+(d:Int)) z.to]).cost<1099511627776:=hf;have hv:=DF q3 (vok _ _ _).1 (vok _ _ _).1 UN;have em:z.fr+(d:Int)=((s+d:Nat):Int):=by omega
     rw[em,hs,ht]at hv;obtain⟨k1,g1,d1⟩:=val r.a s (s+d) (by omega) (by omega) (Zae _) (by omega) (by omega) hv.1;obtain⟨k2,g2,d2⟩:=val r.b (s+d) t (by omega) (by omega) (by omega) (by omega) (Zae _) hv.2;rw[em,hs,ht]at UN;have:=eQ.binary hk h1 (by omega) (by omega) d1 d2 UN;rw[es,et];show eQ z.n z.l r.head s t k (z.fr+(d:Int)) (comb r.bF [iO z best r.a z.fr (z.fr+(d:Int)),iO z best r.b (z.fr+(d:Int)) z.to]);rw[em,hs,ht];exact this
    ·cases hi
theorem KN.offer(C:lK z.n z.l z.c z.fr.toNat z.to.toNat)(K:Kx z)(h:KN z st){k:Nat}{r:bE}(hk:z.n.rules[k]? =some r){i:eE}(hi:i∈bQ z r)(hf:oq z st.fin i)
  (ho:(ou z st.best i).lt (bv st.best r.head)->∀x:Int,0<=x->x<z.n.an->kg st x=true->¬(ou z st.best i).lt (bv st.best x)):KN z (dX st r.head (ou z st.best i)):=by
 have hr:r∈z.n.rules:=Zaq hk;have hh:0<=r.head/\r.head<z.n.an:=⟨(K.hn.2.2.2 r hr).1,(K.hn.2.2.2 r hr).2.1⟩;obtain⟨V,hV⟩:∃V,ou z st.best i=V:=⟨_,rfl⟩;have PV:kU V:=by rw[<-hV];exact Gf K h.wf.bo hr hi
 have W2:WF z.n.an.toNat (dX st r.head V):=h.wf.offer (by omega) PV;have mL:∀x,kg (dX st r.head V) x=kg st x:=λx=>by unfold kg;rw[lg]
 rw[hV]at ho⊢;refine⟨W2,λx y x0 x1 y0 y1 fx fy=>?_,λx x0 x1 hx=>?_,λx x0 x1 hx=>?_⟩
 ·rw[mL]at fx fy;have ex:bv (dX st r.head V).best x=bv st.best x:=by
   rcases jv K h.wf hh (v:=V) x0 with e|⟨rfl,_,h1,_⟩
   ·exact e
   ·rw[fx]at h1;cases h1
  rw[ex];rcases jv K h.wf hh (v:=V) y0 with e|⟨rfl,e,h1,_,h3⟩
  ·rw[e];exact h.ord x y x0 x1 y0 y1 fx fy
  ·rw[e];exact ho h3 x x0 x1 fx
 ·rcases jv K h.wf hh (v:=V) x0 with e|⟨rfl,e,h1,_,h3⟩
  ·rw[e]at hx⊢;obtain⟨k',r',te,ff,i',nB,UN,Ar⟩:=h.att x x0 x1 hx;exact⟨k',r',te,ff,i',nB,by rw[lg];exact UN,by rw[sW K h.wf hh (Zaq te) nB UN];exact Ar⟩
  ·rw[e];exact⟨k,r,hk,rfl,i,hi,by rw[lg];exact hf,by rw[sW K h.wf hh hr hi hf];exact hV⟩
 ·rcases jv K h.wf hh (v:=V) x0 with e|⟨rfl,e,h1,h2,h3⟩
  ·rw[e]at hx⊢;exact h.der x x0 x1 hx
  ·rw[e];have:=Zh C K h.wf.bo h.der hk hi (by rw[hV];exact h2);rw[hV]at this;exact⟨_,_,this⟩
theorem Cg(K:Kx z)(W:WF z.n.an.toNat st){r:bE}(hr:r∈z.n.rules){i:eE}(hi:i∈bQ z r)(hf:oq z st.fin i)
  (ho:kg st r.head=true->¬(ou z st.best i).lt (bv st.best r.head)):done z (dX st r.head (ou z st.best i)) r i:=by
 have hh:0<=r.head/\r.head<z.n.an:=⟨(K.hn.2.2.2 r hr).1,(K.hn.2.2.2 r hr).2.1⟩;intro _;rw[sW K W hh hr hi hf];have PV:=Gf K W.bo hr hi;obtain⟨V,hV⟩:∃V,ou z st.best i=V:=⟨_,rfl⟩;rw[hV]at ho PV⊢;unfold dX;split
 ·rename_i hc;rcases hc with hc|hc|hc
  ·exact ho hc
  ·have hb:kU (bv st.best r.head):=W.bo _ (bw (by rw[W.lb];omega));by_cases cV:V.lt (bv st.best r.head)
   ·exfalso;obtain⟨b1,b2,b3,b4⟩:=hb;have Cx:(bv st.best r.head).cost=1099511627776:=by unfold br.lt at cV;omega
    have hold:(bv st.best r.head)=⟨1099511627776,0⟩:=by
     rcases ilt (st.jt.getD r.head.toNat 0)with h0|h0
     ·exact(W.old r.head.toNat (by omega) h0).2
     ·have:=W.Mz r.head.toNat (by omega) h0;unfold bv at Cx;omega
    rw[hold]at cV;obtain⟨c1,c2,c3,c4⟩:=PV;unfold br.lt at cV;simp only at cV;omega
   ·exact cV
  ·exact hc
 ·have hbs:bv (st.best.set r.head.toNat V) r.head=V:=by
   rw[xX ⟨hh.1,by rw[W.lb];omega⟩ hh.1,if_pos rfl]
  split;all_goals
   show ¬V.lt (bv (st.best.set r.head.toNat V) r.head);rw[hbs];unfold br.lt;omega
end
def fV(z:df)(r:bE)(st:eo)(i:eE):eo:=if dG z i.2.2=true then st else dX st r.head (ou z st.best i)
def zb(z:df)(st:eo):eo:=z.n.rules.foldl (λst r=>(bQ z r).foldl (fV z r) st) st
def gz(z:df)(r:bE)(st:eo)(i:eE):eo:=if dG z i.2.2=true/\l8 z st.fin i.2.2=false then dX st r.head (ou z st.best i)else st
def zP(z:df)(x:Int)(st:eo)(r:bE):eo:=if gZ r x then(c8 z r).foldl (gz z r) st else st
def mn(z:df)(st:eo):eo:=z.n.rules.foldl (zP z (st.s.e 0).x) (nv st)
def fO(z:df):Nat->eo->eo
 |0,st=>st
 |f+1,st=>if st.s.heap=[]then st else fO z f (mn z st)
def sc(st:eo):Nat:=st.fin.count false
def fj(n:Nat):eo:=⟨List.replicate n ⟨1099511627776,0⟩,List.replicate n false,List.replicate n (-1),⟨[],0,[],0,0,0⟩⟩
abbrev PR:=bE×eE
def JU(z:df)(p:PR):Prop:=p.1∈z.n.rules/\p.2∈bQ z p.1
def zc(z:df)(st:eo)(p:PR):Prop:=done z st p.1 p.2
structure Ch(z:df)(P:eo->Prop)(ok:PR->Prop)(f:eo->PR->eo):Prop where
 aD:∀st p,P st->ok p->P (f st p)
 self:∀st p,P st->ok p->zc z (f st p) p
 rest:∀st p,P st->ok p->∀q,JU z q->zc z st q->zc z (f st p) q
 clock:∀st p,P st->ok p->(f st p).s.clock<=st.s.clock+1
theorem Ch.fold{z:df}{P:eo->Prop}{ok:PR->Prop}{f:eo->PR->eo}(h:Ch z P ok f)(aG:∀p,ok p->JU z p):∀(L:List PR),(∀p∈L,ok p)->∀st,P st->
  P (L.foldl f st)/\(∀p∈L,zc z (L.foldl f st) p)/\(∀q,JU z q->zc z st q->zc z (L.foldl f st) q)/\(L.foldl f st).s.clock<=st.s.clock+L.length
 |[],_,st,hp=>⟨hp,λp hp=>(by cases hp),λq _ h=>h,by simp⟩
 |p::L,hL,st,hp=>by
  have h1:=hL p (by simp);obtain⟨a1,a2,a3,a4⟩:=Ch.fold h aG L (λq hq=>hL q (by simp[hq])) (f st p) (h.aD st p hp h1);rw[Zaz];refine⟨a1,λq hq=>?_,λq hq hd=>a3 q hq (h.rest st p hp h1 q hq hd), ?_⟩
  ·rcases Zag.1 hq with rfl|hq
   ·exact a3 _ (aG _ h1) (h.self st _ hp h1)
   ·exact a2 q hq
  ·have:=h.clock st p hp h1;simp only[Za9];omega
theorem nL{σ α β:Type}(f:σ->α×β->σ)(g:α->List β):∀(l:List α) (x:σ),l.foldl (λx a=>(g a).foldl (λx b=>f x (a,b)) x) x=(l.flatMap λa=>(g a).map λb=>(a,b)).foldl f x
 |[],x=>rfl
 |a::l,x=>by
  rw[Zaz,Zbo,Zat,nL f g l,Zb5]
theorem uG{z:df}{l:List It}(h:¬dG z l=true):∀x∈l,¬ku z x:=by
 intro x hx hi;exact h (Zcb.2 ⟨x,hx,by simpa using hi⟩)
section
variable{z:df}
theorem kj{α:Type}{n x:Nat}{a d:α}(h:x<n):(List.replicate n a).getD x d=a:=by simp[List.getD,h]
theorem KN0(K:Kx z):KN z (fj z.n.an.toNat):=by
 have hb:∀x:Int,0<=x->x<z.n.an->bv (fj z.n.an.toNat).best x=⟨1099511627776,0⟩:=λx h0 h1=>kj (by omega);have hf:∀x:Int,0<=x->x<z.n.an->kg (fj z.n.an.toNat) x=false:=λx h0 h1=>kj (by omega);refine⟨⟨by simp[fj],by simp[fj],by simp[fj],⟨by simp[fj,qE],λe he=>by simp[fj]at he,λe he=>by simp[fj]at he,λe he=>by simp[fj]at he⟩,λk hk=>by simp[fj]at hk,λk _ hk=>by simp[fj]at hk,
  λe he=>by simp[fj]at he,λx hx h0 _=>?_,λx hx h0=>⟨kj hx,kj hx⟩,λx hx h0=>?_,λx hx=>?_,by simp[fj],λv hv=>?_⟩,λx y x0 x1 _ _ fx _=>?_,λx x0 x1 hx=>?_,λx x0 x1 hx=>?_⟩
 ·have:=kj (a:=(-1:Int)) (d:=0) hx;simp only[fj]at h0;omega
 ·have:=kj (a:=(-1:Int)) (d:=0) hx;simp only[fj]at h0;omega
 ·have:=kj (a:=(-1:Int)) (d:=0) hx;simp only[fj];omega
 ·rw[ZbH hv];exact⟨by decide,by decide,by decide,by decide⟩
 ·rw[hf x x0 x1]at fx;cases fx
 ·rw[hb x x0 x1]at hx;exact absurd hx (by decide)
 ·rw[hb x x0 x1]at hx;exact absurd hx (by decide)
theorem Of{p:PR}(h:JU z p):∃k:Nat,z.n.rules[k]? =some p.1:=by
 obtain⟨k,hk,e⟩:=ZaY h.1;exact⟨k,by rw[Zan hk,e]⟩
def PI(z:df)(st:eo):Prop:=KN z st/\∀x:Int,0<=x->x<z.n.an->kg st x=false
theorem Og(C:lK z.n z.l z.c z.fr.toNat z.to.toNat)(K:Kx z):Ch z (PI z) (JU z) (λst p=>fV z p.1 st p.2):=by
 have hh:∀p,JU z p->0<=p.1.head/\p.1.head<z.n.an:=λp hp=>⟨(K.hn.2.2.2 _ hp.1).1,(K.hn.2.2.2 _ hp.1).2.1⟩;refine⟨λst p hp ho=>?_,λst p hp ho=>?_,λst p hp ho q hq hd=>?_,λst p hp ho=>?_⟩<;>unfold fV
 ·split
  ·exact hp
  ·rename_i hw;obtain⟨k,hk⟩:=Of ho;have hf:oq z st.fin p.2:=λx hx hi=>absurd hi (uG hw x hx);refine⟨hp.1.offer C K hk ho.2 hf λ_ x x0 x1 fx=>?_,λx x0 x1=>?_⟩
   ·rw[hp.2 x x0 x1]at fx;cases fx
   ·unfold kg;rw[lg];exact hp.2 x x0 x1
 ·split
  ·rename_i hw;intro hf;exfalso;obtain⟨x,hx,hi⟩:=Zcb.1 hw;have qy:=nj K ho.1 ho.2 hx;have:=hf x hx (by simpa using hi);rw[Cf,hp.2 x.1 qy.1 qy.2]at this;cases this
  ·rename_i hw;refine Cg K hp.1.wf ho.1 ho.2 (λx hx hi=>absurd hi (uG hw x hx)) λhf=>?_;rw[hp.2 _ (hh p ho).1 (hh p ho).2]at hf;cases hf
 ·split
  ·exact hd
  ·exact uF K hp.1.wf (hh p ho) hq.1 hq.2 hd
 ·split
  ·omega
  ·exact za hp.1.wf (by have:=hh p ho;omega) _
def IV(z:df)(st:eo):Prop:=KN z st/\∀q,JU z q->zc z st q
def WV(z:df):List PR:=z.n.rules.flatMap λr=>(bQ z r).map λi=>(r,i)
theorem Jp{q:PR}:q∈WV z↔JU z q:=by
 unfold WV JU;constructor
 ·intro h;obtain⟨r,hr,h⟩:=ZaU.1 h;obtain⟨i,hi,rfl⟩:=Zal.1 h;exact⟨hr,hi⟩
 ·rintro⟨h1,h2⟩;exact ZaU.2 ⟨q.1,h1,Zal.2 ⟨q.2,h2,rfl⟩⟩
theorem WX(st:eo):zb z st=(WV z).foldl (λst p=>fV z p.1 st p.2) st:=nL (λst (p:PR)=>fV z p.1 st p.2) (bQ z) _ _
theorem PI0(K:Kx z):PI z (fj z.n.an.toNat):=⟨KN0 K,λx h0 h1=>kj (by omega)⟩
theorem Zi(C:lK z.n z.l z.c z.fr.toNat z.to.toNat)(K:Kx z):IV z (zb z (fj z.n.an.toNat))/\(zb z (fj z.n.an.toNat)).s.clock<=(WV z).length:=by
 rw[WX];obtain⟨a1,a2,a3,a4⟩:=(Og C K).fold (λ_ h=>h) (WV z) (λp hp=>Jp.1 hp) _ (PI0 K);exact⟨⟨a1.1,λq hq=>a2 q (Jp.2 hq)⟩,by simpa [fj]using a4⟩
theorem pZ{st:eo}(h:WF z.n.an.toNat st)(bH:st.s.heap≠[]){y:Int}(h0:0<=y)(h1:y<z.n.an):kg (nv st) y=if y=(st.s.e 0).x then true else kg st y:=by
 have CA:0<st.s.heap.length:=Zbr.2 bH;have a:=h.Gd _ (fY.2 ⟨0,CA,rfl⟩);have e0:(st.s.e (0:Nat)).x=(st.s.e 0).x:=rfl;rw[e0]at a;unfold kg nv;simp only;rw[o6 (by have:=h.lf;omega)];by_cases e:y=(st.s.e 0).x
 ·rw[if_pos (by omega),if_pos e]
 ·rw[if_neg (by omega),if_neg e]
theorem KN.pop(K:Kx z){st:eo}(h:KN z st)(bH:st.s.heap≠[]):KN z (nv st)/\(0<=(st.s.e 0).x/\(st.s.e 0).x<z.n.an)/\kg st (st.s.e 0).x=false/\(∀y:Int,0<=y->y<z.n.an->kg (nv st) y=true->¬(bv st.best (st.s.e 0).x).lt (bv st.best y)):=by
 have CA:0<st.s.heap.length:=Zbr.2 bH;obtain⟨a1,a2,a3,a4,a5⟩:=h.wf.Gd _ (fY.2 ⟨0,CA,rfl⟩);have e0:(st.s.e (0:Nat)).x=(st.s.e 0).x:=rfl;rw[e0]at a1 a2 a3 a4;have hx:0<=(st.s.e 0).x/\(st.s.e 0).x<z.n.an:=by omega
 have ET:∀y:Int,0<=y->y<z.n.an->kg st y=false->¬(bv st.best y).lt (bv st.best (st.s.e 0).x):=by
  intro y y0 y1 fy;rcases ilt (st.jt.getD y.toNat 0)with h0|h0
  ·have hy:=(h.wf.old y.toNat (by omega) h0).2;have hxf:=h.wf.Mz (st.s.e 0).x.toNat (by omega) (by omega);unfold bv;rw[hy];unfold br.lt;simp only;omega
  ·obtain⟨e,he,hey⟩:=h.wf.Qz y.toNat (by omega) h0 fy;obtain⟨i,hi,rfl⟩:=fY.1 he;have:=Mu h.wf.hp i hi;unfold oi at this;rw[show(st.s.e i).x=y by omega]at this;exact λcV=>this (.inl cV)
 refine⟨⟨h.wf.pop bH,λx y x0 x1 y0 y1 fx fy=>?_,λx x0 x1 fJ=>?_,h.der⟩,hx,a3,λy y0 y1 fy=>?_⟩
 ·rw[pZ h.wf bH x0 x1]at fx;rw[pZ h.wf bH y0 y1]at fy;split at fy
  ·cases fy
  ·split at fx
   ·rename_i e;rw[e];exact ET y y0 y1 fy
   ·exact h.ord x y x0 x1 y0 y1 fx fy
 ·obtain⟨k,r,hk,hr,i,hi,hf,hc⟩:=h.att x x0 x1 fJ;refine⟨k,r,hk,hr,i,hi,λw hw hwi=>?_,hc⟩;have hwb:=nj K (Zaq hk) hi hw;show kg (nv st) w.1=true;rw[pZ h.wf bH hwb.1 hwb.2];split
  ·rfl
  ·exact hf w hw hwi
 ·rw[pZ h.wf bH y0 y1]at fy;split at fy
  ·rename_i e;rw[e];unfold br.lt;omega
  ·exact h.ord y _ y0 y1 hx.1 hx.2 fy a3
structure PS2(z:df)(x:Int)(fin:List Bool)(st:eo):Prop where
 kn:KN z st
 fin:st.fin=fin
 mx:∀y:Int,0<=y->y<z.n.an->kg st y=true->¬(bv st.best x).lt (bv st.best y)
 old:∀q,JU z q->(∀w∈q.2.2.2,ku z w->w.1≠x)->zc z st q
theorem Ci{fin:List Bool}{i:eE}:(l8 z fin i.2.2=false)↔oq z fin i:=by
 unfold l8 oq;rw[List.any_eq_false];constructor
 ·intro h x hx hi;have:=h x hx;simp only[hi,decide_true,Zcj,Zbm,Bool.not_eq_false]at this;exact this
 ·intro h x hx;by_cases hi:ku z x
  ·have:=h x hx hi;rw[show(default:Bool)=false from rfl,this];simp
  ·simp[hi]
theorem WY(C:lK z.n z.l z.c z.fr.toNat z.to.toNat)(K:Kx z){x:Int}(hx:0<=x/\x<z.n.an){fin:List Bool}(hxf:fin.getD x.toNat false=true):Ch z (PS2 z x fin) (JU z) (λst p=>gz z p.1 st p.2):=by
 have hh:∀p,JU z p->0<=p.1.head/\p.1.head<z.n.an:=λp hp=>⟨(K.hn.2.2.2 _ hp.1).1,(K.hn.2.2.2 _ hp.1).2.1⟩;have two:∀(st:eo) (p:PR),PS2 z x fin st->JU z p->oq z st.fin p.2->(∀y:Int,0<=y->y<z.n.an->kg st y=true->¬(ou z st.best p.2).lt (bv st.best y))\/¬(ou z st.best p.2).lt (bv st.best p.1.head):=by
  intro st p hp ho hf;by_cases hq:∀w∈p.2.2.2,ku z w->w.1≠x
  ·exact .inr (hp.old p ho hq hf)
  ·left;intro y y0 y1 fy;have⟨w,hw⟩:=Classical.not_forall.1 hq;obtain⟨Qu,hw⟩:=Classical.not_imp.1 hw;obtain⟨hw2,hw⟩:=Classical.not_imp.1 hw;have hw3:w.1=x:=Decidable.not_not.1 hw;have h1:=WT K hp.kn.wf.bo ho.1 ho.2 Qu hw2 (by have:=nj K ho.1 ho.2 Qu;exact hp.kn.wf.canon (by omega));rw[hw3]at h1;have h2:=hp.mx y y0 y1 fy;exact nG h2 h1
 refine⟨λst p hp ho=>?_,λst p hp ho=>?_,λst p hp ho q hq hd=>?_,λst p hp ho=>?_⟩<;>unfold gz
 ·split
  ·rename_i hw;have hf:=Ci.1 hw.2;obtain⟨k,hk⟩:=Of ho;refine⟨hp.kn.offer C K hk ho.2 hf λcV y y0 y1 fy=>?_,by rw[lg];exact hp.fin,λy y0 y1 fy=>?_,λq hq Xz=>uF K hp.kn.wf (hh p ho) hq.1 hq.2 (hp.old q hq Xz)⟩
   ·rcases two st p hp ho hf with h|h
    ·exact h y y0 y1 fy
    ·exact absurd cV h
   ·unfold kg at fy;rw[lg]at fy;have fx:kg st x=true:=by unfold kg;rw[hp.fin];exact hxf
    have fix:∀w:Int,0<=w->kg st w=true->bv (dX st p.1.head (ou z st.best p.2)).best w=bv st.best w:=λw w0 fw=>by
     rcases jv K hp.kn.wf (hh p ho) (v:=ou z st.best p.2) w0 with e|⟨rfl,_,h1,_⟩
     ·exact e
     ·rw[fw]at h1;cases h1
    rw[fix x hx.1 fx,fix y y0 fy];exact hp.mx y y0 y1 fy
  ·exact hp
 ·split
  ·rename_i hw;have hf:=Ci.1 hw.2;refine Cg K hp.kn.wf ho.1 ho.2 hf λfh=>?_;rcases two st p hp ho hf with h|h
   ·exact h _ (hh p ho).1 (hh p ho).2 fh
   ·exact h
  ·rename_i hw;by_cases h1:dG z p.2.2.2=true
   ·intro hf;exact absurd ⟨h1,Ci.2 hf⟩ hw
   ·exact hp.old p ho λw hw hwi=>absurd hwi (uG h1 w hw)
 ·split
  ·exact uF K hp.kn.wf (hh p ho) hq.1 hq.2 hd
  ·exact hd
 ·split
  ·exact za hp.kn.wf (by have:=hh p ho;omega) _
  ·omega
def Zj(z:df)(x:Int):List PR:=(z.n.rules.filter λr=>decide (gZ r x)).flatMap λr=>(c8 z r).map λi=>(r,i)
theorem foldl_filter{σ α:Type}(p:α->Prop) [DecidablePred p](f:σ->α->σ):∀(l:List α) (x:σ),l.foldl (λx a=>if p a then f x a else x) x=(l.filter λa=>decide (p a)).foldl f x
 |[],x=>rfl
 |a::l,x=>by
  rw[Zaz,foldl_filter p f l];by_cases h:p a
  ·rw[if_pos h,List.filter_cons_of_pos (by simpa using h),Zaz]
  ·rw[if_neg h,List.filter_cons_of_neg (by simpa using h)]
theorem Cj(x:Int)(l:List bE)(st:eo):l.foldl (zP z x) st=((l.filter λr=>decide (gZ r x)).flatMap λr=>(c8 z r).map λi=>(r,i)).foldl (λst (p:PR)=>gz z p.1 st p.2) st:=by
 have:=foldl_filter (λr=>gZ r x) (λst r=>(c8 z r).foldl (gz z r) st) l st;show l.foldl (λst r=>if gZ r x then(c8 z r).foldl (gz z r) st else st) st=_;rw[this];exact nL (λst (p:PR)=>gz z p.1 st p.2) (c8 z) _ _
theorem Oh(K:Kx z){x:Int}{l:List bE}(hl:∀r∈l,r∈z.n.rules):∀p∈(l.filter λr=>decide (gZ r x)).flatMap λr=>(c8 z r).map λi=>((r,i):PR),JU z p:=by
 intro p hp;obtain⟨r,hr,h⟩:=ZaU.1 hp;obtain⟨i,hi,rfl⟩:=Zal.1 h;exact⟨hl r (ZaP.1 hr).1,xY K.ft.2 hi⟩
theorem WZ{st:eo}(C:lK z.n z.l z.c z.fr.toNat z.to.toNat)(K:Kx z)(h:IV z st)(bH:st.s.heap≠[]):PS2 z (st.s.e 0).x (nv st).fin (nv st):=by
 obtain⟨k1,k2,k3,k4⟩:=h.1.pop K bH;refine⟨k1,rfl,k4,λq hq Xz hf=>h.2 q hq λw hw hwi=>?_⟩;have hwb:=nj K hq.1 hq.2 hw;have:=hf w hw hwi;rw[Cf,pZ h.1.wf bH hwb.1 hwb.2,if_neg (Xz w hw hwi)]at this;exact this
theorem x5{st:eo}(C:lK z.n z.l z.c z.fr.toNat z.to.toNat)(K:Kx z)(h:IV z st)(bH:st.s.heap≠[]):IV z (mn z st)/\sc (mn z st)<sc st/\(mn z st).s.clock<=st.s.clock+(Zj z (st.s.e 0).x).length:=by
 have hP:=WZ C K h bH;obtain⟨k1,k2,k3,k4⟩:=h.1.pop K bH;have CA:0<st.s.heap.length:=Zbr.2 bH;have hxf:(nv st).fin.getD (st.s.e 0).x.toNat false=true:=by
  show kg (nv st) _=true;rw[pZ h.1.wf bH k2.1 k2.2,if_pos rfl]
 have bj:(nv st).s.clock=st.s.clock:=by
  have hs:sb (lW st.s) (ke st.best st.s):=by unfold ke;rw[if_neg bH];exact o5 rfl
  exact hs.clock
 obtain⟨a1,a2,a3,a4⟩:=(WY C K k2 hxf).fold (λ_ h=>h) (Zj z (st.s.e 0).x) (Oh K λr h=>h) _ hP;have e:mn z st=(Zj z (st.s.e 0).x).foldl (λst p=>gz z p.1 st p.2) (nv st):=Cj _ _ _;rw[<-e]at a1 a2 a3 a4;refine⟨⟨a1.kn,λq hq=>?_⟩, ?_,by omega⟩
 ·by_cases Xz:∀w∈q.2.2.2,ku z w->w.1≠(st.s.e 0).x
  ·exact a1.old q hq Xz
  ·have⟨w,hw⟩:=Classical.not_forall.1 Xz;obtain⟨Qu,hw⟩:=Classical.not_imp.1 hw;obtain⟨hw2,hw⟩:=Classical.not_imp.1 hw;have hw3:w.1=(st.s.e 0).x:=Decidable.not_not.1 hw;obtain⟨b1,b2⟩:=WS hq.2 Qu hw2;rw[hw3]at b2;exact a2 q (ZaU.2 ⟨q.1,ZaP.2 ⟨hq.1,by simpa using b2⟩,Zal.2 ⟨q.2,b1,rfl⟩⟩)
 ·unfold sc;rw[a1.fin];have cV:(st.s.e 0).x.toNat<st.fin.length:=by rw[h.1.wf.lf];omega
  show(st.fin.set _ true).count false<_;have pA:st.fin[(st.s.e 0).x.toNat]=false:=by
   have:st.fin.getD (st.s.e 0).x.toNat false=false:=k3;rw[List.getD,Zan cV]at this;exact this
  rw[List.count_set cV,pA];have:0<st.fin.count false:=List.count_pos_iff.2 (pA▸Zbj cV);simp;omega
end
def k1(A:List DV)(O:aU)(v:DV)(O':aU):List DV->aU->iD:=λargs objs=>⟨args=A/\objs=O,v,O'⟩
@[simp] theorem k1_eq(A:List DV)(O:aU)(v:DV)(O':aU)(args:List DV)(objs:aU):k1 A O v O' args objs=⟨args=A/\objs=O,v,O'⟩:=rfl
theorem Zn{f:Nat}{A:List DV}{O:aU}{v:DV}{O':aU}{l:List (Nat×DM.Spec)}(h:ay Tryz.prog (aW l))(hc:∀N,(∀r,N<=r->O r=none)->aZ Tryz.prog f A O ⟨True,v,O'⟩)(hn:∀r,O r=none->O' r=none):
  ay Tryz.prog (aW ((f,fa (k1 A O v O'))::l)):=
 ay.gV h (by
  rintro args objs ⟨rfl,rfl⟩;exact⟨λN hN=>aZ.of (hc N hN) rfl rfl,hn⟩)
theorem D5{v:SV}{f:aU}{p:Nat}(h:v.at f p)(a:eo)(s:Qs):cH (cJ f v a) v.k.q ((v.to a).qv p) s=cJ f v ⟨a.best,a.fin,a.jt,s⟩:=by
 obtain⟨yZ,y5,y6,FZ,wh,F1,Me,BV,BW,BX,Mf,BY,Mg,Mh,BZ,y7,B0,Mi,B1,Mj,Mk,B2,y8,y9,Ml,B3,Mm,Mn,Mo,F2,F3,F4,Ja,nqm,nqa,B4,wi,wj,wk,Jb,Jc,Mp,Mq,F5,F6,F7,nmq,Jd,nma,Mr,Je,Jf,Jg,naq,Jh,nam⟩:=h.ne;funext k;simp only[cH,cJ,SV.qv,bP,eN,DY,FY,DZ];by_cases h1:k=v.k.q
 ·subst h1;simp[F2,F3,F4]
 ·by_cases h2:k=v.k.hp
  ·subst h2;simp[h1,wi,wj,wk]
  ·by_cases h3:k=v.k.m
   ·subst h3;simp[h1,h2,F5,F6,F7]
   ·simp[h1,h2,h3]
theorem Oi(f:aU)(r:Nat)(o:Ob):bV f (some (r,o))=over [(r,o)] f:=rfl
theorem Ck{v:SV}{f g:aU}{s:eo}(h1:g v.k.rb=some (DY s))(h2:g v.k.rf=some (FY s))(h3:g v.k.rh=some (DZ s))(h4:g v.k.q=some (qB v.k.a v.k.hp v.k.m s.s))(h5:g v.k.hp=some (hB s.s))(h6:g v.k.m=some (mB s.s))
  (h7:∀k,k≠v.k.rb->k≠v.k.rf->k≠v.k.rh->k≠v.k.q->k≠v.k.hp->k≠v.k.m->g k=f k):g=cJ f v s:=by
 funext k;simp only[cJ,bP,eN];repeat' split
 all_goals first|(rename_i e;rw[e];assumption)|(apply h7<;>assumption)
theorem W6{v:SV}{f:aU}{p:Nat}(h:v.at f p)(s:eo)(B:List br):over [(v.k.rb,.arr 0 55 2 (bJ B))] (cJ f v s)=cJ f v ⟨B,s.fin,s.jt,s.s⟩:=by
 obtain⟨yZ,y5,y6,FZ,wh,F1,Me,BV,BW,BX,Mf,BY,Mg,Mh,BZ,y7,B0,Mi,B1,Mj,Mk,B2,y8,y9,Ml,B3,Mm,Mn,Mo,F2,F3,F4,Ja,nqm,nqa,B4,wi,wj,wk,Jb,Jc,Mp,Mq,F5,F6,F7,nmq,Jd,nma,Mr,Je,Jf,Jg,naq,Jh,nam⟩:=h.ne;refine Ck ?_ ?_ ?_ ?_ ?_ ?_ λk a1 a2 a3 a4 a5 a6=>?_<;>simp[cJ, *]<;>rfl
theorem Zo{v:SV}{f:aU}{p:Nat}(h:v.at f p)(s:eo)(B:List Bool):over [(v.k.rf,.arr 0 4 1 (eP B))] (cJ f v s)=cJ f v ⟨s.best,B,s.jt,s.s⟩:=by
 obtain⟨yZ,y5,y6,FZ,wh,F1,Me,BV,BW,BX,Mf,BY,Mg,Mh,BZ,y7,B0,Mi,B1,Mj,Mk,B2,y8,y9,Ml,B3,Mm,Mn,Mo,F2,F3,F4,Ja,nqm,nqa,B4,wi,wj,wk,Jb,Jc,Mp,Mq,F5,F6,F7,nmq,Jd,nma,Mr,Je,Jf,Jg,naq,Jh,nam⟩:=h.ne;refine Ck ?_ ?_ ?_ ?_ ?_ ?_ λk a1 a2 a3 a4 a5 a6=>?_<;>simp[cJ, *]<;>rfl
theorem Zp{v:SV}{f:aU}{p:Nat}(h:v.at f p)(s:eo)(B:List Int):over [(v.k.rh,.arr 0 3 1 (aC B))] (cJ f v s)=cJ f v ⟨s.best,s.fin,B,s.s⟩:=by
 obtain⟨yZ,y5,y6,FZ,wh,F1,Me,BV,BW,BX,Mf,BY,Mg,Mh,BZ,y7,B0,Mi,B1,Mj,Mk,B2,y8,y9,Ml,B3,Mm,Mn,Mo,F2,F3,F4,Ja,nqm,nqa,B4,wi,wj,wk,Jb,Jc,Mp,Mq,F5,F6,F7,nmq,Jd,nma,Mr,Je,Jf,Jg,naq,Jh,nam⟩:=h.ne;refine Ck ?_ ?_ ?_ ?_ ?_ ?_ λk a1 a2 a3 a4 a5 a6=>?_<;>simp[cJ, *]<;>rfl
def Cl(a b c d N:Nat)(n:Nat):Nat:=if n=0 then a else if n=1 then b else if n=2 then c else if n=3 then d else N+n
theorem ME{a b c d N:Nat}(h1:a<N)(h2:b<N)(h3:c<N)(h4:d<N)(n1:a≠b)(n2:a≠c)(n3:a≠d)(n4:b≠c)(n5:b≠d)(n6:c≠d)(x y:Nat)(e:Cl a b c d N x=Cl a b c d N y):x=y:=by
 unfold Cl at e;repeat' split at e
 all_goals omega
theorem cR{l:List Int}{y:Nat}(h:y<l.length):DM.rowAt (aC l) y=[ti (l.getD y default)]:=by simp[DM.rowAt,aC,h]
theorem t60{f0:aU}{p N:Nat}{h:Int}{x:br}{v:SV}(hN:∀r,N<=r->f0 r=none)(hv:v.at f0 p)(ho:Cd v.s h x):
  aZ Tryz.prog 60 [.ptr p 0,.v (ti h),.v (.agg [ti x.cost,ti x.size])] f0 ⟨True,.v (.eC []),cJ f0 v (dX v.s h x)⟩:=by
 obtain⟨⟨O9,Gn⟩,wJ,qx,hxo,bK⟩:=ho;obtain⟨y,rfl⟩:=Zad O9;have hy:y<v.s.best.length:=by omega
 obtain⟨xc,xs⟩:=x;obtain⟨R,hR⟩:∃R,dX v.s y ⟨xc,xs⟩=R:=⟨_,rfl⟩;rw[hR];unfold dX at hR;have aw:=ok56 (ok81 (ok82 ay.nil));refine c60.uM hN (by simp) λbj=>?_;obtain⟨yZ,y5,y6,FZ,wh,F1,Me,BV,BW,BX,Mf,BY,Mg,Mh,BZ,y7,B0,Mi,B1,Mj,Mk,B2,y8,y9,Ml,B3,Mm,Mn,Mo,F2,F3,F4,Ja,nqm,nqa,B4,wi,wj,wk,Jb,Jc,Mp,Mq,F5,F6,F7,nmq,Jd,nma,Mr,Je,Jf,Jg,naq,Jh,nam⟩:=hv.ne;have h1:=hv.sp;have h2:=hv.rb;have h3:=hv.rf;have h4:=hv.rh;have uO:p<N:=(bj p _ h1).1;have XE:v.k.rb<N:=(bj _ _ h2).1;have hfN:v.k.rf<N:=(bj _ _ h3).1;have hhN:v.k.rh<N:=(bj _ _ h4).1;have hqN:v.k.q<N:=(bj _ _ hv.q).1;have hpqN:v.k.hp<N:=(bj _ _ hv.hp).1;have FQ:v.k.m<N:=(bj _ _ hv.m).1;simp only[uN,DY,FY,DZ]at h1 h2 h3 h4;have rr1:=dP hy;have rr2:=lI (show y<v.s.fin.length by omega);have rr3:=cR (show y<v.s.jt.length by omega);obtain⟨⟨bc,bs⟩,hbe⟩:∃q,v.s.best.getD y default=q:=⟨_,rfl⟩;obtain⟨fb,hfb⟩:∃q,v.s.fin.getD y false=q:=⟨_,rfl⟩;obtain⟨hd,Zf⟩:∃q,v.s.jt.getD y 0=q:=⟨_,rfl⟩;rw[hbe]at rr1;rw[show(default:Bool)=false from rfl,hfb]at rr2;rw[show(default:Int)=0 from rfl,Zf]at rr3;have hbv:bv v.s.best y=⟨bc,bs⟩:=hbe;simp only[Zai,hfb,Zf,hbv]at hR bK;have jV:y<v.s.fin.length:=by omega
 have fg:y<v.s.jt.length:=by omega
 simp;refine aa.ab aw fw [0,1,5] ?_;simp[Ib];refine aa.le (pX (l:=[(0,.ptr p 0),(1,.v (ti y)),(5,.v (.box [ti xc,ti xs]))]) (nxt':=N+500) bj (by omega) (by simp;omega) ?_) ?_
 ·have np:∀k,p≠N+k:=λk=>by omega
  simp[Nat.add_assoc,hv.sp];exact cW (l:=[]) bj (by omega) (by simp)
 refine aa.seq ?_;obtain⟨c1,aX⟩:∃c1:Bool,decide (fb=true\/xc>=1099511627776\/¬(⟨xc,xs⟩:br).lt ⟨bc,bs⟩)=c1:=⟨_,rfl⟩;refine aa.b7 aw fw [(0,.ptr p 0),(1,.v (ti y)),(5,.v (.box [ti xc,ti xs])),(29,.v (.bool c1))] ?_ ?_
 ·cases fb with
  |true=>
   have:c1=true:=by rw[<-aX];simp
   simp[yR,h1,h3,jV,rr2,this]
  |false=>
   by_cases q2:xc>=1099511627776
   ·have:c1=true:=by rw[<-aX];simp[q2]
    simp[yR,h1,h3,jV,rr2,q2,this]
   ·by_cases q3:(⟨xc,xs⟩:br).lt ⟨bc,bs⟩
    ·have:c1=false:=by rw[<-aX];simp[q2,q3]
     simp[yR,h1,h2,h3,hy,jV,rr1,rr2,q2,q3,this]
    ·have:c1=true:=by rw[<-aX];simp[q3]
     simp[yR,h1,h2,h3,hy,jV,rr1,rr2,q2,q3,this]
 refine aa.cond rfl (λg=>?_) (λg=>?_)
 ·have g:c1=true:=by simpa using g
  subst g;rw[if_pos (of_decide_eq_true aX)]at hR;rw[<-hR,fl hv];refine aa.ret ?_;simp[ui];rfl
 ·have g:c1=false:=by simpa using g
  subst g;have hc:=of_decide_eq_false aX;rw[if_neg hc]at hR;have bK:=bK hc;refine aa.skip ?_;simp;obtain⟨B,hB⟩:∃B,v.s.best.set y ⟨xc,xs⟩=B:=⟨_,rfl⟩;have hBT:bJ B=(bJ v.s.best).set y [ti xc,ti xs]:=by rw[<-hB];simp[bJ,ZbJ]
  rw[hB]at hR bK;have me:∀w,DM.rowAt ((bJ v.s.best).set y w) (y:Int)=w:=λw=>by simp[DM.rowAt,hy]
  refine aa.ab aw fw [0,1] ?_;simp[Ic,h1,h2,hy,rr1];have e1:=W6 hv v.s B;rw[fl hv,hBT]at e1;rw[e1];have jn:=sV hv ⟨B,v.s.fin,v.s.jt,v.s.s⟩;obtain⟨G,hG⟩:∃G,cJ f0 v ⟨B,v.s.fin,v.s.jt,v.s.s⟩=G:=⟨_,rfl⟩;have j1:=jn.sp;have j4:=jn.rh;have WD:=λa b=>k81_eq (hd:=a) (x:=b) jn.qv;have W7:=λa=>k82_eq (x:=a) jn.qv;have eq:=λs=>D5 hv ⟨B,v.s.fin,v.s.jt,v.s.s⟩ s;rw[hG]at j1 j4 WD W7 eq⊢;simp only[uN,DZ,SV.qv]at j1 j4 WD W7 eq;refine aa.ab aw fw [0,1,44] ?_;simp[Ie,j1,j4,fg,rr3];refine aa.cond rfl (λg=>?_) (λg=>?_)
  ·have g:0<=hd:=by simpa using g
   rw[if_pos g]at hR bK;refine aa.tZ aw fw (rs:=fm Uc []) (.inr ⟨_,rfl⟩) (by kernel_rfl) [] ?_;simp[Uc,fm,j1,j4,fg,rr3,WD,bK,eq,ui,hR]
  ·have g:¬0<=hd:=by simpa using g
   rw[if_neg g]at hR bK;have hkn:∀s',Di [v.k.q,v.k.hp,v.k.m] G (cJ f0 v ⟨B,v.s.fin,v.s.jt,s'⟩):=by
    intro s' n hn;simp only[Zag,Zap,or_false,not_or]at hn;rw[<-eq s'];simp[cH,hn]
   obtain⟨S',hS'⟩:∃S',nh B v.s.s y=S':=⟨_,rfl⟩;rw[hS']at hR;have e2:=Zp hv ⟨B,v.s.fin,v.s.jt,S'⟩ (v.s.jt.set y v.s.s.next);have hHT:aC (v.s.jt.set y v.s.s.next)=(aC v.s.jt).set y [ti v.s.s.next]:=by simp[aC,ZbJ]
   rw[hHT]at e2;have hv3:=(sV hv ⟨B,v.s.fin,v.s.jt,S'⟩).rh;simp only[DZ]at hv3;refine aa.tZ aw fw (rs:=dd (Cl p v.k.q v.k.hp v.k.m N) (fm Ud [none,none,none,some [0],none,none,none,none,none,none,some [1,2,3],none,none])) (.inr ⟨_,rfl⟩) ((gq (ME uO hqN hpqN FQ FZ wh F1 Ja nqm Jc) _ _ _).trans (by kernel_rfl)) [] ?_;simp[Ud,fm,dd,gK,Cl,ch,bm,names,j1,fg,rr3,W7,bK,eq,ui,hS',hkn,hv3,Oi,e2,hR]
def iY(l:List It):DV:=if l=[]then .aJ else .v (.sl (kr l))
def Cm(D:DV)(r:bE):Prop:=lk D/\cellsOf D=[.v (ti r.kind),.v (ti r.head),.v (ti r.a),.v (ti r.b),.v (ti r.bF),.v (ti r.origin)]
theorem MF(r:bE):Cm (.agg [.v (ti r.kind),.v (ti r.head),.v (ti r.a),.v (ti r.b),.v (ti r.bF),.v (ti r.origin)]) r:=⟨trivial,rfl⟩
theorem ruleD2(r:bE):Cm (.v (.agg r.enc)) r:=⟨trivial,rfl⟩
structure wv(fn:Nat)(caps:List DV)(L:List eE)(F:Nat->aU)(B:Nat->Bool)(m:Nat):Prop where
 call:∀j i,L[j]? =some i->j<m->∀N,(∀r,N<=r->F j r=none)->aZ Tryz.prog fn ([.v (ti i.1),.v (ti i.2.1),iY i.2.2]++caps) (F j) ⟨True,.v (.bool (B j)),F (j+1)⟩
 none:∀j r,j<m->F j r=none->F (j+1) r=none
 go:∀j,j+1<m->B j=true
 stop:m=L.length\/(0<m/\m<=L.length/\B (m-1)=false)
theorem wv.le{fn:Nat}{caps:List DV}{L:List eE}{F:Nat->aU}{B:Nat->Bool}{m:Nat}(h:wv fn caps L F B m):m<=L.length:=by
 rcases h.stop with h|h<;>omega
theorem wv.next{fn:Nat}{caps:List DV}{L:List eE}{F:Nat->aU}{B:Nat->Bool}{m j:Nat}(h:wv fn caps L F B m)(hb:∀k,k<j->B k=true)(hj:j<L.length):j<m:=by
 rcases h.stop with h1|⟨h1,h2,h3⟩
 ·omega
 ·rcases Zbz j m with h4|h4
  ·exact h4
  ·have:=hb (m-1) (by omega);rw[h3]at this;cases this
theorem wv.end{fn:Nat}{caps:List DV}{L:List eE}{F:Nat->aU}{B:Nat->Bool}{m j:Nat}(h:wv fn caps L F B m)(hj:j<m)(hb:B j=false):m=j+1:=by
 rcases Zbz (j+1) m with h1|h1
 ·have:=h.go j h1;rw[hb]at this;cases this
 ·omega
theorem wv.env{fn:Nat}{caps:List DV}{L:List eE}{F:Nat->aU}{B:Nat->Bool}{m j:Nat}{i:eE}(h:wv fn caps L F B m)(hi:L[j]? =some i)(hj:j<m):
  ay Tryz.prog (aW [(fn,fa (k1 ([.v (ti i.1),.v (ti i.2.1),iY i.2.2]++caps) (F j) (.v (.bool (B j))) (F (j+1))))]):=
 Zn ay.nil (λN hN=>h.call j i hi hj N hN) (λr hr=>h.none j r hj hr)
structure Seen(z:df)(p N:Nat)(k:QC)(F:Nat->aU)(m:Nat):Prop where
 at':∀j,j<=m->∃s:eo,(⟨k,z,s⟩:SV).at (F j) p
 cl:∀j,j<=m->dO (F j) N
theorem Seen.sp{z:df}{p N m j:Nat}{k:QC}{F:Nat->aU}(h:Seen z p N k F m)(hj:j<=m):F j p=some (.box (uN k z)):=by
 obtain⟨s,hs⟩:=h.at' j hj;exact hs.sp
theorem inst1{z:df}{r:bE}(h:r.kind=1):bQ z r=if z.fr=z.to then [(z.fr,r.bF,[])]else []:=by unfold bQ;rw[if_pos h]
theorem inst2{z:df}{r:bE}(h:r.kind=2):bQ z r=(List.range' (gU z) (qI z-gU z)).filterMap (qG z r):=by unfold bQ;rw[if_neg (by omega),if_pos h]
theorem inst3{z:df}{r:bE}(h:r.kind=3):bQ z r=[(z.fr,r.bF,[(r.a,z.fr,z.to)])]:=by unfold bQ;rw[if_neg (by omega),if_neg (by omega),if_pos h]
theorem inst4{z:df}{r:bE}(h:r.kind=4):bQ z r=(List.range ((z.to-z.fr).toNat+1)).map λ(d:Nat)=>ni z r (z.fr+(d:Int)):=by unfold bQ;rw[if_neg (by omega),if_neg (by omega),if_neg (by omega),if_pos h]
theorem inst0{z:df}{r:bE}(h:r.kind≠1/\r.kind≠2/\r.kind≠3/\r.kind≠4):bQ z r=[]:=by unfold bQ;rw[if_neg h.1,if_neg h.2.1,if_neg h.2.2.1,if_neg h.2.2.2]
def uH(z:df)(r:bE)(i:Nat):Nat:=((List.range' (gU z) (i-gU z)).filterMap (qG z r)).length
theorem Gg(z:df)(r:bE):uH z r (gU z)=0:=by simp[uH]
theorem Ju(s n:Nat):List.range' s (n+1)=List.range' s n++[s+n]:=by
 rw[List.range'_concat];simp
theorem P8{z:df}{r:bE}{i:Nat}(h:gU z<=i):uH z r (i+1)=uH z r i+(if(z.l.aF.getD i default).term=r.a then 1 else 0):=by
 unfold uH;rw[show i+1-gU z=(i-gU z)+1 by omega,Ju,List.filterMap_append,ZaB,show gU z+(i-gU z)=i by omega];by_cases e:(z.l.aF.getD i default).term=r.a
 ·have:qG z r i=some ((i:Int),r.bF+(z.l.aF.getD i default).cost,[]):=if_pos e;rw[Zcv,this,if_pos e];rfl
 ·have:qG z r i=none:=if_neg e;rw[Zcv,this,if_neg e];rfl
theorem W8{z:df}{r:bE}{i:Nat}(h:gU z<=i)(hi:i<qI z)(e:(z.l.aF.getD i default).term=r.a):
  ((List.range' (gU z) (qI z-gU z)).filterMap (qG z r))[uH z r i]? =some ((i:Int),r.bF+(z.l.aF.getD i default).cost,[]):=by
 have h1:List.range' (gU z) (qI z-gU z)=List.range' (gU z) (i-gU z)++i::List.range' (i+1) (qI z-(i+1)):=by
  rw[show qI z-gU z=(i-gU z)+(1+(qI z-(i+1)))by omega,<-List.range'_append_1,<-List.range'_append_1,show gU z+(i-gU z)=i by omega];rfl
 rw[h1,List.filterMap_append];unfold uH;have:qG z r i=some ((i:Int),r.bF+(z.l.aF.getD i default).cost,[]):=if_pos e;rw[Zbi (Zae _),Nat.sub_self,Zcv,this];rfl
theorem Zq(z:df)(r:bE):uH z r (qI z)=((List.range' (gU z) (qI z-gU z)).filterMap (qG z r)).length:=rfl
theorem wv.one{fn:Nat}{caps:List DV}{L:List eE}{F:Nat->aU}{B:Nat->Bool}{m:Nat}(h:wv fn caps L F B m)(hL:L.length=1):m=1:=by
 have h1:=h.next (j:=0) (λ_ h=>absurd h (Nat.not_lt_zero _)) (by omega);have:=h.le;omega
theorem wv.full{fn:Nat}{caps:List DV}{L:List eE}{F:Nat->aU}{B:Nat->Bool}{m j:Nat}(h:wv fn caps L F B m)(hj:j=L.length)(hb:∀k,k<j->B k=true):m=j:=by
 rcases h.stop with h1|⟨h1,h2,h3⟩
 ·omega
 ·have:=hb (m-1) (by omega);rw[h3]at this;cases this
def km(l:List Nat):List DV:=l.map λx=>.ptr x 0
def Cn(l:List Nat)(f:aU):Prop:=∀x∈l,∃cs,f x=some (.box cs)
theorem sX{f g:aU}:∀{l:List Nat},Cn l f->Cn l g->jD f g id (km l) (km l)
 |[],_,_=>rfl
 |x::l,h,k=>by
  obtain⟨cs,hc⟩:=h x (by simp);obtain⟨qU,Ar⟩:=k x (by simp);refine⟨?_,sX (λy hy=>h y (by simp[hy])) (λy hy=>k y (by simp[hy]))⟩;simp[Ar]
theorem t57{fn p N m:Nat}{caps:List Nat}{F:Nat->aU}{B:Nat->Bool}{z:df}{k:QC}{r:bE}(hs:Seen z p N k F m)(hf:wv fn (km caps) (bQ z r) F B m)
  (hm:mono z) (hla:z.l.aF.length<=1000000000) (qk:0<=z.fr/\z.fr<=z.to/\z.to<=1000) (hp:0<=r.bF/\r.bF<=1000) (hac:∀a∈z.l.aF,0<=a.cost/\a.cost<=1099511627776) (Y4:Cn caps (F 0)) {D:DV} (hD:Cm D r):
  aZ Tryz.prog 57 [.ptr p 0,D,.mF (.func fn) (km caps)] (F 0) ⟨True,.v (.eC []),F m⟩:=by
 have XK:∀{j},j<=m->∀r,N<=r->F j r=none:=λ{j} hj r hr=>by
  cases h:F j r with
  |none=>rfl
  |some o=>have:=(hs.cl j hj r o h).1;omega
 have spj:=λ{j} (hj:j<=m)=>hs.sp (j:=j) hj;simp only[uN]at spj;have XL:=spj (Zbg m);have uO:p<N:=(hs.cl 0 (Zbg m) p _ XL).1;have np:∀k,p≠N+k:=λk=>by omega
 obtain⟨C,hC⟩:∃C,km caps=C:=⟨_,rfl⟩;have bK:jD (over [] (F 0)) (over [] (F 0)) id C C:=by rw[<-hC];exact sX Y4 Y4
 obtain⟨rk,rh,ra,rb,rp,ro⟩:=r;obtain⟨RR,xC⟩:∃RR:bE,(⟨rk,rh,ra,rb,rp,ro⟩:bE)=RR:=⟨_,rfl⟩;have hRa:RR.a=ra:=by rw[<-xC]
 have hRb:RR.b=rb:=by rw[<-xC]
 have hRp:RR.bF=rp:=by rw[<-xC]
 have hRk:RR.kind=rk:=by rw[<-xC]
 rw[xC,hC]at hf;simp only at hp;refine c57.uM (XK (Zbg m)) (by simp) λbj=>?_;obtain⟨hD1,hD2⟩:=hD;simp[hC];refine aa.ab dZ fw [0,2,4] ?_;simp[adR,hD1,hD2,-lk,-cellsOf];have hcc1:jD (over [(N+5,.box [.v (ti rk),.v (ti rh),.v (ti ra),.v (ti rb),.v (ti rp),.v (ti ro)])] (F 0)) (over [] (F 0)) id C C:=by
  rw[<-hC];refine sX (λx hx=>?_) Y4;obtain⟨cs,hc⟩:=Y4 x hx;have:=(bj x _ hc).1;exact⟨cs,by simp[hc];omega⟩
 refine aa.le (pX (l:=[(0,.ptr p 0),(2,.mF (.func fn) C),(4,.v (.box [ti rk,ti rh,ti ra,ti rb,ti rp,ti ro]))]) (nxt':=N+500) bj (by omega) (by simp;omega) ?_) ?_
 ·simp[Nat.add_assoc,XL,gp,jl,hcc1];exact cW (l:=[]) bj (by omega) (by simp)
 show aa _ _ _ _ ⟨_,F 0,_,_,_⟩;refine aa.ab dZ fw [0,2,4,11] ?_;simp[adS];refine aa.block ?_;refine aa.ab dZ fw [0,2,4,11,12] ?_;simp[adT];refine aa.cond rfl (λg=>?_) (λg=>?_)
 ·have g:rk=1:=by simpa using g
  rw[inst1 (by omega)]at hf;refine aa.ab dZ fw [0,2,4,22] ?_;simp[adU,XL];refine aa.cond rfl (λg2=>?_) (λg2=>?_)
  ·have g2:z.fr=z.to:=by simpa using g2
   rw[if_pos g2]at hf;have wH:=hf.one rfl;have aw:=hf.env (j:=0) (i:=(z.fr,RR.bF,[])) rfl (by omega);refine aa.dc aw fw [] ?_;simp[adV,XL,iY,hRp,pP,wH]
  ·have g2:¬z.fr=z.to:=by simpa using g2
   rw[if_neg g2]at hf;have XT:m=0:=by have:=hf.le;simpa using this
   refine aa.skip ?_;simp[pP,XT]
 have g1:rk≠1:=by simpa using g
 refine aa.ab dZ fw [0,2,4,11,31] ?_;simp[adW];refine aa.cond rfl (λg=>?_) (λg=>?_)
 ·have g:rk=2:=by simpa using g
  rw[inst2 (by omega)]at hf;obtain⟨s0,hv0⟩:=hs.at' 0 (Zbg m);have Zc:=k80_eq hv0;have hih:=tK z;refine aa.ew (ok80 ay.nil) fw (rs:=Ld) rfl (by kernel_rfl) [0,2,4,6,7] ?_;simp[Ld,Zc,hm,hla];refine aa.ab dZ fw [0,2,4,7,8] ?_;simp[adX];have e0:F 0=F (uH z RR (gU z)):=by rw[Gg]
  refine aa.block ?_;refine aa.loop (λi:Nat=>⟨DM.look [(0,.ptr p 0),(2,.mF (.func fn) C),(4,.v (.box [ti rk,ti rh,ti ra,ti rb,ti rp,ti ro])),(7,.v (ti (qI z))),(8,.v (ti i))],F (uH z RR i),N+1000,N,[]⟩)
   (λi=>gU z<=i/\i<=qI z/\uH z RR i<=m/\∀q,q<uH z RR i->B q=true) (λi=>qI z-i) (gU z) (by rw[<-e0];exact Le.same (λr hr=>XK (Zbg m) r (by omega)) (by simp[fT])) ⟨Zae _,hih.1,by rw[Gg];omega,by rw[Gg];intro q hq;omega⟩ (λi hi=>?_)
  obtain⟨i1,i2,i3,i4⟩:=hi;have spi:=spj i3;refine aa.seq ?_;refine aa.ab dZ fw [0,2,4,7,8,41] ?_;simp[adY];refine aa.cond rfl (λg=>?_) (λg=>?_)
  ·have g:i<qI z:=by simpa using g
   have tg:i<z.l.aF.length:=by omega
   have rr:=kY tg;have qO:=hac _ (bw tg);have lz:=P8 (z:=z) (r:=RR) (i:=i) i1;have hcg:=W8 (z:=z) (r:=RR) (i:=i) i1 g;have Ns:=Zq z RR;obtain⟨⟨af,at',ae,ac,ao⟩,hx⟩:∃x,z.l.aF.getD i default=x:=⟨_,rfl⟩;rw[hx]at rr qO lz hcg;simp only[bn.enc]at rr;simp only[hRa,hRp]at qO lz hcg;have w1:IntKind.i64.wrap (rp+ac)=rp+ac:=au (by omega);have w2:IntKind.i64.wrap ((i:Int)+1)=((i+1:Nat):Int):=by rw[au (by omega)];omega
   refine aa.skip ?_;simp;refine aa.seq ?_;refine aa.block ?_;by_cases e:ae=ra
   ·rw[if_pos e]at lz;have pA:=hcg e;have hjm:=hf.next i4 (Zas.1 pA).1;have aw:=hf.env pA hjm;obtain⟨b,hb⟩:∃b,B (uH z RR i)=b:=⟨_,rfl⟩;rw[hb]at aw;refine aa.ab aw fw [0,2,4,7,8,73] ?_;simp[Up,spi,tg,rr,e,iY,w1];refine aa.cond rfl (λg2=>?_) (λg2=>?_)
    ·have g2:b=false:=by simpa using g2
     rw[g2]at hb;have Zr:=hf.end hjm hb;refine aa.ret ?_;simp[pP,Zr]
    ·have g2:b=true:=by simpa using g2
     rw[g2]at hb;refine aa.skip ?_;simp;refine aa.dc dZ fw [0,2,4,7,8] ?_;simp[Lf,w2];refine⟨i+1,by rw[lz];exact Le.same (λr hr=>XK hjm r (by omega)) (by simp[fT]),⟨by omega,by omega,by omega,λq hq=>?_⟩,by omega⟩;by_cases hqe:q=uH z RR i
     ·rw[hqe];exact hb
     ·exact i4 q (by omega)
   ·rw[if_neg e]at lz;refine aa.ab dZ fw [0,2,4,7,8,73] ?_;simp[Up,spi,tg,rr,e];refine aa.cond rfl (λg2=>by cases g2) (λg2=>?_);refine aa.skip ?_;simp;refine aa.dc dZ fw [0,2,4,7,8] ?_;simp[Lf,w2];exact⟨i+1,by rw[lz];exact Le.same (λr hr=>XK i3 r (by omega)) (by simp[fT]),⟨by omega,by omega,by omega,λq hq=>i4 q (by omega)⟩,by omega⟩
  ·have g:¬i<qI z:=by simpa using g
   have hie:i=qI z:=by omega
   have Zr:=hf.full (j:=uH z RR i) (by rw[hie];rfl) i4;refine aa.exit ?_;simp[pP,Zr]
 have g2:rk≠2:=by simpa using g
 refine aa.ab dZ fw [0,2,4,11,74] ?_;simp[Uq];refine aa.cond rfl (λg=>?_) (λg=>?_)
 ·have g:rk=3:=by simpa using g
  rw[inst3 (by omega)]at hf;have wH:=hf.one rfl;have aw:=hf.env (j:=0) (i:=(z.fr,RR.bF,[(RR.a,z.fr,z.to)])) rfl (by omega);have Ns:chunk 3 1 [ti ra,ti z.fr,ti z.to]=[[ti ra,ti z.fr,ti z.to]]:=rfl;refine aa.dc aw fw [] ?_;simp[Ur,XL,iY,hRp,hRa,pP,wH,Ns,kr,Y5]
 have g3:rk≠3:=by simpa using g
 refine aa.ab dZ fw [0,2,4,11,96] ?_;simp[Us];refine aa.cond rfl (λg=>?_) (λg=>?_)
 ·have g:rk=4:=by simpa using g
  rw[inst4 (by omega)]at hf;have hLl:((List.range ((z.to-z.fr).toNat+1)).map λ(d:Nat)=>ni z RR (z.fr+(d:Int))).length=(z.to-z.fr).toNat+1:=by simp
  refine aa.ab dZ fw [0,2,4,9] ?_;simp[Ut,XL];refine aa.block ?_;refine aa.loop (λd:Nat=>⟨DM.look [(0,.ptr p 0),(2,.mF (.func fn) C),(4,.v (.box [ti rk,ti rh,ti ra,ti rb,ti rp,ti ro])),(9,.v (ti (z.fr+(d:Int))))],F d,N+1000,N,[]⟩)
   (λd=>z.fr+(d:Int)<=z.to+1/\d<=m/\∀q,q<d->B q=true) (λd=>((z.to-z.fr).toNat+1)-d) 0 (Le.same (λr hr=>XK (Zbg m) r (by omega)) (by simp[fT])) ⟨by omega,by omega,by intro q hq;omega⟩ (λd hd=>?_)
  obtain⟨d1,d2,d3⟩:=hd;have spd:=spj d2;refine aa.seq ?_;refine aa.ab dZ fw [0,2,4,9,107] ?_;simp[Uu,spd];refine aa.cond rfl (λg=>?_) (λg=>?_)
  ·have g:z.fr+(d:Int)<=z.to:=by simpa using g
   have jt:d<(z.to-z.fr).toNat+1:=by omega
   have hjm:=hf.next d3 (by rw[hLl];exact jt);have pA:((List.range ((z.to-z.fr).toNat+1)).map λ(d:Nat)=>ni z RR (z.fr+(d:Int)))[d]? =some (ni z RR (z.fr+(d:Int))):=by simp[jt]
   have aw:=hf.env pA hjm;obtain⟨b,hb⟩:∃b,B d=b:=⟨_,rfl⟩;rw[hb]at aw;have Ns:chunk 3 2 [ti ra,ti z.fr,ti (z.fr+(d:Int)),ti rb,ti (z.fr+(d:Int)),ti z.to]=[[ti ra,ti z.fr,ti (z.fr+(d:Int))],[ti rb,ti (z.fr+(d:Int)),ti z.to]]:=rfl;have w2:IntKind.i64.wrap (z.fr+(d:Int)+1)=z.fr+((d+1:Nat):Int):=by rw[au (by omega)];omega
   refine aa.skip ?_;simp;refine aa.seq ?_;refine aa.block ?_;refine aa.ab aw fw [0,2,4,9,132] ?_;simp[Uv,spd,iY,ni,hRp,hRa,hRb,Ns,kr,Y5];refine aa.cond rfl (λg2=>?_) (λg2=>?_)
   ·have g2:b=false:=by simpa using g2
    rw[g2]at hb;have Zr:=hf.end hjm hb;refine aa.ret ?_;simp[pP,Zr]
   ·have g2:b=true:=by simpa using g2
    rw[g2]at hb;refine aa.skip ?_;simp;refine aa.dc dZ fw [0,2,4,9] ?_;simp[Uw,w2];refine⟨d+1,Le.same (λr hr=>XK hjm r (by omega)) (by simp[fT]),⟨by omega,by omega,λq hq=>?_⟩,by omega⟩;by_cases hqe:q=d
    ·rw[hqe];exact hb
    ·exact d3 q (by omega)
  ·have g:¬z.fr+(d:Int)<=z.to:=by simpa using g
   have Zr:=hf.full (j:=d) (by rw[hLl];omega) d3;refine aa.exit ?_;simp[pP,Zr]
 ·have g4:rk≠4:=by simpa using g
  rw[inst0 (by rw[hRk];exact⟨g1,g2,g3,g4⟩)]at hf;have XT:m=0:=by have:=hf.le;simpa using this
  refine aa.skip ?_;simp[pP,XT]
theorem bound4{z:df}{r:bE}(h:r.kind=4):c8 z r=[ni z r z.fr,ni z r z.to]:=by unfold c8;rw[if_pos h]
theorem bound0{z:df}{r:bE}(h:r.kind≠4):c8 z r=bQ z r:=by unfold c8;rw[if_neg h]
theorem t87{fn p N m:Nat}{caps:List Nat}{F:Nat->aU}{z:df}{k:QC}{r:bE}(hs:Seen z p N k F m)(hf:wv fn (km caps) (c8 z r) F (λ_=>true) m)(hml:m=(c8 z r).length)
  (hm:mono z) (hla:z.l.aF.length<=1000000000) (qk:0<=z.fr/\z.fr<=z.to/\z.to<=1000) (hp:0<=r.bF/\r.bF<=1000) (hac:∀a∈z.l.aF,0<=a.cost/\a.cost<=1099511627776) (Y4:Cn caps (F 0)) {D:DV} (hD:Cm D r):
  aZ Tryz.prog 87 [.ptr p 0,D,.mF (.func fn) (km caps)] (F 0) ⟨True,.v (.eC []),F m⟩:=by
 have XK:∀{j},j<=m->∀r,N<=r->F j r=none:=λ{j} hj r hr=>by
  cases h:F j r with
  |none=>rfl
  |some o=>have:=(hs.cl j hj r o h).1;omega
 have spj:=λ{j} (hj:j<=m)=>hs.sp (j:=j) hj;simp only[uN]at spj;have XL:=spj (Zbg m);have uO:p<N:=(hs.cl 0 (Zbg m) p _ XL).1;have np:∀k,p≠N+k:=λk=>by omega
 have uL:∀r,F 0 r=none->F m r=none:=by
  have:∀j,j<=m->∀r,F 0 r=none->F j r=none:=by
   intro j;induction j with
   |zero=>intro _ r h;exact h
   |succ j ih=>intro hj r h;exact hf.none j r (by omega) (ih (by omega) r h)
  exact this m (Zae m)
 have call57:r.kind≠4->∀N',(∀r,N'<=r->F 0 r=none)->aZ Tryz.prog 57 [.ptr p 0,.v (.agg r.enc),.mF (.func fn) (km caps)] (F 0) ⟨True,.v (.eC []),F m⟩:=λhk N' _=>by
  rw[bound0 hk]at hf;exact t57 hs hf hm hla qk hp hac Y4 (ruleD2 r)
 obtain⟨C,hC⟩:∃C,km caps=C:=⟨_,rfl⟩;obtain⟨rk,rh,ra,rb,rp,ro⟩:=r;obtain⟨RR,xC⟩:∃RR:bE,(⟨rk,rh,ra,rb,rp,ro⟩:bE)=RR:=⟨_,rfl⟩;have hRa:RR.a=ra:=by rw[<-xC]
 have hRb:RR.b=rb:=by rw[<-xC]
 have hRp:RR.bF=rp:=by rw[<-xC]
 have hRk:RR.kind=rk:=by rw[<-xC]
 rw[hC]at call57;simp only[bE.enc]at call57;rw[xC,hC]at hf;rw[xC]at hml;refine c87.uM (XK (Zbg m)) (by simp) λbj=>?_;obtain⟨hD1,hD2⟩:=hD;simp[hC];refine aa.ab dZ fw [0,2,4] ?_;simp[adZ,hD1,hD2,-lk,-cellsOf];have hcc1:jD (over [(N+5,.box [.v (ti rk),.v (ti rh),.v (ti ra),.v (ti rb),.v (ti rp),.v (ti ro)])] (F 0)) (over [] (F 0)) id C C:=by
  rw[<-hC];refine sX (λx hx=>?_) Y4;obtain⟨cs,hc⟩:=Y4 x hx;have:=(bj x _ hc).1;exact⟨cs,by simp[hc];omega⟩
 refine aa.le (pX (l:=[(0,.ptr p 0),(2,.mF (.func fn) C),(4,.v (.box [ti rk,ti rh,ti ra,ti rb,ti rp,ti ro]))]) (nxt':=N+500) bj (by omega) (by simp;omega) ?_) ?_
 ·simp[Nat.add_assoc,XL,gp,jl,hcc1];exact cW (l:=[]) bj (by omega) (by simp)
 show aa _ _ _ _ ⟨_,F 0,_,_,_⟩;refine aa.seq ?_;refine aa.ab dZ fw [0,2,4,10] ?_;simp[ad0];refine aa.cond rfl (λg=>?_) (λg=>?_)
 ·have g:rk≠4:=by simpa using g
  have aw:=Zn (ay.nil) (call57 g) uL;refine aa.ew aw fw (rs:=Lg) rfl (by kernel_rfl) [] ?_;simp[Lg];refine aa.ret ?_;simp[Lh]
 ·have g:rk=4:=by simpa using g
  rw[bound4 (by omega)]at hf hml;simp only[Za9,Zcc]at hml;refine aa.skip ?_;simp;have Ns:chunk 1 2 [ti z.fr,ti z.to]=[[ti z.fr],[ti z.to]]:=rfl;refine aa.ab dZ fw [0,2,4,23,24,25] ?_;simp[ad1,XL,Ns];refine aa.block ?_;refine aa.loop (λj:Nat=>⟨DM.look [(0,.ptr p 0),(2,.mF (.func fn) C),(4,.v (.box [ti rk,ti rh,ti ra,ti rb,ti rp,ti ro])),(23,.v (.sl [[ti z.fr],[ti z.to]])),(24,.v (ti 2)),(25,.v (ti j))],F j,N+1000,N,[]⟩)
   (λj=>j<=2) (λj=>2-j) 0 (Le.same (λr hr=>XK (Zbg m) r (by omega)) (by simp[fT])) (by omega) (λj hj=>?_)
  have spd:=spj (show j<=m by omega);refine aa.ab dZ fw [0,2,4,23,24,25,26] ?_;simp[ad2];refine aa.seq ?_;refine aa.cond rfl (λg=>?_) (λg=>?_)
  ·have gi:(j:Int)<2:=by simpa using g
   have g:j<2:=by omega
   obtain⟨x,hx⟩:∃x,(if j=0 then z.fr else z.to)=x:=⟨_,rfl⟩;have me:DM.rowAt [[ti z.fr],[ti z.to]] (j:Int)=[ti x]:=by
    rw[<-hx];rcases(show j=0\/j=1 by omega)with rfl|rfl<;>rfl
   have pA:[ni z RR z.fr,ni z RR z.to][j]? =some (ni z RR x):=by
    rw[<-hx];rcases(show j=0\/j=1 by omega)with rfl|rfl<;>rfl
   have aw:=hf.env pA (by omega);have Ns:chunk 3 2 [ti ra,ti z.fr,ti x,ti rb,ti x,ti z.to]=[[ti ra,ti z.fr,ti x],[ti rb,ti x,ti z.to]]:=rfl;have w2:IntKind.i64.wrap ((j:Int)+1)=((j+1:Nat):Int):=by rw[au (by omega)];omega
   refine aa.skip ?_;simp;refine aa.seq ?_;refine aa.block ?_;refine aa.ab dZ fw [0,2,4,7,23,24,25] ?_;simp[ad3,me,gi];refine aa.dc aw fw [0,2,4,23,24,25] ?_;simp[ad4,spd,iY,ni,hRp,hRa,hRb,Ns,kr,Y5];refine aa.dc dZ fw [0,2,4,23,24,25] ?_;simp[ad5,w2];exact⟨j+1,Le.same (λr hr=>XK (show j+1<=m by omega) r (by omega)) (by simp[fT]),by omega,by omega⟩
  ·have gi:(2:Int)<=j:=by simpa using g
   have Zr:m=j:=by omega
   refine aa.exit ?_;simp[Lh,Zr]
theorem uI(l:List It):names (iY l)=[]:=by unfold iY;split<;>simp[names]
theorem k59_D{v:SV}{f:aU}{p:Nat}{l:List It}(hv:v.at f p):XI [.ptr p 0,iY l] f=⟨l.length<=1000,.v (.bool (dG v.z l)),f⟩:=by
 unfold iY;split
 ·rename_i e;subst e;rw[Y6 hv];simp[dG]
 ·exact k59_eq hv
theorem W9{v:SV}{f:aU}{p:Nat}{c:Int}{l:List It}(hv:v.at f p)(hb:v.okB)(hl:l.length<=1000)(hi:WH v.z v.s.best l)(hc:0<=c/\c<=4000000000000):XJ [.ptr p 0,.v (ti c),iY l] f=⟨True,.v (.agg [ti (iX v.z v.s.best c l).cost,ti (iX v.z v.s.best c l).size]),f⟩:=by
 unfold iY;split
 ·rename_i e;subst e;rw[Y7 hv];simp[hc]
 ·rw[k61_eq hv];simp[hb,hl,hi,hc]
theorem MG{z:df}{l:List It}(h:dG z l=true):l≠[]:=by
 rintro rfl;simp[dG]at h
theorem k89_D{v:SV}{f:aU}{p:Nat}{l:List It}(hv:v.at f p)(hn:l≠[])(hl:l.length<=1000)(hf:∀x∈l,ku v.z x->0<=x.1/\x.1<v.s.fin.length):k89 [.ptr p 0,iY l] f=⟨True,.v (.bool (!l8 v.z v.s.fin l)),f⟩:=by
 unfold iY;rw[if_neg hn,k89_eq hv];simp[hl];exact λa b c h hi=>hf _ h hi
def cS(r:bE):Ob:=.box [.v (ti r.kind),.v (ti r.head),.v (ti r.a),.v (ti r.b),.v (ti r.bF),.v (ti r.origin)]
structure Gh(v:SV)(i:eE):Prop where
 b:v.okB
 l:i.2.2.length<=1000
 it:WH v.z v.s.best i.2.2
 p:0<=i.2.1/\i.2.1<=4000000000000
def p0(a b c N:Nat)(n:Nat):Nat:=if n=0 then a else if n=1 then b else if n=2 then c else N+n
theorem uJ{a b c N:Nat}(h1:a<N)(h2:b<N)(h3:c<N)(n1:a≠b)(n2:a≠c)(n4:b≠c)(x y:Nat)(e:p0 a b c N x=p0 a b c N y):x=y:=by
 unfold p0 at e;repeat' split at e
 all_goals omega
theorem uK(l:List Nat)(o:aU):Di l o o:=λ_ _=>rfl
theorem t58{f:aU}{p N sB rB:Nat}{v:SV}{r:bE}{i:eE}(hN:∀r,N<=r->f r=none)(hv:v.at f p)(hs:f sB=some (.box [.ptr p 0]))(hr:f rB=some (cS r))(ho:Gh v i)(CS:dG v.z i.2.2=false->Cd v.s r.head (ou v.z v.s.best i)):
  aZ Tryz.prog 58 ([.v (ti i.1),.v (ti i.2.1),iY i.2.2]++km [sB,rB]) f ⟨True,.v (.bool true),cJ f v (fV v.z r v.s i)⟩:=by
 obtain⟨g,c,l⟩:=i;obtain⟨o1,o2,o3,o4⟩:=ho;simp only at o2 o3 o4 CS;obtain⟨R,hR⟩:∃R,fV v.z r v.s (g,c,l)=R:=⟨_,rfl⟩;rw[hR];unfold fV at hR;simp only at hR;have k1:=k59_D (l:=l) hv;have k2:=W9 (l:=l) (c:=c) hv o1 o2 o3 o4;obtain⟨U,hU⟩:∃U,iY l=U:=⟨_,rfl⟩;have hUn:names U=[]:=by rw[<-hU];exact uI l
 simp only[hU]at k1 k2⊢;obtain⟨V,hV⟩:∃V,iX v.z v.s.best c l=V:=⟨_,rfl⟩;have hV2:ou v.z v.s.best (g,c,l)=V:=hV;rw[hV2]at CS hR;rw[hV]at k2;obtain⟨w,hw⟩:∃w,dG v.z l=w:=⟨_,rfl⟩;rw[hw]at CS hR k1;refine c58.uM hN (by simp[km]) λbj=>?_;have uO:p<N:=(bj p _ hv.sp).1;have hsN:sB<N:=(bj _ _ hs).1;have hrN:rB<N:=(bj _ _ hr).1;have n1:p≠sB:=λe=>by rw[<-e,hv.sp]at hs;simp[uN]at hs
 have n2:p≠rB:=λe=>by rw[<-e,hv.sp]at hr;simp[uN,cS]at hr
 have n3:sB≠rB:=λe=>by rw[e,hr]at hs;simp[cS]at hs
 simp only[cS]at hr;simp[km];show aa _ _ _ _ ⟨_,f,_,_,_⟩;refine aa.ab dZ fw [0,1,2,3,4] ?_;simp[Ih];refine aa.seq ?_;refine aa.ew (ok59 ay.nil) fw (rs:=Ux) rfl (by kernel_rfl) [0,1,2,3,4,12] ?_;simp[Ux,hs,k1,o2];refine aa.cond rfl (λq=>?_) (λq=>?_)
 ·have q:w=false:=by simpa using q
  rw[if_neg (by rw[q];simp)]at hR;have aw:=ok61 (Zn (ay.nil) (λN' Ol=>t60 Ol hv (CS q)) (λr hr=>mC hv _ hr));rw[hR]at aw;refine aa.tZ aw fw (rs:=dd (p0 p sB rB N) (fm Uy [some [1],none,some [2],none,none,none,some [0],none])) (.inr ⟨_,rfl⟩) ((gq (uJ uO hsN hrN n1 n2 n3) _ _ _).trans (by kernel_rfl)) [] ?_;simp[Uy,fm,dd,gK,p0,ch,bm,names,hs,hr,k2,hUn,uK];refine aa.ab dZ fw [8] ?_;simp[DB];refine aa.ret ?_;simp[rW]
 ·have q:w=true:=by simpa using q
  rw[if_pos q]at hR;refine aa.skip ?_;simp;refine aa.ab dZ fw [8] ?_;simp[DB];rw[<-hR,fl hv];refine aa.ret ?_;simp[rW]
theorem t88{f:aU}{p N sB rB:Nat}{v:SV}{r:bE}{i:eE}(hN:∀r,N<=r->f r=none)(hv:v.at f p)(hs:f sB=some (.box [.ptr p 0]))(hr:f rB=some (cS r))(ho:Gh v i)(hfl:v.s.fin.length=v.s.best.length)(CS:dG v.z i.2.2=true->l8 v.z v.s.fin i.2.2=false->Cd v.s r.head (ou v.z v.s.best i)):
  aZ Tryz.prog 88 ([.v (ti i.1),.v (ti i.2.1),iY i.2.2]++km [sB,rB]) f ⟨True,.v (.bool true),cJ f v (gz v.z r v.s i)⟩:=by
 obtain⟨g,c,l⟩:=i;obtain⟨o1,o2,o3,o4⟩:=ho;simp only at o2 o3 o4 CS;obtain⟨R,hR⟩:∃R,gz v.z r v.s (g,c,l)=R:=⟨_,rfl⟩;rw[hR];unfold gz at hR;simp only at hR;have k1:=k59_D (l:=l) hv;have k2:=W9 (l:=l) (c:=c) hv o1 o2 o3 o4;have k3:l≠[]->_:=λhl=>k89_D (l:=l) hv hl o2 (λx hx hi=>by rw[hfl];exact o3 x hx hi);have hwn:dG v.z l=true->l≠[]:=MG;obtain⟨U,hU⟩:∃U,iY l=U:=⟨_,rfl⟩;have hUn:names U=[]:=by rw[<-hU];exact uI l
 simp only[hU]at k1 k2 k3⊢;obtain⟨V,hV⟩:∃V,iX v.z v.s.best c l=V:=⟨_,rfl⟩;have hV2:ou v.z v.s.best (g,c,l)=V:=hV;rw[hV2]at CS hR;rw[hV]at k2;obtain⟨w,hw⟩:∃w,dG v.z l=w:=⟨_,rfl⟩;rw[hw]at CS hR k1 hwn;obtain⟨y,hy⟩:∃y,l8 v.z v.s.fin l=y:=⟨_,rfl⟩;rw[hy]at CS hR k3;refine c88.uM hN (by simp[km]) λbj=>?_;have uO:p<N:=(bj p _ hv.sp).1;have hsN:sB<N:=(bj _ _ hs).1;have hrN:rB<N:=(bj _ _ hr).1;have n1:p≠sB:=λe=>by rw[<-e,hv.sp]at hs;simp[uN]at hs
 have n2:p≠rB:=λe=>by rw[<-e,hv.sp]at hr;simp[uN,cS]at hr
 have n3:sB≠rB:=λe=>by rw[e,hr]at hs;simp[cS]at hs
 simp only[cS]at hr;simp[km];show aa _ _ _ _ ⟨_,f,_,_,_⟩;refine aa.ab dZ fw [0,1,2,3,4] ?_;simp[ad6];refine aa.seq ?_;obtain⟨c1,aX⟩:∃c1:Bool,(w&& !y)=c1:=⟨_,rfl⟩;cases w with
 |false=>
  rw[if_neg (by simp)]at hR;refine aa.ew (ok59 (ok89 ay.nil)) fw (rs:=Bp) rfl (by kernel_rfl) [0,1,2,3,4,16] ?_;simp[Bp,hs,k1,o2];refine aa.cond rfl (λq=>by cases q) (λq=>?_);refine aa.skip ?_;simp;refine aa.ab dZ fw [8] ?_;simp[NM];rw[<-hR,fl hv];refine aa.ret ?_;simp[Fq]
 |true=>
  have k3:=k3 (hwn rfl);refine aa.ew (ok59 (ok89 ay.nil)) fw (rs:=Bp) rfl (by kernel_rfl) [0,1,2,3,4,16] ?_;simp[Bp,hs,k1,o2,k3];refine aa.cond rfl (λq=>?_) (λq=>?_)
  ·have q:y=false:=by simpa using q
   rw[if_pos ⟨rfl,q⟩]at hR;have aw:=ok61 (Zn (ay.nil) (λN' Ol=>t60 Ol hv (CS rfl q)) (λr hr=>mC hv _ hr));rw[hR]at aw;refine aa.tZ aw fw (rs:=dd (p0 p sB rB N) (fm Li [some [1],none,some [2],none,none,none,some [0],none])) (.inr ⟨_,rfl⟩) ((gq (uJ uO hsN hrN n1 n2 n3) _ _ _).trans (by kernel_rfl)) [] ?_;simp[Li,fm,dd,gK,p0,ch,bm,names,hs,hr,k2,hUn,uK];refine aa.ab dZ fw [8] ?_;simp[NM];refine aa.ret ?_;simp[Fq]
  ·have q:y=true:=by simpa using q
   rw[if_neg (by rw[q];simp)]at hR;refine aa.skip ?_;simp;refine aa.ab dZ fw [8] ?_;simp[NM];rw[<-hR,fl hv];refine aa.ret ?_;simp[Fq]
def lM(v:br):Ob:=.box [.v (ti v.cost),.v (ti v.size)]
def cj(x:Cell):Ob:=.box [.v (ti x.cost),.v (ti x.size),.v (ti x.ez),.v (ti x.arg)]
theorem t90{f:aU}{p N sB vB iB cB:Nat}{v:SV}{w:br}{k:Int}{x:Cell}{i:eE}(hN:∀r,N<=r->f r=none)(hv:v.at f p)(hs:f sB=some (.box [.ptr p 0]))(hw:f vB=some (lM w))(hi:f iB=some (.box [.v (ti k)]))(hx:f cB=some (cj x))(ho:Gh v i):
  aZ Tryz.prog 90 ([.v (ti i.1),.v (ti i.2.1),iY i.2.2]++km [sB,vB,iB,cB]) f
   ⟨True,.v (.bool (!decide (ou v.z v.s.best i=w))),if ou v.z v.s.best i=w then over [(cB,cj ⟨w.cost,w.size,k,i.1⟩)] f else f⟩:=by
 obtain⟨g,c,l⟩:=i;obtain⟨o1,o2,o3,o4⟩:=ho;simp only at o2 o3 o4;have k2:=W9 (l:=l) (c:=c) hv o1 o2 o3 o4;obtain⟨U,hU⟩:∃U,iY l=U:=⟨_,rfl⟩;have hUn:names U=[]:=by rw[<-hU];exact uI l
 simp only[hU]at k2⊢;obtain⟨⟨vc,vs⟩,hV⟩:∃V,iX v.z v.s.best c l=V:=⟨_,rfl⟩;have hV2:ou v.z v.s.best (g,c,l)=⟨vc,vs⟩:=hV;rw[hV2];rw[hV]at k2;obtain⟨wc,ws⟩:=w;refine c90.uM hN (by simp[km]) λbj=>?_;have uO:p<N:=(bj p _ hv.sp).1;have hvN:vB<N:=(bj _ _ hw).1;have hsN:sB<N:=(bj _ _ hs).1;have n1:p≠vB:=λe=>by rw[<-e,hv.sp]at hw;simp[uN,lM]at hw
 have n2:p≠sB:=λe=>by rw[<-e,hv.sp]at hs;simp[uN]at hs
 have n3:vB≠sB:=λe=>by rw[e,hs]at hw;simp[lM]at hw
 have n4:vB≠cB:=λe=>by rw[e,hx]at hw;simp[lM,cj]at hw
 have n5:iB≠cB:=λe=>by rw[e,hx]at hi;simp[cj]at hi
 simp only[lM,cj]at hw hx⊢;simp[km];show aa _ _ _ _ ⟨_,f,_,_,_⟩;refine aa.ab dZ fw [0,1,2,3,4,5,6] ?_;simp[aed];refine aa.seq ?_;refine aa.iH (ok61 ay.nil) fw (rs:=dd (p0 p vB sB N) (fm Lk [none,none,none,some [0],some [1],none])) (.inr ⟨_,rfl⟩) ((gq (uJ uO hvN hsN n1 n2 n3) _ _ _).trans (by kernel_rfl)) [0,3,4,5,6,16] ?_;simp[Lk,fm,dd,gK,p0,ch,bm,names,hs,hw,k2,hUn,uK];refine aa.cond rfl (λq=>?_) (λq=>?_)
 ·have q:¬(vc=wc/\vs=ws):=by
   simp at q;rintro⟨rfl,rfl⟩;simp at q
  rw[if_neg q];refine aa.ab dZ fw [10] ?_;simp[aee];refine aa.ret ?_;simp[Ll];exact Classical.not_and_iff_not_or_not.1 q
 ·have q:vc=wc/\vs=ws:=by simpa using q
  rw[if_pos q];refine aa.skip ?_;simp;refine aa.ab dZ fw [0,3,4,5,6] ?_;simp[aef,hw,hi,hx];refine aa.ab dZ fw [10] ?_;simp[aeg];refine aa.ret ?_;simp[Ll,q,Oi]
theorem wx(A B:List (Nat×Ob))(f:aU):over A (over B f)=over (A++B) f:=by
 funext k;induction A with
 |nil=>rfl
 |cons a A ih=>
  obtain⟨r,o⟩:=a;simp only[bP,ZaH,ih]
theorem x6{A B:List (Nat×Ob)}{f:aU}(h:∀a∈A,∀b∈B,a.1≠b.1):over A (over B f)=over B (over A f):=by
 funext k;by_cases hA:∃o,(k,o)∈A
 ·obtain⟨o,ho⟩:=hA;have hB:∀o',(k,o')∉B:=λo' gf=>h _ ho _ gf rfl;rw[ej (l:=B) hB];obtain⟨o1,h1,h2⟩:=zK (f:=over B f) ho;obtain⟨o2,h3,h4⟩:=zK (f:=f) ho;have key:∀(A:List (Nat×Ob)) (g:aU),(∃o,(k,o)∈A)->over A g k=over A f k:=by
   intro A g;induction A with
   |nil=>rintro⟨o,ho⟩;cases ho
   |cons a A ih=>
    rintro⟨o,ho⟩;rw[bP,bP];split
    ·rfl
    ·rename_i bH;rcases Zag.1 ho with e|ho
     ·exact absurd (by rw[<-e]) bH
     ·exact ih ⟨o,ho⟩
  exact key A _ ⟨o,ho⟩
 ·have hA:∀o',(k,o')∉A:=λo' gf=>hA ⟨o',gf⟩;rw[ej (l:=A) hA];by_cases hB:∃o,(k,o)∈B
  ·obtain⟨o,ho⟩:=hB;have key:∀(B:List (Nat×Ob)) (g:aU),(∃o,(k,o)∈B)->over B g k=over B f k:=by
    intro B g;induction B with
    |nil=>rintro⟨o,ho⟩;cases ho
    |cons a B ih=>
     rintro⟨o,ho⟩;rw[bP,bP];split
     ·rfl
     ·rename_i bH;rcases Zag.1 ho with e|ho
      ·exact absurd (by rw[<-e]) bH
      ·exact ih ⟨o,ho⟩
   exact(key B _ ⟨o,ho⟩).symm
  ·have hB:∀o',(k,o')∉B:=λo' gf=>hB ⟨o',gf⟩;rw[ej (l:=B) hB,ej (l:=B) hB,ej (l:=A) hA]
section
variable{v:SV}{f0:aU}{p N:Nat}{L:List (Nat×Ob)}
theorem P9(bj:dO f0 N)(hv:v.at f0 p)(hL:∀q∈L,N<=q.1)(s s':eo):cJ (over L (cJ f0 v s)) (v.to s) s'=over L (cJ f0 v s'):=by
 have h1:cJ (over L (cJ f0 v s)) (v.to s) s'=over L (cJ (cJ f0 v s) (v.to s) s'):=by
  have a1:=(bj _ _ hv.rb).1;have a2:=(bj _ _ hv.rf).1;have a3:=(bj _ _ hv.rh).1;have a4:=(bj _ _ hv.q).1;have a5:=(bj _ _ hv.hp).1;have a6:=(bj _ _ hv.m).1;refine x6 λa ha b hb=>?_;have:=hL b hb;simp only[Zag,Zap,or_false]at ha;rcases ha with rfl|rfl|rfl|rfl|rfl|rfl<;>simp only[]<;>omega
 rw[h1,WG]
theorem Qa(bj:dO f0 N)(hv:v.at f0 p)(hL:∀q∈L,N<=q.1)(a:eo)(s:Qs):cH (over L (cJ f0 v a)) v.k.q ((v.to a).qv p) s=over L (cJ f0 v ⟨a.best,a.fin,a.jt,s⟩):=by
 rw[<-D5 hv a s];have a4:=(bj _ _ hv.q).1;have a5:=(bj _ _ hv.hp).1;have a6:=(bj _ _ hv.m).1;refine x6 λa ha b hb=>?_;have:=hL b hb;simp only[Zag,Zap,or_false]at ha;rcases ha with rfl|rfl|rfl<;>simp only[SV.qv]<;>omega
theorem sd(bj:dO f0 N)(hv:v.at f0 p)(s:eo):dO (cJ f0 v s) N:=by
 have AD:∀m,f0 m≠none->cJ f0 v s m≠none:=by
  intro m hm;simp only[cJ,bP,eN];repeat' split
  all_goals first|(intro h;cases h)|exact hm
 intro r o h;by_cases hr:f0 r=none
 ·rw[mC hv s hr]at h;cases h
 ·obtain⟨o',gf⟩:=ZbO.1 hr;obtain⟨h1,h2⟩:=bj r o' gf;refine⟨h1,λm hm=>?_⟩;simp only[cJ,bP,eN]at h;split at h
  ·cases h;simp[DY,bG]at hm
  ·split at h
   ·cases h;simp[FY,bG]at hm
   ·split at h
    ·cases h;simp[DZ,bG]at hm
    ·split at h
     ·cases h;simp only[qB,bG,bM,names,ZaJ,Zao,Zag,Zap,or_false]at hm;apply AD;rcases hm with rfl|rfl|rfl
      ·rw[hv.a];simp
      ·rw[hv.hp];simp
      ·rw[hv.m];simp
     ·split at h
      ·cases h;simp[hB,bG]at hm
      ·split at h
       ·cases h;exfalso;simp only[mB,bG,ZaU,wN,Zal]at hm;obtain⟨e,⟨e',_,rfl⟩,hk⟩:=hm;simp[names]at hk
       ·rw[gf]at h;cases h;exact AD m (h2 m hm)
theorem wy(bj:dO f0 N)(hv:v.at f0 p)(hL:∀q∈L,N<=q.1)(s:eo):(v.to s).at (over L (cJ f0 v s)) p:=(sV hv s).over (sd bj hv s) hL
theorem se{f:aU}{N M:Nat}{L:List (Nat×Ob)}(h:dO f N)(hNM:N<=M)(hL:∀q∈L,q.1<M/\∀m∈bG q.2,over L f m≠none):dO (over L f) M:=by
 have AD:∀m,f m≠none->over L f m≠none:=by
  intro m hm;cases ho:over L f m with
  |some o=>simp
  |none=>
   exfalso;clear hL;induction L with
   |nil=>exact hm ho
   |cons a L ih=>
    rw[bP]at ho;split at ho
    ·cases ho
    ·exact ih ho
 intro r o ho;rcases oR ho with h1|⟨_,h1⟩
 ·exact⟨(hL _ h1).1,(hL _ h1).2⟩
 ·obtain⟨h2,h3⟩:=h r o h1;exact⟨by omega,λm hm=>AD m (h3 m hm)⟩
end
theorem Qb{z:df}{r:bE}{i:eE}(h:i∈bQ z r):i.2.2.length<=2:=by
 unfold bQ at h;split at h
 ·split at h
  ·simp only[Zag,Zap,or_false]at h;subst h;simp
  ·cases h
 ·split at h
  ·obtain⟨k,_,hk⟩:=Zbn.1 h;unfold qG at hk;split at hk
   ·cases hk;simp
   ·cases hk
  ·split at h
   ·simp only[Zag,Zap,or_false]at h;subst h;simp
   ·split at h
    ·obtain⟨d,_,rfl⟩:=Zal.1 h;simp[ni]
    ·cases h
theorem D6{z:df}{r:bE}{x:Int}(h:gZ r x):(c8 z r).length<=2:=by
 unfold gZ at h;unfold c8;split
 ·simp
 ·unfold bQ;rw[if_neg (by omega),if_neg (by omega),if_pos (by omega)];simp
theorem x7{z:df}(K:Kx z)(hcf:tJ z.c){k:QC}{st:eo}(W:WF z.n.an.toNat st){r:bE}(hr:r∈z.n.rules){i:eE}(hi:i∈bQ z r):Gh ⟨k,z,st⟩ i:=
 ⟨⟨hcf,K.hc,W.bo⟩,by have:=Qb hi;omega,λx hx _=>by
  have:=nj K hr hi hx;have:=W.lb;exact⟨by omega,by simp only;omega⟩,xZ K hr hi⟩
def zr(z:df)(x:Int)(st:eo)(k:Nat):eo:=(z.n.rules.take k).foldl (zP z x) (nv st)
def o7(z:df)(x:Int)(st:eo)(k j:Nat):eo:=((c8 z (z.n.rules.getD k default)).take j).foldl (gz z (z.n.rules.getD k default)) (zr z x st k)
theorem wA{α β:Type}{f:α->List β}{c:Nat}:∀(l:List α),(∀a∈l,(f a).length<=c)->(l.flatMap f).length<=c*l.length
 |[],_=>by simp
 |a::l,h=>by
  have h1:=h a (by simp);have h2:=wA (f:=f) (c:=c) l (λb hb=>h b (by simp[hb]));rw[Zbo,ZaB,Za9,Nat.mul_succ];omega
theorem Jw{z:df}{x:Int}(l:List bE):((l.filter λr=>decide (gZ r x)).flatMap λr=>(c8 z r).map λi=>((r,i):PR)).length<=2*l.length:=by
 have h1:=wA (c:=2) (f:=λr=>(c8 z r).map λi=>((r,i):PR)) (l.filter λr=>decide (gZ r x)) (λr hr=>by
  rw[Zbt];exact D6 (by simpa using(ZaP.1 hr).2))
 have h2:=List.length_filter_le (λr=>decide (gZ r x)) l;omega
theorem mid_ok{z:df}{st:eo}(C:lK z.n z.l z.c z.fr.toNat z.to.toNat)(K:Kx z)(h:IV z st)(bH:st.s.heap≠[]){k j:Nat}(hk:k<z.n.rules.length)(hu:gZ (z.n.rules.getD k default) (st.s.e 0).x):
  KN z (o7 z (st.s.e 0).x st k j)/\(o7 z (st.s.e 0).x st k j).s.clock<=st.s.clock+1202/\(o7 z (st.s.e 0).x st k j).fin.length=(o7 z (st.s.e 0).x st k j).best.length:=by
 obtain⟨k1,k2,k3,k4⟩:=h.1.pop K bH;have hP:=WZ C K h bH;have hxf:(nv st).fin.getD (st.s.e 0).x.toNat false=true:=by
  show kg (nv st) _=true;rw[pZ h.1.wf bH k2.1 k2.2,if_pos rfl]
 have bj:(nv st).s.clock=st.s.clock:=by
  have hs:sb (lW st.s) (ke st.best st.s):=by unfold ke;rw[if_neg bH];exact o5 rfl
  exact hs.clock
 have MH:z.n.rules.getD k default∈z.n.rules:=bw hk;obtain⟨r,hr⟩:∃r,z.n.rules.getD k default=r:=⟨_,rfl⟩;have e:o7 z (st.s.e 0).x st k j=((((z.n.rules.take k).filter λr=>decide (gZ r (st.s.e 0).x)).flatMap λr=>(c8 z r).map λi=>((r,i):PR))++((c8 z r).take j).map λi=>((r,i):PR)).foldl (λst (p:PR)=>gz z p.1 st p.2) (nv st):=by
  rw[Zat,<-Cj,Zb5];unfold o7 zr;rw[hr]
 have aG:∀p∈(((z.n.rules.take k).filter λr=>decide (gZ r (st.s.e 0).x)).flatMap λr=>(c8 z r).map λi=>((r,i):PR))++((c8 z r).take j).map λi=>((r,i):PR),JU z p:=by
  intro p hp;rcases Zao.1 hp with hp|hp
  ·exact Oh K (λr h=>Zav h) p hp
  ·obtain⟨i,hi,rfl⟩:=Zal.1 hp;rw[hr]at MH;exact⟨MH,xY K.ft.2 (Zav hi)⟩
 obtain⟨a1,_,_,a4⟩:=(WY C K k2 hxf).fold (λ_ h=>h) _ aG _ hP;rw[<-e]at a1 a4;have l1:=Jw (z:=z) (x:=(st.s.e 0).x) (z.n.rules.take k);have l2:=D6 (z:=z) hu;have l3:=K.hn.2.2.1;rw[hr]at l2;rw[ZaB,Zbt,Zaw]at a4;rw[Zaw]at l1;exact⟨a1.kn,by omega,by rw[a1.kn.wf.lf,a1.kn.wf.lb]⟩
theorem Qc{z:df}{x:Int}{st:eo}{k:Nat}(hk:k<z.n.rules.length):zr z x st (k+1)=if gZ (z.n.rules.getD k default) x then o7 z x st k (c8 z (z.n.rules.getD k default)).length else zr z x st k:=by
 unfold o7 zr;rw[cG hk,Zat];simp only[Zaz,ZbV,zP,Zbd]
theorem Qd{z:df}{x:Int}{st:eo}{k j:Nat}{i:eE}(h:(c8 z (z.n.rules.getD k default))[j]? =some i):o7 z x st k (j+1)=gz z (z.n.rules.getD k default) (o7 z x st k j) i:=by
 unfold o7;rw[Zbw,h,Zat];rfl
deriving instance DecidableEq for br
def Jq(z:df)(best:List br)(v:br)(r:bE):Option eE:=(bQ z r).find? λi=>decide (ou z best i=v)
def jw(z:df)(best:List br)(h:Int)(x:Cell)(k:Nat):Cell:=
 if(z.n.rules.getD k default).head≠h\/(bv best h).cost>=1099511627776\/x.ez>=0 then x
 else match Jq z best (bv best h) (z.n.rules.getD k default)with
  |some i=>⟨(bv best h).cost,(bv best h).size,k,i.1⟩
  |none=>x
def mo(z:df)(best:List br)(h:Int)(m:Nat):Cell:=(List.range m).foldl (jw z best h) fc
def gB(z:df)(best:List br)(h:Int):Cell:=mo z best h z.n.rules.length
def nk(z:df)(best:List br):List Cell:=(List.range z.n.an.toNat).map λ(h:Nat)=>gB z best (h:Int)
theorem wu(z:df)(best:List br)(h:Int)(m:Nat):mo z best h (m+1)=jw z best h (mo z best h m) m:=by
 unfold mo;rw[Zax,Zat];rfl
def Jr(l:aM):Prop:=∀i j:Nat,i<=j->j<l.aF.length->(l.aF.getD i default).f<(l.aF.getD j default).f\/((l.aF.getD i default).f=(l.aF.getD j default).f/\(l.aF.getD i default).t<=(l.aF.getD j default).t)
theorem Jr.mono{z:df}(h:Jr z.l):mono z:=by
 intro i j Xx hj hp;have:=h i j Xx hj;unfold kc at hp⊢;omega
theorem W0{z:df}(hs:Jr z.l){i:Nat}(h:gU z<=i)(hi:i<z.l.aF.length):kc z (z.l.aF.getD i default):=by
 have hl:gU z<z.l.aF.length:=by omega
 have h1:=List.findIdx_getElem (w:=hl);simp only[decide_eq_true_eq]at h1;refine hs.mono (gU z) i h hi ?_;have e:z.l.aF.getD (gU z) default=z.l.aF[gU z]:=by simp[List.getD,hl]
 rw[e];exact h1
theorem at_in{z:df}(hs:Jr z.l){i:Nat}(hi:i<z.l.aF.length)(h:Gs z (z.l.aF.getD i default)):gU z<=i/\i<qI z:=by
 refine WR hs.mono (λi j Xx hj hl dy=>?_) hi h;have h1:=W0 hs hl (by omega);have h2:=hs i j Xx hj;unfold kc Gs at*
 omega
theorem kl(z:df)(best:List br)(h:Int):∀m,m<=z.n.rules.length->
  ((bv best h).cost>=1099511627776->mo z best h m=fc)/\
  ((bv best h).cost<1099511627776->
   (mo z best h m=fc/\∀(k:Nat) r,k<m->z.n.rules[k]? =some r->r.head=h->∀i∈bQ z r,ou z best i≠bv best h)\/
   (∃(k:Nat) (r:bE) (i:eE),k<m/\z.n.rules[k]? =some r/\r.head=h/\Jq z best (bv best h) r=some i/\mo z best h m=⟨(bv best h).cost,(bv best h).size,k,i.1⟩/\
    ∀(k':Nat) r,k'<k->z.n.rules[k']? =some r->r.head=h->∀i∈bQ z r,ou z best i≠bv best h))
 |0,_=>⟨λ_=>rfl,λ_=>.inl ⟨rfl,λk r hk=>by omega⟩⟩
 |m+1,hm=>by
  obtain⟨a,b⟩:=kl z best h m (by omega);have hr:z.n.rules[m]? =some (z.n.rules.getD m default):=by simp[List.getD,show m<z.n.rules.length by omega]
  rw[wu];refine⟨λhf=>?_,λhf=>?_⟩
  ·rw[a hf];unfold jw;rw[if_pos (.inr (.inl hf))]
  ·rcases b hf with⟨b1,b2⟩|⟨k,r,i,b1,b2,b3,b4,b5,b6⟩
   ·rw[b1];unfold jw;split
    ·rename_i hc;have hc:(z.n.rules.getD m default).head≠h:=by
      rcases hc with hc|hc|hc
      ·exact hc
      ·omega
      ·exact absurd hc (by decide)
     refine .inl ⟨rfl,λk r hk qH xU=>?_⟩;by_cases e:k=m
     ·subst e;rw[hr]at qH;cases qH;exact absurd xU hc
     ·exact b2 k r (by omega) qH xU
    ·rename_i hc;simp only[not_or,ne_eq,Decidable.not_not]at hc;cases hp:Jq z best (bv best h) (z.n.rules.getD m default)with
     |some i=>exact .inr ⟨m,_,i,by omega,hr,hc.1,hp,rfl,b2⟩
     |none=>
      refine .inl ⟨rfl,λk r hk qH xU=>?_⟩;by_cases e:k=m
      ·subst e;rw[hr]at qH;cases qH;intro i hi;have:=Zcy.1 hp i hi;simpa using this
      ·exact b2 k r (by omega) qH xU
   ·refine .inr ⟨k,r,i,by omega,b2,b3,b4, ?_,b6⟩;rw[b5];unfold jw;rw[if_pos (.inr (.inr (by simp only;omega)))]
theorem zQ{z:df}{best:List br}{h:Nat}(hh:h<z.n.an.toNat):(nk z best).getD h default=gB z best (h:Int):=by
 simp[nk,List.getD,hh]
theorem zR(z:df)(best:List br):(nk z best).length=z.n.an.toNat:=by simp[nk]
theorem MB{l:List eE}{p:eE->Bool}{i:eE}(hs:l.Pairwise λa b=>a.1<=b.1)(h:l.find? p=some i):∀j∈l,p j=true->i.1<=j.1:=by
 induction l with
 |nil=>cases h
 |cons a l ih=>
  rw[ZaN]at hs;intro j hj hp;by_cases ha:p a=true
  ·rw[List.find?_cons_of_pos ha]at h;cases h;rcases Zag.1 hj with rfl|hj
   ·omega
   ·exact hs.1 j hj
  ·rw[List.find?_cons_of_neg ha]at h;rcases Zag.1 hj with rfl|hj
   ·exact absurd hp ha
   ·exact ih hs.2 h j hj hp
theorem Js(z:df)(r:bE):(bQ z r).Pairwise λa b=>a.1<=b.1:=by
 unfold bQ;split
 ·split<;>simp
 ·split
  ·rw[List.pairwise_filterMap];refine List.Pairwise.imp (R:=λa b=>a<b) (λ{a b} ZD x hx y hy=>?_) List.pairwise_lt_range';unfold qG at hx hy;split at hx
   ·split at hy
    ·cases hx;cases hy;simp only;omega
    ·cases hy
   ·cases hx
  ·split
   ·simp
   ·split
    ·rw[Zch];refine List.Pairwise.imp (R:=λa b=>a<b) (λ{a b} ZD=>?_) List.pairwise_lt_range;simp only[ni];omega
    ·simp
section
variable{z:df}{st:eo}
theorem Zk(K:Kx z)(h:KN z st)(bH:st.s.heap=[]){x:Int}(h0:0<=x)(h1:x<z.n.an)(hf:(bv st.best x).cost<1099511627776):kg st x=true:=by
 cases Gp:kg st x with
 |true=>rfl
 |false=>
  exfalso;rcases ilt (st.jt.getD x.toNat 0)with hd|hd
  ·have:=(h.wf.old x.toNat (by omega) hd).2;unfold bv at hf;rw[this]at hf;exact absurd hf (by decide)
  ·obtain⟨e,he,_⟩:=h.wf.Qz x.toNat (by omega) hd Gp;rw[bH]at he;cases he
theorem Zl(K:Kx z)(h:KN z st){x:Int}(h0:0<=x)(h1:x<z.n.an)(hf:¬(bv st.best x).cost<1099511627776):bv st.best x=⟨1099511627776,0⟩:=by
 rcases ilt (st.jt.getD x.toNat 0)with hd|hd
 ·exact(h.wf.old x.toNat (by omega) hd).2
 ·exact absurd (h.wf.Mz x.toNat (by omega) hd) hf
theorem zS(K:Kx z)(h:KN z st){x:Int}(h0:0<=x)(h1:x<z.n.an):((nk z st.best).getD x.toNat default).val=bv st.best x:=by
 obtain⟨y,rfl⟩:=Zad h0;rw[Zai,zQ (by omega)];obtain⟨a,b⟩:=kl z st.best y z.n.rules.length (Zae _);unfold gB;by_cases hf:(bv st.best y).cost<1099511627776
 ·rcases b hf with⟨b1,b2⟩|⟨k,r,i,_,_,_,_,b5,_⟩
  ·obtain⟨k,r,hk,hr,i,hi,_,hc⟩:=h.att y h0 h1 hf;exact absurd hc (b2 k r (Zas.1 hk).1 hk hr i hi)
  ·rw[b5]
 ·rw[a (by omega),Zl K h h0 h1 hf];rfl
theorem D4(K:Kx z)(h:KN z st){x:Int}(h0:0<=x)(h1:x<z.n.an)(f t:Int):cD z.c (nk z st.best) z.fr z.to x f t=iO z st.best x f t:=by
 unfold cD iO;split
 ·exact zS K h h0 h1
 ·rfl
theorem W3(K:Kx z)(h:KN z st){s t:Nat}(es:z.fr=s)(et:z.to=t){k:Nat}{r:bE}(hk:z.n.rules[k]? =some r){i:eE}(hi:i∈bQ z r):mZ z.n z.l z.c (nk z st.best) s t k i.1 (ou z st.best i):=by
 have hr:r∈z.n.rules:=Zaq hk;obtain⟨q1,q2,q3,q4,q5⟩:=K.hn.2.2.2 r hr;have hv:=λ{x:Int} (h0:0<=x) (h1:x<z.n.an) (f t:Int)=>D4 K h h0 h1 f t;have qk:=K.ft;refine⟨r,hk, ?_⟩;unfold bQ at hi;split at hi
 ·rename_i h1;split at hi
  ·simp only[Zag,Zap,or_false]at hi;subst hi;exact .inl ⟨h1,by omega,es,rfl⟩
  ·cases hi
 ·split at hi
  ·rename_i h1;obtain⟨a,Ys,ha⟩:=Zbn.1 hi;have:=tK z;simp only[Zbh]at Ys;have ky:a<z.l.aF.length:=by omega
   have dy:=Jm (z:=z) (i:=a) (by omega) (by omega);unfold qG at ha;split at ha
   ·rename_i Jo;cases ha;exact .inr (.inl ⟨h1,a,z.l.aF.getD a default,by simp[List.getD,ky],by rw[dy.1,es],by rw[dy.2,et],Jo,rfl,rfl⟩)
   ·cases ha
  ·split at hi
   ·rename_i h1;simp only[Zag,Zap,or_false]at hi;subst hi;refine .inr (.inr (.inl ⟨h1,es, ?_⟩));show comb r.bF [iO z st.best r.a z.fr z.to]=_;rw[<-es,<-et,hv (by omega) (by omega)]
   ·split at hi
    ·rename_i h1;obtain⟨d,hd0,rfl⟩:=Zal.1 hi;simp only[ZaM]at hd0;refine .inr (.inr (.inr ⟨h1,d,by omega,by simp only[ni];omega, ?_⟩));show comb r.bF [iO z st.best r.a z.fr (z.fr+(d:Int)),iO z st.best r.b (z.fr+(d:Int)) z.to]=_;rw[<-es,<-et,hv (by omega) (by omega),hv (by omega) (by omega)]
    ·cases hi
theorem W4(K:Kx z)(hs:Jr z.l)(h:KN z st){s t:Nat}(es:z.fr=s)(et:z.to=t){k:Nat}{g:Int}{v:br}(hi:mZ z.n z.l z.c (nk z st.best) s t k g v):∃r,z.n.rules[k]? =some r/\∃i∈bQ z r,i.1=g/\ou z st.best i=v:=by
 obtain⟨r,hk,hi⟩:=hi;have hr:r∈z.n.rules:=Zaq hk;obtain⟨q1,q2,q3,q4,q5⟩:=K.hn.2.2.2 r hr;have hv:=λ{x:Int} (h0:0<=x) (h1:x<z.n.an) (f t:Int)=>D4 K h h0 h1 f t;have qk:=K.ft;refine⟨r,hk, ?_⟩;rcases hi with⟨h1,h2,rfl,rfl⟩|⟨h1,a,x,ha,hxf,hxt,Jo,rfl,rfl⟩|⟨h1,rfl,rfl⟩|⟨h1,d,hd,rfl,rfl⟩
 ·refine⟨(z.fr,r.bF,[]), ?_,es,rfl⟩;unfold bQ;rw[if_pos h1,if_pos (by omega)];simp
 ·have ky:=(Zas.1 ha).1;have hx:z.l.aF.getD a default=x:=by simp[List.getD,ha]
  have:=at_in hs ky (by rw[hx];exact⟨by rw[hxf,es],by rw[hxt,et]⟩);refine⟨((a:Int),r.bF+x.cost,[]), ?_,rfl,rfl⟩;unfold bQ;rw[if_neg (by omega),if_pos h1];refine Zbn.2 ⟨a,by simp only[Zbh];omega, ?_⟩;unfold qG;rw[hx,if_pos Jo]
 ·refine⟨(z.fr,r.bF,[(r.a,z.fr,z.to)]), ?_,es, ?_⟩
  ·unfold bQ;rw[if_neg (by omega),if_neg (by omega),if_pos h1];simp
  ·show comb r.bF [iO z st.best r.a z.fr z.to]=_;rw[<-es,<-et,hv (by omega) (by omega)]
 ·refine⟨ni z r (z.fr+(d:Int)), ?_,by simp only[ni];omega, ?_⟩
  ·unfold bQ;rw[if_neg (by omega),if_neg (by omega),if_neg (by omega),if_pos h1];exact Zal.2 ⟨d,by simp only[ZaM];omega,rfl⟩
  ·show comb r.bF [iO z st.best r.a z.fr (z.fr+(d:Int)),iO z st.best r.b (z.fr+(d:Int)) z.to]=_;rw[<-es,<-et,hv (by omega) (by omega),hv (by omega) (by omega)]
theorem MC(K:Kx z)(h:KN z st)(bH:st.s.heap=[]){r:bE}(hr:r∈z.n.rules){i:eE}(hi:i∈bQ z r)(hf:(ou z st.best i).cost<1099511627776):oq z st.fin i:=by
 intro x hx qu;have Nq:=nj K hr hi hx;refine Zk K h bH Nq.1 Nq.2 ?_;have h2:=h.wf.canon (x:=x.1.toNat) (by omega);have:=WT K h.wf.bo hr hi hx qu h2;unfold br.lt at this;unfold bv at this⊢;have:=(h.wf.bo _ (bw (l:=st.best) (show x.1.toNat<st.best.length by rw[h.wf.lb];omega))).2.1;omega
theorem P7(K:Kx z)(hs:Jr z.l)(h:IV z st)(bH:st.s.heap=[]){s t:Nat}(es:z.fr=s)(et:z.to=t){k:Nat}{r:bE}(hk:z.n.rules[k]? =some r){g:Int}{v:br}(hi:mZ z.n z.l z.c (nk z st.best) s t k g v)(hf:v.cost<1099511627776):
  ¬v.lt (bv st.best r.head)/\(v=bv st.best r.head->vQ (gB z st.best r.head).ez (gB z st.best r.head).arg k g):=by
 obtain⟨r',te,i,nB,rfl,rfl⟩:=W4 K hs h.1 es et hi;rw[hk]at te;cases te;have hr:r∈z.n.rules:=Zaq hk;refine⟨h.2 (r,i) ⟨hr,nB⟩ (MC K h.1 bH hr nB hf),λe=>?_⟩;obtain⟨_,b⟩:=kl z st.best r.head z.n.rules.length (Zae _);unfold gB;rcases b (by rw[<-e];exact hf)with⟨b1,b2⟩|⟨k',r',i',_,b2,b3,b4,b5,b6⟩
 ·exact absurd e (b2 k r (Zas.1 hk).1 hk rfl i nB)
 ·rw[b5];unfold vQ;simp only;rcases Nat.lt_trichotomy k k' with cV|rfl|hgt
  ·exact absurd e (b6 k r cV hk rfl i nB)
  ·rw[hk]at b2;cases b2;have:=MB (Js z r) b4 i nB (by simpa using e);exact .inr ⟨rfl,this⟩
  ·exact .inl (by omega)
theorem own_ps(C:lK z.n z.l z.c z.fr.toNat z.to.toNat)(K:Kx z)(h:KN z st):PS z.n z.l z.c z.fr.toNat z.to.toNat (nk z st.best):=by
 have qk:=K.ft;intro y hy;rw[zR]at hy;have fg:(y:Int)<z.n.an:=by omega
 have c6:((nk z st.best).getD y default).val=bv st.best y:=zS K h (x:=(y:Int)) (by omega) fg;rw[zQ hy]at c6⊢;obtain⟨a,b⟩:=kl z st.best y z.n.rules.length (Zae _);by_cases hf:(bv st.best y).cost<1099511627776
 ·rcases b hf with⟨b1,b2⟩|⟨k,r,i,_,b2,b3,b4,b5,b6⟩
  ·exact .inl b1
  ·right;refine⟨by rw[c6];exact h.der y (by omega) fg hf,k,i.1,ou z st.best i,W3 K h (by omega) (by omega) b2 (ZbQ b4),⟨r,b2,b3⟩, ?_, ?_, ?_⟩
   ·unfold gB;rw[b5]
   ·unfold gB;rw[b5]
   ·have:=ZcN b4;simp only[decide_eq_true_eq]at this;rw[c6,this];unfold br.lt;omega
 ·exact .inl (a (by omega))
theorem Jt(C:lK z.n z.l z.c z.fr.toNat z.to.toNat)(K:Kx z)(h:KN z st):kW z.n (nk z st.best):=by
 have hn:=K.hn;have qk:=K.ft;have jd:=C.tm;refine⟨by rw[zR];have:=hn.1;omega,λx hx=>?_⟩;obtain⟨y,hy0,rfl⟩:=Zal.1 hx;simp only[ZaM]at hy0;have fg:(y:Int)<z.n.an:=by omega
 have c6:((nk z st.best).getD y default).val=bv st.best y:=zS K h (x:=(y:Int)) (by omega) fg;rw[zQ hy0]at c6;have hvo:kU (bv st.best y):=h.wf.bo _ (bw (by rw[h.wf.lb];omega));obtain⟨a,b⟩:=kl z st.best y z.n.rules.length (Zae _);have lY:gB z st.best y=fc->kV (gB z st.best y):=λe=>by rw[e];exact yU
 by_cases hf:(bv st.best y).cost<1099511627776
 ·rcases b hf with⟨b1,b2⟩|⟨k,r,i,b0,b2,b3,b4,b5,b6⟩
  ·exact lY b1
  ·refine⟨by rw[c6];exact hvo, ?_⟩;unfold gB;rw[b5];have hk:=hn.2.2.1;have hi:=ZbQ b4;simp only;refine⟨by omega,by omega, ?_⟩;have hla:=K.hl.2.2.1;unfold bQ at hi;split at hi
   ·split at hi
    ·simp only[Zag,Zap,or_false]at hi;subst hi;simp only;omega
    ·cases hi
   ·split at hi
    ·obtain⟨a,Ys,ha⟩:=Zbn.1 hi;have:=tK z;simp only[Zbh]at Ys;unfold qG at ha;split at ha
     ·cases ha;simp only;omega
     ·cases ha
    ·split at hi
     ·simp only[Zag,Zap,or_false]at hi;subst hi;simp only;omega
     ·split at hi
      ·obtain⟨d,hd0,rfl⟩:=Zal.1 hi;simp only[ZaM]at hd0;simp only[ni];omega
      ·cases hi
 ·exact lY (a (by omega))
theorem Zm(C:lK z.n z.l z.c z.fr.toNat z.to.toNat)(K:Kx z)(hs:Jr z.l)(h:IV z st)(bH:st.s.heap=[]):Lr z.n z.l z.c z.fr.toNat z.to.toNat (nk z st.best):=by
 have ho:=Jt C K h.1;have qk:=K.ft;intro k hk;obtain⟨r,hr⟩:∃r,z.n.rules.getD k default=r:=⟨_,rfl⟩;have qH:z.n.rules[k]? =some r:=by rw[<-hr];simp[List.getD,hk]
 have hrm:r∈z.n.rules:=Zaq qH;have jW:=K.hn.2.2.2 r hrm;have hh0:0<=r.head:=jW.1;have hh1:r.head<z.n.an:=jW.2.1;have hxm:(nk z st.best).getD r.head.toNat default∈nk z st.best:=bw (by rw[zR];omega);have hg:=vX K.hn K.hl K.hc ho.ok hk C.st C.tm (by rw[hr];exact ho.2 _ hxm);unfold dL at hg⊢;rw[hr]at hg⊢;have c6:=zS K h.1 hh0 hh1;have hcell:(nk z st.best).getD r.head.toNat default=gB z st.best r.head:=by rw[zQ (by omega),show((r.head.toNat:Nat):Int)=r.head by omega]
 obtain⟨X,hX⟩:∃X,(nk z st.best).getD r.head.toNat default=X:=⟨_,rfl⟩;rw[hX]at hg c6 hcell hxm⊢;have hXok:=ho.2 _ hxm;rcases vR qH (DG jW) C.st X (c:=z.c) (own:=nk z st.best) (l:=z.l)with e|⟨g,v,hi,hf,h3,e⟩
 ·exact e
 ·obtain⟨l1,l2⟩:=P7 K hs h bH (s:=z.fr.toNat) (t:=z.to.toNat) (by omega) (by omega) qH hi hf;rw[c6]at h3;have ev:=br.antisymm l1 h3;have l3:=l2 ev;rw[<-hcell]at l3;rw[e]at hg⊢;obtain⟨g1,g2⟩:=hg;have e1:X.cost=v.cost/\X.size=v.size:=by
   have:X.val=v:=by rw[c6,ev]
   rw[<-this];exact⟨rfl,rfl⟩
  rcases g2 with e'|cV
  ·exact e'
  ·exfalso;obtain⟨_,x1,x2,x3,x4⟩:=hXok;obtain⟨_,y1,y2,y3,y4⟩:=g1;unfold BK at cV;simp only at cV y1 y2 y3 y4;rw[e1.1,e1.2]at cV;unfold vQ at l3;omega
theorem MD(C:lK z.n z.l z.c z.fr.toNat z.to.toNat)(K:Kx z)(hs:Jr z.l)(h:IV z st)(bH:st.s.heap=[]):nk z st.best=jm z.n z.l z.c z.fr z.to:=by
 have qk:=K.ft;have ho:=Jt C K h.1;have h2:=(BG C.hn C.hl C.hc C.st C.tm (PS z.n z.l z.c z.fr.toNat z.to.toNat) (NR C) (λown k ho hk hp=>NQ C ho hk hp)).1;have e:∀x:Nat,(x:Int)<z.n.an->(nk z st.best).getD x default=(jm z.n z.l z.c z.fr.toNat z.to.toNat).getD x default:=λx hx=>
  (IA C ho (own_ps C K h.1) (Zm C K hs h bH) x hx).unique (xH C x hx)
 have e1:((z.fr.toNat:Nat):Int)=z.fr:=by omega
 have e2:((z.to.toNat:Nat):Int)=z.to:=by omega
 rw[e1,e2]at e h2;refine ZbB (by have:=h2.1;have:=ho.1;omega) λi h1 h2'=>?_;have:=e i (by have:=ho.1;omega);simpa [List.getD,h1,h2']using this
end
structure QD(z:df):Prop where
 C:lK z.n z.l z.c z.fr.toNat z.to.toNat
 K:Kx z
 cf:tJ z.c
 Jr:Jr z.l
theorem Jx{z:df}(H:QD z){k0:QC}{f0:aU}{p N M sB rB:Nat}{s0 st:eo}(bj:dO f0 N)(hv:(⟨k0,z,s0⟩:SV).at f0 p)(h:IV z st)(bH:st.s.heap≠[])(wL:st.s.clock+1300<=1000000000000)
  (h1:N<=sB) (h2:N<=rB) (h3:sB<M) (h4:rB<M) (h5:rB≠sB) {k:Nat} (hk:k<z.n.rules.length) (hu:gZ (z.n.rules.getD k default) (st.s.e 0).x) {D:DV} (hD:Cm D (z.n.rules.getD k default)):
  aZ Tryz.prog 87 [.ptr p 0,D,.mF (.func 88) [.ptr sB 0,.ptr rB 0]] (over [(rB,cS (z.n.rules.getD k default)),(sB,.box [.ptr p 0])] (cJ f0 ⟨k0,z,s0⟩ (zr z (st.s.e 0).x st k)))
   ⟨True,.v (.eC []),over [(rB,cS (z.n.rules.getD k default)),(sB,.box [.ptr p 0])] (cJ f0 ⟨k0,z,s0⟩ (o7 z (st.s.e 0).x st k (c8 z (z.n.rules.getD k default)).length))⟩:=by
 have MH:z.n.rules.getD k default∈z.n.rules:=bw hk;have hmid:=λj=>mid_ok H.C H.K h bH (j:=j) hk hu;obtain⟨r,hr⟩:∃r,z.n.rules.getD k default=r:=⟨_,rfl⟩;have hms:=λ{j i}=>Qd (z:=z) (x:=(st.s.e 0).x) (st:=st) (k:=k) (j:=j) (i:=i);have jW:=H.K.hn.2.2.2 r (by rw[<-hr];exact MH);rw[hr]at hD MH hms⊢;obtain⟨V,hV⟩:∃V:SV,(⟨k0,z,s0⟩:SV)=V:=⟨_,rfl⟩;have hVz:V.z=z:=by rw[<-hV]
 have hVk:V.k=k0:=by rw[<-hV]
 have Zs:∀s,V.to s=⟨k0,z,s⟩:=λs=>by rw[<-hV]
 rw[hV]at hv⊢;have hL:∀q∈[(rB,cS r),(sB,Ob.box [.ptr p 0])],N<=q.1:=by simp;omega
 have e0:zr z (st.s.e 0).x st k=o7 z (st.s.e 0).x st k 0:=rfl;rw[e0];have uO:=(bj _ _ hv.sp).1;refine t87 (k:=k0) (z:=z) (N:=M) (r:=r) (caps:=[sB,rB]) (F:=λj=>over [(rB,cS r),(sB,.box [.ptr p 0])] (cJ f0 V (o7 z (st.s.e 0).x st k j))) ⟨λj _=>⟨_,by have:=wy bj hv hL (o7 z (st.s.e 0).x st k j);rw[Zs]at this;exact this⟩,λj _=>?_⟩ ⟨λj i hi _ N' Ol=>?_,λj r' hj hn=>?_,λ_ _=>rfl,.inl rfl⟩ rfl H.Jr.mono H.K.hl.2.2.1 ?_ ⟨jW.2.2.1,jW.2.2.2.1⟩ H.K.hl.2.2.2 ?_ hD
 ·refine se (sd bj hv _) (by omega) λq hq=>?_;simp only[Zag,Zap,or_false]at hq;rcases hq with rfl|rfl
  ·exact⟨h4,λm hm=>by simp[cS,bG,bM,names]at hm⟩
  ·refine⟨h3,λm hm=>?_⟩;simp only[bG,bM,names,ZaJ,Zag,Zap,or_false]at hm;subst hm;rw[B6 uO hL,(sV hv _).sp];simp
 ·have Gq:=xY (z:=z) H.K.ft.2 (Zaq hi);obtain⟨m1,m2,m3⟩:=hmid j;have dy:=wy bj hv hL (o7 z (st.s.e 0).x st k j);rw[Zs]at dy;have:=t88 (i:=i) (r:=r) (sB:=sB) (rB:=rB) Ol dy (by simp[h5.symm]) (by simp) (x7 H.K H.cf m1.wf MH Gq) m3 (λ_ hw=>by
   have hh:0<=r.head/\r.head<z.n.an:=⟨jW.1,jW.2.1⟩;exact m1.wf.Cd (by omega) (Gf H.K m1.wf.bo MH Gq) (by have:=H.K.hn.2.1;omega) (by omega))
  have e:=P9 bj hv hL (o7 z (st.s.e 0).x st k j) (gz z r (o7 z (st.s.e 0).x st k j) i);rw[Zs]at e;simp only at this;rw[e,<-hms hi]at this;exact this
 ·simp only[bP,eN]at hn⊢;split at hn
  ·cases hn
  ·split at hn
   ·cases hn
   ·rename_i g1 g2;rw[if_neg g1,if_neg g2];have hf:f0 r'=none:=by
     cases ho:f0 r' with
     |none=>rfl
     |some o=>
      exfalso;have:cJ f0 V (o7 z (st.s.e 0).x st k j) r'≠none:=by
       simp only[cJ,bP,eN];repeat' split
       all_goals first|(intro h;cases h)|(rw[ho];simp)
      exact this hn
    exact mC hv _ hf
 ·have:=H.C.tm;have:=H.K.ft;omega
 ·intro x hx;simp only[Zag,Zap,or_false]at hx;rcases hx with rfl|rfl
  ·exact⟨_,by simp[h5.symm];rfl⟩
  ·exact⟨_,by simp[cS];rfl⟩
end cC
end Go.Proofs
