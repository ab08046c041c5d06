/- Part of the proof. Conditions: none. -/
import Derived.Test.YtnhpkhblghgpdaaGreatDoorXai
set_option linter.unusedSectionVars false
set_option linter.unusedSimpArgs false
set_option linter.unusedVariables false
set_option linter.defProp false
set_option maxRecDepth 20000
set_option maxHeartbeats 40000000
namespace Go.Proofs
namespace cC
open Go.DM
section
variable{z:eY}{r:di}{fn:Nat}{bY:bB}
def inst1(h:r.kind=1):cD z r=if z.fr=z.to then [(z.fr,r.cq,[])]else []:=by unfold cD;rw[Zai h]
def inst2(h:r.kind=2):cD z r=(List.range' (jn z) (tW z-jn z)).filterMap (tT z r):=by unfold cD;rw[Zab (by omega),Zai h]
def inst3(h:r.kind=3):cD z r=[(z.fr,r.cq,[(r.a,z.fr,z.to)])]:=by unfold cD;rw[Zab (by omega),Zab (by omega),Zai h]
def inst4(h:r.kind=4):cD z r=(List.range ((z.to-z.fr).toNat+1)).map λ(d:Nat)=>pE z r (z.fr+(d:Int)):=by unfold cD;rw[Zab (by omega),Zab (by omega),Zab (by omega),Zai h]
def inst0(h:r.kind≠1/\r.kind≠2/\r.kind≠3/\r.kind≠4):cD z r=[]:=by unfold cD;rw[Zab h.1,Zab h.2.1,Zab h.2.2.1,Zab h.2.2.2]
def xG(z:eY)(r:di)(i:Nat):Nat:=((List.range' (jn z) (i-jn z)).filterMap (tT z r)).length
def JX(z:eY)(r:di):xG z r (jn z)=0:=by simp[xG]
def Np(s n:Nat):List.range' s (n+1)=List.range' s n++[s+n]:=by
 rw[List.range'_concat];simp
def WY{i:Nat}(h:jn z<=i):xG z r (i+1)=xG z r i+(if(z.l.bE.getD i default).term=r.a then 1 else 0):=by
 unfold xG;rw[show i+1-jn z=(i-jn z)+1 by omega,Np,List.filterMap_append,ZaK,show jn z+(i-jn z)=i by omega];by_cases e:(z.l.bE.getD i default).term=r.a
 ·have:tT z r i=some ((i:Int),r.cq+(z.l.bE.getD i default).aH,[]):=Zai e;rw[ZcR,this,Zai e];rfl
 ·have:tT z r i=none:=Zab e;rw[ZcR,this,Zab e];rfl
def cntA_get{i:Nat}(h:jn z<=i)(hi:i<tW z)(e:(z.l.bE.getD i default).term=r.a):
  ((List.range' (jn z) (tW z-jn z)).filterMap (tT z r))[xG z r i]? =some ((i:Int),r.cq+(z.l.bE.getD i default).aH,[]):=by
 have h1:List.range' (jn z) (tW z-jn z)=List.range' (jn z) (i-jn z)++i::List.range' (i+1) (tW z-(i+1)):=by
  rw[show tW z-jn z=(i-jn z)+(1+(tW z-(i+1)))by omega,<-List.range'_append_1,<-List.range'_append_1,show jn z+(i-jn z)=i by omega];rfl
 rw[h1,List.filterMap_append];unfold xG;have:tT z r i=some ((i:Int),r.cq+(z.l.bE.getD i default).aH,[]):=Zai e;rw[Za9 (Zaf _),Zcp,ZcR,this];rfl
def cntA_hi(z:eY)(r:di):xG z r (tW z)=((List.range' (jn z) (tW z-jn z)).filterMap (tT z r)).length:=rfl
def zL.one{L:List gf}{F:Nat->bq}{B:Nat->Bool}{m:Nat}(h:zL fn bY L F B m)(hL:L.length=1):m=1:=by
 have h1:=h.next (j:=0) (λ_ h=>Zar h (Nat.not_lt_zero _)) (by omega);have:=h.le;omega
def zL.full{L:List gf}{F:Nat->bq}{B:Nat->Bool}{m j:Nat}(h:zL fn bY L F B m)(hj:j=L.length)(hb:∀k,k<j->B k=true):m=j:=by
 rcases h.stop with h1|⟨h1,h2,h3⟩
 ·omega
 ·have:=hb (m-1) (by omega);rw[h3]at this;cases this
def lY(l:cO):bB:=l.map λx=>.ptr x 0
def FZ(l:cO)(f:bq):Prop:=∀x∈l,∃cs,f x=some (.box cs)
def vN{f g:bq}:∀{l:cO},FZ l f->FZ l g->ij f g id (lY l) (lY l)
 |[],_,_=>rfl
 |x::l,h,k=>by
  obtain⟨cs,hc⟩:=h x (by simp);obtain⟨cs',Xb⟩:=k x (by simp);refine⟨?_,vN (λy hy=>h y (by simp[hy])) (λy hy=>k y (by simp[hy]))⟩;simp[Xb]
def t57{p N m:Nat}{bY:cO}{F:Nat->bq}{B:Nat->Bool}{k:NN}(hs:Seen z p N k F m)(hf:zL fn (lY bY) (cD z r) F B m)
  (hm:mono z) (Xs:z.l.bE.length<=1000000000) (vR:0<=z.fr/\z.fr<=z.to/\z.to<=1000) (hp:0<=r.cq/\r.cq<=1000) (hac:∀a∈z.l.bE,0<=a.aH/\a.aH<=1099511627776) (hcp:FZ bY (F 0)) {D:DV} (hD:FY D r):
  aR aj 85 [.ptr p 0,D,.nG (.func fn) (lY bY)] (F 0) ⟨True,.v (.eo []),F m⟩:=by
 have hN0:∀{j},j<=m->∀r,N<=r->F j r=none:=λ{j} hj r hr=>by
  cases h:F j r with
  |none=>rfl
  |some o=>have:=(hs.cl j hj r o h).1;omega
 have spj:=λ{j} (hj:j<=m)=>hs.sp (j:=j) hj;simp only[ma]at spj;have sp0:=spj (ZbB m);have nu:p<N:=(hs.cl 0 (ZbB m) p _ sp0).1;have np:∀k,p≠N+k:=λk=>by omega
 obtain⟨C,hC⟩:=bb (lY bY);have cR:ij (aM [] (F 0)) (aM [] (F 0)) id C C:=by rw[<-hC];exact vN hcp hcp
 obtain⟨rk,rh,ra,rb,rp,ro⟩:=r;obtain⟨RR,zQ⟩:=bb ((⟨rk,rh,ra,rb,rp,ro⟩:di):di);have hRa:RR.a=ra:=by rw[<-zQ]
 have hRb:RR.b=rb:=by rw[<-zQ]
 have hRp:RR.cq=rp:=by rw[<-zQ]
 have hRk:RR.kind=rk:=by rw[<-zQ]
 rw[zQ,hC]at hf;simp only at hp;refine c57.pQ (hN0 (ZbB m)) (by simp) λaT=>?_;obtain⟨hD1,hD2⟩:=hD;simp[hC];apply aa.ag cF fw [0,2,4];simp[d57r0,hD1,hD2,-mO,-cellsOf];have hcc1:ij (aM [(N+5,.box [.v (ti rk),.v (ti rh),.v (ti ra),.v (ti rb),.v (ti rp),.v (ti ro)])] (F 0)) (aM [] (F 0)) id C C:=by
  rw[<-hC];refine vN (λx hx=>?_) hcp;obtain⟨cs,hc⟩:=hcp x hx;have:=(aT x _ hc).1;exact⟨cs,by simp[hc];omega⟩
 refine aa.le (kO (l:=[(0,.ptr p 0),(2,.nG (.func fn) C),(4,.v (.box [ti rk,ti rh,ti ra,ti rb,ti rp,ti ro]))]) (ba:=N+500) aT (by omega) (by simp;omega) ?_) ?_
 ·simp[Nat.add_assoc,sp0,fR,iL,hcc1];exact bL (l:=[]) aT (by omega) (by simp)
 show aa _ _ _ _ ⟨_,F 0,_,_,_⟩;apply aa.ag cF fw [0,2,4,11];simp[d57r1];apply aa.block;apply aa.ag cF fw [0,2,4,11,12];simp[d57r2];refine aa.cond rfl (λg=>?_) (λg=>?_)
 ·have g:rk=1:=by simpa using g
  rw[inst1 (by omega)]at hf;apply aa.ag cF fw [0,2,4,22];simp[d57r3,sp0];refine aa.cond rfl (λg2=>?_) (λg2=>?_)
  ·have g2:z.fr=z.to:=by simpa using g2
   rw[Zai g2]at hf;have QD:=hf.one rfl;have aC:=hf.env (j:=0) (i:=(z.fr,RR.cq,[])) rfl (by omega);apply aa.fK aC fw [];simp[d57r4,sp0,j9,hRp,sG,QD]
  ·have g2:¬z.fr=z.to:=by simpa using g2
   rw[Zab g2]at hf;have hm0:m=0:=by have:=hf.le;simpa using this
   apply aa.skip;simp[sG,hm0]
 have g1:rk≠1:=by simpa using g
 apply aa.ag cF fw [0,2,4,11,31];simp[d57r5];refine aa.cond rfl (λg=>?_) (λg=>?_)
 ·have g:rk=2:=by simpa using g
  rw[inst2 (by omega)]at hf;obtain⟨s0,hv0⟩:=hs.wW 0 (ZbB m);have k80:=k80_eq hv0;have hih:=wu z;apply aa.cX (ok80 ay.nil) fw (rs:=O2) rfl (by kernel_rfl) [0,2,4,6,7];simp[O2,k80,hm,Xs];apply aa.ag cF fw [0,2,4,7,8];simp[d57r7];have e0:F 0=F (xG z RR (jn z)):=by rw[JX]
  apply aa.block;refine aa.loop (λi:Nat=>⟨DM.look [(0,.ptr p 0),(2,.nG (.func fn) C),(4,.v (.box [ti rk,ti rh,ti ra,ti rb,ti rp,ti ro])),(7,.v (ti (tW z))),(8,.v (ti i))],F (xG z RR i),N+1000,N,[]⟩)
   (λi=>jn z<=i/\i<=tW z/\xG z RR i<=m/\∀q,q<xG z RR i->B q=true) (λi=>tW z-i) (jn z) (by rw[<-e0];exact Le.same (λr hr=>hN0 (ZbB m) r (by omega)) (by simp[gn])) ⟨Zaf _,hih.1,by rw[JX];omega,by rw[JX];intro q hq;omega⟩ (λi hi=>?_)
  obtain⟨i1,i2,i3,i4⟩:=hi;have spi:=spj i3;apply aa.seq;apply aa.ag cF fw [0,2,4,7,8,41];simp[d57r8];refine aa.cond rfl (λg=>?_) (λg=>?_)
  ·have g:i<tW z:=by simpa using g
   have As:i<z.l.bE.length:=by omega
   have rr:=w7 As;have uG:=hac _ (bm As);have oj:=WY (z:=z) (r:=RR) (i:=i) i1;have hcg:=cntA_get (z:=z) (r:=RR) (i:=i) i1 g;have hch:=cntA_hi z RR;obtain⟨⟨af,wW,ae,ac,ao⟩,hx⟩:=bb (z.l.bE.getD i default);rw[hx]at rr uG oj hcg;simp only[cw.enc]at rr;simp only[hRa,hRp]at uG oj hcg;have w1:IntKind.i64.wrap (rp+ac)=rp+ac:=aF (by omega);have w2:IntKind.i64.wrap ((i:Int)+1)=((i+1:Nat):Int):=by rw[aF (by omega)];omega
   apply aa.skip;simp;apply aa.seq;apply aa.block;by_cases e:ae=ra
   ·rw[Zai e]at oj;have mF:=hcg e;have hjm:=hf.next i4 (Zaw.1 mF).1;have aC:=hf.env mF hjm;obtain⟨b,hb⟩:=bb (B (xG z RR i));rw[hb]at aC;apply aa.ag aC fw [0,2,4,7,8,73];simp[Z1,spi,As,rr,e,j9,w1];refine aa.cond rfl (λg2=>?_) (λg2=>?_)
    ·have g2:b=false:=by simpa using g2
     rw[g2]at hb;have hme:=hf.end hjm hb;apply aa.ret;simp[sG,hme]
    ·have g2:b=true:=by simpa using g2
     rw[g2]at hb;apply aa.skip;simp;apply aa.fK cF fw [0,2,4,7,8];simp[O3,w2];refine⟨i+1,by rw[oj];exact Le.same (λr hr=>hN0 hjm r (by omega)) (by simp[gn]),⟨by omega,by omega,by omega,λq hq=>?_⟩,by omega⟩;by_cases hqe:q=xG z RR i
     ·rw[hqe];exact hb
     ·exact i4 q (by omega)
   ·rw[Zab e]at oj;apply aa.ag cF fw [0,2,4,7,8,73];simp[Z1,spi,As,rr,e];refine aa.cond rfl (λg2=>by cases g2) (λg2=>?_);apply aa.skip;simp;apply aa.fK cF fw [0,2,4,7,8];simp[O3,w2];exact⟨i+1,by rw[oj];exact Le.same (λr hr=>hN0 i3 r (by omega)) (by simp[gn]),⟨by omega,by omega,by omega,λq hq=>i4 q (by omega)⟩,by omega⟩
  ·have g:¬i<tW z:=by simpa using g
   have hie:i=tW z:=by omega
   have hme:=hf.full (j:=xG z RR i) (by rw[hie];rfl) i4;apply aa.exit;simp[sG,hme]
 have g2:rk≠2:=by simpa using g
 apply aa.ag cF fw [0,2,4,11,74];simp[Z2];refine aa.cond rfl (λg=>?_) (λg=>?_)
 ·have g:rk=3:=by simpa using g
  rw[inst3 (by omega)]at hf;have QD:=hf.one rfl;have aC:=hf.env (j:=0) (i:=(z.fr,RR.cq,[(RR.a,z.fr,z.to)])) rfl (by omega);have hch:fU 3 1 [ti ra,ti z.fr,ti z.to]=[[ti ra,ti z.fr,ti z.to]]:=rfl;apply aa.fK aC fw [];simp[Z3,sp0,j9,hRp,hRa,sG,QD,hch,mb,itT]
 have g3:rk≠3:=by simpa using g
 apply aa.ag cF fw [0,2,4,11,96];simp[Z4];refine aa.cond rfl (λg=>?_) (λg=>?_)
 ·have g:rk=4:=by simpa using g
  rw[inst4 (by omega)]at hf;have Xq:((List.range ((z.to-z.fr).toNat+1)).map λ(d:Nat)=>pE z RR (z.fr+(d:Int))).length=(z.to-z.fr).toNat+1:=by simp
  apply aa.ag cF fw [0,2,4,9];simp[Z5,sp0];apply aa.block;refine aa.loop (λd:Nat=>⟨DM.look [(0,.ptr p 0),(2,.nG (.func fn) C),(4,.v (.box [ti rk,ti rh,ti ra,ti rb,ti rp,ti ro])),(9,.v (ti (z.fr+(d:Int))))],F d,N+1000,N,[]⟩)
   (λd=>z.fr+(d:Int)<=z.to+1/\d<=m/\∀q,q<d->B q=true) (λd=>((z.to-z.fr).toNat+1)-d) 0 (Le.same (λr hr=>hN0 (ZbB m) r (by omega)) (by simp[gn])) ⟨by omega,by omega,by intro q hq;omega⟩ (λd hd=>?_)
  obtain⟨d1,d2,d3⟩:=hd;have spd:=spj d2;apply aa.seq;apply aa.ag cF fw [0,2,4,9,107];simp[Z6,spd];refine aa.cond rfl (λg=>?_) (λg=>?_)
  ·have g:z.fr+(d:Int)<=z.to:=by simpa using g
   have fl:d<(z.to-z.fr).toNat+1:=by omega
   have hjm:=hf.next d3 (by rw[Xq];exact fl);have mF:((List.range ((z.to-z.fr).toNat+1)).map λ(d:Nat)=>pE z RR (z.fr+(d:Int)))[d]? =some (pE z RR (z.fr+(d:Int))):=by simp[fl]
   have aC:=hf.env mF hjm;obtain⟨b,hb⟩:=bb (B d);rw[hb]at aC;have hch:fU 3 2 [ti ra,ti z.fr,ti (z.fr+(d:Int)),ti rb,ti (z.fr+(d:Int)),ti z.to]=[[ti ra,ti z.fr,ti (z.fr+(d:Int))],[ti rb,ti (z.fr+(d:Int)),ti z.to]]:=rfl;have w2:IntKind.i64.wrap (z.fr+(d:Int)+1)=z.fr+((d+1:Nat):Int):=by rw[aF (by omega)];omega
   apply aa.skip;simp;apply aa.seq;apply aa.block;apply aa.ag aC fw [0,2,4,9,132];simp[Z7,spd,j9,pE,hRp,hRa,hRb,hch,mb,itT];refine aa.cond rfl (λg2=>?_) (λg2=>?_)
   ·have g2:b=false:=by simpa using g2
    rw[g2]at hb;have hme:=hf.end hjm hb;apply aa.ret;simp[sG,hme]
   ·have g2:b=true:=by simpa using g2
    rw[g2]at hb;apply aa.skip;simp;apply aa.fK cF fw [0,2,4,9];simp[Z8,w2];refine⟨d+1,Le.same (λr hr=>hN0 hjm r (by omega)) (by simp[gn]),⟨by omega,by omega,λq hq=>?_⟩,by omega⟩;by_cases hqe:q=d
    ·rw[hqe];exact hb
    ·exact d3 q (by omega)
  ·have g:¬z.fr+(d:Int)<=z.to:=by simpa using g
   have hme:=hf.full (j:=d) (by rw[Xq];omega) d3;apply aa.exit;simp[sG,hme]
 ·have g4:rk≠4:=by simpa using g
  rw[inst0 (by rw[hRk];exact⟨g1,g2,g3,g4⟩)]at hf;have hm0:m=0:=by have:=hf.le;simpa using this
  apply aa.skip;simp[sG,hm0]
end
section
variable{z:eY}{r:di}
def bound4(h:r.kind=4):eD z r=[pE z r z.fr,pE z r z.to]:=by unfold eD;rw[Zai h]
def bound0(h:r.kind≠4):eD z r=cD z r:=by unfold eD;rw[Zab h]
def t87{fn p N m:Nat}{bY:cO}{F:Nat->bq}{k:NN}(hs:Seen z p N k F m)(hf:zL fn (lY bY) (eD z r) F (λ_=>true) m)(hml:m=(eD z r).length)
  (hm:mono z) (Xs:z.l.bE.length<=1000000000) (vR:0<=z.fr/\z.fr<=z.to/\z.to<=1000) (hp:0<=r.cq/\r.cq<=1000) (hac:∀a∈z.l.bE,0<=a.aH/\a.aH<=1099511627776) (hcp:FZ bY (F 0)) {D:DV} (hD:FY D r):
  aR aj 126 [.ptr p 0,D,.nG (.func fn) (lY bY)] (F 0) ⟨True,.v (.eo []),F m⟩:=by
 have hN0:∀{j},j<=m->∀r,N<=r->F j r=none:=λ{j} hj r hr=>by
  cases h:F j r with
  |none=>rfl
  |some o=>have:=(hs.cl j hj r o h).1;omega
 have spj:=λ{j} (hj:j<=m)=>hs.sp (j:=j) hj;simp only[ma]at spj;have sp0:=spj (ZbB m);have nu:p<N:=(hs.cl 0 (ZbB m) p _ sp0).1;have np:∀k,p≠N+k:=λk=>by omega
 have rQ:∀r,F 0 r=none->F m r=none:=by
  have:∀j,j<=m->∀r,F 0 r=none->F j r=none:=by
   intro j;induction j with
   |zero=>intro _ r h;exact h
   |succ j ih=>intro hj r h;exact hf.none j r (by omega) (ih (by omega) r h)
  exact this m (Zaf m)
 have Qi:r.kind≠4->∀N',(∀r,N'<=r->F 0 r=none)->aR aj 85 [.ptr p 0,.v (.agg r.enc),.nG (.func fn) (lY bY)] (F 0) ⟨True,.v (.eo []),F m⟩:=λhk N' _=>by
  rw[bound0 hk]at hf;exact t57 hs hf hm Xs vR hp hac hcp (ruleD2 r)
 obtain⟨C,hC⟩:=bb (lY bY);obtain⟨rk,rh,ra,rb,rp,ro⟩:=r;obtain⟨RR,zQ⟩:=bb ((⟨rk,rh,ra,rb,rp,ro⟩:di):di);have hRa:RR.a=ra:=by rw[<-zQ]
 have hRb:RR.b=rb:=by rw[<-zQ]
 have hRp:RR.cq=rp:=by rw[<-zQ]
 have hRk:RR.kind=rk:=by rw[<-zQ]
 rw[hC]at Qi;simp only[di.enc]at Qi;rw[zQ,hC]at hf;rw[zQ]at hml;refine c87.pQ (hN0 (ZbB m)) (by simp) λaT=>?_;obtain⟨hD1,hD2⟩:=hD;simp[hC];apply aa.ag cF fw [0,2,4];simp[d87r0,hD1,hD2,-mO,-cellsOf];have hcc1:ij (aM [(N+5,.box [.v (ti rk),.v (ti rh),.v (ti ra),.v (ti rb),.v (ti rp),.v (ti ro)])] (F 0)) (aM [] (F 0)) id C C:=by
  rw[<-hC];refine vN (λx hx=>?_) hcp;obtain⟨cs,hc⟩:=hcp x hx;have:=(aT x _ hc).1;exact⟨cs,by simp[hc];omega⟩
 refine aa.le (kO (l:=[(0,.ptr p 0),(2,.nG (.func fn) C),(4,.v (.box [ti rk,ti rh,ti ra,ti rb,ti rp,ti ro]))]) (ba:=N+500) aT (by omega) (by simp;omega) ?_) ?_
 ·simp[Nat.add_assoc,sp0,fR,iL,hcc1];exact bL (l:=[]) aT (by omega) (by simp)
 show aa _ _ _ _ ⟨_,F 0,_,_,_⟩;apply aa.seq;apply aa.ag cF fw [0,2,4,10];simp[d87r1];refine aa.cond rfl (λg=>?_) (λg=>?_)
 ·have g:rk≠4:=by simpa using g
  have aC:=Hd (ay.nil) (Qi g) rQ;apply aa.cX aC fw (rs:=O4) rfl (by kernel_rfl) [];simp[O4];apply aa.ret;simp[O5]
 ·have g:rk=4:=by simpa using g
  rw[bound4 (by omega)]at hf hml;simp only[Za5,Zcj]at hml;apply aa.skip;simp;have hch:fU 1 2 [ti z.fr,ti z.to]=[[ti z.fr],[ti z.to]]:=rfl;apply aa.ag cF fw [0,2,4,23,24,25];simp[d87r3,sp0,hch];apply aa.block;refine aa.loop (λj:Nat=>⟨DM.look [(0,.ptr p 0),(2,.nG (.func fn) C),(4,.v (.box [ti rk,ti rh,ti ra,ti rb,ti rp,ti ro])),(23,.v (.sl [[ti z.fr],[ti z.to]])),(24,.v (ti 2)),(25,.v (ti j))],F j,N+1000,N,[]⟩)
   (λj=>j<=2) (λj=>2-j) 0 (Le.same (λr hr=>hN0 (ZbB m) r (by omega)) (by simp[gn])) (by omega) (λj hj=>?_)
  have spd:=spj (show j<=m by omega);apply aa.ag cF fw [0,2,4,23,24,25,26];simp[d87r4];apply aa.seq;refine aa.cond rfl (λg=>?_) (λg=>?_)
  ·have gi:(j:Int)<2:=by simpa using g
   have g:j<2:=by omega
   obtain⟨x,hx⟩:=bb ((if j=0 then z.fr else z.to));have hrow:DM.rowAt [[ti z.fr],[ti z.to]] (j:Int)=[ti x]:=by
    rw[<-hx];rcases(show j=0\/j=1 by omega)with rfl|rfl<;>rfl
   have mF:[pE z RR z.fr,pE z RR z.to][j]? =some (pE z RR x):=by
    rw[<-hx];rcases(show j=0\/j=1 by omega)with rfl|rfl<;>rfl
   have aC:=hf.env mF (by omega);have hch:fU 3 2 [ti ra,ti z.fr,ti x,ti rb,ti x,ti z.to]=[[ti ra,ti z.fr,ti x],[ti rb,ti x,ti z.to]]:=rfl;have w2:IntKind.i64.wrap ((j:Int)+1)=((j+1:Nat):Int):=by rw[aF (by omega)];omega
   apply aa.skip;simp;apply aa.seq;apply aa.block;apply aa.ag cF fw [0,2,4,7,23,24,25];simp[d87r5,hrow,gi];apply aa.fK aC fw [0,2,4,23,24,25];simp[d87r6,spd,j9,pE,hRp,hRa,hRb,hch,mb,itT];apply aa.fK cF fw [0,2,4,23,24,25];simp[d87r7,w2];exact⟨j+1,Le.same (λr hr=>hN0 (show j+1<=m by omega) r (by omega)) (by simp[gn]),by omega,by omega⟩
  ·have gi:(2:Int)<=j:=by simpa using g
   have hme:m=j:=by omega
   apply aa.exit;simp[O5,hme]
end
section
variable{f:bq}{sB rB:Nat}{r:di}
def xH(l:List It):aN (j9 l)=[]:=by unfold j9;split<;>simp[aN]
def k59_D{v:SV}{p:Nat}{l:List It}(hv:v.at f p):k59 [.ptr p 0,j9 l] f=⟨l.length<=1000,.v (.bool (ff v.z l)),f⟩:=by
 unfold j9;split
 ·rename_i e;subst e;rw[k59_nil hv];simp[ff]
 ·exact k59_eq hv
def k61_D{v:SV}{p:Nat}{c:Int}{l:List It}(hv:v.at f p)(hb:v.okB)(hl:l.length<=1000)(hi:itOk v.z v.s.ak l)(hc:0<=c/\c<=4000000000000):k61 [.ptr p 0,.v (ti c),j9 l] f=⟨True,.v (.agg [ti (j8 v.z v.s.ak c l).aH,ti (j8 v.z v.s.ak c l).size]),f⟩:=by
 unfold j9;split
 ·rename_i e;subst e;rw[k61_nil hv];simp[hc]
 ·rw[k61_eq hv];simp[hb,hl,hi,hc]
def Qk{z:eY}{l:List It}(h:ff z l=true):l≠[]:=by
 rintro rfl;simp[ff]at h
def k89_D{v:SV}{p:Nat}{l:List It}(hv:v.at f p)(hn:l≠[])(hl:l.length<=1000)(hf:∀x∈l,me v.z x->0<=x.1/\x.1<v.s.bZ.length):k89 [.ptr p 0,j9 l] f=⟨True,.v (.bool (!od v.z v.s.bZ l)),f⟩:=by
 unfold j9;rw[Zab hn,k89_eq hv];simp[hl];exact λa b c h hi=>hf _ h hi
def dS(r:di):Ob:=.box [.v (ti r.kind),.v (ti r.head),.v (ti r.a),.v (ti r.b),.v (ti r.cq),.v (ti r.origin)]
structure JY(v:SV)(i:gf):Prop where
 b:v.okB
 l:i.2.2.length<=1000
 it:itOk v.z v.s.ak i.2.2
 p:0<=i.2.1/\i.2.1<=4000000000000
def tg(a b c N:Nat)(n:Nat):Nat:=if n=0 then a else if n=1 then b else if n=2 then c else N+n
def xI{a b c N:Nat}(h1:a<N)(h2:b<N)(h3:c<N)(n1:a≠b)(n2:a≠c)(n4:b≠c)(x y:Nat)(e:tg a b c N x=tg a b c N y):x=y:=by
 unfold tg at e;repeat' split at e
 all_goals omega
def xJ(l:cO)(o:bq):GL l o o:=λ_ _=>rfl
def t58{p N:Nat}{v:SV}{i:gf}(hN:∀r,N<=r->f r=none)(hv:v.at f p)(hs:f sB=some (.box [.ptr p 0]))(hr:f rB=some (dS r))(ho:JY v i)(Ce:ff v.z i.2.2=false->qb v.s r.head (qJ v.z v.s.ak i)):
  aR aj 86 ([.v (ti i.1),.v (ti i.2.1),j9 i.2.2]++lY [sB,rB]) f ⟨True,.v (.bool true),bX f v (iz v.z r v.s i)⟩:=by
 obtain⟨g,c,l⟩:=i;obtain⟨o1,o2,o3,o4⟩:=ho;simp only at o2 o3 o4 Ce;obtain⟨R,hR⟩:=bb (iz v.z r v.s (g,c,l));rw[hR];unfold iz at hR;simp only at hR;have k1:=k59_D (l:=l) hv;have k2:=k61_D (l:=l) (c:=c) hv o1 o2 o3 o4;obtain⟨U,hU⟩:=bb (j9 l);have hUn:aN U=[]:=by rw[<-hU];exact xH l
 simp only[hU]at k1 k2⊢;obtain⟨V,hV⟩:=bb (j8 v.z v.s.ak c l);have hV2:qJ v.z v.s.ak (g,c,l)=V:=hV;rw[hV2]at Ce hR;rw[hV]at k2;obtain⟨w,hw⟩:=bb (ff v.z l);rw[hw]at Ce hR k1;refine c58.pQ hN (by simp[lY]) λaT=>?_;have nu:p<N:=(aT p _ hv.sp).1;have hsN:sB<N:=(aT _ _ hs).1;have hrN:rB<N:=(aT _ _ hr).1;have n1:p≠sB:=λe=>by rw[<-e,hv.sp]at hs;simp[ma]at hs
 have n2:p≠rB:=λe=>by rw[<-e,hv.sp]at hr;simp[ma,dS]at hr
 have n3:sB≠rB:=λe=>by rw[e,hr]at hs;simp[dS]at hs
 simp only[dS]at hr;simp[lY];show aa _ _ _ _ ⟨_,f,_,_,_⟩;apply aa.ag cF fw [0,1,2,3,4];simp[Lm];apply aa.seq;apply aa.cX (ok59 ay.nil) fw (rs:=Z9) rfl (by kernel_rfl) [0,1,2,3,4,12];simp[Z9,hs,k1,o2];refine aa.cond rfl (λq=>?_) (λq=>?_)
 ·have q:w=false:=by simpa using q
  rw[Zab (by rw[q];simp)]at hR;have aC:=ok61 (Hd (ay.nil) (λN' Va=>t60 Va hv (Ce q)) (λr hr=>gK hv _ hr));rw[hR]at aC;refine aa.pe aC fw (rs:=c5 (tg p sB rB N) (eR aaa [some [1],none,some [2],none,none,none,some [0],none])) (.inr ⟨_,rfl⟩) ((dX (xI nu hsN hrN n1 n2 n3) _ _ _).trans (by kernel_rfl)) [] ?_;simp[aaa,eR,c5,fk,tg,cP,bG,aN,hs,hr,k2,hUn,xJ];apply aa.ag cF fw [8];simp[GW];apply aa.ret;simp[uI]
 ·have q:w=true:=by simpa using q
  rw[Zai q]at hR;apply aa.skip;simp;apply aa.ag cF fw [8];simp[GW];rw[<-hR,eH hv];apply aa.ret;simp[uI]
def t88{p N:Nat}{v:SV}{i:gf}(hN:∀r,N<=r->f r=none)(hv:v.at f p)(hs:f sB=some (.box [.ptr p 0]))(hr:f rB=some (dS r))(ho:JY v i)(hfl:v.s.bZ.length=v.s.ak.length)(Ce:ff v.z i.2.2=true->od v.z v.s.bZ i.2.2=false->qb v.s r.head (qJ v.z v.s.ak i)):
  aR aj 127 ([.v (ti i.1),.v (ti i.2.1),j9 i.2.2]++lY [sB,rB]) f ⟨True,.v (.bool true),bX f v (iP v.z r v.s i)⟩:=by
 obtain⟨g,c,l⟩:=i;obtain⟨o1,o2,o3,o4⟩:=ho;simp only at o2 o3 o4 Ce;obtain⟨R,hR⟩:=bb (iP v.z r v.s (g,c,l));rw[hR];unfold iP at hR;simp only at hR;have k1:=k59_D (l:=l) hv;have k2:=k61_D (l:=l) (c:=c) hv o1 o2 o3 o4;have k3:l≠[]->_:=λhl=>k89_D (l:=l) hv hl o2 (λx hx hi=>by rw[hfl];exact o3 x hx hi);have hwn:ff v.z l=true->l≠[]:=Qk;obtain⟨U,hU⟩:=bb (j9 l);have hUn:aN U=[]:=by rw[<-hU];exact xH l
 simp only[hU]at k1 k2 k3⊢;obtain⟨V,hV⟩:=bb (j8 v.z v.s.ak c l);have hV2:qJ v.z v.s.ak (g,c,l)=V:=hV;rw[hV2]at Ce hR;rw[hV]at k2;obtain⟨w,hw⟩:=bb (ff v.z l);rw[hw]at Ce hR k1 hwn;obtain⟨y,hy⟩:=bb (od v.z v.s.bZ l);rw[hy]at Ce hR k3;refine c88.pQ hN (by simp[lY]) λaT=>?_;have nu:p<N:=(aT p _ hv.sp).1;have hsN:sB<N:=(aT _ _ hs).1;have hrN:rB<N:=(aT _ _ hr).1;have n1:p≠sB:=λe=>by rw[<-e,hv.sp]at hs;simp[ma]at hs
 have n2:p≠rB:=λe=>by rw[<-e,hv.sp]at hr;simp[ma,dS]at hr
 have n3:sB≠rB:=λe=>by rw[e,hr]at hs;simp[dS]at hs
 simp only[dS]at hr;simp[lY];show aa _ _ _ _ ⟨_,f,_,_,_⟩;apply aa.ag cF fw [0,1,2,3,4];simp[d88r0];apply aa.seq;obtain⟨c1,bU⟩:=bb ((w&& !y):Bool);cases w with
 |false=>
  rw[Zab (by simp)]at hR;apply aa.cX (ok59 (ok89 ay.nil)) fw (rs:=Ek) rfl (by kernel_rfl) [0,1,2,3,4,16];simp[Ek,hs,k1,o2];refine aa.cond rfl (λq=>by cases q) (λq=>?_);apply aa.skip;simp;apply aa.ag cF fw [8];simp[Rj];rw[<-hR,eH hv];apply aa.ret;simp[IF]
 |true=>
  have k3:=k3 (hwn rfl);apply aa.cX (ok59 (ok89 ay.nil)) fw (rs:=Ek) rfl (by kernel_rfl) [0,1,2,3,4,16];simp[Ek,hs,k1,o2,k3];refine aa.cond rfl (λq=>?_) (λq=>?_)
  ·have q:y=false:=by simpa using q
   rw[Zai ⟨rfl,q⟩]at hR;have aC:=ok61 (Hd (ay.nil) (λN' Va=>t60 Va hv (Ce rfl q)) (λr hr=>gK hv _ hr));rw[hR]at aC;refine aa.pe aC fw (rs:=c5 (tg p sB rB N) (eR O6 [some [1],none,some [2],none,none,none,some [0],none])) (.inr ⟨_,rfl⟩) ((dX (xI nu hsN hrN n1 n2 n3) _ _ _).trans (by kernel_rfl)) [] ?_;simp[O6,eR,c5,fk,tg,cP,bG,aN,hs,hr,k2,hUn,xJ];apply aa.ag cF fw [8];simp[Rj];apply aa.ret;simp[IF]
  ·have q:y=true:=by simpa using q
   rw[Zab (by rw[q];simp)]at hR;apply aa.skip;simp;apply aa.ag cF fw [8];simp[Rj];rw[<-hR,eH hv];apply aa.ret;simp[IF]
def nF(v:c8):Ob:=.box [.v (ti v.aH),.v (ti v.size)]
def db(x:Cell):Ob:=.box [.v (ti x.aH),.v (ti x.size),.v (ti x.qE),.v (ti x.arg)]
def t90{p N vB iB cB:Nat}{v:SV}{w:c8}{k:Int}{x:Cell}{i:gf}(hN:∀r,N<=r->f r=none)(hv:v.at f p)(hs:f sB=some (.box [.ptr p 0]))(hw:f vB=some (nF w))(hi:f iB=some (.box [.v (ti k)]))(hx:f cB=some (db x))(ho:JY v i):
  aR aj 129 ([.v (ti i.1),.v (ti i.2.1),j9 i.2.2]++lY [sB,vB,iB,cB]) f
   ⟨True,.v (.bool (!decide (qJ v.z v.s.ak i=w))),if qJ v.z v.s.ak i=w then aM [(cB,db ⟨w.aH,w.size,k,i.1⟩)] f else f⟩:=by
 obtain⟨g,c,l⟩:=i;obtain⟨o1,o2,o3,o4⟩:=ho;simp only at o2 o3 o4;have k2:=k61_D (l:=l) (c:=c) hv o1 o2 o3 o4;obtain⟨U,hU⟩:=bb (j9 l);have hUn:aN U=[]:=by rw[<-hU];exact xH l
 simp only[hU]at k2⊢;obtain⟨⟨vc,vs⟩,hV⟩:=bb (j8 v.z v.s.ak c l);have hV2:qJ v.z v.s.ak (g,c,l)=⟨vc,vs⟩:=hV;rw[hV2];rw[hV]at k2;obtain⟨wc,ws⟩:=w;refine c90.pQ hN (by simp[lY]) λaT=>?_;have nu:p<N:=(aT p _ hv.sp).1;have hvN:vB<N:=(aT _ _ hw).1;have hsN:sB<N:=(aT _ _ hs).1;have n1:p≠vB:=λe=>by rw[<-e,hv.sp]at hw;simp[ma,nF]at hw
 have n2:p≠sB:=λe=>by rw[<-e,hv.sp]at hs;simp[ma]at hs
 have n3:vB≠sB:=λe=>by rw[e,hs]at hw;simp[nF]at hw
 have n4:vB≠cB:=λe=>by rw[e,hx]at hw;simp[nF,db]at hw
 have n5:iB≠cB:=λe=>by rw[e,hx]at hi;simp[db]at hi
 simp only[nF,db]at hw hx⊢;simp[lY];show aa _ _ _ _ ⟨_,f,_,_,_⟩;apply aa.ag cF fw [0,1,2,3,4,5,6];simp[d90r0];apply aa.seq;refine aa.jR (ok61 ay.nil) fw (rs:=c5 (tg p vB sB N) (eR O8 [none,none,none,some [0],some [1],none])) (.inr ⟨_,rfl⟩) ((dX (xI nu hvN hsN n1 n2 n3) _ _ _).trans (by kernel_rfl)) [0,3,4,5,6,16] ?_;simp[O8,eR,c5,fk,tg,cP,bG,aN,hs,hw,k2,hUn,xJ];refine aa.cond rfl (λq=>?_) (λq=>?_)
 ·have q:¬(vc=wc/\vs=ws):=by
   simp at q;rintro⟨rfl,rfl⟩;simp at q
  rw[Zab q];apply aa.ag cF fw [10];simp[d90r2];apply aa.ret;simp[O9];exact Classical.not_and_iff_not_or_not.1 q
 ·have q:vc=wc/\vs=ws:=by simpa using q
  rw[Zai q];apply aa.skip;simp;apply aa.ag cF fw [0,3,4,5,6];simp[d90r3,hw,hi,hx];apply aa.ag cF fw [10];simp[d90r4];apply aa.ret;simp[O9,q,JE]
end
section
variable{f:bq}{z:eY}{r:di}{st:dn}
def zM(A B:cV)(f:bq):aM A (aM B f)=aM (A++B) f:=by
 funext k;induction A with
 |nil=>rfl
 |cons a A ih=>
  obtain⟨r,o⟩:=a;simp only[aP,ZaM,ih]
def A7{A B:cV}(h:∀a∈A,∀b∈B,a.1≠b.1):aM A (aM B f)=aM B (aM A f):=by
 funext k;by_cases hA:∃o,(k,o)∈A
 ·obtain⟨o,ho⟩:=hA;have hB:∀o',(k,o')∉B:=λo' iA=>h _ ho _ iA rfl;rw[fj (l:=B) hB];obtain⟨o1,h1,h2⟩:=Cz (f:=aM B f) ho;obtain⟨o2,h3,h4⟩:=Cz (f:=f) ho;have key:∀(A:cV) (g:bq),(∃o,(k,o)∈A)->aM A g k=aM A f k:=by
   intro A g;induction A with
   |nil=>rintro⟨o,ho⟩;cases ho
   |cons a A ih=>
    rintro⟨o,ho⟩;rw[aP,aP];split
    ·rfl
    ·rename_i bT;rcases Zah.1 ho with e|ho
     ·exact Zar (by rw[<-e]) bT
     ·exact ih ⟨o,ho⟩
  exact key A _ ⟨o,ho⟩
 ·have hA:∀o',(k,o')∉A:=λo' iA=>hA ⟨o',iA⟩;rw[fj (l:=A) hA];by_cases hB:∃o,(k,o)∈B
  ·obtain⟨o,ho⟩:=hB;have key:∀(B:cV) (g:bq),(∃o,(k,o)∈B)->aM B g k=aM B f k:=by
    intro B g;induction B with
    |nil=>rintro⟨o,ho⟩;cases ho
    |cons a B ih=>
     rintro⟨o,ho⟩;rw[aP,aP];split
     ·rfl
     ·rename_i bT;rcases Zah.1 ho with e|ho
      ·exact Zar (by rw[<-e]) bT
      ·exact ih ⟨o,ho⟩
   exact(key B _ ⟨o,ho⟩).symm
  ·have hB:∀o',(k,o')∉B:=λo' iA=>hB ⟨o',iA⟩;rw[fj (l:=B) hB,fj (l:=B) hB,fj (l:=A) hA]
section
variable{v:SV}{f0:bq}{p N:Nat}{L:cV}
def WZ(aT:dh f0 N)(hv:v.at f0 p)(hL:∀q∈L,N<=q.1)(s s':dn):bX (aM L (bX f0 v s)) (v.to s) s'=aM L (bX f0 v s'):=by
 have h1:bX (aM L (bX f0 v s)) (v.to s) s'=aM L (bX (bX f0 v s) (v.to s) s'):=by
  have a1:=(aT _ _ hv.rb).1;have a2:=(aT _ _ hv.rf).1;have a3:=(aT _ _ hv.rh).1;have a4:=(aT _ _ hv.q).1;have a5:=(aT _ _ hv.hp).1;have a6:=(aT _ _ hv.m).1;refine A7 λa ha b hb=>?_;have:=hL b hb;simp only[Zah,Zal,or_false]at ha;rcases ha with rfl|rfl|rfl|rfl|rfl|rfl<;>simp only[]<;>omega
 rw[h1,zr]
def AW(aT:dh f0 N)(hv:v.at f0 p)(hL:∀q∈L,N<=q.1)(a:dn)(s:Qs):bH (aM L (bX f0 v a)) v.k.q ((v.to a).qv p) s=aM L (bX f0 v ⟨a.ak,a.bZ,a.fl,s⟩):=by
 rw[<-rF hv a s];have a4:=(aT _ _ hv.q).1;have a5:=(aT _ _ hv.hp).1;have a6:=(aT _ _ hv.m).1;refine A7 λa ha b hb=>?_;have:=hL b hb;simp only[Zah,Zal,or_false]at ha;rcases ha with rfl|rfl|rfl<;>simp only[SV.qv]<;>omega
def nv(aT:dh f0 N)(hv:v.at f0 p)(s:dn):dh (bX f0 v s) N:=by
 have p0:∀m,f0 m≠none->bX f0 v s m≠none:=by
  intro m hm;simp only[bX,aP,cm];repeat' split
  all_goals first|(intro h;cases h)|exact hm
 intro r o h;by_cases hr:f0 r=none
 ·rw[gK hv s hr]at h;cases h
 ·obtain⟨o',iA⟩:=ZbP.1 hr;obtain⟨h1,h2⟩:=aT r o' iA;refine⟨h1,λm hm=>?_⟩;simp only[bX,aP,cm]at h;split at h
  ·cases h;simp[qK,aZ]at hm
  ·split at h
   ·cases h;simp[rU,aZ]at hm
   ·split at h
    ·cases h;simp[rV,aZ]at hm
    ·split at h
     ·cases h;simp only[qB,aZ,bM,aN,ZaC,Zaq,Zah,Zal,or_false]at hm;apply p0;rcases hm with rfl|rfl|rfl
      ·rw[hv.a];simp
      ·rw[hv.hp];simp
      ·rw[hv.m];simp
     ·split at h
      ·cases h;simp[hB,aZ]at hm
      ·split at h
       ·cases h;exfalso;simp only[mB,aZ,ZaV,uO,Zak]at hm;obtain⟨e,⟨e',_,rfl⟩,hk⟩:=hm;simp[aN]at hk
       ·rw[iA]at h;cases h;exact p0 m (h2 m hm)
def zN(aT:dh f0 N)(hv:v.at f0 p)(hL:∀q∈L,N<=q.1)(s:dn):(v.to s).at (aM L (bX f0 v s)) p:=(kH hv s).aM (nv aT hv s) hL
def ll{N M:Nat}{L:cV}(h:dh f N)(hNM:N<=M)(hL:∀q∈L,q.1<M/\∀m∈aZ q.2,aM L f m≠none):dh (aM L f) M:=by
 have p0:∀m,f m≠none->aM L f m≠none:=by
  intro m hm;cases ho:aM L f m with
  |some o=>simp
  |none=>
   exfalso;clear hL;induction L with
   |nil=>exact hm ho
   |cons a L ih=>
    rw[aP]at ho;split at ho
    ·cases ho
    ·exact ih ho
 intro r o ho;rcases qX ho with h1|⟨_,h1⟩
 ·exact⟨(hL _ h1).1,(hL _ h1).2⟩
 ·obtain⟨h2,h3⟩:=h r o h1;exact⟨by omega,λm hm=>p0 m (h3 m hm)⟩
end
def W0{i:gf}(h:i∈cD z r):i.2.2.length<=2:=by
 unfold cD at h;split at h
 ·split at h
  ·simp only[Zah,Zal,or_false]at h;subst h;simp
  ·cases h
 ·split at h
  ·obtain⟨k,_,hk⟩:=ZbA.1 h;unfold tT at hk;split at hk
   ·cases hk;simp
   ·cases hk
  ·split at h
   ·simp only[Zah,Zal,or_false]at h;subst h;simp
   ·split at h
    ·obtain⟨d,_,rfl⟩:=Zak.1 h;simp[pE]
    ·cases h
def Hw{x:Int}(h:jv r x):(eD z r).length<=2:=by
 unfold jv at h;unfold eD;split
 ·simp
 ·unfold cD;rw[Zab (by omega),Zab (by omega),Zai (by omega)];simp
def A8(K:Kx z)(hcf:zH z.c){k:NN}(W:WF z.n.an.toNat st)(hr:r∈z.n.au){i:gf}(hi:i∈cD z r):JY ⟨k,z,st⟩ i:=
 ⟨⟨hcf,K.hc,W.bo⟩,by have:=W0 hi;omega,λx hx _=>by
  have:=pF K hr hi hx;have:=W.lb;exact⟨by omega,by simp only;omega⟩,A5 K hr hi⟩
def Ci(z:eY)(x:Int)(st:dn)(k:Nat):dn:=(z.n.au.take k).foldl (CZ z x) (pU st)
def rN(z:eY)(x:Int)(st:dn)(k j:Nat):dn:=((eD z (z.n.au.getD k default)).take j).foldl (iP z (z.n.au.getD k default)) (Ci z x st k)
def zD{α β:Type}{f:α->List β}{c:Nat}:∀(l:List α),(∀a∈l,(f a).length<=c)->(l.flatMap f).length<=c*l.length
 |[],_=>by simp
 |a::l,h=>by
  have h1:=h a (by simp);have h2:=zD (f:=f) (c:=c) l (λb hb=>h b (by simp[hb]));rw[Zbt,ZaK,Za5,Nat.mul_succ];omega
def Nq{x:Int}(l:Cf):((l.filter λr=>decide (jv r x)).flatMap λr=>(eD z r).map λi=>((r,i):PR)).length<=2*l.length:=by
 have h1:=zD (c:=2) (f:=λr=>(eD z r).map λi=>((r,i):PR)) (l.filter λr=>decide (jv r x)) (λr hr=>by
  rw[Zbn];exact Hw (by simpa using(Zbj.1 hr).2))
 have h2:=List.length_filter_le (λr=>decide (jv r x)) l;omega
def mid_ok(C:nl z.n z.l z.c z.fr.toNat z.to.toNat)(K:Kx z)(h:IV z st)(bT:st.s.heap≠[]){k j:Nat}(hk:k<z.n.au.length)(hu:jv (z.n.au.getD k default) (st.s.e 0).x):
  KN z (rN z (st.s.e 0).x st k j)/\(rN z (st.s.e 0).x st k j).s.clock<=st.s.clock+1202/\(rN z (st.s.e 0).x st k j).bZ.length=(rN z (st.s.e 0).x st k j).ak.length:=by
 obtain⟨k1,k2,k3,k4⟩:=h.1.pop K bT;have hP:=pop_ps C K h bT;have Xp:(pU st).bZ.getD (st.s.e 0).x.toNat false=true:=by
  show lW (pU st) _=true;rw[tf h.1.wf bT k2.1 k2.2,Zai rfl]
 have aT:(pU st).s.clock=st.s.clock:=by
  have hs:lu (fT st.s) (fC st.ak st.s):=by unfold fC;rw[Zab bT];exact li rfl
  exact hs.clock
 have Ql:z.n.au.getD k default∈z.n.au:=bm hk;obtain⟨r,hr⟩:=bb (z.n.au.getD k default);have e:rN z (st.s.e 0).x st k j=((((z.n.au.take k).filter λr=>decide (jv r (st.s.e 0).x)).flatMap λr=>(eD z r).map λi=>((r,i):PR))++((eD z r).take j).map λi=>((r,i):PR)).foldl (λst (p:PR)=>iP z p.1 st p.2) (pU st):=by
  rw[ZaI,<-FW,ZcC];unfold rN Ci;rw[hr]
 have hok:∀p∈(((z.n.au.take k).filter λr=>decide (jv r (st.s.e 0).x)).flatMap λr=>(eD z r).map λi=>((r,i):PR))++((eD z r).take j).map λi=>((r,i):PR),NO z p:=by
  intro p hp;rcases Zaq.1 hp with hp|hp
  ·exact U7 K (λr h=>ZaE h) p hp
  ·obtain⟨i,hi,rfl⟩:=Zak.1 hp;rw[hr]at Ql;exact⟨Ql,A4 K.ft.2 (ZaE hi)⟩
 obtain⟨a1,_,_,a4⟩:=(set_ok C K k2 Xp).L8 (λ_ h=>h) _ hok _ hP;rw[<-e]at a1 a4;have l1:=Nq (z:=z) (x:=(st.s.e 0).x) (z.n.au.take k);have l2:=Hw (z:=z) hu;have l3:=K.hn.2.2.1;rw[hr]at l2;rw[ZaK,Zbn,ZaB]at a4;rw[ZaB]at l1;exact⟨a1.kn,by omega,by rw[a1.kn.wf.lf,a1.kn.wf.lb]⟩
def W3{x:Int}{k:Nat}(hk:k<z.n.au.length):Ci z x st (k+1)=if jv (z.n.au.getD k default) x then rN z x st k (eD z (z.n.au.getD k default)).length else Ci z x st k:=by
 unfold rN Ci;rw[cW hk,ZaI];simp only[ZaN,Zca,CZ,ZbM]
def W4{x:Int}{k j:Nat}{i:gf}(h:(eD z (z.n.au.getD k default))[j]? =some i):rN z x st k (j+1)=iP z (z.n.au.getD k default) (rN z x st k j) i:=by
 unfold rN;rw[ZbO,h,ZaI];rfl
end
deriving instance DecidableEq for c8
section
variable{r:di}
def Nm(z:eY)(ak:bR)(v:c8)(r:di):Option gf:=(cD z r).find? λi=>decide (qJ z ak i=v)
def mM(z:eY)(ak:bR)(h:Int)(x:Cell)(k:Nat):Cell:=
 if(z.n.au.getD k default).head≠h\/(bv ak h).aH>=1099511627776\/x.qE>=0 then x
 else match Nm z ak (bv ak h) (z.n.au.getD k default)with
  |some i=>⟨(bv ak h).aH,(bv ak h).size,k,i.1⟩
  |none=>x
def oB(z:eY)(ak:bR)(h:Int)(m:Nat):Cell:=(List.range m).foldl (mM z ak h) lP
def iQ(z:eY)(ak:bR)(h:Int):Cell:=oB z ak h z.n.au.length
def pG(z:eY)(ak:bR):eV:=(List.range z.n.an.toNat).map λ(h:Nat)=>iQ z ak (h:Int)
def zK(z:eY)(ak:bR)(h:Int)(m:Nat):oB z ak h (m+1)=mM z ak h (oB z ak h m) m:=by
 unfold oB;rw[ZaR,ZaI];rfl
def Kb(l:aV):Prop:=∀i j:Nat,i<=j->j<l.bE.length->(l.bE.getD i default).f<(l.bE.getD j default).f\/((l.bE.getD i default).f=(l.bE.getD j default).f/\(l.bE.getD i default).t<=(l.bE.getD j default).t)
def Kb.mono{z:eY}(h:Kb z.l):mono z:=by
 intro i j hij hj hp;have:=h i j hij hj;unfold lV at hp⊢;omega
def loI_past{z:eY}(hs:Kb z.l){i:Nat}(h:jn z<=i)(hi:i<z.l.bE.length):lV z (z.l.bE.getD i default):=by
 have hl:jn z<z.l.bE.length:=by omega
 have h1:=List.findIdx_getElem (w:=hl);simp only[Zau]at h1;refine hs.mono (jn z) i h hi ?_;have e:z.l.bE.getD (jn z) default=z.l.bE[jn z]:=by simp[List.getD,hl]
 rw[e];exact h1
def at_in{z:eY}(hs:Kb z.l){i:Nat}(hi:i<z.l.bE.length)(h:Kc z (z.l.bE.getD i default)):jn z<=i/\i<tW z:=by
 refine at_range hs.mono (λi j hij hj hl dP=>?_) hi h;have h1:=loI_past hs hl (by omega);have h2:=hs i j hij hj;unfold lV Kc at*
 omega
def lX(z:eY)(ak:bR)(h:Int):∀m,m<=z.n.au.length->
  ((bv ak h).aH>=1099511627776->oB z ak h m=lP)/\
  ((bv ak h).aH<1099511627776->
   (oB z ak h m=lP/\∀(k:Nat) r,k<m->z.n.au[k]? =some r->r.head=h->∀i∈cD z r,qJ z ak i≠bv ak h)\/
   (∃(k:Nat) (r:di) (i:gf),k<m/\z.n.au[k]? =some r/\r.head=h/\Nm z ak (bv ak h) r=some i/\oB z ak h m=⟨(bv ak h).aH,(bv ak h).size,k,i.1⟩/\
    ∀(k':Nat) r,k'<k->z.n.au[k']? =some r->r.head=h->∀i∈cD z r,qJ z ak i≠bv ak h))
 |0,_=>⟨λ_=>rfl,λ_=>.inl ⟨rfl,λk r hk=>by omega⟩⟩
 |m+1,hm=>by
  obtain⟨a,b⟩:=lX z ak h m (by omega);have hr:z.n.au[m]? =some (z.n.au.getD m default):=by simp[List.getD,show m<z.n.au.length by omega]
  rw[zK];refine⟨λhf=>?_,λhf=>?_⟩
  ·rw[a hf];unfold mM;rw[Zai (.inr (.inl hf))]
  ·rcases b hf with⟨b1,b2⟩|⟨k,r,i,b1,b2,b3,b4,b5,b6⟩
   ·rw[b1];unfold mM;split
    ·rename_i hc;have hc:(z.n.au.getD m default).head≠h:=by
      rcases hc with hc|hc|hc
      ·exact hc
      ·omega
      ·exact Zar hc (by decide)
     refine .inl ⟨rfl,λk r hk yE nz=>?_⟩;by_cases e:k=m
     ·subst e;rw[hr]at yE;cases yE;exact Zar nz hc
     ·exact b2 k r (by omega) yE nz
    ·rename_i hc;simp only[not_or,ne_eq,Decidable.not_not]at hc;cases hp:Nm z ak (bv ak h) (z.n.au.getD m default)with
     |some i=>exact .inr ⟨m,_,i,by omega,hr,hc.1,hp,rfl,b2⟩
     |none=>
      refine .inl ⟨rfl,λk r hk yE nz=>?_⟩;by_cases e:k=m
      ·subst e;rw[hr]at yE;cases yE;intro i hi;have:=ZcX.1 hp i hi;simpa using this
      ·exact b2 k r (by omega) yE nz
   ·refine .inr ⟨k,r,i,by omega,b2,b3,b4, ?_,b6⟩;rw[b5];unfold mM;rw[Zai (.inr (.inr (by simp only;omega)))]
def C0{z:eY}{ak:bR}{h:Nat}(hh:h<z.n.an.toNat):(pG z ak).getD h default=iQ z ak (h:Int):=by
 simp[pG,List.getD,hh]
def C1(z:eY)(ak:bR):(pG z ak).length=z.n.an.toNat:=by simp[pG]
def Qd{l:List gf}{p:gf->Bool}{i:gf}(hs:l.Pairwise λa b=>a.1<=b.1)(h:l.find? p=some i):∀j∈l,p j=true->i.1<=j.1:=by
 induction l with
 |nil=>cases h
 |cons a l ih=>
  rw[Za0]at hs;intro j hj hp;by_cases ha:p a=true
  ·rw[List.find?_cons_of_pos ha]at h;cases h;rcases Zah.1 hj with rfl|hj
   ·omega
   ·exact hs.1 j hj
  ·rw[List.find?_cons_of_neg ha]at h;rcases Zah.1 hj with rfl|hj
   ·exact Zar hp ha
   ·exact ih hs.2 h j hj hp
def Nn(z:eY)(r:di):(cD z r).Pairwise λa b=>a.1<=b.1:=by
 unfold cD;split
 ·split<;>simp
 ·split
  ·rw[List.pairwise_filterMap];refine List.Pairwise.imp (R:=λa b=>a<b) (λ{a b} hab x hx y hy=>?_) List.pairwise_lt_range';unfold tT at hx hy;split at hx
   ·split at hy
    ·cases hx;cases hy;simp only;omega
    ·cases hy
   ·cases hx
  ·split
   ·simp
   ·split
    ·rw[ZcD];refine List.Pairwise.imp (R:=λa b=>a<b) (λ{a b} hab=>?_) List.pairwise_lt_range;simp only[pE];omega
    ·simp
section
variable{z:eY}{st:dn}
def end_fin(K:Kx z)(h:KN z st)(bT:st.s.heap=[]){x:Int}(h0:0<=x)(h1:x<z.n.an)(hf:(bv st.ak x).aH<1099511627776):lW st x=true:=by
 cases J2:lW st x with
 |true=>rfl
 |false=>
  exfalso;rcases ilt (st.fl.getD x.toNat 0)with hd|hd
  ·have:=(h.wf.old x.toNat (by omega) hd).2;unfold bv at hf;rw[this]at hf;exact Zar hf (by decide)
  ·obtain⟨e,he,_⟩:=h.wf.Xl x.toNat (by omega) hd J2;rw[bT]at he;cases he
def end_inf(K:Kx z)(h:KN z st){x:Int}(h0:0<=x)(h1:x<z.n.an)(hf:¬(bv st.ak x).aH<1099511627776):bv st.ak x=⟨1099511627776,0⟩:=by
 rcases ilt (st.fl.getD x.toNat 0)with hd|hd
 ·exact(h.wf.old x.toNat (by omega) hd).2
 ·exact Zar (h.wf.Qb x.toNat (by omega) hd) hf
def C2(K:Kx z)(h:KN z st){x:Int}(h0:0<=x)(h1:x<z.n.an):((pG z st.ak).getD x.toNat default).val=bv st.ak x:=by
 obtain⟨y,rfl⟩:=Zae h0;rw[Zag,C0 (by omega)];obtain⟨a,b⟩:=lX z st.ak y z.n.au.length (Zaf _);unfold iQ;by_cases hf:(bv st.ak y).aH<1099511627776
 ·rcases b hf with⟨b1,b2⟩|⟨k,r,i,_,_,_,_,b5,_⟩
  ·obtain⟨k,r,hk,hr,i,hi,_,hc⟩:=h.att y h0 h1 hf;exact Zar hc (b2 k r (Zaw.1 hk).1 hk hr i hi)
  ·rw[b5]
 ·rw[a (by omega),end_inf K h h0 h1 hf];rfl
def Hv(K:Kx z)(h:KN z st){x:Int}(h0:0<=x)(h1:x<z.n.an)(f t:Int):eJ z.c (pG z st.ak) z.fr z.to x f t=jY z st.ak x f t:=by
 unfold eJ jY;split
 ·exact C2 K h h0 h1
 ·rfl
def instR_of(K:Kx z)(h:KN z st){s t:Nat}(es:z.fr=s)(et:z.to=t){k:Nat}(hk:z.n.au[k]? =some r){i:gf}(hi:i∈cD z r):pk z.n z.l z.c (pG z st.ak) s t k i.1 (qJ z st.ak i):=by
 have hr:r∈z.n.au:=Zax hk;obtain⟨q1,q2,q3,q4,q5⟩:=K.hn.2.2.2 r hr;have hv:=λ{x:Int} (h0:0<=x) (h1:x<z.n.an) (f t:Int)=>Hv K h h0 h1 f t;have vR:=K.ft;refine⟨r,hk, ?_⟩;unfold cD at hi;split at hi
 ·rename_i h1;split at hi
  ·simp only[Zah,Zal,or_false]at hi;subst hi;exact .inl ⟨h1,by omega,es,rfl⟩
  ·cases hi
 ·split at hi
  ·rename_i h1;obtain⟨a,ha0,ha⟩:=ZbA.1 hi;have:=wu z;simp only[Zb6]at ha0;have hal:a<z.l.bE.length:=by omega
   have dP:=Ni (z:=z) (i:=a) (by omega) (by omega);unfold tT at ha;split at ha
   ·rename_i Nk;cases ha;exact .inr (.inl ⟨h1,a,z.l.bE.getD a default,by simp[List.getD,hal],by rw[dP.1,es],by rw[dP.2,et],Nk,rfl,rfl⟩)
   ·cases ha
  ·split at hi
   ·rename_i h1;simp only[Zah,Zal,or_false]at hi;subst hi;refine .inr (.inr (.inl ⟨h1,es, ?_⟩));show dU r.cq [jY z st.ak r.a z.fr z.to]=_;rw[<-es,<-et,hv (by omega) (by omega)]
   ·split at hi
    ·rename_i h1;obtain⟨d,hd0,rfl⟩:=Zak.1 hi;simp only[Za2]at hd0;refine .inr (.inr (.inr ⟨h1,d,by omega,by simp only[pE];omega, ?_⟩));show dU r.cq [jY z st.ak r.a z.fr (z.fr+(d:Int)),jY z st.ak r.b (z.fr+(d:Int)) z.to]=_;rw[<-es,<-et,hv (by omega) (by omega),hv (by omega) (by omega)]
    ·cases hi
def of_instR(K:Kx z)(hs:Kb z.l)(h:KN z st){s t:Nat}(es:z.fr=s)(et:z.to=t){k:Nat}{g:Int}{v:c8}(hi:pk z.n z.l z.c (pG z st.ak) s t k g v):∃r,z.n.au[k]? =some r/\∃i∈cD z r,i.1=g/\qJ z st.ak i=v:=by
 obtain⟨r,hk,hi⟩:=hi;have hr:r∈z.n.au:=Zax hk;obtain⟨q1,q2,q3,q4,q5⟩:=K.hn.2.2.2 r hr;have hv:=λ{x:Int} (h0:0<=x) (h1:x<z.n.an) (f t:Int)=>Hv K h h0 h1 f t;have vR:=K.ft;refine⟨r,hk, ?_⟩;rcases hi with⟨h1,h2,rfl,rfl⟩|⟨h1,a,x,ha,Xp,hxt,Nk,rfl,rfl⟩|⟨h1,rfl,rfl⟩|⟨h1,d,hd,rfl,rfl⟩
 ·refine⟨(z.fr,r.cq,[]), ?_,es,rfl⟩;unfold cD;rw[Zai h1,Zai (by omega)];simp
 ·have hal:=(Zaw.1 ha).1;have hx:z.l.bE.getD a default=x:=by simp[List.getD,ha]
  have:=at_in hs hal (by rw[hx];exact⟨by rw[Xp,es],by rw[hxt,et]⟩);refine⟨((a:Int),r.cq+x.aH,[]), ?_,rfl,rfl⟩;unfold cD;rw[Zab (by omega),Zai h1];refine ZbA.2 ⟨a,by simp only[Zb6];omega, ?_⟩;unfold tT;rw[hx,Zai Nk]
 ·refine⟨(z.fr,r.cq,[(r.a,z.fr,z.to)]), ?_,es, ?_⟩
  ·unfold cD;rw[Zab (by omega),Zab (by omega),Zai h1];simp
  ·show dU r.cq [jY z st.ak r.a z.fr z.to]=_;rw[<-es,<-et,hv (by omega) (by omega)]
 ·refine⟨pE z r (z.fr+(d:Int)), ?_,by simp only[pE];omega, ?_⟩
  ·unfold cD;rw[Zab (by omega),Zab (by omega),Zab (by omega),Zai h1];exact Zak.2 ⟨d,by simp only[Za2];omega,rfl⟩
  ·show dU r.cq [jY z st.ak r.a z.fr (z.fr+(d:Int)),jY z st.ak r.b (z.fr+(d:Int)) z.to]=_;rw[<-es,<-et,hv (by omega) (by omega),hv (by omega) (by omega)]
def Qe(K:Kx z)(h:KN z st)(bT:st.s.heap=[])(hr:r∈z.n.au){i:gf}(hi:i∈cD z r)(hf:(qJ z st.ak i).aH<1099511627776):qI z st.bZ i:=by
 intro x hx hin;have NG:=pF K hr hi hx;refine end_fin K h bT NG.1 NG.2 ?_;have h2:=h.wf.canon (x:=x.1.toNat) (by omega);have:=cmb_ge K h.wf.bo hr hi hx hin h2;unfold c8.lt at this;unfold bv at this⊢;have:=(h.wf.bo _ (bm (l:=st.ak) (show x.1.toNat<st.ak.length by rw[h.wf.lb];omega))).2.1;omega
def WX(K:Kx z)(hs:Kb z.l)(h:IV z st)(bT:st.s.heap=[]){s t:Nat}(es:z.fr=s)(et:z.to=t){k:Nat}(hk:z.n.au[k]? =some r){g:Int}{v:c8}(hi:pk z.n z.l z.c (pG z st.ak) s t k g v)(hf:v.aH<1099511627776):
  ¬v.lt (bv st.ak r.head)/\(v=bv st.ak r.head->BN (iQ z st.ak r.head).qE (iQ z st.ak r.head).arg k g):=by
 obtain⟨r',tU,i,pW,rfl,rfl⟩:=of_instR K hs h.1 es et hi;rw[hk]at tU;cases tU;have hr:r∈z.n.au:=Zax hk;refine⟨h.2 (r,i) ⟨hr,pW⟩ (Qe K h.1 bT hr pW hf),λe=>?_⟩;obtain⟨_,b⟩:=lX z st.ak r.head z.n.au.length (Zaf _);unfold iQ;rcases b (by rw[<-e];exact hf)with⟨b1,b2⟩|⟨k',r',i',_,b2,b3,b4,b5,b6⟩
 ·exact Zar e (b2 k r (Zaw.1 hk).1 hk rfl i pW)
 ·rw[b5];unfold BN;simp only;rcases Nat.lt_trichotomy k k' with hlt|rfl|hgt
  ·exact Zar e (b6 k r hlt hk rfl i pW)
  ·rw[hk]at b2;cases b2;have:=Qd (Nn z r) b4 i pW (by simpa using e);exact .inr ⟨rfl,this⟩
  ·exact .inl (by omega)
def own_ps(C:nl z.n z.l z.c z.fr.toNat z.to.toNat)(K:Kx z)(h:KN z st):PS z.n z.l z.c z.fr.toNat z.to.toNat (pG z st.ak):=by
 have vR:=K.ft;intro y hy;rw[C1]at hy;have fJ:(y:Int)<z.n.an:=by omega
 have c7:((pG z st.ak).getD y default).val=bv st.ak y:=C2 K h (x:=(y:Int)) (by omega) fJ;rw[C0 hy]at c7⊢;obtain⟨a,b⟩:=lX z st.ak y z.n.au.length (Zaf _);by_cases hf:(bv st.ak y).aH<1099511627776
 ·rcases b hf with⟨b1,b2⟩|⟨k,r,i,_,b2,b3,b4,b5,b6⟩
  ·exact .inl b1
  ·right;refine⟨by rw[c7];exact h.der y (by omega) fJ hf,k,i.1,qJ z st.ak i,instR_of K h (by omega) (by omega) b2 (Zb8 b4),⟨r,b2,b3⟩, ?_, ?_, ?_⟩
   ·unfold iQ;rw[b5]
   ·unfold iQ;rw[b5]
   ·have:=Zc7 b4;simp only[Zau]at this;rw[c7,this];unfold c8.lt;omega
 ·exact .inl (a (by omega))
def No(C:nl z.n z.l z.c z.fr.toNat z.to.toNat)(K:Kx z)(h:KN z st):nM z.n (pG z st.ak):=by
 have hn:=K.hn;have vR:=K.ft;have ik:=C.tm;refine⟨by rw[C1];have:=hn.1;omega,λx hx=>?_⟩;obtain⟨y,hy0,rfl⟩:=Zak.1 hx;simp only[Za2]at hy0;have fJ:(y:Int)<z.n.an:=by omega
 have c7:((pG z st.ak).getD y default).val=bv st.ak y:=C2 K h (x:=(y:Int)) (by omega) fJ;rw[C0 hy0]at c7;have hvo:jj (bv st.ak y):=h.wf.bo _ (bm (by rw[h.wf.lb];omega));obtain⟨a,b⟩:=lX z st.ak y z.n.au.length (Zaf _);have mi:iQ z st.ak y=lP->mH (iQ z st.ak y):=λe=>by rw[e];exact BP
 by_cases hf:(bv st.ak y).aH<1099511627776
 ·rcases b hf with⟨b1,b2⟩|⟨k,r,i,b0,b2,b3,b4,b5,b6⟩
  ·exact mi b1
  ·refine⟨by rw[c7];exact hvo, ?_⟩;unfold iQ;rw[b5];have hk:=hn.2.2.1;have hi:=Zb8 b4;simp only;refine⟨by omega,by omega, ?_⟩;have Xs:=K.hl.2.2.1;unfold cD at hi;split at hi
   ·split at hi
    ·simp only[Zah,Zal,or_false]at hi;subst hi;simp only;omega
    ·cases hi
   ·split at hi
    ·obtain⟨a,ha0,ha⟩:=ZbA.1 hi;have:=wu z;simp only[Zb6]at ha0;unfold tT at ha;split at ha
     ·cases ha;simp only;omega
     ·cases ha
    ·split at hi
     ·simp only[Zah,Zal,or_false]at hi;subst hi;simp only;omega
     ·split at hi
      ·obtain⟨d,hd0,rfl⟩:=Zak.1 hi;simp only[Za2]at hd0;simp only[pE];omega
      ·cases hi
 ·exact mi (a (by omega))
def own_fix(C:nl z.n z.l z.c z.fr.toNat z.to.toNat)(K:Kx z)(hs:Kb z.l)(h:IV z st)(bT:st.s.heap=[]):Pb z.n z.l z.c z.fr.toNat z.to.toNat (pG z st.ak):=by
 have ho:=No C K h.1;have vR:=K.ft;intro k hk;obtain⟨r,hr⟩:=bb (z.n.au.getD k default);have yE:z.n.au[k]? =some r:=by rw[<-hr];simp[List.getD,hk]
 have hrm:r∈z.n.au:=Zax yE;have hro:=K.hn.2.2.2 r hrm;have hh0:0<=r.head:=hro.1;have hh1:r.head<z.n.an:=hro.2.1;have hxm:(pG z st.ak).getD r.head.toNat default∈pG z st.ak:=bm (by rw[C1];omega);have hg:=zd K.hn K.hl K.hc ho.ok hk C.st C.tm (by rw[hr];exact ho.2 _ hxm);unfold kA at hg⊢;rw[hr]at hg⊢;have c7:=C2 K h.1 hh0 hh1;have zq:(pG z st.ak).getD r.head.toNat default=iQ z st.ak r.head:=by rw[C0 (by omega),show((r.head.toNat:Nat):Int)=r.head by omega]
 obtain⟨X,hX⟩:=bb ((pG z st.ak).getD r.head.toNat default);rw[hX]at hg c7 zq hxm⊢;have hXok:=ho.2 _ hxm;rcases za yE (G1 hro) C.st X (c:=z.c) (own:=pG z st.ak) (l:=z.l)with e|⟨g,v,hi,hf,h3,e⟩
 ·exact e
 ·obtain⟨l1,l2⟩:=WX K hs h bT (s:=z.fr.toNat) (t:=z.to.toNat) (by omega) (by omega) yE hi hf;rw[c7]at h3;have ev:=c8.uL l1 h3;have l3:=l2 ev;rw[<-zq]at l3;rw[e]at hg⊢;obtain⟨g1,g2⟩:=hg;have e1:X.aH=v.aH/\X.size=v.size:=by
   have:X.val=v:=by rw[c7,ev]
   rw[<-this];exact⟨rfl,rfl⟩
  rcases g2 with e'|hlt
  ·exact e'
  ·exfalso;obtain⟨_,x1,x2,x3,x4⟩:=hXok;obtain⟨_,y1,y2,y3,y4⟩:=g1;unfold Fl at hlt;simp only at hlt y1 y2 y3 y4;rw[e1.1,e1.2]at hlt;unfold BN at l3;omega
def Qf(C:nl z.n z.l z.c z.fr.toNat z.to.toNat)(K:Kx z)(hs:Kb z.l)(h:IV z st)(bT:st.s.heap=[]):pG z st.ak=mm z.n z.l z.c z.fr z.to:=by
 have vR:=K.ft;have ho:=No C K h.1;have h2:=(zc C.hn C.hl C.hc C.st C.tm (PS z.n z.l z.c z.fr.toNat z.to.toNat) (UL C) (λown k ho hk hp=>UK C ho hk hp)).1;have e:∀x:Nat,(x:Int)<z.n.an->(pG z st.ak).getD x default=(mm z.n z.l z.c z.fr.toNat z.to.toNat).getD x default:=λx hx=>
  (Mg C ho (own_ps C K h.1) (own_fix C K hs h bT) x hx).unique (G4 C x hx)
 have e1:((z.fr.toNat:Nat):Int)=z.fr:=by omega
 have e2:((z.to.toNat:Nat):Int)=z.to:=by omega
 rw[e1,e2]at e h2;refine Zbw (by have:=h2.1;have:=ho.1;omega) λi h1 h2'=>?_;have:=e i (by have:=ho.1;omega);simpa [List.getD,h1,h2']using this
end
end
structure Run(z:eY):Prop where
 C:nl z.n z.l z.c z.fr.toNat z.to.toNat
 K:Kx z
 cf:zH z.c
 Kb:Kb z.l
def Nr{z:eY}(H:Run z){k0:NN}{f0:bq}{p N M sB rB:Nat}{s0 st:dn}(aT:dh f0 N)(hv:(⟨k0,z,s0⟩:SV).at f0 p)(h:IV z st)(bT:st.s.heap≠[])(Cy:st.s.clock+1300<=1000000000000)
  (h1:N<=sB) (h2:N<=rB) (h3:sB<M) (h4:rB<M) (h5:rB≠sB) {k:Nat} (hk:k<z.n.au.length) (hu:jv (z.n.au.getD k default) (st.s.e 0).x) {D:DV} (hD:FY D (z.n.au.getD k default)):
  aR aj 126 [.ptr p 0,D,.nG (.func 127) [.ptr sB 0,.ptr rB 0]] (aM [(rB,dS (z.n.au.getD k default)),(sB,.box [.ptr p 0])] (bX f0 ⟨k0,z,s0⟩ (Ci z (st.s.e 0).x st k)))
   ⟨True,.v (.eo []),aM [(rB,dS (z.n.au.getD k default)),(sB,.box [.ptr p 0])] (bX f0 ⟨k0,z,s0⟩ (rN z (st.s.e 0).x st k (eD z (z.n.au.getD k default)).length))⟩:=by
 have Ql:z.n.au.getD k default∈z.n.au:=bm hk;have hmid:=λj=>mid_ok H.C H.K h bT (j:=j) hk hu;obtain⟨r,hr⟩:=bb (z.n.au.getD k default);have hms:=λ{j i}=>W4 (z:=z) (x:=(st.s.e 0).x) (st:=st) (k:=k) (j:=j) (i:=i);have hro:=H.K.hn.2.2.2 r (by rw[<-hr];exact Ql);rw[hr]at hD Ql hms⊢;obtain⟨V,hV⟩:=bb ((⟨k0,z,s0⟩:SV):SV);have hVz:V.z=z:=by rw[<-hV]
 have hVk:V.k=k0:=by rw[<-hV]
 have hVto:∀s,V.to s=⟨k0,z,s⟩:=λs=>by rw[<-hV]
 rw[hV]at hv⊢;have hL:∀q∈[(rB,dS r),(sB,Ob.box [.ptr p 0])],N<=q.1:=by simp;omega
 have e0:Ci z (st.s.e 0).x st k=rN z (st.s.e 0).x st k 0:=rfl;rw[e0];have nu:=(aT _ _ hv.sp).1;refine t87 (k:=k0) (z:=z) (N:=M) (r:=r) (bY:=[sB,rB]) (F:=λj=>aM [(rB,dS r),(sB,.box [.ptr p 0])] (bX f0 V (rN z (st.s.e 0).x st k j))) ⟨λj _=>⟨_,by have:=zN aT hv hL (rN z (st.s.e 0).x st k j);rw[hVto]at this;exact this⟩,λj _=>?_⟩ ⟨λj i hi _ N' Va=>?_,λj r' hj hn=>?_,λ_ _=>rfl,.inl rfl⟩ rfl H.Kb.mono H.K.hl.2.2.1 ?_ ⟨hro.2.2.1,hro.2.2.2.1⟩ H.K.hl.2.2.2 ?_ hD
 ·refine ll (nv aT hv _) (by omega) λq hq=>?_;simp only[Zah,Zal,or_false]at hq;rcases hq with rfl|rfl
  ·exact⟨h4,λm hm=>by simp[dS,aZ,bM,aN]at hm⟩
  ·refine⟨h3,λm hm=>?_⟩;simp only[aZ,bM,aN,ZaC,Zah,Zal,or_false]at hm;subst hm;rw[pB nu hL,(kH hv _).sp];simp
 ·have hib:=A4 (z:=z) H.K.ft.2 (Zax hi);obtain⟨m1,m2,m3⟩:=hmid j;have dP:=zN aT hv hL (rN z (st.s.e 0).x st k j);rw[hVto]at dP;have:=t88 (i:=i) (r:=r) (sB:=sB) (rB:=rB) Va dP (by simp[h5.symm]) (by simp) (A8 H.K H.cf m1.wf Ql hib) m3 (λ_ hw=>by
   have hh:0<=r.head/\r.head<z.n.an:=⟨hro.1,hro.2.1⟩;exact m1.wf.qb (by omega) (JW H.K m1.wf.bo Ql hib) (by have:=H.K.hn.2.1;omega) (by omega))
  have e:=WZ aT hv hL (rN z (st.s.e 0).x st k j) (iP z r (rN z (st.s.e 0).x st k j) i);rw[hVto]at e;simp only at this;rw[e,<-hms hi]at this;exact this
 ·simp only[aP,cm]at hn⊢;split at hn
  ·cases hn
  ·split at hn
   ·cases hn
   ·rename_i g1 g2;rw[Zab g1,Zab g2];have hf:f0 r'=none:=by
     cases ho:f0 r' with
     |none=>rfl
     |some o=>
      exfalso;have:bX f0 V (rN z (st.s.e 0).x st k j) r'≠none:=by
       simp only[bX,aP,cm];repeat' split
       all_goals first|(intro h;cases h)|(rw[ho];simp)
      exact this hn
    exact gK hv _ hf
 ·have:=H.C.tm;have:=H.K.ft;omega
 ·intro x hx;simp only[Zah,Zal,or_false]at hx;rcases hx with rfl|rfl
  ·exact⟨_,by simp[h5.symm];rfl⟩
  ·exact⟨_,by simp[dS];rfl⟩
section
variable{f0:bq}{z:eY}
def C3{v:SV}{p N:Nat}{L:cV}(hN:∀r,N<=r->f0 r=none)(hv:v.at f0 p){M:Nat}(hM:N<=M)(hL:∀q∈L,q.1<M)(s:dn):∀r,M<=r->aM L (bX f0 v s) r=none:=λr hr=>by
 rw[fj λo h=>by have:=hL _ h;simp only at this;omega];exact gK hv s (hN r (by omega))
def Ns(a:Nat)(o o':Ob)(L:cV)(f:bq):aM ((a,o)::(a,o')::L) f=aM ((a,o)::L) f:=by
 funext k;simp only[aP];split<;>rfl
def le_L{X:bq}{N p:Nat}{aJ ba:Nat}{tm:dw}{l:fA}{L1:cV}{cs:bB}(hX:dh X N)(hp:X p=some (.box cs))(nu:p<N)(hM:N+3<=ba)(VR:∀q∈L1,N+3<=q.1)(ik:fR (aM (L1++[(N+2,.box [.ptr p 0])]) X) (aM [(N+2,.box [.ptr p 0])] X) id tm l):
  Le ⟨tm,aM (L1++[(N+2,.box [.ptr p 0])]) X,aJ,N,[]⟩ ⟨DM.look l,aM [(N+2,.box [.ptr p 0])] X,ba,N,[]⟩:=by
 have e1:aM (L1++[(N+2,Ob.box [.ptr p 0])]) X (N+2)=some (.box [.ptr p 0]):=by
  rw[<-zM,fj λo h=>by have:=VR _ h;simp only at this;omega];simp
 have e2:aM (L1++[(N+2,Ob.box [.ptr p 0])]) X p=some (.box cs):=by
  rw[<-zM,fj λo h=>by have:=VR _ h;simp only at this;omega];simp[hp];omega
 refine Le.dV hX (by omega) ?_ ?_ ?_ ik
 ·simp;omega
 ·clear ik e1 e2;induction L1 with
  |nil=>simp[bK]
  |cons a L1 ih=>
   refine⟨λh=>?_,ih λq hq=>VR q (by simp[hq])⟩;have:=VR a (by simp);omega
 ·refine⟨⟨_,e1,.inr ⟨rfl,λm hm=>?_⟩,λh=>by omega⟩,trivial⟩;simp only[aZ,bM,aN,ZaC,Zah,Zal,or_false]at hm;subst hm;exact⟨_,_,e2,by simp[hp];omega,be _⟩
def qr{st:dn}{f:Nat}(bT:st.s.heap≠[]):ip z (f+1) st=ip z f (oA z st):=by
 simp only[ip,Zab bT]
def B1{z:eY}(H:Run z):∀{f g:Nat} {st:dn},IV z st->py st<f->py st<g->ip z f st=ip z g st
 |0,_,_,_,h,_=>by omega
 |_,0,_,_,_,h=>by omega
 |f+1,g+1,st,hI,h1,h2=>by
  by_cases bT:st.s.heap=[]
  ·simp only[ip,Zai bT]
  ·rw[qr bT,qr bT];obtain⟨a,b,_⟩:=A6 H.C H.K hI bT;exact B1 H a (by omega) (by omega)
def t62{p N:Nat}(H:Run z){k0:NN}{s0:dn}(hN:∀r,N<=r->f0 r=none)(hv:(⟨k0,z,s0⟩:SV).at f0 p)(hI:IV z s0)(Cy:s0.s.clock+1300*(py s0+1)<=1000000000000):
  aR aj 90 [.ptr p 0] f0 ⟨True,.v (.eo []),bX f0 ⟨k0,z,s0⟩ (ip z (py s0+1) s0)⟩:=by
 obtain⟨R,hR⟩:=bb (ip z (py s0+1) s0);rw[hR];refine c62.pQ hN (by simp) λaT=>?_;obtain⟨V,hV⟩:=bb ((⟨k0,z,s0⟩:SV):SV);have hVz:V.z=z:=by rw[<-hV]
 have hVk:V.k=k0:=by rw[<-hV]
 have NL:V.s=s0:=by rw[<-hV]
 have hVto:∀s,V.to s=⟨k0,z,s⟩:=λs=>by rw[<-hV]
 have nu:=(aT _ _ hv.sp).1;have np:∀k,p≠N+k:=λk=>by omega
 have en:=hv.sp;rw[hV]at hv⊢;simp;apply aa.ag cF fw [1];simp[d62r0];obtain⟨L,hL⟩:=bb ([(N+2,Ob.box [.ptr p 0])]);have hLN:∀q∈L,N<=q.1:=by rw[<-hL];simp
 have hLM:∀{M},N+3<=M->∀q∈L,q.1<M:=by rw[<-hL];simp;omega
 have hf0:bX f0 V s0=f0:=by rw[<-NL];exact eH hv
 apply aa.block;refine aa.loop (λst:dn=>⟨DM.look [(1,.ptr (N+2) 0)],aM L (bX f0 V st),N+1000,N,[]⟩)
  (λst=>IV z st/\st.s.clock+1300*(py st+1)<=1000000000000/\ip z (py st+1) st=R) py s0 (by
   rw[hf0,<-hL];refine Le.same (λr hr=>?_) (by simp[gn]);simp only[aP,cm];rw[Zab (by omega)];exact hN r (by omega)) ⟨hI,Cy,hR⟩ (λst hst=>?_)
 obtain⟨hI',hck',hR'⟩:=hst;apply aa.block;have dP:=zN aT hv hLN st;have Vb:cC.Vb [.ptr V.k.q 0] (aM L (bX f0 V st))=⟨wo st.s st.ak,.v (uT st.s),aM L (bX f0 V ⟨st.ak,st.bZ,st.fl,fC st.ak st.s⟩)⟩:=by
  have:=k85_eq dP.qv;rw[AW aT hv hLN]at this;exact this
 have hq:∀s,aM L (bX f0 V s) p=some (.box (ma V.k V.z)):=λs=>(zN aT hv hLN s).sp;have hb:∀s,aM L (bX f0 V s) (N+2)=some (.box [.ptr p 0]):=λs=>by rw[<-hL];simp
 simp only[ma]at hq;have ho:=hI'.1.wf.wo (by have:=H.K.hn.2.1;omega);have hC:=λs=>nv aT hv s;have Xn:=H.K.hn;by_cases bT:st.s.heap=[]
 ·have hp1:uT st.s=.eo [ti 0,.bool false]:=Zai bT;have Qu:fC st.ak st.s=st.s:=Zai bT;rw[hp1,Qu]at Vb;apply aa.cX (ok85 ay.nil) fw (rs:=El) rfl (by kernel_rfl) [1,2,3];simp[El,hb,hq,Vb,ho];apply aa.seq;apply aa.ag cF fw [1,15];simp[aab];refine aa.cond rfl (λ_=>?_) (λg=>by cases g);simp only[ip,Zai bT]at hR';subst hR';refine aa.le (kO (l:=[]) (ba:=N+2000) (hC st) (by omega) hLN (by simp)) ?_;apply aa.ret;simp[aad];rfl
 ·obtain⟨kn,⟨x0,x1⟩,xf,_⟩:=hI'.1.pop H.K bT;have hlf:=hI'.1.wf.lf;obtain⟨y,hy⟩:=Zae x0;have hp1:uT st.s=.eo [ti y,.bool true]:=by rw[<-hy];exact Zab bT
  rw[hp1]at Vb;have xw:y<st.bZ.length:=by omega
  have rr:=jG xw;obtain⟨stp,hstp⟩:=bb ((⟨st.ak,st.bZ,st.fl,fC st.ak st.s⟩:dn):dn);have hpf:stp.bZ=st.bZ:=by rw[<-hstp]
  have hpp:(⟨stp.ak,st.bZ.set y true,stp.fl,stp.s⟩:dn)=pU st:=by rw[<-hstp];unfold pU;rw[hy];rfl
  rw[hstp]at Vb;apply aa.cX (ok85 ay.nil) fw (rs:=El) rfl (by kernel_rfl) [1,2,3];simp[El,hb,hq,Vb,ho];apply aa.seq;apply aa.ag cF fw [1,2,15];simp[aab];refine aa.cond rfl (λg=>by cases g) (λ_=>?_);apply aa.skip;simp;have oP:=(zN aT hv hLN stp).rf;simp only[rU,hpf]at oP;apply aa.ag cF fw [1,2];simp[d62r3,hb,hq,oP,xw,rr];have e3:aM ((V.k.rf,.arr 0 4 1 ((g8 st.bZ).set y [.bool true]))::L) (bX f0 V stp)=aM L (bX f0 V (pU st)):=by
   rw[show(V.k.rf,Ob.arr 0 4 1 ((g8 st.bZ).set y [.bool true]))::L=[(V.k.rf,Ob.arr 0 4 1 ((g8 st.bZ).set y [.bool true]))]++L from rfl,<-zM,A7,<-Fa,JC hv,hpp];intro a ha b fp;have:=hLN b fp;have:=(aT _ _ hv.rf).1;simp only[Zah,Zal,or_false]at ha;subst ha;simp only;omega
  rw[e3];apply aa.ag cF fw [1,2,26,27,28];simp[d62r4,hb,hq,hVz];apply aa.block;refine aa.loop (λk:Nat=>⟨DM.look [(1,.ptr (N+2) 0),(2,.v (ti y)),(26,.v (.sl (aU z.n.au))),(27,.v (ti z.n.au.length)),(28,.v (ti k))],aM L (bX f0 V (Ci z (y:Int) st k)),N+2000,N,[]⟩)
   (λk=>k<=z.n.au.length) (λk=>z.n.au.length-k) 0 (Le.same (C3 hN hv (by omega) (hLM (by omega)) _) (by simp[gn])) (by omega) (λk hk=>?_)
  apply aa.ag cF fw [1,2,26,27,28,29];simp[d62r5];apply aa.seq;refine aa.cond rfl (λg=>?_) (λg=>?_)
  ·have g:k<z.n.au.length:=by simpa using g
   have rk:=kZ g;have hms:=W3 (z:=z) (x:=(y:Int)) (st:=st) g;have hsc:=λD hD hu=>Nr (M:=N+2500) H (k0:=k0) aT (by rw[hV];exact hv) hI' bT (by omega) (sB:=N+2) (rB:=N+2048) (by omega) (by omega) (by omega) (by omega) (by omega) g hu (D:=D) hD;have w2:IntKind.i64.wrap ((k:Int)+1)=((k+1:Nat):Int):=by rw[aF (by have:=Xn.2.2.1;omega)];omega
   apply aa.skip;simp;apply aa.seq;apply aa.block;obtain⟨⟨Vc,rh,ra,rb,rp,ro⟩,hr⟩:=bb (z.n.au.getD k default);rw[hr]at rk hms hsc;simp only[di.enc]at rk;apply aa.ag cF fw [1,2,5,26,27,28];simp[d62r6,g,rk,Nat.add_assoc];rw[Ns];apply aa.seq;obtain⟨u,hu⟩:=bb (decide (jv ⟨Vc,rh,ra,rb,rp,ro⟩ y):Bool);apply aa.ag (ok86 ay.nil) fw [1,2,5,26,27,28,35];simp[d62r7,hu,Nat.add_assoc];have hpX:∀s,bX f0 V s p=some (.box (ma V.k V.z)):=λs=>(kH hv s).sp;refine aa.cond rfl (λg2=>?_) (λg2=>?_)
   ·have g2:u=false:=by simpa using g2
    rw[g2]at hu;have hu:=Zay hu;rw[Zab hu]at hms;apply aa.exit;simp;rw[<-hL];refine aa.le (le_L (L1:=[_]) (l:=[(1,.ptr (N+2) 0),(2,.v (ti y)),(26,.v (.sl (aU z.n.au))),(27,.v (ti z.n.au.length)),(28,.v (ti k))]) (ba:=N+3000) (hC _) (hpX _) nu (by omega) (by simp) (by simp)) ?_;apply aa.fK cF fw [1,2,26,27,28];simp[aac,w2];rw[hL,<-hms];exact⟨k+1,Le.same (C3 hN hv (by omega) (hLM (by omega)) _) (by simp[gn]),by omega,by omega⟩
   ·have g2:u=true:=by simpa using g2
    rw[g2]at hu;have hu:=Zat hu;rw[Zai hu]at hms;apply aa.skip;simp;simp only[hy]at hsc;have rQ:∀r',aM [(N+2048,dS ⟨Vc,rh,ra,rb,rp,ro⟩),(N+2,.box [.ptr p 0])] (bX f0 V (Ci z (y:Int) st k)) r'=none->aM [(N+2048,dS ⟨Vc,rh,ra,rb,rp,ro⟩),(N+2,.box [.ptr p 0])] (bX f0 V (rN z (y:Int) st k (eD z ⟨Vc,rh,ra,rb,rp,ro⟩).length)) r'=none:=by
     intro r' gD;simp only[aP,cm]at gD⊢;split at gD
     ·cases gD
     ·split at gD
      ·cases gD
      ·rename_i a1 a2;rw[Zab a1,Zab a2];cases hf:f0 r' with
       |none=>exact gK hv _ hf
       |some o=>
        exfalso;have:bX f0 V (Ci z (y:Int) st k) r'≠none:=by
         simp only[bX,aP,cm];repeat' split
         all_goals first|(intro h;cases h)|(rw[hf];simp)
        exact this gD
    have aC:=Hd ay.nil (λN' _=>hsc _ (Qh _) hu) (by rw[hV];exact rQ);rw[hV]at aC;rw[<-hL];apply aa.Iq aC fw (rs:=O7) rfl (by kernel_rfl) [1,2,26,27,28];simp[O7,dS,Nat.add_assoc];refine aa.le (le_L (L1:=[_]) (l:=[(1,.ptr (N+2) 0),(2,.v (ti y)),(26,.v (.sl (aU z.n.au))),(27,.v (ti z.n.au.length)),(28,.v (ti k))]) (ba:=N+3000) (hC _) (hpX _) nu (by omega) (by simp) (by simp)) ?_;apply aa.fK cF fw [1,2,26,27,28];simp[aac,w2];rw[hL,<-hms];exact⟨k+1,Le.same (C3 hN hv (by omega) (hLM (by omega)) _) (by simp[gn]),by omega,by omega⟩
  ·have g:k=z.n.au.length:=by
    have:¬k<z.n.au.length:=by simpa using g
    omega
   apply aa.exit;simp;have e4:Ci z (y:Int) st k=oA z st:=by
    unfold Ci oA;rw[g,ZbM,hy]
   rw[e4];obtain⟨i1,i2,i3⟩:=A6 H.C H.K hI' bT;have l1:=Nq (z:=z) (x:=(st.s.e 0).x) z.n.au;refine⟨oA z st,Le.same (C3 hN hv (by omega) (hLM (by omega)) _) (by simp[gn]),⟨i1, ?_, ?_⟩,i2⟩
   ·have:=Xn.2.2.1;unfold setP at i3;omega
   ·rw[qr bT]at hR';rw[<-hR'];exact B1 H i1 (by omega) (by omega)
end
def ii(p N:Nat)(r:di)(k:Int)(w:c8):cV:=[(N+1058,dS r),(N+1057,.box [.v (ti k)]),(N+55,nF w),(N+3,.box [.ptr p 0]),(N+5,.box [.v (ti 0),.v (ti 0),.v (ti 0),.v (ti 0)])]
def pickC(z:eY)(ak:bR)(w:c8)(r:di)(k:Int)(x:Cell):Cell:=match Nm z ak w r with
 |some i=>⟨w.aH,w.size,k,i.1⟩
 |none=>x
def Nt{z:eY}(H:Run z){k0:NN}{f0:bq}{p N:Nat}{st:dn}(aT:dh f0 N)(hv:(⟨k0,z,st⟩:SV).at f0 p)(W:WF z.n.an.toNat st){r:di}(hr:r∈z.n.au){k:Int}{x:Cell}{w:c8}{D:DV}(hD:FY D r):
  aR aj 85 [.ptr p 0,D,.nG (.func 129) [.ptr (N+3) 0,.ptr (N+55) 0,.ptr (N+1057) 0,.ptr (N+105) 0]] (aM ((N+105,db x)::ii p N r k w) f0)
   ⟨True,.v (.eo []),aM ((N+105,db (pickC z st.ak w r k x))::ii p N r k w) f0⟩:=by
 have hro:=H.K.hn.2.2.2 r hr;have nu:=(aT _ _ hv.sp).1;have vR:=H.K.ft;have ik:=H.C.tm;have hL:∀(y:Cell),∀q∈((N+105,db y)::ii p N r k w),N<=q.1:=by intro y;simp[ii]
 have dP:∀y,(⟨k0,z,st⟩:SV).at (aM ((N+105,db y)::ii p N r k w) f0) p:=λy=>hv.aM aT (hL y);have hCl:∀y,dh (aM ((N+105,db y)::ii p N r k w) f0) (N+2000):=λy=>by
  refine ll aT (by omega) λq hq=>?_;simp only[ii,Zah,Zal,or_false]at hq;rcases hq with rfl|rfl|rfl|rfl|rfl|rfl
  ·exact⟨by simp only;omega,λm hm=>by simp[db,aZ,bM,aN]at hm⟩
  ·exact⟨by simp only;omega,λm hm=>by simp[dS,aZ,bM,aN]at hm⟩
  ·exact⟨by simp only;omega,λm hm=>by simp[aZ,bM,aN]at hm⟩
  ·exact⟨by simp only;omega,λm hm=>by simp[nF,aZ,bM,aN]at hm⟩
  ·refine⟨by simp only;omega,λm hm=>?_⟩;simp only[aZ,bM,aN,ZaC,Zah,Zal,or_false]at hm;subst hm;rw[(dP y).sp];simp
  ·exact⟨by simp only;omega,λm hm=>by simp[aZ,bM,aN]at hm⟩
 have rQ:∀(y y':Cell) r',aM ((N+105,db y)::ii p N r k w) f0 r'=none->aM ((N+105,db y')::ii p N r k w) f0 r'=none:=by
  intro y y' r' h;rw[aP]at h⊢;split at h
  ·cases h
  ·rename_i h1;rw[Zab h1];exact h
 have oV:∀y y',aM [(N+105,db y')] (aM ((N+105,db y)::ii p N r k w) f0)=aM ((N+105,db y')::ii p N r k w) f0:=λy y'=>by
  rw[zM];exact Ns _ _ _ _ _
 have call:∀(y:Cell) (i:gf),i∈cD z r->∀N',(∀r',N'<=r'->aM ((N+105,db y)::ii p N r k w) f0 r'=none)->
   aR aj 129 ([.v (ti i.1),.v (ti i.2.1),j9 i.2.2]++lY [N+3,N+55,N+1057,N+105]) (aM ((N+105,db y)::ii p N r k w) f0)
    ⟨True,.v (.bool (!decide (qJ z st.ak i=w))),aM ((N+105,db (if qJ z st.ak i=w then⟨w.aH,w.size,k,i.1⟩else y))::ii p N r k w) f0⟩:=λy i hi N' Va=>by
  have:=t90 (i:=i) (sB:=N+3) (vB:=N+55) (iB:=N+1057) (cB:=N+105) (w:=w) (k:=k) (x:=y) Va (dP y) (by simp[ii]) (by simp[ii]) (by simp[ii]) (by simp) (A8 H.K H.cf W hr hi);rw[oV]at this;by_cases e:qJ z st.ak i=w
  ·simpa [e]using this
  ·simpa [e]using this
 have bY:FZ [N+3,N+55,N+1057,N+105] (aM ((N+105,db x)::ii p N r k w) f0):=by
  intro q hq;simp only[Zah,Zal,or_false]at hq;rcases hq with rfl|rfl|rfl|rfl
  ·exact⟨_,by simp[ii];rfl⟩
  ·exact⟨_,by simp[ii,nF];rfl⟩
  ·exact⟨_,by simp[ii];rfl⟩
  ·exact⟨_,by simp[db];rfl⟩
 unfold pickC;cases hp:Nm z st.ak w r with
 |none=>
  have bT:∀i∈cD z r,qJ z st.ak i≠w:=λi hi=>by
   have:=ZcX.1 hp i hi;simpa using this
  refine t57 (k:=k0) (z:=z) (N:=N+2000) (r:=r) (bY:=[N+3,N+55,N+1057,N+105]) (F:=λ_=>aM ((N+105,db x)::ii p N r k w) f0) (B:=λ_=>true) (m:=(cD z r).length) ⟨λ_ _=>⟨_,dP x⟩,λ_ _=>hCl x⟩ ⟨λj i hi _ N' Va=>?_,λ_ _ _ h=>h,λ_ _=>rfl,.inl rfl⟩ H.Kb.mono H.K.hl.2.2.1 (by omega) ⟨hro.2.2.1,hro.2.2.2.1⟩ H.K.hl.2.2.2 bY hD;have h1:=call x i (Zax hi) N' Va;have h2:=bT i (Zax hi);simpa [h2]using h1
 |some i=>
  obtain⟨hi1,idx,hidx,mF,hlt⟩:=ZcO.1 hp;have hi1:qJ z st.ak i=w:=by simpa using hi1
  have e0:(λj=>aM ((N+105,db (if idx<j then⟨w.aH,w.size,k,i.1⟩else x))::ii p N r k w) f0) 0=aM ((N+105,db x)::ii p N r k w) f0:=by simp
  have e1:(λj=>aM ((N+105,db (if idx<j then⟨w.aH,w.size,k,i.1⟩else x))::ii p N r k w) f0) (idx+1)=aM ((N+105,db ⟨w.aH,w.size,k,i.1⟩)::ii p N r k w) f0:=by simp
  rw[<-e0]at bY⊢;simp only;rw[<-e1];refine t57 (k:=k0) (z:=z) (N:=N+2000) (r:=r) (bY:=[N+3,N+55,N+1057,N+105]) (F:=λj=>aM ((N+105,db (if idx<j then⟨w.aH,w.size,k,i.1⟩else x))::ii p N r k w) f0) (B:=λj=>decide (j≠idx)) (m:=idx+1) ⟨λ_ _=>⟨_,dP _⟩,λ_ _=>hCl _⟩ ⟨λj i' pW hj N' Va=>?_,λ_ _ _ h=>rQ _ _ _ h,λj hj=>?_,.inr ⟨by omega,by omega,by simp⟩⟩ H.Kb.mono H.K.hl.2.2.1 (by omega) ⟨hro.2.2.1,hro.2.2.2.1⟩ H.K.hl.2.2.2 bY hD
  ·have XB:¬idx<j:=by omega
   simp only[XB,if_false]at Va⊢;have h1:=call x i' (Zax pW) N' Va;by_cases e:j=idx
   ·subst e;rw[Zas hidx,mF]at pW;cases pW;simpa [hi1]using h1
   ·have h2:=hlt j (by omega);have J3:j<(cD z r).length:=by omega
    rw[Zas J3]at pW;cases pW;have h3:¬idx<j+1:=by omega
    have h4:qJ z st.ak (cD z r)[j]≠w:=by simpa using h2
    simpa [h4,e,h3]using h1
  ·have:j≠idx:=by omega
   simpa using this
section
variable{z:eY}{r:di}{f0:bq}
def oe(p N:Nat)(w:c8):cV:=[(N+55,nF w),(N+3,.box [.ptr p 0]),(N+5,.box [.v (ti 0),.v (ti 0),.v (ti 0),.v (ti 0)])]
def Gq{ak:bR}{h:Int}{x:Cell}{k:Nat}(hr:z.n.au.getD k default=r):mM z ak h x k=if r.head≠h\/(bv ak h).aH>=1099511627776\/x.qE>=0 then x else pickC z ak (bv ak h) r k x:=by
 subst hr;rfl
def le_cho{N p:Nat}{aJ ba:Nat}{tm:dw}{l:fA}{cs:bB}{k:Int}{w:c8}{x:Cell}(aT:dh f0 N)(hp:f0 p=some (.box cs))(hM:N+106<=ba)(ik:fR (aM ((N+105,db x)::ii p N r k w) f0) (aM ((N+105,db x)::oe p N w) f0) id tm l):
  Le ⟨tm,aM ((N+105,db x)::ii p N r k w) f0,aJ,N,[]⟩ ⟨DM.look l,aM ((N+105,db x)::oe p N w) f0,ba,N,[]⟩:=by
 have nu:=(aT _ _ hp).1;have np:∀k,p≠N+k:=λk=>by omega
 refine Le.dV aT (by omega) ?_ ?_ ?_ ik
 ·simp[oe];omega
 ·simp[bK,ii,oe]
 ·simp[dN,eA,ii,oe,db,nF,np,hp]
def t63{p N h:Nat}(H:Run z){k0:NN}{st:dn}(hN:∀r,N<=r->f0 r=none)(hv:(⟨k0,z,st⟩:SV).at f0 p)(W:WF z.n.an.toNat st)(hh:h<z.n.an.toNat):
  aR aj 91 [.ptr p 0,.v (ti h)] f0 ⟨True,.v (.agg (iQ z st.ak h).enc),f0⟩:=by
 obtain⟨R,hR⟩:=bb (iQ z st.ak h);rw[hR];refine c63.pQ hN (by simp) λaT=>?_;have hsp:=hv.sp;have oO:=hv.rb;simp only[ma,qK]at hsp oO;have nu:=(aT _ _ hv.sp).1;have UN:=(aT _ _ hv.rb).1;simp only at UN;have np:∀k,p≠N+k:=λk=>by omega
 have nb:∀k,k0.rb≠N+k:=λk=>by omega
 have hhb:h<st.ak.length:=by rw[W.lb];exact hh
 have rr:=dd hhb;obtain⟨w,hw⟩:=bb (st.ak.getD h default);rw[hw]at rr;have JG:bv st.ak h=w:=hw;have Xn:=H.K.hn;simp;apply aa.ag cF fw [1,2,4];simp[d63r0,Nat.add_assoc];apply aa.ag cF fw [1,2,4,5];simp[d63r1,hsp,oO,np,nb,hhb,rr,Nat.add_assoc];apply aa.ag cF fw [1,2,4,5,6];simp[d63r2,Nat.add_assoc];apply aa.seq;apply aa.ag cF fw [1,2,4,5,6,21,22,23];simp[d63r3,hsp,np,Nat.add_assoc];have eT:aM [(N+105,Ob.box [.v (ti 1099511627776),.v (ti 0),.v (ti (-1)),.v (ti 0)]),(N+105,Ob.box [.v (ti 0),.v (ti 0),.v (ti 0),.v (ti 0)]),(N+55,Ob.box [.v (ti w.aH),.v (ti w.size)]),(N+55,Ob.box [.v (ti 0),.v (ti 0)]),(N+5,Ob.box [.v (ti 0),.v (ti 0),.v (ti 0),.v (ti 0)]),(N+3,Ob.box [.ptr p 0])] f0=aM ((N+105,db lP)::oe p N w) f0:=by
  funext q;simp only[aP,cm,oe,nF,db,lP]
  (repeat' split)<;>first|rfl|omega
 rw[eT];apply aa.block;have mi:∀(L:cV) M,N<=M->(∀q∈L,q.1<M)->∀r,M<=r->aM L f0 r=none:=λL M hM hL r hr=>by
  rw[fj λo h=>by have:=hL _ h;simp only at this;omega];exact hN r (by omega)
 refine aa.loop (λk:Nat=>⟨DM.look [(1,.v (ti h)),(2,.ptr (N+3) 0),(4,.ptr (N+5) 0),(5,.ptr (N+55) 0),(6,.ptr (N+105) 0),(21,.v (.sl (aU z.n.au))),(22,.v (ti z.n.au.length)),(23,.v (ti k))],aM ((N+105,db (oB z st.ak h k))::oe p N w) f0,N+1000,N,[]⟩)
  (λk=>k<=z.n.au.length) (λk=>z.n.au.length-k) 0 (Le.same (mi _ _ (by omega) (by simp[oe])) (by simp[gn])) (by omega) (λk hk=>?_)
 obtain⟨x,hx⟩:=bb (oB z st.ak h k);rw[hx];apply aa.ag cF fw [1,2,4,5,6,21,22,23,24];simp[d63r4];apply aa.seq;refine aa.cond rfl (λg=>?_) (λg=>?_)
 ·have g:k<z.n.au.length:=by simpa using g
  have rk:=kZ g;have hrm:z.n.au.getD k default∈z.n.au:=bm g;have oj:=zK z st.ak h k;have w2:IntKind.i64.wrap ((k:Int)+1)=((k+1:Nat):Int):=by rw[aF (by have:=Xn.2.2.1;omega)];omega
  obtain⟨r,hr⟩:=bb (z.n.au.getD k default);rw[hr]at rk hrm;rw[Gq hr,hx,JG]at oj;have nP:=λD hD=>Nt (k:=k) (x:=x) (w:=w) H aT hv W hrm (D:=D) hD;obtain⟨Vc,rh,ra,rb,rp,ro⟩:=r;simp only[di.enc]at rk;simp only at oj;apply aa.skip;simp;apply aa.seq;apply aa.block;apply aa.ag cF fw [1,2,4,5,6,7,8,21,22,23];simp[d63r5,g,rk,Nat.add_assoc];have eU:aM ((N+1058,Ob.box [.v (ti Vc),.v (ti rh),.v (ti ra),.v (ti rb),.v (ti rp),.v (ti ro)])::(N+1057,Ob.box [.v (ti k)])::(N+1058,Ob.box [.v (ti 0),.v (ti 0),.v (ti 0),.v (ti 0),.v (ti 0),.v (ti 0)])::(N+1057,Ob.box [.v (ti 0)])::(N+105,db x)::oe p N w) f0=aM ((N+105,db x)::ii p N ⟨Vc,rh,ra,rb,rp,ro⟩ k w) f0:=by
   funext q;simp only[aP,cm,oe,ii,dS]
   (repeat' split)<;>first|rfl|omega
  rw[eU];apply aa.seq;obtain⟨c1,bU⟩:=bb (decide (rh≠h\/w.aH>=1099511627776\/x.qE>=0):Bool);refine aa.cz cF fw [(1,.v (ti h)),(2,.ptr (N+3) 0),(4,.ptr (N+5) 0),(5,.ptr (N+55) 0),(6,.ptr (N+105) 0),(7,.ptr (N+1057) 0),(8,.ptr (N+1058) 0),(21,.v (.sl (aU z.n.au))),(22,.v (ti z.n.au.length)),(23,.v (ti k)),(41,.v (.bool c1))] ?_ ?_
  ·by_cases q1:rh=h
   ·by_cases q2:w.aH>=1099511627776
    ·have:c1=true:=by rw[<-bU];simp[q2]
     simp[Ln,ii,db,nF,dS,q1,q2,this]
    ·by_cases q3:x.qE>=0
     ·have:c1=true:=by rw[<-bU];simp[q3]
      simp[Ln,ii,db,nF,dS,q1,q2,q3,this]
     ·have:c1=false:=by rw[<-bU];simp[q1,q2,q3]
      simp[Ln,ii,db,nF,dS,q1,q2,q3,this]
   ·have:c1=true:=by rw[<-bU];simp[q1]
    simp[Ln,ii,db,nF,dS,q1,this]
  refine aa.cond rfl (λg2=>?_) (λg2=>?_)
  ·have g2:c1=true:=by simpa using g2
   rw[g2]at bU;rw[Zai (Zat bU)]at oj;apply aa.exit;simp;refine aa.le (le_cho (l:=[(1,.v (ti h)),(2,.ptr (N+3) 0),(4,.ptr (N+5) 0),(5,.ptr (N+55) 0),(6,.ptr (N+105) 0),(21,.v (.sl (aU z.n.au))),(22,.v (ti z.n.au.length)),(23,.v (ti k))]) (ba:=N+3000) aT hv.sp (by omega) (by simp[ii,oe,db,nF])) ?_;apply aa.fK cF fw [1,2,4,5,6,21,22,23];simp[aae,w2];refine⟨k+1, ?_,by omega,by omega⟩;rw[oj];exact Le.same (mi _ _ (by omega) (by simp[oe])) (by simp[gn])
  ·have g2:c1=false:=by simpa using g2
   rw[g2]at bU;rw[Zab (Zay bU)]at oj;have aC:=Hd ay.nil (λN' _=>nP _ (Qh _)) (λr' h=>by
    rw[aP]at h⊢;split at h
    ·cases h
    ·rename_i h1;rw[Zab h1];exact h)
   apply aa.skip;simp;apply aa.Iq aC fw (rs:=Pa) rfl (by kernel_rfl) [1,2,4,5,6,21,22,23];have l1:aM (ii p N ⟨Vc,rh,ra,rb,rp,ro⟩ k w) f0 (N+3)=some (.box [.ptr p 0]):=by simp[ii]
   have l2:aM (ii p N ⟨Vc,rh,ra,rb,rp,ro⟩ k w) f0 (N+1058)=some (dS ⟨Vc,rh,ra,rb,rp,ro⟩):=by simp[ii]
   simp[Pa,l1,l2,dS];refine aa.le (le_cho (l:=[(1,.v (ti h)),(2,.ptr (N+3) 0),(4,.ptr (N+5) 0),(5,.ptr (N+55) 0),(6,.ptr (N+105) 0),(21,.v (.sl (aU z.n.au))),(22,.v (ti z.n.au.length)),(23,.v (ti k))]) (ba:=N+3000) aT hv.sp (by omega) (by simp[ii,oe,db,nF])) ?_;apply aa.fK cF fw [1,2,4,5,6,21,22,23];simp[aae,w2];refine⟨k+1, ?_,by omega,by omega⟩;rw[oj];exact Le.same (mi _ _ (by omega) (by simp[oe])) (by simp[gn])
 ·have g:k=z.n.au.length:=by
   have:¬k<z.n.au.length:=by simpa using g
   omega
  have hxR:x=R:=by rw[<-hx,g,<-hR];rfl
  subst hxR;apply aa.exit;simp;apply aa.ag cF fw [4];simp[d63r9,db,oe];refine aa.le (kO (l:=[(4,.v (.box [ti x.aH,ti x.size,ti x.qE,ti x.arg]))]) (ba:=N+3000) aT (by omega) (by simp) ?_) ?_
  ·simp;exact bL (l:=[]) aT (by omega) (by simp)
  apply aa.ret;simp[aaf,Cell.enc];rfl
end
def nA(a N:Nat):cV:=[(N+15,.box [.nG (.func 83) [.ptr a 0],.aW,.iE (N+13),.v (ti 0),.v (ti 0)]),(N+13,.map [.int .i64] false 0 [])]
def t54{f0:bq}{a N:Nat}{cs:bB}(hN:∀r,N<=r->f0 r=none)(ha:f0 a=some (.box cs)):
  sE aj 82 [.nG (.func 83) [.ptr a 0]] f0 N (N+20) (λval nJ=>val=.ptr (N+15) 0/\nJ=aM (nA a N) f0):=by
 refine c54.YJ hN (by simp) (by omega) ?_ λaT=>?_
 ·rintro val nJ ⟨rfl,rfl⟩;refine⟨λr hr h=>?_,λr hr=>?_⟩
  ·rw[pB hr (by simp[nA])];exact h
  ·rw[fj λo h=>by simp[nA]at h;omega];exact hN r (by omega)
 ·simp;apply aa.ag cF fw [0,2];simp[Lf];apply aa.ag cF fw [2];simp[Lg,Nat.add_assoc];apply aa.ret;simp[finN,nA]
section
variable{z:eY}{st:dn}
def Hx:NN:=⟨2025,2028,2031,2304,2012,2309,2302⟩
def dJ(z:eY)(st:dn):cV:=[(2033,.box (ma Hx z)),(2025,qK st),(2028,rU st),(2031,rV st),(2304,qB 2012 2309 2302 st.s),(2309,hB st.s),(2302,mB st.s),(2012,.box [.ptr 2033 0])]
def oC(z:eY)(st:dn)(L:cV)(hL:∀q∈L,3000<=q.1):(⟨Hx,z,st⟩:SV).at (cM (L++dJ z st)) 2033:=by
 have h:∀k,k<3000->cM (L++dJ z st) k=cM (dJ z st) k:=by
  intro k hk;induction L with
  |nil=>rfl
  |cons a L ih=>
   obtain⟨r,o⟩:=a;have:=hL (r,o) (by simp);simp only at this;rw[ZaM,cS,Zab (by omega)];exact ih λq hq=>hL q (by simp[hq])
 refine⟨?_, ?_, ?_, ?_, ?_, ?_, ?_, ?_⟩<;>(rw[h _ (by simp[Hx])];simp[dJ,Hx])
def Nu(z:eY)(st dm:dn)(L:cV)(hL:∀q∈L,3000<=q.1):bX (cM (L++dJ z st)) ⟨Hx,z,st⟩ dm=cM (L++dJ z dm):=by
 funext k;induction L with
 |nil=>
  show(if k=2025 then some (qK dm)else if k=2028 then some (rU dm)else if k=2031 then some (rV dm)else if k=2304 then some (qB 2012 2309 2302 dm.s)else if k=2309 then some (hB dm.s)else if k=2302 then some (mB dm.s)else cM (dJ z st) k)=cM (dJ z dm) k;simp only[dJ,cS,gR];by_cases h1:k=2025
  ·subst h1;simp
  by_cases h2:k=2028
  ·subst h2;simp
  by_cases h3:k=2031
  ·subst h3;simp
  by_cases h4:k=2304
  ·subst h4;simp
  by_cases h5:k=2309
  ·subst h5;simp
  by_cases h6:k=2302
  ·subst h6;simp
  simp only[Zab h1,Zab h2,Zab h3,Zab h4,Zab h5,Zab h6]
 |cons a L ih=>
  obtain⟨r,o⟩:=a;have hr:=hL (r,o) (by simp);simp only at hr;have ih:=ih λq hq=>hL q (by simp[hq]);show(if k=2025 then some (qK dm)else if k=2028 then some (rU dm)else if k=2031 then some (rV dm)else if k=2304 then some (qB 2012 2309 2302 dm.s)else if k=2309 then some (hB dm.s)else if k=2302 then some (mB dm.s)else(if k=r then some o else cM (L++dJ z st) k))=if k=r then some o else cM (L++dJ z dm) k
  rw[<-ih];show _=if k=r then some o else(if k=2025 then some (qK dm)else if k=2028 then some (rU dm)else if k=2031 then some (rV dm)else if k=2304 then some (qB 2012 2309 2302 dm.s)else if k=2309 then some (hB dm.s)else if k=2302 then some (mB dm.s)else cM (L++dJ z st) k)
  (repeat' split)<;>first|rfl|omega
def obs_over(L:cV):cM L=aM L (λ_=>none):=by
 funext k;induction L with
 |nil=>rfl
 |cons a L ih=>
  obtain⟨r,o⟩:=a;simp only[cS,aP,ih]
def B2(z:eY)(st:dn){M:Nat}(hM:3000<=M){L:cV}(hL:∀q∈L,3000<=q.1/\q.1<M/\aZ q.2=[]):dh (cM (L++dJ z st)) M:=by
 have dP:=oC z st L (λq hq=>(hL q hq).1);have e:=obs_over (L++dJ z st);rw[e]at dP⊢;refine ll (N:=0) (λr o h=>by cases h) (ZbB _) λq hq=>?_;rcases Zaq.1 hq with hq|hq
 ·obtain⟨_,h2,h3⟩:=hL q hq;exact⟨h2,λm hm=>by rw[h3]at hm;cases hm⟩
 ·simp only[dJ,Zah,Zal,or_false]at hq;have h1:=dP.rb;have h2:=dP.rf;have h3:=dP.rh;have h4:=dP.q;have h5:=dP.hp;have h6:=dP.m;have h7:=dP.a;have h8:=dP.sp;simp only[Hx]at h1 h2 h3 h4 h5 h6 h7 h8;rcases hq with rfl|rfl|rfl|rfl|rfl|rfl|rfl|rfl
  ·refine⟨by simp only;omega,λm hm=>?_⟩;simp only[ma,Hx,aZ,bM,aN,ZaC,ZaG,Zah,Zal,or_false,ZaM]at hm;rcases hm with rfl|rfl|rfl|rfl
   ·rw[h1];simp
   ·rw[h2];simp
   ·rw[h3];simp
   ·rw[h4];simp
  ·exact⟨by simp only;omega,λm hm=>by simp[qK,aZ]at hm⟩
  ·exact⟨by simp only;omega,λm hm=>by simp[rU,aZ]at hm⟩
  ·exact⟨by simp only;omega,λm hm=>by simp[rV,aZ]at hm⟩
  ·refine⟨by simp only;omega,λm hm=>?_⟩;simp only[qB,aZ,bM,aN,ZaC,Zaq,Zah,Zal,or_false]at hm;rcases hm with rfl|rfl|rfl
   ·rw[h7];simp
   ·rw[h5];simp
   ·rw[h6];simp
  ·exact⟨by simp only;omega,λm hm=>by simp[hB,aZ]at hm⟩
  ·refine⟨by simp only;omega,λm hm=>?_⟩;exfalso;simp only[mB,aZ,ZaV,uO,Zak]at hm;obtain⟨e,⟨e',_,rfl⟩,hk⟩:=hm;simp[aN]at hk
  ·refine⟨by simp only;omega,λm hm=>?_⟩;simp only[aZ,bM,aN,ZaC,Zah,Zal,or_false]at hm;subst hm;rw[h8];simp
def vV(z:eY)(st:dn)(k:Nat):dn:=(z.n.au.take k).foldl (λst r=>(cD z r).foldl (iz z r) st) st
def Cj(z:eY)(st:dn)(k j:Nat):dn:=((cD z (z.n.au.getD k default)).take j).foldl (iz z (z.n.au.getD k default)) (vV z st k)
def Nv(r:di):(cD z r).length<=z.l.bE.length+((z.to-z.fr).toNat+1):=by
 have:=wu z;unfold cD;split
 ·split<;>simp;omega
 ·split
  ·have:=List.length_filterMap_le (tT z r) (List.range' (jn z) (tW z-jn z));rw[List.length_range']at this;omega
  ·split
   ·simp;omega
   ·split
    ·simp
    ·simp
def ini_ok(C:nl z.n z.l z.c z.fr.toNat z.to.toNat)(K:Kx z){k j:Nat}(hk:k<z.n.au.length):PI z (Cj z (gG z.n.an.toNat) k j)/\(Cj z (gG z.n.an.toNat) k j).s.clock<=700000000000:=by
 have Ql:z.n.au.getD k default∈z.n.au:=bm hk;obtain⟨r,hr⟩:=bb (z.n.au.getD k default);have e:Cj z (gG z.n.an.toNat) k j=(((z.n.au.take k).flatMap λr=>(cD z r).map λi=>((r,i):PR))++((cD z r).take j).map λi=>((r,i):PR)).foldl (λst (p:PR)=>iz z p.1 st p.2) (gG z.n.an.toNat):=by
  rw[ZaI,<-qq (λst (p:PR)=>iz z p.1 st p.2) (cD z),ZcC];unfold Cj vV;rw[hr]
 have hok:∀p∈((z.n.au.take k).flatMap λr=>(cD z r).map λi=>((r,i):PR))++((cD z r).take j).map λi=>((r,i):PR),NO z p:=by
  intro p hp;rcases Zaq.1 hp with hp|hp
  ·obtain⟨r',gD,hp⟩:=ZaV.1 hp;obtain⟨i,hi,rfl⟩:=Zak.1 hp;exact⟨ZaE gD,hi⟩
  ·obtain⟨i,hi,rfl⟩:=Zak.1 hp;rw[hr]at Ql;exact⟨Ql,ZaE hi⟩
 obtain⟨a1,_,_,a4⟩:=(U6 C K).L8 (λ_ h=>h) _ hok _ (PI0 K);rw[<-e]at a1 a4;refine⟨a1, ?_⟩;have l1:=zD (c:=1000001001) (f:=λr=>(cD z r).map λi=>((r,i):PR)) (z.n.au.take k) (λr hr=>by
  have:=Nv (z:=z) r;have:=K.hl.2.2.1;have:=C.tm;have:=K.ft;rw[Zbn];omega)
 have l2:=Nv (z:=z) r;have l3:=K.hn.2.2.1;have l4:=K.hl.2.2.1;have:=C.tm;have:=K.ft;rw[ZaK,Zbn,ZaB]at a4;rw[ZaB]at l1;have l5:1000001001*min k z.n.au.length<=1000001001*600:=Nat.mul_le_mul_left _ (by omega);have l6:(gG z.n.an.toNat).s.clock=0:=rfl;omega
def Hy{k:Nat}(hk:k<z.n.au.length):vV z st (k+1)=Cj z st k (cD z (z.n.au.getD k default)).length:=by
 unfold Cj vV;rw[cW hk,ZaI];simp only[ZaN,Zca,ZbM]
def W6{k j:Nat}{i:gf}(h:(cD z (z.n.au.getD k default))[j]? =some i):Cj z st k (j+1)=iz z (z.n.au.getD k default) (Cj z st k j) i:=by
 unfold Cj;rw[ZbO,h,ZaI];rfl
def ini_call(H:Run z){k:Nat}(hk:k<z.n.au.length){D:DV}(hD:FY D (z.n.au.getD k default)):
  aR aj 85 [.ptr 2033 0,D,.nG (.func 86) [.ptr 2012 0,.ptr 4104 0]] (cM ([(4104,dS (z.n.au.getD k default))]++dJ z (vV z (gG z.n.an.toNat) k)))
   ⟨True,.v (.eo []),cM ([(4104,dS (z.n.au.getD k default))]++dJ z (vV z (gG z.n.an.toNat) (k+1)))⟩:=by
 have Ql:z.n.au.getD k default∈z.n.au:=bm hk;have hini:=λj=>ini_ok H.C H.K (j:=j) hk;rw[Hy hk];have hsu:=λ{j i}=>W6 (z:=z) (st:=gG z.n.an.toNat) (k:=k) (j:=j) (i:=i);obtain⟨r,hr⟩:=bb (z.n.au.getD k default);have hro:=H.K.hn.2.2.2 r (by rw[<-hr];exact Ql);rw[hr]at hD Ql hsu⊢;have hL:∀q∈[((4104:Nat),dS r)],3000<=q.1:=by simp
 have e0:vV z (gG z.n.an.toNat) k=Cj z (gG z.n.an.toNat) k 0:=rfl;rw[e0];have vR:=H.K.ft;have ik:=H.C.tm;refine t57 (k:=Hx) (z:=z) (N:=5000) (r:=r) (bY:=[2012,4104]) (F:=λj=>cM ([(4104,dS r)]++dJ z (Cj z (gG z.n.an.toNat) k j))) (B:=λ_=>true) ⟨λj _=>⟨_,oC z _ _ hL⟩,λj _=>B2 z _ (by omega) (by simp[dS,aZ,bM,aN])⟩
  ⟨λj i hi _ N' Va=>?_,λj r' hj hn=>?_,λ_ _=>rfl,.inl rfl⟩ H.Kb.mono H.K.hl.2.2.1 (by omega) ⟨hro.2.2.1,hro.2.2.2.1⟩ H.K.hl.2.2.2 ?_ hD
 ·have hib:i∈cD z r:=Zax hi;obtain⟨m1,m2⟩:=hini j;have:=t58 (i:=i) (r:=r) (sB:=2012) (rB:=4104) Va (oC z (Cj z (gG z.n.an.toNat) k j) _ hL) (by simp[dJ]) (by simp) (A8 H.K H.cf m1.1.wf Ql hib) (λ_=>by
   have hh:0<=r.head/\r.head<z.n.an:=⟨hro.1,hro.2.1⟩;exact m1.1.wf.qb (by omega) (JW H.K m1.1.wf.bo Ql hib) (by have:=H.K.hn.2.1;omega) (by omega))
  rw[Nu z _ _ _ hL]at this;simp only at this;rw[<-hsu hi]at this;exact this
 ·simp only[dJ,ZaM,ZaG,cS,gR]at hn⊢;repeat' split at hn
  all_goals first|(cases hn;done)|skip
  simp[*]
 ·intro x hx;simp only[Zah,Zal,or_false]at hx;rcases hx with rfl|rfl
  ·exact⟨[.ptr 2033 0],by simp[dJ]⟩
  ·exact⟨_,by simp[dS];rfl⟩
end
section
variable{tm:dw}{aJ ba r:Nat}{A:cV}{z:eY}
def F0{z:eY}(H:Run z):∀{f:Nat} {st:dn},IV z st->py st<f->IV z (ip z f st)/\(ip z f st).s.heap=[]
 |0,_,_,h=>by omega
 |f+1,st,hI,h=>by
  by_cases bT:st.s.heap=[]
  ·simp only[ip,Zai bT];exact⟨hI,bT⟩
  ·rw[qr bT];obtain⟨a,b,_⟩:=A6 H.C H.K hI bT;exact F0 H a (by omega)
def CX{α:Type}(a b:α){n k:Nat}(h:k<n):(List.replicate k a++List.replicate (n-k) b).set k a=List.replicate (k+1) a++List.replicate (n-(k+1)) b:=by
 obtain⟨m,hm⟩:∃m,n-k=m+1:=⟨n-k-1,by omega⟩;rw[hm,show n-(k+1)=m by omega,ZbG _ _ (by simp),ZcN (n:=k)];simp[ZaY]
def pH(n k:Nat):dn:=⟨List.replicate k ⟨1099511627776,0⟩++List.replicate (n-k) ⟨0,0⟩,List.replicate n false,List.replicate k (-1)++List.replicate (n-k) 0,⟨[],0,[],0,0,0⟩⟩
def sttK_end(n:Nat):pH n n=gG n:=by simp[pH,gG]
def eO{ob nJ:bq}{low:Nat}{td:List (aK)}{l:fA}(e:ob=nJ)(h:∀r,ba<=r->nJ r=none)(hl:gn tm l):Le ⟨tm,ob,aJ,low,td⟩ ⟨DM.look l,nJ,ba,low,td⟩:=by
 subst e;exact Le.same h hl
def fE{L:cV}{M:Nat}(h:∀q∈L,q.1<M):∀r,M<=r->cM L r=none:=by
 induction L with
 |nil=>intro r _;rfl
 |cons a L ih=>
  intro r hr;obtain⟨j,o⟩:=a;have:=h (j,o) (by simp);simp only at this;rw[cS,Zab (by omega)];exact ih (λq hq=>h q (by simp[hq])) r hr
def jZ(z:eY)(st:dn):∀q∈dJ z st,2000<=q.1/\q.1<3000:=by
 intro q hq;simp only[dJ,Zah,Zal,or_false]at hq;rcases hq with rfl|rfl|rfl|rfl|rfl|rfl|rfl|rfl<;>simp only[]<;>omega
def qk{B:cV}{o:Ob}(h:cM (A++B) r=some o):(r,o)∈A\/((∀q∈A,q.1≠r)/\cM B r=some o):=by
 induction A with
 |nil=>exact .inr ⟨λq hq=>(by cases hq),h⟩
 |cons a A ih=>
  obtain⟨j,x⟩:=a;rw[ZaM,cS]at h;by_cases e:r=j
  ·rw[Zai e]at h;cases h;subst e;exact .inl (by simp)
  ·rw[Zab e]at h;rcases ih h with h|⟨h1,h2⟩
   ·exact .inl (by simp[h])
   ·exact .inr ⟨λq hq=>by
     rcases Zah.1 hq with rfl|hq
     ·exact λe2=>e e2.symm
     ·exact h1 q hq,h2⟩
def MI{B:cV}(h:∀q∈A,q.1≠r):cM (A++B) r=cM B r:=by
 induction A with
 |nil=>rfl
 |cons a A ih=>
  obtain⟨j,x⟩:=a;have:=h (j,x) (by simp);simp only at this;rw[ZaM,cS,Zab (λe=>this e.symm)];exact ih λq hq=>h q (by simp[hq])
def le_sp{st:dn}{L L':cV}{l:fA}(hL:∀q∈L,3000<=q.1)(hL':∀q∈L',3000<=q.1/\q.1<ba)(hn:3000<=ba)
  (gH:uC (cM (L++dJ z st)) (cM (L'++dJ z st)) id L') (ik:fR (cM (L++dJ z st)) (cM (L'++dJ z st)) id tm l):
  Le ⟨tm,cM (L++dJ z st),aJ,1000,[]⟩ ⟨DM.look l,cM (L'++dJ z st),ba,1000,[]⟩:=by
 have aT:=B2 z st (Zaf 3000) (L:=[]) (λq hq=>by cases hq);simp only[ZaG]at aT;have low:∀{A:cV},(∀q∈A,3000<=q.1)->∀r,r<3000->cM (A++dJ z st) r=cM (dJ z st) r:=λhA r hr=>MI λq hq e=>by have:=hA q hq;omega
 have hLs:∀q∈L',3000<=q.1:=λq hq=>(hL' q hq).1;refine Le.YG rfl rfl ?_ (λr o h=>?_) (λr hr o h=>?_) (λk=>nk l ik k)
 ·refine fE λq hq=>?_;rcases Zaq.1 hq with hq|hq
  ·exact(hL' q hq).2
  ·have:=jZ z st q hq;simp only;omega
 ·rcases qk h with h|⟨_,h⟩
  ·obtain⟨o0,h1,h2⟩:=sx gH r o h;exact⟨o0,h1,.inl h2⟩
  ·have hr:=(aT r o h).1;refine⟨o,(low hL r hr).trans h,.inr ⟨rfl,λm hm=>?_⟩⟩;have NX:=(aT r o h).2 m hm;cases CV:cM (dJ z st) m with
   |none=>exact Zar CV NX
   |some o'=>exact⟨o',o',(low hL m (aT m o' CV).1).trans CV,(low hLs m (aT m o' CV).1).trans CV,be _⟩
 ·exfalso;simp only at h hr;rcases qk h with h|⟨_,h⟩
  ·have:=hL _ h;simp only at this;omega
  ·have hm:=jS h;have:=jZ z st _ hm;simp only at this;omega
def spP(z:eY):bB:=[.v (ti z.n.aL),.v (ti z.n.an),.v (ti z.n.start),.v (.sl (aU z.n.au)),.v (ti z.l.bn),.v (.sl (j7 z.l.bE)),.v (.sl (aG z.l.uH)),.v (ti z.c.an),.v (ti z.c.bn),.v (.sl (cu z.c.cells)),.v (ti z.fr),.v (ti z.to),.bA 2025 0,.bA 2028 0,.bA 2031 0,.v (.mg (Go.Value.pointer Option.none))]
def u4(z:eY)(n:Nat):cV:=[(2012,.box [.ptr 2033 0]),(2033,.box (spP z)),(2031,rV (pH n 0)),(2028,rU (pH n 0)),(2025,qK (pH n 0))]
def t35(H:Run z):oW aj 52 [z.n.enc,z.l.enc,z.c.enc,ti z.fr,ti z.to] 65 4 (cu (mm z.n z.l z.c z.fr z.to)):=by
 have hst0:=init_iv H.C H.K;obtain⟨s0,hs0⟩:=bb (BZ z (gG z.n.an.toNat));rw[hs0]at hst0;have Xn:=H.K.hn;have hck0:s0.s.clock<=700000000000:=by
  by_cases e:z.n.au.length=0
  ·have:z.n.au=[]:=ZaD e;rw[<-hs0];simp[BZ,this,gG]
  ·have h1:=(ini_ok H.C H.K (k:=z.n.au.length-1) (j:=(cD z (z.n.au.getD (z.n.au.length-1) default)).length) (by omega)).2;rw[<-Hy (by omega),show z.n.au.length-1+1=z.n.au.length by omega]at h1;have:vV z (gG z.n.an.toNat) z.n.au.length=BZ z (gG z.n.an.toNat):=by unfold vV BZ;rw[ZbM]
   rw[this,hs0]at h1;exact h1
 have Ww:py s0<=z.n.an.toNat:=by
  unfold py;have:=hst0.1.1.wf.lf;have:=List.count_le_length (a:=false) (l:=s0.bZ);omega
 obtain⟨hI,Av⟩:=F0 H (f:=py s0+1) hst0.1 (by omega);obtain⟨s9,hs9⟩:=bb (ip z (py s0+1) s0);have Wk:1<=z.n.an:=Xn.1;have hn2:z.n.an<=1000:=Xn.2.1;have h62:=t62 (p:=2033) (k0:=Hx) (N:=5000) (f0:=cM (dJ z s0)) H (fE λq hq=>by have:=jZ z s0 q hq;omega) (oC z s0 [] (λq hq=>by cases hq)) hst0.1 (by omega);have oV:=Nu z s0 (ip z (py s0+1) s0) [] (λq hq=>by cases hq);simp only[ZaG]at oV;rw[oV,hs9]at h62;rw[hs9]at hI Av;have hspan:=Qf H.C H.K H.Kb hI Av;rw[<-hspan];have h63:=λ(h:Nat) (hh:h<z.n.an.toNat) (L:cV) (hL:∀q∈L,3000<=q.1) (N:Nat) (hN:∀r,N<=r->cM (L++dJ z s9) r=none)=>t63 (p:=2033) H hN (oC z s9 L hL) hI.1.wf hh;have z8:z.n.au.length<=600:=Xn.2.2.1;obtain⟨nn,hnn2⟩:=Zae (a:=z.n.an) (by omega);have hnt:z.n.an.toNat=nn:=by omega
 rw[hnt]at h63 hs0;refine c35.okF (by simp) (aO ?_);simp[aD.enc,aV.enc,d6.enc];apply aa.ag cF fw [3,4,5,6,7,10];simp[d35r0];refine aa.le (Le.bi (o:=[]) (l:=[(3,.v (ti z.fr)),(4,.v (ti z.to)),(5,.v (.box [ti z.n.aL,ti z.n.an,ti z.n.start,.sl (aU z.n.au)])),(6,.v (.box [ti z.l.bn,.sl (j7 z.l.bE),.sl (aG z.l.uH)])),(7,.v (.box [ti z.c.an,ti z.c.bn,.sl (cu z.c.cells)])),(10,.aW)]) (ba:=2000) ?_ ?_ ?_ ?_) ?_;iterate 4(·simp)
 apply aa.ag cF fw [5,11];simp[d35r1,Zba,dK];repeat (refine⟨by omega, ?_⟩)
 have XF:z.n.an.toNat=nn:=hnt;have sl5:∀n1:Nat,∀x,List.replicate n1 [T.int .i64 x]=aG (List.replicate n1 x):=λn1 x=>by simp[aG]
 refine aa.le (eO (nJ:=cM (u4 z nn)) (l:=[(5,.v (.box [ti z.n.aL,ti z.n.an,ti z.n.start,.sl (aU z.n.au)])),(11,.ptr 2012 0)]) (ba:=2200) ?_ ?_ ?_) ?_
 ·funext q;simp only[u4,spP,cS,gR,rV,rU,qK,pH,XF,aG,g8,bC,Zcg,ZaG,List.map_replicate,Zcb]
  (repeat' split)<;>first|rfl|omega
 ·exact fE (by simp[u4])
 ·simp
 have KH:∀{tm:dw} {ob:bq},ob=aM ((2033,.box (ma Hx z))::nA 2012 2289) (cM (u4 z nn))->gn tm [(5,.v (.box [ti z.n.aL,ti z.n.an,ti z.n.start,.sl (aU z.n.au)])),(11,.ptr 2012 0)]->
   Le ⟨tm,ob,2309,1000,[]⟩ ⟨DM.look [(5,.v (.box [ti z.n.aL,ti z.n.an,ti z.n.start,.sl (aU z.n.au)])),(11,.ptr 2012 0)],cM (dJ z (pH nn 0)),3000,1000,[]⟩:=by
  intro tm ob e ik;subst e;refine Le.trans (Le.Cx 2304 1 220 (sz:=3) (cs:=[.nG (.func 83) [.ptr 2012 0],.aW,.iE 2302,.v (ti 0),.v (ti 0)]) (by omega) (by simp[nA]) rfl) (eO ?_ (fE λq hq=>(jZ z _ q hq).2) ik);funext q;show(if q=2304 then _ else if q=2309 then _ else _)=_;simp only[nA,u4,dJ,cS,gR,aP,cm];by_cases h1:q=2304
  ·subst h1;rfl
  by_cases h2:q=2309
  ·subst h2;rfl
  by_cases h3:q=2033
  ·subst h3;rfl
  by_cases h4:q=2302
  ·subst h4;rfl
  by_cases h5:q=2012
  ·subst h5;rfl
  by_cases h6:q=2031
  ·subst h6;rfl
  by_cases h7:q=2028
  ·subst h7;rfl
  by_cases h8:q=2025
  ·subst h8;rfl
  simp[h1,h2,h3,h4,h5,h6,h7,h8]
 refine aa.seq (aa.to ⟨DM.look [(5,.v (.box [ti z.n.aL,ti z.n.an,ti z.n.start,.sl (aU z.n.au)])),(11,.ptr 2012 0)],cM (dJ z (pH nn 0)),3000,1000,[]⟩ (aa.regI cF fw (rs:=Rk) rfl (by kernel_rfl) [5,11] 2309 (λD s=>s.todo=[]/\(D 2=false->s.ab=cM (u4 z nn))/\(D 2=true->D 5=false->s.ab=aM (nA 2012 2289) (cM (u4 z nn)))/\(D 5=true->s.ab=aM ((2033,.box (ma Hx z))::nA 2012 2289) (cM (u4 z nn)))/\
  s.tmps 5=.v (.box [ti z.n.aL,ti z.n.an,ti z.n.start,.sl (aU z.n.au)])/\s.tmps 11=.ptr 2012 0/\(D 0=true->s.tmps 33=.ptr 2033 0)/\(D 1=true->s.tmps 34=.nG (.func 83) [.ptr 2012 0])/\(D 2=true->s.tmps 35=.ptr 2304 0)/\(D 3=true->s.tmps 36=.ptr 2033 0)/\(D 4=true->s.tmps 37=.ptr 2033 15)) ?_ ?_ ?_ rfl) ?_)
 ·intro h;simp
 ·rintro D i r ⟨tm,ob,td⟩ hr hi ha aT ⟨rfl,i1,i2,i3,i4,i5,i6,i7,i8,i9,i10⟩;simp only at i1 i2 i3 i4 i5 i6 i7 i8 i9 i10;have gH:ob=cM (u4 z nn)\/ob=aM (nA 2012 2289) (cM (u4 z nn))\/ob=aM ((2033,.box (ma Hx z))::nA 2012 2289) (cM (u4 z nn)):=by
   cases h2:D 2 with
   |false=>exact .inl (i1 h2)
   |true=>
    cases h5:D 5 with
    |false=>exact .inr (.inl (i2 h2 h5))
    |true=>exact .inr (.inr (i3 h5))
  have rQ:∀k,2200<=k->k<=2250->ob k=none:=λk h1 h2=>by
   have e:∀m,(m<2200\/2250<m)->k≠m:=λm h=>by omega
   rcases gH with h|h|h<;>(rw[h];simp[nA,u4,aP,cS,e])
  have hq:ob 2012=some (.box [.ptr 2033 0]):=by rcases gH with h|h|h<;>(rw[h];simp[nA,u4,aP,cS])
  have h50:∀i,i<5->D i=false->D 5=false:=λi h1 h2=>by
   cases h:D 5 with
   |false=>rfl
   |true=>
    exfalso;have k4:=aT 5 _ rfl h 4 (by simp);have k:=λm hm=>aT 4 _ rfl k4 m hm;simp at k;have:i=0\/i=1\/i=2\/i=3\/i=4:=by omega
    rcases this with rfl|rfl|rfl|rfl|rfl<;>simp_all
  rcases i with _|_|_|_|_|_|i;all_goals simp only[Rk,ZaF,Zbb,List.getElem?_nil,Zaa,reduceCtorEq]at hr
  all_goals subst hr
  ·refine .of (rQ _ (by simp[nm,bN]) (by simp[nm,bN])) ?_;simp[i5,hq,K6];exact⟨i1,i2,i3,i4,i7,i8,i9,i10⟩
  ·refine .of (rQ _ (by simp[nm,bN]) (by simp[nm,bN])) ?_;simp[i5,K6];exact⟨i1,i2,i3,i4,i6,i8,i9,i10⟩
  ·have h5:=h50 2 (by omega) hi;have h1:=i1 hi;subst h1;have e:=i7 (ha 1 (by simp));refine .inr ⟨_,_,_,_,2289,2309,λval nJ=>val=.ptr (2289+15) 0/\nJ=aM (nA 2012 2289) (cM (u4 z nn)),rfl, ?_, ?_⟩
   ·simp only[ZaA,ZbL,bQ.ev,e];exact t54 (cs:=[.ptr 2033 0]) (fE (by simp[u4])) hq
   rintro val nJ ⟨rfl,rfl⟩;simp[K6,h5,i4,i5];exact⟨i6,i7,i9,i10⟩
  ·refine .of (rQ _ (by simp[nm,bN]) (by simp[nm,bN])) ?_;simp[i6 (ha 0 (by simp)),K6];exact⟨i1,i2,i3,i4,i5,i7,i8,i10⟩
  ·refine .of (rQ _ (by simp[nm,bN]) (by simp[nm,bN])) ?_;simp[i9 (ha 3 (by simp)),K6];exact⟨i1,i2,i3,i4,i5,i6,i7,i8⟩
  ·have h2:=ha 2 (by simp);have h1:=i2 h2 hi;subst h1;refine .of (show _ from rQ 2200 (by omega) (by omega)) ?_;simp[i10 (ha 4 (by simp)),i8 h2,K6,nA,u4,aP,cS,spP,h2,i4,i5];exact⟨rfl,i6,i7,i9⟩
 ·rintro D ⟨tm,ob,td⟩ hD ⟨rfl,i1,i2,i3,i4,i5,i6,i7,i8,i9,i10⟩;have h5:=i3 (hD 5 (by simp[Rk]));simp only at h5 i4 i5;subst h5;refine⟨λq hq=>?_,rfl,KH rfl ?_⟩
  ·have e:∀m,m<2309->q≠m:=λm h=>by omega
   simp[nA,u4,aP,cS,e]
  ·simp[nR,i4,i5]
 obtain⟨RT,hRT⟩:=bb (T.box [ti z.n.aL,ti z.n.an,ti z.n.start,.sl (aU z.n.au)]:T);have ek:=λk=>oC z (pH nn k) [] (λq hq=>by cases hq);have e1:=λk=>(ek k).sp;have e2:=λk=>(ek k).rb;have e3:=λk=>(ek k).rh;have e4:=λk=>(ek k).a;simp only[ZaG,ma,Hx]at e1;simp only[ZaG,qK,Hx]at e2;simp only[ZaG,rV,Hx]at e3;simp only[ZaG,Hx]at e4;have lenB:∀k,k<=nn->(pH nn k).ak.length=nn:=λk hk=>by simp[pH];omega
 have lenH:∀k,k<=nn->(pH nn k).fl.length=nn:=λk hk=>by simp[pH];omega
 apply aa.seq;apply aa.ag cF fw [5,11,42,43];simp[d35r3,e1,e2,e4,lenB 0 (by omega)];apply aa.block;refine aa.loop (λk:Nat=>⟨DM.look [(5,.v (.box [ti z.n.aL,ti z.n.an,ti z.n.start,.sl (aU z.n.au)])),(11,.ptr 2012 0),(42,.v (ti nn)),(43,.v (ti k))],cM (dJ z (pH nn k)),3500,1000,[]⟩)
  (λk=>k<=nn) (λk=>nn-k) 0 (Le.same (fE λq hq=>by have:=jZ z _ q hq;omega) (by simp[gn])) (by omega) (λk hk=>?_)
 apply aa.ag cF fw [5,11,42,43,44];simp[d35r4];apply aa.seq;refine aa.cond rfl (λg=>?_) (λg=>?_)
 ·have g:k<nn:=by simpa using g
  apply aa.skip;simp;apply aa.seq;apply aa.block;apply aa.ag cF fw [5,11,42,43,12];simp[d35r5];apply aa.ag cF fw [5,11,42,43,12];have rb:=dd (l:=(pH nn k).ak) (y:=k) (by rw[lenB k hk];exact g);have rh:=cE (l:=(pH nn k).fl) (y:=k) (by rw[lenH k hk];exact g);simp[d35r6,e1,e2,e4,lenB k hk,g,rb];have e5:∀(q:Ob),cM ((2025,q)::dJ z (pH nn k)) 2012=some (.box [.ptr 2033 0]):=λq=>by rw[cS,Zab (by omega)];exact e4 k
  apply aa.fK cF fw [5,11,42,43];simp[d35r7,e1,e3,e4,lenH k hk,g,rh];apply aa.fK cF fw [5,11,42,43];simp[d35r8];rw[aF (x:=(k:Int)+1) (by omega)];refine⟨k+1,eO ?_ (fE λq hq=>by have:=jZ z _ q hq;omega) (by simp),by omega,by omega⟩;funext q;have v1:(bC (pH nn k).ak).set k [T.int .i64 1099511627776,T.int .i64 0]=bC (pH nn (k+1)).ak:=by
   rw[show [T.int .i64 1099511627776,T.int .i64 0]=[ti (⟨1099511627776,0⟩:c8).aH,ti (⟨1099511627776,0⟩:c8).size]from rfl,<-jh];simp only[pH,CX _ _ g]
  have v2:(aG (pH nn k).fl).set k [T.int .i64 (-1)]=aG (pH nn (k+1)).fl:=by
   rw[<-la];simp only[pH,CX _ _ g]
  rw[v1,v2];simp only[dJ,cS,gR];by_cases h1:q=2025
  ·subst h1;rfl
  by_cases h2:q=2031
  ·subst h2;rfl
  simp only[Zab h1,Zab h2];rfl
 ·have g:k=nn:=by
   have:¬k<nn:=by simpa using g
   omega
  subst g;rw[sttK_end];apply aa.exit;simp;have ek:=λk'=>oC z (vV z (gG k) k') [] (λq hq=>by cases hq);have e1:=λk'=>(ek k').sp;have e4:=λk'=>(ek k').a;simp only[ZaG,ma,Hx]at e1;simp only[ZaG,Hx]at e4;apply aa.seq;apply aa.ag cF fw [5,11,62,63,64];simp[d35r9];apply aa.block;refine aa.loop (λy:Nat=>⟨DM.look [(5,.v (.box [ti z.n.aL,ti z.n.an,ti z.n.start,.sl (aU z.n.au)])),(11,.ptr 2012 0),(62,.v (.sl (aU z.n.au))),(63,.v (ti z.n.au.length)),(64,.v (ti y))],cM (dJ z (vV z (gG k) y)),4000,1000,[]⟩)
   (λy=>y<=z.n.au.length) (λy=>z.n.au.length-y) 0 (Le.same (fE λq hq=>by have:=jZ z _ q hq;omega) (by simp[gn])) (by omega) (λy hy=>?_)
  apply aa.ag cF fw [5,11,62,63,64,65];simp[aah];apply aa.seq;refine aa.cond rfl (λg=>?_) (λg=>?_)
  ·have g:y<z.n.au.length:=by simpa using g
   apply aa.skip;simp;apply aa.seq;apply aa.block;have rk:=kZ g;have hic:=λD hD=>ini_call H g (D:=D) hD;rw[XF]at hic;obtain⟨⟨Vc,rh,ra,rb,rp,ro⟩,hr⟩:=bb (z.n.au.getD y default);rw[hr]at rk hic;simp only[di.enc]at rk;apply aa.ag cF fw [5,11,62,63,64,14];simp[aai,g,rk];have eU:∀(o o':Ob) (L:cV),cM ((4104,o)::(4104,o')::L)=cM ((4104,o)::L):=λo o' L=>by
    funext q;simp only[cS];split<;>rfl
   rw[eU];have rQ:∀r',cM ([(4104,dS ⟨Vc,rh,ra,rb,rp,ro⟩)]++dJ z (vV z (gG k) y)) r'=none->cM ([(4104,dS ⟨Vc,rh,ra,rb,rp,ro⟩)]++dJ z (vV z (gG k) (y+1))) r'=none:=by
    intro r' gD;simp only[dJ,ZaM,ZaG,cS,gR]at gD⊢;repeat' split at gD
    all_goals first|(cases gD;done)|skip
    simp[*]
   have aC:=Hd ay.nil (λN' _=>hic _ (Qh _)) rQ;have q1:cM ((4104,Ob.box [.v (ti Vc),.v (ti rh),.v (ti ra),.v (ti rb),.v (ti rp),.v (ti ro)])::dJ z (vV z (gG k) y)) 2012=some (.box [.ptr 2033 0]):=by rw[cS,Zab (by omega)];exact e4 y
   apply aa.Iq aC fw (rs:=IG) rfl (by kernel_rfl) [5,11,62,63,64];simp[IG,q1,dS];refine aa.le (le_sp (L:=[_]) (L':=[]) (l:=[(5,.v (.box [ti z.n.aL,ti z.n.an,ti z.n.start,.sl (aU z.n.au)])),(11,.ptr 2012 0),(62,.v (.sl (aU z.n.au))),(63,.v (ti z.n.au.length)),(64,.v (ti y))]) (ba:=4500) (by simp) (by simp) (by omega) trivial ?_) ?_
   ·simp[e4]
   simp;apply aa.fK cF fw [5,11,62,63,64];simp[aaj];rw[aF (x:=(y:Int)+1) (by omega)];exact⟨y+1,eO rfl (fE λq hq=>by have:=jZ z _ q hq;omega) (by simp),by omega,by omega⟩
  ·have g:y=z.n.au.length:=by
    have:¬y<z.n.au.length:=by simpa using g
    omega
   subst g;have e0:vV z (gG k) z.n.au.length=s0:=by rw[<-hs0];unfold vV BZ;rw[ZbM]
   rw[e0];apply aa.exit;simp;have e4:=(oC z s0 [] (λq hq=>by cases hq)).a;simp only[ZaG,Hx]at e4;have rQ:∀r',cM (dJ z s0) r'=none->cM (dJ z s9) r'=none:=by
    intro r' gD;simp only[dJ,cS,gR]at gD⊢;repeat' split at gD
    all_goals first|(cases gD;done)|skip
    simp[*]
   have aC:=Hd ay.nil (λN' _=>h62) rQ;apply aa.cX aC fw (rs:=IH) rfl (by kernel_rfl) [5,11];simp[IH,e4];apply aa.ag cF fw [5,11,15];simp[aak];refine aa.le (eO rfl (l:=[(5,.v (.box [ti z.n.aL,ti z.n.an,ti z.n.start,.sl (aU z.n.au)])),(11,.ptr 2012 0),(15,.aW)]) (ba:=5000) (fE λq hq=>by have:=jZ z _ q hq;omega) (by simp)) ?_;refine aa.le (Le.vr (k:=15) 65 (sz:=4) (by omega) (by simp)) ?_;rw[ky];apply aa.seq;apply aa.ag cF fw [11,15,76,77];simp[aal];apply aa.block;obtain⟨own,iu⟩:=bb (pG z s9.ak);have hol:own.length=k:=by rw[<-iu,C1,XF]
   have hog:∀y,y<k->own.getD y default=iQ z s9.ak y:=λy hy=>by rw[<-iu];simp[pG,List.getD,XF,hy]
   have dP:=λ(o:Ob)=>(oC z s9 [(5000,o)] (by simp)).a;simp only[ZaM,ZaG,Hx]at dP;rw[iu];refine aa.loop (λy:Nat=>⟨DM.look [(11,.ptr 2012 0),(15,.bA 5000 0),(76,.v (ti k)),(77,.v (ti y))],cM ([(5000,.arr 0 65 4 (cu (own.take y)))]++dJ z s9),6000,1000,[]⟩)
    (λy=>y<=k) (λy=>k-y) 0 (le_sp (L:=[_]) (by simp) (by simp) (by omega) ?_ ?_) (by omega) (λy hy=>?_)
   ·simp[cu]
   ·simp[dP,hnn2]
   apply aa.ag cF fw [11,15,76,77,78];simp[aam];apply aa.seq;refine aa.cond rfl (λg=>?_) (λg=>?_)
   ·have g:y<k:=by simpa using g
    have hg:=hog y g;have h63':=λN hN=>h63 y g [(5000,.arr 0 65 4 (cu (own.take y)))] (by simp) N hN;rw[<-hg]at h63';have tk:own.take (y+1)=own.take y++[own.getD y default]:=cW (by omega);obtain⟨cx,X5⟩:=bb (own.getD y default);rw[X5]at h63' tk;apply aa.skip;simp;apply aa.seq;apply aa.block;apply aa.ag cF fw [11,15,16,76,77];simp[aan];have aC:=Hd ay.nil h63' (λr h=>h);apply aa.Iq aC fw (rs:=II) rfl (by kernel_rfl) [11,15,76,77];simp[II,dP,dK,fU,Cell.enc];refine⟨by omega, ?_⟩;apply aa.fK cF fw [11,15,76,77];simp[aao];rw[aF (x:=(y:Int)+1) (by omega)];refine⟨y+1,le_sp (L:=[_,_]) (L':=[_]) (by simp) (by simp) (by omega) ?_ ?_,by omega,by omega⟩
    ·simp[tk,cu,Cell.enc]
    ·simp[dP]
   ·have g:y=k:=by
     have:¬y<k:=by simpa using g
     omega
    subst g;apply aa.exit;simp;apply aa.ag cF fw [10];simp[aap];apply aa.ret;exact .inr ⟨5000,0,by simp,by simp[<-hol]⟩
end
section
variable{nn h h':Int}
def Mh{p p':Int}(a1:0<=h)(a2:h<nn)(b1:0<=h')(b2:h'<nn)(e:p*nn+h=p'*nn+h'):p=p'/\h=h':=by
 have key:∀{p p' h h':Int},0<=h->h<nn->0<=h'->h'<nn->p*nn+h=p'*nn+h'->¬p<p':=by
  intro p p' h h' a1 a2 b1 b2 e hlt;have h1:(p+1)*nn<=p'*nn:=Zck (by omega) (by omega);have h2:(p+1)*nn=p*nn+nn:=by grind
  omega
 have h1:=key a1 a2 b1 b2 e;have h2:=key b1 b2 a1 a2 e.symm;have:p=p':=by omega
 subst this;exact⟨rfl,by omega⟩
def V3{st:Int}{s t s' t':Nat}(a1:0<=h)(a2:h<nn)(b1:0<=h')(b2:h'<nn)(c1:s<=t)(c2:(t:Int)<st)(d1:s'<=t')(d2:(t':Int)<st)
  (e:ef nn st s t+h=ef nn st s' t'+h'):s=s'/\t=t'/\h=h':=by
 unfold ef at e;obtain⟨e1,e2⟩:=Mh a1 a2 b1 b2 e;have key:∀{s t s' t':Nat},s<=t->(t:Int)<st->s'<=t'->(t':Int)<st->pre st s+t-s=pre st s'+t'-s'->¬s<s':=by
  intro s t s' t' c1 c2 d1 d2 e hlt;have:=Fe (st:=st) (f:=s+1) (k:=s') (by omega) (by omega);simp only[pre]at this;omega
 have h1:=key c1 c2 d1 d2 e1;have h2:=key d1 d2 c1 c2 e1.symm;have:s=s':=by omega
 subst this;exact⟨rfl,by omega,e2⟩
def aaz(cells own:eV)(AF y:Nat)(hl:AF+y<=cells.length)(i:Nat)(d:Cell):(tE cells own AF y).getD i d=if AF<=i/\i<AF+y then own.getD (i-AF) default else cells.getD i d:=by
 induction y with
 |zero=>simp only[tE,Zda,Zca];rw[Zab (by omega)]
 |succ y ih=>
  rw[vD];have ih:=ih (by omega);by_cases e:i=AF+y
  ·subst e;rw[Zai (by omega),show AF+y-AF=y by omega];simp only[List.getD,ZbC,Mi];rw[Zai trivial,Zai (by omega)];rfl
  ·have:((tE cells own AF y).set (AF+y) (own.getD y default)).getD i d=(tE cells own AF y).getD i d:=by
    simp only[List.getD,ZbC];rw[Zab (λx=>e x.symm)]
   rw[this,ih];by_cases h:AF<=i/\i<AF+y
   ·rw[Zai h,Zai (by omega)]
   ·rw[Zab h,Zab (by omega)]
section
variable{n:aD}{l:aV}
def aaA{c:d6}{s t:Nat}(h0:0<=h)(h1:h<c.an)(c1:s<=t)(c2:(t:Int)<c.bn):NJ c h s t=c.cells.getD (ef c.an c.bn s t+h).toNat lP:=by
 unfold NJ;rw[Zab (by omega)];simp
def Mj(n:aD)(l:aV)(cells:eV)(len f:Nat):Prop:=
 ∀(h:Int) (s t:Nat),0<=h->h<n.an->s<=t->(t:Int)<l.bn->(t-s<len\/(t-s=len/\s<f))->Good n l h s t (NJ ⟨n.an,l.bn,cells⟩ h s t)
def V4(hn:AD n)(hl:F7 l)(ha:∀a∈l.bE,a.f<=a.t){cells:eV}{len f:Nat}(hc:kG n l cells)(hf:((f+len:Nat):Int)<l.bn)(hd:Mj n l cells len f):Mj n l (Ff n l len cells f) len (f+1):=by
 have h1:=hn.1;have h2:=hn.2.1;have h3:=hl.1;have h4:=hl.2.1;have C:nl n l ⟨n.an,l.bn,cells⟩ f (f+len):=⟨hn,hl,hc.ok hn hl,ha,by omega,by omega,λh s' t' a1 a2 a3 a4 a5 a6=>hd h s' t' a1 a2 a4 (by omega) (by omega)⟩;have hg:=G4 C;have iu:=Mk hn hl C.hc C.st C.tm;rw[show((f+len:Nat):Int)=(f:Int)+len by omega]at hg iu;obtain⟨own,ho⟩:=bb (mm n l ⟨n.an,l.bn,cells⟩ f ((f:Int)+len));rw[ho]at hg iu;have hib:=sM (n:=n.an) (st:=l.bn) (f:=f) (t:=f+len) (by omega) h2 h4 (by omega) (by omega) (by omega);have hlt:=Fg (nn:=n.an) (st:=l.bn) (f:=f) (t:=f+len) (by omega) (by omega) (by omega) (i:=n.an-1) (by omega);have aT:=hc.1;intro h s t a1 a2 a3 a4 a5;unfold Ff;rw[ho,aaA a1 a2 a3 a4];simp only;have hsb:=sM (n:=n.an) (st:=l.bn) (f:=s) (t:=t) (by omega) h2 h4 (by omega) (by omega) (by omega);rw[aaz _ _ _ _ (by omega)];split
 ·rename_i e;have hx:ef n.an l.bn s t+h=ef n.an l.bn f (f+len)+(((ef n.an l.bn s t+h).toNat-(ef n.an l.bn f (f+len)).toNat:Nat):Int):=by omega
  obtain⟨e1,e2,e3⟩:=V3 a1 a2 (by omega) (by omega) a3 a4 (by omega) (by omega) hx;subst e1 e2;obtain⟨h,rfl⟩:=Zae a1;have e4:(ef n.an l.bn s (s+len)+(h:Int)).toNat-(ef n.an l.bn s (s+len)).toNat=h:=by omega
  rw[e4];exact hg h a2
 ·rename_i e;have bT:¬(s=f/\t=f+len):=by
   rintro⟨rfl,rfl⟩;omega
  have:=hd h s t a1 a2 a3 a4 (by omega);rw[aaA a1 a2 a3 a4]at this;exact this
def Fh(hn:AD n)(hl:F7 l)(ha:∀a∈l.bE,a.f<=a.t){cells:eV}{len:Nat}(hc:kG n l cells)(hd:Mj n l cells len 0):∀k,((k+len:Nat):Int)<=l.bn->Mj n l ((List.range k).foldl (Ff n l len) cells) len k
 |0,_=>hd
 |k+1,hk=>by
  rw[ZaR,ZaI];have h4:=hl.2.1;exact V4 hn hl ha (CN hn hl hc k (by omega)) (by omega) (Fh hn hl ha hc hd k (by omega))
def V5(hn:AD n)(hl:F7 l)(ha:∀a∈l.bE,a.f<=a.t):∀k:Nat,(k:Int)<=l.bn->Mj n l ((List.range k).foldl (aaB n l) (List.replicate (lR n.an l.bn).toNat ⟨0,0,0,0⟩)) k 0:=by
 intro k;induction k with
 |zero=>
  intro _ h s t a1 a2 a3 a4 a5;omega
 |succ k ih=>
  intro hk;rw[ZaR,ZaI];have h4:=hl.2.1;have:=Fh hn hl ha (Ml hn hl k (by omega)) (ih (by omega)) (l.bn.toNat-k) (by omega);intro h s t a1 a2 a3 a4 a5;exact this h s t a1 a2 a3 a4 (by omega)
end
end
namespace Kn
section
variable{f:bq}
structure kh where
 (x:Int) (v:c8) (h t:Int)
 deriving DecidableEq,Inhabited
def kh.enc(e:kh):aK:=[ti e.x,ti e.v.aH,ti e.v.size,ti e.h,ti e.t]
def dF(l:List kh):List (aK):=l.map kh.enc
def xj:aK->kh
 |[a,c,s,b,d]=>⟨dH a,⟨dH c,dH s⟩,dH b,dH d⟩
 |_=>default
@[simp] def xk(e:kh):xj e.enc=e:=by simp[xj,kh.enc,dH]
@[simp] def vI{a b:List kh}:dF a=dF b↔a=b:=⟨λh=>by
 have:=congrArg (List.map xj) h;simpa [dF,gq xk]using this,λh=>by rw[h]⟩
@[simp] def Wn(l:List kh):(dF l).length=l.length:=by simp[dF]
def dG{l:List kh}{y:Nat}(h:y<l.length):DM.rowAt (dF l) y=(l.getD y default).enc:=by simp[DM.rowAt,dF,h]
def lg(l:List kh)(i:Nat)(e:kh):dF (l.set i e)=(dF l).set i e.enc:=by simp[dF,Zcd]
def sS(a b:List kh):dF (a++b)=dF a++dF b:=by simp[dF]
def xl(a:List kh)(n:Nat):(dF a).take n=dF (a.take n):=by simp[dF,List.map_take]
structure Qs where
 heap:List kh
 bD:Nat
 es:Pl
 mc:Nat
 (next clock:Int)
def qB(hp m:Nat)(s:Qs):Ob:=.box [.v (.fn (.func 101) []),.bA hp s.bD,.iE m,.v (ti s.next),.v (ti s.clock)]
def hB(s:Qs):Ob:=.arr s.bD 211 5 (dF s.heap)
def mB(s:Qs):Ob:=.map [.int .i64] false s.mc (uO s.es)
structure QV where
 (hp m:Nat)
 s:Qs
structure QV.at(v:QV)(f:bq)(q:Nat):Prop where
 q:f q=some (qB v.hp v.m v.s)
 hp:f v.hp=some (hB v.s)
 m:f v.m=some (mB v.s)
def QV.Cg{v w:QV}{q:Nat}(h:v.at f q)(k:w.at f q):v=w:=by
 obtain⟨hp,m,⟨heap,bD,es,mc,next,clock⟩⟩:=v;obtain⟨hp',m',⟨Yu,cg,m0,mc',next',clock'⟩⟩:=w;obtain⟨h1,h2,h3⟩:=h;obtain⟨k1,k2,k3⟩:=k;simp only at h1 h2 h3 k1 k2 k3;rw[h1]at k1;simp only[qB,Zaa,Ob.box.injEq,Za1,DV.bA.injEq,DV.iE.injEq,DV.v.injEq,T.int.injEq,true_and,and_true]at k1;obtain⟨⟨e2,e3⟩,e4,e5,e6⟩:=k1;subst e2 e3 e4 e5 e6;rw[h2]at k2;simp only[hB,Zaa,Ob.arr.injEq,vI,true_and]at k2;rw[h3]at k3;simp only[mB,Zaa,Ob.map.injEq,JA,true_and]at k3;obtain⟨e7,e8⟩:=k3;subst k2 e7 e8;rfl
open Classical in
noncomputable def eK(f:bq)(q:Nat):QV:=if h:∃v:QV,v.at f q then Classical.choose h else⟨0,0,⟨[],0,[],0,0,0⟩⟩
def eW{v:QV}{q:Nat}(h:v.at f q):eK f q=v:=by
 have hx:∃v:QV,v.at f q:=⟨v,h⟩;unfold eK;rw[ZcV hx];exact QV.Cg (Classical.choose_spec hx) h
def iC(a b:kh):Prop:=a.v.lt b.v\/(¬b.v.lt a.v/\a.t<b.t)
instance(a b:kh):Decidable (iC a b):=by unfold iC;infer_instance
abbrev Qs.e(s:Qs)(i:Int):kh:=s.heap.getD i.toNat default
noncomputable def Fx:bB->bq->fI
 |[.ptr q 0,.v (.int .i64 i),.v (.int .i64 j)],f=>⟨(∃v:QV,v.at f q)/\(0<=i/\i<(eK f q).s.heap.length)/\(0<=j/\j<(eK f q).s.heap.length),.v (.bool (decide (iC ((eK f q).s.e i) ((eK f q).s.e j)))),f⟩
 |_,f=>⟨False,.undef,f⟩
def MB{v:QV}{q:Nat}{i j:Int}(h:v.at f q):Fx [.ptr q 0,.v (ti i),.v (ti j)] f=⟨(0<=i/\i<v.s.heap.length)/\(0<=j/\j<v.s.heap.length),.v (.bool (decide (iC (v.s.e i) (v.s.e j)))),f⟩:=by
 have hx:∃v:QV,v.at f q:=⟨v,h⟩;simp only[Fx,eW h,hx,true_and]
def t1101(a b:Int)(v w:c8):bl aj 101 [.agg [ti a,ti v.aH,ti v.size],.agg [ti b,ti w.aH,ti w.size]] (.bool (decide (v.lt w))):=by
 obtain⟨R,hR⟩:=bb (decide (v.lt w));rw[hR];obtain⟨vc,vs⟩:=v;obtain⟨wc,ws⟩:=w;have aC:=ok56 ay.nil;refine c1101.ok (by simp) (aO ?_);simp;apply aa.ag aC fw [2,3];simp[Rw];apply aa.ag aC fw [4];simp[Rx,hR];apply aa.ret;simp[Lt]
abbrev s1101:DM.Spec:=cT (λts=>∃x a b y c d,ts=[.agg [ti x,ti a,ti b],.agg [ti y,ti c,ti d]]) (fun|[.agg [_,.int _ a,.int _ b],.agg [_,.int _ c,.int _ d]]=>.bool (decide ((⟨a,b⟩:c8).lt ⟨c,d⟩))|_=>.bool false) true
def ok1101{l:List (Nat×DM.Spec)}(h:ay aj (bu l)):ay aj (bu ((101,s1101)::l)):=by
 refine ay.cons h ?_;rintro ts ⟨x,a,b,y,c,d,rfl⟩;exact⟨t1101 x y ⟨a,b⟩ ⟨c,d⟩,λ_=>rfl⟩
def t1148{f0:bq}{q N i j:Nat}{v:QV}(hN:∀r,N<=r->f0 r=none)(h:v.at f0 q)(hi:i<v.s.heap.length)(hj:j<v.s.heap.length):
  aR aj 148 [.ptr q 0,.v (ti i),.v (ti j)] f0 ⟨True,.v (.bool (decide (iC (v.s.e i) (v.s.e j)))),f0⟩:=by
 obtain⟨R,hR⟩:=bb (decide (iC (v.s.e i) (v.s.e j)));rw[hR];have aC:=ok1101 ay.nil;refine c1148.pQ hN (by simp) λaT=>?_;obtain⟨hp,m,⟨heap,bD,es,mc,next,clock⟩⟩:=v;obtain⟨h1,h2,h3⟩:=h;simp only[qB,hB,mB]at h1 h2 h3 hi hj;have NK:q<N:=(aT q _ h1).1;have nu:hp<N:=(aT hp _ h2).1;have hqp:q≠hp:=λe=>by rw[e,h2]at h1;cases h1
 have r1:=dG hi;have r2:=dG hj;simp only[Qs.e,Zag]at hR;obtain⟨⟨ax,⟨ac,az⟩,ah,wW⟩,ex⟩:=bb (heap.getD i default);obtain⟨⟨bx,⟨bc,bz⟩,bh,bt⟩,ey⟩:=bb (heap.getD j default);simp only[ex,ey,kh.enc]at r1 r2 hR;have nq:∀k,q≠N+k:=λk=>by omega
 have np:∀k,hp≠N+k:=λk=>by omega
 simp;apply aa.ag aC fw [0,1,2];simp[Sb];apply aa.jR aC fw (rs:=c5 (iO q hp N) (eR IW [none,none,none,none,none,none,none,none,none,none,some [0],none,some [1],some [1],none,none,some [58],none])) (.inl rfl) ((dX (jK NK nu hqp) _ _ _).trans (by kernel_rfl)) [0,7,8];simp[IW,c5,fk,eR,iO,cP,bG,aN,h1,h2,hi,hj,r1,r2];refine aa.le (Le.dV (l1:=[]) (l:=[(0,.ptr q 0),(7,.v (.box [ti ax,ti ac,ti az,ti ah,ti wW])),(8,.v (.box [ti bx,ti bc,ti bz,ti bh,ti bt]))]) (ba:=N+1000) aT ?_ ?_ ?_ ?_ ?_) ?_
 ·omega
 ·simp
 ·simp[bK];omega
 ·simp[dN]
 ·simp[h1,Nat.add_assoc];exact⟨bL (l:=[]) aT (by omega) (by simp),bL (l:=[]) aT (by omega) (by simp)⟩
 obtain⟨c1,bU⟩:=bb (decide ((⟨ac,az⟩:c8).lt ⟨bc,bz⟩):Bool);obtain⟨c2,gI⟩:=bb (decide ((⟨bc,bz⟩:c8).lt ⟨ac,az⟩):Bool);have e0:aM [] f0=f0:=rfl;rw[e0];apply aa.seq;apply aa.ag aC fw [0,7,8,31];simp[Sc,h1,bU];refine aa.cond rfl (λg=>?_) (λg=>?_)
 ·have g:c1=true:=by simpa using g
  subst g;have:R=true:=by rw[<-hR];unfold iC;simp[Zat bU]
  subst this;apply aa.ag aC fw [6];simp[Sd];apply aa.ret;simp[ER]
 ·have g:c1=false:=by simpa using g
  subst g;apply aa.skip;simp;refine aa.cz aC fw [(6,.v (.bool R))] ?_ ?_
  ·have zQ:(!c2&&decide (wW<bt))=R:=by
    rw[<-hR,<-gI];unfold iC;have:=Zay bU;by_cases z1:(⟨bc,bz⟩:c8).lt ⟨ac,az⟩<;>by_cases z2:wW<bt<;>simp[this,z1,z2]
   cases c2
   ·simp[IX,h1,gI]at zQ⊢;exact zQ
   ·simp[IX,h1,gI]at zQ⊢;exact zQ
  apply aa.ret;simp[ER]
def k1148_ok:∀args ab,(Fx args ab).ok->(∀N,(∀r,N<=r->ab r=none)->aR aj 148 args ab (Fx args ab))/\∀r,ab r=none->(Fx args ab).ab r=none:=by
 intro args ab h;unfold Fx at h⊢;split at h
 ·rename_i q i j;obtain⟨⟨v,hv⟩,⟨i0,i1⟩,j0,j1⟩:=h;rw[eW hv]at i1 j1⊢;obtain⟨i,rfl⟩:=Zae i0;obtain⟨j,rfl⟩:=Zae j0;exact⟨λN hN=>aR.of (t1148 hN hv (by omega) (by omega)) rfl rfl,λr hr=>hr⟩
 ·exact h.elim
def ok1148{l:List (Nat×DM.Spec)}(h:ay aj (bu l)):ay aj (bu ((148,eS Fx)::l)):=ay.gS h k1148_ok
end
section
variable{f f0:bq}{r aJ ba:Nat}{tm:dw}{X:cV}
def bH(f:bq)(q:Nat)(v:QV)(s:Qs):bq:=aM [(q,qB v.hp v.m s),(v.hp,hB s),(v.m,mB s)] f
abbrev QV.to(v:QV)(s:Qs):QV:=⟨v.hp,v.m,s⟩
structure QV.Ne(v:QV)(q:Nat):Prop where
 qp:q≠v.hp
 qm:q≠v.m
 pm:v.hp≠v.m
def QV.at.ne{v:QV}{q:Nat}(h:v.at f q):v.Ne q:=by
 obtain⟨h1,h2,h3⟩:=h;simp only[qB,hB,mB]at h1 h2 h3;refine⟨λe=>?_,λe=>?_,λe=>?_⟩
 ·rw[e,h2]at h1;cases h1
 ·rw[e,h3]at h1;cases h1
 ·rw[e,h3]at h2;cases h2
def d7{v:QV}{q:Nat}(h:v.at f q)(s:Qs):(v.to s).at (bH f q v s) q:=by
 have n:=h.ne;exact⟨by simp[bH],by simp[bH,Ne.symm n.qp],by simp[bH,Ne.symm n.qm,Ne.symm n.pm]⟩
def iY(f:bq)(q:Nat)(v:QV)(s s':Qs):bH (bH f q v s) q (v.to s) s'=bH f q v s':=by
 funext k;simp only[bH,aP,cm];by_cases h1:k=q<;>by_cases h2:k=v.hp<;>by_cases h3:k=v.m<;>simp[h1,h2,h3]
def WA{v:QV}{q:Nat}(h:v.at f q):bH f q v v.s=f:=by
 funext k;simp only[bH,aP,cm];split
 ·rename_i e;rw[e];exact h.q.symm
 ·split
  ·rename_i e;rw[e];exact h.hp.symm
  ·split
   ·rename_i e;rw[e];exact h.m.symm
   ·rfl
def gJ{v:QV}{q:Nat}(h:v.at f q)(s:Qs)(hr:f r=none):bH f q v s r=none:=by
 have e1:r≠q:=λe=>by rw[e,h.q]at hr;cases hr
 have e2:r≠v.hp:=λe=>by rw[e,h.hp]at hr;cases hr
 have e3:r≠v.m:=λe=>by rw[e,h.m]at hr;cases hr
 simp[bH,e1,e2,e3,hr]
def rH{N q:Nat}{l:fA}{L:cV}{v:QV}(s:Qs)(aT:dh f0 N)(hv:v.at f0 q)(hn:N<=ba)(OB:v.s.bD<=s.bD)
  (hL:∀p∈L,p.1=q\/p.1=v.hp\/p.1=v.m\/N<=p.1) (h1:aM L f0 q=some (qB v.hp v.m s)) (h2:aM L f0 v.hp=some (hB s)) (h3:aM L f0 v.m=some (mB s))
  (ik:fR (aM L f0) (bH f0 q v s) id tm l):
  Le ⟨tm,aM L f0,aJ,N,[]⟩ ⟨DM.look l,bH f0 q v s,ba,N,[]⟩:=by
 have NK:q<N:=(aT q _ hv.q).1;have nu:v.hp<N:=(aT v.hp _ hv.hp).1;have BS:v.m<N:=(aT v.m _ hv.m).1;have n:=hv.ne;refine Le.dV aT hn ?_ ?_ ?_ ik
 ·simp;omega
 ·have:∀(L:cV),(∀p∈L,p.1=q\/p.1=v.hp\/p.1=v.m\/N<=p.1)->bK N [(q,qB v.hp v.m s),(v.hp,hB s),(v.m,mB s)] L:=by
   intro L;induction L with
   |nil=>intro _;trivial
   |cons p L ih=>
    intro h;refine⟨λhq=>?_,ih λp hp=>h p (by simp[hp])⟩;rcases h p (by simp)with h|h|h|h
    ·exact⟨_,by rw[h];exact .head _⟩
    ·exact⟨_,by rw[h];exact .tail _ (.head _)⟩
    ·exact⟨_,by rw[h];exact .tail _ (.tail _ (.head _))⟩
    ·omega
  exact this _ hL
 ·refine⟨⟨_,h1,.inr ⟨rfl,λk hk=>?_⟩,λ_=>be _⟩,⟨_,h2,.inr ⟨rfl,λk hk=>by simp[aZ,hB]at hk⟩,λ_=>be _⟩,⟨_,h3,.inr ⟨rfl,λk hk=>?_⟩,λ_=>be _⟩,trivial⟩
  ·simp only[qB,aZ,bM,aN,ZaC,Zaq,Zah,Zal,or_false,false_or]at hk;rcases hk with rfl|rfl
   ·exact⟨_,_,h2,by simp[Ne.symm n.qp],be _⟩
   ·exact⟨_,_,h3,by simp[Ne.symm n.qm,Ne.symm n.pm],be _⟩
  ·exfalso;simp only[mB,aZ,ZaV,uO,Zak]at hk;obtain⟨e,⟨e',_,rfl⟩,hk⟩:=hk;simp[aN]at hk
def Qs.pO(s:Qs)(k:Int):Prop:=∃i,sV s.es k=some i
def Qs.swap(s:Qs)(i j:Int):Qs:=⟨(s.heap.set i.toNat (s.e j)).set j.toNat (s.e i),s.bD,d8 (d8 s.es s.mc (s.e j).h i) s.mc (s.e i).h j,s.mc,s.next,s.clock⟩
def Qs.dc(s:Qs)(i j:Int):Prop:=pA s.es/\(0<=i/\i<s.heap.length)/\(0<=j/\j<s.heap.length)/\s.pO (s.e i).h/\s.pO (s.e j).h
def t1133{q N i j:Nat}{v:QV}(hN:∀r,N<=r->f0 r=none)(h:v.at f0 q)(hs:v.s.dc i j):
  aR aj 133 [.ptr q 0,.v (ti i),.v (ti j)] f0 ⟨True,.v (.eo []),bH f0 q v (v.s.swap i j)⟩:=by
 obtain⟨S,hS⟩:=bb (v.s.swap i j);rw[hS];have aC:=cF;have h0:=h;have n:=h.ne;refine c1133.pQ hN (by simp) λaT=>?_;obtain⟨hp,m,⟨heap,bD,es,mc,next,clock⟩⟩:=v;obtain⟨h1,h2,h3⟩:=h;obtain⟨s1,⟨_,s2⟩,⟨_,s3⟩,⟨i1,s4⟩,⟨i2,s5⟩⟩:=hs;simp only[qB,hB,mB,Qs.e,Zag]at h1 h2 h3 s1 s2 s3 s4 s5;have hi:i<heap.length:=by omega
 have hj:j<heap.length:=by omega
 have NK:q<N:=(aT q _ h1).1;have nu:hp<N:=(aT hp _ h2).1;have BS:m<N:=(aT m _ h3).1;have r1:=dG hi;have r2:=dG hj;simp only[Qs.swap,Qs.e,Zag]at hS;obtain⟨ea,ex⟩:=bb (heap.getD i default);obtain⟨eb,ey⟩:=bb (heap.getD j default);simp only[ex,ey]at r1 r2 hS s4 s5;obtain⟨H,hH⟩:=bb ((heap.set i eb).set j ea);have hHl:H.length=heap.length:=by rw[<-hH];simp
 have pW:i<H.length:=by omega
 have hj':j<H.length:=by omega
 have r3:=dG pW;have r4:=dG hj';have e3:H.getD i default=eb:=by
  rw[<-hH];by_cases e:i=j
  ·subst e;rw[<-ex,<-ey];simp[List.getD,hi]
  ·have:j≠i:=λq=>e q.symm;simp[List.getD,this,hi]
 have e4:H.getD j default=ea:=by rw[<-hH];simp[List.getD,hj]
 rw[e3]at r3;rw[e4]at r4;have Dm:((dF heap).set i eb.enc).set j ea.enc=dF H:=by rw[<-hH,lg,lg]
 obtain⟨x1,y1,z1,z2,z3⟩:=CW s5 (.v (ti 0)) mc;obtain⟨E1,hE1⟩:=bb (d8 es mc eb.h i);have b1:=zz (v:=(i:Int)) s1 s5 y1 mc;rw[hE1]at b1 hS;have s6:sV E1 ea.h=some i1:=by rw[<-hE1,mW s5];exact s4
 have s7:pA E1:=by rw[<-hE1];exact lj s5 s1
 obtain⟨x2,y2,z4,z5,z6⟩:=CW s6 (.v (ti 0)) mc;have b2:=zz (v:=(j:Int)) s7 s6 y2 mc;obtain⟨E2,Jk⟩:=bb (d8 E1 mc ea.h j);rw[Jk]at b2 hS;rw[hH]at hS;obtain⟨ax,⟨ac,az⟩,ah,wW⟩:=ea;obtain⟨bx,⟨bc,bz⟩,bh,bt⟩:=eb;simp only[kh.enc]at r1 r2 r3 r4 Dm z1 z2 z3 z4 z5 z6;simp;apply aa.ag aC fw [0,1,2];have hd:List.drop 5 (DM.rowAt ((dF heap).set i [ti bx,ti bc,ti bz,ti bh,ti bt]) (j:Int))=[]:=by
  rw[show(dF heap).set i [ti bx,ti bc,ti bz,ti bh,ti bt]=dF (heap.set i ⟨bx,⟨bc,bz⟩,bh,bt⟩)from(lg heap i ⟨bx,⟨bc,bz⟩,bh,bt⟩).symm,dG (by simpa using hj)];rfl
 simp[RX,h1,h2,hi,hj,r1,r2,hd,Dm];obtain⟨V,hV⟩:=bb ((⟨hp,m,⟨heap,bD,es,mc,next,clock⟩⟩:QV):QV);have wq:V.hp=hp/\V.m=m:=by rw[<-hV];exact⟨rfl,rfl⟩
 obtain⟨S1,tF⟩:=bb ((⟨H,bD,es,mc,next,clock⟩:Qs):Qs);rw[hV]at h0 n⊢;have n2:=n;obtain⟨n1,F8,n3⟩:=n;rw[wq.1]at n1 n3;rw[wq.2]at F8 n3;refine aa.le (rH (v:=V) S1 (l:=[(0,.ptr q 0),(1,.v (ti i)),(2,.v (ti j))]) (ba:=N+100) aT h0 (by omega) (by rw[<-hV,<-tF];exact Zaf _) ?_ ?_ ?_ ?_ ?_) ?_
 ·simp[wq]
 ·rw[wq.1,wq.2,<-tF];simp[n1,h1,qB]
 ·rw[wq.1,<-tF];simp[hB]
 ·rw[wq.2,<-tF];simp[mB,Ne.symm n3,h3]
 ·simp[bH,qB]
 obtain⟨G,hG⟩:=bb (bH f0 q V S);rw[hG];simp only[bH,wq,<-tF,qB,hB,mB];have Hi:=Ne.symm n1;have Ka:=Ne.symm n3;have n22':=Ne.symm F8;refine aa.to ⟨DM.look [],bH f0 q V S,N+1000,N,[]⟩ ?_ (by simp[Lw,hG]);apply aa.fK aC fw [];simp[RY,pW,hj',r3,r4,Hi,Ka,n22',z1,z2,z3,z4,z5,z6,b1,b2];refine rH S (l:=[]) (ba:=N+1000) aT h0 (by omega) (by rw[<-hV,<-hS];exact Zaf _) ?_ ?_ ?_ ?_ ?_
 ·simp[wq]
 ·rw[wq.1,wq.2,<-hS];simp[F8,qB]
 ·rw[wq.1,<-hS];simp[n3,Hi,hB]
 ·rw[wq.2,<-hS];simp[mB]
 ·simp
def uU(X Y:cV)(f:bq):aM X (aM Y f)=aM (X++Y) f:=by
 induction X with
 |nil=>rfl
 |cons a X ih=>funext k;obtain⟨r,o⟩:=a;simp only[ZaM,aP,ih]
def le_qx{N q:Nat}{l:fA}{L:cV}{v:QV}(s:Qs)(aT:dh f0 N)(hv:v.at f0 q)(hn:N<=ba)(OB:v.s.bD<=s.bD)
  (hL:∀p∈L,p.1=q\/p.1=v.hp\/p.1=v.m\/N<=p.1) (hX:∀p∈X,N<=p.1/\p.1<ba/\aM L f0 p.1=some p.2/\aZ p.2=[])
  (h1:aM L f0 q=some (qB v.hp v.m s)) (h2:aM L f0 v.hp=some (hB s)) (h3:aM L f0 v.m=some (mB s))
  (ik:fR (aM L f0) (aM X (bH f0 q v s)) id tm l):
  Le ⟨tm,aM L f0,aJ,N,[]⟩ ⟨DM.look l,aM X (bH f0 q v s),ba,N,[]⟩:=by
 have NK:q<N:=(aT q _ hv.q).1;have nu:v.hp<N:=(aT v.hp _ hv.hp).1;have BS:v.m<N:=(aT v.m _ hv.m).1;have n:=hv.ne;have hxn:∀r,r<N->aM X (bH f0 q v s) r=bH f0 q v s r:=λr hr=>fj λo ho=>by have:=(hX _ ho).1;simp only at this;omega
 unfold bH at ik hxn⊢;rw[uU]at ik⊢;refine Le.dV aT hn ?_ ?_ ?_ ik
 ·clear ik hxn;induction X with
  |nil=>simp;omega
  |cons a X ih=>obtain⟨r,o⟩:=a;exact⟨(hX (r,o) (by simp)).2.1,ih λp hp=>hX p (by simp[hp])⟩
 ·have:∀(L:cV),(∀p∈L,p.1=q\/p.1=v.hp\/p.1=v.m\/N<=p.1)->bK N (X++[(q,qB v.hp v.m s),(v.hp,hB s),(v.m,mB s)]) L:=by
   intro L;induction L with
   |nil=>intro _;trivial
   |cons p L ih=>
    intro h;refine⟨λhq=>?_,ih λp hp=>h p (by simp[hp])⟩;rcases h p (by simp)with h|h|h|h
    ·exact⟨_,Zb3 X (by rw[h];exact .head _)⟩
    ·exact⟨_,Zb3 X (by rw[h];exact .tail _ (.head _))⟩
    ·exact⟨_,Zb3 X (by rw[h];exact .tail _ (.tail _ (.head _)))⟩
    ·omega
  exact this _ hL
 ·have tail:dN N (aM L f0) (aM (X++[(q,qB v.hp v.m s),(v.hp,hB s),(v.m,mB s)]) f0) [(q,qB v.hp v.m s),(v.hp,hB s),(v.m,mB s)]:=by
   rw[<-uU];refine⟨⟨_,h1,.inr ⟨rfl,λk hk=>?_⟩,λ_=>be _⟩,⟨_,h2,.inr ⟨rfl,λk hk=>by simp[aZ,hB]at hk⟩,λ_=>be _⟩,⟨_,h3,.inr ⟨rfl,λk hk=>?_⟩,λ_=>be _⟩,trivial⟩
   ·simp only[qB,aZ,bM,aN,ZaC,Zaq,Zah,Zal,or_false,false_or]at hk;rcases hk with rfl|rfl
    ·exact⟨_,_,h2,by rw[hxn _ nu];simp[Ne.symm n.qp],be _⟩
    ·exact⟨_,_,h3,by rw[hxn _ BS];simp[Ne.symm n.qm,Ne.symm n.pm],be _⟩
   ·exfalso;simp only[mB,aZ,ZaV,uO,Zak]at hk;obtain⟨e,⟨e',_,rfl⟩,hk⟩:=hk;simp[aN]at hk
  have key:∀(Y Z:cV) (b:bq),(∀p∈Y,N<=p.1/\aM L f0 p.1=some p.2/\aZ p.2=[])->dN N (aM L f0) b Z->dN N (aM L f0) b (Y++Z):=by
   intro Y;induction Y with
   |nil=>intro Z b _ h;exact h
   |cons a Y ih=>
    intro Z b hY h;obtain⟨r,o⟩:=a;obtain⟨y1,y2,y3⟩:=hY (r,o) (by simp);exact⟨⟨o,y2,.inr ⟨rfl,λm hm=>by rw[y3]at hm;cases hm⟩,λ_=>be _⟩,ih Z b (λp hp=>hY p (by simp[hp])) h⟩
  exact key X _ _ (λp hp=>⟨(hX p hp).1,(hX p hp).2.2⟩) tail
def UU{N q:Nat}{v:QV}{s:Qs}(aT:dh f0 N)(hv:v.at f0 q)(hr:N<=r)(hx:∀p∈X,p.1≠r):gone (DM.aM X (bH f0 q v s)) id r:=by
 have NK:q<N:=(aT q _ hv.q).1;have nu:v.hp<N:=(aT v.hp _ hv.hp).1;have BS:v.m<N:=(aT v.m _ hv.m).1;unfold bH;rw[uU];refine bL aT hr λp hp=>?_;rcases Zaq.1 hp with hp|hp
 ·exact hx p hp
 ·simp only[Zah,Zal,or_false]at hp;rcases hp with rfl|rfl|rfl<;>simp only<;>omega
def QV.at.aM{v:QV}{q x:Nat}{o:Ob}(h:v.at f q)(h1:x≠q)(h2:x≠v.hp)(h3:x≠v.m):v.at (DM.aM [(x,o)] f) q:=
 ⟨by simp[Ne.symm h1,h.q],by simp[Ne.symm h2,h.hp],by simp[Ne.symm h3,h.m]⟩
def AW{v:QV}{q x:Nat}{o:Ob}(s:Qs)(h1:x≠q)(h2:x≠v.hp)(h3:x≠v.m):bH (DM.aM [(x,o)] f) q v s=DM.aM [(x,o)] (bH f q v s):=by
 funext k;simp only[bH,aP,cm];by_cases e:k=x
 ·subst e;simp[h1,h2,h3]
 ·simp[e]
end
section
variable{f f0:bq}
noncomputable def FG:bB->bq->fI
 |[.ptr q 0,.v (.int .i64 i),.v (.int .i64 j)],f=>⟨(∃v:QV,v.at f q)/\(eK f q).s.dc i j,.v (.eo []),bH f q (eK f q) ((eK f q).s.swap i j)⟩
 |_,f=>⟨False,.undef,f⟩
def FH{v:QV}{q:Nat}{i j:Int}(h:v.at f q):FG [.ptr q 0,.v (ti i),.v (ti j)] f=⟨v.s.dc i j,.v (.eo []),bH f q v (v.s.swap i j)⟩:=by
 have hx:∃v:QV,v.at f q:=⟨v,h⟩;simp only[FG,eW h,hx,true_and]
def k1133_ok:∀args ab,(FG args ab).ok->(∀N,(∀r,N<=r->ab r=none)->aR aj 133 args ab (FG args ab))/\∀r,ab r=none->(FG args ab).ab r=none:=by
 intro args ab h;unfold FG at h⊢;split at h
 ·rename_i q i j;obtain⟨⟨v,hv⟩,hs⟩:=h;rw[eW hv]at hs⊢;have hs':=hs;obtain⟨_,⟨i0,_⟩,⟨j0,_⟩,_⟩:=hs';obtain⟨i,rfl⟩:=Zae i0;obtain⟨j,rfl⟩:=Zae j0;exact⟨λN hN=>aR.of (t1133 hN hv hs) rfl rfl,λr hr=>gJ hv _ hr⟩
 ·exact h.elim
def PO{l:List (Nat×DM.Spec)}(h:ay aj (bu l)):ay aj (bu ((133,eS FG)::l)):=ay.gS h k1133_ok
structure Qs.ok(s:Qs):Prop where
 pl:pA s.es
 st:∀e∈s.es,e.1<s.mc
 pO:∀e∈s.heap,s.pO e.h
def Qs.nC{s:Qs}{i j:Int}(hi:i.toNat<s.heap.length)(hj:j.toNat<s.heap.length){e:kh}(h:e∈(s.swap i j).heap):e∈s.heap:=by
 rcases ZaS h with h|rfl
 ·rcases ZaS h with h|rfl
  ·exact h
  ·exact bm hj
 ·exact bm hi
def Qs.ok.dc{s:Qs}(h:s.ok){i j:Int}(hi:0<=i/\i<s.heap.length)(hj:0<=j/\j<s.heap.length):s.dc i j:=
 ⟨h.pl,hi,hj,h.pO _ (bm (by omega)),h.pO _ (bm (by omega))⟩
def Qs.ok.swap{s:Qs}(h:s.ok){i j:Int}(hi:0<=i/\i<s.heap.length)(hj:0<=j/\j<s.heap.length):(s.swap i j).ok:=by
 obtain⟨_,_,_,⟨i1,s4⟩,⟨i2,s5⟩⟩:=h.dc hi hj;have s6:sV (d8 s.es s.mc (s.e j).h i) (s.e i).h=some i1:=by rw[mW s5];exact s4
 have hst:∀{l:Pl} {c:Nat} {k v:Int} {i:Nat},sV l k=some i->pA l->(∀e∈l,e.1<c)->∀e∈d8 l c k v,e.1<c:=by
  intro l c k v i hk hl hc e he;have:=(zA (k:=k) (v:=v) hl hc).2 e he;unfold wr at this;rw[hk]at this;exact this
 refine⟨lj s6 (lj s5 h.pl),hst s6 (lj s5 h.pl) (hst s5 h.pl h.st),λe he=>?_⟩;obtain⟨k,hk⟩:=h.pO e (Qs.nC (by omega) (by omega) he);exact⟨k,by show sV (d8 _ _ _ _) _=_;rw[mW s6,mW s5];exact hk⟩
@[simp] def Qs.dI(s:Qs)(i j:Int):(s.swap i j).heap.length=s.heap.length:=by simp[Qs.swap]
@[simp] def Qs.swap_ver(s:Qs)(i j:Int):(s.swap i j).bD=s.bD:=rfl
def tQ(i:Nat)(s:Qs):Qs:=
 if h:0<i/\iC (s.e i) (s.e ((i-1)/2:Nat))then tQ ((i-1)/2) (s.swap i ((i-1)/2:Nat))else s
termination_by i
decreasing_by omega
def rJ{N aJ ba q:Nat}{tm:dw}{l:fA}{v:QV}(s:Qs)(aT:dh f0 N)(hv:v.at f0 q)(hn:N<=ba)(OB:v.s.bD<=s.bD)
  (ik:fR (bH f0 q v s) (bH f0 q v s) id tm l):
  Le ⟨tm,bH f0 q v s,aJ,N,[]⟩ ⟨DM.look l,bH f0 q v s,ba,N,[]⟩:=by
 have k:=d7 hv s;have n:=hv.ne;refine rH s aT hv hn OB ?_ k.q k.hp k.m ik
 ·simp
def t1147{q N i:Nat}{v:QV}(hN:∀r,N<=r->f0 r=none)(h:v.at f0 q)(hs:v.s.ok)(hi:i<v.s.heap.length)(dM:v.s.heap.length<=1000000):
  aR aj 147 [.ptr q 0,.v (ti i)] f0 ⟨True,.v (.eo []),bH f0 q v (tQ i v.s)⟩:=by
 obtain⟨R,hR⟩:=bb (tQ i v.s);rw[hR];have aC:=ok1148 (PO ay.nil);refine c1147.pQ hN (by simp) λaT=>?_;have en:∀s,bH f0 q v s q=some (qB v.hp v.m s):=λs=>(d7 h s).q;simp;apply aa.block;refine aa.loop (λp:Nat×Qs=>⟨DM.look [(0,.ptr q 0),(1,.v (ti p.1))],bH f0 q v p.2,N+1000,N,[]⟩)
  (λp=>p.1<p.2.heap.length/\p.2.ok/\tQ p.1 p.2=R/\p.2.heap.length<=1000000/\p.2.bD=v.s.bD) (λp=>p.1) (i,v.s) ?_ ⟨hi,hs,hR,dM,rfl⟩ (λp hp=>?_)
 ·refine rH v.s (L:=[]) aT h (by omega) (Zaf _) (by simp) h.q h.hp h.m ?_;simp[en,qB]
 obtain⟨i,s⟩:=p;obtain⟨p1,p2,p3,p4,p5⟩:=hp;simp only at p1 p2 p3 p4 p5;have hv:=d7 h s;have k1:=λx y=>MB (i:=x) (j:=y) hv;have k2:=λx y=>FH (i:=x) (j:=y) hv;have e0:∀s',bH (bH f0 q v s) q (v.to s) s'=bH f0 q v s':=iY f0 q v s;simp only[QV.to,Qs.e]at k1 k2;unfold tQ at p3;by_cases hz:i=0
 ·subst hz;rw[ZcT (by omega)]at p3;subst p3;apply aa.seq;apply aa.cX aC fw (rs:=uJ) rfl (by kernel_rfl) [13];simp[uJ];refine aa.cond rfl (λg=>by cases g) (λg=>?_);apply aa.exit;simp[EQ]
 ·have w1:IntKind.i64.wrap ((i:Int)-1)=((i-1:Nat):Int):=by rw[aF (by omega)];omega
  have w2:IntKind.i64.wrap (((i-1:Nat):Int).tdiv 2)=(((i-1)/2:Nat):Int):=by rw[DP (by omega),aF (by omega)];omega
  have w3:IntKind.i64.wrap (((i-1:Nat):Int)/2)=(((i-1)/2:Nat):Int):=by rw[aF (by omega)];omega
  obtain⟨c1,bU⟩:=bb (decide (iC (s.e i) (s.e ((i-1)/2:Nat))):Bool);have gI:=bU;simp only[Qs.e,Zag]at gI;have hz':0<i:=by omega
  have ym:(i-1)/2<s.heap.length:=by omega
  apply aa.seq;apply aa.cX aC fw (rs:=uJ) rfl (by kernel_rfl) [0,1,13];obtain⟨y,hy⟩:=bb ((i-1)/2);rw[hy]at w2 w3 bU gI ym p3;simp[uJ,w1,w3,k1,hz',ym,p1];refine aa.cond rfl (λg=>?_) (λg=>?_)
  ·have g:c1=true:=by rw[<-bU];simpa [Qs.e,p1,ym]using g
   subst g;rw[ZcV ⟨hz',Zat bU⟩]at p3;have so:=p2.dc (i:=i) (j:=y) ⟨by omega,by omega⟩ ⟨by omega,by omega⟩;have so2:=p2.swap (i:=i) (j:=y) ⟨by omega,by omega⟩ ⟨by omega,by omega⟩;apply aa.skip;simp;apply aa.block;apply aa.cX aC fw (rs:=EP) rfl (by kernel_rfl) [0,1];simp[EP,w1,w3,k2,so,e0];apply aa.fK aC fw [0,1];simp[Sa,w1,w3];refine⟨y,s.swap i y,rJ _ aT h (by omega) (by simp[p5]) ?_,⟨by simpa using ym,so2,p3,by simpa using p4,by simpa using p5⟩,by omega⟩;simp[en,qB]
  ·have g:c1=false:=by rw[<-bU];simpa [Qs.e,p1,ym]using g
   subst g;rw[ZcT λx=>Zay bU x.2]at p3;subst p3;apply aa.exit;simp[EQ]
noncomputable def FI:bB->bq->fI
 |[.ptr q 0,.v (.int .i64 i)],f=>⟨(∃v:QV,v.at f q)/\(eK f q).s.ok/\(0<=i/\i<(eK f q).s.heap.length)/\(eK f q).s.heap.length<=1000000,.v (.eo []),bH f q (eK f q) (tQ i.toNat (eK f q).s)⟩
 |_,f=>⟨False,.undef,f⟩
def k1147_eq{v:QV}{q:Nat}{i:Int}(h:v.at f q):FI [.ptr q 0,.v (ti i)] f=⟨v.s.ok/\(0<=i/\i<v.s.heap.length)/\v.s.heap.length<=1000000,.v (.eo []),bH f q v (tQ i.toNat v.s)⟩:=by
 have hx:∃v:QV,v.at f q:=⟨v,h⟩;simp only[FI,eW h,hx,true_and]
def k1147_ok:∀args ab,(FI args ab).ok->(∀N,(∀r,N<=r->ab r=none)->aR aj 147 args ab (FI args ab))/\∀r,ab r=none->(FI args ab).ab r=none:=by
 intro args ab h;unfold FI at h⊢;split at h
 ·rename_i q i;obtain⟨⟨v,hv⟩,hs,⟨i0,i1⟩,hl⟩:=h;rw[eW hv]at hs i1 hl⊢;obtain⟨i,rfl⟩:=Zae i0;exact⟨λN hN=>aR.of (t1147 hN hv hs (by omega) hl) rfl rfl,λr hr=>gJ hv _ hr⟩
 ·exact h.elim
def ok1147{l:List (Nat×DM.Spec)}(h:ay aj (bu l)):ay aj (bu ((147,eS FI)::l)):=ay.gS h k1147_ok
end
def tR(s:Qs)(i:Nat):Nat->Nat
 |0=>i
 |t+1=>if iC (s.e (2*i+1+t:Nat)) (s.e (tR s i t))then 2*i+1+t else tR s i t
def kg(s:Qs)(i:Nat):Nat:=min 2 (s.heap.length-(2*i+1))
def dt(s:Qs)(i:Nat):Nat:=tR s i (kg s i)
def sX(s:Qs)(i:Nat):∀t,tR s i t=i\/(2*i+1<=tR s i t/\tR s i t<2*i+1+t)
 |0=>.inl rfl
 |t+1=>by
  have:=sX s i t;unfold tR;split<;>omega
def gZ(s:Qs)(i:Nat):dt s i=i\/(i<dt s i/\dt s i<s.heap.length):=by
 have:=sX s i (kg s i);unfold dt;unfold kg at*
 omega
def fm(i:Nat)(s:Qs):Qs:=
 if h:dt s i=i then s else fm (dt s i) (s.swap i (dt s i:Nat))
termination_by s.heap.length-i
decreasing_by
 have:=gZ s i;simp only[Qs.dI];omega
def t1134{f0:bq}{q N i:Nat}{v:QV}(hN:∀r,N<=r->f0 r=none)(h:v.at f0 q)(hs:v.s.ok)(hi:i<=1000000)(dM:v.s.heap.length<=1000000):
  aR aj 134 [.ptr q 0,.v (ti i)] f0 ⟨True,.v (.eo []),bH f0 q v (fm i v.s)⟩:=by
 obtain⟨R,hR⟩:=bb (fm i v.s);rw[hR];have aC:=ok1148 (PO ay.nil);refine c1134.pQ hN (by simp) λaT=>?_;have en:∀s,bH f0 q v s q=some (qB v.hp v.m s):=λs=>(d7 h s).q;simp;apply aa.block;refine aa.loop (λp:Nat×Qs=>⟨DM.look [(0,.ptr q 0),(1,.v (ti p.1))],bH f0 q v p.2,N+1000,N,[]⟩)
  (λp=>p.1<=1000000/\p.2.ok/\fm p.1 p.2=R/\p.2.heap.length<=1000000/\p.2.bD=v.s.bD) (λp=>p.2.heap.length-p.1) (i,v.s) ?_ ⟨hi,hs,hR,dM,rfl⟩ (λp hp=>?_)
 ·refine rH v.s (L:=[]) aT h (by omega) (Zaf _) (by simp) h.q h.hp h.m ?_;simp[en,qB]
 obtain⟨i,s⟩:=p;obtain⟨p1,p2,p3,p4,p5⟩:=hp;simp only at p1 p2 p3 p4 p5;have hv:=d7 h s;have k1:=λx y=>MB (i:=x) (j:=y) hv;have k2:=λx y=>FH (i:=x) (j:=y) hv;have e0:∀s',bH (bH f0 q v s) q (v.to s) s'=bH f0 q v s':=iY f0 q v s;have hq:=hv.q;have hh:=hv.hp;simp only[QV.to,Qs.e,qB,hB]at k1 k2 hq hh;have w1:IntKind.i64.wrap (2*(i:Int))=2*(i:Int):=aF (by omega);have w2:IntKind.i64.wrap (2*(i:Int)+1)=2*(i:Int)+1:=aF (by omega);have w3:IntKind.i64.wrap (2*(i:Int)+2)=2*(i:Int)+2:=aF (by omega);apply aa.block;apply aa.ag aC fw [0,1,4];simp[RZ];apply aa.seq;apply aa.ag aC fw [0,1,4,5];simp[R5,w1,w2];apply aa.block;refine aa.loop (λt:Nat=>⟨DM.look [(0,.ptr q 0),(1,.v (ti i)),(4,.v (ti (tR s i t))),(5,.v (ti (2*i+1+t:Nat)))],bH f0 q v s,N+2000,N,[]⟩)
  (λt=>t<=kg s i) (λt=>2-t) 0 (rJ _ aT h (by omega) (by simp[p5]) ?_) (by omega) (λt ht=>?_)
 ·simp[en,qB,tR]
 have hkid:kg s i<=2/\(kg s i<=s.heap.length-(2*i+1))/\(kg s i=2\/kg s i=s.heap.length-(2*i+1)):=by unfold kg;omega
 obtain⟨L,hL⟩:=bb (tR s i t);have hLo:=sX s i t;rw[hL]at hLo⊢;obtain⟨K,hK⟩:=bb (2*i+1+t);rw[hK]at hLo⊢;obtain⟨c1,bU⟩:=bb (decide (t<kg s i):Bool);apply aa.seq;refine aa.cz aC fw [(0,.ptr q 0),(1,.v (ti i)),(4,.v (ti L)),(5,.v (ti K)),(23,.v (.bool c1))] ?_ ?_
 ·by_cases z1:t<2
  ·have z2:(K:Int)<=2*(i:Int)+2:=by omega
   by_cases z3:K<s.heap.length
   ·have:c1=true:=by rw[<-bU];simp;omega
    simp[CB,w1,w3,hq,hh,z2,z3,this]
   ·have:c1=false:=by rw[<-bU];simp;omega
    simp[CB,w1,w3,hq,hh,z2,z3,this]
  ·have z2:¬(K:Int)<=2*(i:Int)+2:=by omega
   have:c1=false:=by rw[<-bU];simp;omega
   simp[CB,w1,w3,z2,this]
 refine aa.cond rfl (λg=>?_) (λg=>?_)
 ·have g:c1=true:=by simpa using g
  subst g;have ht2:t<kg s i:=Zat bU;have hKl:K<s.heap.length:=by omega
  have Xq:L<s.heap.length:=by omega
  have wK:IntKind.i64.wrap ((K:Int)+1)=((2*i+1+(t+1):Nat):Int):=by rw[aF (by omega)];omega
  have nU:tR s i (t+1)=if iC (s.e K) (s.e L)then K else L:=by
   have:tR s i (t+1)=if iC (s.e (2*i+1+t:Nat)) (s.e (tR s i t))then 2*i+1+t else tR s i t:=rfl
   rw[this,hK,hL]
  apply aa.skip;simp;apply aa.seq;apply aa.block;apply aa.cX aC fw (rs:=EN) rfl (by kernel_rfl) [0,1,4,5,29];simp[EN,k1,hKl,Xq];obtain⟨c2,gI⟩:=bb (decide (iC (s.e K) (s.e L)):Bool);refine aa.to ⟨DM.look [(0,.ptr q 0),(1,.v (ti i)),(4,.v (ti (tR s i (t+1)))),(5,.v (ti K))],bH f0 q v s,N+4000,N,[]⟩ ?_ ?_
  ·refine aa.cond rfl (λg=>?_) (λg=>?_)
   ·have g:iC (s.e K) (s.e L):=by simpa [Qs.e,hKl,Xq]using g
    rw[Zai g]at nU;apply aa.fK aC fw [0,1,4,5];simp[R6];refine rJ _ aT h (by omega) (by simp[p5]) ?_;simp[en,qB,nU]
   ·have g:¬iC (s.e K) (s.e L):=by simpa [Qs.e,hKl,Xq]using g
    rw[Zab g]at nU;apply aa.skip;simp;refine rJ _ aT h (by omega) (by simp[p5]) ?_;simp[en,qB,nU]
  simp;apply aa.fK aC fw [0,1,4,5];simp[R7,wK];refine⟨t+1,rJ _ aT h (by omega) (by simp[p5]) ?_,by omega,by omega⟩;simp[en,qB]
 ·have g:c1=false:=by simpa using g
  subst g;have ht2:t=kg s i:=by have:=Zay bU;omega
  have hLs:dt s i=L:=by rw[<-hL,ht2];rfl
  unfold fm at p3;rw[hLs]at p3;apply aa.exit;simp;apply aa.seq;apply aa.ag aC fw [0,1,4,33];simp[R8];refine aa.cond rfl (λg=>?_) (λg=>?_)
  ·have g:L=i:=by simp at g;omega
   rw[ZcV g]at p3;subst p3;apply aa.ret;simp[Lx]
  ·have g:¬L=i:=by simp at g;omega
   rw[ZcT g]at p3;have Xq:i<L/\L<s.heap.length:=by have:=gZ s i;omega
   have so:=p2.dc (i:=i) (j:=L) ⟨by omega,by omega⟩ ⟨by omega,by omega⟩;have so2:=p2.swap (i:=i) (j:=L) ⟨by omega,by omega⟩ ⟨by omega,by omega⟩;apply aa.skip;simp;apply aa.cX aC fw (rs:=EO) rfl (by kernel_rfl) [0,4];simp[EO,k2,so,e0];apply aa.fK aC fw [0,1];simp[R9];refine⟨L,s.swap i L,rJ _ aT h (by omega) (by simp[p5]) ?_,⟨by omega,so2,p3,by simpa using p4,by simpa using p5⟩,by simp;omega⟩;simp[en,qB]
noncomputable def FJ:bB->bq->fI
 |[.ptr q 0,.v (.int .i64 i)],f=>⟨(∃v:QV,v.at f q)/\(eK f q).s.ok/\(0<=i/\i<=1000000)/\(eK f q).s.heap.length<=1000000,.v (.eo []),bH f q (eK f q) (fm i.toNat (eK f q).s)⟩
 |_,f=>⟨False,.undef,f⟩
def k1134_eq{v:QV}{f:bq}{q:Nat}{i:Int}(h:v.at f q):FJ [.ptr q 0,.v (ti i)] f=⟨v.s.ok/\(0<=i/\i<=1000000)/\v.s.heap.length<=1000000,.v (.eo []),bH f q v (fm i.toNat v.s)⟩:=by
 have hx:∃v:QV,v.at f q:=⟨v,h⟩;simp only[FJ,eW h,hx,true_and]
def k1134_ok:∀args ab,(FJ args ab).ok->(∀N,(∀r,N<=r->ab r=none)->aR aj 134 args ab (FJ args ab))/\∀r,ab r=none->(FJ args ab).ab r=none:=by
 intro args ab h;unfold FJ at h⊢;split at h
 ·rename_i q i;obtain⟨⟨v,hv⟩,hs,⟨i0,i1⟩,hl⟩:=h;rw[eW hv]at hs hl⊢;obtain⟨i,rfl⟩:=Zae i0;exact⟨λN hN=>aR.of (t1134 hN hv hs (by omega) hl) rfl rfl,λr hr=>gJ hv _ hr⟩
 ·exact h.elim
def ok1134{l:List (Nat×DM.Spec)}(h:ay aj (bu l)):ay aj (bu ((134,eS FJ)::l)):=ay.gS h k1134_ok
end Kn
end cC
end Go.Proofs
