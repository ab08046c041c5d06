/- Part. Conditions: none. -/
import Derived.Test.YtbmaafemenldnaaGreatDoorYac
import Derived.RangeFuncRecord
import Derived.RangeFuncNested
import Derived.KernelRfl
set_option linter.all false
namespace Go.DM
open Go.RowKit
section
variable{st:lK}{f:FuncId}{cz:aG}{AR:List (aG)}{d:DC}{r bn:Nat}{o0:fS}{iL:Bool}{rs:cA}
variable [bD] [dF]
structure af1(P:Program)(f:FuncId)(cz:aG)(AR:List (aG)):Prop where
 entry:Cg P f
 run:∀(l:Nat) (J:fm->List (aG)->World->Prop) (W:fm) (A:World) (vs:Array Value),Yields P l J->J W AR A->dt A W cz vs.toList->(∀b,W b->b<A.heap.size)->BY A W->
  Calls P f (#[.func (.yield l) #[] #[]]++vs) A λe B=>(∃v,e=.returned v)/\∃W',J W' [] B
def CL(f:dW):cN->aG->Nat->DV
 |p::ps,x::xs=>CL (cO f (some p) (.v x)) ps xs
 |_,_=>f
section
variable{P:Program}{nt:Nat}
def Fj{A:World}{W:fm}{ab:bS}{L:Loc}:∀(ps:cN) (x:aG) (cT:List Value) (f:dW) (tm:Array Value),(∀p∈ps,p<nt)->tm.size=nt->x.length=ps.length->eS A (WW W ab L) x cT->
  (∀t,aD A W ab L (f t) (tm.getD t Go.undef))->
  ((ps.zip cT).foldl (λt (pv:Nat×Value)=>t.setIfInBounds pv.1 pv.2) tm).size=nt/\∀t,aD A W ab L (CL f ps x t) (((ps.zip cT).foldl (λt (pv:Nat×Value)=>t.setIfInBounds pv.1 pv.2) tm).getD t Go.undef)
 |[],x,cT,f,tm,_,hs,hl,hr,hf=>by
  have:x=[]:=oK (by simpa using hl);subst this;exact⟨by simpa using hs,by simpa [CL]using hf⟩
 |p::ps,[],cT,f,tm,_,_,hl,_,_=>by simp at hl
 |p::ps,y::x,cT,f,tm,hp,hs,hl,hr,hf=>by
  simp only[eS]at hr;obtain⟨v,jz,rfl,h1,h2⟩:=hr;simp only[List.zip_cons_cons,Br,CL];refine Fj ps x jz _ _ (λq hq=>hp q (Ib _ hq)) (by simpa using hs) (by simpa using hl) h2 λt=>?_;rw[Ci _ _ _ _ (by rw[hs];exact hp p (Iu ..))];simp only[cO];by_cases ht:t=p
  .simp only[ht,Eg,aD];exact h1
  .simp only[ht,A0];exact hf t
def MF(qs:Array Nat)(cT:Array Value)(tm:Array Value):(qs.zip cT).foldl (λt (p,v)=>t.setIfInBounds p v) tm=(qs.toList.zip cT.toList).foldl (λt (pv:Nat×Value)=>t.setIfInBounds pv.1 pv.2) tm:=by
 rw[<-Array.foldl_toList,Array.toList_zip]
def R6{ro:Option Nat}{w:World}{fn:FuncId}{tm:Array Value}{ps:Array Nat}{y z:Code}(th:∀l,ro=some l->∃r,w.heap[l]? =some (.loop r)):
  ∃(l:Nat) (Ds:cN) (W1:World) (rec:Loop),(Instr.enterLoop fn tm ps y z ro).run P w=.ok (l,Ds.map mark) W1/\xl w.heap.size w W1/\w.heap.size<=l/\W1.heap[l]? =some (.loop rec)/\
   rec.state=.ready/\rec.pending=none/\rec.fn=fn/\rec.tmps=tm/\rec.params=ps/\rec.assign=y/\rec.body=z/\Ds.Nodup/\(∀D∈Ds,W1.heap[D]? =some (.deferred (some []))/\w.heap.size<=D):=by
 cases ro with
 |none=>
  refine⟨_,[w.heap.size],_,{state:=.ready,pending:=none,fn,tmps:=tm,params:=ps,assign:=y,body:=z,defers:=w.heap.size},run_enterLoop_outer _ _ _ _ _, ?_,by simp, ?_,rfl,rfl,rfl,rfl,rfl,rfl,rfl,by simp, ?_⟩
  .exact⟨((Below.refl _ w).alloc (gJ _) _).alloc (by simp) _,gJ _⟩
  .have:=World.alloc_heap_new (w.alloc (.deferred (some []))) (.loop {state:=.ready,pending:=none,fn,tmps:=tm,params:=ps,assign:=y,body:=z,defers:=w.heap.size})
   rwa [World.size_alloc]at this
  .intro D hD;simp only[uy]at hD;subst hD;exact⟨(Below.heap_alloc _ _ _ (by simp)).trans (World.alloc_heap_new w _),gJ _⟩
 |some l0=>
  obtain⟨r0,hr0⟩:=th l0 rfl;refine⟨_,[],_,{state:=.ready,pending:=none,fn,tmps:=tm,params:=ps,assign:=y,body:=z,defers:=r0.defers},run_enterLoop_inner hr0 _ _ _ _ _, ?_,gJ _,World.alloc_heap_new w _,rfl,rfl,rfl,rfl,rfl,rfl,rfl,Zcx,λD hD=>by cases hD⟩;exact⟨(Below.refl _ w).alloc (gJ _) _,gJ _⟩
def aa.yI{Q:Exit->lK->Prop}{g:bK}{ps:cN}{as bs:DC}(uT:af1 P f cz AR)(py:0<st.low)
  (hg:g.ev st.tmps=.v (.fn (.func f) cz)) (ct:∀x∈AR,x.length=ps.length) (R:List (aG)->bS) (hR0:R []=st.ab) (CM:∀pre r,st.aP<=r->R pre r=none)
  (round:∀pre x rest,AR=pre++x::rest->aa P nt as (λe s1=>e=.normal/\aa P nt bs (λe s2=>e=.normal/\Le s2 ⟨λ_=>.undef,R (pre++[x]),st.aP,st.aP,[]⟩) s1) ⟨CL st.tmps ps x,R pre,st.aP,st.aP,[]⟩)
  (done:Q .normal ⟨st.tmps,R AR,st.aP,st.low,st.todo⟩):aa P nt (.yI g ps as bs) Q st:=by
 refine⟨λc hc=>?_⟩;obtain⟨g',qs,y,z,rfl,hg',rfl,cQ,hy,hz⟩:=Mr hc;intro n κ a w L gd r;have hJ:κ.J=none:=by
  cases hj:κ.J with
  |none=>rfl
  |some J=>have:=r.it (by rw[hj];rfl);omega
 obtain⟨W,base,M,w0,gG,h0⟩:=r.r.ex;have Cl:=gG;unfold oT.At at Cl;simp only[hJ]at Cl;obtain⟨htd,rfl,rfl,rfl,rfl⟩:=Cl;have hgv:=bK.bJ h0.o.gl h0.tmps hg';rw[hg]at hgv;simp only[aD,be]at hgv;obtain⟨vs,hgv,Fa⟩:=hgv;have io:κ.base<=w.heap.size:=zN h0.o.fr.jN h0.o.fr.size;have Bf:∀b,WW κ.W st.ab L b->b<w.heap.size:=by
  rintro b (hb|⟨r',o',h1,h2⟩)
  .have:=h0.o.under b hb;omega
  .exact(h0.o.ob r' o' h1).lt h2
 refine wpIn_rangeFunc ?_;intro fn yB;obtain⟨l,Ds0,W1,rec,Cw,yC,Tl,hl1,r1,r2,r3,r4,r5,r6,r7,Bg,hDs⟩:=R6 (P:=P) (ro:=κ.ro) (w:=w) (fn:=fn) (tm:=a.tmps) (ps:=qs) (y:=y) (z:=z) (λl hl=>by
  obtain⟨rc,Ln⟩:=gd.rd l hl;obtain⟨rc',at2⟩:=oT.UI st.todo Ln;exact⟨rc',r.r.gq.cL.Rj l rc' at2⟩)
 obtain⟨fnE,at3,dd,Rz⟩:=uT.entry;have hDl:∀D∈Ds0,D≠l:=λD hD e=>by
  have:=(hDs D hD).1;rw[e,hl1]at this;cases this
 let J:fm->List (aG)->World->Prop:=λWk todo A=>∃pre L',AR=pre++todo/\ci κ.base κ.W κ.M κ.w0 (R pre) A L'/\jA κ.W st.ab L w (R pre) L' A/\(∀b,WW κ.W (R pre) L' b->Wk b)/\
  A.heap[l]? =some (.loop rec)/\(∀D∈Ds0,A.heap[D]? =some (.deferred (some [])))/\∀b,Wk b->b<A.heap.size
 have at4:({rec with state:=.ready,pending:=none}:Loop)=rec:=by cases rec;simp_all
 have af2:Yields P l J:=by
  refine⟨?_, ?_⟩
  .rintro Wk todo A B ⟨pre,L',h1,h2,h3,h4,h5,h6,h7⟩ hb;obtain⟨hO,hA⟩:=ci.grow h2 hb;refine⟨pre,L',h1,hO,h3.comp hA (λ_ h=>.inl h) (λ_ h=>h),h4, ?_,λD hD=>?_,λb hw=>ze (h7 b hw) hb.size⟩
   .exact(hb.block l (cM.1 h5).1).trans h5
   .exact(hb.block D (cM.1 (h6 D hD)).1).trans (h6 D hD)
  .rintro Wk x rest cT A ⟨pre,L',h1,h2,h3,h4,h5,h6,h7⟩ hx;have wX:x.length=qs.toList.length:=ct x (by rw[h1];simp);have qN:cT.size=rec.params.size:=by
    have:=eS.length hx;rw[r5];simpa [wX]using this
   have OX:=run_yield (P:=P) (args:=cT) h5 qN;rw[r3,r4,r5,r6,r7]at OX;refine⟨_,_,_,_,OX, ?_⟩;have aml:κ.base<=A.heap.size:=zN h2.fr.jN h2.fr.size;have hlA:=(cM.1 h5).1;have hxW:eS A (WW κ.W (R pre) L') x cT.toList:=by
    have hk:=c8.refl Wk A;have conv:∀(ts:aG) (vs:List Value),eS A Wk ts vs->eS A (WW κ.W (R pre) L') ts vs:=λts vs h=>eS.aL hk.toKeepsC (λb _ hb=>h4 b hb) ts vs h
    exact conv _ _ hx
   have nJ:∀t,aD A κ.W (R pre) L' (st.tmps t) (a.tmps.getD t Go.undef):=λt=>aD.gq h3 _ _ (h0.tmps t);have UD:=Fj (nt:=nt) qs.toList x cT.toList st.tmps a.tmps cQ h0.size wX hxW nJ;rw[<-MF]at UD
   let κ1:oT:=⟨κ.W,R pre,L',A,κ.base,κ.M,κ.w0,none,some l,none⟩
   have amm:κ1.Good P:=⟨λJ hJ=>(by cases hJ),λl r s hY=>(by cases hY),λl' hl'=>by cases hl';exact⟨rec,h5⟩⟩;have at5:Ms κ1 nt ⟨CL st.tmps qs.toList x,R pre,st.aP,st.aP,[]⟩ {tmps:=(qs.zip cT).foldl (λt (p,v)=>t.setIfInBounds p v) a.tmps,defers:=[]} A L':=
    ⟨⟨⟨κ.W,κ.base,κ.M,κ.w0,⟨λ_=>rfl,rfl,rfl,rfl,rfl⟩,UD.1,UD.2,h2⟩,jA.cS (c8.refl _ _),⟨[],rfl,Zcx,(λ_ h=>by cases h),λ_=>rfl⟩,λ_=>aml,⟨st.aP,CM pre⟩⟩,CM pre,CM pre,λh=>by cases h⟩
   refine roundIn_of_wpIn trivial ?_;refine wpIn_mono ((round pre x rest h1).run y hy 0 κ1 _ A L' amm at5) ?_;rintro e a' w' ⟨s1,L1,⟨rfl,amn⟩,R7⟩;have G1:jA κ.W (R pre) L' A s1.ab L1 w':=R7.r.gq;have BS:w'.heap[l]? =some (.loop rec):=G1.cL.Rj l rec h5;have at6:=(cM.1 BS).1;refine⟨_,run_beginRound BS r1, ?_⟩
   let busy:Loop:={rec with state:=.busy}
   let κ2:oT:=⟨κ.W,R pre,L',A.putObj l (.loop busy),κ.base,κ.M,κ.w0,none,some l,none⟩
   have hsA:(A.putObj l (.loop busy)).heap.size=A.heap.size:=by simp[World.putObj]
   have pB:(w'.putObj l (.loop busy)).heap.size=w'.heap.size:=by simp[World.putObj]
   have gA:(A.putObj l (.loop busy)).heap[l]? =some (.loop busy):=World.putObj_heap_same hlA;have gw':(w'.putObj l (.loop busy)).heap[l]? =some (.loop busy):=World.putObj_heap_same at6;have oA:∀b,b≠l->(A.putObj l (.loop busy)).heap[b]? =A.heap[b]? :=λb hb=>World.putObj_heap_other hb;have ow:∀b,b≠l->(w'.putObj l (.loop busy)).heap[b]? =w'.heap[b]? :=λb hb=>World.putObj_heap_other hb;have ZQ:¬Obj.plain (.loop rec):=λe=>e;have amo:κ2.Good P:=⟨λJ hJ=>(by cases hJ),λl r s hY=>(by cases hY),λl' hl'=>by cases hl';exact⟨busy,gA⟩⟩;have hlb:κ.base<=l:=zN io Tl;have at7:jA κ.W (R pre) L' (A.putObj l (.loop busy)) s1.ab L1 (w'.putObj l (.loop busy)):=by
    refine⟨⟨⟨by rw[hsA,pB];exact G1.cL.size,λb c e fr hb hn=>?_⟩,λb hb=>?_,λb rr hb=>?_⟩,λb hb hw=>?_,G1.fix,G1.bm,G1.yl⟩
    .have dd:b≠l:=by rintro rfl;rw[gA]at hb;cases hb
     rw[oA b dd]at hb;rw[ow b dd];exact G1.cL.jK b c e fr hb hn
    .have dd:b≠l:=by rintro rfl;rw[gA]at hb;cases hb
     rw[oA b dd]at hb;rw[ow b dd];exact G1.cL.OI b hb
    .by_cases dd:b=l
     .subst dd;rw[gA]at hb;rw[gw'];exact hb
     .rw[oA b dd]at hb;rw[ow b dd];exact G1.cL.Rj b rr hb
    .rw[hsA]at hb;exact G1.sub b hb hw
   have at8:Ms κ2 nt s1 a' (w'.putObj l (.loop busy)) L1:=by
    obtain⟨W2,alU,M2,w02,RM,h02⟩:=R7.r.ex;have av2:=RM;obtain⟨e0,e1,e2,e3,e4⟩:=RM
    replace h02:R0 κ.base κ.W κ.M κ.w0 nt s1.tmps s1.ab a' w' L1:=by rw[e1,e2,e3,e4]at h02;exact h02
    have wl:KeepsC (WW κ.W s1.ab L1) w' (w'.putObj l (.loop busy)):=⟨by rw[pB];exact gJ _,λb c e fr hb _=>l8 BS ZQ b _ trivial hb⟩;obtain⟨Ds,d1,d2,d3,d4⟩:=R7.r.defers;refine⟨⟨⟨κ.W,κ.base,κ.M,κ.w0,⟨e0,rfl,rfl,rfl,rfl⟩,h02.size,λt=>(mS wl (SizeOf.sizeOf (s1.tmps t)+1)).1 (s1.tmps t) _ (TZ _) (h02.tmps t),tW h02.o BS ZQ hlb⟩,at7,⟨Ds,d1,d2,λD hD=>?_,d4⟩,λ_=>by rw[hsA];exact aml,R7.r.dM⟩,R7.fresh,R7.low,λh=>by cases h⟩;have:=d3 D hD;refine⟨?_,by rw[hsA];exact this.2⟩;rw[ow D (by rintro rfl;rw[BS]at this;cases this.1)];exact this.1
   refine wpIn_mono (amn.run z hz 0 κ2 a' _ L1 amo at8) ?_;rintro e a3 w3 ⟨s3,L3,⟨rfl,hLe⟩,at9⟩;obtain⟨L4,amp⟩:=hLe κ2 nt a3 w3 L3 at9;have G2:jA κ.W (R pre) L' (A.putObj l (.loop busy)) (R (pre++[x])) L4 w3:=amp.r.gq;have hl3:w3.heap[l]? =some (.loop busy):=G2.cL.Rj l busy gA;have aua:=(cM.1 hl3).1;have af3:=run_endRound (P:=P) none hl3;simp only[Option.isNone_none,Eg]at af3;have hbr:({busy with state:=.ready,pending:=none}:Loop)=rec:=by rw[<-at4]
   rw[hbr]at af3;refine⟨_,_,af3,rfl, ?_⟩;have hs3:(w3.putObj l (.loop rec)).heap.size=w3.heap.size:=by simp[World.putObj]
   have g3:(w3.putObj l (.loop rec)).heap[l]? =some (.loop rec):=World.putObj_heap_same aua;have o3:∀b,b≠l->(w3.putObj l (.loop rec)).heap[b]? =w3.heap[b]? :=λb hb=>World.putObj_heap_other hb;have hnb:¬Obj.plain (.loop busy):=λe=>e;have Vh:jA κ.W (R pre) L' A (R (pre++[x])) L4 (w3.putObj l (.loop rec)):=by
    refine⟨⟨⟨by rw[hs3];have:=G2.cL.size;rw[hsA]at this;exact this,λb c e fr hb hn=>?_⟩,λb hb=>?_,λb rr hb=>?_⟩,λb hb hw=>?_,G2.fix,G2.bm,G2.yl⟩
    .have dd:b≠l:=by rintro rfl;rw[h5]at hb;cases hb
     rw[o3 b dd];exact G2.cL.jK b c e fr (by rw[oA b dd];exact hb) hn
    .have dd:b≠l:=by rintro rfl;rw[h5]at hb;cases hb
     rw[o3 b dd];exact G2.cL.OI b (by rw[oA b dd];exact hb)
    .by_cases dd:b=l
     .subst dd;rw[h5]at hb;rw[g3];exact hb
     .rw[o3 b dd];exact G2.cL.Rj b rr (by rw[oA b dd];exact hb)
    .exact G2.sub b (by rw[hsA];exact hb) hw
   obtain⟨W5,av3,M5,w05,aub,h05⟩:=amp.r.ex;obtain⟨_,e1,e2,e3,e4⟩:=aub
   replace h05:ci κ.base κ.W κ.M κ.w0 (R (pre++[x])) w3 L4:=by have:=h05.o;rw[e1,e2,e3,e4]at this;exact this
   have hO4:ci κ.base κ.W κ.M κ.w0 (R (pre++[x])) (w3.putObj l (.loop rec)) L4:=tW h05 hl3 hnb hlb;have awb:κ.base<=(w3.putObj l (.loop rec)).heap.size:=zN hO4.fr.jN hO4.fr.size;have amq:∀b,WW κ.W (R (pre++[x])) L4 b->b<(w3.putObj l (.loop rec)).heap.size:=by
    rintro b (hb|⟨r',o',q1,q2⟩)
    .have:=hO4.under b hb;omega
    .exact(hO4.ob r' o' q1).lt q2
   have hAw:A.heap.size<=(w3.putObj l (.loop rec)).heap.size:=Vh.cL.size;refine⟨λb=>Wk b\/WW κ.W (R (pre++[x])) L4 b,⟨pre++[x],L4,by rw[h1];simp,hO4,h3.comp Vh (λ_ h=>.inl h) (λ_ h=>h),λb hb=>.inr hb,g3,λD hD=>Vh.cL.OI D (h6 D hD), ?_⟩,Vh.cL.mono h4, ?_,λb hb=>.inl hb⟩
   .rintro b (hb|hb)
    .exact ze (h7 b hb) hAw
    .exact amq b hb
   .rintro b (hb|hb)
    .exact⟨ze (h7 b hb) hAw,.inl hb⟩
    .refine⟨amq b hb, ?_⟩;by_cases auc:b<A.heap.size
     .exact .inl (h4 b (Vh.sub b auc hb))
     .exact .inr (by omega)
 obtain⟨Iq,hA1⟩:=ci.grow h0.o yC;have hJ1:J (WW κ.W st.ab L) AR W1:=⟨[],L,rfl,by rw[hR0];exact Iq,by rw[hR0];exact hA1,by rw[hR0];exact λb hb=>hb,hl1,λD hD=>(hDs D hD).1,λb hb=>ze (Bf b hb) yC.size⟩;refine⟨l,Ds0.map mark,W1,{target:=.fn (.func f) vs,args:= #[.func (.yield l) #[] #[]]},W1,f, #[.func (.yield l) #[] #[]]++vs,W1,Cw, ?_,λ_ _=>trivial, ?_,(λh=>by cases h), ?_⟩
 .simp only[resolve,hgv,Deferred.ofValue];simp[Act.eval]
 .simp[invoke,callFunc,at3,dd];intro xI;simp[xI]at Rz
 .refine jW ((uT.run l J (WW κ.W st.ab L) W1 vs af2 hJ1 ?_ (λb hb=>ze (Bf b hb) yC.size) Iq.gl).mono ?_)
  .exact dt.aL (c8.Zx yC.toBelow (W:=WW κ.W st.ab L)).toKeepsC (λ_ _ h=>h) _ _ Fa
  .rintro e B ⟨⟨v,rfl⟩,W',pre,L',h1,h2,h3,h4,h5,h6,h7⟩;have:pre=AR:=by simpa using h1.symm
   subst this;refine⟨none,_,by have:=run_endLoop (P:=P) h5 (by rw[r1];simp);rw[r2]at this;exact this, ?_⟩;have hlB:=(cM.1 h5).1
   let off:Loop:={rec with state:=.exhausted,pending:=none}
   have ZQ:¬Obj.plain (.loop rec):=λe=>e;have hlb:κ.base<=l:=zN io Tl;have hsB:(B.putObj l (.loop off)).heap.size=B.heap.size:=by simp[World.putObj]
   have oB:∀b,b≠l->(B.putObj l (.loop off)).heap[b]? =B.heap[b]? :=λb hb=>World.putObj_heap_other hb;have wl:KeepsC (WW κ.W (R pre) L') B (B.putObj l (.loop off)):=⟨by rw[hsB];exact gJ _,λb c e fr hb _=>l8 h5 ZQ b _ trivial hb⟩;have hgw:(κ.Il st.todo).heap.size<=w.heap.size:=r.r.gq.cL.size;have amr:=hgw;rw[oT.xH]at amr;have aud:jA κ.W κ.go κ.gL (κ.Il st.todo) (R pre) L' (B.putObj l (.loop off)):=by
    have h:=r.r.gq.comp h3 (λ_ h=>.inl h) (λ_ h=>h);refine⟨⟨⟨by rw[hsB];exact h.cL.size,λb c e fr hb hn=>l8 h5 ZQ b _ trivial (h.cL.jK b c e fr hb hn)⟩,λb hb=>?_,λb rr hb=>?_⟩,h.sub,h.fix,h.bm,h.yl⟩
    .rw[oB b (by have:=(cM.1 hb).1;omega)];exact h.cL.OI b hb
    .rw[oB b (by have:=(cM.1 hb).1;omega)];exact h.cL.Rj b rr hb
   obtain⟨Ds,d1,d2,d3,d4⟩:=r.r.defers;refine⟨_,L',done,⟨⟨κ.W,κ.base,κ.M,κ.w0,gG,h0.size,λt=>(mS wl (SizeOf.sizeOf (st.tmps t)+1)).1 (st.tmps t) _ (TZ _) (aD.gq h3 _ _ (h0.tmps t)),tW h2 h5 ZQ hlb⟩,aud,⟨Ds0++Ds,by rw[Lc,<-d1], ?_,λD hD=>?_,λh=>by rw[hJ]at h;cases h⟩,r.r.bg,⟨st.aP,CM pre⟩⟩,CM pre,r.low,r.it⟩
   .rw[Zct];refine⟨Bg,d2,λD hD D' hD' e=>?_⟩;subst e;have k1:=(hDs D hD).2;have k2:=(cM.1 (d3 D hD').1).1;omega
   .rcases lF.1 hD with hD|hD
    .refine⟨?_,zN amr (hDs D hD).2⟩;rw[oB D (hDl D hD)];exact h6 D hD
    .refine⟨?_,(d3 D hD).2⟩;have k2:=(cM.1 (d3 D hD).1).1;rw[oB D (by omega)];exact h3.cL.OI D (d3 D hD).1
def MG:Exit->lK->Prop
 |.normal,st|.ret,st=>st.todo=[]
 |_,_=>False
def Jr(cz:aG)(AR:List (aG)):lK:=⟨λk=>match k with|0=>.BZ|k+1=>AP cz[k]?,λ_=>none,1000,0,AR⟩
def aR.okI(h:aR P f nt d [])(ct:cz.length+1<=nt)(k:aa P nt d MG (Jr cz AR))(Tm:(dF.k:Option (Nat×(bW->bS->iw)))=none:=by rfl):af1 P f cz AR:=by
 have Cw:=h.entry;obtain⟨fn,yB,rfl,h3,hr,_⟩:=h;obtain⟨c,hb,hc⟩:=ju.1 h3;refine⟨Cw,λl J W A vs hy hj ip hW hg=>?_⟩;have hl:=dt.length ip;simp only[Lt]at hl;have xN:Ms ⟨W,λ_=>none,⟨λ_=>0,λ_=>Go.undef,l⟩,A,0,λ_=>False,A,some J,none,none⟩ fn.ntmps (Jr cz AR) {tmps:=(#[.func (.yield l) #[] #[]]++vs)++Array.replicate (fn.ntmps-(#[Value.func (.yield l) #[] #[]]++vs).size) Go.undef,defers:=[]} A ⟨λ_=>0,λ_=>Go.undef,l⟩:=by
  refine⟨⟨⟨W,A.heap.size,λ_=>False,A,⟨hj,rfl,rfl,λb hb=>.inl hb,λb hb=>hb⟩,by simp;omega,λk=>?_,⟨Fr.refl (gJ _),(λr o h=>by cases h),(λr r' o o' b _ h=>by cases h),(λr o b h=>by cases h),hW,hg.start⟩⟩,
   jA.cS (c8.refl _ _),⟨[],rfl,Zcx,(λ_ h=>by cases h),λ_=>rfl⟩,(λh=>by cases h),⟨0,λ_ _=>rfl⟩⟩,λ_ _=>rfl,λ_ _=>rfl,λ_=>rfl⟩
  simp only[Jr];cases k with
  |zero=>simp only[aD];exact qw (by simp)
  |succ k=>
   simp only;cases hk:cz[k]? with
   |some x=>
    obtain⟨v,hv,_,nk⟩:=dt.get ip hk;have sG:(#[Value.func (.yield l) #[] #[]]++vs).toList[k+1]? =some v:=by simpa using hv
    simp only[qw sG,AP,aD];refine be.aL (c8.refl W A).toKeepsC ?_ x v nk;rintro b hb (h|⟨r,o,h,_⟩)
    .exact h
    .cases h
   |none=>
    have Ba:(#[Value.func (.yield l) #[] #[]]++vs).size<=k+1:=by
     have:=Zcc.1 hk;simp;omega
    simp only[AP,aD,qx Ba]
 refine callsIn_wide.1 (callsIn_of_wp_marks (n:=0) yB hb trivial ?_);refine wpIn_mono (k.run c hc 0 _ _ _ _ ⟨λJ' hJ=>(by cases hJ;exact⟨hy,Tm,rfl⟩),λl r s hY=>(by cases hY),λl hl=>(by cases hl)⟩ xN) ?_;rintro e a' w' ⟨ir,L',q,r'⟩;have done:ir.todo=[]->LeavesInM Fence.wide 0 P fn a'.tmps (λe B=>(∃v,e=.returned v)/\∃W',J W' [] B) a'.defers .returning w':=by
  intro hq;obtain⟨Ds,h1,h2,h3,h4⟩:=r'.r.defers;have hD0:=h4 rfl;subst hD0;rw[h1];obtain⟨W',O3,M',w0',gG,h0⟩:=r'.r.ex;obtain⟨hj',rfl,rfl,_,_⟩:=gG;rw[show(⟨ir.tmps,ir.ab,ir.todo⟩:RS).todo=[]from hq]at hj';obtain⟨v,k1,_⟩:=ub (st:=ir) h0 (fT:=true) (W':=λ_=>False) (λ_ _ _ _ _ _ h=>h) (λ_ h=>h.elim) hr ⟨(trivial:t8 true ir []),rfl⟩;have fr:=h0.o.fr;exact⟨v,k1,⟨v,rfl⟩,W',hy.adZ W' [] w0' w' hj' ⟨⟨fr.os,fr.tape,fr.output,fr.size,λk hk=>fr.block k hk (λx=>x)⟩,fr.drawn⟩⟩
 cases e with
 |normal=>exact done q
 |ret=>exact done q
 |_=>exact q.elim
end
def oM(ab aM:bS)(σ:Nat->Nat)(tm:dW):pe->Prop
 |[]=>True
 |(k,d)::l=>jJ ab aM σ (tm k) d/\oM ab aM σ tm l
def wt(ab aM:bS)(σ:Nat->Nat):fS->Prop
 |[]=>True
 |(r,o)::l=>(∃o0,ab (σ r)=some o0/\jx ab aM σ o0 o)/\wt ab aM σ l
def lr(n:Nat):fS->Prop
 |[]=>True
 |(r,_)::l=>r<n/\lr n l
def fC(n:Nat):fS->Prop
 |[]=>True
 |(r,_)::l=>n<=r/\fC n l
def G3(σ:Nat->Nat)(r:Nat):fS->Prop
 |[]=>True
 |(r',_)::l=>(σ r=σ r'->r=r')/\G3 σ r l
def Bl(σ:Nat->Nat):fS->Prop
 |[]=>True
 |(r,_)::l=>G3 σ r l/\Bl σ l
def pJ:∀{l:fS} {r:Nat} {o:Ob},cR l r=some o->(r,o)∈l
 |[],_,_,h=>by cases h
 |(j,x)::l,r,o,h=>by
  simp only[cR]at h;split at h
  .rename_i e;cases h;subst e;exact Iu ..
  .exact Ib _ (pJ h)
def Pa{l:fS}(h:cR l r≠none):∃o,(r,o)∈l:=by
 cases ho:cR l r with
 |none=>exact qe ho h
 |some o=>exact⟨o,pJ ho⟩
def m9{n:Nat}:∀{l:fS},lr n l->∀r o,(r,o)∈l->r<n
 |[],_,_,_,h=>by cases h
 |(j,x)::l,hk,r,o,h=>by
  rcases jv.1 h with e|h
  .cases e;exact hk.1
  .exact m9 hk.2 r o h
def xS{n:Nat}:∀{l:fS},fC n l->∀r o,(r,o)∈l->n<=r
 |[],_,_,_,h=>by cases h
 |(j,x)::l,hk,r,o,h=>by
  rcases jv.1 h with e|h
  .cases e;exact hk.1
  .exact xS hk.2 r o h
def wu{ab aM:bS}{σ:Nat->Nat}:∀{l:fS},wt ab aM σ l->∀r o,(r,o)∈l->∃o0,ab (σ r)=some o0/\jx ab aM σ o0 o
 |[],_,_,_,h=>by cases h
 |(j,x)::l,hk,r,o,h=>by
  rcases jv.1 h with e|h
  .cases e;exact hk.1
  .exact wu hk.2 r o h
def wv{σ:Nat->Nat}{r:Nat}:∀{l:fS},G3 σ r l->∀r' o,(r',o)∈l->σ r=σ r'->r=r'
 |[],_,_,_,h=>by cases h
 |(j,x)::l,hk,r',o,h=>by
  rcases jv.1 h with e|h
  .cases e;exact hk.1
  .exact wv hk.2 r' o h
def Aj{σ:Nat->Nat}:∀{l:fS},Bl σ l->∀r1 r2 o1 o2,(r1,o1)∈l->(r2,o2)∈l->σ r1=σ r2->r1=r2
 |[],_,_,_,_,_,h,_=>by cases h
 |(j,x)::l,hk,r1,r2,o1,o2,h1,h2=>by
  rcases jv.1 h1 with e1|h1
  .cases e1;rcases jv.1 h2 with e2|h2
   .cases e2;exact λ_=>rfl
   .exact wv hk.1 r2 o2 h2
  .rcases jv.1 h2 with e2|h2
   .cases e2;exact λe=>(wv hk.1 r1 o1 h1 e.symm).symm
   .exact Aj hk.2 r1 r2 o1 o2 h1 h2
@[simp] def aaG(σ:Nat->Nat)(r:Nat):gone (cR []) σ r:=λr' h=>by simp[cR]at h
def Vi{σ:Nat->Nat}{j:Nat}{o:Ob}{l:fS}(h1:σ j≠r)(h2:gone (cR l) σ r):gone (cR ((j,o)::l)) σ r:=by
 intro r' nl;by_cases hj:r'=j
 .subst hj;exact h1
 .exact h2 r' (by rw[tB,iK hj]at nl;exact nl)
def xT{ab aM:bS}{σ:Nat->Nat}{tm:dW}:∀(l:pe),oM ab aM σ tm l->∀k,jJ ab aM σ (tm k) (look l k)
 |[],_,k=>by
  show jJ ab aM σ (tm k) .undef;cases tm k<;>simp[jJ]
 |(j,d)::l,h,k=>by
  simp only[look];split
  .rename_i e;subst e;exact h.1
  .exact xT l h.2 k
def Le.aue{tm:dW}{o:fS}{l:pe}{aP:Nat}{td:List (aG)}{low:Nat}(σ:Nat->Nat)(Fh:fC low o0)(hk:lr bn o)(ha:Bl σ o)
  (eH:wt (cR o0) (cR o) σ o) (nJ:oM (cR o0) (cR o) σ tm l):Le ⟨tm,cR o0,aP,low,td⟩ ⟨look l,cR o,bn,low,td⟩:=by
 refine Le.cor σ rfl rfl (λr hr=>?_) (λr' o' h=>wu eH r' o' (pJ h)) (λr1 r2 h1 h2 e=>?_) (λr hr o' h=>?_) (λk=>xT l nJ k)
 .cases ho:cR o r with
  |none=>exact ho
  |some x=>have:=m9 hk r x (pJ ho);simp only at hr;omega
 .obtain⟨x1,k1⟩:=Pa h1;obtain⟨x2,k2⟩:=Pa h2;exact Aj ha r1 r2 x1 x2 k1 k2 e
 .have:=xS Fh r o' (pJ h);simp only at hr;omega
def Le.aL{tm:dW}{o:fS}{l:pe}{aP:Nat}{td:List (aG)}{low:Nat}(Fh:fC low o0)(hk:lr bn o)
  (eH:wt (cR o0) (cR o) id o) (nJ:oM (cR o0) (cR o) id tm l):Le ⟨tm,cR o0,aP,low,td⟩ ⟨look l,cR o,bn,low,td⟩:=by
 refine Le.aue id Fh hk ?_ eH nJ;clear hk eH nJ;induction o with
 |nil=>trivial
 |cons p o ih=>
  refine⟨?_,ih⟩;clear ih;induction o with
  |nil=>trivial
  |cons q o ih=>exact⟨λh=>h,ih⟩
attribute [simp] oM wt lr fC G3 Bl jJ kJ Vc Ve O8 O9 G0 jx
def Ak(tm:dW):pe->Prop
 |[]=>True
 |(k,d)::l=>tm k=d/\Ak tm l
def CN{tm:dW}:∀{l:pe},Ak tm l->∀k,look l k=.undef\/look l k=tm k
 |[],_,_=>.inl rfl
 |(j,d)::l,h,k=>by
  simp only[look];split
  .rename_i e;subst e;exact .inr h.1.symm
  .exact CN h.2 k
section
variable{P:Program}{nt:Nat}{Γ:kv}{Q:Exit->lK->Prop}{tm:dW}{ob:bS}{aP low:Nat}{td:List (aG)}
def aa.aee(bb:aw P Γ)(hm:P.follows .mixedOrders=true)(l:pe)(AQ:bS)
  (h:eW Γ aP rs ⟨tm,ob,td⟩ λs=>Ak s.tmps l/\s.ab=AQ/\s.todo=td) (k:Q .normal ⟨look l,AQ,aP+nt+1,low,td⟩):aa P nt (.region iL rs) Q ⟨tm,ob,aP,low,td⟩:=by
 obtain⟨h1,h2,h3,h4⟩:=jS _ _ _ h;refine aa.rN (Q:=λe s=>e=.normal/\s=⟨(dQ Γ aP rs ⟨tm,ob,td⟩).tmps,(dQ Γ aP rs ⟨tm,ob,td⟩).ab,aP+nt+1,low,(dQ Γ aP rs ⟨tm,ob,td⟩).todo⟩) (aa.region bb hm (st:=⟨tm,ob,aP,low,td⟩) h1 ⟨rfl,rfl⟩) ?_;rintro e s ⟨rfl,rfl⟩;refine⟨_,Le.vN (CN h2), ?_⟩;simp only[h3,h4];exact k
def aa.xj(bb:aw P Γ)(hm:P.follows .mixedOrders=true){b:DC}(l:pe)(AQ:bS)
  (h:eW Γ aP rs ⟨tm,ob,td⟩ λs=>Ak s.tmps l/\s.ab=AQ/\s.todo=td) (k:aa P nt b Q ⟨look l,AQ,aP+nt+1,low,td⟩):aa P nt (.seq (.region iL rs) b) Q ⟨tm,ob,aP,low,td⟩:=
 aa.seq (aa.aee bb hm l AQ h k)
def aa.bL(bb:aw P Γ)(hm:P.follows .mixedOrders=true){b:DC}(l:pe)
  (h:eW Γ aP rs ⟨tm,ob,td⟩ λs=>Ak s.tmps l/\s.ab=ob/\s.todo=td) (k:aa P nt b Q ⟨look l,ob,aP+nt+1,low,td⟩):aa P nt (.seq (.region iL rs) b) Q ⟨tm,ob,aP,low,td⟩:=
 aa.xj bb hm l ob h k
def aa.to(A2:lK)(h:aa P nt d (λe s=>e=.normal/\Le s A2) st)(k:Q .normal A2):aa P nt d Q st:=
 aa.rN h λe s ⟨h1,h2⟩=>by subst h1;exact⟨A2,h2,k⟩
end
section
variable{P:Program}{nt:Nat}{d:DC}{Q:Exit->lK->Prop}{low aP bn:Nat}
def aa.lk{tm:dW}{o0 o:fS}{l:pe}{td:List (aG)}(h:fC low o0/\lr bn o/\wt (cR o0) (cR o) id o/\oM (cR o0) (cR o) id tm l)(k:aa P nt d Q ⟨look l,cR o,bn,low,td⟩):aa P nt d Q ⟨tm,cR o0,aP,low,td⟩:=aa.le (Le.aL h.1 h.2.1 h.2.2.1 h.2.2.2) k
def aa.sq{Γ:kv}{tm:dW}{ob:bS}{td:List (aG)}(bb:aw P Γ)(hm:P.follows .mixedOrders=true){iL:Bool}{rs:cA}{b c:DC}(ks:cN)(h:eW Γ aP rs ⟨tm,ob,td⟩ λs=>aa P nt b (Fe (aa P nt c Q) Q) ⟨look (o5 ks s.tmps),s.ab,aP+nt+1,low,s.todo⟩):aa P nt (.seq (.seq (.region iL rs) b) c) Q ⟨tm,ob,aP,low,td⟩:=aa.seq (aa.ai bb hm ks h)
def aa.c0{st:lK}{x:bK}{a b:DC}(h:x.ev st.tmps=.v (.bool false))(k:aa P nt b Q st):aa P nt (.cond x a b) Q st:=aa.cond h (λg=>by cases g) λ_=>k
def aa.c1{st:lK}{x:bK}{a b:DC}(h:x.ev st.tmps=.v (.bool true))(k:aa P nt a Q st):aa P nt (.cond x a b) Q st:=aa.cond h (λ_=>k) λg=>by cases g
end
attribute [simp] Ak
end
section
variable{d:DC}{f ab:bS}{r:Nat}{args:bW}
variable [bD] [dF]
section
variable{P:Program}{nt:Nat}{Γ:kv}{Q:Exit->lK->Prop}{tm:dW}{ob:bS}{aP low:Nat}{td:List (aG)}
def aa.qV(bb:aw P Γ)(hm:P.follows .mixedOrders=true){iL:Bool}{rs:cA}(l:pe)
  (h:eW Γ aP rs ⟨tm,ob,td⟩ λs=>Ak s.tmps l/\s.ab=ob/\s.todo=td) (k:Q .normal ⟨look l,ob,aP+nt+1,low,td⟩):aa P nt (.region iL rs) Q ⟨tm,ob,aP,low,td⟩:=
 aa.aee bb hm l ob h k
end
def Fk:∀(ts:aG) (i k:Nat),look (((ts.map .v).zipIdx i).map λp=>(p.2,p.1)) k=.undef\/look (((ts.map .v).zipIdx i).map λp=>(p.2,p.1)) k=AP (if i<=k then ts[k-i]? else none)
 |[],i,k=>.inl rfl
 |t::ts,i,k=>by
  simp only[vG,ZcM,oF];split
  .rename_i h;subst h;exact .inr (by simp[AP])
  .rename_i h;rcases Fk ts (i+1) k with e|e
   .exact .inl e
   .right;rw[e];by_cases hk:i+1<=k
    .rw[ee hk,ee (by omega),show k-i=(k-(i+1))+1 by omega,Ou]
    .have:¬i<=k:=by omega
     rw[iK hk,iK this]
def R8{P:Program}{nt:Nat}{Q:Exit->lK->Prop}{cz:aG}{AR:List (aG)}
  (h:aa P nt d Q ⟨look ((0,.BZ)::((cz.map .v).zipIdx 1).map λp=>(p.2,p.1)),cR [],1000,0,AR⟩):aa P nt d Q (Jr cz AR):=by
 refine aa.le (Le.trans (Le.vN (st:=Jr cz AR) (tm:=look ((0,.BZ)::((cz.map .v).zipIdx 1).map λp=>(p.2,p.1))) λk=>?_) (λκ nt a w L r=>⟨L,r⟩)) h;simp only[oF];split
 .rename_i e;subst e;exact .inr rfl
 .rename_i e;rcases Fk cz 1 k with h|h
  .exact .inl h
  .rw[h];have:1<=k:=by omega
   rw[ee this];obtain⟨j,rfl⟩:∃j,k=j+1:=⟨k-1,by omega⟩;exact .inr rfl
def dx(f:bS)(r:Nat)(o:Ob):bS:=λk=>if k=r then some o else f k
def ME(f:bS)(r:Nat)(o:Ob)(k:Nat):dx f r o k=if k=r then some o else f k:=rfl
@[simp] def akA(f:bS)(r:Nat)(o o':Ob):cC (dx f r o) (some (r,o'))=dx f r o':=by
 funext k;simp only[Fg,dx];split<;>rfl
@[simp] def akB(f:bS)(r:Nat)(o o':Ob):dx (dx f r o) r o'=dx f r o':=by
 funext k;simp only[dx];split<;>rfl
def oG{o:Ob}(h:f r=some o):f=dx f r o:=by
 funext k;simp only[dx];split
 .rename_i e;rw[e,h]
 .rfl
def fj{o o':Ob}(h:f r=some o){k:Nat}(hk:f k=none):dx f r o' k=none:=by
 simp only[dx];split
 .rename_i e;rw[e,h]at hk;cases hk
 .exact hk
def Le.same{tm:dW}{ob:bS}{aP bn low:Nat}{td:List (aG)}{l:pe}(h:∀r,bn<=r->ob r=none)(hl:Ak tm l):Le ⟨tm,ob,aP,low,td⟩ ⟨look l,ob,bn,low,td⟩:=
 Le.trans (Le.vN (CN hl)) λκ nt a w L r=>⟨L,⟨r.r,h,r.low,r.it⟩⟩
def CO:∀(ds:bW) (i k:Nat),look ((ds.zipIdx i).map λp=>(p.2,p.1)) k=.undef\/look ((ds.zipIdx i).map λp=>(p.2,p.1)) k=Mv (if i<=k then ds[k-i]? else none)
 |[],i,k=>.inl rfl
 |t::ts,i,k=>by
  simp only[vG,ZcM,oF];split
  .rename_i h;subst h;exact .inr (by simp[Mv])
  .rename_i h;rcases CO ts (i+1) k with e|e
   .exact .inl e
   .right;rw[e];by_cases hk:i+1<=k
    .rw[ee hk,ee (by omega),show k-i=(k-(i+1))+1 by omega,Ou]
    .have:¬i<=k:=by omega
     rw[iK hk,iK this]
def iE{P:Program}{nt:Nat}{Q:Exit->lK->Prop}{N:Nat}(h:aa P nt d Q ⟨look (args.zipIdx.map λp=>(p.2,p.1)),ab,N,N,[]⟩):aa P nt d Q (Af args ab N):=by
 refine aa.le (Le.vN (st:=Af args ab N) (tm:=look (args.zipIdx.map λp=>(p.2,p.1))) λk=>?_) h;have:=CO args 0 k;simpa [Af]using this
def fA:∀{x:aG},(∀t∈x,xp t=true)->iA (x.map .v)
 |[],_=>trivial
 |t::x,h=>⟨h t (Iu ..),fA λt ht=>h t (Ib _ ht)⟩
@[simp] def Vj(ob:bS):∀x:aG,jr ob (x.map .v)=x
 |[]=>rfl
 |t::x=>by simp[Vj ob x]
@[simp] def ams(f:bS)(r:Nat)(o:Ob):dx f r o r=some o:=by simp[dx]
def vP(n:Nat)(x:aG):Prop:=x.length=n/\∀t∈x,xp t=true
def ce.of{P:Program}{f:FuncId}{r r':iw}(h:ce P f args ab r)(h1:r'.ab=r.ab)(h2:r'.val=r.val):ce P f args ab r':=by
 obtain⟨ok,val,ob⟩:=r;obtain⟨ok',awc,AQ⟩:=r';simp only at h1 h2;subst h1 h2;exact⟨h.entry,h.run⟩
end
section
variable{f ob:bS}{o':Ob}{r sz aP low:Nat}{tm:dW}{td:List (aG)}{σ:Nat->Nat}
variable [bD] [dF]
def Loc.at(L:Loc)(q:Nat)(x:Value):Loc:=⟨L.jK,λk=>if k=q then x else L.sl k,L.yl⟩
section
variable{base:Nat}{W M:fm}{w0 w:World}{ab:bS}{L:Loc}
def iJ{q:Nat}{o:Ob}(h:dx f q o r=some o'):(r=q/\o'=o)\/(r≠q/\f r=some o'):=by
 simp only[dx]at h;split at h
 .rename_i e;exact .inl ⟨e,(TT h).symm⟩
 .rename_i e;exact .inr ⟨e,h⟩
def uU{q:Nat}{o:Ob}(h:r≠q)(k:f r=some o'):dx f q o r=some o':=by
 simp only[dx,iK h,k]
def G7{q:Nat}{x:Value}{o:Ob}(h:r≠q):(L.at q x).own r o=L.own r o:=by
 cases o<;>simp[Loc.own,Loc.at,h]
def Bm{q:Nat}{a:Option Addr}{v e:Nat}{aC:List (aG)}:(L.at q (.slice a 0 0)).own q (.bm v e sz aC)=none:=by
 cases a<;>simp[Loc.own,Loc.at,bk]
def Vm{q:Nat}{a:Option Addr}{e:Nat}{b:Nat}(h:WW W (dx ab q (.bm 0 e sz [])) (L.at q (.slice a 0 0)) b):WW W ab L b:=by
 rcases h with h|⟨r,o,hr,hb⟩
 .exact .inl h
 .rcases iJ hr with⟨rfl,rfl⟩|⟨dd,hr⟩
  .rw[Bm]at hb;cases hb
  .rw[G7 dd]at hb;exact .inr ⟨r,o,hr,hb⟩
def G8{q:Nat}{a:Option Addr}{e:Nat}(hq:ab q=none):jA W ab L w (dx ab q (.bm 0 e sz [])) (L.at q (.slice a 0 0)) w:=by
 refine⟨c8.refl _ _,λb _ h=>Vm h,λr o hr hk=>?_,λr bG e' jt aC hr=>?_,rfl⟩
 .have dd:r≠q:=λh=>by rw[h,hq]at hr;cases hr
  exact⟨rfl,o,uU dd hr,rfl⟩
 .have dd:r≠q:=λh=>by rw[h,hq]at hr;cases hr
  exact⟨bG,e',jt,aC,uU dd hr,gJ _,λ_=>⟨by simp[Loc.at,dd],rfl,rfl⟩⟩
def Jv(hO:ci base W M w0 ab w L){q:Nat}{a:Option Addr}{e:Nat}(jc:0<sz)(hq:ab q=none):ci base W M w0 (dx ab q (.bm 0 e sz [])) w (L.at q (.slice a 0 0)):=by
 have hA:=G8 (W:=W) (w:=w) (L:=L) (a:=a) (e:=e) (sz:=sz) hq;refine⟨hO.fr,λr o hr=>?_,λr r' o o' b dd h1 h2 hb=>?_,λr o b hr hb=>?_,hO.under,hO.gl.aL hA.cL.toKeepsC hA.sub⟩
 .rcases iJ hr with⟨rfl,rfl⟩|⟨dd,hr⟩
  .refine⟨jc,λx hx=>(by cases hx),λg hg=>?_,.inl ⟨rfl,a,by simp[Loc.at]⟩⟩;exfalso;simp only[Loc.at,Eg]at hg;cases a<;>simp[bk]at hg
  .have hk:=hO.ob r o hr;cases o with
   |box cs=>
    obtain⟨c,f,aS,ip,hm⟩:=hk;exact⟨c,f,aS,aU.gq hA cs _ ip,hm⟩
   |map bZ agg c es=>
    obtain⟨bm,aS,ip,q1,q2,q3,hm⟩:=hk;exact⟨bm,aS,bH.gq hA es _ ip,q1,q2,q3,hm⟩
   |eo m s sn l=>
    obtain⟨aS,ON,hm⟩:=hk;exact⟨aS,(hA.mp m ON).2,hm⟩
   |bm bG e' jt aC=>
    obtain⟨g1,g2,g3,g4⟩:=hk;have hs:(L.at q (.slice a 0 0)).sl r=L.sl r:=by simp[Loc.at,dd]
    refine⟨g1,g2,by rw[hs];exact g3, ?_⟩;rw[hs];rcases g4 with g4|⟨g,cap,eJ,hv,hp,hh,k1,k2,k3,k4⟩
    .exact .inl g4
    .exact .inr ⟨g,cap,eJ,hv,hp,hh,k1,k2,k3,dt.aL (c8.refl (WW W ab L) w).toKeepsC (λb _ hb=>Vm hb) _ _ k4⟩
 .rcases iJ h1 with⟨rfl,rfl⟩|⟨n1,h1⟩
  .rw[Bm]at hb;cases hb
  .rw[G7 n1]at hb;rcases iJ h2 with⟨rfl,rfl⟩|⟨n2,h2⟩
   .rw[Bm];exact λh=>by cases h
   .rw[G7 n2];exact hO.apart r r' o o' b dd h1 h2 hb
 .rcases iJ hr with⟨rfl,rfl⟩|⟨n1,hr⟩
  .rw[Bm]at hb;cases hb
  .rw[G7 n1]at hb;exact hO.tK r o b hr hb
end
def Le.j7{k:Nat}(e:Nat)(jc:0<sz)(hk:tm k=.aZ):
  Le ⟨tm,ob,aP,low,td⟩ ⟨cO tm (some k) (.aW aP 0),dx ob aP (.bm 0 e sz []),aP+1,low,td⟩:=by
 intro κ nt a w L h;have hq:ob aP=none:=h.fresh aP (gJ _);obtain⟨W,base,M,w0,gG,h0⟩:=h.r.ex;have hx:=h0.tmps k;simp only[hk,aD]at hx;obtain⟨ad,hx⟩:=hx;have hA:=G8 (W:=W) (w:=w) (L:=L) (a:=ad) (e:=e) (sz:=sz) hq;have wn:=gG.sub;have kc:∀r,aP+1<=r->dx ob aP (.bm 0 e sz []) r=none:=λr hr=>by
  simp only[dx];rw[iK (by omega)];exact h.fresh r (by simp only;omega)
 refine⟨L.at aP (.slice ad 0 0),⟨⟨W,base,M,w0,gG,h0.size,λt=>?_,Jv h0.o jc hq⟩,jA.comp h.r.gq hA (gG.UH _) wn.2,h.r.defers,h.r.bg,⟨_,kc⟩⟩,kc,h.low,h.it⟩;simp only[cO];by_cases ht:t=k
 .subst ht;simp only[Eg,aD];refine⟨⟨ad,0,0,hx⟩,0,e,sz,[],by simp,gJ _,λ_=>?_⟩;rw[hx];simp[Loc.at]
 .simp only[ht,A0];exact aD.gq hA _ _ (h0.tmps t)
def Fo{w:World}{W:fm}{ab:bS}{L:Loc}:∀(cs:bW) (xs:List Value) (k:Nat) (d:DV),aU w W ab L cs xs->(∀x,xs[k]? =some x->aD w W ab L d x)->aU w W ab L (cs.set k d) xs
 |[],xs,k,d,h,_=>by simpa using h
 |c::cs,xs,0,d,h,hd=>by
  simp only[aU]at h;obtain⟨x,nj,rfl,h1,h2,h3⟩:=h;simp only[Zb7,aU];exact⟨x,nj,rfl,h1,hd x (by simp),h3⟩
 |c::cs,xs,k+1,d,h,hd=>by
  simp only[aU]at h;obtain⟨x,nj,rfl,h1,h2,h3⟩:=h;simp only[Zc0,aU];exact⟨x,nj,rfl,h1,h2,Fo cs nj k d h3 λy hy=>hd y (by simpa using hy)⟩
def Fp{w:World}{W:fm}{ab:bS}{L:Loc}:∀(cs:bW) (xs:List Value) (k:Nat) (d:DV) (x:Value),aU w W ab L cs xs->cs[k]? =some d->xs[k]? =some x->aD w W ab L d x
 |[],xs,k,d,x,h,hk,_=>by simp at hk
 |c::cs,xs,0,d,x,h,hk,hx=>by
  simp only[aU]at h;obtain⟨y,nj,rfl,h1,h2,h3⟩:=h;simp only[Bd,cq]at hk hx;subst hk hx;exact h2
 |c::cs,xs,k+1,d,x,h,hk,hx=>by
  simp only[aU]at h;obtain⟨y,nj,rfl,h1,h2,h3⟩:=h;simp only[Ou]at hk hx;exact Fp cs nj k d x h3 hk hx
def CT{w:World}{W:fm}{ab:bS}{L:Loc}:∀(cs:bW) (xs:List Value) (k:Nat) (d:DV),aU w W ab L cs xs->cs[k]? =some d->∃x,xs[k]? =some x
 |[],xs,k,d,h,hk=>by simp at hk
 |c::cs,xs,0,d,h,hk=>by
  simp only[aU]at h;obtain⟨y,nj,rfl,h1,h2,h3⟩:=h;exact⟨y,by simp⟩
 |c::cs,xs,k+1,d,h,hk=>by
  simp only[aU]at h;obtain⟨y,nj,rfl,h1,h2,h3⟩:=h;simp only[Ou]at hk;obtain⟨x,hx⟩:=CT cs nj k d h3 hk;exact⟨x,by simpa using hx⟩
def Le.qZ(r:Nat)(k:Nat){cs:bW}(e:Nat)(jc:0<sz)(hr:ob r=some (.box cs))(hk:cs[k]? =some .aZ):
  Le ⟨tm,ob,aP,low,td⟩ ⟨tm,dx (dx ob aP (.bm 0 e sz [])) r (.box (cs.set k (.aW aP 0))),aP+1,low,td⟩:=by
 intro κ nt a w L h;have hq:ob aP=none:=h.fresh aP (gJ _);have hrq:r≠aP:=λe=>by rw[e,hq]at hr;cases hr
 have awd:r<aP:=Zcz λio=>by have:=h.fresh r io;simp only at this;rw[this]at hr;cases hr
 obtain⟨W,base,M,w0,gG,h0⟩:=h.r.ex;have hO:=h0.o;obtain⟨c,f,aS,ip,hm⟩:=hO.ob r _ hr;obtain⟨x,hx⟩:=CT _ _ _ _ ip hk;have Ih:=Fp _ _ _ _ _ ip hk hx;simp only[aD]at Ih;obtain⟨ad,hxa⟩:=Ih;have hA:=G8 (W:=W) (w:=w) (L:=L) (a:=ad) (e:=e) (sz:=sz) hq;have Iq:=Jv (a:=ad) (e:=e) hO jc hq;obtain⟨o1,Vn⟩:=aY (dx ob aP (.bm 0 e sz []));obtain⟨L1,hL1⟩:=aY (L.at aP (.slice ad 0 0));have ql:o1 r=some (.box cs):=by rw[<-Vn];exact uU hrq hr
 rw[Vn,hL1]at hA Iq;have Bf:∀{V:fm} b,WW V (dx o1 r (.box (cs.set k (.aW aP 0)))) L1 b->WW V o1 L1 b:=by
  intro V b hb;rcases hb with hb|⟨r',o,nl,hb⟩
  .exact .inl hb
  .rcases iJ nl with⟨rfl,rfl⟩|⟨_,nl⟩
   .exact .inr ⟨r',_,ql,hb⟩
   .exact .inr ⟨r',o,nl,hb⟩
 have Mw:jA W o1 L1 w (dx o1 r (.box (cs.set k (.aW aP 0)))) L1 w:=by
  refine⟨c8.refl _ _,λb _ h=>Bf b h,λr' o' nl wi=>?_,λr' bG e' jt aC nl=>?_,rfl⟩
  .by_cases he:r'=r
   .subst he;rw[ql]at nl;cases nl;exact⟨rfl,.box (cs.set k (.aW aP 0)),by simp[dx],rfl⟩
   .exact⟨rfl,o',uU he nl,rfl⟩
  .have he:r'≠r:=λhe=>by rw[he,ql]at nl;cases nl
   exact⟨bG,e',jt,aC,uU he nl,gJ _,λ_=>⟨rfl,rfl,rfl⟩⟩
 have Im:ci base W M w0 (dx o1 r (.box (cs.set k (.aW aP 0)))) w L1:=by
  refine⟨Iq.fr,λr' o nl=>?_,λp p' o o' b dd h1 h2 hb=>?_,λp o b hp hb=>?_,Iq.under,Iq.gl.aL Mw.cL.toKeepsC Mw.sub⟩
  .rcases iJ nl with⟨rfl,rfl⟩|⟨dd,nl⟩
   .refine⟨c,f,by rw[<-hL1];exact aS,Fo _ _ _ _ (aU.gq Mw _ _ (aU.gq hA _ _ ip)) λy hy=>?_,by rw[<-hL1];exact hm⟩;rw[hx]at hy;cases hy;simp only[aD];refine⟨⟨ad,0,0,hxa⟩,0,e,sz,[],uU (Ne.symm hrq) (by rw[<-Vn];simp),gJ _,λ_=>?_⟩;rw[hxa,<-hL1];simp[Loc.at]
   .have wi:=Iq.ob r' o nl;cases o with
    |box yJ=>
     obtain⟨c',f',Vo,Vp,Rr⟩:=wi;exact⟨c',f',Vo,aU.gq Mw yJ _ Vp,Rr⟩
    |map bZ agg c es=>
     obtain⟨bm,Vo,Vp,q1,q2,q3,Rr⟩:=wi;exact⟨bm,Vo,bH.gq Mw es _ Vp,q1,q2,q3,Rr⟩
    |eo m s sn l=>
     obtain⟨Vo,ON,Rr⟩:=wi;exact⟨Vo,(Mw.mp m ON).2,Rr⟩
    |bm bG e' jt aC=>
     obtain⟨g1,g2,g3,g4⟩:=wi;refine⟨g1,g2,g3, ?_⟩;rcases g4 with g4|⟨g,cap,eJ,hv,hp,hh,k1,k2,k3,k4⟩
     .exact .inl g4
     .exact .inr ⟨g,cap,eJ,hv,hp,hh,k1,k2,k3,dt.aL (c8.refl (WW W o1 L1) w).toKeepsC (λb _ hb=>Bf b hb) _ _ k4⟩
  .have key:∀{p o},dx o1 r (.box (cs.set k (.aW aP 0))) p=some o->∃o2,o1 p=some o2/\L1.own p o=L1.own p o2:=by
    intro p o hp;rcases iJ hp with⟨rfl,rfl⟩|⟨_,hp⟩
    .exact⟨_,ql,rfl⟩
    .exact⟨o,hp,rfl⟩
   obtain⟨x1,y1,z1⟩:=key h1;obtain⟨x2,y2,z2⟩:=key h2;rw[z1]at hb;rw[z2];exact Iq.apart p p' x1 x2 b dd y1 y2 hb
  .rcases iJ hp with⟨rfl,rfl⟩|⟨_,hp⟩
   .exact Iq.tK p _ b ql hb
   .exact Iq.tK p o b hp hb
 have wn:=gG.sub;have kc:∀r',aP+1<=r'->dx o1 r (.box (cs.set k (.aW aP 0))) r'=none:=λr' nl=>by
  rw[<-Vn];simp only[dx];rw[iK (by omega),iK (by omega)];exact h.fresh r' (by simp only;omega)
 rw[Vn];exact⟨L1,⟨⟨W,base,M,w0,gG,h0.size,λt=>aD.gq Mw _ _ (aD.gq hA _ _ (h0.tmps t)),Im⟩,jA.comp (jA.comp h.r.gq hA (gG.UH _) wn.2) Mw (gG.UH _) wn.2,h.r.defers,h.r.bg,⟨_,kc⟩⟩,kc,h.low,h.it⟩
def qy(l:fS)(r:Nat)(o:Ob):dx (cR l) r o=cR ((r,o)::l):=by funext k;rfl
@[simp] def G9:look []=λ_=>DV.undef:=by funext k;rfl
def CU:Option Ob->Option Ob->Prop
 |some a,some b=>jC a b
 |_,_=>False
def Bn(low:Nat)(o0 o:bS):fS->Prop
 |[]=>True
 |(r,_)::l=>(r<low->CU (o0 r) (o r))/\Bn low o0 o l
def Ao{low:Nat}{o0 o:bS}:∀{l:fS},Bn low o0 o l->∀r x,(r,x)∈l->r<low->CU (o0 r) (o r)
 |[],_,_,_,h=>by cases h
 |(r,x)::l,h,r',x',hm=>by
  rcases jv.1 hm with e|hm
  .cases e;exact h.1
  .exact Ao h.2 r' x' hm
def Le.aaI{o0 o:fS}{l:pe}{bn:Nat}(Fh:Bn low (cR o0) (cR o) o0)(hk:lr bn o)
  (eH:wt (cR o0) (cR o) id o) (nJ:oM (cR o0) (cR o) id tm l):Le ⟨tm,cR o0,aP,low,td⟩ ⟨look l,cR o,bn,low,td⟩:=by
 refine Le.cor id rfl rfl (λr hr=>?_) (λr' o' h=>wu eH r' o' (pJ h)) (λr1 r2 h1 h2 e=>e) (λr hr o' h=>?_) (λk=>xT l nJ k)
 .cases ho:cR o r with
  |none=>exact ho
  |some x=>have:=m9 hk r x (pJ ho);simp only at hr;omega
 .have:=Ao Fh r o' (pJ h) hr;simp only at h⊢;rw[h]at this;refine⟨rfl, ?_⟩;cases ho:cR o r with
  |none=>rw[ho]at this;exact this.elim
  |some x=>rw[ho]at this;exact⟨x,rfl,this⟩
attribute [simp] Bn CU jC
@[simp] def akC{j:Nat}{o:Ob}{l:fS}:gone (cR ((j,o)::l)) σ r↔σ j≠r/\gone (cR l) σ r:=by
 refine⟨λh=>⟨h j (by simp),λr' nl=>h r' (by simp only[tB];split<;>simp[nl])⟩,λh=>Vi h.1 h.2⟩
@[simp] def amu:gone (cR []) σ r:=λr' h=>qe rfl h
end
section
variable{r:Nat}{f:bS}{d:DC}
variable [bD] [dF]
def dA:fS->bS->bS
 |[],f=>f
 |(r,o)::l,f=>λk=>if k=r then some o else dA l f k
@[simp] def y9(r:Nat)(o:Ob)(l:fS)(f:bS)(k:Nat):dA ((r,o)::l) f k=if k=r then some o else dA l f k:=rfl
@[simp] def amx(f:bS)(k:Nat):dA [] f k=f k:=rfl
@[simp] def akD(l:fS)(f:bS)(r:Nat)(o:Ob):cC (dA l f) (some (r,o))=dA ((r,o)::l) f:=rfl
def fJ(l:fS)(f:bS)(r:Nat)(o:Ob):dx (dA l f) r o=dA ((r,o)::l) f:=rfl
def jy:Ob->cN
 |.box cs=>da cs
 |.bm _ _ _ _=>[]
 |.map _ _ _ es=>es.flatMap λe=>br e.2.2
 |.eo m _ _ _=>[m]
def qX(f:bS)(n:Nat):Prop:=∀r o,f r=some o->r<n/\∀m∈jy o,f m≠none
section
variable{base:Nat}{W M:fm}{w0 w:World}{ab aM:bS}{L:Loc}
def Fv(hO:ci base W M w0 ab w L){N:Nat}(hN:∀r,N<=r->ab r=none):qX ab N:=by
 intro r o hr;refine⟨Zcz (λh=>by rw[hN r h]at hr;cases hr),λm hm=>?_⟩;have eH:=hO.ob r o hr;cases o with
 |box cs=>obtain⟨c,e,_,h,_⟩:=eH;exact fV.br cs (fV.bJ cs _ h) m hm
 |bm _ _ _ _=>cases hm
 |eo m' _ _ _=>
  obtain⟨_,⟨_,_,_,_,h⟩,_⟩:=eH;simp only[jy,uy]at hm;subst hm;simp[h]
 |map bZ agg c es=>
  obtain⟨bm,_,h,_⟩:=eH;simp only[jy,ZT]at hm;obtain⟨e,he,hm⟩:=hm;obtain⟨i,hi⟩:=Zcf he;obtain⟨x,_,_,_,hv⟩:=bH.get h hi;exact fc.br _ (fc.bJ _ _ hv) m hm
def sameAt(ab aM:bS)(m:Nat):Prop:=∃o o',ab m=some o/\aM m=some o'/\jC o o'
def Jz(Bf:∀b,WW W aM L b->WW W ab L b):
  ∀n,(∀(d:DV) (x:Value),SizeOf.sizeOf d<n->(∀m∈br d,sameAt ab aM m)->aD w W ab L d x->aD w W aM L d x)/\
   (∀(ds:bW) (xs:List Value),SizeOf.sizeOf ds<n->(∀m∈da ds,sameAt ab aM m)->aU w W ab L ds xs->aU w W aM L ds xs)/\
   (∀(ds:bW) (xs:List Value),SizeOf.sizeOf ds<n->(∀m∈da ds,sameAt ab aM m)->eA w W ab L ds xs->eA w W aM L ds xs):=by
 have wl:=(c8.refl (WW W ab L) w).toKeepsC;have wn:∀b,b<w.heap.size->WW W aM L b->WW W ab L b:=λb _ h=>Bf b h;intro n;induction n with
 |zero=>exact⟨λ_ _ h=>by omega,λ_ _ h=>by omega,λ_ _ h=>by omega⟩
 |succ n ih=>
  refine⟨λd x hn hm hr=>?_,λds xs hn hm hr=>?_,λds xs hn hm hr=>?_⟩
  .cases d with
   |undef=>simp[aD]
   |skip=>simpa only[aD]using hr
   |BZ=>simpa only[aD]using hr
   |aZ=>simpa only[aD]using hr
   |v t=>simp only[aD]at hr⊢;exact be.aL wl wn t x hr
   |mw aC i off=>
    simp only[aD]at hr⊢;obtain⟨b,o,sz,hx,hb,RP,pY,h1,h2⟩:=hr;exact⟨b,o,sz,hx,hb,λk=>RP (Bf b k),bw.aL wl wn hb RP sz o aC pY,h1,h2⟩
   |j9 cs off=>
    simp only[aD]at hr⊢;obtain⟨b,o,hx,hb,RP,pY⟩:=hr;exact⟨b,o,hx,hb,λk=>RP (Bf b k),dY.aL wl wn hb RP o cs pY⟩
   |ptr r off=>
    obtain⟨o,o',h1,h2,h3⟩:=hm r (by simp[br]);simp only[aD]at hr⊢;obtain⟨⟨cs,hc⟩,hx⟩:=hr;rw[h1]at hc;cases hc;cases o' with
    |box yJ=>exact⟨⟨yJ,h2⟩,hx⟩
    |_=>exact h3.elim
   |fH r=>
    obtain⟨o,o',h1,h2,h3⟩:=hm r (by simp[br]);simp only[aD]at hr⊢;obtain⟨⟨_,_,_,_,hc⟩,hx⟩:=hr;rw[h1]at hc;cases hc;cases o' with
    |map a b c d=>exact⟨⟨a,b,c,d,h2⟩,hx⟩
    |_=>exact h3.elim
   |eo r=>
    obtain⟨o,o',h1,h2,h3⟩:=hm r (by simp[br]);simp only[aD]at hr⊢;obtain⟨⟨_,_,_,_,hc⟩,hx⟩:=hr;rw[h1]at hc;cases hc;cases o' with
    |eo a b c d=>exact⟨⟨a,b,c,d,h2⟩,hx⟩
    |_=>exact h3.elim
   |aW r bG=>
    obtain⟨o,o',h1,h2,h3⟩:=hm r (by simp[br]);simp only[aD]at hr⊢;obtain⟨IY,bM,e,sz,aC,hc,io,hx⟩:=hr;rw[h1]at hc;cases hc;cases o' with
    |bm v2 e2 s2 r2=>obtain⟨rfl,rfl,h5⟩:=h3;exact⟨IY,_,_,_,_,h2,io,hx⟩
    |_=>exact h3.elim
   |kr r bG i off=>
    obtain⟨o,o',h1,h2,h3⟩:=hm r (by simp[br]);simp only[aD]at hr⊢;obtain⟨IY,bM,e,sz,aC,hc,io,hx⟩:=hr;rw[h1]at hc;cases hc;cases o' with
    |bm v2 e2 s2 r2=>
     obtain⟨rfl,rfl,h5⟩:=h3;exact⟨IY,_,_,_,_,h2,io,λhv=>by obtain⟨g,k1,k2,k3,k4⟩:=hx hv;exact⟨g,k1,k2,k3,by rw[<-h5];exact k4⟩⟩
    |_=>exact h3.elim
   |AH r m=>
    obtain⟨o,o',h1,h2,h3⟩:=hm r (by simp[br]);simp only[aD]at hr⊢;obtain⟨⟨cs,hc⟩,hx⟩:=hr;rw[h1]at hc;cases hc;cases o' with
    |box yJ=>exact⟨⟨yJ,h2⟩,hx⟩
    |_=>exact h3.elim
   |v7 r bG lo m=>
    obtain⟨o,o',h1,h2,h3⟩:=hm r (by simp[br]);simp only[aD]at hr⊢;obtain⟨IY,bM,e,sz,aC,hc,io,hx⟩:=hr;rw[h1]at hc;cases hc;cases o' with
    |bm v2 e2 s2 r2=>
     obtain⟨rfl,rfl,h5⟩:=h3;exact⟨IY,_,_,_,_,h2,io,λhv=>by
      obtain⟨k0,p,cap,p2,k1,k2,k3⟩:=hx hv;exact⟨by rw[<-h5];exact k0,p,cap,p2,by rw[<-h5];exact k1,k2,k3⟩⟩
    |_=>exact h3.elim
   |agg ds=>
    simp only[aD]at hr⊢;obtain⟨vs,hv,hr⟩:=hr;exact⟨vs,hv,ih.2.1 ds _ (by simp at hn⊢;omega) (λm h=>hm m (by simpa only[br]using h)) hr⟩
   |AI f ds=>
    simp only[aD]at hr⊢;obtain⟨vs,hv,hr⟩:=hr;exact⟨vs,hv,ih.2.1 ds _ (by simp at hn⊢;omega) (λm h=>hm m (by simpa only[br]using h)) hr⟩
   |dh ds=>
    simp only[aD]at hr⊢;obtain⟨vs,hv,hr⟩:=hr;exact⟨vs,hv,ih.2.2 ds _ (by simp at hn⊢;omega) (λm h=>hm m (by simpa only[br]using h)) hr⟩
  .cases ds with
   |nil=>simpa only[aU]using hr
   |cons d ds=>
    simp only[aU]at hr⊢;obtain⟨y,ys,hv,h1,h2,h3⟩:=hr;exact⟨y,ys,hv,h1,ih.1 d y (by simp at hn⊢;omega) (λm h=>hm m (by simp[da,h])) h2,ih.2.1 ds ys (by simp at hn⊢;omega) (λm h=>hm m (by simp[da,h])) h3⟩
  .cases ds with
   |nil=>simpa only[eA]using hr
   |cons d ds=>
    simp only[eA]at hr⊢;obtain⟨y,ys,hv,h2,h3⟩:=hr;exact⟨y,ys,hv,ih.1 d y (by simp at hn⊢;omega) (λm h=>hm m (by simp[da,h])) h2,ih.2.2 ds ys (by simp at hn⊢;omega) (λm h=>hm m (by simp[da,h])) h3⟩
def aaJ(Bf:∀b,WW W aM L b->WW W ab L b){o:Ob}(hm:∀m∈jy o,sameAt ab aM m)(h:pw w W ab L base M r o):pw w W aM L base M r o:=by
 cases o with
 |box cs=>obtain⟨c,e,hc,hr,IM⟩:=h;exact⟨c,e,hc,(Jz Bf (SizeOf.sizeOf cs+1)).2.1 cs _ (by omega) hm hr,IM⟩
 |bm bG e sz aC=>
  obtain⟨g1,g2,g3,g4⟩:=h;refine⟨g1,g2,g3, ?_⟩;rcases g4 with g4|⟨g,cap,eJ,hv,hp,hh,k1,k2,k3,k4⟩
  .exact .inl g4
  .exact .inr ⟨g,cap,eJ,hv,hp,hh,k1,k2,k3,dt.aL (c8.refl (WW W ab L) w).toKeepsC (λb _ hb=>Bf b hb) _ _ k4⟩
 |map bZ agg c es=>
  obtain⟨bm,hc,hr,k1,k2,k3,IM⟩:=h;refine⟨bm,hc, ?_,k1,k2,k3,IM⟩;have key:∀(es:List (Nat×T×DV)) (xs:List MapEntry),(∀m∈es.flatMap (λe=>br e.2.2),sameAt ab aM m)->bH w W ab L es xs->bH w W aM L es xs:=by
   intro es;induction es with
   |nil=>intro xs _ h;simpa only[bH]using h
   |cons e es ih=>
    intro xs hm h;simp only[bH]at h⊢;obtain⟨x,nj,hx,h1,h2,h3,h4⟩:=h;exact⟨x,nj,hx,h1,be.aL (c8.refl (WW W ab L) w).toKeepsC (λb _ hb=>Bf b hb) _ _ h2,
     (Jz Bf (SizeOf.sizeOf e.2.2+1)).1 _ _ (by omega) (λm h=>hm m (by simp[h])) h3,ih nj (λm h=>hm m (by simp only[ZbS,lF];exact .inr h)) h4⟩
  exact key es _ hm hr
 |eo m s sn l=>
  obtain⟨hc,⟨a1,a2,a3,a4,ON⟩,IM⟩:=h;obtain⟨o,o',h1,h2,h3⟩:=hm m (by simp[jy]);rw[ON]at h1;cases h1;cases o' with
  |map b1 b2 b3 b4=>exact⟨hc,⟨b1,b2,b3,b4,h2⟩,IM⟩
  |_=>exact h3.elim
end
def kq(ab aM:bS)(o o':Ob):Prop:=jx ab aM id o o'\/(o=o'/\∀m∈jy o,sameAt ab aM m)
def x7{ab aM:bS}{L:Loc}{o o':Ob}(h:kq ab aM o o')(r:Nat):L.own r o'=L.own r o:=by
 rcases h with h|⟨rfl,_⟩
 .exact uR (L:=L) h r
 .rfl
def Le.auh{st ir:lK}(py:ir.low=st.low)(Jo:ir.todo=st.todo)(CJ:∀r,ir.aP<=r->ir.ab r=none)
  (eH:∀r o',ir.ab r=some o'->∃o,st.ab r=some o/\kq st.ab ir.ab o o')
  (Jp:∀r,r<st.low->∀o,st.ab r=some o->∃o',ir.ab r=some o'/\jC o o')
  (nJ:∀k,jJ st.ab ir.ab id (st.tmps k) (ir.tmps k)):Le st ir:=by
 intro κ nt a w L h;have F5:∀r' o',ir.ab r'=some o'->∃o,st.ab (id r')=some o/\∀r,(L.CG id).own r o'=L.own (id r) o:=λr' o' h=>let⟨o,h1,h2⟩:=eH r' o' h;⟨o,h1,x7 (L:=L) h2⟩
 refine⟨L,⟨?_, ?_,h.r.defers,h.r.bg,⟨_,CJ⟩⟩,CJ,by rw[py];exact h.low,by rw[py];exact h.it⟩
 .obtain⟨W,base,M,w0,gG,h0⟩:=h.r.ex;have hO:=h0.o;have Bf:∀b,WW W ir.ab L b->WW W st.ab L b:=λb hb=>l9 (L:=L) (σ:=id) F5 b hb;have cr:=λ(d d':DV) (x:Value)=>(Bk hO F5 (SizeOf.sizeOf d+1)).1 d d' x (by omega);have crs:=λ(ds pX:bW) (xs:List Value)=>(Bk hO F5 (SizeOf.sizeOf ds+1)).2.1 ds pX xs (by omega);refine⟨W,base,M,w0,by rw[Jo];exact gG,h0.size,λt=>cr _ _ _ (nJ t) (h0.tmps t),⟨hO.fr,λr' o' j5=>?_,λr1 r2 o1 o2 b dd h1 h2 yC jZ=>?_,λr' o' b j5 hb=>?_,hO.under,hO.gl.aL (c8.refl (WW W st.ab L) w).toKeepsC λb _ hb=>Bf b hb⟩⟩
  .obtain⟨o,ho,hc⟩:=eH r' o' j5;have hk:=hO.ob r' o ho;rcases hc with hc|⟨rfl,hc⟩
   .cases o with
    |box cs=>
     cases o' with
     |box yJ=>
      obtain⟨c,e,aS,hr,hm⟩:=hk;exact⟨c,e,aS,crs cs yJ _ hc hr,hm⟩
     |_=>exact hc.elim
    |map bZ agg c es=>
     cases o' with
     |map kL kM c' nW=>
      obtain⟨rfl,rfl,rfl,nN⟩:=hc;obtain⟨bm,aS,hr,k1,k2,k3,hm⟩:=hk;have key:∀(es nW:List (Nat×T×DV)) (xs:List MapEntry),iD st.ab ir.ab id es nW->bH w W st.ab L es xs->bH w W ir.ab L nW xs/\nW.map (·.1)=es.map (·.1)/\nW.map (·.2.1)=es.map (·.2.1):=by
       intro es;induction es with
       |nil=>intro nW xs h1 h2;simp only[iD]at h1;subst h1;exact⟨by simpa only[bH]using h2,rfl,rfl⟩
       |cons e es ih=>
        intro nW xs h1 h2;cases nW with
        |nil=>simp[iD]at h1
        |cons e' nW=>
         simp only[iD]at h1;simp only[bH]at h2⊢;obtain⟨x,nj,rfl,q0,q1,q2,q3⟩:=h2;obtain⟨i1,i2,i3⟩:=ih nW nj h1.2.2.2 q3;refine⟨⟨x,nj,rfl,q0.trans h1.1, ?_,cr _ _ _ h1.2.2.1 q2,i1⟩,by simp[i2,h1.1],by simp[i3,h1.2.1]⟩;rw[<-h1.2.1];exact be.aL (c8.refl (WW W st.ab L) w).toKeepsC (λb _ hb=>Bf b hb) _ _ q1
      obtain⟨i1,i2,i3⟩:=key es nW _ nN hr;refine⟨bm,aS,i1,λe he=>?_,λe he=>?_,by rw[i2];exact k3,hm⟩
      .have:e.2.1∈es.map (·.2.1):=by rw[<-i3];exact sE.2 ⟨e,he,rfl⟩
       obtain⟨e0,h0',OR⟩:=sE.1 this;rw[<-OR];exact k1 e0 h0'
      .have:e.1∈es.map (·.1):=by rw[<-i2];exact sE.2 ⟨e,he,rfl⟩
       obtain⟨e0,h0',OR⟩:=sE.1 this;rw[<-OR];exact k2 e0 h0'
     |_=>exact hc.elim
    |eo m s sn l=>
     cases o' with
     |eo m' s' sn' l'=>
      obtain⟨rfl,rfl,rfl,rfl,ON⟩:=hc;obtain⟨aS,_,hm⟩:=hk;exact⟨aS,CF ON,hm⟩
     |_=>exact hc.elim
    |bm bG e sz aC=>
     cases o' with
     |box _=>exact hc.elim
     |map _ _ _ _=>exact hc.elim
     |eo _ _ _ _=>exact hc.elim
     |bm bM e' jt eN=>
      obtain⟨rfl,rfl,rfl⟩:=hc;obtain⟨g1,g2,g3,g4⟩:=hk;refine⟨g1,g2,g3, ?_⟩;rcases g4 with g4|⟨g,cap,eJ,hv,hp,hh,k1,k2,k3,k4⟩
      .exact .inl g4
      .exact .inr ⟨g,cap,eJ,hv,hp,hh,k1,k2,k3,dt.aL (c8.refl (WW W st.ab L) w).toKeepsC (λb _ hb=>Bf b hb) _ _ k4⟩
   .exact aaJ Bf hc hk
  .obtain⟨p1,q1,c1⟩:=eH r1 o1 h1;obtain⟨p2,q2,c2⟩:=eH r2 o2 h2;rw[x7 c1]at yC;rw[x7 c2]at jZ;exact hO.apart r1 r2 p1 p2 b dd q1 q2 yC jZ
  .obtain⟨p1,q1,c1⟩:=eH r' o' j5;rw[x7 c1]at hb;exact hO.tK r' p1 b q1 hb
 .have ha:jA κ.W κ.go κ.gL (κ.Il st.todo) st.ab L w:=h.r.gq;show jA κ.W κ.go κ.gL (κ.Il ir.todo) ir.ab _ w;rw[Jo];refine⟨ha.cL,λb hb hw=>ha.sub b hb (l9 (L:=L) (σ:=id) F5 b hw),λr o hr hk=>?_,λr bG e sz aC hr=>?_,ha.yl⟩
  .have cQ:r<st.low:=Zcz λio=>by rw[h.low r io]at hr;cases hr
   obtain⟨e1,o1,ql,mr⟩:=ha.fix r o hr hk;obtain⟨o',j5,hv⟩:=Jp r cQ _ ql;exact⟨e1,o',j5,(xQ hv).trans mr⟩
  .have cQ:r<st.low:=Zcz λio=>by rw[h.low r io]at hr;cases hr
   obtain⟨v1,e1,s1,r1,ql,l1,k1⟩:=ha.bm r bG e sz aC hr;obtain⟨o',j5,hv⟩:=Jp r cQ _ ql;cases o' with
   |box yJ=>exact hv.elim
   |map _ _ _ _=>exact hv.elim
   |eo _ _ _ _=>exact hv.elim
   |bm v2 e2 s2 r2=>
    obtain⟨rfl,rfl,h3⟩:=hv;exact⟨v1,e2,s1,r2,j5,l1,λhv=>by
     obtain⟨a1,a2,a3⟩:=k1 hv;exact⟨a1,a2,by rw[<-h3];exact a3⟩⟩
def ej(o:Ob):jC o o:=by cases o<;>simp[jC]
def kp(low:Nat)(a b:bS):fS->Prop
 |[]=>True
 |(r,o)::l=>(∃o0,a r=some o0/\kq a b o0 o/\(r<low->jC o0 o))/\kp low a b l
def cY(low:Nat)(l1:fS):fS->Prop
 |[]=>True
 |(r,_)::l=>(r<low->∃o,(r,o)∈l1)/\cY low l1 l
def uh:∀{l:fS} {f:bS} {r:Nat} {o:Ob},dA l f r=some o->(r,o)∈l\/((∀o',(r,o')∉l)/\f r=some o)
 |[],_,_,_,h=>.inr ⟨λ_ h=>(by cases h),h⟩
 |(j,x)::l,f,r,o,h=>by
  simp only[y9]at h;split at h
  .rename_i e;cases h;subst e;exact .inl (Iu ..)
  .rename_i dd;rcases uh h with h|⟨h1,h2⟩
   .exact .inl (Ib _ h)
   .refine .inr ⟨λo' j5=>?_,h2⟩;rcases jv.1 j5 with e|j5
    .cases e;exact dd rfl
    .exact h1 o' j5
def ui{l:fS}(h:∀o',(r,o')∉l):dA l f r=f r:=by
 induction l with
 |nil=>rfl
 |cons p l ih=>
  obtain⟨j,x⟩:=p;rw[y9,iK (λe=>h x (by rw[e];exact Iu ..))];exact ih λo' j5=>h o' (Ib _ j5)
def Pf{l:fS}{o:Ob}(h:(r,o)∈l):∃o',dA l f r=some o'/\(r,o')∈l:=by
 induction l with
 |nil=>cases h
 |cons p l ih=>
  obtain⟨j,x⟩:=p;by_cases e:r=j
  .subst e;exact⟨x,by simp,Iu ..⟩
  .rcases jv.1 h with h|h
   .cases h;exact qe rfl e
   .obtain⟨o',h1,h2⟩:=ih h;exact⟨o',by rw[y9,iK e];exact h1,Ib _ h2⟩
def wy{low:Nat}{a b:bS}:∀{l:fS},kp low a b l->∀r o,(r,o)∈l->∃o0,a r=some o0/\kq a b o0 o/\(r<low->jC o0 o)
 |[],_,_,_,h=>by cases h
 |(j,x)::l,hk,r,o,h=>by
  rcases jv.1 h with e|h
  .cases e;exact hk.1
  .exact wy hk.2 r o h
def rX{low:Nat}{l1:fS}:∀{l:fS},cY low l1 l->∀r o,(r,o)∈l->r<low->∃o,(r,o)∈l1
 |[],_,_,_,h=>by cases h
 |(j,x)::l,hk,r,o,h=>by
  rcases jv.1 h with e|h
  .cases e;exact hk.1
  .exact rX hk.2 r o h
def Le.iy{tm:dW}{l0 l1:fS}{l:pe}{aP bn:Nat}{td:List (aG)}{low:Nat}(hf:qX f low)(hn:low<=bn)(hb:lr bn l1)
  (h0:cY low l1 l0) (h1:kp low (dA l0 f) (dA l1 f) l1) (nJ:oM (dA l0 f) (dA l1 f) id tm l):
  Le ⟨tm,dA l0 f,aP,low,td⟩ ⟨look l,dA l1 f,bn,low,td⟩:=by
 have JA:∀r,r<low->∀o,dA l0 f r=some o->∃o',dA l1 f r=some o'/\jC o o':=by
  intro r hr o ho;by_cases mX:∃o',(r,o')∈l1
  .obtain⟨o1,Vn⟩:=mX;obtain⟨o2,h2,h3⟩:=Pf (f:=f) Vn;obtain⟨o0,k1,_,k3⟩:=wy h1 r o2 h3;rw[ho]at k1;cases k1;exact⟨o2,h2,k3 hr⟩
  .have af7:∀o',(r,o')∉l1:=λo' h=>mX ⟨o',h⟩;rcases uh ho with h|⟨_,h⟩
   .exact qe (rX h0 r o h hr) mX
   .exact⟨o,by rw[ui af7];exact h,ej o⟩
 refine Le.auh rfl rfl (λr hr=>?_) (λr o' j5=>?_) (λr hr o ho=>JA r hr o ho) (λk=>xT l nJ k)
 .cases ho:dA l1 f r with
  |none=>exact ho
  |some o=>
   rcases uh ho with h|⟨_,h⟩
   .have:=m9 hb r o h;simp only at hr;omega
   .have:=(hf r o h).1;simp only at hr;omega
 .rcases uh j5 with h|⟨af7,h⟩
  .obtain⟨o0,k1,k2,_⟩:=wy h1 r o' h;exact⟨o0,k1,k2⟩
  .obtain⟨cQ,hnm⟩:=hf r o' h;have Gi:dA l0 f r=some o':=by
    by_cases mX:∃o1,(r,o1)∈l0
    .obtain⟨o1,Vn⟩:=mX;obtain⟨o2,h2⟩:=rX h0 r o1 Vn cQ;exact qe h2 (af7 o2)
    .rw[ui λo1 h1=>mX ⟨o1,h1⟩];exact h
   refine⟨o',Gi,.inr ⟨rfl,λm hm=>?_⟩⟩;have hm0:=hnm m hm;have aui:m<low:=by
    cases hfm:f m with
    |none=>exact qe hfm hm0
    |some x=>exact(hf m x hfm).1
   have Tj:∃o,dA l0 f m=some o:=by
    by_cases mX:∃o1,(m,o1)∈l0
    .obtain⟨o1,Vn⟩:=mX;obtain⟨o2,h2,_⟩:=Pf (f:=f) Vn;exact⟨o2,h2⟩
    .rw[ui λo1 h1=>mX ⟨o1,h1⟩];exact Zcr.1 hm0
   obtain⟨o,ho⟩:=Tj;obtain⟨o2,h2,h3⟩:=JA m aui o ho;exact⟨o,o2,ho,h2,h3⟩
section
variable{P:Program}
def aR.Ie{f:FuncId}{nt:Nat}{rs:List cH}(h:aR P f nt d rs){args:bW}{ab:bS}{r:iw}{N:Nat}(hN:∀r,N<=r->ab r=none)(ct:args.length<=nt)
  (k:qX ab N->aa P nt d (aaz rs r) ⟨look (args.zipIdx.map λp=>(p.2,p.1)),dA [] ab,N,N,[]⟩):ce P f args ab r:=
 ⟨h.entry,λbase W M w0 w L cT hO Lb=>(aR.Z1 h hN ct (iE (k (Fv hO hN)))).run base W M w0 w L cT hO Lb⟩
def Hb{fn:Func}{t:Nat}{tmps:Array Value}{w:World}(hr:fn.results.toList.mapM (nh P)=some [.fB t]):(results fn tmps).run P w=.ok (tmps.getD t Go.undef) w:=by
 have h1:∃rv,fn.results.toList=[rv]/\nh P rv=some (.fB t):=by
  cases h:fn.results.toList with
  |nil=>rw[h]at hr;simp at hr
  |cons rv l=>
   rw[h]at hr;simp only[Zbw,vj,kw,jE,cq,Gf]at hr;obtain⟨x,hx,ys,qq,rfl,rfl⟩:=hr;cases l with
   |nil=>exact⟨rv,rfl,hx⟩
   |cons y l=>simp[jE]at qq
 obtain⟨rv,h1,h2⟩:=h1;have h3:fn.results= #[rv]:=by rw[<-Array.toArray_toList (xs:=fn.results),h1]
 cases rv with
 |tmp t'=>
  simp only[nh,cq,cH.fB.injEq]at h2;subst h2;have pY:(results fn tmps)=(do
   let vs<-fn.results.mapM (λrv=>((match rv with|.tmp t=>pure (tmps.getD t Go.undef)|.cell b t=>do loadVar t (<-asAddr (tmps.getD b Go.undef))):Sem Value))
   pure (if h:vs.size=1 then vs[0]else .tuple vs)):=rfl
  have hm:(fn.results.mapM (λrv=>((match rv with|.tmp t=>pure (tmps.getD t Go.undef)|.cell b t=>do loadVar t (<-asAddr (tmps.getD b Go.undef))):Sem Value))).run P w=.ok #[tmps.getD t' Go.undef] w:=by
   rw[Zdv,h1];simp
  rw[pY];simp only[Sem.run_bind,hm,Result.andThen_ok,Sem.run_pure];rfl
 |cell b t'=>
  simp only[nh]at h2;split at h2<;>simp at h2
def auj(t e sz:Nat)(aC:List (aG)):Exit->lK->Prop
 |.normal,st|.ret,st=>(st.tmps t=.aZ/\aC=[]/\0<sz)\/∃r bG,st.tmps t=.aW r bG/\st.ab r=some (.bm bG e sz aC)
 |_,_=>False
def aR.Hc{f:FuncId}{nt:Nat}{t:Nat}(h:aR P f nt d [.fB t]){ts:aG}{e sz:Nat}{aC:List (aG)}(ct:ts.length<=nt)(k:aa P nt d (auj t e sz aC) (p7 ts)):oS P f ts e sz aC:=by
 have Cw:=h.entry;obtain⟨fn,yB,rfl,h3,hr,_⟩:=h;obtain⟨c,hb,hc⟩:=ju.1 h3;refine⟨Cw,λW w cT hW hg ip=>?_⟩;have hl:=eS.length ip;simp only[Lt]at hl;have xN:Ms ⟨W,λ_=>none,⟨λ_=>0,λ_=>Go.undef,0⟩,w,w.heap.size,λ_=>False,w,none,none,none⟩ fn.ntmps (p7 ts) {tmps:=cT++Array.replicate (fn.ntmps-cT.size) Go.undef,defers:=[]} w ⟨λ_=>0,λ_=>Go.undef,0⟩:=by
  refine⟨⟨⟨W,w.heap.size,λ_=>False,w,⟨λ_=>rfl,rfl,rfl,rfl,rfl⟩,by simp;omega,λk=>?_,⟨Fr.refl (gJ _),(λr o h=>by cases h),(λr r' o o' b _ h=>by cases h),(λr o b h=>by cases h),hW,hg.start⟩⟩,
   jA.cS (c8.refl _ _),⟨[],rfl,Zcx,(λ_ h=>by cases h),λ_=>rfl⟩,λ_=>gJ _,⟨0,λ_ _=>rfl⟩⟩,λ_ _=>rfl,λ_ _=>rfl,λh=>by cases h⟩
  simp only[p7];cases hk:ts[k]? with
  |some x=>
   obtain⟨v,hv,nk⟩:=eS.get ip hk;simp only[qw hv,AP,aD];refine be.aL (c8.refl W w).toKeepsC ?_ x v nk;rintro b hb (h|⟨r,o,h,_⟩)
   .exact h
   .cases h
  |none=>
   have Ba:cT.size<=k:=by
    have:=Zcc.1 hk;omega
   simp only[AP,aD,qx Ba]
 refine callsIn_wide.1 (callsIn_of_wp_marks (n:=0) yB hb trivial ?_);refine wpIn_mono (k.run c hc 0 _ _ _ _ ⟨λJ hJ=>(by cases hJ),λl r s hY=>(by cases hY),λl hl=>(by cases hl)⟩ xN) ?_;rintro e' a' w' ⟨ir,L',q,r'⟩;have done:((ir.tmps t=.aZ/\aC=[]/\0<sz)\/∃r bG,ir.tmps t=.aW r bG/\ir.ab r=some (.bm bG e sz aC))->LeavesInM Fence.wide 0 P fn a'.tmps (λe' w'=>∃v,e'=.returned v/\xl w.heap.size w w'/\Ch w.heap.size w' W e sz aC v) a'.defers .returning w':=by
  intro hq;obtain⟨Ds,h1,h2,h3,_⟩:=r'.r.defers;rw[h1];refine leaves (κ:=⟨W,λ_=>none,⟨λ_=>0,λ_=>Go.undef,0⟩,w,w.heap.size,λ_=>False,w,none,none,none⟩) rfl ?_ Ds a' w' L' r'.r h1 h2 h3;intro a2 w2 L2 h4;obtain⟨W',O3,M',w0',gG,h0⟩:=h4.ex;obtain⟨_,e1,e2,e3,e4⟩:=gG
  replace h0:R0 w.heap.size W (λ_=>False) w fn.ntmps ir.tmps ir.ab a2 w2 L2:=by rw[e1,e2,e3,e4]at h0;exact h0
  have fr:=h0.o.fr;refine⟨_,Hb hr,_,rfl,⟨⟨fr.os,fr.tape,fr.output,fr.size,λk hk=>fr.block k hk (λx=>x)⟩,fr.drawn⟩, ?_⟩;have ht:=h0.tmps t;rcases hq with⟨hq,rfl,jc⟩|⟨r,bG,hq,ho⟩
  .rw[hq]at ht;simp only[aD]at ht;exact⟨jc,λ_ h=>(by cases h),.inl ⟨rfl,ht⟩⟩
  .rw[hq]at ht;simp only[aD]at ht;obtain⟨_,bM,e',jt,eN,j5,_,hx⟩:=ht;rw[ho]at j5;cases j5;have hx:=hx rfl;obtain⟨g1,g2,g3,g4⟩:=h0.o.ob r _ ho;refine⟨g1,g2, ?_⟩;rcases g4 with⟨h5,a,h6⟩|⟨g,cap,eJ,hv,hp,hh,k1,k2,k3,k4⟩
   .exact .inl ⟨h5,a,hx.trans h6⟩
   .have wg:bk (L2.sl r)=some g:=by rw[hv];simp[bk,Et.1 hp]
    refine .inr ⟨g,cap,eJ,hx.trans hv,hp,(g3 g wg).resolve_right (λx=>x),hh,k1,k2,k3,dt.aL (c8.refl (WW W ir.ab L2) w2).toKeepsC (λb _ hb=>?_) _ _ k4⟩;rcases hb with hb|rfl
    .exact .inl hb
    .exact .inr ⟨r,_,ho,wg⟩
 cases e' with
 |normal=>exact done q
 |ret=>exact done q
 |_=>exact q.elim
section
variable{κ:oT}{nt:Nat}{Γ:kv}{aP:Nat}{ro:Option Nat}{n:Nat}
end
section
variable{nt:Nat}{Γ:kv}{Q:Exit->lK->Prop}{tm:dW}{ob:bS}{aP low:Nat}{td:List (aG)}
end
end
end
section
variable{f:Nat->Nat}
variable [bD] [dF]
def qz(f:Nat->Nat)(r:RO):RO:=⟨r.d,r.dst,r.guard,r.after,r.km.map (·.map f)⟩
def kX(f:Nat->Nat)(rs:cA):cA:=rs.map (qz f)
def Vu(hf:∀a b,f a=f b->a=b)(x y:Option (cN)):AO (x.map (·.map f)) (y.map (·.map f))=AO x y:=by
 cases x<;>cases y<;>simp only[Option.map_none,Rp,AO]
 rename_i a b;rw[ZcB];simp only[List.all_map,Jf,Function.comp_apply,bne_iff_ne,ne_eq];exact⟨λh x hx y hy e=>h x hx y hy (by rw[e]),λh x hx y hy e=>h x hx y hy (hf _ _ e)⟩
def Sd(hf:∀a b,f a=f b->a=b)(x y:RO):kO (qz f x) (qz f y)=kO x y:=by
 unfold kO;rw[show(qz f x).km=x.km.map (·.map f)from rfl,show(qz f y).km=y.km.map (·.map f)from rfl,Vu hf];rfl
def Se(f:Nat->Nat)(rs:cA):nv (kX f rs)=nv rs:=by
 unfold nv kX;rw[Zdr];try rfl
def C0(f:Nat->Nat):∀rs:cA,fP (kX f rs)=fP rs
 |[]=>rfl
 |r::rs=>by
  simp only[kX,vG,fP,List.all_map];have:=C0 f rs;simp only[kX]at this;rw[this];rfl
def He(hf:∀a b,f a=f b->a=b)(nt:Nat)(iL:Bool)(rs:cA):eC nt iL (kX f rs)=eC nt iL rs:=by
 unfold eC;rw[C0,Se];have h1:(kX f rs).all (oe nt)=rs.all (oe nt):=by simp only[kX,List.all_map];rfl
 have h2:uM (kX f rs) (nv rs)=uM rs (nv rs):=by
  unfold uM;simp only[kX,we,ZbH]
  congr 1
  funext i;cases rs[i]? with
  |none=>rfl
  |some y=>
   cases(nv rs)[i]? with
   |none=>rfl
   |some m=>
    simp only[Rp]
    congr 1
    congr 1
    funext x;cases rs[x]? with
    |none=>rfl
    |some r=>simp only[Rp,Sd hf]
 rw[h1,h2]
def JC(b N:Nat)(n:Nat):Nat:=if n=0 then b else N+n
def Sf{b N:Nat}(h:b<N)(x y:Nat)(e:JC b N x=JC b N y):x=y:=by
 unfold JC at e;split at e<;>split at e<;>omega
def jY(l:fS)(r:Nat)(o:Ob):dx (cR l) r o=cR ((r,o)::l):=rfl
end
section
variable{d:DC}{rs:cA}
variable [bD] [dF]
section
variable{P:Program}{nt:Nat}{Γ:kv}{Q:Exit->lK->Prop}{st:lK}{tm:dW}{ob:bS}{aP low:Nat}{td:List (aG)}
def aa.aaK(bb:aw P Γ)(hm:P.follows .mixedOrders=true)(hd:d=.region false (rs.map bare))(aN:eC nt false rs=true)
  (bO:jR Γ st.aP rs ⟨st.tmps,st.ab,st.todo⟩) (hQ:Q .normal ⟨(dQ Γ st.aP rs ⟨st.tmps,st.ab,st.todo⟩).tmps,(dQ Γ st.aP rs ⟨st.tmps,st.ab,st.todo⟩).ab,st.aP+nt+1,st.low,(dQ Γ st.aP rs ⟨st.tmps,st.ab,st.todo⟩).todo⟩):
  aa P nt d Q st:=by
 refine⟨λc hc=>?_⟩;subst hd;obtain⟨id,ops,rfl,mK,afB⟩:=rL hc;exact rO bb hm mK aN bO hQ
def aa.auk(bb:aw P Γ)(hm:P.follows .mixedOrders=true)(hd:d=.region false (rs.map bare))(aN:eC nt false rs=true)(ks:cN)
  (h:eW Γ aP rs ⟨tm,ob,td⟩ λs=>Q .normal ⟨look (o5 ks s.tmps),s.ab,aP+nt+1,low,s.todo⟩):aa P nt d Q ⟨tm,ob,aP,low,td⟩:=by
 have:=jS _ _ _ h;refine aa.rN (Q:=λe s=>e=.normal/\s=⟨(dQ Γ aP rs ⟨tm,ob,td⟩).tmps,(dQ Γ aP rs ⟨tm,ob,td⟩).ab,aP+nt+1,low,(dQ Γ aP rs ⟨tm,ob,td⟩).todo⟩) (aa.aaK bb hm hd aN (st:=⟨tm,ob,aP,low,td⟩) this.1 ⟨rfl,rfl⟩) ?_;rintro e s ⟨rfl,rfl⟩;exact⟨_,Le.vN (o6 _ ks),this.2⟩
def aa.uG(bb:aw P Γ)(hm:P.follows .mixedOrders=true){b:DC}(hd:d=.region false (rs.map bare))(aN:eC nt false rs=true)(ks:cN)
  (h:eW Γ aP rs ⟨tm,ob,td⟩ λs=>aa P nt b Q ⟨look (o5 ks s.tmps),s.ab,aP+nt+1,low,s.todo⟩):aa P nt (.seq d b) Q ⟨tm,ob,aP,low,td⟩:=
 aa.seq (aa.auk bb hm hd aN ks h)
end
end
end Go.DM
namespace Go.DM
open Go.RowKit
variable [bD] [dF]
section
variable{Γ:kv}{aP:Nat}{K:RS->Prop}{rs:cA}{tm:dW}{ob:bS}{td:List (aG)}{dst:Option Nat}{d:qO}{s:Nat}{af l:cN}
@[simp] def amy(b:Bool)(h:tm s=.v (.bool b)):eW Γ aP (⟨d,dst,some (s,b),af,some l⟩::rs) ⟨tm,ob,td⟩ K=(dN ⟨d,dst,none,af,some l⟩ tm/\(qP d=true->O4 l ob (zL Γ d tm ob td).ab)/\mF Γ aP d rs tm ob td K dst tm):=by
 simp only[eW,h,forall_const,kf h,Cy];cases b<;>simp[xO,dN]
def JD(b c:Bool)(h:tm s=.v (.bool b))(hc:b= !c):eW Γ aP (⟨d,dst,some (s,c),af,some l⟩::rs) ⟨tm,ob,td⟩ K=eW Γ aP rs ⟨cO tm dst .skip,ob,td⟩ K:=by
 subst hc;cases c
 .have h:tm s=.v (.bool true):=h;simp[eW,h,kf h]
 .have h:tm s=.v (.bool false):=h;simp[eW,h,kf h]
@[simp] def akE(h:tm s=.v (.bool true)):eW Γ aP (⟨d,dst,some (s,false),af,some l⟩::rs) ⟨tm,ob,td⟩ K=eW Γ aP rs ⟨cO tm dst .skip,ob,td⟩ K:=JD true false h rfl
@[simp] def akF(h:tm s=.v (.bool false)):eW Γ aP (⟨d,dst,some (s,true),af,some l⟩::rs) ⟨tm,ob,td⟩ K=eW Γ aP rs ⟨cO tm dst .skip,ob,td⟩ K:=JD false true h rfl
@[simp] def akG{lI:Bool}(h:tm s=.skip):eW Γ aP (⟨d,dst,some (s,lI),af,some l⟩::rs) ⟨tm,ob,td⟩ K=eW Γ aP rs ⟨cO tm dst .skip,ob,td⟩ K:=by
 simp only[eW,h]
end
end Go.DM
namespace Go.DM
open Go.RowKit
section
variable{cs:bW}{aC:List (aG)}{sz:Nat}
variable [bD] [dF]
def ahX{base:Nat}{W M:fm}{w0 w:World}{o1:bS}{L1:Loc}(Iq:ci base W M w0 o1 w L1){r k:Nat}{d:DV}(ql:o1 r=some (.box cs))
  (hd:∀c f xs,w.heap[L1.jK r]? =some (.cells c f (0,0))->c.toList=xs->∀x,xs[k]? =some x->jA W o1 L1 w (dx o1 r (.box (cs.set k d))) L1 w->aD w W (dx o1 r (.box (cs.set k d))) L1 d x):
  ci base W M w0 (dx o1 r (.box (cs.set k d))) w L1/\jA W o1 L1 w (dx o1 r (.box (cs.set k d))) L1 w:=by
 have Bf:∀{V:fm} b,WW V (dx o1 r (.box (cs.set k d))) L1 b->WW V o1 L1 b:=by
  intro V b hb;rcases hb with hb|⟨r',o,nl,hb⟩
  .exact .inl hb
  .rcases iJ nl with⟨rfl,rfl⟩|⟨_,nl⟩
   .exact .inr ⟨r',_,ql,hb⟩
   .exact .inr ⟨r',o,nl,hb⟩
 have Mw:jA W o1 L1 w (dx o1 r (.box (cs.set k d))) L1 w:=by
  refine⟨c8.refl _ _,λb _ h=>Bf b h,λr' o' nl wi=>?_,λr' bG e' jt aC nl=>?_,rfl⟩
  .by_cases he:r'=r
   .subst he;rw[ql]at nl;cases nl;exact⟨rfl,.box (cs.set k d),by simp[dx],rfl⟩
   .exact⟨rfl,o',uU he nl,rfl⟩
  .have he:r'≠r:=λhe=>by rw[he,ql]at nl;cases nl
   exact⟨bG,e',jt,aC,uU he nl,gJ _,λ_=>⟨rfl,rfl,rfl⟩⟩
 refine⟨⟨Iq.fr,λr' o nl=>?_,λp p' o o' b dd h1 h2 hb=>?_,λp o b hp hb=>?_,Iq.under,Iq.gl.aL Mw.cL.toKeepsC Mw.sub⟩,Mw⟩
 .rcases iJ nl with⟨rfl,rfl⟩|⟨dd,nl⟩
  .obtain⟨c,f,aS,ip,hm⟩:=Iq.ob r' _ ql;exact⟨c,f,aS,Fo _ _ _ _ (aU.gq Mw _ _ ip) λy hy=>hd c f _ aS rfl y hy Mw,hm⟩
  .have wi:=Iq.ob r' o nl;cases o with
   |box yJ=>
    obtain⟨c',f',Vo,Vp,Rr⟩:=wi;exact⟨c',f',Vo,aU.gq Mw yJ _ Vp,Rr⟩
   |map bZ agg c es=>
    obtain⟨bm,Vo,Vp,q1,q2,q3,Rr⟩:=wi;exact⟨bm,Vo,bH.gq Mw es _ Vp,q1,q2,q3,Rr⟩
   |eo m s sn l=>
    obtain⟨Vo,ON,Rr⟩:=wi;exact⟨Vo,(Mw.mp m ON).2,Rr⟩
   |bm bG e' jt aC=>
    obtain⟨g1,g2,g3,g4⟩:=wi;refine⟨g1,g2,g3, ?_⟩;rcases g4 with g4|⟨g,cap,eJ,hv,hp,hh,k1,k2,k3,k4⟩
    .exact .inl g4
    .exact .inr ⟨g,cap,eJ,hv,hp,hh,k1,k2,k3,dt.aL (c8.refl (WW W o1 L1) w).toKeepsC (λb _ hb=>Bf b hb) _ _ k4⟩
 .have key:∀{p o},dx o1 r (.box (cs.set k d)) p=some o->∃o2,o1 p=some o2/\L1.own p o=L1.own p o2:=by
   intro p o hp;rcases iJ hp with⟨rfl,rfl⟩|⟨_,hp⟩
   .exact⟨_,ql,rfl⟩
   .exact⟨o,hp,rfl⟩
  obtain⟨x1,y1,z1⟩:=key h1;obtain⟨x2,y2,z2⟩:=key h2;rw[z1]at hb;rw[z2];exact Iq.apart p p' x1 x2 b dd y1 y2 hb
 .rcases iJ hp with⟨rfl,rfl⟩|⟨_,hp⟩
  .exact Iq.tK p _ b ql hb
  .exact Iq.tK p o b hp hb
def agu{n:Nat}(h:∀x∈aC,x.length=sz):(aC.take n).flatten=aC.flatten.take (n*sz):=by
 induction aC generalizing n with
 |nil=>simp
 |cons r rs ih=>
  cases n with
  |zero=>simp
  |succ n=>
   have hr:r.length=sz:=h r (by simp);have e1:r.take ((n+1)*sz)=r:=Lz (by rw[hr,Fb];omega);have e2:(n+1)*sz-sz=n*sz:=by rw[Fb];omega
   rw[Zck,Th,Th,Zdx,hr,e1,e2,ih λx hx=>h x (by simp[hx])]
def Le.cut{tm:dW}{ob:bS}{aP low:Nat}{td:List (aG)}(r:Nat)(k:Nat){q bG n e:Nat}(hr:ob r=some (.box cs))(hk:cs[k]? =some (.v7 q bG 0 n))
  (hq:ob q=some (.bm bG e sz aC)):
  Le ⟨tm,ob,aP,low,td⟩ ⟨tm,dx (dx ob q (.bm (bG+1) e sz (aC.take n))) r (.box (cs.set k (.aW q (bG+1)))),aP,low,td⟩:=by
 intro κ nt a w L h;have hrq:r≠q:=λe=>by rw[e,hq]at hr;cases hr
 obtain⟨W,base,M,w0,gG,h0⟩:=h.r.ex;have hO:=h0.o;obtain⟨c,f,aS,ip,hm⟩:=hO.ob r _ hr;obtain⟨x,hx⟩:=CT _ _ _ _ ip hk;have Ih:=Fp _ _ _ _ _ ip hk hx;simp only[aD]at Ih;obtain⟨_,bM,e',jt,eN,j5,_,hv⟩:=Ih;rw[hq]at j5;cases j5;obtain⟨hln,p,cap,p2,xw,hxv,Un⟩:=hv rfl;simp only[ZcG,ZcH,Ow]at hln hxv Un;obtain⟨jc,ct,wg,mE⟩:=hO.ob q _ hq;have tN:bk (L.sl q)=bk x:=by
  rw[xw,hxv];by_cases h0:cap=0
  .subst h0;cases p<;>cases p2<;>simp[bk]
  .rw[Un (by omega)];cases p<;>simp[bk,h0,Addr.add]
 have step:∃xs,dt w (WW W ob L) (aC.take n).flatten xs/\(((aC.take n).length+([]:List (aG)).length=0/\∃a:Option Addr,x=.slice a 0 0)\/∃g cap eJ,x=.slice (some ⟨g,0,none⟩) ((aC.take n).length+([]:List (aG)).length) cap/\0<cap/\w.heap[g]? =some (.cells eJ e (0,0))/\(aC.take n).length+([]:List (aG)).length<=cap/\cap<=maxLen/\eJ.size=cap*sz/\
     eJ.toList.take (((aC.take n).length+([]:List (aG)).length)*sz)=xs++[]):=by
  have hl:(aC.take n).length=n:=by rw[Ee];omega
  rcases mE with⟨rfl,a0,ha0⟩|⟨g,atH,eJ,h1,h2,h3,h4,h5,h6,h7⟩
  .simp only[ZbJ]at hln;obtain rfl:n=0:=by omega
   rw[xw]at ha0;simp only[Value.slice.injEq]at ha0;obtain⟨rfl,_,rfl⟩:=ha0;exact⟨[],by simp[dt],.inl ⟨by simp,p2,by rw[hxv]⟩⟩
  .rw[xw]at h1;simp only[Value.slice.injEq]at h1;obtain⟨rfl,_,rfl⟩:=h1;have:=Un h2;subst this;refine⟨eJ.toList.take (n*sz), ?_,.inr ⟨g,cap,eJ,by rw[hxv,hl];simp[Addr.add],h2,h3,by simp only[hl,ZbJ];omega,h5,h6,by rw[hl];simp⟩⟩;rw[agu ct];have:=dt.take (n*sz) h7;rw[Zdq,Nat.min_eq_left (Ec _ hln)]at this;exact this
 obtain⟨xs,hxs,mu⟩:=step;obtain⟨Iq,hA⟩:=wh (ys:=[]) (aC:=aC.take n) (bM:=bG+1) (v:=x) (v':=x) (w':=w) (vs:=[]) hO jc (λy hy=>ct y (by simp only[Ej]at hy;exact yS hy)) (.inr ⟨hq,tN,by omega⟩) hxs (by simp[dt]) mu
  ⟨rfl,rfl,rfl,gJ _,λ_ _ _=>rfl⟩ (λb hb=>.inl hb) (gJ _)
 simp only[Ej]at Iq hA;obtain⟨o1,Vn⟩:=aY (dx ob q (.bm (bG+1) e sz (aC.take n)));have Cd:cC ob (some (q,.bm (bG+1) e sz (aC.take n)))=o1:=Vn;rw[Cd]at Iq hA;obtain⟨L1,hL1⟩:=aY (L.jP q x);rw[hL1]at Iq hA;have ql:o1 r=some (.box cs):=by rw[<-Vn];exact uU hrq hr
 have hq1:o1 q=some (.bm (bG+1) e sz (aC.take n)):=by rw[<-Vn];simp[dx]
 obtain⟨Im,Mw⟩:=ahX (k:=k) (d:=.aW q (bG+1)) Iq ql (λc' f' nj hc' nK y hy Mw=>by
  have hb:L1.jK r=L.jK r:=by rw[<-hL1];rfl
  rw[hb,aS]at hc';cases hc';rw[<-nK,hx]at hy;cases hy;simp only[aD];refine⟨⟨_,_,_,hxv⟩,bG+1,e,sz,aC.take n,uU (Ne.symm hrq) hq1,gJ _,λ_=>?_⟩;rw[<-hL1];simp[Loc.jP])
 have wn:=gG.sub;have kc:∀r',aP<=r'->dx o1 r (.box (cs.set k (.aW q (bG+1)))) r'=none:=λr' nl=>by
  have hn:=h.fresh r' nl;simp only at hn;have e1:r'≠r:=λe=>by rw[e,hr]at hn;cases hn
  have e2:r'≠q:=λe=>by rw[e,hq]at hn;cases hn
  rw[<-Vn];simp only[dx];rw[iK e1,iK e2];exact hn
 rw[Vn];exact⟨L1,⟨⟨W,base,M,w0,gG,h0.size,λt=>aD.gq Mw _ _ (aD.gq hA _ _ (h0.tmps t)),Im⟩,jA.comp (jA.comp h.r.gq hA (gG.UH _) wn.2) Mw (gG.UH _) wn.2,h.r.defers,h.r.bg,⟨_,kc⟩⟩,kc,h.low,h.it⟩
end
end Go.DM
namespace Go.DM
open Go.RowKit
variable [bD] [dF]
section
variable{P:Program}
structure MM(P:Program)(f:FuncId)(args:bW)(ab:bS)(N N':Nat)(x8:DV->bS->Prop):Prop where
 entry:Cg P f
 le:N<=N'
 none:∀val aM,x8 val aM->(∀r,r<N->ab r=none->aM r=none)/\∀r,N'<=r->aM r=none
 run:∀(base:Nat) (W M:fm) (w0 w:World) (L:Loc) (cT:Array Value),ci base W M w0 ab w L->lp w W ab L args cT.toList->
  Calls P f cT w λe w'=>∃v L' val aM,e=.returned v/\x8 val aM/\ci base W M w0 aM w' L'/\jA W ab L w aM L' w'/\aD w' W aM L' val v
def axl(t:Nat)(x8:DV->bS->Prop):Exit->lK->Prop
 |.normal,st|.ret,st=>x8 (st.tmps t) st.ab
 |_,_=>False
def aR.az6{f:FuncId}{nt:Nat}{d:DC}{t:Nat}(h:aR P f nt d [.fB t]){args:bW}{ab:bS}{x8:DV->bS->Prop}{N:Nat}(hN:∀r,N<=r->ab r=none)(ct:args.length<=nt)
  {N':Nat} (io:N<=N') (xI:∀val aM,x8 val aM->(∀r,r<N->ab r=none->aM r=none)/\∀r,N'<=r->aM r=none)
  (k:qX ab N->aa P nt d (axl t x8) ⟨look (args.zipIdx.map λp=>(p.2,p.1)),dA [] ab,N,N,[]⟩):MM P f args ab N N' x8:=by
 have Cw:=h.entry;obtain⟨fn,yB,rfl,h3,hr,_⟩:=h;obtain⟨c,hb,hc⟩:=ju.1 h3;refine⟨Cw,io,xI,λbase W M w0 w L cT hO Lb=>?_⟩;have k:=iE (k (Fv hO hN));have hl:=Lb.1;simp only[Lt]at hl;have xN:Ms ⟨W,ab,L,w,base,M,w0,none,none,none⟩ fn.ntmps (Af args ab N) {tmps:=cT++Array.replicate (fn.ntmps-cT.size) Go.undef,defers:=[]} w L:=by
  refine⟨⟨⟨W,base,M,w0,⟨λ_=>rfl,rfl,rfl,rfl,rfl⟩,by simp;omega,λk=>?_,hO⟩,
   jA.cS (c8.refl _ _),⟨[],rfl,Zcx,(λ_ h=>by cases h),λ_=>rfl⟩,λ_=>zN hO.fr.jN hO.fr.size,⟨N,hN⟩⟩,hN,hN,λh=>by cases h⟩
  simp only[Af];cases hk:args[k]? with
  |some x=>
   have hv:∃v,cT.toList[k]? =some v:=by
    have:k<cT.size:=by rw[hl];exact(tp.1 hk).1
    exact⟨cT[k],by simp[this]⟩
   obtain⟨v,hv⟩:=hv;simp only[qw hv,Mv];exact Lb.2 k x v hk hv
  |none=>
   have Ba:cT.size<=k:=by
    have:=Zcc.1 hk;omega
   simp only[Mv,aD,qx Ba]
 refine callsIn_wide.1 (callsIn_of_wp_marks (n:=0) yB hb trivial ?_);refine wpIn_mono (k.run c hc 0 _ _ _ _ ⟨λJ hJ=>(by cases hJ),λl r s hY=>(by cases hY),λl hl=>(by cases hl)⟩ xN) ?_;rintro e a' w' ⟨ir,L',q,r'⟩;have done:x8 (ir.tmps t) ir.ab->LeavesInM Fence.wide 0 P fn a'.tmps (λe w'=>∃v L' val aM,e=.returned v/\x8 val aM/\ci base W M w0 aM w' L'/\jA W ab L w aM L' w'/\aD w' W aM L' val v) a'.defers .returning w':=by
  intro ZO;obtain⟨Ds,h1,h2,h3,_⟩:=r'.r.defers;rw[h1];refine leaves (κ:=⟨W,ab,L,w,base,M,w0,none,none,none⟩) rfl ?_ Ds a' w' L' r'.r h1 h2 h3;intro a2 w2 L2 h4;obtain⟨W',O3,M',w0',gG,h0⟩:=h4.ex;obtain⟨_,e1,e2,e3,e4⟩:=gG
  replace h0:R0 base W M w0 fn.ntmps ir.tmps ir.ab a2 w2 L2:=by rw[e1,e2,e3,e4]at h0;exact h0
  exact⟨_,Hb hr,_,L2,ir.tmps t,ir.ab,rfl,ZO,h0.o,h4.gq,h0.tmps t⟩
 cases e with
 |normal=>exact done q
 |ret=>exact done q
 |_=>exact q.elim
section
variable{nt:Nat}{Γ:kv}{Q:Exit->lK->Prop}{tm:dW}{ob:bS}{aP low:Nat}{td:List (aG)}
end
end
end Go.DM
namespace Go.DM
section
variable [bD]
def xn:Code->List (Array Oper)
 |.region _ ops _=>[ops]
 |.seq a b=>xn a++xn b
 |.cond _ a b=>xn a++xn b
 |.block _ c=>xn c
 |.loop c=>xn c
 |.rangeFunc _ _ a b=>xn a++xn b
 |_=>[]
noncomputable def rg0(P:Program)(fn:Func)(k:Nat):cA:=
 match fn.body with
 |some c=>match(xn c)[k]? with
  |some ops=>(fO P ops).getD []
  |none=>[]
 |none=>[]
noncomputable def rg1(P:Program)(f k:Nat):cA:=match P.funcs[f]? with
 |some fn=>rg0 P fn k
 |none=>[]
def atG(sf:cN)(l:cA):cA:=l.map λr=>match r.d with
 |.call f xs=>if sf.contains f then⟨.callS f xs,r.dst,r.guard,r.after,none⟩else if sf.contains (f+100000)then⟨.callF f xs,r.dst,r.guard,r.after,none⟩else if sf.contains (f+200000)then⟨.callR f xs,r.dst,r.guard,r.after,none⟩else r
 |.mkSlice e sz b z n=>if sf.contains (e+300000)then⟨.mkSliceB e sz b z n,r.dst,r.guard,r.after,none⟩else r
 |_=>r
def Rk:Code->Nat
 |.region _ _ _=>1
 |.seq a b|.cond _ a b|.rangeFunc _ _ a b=>Rk a+Rk b
 |.block _ c|.loop c=>Rk c
 |_=>0
noncomputable def skC(g:Nat->cA):Nat->Code->DC
 |_,.skip=>.skip
 |k,.region _ ops iL=>match LX ops with
  |some q=>.OK q.1 q.2.1 q.2.2
  |none=>.region iL (g k)
 |k,.seq a b=>.seq (skC g k a) (skC g (k+Rk a) b)
 |k,.cond c a b=>match bK.of c with
  |some z=>.cond z (skC g k a) (skC g (k+Rk a) b)
  |none=>.D8
 |k,.block id c=>.block id (skC g k c)
 |k,.loop c=>.loop (skC g k c)
 |_,.exit id=>.exit id
 |_,.ret=>.ret
 |k,.rangeFunc f ps a b=>match bK.of f with
  |some z=>.yI z ps.toList (skC g k a) (skC g (k+Rk a) b)
  |none=>.D8
 |_,_=>.D8
noncomputable def sk1(g:Nat->cA)(P:Program)(f:Nat):DC:=match P.funcs[f]? with
 |some fn=>match fn.body with
  |some c=>skC g 0 c
  |none=>.D8
 |none=>.D8
def aR.at{P:Program}{f nt:Nat}{d:DC}{rs:List cH}(h:((P.funcs[f]?).map λfn=>(fn.ntmps,fn.body.map (bR P nt),fn.results.toList.mapM (nh P),fn.name== "runtime.NumGoroutine"))=some (nt,some d,some rs,false):=by kernel_rfl):aR P f nt d rs:=by
 obtain⟨fn,h1,h2⟩:=ju.1 h;simp only[eX]at h2;exact⟨fn,h1,h2⟩
def pV{b:Bool}{l1 l2:cA}(h:l1=l2:=by kernel_rfl):DC.region b l1=DC.region b l2:=by rw[h]
end
end Go.DM
namespace Go.DM.iN
section
variable{α:Type}(lt:α->α->Bool)
structure SWO:Prop where
 irrefl:∀x,lt x x=false
 trans:∀x y z,lt x y=true->lt y z=true->lt x z=true
 ntrans:∀x y z,lt x y=false->lt y z=false->lt x z=false
def dU(l:List α):Prop:=l.Pairwise λa b=>lt b a=false
def lN(x y:α):Bool:= !lt x y&& !lt y x
def kC(x:α):List α->List α
 |[]=>[x]
 |y::ys=>if lt x y then y::kC x ys else x::y::ys
def nM(l:List α):List α:=l.foldl (λiz x=>kC lt x iz) []
def dP(l:List α):List α:=(nM lt l).reverse
variable{lt}
def SWO.asymm(h:SWO lt){x y:α}(h1:lt x y=true):lt y x=false:=by
 cases h2:lt y x with
 |false=>rfl
 |true=>have:=h.trans x y x h1 h2;rw[h.irrefl]at this;cases this
def CP(x:α):∀(l:List α) (z:α),z∈kC lt x l↔z=x\/z∈l
 |[],z=>by simp[kC]
 |y::ys,z=>by
  simp only[kC];split
  .simp only[jv,CP x ys z];constructor
   .rintro(h|h|h)<;>simp[h]
   .rintro(h|h|h)<;>simp[h]
  .simp
def Al(h:SWO lt)(x:α):∀l:List α,l.Pairwise (λa b=>lt a b=false)->(kC lt x l).Pairwise λa b=>lt a b=false
 |[],_=>by simp[kC]
 |y::ys,hs=>by
  simp only[kC];rw[Lu]at hs;split
  .rename_i hxy;rw[Lu];refine⟨λz hz=>?_,Al h x ys hs.2⟩;rcases(CP x ys z).1 hz with rfl|hz
   .exact h.asymm hxy
   .exact hs.1 z hz
  .rename_i hxy;have hxy:lt x y=false:=by simpa using hxy
   rw[Lu];refine⟨λz hz=>?_,Lu.2 hs⟩;rcases jv.1 hz with rfl|hz
   .exact hxy
   .exact h.ntrans x y z hxy (hs.1 z hz)
def Am(h:SWO lt)(x z:α):∀l:List α,(kC lt x l).filter (lN lt z)=(if lN lt z x then x::l.filter (lN lt z)else l.filter (lN lt z))
 |[]=>by simp[kC,Ic]
 |y::ys=>by
  simp only[kC];split
  .rename_i hxy;rw[Ic,Am h x z ys];have hn:lN lt z x=true->lN lt z y=false:=by
    intro hx;simp only[lN,mA,AF]at hx;cases hy:lN lt z y with
    |false=>rfl
    |true=>
     simp only[lN,mA,AF]at hy;have:=h.ntrans x z y hx.2 hy.1;rw[hxy]at this;cases this
   by_cases hzx:lN lt z x=true
   .simp[hzx,hn hzx]
   .simp only[ZcP]at hzx;simp[hzx,Ic]
  .rw[Ic]
def xU(h:SWO lt):∀(l iz:List α),iz.Pairwise (λa b=>lt a b=false)->(l.foldl (λiz x=>kC lt x iz) iz).Pairwise λa b=>lt a b=false
 |[],iz,ha=>ha
 |x::l,iz,ha=>xU h l _ (Al h x iz ha)
def xV(h:SWO lt)(z:α):∀(l iz:List α),(l.foldl (λiz x=>kC lt x iz) iz).filter (lN lt z)=(l.filter (lN lt z)).reverse++iz.filter (lN lt z)
 |[],iz=>by simp
 |x::l,iz=>by
  rw[Br,xV h z l,Am h];by_cases hx:lN lt z x=true
  .simp[hx]
  .simp only[ZcP]at hx;simp[hx]
def fq(h:SWO lt)(l:List α):dU lt (dP lt l):=by
 unfold dU dP;rw[List.pairwise_reverse];exact xU h l [] List.Pairwise.nil
def ma(h:SWO lt)(z:α)(l:List α):(dP lt l).filter (lN lt z)=l.filter (lN lt z):=by
 unfold dP nM;rw[List.filter_reverse,xV h z];simp
def ud(h:SWO lt)(x:α):lN lt x x=true:=by simp[lN,h.irrefl]
def Fl:∀(l iz:List α) (z:α),z∈l.foldl (λiz x=>kC lt x iz) iz↔z∈l\/z∈iz
 |[],iz,z=>by simp
 |x::l,iz,z=>by
  rw[Br,Fl l,CP];simp only[jv];constructor
  .rintro(h|h|h)<;>simp[h]
  .rintro((h|h)|h)<;>simp[h]
@[simp] def gI(l:List α)(z:α):z∈dP lt l↔z∈l:=by simp[dP,nM,Fl]
def An(x:α):∀l:List α,(kC lt x l).length=l.length+1
 |[]=>rfl
 |y::ys=>by simp only[kC];split<;>simp[An x ys]
def xW:∀l iz:List α,(l.foldl (λiz x=>kC lt x iz) iz).length=l.length+iz.length
 |[],iz=>by simp
 |x::l,iz=>by rw[Br,xW l,An];simp;omega
@[simp] def gO(l:List α):(dP lt l).length=l.length:=by simp[dP,nM,xW]
def vQ(h:SWO lt):∀(l1 l2:List α),dU lt l1->dU lt l2->(∀x,l1.filter (lN lt x)=l2.filter (lN lt x))->l1=l2
 |[],[],_,_,_=>rfl
 |[],b::t,_,_,hf=>by
  have:=hf b;simp[Ic,ud h]at this
 |a::t,[],_,_,hf=>by
  have:=hf a;simp[Ic,ud h]at this
 |a::t1,b::t2,s1,s2,hf=>by
  have s1':=Lu.1 s1;have s2':=Lu.1 s2;have ik:lt b a=false:=by
   have:b∈a::t1:=by
    have:b∈(a::t1).filter (lN lt b):=by rw[hf b];simp[ud h]
    exact(RI.1 this).1
   rcases jv.1 this with rfl|hm
   .exact h.irrefl _
   .exact s1'.1 b hm
  have hba:lt a b=false:=by
   have:a∈b::t2:=by
    have:a∈(b::t2).filter (lN lt a):=by rw[<-hf a];simp[ud h]
    exact(RI.1 this).1
   rcases jv.1 this with rfl|hm
   .exact h.irrefl _
   .exact s2'.1 a hm
  have he:lN lt a b=true:=by simp[lN,ik,hba]
  have h1:=hf a;rw[Ic,Ic,ud h,he]at h1;simp only[Eg,Gf]at h1;obtain⟨rfl,_⟩:=h1
  congr 1
  refine vQ h t1 t2 s1'.2 s2'.2 λx=>?_;have:=hf x;rw[Ic,Ic]at this;split at this
  .exact(ZcS this).2
  .exact this
def nA(h:SWO lt){l l':List α}(hs:dU lt l')(hf:∀x,l'.filter (lN lt x)=l.filter (lN lt x)):dP lt l=l':=
 vQ h _ _ (fq h l) hs λx=>by rw[ma h,hf]
def jg(h:SWO lt){l:List α}(hs:dU lt l):dP lt l=l:=nA h hs λ_=>rfl
def gZ{l1 l2:List α}:dU lt (l1++l2)↔dU lt l1/\dU lt l2/\∀a∈l1,∀b∈l2,lt b a=false:=by
 unfold dU;rw[List.pairwise_append]
def MH(h:SWO lt){L1 L2 R1 R2:List α}(hL:dU lt (L1++L2))(hR:dU lt (R1++R2))(h1:∀r∈R1,∀l∈L2,lt r l=true)(h2:∀l∈L1,∀r∈R2,lt r l=false):
  dP lt (L1++R1)++dP lt (L2++R2)=dP lt (L1++L2++(R1++R2)):=by
 rw[gZ]at hL hR
 symm
 refine nA h ?_ λx=>?_
 .rw[gZ];refine⟨fq h _,fq h _,λa ha b hb=>?_⟩;simp only[gI,lF]at ha hb;rcases ha with ha|ha<;>rcases hb with hb|hb
  .exact hL.2.2 a ha b hb
  .exact h2 a ha b hb
  .exact h.asymm (h1 a ha b hb)
  .exact hR.2.2 a ha b hb
 .simp only[LA,ma h];have:R1.filter (lN lt x)++L2.filter (lN lt x)=L2.filter (lN lt x)++R1.filter (lN lt x):=by
   by_cases e:R1.filter (lN lt x)=[]
   .simp[e]
   .obtain⟨r,hr⟩:=List.exists_mem_of_ne_nil _ e;obtain⟨ql,qd⟩:=RI.1 hr;have:L2.filter (lN lt x)=[]:=by
     rw[ZcE];intro l hl hx;simp only[lN,mA,AF]at qd hx;have k1:=h1 r ql l hl;have k2:=h.ntrans r x l qd.2 hx.1;rw[k1]at k2;cases k2
    simp[this]
  simp only[xm];rw[<-List.append_assoc (R1.filter _),this,xm]
def CQ(h:SWO lt){l1 l2:List α}{x:α}(h1:dU lt l1)(h2:dU lt l2)(h12:∀a∈l1,∀b∈l2,lt b a=false)(GC:∀a∈l1,lt x a=false)(xA:∀b∈l2,lt b x=false):dU lt (l1++x::l2):=by
 rw[gZ];refine⟨h1,Lu.2 ⟨xA,h2⟩,λa ha b hb=>?_⟩;rcases jv.1 hb with rfl|hb
 .exact GC a ha
 .exact h12 a ha b hb
def R9(h:SWO lt){R1 R2:List α}{x:α}(hR:dU lt (R1++R2))(h1:∀r∈R1,lt r x=true)(h2:∀r∈R2,lt r x=false):dP lt (x::(R1++R2))=R1++x::R2:=by
 rw[gZ]at hR;refine nA h (CQ h hR.1 hR.2.1 hR.2.2 (λa ha=>h.asymm (h1 a ha)) h2) λz=>?_;simp only[LA,Ic];by_cases hz:lN lt z x=true
 .have:R1.filter (lN lt z)=[]:=by
   rw[ZcE];intro r hr hx;simp only[lN,mA,AF]at hz hx;have:=h.ntrans r z x hx.2 hz.1;rw[h1 r hr]at this;cases this
  simp[hz,this]
 .simp only[ZcP]at hz;simp[hz]
def Vk(h:SWO lt){L1 L2:List α}{x:α}(hL:dU lt (L1++L2))(h1:∀l∈L1,lt x l=false)(h2:∀l∈L2,lt x l=true):dP lt (L1++L2++[x])=L1++x::L2:=by
 rw[gZ]at hL;refine nA h (CQ h hL.1 hL.2.1 hL.2.2 h1 λb hb=>h.asymm (h2 b hb)) λz=>?_;simp only[LA,Ic,ZdC];by_cases hz:lN lt z x=true
 .have:L2.filter (lN lt z)=[]:=by
   rw[ZcE];intro r hr hx;simp only[lN,mA,AF]at hz hx;have:=h.ntrans x z r hz.2 hx.1;rw[h2 r hr]at this;cases this
  simp[hz,this]
 .simp only[ZcP]at hz;simp[hz]
end
section
variable{α:Type}
def eY(D:List α)(i j:Nat):List α:=(D.drop i).take (j-i)
@[simp] def af4(D:List α)(i j:Nat):(eY D i j).length=min (j-i) (D.length-i):=by simp[eY]
def aaH [Inhabited α]{D:List α}{i j:Nat}{x:α}:x∈eY D i j↔∃k,i<=k/\k<j/\k<D.length/\D.getD k default=x:=by
 unfold eY;rw[ZR];constructor
 .rintro⟨n,hn,rfl⟩;simp only[Ee,OJ]at hn;refine⟨i+n,by omega,by omega,by omega, ?_⟩;rw[Zch,ZM,ZbR,mM (by omega)];rfl
 .rintro⟨k,h1,h2,h3,rfl⟩;refine⟨k-i,by simp only[Ee,OJ];omega, ?_⟩;rw[Zch,ZM,ZbR,mM h3];simp only[show i+(k-i)=k by omega,GA]
def rQ(D:List α){i j k:Nat}(h1:i<=j)(h2:j<=k):eY D i k=eY D i j++eY D j k:=by
 unfold eY;rw[show k-i=(j-i)+(k-j)by omega,List.take_add,ZcI,show i+(j-i)=j by omega]
def ef(D:List α){i j:Nat}(h:i<=j):eY D i j++D.drop j=D.drop i:=by
 unfold eY
 conv=>rhs;rw[<-List.take_append_drop (j-i) (D.drop i)]
 rw[ZcI,show i+(j-i)=j by omega]
def mb(A X B:List α){i j:Nat}(hi:A.length=i)(hj:i+X.length=j):eY (A++(X++B)) i j=X:=by
 subst hi;unfold eY;rw[List.drop_left,show j-A.length=X.length by omega,ZdF]
@[simp] def Js(D:List α)(i:Nat):eY D i i=[]:=by simp[eY]
def dG(lt:α->α->Bool)(D:List α)(a b:Nat):List α:=D.take a++(dP lt (eY D a b)++D.drop b)
def nY(D:List α)(a m b:Nat):List α:=D.take a++(eY D m b++(eY D a m++D.drop b))
def uf(D:List α)(a b n:Nat):List α:=D.take a++(eY D b (b+n)++(eY D (a+n) b++(eY D a (a+n)++D.drop (b+n))))
def Vl(D:List α){a m b:Nat}(h1:a<=m)(h2:m<=b):D=D.take a++(eY D a m++(eY D m b++D.drop b)):=by
 conv=>lhs;rw[<-List.take_append_drop a D]
 rw[ef D h2,ef D h1]
def CR(A B:List α){i:Nat}(hi:A.length=i):(A++B).take i=A:=by subst hi;simp
def CS(A X B:List α){i:Nat}(hi:A.length+X.length=i):(A++(X++B)).drop i=B:=by
 subst hi;rw[<-List.append_assoc,List.drop_left' (by simp)]
def Sa(A P Q B:List α){a m b:Nat}(ha:A.length=a)(hm:a+P.length=m)(hb:m+Q.length=b):nY (A++(P++(Q++B))) a m b=A++(Q++(P++B)):=by
 unfold nY;rw[CR _ _ ha,mb A P _ ha hm,<-List.append_assoc A P,mb (A++P) Q B (by simp;omega) (by omega),CS (A++P) Q B (by simp;omega)]
def rR(A X M Y B:List α){a b n:Nat}(ha:A.length=a)(hx:X.length=n)(hm:a+n+M.length=b)(hy:Y.length=n):uf (A++(X++(M++(Y++B)))) a b n=A++(Y++(M++(X++B))):=by
 have s1:eY (A++(X++(M++(Y++B)))) a (a+n)=X:=mb A X _ ha (by omega);have s2:eY (A++(X++(M++(Y++B)))) (a+n) b=M:=by
  rw[show A++(X++(M++(Y++B)))=(A++X)++(M++(Y++B))by simp];exact mb _ M _ (by simp;omega) (by omega)
 have s3:eY (A++(X++(M++(Y++B)))) b (b+n)=Y:=by
  rw[show A++(X++(M++(Y++B)))=(A++X++M)++(Y++B)by simp];exact mb _ Y _ (by simp;omega) (by omega)
 have s4:(A++(X++(M++(Y++B)))).drop (b+n)=B:=by
  rw[show A++(X++(M++(Y++B)))=(A++X++M)++(Y++B)by simp];exact CS _ Y _ (by simp;omega)
 unfold uf;rw[CR _ _ ha,s1,s2,s3,s4]
def o9(lt:α->α->Bool)(A X B:List α){a b:Nat}(ha:A.length=a)(hb:a+X.length=b):dG lt (A++(X++B)) a b=A++(dP lt X++B):=by
 unfold dG;rw[CR _ _ ha,mb A X B ha hb,CS A X B (by omega)]
@[simp] def Ez(lt:α->α->Bool)(D:List α){a b:Nat}(h1:a<=b)(h2:b<=D.length):(dG lt D a b).length=D.length:=by
 simp[dG];omega
def MI{lt:α->α->Bool}{D:List α}{a b:Nat}{x:α}(h1:a<=b):x∈dG lt D a b↔x∈D:=by
 unfold dG;rw[lF,lF,gI]
 conv=>rhs;rw[<-List.take_append_drop a D,<-ef D h1]
 rw[lF,lF]
def Sb{D:List α}{a m b:Nat}{x:α}(h1:a<=m)(h2:m<=b):x∈nY D a m b↔x∈D:=by
 unfold nY
 conv=>rhs;rw[Vl D h1 h2]
 simp only[lF];constructor
 .rintro(h|h|h|h)<;>simp[h]
 .rintro(h|h|h|h)<;>simp[h]
def G4{D:List α}{a m b:Nat}(h1:a<=m)(h2:m<=b)(h3:b<=D.length):(nY D a m b).length=D.length:=by
 simp[nY];omega
def G5{lt:α->α->Bool}(h:SWO lt){D:List α}{a s m e b mid:Nat}(h1:a<=s)(h2:s<=m)(h3:m<=e)(h4:e<=b)(h5:b<=D.length)(amt:s+e=mid+m)
  (hL:dU lt (eY D a m)) (hR:dU lt (eY D m b)) (k1:∀r∈eY D m e,∀l∈eY D s m,lt r l=true) (k2:∀l∈eY D a s,∀r∈eY D e b,lt r l=false):
  let D1:=nY D s m e
  let D2:=dG lt D1 a mid
  (dU lt (eY D1 a s)/\dU lt (eY D1 s mid))/\(dU lt (eY D2 mid e)/\dU lt (eY D2 e b))/\dG lt D2 mid b=dG lt D a b/\(s=a->D2=D1)/\(mid<=s->D2=D1)/\(e<=mid->dG lt D2 mid b=D2)/\(b<=e->dG lt D2 mid b=D2):=by
 have lA:(D.take a).length=a:=by simp;omega
 have lL1:(eY D a s).length=s-a:=by simp;omega
 have lL2:(eY D s m).length=m-s:=by simp;omega
 have lR1:(eY D m e).length=e-m:=by simp;omega
 have lR2:(eY D e b).length=b-e:=by simp;omega
 have hD:D=D.take a++(eY D a s++(eY D s m++(eY D m e++(eY D e b++D.drop b)))):=by
  rw[ef D h4,ef D h3,ef D h2,ef D h1,Ek]
 rw[rQ D h1 h2]at hL;rw[rQ D h3 h4]at hR;generalize D.take a=A at lA hD;generalize eY D a s=L1 at*
 generalize eY D s m=L2 at*
 generalize eY D m e=R1 at*
 generalize eY D e b=R2 at*
 generalize D.drop b=B at*
 subst hD;have e1:nY (A++(L1++(L2++(R1++(R2++B))))) s m e=A++(L1++(R1++(L2++(R2++B)))):=by
  rw[<-List.append_assoc A L1,Sa (A++L1) L2 R1 _ (by simp;omega) (by omega) (by omega),xm]
 have e2:dG lt (A++(L1++(R1++(L2++(R2++B))))) a mid=A++(dP lt (L1++R1)++(L2++(R2++B))):=by
  rw[<-List.append_assoc L1 R1,o9 lt A (L1++R1) _ lA (by simp;omega)]
 have e3:dG lt (A++(dP lt (L1++R1)++(L2++(R2++B)))) mid b=A++(dP lt (L1++R1)++(dP lt (L2++R2)++B)):=by
  rw[show A++(dP lt (L1++R1)++(L2++(R2++B)))=(A++dP lt (L1++R1))++((L2++R2)++B)by simp,o9 lt (A++dP lt (L1++R1)) (L2++R2) _ (by simp;omega) (by simp;omega),xm]
 have e4:dG lt (A++(L1++(L2++(R1++(R2++B))))) a b=A++(dP lt (L1++L2++(R1++R2))++B):=by
  have:=o9 lt A (L1++L2++(R1++R2)) B lA (b:=b) (by simp;omega);simp only[xm]at this⊢;exact this
 simp only[e1,e2,e3];have hL':=gZ.1 hL;have hR':=gZ.1 hR;refine⟨⟨?_, ?_⟩,⟨?_, ?_⟩, ?_, ?_, ?_, ?_, ?_⟩
 .rw[mb A L1 _ lA (by omega)];exact hL'.1
 .rw[<-List.append_assoc A L1,mb (A++L1) R1 _ (by simp;omega) (by omega)];exact hR'.1
 .rw[<-List.append_assoc A,mb (A++dP lt (L1++R1)) L2 _ (by simp;omega) (by omega)];exact hL'.2.1
 .rw[<-List.append_assoc A,<-List.append_assoc (A++dP lt (L1++R1)),mb (A++dP lt (L1++R1)++L2) R2 _ (by simp;omega) (by omega)];exact hR'.2.1
 .rw[e4,<-MH h hL hR k1 k2];simp only[xm]
 .intro hs;have:L1=[]:=oK (by omega);subst this;rw[jB,jg h hR'.1];simp
 .intro hs;have:R1=[]:=oK (by omega);subst this;rw[Ej,jg h hL'.1];simp
 .intro hs;have:L2=[]:=oK (by omega);subst this;rw[jB,jg h hR'.2.1];simp
 .intro hs;have:R2=[]:=oK (by omega);subst this;rw[Ej,jg h hL'.2.1];simp
end
section
variable{α:Type}{lt:α->α->Bool}
def Jt(h:SWO lt){l l':List α}(hf:∀x,l.filter (lN lt x)=l'.filter (lN lt x)):dP lt l=dP lt l':=
 nA h (fq h l') λx=>by rw[ma h,hf]
def G6(h:SWO lt){D:List α}{a b:Nat}(ik:a<=b):dP lt (dG lt D a b)=dP lt D:=by
 refine Jt h λx=>?_;unfold dG
 conv=>rhs;rw[<-List.take_append_drop a D,<-ef D ik]
 simp only[LA,ma h]
def Ju(A B:List α){i j:Nat}(h:j<=A.length):eY (A++B) i j=eY A i j:=by
 unfold eY;by_cases hi:i<=A.length
 .rw[Zci hi,Zdh (by simp;omega)]
 .rw[show j-i=0 by omega];simp
def Fm(A B:List α){i j:Nat}(h:A.length<=i):eY (A++B) i j=eY B (i-A.length) (j-A.length):=by
 unfold eY;rw[Zdy,Zb3 h,jB,show j-A.length-(i-A.length)=j-i by omega]
def iF{D:List α}{a b i j:Nat}(ik:a<=b)(hb:b<=D.length)(h:j<=a\/b<=i):eY (dG lt D a b) i j=eY D i j:=by
 have hD:D=D.take a++(eY D a b++D.drop b):=by rw[ef D ik,Ek]
 have lA:(D.take a).length=a:=by simp;omega
 have lS:(eY D a b).length=b-a:=by simp;omega
 unfold dG
 conv=>rhs;rw[hD]
 rcases h with h|h
 .rw[Ju _ _ (by omega),Ju _ _ (by omega)]
 .rw[<-List.append_assoc,<-List.append_assoc,Fm _ _ (by simp;omega),Fm _ _ (by simp;omega)]
  congr 1<;>simp
def kV{D:List α}{a b:Nat}(ik:a<=b)(hb:b<=D.length):eY (dG lt D a b) a b=dP lt (eY D a b):=by
 unfold dG;exact mb _ _ _ (by simp;omega) (by simp;omega)
def AA{D:List α}{i j:Nat}(h:D.length<=j):eY D i j=D.drop i:=by
 unfold eY;exact Lz (by simp;omega)
def yY(lt:α->α->Bool)(D:List α)(bs:Nat)(p:fm):Prop:=∀j,p j->dU lt (eY D (j*bs) (j*bs+bs))
def yZ{j k bs:Nat}(h:j<k):j*bs+bs<=k*bs:=by
 have:=Ec bs (show j+1<=k by omega);rw[Fb]at this;omega
end
end Go.DM.iN
