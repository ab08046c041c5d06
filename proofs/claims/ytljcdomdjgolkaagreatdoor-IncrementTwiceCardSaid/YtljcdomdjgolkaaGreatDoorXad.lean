/- Part of the proof. Conditions: none. -/
import Derived.Test.YtljcdomdjgolkaaGreatDoorXac
import Derived.RangeFuncLeaves
import Derived.RangeFuncRecord
import Derived.RangeFuncNested
set_option linter.unusedSectionVars false
set_option linter.unusedSimpArgs false
set_option linter.unusedVariables false
namespace Go.DM
open Go.RowKit
variable [Laid]
inductive bN where
 |slot (t:Nat)
 |cell (a n:Nat) (agg:Bool)
def s8(P:Program):ResultVar->Option bN
 |.tmp t=>some (.slot t)
 |.cell a t=>match P.underlying t,P.info? t with
  |some d,some i=>some (.cell a i.size (bA d))
  |_,_=>none
def bN.pc(st:kV):bN->oi
 |.slot t=>⟨True,st.tmps t,none⟩
 |.cell a n agg=>fV n agg st.objs (st.tmps a)
def qY(lend:Bool)(st:kV):List bN->Prop
 |[]=>True
 |r::rs=>((r.pc st).ok/\B4 lend st.objs (r.pc st).val)/\qY lend st rs
def uV(st:kV)(rs:List bN):List T:=rs.map λr=>qb st.objs (r.pc st).val
def QB(rs:List bN)(t:T)(st:kV):Prop:=
 qY true st rs/\t=(match uV st rs with|[x]=>x|ts=>.eD ts)
def JO(rs:List bN)(r:iu)(st:kV):Prop:=
 qY false st rs/\st.objs=r.objs/\r.val=.v (match uV st rs with|[x]=>x|ts=>.eD ts)
def yZ:Option T->DV
 |some t=>.v t
 |none=>.skip
def nL(ts:List T):kV:=⟨λk=>yZ ts[k]?,λ_=>none,1000,1000,[]⟩
def JP:Option DV->DV
 |some d=>d
 |none=>.skip
def yh(args:List DV)(objs:aU)(N:Nat):kV:=⟨λk=>JP args[k]?,objs,N,N,[]⟩
def finQ(rs:List bN)(t:T):Exit->kV->Prop
 |.normal,st|.ret,st=>QB rs t st
 |_,_=>False
def W9(rs:List bN)(r:iu):Exit->kV->Prop
 |.normal,st|.ret,st=>JO rs r st
 |_,_=>False
section
variable{P:Program}
theorem Xa{base:Nat}{W M:Nat->Prop}{w0 w:World}{nt:Nat}{st:kV}{a:Act}{L:Loc}(h:R0 base W M w0 nt st.tmps st.objs a w L){lend:Bool}{W':Nat->Prop}(hW:lend=true->∀r o b,st.objs r=some o->L.own r o=some b->¬W' b)(Jy:∀b,W' b->WW W st.objs L b){rv:ResultVar}{r:bN}(hr:s8 P rv=some r)(aF:(r.pc st).ok/\B4 lend st.objs (r.pc st).val):
  ∃v,((match rv with|.tmp t=>pure (a.tmps.getD t Go.undef)|.cell b t=>do loadVar t (<-asAddr (a.tmps.getD b Go.undef))):Sem Value).run P w=.ok v w/\aR w W' (qb st.objs (r.pc st).val) v:=by
 have fin:∀{d:DV} {x:Value},av w W st.objs L d x->B4 lend st.objs d->aR w W' (qb st.objs d) x:=λhd hk=>
  (uO (lend:=lend) W' h.o hW Jy).1 _ _ hd hk
 cases rv with
 |tmp t=>
  simp only[s8,Zaa]at hr;subst hr;exact⟨_,rfl,fin (h.tmps t) aF.2⟩
 |cell b t=>
  simp only[s8]at hr;split at hr
  ·rename_i d i hd hi;simp only[Zaa]at hr;subst hr;simp only[bN.pc]at aF;obtain⟨hp,v,bz,hv⟩:=zO h.o hd hi (h.tmps b) aF.1;refine⟨v, ?_,fin hv aF.2⟩;have hpt:∃p,a.tmps.getD b Go.undef=.pointer (some p):=by
    have hx:=h.tmps b;have ho:=aF.1;cases hq:st.tmps b with
    |ptr r off=>rw[hq]at hx;simp only[av]at hx;exact⟨_,hx.2⟩
    |kv rows j off=>rw[hq]at hx;simp only[av]at hx;obtain⟨_,_,_,hx,_⟩:=hx;exact⟨_,hx⟩
    |gu cs off=>rw[hq]at hx;simp only[av]at hx;obtain⟨_,_,hx,_⟩:=hx;exact⟨_,hx⟩
    |jc r ver j off=>rw[hq]at hx;simp only[av]at hx;obtain⟨⟨_,_,hx⟩,_⟩:=hx;exact⟨_,hx⟩
    |v t'=>
     rw[hq]at hx ho;cases t' with
     |box cs=>simp only[av,aR]at hx;obtain⟨_,_,hx,_⟩:=hx;exact⟨_,hx⟩
     |_=>exact ho.elim
    |_=>rw[hq]at ho;exact ho.elim
   obtain⟨p,hp⟩:=hpt;show Sem.run P (do loadVar t (<-asAddr (a.tmps.getD b Go.undef))) w=_;rw[hp]at bz⊢;simpa [Instr.loadAt,Instr.sureAddr,asAddr]using bz
  ·cases hr
theorem Mq{base:Nat}{W M:Nat->Prop}{w0 w:World}{nt:Nat}{st:kV}{a:Act}{L:Loc}(h:R0 base W M w0 nt st.tmps st.objs a w L){lend:Bool}{W':Nat->Prop}(hW:lend=true->∀r o b,st.objs r=some o->L.own r o=some b->¬W' b)(Jy:∀b,W' b->WW W st.objs L b):∀{rvs:List ResultVar} {rs:List bN},rvs.mapM (s8 P)=some rs->qY lend st rs->
  ∃vs,(rvs.mapM (λrv=>((match rv with|.tmp t=>pure (a.tmps.getD t Go.undef)|.cell b t=>do loadVar t (<-asAddr (a.tmps.getD b Go.undef))):Sem Value))).run P w=.ok vs w/\dt w W' (uV st rs) vs
 |[],rs,hr,_=>by simp at hr;subst hr;exact⟨[],by simp,by simp[uV,dt]⟩
 |rv::rvs,rs,hr,aF=>by
  simp only[Za1,Zaj,Zaf,Zac,Zaa]at hr;obtain⟨r,lO,rs',jH,rfl⟩:=hr;simp only[qY]at aF;obtain⟨v,h1,h2⟩:=Xa h hW Jy lO aF.1;obtain⟨vs,h3,h4⟩:=Mq h hW Jy jH aF.2;refine⟨v::vs, ?_, ?_⟩
  ·rw[Za1];simp only[Sem.run_bind,h1,Result.andThen_ok,h3,Sem.run_pure]
  ·simp only[uV,Zau,dt];exact⟨v,vs,rfl,h2,h4⟩
theorem qZ{base:Nat}{W M:Nat->Prop}{w0 w:World}{nt:Nat}{st:kV}{a:Act}{L:Loc}(h:R0 base W M w0 nt st.tmps st.objs a w L){lend:Bool}{W':Nat->Prop}(hW:lend=true->∀r o b,st.objs r=some o->L.own r o=some b->¬W' b)(Jy:∀b,W' b->WW W st.objs L b){fn:Func}{rs:List bN}(hr:fn.results.toList.mapM (s8 P)=some rs){t:T}(aF:qY lend st rs/\t=(match uV st rs with|[x]=>x|ts=>.eD ts)):
  ∃v,(results fn a.tmps).run P w=.ok v w/\aR w W' t v:=by
 obtain⟨h1,rfl⟩:=aF;obtain⟨vs,h2,h3⟩:=Mq h hW Jy hr h1;have hm:(fn.results.mapM (λrv=>((match rv with|.tmp t=>pure (a.tmps.getD t Go.undef)|.cell b t=>do loadVar t (<-asAddr (a.tmps.getD b Go.undef))):Sem Value))).run P w=.ok vs.toArray w:=by
  rw[ZcF];simp only[Sem.run_map,h2,Result.andThen_ok]
 have hl:vs.length=(uV st rs).length:=dt.length h3;refine⟨if h:vs.toArray.size=1 then vs.toArray[0]else .tuple vs.toArray, ?_, ?_⟩
 ·have tD:(results fn a.tmps)=(do
   let vs<-fn.results.mapM (λrv=>((match rv with|.tmp t=>pure (a.tmps.getD t Go.undef)|.cell b t=>do loadVar t (<-asAddr (a.tmps.getD b Go.undef))):Sem Value))
   pure (if h:vs.size=1 then vs[0]else .tuple vs)):=rfl
  rw[tD];simp only[Sem.run_bind,hm,Result.andThen_ok,Sem.run_pure]
 ·cases P3:uV st rs with
  |nil=>
   rw[P3]at hl h3;have:vs=[]:=ZaC (by simpa using hl);subst this;simp only[aR];exact⟨#[],by simp,by simp[dt]⟩
  |cons x xs=>
   rw[P3]at hl h3;cases xs with
   |nil=>
    simp only[dt]at h3;obtain⟨v,gW,rfl,hv,rfl⟩:=h3;simpa using hv
   |cons y ys=>
    have:vs.toArray.size≠1:=by simp at hl⊢;omega
    rw[dif_neg this];simp only[aR];exact⟨_,rfl,by simpa using h3⟩
theorem mJ{W:Nat->Prop}{objs:aU}{L:Loc}{w w':World}(Cg:KeepsC (WW W objs L) w w'):∀n,(∀(d:DV) (x:Value),SizeOf.sizeOf d<n->av w W objs L d x->av w' W objs L d x)/\(∀(ds:List DV) (xs:List Value),SizeOf.sizeOf ds<n->aK w W objs L ds xs->aK w' W objs L ds xs)/\(∀(ds:List DV) (xs:List Value),SizeOf.sizeOf ds<n->eW w W objs L ds xs->eW w' W objs L ds xs):=by
 have oF:∀b,b<w.heap.size->WW W objs L b->WW W objs L b:=λ_ _ h=>h;intro n;induction n with
 |zero=>exact⟨λ_ _ h=>by omega,λ_ _ h=>by omega,λ_ _ h=>by omega⟩
 |succ n ih=>
  refine⟨λd x hn hx=>?_,λds xs hn hx=>?_,λds xs hn hx=>?_⟩
  ·cases d with
   |v t=>simp only[av]at hx⊢;exact aR.aD Cg oF t x hx
   |eD cs=>
    simp only[av]at hx⊢;obtain⟨vs,hv,hr⟩:=hx;exact⟨vs,hv,ih.2.2 cs _ (by simp at hn⊢;omega) hr⟩
   |mr f cs=>
    simp only[av]at hx⊢;obtain⟨vs,hv,hr⟩:=hx;exact⟨vs,hv,ih.2.1 cs _ (by simp at hn⊢;omega) hr⟩
   |kv rows i off=>
    simp only[av]at hx⊢;obtain⟨b,o,sz,hx,hb,Ce,hr,h1,h2⟩:=hx;exact⟨b,o,sz,hx,ZaQ hb Cg.size,Ce,aX.aD Cg oF hb Ce sz o rows hr,h1,h2⟩
   |gu cs off=>
    simp only[av]at hx⊢;obtain⟨b,o,hx,hb,Ce,hr⟩:=hx;exact⟨b,o,hx,ZaQ hb Cg.size,Ce,cV.aD Cg oF hb Ce o cs hr⟩
   |agg cs=>
    simp only[av]at hx⊢;obtain⟨vs,hv,hr⟩:=hx;exact⟨vs,hv,ih.2.1 cs _ (by simp at hn⊢;omega) hr⟩
   |_=>exact hx
  ·cases ds with
   |nil=>simpa only[aK]using hx
   |cons d ds=>
    simp only[aK]at hx⊢;obtain⟨y,ys,hv,h1,h2,h3⟩:=hx;exact⟨y,ys,hv,h1,ih.1 d y (by simp at hn⊢;omega) h2,ih.2.1 ds ys (by simp at hn⊢;omega) h3⟩
  ·cases ds with
   |nil=>simpa only[eW]using hx
   |cons d ds=>
    simp only[eW]at hx⊢;obtain⟨y,ys,hv,h2,h3⟩:=hx;exact⟨y,ys,hv,ih.1 d y (by simp at hn⊢;omega) h2,ih.2.2 ds ys (by simp at hn⊢;omega) h3⟩
theorem lW{w:World}{l:Nat}{o o':Obj}(hl:w.heap[l]? =some o)(P5:¬Obj.plain o):∀(b:Nat) x,Obj.plain x->w.heap[b]? =some x->(w.putObj l o').heap[b]? =some x:=λb x hx hb=>by
 rw[World.putObj_heap_other (by rintro rfl;rw[hl]at hb;cases hb;exact P5 hx)];exact hb
theorem uW{base:Nat}{W M:Nat->Prop}{w0 w:World}{objs:aU}{L:Loc}(h:bK base W M w0 objs w L){l:Nat}{o o':Obj}(hl:w.heap[l]? =some o)(P5:¬Obj.plain o)(hb:base<=l):
  bK base W M w0 objs (w.putObj l o') L:=by
 have gv:(w.putObj l o').heap.size=w.heap.size:=by simp[World.putObj]
 have mK:=lW (o':=o') hl P5;have Cg:KeepsC (WW W objs L) w (w.putObj l o'):=⟨by rw[gv];exact Zae _,λb c e fr hb _=>mK b _ trivial hb⟩;have f:=h.fr;refine⟨⟨f.os,f.tape,f.output,f.gZ,by rw[gv];exact f.size,λk hk hm=>?_,f.drawn⟩,λr o ho=>?_,h.apart,h.outer,h.under,h.gl.aD Cg λ_ _ h=>h⟩
 ·rw[World.putObj_heap_other (by omega)];exact f.block k hk hm
 ·have fE:=h.ob r o ho;cases o with
  |box cs=>
   obtain⟨c,e,hc,hr,hm⟩:=fE;exact⟨c,e,mK _ _ trivial hc,(mJ Cg (SizeOf.sizeOf cs+1)).2.1 cs _ (by omega) hr,hm⟩
  |map shs agg c es=>
   obtain⟨arr,hc,hr,k1,k2,k3,hm⟩:=fE;refine⟨arr,mK _ _ trivial hc, ?_,k1,k2,k3,hm⟩;have key:∀(es:List (Nat×T×DV)) (xs:List MapEntry),bj w W objs L es xs->bj (w.putObj l o') W objs L es xs:=by
    intro es;induction es with
    |nil=>intro xs h;simpa only[bj]using h
    |cons e es ih=>
     intro xs h;simp only[bj]at h⊢;obtain⟨x,jI,hx,h1,h2,h3,h4⟩:=h;exact⟨x,jI,hx,h1,aR.aD Cg (λ_ _ h=>h) _ _ h2,(mJ Cg (SizeOf.sizeOf e.2.2+1)).1 _ _ (by omega) h3,ih jI h4⟩
   exact key es _ hr
  |iter m s sn lt=>
   obtain⟨hc,Jb,hm⟩:=fE;exact⟨mK _ _ trivial hc,Jb,hm⟩
  |arr ver e sz rows=>
   obtain⟨g1,g2,g3,g4⟩:=fE;refine⟨g1,g2,g3, ?_⟩;rcases g4 with g4|⟨g,cap,cur,hv,hp,hh,k1,k2,k3,k4⟩
   ·exact .inl g4
   ·exact .inr ⟨g,cap,cur,hv,hp,mK _ _ trivial hh,k1,k2,k3,aP.aD Cg (λ_ _ h=>h) _ _ k4⟩
theorem Oc{κ:Ctx}{nt:Nat}{st:RS}{a:Act}{w:World}{L:Loc}(hJ:κ.J=none)(h:dE κ nt st a w L){D:Nat}{Ds:List Nat}(hd:a.defers=(D::Ds).map mark)(hn:(D::Ds).Nodup)(hk:∀D'∈D::Ds,w.heap[D']? =some (.deferred (some []))/\κ.gw.heap.size<=D'):
  dE κ nt st {a with defers:=Ds.map mark} (w.putObj D (.deferred none)) L:=by
 obtain⟨W,base,M,w0,dF,h0⟩:=h.ex;have hD:=hk D (Za4 ..);have cW:=(Zai.1 hD.1).1;have JL:∀b,b≠D->(w.putObj D (.deferred none)).heap[b]? =w.heap[b]? :=λb hb=>World.putObj_heap_other hb;have gv:(w.putObj D (.deferred none)).heap.size=w.heap.size:=by simp[World.putObj]
 have JQ:=dF;unfold Ctx.At at JQ;simp only[hJ]at JQ;obtain⟨_,rfl,rfl,rfl,rfl⟩:=JQ;have hbD:κ.base<=D:=ZaE (h.bg hJ) hD.2;have mK:∀(b:Nat) c e fr,w.heap[b]? =some (.cells c e fr)->(w.putObj D (.deferred none)).heap[b]? =some (.cells c e fr):=λb c e fr hb=>by
  rw[JL b (by rintro rfl;rw[hD.1]at hb;cases hb)];exact hb
 have Cg:KeepsC (WW κ.W st.objs L) w (w.putObj D (.deferred none)):=⟨by rw[gv];exact Zae _,λb c e fr hb _=>mK b c e fr hb⟩;have kd:∀(d:DV) (x:Value),av w κ.W st.objs L d x->av (w.putObj D (.deferred none)) κ.W st.objs L d x:=λd x=>(mJ Cg (SizeOf.sizeOf d+1)).1 d x (by omega);have hO:bK κ.base κ.W κ.M κ.w0 st.objs (w.putObj D (.deferred none)) L:=uW h0.o hD.1 (λe=>e) hbD;refine⟨⟨κ.W,κ.base,κ.M,κ.w0,dF,h0.size,λt=>kd _ _ (h0.tmps t),hO⟩, ?_,⟨Ds,rfl,(ZbM.1 hn).2,λD' hD'=>?_,λh=>by rw[hJ]at h;cases h⟩,h.bg,h.fin⟩
 ·have Wj:=h.dZ;refine⟨⟨⟨by rw[gv];exact Wj.keeps.size,λb c e fr hb Od=>mK _ _ _ _ (Wj.keeps.gU b c e fr hb Od)⟩,λb hb=>?_,λb r hb=>?_⟩,Wj.sub,Wj.fix,Wj.arr,Wj.yl⟩
  ·rw[JL b (by have:=(Zai.1 hb).1;omega)];exact Wj.keeps.NL b hb
  ·rw[JL b (by have:=(Zai.1 hb).1;omega)];exact Wj.keeps.We b r hb
 ·have bG:D'≠D:=λe=>(ZbM.1 hn).1 (e▸hD');have:=hk D' (ZaV _ hD');exact⟨by rw[JL D' bG];exact this.1,this.2⟩
theorem leaves{κ:Ctx}{nt:Nat}{st:RS}{fn:Func}{R:Ending->World->Prop}(hJ:κ.J=none)(hR:∀(a:Act) (w:World) (L:Loc),dE κ nt st a w L->∃v,(results fn a.tmps).run P w=.ok v w/\R (.returned v) w):
  ∀(Ds:List Nat) (a:Act) (w:World) (L:Loc),dE κ nt st a w L->a.defers=Ds.map mark->Ds.Nodup->(∀D∈Ds,w.heap[D]? =some (.deferred (some []))/\κ.gw.heap.size<=D)->
   LeavesInM Fence.wide 0 P fn a.tmps R (Ds.map mark) .returning w
 |[],a,w,L,h,_,_,_=>by
  obtain⟨v,h1,h2⟩:=hR a w L h;exact⟨v,h1,h2⟩
 |D::Ds,a,w,L,h,hd,hn,hk=>by
  refine⟨by simp,.inl ⟨D,w.putObj D (.deferred none),rfl,run_takeDeferred (hk D (Za4 ..)).1, ?_⟩⟩;have h':=Oc hJ h hd hn hk;obtain⟨Ds',e1,_,e3,_⟩:=h'.defers;have e:Ds'=Ds:=by
   have hi:∀(l l':List Nat),l.map mark=l'.map mark->l=l':=by
    intro l;induction l with
    |nil=>intro l' e;cases l'<;>simp_all
    |cons x l ih=>
     intro l' e;cases l' with
     |nil=>simp at e
     |cons y l'=>
      simp only[Zau,Za5,mark,Deferred.mk.injEq,Target.collected.injEq,and_true]at e;rw[e.1,ih l' e.2]
   exact hi _ _ e1.symm
  subst e;exact leaves hJ hR Ds' {a with defers:=Ds'.map mark} _ L h' rfl (ZbM.1 hn).2 e3
def aQ(P:Program)(f:FuncId)(nt:Nat)(d:DC)(rs:List bN):Prop:=
 ∃fn,P.funcs[f]? =some fn/\fn.ntmps=nt/\fn.body.map (bB P nt)=some d/\fn.results.toList.mapM (s8 P)=some rs/\(fn.name== "runtime.NumGoroutine")=false
theorem aQ.entry{f:FuncId}{nt:Nat}{d:DC}{rs:List bN}(h:aQ P f nt d rs):Entry P f:=by
 obtain⟨fn,h1,_,h3,_,h5⟩:=h;obtain⟨c,h2,_⟩:=Zab.1 h3;exact⟨fn,h1,by simpa using h5,by simp[h2]⟩
theorem oG{n:Nat}{vals:Array Value}{k:Nat}{v:Value}(h:vals.toList[k]? =some v):(vals++Array.replicate (n-vals.size) Go.undef).getD k Go.undef=v:=by
 have cW:k<vals.size:=by have:=(Zas.1 h).1;simpa using this
 rw[Zax,ZcC cW];simp only[Array.getElem?_toList]at h;rw[h];rfl
theorem oH{n:Nat}{vals:Array Value}{k:Nat}(h:vals.size<=k):(vals++Array.replicate (n-vals.size) Go.undef).getD k Go.undef=Go.undef:=by
 rw[Zax,Array.getElem?_append_right h,Array.getElem?_replicate];split<;>rfl
theorem aQ.ok{f:FuncId}{nt:Nat}{d:DC}{rs:List bN}(h:aQ P f nt d rs){ts:List T}{t:T}(hlen:ts.length<=nt)(k:aa P nt d (finQ rs t) (nL ts)):aT P f ts t:=by
 have Am:=h.entry;obtain⟨fn,wi,rfl,h3,hr,_⟩:=h;obtain⟨c,hb,hc⟩:=Zab.1 h3;refine⟨Am,λW w vals hW hg eG=>?_⟩;have hl:=dt.length eG;simp only[ZaT]at hl;have uX:Rel ⟨W,λ_=>none,⟨λ_=>0,λ_=>Go.undef,0⟩,w,w.heap.size,λ_=>False,w,none,none⟩ fn.ntmps (nL ts) {tmps:=vals++Array.replicate (fn.ntmps-vals.size) Go.undef,defers:=[]} w ⟨λ_=>0,λ_=>Go.undef,0⟩:=by
  refine⟨⟨⟨W,w.heap.size,λ_=>False,w,⟨rfl,rfl,rfl,rfl,rfl⟩,by simp;omega,λk=>?_,⟨Fr.refl (Zae _),(λr o h=>by cases h),(λr r' o o' b _ h=>by cases h),(λr o b h=>by cases h),hW,hg.start⟩⟩,
   iW.cd (cb.refl _ _),⟨[],rfl,ZbT,(λ_ h=>by cases h),λ_=>rfl⟩,λ_=>Zae _,⟨0,λ_ _=>rfl⟩⟩,λ_ _=>rfl,λ_ _=>rfl,λh=>by cases h⟩
  simp only[nL];cases hk:ts[k]? with
  |some x=>
   obtain⟨v,hv,ji⟩:=dt.get eG hk;simp only[oG hv,yZ,av];refine aR.aD (cb.refl W w).toKeepsC ?_ x v ji;rintro b hb (h|⟨r,o,h,_⟩)
   ·exact h
   ·cases h
  |none=>
   have y9:vals.size<=k:=by
    have:=ZbF.1 hk;omega
   simp only[yZ,av,oH y9]
 refine callsIn_wide.1 (callsIn_of_wp_marks (n:=0) wi hb trivial ?_);refine wpIn_mono (k.run c hc 0 _ _ _ _ ⟨λJ hJ=>(by cases hJ),λl hl=>(by cases hl)⟩ uX) ?_;rintro e a' w' ⟨dd,L',q,r'⟩;have done:QB rs t dd->LeavesInM Fence.wide 0 P fn a'.tmps (λe w'=>∃v,e=.returned v/\tA w.heap.size w w'/\aR w' W t v) a'.defers .returning w':=by
  intro hq;obtain⟨Ds,h1,h2,h3,_⟩:=r'.r.defers;rw[h1];refine leaves (κ:=⟨W,λ_=>none,⟨λ_=>0,λ_=>Go.undef,0⟩,w,w.heap.size,λ_=>False,w,none,none⟩) rfl ?_ Ds a' w' L' r'.r h1 h2 h3;intro a2 w2 L2 h4;obtain⟨W',Mr,M',w0',dF,h0⟩:=h4.ex;obtain⟨_,e1,e2,e3,e4⟩:=dF
  replace h0:R0 w.heap.size W (λ_=>False) w fn.ntmps dd.tmps dd.objs a2 w2 L2:=by rw[e1,e2,e3,e4]at h0;exact h0
  obtain⟨v,k1,k2⟩:=qZ (st:=dd) h0 (lend:=true) (W':=W) (λ_ r o b e1 e2=>h0.o.outer r o b e1 e2) (λb hb=>.inl hb) hr hq;have fr:=h0.o.fr;exact⟨v,k1,v,rfl,⟨⟨fr.os,fr.tape,fr.output,fr.size,λk hk=>fr.block k hk (λx=>x)⟩,fr.drawn⟩,k2⟩
 cases e with
 |normal=>exact done q
 |ret=>exact done q
 |_=>exact q.elim
theorem aQ.okS{f:FuncId}{nt:Nat}{d:DC}{rs:List bN}(h:aQ P f nt d rs){args:List DV}{objs:aU}{r:iu}{N:Nat}(hN:∀r,N<=r->objs r=none)(hlen:args.length<=nt)(k:aa P nt d (W9 rs r) (yh args objs N)):aY P f args objs r:=by
 have Am:=h.entry;obtain⟨fn,wi,rfl,h3,hr,_⟩:=h;obtain⟨c,hb,hc⟩:=Zab.1 h3;refine⟨Am,λbase W M w0 w L vals hO NX=>?_⟩;have hl:=NX.1;simp only[ZaT]at hl;have uX:Rel ⟨W,objs,L,w,base,M,w0,none,none⟩ fn.ntmps (yh args objs N) {tmps:=vals++Array.replicate (fn.ntmps-vals.size) Go.undef,defers:=[]} w L:=by
  refine⟨⟨⟨W,base,M,w0,⟨rfl,rfl,rfl,rfl,rfl⟩,by simp;omega,λk=>?_,hO⟩,
   iW.cd (cb.refl _ _),⟨[],rfl,ZbT,(λ_ h=>by cases h),λ_=>rfl⟩,λ_=>ZaE hO.fr.gZ hO.fr.size,⟨N,hN⟩⟩,hN,hN,λh=>by cases h⟩
  simp only[yh];cases hk:args[k]? with
  |some x=>
   have hv:∃v,vals.toList[k]? =some v:=by
    have:k<vals.size:=by rw[hl];exact(Zas.1 hk).1
    exact⟨vals[k],by simp[this]⟩
   obtain⟨v,hv⟩:=hv;simp only[oG hv,JP];exact NX.2 k x v hk hv
  |none=>
   have y9:vals.size<=k:=by
    have:=ZbF.1 hk;omega
   simp only[JP,av,oH y9]
 refine callsIn_wide.1 (callsIn_of_wp_marks (n:=0) wi hb trivial ?_);refine wpIn_mono (k.run c hc 0 _ _ _ _ ⟨λJ hJ=>(by cases hJ),λl hl=>(by cases hl)⟩ uX) ?_;rintro e a' w' ⟨dd,L',q,r'⟩;have done:JO rs r dd->LeavesInM Fence.wide 0 P fn a'.tmps (λe w'=>∃v L',e=.returned v/\bK base W M w0 r.objs w' L'/\iW W objs L w r.objs L' w'/\av w' W r.objs L' r.val v) a'.defers .returning w':=by
  rintro⟨hq1,Wl,hq3⟩;obtain⟨Ds,h1,h2,h3,_⟩:=r'.r.defers;rw[h1];refine leaves (κ:=⟨W,objs,L,w,base,M,w0,none,none⟩) rfl ?_ Ds a' w' L' r'.r h1 h2 h3;intro a2 w2 L2 h4;obtain⟨W',Mr,M',w0',dF,h0⟩:=h4.ex;obtain⟨_,e1,e2,e3,e4⟩:=dF
  replace h0:R0 base W M w0 fn.ntmps dd.tmps dd.objs a2 w2 L2:=by rw[e1,e2,e3,e4]at h0;exact h0
  obtain⟨v,k1,k2⟩:=qZ (st:=dd) h0 (lend:=false) (W':=WW W dd.objs L2) (λx=>by cases x) (λb hb=>hb) hr ⟨hq1,rfl⟩;have Ms:=h0.o;have tK:=h4.dZ;simp only[Wl]at Ms tK k2;refine⟨v,k1,v,L2,rfl,Ms,tK, ?_⟩;rw[hq3];simp only[av];exact k2
 cases e with
 |normal=>exact done q
 |ret=>exact done q
 |_=>exact q.elim
end
end Go.DM
namespace Go.DM
open Go.RowKit
variable [Laid]
def exec(Γ:Env)(nxt:Nat):List RO->RS->(RS->Prop)->Prop
 |[],st,K=>K st
 |r::rs,st,K=>
  match r.guard with
  |none=>b8 r st.tmps/\qS r st.objs (post Γ nxt r st).objs/\(post Γ nxt r st).ok/\exec Γ nxt rs ⟨b7 st.tmps r.dst (post Γ nxt r st).val,(post Γ nxt r st).objs,(post Γ nxt r st).todo⟩ K
  |some (s,want)=>
   match st.tmps s with
   |.v (.bool b)=>(b=want->b8 r st.tmps/\qS r st.objs (post Γ nxt r st).objs/\(post Γ nxt r st).ok/\exec Γ nxt rs ⟨b7 (b7 st.tmps (some s) (.v (.bool want))) r.dst (post Γ nxt r st).val,(post Γ nxt r st).objs,(post Γ nxt r st).todo⟩ K)/\
     (b= !want->exec Γ nxt rs ⟨b7 (b7 st.tmps (some s) (.v (.bool (!want)))) r.dst .skip,st.objs,st.todo⟩ K)
   |.skip=>exec Γ nxt rs ⟨b7 st.tmps r.dst .skip,st.objs,st.todo⟩ K
   |_=>False
theorem iy{ρ:Nat->DV}{s:Nat}{v:DV}(h:ρ s=v):b7 ρ (some s) v=ρ:=by
 funext x;simp only[b7];split
 ·rename_i e;rw[e,h]
 ·rfl
theorem eJ{Γ:Env}{nxt:Nat}:∀(rs:List RO) (st:RS) (K:RS->Prop),exec Γ nxt rs st K->iJ Γ nxt rs st/\K (cM Γ nxt rs st)
 |[],st,K,h=>⟨trivial,h⟩
 |r::rs,st,K,h=>by
  simp only[exec]at h;simp only[iJ,cM];have yes:ed r.guard st.tmps=some true->(b8 r st.tmps/\qS r st.objs (post Γ nxt r st).objs/\(post Γ nxt r st).ok/\exec Γ nxt rs ⟨b7 st.tmps r.dst (post Γ nxt r st).val,(post Γ nxt r st).objs,(post Γ nxt r st).todo⟩ K)->(bT Γ nxt r st/\iJ Γ nxt rs (cI Γ nxt r st))/\K (cM Γ nxt rs (cI Γ nxt r st)):=by
   rintro hw ⟨ht,hk4,aF,hk⟩;have e1:cI Γ nxt r st=⟨b7 st.tmps r.dst (post Γ nxt r st).val,(post Γ nxt r st).objs,(post Γ nxt r st).todo⟩:=by simp only[cI,hw]
   have e2:bT Γ nxt r st:=by simp only[bT,hw];exact⟨aF,ht,hk4⟩
   rw[e1];have:=eJ rs _ K hk;exact⟨⟨e2,this.1⟩,this.2⟩
  have no:ed r.guard st.tmps=some false->exec Γ nxt rs ⟨b7 st.tmps r.dst .skip,st.objs,st.todo⟩ K->(bT Γ nxt r st/\iJ Γ nxt rs (cI Γ nxt r st))/\K (cM Γ nxt rs (cI Γ nxt r st)):=by
   rintro hw hk;have e1:cI Γ nxt r st=⟨b7 st.tmps r.dst .skip,st.objs,st.todo⟩:=by simp only[cI,hw]
   have e2:bT Γ nxt r st:=by simp only[bT,hw]
   rw[e1];have:=eJ rs _ K hk;exact⟨⟨e2,this.1⟩,this.2⟩
  cases hg:r.guard with
  |none=>rw[hg]at h;exact yes (by simp[ed,hg]) h
  |some g=>
   obtain⟨s,want⟩:=g;rw[hg]at h;simp only at h;cases hs:st.tmps s with
   |skip=>rw[hs]at h;exact no (by simp[ed,hg,hs]) h
   |v t=>
    rw[hs]at h;cases t with
    |bool b=>
     simp only at h;by_cases hb:b=want
     ·subst hb;rw[iy hs]at h;exact yes (by simp[ed,hg,hs]) (h.1 rfl)
     ·have mG:b= !want:=by cases b<;>cases want<;>simp_all
      subst mG;rw[iy hs]at h;exact no (by simp[ed,hg,hs]) (h.2 rfl)
    |_=>exact h.elim
   |_=>rw[hs]at h;exact h.elim
def eV(Γ:Env)(nxt:Nat)(rs:List RO)(tm:Nat->DV)(ob:aU)(td:List (List T))(K:RS->Prop)(dst:Option Nat)(e:oi):Prop:=
 e.ok/\exec Γ nxt rs ⟨b7 tm dst e.val,bR ob e.put,td⟩ K
def CQ(Γ:Env)(nxt:Nat)(rs:List RO)(tm:Nat->DV)(K:RS->Prop)(dst:Option Nat)(e:SEff):Prop:=
 e.ok/\exec Γ nxt rs ⟨b7 tm dst e.val,e.objs,e.todo⟩ K
def km(Γ:Env)(nxt:Nat)(d:nF)(rs:List RO)(tm:Nat->DV)(ob:aU)(td:List (List T))(K:RS->Prop)(dst:Option Nat)(eP:Nat->DV):Prop:=
 if oS d then CQ Γ nxt rs eP K dst (lT Γ d tm ob td)else eV Γ nxt rs eP ob td K dst (cq Γ d (nameOf nxt dst) tm ob)
def JR(Γ:Env)(nxt:Nat)(d:nF)(rs:List RO)(tm:Nat->DV)(ob:aU)(td:List (List T))(K:RS->Prop)(dst:Option Nat)(s:Nat)(want:Bool)(g:DV):Prop:=
 match g with
 |.v (.bool b)=>(b=want->km Γ nxt d rs tm ob td K dst (b7 tm (some s) (.v (.bool want))))/\
   (b= !want->exec Γ nxt rs ⟨b7 (b7 tm (some s) (.v (.bool (!want)))) dst .skip,ob,td⟩ K)
 |.skip=>exec Γ nxt rs ⟨b7 tm dst .skip,ob,td⟩ K
 |_=>False
section
variable{Γ:Env}{nxt:Nat}{st:RS}{K:RS->Prop}{rs:List RO}{tm eP:Nat->DV}{ob:aU}{td:List (List T)}{dst:Option Nat}
theorem Xb(ok:Prop)(v:DV)(p:Option (Nat×Ob)):eV Γ nxt rs tm ob td K dst ⟨ok,v,p⟩=(ok/\exec Γ nxt rs ⟨b7 tm dst v,bR ob p,td⟩ K):=rfl
theorem QC(ok:Prop)(v:DV)(ob':aU)(td':List (List T)):CQ Γ nxt rs tm K dst ⟨ok,v,ob',td'⟩=(ok/\exec Γ nxt rs ⟨b7 tm dst v,ob',td'⟩ K):=rfl
theorem QD:eV Γ nxt rs tm ob td K dst bad=False:=by simp[eV,bad]
theorem Oe(f:FuncId)(args:List bp):km Γ nxt (.callS f args) rs tm ob td K dst eP=CQ Γ nxt rs eP K dst (lT Γ (.callS f args) tm ob td):=by simp[km,oS]
theorem Of(x:bp)(args:List bp):km Γ nxt (.callv x args) rs tm ob td K dst eP=CQ Γ nxt rs eP K dst (lT Γ (.callv x args) tm ob td):=by simp[km,oS]
theorem ln(d:nF)(s:Nat)(b want:Bool):JR Γ nxt d rs tm ob td K dst s want (.v (.bool b))=((b=want->km Γ nxt d rs tm ob td K dst (b7 tm (some s) (.v (.bool want))))/\
   (b= !want->exec Γ nxt rs ⟨b7 (b7 tm (some s) (.v (.bool (!want)))) dst .skip,ob,td⟩ K)):=rfl
theorem QE:exec Γ nxt [] st K=K st:=rfl
theorem uY{d:nF}{g:Option (Nat×Bool)}{af:List Nat}{l:Option (List Nat)}:((post Γ nxt ⟨d,dst,g,af,l⟩ ⟨tm,ob,td⟩).ok/\exec Γ nxt rs ⟨b7 eP dst (post Γ nxt ⟨d,dst,g,af,l⟩ ⟨tm,ob,td⟩).val,(post Γ nxt ⟨d,dst,g,af,l⟩ ⟨tm,ob,td⟩).objs,(post Γ nxt ⟨d,dst,g,af,l⟩ ⟨tm,ob,td⟩).todo⟩ K)=km Γ nxt d rs tm ob td K dst eP:=by
 unfold post km;cases h:oS d<;>simp[eV,CQ,pc]
theorem An{d:nF}{g:Option (Nat×Bool)}{af:List Nat}{o o':aU}:qS ⟨d,dst,g,af,none⟩ o o'=True:=eq_true λ_ l h=>by cases h
def CR(l:List Nat)(o o':aU):Prop:=∀n,n∉l->o' n=o n
theorem Ao{d:nF}{g:Option (Nat×Bool)}{af l:List Nat}:qS ⟨d,dst,g,af,some l⟩ ob (post Γ nxt ⟨d,dst,g,af,some l⟩ ⟨tm,ob,td⟩).objs=(oS d=true->CR l ob (lT Γ d tm ob td).objs):=by
 unfold qS CR post;by_cases h:oS d=true
 ·simp[h]
 ·simp[h]
theorem JS(d:nF)(af:List Nat):exec Γ nxt (⟨d,dst,none,af,none⟩::rs) ⟨tm,ob,td⟩ K=km Γ nxt d rs tm ob td K dst tm:=by
 simp only[exec,b8,An,true_and];exact uY
theorem JT(d:nF)(af:List Nat)(l:List Nat):
  exec Γ nxt (⟨d,dst,none,af,some l⟩::rs) ⟨tm,ob,td⟩ K=(b8 ⟨d,dst,none,af,some l⟩ tm/\(oS d=true->CR l ob (lT Γ d tm ob td).objs)/\km Γ nxt d rs tm ob td K dst tm):=by
 simp only[exec];rw[uY,Ao]
@[simp low] theorem mL(d:nF)(s:Nat)(want:Bool)(af:List Nat):
  exec Γ nxt (⟨d,dst,some (s,want),af,none⟩::rs) ⟨tm,ob,td⟩ K=JR Γ nxt d rs tm ob td K dst s want (tm s):=by
 simp only[exec,JR,b8,An,true_and];rw[uY]
end
section
variable{Γ:Env}{nxt:Nat}{K:RS->Prop}{rs:List RO}{tm:Nat->DV}{ob:aU}{td:List (List T)}{dst:Option Nat}{d:nF}{s:Nat}{af:List Nat}
@[simp] theorem exec_g_tt(h:tm s=.v (.bool true)):exec Γ nxt (⟨d,dst,some (s,true),af,none⟩::rs) ⟨tm,ob,td⟩ K=km Γ nxt d rs tm ob td K dst tm:=by
 rw[mL,h,ln,iy h];simp
@[simp] theorem exec_g_ff(h:tm s=.v (.bool false)):exec Γ nxt (⟨d,dst,some (s,false),af,none⟩::rs) ⟨tm,ob,td⟩ K=km Γ nxt d rs tm ob td K dst tm:=by
 rw[mL,h,ln,iy h];simp
@[simp] theorem exec_g_tf(h:tm s=.v (.bool true)):exec Γ nxt (⟨d,dst,some (s,false),af,none⟩::rs) ⟨tm,ob,td⟩ K=exec Γ nxt rs ⟨b7 tm dst .skip,ob,td⟩ K:=by
 rw[mL,h,ln];simp[iy h]
@[simp] theorem exec_g_ft(h:tm s=.v (.bool false)):exec Γ nxt (⟨d,dst,some (s,true),af,none⟩::rs) ⟨tm,ob,td⟩ K=exec Γ nxt rs ⟨b7 tm dst .skip,ob,td⟩ K:=by
 rw[mL,h,ln];simp[iy h]
@[simp] theorem exec_g_sk{want:Bool}(h:tm s=.skip):exec Γ nxt (⟨d,dst,some (s,want),af,none⟩::rs) ⟨tm,ob,td⟩ K=exec Γ nxt rs ⟨b7 tm dst .skip,ob,td⟩ K:=by
 rw[mL,h];rfl
end
def look:List (Nat×DV)->Nat->DV
 |[],_=>.undef
 |(j,v)::l,k=>if k=j then v else look l k
def cE:List (Nat×Ob)->Nat->Option Ob
 |[],_=>none
 |(j,o)::l,k=>if k=j then some o else cE l k
theorem QF(f:Nat->DV)(k:Nat)(v:DV)(x:Nat):b7 f (some k) v x=if x=k then v else f x:=rfl
theorem Og(f:Nat->DV)(v:DV):b7 f none v=f:=rfl
theorem Oh(f:aU):bR f none=f:=rfl
theorem CS(f:aU)(r:Nat)(o:Ob)(x:Nat):bR f (some (r,o)) x=if x=r then some o else f x:=rfl
theorem mh(j:Nat)(v:DV)(l:List (Nat×DV))(k:Nat):look ((j,v)::l) k=if k=j then v else look l k:=rfl
theorem look_nil(k:Nat):look [] k=.undef:=rfl
theorem dm(j:Nat)(o:Ob)(l:List (Nat×Ob))(k:Nat):cE ((j,o)::l) k=if k=j then some o else cE l k:=rfl
theorem lX(k:Nat):cE [] k=none:=rfl
theorem QG(l:List (Nat×Ob))(r:Nat)(o:Ob):bR (cE l) (some (r,o))=cE ((r,o)::l):=rfl
def ko(ks:List Nat)(tm:Nat->DV):List (Nat×DV):=ks.map λk=>(k,tm k)
theorem Ap(k:Nat)(ks:List Nat)(tm:Nat->DV):ko (k::ks) tm=(k,tm k)::ko ks tm:=rfl
theorem Oi(tm:Nat->DV):ko [] tm=[]:=rfl
theorem mM(tm:Nat->DV):∀(ks:List Nat) (k:Nat),look (ko ks tm) k=.undef\/look (ko ks tm) k=tm k
 |[],_=>.inl rfl
 |j::ks,k=>by
  rw[Ap,mh];split
  ·rename_i h;exact .inr (by rw[h])
  ·exact mM tm ks k
theorem Le.uZ{st:kV}{tm:Nat->DV}(h:∀k,tm k=.undef\/tm k=st.tmps k):Le st ⟨tm,st.objs,st.nxt,st.low,st.todo⟩:=λκ nt a w L r=>
 ⟨L,⟨by
  obtain⟨W,base,M,w0,dF,h0⟩:=r.r.ex;exact⟨W,base,M,w0,dF,h0.size,λt=>by
   rcases h t with e|e
   ·show av w W st.objs L (tm t) _;rw[e];simp[av]
   ·show av w W st.objs L (tm t) _;rw[e];exact h0.tmps t,h0.o⟩,r.r.dZ,r.r.defers,r.r.bg,r.r.fin⟩,r.fresh,r.low,r.it⟩
theorem Oj(ts:List T):Le (nL ts) ⟨look ((ts.map .v).zipIdx.map λp=>(p.2,p.1)),cE [],1000,1000,[]⟩:=by
 have key:∀(ts:List T) (i k:Nat),look (((ts.map .v).zipIdx i).map λp=>(p.2,p.1)) k=.undef\/look (((ts.map .v).zipIdx i).map λp=>(p.2,p.1)) k=yZ (if i<=k then ts[k-i]? else none):=by
  intro ts;induction ts with
  |nil=>intro i k;exact .inl rfl
  |cons t ts ih=>
   intro i k;simp only[Zau,Zb6,mh];split
   ·rename_i h;subst h;exact .inr (by simp[yZ])
   ·rename_i h;rcases ih (i+1) k with e|e
    ·exact .inl e
    ·right;rw[e];by_cases hk:i+1<=k
     ·rw[if_pos hk,if_pos (by omega),show k-i=(k-(i+1))+1 by omega,ZaW]
     ·have:¬i<=k:=by omega
      rw[if_neg hk,if_neg this]
 refine Le.trans (Le.uZ (st:=nL ts) (tm:=look ((ts.map .v).zipIdx.map λp=>(p.2,p.1))) λk=>?_) (λκ nt a w L r=>⟨L,r⟩);have:=key ts 0 k;simpa [nL]using this
section
variable{P:Program}{nt:Nat}{Γ:Env}{Q:Exit->kV->Prop}{st:kV}{tm:Nat->DV}{ob:aU}{nxt low:Nat}{td:List (List T)}
theorem aa.dv(ay:aw P Γ)(hm:P.follows .mixedOrders=true){draw:Bool}{rs:List RO}(ks:List Nat)
  (h:exec Γ nxt rs ⟨tm,ob,td⟩ λs=>Q .normal ⟨look (ko ks s.tmps),s.objs,nxt+nt+1,low,s.todo⟩):aa P nt (.region draw rs) Q ⟨tm,ob,nxt,low,td⟩:=by
 have:=eJ _ _ _ h;refine aa.uU (Q:=λe s=>e=.normal/\s=⟨(cM Γ nxt rs ⟨tm,ob,td⟩).tmps,(cM Γ nxt rs ⟨tm,ob,td⟩).objs,nxt+nt+1,low,(cM Γ nxt rs ⟨tm,ob,td⟩).todo⟩) (aa.region ay hm (st:=⟨tm,ob,nxt,low,td⟩) this.1 ⟨rfl,rfl⟩) ?_;rintro e s ⟨rfl,rfl⟩;exact⟨_,Le.uZ (mM _ ks),this.2⟩
theorem aa.ab(ay:aw P Γ)(hm:P.follows .mixedOrders=true){draw:Bool}{rs:List RO}{b:DC}(ks:List Nat)
  (h:exec Γ nxt rs ⟨tm,ob,td⟩ λs=>aa P nt b Q ⟨look (ko ks s.tmps),s.objs,nxt+nt+1,low,s.todo⟩):aa P nt (.seq (.region draw rs) b) Q ⟨tm,ob,nxt,low,td⟩:=
 aa.seq (aa.dv ay hm ks h)
theorem aa.tL(ay:aw P Γ)(hm:P.follows .mixedOrders=true){d:DC}{rs:List RO}(hd:d=.jT (rs.map bare)\/∃draw,d=.region draw (rs.map bare))(aF:c8 nt true rs=true)(ks:List Nat)
  (h:exec Γ nxt rs ⟨tm,ob,td⟩ λs=>Q .normal ⟨look (ko ks s.tmps),s.objs,nxt+nt+1,low,s.todo⟩):aa P nt d Q ⟨tm,ob,nxt,low,td⟩:=by
 have:=eJ _ _ _ h;refine aa.uU (Q:=λe s=>e=.normal/\s=⟨(cM Γ nxt rs ⟨tm,ob,td⟩).tmps,(cM Γ nxt rs ⟨tm,ob,td⟩).objs,nxt+nt+1,low,(cM Γ nxt rs ⟨tm,ob,td⟩).todo⟩) (aa.W6 ay hm hd aF (st:=⟨tm,ob,nxt,low,td⟩) this.1 ⟨rfl,rfl⟩) ?_;rintro e s ⟨rfl,rfl⟩;exact⟨_,Le.uZ (mM _ ks),this.2⟩
theorem aa.iA(ay:aw P Γ)(hm:P.follows .mixedOrders=true){d b:DC}{rs:List RO}(hd:d=.jT (rs.map bare)\/∃draw,d=.region draw (rs.map bare))(aF:c8 nt true rs=true)(ks:List Nat)
  (h:exec Γ nxt rs ⟨tm,ob,td⟩ λs=>aa P nt b Q ⟨look (ko ks s.tmps),s.objs,nxt+nt+1,low,s.todo⟩):aa P nt (.seq d b) Q ⟨tm,ob,nxt,low,td⟩:=
 aa.seq (aa.tL ay hm hd aF ks h)
end
theorem aJ{P:Program}{nt:Nat}{d:DC}{Q:Exit->kV->Prop}{ts:List T}(h:aa P nt d Q ⟨look ((ts.map .v).zipIdx.map λp=>(p.2,p.1)),cE [],1000,1000,[]⟩):aa P nt d Q (nL ts):=aa.le (Oj ts) h
section
variable{Γ:Env}{nxt:Nat}{K:RS->Prop}{rs:List RO}{tm eP:Nat->DV}{ob:aU}{td:List (List T)}{dst:Option Nat}
@[simp] theorem goD_mov(x:bp):km Γ nxt (.bP x) rs tm ob td K dst eP=eV Γ nxt rs eP ob td K dst (cq Γ (.bP x) (nameOf nxt dst) tm ob):=rfl
@[simp] theorem goD_pick(c a b:bp):km Γ nxt (.pick c a b) rs tm ob td K dst eP=eV Γ nxt rs eP ob td K dst (cq Γ (.pick c a b) (nameOf nxt dst) tm ob):=rfl
@[simp] theorem goD_alloc(zero:List DV):km Γ nxt (.alloc zero) rs tm ob td K dst eP=eV Γ nxt rs eP ob td K dst (cq Γ (.alloc zero) (nameOf nxt dst) tm ob):=rfl
@[simp] theorem goD_box(x:bp):km Γ nxt (.box x) rs tm ob td K dst eP=eV Γ nxt rs eP ob td K dst (cq Γ (.box x) (nameOf nxt dst) tm ob):=rfl
@[simp] theorem goD_build(zero:List DV)(parts:List (Nat×Nat×bp)):km Γ nxt (.build zero parts) rs tm ob td K dst eP=eV Γ nxt rs eP ob td K dst (cq Γ (.build zero parts) (nameOf nxt dst) tm ob):=rfl
@[simp] theorem goD_bslice(len sz:Nat)(zero:List DV)(parts:List (Nat×Nat×bp)):km Γ nxt (.bslice len sz zero parts) rs tm ob td K dst eP=eV Γ nxt rs eP ob td K dst (cq Γ (.bslice len sz zero parts) (nameOf nxt dst) tm ob):=rfl
@[simp] theorem goD_load(n:Nat)(agg:Bool)(x:bp):km Γ nxt (.load n agg x) rs tm ob td K dst eP=eV Γ nxt rs eP ob td K dst (cq Γ (.load n agg x) (nameOf nxt dst) tm ob):=rfl
@[simp] theorem goD_store(n:Nat)(x y:bp):km Γ nxt (.store n x y) rs tm ob td K dst eP=eV Γ nxt rs eP ob td K dst (cq Γ (.store n x y) (nameOf nxt dst) tm ob):=rfl
@[simp] theorem goD_bin(op:BinOp)(x y:bp):km Γ nxt (.bin op x y) rs tm ob td K dst eP=eV Γ nxt rs eP ob td K dst (cq Γ (.bin op x y) (nameOf nxt dst) tm ob):=rfl
@[simp] theorem goD_eqT(neg agg:Bool)(shs:List Sh)(x y:bp):km Γ nxt (.eqT neg agg shs x y) rs tm ob td K dst eP=eV Γ nxt rs eP ob td K dst (cq Γ (.eqT neg agg shs x y) (nameOf nxt dst) tm ob):=rfl
@[simp] theorem goD_un(op:UnOp)(x:bp):km Γ nxt (.un op x) rs tm ob td K dst eP=eV Γ nxt rs eP ob td K dst (cq Γ (.un op x) (nameOf nxt dst) tm ob):=rfl
@[simp] theorem goD_conv(k:IntKind)(x:bp):km Γ nxt (.conv k x) rs tm ob td K dst eP=eV Γ nxt rs eP ob td K dst (cq Γ (.conv k x) (nameOf nxt dst) tm ob):=rfl
@[simp] theorem goD_addOff(k:Nat)(x:bp):km Γ nxt (.addOff k x) rs tm ob td K dst eP=eV Γ nxt rs eP ob td K dst (cq Γ (.addOff k x) (nameOf nxt dst) tm ob):=rfl
@[simp] theorem Xc(x:bp):km Γ nxt (.nilCheck x) rs tm ob td K dst eP=eV Γ nxt rs eP ob td K dst (cq Γ (.nilCheck x) (nameOf nxt dst) tm ob):=rfl
@[simp] theorem YG(sz:Nat)(x i:bp):km Γ nxt (.idxAddr sz x i) rs tm ob td K dst eP=eV Γ nxt rs eP ob td K dst (cq Γ (.idxAddr sz x i) (nameOf nxt dst) tm ob):=rfl
@[simp] theorem YH(len sz:Nat)(x i:bp):km Γ nxt (.arrAddr len sz x i) rs tm ob td K dst eP=eV Γ nxt rs eP ob td K dst (cq Γ (.arrAddr len sz x i) (nameOf nxt dst) tm ob):=rfl
@[simp] theorem goD_field(off n:Nat)(agg:Bool)(x:bp):km Γ nxt (.field off n agg x) rs tm ob td K dst eP=eV Γ nxt rs eP ob td K dst (cq Γ (.field off n agg x) (nameOf nxt dst) tm ob):=rfl
@[simp] theorem goD_slice(sz:Nat)(x:bp)(lo hi:Option bp):km Γ nxt (.slice sz x lo hi) rs tm ob td K dst eP=eV Γ nxt rs eP ob td K dst (cq Γ (.slice sz x lo hi) (nameOf nxt dst) tm ob):=rfl
@[simp] theorem YI(i:Nat)(x:bp):km Γ nxt (.extract i x) rs tm ob td K dst eP=eV Γ nxt rs eP ob td K dst (cq Γ (.extract i x) (nameOf nxt dst) tm ob):=rfl
@[simp] theorem goD_call(f:FuncId)(args:List bp):km Γ nxt (.call f args) rs tm ob td K dst eP=eV Γ nxt rs eP ob td K dst (cq Γ (.call f args) (nameOf nxt dst) tm ob):=rfl
@[simp] theorem goD_len(x:bp):km Γ nxt (.len x) rs tm ob td K dst eP=eV Γ nxt rs eP ob td K dst (cq Γ (.len x) (nameOf nxt dst) tm ob):=rfl
@[simp] theorem goD_lenS(x:bp):km Γ nxt (.lenS x) rs tm ob td K dst eP=eV Γ nxt rs eP ob td K dst (cq Γ (.lenS x) (nameOf nxt dst) tm ob):=rfl
@[simp] theorem goD_minmax(isMax:Bool)(x y:bp):km Γ nxt (.minmax isMax x y) rs tm ob td K dst eP=eV Γ nxt rs eP ob td K dst (cq Γ (.minmax isMax x y) (nameOf nxt dst) tm ob):=rfl
@[simp] theorem goD_append(e sz bytes:Nat)(x y:bp):km Γ nxt (.append e sz bytes x y) rs tm ob td K dst eP=eV Γ nxt rs eP ob td K dst (cq Γ (.append e sz bytes x y) (nameOf nxt dst) tm ob):=rfl
@[simp] theorem YJ(e sz bytes:Nat)(zero:List T)(n:bp):km Γ nxt (.mkSlice e sz bytes zero n) rs tm ob td K dst eP=eV Γ nxt rs eP ob td K dst (cq Γ (.mkSlice e sz bytes zero n) (nameOf nxt dst) tm ob):=rfl
@[simp] theorem Xd(e sz bytes:Nat)(zero:List T)(n:bp):km Γ nxt (.mkSliceB e sz bytes zero n) rs tm ob td K dst eP=eV Γ nxt rs eP ob td K dst (cq Γ (.mkSliceB e sz bytes zero n) (nameOf nxt dst) tm ob):=rfl
@[simp] theorem goD_mkFn(f:Fn)(caps:List bp):km Γ nxt (.mkFn f caps) rs tm ob td K dst eP=eV Γ nxt rs eP ob td K dst (cq Γ (.mkFn f caps) (nameOf nxt dst) tm ob):=rfl
@[simp] theorem goD_callR(f:FuncId)(args:List bp):km Γ nxt (.callR f args) rs tm ob td K dst eP=eV Γ nxt rs eP ob td K dst (cq Γ (.callR f args) (nameOf nxt dst) tm ob):=rfl
@[simp] theorem goD_callF(f:FuncId)(args:List bp):km Γ nxt (.callF f args) rs tm ob td K dst eP=eV Γ nxt rs eP ob td K dst (cq Γ (.callF f args) (nameOf nxt dst) tm ob):=rfl
@[simp] theorem goD_mkMap(shs:List Sh)(agg:Bool):km Γ nxt (.mkMap shs agg) rs tm ob td K dst eP=eV Γ nxt rs eP ob td K dst (cq Γ (.mkMap shs agg) (nameOf nxt dst) tm ob):=rfl
@[simp] theorem goD_lookup(shs:List Sh)(agg:Bool)(zero:DV)(ok:Bool)(x k:bp):km Γ nxt (.lookup shs agg zero ok x k) rs tm ob td K dst eP=eV Γ nxt rs eP ob td K dst (cq Γ (.lookup shs agg zero ok x k) (nameOf nxt dst) tm ob):=rfl
@[simp] theorem goD_mapUpd(shs:List Sh)(agg:Bool)(x k y:bp):km Γ nxt (.mapUpd shs agg x k y) rs tm ob td K dst eP=eV Γ nxt rs eP ob td K dst (cq Γ (.mapUpd shs agg x k y) (nameOf nxt dst) tm ob):=rfl
@[simp] theorem goD_mapEnt(shs:List Sh)(agg:Bool)(z:DV)(x k:bp):km Γ nxt (.mapEnt shs agg z x k) rs tm ob td K dst eP=eV Γ nxt rs eP ob td K dst (cq Γ (.mapEnt shs agg z x k) (nameOf nxt dst) tm ob):=rfl
@[simp] theorem goD_entSt(x s y:bp):km Γ nxt (.entSt x s y) rs tm ob td K dst eP=eV Γ nxt rs eP ob td K dst (cq Γ (.entSt x s y) (nameOf nxt dst) tm ob):=rfl
@[simp] theorem goD_mapDel(shs:List Sh)(agg:Bool)(x k:bp):km Γ nxt (.mapDel shs agg x k) rs tm ob td K dst eP=eV Γ nxt rs eP ob td K dst (cq Γ (.mapDel shs agg x k) (nameOf nxt dst) tm ob):=rfl
@[simp] theorem goD_lenM(x:bp):km Γ nxt (.lenM x) rs tm ob td K dst eP=eV Γ nxt rs eP ob td K dst (cq Γ (.lenM x) (nameOf nxt dst) tm ob):=rfl
@[simp] theorem goD_rangeM(x:bp):km Γ nxt (.rangeM x) rs tm ob td K dst eP=eV Γ nxt rs eP ob td K dst (cq Γ (.rangeM x) (nameOf nxt dst) tm ob):=rfl
@[simp] theorem goD_copy(sz:Nat)(x y:bp):km Γ nxt (.copy sz x y) rs tm ob td K dst eP=eV Γ nxt rs eP ob td K dst (cq Γ (.copy sz x y) (nameOf nxt dst) tm ob):=rfl
@[simp] theorem goD_isNil(kind:Nat)(neg:Bool)(x:bp):km Γ nxt (.isNil kind neg x) rs tm ob td K dst eP=eV Γ nxt rs eP ob td K dst (cq Γ (.isNil kind neg x) (nameOf nxt dst) tm ob):=rfl
@[simp] theorem goD_indexS(x i:bp):km Γ nxt (.indexS x i) rs tm ob td K dst eP=eV Γ nxt rs eP ob td K dst (cq Γ (.indexS x i) (nameOf nxt dst) tm ob):=rfl
@[simp] theorem goD_fail:km Γ nxt (.fail) rs tm ob td K dst eP=eV Γ nxt rs eP ob td K dst (cq Γ (.fail) (nameOf nxt dst) tm ob):=rfl
@[simp] theorem goD_entryM(x:bp):km Γ nxt (.entryM x) rs tm ob td K dst eP=CQ Γ nxt rs eP K dst (lT Γ (.entryM x) tm ob td):=by simp[km,oS]
end
attribute [simp] CS Xb QC QD Oe Of lT ln QE JS JT QF Og Oh QG mh look_nil dm lX Ap Oi
attribute [simp] cq bp.ev fV jM qG zJ Ma fM jr oZ jk mu lg zK zL zM gY o5 tB r8 me dV fN jN eE CA nh mz my kx gG gH je gI o6 jt ju iv eF mf wC Jq dg uI
attribute [simp] finQ W9 QB JO qY uV bN.pc kW cellsOf dq jd qE gF bH sW qF qb gK B4 qD nameOf zI df DW eZ oj Al tJ oS
theorem au{x:Int}(h: -9223372036854775808<=x/\x<=9223372036854775807):IntKind.i64.wrap x=x:=by
 simp[IntKind.wrap,IntKind.bits,IntKind.signed];omega
theorem pY{x:Int}(h:0<=x):x.tdiv 2=x/2:=Int.tdiv_eq_ediv_of_nonneg h
theorem Gq{x:Int}(h:0<=x):x.tmod 2=x % 2:=Int.tmod_eq_emod_of_nonneg h
end Go.DM
namespace Go.DM
open Go.RowKit
variable [Laid]
def aW:List (Nat×Spec)->Env
 |[],_=>none
 |(g,s)::l,f=>if f=g then some s else aW l f
theorem aw.nil{P:Program}:aw P (aW []):=λ_ _ h=>by cases h
theorem aw.add{P:Program}{f:Nat}{s:Spec}{l:List (Nat×Spec)}(h:aw P (aW l))(k:Qd P f s):aw P (aW ((f,s)::l)):=by
 intro g s' hg;simp only[aW]at hg;split at hg
 ·rename_i e;cases hg;subst e;exact k
 ·exact h g s' hg
theorem aw.cons{P:Program}{f:Nat}{s:Spec}{l:List (Nat×Spec)}(h:aw P (aW l))
  (k:∀ts,s.pre ts->aT P f ts (s.fn ts)/\(s.scalar=true->ga (s.fn ts)=true)) (hs:s.st=none:=by rfl) (we:s.fresh=none:=by rfl):aw P (aW ((f,s)::l)):=
 h.add ⟨k,λe sz hf=>(by rw[we]at hf;cases hf),λk hk=>(by rw[hs]at hk;cases hk)⟩
def eX(k:List DV->aU->iu):Spec:=⟨λ_=>False,λ_=>.bool false,true,some k,none,false⟩
theorem aw.gQ{P:Program}{f:Nat}{k:List DV->aU->iu}{l:List (Nat×Spec)}(h:aw P (aW l))
  (hk:∀args objs,(k args objs).ok->(∀N,(∀r,N<=r->objs r=none)->aY P f args objs (k args objs))/\∀r,objs r=none->(k args objs).objs r=none):aw P (aW ((f,eX k)::l)):=
 h.add ⟨λ_ h=>h.elim,λ_ _ h=>(by cases h),λk' e=>by cases e;exact hk⟩
theorem lI.ok{P:Program}{f:FuncId}{ts:List T}{e sz:Nat}{rows:List (List T)}(h:lI P f ts e sz rows):aT P f ts (.sl rows):=
 ⟨h.entry,λW w vals hW hg hr=>(h.run W w vals hW hg hr).mono λe' w' ⟨v,h1,hb,hf⟩=>⟨v,h1,hb,by
  simp only[aR];rcases hf.it with⟨h2,a,h3⟩|⟨g,cap,cur,h2,hp,y9,hh,h3,h4,h5,h6⟩
  ·exact .inl ⟨h2,a,0,h3⟩
  ·refine .inr ⟨g,0,cap,sz,h2,(Zai.1 hh).1,λhw=>?_,h3,aX.hY (aP.aD (cb.refl (λb=>W b\/b=g) w').toKeepsC (λb _ hb=>.inl hb) _ _ h6) hf.len λj v hv=>?_⟩
   ·have:=hW g hw;omega
   ·rw[ZaX,cell_of_row w' g j cur e (0,0) hh];rw[ZaF]at hv;split at hv
    ·simpa using hv
    ·cases hv⟩⟩
def u0(pre:List T->Prop)(fn:List T->List (List T))(e sz:Nat):Spec:=⟨pre,λts=>.sl (fn ts),false,none,some (e,sz),false⟩
theorem aw.QH{P:Program}{f:Nat}{pre:List T->Prop}{fn:List T->List (List T)}{e sz:Nat}{l:List (Nat×Spec)}(h:aw P (aW l))(k:∀ts,pre ts->lI P f ts e sz (fn ts)):aw P (aW ((f,u0 pre fn e sz)::l)):=
 h.add ⟨λts hp=>⟨(k ts hp).ok,λx=>by cases x⟩,λe' fW hf ts hp=>(by cases hf;exact⟨_,rfl,k ts hp,λx=>by cases x⟩),λk hk=>(by cases hk)⟩
def yi(pre:List T->Prop)(fn:List T->List (List T))(e sz:Nat):Spec:=⟨pre,λts=>.sl (fn ts),false,none,some (e,sz),true⟩
theorem aw.QI{P:Program}{f:Nat}{pre:List T->Prop}{fn:List T->List (List T)}{e sz:Nat}{l:List (Nat×Spec)}(h:aw P (aW l))(k:∀ts,pre ts->lI P f ts e sz (fn ts)/\ga.gC (fn ts).flatten=true):aw P (aW ((f,yi pre fn e sz)::l)):=
 h.add ⟨λts hp=>⟨(k ts hp).1.ok,λx=>by cases x⟩,λe' fW hf ts hp=>(by cases hf;exact⟨_,rfl,(k ts hp).1,λ_=>(k ts hp).2⟩),λk hk=>(by cases hk)⟩
@[simp] theorem YK(pre:List T->Prop)(fn:List T->List (List T))(e sz:Nat):(yi pre fn e sz).fresh=some (e,sz):=rfl
@[simp] theorem specL_fn(pre:List T->Prop)(fn:List T->List (List T))(e sz:Nat)(ts:List T):(yi pre fn e sz).fn ts=.sl (fn ts):=rfl
@[simp] theorem specL_pre(pre:List T->Prop)(fn:List T->List (List T))(e sz:Nat):(yi pre fn e sz).pre=pre:=rfl
@[simp] theorem specL_lend(pre:List T->Prop)(fn:List T->List (List T))(e sz:Nat):(yi pre fn e sz).lend=true:=rfl
@[simp] theorem specF_lend(pre:List T->Prop)(fn:List T->List (List T))(e sz:Nat):(u0 pre fn e sz).lend=false:=rfl
@[simp] theorem YL(pre:List T->Prop)(fn:List T->List (List T))(e sz:Nat):(u0 pre fn e sz).fresh=some (e,sz):=rfl
@[simp] theorem specF_fn(pre:List T->Prop)(fn:List T->List (List T))(e sz:Nat)(ts:List T):(u0 pre fn e sz).fn ts=.sl (fn ts):=rfl
@[simp] theorem specF_pre(pre:List T->Prop)(fn:List T->List (List T))(e sz:Nat):(u0 pre fn e sz).pre=pre:=rfl
def ct(pre:List T->Prop)(fn:List T->T)(scalar:Bool):Spec:=⟨pre,fn,scalar,none,none,false⟩
@[simp] theorem specP_pre(pre:List T->Prop)(fn:List T->T)(scalar:Bool):(ct pre fn scalar).pre=pre:=rfl
@[simp] theorem specP_fn(pre:List T->Prop)(fn:List T->T)(scalar:Bool):(ct pre fn scalar).fn=fn:=rfl
@[simp] theorem Xe(pre:List T->Prop)(fn:List T->T)(scalar:Bool):(ct pre fn scalar).scalar=scalar:=rfl
@[simp] theorem specP_st(pre:List T->Prop)(fn:List T->T)(scalar:Bool):(ct pre fn scalar).st=none:=rfl
@[simp] theorem specF_st(pre:List T->Prop)(fn:List T->List (List T))(e sz:Nat):(u0 pre fn e sz).st=none:=rfl
@[simp] theorem specS_st(k:List DV->aU->iu):(eX k).st=some k:=rfl
theorem JU(g f:Nat)(s:Spec)(l:List (Nat×Spec)):aW ((g,s)::l) f=if f=g then some s else aW l f:=rfl
theorem Ol(f:Nat):aW [] f=none:=rfl
attribute [simp] JU Ol
theorem aT.calls{P:Program}{f:FuncId}{ts:List T}{t:T}(h:aT P f ts t){w:World}{vals:Array Value}(hg:zH w λ_=>False)(hr:dt w (λ_=>False) ts vals.toList):
  Calls P f vals w λe w'=>∃v,e=.returned v/\tA w.heap.size w w'/\aR w' (λ_=>False) t v:=
 h.run (λ_=>False) w vals (λ_ h=>h.elim) hg hr
@[simp] theorem wrap_lit(n:Nat)(h:n<9223372036854775808):IntKind.i64.wrap (no_index (@OfNat.ofNat Int n instOfNat))= @OfNat.ofNat Int n instOfNat:=by
 have e:(@OfNat.ofNat Int n instOfNat)=(n:Int):=rfl;rw[e,au (by omega)]
@[simp] theorem wrap_neg(n:Nat)(h:n<9223372036854775808):IntKind.i64.wrap (-(no_index (@OfNat.ofNat Int n instOfNat)))= -(@OfNat.ofNat Int n instOfNat):=by
 have e:(@OfNat.ofNat Int n instOfNat)=(n:Int):=rfl;rw[e,au (by omega)]
end Go.DM
namespace Go.DM
open Go.RowKit
variable [Laid]
def gone(aA:aU)(σ:Nat->Nat)(r:Nat):Prop:=∀r',aA r'≠none->σ r'≠r
def QK(objs aA:aU)(σ:Nat->Nat)(r off:Nat):DV->Prop
 |.ptr r' Gv=>r=σ r'/\off=Gv/\∃cs,aA r'=some (.box cs)
 |.gu cs Gv=>off=Gv/\objs r=some (.box (cs.map .v))/\gone aA σ r
 |.v (.box cs)=>off=0/\objs r=some (.box (cs.map .v))/\gone aA σ r
 |_=>False
def Mx(objs aA:aU)(σ:Nat->Nat)(r ver:Nat):DV->Prop
 |.bk r' ver'=>r=σ r'/\∃e sz rows e' fW dh,objs r=some (.arr ver e sz rows)/\aA r'=some (.arr ver' e' fW dh)
 |.v (.sl rows)=>(∃e sz,objs r=some (.arr ver e sz rows))/\gone aA σ r
 |_=>False
def My(objs aA:aU)(σ:Nat->Nat)(r ver:Nat)(i:Int)(off:Nat):DV->Prop
 |.jc r' ver' i' Gv=>r=σ r'/\i=i'/\off=Gv/\∃e sz rows e' fW dh,objs r=some (.arr ver e sz rows)/\aA r'=some (.arr ver' e' fW dh)/\sz=fW/\rows.length=dh.length
 |_=>False
def isMap:Option Ob->Prop
 |some (.map _ _ _ _)=>True
 |_=>False
def As:Option Ob->Prop
 |some (.iter _ _ _ _)=>True
 |_=>False
def nN(aA:aU)(σ:Nat->Nat)(r:Nat):DV->Prop
 |.iq r'=>r=σ r'/\isMap (aA r')
 |_=>False
def QL(aA:aU)(σ:Nat->Nat)(r:Nat):DV->Prop
 |.iter r'=>r=σ r'/\As (aA r')
 |_=>False
def corAsl(objs aA:aU)(σ:Nat->Nat)(r ver lo n:Nat):DV->Prop
 |.sO r' ver' lo' n'=>r=σ r'/\lo=lo'/\n=n'/\∃e sz rows e' fW dh,objs r=some (.arr ver e sz rows)/\aA r'=some (.arr ver' e' fW dh)/\sz=fW/\rows.length=dh.length
 |.v (.sl dh)=>(∃e sz rows,objs r=some (.arr ver e sz rows)/\dh=(rows.drop lo).take n)/\gone aA σ r
 |_=>False
def QM(objs aA:aU)(σ:Nat->Nat)(r n:Nat):DV->Prop
 |.DU r' n'=>r=σ r'/\n=n'/\∃cs,aA r'=some (.box cs)
 |.v (.sl rows)=>rows.length=n/\(∃sz,∀x∈rows,x.length=sz)/\objs r=some (.box (rows.flatten.map .v))/\gone aA σ r
 |_=>False
theorem Au{o:Option Ob}(h:isMap o):∃shs agg c es,o=some (.map shs agg c es):=by
 unfold isMap at h;split at h
 ·exact⟨_,_,_,_,rfl⟩
 ·exact h.elim
theorem Oo{o:Option Ob}(h:As o):∃m s sn l,o=some (.iter m s sn l):=by
 unfold As at h;split at h
 ·exact⟨_,_,_,_,rfl⟩
 ·exact h.elim
def Eo:DV->Option (List DV)
 |.agg ds=>some ds
 |.v (.agg ts)=>some (ts.map .v)
 |_=>none
mutual
def jg(objs aA:aU)(σ:Nat->Nat):DV->DV->Prop
 |.aI,d'=>d'=.undef\/d'=.aI\/d'=.v (.sl [])
 |.ptr r off,d'=>d'=.undef\/QK objs aA σ r off d'
 |.bk r ver,d'=>d'=.undef\/Mx objs aA σ r ver d'
 |.jc r ver i off,d'=>d'=.undef\/My objs aA σ r ver i off d'
 |.agg ds,d'=>d'=.undef\/match Eo d' with|some nH=>jy objs aA σ ds nH|none=>False
 |.undef,d'=>d'=.undef
 |.skip,d'=>d'=.undef\/d'=.skip
 |.v t,d'=>d'=.undef\/d'=.v t
 |.kv rows i off,d'=>d'=.undef\/d'=.kv rows i off
 |.gu cs off,d'=>d'=.undef\/d'=.gu cs off
 |.Cz,d'=>d'=.undef\/d'=.Cz
 |.iq r,d'=>d'=.undef\/nN aA σ r d'
 |.iter r,d'=>d'=.undef\/QL aA σ r d'
 |.sO r ver lo n,d'=>d'=.undef\/corAsl objs aA σ r ver lo n d'
 |.DU r n,d'=>d'=.undef\/QM objs aA σ r n d'
 |.eD ds,d'=>d'=.undef\/match d' with|.eD nH=>jy objs aA σ ds nH|_=>False
 |.mr f ds,d'=>d'=.undef\/match d' with|.mr f' nH=>f=f'/\jy objs aA σ ds nH|.v (.fn f' ts)=>f=f'/\jy objs aA σ ds (ts.map .v)|_=>False
def jy(objs aA:aU)(σ:Nat->Nat):List DV->List DV->Prop
 |[],nH=>nH=[]
 |d::ds,nH=>match nH with
  |[]=>False
  |d'::nH=>jg objs aA σ d d'/\jy objs aA σ ds nH
end
def iL(objs aA:aU)(σ:Nat->Nat):List (Nat×T×DV)->List (Nat×T×DV)->Prop
 |[],es'=>es'=[]
 |e::es,es'=>match es' with
  |[]=>False
  |e'::es'=>e.1=e'.1/\e.2.1=e'.2.1/\jg objs aA σ e.2.2 e'.2.2/\iL objs aA σ es es'
theorem mO{objs aA:aU}{σ:Nat->Nat}:∀{es:List (Nat×T×DV)},(∀e∈es,jg objs aA σ e.2.2 e.2.2)->iL objs aA σ es es
 |[],_=>by simp[iL]
 |e::es,h=>by simp only[iL];exact⟨trivial,trivial,h e (by simp),mO λe he=>h e (by simp[he])⟩
def lQ(objs aA:aU)(σ:Nat->Nat):Ob->Ob->Prop
 |.box cs,.box qH=>jy objs aA σ cs qH
 |.arr _ e sz rows,.arr _ e' fW dh=>e=e'/\sz=fW/\rows=dh
 |.map shs agg c es,.map shs' agg' c' es'=>shs=shs'/\agg=agg'/\c=c'/\iL objs aA σ es es'
 |.iter m s sn l,.iter m' s' sn' l'=>m=σ m'/\s=s'/\sn=sn'/\l=l'/\isMap (aA m')
 |_,_=>False
def gR:Ob->Ob->Prop
 |.box _,.box _=>True
 |.arr v _ sz rows,.arr v' _ fW dh=>v=v'/\sz=fW/\rows.length=dh.length
 |.map _ _ _ _,.map _ _ _ _=>True
 |.iter _ _ _ _,.iter _ _ _ _=>True
 |_,_=>False
theorem u5{o o':Ob}(h:gR o o'):o'.kind=o.kind:=by cases o<;>cases o'<;>first|rfl|exact h.elim
def Loc.B7(L:Loc)(σ:Nat->Nat):Loc:=⟨λr=>L.gU (σ r),λr=>L.sl (σ r),L.yl⟩
section
variable{base:Nat}{W M:Nat->Prop}{w0 w:World}{objs aA:aU}{L:Loc}{σ:Nat->Nat}
theorem sg{o o':Ob}(h:lQ objs aA σ o o')(r:Nat):(L.B7 σ).own r o'=L.own (σ r) o:=by
 cases o<;>cases o'<;>first|rfl|exact h.elim
theorem jU(fE:∀r' o',aA r'=some o'->∃o,objs (σ r')=some o/\∀r,(L.B7 σ).own r o'=L.own (σ r) o)(b:Nat)(h:WW W aA (L.B7 σ) b):WW W objs L b:=by
 rcases h with h|⟨r',o',h1,h2⟩
 ·exact .inl h
 ·obtain⟨o,h3,h4⟩:=fE r' o' h1;exact .inr ⟨σ r',o,h3,by rw[<-h4];exact h2⟩
theorem Av(hO:bK base W M w0 objs w L)(fE:∀r' o',aA r'=some o'->∃o,objs (σ r')=some o/\∀r,(L.B7 σ).own r o'=L.own (σ r) o){r b:Nat}{o:Ob}(hr:objs r=some o)(hb:L.own r o=some b)(hg:gone aA σ r):¬WW W aA (L.B7 σ) b:=by
 rintro(h|⟨r',o',h1,h2⟩)
 ·exact hO.outer r o b hr hb h
 ·obtain⟨o2,h3,h4⟩:=fE r' o' h1;rw[h4]at h2;exact hO.apart r (σ r') o o2 b (λe=>hg r' (by rw[h1];exact λe=>by cases e) e.symm) hr h3 hb h2
theorem tM(hO:bK base W M w0 objs w L)(fE:∀r' o',aA r'=some o'->∃o,objs (σ r')=some o/\∀r,(L.B7 σ).own r o'=L.own (σ r) o){r:Nat}{cs:List T}(hr:objs r=some (.box (cs.map .v)))(hg:gone aA σ r):
  L.gU r<w.heap.size/\¬WW W aA (L.B7 σ) (L.gU r)/\cV w (WW W aA (L.B7 σ)) (L.gU r) 0 cs:=by
 have hb:=hO.ob r _ hr;obtain⟨c,e,hc,eG,_⟩:=hb;refine⟨(Zai.1 hc).1,Av hO fE hr rfl hg,cV.zG cs 0 λj t hj=>?_⟩;have hd:(cs.map DV.v)[j]? =some (.v t):=by simp[hj]
 obtain⟨v,hv,h1,h2⟩:=aK.get eG hd;simp only[av]at h2;refine⟨v, ?_,h1,aR.aD (cb.refl (WW W objs L) w).toKeepsC (λb _ hb=>jU fE b hb) t v h2⟩;simp only[World.cell?,hc,ZaX];simpa using hv
theorem JW(hO:bK base W M w0 objs w L)(fE:∀r' o',aA r'=some o'->∃o,objs (σ r')=some o/\∀r,(L.B7 σ).own r o'=L.own (σ r) o){r ver e sz:Nat}{rows:List (List T)}(hr:objs r=some (.arr ver e sz rows))(hg:gone aA σ r):
  aR w (WW W aA (L.B7 σ)) (.sl rows) (L.sl r):=by
 have qe:=hO.ob r _ hr;obtain⟨gv,cS,hm,kj⟩:=qe;simp only[aR];rcases kj with⟨rfl,p,hp⟩|⟨g',cap,cur,pS,hp,hh,hle,o9,D1,eG⟩
 ·exact .inl ⟨rfl,p,0,hp⟩
 ·have uw:aO (L.sl r)=some g':=by simp[pS,aO,Zay.1 hp]
  refine .inr ⟨g',0,cap,sz,pS,(Zai.1 hh).1,Av hO fE hr (by simpa [Loc.own]using uw) hg,hle, ?_⟩;have tD:=mY.rows (hO.ob r _ hr) (g:=g') uw;obtain⟨vs,wg,zc,PY⟩:=aX.flatten tD;exact aX.hY (aP.aD (cb.refl (WW W objs L) w).toKeepsC (λb _ hb=>jU fE b hb) _ _ zc) cS PY
theorem Aw{ts:List T}:∀{vs:List Value},aK w W objs L (ts.map .v) vs->aP w (WW W objs L) ts vs:=by
 induction ts with
 |nil=>intro vs h;simpa [aK,aP]using h
 |cons t ts ih=>
  intro vs h;simp only[Zau,aK]at h;obtain⟨v,gW,rfl,h1,h2,h3⟩:=h;simp only[av]at h2;simp only[aP];exact⟨v,gW,rfl,h1,h2,ih h3⟩
theorem zg(hO:bK base W M w0 objs w L)(fE:∀r' o',aA r'=some o'->∃o,objs (σ r')=some o/\∀r,(L.B7 σ).own r o'=L.own (σ r) o):
  ∀n,(∀(d d':DV) (x:Value),SizeOf.sizeOf d<n->jg objs aA σ d d'->av w W objs L d x->av w W aA (L.B7 σ) d' x)/\
   (∀(ds nH:List DV) (xs:List Value),SizeOf.sizeOf ds<n->jy objs aA σ ds nH->aK w W objs L ds xs->aK w W aA (L.B7 σ) nH xs)/\
   (∀(ds nH:List DV) (xs:List Value),SizeOf.sizeOf ds<n->jy objs aA σ ds nH->eW w W objs L ds xs->eW w W aA (L.B7 σ) nH xs):=by
 have ko:∀(t:T) (x:Value),aR w (WW W objs L) t x->aR w (WW W aA (L.B7 σ)) t x:=λt x h=>aR.aD (cb.refl (WW W objs L) w).toKeepsC (λb _ hb=>jU fE b hb) t x h;intro n;induction n with
 |zero=>exact⟨λ_ _ _ h=>by omega,λ_ _ _ h=>by omega,λ_ _ _ h=>by omega⟩
 |succ n ih=>
  refine⟨λd d' x hn hc hr=>?_,λds nH xs hn hc hr=>?_,λds nH xs hn hc hr=>?_⟩
  ·by_cases hu:d'=.undef
   ·subst hu;simp[av]
   cases d with
   |undef=>simp only[jg]at hc;exact absurd hc hu
   |skip=>simp only[jg,hu,false_or]at hc;subst hc;simpa only[av]using hr
   |Cz=>simp only[jg,hu,false_or]at hc;subst hc;simp only[av,Loc.B7]at hr⊢;exact hr
   |v t=>simp only[jg,hu,false_or]at hc;subst hc;simp only[av]at hr⊢;exact ko t x hr
   |kv rows i off=>
    simp only[jg,hu,false_or]at hc;subst hc;simp only[av]at hr⊢;obtain⟨b,o,sz,hx,hb,Od,tD,h1,h2⟩:=hr;exact⟨b,o,sz,hx,hb,λk=>Od (jU fE b k),aX.aD (cb.refl (WW W objs L) w).toKeepsC (λb _ hb=>jU fE b hb) hb Od sz o rows tD,h1,h2⟩
   |gu cs off=>
    simp only[jg,hu,false_or]at hc;subst hc;simp only[av]at hr⊢;obtain⟨b,o,hx,hb,Od,tD⟩:=hr;exact⟨b,o,hx,hb,λk=>Od (jU fE b k),cV.aD (cb.refl (WW W objs L) w).toKeepsC (λb _ hb=>jU fE b hb) hb Od o cs tD⟩
   |iq r=>
    simp only[jg,hu,false_or]at hc;simp only[av]at hr;cases d' with
    |iq r'=>
     obtain⟨rfl,hm⟩:=hc;simp only[av];exact⟨Au hm,hr.2⟩
    |_=>exact hc.elim
   |iter r=>
    simp only[jg,hu,false_or]at hc;simp only[av]at hr;cases d' with
    |iter r'=>
     obtain⟨rfl,hm⟩:=hc;simp only[av];exact⟨Oo hm,hr.2⟩
    |_=>exact hc.elim
   |eD ds=>
    simp only[jg,hu,false_or]at hc;simp only[av]at hr;obtain⟨vs,rfl,hr⟩:=hr;cases d' with
    |eD nH=>
     simp only[av];exact⟨vs,rfl,ih.2.2 ds nH _ (by simp at hn⊢;omega) hc hr⟩
    |_=>exact hc.elim
   |mr f ds=>
    simp only[jg,hu,false_or]at hc;simp only[av]at hr;obtain⟨vs,rfl,hr⟩:=hr;cases d' with
    |mr f' nH=>
     obtain⟨rfl,hc⟩:=hc;simp only[av];exact⟨vs,rfl,ih.2.1 ds nH _ (by simp at hn⊢;omega) hc hr⟩
    |v t=>
     cases t with
     |fn f' ts=>
      obtain⟨rfl,hc⟩:=hc;simp only[av,aR];exact⟨vs,rfl,Aw (ih.2.1 ds _ _ (by simp at hn⊢;omega) hc hr)⟩
     |_=>exact hc.elim
    |_=>exact hc.elim
   |DU r m=>
    simp only[jg,hu,false_or]at hc;simp only[av]at hr;obtain⟨⟨cs0,hcs0⟩,rfl⟩:=hr;cases d' with
    |DU r' m'=>
     obtain⟨rfl,rfl,cs,mA⟩:=hc;simp only[av];exact⟨⟨cs,mA⟩,rfl⟩
    |v t=>
     cases t with
     |sl rows=>
      obtain⟨rfl,⟨sz,gv⟩,qe,hg⟩:=hc;obtain⟨h1,h2,h3⟩:=tM hO fE qe hg;simp only[av,aR];refine .inr ⟨L.gU r,0,rows.length,sz,rfl,h1,h2,Zae _, ?_⟩;obtain⟨vs,za,ji⟩:=cV.vals h3;exact aX.hY za gv ji
     |_=>exact hc.elim
    |_=>exact hc.elim
   |sO r ver lo m=>
    simp only[jg,hu,false_or]at hc;simp only[av]at hr;obtain⟨F7,nG,e2,CB,jO,dR,F8,hx⟩:=hr;cases d' with
    |sO r' ver' lo' m'=>
     obtain⟨rfl,rfl,rfl,e,sz,rows,e',fW,dh,h1,h2,h3,h4⟩:=hc;rw[dR]at h1;simp only[Zaa,Ob.arr.injEq]at h1;obtain⟨rfl,rfl,rfl,rfl⟩:=h1;simp only[av];refine⟨F7,ver',e',fW,dh,h2,Zae _,λ_=>?_⟩;obtain⟨k0,p,cap,p2,k1,k2,k3⟩:=hx rfl;exact⟨by rw[<-h4];exact k0,p,cap,p2,by rw[<-h4];exact k1,k2,by rw[<-h3];exact k3⟩
    |v t=>
     cases t with
     |sl dh=>
      obtain⟨⟨e,sz,rows,h1,rfl⟩,hg⟩:=hc;rw[dR]at h1;simp only[Zaa,Ob.arr.injEq]at h1;obtain⟨rfl,rfl,rfl,rfl⟩:=h1;have hx:=hx rfl;simp only[av,aR];have DR:((jO.drop lo).take m).length=m:=by rw[Zaw,Za8];omega
      rcases qM hO dR hx with⟨rfl,a,c,rfl⟩|⟨g,c,uw,rfl,P5,tD⟩
      ·exact .inl ⟨by simp,a,c,rfl⟩
      ·refine .inr ⟨g,lo*CB,c,CB,by rw[DR],(hO.ob r _ dR).lt (by simpa [Loc.own]using uw),Av hO fE dR (by simpa [Loc.own]using uw) hg,by omega, ?_⟩;obtain⟨vs,wg,zc,PY⟩:=aX.flatten tD;exact aX.hY (aP.aD (cb.refl (WW W objs L) w).toKeepsC (λb _ hb=>jU fE b hb) _ _ zc) (λx hx=>(hO.ob r _ dR).2.1 x (Zbv (Zav hx))) PY
     |_=>exact hc.elim
    |_=>exact hc.elim
   |aI=>
    simp only[jg,hu,false_or]at hc;rcases hc with rfl|rfl
    ·simpa only[av]using hr
    ·simp only[av]at hr;obtain⟨a,rfl⟩:=hr;simp only[av,aR];exact .inl ⟨trivial,a,0,rfl⟩
   |ptr r off=>
    simp only[jg,hu,false_or]at hc;simp only[av]at hr;obtain⟨⟨cs0,hcs0⟩,rfl⟩:=hr;cases d' with
    |ptr r' Gv=>
     obtain⟨rfl,rfl,cs,mA⟩:=hc;simp only[av];exact⟨⟨cs,mA⟩,rfl⟩
    |gu cs Gv=>
     obtain⟨rfl,qe,hg⟩:=hc;obtain⟨h1,h2,h3⟩:=tM hO fE qe hg;simp only[av];exact⟨L.gU r,0,by simp,h1,h2,h3⟩
    |v t=>
     cases t with
     |box cs=>
      obtain⟨rfl,qe,hg⟩:=hc;obtain⟨h1,h2,h3⟩:=tM hO fE qe hg;simp only[av,aR];exact⟨L.gU r,0,rfl,h1,h2,h3⟩
     |_=>exact hc.elim
    |_=>exact hc.elim
   |bk r ver=>
    simp only[jg,hu,false_or]at hc;simp only[av]at hr;obtain⟨F7,nG,e2,CB,jO,dR,F8,hx⟩:=hr;cases d' with
    |bk r' ver'=>
     obtain⟨rfl,e,sz,rows,e',fW,dh,h1,h2⟩:=hc;rw[dR]at h1;simp only[Zaa,Ob.arr.injEq]at h1;obtain⟨rfl,_⟩:=h1;simp only[av];exact⟨F7,ver',e',fW,dh,h2,Zae _,λ_=>hx rfl⟩
    |v t=>
     cases t with
     |sl rows=>
      obtain⟨⟨e,sz,h1⟩,hg⟩:=hc;rw[dR]at h1;simp only[Zaa,Ob.arr.injEq]at h1;obtain⟨rfl,rfl,rfl,rfl⟩:=h1;have hx:=hx rfl;subst hx;simp only[av];exact JW hO fE dR hg
     |_=>exact hc.elim
    |_=>exact hc.elim
   |jc r ver i off=>
    simp only[jg,hu,false_or]at hc;simp only[av]at hr;obtain⟨F7,nG,e2,CB,jO,dR,F8,hx⟩:=hr;cases d' with
    |jc r' ver' i' Gv=>
     obtain⟨rfl,rfl,rfl,e,sz,rows,e',fW,dh,h1,h2,h3,h4⟩:=hc;rw[dR]at h1;simp only[Zaa,Ob.arr.injEq]at h1;obtain⟨rfl,rfl,rfl,rfl⟩:=h1;simp only[av];refine⟨F7,ver',e',fW,dh,h2,Zae _,λ_=>?_⟩;obtain⟨g,k1,k2,k3,k4⟩:=hx rfl;exact⟨g,k1,by rw[<-h3];exact k2,k3,by rw[<-h4];exact k4⟩
    |_=>exact hc.elim
   |agg ds=>
    simp only[jg,hu,false_or]at hc;simp only[av]at hr;obtain⟨vs,rfl,hr⟩:=hr;cases d' with
    |agg nH=>
     simp only[Eo]at hc;simp only[av];exact⟨vs,rfl,ih.2.1 ds nH _ (by simp at hn⊢;omega) hc hr⟩
    |v t=>
     cases t with
     |agg ts=>
      simp only[Eo]at hc;simp only[av,aR];exact⟨vs,rfl,Aw (ih.2.1 ds _ _ (by simp at hn⊢;omega) hc hr)⟩
     |_=>exact hc.elim
    |_=>exact hc.elim
  ·cases ds with
   |nil=>simp only[jy]at hc;subst hc;simpa only[aK]using hr
   |cons d ds=>
    cases nH with
    |nil=>simp[jy]at hc
    |cons d' nH=>
     simp only[jy]at hc;simp only[aK]at hr⊢;obtain⟨y,ys,hv,h1,h2,h3⟩:=hr;exact⟨y,ys,hv,h1,ih.1 d d' y (by simp at hn⊢;omega) hc.1 h2,ih.2.1 ds nH ys (by simp at hn⊢;omega) hc.2 h3⟩
  ·cases ds with
   |nil=>simp only[jy]at hc;subst hc;simpa only[eW]using hr
   |cons d ds=>
    cases nH with
    |nil=>simp[jy]at hc
    |cons d' nH=>
     simp only[jy]at hc;simp only[eW]at hr⊢;obtain⟨y,ys,hv,h2,h3⟩:=hr;exact⟨y,ys,hv,ih.1 d d' y (by simp at hn⊢;omega) hc.1 h2,ih.2.2 ds nH ys (by simp at hn⊢;omega) hc.2 h3⟩
theorem Le.cor{st dd:kV}(σ:Nat->Nat)(Cd:dd.low=st.low)(QN:dd.todo=st.todo)(Ax:∀r,dd.nxt<=r->dd.objs r=none)
  (fE:∀r' o',dd.objs r'=some o'->∃o,st.objs (σ r')=some o/\lQ st.objs dd.objs σ o o')
  (hinj:∀r1 r2,dd.objs r1≠none->dd.objs r2≠none->σ r1=σ r2->r1=r2)
  (Gw:∀r,r<st.low->∀o,st.objs r=some o->σ r=r/\∃o',dd.objs r=some o'/\gR o o')
  (iX:∀k,jg st.objs dd.objs σ (st.tmps k) (dd.tmps k)):Le st dd:=by
 intro κ nt a w L h;refine⟨L.B7 σ,⟨?_, ?_,h.r.defers,h.r.bg,⟨_,Ax⟩⟩,Ax,by rw[Cd];exact h.low,by rw[Cd];exact h.it⟩
 ·obtain⟨W,base,M,w0,dF,h0⟩:=h.r.ex;have hO:=h0.o;have qe:∀r' o',dd.objs r'=some o'->∃o,st.objs (σ r')=some o/\∀r,(L.B7 σ).own r o'=L.own (σ r) o:=λr' o' h=>let⟨o,h1,h2⟩:=fE r' o' h;⟨o,h1,sg h2⟩
  have cr:=λ(d d':DV) (x:Value)=>(zg hO qe (SizeOf.sizeOf d+1)).1 d d' x (by omega);have crs:=λ(ds nH:List DV) (xs:List Value)=>(zg hO qe (SizeOf.sizeOf ds+1)).2.1 ds nH xs (by omega);refine⟨W,base,M,w0,by rw[QN];exact dF,h0.size,λt=>cr _ _ _ (iX t) (h0.tmps t),⟨hO.fr,λr' o' fY=>?_,λr1 r2 o1 o2 b bG h1 h2 Jf kU=>?_,λr' o' b fY hb=>?_,hO.under,hO.gl.aD (cb.refl (WW W st.objs L) w).toKeepsC λb _ hb=>jU qe b hb⟩⟩
  ·obtain⟨o,ho,hc⟩:=fE r' o' fY;have hk:=hO.ob (σ r') o ho;cases o with
   |box cs=>
    cases o' with
    |box qH=>
     obtain⟨c,e,bM,hr,hm⟩:=hk;exact⟨c,e,bM,crs cs qH _ hc hr,hm⟩
    |_=>exact hc.elim
   |map shs agg c es=>
    cases o' with
    |map shs' agg' c' es'=>
     obtain⟨rfl,rfl,rfl,oT⟩:=hc;obtain⟨arr,bM,hr,k1,k2,k3,hm⟩:=hk;have key:∀(es es':List (Nat×T×DV)) (xs:List MapEntry),iL st.objs dd.objs σ es es'->bj w W st.objs L es xs->bj w W dd.objs (L.B7 σ) es' xs/\es'.map (·.1)=es.map (·.1)/\es'.map (·.2.1)=es.map (·.2.1):=by
      intro es;induction es with
      |nil=>intro es' xs h1 h2;simp only[iL]at h1;subst h1;exact⟨by simpa only[bj]using h2,rfl,rfl⟩
      |cons e es ih=>
       intro es' xs h1 h2;cases es' with
       |nil=>simp[iL]at h1
       |cons e' es'=>
        simp only[iL]at h1;simp only[bj]at h2⊢;obtain⟨x,jI,rfl,q0,q1,q2,q3⟩:=h2;obtain⟨i1,i2,i3⟩:=ih es' jI h1.2.2.2 q3;refine⟨⟨x,jI,rfl,q0.trans h1.1, ?_,cr _ _ _ h1.2.2.1 q2,i1⟩,by simp[i2,h1.1],by simp[i3,h1.2.1]⟩;rw[<-h1.2.1];exact aR.aD (cb.refl (WW W st.objs L) w).toKeepsC (λb _ hb=>jU qe b hb) _ _ q1
     obtain⟨i1,i2,i3⟩:=key es es' _ oT hr;refine⟨arr,bM,i1,λe he=>?_,λe he=>?_,by rw[i2];exact k3,hm⟩
     ·have:e.2.1∈es.map (·.2.1):=by rw[<-i3];exact Zal.2 ⟨e,he,rfl⟩
      obtain⟨e0,h0',Mf⟩:=Zal.1 this;rw[<-Mf];exact k1 e0 h0'
     ·have:e.1∈es.map (·.1):=by rw[<-i2];exact Zal.2 ⟨e,he,rfl⟩
      obtain⟨e0,h0',Mf⟩:=Zal.1 this;rw[<-Mf];exact k2 e0 h0'
    |_=>exact hc.elim
   |iter m s sn l=>
    cases o' with
    |iter m' s' sn' l'=>
     obtain⟨rfl,rfl,rfl,rfl,Jb⟩:=hc;obtain⟨bM,_,hm⟩:=hk;exact⟨bM,Au Jb,hm⟩
    |_=>exact hc.elim
   |arr ver e sz rows=>
    cases o' with
    |box _=>exact hc.elim
    |map _ _ _ _=>exact hc.elim
    |iter _ _ _ _=>exact hc.elim
    |arr ver' e' fW dh=>
     obtain⟨rfl,rfl,rfl⟩:=hc;obtain⟨g1,g2,g3,g4⟩:=hk;refine⟨g1,g2,g3, ?_⟩;rcases g4 with g4|⟨g,cap,cur,hv,hp,hh,k1,k2,k3,k4⟩
     ·exact .inl g4
     ·exact .inr ⟨g,cap,cur,hv,hp,hh,k1,k2,k3,aP.aD (cb.refl (WW W st.objs L) w).toKeepsC (λb _ hb=>jU qe b hb) _ _ k4⟩
  ·obtain⟨p1,q1,c1⟩:=fE r1 o1 h1;obtain⟨p2,q2,c2⟩:=fE r2 o2 h2;rw[sg c1]at Jf;rw[sg c2]at kU;exact hO.apart (σ r1) (σ r2) p1 p2 b (λe=>bG (hinj r1 r2 (λe=>by rw[show dd.objs r1=some o1 from h1]at e;cases e) (λe=>by rw[show dd.objs r2=some o2 from h2]at e;cases e) e)) q1 q2 Jf kU
  ·obtain⟨p1,q1,c1⟩:=fE r' o' fY;rw[sg c1]at hb;exact hO.outer (σ r') p1 b q1 hb
 ·have ha:=h.r.dZ;refine⟨ha.keeps,λb hb hw=>ha.sub b hb (jU (λr' o' h=>let⟨o,h1,h2⟩:=fE r' o' h;⟨o,h1,sg h2⟩) b hw),λr o hr hk=>?_,λr ver e sz rows hr=>?_,ha.yl⟩
  ·have cW:r<st.low:=ZbW λhle=>by rw[h.low r hle]at hr;cases hr
   obtain⟨e1,o1,lO,qd⟩:=ha.fix r o hr hk;obtain⟨hs,o',fY,hv⟩:=Gw r cW _ lO;exact⟨by simp only[Loc.B7,hs];exact e1,o',fY,(u5 hv).trans qd⟩
  ·have cW:r<st.low:=ZbW λhle=>by rw[h.low r hle]at hr;cases hr
   obtain⟨v1,e1,s1,r1,lO,l1,k1⟩:=ha.arr r ver e sz rows hr;obtain⟨hs,o',fY,hv⟩:=Gw r cW _ lO;cases o' with
   |box qH=>exact hv.elim
   |map _ _ _ _=>exact hv.elim
   |iter _ _ _ _=>exact hv.elim
   |arr v2 e2 s2 r2=>
    obtain⟨rfl,rfl,h3⟩:=hv;exact⟨v1,e2,s1,r2,fY,l1,λhv=>by
     obtain⟨a1,a2,a3⟩:=k1 hv;exact⟨by simp only[Loc.B7,hs];exact a1,a2,by rw[<-h3];exact a3⟩⟩
end
end Go.DM
namespace Go.DM
open Go.RowKit
variable [Laid]
structure ItOk(P:Program)(f:FuncId)(caps:List T)(Ep:List (List T)):Prop where
 entry:Entry P f
 run:∀(l:Nat) (J:(Nat->Prop)->List (List T)->World->Prop) (W:Nat->Prop) (A:World) (vs:Array Value),Yields P l J->J W Ep A->aP A W caps vs.toList->(∀b,W b->b<A.heap.size)->zH A W->
  Calls P f (#[.func (.yield l) #[] #[]]++vs) A λe B=>(∃v,e=.returned v)/\∃W',J W' [] B
def AA(f:Nat->DV):List Nat->List T->Nat->DV
 |p::ps,x::xs=>AA (b7 f (some p) (.v x)) ps xs
 |_,_=>f
section
variable{P:Program}{nt:Nat}
theorem CV{A:World}{W:Nat->Prop}{objs:aU}{L:Loc}:∀(ps:List Nat) (x:List T) (vals:List Value) (f:Nat->DV) (tm:Array Value),(∀p∈ps,p<nt)->tm.size=nt->x.length=ps.length->dt A (WW W objs L) x vals->
  (∀t,av A W objs L (f t) (tm.getD t Go.undef))->
  ((ps.zip vals).foldl (λt (pv:Nat×Value)=>t.setIfInBounds pv.1 pv.2) tm).size=nt/\∀t,av A W objs L (AA f ps x t) (((ps.zip vals).foldl (λt (pv:Nat×Value)=>t.setIfInBounds pv.1 pv.2) tm).getD t Go.undef)
 |[],x,vals,f,tm,_,hs,hl,hr,hf=>by
  have:x=[]:=ZaC (by simpa using hl);subst this;exact⟨by simpa using hs,by simpa [AA]using hf⟩
 |p::ps,[],vals,f,tm,_,_,hl,_,_=>by simp at hl
 |p::ps,y::x,vals,f,tm,hp,hs,hl,hr,hf=>by
  simp only[dt]at hr;obtain⟨v,gW,rfl,h1,h2⟩:=hr;simp only[List.zip_cons_cons,ZaB,AA];refine CV ps x gW _ _ (λq hq=>hp q (ZaV _ hq)) (by simpa using hs) (by simpa using hl) h2 λt=>?_;rw[zZ _ _ _ _ (by rw[hs];exact hp p (Za4 ..))];simp only[b7];by_cases ht:t=p
  ·simp only[ht,if_true,av];exact h1
  ·simp only[ht,if_false];exact hf t
theorem JZ(qs:Array Nat)(vals:Array Value)(tm:Array Value):(qs.zip vals).foldl (λt (p,v)=>t.setIfInBounds p v) tm=(qs.toList.zip vals.toList).foldl (λt (pv:Nat×Value)=>t.setIfInBounds pv.1 pv.2) tm:=by
 rw[<-Array.foldl_toList,Array.toList_zip]
theorem Ot{ro:Option Nat}{w:World}{fn:FuncId}{tm:Array Value}{ps:Array Nat}{y z:Code}(jR:∀l,ro=some l->∃r,w.heap[l]? =some (.loop r)):
  ∃(l:Nat) (Ds:List Nat) (W1:World) (rec:Loop),(Instr.enterLoop fn tm ps y z ro).run P w=.ok (l,Ds.map mark) W1/\tA w.heap.size w W1/\w.heap.size<=l/\W1.heap[l]? =some (.loop rec)/\
   rec.state=.ready/\rec.pending=none/\rec.fn=fn/\rec.tmps=tm/\rec.params=ps/\rec.assign=y/\rec.body=z/\Ds.Nodup/\(∀D∈Ds,W1.heap[D]? =some (.deferred (some []))/\w.heap.size<=D):=by
 cases ro with
 |none=>
  refine⟨_,[w.heap.size],_,{state:=.ready,pending:=none,fn,tmps:=tm,params:=ps,assign:=y,body:=z,defers:=w.heap.size},run_enterLoop_outer _ _ _ _ _, ?_,by simp, ?_,rfl,rfl,rfl,rfl,rfl,rfl,rfl,by simp, ?_⟩
  ·exact⟨((Below.refl _ w).alloc (Zae _) _).alloc (by simp) _,Zae _⟩
  ·have:=World.alloc_heap_new (w.alloc (.deferred (some []))) (.loop {state:=.ready,pending:=none,fn,tmps:=tm,params:=ps,assign:=y,body:=z,defers:=w.heap.size})
   rwa [World.size_alloc]at this
  ·intro D hD;simp only[Zah]at hD;subst hD;exact⟨(Below.heap_alloc _ _ _ (by simp)).trans (World.alloc_heap_new w _),Zae _⟩
 |some l0=>
  obtain⟨r0,hr0⟩:=jR l0 rfl;refine⟨_,[],_,{state:=.ready,pending:=none,fn,tmps:=tm,params:=ps,assign:=y,body:=z,defers:=r0.defers},run_enterLoop_inner hr0 _ _ _ _ _, ?_,Zae _,World.alloc_heap_new w _,rfl,rfl,rfl,rfl,rfl,rfl,rfl,ZbT,λD hD=>by cases hD⟩;exact⟨(Below.refl _ w).alloc (Zae _) _,Zae _⟩
theorem aa.wP{Q:Exit->kV->Prop}{st:kV}{g:bp}{ps:List Nat}{as bs:DC}{f:FuncId}{caps:List T}{Ep:List (List T)}(hit:ItOk P f caps Ep)(Cd:0<st.low)
  (hg:g.ev st.tmps=.v (.fn (.func f) caps)) (hlen:∀x∈Ep,x.length=ps.length) (R:List (List T)->aU) (hR0:R []=st.objs) (hRf:∀pre r,st.nxt<=r->R pre r=none)
  (round:∀pre x rest,Ep=pre++x::rest->aa P nt as (λe s1=>e=.normal/\aa P nt bs (λe s2=>e=.normal/\Le s2 ⟨λ_=>.undef,R (pre++[x]),st.nxt,st.nxt,[]⟩) s1) ⟨AA st.tmps ps x,R pre,st.nxt,st.nxt,[]⟩)
  (done:Q .normal ⟨st.tmps,R Ep,st.nxt,st.low,st.todo⟩):aa P nt (.wP g ps as bs) Q st:=by
 refine⟨λc hc=>?_⟩;obtain⟨g',qs,y,z,rfl,hg',rfl,cW,hy,hz⟩:=JM hc;intro n κ a w L gd r;have hJ:κ.J=none:=by
  cases hj:κ.J with
  |none=>rfl
  |some J=>have:=r.it (by rw[hj];rfl);omega
 obtain⟨W,base,M,w0,dF,h0⟩:=r.r.ex;have JQ:=dF;unfold Ctx.At at JQ;simp only[hJ]at JQ;obtain⟨htd,rfl,rfl,rfl,rfl⟩:=JQ;have hgv:=bp.bq h0.o.gl h0.tmps hg';rw[hg]at hgv;simp only[av,aR]at hgv;obtain⟨vs,hgv,CL⟩:=hgv;have hle:κ.base<=w.heap.size:=ZaE h0.o.fr.gZ h0.o.fr.size;have wJ:∀b,WW κ.W st.objs L b->b<w.heap.size:=by
  rintro b (hb|⟨r',o',h1,h2⟩)
  ·have:=h0.o.under b hb;omega
  ·exact(h0.o.ob r' o' h1).lt h2
 refine wpIn_rangeFunc ?_;intro fn wi;obtain⟨l,Ds0,W1,rec,Am,Jf,hlw,wq,r1,r2,r3,r4,r5,r6,r7,yX,hDs⟩:=Ot (P:=P) (ro:=κ.ro) (w:=w) (fn:=fn) (tm:=a.tmps) (ps:=qs) (y:=y) (z:=z) (λl hl=>by
  obtain⟨rc,J0⟩:=gd.rd l hl;exact⟨rc,r.r.dZ.keeps.We l rc J0⟩)
 obtain⟨fnE,hfnE,bG,FO⟩:=hit.entry;have hDl:∀D∈Ds0,D≠l:=λD hD e=>by
  have:=(hDs D hD).1;rw[e,wq]at this;cases this
 let J:(Nat->Prop)->List (List T)->World->Prop:=λWk todo A=>∃pre L',Ep=pre++todo/\bK κ.base κ.W κ.M κ.w0 (R pre) A L'/\iW κ.W st.objs L w (R pre) L' A/\(∀b,WW κ.W (R pre) L' b->Wk b)/\
  A.heap[l]? =some (.loop rec)/\(∀D∈Ds0,A.heap[D]? =some (.deferred (some [])))/\∀b,Wk b->b<A.heap.size
 have hrec:({rec with state:=.ready,pending:=none}:Loop)=rec:=by cases rec;simp_all
 have hYield:Yields P l J:=by
  refine⟨?_, ?_⟩
  ·rintro Wk todo A B ⟨pre,L',h1,h2,h3,h4,h5,h6,h7⟩ hb;obtain⟨hO,hA⟩:=bK.grow h2 hb;refine⟨pre,L',h1,hO,h3.comp hA (λ_ h=>.inl h) (λ_ h=>h),h4, ?_,λD hD=>?_,λb hw=>ZaQ (h7 b hw) hb.size⟩
   ·exact(hb.block l (Zai.1 h5).1).trans h5
   ·exact(hb.block D (Zai.1 (h6 D hD)).1).trans (h6 D hD)
  ·rintro Wk x rest vals A ⟨pre,L',h1,h2,h3,h4,h5,h6,h7⟩ hx;have sa:x.length=qs.toList.length:=hlen x (by rw[h1];simp);have wg:vals.size=rec.params.size:=by
    have:=dt.length hx;rw[r5];simpa [sa]using this
   have PC:=run_yield (P:=P) (args:=vals) h5 wg;rw[r3,r4,r5,r6,r7]at PC;refine⟨_,_,_,_,PC, ?_⟩;have hleA:κ.base<=A.heap.size:=ZaE h2.fr.gZ h2.fr.size;have hlA:=(Zai.1 h5).1;have hxW:dt A (WW κ.W (R pre) L') x vals.toList:=by
    have hk:=cb.refl Wk A;have conv:∀(ts:List T) (vs:List Value),dt A Wk ts vs->dt A (WW κ.W (R pre) L') ts vs:=λts vs h=>dt.aD hk.toKeepsC (λb _ hb=>h4 b hb) ts vs h
    exact conv _ _ hx
   have iX:∀t,av A κ.W (R pre) L' (st.tmps t) (a.tmps.getD t Go.undef):=λt=>av.dZ h3 _ _ (h0.tmps t);have Qb:=CV (nt:=nt) qs.toList x vals.toList st.tmps a.tmps cW h0.size sa hxW iX;rw[<-JZ]at Qb
   let κ1:Ctx:=⟨κ.W,R pre,L',A,κ.base,κ.M,κ.w0,none,some l⟩
   have good1:κ1.Good P:=⟨λJ hJ=>(by cases hJ),λl' YR=>by cases YR;exact⟨rec,h5⟩⟩;have rel1:Rel κ1 nt ⟨AA st.tmps qs.toList x,R pre,st.nxt,st.nxt,[]⟩ {tmps:=(qs.zip vals).foldl (λt (p,v)=>t.setIfInBounds p v) a.tmps,defers:=[]} A L':=
    ⟨⟨⟨κ.W,κ.base,κ.M,κ.w0,⟨rfl,rfl,rfl,rfl,rfl⟩,Qb.1,Qb.2,h2⟩,iW.cd (cb.refl _ _),⟨[],rfl,ZbT,(λ_ h=>by cases h),λ_=>rfl⟩,λ_=>hleA,⟨st.nxt,hRf pre⟩⟩,hRf pre,hRf pre,λh=>by cases h⟩
   refine roundIn_of_wpIn trivial ?_;refine wpIn_mono ((round pre x rest h1).run y hy 0 κ1 _ A L' good1 rel1) ?_;rintro e a' w' ⟨s1,L1,⟨rfl,hbody⟩,Ou⟩;have Er:=Ou.r.dZ;have qc:w'.heap[l]? =some (.loop rec):=Er.keeps.We l rec h5;have hlw':=(Zai.1 qc).1;refine⟨_,run_beginRound qc r1, ?_⟩
   let busy:Loop:={rec with state:=.busy}
   let κ2:Ctx:=⟨κ.W,R pre,L',A.putObj l (.loop busy),κ.base,κ.M,κ.w0,none,some l⟩
   have hsA:(A.putObj l (.loop busy)).heap.size=A.heap.size:=by simp[World.putObj]
   have zF:(w'.putObj l (.loop busy)).heap.size=w'.heap.size:=by simp[World.putObj]
   have gA:(A.putObj l (.loop busy)).heap[l]? =some (.loop busy):=World.putObj_heap_same hlA;have gw':(w'.putObj l (.loop busy)).heap[l]? =some (.loop busy):=World.putObj_heap_same hlw';have oA:∀b,b≠l->(A.putObj l (.loop busy)).heap[b]? =A.heap[b]? :=λb hb=>World.putObj_heap_other hb;have ow:∀b,b≠l->(w'.putObj l (.loop busy)).heap[b]? =w'.heap[b]? :=λb hb=>World.putObj_heap_other hb;have WL:¬Obj.plain (.loop rec):=λe=>e;have good2:κ2.Good P:=⟨λJ hJ=>(by cases hJ),λl' YR=>by cases YR;exact⟨busy,gA⟩⟩;have hlb:κ.base<=l:=ZaE hle hlw;have adv2:iW κ.W (R pre) L' (A.putObj l (.loop busy)) s1.objs L1 (w'.putObj l (.loop busy)):=by
    refine⟨⟨⟨by rw[hsA,zF];exact Er.keeps.size,λb c e fr hb hn=>?_⟩,λb hb=>?_,λb rr hb=>?_⟩,λb hb hw=>?_,Er.fix,Er.arr,Er.yl⟩
    ·have bG:b≠l:=by rintro rfl;rw[gA]at hb;cases hb
     rw[oA b bG]at hb;rw[ow b bG];exact Er.keeps.gU b c e fr hb hn
    ·have bG:b≠l:=by rintro rfl;rw[gA]at hb;cases hb
     rw[oA b bG]at hb;rw[ow b bG];exact Er.keeps.NL b hb
    ·by_cases bG:b=l
     ·subst bG;rw[gA]at hb;rw[gw'];exact hb
     ·rw[oA b bG]at hb;rw[ow b bG];exact Er.keeps.We b rr hb
    ·rw[hsA]at hb;exact Er.sub b hb hw
   have rel3:Rel κ2 nt s1 a' (w'.putObj l (.loop busy)) L1:=by
    obtain⟨W2,base2,M2,w02,W7,W8⟩:=Ou.r.ex;have hat2':=W7;obtain⟨e0,e1,e2,e3,e4⟩:=W7
    replace W8:R0 κ.base κ.W κ.M κ.w0 nt s1.tmps s1.objs a' w' L1:=by rw[e1,e2,e3,e4]at W8;exact W8
    have Cg:KeepsC (WW κ.W s1.objs L1) w' (w'.putObj l (.loop busy)):=⟨by rw[zF];exact Zae _,λb c e fr hb _=>lW qc WL b _ trivial hb⟩;obtain⟨Ds,d1,d2,d3,d4⟩:=Ou.r.defers;refine⟨⟨⟨κ.W,κ.base,κ.M,κ.w0,⟨e0,rfl,rfl,rfl,rfl⟩,W8.size,λt=>(mJ Cg (SizeOf.sizeOf (s1.tmps t)+1)).1 (s1.tmps t) _ (ZbV _) (W8.tmps t),uW W8.o qc WL hlb⟩,adv2,⟨Ds,d1,d2,λD hD=>?_,d4⟩,λ_=>by rw[hsA];exact hleA,Ou.r.fin⟩,Ou.fresh,Ou.low,λh=>by cases h⟩;have:=d3 D hD;refine⟨?_,by rw[hsA];exact this.2⟩;rw[ow D (by rintro rfl;rw[qc]at this;cases this.1)];exact this.1
   refine wpIn_mono (hbody.run z hz 0 κ2 a' _ L1 good2 rel3) ?_;rintro e a3 w3 ⟨s3,L3,⟨rfl,hLe⟩,rel4⟩;obtain⟨L4,rel5⟩:=hLe κ2 nt a3 w3 L3 rel4;have Es:=rel5.r.dZ;have hl3:w3.heap[l]? =some (.loop busy):=Es.keeps.We l busy gA;have hlw3:=(Zai.1 hl3).1;have Gy:=run_endRound (P:=P) none hl3;simp only[Option.isNone_none,if_true]at Gy;have hbr:({busy with state:=.ready,pending:=none}:Loop)=rec:=by rw[<-hrec]
   rw[hbr]at Gy;refine⟨_,_,Gy,rfl, ?_⟩;have hs3:(w3.putObj l (.loop rec)).heap.size=w3.heap.size:=by simp[World.putObj]
   have g3:(w3.putObj l (.loop rec)).heap[l]? =some (.loop rec):=World.putObj_heap_same hlw3;have o3:∀b,b≠l->(w3.putObj l (.loop rec)).heap[b]? =w3.heap[b]? :=λb hb=>World.putObj_heap_other hb;have hnb:¬Obj.plain (.loop busy):=λe=>e;have QQ:iW κ.W (R pre) L' A (R (pre++[x])) L4 (w3.putObj l (.loop rec)):=by
    refine⟨⟨⟨by rw[hs3];have:=Es.keeps.size;rw[hsA]at this;exact this,λb c e fr hb hn=>?_⟩,λb hb=>?_,λb rr hb=>?_⟩,λb hb hw=>?_,Es.fix,Es.arr,Es.yl⟩
    ·have bG:b≠l:=by rintro rfl;rw[h5]at hb;cases hb
     rw[o3 b bG];exact Es.keeps.gU b c e fr (by rw[oA b bG];exact hb) hn
    ·have bG:b≠l:=by rintro rfl;rw[h5]at hb;cases hb
     rw[o3 b bG];exact Es.keeps.NL b (by rw[oA b bG];exact hb)
    ·by_cases bG:b=l
     ·subst bG;rw[h5]at hb;rw[g3];exact hb
     ·rw[o3 b bG];exact Es.keeps.We b rr (by rw[oA b bG];exact hb)
    ·exact Es.sub b (by rw[hsA];exact hb) hw
   obtain⟨W5,base5,M5,w05,hat5,h05⟩:=rel5.r.ex;obtain⟨_,e1,e2,e3,e4⟩:=hat5
   replace h05:bK κ.base κ.W κ.M κ.w0 (R (pre++[x])) w3 L4:=by have:=h05.o;rw[e1,e2,e3,e4]at this;exact this
   have hO4:bK κ.base κ.W κ.M κ.w0 (R (pre++[x])) (w3.putObj l (.loop rec)) L4:=uW h05 hl3 hnb hlb;have hle4:κ.base<=(w3.putObj l (.loop rec)).heap.size:=ZaE hO4.fr.gZ hO4.fr.size;have hww4:∀b,WW κ.W (R (pre++[x])) L4 b->b<(w3.putObj l (.loop rec)).heap.size:=by
    rintro b (hb|⟨r',o',q1,q2⟩)
    ·have:=hO4.under b hb;omega
    ·exact(hO4.ob r' o' q1).lt q2
   have hAw:A.heap.size<=(w3.putObj l (.loop rec)).heap.size:=QQ.keeps.size;refine⟨λb=>Wk b\/WW κ.W (R (pre++[x])) L4 b,⟨pre++[x],L4,by rw[h1];simp,hO4,h3.comp QQ (λ_ h=>.inl h) (λ_ h=>h),λb hb=>.inr hb,g3,λD hD=>QQ.keeps.NL D (h6 D hD), ?_⟩,QQ.keeps.mono h4, ?_,λb hb=>.inl hb⟩
   ·rintro b (hb|hb)
    ·exact ZaQ (h7 b hb) hAw
    ·exact hww4 b hb
   ·rintro b (hb|hb)
    ·exact⟨ZaQ (h7 b hb) hAw,.inl hb⟩
    ·refine⟨hww4 b hb, ?_⟩;by_cases hlt':b<A.heap.size
     ·exact .inl (h4 b (QQ.sub b hlt' hb))
     ·exact .inr (by omega)
 obtain⟨pn,hA1⟩:=bK.grow h0.o Jf;have hJ1:J (WW κ.W st.objs L) Ep W1:=⟨[],L,rfl,by rw[hR0];exact pn,by rw[hR0];exact hA1,by rw[hR0];exact λb hb=>hb,wq,λD hD=>(hDs D hD).1,λb hb=>ZaQ (wJ b hb) Jf.size⟩;refine⟨l,Ds0.map mark,W1,{target:=.fn (.func f) vs,args:= #[.func (.yield l) #[] #[]]},W1,f, #[.func (.yield l) #[] #[]]++vs,W1,Am, ?_,λ_ _=>trivial, ?_,(λh=>by cases h), ?_⟩
 ·simp only[resolve,hgv,Deferred.ofValue];simp[Act.eval]
 ·simp[invoke,callFunc,hfnE,bG];intro lP;simp[lP]at FO
 ·refine dQ ((hit.run l J (WW κ.W st.objs L) W1 vs hYield hJ1 ?_ (λb hb=>ZaQ (wJ b hb) Jf.size) pn.gl).mono ?_)
  ·exact aP.aD (cb.F6 Jf.toBelow (W:=WW κ.W st.objs L)).toKeepsC (λ_ _ h=>h) _ _ CL
  ·rintro e B ⟨⟨v,rfl⟩,W',pre,L',h1,h2,h3,h4,h5,h6,h7⟩;have:pre=Ep:=by simpa using h1.symm
   subst this;refine⟨none,_,by have:=run_endLoop (P:=P) h5 (by rw[r1];simp);rw[r2]at this;exact this, ?_⟩;have hlB:=(Zai.1 h5).1
   let off:Loop:={rec with state:=.exhausted,pending:=none}
   have WL:¬Obj.plain (.loop rec):=λe=>e;have hlb:κ.base<=l:=ZaE hle hlw;have hsB:(B.putObj l (.loop off)).heap.size=B.heap.size:=by simp[World.putObj]
   have oB:∀b,b≠l->(B.putObj l (.loop off)).heap[b]? =B.heap[b]? :=λb hb=>World.putObj_heap_other hb;have Cg:KeepsC (WW κ.W (R pre) L') B (B.putObj l (.loop off)):=⟨by rw[hsB];exact Zae _,λb c e fr hb _=>lW h5 WL b _ trivial hb⟩;have hgw:=r.r.dZ.keeps.size;have advT:iW κ.W κ.go κ.gL κ.gw (R pre) L' (B.putObj l (.loop off)):=by
    have h:=r.r.dZ.comp h3 (λ_ h=>.inl h) (λ_ h=>h);refine⟨⟨⟨by rw[hsB];exact h.keeps.size,λb c e fr hb hn=>lW h5 WL b _ trivial (h.keeps.gU b c e fr hb hn)⟩,λb hb=>?_,λb rr hb=>?_⟩,h.sub,h.fix,h.arr,h.yl⟩
    ·rw[oB b (by have:=(Zai.1 hb).1;omega)];exact h.keeps.NL b hb
    ·rw[oB b (by have:=(Zai.1 hb).1;omega)];exact h.keeps.We b rr hb
   obtain⟨Ds,d1,d2,d3,d4⟩:=r.r.defers;refine⟨_,L',done,⟨⟨κ.W,κ.base,κ.M,κ.w0,dF,h0.size,λt=>(mJ Cg (SizeOf.sizeOf (st.tmps t)+1)).1 (st.tmps t) _ (ZbV _) (av.dZ h3 _ _ (h0.tmps t)),uW h2 h5 WL hlb⟩,advT,⟨Ds0++Ds,by rw[ZaO,<-d1], ?_,λD hD=>?_,λh=>by rw[hJ]at h;cases h⟩,r.r.bg,⟨st.nxt,hRf pre⟩⟩,hRf pre,r.low,r.it⟩
   ·rw[ZbP];refine⟨yX,d2,λD hD D' hD' e=>?_⟩;subst e;have k1:=(hDs D hD).2;have k2:=(Zai.1 (d3 D hD').1).1;omega
   ·rcases Zao.1 hD with hD|hD
    ·refine⟨?_,ZaE hgw (hDs D hD).2⟩;rw[oB D (hDl D hD)];exact h6 D hD
    ·refine⟨?_,(d3 D hD).2⟩;have k2:=(Zai.1 (d3 D hD).1).1;rw[oB D (by omega)];exact h3.keeps.NL D (d3 D hD).1
def finI:Exit->kV->Prop
 |.normal,st|.ret,st=>st.todo=[]
 |_,_=>False
def Gz(caps:List T)(Ep:List (List T)):kV:=⟨λk=>match k with|0=>.Cz|k+1=>yZ caps[k]?,λ_=>none,1000,0,Ep⟩
theorem aQ.okI{f:FuncId}{d:DC}(h:aQ P f nt d []){caps:List T}{Ep:List (List T)}(hlen:caps.length+1<=nt)(k:aa P nt d finI (Gz caps Ep)):ItOk P f caps Ep:=by
 have Am:=h.entry;obtain⟨fn,wi,rfl,h3,hr,_⟩:=h;obtain⟨c,hb,hc⟩:=Zab.1 h3;refine⟨Am,λl J W A vs hy hj eG hW hg=>?_⟩;have hl:=aP.length eG;simp only[ZaT]at hl;have uX:Rel ⟨W,λ_=>none,⟨λ_=>0,λ_=>Go.undef,l⟩,A,0,λ_=>False,A,some J,none⟩ fn.ntmps (Gz caps Ep) {tmps:=(#[.func (.yield l) #[] #[]]++vs)++Array.replicate (fn.ntmps-(#[Value.func (.yield l) #[] #[]]++vs).size) Go.undef,defers:=[]} A ⟨λ_=>0,λ_=>Go.undef,l⟩:=by
  refine⟨⟨⟨W,A.heap.size,λ_=>False,A,⟨hj,rfl,rfl,λb hb=>.inl hb,λb hb=>hb⟩,by simp;omega,λk=>?_,⟨Fr.refl (Zae _),(λr o h=>by cases h),(λr r' o o' b _ h=>by cases h),(λr o b h=>by cases h),hW,hg.start⟩⟩,
   iW.cd (cb.refl _ _),⟨[],rfl,ZbT,(λ_ h=>by cases h),λ_=>rfl⟩,(λh=>by cases h),⟨0,λ_ _=>rfl⟩⟩,λ_ _=>rfl,λ_ _=>rfl,λ_=>rfl⟩
  simp only[Gz];cases k with
  |zero=>simp only[av];exact oG (by simp)
  |succ k=>
   simp only;cases hk:caps[k]? with
   |some x=>
    obtain⟨v,hv,_,ji⟩:=aP.get eG hk;have pS:(#[Value.func (.yield l) #[] #[]]++vs).toList[k+1]? =some v:=by simpa using hv
    simp only[oG pS,yZ,av];refine aR.aD (cb.refl W A).toKeepsC ?_ x v ji;rintro b hb (h|⟨r,o,h,_⟩)
    ·exact h
    ·cases h
   |none=>
    have y9:(#[Value.func (.yield l) #[] #[]]++vs).size<=k+1:=by
     have:=ZbF.1 hk;simp;omega
    simp only[yZ,av,oH y9]
 refine callsIn_wide.1 (callsIn_of_wp_marks (n:=0) wi hb trivial ?_);refine wpIn_mono (k.run c hc 0 _ _ _ _ ⟨λJ' hJ=>by cases hJ;exact hy,λl hl=>(by cases hl)⟩ uX) ?_;rintro e a' w' ⟨dd,L',q,r'⟩;have done:dd.todo=[]->LeavesInM Fence.wide 0 P fn a'.tmps (λe B=>(∃v,e=.returned v)/\∃W',J W' [] B) a'.defers .returning w':=by
  intro hq;obtain⟨Ds,h1,h2,h3,h4⟩:=r'.r.defers;have hD0:=h4 rfl;subst hD0;rw[h1];obtain⟨W',Mr,M',w0',dF,h0⟩:=r'.r.ex;obtain⟨YA,rfl,rfl,_,_⟩:=dF;rw[show(⟨dd.tmps,dd.objs,dd.todo⟩:RS).todo=[]from hq]at YA;obtain⟨v,k1,_⟩:=qZ (st:=dd) h0 (lend:=true) (W':=λ_=>False) (λ_ _ _ _ _ _ h=>h) (λ_ h=>h.elim) hr ⟨(trivial:qY true dd []),rfl⟩;have fr:=h0.o.fr;exact⟨v,k1,⟨v,rfl⟩,W',hy.stays W' [] w0' w' YA ⟨⟨fr.os,fr.tape,fr.output,fr.size,λk hk=>fr.block k hk (λx=>x)⟩,fr.drawn⟩⟩
 cases e with
 |normal=>exact done q
 |ret=>exact done q
 |_=>exact q.elim
end
def gj(objs aA:aU)(σ:Nat->Nat)(tm:Nat->DV):List (Nat×DV)->Prop
 |[]=>True
 |(k,d)::l=>jg objs aA σ (tm k) d/\gj objs aA σ tm l
def tN(objs aA:aU)(σ:Nat->Nat):List (Nat×Ob)->Prop
 |[]=>True
 |(r,o)::l=>(∃o0,objs (σ r)=some o0/\lQ objs aA σ o0 o)/\tN objs aA σ l
def kH(n:Nat):List (Nat×Ob)->Prop
 |[]=>True
 |(r,_)::l=>r<n/\kH n l
def rj(n:Nat):List (Nat×Ob)->Prop
 |[]=>True
 |(r,_)::l=>n<=r/\rj n l
def Et(σ:Nat->Nat)(r:Nat):List (Nat×Ob)->Prop
 |[]=>True
 |(r',_)::l=>(σ r=σ r'->r=r')/\Et σ r l
def zh(σ:Nat->Nat):List (Nat×Ob)->Prop
 |[]=>True
 |(r,_)::l=>Et σ r l/\zh σ l
theorem lZ:∀{l:List (Nat×Ob)} {r:Nat} {o:Ob},cE l r=some o->(r,o)∈l
 |[],_,_,h=>by cases h
 |(j,x)::l,r,o,h=>by
  simp only[cE]at h;split at h
  ·rename_i e;cases h;subst e;exact Za4 ..
  ·exact ZaV _ (lZ h)
theorem Mz{l:List (Nat×Ob)}{r:Nat}(h:cE l r≠none):∃o,(r,o)∈l:=by
 cases ho:cE l r with
 |none=>exact absurd ho h
 |some o=>exact⟨o,lZ ho⟩
theorem kY{n:Nat}:∀{l:List (Nat×Ob)},kH n l->∀r o,(r,o)∈l->r<n
 |[],_,_,_,h=>by cases h
 |(j,x)::l,hk,r,o,h=>by
  rcases Zag.1 h with e|h
  ·cases e;exact hk.1
  ·exact kY hk.2 r o h
theorem u7{n:Nat}:∀{l:List (Nat×Ob)},rj n l->∀r o,(r,o)∈l->n<=r
 |[],_,_,_,h=>by cases h
 |(j,x)::l,hk,r,o,h=>by
  rcases Zag.1 h with e|h
  ·cases e;exact hk.1
  ·exact u7 hk.2 r o h
theorem po{objs aA:aU}{σ:Nat->Nat}:∀{l:List (Nat×Ob)},tN objs aA σ l->∀r o,(r,o)∈l->∃o0,objs (σ r)=some o0/\lQ objs aA σ o0 o
 |[],_,_,_,h=>by cases h
 |(j,x)::l,hk,r,o,h=>by
  rcases Zag.1 h with e|h
  ·cases e;exact hk.1
  ·exact po hk.2 r o h
theorem tO{σ:Nat->Nat}{r:Nat}:∀{l:List (Nat×Ob)},Et σ r l->∀r' o,(r',o)∈l->σ r=σ r'->r=r'
 |[],_,_,_,h=>by cases h
 |(j,x)::l,hk,r',o,h=>by
  rcases Zag.1 h with e|h
  ·cases e;exact hk.1
  ·exact tO hk.2 r' o h
theorem yn{σ:Nat->Nat}:∀{l:List (Nat×Ob)},zh σ l->∀r1 r2 o1 o2,(r1,o1)∈l->(r2,o2)∈l->σ r1=σ r2->r1=r2
 |[],_,_,_,_,_,h,_=>by cases h
 |(j,x)::l,hk,r1,r2,o1,o2,h1,h2=>by
  rcases Zag.1 h1 with e1|h1
  ·cases e1;rcases Zag.1 h2 with e2|h2
   ·cases e2;exact λ_=>rfl
   ·exact tO hk.1 r2 o2 h2
  ·rcases Zag.1 h2 with e2|h2
   ·cases e2;exact λe=>(tO hk.1 r1 o1 h1 e.symm).symm
   ·exact yn hk.2 r1 r2 o1 o2 h1 h2
@[simp] theorem Xg(σ:Nat->Nat)(r:Nat):gone (cE []) σ r:=λr' h=>by simp[cE]at h
theorem QR{σ:Nat->Nat}{r j:Nat}{o:Ob}{l:List (Nat×Ob)}(h1:σ j≠r)(h2:gone (cE l) σ r):gone (cE ((j,o)::l)) σ r:=by
 intro r' fa;by_cases hj:r'=j
 ·subst hj;exact h1
 ·exact h2 r' (by rw[dm,if_neg hj]at fa;exact fa)
theorem rl{objs aA:aU}{σ:Nat->Nat}{tm:Nat->DV}:∀(l:List (Nat×DV)),gj objs aA σ tm l->∀k,jg objs aA σ (tm k) (look l k)
 |[],_,k=>by
  show jg objs aA σ (tm k) .undef;cases tm k<;>simp[jg]
 |(j,d)::l,h,k=>by
  simp only[look];split
  ·rename_i e;subst e;exact h.1
  ·exact rl l h.2 k
theorem Le.corL{tm:Nat->DV}{o0 o:List (Nat×Ob)}{l:List (Nat×DV)}{nxt nxt':Nat}{td:List (List T)}{low:Nat}(σ:Nat->Nat)(wo:rj low o0)(hk:kH nxt' o)(ha:zh σ o)
  (fE:tN (cE o0) (cE o) σ o) (iX:gj (cE o0) (cE o) σ tm l):Le ⟨tm,cE o0,nxt,low,td⟩ ⟨look l,cE o,nxt',low,td⟩:=by
 refine Le.cor σ rfl rfl (λr hr=>?_) (λr' o' h=>po fE r' o' (lZ h)) (λr1 r2 h1 h2 e=>?_) (λr hr o' h=>?_) (λk=>rl l iX k)
 ·cases ho:cE o r with
  |none=>exact ho
  |some x=>have:=kY hk r x (lZ ho);simp only at hr;omega
 ·obtain⟨x1,k1⟩:=Mz h1;obtain⟨x2,k2⟩:=Mz h2;exact yn ha r1 r2 x1 x2 k1 k2 e
 ·have:=u7 wo r o' (lZ h);simp only at hr;omega
theorem Le.aD{tm:Nat->DV}{o0 o:List (Nat×Ob)}{l:List (Nat×DV)}{nxt nxt':Nat}{td:List (List T)}{low:Nat}(wo:rj low o0)(hk:kH nxt' o)
  (fE:tN (cE o0) (cE o) id o) (iX:gj (cE o0) (cE o) id tm l):Le ⟨tm,cE o0,nxt,low,td⟩ ⟨look l,cE o,nxt',low,td⟩:=by
 refine Le.corL id wo hk ?_ fE iX;clear hk fE iX;induction o with
 |nil=>trivial
 |cons p o ih=>
  refine⟨?_,ih⟩;clear ih;induction o with
  |nil=>trivial
  |cons q o ih=>exact⟨λh=>h,ih⟩
attribute [simp] gj tN kH rj Et zh jg jy QK QM Mx My Eo lQ
def fO(tm:Nat->DV):List (Nat×DV)->Prop
 |[]=>True
 |(k,d)::l=>tm k=d/\fO tm l
theorem AB{tm:Nat->DV}:∀{l:List (Nat×DV)},fO tm l->∀k,look l k=.undef\/look l k=tm k
 |[],_,_=>.inl rfl
 |(j,d)::l,h,k=>by
  simp only[look];split
  ·rename_i e;subst e;exact .inr h.1.symm
  ·exact AB h.2 k
section
variable{P:Program}{nt:Nat}{Γ:Env}{Q:Exit->kV->Prop}{tm:Nat->DV}{ob:aU}{nxt low:Nat}{td:List (List T)}
theorem aa.YS(ay:aw P Γ)(hm:P.follows .mixedOrders=true){draw:Bool}{rs:List RO}(l:List (Nat×DV))(ob':aU)
  (h:exec Γ nxt rs ⟨tm,ob,td⟩ λs=>fO s.tmps l/\s.objs=ob'/\s.todo=td) (k:Q .normal ⟨look l,ob',nxt+nt+1,low,td⟩):aa P nt (.region draw rs) Q ⟨tm,ob,nxt,low,td⟩:=by
 obtain⟨h1,h2,h3,h4⟩:=eJ _ _ _ h;refine aa.uU (Q:=λe s=>e=.normal/\s=⟨(cM Γ nxt rs ⟨tm,ob,td⟩).tmps,(cM Γ nxt rs ⟨tm,ob,td⟩).objs,nxt+nt+1,low,(cM Γ nxt rs ⟨tm,ob,td⟩).todo⟩) (aa.region ay hm (st:=⟨tm,ob,nxt,low,td⟩) h1 ⟨rfl,rfl⟩) ?_;rintro e s ⟨rfl,rfl⟩;refine⟨_,Le.uZ (AB h2), ?_⟩;simp only[h3,h4];exact k
theorem aa.QS(ay:aw P Γ)(hm:P.follows .mixedOrders=true){draw:Bool}{rs:List RO}{b:DC}(l:List (Nat×DV))(ob':aU)
  (h:exec Γ nxt rs ⟨tm,ob,td⟩ λs=>fO s.tmps l/\s.objs=ob'/\s.todo=td) (k:aa P nt b Q ⟨look l,ob',nxt+nt+1,low,td⟩):aa P nt (.seq (.region draw rs) b) Q ⟨tm,ob,nxt,low,td⟩:=
 aa.seq (aa.YS ay hm l ob' h k)
theorem aa.bZ(ay:aw P Γ)(hm:P.follows .mixedOrders=true){draw:Bool}{rs:List RO}{b:DC}(l:List (Nat×DV))
  (h:exec Γ nxt rs ⟨tm,ob,td⟩ λs=>fO s.tmps l/\s.objs=ob/\s.todo=td) (k:aa P nt b Q ⟨look l,ob,nxt+nt+1,low,td⟩):aa P nt (.seq (.region draw rs) b) Q ⟨tm,ob,nxt,low,td⟩:=
 aa.QS ay hm l ob h k
theorem aa.to{d:DC}{st:kV}(st2:kV)(h:aa P nt d (λe s=>e=.normal/\Le s st2) st)(k:Q .normal st2):aa P nt d Q st:=
 aa.uU h λe s ⟨h1,h2⟩=>by subst h1;exact⟨st2,h2,k⟩
end
attribute [simp] fO
end Go.DM
namespace Go.DM
open Go.RowKit
variable [Laid]
section
variable{P:Program}{nt:Nat}{Γ:Env}{Q:Exit->kV->Prop}{tm:Nat->DV}{ob:aU}{nxt low:Nat}{td:List (List T)}
theorem aa.Eu(ay:aw P Γ)(hm:P.follows .mixedOrders=true){draw:Bool}{rs:List RO}(l:List (Nat×DV))
  (h:exec Γ nxt rs ⟨tm,ob,td⟩ λs=>fO s.tmps l/\s.objs=ob/\s.todo=td) (k:Q .normal ⟨look l,ob,nxt+nt+1,low,td⟩):aa P nt (.region draw rs) Q ⟨tm,ob,nxt,low,td⟩:=
 aa.YS ay hm l ob h k
end
theorem CW:∀(ts:List T) (i k:Nat),look (((ts.map .v).zipIdx i).map λp=>(p.2,p.1)) k=.undef\/look (((ts.map .v).zipIdx i).map λp=>(p.2,p.1)) k=yZ (if i<=k then ts[k-i]? else none)
 |[],i,k=>.inl rfl
 |t::ts,i,k=>by
  simp only[Zau,Zb6,mh];split
  ·rename_i h;subst h;exact .inr (by simp[yZ])
  ·rename_i h;rcases CW ts (i+1) k with e|e
   ·exact .inl e
   ·right;rw[e];by_cases hk:i+1<=k
    ·rw[if_pos hk,if_pos (by omega),show k-i=(k-(i+1))+1 by omega,ZaW]
    ·have:¬i<=k:=by omega
     rw[if_neg hk,if_neg this]
theorem Ov{P:Program}{nt:Nat}{d:DC}{Q:Exit->kV->Prop}{caps:List T}{Ep:List (List T)}
  (h:aa P nt d Q ⟨look ((0,.Cz)::((caps.map .v).zipIdx 1).map λp=>(p.2,p.1)),cE [],1000,0,Ep⟩):aa P nt d Q (Gz caps Ep):=by
 refine aa.le (Le.trans (Le.uZ (st:=Gz caps Ep) (tm:=look ((0,.Cz)::((caps.map .v).zipIdx 1).map λp=>(p.2,p.1))) λk=>?_) (λκ nt a w L r=>⟨L,r⟩)) h;simp only[mh];split
 ·rename_i e;subst e;exact .inr rfl
 ·rename_i e;rcases CW caps 1 k with h|h
  ·exact .inl h
  ·rw[h];have:1<=k:=by omega
   rw[if_pos this];obtain⟨j,rfl⟩:∃j,k=j+1:=⟨k-1,by omega⟩;exact .inr rfl
def cZ(f:aU)(r:Nat)(o:Ob):aU:=λk=>if k=r then some o else f k
theorem JY(f:aU)(r:Nat)(o:Ob)(k:Nat):cZ f r o k=if k=r then some o else f k:=rfl
@[simp] theorem putO_setO(f:aU)(r:Nat)(o o':Ob):bR (cZ f r o) (some (r,o'))=cZ f r o':=by
 funext k;simp only[CS,cZ];split<;>rfl
@[simp] theorem setO_setO(f:aU)(r:Nat)(o o':Ob):cZ (cZ f r o) r o'=cZ f r o':=by
 funext k;simp only[cZ];split<;>rfl
theorem si{f:aU}{r:Nat}{o o':Ob}(h:f r=some o){k:Nat}(hk:f k=none):cZ f r o' k=none:=by
 simp only[cZ];split
 ·rename_i e;rw[e,h]at hk;cases hk
 ·exact hk
theorem Le.same{tm:Nat->DV}{ob:aU}{nxt nxt' low:Nat}{td:List (List T)}{l:List (Nat×DV)}(h:∀r,nxt'<=r->ob r=none)(hl:fO tm l):Le ⟨tm,ob,nxt,low,td⟩ ⟨look l,ob,nxt',low,td⟩:=
 Le.trans (Le.uZ (AB hl)) λκ nt a w L r=>⟨L,⟨r.r,h,r.low,r.it⟩⟩
theorem AD:∀(ds:List DV) (i k:Nat),look ((ds.zipIdx i).map λp=>(p.2,p.1)) k=.undef\/look ((ds.zipIdx i).map λp=>(p.2,p.1)) k=JP (if i<=k then ds[k-i]? else none)
 |[],i,k=>.inl rfl
 |t::ts,i,k=>by
  simp only[Zau,Zb6,mh];split
  ·rename_i h;subst h;exact .inr (by simp[JP])
  ·rename_i h;rcases AD ts (i+1) k with e|e
   ·exact .inl e
   ·right;rw[e];by_cases hk:i+1<=k
    ·rw[if_pos hk,if_pos (by omega),show k-i=(k-(i+1))+1 by omega,ZaW]
    ·have:¬i<=k:=by omega
     rw[if_neg hk,if_neg this]
theorem CX{P:Program}{nt:Nat}{d:DC}{Q:Exit->kV->Prop}{args:List DV}{objs:aU}{N:Nat}(h:aa P nt d Q ⟨look (args.zipIdx.map λp=>(p.2,p.1)),objs,N,N,[]⟩):aa P nt d Q (yh args objs N):=by
 refine aa.le (Le.uZ (st:=yh args objs N) (tm:=look (args.zipIdx.map λp=>(p.2,p.1))) λk=>?_) h;have:=AD args 0 k;simpa [yh]using this
@[simp] theorem QT(ob:aU):∀x:List T,gK ob (x.map .v)=x
 |[]=>rfl
 |t::x=>by simp[QT ob x]
@[simp] theorem setO_get(f:aU)(r:Nat)(o:Ob):cZ f r o r=some o:=by simp[cZ]
theorem aY.of{P:Program}{f:FuncId}{args:List DV}{objs:aU}{r r':iu}(h:aY P f args objs r)(h1:r'.objs=r.objs)(h2:r'.val=r.val):aY P f args objs r':=by
 obtain⟨ok,val,ob⟩:=r;obtain⟨ok',val',ob'⟩:=r';simp only at h1 h2;subst h1 h2;exact⟨h.entry,h.run⟩
end Go.DM
namespace Go.DM
open Go.RowKit
variable [Laid]
def Loc.at(L:Loc)(q:Nat)(x:Value):Loc:=⟨L.gU,λk=>if k=q then x else L.sl k,L.yl⟩
section
variable{base:Nat}{W M:Nat->Prop}{w0 w:World}{objs:aU}{L:Loc}
theorem dK{f:aU}{q:Nat}{o o':Ob}{r:Nat}(h:cZ f q o r=some o'):(r=q/\o'=o)\/(r≠q/\f r=some o'):=by
 simp only[cZ]at h;split at h
 ·rename_i e;exact .inl ⟨e,(ZbK h).symm⟩
 ·rename_i e;exact .inr ⟨e,h⟩
theorem kZ{f:aU}{q:Nat}{o o':Ob}{r:Nat}(h:r≠q)(k:f r=some o'):cZ f q o r=some o':=by
 simp only[cZ,if_neg h,k]
theorem Ev{q:Nat}{x:Value}{r:Nat}{o:Ob}(h:r≠q):(L.at q x).own r o=L.own r o:=by
 cases o<;>simp[Loc.own,Loc.at,h]
theorem zi{q:Nat}{a:Option Addr}{v e sz:Nat}{rows:List (List T)}:(L.at q (.slice a 0 0)).own q (.arr v e sz rows)=none:=by
 cases a<;>simp[Loc.own,Loc.at,aO]
theorem QU{q:Nat}{a:Option Addr}{e sz:Nat}{b:Nat}(h:WW W (cZ objs q (.arr 0 e sz [])) (L.at q (.slice a 0 0)) b):WW W objs L b:=by
 rcases h with h|⟨r,o,hr,hb⟩
 ·exact .inl h
 ·rcases dK hr with⟨rfl,rfl⟩|⟨bG,hr⟩
  ·rw[zi]at hb;cases hb
  ·rw[Ev bG]at hb;exact .inr ⟨r,o,hr,hb⟩
theorem Ew{q:Nat}{a:Option Addr}{e sz:Nat}(hq:objs q=none):iW W objs L w (cZ objs q (.arr 0 e sz [])) (L.at q (.slice a 0 0)) w:=by
 refine⟨cb.refl _ _,λb _ h=>QU h,λr o hr hk=>?_,λr ver e' fW rows hr=>?_,rfl⟩
 ·have bG:r≠q:=λh=>by rw[h,hq]at hr;cases hr
  exact⟨rfl,o,kZ bG hr,rfl⟩
 ·have bG:r≠q:=λh=>by rw[h,hq]at hr;cases hr
  exact⟨ver,e',fW,rows,kZ bG hr,Zae _,λ_=>⟨by simp[Loc.at,bG],rfl,rfl⟩⟩
theorem GB(hO:bK base W M w0 objs w L){q:Nat}{a:Option Addr}{e sz:Nat}(gv:0<sz)(hq:objs q=none):bK base W M w0 (cZ objs q (.arr 0 e sz [])) w (L.at q (.slice a 0 0)):=by
 have hA:=Ew (W:=W) (w:=w) (L:=L) (a:=a) (e:=e) (sz:=sz) hq;refine⟨hO.fr,λr o hr=>?_,λr r' o o' b bG h1 h2 hb=>?_,λr o b hr hb=>?_,hO.under,hO.gl.aD hA.keeps.toKeepsC hA.sub⟩
 ·rcases dK hr with⟨rfl,rfl⟩|⟨bG,hr⟩
  ·refine⟨gv,λx hx=>(by cases hx),λg hg=>?_,.inl ⟨rfl,a,by simp[Loc.at]⟩⟩;exfalso;simp only[Loc.at,if_true]at hg;cases a<;>simp[aO]at hg
  ·have hk:=hO.ob r o hr;cases o with
   |box cs=>
    obtain⟨c,f,bM,eG,hm⟩:=hk;exact⟨c,f,bM,aK.dZ hA cs _ eG,hm⟩
   |map shs agg c es=>
    obtain⟨arr,bM,eG,q1,q2,q3,hm⟩:=hk;exact⟨arr,bM,bj.dZ hA es _ eG,q1,q2,q3,hm⟩
   |iter m s sn l=>
    obtain⟨bM,Jb,hm⟩:=hk;exact⟨bM,(hA.mp m Jb).2,hm⟩
   |arr ver e' fW rows=>
    obtain⟨g1,g2,g3,g4⟩:=hk;have hs:(L.at q (.slice a 0 0)).sl r=L.sl r:=by simp[Loc.at,bG]
    refine⟨g1,g2,by rw[hs];exact g3, ?_⟩;rw[hs];rcases g4 with g4|⟨g,cap,cur,hv,hp,hh,k1,k2,k3,k4⟩
    ·exact .inl g4
    ·exact .inr ⟨g,cap,cur,hv,hp,hh,k1,k2,k3,aP.aD (cb.refl (WW W objs L) w).toKeepsC (λb _ hb=>QU hb) _ _ k4⟩
 ·rcases dK h1 with⟨rfl,rfl⟩|⟨n1,h1⟩
  ·rw[zi]at hb;cases hb
  ·rw[Ev n1]at hb;rcases dK h2 with⟨rfl,rfl⟩|⟨n2,h2⟩
   ·rw[zi];exact λh=>by cases h
   ·rw[Ev n2];exact hO.apart r r' o o' b bG h1 h2 hb
 ·rcases dK hr with⟨rfl,rfl⟩|⟨n1,hr⟩
  ·rw[zi]at hb;cases hb
  ·rw[Ev n1]at hb;exact hO.outer r o b hr hb
end
theorem Le.l7{tm:Nat->DV}{ob:aU}{nxt low:Nat}{td:List (List T)}{k:Nat}(e:Nat){sz:Nat}(gv:0<sz)(hk:tm k=.aI):
  Le ⟨tm,ob,nxt,low,td⟩ ⟨b7 tm (some k) (.bk nxt 0),cZ ob nxt (.arr 0 e sz []),nxt+1,low,td⟩:=by
 intro κ nt a w L h;have hq:ob nxt=none:=h.fresh nxt (Zae _);obtain⟨W,base,M,w0,dF,h0⟩:=h.r.ex;have hx:=h0.tmps k;simp only[hk,av]at hx;obtain⟨ad,hx⟩:=hx;have hA:=Ew (W:=W) (w:=w) (L:=L) (a:=ad) (e:=e) (sz:=sz) hq;have oF:=dF.sub;have we:∀r,nxt+1<=r->cZ ob nxt (.arr 0 e sz []) r=none:=λr hr=>by
  simp only[cZ];rw[if_neg (by omega)];exact h.fresh r (by simp only;omega)
 refine⟨L.at nxt (.slice ad 0 0),⟨⟨W,base,M,w0,dF,h0.size,λt=>?_,GB h0.o gv hq⟩,iW.comp h.r.dZ hA oF.1 oF.2,h.r.defers,h.r.bg,⟨_,we⟩⟩,we,h.low,h.it⟩;simp only[b7];by_cases ht:t=k
 ·subst ht;simp only[if_true,av];refine⟨⟨ad,0,0,hx⟩,0,e,sz,[],by simp,Zae _,λ_=>?_⟩;rw[hx];simp[Loc.at]
 ·simp only[ht,if_false];exact av.dZ hA _ _ (h0.tmps t)
theorem wR{w:World}{W:Nat->Prop}{objs:aU}{L:Loc}:∀(cs:List DV) (xs:List Value) (k:Nat) (d:DV),aK w W objs L cs xs->(∀x,xs[k]? =some x->av w W objs L d x)->aK w W objs L (cs.set k d) xs
 |[],xs,k,d,h,_=>by simpa using h
 |c::cs,xs,0,d,h,hd=>by
  simp only[aK]at h;obtain⟨x,jI,rfl,h1,h2,h3⟩:=h;simp only[Zcd,aK];exact⟨x,jI,rfl,h1,hd x (by simp),h3⟩
 |c::cs,xs,k+1,d,h,hd=>by
  simp only[aK]at h;obtain⟨x,jI,rfl,h1,h2,h3⟩:=h;simp only[Zcy,aK];exact⟨x,jI,rfl,h1,h2,wR cs jI k d h3 λy hy=>hd y (by simpa using hy)⟩
theorem wS{w:World}{W:Nat->Prop}{objs:aU}{L:Loc}:∀(cs:List DV) (xs:List Value) (k:Nat) (d:DV) (x:Value),aK w W objs L cs xs->cs[k]? =some d->xs[k]? =some x->av w W objs L d x
 |[],xs,k,d,x,h,hk,_=>by simp at hk
 |c::cs,xs,0,d,x,h,hk,hx=>by
  simp only[aK]at h;obtain⟨y,jI,rfl,h1,h2,h3⟩:=h;simp only[ZaG,Zaa]at hk hx;subst hk hx;exact h2
 |c::cs,xs,k+1,d,x,h,hk,hx=>by
  simp only[aK]at h;obtain⟨y,jI,rfl,h1,h2,h3⟩:=h;simp only[ZaW]at hk hx;exact wS cs jI k d x h3 hk hx
theorem tP{w:World}{W:Nat->Prop}{objs:aU}{L:Loc}:∀(cs:List DV) (xs:List Value) (k:Nat) (d:DV),aK w W objs L cs xs->cs[k]? =some d->∃x,xs[k]? =some x
 |[],xs,k,d,h,hk=>by simp at hk
 |c::cs,xs,0,d,h,hk=>by
  simp only[aK]at h;obtain⟨y,jI,rfl,h1,h2,h3⟩:=h;exact⟨y,by simp⟩
 |c::cs,xs,k+1,d,h,hk=>by
  simp only[aK]at h;obtain⟨y,jI,rfl,h1,h2,h3⟩:=h;simp only[ZaW]at hk;obtain⟨x,hx⟩:=tP cs jI k d h3 hk;exact⟨x,by simpa using hx⟩
theorem Le.MA{tm:Nat->DV}{ob:aU}{nxt low:Nat}{td:List (List T)}(r:Nat)(k:Nat){cs:List DV}(e:Nat){sz:Nat}(gv:0<sz)(hr:ob r=some (.box cs))(hk:cs[k]? =some .aI):
  Le ⟨tm,ob,nxt,low,td⟩ ⟨tm,cZ (cZ ob nxt (.arr 0 e sz [])) r (.box (cs.set k (.bk nxt 0))),nxt+1,low,td⟩:=by
 intro κ nt a w L h;have hq:ob nxt=none:=h.fresh nxt (Zae _);have hrq:r≠nxt:=λe=>by rw[e,hq]at hr;cases hr
 have hrlt:r<nxt:=ZbW λhle=>by have:=h.fresh r hle;simp only at this;rw[this]at hr;cases hr
 obtain⟨W,base,M,w0,dF,h0⟩:=h.r.ex;have hO:=h0.o;obtain⟨c,f,bM,eG,hm⟩:=hO.ob r _ hr;obtain⟨x,hx⟩:=tP _ _ _ _ eG hk;have B9:=wS _ _ _ _ _ eG hk hx;simp only[av]at B9;obtain⟨ad,hxa⟩:=B9;have hA:=Ew (W:=W) (w:=w) (L:=L) (a:=ad) (e:=e) (sz:=sz) hq;have pn:=GB (a:=ad) (e:=e) hO gv hq;obtain⟨o1,GC⟩:∃o1,cZ ob nxt (.arr 0 e sz [])=o1:=⟨_,rfl⟩;obtain⟨L1,Ow⟩:∃L1,L.at nxt (.slice ad 0 0)=L1:=⟨_,rfl⟩;have lO:o1 r=some (.box cs):=by rw[<-GC];exact kZ hrq hr
 rw[GC,Ow]at hA pn;have wJ:∀{V:Nat->Prop} b,WW V (cZ o1 r (.box (cs.set k (.bk nxt 0)))) L1 b->WW V o1 L1 b:=by
  intro V b hb;rcases hb with hb|⟨r',o,fa,hb⟩
  ·exact .inl hb
  ·rcases dK fa with⟨rfl,rfl⟩|⟨_,fa⟩
   ·exact .inr ⟨r',_,lO,hb⟩
   ·exact .inr ⟨r',o,fa,hb⟩
 have tK:iW W o1 L1 w (cZ o1 r (.box (cs.set k (.bk nxt 0)))) L1 w:=by
  refine⟨cb.refl _ _,λb _ h=>wJ b h,λr' o' fa sQ=>?_,λr' ver e' fW rows fa=>?_,rfl⟩
  ·by_cases he:r'=r
   ·subst he;rw[lO]at fa;cases fa;exact⟨rfl,.box (cs.set k (.bk nxt 0)),by simp[cZ],rfl⟩
   ·exact⟨rfl,o',kZ he fa,rfl⟩
  ·have he:r'≠r:=λhe=>by rw[he,lO]at fa;cases fa
   exact⟨ver,e',fW,rows,kZ he fa,Zae _,λ_=>⟨rfl,rfl,rfl⟩⟩
 have Ms:bK base W M w0 (cZ o1 r (.box (cs.set k (.bk nxt 0)))) w L1:=by
  refine⟨pn.fr,λr' o fa=>?_,λp p' o o' b bG h1 h2 hb=>?_,λp o b hp hb=>?_,pn.under,pn.gl.aD tK.keeps.toKeepsC tK.sub⟩
  ·rcases dK fa with⟨rfl,rfl⟩|⟨bG,fa⟩
   ·refine⟨c,f,by rw[<-Ow];exact bM,wR _ _ _ _ (aK.dZ tK _ _ (aK.dZ hA _ _ eG)) λy hy=>?_,by rw[<-Ow];exact hm⟩;rw[hx]at hy;cases hy;simp only[av];refine⟨⟨ad,0,0,hxa⟩,0,e,sz,[],kZ (Ne.symm hrq) (by rw[<-GC];simp),Zae _,λ_=>?_⟩;rw[hxa,<-Ow];simp[Loc.at]
   ·have sQ:=pn.ob r' o fa;cases o with
    |box qH=>
     obtain⟨c',f',AF,AG,D4⟩:=sQ;exact⟨c',f',AF,aK.dZ tK qH _ AG,D4⟩
    |map shs agg c es=>
     obtain⟨arr,AF,AG,q1,q2,q3,D4⟩:=sQ;exact⟨arr,AF,bj.dZ tK es _ AG,q1,q2,q3,D4⟩
    |iter m s sn l=>
     obtain⟨AF,Jb,D4⟩:=sQ;exact⟨AF,(tK.mp m Jb).2,D4⟩
    |arr ver e' fW rows=>
     obtain⟨g1,g2,g3,g4⟩:=sQ;refine⟨g1,g2,g3, ?_⟩;rcases g4 with g4|⟨g,cap,cur,hv,hp,hh,k1,k2,k3,k4⟩
     ·exact .inl g4
     ·exact .inr ⟨g,cap,cur,hv,hp,hh,k1,k2,k3,aP.aD (cb.refl (WW W o1 L1) w).toKeepsC (λb _ hb=>wJ b hb) _ _ k4⟩
  ·have key:∀{p o},cZ o1 r (.box (cs.set k (.bk nxt 0))) p=some o->∃o2,o1 p=some o2/\L1.own p o=L1.own p o2:=by
    intro p o hp;rcases dK hp with⟨rfl,rfl⟩|⟨_,hp⟩
    ·exact⟨_,lO,rfl⟩
    ·exact⟨o,hp,rfl⟩
   obtain⟨x1,y1,z1⟩:=key h1;obtain⟨x2,y2,z2⟩:=key h2;rw[z1]at hb;rw[z2];exact pn.apart p p' x1 x2 b bG y1 y2 hb
  ·rcases dK hp with⟨rfl,rfl⟩|⟨_,hp⟩
   ·exact pn.outer p _ b lO hb
   ·exact pn.outer p o b hp hb
 have oF:=dF.sub;have we:∀r',nxt+1<=r'->cZ o1 r (.box (cs.set k (.bk nxt 0))) r'=none:=λr' fa=>by
  rw[<-GC];simp only[cZ];rw[if_neg (by omega),if_neg (by omega)];exact h.fresh r' (by simp only;omega)
 rw[GC];exact⟨L1,⟨⟨W,base,M,w0,dF,h0.size,λt=>av.dZ tK _ _ (av.dZ hA _ _ (h0.tmps t)),Ms⟩,iW.comp (iW.comp h.r.dZ hA oF.1 oF.2) tK oF.1 oF.2,h.r.defers,h.r.bg,⟨_,we⟩⟩,we,h.low,h.it⟩
@[simp] theorem vf:look []=λ_=>DV.undef:=by funext k;rfl
def AH:Option Ob->Option Ob->Prop
 |some a,some b=>gR a b
 |_,_=>False
def zj(low:Nat)(o0 o:aU):List (Nat×Ob)->Prop
 |[]=>True
 |(r,_)::l=>(r<low->AH (o0 r) (o r))/\zj low o0 o l
theorem yu{low:Nat}{o0 o:aU}:∀{l:List (Nat×Ob)},zj low o0 o l->∀r x,(r,x)∈l->r<low->AH (o0 r) (o r)
 |[],_,_,_,h=>by cases h
 |(r,x)::l,h,r',x',hm=>by
  rcases Zag.1 hm with e|hm
  ·cases e;exact h.1
  ·exact yu h.2 r' x' hm
theorem Le.zk{tm:Nat->DV}{o0 o:List (Nat×Ob)}{l:List (Nat×DV)}{nxt nxt':Nat}{td:List (List T)}{low:Nat}(wo:zj low (cE o0) (cE o) o0)(hk:kH nxt' o)
  (fE:tN (cE o0) (cE o) id o) (iX:gj (cE o0) (cE o) id tm l):Le ⟨tm,cE o0,nxt,low,td⟩ ⟨look l,cE o,nxt',low,td⟩:=by
 refine Le.cor id rfl rfl (λr hr=>?_) (λr' o' h=>po fE r' o' (lZ h)) (λr1 r2 h1 h2 e=>e) (λr hr o' h=>?_) (λk=>rl l iX k)
 ·cases ho:cE o r with
  |none=>exact ho
  |some x=>have:=kY hk r x (lZ ho);simp only at hr;omega
 ·have:=yu wo r o' (lZ h) hr;simp only at h⊢;rw[h]at this;refine⟨rfl, ?_⟩;cases ho:cE o r with
  |none=>rw[ho]at this;exact this.elim
  |some x=>rw[ho]at this;exact⟨x,rfl,this⟩
attribute [simp] zj AH gR
@[simp] theorem gone_cons{σ:Nat->Nat}{r j:Nat}{o:Ob}{l:List (Nat×Ob)}:gone (cE ((j,o)::l)) σ r↔σ j≠r/\gone (cE l) σ r:=by
 refine⟨λh=>⟨h j (by simp),λr' fa=>h r' (by simp only[dm];split<;>simp[fa])⟩,λh=>QR h.1 h.2⟩
@[simp] theorem gone_nil{σ:Nat->Nat}{r:Nat}:gone (cE []) σ r:=λr' h=>absurd rfl h
end Go.DM
namespace Go.DM
open Go.RowKit
variable [Laid]
def over:List (Nat×Ob)->aU->aU
 |[],f=>f
 |(r,o)::l,f=>λk=>if k=r then some o else over l f k
@[simp] theorem bL(r:Nat)(o:Ob)(l:List (Nat×Ob))(f:aU)(k:Nat):over ((r,o)::l) f k=if k=r then some o else over l f k:=rfl
@[simp] theorem eL(f:aU)(k:Nat):over [] f k=f k:=rfl
@[simp] theorem Oy(l:List (Nat×Ob))(f:aU)(r:Nat)(o:Ob):bR (over l f) (some (r,o))=over ((r,o)::l) f:=rfl
theorem kI(l:List (Nat×Ob))(f:aU)(r:Nat)(o:Ob):cZ (over l f) r o=over ((r,o)::l) f:=rfl
def bF:Ob->List Nat
 |.box cs=>bJ cs
 |.arr _ _ _ _=>[]
 |.map _ _ _ es=>es.flatMap λe=>names e.2.2
 |.iter m _ _ _=>[m]
def dL(f:aU)(n:Nat):Prop:=∀r o,f r=some o->r<n/\∀m∈bF o,f m≠none
section
variable{base:Nat}{W M:Nat->Prop}{w0 w:World}{objs aA:aU}{L:Loc}
theorem C3(hO:bK base W M w0 objs w L){N:Nat}(hN:∀r,N<=r->objs r=none):dL objs N:=by
 intro r o hr;refine⟨ZbW (λh=>by rw[hN r h]at hr;cases hr),λm hm=>?_⟩;have fE:=hO.ob r o hr;cases o with
 |box cs=>obtain⟨c,e,_,h,_⟩:=fE;exact eo.names cs (eo.bq cs _ h) m hm
 |arr _ _ _ _=>cases hm
 |iter m' _ _ _=>
  obtain⟨_,⟨_,_,_,_,h⟩,_⟩:=fE;simp only[bF,Zah]at hm;subst hm;simp[h]
 |map shs agg c es=>
  obtain⟨arr,_,h,_⟩:=fE;simp only[bF,ZaU]at hm;obtain⟨e,he,hm⟩:=hm;obtain⟨i,hi⟩:=ZbH he;obtain⟨x,_,_,_,hv⟩:=bj.get h hi;exact dG.names _ (dG.bq _ _ hv) m hm
def sameAt(objs aA:aU)(m:Nat):Prop:=∃o o',objs m=some o/\aA m=some o'/\gR o o'
theorem GG(wJ:∀b,WW W aA L b->WW W objs L b):
  ∀n,(∀(d:DV) (x:Value),SizeOf.sizeOf d<n->(∀m∈names d,sameAt objs aA m)->av w W objs L d x->av w W aA L d x)/\
   (∀(ds:List DV) (xs:List Value),SizeOf.sizeOf ds<n->(∀m∈bJ ds,sameAt objs aA m)->aK w W objs L ds xs->aK w W aA L ds xs)/\
   (∀(ds:List DV) (xs:List Value),SizeOf.sizeOf ds<n->(∀m∈bJ ds,sameAt objs aA m)->eW w W objs L ds xs->eW w W aA L ds xs):=by
 have Cg:=(cb.refl (WW W objs L) w).toKeepsC;have oF:∀b,b<w.heap.size->WW W aA L b->WW W objs L b:=λb _ h=>wJ b h;intro n;induction n with
 |zero=>exact⟨λ_ _ h=>by omega,λ_ _ h=>by omega,λ_ _ h=>by omega⟩
 |succ n ih=>
  refine⟨λd x hn hm hr=>?_,λds xs hn hm hr=>?_,λds xs hn hm hr=>?_⟩
  ·cases d with
   |undef=>simp[av]
   |skip=>simpa only[av]using hr
   |Cz=>simpa only[av]using hr
   |aI=>simpa only[av]using hr
   |v t=>simp only[av]at hr⊢;exact aR.aD Cg oF t x hr
   |kv rows i off=>
    simp only[av]at hr⊢;obtain⟨b,o,sz,hx,hb,Od,tD,h1,h2⟩:=hr;exact⟨b,o,sz,hx,hb,λk=>Od (wJ b k),aX.aD Cg oF hb Od sz o rows tD,h1,h2⟩
   |gu cs off=>
    simp only[av]at hr⊢;obtain⟨b,o,hx,hb,Od,tD⟩:=hr;exact⟨b,o,hx,hb,λk=>Od (wJ b k),cV.aD Cg oF hb Od o cs tD⟩
   |ptr r off=>
    obtain⟨o,o',h1,h2,h3⟩:=hm r (by simp[names]);simp only[av]at hr⊢;obtain⟨⟨cs,hc⟩,hx⟩:=hr;rw[h1]at hc;cases hc;cases o' with
    |box qH=>exact⟨⟨qH,h2⟩,hx⟩
    |_=>exact h3.elim
   |iq r=>
    obtain⟨o,o',h1,h2,h3⟩:=hm r (by simp[names]);simp only[av]at hr⊢;obtain⟨⟨_,_,_,_,hc⟩,hx⟩:=hr;rw[h1]at hc;cases hc;cases o' with
    |map a b c d=>exact⟨⟨a,b,c,d,h2⟩,hx⟩
    |_=>exact h3.elim
   |iter r=>
    obtain⟨o,o',h1,h2,h3⟩:=hm r (by simp[names]);simp only[av]at hr⊢;obtain⟨⟨_,_,_,_,hc⟩,hx⟩:=hr;rw[h1]at hc;cases hc;cases o' with
    |iter a b c d=>exact⟨⟨a,b,c,d,h2⟩,hx⟩
    |_=>exact h3.elim
   |bk r ver=>
    obtain⟨o,o',h1,h2,h3⟩:=hm r (by simp[names]);simp only[av]at hr⊢;obtain⟨F7,ver',e,sz,rows,hc,hle,hx⟩:=hr;rw[h1]at hc;cases hc;cases o' with
    |arr v2 e2 s2 r2=>obtain⟨rfl,rfl,h5⟩:=h3;exact⟨F7,_,_,_,_,h2,hle,hx⟩
    |_=>exact h3.elim
   |jc r ver i off=>
    obtain⟨o,o',h1,h2,h3⟩:=hm r (by simp[names]);simp only[av]at hr⊢;obtain⟨F7,ver',e,sz,rows,hc,hle,hx⟩:=hr;rw[h1]at hc;cases hc;cases o' with
    |arr v2 e2 s2 r2=>
     obtain⟨rfl,rfl,h5⟩:=h3;exact⟨F7,_,_,_,_,h2,hle,λhv=>by obtain⟨g,k1,k2,k3,k4⟩:=hx hv;exact⟨g,k1,k2,k3,by rw[<-h5];exact k4⟩⟩
    |_=>exact h3.elim
   |DU r m=>
    obtain⟨o,o',h1,h2,h3⟩:=hm r (by simp[names]);simp only[av]at hr⊢;obtain⟨⟨cs,hc⟩,hx⟩:=hr;rw[h1]at hc;cases hc;cases o' with
    |box qH=>exact⟨⟨qH,h2⟩,hx⟩
    |_=>exact h3.elim
   |sO r ver lo m=>
    obtain⟨o,o',h1,h2,h3⟩:=hm r (by simp[names]);simp only[av]at hr⊢;obtain⟨F7,ver',e,sz,rows,hc,hle,hx⟩:=hr;rw[h1]at hc;cases hc;cases o' with
    |arr v2 e2 s2 r2=>
     obtain⟨rfl,rfl,h5⟩:=h3;exact⟨F7,_,_,_,_,h2,hle,λhv=>by
      obtain⟨k0,p,cap,p2,k1,k2,k3⟩:=hx hv;exact⟨by rw[<-h5];exact k0,p,cap,p2,by rw[<-h5];exact k1,k2,k3⟩⟩
    |_=>exact h3.elim
   |agg ds=>
    simp only[av]at hr⊢;obtain⟨vs,hv,hr⟩:=hr;exact⟨vs,hv,ih.2.1 ds _ (by simp at hn⊢;omega) (λm h=>hm m (by simpa only[names]using h)) hr⟩
   |mr f ds=>
    simp only[av]at hr⊢;obtain⟨vs,hv,hr⟩:=hr;exact⟨vs,hv,ih.2.1 ds _ (by simp at hn⊢;omega) (λm h=>hm m (by simpa only[names]using h)) hr⟩
   |eD ds=>
    simp only[av]at hr⊢;obtain⟨vs,hv,hr⟩:=hr;exact⟨vs,hv,ih.2.2 ds _ (by simp at hn⊢;omega) (λm h=>hm m (by simpa only[names]using h)) hr⟩
  ·cases ds with
   |nil=>simpa only[aK]using hr
   |cons d ds=>
    simp only[aK]at hr⊢;obtain⟨y,ys,hv,h1,h2,h3⟩:=hr;exact⟨y,ys,hv,h1,ih.1 d y (by simp at hn⊢;omega) (λm h=>hm m (by simp[bJ,h])) h2,ih.2.1 ds ys (by simp at hn⊢;omega) (λm h=>hm m (by simp[bJ,h])) h3⟩
  ·cases ds with
   |nil=>simpa only[eW]using hr
   |cons d ds=>
    simp only[eW]at hr⊢;obtain⟨y,ys,hv,h2,h3⟩:=hr;exact⟨y,ys,hv,ih.1 d y (by simp at hn⊢;omega) (λm h=>hm m (by simp[bJ,h])) h2,ih.2.2 ds ys (by simp at hn⊢;omega) (λm h=>hm m (by simp[bJ,h])) h3⟩
theorem Xi(wJ:∀b,WW W aA L b->WW W objs L b){r:Nat}{o:Ob}(hm:∀m∈bF o,sameAt objs aA m)(h:mY w W objs L base M r o):mY w W aA L base M r o:=by
 cases o with
 |box cs=>obtain⟨c,e,hc,hr,Mc⟩:=h;exact⟨c,e,hc,(GG wJ (SizeOf.sizeOf cs+1)).2.1 cs _ (by omega) hm hr,Mc⟩
 |arr ver e sz rows=>
  obtain⟨g1,g2,g3,g4⟩:=h;refine⟨g1,g2,g3, ?_⟩;rcases g4 with g4|⟨g,cap,cur,hv,hp,hh,k1,k2,k3,k4⟩
  ·exact .inl g4
  ·exact .inr ⟨g,cap,cur,hv,hp,hh,k1,k2,k3,aP.aD (cb.refl (WW W objs L) w).toKeepsC (λb _ hb=>wJ b hb) _ _ k4⟩
 |map shs agg c es=>
  obtain⟨arr,hc,hr,k1,k2,k3,Mc⟩:=h;refine⟨arr,hc, ?_,k1,k2,k3,Mc⟩;have key:∀(es:List (Nat×T×DV)) (xs:List MapEntry),(∀m∈es.flatMap (λe=>names e.2.2),sameAt objs aA m)->bj w W objs L es xs->bj w W aA L es xs:=by
   intro es;induction es with
   |nil=>intro xs _ h;simpa only[bj]using h
   |cons e es ih=>
    intro xs hm h;simp only[bj]at h⊢;obtain⟨x,jI,hx,h1,h2,h3,h4⟩:=h;exact⟨x,jI,hx,h1,aR.aD (cb.refl (WW W objs L) w).toKeepsC (λb _ hb=>wJ b hb) _ _ h2,
     (GG wJ (SizeOf.sizeOf e.2.2+1)).1 _ _ (by omega) (λm h=>hm m (by simp[h])) h3,ih jI (λm h=>hm m (by simp only[Zbo,Zao];exact .inr h)) h4⟩
  exact key es _ hm hr
 |iter m s sn l=>
  obtain⟨hc,⟨a1,a2,a3,a4,Jb⟩,Mc⟩:=h;obtain⟨o,o',h1,h2,h3⟩:=hm m (by simp[bF]);rw[Jb]at h1;cases h1;cases o' with
  |map b1 b2 b3 b4=>exact⟨hc,⟨b1,b2,b3,b4,h2⟩,Mc⟩
  |_=>exact h3.elim
end
def ij(objs aA:aU)(o o':Ob):Prop:=lQ objs aA id o o'\/(o=o'/\∀m∈bF o,sameAt objs aA m)
theorem vn{objs aA:aU}{L:Loc}{o o':Ob}(h:ij objs aA o o')(r:Nat):L.own r o'=L.own r o:=by
 rcases h with h|⟨rfl,_⟩
 ·exact sg (L:=L) h r
 ·rfl
theorem Le.cor2{st dd:kV}(Cd:dd.low=st.low)(QN:dd.todo=st.todo)(Ax:∀r,dd.nxt<=r->dd.objs r=none)
  (fE:∀r o',dd.objs r=some o'->∃o,st.objs r=some o/\ij st.objs dd.objs o o')
  (Gw:∀r,r<st.low->∀o,st.objs r=some o->∃o',dd.objs r=some o'/\gR o o')
  (iX:∀k,jg st.objs dd.objs id (st.tmps k) (dd.tmps k)):Le st dd:=by
 intro κ nt a w L h;have qe:∀r' o',dd.objs r'=some o'->∃o,st.objs (id r')=some o/\∀r,(L.B7 id).own r o'=L.own (id r) o:=λr' o' h=>let⟨o,h1,h2⟩:=fE r' o' h;⟨o,h1,vn (L:=L) h2⟩
 refine⟨L,⟨?_, ?_,h.r.defers,h.r.bg,⟨_,Ax⟩⟩,Ax,by rw[Cd];exact h.low,by rw[Cd];exact h.it⟩
 ·obtain⟨W,base,M,w0,dF,h0⟩:=h.r.ex;have hO:=h0.o;have wJ:∀b,WW W dd.objs L b->WW W st.objs L b:=λb hb=>jU (L:=L) (σ:=id) qe b hb;have cr:=λ(d d':DV) (x:Value)=>(zg hO qe (SizeOf.sizeOf d+1)).1 d d' x (by omega);have crs:=λ(ds nH:List DV) (xs:List Value)=>(zg hO qe (SizeOf.sizeOf ds+1)).2.1 ds nH xs (by omega);refine⟨W,base,M,w0,by rw[QN];exact dF,h0.size,λt=>cr _ _ _ (iX t) (h0.tmps t),⟨hO.fr,λr' o' fY=>?_,λr1 r2 o1 o2 b bG h1 h2 Jf kU=>?_,λr' o' b fY hb=>?_,hO.under,hO.gl.aD (cb.refl (WW W st.objs L) w).toKeepsC λb _ hb=>wJ b hb⟩⟩
  ·obtain⟨o,ho,hc⟩:=fE r' o' fY;have hk:=hO.ob r' o ho;rcases hc with hc|⟨rfl,hc⟩
   ·cases o with
    |box cs=>
     cases o' with
     |box qH=>
      obtain⟨c,e,bM,hr,hm⟩:=hk;exact⟨c,e,bM,crs cs qH _ hc hr,hm⟩
     |_=>exact hc.elim
    |map shs agg c es=>
     cases o' with
     |map shs' agg' c' es'=>
      obtain⟨rfl,rfl,rfl,oT⟩:=hc;obtain⟨arr,bM,hr,k1,k2,k3,hm⟩:=hk;have key:∀(es es':List (Nat×T×DV)) (xs:List MapEntry),iL st.objs dd.objs id es es'->bj w W st.objs L es xs->bj w W dd.objs L es' xs/\es'.map (·.1)=es.map (·.1)/\es'.map (·.2.1)=es.map (·.2.1):=by
       intro es;induction es with
       |nil=>intro es' xs h1 h2;simp only[iL]at h1;subst h1;exact⟨by simpa only[bj]using h2,rfl,rfl⟩
       |cons e es ih=>
        intro es' xs h1 h2;cases es' with
        |nil=>simp[iL]at h1
        |cons e' es'=>
         simp only[iL]at h1;simp only[bj]at h2⊢;obtain⟨x,jI,rfl,q0,q1,q2,q3⟩:=h2;obtain⟨i1,i2,i3⟩:=ih es' jI h1.2.2.2 q3;refine⟨⟨x,jI,rfl,q0.trans h1.1, ?_,cr _ _ _ h1.2.2.1 q2,i1⟩,by simp[i2,h1.1],by simp[i3,h1.2.1]⟩;rw[<-h1.2.1];exact aR.aD (cb.refl (WW W st.objs L) w).toKeepsC (λb _ hb=>wJ b hb) _ _ q1
      obtain⟨i1,i2,i3⟩:=key es es' _ oT hr;refine⟨arr,bM,i1,λe he=>?_,λe he=>?_,by rw[i2];exact k3,hm⟩
      ·have:e.2.1∈es.map (·.2.1):=by rw[<-i3];exact Zal.2 ⟨e,he,rfl⟩
       obtain⟨e0,h0',Mf⟩:=Zal.1 this;rw[<-Mf];exact k1 e0 h0'
      ·have:e.1∈es.map (·.1):=by rw[<-i2];exact Zal.2 ⟨e,he,rfl⟩
       obtain⟨e0,h0',Mf⟩:=Zal.1 this;rw[<-Mf];exact k2 e0 h0'
     |_=>exact hc.elim
    |iter m s sn l=>
     cases o' with
     |iter m' s' sn' l'=>
      obtain⟨rfl,rfl,rfl,rfl,Jb⟩:=hc;obtain⟨bM,_,hm⟩:=hk;exact⟨bM,Au Jb,hm⟩
     |_=>exact hc.elim
    |arr ver e sz rows=>
     cases o' with
     |box _=>exact hc.elim
     |map _ _ _ _=>exact hc.elim
     |iter _ _ _ _=>exact hc.elim
     |arr ver' e' fW dh=>
      obtain⟨rfl,rfl,rfl⟩:=hc;obtain⟨g1,g2,g3,g4⟩:=hk;refine⟨g1,g2,g3, ?_⟩;rcases g4 with g4|⟨g,cap,cur,hv,hp,hh,k1,k2,k3,k4⟩
      ·exact .inl g4
      ·exact .inr ⟨g,cap,cur,hv,hp,hh,k1,k2,k3,aP.aD (cb.refl (WW W st.objs L) w).toKeepsC (λb _ hb=>wJ b hb) _ _ k4⟩
   ·exact Xi wJ hc hk
  ·obtain⟨p1,q1,c1⟩:=fE r1 o1 h1;obtain⟨p2,q2,c2⟩:=fE r2 o2 h2;rw[vn c1]at Jf;rw[vn c2]at kU;exact hO.apart r1 r2 p1 p2 b bG q1 q2 Jf kU
  ·obtain⟨p1,q1,c1⟩:=fE r' o' fY;rw[vn c1]at hb;exact hO.outer r' p1 b q1 hb
 ·have ha:=h.r.dZ;refine⟨ha.keeps,λb hb hw=>ha.sub b hb (jU (L:=L) (σ:=id) qe b hw),λr o hr hk=>?_,λr ver e sz rows hr=>?_,ha.yl⟩
  ·have cW:r<st.low:=ZbW λhle=>by rw[h.low r hle]at hr;cases hr
   obtain⟨e1,o1,lO,qd⟩:=ha.fix r o hr hk;obtain⟨o',fY,hv⟩:=Gw r cW _ lO;exact⟨e1,o',fY,(u5 hv).trans qd⟩
  ·have cW:r<st.low:=ZbW λhle=>by rw[h.low r hle]at hr;cases hr
   obtain⟨v1,e1,s1,r1,lO,l1,k1⟩:=ha.arr r ver e sz rows hr;obtain⟨o',fY,hv⟩:=Gw r cW _ lO;cases o' with
   |box qH=>exact hv.elim
   |map _ _ _ _=>exact hv.elim
   |iter _ _ _ _=>exact hv.elim
   |arr v2 e2 s2 r2=>
    obtain⟨rfl,rfl,h3⟩:=hv;exact⟨v1,e2,s1,r2,fY,l1,λhv=>by
     obtain⟨a1,a2,a3⟩:=k1 hv;exact⟨a1,a2,by rw[<-h3];exact a3⟩⟩
theorem bu(o:Ob):gR o o:=by cases o<;>simp[gR]
def gM(low:Nat)(a b:aU):List (Nat×Ob)->Prop
 |[]=>True
 |(r,o)::l=>(∃o0,a r=some o0/\ij a b o0 o/\(r<low->gR o0 o))/\gM low a b l
def bY(low:Nat)(l1:List (Nat×Ob)):List (Nat×Ob)->Prop
 |[]=>True
 |(r,_)::l=>(r<low->∃o,(r,o)∈l1)/\bY low l1 l
theorem oI:∀{l:List (Nat×Ob)} {f:aU} {r:Nat} {o:Ob},over l f r=some o->(r,o)∈l\/((∀o',(r,o')∉l)/\f r=some o)
 |[],_,_,_,h=>.inr ⟨λ_ h=>(by cases h),h⟩
 |(j,x)::l,f,r,o,h=>by
  simp only[bL]at h;split at h
  ·rename_i e;cases h;subst e;exact .inl (Za4 ..)
  ·rename_i bG;rcases oI h with h|⟨h1,h2⟩
   ·exact .inl (ZaV _ h)
   ·refine .inr ⟨λo' fY=>?_,h2⟩;rcases Zag.1 fY with e|fY
    ·cases e;exact bG rfl
    ·exact h1 o' fY
theorem ee{l:List (Nat×Ob)}{f:aU}{r:Nat}(h:∀o',(r,o')∉l):over l f r=f r:=by
 induction l with
 |nil=>rfl
 |cons p l ih=>
  obtain⟨j,x⟩:=p;rw[bL,if_neg (λe=>h x (by rw[e];exact Za4 ..))];exact ih λo' fY=>h o' (ZaV _ fY)
theorem zl{l:List (Nat×Ob)}{f:aU}{r:Nat}{o:Ob}(h:(r,o)∈l):∃o',over l f r=some o'/\(r,o')∈l:=by
 induction l with
 |nil=>cases h
 |cons p l ih=>
  obtain⟨j,x⟩:=p;by_cases e:r=j
  ·subst e;exact⟨x,by simp,Za4 ..⟩
  ·rcases Zag.1 h with h|h
   ·cases h;exact absurd rfl e
   ·obtain⟨o',h1,h2⟩:=ih h;exact⟨o',by rw[bL,if_neg e];exact h1,ZaV _ h2⟩
theorem tS{low:Nat}{a b:aU}:∀{l:List (Nat×Ob)},gM low a b l->∀r o,(r,o)∈l->∃o0,a r=some o0/\ij a b o0 o/\(r<low->gR o0 o)
 |[],_,_,_,h=>by cases h
 |(j,x)::l,hk,r,o,h=>by
  rcases Zag.1 h with e|h
  ·cases e;exact hk.1
  ·exact tS hk.2 r o h
theorem py{low:Nat}{l1:List (Nat×Ob)}:∀{l:List (Nat×Ob)},bY low l1 l->∀r o,(r,o)∈l->r<low->∃o,(r,o)∈l1
 |[],_,_,_,h=>by cases h
 |(j,x)::l,hk,r,o,h=>by
  rcases Zag.1 h with e|h
  ·cases e;exact hk.1
  ·exact py hk.2 r o h
theorem Le.fl{tm:Nat->DV}{l0 l1:List (Nat×Ob)}{f:aU}{l:List (Nat×DV)}{nxt nxt':Nat}{td:List (List T)}{low:Nat}(hf:dL f low)(hn:low<=nxt')(hb:kH nxt' l1)
  (h0:bY low l1 l0) (h1:gM low (over l0 f) (over l1 f) l1) (iX:gj (over l0 f) (over l1 f) id tm l):
  Le ⟨tm,over l0 f,nxt,low,td⟩ ⟨look l,over l1 f,nxt',low,td⟩:=by
 have GH:∀r,r<low->∀o,over l0 f r=some o->∃o',over l1 f r=some o'/\gR o o':=by
  intro r hr o ho;by_cases qa:∃o',(r,o')∈l1
  ·obtain⟨o1,GC⟩:=qa;obtain⟨o2,h2,h3⟩:=zl (f:=f) GC;obtain⟨o0,k1,_,k3⟩:=tS h1 r o2 h3;rw[ho]at k1;cases k1;exact⟨o2,h2,k3 hr⟩
  ·have hnot:∀o',(r,o')∉l1:=λo' h=>qa ⟨o',h⟩;rcases oI ho with h|⟨_,h⟩
   ·exact absurd (py h0 r o h hr) qa
   ·exact⟨o,by rw[ee hnot];exact h,bu o⟩
 refine Le.cor2 rfl rfl (λr hr=>?_) (λr o' fY=>?_) (λr hr o ho=>GH r hr o ho) (λk=>rl l iX k)
 ·cases ho:over l1 f r with
  |none=>exact ho
  |some o=>
   rcases oI ho with h|⟨_,h⟩
   ·have:=kY hb r o h;simp only at hr;omega
   ·have:=(hf r o h).1;simp only at hr;omega
 ·rcases oI fY with h|⟨hnot,h⟩
  ·obtain⟨o0,k1,k2,_⟩:=tS h1 r o' h;exact⟨o0,k1,k2⟩
  ·obtain⟨cW,hnm⟩:=hf r o' h;have hold:over l0 f r=some o':=by
    by_cases qa:∃o1,(r,o1)∈l0
    ·obtain⟨o1,GC⟩:=qa;obtain⟨o2,h2⟩:=py h0 r o1 GC cW;exact absurd h2 (hnot o2)
    ·rw[ee λo1 h1=>qa ⟨o1,h1⟩];exact h
   refine⟨o',hold,.inr ⟨rfl,λm hm=>?_⟩⟩;have WG:=hnm m hm;have hmlt:m<low:=by
    cases hfm:f m with
    |none=>exact absurd hfm WG
    |some x=>exact(hf m x hfm).1
   have hex:∃o,over l0 f m=some o:=by
    by_cases qa:∃o1,(m,o1)∈l0
    ·obtain⟨o1,GC⟩:=qa;obtain⟨o2,h2,_⟩:=zl (f:=f) GC;exact⟨o2,h2⟩
    ·rw[ee λo1 h1=>qa ⟨o1,h1⟩];exact ZbO.1 WG
   obtain⟨o,ho⟩:=hex;obtain⟨o2,h2,h3⟩:=GH m hmlt o ho;exact⟨o,o2,ho,h2,h3⟩
section
variable{P:Program}
theorem aQ.uy{f:FuncId}{nt:Nat}{d:DC}{rs:List bN}(h:aQ P f nt d rs){args:List DV}{objs:aU}{r:iu}{N:Nat}(hN:∀r,N<=r->objs r=none)(hlen:args.length<=nt)
  (k:dL objs N->aa P nt d (W9 rs r) ⟨look (args.zipIdx.map λp=>(p.2,p.1)),over [] objs,N,N,[]⟩):aY P f args objs r:=
 ⟨h.entry,λbase W M w0 w L vals hO NX=>(aQ.okS h hN hlen (CX (k (C3 hO hN)))).run base W M w0 w L vals hO NX⟩
theorem vo{fn:Func}{t:Nat}{tmps:Array Value}{w:World}(hr:fn.results.toList.mapM (s8 P)=some [.slot t]):(results fn tmps).run P w=.ok (tmps.getD t Go.undef) w:=by
 have h1:∃rv,fn.results.toList=[rv]/\s8 P rv=some (.slot t):=by
  cases h:fn.results.toList with
  |nil=>rw[h]at hr;simp at hr
  |cons rv l=>
   rw[h]at hr;simp only[Za1,Zaj,Zaf,Zac,Zaa,Za5]at hr;obtain⟨x,hx,ys,nZ,rfl,rfl⟩:=hr;cases l with
   |nil=>exact⟨rv,rfl,hx⟩
   |cons y l=>simp[Zac]at nZ
 obtain⟨rv,h1,h2⟩:=h1;have h3:fn.results= #[rv]:=by rw[<-Array.toArray_toList (xs:=fn.results),h1]
 cases rv with
 |tmp t'=>
  simp only[s8,Zaa,bN.slot.injEq]at h2;subst h2;have tD:(results fn tmps)=(do
   let vs<-fn.results.mapM (λrv=>((match rv with|.tmp t=>pure (tmps.getD t Go.undef)|.cell b t=>do loadVar t (<-asAddr (tmps.getD b Go.undef))):Sem Value))
   pure (if h:vs.size=1 then vs[0]else .tuple vs)):=rfl
  have hm:(fn.results.mapM (λrv=>((match rv with|.tmp t=>pure (tmps.getD t Go.undef)|.cell b t=>do loadVar t (<-asAddr (tmps.getD b Go.undef))):Sem Value))).run P w=.ok #[tmps.getD t' Go.undef] w:=by
   rw[ZcF,h1];simp
  rw[tD];simp only[Sem.run_bind,hm,Result.andThen_ok,Sem.run_pure];rfl
 |cell b t'=>
  simp only[s8]at h2;split at h2<;>simp at h2
def finF(t e sz:Nat)(rows:List (List T)):Exit->kV->Prop
 |.normal,st|.ret,st=>(st.tmps t=.aI/\rows=[]/\0<sz)\/∃r ver,st.tmps t=.bk r ver/\st.objs r=some (.arr ver e sz rows)
 |_,_=>False
theorem aQ.okF{f:FuncId}{nt:Nat}{d:DC}{t:Nat}(h:aQ P f nt d [.slot t]){ts:List T}{e sz:Nat}{rows:List (List T)}(hlen:ts.length<=nt)(k:aa P nt d (finF t e sz rows) (nL ts)):lI P f ts e sz rows:=by
 have Am:=h.entry;obtain⟨fn,wi,rfl,h3,hr,_⟩:=h;obtain⟨c,hb,hc⟩:=Zab.1 h3;refine⟨Am,λW w vals hW hg eG=>?_⟩;have hl:=dt.length eG;simp only[ZaT]at hl;have uX:Rel ⟨W,λ_=>none,⟨λ_=>0,λ_=>Go.undef,0⟩,w,w.heap.size,λ_=>False,w,none,none⟩ fn.ntmps (nL ts) {tmps:=vals++Array.replicate (fn.ntmps-vals.size) Go.undef,defers:=[]} w ⟨λ_=>0,λ_=>Go.undef,0⟩:=by
  refine⟨⟨⟨W,w.heap.size,λ_=>False,w,⟨rfl,rfl,rfl,rfl,rfl⟩,by simp;omega,λk=>?_,⟨Fr.refl (Zae _),(λr o h=>by cases h),(λr r' o o' b _ h=>by cases h),(λr o b h=>by cases h),hW,hg.start⟩⟩,
   iW.cd (cb.refl _ _),⟨[],rfl,ZbT,(λ_ h=>by cases h),λ_=>rfl⟩,λ_=>Zae _,⟨0,λ_ _=>rfl⟩⟩,λ_ _=>rfl,λ_ _=>rfl,λh=>by cases h⟩
  simp only[nL];cases hk:ts[k]? with
  |some x=>
   obtain⟨v,hv,ji⟩:=dt.get eG hk;simp only[oG hv,yZ,av];refine aR.aD (cb.refl W w).toKeepsC ?_ x v ji;rintro b hb (h|⟨r,o,h,_⟩)
   ·exact h
   ·cases h
  |none=>
   have y9:vals.size<=k:=by
    have:=ZbF.1 hk;omega
   simp only[yZ,av,oH y9]
 refine callsIn_wide.1 (callsIn_of_wp_marks (n:=0) wi hb trivial ?_);refine wpIn_mono (k.run c hc 0 _ _ _ _ ⟨λJ hJ=>(by cases hJ),λl hl=>(by cases hl)⟩ uX) ?_;rintro e' a' w' ⟨dd,L',q,r'⟩;have done:((dd.tmps t=.aI/\rows=[]/\0<sz)\/∃r ver,dd.tmps t=.bk r ver/\dd.objs r=some (.arr ver e sz rows))->LeavesInM Fence.wide 0 P fn a'.tmps (λe' w'=>∃v,e'=.returned v/\tA w.heap.size w w'/\zY w.heap.size w' W e sz rows v) a'.defers .returning w':=by
  intro hq;obtain⟨Ds,h1,h2,h3,_⟩:=r'.r.defers;rw[h1];refine leaves (κ:=⟨W,λ_=>none,⟨λ_=>0,λ_=>Go.undef,0⟩,w,w.heap.size,λ_=>False,w,none,none⟩) rfl ?_ Ds a' w' L' r'.r h1 h2 h3;intro a2 w2 L2 h4;obtain⟨W',Mr,M',w0',dF,h0⟩:=h4.ex;obtain⟨_,e1,e2,e3,e4⟩:=dF
  replace h0:R0 w.heap.size W (λ_=>False) w fn.ntmps dd.tmps dd.objs a2 w2 L2:=by rw[e1,e2,e3,e4]at h0;exact h0
  have fr:=h0.o.fr;refine⟨_,vo hr,_,rfl,⟨⟨fr.os,fr.tape,fr.output,fr.size,λk hk=>fr.block k hk (λx=>x)⟩,fr.drawn⟩, ?_⟩;have ht:=h0.tmps t;rcases hq with⟨hq,rfl,gv⟩|⟨r,ver,hq,ho⟩
  ·rw[hq]at ht;simp only[av]at ht;exact⟨gv,λ_ h=>(by cases h),.inl ⟨rfl,ht⟩⟩
  ·rw[hq]at ht;simp only[av]at ht;obtain⟨_,ver',e',fW,dh,fY,_,hx⟩:=ht;rw[ho]at fY;cases fY;have hx:=hx rfl;obtain⟨g1,g2,g3,g4⟩:=h0.o.ob r _ ho;refine⟨g1,g2, ?_⟩;rcases g4 with⟨h5,a,h6⟩|⟨g,cap,cur,hv,hp,hh,k1,k2,k3,k4⟩
   ·exact .inl ⟨h5,a,hx.trans h6⟩
   ·have uw:aO (L2.sl r)=some g:=by rw[hv];simp[aO,Zay.1 hp]
    refine .inr ⟨g,cap,cur,hx.trans hv,hp,(g3 g uw).resolve_right (λx=>x),hh,k1,k2,k3,aP.aD (cb.refl (WW W dd.objs L2) w2).toKeepsC (λb _ hb=>?_) _ _ k4⟩;rcases hb with hb|rfl
    ·exact .inl hb
    ·exact .inr ⟨r,_,ho,uw⟩
 cases e' with
 |normal=>exact done q
 |ret=>exact done q
 |_=>exact q.elim
section
variable{κ:Ctx}{nt:Nat}{Γ:Env}{nxt:Nat}{ro:Option Nat}{n:Nat}
end
section
variable{nt:Nat}{Γ:Env}{Q:Exit->kV->Prop}{tm:Nat->DV}{ob:aU}{nxt low:Nat}{td:List (List T)}
end
end
end Go.DM
namespace Go.DM
variable [Laid]
def gE(f:Nat->Nat)(r:RO):RO:=⟨r.d,r.dst,r.guard,r.after,r.iG.map (·.map f)⟩
def da(f:Nat->Nat)(rs:List RO):List RO:=rs.map (gE f)
theorem Q1{f:Nat->Nat}(hf:∀a b,f a=f b->a=b)(x y:Option (List Nat)):yY (x.map (·.map f)) (y.map (·.map f))=yY x y:=by
 cases x<;>cases y<;>simp only[Option.map_none,Za0,yY]
 rename_i a b;rw[Bool.eq_iff_iff];simp only[List.all_map,ZaI,Function.comp_apply,bne_iff_ne,ne_eq];exact⟨λh x hx y hy e=>h x hx y hy (by rw[e]),λh x hx y hy e=>h x hx y hy (hf _ _ e)⟩
theorem Oz{f:Nat->Nat}(hf:∀a b,f a=f b->a=b)(x y:RO):indep (gE f x) (gE f y)=indep x y:=by
 unfold indep;rw[show(gE f x).iG=x.iG.map (·.map f)from rfl,show(gE f y).iG=y.iG.map (·.map f)from rfl,Q1 hf];rfl
theorem OA(f:Nat->Nat)(rs:List RO):ll (da f rs)=ll rs:=by
 unfold ll da;rw[Zb4];rfl
theorem AL(f:Nat->Nat):∀rs:List RO,dJ (da f rs)=dJ rs
 |[]=>rfl
 |r::rs=>by
  simp only[da,Zau,dJ,List.all_map];have:=AL f rs;simp only[da]at this;rw[this];rfl
theorem gk{f:Nat->Nat}(hf:∀a b,f a=f b->a=b)(nt:Nat)(draw:Bool)(rs:List RO):c8 nt draw (da f rs)=c8 nt draw rs:=by
 unfold c8;rw[AL,OA];have h1:(da f rs).all (ke nt)=rs.all (ke nt):=by simp only[da,List.all_map];rfl
 have h2:sc (da f rs) (ll rs)=sc rs (ll rs):=by
  unfold sc;simp only[da,Zbt,Zbp]
  congr 1
  funext i;cases rs[i]? with
  |none=>rfl
  |some y=>
   cases(ll rs)[i]? with
   |none=>rfl
   |some m=>
    simp only[Za0]
    congr 1
    congr 1
    funext x;cases rs[x]? with
    |none=>rfl
    |some r=>simp only[Za0,Oz hf]
 rw[h1,h2]
def GI(b N:Nat)(n:Nat):Nat:=if n=0 then b else N+n
theorem OB{b N:Nat}(h:b<N)(x y:Nat)(e:GI b N x=GI b N y):x=y:=by
 unfold GI at e;split at e<;>split at e<;>omega
theorem ik(l:List (Nat×Ob))(r:Nat)(o:Ob):cZ (cE l) r o=cE ((r,o)::l):=rfl
end Go.DM
namespace Go.DM
open Go.RowKit
variable [Laid]
section
variable{P:Program}{nt:Nat}{Γ:Env}{Q:Exit->kV->Prop}{st:kV}{tm:Nat->DV}{ob:aU}{nxt low:Nat}{td:List (List T)}
theorem aa.regionF(ay:aw P Γ)(hm:P.follows .mixedOrders=true){d:DC}{rs:List RO}(hd:d=.region false (rs.map bare))(aF:c8 nt false rs=true)
  (bz:iJ Γ st.nxt rs ⟨st.tmps,st.objs,st.todo⟩) (hQ:Q .normal ⟨(cM Γ st.nxt rs ⟨st.tmps,st.objs,st.todo⟩).tmps,(cM Γ st.nxt rs ⟨st.tmps,st.objs,st.todo⟩).objs,st.nxt+nt+1,st.low,(cM Γ st.nxt rs ⟨st.tmps,st.objs,st.todo⟩).todo⟩):
  aa P nt d Q st:=by
 refine⟨λc hc=>?_⟩;subst hd;obtain⟨id,ops,rfl,jH,hok'⟩:=ph hc;exact pj ay hm jH aF bz hQ
theorem aa.OC(ay:aw P Γ)(hm:P.follows .mixedOrders=true){d:DC}{rs:List RO}(hd:d=.region false (rs.map bare))(aF:c8 nt false rs=true)(ks:List Nat)
  (h:exec Γ nxt rs ⟨tm,ob,td⟩ λs=>Q .normal ⟨look (ko ks s.tmps),s.objs,nxt+nt+1,low,s.todo⟩):aa P nt d Q ⟨tm,ob,nxt,low,td⟩:=by
 have:=eJ _ _ _ h;refine aa.uU (Q:=λe s=>e=.normal/\s=⟨(cM Γ nxt rs ⟨tm,ob,td⟩).tmps,(cM Γ nxt rs ⟨tm,ob,td⟩).objs,nxt+nt+1,low,(cM Γ nxt rs ⟨tm,ob,td⟩).todo⟩) (aa.regionF ay hm hd aF (st:=⟨tm,ob,nxt,low,td⟩) this.1 ⟨rfl,rfl⟩) ?_;rintro e s ⟨rfl,rfl⟩;exact⟨_,Le.uZ (mM _ ks),this.2⟩
theorem aa.ep(ay:aw P Γ)(hm:P.follows .mixedOrders=true){d b:DC}{rs:List RO}(hd:d=.region false (rs.map bare))(aF:c8 nt false rs=true)(ks:List Nat)
  (h:exec Γ nxt rs ⟨tm,ob,td⟩ λs=>aa P nt b Q ⟨look (ko ks s.tmps),s.objs,nxt+nt+1,low,s.todo⟩):aa P nt (.seq d b) Q ⟨tm,ob,nxt,low,td⟩:=
 aa.seq (aa.OC ay hm hd aF ks h)
end
end Go.DM
namespace Go.DM
open Go.RowKit
variable [Laid]
section
variable{Γ:Env}{nxt:Nat}{K:RS->Prop}{rs:List RO}{tm:Nat->DV}{ob:aU}{td:List (List T)}{dst:Option Nat}{d:nF}{s:Nat}{af l:List Nat}
@[simp] theorem exec_h_t(b:Bool)(h:tm s=.v (.bool b)):exec Γ nxt (⟨d,dst,some (s,b),af,some l⟩::rs) ⟨tm,ob,td⟩ K=(b8 ⟨d,dst,none,af,some l⟩ tm/\(oS d=true->CR l ob (lT Γ d tm ob td).objs)/\km Γ nxt d rs tm ob td K dst tm):=by
 simp only[exec,h,forall_const,iy h,Ao];cases b<;>simp[uY,b8]
theorem GJ(b c:Bool)(h:tm s=.v (.bool b))(hc:b= !c):exec Γ nxt (⟨d,dst,some (s,c),af,some l⟩::rs) ⟨tm,ob,td⟩ K=exec Γ nxt rs ⟨b7 tm dst .skip,ob,td⟩ K:=by
 subst hc;cases c
 ·have h:tm s=.v (.bool true):=h;simp[exec,h,iy h]
 ·have h:tm s=.v (.bool false):=h;simp[exec,h,iy h]
@[simp] theorem exec_h_tf(h:tm s=.v (.bool true)):exec Γ nxt (⟨d,dst,some (s,false),af,some l⟩::rs) ⟨tm,ob,td⟩ K=exec Γ nxt rs ⟨b7 tm dst .skip,ob,td⟩ K:=GJ true false h rfl
@[simp] theorem exec_h_ft(h:tm s=.v (.bool false)):exec Γ nxt (⟨d,dst,some (s,true),af,some l⟩::rs) ⟨tm,ob,td⟩ K=exec Γ nxt rs ⟨b7 tm dst .skip,ob,td⟩ K:=GJ false true h rfl
@[simp] theorem exec_h_sk{want:Bool}(h:tm s=.skip):exec Γ nxt (⟨d,dst,some (s,want),af,some l⟩::rs) ⟨tm,ob,td⟩ K=exec Γ nxt rs ⟨b7 tm dst .skip,ob,td⟩ K:=by
 simp only[exec,h]
end
end Go.DM
