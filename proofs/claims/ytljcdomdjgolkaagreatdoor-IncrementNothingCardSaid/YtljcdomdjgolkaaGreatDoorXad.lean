/- Part of the proof. Conditions: none. -/
import Derived.Test.YtljcdomdjgolkaaGreatDoorXac
import Derived.RangeFuncLeaves
import Derived.RangeFuncRecord
import Derived.RangeFuncNested
set_option linter.unusedSectionVars false
set_option linter.unusedSimpArgs false
set_option linter.unusedVariables false
namespace Go.DM
open Go.RowKit
variable [Laid]
inductive bN where
 |slot (t:Nat)
 |cell (a n:Nat) (agg:Bool)
def te(P:Program):ResultVar->Option bN
 |.tmp t=>some (.slot t)
 |.cell a t=>match P.underlying t,P.info? t with
  |some d,some i=>some (.cell a i.size (bA d))
  |_,_=>none
def bN.pe(st:kW):bN->oj
 |.slot t=>⟨True,st.tmps t,none⟩
 |.cell a n agg=>fX n agg st.objs (st.tmps a)
def qZ(lend:Bool)(st:kW):List bN->Prop
 |[]=>True
 |r::rs=>((r.pe st).ok/\Cb lend st.objs (r.pe st).val)/\qZ lend st rs
def uY(st:kW)(rs:List bN):List T:=rs.map λr=>qd st.objs (r.pe st).val
def QT(rs:List bN)(t:T)(st:kW):Prop:=
 qZ true st rs/\t=(match uY st rs with|[x]=>x|ts=>.eF ts)
def JY(rs:List bN)(r:iw)(st:kW):Prop:=
 qZ false st rs/\st.objs=r.objs/\r.val=.v (match uY st rs with|[x]=>x|ts=>.eF ts)
def y9:Option T->DV
 |some t=>.v t
 |none=>.skip
def nN(ts:List T):kW:=⟨λk=>y9 ts[k]?,λ_=>none,1000,1000,[]⟩
def JZ:Option DV->DV
 |some d=>d
 |none=>.skip
def yn(args:List DV)(objs:aU)(N:Nat):kW:=⟨λk=>JZ args[k]?,objs,N,N,[]⟩
def finQ(rs:List bN)(t:T):Exit->kW->Prop
 |.normal,st|.ret,st=>QT rs t st
 |_,_=>False
def Xm(rs:List bN)(r:iw):Exit->kW->Prop
 |.normal,st|.ret,st=>JY rs r st
 |_,_=>False
section
variable{P:Program}
theorem Xn{base:Nat}{W M:Nat->Prop}{w0 w:World}{nt:Nat}{st:kW}{a:Act}{L:Loc}(h:R0 base W M w0 nt st.tmps st.objs a w L){lend:Bool}{W':Nat->Prop}(hW:lend=true->∀r o b,st.objs r=some o->L.own r o=some b->¬W' b)(N8:∀b,W' b->WW W st.objs L b){rv:ResultVar}{r:bN}(hr:te P rv=some r)(aF:(r.pe st).ok/\Cb lend st.objs (r.pe st).val):
  ∃v,((match rv with|.tmp t=>pure (a.tmps.getD t Go.undef)|.cell b t=>do loadVar t (<-asAddr (a.tmps.getD b Go.undef))):Sem Value).run P w=.ok v w/\aR w W' (qd st.objs (r.pe st).val) v:=by
 have fin:∀{d:DV} {x:Value},av w W st.objs L d x->Cb lend st.objs d->aR w W' (qd st.objs d) x:=λhd hk=>
  (uR (lend:=lend) W' h.o hW N8).1 _ _ hd hk
 cases rv with
 |tmp t=>
  simp only[te,Zaa]at hr;subst hr;exact⟨_,rfl,fin (h.tmps t) aF.2⟩
 |cell b t=>
  simp only[te]at hr;split at hr
  ·rename_i d i hd hi;simp only[Zaa]at hr;subst hr;simp only[bN.pe]at aF;obtain⟨hp,v,bz,hv⟩:=zU h.o hd hi (h.tmps b) aF.1;refine⟨v, ?_,fin hv aF.2⟩;have hpt:∃p,a.tmps.getD b Go.undef=.pointer (some p):=by
    have hx:=h.tmps b;have ho:=aF.1;cases hq:st.tmps b with
    |ptr r off=>rw[hq]at hx;simp only[av]at hx;exact⟨_,hx.2⟩
    |ky rows j off=>rw[hq]at hx;simp only[av]at hx;obtain⟨_,_,_,hx,_⟩:=hx;exact⟨_,hx⟩
    |gz cs off=>rw[hq]at hx;simp only[av]at hx;obtain⟨_,_,hx,_⟩:=hx;exact⟨_,hx⟩
    |jd r ver j off=>rw[hq]at hx;simp only[av]at hx;obtain⟨⟨_,_,hx⟩,_⟩:=hx;exact⟨_,hx⟩
    |v t'=>
     rw[hq]at hx ho;cases t' with
     |box cs=>simp only[av,aR]at hx;obtain⟨_,_,hx,_⟩:=hx;exact⟨_,hx⟩
     |_=>exact ho.elim
    |_=>rw[hq]at ho;exact ho.elim
   obtain⟨p,hp⟩:=hpt;show Sem.run P (do loadVar t (<-asAddr (a.tmps.getD b Go.undef))) w=_;rw[hp]at bz⊢;simpa [Instr.loadAt,Instr.sureAddr,asAddr]using bz
  ·cases hr
theorem MC{base:Nat}{W M:Nat->Prop}{w0 w:World}{nt:Nat}{st:kW}{a:Act}{L:Loc}(h:R0 base W M w0 nt st.tmps st.objs a w L){lend:Bool}{W':Nat->Prop}(hW:lend=true->∀r o b,st.objs r=some o->L.own r o=some b->¬W' b)(N8:∀b,W' b->WW W st.objs L b):∀{rvs:List ResultVar} {rs:List bN},rvs.mapM (te P)=some rs->qZ lend st rs->
  ∃vs,(rvs.mapM (λrv=>((match rv with|.tmp t=>pure (a.tmps.getD t Go.undef)|.cell b t=>do loadVar t (<-asAddr (a.tmps.getD b Go.undef))):Sem Value))).run P w=.ok vs w/\dw w W' (uY st rs) vs
 |[],rs,hr,_=>by simp at hr;subst hr;exact⟨[],by simp,by simp[uY,dw]⟩
 |rv::rvs,rs,hr,aF=>by
  simp only[Za2,Zaj,Zaf,Zac,Zaa]at hr;obtain⟨r,lP,rs',jI,rfl⟩:=hr;simp only[qZ]at aF;obtain⟨v,h1,h2⟩:=Xn h hW N8 lP aF.1;obtain⟨vs,h3,h4⟩:=MC h hW N8 jI aF.2;refine⟨v::vs, ?_, ?_⟩
  ·rw[Za2];simp only[Sem.run_bind,h1,Result.andThen_ok,h3,Sem.run_pure]
  ·simp only[uY,Zau,dw];exact⟨v,vs,rfl,h2,h4⟩
theorem rj{base:Nat}{W M:Nat->Prop}{w0 w:World}{nt:Nat}{st:kW}{a:Act}{L:Loc}(h:R0 base W M w0 nt st.tmps st.objs a w L){lend:Bool}{W':Nat->Prop}(hW:lend=true->∀r o b,st.objs r=some o->L.own r o=some b->¬W' b)(N8:∀b,W' b->WW W st.objs L b){fn:Func}{rs:List bN}(hr:fn.results.toList.mapM (te P)=some rs){t:T}(aF:qZ lend st rs/\t=(match uY st rs with|[x]=>x|ts=>.eF ts)):
  ∃v,(results fn a.tmps).run P w=.ok v w/\aR w W' t v:=by
 obtain⟨h1,rfl⟩:=aF;obtain⟨vs,h2,h3⟩:=MC h hW N8 hr h1;have hm:(fn.results.mapM (λrv=>((match rv with|.tmp t=>pure (a.tmps.getD t Go.undef)|.cell b t=>do loadVar t (<-asAddr (a.tmps.getD b Go.undef))):Sem Value))).run P w=.ok vs.toArray w:=by
  rw[ZcG];simp only[Sem.run_map,h2,Result.andThen_ok]
 have hl:vs.length=(uY st rs).length:=dw.length h3;refine⟨if h:vs.toArray.size=1 then vs.toArray[0]else .tuple vs.toArray, ?_, ?_⟩
 ·have tH:(results fn a.tmps)=(do
   let vs<-fn.results.mapM (λrv=>((match rv with|.tmp t=>pure (a.tmps.getD t Go.undef)|.cell b t=>do loadVar t (<-asAddr (a.tmps.getD b Go.undef))):Sem Value))
   pure (if h:vs.size=1 then vs[0]else .tuple vs)):=rfl
  rw[tH];simp only[Sem.run_bind,hm,Result.andThen_ok,Sem.run_pure]
 ·cases Ql:uY st rs with
  |nil=>
   rw[Ql]at hl h3;have:vs=[]:=ZaD (by simpa using hl);subst this;simp only[aR];exact⟨#[],by simp,by simp[dw]⟩
  |cons x xs=>
   rw[Ql]at hl h3;cases xs with
   |nil=>
    simp only[dw]at h3;obtain⟨v,gY,rfl,hv,rfl⟩:=h3;simpa using hv
   |cons y ys=>
    have:vs.toArray.size≠1:=by simp at hl⊢;omega
    rw[dif_neg this];simp only[aR];exact⟨_,rfl,by simpa using h3⟩
theorem mK{W:Nat->Prop}{objs:aU}{L:Loc}{w w':World}(Cn:KeepsC (WW W objs L) w w'):∀n,(∀(d:DV) (x:Value),SizeOf.sizeOf d<n->av w W objs L d x->av w' W objs L d x)/\(∀(ds:List DV) (xs:List Value),SizeOf.sizeOf ds<n->aK w W objs L ds xs->aK w' W objs L ds xs)/\(∀(ds:List DV) (xs:List Value),SizeOf.sizeOf ds<n->eZ w W objs L ds xs->eZ w' W objs L ds xs):=by
 have oG:∀b,b<w.heap.size->WW W objs L b->WW W objs L b:=λ_ _ h=>h;intro n;induction n with
 |zero=>exact⟨λ_ _ h=>by omega,λ_ _ h=>by omega,λ_ _ h=>by omega⟩
 |succ n ih=>
  refine⟨λd x hn hx=>?_,λds xs hn hx=>?_,λds xs hn hx=>?_⟩
  ·cases d with
   |v t=>simp only[av]at hx⊢;exact aR.aC Cn oG t x hx
   |eF cs=>
    simp only[av]at hx⊢;obtain⟨vs,hv,hr⟩:=hx;exact⟨vs,hv,ih.2.2 cs _ (by simp at hn⊢;omega) hr⟩
   |mu f cs=>
    simp only[av]at hx⊢;obtain⟨vs,hv,hr⟩:=hx;exact⟨vs,hv,ih.2.1 cs _ (by simp at hn⊢;omega) hr⟩
   |ky rows i off=>
    simp only[av]at hx⊢;obtain⟨b,o,sz,hx,hb,Cl,hr,h1,h2⟩:=hx;exact⟨b,o,sz,hx,ZaR hb Cn.size,Cl,aX.aC Cn oG hb Cl sz o rows hr,h1,h2⟩
   |gz cs off=>
    simp only[av]at hx⊢;obtain⟨b,o,hx,hb,Cl,hr⟩:=hx;exact⟨b,o,hx,ZaR hb Cn.size,Cl,cV.aC Cn oG hb Cl o cs hr⟩
   |agg cs=>
    simp only[av]at hx⊢;obtain⟨vs,hv,hr⟩:=hx;exact⟨vs,hv,ih.2.1 cs _ (by simp at hn⊢;omega) hr⟩
   |_=>exact hx
  ·cases ds with
   |nil=>simpa only[aK]using hx
   |cons d ds=>
    simp only[aK]at hx⊢;obtain⟨y,ys,hv,h1,h2,h3⟩:=hx;exact⟨y,ys,hv,h1,ih.1 d y (by simp at hn⊢;omega) h2,ih.2.1 ds ys (by simp at hn⊢;omega) h3⟩
  ·cases ds with
   |nil=>simpa only[eZ]using hx
   |cons d ds=>
    simp only[eZ]at hx⊢;obtain⟨y,ys,hv,h2,h3⟩:=hx;exact⟨y,ys,hv,ih.1 d y (by simp at hn⊢;omega) h2,ih.2.2 ds ys (by simp at hn⊢;omega) h3⟩
theorem lX{w:World}{l:Nat}{o o':Obj}(hl:w.heap[l]? =some o)(Qn:¬Obj.plain o):∀(b:Nat) x,Obj.plain x->w.heap[b]? =some x->(w.putObj l o').heap[b]? =some x:=λb x hx hb=>by
 rw[World.putObj_heap_other (by rintro rfl;rw[hl]at hb;cases hb;exact Qn hx)];exact hb
theorem uZ{base:Nat}{W M:Nat->Prop}{w0 w:World}{objs:aU}{L:Loc}(h:bK base W M w0 objs w L){l:Nat}{o o':Obj}(hl:w.heap[l]? =some o)(Qn:¬Obj.plain o)(hb:base<=l):
  bK base W M w0 objs (w.putObj l o') L:=by
 have gB:(w.putObj l o').heap.size=w.heap.size:=by simp[World.putObj]
 have mL:=lX (o':=o') hl Qn;have Cn:KeepsC (WW W objs L) w (w.putObj l o'):=⟨by rw[gB];exact Zae _,λb c e fr hb _=>mL b _ trivial hb⟩;have f:=h.fr;refine⟨⟨f.os,f.tape,f.output,f.hZ,by rw[gB];exact f.size,λk hk hm=>?_,f.drawn⟩,λr o ho=>?_,h.apart,h.outer,h.under,h.gl.aC Cn λ_ _ h=>h⟩
 ·rw[World.putObj_heap_other (by omega)];exact f.block k hk hm
 ·have fH:=h.ob r o ho;cases o with
  |box cs=>
   obtain⟨c,e,hc,hr,hm⟩:=fH;exact⟨c,e,mL _ _ trivial hc,(mK Cn (SizeOf.sizeOf cs+1)).2.1 cs _ (by omega) hr,hm⟩
  |map shs agg c es=>
   obtain⟨arr,hc,hr,k1,k2,k3,hm⟩:=fH;refine⟨arr,mL _ _ trivial hc, ?_,k1,k2,k3,hm⟩;have key:∀(es:List (Nat×T×DV)) (xs:List MapEntry),bj w W objs L es xs->bj (w.putObj l o') W objs L es xs:=by
    intro es;induction es with
    |nil=>intro xs h;simpa only[bj]using h
    |cons e es ih=>
     intro xs h;simp only[bj]at h⊢;obtain⟨x,jJ,hx,h1,h2,h3,h4⟩:=h;exact⟨x,jJ,hx,h1,aR.aC Cn (λ_ _ h=>h) _ _ h2,(mK Cn (SizeOf.sizeOf e.2.2+1)).1 _ _ (by omega) h3,ih jJ h4⟩
   exact key es _ hr
  |iter m s sn lt=>
   obtain⟨hc,Jn,hm⟩:=fH;exact⟨mL _ _ trivial hc,Jn,hm⟩
  |arr ver e sz rows=>
   obtain⟨g1,g2,g3,g4⟩:=fH;refine⟨g1,g2,g3, ?_⟩;rcases g4 with g4|⟨g,cap,cur,hv,hp,hh,k1,k2,k3,k4⟩
   ·exact .inl g4
   ·exact .inr ⟨g,cap,cur,hv,hp,mL _ _ trivial hh,k1,k2,k3,aP.aC Cn (λ_ _ h=>h) _ _ k4⟩
theorem Ow{κ:Ctx}{nt:Nat}{st:RS}{a:Act}{w:World}{L:Loc}(hJ:κ.J=none)(h:dH κ nt st a w L){D:Nat}{Ds:List Nat}(hd:a.defers=(D::Ds).map mark)(hn:(D::Ds).Nodup)(hk:∀D'∈D::Ds,w.heap[D']? =some (.deferred (some []))/\κ.gw.heap.size<=D'):
  dH κ nt st {a with defers:=Ds.map mark} (w.putObj D (.deferred none)) L:=by
 obtain⟨W,base,M,w0,dI,h0⟩:=h.ex;have hD:=hk D (Za5 ..);have cW:=(Zai.1 hD.1).1;have JV:∀b,b≠D->(w.putObj D (.deferred none)).heap[b]? =w.heap[b]? :=λb hb=>World.putObj_heap_other hb;have gB:(w.putObj D (.deferred none)).heap.size=w.heap.size:=by simp[World.putObj]
 have J0:=dI;unfold Ctx.At at J0;simp only[hJ]at J0;obtain⟨_,rfl,rfl,rfl,rfl⟩:=J0;have hbD:κ.base<=D:=ZaC (h.bg hJ) hD.2;have mL:∀(b:Nat) c e fr,w.heap[b]? =some (.cells c e fr)->(w.putObj D (.deferred none)).heap[b]? =some (.cells c e fr):=λb c e fr hb=>by
  rw[JV b (by rintro rfl;rw[hD.1]at hb;cases hb)];exact hb
 have Cn:KeepsC (WW κ.W st.objs L) w (w.putObj D (.deferred none)):=⟨by rw[gB];exact Zae _,λb c e fr hb _=>mL b c e fr hb⟩;have kd:∀(d:DV) (x:Value),av w κ.W st.objs L d x->av (w.putObj D (.deferred none)) κ.W st.objs L d x:=λd x=>(mK Cn (SizeOf.sizeOf d+1)).1 d x (by omega);have hO:bK κ.base κ.W κ.M κ.w0 st.objs (w.putObj D (.deferred none)) L:=uZ h0.o hD.1 (λe=>e) hbD;refine⟨⟨κ.W,κ.base,κ.M,κ.w0,dI,h0.size,λt=>kd _ _ (h0.tmps t),hO⟩, ?_,⟨Ds,rfl,(ZbM.1 hn).2,λD' hD'=>?_,λh=>by rw[hJ]at h;cases h⟩,h.bg,h.fin⟩
 ·have Wy:=h.ee;refine⟨⟨⟨by rw[gB];exact Wy.keeps.size,λb c e fr hb Ox=>mL _ _ _ _ (Wy.keeps.gW b c e fr hb Ox)⟩,λb hb=>?_,λb r hb=>?_⟩,Wy.sub,Wy.fix,Wy.arr,Wy.yl⟩
  ·rw[JV b (by have:=(Zai.1 hb).1;omega)];exact Wy.keeps.NZ b hb
  ·rw[JV b (by have:=(Zai.1 hb).1;omega)];exact Wy.keeps.Wu b r hb
 ·have bG:D'≠D:=λe=>(ZbM.1 hn).1 (e▸hD');have:=hk D' (ZaW _ hD');exact⟨by rw[JV D' bG];exact this.1,this.2⟩
theorem leaves{κ:Ctx}{nt:Nat}{st:RS}{fn:Func}{R:Ending->World->Prop}(hJ:κ.J=none)(hR:∀(a:Act) (w:World) (L:Loc),dH κ nt st a w L->∃v,(results fn a.tmps).run P w=.ok v w/\R (.returned v) w):
  ∀(Ds:List Nat) (a:Act) (w:World) (L:Loc),dH κ nt st a w L->a.defers=Ds.map mark->Ds.Nodup->(∀D∈Ds,w.heap[D]? =some (.deferred (some []))/\κ.gw.heap.size<=D)->
   LeavesInM Fence.wide 0 P fn a.tmps R (Ds.map mark) .returning w
 |[],a,w,L,h,_,_,_=>by
  obtain⟨v,h1,h2⟩:=hR a w L h;exact⟨v,h1,h2⟩
 |D::Ds,a,w,L,h,hd,hn,hk=>by
  refine⟨by simp,.inl ⟨D,w.putObj D (.deferred none),rfl,run_takeDeferred (hk D (Za5 ..)).1, ?_⟩⟩;have h':=Ow hJ h hd hn hk;obtain⟨Ds',e1,_,e3,_⟩:=h'.defers;have e:Ds'=Ds:=by
   have hi:∀(l l':List Nat),l.map mark=l'.map mark->l=l':=by
    intro l;induction l with
    |nil=>intro l' e;cases l'<;>simp_all
    |cons x l ih=>
     intro l' e;cases l' with
     |nil=>simp at e
     |cons y l'=>
      simp only[Zau,Za6,mark,Deferred.mk.injEq,Target.collected.injEq,and_true]at e;rw[e.1,ih l' e.2]
   exact hi _ _ e1.symm
  subst e;exact leaves hJ hR Ds' {a with defers:=Ds'.map mark} _ L h' rfl (ZbM.1 hn).2 e3
def aQ(P:Program)(f:FuncId)(nt:Nat)(d:DC)(rs:List bN):Prop:=
 ∃fn,P.funcs[f]? =some fn/\fn.ntmps=nt/\fn.body.map (bB P nt)=some d/\fn.results.toList.mapM (te P)=some rs/\(fn.name== "runtime.NumGoroutine")=false
theorem aQ.entry{f:FuncId}{nt:Nat}{d:DC}{rs:List bN}(h:aQ P f nt d rs):Entry P f:=by
 obtain⟨fn,h1,_,h3,_,h5⟩:=h;obtain⟨c,h2,_⟩:=Zab.1 h3;exact⟨fn,h1,by simpa using h5,by simp[h2]⟩
theorem oH{n:Nat}{vals:Array Value}{k:Nat}{v:Value}(h:vals.toList[k]? =some v):(vals++Array.replicate (n-vals.size) Go.undef).getD k Go.undef=v:=by
 have cW:k<vals.size:=by have:=(Zas.1 h).1;simpa using this
 rw[Zax,ZcD cW];simp only[Array.getElem?_toList]at h;rw[h];rfl
theorem oI{n:Nat}{vals:Array Value}{k:Nat}(h:vals.size<=k):(vals++Array.replicate (n-vals.size) Go.undef).getD k Go.undef=Go.undef:=by
 rw[Zax,Array.getElem?_append_right h,Array.getElem?_replicate];split<;>rfl
theorem aQ.ok{f:FuncId}{nt:Nat}{d:DC}{rs:List bN}(h:aQ P f nt d rs){ts:List T}{t:T}(hlen:ts.length<=nt)(k:aa P nt d (finQ rs t) (nN ts)):aT P f ts t:=by
 have As:=h.entry;obtain⟨fn,wo,rfl,h3,hr,_⟩:=h;obtain⟨c,hb,hc⟩:=Zab.1 h3;refine⟨As,λW w vals hW hg eI=>?_⟩;have hl:=dw.length eI;simp only[ZaU]at hl;have u0:Rel ⟨W,λ_=>none,⟨λ_=>0,λ_=>Go.undef,0⟩,w,w.heap.size,λ_=>False,w,none,none⟩ fn.ntmps (nN ts) {tmps:=vals++Array.replicate (fn.ntmps-vals.size) Go.undef,defers:=[]} w ⟨λ_=>0,λ_=>Go.undef,0⟩:=by
  refine⟨⟨⟨W,w.heap.size,λ_=>False,w,⟨rfl,rfl,rfl,rfl,rfl⟩,by simp;omega,λk=>?_,⟨Fr.refl (Zae _),(λr o h=>by cases h),(λr r' o o' b _ h=>by cases h),(λr o b h=>by cases h),hW,hg.start⟩⟩,
   iX.cd (cb.refl _ _),⟨[],rfl,ZbT,(λ_ h=>by cases h),λ_=>rfl⟩,λ_=>Zae _,⟨0,λ_ _=>rfl⟩⟩,λ_ _=>rfl,λ_ _=>rfl,λh=>by cases h⟩
  simp only[nN];cases hk:ts[k]? with
  |some x=>
   obtain⟨v,hv,jj⟩:=dw.get eI hk;simp only[oH hv,y9,av];refine aR.aC (cb.refl W w).toKeepsC ?_ x v jj;rintro b hb (h|⟨r,o,h,_⟩)
   ·exact h
   ·cases h
  |none=>
   have zf:vals.size<=k:=by
    have:=ZbF.1 hk;omega
   simp only[y9,av,oI zf]
 refine callsIn_wide.1 (callsIn_of_wp_marks (n:=0) wo hb trivial ?_);refine wpIn_mono (k.run c hc 0 _ _ _ _ ⟨λJ hJ=>(by cases hJ),λl hl=>(by cases hl)⟩ u0) ?_;rintro e a' w' ⟨df,L',q,r'⟩;have done:QT rs t df->LeavesInM Fence.wide 0 P fn a'.tmps (λe w'=>∃v,e=.returned v/\tE w.heap.size w w'/\aR w' W t v) a'.defers .returning w':=by
  intro hq;obtain⟨Ds,h1,h2,h3,_⟩:=r'.r.defers;rw[h1];refine leaves (κ:=⟨W,λ_=>none,⟨λ_=>0,λ_=>Go.undef,0⟩,w,w.heap.size,λ_=>False,w,none,none⟩) rfl ?_ Ds a' w' L' r'.r h1 h2 h3;intro a2 w2 L2 h4;obtain⟨W',MD,M',w0',dI,h0⟩:=h4.ex;obtain⟨_,e1,e2,e3,e4⟩:=dI
  replace h0:R0 w.heap.size W (λ_=>False) w fn.ntmps df.tmps df.objs a2 w2 L2:=by rw[e1,e2,e3,e4]at h0;exact h0
  obtain⟨v,k1,k2⟩:=rj (st:=df) h0 (lend:=true) (W':=W) (λ_ r o b e1 e2=>h0.o.outer r o b e1 e2) (λb hb=>.inl hb) hr hq;have fr:=h0.o.fr;exact⟨v,k1,v,rfl,⟨⟨fr.os,fr.tape,fr.output,fr.size,λk hk=>fr.block k hk (λx=>x)⟩,fr.drawn⟩,k2⟩
 cases e with
 |normal=>exact done q
 |ret=>exact done q
 |_=>exact q.elim
theorem aQ.okS{f:FuncId}{nt:Nat}{d:DC}{rs:List bN}(h:aQ P f nt d rs){args:List DV}{objs:aU}{r:iw}{N:Nat}(hN:∀r,N<=r->objs r=none)(hlen:args.length<=nt)(k:aa P nt d (Xm rs r) (yn args objs N)):aY P f args objs r:=by
 have As:=h.entry;obtain⟨fn,wo,rfl,h3,hr,_⟩:=h;obtain⟨c,hb,hc⟩:=Zab.1 h3;refine⟨As,λbase W M w0 w L vals hO Od=>?_⟩;have hl:=Od.1;simp only[ZaU]at hl;have u0:Rel ⟨W,objs,L,w,base,M,w0,none,none⟩ fn.ntmps (yn args objs N) {tmps:=vals++Array.replicate (fn.ntmps-vals.size) Go.undef,defers:=[]} w L:=by
  refine⟨⟨⟨W,base,M,w0,⟨rfl,rfl,rfl,rfl,rfl⟩,by simp;omega,λk=>?_,hO⟩,
   iX.cd (cb.refl _ _),⟨[],rfl,ZbT,(λ_ h=>by cases h),λ_=>rfl⟩,λ_=>ZaC hO.fr.hZ hO.fr.size,⟨N,hN⟩⟩,hN,hN,λh=>by cases h⟩
  simp only[yn];cases hk:args[k]? with
  |some x=>
   have hv:∃v,vals.toList[k]? =some v:=by
    have:k<vals.size:=by rw[hl];exact(Zas.1 hk).1
    exact⟨vals[k],by simp[this]⟩
   obtain⟨v,hv⟩:=hv;simp only[oH hv,JZ];exact Od.2 k x v hk hv
  |none=>
   have zf:vals.size<=k:=by
    have:=ZbF.1 hk;omega
   simp only[JZ,av,oI zf]
 refine callsIn_wide.1 (callsIn_of_wp_marks (n:=0) wo hb trivial ?_);refine wpIn_mono (k.run c hc 0 _ _ _ _ ⟨λJ hJ=>(by cases hJ),λl hl=>(by cases hl)⟩ u0) ?_;rintro e a' w' ⟨df,L',q,r'⟩;have done:JY rs r df->LeavesInM Fence.wide 0 P fn a'.tmps (λe w'=>∃v L',e=.returned v/\bK base W M w0 r.objs w' L'/\iX W objs L w r.objs L' w'/\av w' W r.objs L' r.val v) a'.defers .returning w':=by
  rintro⟨hq1,Wz,hq3⟩;obtain⟨Ds,h1,h2,h3,_⟩:=r'.r.defers;rw[h1];refine leaves (κ:=⟨W,objs,L,w,base,M,w0,none,none⟩) rfl ?_ Ds a' w' L' r'.r h1 h2 h3;intro a2 w2 L2 h4;obtain⟨W',MD,M',w0',dI,h0⟩:=h4.ex;obtain⟨_,e1,e2,e3,e4⟩:=dI
  replace h0:R0 base W M w0 fn.ntmps df.tmps df.objs a2 w2 L2:=by rw[e1,e2,e3,e4]at h0;exact h0
  obtain⟨v,k1,k2⟩:=rj (st:=df) h0 (lend:=false) (W':=WW W df.objs L2) (λx=>by cases x) (λb hb=>hb) hr ⟨hq1,rfl⟩;have ME:=h0.o;have wv:=h4.ee;simp only[Wz]at ME wv k2;refine⟨v,k1,v,L2,rfl,ME,wv, ?_⟩;rw[hq3];simp only[av];exact k2
 cases e with
 |normal=>exact done q
 |ret=>exact done q
 |_=>exact q.elim
end
end Go.DM
namespace Go.DM
open Go.RowKit
variable [Laid]
def exec(Γ:Env)(nxt:Nat):List RO->RS->(RS->Prop)->Prop
 |[],st,K=>K st
 |r::rs,st,K=>
  match r.guard with
  |none=>b8 r st.tmps/\qT r st.objs (post Γ nxt r st).objs/\(post Γ nxt r st).ok/\exec Γ nxt rs ⟨b7 st.tmps r.dst (post Γ nxt r st).val,(post Γ nxt r st).objs,(post Γ nxt r st).todo⟩ K
  |some (s,want)=>
   match st.tmps s with
   |.v (.bool b)=>(b=want->b8 r st.tmps/\qT r st.objs (post Γ nxt r st).objs/\(post Γ nxt r st).ok/\exec Γ nxt rs ⟨b7 (b7 st.tmps (some s) (.v (.bool want))) r.dst (post Γ nxt r st).val,(post Γ nxt r st).objs,(post Γ nxt r st).todo⟩ K)/\
     (b= !want->exec Γ nxt rs ⟨b7 (b7 st.tmps (some s) (.v (.bool (!want)))) r.dst .skip,st.objs,st.todo⟩ K)
   |.skip=>exec Γ nxt rs ⟨b7 st.tmps r.dst .skip,st.objs,st.todo⟩ K
   |_=>False
theorem iC{ρ:Nat->DV}{s:Nat}{v:DV}(h:ρ s=v):b7 ρ (some s) v=ρ:=by
 funext x;simp only[b7];split
 ·rename_i e;rw[e,h]
 ·rfl
theorem eL{Γ:Env}{nxt:Nat}:∀(rs:List RO) (st:RS) (K:RS->Prop),exec Γ nxt rs st K->iL Γ nxt rs st/\K (cL Γ nxt rs st)
 |[],st,K,h=>⟨trivial,h⟩
 |r::rs,st,K,h=>by
  simp only[exec]at h;simp only[iL,cL];have yes:ef r.guard st.tmps=some true->(b8 r st.tmps/\qT r st.objs (post Γ nxt r st).objs/\(post Γ nxt r st).ok/\exec Γ nxt rs ⟨b7 st.tmps r.dst (post Γ nxt r st).val,(post Γ nxt r st).objs,(post Γ nxt r st).todo⟩ K)->(bT Γ nxt r st/\iL Γ nxt rs (cI Γ nxt r st))/\K (cL Γ nxt rs (cI Γ nxt r st)):=by
   rintro hw ⟨ht,hk4,aF,hk⟩;have e1:cI Γ nxt r st=⟨b7 st.tmps r.dst (post Γ nxt r st).val,(post Γ nxt r st).objs,(post Γ nxt r st).todo⟩:=by simp only[cI,hw]
   have e2:bT Γ nxt r st:=by simp only[bT,hw];exact⟨aF,ht,hk4⟩
   rw[e1];have:=eL rs _ K hk;exact⟨⟨e2,this.1⟩,this.2⟩
  have no:ef r.guard st.tmps=some false->exec Γ nxt rs ⟨b7 st.tmps r.dst .skip,st.objs,st.todo⟩ K->(bT Γ nxt r st/\iL Γ nxt rs (cI Γ nxt r st))/\K (cL Γ nxt rs (cI Γ nxt r st)):=by
   rintro hw hk;have e1:cI Γ nxt r st=⟨b7 st.tmps r.dst .skip,st.objs,st.todo⟩:=by simp only[cI,hw]
   have e2:bT Γ nxt r st:=by simp only[bT,hw]
   rw[e1];have:=eL rs _ K hk;exact⟨⟨e2,this.1⟩,this.2⟩
  cases hg:r.guard with
  |none=>rw[hg]at h;exact yes (by simp[ef,hg]) h
  |some g=>
   obtain⟨s,want⟩:=g;rw[hg]at h;simp only at h;cases hs:st.tmps s with
   |skip=>rw[hs]at h;exact no (by simp[ef,hg,hs]) h
   |v t=>
    rw[hs]at h;cases t with
    |bool b=>
     simp only at h;by_cases hb:b=want
     ·subst hb;rw[iC hs]at h;exact yes (by simp[ef,hg,hs]) (h.1 rfl)
     ·have mH:b= !want:=by cases b<;>cases want<;>simp_all
      subst mH;rw[iC hs]at h;exact no (by simp[ef,hg,hs]) (h.2 rfl)
    |_=>exact h.elim
   |_=>rw[hs]at h;exact h.elim
def eY(Γ:Env)(nxt:Nat)(rs:List RO)(tm:Nat->DV)(ob:aU)(td:List (List T))(K:RS->Prop)(dst:Option Nat)(e:oj):Prop:=
 e.ok/\exec Γ nxt rs ⟨b7 tm dst e.val,bR ob e.put,td⟩ K
def CW(Γ:Env)(nxt:Nat)(rs:List RO)(tm:Nat->DV)(K:RS->Prop)(dst:Option Nat)(e:SEff):Prop:=
 e.ok/\exec Γ nxt rs ⟨b7 tm dst e.val,e.objs,e.todo⟩ K
def ko(Γ:Env)(nxt:Nat)(d:nH)(rs:List RO)(tm:Nat->DV)(ob:aU)(td:List (List T))(K:RS->Prop)(dst:Option Nat)(eR:Nat->DV):Prop:=
 if oU d then CW Γ nxt rs eR K dst (lU Γ d tm ob td)else eY Γ nxt rs eR ob td K dst (cw Γ d (nameOf nxt dst) tm ob)
def J1(Γ:Env)(nxt:Nat)(d:nH)(rs:List RO)(tm:Nat->DV)(ob:aU)(td:List (List T))(K:RS->Prop)(dst:Option Nat)(s:Nat)(want:Bool)(g:DV):Prop:=
 match g with
 |.v (.bool b)=>(b=want->ko Γ nxt d rs tm ob td K dst (b7 tm (some s) (.v (.bool want))))/\
   (b= !want->exec Γ nxt rs ⟨b7 (b7 tm (some s) (.v (.bool (!want)))) dst .skip,ob,td⟩ K)
 |.skip=>exec Γ nxt rs ⟨b7 tm dst .skip,ob,td⟩ K
 |_=>False
section
variable{Γ:Env}{nxt:Nat}{st:RS}{K:RS->Prop}{rs:List RO}{tm eR:Nat->DV}{ob:aU}{td:List (List T)}{dst:Option Nat}
theorem Xo(ok:Prop)(v:DV)(p:Option (Nat×Ob)):eY Γ nxt rs tm ob td K dst ⟨ok,v,p⟩=(ok/\exec Γ nxt rs ⟨b7 tm dst v,bR ob p,td⟩ K):=rfl
theorem QU(ok:Prop)(v:DV)(ob':aU)(td':List (List T)):CW Γ nxt rs tm K dst ⟨ok,v,ob',td'⟩=(ok/\exec Γ nxt rs ⟨b7 tm dst v,ob',td'⟩ K):=rfl
theorem QW:eY Γ nxt rs tm ob td K dst bad=False:=by simp[eY,bad]
theorem Oy(f:FuncId)(args:List bp):ko Γ nxt (.callS f args) rs tm ob td K dst eR=CW Γ nxt rs eR K dst (lU Γ (.callS f args) tm ob td):=by simp[ko,oU]
theorem Oz(x:bp)(args:List bp):ko Γ nxt (.callv x args) rs tm ob td K dst eR=CW Γ nxt rs eR K dst (lU Γ (.callv x args) tm ob td):=by simp[ko,oU]
theorem lp(d:nH)(s:Nat)(b want:Bool):J1 Γ nxt d rs tm ob td K dst s want (.v (.bool b))=((b=want->ko Γ nxt d rs tm ob td K dst (b7 tm (some s) (.v (.bool want))))/\
   (b= !want->exec Γ nxt rs ⟨b7 (b7 tm (some s) (.v (.bool (!want)))) dst .skip,ob,td⟩ K)):=rfl
theorem QX:exec Γ nxt [] st K=K st:=rfl
theorem u4{d:nH}{g:Option (Nat×Bool)}{af:List Nat}{l:Option (List Nat)}:((post Γ nxt ⟨d,dst,g,af,l⟩ ⟨tm,ob,td⟩).ok/\exec Γ nxt rs ⟨b7 eR dst (post Γ nxt ⟨d,dst,g,af,l⟩ ⟨tm,ob,td⟩).val,(post Γ nxt ⟨d,dst,g,af,l⟩ ⟨tm,ob,td⟩).objs,(post Γ nxt ⟨d,dst,g,af,l⟩ ⟨tm,ob,td⟩).todo⟩ K)=ko Γ nxt d rs tm ob td K dst eR:=by
 unfold post ko;cases h:oU d<;>simp[eY,CW,pe]
theorem Au{d:nH}{g:Option (Nat×Bool)}{af:List Nat}{o o':aU}:qT ⟨d,dst,g,af,none⟩ o o'=True:=eq_true λ_ l h=>by cases h
def CX(l:List Nat)(o o':aU):Prop:=∀n,n∉l->o' n=o n
theorem Av{d:nH}{g:Option (Nat×Bool)}{af l:List Nat}:qT ⟨d,dst,g,af,some l⟩ ob (post Γ nxt ⟨d,dst,g,af,some l⟩ ⟨tm,ob,td⟩).objs=(oU d=true->CX l ob (lU Γ d tm ob td).objs):=by
 unfold qT CX post;by_cases h:oU d=true
 ·simp[h]
 ·simp[h]
theorem J2(d:nH)(af:List Nat):exec Γ nxt (⟨d,dst,none,af,none⟩::rs) ⟨tm,ob,td⟩ K=ko Γ nxt d rs tm ob td K dst tm:=by
 simp only[exec,b8,Au,true_and];exact u4
theorem J3(d:nH)(af:List Nat)(l:List Nat):
  exec Γ nxt (⟨d,dst,none,af,some l⟩::rs) ⟨tm,ob,td⟩ K=(b8 ⟨d,dst,none,af,some l⟩ tm/\(oU d=true->CX l ob (lU Γ d tm ob td).objs)/\ko Γ nxt d rs tm ob td K dst tm):=by
 simp only[exec];rw[u4,Av]
@[simp low] theorem mM(d:nH)(s:Nat)(want:Bool)(af:List Nat):
  exec Γ nxt (⟨d,dst,some (s,want),af,none⟩::rs) ⟨tm,ob,td⟩ K=J1 Γ nxt d rs tm ob td K dst s want (tm s):=by
 simp only[exec,J1,b8,Au,true_and];rw[u4]
end
section
variable{Γ:Env}{nxt:Nat}{K:RS->Prop}{rs:List RO}{tm:Nat->DV}{ob:aU}{td:List (List T)}{dst:Option Nat}{d:nH}{s:Nat}{af:List Nat}
@[simp] theorem exec_g_tt(h:tm s=.v (.bool true)):exec Γ nxt (⟨d,dst,some (s,true),af,none⟩::rs) ⟨tm,ob,td⟩ K=ko Γ nxt d rs tm ob td K dst tm:=by
 rw[mM,h,lp,iC h];simp
@[simp] theorem exec_g_ff(h:tm s=.v (.bool false)):exec Γ nxt (⟨d,dst,some (s,false),af,none⟩::rs) ⟨tm,ob,td⟩ K=ko Γ nxt d rs tm ob td K dst tm:=by
 rw[mM,h,lp,iC h];simp
@[simp] theorem exec_g_tf(h:tm s=.v (.bool true)):exec Γ nxt (⟨d,dst,some (s,false),af,none⟩::rs) ⟨tm,ob,td⟩ K=exec Γ nxt rs ⟨b7 tm dst .skip,ob,td⟩ K:=by
 rw[mM,h,lp];simp[iC h]
@[simp] theorem exec_g_ft(h:tm s=.v (.bool false)):exec Γ nxt (⟨d,dst,some (s,true),af,none⟩::rs) ⟨tm,ob,td⟩ K=exec Γ nxt rs ⟨b7 tm dst .skip,ob,td⟩ K:=by
 rw[mM,h,lp];simp[iC h]
@[simp] theorem exec_g_sk{want:Bool}(h:tm s=.skip):exec Γ nxt (⟨d,dst,some (s,want),af,none⟩::rs) ⟨tm,ob,td⟩ K=exec Γ nxt rs ⟨b7 tm dst .skip,ob,td⟩ K:=by
 rw[mM,h];rfl
end
def look:List (Nat×DV)->Nat->DV
 |[],_=>.undef
 |(j,v)::l,k=>if k=j then v else look l k
def cA:List (Nat×Ob)->Nat->Option Ob
 |[],_=>none
 |(j,o)::l,k=>if k=j then some o else cA l k
theorem QY(f:Nat->DV)(k:Nat)(v:DV)(x:Nat):b7 f (some k) v x=if x=k then v else f x:=rfl
theorem OA(f:Nat->DV)(v:DV):b7 f none v=f:=rfl
theorem OB(f:aU):bR f none=f:=rfl
theorem CY(f:aU)(r:Nat)(o:Ob)(x:Nat):bR f (some (r,o)) x=if x=r then some o else f x:=rfl
theorem mi(j:Nat)(v:DV)(l:List (Nat×DV))(k:Nat):look ((j,v)::l) k=if k=j then v else look l k:=rfl
theorem look_nil(k:Nat):look [] k=.undef:=rfl
theorem dt(j:Nat)(o:Ob)(l:List (Nat×Ob))(k:Nat):cA ((j,o)::l) k=if k=j then some o else cA l k:=rfl
theorem lY(k:Nat):cA [] k=none:=rfl
theorem QZ(l:List (Nat×Ob))(r:Nat)(o:Ob):bR (cA l) (some (r,o))=cA ((r,o)::l):=rfl
def kp(ks:List Nat)(tm:Nat->DV):List (Nat×DV):=ks.map λk=>(k,tm k)
theorem Aw(k:Nat)(ks:List Nat)(tm:Nat->DV):kp (k::ks) tm=(k,tm k)::kp ks tm:=rfl
theorem OC(tm:Nat->DV):kp [] tm=[]:=rfl
theorem mN(tm:Nat->DV):∀(ks:List Nat) (k:Nat),look (kp ks tm) k=.undef\/look (kp ks tm) k=tm k
 |[],_=>.inl rfl
 |j::ks,k=>by
  rw[Aw,mi];split
  ·rename_i h;exact .inr (by rw[h])
  ·exact mN tm ks k
theorem Le.u5{st:kW}{tm:Nat->DV}(h:∀k,tm k=.undef\/tm k=st.tmps k):Le st ⟨tm,st.objs,st.nxt,st.low,st.todo⟩:=λκ nt a w L r=>
 ⟨L,⟨by
  obtain⟨W,base,M,w0,dI,h0⟩:=r.r.ex;exact⟨W,base,M,w0,dI,h0.size,λt=>by
   rcases h t with e|e
   ·show av w W st.objs L (tm t) _;rw[e];simp[av]
   ·show av w W st.objs L (tm t) _;rw[e];exact h0.tmps t,h0.o⟩,r.r.ee,r.r.defers,r.r.bg,r.r.fin⟩,r.fresh,r.low,r.it⟩
theorem OD(ts:List T):Le (nN ts) ⟨look ((ts.map .v).zipIdx.map λp=>(p.2,p.1)),cA [],1000,1000,[]⟩:=by
 have key:∀(ts:List T) (i k:Nat),look (((ts.map .v).zipIdx i).map λp=>(p.2,p.1)) k=.undef\/look (((ts.map .v).zipIdx i).map λp=>(p.2,p.1)) k=y9 (if i<=k then ts[k-i]? else none):=by
  intro ts;induction ts with
  |nil=>intro i k;exact .inl rfl
  |cons t ts ih=>
   intro i k;simp only[Zau,Zb7,mi];split
   ·rename_i h;subst h;exact .inr (by simp[y9])
   ·rename_i h;rcases ih (i+1) k with e|e
    ·exact .inl e
    ·right;rw[e];by_cases hk:i+1<=k
     ·rw[if_pos hk,if_pos (by omega),show k-i=(k-(i+1))+1 by omega,ZaX]
     ·have:¬i<=k:=by omega
      rw[if_neg hk,if_neg this]
 refine Le.trans (Le.u5 (st:=nN ts) (tm:=look ((ts.map .v).zipIdx.map λp=>(p.2,p.1))) λk=>?_) (λκ nt a w L r=>⟨L,r⟩);have:=key ts 0 k;simpa [nN]using this
section
variable{P:Program}{nt:Nat}{Γ:Env}{Q:Exit->kW->Prop}{st:kW}{tm:Nat->DV}{ob:aU}{nxt low:Nat}{td:List (List T)}
theorem aa.dp(aw:ay P Γ)(hm:P.follows .mixedOrders=true){draw:Bool}{rs:List RO}(ks:List Nat)
  (h:exec Γ nxt rs ⟨tm,ob,td⟩ λs=>Q .normal ⟨look (kp ks s.tmps),s.objs,nxt+nt+1,low,s.todo⟩):aa P nt (.region draw rs) Q ⟨tm,ob,nxt,low,td⟩:=by
 have:=eL _ _ _ h;refine aa.uX (Q:=λe s=>e=.normal/\s=⟨(cL Γ nxt rs ⟨tm,ob,td⟩).tmps,(cL Γ nxt rs ⟨tm,ob,td⟩).objs,nxt+nt+1,low,(cL Γ nxt rs ⟨tm,ob,td⟩).todo⟩) (aa.region aw hm (st:=⟨tm,ob,nxt,low,td⟩) this.1 ⟨rfl,rfl⟩) ?_;rintro e s ⟨rfl,rfl⟩;exact⟨_,Le.u5 (mN _ ks),this.2⟩
theorem aa.ab(aw:ay P Γ)(hm:P.follows .mixedOrders=true){draw:Bool}{rs:List RO}{b:DC}(ks:List Nat)
  (h:exec Γ nxt rs ⟨tm,ob,td⟩ λs=>aa P nt b Q ⟨look (kp ks s.tmps),s.objs,nxt+nt+1,low,s.todo⟩):aa P nt (.seq (.region draw rs) b) Q ⟨tm,ob,nxt,low,td⟩:=
 aa.seq (aa.dp aw hm ks h)
theorem aa.tO(aw:ay P Γ)(hm:P.follows .mixedOrders=true){d:DC}{rs:List RO}(hd:d=.jU (rs.map bare)\/∃draw,d=.region draw (rs.map bare))(aF:da nt true rs=true)(ks:List Nat)
  (h:exec Γ nxt rs ⟨tm,ob,td⟩ λs=>Q .normal ⟨look (kp ks s.tmps),s.objs,nxt+nt+1,low,s.todo⟩):aa P nt d Q ⟨tm,ob,nxt,low,td⟩:=by
 have:=eL _ _ _ h;refine aa.uX (Q:=λe s=>e=.normal/\s=⟨(cL Γ nxt rs ⟨tm,ob,td⟩).tmps,(cL Γ nxt rs ⟨tm,ob,td⟩).objs,nxt+nt+1,low,(cL Γ nxt rs ⟨tm,ob,td⟩).todo⟩) (aa.Xj aw hm hd aF (st:=⟨tm,ob,nxt,low,td⟩) this.1 ⟨rfl,rfl⟩) ?_;rintro e s ⟨rfl,rfl⟩;exact⟨_,Le.u5 (mN _ ks),this.2⟩
theorem aa.iD(aw:ay P Γ)(hm:P.follows .mixedOrders=true){d b:DC}{rs:List RO}(hd:d=.jU (rs.map bare)\/∃draw,d=.region draw (rs.map bare))(aF:da nt true rs=true)(ks:List Nat)
  (h:exec Γ nxt rs ⟨tm,ob,td⟩ λs=>aa P nt b Q ⟨look (kp ks s.tmps),s.objs,nxt+nt+1,low,s.todo⟩):aa P nt (.seq d b) Q ⟨tm,ob,nxt,low,td⟩:=
 aa.seq (aa.tO aw hm hd aF ks h)
end
theorem aJ{P:Program}{nt:Nat}{d:DC}{Q:Exit->kW->Prop}{ts:List T}(h:aa P nt d Q ⟨look ((ts.map .v).zipIdx.map λp=>(p.2,p.1)),cA [],1000,1000,[]⟩):aa P nt d Q (nN ts):=aa.le (OD ts) h
section
variable{Γ:Env}{nxt:Nat}{K:RS->Prop}{rs:List RO}{tm eR:Nat->DV}{ob:aU}{td:List (List T)}{dst:Option Nat}
@[simp] theorem goD_mov(x:bp):ko Γ nxt (.bP x) rs tm ob td K dst eR=eY Γ nxt rs eR ob td K dst (cw Γ (.bP x) (nameOf nxt dst) tm ob):=rfl
@[simp] theorem goD_pick(c a b:bp):ko Γ nxt (.pick c a b) rs tm ob td K dst eR=eY Γ nxt rs eR ob td K dst (cw Γ (.pick c a b) (nameOf nxt dst) tm ob):=rfl
@[simp] theorem goD_alloc(zero:List DV):ko Γ nxt (.alloc zero) rs tm ob td K dst eR=eY Γ nxt rs eR ob td K dst (cw Γ (.alloc zero) (nameOf nxt dst) tm ob):=rfl
@[simp] theorem goD_box(x:bp):ko Γ nxt (.box x) rs tm ob td K dst eR=eY Γ nxt rs eR ob td K dst (cw Γ (.box x) (nameOf nxt dst) tm ob):=rfl
@[simp] theorem goD_build(zero:List DV)(parts:List (Nat×Nat×bp)):ko Γ nxt (.build zero parts) rs tm ob td K dst eR=eY Γ nxt rs eR ob td K dst (cw Γ (.build zero parts) (nameOf nxt dst) tm ob):=rfl
@[simp] theorem goD_bslice(len sz:Nat)(zero:List DV)(parts:List (Nat×Nat×bp)):ko Γ nxt (.bslice len sz zero parts) rs tm ob td K dst eR=eY Γ nxt rs eR ob td K dst (cw Γ (.bslice len sz zero parts) (nameOf nxt dst) tm ob):=rfl
@[simp] theorem goD_load(n:Nat)(agg:Bool)(x:bp):ko Γ nxt (.load n agg x) rs tm ob td K dst eR=eY Γ nxt rs eR ob td K dst (cw Γ (.load n agg x) (nameOf nxt dst) tm ob):=rfl
@[simp] theorem goD_store(n:Nat)(x y:bp):ko Γ nxt (.store n x y) rs tm ob td K dst eR=eY Γ nxt rs eR ob td K dst (cw Γ (.store n x y) (nameOf nxt dst) tm ob):=rfl
@[simp] theorem goD_bin(op:BinOp)(x y:bp):ko Γ nxt (.bin op x y) rs tm ob td K dst eR=eY Γ nxt rs eR ob td K dst (cw Γ (.bin op x y) (nameOf nxt dst) tm ob):=rfl
@[simp] theorem goD_eqT(neg agg:Bool)(shs:List Sh)(x y:bp):ko Γ nxt (.eqT neg agg shs x y) rs tm ob td K dst eR=eY Γ nxt rs eR ob td K dst (cw Γ (.eqT neg agg shs x y) (nameOf nxt dst) tm ob):=rfl
@[simp] theorem goD_un(op:UnOp)(x:bp):ko Γ nxt (.un op x) rs tm ob td K dst eR=eY Γ nxt rs eR ob td K dst (cw Γ (.un op x) (nameOf nxt dst) tm ob):=rfl
@[simp] theorem goD_conv(k:IntKind)(x:bp):ko Γ nxt (.conv k x) rs tm ob td K dst eR=eY Γ nxt rs eR ob td K dst (cw Γ (.conv k x) (nameOf nxt dst) tm ob):=rfl
@[simp] theorem goD_addOff(k:Nat)(x:bp):ko Γ nxt (.addOff k x) rs tm ob td K dst eR=eY Γ nxt rs eR ob td K dst (cw Γ (.addOff k x) (nameOf nxt dst) tm ob):=rfl
@[simp] theorem Xp(x:bp):ko Γ nxt (.nilCheck x) rs tm ob td K dst eR=eY Γ nxt rs eR ob td K dst (cw Γ (.nilCheck x) (nameOf nxt dst) tm ob):=rfl
@[simp] theorem YV(sz:Nat)(x i:bp):ko Γ nxt (.idxAddr sz x i) rs tm ob td K dst eR=eY Γ nxt rs eR ob td K dst (cw Γ (.idxAddr sz x i) (nameOf nxt dst) tm ob):=rfl
@[simp] theorem YW(len sz:Nat)(x i:bp):ko Γ nxt (.arrAddr len sz x i) rs tm ob td K dst eR=eY Γ nxt rs eR ob td K dst (cw Γ (.arrAddr len sz x i) (nameOf nxt dst) tm ob):=rfl
@[simp] theorem goD_field(off n:Nat)(agg:Bool)(x:bp):ko Γ nxt (.field off n agg x) rs tm ob td K dst eR=eY Γ nxt rs eR ob td K dst (cw Γ (.field off n agg x) (nameOf nxt dst) tm ob):=rfl
@[simp] theorem goD_slice(sz:Nat)(x:bp)(lo hi:Option bp):ko Γ nxt (.slice sz x lo hi) rs tm ob td K dst eR=eY Γ nxt rs eR ob td K dst (cw Γ (.slice sz x lo hi) (nameOf nxt dst) tm ob):=rfl
@[simp] theorem YX(i:Nat)(x:bp):ko Γ nxt (.extract i x) rs tm ob td K dst eR=eY Γ nxt rs eR ob td K dst (cw Γ (.extract i x) (nameOf nxt dst) tm ob):=rfl
@[simp] theorem goD_call(f:FuncId)(args:List bp):ko Γ nxt (.call f args) rs tm ob td K dst eR=eY Γ nxt rs eR ob td K dst (cw Γ (.call f args) (nameOf nxt dst) tm ob):=rfl
@[simp] theorem goD_len(x:bp):ko Γ nxt (.len x) rs tm ob td K dst eR=eY Γ nxt rs eR ob td K dst (cw Γ (.len x) (nameOf nxt dst) tm ob):=rfl
@[simp] theorem goD_lenS(x:bp):ko Γ nxt (.lenS x) rs tm ob td K dst eR=eY Γ nxt rs eR ob td K dst (cw Γ (.lenS x) (nameOf nxt dst) tm ob):=rfl
@[simp] theorem goD_minmax(isMax:Bool)(x y:bp):ko Γ nxt (.minmax isMax x y) rs tm ob td K dst eR=eY Γ nxt rs eR ob td K dst (cw Γ (.minmax isMax x y) (nameOf nxt dst) tm ob):=rfl
@[simp] theorem goD_append(e sz bytes:Nat)(x y:bp):ko Γ nxt (.append e sz bytes x y) rs tm ob td K dst eR=eY Γ nxt rs eR ob td K dst (cw Γ (.append e sz bytes x y) (nameOf nxt dst) tm ob):=rfl
@[simp] theorem YY(e sz bytes:Nat)(zero:List T)(n:bp):ko Γ nxt (.mkSlice e sz bytes zero n) rs tm ob td K dst eR=eY Γ nxt rs eR ob td K dst (cw Γ (.mkSlice e sz bytes zero n) (nameOf nxt dst) tm ob):=rfl
@[simp] theorem Xq(e sz bytes:Nat)(zero:List T)(n:bp):ko Γ nxt (.mkSliceB e sz bytes zero n) rs tm ob td K dst eR=eY Γ nxt rs eR ob td K dst (cw Γ (.mkSliceB e sz bytes zero n) (nameOf nxt dst) tm ob):=rfl
@[simp] theorem goD_mkFn(f:Fn)(caps:List bp):ko Γ nxt (.mkFn f caps) rs tm ob td K dst eR=eY Γ nxt rs eR ob td K dst (cw Γ (.mkFn f caps) (nameOf nxt dst) tm ob):=rfl
@[simp] theorem goD_callR(f:FuncId)(args:List bp):ko Γ nxt (.callR f args) rs tm ob td K dst eR=eY Γ nxt rs eR ob td K dst (cw Γ (.callR f args) (nameOf nxt dst) tm ob):=rfl
@[simp] theorem goD_callF(f:FuncId)(args:List bp):ko Γ nxt (.callF f args) rs tm ob td K dst eR=eY Γ nxt rs eR ob td K dst (cw Γ (.callF f args) (nameOf nxt dst) tm ob):=rfl
@[simp] theorem goD_mkMap(shs:List Sh)(agg:Bool):ko Γ nxt (.mkMap shs agg) rs tm ob td K dst eR=eY Γ nxt rs eR ob td K dst (cw Γ (.mkMap shs agg) (nameOf nxt dst) tm ob):=rfl
@[simp] theorem goD_lookup(shs:List Sh)(agg:Bool)(zero:DV)(ok:Bool)(x k:bp):ko Γ nxt (.lookup shs agg zero ok x k) rs tm ob td K dst eR=eY Γ nxt rs eR ob td K dst (cw Γ (.lookup shs agg zero ok x k) (nameOf nxt dst) tm ob):=rfl
@[simp] theorem goD_mapUpd(shs:List Sh)(agg:Bool)(x k y:bp):ko Γ nxt (.mapUpd shs agg x k y) rs tm ob td K dst eR=eY Γ nxt rs eR ob td K dst (cw Γ (.mapUpd shs agg x k y) (nameOf nxt dst) tm ob):=rfl
@[simp] theorem goD_mapEnt(shs:List Sh)(agg:Bool)(z:DV)(x k:bp):ko Γ nxt (.mapEnt shs agg z x k) rs tm ob td K dst eR=eY Γ nxt rs eR ob td K dst (cw Γ (.mapEnt shs agg z x k) (nameOf nxt dst) tm ob):=rfl
@[simp] theorem goD_entSt(x s y:bp):ko Γ nxt (.entSt x s y) rs tm ob td K dst eR=eY Γ nxt rs eR ob td K dst (cw Γ (.entSt x s y) (nameOf nxt dst) tm ob):=rfl
@[simp] theorem goD_mapDel(shs:List Sh)(agg:Bool)(x k:bp):ko Γ nxt (.mapDel shs agg x k) rs tm ob td K dst eR=eY Γ nxt rs eR ob td K dst (cw Γ (.mapDel shs agg x k) (nameOf nxt dst) tm ob):=rfl
@[simp] theorem goD_lenM(x:bp):ko Γ nxt (.lenM x) rs tm ob td K dst eR=eY Γ nxt rs eR ob td K dst (cw Γ (.lenM x) (nameOf nxt dst) tm ob):=rfl
@[simp] theorem goD_rangeM(x:bp):ko Γ nxt (.rangeM x) rs tm ob td K dst eR=eY Γ nxt rs eR ob td K dst (cw Γ (.rangeM x) (nameOf nxt dst) tm ob):=rfl
@[simp] theorem goD_copy(sz:Nat)(x y:bp):ko Γ nxt (.copy sz x y) rs tm ob td K dst eR=eY Γ nxt rs eR ob td K dst (cw Γ (.copy sz x y) (nameOf nxt dst) tm ob):=rfl
@[simp] theorem goD_isNil(kind:Nat)(neg:Bool)(x:bp):ko Γ nxt (.isNil kind neg x) rs tm ob td K dst eR=eY Γ nxt rs eR ob td K dst (cw Γ (.isNil kind neg x) (nameOf nxt dst) tm ob):=rfl
@[simp] theorem goD_indexS(x i:bp):ko Γ nxt (.indexS x i) rs tm ob td K dst eR=eY Γ nxt rs eR ob td K dst (cw Γ (.indexS x i) (nameOf nxt dst) tm ob):=rfl
@[simp] theorem goD_fail:ko Γ nxt (.fail) rs tm ob td K dst eR=eY Γ nxt rs eR ob td K dst (cw Γ (.fail) (nameOf nxt dst) tm ob):=rfl
@[simp] theorem goD_entryM(x:bp):ko Γ nxt (.entryM x) rs tm ob td K dst eR=CW Γ nxt rs eR K dst (lU Γ (.entryM x) tm ob td):=by simp[ko,oU]
end
attribute [simp] CY Xo QU QW Oy Oz lU lp QX J2 J3 QY OA OB QZ mi look_nil dt lY Aw OC
attribute [simp] cw bp.ev fX jN qH zP Mm fO jt o6 jl mw lj zQ zR zS hY o7 tF sa mf dX fP jO eG CG ni mA mz kz gJ gK jf gM o8 ju jv iy eH mg wG JB dh uL
attribute [simp] finQ Xm QT JY qZ uY bN.pe kX cellsOf dv je qF gI bH sY qG qd gO Cb qE nameOf zO dg D5 fe oq Ar tN oU
theorem au{x:Int}(h: -9223372036854775808<=x/\x<=9223372036854775807):IntKind.i64.wrap x=x:=by
 simp[IntKind.wrap,IntKind.bits,IntKind.signed];omega
theorem p0{x:Int}(h:0<=x):x.tdiv 2=x/2:=Int.tdiv_eq_ediv_of_nonneg h
theorem GB{x:Int}(h:0<=x):x.tmod 2=x % 2:=Int.tmod_eq_emod_of_nonneg h
end Go.DM
namespace Go.DM
open Go.RowKit
variable [Laid]
def aW:List (Nat×Spec)->Env
 |[],_=>none
 |(g,s)::l,f=>if f=g then some s else aW l f
theorem ay.nil{P:Program}:ay P (aW []):=λ_ _ h=>by cases h
theorem ay.add{P:Program}{f:Nat}{s:Spec}{l:List (Nat×Spec)}(h:ay P (aW l))(k:Qw P f s):ay P (aW ((f,s)::l)):=by
 intro g s' hg;simp only[aW]at hg;split at hg
 ·rename_i e;cases hg;subst e;exact k
 ·exact h g s' hg
theorem ay.cons{P:Program}{f:Nat}{s:Spec}{l:List (Nat×Spec)}(h:ay P (aW l))
  (k:∀ts,s.pre ts->aT P f ts (s.fn ts)/\(s.scalar=true->gf (s.fn ts)=true)) (hs:s.st=none:=by rfl) (wi:s.fresh=none:=by rfl):ay P (aW ((f,s)::l)):=
 h.add ⟨k,λe sz hf=>(by rw[wi]at hf;cases hf),λk hk=>(by rw[hs]at hk;cases hk)⟩
def fa(k:List DV->aU->iw):Spec:=⟨λ_=>False,λ_=>.bool false,true,some k,none,false⟩
theorem ay.gS{P:Program}{f:Nat}{k:List DV->aU->iw}{l:List (Nat×Spec)}(h:ay P (aW l))
  (hk:∀args objs,(k args objs).ok->(∀N,(∀r,N<=r->objs r=none)->aY P f args objs (k args objs))/\∀r,objs r=none->(k args objs).objs r=none):ay P (aW ((f,fa k)::l)):=
 h.add ⟨λ_ h=>h.elim,λ_ _ h=>(by cases h),λk' e=>by cases e;exact hk⟩
theorem lJ.ok{P:Program}{f:FuncId}{ts:List T}{e sz:Nat}{rows:List (List T)}(h:lJ P f ts e sz rows):aT P f ts (.sl rows):=
 ⟨h.entry,λW w vals hW hg hr=>(h.run W w vals hW hg hr).mono λe' w' ⟨v,h1,hb,hf⟩=>⟨v,h1,hb,by
  simp only[aR];rcases hf.it with⟨h2,a,h3⟩|⟨g,cap,cur,h2,hp,zf,hh,h3,h4,h5,h6⟩
  ·exact .inl ⟨h2,a,0,h3⟩
  ·refine .inr ⟨g,0,cap,sz,h2,(Zai.1 hh).1,λhw=>?_,h3,aX.ia (aP.aC (cb.refl (λb=>W b\/b=g) w').toKeepsC (λb _ hb=>.inl hb) _ _ h6) hf.len λj v hv=>?_⟩
   ·have:=hW g hw;omega
   ·rw[ZaY,cell_of_row w' g j cur e (0,0) hh];rw[ZaF]at hv;split at hv
    ·simpa using hv
    ·cases hv⟩⟩
def u6(pre:List T->Prop)(fn:List T->List (List T))(e sz:Nat):Spec:=⟨pre,λts=>.sl (fn ts),false,none,some (e,sz),false⟩
theorem ay.Q0{P:Program}{f:Nat}{pre:List T->Prop}{fn:List T->List (List T)}{e sz:Nat}{l:List (Nat×Spec)}(h:ay P (aW l))(k:∀ts,pre ts->lJ P f ts e sz (fn ts)):ay P (aW ((f,u6 pre fn e sz)::l)):=
 h.add ⟨λts hp=>⟨(k ts hp).ok,λx=>by cases x⟩,λe' fY hf ts hp=>(by cases hf;exact⟨_,rfl,k ts hp,λx=>by cases x⟩),λk hk=>(by cases hk)⟩
def yo(pre:List T->Prop)(fn:List T->List (List T))(e sz:Nat):Spec:=⟨pre,λts=>.sl (fn ts),false,none,some (e,sz),true⟩
theorem ay.Q1{P:Program}{f:Nat}{pre:List T->Prop}{fn:List T->List (List T)}{e sz:Nat}{l:List (Nat×Spec)}(h:ay P (aW l))(k:∀ts,pre ts->lJ P f ts e sz (fn ts)/\gf.gE (fn ts).flatten=true):ay P (aW ((f,yo pre fn e sz)::l)):=
 h.add ⟨λts hp=>⟨(k ts hp).1.ok,λx=>by cases x⟩,λe' fY hf ts hp=>(by cases hf;exact⟨_,rfl,(k ts hp).1,λ_=>(k ts hp).2⟩),λk hk=>(by cases hk)⟩
@[simp] theorem YZ(pre:List T->Prop)(fn:List T->List (List T))(e sz:Nat):(yo pre fn e sz).fresh=some (e,sz):=rfl
@[simp] theorem specL_fn(pre:List T->Prop)(fn:List T->List (List T))(e sz:Nat)(ts:List T):(yo pre fn e sz).fn ts=.sl (fn ts):=rfl
@[simp] theorem specL_pre(pre:List T->Prop)(fn:List T->List (List T))(e sz:Nat):(yo pre fn e sz).pre=pre:=rfl
@[simp] theorem specL_lend(pre:List T->Prop)(fn:List T->List (List T))(e sz:Nat):(yo pre fn e sz).lend=true:=rfl
@[simp] theorem specF_lend(pre:List T->Prop)(fn:List T->List (List T))(e sz:Nat):(u6 pre fn e sz).lend=false:=rfl
@[simp] theorem Y0(pre:List T->Prop)(fn:List T->List (List T))(e sz:Nat):(u6 pre fn e sz).fresh=some (e,sz):=rfl
@[simp] theorem specF_fn(pre:List T->Prop)(fn:List T->List (List T))(e sz:Nat)(ts:List T):(u6 pre fn e sz).fn ts=.sl (fn ts):=rfl
@[simp] theorem specF_pre(pre:List T->Prop)(fn:List T->List (List T))(e sz:Nat):(u6 pre fn e sz).pre=pre:=rfl
def cy(pre:List T->Prop)(fn:List T->T)(scalar:Bool):Spec:=⟨pre,fn,scalar,none,none,false⟩
@[simp] theorem specP_pre(pre:List T->Prop)(fn:List T->T)(scalar:Bool):(cy pre fn scalar).pre=pre:=rfl
@[simp] theorem specP_fn(pre:List T->Prop)(fn:List T->T)(scalar:Bool):(cy pre fn scalar).fn=fn:=rfl
@[simp] theorem Xr(pre:List T->Prop)(fn:List T->T)(scalar:Bool):(cy pre fn scalar).scalar=scalar:=rfl
@[simp] theorem specP_st(pre:List T->Prop)(fn:List T->T)(scalar:Bool):(cy pre fn scalar).st=none:=rfl
@[simp] theorem specF_st(pre:List T->Prop)(fn:List T->List (List T))(e sz:Nat):(u6 pre fn e sz).st=none:=rfl
@[simp] theorem specS_st(k:List DV->aU->iw):(fa k).st=some k:=rfl
theorem J4(g f:Nat)(s:Spec)(l:List (Nat×Spec)):aW ((g,s)::l) f=if f=g then some s else aW l f:=rfl
theorem OE(f:Nat):aW [] f=none:=rfl
attribute [simp] J4 OE
theorem aT.calls{P:Program}{f:FuncId}{ts:List T}{t:T}(h:aT P f ts t){w:World}{vals:Array Value}(hg:zN w λ_=>False)(hr:dw w (λ_=>False) ts vals.toList):
  Calls P f vals w λe w'=>∃v,e=.returned v/\tE w.heap.size w w'/\aR w' (λ_=>False) t v:=
 h.run (λ_=>False) w vals (λ_ h=>h.elim) hg hr
@[simp] theorem wrap_lit(n:Nat)(h:n<9223372036854775808):IntKind.i64.wrap (no_index (@OfNat.ofNat Int n instOfNat))= @OfNat.ofNat Int n instOfNat:=by
 have e:(@OfNat.ofNat Int n instOfNat)=(n:Int):=rfl;rw[e,au (by omega)]
@[simp] theorem wrap_neg(n:Nat)(h:n<9223372036854775808):IntKind.i64.wrap (-(no_index (@OfNat.ofNat Int n instOfNat)))= -(@OfNat.ofNat Int n instOfNat):=by
 have e:(@OfNat.ofNat Int n instOfNat)=(n:Int):=rfl;rw[e,au (by omega)]
end Go.DM
namespace Go.DM
open Go.RowKit
variable [Laid]
def gone(aA:aU)(σ:Nat->Nat)(r:Nat):Prop:=∀r',aA r'≠none->σ r'≠r
def Q3(objs aA:aU)(σ:Nat->Nat)(r off:Nat):DV->Prop
 |.ptr r' GH=>r=σ r'/\off=GH/\∃cs,aA r'=some (.box cs)
 |.gz cs GH=>off=GH/\objs r=some (.box (cs.map .v))/\gone aA σ r
 |.v (.box cs)=>off=0/\objs r=some (.box (cs.map .v))/\gone aA σ r
 |_=>False
def MJ(objs aA:aU)(σ:Nat->Nat)(r ver:Nat):DV->Prop
 |.bk r' ver'=>r=σ r'/\∃e sz rows e' fY di,objs r=some (.arr ver e sz rows)/\aA r'=some (.arr ver' e' fY di)
 |.v (.sl rows)=>(∃e sz,objs r=some (.arr ver e sz rows))/\gone aA σ r
 |_=>False
def MK(objs aA:aU)(σ:Nat->Nat)(r ver:Nat)(i:Int)(off:Nat):DV->Prop
 |.jd r' ver' i' GH=>r=σ r'/\i=i'/\off=GH/\∃e sz rows e' fY di,objs r=some (.arr ver e sz rows)/\aA r'=some (.arr ver' e' fY di)/\sz=fY/\rows.length=di.length
 |_=>False
def isMap:Option Ob->Prop
 |some (.map _ _ _ _)=>True
 |_=>False
def Az:Option Ob->Prop
 |some (.iter _ _ _ _)=>True
 |_=>False
def nP(aA:aU)(σ:Nat->Nat)(r:Nat):DV->Prop
 |.iv r'=>r=σ r'/\isMap (aA r')
 |_=>False
def Q4(aA:aU)(σ:Nat->Nat)(r:Nat):DV->Prop
 |.iter r'=>r=σ r'/\Az (aA r')
 |_=>False
def corAsl(objs aA:aU)(σ:Nat->Nat)(r ver lo n:Nat):DV->Prop
 |.sP r' ver' lo' n'=>r=σ r'/\lo=lo'/\n=n'/\∃e sz rows e' fY di,objs r=some (.arr ver e sz rows)/\aA r'=some (.arr ver' e' fY di)/\sz=fY/\rows.length=di.length
 |.v (.sl di)=>(∃e sz rows,objs r=some (.arr ver e sz rows)/\di=(rows.drop lo).take n)/\gone aA σ r
 |_=>False
def Q5(objs aA:aU)(σ:Nat->Nat)(r n:Nat):DV->Prop
 |.D4 r' n'=>r=σ r'/\n=n'/\∃cs,aA r'=some (.box cs)
 |.v (.sl rows)=>rows.length=n/\(∃sz,∀x∈rows,x.length=sz)/\objs r=some (.box (rows.flatten.map .v))/\gone aA σ r
 |_=>False
theorem AA{o:Option Ob}(h:isMap o):∃shs agg c es,o=some (.map shs agg c es):=by
 unfold isMap at h;split at h
 ·exact⟨_,_,_,_,rfl⟩
 ·exact h.elim
theorem OH{o:Option Ob}(h:Az o):∃m s sn l,o=some (.iter m s sn l):=by
 unfold Az at h;split at h
 ·exact⟨_,_,_,_,rfl⟩
 ·exact h.elim
def Ex:DV->Option (List DV)
 |.agg ds=>some ds
 |.v (.agg ts)=>some (ts.map .v)
 |_=>none
mutual
def jh(objs aA:aU)(σ:Nat->Nat):DV->DV->Prop
 |.aI,d'=>d'=.undef\/d'=.aI\/d'=.v (.sl [])
 |.ptr r off,d'=>d'=.undef\/Q3 objs aA σ r off d'
 |.bk r ver,d'=>d'=.undef\/MJ objs aA σ r ver d'
 |.jd r ver i off,d'=>d'=.undef\/MK objs aA σ r ver i off d'
 |.agg ds,d'=>d'=.undef\/match Ex d' with|some nJ=>jz objs aA σ ds nJ|none=>False
 |.undef,d'=>d'=.undef
 |.skip,d'=>d'=.undef\/d'=.skip
 |.v t,d'=>d'=.undef\/d'=.v t
 |.ky rows i off,d'=>d'=.undef\/d'=.ky rows i off
 |.gz cs off,d'=>d'=.undef\/d'=.gz cs off
 |.CF,d'=>d'=.undef\/d'=.CF
 |.iv r,d'=>d'=.undef\/nP aA σ r d'
 |.iter r,d'=>d'=.undef\/Q4 aA σ r d'
 |.sP r ver lo n,d'=>d'=.undef\/corAsl objs aA σ r ver lo n d'
 |.D4 r n,d'=>d'=.undef\/Q5 objs aA σ r n d'
 |.eF ds,d'=>d'=.undef\/match d' with|.eF nJ=>jz objs aA σ ds nJ|_=>False
 |.mu f ds,d'=>d'=.undef\/match d' with|.mu f' nJ=>f=f'/\jz objs aA σ ds nJ|.v (.fn f' ts)=>f=f'/\jz objs aA σ ds (ts.map .v)|_=>False
def jz(objs aA:aU)(σ:Nat->Nat):List DV->List DV->Prop
 |[],nJ=>nJ=[]
 |d::ds,nJ=>match nJ with
  |[]=>False
  |d'::nJ=>jh objs aA σ d d'/\jz objs aA σ ds nJ
end
def iO(objs aA:aU)(σ:Nat->Nat):List (Nat×T×DV)->List (Nat×T×DV)->Prop
 |[],es'=>es'=[]
 |e::es,es'=>match es' with
  |[]=>False
  |e'::es'=>e.1=e'.1/\e.2.1=e'.2.1/\jh objs aA σ e.2.2 e'.2.2/\iO objs aA σ es es'
theorem mP{objs aA:aU}{σ:Nat->Nat}:∀{es:List (Nat×T×DV)},(∀e∈es,jh objs aA σ e.2.2 e.2.2)->iO objs aA σ es es
 |[],_=>by simp[iO]
 |e::es,h=>by simp only[iO];exact⟨trivial,trivial,h e (by simp),mP λe he=>h e (by simp[he])⟩
def lR(objs aA:aU)(σ:Nat->Nat):Ob->Ob->Prop
 |.box cs,.box qI=>jz objs aA σ cs qI
 |.arr _ e sz rows,.arr _ e' fY di=>e=e'/\sz=fY/\rows=di
 |.map shs agg c es,.map shs' agg' c' es'=>shs=shs'/\agg=agg'/\c=c'/\iO objs aA σ es es'
 |.iter m s sn l,.iter m' s' sn' l'=>m=σ m'/\s=s'/\sn=sn'/\l=l'/\isMap (aA m')
 |_,_=>False
def gT:Ob->Ob->Prop
 |.box _,.box _=>True
 |.arr v _ sz rows,.arr v' _ fY di=>v=v'/\sz=fY/\rows.length=di.length
 |.map _ _ _ _,.map _ _ _ _=>True
 |.iter _ _ _ _,.iter _ _ _ _=>True
 |_,_=>False
theorem u9{o o':Ob}(h:gT o o'):o'.kind=o.kind:=by cases o<;>cases o'<;>first|rfl|exact h.elim
def Loc.Ce(L:Loc)(σ:Nat->Nat):Loc:=⟨λr=>L.gW (σ r),λr=>L.sl (σ r),L.yl⟩
section
variable{base:Nat}{W M:Nat->Prop}{w0 w:World}{objs aA:aU}{L:Loc}{σ:Nat->Nat}
theorem si{o o':Ob}(h:lR objs aA σ o o')(r:Nat):(L.Ce σ).own r o'=L.own (σ r) o:=by
 cases o<;>cases o'<;>first|rfl|exact h.elim
theorem jV(fH:∀r' o',aA r'=some o'->∃o,objs (σ r')=some o/\∀r,(L.Ce σ).own r o'=L.own (σ r) o)(b:Nat)(h:WW W aA (L.Ce σ) b):WW W objs L b:=by
 rcases h with h|⟨r',o',h1,h2⟩
 ·exact .inl h
 ·obtain⟨o,h3,h4⟩:=fH r' o' h1;exact .inr ⟨σ r',o,h3,by rw[<-h4];exact h2⟩
theorem AB(hO:bK base W M w0 objs w L)(fH:∀r' o',aA r'=some o'->∃o,objs (σ r')=some o/\∀r,(L.Ce σ).own r o'=L.own (σ r) o){r b:Nat}{o:Ob}(hr:objs r=some o)(hb:L.own r o=some b)(hg:gone aA σ r):¬WW W aA (L.Ce σ) b:=by
 rintro(h|⟨r',o',h1,h2⟩)
 ·exact hO.outer r o b hr hb h
 ·obtain⟨o2,h3,h4⟩:=fH r' o' h1;rw[h4]at h2;exact hO.apart r (σ r') o o2 b (λe=>hg r' (by rw[h1];exact λe=>by cases e) e.symm) hr h3 hb h2
theorem tP(hO:bK base W M w0 objs w L)(fH:∀r' o',aA r'=some o'->∃o,objs (σ r')=some o/\∀r,(L.Ce σ).own r o'=L.own (σ r) o){r:Nat}{cs:List T}(hr:objs r=some (.box (cs.map .v)))(hg:gone aA σ r):
  L.gW r<w.heap.size/\¬WW W aA (L.Ce σ) (L.gW r)/\cV w (WW W aA (L.Ce σ)) (L.gW r) 0 cs:=by
 have hb:=hO.ob r _ hr;obtain⟨c,e,hc,eI,_⟩:=hb;refine⟨(Zai.1 hc).1,AB hO fH hr rfl hg,cV.zM cs 0 λj t hj=>?_⟩;have hd:(cs.map DV.v)[j]? =some (.v t):=by simp[hj]
 obtain⟨v,hv,h1,h2⟩:=aK.get eI hd;simp only[av]at h2;refine⟨v, ?_,h1,aR.aC (cb.refl (WW W objs L) w).toKeepsC (λb _ hb=>jV fH b hb) t v h2⟩;simp only[World.cell?,hc,ZaY];simpa using hv
theorem J6(hO:bK base W M w0 objs w L)(fH:∀r' o',aA r'=some o'->∃o,objs (σ r')=some o/\∀r,(L.Ce σ).own r o'=L.own (σ r) o){r ver e sz:Nat}{rows:List (List T)}(hr:objs r=some (.arr ver e sz rows))(hg:gone aA σ r):
  aR w (WW W aA (L.Ce σ)) (.sl rows) (L.sl r):=by
 have qi:=hO.ob r _ hr;obtain⟨gB,cS,hm,kl⟩:=qi;simp only[aR];rcases kl with⟨rfl,p,hp⟩|⟨g',cap,cur,pU,hp,hh,hle,pb,D9,eI⟩
 ·exact .inl ⟨rfl,p,0,hp⟩
 ·have uA:aO (L.sl r)=some g':=by simp[pU,aO,Zay.1 hp]
  refine .inr ⟨g',0,cap,sz,pU,(Zai.1 hh).1,AB hO fH hr (by simpa [Loc.own]using uA) hg,hle, ?_⟩;have tH:=mZ.rows (hO.ob r _ hr) (g:=g') uA;obtain⟨vs,wj,zi,Qg⟩:=aX.flatten tH;exact aX.ia (aP.aC (cb.refl (WW W objs L) w).toKeepsC (λb _ hb=>jV fH b hb) _ _ zi) cS Qg
theorem AD{ts:List T}:∀{vs:List Value},aK w W objs L (ts.map .v) vs->aP w (WW W objs L) ts vs:=by
 induction ts with
 |nil=>intro vs h;simpa [aK,aP]using h
 |cons t ts ih=>
  intro vs h;simp only[Zau,aK]at h;obtain⟨v,gY,rfl,h1,h2,h3⟩:=h;simp only[av]at h2;simp only[aP];exact⟨v,gY,rfl,h1,h2,ih h3⟩
theorem zm(hO:bK base W M w0 objs w L)(fH:∀r' o',aA r'=some o'->∃o,objs (σ r')=some o/\∀r,(L.Ce σ).own r o'=L.own (σ r) o):
  ∀n,(∀(d d':DV) (x:Value),SizeOf.sizeOf d<n->jh objs aA σ d d'->av w W objs L d x->av w W aA (L.Ce σ) d' x)/\
   (∀(ds nJ:List DV) (xs:List Value),SizeOf.sizeOf ds<n->jz objs aA σ ds nJ->aK w W objs L ds xs->aK w W aA (L.Ce σ) nJ xs)/\
   (∀(ds nJ:List DV) (xs:List Value),SizeOf.sizeOf ds<n->jz objs aA σ ds nJ->eZ w W objs L ds xs->eZ w W aA (L.Ce σ) nJ xs):=by
 have kp:∀(t:T) (x:Value),aR w (WW W objs L) t x->aR w (WW W aA (L.Ce σ)) t x:=λt x h=>aR.aC (cb.refl (WW W objs L) w).toKeepsC (λb _ hb=>jV fH b hb) t x h;intro n;induction n with
 |zero=>exact⟨λ_ _ _ h=>by omega,λ_ _ _ h=>by omega,λ_ _ _ h=>by omega⟩
 |succ n ih=>
  refine⟨λd d' x hn hc hr=>?_,λds nJ xs hn hc hr=>?_,λds nJ xs hn hc hr=>?_⟩
  ·by_cases hu:d'=.undef
   ·subst hu;simp[av]
   cases d with
   |undef=>simp only[jh]at hc;exact absurd hc hu
   |skip=>simp only[jh,hu,false_or]at hc;subst hc;simpa only[av]using hr
   |CF=>simp only[jh,hu,false_or]at hc;subst hc;simp only[av,Loc.Ce]at hr⊢;exact hr
   |v t=>simp only[jh,hu,false_or]at hc;subst hc;simp only[av]at hr⊢;exact kp t x hr
   |ky rows i off=>
    simp only[jh,hu,false_or]at hc;subst hc;simp only[av]at hr⊢;obtain⟨b,o,sz,hx,hb,Ox,tH,h1,h2⟩:=hr;exact⟨b,o,sz,hx,hb,λk=>Ox (jV fH b k),aX.aC (cb.refl (WW W objs L) w).toKeepsC (λb _ hb=>jV fH b hb) hb Ox sz o rows tH,h1,h2⟩
   |gz cs off=>
    simp only[jh,hu,false_or]at hc;subst hc;simp only[av]at hr⊢;obtain⟨b,o,hx,hb,Ox,tH⟩:=hr;exact⟨b,o,hx,hb,λk=>Ox (jV fH b k),cV.aC (cb.refl (WW W objs L) w).toKeepsC (λb _ hb=>jV fH b hb) hb Ox o cs tH⟩
   |iv r=>
    simp only[jh,hu,false_or]at hc;simp only[av]at hr;cases d' with
    |iv r'=>
     obtain⟨rfl,hm⟩:=hc;simp only[av];exact⟨AA hm,hr.2⟩
    |_=>exact hc.elim
   |iter r=>
    simp only[jh,hu,false_or]at hc;simp only[av]at hr;cases d' with
    |iter r'=>
     obtain⟨rfl,hm⟩:=hc;simp only[av];exact⟨OH hm,hr.2⟩
    |_=>exact hc.elim
   |eF ds=>
    simp only[jh,hu,false_or]at hc;simp only[av]at hr;obtain⟨vs,rfl,hr⟩:=hr;cases d' with
    |eF nJ=>
     simp only[av];exact⟨vs,rfl,ih.2.2 ds nJ _ (by simp at hn⊢;omega) hc hr⟩
    |_=>exact hc.elim
   |mu f ds=>
    simp only[jh,hu,false_or]at hc;simp only[av]at hr;obtain⟨vs,rfl,hr⟩:=hr;cases d' with
    |mu f' nJ=>
     obtain⟨rfl,hc⟩:=hc;simp only[av];exact⟨vs,rfl,ih.2.1 ds nJ _ (by simp at hn⊢;omega) hc hr⟩
    |v t=>
     cases t with
     |fn f' ts=>
      obtain⟨rfl,hc⟩:=hc;simp only[av,aR];exact⟨vs,rfl,AD (ih.2.1 ds _ _ (by simp at hn⊢;omega) hc hr)⟩
     |_=>exact hc.elim
    |_=>exact hc.elim
   |D4 r m=>
    simp only[jh,hu,false_or]at hc;simp only[av]at hr;obtain⟨⟨cs0,hcs0⟩,rfl⟩:=hr;cases d' with
    |D4 r' m'=>
     obtain⟨rfl,rfl,cs,mC⟩:=hc;simp only[av];exact⟨⟨cs,mC⟩,rfl⟩
    |v t=>
     cases t with
     |sl rows=>
      obtain⟨rfl,⟨sz,gB⟩,qi,hg⟩:=hc;obtain⟨h1,h2,h3⟩:=tP hO fH qi hg;simp only[av,aR];refine .inr ⟨L.gW r,0,rows.length,sz,rfl,h1,h2,Zae _, ?_⟩;obtain⟨vs,zg,jj⟩:=cV.vals h3;exact aX.ia zg gB jj
     |_=>exact hc.elim
    |_=>exact hc.elim
   |sP r ver lo m=>
    simp only[jh,hu,false_or]at hc;simp only[av]at hr;obtain⟨Gi,nI,e2,CH,jP,dG,Gj,hx⟩:=hr;cases d' with
    |sP r' ver' lo' m'=>
     obtain⟨rfl,rfl,rfl,e,sz,rows,e',fY,di,h1,h2,h3,h4⟩:=hc;rw[dG]at h1;simp only[Zaa,Ob.arr.injEq]at h1;obtain⟨rfl,rfl,rfl,rfl⟩:=h1;simp only[av];refine⟨Gi,ver',e',fY,di,h2,Zae _,λ_=>?_⟩;obtain⟨k0,p,cap,p2,k1,k2,k3⟩:=hx rfl;exact⟨by rw[<-h4];exact k0,p,cap,p2,by rw[<-h4];exact k1,k2,by rw[<-h3];exact k3⟩
    |v t=>
     cases t with
     |sl di=>
      obtain⟨⟨e,sz,rows,h1,rfl⟩,hg⟩:=hc;rw[dG]at h1;simp only[Zaa,Ob.arr.injEq]at h1;obtain⟨rfl,rfl,rfl,rfl⟩:=h1;have hx:=hx rfl;simp only[av,aR];have D1:((jP.drop lo).take m).length=m:=by rw[Zaw,Za9];omega
      rcases qN hO dG hx with⟨rfl,a,c,rfl⟩|⟨g,c,uA,rfl,Qn,tH⟩
      ·exact .inl ⟨by simp,a,c,rfl⟩
      ·refine .inr ⟨g,lo*CH,c,CH,by rw[D1],(hO.ob r _ dG).lt (by simpa [Loc.own]using uA),AB hO fH dG (by simpa [Loc.own]using uA) hg,by omega, ?_⟩;obtain⟨vs,wj,zi,Qg⟩:=aX.flatten tH;exact aX.ia (aP.aC (cb.refl (WW W objs L) w).toKeepsC (λb _ hb=>jV fH b hb) _ _ zi) (λx hx=>(hO.ob r _ dG).2.1 x (Zbv (Zav hx))) Qg
     |_=>exact hc.elim
    |_=>exact hc.elim
   |aI=>
    simp only[jh,hu,false_or]at hc;rcases hc with rfl|rfl
    ·simpa only[av]using hr
    ·simp only[av]at hr;obtain⟨a,rfl⟩:=hr;simp only[av,aR];exact .inl ⟨trivial,a,0,rfl⟩
   |ptr r off=>
    simp only[jh,hu,false_or]at hc;simp only[av]at hr;obtain⟨⟨cs0,hcs0⟩,rfl⟩:=hr;cases d' with
    |ptr r' GH=>
     obtain⟨rfl,rfl,cs,mC⟩:=hc;simp only[av];exact⟨⟨cs,mC⟩,rfl⟩
    |gz cs GH=>
     obtain⟨rfl,qi,hg⟩:=hc;obtain⟨h1,h2,h3⟩:=tP hO fH qi hg;simp only[av];exact⟨L.gW r,0,by simp,h1,h2,h3⟩
    |v t=>
     cases t with
     |box cs=>
      obtain⟨rfl,qi,hg⟩:=hc;obtain⟨h1,h2,h3⟩:=tP hO fH qi hg;simp only[av,aR];exact⟨L.gW r,0,rfl,h1,h2,h3⟩
     |_=>exact hc.elim
    |_=>exact hc.elim
   |bk r ver=>
    simp only[jh,hu,false_or]at hc;simp only[av]at hr;obtain⟨Gi,nI,e2,CH,jP,dG,Gj,hx⟩:=hr;cases d' with
    |bk r' ver'=>
     obtain⟨rfl,e,sz,rows,e',fY,di,h1,h2⟩:=hc;rw[dG]at h1;simp only[Zaa,Ob.arr.injEq]at h1;obtain⟨rfl,_⟩:=h1;simp only[av];exact⟨Gi,ver',e',fY,di,h2,Zae _,λ_=>hx rfl⟩
    |v t=>
     cases t with
     |sl rows=>
      obtain⟨⟨e,sz,h1⟩,hg⟩:=hc;rw[dG]at h1;simp only[Zaa,Ob.arr.injEq]at h1;obtain⟨rfl,rfl,rfl,rfl⟩:=h1;have hx:=hx rfl;subst hx;simp only[av];exact J6 hO fH dG hg
     |_=>exact hc.elim
    |_=>exact hc.elim
   |jd r ver i off=>
    simp only[jh,hu,false_or]at hc;simp only[av]at hr;obtain⟨Gi,nI,e2,CH,jP,dG,Gj,hx⟩:=hr;cases d' with
    |jd r' ver' i' GH=>
     obtain⟨rfl,rfl,rfl,e,sz,rows,e',fY,di,h1,h2,h3,h4⟩:=hc;rw[dG]at h1;simp only[Zaa,Ob.arr.injEq]at h1;obtain⟨rfl,rfl,rfl,rfl⟩:=h1;simp only[av];refine⟨Gi,ver',e',fY,di,h2,Zae _,λ_=>?_⟩;obtain⟨g,k1,k2,k3,k4⟩:=hx rfl;exact⟨g,k1,by rw[<-h3];exact k2,k3,by rw[<-h4];exact k4⟩
    |_=>exact hc.elim
   |agg ds=>
    simp only[jh,hu,false_or]at hc;simp only[av]at hr;obtain⟨vs,rfl,hr⟩:=hr;cases d' with
    |agg nJ=>
     simp only[Ex]at hc;simp only[av];exact⟨vs,rfl,ih.2.1 ds nJ _ (by simp at hn⊢;omega) hc hr⟩
    |v t=>
     cases t with
     |agg ts=>
      simp only[Ex]at hc;simp only[av,aR];exact⟨vs,rfl,AD (ih.2.1 ds _ _ (by simp at hn⊢;omega) hc hr)⟩
     |_=>exact hc.elim
    |_=>exact hc.elim
  ·cases ds with
   |nil=>simp only[jz]at hc;subst hc;simpa only[aK]using hr
   |cons d ds=>
    cases nJ with
    |nil=>simp[jz]at hc
    |cons d' nJ=>
     simp only[jz]at hc;simp only[aK]at hr⊢;obtain⟨y,ys,hv,h1,h2,h3⟩:=hr;exact⟨y,ys,hv,h1,ih.1 d d' y (by simp at hn⊢;omega) hc.1 h2,ih.2.1 ds nJ ys (by simp at hn⊢;omega) hc.2 h3⟩
  ·cases ds with
   |nil=>simp only[jz]at hc;subst hc;simpa only[eZ]using hr
   |cons d ds=>
    cases nJ with
    |nil=>simp[jz]at hc
    |cons d' nJ=>
     simp only[jz]at hc;simp only[eZ]at hr⊢;obtain⟨y,ys,hv,h2,h3⟩:=hr;exact⟨y,ys,hv,ih.1 d d' y (by simp at hn⊢;omega) hc.1 h2,ih.2.2 ds nJ ys (by simp at hn⊢;omega) hc.2 h3⟩
theorem Le.cor{st df:kW}(σ:Nat->Nat)(Ck:df.low=st.low)(Q6:df.todo=st.todo)(AE:∀r,df.nxt<=r->df.objs r=none)
  (fH:∀r' o',df.objs r'=some o'->∃o,st.objs (σ r')=some o/\lR st.objs df.objs σ o o')
  (hinj:∀r1 r2,df.objs r1≠none->df.objs r2≠none->σ r1=σ r2->r1=r2)
  (GI:∀r,r<st.low->∀o,st.objs r=some o->σ r=r/\∃o',df.objs r=some o'/\gT o o')
  (iY:∀k,jh st.objs df.objs σ (st.tmps k) (df.tmps k)):Le st df:=by
 intro κ nt a w L h;refine⟨L.Ce σ,⟨?_, ?_,h.r.defers,h.r.bg,⟨_,AE⟩⟩,AE,by rw[Ck];exact h.low,by rw[Ck];exact h.it⟩
 ·obtain⟨W,base,M,w0,dI,h0⟩:=h.r.ex;have hO:=h0.o;have qi:∀r' o',df.objs r'=some o'->∃o,st.objs (σ r')=some o/\∀r,(L.Ce σ).own r o'=L.own (σ r) o:=λr' o' h=>let⟨o,h1,h2⟩:=fH r' o' h;⟨o,h1,si h2⟩
  have cr:=λ(d d':DV) (x:Value)=>(zm hO qi (SizeOf.sizeOf d+1)).1 d d' x (by omega);have crs:=λ(ds nJ:List DV) (xs:List Value)=>(zm hO qi (SizeOf.sizeOf ds+1)).2.1 ds nJ xs (by omega);refine⟨W,base,M,w0,by rw[Q6];exact dI,h0.size,λt=>cr _ _ _ (iY t) (h0.tmps t),⟨hO.fr,λr' o' ga=>?_,λr1 r2 o1 o2 b bG h1 h2 GJ kv=>?_,λr' o' b ga hb=>?_,hO.under,hO.gl.aC (cb.refl (WW W st.objs L) w).toKeepsC λb _ hb=>jV qi b hb⟩⟩
  ·obtain⟨o,ho,hc⟩:=fH r' o' ga;have hk:=hO.ob (σ r') o ho;cases o with
   |box cs=>
    cases o' with
    |box qI=>
     obtain⟨c,e,bM,hr,hm⟩:=hk;exact⟨c,e,bM,crs cs qI _ hc hr,hm⟩
    |_=>exact hc.elim
   |map shs agg c es=>
    cases o' with
    |map shs' agg' c' es'=>
     obtain⟨rfl,rfl,rfl,oV⟩:=hc;obtain⟨arr,bM,hr,k1,k2,k3,hm⟩:=hk;have key:∀(es es':List (Nat×T×DV)) (xs:List MapEntry),iO st.objs df.objs σ es es'->bj w W st.objs L es xs->bj w W df.objs (L.Ce σ) es' xs/\es'.map (·.1)=es.map (·.1)/\es'.map (·.2.1)=es.map (·.2.1):=by
      intro es;induction es with
      |nil=>intro es' xs h1 h2;simp only[iO]at h1;subst h1;exact⟨by simpa only[bj]using h2,rfl,rfl⟩
      |cons e es ih=>
       intro es' xs h1 h2;cases es' with
       |nil=>simp[iO]at h1
       |cons e' es'=>
        simp only[iO]at h1;simp only[bj]at h2⊢;obtain⟨x,jJ,rfl,q0,q1,q2,q3⟩:=h2;obtain⟨i1,i2,i3⟩:=ih es' jJ h1.2.2.2 q3;refine⟨⟨x,jJ,rfl,q0.trans h1.1, ?_,cr _ _ _ h1.2.2.1 q2,i1⟩,by simp[i2,h1.1],by simp[i3,h1.2.1]⟩;rw[<-h1.2.1];exact aR.aC (cb.refl (WW W st.objs L) w).toKeepsC (λb _ hb=>jV qi b hb) _ _ q1
     obtain⟨i1,i2,i3⟩:=key es es' _ oV hr;refine⟨arr,bM,i1,λe he=>?_,λe he=>?_,by rw[i2];exact k3,hm⟩
     ·have:e.2.1∈es.map (·.2.1):=by rw[<-i3];exact Zal.2 ⟨e,he,rfl⟩
      obtain⟨e0,h0',Mr⟩:=Zal.1 this;rw[<-Mr];exact k1 e0 h0'
     ·have:e.1∈es.map (·.1):=by rw[<-i2];exact Zal.2 ⟨e,he,rfl⟩
      obtain⟨e0,h0',Mr⟩:=Zal.1 this;rw[<-Mr];exact k2 e0 h0'
    |_=>exact hc.elim
   |iter m s sn l=>
    cases o' with
    |iter m' s' sn' l'=>
     obtain⟨rfl,rfl,rfl,rfl,Jn⟩:=hc;obtain⟨bM,_,hm⟩:=hk;exact⟨bM,AA Jn,hm⟩
    |_=>exact hc.elim
   |arr ver e sz rows=>
    cases o' with
    |box _=>exact hc.elim
    |map _ _ _ _=>exact hc.elim
    |iter _ _ _ _=>exact hc.elim
    |arr ver' e' fY di=>
     obtain⟨rfl,rfl,rfl⟩:=hc;obtain⟨g1,g2,g3,g4⟩:=hk;refine⟨g1,g2,g3, ?_⟩;rcases g4 with g4|⟨g,cap,cur,hv,hp,hh,k1,k2,k3,k4⟩
     ·exact .inl g4
     ·exact .inr ⟨g,cap,cur,hv,hp,hh,k1,k2,k3,aP.aC (cb.refl (WW W st.objs L) w).toKeepsC (λb _ hb=>jV qi b hb) _ _ k4⟩
  ·obtain⟨p1,q1,c1⟩:=fH r1 o1 h1;obtain⟨p2,q2,c2⟩:=fH r2 o2 h2;rw[si c1]at GJ;rw[si c2]at kv;exact hO.apart (σ r1) (σ r2) p1 p2 b (λe=>bG (hinj r1 r2 (λe=>by rw[show df.objs r1=some o1 from h1]at e;cases e) (λe=>by rw[show df.objs r2=some o2 from h2]at e;cases e) e)) q1 q2 GJ kv
  ·obtain⟨p1,q1,c1⟩:=fH r' o' ga;rw[si c1]at hb;exact hO.outer (σ r') p1 b q1 hb
 ·have ha:=h.r.ee;refine⟨ha.keeps,λb hb hw=>ha.sub b hb (jV (λr' o' h=>let⟨o,h1,h2⟩:=fH r' o' h;⟨o,h1,si h2⟩) b hw),λr o hr hk=>?_,λr ver e sz rows hr=>?_,ha.yl⟩
  ·have cW:r<st.low:=ZbW λhle=>by rw[h.low r hle]at hr;cases hr
   obtain⟨e1,o1,lP,qg⟩:=ha.fix r o hr hk;obtain⟨hs,o',ga,hv⟩:=GI r cW _ lP;exact⟨by simp only[Loc.Ce,hs];exact e1,o',ga,(u9 hv).trans qg⟩
  ·have cW:r<st.low:=ZbW λhle=>by rw[h.low r hle]at hr;cases hr
   obtain⟨v1,e1,s1,r1,lP,l1,k1⟩:=ha.arr r ver e sz rows hr;obtain⟨hs,o',ga,hv⟩:=GI r cW _ lP;cases o' with
   |box qI=>exact hv.elim
   |map _ _ _ _=>exact hv.elim
   |iter _ _ _ _=>exact hv.elim
   |arr v2 e2 s2 r2=>
    obtain⟨rfl,rfl,h3⟩:=hv;exact⟨v1,e2,s1,r2,ga,l1,λhv=>by
     obtain⟨a1,a2,a3⟩:=k1 hv;exact⟨by simp only[Loc.Ce,hs];exact a1,a2,by rw[<-h3];exact a3⟩⟩
end
end Go.DM
namespace Go.DM
open Go.RowKit
variable [Laid]
structure ItOk(P:Program)(f:FuncId)(caps:List T)(Ey:List (List T)):Prop where
 entry:Entry P f
 run:∀(l:Nat) (J:(Nat->Prop)->List (List T)->World->Prop) (W:Nat->Prop) (A:World) (vs:Array Value),Yields P l J->J W Ey A->aP A W caps vs.toList->(∀b,W b->b<A.heap.size)->zN A W->
  Calls P f (#[.func (.yield l) #[] #[]]++vs) A λe B=>(∃v,e=.returned v)/\∃W',J W' [] B
def AH(f:Nat->DV):List Nat->List T->Nat->DV
 |p::ps,x::xs=>AH (b7 f (some p) (.v x)) ps xs
 |_,_=>f
section
variable{P:Program}{nt:Nat}
theorem C2{A:World}{W:Nat->Prop}{objs:aU}{L:Loc}:∀(ps:List Nat) (x:List T) (vals:List Value) (f:Nat->DV) (tm:Array Value),(∀p∈ps,p<nt)->tm.size=nt->x.length=ps.length->dw A (WW W objs L) x vals->
  (∀t,av A W objs L (f t) (tm.getD t Go.undef))->
  ((ps.zip vals).foldl (λt (pv:Nat×Value)=>t.setIfInBounds pv.1 pv.2) tm).size=nt/\∀t,av A W objs L (AH f ps x t) (((ps.zip vals).foldl (λt (pv:Nat×Value)=>t.setIfInBounds pv.1 pv.2) tm).getD t Go.undef)
 |[],x,vals,f,tm,_,hs,hl,hr,hf=>by
  have:x=[]:=ZaD (by simpa using hl);subst this;exact⟨by simpa using hs,by simpa [AH]using hf⟩
 |p::ps,[],vals,f,tm,_,_,hl,_,_=>by simp at hl
 |p::ps,y::x,vals,f,tm,hp,hs,hl,hr,hf=>by
  simp only[dw]at hr;obtain⟨v,gY,rfl,h1,h2⟩:=hr;simp only[List.zip_cons_cons,ZaB,AH];refine C2 ps x gY _ _ (λq hq=>hp q (ZaW _ hq)) (by simpa using hs) (by simpa using hl) h2 λt=>?_;rw[Ad _ _ _ _ (by rw[hs];exact hp p (Za5 ..))];simp only[b7];by_cases ht:t=p
  ·simp only[ht,if_true,av];exact h1
  ·simp only[ht,if_false];exact hf t
theorem J9(qs:Array Nat)(vals:Array Value)(tm:Array Value):(qs.zip vals).foldl (λt (p,v)=>t.setIfInBounds p v) tm=(qs.toList.zip vals.toList).foldl (λt (pv:Nat×Value)=>t.setIfInBounds pv.1 pv.2) tm:=by
 rw[<-Array.foldl_toList,Array.toList_zip]
theorem OJ{ro:Option Nat}{w:World}{fn:FuncId}{tm:Array Value}{ps:Array Nat}{y z:Code}(jS:∀l,ro=some l->∃r,w.heap[l]? =some (.loop r)):
  ∃(l:Nat) (Ds:List Nat) (W1:World) (rec:Loop),(Instr.enterLoop fn tm ps y z ro).run P w=.ok (l,Ds.map mark) W1/\tE w.heap.size w W1/\w.heap.size<=l/\W1.heap[l]? =some (.loop rec)/\
   rec.state=.ready/\rec.pending=none/\rec.fn=fn/\rec.tmps=tm/\rec.params=ps/\rec.assign=y/\rec.body=z/\Ds.Nodup/\(∀D∈Ds,W1.heap[D]? =some (.deferred (some []))/\w.heap.size<=D):=by
 cases ro with
 |none=>
  refine⟨_,[w.heap.size],_,{state:=.ready,pending:=none,fn,tmps:=tm,params:=ps,assign:=y,body:=z,defers:=w.heap.size},run_enterLoop_outer _ _ _ _ _, ?_,by simp, ?_,rfl,rfl,rfl,rfl,rfl,rfl,rfl,by simp, ?_⟩
  ·exact⟨((Below.refl _ w).alloc (Zae _) _).alloc (by simp) _,Zae _⟩
  ·have:=World.alloc_heap_new (w.alloc (.deferred (some []))) (.loop {state:=.ready,pending:=none,fn,tmps:=tm,params:=ps,assign:=y,body:=z,defers:=w.heap.size})
   rwa [World.size_alloc]at this
  ·intro D hD;simp only[Zah]at hD;subst hD;exact⟨(Below.heap_alloc _ _ _ (by simp)).trans (World.alloc_heap_new w _),Zae _⟩
 |some l0=>
  obtain⟨r0,hr0⟩:=jS l0 rfl;refine⟨_,[],_,{state:=.ready,pending:=none,fn,tmps:=tm,params:=ps,assign:=y,body:=z,defers:=r0.defers},run_enterLoop_inner hr0 _ _ _ _ _, ?_,Zae _,World.alloc_heap_new w _,rfl,rfl,rfl,rfl,rfl,rfl,rfl,ZbT,λD hD=>by cases hD⟩;exact⟨(Below.refl _ w).alloc (Zae _) _,Zae _⟩
theorem aa.wT{Q:Exit->kW->Prop}{st:kW}{g:bp}{ps:List Nat}{as bs:DC}{f:FuncId}{caps:List T}{Ey:List (List T)}(hit:ItOk P f caps Ey)(Ck:0<st.low)
  (hg:g.ev st.tmps=.v (.fn (.func f) caps)) (hlen:∀x∈Ey,x.length=ps.length) (R:List (List T)->aU) (hR0:R []=st.objs) (hRf:∀pre r,st.nxt<=r->R pre r=none)
  (round:∀pre x rest,Ey=pre++x::rest->aa P nt as (λe s1=>e=.normal/\aa P nt bs (λe s2=>e=.normal/\Le s2 ⟨λ_=>.undef,R (pre++[x]),st.nxt,st.nxt,[]⟩) s1) ⟨AH st.tmps ps x,R pre,st.nxt,st.nxt,[]⟩)
  (done:Q .normal ⟨st.tmps,R Ey,st.nxt,st.low,st.todo⟩):aa P nt (.wT g ps as bs) Q st:=by
 refine⟨λc hc=>?_⟩;obtain⟨g',qs,y,z,rfl,hg',rfl,cW,hy,hz⟩:=JW hc;intro n κ a w L gd r;have hJ:κ.J=none:=by
  cases hj:κ.J with
  |none=>rfl
  |some J=>have:=r.it (by rw[hj];rfl);omega
 obtain⟨W,base,M,w0,dI,h0⟩:=r.r.ex;have J0:=dI;unfold Ctx.At at J0;simp only[hJ]at J0;obtain⟨htd,rfl,rfl,rfl,rfl⟩:=J0;have hgv:=bp.bq h0.o.gl h0.tmps hg';rw[hg]at hgv;simp only[av,aR]at hgv;obtain⟨vs,hgv,CS⟩:=hgv;have hle:κ.base<=w.heap.size:=ZaC h0.o.fr.hZ h0.o.fr.size;have wO:∀b,WW κ.W st.objs L b->b<w.heap.size:=by
  rintro b (hb|⟨r',o',h1,h2⟩)
  ·have:=h0.o.under b hb;omega
  ·exact(h0.o.ob r' o' h1).lt h2
 refine wpIn_rangeFunc ?_;intro fn wo;obtain⟨l,Ds0,W1,rec,As,GJ,hlw,wy,r1,r2,r3,r4,r5,r6,r7,y7,hDs⟩:=OJ (P:=P) (ro:=κ.ro) (w:=w) (fn:=fn) (tm:=a.tmps) (ps:=qs) (y:=y) (z:=z) (λl hl=>by
  obtain⟨rc,Ka⟩:=gd.rd l hl;exact⟨rc,r.r.ee.keeps.Wu l rc Ka⟩)
 obtain⟨fnE,hfnE,bG,F1⟩:=hit.entry;have hDl:∀D∈Ds0,D≠l:=λD hD e=>by
  have:=(hDs D hD).1;rw[e,wy]at this;cases this
 let J:(Nat->Prop)->List (List T)->World->Prop:=λWk todo A=>∃pre L',Ey=pre++todo/\bK κ.base κ.W κ.M κ.w0 (R pre) A L'/\iX κ.W st.objs L w (R pre) L' A/\(∀b,WW κ.W (R pre) L' b->Wk b)/\
  A.heap[l]? =some (.loop rec)/\(∀D∈Ds0,A.heap[D]? =some (.deferred (some [])))/\∀b,Wk b->b<A.heap.size
 have hrec:({rec with state:=.ready,pending:=none}:Loop)=rec:=by cases rec;simp_all
 have hYield:Yields P l J:=by
  refine⟨?_, ?_⟩
  ·rintro Wk todo A B ⟨pre,L',h1,h2,h3,h4,h5,h6,h7⟩ hb;obtain⟨hO,hA⟩:=bK.grow h2 hb;refine⟨pre,L',h1,hO,h3.comp hA (λ_ h=>.inl h) (λ_ h=>h),h4, ?_,λD hD=>?_,λb hw=>ZaR (h7 b hw) hb.size⟩
   ·exact(hb.block l (Zai.1 h5).1).trans h5
   ·exact(hb.block D (Zai.1 (h6 D hD)).1).trans (h6 D hD)
  ·rintro Wk x rest vals A ⟨pre,L',h1,h2,h3,h4,h5,h6,h7⟩ hx;have sc:x.length=qs.toList.length:=hlen x (by rw[h1];simp);have wj:vals.size=rec.params.size:=by
    have:=dw.length hx;rw[r5];simpa [sc]using this
   have PX:=run_yield (P:=P) (args:=vals) h5 wj;rw[r3,r4,r5,r6,r7]at PX;refine⟨_,_,_,_,PX, ?_⟩;have hleA:κ.base<=A.heap.size:=ZaC h2.fr.hZ h2.fr.size;have hlA:=(Zai.1 h5).1;have hxW:dw A (WW κ.W (R pre) L') x vals.toList:=by
    have hk:=cb.refl Wk A;have conv:∀(ts:List T) (vs:List Value),dw A Wk ts vs->dw A (WW κ.W (R pre) L') ts vs:=λts vs h=>dw.aC hk.toKeepsC (λb _ hb=>h4 b hb) ts vs h
    exact conv _ _ hx
   have iY:∀t,av A κ.W (R pre) L' (st.tmps t) (a.tmps.getD t Go.undef):=λt=>av.ee h3 _ _ (h0.tmps t);have Qu:=C2 (nt:=nt) qs.toList x vals.toList st.tmps a.tmps cW h0.size sc hxW iY;rw[<-J9]at Qu
   let κ1:Ctx:=⟨κ.W,R pre,L',A,κ.base,κ.M,κ.w0,none,some l⟩
   have good1:κ1.Good P:=⟨λJ hJ=>(by cases hJ),λl' Y6=>by cases Y6;exact⟨rec,h5⟩⟩;have rel1:Rel κ1 nt ⟨AH st.tmps qs.toList x,R pre,st.nxt,st.nxt,[]⟩ {tmps:=(qs.zip vals).foldl (λt (p,v)=>t.setIfInBounds p v) a.tmps,defers:=[]} A L':=
    ⟨⟨⟨κ.W,κ.base,κ.M,κ.w0,⟨rfl,rfl,rfl,rfl,rfl⟩,Qu.1,Qu.2,h2⟩,iX.cd (cb.refl _ _),⟨[],rfl,ZbT,(λ_ h=>by cases h),λ_=>rfl⟩,λ_=>hleA,⟨st.nxt,hRf pre⟩⟩,hRf pre,hRf pre,λh=>by cases h⟩
   refine roundIn_of_wpIn trivial ?_;refine wpIn_mono ((round pre x rest h1).run y hy 0 κ1 _ A L' good1 rel1) ?_;rintro e a' w' ⟨s1,L1,⟨rfl,hbody⟩,OK⟩;have Ez:=OK.r.ee;have qe:w'.heap[l]? =some (.loop rec):=Ez.keeps.Wu l rec h5;have hlw':=(Zai.1 qe).1;refine⟨_,run_beginRound qe r1, ?_⟩
   let busy:Loop:={rec with state:=.busy}
   let κ2:Ctx:=⟨κ.W,R pre,L',A.putObj l (.loop busy),κ.base,κ.M,κ.w0,none,some l⟩
   have hsA:(A.putObj l (.loop busy)).heap.size=A.heap.size:=by simp[World.putObj]
   have zL:(w'.putObj l (.loop busy)).heap.size=w'.heap.size:=by simp[World.putObj]
   have gA:(A.putObj l (.loop busy)).heap[l]? =some (.loop busy):=World.putObj_heap_same hlA;have gw':(w'.putObj l (.loop busy)).heap[l]? =some (.loop busy):=World.putObj_heap_same hlw';have oA:∀b,b≠l->(A.putObj l (.loop busy)).heap[b]? =A.heap[b]? :=λb hb=>World.putObj_heap_other hb;have ow:∀b,b≠l->(w'.putObj l (.loop busy)).heap[b]? =w'.heap[b]? :=λb hb=>World.putObj_heap_other hb;have W0:¬Obj.plain (.loop rec):=λe=>e;have good2:κ2.Good P:=⟨λJ hJ=>(by cases hJ),λl' Y6=>by cases Y6;exact⟨busy,gA⟩⟩;have hlb:κ.base<=l:=ZaC hle hlw;have adv2:iX κ.W (R pre) L' (A.putObj l (.loop busy)) s1.objs L1 (w'.putObj l (.loop busy)):=by
    refine⟨⟨⟨by rw[hsA,zL];exact Ez.keeps.size,λb c e fr hb hn=>?_⟩,λb hb=>?_,λb rr hb=>?_⟩,λb hb hw=>?_,Ez.fix,Ez.arr,Ez.yl⟩
    ·have bG:b≠l:=by rintro rfl;rw[gA]at hb;cases hb
     rw[oA b bG]at hb;rw[ow b bG];exact Ez.keeps.gW b c e fr hb hn
    ·have bG:b≠l:=by rintro rfl;rw[gA]at hb;cases hb
     rw[oA b bG]at hb;rw[ow b bG];exact Ez.keeps.NZ b hb
    ·by_cases bG:b=l
     ·subst bG;rw[gA]at hb;rw[gw'];exact hb
     ·rw[oA b bG]at hb;rw[ow b bG];exact Ez.keeps.Wu b rr hb
    ·rw[hsA]at hb;exact Ez.sub b hb hw
   have rel3:Rel κ2 nt s1 a' (w'.putObj l (.loop busy)) L1:=by
    obtain⟨W2,base2,M2,w02,Xk,Xl⟩:=OK.r.ex;have hat2':=Xk;obtain⟨e0,e1,e2,e3,e4⟩:=Xk
    replace Xl:R0 κ.base κ.W κ.M κ.w0 nt s1.tmps s1.objs a' w' L1:=by rw[e1,e2,e3,e4]at Xl;exact Xl
    have Cn:KeepsC (WW κ.W s1.objs L1) w' (w'.putObj l (.loop busy)):=⟨by rw[zL];exact Zae _,λb c e fr hb _=>lX qe W0 b _ trivial hb⟩;obtain⟨Ds,d1,d2,d3,d4⟩:=OK.r.defers;refine⟨⟨⟨κ.W,κ.base,κ.M,κ.w0,⟨e0,rfl,rfl,rfl,rfl⟩,Xl.size,λt=>(mK Cn (SizeOf.sizeOf (s1.tmps t)+1)).1 (s1.tmps t) _ (ZbV _) (Xl.tmps t),uZ Xl.o qe W0 hlb⟩,adv2,⟨Ds,d1,d2,λD hD=>?_,d4⟩,λ_=>by rw[hsA];exact hleA,OK.r.fin⟩,OK.fresh,OK.low,λh=>by cases h⟩;have:=d3 D hD;refine⟨?_,by rw[hsA];exact this.2⟩;rw[ow D (by rintro rfl;rw[qe]at this;cases this.1)];exact this.1
   refine wpIn_mono (hbody.run z hz 0 κ2 a' _ L1 good2 rel3) ?_;rintro e a3 w3 ⟨s3,L3,⟨rfl,hLe⟩,rel4⟩;obtain⟨L4,rel5⟩:=hLe κ2 nt a3 w3 L3 rel4;have EA:=rel5.r.ee;have hl3:w3.heap[l]? =some (.loop busy):=EA.keeps.Wu l busy gA;have hlw3:=(Zai.1 hl3).1;have GL:=run_endRound (P:=P) none hl3;simp only[Option.isNone_none,if_true]at GL;have hbr:({busy with state:=.ready,pending:=none}:Loop)=rec:=by rw[<-hrec]
   rw[hbr]at GL;refine⟨_,_,GL,rfl, ?_⟩;have hs3:(w3.putObj l (.loop rec)).heap.size=w3.heap.size:=by simp[World.putObj]
   have g3:(w3.putObj l (.loop rec)).heap[l]? =some (.loop rec):=World.putObj_heap_same hlw3;have o3:∀b,b≠l->(w3.putObj l (.loop rec)).heap[b]? =w3.heap[b]? :=λb hb=>World.putObj_heap_other hb;have hnb:¬Obj.plain (.loop busy):=λe=>e;have Q9:iX κ.W (R pre) L' A (R (pre++[x])) L4 (w3.putObj l (.loop rec)):=by
    refine⟨⟨⟨by rw[hs3];have:=EA.keeps.size;rw[hsA]at this;exact this,λb c e fr hb hn=>?_⟩,λb hb=>?_,λb rr hb=>?_⟩,λb hb hw=>?_,EA.fix,EA.arr,EA.yl⟩
    ·have bG:b≠l:=by rintro rfl;rw[h5]at hb;cases hb
     rw[o3 b bG];exact EA.keeps.gW b c e fr (by rw[oA b bG];exact hb) hn
    ·have bG:b≠l:=by rintro rfl;rw[h5]at hb;cases hb
     rw[o3 b bG];exact EA.keeps.NZ b (by rw[oA b bG];exact hb)
    ·by_cases bG:b=l
     ·subst bG;rw[h5]at hb;rw[g3];exact hb
     ·rw[o3 b bG];exact EA.keeps.Wu b rr (by rw[oA b bG];exact hb)
    ·exact EA.sub b (by rw[hsA];exact hb) hw
   obtain⟨W5,base5,M5,w05,hat5,h05⟩:=rel5.r.ex;obtain⟨_,e1,e2,e3,e4⟩:=hat5
   replace h05:bK κ.base κ.W κ.M κ.w0 (R (pre++[x])) w3 L4:=by have:=h05.o;rw[e1,e2,e3,e4]at this;exact this
   have hO4:bK κ.base κ.W κ.M κ.w0 (R (pre++[x])) (w3.putObj l (.loop rec)) L4:=uZ h05 hl3 hnb hlb;have hle4:κ.base<=(w3.putObj l (.loop rec)).heap.size:=ZaC hO4.fr.hZ hO4.fr.size;have hww4:∀b,WW κ.W (R (pre++[x])) L4 b->b<(w3.putObj l (.loop rec)).heap.size:=by
    rintro b (hb|⟨r',o',q1,q2⟩)
    ·have:=hO4.under b hb;omega
    ·exact(hO4.ob r' o' q1).lt q2
   have hAw:A.heap.size<=(w3.putObj l (.loop rec)).heap.size:=Q9.keeps.size;refine⟨λb=>Wk b\/WW κ.W (R (pre++[x])) L4 b,⟨pre++[x],L4,by rw[h1];simp,hO4,h3.comp Q9 (λ_ h=>.inl h) (λ_ h=>h),λb hb=>.inr hb,g3,λD hD=>Q9.keeps.NZ D (h6 D hD), ?_⟩,Q9.keeps.mono h4, ?_,λb hb=>.inl hb⟩
   ·rintro b (hb|hb)
    ·exact ZaR (h7 b hb) hAw
    ·exact hww4 b hb
   ·rintro b (hb|hb)
    ·exact⟨ZaR (h7 b hb) hAw,.inl hb⟩
    ·refine⟨hww4 b hb, ?_⟩;by_cases hlt':b<A.heap.size
     ·exact .inl (h4 b (Q9.sub b hlt' hb))
     ·exact .inr (by omega)
 obtain⟨pq,hA1⟩:=bK.grow h0.o GJ;have hJ1:J (WW κ.W st.objs L) Ey W1:=⟨[],L,rfl,by rw[hR0];exact pq,by rw[hR0];exact hA1,by rw[hR0];exact λb hb=>hb,wy,λD hD=>(hDs D hD).1,λb hb=>ZaR (wO b hb) GJ.size⟩;refine⟨l,Ds0.map mark,W1,{target:=.fn (.func f) vs,args:= #[.func (.yield l) #[] #[]]},W1,f, #[.func (.yield l) #[] #[]]++vs,W1,As, ?_,λ_ _=>trivial, ?_,(λh=>by cases h), ?_⟩
 ·simp only[resolve,hgv,Deferred.ofValue];simp[Act.eval]
 ·simp[invoke,callFunc,hfnE,bG];intro lQ;simp[lQ]at F1
 ·refine dT ((hit.run l J (WW κ.W st.objs L) W1 vs hYield hJ1 ?_ (λb hb=>ZaR (wO b hb) GJ.size) pq.gl).mono ?_)
  ·exact aP.aC (cb.Gh GJ.toBelow (W:=WW κ.W st.objs L)).toKeepsC (λ_ _ h=>h) _ _ CS
  ·rintro e B ⟨⟨v,rfl⟩,W',pre,L',h1,h2,h3,h4,h5,h6,h7⟩;have:pre=Ey:=by simpa using h1.symm
   subst this;refine⟨none,_,by have:=run_endLoop (P:=P) h5 (by rw[r1];simp);rw[r2]at this;exact this, ?_⟩;have hlB:=(Zai.1 h5).1
   let off:Loop:={rec with state:=.exhausted,pending:=none}
   have W0:¬Obj.plain (.loop rec):=λe=>e;have hlb:κ.base<=l:=ZaC hle hlw;have hsB:(B.putObj l (.loop off)).heap.size=B.heap.size:=by simp[World.putObj]
   have oB:∀b,b≠l->(B.putObj l (.loop off)).heap[b]? =B.heap[b]? :=λb hb=>World.putObj_heap_other hb;have Cn:KeepsC (WW κ.W (R pre) L') B (B.putObj l (.loop off)):=⟨by rw[hsB];exact Zae _,λb c e fr hb _=>lX h5 W0 b _ trivial hb⟩;have hgw:=r.r.ee.keeps.size;have advT:iX κ.W κ.go κ.gL κ.gw (R pre) L' (B.putObj l (.loop off)):=by
    have h:=r.r.ee.comp h3 (λ_ h=>.inl h) (λ_ h=>h);refine⟨⟨⟨by rw[hsB];exact h.keeps.size,λb c e fr hb hn=>lX h5 W0 b _ trivial (h.keeps.gW b c e fr hb hn)⟩,λb hb=>?_,λb rr hb=>?_⟩,h.sub,h.fix,h.arr,h.yl⟩
    ·rw[oB b (by have:=(Zai.1 hb).1;omega)];exact h.keeps.NZ b hb
    ·rw[oB b (by have:=(Zai.1 hb).1;omega)];exact h.keeps.Wu b rr hb
   obtain⟨Ds,d1,d2,d3,d4⟩:=r.r.defers;refine⟨_,L',done,⟨⟨κ.W,κ.base,κ.M,κ.w0,dI,h0.size,λt=>(mK Cn (SizeOf.sizeOf (st.tmps t)+1)).1 (st.tmps t) _ (ZbV _) (av.ee h3 _ _ (h0.tmps t)),uZ h2 h5 W0 hlb⟩,advT,⟨Ds0++Ds,by rw[ZaP,<-d1], ?_,λD hD=>?_,λh=>by rw[hJ]at h;cases h⟩,r.r.bg,⟨st.nxt,hRf pre⟩⟩,hRf pre,r.low,r.it⟩
   ·rw[ZbP];refine⟨y7,d2,λD hD D' hD' e=>?_⟩;subst e;have k1:=(hDs D hD).2;have k2:=(Zai.1 (d3 D hD').1).1;omega
   ·rcases Zao.1 hD with hD|hD
    ·refine⟨?_,ZaC hgw (hDs D hD).2⟩;rw[oB D (hDl D hD)];exact h6 D hD
    ·refine⟨?_,(d3 D hD).2⟩;have k2:=(Zai.1 (d3 D hD).1).1;rw[oB D (by omega)];exact h3.keeps.NZ D (d3 D hD).1
def finI:Exit->kW->Prop
 |.normal,st|.ret,st=>st.todo=[]
 |_,_=>False
def GM(caps:List T)(Ey:List (List T)):kW:=⟨λk=>match k with|0=>.CF|k+1=>y9 caps[k]?,λ_=>none,1000,0,Ey⟩
theorem aQ.okI{f:FuncId}{d:DC}(h:aQ P f nt d []){caps:List T}{Ey:List (List T)}(hlen:caps.length+1<=nt)(k:aa P nt d finI (GM caps Ey)):ItOk P f caps Ey:=by
 have As:=h.entry;obtain⟨fn,wo,rfl,h3,hr,_⟩:=h;obtain⟨c,hb,hc⟩:=Zab.1 h3;refine⟨As,λl J W A vs hy hj eI hW hg=>?_⟩;have hl:=aP.length eI;simp only[ZaU]at hl;have u0:Rel ⟨W,λ_=>none,⟨λ_=>0,λ_=>Go.undef,l⟩,A,0,λ_=>False,A,some J,none⟩ fn.ntmps (GM caps Ey) {tmps:=(#[.func (.yield l) #[] #[]]++vs)++Array.replicate (fn.ntmps-(#[Value.func (.yield l) #[] #[]]++vs).size) Go.undef,defers:=[]} A ⟨λ_=>0,λ_=>Go.undef,l⟩:=by
  refine⟨⟨⟨W,A.heap.size,λ_=>False,A,⟨hj,rfl,rfl,λb hb=>.inl hb,λb hb=>hb⟩,by simp;omega,λk=>?_,⟨Fr.refl (Zae _),(λr o h=>by cases h),(λr r' o o' b _ h=>by cases h),(λr o b h=>by cases h),hW,hg.start⟩⟩,
   iX.cd (cb.refl _ _),⟨[],rfl,ZbT,(λ_ h=>by cases h),λ_=>rfl⟩,(λh=>by cases h),⟨0,λ_ _=>rfl⟩⟩,λ_ _=>rfl,λ_ _=>rfl,λ_=>rfl⟩
  simp only[GM];cases k with
  |zero=>simp only[av];exact oH (by simp)
  |succ k=>
   simp only;cases hk:caps[k]? with
   |some x=>
    obtain⟨v,hv,_,jj⟩:=aP.get eI hk;have pU:(#[Value.func (.yield l) #[] #[]]++vs).toList[k+1]? =some v:=by simpa using hv
    simp only[oH pU,y9,av];refine aR.aC (cb.refl W A).toKeepsC ?_ x v jj;rintro b hb (h|⟨r,o,h,_⟩)
    ·exact h
    ·cases h
   |none=>
    have zf:(#[Value.func (.yield l) #[] #[]]++vs).size<=k+1:=by
     have:=ZbF.1 hk;simp;omega
    simp only[y9,av,oI zf]
 refine callsIn_wide.1 (callsIn_of_wp_marks (n:=0) wo hb trivial ?_);refine wpIn_mono (k.run c hc 0 _ _ _ _ ⟨λJ' hJ=>by cases hJ;exact hy,λl hl=>(by cases hl)⟩ u0) ?_;rintro e a' w' ⟨df,L',q,r'⟩;have done:df.todo=[]->LeavesInM Fence.wide 0 P fn a'.tmps (λe B=>(∃v,e=.returned v)/\∃W',J W' [] B) a'.defers .returning w':=by
  intro hq;obtain⟨Ds,h1,h2,h3,h4⟩:=r'.r.defers;have hD0:=h4 rfl;subst hD0;rw[h1];obtain⟨W',MD,M',w0',dI,h0⟩:=r'.r.ex;obtain⟨YP,rfl,rfl,_,_⟩:=dI;rw[show(⟨df.tmps,df.objs,df.todo⟩:RS).todo=[]from hq]at YP;obtain⟨v,k1,_⟩:=rj (st:=df) h0 (lend:=true) (W':=λ_=>False) (λ_ _ _ _ _ _ h=>h) (λ_ h=>h.elim) hr ⟨(trivial:qZ true df []),rfl⟩;have fr:=h0.o.fr;exact⟨v,k1,⟨v,rfl⟩,W',hy.stays W' [] w0' w' YP ⟨⟨fr.os,fr.tape,fr.output,fr.size,λk hk=>fr.block k hk (λx=>x)⟩,fr.drawn⟩⟩
 cases e with
 |normal=>exact done q
 |ret=>exact done q
 |_=>exact q.elim
end
def gm(objs aA:aU)(σ:Nat->Nat)(tm:Nat->DV):List (Nat×DV)->Prop
 |[]=>True
 |(k,d)::l=>jh objs aA σ (tm k) d/\gm objs aA σ tm l
def tQ(objs aA:aU)(σ:Nat->Nat):List (Nat×Ob)->Prop
 |[]=>True
 |(r,o)::l=>(∃o0,objs (σ r)=some o0/\lR objs aA σ o0 o)/\tQ objs aA σ l
def kJ(n:Nat):List (Nat×Ob)->Prop
 |[]=>True
 |(r,_)::l=>r<n/\kJ n l
def rl(n:Nat):List (Nat×Ob)->Prop
 |[]=>True
 |(r,_)::l=>n<=r/\rl n l
def EB(σ:Nat->Nat)(r:Nat):List (Nat×Ob)->Prop
 |[]=>True
 |(r',_)::l=>(σ r=σ r'->r=r')/\EB σ r l
def zn(σ:Nat->Nat):List (Nat×Ob)->Prop
 |[]=>True
 |(r,_)::l=>EB σ r l/\zn σ l
theorem l7:∀{l:List (Nat×Ob)} {r:Nat} {o:Ob},cA l r=some o->(r,o)∈l
 |[],_,_,h=>by cases h
 |(j,x)::l,r,o,h=>by
  simp only[cA]at h;split at h
  ·rename_i e;cases h;subst e;exact Za5 ..
  ·exact ZaW _ (l7 h)
theorem ML{l:List (Nat×Ob)}{r:Nat}(h:cA l r≠none):∃o,(r,o)∈l:=by
 cases ho:cA l r with
 |none=>exact absurd ho h
 |some o=>exact⟨o,l7 ho⟩
theorem kZ{n:Nat}:∀{l:List (Nat×Ob)},kJ n l->∀r o,(r,o)∈l->r<n
 |[],_,_,_,h=>by cases h
 |(j,x)::l,hk,r,o,h=>by
  rcases Zag.1 h with e|h
  ·cases e;exact hk.1
  ·exact kZ hk.2 r o h
theorem ve{n:Nat}:∀{l:List (Nat×Ob)},rl n l->∀r o,(r,o)∈l->n<=r
 |[],_,_,_,h=>by cases h
 |(j,x)::l,hk,r,o,h=>by
  rcases Zag.1 h with e|h
  ·cases e;exact hk.1
  ·exact ve hk.2 r o h
theorem pr{objs aA:aU}{σ:Nat->Nat}:∀{l:List (Nat×Ob)},tQ objs aA σ l->∀r o,(r,o)∈l->∃o0,objs (σ r)=some o0/\lR objs aA σ o0 o
 |[],_,_,_,h=>by cases h
 |(j,x)::l,hk,r,o,h=>by
  rcases Zag.1 h with e|h
  ·cases e;exact hk.1
  ·exact pr hk.2 r o h
theorem tR{σ:Nat->Nat}{r:Nat}:∀{l:List (Nat×Ob)},EB σ r l->∀r' o,(r',o)∈l->σ r=σ r'->r=r'
 |[],_,_,_,h=>by cases h
 |(j,x)::l,hk,r',o,h=>by
  rcases Zag.1 h with e|h
  ·cases e;exact hk.1
  ·exact tR hk.2 r' o h
theorem yw{σ:Nat->Nat}:∀{l:List (Nat×Ob)},zn σ l->∀r1 r2 o1 o2,(r1,o1)∈l->(r2,o2)∈l->σ r1=σ r2->r1=r2
 |[],_,_,_,_,_,h,_=>by cases h
 |(j,x)::l,hk,r1,r2,o1,o2,h1,h2=>by
  rcases Zag.1 h1 with e1|h1
  ·cases e1;rcases Zag.1 h2 with e2|h2
   ·cases e2;exact λ_=>rfl
   ·exact tR hk.1 r2 o2 h2
  ·rcases Zag.1 h2 with e2|h2
   ·cases e2;exact λe=>(tR hk.1 r1 o1 h1 e.symm).symm
   ·exact yw hk.2 r1 r2 o1 o2 h1 h2
@[simp] theorem Xt(σ:Nat->Nat)(r:Nat):gone (cA []) σ r:=λr' h=>by simp[cA]at h
theorem Ra{σ:Nat->Nat}{r j:Nat}{o:Ob}{l:List (Nat×Ob)}(h1:σ j≠r)(h2:gone (cA l) σ r):gone (cA ((j,o)::l)) σ r:=by
 intro r' ff;by_cases hj:r'=j
 ·subst hj;exact h1
 ·exact h2 r' (by rw[dt,if_neg hj]at ff;exact ff)
theorem rn{objs aA:aU}{σ:Nat->Nat}{tm:Nat->DV}:∀(l:List (Nat×DV)),gm objs aA σ tm l->∀k,jh objs aA σ (tm k) (look l k)
 |[],_,k=>by
  show jh objs aA σ (tm k) .undef;cases tm k<;>simp[jh]
 |(j,d)::l,h,k=>by
  simp only[look];split
  ·rename_i e;subst e;exact h.1
  ·exact rn l h.2 k
theorem Le.corL{tm:Nat->DV}{o0 o:List (Nat×Ob)}{l:List (Nat×DV)}{nxt nxt':Nat}{td:List (List T)}{low:Nat}(σ:Nat->Nat)(wx:rl low o0)(hk:kJ nxt' o)(ha:zn σ o)
  (fH:tQ (cA o0) (cA o) σ o) (iY:gm (cA o0) (cA o) σ tm l):Le ⟨tm,cA o0,nxt,low,td⟩ ⟨look l,cA o,nxt',low,td⟩:=by
 refine Le.cor σ rfl rfl (λr hr=>?_) (λr' o' h=>pr fH r' o' (l7 h)) (λr1 r2 h1 h2 e=>?_) (λr hr o' h=>?_) (λk=>rn l iY k)
 ·cases ho:cA o r with
  |none=>exact ho
  |some x=>have:=kZ hk r x (l7 ho);simp only at hr;omega
 ·obtain⟨x1,k1⟩:=ML h1;obtain⟨x2,k2⟩:=ML h2;exact yw ha r1 r2 x1 x2 k1 k2 e
 ·have:=ve wx r o' (l7 h);simp only at hr;omega
theorem Le.aC{tm:Nat->DV}{o0 o:List (Nat×Ob)}{l:List (Nat×DV)}{nxt nxt':Nat}{td:List (List T)}{low:Nat}(wx:rl low o0)(hk:kJ nxt' o)
  (fH:tQ (cA o0) (cA o) id o) (iY:gm (cA o0) (cA o) id tm l):Le ⟨tm,cA o0,nxt,low,td⟩ ⟨look l,cA o,nxt',low,td⟩:=by
 refine Le.corL id wx hk ?_ fH iY;clear hk fH iY;induction o with
 |nil=>trivial
 |cons p o ih=>
  refine⟨?_,ih⟩;clear ih;induction o with
  |nil=>trivial
  |cons q o ih=>exact⟨λh=>h,ih⟩
attribute [simp] gm tQ kJ rl EB zn jh jz Q3 Q5 MJ MK Ex lR
def fQ(tm:Nat->DV):List (Nat×DV)->Prop
 |[]=>True
 |(k,d)::l=>tm k=d/\fQ tm l
theorem AI{tm:Nat->DV}:∀{l:List (Nat×DV)},fQ tm l->∀k,look l k=.undef\/look l k=tm k
 |[],_,_=>.inl rfl
 |(j,d)::l,h,k=>by
  simp only[look];split
  ·rename_i e;subst e;exact .inr h.1.symm
  ·exact AI h.2 k
section
variable{P:Program}{nt:Nat}{Γ:Env}{Q:Exit->kW->Prop}{tm:Nat->DV}{ob:aU}{nxt low:Nat}{td:List (List T)}
theorem aa.Y7(aw:ay P Γ)(hm:P.follows .mixedOrders=true){draw:Bool}{rs:List RO}(l:List (Nat×DV))(ob':aU)
  (h:exec Γ nxt rs ⟨tm,ob,td⟩ λs=>fQ s.tmps l/\s.objs=ob'/\s.todo=td) (k:Q .normal ⟨look l,ob',nxt+nt+1,low,td⟩):aa P nt (.region draw rs) Q ⟨tm,ob,nxt,low,td⟩:=by
 obtain⟨h1,h2,h3,h4⟩:=eL _ _ _ h;refine aa.uX (Q:=λe s=>e=.normal/\s=⟨(cL Γ nxt rs ⟨tm,ob,td⟩).tmps,(cL Γ nxt rs ⟨tm,ob,td⟩).objs,nxt+nt+1,low,(cL Γ nxt rs ⟨tm,ob,td⟩).todo⟩) (aa.region aw hm (st:=⟨tm,ob,nxt,low,td⟩) h1 ⟨rfl,rfl⟩) ?_;rintro e s ⟨rfl,rfl⟩;refine⟨_,Le.u5 (AI h2), ?_⟩;simp only[h3,h4];exact k
theorem aa.Rb(aw:ay P Γ)(hm:P.follows .mixedOrders=true){draw:Bool}{rs:List RO}{b:DC}(l:List (Nat×DV))(ob':aU)
  (h:exec Γ nxt rs ⟨tm,ob,td⟩ λs=>fQ s.tmps l/\s.objs=ob'/\s.todo=td) (k:aa P nt b Q ⟨look l,ob',nxt+nt+1,low,td⟩):aa P nt (.seq (.region draw rs) b) Q ⟨tm,ob,nxt,low,td⟩:=
 aa.seq (aa.Y7 aw hm l ob' h k)
theorem aa.bY(aw:ay P Γ)(hm:P.follows .mixedOrders=true){draw:Bool}{rs:List RO}{b:DC}(l:List (Nat×DV))
  (h:exec Γ nxt rs ⟨tm,ob,td⟩ λs=>fQ s.tmps l/\s.objs=ob/\s.todo=td) (k:aa P nt b Q ⟨look l,ob,nxt+nt+1,low,td⟩):aa P nt (.seq (.region draw rs) b) Q ⟨tm,ob,nxt,low,td⟩:=
 aa.Rb aw hm l ob h k
theorem aa.to{d:DC}{st:kW}(st2:kW)(h:aa P nt d (λe s=>e=.normal/\Le s st2) st)(k:Q .normal st2):aa P nt d Q st:=
 aa.uX h λe s ⟨h1,h2⟩=>by subst h1;exact⟨st2,h2,k⟩
end
attribute [simp] fQ
end Go.DM
namespace Go.DM
open Go.RowKit
variable [Laid]
section
variable{P:Program}{nt:Nat}{Γ:Env}{Q:Exit->kW->Prop}{tm:Nat->DV}{ob:aU}{nxt low:Nat}{td:List (List T)}
theorem aa.EC(aw:ay P Γ)(hm:P.follows .mixedOrders=true){draw:Bool}{rs:List RO}(l:List (Nat×DV))
  (h:exec Γ nxt rs ⟨tm,ob,td⟩ λs=>fQ s.tmps l/\s.objs=ob/\s.todo=td) (k:Q .normal ⟨look l,ob,nxt+nt+1,low,td⟩):aa P nt (.region draw rs) Q ⟨tm,ob,nxt,low,td⟩:=
 aa.Y7 aw hm l ob h k
end
theorem C3:∀(ts:List T) (i k:Nat),look (((ts.map .v).zipIdx i).map λp=>(p.2,p.1)) k=.undef\/look (((ts.map .v).zipIdx i).map λp=>(p.2,p.1)) k=y9 (if i<=k then ts[k-i]? else none)
 |[],i,k=>.inl rfl
 |t::ts,i,k=>by
  simp only[Zau,Zb7,mi];split
  ·rename_i h;subst h;exact .inr (by simp[y9])
  ·rename_i h;rcases C3 ts (i+1) k with e|e
   ·exact .inl e
   ·right;rw[e];by_cases hk:i+1<=k
    ·rw[if_pos hk,if_pos (by omega),show k-i=(k-(i+1))+1 by omega,ZaX]
    ·have:¬i<=k:=by omega
     rw[if_neg hk,if_neg this]
theorem OL{P:Program}{nt:Nat}{d:DC}{Q:Exit->kW->Prop}{caps:List T}{Ey:List (List T)}
  (h:aa P nt d Q ⟨look ((0,.CF)::((caps.map .v).zipIdx 1).map λp=>(p.2,p.1)),cA [],1000,0,Ey⟩):aa P nt d Q (GM caps Ey):=by
 refine aa.le (Le.trans (Le.u5 (st:=GM caps Ey) (tm:=look ((0,.CF)::((caps.map .v).zipIdx 1).map λp=>(p.2,p.1))) λk=>?_) (λκ nt a w L r=>⟨L,r⟩)) h;simp only[mi];split
 ·rename_i e;subst e;exact .inr rfl
 ·rename_i e;rcases C3 caps 1 k with h|h
  ·exact .inl h
  ·rw[h];have:1<=k:=by omega
   rw[if_pos this];obtain⟨j,rfl⟩:∃j,k=j+1:=⟨k-1,by omega⟩;exact .inr rfl
def cZ(f:aU)(r:Nat)(o:Ob):aU:=λk=>if k=r then some o else f k
theorem J8(f:aU)(r:Nat)(o:Ob)(k:Nat):cZ f r o k=if k=r then some o else f k:=rfl
@[simp] theorem putO_setO(f:aU)(r:Nat)(o o':Ob):bR (cZ f r o) (some (r,o'))=cZ f r o':=by
 funext k;simp only[CY,cZ];split<;>rfl
@[simp] theorem setO_setO(f:aU)(r:Nat)(o o':Ob):cZ (cZ f r o) r o'=cZ f r o':=by
 funext k;simp only[cZ];split<;>rfl
theorem sk{f:aU}{r:Nat}{o o':Ob}(h:f r=some o){k:Nat}(hk:f k=none):cZ f r o' k=none:=by
 simp only[cZ];split
 ·rename_i e;rw[e,h]at hk;cases hk
 ·exact hk
theorem Le.same{tm:Nat->DV}{ob:aU}{nxt nxt' low:Nat}{td:List (List T)}{l:List (Nat×DV)}(h:∀r,nxt'<=r->ob r=none)(hl:fQ tm l):Le ⟨tm,ob,nxt,low,td⟩ ⟨look l,ob,nxt',low,td⟩:=
 Le.trans (Le.u5 (AI hl)) λκ nt a w L r=>⟨L,⟨r.r,h,r.low,r.it⟩⟩
theorem AJ:∀(ds:List DV) (i k:Nat),look ((ds.zipIdx i).map λp=>(p.2,p.1)) k=.undef\/look ((ds.zipIdx i).map λp=>(p.2,p.1)) k=JZ (if i<=k then ds[k-i]? else none)
 |[],i,k=>.inl rfl
 |t::ts,i,k=>by
  simp only[Zau,Zb7,mi];split
  ·rename_i h;subst h;exact .inr (by simp[JZ])
  ·rename_i h;rcases AJ ts (i+1) k with e|e
   ·exact .inl e
   ·right;rw[e];by_cases hk:i+1<=k
    ·rw[if_pos hk,if_pos (by omega),show k-i=(k-(i+1))+1 by omega,ZaX]
    ·have:¬i<=k:=by omega
     rw[if_neg hk,if_neg this]
theorem C4{P:Program}{nt:Nat}{d:DC}{Q:Exit->kW->Prop}{args:List DV}{objs:aU}{N:Nat}(h:aa P nt d Q ⟨look (args.zipIdx.map λp=>(p.2,p.1)),objs,N,N,[]⟩):aa P nt d Q (yn args objs N):=by
 refine aa.le (Le.u5 (st:=yn args objs N) (tm:=look (args.zipIdx.map λp=>(p.2,p.1))) λk=>?_) h;have:=AJ args 0 k;simpa [yn]using this
@[simp] theorem Rc(ob:aU):∀x:List T,gO ob (x.map .v)=x
 |[]=>rfl
 |t::x=>by simp[Rc ob x]
@[simp] theorem setO_get(f:aU)(r:Nat)(o:Ob):cZ f r o r=some o:=by simp[cZ]
theorem aY.of{P:Program}{f:FuncId}{args:List DV}{objs:aU}{r r':iw}(h:aY P f args objs r)(h1:r'.objs=r.objs)(h2:r'.val=r.val):aY P f args objs r':=by
 obtain⟨ok,val,ob⟩:=r;obtain⟨ok',val',ob'⟩:=r';simp only at h1 h2;subst h1 h2;exact⟨h.entry,h.run⟩
end Go.DM
namespace Go.DM
open Go.RowKit
variable [Laid]
def Loc.at(L:Loc)(q:Nat)(x:Value):Loc:=⟨L.gW,λk=>if k=q then x else L.sl k,L.yl⟩
section
variable{base:Nat}{W M:Nat->Prop}{w0 w:World}{objs:aU}{L:Loc}
theorem dN{f:aU}{q:Nat}{o o':Ob}{r:Nat}(h:cZ f q o r=some o'):(r=q/\o'=o)\/(r≠q/\f r=some o'):=by
 simp only[cZ]at h;split at h
 ·rename_i e;exact .inl ⟨e,(ZbK h).symm⟩
 ·rename_i e;exact .inr ⟨e,h⟩
theorem k9{f:aU}{q:Nat}{o o':Ob}{r:Nat}(h:r≠q)(k:f r=some o'):cZ f q o r=some o':=by
 simp only[cZ,if_neg h,k]
theorem ED{q:Nat}{x:Value}{r:Nat}{o:Ob}(h:r≠q):(L.at q x).own r o=L.own r o:=by
 cases o<;>simp[Loc.own,Loc.at,h]
theorem zo{q:Nat}{a:Option Addr}{v e sz:Nat}{rows:List (List T)}:(L.at q (.slice a 0 0)).own q (.arr v e sz rows)=none:=by
 cases a<;>simp[Loc.own,Loc.at,aO]
theorem Re{q:Nat}{a:Option Addr}{e sz:Nat}{b:Nat}(h:WW W (cZ objs q (.arr 0 e sz [])) (L.at q (.slice a 0 0)) b):WW W objs L b:=by
 rcases h with h|⟨r,o,hr,hb⟩
 ·exact .inl h
 ·rcases dN hr with⟨rfl,rfl⟩|⟨bG,hr⟩
  ·rw[zo]at hb;cases hb
  ·rw[ED bG]at hb;exact .inr ⟨r,o,hr,hb⟩
theorem EE{q:Nat}{a:Option Addr}{e sz:Nat}(hq:objs q=none):iX W objs L w (cZ objs q (.arr 0 e sz [])) (L.at q (.slice a 0 0)) w:=by
 refine⟨cb.refl _ _,λb _ h=>Re h,λr o hr hk=>?_,λr ver e' fY rows hr=>?_,rfl⟩
 ·have bG:r≠q:=λh=>by rw[h,hq]at hr;cases hr
  exact⟨rfl,o,k9 bG hr,rfl⟩
 ·have bG:r≠q:=λh=>by rw[h,hq]at hr;cases hr
  exact⟨ver,e',fY,rows,k9 bG hr,Zae _,λ_=>⟨by simp[Loc.at,bG],rfl,rfl⟩⟩
theorem GO(hO:bK base W M w0 objs w L){q:Nat}{a:Option Addr}{e sz:Nat}(gB:0<sz)(hq:objs q=none):bK base W M w0 (cZ objs q (.arr 0 e sz [])) w (L.at q (.slice a 0 0)):=by
 have hA:=EE (W:=W) (w:=w) (L:=L) (a:=a) (e:=e) (sz:=sz) hq;refine⟨hO.fr,λr o hr=>?_,λr r' o o' b bG h1 h2 hb=>?_,λr o b hr hb=>?_,hO.under,hO.gl.aC hA.keeps.toKeepsC hA.sub⟩
 ·rcases dN hr with⟨rfl,rfl⟩|⟨bG,hr⟩
  ·refine⟨gB,λx hx=>(by cases hx),λg hg=>?_,.inl ⟨rfl,a,by simp[Loc.at]⟩⟩;exfalso;simp only[Loc.at,if_true]at hg;cases a<;>simp[aO]at hg
  ·have hk:=hO.ob r o hr;cases o with
   |box cs=>
    obtain⟨c,f,bM,eI,hm⟩:=hk;exact⟨c,f,bM,aK.ee hA cs _ eI,hm⟩
   |map shs agg c es=>
    obtain⟨arr,bM,eI,q1,q2,q3,hm⟩:=hk;exact⟨arr,bM,bj.ee hA es _ eI,q1,q2,q3,hm⟩
   |iter m s sn l=>
    obtain⟨bM,Jn,hm⟩:=hk;exact⟨bM,(hA.mp m Jn).2,hm⟩
   |arr ver e' fY rows=>
    obtain⟨g1,g2,g3,g4⟩:=hk;have hs:(L.at q (.slice a 0 0)).sl r=L.sl r:=by simp[Loc.at,bG]
    refine⟨g1,g2,by rw[hs];exact g3, ?_⟩;rw[hs];rcases g4 with g4|⟨g,cap,cur,hv,hp,hh,k1,k2,k3,k4⟩
    ·exact .inl g4
    ·exact .inr ⟨g,cap,cur,hv,hp,hh,k1,k2,k3,aP.aC (cb.refl (WW W objs L) w).toKeepsC (λb _ hb=>Re hb) _ _ k4⟩
 ·rcases dN h1 with⟨rfl,rfl⟩|⟨n1,h1⟩
  ·rw[zo]at hb;cases hb
  ·rw[ED n1]at hb;rcases dN h2 with⟨rfl,rfl⟩|⟨n2,h2⟩
   ·rw[zo];exact λh=>by cases h
   ·rw[ED n2];exact hO.apart r r' o o' b bG h1 h2 hb
 ·rcases dN hr with⟨rfl,rfl⟩|⟨n1,hr⟩
  ·rw[zo]at hb;cases hb
  ·rw[ED n1]at hb;exact hO.outer r o b hr hb
end
theorem Le.l8{tm:Nat->DV}{ob:aU}{nxt low:Nat}{td:List (List T)}{k:Nat}(e:Nat){sz:Nat}(gB:0<sz)(hk:tm k=.aI):
  Le ⟨tm,ob,nxt,low,td⟩ ⟨b7 tm (some k) (.bk nxt 0),cZ ob nxt (.arr 0 e sz []),nxt+1,low,td⟩:=by
 intro κ nt a w L h;have hq:ob nxt=none:=h.fresh nxt (Zae _);obtain⟨W,base,M,w0,dI,h0⟩:=h.r.ex;have hx:=h0.tmps k;simp only[hk,av]at hx;obtain⟨ad,hx⟩:=hx;have hA:=EE (W:=W) (w:=w) (L:=L) (a:=ad) (e:=e) (sz:=sz) hq;have oG:=dI.sub;have wi:∀r,nxt+1<=r->cZ ob nxt (.arr 0 e sz []) r=none:=λr hr=>by
  simp only[cZ];rw[if_neg (by omega)];exact h.fresh r (by simp only;omega)
 refine⟨L.at nxt (.slice ad 0 0),⟨⟨W,base,M,w0,dI,h0.size,λt=>?_,GO h0.o gB hq⟩,iX.comp h.r.ee hA oG.1 oG.2,h.r.defers,h.r.bg,⟨_,wi⟩⟩,wi,h.low,h.it⟩;simp only[b7];by_cases ht:t=k
 ·subst ht;simp only[if_true,av];refine⟨⟨ad,0,0,hx⟩,0,e,sz,[],by simp,Zae _,λ_=>?_⟩;rw[hx];simp[Loc.at]
 ·simp only[ht,if_false];exact av.ee hA _ _ (h0.tmps t)
theorem wV{w:World}{W:Nat->Prop}{objs:aU}{L:Loc}:∀(cs:List DV) (xs:List Value) (k:Nat) (d:DV),aK w W objs L cs xs->(∀x,xs[k]? =some x->av w W objs L d x)->aK w W objs L (cs.set k d) xs
 |[],xs,k,d,h,_=>by simpa using h
 |c::cs,xs,0,d,h,hd=>by
  simp only[aK]at h;obtain⟨x,jJ,rfl,h1,h2,h3⟩:=h;simp only[Zce,aK];exact⟨x,jJ,rfl,h1,hd x (by simp),h3⟩
 |c::cs,xs,k+1,d,h,hd=>by
  simp only[aK]at h;obtain⟨x,jJ,rfl,h1,h2,h3⟩:=h;simp only[Zcz,aK];exact⟨x,jJ,rfl,h1,h2,wV cs jJ k d h3 λy hy=>hd y (by simpa using hy)⟩
theorem wW{w:World}{W:Nat->Prop}{objs:aU}{L:Loc}:∀(cs:List DV) (xs:List Value) (k:Nat) (d:DV) (x:Value),aK w W objs L cs xs->cs[k]? =some d->xs[k]? =some x->av w W objs L d x
 |[],xs,k,d,x,h,hk,_=>by simp at hk
 |c::cs,xs,0,d,x,h,hk,hx=>by
  simp only[aK]at h;obtain⟨y,jJ,rfl,h1,h2,h3⟩:=h;simp only[ZaG,Zaa]at hk hx;subst hk hx;exact h2
 |c::cs,xs,k+1,d,x,h,hk,hx=>by
  simp only[aK]at h;obtain⟨y,jJ,rfl,h1,h2,h3⟩:=h;simp only[ZaX]at hk hx;exact wW cs jJ k d x h3 hk hx
theorem tS{w:World}{W:Nat->Prop}{objs:aU}{L:Loc}:∀(cs:List DV) (xs:List Value) (k:Nat) (d:DV),aK w W objs L cs xs->cs[k]? =some d->∃x,xs[k]? =some x
 |[],xs,k,d,h,hk=>by simp at hk
 |c::cs,xs,0,d,h,hk=>by
  simp only[aK]at h;obtain⟨y,jJ,rfl,h1,h2,h3⟩:=h;exact⟨y,by simp⟩
 |c::cs,xs,k+1,d,h,hk=>by
  simp only[aK]at h;obtain⟨y,jJ,rfl,h1,h2,h3⟩:=h;simp only[ZaX]at hk;obtain⟨x,hx⟩:=tS cs jJ k d h3 hk;exact⟨x,by simpa using hx⟩
theorem Le.MM{tm:Nat->DV}{ob:aU}{nxt low:Nat}{td:List (List T)}(r:Nat)(k:Nat){cs:List DV}(e:Nat){sz:Nat}(gB:0<sz)(hr:ob r=some (.box cs))(hk:cs[k]? =some .aI):
  Le ⟨tm,ob,nxt,low,td⟩ ⟨tm,cZ (cZ ob nxt (.arr 0 e sz [])) r (.box (cs.set k (.bk nxt 0))),nxt+1,low,td⟩:=by
 intro κ nt a w L h;have hq:ob nxt=none:=h.fresh nxt (Zae _);have hrq:r≠nxt:=λe=>by rw[e,hq]at hr;cases hr
 have hrlt:r<nxt:=ZbW λhle=>by have:=h.fresh r hle;simp only at this;rw[this]at hr;cases hr
 obtain⟨W,base,M,w0,dI,h0⟩:=h.r.ex;have hO:=h0.o;obtain⟨c,f,bM,eI,hm⟩:=hO.ob r _ hr;obtain⟨x,hx⟩:=tS _ _ _ _ eI hk;have Cg:=wW _ _ _ _ _ eI hk hx;simp only[av]at Cg;obtain⟨ad,hxa⟩:=Cg;have hA:=EE (W:=W) (w:=w) (L:=L) (a:=ad) (e:=e) (sz:=sz) hq;have pq:=GO (a:=ad) (e:=e) hO gB hq;obtain⟨o1,GP⟩:∃o1,cZ ob nxt (.arr 0 e sz [])=o1:=⟨_,rfl⟩;obtain⟨L1,OM⟩:∃L1,L.at nxt (.slice ad 0 0)=L1:=⟨_,rfl⟩;have lP:o1 r=some (.box cs):=by rw[<-GP];exact k9 hrq hr
 rw[GP,OM]at hA pq;have wO:∀{V:Nat->Prop} b,WW V (cZ o1 r (.box (cs.set k (.bk nxt 0)))) L1 b->WW V o1 L1 b:=by
  intro V b hb;rcases hb with hb|⟨r',o,ff,hb⟩
  ·exact .inl hb
  ·rcases dN ff with⟨rfl,rfl⟩|⟨_,ff⟩
   ·exact .inr ⟨r',_,lP,hb⟩
   ·exact .inr ⟨r',o,ff,hb⟩
 have wv:iX W o1 L1 w (cZ o1 r (.box (cs.set k (.bk nxt 0)))) L1 w:=by
  refine⟨cb.refl _ _,λb _ h=>wO b h,λr' o' ff sS=>?_,λr' ver e' fY rows ff=>?_,rfl⟩
  ·by_cases he:r'=r
   ·subst he;rw[lP]at ff;cases ff;exact⟨rfl,.box (cs.set k (.bk nxt 0)),by simp[cZ],rfl⟩
   ·exact⟨rfl,o',k9 he ff,rfl⟩
  ·have he:r'≠r:=λhe=>by rw[he,lP]at ff;cases ff
   exact⟨ver,e',fY,rows,k9 he ff,Zae _,λ_=>⟨rfl,rfl,rfl⟩⟩
 have ME:bK base W M w0 (cZ o1 r (.box (cs.set k (.bk nxt 0)))) w L1:=by
  refine⟨pq.fr,λr' o ff=>?_,λp p' o o' b bG h1 h2 hb=>?_,λp o b hp hb=>?_,pq.under,pq.gl.aC wv.keeps.toKeepsC wv.sub⟩
  ·rcases dN ff with⟨rfl,rfl⟩|⟨bG,ff⟩
   ·refine⟨c,f,by rw[<-OM];exact bM,wV _ _ _ _ (aK.ee wv _ _ (aK.ee hA _ _ eI)) λy hy=>?_,by rw[<-OM];exact hm⟩;rw[hx]at hy;cases hy;simp only[av];refine⟨⟨ad,0,0,hxa⟩,0,e,sz,[],k9 (Ne.symm hrq) (by rw[<-GP];simp),Zae _,λ_=>?_⟩;rw[hxa,<-OM];simp[Loc.at]
   ·have sS:=pq.ob r' o ff;cases o with
    |box qI=>
     obtain⟨c',f',AL,AM,Ec⟩:=sS;exact⟨c',f',AL,aK.ee wv qI _ AM,Ec⟩
    |map shs agg c es=>
     obtain⟨arr,AL,AM,q1,q2,q3,Ec⟩:=sS;exact⟨arr,AL,bj.ee wv es _ AM,q1,q2,q3,Ec⟩
    |iter m s sn l=>
     obtain⟨AL,Jn,Ec⟩:=sS;exact⟨AL,(wv.mp m Jn).2,Ec⟩
    |arr ver e' fY rows=>
     obtain⟨g1,g2,g3,g4⟩:=sS;refine⟨g1,g2,g3, ?_⟩;rcases g4 with g4|⟨g,cap,cur,hv,hp,hh,k1,k2,k3,k4⟩
     ·exact .inl g4
     ·exact .inr ⟨g,cap,cur,hv,hp,hh,k1,k2,k3,aP.aC (cb.refl (WW W o1 L1) w).toKeepsC (λb _ hb=>wO b hb) _ _ k4⟩
  ·have key:∀{p o},cZ o1 r (.box (cs.set k (.bk nxt 0))) p=some o->∃o2,o1 p=some o2/\L1.own p o=L1.own p o2:=by
    intro p o hp;rcases dN hp with⟨rfl,rfl⟩|⟨_,hp⟩
    ·exact⟨_,lP,rfl⟩
    ·exact⟨o,hp,rfl⟩
   obtain⟨x1,y1,z1⟩:=key h1;obtain⟨x2,y2,z2⟩:=key h2;rw[z1]at hb;rw[z2];exact pq.apart p p' x1 x2 b bG y1 y2 hb
  ·rcases dN hp with⟨rfl,rfl⟩|⟨_,hp⟩
   ·exact pq.outer p _ b lP hb
   ·exact pq.outer p o b hp hb
 have oG:=dI.sub;have wi:∀r',nxt+1<=r'->cZ o1 r (.box (cs.set k (.bk nxt 0))) r'=none:=λr' ff=>by
  rw[<-GP];simp only[cZ];rw[if_neg (by omega),if_neg (by omega)];exact h.fresh r' (by simp only;omega)
 rw[GP];exact⟨L1,⟨⟨W,base,M,w0,dI,h0.size,λt=>av.ee wv _ _ (av.ee hA _ _ (h0.tmps t)),ME⟩,iX.comp (iX.comp h.r.ee hA oG.1 oG.2) wv oG.1 oG.2,h.r.defers,h.r.bg,⟨_,wi⟩⟩,wi,h.low,h.it⟩
@[simp] theorem vj:look []=λ_=>DV.undef:=by funext k;rfl
def AN:Option Ob->Option Ob->Prop
 |some a,some b=>gT a b
 |_,_=>False
def zp(low:Nat)(o0 o:aU):List (Nat×Ob)->Prop
 |[]=>True
 |(r,_)::l=>(r<low->AN (o0 r) (o r))/\zp low o0 o l
theorem yA{low:Nat}{o0 o:aU}:∀{l:List (Nat×Ob)},zp low o0 o l->∀r x,(r,x)∈l->r<low->AN (o0 r) (o r)
 |[],_,_,_,h=>by cases h
 |(r,x)::l,h,r',x',hm=>by
  rcases Zag.1 hm with e|hm
  ·cases e;exact h.1
  ·exact yA h.2 r' x' hm
theorem Le.zq{tm:Nat->DV}{o0 o:List (Nat×Ob)}{l:List (Nat×DV)}{nxt nxt':Nat}{td:List (List T)}{low:Nat}(wx:zp low (cA o0) (cA o) o0)(hk:kJ nxt' o)
  (fH:tQ (cA o0) (cA o) id o) (iY:gm (cA o0) (cA o) id tm l):Le ⟨tm,cA o0,nxt,low,td⟩ ⟨look l,cA o,nxt',low,td⟩:=by
 refine Le.cor id rfl rfl (λr hr=>?_) (λr' o' h=>pr fH r' o' (l7 h)) (λr1 r2 h1 h2 e=>e) (λr hr o' h=>?_) (λk=>rn l iY k)
 ·cases ho:cA o r with
  |none=>exact ho
  |some x=>have:=kZ hk r x (l7 ho);simp only at hr;omega
 ·have:=yA wx r o' (l7 h) hr;simp only at h⊢;rw[h]at this;refine⟨rfl, ?_⟩;cases ho:cA o r with
  |none=>rw[ho]at this;exact this.elim
  |some x=>rw[ho]at this;exact⟨x,rfl,this⟩
attribute [simp] zp AN gT
@[simp] theorem gone_cons{σ:Nat->Nat}{r j:Nat}{o:Ob}{l:List (Nat×Ob)}:gone (cA ((j,o)::l)) σ r↔σ j≠r/\gone (cA l) σ r:=by
 refine⟨λh=>⟨h j (by simp),λr' ff=>h r' (by simp only[dt];split<;>simp[ff])⟩,λh=>Ra h.1 h.2⟩
@[simp] theorem gone_nil{σ:Nat->Nat}{r:Nat}:gone (cA []) σ r:=λr' h=>absurd rfl h
end Go.DM
namespace Go.DM
open Go.RowKit
variable [Laid]
def over:List (Nat×Ob)->aU->aU
 |[],f=>f
 |(r,o)::l,f=>λk=>if k=r then some o else over l f k
@[simp] theorem bL(r:Nat)(o:Ob)(l:List (Nat×Ob))(f:aU)(k:Nat):over ((r,o)::l) f k=if k=r then some o else over l f k:=rfl
@[simp] theorem eN(f:aU)(k:Nat):over [] f k=f k:=rfl
@[simp] theorem OO(l:List (Nat×Ob))(f:aU)(r:Nat)(o:Ob):bR (over l f) (some (r,o))=over ((r,o)::l) f:=rfl
theorem kK(l:List (Nat×Ob))(f:aU)(r:Nat)(o:Ob):cZ (over l f) r o=over ((r,o)::l) f:=rfl
def bF:Ob->List Nat
 |.box cs=>bJ cs
 |.arr _ _ _ _=>[]
 |.map _ _ _ es=>es.flatMap λe=>names e.2.2
 |.iter m _ _ _=>[m]
def dO(f:aU)(n:Nat):Prop:=∀r o,f r=some o->r<n/\∀m∈bF o,f m≠none
section
variable{base:Nat}{W M:Nat->Prop}{w0 w:World}{objs aA:aU}{L:Loc}
theorem Da(hO:bK base W M w0 objs w L){N:Nat}(hN:∀r,N<=r->objs r=none):dO objs N:=by
 intro r o hr;refine⟨ZbW (λh=>by rw[hN r h]at hr;cases hr),λm hm=>?_⟩;have fH:=hO.ob r o hr;cases o with
 |box cs=>obtain⟨c,e,_,h,_⟩:=fH;exact eu.names cs (eu.bq cs _ h) m hm
 |arr _ _ _ _=>cases hm
 |iter m' _ _ _=>
  obtain⟨_,⟨_,_,_,_,h⟩,_⟩:=fH;simp only[bF,Zah]at hm;subst hm;simp[h]
 |map shs agg c es=>
  obtain⟨arr,_,h,_⟩:=fH;simp only[bF,ZaV]at hm;obtain⟨e,he,hm⟩:=hm;obtain⟨i,hi⟩:=ZbH he;obtain⟨x,_,_,_,hv⟩:=bj.get h hi;exact dJ.names _ (dJ.bq _ _ hv) m hm
def sameAt(objs aA:aU)(m:Nat):Prop:=∃o o',objs m=some o/\aA m=some o'/\gT o o'
theorem GS(wO:∀b,WW W aA L b->WW W objs L b):
  ∀n,(∀(d:DV) (x:Value),SizeOf.sizeOf d<n->(∀m∈names d,sameAt objs aA m)->av w W objs L d x->av w W aA L d x)/\
   (∀(ds:List DV) (xs:List Value),SizeOf.sizeOf ds<n->(∀m∈bJ ds,sameAt objs aA m)->aK w W objs L ds xs->aK w W aA L ds xs)/\
   (∀(ds:List DV) (xs:List Value),SizeOf.sizeOf ds<n->(∀m∈bJ ds,sameAt objs aA m)->eZ w W objs L ds xs->eZ w W aA L ds xs):=by
 have Cn:=(cb.refl (WW W objs L) w).toKeepsC;have oG:∀b,b<w.heap.size->WW W aA L b->WW W objs L b:=λb _ h=>wO b h;intro n;induction n with
 |zero=>exact⟨λ_ _ h=>by omega,λ_ _ h=>by omega,λ_ _ h=>by omega⟩
 |succ n ih=>
  refine⟨λd x hn hm hr=>?_,λds xs hn hm hr=>?_,λds xs hn hm hr=>?_⟩
  ·cases d with
   |undef=>simp[av]
   |skip=>simpa only[av]using hr
   |CF=>simpa only[av]using hr
   |aI=>simpa only[av]using hr
   |v t=>simp only[av]at hr⊢;exact aR.aC Cn oG t x hr
   |ky rows i off=>
    simp only[av]at hr⊢;obtain⟨b,o,sz,hx,hb,Ox,tH,h1,h2⟩:=hr;exact⟨b,o,sz,hx,hb,λk=>Ox (wO b k),aX.aC Cn oG hb Ox sz o rows tH,h1,h2⟩
   |gz cs off=>
    simp only[av]at hr⊢;obtain⟨b,o,hx,hb,Ox,tH⟩:=hr;exact⟨b,o,hx,hb,λk=>Ox (wO b k),cV.aC Cn oG hb Ox o cs tH⟩
   |ptr r off=>
    obtain⟨o,o',h1,h2,h3⟩:=hm r (by simp[names]);simp only[av]at hr⊢;obtain⟨⟨cs,hc⟩,hx⟩:=hr;rw[h1]at hc;cases hc;cases o' with
    |box qI=>exact⟨⟨qI,h2⟩,hx⟩
    |_=>exact h3.elim
   |iv r=>
    obtain⟨o,o',h1,h2,h3⟩:=hm r (by simp[names]);simp only[av]at hr⊢;obtain⟨⟨_,_,_,_,hc⟩,hx⟩:=hr;rw[h1]at hc;cases hc;cases o' with
    |map a b c d=>exact⟨⟨a,b,c,d,h2⟩,hx⟩
    |_=>exact h3.elim
   |iter r=>
    obtain⟨o,o',h1,h2,h3⟩:=hm r (by simp[names]);simp only[av]at hr⊢;obtain⟨⟨_,_,_,_,hc⟩,hx⟩:=hr;rw[h1]at hc;cases hc;cases o' with
    |iter a b c d=>exact⟨⟨a,b,c,d,h2⟩,hx⟩
    |_=>exact h3.elim
   |bk r ver=>
    obtain⟨o,o',h1,h2,h3⟩:=hm r (by simp[names]);simp only[av]at hr⊢;obtain⟨Gi,ver',e,sz,rows,hc,hle,hx⟩:=hr;rw[h1]at hc;cases hc;cases o' with
    |arr v2 e2 s2 r2=>obtain⟨rfl,rfl,h5⟩:=h3;exact⟨Gi,_,_,_,_,h2,hle,hx⟩
    |_=>exact h3.elim
   |jd r ver i off=>
    obtain⟨o,o',h1,h2,h3⟩:=hm r (by simp[names]);simp only[av]at hr⊢;obtain⟨Gi,ver',e,sz,rows,hc,hle,hx⟩:=hr;rw[h1]at hc;cases hc;cases o' with
    |arr v2 e2 s2 r2=>
     obtain⟨rfl,rfl,h5⟩:=h3;exact⟨Gi,_,_,_,_,h2,hle,λhv=>by obtain⟨g,k1,k2,k3,k4⟩:=hx hv;exact⟨g,k1,k2,k3,by rw[<-h5];exact k4⟩⟩
    |_=>exact h3.elim
   |D4 r m=>
    obtain⟨o,o',h1,h2,h3⟩:=hm r (by simp[names]);simp only[av]at hr⊢;obtain⟨⟨cs,hc⟩,hx⟩:=hr;rw[h1]at hc;cases hc;cases o' with
    |box qI=>exact⟨⟨qI,h2⟩,hx⟩
    |_=>exact h3.elim
   |sP r ver lo m=>
    obtain⟨o,o',h1,h2,h3⟩:=hm r (by simp[names]);simp only[av]at hr⊢;obtain⟨Gi,ver',e,sz,rows,hc,hle,hx⟩:=hr;rw[h1]at hc;cases hc;cases o' with
    |arr v2 e2 s2 r2=>
     obtain⟨rfl,rfl,h5⟩:=h3;exact⟨Gi,_,_,_,_,h2,hle,λhv=>by
      obtain⟨k0,p,cap,p2,k1,k2,k3⟩:=hx hv;exact⟨by rw[<-h5];exact k0,p,cap,p2,by rw[<-h5];exact k1,k2,k3⟩⟩
    |_=>exact h3.elim
   |agg ds=>
    simp only[av]at hr⊢;obtain⟨vs,hv,hr⟩:=hr;exact⟨vs,hv,ih.2.1 ds _ (by simp at hn⊢;omega) (λm h=>hm m (by simpa only[names]using h)) hr⟩
   |mu f ds=>
    simp only[av]at hr⊢;obtain⟨vs,hv,hr⟩:=hr;exact⟨vs,hv,ih.2.1 ds _ (by simp at hn⊢;omega) (λm h=>hm m (by simpa only[names]using h)) hr⟩
   |eF ds=>
    simp only[av]at hr⊢;obtain⟨vs,hv,hr⟩:=hr;exact⟨vs,hv,ih.2.2 ds _ (by simp at hn⊢;omega) (λm h=>hm m (by simpa only[names]using h)) hr⟩
  ·cases ds with
   |nil=>simpa only[aK]using hr
   |cons d ds=>
    simp only[aK]at hr⊢;obtain⟨y,ys,hv,h1,h2,h3⟩:=hr;exact⟨y,ys,hv,h1,ih.1 d y (by simp at hn⊢;omega) (λm h=>hm m (by simp[bJ,h])) h2,ih.2.1 ds ys (by simp at hn⊢;omega) (λm h=>hm m (by simp[bJ,h])) h3⟩
  ·cases ds with
   |nil=>simpa only[eZ]using hr
   |cons d ds=>
    simp only[eZ]at hr⊢;obtain⟨y,ys,hv,h2,h3⟩:=hr;exact⟨y,ys,hv,ih.1 d y (by simp at hn⊢;omega) (λm h=>hm m (by simp[bJ,h])) h2,ih.2.2 ds ys (by simp at hn⊢;omega) (λm h=>hm m (by simp[bJ,h])) h3⟩
theorem Xv(wO:∀b,WW W aA L b->WW W objs L b){r:Nat}{o:Ob}(hm:∀m∈bF o,sameAt objs aA m)(h:mZ w W objs L base M r o):mZ w W aA L base M r o:=by
 cases o with
 |box cs=>obtain⟨c,e,hc,hr,Mo⟩:=h;exact⟨c,e,hc,(GS wO (SizeOf.sizeOf cs+1)).2.1 cs _ (by omega) hm hr,Mo⟩
 |arr ver e sz rows=>
  obtain⟨g1,g2,g3,g4⟩:=h;refine⟨g1,g2,g3, ?_⟩;rcases g4 with g4|⟨g,cap,cur,hv,hp,hh,k1,k2,k3,k4⟩
  ·exact .inl g4
  ·exact .inr ⟨g,cap,cur,hv,hp,hh,k1,k2,k3,aP.aC (cb.refl (WW W objs L) w).toKeepsC (λb _ hb=>wO b hb) _ _ k4⟩
 |map shs agg c es=>
  obtain⟨arr,hc,hr,k1,k2,k3,Mo⟩:=h;refine⟨arr,hc, ?_,k1,k2,k3,Mo⟩;have key:∀(es:List (Nat×T×DV)) (xs:List MapEntry),(∀m∈es.flatMap (λe=>names e.2.2),sameAt objs aA m)->bj w W objs L es xs->bj w W aA L es xs:=by
   intro es;induction es with
   |nil=>intro xs _ h;simpa only[bj]using h
   |cons e es ih=>
    intro xs hm h;simp only[bj]at h⊢;obtain⟨x,jJ,hx,h1,h2,h3,h4⟩:=h;exact⟨x,jJ,hx,h1,aR.aC (cb.refl (WW W objs L) w).toKeepsC (λb _ hb=>wO b hb) _ _ h2,
     (GS wO (SizeOf.sizeOf e.2.2+1)).1 _ _ (by omega) (λm h=>hm m (by simp[h])) h3,ih jJ (λm h=>hm m (by simp only[Zbo,Zao];exact .inr h)) h4⟩
  exact key es _ hm hr
 |iter m s sn l=>
  obtain⟨hc,⟨a1,a2,a3,a4,Jn⟩,Mo⟩:=h;obtain⟨o,o',h1,h2,h3⟩:=hm m (by simp[bF]);rw[Jn]at h1;cases h1;cases o' with
  |map b1 b2 b3 b4=>exact⟨hc,⟨b1,b2,b3,b4,h2⟩,Mo⟩
  |_=>exact h3.elim
end
def il(objs aA:aU)(o o':Ob):Prop:=lR objs aA id o o'\/(o=o'/\∀m∈bF o,sameAt objs aA m)
theorem vt{objs aA:aU}{L:Loc}{o o':Ob}(h:il objs aA o o')(r:Nat):L.own r o'=L.own r o:=by
 rcases h with h|⟨rfl,_⟩
 ·exact si (L:=L) h r
 ·rfl
theorem Le.cor2{st df:kW}(Ck:df.low=st.low)(Q6:df.todo=st.todo)(AE:∀r,df.nxt<=r->df.objs r=none)
  (fH:∀r o',df.objs r=some o'->∃o,st.objs r=some o/\il st.objs df.objs o o')
  (GI:∀r,r<st.low->∀o,st.objs r=some o->∃o',df.objs r=some o'/\gT o o')
  (iY:∀k,jh st.objs df.objs id (st.tmps k) (df.tmps k)):Le st df:=by
 intro κ nt a w L h;have qi:∀r' o',df.objs r'=some o'->∃o,st.objs (id r')=some o/\∀r,(L.Ce id).own r o'=L.own (id r) o:=λr' o' h=>let⟨o,h1,h2⟩:=fH r' o' h;⟨o,h1,vt (L:=L) h2⟩
 refine⟨L,⟨?_, ?_,h.r.defers,h.r.bg,⟨_,AE⟩⟩,AE,by rw[Ck];exact h.low,by rw[Ck];exact h.it⟩
 ·obtain⟨W,base,M,w0,dI,h0⟩:=h.r.ex;have hO:=h0.o;have wO:∀b,WW W df.objs L b->WW W st.objs L b:=λb hb=>jV (L:=L) (σ:=id) qi b hb;have cr:=λ(d d':DV) (x:Value)=>(zm hO qi (SizeOf.sizeOf d+1)).1 d d' x (by omega);have crs:=λ(ds nJ:List DV) (xs:List Value)=>(zm hO qi (SizeOf.sizeOf ds+1)).2.1 ds nJ xs (by omega);refine⟨W,base,M,w0,by rw[Q6];exact dI,h0.size,λt=>cr _ _ _ (iY t) (h0.tmps t),⟨hO.fr,λr' o' ga=>?_,λr1 r2 o1 o2 b bG h1 h2 GJ kv=>?_,λr' o' b ga hb=>?_,hO.under,hO.gl.aC (cb.refl (WW W st.objs L) w).toKeepsC λb _ hb=>wO b hb⟩⟩
  ·obtain⟨o,ho,hc⟩:=fH r' o' ga;have hk:=hO.ob r' o ho;rcases hc with hc|⟨rfl,hc⟩
   ·cases o with
    |box cs=>
     cases o' with
     |box qI=>
      obtain⟨c,e,bM,hr,hm⟩:=hk;exact⟨c,e,bM,crs cs qI _ hc hr,hm⟩
     |_=>exact hc.elim
    |map shs agg c es=>
     cases o' with
     |map shs' agg' c' es'=>
      obtain⟨rfl,rfl,rfl,oV⟩:=hc;obtain⟨arr,bM,hr,k1,k2,k3,hm⟩:=hk;have key:∀(es es':List (Nat×T×DV)) (xs:List MapEntry),iO st.objs df.objs id es es'->bj w W st.objs L es xs->bj w W df.objs L es' xs/\es'.map (·.1)=es.map (·.1)/\es'.map (·.2.1)=es.map (·.2.1):=by
       intro es;induction es with
       |nil=>intro es' xs h1 h2;simp only[iO]at h1;subst h1;exact⟨by simpa only[bj]using h2,rfl,rfl⟩
       |cons e es ih=>
        intro es' xs h1 h2;cases es' with
        |nil=>simp[iO]at h1
        |cons e' es'=>
         simp only[iO]at h1;simp only[bj]at h2⊢;obtain⟨x,jJ,rfl,q0,q1,q2,q3⟩:=h2;obtain⟨i1,i2,i3⟩:=ih es' jJ h1.2.2.2 q3;refine⟨⟨x,jJ,rfl,q0.trans h1.1, ?_,cr _ _ _ h1.2.2.1 q2,i1⟩,by simp[i2,h1.1],by simp[i3,h1.2.1]⟩;rw[<-h1.2.1];exact aR.aC (cb.refl (WW W st.objs L) w).toKeepsC (λb _ hb=>wO b hb) _ _ q1
      obtain⟨i1,i2,i3⟩:=key es es' _ oV hr;refine⟨arr,bM,i1,λe he=>?_,λe he=>?_,by rw[i2];exact k3,hm⟩
      ·have:e.2.1∈es.map (·.2.1):=by rw[<-i3];exact Zal.2 ⟨e,he,rfl⟩
       obtain⟨e0,h0',Mr⟩:=Zal.1 this;rw[<-Mr];exact k1 e0 h0'
      ·have:e.1∈es.map (·.1):=by rw[<-i2];exact Zal.2 ⟨e,he,rfl⟩
       obtain⟨e0,h0',Mr⟩:=Zal.1 this;rw[<-Mr];exact k2 e0 h0'
     |_=>exact hc.elim
    |iter m s sn l=>
     cases o' with
     |iter m' s' sn' l'=>
      obtain⟨rfl,rfl,rfl,rfl,Jn⟩:=hc;obtain⟨bM,_,hm⟩:=hk;exact⟨bM,AA Jn,hm⟩
     |_=>exact hc.elim
    |arr ver e sz rows=>
     cases o' with
     |box _=>exact hc.elim
     |map _ _ _ _=>exact hc.elim
     |iter _ _ _ _=>exact hc.elim
     |arr ver' e' fY di=>
      obtain⟨rfl,rfl,rfl⟩:=hc;obtain⟨g1,g2,g3,g4⟩:=hk;refine⟨g1,g2,g3, ?_⟩;rcases g4 with g4|⟨g,cap,cur,hv,hp,hh,k1,k2,k3,k4⟩
      ·exact .inl g4
      ·exact .inr ⟨g,cap,cur,hv,hp,hh,k1,k2,k3,aP.aC (cb.refl (WW W st.objs L) w).toKeepsC (λb _ hb=>wO b hb) _ _ k4⟩
   ·exact Xv wO hc hk
  ·obtain⟨p1,q1,c1⟩:=fH r1 o1 h1;obtain⟨p2,q2,c2⟩:=fH r2 o2 h2;rw[vt c1]at GJ;rw[vt c2]at kv;exact hO.apart r1 r2 p1 p2 b bG q1 q2 GJ kv
  ·obtain⟨p1,q1,c1⟩:=fH r' o' ga;rw[vt c1]at hb;exact hO.outer r' p1 b q1 hb
 ·have ha:=h.r.ee;refine⟨ha.keeps,λb hb hw=>ha.sub b hb (jV (L:=L) (σ:=id) qi b hw),λr o hr hk=>?_,λr ver e sz rows hr=>?_,ha.yl⟩
  ·have cW:r<st.low:=ZbW λhle=>by rw[h.low r hle]at hr;cases hr
   obtain⟨e1,o1,lP,qg⟩:=ha.fix r o hr hk;obtain⟨o',ga,hv⟩:=GI r cW _ lP;exact⟨e1,o',ga,(u9 hv).trans qg⟩
  ·have cW:r<st.low:=ZbW λhle=>by rw[h.low r hle]at hr;cases hr
   obtain⟨v1,e1,s1,r1,lP,l1,k1⟩:=ha.arr r ver e sz rows hr;obtain⟨o',ga,hv⟩:=GI r cW _ lP;cases o' with
   |box qI=>exact hv.elim
   |map _ _ _ _=>exact hv.elim
   |iter _ _ _ _=>exact hv.elim
   |arr v2 e2 s2 r2=>
    obtain⟨rfl,rfl,h3⟩:=hv;exact⟨v1,e2,s1,r2,ga,l1,λhv=>by
     obtain⟨a1,a2,a3⟩:=k1 hv;exact⟨a1,a2,by rw[<-h3];exact a3⟩⟩
theorem bu(o:Ob):gT o o:=by cases o<;>simp[gT]
def gP(low:Nat)(a b:aU):List (Nat×Ob)->Prop
 |[]=>True
 |(r,o)::l=>(∃o0,a r=some o0/\il a b o0 o/\(r<low->gT o0 o))/\gP low a b l
def bZ(low:Nat)(l1:List (Nat×Ob)):List (Nat×Ob)->Prop
 |[]=>True
 |(r,_)::l=>(r<low->∃o,(r,o)∈l1)/\bZ low l1 l
theorem oJ:∀{l:List (Nat×Ob)} {f:aU} {r:Nat} {o:Ob},over l f r=some o->(r,o)∈l\/((∀o',(r,o')∉l)/\f r=some o)
 |[],_,_,_,h=>.inr ⟨λ_ h=>(by cases h),h⟩
 |(j,x)::l,f,r,o,h=>by
  simp only[bL]at h;split at h
  ·rename_i e;cases h;subst e;exact .inl (Za5 ..)
  ·rename_i bG;rcases oJ h with h|⟨h1,h2⟩
   ·exact .inl (ZaW _ h)
   ·refine .inr ⟨λo' ga=>?_,h2⟩;rcases Zag.1 ga with e|ga
    ·cases e;exact bG rfl
    ·exact h1 o' ga
theorem ej{l:List (Nat×Ob)}{f:aU}{r:Nat}(h:∀o',(r,o')∉l):over l f r=f r:=by
 induction l with
 |nil=>rfl
 |cons p l ih=>
  obtain⟨j,x⟩:=p;rw[bL,if_neg (λe=>h x (by rw[e];exact Za5 ..))];exact ih λo' ga=>h o' (ZaW _ ga)
theorem zr{l:List (Nat×Ob)}{f:aU}{r:Nat}{o:Ob}(h:(r,o)∈l):∃o',over l f r=some o'/\(r,o')∈l:=by
 induction l with
 |nil=>cases h
 |cons p l ih=>
  obtain⟨j,x⟩:=p;by_cases e:r=j
  ·subst e;exact⟨x,by simp,Za5 ..⟩
  ·rcases Zag.1 h with h|h
   ·cases h;exact absurd rfl e
   ·obtain⟨o',h1,h2⟩:=ih h;exact⟨o',by rw[bL,if_neg e];exact h1,ZaW _ h2⟩
theorem tV{low:Nat}{a b:aU}:∀{l:List (Nat×Ob)},gP low a b l->∀r o,(r,o)∈l->∃o0,a r=some o0/\il a b o0 o/\(r<low->gT o0 o)
 |[],_,_,_,h=>by cases h
 |(j,x)::l,hk,r,o,h=>by
  rcases Zag.1 h with e|h
  ·cases e;exact hk.1
  ·exact tV hk.2 r o h
theorem pA{low:Nat}{l1:List (Nat×Ob)}:∀{l:List (Nat×Ob)},bZ low l1 l->∀r o,(r,o)∈l->r<low->∃o,(r,o)∈l1
 |[],_,_,_,h=>by cases h
 |(j,x)::l,hk,r,o,h=>by
  rcases Zag.1 h with e|h
  ·cases e;exact hk.1
  ·exact pA hk.2 r o h
theorem Le.fp{tm:Nat->DV}{l0 l1:List (Nat×Ob)}{f:aU}{l:List (Nat×DV)}{nxt nxt':Nat}{td:List (List T)}{low:Nat}(hf:dO f low)(hn:low<=nxt')(hb:kJ nxt' l1)
  (h0:bZ low l1 l0) (h1:gP low (over l0 f) (over l1 f) l1) (iY:gm (over l0 f) (over l1 f) id tm l):
  Le ⟨tm,over l0 f,nxt,low,td⟩ ⟨look l,over l1 f,nxt',low,td⟩:=by
 have GU:∀r,r<low->∀o,over l0 f r=some o->∃o',over l1 f r=some o'/\gT o o':=by
  intro r hr o ho;by_cases qc:∃o',(r,o')∈l1
  ·obtain⟨o1,GP⟩:=qc;obtain⟨o2,h2,h3⟩:=zr (f:=f) GP;obtain⟨o0,k1,_,k3⟩:=tV h1 r o2 h3;rw[ho]at k1;cases k1;exact⟨o2,h2,k3 hr⟩
  ·have hnot:∀o',(r,o')∉l1:=λo' h=>qc ⟨o',h⟩;rcases oJ ho with h|⟨_,h⟩
   ·exact absurd (pA h0 r o h hr) qc
   ·exact⟨o,by rw[ej hnot];exact h,bu o⟩
 refine Le.cor2 rfl rfl (λr hr=>?_) (λr o' ga=>?_) (λr hr o ho=>GU r hr o ho) (λk=>rn l iY k)
 ·cases ho:over l1 f r with
  |none=>exact ho
  |some o=>
   rcases oJ ho with h|⟨_,h⟩
   ·have:=kZ hb r o h;simp only at hr;omega
   ·have:=(hf r o h).1;simp only at hr;omega
 ·rcases oJ ga with h|⟨hnot,h⟩
  ·obtain⟨o0,k1,k2,_⟩:=tV h1 r o' h;exact⟨o0,k1,k2⟩
  ·obtain⟨cW,hnm⟩:=hf r o' h;have hold:over l0 f r=some o':=by
    by_cases qc:∃o1,(r,o1)∈l0
    ·obtain⟨o1,GP⟩:=qc;obtain⟨o2,h2⟩:=pA h0 r o1 GP cW;exact absurd h2 (hnot o2)
    ·rw[ej λo1 h1=>qc ⟨o1,h1⟩];exact h
   refine⟨o',hold,.inr ⟨rfl,λm hm=>?_⟩⟩;have WU:=hnm m hm;have hmlt:m<low:=by
    cases hfm:f m with
    |none=>exact absurd hfm WU
    |some x=>exact(hf m x hfm).1
   have hex:∃o,over l0 f m=some o:=by
    by_cases qc:∃o1,(m,o1)∈l0
    ·obtain⟨o1,GP⟩:=qc;obtain⟨o2,h2,_⟩:=zr (f:=f) GP;exact⟨o2,h2⟩
    ·rw[ej λo1 h1=>qc ⟨o1,h1⟩];exact ZbO.1 WU
   obtain⟨o,ho⟩:=hex;obtain⟨o2,h2,h3⟩:=GU m hmlt o ho;exact⟨o,o2,ho,h2,h3⟩
section
variable{P:Program}
theorem aQ.uC{f:FuncId}{nt:Nat}{d:DC}{rs:List bN}(h:aQ P f nt d rs){args:List DV}{objs:aU}{r:iw}{N:Nat}(hN:∀r,N<=r->objs r=none)(hlen:args.length<=nt)
  (k:dO objs N->aa P nt d (Xm rs r) ⟨look (args.zipIdx.map λp=>(p.2,p.1)),over [] objs,N,N,[]⟩):aY P f args objs r:=
 ⟨h.entry,λbase W M w0 w L vals hO Od=>(aQ.okS h hN hlen (C4 (k (Da hO hN)))).run base W M w0 w L vals hO Od⟩
theorem vu{fn:Func}{t:Nat}{tmps:Array Value}{w:World}(hr:fn.results.toList.mapM (te P)=some [.slot t]):(results fn tmps).run P w=.ok (tmps.getD t Go.undef) w:=by
 have h1:∃rv,fn.results.toList=[rv]/\te P rv=some (.slot t):=by
  cases h:fn.results.toList with
  |nil=>rw[h]at hr;simp at hr
  |cons rv l=>
   rw[h]at hr;simp only[Za2,Zaj,Zaf,Zac,Zaa,Za6]at hr;obtain⟨x,hx,ys,oa,rfl,rfl⟩:=hr;cases l with
   |nil=>exact⟨rv,rfl,hx⟩
   |cons y l=>simp[Zac]at oa
 obtain⟨rv,h1,h2⟩:=h1;have h3:fn.results= #[rv]:=by rw[<-Array.toArray_toList (xs:=fn.results),h1]
 cases rv with
 |tmp t'=>
  simp only[te,Zaa,bN.slot.injEq]at h2;subst h2;have tH:(results fn tmps)=(do
   let vs<-fn.results.mapM (λrv=>((match rv with|.tmp t=>pure (tmps.getD t Go.undef)|.cell b t=>do loadVar t (<-asAddr (tmps.getD b Go.undef))):Sem Value))
   pure (if h:vs.size=1 then vs[0]else .tuple vs)):=rfl
  have hm:(fn.results.mapM (λrv=>((match rv with|.tmp t=>pure (tmps.getD t Go.undef)|.cell b t=>do loadVar t (<-asAddr (tmps.getD b Go.undef))):Sem Value))).run P w=.ok #[tmps.getD t' Go.undef] w:=by
   rw[ZcG,h1];simp
  rw[tH];simp only[Sem.run_bind,hm,Result.andThen_ok,Sem.run_pure];rfl
 |cell b t'=>
  simp only[te]at h2;split at h2<;>simp at h2
def finF(t e sz:Nat)(rows:List (List T)):Exit->kW->Prop
 |.normal,st|.ret,st=>(st.tmps t=.aI/\rows=[]/\0<sz)\/∃r ver,st.tmps t=.bk r ver/\st.objs r=some (.arr ver e sz rows)
 |_,_=>False
theorem aQ.okF{f:FuncId}{nt:Nat}{d:DC}{t:Nat}(h:aQ P f nt d [.slot t]){ts:List T}{e sz:Nat}{rows:List (List T)}(hlen:ts.length<=nt)(k:aa P nt d (finF t e sz rows) (nN ts)):lJ P f ts e sz rows:=by
 have As:=h.entry;obtain⟨fn,wo,rfl,h3,hr,_⟩:=h;obtain⟨c,hb,hc⟩:=Zab.1 h3;refine⟨As,λW w vals hW hg eI=>?_⟩;have hl:=dw.length eI;simp only[ZaU]at hl;have u0:Rel ⟨W,λ_=>none,⟨λ_=>0,λ_=>Go.undef,0⟩,w,w.heap.size,λ_=>False,w,none,none⟩ fn.ntmps (nN ts) {tmps:=vals++Array.replicate (fn.ntmps-vals.size) Go.undef,defers:=[]} w ⟨λ_=>0,λ_=>Go.undef,0⟩:=by
  refine⟨⟨⟨W,w.heap.size,λ_=>False,w,⟨rfl,rfl,rfl,rfl,rfl⟩,by simp;omega,λk=>?_,⟨Fr.refl (Zae _),(λr o h=>by cases h),(λr r' o o' b _ h=>by cases h),(λr o b h=>by cases h),hW,hg.start⟩⟩,
   iX.cd (cb.refl _ _),⟨[],rfl,ZbT,(λ_ h=>by cases h),λ_=>rfl⟩,λ_=>Zae _,⟨0,λ_ _=>rfl⟩⟩,λ_ _=>rfl,λ_ _=>rfl,λh=>by cases h⟩
  simp only[nN];cases hk:ts[k]? with
  |some x=>
   obtain⟨v,hv,jj⟩:=dw.get eI hk;simp only[oH hv,y9,av];refine aR.aC (cb.refl W w).toKeepsC ?_ x v jj;rintro b hb (h|⟨r,o,h,_⟩)
   ·exact h
   ·cases h
  |none=>
   have zf:vals.size<=k:=by
    have:=ZbF.1 hk;omega
   simp only[y9,av,oI zf]
 refine callsIn_wide.1 (callsIn_of_wp_marks (n:=0) wo hb trivial ?_);refine wpIn_mono (k.run c hc 0 _ _ _ _ ⟨λJ hJ=>(by cases hJ),λl hl=>(by cases hl)⟩ u0) ?_;rintro e' a' w' ⟨df,L',q,r'⟩;have done:((df.tmps t=.aI/\rows=[]/\0<sz)\/∃r ver,df.tmps t=.bk r ver/\df.objs r=some (.arr ver e sz rows))->LeavesInM Fence.wide 0 P fn a'.tmps (λe' w'=>∃v,e'=.returned v/\tE w.heap.size w w'/\Ac w.heap.size w' W e sz rows v) a'.defers .returning w':=by
  intro hq;obtain⟨Ds,h1,h2,h3,_⟩:=r'.r.defers;rw[h1];refine leaves (κ:=⟨W,λ_=>none,⟨λ_=>0,λ_=>Go.undef,0⟩,w,w.heap.size,λ_=>False,w,none,none⟩) rfl ?_ Ds a' w' L' r'.r h1 h2 h3;intro a2 w2 L2 h4;obtain⟨W',MD,M',w0',dI,h0⟩:=h4.ex;obtain⟨_,e1,e2,e3,e4⟩:=dI
  replace h0:R0 w.heap.size W (λ_=>False) w fn.ntmps df.tmps df.objs a2 w2 L2:=by rw[e1,e2,e3,e4]at h0;exact h0
  have fr:=h0.o.fr;refine⟨_,vu hr,_,rfl,⟨⟨fr.os,fr.tape,fr.output,fr.size,λk hk=>fr.block k hk (λx=>x)⟩,fr.drawn⟩, ?_⟩;have ht:=h0.tmps t;rcases hq with⟨hq,rfl,gB⟩|⟨r,ver,hq,ho⟩
  ·rw[hq]at ht;simp only[av]at ht;exact⟨gB,λ_ h=>(by cases h),.inl ⟨rfl,ht⟩⟩
  ·rw[hq]at ht;simp only[av]at ht;obtain⟨_,ver',e',fY,di,ga,_,hx⟩:=ht;rw[ho]at ga;cases ga;have hx:=hx rfl;obtain⟨g1,g2,g3,g4⟩:=h0.o.ob r _ ho;refine⟨g1,g2, ?_⟩;rcases g4 with⟨h5,a,h6⟩|⟨g,cap,cur,hv,hp,hh,k1,k2,k3,k4⟩
   ·exact .inl ⟨h5,a,hx.trans h6⟩
   ·have uA:aO (L2.sl r)=some g:=by rw[hv];simp[aO,Zay.1 hp]
    refine .inr ⟨g,cap,cur,hx.trans hv,hp,(g3 g uA).resolve_right (λx=>x),hh,k1,k2,k3,aP.aC (cb.refl (WW W df.objs L2) w2).toKeepsC (λb _ hb=>?_) _ _ k4⟩;rcases hb with hb|rfl
    ·exact .inl hb
    ·exact .inr ⟨r,_,ho,uA⟩
 cases e' with
 |normal=>exact done q
 |ret=>exact done q
 |_=>exact q.elim
section
variable{κ:Ctx}{nt:Nat}{Γ:Env}{nxt:Nat}{ro:Option Nat}{n:Nat}
end
section
variable{nt:Nat}{Γ:Env}{Q:Exit->kW->Prop}{tm:Nat->DV}{ob:aU}{nxt low:Nat}{td:List (List T)}
end
end
end Go.DM
namespace Go.DM
variable [Laid]
def gG(f:Nat->Nat)(r:RO):RO:=⟨r.d,r.dst,r.guard,r.after,r.iJ.map (·.map f)⟩
def db(f:Nat->Nat)(rs:List RO):List RO:=rs.map (gG f)
theorem Rk{f:Nat->Nat}(hf:∀a b,f a=f b->a=b)(x y:Option (List Nat)):y8 (x.map (·.map f)) (y.map (·.map f))=y8 x y:=by
 cases x<;>cases y<;>simp only[Option.map_none,Za1,y8]
 rename_i a b;rw[Bool.eq_iff_iff];simp only[List.all_map,ZaI,Function.comp_apply,bne_iff_ne,ne_eq];exact⟨λh x hx y hy e=>h x hx y hy (by rw[e]),λh x hx y hy e=>h x hx y hy (hf _ _ e)⟩
theorem OP{f:Nat->Nat}(hf:∀a b,f a=f b->a=b)(x y:RO):indep (gG f x) (gG f y)=indep x y:=by
 unfold indep;rw[show(gG f x).iJ=x.iJ.map (·.map f)from rfl,show(gG f y).iJ=y.iJ.map (·.map f)from rfl,Rk hf];rfl
theorem OQ(f:Nat->Nat)(rs:List RO):ln (db f rs)=ln rs:=by
 unfold ln db;rw[Zb4];rfl
theorem AR(f:Nat->Nat):∀rs:List RO,dM (db f rs)=dM rs
 |[]=>rfl
 |r::rs=>by
  simp only[db,Zau,dM,List.all_map];have:=AR f rs;simp only[db]at this;rw[this];rfl
theorem gn{f:Nat->Nat}(hf:∀a b,f a=f b->a=b)(nt:Nat)(draw:Bool)(rs:List RO):da nt draw (db f rs)=da nt draw rs:=by
 unfold da;rw[AR,OQ];have h1:(db f rs).all (kf nt)=rs.all (kf nt):=by simp only[db,List.all_map];rfl
 have h2:se (db f rs) (ln rs)=se rs (ln rs):=by
  unfold se;simp only[db,Zbt,Zbp]
  congr 1
  funext i;cases rs[i]? with
  |none=>rfl
  |some y=>
   cases(ln rs)[i]? with
   |none=>rfl
   |some m=>
    simp only[Za1]
    congr 1
    congr 1
    funext x;cases rs[x]? with
    |none=>rfl
    |some r=>simp only[Za1,OP hf]
 rw[h1,h2]
def GV(b N:Nat)(n:Nat):Nat:=if n=0 then b else N+n
theorem OS{b N:Nat}(h:b<N)(x y:Nat)(e:GV b N x=GV b N y):x=y:=by
 unfold GV at e;split at e<;>split at e<;>omega
theorem im(l:List (Nat×Ob))(r:Nat)(o:Ob):cZ (cA l) r o=cA ((r,o)::l):=rfl
end Go.DM
namespace Go.DM
open Go.RowKit
variable [Laid]
section
variable{P:Program}{nt:Nat}{Γ:Env}{Q:Exit->kW->Prop}{st:kW}{tm:Nat->DV}{ob:aU}{nxt low:Nat}{td:List (List T)}
theorem aa.regionF(aw:ay P Γ)(hm:P.follows .mixedOrders=true){d:DC}{rs:List RO}(hd:d=.region false (rs.map bare))(aF:da nt false rs=true)
  (bz:iL Γ st.nxt rs ⟨st.tmps,st.objs,st.todo⟩) (hQ:Q .normal ⟨(cL Γ st.nxt rs ⟨st.tmps,st.objs,st.todo⟩).tmps,(cL Γ st.nxt rs ⟨st.tmps,st.objs,st.todo⟩).objs,st.nxt+nt+1,st.low,(cL Γ st.nxt rs ⟨st.tmps,st.objs,st.todo⟩).todo⟩):
  aa P nt d Q st:=by
 refine⟨λc hc=>?_⟩;subst hd;obtain⟨id,ops,rfl,jI,hok'⟩:=pk hc;exact pn aw hm jI aF bz hQ
theorem aa.OT(aw:ay P Γ)(hm:P.follows .mixedOrders=true){d:DC}{rs:List RO}(hd:d=.region false (rs.map bare))(aF:da nt false rs=true)(ks:List Nat)
  (h:exec Γ nxt rs ⟨tm,ob,td⟩ λs=>Q .normal ⟨look (kp ks s.tmps),s.objs,nxt+nt+1,low,s.todo⟩):aa P nt d Q ⟨tm,ob,nxt,low,td⟩:=by
 have:=eL _ _ _ h;refine aa.uX (Q:=λe s=>e=.normal/\s=⟨(cL Γ nxt rs ⟨tm,ob,td⟩).tmps,(cL Γ nxt rs ⟨tm,ob,td⟩).objs,nxt+nt+1,low,(cL Γ nxt rs ⟨tm,ob,td⟩).todo⟩) (aa.regionF aw hm hd aF (st:=⟨tm,ob,nxt,low,td⟩) this.1 ⟨rfl,rfl⟩) ?_;rintro e s ⟨rfl,rfl⟩;exact⟨_,Le.u5 (mN _ ks),this.2⟩
theorem aa.ew(aw:ay P Γ)(hm:P.follows .mixedOrders=true){d b:DC}{rs:List RO}(hd:d=.region false (rs.map bare))(aF:da nt false rs=true)(ks:List Nat)
  (h:exec Γ nxt rs ⟨tm,ob,td⟩ λs=>aa P nt b Q ⟨look (kp ks s.tmps),s.objs,nxt+nt+1,low,s.todo⟩):aa P nt (.seq d b) Q ⟨tm,ob,nxt,low,td⟩:=
 aa.seq (aa.OT aw hm hd aF ks h)
end
end Go.DM
namespace Go.DM
open Go.RowKit
variable [Laid]
section
variable{Γ:Env}{nxt:Nat}{K:RS->Prop}{rs:List RO}{tm:Nat->DV}{ob:aU}{td:List (List T)}{dst:Option Nat}{d:nH}{s:Nat}{af l:List Nat}
@[simp] theorem exec_h_t(b:Bool)(h:tm s=.v (.bool b)):exec Γ nxt (⟨d,dst,some (s,b),af,some l⟩::rs) ⟨tm,ob,td⟩ K=(b8 ⟨d,dst,none,af,some l⟩ tm/\(oU d=true->CX l ob (lU Γ d tm ob td).objs)/\ko Γ nxt d rs tm ob td K dst tm):=by
 simp only[exec,h,forall_const,iC h,Av];cases b<;>simp[u4,b8]
theorem GW(b c:Bool)(h:tm s=.v (.bool b))(hc:b= !c):exec Γ nxt (⟨d,dst,some (s,c),af,some l⟩::rs) ⟨tm,ob,td⟩ K=exec Γ nxt rs ⟨b7 tm dst .skip,ob,td⟩ K:=by
 subst hc;cases c
 ·have h:tm s=.v (.bool true):=h;simp[exec,h,iC h]
 ·have h:tm s=.v (.bool false):=h;simp[exec,h,iC h]
@[simp] theorem exec_h_tf(h:tm s=.v (.bool true)):exec Γ nxt (⟨d,dst,some (s,false),af,some l⟩::rs) ⟨tm,ob,td⟩ K=exec Γ nxt rs ⟨b7 tm dst .skip,ob,td⟩ K:=GW true false h rfl
@[simp] theorem exec_h_ft(h:tm s=.v (.bool false)):exec Γ nxt (⟨d,dst,some (s,true),af,some l⟩::rs) ⟨tm,ob,td⟩ K=exec Γ nxt rs ⟨b7 tm dst .skip,ob,td⟩ K:=GW false true h rfl
@[simp] theorem exec_h_sk{want:Bool}(h:tm s=.skip):exec Γ nxt (⟨d,dst,some (s,want),af,some l⟩::rs) ⟨tm,ob,td⟩ K=exec Γ nxt rs ⟨b7 tm dst .skip,ob,td⟩ K:=by
 simp only[exec,h]
end
end Go.DM
