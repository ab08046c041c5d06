/- Part of the proof. Conditions: none. -/
import Derived.Test.YtljcdomdjgolkaaGreatDoorXac
import Derived.RangeFuncLeaves
import Derived.RangeFuncRecord
import Derived.RangeFuncNested
set_option linter.unusedSectionVars false
set_option linter.unusedSimpArgs false
set_option linter.unusedVariables false
namespace Go.DM
open Go.RowKit
variable [Laid]
inductive bO where
 |slot (t:Nat)
 |cell (a n:Nat) (agg:Bool)
def tj(P:Program):ResultVar->Option bO
 |.tmp t=>some (.slot t)
 |.cell a t=>match P.underlying t,P.info? t with
  |some d,some i=>some (.cell a i.size (bA d))
  |_,_=>none
def bO.pg(st:kX):bO->ou
 |.slot t=>⟨True,st.tmps t,none⟩
 |.cell a n agg=>fZ n agg st.objs (st.tmps a)
def ru(lend:Bool)(st:kX):List bO->Prop
 |[]=>True
 |r::rs=>((r.pg st).ok/\Ch lend st.objs (r.pg st).val)/\ru lend st rs
def u5(st:kX)(rs:List bO):List T:=rs.map λr=>qi st.objs (r.pg st).val
def QR(rs:List bO)(t:T)(st:kX):Prop:=
 ru true st rs/\t=(match u5 st rs with|[x]=>x|ts=>.eG ts)
def JX(rs:List bO)(r:iC)(st:kX):Prop:=
 ru false st rs/\st.objs=r.objs/\r.val=.v (match u5 st rs with|[x]=>x|ts=>.eG ts)
def ze:Option T->DV
 |some t=>.v t
 |none=>.skip
def nO(ts:List T):kX:=⟨λk=>ze ts[k]?,λ_=>none,1000,1000,[]⟩
def JY:Option DV->DV
 |some d=>d
 |none=>.skip
def yu(args:List DV)(objs:aT)(N:Nat):kX:=⟨λk=>JY args[k]?,objs,N,N,[]⟩
def finQ(rs:List bO)(t:T):Exit->kX->Prop
 |.normal,st|.ret,st=>QR rs t st
 |_,_=>False
def Xl(rs:List bO)(r:iC):Exit->kX->Prop
 |.normal,st|.ret,st=>JX rs r st
 |_,_=>False
section
variable{P:Program}
theorem Xm{base:Nat}{W M:Nat->Prop}{w0 w:World}{nt:Nat}{st:kX}{a:Act}{L:Loc}(h:R0 base W M w0 nt st.tmps st.objs a w L){lend:Bool}{W':Nat->Prop}(hW:lend=true->∀r o b,st.objs r=some o->L.own r o=some b->¬W' b)(N7:∀b,W' b->WW W st.objs L b){rv:ResultVar}{r:bO}(hr:tj P rv=some r)(aF:(r.pg st).ok/\Ch lend st.objs (r.pg st).val):
  ∃v,((match rv with|.tmp t=>pure (a.tmps.getD t Go.undef)|.cell b t=>do loadVar t (<-asAddr (a.tmps.getD b Go.undef))):Sem Value).run P w=.ok v w/\aS w W' (qi st.objs (r.pg st).val) v:=by
 have fin:∀{d:DV} {x:Value},av w W st.objs L d x->Ch lend st.objs d->aS w W' (qi st.objs d) x:=λhd hk=>
  (uV (lend:=lend) W' h.o hW N7).1 _ _ hd hk
 cases rv with
 |tmp t=>
  simp only[tj,Zaa]at hr;subst hr;exact⟨_,rfl,fin (h.tmps t) aF.2⟩
 |cell b t=>
  simp only[tj]at hr;split at hr
  ·rename_i d i hd hi;simp only[Zaa]at hr;subst hr;simp only[bO.pg]at aF;obtain⟨hp,v,bz,hv⟩:=z7 h.o hd hi (h.tmps b) aF.1;refine⟨v, ?_,fin hv aF.2⟩;have hpt:∃p,a.tmps.getD b Go.undef=.pointer (some p):=by
    have hx:=h.tmps b;have ho:=aF.1;cases hq:st.tmps b with
    |ptr r off=>rw[hq]at hx;simp only[av]at hx;exact⟨_,hx.2⟩
    |kG rows j off=>rw[hq]at hx;simp only[av]at hx;obtain⟨_,_,_,hx,_⟩:=hx;exact⟨_,hx⟩
    |gD cs off=>rw[hq]at hx;simp only[av]at hx;obtain⟨_,_,hx,_⟩:=hx;exact⟨_,hx⟩
    |jf r ver j off=>rw[hq]at hx;simp only[av]at hx;obtain⟨⟨_,_,hx⟩,_⟩:=hx;exact⟨_,hx⟩
    |v t'=>
     rw[hq]at hx ho;cases t' with
     |box cs=>simp only[av,aS]at hx;obtain⟨_,_,hx,_⟩:=hx;exact⟨_,hx⟩
     |_=>exact ho.elim
    |_=>rw[hq]at ho;exact ho.elim
   obtain⟨p,hp⟩:=hpt;show Sem.run P (do loadVar t (<-asAddr (a.tmps.getD b Go.undef))) w=_;rw[hp]at bz⊢;simpa [Instr.loadAt,Instr.sureAddr,asAddr]using bz
  ·cases hr
theorem MC{base:Nat}{W M:Nat->Prop}{w0 w:World}{nt:Nat}{st:kX}{a:Act}{L:Loc}(h:R0 base W M w0 nt st.tmps st.objs a w L){lend:Bool}{W':Nat->Prop}(hW:lend=true->∀r o b,st.objs r=some o->L.own r o=some b->¬W' b)(N7:∀b,W' b->WW W st.objs L b):∀{rvs:List ResultVar} {rs:List bO},rvs.mapM (tj P)=some rs->ru lend st rs->
  ∃vs,(rvs.mapM (λrv=>((match rv with|.tmp t=>pure (a.tmps.getD t Go.undef)|.cell b t=>do loadVar t (<-asAddr (a.tmps.getD b Go.undef))):Sem Value))).run P w=.ok vs w/\dv w W' (u5 st rs) vs
 |[],rs,hr,_=>by simp at hr;subst hr;exact⟨[],by simp,by simp[u5,dv]⟩
 |rv::rvs,rs,hr,aF=>by
  simp only[Za2,Zaj,Zaf,Zac,Zaa]at hr;obtain⟨r,lQ,rs',jL,rfl⟩:=hr;simp only[ru]at aF;obtain⟨v,h1,h2⟩:=Xm h hW N7 lQ aF.1;obtain⟨vs,h3,h4⟩:=MC h hW N7 jL aF.2;refine⟨v::vs, ?_, ?_⟩
  ·rw[Za2];simp only[Sem.run_bind,h1,Result.andThen_ok,h3,Sem.run_pure]
  ·simp only[u5,Zau,dv];exact⟨v,vs,rfl,h2,h4⟩
theorem rC{base:Nat}{W M:Nat->Prop}{w0 w:World}{nt:Nat}{st:kX}{a:Act}{L:Loc}(h:R0 base W M w0 nt st.tmps st.objs a w L){lend:Bool}{W':Nat->Prop}(hW:lend=true->∀r o b,st.objs r=some o->L.own r o=some b->¬W' b)(N7:∀b,W' b->WW W st.objs L b){fn:Func}{rs:List bO}(hr:fn.results.toList.mapM (tj P)=some rs){t:T}(aF:ru lend st rs/\t=(match u5 st rs with|[x]=>x|ts=>.eG ts)):
  ∃v,(results fn a.tmps).run P w=.ok v w/\aS w W' t v:=by
 obtain⟨h1,rfl⟩:=aF;obtain⟨vs,h2,h3⟩:=MC h hW N7 hr h1;have hm:(fn.results.mapM (λrv=>((match rv with|.tmp t=>pure (a.tmps.getD t Go.undef)|.cell b t=>do loadVar t (<-asAddr (a.tmps.getD b Go.undef))):Sem Value))).run P w=.ok vs.toArray w:=by
  rw[ZcG];simp only[Sem.run_map,h2,Result.andThen_ok]
 have hl:vs.length=(u5 st rs).length:=dv.length h3;refine⟨if h:vs.toArray.size=1 then vs.toArray[0]else .tuple vs.toArray, ?_, ?_⟩
 ·have tK:(results fn a.tmps)=(do
   let vs<-fn.results.mapM (λrv=>((match rv with|.tmp t=>pure (a.tmps.getD t Go.undef)|.cell b t=>do loadVar t (<-asAddr (a.tmps.getD b Go.undef))):Sem Value))
   pure (if h:vs.size=1 then vs[0]else .tuple vs)):=rfl
  rw[tK];simp only[Sem.run_bind,hm,Result.andThen_ok,Sem.run_pure]
 ·cases Qj:u5 st rs with
  |nil=>
   rw[Qj]at hl h3;have:vs=[]:=ZaD (by simpa using hl);subst this;simp only[aS];exact⟨#[],by simp,by simp[dv]⟩
  |cons x xs=>
   rw[Qj]at hl h3;cases xs with
   |nil=>
    simp only[dv]at h3;obtain⟨v,hY,rfl,hv,rfl⟩:=h3;simpa using hv
   |cons y ys=>
    have:vs.toArray.size≠1:=by simp at hl⊢;omega
    rw[dif_neg this];simp only[aS];exact⟨_,rfl,by simpa using h3⟩
theorem mM{W:Nat->Prop}{objs:aT}{L:Loc}{w w':World}(Ct:KeepsC (WW W objs L) w w'):∀n,(∀(d:DV) (x:Value),SizeOf.sizeOf d<n->av w W objs L d x->av w' W objs L d x)/\(∀(ds:List DV) (xs:List Value),SizeOf.sizeOf ds<n->aJ w W objs L ds xs->aJ w' W objs L ds xs)/\(∀(ds:List DV) (xs:List Value),SizeOf.sizeOf ds<n->eZ w W objs L ds xs->eZ w' W objs L ds xs):=by
 have oH:∀b,b<w.heap.size->WW W objs L b->WW W objs L b:=λ_ _ h=>h;intro n;induction n with
 |zero=>exact⟨λ_ _ h=>by omega,λ_ _ h=>by omega,λ_ _ h=>by omega⟩
 |succ n ih=>
  refine⟨λd x hn hx=>?_,λds xs hn hx=>?_,λds xs hn hx=>?_⟩
  ·cases d with
   |v t=>simp only[av]at hx⊢;exact aS.aC Ct oH t x hx
   |eG cs=>
    simp only[av]at hx⊢;obtain⟨vs,hv,hr⟩:=hx;exact⟨vs,hv,ih.2.2 cs _ (by simp at hn⊢;omega) hr⟩
   |my f cs=>
    simp only[av]at hx⊢;obtain⟨vs,hv,hr⟩:=hx;exact⟨vs,hv,ih.2.1 cs _ (by simp at hn⊢;omega) hr⟩
   |kG rows i off=>
    simp only[av]at hx⊢;obtain⟨b,o,sz,hx,hb,Cr,hr,h1,h2⟩:=hx;exact⟨b,o,sz,hx,ZaR hb Ct.size,Cr,aY.aC Ct oH hb Cr sz o rows hr,h1,h2⟩
   |gD cs off=>
    simp only[av]at hx⊢;obtain⟨b,o,hx,hb,Cr,hr⟩:=hx;exact⟨b,o,hx,ZaR hb Ct.size,Cr,cV.aC Ct oH hb Cr o cs hr⟩
   |agg cs=>
    simp only[av]at hx⊢;obtain⟨vs,hv,hr⟩:=hx;exact⟨vs,hv,ih.2.1 cs _ (by simp at hn⊢;omega) hr⟩
   |_=>exact hx
  ·cases ds with
   |nil=>simpa only[aJ]using hx
   |cons d ds=>
    simp only[aJ]at hx⊢;obtain⟨y,ys,hv,h1,h2,h3⟩:=hx;exact⟨y,ys,hv,h1,ih.1 d y (by simp at hn⊢;omega) h2,ih.2.1 ds ys (by simp at hn⊢;omega) h3⟩
  ·cases ds with
   |nil=>simpa only[eZ]using hx
   |cons d ds=>
    simp only[eZ]at hx⊢;obtain⟨y,ys,hv,h2,h3⟩:=hx;exact⟨y,ys,hv,ih.1 d y (by simp at hn⊢;omega) h2,ih.2.2 ds ys (by simp at hn⊢;omega) h3⟩
theorem lY{w:World}{l:Nat}{o o':Obj}(hl:w.heap[l]? =some o)(Ql:¬Obj.plain o):∀(b:Nat) x,Obj.plain x->w.heap[b]? =some x->(w.putObj l o').heap[b]? =some x:=λb x hx hb=>by
 rw[World.putObj_heap_other (by rintro rfl;rw[hl]at hb;cases hb;exact Ql hx)];exact hb
theorem u6{base:Nat}{W M:Nat->Prop}{w0 w:World}{objs:aT}{L:Loc}(h:bK base W M w0 objs w L){l:Nat}{o o':Obj}(hl:w.heap[l]? =some o)(Ql:¬Obj.plain o)(hb:base<=l):
  bK base W M w0 objs (w.putObj l o') L:=by
 have gE:(w.putObj l o').heap.size=w.heap.size:=by simp[World.putObj]
 have mN:=lY (o':=o') hl Ql;have Ct:KeepsC (WW W objs L) w (w.putObj l o'):=⟨by rw[gE];exact Zae _,λb c e fr hb _=>mN b _ trivial hb⟩;have f:=h.fr;refine⟨⟨f.os,f.tape,f.output,f.ib,by rw[gE];exact f.size,λk hk hm=>?_,f.drawn⟩,λr o ho=>?_,h.apart,h.outer,h.under,h.gl.aC Ct λ_ _ h=>h⟩
 ·rw[World.putObj_heap_other (by omega)];exact f.block k hk hm
 ·have fG:=h.ob r o ho;cases o with
  |box cs=>
   obtain⟨c,e,hc,hr,hm⟩:=fG;exact⟨c,e,mN _ _ trivial hc,(mM Ct (SizeOf.sizeOf cs+1)).2.1 cs _ (by omega) hr,hm⟩
  |map shs agg c es=>
   obtain⟨arr,hc,hr,k1,k2,k3,hm⟩:=fG;refine⟨arr,mN _ _ trivial hc, ?_,k1,k2,k3,hm⟩;have key:∀(es:List (Nat×T×DV)) (xs:List MapEntry),bj w W objs L es xs->bj (w.putObj l o') W objs L es xs:=by
    intro es;induction es with
    |nil=>intro xs h;simpa only[bj]using h
    |cons e es ih=>
     intro xs h;simp only[bj]at h⊢;obtain⟨x,jM,hx,h1,h2,h3,h4⟩:=h;exact⟨x,jM,hx,h1,aS.aC Ct (λ_ _ h=>h) _ _ h2,(mM Ct (SizeOf.sizeOf e.2.2+1)).1 _ _ (by omega) h3,ih jM h4⟩
   exact key es _ hr
  |iter m s sn lt=>
   obtain⟨hc,Jm,hm⟩:=fG;exact⟨mN _ _ trivial hc,Jm,hm⟩
  |arr ver e sz rows=>
   obtain⟨g1,g2,g3,g4⟩:=fG;refine⟨g1,g2,g3, ?_⟩;rcases g4 with g4|⟨g,cap,cur,hv,hp,hh,k1,k2,k3,k4⟩
   ·exact .inl g4
   ·exact .inr ⟨g,cap,cur,hv,hp,mN _ _ trivial hh,k1,k2,k3,aO.aC Ct (λ_ _ h=>h) _ _ k4⟩
theorem Ov{κ:Ctx}{nt:Nat}{st:RS}{a:Act}{w:World}{L:Loc}(hJ:κ.J=none)(h:dG κ nt st a w L){D:Nat}{Ds:List Nat}(hd:a.defers=(D::Ds).map mark)(hn:(D::Ds).Nodup)(hk:∀D'∈D::Ds,w.heap[D']? =some (.deferred (some []))/\κ.gw.heap.size<=D'):
  dG κ nt st {a with defers:=Ds.map mark} (w.putObj D (.deferred none)) L:=by
 obtain⟨W,base,M,w0,dH,h0⟩:=h.ex;have hD:=hk D (Za5 ..);have cW:=(Zai.1 hD.1).1;have JU:∀b,b≠D->(w.putObj D (.deferred none)).heap[b]? =w.heap[b]? :=λb hb=>World.putObj_heap_other hb;have gE:(w.putObj D (.deferred none)).heap.size=w.heap.size:=by simp[World.putObj]
 have JZ:=dH;unfold Ctx.At at JZ;simp only[hJ]at JZ;obtain⟨_,rfl,rfl,rfl,rfl⟩:=JZ;have hbD:κ.base<=D:=ZaC (h.bg hJ) hD.2;have mN:∀(b:Nat) c e fr,w.heap[b]? =some (.cells c e fr)->(w.putObj D (.deferred none)).heap[b]? =some (.cells c e fr):=λb c e fr hb=>by
  rw[JU b (by rintro rfl;rw[hD.1]at hb;cases hb)];exact hb
 have Ct:KeepsC (WW κ.W st.objs L) w (w.putObj D (.deferred none)):=⟨by rw[gE];exact Zae _,λb c e fr hb _=>mN b c e fr hb⟩;have kd:∀(d:DV) (x:Value),av w κ.W st.objs L d x->av (w.putObj D (.deferred none)) κ.W st.objs L d x:=λd x=>(mM Ct (SizeOf.sizeOf d+1)).1 d x (by omega);have hO:bK κ.base κ.W κ.M κ.w0 st.objs (w.putObj D (.deferred none)) L:=u6 h0.o hD.1 (λe=>e) hbD;refine⟨⟨κ.W,κ.base,κ.M,κ.w0,dH,h0.size,λt=>kd _ _ (h0.tmps t),hO⟩, ?_,⟨Ds,rfl,(ZbM.1 hn).2,λD' hD'=>?_,λh=>by rw[hJ]at h;cases h⟩,h.bg,h.fin⟩
 ·have Wx:=h.dZ;refine⟨⟨⟨by rw[gE];exact Wx.keeps.size,λb c e fr hb Ow=>mN _ _ _ _ (Wx.keeps.gY b c e fr hb Ow)⟩,λb hb=>?_,λb r hb=>?_⟩,Wx.sub,Wx.fix,Wx.arr,Wx.yl⟩
  ·rw[JU b (by have:=(Zai.1 hb).1;omega)];exact Wx.keeps.NY b hb
  ·rw[JU b (by have:=(Zai.1 hb).1;omega)];exact Wx.keeps.Wt b r hb
 ·have bG:D'≠D:=λe=>(ZbM.1 hn).1 (e▸hD');have:=hk D' (ZaW _ hD');exact⟨by rw[JU D' bG];exact this.1,this.2⟩
theorem leaves{κ:Ctx}{nt:Nat}{st:RS}{fn:Func}{R:Ending->World->Prop}(hJ:κ.J=none)(hR:∀(a:Act) (w:World) (L:Loc),dG κ nt st a w L->∃v,(results fn a.tmps).run P w=.ok v w/\R (.returned v) w):
  ∀(Ds:List Nat) (a:Act) (w:World) (L:Loc),dG κ nt st a w L->a.defers=Ds.map mark->Ds.Nodup->(∀D∈Ds,w.heap[D]? =some (.deferred (some []))/\κ.gw.heap.size<=D)->
   LeavesInM Fence.wide 0 P fn a.tmps R (Ds.map mark) .returning w
 |[],a,w,L,h,_,_,_=>by
  obtain⟨v,h1,h2⟩:=hR a w L h;exact⟨v,h1,h2⟩
 |D::Ds,a,w,L,h,hd,hn,hk=>by
  refine⟨by simp,.inl ⟨D,w.putObj D (.deferred none),rfl,run_takeDeferred (hk D (Za5 ..)).1, ?_⟩⟩;have h':=Ov hJ h hd hn hk;obtain⟨Ds',e1,_,e3,_⟩:=h'.defers;have e:Ds'=Ds:=by
   have hi:∀(l l':List Nat),l.map mark=l'.map mark->l=l':=by
    intro l;induction l with
    |nil=>intro l' e;cases l'<;>simp_all
    |cons x l ih=>
     intro l' e;cases l' with
     |nil=>simp at e
     |cons y l'=>
      simp only[Zau,Za6,mark,Deferred.mk.injEq,Target.collected.injEq,and_true]at e;rw[e.1,ih l' e.2]
   exact hi _ _ e1.symm
  subst e;exact leaves hJ hR Ds' {a with defers:=Ds'.map mark} _ L h' rfl (ZbM.1 hn).2 e3
def aQ(P:Program)(f:FuncId)(nt:Nat)(d:DC)(rs:List bO):Prop:=
 ∃fn,P.funcs[f]? =some fn/\fn.ntmps=nt/\fn.body.map (bB P nt)=some d/\fn.results.toList.mapM (tj P)=some rs/\(fn.name== "runtime.NumGoroutine")=false
theorem aQ.entry{f:FuncId}{nt:Nat}{d:DC}{rs:List bO}(h:aQ P f nt d rs):Entry P f:=by
 obtain⟨fn,h1,_,h3,_,h5⟩:=h;obtain⟨c,h2,_⟩:=Zab.1 h3;exact⟨fn,h1,by simpa using h5,by simp[h2]⟩
theorem oI{n:Nat}{vals:Array Value}{k:Nat}{v:Value}(h:vals.toList[k]? =some v):(vals++Array.replicate (n-vals.size) Go.undef).getD k Go.undef=v:=by
 have cW:k<vals.size:=by have:=(Zas.1 h).1;simpa using this
 rw[Zax,ZcD cW];simp only[Array.getElem?_toList]at h;rw[h];rfl
theorem oJ{n:Nat}{vals:Array Value}{k:Nat}(h:vals.size<=k):(vals++Array.replicate (n-vals.size) Go.undef).getD k Go.undef=Go.undef:=by
 rw[Zax,Array.getElem?_append_right h,Array.getElem?_replicate];split<;>rfl
theorem aQ.ok{f:FuncId}{nt:Nat}{d:DC}{rs:List bO}(h:aQ P f nt d rs){ts:List T}{t:T}(hlen:ts.length<=nt)(k:aa P nt d (finQ rs t) (nO ts)):aU P f ts t:=by
 have Ay:=h.entry;obtain⟨fn,wx,rfl,h3,hr,_⟩:=h;obtain⟨c,hb,hc⟩:=Zab.1 h3;refine⟨Ay,λW w vals hW hg eJ=>?_⟩;have hl:=dv.length eJ;simp only[ZaU]at hl;have u7:Rel ⟨W,λ_=>none,⟨λ_=>0,λ_=>Go.undef,0⟩,w,w.heap.size,λ_=>False,w,none,none⟩ fn.ntmps (nO ts) {tmps:=vals++Array.replicate (fn.ntmps-vals.size) Go.undef,defers:=[]} w ⟨λ_=>0,λ_=>Go.undef,0⟩:=by
  refine⟨⟨⟨W,w.heap.size,λ_=>False,w,⟨rfl,rfl,rfl,rfl,rfl⟩,by simp;omega,λk=>?_,⟨Fr.refl (Zae _),(λr o h=>by cases h),(λr r' o o' b _ h=>by cases h),(λr o b h=>by cases h),hW,hg.start⟩⟩,
   iZ.ch (cd.refl _ _),⟨[],rfl,ZbT,(λ_ h=>by cases h),λ_=>rfl⟩,λ_=>Zae _,⟨0,λ_ _=>rfl⟩⟩,λ_ _=>rfl,λ_ _=>rfl,λh=>by cases h⟩
  simp only[nO];cases hk:ts[k]? with
  |some x=>
   obtain⟨v,hv,jl⟩:=dv.get eJ hk;simp only[oI hv,ze,av];refine aS.aC (cd.refl W w).toKeepsC ?_ x v jl;rintro b hb (h|⟨r,o,h,_⟩)
   ·exact h
   ·cases h
  |none=>
   have zl:vals.size<=k:=by
    have:=ZbF.1 hk;omega
   simp only[ze,av,oJ zl]
 refine callsIn_wide.1 (callsIn_of_wp_marks (n:=0) wx hb trivial ?_);refine wpIn_mono (k.run c hc 0 _ _ _ _ ⟨λJ hJ=>(by cases hJ),λl hl=>(by cases hl)⟩ u7) ?_;rintro e a' w' ⟨df,L',q,r'⟩;have done:QR rs t df->LeavesInM Fence.wide 0 P fn a'.tmps (λe w'=>∃v,e=.returned v/\tG w.heap.size w w'/\aS w' W t v) a'.defers .returning w':=by
  intro hq;obtain⟨Ds,h1,h2,h3,_⟩:=r'.r.defers;rw[h1];refine leaves (κ:=⟨W,λ_=>none,⟨λ_=>0,λ_=>Go.undef,0⟩,w,w.heap.size,λ_=>False,w,none,none⟩) rfl ?_ Ds a' w' L' r'.r h1 h2 h3;intro a2 w2 L2 h4;obtain⟨W',MD,M',w0',dH,h0⟩:=h4.ex;obtain⟨_,e1,e2,e3,e4⟩:=dH
  replace h0:R0 w.heap.size W (λ_=>False) w fn.ntmps df.tmps df.objs a2 w2 L2:=by rw[e1,e2,e3,e4]at h0;exact h0
  obtain⟨v,k1,k2⟩:=rC (st:=df) h0 (lend:=true) (W':=W) (λ_ r o b e1 e2=>h0.o.outer r o b e1 e2) (λb hb=>.inl hb) hr hq;have fr:=h0.o.fr;exact⟨v,k1,v,rfl,⟨⟨fr.os,fr.tape,fr.output,fr.size,λk hk=>fr.block k hk (λx=>x)⟩,fr.drawn⟩,k2⟩
 cases e with
 |normal=>exact done q
 |ret=>exact done q
 |_=>exact q.elim
theorem aQ.okS{f:FuncId}{nt:Nat}{d:DC}{rs:List bO}(h:aQ P f nt d rs){args:List DV}{objs:aT}{r:iC}{N:Nat}(hN:∀r,N<=r->objs r=none)(hlen:args.length<=nt)(k:aa P nt d (Xl rs r) (yu args objs N)):aZ P f args objs r:=by
 have Ay:=h.entry;obtain⟨fn,wx,rfl,h3,hr,_⟩:=h;obtain⟨c,hb,hc⟩:=Zab.1 h3;refine⟨Ay,λbase W M w0 w L vals hO Oc=>?_⟩;have hl:=Oc.1;simp only[ZaU]at hl;have u7:Rel ⟨W,objs,L,w,base,M,w0,none,none⟩ fn.ntmps (yu args objs N) {tmps:=vals++Array.replicate (fn.ntmps-vals.size) Go.undef,defers:=[]} w L:=by
  refine⟨⟨⟨W,base,M,w0,⟨rfl,rfl,rfl,rfl,rfl⟩,by simp;omega,λk=>?_,hO⟩,
   iZ.ch (cd.refl _ _),⟨[],rfl,ZbT,(λ_ h=>by cases h),λ_=>rfl⟩,λ_=>ZaC hO.fr.ib hO.fr.size,⟨N,hN⟩⟩,hN,hN,λh=>by cases h⟩
  simp only[yu];cases hk:args[k]? with
  |some x=>
   have hv:∃v,vals.toList[k]? =some v:=by
    have:k<vals.size:=by rw[hl];exact(Zas.1 hk).1
    exact⟨vals[k],by simp[this]⟩
   obtain⟨v,hv⟩:=hv;simp only[oI hv,JY];exact Oc.2 k x v hk hv
  |none=>
   have zl:vals.size<=k:=by
    have:=ZbF.1 hk;omega
   simp only[JY,av,oJ zl]
 refine callsIn_wide.1 (callsIn_of_wp_marks (n:=0) wx hb trivial ?_);refine wpIn_mono (k.run c hc 0 _ _ _ _ ⟨λJ hJ=>(by cases hJ),λl hl=>(by cases hl)⟩ u7) ?_;rintro e a' w' ⟨df,L',q,r'⟩;have done:JX rs r df->LeavesInM Fence.wide 0 P fn a'.tmps (λe w'=>∃v L',e=.returned v/\bK base W M w0 r.objs w' L'/\iZ W objs L w r.objs L' w'/\av w' W r.objs L' r.val v) a'.defers .returning w':=by
  rintro⟨hq1,Wy,hq3⟩;obtain⟨Ds,h1,h2,h3,_⟩:=r'.r.defers;rw[h1];refine leaves (κ:=⟨W,objs,L,w,base,M,w0,none,none⟩) rfl ?_ Ds a' w' L' r'.r h1 h2 h3;intro a2 w2 L2 h4;obtain⟨W',MD,M',w0',dH,h0⟩:=h4.ex;obtain⟨_,e1,e2,e3,e4⟩:=dH
  replace h0:R0 base W M w0 fn.ntmps df.tmps df.objs a2 w2 L2:=by rw[e1,e2,e3,e4]at h0;exact h0
  obtain⟨v,k1,k2⟩:=rC (st:=df) h0 (lend:=false) (W':=WW W df.objs L2) (λx=>by cases x) (λb hb=>hb) hr ⟨hq1,rfl⟩;have ME:=h0.o;have tQ:=h4.dZ;simp only[Wy]at ME tQ k2;refine⟨v,k1,v,L2,rfl,ME,tQ, ?_⟩;rw[hq3];simp only[av];exact k2
 cases e with
 |normal=>exact done q
 |ret=>exact done q
 |_=>exact q.elim
end
end Go.DM
namespace Go.DM
open Go.RowKit
variable [Laid]
def exec(Γ:Env)(nxt:Nat):List RO->RS->(RS->Prop)->Prop
 |[],st,K=>K st
 |r::rs,st,K=>
  match r.guard with
  |none=>b8 r st.tmps/\qX r st.objs (post Γ nxt r st).objs/\(post Γ nxt r st).ok/\exec Γ nxt rs ⟨b7 st.tmps r.dst (post Γ nxt r st).val,(post Γ nxt r st).objs,(post Γ nxt r st).todo⟩ K
  |some (s,want)=>
   match st.tmps s with
   |.v (.bool b)=>(b=want->b8 r st.tmps/\qX r st.objs (post Γ nxt r st).objs/\(post Γ nxt r st).ok/\exec Γ nxt rs ⟨b7 (b7 st.tmps (some s) (.v (.bool want))) r.dst (post Γ nxt r st).val,(post Γ nxt r st).objs,(post Γ nxt r st).todo⟩ K)/\
     (b= !want->exec Γ nxt rs ⟨b7 (b7 st.tmps (some s) (.v (.bool (!want)))) r.dst .skip,st.objs,st.todo⟩ K)
   |.skip=>exec Γ nxt rs ⟨b7 st.tmps r.dst .skip,st.objs,st.todo⟩ K
   |_=>False
theorem iF{ρ:Nat->DV}{s:Nat}{v:DV}(h:ρ s=v):b7 ρ (some s) v=ρ:=by
 funext x;simp only[b7];split
 ·rename_i e;rw[e,h]
 ·rfl
theorem eM{Γ:Env}{nxt:Nat}:∀(rs:List RO) (st:RS) (K:RS->Prop),exec Γ nxt rs st K->iP Γ nxt rs st/\K (cM Γ nxt rs st)
 |[],st,K,h=>⟨trivial,h⟩
 |r::rs,st,K,h=>by
  simp only[exec]at h;simp only[iP,cM];have yes:ed r.guard st.tmps=some true->(b8 r st.tmps/\qX r st.objs (post Γ nxt r st).objs/\(post Γ nxt r st).ok/\exec Γ nxt rs ⟨b7 st.tmps r.dst (post Γ nxt r st).val,(post Γ nxt r st).objs,(post Γ nxt r st).todo⟩ K)->(bT Γ nxt r st/\iP Γ nxt rs (cJ Γ nxt r st))/\K (cM Γ nxt rs (cJ Γ nxt r st)):=by
   rintro hw ⟨ht,hk4,aF,hk⟩;have e1:cJ Γ nxt r st=⟨b7 st.tmps r.dst (post Γ nxt r st).val,(post Γ nxt r st).objs,(post Γ nxt r st).todo⟩:=by simp only[cJ,hw]
   have e2:bT Γ nxt r st:=by simp only[bT,hw];exact⟨aF,ht,hk4⟩
   rw[e1];have:=eM rs _ K hk;exact⟨⟨e2,this.1⟩,this.2⟩
  have no:ed r.guard st.tmps=some false->exec Γ nxt rs ⟨b7 st.tmps r.dst .skip,st.objs,st.todo⟩ K->(bT Γ nxt r st/\iP Γ nxt rs (cJ Γ nxt r st))/\K (cM Γ nxt rs (cJ Γ nxt r st)):=by
   rintro hw hk;have e1:cJ Γ nxt r st=⟨b7 st.tmps r.dst .skip,st.objs,st.todo⟩:=by simp only[cJ,hw]
   have e2:bT Γ nxt r st:=by simp only[bT,hw]
   rw[e1];have:=eM rs _ K hk;exact⟨⟨e2,this.1⟩,this.2⟩
  cases hg:r.guard with
  |none=>rw[hg]at h;exact yes (by simp[ed,hg]) h
  |some g=>
   obtain⟨s,want⟩:=g;rw[hg]at h;simp only at h;cases hs:st.tmps s with
   |skip=>rw[hs]at h;exact no (by simp[ed,hg,hs]) h
   |v t=>
    rw[hs]at h;cases t with
    |bool b=>
     simp only at h;by_cases hb:b=want
     ·subst hb;rw[iF hs]at h;exact yes (by simp[ed,hg,hs]) (h.1 rfl)
     ·have mJ:b= !want:=by cases b<;>cases want<;>simp_all
      subst mJ;rw[iF hs]at h;exact no (by simp[ed,hg,hs]) (h.2 rfl)
    |_=>exact h.elim
   |_=>rw[hs]at h;exact h.elim
def eY(Γ:Env)(nxt:Nat)(rs:List RO)(tm:Nat->DV)(ob:aT)(td:List (List T))(K:RS->Prop)(dst:Option Nat)(e:ou):Prop:=
 e.ok/\exec Γ nxt rs ⟨b7 tm dst e.val,bR ob e.put,td⟩ K
def C2(Γ:Env)(nxt:Nat)(rs:List RO)(tm:Nat->DV)(K:RS->Prop)(dst:Option Nat)(e:SEff):Prop:=
 e.ok/\exec Γ nxt rs ⟨b7 tm dst e.val,e.objs,e.todo⟩ K
def kq(Γ:Env)(nxt:Nat)(d:nI)(rs:List RO)(tm:Nat->DV)(ob:aT)(td:List (List T))(K:RS->Prop)(dst:Option Nat)(eS:Nat->DV):Prop:=
 if oV d then C2 Γ nxt rs eS K dst (lV Γ d tm ob td)else eY Γ nxt rs eS ob td K dst (cu Γ d (nameOf nxt dst) tm ob)
def J0(Γ:Env)(nxt:Nat)(d:nI)(rs:List RO)(tm:Nat->DV)(ob:aT)(td:List (List T))(K:RS->Prop)(dst:Option Nat)(s:Nat)(want:Bool)(g:DV):Prop:=
 match g with
 |.v (.bool b)=>(b=want->kq Γ nxt d rs tm ob td K dst (b7 tm (some s) (.v (.bool want))))/\
   (b= !want->exec Γ nxt rs ⟨b7 (b7 tm (some s) (.v (.bool (!want)))) dst .skip,ob,td⟩ K)
 |.skip=>exec Γ nxt rs ⟨b7 tm dst .skip,ob,td⟩ K
 |_=>False
section
variable{Γ:Env}{nxt:Nat}{st:RS}{K:RS->Prop}{rs:List RO}{tm eS:Nat->DV}{ob:aT}{td:List (List T)}{dst:Option Nat}
theorem Xn(ok:Prop)(v:DV)(p:Option (Nat×Ob)):eY Γ nxt rs tm ob td K dst ⟨ok,v,p⟩=(ok/\exec Γ nxt rs ⟨b7 tm dst v,bR ob p,td⟩ K):=rfl
theorem QS(ok:Prop)(v:DV)(ob':aT)(td':List (List T)):C2 Γ nxt rs tm K dst ⟨ok,v,ob',td'⟩=(ok/\exec Γ nxt rs ⟨b7 tm dst v,ob',td'⟩ K):=rfl
theorem QT:eY Γ nxt rs tm ob td K dst bad=False:=by simp[eY,bad]
theorem Ox(f:FuncId)(args:List bp):kq Γ nxt (.callS f args) rs tm ob td K dst eS=C2 Γ nxt rs eS K dst (lV Γ (.callS f args) tm ob td):=by simp[kq,oV]
theorem Oy(x:bp)(args:List bp):kq Γ nxt (.callv x args) rs tm ob td K dst eS=C2 Γ nxt rs eS K dst (lV Γ (.callv x args) tm ob td):=by simp[kq,oV]
theorem lq(d:nI)(s:Nat)(b want:Bool):J0 Γ nxt d rs tm ob td K dst s want (.v (.bool b))=((b=want->kq Γ nxt d rs tm ob td K dst (b7 tm (some s) (.v (.bool want))))/\
   (b= !want->exec Γ nxt rs ⟨b7 (b7 tm (some s) (.v (.bool (!want)))) dst .skip,ob,td⟩ K)):=rfl
theorem QU:exec Γ nxt [] st K=K st:=rfl
theorem u9{d:nI}{g:Option (Nat×Bool)}{af:List Nat}{l:Option (List Nat)}:((post Γ nxt ⟨d,dst,g,af,l⟩ ⟨tm,ob,td⟩).ok/\exec Γ nxt rs ⟨b7 eS dst (post Γ nxt ⟨d,dst,g,af,l⟩ ⟨tm,ob,td⟩).val,(post Γ nxt ⟨d,dst,g,af,l⟩ ⟨tm,ob,td⟩).objs,(post Γ nxt ⟨d,dst,g,af,l⟩ ⟨tm,ob,td⟩).todo⟩ K)=kq Γ nxt d rs tm ob td K dst eS:=by
 unfold post kq;cases h:oV d<;>simp[eY,C2,pg]
theorem Az{d:nI}{g:Option (Nat×Bool)}{af:List Nat}{o o':aT}:qX ⟨d,dst,g,af,none⟩ o o'=True:=eq_true λ_ l h=>by cases h
def C3(l:List Nat)(o o':aT):Prop:=∀n,n∉l->o' n=o n
theorem AA{d:nI}{g:Option (Nat×Bool)}{af l:List Nat}:qX ⟨d,dst,g,af,some l⟩ ob (post Γ nxt ⟨d,dst,g,af,some l⟩ ⟨tm,ob,td⟩).objs=(oV d=true->C3 l ob (lV Γ d tm ob td).objs):=by
 unfold qX C3 post;by_cases h:oV d=true
 ·simp[h]
 ·simp[h]
theorem J1(d:nI)(af:List Nat):exec Γ nxt (⟨d,dst,none,af,none⟩::rs) ⟨tm,ob,td⟩ K=kq Γ nxt d rs tm ob td K dst tm:=by
 simp only[exec,b8,Az,true_and];exact u9
theorem J2(d:nI)(af:List Nat)(l:List Nat):
  exec Γ nxt (⟨d,dst,none,af,some l⟩::rs) ⟨tm,ob,td⟩ K=(b8 ⟨d,dst,none,af,some l⟩ tm/\(oV d=true->C3 l ob (lV Γ d tm ob td).objs)/\kq Γ nxt d rs tm ob td K dst tm):=by
 simp only[exec];rw[u9,AA]
@[simp low] theorem mO(d:nI)(s:Nat)(want:Bool)(af:List Nat):
  exec Γ nxt (⟨d,dst,some (s,want),af,none⟩::rs) ⟨tm,ob,td⟩ K=J0 Γ nxt d rs tm ob td K dst s want (tm s):=by
 simp only[exec,J0,b8,Az,true_and];rw[u9]
end
section
variable{Γ:Env}{nxt:Nat}{K:RS->Prop}{rs:List RO}{tm:Nat->DV}{ob:aT}{td:List (List T)}{dst:Option Nat}{d:nI}{s:Nat}{af:List Nat}
@[simp] theorem exec_g_tt(h:tm s=.v (.bool true)):exec Γ nxt (⟨d,dst,some (s,true),af,none⟩::rs) ⟨tm,ob,td⟩ K=kq Γ nxt d rs tm ob td K dst tm:=by
 rw[mO,h,lq,iF h];simp
@[simp] theorem exec_g_ff(h:tm s=.v (.bool false)):exec Γ nxt (⟨d,dst,some (s,false),af,none⟩::rs) ⟨tm,ob,td⟩ K=kq Γ nxt d rs tm ob td K dst tm:=by
 rw[mO,h,lq,iF h];simp
@[simp] theorem exec_g_tf(h:tm s=.v (.bool true)):exec Γ nxt (⟨d,dst,some (s,false),af,none⟩::rs) ⟨tm,ob,td⟩ K=exec Γ nxt rs ⟨b7 tm dst .skip,ob,td⟩ K:=by
 rw[mO,h,lq];simp[iF h]
@[simp] theorem exec_g_ft(h:tm s=.v (.bool false)):exec Γ nxt (⟨d,dst,some (s,true),af,none⟩::rs) ⟨tm,ob,td⟩ K=exec Γ nxt rs ⟨b7 tm dst .skip,ob,td⟩ K:=by
 rw[mO,h,lq];simp[iF h]
@[simp] theorem exec_g_sk{want:Bool}(h:tm s=.skip):exec Γ nxt (⟨d,dst,some (s,want),af,none⟩::rs) ⟨tm,ob,td⟩ K=exec Γ nxt rs ⟨b7 tm dst .skip,ob,td⟩ K:=by
 rw[mO,h];rfl
end
def look:List (Nat×DV)->Nat->DV
 |[],_=>.undef
 |(j,v)::l,k=>if k=j then v else look l k
def cC:List (Nat×Ob)->Nat->Option Ob
 |[],_=>none
 |(j,o)::l,k=>if k=j then some o else cC l k
theorem QW(f:Nat->DV)(k:Nat)(v:DV)(x:Nat):b7 f (some k) v x=if x=k then v else f x:=rfl
theorem Oz(f:Nat->DV)(v:DV):b7 f none v=f:=rfl
theorem OA(f:aT):bR f none=f:=rfl
theorem C4(f:aT)(r:Nat)(o:Ob)(x:Nat):bR f (some (r,o)) x=if x=r then some o else f x:=rfl
theorem ml(j:Nat)(v:DV)(l:List (Nat×DV))(k:Nat):look ((j,v)::l) k=if k=j then v else look l k:=rfl
theorem look_nil(k:Nat):look [] k=.undef:=rfl
theorem dq(j:Nat)(o:Ob)(l:List (Nat×Ob))(k:Nat):cC ((j,o)::l) k=if k=j then some o else cC l k:=rfl
theorem lZ(k:Nat):cC [] k=none:=rfl
theorem QX(l:List (Nat×Ob))(r:Nat)(o:Ob):bR (cC l) (some (r,o))=cC ((r,o)::l):=rfl
def kr(ks:List Nat)(tm:Nat->DV):List (Nat×DV):=ks.map λk=>(k,tm k)
theorem AB(k:Nat)(ks:List Nat)(tm:Nat->DV):kr (k::ks) tm=(k,tm k)::kr ks tm:=rfl
theorem OB(tm:Nat->DV):kr [] tm=[]:=rfl
theorem mP(tm:Nat->DV):∀(ks:List Nat) (k:Nat),look (kr ks tm) k=.undef\/look (kr ks tm) k=tm k
 |[],_=>.inl rfl
 |j::ks,k=>by
  rw[AB,ml];split
  ·rename_i h;exact .inr (by rw[h])
  ·exact mP tm ks k
theorem Le.vd{st:kX}{tm:Nat->DV}(h:∀k,tm k=.undef\/tm k=st.tmps k):Le st ⟨tm,st.objs,st.nxt,st.low,st.todo⟩:=λκ nt a w L r=>
 ⟨L,⟨by
  obtain⟨W,base,M,w0,dH,h0⟩:=r.r.ex;exact⟨W,base,M,w0,dH,h0.size,λt=>by
   rcases h t with e|e
   ·show av w W st.objs L (tm t) _;rw[e];simp[av]
   ·show av w W st.objs L (tm t) _;rw[e];exact h0.tmps t,h0.o⟩,r.r.dZ,r.r.defers,r.r.bg,r.r.fin⟩,r.fresh,r.low,r.it⟩
theorem OC(ts:List T):Le (nO ts) ⟨look ((ts.map .v).zipIdx.map λp=>(p.2,p.1)),cC [],1000,1000,[]⟩:=by
 have key:∀(ts:List T) (i k:Nat),look (((ts.map .v).zipIdx i).map λp=>(p.2,p.1)) k=.undef\/look (((ts.map .v).zipIdx i).map λp=>(p.2,p.1)) k=ze (if i<=k then ts[k-i]? else none):=by
  intro ts;induction ts with
  |nil=>intro i k;exact .inl rfl
  |cons t ts ih=>
   intro i k;simp only[Zau,Zb7,ml];split
   ·rename_i h;subst h;exact .inr (by simp[ze])
   ·rename_i h;rcases ih (i+1) k with e|e
    ·exact .inl e
    ·right;rw[e];by_cases hk:i+1<=k
     ·rw[if_pos hk,if_pos (by omega),show k-i=(k-(i+1))+1 by omega,ZaX]
     ·have:¬i<=k:=by omega
      rw[if_neg hk,if_neg this]
 refine Le.trans (Le.vd (st:=nO ts) (tm:=look ((ts.map .v).zipIdx.map λp=>(p.2,p.1))) λk=>?_) (λκ nt a w L r=>⟨L,r⟩);have:=key ts 0 k;simpa [nO]using this
section
variable{P:Program}{nt:Nat}{Γ:Env}{Q:Exit->kX->Prop}{st:kX}{tm:Nat->DV}{ob:aT}{nxt low:Nat}{td:List (List T)}
theorem aa.dm(ay:aw P Γ)(hm:P.follows .mixedOrders=true){draw:Bool}{rs:List RO}(ks:List Nat)
  (h:exec Γ nxt rs ⟨tm,ob,td⟩ λs=>Q .normal ⟨look (kr ks s.tmps),s.objs,nxt+nt+1,low,s.todo⟩):aa P nt (.region draw rs) Q ⟨tm,ob,nxt,low,td⟩:=by
 have:=eM _ _ _ h;refine aa.u4 (Q:=λe s=>e=.normal/\s=⟨(cM Γ nxt rs ⟨tm,ob,td⟩).tmps,(cM Γ nxt rs ⟨tm,ob,td⟩).objs,nxt+nt+1,low,(cM Γ nxt rs ⟨tm,ob,td⟩).todo⟩) (aa.region ay hm (st:=⟨tm,ob,nxt,low,td⟩) this.1 ⟨rfl,rfl⟩) ?_;rintro e s ⟨rfl,rfl⟩;exact⟨_,Le.vd (mP _ ks),this.2⟩
theorem aa.ab(ay:aw P Γ)(hm:P.follows .mixedOrders=true){draw:Bool}{rs:List RO}{b:DC}(ks:List Nat)
  (h:exec Γ nxt rs ⟨tm,ob,td⟩ λs=>aa P nt b Q ⟨look (kr ks s.tmps),s.objs,nxt+nt+1,low,s.todo⟩):aa P nt (.seq (.region draw rs) b) Q ⟨tm,ob,nxt,low,td⟩:=
 aa.seq (aa.dm ay hm ks h)
theorem aa.tR(ay:aw P Γ)(hm:P.follows .mixedOrders=true){d:DC}{rs:List RO}(hd:d=.jX (rs.map bare)\/∃draw,d=.region draw (rs.map bare))(aF:da nt true rs=true)(ks:List Nat)
  (h:exec Γ nxt rs ⟨tm,ob,td⟩ λs=>Q .normal ⟨look (kr ks s.tmps),s.objs,nxt+nt+1,low,s.todo⟩):aa P nt d Q ⟨tm,ob,nxt,low,td⟩:=by
 have:=eM _ _ _ h;refine aa.u4 (Q:=λe s=>e=.normal/\s=⟨(cM Γ nxt rs ⟨tm,ob,td⟩).tmps,(cM Γ nxt rs ⟨tm,ob,td⟩).objs,nxt+nt+1,low,(cM Γ nxt rs ⟨tm,ob,td⟩).todo⟩) (aa.Xi ay hm hd aF (st:=⟨tm,ob,nxt,low,td⟩) this.1 ⟨rfl,rfl⟩) ?_;rintro e s ⟨rfl,rfl⟩;exact⟨_,Le.vd (mP _ ks),this.2⟩
theorem aa.iG(ay:aw P Γ)(hm:P.follows .mixedOrders=true){d b:DC}{rs:List RO}(hd:d=.jX (rs.map bare)\/∃draw,d=.region draw (rs.map bare))(aF:da nt true rs=true)(ks:List Nat)
  (h:exec Γ nxt rs ⟨tm,ob,td⟩ λs=>aa P nt b Q ⟨look (kr ks s.tmps),s.objs,nxt+nt+1,low,s.todo⟩):aa P nt (.seq d b) Q ⟨tm,ob,nxt,low,td⟩:=
 aa.seq (aa.tR ay hm hd aF ks h)
end
theorem aK{P:Program}{nt:Nat}{d:DC}{Q:Exit->kX->Prop}{ts:List T}(h:aa P nt d Q ⟨look ((ts.map .v).zipIdx.map λp=>(p.2,p.1)),cC [],1000,1000,[]⟩):aa P nt d Q (nO ts):=aa.le (OC ts) h
section
variable{Γ:Env}{nxt:Nat}{K:RS->Prop}{rs:List RO}{tm eS:Nat->DV}{ob:aT}{td:List (List T)}{dst:Option Nat}
@[simp] theorem goD_mov(x:bp):kq Γ nxt (.bQ x) rs tm ob td K dst eS=eY Γ nxt rs eS ob td K dst (cu Γ (.bQ x) (nameOf nxt dst) tm ob):=rfl
@[simp] theorem goD_pick(c a b:bp):kq Γ nxt (.pick c a b) rs tm ob td K dst eS=eY Γ nxt rs eS ob td K dst (cu Γ (.pick c a b) (nameOf nxt dst) tm ob):=rfl
@[simp] theorem goD_alloc(zero:List DV):kq Γ nxt (.alloc zero) rs tm ob td K dst eS=eY Γ nxt rs eS ob td K dst (cu Γ (.alloc zero) (nameOf nxt dst) tm ob):=rfl
@[simp] theorem goD_box(x:bp):kq Γ nxt (.box x) rs tm ob td K dst eS=eY Γ nxt rs eS ob td K dst (cu Γ (.box x) (nameOf nxt dst) tm ob):=rfl
@[simp] theorem goD_build(zero:List DV)(parts:List (Nat×Nat×bp)):kq Γ nxt (.build zero parts) rs tm ob td K dst eS=eY Γ nxt rs eS ob td K dst (cu Γ (.build zero parts) (nameOf nxt dst) tm ob):=rfl
@[simp] theorem goD_bslice(len sz:Nat)(zero:List DV)(parts:List (Nat×Nat×bp)):kq Γ nxt (.bslice len sz zero parts) rs tm ob td K dst eS=eY Γ nxt rs eS ob td K dst (cu Γ (.bslice len sz zero parts) (nameOf nxt dst) tm ob):=rfl
@[simp] theorem goD_load(n:Nat)(agg:Bool)(x:bp):kq Γ nxt (.load n agg x) rs tm ob td K dst eS=eY Γ nxt rs eS ob td K dst (cu Γ (.load n agg x) (nameOf nxt dst) tm ob):=rfl
@[simp] theorem goD_store(n:Nat)(x y:bp):kq Γ nxt (.store n x y) rs tm ob td K dst eS=eY Γ nxt rs eS ob td K dst (cu Γ (.store n x y) (nameOf nxt dst) tm ob):=rfl
@[simp] theorem goD_bin(op:BinOp)(x y:bp):kq Γ nxt (.bin op x y) rs tm ob td K dst eS=eY Γ nxt rs eS ob td K dst (cu Γ (.bin op x y) (nameOf nxt dst) tm ob):=rfl
@[simp] theorem goD_eqT(neg agg:Bool)(shs:List Sh)(x y:bp):kq Γ nxt (.eqT neg agg shs x y) rs tm ob td K dst eS=eY Γ nxt rs eS ob td K dst (cu Γ (.eqT neg agg shs x y) (nameOf nxt dst) tm ob):=rfl
@[simp] theorem goD_un(op:UnOp)(x:bp):kq Γ nxt (.un op x) rs tm ob td K dst eS=eY Γ nxt rs eS ob td K dst (cu Γ (.un op x) (nameOf nxt dst) tm ob):=rfl
@[simp] theorem goD_conv(k:IntKind)(x:bp):kq Γ nxt (.conv k x) rs tm ob td K dst eS=eY Γ nxt rs eS ob td K dst (cu Γ (.conv k x) (nameOf nxt dst) tm ob):=rfl
@[simp] theorem goD_addOff(k:Nat)(x:bp):kq Γ nxt (.addOff k x) rs tm ob td K dst eS=eY Γ nxt rs eS ob td K dst (cu Γ (.addOff k x) (nameOf nxt dst) tm ob):=rfl
@[simp] theorem Xo(x:bp):kq Γ nxt (.nilCheck x) rs tm ob td K dst eS=eY Γ nxt rs eS ob td K dst (cu Γ (.nilCheck x) (nameOf nxt dst) tm ob):=rfl
@[simp] theorem YS(sz:Nat)(x i:bp):kq Γ nxt (.idxAddr sz x i) rs tm ob td K dst eS=eY Γ nxt rs eS ob td K dst (cu Γ (.idxAddr sz x i) (nameOf nxt dst) tm ob):=rfl
@[simp] theorem YT(len sz:Nat)(x i:bp):kq Γ nxt (.arrAddr len sz x i) rs tm ob td K dst eS=eY Γ nxt rs eS ob td K dst (cu Γ (.arrAddr len sz x i) (nameOf nxt dst) tm ob):=rfl
@[simp] theorem goD_field(off n:Nat)(agg:Bool)(x:bp):kq Γ nxt (.field off n agg x) rs tm ob td K dst eS=eY Γ nxt rs eS ob td K dst (cu Γ (.field off n agg x) (nameOf nxt dst) tm ob):=rfl
@[simp] theorem goD_slice(sz:Nat)(x:bp)(lo hi:Option bp):kq Γ nxt (.slice sz x lo hi) rs tm ob td K dst eS=eY Γ nxt rs eS ob td K dst (cu Γ (.slice sz x lo hi) (nameOf nxt dst) tm ob):=rfl
@[simp] theorem YU(i:Nat)(x:bp):kq Γ nxt (.extract i x) rs tm ob td K dst eS=eY Γ nxt rs eS ob td K dst (cu Γ (.extract i x) (nameOf nxt dst) tm ob):=rfl
@[simp] theorem goD_call(f:FuncId)(args:List bp):kq Γ nxt (.call f args) rs tm ob td K dst eS=eY Γ nxt rs eS ob td K dst (cu Γ (.call f args) (nameOf nxt dst) tm ob):=rfl
@[simp] theorem goD_len(x:bp):kq Γ nxt (.len x) rs tm ob td K dst eS=eY Γ nxt rs eS ob td K dst (cu Γ (.len x) (nameOf nxt dst) tm ob):=rfl
@[simp] theorem goD_lenS(x:bp):kq Γ nxt (.lenS x) rs tm ob td K dst eS=eY Γ nxt rs eS ob td K dst (cu Γ (.lenS x) (nameOf nxt dst) tm ob):=rfl
@[simp] theorem goD_minmax(isMax:Bool)(x y:bp):kq Γ nxt (.minmax isMax x y) rs tm ob td K dst eS=eY Γ nxt rs eS ob td K dst (cu Γ (.minmax isMax x y) (nameOf nxt dst) tm ob):=rfl
@[simp] theorem goD_append(e sz bytes:Nat)(x y:bp):kq Γ nxt (.append e sz bytes x y) rs tm ob td K dst eS=eY Γ nxt rs eS ob td K dst (cu Γ (.append e sz bytes x y) (nameOf nxt dst) tm ob):=rfl
@[simp] theorem YV(e sz bytes:Nat)(zero:List T)(n:bp):kq Γ nxt (.mkSlice e sz bytes zero n) rs tm ob td K dst eS=eY Γ nxt rs eS ob td K dst (cu Γ (.mkSlice e sz bytes zero n) (nameOf nxt dst) tm ob):=rfl
@[simp] theorem Xp(e sz bytes:Nat)(zero:List T)(n:bp):kq Γ nxt (.mkSliceB e sz bytes zero n) rs tm ob td K dst eS=eY Γ nxt rs eS ob td K dst (cu Γ (.mkSliceB e sz bytes zero n) (nameOf nxt dst) tm ob):=rfl
@[simp] theorem goD_mkFn(f:Fn)(caps:List bp):kq Γ nxt (.mkFn f caps) rs tm ob td K dst eS=eY Γ nxt rs eS ob td K dst (cu Γ (.mkFn f caps) (nameOf nxt dst) tm ob):=rfl
@[simp] theorem goD_callR(f:FuncId)(args:List bp):kq Γ nxt (.callR f args) rs tm ob td K dst eS=eY Γ nxt rs eS ob td K dst (cu Γ (.callR f args) (nameOf nxt dst) tm ob):=rfl
@[simp] theorem goD_callF(f:FuncId)(args:List bp):kq Γ nxt (.callF f args) rs tm ob td K dst eS=eY Γ nxt rs eS ob td K dst (cu Γ (.callF f args) (nameOf nxt dst) tm ob):=rfl
@[simp] theorem goD_mkMap(shs:List Sh)(agg:Bool):kq Γ nxt (.mkMap shs agg) rs tm ob td K dst eS=eY Γ nxt rs eS ob td K dst (cu Γ (.mkMap shs agg) (nameOf nxt dst) tm ob):=rfl
@[simp] theorem goD_lookup(shs:List Sh)(agg:Bool)(zero:DV)(ok:Bool)(x k:bp):kq Γ nxt (.lookup shs agg zero ok x k) rs tm ob td K dst eS=eY Γ nxt rs eS ob td K dst (cu Γ (.lookup shs agg zero ok x k) (nameOf nxt dst) tm ob):=rfl
@[simp] theorem goD_mapUpd(shs:List Sh)(agg:Bool)(x k y:bp):kq Γ nxt (.mapUpd shs agg x k y) rs tm ob td K dst eS=eY Γ nxt rs eS ob td K dst (cu Γ (.mapUpd shs agg x k y) (nameOf nxt dst) tm ob):=rfl
@[simp] theorem goD_mapEnt(shs:List Sh)(agg:Bool)(z:DV)(x k:bp):kq Γ nxt (.mapEnt shs agg z x k) rs tm ob td K dst eS=eY Γ nxt rs eS ob td K dst (cu Γ (.mapEnt shs agg z x k) (nameOf nxt dst) tm ob):=rfl
@[simp] theorem goD_entSt(x s y:bp):kq Γ nxt (.entSt x s y) rs tm ob td K dst eS=eY Γ nxt rs eS ob td K dst (cu Γ (.entSt x s y) (nameOf nxt dst) tm ob):=rfl
@[simp] theorem goD_mapDel(shs:List Sh)(agg:Bool)(x k:bp):kq Γ nxt (.mapDel shs agg x k) rs tm ob td K dst eS=eY Γ nxt rs eS ob td K dst (cu Γ (.mapDel shs agg x k) (nameOf nxt dst) tm ob):=rfl
@[simp] theorem goD_lenM(x:bp):kq Γ nxt (.lenM x) rs tm ob td K dst eS=eY Γ nxt rs eS ob td K dst (cu Γ (.lenM x) (nameOf nxt dst) tm ob):=rfl
@[simp] theorem goD_rangeM(x:bp):kq Γ nxt (.rangeM x) rs tm ob td K dst eS=eY Γ nxt rs eS ob td K dst (cu Γ (.rangeM x) (nameOf nxt dst) tm ob):=rfl
@[simp] theorem goD_copy(sz:Nat)(x y:bp):kq Γ nxt (.copy sz x y) rs tm ob td K dst eS=eY Γ nxt rs eS ob td K dst (cu Γ (.copy sz x y) (nameOf nxt dst) tm ob):=rfl
@[simp] theorem goD_isNil(kind:Nat)(neg:Bool)(x:bp):kq Γ nxt (.isNil kind neg x) rs tm ob td K dst eS=eY Γ nxt rs eS ob td K dst (cu Γ (.isNil kind neg x) (nameOf nxt dst) tm ob):=rfl
@[simp] theorem goD_indexS(x i:bp):kq Γ nxt (.indexS x i) rs tm ob td K dst eS=eY Γ nxt rs eS ob td K dst (cu Γ (.indexS x i) (nameOf nxt dst) tm ob):=rfl
@[simp] theorem goD_fail:kq Γ nxt (.fail) rs tm ob td K dst eS=eY Γ nxt rs eS ob td K dst (cu Γ (.fail) (nameOf nxt dst) tm ob):=rfl
@[simp] theorem goD_entryM(x:bp):kq Γ nxt (.entryM x) rs tm ob td K dst eS=C2 Γ nxt rs eS K dst (lV Γ (.entryM x) tm ob td):=by simp[kq,oV]
end
attribute [simp] C4 Xn QS QT Ox Oy lV lq QU J1 J2 QW Oz OA QX ml look_nil dq lZ AB OB
attribute [simp] cu bp.ev fZ jQ qK zV Mm fO jw o8 jo mz lk zW zX zY ia o9 tH sf mg dX fP jR eH CM nk mD mC kH gM gN jh gO pa jx jy iD eI mh wI JA dh uP
attribute [simp] finQ Xl QR JX ru u5 bO.pg kY cellsOf du jg qI gK bH te qJ qi gQ Ch qH nameOf zU dg D8 fk pW yr tP oV
theorem au{x:Int}(h: -9223372036854775808<=x/\x<=9223372036854775807):IntKind.i64.wrap x=x:=by
 simp[IntKind.wrap,IntKind.bits,IntKind.signed];omega
theorem oK{x:Int}(h:0<=x):x.tdiv 2=x/2:=Int.tdiv_eq_ediv_of_nonneg h
theorem AD{x:Int}(h:0<=x):x.tmod 2=x % 2:=Int.tmod_eq_emod_of_nonneg h
end Go.DM
namespace Go.DM
open Go.RowKit
variable [Laid]
def aX:List (Nat×Spec)->Env
 |[],_=>none
 |(g,s)::l,f=>if f=g then some s else aX l f
theorem aw.nil{P:Program}:aw P (aX []):=λ_ _ h=>by cases h
theorem aw.add{P:Program}{f:Nat}{s:Spec}{l:List (Nat×Spec)}(h:aw P (aX l))(k:Qu P f s):aw P (aX ((f,s)::l)):=by
 intro g s' hg;simp only[aX]at hg;split at hg
 ·rename_i e;cases hg;subst e;exact k
 ·exact h g s' hg
theorem aw.cons{P:Program}{f:Nat}{s:Spec}{l:List (Nat×Spec)}(h:aw P (aX l))
  (k:∀ts,s.pre ts->aU P f ts (s.fn ts)/\(s.scalar=true->gj (s.fn ts)=true)) (hs:s.st=none:=by rfl) (wq:s.fresh=none:=by rfl):aw P (aX ((f,s)::l)):=
 h.add ⟨k,λe sz hf=>(by rw[wq]at hf;cases hf),λk hk=>(by rw[hs]at hk;cases hk)⟩
def fa(k:List DV->aT->iC):Spec:=⟨λ_=>False,λ_=>.bool false,true,some k,none,false⟩
theorem aw.gU{P:Program}{f:Nat}{k:List DV->aT->iC}{l:List (Nat×Spec)}(h:aw P (aX l))
  (hk:∀args objs,(k args objs).ok->(∀N,(∀r,N<=r->objs r=none)->aZ P f args objs (k args objs))/\∀r,objs r=none->(k args objs).objs r=none):aw P (aX ((f,fa k)::l)):=
 h.add ⟨λ_ h=>h.elim,λ_ _ h=>(by cases h),λk' e=>by cases e;exact hk⟩
theorem lK.ok{P:Program}{f:FuncId}{ts:List T}{e sz:Nat}{rows:List (List T)}(h:lK P f ts e sz rows):aU P f ts (.sl rows):=
 ⟨h.entry,λW w vals hW hg hr=>(h.run W w vals hW hg hr).mono λe' w' ⟨v,h1,hb,hf⟩=>⟨v,h1,hb,by
  simp only[aS];rcases hf.it with⟨h2,a,h3⟩|⟨g,cap,cur,h2,hp,zl,hh,h3,h4,h5,h6⟩
  ·exact .inl ⟨h2,a,0,h3⟩
  ·refine .inr ⟨g,0,cap,sz,h2,(Zai.1 hh).1,λhw=>?_,h3,aY.ij (aO.aC (cd.refl (λb=>W b\/b=g) w').toKeepsC (λb _ hb=>.inl hb) _ _ h6) hf.len λj v hv=>?_⟩
   ·have:=hW g hw;omega
   ·rw[ZaY,cell_of_row w' g j cur e (0,0) hh];rw[ZaF]at hv;split at hv
    ·simpa using hv
    ·cases hv⟩⟩
def ve(pre:List T->Prop)(fn:List T->List (List T))(e sz:Nat):Spec:=⟨pre,λts=>.sl (fn ts),false,none,some (e,sz),false⟩
theorem aw.QY{P:Program}{f:Nat}{pre:List T->Prop}{fn:List T->List (List T)}{e sz:Nat}{l:List (Nat×Spec)}(h:aw P (aX l))(k:∀ts,pre ts->lK P f ts e sz (fn ts)):aw P (aX ((f,ve pre fn e sz)::l)):=
 h.add ⟨λts hp=>⟨(k ts hp).ok,λx=>by cases x⟩,λe' ga hf ts hp=>(by cases hf;exact⟨_,rfl,k ts hp,λx=>by cases x⟩),λk hk=>(by cases hk)⟩
def yw(pre:List T->Prop)(fn:List T->List (List T))(e sz:Nat):Spec:=⟨pre,λts=>.sl (fn ts),false,none,some (e,sz),true⟩
theorem aw.QZ{P:Program}{f:Nat}{pre:List T->Prop}{fn:List T->List (List T)}{e sz:Nat}{l:List (Nat×Spec)}(h:aw P (aX l))(k:∀ts,pre ts->lK P f ts e sz (fn ts)/\gj.gH (fn ts).flatten=true):aw P (aX ((f,yw pre fn e sz)::l)):=
 h.add ⟨λts hp=>⟨(k ts hp).1.ok,λx=>by cases x⟩,λe' ga hf ts hp=>(by cases hf;exact⟨_,rfl,(k ts hp).1,λ_=>(k ts hp).2⟩),λk hk=>(by cases hk)⟩
@[simp] theorem YW(pre:List T->Prop)(fn:List T->List (List T))(e sz:Nat):(yw pre fn e sz).fresh=some (e,sz):=rfl
@[simp] theorem specL_fn(pre:List T->Prop)(fn:List T->List (List T))(e sz:Nat)(ts:List T):(yw pre fn e sz).fn ts=.sl (fn ts):=rfl
@[simp] theorem specL_pre(pre:List T->Prop)(fn:List T->List (List T))(e sz:Nat):(yw pre fn e sz).pre=pre:=rfl
@[simp] theorem specL_lend(pre:List T->Prop)(fn:List T->List (List T))(e sz:Nat):(yw pre fn e sz).lend=true:=rfl
@[simp] theorem specF_lend(pre:List T->Prop)(fn:List T->List (List T))(e sz:Nat):(ve pre fn e sz).lend=false:=rfl
@[simp] theorem YX(pre:List T->Prop)(fn:List T->List (List T))(e sz:Nat):(ve pre fn e sz).fresh=some (e,sz):=rfl
@[simp] theorem specF_fn(pre:List T->Prop)(fn:List T->List (List T))(e sz:Nat)(ts:List T):(ve pre fn e sz).fn ts=.sl (fn ts):=rfl
@[simp] theorem specF_pre(pre:List T->Prop)(fn:List T->List (List T))(e sz:Nat):(ve pre fn e sz).pre=pre:=rfl
def cy(pre:List T->Prop)(fn:List T->T)(scalar:Bool):Spec:=⟨pre,fn,scalar,none,none,false⟩
@[simp] theorem specP_pre(pre:List T->Prop)(fn:List T->T)(scalar:Bool):(cy pre fn scalar).pre=pre:=rfl
@[simp] theorem specP_fn(pre:List T->Prop)(fn:List T->T)(scalar:Bool):(cy pre fn scalar).fn=fn:=rfl
@[simp] theorem Xq(pre:List T->Prop)(fn:List T->T)(scalar:Bool):(cy pre fn scalar).scalar=scalar:=rfl
@[simp] theorem specP_st(pre:List T->Prop)(fn:List T->T)(scalar:Bool):(cy pre fn scalar).st=none:=rfl
@[simp] theorem specF_st(pre:List T->Prop)(fn:List T->List (List T))(e sz:Nat):(ve pre fn e sz).st=none:=rfl
@[simp] theorem specS_st(k:List DV->aT->iC):(fa k).st=some k:=rfl
theorem J3(g f:Nat)(s:Spec)(l:List (Nat×Spec)):aX ((g,s)::l) f=if f=g then some s else aX l f:=rfl
theorem OD(f:Nat):aX [] f=none:=rfl
attribute [simp] J3 OD
theorem aU.calls{P:Program}{f:FuncId}{ts:List T}{t:T}(h:aU P f ts t){w:World}{vals:Array Value}(hg:zT w λ_=>False)(hr:dv w (λ_=>False) ts vals.toList):
  Calls P f vals w λe w'=>∃v,e=.returned v/\tG w.heap.size w w'/\aS w' (λ_=>False) t v:=
 h.run (λ_=>False) w vals (λ_ h=>h.elim) hg hr
@[simp] theorem wrap_lit(n:Nat)(h:n<9223372036854775808):IntKind.i64.wrap (no_index (@OfNat.ofNat Int n instOfNat))= @OfNat.ofNat Int n instOfNat:=by
 have e:(@OfNat.ofNat Int n instOfNat)=(n:Int):=rfl;rw[e,au (by omega)]
@[simp] theorem wrap_neg(n:Nat)(h:n<9223372036854775808):IntKind.i64.wrap (-(no_index (@OfNat.ofNat Int n instOfNat)))= -(@OfNat.ofNat Int n instOfNat):=by
 have e:(@OfNat.ofNat Int n instOfNat)=(n:Int):=rfl;rw[e,au (by omega)]
end Go.DM
namespace Go.DM
open Go.RowKit
variable [Laid]
def gone(aA:aT)(σ:Nat->Nat)(r:Nat):Prop:=∀r',aA r'≠none->σ r'≠r
def Q1(objs aA:aT)(σ:Nat->Nat)(r off:Nat):DV->Prop
 |.ptr r' GG=>r=σ r'/\off=GG/\∃cs,aA r'=some (.box cs)
 |.gD cs GG=>off=GG/\objs r=some (.box (cs.map .v))/\gone aA σ r
 |.v (.box cs)=>off=0/\objs r=some (.box (cs.map .v))/\gone aA σ r
 |_=>False
def MJ(objs aA:aT)(σ:Nat->Nat)(r ver:Nat):DV->Prop
 |.bk r' ver'=>r=σ r'/\∃e sz rows e' ga di,objs r=some (.arr ver e sz rows)/\aA r'=some (.arr ver' e' ga di)
 |.v (.sl rows)=>(∃e sz,objs r=some (.arr ver e sz rows))/\gone aA σ r
 |_=>False
def MK(objs aA:aT)(σ:Nat->Nat)(r ver:Nat)(i:Int)(off:Nat):DV->Prop
 |.jf r' ver' i' GG=>r=σ r'/\i=i'/\off=GG/\∃e sz rows e' ga di,objs r=some (.arr ver e sz rows)/\aA r'=some (.arr ver' e' ga di)/\sz=ga/\rows.length=di.length
 |_=>False
def isMap:Option Ob->Prop
 |some (.map _ _ _ _)=>True
 |_=>False
def AG:Option Ob->Prop
 |some (.iter _ _ _ _)=>True
 |_=>False
def nQ(aA:aT)(σ:Nat->Nat)(r:Nat):DV->Prop
 |.iA r'=>r=σ r'/\isMap (aA r')
 |_=>False
def Q2(aA:aT)(σ:Nat->Nat)(r:Nat):DV->Prop
 |.iter r'=>r=σ r'/\AG (aA r')
 |_=>False
def corAsl(objs aA:aT)(σ:Nat->Nat)(r ver lo n:Nat):DV->Prop
 |.sU r' ver' lo' n'=>r=σ r'/\lo=lo'/\n=n'/\∃e sz rows e' ga di,objs r=some (.arr ver e sz rows)/\aA r'=some (.arr ver' e' ga di)/\sz=ga/\rows.length=di.length
 |.v (.sl di)=>(∃e sz rows,objs r=some (.arr ver e sz rows)/\di=(rows.drop lo).take n)/\gone aA σ r
 |_=>False
def Q3(objs aA:aT)(σ:Nat->Nat)(r n:Nat):DV->Prop
 |.D7 r' n'=>r=σ r'/\n=n'/\∃cs,aA r'=some (.box cs)
 |.v (.sl rows)=>rows.length=n/\(∃sz,∀x∈rows,x.length=sz)/\objs r=some (.box (rows.flatten.map .v))/\gone aA σ r
 |_=>False
theorem AH{o:Option Ob}(h:isMap o):∃shs agg c es,o=some (.map shs agg c es):=by
 unfold isMap at h;split at h
 ·exact⟨_,_,_,_,rfl⟩
 ·exact h.elim
theorem OG{o:Option Ob}(h:AG o):∃m s sn l,o=some (.iter m s sn l):=by
 unfold AG at h;split at h
 ·exact⟨_,_,_,_,rfl⟩
 ·exact h.elim
def EA:DV->Option (List DV)
 |.agg ds=>some ds
 |.v (.agg ts)=>some (ts.map .v)
 |_=>none
mutual
def jj(objs aA:aT)(σ:Nat->Nat):DV->DV->Prop
 |.aH,d'=>d'=.undef\/d'=.aH\/d'=.v (.sl [])
 |.ptr r off,d'=>d'=.undef\/Q1 objs aA σ r off d'
 |.bk r ver,d'=>d'=.undef\/MJ objs aA σ r ver d'
 |.jf r ver i off,d'=>d'=.undef\/MK objs aA σ r ver i off d'
 |.agg ds,d'=>d'=.undef\/match EA d' with|some nK=>jC objs aA σ ds nK|none=>False
 |.undef,d'=>d'=.undef
 |.skip,d'=>d'=.undef\/d'=.skip
 |.v t,d'=>d'=.undef\/d'=.v t
 |.kG rows i off,d'=>d'=.undef\/d'=.kG rows i off
 |.gD cs off,d'=>d'=.undef\/d'=.gD cs off
 |.CL,d'=>d'=.undef\/d'=.CL
 |.iA r,d'=>d'=.undef\/nQ aA σ r d'
 |.iter r,d'=>d'=.undef\/Q2 aA σ r d'
 |.sU r ver lo n,d'=>d'=.undef\/corAsl objs aA σ r ver lo n d'
 |.D7 r n,d'=>d'=.undef\/Q3 objs aA σ r n d'
 |.eG ds,d'=>d'=.undef\/match d' with|.eG nK=>jC objs aA σ ds nK|_=>False
 |.my f ds,d'=>d'=.undef\/match d' with|.my f' nK=>f=f'/\jC objs aA σ ds nK|.v (.fn f' ts)=>f=f'/\jC objs aA σ ds (ts.map .v)|_=>False
def jC(objs aA:aT)(σ:Nat->Nat):List DV->List DV->Prop
 |[],nK=>nK=[]
 |d::ds,nK=>match nK with
  |[]=>False
  |d'::nK=>jj objs aA σ d d'/\jC objs aA σ ds nK
end
def iR(objs aA:aT)(σ:Nat->Nat):List (Nat×T×DV)->List (Nat×T×DV)->Prop
 |[],es'=>es'=[]
 |e::es,es'=>match es' with
  |[]=>False
  |e'::es'=>e.1=e'.1/\e.2.1=e'.2.1/\jj objs aA σ e.2.2 e'.2.2/\iR objs aA σ es es'
theorem mR{objs aA:aT}{σ:Nat->Nat}:∀{es:List (Nat×T×DV)},(∀e∈es,jj objs aA σ e.2.2 e.2.2)->iR objs aA σ es es
 |[],_=>by simp[iR]
 |e::es,h=>by simp only[iR];exact⟨trivial,trivial,h e (by simp),mR λe he=>h e (by simp[he])⟩
def lS(objs aA:aT)(σ:Nat->Nat):Ob->Ob->Prop
 |.box cs,.box qL=>jC objs aA σ cs qL
 |.arr _ e sz rows,.arr _ e' ga di=>e=e'/\sz=ga/\rows=di
 |.map shs agg c es,.map shs' agg' c' es'=>shs=shs'/\agg=agg'/\c=c'/\iR objs aA σ es es'
 |.iter m s sn l,.iter m' s' sn' l'=>m=σ m'/\s=s'/\sn=sn'/\l=l'/\isMap (aA m')
 |_,_=>False
def gV:Ob->Ob->Prop
 |.box _,.box _=>True
 |.arr v _ sz rows,.arr v' _ ga di=>v=v'/\sz=ga/\rows.length=di.length
 |.map _ _ _ _,.map _ _ _ _=>True
 |.iter _ _ _ _,.iter _ _ _ _=>True
 |_,_=>False
theorem vh{o o':Ob}(h:gV o o'):o'.kind=o.kind:=by cases o<;>cases o'<;>first|rfl|exact h.elim
def Loc.Ck(L:Loc)(σ:Nat->Nat):Loc:=⟨λr=>L.gY (σ r),λr=>L.sl (σ r),L.yl⟩
section
variable{base:Nat}{W M:Nat->Prop}{w0 w:World}{objs aA:aT}{L:Loc}{σ:Nat->Nat}
theorem sv{o o':Ob}(h:lS objs aA σ o o')(r:Nat):(L.Ck σ).own r o'=L.own (σ r) o:=by
 cases o<;>cases o'<;>first|rfl|exact h.elim
theorem jY(fG:∀r' o',aA r'=some o'->∃o,objs (σ r')=some o/\∀r,(L.Ck σ).own r o'=L.own (σ r) o)(b:Nat)(h:WW W aA (L.Ck σ) b):WW W objs L b:=by
 rcases h with h|⟨r',o',h1,h2⟩
 ·exact .inl h
 ·obtain⟨o,h3,h4⟩:=fG r' o' h1;exact .inr ⟨σ r',o,h3,by rw[<-h4];exact h2⟩
theorem AI(hO:bK base W M w0 objs w L)(fG:∀r' o',aA r'=some o'->∃o,objs (σ r')=some o/\∀r,(L.Ck σ).own r o'=L.own (σ r) o){r b:Nat}{o:Ob}(hr:objs r=some o)(hb:L.own r o=some b)(hg:gone aA σ r):¬WW W aA (L.Ck σ) b:=by
 rintro(h|⟨r',o',h1,h2⟩)
 ·exact hO.outer r o b hr hb h
 ·obtain⟨o2,h3,h4⟩:=fG r' o' h1;rw[h4]at h2;exact hO.apart r (σ r') o o2 b (λe=>hg r' (by rw[h1];exact λe=>by cases e) e.symm) hr h3 hb h2
theorem tS(hO:bK base W M w0 objs w L)(fG:∀r' o',aA r'=some o'->∃o,objs (σ r')=some o/\∀r,(L.Ck σ).own r o'=L.own (σ r) o){r:Nat}{cs:List T}(hr:objs r=some (.box (cs.map .v)))(hg:gone aA σ r):
  L.gY r<w.heap.size/\¬WW W aA (L.Ck σ) (L.gY r)/\cV w (WW W aA (L.Ck σ)) (L.gY r) 0 cs:=by
 have hb:=hO.ob r _ hr;obtain⟨c,e,hc,eJ,_⟩:=hb;refine⟨(Zai.1 hc).1,AI hO fG hr rfl hg,cV.zS cs 0 λj t hj=>?_⟩;have hd:(cs.map DV.v)[j]? =some (.v t):=by simp[hj]
 obtain⟨v,hv,h1,h2⟩:=aJ.get eJ hd;simp only[av]at h2;refine⟨v, ?_,h1,aS.aC (cd.refl (WW W objs L) w).toKeepsC (λb _ hb=>jY fG b hb) t v h2⟩;simp only[World.cell?,hc,ZaY];simpa using hv
theorem J5(hO:bK base W M w0 objs w L)(fG:∀r' o',aA r'=some o'->∃o,objs (σ r')=some o/\∀r,(L.Ck σ).own r o'=L.own (σ r) o){r ver e sz:Nat}{rows:List (List T)}(hr:objs r=some (.arr ver e sz rows))(hg:gone aA σ r):
  aS w (WW W aA (L.Ck σ)) (.sl rows) (L.sl r):=by
 have ql:=hO.ob r _ hr;obtain⟨gE,cS,hm,ko⟩:=ql;simp only[aS];rcases ko with⟨rfl,p,hp⟩|⟨g',cap,cur,pY,hp,hh,hle,pd,Ec,eJ⟩
 ·exact .inl ⟨rfl,p,0,hp⟩
 ·have uD:aN (L.sl r)=some g':=by simp[pY,aN,Zay.1 hp]
  refine .inr ⟨g',0,cap,sz,pY,(Zai.1 hh).1,AI hO fG hr (by simpa [Loc.own]using uD) hg,hle, ?_⟩;have tK:=ng.rows (hO.ob r _ hr) (g:=g') uD;obtain⟨vs,wu,zo,Qe⟩:=aY.flatten tK;exact aY.ij (aO.aC (cd.refl (WW W objs L) w).toKeepsC (λb _ hb=>jY fG b hb) _ _ zo) cS Qe
theorem AJ{ts:List T}:∀{vs:List Value},aJ w W objs L (ts.map .v) vs->aO w (WW W objs L) ts vs:=by
 induction ts with
 |nil=>intro vs h;simpa [aJ,aO]using h
 |cons t ts ih=>
  intro vs h;simp only[Zau,aJ]at h;obtain⟨v,hY,rfl,h1,h2,h3⟩:=h;simp only[av]at h2;simp only[aO];exact⟨v,hY,rfl,h1,h2,ih h3⟩
theorem zt(hO:bK base W M w0 objs w L)(fG:∀r' o',aA r'=some o'->∃o,objs (σ r')=some o/\∀r,(L.Ck σ).own r o'=L.own (σ r) o):
  ∀n,(∀(d d':DV) (x:Value),SizeOf.sizeOf d<n->jj objs aA σ d d'->av w W objs L d x->av w W aA (L.Ck σ) d' x)/\
   (∀(ds nK:List DV) (xs:List Value),SizeOf.sizeOf ds<n->jC objs aA σ ds nK->aJ w W objs L ds xs->aJ w W aA (L.Ck σ) nK xs)/\
   (∀(ds nK:List DV) (xs:List Value),SizeOf.sizeOf ds<n->jC objs aA σ ds nK->eZ w W objs L ds xs->eZ w W aA (L.Ck σ) nK xs):=by
 have kr:∀(t:T) (x:Value),aS w (WW W objs L) t x->aS w (WW W aA (L.Ck σ)) t x:=λt x h=>aS.aC (cd.refl (WW W objs L) w).toKeepsC (λb _ hb=>jY fG b hb) t x h;intro n;induction n with
 |zero=>exact⟨λ_ _ _ h=>by omega,λ_ _ _ h=>by omega,λ_ _ _ h=>by omega⟩
 |succ n ih=>
  refine⟨λd d' x hn hc hr=>?_,λds nK xs hn hc hr=>?_,λds nK xs hn hc hr=>?_⟩
  ·by_cases hu:d'=.undef
   ·subst hu;simp[av]
   cases d with
   |undef=>simp only[jj]at hc;exact absurd hc hu
   |skip=>simp only[jj,hu,false_or]at hc;subst hc;simpa only[av]using hr
   |CL=>simp only[jj,hu,false_or]at hc;subst hc;simp only[av,Loc.Ck]at hr⊢;exact hr
   |v t=>simp only[jj,hu,false_or]at hc;subst hc;simp only[av]at hr⊢;exact kr t x hr
   |kG rows i off=>
    simp only[jj,hu,false_or]at hc;subst hc;simp only[av]at hr⊢;obtain⟨b,o,sz,hx,hb,Ow,tK,h1,h2⟩:=hr;exact⟨b,o,sz,hx,hb,λk=>Ow (jY fG b k),aY.aC (cd.refl (WW W objs L) w).toKeepsC (λb _ hb=>jY fG b hb) hb Ow sz o rows tK,h1,h2⟩
   |gD cs off=>
    simp only[jj,hu,false_or]at hc;subst hc;simp only[av]at hr⊢;obtain⟨b,o,hx,hb,Ow,tK⟩:=hr;exact⟨b,o,hx,hb,λk=>Ow (jY fG b k),cV.aC (cd.refl (WW W objs L) w).toKeepsC (λb _ hb=>jY fG b hb) hb Ow o cs tK⟩
   |iA r=>
    simp only[jj,hu,false_or]at hc;simp only[av]at hr;cases d' with
    |iA r'=>
     obtain⟨rfl,hm⟩:=hc;simp only[av];exact⟨AH hm,hr.2⟩
    |_=>exact hc.elim
   |iter r=>
    simp only[jj,hu,false_or]at hc;simp only[av]at hr;cases d' with
    |iter r'=>
     obtain⟨rfl,hm⟩:=hc;simp only[av];exact⟨OG hm,hr.2⟩
    |_=>exact hc.elim
   |eG ds=>
    simp only[jj,hu,false_or]at hc;simp only[av]at hr;obtain⟨vs,rfl,hr⟩:=hr;cases d' with
    |eG nK=>
     simp only[av];exact⟨vs,rfl,ih.2.2 ds nK _ (by simp at hn⊢;omega) hc hr⟩
    |_=>exact hc.elim
   |my f ds=>
    simp only[jj,hu,false_or]at hc;simp only[av]at hr;obtain⟨vs,rfl,hr⟩:=hr;cases d' with
    |my f' nK=>
     obtain⟨rfl,hc⟩:=hc;simp only[av];exact⟨vs,rfl,ih.2.1 ds nK _ (by simp at hn⊢;omega) hc hr⟩
    |v t=>
     cases t with
     |fn f' ts=>
      obtain⟨rfl,hc⟩:=hc;simp only[av,aS];exact⟨vs,rfl,AJ (ih.2.1 ds _ _ (by simp at hn⊢;omega) hc hr)⟩
     |_=>exact hc.elim
    |_=>exact hc.elim
   |D7 r m=>
    simp only[jj,hu,false_or]at hc;simp only[av]at hr;obtain⟨⟨cs0,hcs0⟩,rfl⟩:=hr;cases d' with
    |D7 r' m'=>
     obtain⟨rfl,rfl,cs,mE⟩:=hc;simp only[av];exact⟨⟨cs,mE⟩,rfl⟩
    |v t=>
     cases t with
     |sl rows=>
      obtain⟨rfl,⟨sz,gE⟩,ql,hg⟩:=hc;obtain⟨h1,h2,h3⟩:=tS hO fG ql hg;simp only[av,aS];refine .inr ⟨L.gY r,0,rows.length,sz,rfl,h1,h2,Zae _, ?_⟩;obtain⟨vs,zm,jl⟩:=cV.vals h3;exact aY.ij zm gE jl
     |_=>exact hc.elim
    |_=>exact hc.elim
   |sU r ver lo m=>
    simp only[jj,hu,false_or]at hc;simp only[av]at hr;obtain⟨Gi,nJ,e2,CO,jS,dL,Gj,hx⟩:=hr;cases d' with
    |sU r' ver' lo' m'=>
     obtain⟨rfl,rfl,rfl,e,sz,rows,e',ga,di,h1,h2,h3,h4⟩:=hc;rw[dL]at h1;simp only[Zaa,Ob.arr.injEq]at h1;obtain⟨rfl,rfl,rfl,rfl⟩:=h1;simp only[av];refine⟨Gi,ver',e',ga,di,h2,Zae _,λ_=>?_⟩;obtain⟨k0,p,cap,p2,k1,k2,k3⟩:=hx rfl;exact⟨by rw[<-h4];exact k0,p,cap,p2,by rw[<-h4];exact k1,k2,by rw[<-h3];exact k3⟩
    |v t=>
     cases t with
     |sl di=>
      obtain⟨⟨e,sz,rows,h1,rfl⟩,hg⟩:=hc;rw[dL]at h1;simp only[Zaa,Ob.arr.injEq]at h1;obtain⟨rfl,rfl,rfl,rfl⟩:=h1;have hx:=hx rfl;simp only[av,aS];have D4:((jS.drop lo).take m).length=m:=by rw[Zaw,Za9];omega
      rcases qQ hO dL hx with⟨rfl,a,c,rfl⟩|⟨g,c,uD,rfl,Ql,tK⟩
      ·exact .inl ⟨by simp,a,c,rfl⟩
      ·refine .inr ⟨g,lo*CO,c,CO,by rw[D4],(hO.ob r _ dL).lt (by simpa [Loc.own]using uD),AI hO fG dL (by simpa [Loc.own]using uD) hg,by omega, ?_⟩;obtain⟨vs,wu,zo,Qe⟩:=aY.flatten tK;exact aY.ij (aO.aC (cd.refl (WW W objs L) w).toKeepsC (λb _ hb=>jY fG b hb) _ _ zo) (λx hx=>(hO.ob r _ dL).2.1 x (Zbv (Zav hx))) Qe
     |_=>exact hc.elim
    |_=>exact hc.elim
   |aH=>
    simp only[jj,hu,false_or]at hc;rcases hc with rfl|rfl
    ·simpa only[av]using hr
    ·simp only[av]at hr;obtain⟨a,rfl⟩:=hr;simp only[av,aS];exact .inl ⟨trivial,a,0,rfl⟩
   |ptr r off=>
    simp only[jj,hu,false_or]at hc;simp only[av]at hr;obtain⟨⟨cs0,hcs0⟩,rfl⟩:=hr;cases d' with
    |ptr r' GG=>
     obtain⟨rfl,rfl,cs,mE⟩:=hc;simp only[av];exact⟨⟨cs,mE⟩,rfl⟩
    |gD cs GG=>
     obtain⟨rfl,ql,hg⟩:=hc;obtain⟨h1,h2,h3⟩:=tS hO fG ql hg;simp only[av];exact⟨L.gY r,0,by simp,h1,h2,h3⟩
    |v t=>
     cases t with
     |box cs=>
      obtain⟨rfl,ql,hg⟩:=hc;obtain⟨h1,h2,h3⟩:=tS hO fG ql hg;simp only[av,aS];exact⟨L.gY r,0,rfl,h1,h2,h3⟩
     |_=>exact hc.elim
    |_=>exact hc.elim
   |bk r ver=>
    simp only[jj,hu,false_or]at hc;simp only[av]at hr;obtain⟨Gi,nJ,e2,CO,jS,dL,Gj,hx⟩:=hr;cases d' with
    |bk r' ver'=>
     obtain⟨rfl,e,sz,rows,e',ga,di,h1,h2⟩:=hc;rw[dL]at h1;simp only[Zaa,Ob.arr.injEq]at h1;obtain⟨rfl,_⟩:=h1;simp only[av];exact⟨Gi,ver',e',ga,di,h2,Zae _,λ_=>hx rfl⟩
    |v t=>
     cases t with
     |sl rows=>
      obtain⟨⟨e,sz,h1⟩,hg⟩:=hc;rw[dL]at h1;simp only[Zaa,Ob.arr.injEq]at h1;obtain⟨rfl,rfl,rfl,rfl⟩:=h1;have hx:=hx rfl;subst hx;simp only[av];exact J5 hO fG dL hg
     |_=>exact hc.elim
    |_=>exact hc.elim
   |jf r ver i off=>
    simp only[jj,hu,false_or]at hc;simp only[av]at hr;obtain⟨Gi,nJ,e2,CO,jS,dL,Gj,hx⟩:=hr;cases d' with
    |jf r' ver' i' GG=>
     obtain⟨rfl,rfl,rfl,e,sz,rows,e',ga,di,h1,h2,h3,h4⟩:=hc;rw[dL]at h1;simp only[Zaa,Ob.arr.injEq]at h1;obtain⟨rfl,rfl,rfl,rfl⟩:=h1;simp only[av];refine⟨Gi,ver',e',ga,di,h2,Zae _,λ_=>?_⟩;obtain⟨g,k1,k2,k3,k4⟩:=hx rfl;exact⟨g,k1,by rw[<-h3];exact k2,k3,by rw[<-h4];exact k4⟩
    |_=>exact hc.elim
   |agg ds=>
    simp only[jj,hu,false_or]at hc;simp only[av]at hr;obtain⟨vs,rfl,hr⟩:=hr;cases d' with
    |agg nK=>
     simp only[EA]at hc;simp only[av];exact⟨vs,rfl,ih.2.1 ds nK _ (by simp at hn⊢;omega) hc hr⟩
    |v t=>
     cases t with
     |agg ts=>
      simp only[EA]at hc;simp only[av,aS];exact⟨vs,rfl,AJ (ih.2.1 ds _ _ (by simp at hn⊢;omega) hc hr)⟩
     |_=>exact hc.elim
    |_=>exact hc.elim
  ·cases ds with
   |nil=>simp only[jC]at hc;subst hc;simpa only[aJ]using hr
   |cons d ds=>
    cases nK with
    |nil=>simp[jC]at hc
    |cons d' nK=>
     simp only[jC]at hc;simp only[aJ]at hr⊢;obtain⟨y,ys,hv,h1,h2,h3⟩:=hr;exact⟨y,ys,hv,h1,ih.1 d d' y (by simp at hn⊢;omega) hc.1 h2,ih.2.1 ds nK ys (by simp at hn⊢;omega) hc.2 h3⟩
  ·cases ds with
   |nil=>simp only[jC]at hc;subst hc;simpa only[eZ]using hr
   |cons d ds=>
    cases nK with
    |nil=>simp[jC]at hc
    |cons d' nK=>
     simp only[jC]at hc;simp only[eZ]at hr⊢;obtain⟨y,ys,hv,h2,h3⟩:=hr;exact⟨y,ys,hv,ih.1 d d' y (by simp at hn⊢;omega) hc.1 h2,ih.2.2 ds nK ys (by simp at hn⊢;omega) hc.2 h3⟩
theorem Le.cor{st df:kX}(σ:Nat->Nat)(Cq:df.low=st.low)(Q4:df.todo=st.todo)(AK:∀r,df.nxt<=r->df.objs r=none)
  (fG:∀r' o',df.objs r'=some o'->∃o,st.objs (σ r')=some o/\lS st.objs df.objs σ o o')
  (hinj:∀r1 r2,df.objs r1≠none->df.objs r2≠none->σ r1=σ r2->r1=r2)
  (GH:∀r,r<st.low->∀o,st.objs r=some o->σ r=r/\∃o',df.objs r=some o'/\gV o o')
  (ja:∀k,jj st.objs df.objs σ (st.tmps k) (df.tmps k)):Le st df:=by
 intro κ nt a w L h;refine⟨L.Ck σ,⟨?_, ?_,h.r.defers,h.r.bg,⟨_,AK⟩⟩,AK,by rw[Cq];exact h.low,by rw[Cq];exact h.it⟩
 ·obtain⟨W,base,M,w0,dH,h0⟩:=h.r.ex;have hO:=h0.o;have ql:∀r' o',df.objs r'=some o'->∃o,st.objs (σ r')=some o/\∀r,(L.Ck σ).own r o'=L.own (σ r) o:=λr' o' h=>let⟨o,h1,h2⟩:=fG r' o' h;⟨o,h1,sv h2⟩
  have cr:=λ(d d':DV) (x:Value)=>(zt hO ql (SizeOf.sizeOf d+1)).1 d d' x (by omega);have crs:=λ(ds nK:List DV) (xs:List Value)=>(zt hO ql (SizeOf.sizeOf ds+1)).2.1 ds nK xs (by omega);refine⟨W,base,M,w0,by rw[Q4];exact dH,h0.size,λt=>cr _ _ _ (ja t) (h0.tmps t),⟨hO.fr,λr' o' gf=>?_,λr1 r2 o1 o2 b bG h1 h2 GI kz=>?_,λr' o' b gf hb=>?_,hO.under,hO.gl.aC (cd.refl (WW W st.objs L) w).toKeepsC λb _ hb=>jY ql b hb⟩⟩
  ·obtain⟨o,ho,hc⟩:=fG r' o' gf;have hk:=hO.ob (σ r') o ho;cases o with
   |box cs=>
    cases o' with
    |box qL=>
     obtain⟨c,e,bM,hr,hm⟩:=hk;exact⟨c,e,bM,crs cs qL _ hc hr,hm⟩
    |_=>exact hc.elim
   |map shs agg c es=>
    cases o' with
    |map shs' agg' c' es'=>
     obtain⟨rfl,rfl,rfl,oW⟩:=hc;obtain⟨arr,bM,hr,k1,k2,k3,hm⟩:=hk;have key:∀(es es':List (Nat×T×DV)) (xs:List MapEntry),iR st.objs df.objs σ es es'->bj w W st.objs L es xs->bj w W df.objs (L.Ck σ) es' xs/\es'.map (·.1)=es.map (·.1)/\es'.map (·.2.1)=es.map (·.2.1):=by
      intro es;induction es with
      |nil=>intro es' xs h1 h2;simp only[iR]at h1;subst h1;exact⟨by simpa only[bj]using h2,rfl,rfl⟩
      |cons e es ih=>
       intro es' xs h1 h2;cases es' with
       |nil=>simp[iR]at h1
       |cons e' es'=>
        simp only[iR]at h1;simp only[bj]at h2⊢;obtain⟨x,jM,rfl,q0,q1,q2,q3⟩:=h2;obtain⟨i1,i2,i3⟩:=ih es' jM h1.2.2.2 q3;refine⟨⟨x,jM,rfl,q0.trans h1.1, ?_,cr _ _ _ h1.2.2.1 q2,i1⟩,by simp[i2,h1.1],by simp[i3,h1.2.1]⟩;rw[<-h1.2.1];exact aS.aC (cd.refl (WW W st.objs L) w).toKeepsC (λb _ hb=>jY ql b hb) _ _ q1
     obtain⟨i1,i2,i3⟩:=key es es' _ oW hr;refine⟨arr,bM,i1,λe he=>?_,λe he=>?_,by rw[i2];exact k3,hm⟩
     ·have:e.2.1∈es.map (·.2.1):=by rw[<-i3];exact Zal.2 ⟨e,he,rfl⟩
      obtain⟨e0,h0',Mr⟩:=Zal.1 this;rw[<-Mr];exact k1 e0 h0'
     ·have:e.1∈es.map (·.1):=by rw[<-i2];exact Zal.2 ⟨e,he,rfl⟩
      obtain⟨e0,h0',Mr⟩:=Zal.1 this;rw[<-Mr];exact k2 e0 h0'
    |_=>exact hc.elim
   |iter m s sn l=>
    cases o' with
    |iter m' s' sn' l'=>
     obtain⟨rfl,rfl,rfl,rfl,Jm⟩:=hc;obtain⟨bM,_,hm⟩:=hk;exact⟨bM,AH Jm,hm⟩
    |_=>exact hc.elim
   |arr ver e sz rows=>
    cases o' with
    |box _=>exact hc.elim
    |map _ _ _ _=>exact hc.elim
    |iter _ _ _ _=>exact hc.elim
    |arr ver' e' ga di=>
     obtain⟨rfl,rfl,rfl⟩:=hc;obtain⟨g1,g2,g3,g4⟩:=hk;refine⟨g1,g2,g3, ?_⟩;rcases g4 with g4|⟨g,cap,cur,hv,hp,hh,k1,k2,k3,k4⟩
     ·exact .inl g4
     ·exact .inr ⟨g,cap,cur,hv,hp,hh,k1,k2,k3,aO.aC (cd.refl (WW W st.objs L) w).toKeepsC (λb _ hb=>jY ql b hb) _ _ k4⟩
  ·obtain⟨p1,q1,c1⟩:=fG r1 o1 h1;obtain⟨p2,q2,c2⟩:=fG r2 o2 h2;rw[sv c1]at GI;rw[sv c2]at kz;exact hO.apart (σ r1) (σ r2) p1 p2 b (λe=>bG (hinj r1 r2 (λe=>by rw[show df.objs r1=some o1 from h1]at e;cases e) (λe=>by rw[show df.objs r2=some o2 from h2]at e;cases e) e)) q1 q2 GI kz
  ·obtain⟨p1,q1,c1⟩:=fG r' o' gf;rw[sv c1]at hb;exact hO.outer (σ r') p1 b q1 hb
 ·have ha:=h.r.dZ;refine⟨ha.keeps,λb hb hw=>ha.sub b hb (jY (λr' o' h=>let⟨o,h1,h2⟩:=fG r' o' h;⟨o,h1,sv h2⟩) b hw),λr o hr hk=>?_,λr ver e sz rows hr=>?_,ha.yl⟩
  ·have cW:r<st.low:=ZbW λhle=>by rw[h.low r hle]at hr;cases hr
   obtain⟨e1,o1,lQ,qk⟩:=ha.fix r o hr hk;obtain⟨hs,o',gf,hv⟩:=GH r cW _ lQ;exact⟨by simp only[Loc.Ck,hs];exact e1,o',gf,(vh hv).trans qk⟩
  ·have cW:r<st.low:=ZbW λhle=>by rw[h.low r hle]at hr;cases hr
   obtain⟨v1,e1,s1,r1,lQ,l1,k1⟩:=ha.arr r ver e sz rows hr;obtain⟨hs,o',gf,hv⟩:=GH r cW _ lQ;cases o' with
   |box qL=>exact hv.elim
   |map _ _ _ _=>exact hv.elim
   |iter _ _ _ _=>exact hv.elim
   |arr v2 e2 s2 r2=>
    obtain⟨rfl,rfl,h3⟩:=hv;exact⟨v1,e2,s1,r2,gf,l1,λhv=>by
     obtain⟨a1,a2,a3⟩:=k1 hv;exact⟨by simp only[Loc.Ck,hs];exact a1,a2,by rw[<-h3];exact a3⟩⟩
end
end Go.DM
namespace Go.DM
open Go.RowKit
variable [Laid]
structure ItOk(P:Program)(f:FuncId)(caps:List T)(EB:List (List T)):Prop where
 entry:Entry P f
 run:∀(l:Nat) (J:(Nat->Prop)->List (List T)->World->Prop) (W:Nat->Prop) (A:World) (vs:Array Value),Yields P l J->J W EB A->aO A W caps vs.toList->(∀b,W b->b<A.heap.size)->zT A W->
  Calls P f (#[.func (.yield l) #[] #[]]++vs) A λe B=>(∃v,e=.returned v)/\∃W',J W' [] B
def AN(f:Nat->DV):List Nat->List T->Nat->DV
 |p::ps,x::xs=>AN (b7 f (some p) (.v x)) ps xs
 |_,_=>f
section
variable{P:Program}{nt:Nat}
theorem C7{A:World}{W:Nat->Prop}{objs:aT}{L:Loc}:∀(ps:List Nat) (x:List T) (vals:List Value) (f:Nat->DV) (tm:Array Value),(∀p∈ps,p<nt)->tm.size=nt->x.length=ps.length->dv A (WW W objs L) x vals->
  (∀t,av A W objs L (f t) (tm.getD t Go.undef))->
  ((ps.zip vals).foldl (λt (pv:Nat×Value)=>t.setIfInBounds pv.1 pv.2) tm).size=nt/\∀t,av A W objs L (AN f ps x t) (((ps.zip vals).foldl (λt (pv:Nat×Value)=>t.setIfInBounds pv.1 pv.2) tm).getD t Go.undef)
 |[],x,vals,f,tm,_,hs,hl,hr,hf=>by
  have:x=[]:=ZaD (by simpa using hl);subst this;exact⟨by simpa using hs,by simpa [AN]using hf⟩
 |p::ps,[],vals,f,tm,_,_,hl,_,_=>by simp at hl
 |p::ps,y::x,vals,f,tm,hp,hs,hl,hr,hf=>by
  simp only[dv]at hr;obtain⟨v,hY,rfl,h1,h2⟩:=hr;simp only[List.zip_cons_cons,ZaB,AN];refine C7 ps x hY _ _ (λq hq=>hp q (ZaW _ hq)) (by simpa using hs) (by simpa using hl) h2 λt=>?_;rw[Aj _ _ _ _ (by rw[hs];exact hp p (Za5 ..))];simp only[b7];by_cases ht:t=p
  ·simp only[ht,if_true,av];exact h1
  ·simp only[ht,if_false];exact hf t
theorem J8(qs:Array Nat)(vals:Array Value)(tm:Array Value):(qs.zip vals).foldl (λt (p,v)=>t.setIfInBounds p v) tm=(qs.toList.zip vals.toList).foldl (λt (pv:Nat×Value)=>t.setIfInBounds pv.1 pv.2) tm:=by
 rw[<-Array.foldl_toList,Array.toList_zip]
theorem OI{ro:Option Nat}{w:World}{fn:FuncId}{tm:Array Value}{ps:Array Nat}{y z:Code}(jV:∀l,ro=some l->∃r,w.heap[l]? =some (.loop r)):
  ∃(l:Nat) (Ds:List Nat) (W1:World) (rec:Loop),(Instr.enterLoop fn tm ps y z ro).run P w=.ok (l,Ds.map mark) W1/\tG w.heap.size w W1/\w.heap.size<=l/\W1.heap[l]? =some (.loop rec)/\
   rec.state=.ready/\rec.pending=none/\rec.fn=fn/\rec.tmps=tm/\rec.params=ps/\rec.assign=y/\rec.body=z/\Ds.Nodup/\(∀D∈Ds,W1.heap[D]? =some (.deferred (some []))/\w.heap.size<=D):=by
 cases ro with
 |none=>
  refine⟨_,[w.heap.size],_,{state:=.ready,pending:=none,fn,tmps:=tm,params:=ps,assign:=y,body:=z,defers:=w.heap.size},run_enterLoop_outer _ _ _ _ _, ?_,by simp, ?_,rfl,rfl,rfl,rfl,rfl,rfl,rfl,by simp, ?_⟩
  ·exact⟨((Below.refl _ w).alloc (Zae _) _).alloc (by simp) _,Zae _⟩
  ·have:=World.alloc_heap_new (w.alloc (.deferred (some []))) (.loop {state:=.ready,pending:=none,fn,tmps:=tm,params:=ps,assign:=y,body:=z,defers:=w.heap.size})
   rwa [World.size_alloc]at this
  ·intro D hD;simp only[Zah]at hD;subst hD;exact⟨(Below.heap_alloc _ _ _ (by simp)).trans (World.alloc_heap_new w _),Zae _⟩
 |some l0=>
  obtain⟨r0,hr0⟩:=jV l0 rfl;refine⟨_,[],_,{state:=.ready,pending:=none,fn,tmps:=tm,params:=ps,assign:=y,body:=z,defers:=r0.defers},run_enterLoop_inner hr0 _ _ _ _ _, ?_,Zae _,World.alloc_heap_new w _,rfl,rfl,rfl,rfl,rfl,rfl,rfl,ZbT,λD hD=>by cases hD⟩;exact⟨(Below.refl _ w).alloc (Zae _) _,Zae _⟩
theorem aa.wV{Q:Exit->kX->Prop}{st:kX}{g:bp}{ps:List Nat}{as bs:DC}{f:FuncId}{caps:List T}{EB:List (List T)}(hit:ItOk P f caps EB)(Cq:0<st.low)
  (hg:g.ev st.tmps=.v (.fn (.func f) caps)) (hlen:∀x∈EB,x.length=ps.length) (R:List (List T)->aT) (hR0:R []=st.objs) (hRf:∀pre r,st.nxt<=r->R pre r=none)
  (round:∀pre x rest,EB=pre++x::rest->aa P nt as (λe s1=>e=.normal/\aa P nt bs (λe s2=>e=.normal/\Le s2 ⟨λ_=>.undef,R (pre++[x]),st.nxt,st.nxt,[]⟩) s1) ⟨AN st.tmps ps x,R pre,st.nxt,st.nxt,[]⟩)
  (done:Q .normal ⟨st.tmps,R EB,st.nxt,st.low,st.todo⟩):aa P nt (.wV g ps as bs) Q st:=by
 refine⟨λc hc=>?_⟩;obtain⟨g',qs,y,z,rfl,hg',rfl,cW,hy,hz⟩:=JV hc;intro n κ a w L gd r;have hJ:κ.J=none:=by
  cases hj:κ.J with
  |none=>rfl
  |some J=>have:=r.it (by rw[hj];rfl);omega
 obtain⟨W,base,M,w0,dH,h0⟩:=r.r.ex;have JZ:=dH;unfold Ctx.At at JZ;simp only[hJ]at JZ;obtain⟨htd,rfl,rfl,rfl,rfl⟩:=JZ;have hgv:=bp.bq h0.o.gl h0.tmps hg';rw[hg]at hgv;simp only[av,aS]at hgv;obtain⟨vs,hgv,CY⟩:=hgv;have hle:κ.base<=w.heap.size:=ZaC h0.o.fr.ib h0.o.fr.size;have wQ:∀b,WW κ.W st.objs L b->b<w.heap.size:=by
  rintro b (hb|⟨r',o',h1,h2⟩)
  ·have:=h0.o.under b hb;omega
  ·exact(h0.o.ob r' o' h1).lt h2
 refine wpIn_rangeFunc ?_;intro fn wx;obtain⟨l,Ds0,W1,rec,Ay,GI,hlw,wC,r1,r2,r3,r4,r5,r6,r7,zc,hDs⟩:=OI (P:=P) (ro:=κ.ro) (w:=w) (fn:=fn) (tm:=a.tmps) (ps:=qs) (y:=y) (z:=z) (λl hl=>by
  obtain⟨rc,J9⟩:=gd.rd l hl;exact⟨rc,r.r.dZ.keeps.Wt l rc J9⟩)
 obtain⟨fnE,hfnE,bG,F1⟩:=hit.entry;have hDl:∀D∈Ds0,D≠l:=λD hD e=>by
  have:=(hDs D hD).1;rw[e,wC]at this;cases this
 let J:(Nat->Prop)->List (List T)->World->Prop:=λWk todo A=>∃pre L',EB=pre++todo/\bK κ.base κ.W κ.M κ.w0 (R pre) A L'/\iZ κ.W st.objs L w (R pre) L' A/\(∀b,WW κ.W (R pre) L' b->Wk b)/\
  A.heap[l]? =some (.loop rec)/\(∀D∈Ds0,A.heap[D]? =some (.deferred (some [])))/\∀b,Wk b->b<A.heap.size
 have hrec:({rec with state:=.ready,pending:=none}:Loop)=rec:=by cases rec;simp_all
 have hYield:Yields P l J:=by
  refine⟨?_, ?_⟩
  ·rintro Wk todo A B ⟨pre,L',h1,h2,h3,h4,h5,h6,h7⟩ hb;obtain⟨hO,hA⟩:=bK.grow h2 hb;refine⟨pre,L',h1,hO,h3.comp hA (λ_ h=>.inl h) (λ_ h=>h),h4, ?_,λD hD=>?_,λb hw=>ZaR (h7 b hw) hb.size⟩
   ·exact(hb.block l (Zai.1 h5).1).trans h5
   ·exact(hb.block D (Zai.1 (h6 D hD)).1).trans (h6 D hD)
  ·rintro Wk x rest vals A ⟨pre,L',h1,h2,h3,h4,h5,h6,h7⟩ hx;have sh:x.length=qs.toList.length:=hlen x (by rw[h1];simp);have wu:vals.size=rec.params.size:=by
    have:=dv.length hx;rw[r5];simpa [sh]using this
   have PV:=run_yield (P:=P) (args:=vals) h5 wu;rw[r3,r4,r5,r6,r7]at PV;refine⟨_,_,_,_,PV, ?_⟩;have hleA:κ.base<=A.heap.size:=ZaC h2.fr.ib h2.fr.size;have hlA:=(Zai.1 h5).1;have hxW:dv A (WW κ.W (R pre) L') x vals.toList:=by
    have hk:=cd.refl Wk A;have conv:∀(ts:List T) (vs:List Value),dv A Wk ts vs->dv A (WW κ.W (R pre) L') ts vs:=λts vs h=>dv.aC hk.toKeepsC (λb _ hb=>h4 b hb) ts vs h
    exact conv _ _ hx
   have ja:∀t,av A κ.W (R pre) L' (st.tmps t) (a.tmps.getD t Go.undef):=λt=>av.dZ h3 _ _ (h0.tmps t);have Qr:=C7 (nt:=nt) qs.toList x vals.toList st.tmps a.tmps cW h0.size sh hxW ja;rw[<-J8]at Qr
   let κ1:Ctx:=⟨κ.W,R pre,L',A,κ.base,κ.M,κ.w0,none,some l⟩
   have good1:κ1.Good P:=⟨λJ hJ=>(by cases hJ),λl' Y3=>by cases Y3;exact⟨rec,h5⟩⟩;have rel1:Rel κ1 nt ⟨AN st.tmps qs.toList x,R pre,st.nxt,st.nxt,[]⟩ {tmps:=(qs.zip vals).foldl (λt (p,v)=>t.setIfInBounds p v) a.tmps,defers:=[]} A L':=
    ⟨⟨⟨κ.W,κ.base,κ.M,κ.w0,⟨rfl,rfl,rfl,rfl,rfl⟩,Qr.1,Qr.2,h2⟩,iZ.ch (cd.refl _ _),⟨[],rfl,ZbT,(λ_ h=>by cases h),λ_=>rfl⟩,λ_=>hleA,⟨st.nxt,hRf pre⟩⟩,hRf pre,hRf pre,λh=>by cases h⟩
   refine roundIn_of_wpIn trivial ?_;refine wpIn_mono ((round pre x rest h1).run y hy 0 κ1 _ A L' good1 rel1) ?_;rintro e a' w' ⟨s1,L1,⟨rfl,hbody⟩,OJ⟩;have EC:=OJ.r.dZ;have qj:w'.heap[l]? =some (.loop rec):=EC.keeps.Wt l rec h5;have hlw':=(Zai.1 qj).1;refine⟨_,run_beginRound qj r1, ?_⟩
   let busy:Loop:={rec with state:=.busy}
   let κ2:Ctx:=⟨κ.W,R pre,L',A.putObj l (.loop busy),κ.base,κ.M,κ.w0,none,some l⟩
   have hsA:(A.putObj l (.loop busy)).heap.size=A.heap.size:=by simp[World.putObj]
   have zR:(w'.putObj l (.loop busy)).heap.size=w'.heap.size:=by simp[World.putObj]
   have gA:(A.putObj l (.loop busy)).heap[l]? =some (.loop busy):=World.putObj_heap_same hlA;have gw':(w'.putObj l (.loop busy)).heap[l]? =some (.loop busy):=World.putObj_heap_same hlw';have oA:∀b,b≠l->(A.putObj l (.loop busy)).heap[b]? =A.heap[b]? :=λb hb=>World.putObj_heap_other hb;have ow:∀b,b≠l->(w'.putObj l (.loop busy)).heap[b]? =w'.heap[b]? :=λb hb=>World.putObj_heap_other hb;have WZ:¬Obj.plain (.loop rec):=λe=>e;have good2:κ2.Good P:=⟨λJ hJ=>(by cases hJ),λl' Y3=>by cases Y3;exact⟨busy,gA⟩⟩;have hlb:κ.base<=l:=ZaC hle hlw;have adv2:iZ κ.W (R pre) L' (A.putObj l (.loop busy)) s1.objs L1 (w'.putObj l (.loop busy)):=by
    refine⟨⟨⟨by rw[hsA,zR];exact EC.keeps.size,λb c e fr hb hn=>?_⟩,λb hb=>?_,λb rr hb=>?_⟩,λb hb hw=>?_,EC.fix,EC.arr,EC.yl⟩
    ·have bG:b≠l:=by rintro rfl;rw[gA]at hb;cases hb
     rw[oA b bG]at hb;rw[ow b bG];exact EC.keeps.gY b c e fr hb hn
    ·have bG:b≠l:=by rintro rfl;rw[gA]at hb;cases hb
     rw[oA b bG]at hb;rw[ow b bG];exact EC.keeps.NY b hb
    ·by_cases bG:b=l
     ·subst bG;rw[gA]at hb;rw[gw'];exact hb
     ·rw[oA b bG]at hb;rw[ow b bG];exact EC.keeps.Wt b rr hb
    ·rw[hsA]at hb;exact EC.sub b hb hw
   have rel3:Rel κ2 nt s1 a' (w'.putObj l (.loop busy)) L1:=by
    obtain⟨W2,base2,M2,w02,Xj,Xk⟩:=OJ.r.ex;have hat2':=Xj;obtain⟨e0,e1,e2,e3,e4⟩:=Xj
    replace Xk:R0 κ.base κ.W κ.M κ.w0 nt s1.tmps s1.objs a' w' L1:=by rw[e1,e2,e3,e4]at Xk;exact Xk
    have Ct:KeepsC (WW κ.W s1.objs L1) w' (w'.putObj l (.loop busy)):=⟨by rw[zR];exact Zae _,λb c e fr hb _=>lY qj WZ b _ trivial hb⟩;obtain⟨Ds,d1,d2,d3,d4⟩:=OJ.r.defers;refine⟨⟨⟨κ.W,κ.base,κ.M,κ.w0,⟨e0,rfl,rfl,rfl,rfl⟩,Xk.size,λt=>(mM Ct (SizeOf.sizeOf (s1.tmps t)+1)).1 (s1.tmps t) _ (ZbV _) (Xk.tmps t),u6 Xk.o qj WZ hlb⟩,adv2,⟨Ds,d1,d2,λD hD=>?_,d4⟩,λ_=>by rw[hsA];exact hleA,OJ.r.fin⟩,OJ.fresh,OJ.low,λh=>by cases h⟩;have:=d3 D hD;refine⟨?_,by rw[hsA];exact this.2⟩;rw[ow D (by rintro rfl;rw[qj]at this;cases this.1)];exact this.1
   refine wpIn_mono (hbody.run z hz 0 κ2 a' _ L1 good2 rel3) ?_;rintro e a3 w3 ⟨s3,L3,⟨rfl,hLe⟩,rel4⟩;obtain⟨L4,rel5⟩:=hLe κ2 nt a3 w3 L3 rel4;have ED:=rel5.r.dZ;have hl3:w3.heap[l]? =some (.loop busy):=ED.keeps.Wt l busy gA;have hlw3:=(Zai.1 hl3).1;have GK:=run_endRound (P:=P) none hl3;simp only[Option.isNone_none,if_true]at GK;have hbr:({busy with state:=.ready,pending:=none}:Loop)=rec:=by rw[<-hrec]
   rw[hbr]at GK;refine⟨_,_,GK,rfl, ?_⟩;have hs3:(w3.putObj l (.loop rec)).heap.size=w3.heap.size:=by simp[World.putObj]
   have g3:(w3.putObj l (.loop rec)).heap[l]? =some (.loop rec):=World.putObj_heap_same hlw3;have o3:∀b,b≠l->(w3.putObj l (.loop rec)).heap[b]? =w3.heap[b]? :=λb hb=>World.putObj_heap_other hb;have hnb:¬Obj.plain (.loop busy):=λe=>e;have Q7:iZ κ.W (R pre) L' A (R (pre++[x])) L4 (w3.putObj l (.loop rec)):=by
    refine⟨⟨⟨by rw[hs3];have:=ED.keeps.size;rw[hsA]at this;exact this,λb c e fr hb hn=>?_⟩,λb hb=>?_,λb rr hb=>?_⟩,λb hb hw=>?_,ED.fix,ED.arr,ED.yl⟩
    ·have bG:b≠l:=by rintro rfl;rw[h5]at hb;cases hb
     rw[o3 b bG];exact ED.keeps.gY b c e fr (by rw[oA b bG];exact hb) hn
    ·have bG:b≠l:=by rintro rfl;rw[h5]at hb;cases hb
     rw[o3 b bG];exact ED.keeps.NY b (by rw[oA b bG];exact hb)
    ·by_cases bG:b=l
     ·subst bG;rw[h5]at hb;rw[g3];exact hb
     ·rw[o3 b bG];exact ED.keeps.Wt b rr (by rw[oA b bG];exact hb)
    ·exact ED.sub b (by rw[hsA];exact hb) hw
   obtain⟨W5,base5,M5,w05,hat5,h05⟩:=rel5.r.ex;obtain⟨_,e1,e2,e3,e4⟩:=hat5
   replace h05:bK κ.base κ.W κ.M κ.w0 (R (pre++[x])) w3 L4:=by have:=h05.o;rw[e1,e2,e3,e4]at this;exact this
   have hO4:bK κ.base κ.W κ.M κ.w0 (R (pre++[x])) (w3.putObj l (.loop rec)) L4:=u6 h05 hl3 hnb hlb;have hle4:κ.base<=(w3.putObj l (.loop rec)).heap.size:=ZaC hO4.fr.ib hO4.fr.size;have hww4:∀b,WW κ.W (R (pre++[x])) L4 b->b<(w3.putObj l (.loop rec)).heap.size:=by
    rintro b (hb|⟨r',o',q1,q2⟩)
    ·have:=hO4.under b hb;omega
    ·exact(hO4.ob r' o' q1).lt q2
   have hAw:A.heap.size<=(w3.putObj l (.loop rec)).heap.size:=Q7.keeps.size;refine⟨λb=>Wk b\/WW κ.W (R (pre++[x])) L4 b,⟨pre++[x],L4,by rw[h1];simp,hO4,h3.comp Q7 (λ_ h=>.inl h) (λ_ h=>h),λb hb=>.inr hb,g3,λD hD=>Q7.keeps.NY D (h6 D hD), ?_⟩,Q7.keeps.mono h4, ?_,λb hb=>.inl hb⟩
   ·rintro b (hb|hb)
    ·exact ZaR (h7 b hb) hAw
    ·exact hww4 b hb
   ·rintro b (hb|hb)
    ·exact⟨ZaR (h7 b hb) hAw,.inl hb⟩
    ·refine⟨hww4 b hb, ?_⟩;by_cases hlt':b<A.heap.size
     ·exact .inl (h4 b (Q7.sub b hlt' hb))
     ·exact .inr (by omega)
 obtain⟨pw,hA1⟩:=bK.grow h0.o GI;have hJ1:J (WW κ.W st.objs L) EB W1:=⟨[],L,rfl,by rw[hR0];exact pw,by rw[hR0];exact hA1,by rw[hR0];exact λb hb=>hb,wC,λD hD=>(hDs D hD).1,λb hb=>ZaR (wQ b hb) GI.size⟩;refine⟨l,Ds0.map mark,W1,{target:=.fn (.func f) vs,args:= #[.func (.yield l) #[] #[]]},W1,f, #[.func (.yield l) #[] #[]]++vs,W1,Ay, ?_,λ_ _=>trivial, ?_,(λh=>by cases h), ?_⟩
 ·simp only[resolve,hgv,Deferred.ofValue];simp[Act.eval]
 ·simp[invoke,callFunc,hfnE,bG];intro lR;simp[lR]at F1
 ·refine dT ((hit.run l J (WW κ.W st.objs L) W1 vs hYield hJ1 ?_ (λb hb=>ZaR (wQ b hb) GI.size) pw.gl).mono ?_)
  ·exact aO.aC (cd.Gh GI.toBelow (W:=WW κ.W st.objs L)).toKeepsC (λ_ _ h=>h) _ _ CY
  ·rintro e B ⟨⟨v,rfl⟩,W',pre,L',h1,h2,h3,h4,h5,h6,h7⟩;have:pre=EB:=by simpa using h1.symm
   subst this;refine⟨none,_,by have:=run_endLoop (P:=P) h5 (by rw[r1];simp);rw[r2]at this;exact this, ?_⟩;have hlB:=(Zai.1 h5).1
   let off:Loop:={rec with state:=.exhausted,pending:=none}
   have WZ:¬Obj.plain (.loop rec):=λe=>e;have hlb:κ.base<=l:=ZaC hle hlw;have hsB:(B.putObj l (.loop off)).heap.size=B.heap.size:=by simp[World.putObj]
   have oB:∀b,b≠l->(B.putObj l (.loop off)).heap[b]? =B.heap[b]? :=λb hb=>World.putObj_heap_other hb;have Ct:KeepsC (WW κ.W (R pre) L') B (B.putObj l (.loop off)):=⟨by rw[hsB];exact Zae _,λb c e fr hb _=>lY h5 WZ b _ trivial hb⟩;have hgw:=r.r.dZ.keeps.size;have advT:iZ κ.W κ.go κ.gL κ.gw (R pre) L' (B.putObj l (.loop off)):=by
    have h:=r.r.dZ.comp h3 (λ_ h=>.inl h) (λ_ h=>h);refine⟨⟨⟨by rw[hsB];exact h.keeps.size,λb c e fr hb hn=>lY h5 WZ b _ trivial (h.keeps.gY b c e fr hb hn)⟩,λb hb=>?_,λb rr hb=>?_⟩,h.sub,h.fix,h.arr,h.yl⟩
    ·rw[oB b (by have:=(Zai.1 hb).1;omega)];exact h.keeps.NY b hb
    ·rw[oB b (by have:=(Zai.1 hb).1;omega)];exact h.keeps.Wt b rr hb
   obtain⟨Ds,d1,d2,d3,d4⟩:=r.r.defers;refine⟨_,L',done,⟨⟨κ.W,κ.base,κ.M,κ.w0,dH,h0.size,λt=>(mM Ct (SizeOf.sizeOf (st.tmps t)+1)).1 (st.tmps t) _ (ZbV _) (av.dZ h3 _ _ (h0.tmps t)),u6 h2 h5 WZ hlb⟩,advT,⟨Ds0++Ds,by rw[ZaP,<-d1], ?_,λD hD=>?_,λh=>by rw[hJ]at h;cases h⟩,r.r.bg,⟨st.nxt,hRf pre⟩⟩,hRf pre,r.low,r.it⟩
   ·rw[ZbP];refine⟨zc,d2,λD hD D' hD' e=>?_⟩;subst e;have k1:=(hDs D hD).2;have k2:=(Zai.1 (d3 D hD').1).1;omega
   ·rcases Zao.1 hD with hD|hD
    ·refine⟨?_,ZaC hgw (hDs D hD).2⟩;rw[oB D (hDl D hD)];exact h6 D hD
    ·refine⟨?_,(d3 D hD).2⟩;have k2:=(Zai.1 (d3 D hD).1).1;rw[oB D (by omega)];exact h3.keeps.NY D (d3 D hD).1
def finI:Exit->kX->Prop
 |.normal,st|.ret,st=>st.todo=[]
 |_,_=>False
def GL(caps:List T)(EB:List (List T)):kX:=⟨λk=>match k with|0=>.CL|k+1=>ze caps[k]?,λ_=>none,1000,0,EB⟩
theorem aQ.okI{f:FuncId}{d:DC}(h:aQ P f nt d []){caps:List T}{EB:List (List T)}(hlen:caps.length+1<=nt)(k:aa P nt d finI (GL caps EB)):ItOk P f caps EB:=by
 have Ay:=h.entry;obtain⟨fn,wx,rfl,h3,hr,_⟩:=h;obtain⟨c,hb,hc⟩:=Zab.1 h3;refine⟨Ay,λl J W A vs hy hj eJ hW hg=>?_⟩;have hl:=aO.length eJ;simp only[ZaU]at hl;have u7:Rel ⟨W,λ_=>none,⟨λ_=>0,λ_=>Go.undef,l⟩,A,0,λ_=>False,A,some J,none⟩ fn.ntmps (GL caps EB) {tmps:=(#[.func (.yield l) #[] #[]]++vs)++Array.replicate (fn.ntmps-(#[Value.func (.yield l) #[] #[]]++vs).size) Go.undef,defers:=[]} A ⟨λ_=>0,λ_=>Go.undef,l⟩:=by
  refine⟨⟨⟨W,A.heap.size,λ_=>False,A,⟨hj,rfl,rfl,λb hb=>.inl hb,λb hb=>hb⟩,by simp;omega,λk=>?_,⟨Fr.refl (Zae _),(λr o h=>by cases h),(λr r' o o' b _ h=>by cases h),(λr o b h=>by cases h),hW,hg.start⟩⟩,
   iZ.ch (cd.refl _ _),⟨[],rfl,ZbT,(λ_ h=>by cases h),λ_=>rfl⟩,(λh=>by cases h),⟨0,λ_ _=>rfl⟩⟩,λ_ _=>rfl,λ_ _=>rfl,λ_=>rfl⟩
  simp only[GL];cases k with
  |zero=>simp only[av];exact oI (by simp)
  |succ k=>
   simp only;cases hk:caps[k]? with
   |some x=>
    obtain⟨v,hv,_,jl⟩:=aO.get eJ hk;have pY:(#[Value.func (.yield l) #[] #[]]++vs).toList[k+1]? =some v:=by simpa using hv
    simp only[oI pY,ze,av];refine aS.aC (cd.refl W A).toKeepsC ?_ x v jl;rintro b hb (h|⟨r,o,h,_⟩)
    ·exact h
    ·cases h
   |none=>
    have zl:(#[Value.func (.yield l) #[] #[]]++vs).size<=k+1:=by
     have:=ZbF.1 hk;simp;omega
    simp only[ze,av,oJ zl]
 refine callsIn_wide.1 (callsIn_of_wp_marks (n:=0) wx hb trivial ?_);refine wpIn_mono (k.run c hc 0 _ _ _ _ ⟨λJ' hJ=>by cases hJ;exact hy,λl hl=>(by cases hl)⟩ u7) ?_;rintro e a' w' ⟨df,L',q,r'⟩;have done:df.todo=[]->LeavesInM Fence.wide 0 P fn a'.tmps (λe B=>(∃v,e=.returned v)/\∃W',J W' [] B) a'.defers .returning w':=by
  intro hq;obtain⟨Ds,h1,h2,h3,h4⟩:=r'.r.defers;have hD0:=h4 rfl;subst hD0;rw[h1];obtain⟨W',MD,M',w0',dH,h0⟩:=r'.r.ex;obtain⟨YM,rfl,rfl,_,_⟩:=dH;rw[show(⟨df.tmps,df.objs,df.todo⟩:RS).todo=[]from hq]at YM;obtain⟨v,k1,_⟩:=rC (st:=df) h0 (lend:=true) (W':=λ_=>False) (λ_ _ _ _ _ _ h=>h) (λ_ h=>h.elim) hr ⟨(trivial:ru true df []),rfl⟩;have fr:=h0.o.fr;exact⟨v,k1,⟨v,rfl⟩,W',hy.stays W' [] w0' w' YM ⟨⟨fr.os,fr.tape,fr.output,fr.size,λk hk=>fr.block k hk (λx=>x)⟩,fr.drawn⟩⟩
 cases e with
 |normal=>exact done q
 |ret=>exact done q
 |_=>exact q.elim
end
def gq(objs aA:aT)(σ:Nat->Nat)(tm:Nat->DV):List (Nat×DV)->Prop
 |[]=>True
 |(k,d)::l=>jj objs aA σ (tm k) d/\gq objs aA σ tm l
def tT(objs aA:aT)(σ:Nat->Nat):List (Nat×Ob)->Prop
 |[]=>True
 |(r,o)::l=>(∃o0,objs (σ r)=some o0/\lS objs aA σ o0 o)/\tT objs aA σ l
def kM(n:Nat):List (Nat×Ob)->Prop
 |[]=>True
 |(r,_)::l=>r<n/\kM n l
def rD(n:Nat):List (Nat×Ob)->Prop
 |[]=>True
 |(r,_)::l=>n<=r/\rD n l
def EE(σ:Nat->Nat)(r:Nat):List (Nat×Ob)->Prop
 |[]=>True
 |(r',_)::l=>(σ r=σ r'->r=r')/\EE σ r l
def zu(σ:Nat->Nat):List (Nat×Ob)->Prop
 |[]=>True
 |(r,_)::l=>EE σ r l/\zu σ l
theorem l8:∀{l:List (Nat×Ob)} {r:Nat} {o:Ob},cC l r=some o->(r,o)∈l
 |[],_,_,h=>by cases h
 |(j,x)::l,r,o,h=>by
  simp only[cC]at h;split at h
  ·rename_i e;cases h;subst e;exact Za5 ..
  ·exact ZaW _ (l8 h)
theorem ML{l:List (Nat×Ob)}{r:Nat}(h:cC l r≠none):∃o,(r,o)∈l:=by
 cases ho:cC l r with
 |none=>exact absurd ho h
 |some o=>exact⟨o,l8 ho⟩
theorem k9{n:Nat}:∀{l:List (Nat×Ob)},kM n l->∀r o,(r,o)∈l->r<n
 |[],_,_,_,h=>by cases h
 |(j,x)::l,hk,r,o,h=>by
  rcases Zag.1 h with e|h
  ·cases e;exact hk.1
  ·exact k9 hk.2 r o h
theorem vj{n:Nat}:∀{l:List (Nat×Ob)},rD n l->∀r o,(r,o)∈l->n<=r
 |[],_,_,_,h=>by cases h
 |(j,x)::l,hk,r,o,h=>by
  rcases Zag.1 h with e|h
  ·cases e;exact hk.1
  ·exact vj hk.2 r o h
theorem px{objs aA:aT}{σ:Nat->Nat}:∀{l:List (Nat×Ob)},tT objs aA σ l->∀r o,(r,o)∈l->∃o0,objs (σ r)=some o0/\lS objs aA σ o0 o
 |[],_,_,_,h=>by cases h
 |(j,x)::l,hk,r,o,h=>by
  rcases Zag.1 h with e|h
  ·cases e;exact hk.1
  ·exact px hk.2 r o h
theorem tU{σ:Nat->Nat}{r:Nat}:∀{l:List (Nat×Ob)},EE σ r l->∀r' o,(r',o)∈l->σ r=σ r'->r=r'
 |[],_,_,_,h=>by cases h
 |(j,x)::l,hk,r',o,h=>by
  rcases Zag.1 h with e|h
  ·cases e;exact hk.1
  ·exact tU hk.2 r' o h
theorem yA{σ:Nat->Nat}:∀{l:List (Nat×Ob)},zu σ l->∀r1 r2 o1 o2,(r1,o1)∈l->(r2,o2)∈l->σ r1=σ r2->r1=r2
 |[],_,_,_,_,_,h,_=>by cases h
 |(j,x)::l,hk,r1,r2,o1,o2,h1,h2=>by
  rcases Zag.1 h1 with e1|h1
  ·cases e1;rcases Zag.1 h2 with e2|h2
   ·cases e2;exact λ_=>rfl
   ·exact tU hk.1 r2 o2 h2
  ·rcases Zag.1 h2 with e2|h2
   ·cases e2;exact λe=>(tU hk.1 r1 o1 h1 e.symm).symm
   ·exact yA hk.2 r1 r2 o1 o2 h1 h2
@[simp] theorem Xs(σ:Nat->Nat)(r:Nat):gone (cC []) σ r:=λr' h=>by simp[cC]at h
theorem Q8{σ:Nat->Nat}{r j:Nat}{o:Ob}{l:List (Nat×Ob)}(h1:σ j≠r)(h2:gone (cC l) σ r):gone (cC ((j,o)::l)) σ r:=by
 intro r' fe;by_cases hj:r'=j
 ·subst hj;exact h1
 ·exact h2 r' (by rw[dq,if_neg hj]at fe;exact fe)
theorem rE{objs aA:aT}{σ:Nat->Nat}{tm:Nat->DV}:∀(l:List (Nat×DV)),gq objs aA σ tm l->∀k,jj objs aA σ (tm k) (look l k)
 |[],_,k=>by
  show jj objs aA σ (tm k) .undef;cases tm k<;>simp[jj]
 |(j,d)::l,h,k=>by
  simp only[look];split
  ·rename_i e;subst e;exact h.1
  ·exact rE l h.2 k
theorem Le.corL{tm:Nat->DV}{o0 o:List (Nat×Ob)}{l:List (Nat×DV)}{nxt nxt':Nat}{td:List (List T)}{low:Nat}(σ:Nat->Nat)(wB:rD low o0)(hk:kM nxt' o)(ha:zu σ o)
  (fG:tT (cC o0) (cC o) σ o) (ja:gq (cC o0) (cC o) σ tm l):Le ⟨tm,cC o0,nxt,low,td⟩ ⟨look l,cC o,nxt',low,td⟩:=by
 refine Le.cor σ rfl rfl (λr hr=>?_) (λr' o' h=>px fG r' o' (l8 h)) (λr1 r2 h1 h2 e=>?_) (λr hr o' h=>?_) (λk=>rE l ja k)
 ·cases ho:cC o r with
  |none=>exact ho
  |some x=>have:=k9 hk r x (l8 ho);simp only at hr;omega
 ·obtain⟨x1,k1⟩:=ML h1;obtain⟨x2,k2⟩:=ML h2;exact yA ha r1 r2 x1 x2 k1 k2 e
 ·have:=vj wB r o' (l8 h);simp only at hr;omega
theorem Le.aC{tm:Nat->DV}{o0 o:List (Nat×Ob)}{l:List (Nat×DV)}{nxt nxt':Nat}{td:List (List T)}{low:Nat}(wB:rD low o0)(hk:kM nxt' o)
  (fG:tT (cC o0) (cC o) id o) (ja:gq (cC o0) (cC o) id tm l):Le ⟨tm,cC o0,nxt,low,td⟩ ⟨look l,cC o,nxt',low,td⟩:=by
 refine Le.corL id wB hk ?_ fG ja;clear hk fG ja;induction o with
 |nil=>trivial
 |cons p o ih=>
  refine⟨?_,ih⟩;clear ih;induction o with
  |nil=>trivial
  |cons q o ih=>exact⟨λh=>h,ih⟩
attribute [simp] gq tT kM rD EE zu jj jC Q1 Q3 MJ MK EA lS
def fQ(tm:Nat->DV):List (Nat×DV)->Prop
 |[]=>True
 |(k,d)::l=>tm k=d/\fQ tm l
theorem AO{tm:Nat->DV}:∀{l:List (Nat×DV)},fQ tm l->∀k,look l k=.undef\/look l k=tm k
 |[],_,_=>.inl rfl
 |(j,d)::l,h,k=>by
  simp only[look];split
  ·rename_i e;subst e;exact .inr h.1.symm
  ·exact AO h.2 k
section
variable{P:Program}{nt:Nat}{Γ:Env}{Q:Exit->kX->Prop}{tm:Nat->DV}{ob:aT}{nxt low:Nat}{td:List (List T)}
theorem aa.Y4(ay:aw P Γ)(hm:P.follows .mixedOrders=true){draw:Bool}{rs:List RO}(l:List (Nat×DV))(ob':aT)
  (h:exec Γ nxt rs ⟨tm,ob,td⟩ λs=>fQ s.tmps l/\s.objs=ob'/\s.todo=td) (k:Q .normal ⟨look l,ob',nxt+nt+1,low,td⟩):aa P nt (.region draw rs) Q ⟨tm,ob,nxt,low,td⟩:=by
 obtain⟨h1,h2,h3,h4⟩:=eM _ _ _ h;refine aa.u4 (Q:=λe s=>e=.normal/\s=⟨(cM Γ nxt rs ⟨tm,ob,td⟩).tmps,(cM Γ nxt rs ⟨tm,ob,td⟩).objs,nxt+nt+1,low,(cM Γ nxt rs ⟨tm,ob,td⟩).todo⟩) (aa.region ay hm (st:=⟨tm,ob,nxt,low,td⟩) h1 ⟨rfl,rfl⟩) ?_;rintro e s ⟨rfl,rfl⟩;refine⟨_,Le.vd (AO h2), ?_⟩;simp only[h3,h4];exact k
theorem aa.GM(ay:aw P Γ)(hm:P.follows .mixedOrders=true){draw:Bool}{rs:List RO}{b:DC}(l:List (Nat×DV))(ob':aT)
  (h:exec Γ nxt rs ⟨tm,ob,td⟩ λs=>fQ s.tmps l/\s.objs=ob'/\s.todo=td) (k:aa P nt b Q ⟨look l,ob',nxt+nt+1,low,td⟩):aa P nt (.seq (.region draw rs) b) Q ⟨tm,ob,nxt,low,td⟩:=
 aa.seq (aa.Y4 ay hm l ob' h k)
theorem aa.bY(ay:aw P Γ)(hm:P.follows .mixedOrders=true){draw:Bool}{rs:List RO}{b:DC}(l:List (Nat×DV))
  (h:exec Γ nxt rs ⟨tm,ob,td⟩ λs=>fQ s.tmps l/\s.objs=ob/\s.todo=td) (k:aa P nt b Q ⟨look l,ob,nxt+nt+1,low,td⟩):aa P nt (.seq (.region draw rs) b) Q ⟨tm,ob,nxt,low,td⟩:=
 aa.GM ay hm l ob h k
theorem aa.to{d:DC}{st:kX}(st2:kX)(h:aa P nt d (λe s=>e=.normal/\Le s st2) st)(k:Q .normal st2):aa P nt d Q st:=
 aa.u4 h λe s ⟨h1,h2⟩=>by subst h1;exact⟨st2,h2,k⟩
end
attribute [simp] fQ
end Go.DM
namespace Go.DM
open Go.RowKit
variable [Laid]
section
variable{P:Program}{nt:Nat}{Γ:Env}{Q:Exit->kX->Prop}{tm:Nat->DV}{ob:aT}{nxt low:Nat}{td:List (List T)}
theorem aa.EF(ay:aw P Γ)(hm:P.follows .mixedOrders=true){draw:Bool}{rs:List RO}(l:List (Nat×DV))
  (h:exec Γ nxt rs ⟨tm,ob,td⟩ λs=>fQ s.tmps l/\s.objs=ob/\s.todo=td) (k:Q .normal ⟨look l,ob,nxt+nt+1,low,td⟩):aa P nt (.region draw rs) Q ⟨tm,ob,nxt,low,td⟩:=
 aa.Y4 ay hm l ob h k
end
theorem C8:∀(ts:List T) (i k:Nat),look (((ts.map .v).zipIdx i).map λp=>(p.2,p.1)) k=.undef\/look (((ts.map .v).zipIdx i).map λp=>(p.2,p.1)) k=ze (if i<=k then ts[k-i]? else none)
 |[],i,k=>.inl rfl
 |t::ts,i,k=>by
  simp only[Zau,Zb7,ml];split
  ·rename_i h;subst h;exact .inr (by simp[ze])
  ·rename_i h;rcases C8 ts (i+1) k with e|e
   ·exact .inl e
   ·right;rw[e];by_cases hk:i+1<=k
    ·rw[if_pos hk,if_pos (by omega),show k-i=(k-(i+1))+1 by omega,ZaX]
    ·have:¬i<=k:=by omega
     rw[if_neg hk,if_neg this]
theorem OK{P:Program}{nt:Nat}{d:DC}{Q:Exit->kX->Prop}{caps:List T}{EB:List (List T)}
  (h:aa P nt d Q ⟨look ((0,.CL)::((caps.map .v).zipIdx 1).map λp=>(p.2,p.1)),cC [],1000,0,EB⟩):aa P nt d Q (GL caps EB):=by
 refine aa.le (Le.trans (Le.vd (st:=GL caps EB) (tm:=look ((0,.CL)::((caps.map .v).zipIdx 1).map λp=>(p.2,p.1))) λk=>?_) (λκ nt a w L r=>⟨L,r⟩)) h;simp only[ml];split
 ·rename_i e;subst e;exact .inr rfl
 ·rename_i e;rcases C8 caps 1 k with h|h
  ·exact .inl h
  ·rw[h];have:1<=k:=by omega
   rw[if_pos this];obtain⟨j,rfl⟩:∃j,k=j+1:=⟨k-1,by omega⟩;exact .inr rfl
def cZ(f:aT)(r:Nat)(o:Ob):aT:=λk=>if k=r then some o else f k
theorem J7(f:aT)(r:Nat)(o:Ob)(k:Nat):cZ f r o k=if k=r then some o else f k:=rfl
@[simp] theorem putO_setO(f:aT)(r:Nat)(o o':Ob):bR (cZ f r o) (some (r,o'))=cZ f r o':=by
 funext k;simp only[C4,cZ];split<;>rfl
@[simp] theorem setO_setO(f:aT)(r:Nat)(o o':Ob):cZ (cZ f r o) r o'=cZ f r o':=by
 funext k;simp only[cZ];split<;>rfl
theorem sy{f:aT}{r:Nat}{o o':Ob}(h:f r=some o){k:Nat}(hk:f k=none):cZ f r o' k=none:=by
 simp only[cZ];split
 ·rename_i e;rw[e,h]at hk;cases hk
 ·exact hk
theorem Le.same{tm:Nat->DV}{ob:aT}{nxt nxt' low:Nat}{td:List (List T)}{l:List (Nat×DV)}(h:∀r,nxt'<=r->ob r=none)(hl:fQ tm l):Le ⟨tm,ob,nxt,low,td⟩ ⟨look l,ob,nxt',low,td⟩:=
 Le.trans (Le.vd (AO hl)) λκ nt a w L r=>⟨L,⟨r.r,h,r.low,r.it⟩⟩
theorem AP:∀(ds:List DV) (i k:Nat),look ((ds.zipIdx i).map λp=>(p.2,p.1)) k=.undef\/look ((ds.zipIdx i).map λp=>(p.2,p.1)) k=JY (if i<=k then ds[k-i]? else none)
 |[],i,k=>.inl rfl
 |t::ts,i,k=>by
  simp only[Zau,Zb7,ml];split
  ·rename_i h;subst h;exact .inr (by simp[JY])
  ·rename_i h;rcases AP ts (i+1) k with e|e
   ·exact .inl e
   ·right;rw[e];by_cases hk:i+1<=k
    ·rw[if_pos hk,if_pos (by omega),show k-i=(k-(i+1))+1 by omega,ZaX]
    ·have:¬i<=k:=by omega
     rw[if_neg hk,if_neg this]
theorem C9{P:Program}{nt:Nat}{d:DC}{Q:Exit->kX->Prop}{args:List DV}{objs:aT}{N:Nat}(h:aa P nt d Q ⟨look (args.zipIdx.map λp=>(p.2,p.1)),objs,N,N,[]⟩):aa P nt d Q (yu args objs N):=by
 refine aa.le (Le.vd (st:=yu args objs N) (tm:=look (args.zipIdx.map λp=>(p.2,p.1))) λk=>?_) h;have:=AP args 0 k;simpa [yu]using this
@[simp] theorem Q9(ob:aT):∀x:List T,gQ ob (x.map .v)=x
 |[]=>rfl
 |t::x=>by simp[Q9 ob x]
@[simp] theorem setO_get(f:aT)(r:Nat)(o:Ob):cZ f r o r=some o:=by simp[cZ]
theorem aZ.of{P:Program}{f:FuncId}{args:List DV}{objs:aT}{r r':iC}(h:aZ P f args objs r)(h1:r'.objs=r.objs)(h2:r'.val=r.val):aZ P f args objs r':=by
 obtain⟨ok,val,ob⟩:=r;obtain⟨ok',val',ob'⟩:=r';simp only at h1 h2;subst h1 h2;exact⟨h.entry,h.run⟩
end Go.DM
namespace Go.DM
open Go.RowKit
variable [Laid]
def Loc.at(L:Loc)(q:Nat)(x:Value):Loc:=⟨L.gY,λk=>if k=q then x else L.sl k,L.yl⟩
section
variable{base:Nat}{W M:Nat->Prop}{w0 w:World}{objs:aT}{L:Loc}
theorem dN{f:aT}{q:Nat}{o o':Ob}{r:Nat}(h:cZ f q o r=some o'):(r=q/\o'=o)\/(r≠q/\f r=some o'):=by
 simp only[cZ]at h;split at h
 ·rename_i e;exact .inl ⟨e,(ZbK h).symm⟩
 ·rename_i e;exact .inr ⟨e,h⟩
theorem la{f:aT}{q:Nat}{o o':Ob}{r:Nat}(h:r≠q)(k:f r=some o'):cZ f q o r=some o':=by
 simp only[cZ,if_neg h,k]
theorem EG{q:Nat}{x:Value}{r:Nat}{o:Ob}(h:r≠q):(L.at q x).own r o=L.own r o:=by
 cases o<;>simp[Loc.own,Loc.at,h]
theorem zw{q:Nat}{a:Option Addr}{v e sz:Nat}{rows:List (List T)}:(L.at q (.slice a 0 0)).own q (.arr v e sz rows)=none:=by
 cases a<;>simp[Loc.own,Loc.at,aN]
theorem Ra{q:Nat}{a:Option Addr}{e sz:Nat}{b:Nat}(h:WW W (cZ objs q (.arr 0 e sz [])) (L.at q (.slice a 0 0)) b):WW W objs L b:=by
 rcases h with h|⟨r,o,hr,hb⟩
 ·exact .inl h
 ·rcases dN hr with⟨rfl,rfl⟩|⟨bG,hr⟩
  ·rw[zw]at hb;cases hb
  ·rw[EG bG]at hb;exact .inr ⟨r,o,hr,hb⟩
theorem EH{q:Nat}{a:Option Addr}{e sz:Nat}(hq:objs q=none):iZ W objs L w (cZ objs q (.arr 0 e sz [])) (L.at q (.slice a 0 0)) w:=by
 refine⟨cd.refl _ _,λb _ h=>Ra h,λr o hr hk=>?_,λr ver e' ga rows hr=>?_,rfl⟩
 ·have bG:r≠q:=λh=>by rw[h,hq]at hr;cases hr
  exact⟨rfl,o,la bG hr,rfl⟩
 ·have bG:r≠q:=λh=>by rw[h,hq]at hr;cases hr
  exact⟨ver,e',ga,rows,la bG hr,Zae _,λ_=>⟨by simp[Loc.at,bG],rfl,rfl⟩⟩
theorem GO(hO:bK base W M w0 objs w L){q:Nat}{a:Option Addr}{e sz:Nat}(gE:0<sz)(hq:objs q=none):bK base W M w0 (cZ objs q (.arr 0 e sz [])) w (L.at q (.slice a 0 0)):=by
 have hA:=EH (W:=W) (w:=w) (L:=L) (a:=a) (e:=e) (sz:=sz) hq;refine⟨hO.fr,λr o hr=>?_,λr r' o o' b bG h1 h2 hb=>?_,λr o b hr hb=>?_,hO.under,hO.gl.aC hA.keeps.toKeepsC hA.sub⟩
 ·rcases dN hr with⟨rfl,rfl⟩|⟨bG,hr⟩
  ·refine⟨gE,λx hx=>(by cases hx),λg hg=>?_,.inl ⟨rfl,a,by simp[Loc.at]⟩⟩;exfalso;simp only[Loc.at,if_true]at hg;cases a<;>simp[aN]at hg
  ·have hk:=hO.ob r o hr;cases o with
   |box cs=>
    obtain⟨c,f,bM,eJ,hm⟩:=hk;exact⟨c,f,bM,aJ.dZ hA cs _ eJ,hm⟩
   |map shs agg c es=>
    obtain⟨arr,bM,eJ,q1,q2,q3,hm⟩:=hk;exact⟨arr,bM,bj.dZ hA es _ eJ,q1,q2,q3,hm⟩
   |iter m s sn l=>
    obtain⟨bM,Jm,hm⟩:=hk;exact⟨bM,(hA.mp m Jm).2,hm⟩
   |arr ver e' ga rows=>
    obtain⟨g1,g2,g3,g4⟩:=hk;have hs:(L.at q (.slice a 0 0)).sl r=L.sl r:=by simp[Loc.at,bG]
    refine⟨g1,g2,by rw[hs];exact g3, ?_⟩;rw[hs];rcases g4 with g4|⟨g,cap,cur,hv,hp,hh,k1,k2,k3,k4⟩
    ·exact .inl g4
    ·exact .inr ⟨g,cap,cur,hv,hp,hh,k1,k2,k3,aO.aC (cd.refl (WW W objs L) w).toKeepsC (λb _ hb=>Ra hb) _ _ k4⟩
 ·rcases dN h1 with⟨rfl,rfl⟩|⟨n1,h1⟩
  ·rw[zw]at hb;cases hb
  ·rw[EG n1]at hb;rcases dN h2 with⟨rfl,rfl⟩|⟨n2,h2⟩
   ·rw[zw];exact λh=>by cases h
   ·rw[EG n2];exact hO.apart r r' o o' b bG h1 h2 hb
 ·rcases dN hr with⟨rfl,rfl⟩|⟨n1,hr⟩
  ·rw[zw]at hb;cases hb
  ·rw[EG n1]at hb;exact hO.outer r o b hr hb
end
theorem Le.l9{tm:Nat->DV}{ob:aT}{nxt low:Nat}{td:List (List T)}{k:Nat}(e:Nat){sz:Nat}(gE:0<sz)(hk:tm k=.aH):
  Le ⟨tm,ob,nxt,low,td⟩ ⟨b7 tm (some k) (.bk nxt 0),cZ ob nxt (.arr 0 e sz []),nxt+1,low,td⟩:=by
 intro κ nt a w L h;have hq:ob nxt=none:=h.fresh nxt (Zae _);obtain⟨W,base,M,w0,dH,h0⟩:=h.r.ex;have hx:=h0.tmps k;simp only[hk,av]at hx;obtain⟨ad,hx⟩:=hx;have hA:=EH (W:=W) (w:=w) (L:=L) (a:=ad) (e:=e) (sz:=sz) hq;have oH:=dH.sub;have wq:∀r,nxt+1<=r->cZ ob nxt (.arr 0 e sz []) r=none:=λr hr=>by
  simp only[cZ];rw[if_neg (by omega)];exact h.fresh r (by simp only;omega)
 refine⟨L.at nxt (.slice ad 0 0),⟨⟨W,base,M,w0,dH,h0.size,λt=>?_,GO h0.o gE hq⟩,iZ.comp h.r.dZ hA oH.1 oH.2,h.r.defers,h.r.bg,⟨_,wq⟩⟩,wq,h.low,h.it⟩;simp only[b7];by_cases ht:t=k
 ·subst ht;simp only[if_true,av];refine⟨⟨ad,0,0,hx⟩,0,e,sz,[],by simp,Zae _,λ_=>?_⟩;rw[hx];simp[Loc.at]
 ·simp only[ht,if_false];exact av.dZ hA _ _ (h0.tmps t)
theorem wX{w:World}{W:Nat->Prop}{objs:aT}{L:Loc}:∀(cs:List DV) (xs:List Value) (k:Nat) (d:DV),aJ w W objs L cs xs->(∀x,xs[k]? =some x->av w W objs L d x)->aJ w W objs L (cs.set k d) xs
 |[],xs,k,d,h,_=>by simpa using h
 |c::cs,xs,0,d,h,hd=>by
  simp only[aJ]at h;obtain⟨x,jM,rfl,h1,h2,h3⟩:=h;simp only[Zce,aJ];exact⟨x,jM,rfl,h1,hd x (by simp),h3⟩
 |c::cs,xs,k+1,d,h,hd=>by
  simp only[aJ]at h;obtain⟨x,jM,rfl,h1,h2,h3⟩:=h;simp only[Zcz,aJ];exact⟨x,jM,rfl,h1,h2,wX cs jM k d h3 λy hy=>hd y (by simpa using hy)⟩
theorem wY{w:World}{W:Nat->Prop}{objs:aT}{L:Loc}:∀(cs:List DV) (xs:List Value) (k:Nat) (d:DV) (x:Value),aJ w W objs L cs xs->cs[k]? =some d->xs[k]? =some x->av w W objs L d x
 |[],xs,k,d,x,h,hk,_=>by simp at hk
 |c::cs,xs,0,d,x,h,hk,hx=>by
  simp only[aJ]at h;obtain⟨y,jM,rfl,h1,h2,h3⟩:=h;simp only[ZaG,Zaa]at hk hx;subst hk hx;exact h2
 |c::cs,xs,k+1,d,x,h,hk,hx=>by
  simp only[aJ]at h;obtain⟨y,jM,rfl,h1,h2,h3⟩:=h;simp only[ZaX]at hk hx;exact wY cs jM k d x h3 hk hx
theorem tV{w:World}{W:Nat->Prop}{objs:aT}{L:Loc}:∀(cs:List DV) (xs:List Value) (k:Nat) (d:DV),aJ w W objs L cs xs->cs[k]? =some d->∃x,xs[k]? =some x
 |[],xs,k,d,h,hk=>by simp at hk
 |c::cs,xs,0,d,h,hk=>by
  simp only[aJ]at h;obtain⟨y,jM,rfl,h1,h2,h3⟩:=h;exact⟨y,by simp⟩
 |c::cs,xs,k+1,d,h,hk=>by
  simp only[aJ]at h;obtain⟨y,jM,rfl,h1,h2,h3⟩:=h;simp only[ZaX]at hk;obtain⟨x,hx⟩:=tV cs jM k d h3 hk;exact⟨x,by simpa using hx⟩
theorem Le.MM{tm:Nat->DV}{ob:aT}{nxt low:Nat}{td:List (List T)}(r:Nat)(k:Nat){cs:List DV}(e:Nat){sz:Nat}(gE:0<sz)(hr:ob r=some (.box cs))(hk:cs[k]? =some .aH):
  Le ⟨tm,ob,nxt,low,td⟩ ⟨tm,cZ (cZ ob nxt (.arr 0 e sz [])) r (.box (cs.set k (.bk nxt 0))),nxt+1,low,td⟩:=by
 intro κ nt a w L h;have hq:ob nxt=none:=h.fresh nxt (Zae _);have hrq:r≠nxt:=λe=>by rw[e,hq]at hr;cases hr
 have hrlt:r<nxt:=ZbW λhle=>by have:=h.fresh r hle;simp only at this;rw[this]at hr;cases hr
 obtain⟨W,base,M,w0,dH,h0⟩:=h.r.ex;have hO:=h0.o;obtain⟨c,f,bM,eJ,hm⟩:=hO.ob r _ hr;obtain⟨x,hx⟩:=tV _ _ _ _ eJ hk;have Cm:=wY _ _ _ _ _ eJ hk hx;simp only[av]at Cm;obtain⟨ad,hxa⟩:=Cm;have hA:=EH (W:=W) (w:=w) (L:=L) (a:=ad) (e:=e) (sz:=sz) hq;have pw:=GO (a:=ad) (e:=e) hO gE hq;obtain⟨o1,GP⟩:∃o1,cZ ob nxt (.arr 0 e sz [])=o1:=⟨_,rfl⟩;obtain⟨L1,OL⟩:∃L1,L.at nxt (.slice ad 0 0)=L1:=⟨_,rfl⟩;have lQ:o1 r=some (.box cs):=by rw[<-GP];exact la hrq hr
 rw[GP,OL]at hA pw;have wQ:∀{V:Nat->Prop} b,WW V (cZ o1 r (.box (cs.set k (.bk nxt 0)))) L1 b->WW V o1 L1 b:=by
  intro V b hb;rcases hb with hb|⟨r',o,fe,hb⟩
  ·exact .inl hb
  ·rcases dN fe with⟨rfl,rfl⟩|⟨_,fe⟩
   ·exact .inr ⟨r',_,lQ,hb⟩
   ·exact .inr ⟨r',o,fe,hb⟩
 have tQ:iZ W o1 L1 w (cZ o1 r (.box (cs.set k (.bk nxt 0)))) L1 w:=by
  refine⟨cd.refl _ _,λb _ h=>wQ b h,λr' o' fe sW=>?_,λr' ver e' ga rows fe=>?_,rfl⟩
  ·by_cases he:r'=r
   ·subst he;rw[lQ]at fe;cases fe;exact⟨rfl,.box (cs.set k (.bk nxt 0)),by simp[cZ],rfl⟩
   ·exact⟨rfl,o',la he fe,rfl⟩
  ·have he:r'≠r:=λhe=>by rw[he,lQ]at fe;cases fe
   exact⟨ver,e',ga,rows,la he fe,Zae _,λ_=>⟨rfl,rfl,rfl⟩⟩
 have ME:bK base W M w0 (cZ o1 r (.box (cs.set k (.bk nxt 0)))) w L1:=by
  refine⟨pw.fr,λr' o fe=>?_,λp p' o o' b bG h1 h2 hb=>?_,λp o b hp hb=>?_,pw.under,pw.gl.aC tQ.keeps.toKeepsC tQ.sub⟩
  ·rcases dN fe with⟨rfl,rfl⟩|⟨bG,fe⟩
   ·refine⟨c,f,by rw[<-OL];exact bM,wX _ _ _ _ (aJ.dZ tQ _ _ (aJ.dZ hA _ _ eJ)) λy hy=>?_,by rw[<-OL];exact hm⟩;rw[hx]at hy;cases hy;simp only[av];refine⟨⟨ad,0,0,hxa⟩,0,e,sz,[],la (Ne.symm hrq) (by rw[<-GP];simp),Zae _,λ_=>?_⟩;rw[hxa,<-OL];simp[Loc.at]
   ·have sW:=pw.ob r' o fe;cases o with
    |box qL=>
     obtain⟨c',f',AR,AS,Ef⟩:=sW;exact⟨c',f',AR,aJ.dZ tQ qL _ AS,Ef⟩
    |map shs agg c es=>
     obtain⟨arr,AR,AS,q1,q2,q3,Ef⟩:=sW;exact⟨arr,AR,bj.dZ tQ es _ AS,q1,q2,q3,Ef⟩
    |iter m s sn l=>
     obtain⟨AR,Jm,Ef⟩:=sW;exact⟨AR,(tQ.mp m Jm).2,Ef⟩
    |arr ver e' ga rows=>
     obtain⟨g1,g2,g3,g4⟩:=sW;refine⟨g1,g2,g3, ?_⟩;rcases g4 with g4|⟨g,cap,cur,hv,hp,hh,k1,k2,k3,k4⟩
     ·exact .inl g4
     ·exact .inr ⟨g,cap,cur,hv,hp,hh,k1,k2,k3,aO.aC (cd.refl (WW W o1 L1) w).toKeepsC (λb _ hb=>wQ b hb) _ _ k4⟩
  ·have key:∀{p o},cZ o1 r (.box (cs.set k (.bk nxt 0))) p=some o->∃o2,o1 p=some o2/\L1.own p o=L1.own p o2:=by
    intro p o hp;rcases dN hp with⟨rfl,rfl⟩|⟨_,hp⟩
    ·exact⟨_,lQ,rfl⟩
    ·exact⟨o,hp,rfl⟩
   obtain⟨x1,y1,z1⟩:=key h1;obtain⟨x2,y2,z2⟩:=key h2;rw[z1]at hb;rw[z2];exact pw.apart p p' x1 x2 b bG y1 y2 hb
  ·rcases dN hp with⟨rfl,rfl⟩|⟨_,hp⟩
   ·exact pw.outer p _ b lQ hb
   ·exact pw.outer p o b hp hb
 have oH:=dH.sub;have wq:∀r',nxt+1<=r'->cZ o1 r (.box (cs.set k (.bk nxt 0))) r'=none:=λr' fe=>by
  rw[<-GP];simp only[cZ];rw[if_neg (by omega),if_neg (by omega)];exact h.fresh r' (by simp only;omega)
 rw[GP];exact⟨L1,⟨⟨W,base,M,w0,dH,h0.size,λt=>av.dZ tQ _ _ (av.dZ hA _ _ (h0.tmps t)),ME⟩,iZ.comp (iZ.comp h.r.dZ hA oH.1 oH.2) tQ oH.1 oH.2,h.r.defers,h.r.bg,⟨_,wq⟩⟩,wq,h.low,h.it⟩
@[simp] theorem vo:look []=λ_=>DV.undef:=by funext k;rfl
def AT:Option Ob->Option Ob->Prop
 |some a,some b=>gV a b
 |_,_=>False
def zx(low:Nat)(o0 o:aT):List (Nat×Ob)->Prop
 |[]=>True
 |(r,_)::l=>(r<low->AT (o0 r) (o r))/\zx low o0 o l
theorem yE{low:Nat}{o0 o:aT}:∀{l:List (Nat×Ob)},zx low o0 o l->∀r x,(r,x)∈l->r<low->AT (o0 r) (o r)
 |[],_,_,_,h=>by cases h
 |(r,x)::l,h,r',x',hm=>by
  rcases Zag.1 hm with e|hm
  ·cases e;exact h.1
  ·exact yE h.2 r' x' hm
theorem Le.zy{tm:Nat->DV}{o0 o:List (Nat×Ob)}{l:List (Nat×DV)}{nxt nxt':Nat}{td:List (List T)}{low:Nat}(wB:zx low (cC o0) (cC o) o0)(hk:kM nxt' o)
  (fG:tT (cC o0) (cC o) id o) (ja:gq (cC o0) (cC o) id tm l):Le ⟨tm,cC o0,nxt,low,td⟩ ⟨look l,cC o,nxt',low,td⟩:=by
 refine Le.cor id rfl rfl (λr hr=>?_) (λr' o' h=>px fG r' o' (l8 h)) (λr1 r2 h1 h2 e=>e) (λr hr o' h=>?_) (λk=>rE l ja k)
 ·cases ho:cC o r with
  |none=>exact ho
  |some x=>have:=k9 hk r x (l8 ho);simp only at hr;omega
 ·have:=yE wB r o' (l8 h) hr;simp only at h⊢;rw[h]at this;refine⟨rfl, ?_⟩;cases ho:cC o r with
  |none=>rw[ho]at this;exact this.elim
  |some x=>rw[ho]at this;exact⟨x,rfl,this⟩
attribute [simp] zx AT gV
@[simp] theorem gone_cons{σ:Nat->Nat}{r j:Nat}{o:Ob}{l:List (Nat×Ob)}:gone (cC ((j,o)::l)) σ r↔σ j≠r/\gone (cC l) σ r:=by
 refine⟨λh=>⟨h j (by simp),λr' fe=>h r' (by simp only[dq];split<;>simp[fe])⟩,λh=>Q8 h.1 h.2⟩
@[simp] theorem gone_nil{σ:Nat->Nat}{r:Nat}:gone (cC []) σ r:=λr' h=>absurd rfl h
end Go.DM
namespace Go.DM
open Go.RowKit
variable [Laid]
def over:List (Nat×Ob)->aT->aT
 |[],f=>f
 |(r,o)::l,f=>λk=>if k=r then some o else over l f k
@[simp] theorem bL(r:Nat)(o:Ob)(l:List (Nat×Ob))(f:aT)(k:Nat):over ((r,o)::l) f k=if k=r then some o else over l f k:=rfl
@[simp] theorem eO(f:aT)(k:Nat):over [] f k=f k:=rfl
@[simp] theorem ON(l:List (Nat×Ob))(f:aT)(r:Nat)(o:Ob):bR (over l f) (some (r,o))=over ((r,o)::l) f:=rfl
theorem kN(l:List (Nat×Ob))(f:aT)(r:Nat)(o:Ob):cZ (over l f) r o=over ((r,o)::l) f:=rfl
def bF:Ob->List Nat
 |.box cs=>bJ cs
 |.arr _ _ _ _=>[]
 |.map _ _ _ es=>es.flatMap λe=>names e.2.2
 |.iter m _ _ _=>[m]
def dO(f:aT)(n:Nat):Prop:=∀r o,f r=some o->r<n/\∀m∈bF o,f m≠none
section
variable{base:Nat}{W M:Nat->Prop}{w0 w:World}{objs aA:aT}{L:Loc}
theorem Df(hO:bK base W M w0 objs w L){N:Nat}(hN:∀r,N<=r->objs r=none):dO objs N:=by
 intro r o hr;refine⟨ZbW (λh=>by rw[hN r h]at hr;cases hr),λm hm=>?_⟩;have fG:=hO.ob r o hr;cases o with
 |box cs=>obtain⟨c,e,_,h,_⟩:=fG;exact eu.names cs (eu.bq cs _ h) m hm
 |arr _ _ _ _=>cases hm
 |iter m' _ _ _=>
  obtain⟨_,⟨_,_,_,_,h⟩,_⟩:=fG;simp only[bF,Zah]at hm;subst hm;simp[h]
 |map shs agg c es=>
  obtain⟨arr,_,h,_⟩:=fG;simp only[bF,ZaV]at hm;obtain⟨e,he,hm⟩:=hm;obtain⟨i,hi⟩:=ZbH he;obtain⟨x,_,_,_,hv⟩:=bj.get h hi;exact dI.names _ (dI.bq _ _ hv) m hm
def sameAt(objs aA:aT)(m:Nat):Prop:=∃o o',objs m=some o/\aA m=some o'/\gV o o'
theorem GS(wQ:∀b,WW W aA L b->WW W objs L b):
  ∀n,(∀(d:DV) (x:Value),SizeOf.sizeOf d<n->(∀m∈names d,sameAt objs aA m)->av w W objs L d x->av w W aA L d x)/\
   (∀(ds:List DV) (xs:List Value),SizeOf.sizeOf ds<n->(∀m∈bJ ds,sameAt objs aA m)->aJ w W objs L ds xs->aJ w W aA L ds xs)/\
   (∀(ds:List DV) (xs:List Value),SizeOf.sizeOf ds<n->(∀m∈bJ ds,sameAt objs aA m)->eZ w W objs L ds xs->eZ w W aA L ds xs):=by
 have Ct:=(cd.refl (WW W objs L) w).toKeepsC;have oH:∀b,b<w.heap.size->WW W aA L b->WW W objs L b:=λb _ h=>wQ b h;intro n;induction n with
 |zero=>exact⟨λ_ _ h=>by omega,λ_ _ h=>by omega,λ_ _ h=>by omega⟩
 |succ n ih=>
  refine⟨λd x hn hm hr=>?_,λds xs hn hm hr=>?_,λds xs hn hm hr=>?_⟩
  ·cases d with
   |undef=>simp[av]
   |skip=>simpa only[av]using hr
   |CL=>simpa only[av]using hr
   |aH=>simpa only[av]using hr
   |v t=>simp only[av]at hr⊢;exact aS.aC Ct oH t x hr
   |kG rows i off=>
    simp only[av]at hr⊢;obtain⟨b,o,sz,hx,hb,Ow,tK,h1,h2⟩:=hr;exact⟨b,o,sz,hx,hb,λk=>Ow (wQ b k),aY.aC Ct oH hb Ow sz o rows tK,h1,h2⟩
   |gD cs off=>
    simp only[av]at hr⊢;obtain⟨b,o,hx,hb,Ow,tK⟩:=hr;exact⟨b,o,hx,hb,λk=>Ow (wQ b k),cV.aC Ct oH hb Ow o cs tK⟩
   |ptr r off=>
    obtain⟨o,o',h1,h2,h3⟩:=hm r (by simp[names]);simp only[av]at hr⊢;obtain⟨⟨cs,hc⟩,hx⟩:=hr;rw[h1]at hc;cases hc;cases o' with
    |box qL=>exact⟨⟨qL,h2⟩,hx⟩
    |_=>exact h3.elim
   |iA r=>
    obtain⟨o,o',h1,h2,h3⟩:=hm r (by simp[names]);simp only[av]at hr⊢;obtain⟨⟨_,_,_,_,hc⟩,hx⟩:=hr;rw[h1]at hc;cases hc;cases o' with
    |map a b c d=>exact⟨⟨a,b,c,d,h2⟩,hx⟩
    |_=>exact h3.elim
   |iter r=>
    obtain⟨o,o',h1,h2,h3⟩:=hm r (by simp[names]);simp only[av]at hr⊢;obtain⟨⟨_,_,_,_,hc⟩,hx⟩:=hr;rw[h1]at hc;cases hc;cases o' with
    |iter a b c d=>exact⟨⟨a,b,c,d,h2⟩,hx⟩
    |_=>exact h3.elim
   |bk r ver=>
    obtain⟨o,o',h1,h2,h3⟩:=hm r (by simp[names]);simp only[av]at hr⊢;obtain⟨Gi,ver',e,sz,rows,hc,hle,hx⟩:=hr;rw[h1]at hc;cases hc;cases o' with
    |arr v2 e2 s2 r2=>obtain⟨rfl,rfl,h5⟩:=h3;exact⟨Gi,_,_,_,_,h2,hle,hx⟩
    |_=>exact h3.elim
   |jf r ver i off=>
    obtain⟨o,o',h1,h2,h3⟩:=hm r (by simp[names]);simp only[av]at hr⊢;obtain⟨Gi,ver',e,sz,rows,hc,hle,hx⟩:=hr;rw[h1]at hc;cases hc;cases o' with
    |arr v2 e2 s2 r2=>
     obtain⟨rfl,rfl,h5⟩:=h3;exact⟨Gi,_,_,_,_,h2,hle,λhv=>by obtain⟨g,k1,k2,k3,k4⟩:=hx hv;exact⟨g,k1,k2,k3,by rw[<-h5];exact k4⟩⟩
    |_=>exact h3.elim
   |D7 r m=>
    obtain⟨o,o',h1,h2,h3⟩:=hm r (by simp[names]);simp only[av]at hr⊢;obtain⟨⟨cs,hc⟩,hx⟩:=hr;rw[h1]at hc;cases hc;cases o' with
    |box qL=>exact⟨⟨qL,h2⟩,hx⟩
    |_=>exact h3.elim
   |sU r ver lo m=>
    obtain⟨o,o',h1,h2,h3⟩:=hm r (by simp[names]);simp only[av]at hr⊢;obtain⟨Gi,ver',e,sz,rows,hc,hle,hx⟩:=hr;rw[h1]at hc;cases hc;cases o' with
    |arr v2 e2 s2 r2=>
     obtain⟨rfl,rfl,h5⟩:=h3;exact⟨Gi,_,_,_,_,h2,hle,λhv=>by
      obtain⟨k0,p,cap,p2,k1,k2,k3⟩:=hx hv;exact⟨by rw[<-h5];exact k0,p,cap,p2,by rw[<-h5];exact k1,k2,k3⟩⟩
    |_=>exact h3.elim
   |agg ds=>
    simp only[av]at hr⊢;obtain⟨vs,hv,hr⟩:=hr;exact⟨vs,hv,ih.2.1 ds _ (by simp at hn⊢;omega) (λm h=>hm m (by simpa only[names]using h)) hr⟩
   |my f ds=>
    simp only[av]at hr⊢;obtain⟨vs,hv,hr⟩:=hr;exact⟨vs,hv,ih.2.1 ds _ (by simp at hn⊢;omega) (λm h=>hm m (by simpa only[names]using h)) hr⟩
   |eG ds=>
    simp only[av]at hr⊢;obtain⟨vs,hv,hr⟩:=hr;exact⟨vs,hv,ih.2.2 ds _ (by simp at hn⊢;omega) (λm h=>hm m (by simpa only[names]using h)) hr⟩
  ·cases ds with
   |nil=>simpa only[aJ]using hr
   |cons d ds=>
    simp only[aJ]at hr⊢;obtain⟨y,ys,hv,h1,h2,h3⟩:=hr;exact⟨y,ys,hv,h1,ih.1 d y (by simp at hn⊢;omega) (λm h=>hm m (by simp[bJ,h])) h2,ih.2.1 ds ys (by simp at hn⊢;omega) (λm h=>hm m (by simp[bJ,h])) h3⟩
  ·cases ds with
   |nil=>simpa only[eZ]using hr
   |cons d ds=>
    simp only[eZ]at hr⊢;obtain⟨y,ys,hv,h2,h3⟩:=hr;exact⟨y,ys,hv,ih.1 d y (by simp at hn⊢;omega) (λm h=>hm m (by simp[bJ,h])) h2,ih.2.2 ds ys (by simp at hn⊢;omega) (λm h=>hm m (by simp[bJ,h])) h3⟩
theorem Xu(wQ:∀b,WW W aA L b->WW W objs L b){r:Nat}{o:Ob}(hm:∀m∈bF o,sameAt objs aA m)(h:ng w W objs L base M r o):ng w W aA L base M r o:=by
 cases o with
 |box cs=>obtain⟨c,e,hc,hr,Mo⟩:=h;exact⟨c,e,hc,(GS wQ (SizeOf.sizeOf cs+1)).2.1 cs _ (by omega) hm hr,Mo⟩
 |arr ver e sz rows=>
  obtain⟨g1,g2,g3,g4⟩:=h;refine⟨g1,g2,g3, ?_⟩;rcases g4 with g4|⟨g,cap,cur,hv,hp,hh,k1,k2,k3,k4⟩
  ·exact .inl g4
  ·exact .inr ⟨g,cap,cur,hv,hp,hh,k1,k2,k3,aO.aC (cd.refl (WW W objs L) w).toKeepsC (λb _ hb=>wQ b hb) _ _ k4⟩
 |map shs agg c es=>
  obtain⟨arr,hc,hr,k1,k2,k3,Mo⟩:=h;refine⟨arr,hc, ?_,k1,k2,k3,Mo⟩;have key:∀(es:List (Nat×T×DV)) (xs:List MapEntry),(∀m∈es.flatMap (λe=>names e.2.2),sameAt objs aA m)->bj w W objs L es xs->bj w W aA L es xs:=by
   intro es;induction es with
   |nil=>intro xs _ h;simpa only[bj]using h
   |cons e es ih=>
    intro xs hm h;simp only[bj]at h⊢;obtain⟨x,jM,hx,h1,h2,h3,h4⟩:=h;exact⟨x,jM,hx,h1,aS.aC (cd.refl (WW W objs L) w).toKeepsC (λb _ hb=>wQ b hb) _ _ h2,
     (GS wQ (SizeOf.sizeOf e.2.2+1)).1 _ _ (by omega) (λm h=>hm m (by simp[h])) h3,ih jM (λm h=>hm m (by simp only[Zbo,Zao];exact .inr h)) h4⟩
  exact key es _ hm hr
 |iter m s sn l=>
  obtain⟨hc,⟨a1,a2,a3,a4,Jm⟩,Mo⟩:=h;obtain⟨o,o',h1,h2,h3⟩:=hm m (by simp[bF]);rw[Jm]at h1;cases h1;cases o' with
  |map b1 b2 b3 b4=>exact⟨hc,⟨b1,b2,b3,b4,h2⟩,Mo⟩
  |_=>exact h3.elim
end
def iq(objs aA:aT)(o o':Ob):Prop:=lS objs aA id o o'\/(o=o'/\∀m∈bF o,sameAt objs aA m)
theorem vx{objs aA:aT}{L:Loc}{o o':Ob}(h:iq objs aA o o')(r:Nat):L.own r o'=L.own r o:=by
 rcases h with h|⟨rfl,_⟩
 ·exact sv (L:=L) h r
 ·rfl
theorem Le.cor2{st df:kX}(Cq:df.low=st.low)(Q4:df.todo=st.todo)(AK:∀r,df.nxt<=r->df.objs r=none)
  (fG:∀r o',df.objs r=some o'->∃o,st.objs r=some o/\iq st.objs df.objs o o')
  (GH:∀r,r<st.low->∀o,st.objs r=some o->∃o',df.objs r=some o'/\gV o o')
  (ja:∀k,jj st.objs df.objs id (st.tmps k) (df.tmps k)):Le st df:=by
 intro κ nt a w L h;have ql:∀r' o',df.objs r'=some o'->∃o,st.objs (id r')=some o/\∀r,(L.Ck id).own r o'=L.own (id r) o:=λr' o' h=>let⟨o,h1,h2⟩:=fG r' o' h;⟨o,h1,vx (L:=L) h2⟩
 refine⟨L,⟨?_, ?_,h.r.defers,h.r.bg,⟨_,AK⟩⟩,AK,by rw[Cq];exact h.low,by rw[Cq];exact h.it⟩
 ·obtain⟨W,base,M,w0,dH,h0⟩:=h.r.ex;have hO:=h0.o;have wQ:∀b,WW W df.objs L b->WW W st.objs L b:=λb hb=>jY (L:=L) (σ:=id) ql b hb;have cr:=λ(d d':DV) (x:Value)=>(zt hO ql (SizeOf.sizeOf d+1)).1 d d' x (by omega);have crs:=λ(ds nK:List DV) (xs:List Value)=>(zt hO ql (SizeOf.sizeOf ds+1)).2.1 ds nK xs (by omega);refine⟨W,base,M,w0,by rw[Q4];exact dH,h0.size,λt=>cr _ _ _ (ja t) (h0.tmps t),⟨hO.fr,λr' o' gf=>?_,λr1 r2 o1 o2 b bG h1 h2 GI kz=>?_,λr' o' b gf hb=>?_,hO.under,hO.gl.aC (cd.refl (WW W st.objs L) w).toKeepsC λb _ hb=>wQ b hb⟩⟩
  ·obtain⟨o,ho,hc⟩:=fG r' o' gf;have hk:=hO.ob r' o ho;rcases hc with hc|⟨rfl,hc⟩
   ·cases o with
    |box cs=>
     cases o' with
     |box qL=>
      obtain⟨c,e,bM,hr,hm⟩:=hk;exact⟨c,e,bM,crs cs qL _ hc hr,hm⟩
     |_=>exact hc.elim
    |map shs agg c es=>
     cases o' with
     |map shs' agg' c' es'=>
      obtain⟨rfl,rfl,rfl,oW⟩:=hc;obtain⟨arr,bM,hr,k1,k2,k3,hm⟩:=hk;have key:∀(es es':List (Nat×T×DV)) (xs:List MapEntry),iR st.objs df.objs id es es'->bj w W st.objs L es xs->bj w W df.objs L es' xs/\es'.map (·.1)=es.map (·.1)/\es'.map (·.2.1)=es.map (·.2.1):=by
       intro es;induction es with
       |nil=>intro es' xs h1 h2;simp only[iR]at h1;subst h1;exact⟨by simpa only[bj]using h2,rfl,rfl⟩
       |cons e es ih=>
        intro es' xs h1 h2;cases es' with
        |nil=>simp[iR]at h1
        |cons e' es'=>
         simp only[iR]at h1;simp only[bj]at h2⊢;obtain⟨x,jM,rfl,q0,q1,q2,q3⟩:=h2;obtain⟨i1,i2,i3⟩:=ih es' jM h1.2.2.2 q3;refine⟨⟨x,jM,rfl,q0.trans h1.1, ?_,cr _ _ _ h1.2.2.1 q2,i1⟩,by simp[i2,h1.1],by simp[i3,h1.2.1]⟩;rw[<-h1.2.1];exact aS.aC (cd.refl (WW W st.objs L) w).toKeepsC (λb _ hb=>wQ b hb) _ _ q1
      obtain⟨i1,i2,i3⟩:=key es es' _ oW hr;refine⟨arr,bM,i1,λe he=>?_,λe he=>?_,by rw[i2];exact k3,hm⟩
      ·have:e.2.1∈es.map (·.2.1):=by rw[<-i3];exact Zal.2 ⟨e,he,rfl⟩
       obtain⟨e0,h0',Mr⟩:=Zal.1 this;rw[<-Mr];exact k1 e0 h0'
      ·have:e.1∈es.map (·.1):=by rw[<-i2];exact Zal.2 ⟨e,he,rfl⟩
       obtain⟨e0,h0',Mr⟩:=Zal.1 this;rw[<-Mr];exact k2 e0 h0'
     |_=>exact hc.elim
    |iter m s sn l=>
     cases o' with
     |iter m' s' sn' l'=>
      obtain⟨rfl,rfl,rfl,rfl,Jm⟩:=hc;obtain⟨bM,_,hm⟩:=hk;exact⟨bM,AH Jm,hm⟩
     |_=>exact hc.elim
    |arr ver e sz rows=>
     cases o' with
     |box _=>exact hc.elim
     |map _ _ _ _=>exact hc.elim
     |iter _ _ _ _=>exact hc.elim
     |arr ver' e' ga di=>
      obtain⟨rfl,rfl,rfl⟩:=hc;obtain⟨g1,g2,g3,g4⟩:=hk;refine⟨g1,g2,g3, ?_⟩;rcases g4 with g4|⟨g,cap,cur,hv,hp,hh,k1,k2,k3,k4⟩
      ·exact .inl g4
      ·exact .inr ⟨g,cap,cur,hv,hp,hh,k1,k2,k3,aO.aC (cd.refl (WW W st.objs L) w).toKeepsC (λb _ hb=>wQ b hb) _ _ k4⟩
   ·exact Xu wQ hc hk
  ·obtain⟨p1,q1,c1⟩:=fG r1 o1 h1;obtain⟨p2,q2,c2⟩:=fG r2 o2 h2;rw[vx c1]at GI;rw[vx c2]at kz;exact hO.apart r1 r2 p1 p2 b bG q1 q2 GI kz
  ·obtain⟨p1,q1,c1⟩:=fG r' o' gf;rw[vx c1]at hb;exact hO.outer r' p1 b q1 hb
 ·have ha:=h.r.dZ;refine⟨ha.keeps,λb hb hw=>ha.sub b hb (jY (L:=L) (σ:=id) ql b hw),λr o hr hk=>?_,λr ver e sz rows hr=>?_,ha.yl⟩
  ·have cW:r<st.low:=ZbW λhle=>by rw[h.low r hle]at hr;cases hr
   obtain⟨e1,o1,lQ,qk⟩:=ha.fix r o hr hk;obtain⟨o',gf,hv⟩:=GH r cW _ lQ;exact⟨e1,o',gf,(vh hv).trans qk⟩
  ·have cW:r<st.low:=ZbW λhle=>by rw[h.low r hle]at hr;cases hr
   obtain⟨v1,e1,s1,r1,lQ,l1,k1⟩:=ha.arr r ver e sz rows hr;obtain⟨o',gf,hv⟩:=GH r cW _ lQ;cases o' with
   |box qL=>exact hv.elim
   |map _ _ _ _=>exact hv.elim
   |iter _ _ _ _=>exact hv.elim
   |arr v2 e2 s2 r2=>
    obtain⟨rfl,rfl,h3⟩:=hv;exact⟨v1,e2,s1,r2,gf,l1,λhv=>by
     obtain⟨a1,a2,a3⟩:=k1 hv;exact⟨a1,a2,by rw[<-h3];exact a3⟩⟩
theorem bu(o:Ob):gV o o:=by cases o<;>simp[gV]
def gR(low:Nat)(a b:aT):List (Nat×Ob)->Prop
 |[]=>True
 |(r,o)::l=>(∃o0,a r=some o0/\iq a b o0 o/\(r<low->gV o0 o))/\gR low a b l
def bZ(low:Nat)(l1:List (Nat×Ob)):List (Nat×Ob)->Prop
 |[]=>True
 |(r,_)::l=>(r<low->∃o,(r,o)∈l1)/\bZ low l1 l
theorem oL:∀{l:List (Nat×Ob)} {f:aT} {r:Nat} {o:Ob},over l f r=some o->(r,o)∈l\/((∀o',(r,o')∉l)/\f r=some o)
 |[],_,_,_,h=>.inr ⟨λ_ h=>(by cases h),h⟩
 |(j,x)::l,f,r,o,h=>by
  simp only[bL]at h;split at h
  ·rename_i e;cases h;subst e;exact .inl (Za5 ..)
  ·rename_i bG;rcases oL h with h|⟨h1,h2⟩
   ·exact .inl (ZaW _ h)
   ·refine .inr ⟨λo' gf=>?_,h2⟩;rcases Zag.1 gf with e|gf
    ·cases e;exact bG rfl
    ·exact h1 o' gf
theorem ee{l:List (Nat×Ob)}{f:aT}{r:Nat}(h:∀o',(r,o')∉l):over l f r=f r:=by
 induction l with
 |nil=>rfl
 |cons p l ih=>
  obtain⟨j,x⟩:=p;rw[bL,if_neg (λe=>h x (by rw[e];exact Za5 ..))];exact ih λo' gf=>h o' (ZaW _ gf)
theorem zz{l:List (Nat×Ob)}{f:aT}{r:Nat}{o:Ob}(h:(r,o)∈l):∃o',over l f r=some o'/\(r,o')∈l:=by
 induction l with
 |nil=>cases h
 |cons p l ih=>
  obtain⟨j,x⟩:=p;by_cases e:r=j
  ·subst e;exact⟨x,by simp,Za5 ..⟩
  ·rcases Zag.1 h with h|h
   ·cases h;exact absurd rfl e
   ·obtain⟨o',h1,h2⟩:=ih h;exact⟨o',by rw[bL,if_neg e];exact h1,ZaW _ h2⟩
theorem tY{low:Nat}{a b:aT}:∀{l:List (Nat×Ob)},gR low a b l->∀r o,(r,o)∈l->∃o0,a r=some o0/\iq a b o0 o/\(r<low->gV o0 o)
 |[],_,_,_,h=>by cases h
 |(j,x)::l,hk,r,o,h=>by
  rcases Zag.1 h with e|h
  ·cases e;exact hk.1
  ·exact tY hk.2 r o h
theorem pC{low:Nat}{l1:List (Nat×Ob)}:∀{l:List (Nat×Ob)},bZ low l1 l->∀r o,(r,o)∈l->r<low->∃o,(r,o)∈l1
 |[],_,_,_,h=>by cases h
 |(j,x)::l,hk,r,o,h=>by
  rcases Zag.1 h with e|h
  ·cases e;exact hk.1
  ·exact pC hk.2 r o h
theorem Le.fp{tm:Nat->DV}{l0 l1:List (Nat×Ob)}{f:aT}{l:List (Nat×DV)}{nxt nxt':Nat}{td:List (List T)}{low:Nat}(hf:dO f low)(hn:low<=nxt')(hb:kM nxt' l1)
  (h0:bZ low l1 l0) (h1:gR low (over l0 f) (over l1 f) l1) (ja:gq (over l0 f) (over l1 f) id tm l):
  Le ⟨tm,over l0 f,nxt,low,td⟩ ⟨look l,over l1 f,nxt',low,td⟩:=by
 have GU:∀r,r<low->∀o,over l0 f r=some o->∃o',over l1 f r=some o'/\gV o o':=by
  intro r hr o ho;by_cases qg:∃o',(r,o')∈l1
  ·obtain⟨o1,GP⟩:=qg;obtain⟨o2,h2,h3⟩:=zz (f:=f) GP;obtain⟨o0,k1,_,k3⟩:=tY h1 r o2 h3;rw[ho]at k1;cases k1;exact⟨o2,h2,k3 hr⟩
  ·have hnot:∀o',(r,o')∉l1:=λo' h=>qg ⟨o',h⟩;rcases oL ho with h|⟨_,h⟩
   ·exact absurd (pC h0 r o h hr) qg
   ·exact⟨o,by rw[ee hnot];exact h,bu o⟩
 refine Le.cor2 rfl rfl (λr hr=>?_) (λr o' gf=>?_) (λr hr o ho=>GU r hr o ho) (λk=>rE l ja k)
 ·cases ho:over l1 f r with
  |none=>exact ho
  |some o=>
   rcases oL ho with h|⟨_,h⟩
   ·have:=k9 hb r o h;simp only at hr;omega
   ·have:=(hf r o h).1;simp only at hr;omega
 ·rcases oL gf with h|⟨hnot,h⟩
  ·obtain⟨o0,k1,k2,_⟩:=tY h1 r o' h;exact⟨o0,k1,k2⟩
  ·obtain⟨cW,hnm⟩:=hf r o' h;have hold:over l0 f r=some o':=by
    by_cases qg:∃o1,(r,o1)∈l0
    ·obtain⟨o1,GP⟩:=qg;obtain⟨o2,h2⟩:=pC h0 r o1 GP cW;exact absurd h2 (hnot o2)
    ·rw[ee λo1 h1=>qg ⟨o1,h1⟩];exact h
   refine⟨o',hold,.inr ⟨rfl,λm hm=>?_⟩⟩;have WT:=hnm m hm;have hmlt:m<low:=by
    cases hfm:f m with
    |none=>exact absurd hfm WT
    |some x=>exact(hf m x hfm).1
   have hex:∃o,over l0 f m=some o:=by
    by_cases qg:∃o1,(m,o1)∈l0
    ·obtain⟨o1,GP⟩:=qg;obtain⟨o2,h2,_⟩:=zz (f:=f) GP;exact⟨o2,h2⟩
    ·rw[ee λo1 h1=>qg ⟨o1,h1⟩];exact ZbO.1 WT
   obtain⟨o,ho⟩:=hex;obtain⟨o2,h2,h3⟩:=GU m hmlt o ho;exact⟨o,o2,ho,h2,h3⟩
section
variable{P:Program}
theorem aQ.uG{f:FuncId}{nt:Nat}{d:DC}{rs:List bO}(h:aQ P f nt d rs){args:List DV}{objs:aT}{r:iC}{N:Nat}(hN:∀r,N<=r->objs r=none)(hlen:args.length<=nt)
  (k:dO objs N->aa P nt d (Xl rs r) ⟨look (args.zipIdx.map λp=>(p.2,p.1)),over [] objs,N,N,[]⟩):aZ P f args objs r:=
 ⟨h.entry,λbase W M w0 w L vals hO Oc=>(aQ.okS h hN hlen (C9 (k (Df hO hN)))).run base W M w0 w L vals hO Oc⟩
theorem vy{fn:Func}{t:Nat}{tmps:Array Value}{w:World}(hr:fn.results.toList.mapM (tj P)=some [.slot t]):(results fn tmps).run P w=.ok (tmps.getD t Go.undef) w:=by
 have h1:∃rv,fn.results.toList=[rv]/\tj P rv=some (.slot t):=by
  cases h:fn.results.toList with
  |nil=>rw[h]at hr;simp at hr
  |cons rv l=>
   rw[h]at hr;simp only[Za2,Zaj,Zaf,Zac,Zaa,Za6]at hr;obtain⟨x,hx,ys,og,rfl,rfl⟩:=hr;cases l with
   |nil=>exact⟨rv,rfl,hx⟩
   |cons y l=>simp[Zac]at og
 obtain⟨rv,h1,h2⟩:=h1;have h3:fn.results= #[rv]:=by rw[<-Array.toArray_toList (xs:=fn.results),h1]
 cases rv with
 |tmp t'=>
  simp only[tj,Zaa,bO.slot.injEq]at h2;subst h2;have tK:(results fn tmps)=(do
   let vs<-fn.results.mapM (λrv=>((match rv with|.tmp t=>pure (tmps.getD t Go.undef)|.cell b t=>do loadVar t (<-asAddr (tmps.getD b Go.undef))):Sem Value))
   pure (if h:vs.size=1 then vs[0]else .tuple vs)):=rfl
  have hm:(fn.results.mapM (λrv=>((match rv with|.tmp t=>pure (tmps.getD t Go.undef)|.cell b t=>do loadVar t (<-asAddr (tmps.getD b Go.undef))):Sem Value))).run P w=.ok #[tmps.getD t' Go.undef] w:=by
   rw[ZcG,h1];simp
  rw[tK];simp only[Sem.run_bind,hm,Result.andThen_ok,Sem.run_pure];rfl
 |cell b t'=>
  simp only[tj]at h2;split at h2<;>simp at h2
def finF(t e sz:Nat)(rows:List (List T)):Exit->kX->Prop
 |.normal,st|.ret,st=>(st.tmps t=.aH/\rows=[]/\0<sz)\/∃r ver,st.tmps t=.bk r ver/\st.objs r=some (.arr ver e sz rows)
 |_,_=>False
theorem aQ.okF{f:FuncId}{nt:Nat}{d:DC}{t:Nat}(h:aQ P f nt d [.slot t]){ts:List T}{e sz:Nat}{rows:List (List T)}(hlen:ts.length<=nt)(k:aa P nt d (finF t e sz rows) (nO ts)):lK P f ts e sz rows:=by
 have Ay:=h.entry;obtain⟨fn,wx,rfl,h3,hr,_⟩:=h;obtain⟨c,hb,hc⟩:=Zab.1 h3;refine⟨Ay,λW w vals hW hg eJ=>?_⟩;have hl:=dv.length eJ;simp only[ZaU]at hl;have u7:Rel ⟨W,λ_=>none,⟨λ_=>0,λ_=>Go.undef,0⟩,w,w.heap.size,λ_=>False,w,none,none⟩ fn.ntmps (nO ts) {tmps:=vals++Array.replicate (fn.ntmps-vals.size) Go.undef,defers:=[]} w ⟨λ_=>0,λ_=>Go.undef,0⟩:=by
  refine⟨⟨⟨W,w.heap.size,λ_=>False,w,⟨rfl,rfl,rfl,rfl,rfl⟩,by simp;omega,λk=>?_,⟨Fr.refl (Zae _),(λr o h=>by cases h),(λr r' o o' b _ h=>by cases h),(λr o b h=>by cases h),hW,hg.start⟩⟩,
   iZ.ch (cd.refl _ _),⟨[],rfl,ZbT,(λ_ h=>by cases h),λ_=>rfl⟩,λ_=>Zae _,⟨0,λ_ _=>rfl⟩⟩,λ_ _=>rfl,λ_ _=>rfl,λh=>by cases h⟩
  simp only[nO];cases hk:ts[k]? with
  |some x=>
   obtain⟨v,hv,jl⟩:=dv.get eJ hk;simp only[oI hv,ze,av];refine aS.aC (cd.refl W w).toKeepsC ?_ x v jl;rintro b hb (h|⟨r,o,h,_⟩)
   ·exact h
   ·cases h
  |none=>
   have zl:vals.size<=k:=by
    have:=ZbF.1 hk;omega
   simp only[ze,av,oJ zl]
 refine callsIn_wide.1 (callsIn_of_wp_marks (n:=0) wx hb trivial ?_);refine wpIn_mono (k.run c hc 0 _ _ _ _ ⟨λJ hJ=>(by cases hJ),λl hl=>(by cases hl)⟩ u7) ?_;rintro e' a' w' ⟨df,L',q,r'⟩;have done:((df.tmps t=.aH/\rows=[]/\0<sz)\/∃r ver,df.tmps t=.bk r ver/\df.objs r=some (.arr ver e sz rows))->LeavesInM Fence.wide 0 P fn a'.tmps (λe' w'=>∃v,e'=.returned v/\tG w.heap.size w w'/\Ai w.heap.size w' W e sz rows v) a'.defers .returning w':=by
  intro hq;obtain⟨Ds,h1,h2,h3,_⟩:=r'.r.defers;rw[h1];refine leaves (κ:=⟨W,λ_=>none,⟨λ_=>0,λ_=>Go.undef,0⟩,w,w.heap.size,λ_=>False,w,none,none⟩) rfl ?_ Ds a' w' L' r'.r h1 h2 h3;intro a2 w2 L2 h4;obtain⟨W',MD,M',w0',dH,h0⟩:=h4.ex;obtain⟨_,e1,e2,e3,e4⟩:=dH
  replace h0:R0 w.heap.size W (λ_=>False) w fn.ntmps df.tmps df.objs a2 w2 L2:=by rw[e1,e2,e3,e4]at h0;exact h0
  have fr:=h0.o.fr;refine⟨_,vy hr,_,rfl,⟨⟨fr.os,fr.tape,fr.output,fr.size,λk hk=>fr.block k hk (λx=>x)⟩,fr.drawn⟩, ?_⟩;have ht:=h0.tmps t;rcases hq with⟨hq,rfl,gE⟩|⟨r,ver,hq,ho⟩
  ·rw[hq]at ht;simp only[av]at ht;exact⟨gE,λ_ h=>(by cases h),.inl ⟨rfl,ht⟩⟩
  ·rw[hq]at ht;simp only[av]at ht;obtain⟨_,ver',e',ga,di,gf,_,hx⟩:=ht;rw[ho]at gf;cases gf;have hx:=hx rfl;obtain⟨g1,g2,g3,g4⟩:=h0.o.ob r _ ho;refine⟨g1,g2, ?_⟩;rcases g4 with⟨h5,a,h6⟩|⟨g,cap,cur,hv,hp,hh,k1,k2,k3,k4⟩
   ·exact .inl ⟨h5,a,hx.trans h6⟩
   ·have uD:aN (L2.sl r)=some g:=by rw[hv];simp[aN,Zay.1 hp]
    refine .inr ⟨g,cap,cur,hx.trans hv,hp,(g3 g uD).resolve_right (λx=>x),hh,k1,k2,k3,aO.aC (cd.refl (WW W df.objs L2) w2).toKeepsC (λb _ hb=>?_) _ _ k4⟩;rcases hb with hb|rfl
    ·exact .inl hb
    ·exact .inr ⟨r,_,ho,uD⟩
 cases e' with
 |normal=>exact done q
 |ret=>exact done q
 |_=>exact q.elim
section
variable{κ:Ctx}{nt:Nat}{Γ:Env}{nxt:Nat}{ro:Option Nat}{n:Nat}
end
section
variable{nt:Nat}{Γ:Env}{Q:Exit->kX->Prop}{tm:Nat->DV}{ob:aT}{nxt low:Nat}{td:List (List T)}
end
end
end Go.DM
namespace Go.DM
variable [Laid]
def gJ(f:Nat->Nat)(r:RO):RO:=⟨r.d,r.dst,r.guard,r.after,r.iN.map (·.map f)⟩
def db(f:Nat->Nat)(rs:List RO):List RO:=rs.map (gJ f)
theorem Rh{f:Nat->Nat}(hf:∀a b,f a=f b->a=b)(x y:Option (List Nat)):zd (x.map (·.map f)) (y.map (·.map f))=zd x y:=by
 cases x<;>cases y<;>simp only[Option.map_none,Za1,zd]
 rename_i a b;rw[ZcP];simp only[List.all_map,ZaI,Function.comp_apply,bne_iff_ne,ne_eq];exact⟨λh x hx y hy e=>h x hx y hy (by rw[e]),λh x hx y hy e=>h x hx y hy (hf _ _ e)⟩
theorem OO{f:Nat->Nat}(hf:∀a b,f a=f b->a=b)(x y:RO):indep (gJ f x) (gJ f y)=indep x y:=by
 unfold indep;rw[show(gJ f x).iN=x.iN.map (·.map f)from rfl,show(gJ f y).iN=y.iN.map (·.map f)from rfl,Rh hf];rfl
theorem OP(f:Nat->Nat)(rs:List RO):lp (db f rs)=lp rs:=by
 unfold lp db;rw[Zb4];rfl
theorem AX(f:Nat->Nat):∀rs:List RO,dM (db f rs)=dM rs
 |[]=>rfl
 |r::rs=>by
  simp only[db,Zau,dM,List.all_map];have:=AX f rs;simp only[db]at this;rw[this];rfl
theorem gr{f:Nat->Nat}(hf:∀a b,f a=f b->a=b)(nt:Nat)(draw:Bool)(rs:List RO):da nt draw (db f rs)=da nt draw rs:=by
 unfold da;rw[AX,OP];have h1:(db f rs).all (kh nt)=rs.all (kh nt):=by simp only[db,List.all_map];rfl
 have h2:sj (db f rs) (lp rs)=sj rs (lp rs):=by
  unfold sj;simp only[db,Zbt,Zbp]
  congr 1
  funext i;cases rs[i]? with
  |none=>rfl
  |some y=>
   cases(lp rs)[i]? with
   |none=>rfl
   |some m=>
    simp only[Za1]
    congr 1
    congr 1
    funext x;cases rs[x]? with
    |none=>rfl
    |some r=>simp only[Za1,OO hf]
 rw[h1,h2]
def GV(b N:Nat)(n:Nat):Nat:=if n=0 then b else N+n
theorem OQ{b N:Nat}(h:b<N)(x y:Nat)(e:GV b N x=GV b N y):x=y:=by
 unfold GV at e;split at e<;>split at e<;>omega
theorem iu(l:List (Nat×Ob))(r:Nat)(o:Ob):cZ (cC l) r o=cC ((r,o)::l):=rfl
end Go.DM
namespace Go.DM
open Go.RowKit
variable [Laid]
section
variable{P:Program}{nt:Nat}{Γ:Env}{Q:Exit->kX->Prop}{st:kX}{tm:Nat->DV}{ob:aT}{nxt low:Nat}{td:List (List T)}
theorem aa.regionF(ay:aw P Γ)(hm:P.follows .mixedOrders=true){d:DC}{rs:List RO}(hd:d=.region false (rs.map bare))(aF:da nt false rs=true)
  (bz:iP Γ st.nxt rs ⟨st.tmps,st.objs,st.todo⟩) (hQ:Q .normal ⟨(cM Γ st.nxt rs ⟨st.tmps,st.objs,st.todo⟩).tmps,(cM Γ st.nxt rs ⟨st.tmps,st.objs,st.todo⟩).objs,st.nxt+nt+1,st.low,(cM Γ st.nxt rs ⟨st.tmps,st.objs,st.todo⟩).todo⟩):
  aa P nt d Q st:=by
 refine⟨λc hc=>?_⟩;subst hd;obtain⟨id,ops,rfl,jL,hok'⟩:=po hc;exact pq ay hm jL aF bz hQ
theorem aa.OS(ay:aw P Γ)(hm:P.follows .mixedOrders=true){d:DC}{rs:List RO}(hd:d=.region false (rs.map bare))(aF:da nt false rs=true)(ks:List Nat)
  (h:exec Γ nxt rs ⟨tm,ob,td⟩ λs=>Q .normal ⟨look (kr ks s.tmps),s.objs,nxt+nt+1,low,s.todo⟩):aa P nt d Q ⟨tm,ob,nxt,low,td⟩:=by
 have:=eM _ _ _ h;refine aa.u4 (Q:=λe s=>e=.normal/\s=⟨(cM Γ nxt rs ⟨tm,ob,td⟩).tmps,(cM Γ nxt rs ⟨tm,ob,td⟩).objs,nxt+nt+1,low,(cM Γ nxt rs ⟨tm,ob,td⟩).todo⟩) (aa.regionF ay hm hd aF (st:=⟨tm,ob,nxt,low,td⟩) this.1 ⟨rfl,rfl⟩) ?_;rintro e s ⟨rfl,rfl⟩;exact⟨_,Le.vd (mP _ ks),this.2⟩
theorem aa.ew(ay:aw P Γ)(hm:P.follows .mixedOrders=true){d b:DC}{rs:List RO}(hd:d=.region false (rs.map bare))(aF:da nt false rs=true)(ks:List Nat)
  (h:exec Γ nxt rs ⟨tm,ob,td⟩ λs=>aa P nt b Q ⟨look (kr ks s.tmps),s.objs,nxt+nt+1,low,s.todo⟩):aa P nt (.seq d b) Q ⟨tm,ob,nxt,low,td⟩:=
 aa.seq (aa.OS ay hm hd aF ks h)
end
end Go.DM
namespace Go.DM
open Go.RowKit
variable [Laid]
section
variable{Γ:Env}{nxt:Nat}{K:RS->Prop}{rs:List RO}{tm:Nat->DV}{ob:aT}{td:List (List T)}{dst:Option Nat}{d:nI}{s:Nat}{af l:List Nat}
@[simp] theorem exec_h_t(b:Bool)(h:tm s=.v (.bool b)):exec Γ nxt (⟨d,dst,some (s,b),af,some l⟩::rs) ⟨tm,ob,td⟩ K=(b8 ⟨d,dst,none,af,some l⟩ tm/\(oV d=true->C3 l ob (lV Γ d tm ob td).objs)/\kq Γ nxt d rs tm ob td K dst tm):=by
 simp only[exec,h,forall_const,iF h,AA];cases b<;>simp[u9,b8]
theorem GW(b c:Bool)(h:tm s=.v (.bool b))(hc:b= !c):exec Γ nxt (⟨d,dst,some (s,c),af,some l⟩::rs) ⟨tm,ob,td⟩ K=exec Γ nxt rs ⟨b7 tm dst .skip,ob,td⟩ K:=by
 subst hc;cases c
 ·have h:tm s=.v (.bool true):=h;simp[exec,h,iF h]
 ·have h:tm s=.v (.bool false):=h;simp[exec,h,iF h]
@[simp] theorem exec_h_tf(h:tm s=.v (.bool true)):exec Γ nxt (⟨d,dst,some (s,false),af,some l⟩::rs) ⟨tm,ob,td⟩ K=exec Γ nxt rs ⟨b7 tm dst .skip,ob,td⟩ K:=GW true false h rfl
@[simp] theorem exec_h_ft(h:tm s=.v (.bool false)):exec Γ nxt (⟨d,dst,some (s,true),af,some l⟩::rs) ⟨tm,ob,td⟩ K=exec Γ nxt rs ⟨b7 tm dst .skip,ob,td⟩ K:=GW false true h rfl
@[simp] theorem exec_h_sk{want:Bool}(h:tm s=.skip):exec Γ nxt (⟨d,dst,some (s,want),af,some l⟩::rs) ⟨tm,ob,td⟩ K=exec Γ nxt rs ⟨b7 tm dst .skip,ob,td⟩ K:=by
 simp only[exec,h]
end
end Go.DM
