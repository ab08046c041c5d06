/- Part of the proof. Conditions: none. -/
import Derived.Test.YtljcdomdjgolkaaGreatDoorXac
import Derived.RangeFuncLeaves
import Derived.RangeFuncRecord
import Derived.RangeFuncNested
set_option linter.unusedSectionVars false
set_option linter.unusedSimpArgs false
set_option linter.unusedVariables false
namespace Go.DM
open Go.RowKit
variable [Laid]
inductive bO where
 |slot (t:Nat)
 |cell (a n:Nat) (agg:Bool)
def tt(P:Program):ResultVar->Option bO
 |.tmp t=>some (.slot t)
 |.cell a t=>match P.underlying t,P.info? t with
  |some d,some i=>some (.cell a i.size (bA d))
  |_,_=>none
def bO.pw(st:lj):bO->oF
 |.slot t=>⟨True,st.tmps t,none⟩
 |.cell a n agg=>ga n agg st.objs (st.tmps a)
def rL(lend:Bool)(st:lj):List bO->Prop
 |[]=>True
 |r::rs=>((r.pw st).ok/\Cv lend st.objs (r.pw st).val)/\rL lend st rs
def vf(st:lj)(rs:List bO):List T:=rs.map λr=>qw st.objs (r.pw st).val
def Rs(rs:List bO)(t:T)(st:lj):Prop:=
 rL true st rs/\t=(match vf st rs with|[x]=>x|ts=>.eC ts)
def Kq(rs:List bO)(r:iD)(st:lj):Prop:=
 rL false st rs/\st.objs=r.objs/\r.val=.v (match vf st rs with|[x]=>x|ts=>.eC ts)
def zo:Option T->DV
 |some t=>.v t
 |none=>.skip
def nU(ts:List T):lj:=⟨λk=>zo ts[k]?,λ_=>none,1000,1000,[]⟩
def Kr:Option DV->DV
 |some d=>d
 |none=>.skip
def yC(args:List DV)(objs:aU)(N:Nat):lj:=⟨λk=>Kr args[k]?,objs,N,N,[]⟩
def finQ(rs:List bO)(t:T):Exit->lj->Prop
 |.normal,st|.ret,st=>Rs rs t st
 |_,_=>False
def Yi(rs:List bO)(r:iD):Exit->lj->Prop
 |.normal,st|.ret,st=>Kq rs r st
 |_,_=>False
section
variable{P:Program}
theorem Yj{base:Nat}{W M:Nat->Prop}{w0 w:World}{nt:Nat}{st:lj}{a:Act}{L:Loc}(h:R0 base W M w0 nt st.tmps st.objs a w L){lend:Bool}{W':Nat->Prop}(hW:lend=true->∀r o b,st.objs r=some o->L.own r o=some b->¬W' b)(OJ:∀b,W' b->WW W st.objs L b){rv:ResultVar}{r:bO}(hr:tt P rv=some r)(aG:(r.pw st).ok/\Cv lend st.objs (r.pw st).val):
  ∃v,((match rv with|.tmp t=>pure (a.tmps.getD t Go.undef)|.cell b t=>do loadVar t (<-asAddr (a.tmps.getD b Go.undef))):Sem Value).run P w=.ok v w/\aS w W' (qw st.objs (r.pw st).val) v:=by
 have fin:∀{d:DV} {x:Value},av w W st.objs L d x->Cv lend st.objs d->aS w W' (qw st.objs d) x:=λhd hk=>
  (u4 (lend:=lend) W' h.o hW OJ).1 _ _ hd hk
 cases rv with
 |tmp t=>
  simp only[tt,Zaa]at hr;subst hr;exact⟨_,rfl,fin (h.tmps t) aG.2⟩
 |cell b t=>
  simp only[tt]at hr;split at hr
  ·rename_i d i hd hi;simp only[Zaa]at hr;subst hr;simp only[bO.pw]at aG;obtain⟨hp,v,bz,hv⟩:=Ai h.o hd hi (h.tmps b) aG.1;refine⟨v, ?_,fin hv aG.2⟩;have hpt:∃p,a.tmps.getD b Go.undef=.pointer (some p):=by
    have hx:=h.tmps b;have ho:=aG.1;cases hq:st.tmps b with
    |ptr r off=>rw[hq]at hx;simp only[av]at hx;exact⟨_,hx.2⟩
    |kL rows j off=>rw[hq]at hx;simp only[av]at hx;obtain⟨_,_,_,hx,_⟩:=hx;exact⟨_,hx⟩
    |gE cs off=>rw[hq]at hx;simp only[av]at hx;obtain⟨_,_,hx,_⟩:=hx;exact⟨_,hx⟩
    |jh r ver j off=>rw[hq]at hx;simp only[av]at hx;obtain⟨⟨_,_,hx⟩,_⟩:=hx;exact⟨_,hx⟩
    |v t'=>
     rw[hq]at hx ho;cases t' with
     |box cs=>simp only[av,aS]at hx;obtain⟨_,_,hx,_⟩:=hx;exact⟨_,hx⟩
     |_=>exact ho.elim
    |_=>rw[hq]at ho;exact ho.elim
   obtain⟨p,hp⟩:=hpt;show Sem.run P (do loadVar t (<-asAddr (a.tmps.getD b Go.undef))) w=_;rw[hp]at bz⊢;simpa [Instr.loadAt,Instr.sureAddr,asAddr]using bz
  ·cases hr
theorem Nb{base:Nat}{W M:Nat->Prop}{w0 w:World}{nt:Nat}{st:lj}{a:Act}{L:Loc}(h:R0 base W M w0 nt st.tmps st.objs a w L){lend:Bool}{W':Nat->Prop}(hW:lend=true->∀r o b,st.objs r=some o->L.own r o=some b->¬W' b)(OJ:∀b,W' b->WW W st.objs L b):∀{rvs:List ResultVar} {rs:List bO},rvs.mapM (tt P)=some rs->rL lend st rs->
  ∃vs,(rvs.mapM (λrv=>((match rv with|.tmp t=>pure (a.tmps.getD t Go.undef)|.cell b t=>do loadVar t (<-asAddr (a.tmps.getD b Go.undef))):Sem Value))).run P w=.ok vs w/\dx w W' (vf st rs) vs
 |[],rs,hr,_=>by simp at hr;subst hr;exact⟨[],by simp,by simp[vf,dx]⟩
 |rv::rvs,rs,hr,aG=>by
  simp only[Za1,Zak,Zaf,Zac,Zaa]at hr;obtain⟨r,lX,rs',jM,rfl⟩:=hr;simp only[rL]at aG;obtain⟨v,h1,h2⟩:=Yj h hW OJ lX aG.1;obtain⟨vs,h3,h4⟩:=Nb h hW OJ jM aG.2;refine⟨v::vs, ?_, ?_⟩
  ·rw[Za1];simp only[Sem.run_bind,h1,Result.andThen_ok,h3,Sem.run_pure]
  ·simp only[vf,Zau,dx];exact⟨v,vs,rfl,h2,h4⟩
theorem rN{base:Nat}{W M:Nat->Prop}{w0 w:World}{nt:Nat}{st:lj}{a:Act}{L:Loc}(h:R0 base W M w0 nt st.tmps st.objs a w L){lend:Bool}{W':Nat->Prop}(hW:lend=true->∀r o b,st.objs r=some o->L.own r o=some b->¬W' b)(OJ:∀b,W' b->WW W st.objs L b){fn:Func}{rs:List bO}(hr:fn.results.toList.mapM (tt P)=some rs){t:T}(aG:rL lend st rs/\t=(match vf st rs with|[x]=>x|ts=>.eC ts)):
  ∃v,(results fn a.tmps).run P w=.ok v w/\aS w W' t v:=by
 obtain⟨h1,rfl⟩:=aG;obtain⟨vs,h2,h3⟩:=Nb h hW OJ hr h1;have hm:(fn.results.mapM (λrv=>((match rv with|.tmp t=>pure (a.tmps.getD t Go.undef)|.cell b t=>do loadVar t (<-asAddr (a.tmps.getD b Go.undef))):Sem Value))).run P w=.ok vs.toArray w:=by
  rw[ZcG];simp only[Sem.run_map,h2,Result.andThen_ok]
 have hl:vs.length=(vf st rs).length:=dx.length h3;refine⟨if h:vs.toArray.size=1 then vs.toArray[0]else .tuple vs.toArray, ?_, ?_⟩
 ·have tS:(results fn a.tmps)=(do
   let vs<-fn.results.mapM (λrv=>((match rv with|.tmp t=>pure (a.tmps.getD t Go.undef)|.cell b t=>do loadVar t (<-asAddr (a.tmps.getD b Go.undef))):Sem Value))
   pure (if h:vs.size=1 then vs[0]else .tuple vs)):=rfl
  rw[tS];simp only[Sem.run_bind,hm,Result.andThen_ok,Sem.run_pure]
 ·cases QT:vf st rs with
  |nil=>
   rw[QT]at hl h3;have:vs=[]:=ZaD (by simpa using hl);subst this;simp only[aS];exact⟨#[],by simp,by simp[dx]⟩
  |cons x xs=>
   rw[QT]at hl h3;cases xs with
   |nil=>
    simp only[dx]at h3;obtain⟨v,ia,rfl,hv,rfl⟩:=h3;simpa using hv
   |cons y ys=>
    have:vs.toArray.size≠1:=by simp at hl⊢;omega
    rw[dif_neg this];simp only[aS];exact⟨_,rfl,by simpa using h3⟩
theorem mR{W:Nat->Prop}{objs:aU}{L:Loc}{w w':World}(CI:KeepsC (WW W objs L) w w'):∀n,(∀(d:DV) (x:Value),SizeOf.sizeOf d<n->av w W objs L d x->av w' W objs L d x)/\(∀(ds:List DV) (xs:List Value),SizeOf.sizeOf ds<n->aL w W objs L ds xs->aL w' W objs L ds xs)/\(∀(ds:List DV) (xs:List Value),SizeOf.sizeOf ds<n->eZ w W objs L ds xs->eZ w' W objs L ds xs):=by
 have oO:∀b,b<w.heap.size->WW W objs L b->WW W objs L b:=λ_ _ h=>h;intro n;induction n with
 |zero=>exact⟨λ_ _ h=>by omega,λ_ _ h=>by omega,λ_ _ h=>by omega⟩
 |succ n ih=>
  refine⟨λd x hn hx=>?_,λds xs hn hx=>?_,λds xs hn hx=>?_⟩
  ·cases d with
   |v t=>simp only[av]at hx⊢;exact aS.aD CI oO t x hx
   |eC cs=>
    simp only[av]at hx⊢;obtain⟨vs,hv,hr⟩:=hx;exact⟨vs,hv,ih.2.2 cs _ (by simp at hn⊢;omega) hr⟩
   |mF f cs=>
    simp only[av]at hx⊢;obtain⟨vs,hv,hr⟩:=hx;exact⟨vs,hv,ih.2.1 cs _ (by simp at hn⊢;omega) hr⟩
   |kL rows i off=>
    simp only[av]at hx⊢;obtain⟨b,o,sz,hx,hb,CG,hr,h1,h2⟩:=hx;exact⟨b,o,sz,hx,ZaR hb CI.size,CG,aY.aD CI oO hb CG sz o rows hr,h1,h2⟩
   |gE cs off=>
    simp only[av]at hx⊢;obtain⟨b,o,hx,hb,CG,hr⟩:=hx;exact⟨b,o,hx,ZaR hb CI.size,CG,cY.aD CI oO hb CG o cs hr⟩
   |agg cs=>
    simp only[av]at hx⊢;obtain⟨vs,hv,hr⟩:=hx;exact⟨vs,hv,ih.2.1 cs _ (by simp at hn⊢;omega) hr⟩
   |_=>exact hx
  ·cases ds with
   |nil=>simpa only[aL]using hx
   |cons d ds=>
    simp only[aL]at hx⊢;obtain⟨y,ys,hv,h1,h2,h3⟩:=hx;exact⟨y,ys,hv,h1,ih.1 d y (by simp at hn⊢;omega) h2,ih.2.1 ds ys (by simp at hn⊢;omega) h3⟩
  ·cases ds with
   |nil=>simpa only[eZ]using hx
   |cons d ds=>
    simp only[eZ]at hx⊢;obtain⟨y,ys,hv,h2,h3⟩:=hx;exact⟨y,ys,hv,ih.1 d y (by simp at hn⊢;omega) h2,ih.2.2 ds ys (by simp at hn⊢;omega) h3⟩
theorem mf{w:World}{l:Nat}{o o':Obj}(hl:w.heap[l]? =some o)(QW:¬Obj.plain o):∀(b:Nat) x,Obj.plain x->w.heap[b]? =some x->(w.putObj l o').heap[b]? =some x:=λb x hx hb=>by
 rw[World.putObj_heap_other (by rintro rfl;rw[hl]at hb;cases hb;exact QW hx)];exact hb
theorem vh{base:Nat}{W M:Nat->Prop}{w0 w:World}{objs:aU}{L:Loc}(h:bN base W M w0 objs w L){l:Nat}{o o':Obj}(hl:w.heap[l]? =some o)(QW:¬Obj.plain o)(hb:base<=l):
  bN base W M w0 objs (w.putObj l o') L:=by
 have gF:(w.putObj l o').heap.size=w.heap.size:=by simp[World.putObj]
 have mS:=mf (o':=o') hl QW;have CI:KeepsC (WW W objs L) w (w.putObj l o'):=⟨by rw[gF];exact Zae _,λb c e fr hb _=>mS b _ trivial hb⟩;have f:=h.fr;refine⟨⟨f.os,f.tape,f.output,f.ik,by rw[gF];exact f.size,λk hk hm=>?_,f.drawn⟩,λr o ho=>?_,h.apart,h.outer,h.under,h.gl.aD CI λ_ _ h=>h⟩
 ·rw[World.putObj_heap_other (by omega)];exact f.block k hk hm
 ·have fH:=h.ob r o ho;cases o with
  |box cs=>
   obtain⟨c,e,hc,hr,hm⟩:=fH;exact⟨c,e,mS _ _ trivial hc,(mR CI (SizeOf.sizeOf cs+1)).2.1 cs _ (by omega) hr,hm⟩
  |map shs agg c es=>
   obtain⟨arr,hc,hr,k1,k2,k3,hm⟩:=fH;refine⟨arr,mS _ _ trivial hc, ?_,k1,k2,k3,hm⟩;have key:∀(es:List (Nat×T×DV)) (xs:List MapEntry),bk w W objs L es xs->bk (w.putObj l o') W objs L es xs:=by
    intro es;induction es with
    |nil=>intro xs h;simpa only[bk]using h
    |cons e es ih=>
     intro xs h;simp only[bk]at h⊢;obtain⟨x,jN,hx,h1,h2,h3,h4⟩:=h;exact⟨x,jN,hx,h1,aS.aD CI (λ_ _ h=>h) _ _ h2,(mR CI (SizeOf.sizeOf e.2.2+1)).1 _ _ (by omega) h3,ih jN h4⟩
   exact key es _ hr
  |iter m s sn lt=>
   obtain⟨hc,JM,hm⟩:=fH;exact⟨mS _ _ trivial hc,JM,hm⟩
  |arr ver e sz rows=>
   obtain⟨g1,g2,g3,g4⟩:=fH;refine⟨g1,g2,g3, ?_⟩;rcases g4 with g4|⟨g,cap,cur,hv,hp,hh,k1,k2,k3,k4⟩
   ·exact .inl g4
   ·exact .inr ⟨g,cap,cur,hv,hp,mS _ _ trivial hh,k1,k2,k3,aR.aD CI (λ_ _ h=>h) _ _ k4⟩
theorem O0{κ:Ctx}{nt:Nat}{st:RS}{a:Act}{w:World}{L:Loc}(hJ:κ.J=none)(h:dI κ nt st a w L){D:Nat}{Ds:List Nat}(hd:a.defers=(D::Ds).map mark)(hn:(D::Ds).Nodup)(hk:∀D'∈D::Ds,w.heap[D']? =some (.deferred (some []))/\κ.gw.heap.size<=D'):
  dI κ nt st {a with defers:=Ds.map mark} (w.putObj D (.deferred none)) L:=by
 obtain⟨W,base,M,w0,dy,h0⟩:=h.ex;have hD:=hk D (Za4 ..);have cV:=(Zaj.1 hD.1).1;have Kn:∀b,b≠D->(w.putObj D (.deferred none)).heap[b]? =w.heap[b]? :=λb hb=>World.putObj_heap_other hb;have gF:(w.putObj D (.deferred none)).heap.size=w.heap.size:=by simp[World.putObj]
 have Ks:=dy;unfold Ctx.At at Ks;simp only[hJ]at Ks;obtain⟨_,rfl,rfl,rfl,rfl⟩:=Ks;have hbD:κ.base<=D:=ZaE (h.bg hJ) hD.2;have mS:∀(b:Nat) c e fr,w.heap[b]? =some (.cells c e fr)->(w.putObj D (.deferred none)).heap[b]? =some (.cells c e fr):=λb c e fr hb=>by
  rw[Kn b (by rintro rfl;rw[hD.1]at hb;cases hb)];exact hb
 have CI:KeepsC (WW κ.W st.objs L) w (w.putObj D (.deferred none)):=⟨by rw[gF];exact Zae _,λb c e fr hb _=>mS b c e fr hb⟩;have kd:∀(d:DV) (x:Value),av w κ.W st.objs L d x->av (w.putObj D (.deferred none)) κ.W st.objs L d x:=λd x=>(mR CI (SizeOf.sizeOf d+1)).1 d x (by omega);have hO:bN κ.base κ.W κ.M κ.w0 st.objs (w.putObj D (.deferred none)) L:=vh h0.o hD.1 (λe=>e) hbD;refine⟨⟨κ.W,κ.base,κ.M,κ.w0,dy,h0.size,λt=>kd _ _ (h0.tmps t),hO⟩, ?_,⟨Ds,rfl,(ZbM.1 hn).2,λD' hD'=>?_,λh=>by rw[hJ]at h;cases h⟩,h.bg,h.fin⟩
 ·have Xy:=h.ee;refine⟨⟨⟨by rw[gF];exact Xy.keeps.size,λb c e fr hb O1=>mS _ _ _ _ (Xy.keeps.hY b c e fr hb O1)⟩,λb hb=>?_,λb r hb=>?_⟩,Xy.sub,Xy.fix,Xy.arr,Xy.yl⟩
  ·rw[Kn b (by have:=(Zaj.1 hb).1;omega)];exact Xy.keeps.OA b hb
  ·rw[Kn b (by have:=(Zaj.1 hb).1;omega)];exact Xy.keeps.Xu b r hb
 ·have bH:D'≠D:=λe=>(ZbM.1 hn).1 (e▸hD');have:=hk D' (ZaV _ hD');exact⟨by rw[Kn D' bH];exact this.1,this.2⟩
theorem leaves{κ:Ctx}{nt:Nat}{st:RS}{fn:Func}{R:Ending->World->Prop}(hJ:κ.J=none)(hR:∀(a:Act) (w:World) (L:Loc),dI κ nt st a w L->∃v,(results fn a.tmps).run P w=.ok v w/\R (.returned v) w):
  ∀(Ds:List Nat) (a:Act) (w:World) (L:Loc),dI κ nt st a w L->a.defers=Ds.map mark->Ds.Nodup->(∀D∈Ds,w.heap[D]? =some (.deferred (some []))/\κ.gw.heap.size<=D)->
   LeavesInM Fence.wide 0 P fn a.tmps R (Ds.map mark) .returning w
 |[],a,w,L,h,_,_,_=>by
  obtain⟨v,h1,h2⟩:=hR a w L h;exact⟨v,h1,h2⟩
 |D::Ds,a,w,L,h,hd,hn,hk=>by
  refine⟨by simp,.inl ⟨D,w.putObj D (.deferred none),rfl,run_takeDeferred (hk D (Za4 ..)).1, ?_⟩⟩;have h':=O0 hJ h hd hn hk;obtain⟨Ds',e1,_,e3,_⟩:=h'.defers;have e:Ds'=Ds:=by
   have hi:∀(l l':List Nat),l.map mark=l'.map mark->l=l':=by
    intro l;induction l with
    |nil=>intro l' e;cases l'<;>simp_all
    |cons x l ih=>
     intro l' e;cases l' with
     |nil=>simp at e
     |cons y l'=>
      simp only[Zau,Za5,mark,Deferred.mk.injEq,Target.collected.injEq,and_true]at e;rw[e.1,ih l' e.2]
   exact hi _ _ e1.symm
  subst e;exact leaves hJ hR Ds' {a with defers:=Ds'.map mark} _ L h' rfl (ZbM.1 hn).2 e3
def aO(P:Program)(f:FuncId)(nt:Nat)(d:DC)(rs:List bO):Prop:=
 ∃fn,P.funcs[f]? =some fn/\fn.ntmps=nt/\fn.body.map (bB P nt)=some d/\fn.results.toList.mapM (tt P)=some rs/\(fn.name== "runtime.NumGoroutine")=false
theorem aO.entry{f:FuncId}{nt:Nat}{d:DC}{rs:List bO}(h:aO P f nt d rs):Entry P f:=by
 obtain⟨fn,h1,_,h3,_,h5⟩:=h;obtain⟨c,h2,_⟩:=Zab.1 h3;exact⟨fn,h1,by simpa using h5,by simp[h2]⟩
theorem oP{n:Nat}{vals:Array Value}{k:Nat}{v:Value}(h:vals.toList[k]? =some v):(vals++Array.replicate (n-vals.size) Go.undef).getD k Go.undef=v:=by
 have cV:k<vals.size:=by have:=(Zas.1 h).1;simpa using this
 rw[Zay,ZcD cV];simp only[Array.getElem?_toList]at h;rw[h];rfl
theorem oQ{n:Nat}{vals:Array Value}{k:Nat}(h:vals.size<=k):(vals++Array.replicate (n-vals.size) Go.undef).getD k Go.undef=Go.undef:=by
 rw[Zay,Array.getElem?_append_right h,Array.getElem?_replicate];split<;>rfl
theorem aO.ok{f:FuncId}{nt:Nat}{d:DC}{rs:List bO}(h:aO P f nt d rs){ts:List T}{t:T}(hlen:ts.length<=nt)(k:aa P nt d (finQ rs t) (nU ts)):aT P f ts t:=by
 have AK:=h.entry;obtain⟨fn,wF,rfl,h3,hr,_⟩:=h;obtain⟨c,hb,hc⟩:=Zab.1 h3;refine⟨AK,λW w vals hW hg eI=>?_⟩;have hl:=dx.length eI;simp only[ZaT]at hl;have vi:Rel ⟨W,λ_=>none,⟨λ_=>0,λ_=>Go.undef,0⟩,w,w.heap.size,λ_=>False,w,none,none⟩ fn.ntmps (nU ts) {tmps:=vals++Array.replicate (fn.ntmps-vals.size) Go.undef,defers:=[]} w ⟨λ_=>0,λ_=>Go.undef,0⟩:=by
  refine⟨⟨⟨W,w.heap.size,λ_=>False,w,⟨rfl,rfl,rfl,rfl,rfl⟩,by simp;omega,λk=>?_,⟨Fr.refl (Zae _),(λr o h=>by cases h),(λr r' o o' b _ h=>by cases h),(λr o b h=>by cases h),hW,hg.start⟩⟩,
   jc.ct (cq.refl _ _),⟨[],rfl,ZbT,(λ_ h=>by cases h),λ_=>rfl⟩,λ_=>Zae _,⟨0,λ_ _=>rfl⟩⟩,λ_ _=>rfl,λ_ _=>rfl,λh=>by cases h⟩
  simp only[nU];cases hk:ts[k]? with
  |some x=>
   obtain⟨v,hv,jn⟩:=dx.get eI hk;simp only[oP hv,zo,av];refine aS.aD (cq.refl W w).toKeepsC ?_ x v jn;rintro b hb (h|⟨r,o,h,_⟩)
   ·exact h
   ·cases h
  |none=>
   have zx:vals.size<=k:=by
    have:=ZbF.1 hk;omega
   simp only[zo,av,oQ zx]
 refine callsIn_wide.1 (callsIn_of_wp_marks (n:=0) wF hb trivial ?_);refine wpIn_mono (k.run c hc 0 _ _ _ _ ⟨λJ hJ=>(by cases hJ),λl hl=>(by cases hl)⟩ vi) ?_;rintro e a' w' ⟨dh,L',q,r'⟩;have done:Rs rs t dh->LeavesInM Fence.wide 0 P fn a'.tmps (λe w'=>∃v,e=.returned v/\tP w.heap.size w w'/\aS w' W t v) a'.defers .returning w':=by
  intro hq;obtain⟨Ds,h1,h2,h3,_⟩:=r'.r.defers;rw[h1];refine leaves (κ:=⟨W,λ_=>none,⟨λ_=>0,λ_=>Go.undef,0⟩,w,w.heap.size,λ_=>False,w,none,none⟩) rfl ?_ Ds a' w' L' r'.r h1 h2 h3;intro a2 w2 L2 h4;obtain⟨W',Nc,M',w0',dy,h0⟩:=h4.ex;obtain⟨_,e1,e2,e3,e4⟩:=dy
  replace h0:R0 w.heap.size W (λ_=>False) w fn.ntmps dh.tmps dh.objs a2 w2 L2:=by rw[e1,e2,e3,e4]at h0;exact h0
  obtain⟨v,k1,k2⟩:=rN (st:=dh) h0 (lend:=true) (W':=W) (λ_ r o b e1 e2=>h0.o.outer r o b e1 e2) (λb hb=>.inl hb) hr hq;have fr:=h0.o.fr;exact⟨v,k1,v,rfl,⟨⟨fr.os,fr.tape,fr.output,fr.size,λk hk=>fr.block k hk (λx=>x)⟩,fr.drawn⟩,k2⟩
 cases e with
 |normal=>exact done q
 |ret=>exact done q
 |_=>exact q.elim
theorem aO.okS{f:FuncId}{nt:Nat}{d:DC}{rs:List bO}(h:aO P f nt d rs){args:List DV}{objs:aU}{r:iD}{N:Nat}(hN:∀r,N<=r->objs r=none)(hlen:args.length<=nt)(k:aa P nt d (Yi rs r) (yC args objs N)):aZ P f args objs r:=by
 have AK:=h.entry;obtain⟨fn,wF,rfl,h3,hr,_⟩:=h;obtain⟨c,hb,hc⟩:=Zab.1 h3;refine⟨AK,λbase W M w0 w L vals hO OL=>?_⟩;have hl:=OL.1;simp only[ZaT]at hl;have vi:Rel ⟨W,objs,L,w,base,M,w0,none,none⟩ fn.ntmps (yC args objs N) {tmps:=vals++Array.replicate (fn.ntmps-vals.size) Go.undef,defers:=[]} w L:=by
  refine⟨⟨⟨W,base,M,w0,⟨rfl,rfl,rfl,rfl,rfl⟩,by simp;omega,λk=>?_,hO⟩,
   jc.ct (cq.refl _ _),⟨[],rfl,ZbT,(λ_ h=>by cases h),λ_=>rfl⟩,λ_=>ZaE hO.fr.ik hO.fr.size,⟨N,hN⟩⟩,hN,hN,λh=>by cases h⟩
  simp only[yC];cases hk:args[k]? with
  |some x=>
   have hv:∃v,vals.toList[k]? =some v:=by
    have:k<vals.size:=by rw[hl];exact(Zas.1 hk).1
    exact⟨vals[k],by simp[this]⟩
   obtain⟨v,hv⟩:=hv;simp only[oP hv,Kr];exact OL.2 k x v hk hv
  |none=>
   have zx:vals.size<=k:=by
    have:=ZbF.1 hk;omega
   simp only[Kr,av,oQ zx]
 refine callsIn_wide.1 (callsIn_of_wp_marks (n:=0) wF hb trivial ?_);refine wpIn_mono (k.run c hc 0 _ _ _ _ ⟨λJ hJ=>(by cases hJ),λl hl=>(by cases hl)⟩ vi) ?_;rintro e a' w' ⟨dh,L',q,r'⟩;have done:Kq rs r dh->LeavesInM Fence.wide 0 P fn a'.tmps (λe w'=>∃v L',e=.returned v/\bN base W M w0 r.objs w' L'/\jc W objs L w r.objs L' w'/\av w' W r.objs L' r.val v) a'.defers .returning w':=by
  rintro⟨hq1,Xz,hq3⟩;obtain⟨Ds,h1,h2,h3,_⟩:=r'.r.defers;rw[h1];refine leaves (κ:=⟨W,objs,L,w,base,M,w0,none,none⟩) rfl ?_ Ds a' w' L' r'.r h1 h2 h3;intro a2 w2 L2 h4;obtain⟨W',Nc,M',w0',dy,h0⟩:=h4.ex;obtain⟨_,e1,e2,e3,e4⟩:=dy
  replace h0:R0 base W M w0 fn.ntmps dh.tmps dh.objs a2 w2 L2:=by rw[e1,e2,e3,e4]at h0;exact h0
  obtain⟨v,k1,k2⟩:=rN (st:=dh) h0 (lend:=false) (W':=WW W dh.objs L2) (λx=>by cases x) (λb hb=>hb) hr ⟨hq1,rfl⟩;have Nd:=h0.o;have tu:=h4.ee;simp only[Xz]at Nd tu k2;refine⟨v,k1,v,L2,rfl,Nd,tu, ?_⟩;rw[hq3];simp only[av];exact k2
 cases e with
 |normal=>exact done q
 |ret=>exact done q
 |_=>exact q.elim
end
end Go.DM
namespace Go.DM
open Go.RowKit
variable [Laid]
def exec(Γ:Env)(nxt:Nat):List RO->RS->(RS->Prop)->Prop
 |[],st,K=>K st
 |r::rs,st,K=>
  match r.guard with
  |none=>ch r st.tmps/\rE r st.objs (post Γ nxt r st).objs/\(post Γ nxt r st).ok/\exec Γ nxt rs ⟨cd st.tmps r.dst (post Γ nxt r st).val,(post Γ nxt r st).objs,(post Γ nxt r st).todo⟩ K
  |some (s,want)=>
   match st.tmps s with
   |.v (.bool b)=>(b=want->ch r st.tmps/\rE r st.objs (post Γ nxt r st).objs/\(post Γ nxt r st).ok/\exec Γ nxt rs ⟨cd (cd st.tmps (some s) (.v (.bool want))) r.dst (post Γ nxt r st).val,(post Γ nxt r st).objs,(post Γ nxt r st).todo⟩ K)/\
     (b= !want->exec Γ nxt rs ⟨cd (cd st.tmps (some s) (.v (.bool (!want)))) r.dst .skip,st.objs,st.todo⟩ K)
   |.skip=>exec Γ nxt rs ⟨cd st.tmps r.dst .skip,st.objs,st.todo⟩ K
   |_=>False
theorem iG{ρ:Nat->DV}{s:Nat}{v:DV}(h:ρ s=v):cd ρ (some s) v=ρ:=by
 funext x;simp only[cd];split
 ·rename_i e;rw[e,h]
 ·rfl
theorem eL{Γ:Env}{nxt:Nat}:∀(rs:List RO) (st:RS) (K:RS->Prop),exec Γ nxt rs st K->iS Γ nxt rs st/\K (cP Γ nxt rs st)
 |[],st,K,h=>⟨trivial,h⟩
 |r::rs,st,K,h=>by
  simp only[exec]at h;simp only[iS,cP];have yes:ef r.guard st.tmps=some true->(ch r st.tmps/\rE r st.objs (post Γ nxt r st).objs/\(post Γ nxt r st).ok/\exec Γ nxt rs ⟨cd st.tmps r.dst (post Γ nxt r st).val,(post Γ nxt r st).objs,(post Γ nxt r st).todo⟩ K)->(bX Γ nxt r st/\iS Γ nxt rs (cN Γ nxt r st))/\K (cP Γ nxt rs (cN Γ nxt r st)):=by
   rintro hw ⟨ht,hk4,aG,hk⟩;have e1:cN Γ nxt r st=⟨cd st.tmps r.dst (post Γ nxt r st).val,(post Γ nxt r st).objs,(post Γ nxt r st).todo⟩:=by simp only[cN,hw]
   have e2:bX Γ nxt r st:=by simp only[bX,hw];exact⟨aG,ht,hk4⟩
   rw[e1];have:=eL rs _ K hk;exact⟨⟨e2,this.1⟩,this.2⟩
  have no:ef r.guard st.tmps=some false->exec Γ nxt rs ⟨cd st.tmps r.dst .skip,st.objs,st.todo⟩ K->(bX Γ nxt r st/\iS Γ nxt rs (cN Γ nxt r st))/\K (cP Γ nxt rs (cN Γ nxt r st)):=by
   rintro hw hk;have e1:cN Γ nxt r st=⟨cd st.tmps r.dst .skip,st.objs,st.todo⟩:=by simp only[cN,hw]
   have e2:bX Γ nxt r st:=by simp only[bX,hw]
   rw[e1];have:=eL rs _ K hk;exact⟨⟨e2,this.1⟩,this.2⟩
  cases hg:r.guard with
  |none=>rw[hg]at h;exact yes (by simp[ef,hg]) h
  |some g=>
   obtain⟨s,want⟩:=g;rw[hg]at h;simp only at h;cases hs:st.tmps s with
   |skip=>rw[hs]at h;exact no (by simp[ef,hg,hs]) h
   |v t=>
    rw[hs]at h;cases t with
    |bool b=>
     simp only at h;by_cases hb:b=want
     ·subst hb;rw[iG hs]at h;exact yes (by simp[ef,hg,hs]) (h.1 rfl)
     ·have mO:b= !want:=by cases b<;>cases want<;>simp_all
      subst mO;rw[iG hs]at h;exact no (by simp[ef,hg,hs]) (h.2 rfl)
    |_=>exact h.elim
   |_=>rw[hs]at h;exact h.elim
def eY(Γ:Env)(nxt:Nat)(rs:List RO)(tm:Nat->DV)(ob:aU)(td:List (List T))(K:RS->Prop)(dst:Option Nat)(e:oF):Prop:=
 e.ok/\exec Γ nxt rs ⟨cd tm dst e.val,bV ob e.put,td⟩ K
def Dh(Γ:Env)(nxt:Nat)(rs:List RO)(tm:Nat->DV)(K:RS->Prop)(dst:Option Nat)(e:SEff):Prop:=
 e.ok/\exec Γ nxt rs ⟨cd tm dst e.val,e.objs,e.todo⟩ K
def kF(Γ:Env)(nxt:Nat)(d:nO)(rs:List RO)(tm:Nat->DV)(ob:aU)(td:List (List T))(K:RS->Prop)(dst:Option Nat)(eS:Nat->DV):Prop:=
 if o9 d then Dh Γ nxt rs eS K dst (ma Γ d tm ob td)else eY Γ nxt rs eS ob td K dst (cy Γ d (nameOf nxt dst) tm ob)
def Kt(Γ:Env)(nxt:Nat)(d:nO)(rs:List RO)(tm:Nat->DV)(ob:aU)(td:List (List T))(K:RS->Prop)(dst:Option Nat)(s:Nat)(want:Bool)(g:DV):Prop:=
 match g with
 |.v (.bool b)=>(b=want->kF Γ nxt d rs tm ob td K dst (cd tm (some s) (.v (.bool want))))/\
   (b= !want->exec Γ nxt rs ⟨cd (cd tm (some s) (.v (.bool (!want)))) dst .skip,ob,td⟩ K)
 |.skip=>exec Γ nxt rs ⟨cd tm dst .skip,ob,td⟩ K
 |_=>False
section
variable{Γ:Env}{nxt:Nat}{st:RS}{K:RS->Prop}{rs:List RO}{tm eS:Nat->DV}{ob:aU}{td:List (List T)}{dst:Option Nat}
theorem Yk(ok:Prop)(v:DV)(p:Option (Nat×Ob)):eY Γ nxt rs tm ob td K dst ⟨ok,v,p⟩=(ok/\exec Γ nxt rs ⟨cd tm dst v,bV ob p,td⟩ K):=rfl
theorem Rt(ok:Prop)(v:DV)(ob':aU)(td':List (List T)):Dh Γ nxt rs tm K dst ⟨ok,v,ob',td'⟩=(ok/\exec Γ nxt rs ⟨cd tm dst v,ob',td'⟩ K):=rfl
theorem Ru:eY Γ nxt rs tm ob td K dst bad=False:=by simp[eY,bad]
theorem O2(f:FuncId)(args:List bp):kF Γ nxt (.callS f args) rs tm ob td K dst eS=Dh Γ nxt rs eS K dst (ma Γ (.callS f args) tm ob td):=by simp[kF,o9]
theorem O3(x:bp)(args:List bp):kF Γ nxt (.callv x args) rs tm ob td K dst eS=Dh Γ nxt rs eS K dst (ma Γ (.callv x args) tm ob td):=by simp[kF,o9]
theorem lF(d:nO)(s:Nat)(b want:Bool):Kt Γ nxt d rs tm ob td K dst s want (.v (.bool b))=((b=want->kF Γ nxt d rs tm ob td K dst (cd tm (some s) (.v (.bool want))))/\
   (b= !want->exec Γ nxt rs ⟨cd (cd tm (some s) (.v (.bool (!want)))) dst .skip,ob,td⟩ K)):=rfl
theorem Rv:exec Γ nxt [] st K=K st:=rfl
theorem vj{d:nO}{g:Option (Nat×Bool)}{af:List Nat}{l:Option (List Nat)}:((post Γ nxt ⟨d,dst,g,af,l⟩ ⟨tm,ob,td⟩).ok/\exec Γ nxt rs ⟨cd eS dst (post Γ nxt ⟨d,dst,g,af,l⟩ ⟨tm,ob,td⟩).val,(post Γ nxt ⟨d,dst,g,af,l⟩ ⟨tm,ob,td⟩).objs,(post Γ nxt ⟨d,dst,g,af,l⟩ ⟨tm,ob,td⟩).todo⟩ K)=kF Γ nxt d rs tm ob td K dst eS:=by
 unfold post kF;cases h:o9 d<;>simp[eY,Dh,pw]
theorem AL{d:nO}{g:Option (Nat×Bool)}{af:List Nat}{o o':aU}:rE ⟨d,dst,g,af,none⟩ o o'=True:=eq_true λ_ l h=>by cases h
def Di(l:List Nat)(o o':aU):Prop:=∀n,n∉l->o' n=o n
theorem AM{d:nO}{g:Option (Nat×Bool)}{af l:List Nat}:rE ⟨d,dst,g,af,some l⟩ ob (post Γ nxt ⟨d,dst,g,af,some l⟩ ⟨tm,ob,td⟩).objs=(o9 d=true->Di l ob (ma Γ d tm ob td).objs):=by
 unfold rE Di post;by_cases h:o9 d=true
 ·simp[h]
 ·simp[h]
theorem Ku(d:nO)(af:List Nat):exec Γ nxt (⟨d,dst,none,af,none⟩::rs) ⟨tm,ob,td⟩ K=kF Γ nxt d rs tm ob td K dst tm:=by
 simp only[exec,ch,AL,true_and];exact vj
theorem Kv(d:nO)(af:List Nat)(l:List Nat):
  exec Γ nxt (⟨d,dst,none,af,some l⟩::rs) ⟨tm,ob,td⟩ K=(ch ⟨d,dst,none,af,some l⟩ tm/\(o9 d=true->Di l ob (ma Γ d tm ob td).objs)/\kF Γ nxt d rs tm ob td K dst tm):=by
 simp only[exec];rw[vj,AM]
@[simp low] theorem mT(d:nO)(s:Nat)(want:Bool)(af:List Nat):
  exec Γ nxt (⟨d,dst,some (s,want),af,none⟩::rs) ⟨tm,ob,td⟩ K=Kt Γ nxt d rs tm ob td K dst s want (tm s):=by
 simp only[exec,Kt,ch,AL,true_and];rw[vj]
end
section
variable{Γ:Env}{nxt:Nat}{K:RS->Prop}{rs:List RO}{tm:Nat->DV}{ob:aU}{td:List (List T)}{dst:Option Nat}{d:nO}{s:Nat}{af:List Nat}
@[simp] theorem exec_g_tt(h:tm s=.v (.bool true)):exec Γ nxt (⟨d,dst,some (s,true),af,none⟩::rs) ⟨tm,ob,td⟩ K=kF Γ nxt d rs tm ob td K dst tm:=by
 rw[mT,h,lF,iG h];simp
@[simp] theorem exec_g_ff(h:tm s=.v (.bool false)):exec Γ nxt (⟨d,dst,some (s,false),af,none⟩::rs) ⟨tm,ob,td⟩ K=kF Γ nxt d rs tm ob td K dst tm:=by
 rw[mT,h,lF,iG h];simp
@[simp] theorem exec_g_tf(h:tm s=.v (.bool true)):exec Γ nxt (⟨d,dst,some (s,false),af,none⟩::rs) ⟨tm,ob,td⟩ K=exec Γ nxt rs ⟨cd tm dst .skip,ob,td⟩ K:=by
 rw[mT,h,lF];simp[iG h]
@[simp] theorem exec_g_ft(h:tm s=.v (.bool false)):exec Γ nxt (⟨d,dst,some (s,true),af,none⟩::rs) ⟨tm,ob,td⟩ K=exec Γ nxt rs ⟨cd tm dst .skip,ob,td⟩ K:=by
 rw[mT,h,lF];simp[iG h]
@[simp] theorem exec_g_sk{want:Bool}(h:tm s=.skip):exec Γ nxt (⟨d,dst,some (s,want),af,none⟩::rs) ⟨tm,ob,td⟩ K=exec Γ nxt rs ⟨cd tm dst .skip,ob,td⟩ K:=by
 rw[mT,h];rfl
end
def look:List (Nat×DV)->Nat->DV
 |[],_=>.undef
 |(j,v)::l,k=>if k=j then v else look l k
def cE:List (Nat×Ob)->Nat->Option Ob
 |[],_=>none
 |(j,o)::l,k=>if k=j then some o else cE l k
theorem Rw(f:Nat->DV)(k:Nat)(v:DV)(x:Nat):cd f (some k) v x=if x=k then v else f x:=rfl
theorem O4(f:Nat->DV)(v:DV):cd f none v=f:=rfl
theorem O5(f:aU):bV f none=f:=rfl
theorem Dj(f:aU)(r:Nat)(o:Ob)(x:Nat):bV f (some (r,o)) x=if x=r then some o else f x:=rfl
theorem my(j:Nat)(v:DV)(l:List (Nat×DV))(k:Nat):look ((j,v)::l) k=if k=j then v else look l k:=rfl
theorem look_nil(k:Nat):look [] k=.undef:=rfl
theorem du(j:Nat)(o:Ob)(l:List (Nat×Ob))(k:Nat):cE ((j,o)::l) k=if k=j then some o else cE l k:=rfl
theorem mg(k:Nat):cE [] k=none:=rfl
theorem Rx(l:List (Nat×Ob))(r:Nat)(o:Ob):bV (cE l) (some (r,o))=cE ((r,o)::l):=rfl
def kG(ks:List Nat)(tm:Nat->DV):List (Nat×DV):=ks.map λk=>(k,tm k)
theorem AN(k:Nat)(ks:List Nat)(tm:Nat->DV):kG (k::ks) tm=(k,tm k)::kG ks tm:=rfl
theorem O6(tm:Nat->DV):kG [] tm=[]:=rfl
theorem mU(tm:Nat->DV):∀(ks:List Nat) (k:Nat),look (kG ks tm) k=.undef\/look (kG ks tm) k=tm k
 |[],_=>.inl rfl
 |j::ks,k=>by
  rw[AN,my];split
  ·rename_i h;exact .inr (by rw[h])
  ·exact mU tm ks k
theorem Le.vk{st:lj}{tm:Nat->DV}(h:∀k,tm k=.undef\/tm k=st.tmps k):Le st ⟨tm,st.objs,st.nxt,st.low,st.todo⟩:=λκ nt a w L r=>
 ⟨L,⟨by
  obtain⟨W,base,M,w0,dy,h0⟩:=r.r.ex;exact⟨W,base,M,w0,dy,h0.size,λt=>by
   rcases h t with e|e
   ·show av w W st.objs L (tm t) _;rw[e];simp[av]
   ·show av w W st.objs L (tm t) _;rw[e];exact h0.tmps t,h0.o⟩,r.r.ee,r.r.defers,r.r.bg,r.r.fin⟩,r.fresh,r.low,r.it⟩
theorem O7(ts:List T):Le (nU ts) ⟨look ((ts.map .v).zipIdx.map λp=>(p.2,p.1)),cE [],1000,1000,[]⟩:=by
 have key:∀(ts:List T) (i k:Nat),look (((ts.map .v).zipIdx i).map λp=>(p.2,p.1)) k=.undef\/look (((ts.map .v).zipIdx i).map λp=>(p.2,p.1)) k=zo (if i<=k then ts[k-i]? else none):=by
  intro ts;induction ts with
  |nil=>intro i k;exact .inl rfl
  |cons t ts ih=>
   intro i k;simp only[Zau,Zb7,my];split
   ·rename_i h;subst h;exact .inr (by simp[zo])
   ·rename_i h;rcases ih (i+1) k with e|e
    ·exact .inl e
    ·right;rw[e];by_cases hk:i+1<=k
     ·rw[if_pos hk,if_pos (by omega),show k-i=(k-(i+1))+1 by omega,ZaW]
     ·have:¬i<=k:=by omega
      rw[if_neg hk,if_neg this]
 refine Le.trans (Le.vk (st:=nU ts) (tm:=look ((ts.map .v).zipIdx.map λp=>(p.2,p.1))) λk=>?_) (λκ nt a w L r=>⟨L,r⟩);have:=key ts 0 k;simpa [nU]using this
section
variable{P:Program}{nt:Nat}{Γ:Env}{Q:Exit->lj->Prop}{st:lj}{tm:Nat->DV}{ob:aU}{nxt low:Nat}{td:List (List T)}
theorem aa.dc(aw:ay P Γ)(hm:P.follows .mixedOrders=true){draw:Bool}{rs:List RO}(ks:List Nat)
  (h:exec Γ nxt rs ⟨tm,ob,td⟩ λs=>Q .normal ⟨look (kG ks s.tmps),s.objs,nxt+nt+1,low,s.todo⟩):aa P nt (.region draw rs) Q ⟨tm,ob,nxt,low,td⟩:=by
 have:=eL _ _ _ h;refine aa.ve (Q:=λe s=>e=.normal/\s=⟨(cP Γ nxt rs ⟨tm,ob,td⟩).tmps,(cP Γ nxt rs ⟨tm,ob,td⟩).objs,nxt+nt+1,low,(cP Γ nxt rs ⟨tm,ob,td⟩).todo⟩) (aa.region aw hm (st:=⟨tm,ob,nxt,low,td⟩) this.1 ⟨rfl,rfl⟩) ?_;rintro e s ⟨rfl,rfl⟩;exact⟨_,Le.vk (mU _ ks),this.2⟩
theorem aa.ab(aw:ay P Γ)(hm:P.follows .mixedOrders=true){draw:Bool}{rs:List RO}{b:DC}(ks:List Nat)
  (h:exec Γ nxt rs ⟨tm,ob,td⟩ λs=>aa P nt b Q ⟨look (kG ks s.tmps),s.objs,nxt+nt+1,low,s.todo⟩):aa P nt (.seq (.region draw rs) b) Q ⟨tm,ob,nxt,low,td⟩:=
 aa.seq (aa.dc aw hm ks h)
theorem aa.tZ(aw:ay P Γ)(hm:P.follows .mixedOrders=true){d:DC}{rs:List RO}(hd:d=.jY (rs.map bare)\/∃draw,d=.region draw (rs.map bare))(aG:db nt true rs=true)(ks:List Nat)
  (h:exec Γ nxt rs ⟨tm,ob,td⟩ λs=>Q .normal ⟨look (kG ks s.tmps),s.objs,nxt+nt+1,low,s.todo⟩):aa P nt d Q ⟨tm,ob,nxt,low,td⟩:=by
 have:=eL _ _ _ h;refine aa.ve (Q:=λe s=>e=.normal/\s=⟨(cP Γ nxt rs ⟨tm,ob,td⟩).tmps,(cP Γ nxt rs ⟨tm,ob,td⟩).objs,nxt+nt+1,low,(cP Γ nxt rs ⟨tm,ob,td⟩).todo⟩) (aa.Yf aw hm hd aG (st:=⟨tm,ob,nxt,low,td⟩) this.1 ⟨rfl,rfl⟩) ?_;rintro e s ⟨rfl,rfl⟩;exact⟨_,Le.vk (mU _ ks),this.2⟩
theorem aa.iH(aw:ay P Γ)(hm:P.follows .mixedOrders=true){d b:DC}{rs:List RO}(hd:d=.jY (rs.map bare)\/∃draw,d=.region draw (rs.map bare))(aG:db nt true rs=true)(ks:List Nat)
  (h:exec Γ nxt rs ⟨tm,ob,td⟩ λs=>aa P nt b Q ⟨look (kG ks s.tmps),s.objs,nxt+nt+1,low,s.todo⟩):aa P nt (.seq d b) Q ⟨tm,ob,nxt,low,td⟩:=
 aa.seq (aa.tZ aw hm hd aG ks h)
end
theorem aK{P:Program}{nt:Nat}{d:DC}{Q:Exit->lj->Prop}{ts:List T}(h:aa P nt d Q ⟨look ((ts.map .v).zipIdx.map λp=>(p.2,p.1)),cE [],1000,1000,[]⟩):aa P nt d Q (nU ts):=aa.le (O7 ts) h
section
variable{Γ:Env}{nxt:Nat}{K:RS->Prop}{rs:List RO}{tm eS:Nat->DV}{ob:aU}{td:List (List T)}{dst:Option Nat}
@[simp] theorem goD_mov(x:bp):kF Γ nxt (.bL x) rs tm ob td K dst eS=eY Γ nxt rs eS ob td K dst (cy Γ (.bL x) (nameOf nxt dst) tm ob):=rfl
@[simp] theorem goD_pick(c a b:bp):kF Γ nxt (.pick c a b) rs tm ob td K dst eS=eY Γ nxt rs eS ob td K dst (cy Γ (.pick c a b) (nameOf nxt dst) tm ob):=rfl
@[simp] theorem goD_alloc(zero:List DV):kF Γ nxt (.alloc zero) rs tm ob td K dst eS=eY Γ nxt rs eS ob td K dst (cy Γ (.alloc zero) (nameOf nxt dst) tm ob):=rfl
@[simp] theorem goD_box(x:bp):kF Γ nxt (.box x) rs tm ob td K dst eS=eY Γ nxt rs eS ob td K dst (cy Γ (.box x) (nameOf nxt dst) tm ob):=rfl
@[simp] theorem goD_build(zero:List DV)(parts:List (Nat×Nat×bp)):kF Γ nxt (.build zero parts) rs tm ob td K dst eS=eY Γ nxt rs eS ob td K dst (cy Γ (.build zero parts) (nameOf nxt dst) tm ob):=rfl
@[simp] theorem goD_bslice(len sz:Nat)(zero:List DV)(parts:List (Nat×Nat×bp)):kF Γ nxt (.bslice len sz zero parts) rs tm ob td K dst eS=eY Γ nxt rs eS ob td K dst (cy Γ (.bslice len sz zero parts) (nameOf nxt dst) tm ob):=rfl
@[simp] theorem goD_load(n:Nat)(agg:Bool)(x:bp):kF Γ nxt (.load n agg x) rs tm ob td K dst eS=eY Γ nxt rs eS ob td K dst (cy Γ (.load n agg x) (nameOf nxt dst) tm ob):=rfl
@[simp] theorem goD_store(n:Nat)(x y:bp):kF Γ nxt (.store n x y) rs tm ob td K dst eS=eY Γ nxt rs eS ob td K dst (cy Γ (.store n x y) (nameOf nxt dst) tm ob):=rfl
@[simp] theorem goD_bin(op:BinOp)(x y:bp):kF Γ nxt (.bin op x y) rs tm ob td K dst eS=eY Γ nxt rs eS ob td K dst (cy Γ (.bin op x y) (nameOf nxt dst) tm ob):=rfl
@[simp] theorem goD_eqT(neg agg:Bool)(shs:List Sh)(x y:bp):kF Γ nxt (.eqT neg agg shs x y) rs tm ob td K dst eS=eY Γ nxt rs eS ob td K dst (cy Γ (.eqT neg agg shs x y) (nameOf nxt dst) tm ob):=rfl
@[simp] theorem goD_un(op:UnOp)(x:bp):kF Γ nxt (.un op x) rs tm ob td K dst eS=eY Γ nxt rs eS ob td K dst (cy Γ (.un op x) (nameOf nxt dst) tm ob):=rfl
@[simp] theorem goD_conv(k:IntKind)(x:bp):kF Γ nxt (.conv k x) rs tm ob td K dst eS=eY Γ nxt rs eS ob td K dst (cy Γ (.conv k x) (nameOf nxt dst) tm ob):=rfl
@[simp] theorem goD_addOff(k:Nat)(x:bp):kF Γ nxt (.addOff k x) rs tm ob td K dst eS=eY Γ nxt rs eS ob td K dst (cy Γ (.addOff k x) (nameOf nxt dst) tm ob):=rfl
@[simp] theorem Yl(x:bp):kF Γ nxt (.nilCheck x) rs tm ob td K dst eS=eY Γ nxt rs eS ob td K dst (cy Γ (.nilCheck x) (nameOf nxt dst) tm ob):=rfl
@[simp] theorem ZO(sz:Nat)(x i:bp):kF Γ nxt (.idxAddr sz x i) rs tm ob td K dst eS=eY Γ nxt rs eS ob td K dst (cy Γ (.idxAddr sz x i) (nameOf nxt dst) tm ob):=rfl
@[simp] theorem ZP(len sz:Nat)(x i:bp):kF Γ nxt (.arrAddr len sz x i) rs tm ob td K dst eS=eY Γ nxt rs eS ob td K dst (cy Γ (.arrAddr len sz x i) (nameOf nxt dst) tm ob):=rfl
@[simp] theorem goD_field(off n:Nat)(agg:Bool)(x:bp):kF Γ nxt (.field off n agg x) rs tm ob td K dst eS=eY Γ nxt rs eS ob td K dst (cy Γ (.field off n agg x) (nameOf nxt dst) tm ob):=rfl
@[simp] theorem goD_slice(sz:Nat)(x:bp)(lo hi:Option bp):kF Γ nxt (.slice sz x lo hi) rs tm ob td K dst eS=eY Γ nxt rs eS ob td K dst (cy Γ (.slice sz x lo hi) (nameOf nxt dst) tm ob):=rfl
@[simp] theorem ZQ(i:Nat)(x:bp):kF Γ nxt (.extract i x) rs tm ob td K dst eS=eY Γ nxt rs eS ob td K dst (cy Γ (.extract i x) (nameOf nxt dst) tm ob):=rfl
@[simp] theorem goD_call(f:FuncId)(args:List bp):kF Γ nxt (.call f args) rs tm ob td K dst eS=eY Γ nxt rs eS ob td K dst (cy Γ (.call f args) (nameOf nxt dst) tm ob):=rfl
@[simp] theorem goD_len(x:bp):kF Γ nxt (.len x) rs tm ob td K dst eS=eY Γ nxt rs eS ob td K dst (cy Γ (.len x) (nameOf nxt dst) tm ob):=rfl
@[simp] theorem goD_lenS(x:bp):kF Γ nxt (.lenS x) rs tm ob td K dst eS=eY Γ nxt rs eS ob td K dst (cy Γ (.lenS x) (nameOf nxt dst) tm ob):=rfl
@[simp] theorem goD_minmax(isMax:Bool)(x y:bp):kF Γ nxt (.minmax isMax x y) rs tm ob td K dst eS=eY Γ nxt rs eS ob td K dst (cy Γ (.minmax isMax x y) (nameOf nxt dst) tm ob):=rfl
@[simp] theorem goD_append(e sz bytes:Nat)(x y:bp):kF Γ nxt (.append e sz bytes x y) rs tm ob td K dst eS=eY Γ nxt rs eS ob td K dst (cy Γ (.append e sz bytes x y) (nameOf nxt dst) tm ob):=rfl
@[simp] theorem ZR(e sz bytes:Nat)(zero:List T)(n:bp):kF Γ nxt (.mkSlice e sz bytes zero n) rs tm ob td K dst eS=eY Γ nxt rs eS ob td K dst (cy Γ (.mkSlice e sz bytes zero n) (nameOf nxt dst) tm ob):=rfl
@[simp] theorem Ym(e sz bytes:Nat)(zero:List T)(n:bp):kF Γ nxt (.mkSliceB e sz bytes zero n) rs tm ob td K dst eS=eY Γ nxt rs eS ob td K dst (cy Γ (.mkSliceB e sz bytes zero n) (nameOf nxt dst) tm ob):=rfl
@[simp] theorem goD_mkFn(f:Fn)(caps:List bp):kF Γ nxt (.mkFn f caps) rs tm ob td K dst eS=eY Γ nxt rs eS ob td K dst (cy Γ (.mkFn f caps) (nameOf nxt dst) tm ob):=rfl
@[simp] theorem goD_callR(f:FuncId)(args:List bp):kF Γ nxt (.callR f args) rs tm ob td K dst eS=eY Γ nxt rs eS ob td K dst (cy Γ (.callR f args) (nameOf nxt dst) tm ob):=rfl
@[simp] theorem goD_callF(f:FuncId)(args:List bp):kF Γ nxt (.callF f args) rs tm ob td K dst eS=eY Γ nxt rs eS ob td K dst (cy Γ (.callF f args) (nameOf nxt dst) tm ob):=rfl
@[simp] theorem goD_mkMap(shs:List Sh)(agg:Bool):kF Γ nxt (.mkMap shs agg) rs tm ob td K dst eS=eY Γ nxt rs eS ob td K dst (cy Γ (.mkMap shs agg) (nameOf nxt dst) tm ob):=rfl
@[simp] theorem goD_lookup(shs:List Sh)(agg:Bool)(zero:DV)(ok:Bool)(x k:bp):kF Γ nxt (.lookup shs agg zero ok x k) rs tm ob td K dst eS=eY Γ nxt rs eS ob td K dst (cy Γ (.lookup shs agg zero ok x k) (nameOf nxt dst) tm ob):=rfl
@[simp] theorem goD_mapUpd(shs:List Sh)(agg:Bool)(x k y:bp):kF Γ nxt (.mapUpd shs agg x k y) rs tm ob td K dst eS=eY Γ nxt rs eS ob td K dst (cy Γ (.mapUpd shs agg x k y) (nameOf nxt dst) tm ob):=rfl
@[simp] theorem goD_mapEnt(shs:List Sh)(agg:Bool)(z:DV)(x k:bp):kF Γ nxt (.mapEnt shs agg z x k) rs tm ob td K dst eS=eY Γ nxt rs eS ob td K dst (cy Γ (.mapEnt shs agg z x k) (nameOf nxt dst) tm ob):=rfl
@[simp] theorem goD_entSt(x s y:bp):kF Γ nxt (.entSt x s y) rs tm ob td K dst eS=eY Γ nxt rs eS ob td K dst (cy Γ (.entSt x s y) (nameOf nxt dst) tm ob):=rfl
@[simp] theorem goD_mapDel(shs:List Sh)(agg:Bool)(x k:bp):kF Γ nxt (.mapDel shs agg x k) rs tm ob td K dst eS=eY Γ nxt rs eS ob td K dst (cy Γ (.mapDel shs agg x k) (nameOf nxt dst) tm ob):=rfl
@[simp] theorem goD_lenM(x:bp):kF Γ nxt (.lenM x) rs tm ob td K dst eS=eY Γ nxt rs eS ob td K dst (cy Γ (.lenM x) (nameOf nxt dst) tm ob):=rfl
@[simp] theorem goD_rangeM(x:bp):kF Γ nxt (.rangeM x) rs tm ob td K dst eS=eY Γ nxt rs eS ob td K dst (cy Γ (.rangeM x) (nameOf nxt dst) tm ob):=rfl
@[simp] theorem goD_copy(sz:Nat)(x y:bp):kF Γ nxt (.copy sz x y) rs tm ob td K dst eS=eY Γ nxt rs eS ob td K dst (cy Γ (.copy sz x y) (nameOf nxt dst) tm ob):=rfl
@[simp] theorem goD_isNil(kind:Nat)(neg:Bool)(x:bp):kF Γ nxt (.isNil kind neg x) rs tm ob td K dst eS=eY Γ nxt rs eS ob td K dst (cy Γ (.isNil kind neg x) (nameOf nxt dst) tm ob):=rfl
@[simp] theorem goD_indexS(x i:bp):kF Γ nxt (.indexS x i) rs tm ob td K dst eS=eY Γ nxt rs eS ob td K dst (cy Γ (.indexS x i) (nameOf nxt dst) tm ob):=rfl
@[simp] theorem goD_fail:kF Γ nxt (.fail) rs tm ob td K dst eS=eY Γ nxt rs eS ob td K dst (cy Γ (.fail) (nameOf nxt dst) tm ob):=rfl
@[simp] theorem goD_entryM(x:bp):kF Γ nxt (.entryM x) rs tm ob td K dst eS=Dh Γ nxt rs eS K dst (ma Γ (.entryM x) tm ob td):=by simp[kF,o9]
end
attribute [simp] Dj Yk Rt Ru O2 O3 ma lF Rv Ku Kv Rw O4 O5 Rx my look_nil du mg AN O6
attribute [simp] cy bp.ev ga jR qT Ad MS fR jx pg jq mG lu Ae Af Ag ij ph tQ sr mr dY fS jS eG C2 nA mJ mI kM gN gO jj gP pj jy jz iE eH mu wR J3 dm uV
attribute [simp] finQ Yi Rs Kq rL vf bO.pw lk cellsOf dw ji qR gM bI tn qS qw gR Cv qQ nameOf Ac dj Et fe oG AJ tY o9
theorem au{x:Int}(h: -9223372036854775808<=x/\x<=9223372036854775807):IntKind.i64.wrap x=x:=by
 simp[IntKind.wrap,IntKind.bits,IntKind.signed];omega
theorem lZ{x:Int}(h:0<=x):x.tdiv 2=x/2:=Int.tdiv_eq_ediv_of_nonneg h
theorem yD{x:Int}(h:0<=x):x.tmod 2=x % 2:=Int.tmod_eq_emod_of_nonneg h
end Go.DM
namespace Go.DM
open Go.RowKit
variable [Laid]
def aW:List (Nat×Spec)->Env
 |[],_=>none
 |(g,s)::l,f=>if f=g then some s else aW l f
theorem ay.nil{P:Program}:ay P (aW []):=λ_ _ h=>by cases h
theorem ay.add{P:Program}{f:Nat}{s:Spec}{l:List (Nat×Spec)}(h:ay P (aW l))(k:Q4 P f s):ay P (aW ((f,s)::l)):=by
 intro g s' hg;simp only[aW]at hg;split at hg
 ·rename_i e;cases hg;subst e;exact k
 ·exact h g s' hg
theorem ay.cons{P:Program}{f:Nat}{s:Spec}{l:List (Nat×Spec)}(h:ay P (aW l))
  (k:∀ts,s.pre ts->aT P f ts (s.fn ts)/\(s.scalar=true->gj (s.fn ts)=true)) (hs:s.st=none:=by rfl) (wC:s.fresh=none:=by rfl):ay P (aW ((f,s)::l)):=
 h.add ⟨k,λe sz hf=>(by rw[wC]at hf;cases hf),λk hk=>(by rw[hs]at hk;cases hk)⟩
def fa(k:List DV->aU->iD):Spec:=⟨λ_=>False,λ_=>.bool false,true,some k,none,false⟩
theorem ay.gV{P:Program}{f:Nat}{k:List DV->aU->iD}{l:List (Nat×Spec)}(h:ay P (aW l))
  (hk:∀args objs,(k args objs).ok->(∀N,(∀r,N<=r->objs r=none)->aZ P f args objs (k args objs))/\∀r,objs r=none->(k args objs).objs r=none):ay P (aW ((f,fa k)::l)):=
 h.add ⟨λ_ h=>h.elim,λ_ _ h=>(by cases h),λk' e=>by cases e;exact hk⟩
theorem lQ.ok{P:Program}{f:FuncId}{ts:List T}{e sz:Nat}{rows:List (List T)}(h:lQ P f ts e sz rows):aT P f ts (.sl rows):=
 ⟨h.entry,λW w vals hW hg hr=>(h.run W w vals hW hg hr).mono λe' w' ⟨v,h1,hb,hf⟩=>⟨v,h1,hb,by
  simp only[aS];rcases hf.it with⟨h2,a,h3⟩|⟨g,cap,cur,h2,hp,zx,hh,h3,h4,h5,h6⟩
  ·exact .inl ⟨h2,a,0,h3⟩
  ·refine .inr ⟨g,0,cap,sz,h2,(Zaj.1 hh).1,λhw=>?_,h3,aY.il (aR.aD (cq.refl (λb=>W b\/b=g) w').toKeepsC (λb _ hb=>.inl hb) _ _ h6) hf.len λj v hv=>?_⟩
   ·have:=hW g hw;omega
   ·rw[ZaX,cell_of_row w' g j cur e (0,0) hh];rw[ZaF]at hv;split at hv
    ·simpa using hv
    ·cases hv⟩⟩
def vm(pre:List T->Prop)(fn:List T->List (List T))(e sz:Nat):Spec:=⟨pre,λts=>.sl (fn ts),false,none,some (e,sz),false⟩
theorem ay.Ry{P:Program}{f:Nat}{pre:List T->Prop}{fn:List T->List (List T)}{e sz:Nat}{l:List (Nat×Spec)}(h:ay P (aW l))(k:∀ts,pre ts->lQ P f ts e sz (fn ts)):ay P (aW ((f,vm pre fn e sz)::l)):=
 h.add ⟨λts hp=>⟨(k ts hp).ok,λx=>by cases x⟩,λe' gb hf ts hp=>(by cases hf;exact⟨_,rfl,k ts hp,λx=>by cases x⟩),λk hk=>(by cases hk)⟩
def yE(pre:List T->Prop)(fn:List T->List (List T))(e sz:Nat):Spec:=⟨pre,λts=>.sl (fn ts),false,none,some (e,sz),true⟩
theorem ay.Rz{P:Program}{f:Nat}{pre:List T->Prop}{fn:List T->List (List T)}{e sz:Nat}{l:List (Nat×Spec)}(h:ay P (aW l))(k:∀ts,pre ts->lQ P f ts e sz (fn ts)/\gj.gI (fn ts).flatten=true):ay P (aW ((f,yE pre fn e sz)::l)):=
 h.add ⟨λts hp=>⟨(k ts hp).1.ok,λx=>by cases x⟩,λe' gb hf ts hp=>(by cases hf;exact⟨_,rfl,(k ts hp).1,λ_=>(k ts hp).2⟩),λk hk=>(by cases hk)⟩
@[simp] theorem ZS(pre:List T->Prop)(fn:List T->List (List T))(e sz:Nat):(yE pre fn e sz).fresh=some (e,sz):=rfl
@[simp] theorem specL_fn(pre:List T->Prop)(fn:List T->List (List T))(e sz:Nat)(ts:List T):(yE pre fn e sz).fn ts=.sl (fn ts):=rfl
@[simp] theorem specL_pre(pre:List T->Prop)(fn:List T->List (List T))(e sz:Nat):(yE pre fn e sz).pre=pre:=rfl
@[simp] theorem specL_lend(pre:List T->Prop)(fn:List T->List (List T))(e sz:Nat):(yE pre fn e sz).lend=true:=rfl
@[simp] theorem specF_lend(pre:List T->Prop)(fn:List T->List (List T))(e sz:Nat):(vm pre fn e sz).lend=false:=rfl
@[simp] theorem ZT(pre:List T->Prop)(fn:List T->List (List T))(e sz:Nat):(vm pre fn e sz).fresh=some (e,sz):=rfl
@[simp] theorem specF_fn(pre:List T->Prop)(fn:List T->List (List T))(e sz:Nat)(ts:List T):(vm pre fn e sz).fn ts=.sl (fn ts):=rfl
@[simp] theorem specF_pre(pre:List T->Prop)(fn:List T->List (List T))(e sz:Nat):(vm pre fn e sz).pre=pre:=rfl
def cz(pre:List T->Prop)(fn:List T->T)(scalar:Bool):Spec:=⟨pre,fn,scalar,none,none,false⟩
@[simp] theorem specP_pre(pre:List T->Prop)(fn:List T->T)(scalar:Bool):(cz pre fn scalar).pre=pre:=rfl
@[simp] theorem specP_fn(pre:List T->Prop)(fn:List T->T)(scalar:Bool):(cz pre fn scalar).fn=fn:=rfl
@[simp] theorem Yn(pre:List T->Prop)(fn:List T->T)(scalar:Bool):(cz pre fn scalar).scalar=scalar:=rfl
@[simp] theorem specP_st(pre:List T->Prop)(fn:List T->T)(scalar:Bool):(cz pre fn scalar).st=none:=rfl
@[simp] theorem specF_st(pre:List T->Prop)(fn:List T->List (List T))(e sz:Nat):(vm pre fn e sz).st=none:=rfl
@[simp] theorem specS_st(k:List DV->aU->iD):(fa k).st=some k:=rfl
theorem Kw(g f:Nat)(s:Spec)(l:List (Nat×Spec)):aW ((g,s)::l) f=if f=g then some s else aW l f:=rfl
theorem O8(f:Nat):aW [] f=none:=rfl
attribute [simp] Kw O8
theorem aT.calls{P:Program}{f:FuncId}{ts:List T}{t:T}(h:aT P f ts t){w:World}{vals:Array Value}(hg:Ab w λ_=>False)(hr:dx w (λ_=>False) ts vals.toList):
  Calls P f vals w λe w'=>∃v,e=.returned v/\tP w.heap.size w w'/\aS w' (λ_=>False) t v:=
 h.run (λ_=>False) w vals (λ_ h=>h.elim) hg hr
@[simp] theorem wrap_lit(n:Nat)(h:n<9223372036854775808):IntKind.i64.wrap (no_index (@OfNat.ofNat Int n instOfNat))= @OfNat.ofNat Int n instOfNat:=by
 have e:(@OfNat.ofNat Int n instOfNat)=(n:Int):=rfl;rw[e,au (by omega)]
@[simp] theorem wrap_neg(n:Nat)(h:n<9223372036854775808):IntKind.i64.wrap (-(no_index (@OfNat.ofNat Int n instOfNat)))= -(@OfNat.ofNat Int n instOfNat):=by
 have e:(@OfNat.ofNat Int n instOfNat)=(n:Int):=rfl;rw[e,au (by omega)]
end Go.DM
namespace Go.DM
open Go.RowKit
variable [Laid]
def gone(aB:aU)(σ:Nat->Nat)(r:Nat):Prop:=∀r',aB r'≠none->σ r'≠r
def RB(objs aB:aU)(σ:Nat->Nat)(r off:Nat):DV->Prop
 |.ptr r' Hd=>r=σ r'/\off=Hd/\∃cs,aB r'=some (.box cs)
 |.gE cs Hd=>off=Hd/\objs r=some (.box (cs.map .v))/\gone aB σ r
 |.v (.box cs)=>off=0/\objs r=some (.box (cs.map .v))/\gone aB σ r
 |_=>False
def Nj(objs aB:aU)(σ:Nat->Nat)(r ver:Nat):DV->Prop
 |.bd r' ver'=>r=σ r'/\∃e sz rows e' gb dp,objs r=some (.arr ver e sz rows)/\aB r'=some (.arr ver' e' gb dp)
 |.v (.sl rows)=>(∃e sz,objs r=some (.arr ver e sz rows))/\gone aB σ r
 |_=>False
def Nk(objs aB:aU)(σ:Nat->Nat)(r ver:Nat)(i:Int)(off:Nat):DV->Prop
 |.jh r' ver' i' Hd=>r=σ r'/\i=i'/\off=Hd/\∃e sz rows e' gb dp,objs r=some (.arr ver e sz rows)/\aB r'=some (.arr ver' e' gb dp)/\sz=gb/\rows.length=dp.length
 |_=>False
def isMap:Option Ob->Prop
 |some (.map _ _ _ _)=>True
 |_=>False
def AQ:Option Ob->Prop
 |some (.iter _ _ _ _)=>True
 |_=>False
def nW(aB:aU)(σ:Nat->Nat)(r:Nat):DV->Prop
 |.iC r'=>r=σ r'/\isMap (aB r')
 |_=>False
def RC(aB:aU)(σ:Nat->Nat)(r:Nat):DV->Prop
 |.iter r'=>r=σ r'/\AQ (aB r')
 |_=>False
def corAsl(objs aB:aU)(σ:Nat->Nat)(r ver lo n:Nat):DV->Prop
 |.s8 r' ver' lo' n'=>r=σ r'/\lo=lo'/\n=n'/\∃e sz rows e' gb dp,objs r=some (.arr ver e sz rows)/\aB r'=some (.arr ver' e' gb dp)/\sz=gb/\rows.length=dp.length
 |.v (.sl dp)=>(∃e sz rows,objs r=some (.arr ver e sz rows)/\dp=(rows.drop lo).take n)/\gone aB σ r
 |_=>False
def RD(objs aB:aU)(σ:Nat->Nat)(r n:Nat):DV->Prop
 |.Es r' n'=>r=σ r'/\n=n'/\∃cs,aB r'=some (.box cs)
 |.v (.sl rows)=>rows.length=n/\(∃sz,∀x∈rows,x.length=sz)/\objs r=some (.box (rows.flatten.map .v))/\gone aB σ r
 |_=>False
theorem AR{o:Option Ob}(h:isMap o):∃shs agg c es,o=some (.map shs agg c es):=by
 unfold isMap at h;split at h
 ·exact⟨_,_,_,_,rfl⟩
 ·exact h.elim
theorem Pb{o:Option Ob}(h:AQ o):∃m s sn l,o=some (.iter m s sn l):=by
 unfold AQ at h;split at h
 ·exact⟨_,_,_,_,rfl⟩
 ·exact h.elim
def EV:DV->Option (List DV)
 |.agg ds=>some ds
 |.v (.agg ts)=>some (ts.map .v)
 |_=>none
mutual
def jl(objs aB:aU)(σ:Nat->Nat):DV->DV->Prop
 |.aJ,d'=>d'=.undef\/d'=.aJ\/d'=.v (.sl [])
 |.ptr r off,d'=>d'=.undef\/RB objs aB σ r off d'
 |.bd r ver,d'=>d'=.undef\/Nj objs aB σ r ver d'
 |.jh r ver i off,d'=>d'=.undef\/Nk objs aB σ r ver i off d'
 |.agg ds,d'=>d'=.undef\/match EV d' with|some nQ=>jD objs aB σ ds nQ|none=>False
 |.undef,d'=>d'=.undef
 |.skip,d'=>d'=.undef\/d'=.skip
 |.v t,d'=>d'=.undef\/d'=.v t
 |.kL rows i off,d'=>d'=.undef\/d'=.kL rows i off
 |.gE cs off,d'=>d'=.undef\/d'=.gE cs off
 |.C1,d'=>d'=.undef\/d'=.C1
 |.iC r,d'=>d'=.undef\/nW aB σ r d'
 |.iter r,d'=>d'=.undef\/RC aB σ r d'
 |.s8 r ver lo n,d'=>d'=.undef\/corAsl objs aB σ r ver lo n d'
 |.Es r n,d'=>d'=.undef\/RD objs aB σ r n d'
 |.eC ds,d'=>d'=.undef\/match d' with|.eC nQ=>jD objs aB σ ds nQ|_=>False
 |.mF f ds,d'=>d'=.undef\/match d' with|.mF f' nQ=>f=f'/\jD objs aB σ ds nQ|.v (.fn f' ts)=>f=f'/\jD objs aB σ ds (ts.map .v)|_=>False
def jD(objs aB:aU)(σ:Nat->Nat):List DV->List DV->Prop
 |[],nQ=>nQ=[]
 |d::ds,nQ=>match nQ with
  |[]=>False
  |d'::nQ=>jl objs aB σ d d'/\jD objs aB σ ds nQ
end
def iV(objs aB:aU)(σ:Nat->Nat):List (Nat×T×DV)->List (Nat×T×DV)->Prop
 |[],es'=>es'=[]
 |e::es,es'=>match es' with
  |[]=>False
  |e'::es'=>e.1=e'.1/\e.2.1=e'.2.1/\jl objs aB σ e.2.2 e'.2.2/\iV objs aB σ es es'
theorem mW{objs aB:aU}{σ:Nat->Nat}:∀{es:List (Nat×T×DV)},(∀e∈es,jl objs aB σ e.2.2 e.2.2)->iV objs aB σ es es
 |[],_=>by simp[iV]
 |e::es,h=>by simp only[iV];exact⟨trivial,trivial,h e (by simp),mW λe he=>h e (by simp[he])⟩
def l7(objs aB:aU)(σ:Nat->Nat):Ob->Ob->Prop
 |.box cs,.box qU=>jD objs aB σ cs qU
 |.arr _ e sz rows,.arr _ e' gb dp=>e=e'/\sz=gb/\rows=dp
 |.map shs agg c es,.map shs' agg' c' es'=>shs=shs'/\agg=agg'/\c=c'/\iV objs aB σ es es'
 |.iter m s sn l,.iter m' s' sn' l'=>m=σ m'/\s=s'/\sn=sn'/\l=l'/\isMap (aB m')
 |_,_=>False
def gW:Ob->Ob->Prop
 |.box _,.box _=>True
 |.arr v _ sz rows,.arr v' _ gb dp=>v=v'/\sz=gb/\rows.length=dp.length
 |.map _ _ _ _,.map _ _ _ _=>True
 |.iter _ _ _ _,.iter _ _ _ _=>True
 |_,_=>False
theorem vo{o o':Ob}(h:gW o o'):o'.kind=o.kind:=by cases o<;>cases o'<;>first|rfl|exact h.elim
def Loc.Cz(L:Loc)(σ:Nat->Nat):Loc:=⟨λr=>L.hY (σ r),λr=>L.sl (σ r),L.yl⟩
section
variable{base:Nat}{W M:Nat->Prop}{w0 w:World}{objs aB:aU}{L:Loc}{σ:Nat->Nat}
theorem sE{o o':Ob}(h:l7 objs aB σ o o')(r:Nat):(L.Cz σ).own r o'=L.own (σ r) o:=by
 cases o<;>cases o'<;>first|rfl|exact h.elim
theorem jZ(fH:∀r' o',aB r'=some o'->∃o,objs (σ r')=some o/\∀r,(L.Cz σ).own r o'=L.own (σ r) o)(b:Nat)(h:WW W aB (L.Cz σ) b):WW W objs L b:=by
 rcases h with h|⟨r',o',h1,h2⟩
 ·exact .inl h
 ·obtain⟨o,h3,h4⟩:=fH r' o' h1;exact .inr ⟨σ r',o,h3,by rw[<-h4];exact h2⟩
theorem AS(hO:bN base W M w0 objs w L)(fH:∀r' o',aB r'=some o'->∃o,objs (σ r')=some o/\∀r,(L.Cz σ).own r o'=L.own (σ r) o){r b:Nat}{o:Ob}(hr:objs r=some o)(hb:L.own r o=some b)(hg:gone aB σ r):¬WW W aB (L.Cz σ) b:=by
 rintro(h|⟨r',o',h1,h2⟩)
 ·exact hO.outer r o b hr hb h
 ·obtain⟨o2,h3,h4⟩:=fH r' o' h1;rw[h4]at h2;exact hO.apart r (σ r') o o2 b (λe=>hg r' (by rw[h1];exact λe=>by cases e) e.symm) hr h3 hb h2
theorem ua(hO:bN base W M w0 objs w L)(fH:∀r' o',aB r'=some o'->∃o,objs (σ r')=some o/\∀r,(L.Cz σ).own r o'=L.own (σ r) o){r:Nat}{cs:List T}(hr:objs r=some (.box (cs.map .v)))(hg:gone aB σ r):
  L.hY r<w.heap.size/\¬WW W aB (L.Cz σ) (L.hY r)/\cY w (WW W aB (L.Cz σ)) (L.hY r) 0 cs:=by
 have hb:=hO.ob r _ hr;obtain⟨c,e,hc,eI,_⟩:=hb;refine⟨(Zaj.1 hc).1,AS hO fH hr rfl hg,cY.Aa cs 0 λj t hj=>?_⟩;have hd:(cs.map DV.v)[j]? =some (.v t):=by simp[hj]
 obtain⟨v,hv,h1,h2⟩:=aL.get eI hd;simp only[av]at h2;refine⟨v, ?_,h1,aS.aD (cq.refl (WW W objs L) w).toKeepsC (λb _ hb=>jZ fH b hb) t v h2⟩;simp only[World.cell?,hc,ZaX];simpa using hv
theorem Kz(hO:bN base W M w0 objs w L)(fH:∀r' o',aB r'=some o'->∃o,objs (σ r')=some o/\∀r,(L.Cz σ).own r o'=L.own (σ r) o){r ver e sz:Nat}{rows:List (List T)}(hr:objs r=some (.arr ver e sz rows))(hg:gone aB σ r):
  aS w (WW W aB (L.Cz σ)) (.sl rows) (L.sl r):=by
 have qA:=hO.ob r _ hr;obtain⟨gF,cU,hm,ky⟩:=qA;simp only[aS];rcases ky with⟨rfl,p,hp⟩|⟨g',cap,cur,p9,hp,hh,hle,po,Ex,eI⟩
 ·exact .inl ⟨rfl,p,0,hp⟩
 ·have tT:aP (L.sl r)=some g':=by simp[p9,aP,ZaA.1 hp]
  refine .inr ⟨g',0,cap,sz,p9,(Zaj.1 hh).1,AS hO fH hr (by simpa [Loc.own]using tT) hg,hle, ?_⟩;have tS:=nu.rows (hO.ob r _ hr) (g:=g') tT;obtain⟨vs,wD,zA,QO⟩:=aY.flatten tS;exact aY.il (aR.aD (cq.refl (WW W objs L) w).toKeepsC (λb _ hb=>jZ fH b hb) _ _ zA) cU QO
theorem AT{ts:List T}:∀{vs:List Value},aL w W objs L (ts.map .v) vs->aR w (WW W objs L) ts vs:=by
 induction ts with
 |nil=>intro vs h;simpa [aL,aR]using h
 |cons t ts ih=>
  intro vs h;simp only[Zau,aL]at h;obtain⟨v,ia,rfl,h1,h2,h3⟩:=h;simp only[av]at h2;simp only[aR];exact⟨v,ia,rfl,h1,h2,ih h3⟩
theorem zF(hO:bN base W M w0 objs w L)(fH:∀r' o',aB r'=some o'->∃o,objs (σ r')=some o/\∀r,(L.Cz σ).own r o'=L.own (σ r) o):
  ∀n,(∀(d d':DV) (x:Value),SizeOf.sizeOf d<n->jl objs aB σ d d'->av w W objs L d x->av w W aB (L.Cz σ) d' x)/\
   (∀(ds nQ:List DV) (xs:List Value),SizeOf.sizeOf ds<n->jD objs aB σ ds nQ->aL w W objs L ds xs->aL w W aB (L.Cz σ) nQ xs)/\
   (∀(ds nQ:List DV) (xs:List Value),SizeOf.sizeOf ds<n->jD objs aB σ ds nQ->eZ w W objs L ds xs->eZ w W aB (L.Cz σ) nQ xs):=by
 have kG:∀(t:T) (x:Value),aS w (WW W objs L) t x->aS w (WW W aB (L.Cz σ)) t x:=λt x h=>aS.aD (cq.refl (WW W objs L) w).toKeepsC (λb _ hb=>jZ fH b hb) t x h;intro n;induction n with
 |zero=>exact⟨λ_ _ _ h=>by omega,λ_ _ _ h=>by omega,λ_ _ _ h=>by omega⟩
 |succ n ih=>
  refine⟨λd d' x hn hc hr=>?_,λds nQ xs hn hc hr=>?_,λds nQ xs hn hc hr=>?_⟩
  ·by_cases hu:d'=.undef
   ·subst hu;simp[av]
   cases d with
   |undef=>simp only[jl]at hc;exact absurd hc hu
   |skip=>simp only[jl,hu,false_or]at hc;subst hc;simpa only[av]using hr
   |C1=>simp only[jl,hu,false_or]at hc;subst hc;simp only[av,Loc.Cz]at hr⊢;exact hr
   |v t=>simp only[jl,hu,false_or]at hc;subst hc;simp only[av]at hr⊢;exact kG t x hr
   |kL rows i off=>
    simp only[jl,hu,false_or]at hc;subst hc;simp only[av]at hr⊢;obtain⟨b,o,sz,hx,hb,O1,tS,h1,h2⟩:=hr;exact⟨b,o,sz,hx,hb,λk=>O1 (jZ fH b k),aY.aD (cq.refl (WW W objs L) w).toKeepsC (λb _ hb=>jZ fH b hb) hb O1 sz o rows tS,h1,h2⟩
   |gE cs off=>
    simp only[jl,hu,false_or]at hc;subst hc;simp only[av]at hr⊢;obtain⟨b,o,hx,hb,O1,tS⟩:=hr;exact⟨b,o,hx,hb,λk=>O1 (jZ fH b k),cY.aD (cq.refl (WW W objs L) w).toKeepsC (λb _ hb=>jZ fH b hb) hb O1 o cs tS⟩
   |iC r=>
    simp only[jl,hu,false_or]at hc;simp only[av]at hr;cases d' with
    |iC r'=>
     obtain⟨rfl,hm⟩:=hc;simp only[av];exact⟨AR hm,hr.2⟩
    |_=>exact hc.elim
   |iter r=>
    simp only[jl,hu,false_or]at hc;simp only[av]at hr;cases d' with
    |iter r'=>
     obtain⟨rfl,hm⟩:=hc;simp only[av];exact⟨Pb hm,hr.2⟩
    |_=>exact hc.elim
   |eC ds=>
    simp only[jl,hu,false_or]at hc;simp only[av]at hr;obtain⟨vs,rfl,hr⟩:=hr;cases d' with
    |eC nQ=>
     simp only[av];exact⟨vs,rfl,ih.2.2 ds nQ _ (by simp at hn⊢;omega) hc hr⟩
    |_=>exact hc.elim
   |mF f ds=>
    simp only[jl,hu,false_or]at hc;simp only[av]at hr;obtain⟨vs,rfl,hr⟩:=hr;cases d' with
    |mF f' nQ=>
     obtain⟨rfl,hc⟩:=hc;simp only[av];exact⟨vs,rfl,ih.2.1 ds nQ _ (by simp at hn⊢;omega) hc hr⟩
    |v t=>
     cases t with
     |fn f' ts=>
      obtain⟨rfl,hc⟩:=hc;simp only[av,aS];exact⟨vs,rfl,AT (ih.2.1 ds _ _ (by simp at hn⊢;omega) hc hr)⟩
     |_=>exact hc.elim
    |_=>exact hc.elim
   |Es r m=>
    simp only[jl,hu,false_or]at hc;simp only[av]at hr;obtain⟨⟨cs0,hcs0⟩,rfl⟩:=hr;cases d' with
    |Es r' m'=>
     obtain⟨rfl,rfl,cs,lz⟩:=hc;simp only[av];exact⟨⟨cs,lz⟩,rfl⟩
    |v t=>
     cases t with
     |sl rows=>
      obtain⟨rfl,⟨sz,gF⟩,qA,hg⟩:=hc;obtain⟨h1,h2,h3⟩:=ua hO fH qA hg;simp only[av,aS];refine .inr ⟨L.hY r,0,rows.length,sz,rfl,h1,h2,Zae _, ?_⟩;obtain⟨vs,zy,jn⟩:=cY.vals h3;exact aY.il zy gF jn
     |_=>exact hc.elim
    |_=>exact hc.elim
   |s8 r ver lo m=>
    simp only[jl,hu,false_or]at hc;simp only[av]at hr;obtain⟨GH,nP,e2,C3,jT,dU,GI,hx⟩:=hr;cases d' with
    |s8 r' ver' lo' m'=>
     obtain⟨rfl,rfl,rfl,e,sz,rows,e',gb,dp,h1,h2,h3,h4⟩:=hc;rw[dU]at h1;simp only[Zaa,Ob.arr.injEq]at h1;obtain⟨rfl,rfl,rfl,rfl⟩:=h1;simp only[av];refine⟨GH,ver',e',gb,dp,h2,Zae _,λ_=>?_⟩;obtain⟨k0,p,cap,p2,k1,k2,k3⟩:=hx rfl;exact⟨by rw[<-h4];exact k0,p,cap,p2,by rw[<-h4];exact k1,k2,by rw[<-h3];exact k3⟩
    |v t=>
     cases t with
     |sl dp=>
      obtain⟨⟨e,sz,rows,h1,rfl⟩,hg⟩:=hc;rw[dU]at h1;simp only[Zaa,Ob.arr.injEq]at h1;obtain⟨rfl,rfl,rfl,rfl⟩:=h1;have hx:=hx rfl;simp only[av,aS];have Eo:((jT.drop lo).take m).length=m:=by rw[Zaw,Za8];omega
      rcases qZ hO dU hx with⟨rfl,a,c,rfl⟩|⟨g,c,tT,rfl,QW,tS⟩
      ·exact .inl ⟨by simp,a,c,rfl⟩
      ·refine .inr ⟨g,lo*C3,c,C3,by rw[Eo],(hO.ob r _ dU).lt (by simpa [Loc.own]using tT),AS hO fH dU (by simpa [Loc.own]using tT) hg,by omega, ?_⟩;obtain⟨vs,wD,zA,QO⟩:=aY.flatten tS;exact aY.il (aR.aD (cq.refl (WW W objs L) w).toKeepsC (λb _ hb=>jZ fH b hb) _ _ zA) (λx hx=>(hO.ob r _ dU).2.1 x (Zbv (Zav hx))) QO
     |_=>exact hc.elim
    |_=>exact hc.elim
   |aJ=>
    simp only[jl,hu,false_or]at hc;rcases hc with rfl|rfl
    ·simpa only[av]using hr
    ·simp only[av]at hr;obtain⟨a,rfl⟩:=hr;simp only[av,aS];exact .inl ⟨trivial,a,0,rfl⟩
   |ptr r off=>
    simp only[jl,hu,false_or]at hc;simp only[av]at hr;obtain⟨⟨cs0,hcs0⟩,rfl⟩:=hr;cases d' with
    |ptr r' Hd=>
     obtain⟨rfl,rfl,cs,lz⟩:=hc;simp only[av];exact⟨⟨cs,lz⟩,rfl⟩
    |gE cs Hd=>
     obtain⟨rfl,qA,hg⟩:=hc;obtain⟨h1,h2,h3⟩:=ua hO fH qA hg;simp only[av];exact⟨L.hY r,0,by simp,h1,h2,h3⟩
    |v t=>
     cases t with
     |box cs=>
      obtain⟨rfl,qA,hg⟩:=hc;obtain⟨h1,h2,h3⟩:=ua hO fH qA hg;simp only[av,aS];exact⟨L.hY r,0,rfl,h1,h2,h3⟩
     |_=>exact hc.elim
    |_=>exact hc.elim
   |bd r ver=>
    simp only[jl,hu,false_or]at hc;simp only[av]at hr;obtain⟨GH,nP,e2,C3,jT,dU,GI,hx⟩:=hr;cases d' with
    |bd r' ver'=>
     obtain⟨rfl,e,sz,rows,e',gb,dp,h1,h2⟩:=hc;rw[dU]at h1;simp only[Zaa,Ob.arr.injEq]at h1;obtain⟨rfl,_⟩:=h1;simp only[av];exact⟨GH,ver',e',gb,dp,h2,Zae _,λ_=>hx rfl⟩
    |v t=>
     cases t with
     |sl rows=>
      obtain⟨⟨e,sz,h1⟩,hg⟩:=hc;rw[dU]at h1;simp only[Zaa,Ob.arr.injEq]at h1;obtain⟨rfl,rfl,rfl,rfl⟩:=h1;have hx:=hx rfl;subst hx;simp only[av];exact Kz hO fH dU hg
     |_=>exact hc.elim
    |_=>exact hc.elim
   |jh r ver i off=>
    simp only[jl,hu,false_or]at hc;simp only[av]at hr;obtain⟨GH,nP,e2,C3,jT,dU,GI,hx⟩:=hr;cases d' with
    |jh r' ver' i' Hd=>
     obtain⟨rfl,rfl,rfl,e,sz,rows,e',gb,dp,h1,h2,h3,h4⟩:=hc;rw[dU]at h1;simp only[Zaa,Ob.arr.injEq]at h1;obtain⟨rfl,rfl,rfl,rfl⟩:=h1;simp only[av];refine⟨GH,ver',e',gb,dp,h2,Zae _,λ_=>?_⟩;obtain⟨g,k1,k2,k3,k4⟩:=hx rfl;exact⟨g,k1,by rw[<-h3];exact k2,k3,by rw[<-h4];exact k4⟩
    |_=>exact hc.elim
   |agg ds=>
    simp only[jl,hu,false_or]at hc;simp only[av]at hr;obtain⟨vs,rfl,hr⟩:=hr;cases d' with
    |agg nQ=>
     simp only[EV]at hc;simp only[av];exact⟨vs,rfl,ih.2.1 ds nQ _ (by simp at hn⊢;omega) hc hr⟩
    |v t=>
     cases t with
     |agg ts=>
      simp only[EV]at hc;simp only[av,aS];exact⟨vs,rfl,AT (ih.2.1 ds _ _ (by simp at hn⊢;omega) hc hr)⟩
     |_=>exact hc.elim
    |_=>exact hc.elim
  ·cases ds with
   |nil=>simp only[jD]at hc;subst hc;simpa only[aL]using hr
   |cons d ds=>
    cases nQ with
    |nil=>simp[jD]at hc
    |cons d' nQ=>
     simp only[jD]at hc;simp only[aL]at hr⊢;obtain⟨y,ys,hv,h1,h2,h3⟩:=hr;exact⟨y,ys,hv,h1,ih.1 d d' y (by simp at hn⊢;omega) hc.1 h2,ih.2.1 ds nQ ys (by simp at hn⊢;omega) hc.2 h3⟩
  ·cases ds with
   |nil=>simp only[jD]at hc;subst hc;simpa only[eZ]using hr
   |cons d ds=>
    cases nQ with
    |nil=>simp[jD]at hc
    |cons d' nQ=>
     simp only[jD]at hc;simp only[eZ]at hr⊢;obtain⟨y,ys,hv,h2,h3⟩:=hr;exact⟨y,ys,hv,ih.1 d d' y (by simp at hn⊢;omega) hc.1 h2,ih.2.2 ds nQ ys (by simp at hn⊢;omega) hc.2 h3⟩
theorem Le.cor{st dh:lj}(σ:Nat->Nat)(CF:dh.low=st.low)(RE:dh.todo=st.todo)(AU:∀r,dh.nxt<=r->dh.objs r=none)
  (fH:∀r' o',dh.objs r'=some o'->∃o,st.objs (σ r')=some o/\l7 st.objs dh.objs σ o o')
  (hinj:∀r1 r2,dh.objs r1≠none->dh.objs r2≠none->σ r1=σ r2->r1=r2)
  (He:∀r,r<st.low->∀o,st.objs r=some o->σ r=r/\∃o',dh.objs r=some o'/\gW o o')
  (jd:∀k,jl st.objs dh.objs σ (st.tmps k) (dh.tmps k)):Le st dh:=by
 intro κ nt a w L h;refine⟨L.Cz σ,⟨?_, ?_,h.r.defers,h.r.bg,⟨_,AU⟩⟩,AU,by rw[CF];exact h.low,by rw[CF];exact h.it⟩
 ·obtain⟨W,base,M,w0,dy,h0⟩:=h.r.ex;have hO:=h0.o;have qA:∀r' o',dh.objs r'=some o'->∃o,st.objs (σ r')=some o/\∀r,(L.Cz σ).own r o'=L.own (σ r) o:=λr' o' h=>let⟨o,h1,h2⟩:=fH r' o' h;⟨o,h1,sE h2⟩
  have cr:=λ(d d':DV) (x:Value)=>(zF hO qA (SizeOf.sizeOf d+1)).1 d d' x (by omega);have crs:=λ(ds nQ:List DV) (xs:List Value)=>(zF hO qA (SizeOf.sizeOf ds+1)).2.1 ds nQ xs (by omega);refine⟨W,base,M,w0,by rw[RE];exact dy,h0.size,λt=>cr _ _ _ (jd t) (h0.tmps t),⟨hO.fr,λr' o' gf=>?_,λr1 r2 o1 o2 b bH h1 h2 Dk kp=>?_,λr' o' b gf hb=>?_,hO.under,hO.gl.aD (cq.refl (WW W st.objs L) w).toKeepsC λb _ hb=>jZ qA b hb⟩⟩
  ·obtain⟨o,ho,hc⟩:=fH r' o' gf;have hk:=hO.ob (σ r') o ho;cases o with
   |box cs=>
    cases o' with
    |box qU=>
     obtain⟨c,e,bK,hr,hm⟩:=hk;exact⟨c,e,bK,crs cs qU _ hc hr,hm⟩
    |_=>exact hc.elim
   |map shs agg c es=>
    cases o' with
    |map shs' agg' c' es'=>
     obtain⟨rfl,rfl,rfl,pa⟩:=hc;obtain⟨arr,bK,hr,k1,k2,k3,hm⟩:=hk;have key:∀(es es':List (Nat×T×DV)) (xs:List MapEntry),iV st.objs dh.objs σ es es'->bk w W st.objs L es xs->bk w W dh.objs (L.Cz σ) es' xs/\es'.map (·.1)=es.map (·.1)/\es'.map (·.2.1)=es.map (·.2.1):=by
      intro es;induction es with
      |nil=>intro es' xs h1 h2;simp only[iV]at h1;subst h1;exact⟨by simpa only[bk]using h2,rfl,rfl⟩
      |cons e es ih=>
       intro es' xs h1 h2;cases es' with
       |nil=>simp[iV]at h1
       |cons e' es'=>
        simp only[iV]at h1;simp only[bk]at h2⊢;obtain⟨x,jN,rfl,q0,q1,q2,q3⟩:=h2;obtain⟨i1,i2,i3⟩:=ih es' jN h1.2.2.2 q3;refine⟨⟨x,jN,rfl,q0.trans h1.1, ?_,cr _ _ _ h1.2.2.1 q2,i1⟩,by simp[i2,h1.1],by simp[i3,h1.2.1]⟩;rw[<-h1.2.1];exact aS.aD (cq.refl (WW W st.objs L) w).toKeepsC (λb _ hb=>jZ qA b hb) _ _ q1
     obtain⟨i1,i2,i3⟩:=key es es' _ pa hr;refine⟨arr,bK,i1,λe he=>?_,λe he=>?_,by rw[i2];exact k3,hm⟩
     ·have:e.2.1∈es.map (·.2.1):=by rw[<-i3];exact Zal.2 ⟨e,he,rfl⟩
      obtain⟨e0,h0',MX⟩:=Zal.1 this;rw[<-MX];exact k1 e0 h0'
     ·have:e.1∈es.map (·.1):=by rw[<-i2];exact Zal.2 ⟨e,he,rfl⟩
      obtain⟨e0,h0',MX⟩:=Zal.1 this;rw[<-MX];exact k2 e0 h0'
    |_=>exact hc.elim
   |iter m s sn l=>
    cases o' with
    |iter m' s' sn' l'=>
     obtain⟨rfl,rfl,rfl,rfl,JM⟩:=hc;obtain⟨bK,_,hm⟩:=hk;exact⟨bK,AR JM,hm⟩
    |_=>exact hc.elim
   |arr ver e sz rows=>
    cases o' with
    |box _=>exact hc.elim
    |map _ _ _ _=>exact hc.elim
    |iter _ _ _ _=>exact hc.elim
    |arr ver' e' gb dp=>
     obtain⟨rfl,rfl,rfl⟩:=hc;obtain⟨g1,g2,g3,g4⟩:=hk;refine⟨g1,g2,g3, ?_⟩;rcases g4 with g4|⟨g,cap,cur,hv,hp,hh,k1,k2,k3,k4⟩
     ·exact .inl g4
     ·exact .inr ⟨g,cap,cur,hv,hp,hh,k1,k2,k3,aR.aD (cq.refl (WW W st.objs L) w).toKeepsC (λb _ hb=>jZ qA b hb) _ _ k4⟩
  ·obtain⟨p1,q1,c1⟩:=fH r1 o1 h1;obtain⟨p2,q2,c2⟩:=fH r2 o2 h2;rw[sE c1]at Dk;rw[sE c2]at kp;exact hO.apart (σ r1) (σ r2) p1 p2 b (λe=>bH (hinj r1 r2 (λe=>by rw[show dh.objs r1=some o1 from h1]at e;cases e) (λe=>by rw[show dh.objs r2=some o2 from h2]at e;cases e) e)) q1 q2 Dk kp
  ·obtain⟨p1,q1,c1⟩:=fH r' o' gf;rw[sE c1]at hb;exact hO.outer (σ r') p1 b q1 hb
 ·have ha:=h.r.ee;refine⟨ha.keeps,λb hb hw=>ha.sub b hb (jZ (λr' o' h=>let⟨o,h1,h2⟩:=fH r' o' h;⟨o,h1,sE h2⟩) b hw),λr o hr hk=>?_,λr ver e sz rows hr=>?_,ha.yl⟩
  ·have cV:r<st.low:=ZbX λhle=>by rw[h.low r hle]at hr;cases hr
   obtain⟨e1,o1,lX,qz⟩:=ha.fix r o hr hk;obtain⟨hs,o',gf,hv⟩:=He r cV _ lX;exact⟨by simp only[Loc.Cz,hs];exact e1,o',gf,(vo hv).trans qz⟩
  ·have cV:r<st.low:=ZbX λhle=>by rw[h.low r hle]at hr;cases hr
   obtain⟨v1,e1,s1,r1,lX,l1,k1⟩:=ha.arr r ver e sz rows hr;obtain⟨hs,o',gf,hv⟩:=He r cV _ lX;cases o' with
   |box qU=>exact hv.elim
   |map _ _ _ _=>exact hv.elim
   |iter _ _ _ _=>exact hv.elim
   |arr v2 e2 s2 r2=>
    obtain⟨rfl,rfl,h3⟩:=hv;exact⟨v1,e2,s1,r2,gf,l1,λhv=>by
     obtain⟨a1,a2,a3⟩:=k1 hv;exact⟨by simp only[Loc.Cz,hs];exact a1,a2,by rw[<-h3];exact a3⟩⟩
end
end Go.DM
namespace Go.DM
open Go.RowKit
variable [Laid]
structure ItOk(P:Program)(f:FuncId)(caps:List T)(EW:List (List T)):Prop where
 entry:Entry P f
 run:∀(l:Nat) (J:(Nat->Prop)->List (List T)->World->Prop) (W:Nat->Prop) (A:World) (vs:Array Value),Yields P l J->J W EW A->aR A W caps vs.toList->(∀b,W b->b<A.heap.size)->Ab A W->
  Calls P f (#[.func (.yield l) #[] #[]]++vs) A λe B=>(∃v,e=.returned v)/\∃W',J W' [] B
def AX(f:Nat->DV):List Nat->List T->Nat->DV
 |p::ps,x::xs=>AX (cd f (some p) (.v x)) ps xs
 |_,_=>f
section
variable{P:Program}{nt:Nat}
theorem Dn{A:World}{W:Nat->Prop}{objs:aU}{L:Loc}:∀(ps:List Nat) (x:List T) (vals:List Value) (f:Nat->DV) (tm:Array Value),(∀p∈ps,p<nt)->tm.size=nt->x.length=ps.length->dx A (WW W objs L) x vals->
  (∀t,av A W objs L (f t) (tm.getD t Go.undef))->
  ((ps.zip vals).foldl (λt (pv:Nat×Value)=>t.setIfInBounds pv.1 pv.2) tm).size=nt/\∀t,av A W objs L (AX f ps x t) (((ps.zip vals).foldl (λt (pv:Nat×Value)=>t.setIfInBounds pv.1 pv.2) tm).getD t Go.undef)
 |[],x,vals,f,tm,_,hs,hl,hr,hf=>by
  have:x=[]:=ZaD (by simpa using hl);subst this;exact⟨by simpa using hs,by simpa [AX]using hf⟩
 |p::ps,[],vals,f,tm,_,_,hl,_,_=>by simp at hl
 |p::ps,y::x,vals,f,tm,hp,hs,hl,hr,hf=>by
  simp only[dx]at hr;obtain⟨v,ia,rfl,h1,h2⟩:=hr;simp only[List.zip_cons_cons,Zaz,AX];refine Dn ps x ia _ _ (λq hq=>hp q (ZaV _ hq)) (by simpa using hs) (by simpa using hl) h2 λt=>?_;rw[Au _ _ _ _ (by rw[hs];exact hp p (Za4 ..))];simp only[cd];by_cases ht:t=p
  ·simp only[ht,if_true,av];exact h1
  ·simp only[ht,if_false];exact hf t
theorem KC(qs:Array Nat)(vals:Array Value)(tm:Array Value):(qs.zip vals).foldl (λt (p,v)=>t.setIfInBounds p v) tm=(qs.toList.zip vals.toList).foldl (λt (pv:Nat×Value)=>t.setIfInBounds pv.1 pv.2) tm:=by
 rw[<-Array.foldl_toList,Array.toList_zip]
theorem Pd{ro:Option Nat}{w:World}{fn:FuncId}{tm:Array Value}{ps:Array Nat}{y z:Code}(jW:∀l,ro=some l->∃r,w.heap[l]? =some (.loop r)):
  ∃(l:Nat) (Ds:List Nat) (W1:World) (rec:Loop),(Instr.enterLoop fn tm ps y z ro).run P w=.ok (l,Ds.map mark) W1/\tP w.heap.size w W1/\w.heap.size<=l/\W1.heap[l]? =some (.loop rec)/\
   rec.state=.ready/\rec.pending=none/\rec.fn=fn/\rec.tmps=tm/\rec.params=ps/\rec.assign=y/\rec.body=z/\Ds.Nodup/\(∀D∈Ds,W1.heap[D]? =some (.deferred (some []))/\w.heap.size<=D):=by
 cases ro with
 |none=>
  refine⟨_,[w.heap.size],_,{state:=.ready,pending:=none,fn,tmps:=tm,params:=ps,assign:=y,body:=z,defers:=w.heap.size},run_enterLoop_outer _ _ _ _ _, ?_,by simp, ?_,rfl,rfl,rfl,rfl,rfl,rfl,rfl,by simp, ?_⟩
  ·exact⟨((Below.refl _ w).alloc (Zae _) _).alloc (by simp) _,Zae _⟩
  ·have:=World.alloc_heap_new (w.alloc (.deferred (some []))) (.loop {state:=.ready,pending:=none,fn,tmps:=tm,params:=ps,assign:=y,body:=z,defers:=w.heap.size})
   rwa [World.size_alloc]at this
  ·intro D hD;simp only[Zah]at hD;subst hD;exact⟨(Below.heap_alloc _ _ _ (by simp)).trans (World.alloc_heap_new w _),Zae _⟩
 |some l0=>
  obtain⟨r0,hr0⟩:=jW l0 rfl;refine⟨_,[],_,{state:=.ready,pending:=none,fn,tmps:=tm,params:=ps,assign:=y,body:=z,defers:=r0.defers},run_enterLoop_inner hr0 _ _ _ _ _, ?_,Zae _,World.alloc_heap_new w _,rfl,rfl,rfl,rfl,rfl,rfl,rfl,ZbT,λD hD=>by cases hD⟩;exact⟨(Below.refl _ w).alloc (Zae _) _,Zae _⟩
theorem aa.xb{Q:Exit->lj->Prop}{st:lj}{g:bp}{ps:List Nat}{as bs:DC}{f:FuncId}{caps:List T}{EW:List (List T)}(hit:ItOk P f caps EW)(CF:0<st.low)
  (hg:g.ev st.tmps=.v (.fn (.func f) caps)) (hlen:∀x∈EW,x.length=ps.length) (R:List (List T)->aU) (hR0:R []=st.objs) (hRf:∀pre r,st.nxt<=r->R pre r=none)
  (round:∀pre x rest,EW=pre++x::rest->aa P nt as (λe s1=>e=.normal/\aa P nt bs (λe s2=>e=.normal/\Le s2 ⟨λ_=>.undef,R (pre++[x]),st.nxt,st.nxt,[]⟩) s1) ⟨AX st.tmps ps x,R pre,st.nxt,st.nxt,[]⟩)
  (done:Q .normal ⟨st.tmps,R EW,st.nxt,st.low,st.todo⟩):aa P nt (.xb g ps as bs) Q st:=by
 refine⟨λc hc=>?_⟩;obtain⟨g',qs,y,z,rfl,hg',rfl,cV,hy,hz⟩:=Ko hc;intro n κ a w L gd r;have hJ:κ.J=none:=by
  cases hj:κ.J with
  |none=>rfl
  |some J=>have:=r.it (by rw[hj];rfl);omega
 obtain⟨W,base,M,w0,dy,h0⟩:=r.r.ex;have Ks:=dy;unfold Ctx.At at Ks;simp only[hJ]at Ks;obtain⟨htd,rfl,rfl,rfl,rfl⟩:=Ks;have hgv:=bp.bq h0.o.gl h0.tmps hg';rw[hg]at hgv;simp only[av,aS]at hgv;obtain⟨vs,hgv,Dd⟩:=hgv;have hle:κ.base<=w.heap.size:=ZaE h0.o.fr.ik h0.o.fr.size;have wY:∀b,WW κ.W st.objs L b->b<w.heap.size:=by
  rintro b (hb|⟨r',o',h1,h2⟩)
  ·have:=h0.o.under b hb;omega
  ·exact(h0.o.ob r' o' h1).lt h2
 refine wpIn_rangeFunc ?_;intro fn wF;obtain⟨l,Ds0,W1,rec,AK,Dk,hlw,wJ,r1,r2,r3,r4,r5,r6,r7,zm,hDs⟩:=Pd (P:=P) (ro:=κ.ro) (w:=w) (fn:=fn) (tm:=a.tmps) (ps:=qs) (y:=y) (z:=z) (λl hl=>by
  obtain⟨rc,KD⟩:=gd.rd l hl;exact⟨rc,r.r.ee.keeps.Xu l rc KD⟩)
 obtain⟨fnE,hfnE,bH,Cx⟩:=hit.entry;have hDl:∀D∈Ds0,D≠l:=λD hD e=>by
  have:=(hDs D hD).1;rw[e,wJ]at this;cases this
 let J:(Nat->Prop)->List (List T)->World->Prop:=λWk todo A=>∃pre L',EW=pre++todo/\bN κ.base κ.W κ.M κ.w0 (R pre) A L'/\jc κ.W st.objs L w (R pre) L' A/\(∀b,WW κ.W (R pre) L' b->Wk b)/\
  A.heap[l]? =some (.loop rec)/\(∀D∈Ds0,A.heap[D]? =some (.deferred (some [])))/\∀b,Wk b->b<A.heap.size
 have hrec:({rec with state:=.ready,pending:=none}:Loop)=rec:=by cases rec;simp_all
 have hYield:Yields P l J:=by
  refine⟨?_, ?_⟩
  ·rintro Wk todo A B ⟨pre,L',h1,h2,h3,h4,h5,h6,h7⟩ hb;obtain⟨hO,hA⟩:=bN.grow h2 hb;refine⟨pre,L',h1,hO,h3.comp hA (λ_ h=>.inl h) (λ_ h=>h),h4, ?_,λD hD=>?_,λb hw=>ZaR (h7 b hw) hb.size⟩
   ·exact(hb.block l (Zaj.1 h5).1).trans h5
   ·exact(hb.block D (Zaj.1 (h6 D hD)).1).trans (h6 D hD)
  ·rintro Wk x rest vals A ⟨pre,L',h1,h2,h3,h4,h5,h6,h7⟩ hx;have sv:x.length=qs.toList.length:=hlen x (by rw[h1];simp);have wD:vals.size=rec.params.size:=by
    have:=dx.length hx;rw[r5];simpa [sv]using this
   have Qv:=run_yield (P:=P) (args:=vals) h5 wD;rw[r3,r4,r5,r6,r7]at Qv;refine⟨_,_,_,_,Qv, ?_⟩;have hleA:κ.base<=A.heap.size:=ZaE h2.fr.ik h2.fr.size;have hlA:=(Zaj.1 h5).1;have hxW:dx A (WW κ.W (R pre) L') x vals.toList:=by
    have hk:=cq.refl Wk A;have conv:∀(ts:List T) (vs:List Value),dx A Wk ts vs->dx A (WW κ.W (R pre) L') ts vs:=λts vs h=>dx.aD hk.toKeepsC (λb _ hb=>h4 b hb) ts vs h
    exact conv _ _ hx
   have jd:∀t,av A κ.W (R pre) L' (st.tmps t) (a.tmps.getD t Go.undef):=λt=>av.ee h3 _ _ (h0.tmps t);have Q2:=Dn (nt:=nt) qs.toList x vals.toList st.tmps a.tmps cV h0.size sv hxW jd;rw[<-KC]at Q2
   let κ1:Ctx:=⟨κ.W,R pre,L',A,κ.base,κ.M,κ.w0,none,some l⟩
   have good1:κ1.Good P:=⟨λJ hJ=>(by cases hJ),λl' XB=>by cases XB;exact⟨rec,h5⟩⟩;have rel1:Rel κ1 nt ⟨AX st.tmps qs.toList x,R pre,st.nxt,st.nxt,[]⟩ {tmps:=(qs.zip vals).foldl (λt (p,v)=>t.setIfInBounds p v) a.tmps,defers:=[]} A L':=
    ⟨⟨⟨κ.W,κ.base,κ.M,κ.w0,⟨rfl,rfl,rfl,rfl,rfl⟩,Q2.1,Q2.2,h2⟩,jc.ct (cq.refl _ _),⟨[],rfl,ZbT,(λ_ h=>by cases h),λ_=>rfl⟩,λ_=>hleA,⟨st.nxt,hRf pre⟩⟩,hRf pre,hRf pre,λh=>by cases h⟩
   refine roundIn_of_wpIn trivial ?_;refine wpIn_mono ((round pre x rest h1).run y hy 0 κ1 _ A L' good1 rel1) ?_;rintro e a' w' ⟨s1,L1,⟨rfl,hbody⟩,Pe⟩;have EX:=Pe.r.ee;have qx:w'.heap[l]? =some (.loop rec):=EX.keeps.Xu l rec h5;have hlw':=(Zaj.1 qx).1;refine⟨_,run_beginRound qx r1, ?_⟩
   let busy:Loop:={rec with state:=.busy}
   let κ2:Ctx:=⟨κ.W,R pre,L',A.putObj l (.loop busy),κ.base,κ.M,κ.w0,none,some l⟩
   have hsA:(A.putObj l (.loop busy)).heap.size=A.heap.size:=by simp[World.putObj]
   have z8:(w'.putObj l (.loop busy)).heap.size=w'.heap.size:=by simp[World.putObj]
   have gA:(A.putObj l (.loop busy)).heap[l]? =some (.loop busy):=World.putObj_heap_same hlA;have gw':(w'.putObj l (.loop busy)).heap[l]? =some (.loop busy):=World.putObj_heap_same hlw';have oA:∀b,b≠l->(A.putObj l (.loop busy)).heap[b]? =A.heap[b]? :=λb hb=>World.putObj_heap_other hb;have ow:∀b,b≠l->(w'.putObj l (.loop busy)).heap[b]? =w'.heap[b]? :=λb hb=>World.putObj_heap_other hb;have XY:¬Obj.plain (.loop rec):=λe=>e;have good2:κ2.Good P:=⟨λJ hJ=>(by cases hJ),λl' XB=>by cases XB;exact⟨busy,gA⟩⟩;have hlb:κ.base<=l:=ZaE hle hlw;have adv2:jc κ.W (R pre) L' (A.putObj l (.loop busy)) s1.objs L1 (w'.putObj l (.loop busy)):=by
    refine⟨⟨⟨by rw[hsA,z8];exact EX.keeps.size,λb c e fr hb hn=>?_⟩,λb hb=>?_,λb rr hb=>?_⟩,λb hb hw=>?_,EX.fix,EX.arr,EX.yl⟩
    ·have bH:b≠l:=by rintro rfl;rw[gA]at hb;cases hb
     rw[oA b bH]at hb;rw[ow b bH];exact EX.keeps.hY b c e fr hb hn
    ·have bH:b≠l:=by rintro rfl;rw[gA]at hb;cases hb
     rw[oA b bH]at hb;rw[ow b bH];exact EX.keeps.OA b hb
    ·by_cases bH:b=l
     ·subst bH;rw[gA]at hb;rw[gw'];exact hb
     ·rw[oA b bH]at hb;rw[ow b bH];exact EX.keeps.Xu b rr hb
    ·rw[hsA]at hb;exact EX.sub b hb hw
   have rel3:Rel κ2 nt s1 a' (w'.putObj l (.loop busy)) L1:=by
    obtain⟨W2,base2,M2,w02,Yg,Yh⟩:=Pe.r.ex;have hat2':=Yg;obtain⟨e0,e1,e2,e3,e4⟩:=Yg
    replace Yh:R0 κ.base κ.W κ.M κ.w0 nt s1.tmps s1.objs a' w' L1:=by rw[e1,e2,e3,e4]at Yh;exact Yh
    have CI:KeepsC (WW κ.W s1.objs L1) w' (w'.putObj l (.loop busy)):=⟨by rw[z8];exact Zae _,λb c e fr hb _=>mf qx XY b _ trivial hb⟩;obtain⟨Ds,d1,d2,d3,d4⟩:=Pe.r.defers;refine⟨⟨⟨κ.W,κ.base,κ.M,κ.w0,⟨e0,rfl,rfl,rfl,rfl⟩,Yh.size,λt=>(mR CI (SizeOf.sizeOf (s1.tmps t)+1)).1 (s1.tmps t) _ (ZbW _) (Yh.tmps t),vh Yh.o qx XY hlb⟩,adv2,⟨Ds,d1,d2,λD hD=>?_,d4⟩,λ_=>by rw[hsA];exact hleA,Pe.r.fin⟩,Pe.fresh,Pe.low,λh=>by cases h⟩;have:=d3 D hD;refine⟨?_,by rw[hsA];exact this.2⟩;rw[ow D (by rintro rfl;rw[qx]at this;cases this.1)];exact this.1
   refine wpIn_mono (hbody.run z hz 0 κ2 a' _ L1 good2 rel3) ?_;rintro e a3 w3 ⟨s3,L3,⟨rfl,hLe⟩,rel4⟩;obtain⟨L4,rel5⟩:=hLe κ2 nt a3 w3 L3 rel4;have EY:=rel5.r.ee;have hl3:w3.heap[l]? =some (.loop busy):=EY.keeps.Xu l busy gA;have hlw3:=(Zaj.1 hl3).1;have Hg:=run_endRound (P:=P) none hl3;simp only[Option.isNone_none,if_true]at Hg;have hbr:({busy with state:=.ready,pending:=none}:Loop)=rec:=by rw[<-hrec]
   rw[hbr]at Hg;refine⟨_,_,Hg,rfl, ?_⟩;have hs3:(w3.putObj l (.loop rec)).heap.size=w3.heap.size:=by simp[World.putObj]
   have g3:(w3.putObj l (.loop rec)).heap[l]? =some (.loop rec):=World.putObj_heap_same hlw3;have o3:∀b,b≠l->(w3.putObj l (.loop rec)).heap[b]? =w3.heap[b]? :=λb hb=>World.putObj_heap_other hb;have hnb:¬Obj.plain (.loop busy):=λe=>e;have RH:jc κ.W (R pre) L' A (R (pre++[x])) L4 (w3.putObj l (.loop rec)):=by
    refine⟨⟨⟨by rw[hs3];have:=EY.keeps.size;rw[hsA]at this;exact this,λb c e fr hb hn=>?_⟩,λb hb=>?_,λb rr hb=>?_⟩,λb hb hw=>?_,EY.fix,EY.arr,EY.yl⟩
    ·have bH:b≠l:=by rintro rfl;rw[h5]at hb;cases hb
     rw[o3 b bH];exact EY.keeps.hY b c e fr (by rw[oA b bH];exact hb) hn
    ·have bH:b≠l:=by rintro rfl;rw[h5]at hb;cases hb
     rw[o3 b bH];exact EY.keeps.OA b (by rw[oA b bH];exact hb)
    ·by_cases bH:b=l
     ·subst bH;rw[h5]at hb;rw[g3];exact hb
     ·rw[o3 b bH];exact EY.keeps.Xu b rr (by rw[oA b bH];exact hb)
    ·exact EY.sub b (by rw[hsA];exact hb) hw
   obtain⟨W5,base5,M5,w05,hat5,h05⟩:=rel5.r.ex;obtain⟨_,e1,e2,e3,e4⟩:=hat5
   replace h05:bN κ.base κ.W κ.M κ.w0 (R (pre++[x])) w3 L4:=by have:=h05.o;rw[e1,e2,e3,e4]at this;exact this
   have hO4:bN κ.base κ.W κ.M κ.w0 (R (pre++[x])) (w3.putObj l (.loop rec)) L4:=vh h05 hl3 hnb hlb;have hle4:κ.base<=(w3.putObj l (.loop rec)).heap.size:=ZaE hO4.fr.ik hO4.fr.size;have hww4:∀b,WW κ.W (R (pre++[x])) L4 b->b<(w3.putObj l (.loop rec)).heap.size:=by
    rintro b (hb|⟨r',o',q1,q2⟩)
    ·have:=hO4.under b hb;omega
    ·exact(hO4.ob r' o' q1).lt q2
   have hAw:A.heap.size<=(w3.putObj l (.loop rec)).heap.size:=RH.keeps.size;refine⟨λb=>Wk b\/WW κ.W (R (pre++[x])) L4 b,⟨pre++[x],L4,by rw[h1];simp,hO4,h3.comp RH (λ_ h=>.inl h) (λ_ h=>h),λb hb=>.inr hb,g3,λD hD=>RH.keeps.OA D (h6 D hD), ?_⟩,RH.keeps.mono h4, ?_,λb hb=>.inl hb⟩
   ·rintro b (hb|hb)
    ·exact ZaR (h7 b hb) hAw
    ·exact hww4 b hb
   ·rintro b (hb|hb)
    ·exact⟨ZaR (h7 b hb) hAw,.inl hb⟩
    ·refine⟨hww4 b hb, ?_⟩;by_cases hlt':b<A.heap.size
     ·exact .inl (h4 b (RH.sub b hlt' hb))
     ·exact .inr (by omega)
 obtain⟨pE,hA1⟩:=bN.grow h0.o Dk;have hJ1:J (WW κ.W st.objs L) EW W1:=⟨[],L,rfl,by rw[hR0];exact pE,by rw[hR0];exact hA1,by rw[hR0];exact λb hb=>hb,wJ,λD hD=>(hDs D hD).1,λb hb=>ZaR (wY b hb) Dk.size⟩;refine⟨l,Ds0.map mark,W1,{target:=.fn (.func f) vs,args:= #[.func (.yield l) #[] #[]]},W1,f, #[.func (.yield l) #[] #[]]++vs,W1,AK, ?_,λ_ _=>trivial, ?_,(λh=>by cases h), ?_⟩
 ·simp only[resolve,hgv,Deferred.ofValue];simp[Act.eval]
 ·simp[invoke,callFunc,hfnE,bH];intro lY;simp[lY]at Cx
 ·refine dT ((hit.run l J (WW κ.W st.objs L) W1 vs hYield hJ1 ?_ (λb hb=>ZaR (wY b hb) Dk.size) pE.gl).mono ?_)
  ·exact aR.aD (cq.GG Dk.toBelow (W:=WW κ.W st.objs L)).toKeepsC (λ_ _ h=>h) _ _ Dd
  ·rintro e B ⟨⟨v,rfl⟩,W',pre,L',h1,h2,h3,h4,h5,h6,h7⟩;have:pre=EW:=by simpa using h1.symm
   subst this;refine⟨none,_,by have:=run_endLoop (P:=P) h5 (by rw[r1];simp);rw[r2]at this;exact this, ?_⟩;have hlB:=(Zaj.1 h5).1
   let off:Loop:={rec with state:=.exhausted,pending:=none}
   have XY:¬Obj.plain (.loop rec):=λe=>e;have hlb:κ.base<=l:=ZaE hle hlw;have hsB:(B.putObj l (.loop off)).heap.size=B.heap.size:=by simp[World.putObj]
   have oB:∀b,b≠l->(B.putObj l (.loop off)).heap[b]? =B.heap[b]? :=λb hb=>World.putObj_heap_other hb;have CI:KeepsC (WW κ.W (R pre) L') B (B.putObj l (.loop off)):=⟨by rw[hsB];exact Zae _,λb c e fr hb _=>mf h5 XY b _ trivial hb⟩;have hgw:=r.r.ee.keeps.size;have advT:jc κ.W κ.go κ.gL κ.gw (R pre) L' (B.putObj l (.loop off)):=by
    have h:=r.r.ee.comp h3 (λ_ h=>.inl h) (λ_ h=>h);refine⟨⟨⟨by rw[hsB];exact h.keeps.size,λb c e fr hb hn=>mf h5 XY b _ trivial (h.keeps.hY b c e fr hb hn)⟩,λb hb=>?_,λb rr hb=>?_⟩,h.sub,h.fix,h.arr,h.yl⟩
    ·rw[oB b (by have:=(Zaj.1 hb).1;omega)];exact h.keeps.OA b hb
    ·rw[oB b (by have:=(Zaj.1 hb).1;omega)];exact h.keeps.Xu b rr hb
   obtain⟨Ds,d1,d2,d3,d4⟩:=r.r.defers;refine⟨_,L',done,⟨⟨κ.W,κ.base,κ.M,κ.w0,dy,h0.size,λt=>(mR CI (SizeOf.sizeOf (st.tmps t)+1)).1 (st.tmps t) _ (ZbW _) (av.ee h3 _ _ (h0.tmps t)),vh h2 h5 XY hlb⟩,advT,⟨Ds0++Ds,by rw[ZaQ,<-d1], ?_,λD hD=>?_,λh=>by rw[hJ]at h;cases h⟩,r.r.bg,⟨st.nxt,hRf pre⟩⟩,hRf pre,r.low,r.it⟩
   ·rw[ZbP];refine⟨zm,d2,λD hD D' hD' e=>?_⟩;subst e;have k1:=(hDs D hD).2;have k2:=(Zaj.1 (d3 D hD').1).1;omega
   ·rcases Zao.1 hD with hD|hD
    ·refine⟨?_,ZaE hgw (hDs D hD).2⟩;rw[oB D (hDl D hD)];exact h6 D hD
    ·refine⟨?_,(d3 D hD).2⟩;have k2:=(Zaj.1 (d3 D hD).1).1;rw[oB D (by omega)];exact h3.keeps.OA D (d3 D hD).1
def finI:Exit->lj->Prop
 |.normal,st|.ret,st=>st.todo=[]
 |_,_=>False
def Hh(caps:List T)(EW:List (List T)):lj:=⟨λk=>match k with|0=>.C1|k+1=>zo caps[k]?,λ_=>none,1000,0,EW⟩
theorem aO.okI{f:FuncId}{d:DC}(h:aO P f nt d []){caps:List T}{EW:List (List T)}(hlen:caps.length+1<=nt)(k:aa P nt d finI (Hh caps EW)):ItOk P f caps EW:=by
 have AK:=h.entry;obtain⟨fn,wF,rfl,h3,hr,_⟩:=h;obtain⟨c,hb,hc⟩:=Zab.1 h3;refine⟨AK,λl J W A vs hy hj eI hW hg=>?_⟩;have hl:=aR.length eI;simp only[ZaT]at hl;have vi:Rel ⟨W,λ_=>none,⟨λ_=>0,λ_=>Go.undef,l⟩,A,0,λ_=>False,A,some J,none⟩ fn.ntmps (Hh caps EW) {tmps:=(#[.func (.yield l) #[] #[]]++vs)++Array.replicate (fn.ntmps-(#[Value.func (.yield l) #[] #[]]++vs).size) Go.undef,defers:=[]} A ⟨λ_=>0,λ_=>Go.undef,l⟩:=by
  refine⟨⟨⟨W,A.heap.size,λ_=>False,A,⟨hj,rfl,rfl,λb hb=>.inl hb,λb hb=>hb⟩,by simp;omega,λk=>?_,⟨Fr.refl (Zae _),(λr o h=>by cases h),(λr r' o o' b _ h=>by cases h),(λr o b h=>by cases h),hW,hg.start⟩⟩,
   jc.ct (cq.refl _ _),⟨[],rfl,ZbT,(λ_ h=>by cases h),λ_=>rfl⟩,(λh=>by cases h),⟨0,λ_ _=>rfl⟩⟩,λ_ _=>rfl,λ_ _=>rfl,λ_=>rfl⟩
  simp only[Hh];cases k with
  |zero=>simp only[av];exact oP (by simp)
  |succ k=>
   simp only;cases hk:caps[k]? with
   |some x=>
    obtain⟨v,hv,_,jn⟩:=aR.get eI hk;have p9:(#[Value.func (.yield l) #[] #[]]++vs).toList[k+1]? =some v:=by simpa using hv
    simp only[oP p9,zo,av];refine aS.aD (cq.refl W A).toKeepsC ?_ x v jn;rintro b hb (h|⟨r,o,h,_⟩)
    ·exact h
    ·cases h
   |none=>
    have zx:(#[Value.func (.yield l) #[] #[]]++vs).size<=k+1:=by
     have:=ZbF.1 hk;simp;omega
    simp only[zo,av,oQ zx]
 refine callsIn_wide.1 (callsIn_of_wp_marks (n:=0) wF hb trivial ?_);refine wpIn_mono (k.run c hc 0 _ _ _ _ ⟨λJ' hJ=>by cases hJ;exact hy,λl hl=>(by cases hl)⟩ vi) ?_;rintro e a' w' ⟨dh,L',q,r'⟩;have done:dh.todo=[]->LeavesInM Fence.wide 0 P fn a'.tmps (λe B=>(∃v,e=.returned v)/\∃W',J W' [] B) a'.defers .returning w':=by
  intro hq;obtain⟨Ds,h1,h2,h3,h4⟩:=r'.r.defers;have hD0:=h4 rfl;subst hD0;rw[h1];obtain⟨W',Nc,M',w0',dy,h0⟩:=r'.r.ex;obtain⟨X4,rfl,rfl,_,_⟩:=dy;rw[show(⟨dh.tmps,dh.objs,dh.todo⟩:RS).todo=[]from hq]at X4;obtain⟨v,k1,_⟩:=rN (st:=dh) h0 (lend:=true) (W':=λ_=>False) (λ_ _ _ _ _ _ h=>h) (λ_ h=>h.elim) hr ⟨(trivial:rL true dh []),rfl⟩;have fr:=h0.o.fr;exact⟨v,k1,⟨v,rfl⟩,W',hy.stays W' [] w0' w' X4 ⟨⟨fr.os,fr.tape,fr.output,fr.size,λk hk=>fr.block k hk (λx=>x)⟩,fr.drawn⟩⟩
 cases e with
 |normal=>exact done q
 |ret=>exact done q
 |_=>exact q.elim
end
def gp(objs aB:aU)(σ:Nat->Nat)(tm:Nat->DV):List (Nat×DV)->Prop
 |[]=>True
 |(k,d)::l=>jl objs aB σ (tm k) d/\gp objs aB σ tm l
def ub(objs aB:aU)(σ:Nat->Nat):List (Nat×Ob)->Prop
 |[]=>True
 |(r,o)::l=>(∃o0,objs (σ r)=some o0/\l7 objs aB σ o0 o)/\ub objs aB σ l
def kR(n:Nat):List (Nat×Ob)->Prop
 |[]=>True
 |(r,_)::l=>r<n/\kR n l
def rO(n:Nat):List (Nat×Ob)->Prop
 |[]=>True
 |(r,_)::l=>n<=r/\rO n l
def EZ(σ:Nat->Nat)(r:Nat):List (Nat×Ob)->Prop
 |[]=>True
 |(r',_)::l=>(σ r=σ r'->r=r')/\EZ σ r l
def zG(σ:Nat->Nat):List (Nat×Ob)->Prop
 |[]=>True
 |(r,_)::l=>EZ σ r l/\zG σ l
theorem mi:∀{l:List (Nat×Ob)} {r:Nat} {o:Ob},cE l r=some o->(r,o)∈l
 |[],_,_,h=>by cases h
 |(j,x)::l,r,o,h=>by
  simp only[cE]at h;split at h
  ·rename_i e;cases h;subst e;exact Za4 ..
  ·exact ZaV _ (mi h)
theorem Nl{l:List (Nat×Ob)}{r:Nat}(h:cE l r≠none):∃o,(r,o)∈l:=by
 cases ho:cE l r with
 |none=>exact absurd ho h
 |some o=>exact⟨o,mi ho⟩
theorem ln{n:Nat}:∀{l:List (Nat×Ob)},kR n l->∀r o,(r,o)∈l->r<n
 |[],_,_,_,h=>by cases h
 |(j,x)::l,hk,r,o,h=>by
  rcases Zag.1 h with e|h
  ·cases e;exact hk.1
  ·exact ln hk.2 r o h
theorem vt{n:Nat}:∀{l:List (Nat×Ob)},rO n l->∀r o,(r,o)∈l->n<=r
 |[],_,_,_,h=>by cases h
 |(j,x)::l,hk,r,o,h=>by
  rcases Zag.1 h with e|h
  ·cases e;exact hk.1
  ·exact vt hk.2 r o h
theorem pF{objs aB:aU}{σ:Nat->Nat}:∀{l:List (Nat×Ob)},ub objs aB σ l->∀r o,(r,o)∈l->∃o0,objs (σ r)=some o0/\l7 objs aB σ o0 o
 |[],_,_,_,h=>by cases h
 |(j,x)::l,hk,r,o,h=>by
  rcases Zag.1 h with e|h
  ·cases e;exact hk.1
  ·exact pF hk.2 r o h
theorem ud{σ:Nat->Nat}{r:Nat}:∀{l:List (Nat×Ob)},EZ σ r l->∀r' o,(r',o)∈l->σ r=σ r'->r=r'
 |[],_,_,_,h=>by cases h
 |(j,x)::l,hk,r',o,h=>by
  rcases Zag.1 h with e|h
  ·cases e;exact hk.1
  ·exact ud hk.2 r' o h
theorem yI{σ:Nat->Nat}:∀{l:List (Nat×Ob)},zG σ l->∀r1 r2 o1 o2,(r1,o1)∈l->(r2,o2)∈l->σ r1=σ r2->r1=r2
 |[],_,_,_,_,_,h,_=>by cases h
 |(j,x)::l,hk,r1,r2,o1,o2,h1,h2=>by
  rcases Zag.1 h1 with e1|h1
  ·cases e1;rcases Zag.1 h2 with e2|h2
   ·cases e2;exact λ_=>rfl
   ·exact ud hk.1 r2 o2 h2
  ·rcases Zag.1 h2 with e2|h2
   ·cases e2;exact λe=>(ud hk.1 r1 o1 h1 e.symm).symm
   ·exact yI hk.2 r1 r2 o1 o2 h1 h2
@[simp] theorem Yp(σ:Nat->Nat)(r:Nat):gone (cE []) σ r:=λr' h=>by simp[cE]at h
theorem RI{σ:Nat->Nat}{r j:Nat}{o:Ob}{l:List (Nat×Ob)}(h1:σ j≠r)(h2:gone (cE l) σ r):gone (cE ((j,o)::l)) σ r:=by
 intro r' ff;by_cases hj:r'=j
 ·subst hj;exact h1
 ·exact h2 r' (by rw[du,if_neg hj]at ff;exact ff)
theorem rP{objs aB:aU}{σ:Nat->Nat}{tm:Nat->DV}:∀(l:List (Nat×DV)),gp objs aB σ tm l->∀k,jl objs aB σ (tm k) (look l k)
 |[],_,k=>by
  show jl objs aB σ (tm k) .undef;cases tm k<;>simp[jl]
 |(j,d)::l,h,k=>by
  simp only[look];split
  ·rename_i e;subst e;exact h.1
  ·exact rP l h.2 k
theorem Le.corL{tm:Nat->DV}{o0 o:List (Nat×Ob)}{l:List (Nat×DV)}{nxt nxt':Nat}{td:List (List T)}{low:Nat}(σ:Nat->Nat)(wI:rO low o0)(hk:kR nxt' o)(ha:zG σ o)
  (fH:ub (cE o0) (cE o) σ o) (jd:gp (cE o0) (cE o) σ tm l):Le ⟨tm,cE o0,nxt,low,td⟩ ⟨look l,cE o,nxt',low,td⟩:=by
 refine Le.cor σ rfl rfl (λr hr=>?_) (λr' o' h=>pF fH r' o' (mi h)) (λr1 r2 h1 h2 e=>?_) (λr hr o' h=>?_) (λk=>rP l jd k)
 ·cases ho:cE o r with
  |none=>exact ho
  |some x=>have:=ln hk r x (mi ho);simp only at hr;omega
 ·obtain⟨x1,k1⟩:=Nl h1;obtain⟨x2,k2⟩:=Nl h2;exact yI ha r1 r2 x1 x2 k1 k2 e
 ·have:=vt wI r o' (mi h);simp only at hr;omega
theorem Le.aD{tm:Nat->DV}{o0 o:List (Nat×Ob)}{l:List (Nat×DV)}{nxt nxt':Nat}{td:List (List T)}{low:Nat}(wI:rO low o0)(hk:kR nxt' o)
  (fH:ub (cE o0) (cE o) id o) (jd:gp (cE o0) (cE o) id tm l):Le ⟨tm,cE o0,nxt,low,td⟩ ⟨look l,cE o,nxt',low,td⟩:=by
 refine Le.corL id wI hk ?_ fH jd;clear hk fH jd;induction o with
 |nil=>trivial
 |cons p o ih=>
  refine⟨?_,ih⟩;clear ih;induction o with
  |nil=>trivial
  |cons q o ih=>exact⟨λh=>h,ih⟩
attribute [simp] gp ub kR rO EZ zG jl jD RB RD Nj Nk EV l7
def fT(tm:Nat->DV):List (Nat×DV)->Prop
 |[]=>True
 |(k,d)::l=>tm k=d/\fT tm l
theorem AY{tm:Nat->DV}:∀{l:List (Nat×DV)},fT tm l->∀k,look l k=.undef\/look l k=tm k
 |[],_,_=>.inl rfl
 |(j,d)::l,h,k=>by
  simp only[look];split
  ·rename_i e;subst e;exact .inr h.1.symm
  ·exact AY h.2 k
section
variable{P:Program}{nt:Nat}{Γ:Env}{Q:Exit->lj->Prop}{tm:Nat->DV}{ob:aU}{nxt low:Nat}{td:List (List T)}
theorem aa.ZY(aw:ay P Γ)(hm:P.follows .mixedOrders=true){draw:Bool}{rs:List RO}(l:List (Nat×DV))(ob':aU)
  (h:exec Γ nxt rs ⟨tm,ob,td⟩ λs=>fT s.tmps l/\s.objs=ob'/\s.todo=td) (k:Q .normal ⟨look l,ob',nxt+nt+1,low,td⟩):aa P nt (.region draw rs) Q ⟨tm,ob,nxt,low,td⟩:=by
 obtain⟨h1,h2,h3,h4⟩:=eL _ _ _ h;refine aa.ve (Q:=λe s=>e=.normal/\s=⟨(cP Γ nxt rs ⟨tm,ob,td⟩).tmps,(cP Γ nxt rs ⟨tm,ob,td⟩).objs,nxt+nt+1,low,(cP Γ nxt rs ⟨tm,ob,td⟩).todo⟩) (aa.region aw hm (st:=⟨tm,ob,nxt,low,td⟩) h1 ⟨rfl,rfl⟩) ?_;rintro e s ⟨rfl,rfl⟩;refine⟨_,Le.vk (AY h2), ?_⟩;simp only[h3,h4];exact k
theorem aa.RJ(aw:ay P Γ)(hm:P.follows .mixedOrders=true){draw:Bool}{rs:List RO}{b:DC}(l:List (Nat×DV))(ob':aU)
  (h:exec Γ nxt rs ⟨tm,ob,td⟩ λs=>fT s.tmps l/\s.objs=ob'/\s.todo=td) (k:aa P nt b Q ⟨look l,ob',nxt+nt+1,low,td⟩):aa P nt (.seq (.region draw rs) b) Q ⟨tm,ob,nxt,low,td⟩:=
 aa.seq (aa.ZY aw hm l ob' h k)
theorem aa.b7(aw:ay P Γ)(hm:P.follows .mixedOrders=true){draw:Bool}{rs:List RO}{b:DC}(l:List (Nat×DV))
  (h:exec Γ nxt rs ⟨tm,ob,td⟩ λs=>fT s.tmps l/\s.objs=ob/\s.todo=td) (k:aa P nt b Q ⟨look l,ob,nxt+nt+1,low,td⟩):aa P nt (.seq (.region draw rs) b) Q ⟨tm,ob,nxt,low,td⟩:=
 aa.RJ aw hm l ob h k
theorem aa.to{d:DC}{st:lj}(st2:lj)(h:aa P nt d (λe s=>e=.normal/\Le s st2) st)(k:Q .normal st2):aa P nt d Q st:=
 aa.ve h λe s ⟨h1,h2⟩=>by subst h1;exact⟨st2,h2,k⟩
end
attribute [simp] fT
end Go.DM
namespace Go.DM
open Go.RowKit
variable [Laid]
section
variable{P:Program}{nt:Nat}{Γ:Env}{Q:Exit->lj->Prop}{tm:Nat->DV}{ob:aU}{nxt low:Nat}{td:List (List T)}
theorem aa.E0(aw:ay P Γ)(hm:P.follows .mixedOrders=true){draw:Bool}{rs:List RO}(l:List (Nat×DV))
  (h:exec Γ nxt rs ⟨tm,ob,td⟩ λs=>fT s.tmps l/\s.objs=ob/\s.todo=td) (k:Q .normal ⟨look l,ob,nxt+nt+1,low,td⟩):aa P nt (.region draw rs) Q ⟨tm,ob,nxt,low,td⟩:=
 aa.ZY aw hm l ob h k
end
theorem Dp:∀(ts:List T) (i k:Nat),look (((ts.map .v).zipIdx i).map λp=>(p.2,p.1)) k=.undef\/look (((ts.map .v).zipIdx i).map λp=>(p.2,p.1)) k=zo (if i<=k then ts[k-i]? else none)
 |[],i,k=>.inl rfl
 |t::ts,i,k=>by
  simp only[Zau,Zb7,my];split
  ·rename_i h;subst h;exact .inr (by simp[zo])
  ·rename_i h;rcases Dp ts (i+1) k with e|e
   ·exact .inl e
   ·right;rw[e];by_cases hk:i+1<=k
    ·rw[if_pos hk,if_pos (by omega),show k-i=(k-(i+1))+1 by omega,ZaW]
    ·have:¬i<=k:=by omega
     rw[if_neg hk,if_neg this]
theorem Pf{P:Program}{nt:Nat}{d:DC}{Q:Exit->lj->Prop}{caps:List T}{EW:List (List T)}
  (h:aa P nt d Q ⟨look ((0,.C1)::((caps.map .v).zipIdx 1).map λp=>(p.2,p.1)),cE [],1000,0,EW⟩):aa P nt d Q (Hh caps EW):=by
 refine aa.le (Le.trans (Le.vk (st:=Hh caps EW) (tm:=look ((0,.C1)::((caps.map .v).zipIdx 1).map λp=>(p.2,p.1))) λk=>?_) (λκ nt a w L r=>⟨L,r⟩)) h;simp only[my];split
 ·rename_i e;subst e;exact .inr rfl
 ·rename_i e;rcases Dp caps 1 k with h|h
  ·exact .inl h
  ·rw[h];have:1<=k:=by omega
   rw[if_pos this];obtain⟨j,rfl⟩:∃j,k=j+1:=⟨k-1,by omega⟩;exact .inr rfl
def c7(f:aU)(r:Nat)(o:Ob):aU:=λk=>if k=r then some o else f k
theorem KB(f:aU)(r:Nat)(o:Ob)(k:Nat):c7 f r o k=if k=r then some o else f k:=rfl
@[simp] theorem putO_setO(f:aU)(r:Nat)(o o':Ob):bV (c7 f r o) (some (r,o'))=c7 f r o':=by
 funext k;simp only[Dj,c7];split<;>rfl
@[simp] theorem setO_setO(f:aU)(r:Nat)(o o':Ob):c7 (c7 f r o) r o'=c7 f r o':=by
 funext k;simp only[c7];split<;>rfl
theorem sG{f:aU}{r:Nat}{o o':Ob}(h:f r=some o){k:Nat}(hk:f k=none):c7 f r o' k=none:=by
 simp only[c7];split
 ·rename_i e;rw[e,h]at hk;cases hk
 ·exact hk
theorem Le.same{tm:Nat->DV}{ob:aU}{nxt nxt' low:Nat}{td:List (List T)}{l:List (Nat×DV)}(h:∀r,nxt'<=r->ob r=none)(hl:fT tm l):Le ⟨tm,ob,nxt,low,td⟩ ⟨look l,ob,nxt',low,td⟩:=
 Le.trans (Le.vk (AY hl)) λκ nt a w L r=>⟨L,⟨r.r,h,r.low,r.it⟩⟩
theorem AZ:∀(ds:List DV) (i k:Nat),look ((ds.zipIdx i).map λp=>(p.2,p.1)) k=.undef\/look ((ds.zipIdx i).map λp=>(p.2,p.1)) k=Kr (if i<=k then ds[k-i]? else none)
 |[],i,k=>.inl rfl
 |t::ts,i,k=>by
  simp only[Zau,Zb7,my];split
  ·rename_i h;subst h;exact .inr (by simp[Kr])
  ·rename_i h;rcases AZ ts (i+1) k with e|e
   ·exact .inl e
   ·right;rw[e];by_cases hk:i+1<=k
    ·rw[if_pos hk,if_pos (by omega),show k-i=(k-(i+1))+1 by omega,ZaW]
    ·have:¬i<=k:=by omega
     rw[if_neg hk,if_neg this]
theorem Dq{P:Program}{nt:Nat}{d:DC}{Q:Exit->lj->Prop}{args:List DV}{objs:aU}{N:Nat}(h:aa P nt d Q ⟨look (args.zipIdx.map λp=>(p.2,p.1)),objs,N,N,[]⟩):aa P nt d Q (yC args objs N):=by
 refine aa.le (Le.vk (st:=yC args objs N) (tm:=look (args.zipIdx.map λp=>(p.2,p.1))) λk=>?_) h;have:=AZ args 0 k;simpa [yC]using this
@[simp] theorem RK(ob:aU):∀x:List T,gR ob (x.map .v)=x
 |[]=>rfl
 |t::x=>by simp[RK ob x]
@[simp] theorem setO_get(f:aU)(r:Nat)(o:Ob):c7 f r o r=some o:=by simp[c7]
theorem aZ.of{P:Program}{f:FuncId}{args:List DV}{objs:aU}{r r':iD}(h:aZ P f args objs r)(h1:r'.objs=r.objs)(h2:r'.val=r.val):aZ P f args objs r':=by
 obtain⟨ok,val,ob⟩:=r;obtain⟨ok',val',ob'⟩:=r';simp only at h1 h2;subst h1 h2;exact⟨h.entry,h.run⟩
end Go.DM
namespace Go.DM
open Go.RowKit
variable [Laid]
def Loc.at(L:Loc)(q:Nat)(x:Value):Loc:=⟨L.hY,λk=>if k=q then x else L.sl k,L.yl⟩
section
variable{base:Nat}{W M:Nat->Prop}{w0 w:World}{objs:aU}{L:Loc}
theorem dN{f:aU}{q:Nat}{o o':Ob}{r:Nat}(h:c7 f q o r=some o'):(r=q/\o'=o)\/(r≠q/\f r=some o'):=by
 simp only[c7]at h;split at h
 ·rename_i e;exact .inl ⟨e,(ZbK h).symm⟩
 ·rename_i e;exact .inr ⟨e,h⟩
theorem lp{f:aU}{q:Nat}{o o':Ob}{r:Nat}(h:r≠q)(k:f r=some o'):c7 f q o r=some o':=by
 simp only[c7,if_neg h,k]
theorem E3{q:Nat}{x:Value}{r:Nat}{o:Ob}(h:r≠q):(L.at q x).own r o=L.own r o:=by
 cases o<;>simp[Loc.own,Loc.at,h]
theorem zH{q:Nat}{a:Option Addr}{v e sz:Nat}{rows:List (List T)}:(L.at q (.slice a 0 0)).own q (.arr v e sz rows)=none:=by
 cases a<;>simp[Loc.own,Loc.at,aP]
theorem RL{q:Nat}{a:Option Addr}{e sz:Nat}{b:Nat}(h:WW W (c7 objs q (.arr 0 e sz [])) (L.at q (.slice a 0 0)) b):WW W objs L b:=by
 rcases h with h|⟨r,o,hr,hb⟩
 ·exact .inl h
 ·rcases dN hr with⟨rfl,rfl⟩|⟨bH,hr⟩
  ·rw[zH]at hb;cases hb
  ·rw[E3 bH]at hb;exact .inr ⟨r,o,hr,hb⟩
theorem E4{q:Nat}{a:Option Addr}{e sz:Nat}(hq:objs q=none):jc W objs L w (c7 objs q (.arr 0 e sz [])) (L.at q (.slice a 0 0)) w:=by
 refine⟨cq.refl _ _,λb _ h=>RL h,λr o hr hk=>?_,λr ver e' gb rows hr=>?_,rfl⟩
 ·have bH:r≠q:=λh=>by rw[h,hq]at hr;cases hr
  exact⟨rfl,o,lp bH hr,rfl⟩
 ·have bH:r≠q:=λh=>by rw[h,hq]at hr;cases hr
  exact⟨ver,e',gb,rows,lp bH hr,Zae _,λ_=>⟨by simp[Loc.at,bH],rfl,rfl⟩⟩
theorem Hj(hO:bN base W M w0 objs w L){q:Nat}{a:Option Addr}{e sz:Nat}(gF:0<sz)(hq:objs q=none):bN base W M w0 (c7 objs q (.arr 0 e sz [])) w (L.at q (.slice a 0 0)):=by
 have hA:=E4 (W:=W) (w:=w) (L:=L) (a:=a) (e:=e) (sz:=sz) hq;refine⟨hO.fr,λr o hr=>?_,λr r' o o' b bH h1 h2 hb=>?_,λr o b hr hb=>?_,hO.under,hO.gl.aD hA.keeps.toKeepsC hA.sub⟩
 ·rcases dN hr with⟨rfl,rfl⟩|⟨bH,hr⟩
  ·refine⟨gF,λx hx=>(by cases hx),λg hg=>?_,.inl ⟨rfl,a,by simp[Loc.at]⟩⟩;exfalso;simp only[Loc.at,if_true]at hg;cases a<;>simp[aP]at hg
  ·have hk:=hO.ob r o hr;cases o with
   |box cs=>
    obtain⟨c,f,bK,eI,hm⟩:=hk;exact⟨c,f,bK,aL.ee hA cs _ eI,hm⟩
   |map shs agg c es=>
    obtain⟨arr,bK,eI,q1,q2,q3,hm⟩:=hk;exact⟨arr,bK,bk.ee hA es _ eI,q1,q2,q3,hm⟩
   |iter m s sn l=>
    obtain⟨bK,JM,hm⟩:=hk;exact⟨bK,(hA.mp m JM).2,hm⟩
   |arr ver e' gb rows=>
    obtain⟨g1,g2,g3,g4⟩:=hk;have hs:(L.at q (.slice a 0 0)).sl r=L.sl r:=by simp[Loc.at,bH]
    refine⟨g1,g2,by rw[hs];exact g3, ?_⟩;rw[hs];rcases g4 with g4|⟨g,cap,cur,hv,hp,hh,k1,k2,k3,k4⟩
    ·exact .inl g4
    ·exact .inr ⟨g,cap,cur,hv,hp,hh,k1,k2,k3,aR.aD (cq.refl (WW W objs L) w).toKeepsC (λb _ hb=>RL hb) _ _ k4⟩
 ·rcases dN h1 with⟨rfl,rfl⟩|⟨n1,h1⟩
  ·rw[zH]at hb;cases hb
  ·rw[E3 n1]at hb;rcases dN h2 with⟨rfl,rfl⟩|⟨n2,h2⟩
   ·rw[zH];exact λh=>by cases h
   ·rw[E3 n2];exact hO.apart r r' o o' b bH h1 h2 hb
 ·rcases dN hr with⟨rfl,rfl⟩|⟨n1,hr⟩
  ·rw[zH]at hb;cases hb
  ·rw[E3 n1]at hb;exact hO.outer r o b hr hb
end
theorem Le.ml{tm:Nat->DV}{ob:aU}{nxt low:Nat}{td:List (List T)}{k:Nat}(e:Nat){sz:Nat}(gF:0<sz)(hk:tm k=.aJ):
  Le ⟨tm,ob,nxt,low,td⟩ ⟨cd tm (some k) (.bd nxt 0),c7 ob nxt (.arr 0 e sz []),nxt+1,low,td⟩:=by
 intro κ nt a w L h;have hq:ob nxt=none:=h.fresh nxt (Zae _);obtain⟨W,base,M,w0,dy,h0⟩:=h.r.ex;have hx:=h0.tmps k;simp only[hk,av]at hx;obtain⟨ad,hx⟩:=hx;have hA:=E4 (W:=W) (w:=w) (L:=L) (a:=ad) (e:=e) (sz:=sz) hq;have oO:=dy.sub;have wC:∀r,nxt+1<=r->c7 ob nxt (.arr 0 e sz []) r=none:=λr hr=>by
  simp only[c7];rw[if_neg (by omega)];exact h.fresh r (by simp only;omega)
 refine⟨L.at nxt (.slice ad 0 0),⟨⟨W,base,M,w0,dy,h0.size,λt=>?_,Hj h0.o gF hq⟩,jc.comp h.r.ee hA oO.1 oO.2,h.r.defers,h.r.bg,⟨_,wC⟩⟩,wC,h.low,h.it⟩;simp only[cd];by_cases ht:t=k
 ·subst ht;simp only[if_true,av];refine⟨⟨ad,0,0,hx⟩,0,e,sz,[],by simp,Zae _,λ_=>?_⟩;rw[hx];simp[Loc.at]
 ·simp only[ht,if_false];exact av.ee hA _ _ (h0.tmps t)
theorem xi{w:World}{W:Nat->Prop}{objs:aU}{L:Loc}:∀(cs:List DV) (xs:List Value) (k:Nat) (d:DV),aL w W objs L cs xs->(∀x,xs[k]? =some x->av w W objs L d x)->aL w W objs L (cs.set k d) xs
 |[],xs,k,d,h,_=>by simpa using h
 |c::cs,xs,0,d,h,hd=>by
  simp only[aL]at h;obtain⟨x,jN,rfl,h1,h2,h3⟩:=h;simp only[Zce,aL];exact⟨x,jN,rfl,h1,hd x (by simp),h3⟩
 |c::cs,xs,k+1,d,h,hd=>by
  simp only[aL]at h;obtain⟨x,jN,rfl,h1,h2,h3⟩:=h;simp only[Zcz,aL];exact⟨x,jN,rfl,h1,h2,xi cs jN k d h3 λy hy=>hd y (by simpa using hy)⟩
theorem xj{w:World}{W:Nat->Prop}{objs:aU}{L:Loc}:∀(cs:List DV) (xs:List Value) (k:Nat) (d:DV) (x:Value),aL w W objs L cs xs->cs[k]? =some d->xs[k]? =some x->av w W objs L d x
 |[],xs,k,d,x,h,hk,_=>by simp at hk
 |c::cs,xs,0,d,x,h,hk,hx=>by
  simp only[aL]at h;obtain⟨y,jN,rfl,h1,h2,h3⟩:=h;simp only[ZaG,Zaa]at hk hx;subst hk hx;exact h2
 |c::cs,xs,k+1,d,x,h,hk,hx=>by
  simp only[aL]at h;obtain⟨y,jN,rfl,h1,h2,h3⟩:=h;simp only[ZaW]at hk hx;exact xj cs jN k d x h3 hk hx
theorem ue{w:World}{W:Nat->Prop}{objs:aU}{L:Loc}:∀(cs:List DV) (xs:List Value) (k:Nat) (d:DV),aL w W objs L cs xs->cs[k]? =some d->∃x,xs[k]? =some x
 |[],xs,k,d,h,hk=>by simp at hk
 |c::cs,xs,0,d,h,hk=>by
  simp only[aL]at h;obtain⟨y,jN,rfl,h1,h2,h3⟩:=h;exact⟨y,by simp⟩
 |c::cs,xs,k+1,d,h,hk=>by
  simp only[aL]at h;obtain⟨y,jN,rfl,h1,h2,h3⟩:=h;simp only[ZaW]at hk;obtain⟨x,hx⟩:=ue cs jN k d h3 hk;exact⟨x,by simpa using hx⟩
theorem Le.Nn{tm:Nat->DV}{ob:aU}{nxt low:Nat}{td:List (List T)}(r:Nat)(k:Nat){cs:List DV}(e:Nat){sz:Nat}(gF:0<sz)(hr:ob r=some (.box cs))(hk:cs[k]? =some .aJ):
  Le ⟨tm,ob,nxt,low,td⟩ ⟨tm,c7 (c7 ob nxt (.arr 0 e sz [])) r (.box (cs.set k (.bd nxt 0))),nxt+1,low,td⟩:=by
 intro κ nt a w L h;have hq:ob nxt=none:=h.fresh nxt (Zae _);have hrq:r≠nxt:=λe=>by rw[e,hq]at hr;cases hr
 have hrlt:r<nxt:=ZbX λhle=>by have:=h.fresh r hle;simp only at this;rw[this]at hr;cases hr
 obtain⟨W,base,M,w0,dy,h0⟩:=h.r.ex;have hO:=h0.o;obtain⟨c,f,bK,eI,hm⟩:=hO.ob r _ hr;obtain⟨x,hx⟩:=ue _ _ _ _ eI hk;have CB:=xj _ _ _ _ _ eI hk hx;simp only[av]at CB;obtain⟨ad,hxa⟩:=CB;have hA:=E4 (W:=W) (w:=w) (L:=L) (a:=ad) (e:=e) (sz:=sz) hq;have pE:=Hj (a:=ad) (e:=e) hO gF hq;obtain⟨o1,Hk⟩:∃o1,c7 ob nxt (.arr 0 e sz [])=o1:=⟨_,rfl⟩;obtain⟨L1,Pg⟩:∃L1,L.at nxt (.slice ad 0 0)=L1:=⟨_,rfl⟩;have lX:o1 r=some (.box cs):=by rw[<-Hk];exact lp hrq hr
 rw[Hk,Pg]at hA pE;have wY:∀{V:Nat->Prop} b,WW V (c7 o1 r (.box (cs.set k (.bd nxt 0)))) L1 b->WW V o1 L1 b:=by
  intro V b hb;rcases hb with hb|⟨r',o,ff,hb⟩
  ·exact .inl hb
  ·rcases dN ff with⟨rfl,rfl⟩|⟨_,ff⟩
   ·exact .inr ⟨r',_,lX,hb⟩
   ·exact .inr ⟨r',o,ff,hb⟩
 have tu:jc W o1 L1 w (c7 o1 r (.box (cs.set k (.bd nxt 0)))) L1 w:=by
  refine⟨cq.refl _ _,λb _ h=>wY b h,λr' o' ff te=>?_,λr' ver e' gb rows ff=>?_,rfl⟩
  ·by_cases he:r'=r
   ·subst he;rw[lX]at ff;cases ff;exact⟨rfl,.box (cs.set k (.bd nxt 0)),by simp[c7],rfl⟩
   ·exact⟨rfl,o',lp he ff,rfl⟩
  ·have he:r'≠r:=λhe=>by rw[he,lX]at ff;cases ff
   exact⟨ver,e',gb,rows,lp he ff,Zae _,λ_=>⟨rfl,rfl,rfl⟩⟩
 have Nd:bN base W M w0 (c7 o1 r (.box (cs.set k (.bd nxt 0)))) w L1:=by
  refine⟨pE.fr,λr' o ff=>?_,λp p' o o' b bH h1 h2 hb=>?_,λp o b hp hb=>?_,pE.under,pE.gl.aD tu.keeps.toKeepsC tu.sub⟩
  ·rcases dN ff with⟨rfl,rfl⟩|⟨bH,ff⟩
   ·refine⟨c,f,by rw[<-Pg];exact bK,xi _ _ _ _ (aL.ee tu _ _ (aL.ee hA _ _ eI)) λy hy=>?_,by rw[<-Pg];exact hm⟩;rw[hx]at hy;cases hy;simp only[av];refine⟨⟨ad,0,0,hxa⟩,0,e,sz,[],lp (Ne.symm hrq) (by rw[<-Hk];simp),Zae _,λ_=>?_⟩;rw[hxa,<-Pg];simp[Loc.at]
   ·have te:=pE.ob r' o ff;cases o with
    |box qU=>
     obtain⟨c',f',A1,A2,EA⟩:=te;exact⟨c',f',A1,aL.ee tu qU _ A2,EA⟩
    |map shs agg c es=>
     obtain⟨arr,A1,A2,q1,q2,q3,EA⟩:=te;exact⟨arr,A1,bk.ee tu es _ A2,q1,q2,q3,EA⟩
    |iter m s sn l=>
     obtain⟨A1,JM,EA⟩:=te;exact⟨A1,(tu.mp m JM).2,EA⟩
    |arr ver e' gb rows=>
     obtain⟨g1,g2,g3,g4⟩:=te;refine⟨g1,g2,g3, ?_⟩;rcases g4 with g4|⟨g,cap,cur,hv,hp,hh,k1,k2,k3,k4⟩
     ·exact .inl g4
     ·exact .inr ⟨g,cap,cur,hv,hp,hh,k1,k2,k3,aR.aD (cq.refl (WW W o1 L1) w).toKeepsC (λb _ hb=>wY b hb) _ _ k4⟩
  ·have key:∀{p o},c7 o1 r (.box (cs.set k (.bd nxt 0))) p=some o->∃o2,o1 p=some o2/\L1.own p o=L1.own p o2:=by
    intro p o hp;rcases dN hp with⟨rfl,rfl⟩|⟨_,hp⟩
    ·exact⟨_,lX,rfl⟩
    ·exact⟨o,hp,rfl⟩
   obtain⟨x1,y1,z1⟩:=key h1;obtain⟨x2,y2,z2⟩:=key h2;rw[z1]at hb;rw[z2];exact pE.apart p p' x1 x2 b bH y1 y2 hb
  ·rcases dN hp with⟨rfl,rfl⟩|⟨_,hp⟩
   ·exact pE.outer p _ b lX hb
   ·exact pE.outer p o b hp hb
 have oO:=dy.sub;have wC:∀r',nxt+1<=r'->c7 o1 r (.box (cs.set k (.bd nxt 0))) r'=none:=λr' ff=>by
  rw[<-Hk];simp only[c7];rw[if_neg (by omega),if_neg (by omega)];exact h.fresh r' (by simp only;omega)
 rw[Hk];exact⟨L1,⟨⟨W,base,M,w0,dy,h0.size,λt=>av.ee tu _ _ (av.ee hA _ _ (h0.tmps t)),Nd⟩,jc.comp (jc.comp h.r.ee hA oO.1 oO.2) tu oO.1 oO.2,h.r.defers,h.r.bg,⟨_,wC⟩⟩,wC,h.low,h.it⟩
@[simp] theorem vx:look []=λ_=>DV.undef:=by funext k;rfl
def A3:Option Ob->Option Ob->Prop
 |some a,some b=>gW a b
 |_,_=>False
def zI(low:Nat)(o0 o:aU):List (Nat×Ob)->Prop
 |[]=>True
 |(r,_)::l=>(r<low->A3 (o0 r) (o r))/\zI low o0 o l
theorem yM{low:Nat}{o0 o:aU}:∀{l:List (Nat×Ob)},zI low o0 o l->∀r x,(r,x)∈l->r<low->A3 (o0 r) (o r)
 |[],_,_,_,h=>by cases h
 |(r,x)::l,h,r',x',hm=>by
  rcases Zag.1 hm with e|hm
  ·cases e;exact h.1
  ·exact yM h.2 r' x' hm
theorem Le.zJ{tm:Nat->DV}{o0 o:List (Nat×Ob)}{l:List (Nat×DV)}{nxt nxt':Nat}{td:List (List T)}{low:Nat}(wI:zI low (cE o0) (cE o) o0)(hk:kR nxt' o)
  (fH:ub (cE o0) (cE o) id o) (jd:gp (cE o0) (cE o) id tm l):Le ⟨tm,cE o0,nxt,low,td⟩ ⟨look l,cE o,nxt',low,td⟩:=by
 refine Le.cor id rfl rfl (λr hr=>?_) (λr' o' h=>pF fH r' o' (mi h)) (λr1 r2 h1 h2 e=>e) (λr hr o' h=>?_) (λk=>rP l jd k)
 ·cases ho:cE o r with
  |none=>exact ho
  |some x=>have:=ln hk r x (mi ho);simp only at hr;omega
 ·have:=yM wI r o' (mi h) hr;simp only at h⊢;rw[h]at this;refine⟨rfl, ?_⟩;cases ho:cE o r with
  |none=>rw[ho]at this;exact this.elim
  |some x=>rw[ho]at this;exact⟨x,rfl,this⟩
attribute [simp] zI A3 gW
@[simp] theorem gone_cons{σ:Nat->Nat}{r j:Nat}{o:Ob}{l:List (Nat×Ob)}:gone (cE ((j,o)::l)) σ r↔σ j≠r/\gone (cE l) σ r:=by
 refine⟨λh=>⟨h j (by simp),λr' ff=>h r' (by simp only[du];split<;>simp[ff])⟩,λh=>RI h.1 h.2⟩
@[simp] theorem gone_nil{σ:Nat->Nat}{r:Nat}:gone (cE []) σ r:=λr' h=>absurd rfl h
end Go.DM
namespace Go.DM
open Go.RowKit
variable [Laid]
def over:List (Nat×Ob)->aU->aU
 |[],f=>f
 |(r,o)::l,f=>λk=>if k=r then some o else over l f k
@[simp] theorem bP(r:Nat)(o:Ob)(l:List (Nat×Ob))(f:aU)(k:Nat):over ((r,o)::l) f k=if k=r then some o else over l f k:=rfl
@[simp] theorem eN(f:aU)(k:Nat):over [] f k=f k:=rfl
@[simp] theorem Pj(l:List (Nat×Ob))(f:aU)(r:Nat)(o:Ob):bV (over l f) (some (r,o))=over ((r,o)::l) f:=rfl
theorem kS(l:List (Nat×Ob))(f:aU)(r:Nat)(o:Ob):c7 (over l f) r o=over ((r,o)::l) f:=rfl
def bG:Ob->List Nat
 |.box cs=>bM cs
 |.arr _ _ _ _=>[]
 |.map _ _ _ es=>es.flatMap λe=>names e.2.2
 |.iter m _ _ _=>[m]
def dO(f:aU)(n:Nat):Prop:=∀r o,f r=some o->r<n/\∀m∈bG o,f m≠none
section
variable{base:Nat}{W M:Nat->Prop}{w0 w:World}{objs aB:aU}{L:Loc}
theorem Dx(hO:bN base W M w0 objs w L){N:Nat}(hN:∀r,N<=r->objs r=none):dO objs N:=by
 intro r o hr;refine⟨ZbX (λh=>by rw[hN r h]at hr;cases hr),λm hm=>?_⟩;have fH:=hO.ob r o hr;cases o with
 |box cs=>obtain⟨c,e,_,h,_⟩:=fH;exact eu.names cs (eu.bq cs _ h) m hm
 |arr _ _ _ _=>cases hm
 |iter m' _ _ _=>
  obtain⟨_,⟨_,_,_,_,h⟩,_⟩:=fH;simp only[bG,Zah]at hm;subst hm;simp[h]
 |map shs agg c es=>
  obtain⟨arr,_,h,_⟩:=fH;simp only[bG,ZaU]at hm;obtain⟨e,he,hm⟩:=hm;obtain⟨i,hi⟩:=ZbI he;obtain⟨x,_,_,_,hv⟩:=bk.get h hi;exact dJ.names _ (dJ.bq _ _ hv) m hm
def sameAt(objs aB:aU)(m:Nat):Prop:=∃o o',objs m=some o/\aB m=some o'/\gW o o'
theorem Hn(wY:∀b,WW W aB L b->WW W objs L b):
  ∀n,(∀(d:DV) (x:Value),SizeOf.sizeOf d<n->(∀m∈names d,sameAt objs aB m)->av w W objs L d x->av w W aB L d x)/\
   (∀(ds:List DV) (xs:List Value),SizeOf.sizeOf ds<n->(∀m∈bM ds,sameAt objs aB m)->aL w W objs L ds xs->aL w W aB L ds xs)/\
   (∀(ds:List DV) (xs:List Value),SizeOf.sizeOf ds<n->(∀m∈bM ds,sameAt objs aB m)->eZ w W objs L ds xs->eZ w W aB L ds xs):=by
 have CI:=(cq.refl (WW W objs L) w).toKeepsC;have oO:∀b,b<w.heap.size->WW W aB L b->WW W objs L b:=λb _ h=>wY b h;intro n;induction n with
 |zero=>exact⟨λ_ _ h=>by omega,λ_ _ h=>by omega,λ_ _ h=>by omega⟩
 |succ n ih=>
  refine⟨λd x hn hm hr=>?_,λds xs hn hm hr=>?_,λds xs hn hm hr=>?_⟩
  ·cases d with
   |undef=>simp[av]
   |skip=>simpa only[av]using hr
   |C1=>simpa only[av]using hr
   |aJ=>simpa only[av]using hr
   |v t=>simp only[av]at hr⊢;exact aS.aD CI oO t x hr
   |kL rows i off=>
    simp only[av]at hr⊢;obtain⟨b,o,sz,hx,hb,O1,tS,h1,h2⟩:=hr;exact⟨b,o,sz,hx,hb,λk=>O1 (wY b k),aY.aD CI oO hb O1 sz o rows tS,h1,h2⟩
   |gE cs off=>
    simp only[av]at hr⊢;obtain⟨b,o,hx,hb,O1,tS⟩:=hr;exact⟨b,o,hx,hb,λk=>O1 (wY b k),cY.aD CI oO hb O1 o cs tS⟩
   |ptr r off=>
    obtain⟨o,o',h1,h2,h3⟩:=hm r (by simp[names]);simp only[av]at hr⊢;obtain⟨⟨cs,hc⟩,hx⟩:=hr;rw[h1]at hc;cases hc;cases o' with
    |box qU=>exact⟨⟨qU,h2⟩,hx⟩
    |_=>exact h3.elim
   |iC r=>
    obtain⟨o,o',h1,h2,h3⟩:=hm r (by simp[names]);simp only[av]at hr⊢;obtain⟨⟨_,_,_,_,hc⟩,hx⟩:=hr;rw[h1]at hc;cases hc;cases o' with
    |map a b c d=>exact⟨⟨a,b,c,d,h2⟩,hx⟩
    |_=>exact h3.elim
   |iter r=>
    obtain⟨o,o',h1,h2,h3⟩:=hm r (by simp[names]);simp only[av]at hr⊢;obtain⟨⟨_,_,_,_,hc⟩,hx⟩:=hr;rw[h1]at hc;cases hc;cases o' with
    |iter a b c d=>exact⟨⟨a,b,c,d,h2⟩,hx⟩
    |_=>exact h3.elim
   |bd r ver=>
    obtain⟨o,o',h1,h2,h3⟩:=hm r (by simp[names]);simp only[av]at hr⊢;obtain⟨GH,ver',e,sz,rows,hc,hle,hx⟩:=hr;rw[h1]at hc;cases hc;cases o' with
    |arr v2 e2 s2 r2=>obtain⟨rfl,rfl,h5⟩:=h3;exact⟨GH,_,_,_,_,h2,hle,hx⟩
    |_=>exact h3.elim
   |jh r ver i off=>
    obtain⟨o,o',h1,h2,h3⟩:=hm r (by simp[names]);simp only[av]at hr⊢;obtain⟨GH,ver',e,sz,rows,hc,hle,hx⟩:=hr;rw[h1]at hc;cases hc;cases o' with
    |arr v2 e2 s2 r2=>
     obtain⟨rfl,rfl,h5⟩:=h3;exact⟨GH,_,_,_,_,h2,hle,λhv=>by obtain⟨g,k1,k2,k3,k4⟩:=hx hv;exact⟨g,k1,k2,k3,by rw[<-h5];exact k4⟩⟩
    |_=>exact h3.elim
   |Es r m=>
    obtain⟨o,o',h1,h2,h3⟩:=hm r (by simp[names]);simp only[av]at hr⊢;obtain⟨⟨cs,hc⟩,hx⟩:=hr;rw[h1]at hc;cases hc;cases o' with
    |box qU=>exact⟨⟨qU,h2⟩,hx⟩
    |_=>exact h3.elim
   |s8 r ver lo m=>
    obtain⟨o,o',h1,h2,h3⟩:=hm r (by simp[names]);simp only[av]at hr⊢;obtain⟨GH,ver',e,sz,rows,hc,hle,hx⟩:=hr;rw[h1]at hc;cases hc;cases o' with
    |arr v2 e2 s2 r2=>
     obtain⟨rfl,rfl,h5⟩:=h3;exact⟨GH,_,_,_,_,h2,hle,λhv=>by
      obtain⟨k0,p,cap,p2,k1,k2,k3⟩:=hx hv;exact⟨by rw[<-h5];exact k0,p,cap,p2,by rw[<-h5];exact k1,k2,k3⟩⟩
    |_=>exact h3.elim
   |agg ds=>
    simp only[av]at hr⊢;obtain⟨vs,hv,hr⟩:=hr;exact⟨vs,hv,ih.2.1 ds _ (by simp at hn⊢;omega) (λm h=>hm m (by simpa only[names]using h)) hr⟩
   |mF f ds=>
    simp only[av]at hr⊢;obtain⟨vs,hv,hr⟩:=hr;exact⟨vs,hv,ih.2.1 ds _ (by simp at hn⊢;omega) (λm h=>hm m (by simpa only[names]using h)) hr⟩
   |eC ds=>
    simp only[av]at hr⊢;obtain⟨vs,hv,hr⟩:=hr;exact⟨vs,hv,ih.2.2 ds _ (by simp at hn⊢;omega) (λm h=>hm m (by simpa only[names]using h)) hr⟩
  ·cases ds with
   |nil=>simpa only[aL]using hr
   |cons d ds=>
    simp only[aL]at hr⊢;obtain⟨y,ys,hv,h1,h2,h3⟩:=hr;exact⟨y,ys,hv,h1,ih.1 d y (by simp at hn⊢;omega) (λm h=>hm m (by simp[bM,h])) h2,ih.2.1 ds ys (by simp at hn⊢;omega) (λm h=>hm m (by simp[bM,h])) h3⟩
  ·cases ds with
   |nil=>simpa only[eZ]using hr
   |cons d ds=>
    simp only[eZ]at hr⊢;obtain⟨y,ys,hv,h2,h3⟩:=hr;exact⟨y,ys,hv,ih.1 d y (by simp at hn⊢;omega) (λm h=>hm m (by simp[bM,h])) h2,ih.2.2 ds ys (by simp at hn⊢;omega) (λm h=>hm m (by simp[bM,h])) h3⟩
theorem Yr(wY:∀b,WW W aB L b->WW W objs L b){r:Nat}{o:Ob}(hm:∀m∈bG o,sameAt objs aB m)(h:nu w W objs L base M r o):nu w W aB L base M r o:=by
 cases o with
 |box cs=>obtain⟨c,e,hc,hr,MU⟩:=h;exact⟨c,e,hc,(Hn wY (SizeOf.sizeOf cs+1)).2.1 cs _ (by omega) hm hr,MU⟩
 |arr ver e sz rows=>
  obtain⟨g1,g2,g3,g4⟩:=h;refine⟨g1,g2,g3, ?_⟩;rcases g4 with g4|⟨g,cap,cur,hv,hp,hh,k1,k2,k3,k4⟩
  ·exact .inl g4
  ·exact .inr ⟨g,cap,cur,hv,hp,hh,k1,k2,k3,aR.aD (cq.refl (WW W objs L) w).toKeepsC (λb _ hb=>wY b hb) _ _ k4⟩
 |map shs agg c es=>
  obtain⟨arr,hc,hr,k1,k2,k3,MU⟩:=h;refine⟨arr,hc, ?_,k1,k2,k3,MU⟩;have key:∀(es:List (Nat×T×DV)) (xs:List MapEntry),(∀m∈es.flatMap (λe=>names e.2.2),sameAt objs aB m)->bk w W objs L es xs->bk w W aB L es xs:=by
   intro es;induction es with
   |nil=>intro xs _ h;simpa only[bk]using h
   |cons e es ih=>
    intro xs hm h;simp only[bk]at h⊢;obtain⟨x,jN,hx,h1,h2,h3,h4⟩:=h;exact⟨x,jN,hx,h1,aS.aD (cq.refl (WW W objs L) w).toKeepsC (λb _ hb=>wY b hb) _ _ h2,
     (Hn wY (SizeOf.sizeOf e.2.2+1)).1 _ _ (by omega) (λm h=>hm m (by simp[h])) h3,ih jN (λm h=>hm m (by simp only[Zbo,Zao];exact .inr h)) h4⟩
  exact key es _ hm hr
 |iter m s sn l=>
  obtain⟨hc,⟨a1,a2,a3,a4,JM⟩,MU⟩:=h;obtain⟨o,o',h1,h2,h3⟩:=hm m (by simp[bG]);rw[JM]at h1;cases h1;cases o' with
  |map b1 b2 b3 b4=>exact⟨hc,⟨b1,b2,b3,b4,h2⟩,MU⟩
  |_=>exact h3.elim
end
def iv(objs aB:aU)(o o':Ob):Prop:=l7 objs aB id o o'\/(o=o'/\∀m∈bG o,sameAt objs aB m)
theorem vF{objs aB:aU}{L:Loc}{o o':Ob}(h:iv objs aB o o')(r:Nat):L.own r o'=L.own r o:=by
 rcases h with h|⟨rfl,_⟩
 ·exact sE (L:=L) h r
 ·rfl
theorem Le.cor2{st dh:lj}(CF:dh.low=st.low)(RE:dh.todo=st.todo)(AU:∀r,dh.nxt<=r->dh.objs r=none)
  (fH:∀r o',dh.objs r=some o'->∃o,st.objs r=some o/\iv st.objs dh.objs o o')
  (He:∀r,r<st.low->∀o,st.objs r=some o->∃o',dh.objs r=some o'/\gW o o')
  (jd:∀k,jl st.objs dh.objs id (st.tmps k) (dh.tmps k)):Le st dh:=by
 intro κ nt a w L h;have qA:∀r' o',dh.objs r'=some o'->∃o,st.objs (id r')=some o/\∀r,(L.Cz id).own r o'=L.own (id r) o:=λr' o' h=>let⟨o,h1,h2⟩:=fH r' o' h;⟨o,h1,vF (L:=L) h2⟩
 refine⟨L,⟨?_, ?_,h.r.defers,h.r.bg,⟨_,AU⟩⟩,AU,by rw[CF];exact h.low,by rw[CF];exact h.it⟩
 ·obtain⟨W,base,M,w0,dy,h0⟩:=h.r.ex;have hO:=h0.o;have wY:∀b,WW W dh.objs L b->WW W st.objs L b:=λb hb=>jZ (L:=L) (σ:=id) qA b hb;have cr:=λ(d d':DV) (x:Value)=>(zF hO qA (SizeOf.sizeOf d+1)).1 d d' x (by omega);have crs:=λ(ds nQ:List DV) (xs:List Value)=>(zF hO qA (SizeOf.sizeOf ds+1)).2.1 ds nQ xs (by omega);refine⟨W,base,M,w0,by rw[RE];exact dy,h0.size,λt=>cr _ _ _ (jd t) (h0.tmps t),⟨hO.fr,λr' o' gf=>?_,λr1 r2 o1 o2 b bH h1 h2 Dk kp=>?_,λr' o' b gf hb=>?_,hO.under,hO.gl.aD (cq.refl (WW W st.objs L) w).toKeepsC λb _ hb=>wY b hb⟩⟩
  ·obtain⟨o,ho,hc⟩:=fH r' o' gf;have hk:=hO.ob r' o ho;rcases hc with hc|⟨rfl,hc⟩
   ·cases o with
    |box cs=>
     cases o' with
     |box qU=>
      obtain⟨c,e,bK,hr,hm⟩:=hk;exact⟨c,e,bK,crs cs qU _ hc hr,hm⟩
     |_=>exact hc.elim
    |map shs agg c es=>
     cases o' with
     |map shs' agg' c' es'=>
      obtain⟨rfl,rfl,rfl,pa⟩:=hc;obtain⟨arr,bK,hr,k1,k2,k3,hm⟩:=hk;have key:∀(es es':List (Nat×T×DV)) (xs:List MapEntry),iV st.objs dh.objs id es es'->bk w W st.objs L es xs->bk w W dh.objs L es' xs/\es'.map (·.1)=es.map (·.1)/\es'.map (·.2.1)=es.map (·.2.1):=by
       intro es;induction es with
       |nil=>intro es' xs h1 h2;simp only[iV]at h1;subst h1;exact⟨by simpa only[bk]using h2,rfl,rfl⟩
       |cons e es ih=>
        intro es' xs h1 h2;cases es' with
        |nil=>simp[iV]at h1
        |cons e' es'=>
         simp only[iV]at h1;simp only[bk]at h2⊢;obtain⟨x,jN,rfl,q0,q1,q2,q3⟩:=h2;obtain⟨i1,i2,i3⟩:=ih es' jN h1.2.2.2 q3;refine⟨⟨x,jN,rfl,q0.trans h1.1, ?_,cr _ _ _ h1.2.2.1 q2,i1⟩,by simp[i2,h1.1],by simp[i3,h1.2.1]⟩;rw[<-h1.2.1];exact aS.aD (cq.refl (WW W st.objs L) w).toKeepsC (λb _ hb=>wY b hb) _ _ q1
      obtain⟨i1,i2,i3⟩:=key es es' _ pa hr;refine⟨arr,bK,i1,λe he=>?_,λe he=>?_,by rw[i2];exact k3,hm⟩
      ·have:e.2.1∈es.map (·.2.1):=by rw[<-i3];exact Zal.2 ⟨e,he,rfl⟩
       obtain⟨e0,h0',MX⟩:=Zal.1 this;rw[<-MX];exact k1 e0 h0'
      ·have:e.1∈es.map (·.1):=by rw[<-i2];exact Zal.2 ⟨e,he,rfl⟩
       obtain⟨e0,h0',MX⟩:=Zal.1 this;rw[<-MX];exact k2 e0 h0'
     |_=>exact hc.elim
    |iter m s sn l=>
     cases o' with
     |iter m' s' sn' l'=>
      obtain⟨rfl,rfl,rfl,rfl,JM⟩:=hc;obtain⟨bK,_,hm⟩:=hk;exact⟨bK,AR JM,hm⟩
     |_=>exact hc.elim
    |arr ver e sz rows=>
     cases o' with
     |box _=>exact hc.elim
     |map _ _ _ _=>exact hc.elim
     |iter _ _ _ _=>exact hc.elim
     |arr ver' e' gb dp=>
      obtain⟨rfl,rfl,rfl⟩:=hc;obtain⟨g1,g2,g3,g4⟩:=hk;refine⟨g1,g2,g3, ?_⟩;rcases g4 with g4|⟨g,cap,cur,hv,hp,hh,k1,k2,k3,k4⟩
      ·exact .inl g4
      ·exact .inr ⟨g,cap,cur,hv,hp,hh,k1,k2,k3,aR.aD (cq.refl (WW W st.objs L) w).toKeepsC (λb _ hb=>wY b hb) _ _ k4⟩
   ·exact Yr wY hc hk
  ·obtain⟨p1,q1,c1⟩:=fH r1 o1 h1;obtain⟨p2,q2,c2⟩:=fH r2 o2 h2;rw[vF c1]at Dk;rw[vF c2]at kp;exact hO.apart r1 r2 p1 p2 b bH q1 q2 Dk kp
  ·obtain⟨p1,q1,c1⟩:=fH r' o' gf;rw[vF c1]at hb;exact hO.outer r' p1 b q1 hb
 ·have ha:=h.r.ee;refine⟨ha.keeps,λb hb hw=>ha.sub b hb (jZ (L:=L) (σ:=id) qA b hw),λr o hr hk=>?_,λr ver e sz rows hr=>?_,ha.yl⟩
  ·have cV:r<st.low:=ZbX λhle=>by rw[h.low r hle]at hr;cases hr
   obtain⟨e1,o1,lX,qz⟩:=ha.fix r o hr hk;obtain⟨o',gf,hv⟩:=He r cV _ lX;exact⟨e1,o',gf,(vo hv).trans qz⟩
  ·have cV:r<st.low:=ZbX λhle=>by rw[h.low r hle]at hr;cases hr
   obtain⟨v1,e1,s1,r1,lX,l1,k1⟩:=ha.arr r ver e sz rows hr;obtain⟨o',gf,hv⟩:=He r cV _ lX;cases o' with
   |box qU=>exact hv.elim
   |map _ _ _ _=>exact hv.elim
   |iter _ _ _ _=>exact hv.elim
   |arr v2 e2 s2 r2=>
    obtain⟨rfl,rfl,h3⟩:=hv;exact⟨v1,e2,s1,r2,gf,l1,λhv=>by
     obtain⟨a1,a2,a3⟩:=k1 hv;exact⟨a1,a2,by rw[<-h3];exact a3⟩⟩
theorem bu(o:Ob):gW o o:=by cases o<;>simp[gW]
def gS(low:Nat)(a b:aU):List (Nat×Ob)->Prop
 |[]=>True
 |(r,o)::l=>(∃o0,a r=some o0/\iv a b o0 o/\(r<low->gW o0 o))/\gS low a b l
def ca(low:Nat)(l1:List (Nat×Ob)):List (Nat×Ob)->Prop
 |[]=>True
 |(r,_)::l=>(r<low->∃o,(r,o)∈l1)/\ca low l1 l
theorem oR:∀{l:List (Nat×Ob)} {f:aU} {r:Nat} {o:Ob},over l f r=some o->(r,o)∈l\/((∀o',(r,o')∉l)/\f r=some o)
 |[],_,_,_,h=>.inr ⟨λ_ h=>(by cases h),h⟩
 |(j,x)::l,f,r,o,h=>by
  simp only[bP]at h;split at h
  ·rename_i e;cases h;subst e;exact .inl (Za4 ..)
  ·rename_i bH;rcases oR h with h|⟨h1,h2⟩
   ·exact .inl (ZaV _ h)
   ·refine .inr ⟨λo' gf=>?_,h2⟩;rcases Zag.1 gf with e|gf
    ·cases e;exact bH rfl
    ·exact h1 o' gf
theorem ej{l:List (Nat×Ob)}{f:aU}{r:Nat}(h:∀o',(r,o')∉l):over l f r=f r:=by
 induction l with
 |nil=>rfl
 |cons p l ih=>
  obtain⟨j,x⟩:=p;rw[bP,if_neg (λe=>h x (by rw[e];exact Za4 ..))];exact ih λo' gf=>h o' (ZaV _ gf)
theorem zK{l:List (Nat×Ob)}{f:aU}{r:Nat}{o:Ob}(h:(r,o)∈l):∃o',over l f r=some o'/\(r,o')∈l:=by
 induction l with
 |nil=>cases h
 |cons p l ih=>
  obtain⟨j,x⟩:=p;by_cases e:r=j
  ·subst e;exact⟨x,by simp,Za4 ..⟩
  ·rcases Zag.1 h with h|h
   ·cases h;exact absurd rfl e
   ·obtain⟨o',h1,h2⟩:=ih h;exact⟨o',by rw[bP,if_neg e];exact h1,ZaV _ h2⟩
theorem ug{low:Nat}{a b:aU}:∀{l:List (Nat×Ob)},gS low a b l->∀r o,(r,o)∈l->∃o0,a r=some o0/\iv a b o0 o/\(r<low->gW o0 o)
 |[],_,_,_,h=>by cases h
 |(j,x)::l,hk,r,o,h=>by
  rcases Zag.1 h with e|h
  ·cases e;exact hk.1
  ·exact ug hk.2 r o h
theorem pL{low:Nat}{l1:List (Nat×Ob)}:∀{l:List (Nat×Ob)},ca low l1 l->∀r o,(r,o)∈l->r<low->∃o,(r,o)∈l1
 |[],_,_,_,h=>by cases h
 |(j,x)::l,hk,r,o,h=>by
  rcases Zag.1 h with e|h
  ·cases e;exact hk.1
  ·exact pL hk.2 r o h
theorem Le.fp{tm:Nat->DV}{l0 l1:List (Nat×Ob)}{f:aU}{l:List (Nat×DV)}{nxt nxt':Nat}{td:List (List T)}{low:Nat}(hf:dO f low)(hn:low<=nxt')(hb:kR nxt' l1)
  (h0:ca low l1 l0) (h1:gS low (over l0 f) (over l1 f) l1) (jd:gp (over l0 f) (over l1 f) id tm l):
  Le ⟨tm,over l0 f,nxt,low,td⟩ ⟨look l,over l1 f,nxt',low,td⟩:=by
 have Ho:∀r,r<low->∀o,over l0 f r=some o->∃o',over l1 f r=some o'/\gW o o':=by
  intro r hr o ho;by_cases qu:∃o',(r,o')∈l1
  ·obtain⟨o1,Hk⟩:=qu;obtain⟨o2,h2,h3⟩:=zK (f:=f) Hk;obtain⟨o0,k1,_,k3⟩:=ug h1 r o2 h3;rw[ho]at k1;cases k1;exact⟨o2,h2,k3 hr⟩
  ·have hnot:∀o',(r,o')∉l1:=λo' h=>qu ⟨o',h⟩;rcases oR ho with h|⟨_,h⟩
   ·exact absurd (pL h0 r o h hr) qu
   ·exact⟨o,by rw[ej hnot];exact h,bu o⟩
 refine Le.cor2 rfl rfl (λr hr=>?_) (λr o' gf=>?_) (λr hr o ho=>Ho r hr o ho) (λk=>rP l jd k)
 ·cases ho:over l1 f r with
  |none=>exact ho
  |some o=>
   rcases oR ho with h|⟨_,h⟩
   ·have:=ln hb r o h;simp only at hr;omega
   ·have:=(hf r o h).1;simp only at hr;omega
 ·rcases oR gf with h|⟨hnot,h⟩
  ·obtain⟨o0,k1,k2,_⟩:=ug h1 r o' h;exact⟨o0,k1,k2⟩
  ·obtain⟨cV,hnm⟩:=hf r o' h;have hold:over l0 f r=some o':=by
    by_cases qu:∃o1,(r,o1)∈l0
    ·obtain⟨o1,Hk⟩:=qu;obtain⟨o2,h2⟩:=pL h0 r o1 Hk cV;exact absurd h2 (hnot o2)
    ·rw[ej λo1 h1=>qu ⟨o1,h1⟩];exact h
   refine⟨o',hold,.inr ⟨rfl,λm hm=>?_⟩⟩;have XT:=hnm m hm;have hmlt:m<low:=by
    cases hfm:f m with
    |none=>exact absurd hfm XT
    |some x=>exact(hf m x hfm).1
   have hex:∃o,over l0 f m=some o:=by
    by_cases qu:∃o1,(m,o1)∈l0
    ·obtain⟨o1,Hk⟩:=qu;obtain⟨o2,h2,_⟩:=zK (f:=f) Hk;exact⟨o2,h2⟩
    ·rw[ej λo1 h1=>qu ⟨o1,h1⟩];exact ZbO.1 XT
   obtain⟨o,ho⟩:=hex;obtain⟨o2,h2,h3⟩:=Ho m hmlt o ho;exact⟨o,o2,ho,h2,h3⟩
section
variable{P:Program}
theorem aO.uM{f:FuncId}{nt:Nat}{d:DC}{rs:List bO}(h:aO P f nt d rs){args:List DV}{objs:aU}{r:iD}{N:Nat}(hN:∀r,N<=r->objs r=none)(hlen:args.length<=nt)
  (k:dO objs N->aa P nt d (Yi rs r) ⟨look (args.zipIdx.map λp=>(p.2,p.1)),over [] objs,N,N,[]⟩):aZ P f args objs r:=
 ⟨h.entry,λbase W M w0 w L vals hO OL=>(aO.okS h hN hlen (Dq (k (Dx hO hN)))).run base W M w0 w L vals hO OL⟩
theorem vG{fn:Func}{t:Nat}{tmps:Array Value}{w:World}(hr:fn.results.toList.mapM (tt P)=some [.slot t]):(results fn tmps).run P w=.ok (tmps.getD t Go.undef) w:=by
 have h1:∃rv,fn.results.toList=[rv]/\tt P rv=some (.slot t):=by
  cases h:fn.results.toList with
  |nil=>rw[h]at hr;simp at hr
  |cons rv l=>
   rw[h]at hr;simp only[Za1,Zak,Zaf,Zac,Zaa,Za5]at hr;obtain⟨x,hx,ys,oz,rfl,rfl⟩:=hr;cases l with
   |nil=>exact⟨rv,rfl,hx⟩
   |cons y l=>simp[Zac]at oz
 obtain⟨rv,h1,h2⟩:=h1;have h3:fn.results= #[rv]:=by rw[<-Array.toArray_toList (xs:=fn.results),h1]
 cases rv with
 |tmp t'=>
  simp only[tt,Zaa,bO.slot.injEq]at h2;subst h2;have tS:(results fn tmps)=(do
   let vs<-fn.results.mapM (λrv=>((match rv with|.tmp t=>pure (tmps.getD t Go.undef)|.cell b t=>do loadVar t (<-asAddr (tmps.getD b Go.undef))):Sem Value))
   pure (if h:vs.size=1 then vs[0]else .tuple vs)):=rfl
  have hm:(fn.results.mapM (λrv=>((match rv with|.tmp t=>pure (tmps.getD t Go.undef)|.cell b t=>do loadVar t (<-asAddr (tmps.getD b Go.undef))):Sem Value))).run P w=.ok #[tmps.getD t' Go.undef] w:=by
   rw[ZcG,h1];simp
  rw[tS];simp only[Sem.run_bind,hm,Result.andThen_ok,Sem.run_pure];rfl
 |cell b t'=>
  simp only[tt]at h2;split at h2<;>simp at h2
def finF(t e sz:Nat)(rows:List (List T)):Exit->lj->Prop
 |.normal,st|.ret,st=>(st.tmps t=.aJ/\rows=[]/\0<sz)\/∃r ver,st.tmps t=.bd r ver/\st.objs r=some (.arr ver e sz rows)
 |_,_=>False
theorem aO.okF{f:FuncId}{nt:Nat}{d:DC}{t:Nat}(h:aO P f nt d [.slot t]){ts:List T}{e sz:Nat}{rows:List (List T)}(hlen:ts.length<=nt)(k:aa P nt d (finF t e sz rows) (nU ts)):lQ P f ts e sz rows:=by
 have AK:=h.entry;obtain⟨fn,wF,rfl,h3,hr,_⟩:=h;obtain⟨c,hb,hc⟩:=Zab.1 h3;refine⟨AK,λW w vals hW hg eI=>?_⟩;have hl:=dx.length eI;simp only[ZaT]at hl;have vi:Rel ⟨W,λ_=>none,⟨λ_=>0,λ_=>Go.undef,0⟩,w,w.heap.size,λ_=>False,w,none,none⟩ fn.ntmps (nU ts) {tmps:=vals++Array.replicate (fn.ntmps-vals.size) Go.undef,defers:=[]} w ⟨λ_=>0,λ_=>Go.undef,0⟩:=by
  refine⟨⟨⟨W,w.heap.size,λ_=>False,w,⟨rfl,rfl,rfl,rfl,rfl⟩,by simp;omega,λk=>?_,⟨Fr.refl (Zae _),(λr o h=>by cases h),(λr r' o o' b _ h=>by cases h),(λr o b h=>by cases h),hW,hg.start⟩⟩,
   jc.ct (cq.refl _ _),⟨[],rfl,ZbT,(λ_ h=>by cases h),λ_=>rfl⟩,λ_=>Zae _,⟨0,λ_ _=>rfl⟩⟩,λ_ _=>rfl,λ_ _=>rfl,λh=>by cases h⟩
  simp only[nU];cases hk:ts[k]? with
  |some x=>
   obtain⟨v,hv,jn⟩:=dx.get eI hk;simp only[oP hv,zo,av];refine aS.aD (cq.refl W w).toKeepsC ?_ x v jn;rintro b hb (h|⟨r,o,h,_⟩)
   ·exact h
   ·cases h
  |none=>
   have zx:vals.size<=k:=by
    have:=ZbF.1 hk;omega
   simp only[zo,av,oQ zx]
 refine callsIn_wide.1 (callsIn_of_wp_marks (n:=0) wF hb trivial ?_);refine wpIn_mono (k.run c hc 0 _ _ _ _ ⟨λJ hJ=>(by cases hJ),λl hl=>(by cases hl)⟩ vi) ?_;rintro e' a' w' ⟨dh,L',q,r'⟩;have done:((dh.tmps t=.aJ/\rows=[]/\0<sz)\/∃r ver,dh.tmps t=.bd r ver/\dh.objs r=some (.arr ver e sz rows))->LeavesInM Fence.wide 0 P fn a'.tmps (λe' w'=>∃v,e'=.returned v/\tP w.heap.size w w'/\As w.heap.size w' W e sz rows v) a'.defers .returning w':=by
  intro hq;obtain⟨Ds,h1,h2,h3,_⟩:=r'.r.defers;rw[h1];refine leaves (κ:=⟨W,λ_=>none,⟨λ_=>0,λ_=>Go.undef,0⟩,w,w.heap.size,λ_=>False,w,none,none⟩) rfl ?_ Ds a' w' L' r'.r h1 h2 h3;intro a2 w2 L2 h4;obtain⟨W',Nc,M',w0',dy,h0⟩:=h4.ex;obtain⟨_,e1,e2,e3,e4⟩:=dy
  replace h0:R0 w.heap.size W (λ_=>False) w fn.ntmps dh.tmps dh.objs a2 w2 L2:=by rw[e1,e2,e3,e4]at h0;exact h0
  have fr:=h0.o.fr;refine⟨_,vG hr,_,rfl,⟨⟨fr.os,fr.tape,fr.output,fr.size,λk hk=>fr.block k hk (λx=>x)⟩,fr.drawn⟩, ?_⟩;have ht:=h0.tmps t;rcases hq with⟨hq,rfl,gF⟩|⟨r,ver,hq,ho⟩
  ·rw[hq]at ht;simp only[av]at ht;exact⟨gF,λ_ h=>(by cases h),.inl ⟨rfl,ht⟩⟩
  ·rw[hq]at ht;simp only[av]at ht;obtain⟨_,ver',e',gb,dp,gf,_,hx⟩:=ht;rw[ho]at gf;cases gf;have hx:=hx rfl;obtain⟨g1,g2,g3,g4⟩:=h0.o.ob r _ ho;refine⟨g1,g2, ?_⟩;rcases g4 with⟨h5,a,h6⟩|⟨g,cap,cur,hv,hp,hh,k1,k2,k3,k4⟩
   ·exact .inl ⟨h5,a,hx.trans h6⟩
   ·have tT:aP (L2.sl r)=some g:=by rw[hv];simp[aP,ZaA.1 hp]
    refine .inr ⟨g,cap,cur,hx.trans hv,hp,(g3 g tT).resolve_right (λx=>x),hh,k1,k2,k3,aR.aD (cq.refl (WW W dh.objs L2) w2).toKeepsC (λb _ hb=>?_) _ _ k4⟩;rcases hb with hb|rfl
    ·exact .inl hb
    ·exact .inr ⟨r,_,ho,tT⟩
 cases e' with
 |normal=>exact done q
 |ret=>exact done q
 |_=>exact q.elim
section
variable{κ:Ctx}{nt:Nat}{Γ:Env}{nxt:Nat}{ro:Option Nat}{n:Nat}
end
section
variable{nt:Nat}{Γ:Env}{Q:Exit->lj->Prop}{tm:Nat->DV}{ob:aU}{nxt low:Nat}{td:List (List T)}
end
end
end Go.DM
namespace Go.DM
variable [Laid]
def gK(f:Nat->Nat)(r:RO):RO:=⟨r.d,r.dst,r.guard,r.after,r.iQ.map (·.map f)⟩
def dd(f:Nat->Nat)(rs:List RO):List RO:=rs.map (gK f)
theorem RW{f:Nat->Nat}(hf:∀a b,f a=f b->a=b)(x y:Option (List Nat)):zn (x.map (·.map f)) (y.map (·.map f))=zn x y:=by
 cases x<;>cases y<;>simp only[Option.map_none,Za0,zn]
 rename_i a b;rw[ZcP];simp only[List.all_map,ZaI,Function.comp_apply,bne_iff_ne,ne_eq];exact⟨λh x hx y hy e=>h x hx y hy (by rw[e]),λh x hx y hy e=>h x hx y hy (hf _ _ e)⟩
theorem Pk{f:Nat->Nat}(hf:∀a b,f a=f b->a=b)(x y:RO):indep (gK f x) (gK f y)=indep x y:=by
 unfold indep;rw[show(gK f x).iQ=x.iQ.map (·.map f)from rfl,show(gK f y).iQ=y.iQ.map (·.map f)from rfl,RW hf];rfl
theorem Pm(f:Nat->Nat)(rs:List RO):lE (dd f rs)=lE rs:=by
 unfold lE dd;rw[Zb5];rfl
theorem A7(f:Nat->Nat):∀rs:List RO,dM (dd f rs)=dM rs
 |[]=>rfl
 |r::rs=>by
  simp only[dd,Zau,dM,List.all_map];have:=A7 f rs;simp only[dd]at this;rw[this];rfl
theorem gq{f:Nat->Nat}(hf:∀a b,f a=f b->a=b)(nt:Nat)(draw:Bool)(rs:List RO):db nt draw (dd f rs)=db nt draw rs:=by
 unfold db;rw[A7,Pm];have h1:(dd f rs).all (kq nt)=rs.all (kq nt):=by simp only[dd,List.all_map];rfl
 have h2:sy (dd f rs) (lE rs)=sy rs (lE rs):=by
  unfold sy;simp only[dd,Zbt,Zbp]
  congr 1
  funext i;cases rs[i]? with
  |none=>rfl
  |some y=>
   cases(lE rs)[i]? with
   |none=>rfl
   |some m=>
    simp only[Za0]
    congr 1
    congr 1
    funext x;cases rs[x]? with
    |none=>rfl
    |some r=>simp only[Za0,Pk hf]
 rw[h1,h2]
def Hp(b N:Nat)(n:Nat):Nat:=if n=0 then b else N+n
theorem Pn{b N:Nat}(h:b<N)(x y:Nat)(e:Hp b N x=Hp b N y):x=y:=by
 unfold Hp at e;split at e<;>split at e<;>omega
theorem iw(l:List (Nat×Ob))(r:Nat)(o:Ob):c7 (cE l) r o=cE ((r,o)::l):=rfl
end Go.DM
namespace Go.DM
open Go.RowKit
variable [Laid]
section
variable{P:Program}{nt:Nat}{Γ:Env}{Q:Exit->lj->Prop}{st:lj}{tm:Nat->DV}{ob:aU}{nxt low:Nat}{td:List (List T)}
theorem aa.regionF(aw:ay P Γ)(hm:P.follows .mixedOrders=true){d:DC}{rs:List RO}(hd:d=.region false (rs.map bare))(aG:db nt false rs=true)
  (bz:iS Γ st.nxt rs ⟨st.tmps,st.objs,st.todo⟩) (hQ:Q .normal ⟨(cP Γ st.nxt rs ⟨st.tmps,st.objs,st.todo⟩).tmps,(cP Γ st.nxt rs ⟨st.tmps,st.objs,st.todo⟩).objs,st.nxt+nt+1,st.low,(cP Γ st.nxt rs ⟨st.tmps,st.objs,st.todo⟩).todo⟩):
  aa P nt d Q st:=by
 refine⟨λc hc=>?_⟩;subst hd;obtain⟨id,ops,rfl,jM,hok'⟩:=pB hc;exact pC aw hm jM aG bz hQ
theorem aa.Po(aw:ay P Γ)(hm:P.follows .mixedOrders=true){d:DC}{rs:List RO}(hd:d=.region false (rs.map bare))(aG:db nt false rs=true)(ks:List Nat)
  (h:exec Γ nxt rs ⟨tm,ob,td⟩ λs=>Q .normal ⟨look (kG ks s.tmps),s.objs,nxt+nt+1,low,s.todo⟩):aa P nt d Q ⟨tm,ob,nxt,low,td⟩:=by
 have:=eL _ _ _ h;refine aa.ve (Q:=λe s=>e=.normal/\s=⟨(cP Γ nxt rs ⟨tm,ob,td⟩).tmps,(cP Γ nxt rs ⟨tm,ob,td⟩).objs,nxt+nt+1,low,(cP Γ nxt rs ⟨tm,ob,td⟩).todo⟩) (aa.regionF aw hm hd aG (st:=⟨tm,ob,nxt,low,td⟩) this.1 ⟨rfl,rfl⟩) ?_;rintro e s ⟨rfl,rfl⟩;exact⟨_,Le.vk (mU _ ks),this.2⟩
theorem aa.ew(aw:ay P Γ)(hm:P.follows .mixedOrders=true){d b:DC}{rs:List RO}(hd:d=.region false (rs.map bare))(aG:db nt false rs=true)(ks:List Nat)
  (h:exec Γ nxt rs ⟨tm,ob,td⟩ λs=>aa P nt b Q ⟨look (kG ks s.tmps),s.objs,nxt+nt+1,low,s.todo⟩):aa P nt (.seq d b) Q ⟨tm,ob,nxt,low,td⟩:=
 aa.seq (aa.Po aw hm hd aG ks h)
end
end Go.DM
namespace Go.DM
open Go.RowKit
variable [Laid]
section
variable{Γ:Env}{nxt:Nat}{K:RS->Prop}{rs:List RO}{tm:Nat->DV}{ob:aU}{td:List (List T)}{dst:Option Nat}{d:nO}{s:Nat}{af l:List Nat}
@[simp] theorem exec_h_t(b:Bool)(h:tm s=.v (.bool b)):exec Γ nxt (⟨d,dst,some (s,b),af,some l⟩::rs) ⟨tm,ob,td⟩ K=(ch ⟨d,dst,none,af,some l⟩ tm/\(o9 d=true->Di l ob (ma Γ d tm ob td).objs)/\kF Γ nxt d rs tm ob td K dst tm):=by
 simp only[exec,h,forall_const,iG h,AM];cases b<;>simp[vj,ch]
theorem Hq(b c:Bool)(h:tm s=.v (.bool b))(hc:b= !c):exec Γ nxt (⟨d,dst,some (s,c),af,some l⟩::rs) ⟨tm,ob,td⟩ K=exec Γ nxt rs ⟨cd tm dst .skip,ob,td⟩ K:=by
 subst hc;cases c
 ·have h:tm s=.v (.bool true):=h;simp[exec,h,iG h]
 ·have h:tm s=.v (.bool false):=h;simp[exec,h,iG h]
@[simp] theorem exec_h_tf(h:tm s=.v (.bool true)):exec Γ nxt (⟨d,dst,some (s,false),af,some l⟩::rs) ⟨tm,ob,td⟩ K=exec Γ nxt rs ⟨cd tm dst .skip,ob,td⟩ K:=Hq true false h rfl
@[simp] theorem exec_h_ft(h:tm s=.v (.bool false)):exec Γ nxt (⟨d,dst,some (s,true),af,some l⟩::rs) ⟨tm,ob,td⟩ K=exec Γ nxt rs ⟨cd tm dst .skip,ob,td⟩ K:=Hq false true h rfl
@[simp] theorem exec_h_sk{want:Bool}(h:tm s=.skip):exec Γ nxt (⟨d,dst,some (s,want),af,some l⟩::rs) ⟨tm,ob,td⟩ K=exec Γ nxt rs ⟨cd tm dst .skip,ob,td⟩ K:=by
 simp only[exec,h]
end
end Go.DM
