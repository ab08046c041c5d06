/- Part of the proof. Conditions: none. -/
import Derived.Test.YtnhpkhblghgpdaaGreatDoorXac
import Derived.RangeFuncLeaves
import Derived.RangeFuncRecord
import Derived.RangeFuncNested
set_option linter.unusedSectionVars false
set_option linter.unusedSimpArgs false
set_option linter.unusedVariables false
set_option linter.defProp false
namespace Go.DM
open Go.RowKit
section
variable{base nt:Nat}{W M W':fo}{w0:World}{st:l8}{fY:Bool}{f:FuncId}{d:DC}{cA:Array Value}
variable [bI] [dL]
inductive bV where
 |da (t:Nat)
 |cell (a n:Nat) (agg:Bool)
def nQ(P:Program):ResultVar->Option bV
 |.tmp t=>some (.da t)
 |.cell a t=>match P.underlying t,P.info? t with
  |some d,some i=>some (.cell a i.size (b8 d))
  |_,_=>none
def bV.oq(st:l8):bV->qO
 |.da t=>⟨True,st.tmps t,none⟩
 |.cell a n agg=>iF n agg st.ab (st.tmps a)
def lM(fY:Bool)(st:l8):List bV->Prop
 |[]=>True
 |r::rs=>((r.oq st).ok/\F3 fY st.ab (r.oq st).val)/\lM fY st rs
def o9(st:l8)(rs:List bV):aK:=rs.map λr=>tz st.ab (r.oq st).val
def Yi(rs:List bV)(t:T)(st:l8):Prop:=
 lM true st rs/\t=(match o9 st rs with|[x]=>x|ts=>.eo ts)
def su(rs:List bV)(r:fI)(st:l8):Prop:=
 lM false st rs/\st.ab=r.ab/\r.val=.v (match o9 st rs with|[x]=>x|ts=>.eo ts)
def Om:Option T->DV
 |some t=>.v t
 |none=>.skip
def qy(ts:aK):l8:=⟨λk=>Om ts[k]?,λ_=>none,1000,1000,[]⟩
def Cc:Option DV->DV
 |some d=>d
 |none=>.skip
def wd(args:bB)(ab:bq)(N:Nat):l8:=⟨λk=>Cc args[k]?,ab,N,N,[]⟩
def On(rs:List bV)(t:T):Exit->l8->Prop
 |.normal,st|.ret,st=>Yi rs t st
 |_,_=>False
def DK(rs:List bV)(r:fI):Exit->l8->Prop
 |.normal,st|.ret,st=>su rs r st
 |_,_=>False
section
variable{P:Program}
def res_run{w:World}{a:Act}{L:Loc}(h:R0 base W M w0 nt st.tmps st.ab a w L)(hW:fY=true->∀r o b,st.ab r=some o->L.own r o=some b->¬W' b)(Vn:∀b,W' b->WW W st.ab L b){rv:ResultVar}{r:bV}(hr:nQ P rv=some r)(hok:(r.oq st).ok/\F3 fY st.ab (r.oq st).val):
  ∃v,((match rv with|.tmp t=>pure (a.tmps.getD t Go.undef)|.cell b t=>do loadVar t (<-asAddr (a.tmps.getD b Go.undef))):Sem Value).run P w=.ok v w/\bj w W' (tz st.ab (r.oq st).val) v:=by
 have bZ:∀{d:DV} {x:Value},aA w W st.ab L d x->F3 fY st.ab d->bj w W' (tz st.ab d) x:=λhd hk=>
  (x6 (fY:=fY) W' h.o hW Vn).1 _ _ hd hk
 cases rv with
 |tmp t=>
  simp only[nQ,Zaa]at hr;subst hr;exact⟨_,rfl,bZ (h.tmps t) hok.2⟩
 |cell b t=>
  simp only[nQ]at hr;split at hr
  ·rename_i d i hd hi;simp only[Zaa]at hr;subst hr;simp only[bV.oq]at hok;obtain⟨hp,v,bW,hv⟩:=wF h.o hd hi (h.tmps b) hok.1;refine⟨v, ?_,bZ hv hok.2⟩;have hpt:∃p,a.tmps.getD b Go.undef=.pointer (some p):=by
    have hx:=h.tmps b;have ho:=hok.1;cases hq:st.tmps b with
    |ptr r off=>rw[hq]at hx;simp only[aA]at hx;exact⟨_,hx.2⟩
    |l7 av j off=>rw[hq]at hx;simp only[aA]at hx;obtain⟨_,_,_,hx,_⟩:=hx;exact⟨_,hx⟩
    |iD cs off=>rw[hq]at hx;simp only[aA]at hx;obtain⟨_,_,hx,_⟩:=hx;exact⟨_,hx⟩
    |ka r bD j off=>rw[hq]at hx;simp only[aA]at hx;obtain⟨⟨_,_,hx⟩,_⟩:=hx;exact⟨_,hx⟩
    |v t'=>
     rw[hq]at hx ho;cases t' with
     |box cs=>simp only[aA,bj]at hx;obtain⟨_,_,hx,_⟩:=hx;exact⟨_,hx⟩
     |_=>exact ho.elim
    |_=>rw[hq]at ho;exact ho.elim
   obtain⟨p,hp⟩:=hpt;show Sem.run P (do loadVar t (<-asAddr (a.tmps.getD b Go.undef))) w=_;rw[hp]at bW⊢;simpa [Instr.loadAt,Instr.sureAddr,asAddr]using bW
  ·cases hr
def QH{base:Nat}{W M:fo}{w0 w:World}{nt:Nat}{st:l8}{a:Act}{L:Loc}(h:R0 base W M w0 nt st.tmps st.ab a w L){fY:Bool}{W':fo}(hW:fY=true->∀r o b,st.ab r=some o->L.own r o=some b->¬W' b)(Vn:∀b,W' b->WW W st.ab L b):∀{rvs:List ResultVar} {rs:List bV},rvs.mapM (nQ P)=some rs->lM fY st rs->
  ∃vs,(rvs.mapM (λrv=>((match rv with|.tmp t=>pure (a.tmps.getD t Go.undef)|.cell b t=>do loadVar t (<-asAddr (a.tmps.getD b Go.undef))):Sem Value))).run P w=.ok vs w/\fN w W' (o9 st rs) vs
 |[],rs,hr,_=>by simp at hr;subst hr;exact⟨[],by simp,by simp[o9,fN]⟩
 |rv::rvs,rs,hr,hok=>by
  simp only[Za7,Zao,Zaj,Zad,Zaa]at hr;obtain⟨r,sg,rs',mt,rfl⟩:=hr;simp only[lM]at hok;obtain⟨v,h1,h2⟩:=res_run h hW Vn sg hok.1;obtain⟨vs,h3,h4⟩:=QH h hW Vn mt hok.2;refine⟨v::vs, ?_, ?_⟩
  ·rw[Za7];simp only[Sem.run_bind,h1,Result.andThen_ok,h3,Sem.run_pure]
  ·simp only[o9,ZaA,fN];exact⟨v,vs,rfl,h2,h4⟩
def uy{w:World}{a:Act}{L:Loc}(h:R0 base W M w0 nt st.tmps st.ab a w L)(hW:fY=true->∀r o b,st.ab r=some o->L.own r o=some b->¬W' b)(Vn:∀b,W' b->WW W st.ab L b){fn:Func}{rs:List bV}(hr:fn.results.toList.mapM (nQ P)=some rs){t:T}(hok:lM fY st rs/\t=(match o9 st rs with|[x]=>x|ts=>.eo ts)):
  ∃v,(results fn a.tmps).run P w=.ok v w/\bj w W' t v:=by
 obtain⟨h1,rfl⟩:=hok;obtain⟨vs,h2,h3⟩:=QH h hW Vn hr h1;have hm:(fn.results.mapM (λrv=>((match rv with|.tmp t=>pure (a.tmps.getD t Go.undef)|.cell b t=>do loadVar t (<-asAddr (a.tmps.getD b Go.undef))):Sem Value))).run P w=.ok vs.toArray w:=by
  rw[Zcx];simp only[Sem.run_map,h2,Result.andThen_ok]
 have hl:vs.length=(o9 st rs).length:=fN.length h3;refine⟨if h:vs.toArray.size=1 then vs.toArray[0]else .tuple vs.toArray, ?_, ?_⟩
 ·have B7:(results fn a.tmps)=(do
   let vs<-fn.results.mapM (λrv=>((match rv with|.tmp t=>pure (a.tmps.getD t Go.undef)|.cell b t=>do loadVar t (<-asAddr (a.tmps.getD b Go.undef))):Sem Value))
   pure (if h:vs.size=1 then vs[0]else .tuple vs)):=rfl
  rw[B7];simp only[Sem.run_bind,hm,Result.andThen_ok,Sem.run_pure]
 ·cases Kr:o9 st rs with
  |nil=>
   rw[Kr]at hl h3;have:vs=[]:=ZaD (by simpa using hl);subst this;simp only[bj];exact⟨#[],by simp,by simp[fN]⟩
  |cons x xs=>
   rw[Kr]at hl h3;cases xs with
   |nil=>
    simp only[fN]at h3;obtain⟨v,vs',rfl,hv,rfl⟩:=h3;simpa using hv
   |cons y ys=>
    have:vs.toArray.size≠1:=by simp at hl⊢;omega
    rw[ZcT this];simp only[bj];exact⟨_,rfl,by simpa using h3⟩
def VD{κ:oX}{st:RS}{a:Act}{w:World}{L:Loc}(hJ:κ.J=none)(h:eP κ nt st a w L){D:Nat}{Ds:cO}(hd:a.defers=(D::Ds).map mark)(hn:(D::Ds).Nodup)(hk:∀D'∈D::Ds,w.heap[D']? =some (.deferred (some []))/\κ.gw.heap.size<=D'):
  eP κ nt st {a with defers:=Ds.map mark} (w.putObj D (.deferred none)) L:=by
 obtain⟨W,base,M,w0,dP,h0⟩:=h.ex;have hD:=hk D (Zbl ..);have hlt:=(Zap.1 hD.1).1;have Oi:∀b,b≠D->(w.putObj D (.deferred none)).heap[b]? =w.heap[b]? :=λb hb=>World.putObj_heap_other hb;have hsz:(w.putObj D (.deferred none)).heap.size=w.heap.size:=by simp[World.putObj]
 have Dv:=dP;unfold oX.At at Dv;simp only[hJ]at Dv;obtain⟨_,rfl,rfl,rfl,rfl⟩:=Dv;have hbD:κ.base<=D:=ZaP (h.bg hJ) hD.2;have mE:∀(b:Nat) c e fr,w.heap[b]? =some (.cells c e fr)->(w.putObj D (.deferred none)).heap[b]? =some (.cells c e fr):=λb c e fr hb=>by
  rw[Oi b (by rintro rfl;rw[hD.1]at hb;cases hb)];exact hb
 have B8:KeepsC (WW κ.W st.ab L) w (w.putObj D (.deferred none)):=⟨by rw[hsz];exact Zaf _,λb c e fr hb _=>mE b c e fr hb⟩;have kd:∀(d:DV) (x:Value),aA w κ.W st.ab L d x->aA (w.putObj D (.deferred none)) κ.W st.ab L d x:=λd x=>(oZ B8 (SizeOf.sizeOf d+1)).1 d x (by omega);have hO:ct κ.base κ.W κ.M κ.w0 st.ab (w.putObj D (.deferred none)) L:=uq h0.o hD.1 (λe=>e) hbD;refine⟨⟨κ.W,κ.base,κ.M,κ.w0,dP,h0.size,λt=>kd _ _ (h0.tmps t),hO⟩, ?_,⟨Ds,rfl,(Zcw.1 hn).2,λD' hD'=>?_,λh=>by rw[hJ]at h;cases h⟩,h.bg,h.bZ⟩
 ·have had:=h.eZ;refine⟨⟨⟨by rw[hsz];exact had.dx.size,λb c e fr hb VE=>mE _ _ _ _ (had.dx.blk b c e fr hb VE)⟩,λb hb=>?_,λb r hb=>?_⟩,had.sub,had.fix,had.arr,had.yl⟩
  ·rw[Oi b (by have:=(Zap.1 hb).1;rw[oX.ya]at this;omega)];exact had.dx.W8 b hb
  ·rw[Oi b (by have:=(Zap.1 hb).1;rw[oX.ya]at this;omega)];exact had.dx.Xy b r hb
 ·have bT:D'≠D:=λe=>(Zcw.1 hn).1 (e▸hD');have:=hk D' (Zbg _ hD');exact⟨by rw[Oi D' bT];exact this.1,this.2⟩
def uA{κ:oX}{nt:Nat}{st:RS}{fn:Func}{R:Ending->World->Prop}(hJ:κ.J=none)(hR:∀(a:Act) (w:World) (L:Loc),eP κ nt st a w L->∃v,(results fn a.tmps).run P w=.ok v w/\R (.returned v) w):
  ∀(Ds:cO) (a:Act) (w:World) (L:Loc),eP κ nt st a w L->a.defers=Ds.map mark->Ds.Nodup->(∀D∈Ds,w.heap[D]? =some (.deferred (some []))/\κ.gw.heap.size<=D)->
   LeavesInM Fence.wide 0 P fn a.tmps R (Ds.map mark) .returning w
 |[],a,w,L,h,_,_,_=>by
  obtain⟨v,h1,h2⟩:=hR a w L h;exact⟨v,h1,h2⟩
 |D::Ds,a,w,L,h,hd,hn,hk=>by
  refine⟨by simp,.inl ⟨D,w.putObj D (.deferred none),rfl,run_takeDeferred (hk D (Zbl ..)).1, ?_⟩⟩;have h':=VD hJ h hd hn hk;obtain⟨Ds',e1,_,e3,_⟩:=h'.defers;have e:Ds'=Ds:=by
   have hi:∀(l l':cO),l.map mark=l'.map mark->l=l':=by
    intro l;induction l with
    |nil=>intro l' e;cases l'<;>simp_all
    |cons x l ih=>
     intro l' e;cases l' with
     |nil=>simp at e
     |cons y l'=>
      simp only[ZaA,Za1,mark,Deferred.mk.injEq,Target.collected.injEq,and_true]at e;rw[e.1,ih l' e.2]
   exact hi _ _ e1.symm
  subst e;exact uA hJ hR Ds' {a with defers:=Ds'.map mark} _ L h' rfl (Zcw.1 hn).2 e3
def aB(P:Program)(f:FuncId)(nt:Nat)(d:DC)(rs:List bV):Prop:=
 ∃fn,P.funcs[f]? =some fn/\fn.ntmps=nt/\fn.body.map (ce P nt)=some d/\fn.results.toList.mapM (nQ P)=some rs/\(fn.name== "runtime.NumGoroutine")=false
def aB.of{f:FuncId}{nt:Nat}{d:DC}{rs:List bV}(fn:Func)(h:(P.funcs[f]?,fn.ntmps,fn.body.map (ce P nt),fn.results.toList.mapM (nQ P),fn.name== "runtime.NumGoroutine")=(some fn,nt,some d,some rs,false)):aB P f nt d rs:=by
 simp only[Zav]at h;exact⟨fn,h⟩
def aB.entry{rs:List bV}(h:aB P f nt d rs):Dq P f:=by
 obtain⟨fn,h1,_,h3,_,h5⟩:=h;obtain⟨c,h2,_⟩:=Zac.1 h3;exact⟨fn,h1,by simpa using h5,by simp[h2]⟩
def pb{n:Nat}{k:Nat}{v:Value}(h:cA.toList[k]? =some v):(cA++Array.replicate (n-cA.size) Go.undef).getD k Go.undef=v:=by
 have hlt:k<cA.size:=by have:=(Zaw.1 h).1;simpa using this
 rw[ZaH,ZcZ hlt];simp only[Array.getElem?_toList]at h;rw[h];rfl
def oG{n:Nat}{k:Nat}(h:cA.size<=k):(cA++Array.replicate (n-cA.size) Go.undef).getD k Go.undef=Go.undef:=by
 rw[ZaH,Array.getElem?_append_right h,Array.getElem?_replicate];split<;>rfl
def aB.ok{rs:List bV}(h:aB P f nt d rs){ts:aK}{t:T}(dM:ts.length<=nt)(k:aa P nt d (On rs t) (qy ts)):bl P f ts t:=by
 have Aj:=h.entry;obtain⟨fn,hfn,rfl,h3,hr,_⟩:=h;obtain⟨c,hb,hc⟩:=Zac.1 h3;refine⟨Aj,λW w cA hW hg gQ=>?_⟩;have hl:=fN.length gQ;simp only[Za3]at hl;have uB:Ie ⟨W,λ_=>none,⟨λ_=>0,λ_=>Go.undef,0⟩,w,w.heap.size,λ_=>False,w,none,none,none⟩ fn.ntmps (qy ts) {tmps:=cA++Array.replicate (fn.ntmps-cA.size) Go.undef,defers:=[]} w ⟨λ_=>0,λ_=>Go.undef,0⟩:=by
  refine⟨⟨⟨W,w.heap.size,λ_=>False,w,⟨λ_=>rfl,rfl,rfl,rfl,rfl⟩,by simp;omega,λk=>?_,⟨Fr.refl (Zaf _),(λr o h=>by cases h),(λr r' o o' b _ h=>by cases h),(λr o b h=>by cases h),hW,hg.start⟩⟩,
   gP.cQ (dg.refl _ _),⟨[],rfl,Zb0,(λ_ h=>by cases h),λ_=>rfl⟩,λ_=>Zaf _,⟨0,λ_ _=>rfl⟩⟩,λ_ _=>rfl,λ_ _=>rfl,λh=>by cases h⟩
  simp only[qy];cases hk:ts[k]? with
  |some x=>
   obtain⟨v,hv,mQ⟩:=fN.get gQ hk;simp only[pb hv,Om,aA];refine bj.bi (dg.refl W w).toKeepsC ?_ x v mQ;rintro b hb (h|⟨r,o,h,_⟩)
   ·exact h
   ·cases h
  |none=>
   have xL:cA.size<=k:=by
    have:=ZbE.1 hk;omega
   simp only[Om,aA,oG xL]
 refine callsIn_wide.1 (callsIn_of_wp_marks (n:=0) hfn hb trivial ?_);refine wpIn_mono (k.run c hc 0 _ _ _ _ ⟨λJ hJ=>(by cases hJ),λl r s hY=>(by cases hY),λl hl=>(by cases hl)⟩ uB) ?_;rintro e a' w' ⟨dm,L',q,r'⟩;have done:Yi rs t dm->LeavesInM Fence.wide 0 P fn a'.tmps (λe w'=>∃v,e=.returned v/\vO w.heap.size w w'/\bj w' W t v) a'.defers .returning w':=by
  intro hq;obtain⟨Ds,h1,h2,h3,_⟩:=r'.r.defers;rw[h1];refine uA (κ:=⟨W,λ_=>none,⟨λ_=>0,λ_=>Go.undef,0⟩,w,w.heap.size,λ_=>False,w,none,none,none⟩) rfl ?_ Ds a' w' L' r'.r h1 h2 h3;intro a2 w2 L2 h4;obtain⟨W',KL,M',w0',dP,h0⟩:=h4.ex;obtain⟨_,e1,e2,e3,e4⟩:=dP
  replace h0:R0 w.heap.size W (λ_=>False) w fn.ntmps dm.tmps dm.ab a2 w2 L2:=by rw[e1,e2,e3,e4]at h0;exact h0
  obtain⟨v,k1,k2⟩:=uy (st:=dm) h0 (fY:=true) (W':=W) (λ_ r o b e1 e2=>h0.o.qQ r o b e1 e2) (λb hb=>.inl hb) hr hq;have fr:=h0.o.fr;exact⟨v,k1,v,rfl,⟨⟨fr.os,fr.tape,fr.output,fr.size,λk hk=>fr.block k hk (λx=>x)⟩,fr.drawn⟩,k2⟩
 cases e with
 |normal=>exact done q
 |ret=>exact done q
 |_=>exact q.elim
def aB.okS{rs:List bV}(h:aB P f nt d rs){args:bB}{ab:bq}{r:fI}{N:Nat}(hN:∀r,N<=r->ab r=none)(dM:args.length<=nt)(k:aa P nt d (DK rs r) (wd args ab N)):aR P f args ab r:=by
 have Aj:=h.entry;obtain⟨fn,hfn,rfl,h3,hr,_⟩:=h;obtain⟨c,hb,hc⟩:=Zac.1 h3;refine⟨Aj,λbase W M w0 w L cA hO B9=>?_⟩;have hl:=B9.1;simp only[Za3]at hl;have uB:Ie ⟨W,ab,L,w,base,M,w0,none,none,none⟩ fn.ntmps (wd args ab N) {tmps:=cA++Array.replicate (fn.ntmps-cA.size) Go.undef,defers:=[]} w L:=by
  refine⟨⟨⟨W,base,M,w0,⟨λ_=>rfl,rfl,rfl,rfl,rfl⟩,by simp;omega,λk=>?_,hO⟩,
   gP.cQ (dg.refl _ _),⟨[],rfl,Zb0,(λ_ h=>by cases h),λ_=>rfl⟩,λ_=>ZaP hO.fr.jq hO.fr.size,⟨N,hN⟩⟩,hN,hN,λh=>by cases h⟩
  simp only[wd];cases hk:args[k]? with
  |some x=>
   have hv:∃v,cA.toList[k]? =some v:=by
    have:k<cA.size:=by rw[hl];exact(Zaw.1 hk).1
    exact⟨cA[k],by simp[this]⟩
   obtain⟨v,hv⟩:=hv;simp only[pb hv,Cc];exact B9.2 k x v hk hv
  |none=>
   have xL:cA.size<=k:=by
    have:=ZbE.1 hk;omega
   simp only[Cc,aA,oG xL]
 refine callsIn_wide.1 (callsIn_of_wp_marks (n:=0) hfn hb trivial ?_);refine wpIn_mono (k.run c hc 0 _ _ _ _ ⟨λJ hJ=>(by cases hJ),λl r s hY=>(by cases hY),λl hl=>(by cases hl)⟩ uB) ?_;rintro e a' w' ⟨dm,L',q,r'⟩;have done:su rs r dm->LeavesInM Fence.wide 0 P fn a'.tmps (λe w'=>∃v L',e=.returned v/\ct base W M w0 r.ab w' L'/\gP W ab L w r.ab L' w'/\aA w' W r.ab L' r.val v) a'.defers .returning w':=by
  rintro⟨hq1,Xh,hq3⟩;obtain⟨Ds,h1,h2,h3,_⟩:=r'.r.defers;rw[h1];refine uA (κ:=⟨W,ab,L,w,base,M,w0,none,none,none⟩) rfl ?_ Ds a' w' L' r'.r h1 h2 h3;intro a2 w2 L2 h4;obtain⟨W',KL,M',w0',dP,h0⟩:=h4.ex;obtain⟨_,e1,e2,e3,e4⟩:=dP
  replace h0:R0 base W M w0 fn.ntmps dm.tmps dm.ab a2 w2 L2:=by rw[e1,e2,e3,e4]at h0;exact h0
  obtain⟨v,k1,k2⟩:=uy (st:=dm) h0 (fY:=false) (W':=WW W dm.ab L2) (λx=>by cases x) (λb hb=>hb) hr ⟨hq1,rfl⟩;have NE:=h0.o;have tC:=h4.eZ;simp only[Xh]at NE tC k2;refine⟨v,k1,v,L2,rfl,NE,tC, ?_⟩;rw[hq3];simp only[aA];exact k2
 cases e with
 |normal=>exact done q
 |ret=>exact done q
 |_=>exact q.elim
end
end
section
variable{draw:Bool}
variable [bI] [dL]
def fc(Γ:pI)(aJ:Nat):ai->RS->(RS->Prop)->Prop
 |[],st,K=>K st
 |r::rs,st,K=>
  match r.guard with
  |none=>cP r st.tmps/\um r st.ab (post Γ aJ r st).ab/\(post Γ aJ r st).ok/\fc Γ aJ rs ⟨cU st.tmps r.dst (post Γ aJ r st).val,(post Γ aJ r st).ab,(post Γ aJ r st).todo⟩ K
  |some (s,want)=>
   match st.tmps s with
   |.v (.bool b)=>(b=want->cP r st.tmps/\um r st.ab (post Γ aJ r st).ab/\(post Γ aJ r st).ok/\fc Γ aJ rs ⟨cU (cU st.tmps (some s) (.v (.bool want))) r.dst (post Γ aJ r st).val,(post Γ aJ r st).ab,(post Γ aJ r st).todo⟩ K)/\
     (b= !want->fc Γ aJ rs ⟨cU (cU st.tmps (some s) (.v (.bool (!want)))) r.dst .skip,st.ab,st.todo⟩ K)
   |.skip=>fc Γ aJ rs ⟨cU st.tmps r.dst .skip,st.ab,st.todo⟩ K
   |_=>False
def jQ{ρ:dw}{s:Nat}{v:DV}(h:ρ s=v):cU ρ (some s) v=ρ:=by
 funext x;simp only[cU];split
 ·rename_i e;rw[e,h]
 ·rfl
def iK{Γ:pI}{aJ:Nat}:∀(rs:ai) (st:RS) (K:RS->Prop),fc Γ aJ rs st K->jE Γ aJ rs st/\K (dZ Γ aJ rs st)
 |[],st,K,h=>⟨trivial,h⟩
 |r::rs,st,K,h=>by
  simp only[fc]at h;simp only[jE,dZ];have yes:fV r.guard st.tmps=some true->(cP r st.tmps/\um r st.ab (post Γ aJ r st).ab/\(post Γ aJ r st).ok/\fc Γ aJ rs ⟨cU st.tmps r.dst (post Γ aJ r st).val,(post Γ aJ r st).ab,(post Γ aJ r st).todo⟩ K)->(cJ Γ aJ r st/\jE Γ aJ rs (dW Γ aJ r st))/\K (dZ Γ aJ rs (dW Γ aJ r st)):=by
   rintro hw ⟨ht,hk4,hok,hk⟩;have e1:dW Γ aJ r st=⟨cU st.tmps r.dst (post Γ aJ r st).val,(post Γ aJ r st).ab,(post Γ aJ r st).todo⟩:=by simp only[dW,hw]
   have e2:cJ Γ aJ r st:=by simp only[cJ,hw];exact⟨hok,ht,hk4⟩
   rw[e1];have:=iK rs _ K hk;exact⟨⟨e2,this.1⟩,this.2⟩
  have no:fV r.guard st.tmps=some false->fc Γ aJ rs ⟨cU st.tmps r.dst .skip,st.ab,st.todo⟩ K->(cJ Γ aJ r st/\jE Γ aJ rs (dW Γ aJ r st))/\K (dZ Γ aJ rs (dW Γ aJ r st)):=by
   rintro hw hk;have e1:dW Γ aJ r st=⟨cU st.tmps r.dst .skip,st.ab,st.todo⟩:=by simp only[dW,hw]
   have e2:cJ Γ aJ r st:=by simp only[cJ,hw]
   rw[e1];have:=iK rs _ K hk;exact⟨⟨e2,this.1⟩,this.2⟩
  cases hg:r.guard with
  |none=>rw[hg]at h;exact yes (by simp[fV,hg]) h
  |some g=>
   obtain⟨s,want⟩:=g;rw[hg]at h;simp only at h;cases hs:st.tmps s with
   |skip=>rw[hs]at h;exact no (by simp[fV,hg,hs]) h
   |v t=>
    rw[hs]at h;cases t with
    |bool b=>
     simp only at h;by_cases hb:b=want
     ·subst hb;rw[jQ hs]at h;exact yes (by simp[fV,hg,hs]) (h.1 rfl)
     ·have fp:b= !want:=by cases b<;>cases want<;>simp_all
      subst fp;rw[jQ hs]at h;exact no (by simp[fV,hg,hs]) (h.2 rfl)
    |_=>exact h.elim
   |_=>rw[hs]at h;exact h.elim
def gB(Γ:pI)(aJ:Nat)(rs:ai)(tm:dw)(ob:bq)(td:List (aK))(K:RS->Prop)(dst:Option Nat)(e:qO):Prop:=
 e.ok/\fc Γ aJ rs ⟨cU tm dst e.val,cG ob e.put,td⟩ K
def GK(Γ:pI)(aJ:Nat)(rs:ai)(tm:dw)(K:RS->Prop)(dst:Option Nat)(e:SEff):Prop:=
 e.ok/\fc Γ aJ rs ⟨cU tm dst e.val,e.ab,e.todo⟩ K
def ml(Γ:pI)(aJ:Nat)(d:rO)(rs:ai)(tm:dw)(ob:bq)(td:List (aK))(K:RS->Prop)(dst:Option Nat)(gv:dw):Prop:=
 if rP d then GK Γ aJ rs gv K dst (oi Γ d tm ob td)else gB Γ aJ rs gv ob td K dst (dj Γ d (bN aJ dst) tm ob)
def Oo(Γ:pI)(aJ:Nat)(d:rO)(rs:ai)(tm:dw)(ob:bq)(td:List (aK))(K:RS->Prop)(dst:Option Nat)(s:Nat)(want:Bool)(g:DV):Prop:=
 match g with
 |.v (.bool b)=>(b=want->ml Γ aJ d rs tm ob td K dst (cU tm (some s) (.v (.bool want))))/\
   (b= !want->fc Γ aJ rs ⟨cU (cU tm (some s) (.v (.bool (!want)))) dst .skip,ob,td⟩ K)
 |.skip=>fc Γ aJ rs ⟨cU tm dst .skip,ob,td⟩ K
 |_=>False
section
variable{Γ:pI}{aJ:Nat}{st:RS}{K:RS->Prop}{rs:ai}{tm gv:dw}{ob:bq}{td:List (aK)}{dst:Option Nat}
def goOn_mk(ok:Prop)(v:DV)(p:Option (Nat×Ob)):gB Γ aJ rs tm ob td K dst ⟨ok,v,p⟩=(ok/\fc Γ aJ rs ⟨cU tm dst v,cG ob p,td⟩ K):=rfl
def Yj(ok:Prop)(v:DV)(nJ:bq)(td':List (aK)):GK Γ aJ rs tm K dst ⟨ok,v,nJ,td'⟩=(ok/\fc Γ aJ rs ⟨cU tm dst v,nJ,td'⟩ K):=rfl
def Yk:gB Γ aJ rs tm ob td K dst cZ=False:=by simp[gB,cZ]
def VF(f:FuncId)(args:List bQ):ml Γ aJ (.callS f args) rs tm ob td K dst gv=GK Γ aJ rs gv K dst (oi Γ (.callS f args) tm ob td):=by simp[ml,rP]
def VG(x:bQ)(args:List bQ):ml Γ aJ (.callv x args) rs tm ob td K dst gv=GK Γ aJ rs gv K dst (oi Γ (.callv x args) tm ob td):=by simp[ml,rP]
def nh(d:rO)(s:Nat)(b want:Bool):Oo Γ aJ d rs tm ob td K dst s want (.v (.bool b))=((b=want->ml Γ aJ d rs tm ob td K dst (cU tm (some s) (.v (.bool want))))/\
   (b= !want->fc Γ aJ rs ⟨cU (cU tm (some s) (.v (.bool (!want)))) dst .skip,ob,td⟩ K)):=rfl
def Yl:fc Γ aJ [] st K=K st:=rfl
def yh{d:rO}{g:Option (Nat×Bool)}{af:cO}{l:Option (cO)}:((post Γ aJ ⟨d,dst,g,af,l⟩ ⟨tm,ob,td⟩).ok/\fc Γ aJ rs ⟨cU gv dst (post Γ aJ ⟨d,dst,g,af,l⟩ ⟨tm,ob,td⟩).val,(post Γ aJ ⟨d,dst,g,af,l⟩ ⟨tm,ob,td⟩).ab,(post Γ aJ ⟨d,dst,g,af,l⟩ ⟨tm,ob,td⟩).todo⟩ K)=ml Γ aJ d rs tm ob td K dst gv:=by
 unfold post ml;cases h:rP d<;>simp[gB,GK,oq]
def DL{d:rO}{g:Option (Nat×Bool)}{af:cO}{o o':bq}:um ⟨d,dst,g,af,none⟩ o o'=True:=eq_true λ_ l h=>by cases h
def GL(l:cO)(o o':bq):Prop:=∀n,n∉l->o' n=o n
def DN{d:rO}{g:Option (Nat×Bool)}{af l:cO}:um ⟨d,dst,g,af,some l⟩ ob (post Γ aJ ⟨d,dst,g,af,some l⟩ ⟨tm,ob,td⟩).ab=(rP d=true->GL l ob (oi Γ d tm ob td).ab):=by
 unfold um GL post;by_cases h:rP d=true
 ·simp[h]
 ·simp[h]
def Oq(d:rO)(af:cO):fc Γ aJ (⟨d,dst,none,af,none⟩::rs) ⟨tm,ob,td⟩ K=ml Γ aJ d rs tm ob td K dst tm:=by
 simp only[fc,cP,DL,true_and];exact yh
def Ot(d:rO)(af:cO)(l:cO):
  fc Γ aJ (⟨d,dst,none,af,some l⟩::rs) ⟨tm,ob,td⟩ K=(cP ⟨d,dst,none,af,some l⟩ tm/\(rP d=true->GL l ob (oi Γ d tm ob td).ab)/\ml Γ aJ d rs tm ob td K dst tm):=by
 simp only[fc];rw[yh,DN]
@[simp low] def pc(d:rO)(s:Nat)(want:Bool)(af:cO):
  fc Γ aJ (⟨d,dst,some (s,want),af,none⟩::rs) ⟨tm,ob,td⟩ K=Oo Γ aJ d rs tm ob td K dst s want (tm s):=by
 simp only[fc,Oo,cP,DL,true_and];rw[yh]
end
section
variable{Γ:pI}{aJ:Nat}{K:RS->Prop}{rs:ai}{tm:dw}{ob:bq}{td:List (aK)}{dst:Option Nat}{d:rO}{s:Nat}{af:cO}
@[simp] def exec_g_tt(h:tm s=.v (.bool true)):fc Γ aJ (⟨d,dst,some (s,true),af,none⟩::rs) ⟨tm,ob,td⟩ K=ml Γ aJ d rs tm ob td K dst tm:=by
 rw[pc,h,nh,jQ h];simp
@[simp] def exec_g_ff(h:tm s=.v (.bool false)):fc Γ aJ (⟨d,dst,some (s,false),af,none⟩::rs) ⟨tm,ob,td⟩ K=ml Γ aJ d rs tm ob td K dst tm:=by
 rw[pc,h,nh,jQ h];simp
@[simp] def exec_g_tf(h:tm s=.v (.bool true)):fc Γ aJ (⟨d,dst,some (s,false),af,none⟩::rs) ⟨tm,ob,td⟩ K=fc Γ aJ rs ⟨cU tm dst .skip,ob,td⟩ K:=by
 rw[pc,h,nh];simp[jQ h]
@[simp] def exec_g_ft(h:tm s=.v (.bool false)):fc Γ aJ (⟨d,dst,some (s,true),af,none⟩::rs) ⟨tm,ob,td⟩ K=fc Γ aJ rs ⟨cU tm dst .skip,ob,td⟩ K:=by
 rw[pc,h,nh];simp[jQ h]
@[simp] def exec_g_sk{want:Bool}(h:tm s=.skip):fc Γ aJ (⟨d,dst,some (s,want),af,none⟩::rs) ⟨tm,ob,td⟩ K=fc Γ aJ rs ⟨cU tm dst .skip,ob,td⟩ K:=by
 rw[pc,h];rfl
end
def look:fA->Nat->DV
 |[],_=>.undef
 |(j,v)::l,k=>if k=j then v else look l k
def cM:cV->Nat->Option Ob
 |[],_=>none
 |(j,o)::l,k=>if k=j then some o else cM l k
def Ym(f:dw)(k:Nat)(v:DV)(x:Nat):cU f (some k) v x=if x=k then v else f x:=rfl
def VH(f:dw)(v:DV):cU f none v=f:=rfl
def VI(f:bq):cG f none=f:=rfl
def GM(f:bq)(r:Nat)(o:Ob)(x:Nat):cG f (some (r,o)) x=if x=r then some o else f x:=rfl
def vi(j:Nat)(v:DV)(l:fA)(k:Nat):look ((j,v)::l) k=if k=j then v else look l k:=rfl
def Yn(k:Nat):look [] k=.undef:=rfl
def cS(j:Nat)(o:Ob)(l:cV)(k:Nat):cM ((j,o)::l) k=if k=j then some o else cM l k:=rfl
def gR(k:Nat):cM [] k=none:=rfl
def Yo(l:cV)(r:Nat)(o:Ob):cG (cM l) (some (r,o))=cM ((r,o)::l):=rfl
def nR(ks:cO)(tm:dw):fA:=ks.map λk=>(k,tm k)
def DO(k:Nat)(ks:cO)(tm:dw):nR (k::ks) tm=(k,tm k)::nR ks tm:=rfl
def VJ(tm:dw):nR [] tm=[]:=rfl
def mG(tm:dw):∀(ks:cO) (k:Nat),look (nR ks tm) k=.undef\/look (nR ks tm) k=tm k
 |[],_=>.inl rfl
 |j::ks,k=>by
  rw[DO,vi];split
  ·rename_i h;exact .inr (by rw[h])
  ·exact mG tm ks k
def Le.we{st:l8}{tm:dw}(h:∀k,tm k=.undef\/tm k=st.tmps k):Le st ⟨tm,st.ab,st.aJ,st.low,st.todo⟩:=λκ nt a w L r=>
 ⟨L,⟨by
  obtain⟨W,base,M,w0,dP,h0⟩:=r.r.ex;exact⟨W,base,M,w0,dP,h0.size,λt=>by
   rcases h t with e|e
   ·show aA w W st.ab L (tm t) _;rw[e];simp[aA]
   ·show aA w W st.ab L (tm t) _;rw[e];exact h0.tmps t,h0.o⟩,r.r.eZ,r.r.defers,r.r.bg,r.r.bZ⟩,r.fresh,r.low,r.it⟩
def VK(ts:aK):Le (qy ts) ⟨look ((ts.map .v).zipIdx.map λp=>(p.2,p.1)),cM [],1000,1000,[]⟩:=by
 have key:∀(ts:aK) (i k:Nat),look (((ts.map .v).zipIdx i).map λp=>(p.2,p.1)) k=.undef\/look (((ts.map .v).zipIdx i).map λp=>(p.2,p.1)) k=Om (if i<=k then ts[k-i]? else none):=by
  intro ts;induction ts with
  |nil=>intro i k;exact .inl rfl
  |cons t ts ih=>
   intro i k;simp only[ZaA,ZcI,vi];split
   ·rename_i h;subst h;exact .inr (by simp[Om])
   ·rename_i h;rcases ih (i+1) k with e|e
    ·exact .inl e
    ·right;rw[e];by_cases hk:i+1<=k
     ·rw[Zai hk,Zai (by omega),show k-i=(k-(i+1))+1 by omega,Zbb]
     ·have:¬i<=k:=by omega
      rw[Zab hk,Zab this]
 refine Le.trans (Le.we (st:=qy ts) (tm:=look ((ts.map .v).zipIdx.map λp=>(p.2,p.1))) λk=>?_) (λκ nt a w L r=>⟨L,r⟩);have:=key ts 0 k;simpa [qy]using this
section
variable{P:Program}{nt:Nat}{Γ:pI}{Q:Exit->l8->Prop}{st:l8}{tm:dw}{ob:bq}{aJ low:Nat}{td:List (aK)}
def aa.fK(aC:ay P Γ)(hm:P.follows .mixedOrders=true){rs:ai}(ks:cO)
  (h:fc Γ aJ rs ⟨tm,ob,td⟩ λs=>Q .normal ⟨look (nR ks s.tmps),s.ab,aJ+nt+1,low,s.todo⟩):aa P nt (.region draw rs) Q ⟨tm,ob,aJ,low,td⟩:=by
 have:=iK _ _ _ h;refine aa.yf (Q:=λe s=>e=.normal/\s=⟨(dZ Γ aJ rs ⟨tm,ob,td⟩).tmps,(dZ Γ aJ rs ⟨tm,ob,td⟩).ab,aJ+nt+1,low,(dZ Γ aJ rs ⟨tm,ob,td⟩).todo⟩) (aa.region aC hm (st:=⟨tm,ob,aJ,low,td⟩) this.1 ⟨rfl,rfl⟩) ?_;rintro e s ⟨rfl,rfl⟩;exact⟨_,Le.we (mG _ ks),this.2⟩
def aa.ag(aC:ay P Γ)(hm:P.follows .mixedOrders=true){rs:ai}{b:DC}(ks:cO)
  (h:fc Γ aJ rs ⟨tm,ob,td⟩ λs=>aa P nt b Q ⟨look (nR ks s.tmps),s.ab,aJ+nt+1,low,s.todo⟩):aa P nt (.seq (.region draw rs) b) Q ⟨tm,ob,aJ,low,td⟩:=
 aa.seq (aa.fK aC hm ks h)
def aa.pe(aC:ay P Γ)(hm:P.follows .mixedOrders=true){d:DC}{rs:ai}(hd:d=.jr (rs.map bare)\/∃draw,d=.region draw (rs.map bare))(hok:ee nt true rs=true)(ks:cO)
  (h:fc Γ aJ rs ⟨tm,ob,td⟩ λs=>Q .normal ⟨look (nR ks s.tmps),s.ab,aJ+nt+1,low,s.todo⟩):aa P nt d Q ⟨tm,ob,aJ,low,td⟩:=by
 have:=iK _ _ _ h;refine aa.yf (Q:=λe s=>e=.normal/\s=⟨(dZ Γ aJ rs ⟨tm,ob,td⟩).tmps,(dZ Γ aJ rs ⟨tm,ob,td⟩).ab,aJ+nt+1,low,(dZ Γ aJ rs ⟨tm,ob,td⟩).todo⟩) (aa.regionA aC hm hd hok (st:=⟨tm,ob,aJ,low,td⟩) this.1 ⟨rfl,rfl⟩) ?_;rintro e s ⟨rfl,rfl⟩;exact⟨_,Le.we (mG _ ks),this.2⟩
def aa.jR(aC:ay P Γ)(hm:P.follows .mixedOrders=true){d b:DC}{rs:ai}(hd:d=.jr (rs.map bare)\/∃draw,d=.region draw (rs.map bare))(hok:ee nt true rs=true)(ks:cO)
  (h:fc Γ aJ rs ⟨tm,ob,td⟩ λs=>aa P nt b Q ⟨look (nR ks s.tmps),s.ab,aJ+nt+1,low,s.todo⟩):aa P nt (.seq d b) Q ⟨tm,ob,aJ,low,td⟩:=
 aa.seq (aa.pe aC hm hd hok ks h)
end
def aO{P:Program}{nt:Nat}{d:DC}{Q:Exit->l8->Prop}{ts:aK}(h:aa P nt d Q ⟨look ((ts.map .v).zipIdx.map λp=>(p.2,p.1)),cM [],1000,1000,[]⟩):aa P nt d Q (qy ts):=aa.le (VK ts) h
section
variable{Γ:pI}{aJ:Nat}{K:RS->Prop}{rs:ai}{tm gv:dw}{ob:bq}{td:List (aK)}{dst:Option Nat}
@[simp] def goD_mov(x:bQ):ml Γ aJ (.qu x) rs tm ob td K dst gv=gB Γ aJ rs gv ob td K dst (dj Γ (.qu x) (bN aJ dst) tm ob):=rfl
@[simp] def goD_pick(c a b:bQ):ml Γ aJ (.pick c a b) rs tm ob td K dst gv=gB Γ aJ rs gv ob td K dst (dj Γ (.pick c a b) (bN aJ dst) tm ob):=rfl
@[simp] def goD_alloc(zero:bB):ml Γ aJ (.alloc zero) rs tm ob td K dst gv=gB Γ aJ rs gv ob td K dst (dj Γ (.alloc zero) (bN aJ dst) tm ob):=rfl
@[simp] def goD_box(x:bQ):ml Γ aJ (.box x) rs tm ob td K dst gv=gB Γ aJ rs gv ob td K dst (dj Γ (.box x) (bN aJ dst) tm ob):=rfl
@[simp] def goD_build(zero:bB)(parts:List (Nat×Nat×bQ)):ml Γ aJ (.build zero parts) rs tm ob td K dst gv=gB Γ aJ rs gv ob td K dst (dj Γ (.build zero parts) (bN aJ dst) tm ob):=rfl
@[simp] def goD_bslice(len sz:Nat)(zero:bB)(parts:List (Nat×Nat×bQ)):ml Γ aJ (.bslice len sz zero parts) rs tm ob td K dst gv=gB Γ aJ rs gv ob td K dst (dj Γ (.bslice len sz zero parts) (bN aJ dst) tm ob):=rfl
@[simp] def goD_load(n:Nat)(agg:Bool)(x:bQ):ml Γ aJ (.load n agg x) rs tm ob td K dst gv=gB Γ aJ rs gv ob td K dst (dj Γ (.load n agg x) (bN aJ dst) tm ob):=rfl
@[simp] def goD_store(n:Nat)(x y:bQ):ml Γ aJ (.store n x y) rs tm ob td K dst gv=gB Γ aJ rs gv ob td K dst (dj Γ (.store n x y) (bN aJ dst) tm ob):=rfl
@[simp] def goD_bin(op:BinOp)(x y:bQ):ml Γ aJ (.bin op x y) rs tm ob td K dst gv=gB Γ aJ rs gv ob td K dst (dj Γ (.bin op x y) (bN aJ dst) tm ob):=rfl
@[simp] def goD_eqT(neg agg:Bool)(cj:List Sh)(x y:bQ):ml Γ aJ (.eqT neg agg cj x y) rs tm ob td K dst gv=gB Γ aJ rs gv ob td K dst (dj Γ (.eqT neg agg cj x y) (bN aJ dst) tm ob):=rfl
@[simp] def goD_un(op:UnOp)(x:bQ):ml Γ aJ (.un op x) rs tm ob td K dst gv=gB Γ aJ rs gv ob td K dst (dj Γ (.un op x) (bN aJ dst) tm ob):=rfl
@[simp] def goD_conv(k:IntKind)(x:bQ):ml Γ aJ (.conv k x) rs tm ob td K dst gv=gB Γ aJ rs gv ob td K dst (dj Γ (.conv k x) (bN aJ dst) tm ob):=rfl
@[simp] def goD_addOff(k:Nat)(x:bQ):ml Γ aJ (.addOff k x) rs tm ob td K dst gv=gB Γ aJ rs gv ob td K dst (dj Γ (.addOff k x) (bN aJ dst) tm ob):=rfl
@[simp] def goD_nilCheck(x:bQ):ml Γ aJ (.nilCheck x) rs tm ob td K dst gv=gB Γ aJ rs gv ob td K dst (dj Γ (.nilCheck x) (bN aJ dst) tm ob):=rfl
@[simp] def goD_idxAddr(sz:Nat)(x i:bQ):ml Γ aJ (.idxAddr sz x i) rs tm ob td K dst gv=gB Γ aJ rs gv ob td K dst (dj Γ (.idxAddr sz x i) (bN aJ dst) tm ob):=rfl
@[simp] def goD_arrAddr(len sz:Nat)(x i:bQ):ml Γ aJ (.arrAddr len sz x i) rs tm ob td K dst gv=gB Γ aJ rs gv ob td K dst (dj Γ (.arrAddr len sz x i) (bN aJ dst) tm ob):=rfl
@[simp] def goD_field(off n:Nat)(agg:Bool)(x:bQ):ml Γ aJ (.field off n agg x) rs tm ob td K dst gv=gB Γ aJ rs gv ob td K dst (dj Γ (.field off n agg x) (bN aJ dst) tm ob):=rfl
@[simp] def goD_slice(sz:Nat)(x:bQ)(lo hi:Option bQ):ml Γ aJ (.slice sz x lo hi) rs tm ob td K dst gv=gB Γ aJ rs gv ob td K dst (dj Γ (.slice sz x lo hi) (bN aJ dst) tm ob):=rfl
@[simp] def goD_extract(i:Nat)(x:bQ):ml Γ aJ (.extract i x) rs tm ob td K dst gv=gB Γ aJ rs gv ob td K dst (dj Γ (.extract i x) (bN aJ dst) tm ob):=rfl
@[simp] def goD_call(f:FuncId)(args:List bQ):ml Γ aJ (.call f args) rs tm ob td K dst gv=gB Γ aJ rs gv ob td K dst (dj Γ (.call f args) (bN aJ dst) tm ob):=rfl
@[simp] def goD_len(x:bQ):ml Γ aJ (.len x) rs tm ob td K dst gv=gB Γ aJ rs gv ob td K dst (dj Γ (.len x) (bN aJ dst) tm ob):=rfl
@[simp] def goD_lenS(x:bQ):ml Γ aJ (.lenS x) rs tm ob td K dst gv=gB Γ aJ rs gv ob td K dst (dj Γ (.lenS x) (bN aJ dst) tm ob):=rfl
@[simp] def goD_minmax(isMax:Bool)(x y:bQ):ml Γ aJ (.minmax isMax x y) rs tm ob td K dst gv=gB Γ aJ rs gv ob td K dst (dj Γ (.minmax isMax x y) (bN aJ dst) tm ob):=rfl
@[simp] def goD_append(e sz bytes:Nat)(x y:bQ):ml Γ aJ (.append e sz bytes x y) rs tm ob td K dst gv=gB Γ aJ rs gv ob td K dst (dj Γ (.append e sz bytes x y) (bN aJ dst) tm ob):=rfl
@[simp] def goD_mkSlice(e sz bytes:Nat)(zero:aK)(n:bQ):ml Γ aJ (.mkSlice e sz bytes zero n) rs tm ob td K dst gv=gB Γ aJ rs gv ob td K dst (dj Γ (.mkSlice e sz bytes zero n) (bN aJ dst) tm ob):=rfl
@[simp] def goD_mkSliceB(e sz bytes:Nat)(zero:aK)(n:bQ):ml Γ aJ (.mkSliceB e sz bytes zero n) rs tm ob td K dst gv=gB Γ aJ rs gv ob td K dst (dj Γ (.mkSliceB e sz bytes zero n) (bN aJ dst) tm ob):=rfl
@[simp] def goD_mkFn(f:Fn)(bY:List bQ):ml Γ aJ (.mkFn f bY) rs tm ob td K dst gv=gB Γ aJ rs gv ob td K dst (dj Γ (.mkFn f bY) (bN aJ dst) tm ob):=rfl
@[simp] def goD_callR(f:FuncId)(args:List bQ):ml Γ aJ (.callR f args) rs tm ob td K dst gv=gB Γ aJ rs gv ob td K dst (dj Γ (.callR f args) (bN aJ dst) tm ob):=rfl
@[simp] def goD_callF(f:FuncId)(args:List bQ):ml Γ aJ (.callF f args) rs tm ob td K dst gv=gB Γ aJ rs gv ob td K dst (dj Γ (.callF f args) (bN aJ dst) tm ob):=rfl
@[simp] def goD_mkMap(cj:List Sh)(agg:Bool):ml Γ aJ (.mkMap cj agg) rs tm ob td K dst gv=gB Γ aJ rs gv ob td K dst (dj Γ (.mkMap cj agg) (bN aJ dst) tm ob):=rfl
@[simp] def goD_lookup(cj:List Sh)(agg:Bool)(zero:DV)(ok:Bool)(x k:bQ):ml Γ aJ (.lookup cj agg zero ok x k) rs tm ob td K dst gv=gB Γ aJ rs gv ob td K dst (dj Γ (.lookup cj agg zero ok x k) (bN aJ dst) tm ob):=rfl
@[simp] def goD_mapUpd(cj:List Sh)(agg:Bool)(x k y:bQ):ml Γ aJ (.mapUpd cj agg x k y) rs tm ob td K dst gv=gB Γ aJ rs gv ob td K dst (dj Γ (.mapUpd cj agg x k y) (bN aJ dst) tm ob):=rfl
@[simp] def goD_mapEnt(cj:List Sh)(agg:Bool)(z:DV)(x k:bQ):ml Γ aJ (.mapEnt cj agg z x k) rs tm ob td K dst gv=gB Γ aJ rs gv ob td K dst (dj Γ (.mapEnt cj agg z x k) (bN aJ dst) tm ob):=rfl
@[simp] def goD_entSt(x s y:bQ):ml Γ aJ (.entSt x s y) rs tm ob td K dst gv=gB Γ aJ rs gv ob td K dst (dj Γ (.entSt x s y) (bN aJ dst) tm ob):=rfl
@[simp] def goD_mapDel(cj:List Sh)(agg:Bool)(x k:bQ):ml Γ aJ (.mapDel cj agg x k) rs tm ob td K dst gv=gB Γ aJ rs gv ob td K dst (dj Γ (.mapDel cj agg x k) (bN aJ dst) tm ob):=rfl
@[simp] def goD_lenM(x:bQ):ml Γ aJ (.lenM x) rs tm ob td K dst gv=gB Γ aJ rs gv ob td K dst (dj Γ (.lenM x) (bN aJ dst) tm ob):=rfl
@[simp] def goD_rangeM(x:bQ):ml Γ aJ (.rangeM x) rs tm ob td K dst gv=gB Γ aJ rs gv ob td K dst (dj Γ (.rangeM x) (bN aJ dst) tm ob):=rfl
@[simp] def goD_copy(sz:Nat)(x y:bQ):ml Γ aJ (.copy sz x y) rs tm ob td K dst gv=gB Γ aJ rs gv ob td K dst (dj Γ (.copy sz x y) (bN aJ dst) tm ob):=rfl
@[simp] def goD_isNil(kind:Nat)(neg:Bool)(x:bQ):ml Γ aJ (.isNil kind neg x) rs tm ob td K dst gv=gB Γ aJ rs gv ob td K dst (dj Γ (.isNil kind neg x) (bN aJ dst) tm ob):=rfl
@[simp] def goD_indexS(x i:bQ):ml Γ aJ (.indexS x i) rs tm ob td K dst gv=gB Γ aJ rs gv ob td K dst (dj Γ (.indexS x i) (bN aJ dst) tm ob):=rfl
@[simp] def goD_fail:ml Γ aJ (.fail) rs tm ob td K dst gv=gB Γ aJ rs gv ob td K dst (dj Γ (.fail) (bN aJ dst) tm ob):=rfl
@[simp] def goD_entryM(x:bQ):ml Γ aJ (.entryM x) rs tm ob td K dst gv=GK Γ aJ rs gv K dst (oi Γ (.entryM x) tm ob td):=by simp[ml,rP]
end
attribute [simp] GM goOn_mk Yj Yk VF VG oi nh Yl Oq Ot Ym VH VI Yo vi Yn cS gR DO VJ
attribute [simp] dj bQ.ev iF lG ua Dc Qq iq kT rZ kK oQ mZ Dd De Df jA r8 wC vd oD fL ir lH gh Gx pV oT oS mw ja jd ku je r9 kU kV jN gj oE zV NW eM xU
attribute [simp] On DK Yi su lM o9 bV.oq mO cellsOf eX kp t7 iZ cy vZ t8 tz ji F3 tA bN Db eL HI gO tl QF Ok rP
def aF{x:Int}(h: -9223372036854775808<=x/\x<=9223372036854775807):IntKind.i64.wrap x=x:=by
 simp[IntKind.wrap,IntKind.bits,IntKind.signed];omega
def DP{x:Int}(h:0<=x):x.tdiv 2=x/2:=Int.tdiv_eq_ediv_of_nonneg h
end
section
variable{P:Program}{f sz:Nat}{fn:aK->List (aK)}
variable [bI] [dL]
def bu:List (Nat×Spec)->pI
 |[],_=>none
 |(g,s)::l,f=>if f=g then some s else bu l f
def ay.nil:ay P (bu []):=λ_ _ h=>by cases h
def ay.add{s:Spec}{l:List (Nat×Spec)}(h:ay P (bu l))(k:XR P f s):ay P (bu ((f,s)::l)):=by
 intro g s' hg;simp only[bu]at hg;split at hg
 ·rename_i e;cases hg;subst e;exact k
 ·exact h g s' hg
def ay.cons{s:Spec}{l:List (Nat×Spec)}(h:ay P (bu l))
  (k:∀ts,s.pre ts->bl P f ts (s.fn ts)/\(s.jz=true->iJ (s.fn ts)=true)) (hs:s.st=none:=by rfl) (xK:s.fresh=none:=by rfl):ay P (bu ((f,s)::l)):=
 h.add ⟨k,λe sz hf=>(by rw[xK]at hf;cases hf),λk hk=>(by rw[hs]at hk;cases hk)⟩
def eS(k:bB->bq->fI):Spec:=⟨λ_=>False,λ_=>.bool false,true,some k,none,false⟩
def ay.gS{k:bB->bq->fI}{l:List (Nat×Spec)}(h:ay P (bu l))
  (hk:∀args ab,(k args ab).ok->(∀N,(∀r,N<=r->ab r=none)->aR P f args ab (k args ab))/\∀r,ab r=none->(k args ab).ab r=none):ay P (bu ((f,eS k)::l)):=
 h.add ⟨λ_ h=>h.elim,λ_ _ h=>(by cases h),λk' e=>by cases e;exact hk⟩
def oW.ok{f:FuncId}{ts:aK}{e:Nat}{av:List (aK)}(h:oW P f ts e sz av):bl P f ts (.sl av):=
 ⟨h.entry,λW w cA hW hg hr=>(h.run W w cA hW hg hr).mono λe' w' ⟨v,h1,hb,hf⟩=>⟨v,h1,hb,by
  simp only[bj];rcases hf.it with⟨h2,a,h3⟩|⟨g,cap,cur,h2,hp,xL,hh,h3,h4,h5,h6⟩
  ·exact .inl ⟨h2,a,0,h3⟩
  ·refine .inr ⟨g,0,cap,sz,h2,(Zap.1 hh).1,λhw=>?_,h3,bw.jB (bf.bi (dg.refl (λb=>W b\/b=g) w').toKeepsC (λb _ hb=>.inl hb) _ _ h6) hf.len λj v hv=>?_⟩
   ·have:=hW g hw;omega
   ·rw[Zbi,cell_of_row w' g j cur e (0,0) hh];rw[ZaQ]at hv;split at hv
    ·simpa using hv
    ·cases hv⟩⟩
def yj(pre:aK->Prop)(fn:aK->List (aK))(e sz:Nat):Spec:=⟨pre,λts=>.sl (fn ts),false,none,some (e,sz),false⟩
def ay.Yp{pre:aK->Prop}{e:Nat}{l:List (Nat×Spec)}(h:ay P (bu l))(k:∀ts,pre ts->oW P f ts e sz (fn ts)):ay P (bu ((f,yj pre fn e sz)::l)):=
 h.add ⟨λts hp=>⟨(k ts hp).ok,λx=>by cases x⟩,λe' iG hf ts hp=>(by cases hf;exact⟨_,rfl,k ts hp,λx=>by cases x⟩),λk hk=>(by cases hk)⟩
def DQ(pre:aK->Prop)(fn:aK->List (aK))(e sz:Nat):Spec:=⟨pre,λts=>.sl (fn ts),false,none,some (e,sz),true⟩
def ay.consL{pre:aK->Prop}{e:Nat}{l:List (Nat×Spec)}(h:ay P (bu l))(k:∀ts,pre ts->oW P f ts e sz (fn ts)/\iJ.iU (fn ts).flatten=true):ay P (bu ((f,DQ pre fn e sz)::l)):=
 h.add ⟨λts hp=>⟨(k ts hp).1.ok,λx=>by cases x⟩,λe' iG hf ts hp=>(by cases hf;exact⟨_,rfl,(k ts hp).1,λ_=>(k ts hp).2⟩),λk hk=>(by cases hk)⟩
@[simp] def specL_fresh(pre:aK->Prop)(fn:aK->List (aK))(e sz:Nat):(DQ pre fn e sz).fresh=some (e,sz):=rfl
@[simp] def specL_fn(pre:aK->Prop)(fn:aK->List (aK))(e sz:Nat)(ts:aK):(DQ pre fn e sz).fn ts=.sl (fn ts):=rfl
@[simp] def specL_pre(pre:aK->Prop)(fn:aK->List (aK))(e sz:Nat):(DQ pre fn e sz).pre=pre:=rfl
@[simp] def specL_lend(pre:aK->Prop)(fn:aK->List (aK))(e sz:Nat):(DQ pre fn e sz).fY=true:=rfl
@[simp] def specF_lend(pre:aK->Prop)(fn:aK->List (aK))(e sz:Nat):(yj pre fn e sz).fY=false:=rfl
@[simp] def specF_fresh(pre:aK->Prop)(fn:aK->List (aK))(e sz:Nat):(yj pre fn e sz).fresh=some (e,sz):=rfl
@[simp] def specF_fn(pre:aK->Prop)(fn:aK->List (aK))(e sz:Nat)(ts:aK):(yj pre fn e sz).fn ts=.sl (fn ts):=rfl
@[simp] def specF_pre(pre:aK->Prop)(fn:aK->List (aK))(e sz:Nat):(yj pre fn e sz).pre=pre:=rfl
def cT(pre:aK->Prop)(fn:aK->T)(jz:Bool):Spec:=⟨pre,fn,jz,none,none,false⟩
@[simp] def specP_pre(pre:aK->Prop)(fn:aK->T)(jz:Bool):(cT pre fn jz).pre=pre:=rfl
@[simp] def specP_fn(pre:aK->Prop)(fn:aK->T)(jz:Bool):(cT pre fn jz).fn=fn:=rfl
@[simp] def specP_scalar(pre:aK->Prop)(fn:aK->T)(jz:Bool):(cT pre fn jz).jz=jz:=rfl
@[simp] def specP_st(pre:aK->Prop)(fn:aK->T)(jz:Bool):(cT pre fn jz).st=none:=rfl
@[simp] def specF_st(pre:aK->Prop)(fn:aK->List (aK))(e sz:Nat):(yj pre fn e sz).st=none:=rfl
@[simp] def specS_st(k:bB->bq->fI):(eS k).st=some k:=rfl
def Ou(g f:Nat)(s:Spec)(l:List (Nat×Spec)):bu ((g,s)::l) f=if f=g then some s else bu l f:=rfl
def VL(f:Nat):bu [] f=none:=rfl
attribute [simp] Ou VL
theorem bl.calls{P:Program}{f:FuncId}{ts:aK}{t:T}(h:bl P f ts t){w:World}{cA:Array Value}(hg:F2 w λ_=>False)(hr:fN w (λ_=>False) ts cA.toList):
  Calls P f cA w λe w'=>∃v,e=.returned v/\vO w.heap.size w w'/\bj w' (λ_=>False) t v:=
 h.run (λ_=>False) w cA (λ_ h=>h.elim) hg hr
@[simp] def wrap_lit(n:Nat)(h:n<9223372036854775808):IntKind.i64.wrap (no_index (@OfNat.ofNat Int n instOfNat))= @OfNat.ofNat Int n instOfNat:=by
 have e:(@OfNat.ofNat Int n instOfNat)=(n:Int):=rfl;rw[e,aF (by omega)]
@[simp] def wrap_neg(n:Nat)(h:n<9223372036854775808):IntKind.i64.wrap (-(no_index (@OfNat.ofNat Int n instOfNat)))= -(@OfNat.ofNat Int n instOfNat):=by
 have e:(@OfNat.ofNat Int n instOfNat)=(n:Int):=rfl;rw[e,aF (by omega)]
end
section
variable{o':Ob}{r:Nat}
variable [bI] [dL]
def gone(aI:bq)(σ:Nat->Nat)(r:Nat):Prop:=∀r',aI r'≠none->σ r'≠r
def Yr(ab aI:bq)(σ:Nat->Nat)(r off:Nat):DV->Prop
 |.ptr r' off'=>r=σ r'/\off=off'/\∃cs,aI r'=some (.box cs)
 |.iD cs off'=>off=off'/\ab r=some (.box (cs.map .v))/\gone aI σ r
 |.v (.box cs)=>off=0/\ab r=some (.box (cs.map .v))/\gone aI σ r
 |_=>False
def yo(ab aI:bq)(σ:Nat->Nat)(r bD:Nat):DV->Prop
 |.bA r' cg=>r=σ r'/\∃e sz av e' iG eN,ab r=some (.arr bD e sz av)/\aI r'=some (.arr cg e' iG eN)
 |.v (.sl av)=>(∃e sz,ab r=some (.arr bD e sz av))/\gone aI σ r
 |_=>False
def QL(ab aI:bq)(σ:Nat->Nat)(r bD:Nat)(i:Int)(off:Nat):DV->Prop
 |.ka r' cg i' off'=>r=σ r'/\i=i'/\off=off'/\∃e sz av e' iG eN,ab r=some (.arr bD e sz av)/\aI r'=some (.arr cg e' iG eN)/\sz=iG/\av.length=eN.length
 |_=>False
def qW:Option Ob->Prop
 |some (.map _ _ _ _)=>True
 |_=>False
def DT:Option Ob->Prop
 |some (.iter _ _ _ _)=>True
 |_=>False
def pg(aI:bq)(σ:Nat->Nat)(r:Nat):DV->Prop
 |.iE r'=>r=σ r'/\qW (aI r')
 |_=>False
def Ys(aI:bq)(σ:Nat->Nat)(r:Nat):DV->Prop
 |.iter r'=>r=σ r'/\DT (aI r')
 |_=>False
def corAsl(ab aI:bq)(σ:Nat->Nat)(r bD lo n:Nat):DV->Prop
 |.u9 r' cg lo' n'=>r=σ r'/\lo=lo'/\n=n'/\∃e sz av e' iG eN,ab r=some (.arr bD e sz av)/\aI r'=some (.arr cg e' iG eN)/\sz=iG/\av.length=eN.length
 |.v (.sl eN)=>(∃e sz av,ab r=some (.arr bD e sz av)/\eN=(av.drop lo).take n)/\gone aI σ r
 |_=>False
def Yt(ab aI:bq)(σ:Nat->Nat)(r n:Nat):DV->Prop
 |.F9 r' n'=>r=σ r'/\n=n'/\∃cs,aI r'=some (.box cs)
 |.v (.sl av)=>av.length=n/\(∃sz,∀x∈av,x.length=sz)/\ab r=some (.box (av.flatten.map .v))/\gone aI σ r
 |_=>False
def DU{o:Option Ob}(h:qW o):∃cj agg c es,o=some (.map cj agg c es):=by
 unfold qW at h;split at h
 ·exact⟨_,_,_,_,rfl⟩
 ·exact h.elim
def VO{o:Option Ob}(h:DT o):∃m s sn l,o=some (.iter m s sn l):=by
 unfold DT at h;split at h
 ·exact⟨_,_,_,_,rfl⟩
 ·exact h.elim
def Ih:DV->Option (bB)
 |.agg ds=>some ds
 |.v (.agg ts)=>some (ts.map .v)
 |_=>none
mutual
def iL(ab aI:bq)(σ:Nat->Nat):DV->DV->Prop
 |.aW,d'=>d'=.undef\/d'=.aW\/d'=.v (.sl [])
 |.ptr r off,d'=>d'=.undef\/Yr ab aI σ r off d'
 |.bA r bD,d'=>d'=.undef\/yo ab aI σ r bD d'
 |.ka r bD i off,d'=>d'=.undef\/QL ab aI σ r bD i off d'
 |.agg ds,d'=>d'=.undef\/match Ih d' with|some ds'=>ij ab aI σ ds ds'|none=>False
 |.undef,d'=>d'=.undef
 |.skip,d'=>d'=.undef\/d'=.skip
 |.v t,d'=>d'=.undef\/d'=.v t
 |.l7 av i off,d'=>d'=.undef\/d'=.l7 av i off
 |.iD cs off,d'=>d'=.undef\/d'=.iD cs off
 |.NV,d'=>d'=.undef\/d'=.NV
 |.iE r,d'=>d'=.undef\/pg aI σ r d'
 |.iter r,d'=>d'=.undef\/Ys aI σ r d'
 |.u9 r bD lo n,d'=>d'=.undef\/corAsl ab aI σ r bD lo n d'
 |.F9 r n,d'=>d'=.undef\/Yt ab aI σ r n d'
 |.eo ds,d'=>d'=.undef\/match d' with|.eo ds'=>ij ab aI σ ds ds'|_=>False
 |.nG f ds,d'=>d'=.undef\/match d' with|.nG f' ds'=>f=f'/\ij ab aI σ ds ds'|.v (.fn f' ts)=>f=f'/\ij ab aI σ ds (ts.map .v)|_=>False
def ij(ab aI:bq)(σ:Nat->Nat):bB->bB->Prop
 |[],ds'=>ds'=[]
 |d::ds,ds'=>match ds' with
  |[]=>False
  |d'::ds'=>iL ab aI σ d d'/\ij ab aI σ ds ds'
end
def jF(ab aI:bq)(σ:Nat->Nat):List (Nat×T×DV)->List (Nat×T×DV)->Prop
 |[],m0=>m0=[]
 |e::es,m0=>match m0 with
  |[]=>False
  |e'::m0=>e.1=e'.1/\e.2.1=e'.2.1/\iL ab aI σ e.2.2 e'.2.2/\jF ab aI σ es m0
def ph{ab aI:bq}{σ:Nat->Nat}:∀{es:List (Nat×T×DV)},(∀e∈es,iL ab aI σ e.2.2 e.2.2)->jF ab aI σ es es
 |[],_=>by simp[jF]
 |e::es,h=>by simp only[jF];exact⟨trivial,trivial,h e (by simp),ph λe he=>h e (by simp[he])⟩
def nS(ab aI:bq)(σ:Nat->Nat):Ob->Ob->Prop
 |.box cs,.box cs'=>ij ab aI σ cs cs'
 |.arr _ e sz av,.arr _ e' iG eN=>e=e'/\sz=iG/\av=eN
 |.map cj agg c es,.map kq kr c' m0=>cj=kq/\agg=kr/\c=c'/\jF ab aI σ es m0
 |.iter m s sn l,.iter m' s' sn' l'=>m=σ m'/\s=s'/\sn=sn'/\l=l'/\qW (aI m')
 |_,_=>False
def jt:Ob->Ob->Prop
 |.box _,.box _=>True
 |.arr v _ sz av,.arr v' _ iG eN=>v=v'/\sz=iG/\av.length=eN.length
 |.map _ _ _ _,.map _ _ _ _=>True
 |.iter _ _ _ _,.iter _ _ _ _=>True
 |_,_=>False
def yq{o:Ob}(h:jt o o'):o'.kind=o.kind:=by cases o<;>cases o'<;>first|rfl|exact h.elim
def Loc.DW(L:Loc)(σ:Nat->Nat):Loc:=⟨λr=>L.blk (σ r),λr=>L.sl (σ r),L.yl⟩
section
variable{base:Nat}{W M:fo}{w0 w:World}{ab aI:bq}{L:Loc}{σ:Nat->Nat}
def vn{o:Ob}(h:nS ab aI σ o o')(r:Nat):(L.DW σ).own r o'=L.own (σ r) o:=by
 cases o<;>cases o'<;>first|rfl|exact h.elim
def lN(gH:∀r' o',aI r'=some o'->∃o,ab (σ r')=some o/\∀r,(L.DW σ).own r o'=L.own (σ r) o)(b:Nat)(h:WW W aI (L.DW σ) b):WW W ab L b:=by
 rcases h with h|⟨r',o',h1,h2⟩
 ·exact .inl h
 ·obtain⟨o,h3,h4⟩:=gH r' o' h1;exact .inr ⟨σ r',o,h3,by rw[<-h4];exact h2⟩
def DX(hO:ct base W M w0 ab w L)(gH:∀r' o',aI r'=some o'->∃o,ab (σ r')=some o/\∀r,(L.DW σ).own r o'=L.own (σ r) o){b:Nat}{o:Ob}(hr:ab r=some o)(hb:L.own r o=some b)(hg:gone aI σ r):¬WW W aI (L.DW σ) b:=by
 rintro(h|⟨r',o',h1,h2⟩)
 ·exact hO.qQ r o b hr hb h
 ·obtain⟨o2,h3,h4⟩:=gH r' o' h1;rw[h4]at h2;exact hO.apart r (σ r') o o2 b (λe=>hg r' (by rw[h1];exact λe=>by cases e) e.symm) hr h3 hb h2
def wM(hO:ct base W M w0 ab w L)(gH:∀r' o',aI r'=some o'->∃o,ab (σ r')=some o/\∀r,(L.DW σ).own r o'=L.own (σ r) o){cs:aK}(hr:ab r=some (.box (cs.map .v)))(hg:gone aI σ r):
  L.blk r<w.heap.size/\¬WW W aI (L.DW σ) (L.blk r)/\ed w (WW W aI (L.DW σ)) (L.blk r) 0 cs:=by
 have hb:=hO.ob r _ hr;obtain⟨c,e,hc,gQ,_⟩:=hb;refine⟨(Zap.1 hc).1,DX hO gH hr rfl hg,ed.Da cs 0 λj t hj=>?_⟩;have hd:(cs.map DV.v)[j]? =some (.v t):=by simp[hj]
 obtain⟨v,hv,h1,h2⟩:=aQ.get gQ hd;simp only[aA]at h2;refine⟨v, ?_,h1,bj.bi (dg.refl (WW W ab L) w).toKeepsC (λb _ hb=>lN gH b hb) t v h2⟩;simp only[World.cell?,hc,Zbi];simpa using hv
def Oy(hO:ct base W M w0 ab w L)(gH:∀r' o',aI r'=some o'->∃o,ab (σ r')=some o/\∀r,(L.DW σ).own r o'=L.own (σ r) o){bD e sz:Nat}{av:List (aK)}(hr:ab r=some (.arr bD e sz av))(hg:gone aI σ r):
  bj w (WW W aI (L.DW σ)) (.sl av) (L.sl r):=by
 have tD:=hO.ob r _ hr;obtain⟨hsz,eF,hm,hal⟩:=tD;simp only[bj];rcases hal with⟨rfl,p,hp⟩|⟨g',cap,cur,tp,hp,hh,jy,sc,HN,gQ⟩
 ·exact .inl ⟨rfl,p,0,hp⟩
 ·have zO:aX (L.sl r)=some g':=by simp[tp,aX,ZaJ.1 hp]
  refine .inr ⟨g',0,cap,sz,tp,(Zap.1 hh).1,DX hO gH hr (by simpa [Loc.own]using zO) hg,jy, ?_⟩;have B7:=pL.av (hO.ob r _ hr) (g:=g') zO;obtain⟨vs,xM,Cm,XE⟩:=bw.flatten B7;exact bw.jB (bf.bi (dg.refl (WW W ab L) w).toKeepsC (λb _ hb=>lN gH b hb) _ _ Cm) eF XE
def wN{ts:aK}:∀{vs:List Value},aQ w W ab L (ts.map .v) vs->bf w (WW W ab L) ts vs:=by
 induction ts with
 |nil=>intro vs h;simpa [aQ,bf]using h
 |cons t ts ih=>
  intro vs h;simp only[ZaA,aQ]at h;obtain⟨v,vs',rfl,h1,h2,h3⟩:=h;simp only[aA]at h2;simp only[bf];exact⟨v,vs',rfl,h1,h2,ih h3⟩
def Cu(hO:ct base W M w0 ab w L)(gH:∀r' o',aI r'=some o'->∃o,ab (σ r')=some o/\∀r,(L.DW σ).own r o'=L.own (σ r) o):
  ∀n,(∀(d d':DV) (x:Value),SizeOf.sizeOf d<n->iL ab aI σ d d'->aA w W ab L d x->aA w W aI (L.DW σ) d' x)/\
   (∀(ds ds':bB) (xs:List Value),SizeOf.sizeOf ds<n->ij ab aI σ ds ds'->aQ w W ab L ds xs->aQ w W aI (L.DW σ) ds' xs)/\
   (∀(ds ds':bB) (xs:List Value),SizeOf.sizeOf ds<n->ij ab aI σ ds ds'->eE w W ab L ds xs->eE w W aI (L.DW σ) ds' xs):=by
 have nR:∀(t:T) (x:Value),bj w (WW W ab L) t x->bj w (WW W aI (L.DW σ)) t x:=λt x h=>bj.bi (dg.refl (WW W ab L) w).toKeepsC (λb _ hb=>lN gH b hb) t x h;intro n;induction n with
 |zero=>exact⟨λ_ _ _ h=>by omega,λ_ _ _ h=>by omega,λ_ _ _ h=>by omega⟩
 |succ n ih=>
  refine⟨λd d' x hn hc hr=>?_,λds ds' xs hn hc hr=>?_,λds ds' xs hn hc hr=>?_⟩
  ·by_cases hu:d'=.undef
   ·subst hu;simp[aA]
   cases d with
   |undef=>simp only[iL]at hc;exact Zar hc hu
   |skip=>simp only[iL,hu,false_or]at hc;subst hc;simpa only[aA]using hr
   |NV=>simp only[iL,hu,false_or]at hc;subst hc;simp only[aA,Loc.DW]at hr⊢;exact hr
   |v t=>simp only[iL,hu,false_or]at hc;subst hc;simp only[aA]at hr⊢;exact nR t x hr
   |l7 av i off=>
    simp only[iL,hu,false_or]at hc;subst hc;simp only[aA]at hr⊢;obtain⟨b,o,sz,hx,hb,VE,B7,h1,h2⟩:=hr;exact⟨b,o,sz,hx,hb,λk=>VE (lN gH b k),bw.bi (dg.refl (WW W ab L) w).toKeepsC (λb _ hb=>lN gH b hb) hb VE sz o av B7,h1,h2⟩
   |iD cs off=>
    simp only[iL,hu,false_or]at hc;subst hc;simp only[aA]at hr⊢;obtain⟨b,o,hx,hb,VE,B7⟩:=hr;exact⟨b,o,hx,hb,λk=>VE (lN gH b k),ed.bi (dg.refl (WW W ab L) w).toKeepsC (λb _ hb=>lN gH b hb) hb VE o cs B7⟩
   |iE r=>
    simp only[iL,hu,false_or]at hc;simp only[aA]at hr;cases d' with
    |iE r'=>
     obtain⟨rfl,hm⟩:=hc;simp only[aA];exact⟨DU hm,hr.2⟩
    |_=>exact hc.elim
   |iter r=>
    simp only[iL,hu,false_or]at hc;simp only[aA]at hr;cases d' with
    |iter r'=>
     obtain⟨rfl,hm⟩:=hc;simp only[aA];exact⟨VO hm,hr.2⟩
    |_=>exact hc.elim
   |eo ds=>
    simp only[iL,hu,false_or]at hc;simp only[aA]at hr;obtain⟨vs,rfl,hr⟩:=hr;cases d' with
    |eo ds'=>
     simp only[aA];exact⟨vs,rfl,ih.2.2 ds ds' _ (by simp at hn⊢;omega) hc hr⟩
    |_=>exact hc.elim
   |nG f ds=>
    simp only[iL,hu,false_or]at hc;simp only[aA]at hr;obtain⟨vs,rfl,hr⟩:=hr;cases d' with
    |nG f' ds'=>
     obtain⟨rfl,hc⟩:=hc;simp only[aA];exact⟨vs,rfl,ih.2.1 ds ds' _ (by simp at hn⊢;omega) hc hr⟩
    |v t=>
     cases t with
     |fn f' ts=>
      obtain⟨rfl,hc⟩:=hc;simp only[aA,bj];exact⟨vs,rfl,wN (ih.2.1 ds _ _ (by simp at hn⊢;omega) hc hr)⟩
     |_=>exact hc.elim
    |_=>exact hc.elim
   |F9 r m=>
    simp only[iL,hu,false_or]at hc;simp only[aA]at hr;obtain⟨⟨cs0,hcs0⟩,rfl⟩:=hr;cases d' with
    |F9 r' m'=>
     obtain⟨rfl,rfl,cs,oj⟩:=hc;simp only[aA];exact⟨⟨cs,oj⟩,rfl⟩
    |v t=>
     cases t with
     |sl av=>
      obtain⟨rfl,⟨sz,hsz⟩,tD,hg⟩:=hc;obtain⟨h1,h2,h3⟩:=wM hO gH tD hg;simp only[aA,bj];refine .inr ⟨L.blk r,0,av.length,sz,rfl,h1,h2,Zaf _, ?_⟩;obtain⟨vs,Bk,mQ⟩:=ed.cA h3;exact bw.jB Bk hsz mQ
     |_=>exact hc.elim
    |_=>exact hc.elim
   |u9 r bD lo m=>
    simp only[iL,hu,false_or]at hc;simp only[aA]at hr;obtain⟨Kl,qw,e2,Gy,lI,gI,Km,hx⟩:=hr;cases d' with
    |u9 r' cg lo' m'=>
     obtain⟨rfl,rfl,rfl,e,sz,av,e',iG,eN,h1,h2,h3,h4⟩:=hc;rw[gI]at h1;simp only[Zaa,Ob.arr.injEq]at h1;obtain⟨rfl,rfl,rfl,rfl⟩:=h1;simp only[aA];refine⟨Kl,cg,e',iG,eN,h2,Zaf _,λ_=>?_⟩;obtain⟨k0,p,cap,p2,k1,k2,k3⟩:=hx rfl;exact⟨by rw[<-h4];exact k0,p,cap,p2,by rw[<-h4];exact k1,k2,by rw[<-h3];exact k3⟩
    |v t=>
     cases t with
     |sl eN=>
      obtain⟨⟨e,sz,av,h1,rfl⟩,hg⟩:=hc;rw[gI]at h1;simp only[Zaa,Ob.arr.injEq]at h1;obtain⟨rfl,rfl,rfl,rfl⟩:=h1;have hx:=hx rfl;simp only[aA,bj];have HG:((lI.drop lo).take m).length=m:=by rw[ZaB,Zbo];omega
      rcases uf hO gI hx with⟨rfl,a,c,rfl⟩|⟨g,c,zO,rfl,hnc,B7⟩
      ·exact .inl ⟨by simp,a,c,rfl⟩
      ·refine .inr ⟨g,lo*Gy,c,Gy,by rw[HG],(hO.ob r _ gI).lt (by simpa [Loc.own]using zO),DX hO gH gI (by simpa [Loc.own]using zO) hg,by omega, ?_⟩;obtain⟨vs,xM,Cm,XE⟩:=bw.flatten B7;exact bw.jB (bf.bi (dg.refl (WW W ab L) w).toKeepsC (λb _ hb=>lN gH b hb) _ _ Cm) (λx hx=>(hO.ob r _ gI).2.1 x (ZbW (ZaE hx))) XE
     |_=>exact hc.elim
    |_=>exact hc.elim
   |aW=>
    simp only[iL,hu,false_or]at hc;rcases hc with rfl|rfl
    ·simpa only[aA]using hr
    ·simp only[aA]at hr;obtain⟨a,rfl⟩:=hr;simp only[aA,bj];exact .inl ⟨trivial,a,0,rfl⟩
   |ptr r off=>
    simp only[iL,hu,false_or]at hc;simp only[aA]at hr;obtain⟨⟨cs0,hcs0⟩,rfl⟩:=hr;cases d' with
    |ptr r' off'=>
     obtain⟨rfl,rfl,cs,oj⟩:=hc;simp only[aA];exact⟨⟨cs,oj⟩,rfl⟩
    |iD cs off'=>
     obtain⟨rfl,tD,hg⟩:=hc;obtain⟨h1,h2,h3⟩:=wM hO gH tD hg;simp only[aA];exact⟨L.blk r,0,by simp,h1,h2,h3⟩
    |v t=>
     cases t with
     |box cs=>
      obtain⟨rfl,tD,hg⟩:=hc;obtain⟨h1,h2,h3⟩:=wM hO gH tD hg;simp only[aA,bj];exact⟨L.blk r,0,rfl,h1,h2,h3⟩
     |_=>exact hc.elim
    |_=>exact hc.elim
   |bA r bD=>
    simp only[iL,hu,false_or]at hc;simp only[aA]at hr;obtain⟨Kl,qw,e2,Gy,lI,gI,Km,hx⟩:=hr;cases d' with
    |bA r' cg=>
     obtain⟨rfl,e,sz,av,e',iG,eN,h1,h2⟩:=hc;rw[gI]at h1;simp only[Zaa,Ob.arr.injEq]at h1;obtain⟨rfl,_⟩:=h1;simp only[aA];exact⟨Kl,cg,e',iG,eN,h2,Zaf _,λ_=>hx rfl⟩
    |v t=>
     cases t with
     |sl av=>
      obtain⟨⟨e,sz,h1⟩,hg⟩:=hc;rw[gI]at h1;simp only[Zaa,Ob.arr.injEq]at h1;obtain⟨rfl,rfl,rfl,rfl⟩:=h1;have hx:=hx rfl;subst hx;simp only[aA];exact Oy hO gH gI hg
     |_=>exact hc.elim
    |_=>exact hc.elim
   |ka r bD i off=>
    simp only[iL,hu,false_or]at hc;simp only[aA]at hr;obtain⟨Kl,qw,e2,Gy,lI,gI,Km,hx⟩:=hr;cases d' with
    |ka r' cg i' off'=>
     obtain⟨rfl,rfl,rfl,e,sz,av,e',iG,eN,h1,h2,h3,h4⟩:=hc;rw[gI]at h1;simp only[Zaa,Ob.arr.injEq]at h1;obtain⟨rfl,rfl,rfl,rfl⟩:=h1;simp only[aA];refine⟨Kl,cg,e',iG,eN,h2,Zaf _,λ_=>?_⟩;obtain⟨g,k1,k2,k3,k4⟩:=hx rfl;exact⟨g,k1,by rw[<-h3];exact k2,k3,by rw[<-h4];exact k4⟩
    |_=>exact hc.elim
   |agg ds=>
    simp only[iL,hu,false_or]at hc;simp only[aA]at hr;obtain⟨vs,rfl,hr⟩:=hr;cases d' with
    |agg ds'=>
     simp only[Ih]at hc;simp only[aA];exact⟨vs,rfl,ih.2.1 ds ds' _ (by simp at hn⊢;omega) hc hr⟩
    |v t=>
     cases t with
     |agg ts=>
      simp only[Ih]at hc;simp only[aA,bj];exact⟨vs,rfl,wN (ih.2.1 ds _ _ (by simp at hn⊢;omega) hc hr)⟩
     |_=>exact hc.elim
    |_=>exact hc.elim
  ·cases ds with
   |nil=>simp only[ij]at hc;subst hc;simpa only[aQ]using hr
   |cons d ds=>
    cases ds' with
    |nil=>simp[ij]at hc
    |cons d' ds'=>
     simp only[ij]at hc;simp only[aQ]at hr⊢;obtain⟨y,ys,hv,h1,h2,h3⟩:=hr;exact⟨y,ys,hv,h1,ih.1 d d' y (by simp at hn⊢;omega) hc.1 h2,ih.2.1 ds ds' ys (by simp at hn⊢;omega) hc.2 h3⟩
  ·cases ds with
   |nil=>simp only[ij]at hc;subst hc;simpa only[eE]using hr
   |cons d ds=>
    cases ds' with
    |nil=>simp[ij]at hc
    |cons d' ds'=>
     simp only[ij]at hc;simp only[eE]at hr⊢;obtain⟨y,ys,hv,h2,h3⟩:=hr;exact⟨y,ys,hv,ih.1 d d' y (by simp at hn⊢;omega) hc.1 h2,ih.2.2 ds ds' ys (by simp at hn⊢;omega) hc.2 h3⟩
def Le.cor{st dm:l8}(σ:Nat->Nat)(Dw:dm.low=st.low)(KQ:dm.todo=st.todo)(DY:∀r,dm.aJ<=r->dm.ab r=none)
  (gH:∀r' o',dm.ab r'=some o'->∃o,st.ab (σ r')=some o/\nS st.ab dm.ab σ o o')
  (hinj:∀r1 r2,dm.ab r1≠none->dm.ab r2≠none->σ r1=σ r2->r1=r2)
  (BA:∀r,r<st.low->∀o,st.ab r=some o->σ r=r/\∃o',dm.ab r=some o'/\jt o o')
  (ik:∀k,iL st.ab dm.ab σ (st.tmps k) (dm.tmps k)):Le st dm:=by
 intro κ nt a w L h;refine⟨L.DW σ,⟨?_, ?_,h.r.defers,h.r.bg,⟨_,DY⟩⟩,DY,by rw[Dw];exact h.low,by rw[Dw];exact h.it⟩
 ·obtain⟨W,base,M,w0,dP,h0⟩:=h.r.ex;have hO:=h0.o;have tD:∀r' o',dm.ab r'=some o'->∃o,st.ab (σ r')=some o/\∀r,(L.DW σ).own r o'=L.own (σ r) o:=λr' o' h=>let⟨o,h1,h2⟩:=gH r' o' h;⟨o,h1,vn h2⟩
  have cr:=λ(d d':DV) (x:Value)=>(Cu hO tD (SizeOf.sizeOf d+1)).1 d d' x (by omega);have crs:=λ(ds ds':bB) (xs:List Value)=>(Cu hO tD (SizeOf.sizeOf ds+1)).2.1 ds ds' xs (by omega);refine⟨W,base,M,w0,by rw[KQ];exact dP,h0.size,λt=>cr _ _ _ (ik t) (h0.tmps t),⟨hO.fr,λr' o' iA=>?_,λr1 r2 o1 o2 b bT h1 h2 tV fH=>?_,λr' o' b iA hb=>?_,hO.under,hO.gl.bi (dg.refl (WW W st.ab L) w).toKeepsC λb _ hb=>lN tD b hb⟩⟩
  ·obtain⟨o,ho,hc⟩:=gH r' o' iA;have hk:=hO.ob (σ r') o ho;cases o with
   |box cs=>
    cases o' with
    |box cs'=>
     obtain⟨c,e,cR,hr,hm⟩:=hk;exact⟨c,e,cR,crs cs cs' _ hc hr,hm⟩
    |_=>exact hc.elim
   |map cj agg c es=>
    cases o' with
    |map kq kr c' m0=>
     obtain⟨rfl,rfl,rfl,pP⟩:=hc;obtain⟨arr,cR,hr,k1,k2,k3,hm⟩:=hk;have key:∀(es m0:List (Nat×T×DV)) (xs:List MapEntry),jF st.ab dm.ab σ es m0->bJ w W st.ab L es xs->bJ w W dm.ab (L.DW σ) m0 xs/\m0.map (·.1)=es.map (·.1)/\m0.map (·.2.1)=es.map (·.2.1):=by
      intro es;induction es with
      |nil=>intro m0 xs h1 h2;simp only[jF]at h1;subst h1;exact⟨by simpa only[bJ]using h2,rfl,rfl⟩
      |cons e es ih=>
       intro m0 xs h1 h2;cases m0 with
       |nil=>simp[jF]at h1
       |cons e' m0=>
        simp only[jF]at h1;simp only[bJ]at h2⊢;obtain⟨x,lz,rfl,q0,q1,q2,q3⟩:=h2;obtain⟨i1,i2,i3⟩:=ih m0 lz h1.2.2.2 q3;refine⟨⟨x,lz,rfl,q0.trans h1.1, ?_,cr _ _ _ h1.2.2.1 q2,i1⟩,by simp[i2,h1.1],by simp[i3,h1.2.1]⟩;rw[<-h1.2.1];exact bj.bi (dg.refl (WW W st.ab L) w).toKeepsC (λb _ hb=>lN tD b hb) _ _ q1
     obtain⟨i1,i2,i3⟩:=key es m0 _ pP hr;refine⟨arr,cR,i1,λe he=>?_,λe he=>?_,by rw[i2];exact k3,hm⟩
     ·have:e.2.1∈es.map (·.2.1):=by rw[<-i3];exact Zak.2 ⟨e,he,rfl⟩
      obtain⟨e0,h0',Nz⟩:=Zak.1 this;rw[<-Nz];exact k1 e0 h0'
     ·have:e.1∈es.map (·.1):=by rw[<-i2];exact Zak.2 ⟨e,he,rfl⟩
      obtain⟨e0,h0',Nz⟩:=Zak.1 this;rw[<-Nz];exact k2 e0 h0'
    |_=>exact hc.elim
   |iter m s sn l=>
    cases o' with
    |iter m' s' sn' l'=>
     obtain⟨rfl,rfl,rfl,rfl,Ny⟩:=hc;obtain⟨cR,_,hm⟩:=hk;exact⟨cR,DU Ny,hm⟩
    |_=>exact hc.elim
   |arr bD e sz av=>
    cases o' with
    |box _=>exact hc.elim
    |map _ _ _ _=>exact hc.elim
    |iter _ _ _ _=>exact hc.elim
    |arr cg e' iG eN=>
     obtain⟨rfl,rfl,rfl⟩:=hc;obtain⟨g1,g2,g3,g4⟩:=hk;refine⟨g1,g2,g3, ?_⟩;rcases g4 with g4|⟨g,cap,cur,hv,hp,hh,k1,k2,k3,k4⟩
     ·exact .inl g4
     ·exact .inr ⟨g,cap,cur,hv,hp,hh,k1,k2,k3,bf.bi (dg.refl (WW W st.ab L) w).toKeepsC (λb _ hb=>lN tD b hb) _ _ k4⟩
  ·obtain⟨p1,q1,c1⟩:=gH r1 o1 h1;obtain⟨p2,q2,c2⟩:=gH r2 o2 h2;rw[vn c1]at tV;rw[vn c2]at fH;exact hO.apart (σ r1) (σ r2) p1 p2 b (λe=>bT (hinj r1 r2 (λe=>by rw[show dm.ab r1=some o1 from h1]at e;cases e) (λe=>by rw[show dm.ab r2=some o2 from h2]at e;cases e) e)) q1 q2 tV fH
  ·obtain⟨p1,q1,c1⟩:=gH r' o' iA;rw[vn c1]at hb;exact hO.qQ (σ r') p1 b q1 hb
 ·have ha:gP κ.W κ.go κ.gL (κ.NC st.todo) st.ab L w:=h.r.eZ;show gP κ.W κ.go κ.gL (κ.NC dm.todo) dm.ab (L.DW σ) w;rw[KQ];refine⟨ha.dx,λb hb hw=>ha.sub b hb (lN (λr' o' h=>let⟨o,h1,h2⟩:=gH r' o' h;⟨o,h1,vn h2⟩) b hw),λr o hr hk=>?_,λr bD e sz av hr=>?_,ha.yl⟩
  ·have hlt:r<st.low:=ZbK λjy=>by rw[h.low r jy]at hr;cases hr
   obtain⟨e1,o1,sg,pJ⟩:=ha.fix r o hr hk;obtain⟨hs,o',iA,hv⟩:=BA r hlt _ sg;exact⟨by simp only[Loc.DW,hs];exact e1,o',iA,(yq hv).trans pJ⟩
  ·have hlt:r<st.low:=ZbK λjy=>by rw[h.low r jy]at hr;cases hr
   obtain⟨v1,e1,s1,r1,sg,l1,k1⟩:=ha.arr r bD e sz av hr;obtain⟨hs,o',iA,hv⟩:=BA r hlt _ sg;cases o' with
   |box cs'=>exact hv.elim
   |map _ _ _ _=>exact hv.elim
   |iter _ _ _ _=>exact hv.elim
   |arr v2 e2 s2 r2=>
    obtain⟨rfl,rfl,h3⟩:=hv;exact⟨v1,e2,s1,r2,iA,l1,λhv=>by
     obtain⟨a1,a2,a3⟩:=k1 hv;exact⟨by simp only[Loc.DW,hs];exact a1,a2,by rw[<-h3];exact a3⟩⟩
end
end
section
variable{r ba:Nat}{o0:cV}{draw:Bool}{rs:ai}
variable [bI] [dL]
section
variable{P:Program}{nt:Nat}
def OC(qs:Array Nat)(cA:Array Value)(tm:Array Value):(qs.zip cA).foldl (λt (p,v)=>t.setIfInBounds p v) tm=(qs.toList.zip cA.toList).foldl (λt (pv:Nat×Value)=>t.setIfInBounds pv.1 pv.2) tm:=by
 rw[<-Array.foldl_toList,Array.toList_zip]
def VQ{ro:Option Nat}{w:World}{fn:FuncId}{tm:Array Value}{ps:Array Nat}{y z:Code}(hro:∀l,ro=some l->∃r,w.heap[l]? =some (.loop r)):
  ∃(l:Nat) (Ds:cO) (W1:World) (rec:Loop),(Instr.enterLoop fn tm ps y z ro).run P w=.ok (l,Ds.map mark) W1/\vO w.heap.size w W1/\w.heap.size<=l/\W1.heap[l]? =some (.loop rec)/\
   rec.state=.ready/\rec.pending=none/\rec.fn=fn/\rec.tmps=tm/\rec.params=ps/\rec.assign=y/\rec.body=z/\Ds.Nodup/\(∀D∈Ds,W1.heap[D]? =some (.deferred (some []))/\w.heap.size<=D):=by
 cases ro with
 |none=>
  refine⟨_,[w.heap.size],_,{state:=.ready,pending:=none,fn,tmps:=tm,params:=ps,assign:=y,body:=z,defers:=w.heap.size},run_enterLoop_outer _ _ _ _ _, ?_,by simp, ?_,rfl,rfl,rfl,rfl,rfl,rfl,rfl,by simp, ?_⟩
  ·exact⟨((Below.refl _ w).alloc (Zaf _) _).alloc (by simp) _,Zaf _⟩
  ·have:=World.alloc_heap_new (w.alloc (.deferred (some []))) (.loop {state:=.ready,pending:=none,fn,tmps:=tm,params:=ps,assign:=y,body:=z,defers:=w.heap.size})
   rwa [World.size_alloc]at this
  ·intro D hD;simp only[Zan]at hD;subst hD;exact⟨(Below.heap_alloc _ _ _ (by simp)).trans (World.alloc_heap_new w _),Zaf _⟩
 |some l0=>
  obtain⟨r0,hr0⟩:=hro l0 rfl;refine⟨_,[],_,{state:=.ready,pending:=none,fn,tmps:=tm,params:=ps,assign:=y,body:=z,defers:=r0.defers},run_enterLoop_inner hr0 _ _ _ _ _, ?_,Zaf _,World.alloc_heap_new w _,rfl,rfl,rfl,rfl,rfl,rfl,rfl,Zb0,λD hD=>by cases hD⟩;exact⟨(Below.refl _ w).alloc (Zaf _) _,Zaf _⟩
end
def fR(ab aI:bq)(σ:Nat->Nat)(tm:dw):fA->Prop
 |[]=>True
 |(k,d)::l=>iL ab aI σ (tm k) d/\fR ab aI σ tm l
def uC(ab aI:bq)(σ:Nat->Nat):cV->Prop
 |[]=>True
 |(r,o)::l=>(∃o0,ab (σ r)=some o0/\nS ab aI σ o0 o)/\uC ab aI σ l
def oH(n:Nat):cV->Prop
 |[]=>True
 |(r,_)::l=>r<n/\oH n l
def uD(n:Nat):cV->Prop
 |[]=>True
 |(r,_)::l=>n<=r/\uD n l
def Ii(σ:Nat->Nat)(r:Nat):cV->Prop
 |[]=>True
 |(r',_)::l=>(σ r=σ r'->r=r')/\Ii σ r l
def Cv(σ:Nat->Nat):cV->Prop
 |[]=>True
 |(r,_)::l=>Ii σ r l/\Cv σ l
def jS:∀{l:cV} {r:Nat} {o:Ob},cM l r=some o->(r,o)∈l
 |[],_,_,h=>by cases h
 |(j,x)::l,r,o,h=>by
  simp only[cM]at h;split at h
  ·rename_i e;cases h;subst e;exact Zbl ..
  ·exact Zbg _ (jS h)
def QM{l:cV}(h:cM l r≠none):∃o,(r,o)∈l:=by
 cases ho:cM l r with
 |none=>exact Zar ho h
 |some o=>exact⟨o,jS ho⟩
def qC{n:Nat}:∀{l:cV},oH n l->∀r o,(r,o)∈l->r<n
 |[],_,_,_,h=>by cases h
 |(j,x)::l,hk,r,o,h=>by
  rcases Zah.1 h with e|h
  ·cases e;exact hk.1
  ·exact qC hk.2 r o h
def yw{n:Nat}:∀{l:cV},uD n l->∀r o,(r,o)∈l->n<=r
 |[],_,_,_,h=>by cases h
 |(j,x)::l,hk,r,o,h=>by
  rcases Zah.1 h with e|h
  ·cases e;exact hk.1
  ·exact yw hk.2 r o h
def sx{ab aI:bq}{σ:Nat->Nat}:∀{l:cV},uC ab aI σ l->∀r o,(r,o)∈l->∃o0,ab (σ r)=some o0/\nS ab aI σ o0 o
 |[],_,_,_,h=>by cases h
 |(j,x)::l,hk,r,o,h=>by
  rcases Zah.1 h with e|h
  ·cases e;exact hk.1
  ·exact sx hk.2 r o h
def wO{σ:Nat->Nat}{r:Nat}:∀{l:cV},Ii σ r l->∀r' o,(r',o)∈l->σ r=σ r'->r=r'
 |[],_,_,_,h=>by cases h
 |(j,x)::l,hk,r',o,h=>by
  rcases Zah.1 h with e|h
  ·cases e;exact hk.1
  ·exact wO hk.2 r' o h
def BD{σ:Nat->Nat}:∀{l:cV},Cv σ l->∀r1 r2 o1 o2,(r1,o1)∈l->(r2,o2)∈l->σ r1=σ r2->r1=r2
 |[],_,_,_,_,_,h,_=>by cases h
 |(j,x)::l,hk,r1,r2,o1,o2,h1,h2=>by
  rcases Zah.1 h1 with e1|h1
  ·cases e1;rcases Zah.1 h2 with e2|h2
   ·cases e2;exact λ_=>rfl
   ·exact wO hk.1 r2 o2 h2
  ·rcases Zah.1 h2 with e2|h2
   ·cases e2;exact λe=>(wO hk.1 r1 o1 h1 e.symm).symm
   ·exact BD hk.2 r1 r2 o1 o2 h1 h2
@[simp] def gone_obs_nil(σ:Nat->Nat)(r:Nat):gone (cM []) σ r:=λr' h=>by simp[cM]at h
def Yx{σ:Nat->Nat}{j:Nat}{o:Ob}{l:cV}(h1:σ j≠r)(h2:gone (cM l) σ r):gone (cM ((j,o)::l)) σ r:=by
 intro r' gD;by_cases hj:r'=j
 ·subst hj;exact h1
 ·exact h2 r' (by rw[cS,Zab hj]at gD;exact gD)
def nk{ab aI:bq}{σ:Nat->Nat}{tm:dw}:∀(l:fA),fR ab aI σ tm l->∀k,iL ab aI σ (tm k) (look l k)
 |[],_,k=>by
  show iL ab aI σ (tm k) .undef;cases tm k<;>simp[iL]
 |(j,d)::l,h,k=>by
  simp only[look];split
  ·rename_i e;subst e;exact h.1
  ·exact nk l h.2 k
def Le.corL{tm:dw}{o:cV}{l:fA}{aJ:Nat}{td:List (aK)}{low:Nat}(σ:Nat->Nat)(Cd:uD low o0)(hk:oH ba o)(ha:Cv σ o)
  (gH:uC (cM o0) (cM o) σ o) (ik:fR (cM o0) (cM o) σ tm l):Le ⟨tm,cM o0,aJ,low,td⟩ ⟨look l,cM o,ba,low,td⟩:=by
 refine Le.cor σ rfl rfl (λr hr=>?_) (λr' o' h=>sx gH r' o' (jS h)) (λr1 r2 h1 h2 e=>?_) (λr hr o' h=>?_) (λk=>nk l ik k)
 ·cases ho:cM o r with
  |none=>exact ho
  |some x=>have:=qC hk r x (jS ho);simp only at hr;omega
 ·obtain⟨x1,k1⟩:=QM h1;obtain⟨x2,k2⟩:=QM h2;exact BD ha r1 r2 x1 x2 k1 k2 e
 ·have:=yw Cd r o' (jS h);simp only at hr;omega
def Le.bi{tm:dw}{o:cV}{l:fA}{aJ:Nat}{td:List (aK)}{low:Nat}(Cd:uD low o0)(hk:oH ba o)
  (gH:uC (cM o0) (cM o) id o) (ik:fR (cM o0) (cM o) id tm l):Le ⟨tm,cM o0,aJ,low,td⟩ ⟨look l,cM o,ba,low,td⟩:=by
 refine Le.corL id Cd hk ?_ gH ik;clear hk gH ik;induction o with
 |nil=>trivial
 |cons p o ih=>
  refine⟨?_,ih⟩;clear ih;induction o with
  |nil=>trivial
  |cons q o ih=>exact⟨λh=>h,ih⟩
attribute [simp] fR uC oH uD Ii Cv iL ij Yr Yt yo QL Ih nS
def gn(tm:dw):fA->Prop
 |[]=>True
 |(k,d)::l=>tm k=d/\gn tm l
def D0{tm:dw}:∀{l:fA},gn tm l->∀k,look l k=.undef\/look l k=tm k
 |[],_,_=>.inl rfl
 |(j,d)::l,h,k=>by
  simp only[look];split
  ·rename_i e;subst e;exact .inr h.1.symm
  ·exact D0 h.2 k
section
variable{P:Program}{nt:Nat}{Γ:pI}{Q:Exit->l8->Prop}{tm:dw}{ob:bq}{aJ low:Nat}{td:List (aK)}
def aa.regTo(aC:ay P Γ)(hm:P.follows .mixedOrders=true)(l:fA)(nJ:bq)
  (h:fc Γ aJ rs ⟨tm,ob,td⟩ λs=>gn s.tmps l/\s.ab=nJ/\s.todo=td) (k:Q .normal ⟨look l,nJ,aJ+nt+1,low,td⟩):aa P nt (.region draw rs) Q ⟨tm,ob,aJ,low,td⟩:=by
 obtain⟨h1,h2,h3,h4⟩:=iK _ _ _ h;refine aa.yf (Q:=λe s=>e=.normal/\s=⟨(dZ Γ aJ rs ⟨tm,ob,td⟩).tmps,(dZ Γ aJ rs ⟨tm,ob,td⟩).ab,aJ+nt+1,low,(dZ Γ aJ rs ⟨tm,ob,td⟩).todo⟩) (aa.region aC hm (st:=⟨tm,ob,aJ,low,td⟩) h1 ⟨rfl,rfl⟩) ?_;rintro e s ⟨rfl,rfl⟩;refine⟨_,Le.we (D0 h2), ?_⟩;simp only[h3,h4];exact k
def aa.Yy(aC:ay P Γ)(hm:P.follows .mixedOrders=true){b:DC}(l:fA)(nJ:bq)
  (h:fc Γ aJ rs ⟨tm,ob,td⟩ λs=>gn s.tmps l/\s.ab=nJ/\s.todo=td) (k:aa P nt b Q ⟨look l,nJ,aJ+nt+1,low,td⟩):aa P nt (.seq (.region draw rs) b) Q ⟨tm,ob,aJ,low,td⟩:=
 aa.seq (aa.regTo aC hm l nJ h k)
def aa.cz(aC:ay P Γ)(hm:P.follows .mixedOrders=true){b:DC}(l:fA)
  (h:fc Γ aJ rs ⟨tm,ob,td⟩ λs=>gn s.tmps l/\s.ab=ob/\s.todo=td) (k:aa P nt b Q ⟨look l,ob,aJ+nt+1,low,td⟩):aa P nt (.seq (.region draw rs) b) Q ⟨tm,ob,aJ,low,td⟩:=
 aa.Yy aC hm l ob h k
def aa.to{d:DC}{st:l8}(st2:l8)(h:aa P nt d (λe s=>e=.normal/\Le s st2) st)(k:Q .normal st2):aa P nt d Q st:=
 aa.yf h λe s ⟨h1,h2⟩=>by subst h1;exact⟨st2,h2,k⟩
end
attribute [simp] gn
end
section
variable{args:bB}{ab:bq}
variable [bI] [dL]
section
variable{P:Program}{nt:Nat}{Γ:pI}{Q:Exit->l8->Prop}{tm:dw}{ob:bq}{aJ low:Nat}{td:List (aK)}
def aa.Ij(aC:ay P Γ)(hm:P.follows .mixedOrders=true){draw:Bool}{rs:ai}(l:fA)
  (h:fc Γ aJ rs ⟨tm,ob,td⟩ λs=>gn s.tmps l/\s.ab=ob/\s.todo=td) (k:Q .normal ⟨look l,ob,aJ+nt+1,low,td⟩):aa P nt (.region draw rs) Q ⟨tm,ob,aJ,low,td⟩:=
 aa.regTo aC hm l ob h k
end
def ew(f:bq)(r:Nat)(o:Ob):bq:=λk=>if k=r then some o else f k
def OA(f:bq)(r:Nat)(o:Ob)(k:Nat):ew f r o k=if k=r then some o else f k:=rfl
@[simp] def putO_setO(f:bq)(r:Nat)(o o':Ob):cG (ew f r o) (some (r,o'))=ew f r o':=by
 funext k;simp only[GM,ew];split<;>rfl
@[simp] def setO_setO(f:bq)(r:Nat)(o o':Ob):ew (ew f r o) r o'=ew f r o':=by
 funext k;simp only[ew];split<;>rfl
def vq{f:bq}{r:Nat}{o o':Ob}(h:f r=some o){k:Nat}(hk:f k=none):ew f r o' k=none:=by
 simp only[ew];split
 ·rename_i e;rw[e,h]at hk;cases hk
 ·exact hk
def Le.same{tm:dw}{ob:bq}{aJ ba low:Nat}{td:List (aK)}{l:fA}(h:∀r,ba<=r->ob r=none)(hl:gn tm l):Le ⟨tm,ob,aJ,low,td⟩ ⟨look l,ob,ba,low,td⟩:=
 Le.trans (Le.we (D0 hl)) λκ nt a w L r=>⟨L,⟨r.r,h,r.low,r.it⟩⟩
def D1:∀(ds:bB) (i k:Nat),look ((ds.zipIdx i).map λp=>(p.2,p.1)) k=.undef\/look ((ds.zipIdx i).map λp=>(p.2,p.1)) k=Cc (if i<=k then ds[k-i]? else none)
 |[],i,k=>.inl rfl
 |t::ts,i,k=>by
  simp only[ZaA,ZcI,vi];split
  ·rename_i h;subst h;exact .inr (by simp[Cc])
  ·rename_i h;rcases D1 ts (i+1) k with e|e
   ·exact .inl e
   ·right;rw[e];by_cases hk:i+1<=k
    ·rw[Zai hk,Zai (by omega),show k-i=(k-(i+1))+1 by omega,Zbb]
    ·have:¬i<=k:=by omega
     rw[Zab hk,Zab this]
def Al{P:Program}{nt:Nat}{d:DC}{Q:Exit->l8->Prop}{N:Nat}(h:aa P nt d Q ⟨look (args.zipIdx.map λp=>(p.2,p.1)),ab,N,N,[]⟩):aa P nt d Q (wd args ab N):=by
 refine aa.le (Le.we (st:=wd args ab N) (tm:=look (args.zipIdx.map λp=>(p.2,p.1))) λk=>?_) h;have:=D1 args 0 k;simpa [wd]using this
@[simp] def Yz(ob:bq):∀x:aK,ji ob (x.map .v)=x
 |[]=>rfl
 |t::x=>by simp[Yz ob x]
@[simp] def setO_get(f:bq)(r:Nat)(o:Ob):ew f r o r=some o:=by simp[ew]
def aR.of{P:Program}{f:FuncId}{r r':fI}(h:aR P f args ab r)(h1:r'.ab=r.ab)(h2:r'.val=r.val):aR P f args ab r':=by
 obtain⟨ok,val,ob⟩:=r;obtain⟨ok',val',nJ⟩:=r';simp only at h1 h2;subst h1 h2;exact⟨h.entry,h.run⟩
end
section
variable{f ob:bq}{o':Ob}{r sz aJ low:Nat}{tm:dw}{td:List (aK)}{σ:Nat->Nat}
variable [bI] [dL]
def Loc.at(L:Loc)(q:Nat)(x:Value):Loc:=⟨L.blk,λk=>if k=q then x else L.sl k,L.yl⟩
section
variable{base:Nat}{W M:fo}{w0 w:World}{ab:bq}{L:Loc}
def fq{q:Nat}{o:Ob}(h:ew f q o r=some o'):(r=q/\o'=o)\/(r≠q/\f r=some o'):=by
 simp only[ew]at h;split at h
 ·rename_i e;exact .inl ⟨e,(ZbU h).symm⟩
 ·rename_i e;exact .inr ⟨e,h⟩
def mS{q:Nat}{o:Ob}(h:r≠q)(k:f r=some o'):ew f q o r=some o':=by
 simp only[ew,Zab h,k]
def Ik{q:Nat}{x:Value}{o:Ob}(h:r≠q):(L.at q x).own r o=L.own r o:=by
 cases o<;>simp[Loc.own,Loc.at,h]
def Cw{q:Nat}{a:Option Addr}{v e:Nat}{av:List (aK)}:(L.at q (.slice a 0 0)).own q (.arr v e sz av)=none:=by
 cases a<;>simp[Loc.own,Loc.at,aX]
def YA{q:Nat}{a:Option Addr}{e:Nat}{b:Nat}(h:WW W (ew ab q (.arr 0 e sz [])) (L.at q (.slice a 0 0)) b):WW W ab L b:=by
 rcases h with h|⟨r,o,hr,hb⟩
 ·exact .inl h
 ·rcases fq hr with⟨rfl,rfl⟩|⟨bT,hr⟩
  ·rw[Cw]at hb;cases hb
  ·rw[Ik bT]at hb;exact .inr ⟨r,o,hr,hb⟩
def Il{q:Nat}{a:Option Addr}{e:Nat}(hq:ab q=none):gP W ab L w (ew ab q (.arr 0 e sz [])) (L.at q (.slice a 0 0)) w:=by
 refine⟨dg.refl _ _,λb _ h=>YA h,λr o hr hk=>?_,λr bD e' iG av hr=>?_,rfl⟩
 ·have bT:r≠q:=λh=>by rw[h,hq]at hr;cases hr
  exact⟨rfl,o,mS bT hr,rfl⟩
 ·have bT:r≠q:=λh=>by rw[h,hq]at hr;cases hr
  exact⟨bD,e',iG,av,mS bT hr,Zaf _,λ_=>⟨by simp[Loc.at,bT],rfl,rfl⟩⟩
def KT(hO:ct base W M w0 ab w L){q:Nat}{a:Option Addr}{e:Nat}(hsz:0<sz)(hq:ab q=none):ct base W M w0 (ew ab q (.arr 0 e sz [])) w (L.at q (.slice a 0 0)):=by
 have hA:=Il (W:=W) (w:=w) (L:=L) (a:=a) (e:=e) (sz:=sz) hq;refine⟨hO.fr,λr o hr=>?_,λr r' o o' b bT h1 h2 hb=>?_,λr o b hr hb=>?_,hO.under,hO.gl.bi hA.dx.toKeepsC hA.sub⟩
 ·rcases fq hr with⟨rfl,rfl⟩|⟨bT,hr⟩
  ·refine⟨hsz,λx hx=>(by cases hx),λg hg=>?_,.inl ⟨rfl,a,by simp[Loc.at]⟩⟩;exfalso;simp only[Loc.at,if_true]at hg;cases a<;>simp[aX]at hg
  ·have hk:=hO.ob r o hr;cases o with
   |box cs=>
    obtain⟨c,f,cR,gQ,hm⟩:=hk;exact⟨c,f,cR,aQ.eZ hA cs _ gQ,hm⟩
   |map cj agg c es=>
    obtain⟨arr,cR,gQ,q1,q2,q3,hm⟩:=hk;exact⟨arr,cR,bJ.eZ hA es _ gQ,q1,q2,q3,hm⟩
   |iter m s sn l=>
    obtain⟨cR,Ny,hm⟩:=hk;exact⟨cR,(hA.mp m Ny).2,hm⟩
   |arr bD e' iG av=>
    obtain⟨g1,g2,g3,g4⟩:=hk;have hs:(L.at q (.slice a 0 0)).sl r=L.sl r:=by simp[Loc.at,bT]
    refine⟨g1,g2,by rw[hs];exact g3, ?_⟩;rw[hs];rcases g4 with g4|⟨g,cap,cur,hv,hp,hh,k1,k2,k3,k4⟩
    ·exact .inl g4
    ·exact .inr ⟨g,cap,cur,hv,hp,hh,k1,k2,k3,bf.bi (dg.refl (WW W ab L) w).toKeepsC (λb _ hb=>YA hb) _ _ k4⟩
 ·rcases fq h1 with⟨rfl,rfl⟩|⟨n1,h1⟩
  ·rw[Cw]at hb;cases hb
  ·rw[Ik n1]at hb;rcases fq h2 with⟨rfl,rfl⟩|⟨n2,h2⟩
   ·rw[Cw];exact λh=>by cases h
   ·rw[Ik n2];exact hO.apart r r' o o' b bT h1 h2 hb
 ·rcases fq hr with⟨rfl,rfl⟩|⟨n1,hr⟩
  ·rw[Cw]at hb;cases hb
  ·rw[Ik n1]at hb;exact hO.qQ r o b hr hb
end
def Le.vr{k:Nat}(e:Nat)(hsz:0<sz)(hk:tm k=.aW):
  Le ⟨tm,ob,aJ,low,td⟩ ⟨cU tm (some k) (.bA aJ 0),ew ob aJ (.arr 0 e sz []),aJ+1,low,td⟩:=by
 intro κ nt a w L h;have hq:ob aJ=none:=h.fresh aJ (Zaf _);obtain⟨W,base,M,w0,dP,h0⟩:=h.r.ex;have hx:=h0.tmps k;simp only[hk,aA]at hx;obtain⟨ad,hx⟩:=hx;have hA:=Il (W:=W) (w:=w) (L:=L) (a:=ad) (e:=e) (sz:=sz) hq;have wJ:=dP.sub;have xK:∀r,aJ+1<=r->ew ob aJ (.arr 0 e sz []) r=none:=λr hr=>by
  simp only[ew];rw[Zab (by omega)];exact h.fresh r (by simp only;omega)
 refine⟨L.at aJ (.slice ad 0 0),⟨⟨W,base,M,w0,dP,h0.size,λt=>?_,KT h0.o hsz hq⟩,gP.comp h.r.eZ hA (dP.H3 _) wJ.2,h.r.defers,h.r.bg,⟨_,xK⟩⟩,xK,h.low,h.it⟩;simp only[cU];by_cases ht:t=k
 ·subst ht;simp only[if_true,aA];refine⟨⟨ad,0,0,hx⟩,0,e,sz,[],by simp,Zaf _,λ_=>?_⟩;rw[hx];simp[Loc.at]
 ·simp only[ht,if_false];exact aA.eZ hA _ _ (h0.tmps t)
def Am{w:World}{W:fo}{ab:bq}{L:Loc}:∀(cs:bB) (xs:List Value) (k:Nat) (d:DV),aQ w W ab L cs xs->(∀x,xs[k]? =some x->aA w W ab L d x)->aQ w W ab L (cs.set k d) xs
 |[],xs,k,d,h,_=>by simpa using h
 |c::cs,xs,0,d,h,hd=>by
  simp only[aQ]at h;obtain⟨x,lz,rfl,h1,h2,h3⟩:=h;simp only[ZbR,aQ];exact⟨x,lz,rfl,h1,hd x (by simp),h3⟩
 |c::cs,xs,k+1,d,h,hd=>by
  simp only[aQ]at h;obtain⟨x,lz,rfl,h1,h2,h3⟩:=h;simp only[Zb2,aQ];exact⟨x,lz,rfl,h1,h2,Am cs lz k d h3 λy hy=>hd y (by simpa using hy)⟩
def An{w:World}{W:fo}{ab:bq}{L:Loc}:∀(cs:bB) (xs:List Value) (k:Nat) (d:DV) (x:Value),aQ w W ab L cs xs->cs[k]? =some d->xs[k]? =some x->aA w W ab L d x
 |[],xs,k,d,x,h,hk,_=>by simp at hk
 |c::cs,xs,0,d,x,h,hk,hx=>by
  simp only[aQ]at h;obtain⟨y,lz,rfl,h1,h2,h3⟩:=h;simp only[ZaF,Zaa]at hk hx;subst hk hx;exact h2
 |c::cs,xs,k+1,d,x,h,hk,hx=>by
  simp only[aQ]at h;obtain⟨y,lz,rfl,h1,h2,h3⟩:=h;simp only[Zbb]at hk hx;exact An cs lz k d x h3 hk hx
def wP{w:World}{W:fo}{ab:bq}{L:Loc}:∀(cs:bB) (xs:List Value) (k:Nat) (d:DV),aQ w W ab L cs xs->cs[k]? =some d->∃x,xs[k]? =some x
 |[],xs,k,d,h,hk=>by simp at hk
 |c::cs,xs,0,d,h,hk=>by
  simp only[aQ]at h;obtain⟨y,lz,rfl,h1,h2,h3⟩:=h;exact⟨y,by simp⟩
 |c::cs,xs,k+1,d,h,hk=>by
  simp only[aQ]at h;obtain⟨y,lz,rfl,h1,h2,h3⟩:=h;simp only[Zbb]at hk;obtain⟨x,hx⟩:=wP cs lz k d h3 hk;exact⟨x,by simpa using hx⟩
def Le.Cx(r:Nat)(k:Nat){cs:bB}(e:Nat)(hsz:0<sz)(hr:ob r=some (.box cs))(hk:cs[k]? =some .aW):
  Le ⟨tm,ob,aJ,low,td⟩ ⟨tm,ew (ew ob aJ (.arr 0 e sz [])) r (.box (cs.set k (.bA aJ 0))),aJ+1,low,td⟩:=by
 intro κ nt a w L h;have hq:ob aJ=none:=h.fresh aJ (Zaf _);have hrq:r≠aJ:=λe=>by rw[e,hq]at hr;cases hr
 have hrlt:r<aJ:=ZbK λjy=>by have:=h.fresh r jy;simp only at this;rw[this]at hr;cases hr
 obtain⟨W,base,M,w0,dP,h0⟩:=h.r.ex;have hO:=h0.o;obtain⟨c,f,cR,gQ,hm⟩:=hO.ob r _ hr;obtain⟨x,hx⟩:=wP _ _ _ _ gQ hk;have Ga:=An _ _ _ _ _ gQ hk hx;simp only[aA]at Ga;obtain⟨ad,hxa⟩:=Ga;have hA:=Il (W:=W) (w:=w) (L:=L) (a:=ad) (e:=e) (sz:=sz) hq;have wi:=KT (a:=ad) (e:=e) hO hsz hq;obtain⟨o1,KU⟩:=bb (ew ob aJ (.arr 0 e sz []));obtain⟨L1,VR⟩:=bb (L.at aJ (.slice ad 0 0));have sg:o1 r=some (.box cs):=by rw[<-KU];exact mS hrq hr
 rw[KU,VR]at hA wi;have Co:∀{V:fo} b,WW V (ew o1 r (.box (cs.set k (.bA aJ 0)))) L1 b->WW V o1 L1 b:=by
  intro V b hb;rcases hb with hb|⟨r',o,gD,hb⟩
  ·exact .inl hb
  ·rcases fq gD with⟨rfl,rfl⟩|⟨_,gD⟩
   ·exact .inr ⟨r',_,sg,hb⟩
   ·exact .inr ⟨r',o,gD,hb⟩
 have tC:gP W o1 L1 w (ew o1 r (.box (cs.set k (.bA aJ 0)))) L1 w:=by
  refine⟨dg.refl _ _,λb _ h=>Co b h,λr' o' gD tU=>?_,λr' bD e' iG av gD=>?_,rfl⟩
  ·by_cases he:r'=r
   ·subst he;rw[sg]at gD;cases gD;exact⟨rfl,.box (cs.set k (.bA aJ 0)),by simp[ew],rfl⟩
   ·exact⟨rfl,o',mS he gD,rfl⟩
  ·have he:r'≠r:=λhe=>by rw[he,sg]at gD;cases gD
   exact⟨bD,e',iG,av,mS he gD,Zaf _,λ_=>⟨rfl,rfl,rfl⟩⟩
 have NE:ct base W M w0 (ew o1 r (.box (cs.set k (.bA aJ 0)))) w L1:=by
  refine⟨wi.fr,λr' o gD=>?_,λp p' o o' b bT h1 h2 hb=>?_,λp o b hp hb=>?_,wi.under,wi.gl.bi tC.dx.toKeepsC tC.sub⟩
  ·rcases fq gD with⟨rfl,rfl⟩|⟨bT,gD⟩
   ·refine⟨c,f,by rw[<-VR];exact cR,Am _ _ _ _ (aQ.eZ tC _ _ (aQ.eZ hA _ _ gQ)) λy hy=>?_,by rw[<-VR];exact hm⟩;rw[hx]at hy;cases hy;simp only[aA];refine⟨⟨ad,0,0,hxa⟩,0,e,sz,[],mS (Ne.symm hrq) (by rw[<-KU];simp),Zaf _,λ_=>?_⟩;rw[hxa,<-VR];simp[Loc.at]
   ·have tU:=wi.ob r' o gD;cases o with
    |box cs'=>
     obtain⟨c',f',D3,D4,HP⟩:=tU;exact⟨c',f',D3,aQ.eZ tC cs' _ D4,HP⟩
    |map cj agg c es=>
     obtain⟨arr,D3,D4,q1,q2,q3,HP⟩:=tU;exact⟨arr,D3,bJ.eZ tC es _ D4,q1,q2,q3,HP⟩
    |iter m s sn l=>
     obtain⟨D3,Ny,HP⟩:=tU;exact⟨D3,(tC.mp m Ny).2,HP⟩
    |arr bD e' iG av=>
     obtain⟨g1,g2,g3,g4⟩:=tU;refine⟨g1,g2,g3, ?_⟩;rcases g4 with g4|⟨g,cap,cur,hv,hp,hh,k1,k2,k3,k4⟩
     ·exact .inl g4
     ·exact .inr ⟨g,cap,cur,hv,hp,hh,k1,k2,k3,bf.bi (dg.refl (WW W o1 L1) w).toKeepsC (λb _ hb=>Co b hb) _ _ k4⟩
  ·have key:∀{p o},ew o1 r (.box (cs.set k (.bA aJ 0))) p=some o->∃o2,o1 p=some o2/\L1.own p o=L1.own p o2:=by
    intro p o hp;rcases fq hp with⟨rfl,rfl⟩|⟨_,hp⟩
    ·exact⟨_,sg,rfl⟩
    ·exact⟨o,hp,rfl⟩
   obtain⟨x1,y1,z1⟩:=key h1;obtain⟨x2,y2,z2⟩:=key h2;rw[z1]at hb;rw[z2];exact wi.apart p p' x1 x2 b bT y1 y2 hb
  ·rcases fq hp with⟨rfl,rfl⟩|⟨_,hp⟩
   ·exact wi.qQ p _ b sg hb
   ·exact wi.qQ p o b hp hb
 have wJ:=dP.sub;have xK:∀r',aJ+1<=r'->ew o1 r (.box (cs.set k (.bA aJ 0))) r'=none:=λr' gD=>by
  rw[<-KU];simp only[ew];rw[Zab (by omega),Zab (by omega)];exact h.fresh r' (by simp only;omega)
 rw[KU];exact⟨L1,⟨⟨W,base,M,w0,dP,h0.size,λt=>aA.eZ tC _ _ (aA.eZ hA _ _ (h0.tmps t)),NE⟩,gP.comp (gP.comp h.r.eZ hA (dP.H3 _) wJ.2) tC (dP.H3 _) wJ.2,h.r.defers,h.r.bg,⟨_,xK⟩⟩,xK,h.low,h.it⟩
@[simp] def Im:look []=λ_=>DV.undef:=by funext k;rfl
def KV:Option Ob->Option Ob->Prop
 |some a,some b=>jt a b
 |_,_=>False
def QN(low:Nat)(o0 o:bq):cV->Prop
 |[]=>True
 |(r,_)::l=>(r<low->KV (o0 r) (o r))/\QN low o0 o l
attribute [simp] QN KV jt
@[simp] def gone_cons{j:Nat}{o:Ob}{l:cV}:gone (cM ((j,o)::l)) σ r↔σ j≠r/\gone (cM l) σ r:=by
 refine⟨λh=>⟨h j (by simp),λr' gD=>h r' (by simp only[cS];split<;>simp[gD])⟩,λh=>Yx h.1 h.2⟩
@[simp] def gone_nil:gone (cM []) σ r:=λr' h=>Zar rfl h
end
section
variable{r:Nat}{f:bq}{d:DC}
variable [bI] [dL]
def aM:cV->bq->bq
 |[],f=>f
 |(r,o)::l,f=>λk=>if k=r then some o else aM l f k
@[simp] def aP(r:Nat)(o:Ob)(l:cV)(f:bq)(k:Nat):aM ((r,o)::l) f k=if k=r then some o else aM l f k:=rfl
@[simp] def cm(f:bq)(k:Nat):aM [] f k=f k:=rfl
@[simp] def VU(l:cV)(f:bq)(r:Nat)(o:Ob):cG (aM l f) (some (r,o))=aM ((r,o)::l) f:=rfl
def jT(l:cV)(f:bq)(r:Nat)(o:Ob):ew (aM l f) r o=aM ((r,o)::l) f:=rfl
def aZ:Ob->cO
 |.box cs=>bM cs
 |.arr _ _ _ _=>[]
 |.map _ _ _ es=>es.flatMap λe=>aN e.2.2
 |.iter m _ _ _=>[m]
def dh(f:bq)(n:Nat):Prop:=∀r o,f r=some o->r<n/\∀m∈aZ o,f m≠none
section
variable{base:Nat}{W M:fo}{w0 w:World}{ab aI:bq}{L:Loc}
def Au(hO:ct base W M w0 ab w L){N:Nat}(hN:∀r,N<=r->ab r=none):dh ab N:=by
 intro r o hr;refine⟨ZbK (λh=>by rw[hN r h]at hr;cases hr),λm hm=>?_⟩;have gH:=hO.ob r o hr;cases o with
 |box cs=>obtain⟨c,e,_,h,_⟩:=gH;exact fZ.aN cs (fZ.bP cs _ h) m hm
 |arr _ _ _ _=>cases hm
 |iter m' _ _ _=>
  obtain⟨_,⟨_,_,_,_,h⟩,_⟩:=gH;simp only[aZ,Zan]at hm;subst hm;simp[h]
 |map cj agg c es=>
  obtain⟨arr,_,h,_⟩:=gH;simp only[aZ,ZaV]at hm;obtain⟨e,he,hm⟩:=hm;obtain⟨i,hi⟩:=ZbY he;obtain⟨x,_,_,_,hv⟩:=bJ.get h hi;exact fg.aN _ (fg.bP _ _ hv) m hm
def sameAt(ab aI:bq)(m:Nat):Prop:=∃o o',ab m=some o/\aI m=some o'/\jt o o'
def KY(Co:∀b,WW W aI L b->WW W ab L b):
  ∀n,(∀(d:DV) (x:Value),SizeOf.sizeOf d<n->(∀m∈aN d,sameAt ab aI m)->aA w W ab L d x->aA w W aI L d x)/\
   (∀(ds:bB) (xs:List Value),SizeOf.sizeOf ds<n->(∀m∈bM ds,sameAt ab aI m)->aQ w W ab L ds xs->aQ w W aI L ds xs)/\
   (∀(ds:bB) (xs:List Value),SizeOf.sizeOf ds<n->(∀m∈bM ds,sameAt ab aI m)->eE w W ab L ds xs->eE w W aI L ds xs):=by
 have B8:=(dg.refl (WW W ab L) w).toKeepsC;have wJ:∀b,b<w.heap.size->WW W aI L b->WW W ab L b:=λb _ h=>Co b h;intro n;induction n with
 |zero=>exact⟨λ_ _ h=>by omega,λ_ _ h=>by omega,λ_ _ h=>by omega⟩
 |succ n ih=>
  refine⟨λd x hn hm hr=>?_,λds xs hn hm hr=>?_,λds xs hn hm hr=>?_⟩
  ·cases d with
   |undef=>simp[aA]
   |skip=>simpa only[aA]using hr
   |NV=>simpa only[aA]using hr
   |aW=>simpa only[aA]using hr
   |v t=>simp only[aA]at hr⊢;exact bj.bi B8 wJ t x hr
   |l7 av i off=>
    simp only[aA]at hr⊢;obtain⟨b,o,sz,hx,hb,VE,B7,h1,h2⟩:=hr;exact⟨b,o,sz,hx,hb,λk=>VE (Co b k),bw.bi B8 wJ hb VE sz o av B7,h1,h2⟩
   |iD cs off=>
    simp only[aA]at hr⊢;obtain⟨b,o,hx,hb,VE,B7⟩:=hr;exact⟨b,o,hx,hb,λk=>VE (Co b k),ed.bi B8 wJ hb VE o cs B7⟩
   |ptr r off=>
    obtain⟨o,o',h1,h2,h3⟩:=hm r (by simp[aN]);simp only[aA]at hr⊢;obtain⟨⟨cs,hc⟩,hx⟩:=hr;rw[h1]at hc;cases hc;cases o' with
    |box cs'=>exact⟨⟨cs',h2⟩,hx⟩
    |_=>exact h3.elim
   |iE r=>
    obtain⟨o,o',h1,h2,h3⟩:=hm r (by simp[aN]);simp only[aA]at hr⊢;obtain⟨⟨_,_,_,_,hc⟩,hx⟩:=hr;rw[h1]at hc;cases hc;cases o' with
    |map a b c d=>exact⟨⟨a,b,c,d,h2⟩,hx⟩
    |_=>exact h3.elim
   |iter r=>
    obtain⟨o,o',h1,h2,h3⟩:=hm r (by simp[aN]);simp only[aA]at hr⊢;obtain⟨⟨_,_,_,_,hc⟩,hx⟩:=hr;rw[h1]at hc;cases hc;cases o' with
    |iter a b c d=>exact⟨⟨a,b,c,d,h2⟩,hx⟩
    |_=>exact h3.elim
   |bA r bD=>
    obtain⟨o,o',h1,h2,h3⟩:=hm r (by simp[aN]);simp only[aA]at hr⊢;obtain⟨Kl,cg,e,sz,av,hc,jy,hx⟩:=hr;rw[h1]at hc;cases hc;cases o' with
    |arr v2 e2 s2 r2=>obtain⟨rfl,rfl,h5⟩:=h3;exact⟨Kl,_,_,_,_,h2,jy,hx⟩
    |_=>exact h3.elim
   |ka r bD i off=>
    obtain⟨o,o',h1,h2,h3⟩:=hm r (by simp[aN]);simp only[aA]at hr⊢;obtain⟨Kl,cg,e,sz,av,hc,jy,hx⟩:=hr;rw[h1]at hc;cases hc;cases o' with
    |arr v2 e2 s2 r2=>
     obtain⟨rfl,rfl,h5⟩:=h3;exact⟨Kl,_,_,_,_,h2,jy,λhv=>by obtain⟨g,k1,k2,k3,k4⟩:=hx hv;exact⟨g,k1,k2,k3,by rw[<-h5];exact k4⟩⟩
    |_=>exact h3.elim
   |F9 r m=>
    obtain⟨o,o',h1,h2,h3⟩:=hm r (by simp[aN]);simp only[aA]at hr⊢;obtain⟨⟨cs,hc⟩,hx⟩:=hr;rw[h1]at hc;cases hc;cases o' with
    |box cs'=>exact⟨⟨cs',h2⟩,hx⟩
    |_=>exact h3.elim
   |u9 r bD lo m=>
    obtain⟨o,o',h1,h2,h3⟩:=hm r (by simp[aN]);simp only[aA]at hr⊢;obtain⟨Kl,cg,e,sz,av,hc,jy,hx⟩:=hr;rw[h1]at hc;cases hc;cases o' with
    |arr v2 e2 s2 r2=>
     obtain⟨rfl,rfl,h5⟩:=h3;exact⟨Kl,_,_,_,_,h2,jy,λhv=>by
      obtain⟨k0,p,cap,p2,k1,k2,k3⟩:=hx hv;exact⟨by rw[<-h5];exact k0,p,cap,p2,by rw[<-h5];exact k1,k2,k3⟩⟩
    |_=>exact h3.elim
   |agg ds=>
    simp only[aA]at hr⊢;obtain⟨vs,hv,hr⟩:=hr;exact⟨vs,hv,ih.2.1 ds _ (by simp at hn⊢;omega) (λm h=>hm m (by simpa only[aN]using h)) hr⟩
   |nG f ds=>
    simp only[aA]at hr⊢;obtain⟨vs,hv,hr⟩:=hr;exact⟨vs,hv,ih.2.1 ds _ (by simp at hn⊢;omega) (λm h=>hm m (by simpa only[aN]using h)) hr⟩
   |eo ds=>
    simp only[aA]at hr⊢;obtain⟨vs,hv,hr⟩:=hr;exact⟨vs,hv,ih.2.2 ds _ (by simp at hn⊢;omega) (λm h=>hm m (by simpa only[aN]using h)) hr⟩
  ·cases ds with
   |nil=>simpa only[aQ]using hr
   |cons d ds=>
    simp only[aQ]at hr⊢;obtain⟨y,ys,hv,h1,h2,h3⟩:=hr;exact⟨y,ys,hv,h1,ih.1 d y (by simp at hn⊢;omega) (λm h=>hm m (by simp[bM,h])) h2,ih.2.1 ds ys (by simp at hn⊢;omega) (λm h=>hm m (by simp[bM,h])) h3⟩
  ·cases ds with
   |nil=>simpa only[eE]using hr
   |cons d ds=>
    simp only[eE]at hr⊢;obtain⟨y,ys,hv,h2,h3⟩:=hr;exact⟨y,ys,hv,ih.1 d y (by simp at hn⊢;omega) (λm h=>hm m (by simp[bM,h])) h2,ih.2.2 ds ys (by simp at hn⊢;omega) (λm h=>hm m (by simp[bM,h])) h3⟩
def ob_same(Co:∀b,WW W aI L b->WW W ab L b){o:Ob}(hm:∀m∈aZ o,sameAt ab aI m)(h:pL w W ab L base M r o):pL w W aI L base M r o:=by
 cases o with
 |box cs=>obtain⟨c,e,hc,hr,z7⟩:=h;exact⟨c,e,hc,(KY Co (SizeOf.sizeOf cs+1)).2.1 cs _ (by omega) hm hr,z7⟩
 |arr bD e sz av=>
  obtain⟨g1,g2,g3,g4⟩:=h;refine⟨g1,g2,g3, ?_⟩;rcases g4 with g4|⟨g,cap,cur,hv,hp,hh,k1,k2,k3,k4⟩
  ·exact .inl g4
  ·exact .inr ⟨g,cap,cur,hv,hp,hh,k1,k2,k3,bf.bi (dg.refl (WW W ab L) w).toKeepsC (λb _ hb=>Co b hb) _ _ k4⟩
 |map cj agg c es=>
  obtain⟨arr,hc,hr,k1,k2,k3,z7⟩:=h;refine⟨arr,hc, ?_,k1,k2,k3,z7⟩;have key:∀(es:List (Nat×T×DV)) (xs:List MapEntry),(∀m∈es.flatMap (λe=>aN e.2.2),sameAt ab aI m)->bJ w W ab L es xs->bJ w W aI L es xs:=by
   intro es;induction es with
   |nil=>intro xs _ h;simpa only[bJ]using h
   |cons e es ih=>
    intro xs hm h;simp only[bJ]at h⊢;obtain⟨x,lz,hx,h1,h2,h3,h4⟩:=h;exact⟨x,lz,hx,h1,bj.bi (dg.refl (WW W ab L) w).toKeepsC (λb _ hb=>Co b hb) _ _ h2,
     (KY Co (SizeOf.sizeOf e.2.2+1)).1 _ _ (by omega) (λm h=>hm m (by simp[h])) h3,ih lz (λm h=>hm m (by simp only[Zbt,Zaq];exact .inr h)) h4⟩
  exact key es _ hm hr
 |iter m s sn l=>
  obtain⟨hc,⟨a1,a2,a3,a4,Ny⟩,z7⟩:=h;obtain⟨o,o',h1,h2,h3⟩:=hm m (by simp[aZ]);rw[Ny]at h1;cases h1;cases o' with
  |map b1 b2 b3 b4=>exact⟨hc,⟨b1,b2,b3,b4,h2⟩,z7⟩
  |_=>exact h3.elim
end
def eA(ab aI:bq)(o o':Ob):Prop:=nS ab aI id o o'\/(o=o'/\∀m∈aZ o,sameAt ab aI m)
def yH{ab aI:bq}{L:Loc}{o o':Ob}(h:eA ab aI o o')(r:Nat):L.own r o'=L.own r o:=by
 rcases h with h|⟨rfl,_⟩
 ·exact vn (L:=L) h r
 ·rfl
def Le.YG{st dm:l8}(Dw:dm.low=st.low)(KQ:dm.todo=st.todo)(DY:∀r,dm.aJ<=r->dm.ab r=none)
  (gH:∀r o',dm.ab r=some o'->∃o,st.ab r=some o/\eA st.ab dm.ab o o')
  (BA:∀r,r<st.low->∀o,st.ab r=some o->∃o',dm.ab r=some o'/\jt o o')
  (ik:∀k,iL st.ab dm.ab id (st.tmps k) (dm.tmps k)):Le st dm:=by
 intro κ nt a w L h;have tD:∀r' o',dm.ab r'=some o'->∃o,st.ab (id r')=some o/\∀r,(L.DW id).own r o'=L.own (id r) o:=λr' o' h=>let⟨o,h1,h2⟩:=gH r' o' h;⟨o,h1,yH (L:=L) h2⟩
 refine⟨L,⟨?_, ?_,h.r.defers,h.r.bg,⟨_,DY⟩⟩,DY,by rw[Dw];exact h.low,by rw[Dw];exact h.it⟩
 ·obtain⟨W,base,M,w0,dP,h0⟩:=h.r.ex;have hO:=h0.o;have Co:∀b,WW W dm.ab L b->WW W st.ab L b:=λb hb=>lN (L:=L) (σ:=id) tD b hb;have cr:=λ(d d':DV) (x:Value)=>(Cu hO tD (SizeOf.sizeOf d+1)).1 d d' x (by omega);have crs:=λ(ds ds':bB) (xs:List Value)=>(Cu hO tD (SizeOf.sizeOf ds+1)).2.1 ds ds' xs (by omega);refine⟨W,base,M,w0,by rw[KQ];exact dP,h0.size,λt=>cr _ _ _ (ik t) (h0.tmps t),⟨hO.fr,λr' o' iA=>?_,λr1 r2 o1 o2 b bT h1 h2 tV fH=>?_,λr' o' b iA hb=>?_,hO.under,hO.gl.bi (dg.refl (WW W st.ab L) w).toKeepsC λb _ hb=>Co b hb⟩⟩
  ·obtain⟨o,ho,hc⟩:=gH r' o' iA;have hk:=hO.ob r' o ho;rcases hc with hc|⟨rfl,hc⟩
   ·cases o with
    |box cs=>
     cases o' with
     |box cs'=>
      obtain⟨c,e,cR,hr,hm⟩:=hk;exact⟨c,e,cR,crs cs cs' _ hc hr,hm⟩
     |_=>exact hc.elim
    |map cj agg c es=>
     cases o' with
     |map kq kr c' m0=>
      obtain⟨rfl,rfl,rfl,pP⟩:=hc;obtain⟨arr,cR,hr,k1,k2,k3,hm⟩:=hk;have key:∀(es m0:List (Nat×T×DV)) (xs:List MapEntry),jF st.ab dm.ab id es m0->bJ w W st.ab L es xs->bJ w W dm.ab L m0 xs/\m0.map (·.1)=es.map (·.1)/\m0.map (·.2.1)=es.map (·.2.1):=by
       intro es;induction es with
       |nil=>intro m0 xs h1 h2;simp only[jF]at h1;subst h1;exact⟨by simpa only[bJ]using h2,rfl,rfl⟩
       |cons e es ih=>
        intro m0 xs h1 h2;cases m0 with
        |nil=>simp[jF]at h1
        |cons e' m0=>
         simp only[jF]at h1;simp only[bJ]at h2⊢;obtain⟨x,lz,rfl,q0,q1,q2,q3⟩:=h2;obtain⟨i1,i2,i3⟩:=ih m0 lz h1.2.2.2 q3;refine⟨⟨x,lz,rfl,q0.trans h1.1, ?_,cr _ _ _ h1.2.2.1 q2,i1⟩,by simp[i2,h1.1],by simp[i3,h1.2.1]⟩;rw[<-h1.2.1];exact bj.bi (dg.refl (WW W st.ab L) w).toKeepsC (λb _ hb=>Co b hb) _ _ q1
      obtain⟨i1,i2,i3⟩:=key es m0 _ pP hr;refine⟨arr,cR,i1,λe he=>?_,λe he=>?_,by rw[i2];exact k3,hm⟩
      ·have:e.2.1∈es.map (·.2.1):=by rw[<-i3];exact Zak.2 ⟨e,he,rfl⟩
       obtain⟨e0,h0',Nz⟩:=Zak.1 this;rw[<-Nz];exact k1 e0 h0'
      ·have:e.1∈es.map (·.1):=by rw[<-i2];exact Zak.2 ⟨e,he,rfl⟩
       obtain⟨e0,h0',Nz⟩:=Zak.1 this;rw[<-Nz];exact k2 e0 h0'
     |_=>exact hc.elim
    |iter m s sn l=>
     cases o' with
     |iter m' s' sn' l'=>
      obtain⟨rfl,rfl,rfl,rfl,Ny⟩:=hc;obtain⟨cR,_,hm⟩:=hk;exact⟨cR,DU Ny,hm⟩
     |_=>exact hc.elim
    |arr bD e sz av=>
     cases o' with
     |box _=>exact hc.elim
     |map _ _ _ _=>exact hc.elim
     |iter _ _ _ _=>exact hc.elim
     |arr cg e' iG eN=>
      obtain⟨rfl,rfl,rfl⟩:=hc;obtain⟨g1,g2,g3,g4⟩:=hk;refine⟨g1,g2,g3, ?_⟩;rcases g4 with g4|⟨g,cap,cur,hv,hp,hh,k1,k2,k3,k4⟩
      ·exact .inl g4
      ·exact .inr ⟨g,cap,cur,hv,hp,hh,k1,k2,k3,bf.bi (dg.refl (WW W st.ab L) w).toKeepsC (λb _ hb=>Co b hb) _ _ k4⟩
   ·exact ob_same Co hc hk
  ·obtain⟨p1,q1,c1⟩:=gH r1 o1 h1;obtain⟨p2,q2,c2⟩:=gH r2 o2 h2;rw[yH c1]at tV;rw[yH c2]at fH;exact hO.apart r1 r2 p1 p2 b bT q1 q2 tV fH
  ·obtain⟨p1,q1,c1⟩:=gH r' o' iA;rw[yH c1]at hb;exact hO.qQ r' p1 b q1 hb
 ·have ha:gP κ.W κ.go κ.gL (κ.NC st.todo) st.ab L w:=h.r.eZ;show gP κ.W κ.go κ.gL (κ.NC dm.todo) dm.ab _ w;rw[KQ];refine⟨ha.dx,λb hb hw=>ha.sub b hb (lN (L:=L) (σ:=id) tD b hw),λr o hr hk=>?_,λr bD e sz av hr=>?_,ha.yl⟩
  ·have hlt:r<st.low:=ZbK λjy=>by rw[h.low r jy]at hr;cases hr
   obtain⟨e1,o1,sg,pJ⟩:=ha.fix r o hr hk;obtain⟨o',iA,hv⟩:=BA r hlt _ sg;exact⟨e1,o',iA,(yq hv).trans pJ⟩
  ·have hlt:r<st.low:=ZbK λjy=>by rw[h.low r jy]at hr;cases hr
   obtain⟨v1,e1,s1,r1,sg,l1,k1⟩:=ha.arr r bD e sz av hr;obtain⟨o',iA,hv⟩:=BA r hlt _ sg;cases o' with
   |box cs'=>exact hv.elim
   |map _ _ _ _=>exact hv.elim
   |iter _ _ _ _=>exact hv.elim
   |arr v2 e2 s2 r2=>
    obtain⟨rfl,rfl,h3⟩:=hv;exact⟨v1,e2,s1,r2,iA,l1,λhv=>by
     obtain⟨a1,a2,a3⟩:=k1 hv;exact⟨a1,a2,by rw[<-h3];exact a3⟩⟩
def be(o:Ob):jt o o:=by cases o<;>simp[jt]
def dN(low:Nat)(a b:bq):cV->Prop
 |[]=>True
 |(r,o)::l=>(∃o0,a r=some o0/\eA a b o0 o/\(r<low->jt o0 o))/\dN low a b l
def bK(low:Nat)(l1:cV):cV->Prop
 |[]=>True
 |(r,_)::l=>(r<low->∃o,(r,o)∈l1)/\bK low l1 l
def qX:∀{l:cV} {f:bq} {r:Nat} {o:Ob},aM l f r=some o->(r,o)∈l\/((∀o',(r,o')∉l)/\f r=some o)
 |[],_,_,_,h=>.inr ⟨λ_ h=>(by cases h),h⟩
 |(j,x)::l,f,r,o,h=>by
  simp only[aP]at h;split at h
  ·rename_i e;cases h;subst e;exact .inl (Zbl ..)
  ·rename_i bT;rcases qX h with h|⟨h1,h2⟩
   ·exact .inl (Zbg _ h)
   ·refine .inr ⟨λo' iA=>?_,h2⟩;rcases Zah.1 iA with e|iA
    ·cases e;exact bT rfl
    ·exact h1 o' iA
def fj{l:cV}(h:∀o',(r,o')∉l):aM l f r=f r:=by
 induction l with
 |nil=>rfl
 |cons p l ih=>
  obtain⟨j,x⟩:=p;rw[aP,Zab (λe=>h x (by rw[e];exact Zbl ..))];exact ih λo' iA=>h o' (Zbg _ iA)
def Cz{l:cV}{o:Ob}(h:(r,o)∈l):∃o',aM l f r=some o'/\(r,o')∈l:=by
 induction l with
 |nil=>cases h
 |cons p l ih=>
  obtain⟨j,x⟩:=p;by_cases e:r=j
  ·subst e;exact⟨x,by simp,Zbl ..⟩
  ·rcases Zah.1 h with h|h
   ·cases h;exact Zar rfl e
   ·obtain⟨o',h1,h2⟩:=ih h;exact⟨o',by rw[aP,Zab e];exact h1,Zbg _ h2⟩
def wR{low:Nat}{a b:bq}:∀{l:cV},dN low a b l->∀r o,(r,o)∈l->∃o0,a r=some o0/\eA a b o0 o/\(r<low->jt o0 o)
 |[],_,_,_,h=>by cases h
 |(j,x)::l,hk,r,o,h=>by
  rcases Zah.1 h with e|h
  ·cases e;exact hk.1
  ·exact wR hk.2 r o h
def sD{low:Nat}{l1:cV}:∀{l:cV},bK low l1 l->∀r o,(r,o)∈l->r<low->∃o,(r,o)∈l1
 |[],_,_,_,h=>by cases h
 |(j,x)::l,hk,r,o,h=>by
  rcases Zah.1 h with e|h
  ·cases e;exact hk.1
  ·exact sD hk.2 r o h
def Le.dV{tm:dw}{l0 l1:cV}{l:fA}{aJ ba:Nat}{td:List (aK)}{low:Nat}(hf:dh f low)(hn:low<=ba)(hb:oH ba l1)
  (h0:bK low l1 l0) (h1:dN low (aM l0 f) (aM l1 f) l1) (ik:fR (aM l0 f) (aM l1 f) id tm l):
  Le ⟨tm,aM l0 f,aJ,low,td⟩ ⟨look l,aM l1 f,ba,low,td⟩:=by
 have KZ:∀r,r<low->∀o,aM l0 f r=some o->∃o',aM l1 f r=some o'/\jt o o':=by
  intro r hr o ho;by_cases hin:∃o',(r,o')∈l1
  ·obtain⟨o1,KU⟩:=hin;obtain⟨o2,h2,h3⟩:=Cz (f:=f) KU;obtain⟨o0,k1,_,k3⟩:=wR h1 r o2 h3;rw[ho]at k1;cases k1;exact⟨o2,h2,k3 hr⟩
  ·have hnot:∀o',(r,o')∉l1:=λo' h=>hin ⟨o',h⟩;rcases qX ho with h|⟨_,h⟩
   ·exact Zar (sD h0 r o h hr) hin
   ·exact⟨o,by rw[fj hnot];exact h,be o⟩
 refine Le.YG rfl rfl (λr hr=>?_) (λr o' iA=>?_) (λr hr o ho=>KZ r hr o ho) (λk=>nk l ik k)
 ·cases ho:aM l1 f r with
  |none=>exact ho
  |some o=>
   rcases qX ho with h|⟨_,h⟩
   ·have:=qC hb r o h;simp only at hr;omega
   ·have:=(hf r o h).1;simp only at hr;omega
 ·rcases qX iA with h|⟨hnot,h⟩
  ·obtain⟨o0,k1,k2,_⟩:=wR h1 r o' h;exact⟨o0,k1,k2⟩
  ·obtain⟨hlt,hnm⟩:=hf r o' h;have HQ:aM l0 f r=some o':=by
    by_cases hin:∃o1,(r,o1)∈l0
    ·obtain⟨o1,KU⟩:=hin;obtain⟨o2,h2⟩:=sD h0 r o1 KU hlt;exact Zar h2 (hnot o2)
    ·rw[fj λo1 h1=>hin ⟨o1,h1⟩];exact h
   refine⟨o',HQ,.inr ⟨rfl,λm hm=>?_⟩⟩;have hm0:=hnm m hm;have hmlt:m<low:=by
    cases hfm:f m with
    |none=>exact Zar hfm hm0
    |some x=>exact(hf m x hfm).1
   have Dn:∃o,aM l0 f m=some o:=by
    by_cases hin:∃o1,(m,o1)∈l0
    ·obtain⟨o1,KU⟩:=hin;obtain⟨o2,h2,_⟩:=Cz (f:=f) KU;exact⟨o2,h2⟩
    ·rw[fj λo1 h1=>hin ⟨o1,h1⟩];exact ZbP.1 hm0
   obtain⟨o,ho⟩:=Dn;obtain⟨o2,h2,h3⟩:=KZ m hmlt o ho;exact⟨o,o2,ho,h2,h3⟩
section
variable{P:Program}
def aB.pQ{f:FuncId}{nt:Nat}{rs:List bV}(h:aB P f nt d rs){args:bB}{ab:bq}{r:fI}{N:Nat}(hN:∀r,N<=r->ab r=none)(dM:args.length<=nt)
  (k:dh ab N->aa P nt d (DK rs r) ⟨look (args.zipIdx.map λp=>(p.2,p.1)),aM [] ab,N,N,[]⟩):aR P f args ab r:=
 ⟨h.entry,λbase W M w0 w L cA hO B9=>(aB.okS h hN dM (Al (k (Au hO hN)))).run base W M w0 w L cA hO B9⟩
def yI{fn:Func}{t:Nat}{tmps:Array Value}{w:World}(hr:fn.results.toList.mapM (nQ P)=some [.da t]):(results fn tmps).run P w=.ok (tmps.getD t Go.undef) w:=by
 have h1:∃rv,fn.results.toList=[rv]/\nQ P rv=some (.da t):=by
  cases h:fn.results.toList with
  |nil=>rw[h]at hr;simp at hr
  |cons rv l=>
   rw[h]at hr;simp only[Za7,Zao,Zaj,Zad,Zaa,Za1]at hr;obtain⟨x,hx,ys,pM,rfl,rfl⟩:=hr;cases l with
   |nil=>exact⟨rv,rfl,hx⟩
   |cons y l=>simp[Zad]at pM
 obtain⟨rv,h1,h2⟩:=h1;have h3:fn.results= #[rv]:=by rw[<-Array.toArray_toList (xs:=fn.results),h1]
 cases rv with
 |tmp t'=>
  simp only[nQ,Zaa,bV.da.injEq]at h2;subst h2;have B7:(results fn tmps)=(do
   let vs<-fn.results.mapM (λrv=>((match rv with|.tmp t=>pure (tmps.getD t Go.undef)|.cell b t=>do loadVar t (<-asAddr (tmps.getD b Go.undef))):Sem Value))
   pure (if h:vs.size=1 then vs[0]else .tuple vs)):=rfl
  have hm:(fn.results.mapM (λrv=>((match rv with|.tmp t=>pure (tmps.getD t Go.undef)|.cell b t=>do loadVar t (<-asAddr (tmps.getD b Go.undef))):Sem Value))).run P w=.ok #[tmps.getD t' Go.undef] w:=by
   rw[Zcx,h1];simp
  rw[B7];simp only[Sem.run_bind,hm,Result.andThen_ok,Sem.run_pure];rfl
 |cell b t'=>
  simp only[nQ]at h2;split at h2<;>simp at h2
def finF(t e sz:Nat)(av:List (aK)):Exit->l8->Prop
 |.normal,st|.ret,st=>(st.tmps t=.aW/\av=[]/\0<sz)\/∃r bD,st.tmps t=.bA r bD/\st.ab r=some (.arr bD e sz av)
 |_,_=>False
def aB.okF{f:FuncId}{nt:Nat}{t:Nat}(h:aB P f nt d [.da t]){ts:aK}{e sz:Nat}{av:List (aK)}(dM:ts.length<=nt)(k:aa P nt d (finF t e sz av) (qy ts)):oW P f ts e sz av:=by
 have Aj:=h.entry;obtain⟨fn,hfn,rfl,h3,hr,_⟩:=h;obtain⟨c,hb,hc⟩:=Zac.1 h3;refine⟨Aj,λW w cA hW hg gQ=>?_⟩;have hl:=fN.length gQ;simp only[Za3]at hl;have uB:Ie ⟨W,λ_=>none,⟨λ_=>0,λ_=>Go.undef,0⟩,w,w.heap.size,λ_=>False,w,none,none,none⟩ fn.ntmps (qy ts) {tmps:=cA++Array.replicate (fn.ntmps-cA.size) Go.undef,defers:=[]} w ⟨λ_=>0,λ_=>Go.undef,0⟩:=by
  refine⟨⟨⟨W,w.heap.size,λ_=>False,w,⟨λ_=>rfl,rfl,rfl,rfl,rfl⟩,by simp;omega,λk=>?_,⟨Fr.refl (Zaf _),(λr o h=>by cases h),(λr r' o o' b _ h=>by cases h),(λr o b h=>by cases h),hW,hg.start⟩⟩,
   gP.cQ (dg.refl _ _),⟨[],rfl,Zb0,(λ_ h=>by cases h),λ_=>rfl⟩,λ_=>Zaf _,⟨0,λ_ _=>rfl⟩⟩,λ_ _=>rfl,λ_ _=>rfl,λh=>by cases h⟩
  simp only[qy];cases hk:ts[k]? with
  |some x=>
   obtain⟨v,hv,mQ⟩:=fN.get gQ hk;simp only[pb hv,Om,aA];refine bj.bi (dg.refl W w).toKeepsC ?_ x v mQ;rintro b hb (h|⟨r,o,h,_⟩)
   ·exact h
   ·cases h
  |none=>
   have xL:cA.size<=k:=by
    have:=ZbE.1 hk;omega
   simp only[Om,aA,oG xL]
 refine callsIn_wide.1 (callsIn_of_wp_marks (n:=0) hfn hb trivial ?_);refine wpIn_mono (k.run c hc 0 _ _ _ _ ⟨λJ hJ=>(by cases hJ),λl r s hY=>(by cases hY),λl hl=>(by cases hl)⟩ uB) ?_;rintro e' a' w' ⟨dm,L',q,r'⟩;have done:((dm.tmps t=.aW/\av=[]/\0<sz)\/∃r bD,dm.tmps t=.bA r bD/\dm.ab r=some (.arr bD e sz av))->LeavesInM Fence.wide 0 P fn a'.tmps (λe' w'=>∃v,e'=.returned v/\vO w.heap.size w w'/\Dr w.heap.size w' W e sz av v) a'.defers .returning w':=by
  intro hq;obtain⟨Ds,h1,h2,h3,_⟩:=r'.r.defers;rw[h1];refine uA (κ:=⟨W,λ_=>none,⟨λ_=>0,λ_=>Go.undef,0⟩,w,w.heap.size,λ_=>False,w,none,none,none⟩) rfl ?_ Ds a' w' L' r'.r h1 h2 h3;intro a2 w2 L2 h4;obtain⟨W',KL,M',w0',dP,h0⟩:=h4.ex;obtain⟨_,e1,e2,e3,e4⟩:=dP
  replace h0:R0 w.heap.size W (λ_=>False) w fn.ntmps dm.tmps dm.ab a2 w2 L2:=by rw[e1,e2,e3,e4]at h0;exact h0
  have fr:=h0.o.fr;refine⟨_,yI hr,_,rfl,⟨⟨fr.os,fr.tape,fr.output,fr.size,λk hk=>fr.block k hk (λx=>x)⟩,fr.drawn⟩, ?_⟩;have ht:=h0.tmps t;rcases hq with⟨hq,rfl,hsz⟩|⟨r,bD,hq,ho⟩
  ·rw[hq]at ht;simp only[aA]at ht;exact⟨hsz,λ_ h=>(by cases h),.inl ⟨rfl,ht⟩⟩
  ·rw[hq]at ht;simp only[aA]at ht;obtain⟨_,cg,e',iG,eN,iA,_,hx⟩:=ht;rw[ho]at iA;cases iA;have hx:=hx rfl;obtain⟨g1,g2,g3,g4⟩:=h0.o.ob r _ ho;refine⟨g1,g2, ?_⟩;rcases g4 with⟨h5,a,h6⟩|⟨g,cap,cur,hv,hp,hh,k1,k2,k3,k4⟩
   ·exact .inl ⟨h5,a,hx.trans h6⟩
   ·have zO:aX (L2.sl r)=some g:=by rw[hv];simp[aX,ZaJ.1 hp]
    refine .inr ⟨g,cap,cur,hx.trans hv,hp,(g3 g zO).resolve_right (λx=>x),hh,k1,k2,k3,bf.bi (dg.refl (WW W dm.ab L2) w2).toKeepsC (λb _ hb=>?_) _ _ k4⟩;rcases hb with hb|rfl
    ·exact .inl hb
    ·exact .inr ⟨r,_,ho,zO⟩
 cases e' with
 |normal=>exact done q
 |ret=>exact done q
 |_=>exact q.elim
section
variable{κ:oX}{nt:Nat}{Γ:pI}{aJ:Nat}{ro:Option Nat}{n:Nat}
def QR(aC:ay P Γ)(yb:κ.Good P){ops:Array Oper}{Q:Exit->Act->World->Prop}{l2:cO}:∀(l:cO) (rs:ai),(∀(k:Nat) (i:Nat),l[k]? =some i->∃o r,ops[i]? =some o/\rs[k]? =some r/\d9 P ops o=some (bare r))->rs.length=l.length->rs.all (l9 nt)=true->fP rs=true->
  ∀(st:RS) (a:Act) (w:World) (L:Loc),eP κ nt st a w L->kC aJ rs st->jE Γ aJ rs st->(∀a' w' L',eP κ nt (dZ Γ aJ rs st) a' w' L'->wpOpsIn (iV ro) n P ops Q l2 a' w')->wpOpsIn (iV ro) n P ops Q (l++l2) a w
 |[],rs,_,hl,_,_,st,a,w,L,h,_,_,hQ=>by
  have:rs=[]:=ZaD (by simpa using hl);subst this;exact hQ a w L h
 |i::l,[],_,hl,_,_,_,_,_,_,_,_,_,_=>by simp at hl
 |i::l,r::rs,hk,hl,d0,bT,st,a,w,L,h,hf,hok,hQ=>by
  obtain⟨o,r',ho,gD,hc⟩:=hk 0 i rfl;simp only[ZaF,Zaa]at gD;subst gD;simp only[ZcG,Zam]at d0;simp only[jE]at hok;have X7:gm r=true:=by have:=d0.1;simp only[l9,Zam]at this;exact this.1.2
  show wpOpsIn (iV ro) n P ops Q (i::(l++l2)) a w;rw[wpOpsIn_cons];refine pZ aC yb ho hc d0.1 h (hf.2 r (by simp)) hok.1 λa' w' L' h'=>?_;refine QR aC yb l rs (λk j hj=>hk (k+1) j (by simpa using hj)) (by simpa using hl) d0.2 (by simp only[fP,Zam]at bT;exact bT.2) _ a' w' L' h' ?_ hok.2 hQ;exact vh aC X7 hok.1 (sk bT) ⟨hf.1,λy hy=>hf.2 y (by simp[hy])⟩
def K0(aC:ay P Γ){t:Nat}:∀(rs:ai) (st:RS),jE Γ aJ rs st->st.ab t=none->(∀r∈rs,ut r.d=true->t≠nm aJ r)->(dZ Γ aJ rs st).ab t=none
 |[],st,_,h,_=>h
 |r::rs,st,hok,h,hn=>by
  simp only[jE]at hok;exact K0 aC rs _ hok.2 (Ah aC hok.1 h (hn r (by simp))) λr hr=>hn r (by simp[hr])
end
section
variable{nt:Nat}{Γ:pI}{Q:Exit->l8->Prop}{tm:dw}{ob:bq}{aJ low:Nat}{td:List (aK)}
def Ip{a b:ai}(h:fP (a++b)=true):fP a=true/\fP b=true/\∀x∈a,∀y∈b,pX x y=true:=by
 induction a with
 |nil=>exact⟨rfl,h,λ_ h=>by cases h⟩
 |cons r a ih=>
  simp only[ZaM,fP,Zam,List.all_append]at h⊢;obtain⟨i1,i2,i3⟩:=ih h.2;refine⟨⟨h.1.1,i1⟩,i2,λx hx y hy=>?_⟩;rcases Zah.1 hx with rfl|hx
  ·exact ZaU.1 h.1.2 y hy
  ·exact i3 x hx y hy
end
end
end
section
variable{f:Nat->Nat}
variable [bI] [dL]
def fk(f:Nat->Nat)(r:RO):RO:=⟨r.d,r.dst,r.guard,r.after,r.j5.map (·.map f)⟩
def c5(f:Nat->Nat)(rs:ai):ai:=rs.map (fk f)
def YH(hf:∀a b,f a=f b->a=b)(x y:Option (cO)):Ca (x.map (·.map f)) (y.map (·.map f))=Ca x y:=by
 cases x<;>cases y<;>simp only[Option.map_none,Za8,Ca]
 rename_i a b;rw[ZbX];simp only[List.all_map,ZaU,Function.comp_apply,bne_iff_ne,ne_eq];exact⟨λh x hx y hy e=>h x hx y hy (by rw[e]),λh x hx y hy e=>h x hx y hy (hf _ _ e)⟩
def VV(hf:∀a b,f a=f b->a=b)(x y:RO):kw (fk f x) (fk f y)=kw x y:=by
 unfold kw;rw[show(fk f x).j5=x.j5.map (·.map f)from rfl,show(fk f y).j5=y.j5.map (·.map f)from rfl,YH hf];rfl
def VW(f:Nat->Nat)(rs:ai):ng (c5 f rs)=ng rs:=by
 unfold ng c5;rw[ZcC];rfl
def D9(f:Nat->Nat):∀rs:ai,fP (c5 f rs)=fP rs
 |[]=>rfl
 |r::rs=>by
  simp only[c5,ZaA,fP,List.all_map];have:=D9 f rs;simp only[c5]at this;rw[this];rfl
def dX(hf:∀a b,f a=f b->a=b)(nt:Nat)(draw:Bool)(rs:ai):ee nt draw (c5 f rs)=ee nt draw rs:=by
 unfold ee;rw[D9,VW];have h1:(c5 f rs).all (l9 nt)=rs.all (l9 nt):=by simp only[c5,List.all_map];rfl
 have h2:vg (c5 f rs) (ng rs)=vg rs (ng rs):=by
  unfold vg;simp only[c5,Zbn,Zbx]
  congr 1
  funext i;cases rs[i]? with
  |none=>rfl
  |some y=>
   cases(ng rs)[i]? with
   |none=>rfl
   |some m=>
    simp only[Za8]
    congr 1
    congr 1
    funext x;cases rs[x]? with
    |none=>rfl
    |some r=>simp only[Za8,VV hf]
 rw[h1,h2]
def K1(b N:Nat)(n:Nat):Nat:=if n=0 then b else N+n
def VX{b N:Nat}(h:b<N)(x y:Nat)(e:K1 b N x=K1 b N y):x=y:=by
 unfold K1 at e;split at e<;>split at e<;>omega
def ky(l:cV)(r:Nat)(o:Ob):ew (cM l) r o=cM ((r,o)::l):=rfl
end
section
variable{d:DC}{rs:ai}
variable [bI] [dL]
section
variable{P:Program}{nt:Nat}{Γ:pI}{Q:Exit->l8->Prop}{st:l8}{tm:dw}{ob:bq}{aJ low:Nat}{td:List (aK)}
def aa.regionF(aC:ay P Γ)(hm:P.follows .mixedOrders=true)(hd:d=.region false (rs.map bare))(hok:ee nt false rs=true)
  (bW:jE Γ st.aJ rs ⟨st.tmps,st.ab,st.todo⟩) (hQ:Q .normal ⟨(dZ Γ st.aJ rs ⟨st.tmps,st.ab,st.todo⟩).tmps,(dZ Γ st.aJ rs ⟨st.tmps,st.ab,st.todo⟩).ab,st.aJ+nt+1,st.low,(dZ Γ st.aJ rs ⟨st.tmps,st.ab,st.todo⟩).todo⟩):
  aa P nt d Q st:=by
 refine⟨λc hc=>?_⟩;subst hd;obtain⟨id,ops,rfl,mt,hok'⟩:=o8 hc;exact sr aC hm mt hok bW hQ
def aa.Iq(aC:ay P Γ)(hm:P.follows .mixedOrders=true)(hd:d=.region false (rs.map bare))(hok:ee nt false rs=true)(ks:cO)
  (h:fc Γ aJ rs ⟨tm,ob,td⟩ λs=>Q .normal ⟨look (nR ks s.tmps),s.ab,aJ+nt+1,low,s.todo⟩):aa P nt d Q ⟨tm,ob,aJ,low,td⟩:=by
 have:=iK _ _ _ h;refine aa.yf (Q:=λe s=>e=.normal/\s=⟨(dZ Γ aJ rs ⟨tm,ob,td⟩).tmps,(dZ Γ aJ rs ⟨tm,ob,td⟩).ab,aJ+nt+1,low,(dZ Γ aJ rs ⟨tm,ob,td⟩).todo⟩) (aa.regionF aC hm hd hok (st:=⟨tm,ob,aJ,low,td⟩) this.1 ⟨rfl,rfl⟩) ?_;rintro e s ⟨rfl,rfl⟩;exact⟨_,Le.we (mG _ ks),this.2⟩
def aa.cX(aC:ay P Γ)(hm:P.follows .mixedOrders=true){b:DC}(hd:d=.region false (rs.map bare))(hok:ee nt false rs=true)(ks:cO)
  (h:fc Γ aJ rs ⟨tm,ob,td⟩ λs=>aa P nt b Q ⟨look (nR ks s.tmps),s.ab,aJ+nt+1,low,s.todo⟩):aa P nt (.seq d b) Q ⟨tm,ob,aJ,low,td⟩:=
 aa.seq (aa.Iq aC hm hd hok ks h)
end
end
end Go.DM
namespace Go.DM
open Go.RowKit
variable [bI] [dL]
section
variable{Γ:pI}{aJ:Nat}{K:RS->Prop}{rs:ai}{tm:dw}{ob:bq}{td:List (aK)}{dst:Option Nat}{d:rO}{s:Nat}{af l:cO}
@[simp] def exec_h_t(b:Bool)(h:tm s=.v (.bool b)):fc Γ aJ (⟨d,dst,some (s,b),af,some l⟩::rs) ⟨tm,ob,td⟩ K=(cP ⟨d,dst,none,af,some l⟩ tm/\(rP d=true->GL l ob (oi Γ d tm ob td).ab)/\ml Γ aJ d rs tm ob td K dst tm):=by
 simp only[fc,h,forall_const,jQ h,DN];cases b<;>simp[yh,cP]
def K2(b c:Bool)(h:tm s=.v (.bool b))(hc:b= !c):fc Γ aJ (⟨d,dst,some (s,c),af,some l⟩::rs) ⟨tm,ob,td⟩ K=fc Γ aJ rs ⟨cU tm dst .skip,ob,td⟩ K:=by
 subst hc;cases c
 ·have h:tm s=.v (.bool true):=h;simp[fc,h,jQ h]
 ·have h:tm s=.v (.bool false):=h;simp[fc,h,jQ h]
@[simp] def exec_h_tf(h:tm s=.v (.bool true)):fc Γ aJ (⟨d,dst,some (s,false),af,some l⟩::rs) ⟨tm,ob,td⟩ K=fc Γ aJ rs ⟨cU tm dst .skip,ob,td⟩ K:=K2 true false h rfl
@[simp] def exec_h_ft(h:tm s=.v (.bool false)):fc Γ aJ (⟨d,dst,some (s,true),af,some l⟩::rs) ⟨tm,ob,td⟩ K=fc Γ aJ rs ⟨cU tm dst .skip,ob,td⟩ K:=K2 false true h rfl
@[simp] def exec_h_sk{want:Bool}(h:tm s=.skip):fc Γ aJ (⟨d,dst,some (s,want),af,some l⟩::rs) ⟨tm,ob,td⟩ K=fc Γ aJ rs ⟨cU tm dst .skip,ob,td⟩ K:=by
 simp only[fc,h]
end
end Go.DM
namespace Go.DM
open Go.RowKit
section
variable{cs:bB}{av:List (aK)}{sz:Nat}
variable [bI] [dL]
def YI{base:Nat}{W M:fo}{w0 w:World}{o1:bq}{L1:Loc}(wi:ct base W M w0 o1 w L1){r k:Nat}{d:DV}(sg:o1 r=some (.box cs))
  (hd:∀c f xs,w.heap[L1.blk r]? =some (.cells c f (0,0))->c.toList=xs->∀x,xs[k]? =some x->gP W o1 L1 w (ew o1 r (.box (cs.set k d))) L1 w->aA w W (ew o1 r (.box (cs.set k d))) L1 d x):
  ct base W M w0 (ew o1 r (.box (cs.set k d))) w L1/\gP W o1 L1 w (ew o1 r (.box (cs.set k d))) L1 w:=by
 have Co:∀{V:fo} b,WW V (ew o1 r (.box (cs.set k d))) L1 b->WW V o1 L1 b:=by
  intro V b hb;rcases hb with hb|⟨r',o,gD,hb⟩
  ·exact .inl hb
  ·rcases fq gD with⟨rfl,rfl⟩|⟨_,gD⟩
   ·exact .inr ⟨r',_,sg,hb⟩
   ·exact .inr ⟨r',o,gD,hb⟩
 have tC:gP W o1 L1 w (ew o1 r (.box (cs.set k d))) L1 w:=by
  refine⟨dg.refl _ _,λb _ h=>Co b h,λr' o' gD tU=>?_,λr' bD e' iG av gD=>?_,rfl⟩
  ·by_cases he:r'=r
   ·subst he;rw[sg]at gD;cases gD;exact⟨rfl,.box (cs.set k d),by simp[ew],rfl⟩
   ·exact⟨rfl,o',mS he gD,rfl⟩
  ·have he:r'≠r:=λhe=>by rw[he,sg]at gD;cases gD
   exact⟨bD,e',iG,av,mS he gD,Zaf _,λ_=>⟨rfl,rfl,rfl⟩⟩
 refine⟨⟨wi.fr,λr' o gD=>?_,λp p' o o' b bT h1 h2 hb=>?_,λp o b hp hb=>?_,wi.under,wi.gl.bi tC.dx.toKeepsC tC.sub⟩,tC⟩
 ·rcases fq gD with⟨rfl,rfl⟩|⟨bT,gD⟩
  ·obtain⟨c,f,cR,gQ,hm⟩:=wi.ob r' _ sg;exact⟨c,f,cR,Am _ _ _ _ (aQ.eZ tC _ _ gQ) λy hy=>hd c f _ cR rfl y hy tC,hm⟩
  ·have tU:=wi.ob r' o gD;cases o with
   |box cs'=>
    obtain⟨c',f',D3,D4,HP⟩:=tU;exact⟨c',f',D3,aQ.eZ tC cs' _ D4,HP⟩
   |map cj agg c es=>
    obtain⟨arr,D3,D4,q1,q2,q3,HP⟩:=tU;exact⟨arr,D3,bJ.eZ tC es _ D4,q1,q2,q3,HP⟩
   |iter m s sn l=>
    obtain⟨D3,Ny,HP⟩:=tU;exact⟨D3,(tC.mp m Ny).2,HP⟩
   |arr bD e' iG av=>
    obtain⟨g1,g2,g3,g4⟩:=tU;refine⟨g1,g2,g3, ?_⟩;rcases g4 with g4|⟨g,cap,cur,hv,hp,hh,k1,k2,k3,k4⟩
    ·exact .inl g4
    ·exact .inr ⟨g,cap,cur,hv,hp,hh,k1,k2,k3,bf.bi (dg.refl (WW W o1 L1) w).toKeepsC (λb _ hb=>Co b hb) _ _ k4⟩
 ·have key:∀{p o},ew o1 r (.box (cs.set k d)) p=some o->∃o2,o1 p=some o2/\L1.own p o=L1.own p o2:=by
   intro p o hp;rcases fq hp with⟨rfl,rfl⟩|⟨_,hp⟩
   ·exact⟨_,sg,rfl⟩
   ·exact⟨o,hp,rfl⟩
  obtain⟨x1,y1,z1⟩:=key h1;obtain⟨x2,y2,z2⟩:=key h2;rw[z1]at hb;rw[z2];exact wi.apart p p' x1 x2 b bT y1 y2 hb
 ·rcases fq hp with⟨rfl,rfl⟩|⟨_,hp⟩
  ·exact wi.qQ p _ b sg hb
  ·exact wi.qQ p o b hp hb
def VY{n:Nat}(h:∀x∈av,x.length=sz):(av.take n).flatten=av.flatten.take (n*sz):=by
 induction av generalizing n with
 |nil=>simp
 |cons r rs ih=>
  cases n with
  |zero=>simp
  |succ n=>
   have hr:r.length=sz:=h r (by simp);have e1:r.take ((n+1)*sz)=r:=ZaX (by rw[hr,Nat.add_mul];omega);have e2:(n+1)*sz-sz=n*sz:=by rw[Nat.add_mul];omega
   rw[Zcf,Zbu,Zbu,Zc1,hr,e1,e2,ih λx hx=>h x (by simp[hx])]
def Le.cut{tm:dw}{ob:bq}{aJ low:Nat}{td:List (aK)}(r:Nat)(k:Nat){q bD n e:Nat}(hr:ob r=some (.box cs))(hk:cs[k]? =some (.u9 q bD 0 n))
  (hq:ob q=some (.arr bD e sz av)):
  Le ⟨tm,ob,aJ,low,td⟩ ⟨tm,ew (ew ob q (.arr (bD+1) e sz (av.take n))) r (.box (cs.set k (.bA q (bD+1)))),aJ,low,td⟩:=by
 intro κ nt a w L h;have hrq:r≠q:=λe=>by rw[e,hq]at hr;cases hr
 obtain⟨W,base,M,w0,dP,h0⟩:=h.r.ex;have hO:=h0.o;obtain⟨c,f,cR,gQ,hm⟩:=hO.ob r _ hr;obtain⟨x,hx⟩:=wP _ _ _ _ gQ hk;have Ga:=An _ _ _ _ _ gQ hk hx;simp only[aA]at Ga;obtain⟨_,cg,e',iG,eN,iA,_,hv⟩:=Ga;rw[hq]at iA;cases iA;obtain⟨Kp,p,cap,p2,vP,Qy,Qu⟩:=hv rfl;simp only[Zcb,ZcK,Zbi]at Kp Qy Qu;obtain⟨hsz,dM,zO,hal⟩:=hO.ob q _ hq;have sc:aX (L.sl q)=aX x:=by
  rw[vP,Qy];by_cases h0:cap=0
  ·subst h0;cases p<;>cases p2<;>simp[aX]
  ·rw[Qu (by omega)];cases p<;>simp[aX,h0,Addr.add]
 have step:∃xs,bf w (WW W ob L) (av.take n).flatten xs/\(((av.take n).length+([]:List (aK)).length=0/\∃a:Option Addr,x=.slice a 0 0)\/∃g cap cur,x=.slice (some ⟨g,0,none⟩) ((av.take n).length+([]:List (aK)).length) cap/\0<cap/\w.heap[g]? =some (.cells cur e (0,0))/\(av.take n).length+([]:List (aK)).length<=cap/\cap<=maxLen/\cur.size=cap*sz/\
     cur.toList.take (((av.take n).length+([]:List (aK)).length)*sz)=xs++[]):=by
  have hl:(av.take n).length=n:=by rw[ZaB];omega
  rcases hal with⟨rfl,a0,ha0⟩|⟨g,cap',cur,h1,h2,h3,h4,h5,h6,h7⟩
  ·simp only[Zcj]at Kp;obtain rfl:n=0:=by omega
   rw[vP]at ha0;simp only[Value.slice.injEq]at ha0;obtain⟨rfl,_,rfl⟩:=ha0;exact⟨[],by simp[bf],.inl ⟨by simp,p2,by rw[Qy]⟩⟩
  ·rw[vP]at h1;simp only[Value.slice.injEq]at h1;obtain⟨rfl,_,rfl⟩:=h1;have:=Qu h2;subst this;refine⟨cur.toList.take (n*sz), ?_,.inr ⟨g,cap,cur,by rw[Qy,hl];simp[Addr.add],h2,h3,by simp only[hl,Zcj];omega,h5,h6,by rw[hl];simp⟩⟩;rw[VY dM];have:=bf.take (n*sz) h7;rw[ZcS,Zc9 (Zbk _ Kp)]at this;exact this
 obtain⟨xs,hxs,ub⟩:=step;obtain⟨wi,hA⟩:=sd (ys:=[]) (av:=av.take n) (cg:=bD+1) (v:=x) (v':=x) (w':=w) (vs:=[]) hO hsz (λy hy=>dM y (by simp only[ZaC]at hy;exact ZaE hy)) (.inr ⟨hq,sc,by omega⟩) hxs (by simp[bf]) ub
  ⟨rfl,rfl,rfl,Zaf _,λ_ _ _=>rfl⟩ (λb hb=>.inl hb) (Zaf _)
 simp only[ZaC]at wi hA;obtain⟨o1,KU⟩:=bb (ew ob q (.arr (bD+1) e sz (av.take n)));have oV:cG ob (some (q,.arr (bD+1) e sz (av.take n)))=o1:=KU;rw[oV]at wi hA;obtain⟨L1,VR⟩:=bb (L.iS q x);rw[VR]at wi hA;have sg:o1 r=some (.box cs):=by rw[<-KU];exact mS hrq hr
 have hq1:o1 q=some (.arr (bD+1) e sz (av.take n)):=by rw[<-KU];simp[ew]
 obtain⟨NE,tC⟩:=YI (k:=k) (d:=.bA q (bD+1)) wi sg (λc' f' lz Xb mh y hy tC=>by
  have hb:L1.blk r=L.blk r:=by rw[<-VR];rfl
  rw[hb,cR]at Xb;cases Xb;rw[<-mh,hx]at hy;cases hy;simp only[aA];refine⟨⟨_,_,_,Qy⟩,bD+1,e,sz,av.take n,mS (Ne.symm hrq) hq1,Zaf _,λ_=>?_⟩;rw[<-VR];simp[Loc.iS])
 have wJ:=dP.sub;have xK:∀r',aJ<=r'->ew o1 r (.box (cs.set k (.bA q (bD+1)))) r'=none:=λr' gD=>by
  have hn:=h.fresh r' gD;simp only at hn;have e1:r'≠r:=λe=>by rw[e,hr]at hn;cases hn
  have e2:r'≠q:=λe=>by rw[e,hq]at hn;cases hn
  rw[<-KU];simp only[ew];rw[Zab e1,Zab e2];exact hn
 rw[KU];exact⟨L1,⟨⟨W,base,M,w0,dP,h0.size,λt=>aA.eZ tC _ _ (aA.eZ hA _ _ (h0.tmps t)),NE⟩,gP.comp (gP.comp h.r.eZ hA (dP.H3 _) wJ.2) tC (dP.H3 _) wJ.2,h.r.defers,h.r.bg,⟨_,xK⟩⟩,xK,h.low,h.it⟩
end
section
variable{f:FuncId}{N':Nat}
variable [bI] [dL]
section
variable{P:Program}
structure sE(P:Program)(f:FuncId)(args:bB)(ab:bq)(N N':Nat)(Post:DV->bq->Prop):Prop where
 entry:Dq P f
 le:N<=N'
 none:∀val aI,Post val aI->(∀r,r<N->ab r=none->aI r=none)/\∀r,N'<=r->aI r=none
 run:∀(base:Nat) (W M:fo) (w0 w:World) (L:Loc) (cA:Array Value),ct base W M w0 ab w L->jD w W ab L args cA.toList->
  Calls P f cA w λe w'=>∃v L' val aI,e=.returned v/\Post val aI/\ct base W M w0 aI w' L'/\gP W ab L w aI L' w'/\aA w' W aI L' val v
def finN(t:Nat)(Post:DV->bq->Prop):Exit->l8->Prop
 |.normal,st|.ret,st=>Post (st.tmps t) st.ab
 |_,_=>False
def aB.YJ{nt:Nat}{d:DC}{t:Nat}(h:aB P f nt d [.da t]){args:bB}{ab:bq}{Post:DV->bq->Prop}{N:Nat}(hN:∀r,N<=r->ab r=none)(dM:args.length<=nt)
   (jy:N<=N') (mi:∀val aI,Post val aI->(∀r,r<N->ab r=none->aI r=none)/\∀r,N'<=r->aI r=none)
  (k:dh ab N->aa P nt d (finN t Post) ⟨look (args.zipIdx.map λp=>(p.2,p.1)),aM [] ab,N,N,[]⟩):sE P f args ab N N' Post:=by
 have Aj:=h.entry;obtain⟨fn,hfn,rfl,h3,hr,_⟩:=h;obtain⟨c,hb,hc⟩:=Zac.1 h3;refine⟨Aj,jy,mi,λbase W M w0 w L cA hO B9=>?_⟩;have k:=Al (k (Au hO hN));have hl:=B9.1;simp only[Za3]at hl;have uB:Ie ⟨W,ab,L,w,base,M,w0,none,none,none⟩ fn.ntmps (wd args ab N) {tmps:=cA++Array.replicate (fn.ntmps-cA.size) Go.undef,defers:=[]} w L:=by
  refine⟨⟨⟨W,base,M,w0,⟨λ_=>rfl,rfl,rfl,rfl,rfl⟩,by simp;omega,λk=>?_,hO⟩,
   gP.cQ (dg.refl _ _),⟨[],rfl,Zb0,(λ_ h=>by cases h),λ_=>rfl⟩,λ_=>ZaP hO.fr.jq hO.fr.size,⟨N,hN⟩⟩,hN,hN,λh=>by cases h⟩
  simp only[wd];cases hk:args[k]? with
  |some x=>
   have hv:∃v,cA.toList[k]? =some v:=by
    have:k<cA.size:=by rw[hl];exact(Zaw.1 hk).1
    exact⟨cA[k],by simp[this]⟩
   obtain⟨v,hv⟩:=hv;simp only[pb hv,Cc];exact B9.2 k x v hk hv
  |none=>
   have xL:cA.size<=k:=by
    have:=ZbE.1 hk;omega
   simp only[Cc,aA,oG xL]
 refine callsIn_wide.1 (callsIn_of_wp_marks (n:=0) hfn hb trivial ?_);refine wpIn_mono (k.run c hc 0 _ _ _ _ ⟨λJ hJ=>(by cases hJ),λl r s hY=>(by cases hY),λl hl=>(by cases hl)⟩ uB) ?_;rintro e a' w' ⟨dm,L',q,r'⟩;have done:Post (dm.tmps t) dm.ab->LeavesInM Fence.wide 0 P fn a'.tmps (λe w'=>∃v L' val aI,e=.returned v/\Post val aI/\ct base W M w0 aI w' L'/\gP W ab L w aI L' w'/\aA w' W aI L' val v) a'.defers .returning w':=by
  intro Xh;obtain⟨Ds,h1,h2,h3,_⟩:=r'.r.defers;rw[h1];refine uA (κ:=⟨W,ab,L,w,base,M,w0,none,none,none⟩) rfl ?_ Ds a' w' L' r'.r h1 h2 h3;intro a2 w2 L2 h4;obtain⟨W',KL,M',w0',dP,h0⟩:=h4.ex;obtain⟨_,e1,e2,e3,e4⟩:=dP
  replace h0:R0 base W M w0 fn.ntmps dm.tmps dm.ab a2 w2 L2:=by rw[e1,e2,e3,e4]at h0;exact h0
  exact⟨_,yI hr,_,L2,dm.tmps t,dm.ab,rfl,Xh,h0.o,h4.eZ,h0.tmps t⟩
 cases e with
 |normal=>exact done q
 |ret=>exact done q
 |_=>exact q.elim
section
variable{nt:Nat}{Γ:pI}{Q:Exit->l8->Prop}{tm:dw}{ob:bq}{aJ low:Nat}{td:List (aK)}
def aa.YK(aC:ay P Γ){rs pre post:ai}{args:List bQ}{dst:Option Nat}{af:cO}(ks:cO)(mt:rs=pre++⟨.call f args,dst,none,af,none⟩::post)
  (h:fc Γ aJ pre ⟨tm,ob,td⟩ λs=>∃Post,((∀r,aJ+nt+1<=r->s.ab r=none)->sE P f (args.map (·.ev s.tmps)) s.ab (aJ+nt+1) N' Post)/\
   ∀val nJ,Post val nJ->fc Γ aJ post ⟨cU s.tmps dst val,nJ,s.todo⟩ λs'=>Q .normal ⟨look (nR ks s'.tmps),s'.ab,N',low,s'.todo⟩):
  aa P nt (.region false rs) Q ⟨tm,ob,aJ,low,td⟩:=by
 refine⟨λc hc=>?_⟩;obtain⟨id,ops,rfl,oj,hok⟩:=o8 hc;have hcs':fO P ops=some (rs.map bare):=by rw[tr oj];exact oj
 have hg:=lL hcs';simp only[ee,Zam]at hok;obtain⟨⟨d0,bT⟩,_⟩:=hok;subst mt;rw[List.all_append,ZcG]at d0;simp only[Zam]at d0;obtain⟨QS,nP,YL⟩:=d0;obtain⟨hne1,hne2,hne12⟩:=Ip bT;have Dn:=iK _ _ _ h;obtain⟨YM,Post,aT,hpost⟩:=Dn;intro n κ Xg w L g r;refine wpIn_region ?_;have hsz:ops.size=pre.length+(post.length+1):=by have:=hg.1;simp at this;omega
 have hname:∀x:RO,∃k,nm aJ x=aJ+k:=λx=>by
  unfold nm bN;cases x.dst with
  |none=>exact⟨0,rfl⟩
  |some d=>exact⟨d+1,by simp only[Nat.add_assoc]⟩
 have wS:∀t,aJ<=t->ob t=none:=λt ht=>r.fresh t ht;have hf1:kC aJ pre ⟨tm,ob,td⟩:=⟨wS aJ (Zaf _),λx _=>by obtain⟨k,hk⟩:=hname x;rw[hk];exact wS _ (by omega)⟩;have hrange:List.range ops.size=List.range pre.length++(pre.length::List.range' (pre.length+1) post.length):=by
  rw[hsz,range_split (i:=pre.length) (by omega)]
  congr 2
  congr 1
  omega
 rw[hrange];refine QR aC g (List.range pre.length) pre (λk i hi=>?_) (by simp) QS hne1 ⟨tm,ob,td⟩ Xg w L r.r hf1 YM ?_
 ·obtain⟨hk,HV⟩:=Zaw.1 hi;simp only[Zb5]at hk;simp only[ZbS]at HV;subst HV;obtain⟨r,h1,h2⟩:=hg.2 k ops[k] (by simp[show k<ops.size by omega]);rw[Zbc hk]at h1;exact⟨ops[k],r,by simp[show k<ops.size by omega],h1,h2⟩
 intro a1 w1 L1 R1;obtain⟨s1,J4⟩:=bb (dZ Γ aJ pre ⟨tm,ob,td⟩);have hno1:∀t,ob t=none->(∀r∈pre,ut r.d=true->t≠nm aJ r)->s1.ab t=none:=λt ht hn=>by rw[<-J4];exact K0 aC pre _ YM ht hn
 rw[J4]at R1 aT hpost;obtain⟨r',h1,hco⟩:=hg.2 pre.length ops[pre.length] (by simp[show pre.length<ops.size by omega]);rw[Za9 (Zaf _)]at h1;simp only[Zcp,ZaF,Zaa]at h1;subst h1;obtain⟨hd,hgd,kv,_⟩:=fQ hco;rw[wpOpsIn_cons,wpOpIn];simp only[show ops[pre.length]? =some ops[pre.length]by simp[show pre.length<ops.size by omega]];rw[Ag (b:=true) hgd R1 rfl];simp only[if_true];refine⟨mC _ w1 _, ?_⟩;have hd':dz P ops[pre.length]=some (.call f args):=hd;have yd:∀c,ops[pre.length].op≠ .defer c:=nL hd';rw[show(iV κ.ro).round=κ.ro from rfl,Oper.semAt_eq κ.ro _ _ yd];obtain⟨c,ho,cR⟩:=fz hd' (.inl ⟨f,args,rfl⟩);obtain⟨fn,jx,hfn,X8,Bv,pM⟩:=kX cR;have bW:=jO (P:=P) (w:=w1) (a:=a1) (g:=f) (bY:= #[]) ho (λx hx=>by rw[jx]at hx;cases hx;rfl) ⟨_,jx⟩ ⟨fn,hfn,X8,Bv⟩;rw[ZbJ]at bW;rw[bW,Oper.uponIn_enter];refine⟨λhx=>(by cases hx),eQ ?_⟩;obtain⟨W,base,M,w0,dP,h0⟩:=R1.ex;have hN1:∀r,aJ+nt+1<=r->s1.ab r=none:=λt ht=>by rw[<-J4];exact yg aC pre QS _ YM t ht (wS t (by omega))
 have aT:=aT hN1;refine(aT.run base W M w0 w1 L1 (c.args.map a1.eval) h0.o (by simpa using gk h0.o.gl h0.tmps pM)).mono ?_;rintro e w2 ⟨v,L2,val,Xi,rfl,hP,NE,tC,mQ⟩;have QT:∀d,dst=some d->d<nt:=by
  intro d hd;have:=nP;subst hd;simp only[l9,Zam,Zau]at this;exact this.2
 have R2:=eP.put R1 dP h0 dst QT NE tC mQ ⟨N',(aT.none val Xi hP).2⟩;show wpOpsIn (iV κ.ro) n P ops _ (List.range' (pre.length+1) post.length) (a1.put ops[pre.length].dst v) w2;have QU:dst=ops[pre.length].dst:=kv;rw[<-QU];have hex2:=iK _ _ _ (hpost val Xi hP);obtain⟨QG,hQ2⟩:=hex2;have hpre_ne:∀r∈pre,ut r.d=true->∀y∈post,nm aJ y≠nm aJ r:=by
  intro r hr hl y hy e;have hn:=hne12 r hr y (by simp[hy]);have hlr:=ZaU.1 QS r hr;simp only[l9,Zam]at hlr;have p0:r.dst.isSome=true:=by simpa [gm,hl]using hlr.1.2
  obtain⟨d,hd⟩:=Zbp.1 p0;cases hyd:y.dst with
  |none=>simp[nm,bN,hd,hyd]at e;omega
  |some d'=>
   simp only[pX,hd,hyd,bne_iff_ne,ne_eq]at hn;simp only[nm,bN,hd,hyd]at e;omega
 have Dw:∀y∈post,nm aJ y<aJ+nt+1:=by
  intro y hy;have hly:=ZaU.1 YL y hy;simp only[l9,Zam]at hly;unfold nm bN;cases hyd:y.dst with
  |none=>simp only;omega
  |some d=>
   have:=hly.2;rw[hyd]at this;simp only[Zau]at this;simp only;omega
 have hf2:kC aJ post ⟨cU s1.tmps dst val,Xi,s1.todo⟩:=by
  refine⟨(aT.none val Xi hP).1 _ (by omega) (hno1 aJ (wS _ (Zaf _)) λr hr hl e=>?_),λy hy=>(aT.none val Xi hP).1 _ (Dw y hy) (hno1 _ ?_ λr hr hl=>hpre_ne r hr hl y hy)⟩
  ·have hlr:=ZaU.1 QS r hr;simp only[l9,Zam]at hlr;have p0:r.dst.isSome=true:=by simpa [gm,hl]using hlr.1.2
   obtain⟨d,hd⟩:=Zbp.1 p0;simp[nm,bN,hd]at e;omega
  ·obtain⟨k,hk⟩:=hname y;rw[hk];exact wS _ (by omega)
 have hne3:fP post=true:=by simp only[fP,Zam]at hne2;exact hne2.2
 refine ux aC g (List.range' (pre.length+1) post.length) post (λk i hi=>?_) (by simp) YL hne3 _ _ w2 L2 R2 hf2 QG λa3 w3 L3 R3=>?_
 ·obtain⟨hk,HV⟩:=Zaw.1 hi;simp only[List.length_range']at hk;simp only[List.getElem_range',Nat.one_mul]at HV;subst HV;obtain⟨r,h1,h2⟩:=hg.2 (pre.length+1+k) ops[pre.length+1+k] (by simp[show pre.length+1+k<ops.size by omega]);rw[Za9 (by omega),show pre.length+1+k-pre.length=k+1 by omega,Zbb]at h1;exact⟨ops[pre.length+1+k],r,by simp[show pre.length+1+k<ops.size by omega],h1,h2⟩
 ·have xK:∀t,N'<=t->(dZ Γ aJ post ⟨cU s1.tmps dst val,Xi,s1.todo⟩).ab t=none:=by
   intro t ht;exact yg aC post YL _ QG t (ZaP aT.le ht) ((aT.none val Xi hP).2 t ht)
  obtain⟨L4,R4⟩:=Le.we (st:=⟨(dZ Γ aJ post ⟨cU s1.tmps dst val,Xi,s1.todo⟩).tmps,(dZ Γ aJ post ⟨cU s1.tmps dst val,Xi,s1.todo⟩).ab,N',low,(dZ Γ aJ post ⟨cU s1.tmps dst val,Xi,s1.todo⟩).todo⟩) (mG _ ks) κ nt a3 w3 L3 ⟨R3,xK,r.low,r.it⟩;exact⟨_,L4,hQ2,R4⟩
end
end
end
end Go.DM
namespace Go.DM
open Go.RowKit
variable [bI] [dL]
section
variable{P:Program}{nt:Nat}{Γ:pI}{κ:oX}{ro:Option Nat}{n:Nat}
def OF(yb:κ.Good P){ops:Array Oper}{i:Nat}{o:Oper}{f:FuncId}{args:List bQ}{dst:Option Nat}{af:cO}(hi:ops[i]? =some o)(hco:d9 P ops o=some ⟨.call f args,dst,none,af,none⟩)(nP:l9 nt ⟨.call f args,dst,none,af,none⟩=true)
  {s1:RS} {a1:Act} {w1:World} {L1:Loc} (R1:eP κ nt s1 a1 w1 L1) {N N':Nat} {Post:DV->bq->Prop} (aT:sE P f (args.map (·.ev s1.tmps)) s1.ab N N' Post) {K:Act->World->Prop} {Q:Exit->Act->World->Prop}
  (hK:∀a' w' L' val nJ,Post val nJ->eP κ nt ⟨cU s1.tmps dst val,nJ,s1.todo⟩ a' w' L'->K a' w'):wpOpIn (iV κ.ro) n P ops Q i K a1 w1:=by
 obtain⟨hd,hgd,kv,_⟩:=fQ (r:=⟨.call f args,dst,none,af,none⟩) hco;rw[wpOpIn];simp only[hi];rw[Ag (b:=true) hgd R1 rfl];simp only[if_true];refine⟨mC _ w1 _, ?_⟩;have hd':dz P o=some (.call f args):=hd;have yd:∀c,o.op≠ .defer c:=nL hd';rw[show(iV κ.ro).round=κ.ro from rfl,Oper.semAt_eq κ.ro _ _ yd];obtain⟨c,ho,cR⟩:=fz hd' (.inl ⟨f,args,rfl⟩);obtain⟨fn,jx,hfn,X8,Bv,pM⟩:=kX cR;have bW:=jO (P:=P) (w:=w1) (a:=a1) (g:=f) (bY:= #[]) ho (λx hx=>by rw[jx]at hx;cases hx;rfl) ⟨_,jx⟩ ⟨fn,hfn,X8,Bv⟩;rw[ZbJ]at bW;rw[bW,Oper.uponIn_enter];refine⟨λhx=>(by cases hx),eQ ?_⟩;obtain⟨W,base,M,w0,dP,h0⟩:=R1.ex;refine(aT.run base W M w0 w1 L1 (c.args.map a1.eval) h0.o (by simpa using gk h0.o.gl h0.tmps pM)).mono ?_;rintro e w2 ⟨v,L2,val,Xi,rfl,hP,NE,tC,mQ⟩;have QT:∀d,dst=some d->d<nt:=by
  intro d hd;have:=nP;subst hd;simp only[l9,Zam,Zau]at this;exact this.2
 have R2:=eP.put R1 dP h0 dst QT NE tC mQ ⟨N',(aT.none val Xi hP).2⟩;have QU:dst=o.dst:=kv;rw[QU]at R2;rw[QU]at hK;exact hK _ _ _ _ _ hP R2
end
section
variable{P:Program}{nt:Nat}{Γ:pI}{Q:Exit->l8->Prop}{tm:dw}{ob:bq}{aJ low:Nat}{td:List (aK)}
def YN{a:Array Bool}{i:Nat}(h:i<a.size)(d e:Bool):a.getD i d=a.getD i e:=by
 rw[ZaH,ZaH];simp[h]
end
end Go.DM
namespace Go.DM.Ve
section
variable{α:Type}(lt:α->α->Bool)
structure SWO:Prop where
 irrefl:∀x,lt x x=false
 trans:∀x y z,lt x y=true->lt y z=true->lt x z=true
 ntrans:∀x y z,lt x y=false->lt y z=false->lt x z=false
def wB(l:List α):Prop:=l.Pairwise λa b=>lt b a=false
def rR(x y:α):Bool:= !lt x y&& !lt y x
def qM(x:α):List α->List α
 |[]=>[x]
 |y::ys=>if lt x y then y::qM x ys else x::y::ys
def C7(l:List α):List α:=l.foldl (λfX x=>qM lt x fX) []
def kj(l:List α):List α:=(C7 lt l).reverse
variable{lt}
def SWO.asymm(h:SWO lt){x y:α}(h1:lt x y=true):lt y x=false:=by
 cases h2:lt y x with
 |false=>rfl
 |true=>have:=h.trans x y x h1 h2;rw[h.irrefl]at this;cases this
def D2(x:α):∀(l:List α) (z:α),z∈qM lt x l↔z=x\/z∈l
 |[],z=>by simp[qM]
 |y::ys,z=>by
  simp only[qM];split
  ·simp only[Zah,D2 x ys z];constructor
   ·rintro(h|h|h)<;>simp[h]
   ·rintro(h|h|h)<;>simp[h]
  ·simp
def BE(h:SWO lt)(x:α):∀l:List α,l.Pairwise (λa b=>lt a b=false)->(qM lt x l).Pairwise λa b=>lt a b=false
 |[],_=>by simp[qM]
 |y::ys,hs=>by
  simp only[qM];rw[Za0]at hs;split
  ·rename_i hxy;rw[Za0];refine⟨λz hz=>?_,BE h x ys hs.2⟩;rcases(D2 x ys z).1 hz with rfl|hz
   ·exact h.asymm hxy
   ·exact hs.1 z hz
  ·rename_i hxy;have hxy:lt x y=false:=by simpa using hxy
   rw[Za0];refine⟨λz hz=>?_,Za0.2 hs⟩;rcases Zah.1 hz with rfl|hz
   ·exact hxy
   ·exact h.ntrans x y z hxy (hs.1 z hz)
def BF(h:SWO lt)(x z:α):∀l:List α,(qM lt x l).filter (rR lt z)=(if rR lt z x then x::l.filter (rR lt z)else l.filter (rR lt z))
 |[]=>by simp[qM,Za4]
 |y::ys=>by
  simp only[qM];split
  ·rename_i hxy;rw[Za4,BF h x z ys];have hn:rR lt z x=true->rR lt z y=false:=by
    intro hx;simp only[rR,Zam,Zbf]at hx;cases hy:rR lt z y with
    |false=>rfl
    |true=>
     simp only[rR,Zam,Zbf]at hy;have:=h.ntrans x z y hx.2 hy.1;rw[hxy]at this;cases this
   by_cases hzx:rR lt z x=true
   ·simp[hzx,hn hzx]
   ·simp only[Zc3]at hzx;simp[hzx,Za4]
  ·rw[Za4]
def yx(h:SWO lt):∀(l fX:List α),fX.Pairwise (λa b=>lt a b=false)->(l.foldl (λfX x=>qM lt x fX) fX).Pairwise λa b=>lt a b=false
 |[],fX,ha=>ha
 |x::l,fX,ha=>yx h l _ (BE h x fX ha)
def lO(h:SWO lt)(z:α):∀(l fX:List α),(l.foldl (λfX x=>qM lt x fX) fX).filter (rR lt z)=(l.filter (rR lt z)).reverse++fX.filter (rR lt z)
 |[],fX=>by simp
 |x::l,fX=>by
  rw[ZaN,lO h z l,BF h];by_cases hx:rR lt z x=true
  ·simp[hx]
  ·simp only[Zc3]at hx;simp[hx]
def rY(h:SWO lt)(l:List α):wB lt (kj lt l):=by
 unfold wB kj;rw[List.pairwise_reverse];exact yx h l [] List.Pairwise.nil
def yy(h:SWO lt)(z:α)(l:List α):(kj lt l).filter (rR lt z)=l.filter (rR lt z):=by
 unfold kj C7;rw[List.filter_reverse,lO h z];simp
def uE(h:SWO lt)(x:α):rR lt x x=true:=by simp[rR,h.irrefl]
def GO:∀(l fX:List α) (z:α),z∈l.foldl (λfX x=>qM lt x fX) fX↔z∈l\/z∈fX
 |[],fX,z=>by simp
 |x::l,fX,z=>by
  rw[ZaN,GO l,D2];simp only[Zah];constructor
  ·rintro(h|h|h)<;>simp[h]
  ·rintro((h|h)|h)<;>simp[h]
@[simp] def u6(l:List α)(z:α):z∈kj lt l↔z∈l:=by simp[kj,C7,GO]
def BG(x:α):∀l:List α,(qM lt x l).length=l.length+1
 |[]=>rfl
 |y::ys=>by simp only[qM];split<;>simp[BG x ys]
def yz:∀l fX:List α,(l.foldl (λfX x=>qM lt x fX) fX).length=l.length+fX.length
 |[],fX=>by simp
 |x::l,fX=>by rw[ZaN,yz l,BG];simp;omega
@[simp] def xT(l:List α):(kj lt l).length=l.length:=by simp[kj,C7,yz]
def wh(h:SWO lt):∀(l1 l2:List α),wB lt l1->wB lt l2->(∀x,l1.filter (rR lt x)=l2.filter (rR lt x))->l1=l2
 |[],[],_,_,_=>rfl
 |[],b::t,_,_,hf=>by
  have:=hf b;simp[Za4,uE h]at this
 |a::t,[],_,_,hf=>by
  have:=hf a;simp[Za4,uE h]at this
 |a::t1,b::t2,s1,s2,hf=>by
  have s1':=Za0.1 s1;have s2':=Za0.1 s2;have hab:lt b a=false:=by
   have:b∈a::t1:=by
    have:b∈(a::t1).filter (rR lt b):=by rw[hf b];simp[uE h]
    exact(Zbj.1 this).1
   rcases Zah.1 this with rfl|hm
   ·exact h.irrefl _
   ·exact s1'.1 b hm
  have hba:lt a b=false:=by
   have:a∈b::t2:=by
    have:a∈(b::t2).filter (rR lt a):=by rw[<-hf a];simp[uE h]
    exact(Zbj.1 this).1
   rcases Zah.1 this with rfl|hm
   ·exact h.irrefl _
   ·exact s2'.1 a hm
  have he:rR lt a b=true:=by simp[rR,hab,hba]
  have h1:=hf a;rw[Za4,Za4,uE h,he]at h1;simp only[if_true,Za1]at h1;obtain⟨rfl,_⟩:=h1
  congr 1
  refine wh h t1 t2 s1'.2 s2'.2 λx=>?_;have:=hf x;rw[Za4,Za4]at this;split at this
  ·exact(List.cons.inj this).2
  ·exact this
def KS(h:SWO lt){l l':List α}(hs:wB lt l')(hf:∀x,l'.filter (rR lt x)=l.filter (rR lt x)):kj lt l=l':=
 wh h _ _ (rY h l) hs λx=>by rw[yy h,hf]
end
section
variable{α:Type}
end
section
variable{α:Type}{lt:α->α->Bool}
end
end Go.DM.Ve
