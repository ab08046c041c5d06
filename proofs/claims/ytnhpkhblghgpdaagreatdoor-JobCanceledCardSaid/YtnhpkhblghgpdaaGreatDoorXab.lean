/- A part. Conditions: none. -/
import Derived.Test.YtnhpkhblghgpdaaGreatDoorXaa
import Derived.OrdersIn
import Derived.RangeFuncCalls
import Derived.Sort.LoopGhostIn
import Derived.RangeFuncLeaves
import Derived.RangeFuncRecord
import Derived.RangeFuncNested
set_option linter.unusedSectionVars false
set_option linter.unusedSimpArgs false
set_option linter.unusedVariables false
set_option linter.defProp false
namespace Go.DM
open Go.RowKit
section
variable{ro:Option Nat}{f:FuncId}{todo:List (aK)}{r:Loop}{go ab aI:bq}{gL L':Loc}{d:rO}{args:List bQ}{ds:bB}{cA:Array Value}{vs:List Value}{o':Obj}
variable [bI] [dL]
structure RO where
 d:rO
 dst:Option Nat
 guard:Option (Nat×Bool)
 after:cO
 j5:Option (cO):=none
abbrev ai:=List RO
structure RS where
 tmps:dw
 ab:bq
 todo:List (aK)
def cU(f:dw):Option Nat->DV->Nat->DV
 |none,_=>f
 |some k,v=>λx=>if x=k then v else f x
def fV(g:Option (Nat×Bool))(ρ:dw):Option Bool:=
 match g with
 |none=>some true
 |some (s,LS)=>match ρ s with
  |.v (.bool b)=>some (b==LS)
  |.skip=>some false
  |_=>none
def bN(aJ:Nat):Option Nat->Nat
 |some d=>aJ+d+1
 |none=>aJ
def oq(Γ:pI)(aJ:Nat)(r:RO)(st:RS):qO:=dj Γ r.d (bN aJ r.dst) st.tmps st.ab
def bG:rO->List bQ
 |.qu x|.box x|.load _ _ x|.un _ x|.conv _ x|.addOff _ x|.nilCheck x|.field _ _ _ x|.extract _ x|.len x|.lenS x|.mkSlice _ _ _ _ x|.mkSliceB _ _ _ _ x|.lenM x|.rangeM x|.entryM x|.isNil _ _ x=>[x]
 |.pick c a b=>[c,a,b]
 |.alloc _|.mkMap _ _|.fail=>[]
 |.build _ ps|.bslice _ _ _ ps=>ps.map (·.2.2)
 |.store _ x y|.bin _ x y|.eqT _ _ _ x y|.idxAddr _ x y|.arrAddr _ _ x y|.minmax _ x y|.append _ _ _ x y|.lookup _ _ _ _ x y|.mapDel _ _ x y|.copy _ x y|.indexS x y=>[x,y]
 |.mapUpd _ _ x k y=>[x,k,y]
 |.mapEnt _ _ _ x k=>[x,k]
 |.entSt x s y=>[x,s,y]
 |.slice _ x lo hi=>x::(lo.toList++hi.toList)
 |.call _ xs|.callS _ xs|.callF _ xs|.callR _ xs|.mkFn _ xs=>xs
 |.callv x xs=>x::xs
def cP(r:RO)(ρ:dw):Prop:=
 match r.j5 with
 |none=>True
 |some l=>∀x∈bG r.d,∀n∈aN (x.ev ρ),n∈l
def post(Γ:pI)(aJ:Nat)(r:RO)(st:RS):SEff:=
 if rP r.d then oi Γ r.d st.tmps st.ab st.todo
 else⟨(oq Γ aJ r st).ok,(oq Γ aJ r st).val,cG st.ab (oq Γ aJ r st).put,st.todo⟩
def um(r:RO)(o o':bq):Prop:=rP r.d=true->∀l,r.j5=some l->∀n,n∉l->o' n=o n
def cJ(Γ:pI)(aJ:Nat)(r:RO)(st:RS):Prop:=
 match fV r.guard st.tmps with
 |some true=>(post Γ aJ r st).ok/\cP r st.tmps/\um r st.ab (post Γ aJ r st).ab
 |some false=>True
 |none=>False
def dW(Γ:pI)(aJ:Nat)(r:RO)(st:RS):RS:=
 match fV r.guard st.tmps with
 |some true=>⟨cU st.tmps r.dst (post Γ aJ r st).val,(post Γ aJ r st).ab,(post Γ aJ r st).todo⟩
 |some false=>⟨cU st.tmps r.dst .skip,st.ab,st.todo⟩
 |none=>st
def iJ:T->Bool
 |.bool _|.int _ _|.str _=>true
 |.eo ts=>iU ts
 |.agg ts=>iU ts
 |_=>false
where
 iU:aK->Bool
 |[]=>true
 |t::ts=>iJ t&&iU ts
def wG:∀(n:Nat),(∀(t:T) (w w':World) (W W':fo) (v:Value),SizeOf.sizeOf t<n->iJ t=true->bj w W t v->bj w' W' t v)/\
  (∀(ts:aK) (w w':World) (W W':fo) (vs:List Value),SizeOf.sizeOf ts<n->iJ.iU ts=true->(du w W ts vs->du w' W' ts vs)/\(fN w W ts vs->fN w' W' ts vs))
 |0=>⟨λ_ _ _ _ _ _ h=>by omega,λ_ _ _ _ _ _ h=>by omega⟩
 |n+1=>by
  have ih:=wG n;refine⟨λt w w' W W' v hn hs h=>?_,λts w w' W W' vs hn hs=>?_⟩
  ·cases t with
   |agg ts=>simp only[bj]at h⊢;obtain⟨vs,hv,hr⟩:=h;exact⟨vs,hv,(ih.2 ts w w' W W' _ (by simp at hn⊢;omega) hs).1 hr⟩
   |eo ts=>simp only[bj]at h⊢;obtain⟨vs,hv,hr⟩:=h;exact⟨vs,hv,(ih.2 ts w w' W W' _ (by simp at hn⊢;omega) hs).2 hr⟩
   |bool b=>simpa [bj]using h
   |int k n=>simpa [bj]using h
   |str s=>simpa [bj]using h
   |_=>exact Zar hs ZaL
  ·cases ts with
   |nil=>exact⟨λh=>by simpa [du]using h,λh=>by simpa [fN]using h⟩
   |cons t ts=>
    simp only[iJ.iU,Zam]at hs;have h2:=ih.2 ts w w' W W';refine⟨λh=>?_,λh=>?_⟩
    ·simp only[du]at h⊢;obtain⟨v,EY,rfl,h1,hr,mt⟩:=h;exact⟨v,EY,rfl,h1,ih.1 t w w' W W' v (by simp at hn⊢;omega) hs.1 hr,(h2 _ (by simp at hn⊢;omega) hs.2).1 mt⟩
    ·simp only[fN]at h⊢;obtain⟨v,EY,rfl,hr,mt⟩:=h;exact⟨v,EY,rfl,ih.1 t w w' W W' v (by simp at hn⊢;omega) hs.1 hr,(h2 _ (by simp at hn⊢;omega) hs.2).2 mt⟩
def Dq(P:Program)(f:FuncId):Prop:=∃fn,P.funcs[f]? =some fn/\fn.name≠ "runtime.NumGoroutine" /\fn.body.isNone=false
structure bl(P:Program)(f:FuncId)(ts:aK)(t:T):Prop where
 entry:Dq P f
 run:∀(W:fo) (w:World) (cA:Array Value),(∀b,W b->b<w.heap.size)->F2 w W->fN w W ts cA.toList->
  Calls P f cA w λe w'=>∃v,e=.returned v/\vO w.heap.size w w'/\bj w' W t v
structure Dr(n0:Nat)(w':World)(W:fo)(e sz:Nat)(av:List (aK))(v:Value):Prop where
 pos:0<sz
 len:∀x∈av,x.length=sz
 it:(av=[]/\∃a:Option Addr,v=.slice a 0 0)\/∃g cap pa,v=.slice (some ⟨g,0,none⟩) av.length cap/\0<cap/\n0<=g/\w'.heap[g]? =some (.cells pa e (0,0))/\av.length<=cap/\cap<=maxLen/\pa.size=cap*sz/\du w' (λb=>W b\/b=g) av.flatten (pa.toList.take (av.length*sz))
structure oW(P:Program)(f:FuncId)(ts:aK)(e sz:Nat)(av:List (aK)):Prop where
 entry:Dq P f
 run:∀(W:fo) (w:World) (cA:Array Value),(∀b,W b->b<w.heap.size)->F2 w W->fN w W ts cA.toList->
  Calls P f cA w λe' w'=>∃v,e'=.returned v/\vO w.heap.size w w'/\Dr w.heap.size w' W e sz av v
def jD(w:World)(W:fo)(ab:bq)(L:Loc)(ds:bB)(vs:List Value):Prop:=
 vs.length=ds.length/\∀(i:Nat) (d:DV) (v:Value),ds[i]? =some d->vs[i]? =some v->aA w W ab L d v
structure aR(P:Program)(f:FuncId)(args:bB)(ab:bq)(r:fI):Prop where
 entry:Dq P f
 run:∀(base:Nat) (W M:fo) (w0 w:World) (L:Loc) (cA:Array Value),ct base W M w0 ab w L->jD w W ab L args cA.toList->
  Calls P f cA w λe w'=>∃v L',e=.returned v/\ct base W M w0 r.ab w' L'/\gP W ab L w r.ab L' w'/\aA w' W r.ab L' r.val v
structure XR(P:Program)(f:FuncId)(s:Spec):Prop where
 pure:∀ts,s.pre ts->bl P f ts (s.fn ts)/\(s.jz=true->iJ (s.fn ts)=true)
 fresh:∀e sz,s.fresh=some (e,sz)->∀ts,s.pre ts->∃av,s.fn ts=.sl av/\oW P f ts e sz av/\(s.fY=true->iJ.iU av.flatten=true)
 st:∀k,s.st=some k->∀args ab,(k args ab).ok->(∀N,(∀r,N<=r->ab r=none)->aR P f args ab (k args ab))/\∀r,ab r=none->(k args ab).ab r=none
def ay(P:Program)(Γ:pI):Prop:=∀f s,Γ f=some s->XR P f s
def iV(ro:Option Nat):Fence:={Fence.wide with round:=ro}
def eQ{n:Nat}{P:Program}{args:Array Value}{w:World}{R:Ending->World->Prop}(h:Calls P f args w R):CallsIn (iV ro) n P f args w R:=by
 have h0:CallsIn Fence.wide n P f args w R:=callsIn_wide.2 h;exact h0
structure oX where
 W:fo
 go:bq
 gL:Loc
 gw:World
 base:Nat
 M:fo
 w0:World
 J:Option (fo->List (aK)->World->Prop)
 ro:Option Nat
 Y:Option (Nat×Loop×Loop):=none
def oX.At(κ:oX)(todo:List (aK))(W:fo)(base:Nat)(M:fo)(w0:World):Prop:=
 match κ.J with
 |none=>(κ.Y=none->todo=[])/\W=κ.W/\base=κ.base/\M=κ.M/\w0=κ.w0
 |some J=>J W todo w0/\base=w0.heap.size/\M=(λ_=>False)/\(∀b,W b->κ.W b\/κ.gw.heap.size<=b)/\∀b,κ.W b->W b
structure Yields(P:Program)(l:Nat)(J:fo->List (aK)->World->Prop):Prop where
 stays:∀(W:fo) (todo:List (aK)) (A B:World),J W todo A->vO A.heap.size A B->J W todo B
 round:∀(W:fo) (x:aK) (rest:List (aK)) (cA:Array Value) (A:World),J W (x::rest) A->fN A W x cA.toList->
  ∃fn tmps assign body,(Instr.yield l cA).run P A=.ok (.round l fn tmps assign body) A/\RoundIn Fence.wide 0 P l fn tmps assign body A λe B=>
   e=.returned (.bool true)/\∃W',J W' rest B/\dg W A B/\(∀b,W' b->b<B.heap.size/\(W b\/A.heap.size<=b))/\∀b,W b->W' b
structure H2(P:Program)(l:Nat)(r s:Loop)(k:bB->bq->fI)(base:Nat)(W M:fo)(w0:World)(go:bq)(gL:Loc)(gw:World):Prop where
 round:∀(w:World) (L:Loc) (ab:bq) (args:bB) (cA:Array Value),(k args ab).ok->yIs (k args ab).val->(∃N,∀x,N<=x->ab x=none)->w.heap[l]? =some (.loop r)->
  gP W go gL gw ab L w->ct base W M w0 ab w L->jD w W ab L args cA.toList->
  ∃fn tmps assign body,(Instr.yield l cA).run P w=.ok (.round l fn tmps assign body) w/\RoundIn Fence.wide 0 P l fn tmps assign body w λe B=>
   e=.returned (.bool (yGo (k args ab).val))/\∃L',ct base W M w0 (k args ab).ab B L'/\gP W ab L (w.putObj l (.loop (if yGo (k args ab).val then r else s))) (k args ab).ab L' B
def _root_.Go.World.uo{w:World}{l:Nat}{o:Obj}(h:w.heap[l]? =some o):w.putObj l o=w:=by
 obtain⟨hl,e⟩:=Zap.1 h;have:w.heap.setIfInBounds l o=w.heap:=by
  refine Array.ext_getElem? λi=>?_;rw[ZbZ];split
  ·rename_i e2;subst e2;exact h.symm
  ·rfl
 unfold World.putObj;rw[this]
def oX.NC(κ:oX)(todo:List (aK)):World:=match κ.Y with
 |none=>κ.gw
 |some (l,r,s)=>κ.gw.putObj l (.loop (match todo with|[]=>s|_=>r))
def oX.ya(κ:oX)(todo:List (aK)):(κ.NC todo).heap.size=κ.gw.heap.size:=by
 unfold oX.NC;split
 ·rfl
 ·simp[World.putObj]
def oX.KC{κ:oX}(h:κ.Y=none)(todo:List (aK)):κ.NC todo=κ.gw:=by simp[oX.NC,h]
structure oX.Good(P:Program)(κ:oX):Prop where
 y:∀J,κ.J=some J->Yields P κ.gL.yl J/\dL.k=none/\κ.Y=none
 ys:∀l r s,κ.Y=some (l,r,s)->κ.base<=l/\κ.gw.heap[l]? =some (.loop r)/\∃k,dL.k=some (l,k)/\H2 P l r s k κ.base κ.W κ.M κ.w0 κ.go κ.gL κ.gw
 rd:∀l,κ.ro=some l->∃r,κ.gw.heap[l]? =some (.loop r)
def mark(D:Nat):Deferred:={target:=.collected D,args:= #[]}
structure R0(base:Nat)(W M:fo)(w0:World)(nt:Nat)(tmps:dw)(ab:bq)(a:Act)(w:World)(L:Loc):Prop where
 size:a.tmps.size=nt
 tmps:∀t,aA w W ab L (tmps t) (a.tmps.getD t Go.undef)
 o:ct base W M w0 ab w L
structure eP(κ:oX)(nt:Nat)(st:RS)(a:Act)(w:World)(L:Loc):Prop where
 ex:∃W base M w0,κ.At st.todo W base M w0/\R0 base W M w0 nt st.tmps st.ab a w L
 eZ:gP κ.W κ.go κ.gL (κ.NC st.todo) st.ab L w
 defers:∃Ds:cO,a.defers=Ds.map mark/\Ds.Nodup/\(∀D∈Ds,w.heap[D]? =some (.deferred (some []))/\κ.gw.heap.size<=D)/\(κ.J.isSome=true->Ds=[])
 bg:κ.J=none->κ.base<=κ.gw.heap.size
 bZ:∃N,∀r,N<=r->st.ab r=none
def oX.At.sub{κ:oX}{W:fo}{base:Nat}{M:fo}{w0:World}(h:κ.At todo W base M w0):(∀b,W b->κ.W b\/κ.gw.heap.size<=b)/\∀b,κ.W b->W b:=by
 unfold oX.At at h;split at h
 ·obtain⟨_,rfl,_⟩:=h;exact⟨λ_ h=>.inl h,λ_ h=>h⟩
 ·exact⟨h.2.2.2.1,h.2.2.2.2⟩
def oX.At.H3{κ:oX}{W:fo}{base:Nat}{M:fo}{w0:World}(h:κ.At todo W base M w0)(td:List (aK)):∀b,W b->κ.W b\/(κ.NC td).heap.size<=b:=by
 rw[oX.ya];exact h.sub.1
def oX.XS{κ:oX}{l:Nat}(td:List (aK))(h:κ.gw.heap[l]? =some (.loop r)):∃r',(κ.NC td).heap[l]? =some (.loop r'):=by
 unfold oX.NC;split
 ·exact⟨r,h⟩
 ·rename_i l' _ _ _;by_cases e:l=l'
  ·subst e;exact⟨_,World.putObj_heap_same (Zap.1 h).1⟩
  ·exact⟨r,by rw[World.putObj_heap_other e];exact h⟩
def gP.comp{W V:fo}{L:Loc}{gw w w':World}(h:gP V go gL gw ab L w)(k:gP W ab L w aI L' w')(h1:∀b,W b->V b\/gw.heap.size<=b)(h2:∀b,V b->W b):
  gP V go gL gw aI L' w':=by
 have up:∀b,b<gw.heap.size->WW W ab L b->WW V ab L b:=λb hb hw=>by
  rcases hw with hw|hw
  ·rcases h1 b hw with h3|h3
   ·exact .inl h3
   ·omega
  ·exact .inr hw
 refine⟨⟨⟨ZaP h.dx.size k.dx.size,λb c e fr hb hn=>?_⟩,λb hb=>k.dx.W8 b (h.dx.W8 b hb),λb r hb=>k.dx.Xy b r (h.dx.Xy b r hb)⟩,λb hb hw=>?_,λr o hr hk=>?_,λr bD e sz av hr=>?_,k.yl.trans h.yl⟩
 ·have ln:=(Zap.1 hb).1;exact k.dx.I1 b c e fr (h.dx.I1 b c e fr hb hn) λx=>hn (h.sub b ln (up b ln x))
 ·refine h.sub b hb (up b hb (k.sub b (Zbz hb h.dx.size) ?_));rcases hw with hw|hw
  ·exact .inl (h2 b hw)
  ·exact .inr hw
 ·obtain⟨e1,o1,sg,pJ⟩:=h.fix r o hr hk;obtain⟨e2,o2,xV,wH⟩:=k.fix r o1 sg (by rw[pJ];exact hk);exact⟨e2.trans e1,o2,xV,wH.trans pJ⟩
 ·obtain⟨v1,e1,s1,r1,sg,l1,k1⟩:=h.dT r bD e sz av hr;obtain⟨v2,e2,s2,r2,xV,l2,k2⟩:=k.dT r v1 e1 s1 r1 sg;refine⟨v2,e2,s2,r2,xV,ZaP l1 l2,λhv=>?_⟩;have Bk:v1=bD:=by omega
  obtain⟨a1,a2,a3⟩:=k1 Bk;obtain⟨b1,b2,b3⟩:=k2 (by omega);exact⟨b1.trans a1,b2.trans a2,b3.trans a3⟩
section
variable{P:Program}{κ:oX}{base:Nat}{W M:fo}{w0:World}{nt:Nat}{Γ:pI}{aJ:Nat}
def Dt(tmps:Array Value)(d t:Nat)(v:Value)(hd:d<tmps.size):(tmps.setIfInBounds d v).getD t Go.undef=if t=d then v else tmps.getD t Go.undef:=by
 simp only[ZaH,ZbZ];by_cases h:d=t
 ·subst h;simp[hd]
 ·have:t≠d:=λe=>h e.symm;simp[h,this]
def R0.put{tmps:dw}{a:Act}{w w':World}{L:Loc}(h:R0 base W M w0 nt tmps ab a w L)(dst:Option Nat)(kv:∀d,dst=some d->d<nt){v:DV}{x:Value}
  (hO:ct base W M w0 aI w' L') (hA:gP W ab L w aI L' w') (hv:aA w' W aI L' v x):
  R0 base W M w0 nt (cU tmps dst v) aI (a.put dst x) w' L':=by
 cases dst with
 |none=>exact⟨h.size,λt=>aA.eZ hA _ _ (h.tmps t),hO⟩
 |some d=>
  refine⟨by simpa [Act.put]using h.size,λt=>?_,hO⟩;simp only[cU,Act.put];rw[Dt _ _ _ _ (by rw[h.size];exact kv d rfl)];by_cases ht:t=d
  ·simp only[ht,if_true];exact hv
  ·simp only[ht,if_false];exact aA.eZ hA _ _ (h.tmps t)
def wI(a:Act)(dst:Option Nat)(x:Value):(a.put dst x).defers=a.defers:=by cases dst<;>rfl
def eP.put{st:RS}{a:Act}{w w':World}{L:Loc}(hR:eP κ nt st a w L)(dP:κ.At st.todo W base M w0)(h:R0 base W M w0 nt st.tmps st.ab a w L)
  (dst:Option Nat) (kv:∀d,dst=some d->d<nt) {v:DV} {x:Value} (hO:ct base W M w0 aI w' L') (hA:gP W st.ab L w aI L' w') (hv:aA w' W aI L' v x) (lr:∃N,∀r,N<=r->aI r=none):
  eP κ nt ⟨cU st.tmps dst v,aI,st.todo⟩ (a.put dst x) w' L':=
 ⟨⟨W,base,M,w0,dP,h.put dst kv hO hA hv⟩,hR.eZ.comp hA (dP.H3 _) dP.sub.2,by
  obtain⟨Ds,h1,h2,h3,h4⟩:=hR.defers;exact⟨Ds,by rw[wI];exact h1,h2,λD hD=>⟨hA.dx.W8 D (h3 D hD).1,(h3 D hD).2⟩,h4⟩,hR.bg,lr⟩
def eP.skip{st:RS}{a:Act}{w:World}{L:Loc}(h:eP κ nt st a w L)(dst:Option Nat)(kv:∀d,dst=some d->d<nt):
  eP κ nt ⟨cU st.tmps dst .skip,st.ab,st.todo⟩ (a.put dst Go.undef) w L:=by
 obtain⟨W,base,M,w0,dP,h0⟩:=h.ex;exact eP.put h dP h0 dst kv h0.o (gP.cQ (dg.refl _ _)) (by simp[aA]) h.bZ
def mC(o:Oper)(w:World)(ρ:Operand->Value):∀f,o.about P w ρ=some f->(iV ro).fn f:=λ_ _=>trivial
def nL{o:Oper}(h:dz P o=some d):∀c,o.op≠ .defer c:=by
 intro c hc;simp[dz,hc]at h
def fz{o:Oper}(hc:dz P o=some d)(hd':(∃f args,d=.call f args)\/(∃f args,d=.callS f args)\/(∃f args,d=.callv f args)\/(∃f args,d=.callF f args)\/∃f args,d=.callR f args):∃c,o.op=.call c/\eG P c=some d:=by
 rcases hd' with⟨f,args,rfl⟩|⟨f,args,rfl⟩|⟨f,args,rfl⟩|⟨f,args,rfl⟩|⟨f,args,rfl⟩;all_goals
  unfold dz at hc;cases ho:o.op<;>simp only[ho,reduceCtorEq]at hc
  case call c=>exact⟨c,rfl,hc⟩
  case binOp op t x y yt=>
   exfalso;simp only[Zaj,Zad]at hc;obtain⟨x',hx,y',hy,hc⟩:=hc;unfold mA at hc;repeat' split at hc
   all_goals first|(cases hc;done)|(simp only[Zac,reduceCtorEq,and_false,exists_false]at hc;done)
  case makeMap t h=>
   exfalso;cases h with
   |some m=>cases hc
   |none=>
    simp only at hc;split at hc
    ·simp only[Zac,reduceCtorEq,and_false,exists_false]at hc
    ·cases hc
  case slice t x lo hi mx=>
   exfalso;cases mx with
   |some m=>cases hc
   |none=>
    simp only at hc;repeat' split at hc
    all_goals simp only[Zao,Zaj,Zad,Zaa,reduceCtorEq,and_false,exists_false]at hc
  all_goals exfalso
  all_goals first
   |(simp only[Zac,reduceCtorEq,and_false,exists_false]at hc;done)
   |(simp only[Zao,Zaj,Zad,Zaa,reduceCtorEq,and_false,exists_false]at hc;done)
   |(repeat' split at hc)<;>first
     |(simp only[Zac,Zao,Zaj,Zad,Zaa,reduceCtorEq,and_false,exists_false]at hc;done)
     |(simp[Zad]at hc;done)
def kX{c:Call}(h:eG P c=some (.call f args)):∃fn,c.callee=.value (.func f)/\P.funcs[f]? =some fn/\fn.name≠ "runtime.NumGoroutine" /\fn.body.isNone=false/\c.args.toList.mapM bQ.of=some args:=by
 unfold eG at h;split at h
 ·rename_i g jx;split at h
  ·rename_i fn dn;split at h
   ·cases h
   ·rename_i hnr;simp only[Zac,rO.call.injEq]at h;obtain⟨ys,pM,rfl,rfl⟩:=h;refine⟨fn,jx,dn,λe=>hnr (.inl e), ?_,pM⟩;cases hb:fn.body.isNone
    ·rfl
    ·exact Zar (.inr hb) hnr
  ·cases h
 all_goals
  repeat' split at h
  all_goals first
   |(simp only[Zac,Zao,Zaj,Zad,Zaa,reduceCtorEq,and_false,exists_false]at h;done)
   |skip
def H4{c:Call}{x:bQ}(h:eG P c=some (.callv x args)):∃t,c.callee=.value (.tmp t)/\x=.tmp t/\c.args.toList.mapM bQ.of=some args:=by
 unfold eG at h;split at h
 ·split at h
  ·split at h
   ·cases h
   ·simp at h
  ·cases h
 ·rename_i t jx;simp only[Zac,rO.callv.injEq]at h;obtain⟨ys,pM,rfl,rfl⟩:=h;exact⟨t,jx,rfl,pM⟩
 all_goals
  repeat' split at h
  all_goals first
   |(simp only[Zac,Zao,Zaj,Zad,Zaa,reduceCtorEq,and_false,exists_false]at h;done)
   |skip
def Bt:rO->rO
 |.callS f args=>.call f args
 |.callF f args=>.call f args
 |.callR f args=>.call f args
 |.mkSliceB e sz bytes zero n=>.mkSlice e sz bytes zero n
 |d=>d
def mD(W':fo){fY:Bool}{ab:bq}{w:World}{L:Loc}(hO:ct base W M w0 ab w L)(hW:fY=true->∀r o b,ab r=some o->L.own r o=some b->¬W' b)(Vn:∀b,W' b->WW W ab L b):
  ∀{ds:bB} {vs:List Value},jD w W ab L ds vs->tA fY ab ds->fN w W' (ji ab ds) vs
 |[],vs,h,_=>by
  have:vs=[]:=ZaD h.1;subst this;simp[fN,ji]
 |d::ds,[],h,_=>by have:=h.1;simp at this
 |d::ds,v::vs,h,hk=>by
  simp only[tA]at hk;simp only[fN,ji];exact⟨v,vs,rfl,(x6 W' hO hW Vn).1 _ _ (h.2 0 d v rfl rfl) hk.1,mD W' hO hW Vn ⟨by simpa using h.1,λi x y hx hy=>h.2 (i+1) x y (by simpa using hx) (by simpa using hy)⟩ hk.2⟩
def GI(aC:ay P Γ){w:World}{L:Loc}(hO:ct base W M w0 ab w L){g:FuncId}{s:Spec}(hg:Γ g=some s)(oY:tA s.jz ab ds)(tB:s.pre (ji ab ds))
  (hr:jD w W ab L ds cA.toList):Calls P g cA w λe w'=>∃v,e=.returned v/\ct base W M w0 ab w' L/\gP W ab L w ab L w'/\aA w' W ab L (.v (s.fn (ji ab ds))) v:=by
 obtain⟨sh,hsc⟩:=(aC g s hg).pure _ tB;have Co:∀b,WW W ab L b->b<w.heap.size:=by
  have jy:base<=w.heap.size:=ZaP hO.fr.jq hO.fr.size;rintro b (hb|⟨r',o',h1,h2⟩)
  ·have:=hO.under b hb;omega
  ·exact(hO.ob r' o' h1).lt h2
 cases hs:s.jz with
 |true=>
  rw[hs]at oY;have N7:=mD (λ_=>False) (fY:=true) hO (λ_ _ _ _ _ _ x=>x) (λ_ x=>x.elim) hr oY;refine(sh.run (λ_=>False) w cA (λ_ x=>x.elim) (hO.gl.bi (dg.refl (WW W ab L) _).toKeepsC λ_ _ h=>h.elim) N7).mono ?_;rintro e w' ⟨v,rfl,hb,hv⟩;obtain⟨hO',hA⟩:=ct.grow hO hb;refine⟨v,rfl,hO',hA, ?_⟩;simp only[aA];exact(wG _).1 _ w' w' (λ_=>False) (WW W ab L) v (Zcc _) (hsc hs) hv
 |false=>
  rw[hs]at oY;have N7:=mD (WW W ab L) (fY:=false) hO (λx=>by cases x) (λ_ x=>x) hr oY;refine(sh.run (WW W ab L) w cA Co hO.gl N7).mono ?_;rintro e w' ⟨v,rfl,hb,hv⟩;obtain⟨hO',hA⟩:=ct.grow hO hb;exact⟨v,rfl,hO',hA,by simp only[aA];exact hv⟩
def N8{w:World}{L:Loc}(hO:ct base W M w0 ab w L){g:FuncId}{fY:Bool}(oY:tA fY ab ds){e sz:Nat}{av:List (aK)}(sh:oW P g (ji ab ds) e sz av)(hsc:fY=true->iJ.iU av.flatten=true)
  (hr:jD w W ab L ds cA.toList) {name:Nat} (vx:ab name=none):Calls P g cA w λe' w'=>∃v L',e'=.returned v/\ct base W M w0 (cG ab (some (name,.dT 0 e sz av))) w' L'/\gP W ab L w (cG ab (some (name,.dT 0 e sz av))) L' w'/\aA w' W (cG ab (some (name,.dT 0 e sz av))) L' (.bA name 0) v:=by
 have jy:base<=w.heap.size:=ZaP hO.fr.jq hO.fr.size;have Co:∀b,WW W ab L b->b<w.heap.size:=by
  rintro b (hb|⟨r',o',h1,h2⟩)
  ·have:=hO.under b hb;omega
  ·exact(hO.ob r' o' h1).lt h2
 have aT:Calls P g cA w λe' w'=>∃v,e'=.returned v/\vO w.heap.size w w'/\Dr w.heap.size w' (WW W ab L) e sz av v:=by
  cases fY with
  |false=>
   have N7:=mD (WW W ab L) (fY:=false) hO (λx=>by cases x) (λ_ x=>x) hr oY;exact sh.run (WW W ab L) w cA Co hO.gl N7
  |true=>
   have N7:=mD (λ_=>False) (fY:=true) hO (λ_ _ _ _ _ _ x=>x) (λ_ x=>x.elim) hr oY;refine(sh.run (λ_=>False) w cA (λ_ x=>x.elim) (hO.gl.bi (dg.refl (WW W ab L) _).toKeepsC λ_ _ h=>h.elim) N7).mono ?_;rintro e' w' ⟨v,h1,h2,h3⟩;refine⟨v,h1,h2,h3.pos,h3.len, ?_⟩;rcases h3.it with h4|⟨g',cap,pa,k1,k2,k3,k4,k5,k6,k7,k8⟩
   ·exact .inl h4
   ·exact .inr ⟨g',cap,pa,k1,k2,k3,k4,k5,k6,k7,((wG _).2 _ w' w' _ _ _ (Zcc _) (hsc rfl)).1 k8⟩
 refine aT.mono ?_;rintro e' w' ⟨v,rfl,hb,hf⟩;have h:=ct.put hO (r:=name) (L':=L.iS name v) (o':=.dT 0 e sz av) (hO.fr.trans ⟨hb.os,hb.tape,hb.output,jy,hb.size,λk hk _=>hb.block k (by omega),hb.drawn⟩) hb.size (λx hx=>⟨rfl,by simp[Loc.iS,hx]⟩) rfl (λb ln _=>hb.block b ln)
  (λb h=>.inr (by
   simp only[Loc.own,Loc.iS,if_true]at h;rcases hf.it with⟨_,a,rfl⟩|⟨g',cap,pa,rfl,hp,xL,_⟩
   ·cases a<;>simp[aX]at h
   ·simp only[aX,Zab (ZaJ.1 hp),Zaa]at h;omega))
  (λo' h _=>by rw[vx]at h;cases h) (λ_ _ _ _ h=>by rw[vx]at h;cases h) (λeZ=>by
   refine⟨hf.pos,hf.len,λg' hg=>?_, ?_⟩
   ·simp only[Loc.iS,if_true]at hg;rcases hf.it with⟨_,a,rfl⟩|⟨g2,cap,pa,rfl,hp,xL,_⟩
    ·cases a<;>simp[aX]at hg
    ·simp only[aX,Zab (ZaJ.1 hp),Zaa]at hg;exact .inl (by omega)
   ·simp only[Loc.iS,if_true];rcases hf.it with⟨h1,a,h2⟩|⟨g2,cap,pa,h1,hp,xL,h2,h3,h4,h5,h6⟩
    ·exact .inl ⟨h1,a,h2⟩
    ·refine .inr ⟨g2,cap,pa,h1,hp,h2,h3,h4,h5,du.bi (dg.refl (λb=>WW W ab L b\/b=g2) w').toKeepsC (λb _ hb=>?_) _ _ h6⟩;rcases hb with hb|⟨r',o',gD,hb⟩
     ·exact .inl (.inl hb)
     ·simp only[cG]at gD;split at gD
      ·rename_i e1;cases gD;subst e1;simp only[Loc.own,if_true,h1,aX,Zab (ZaJ.1 hp),Zaa]at hb;exact .inr hb.symm
      ·rename_i bT;refine .inl (.inr ⟨r',o',gD, ?_⟩);cases o'<;>simpa [Loc.own,Loc.iS,bT]using hb)
 refine⟨v,_,rfl,h.1,h.2, ?_⟩;simp only[aA];refine⟨?_,0,e,sz,av,by simp[cG],Zaf _,λ_=>by simp[Loc.iS]⟩;rcases hf.it with⟨_,a,rfl⟩|⟨g2,cap,pa,rfl,_⟩<;>exact⟨_,_,_,rfl⟩
def gk{w:World}{L:Loc}{a:Act}{ρ:dw}(hg:F2 w (WW W ab L))(jw:∀t,aA w W ab L (ρ t) (a.tmps.getD t Go.undef)){xs:List Operand}{ys:List bQ}(h:xs.mapM bQ.of=some ys):jD w W ab L (ys.map (·.ev ρ)) (xs.map a.eval):=by
 refine⟨by simp[ul h],λi d v hd hv=>?_⟩;rw[Zbx,Zac]at hd hv;obtain⟨y,hy,rfl⟩:=hd;obtain⟨x,hx,rfl⟩:=hv;exact Br hg jw h i x y hx hy
def jD.append{w:World}{L:Loc}{ag:bB}{EY:List Value}(h:jD w W ab L ds vs)(k:jD w W ab L ag EY):jD w W ab L (ds++ag) (vs++EY):=by
 refine⟨by simp[h.1,k.1],λi d v hd hv=>?_⟩;by_cases hi:i<ds.length
 ·rw[Zbc hi]at hd;rw[Zbc (by rw[h.1];exact hi)]at hv;exact h.2 i d v hd hv
 ·rw[Za9 (by omega)]at hd;rw[Za9 (by rw[h.1];omega),h.1]at hv;exact k.2 _ d v hd hv
def Du{w:World}{L:Loc}{ts:aK}(h:du w (WW W ab L) ts vs):jD w W ab L (ts.map .v) vs:=by
 refine⟨by simp[du.length h],λi d v hd hv=>?_⟩;rw[Zbx,Zac]at hd;obtain⟨t,ht,rfl⟩:=hd;obtain⟨v',tp,_,hr⟩:=du.get h ht;rw[hv]at tp;cases tp;simpa [aA]using hr
def Bu{w:World}{L:Loc}(h:aQ w W ab L ds vs):jD w W ab L ds vs:=by
 refine⟨by simp[aQ.length h],λi d v hd hv=>?_⟩;obtain⟨v',tp,_,hr⟩:=aQ.get h hd;rw[hv]at tp;cases tp;exact hr
def Ge{o:Oper}{x:bQ}(hc:dz P o=some (.entryM x)):∃y,o.op=.entry y/\bQ.of y=some x:=by
 unfold dz at hc;cases ho:o.op<;>simp only[ho,reduceCtorEq]at hc
 case entry y=>
  simp only[Zac,rO.entryM.injEq]at hc;obtain⟨y',hy,rfl⟩:=hc;exact⟨y,rfl,hy⟩
 case binOp op t x y yt=>
  exfalso;simp only[Zaj,Zad]at hc;obtain⟨x',hx,y',hy,hc⟩:=hc;unfold mA at hc;repeat' split at hc
  all_goals first|(cases hc;done)|(simp only[Zac,reduceCtorEq,and_false,exists_false]at hc;done)
 case call c=>
  exfalso;unfold eG at hc;repeat' split at hc
  all_goals first
   |(cases hc;done)
   |(simp only[Zac,Zao,Zaj,Zad,Zaa,reduceCtorEq,and_false,exists_false]at hc;done)
 case slice t x lo hi mx=>
  exfalso;cases mx with
  |some m=>cases hc
  |none=>
   simp only at hc;repeat' split at hc
   all_goals simp only[Zao,Zaj,Zad,Zaa,reduceCtorEq,and_false,exists_false]at hc
 case makeMap t h=>
  exfalso;cases h with
  |some m=>cases hc
  |none=>
   simp only at hc;split at hc
   ·simp only[Zac,reduceCtorEq,and_false,exists_false]at hc
   ·cases hc
 all_goals exfalso
 all_goals first
  |(simp only[Zac,reduceCtorEq,and_false,exists_false]at hc;done)
  |(simp only[Zao,Zaj,Zad,Zaa,reduceCtorEq,and_false,exists_false]at hc;done)
  |(repeat' split at hc)<;>first
    |(simp only[Zac,Zao,Zaj,Zad,Zaa,reduceCtorEq,and_false,exists_false]at hc;done)
    |(simp[Zad]at hc;done)
def jO{o:Oper}{a:Act}{w:World}{c:Call}(ho:o.op=.call c){g:FuncId}{bY:Array Value}(hv:∀f,c.callee=.value f->a.eval f=.func (.func g) #[] bY)(hc:∃f,c.callee=.value f)(hg:Dq P g):
  (execOp a.eval o).run P w=.ok (.enter g (c.args.map a.eval++bY)) w:=by
 obtain⟨f,hf⟩:=hc;obtain⟨fn,dn,bT,Bv⟩:=hg;simp[execOp,ho,resolve,hf,hv f hf,Deferred.ofValue,invoke,callFunc,dn,bT];intro mi;simp[mi]at Bv
def wb{n l:Nat}{fn:FuncId}{tmps:Array Value}{assign body:Code}{w:World}{R:Ending->World->Prop}(h:RoundIn Fence.wide 0 P l fn tmps assign body w R):
  RoundIn (iV ro) n P l fn tmps assign body w R:=by
 have h0:RoundIn Fence.wide n P l fn tmps assign body w R:=⟨h.1,λc cs _=>h.2 c cs (by simp[Fence.room,Fence.wide])⟩;exact h0
def oZ{W:fo}{L:Loc}{w w':World}(B8:KeepsC (WW W ab L) w w'):∀n,(∀(d:DV) (x:Value),SizeOf.sizeOf d<n->aA w W ab L d x->aA w' W ab L d x)/\(∀(ds:bB) (xs:List Value),SizeOf.sizeOf ds<n->aQ w W ab L ds xs->aQ w' W ab L ds xs)/\(∀(ds:bB) (xs:List Value),SizeOf.sizeOf ds<n->eE w W ab L ds xs->eE w' W ab L ds xs):=by
 have wJ:∀b,b<w.heap.size->WW W ab L b->WW W ab L b:=λ_ _ h=>h;intro n;induction n with
 |zero=>exact⟨λ_ _ h=>by omega,λ_ _ h=>by omega,λ_ _ h=>by omega⟩
 |succ n ih=>
  refine⟨λd x hn hx=>?_,λds xs hn hx=>?_,λds xs hn hx=>?_⟩
  ·cases d with
   |v t=>simp only[aA]at hx⊢;exact bj.bi B8 wJ t x hx
   |eo cs=>
    simp only[aA]at hx⊢;obtain⟨vs,hv,hr⟩:=hx;exact⟨vs,hv,ih.2.2 cs _ (by simp at hn⊢;omega) hr⟩
   |nG f cs=>
    simp only[aA]at hx⊢;obtain⟨vs,hv,hr⟩:=hx;exact⟨vs,hv,ih.2.1 cs _ (by simp at hn⊢;omega) hr⟩
   |l7 av i off=>
    simp only[aA]at hx⊢;obtain⟨b,o,sz,hx,hb,Gf,hr,h1,h2⟩:=hx;exact⟨b,o,sz,hx,Zbz hb B8.size,Gf,bw.bi B8 wJ hb Gf sz o av hr,h1,h2⟩
   |iD cs off=>
    simp only[aA]at hx⊢;obtain⟨b,o,hx,hb,Gf,hr⟩:=hx;exact⟨b,o,hx,Zbz hb B8.size,Gf,ed.bi B8 wJ hb Gf o cs hr⟩
   |agg cs=>
    simp only[aA]at hx⊢;obtain⟨vs,hv,hr⟩:=hx;exact⟨vs,hv,ih.2.1 cs _ (by simp at hn⊢;omega) hr⟩
   |_=>exact hx
  ·cases ds with
   |nil=>simpa only[aQ]using hx
   |cons d ds=>
    simp only[aQ]at hx⊢;obtain⟨y,ys,hv,h1,h2,h3⟩:=hx;exact⟨y,ys,hv,h1,ih.1 d y (by simp at hn⊢;omega) h2,ih.2.1 ds ys (by simp at hn⊢;omega) h3⟩
  ·cases ds with
   |nil=>simpa only[eE]using hx
   |cons d ds=>
    simp only[eE]at hx⊢;obtain⟨y,ys,hv,h2,h3⟩:=hx;exact⟨y,ys,hv,ih.1 d y (by simp at hn⊢;omega) h2,ih.2.2 ds ys (by simp at hn⊢;omega) h3⟩
def ou{w:World}{l:Nat}{o:Obj}(hl:w.heap[l]? =some o)(Lk:¬Obj.plain o):∀(b:Nat) x,Obj.plain x->w.heap[b]? =some x->(w.putObj l o').heap[b]? =some x:=λb x hx hb=>by
 rw[World.putObj_heap_other (by rintro rfl;rw[hl]at hb;cases hb;exact Lk hx)];exact hb
def uq{base:Nat}{W M:fo}{w0 w:World}{L:Loc}(h:ct base W M w0 ab w L){l:Nat}{o:Obj}(hl:w.heap[l]? =some o)(Lk:¬Obj.plain o)(hb:base<=l):
  ct base W M w0 ab (w.putObj l o') L:=by
 have yi:(w.putObj l o').heap.size=w.heap.size:=by simp[World.putObj]
 have mE:=ou (o':=o') hl Lk;have B8:KeepsC (WW W ab L) w (w.putObj l o'):=⟨by rw[yi];exact Zaf _,λb c e fr hb _=>mE b _ trivial hb⟩;have f:=h.fr;refine⟨⟨f.os,f.tape,f.output,f.jq,by rw[yi];exact f.size,λk hk hm=>?_,f.drawn⟩,λr o ho=>?_,h.apart,h.qQ,h.under,h.gl.bi B8 λ_ _ h=>h⟩
 ·rw[World.putObj_heap_other (by omega)];exact f.block k hk hm
 ·have gH:=h.ob r o ho;cases o with
  |box cs=>
   obtain⟨c,e,hc,hr,hm⟩:=gH;exact⟨c,e,mE _ _ trivial hc,(oZ B8 (SizeOf.sizeOf cs+1)).2.1 cs _ (by omega) hr,hm⟩
  |map cj agg c es=>
   obtain⟨dT,hc,hr,k1,k2,k3,hm⟩:=gH;refine⟨dT,mE _ _ trivial hc, ?_,k1,k2,k3,hm⟩;have key:∀(es:List (Nat×T×DV)) (xs:List MapEntry),bJ w W ab L es xs->bJ (w.putObj l o') W ab L es xs:=by
    intro es;induction es with
    |nil=>intro xs h;simpa only[bJ]using h
    |cons e es ih=>
     intro xs h;simp only[bJ]at h⊢;obtain⟨x,lz,hx,h1,h2,h3,h4⟩:=h;exact⟨x,lz,hx,h1,bj.bi B8 (λ_ _ h=>h) _ _ h2,(oZ B8 (SizeOf.sizeOf e.2.2+1)).1 _ _ (by omega) h3,ih lz h4⟩
   exact key es _ hr
  |kc m s sn lt=>
   obtain⟨hc,Ny,hm⟩:=gH;exact⟨mE _ _ trivial hc,Ny,hm⟩
  |dT bD e sz av=>
   obtain⟨g1,g2,g3,g4⟩:=gH;refine⟨g1,g2,g3, ?_⟩;rcases g4 with g4|⟨g,cap,pa,hv,hp,hh,k1,k2,k3,k4⟩
   ·exact .inl g4
   ·exact .inr ⟨g,cap,pa,hv,hp,mE _ _ trivial hh,k1,k2,k3,du.bi B8 (λ_ _ h=>h) _ _ k4⟩
def gP.Cp{V:fo}{L:Loc}{gw w:World}{l:Nat}{r':Loop}(hg:l<gw.heap.size)(h:gP V go gL (gw.putObj l (.loop r)) ab L w):
  gP V go gL (gw.putObj l (.loop r')) ab L (w.putObj l (.loop r')):=by
 have hl:w.heap[l]? =some (.loop r):=h.dx.Xy _ _ (World.putObj_heap_same hg);have hlw:=(Zap.1 hl).1;have s1:(gw.putObj l (.loop r')).heap.size=gw.heap.size:=by simp[World.putObj]
 have s2:(gw.putObj l (.loop r)).heap.size=gw.heap.size:=by simp[World.putObj]
 have s3:(w.putObj l (.loop r')).heap.size=w.heap.size:=by simp[World.putObj]
 have g1:(gw.putObj l (.loop r')).heap[l]? =some (.loop r'):=World.putObj_heap_same hg;have g3:(w.putObj l (.loop r')).heap[l]? =some (.loop r'):=World.putObj_heap_same hlw;have o1:∀b,b≠l->(gw.putObj l (.loop r')).heap[b]? =(gw.putObj l (.loop r)).heap[b]? :=λb hb=>(World.putObj_heap_other hb).trans (World.putObj_heap_other hb).symm;have o3:∀b,b≠l->(w.putObj l (.loop r')).heap[b]? =w.heap[b]? :=λb hb=>World.putObj_heap_other hb;have hk:=h.dx.size;refine⟨⟨⟨by rw[s1,s3];rw[s2]at hk;exact hk,λb c e fr hb hn=>?_⟩,λb hb=>?_,λb rr hb=>?_⟩,λb hb hw=>?_,h.fix,h.dT,h.yl⟩
 ·have bT:b≠l:=by rintro rfl;rw[g1]at hb;cases hb
  rw[o1 b bT]at hb;rw[o3 b bT];exact h.dx.I1 b c e fr hb hn
 ·have bT:b≠l:=by rintro rfl;rw[g1]at hb;cases hb
  rw[o1 b bT]at hb;rw[o3 b bT];exact h.dx.W8 b hb
 ·by_cases bT:b=l
  ·subst bT;rw[g1]at hb;rw[g3];exact hb
  ·rw[o1 b bT]at hb;rw[o3 b bT];exact h.dx.Xy b rr hb
 ·rw[s1]at hb;exact h.sub b (by rw[s2];exact hb) hw
def Qz{n:Nat}(aC:ay P Γ)(yb:κ.Good P){o:Oper}{r:RO}(hc:dz P o=some (Bt r.d))(kv:r.dst=o.dst){st:RS}{a:Act}{w:World}{L:Loc}(h:eP κ nt st a w L)(hd:∀d,r.dst=some d->d<nt)
  (vx:st.ab (bN aJ r.dst)=none) (dq:(post Γ aJ r st).ok) {K:Act->World->Prop} {Q:Exit->Act->World->Prop}
  (hK:∀a' w' L',eP κ nt ⟨cU st.tmps r.dst (post Γ aJ r st).val,(post Γ aJ r st).ab,(post Γ aJ r st).todo⟩ a' w' L'->K a' w'):
  o.wpIn (iV ro) n P a w K Q:=by
 have hR:=h;obtain⟨⟨W,base,M,w0,dP,h0⟩,Gg,hdf,hbg,lr⟩:=h;refine⟨mC o w _, ?_⟩;have yd:∀c,o.op≠ .defer c:=nL hc;rw[show(iV ro).round=ro from rfl,Oper.semAt_eq ro _ o yd];by_cases h4:rP r.d=true
 ·unfold post at dq hK;rw[Zai h4]at dq hK;cases XT:r.d<;>rw[XT]at h4<;>first|(simp[rP]at h4;done)|skip
  case callS f args=>
   rw[XT]at hc dq hK;obtain⟨c,ho,cR⟩:=fz hc (.inl ⟨f,args,rfl⟩);obtain⟨fn,jx,dn,bT,Bv,pM⟩:=kX cR;have bW:=jO (P:=P) (w:=w) (a:=a) (g:=f) (bY:= #[]) ho (λx hx=>by rw[jx]at hx;cases hx;rfl) ⟨_,jx⟩ ⟨fn,dn,bT,Bv⟩;rw[ZbJ]at bW;rw[bW,Oper.uponIn_enter];refine⟨λhx=>(by cases hx),eQ ?_⟩;simp only[oi]at dq hK;cases hg:Γ f with
   |none=>simp[hg]at dq
   |some s=>
    simp only[hg]at dq hK;cases hk:s.st with
    |none=>simp[hk]at dq
    |some k=>
     simp only[hk]at dq hK;obtain⟨aT,rQ⟩:=(aC f s hg).st k hk _ _ dq;obtain⟨N,hN⟩:=lr;have aT:=aT N hN;refine(aT.run base W M w0 w L (c.args.map a.eval) h0.o (by simpa using gk h0.o.gl h0.tmps pM)).mono ?_;rintro e w' ⟨v,L',rfl,hO,hA,hv⟩;have:=hK _ _ _ (eP.put hR dP h0 r.dst hd hO hA hv ⟨N,λr hr=>rQ r (hN r hr)⟩);rw[<-kv];exact this
  case callv x args=>
   rw[XT]at hc dq hK;obtain⟨c,ho,cR⟩:=fz hc (.inr (.inr (.inl ⟨_,_,rfl⟩)));obtain⟨t,jx,rfl,pM⟩:=H4 cR;have ht:=h0.tmps t;simp only[oi,show bQ.ev st.tmps (.tmp t)=st.tmps t from rfl]at dq hK;cases hv:st.tmps t with
   |v tv=>
    rw[hv]at ht dq hK;cases tv with
    |fn fv bY=>
     cases fv with
     |func g=>
      simp only at dq hK;simp only[aA,bj]at ht;obtain⟨vs,hx,GJ⟩:=ht;cases hg:Γ g with
      |none=>simp[hg]at dq
      |some s=>
       simp only[hg]at dq hK;cases hk:s.st with
       |none=>
        simp only[hk]at dq hK;unfold pV at dq hK;simp only[hg]at dq hK;obtain⟨oY,tB⟩:=dq;have bW:=jO (P:=P) (w:=w) (a:=a) (g:=g) (bY:=vs) ho (λx mh=>by rw[jx]at mh;cases mh;exact hx) ⟨_,jx⟩ ((aC g s hg).pure _ tB).1.entry;rw[bW,Oper.uponIn_enter];refine⟨λhx=>(by cases hx),eQ ?_⟩;have B9:jD w W st.ab L (args.map (·.ev st.tmps)++bY.map .v) (c.args.map a.eval++vs).toList:=by
         simpa using jD.append (gk h0.o.gl h0.tmps pM) (Du GJ)
        refine(GI aC h0.o hg oY tB B9).mono ?_;rintro e w' ⟨v,rfl,hO,hA,tp⟩;have:=hK _ _ _ (eP.put hR dP h0 r.dst hd hO hA tp lr);rw[<-kv];exact this
       |some k=>
        simp only[hk]at dq hK;obtain⟨aT,rQ⟩:=(aC g s hg).st k hk _ _ dq;obtain⟨N,hN⟩:=lr;have aT:=aT N hN;have bW:=jO (P:=P) (w:=w) (a:=a) (g:=g) (bY:=vs) ho (λx mh=>by rw[jx]at mh;cases mh;exact hx) ⟨_,jx⟩ aT.entry;rw[bW,Oper.uponIn_enter];refine⟨λhx=>(by cases hx),eQ ?_⟩;have B9:jD w W st.ab L (args.map (·.ev st.tmps)++bY.map .v) (c.args.map a.eval++vs).toList:=by
         simpa using jD.append (gk h0.o.gl h0.tmps pM) (Du GJ)
        refine(aT.run base W M w0 w L _ h0.o B9).mono ?_;rintro e w' ⟨v,L',rfl,hO,hA,tp⟩;have:=hK _ _ _ (eP.put hR dP h0 r.dst hd hO hA tp ⟨N,λr hr=>rQ r (hN r hr)⟩);rw[<-kv];exact this
     |_=>simp at dq
    |mg rv=>
     simp only at dq hK;cases Xc:(dL.k:Option (Nat×(bB->bq->fI)))with
     |none=>simp[Xc]at dq
     |some p=>
      obtain⟨l,k⟩:=p;simp only[Xc]at dq hK;obtain⟨hrv,htd,pN,hkb⟩:=dq;subst hrv;simp only[aA,bj]at ht;cases hJ:κ.J with
      |some J=>
       have:=(yb.y J hJ).2.1;rw[Xc]at this;cases this
      |none=>
       have Dv:=dP;unfold oX.At at Dv;simp only[hJ]at Dv;obtain⟨ht0,rfl,rfl,rfl,rfl⟩:=Dv;cases hY:κ.Y with
       |none=>exact Zar (ht0 hY) htd
       |some p=>
        obtain⟨l',r1,s1⟩:=p;obtain⟨hb,hg,k',tU,hys'⟩:=yb.ys l' r1 s1 hY;rw[Xc]at tU;cases tU;have hgw:κ.NC st.todo=κ.gw.putObj l (.loop r1):=by
         cases htd2:st.todo with
         |nil=>exact Zar htd2 htd
         |cons _ _=>simp only[oX.NC,hY]
        rw[hgw]at Gg;have hltg:=(Zap.1 hg).1;have hlw:w.heap[l]? =some (.loop r1):=Gg.dx.Xy _ _ (World.putObj_heap_same hltg);have B9:jD w κ.W st.ab L (args.map (·.ev st.tmps)) (c.args.map a.eval).toList:=by
         simpa using gk h0.o.gl h0.tmps pM
        obtain⟨fn,tmps,assign,body,KD,H5⟩:=hys'.round w L st.ab _ (c.args.map a.eval) pN hkb lr hlw (by rw[World.uo hg]at Gg;exact Gg) h0.o B9;have bW:(execOp a.eval o).run P w=.ok (.round l fn tmps assign body) w:=by
         have:a.eval (.tmp t)=.func (.yield l) #[] #[]:=ht;simp[execOp,ho,resolve,jx,this,Deferred.ofValue,invoke,KD]
        rw[bW,Oper.uponIn_round];refine⟨λhx=>(by cases hx),wb ?_⟩;refine H5.mono ?_;rintro e B ⟨rfl,L',hO',hA'⟩;obtain⟨r2,xV⟩:=bb ((if yGo (k (args.map (·.ev st.tmps)) st.ab).val=true then r1 else s1));rw[xV]at hA';have XB:¬Obj.plain (.loop r1):=λe=>e;have B8:KeepsC (WW κ.W st.ab L) w (w.putObj l (.loop r2)):=⟨by simp[World.putObj],λb c e fr hb _=>ou hlw XB b _ trivial hb⟩;have h1:R0 κ.base κ.W κ.M κ.w0 nt st.tmps st.ab a (w.putObj l (.loop r2)) L:=⟨h0.size,λt=>(oZ B8 (SizeOf.sizeOf (st.tmps t)+1)).1 (st.tmps t) _ (Zcc _) (h0.tmps t),uq h0.o hlw XB hb⟩;obtain⟨Ds,hDs,hDn,hDk,hDJ⟩:=hdf;obtain⟨N,hN⟩:=lr;obtain⟨go,XU⟩:=bb (yGo (k (args.map (·.ev st.tmps)) st.ab).val);have c7:(k (args.map (·.ev st.tmps)) st.ab).val=.v (.bool go):=by
         rw[<-XU];revert hkb;cases(k (args.map (·.ev st.tmps)) st.ab).val with
         |v x=>cases x<;>simp[yIs,yGo]
         |_=>simp[yIs]
        rw[XU]at xV;simp only[c7,XA]at hK;have hR:eP κ nt ⟨cU st.tmps r.dst (.v (.bool go)),(k (args.map (·.ev st.tmps)) st.ab).ab,if go=true then st.todo else []⟩ (a.put r.dst (.bool go)) B L':=by
         refine⟨⟨κ.W,κ.base,κ.M,κ.w0, ?_,h1.put r.dst hd hO' hA' (by simp[aA,bj])⟩, ?_,⟨Ds,by rw[wI];exact hDs,hDn,λD hD=>⟨hA'.dx.W8 D ?_,(hDk D hD).2⟩,hDJ⟩,hbg,⟨N,λx hx=>dL.aN _ _ Xc _ _ pN x (hN x hx)⟩⟩
         ·unfold oX.At;simp only[hJ];exact⟨(λh=>by rw[hY]at h;cases h),trivial,trivial,trivial,trivial⟩
         ·have hg2:κ.NC (if go=true then st.todo else [])=κ.gw.putObj l (.loop r2):=by
           rw[<-xV];cases go
           ·simp[oX.NC,hY]
           ·rw[Zai rfl,hgw];simp
          rw[hg2];exact(gP.Cp hltg Gg).comp hA' (λ_ h=>.inl h) (λ_ h=>h)
         ·rw[World.putObj_heap_other (by rintro rfl;rw[(hDk _ hD).1]at hlw;cases hlw)];exact(hDk D hD).1
        have:=hK _ _ _ hR;rw[<-kv,XU];exact this
    |_=>simp at dq
   |NV=>
    rw[hv]at ht dq hK;simp only[aA]at ht;cases htd:st.todo with
    |nil=>simp[htd]at dq
    |cons y rest=>
     simp only[htd]at dq hK;obtain⟨Xc,oY,harg,XV⟩:=dq;rw[htd]at dP;unfold oX.At at dP;cases hJ:κ.J with
     |none=>
      simp only[hJ]at dP;have hY:κ.Y=none:=by
       cases hY:κ.Y with
       |none=>rfl
       |some p=>obtain⟨_,_,k,hk,_⟩:=yb.ys p.1 p.2.1 p.2.2 hY;rw[Xc]at hk;cases hk
      exact Zar (dP.1 hY) (by simp)
     |some J=>
      simp only[hJ]at dP;obtain⟨hj,rfl,rfl,Xd,hw2⟩:=dP;have hY:=(yb.y J hJ).2.2;rw[oX.KC hY]at Gg;have hy:=(yb.y J hJ).1;have hbw:vO w0.heap.size w0 w:=⟨⟨h0.o.fr.os,h0.o.fr.tape,h0.o.fr.output,h0.o.fr.size,λk hk=>h0.o.fr.block k hk (λx=>x)⟩,h0.o.fr.drawn⟩;have hjw:=hy.stays W (y::rest) w0 w hj hbw;have Co:∀b,WW W st.ab L b->W b:=by
       rintro b (hb|⟨r',o',h1,_⟩)
       ·exact hb
       ·rw[XV]at h1;cases h1
      have N7:fN w W y (c.args.map a.eval).toList:=by
       rw[<-harg];have:=mD W (fY:=false) h0.o (λx=>by cases x) (λb hb=>.inl hb) (gk h0.o.gl h0.tmps pM) oY;simpa using this
      obtain⟨fn,tmps,assign,body,KD,H5⟩:=hy.round W y rest (c.args.map a.eval) w hjw N7;have bW:(execOp a.eval o).run P w=.ok (.round L.yl fn tmps assign body) w:=by
       rw[<-Gg.yl]at KD;have:a.eval (.tmp t)=.func (.yield L.yl) #[] #[]:=ht;simp[execOp,ho,resolve,jx,this,Deferred.ofValue,invoke,KD]
      rw[bW,Oper.uponIn_round];refine⟨λhx=>(by cases hx),wb ?_⟩;rw[<-Gg.yl]at H5;refine H5.mono ?_;rintro e B ⟨rfl,W',hj',tU,fp,hmono⟩;have Dw:∀b,W b->b<w.heap.size:=λb hb=>by
       have h1:=h0.o.under b hb;have h2:=h0.o.fr.size;omega
      have hA0:gP W st.ab L w st.ab L B:=gP.cQ (tU.mono λb hb=>.inl hb);obtain⟨Ds,hDs,hDn,hDk,hDJ⟩:=hdf;have XW:B4 W W' st.ab L w st.ab L B:=by
       refine⟨tU.mono λb hb=>.inl hb,λb hb hw=>?_,λr o hr _=>⟨rfl,o,hr,rfl⟩,λr bD e sz av hr=>⟨bD,e,sz,av,hr,Zaf _,λ_=>⟨rfl,rfl,rfl⟩⟩,rfl⟩;rcases hw with hw|⟨r',o',h1,_⟩
       ·rcases(fp b hw).2 with h2|h2
        ·exact .inl h2
        ·omega
       ·rw[XV]at h1;cases h1
      have move:∀(d:DV) (x:Value),aA w W st.ab L d x->aA B W' st.ab L d x:=aA.eZ XW;have hO':ct B.heap.size W' (λ_=>False) B st.ab B L:=by
       refine⟨Fr.refl (Zaf _),λr o ho=>?_,λr r' o o' b _ ho=>?_,λr o b ho=>?_,λb hb=>(fp b hb).1,h0.o.gl.bi XW.dx.toKeepsC XW.sub⟩;all_goals rw[XV]at ho;cases ho
      have hR:eP κ nt ⟨cU st.tmps r.dst (.v (.bool true)),st.ab,rest⟩ (a.put r.dst (.bool true)) B L:=by
       refine⟨⟨W',B.heap.size,λ_=>False,B, ?_, ?_⟩,(by rw[oX.KC hY];exact Gg.comp hA0 Xd hw2),⟨Ds,by rw[wI];exact hDs,hDn,λD hD=>⟨tU.W8 D (hDk D hD).1,(hDk D hD).2⟩,hDJ⟩,hbg,lr⟩
       ·unfold oX.At;simp only[hJ];refine⟨hj',trivial,trivial,λb hb=>?_,λb hb=>hmono b (hw2 b hb)⟩;rcases(fp b hb).2 with h1|h1
        ·exact Xd b h1
        ·exact .inr (ZaP Gg.dx.size h1)
       ·have h1:R0 B.heap.size W' (λ_=>False) B nt st.tmps st.ab a B L:=⟨h0.size,λt=>move _ _ (h0.tmps t),hO'⟩;exact h1.put r.dst hd hO' (gP.cQ (dg.refl _ _)) (by simp[aA,bj])
      have:=hK _ _ _ hR;rw[<-kv];exact this
   |nG fv bY=>
    rw[hv]at ht dq hK;cases fv with
    |func g=>
     simp only at dq hK;simp only[aA]at ht;obtain⟨vs,hx,GJ⟩:=ht;cases hg:Γ g with
     |none=>simp[hg]at dq
     |some s=>
      simp only[hg]at dq hK;cases hk:s.st with
      |none=>simp[hk]at dq
      |some k=>
       simp only[hk]at dq hK;obtain⟨aT,rQ⟩:=(aC g s hg).st k hk _ _ dq;obtain⟨N,hN⟩:=lr;have aT:=aT N hN;have bW:=jO (P:=P) (w:=w) (a:=a) (g:=g) (bY:=vs) ho (λx mh=>by rw[jx]at mh;cases mh;exact hx) ⟨_,jx⟩ aT.entry;rw[bW,Oper.uponIn_enter];refine⟨λhx=>(by cases hx),eQ ?_⟩;have B9:jD w W st.ab L (args.map (·.ev st.tmps)++bY) (c.args.map a.eval++vs).toList:=by
        simpa using jD.append (gk h0.o.gl h0.tmps pM) (Bu GJ)
       refine(aT.run base W M w0 w L _ h0.o B9).mono ?_;rintro e w' ⟨v,L',rfl,hO,hA,tp⟩;have:=hK _ _ _ (eP.put hR dP h0 r.dst hd hO hA tp ⟨N,λr hr=>rQ r (hN r hr)⟩);rw[<-kv];exact this
    |_=>simp at dq
   |_=>rw[hv]at dq;simp at dq
  case entryM x=>
   rw[XT]at hc dq hK;have Xb:dz P o=some (.entryM x):=hc;obtain⟨y,ho,hy⟩:=Ge Xb;simp only[oi]at dq hK;obtain⟨nx,v,w',L',bW,Dx,hO,hA,hv⟩:=H6 h0.o ho (bQ.bP h0.o.gl h0.tmps hy) dq;have oV:(kV st.ab (x.ev st.tmps)).put=none:=by unfold kV;(repeat' split)<;>rfl
   rw[oV]at hO hA hv;rw[bW];rcases Dx with rfl|⟨rfl,rfl⟩
   ·rw[Oper.uponIn_value,<-kv];exact hK _ _ _ (eP.put hR dP h0 r.dst hd hO hA hv lr)
   ·rw[Oper.uponIn_skip,<-kv];exact hK _ _ _ (eP.put hR dP h0 r.dst hd hO hA hv lr)
 ·have h4':rP r.d=false:=by simpa using h4
  have Xa:=hc;have hbdF:∀f args,r.d=.callF f args->Bt r.d=.call f args:=λf args h=>by rw[h];rfl
  unfold post at dq hK;rw[Zab h4]at dq hK;simp only at dq hK;by_cases nP:∃f args,r.d=.call f args
  ·obtain⟨f,args,Vq⟩:=nP;rw[Vq]at hc;obtain⟨c,ho,cR⟩:=fz hc (.inl ⟨f,args,rfl⟩);obtain⟨fn,jx,dn,bT,Bv,pM⟩:=kX cR;have bW:=jO (P:=P) (w:=w) (a:=a) (g:=f) (bY:= #[]) ho (λx hx=>by rw[jx]at hx;cases hx;rfl) ⟨_,jx⟩ ⟨fn,dn,bT,Bv⟩;rw[ZbJ]at bW;rw[bW,Oper.uponIn_enter];refine⟨λhx=>(by cases hx),eQ ?_⟩;simp only[oq,Vq,dj,pV]at dq hK;cases hg:Γ f with
   |none=>simp[hg,cZ]at dq
   |some s=>
    simp only[hg]at dq hK;obtain⟨oY,tB⟩:=dq;refine(GI aC h0.o hg oY tB (cA:=c.args.map a.eval) (by simpa using gk h0.o.gl h0.tmps pM)).mono ?_;rintro e w' ⟨v,rfl,hO,hA,tp⟩;have:=hK _ _ _ (eP.put hR dP h0 r.dst hd hO hA tp lr);rw[<-kv];exact this
  ·by_cases N9:∃f args,r.d=.callF f args
   ·obtain⟨f,args,Vq⟩:=N9;have gI:dz P o=some (.call f args):=by rw[<-hbdF f args Vq];exact Xa
    obtain⟨c,ho,cR⟩:=fz gI (.inl ⟨f,args,rfl⟩);obtain⟨fn,jx,dn,bT,Bv,pM⟩:=kX cR;have bW:=jO (P:=P) (w:=w) (a:=a) (g:=f) (bY:= #[]) ho (λx hx=>by rw[jx]at hx;cases hx;rfl) ⟨_,jx⟩ ⟨fn,dn,bT,Bv⟩;rw[ZbJ]at bW;rw[bW,Oper.uponIn_enter];refine⟨λhx=>(by cases hx),eQ ?_⟩;simp only[oq,Vq,dj,oT]at dq hK;cases hg:Γ f with
    |none=>simp[hg,cZ]at dq
    |some s=>
     simp only[hg]at dq hK;cases xK:s.fresh with
     |none=>simp[xK,cZ]at dq
     |some q=>
      obtain⟨e,sz⟩:=q;simp only[xK]at dq hK;cases hrw:s.fn (ji st.ab (args.map (·.ev st.tmps)))<;>simp only[hrw,cZ]at dq hK<;>try exact dq.elim
      rename_i av;obtain⟨oY,tB⟩:=dq;obtain⟨eN,h1,h2,h3⟩:=(aC f s hg).fresh e sz xK _ tB;rw[hrw]at h1;cases h1;refine(N8 h0.o oY h2 h3 (cA:=c.args.map a.eval) (by simpa using gk h0.o.gl h0.tmps pM) vx).mono ?_;rintro e' w' ⟨v,L',rfl,hO,hA,tp⟩;have Dy:∃N,∀r',N<=r'->(cG st.ab (some (bN aJ r.dst,.dT 0 e sz av))) r'=none:=by
       obtain⟨N,hN⟩:=lr;refine⟨max N (bN aJ r.dst+1),λr' gD=>?_⟩;simp only[cG];rw[Zab (by omega)];exact hN r' (by omega)
      have:=hK _ _ _ (eP.put hR dP h0 r.dst hd hO hA tp Dy);rw[<-kv];exact this
   by_cases Oa:∃f args,r.d=.callR f args
   ·obtain⟨f,args,Vq⟩:=Oa;have gI:dz P o=some (.call f args):=by rw[show(rO.call f args)=Bt r.d by rw[Vq];rfl];exact Xa
    obtain⟨c,ho,cR⟩:=fz gI (.inl ⟨f,args,rfl⟩);obtain⟨fn,jx,dn,bT,Bv,pM⟩:=kX cR;have bW:=jO (P:=P) (w:=w) (a:=a) (g:=f) (bY:= #[]) ho (λx hx=>by rw[jx]at hx;cases hx;rfl) ⟨_,jx⟩ ⟨fn,dn,bT,Bv⟩;rw[ZbJ]at bW;rw[bW,Oper.uponIn_enter];refine⟨λhx=>(by cases hx),eQ ?_⟩;simp only[oq,Vq,dj,oS]at dq hK;cases hg:Γ f with
    |none=>simp[hg,cZ]at dq
    |some s=>
     simp only[hg]at dq hK;cases hk:s.st with
     |none=>simp[hk,cZ]at dq
     |some k=>
      simp only[hk]at dq hK;obtain⟨H7,XV,c7⟩:=dq st.ab (λ_ _=>rfl);obtain⟨aT,rQ⟩:=(aC f s hg).st k hk _ _ H7;obtain⟨N,hN⟩:=lr;have aT:=aT N hN;refine(aT.run base W M w0 w L (c.args.map a.eval) h0.o (by simpa using gk h0.o.gl h0.tmps pM)).mono ?_;rintro e w' ⟨v,L',rfl,hO,hA,hv⟩;rw[XV]at hO hA hv;rw[c7]at hv;have:=hK _ _ _ (eP.put hR dP h0 r.dst hd hO hA hv ⟨N,hN⟩);rw[<-kv];exact this
   by_cases hmkB:∃e sz N4 zero n,r.d=.mkSliceB e sz N4 zero n
   ·obtain⟨e,sz,N4,zero,n,Vq⟩:=hmkB;have gI:dz P o=some (.mkSlice e sz N4 zero n):=by rw[show(rO.mkSlice e sz N4 zero n)=Bt r.d by rw[Vq];rfl];exact Xa
    simp only[oq,Vq,dj]at dq hK;obtain⟨nx,v,w',L',bW,Dx,hO,hA,hv⟩:=Vp h0.o gI h0.tmps vx dq;have Dy:∃N,∀r',N<=r'->(cG st.ab (gh sz N4 zero (bN aJ r.dst) (n.ev st.tmps)).put) r'=none:=by
     obtain⟨N,hN⟩:=lr;cases hp:(gh sz N4 zero (bN aJ r.dst) (n.ev st.tmps)).put with
     |none=>exact⟨N,hN⟩
     |some q=>
      obtain⟨t,o'⟩:=q;refine⟨max N (t+1),λr' gD=>?_⟩;simp only[cG];rw[Zab (by omega)];exact hN r' (by omega)
    rw[bW];rcases Dx with rfl|⟨rfl,rfl⟩
    ·rw[Oper.uponIn_value,<-kv];exact hK _ _ _ (eP.put hR dP h0 r.dst hd hO hA hv Dy)
    ·rw[Oper.uponIn_skip,<-kv];exact hK _ _ _ (eP.put hR dP h0 r.dst hd hO hA hv Dy)
   have hbd:Bt r.d=r.d:=by
    cases XT:r.d<;>rw[XT]at h4' N9 Oa hmkB<;>first|rfl|(simp[rP]at h4';done)|exact Zar ⟨_,_,rfl⟩ N9|exact Zar ⟨_,_,rfl⟩ Oa|exact Zar ⟨_,_,_,_,_,rfl⟩ hmkB
   rw[hbd]at hc;have Dy:∃N,∀r',N<=r'->(cG st.ab (oq Γ aJ r st).put) r'=none:=by
    obtain⟨N,hN⟩:=lr;cases hp:(oq Γ aJ r st).put with
    |none=>exact⟨N,hN⟩
    |some q=>
     obtain⟨t,o'⟩:=q;refine⟨max N (t+1),λr' gD=>?_⟩;simp only[cG];rw[Zab (by omega)];exact hN r' (by omega)
   obtain⟨nx,v,w',L',bW,Dx,hO,hA,hv⟩:=XP (Γ:=Γ) (name:=bN aJ r.dst) hc (λf args e=>nP ⟨f,args,e⟩) h0.tmps h0.o vx dq;rw[bW];rcases Dx with rfl|⟨rfl,rfl⟩
   ·rw[Oper.uponIn_value,<-kv];exact hK _ _ _ (eP.put hR dP h0 r.dst hd hO hA hv Dy)
   ·rw[Oper.uponIn_skip,<-kv];exact hK _ _ _ (eP.put hR dP h0 r.dst hd hO hA hv Dy)
end
end
section
variable{xs:List bQ}{r:Nat}
variable [bI]
def nI:rO->Nat
 |.alloc _|.box _|.mkSlice .. |.mkSliceB .. |.mkMap .. =>2
 |.store .. |.append .. |.mapUpd .. |.mapEnt .. |.entSt .. |.mapDel .. |.copy .. |.rangeM _|.callF .. =>3
 |.load .. |.eqT .. |.idxAddr .. |.len _|.call .. |.callR .. |.slice .. |.lookup .. |.lenM _|.isNil .. =>1
 |.callS .. |.callv .. |.entryM _=>4
 |_=>0
section
variable{Γ:pI}{d:rO}{name:Nat}{ρ XX:dw}{ab aI:bq}
def jP(h:∀x∈xs,x.ev ρ=x.ev XX):xs.map (·.ev ρ)=xs.map (·.ev XX):=Zbq h
def Ad(h:∀x∈bG d,x.ev ρ=x.ev XX):dj Γ d name ρ ab=dj Γ d name XX ab:=by
 cases d;case build z ps=>
  have:ps.map (λp=>(p.1,p.2.1,p.2.2.ev ρ))=ps.map (λp=>(p.1,p.2.1,p.2.2.ev XX)):=Zbq λp hp=>by rw[h p.2.2 (Zak.2 ⟨p,hp,rfl⟩)]
  simp only[dj,this]
 case bslice n sz z ps=>
  have:ps.map (λp=>(p.1,p.2.1,p.2.2.ev ρ))=ps.map (λp=>(p.1,p.2.1,p.2.2.ev XX)):=Zbq λp hp=>by rw[h p.2.2 (Zak.2 ⟨p,hp,rfl⟩)]
  simp only[dj,this]
 case slice sz x lo hi=>
  have h1:=h x (by simp[bG]);have h2:lo.map (·.ev ρ)=lo.map (·.ev XX):=by cases lo<;>simp;exact h _ (by simp[bG])
  have h3:hi.map (·.ev ρ)=hi.map (·.ev XX):=by cases hi<;>simp;exact h _ (by simp[bG])
  simp only[dj,h1,h2,h3]
 case call f xs=>simp only[dj,jP (xs:=xs) h]
 case callF f xs=>simp only[dj,jP (xs:=xs) h]
 case callR f xs=>simp only[dj,jP (xs:=xs) h]
 case callS f xs=>rfl
 case callv x xs=>rfl
 case mkFn f xs=>simp only[dj,jP (xs:=xs) h]
 all_goals (simp only[bG,Zah,Zal,or_false,forall_eq_or_imp,forall_eq]at h;simp only[dj,h])
def Dz(h:nI d=0\/nI d=2):dj Γ d name ρ ab=dj Γ d name ρ aI:=by
 cases d<;>first|rfl|(simp[nI]at h;done)
mutual
def fg(ab:bq):DV->Prop
 |.ptr r _|.bA r _|.ka r _ _ _|.iE r|.kc r|.u9 r _ _ _|.F9 r _=>ab r≠none
 |.agg cs|.eo cs|.nG _ cs=>fZ ab cs
 |_=>True
def fZ(ab:bq):bB->Prop
 |[]=>True
 |d::ds=>fg ab d/\fZ ab ds
end
mutual
def fg.bP{w:World}{W:fo}{L:Loc}:∀(d:DV) (x:Value),aA w W ab L d x->fg ab d
 |.ptr r off,x,h=>by simp only[aA]at h;obtain⟨⟨cs,hc⟩,_⟩:=h;simp[fg,hc]
 |.F9 r n,x,h=>by simp only[aA]at h;obtain⟨⟨cs,hc⟩,_⟩:=h;simp[fg,hc]
 |.bA r bD,x,h=>by simp only[aA]at h;obtain⟨_,v,e,s,av,hc,_⟩:=h;simp[fg,hc]
 |.ka r bD i off,x,h=>by simp only[aA]at h;obtain⟨_,v,e,s,av,hc,_⟩:=h;simp[fg,hc]
 |.iE r,x,h=>by simp only[aA]at h;obtain⟨⟨_,_,_,_,hc⟩,_⟩:=h;simp[fg,hc]
 |.kc r,x,h=>by simp only[aA]at h;obtain⟨⟨_,_,_,_,hc⟩,_⟩:=h;simp[fg,hc]
 |.u9 r bD lo n,x,h=>by simp only[aA]at h;obtain⟨_,v,e,s,av,hc,_⟩:=h;simp[fg,hc]
 |.eo cs,x,h=>by simp only[aA]at h;obtain⟨vs,_,hr⟩:=h;simp only[fg];exact fZ.QA cs _ hr
 |.nG f cs,x,h=>by simp only[aA]at h;obtain⟨vs,_,hr⟩:=h;simp only[fg];exact fZ.bP cs _ hr
 |.agg cs,x,h=>by simp only[aA]at h;obtain⟨vs,_,hr⟩:=h;simp only[fg];exact fZ.bP cs _ hr
 |.undef,_,_|.skip,_,_|.v _,_,_|.aW,_,_|.l7 _ _ _,_,_|.iD _ _,_,_|.NV,_,_=>by simp[fg]
def fZ.bP{w:World}{W:fo}{L:Loc}:∀(ds:bB) (xs:List Value),aQ w W ab L ds xs->fZ ab ds
 |[],_,_=>by simp[fZ]
 |d::ds,xs,h=>by
  simp only[aQ]at h;obtain⟨x,lz,_,_,h1,h2⟩:=h;simp only[fZ];exact⟨fg.bP d x h1,fZ.bP ds lz h2⟩
def fZ.QA{w:World}{W:fo}{L:Loc}:∀(ds:bB) (xs:List Value),eE w W ab L ds xs->fZ ab ds
 |[],_,_=>by simp[fZ]
 |d::ds,xs,h=>by
  simp only[eE]at h;obtain⟨x,lz,_,h1,h2⟩:=h;simp only[fZ];exact⟨fg.bP d x h1,fZ.QA ds lz h2⟩
end
mutual
def fg.aN:∀(d:DV),fg ab d->∀n∈aN d,ab n≠none
 |.ptr r off,h,n,hn=>by simp only[DM.aN,Zan]at hn;subst hn;simpa only[fg]using h
 |.F9 r m,h,n,hn=>by simp only[DM.aN,Zan]at hn;subst hn;simpa only[fg]using h
 |.bA r bD,h,n,hn=>by simp only[DM.aN,Zan]at hn;subst hn;simpa only[fg]using h
 |.ka r bD i off,h,n,hn=>by simp only[DM.aN,Zan]at hn;subst hn;simpa only[fg]using h
 |.iE r,h,n,hn=>by simp only[DM.aN,Zan]at hn;subst hn;simpa only[fg]using h
 |.kc r,h,n,hn=>by simp only[DM.aN,Zan]at hn;subst hn;simpa only[fg]using h
 |.u9 r _ _ _,h,n,hn=>by simp only[DM.aN,Zan]at hn;subst hn;simpa only[fg]using h
 |.eo cs,h,n,hn=>by simp only[DM.aN]at hn;simp only[fg]at h;exact fZ.aN cs h n hn
 |.nG f cs,h,n,hn=>by simp only[DM.aN]at hn;simp only[fg]at h;exact fZ.aN cs h n hn
 |.agg cs,h,n,hn=>by simp only[DM.aN]at hn;simp only[fg]at h;exact fZ.aN cs h n hn
 |.NV,_,n,hn|.undef,_,n,hn|.skip,_,n,hn|.v _,_,n,hn|.aW,_,n,hn|.l7 _ _ _,_,n,hn|.iD _ _,_,n,hn=>by simp[DM.aN]at hn
def fZ.aN:∀(ds:bB),fZ ab ds->∀n∈bM ds,ab n≠none
 |[],_,n,hn=>by simp[bM]at hn
 |d::ds,h,n,hn=>by
  simp only[fZ]at h;simp only[bM,Zaq]at hn;rcases hn with hn|hn
  ·exact fg.aN d h.1 n hn
  ·exact fZ.aN ds h.2 n hn
end
def Ext(ab aI:bq):Prop:=∀r,ab r≠none->aI r=ab r
mutual
def H8:∀(d:DV),(∀n∈aN d,aI n=ab n)->tz aI d=tz ab d
 |.bA r bD,hr=>by simp only[tz,hr r (by simp[aN])]
 |.agg cs,hr=>by simp only[tz,qT cs (λn hn=>hr n (by simpa only[aN]using hn))]
 |.nG f cs,hr=>by simp only[tz,qT cs (λn hn=>hr n (by simpa only[aN]using hn))]
 |.u9 r bD lo n,hr=>by simp only[tz,hr r (by simp[aN])]
 |.undef,_|.skip,_|.v _,_|.aW,_|.ptr _ _,_|.l7 _ _ _,_|.iD _ _,_|.ka _ _ _ _,_|.NV,_|.iE _,_|.kc _,_|.eo _,_|.F9 _ _,_=>by simp[tz]
def qT:∀(ds:bB),(∀n∈bM ds,aI n=ab n)->ji aI ds=ji ab ds
 |[],_=>rfl
 |d::ds,hr=>by simp only[ji,H8 d (λn hn=>hr n (by simp[bM,hn])),qT ds (λn hn=>hr n (by simp[bM,hn]))]
end
mutual
def H9(l:Bool):∀(d:DV),(∀n∈aN d,aI n=ab n)->F3 l aI d=F3 l ab d
 |.bA r bD,hr=>by simp only[F3,hr r (by simp[aN])]
 |.agg cs,hr=>by simp only[F3,ur l cs (λn hn=>hr n (by simpa only[aN]using hn))]
 |.nG f cs,hr=>by simp only[F3,ur l cs (λn hn=>hr n (by simpa only[aN]using hn))]
 |.u9 r bD lo n,hr=>by simp only[F3,hr r (by simp[aN])]
 |.undef,_|.skip,_|.v _,_|.aW,_|.ptr _ _,_|.l7 _ _ _,_|.iD _ _,_|.ka _ _ _ _,_|.NV,_|.iE _,_|.kc _,_|.eo _,_|.F9 _ _,_=>by simp[F3]
def ur(l:Bool):∀(ds:bB),(∀n∈bM ds,aI n=ab n)->tA l aI ds=tA l ab ds
 |[],_=>rfl
 |d::ds,hr=>by simp only[tA,H9 l d (λn hn=>hr n (by simp[bM,hn])),ur l ds (λn hn=>hr n (by simp[bM,hn]))]
end
def o6{n:Nat}:n∈bM (xs.map (·.ev ρ))->∃x∈xs,n∈aN (x.ev ρ):=by
 induction xs with
 |nil=>simp[bM]
 |cons x xs ih=>
  simp only[ZaA,bM,Zaq];rintro(h|h)
  ·exact⟨x,by simp,h⟩
  ·obtain⟨y,hy,hn⟩:=ih h;exact⟨y,by simp[hy],hn⟩
def KE(d:DV):∀n∈bM (cellsOf d),n∈aN d:=by
 have hv:∀cs:aK,bM (cs.map .v)=[]:=by
  intro cs;induction cs with
  |nil=>rfl
  |cons c cs ih=>simp only[ZaA,bM,aN,ih,ZaC]
 intro n hn;cases d with
 |v t=>cases t<;>simp[cellsOf,bM,aN,hv]at hn
 |agg cs=>simpa [cellsOf,aN]using hn
 |_=>simpa [cellsOf,bM]using hn
def Bw{d:DV}(hy:∀n∈aN d,aI n=ab n):fL aI d=fL ab d:=by
 cases d<;>simp only[aN,Zan,forall_eq]at hy<;>first|rfl|(simp only[fL,hy];done)|skip
 rename_i t;cases t<;>first|rfl|skip
 rename_i v;cases v<;>first|rfl|skip
 rename_i p n c;cases n<;>rfl
def Ae(hr:∀x∈bG d,∀n∈aN (x.ev ρ),aI n=ab n):dj Γ d name ρ aI=dj Γ d name ρ ab:=by
 by_cases h0:nI d=0\/nI d=2
 ·exact Dz h0
 cases d<;>first|exact Zar (Or.inl rfl) h0|exact Zar (Or.inr rfl) h0|rfl|skip
 case load n agg x=>
  have hx:=hr x (by simp[bG]);simp only[dj];cases hv:x.ev ρ<;>rw[hv]at hx<;>simp only[aN,Zan,forall_eq]at hx<;>first|rfl|(simp only[iF,hx];done)|(rename_i t;cases t<;>rfl)
 case store n x y=>
  have hx:=hr x (by simp[bG]);have hy:=hr y (by simp[bG]);have hyc:ji aI (cellsOf (y.ev ρ))=ji ab (cellsOf (y.ev ρ)):=qT _ λn hn=>hy n (KE _ n hn);simp only[dj];cases hv:x.ev ρ<;>rw[hv]at hx<;>simp only[aN,Zan,forall_eq]at hx<;>first|rfl|(simp only[lG,hx,hyc];done)|(rename_i t;cases t<;>rfl)
 case eqT neg agg cj x y=>
  have hx:=hr x (by simp[bG]);have hy:=hr y (by simp[bG]);simp only[dj,H9 true _ hx,H9 true _ hy,H8 _ hx,H8 _ hy]
 case idxAddr sz x i=>
  have hx:=hr x (by simp[bG]);simp only[dj];cases hv:x.ev ρ<;>rw[hv]at hx<;>simp only[aN,Zan,forall_eq]at hx<;>first|rfl|skip
  ·rename_i t;cases t<;>first|rfl|(cases i.ev ρ<;>first|rfl|(rename_i t;cases t<;>rfl))
  ·cases i.ev ρ<;>first|rfl|skip
   rename_i t;cases t<;>first|rfl|(simp only[rZ,hx])
  ·cases i.ev ρ<;>first|rfl|skip
   rename_i t;cases t<;>first|rfl|(simp only[rZ,hx])
  ·cases i.ev ρ<;>first|rfl|skip
   rename_i t;cases t<;>rfl
 case len x=>
  have hx:=hr x (by simp[bG]);simp only[dj];cases hv:x.ev ρ<;>rw[hv]at hx<;>simp only[aN,Zan,forall_eq]at hx<;>first|rfl|(simp only[wC,hx];done)|(rename_i t;cases t<;>rfl)
 case call f xs=>
  have hx:∀n∈bM (xs.map (·.ev ρ)),aI n=ab n:=λn hn=>by obtain⟨x,hx,hn⟩:=o6 hn;exact hr x hx n hn
  simp only[dj,pV,ur _ _ hx,qT _ hx]
 case callF f xs=>
  have hx:∀n∈bM (xs.map (·.ev ρ)),aI n=ab n:=λn hn=>by obtain⟨x,hx,hn⟩:=o6 hn;exact hr x hx n hn
  simp only[dj,oT,ur _ _ hx,qT _ hx]
 case callR f xs=>
  have hx:∀n∈bM (xs.map (·.ev ρ)),aI n=ab n:=λn hn=>by obtain⟨x,hx,hn⟩:=o6 hn;exact hr x hx n hn
  simp only[dj,HK hx]
 case append e sz bytes x y=>
  have hx:=hr x (by simp[bG]);have hy:=hr y (by simp[bG]);have hs:fL aI (y.ev ρ)=fL ab (y.ev ρ):=Bw hy;simp only[dj,wy,hs];cases fL ab (y.ev ρ)with
  |none=>rfl
  |some ys=>
   cases hv:x.ev ρ<;>rw[hv]at hx<;>simp only[aN,Zan,forall_eq]at hx<;>first|rfl|(simp only[hx];done)|(rename_i t;cases t<;>rfl)|skip
   rename_i r bD lo n;cases lo<;>simp only[hx]
 case slice sz x lo hi=>
  have hx:=hr x (by simp[bG]);simp only[dj];cases hv:x.ev ρ<;>rw[hv]at hx<;>simp only[aN,Zan,forall_eq]at hx<;>first|rfl|(simp only[jA,hx];done)|(rename_i t;cases t<;>rfl)
 case lookup cj agg z ok x k=>
  have hx:=hr x (by simp[bG]);simp only[dj];cases hv:x.ev ρ<;>rw[hv]at hx<;>simp only[aN,Zan,forall_eq]at hx<;>first|rfl|(rename_i t;cases t<;>rfl)|(cases hkk:zV (k.ev ρ)<;>simp only[mw,hx,hkk])
 case mapUpd cj agg x k y=>
  have hx:=hr x (by simp[bG]);simp only[dj];cases hv:x.ev ρ<;>rw[hv]at hx<;>simp only[aN,Zan,forall_eq]at hx<;>first|rfl|(rename_i t;cases t<;>rfl)|(cases hkk:zV (k.ev ρ)<;>simp only[ja,hx,hkk])
 case mapEnt cj agg z x k=>
  have hx:=hr x (by simp[bG]);simp only[dj];cases hv:x.ev ρ<;>rw[hv]at hx<;>simp only[aN,Zan,forall_eq]at hx<;>first|rfl|(rename_i t;cases t<;>rfl)|(cases hkk:zV (k.ev ρ)<;>simp only[jd,hx,hkk])
 case entSt x s y=>
  have hx:=hr x (by simp[bG]);simp only[dj];cases hv:x.ev ρ<;>rw[hv]at hx<;>simp only[aN,Zan,forall_eq]at hx<;>first|rfl|(rename_i t;cases t<;>rfl)|(unfold ku;split<;>first|rfl|(rename_i e _;cases e;simp only[hx]))
 case mapDel cj agg x k=>
  have hx:=hr x (by simp[bG]);simp only[dj];cases hv:x.ev ρ<;>rw[hv]at hx<;>simp only[aN,Zan,forall_eq]at hx<;>first|rfl|(rename_i t;cases t<;>rfl)|(cases hkk:zV (k.ev ρ)<;>simp only[je,hx,hkk])
 case lenM x=>
  have hx:=hr x (by simp[bG]);simp only[dj];cases hv:x.ev ρ<;>rw[hv]at hx<;>simp only[aN,Zan,forall_eq]at hx<;>first|rfl|(simp only[r9,hx];done)|(rename_i t;cases t<;>rfl)
 case rangeM x=>
  have hx:=hr x (by simp[bG]);simp only[dj];cases hv:x.ev ρ<;>rw[hv]at hx<;>simp only[aN,Zan,forall_eq]at hx<;>first|rfl|(simp only[kU,hx];done)|(rename_i t;cases t<;>rfl)
 case isNil kind neg x=>
  have hx:=hr x (by simp[bG]);simp only[dj];cases hv:x.ev ρ<;>rw[hv]at hx<;>simp only[aN,Zan,forall_eq]at hx<;>first|rfl|(simp only[gj,hx];done)|(unfold gj;split<;>first|rfl|(rename_i e;cases e))
 case copy sz x y=>
  have hx:=hr x (by simp[bG]);have hy:=hr y (by simp[bG]);simp only[dj,jN,Bw hy];cases fL ab (y.ev ρ)with
  |none=>rfl
  |some ys=>
   cases hv:x.ev ρ<;>rw[hv]at hx<;>simp only[aN,Zan,forall_eq]at hx<;>first|rfl|(simp only[hx];done)|(rename_i t;cases t<;>rfl)
def sem_ext(h:Ext ab aI)(hr:∀x∈bG d,fg ab (x.ev ρ)):dj Γ d name ρ aI=dj Γ d name ρ ab:=
 Ae λx hx n hn=>h n (fg.aN _ (hr x hx) n hn)
def ut:rO->Bool
 |.alloc _|.box _|.mkSlice .. |.mkSliceB .. |.append .. |.mkMap .. |.rangeM _|.callF .. =>true
 |_=>false
def vf{o:Ob}(h:nI d=3)(hp:(dj Γ d name ρ ab).put=some (r,o)):r=name\/∃x∈bG d,r∈aN (x.ev ρ):=by
 cases d<;>first|(simp[nI]at h;done)|skip
 case store n x y=>
  simp only[dj]at hp;unfold lG at hp;split at hp
  ·rename_i hv;split at hp
   ·simp only[Zaa,Zav]at hp;obtain⟨rfl,_⟩:=hp;exact .inr ⟨x,by simp[bG],by simp[hv,aN]⟩
   ·cases hp
  ·rename_i hv;split at hp
   ·simp only[Zaa,Zav]at hp;obtain⟨rfl,_⟩:=hp;exact .inr ⟨x,by simp[bG],by simp[hv,aN]⟩
   ·cases hp
  ·cases hp
 case append e sz N4 x y=>
  simp only[dj]at hp;unfold wy at hp;split at hp
  ·cases hp
  ·split at hp
   ·simp only[Zaa,Zav]at hp;exact .inl hp.1.symm
   ·rename_i hv;split at hp
    ·simp only[Zaa,Zav]at hp;obtain⟨rfl,_⟩:=hp;exact .inr ⟨x,by simp[bG],by simp[hv,aN]⟩
    ·cases hp
   ·rename_i hv;split at hp
    ·simp only[Zaa,Zav]at hp;obtain⟨rfl,_⟩:=hp;exact .inr ⟨x,by simp[bG],by simp[hv,aN]⟩
    ·cases hp
   ·cases hp
 case copy sz x y=>
  simp only[dj]at hp;unfold jN at hp;split at hp
  ·cases hp
  ·split at hp
   ·rename_i hv;split at hp
    ·simp only[Zaa,Zav]at hp;obtain⟨rfl,_⟩:=hp;exact .inr ⟨x,by simp[bG],by simp[hv,aN]⟩
    ·cases hp
   ·rename_i hv;split at hp
    ·simp only[Zaa,Zav]at hp;obtain⟨rfl,_⟩:=hp;exact .inr ⟨x,by simp[bG],by simp[hv,aN]⟩
    ·cases hp
   ·cases hp
 case mapUpd cj agg x k y=>
  simp only[dj]at hp;unfold ja at hp;split at hp
  ·rename_i hv _;split at hp
   ·simp only[Zaa,Zav]at hp;obtain⟨rfl,_⟩:=hp;exact .inr ⟨x,by simp[bG],by simp[hv,aN]⟩
   ·cases hp
  ·cases hp
 case mapEnt cj agg z x k=>
  simp only[dj]at hp;unfold jd at hp;split at hp
  ·rename_i hv _;split at hp
   ·simp only[Zaa,Zav]at hp;obtain⟨rfl,_⟩:=hp;exact .inr ⟨x,by simp[bG],by simp[hv,aN]⟩
   ·cases hp
  ·cases hp
 case entSt x s y=>
  simp only[dj]at hp;unfold ku at hp;split at hp
  ·rename_i hv _;split at hp
   ·split at hp
    ·simp only[Zaa,Zav]at hp;obtain⟨rfl,_⟩:=hp;exact .inr ⟨x,by simp[bG],by simp[hv,aN]⟩
    ·cases hp
   ·cases hp
  ·cases hp
 case mapDel cj agg x k=>
  simp only[dj]at hp;unfold je at hp;split at hp
  ·rename_i hv _;split at hp
   ·simp only[Zaa,Zav]at hp;obtain⟨rfl,_⟩:=hp;exact .inr ⟨x,by simp[bG],by simp[hv,aN]⟩
   ·cases hp
  ·cases hp
 case rangeM x=>
  simp only[dj]at hp;unfold kU at hp;split at hp
  ·split at hp
   ·simp only[Zaa,Zav]at hp;exact .inl hp.1.symm
   ·cases hp
  ·cases hp
 case callF f xs=>
  simp only[dj]at hp;unfold oT at hp
  (repeat' split at hp)<;>first|(cases hp;done)|(simp only[Zaa,Zav]at hp;exact .inl hp.1.symm)
def Oc{o:Ob}(h:nI d=3)(hl:ut d=false)(hp:(dj Γ d name ρ ab).put=some (r,o)):∃x∈bG d,r∈aN (x.ev ρ):=by
 cases d<;>first|(simp[nI]at h;done)|(simp[ut]at hl;done)|skip
 case store n x y=>
  simp only[dj]at hp;unfold lG at hp;split at hp
  ·rename_i hv;split at hp
   ·simp only[Zaa,Zav]at hp;obtain⟨rfl,_⟩:=hp;exact⟨x,by simp[bG],by simp[hv,aN]⟩
   ·cases hp
  ·rename_i hv;split at hp
   ·simp only[Zaa,Zav]at hp;obtain⟨rfl,_⟩:=hp;exact⟨x,by simp[bG],by simp[hv,aN]⟩
   ·cases hp
  ·cases hp
 case copy sz x y=>
  simp only[dj]at hp;unfold jN at hp;split at hp
  ·cases hp
  ·split at hp
   ·rename_i hv;split at hp
    ·simp only[Zaa,Zav]at hp;obtain⟨rfl,_⟩:=hp;exact⟨x,by simp[bG],by simp[hv,aN]⟩
    ·cases hp
   ·rename_i hv;split at hp
    ·simp only[Zaa,Zav]at hp;obtain⟨rfl,_⟩:=hp;exact⟨x,by simp[bG],by simp[hv,aN]⟩
    ·cases hp
   ·cases hp
 case mapUpd cj agg x k y=>
  simp only[dj]at hp;unfold ja at hp;split at hp
  ·rename_i hv _;split at hp
   ·simp only[Zaa,Zav]at hp;obtain⟨rfl,_⟩:=hp;exact⟨x,by simp[bG],by simp[hv,aN]⟩
   ·cases hp
  ·cases hp
 case mapEnt cj agg z x k=>
  simp only[dj]at hp;unfold jd at hp;split at hp
  ·rename_i hv _;split at hp
   ·simp only[Zaa,Zav]at hp;obtain⟨rfl,_⟩:=hp;exact⟨x,by simp[bG],by simp[hv,aN]⟩
   ·cases hp
  ·cases hp
 case entSt x s y=>
  simp only[dj]at hp;unfold ku at hp;split at hp
  ·rename_i hv _;split at hp
   ·split at hp
    ·simp only[Zaa,Zav]at hp;obtain⟨rfl,_⟩:=hp;exact⟨x,by simp[bG],by simp[hv,aN]⟩
    ·cases hp
   ·cases hp
  ·cases hp
 case mapDel cj agg x k=>
  simp only[dj]at hp;unfold je at hp;split at hp
  ·rename_i hv _;split at hp
   ·simp only[Zaa,Zav]at hp;obtain⟨rfl,_⟩:=hp;exact⟨x,by simp[bG],by simp[hv,aN]⟩
   ·cases hp
  ·cases hp
def KF(h:nI d=0\/nI d=1):(dj Γ d name ρ ab).put=none:=by
 cases d<;>first|(simp[nI]at h;done)|rfl|skip
 case pick c a b=>simp only[dj];split<;>rfl
 case bslice=>simp only[dj];split<;>rfl
 case load n agg x=>simp only[dj];unfold iF;(repeat' split)<;>rfl
 case bin op x y=>simp only[dj];unfold ua;(repeat' split)<;>rfl
 case un op x=>simp only[dj];unfold Qq;(repeat' split)<;>rfl
 case conv k x=>simp only[dj];split<;>rfl
 case addOff k x=>simp only[dj];unfold iq;(repeat' split)<;>rfl
 case nilCheck x=>simp only[dj];unfold kT;(repeat' split)<;>rfl
 case idxAddr sz x i=>simp only[dj];unfold rZ;(repeat' split)<;>rfl
 case arrAddr n sz x i=>simp only[dj];unfold kK;(repeat' split)<;>rfl
 case field off n agg x=>simp only[dj];unfold oQ;(repeat' split)<;>rfl
 case slice sz x lo hi=>simp only[dj];unfold jA;(repeat' split)<;>rfl
 case extract i x=>simp only[dj];unfold r8;(repeat' split)<;>rfl
 case call f xs=>simp only[dj];unfold pV;(repeat' split)<;>rfl
 case callR f xs=>simp only[dj];unfold oS;(repeat' split)<;>rfl
 case len x=>simp only[dj];unfold wC;(repeat' split)<;>rfl
 case lenS x=>simp only[dj];unfold vd;(repeat' split)<;>rfl
 case minmax m x y=>simp only[dj];unfold oD;(repeat' split)<;>rfl
 case lookup=>simp only[dj];unfold mw;(repeat' split)<;>rfl
 case lenM x=>simp only[dj];unfold r9;(repeat' split)<;>rfl
 case isNil=>simp only[dj];unfold gj;(repeat' split)<;>rfl
 case indexS x i=>simp only[dj];unfold oE;(repeat' split)<;>rfl
def put_new{o:Ob}(h:nI d=2)(hp:(dj Γ d name ρ ab).put=some (r,o)):r=name:=by
 cases d<;>first|(simp[nI]at h;done)|skip
 case alloc z=>simp only[dj,Zaa,Zav]at hp;exact hp.1.symm
 case box x=>simp only[dj,Zaa,Zav]at hp;exact hp.1.symm
 case mkMap=>simp only[dj,Zaa,Zav]at hp;exact hp.1.symm
 case mkSlice e sz N4 z n=>
  simp only[dj]at hp;unfold lH at hp;split at hp
  ·simp only[Zaa,Zav]at hp;exact hp.1.symm
  ·cases hp
 case mkSliceB e sz N4 z n=>
  simp only[dj]at hp;unfold gh at hp;split at hp
  ·simp only[Zaa,Zav]at hp;exact hp.1.symm
  ·cases hp
def put_old{o:Ob}(h:nI d=3)(hp:(dj Γ d name ρ ab).put=some (r,o)):r=name\/ab r≠none:=by
 cases d<;>first|(simp[nI]at h;done)|skip
 case store n x y=>
  simp only[dj]at hp;unfold lG at hp;split at hp
  ·split at hp
   ·rename_i hc;simp only[Zaa,Zav]at hp;obtain⟨rfl,_⟩:=hp;exact .inr (by simp[hc])
   ·cases hp
  ·split at hp
   ·rename_i hc;simp only[Zaa,Zav]at hp;obtain⟨rfl,_⟩:=hp;exact .inr (by simp[hc])
   ·cases hp
  ·cases hp
 case append e sz N4 x y=>
  simp only[dj]at hp;unfold wy at hp;split at hp
  ·cases hp
  ·split at hp
   ·simp only[Zaa,Zav]at hp;exact .inl hp.1.symm
   ·split at hp
    ·rename_i hc;simp only[Zaa,Zav]at hp;obtain⟨rfl,_⟩:=hp;exact .inr (by simp[hc])
    ·cases hp
   ·split at hp
    ·rename_i hc;simp only[Zaa,Zav]at hp;obtain⟨rfl,_⟩:=hp;exact .inr (by simp[hc])
    ·cases hp
   ·cases hp
 case copy sz x y=>
  simp only[dj]at hp;unfold jN at hp
  (repeat' split at hp)<;>first|(cases hp;done)|(rename_i hc;simp only[Zaa,Zav]at hp;obtain⟨rfl,_⟩:=hp;exact .inr (by simp[hc]))
 case mapUpd=>
  simp only[dj]at hp;unfold ja at hp
  (repeat' split at hp)<;>first|(cases hp;done)|(rename_i hc;simp only[Zaa,Zav]at hp;obtain⟨rfl,_⟩:=hp;exact .inr (by simp[hc]))
 case mapEnt=>
  simp only[dj]at hp;unfold jd at hp
  (repeat' split at hp)<;>first|(cases hp;done)|(rename_i hc;simp only[Zaa,Zav]at hp;obtain⟨rfl,_⟩:=hp;exact .inr (by simp[hc]))
 case entSt=>
  simp only[dj]at hp;unfold ku at hp
  (repeat' split at hp)<;>first|(cases hp;done)|(rename_i hc _ _ _;simp only[Zaa,Zav]at hp;obtain⟨rfl,_⟩:=hp;exact .inr (by simp_all))
 case mapDel=>
  simp only[dj]at hp;unfold je at hp
  (repeat' split at hp)<;>first|(cases hp;done)|(rename_i hc;simp only[Zaa,Zav]at hp;obtain⟨rfl,_⟩:=hp;exact .inr (by simp[hc]))
 case rangeM=>
  simp only[dj]at hp;unfold kU at hp
  (repeat' split at hp)<;>first|(cases hp;done)|(simp only[Zaa,Zav]at hp;exact .inl hp.1.symm)
 case callF f xs=>
  simp only[dj]at hp;unfold oT at hp
  (repeat' split at hp)<;>first|(cases hp;done)|(simp only[Zaa,Zav]at hp;exact .inl hp.1.symm)
def XY{o:Ob}(h:nI d=3)(hl:ut d=false)(hp:(dj Γ d name ρ ab).put=some (r,o)):ab r≠none:=by
 cases d<;>first|(simp[nI]at h;done)|(simp[ut]at hl;done)|skip
 all_goals simp only[dj]at hp
 case store=>unfold lG at hp;(repeat' split at hp)<;>first|(cases hp;done)|(rename_i hc;simp only[Zaa,Zav]at hp;obtain⟨rfl,_⟩:=hp;simp[hc])
 case copy=>unfold jN at hp;(repeat' split at hp)<;>first|(cases hp;done)|(rename_i hc;simp only[Zaa,Zav]at hp;obtain⟨rfl,_⟩:=hp;simp[hc])
 case mapUpd=>unfold ja at hp;(repeat' split at hp)<;>first|(cases hp;done)|(rename_i hc;simp only[Zaa,Zav]at hp;obtain⟨rfl,_⟩:=hp;simp[hc])
 case mapEnt=>unfold jd at hp;(repeat' split at hp)<;>first|(cases hp;done)|(rename_i hc;simp only[Zaa,Zav]at hp;obtain⟨rfl,_⟩:=hp;simp[hc])
 case entSt=>unfold ku at hp;(repeat' split at hp)<;>first|(cases hp;done)|(simp only[Zaa,Zav]at hp;obtain⟨rfl,_⟩:=hp;simp_all)
 case mapDel=>unfold je at hp;(repeat' split at hp)<;>first|(cases hp;done)|(rename_i hc;simp only[Zaa,Zav]at hp;obtain⟨rfl,_⟩:=hp;simp[hc])
end
end
section
variable{r:RO}{st:RS}{ρ:dw}{d:rO}{ab:bq}
variable [bI] [dL]
def Od:bQ->Option Nat
 |.tmp t=>some t
 |.gN _=>none
def Cq(r:RO):cO:=(bG r.d).filterMap Od++(r.guard.map (·.1)).toList
def conOk:bQ->Bool
 |.tmp _=>true
 |.gN (.v _)|.gN .aW|.gN (.iD _ _)=>true
 |_=>false
def uu(r:RO):Bool:=(bG r.d).all conOk
def iW(x y:RO):Bool:=match x.dst with|some d=> !(Cq y).contains d|none=>true
def pX(x y:RO):Bool:=match x.dst,y.dst with|some a,some b=>a !=b|_,_=>true
def Oe(a b:Nat):Bool:=((a==3&&(b==1||b==3))||(b==3&&a==1))||((a==4&&b !=0)||(b==4&&a !=0))
def Ca(x y:Option (cO)):Bool:=match x,y with|some a,some b=>a.all λn=>b.all λm=>n !=m|_,_=>false
def ok4(a b:Nat):Bool:=(a !=4||b==1)&&(b !=4||a==1)
def isF:rO->Bool
 |.callF .. =>true
 |_=>false
def XZ(a b:rO):Bool:=(isF a&&nI b==1)||(isF b&&nI a==1)
def kw(x y:RO):Bool:=
 iW x y&&iW y x&&pX x y&&(!Oe (nI x.d) (nI y.d)||(Ca x.j5 y.j5&&ok4 (nI x.d) (nI y.d))||XZ x.d y.d)
def gm(r:RO):Bool:= !ut r.d||r.dst.isSome
section
variable{Γ:pI}{aJ:Nat}
def DA(st:RS):Prop:=∀t,fg st.ab (st.tmps t)
def nm(aJ:Nat)(r:RO):Nat:=bN aJ r.dst
def QB(aJ:Nat)(r:RO)(st:RS):Prop:=r.dst.isSome=true->st.ab (nm aJ r)=none
def Cr{t:Nat}{o:Ob}(hp:(oq Γ aJ r st).put=some (t,o)):(t=nm aJ r/\ut r.d=true)\/(st.ab t≠none/\nI r.d=3):=by
 unfold oq at hp;by_cases h0:nI r.d=0\/nI r.d=1
 ·rw[KF h0]at hp;cases hp
 ·by_cases h2:nI r.d=2
  ·refine .inl ⟨put_new h2 hp, ?_⟩;cases hd:r.d<;>rw[hd]at h2<;>first|rfl|(simp[nI]at h2;done)
  ·have h3:nI r.d=3:=by
    cases hd:r.d<;>rw[hd]at h0 h2<;>first|(simp_all [nI];done)|(rw[hd]at hp;simp[dj,cZ]at hp)
   cases hl:ut r.d with
   |true=>
    rcases put_old h3 hp with h|h
    ·exact .inl ⟨h,rfl⟩
    ·exact .inr ⟨h,h3⟩
   |false=>exact .inr ⟨XY h3 hl hp,h3⟩
def ev_upd{x:bQ}{dst:Option Nat}{v:DV}(h:∀d,dst=some d->Od x≠some d):x.ev (cU ρ dst v)=x.ev ρ:=by
 cases x with
 |gN d=>rfl
 |tmp t=>
  cases dst with
  |none=>rfl
  |some d=>
   have:=h d rfl;simp only[Od,ne_eq,Zaa]at this;simp[bQ.ev,cU,this]
def Bx{x y:RO}(h:iW x y=true){d:Nat}(hd:x.dst=some d):d∉Cq y:=by
 simp only[iW,hd]at h;simpa using h
def ye{x y:RO}(h:iW x y=true)(ρ:dw)(v:DV):fV y.guard (cU ρ x.dst v)=fV y.guard ρ:=by
 cases hg:y.guard with
 |none=>rfl
 |some g=>
  obtain⟨s,LS⟩:=g;cases hd:x.dst with
  |none=>rfl
  |some d=>
   have hn:=Bx h hd;have:s≠d:=λe=>hn (by simp[Cq,hg,e]);simp[fV,cU,this]
def qU{x y:RO}(h1:iW x y=true)(ρ:dw)(v:DV):∀o∈bG y.d,o.ev (cU ρ x.dst v)=o.ev ρ:=λo ho=>ev_upd λd hd hs=>by
  have:=Bx h1 hd;exact this (by simp only[Cq,Zaq,ZbA];exact .inl ⟨o,ho,hs⟩)
def pY{x y:RO}(h1:iW x y=true)(ρ:dw)(v:DV):cP y (cU ρ x.dst v)↔cP y ρ:=by
 unfold cP;cases y.j5 with
 |none=>rfl
 |some l=>
  constructor
  ·intro h o ho n hn;exact h o ho n (by rw[qU h1 ρ v o ho];exact hn)
  ·intro h o ho n hn;exact h o ho n (by rw[qU h1 ρ v o ho]at hn;exact hn)
def qV{x y:RO}(hd:Ca x.j5 y.j5=true)(tx:cP x ρ)(ty:cP y ρ){o p:bQ}(ho:o∈bG x.d)(hp:p∈bG y.d){n:Nat}(h1:n∈aN (o.ev ρ))(h2:n∈aN (p.ev ρ)):False:=by
 unfold Ca at hd;unfold cP at tx ty;cases hx:x.j5 with
 |none=>simp[hx]at hd
 |some a=>
  cases hy:y.j5 with
  |none=>simp[hx,hy]at hd
  |some b=>
   simp only[hx,hy]at hd tx ty;have:=ZaU.1 (ZaU.1 hd n (tx o ho n h1)) n (ty p hp n h2);simp at this
def si{x:RO}{t:Nat}{o:Ob}(h3x:nI x.d=3)(Xe:gm x=true)(DB:x.dst.isSome=true->False)
  (hpx:(dj Γ x.d (bN aJ x.dst) st.tmps st.ab).put=some (t,o)) (h5:t=bN aJ x.dst) {C:Prop} (k:∀a∈bG x.d,t∈aN (a.ev st.tmps)->C):C:=by
 cases hdx:x.dst with
 |some d=>exact(DB (by simp[hdx])).elim
 |none=>
  have:ut x.d=false:=by simpa [gm,hdx]using Xe
  obtain⟨a,ha,hn⟩:=Oc h3x this hpx;exact k a ha hn
def X0{y:RO}(hcy:uu y=true)(hR:DA st):∀o∈bG y.d,fg st.ab (o.ev st.tmps):=λo ho=>by
 have:=ZaU.1 hcy o ho;cases o with
 |tmp t=>exact hR t
 |gN d=>cases d<;>first|(simp[conOk]at this;done)|simp[bQ.ev,fg]
def not4:nI d≠4↔rP d=false:=by cases d<;>simp[nI,rP]
def Of{XX:dw}{todo:List (aK)}(h:∀x∈bG d,x.ev ρ=x.ev XX):oi Γ d ρ ab todo=oi Γ d XX ab todo:=by
 cases d<;>first|rfl|skip
 case callS f xs=>simp only[oi,jP (xs:=xs) h]
 case entryM x=>simp only[oi,h x (by simp[bG])]
 case callv x xs=>
  have h1:=h x (by simp[bG]);have h2:=jP (xs:=xs) (λy hy=>h y (by simp[bG,hy]));simp only[oi,h1,h2]
def Vr{f:FuncId}{xs:List bQ}{name:Nat}{t:Nat}{o:Ob}(h:(dj Γ (.callF f xs) name ρ ab).put=some (t,o)):t=name:=by
 simp only[dj,oT]at h
 (repeat' split at h)<;>simp_all [cZ]
def Vt{x y:RO}(hi:kw x y=true)(ND:rP x.d=false)(Cb:rP y.d=false)(hcy:uu y=true)(Xe:gm x=true)(hR:DA st)(hf:QB aJ x st)(v:DV)(td:List (aK))(ty:cP y st.tmps){p:Option (Nat×Ob)}(hp:p=none\/(p=(oq Γ aJ x st).put/\cP x st.tmps)):
  oq Γ aJ y ⟨cU st.tmps x.dst v,cG st.ab p,td⟩=oq Γ aJ y st:=by
 simp only[kw,Zam,Zbf,Zci]at hi;obtain⟨⟨⟨h1,h2⟩,h3⟩,h4⟩:=hi;have hev:=qU h1 st.tmps v;have href:=X0 hcy hR;unfold oq;simp only;rw[Ad hev];rcases hp with rfl|⟨rfl,tx⟩
 ·rfl
 ·cases hpx:(oq Γ aJ x st).put with
  |none=>rfl
  |some q=>
   obtain⟨t,o⟩:=q;by_cases hy:nI y.d=0\/nI y.d=2
   ·exact Dz hy
   ·rcases Cr hpx with⟨rfl,hl⟩|⟨bT,h3x⟩
    ·refine sem_ext (λr hr=>?_) href;have hds:x.dst.isSome=true:=by simpa [gm,hl]using Xe
     have mi:=hf hds;simp only[cG];rw[Zab];rintro rfl;exact hr mi
    ·rcases h4 with(h4|h4)|h4
     ·exfalso;have:nI y.d=1\/nI y.d=3:=by
       have:=not4.2 Cb;cases hd:y.d<;>rw[hd]at hy this<;>simp_all [nI]
      rcases this with h|h<;>simp[h3x,h,Oe]at h4
     ·refine Ae λp hp n hn=>?_;simp only[cG];rw[Zab];rintro rfl;unfold oq at hpx;rcases vf h3x hpx with h5|⟨o',iA,Gf⟩
      ·exact si h3x Xe (λe=>bT (by rw[show n=nm aJ x from h5];exact hf e)) hpx h5 (λa ha Gf=>qV h4.1 tx ty ha hp Gf hn)
      ·exact qV h4.1 tx ty iA hp Gf hn
     ·exfalso;unfold XZ at h4;rw[h3x]at h4;have h5:isF x.d=true:=by
       cases hF:isF x.d
       ·rw[hF]at h4;simp at h4
       ·rfl
      have h6:ut x.d=true:=by
       cases hd:x.d<;>rw[hd]at h5<;>first|rfl|(simp[isF]at h5;done)
      have h7:=hf (by simpa [gm,h6]using Xe);have h8:t=nm aJ x:=by
       unfold oq at hpx;cases hd:x.d<;>rw[hd]at h5 hpx<;>first|(simp[isF]at h5;done)|skip
       exact Vr hpx
      rw[h8]at bT;exact bT h7
def X1{x y:RO}(hi:kw x y=true)(h4:rP x.d=true):nI y.d=0\/(nI y.d=1/\Ca x.j5 y.j5=true):=by
 have c4:nI x.d=4:=by cases hx:x.d<;>rw[hx]at h4<;>simp_all [nI,rP]
 simp only[kw,Zam,Zbf,Zci]at hi;rcases hi.2 with(h|h)|h
 ·simp[Oe,c4]at h;exact .inl h.1
 ·simp[ok4,c4]at h;exact .inr ⟨h.2.1,h.1⟩
 ·exfalso;have:isF x.d=false:=by cases hx:x.d<;>rw[hx]at h4<;>simp_all [isF,rP]
  simp[XZ,this,c4]at h
def Vu(a b:Nat):Oe a b=Oe b a:=by
 unfold Oe;cases a==3<;>cases b==3<;>cases a==1<;>cases b==1<;>cases a==4<;>cases b==4<;>cases a !=0<;>cases b !=0<;>rfl
def DD{x y:RO}(h:pX x y=true):pX y x=true:=by
 unfold pX at h⊢;cases hx:x.dst<;>cases hy:y.dst<;>simp_all
 exact λe=>h e.symm
def Vv(a b:Option (cO)):Ca a b=Ca b a:=by
 cases a with
 |none=>cases b<;>rfl
 |some a=>
  cases b with
  |none=>rfl
  |some b=>
   rw[ZbX];simp only[Ca,ZaU,bne_iff_ne,ne_eq];exact⟨λh n hn m hm e=>h m hm n hn e.symm,λh n hn m hm e=>h m hm n hn e.symm⟩
def wL{x y:RO}(h:kw x y=true):kw y x=true:=by
 simp only[kw,Zam]at h⊢;refine⟨⟨⟨h.1.1.2,h.1.1.1⟩,DD h.1.2⟩, ?_⟩;rw[Vu,Vv];have:=h.2;simp only[Zci,Zam]at this⊢;rcases this with(h|h)|h
 ·exact .inl (.inl h)
 ·refine .inl (.inr ⟨h.1, ?_⟩);simp only[ok4,Zam]at h⊢;exact⟨h.2.2,h.2.1⟩
 ·refine .inr ?_;unfold XZ at h⊢;rw[Bool.or_comm];exact h
def vp(Γ:pI)(aJ:Nat)(r:RO)(st:RS):DV×Option (Nat×Ob):=
 match fV r.guard st.tmps with
 |some true=>((oq Γ aJ r st).val,(oq Γ aJ r st).put)
 |_=>(.skip,none)
def F4(Γ:pI)(r:RO)(st:RS):DV×bq×List (aK):=
 match fV r.guard st.tmps with
 |some true=>((oi Γ r.d st.tmps st.ab st.todo).val,(oi Γ r.d st.tmps st.ab st.todo).ab,(oi Γ r.d st.tmps st.ab st.todo).todo)
 |_=>(.skip,st.ab,st.todo)
def mR(h4:rP r.d=false)(h:cJ Γ aJ r st):dW Γ aJ r st=⟨cU st.tmps r.dst (vp Γ aJ r st).1,cG st.ab (vp Γ aJ r st).2,st.todo⟩:=by
 unfold cJ at h;unfold dW vp;cases hw:fV r.guard st.tmps with
 |none=>rw[hw]at h;exact h.elim
 |some b=>cases b<;>simp[post,h4,cG]
def uw(h4:rP r.d=true)(h:cJ Γ aJ r st):dW Γ aJ r st=⟨cU st.tmps r.dst (F4 Γ r st).1,(F4 Γ r st).2.1,(F4 Γ r st).2.2⟩:=by
 unfold cJ at h;unfold dW F4;cases hw:fV r.guard st.tmps with
 |none=>rw[hw]at h;exact h.elim
 |some b=>cases b<;>simp[post,h4]
def Ia(r:RO)(st:RS):(vp Γ aJ r st).2=none\/(vp Γ aJ r st).2=(oq Γ aJ r st).put:=by
 unfold vp;split
 ·exact .inr rfl
 ·exact .inl rfl
def Ib(h0:nI r.d=0\/nI r.d=1):(vp Γ aJ r st).2=none:=by
 rcases Ia (Γ:=Γ) (aJ:=aJ) r st with h|h
 ·exact h
 ·rw[h];exact KF h0
def sj(h:cJ Γ aJ r st):(vp Γ aJ r st).2=none\/((vp Γ aJ r st).2=(oq Γ aJ r st).put/\cP r st.tmps):=by
 unfold cJ at h;unfold vp;cases hw:fV r.guard st.tmps with
 |none=>rw[hw]at h;exact h.elim
 |some b=>
  cases b with
  |false=>exact .inl rfl
  |true=>rw[hw]at h;exact .inr ⟨rfl,h.2.1⟩
def Vw(h:nI d=0):rP d=false:=not4.1 (by rw[h];decide)
def Og{x y:RO}(ha:iW x y=true)(h0:nI y.d=0)(v:DV)(aI:bq)(td:List (aK)):
  vp Γ aJ y ⟨cU st.tmps x.dst v,aI,td⟩=vp Γ aJ y st/\(cJ Γ aJ y ⟨cU st.tmps x.dst v,aI,td⟩↔cJ Γ aJ y st):=by
 have hw:fV y.guard (cU st.tmps x.dst v)=fV y.guard st.tmps:=ye ha _ _;have ht:=pY (y:=y) ha st.tmps v;have he:oq Γ aJ y ⟨cU st.tmps x.dst v,aI,td⟩=oq Γ aJ y st:=by
  unfold oq;simp only;rw[Ad (qU ha st.tmps v)];exact Dz (.inl h0)
 refine⟨?_, ?_⟩
 ·unfold vp;simp only[hw,he]
 ·unfold cJ post um;simp only[hw,he,ht,Vw h0,ZaW,if_false,false_implies]
def Oh{x y:RO}(ha:iW x y=true)(h1:nI y.d=1)(hd:Ca x.j5 y.j5=true)(v:DV)(aI:bq)(td:List (aK))(hk:∀l,x.j5=some l->∀n,n∉l->aI n=st.ab n)
  (oy:cJ Γ aJ y st\/cJ Γ aJ y ⟨cU st.tmps x.dst v,aI,td⟩):
  vp Γ aJ y ⟨cU st.tmps x.dst v,aI,td⟩=vp Γ aJ y st/\cJ Γ aJ y ⟨cU st.tmps x.dst v,aI,td⟩/\cJ Γ aJ y st:=by
 have hw:fV y.guard (cU st.tmps x.dst v)=fV y.guard st.tmps:=ye ha _ _;have ht:=pY (y:=y) ha st.tmps v;have Cb:rP y.d=false:=not4.1 (by rw[h1];decide);have he:cP y st.tmps->oq Γ aJ y ⟨cU st.tmps x.dst v,aI,td⟩=oq Γ aJ y st:=λty=>by
  unfold oq;simp only;rw[Ad (qU ha st.tmps v)];refine Ae λp hp n hn=>?_;unfold Ca at hd;unfold cP at ty;cases hx:x.j5 with
  |none=>simp[hx]at hd
  |some a=>
   cases hyt:y.j5 with
   |none=>simp[hx,hyt]at hd
   |some b=>
    simp only[hx,hyt]at hd ty;refine hk a hx n λhna=>?_;have:=ZaU.1 (ZaU.1 hd n hna) n (ty p hp n hn);simp at this
 unfold cJ post um at oy⊢;unfold vp;simp only[hw,ht,Cb,ZaW,if_false,false_implies,and_true]at oy⊢;cases hb:fV y.guard st.tmps with
 |none=>simp only[hb,or_self]at oy
 |some b=>
  cases b with
  |false=>simp
  |true=>
   simp only[hb]at oy⊢;have ty:cP y st.tmps:=by rcases oy with h|h<;>exact h.2
   have he:=he ty;simp only[he]at oy⊢;have:=oy.elim id id;exact⟨trivial,this,this⟩
def X2{x:RO}(h4:rP x.d=true)(ox:cJ Γ aJ x st):∀l,x.j5=some l->∀n,n∉l->(F4 Γ x st).2.1 n=st.ab n:=by
 unfold cJ post um at ox;unfold F4;intro l hl n hn;cases hb:fV x.guard st.tmps with
 |none=>simp[hb]at ox
 |some b=>
  cases b with
  |false=>rfl
  |true=>
   simp only[hb,h4,if_true]at ox;exact ox.2.2 trivial l hl n hn
def X3{x y:RO}(hi:kw x y=true)(h4:rP x.d=true)(ox:cJ Γ aJ x st)(oy:cJ Γ aJ y st\/cJ Γ aJ y ⟨cU st.tmps x.dst (F4 Γ x st).1,(F4 Γ x st).2.1,(F4 Γ x st).2.2⟩):
  vp Γ aJ y ⟨cU st.tmps x.dst (F4 Γ x st).1,(F4 Γ x st).2.1,(F4 Γ x st).2.2⟩=vp Γ aJ y st/\cJ Γ aJ y ⟨cU st.tmps x.dst (F4 Γ x st).1,(F4 Γ x st).2.1,(F4 Γ x st).2.2⟩/\cJ Γ aJ y st/\(nI y.d=0\/nI y.d=1):=by
 have ha:iW x y=true:=by simp only[kw,Zam]at hi;exact hi.1.1.1
 rcases X1 hi h4 with h|⟨h,hd⟩
 ·obtain⟨e1,e2⟩:=Og (Γ:=Γ) (aJ:=aJ) (st:=st) ha h (F4 Γ x st).1 (F4 Γ x st).2.1 (F4 Γ x st).2.2;have:=oy.elim id e2.1;exact⟨e1,e2.2 this,this,.inl h⟩
 ·obtain⟨e1,e2,e3⟩:=Oh ha h hd _ _ _ (X2 h4 ox) oy;exact⟨e1,e2,e3,.inr h⟩
def after{x y:RO}(hi:kw x y=true)(ND:rP x.d=false)(Cb:rP y.d=false)(hcy:uu y=true)(Xe:gm x=true)(hR:DA st)(hf:QB aJ x st)(ox:cJ Γ aJ x st)(oy:cJ Γ aJ y st\/cJ Γ aJ y (dW Γ aJ x st)):
  vp Γ aJ y (dW Γ aJ x st)=vp Γ aJ y st/\cJ Γ aJ y (dW Γ aJ x st)/\cJ Γ aJ y st:=by
 rw[mR ND ox]at oy⊢;have ha:iW x y=true:=by simp only[kw,Zam]at hi;exact hi.1.1.1
 have hw:fV y.guard (cU st.tmps x.dst (vp Γ aJ x st).1)=fV y.guard st.tmps:=ye ha _ _;have ht:=pY (y:=y) ha st.tmps (vp Γ aJ x st).1;have he:cP y st.tmps->_:=λty=>Vt (Γ:=Γ) hi ND Cb hcy Xe hR hf (vp Γ aJ x st).1 st.todo ty (sj ox);generalize vp Γ aJ x st=q at oy hw ht he⊢;unfold cJ post um at oy⊢;unfold vp;simp only[hw,ht,Cb,ZaW,if_false,false_implies,and_true]at oy⊢;cases hb:fV y.guard st.tmps with
 |none=>simp only[hb,or_self]at oy
 |some b=>
  cases b with
  |false=>simp
  |true=>
   simp only[hb]at oy⊢;have ty:cP y st.tmps:=by rcases oy with h|h<;>exact h.2
   have he:=he ty;simp only[he]at oy⊢;have:=oy.elim id id;exact⟨trivial,this,this⟩
def Af{x y:RO}(h3:pX x y=true)(f:dw)(u v:DV):cU (cU f x.dst u) y.dst v=cU (cU f y.dst v) x.dst u:=by
 funext t;cases hx:x.dst<;>cases hy:y.dst<;>simp only[cU]
 rename_i d e;have hde:d≠e:=by simpa [pX,hx,hy]using h3
 by_cases h1:t=d<;>by_cases h2:t=e<;>simp_all
def X4{x y:RO}(ha:iW y x=true)(v:DV):F4 Γ x ⟨cU st.tmps y.dst v,st.ab,st.todo⟩=F4 Γ x st/\(rP x.d=true->(cJ Γ aJ x ⟨cU st.tmps y.dst v,st.ab,st.todo⟩↔cJ Γ aJ x st)):=by
 have hw:fV x.guard (cU st.tmps y.dst v)=fV x.guard st.tmps:=ye ha _ _;have ht:=pY (y:=x) ha st.tmps v;have hs:oi Γ x.d (cU st.tmps y.dst v) st.ab st.todo=oi Γ x.d st.tmps st.ab st.todo:=Of (qU ha st.tmps v);refine⟨?_,λh4=>?_⟩
 ·unfold F4;simp only[hw,hs]
 ·unfold cJ post;simp only[hw,hs,ht,h4,if_true]
def swap{x y:RO}(hi:kw x y=true)(X5:uu x=true)(hcy:uu y=true)(Xe:gm x=true)(hly:gm y=true)(hR:DA st)(J2:QB aJ x st)(hfy:QB aJ y st)
  (ox:cJ Γ aJ x st) (oy:cJ Γ aJ y (dW Γ aJ x st)):
  cJ Γ aJ y st/\cJ Γ aJ x (dW Γ aJ y st)/\dW Γ aJ y (dW Γ aJ x st)=dW Γ aJ x (dW Γ aJ y st):=by
 have pW:=hi;simp only[kw,Zam]at pW;obtain⟨⟨⟨h1,h2⟩,h3⟩,h4⟩:=pW;by_cases ND:rP x.d=true
 ·rw[uw ND ox]at oy⊢;obtain⟨e1,_,X6,y0⟩:=X3 hi ND ox (.inr oy);have Cb:rP y.d=false:=not4.1 (by rcases y0 with h|h<;>rw[h]<;>decide)
  rw[mR Cb oy,mR Cb X6,e1,Ib y0];obtain⟨e3,e4⟩:=X4 (Γ:=Γ) (aJ:=aJ) (x:=x) (y:=y) (st:=st) h2 (vp Γ aJ y st).1;have ox':=(e4 ND).2 ox;refine⟨X6,ox', ?_⟩;simp only[cG]at ox'⊢;rw[uw ND ox',e3];simp only;rw[Af h3]
 ·have ND:rP x.d=false:=by simpa using ND
  by_cases Cb:rP y.d=true
  ·have x0:nI x.d=0\/nI x.d=1:=by
    rcases X1 (wL hi) Cb with h|⟨h,_⟩
    ·exact .inl h
    ·exact .inr h
   rw[mR ND ox,Ib x0]at oy⊢;simp only[cG]at oy⊢;obtain⟨e3,e4⟩:=X4 (Γ:=Γ) (aJ:=aJ) (x:=y) (y:=x) (st:=st) h1 (vp Γ aJ x st).1;have X6:=(e4 Cb).1 oy;rw[uw Cb oy,uw Cb X6,e3];obtain⟨e1,ox',_,_⟩:=X3 (wL hi) Cb X6 (.inl ox);refine⟨X6,ox', ?_⟩;rw[mR ND ox',e1,Ib x0];simp only[cG];rw[Af h3]
  ·have Cb:rP y.d=false:=by simpa using Cb
   have a1:=after (Γ:=Γ) hi ND Cb hcy Xe hR J2 ox (.inr oy);have X6:=a1.2.2;have a2:=after (Γ:=Γ) (wL hi) Cb ND X5 hly hR hfy X6 (.inl ox);have ox':=a2.2.1;refine⟨X6,ox', ?_⟩;have tx:=sj ox;have ty:=sj X6;rw[mR Cb oy,mR ND ox',a1.1,a2.1,mR ND ox,mR Cb X6]
   congr 1
   ·exact Af h3 _ _ _
   ·funext t;cases hx:(vp Γ aJ x st).2 with
    |none=>cases(vp Γ aJ y st).2<;>rfl
    |some p=>
     cases hy:(vp Γ aJ y st).2 with
     |none=>rfl
     |some q=>
      obtain⟨t1,o1⟩:=p;obtain⟨t2,o2⟩:=q;have e1:=Cr (((Ia (Γ:=Γ) (aJ:=aJ) x st).resolve_left (by simp[hx])).symm.trans hx);have e2:=Cr (((Ia (Γ:=Γ) (aJ:=aJ) y st).resolve_left (by simp[hy])).symm.trans hy);have bT:t1≠t2:=by
       rcases e1 with⟨rfl,l1⟩|⟨n1,c1⟩<;>rcases e2 with⟨rfl,l2⟩|⟨n2,c2⟩
       ·have s1:x.dst.isSome=true:=by simpa [gm,l1]using Xe
        have s2:y.dst.isSome=true:=by simpa [gm,l2]using hly
        obtain⟨d1,hd1⟩:=Zbp.1 s1;obtain⟨d2,hd2⟩:=Zbp.1 s2;have:d1≠d2:=by simpa [pX,hd1,hd2]using h3
        simp[nm,bN,hd1,hd2,this]
       ·rintro rfl;exact n2 (J2 (by simpa [gm,l1]using Xe))
       ·rintro rfl;exact n1 (hfy (by simpa [gm,l2]using hly))
       ·simp only[Zci,Zam]at h4;rcases h4 with(h4|h4)|h4
        ·simp[Oe,c1,c2]at h4
        ·rintro rfl;have p1:=(tx.resolve_left (by simp[hx])).1.symm.trans hx;have p2:=(ty.resolve_left (by simp[hy])).1.symm.trans hy;have q1:=(tx.resolve_left (by simp[hx])).2;have q2:=(ty.resolve_left (by simp[hy])).2;unfold oq at p1 p2;rcases vf c1 p1 with h5|⟨o,ho,hn⟩
         ·exact si c1 Xe (λe=>n1 (by rw[show t1=nm aJ x from h5];exact J2 e)) p1 h5 (λo ho hn=>by
           rcases vf c2 p2 with h6|⟨o',iA,Gf⟩
           ·exact si c2 hly (λe=>n2 (by rw[show t1=nm aJ y from h6];exact hfy e)) p2 h6 (λo' iA Gf=>qV h4.1 q1 q2 ho iA hn Gf)
           ·exact qV h4.1 q1 q2 ho iA hn Gf)
         ·rcases vf c2 p2 with h6|⟨o',iA,Gf⟩
          ·exact si c2 hly (λe=>n2 (by rw[show t1=nm aJ y from h6];exact hfy e)) p2 h6 (λo' iA Gf=>qV h4.1 q1 q2 ho iA hn Gf)
          ·exact qV h4.1 q1 q2 ho iA hn Gf
        ·simp[XZ,c1,c2]at h4
      simp only[cG];by_cases h1:t=t1<;>by_cases h2:t=t2<;>simp_all
end
end
section
variable{ops:Array Oper}{r:RO}{st:RS}{Q:Exit->Act->World->Prop}{rs:ai}{id:Nat}{listed:Array Bool}
variable [bI] [dL]
def Cs(ops:Array Oper)(o:Oper):Option (Option (Nat×Bool)):=
 match o.guard with
 |none=>some none
 |some (j,b)=>((ops[j]?).bind (·.dst)).map λs=>some (s,b)
def d9(P:Program)(ops:Array Oper)(o:Oper):Option RO:=do
 let d<-dz P o
 let g<-Cs ops o
 pure ⟨d,o.dst,g,(o.after.toList.filter (Region.binds .any ·)).map (·.on),none⟩
def bare(r:RO):RO:=⟨Bt r.d,r.dst,r.guard,r.after,none⟩
def fO(P:Program)(ops:Array Oper):Option (ai):=ops.toList.mapM (d9 P ops)
def jE(Γ:pI)(aJ:Nat):ai->RS->Prop
 |[],_=>True
 |r::rs,st=>cJ Γ aJ r st/\jE Γ aJ rs (dW Γ aJ r st)
def dZ(Γ:pI)(aJ:Nat):ai->RS->RS
 |[],st=>st
 |r::rs,st=>dZ Γ aJ rs (dW Γ aJ r st)
def l9(nt:Nat)(r:RO):Bool:=uu r&&gm r&&(match r.dst with|some d=>decide (d<nt)|none=>true)
def fP:ai->Bool
 |[]=>true
 |r::rs=>rs.all (pX r)&&fP rs
def o7(fX:cO)(as:cO):Nat:=as.foldl (λm j=>m|||(1<<<j)|||fX.getD j 0) 0
def ng(rs:ai):cO:=rs.foldl (λfX r=>fX++[o7 fX r.after]) []
def vg(rs:ai)(ms:cO):Bool:=
 (List.range rs.length).all λi=>match rs[i]?,ms[i]? with
  |some y,some m=>y.after.all (·<i)&&(List.range i).all λx=>m.testBit x||(match rs[x]? with|some r=>kw r y|none=>false)
  |_,_=>false
def ee(nt:Nat)(yZ:Bool)(rs:ai):Bool:=rs.all (l9 nt)&&fP rs&&(!yZ||vg rs (ng rs))
section
variable{P:Program}{κ:oX}{nt:Nat}{Γ:pI}{aJ:Nat}{ro:Option Nat}{n:Nat}
def wpIn_ex{o:Oper}{a:Act}{w:World}{K:Act->World->Prop}(h:o.wpIn (iV ro) n P a w K (λ_ _ _=>False)):∃a w,K a w:=by
 have h:=h.2;generalize (o.semAt (iV ro).round a.eval).run P w=r at h;cases r with
 |ok x w'=>
  cases x<;>simp only[Oper.uponIn]at h
  case value v=>exact⟨_,_,h⟩
  case skip=>exact⟨_,_,h⟩
  case defer d=>exact⟨_,_,h⟩
  case enter f args=>
   obtain⟨_,_,hc⟩:=h;obtain⟨e,w2,fr,hR,_⟩:=hc [] (λd hd=>by cases hd);cases e with
   |returned v=>exact⟨_,_,hR⟩
   |panicked c=>exact hR.elim
   |outgrown=>obtain⟨_,_,hf⟩:=hR;exact hf.elim
  case row r args=>
   obtain⟨_,hc⟩:=h;obtain⟨v,w2,hR,_⟩:=hc default [] (λd hd=>by cases hd);exact⟨_,_,hR⟩
  case round l f t as b=>
   obtain⟨_,_,hc⟩:=h;obtain⟨e,w2,hR,_⟩:=hc default [] (λd hd=>by cases hd);cases e with
   |returned v=>exact⟨_,_,hR⟩
   |panicked c=>exact hR.elim
   |outgrown=>obtain⟨_,_,hf⟩:=hR;exact hf.elim
 |halt x w'=>cases x<;>simp only[Oper.uponIn]at h
def fQ{o:Oper}(h:d9 P ops o=some (bare r)):dz P o=some (Bt r.d)/\Cs ops o=some r.guard/\r.dst=o.dst/\r.after=(o.after.toList.filter (Region.binds .any ·)).map (·.on):=by
 simp only[d9,Zao,Zaj,Zad,Zaa]at h;obtain⟨d,hd,g,hg,he⟩:=h;obtain⟨d',ds,gd,af,tc⟩:=r;simp only[bare,RO.mk.injEq,and_true]at he;obtain⟨rfl,rfl,rfl,rfl⟩:=he;exact⟨hd,hg,rfl,rfl⟩
def Ag{o:Oper}{a:Act}{w:World}{L:Loc}(hg:Cs ops o=some r.guard)(h:eP κ nt st a w L){b:Bool}(hw:fV r.guard st.tmps=some b):
  Region.wanted o (yielded ops a.tmps)=b:=by
 unfold Cs at hg;cases ho:o.guard with
 |none=>
  rw[ho]at hg;simp only[Zaa]at hg;rw[<-hg]at hw;simp only[fV,Zaa]at hw;simp[Region.wanted,ho,hw]
 |some jb=>
  obtain⟨j,LS⟩:=jb;rw[ho]at hg;simp only[Zac]at hg;obtain⟨s,hs,Bo⟩:=hg;rw[<-Bo]at hw;simp only[fV]at hw;obtain⟨W,base,M,w0,_,h0⟩:=h.ex;have gQ:=h0.tmps s;simp only[Region.wanted,ho,yielded,hs,Zcr];split at hw
  ·rename_i x hx;rw[hx]at gQ;simp only[aA,bj]at gQ;simp only[Zaa]at hw;have:a.tmps[s]? =some (.bool x):=by
    rw[ZaH]at gQ;cases he:a.tmps[s]? with
    |none=>rw[he]at gQ;simp[Go.undef]at gQ
    |some y=>rw[he]at gQ;simpa using gQ
   rw[this,<-hw];simp
  ·rename_i hx;rw[hx]at gQ;simp only[aA]at gQ;simp only[Zaa]at hw;subst hw;rw[ZaH]at gQ;cases he:a.tmps[s]? with
   |none=>simp
   |some y=>
    rw[he]at gQ;simp only[Zbd]at gQ;subst gQ;simp[Go.undef]
  ·cases hw
def pZ(aC:ay P Γ)(yb:κ.Good P){i:Nat}{o:Oper}(ho:ops[i]? =some o)(hr:d9 P ops o=some (bare r))(H7:l9 nt r=true){a:Act}{w:World}{L:Loc}(h:eP κ nt st a w L)
  (vx:st.ab (nm aJ r)=none) (dq:cJ Γ aJ r st) {K:Act->World->Prop} (hK:∀a' w' L',eP κ nt (dW Γ aJ r st) a' w' L'->K a' w'):
  wpOpIn (iV ro) n P ops Q i K a w:=by
 obtain⟨hd,hg,kv,_⟩:=fQ hr;have Vx:∀d,r.dst=some d->d<nt:=by
  intro d hd;simp only[l9,hd,Zam,Zau]at H7;exact H7.2
 unfold wpOpIn;simp only[ho];unfold cJ at dq;unfold dW at hK;cases hw:fV r.guard st.tmps with
 |none=>rw[hw]at dq;exact dq.elim
 |some b=>
  rw[hw]at dq hK;rw[Ag hg h hw];cases b with
  |true=>
   simp only[if_true]at dq hK⊢;exact Qz aC yb hd kv h Vx vx dq.1 hK
  |false=>
   simp only[ZaW,if_false];refine⟨mC o w _, ?_⟩;rw[<-kv];exact hK _ _ _ (h.skip r.dst Vx)
def Vy(aC:ay P Γ)(yb:κ.Good P){o:Oper}(hr:d9 P ops o=some (bare r))(H7:l9 nt r=true)(h:∃a w L,eP κ nt st a w L)(vx:st.ab (nm aJ r)=none)(dq:cJ Γ aJ r st):
  ∃a w L,eP κ nt (dW Γ aJ r st) a w L:=by
 obtain⟨a,w,L,h⟩:=h;obtain⟨hd,hg,kv,_⟩:=fQ hr;have Vx:∀d,r.dst=some d->d<nt:=by
  intro d hd;simp only[l9,hd,Zam,Zau]at H7;exact H7.2
 unfold cJ at dq;unfold dW;cases hw:fV r.guard st.tmps with
 |none=>rw[hw]at dq;exact dq.elim
 |some b=>
  rw[hw]at dq;cases b with
  |true=>
   have:=Qz (ro:=none) (n:=0) (K:=λa' w'=>∃L',eP κ nt ⟨cU st.tmps r.dst (post Γ aJ r st).val,(post Γ aJ r st).ab,(post Γ aJ r st).todo⟩ a' w' L') (Q:=λ_ _ _=>False) aC yb hd kv h Vx vx dq.1 (λa' w' L' h'=>⟨L',h'⟩);obtain⟨a',w',L',h'⟩:=wpIn_ex this;exact⟨a',w',L',h'⟩
  |false=>exact⟨_,_,_,h.skip r.dst Vx⟩
def DE(h:∃a w L,eP κ nt st a w L):DA st:=by
 obtain⟨a,w,L,h⟩:=h;obtain⟨W,base,M,w0,_,h0⟩:=h.ex;exact λt=>fg.bP _ _ (h0.tmps t)
def kC(aJ:Nat)(rs:ai)(st:RS):Prop:=st.ab aJ=none/\∀r∈rs,st.ab (nm aJ r)=none
def Ah(aC:ay P Γ)(dq:cJ Γ aJ r st){t:Nat}(ht:st.ab t=none)(hn:ut r.d=true->t≠nm aJ r):(dW Γ aJ r st).ab t=none:=by
 by_cases h4:rP r.d=true
 ·rw[uw h4 dq];unfold cJ post at dq;unfold F4;cases hw:fV r.guard st.tmps with
  |none=>rw[hw]at dq;exact dq.elim
  |some b=>
   cases b with
   |false=>exact ht
   |true=>
    rw[hw]at dq;simp only[h4,if_true]at dq⊢;have dq:=dq.1;cases hd:r.d<;>rw[hd]at h4 dq<;>first|(simp[rP]at h4;done)|skip
    case callS f args=>
     simp only[oi]at dq⊢;cases hg:Γ f with
     |none=>exact ht
     |some s=>
      simp only[hg]at dq⊢;cases hk:s.st with
      |none=>exact ht
      |some k=>
       simp only[hk]at dq⊢;exact((aC f s hg).st k hk _ _ dq).2 t ht
    case callv x args=>
     simp only[oi]at dq⊢;cases hx:x.ev st.tmps with
     |nG f bY=>
      rw[hx]at dq;cases f with
      |func g=>
       simp only at dq⊢;cases hg:Γ g with
       |none=>exact ht
       |some s=>
        simp only[hg]at dq⊢;cases hk:s.st with
        |none=>exact ht
        |some k=>
         simp only[hk]at dq⊢;exact((aC g s hg).st k hk _ _ dq).2 t ht
      |_=>exact ht
     |NV=>
      simp only;split<;>exact ht
     |v t=>
      cases t with
      |fn f bY=>
       rw[hx]at dq;cases f with
       |func g=>
        simp only at dq⊢;cases hg:Γ g with
        |none=>exact ht
        |some s=>
         simp only[hg]at dq⊢;cases hk:s.st with
         |none=>exact ht
         |some k=>
          simp only[hk]at dq⊢;exact((aC g s hg).st k hk _ _ dq).2 t ht
       |_=>exact ht
      |mg rv=>
       rw[hx]at dq;simp only at dq⊢;cases Xc:(dL.k:Option (Nat×(bB->bq->fI)))with
       |none=>exact ht
       |some p=>
        obtain⟨l,k⟩:=p;simp only[Xc]at dq⊢;exact dL.aN _ _ Xc _ _ dq.2.2.1 t ht
      |_=>exact ht
     |_=>exact ht
    case entryM x=>exact ht
 have h4:rP r.d=false:=by simpa using h4
 rw[mR h4 dq];cases hp:(vp Γ aJ r st).2 with
 |none=>exact ht
 |some p=>
  obtain⟨t1,o1⟩:=p;have e1:=Cr (((Ia (Γ:=Γ) (aJ:=aJ) r st).resolve_left (by simp[hp])).symm.trans hp);simp only[cG];rw[Zab]
  ·exact ht
  ·rintro rfl;rcases e1 with⟨h1,h2⟩|⟨h1,_⟩
   ·exact hn h2 h1
   ·exact h1 ht
def vh(aC:ay P Γ)(hl:gm r=true)(dq:cJ Γ aJ r st)(bT:∀y∈rs,pX r y=true/\y.dst.isSome=true\/y.dst=none)(h:kC aJ rs st):kC aJ rs (dW Γ aJ r st):=by
 have key:∀t,st.ab t=none->(ut r.d=true->t≠nm aJ r)->(dW Γ aJ r st).ab t=none:=λt ht hn=>Ah aC dq ht hn;have p0:ut r.d=true->∃d,r.dst=some d:=λhr=>Zbp.1 (by simpa [gm,hr]using hl);refine⟨key _ h.1 λhr=>?_,λy hy=>key _ (h.2 y hy) λhr=>?_⟩
 ·obtain⟨d,hd⟩:=p0 hr;simp[nm,bN,hd];omega
 ·obtain⟨d,hd⟩:=p0 hr;rcases bT y hy with⟨h1,h2⟩|h2
  ·obtain⟨e,he⟩:=Zbp.1 h2;have:d≠e:=by simpa [pX,hd,he]using h1
   simp[nm,bN,hd,he];omega
  ·simp[nm,bN,hd,h2];omega
def sk(h:fP (r::rs)=true):∀y∈rs,pX r y=true/\y.dst.isSome=true\/y.dst=none:=by
 intro y hy;simp only[fP,Zam,ZaU]at h;cases hd:y.dst with
 |none=>exact .inr rfl
 |some d=>exact .inl ⟨h.1 y hy,rfl⟩
def ux(aC:ay P Γ)(yb:κ.Good P){ops:Array Oper}{Q:Exit->Act->World->Prop}:∀(l:cO) (rs:ai),(∀(k:Nat) (i:Nat),l[k]? =some i->∃o r,ops[i]? =some o/\rs[k]? =some r/\d9 P ops o=some (bare r))->rs.length=l.length->rs.all (l9 nt)=true->fP rs=true->
  ∀(st:RS) (a:Act) (w:World) (L:Loc),eP κ nt st a w L->kC aJ rs st->jE Γ aJ rs st->(∀a' w' L',eP κ nt (dZ Γ aJ rs st) a' w' L'->Q .normal a' w')->wpOpsIn (iV ro) n P ops Q l a w
 |[],rs,_,hl,_,_,st,a,w,L,h,_,_,hQ=>by
  have:rs=[]:=ZaD (by simpa using hl);subst this;exact hQ a w L h
 |i::l,[],_,hl,_,_,_,_,_,_,_,_,_,_=>by simp at hl
 |i::l,r::rs,hk,hl,d0,bT,st,a,w,L,h,hf,dq,hQ=>by
  obtain⟨o,r',ho,gD,hc⟩:=hk 0 i rfl;simp only[ZaF,Zaa]at gD;subst gD;simp only[ZcG,Zam]at d0;simp only[jE]at dq;have X7:gm r=true:=by have:=d0.1;simp only[l9,Zam]at this;exact this.1.2
  rw[wpOpsIn_cons];refine pZ aC yb ho hc d0.1 h (hf.2 r (by simp)) dq.1 λa' w' L' h'=>?_;refine ux aC yb l rs (λk j hj=>hk (k+1) j (by simpa using hj)) (by simpa using hl) d0.2 (by simp only[fP,Zam]at bT;exact bT.2) _ a' w' L' h' ?_ dq.2 hQ;exact vh aC X7 dq.1 (sk bT) ⟨hf.1,λy hy=>hf.2 y (by simp[hy])⟩
def lL(h:fO P ops=some (rs.map bare)):rs.length=ops.size/\∀(i:Nat) (o:Oper),ops[i]? =some o->∃r,rs[i]? =some r/\d9 P ops o=some (bare r):=by
 unfold fO at h;have key:∀(l:List Oper) (rs:ai),l.mapM (d9 P ops)=some rs->rs.length=l.length/\∀(i:Nat) (o:Oper),l[i]? =some o->∃r,rs[i]? =some r/\d9 P ops o=some r:=by
  intro l;induction l with
  |nil=>intro rs h;simp at h;subst h;simp
  |cons x l ih=>
   intro rs h;simp only[Za7,Zao,Zaj,Zad,Zaa]at h;obtain⟨r,hr,rs',mt,rfl⟩:=h;have:=ih rs' mt;refine⟨by simp[this.1],λi o ho=>?_⟩;cases i with
   |zero=>simp only[ZaF,Zaa]at ho;subst ho;exact⟨r,rfl,hr⟩
   |succ i=>simpa using this.2 i o (by simpa using ho)
 have:=key _ _ h;refine⟨by simpa using this.1,λi o ho=>?_⟩;obtain⟨r,h1,h2⟩:=this.2 i o (by simpa using ho);simp only[Zbx,Zac]at h1;obtain⟨q,h1,rfl⟩:=h1;exact⟨q,h1,h2⟩
def KG(aC:ay P Γ)(yb:κ.Good P)(hc:fO P ops=some (rs.map bare))(dq:ee nt false rs=true){a:Act}{w:World}{L:Loc}(h:eP κ nt st a w L)
  (hf:kC aJ rs st) (bW:jE Γ aJ rs st) (hQ:∀a' w' L',eP κ nt (dZ Γ aJ rs st) a' w' L'->Q .normal a' w'):(Code.region id ops false).wpIn (iV ro) n P Q a w:=by
 have hg:=lL hc;simp only[ee,Zam]at dq;refine wpIn_region (ux aC yb (List.range ops.size) rs (λk i hi=>?_) (by simpa using hg.1) dq.1.1 dq.1.2 st a w L h hf bW hQ);obtain⟨hk,HV⟩:=Zaw.1 hi;simp only[Zb5]at hk;simp only[ZbS]at HV;subst HV;obtain⟨r,h1,h2⟩:=hg.2 k ops[k] (by simp[hk]);exact⟨ops[k],r,by simp[hk],h1,h2⟩
def DF(aC:ay P Γ)(yb:κ.Good P){ops:Array Oper}{r:RO}{post:ai}(hr:l9 nt r=true):∀(pre:ai),(∀x∈pre,kw x r=true/\l9 nt x=true/\∃o,d9 P ops o=some (bare x))->fP (pre++r::post)=true->
  ∀(st:RS),(∃a w L,eP κ nt st a w L)->kC aJ (pre++r::post) st->jE Γ aJ (pre++r::post) st->
   cJ Γ aJ r st/\jE Γ aJ (pre++post) (dW Γ aJ r st)/\dZ Γ aJ (pre++post) (dW Γ aJ r st)=dZ Γ aJ (pre++r::post) st
 |[],_,_,st,_,_,h=>⟨h.1,h.2,rfl⟩
 |x::pre,tB,bT,st,hreal,DB,h=>by
  simp only[ZaM,jE]at h;obtain⟨hi,hx,o,hc⟩:=tB x (by simp);have X5:uu x=true/\gm x=true:=by simp only[l9,Zam]at hx;exact hx.1
  have hcr:uu r=true/\gm r=true:=by simp only[l9,Zam]at hr;exact hr.1
  have hreal':=Vy aC yb hc hx hreal (DB.2 x (by simp)) h.1;have X8:fP (pre++r::post)=true:=by simp only[ZaM,fP,Zam]at bT;exact bT.2
  have hfree':kC aJ (pre++r::post) (dW Γ aJ x st):=vh aC X5.2 h.1 (sk bT) ⟨DB.1,λy hy=>DB.2 y (by simp only[ZaM,Zah];exact .inr hy)⟩;obtain⟨i1,i2,i3⟩:=DF aC yb hr pre (λy hy=>tB y (by simp[hy])) X8 _ hreal' hfree' h.2;obtain⟨s1,s2,s3⟩:=swap hi X5.1 hcr.1 X5.2 hcr.2 (DE hreal) (λ_=>DB.2 x (by simp)) (λ_=>DB.2 r (by simp)) h.1 i1;refine⟨s1,⟨s2,by rw[<-s3];exact i2⟩, ?_⟩;simp only[ZaM,dZ];rw[<-s3];exact i3
def rem(n:Nat)(listed:Array Bool):cO:=(List.range n).filter λi=> !listed.getD i true
def p6{n:Nat}{i:Nat}:i∈rem n listed↔i<n/\listed.getD i true=false:=by
 simp[rem]
def range_split{n i:Nat}(h:i<n):List.range n=List.range i++i::List.range' (i+1) (n-i-1):=by
 have h1:n=i+(1+(n-i-1)):=by omega
 rw[List.range_eq_range',List.range_eq_range']
 conv=>lhs;rw[h1]
 rw[<-List.range'_append_1,Zbi,<-List.range'_append_1];simp
def Vz{n i:Nat}(hs:listed.size=n)(hi:i∈rem n listed):∃pre post,rem n listed=pre++i::post/\rem n (listed.setIfInBounds i true)=pre++post/\(∀x∈pre,x<i/\x∈rem n listed):=by
 obtain⟨h1,h2⟩:=p6.1 hi;have Oi:∀j,j≠i->(listed.setIfInBounds i true).getD j true=listed.getD j true:=λj hj=>getD_set_ne true (Ne.symm hj);have hself:(listed.setIfInBounds i true).getD i true=true:=by
  rw[ZaH,ZbZ];simp[hs,h1]
 refine⟨(List.range i).filter (λj=> !listed.getD j true),(List.range' (i+1) (n-i-1)).filter (λj=> !listed.getD j true), ?_, ?_, ?_⟩
 ·unfold rem;rw[range_split h1,List.filter_append,Za4];simp[h2]
 ·unfold rem;rw[range_split h1,List.filter_append,Za4];simp only[hself,Zcs,ZaW,if_false]
  congr 1
  ·refine List.filter_congr λj hj=>?_;rw[Oi j (by have:=Za2.1 hj;omega)]
  ·refine List.filter_congr λj hj=>?_;rw[Oi j (by have:=Zb6.1 hj;omega)]
 ·intro x hx;simp only[Zbj,Za2,Zbf]at hx;exact⟨hx.1,p6.2 ⟨by omega,hx.2⟩⟩
def one_bit{k:Nat}(h:(1:Nat).testBit k=true):k=0:=by
 cases k with
 |zero=>rfl
 |succ k=>simp[Nat.testBit_succ]at h
def DG(fX:cO):∀(as:cO) (m x:Nat),(as.foldl (λm j=>m|||(1<<<j)|||fX.getD j 0) m).testBit x=true->m.testBit x=true\/x∈as\/∃j∈as,(fX.getD j 0).testBit x=true
 |[],m,x,h=>.inl h
 |j::as,m,x,h=>by
  simp only[ZaN]at h;rcases DG fX as _ x h with h|h|⟨k,hk,h⟩
  ·simp only[Nat.testBit_or,Zci,Nat.testBit_shiftLeft,Zam,Zau,ge_iff_le]at h;rcases h with(h|⟨h1,h2⟩)|h
   ·exact .inl h
   ·have:=one_bit h2;have:x=j:=by omega
    exact .inr (.inl (by simp[this]))
   ·exact .inr (.inr ⟨j,by simp,h⟩)
  ·exact .inr (.inl (by simp[h]))
  ·exact .inr (.inr ⟨k,by simp[hk],h⟩)
def DH:∀(rs:ai) (fX:cO),(rs.foldl (λfX r=>fX++[o7 fX r.after]) fX).take fX.length=fX/\
  ∀(k:Nat) (r:RO),rs[k]? =some r->(rs.foldl (λfX r=>fX++[o7 fX r.after]) fX)[fX.length+k]? =some (o7 ((rs.foldl (λfX r=>fX++[o7 fX r.after]) fX).take (fX.length+k)) r.after)
 |[],fX=>⟨by simp,by simp⟩
 |r::rs,fX=>by
  have ih:=DH rs (fX++[o7 fX r.after]);simp only[ZaN];generalize hm:rs.foldl (λfX r=>fX++[o7 fX r.after]) (fX++[o7 fX r.after])=ms at ih;simp only[ZaK,Za5,Zcj,Zbi]at ih;have h1:ms.take fX.length=fX:=by
   have:=congrArg (List.take fX.length) ih.1;rw[ZcS]at this;simpa [show min fX.length (fX.length+1)=fX.length by omega]using this
  refine⟨h1,λk q hq=>?_⟩;cases k with
  |zero=>
   simp only[ZaF,Zaa]at hq;subst hq;rw[ZbV,h1];have h2:(ms.take (fX.length+1))[fX.length]? =some (o7 fX r.after):=by rw[ih.1];simp
   rw[ZaQ]at h2;simpa using h2
  |succ k=>
   have:=ih.2 k q (by simpa using hq)
   rwa [show fX.length+1+k=fX.length+(k+1)by omega]at this
def VA{i m x:Nat}(hr:rs[i]? =some r)(hm:(ng rs)[i]? =some m)(hx:m.testBit x=true)(ln:∀j∈r.after,j<i):x∈r.after\/∃j∈r.after,∃mj,(ng rs)[j]? =some mj/\mj.testBit x=true:=by
 have:=(DH rs []).2 i r hr;simp only[Zcj,Zbi]at this;have HP:(ng rs)[i]? =some (o7 ((ng rs).take i) r.after):=this;rw[hm]at HP;simp only[Zaa]at HP;subst HP;unfold o7 at hx;rcases DG _ _ _ _ hx with h|h|⟨j,hj,h⟩
 ·simp at h
 ·exact .inl h
 ·refine .inr ⟨j,hj, ?_⟩;have hji:=ln j hj;rw[List.getD,ZaQ,Zai hji]at h;cases hmj:(ng rs)[j]? with
  |none=>rw[hmj]at h;simp at h
  |some mj=>rw[hmj]at h;exact⟨mj,rfl,by simpa using h⟩
def Ic(hp:∀(i:Nat) (y:RO),rs[i]? =some y->∀j∈y.after,j<i)(aT:∀(j:Nat) (y:RO),listed.getD j false=true->rs[j]? =some y->∀e∈y.after,listed.getD e false=true):
  ∀(i:Nat) (y:RO) (m x:Nat),rs[i]? =some y->(ng rs)[i]? =some m->m.testBit x=true->(∀e∈y.after,listed.getD e false=true)->listed.getD x false=true:=by
 intro i;induction i using Nat.strongRecOn with
 |_ i ih=>
  intro y m x hy hm hx hd;rcases VA hy hm hx (hp i y hy)with h|⟨j,hj,mj,hmj,hxj⟩
  ·exact hd x h
  ·have hji:=hp i y hy j hj;have dM:j<rs.length:=by
    have:=(Zaw.1 hy).1;omega
   have hyj:rs[j]? =some rs[j]:=by simp[dM]
   exact ih j hji rs[j] mj x hyj hmj hxj (aT j _ (hd j hj) hyj)
def DI(h:vg rs (ng rs)=true):(∀(i:Nat) (y:RO),rs[i]? =some y->∀j∈y.after,j<i)/\
  ∀(i x:Nat) (y r:RO),rs[i]? =some y->x<i->rs[x]? =some r->kw r y=true\/∃m,(ng rs)[i]? =some m/\m.testBit x=true:=by
 unfold vg at h;rw[ZaU]at h;have key:∀(i:Nat) (y:RO),rs[i]? =some y->∃m,(ng rs)[i]? =some m/\(∀j∈y.after,j<i)/\∀x,x<i->m.testBit x=true\/∃r,rs[x]? =some r/\kw r y=true:=by
  intro i y hy;have:=h i (Za2.2 (Zaw.1 hy).1);rw[hy]at this;cases hm:(ng rs)[i]? with
  |none=>rw[hm]at this;simp at this
  |some m=>
   rw[hm]at this;simp only[Zam,ZaU,Zau,Za2,Zci]at this;refine⟨m,rfl,this.1,λx hx=>?_⟩;rcases this.2 x hx with h1|h1
   ·exact .inl h1
   ·cases hr:rs[x]? with
    |none=>rw[hr]at h1;simp at h1
    |some r=>rw[hr]at h1;exact .inr ⟨r,rfl,h1⟩
 refine⟨λi y hy=>(key i y hy).choose_spec.2.1,λi x y r hy hx hr=>?_⟩;obtain⟨m,hm,_,h2⟩:=key i y hy;rcases h2 x hx with h3|⟨r',gD,h3⟩
 ·exact .inr ⟨m,hm,h3⟩
 ·rw[hr]at gD;cases gD;exact .inl h3
def any_run(aC:ay P Γ)(yb:κ.Good P){g:Nat->RO}(hg:∀(i:Nat) (o:Oper),ops[i]? =some o->d9 P ops o=some (bare (g i)))
  (I2:∀i,i<ops.size->l9 nt (g i)=true) (bT:∀l:cO,l.Nodup->(∀i∈l,i<ops.size)->fP (l.map g)=true)
  (hind:∀(listed:Array Bool) (i x:Nat),i<ops.size->x<i->listed.getD x true=false->(∀(j:Nat),j<ops.size->listed.getD j false=true->∀e∈(g j).after,listed.getD e false=true)->(∀e∈(g i).after,listed.getD e false=true)->kw (g x) (g i)=true)
  (ln:∀i,i<ops.size->∀j∈(g i).after,j<i):
  ∀(qa:Nat) (listed:Array Bool),listed.size=ops.size->(rem ops.size listed).length=qa->(∀(j:Nat),j<ops.size->listed.getD j false=true->∀e∈(g j).after,listed.getD e false=true)->
   ∀(st:RS) (a:Act) (w:World) (L:Loc),eP κ nt st a w L->kC aJ ((rem ops.size listed).map g) st->jE Γ aJ ((rem ops.size listed).map g) st->
    (∀a' w' L',eP κ nt (dZ Γ aJ ((rem ops.size listed).map g) st) a' w' L'->Q .normal a' w')->wpAnyIn (iV ro) n P .any ops Q qa listed a w:=by
 have Ai:∀(i:Nat) (o:Oper),ops[i]? =some o->∀(listed:Array Bool),(∀e∈o.after,Region.binds .any e=true->listed.getD e.on false=true)↔∀e∈(g i).after,listed.getD e false=true:=by
  intro i o ho listed;have:=(fQ (hg i o ho)).2.2.2;rw[this];constructor
  ·intro h e he;simp only[Zak,Zbj]at he;obtain⟨x,⟨hx,hb⟩,rfl⟩:=he;exact h x (by simpa using hx) hb
  ·intro h e he hb;exact h e.on (Zak.2 ⟨e,Zbj.2 ⟨by simpa using he,hb⟩,rfl⟩)
 intro qa;induction qa with
 |zero=>
  intro listed hs hfu aT st a w L h hf dq hQ;have KH:rem ops.size listed=[]:=ZaD hfu;refine⟨?_, ?_⟩
  ·cases hr:Region.ready .any ops listed with
   |nil=>rfl
   |cons j js=>
    exfalso;have hj:j∈Region.ready .any ops listed:=by rw[hr];simp
    obtain⟨h0,o,ho,_⟩:=mem_ready.1 hj;have:j∈rem ops.size listed:=p6.2 ⟨(Zap.1 ho).1,h0⟩;rw[KH]at this;cases this
  ·rw[KH]at hQ;exact hQ a w L h
 |succ qa ih=>
  intro listed hs hfu aT st a w L h hf dq hQ;refine⟨λhr=>?_,λi hi=>?_⟩
  ·exfalso;have X9:∃i,i∈rem ops.size listed/\∀x<i,x∉rem ops.size listed:=by
    have Dn:∃i,i∈rem ops.size listed:=by
     cases hl:rem ops.size listed with
     |nil=>rw[hl]at hfu;cases hfu
     |cons i l=>exact⟨i,by simp⟩
    obtain⟨i,hi⟩:=Dn;induction i using Nat.strongRecOn with
    |_ i ih2=>
     by_cases hx:∃x,x<i/\x∈rem ops.size listed
     ·obtain⟨x,HS,qr⟩:=hx;exact ih2 x HS qr
     ·exact⟨i,hi,λx HS qr=>hx ⟨x,HS,qr⟩⟩
   obtain⟨i,hi,X9⟩:=X9;obtain⟨h1,h2⟩:=p6.1 hi;have:i∈Region.ready .any ops listed:=mem_ready.2 ⟨h2,ops[i],by simp[h1],by
    rw[Ai i ops[i] (by simp[h1])];intro e he;have hei:=ln i h1 e he;have hn:=X9 e hei;rw[p6]at hn;have Xf:e<listed.size:=by omega
    rw[ZaH]at hn⊢;simp only[Xf,ZbD,Zbd]at hn⊢;cases hb:listed[e]
    ·exact Zar ⟨by omega,hb⟩ hn
    ·rfl⟩
   rw[hr]at this;cases this
  ·obtain⟨h0,o,ho,d0⟩:=mem_ready.1 hi;have Ya:i<ops.size:=(Zap.1 ho).1;have hdeps:=(Ai i o ho listed).1 d0;obtain⟨pre,post,e1,e2,tB⟩:=Vz hs (p6.2 ⟨Ya,h0⟩);rw[e1,ZaZ,ZaA]at dq hQ hf;have yd:(pre++i::post).Nodup:=by
    rw[<-e1];exact List.Pairwise.filter _ List.nodup_range
   have hbd:∀x∈pre++i::post,x<ops.size:=by
    intro x hx;rw[<-e1]at hx;exact(p6.1 hx).1
   have hne1:fP (pre.map g++g i::post.map g)=true:=by
    have:=bT _ yd hbd;simpa using this
   have mv:=DF (κ:=κ) aC yb (ops:=ops) (I2 i Ya) (pre.map g) (λx hx=>by
    obtain⟨y,hy,rfl⟩:=Zak.1 hx;have fJ:=tB y hy;have hyb:=(p6.1 fJ.2);refine⟨hind listed i y Ya fJ.1 hyb.2 aT hdeps,I2 y hyb.1,ops[y],hg y _ (by simp[hyb.1])⟩) hne1 st ⟨a,w,L,h⟩ hf dq
   have hgi:=hg i o ho;refine pZ aC yb ho hgi (I2 i Ya) h (hf.2 (g i) (by simp)) mv.1 λa' w' L' h'=>?_;refine ih (listed.setIfInBounds i true) (by simpa using hs) ?_ ?_ _ a' w' L' h' ?_ ?_ ?_
   ·rw[e2];rw[e1]at hfu;simp only[ZaK,Za5]at hfu⊢;omega
   ·intro j hj J3 e he;by_cases hji:j=i
    ·subst hji;exact getD_set_true (hdeps e he)
    ·rw[getD_set_ne false (Ne.symm hji)]at J3;exact getD_set_true (aT j hj J3 e he)
   ·rw[e2,ZaZ];have X7:gm (g i)=true:=by have:=I2 i Ya;simp only[l9,Zam]at this;exact this.1.2
    refine vh aC X7 mv.1 (λy hy=>?_) ⟨hf.1,λy hy=>hf.2 y ?_⟩
    ·have hnd2:(i::(pre++post)).Nodup:=(List.perm_middle.nodup_iff).1 yd;have:=bT _ hnd2 (λx hx=>hbd x (by simp only[Zah,Zaq]at hx⊢;rcases hx with h|h|h<;>simp[h]))
     rw[ZaA,ZaZ]at this;exact sk this y hy
    ·simp only[Zaq,Zah]at hy⊢;rcases hy with h|h
     ·exact .inl h
     ·exact .inr (.inr h)
   ·rw[e2,ZaZ];exact mv.2.1
   ·rw[e2,ZaZ,mv.2.2];exact hQ
def wa:∀{rs:ai},fP rs=true->∀(i j:Nat) (x y:RO),i≠j->rs[i]? =some x->rs[j]? =some y->pX x y=true
 |[],_,_,_,_,_,_,h,_=>by simp at h
 |r::rs,hd,i,j,x,y,hij,hx,hy=>by
  simp only[fP,Zam,ZaU]at hd;cases i with
  |zero=>
   simp only[ZaF,Zaa]at hx;subst hx;cases j with
   |zero=>exact Zar rfl hij
   |succ j=>exact hd.1 y (Zax (by simpa using hy))
  |succ i=>
   cases j with
   |zero=>
    simp only[ZaF,Zaa]at hy;subst hy;exact DD (hd.1 x (Zax (by simpa using hx)))
   |succ j=>exact wa hd.2 i j x y (by omega) (by simpa using hx) (by simpa using hy)
def KJ(aC:ay P Γ)(yb:κ.Good P)(hm:P.follows .mixedOrders=true)(hc:fO P ops=some (rs.map bare))(dq:ee nt true rs=true){a:Act}{w:World}{L:Loc}(h:eP κ nt st a w L)
  (hf:kC aJ rs st) (bW:jE Γ aJ rs st) (hQ:∀a' w' L',eP κ nt (dZ Γ aJ rs st) a' w' L'->Q .normal a' w'):(Code.region id ops true).wpIn (iV ro) n P Q a w:=by
 obtain⟨dM,mF⟩:=lL hc;simp only[ee,Zam,Zcs,Bool.false_or]at dq;obtain⟨⟨d0,Vx⟩,hp⟩:=dq;obtain⟨ln,hpair⟩:=DI hp
 let g:Nat->RO:=λi=>(rs[i]?).getD ⟨.qu (.gN .undef),none,none,[],none⟩
 have gg:∀i,i<ops.size->rs[i]? =some (g i):=λi hi=>by
  have:i<rs.length:=by omega
  simp[g,this]
 have hgc:∀(i:Nat) (o:Oper),ops[i]? =some o->d9 P ops o=some (bare (g i)):=λi o ho=>by
  obtain⟨r,h1,h2⟩:=mF i o ho;have:g i=r:=by simp[g,h1]
  rw[this];exact h2
 have mt:rs=(List.range ops.size).map g:=by
  apply ZbN;intro i;by_cases hi:i<ops.size
  ·rw[gg i hi];simp[hi]
  ·rw[Zbs (by omega),Zbs (by simp;omega)]
 have QC:rem ops.size (Array.replicate ops.size false)=List.range ops.size:=by
  unfold rem;rw[List.filter_eq_self.2];intro i hi;have:=Za2.1 hi;simp[ZaH,this]
 have hh:eP κ nt st a {w with drawn:=w.drawn+1} L:=by
  have hb:vO w.heap.size w {w with drawn:=w.drawn+1}:=⟨⟨rfl,rfl,rfl,Zaf _,λ_ _=>rfl⟩,Zdb _⟩;obtain⟨W,base,M,w0,dP,h0⟩:=h.ex;obtain⟨hO,hA⟩:=ct.grow h0.o hb;obtain⟨Ds,h1,h2,h3,h4⟩:=h.defers;exact⟨⟨W,base,M,w0,dP,h0.size,λt=>aA.eZ hA _ _ (h0.tmps t),hO⟩,h.eZ.comp hA (dP.H3 _) dP.sub.2,⟨Ds,h1,h2,λD hD=>⟨hA.dx.W8 D (h3 D hD).1,(h3 D hD).2⟩,h4⟩,h.bg,h.bZ⟩
 refine wpIn_region_any hm (any_run aC yb (g:=g) hgc (λi hi=>ZaU.1 d0 _ (Zax (gg i hi))) (λl hl hb=>?_) (λlisted i x hi hx Gb aT hd=>?_) (λi hi=>ln i (g i) (gg i hi)) ops.size _ (by simp) (by rw[QC];simp) (λj hj J3=>?_) st a _ L hh
  (by rw[QC,<-mt];exact hf) (by rw[QC,<-mt];exact bW) (by rw[QC,<-mt];exact hQ))
 ·clear bW hQ hf;induction l with
  |nil=>rfl
  |cons i l ih=>
   simp only[ZaA,fP,Zam,ZaU];rw[Zcw]at hl;refine⟨λy hy=>?_,ih hl.2 λj hj=>hb j (by simp[hj])⟩;obtain⟨j,hj,rfl⟩:=Zak.1 hy;exact wa Vx i j _ _ (by rintro rfl;exact hl.1 hj) (gg i (hb i (by simp))) (gg j (hb j (by simp[hj])))
 ·rcases hpair i x (g i) (g x) (gg i hi) hx (gg x (by omega))with h1|⟨m,QD,NX⟩
  ·exact h1
  ·exfalso;have:=Ic (rs:=rs) (listed:=listed) ln (λj y hj hy=>by
    have hjn:j<ops.size:=by have:=(Zaw.1 hy).1;omega
    have:y=g j:=by rw[gg j hjn]at hy;exact(ZbU hy).symm
    rw[this];exact aT j hjn hj) i (g i) m x (gg i hi) QD NX hd
   rw[ZaH]at this Gb;cases qr:listed[x]? with
   |none=>rw[qr]at this;simp at this
   |some b=>rw[qr]at this Gb;simp at this Gb;rw[this]at Gb;cases Gb
 ·rw[ZaH]at J3;simp[hj]at J3
end
end
section
variable{id d1 d2:Nat}{yZ:Bool}{rs:ai}{ops:Array Oper}{dm:l8}
variable [bI] [dL]
inductive DC where
 |skip
 |region (yZ:Bool) (rs:ai)
 |jr (rs:ai)
 |seq (a b:DC)
 |cond (c:bQ) (a b:DC)
 |block (id:Nat) (c:DC)
 |loop (c:DC)
 |exit (id:Nat)
 |ret
 |Id (g:bQ) (ps:cO) (a b:DC)
 |QE (x:bQ) (d1 d2:Nat)
 |By
def Yb(ops:Array Oper):Option (bQ×Nat×Nat):=
 match ops.toList with
 |[a,b]=>match a.op,b.op,a.dst,b.dst,a.guard,b.guard with
  |.next x false,.extract (.tmp t) 0,some d1,some d2,none,none=>if t=d1 then(bQ.of x).map λy=>(y,d1,d2)else none
  |_,_,_,_,_,_=>none
 |_=>none
def ce(P:Program)(nt:Nat):Code->DC
 |.skip=>.skip
 |.region _ ops yZ=>match fO P ops with
  |some rs=>if ee nt yZ rs then .region yZ rs else if yZ&&ee nt false rs then .jr rs else .By
  |none=>if yZ then .By else match Yb ops with
   |some q=>if q.2.1<nt/\q.2.2<nt then .QE q.1 q.2.1 q.2.2 else .By
   |none=>.By
 |.seq a b=>.seq (ce P nt a) (ce P nt b)
 |.cond c a b=>match bQ.of c with
  |some x=>.cond x (ce P nt a) (ce P nt b)
  |none=>.By
 |.block id c=>.block id (ce P nt c)
 |.loop c=>.loop (ce P nt c)
 |.exit id=>.exit id
 |.ret=>.ret
 |.rangeFunc g ps a b=>match bQ.of g with
  |some x=>if ps.toList.all (·<nt)then .Id x ps.toList (ce P nt a) (ce P nt b)else .By
  |none=>.By
 |_=>.By
section
variable{P:Program}{nt:Nat}{c:Code}
def Yc(h:ce P nt c=.skip):c=.skip:=by
 cases c<;>simp only[ce]at h<;>first|rfl|cases h|(repeat' split at h)<;>cases h
def inv_ret(h:ce P nt c=.ret):c=.ret:=by
 cases c<;>simp only[ce]at h<;>first|rfl|cases h|(repeat' split at h)<;>cases h
def Oj{x:bQ}{ps:cO}{a b:DC}(h:ce P nt c=.Id x ps a b):∃g qs y z,c=.rangeFunc g qs y z/\bQ.of g=some x/\qs.toList=ps/\(∀p∈ps,p<nt)/\ce P nt y=a/\ce P nt z=b:=by
 cases c<;>simp only[ce]at h<;>first|(cases h;done)|skip
 ·(repeat' split at h)<;>cases h
 ·split at h<;>cases h
 ·split at h
  ·rename_i hx;split at h
   ·rename_i hp;cases h;exact⟨_,_,_,_,rfl,hx,rfl,λp hp'=>by have:=ZaU.1 hp p hp';simpa using this,rfl,rfl⟩
   ·cases h
  ·cases h
def Yd(h:ce P nt c=.exit id):c=.exit id:=by
 cases c<;>simp only[ce]at h<;>first|(cases h;rfl)|cases h|(repeat' split at h)<;>cases h
def inv_seq{a b:DC}(h:ce P nt c=.seq a b):∃x y,c=.seq x y/\ce P nt x=a/\ce P nt y=b:=by
 cases c<;>simp only[ce]at h<;>first|(cases h;exact⟨_,_,rfl,rfl,rfl⟩)|cases h|(repeat' split at h)<;>cases h
def Ye{x:bQ}{a b:DC}(h:ce P nt c=.cond x a b):∃x' y z,c=.cond x' y z/\bQ.of x'=some x/\ce P nt y=a/\ce P nt z=b:=by
 cases c<;>simp only[ce]at h<;>first|(cases h;done)|skip
 ·(repeat' split at h)<;>cases h
 ·split at h
  ·rename_i hx;cases h;exact⟨_,_,_,rfl,hx,rfl,rfl⟩
  ·cases h
 ·(repeat' split at h)<;>cases h
def VB{a:DC}(h:ce P nt c=.block id a):∃x,c=.block id x/\ce P nt x=a:=by
 cases c<;>simp only[ce]at h<;>first|(cases h;exact⟨_,rfl,rfl⟩)|cases h|(repeat' split at h)<;>cases h
def Yf{a:DC}(h:ce P nt c=.loop a):∃x,c=.loop x/\ce P nt x=a:=by
 cases c<;>simp only[ce]at h<;>first|(cases h;exact⟨_,rfl,rfl⟩)|cases h|(repeat' split at h)<;>cases h
def o8(h:ce P nt c=.region yZ rs):∃id ops,c=.region id ops yZ/\fO P ops=some rs/\ee nt yZ rs=true:=by
 cases c<;>simp only[ce]at h<;>first|(cases h;done)|skip
 case region id ops dr=>
  split at h
  ·rename_i mt;split at h
   ·rename_i dq;cases h;exact⟨_,_,rfl,mt,dq⟩
   ·split at h<;>cases h
  ·(repeat' split at h)<;>cases h
 case cond=>split at h<;>cases h
 case rangeFunc=>(repeat' split at h)<;>cases h
def KK(h:ce P nt c=.jr rs):∃id ops,c=.region id ops true/\fO P ops=some rs:=by
 cases c<;>simp only[ce]at h<;>first|(cases h;done)|skip
 case region id ops dr=>
  split at h
  ·rename_i mt;split at h
   ·cases h
   ·split at h
    ·rename_i hd;cases h;simp only[Zam]at hd;exact⟨_,_,by rw[hd.1],mt⟩
    ·cases h
  ·(repeat' split at h)<;>cases h
 case cond=>split at h<;>cases h
 case rangeFunc=>(repeat' split at h)<;>cases h
end
def VC{P:Program}{nt:Nat}{c:Code}{x:bQ}(h:ce P nt c=.QE x d1 d2):∃id o1 o2 y,c=.region id #[o1,o2] false/\o1.op=.next y false/\bQ.of y=some x/\o1.dst=some d1/\o1.guard=none/\o2.op=.extract (.tmp d1) 0/\o2.dst=some d2/\o2.guard=none/\d1<nt/\d2<nt:=by
 cases c<;>simp only[ce]at h<;>first|(cases h;done)|skip
 case region id ops dr=>
  split at h
  ·split at h
   ·cases h
   ·split at h<;>cases h
  ·split at h
   ·cases h
   ·rename_i Kq;have Kq:dr=false:=by simpa using Kq
    subst Kq;split at h
    ·rename_i q hq;split at h
     ·rename_i ln;cases h;unfold Yb at hq;split at hq
      ·rename_i o1 o2 hops;split at hq
       ·rename_i y t e1 e2 h1 h2 h3 h4 h5 h6;split at hq
        ·rename_i hte;subst hte;simp only[Zac]at hq;obtain⟨z,hz,rfl⟩:=hq;exact⟨id,o1,o2,y,by rw[show ops= #[o1,o2]by rw[<-Array.toArray_toList (xs:=ops),hops]],h1,hz,h3,h5,h2,h4,h6,ln.1,ln.2⟩
        ·cases hq
       ·cases hq
      ·cases hq
     ·cases h
    ·cases h
 case cond=>split at h<;>cases h
 case rangeFunc=>(repeat' split at h)<;>cases h
def Gh{P:Program}{o:Oper}{d:rO}(h:dz P o=some d):Bt d=d:=by
 cases d<;>first|rfl|skip
 case mkSliceB=>exact(no_mkB h).elim
 case callS=>
  obtain⟨c,_,hc⟩:=fz h (.inr (.inl ⟨_,_,rfl⟩));exfalso;unfold eG at hc;repeat' split at hc
  all_goals first
   |(cases hc;done)
   |(simp only[Zac,Zao,Zaj,Zad,Zaa,reduceCtorEq,and_false,exists_false]at hc;done)
 case callF=>
  obtain⟨c,_,hc⟩:=fz h (.inr (.inr (.inr (.inl ⟨_,_,rfl⟩))));exfalso;unfold eG at hc;repeat' split at hc
  all_goals first
   |(cases hc;done)
   |(simp only[Zac,Zao,Zaj,Zad,Zaa,reduceCtorEq,and_false,exists_false]at hc;done)
 case callR=>
  obtain⟨c,_,hc⟩:=fz h (.inr (.inr (.inr (.inr ⟨_,_,rfl⟩))));exfalso;unfold eG at hc;repeat' split at hc
  all_goals first
   |(cases hc;done)
   |(simp only[Zac,Zao,Zaj,Zad,Zaa,reduceCtorEq,and_false,exists_false]at hc;done)
def DJ{P:Program}{o:Oper}{r:RO}(h:d9 P ops o=some r):bare r=r:=by
 simp only[d9,Zao,Zaj,Zad,Zaa]at h;obtain⟨d,hd,g,hg,rfl⟩:=h;simp only[bare,Gh hd]
def tr{P:Program}(h:fO P ops=some rs):rs.map bare=rs:=by
 unfold fO at h;have key:∀(l:List Oper) (rs:ai),l.mapM (d9 P ops)=some rs->rs.map bare=rs:=by
  intro l;induction l with
  |nil=>intro rs h;simp at h;subst h;rfl
  |cons o l ih=>
   intro rs h;simp only[Za7,Zao,Zaj,Zad,Zaa]at h;obtain⟨r,hr,rs',mt,rfl⟩:=h;simp only[ZaA,DJ hr,ih rs' mt]
 exact key _ _ h
def eR:ai->List (Option (cO))->ai
 |r::rs,t::ts=>⟨r.d,r.dst,r.guard,r.after,t⟩::eR rs ts
 |rs,_=>rs
structure Ie(κ:oX)(nt:Nat)(st:l8)(a:Act)(w:World)(L:Loc):Prop where
 r:eP κ nt ⟨st.tmps,st.ab,st.todo⟩ a w L
 fresh:∀r,st.aJ<=r->st.ab r=none
 low:∀r,st.low<=r->κ.go r=none
 it:κ.J.isSome=true->st.low=0
def Sat(P:Program)(nt:Nat)(c:Code)(Q:Exit->l8->Prop)(st:l8):Prop:=
 ∀(n:Nat) (κ:oX) (a:Act) (w:World) (L:Loc),κ.Good P->Ie κ nt st a w L->
  c.wpIn (iV κ.ro) n P (λe a' w'=>∃dm L',Q e dm/\Ie κ nt dm a' w' L') a w
structure aa(P:Program)(nt:Nat)(d:DC)(Q:Exit->l8->Prop)(st:l8):Prop where
 run:∀c,ce P nt c=d->Sat P nt c Q st
def Le(st dm:l8):Prop:=∀(κ:oX) (nt:Nat) (a:Act) (w:World) (L:Loc),Ie κ nt st a w L->∃L',Ie κ nt dm a w L'
def Le.refl(st:l8):Le st st:=λ_ _ _ _ L h=>⟨L,h⟩
def Le.trans{a b c:l8}(h:Le a b)(k:Le b c):Le a c:=λ_ _ _ _ L r=>let⟨_,r'⟩:=h _ _ _ _ L r;k _ _ _ _ _ r'
section
variable{P:Program}{nt:Nat}{Γ:pI}{Q:Exit->l8->Prop}{st:l8}
def Sat.le{c:Code}(h:Le st dm)(k:Sat P nt c Q dm):Sat P nt c Q st:=λn κ a w L g r=>let⟨L',r'⟩:=h _ _ _ _ L r;k n κ a w L' g r'
def aa.le{d:DC}(h:Le st dm)(k:aa P nt d Q dm):aa P nt d Q st:=⟨λc hc=>Sat.le h (k.run c hc)⟩
def aa.yf{d:DC}{Q':Exit->l8->Prop}(h:aa P nt d Q st)(hq:∀e st,Q e st->∃st2,Le st st2/\Q' e st2):aa P nt d Q' st:=
 ⟨λc hc n κ a w L g r=>wpIn_mono (h.run c hc n κ a w L g r) λ_ _ _ ⟨_,L',q,r'⟩=>let⟨st2,hl,q2⟩:=hq _ _ q;let⟨L2,r2⟩:=hl _ _ _ _ L' r';⟨st2,L2,q2,r2⟩⟩
def aa.skip(h:Q .normal st):aa P nt .skip Q st:=by
 refine⟨λc hc=>?_⟩;obtain rfl:=Yc hc;exact λn κ a w L g r=>wpIn_skip ⟨st,L,h,r⟩
def aa.exit(h:Q (.exit id) st):aa P nt (.exit id) Q st:=by
 refine⟨λc hc=>?_⟩;obtain rfl:=Yd hc;exact λn κ a w L g r=>wpIn_exit ⟨st,L,h,r⟩
def aa.ret(h:Q .ret st):aa P nt .ret Q st:=by
 refine⟨λc hc=>?_⟩;obtain rfl:=inv_ret hc;exact λn κ a w L g r=>wpIn_ret ⟨st,L,h,r⟩
def QF(k:l8->Prop)(Q:Exit->l8->Prop):Exit->l8->Prop
 |.normal,st=>k st
 |e,st=>Q e st
def aa.seq{a b:DC}(h:aa P nt a (QF (aa P nt b Q) Q) st):aa P nt (.seq a b) Q st:=by
 refine⟨λc hc=>?_⟩;obtain⟨a',b',rfl,ha,hb⟩:=inv_seq hc;intro n κ Xg w L g r;refine wpIn_seq (wpIn_mono (h.run _ ha n κ Xg w L g r) ?_);rintro e a' w' ⟨dm,L',q,r'⟩;cases e with
 |normal=>exact q.run _ hb n κ a' w' L' g r'
 |_=>exact⟨dm,L',q,r'⟩
def aa.cond{x:bQ}{a b:DC}{t:Bool}(hx:x.ev st.tmps=.v (.bool t))(ht:t=true->aa P nt a Q st)(hf:t=false->aa P nt b Q st):aa P nt (.cond x a b) Q st:=by
 refine⟨λc hc=>?_⟩;obtain⟨x',a',b',rfl,mh,ha,hb⟩:=Ye hc;intro n κ Xg w L g r;obtain⟨W,base,M,w0,dP,h0⟩:=r.r.ex;have:=bQ.bP h0.o.gl h0.tmps mh;rw[hx]at this;simp only[aA,bj]at this;cases t with
 |true=>exact wpIn_cond_true this ((ht rfl).run _ ha n κ Xg w L g r)
 |false=>exact wpIn_cond_false this ((hf rfl).run _ hb n κ Xg w L g r)
def Ok(id:Nat)(Q:Exit->l8->Prop):Exit->l8->Prop
 |.exit id',st=>if id'=id then Q .normal st else Q (.exit id') st
 |e,st=>Q e st
def aa.block{a:DC}(h:aa P nt a (Ok id Q) st):aa P nt (.block id a) Q st:=by
 refine⟨λc hc=>?_⟩;obtain⟨a',rfl,ha⟩:=VB hc;intro n κ Xg w L g r;refine wpIn_block (wpIn_mono (h.run _ ha n κ Xg w L g r) ?_);rintro e a' w' ⟨dm,L',q,r'⟩;cases e with
 |exit id'=>
  simp only[Ok]at q;simp only[Exit.inBlock];split at q
  ·rename_i h;rw[Zai h];exact⟨dm,L',q,r'⟩
  ·rename_i h;rw[Zab h];exact⟨dm,L',q,r'⟩
 |_=>exact⟨dm,L',q,r'⟩
def aa.loop{α:Type}{body:DC}(R:α->l8)(I:α->Prop)(μ:α->Nat)(x:α)(h0:Le st (R x))(hI:I x)
  (round:∀y,I y->aa P nt body (QF (λdm=>∃z,Le dm (R z)/\I z/\μ z<μ y) Q) (R y)):aa P nt (.loop body) Q st:=by
 refine⟨λc hc=>?_⟩;obtain⟨a',rfl,ha'⟩:=Yf hc;intro n κ Xg w L g r;obtain⟨L0,r0⟩:=h0 _ _ _ _ L r;refine wpIn_loop_ghost (λk a w=>∃y L,μ y=k/\I y/\Ie κ nt (R y) a w L) (μ x) ⟨x,L0,rfl,hI,r0⟩ ?_;rintro k a w ⟨y,L,rfl,hy,hr⟩;refine wpIn_mono ((round y hy).run _ ha' n κ a w L g hr) ?_;rintro e a' w' ⟨dm,L',q,r'⟩;cases e with
 |normal=>
  obtain⟨z,jy,hz,ln⟩:=q;obtain⟨L2,r2⟩:=jy _ _ _ _ L' r';exact⟨μ z,ln,z,L2,rfl,hz,r2⟩
 |_=>exact⟨dm,L',q,r'⟩
def yg(aC:ay P Γ){aJ:Nat}:∀(rs:ai),rs.all (l9 nt)=true->∀(st:RS),jE Γ aJ rs st->∀t,aJ+nt+1<=t->st.ab t=none->(dZ Γ aJ rs st).ab t=none
 |[],_,st,_,t,_,h=>h
 |r::rs,d0,st,dq,t,ht,h=>by
  simp only[ZcG,Zam]at d0;simp only[jE]at dq;refine yg aC rs d0.2 _ dq.2 t ht (Ah aC dq.1 h λhl e=>?_);have hr:=d0.1;simp only[l9,Zam]at hr;have hs:r.dst.isSome=true:=by simpa [gm,hl]using hr.1.2
  obtain⟨d,hd⟩:=Zbp.1 hs;have ln:d<nt:=by have:=hr.2;rw[hd]at this;simpa using this
  simp only[nm,bN,hd]at e;omega
def sr(aC:ay P Γ)(hm:P.follows .mixedOrders=true)(mt:fO P ops=some (rs.map bare))(dq:ee nt yZ rs=true)
  (bW:jE Γ st.aJ rs ⟨st.tmps,st.ab,st.todo⟩) (hQ:Q .normal ⟨(dZ Γ st.aJ rs ⟨st.tmps,st.ab,st.todo⟩).tmps,(dZ Γ st.aJ rs ⟨st.tmps,st.ab,st.todo⟩).ab,st.aJ+nt+1,st.low,(dZ Γ st.aJ rs ⟨st.tmps,st.ab,st.todo⟩).todo⟩):
  Sat P nt (.region id ops yZ) Q st:=by
 intro n κ Xg w L g r;have vx:∀x∈rs,∃k,nm st.aJ x=st.aJ+k:=λx _=>by
  unfold nm bN;cases x.dst with
  |none=>exact⟨0,rfl⟩
  |some d=>exact⟨d+1,by simp only[Nat.add_assoc]⟩
 have hf:kC st.aJ rs ⟨st.tmps,st.ab,st.todo⟩:=⟨r.fresh _ (Zaf _),λx hx=>by
  obtain⟨k,hk⟩:=vx x hx;rw[hk];exact r.fresh _ (by omega)⟩
 have bZ:∀a' w' L',eP κ nt (dZ Γ st.aJ rs ⟨st.tmps,st.ab,st.todo⟩) a' w' L'->∃dm L',Q .normal dm/\Ie κ nt dm a' w' L':=by
  intro a' w' L' r';refine⟨_,L',hQ,r', ?_,r.low,r.it⟩;have d0:rs.all (l9 nt)=true:=by simp only[ee,Zam]at dq;exact dq.1.1
  intro t ht;exact yg aC rs d0 _ bW t ht (r.fresh t (by simp only at ht;omega))
 cases yZ with
 |false=>exact KG aC g mt dq r.r hf bW bZ
 |true=>exact KJ aC g hm mt dq r.r hf bW bZ
def aa.region(aC:ay P Γ)(hm:P.follows .mixedOrders=true)(bW:jE Γ st.aJ rs ⟨st.tmps,st.ab,st.todo⟩)(hQ:Q .normal ⟨(dZ Γ st.aJ rs ⟨st.tmps,st.ab,st.todo⟩).tmps,(dZ Γ st.aJ rs ⟨st.tmps,st.ab,st.todo⟩).ab,st.aJ+nt+1,st.low,(dZ Γ st.aJ rs ⟨st.tmps,st.ab,st.todo⟩).todo⟩):
  aa P nt (.region yZ rs) Q st:=by
 refine⟨λc hc=>?_⟩;obtain⟨id,ops,rfl,mt,dq⟩:=o8 hc;exact sr aC hm (by rw[tr mt];exact mt) dq bW hQ
def aa.regionA(aC:ay P Γ)(hm:P.follows .mixedOrders=true){d:DC}(hd:d=.jr (rs.map bare)\/∃yZ,d=.region yZ (rs.map bare))(dq:ee nt true rs=true)
  (bW:jE Γ st.aJ rs ⟨st.tmps,st.ab,st.todo⟩) (hQ:Q .normal ⟨(dZ Γ st.aJ rs ⟨st.tmps,st.ab,st.todo⟩).tmps,(dZ Γ st.aJ rs ⟨st.tmps,st.ab,st.todo⟩).ab,st.aJ+nt+1,st.low,(dZ Γ st.aJ rs ⟨st.tmps,st.ab,st.todo⟩).todo⟩):
  aa P nt d Q st:=by
 refine⟨λc hc=>?_⟩;rcases hd with rfl|⟨yZ,rfl⟩
 ·obtain⟨id,ops,rfl,mt⟩:=KK hc;exact sr aC hm mt dq bW hQ
 ·obtain⟨id,ops,rfl,mt,hok'⟩:=o8 hc;refine sr aC hm mt ?_ bW hQ;cases yZ with
  |true=>exact dq
  |false=>simp only[ee,Zam]at dq⊢;exact⟨dq.1,rfl⟩
def aa.next{x:bQ}{r m s l c:Nat}{sn:cO}{cj:List Sh}{agg:Bool}{es:List (Nat×T×DV)}(hx:x.ev st.tmps=.kc r)(hr:st.ab r=some (.kc m s sn l))(hm:st.ab m=some (.map cj agg c es))(ln:∀e∈es,e.1<s)(hl:s<=l)
  (Yg:(∀e∈es,e.1∈sn)->Q .normal ⟨cU (cU st.tmps (some d1) .undef) (some d2) (.v (.bool false)),st.ab,st.aJ,st.low,st.todo⟩)
  (XU:∀e∈es,e.1∉sn->Q .normal ⟨cU (cU st.tmps (some d1) .undef) (some d2) (.v (.bool true)),cG st.ab (some (r,.kc m s (sn++[e.1]) c)),st.aJ,st.low,st.todo⟩):
  aa P nt (.QE x d1 d2) Q st:=by
 refine⟨λcc hc=>?_⟩;obtain⟨id,o1,o2,y,rfl,h1,hy,h2,h3,h4,h5,h6,hd1,hd2⟩:=VC hc;intro n κ a w L g r0;refine wpIn_region ?_;have hR:=r0.r;obtain⟨W,base,M,w0,dP,h0⟩:=hR.ex;have Ga:=bQ.bP h0.o.gl h0.tmps hy;rw[hx]at Ga;simp only[aA]at Ga;obtain⟨_,Qy⟩:=Ga;have bZ:∀{b:Bool} {aI:bq} {v:Value} {w':World},ct base W M w0 aI w' L->gP W st.ab L w aI L w'->(∃N,∀r,N<=r->aI r=none)->(∀t,st.ab t=none->aI t=none)->(∃rest:List Value,v=.tuple (Value.bool b::rest).toArray)->(execOp a.eval o1).run P w=.ok (.value v) w'->
   Q .normal ⟨cU (cU st.tmps (some d1) .undef) (some d2) (.v (.bool b)),aI,st.aJ,st.low,st.todo⟩->
   wpOpsIn (iV κ.ro) n P #[o1,o2] (λe a' w'=>∃dm L',Q e dm/\Ie κ nt dm a' w' L') (List.range 2) a w:=by
  intro b aI v w' hO hA lr mi hv bW hQ;obtain⟨rest,rfl⟩:=hv;show wpOpsIn (iV κ.ro) n P #[o1,o2] _ [0,1] a w;rw[wpOpsIn_cons,wpOpIn];simp only[show(#[o1,o2]:Array Oper)[0]? =some o1 from rfl,Region.wanted,h3,if_true];refine⟨mC o1 w _, ?_⟩;rw[show(iV κ.ro).round=κ.ro from rfl,Oper.semAt_eq κ.ro _ o1 (λc hc=>by rw[h1]at hc;cases hc),bW,Oper.uponIn_value,h2];have R1:eP κ nt ⟨cU st.tmps (some d1) .undef,aI,st.todo⟩ (a.put (some d1) (.tuple (Value.bool b::rest).toArray)) w' L:=eP.put hR dP h0 (some d1) (λd hd=>by cases hd;exact hd1) hO hA (by simp[aA]) lr;rw[wpOpsIn_cons,wpOpIn];simp only[show(#[o1,o2]:Array Oper)[1]? =some o2 from rfl,Region.wanted,h6,if_true];refine⟨mC o2 w' _, ?_⟩;have hev:(a.put (some d1) (.tuple (Value.bool b::rest).toArray)).eval (.tmp d1)=.tuple (Value.bool b::rest).toArray:=by
   simp only[Act.put,Act.eval];rw[Dt _ _ _ _ (by rw[h0.size];exact hd1)];simp
  have QG:(execOp (a.put (some d1) (.tuple (Value.bool b::rest).toArray)).eval o2).run P w'=.ok (.value (.bool b)) w':=by
   simp[execOp,h4,hev,Instr.extract]
  rw[show(iV κ.ro).round=κ.ro from rfl,Oper.semAt_eq κ.ro _ o2 (λc hc=>by rw[h4]at hc;cases hc),QG,Oper.uponIn_value,h5];obtain⟨W2,base2,M2,w02,Yh,h02⟩:=R1.ex;have R2:=eP.put R1 Yh h02 (some d2) (λd hd=>by cases hd;exact hd2) (v:=.v (.bool b)) (x:=.bool b) h02.o (gP.cQ (dg.refl _ _)) (by simp[aA,bj]) lr;exact⟨_,L,hQ,R2,λt ht=>mi t (r0.fresh t ht),r0.low,r0.it⟩
 rcases Ol (P:=P) h0.o hr hm ln hl o1.type with⟨d0,bW⟩|⟨e,he,hn,k,v,w',bW,hO,hA⟩
 ·refine bZ (b:=false) h0.o (gP.cQ (dg.refl _ _)) hR.bZ (λt h=>h) ⟨[],rfl⟩ ?_ (Yg d0);simp[execOp,h1,Qy,bW]
 ·refine bZ (b:=true) hO hA ?_ ?_ ⟨[k,v],rfl⟩ ?_ (XU e he hn)
  ·obtain⟨N,hN⟩:=hR.bZ;refine⟨max N (r+1),λr' gD=>?_⟩;simp only[cG];rw[Zab (by omega)];exact hN r' (by omega)
  ·intro t ht;simp only[cG];rw[Zab (λe=>by rw[e,hr]at ht;cases ht)];exact ht
  ·simp[execOp,h1,Qy,bW]
end
end
abbrev t(n:Nat):bQ:=.tmp n
abbrev i(n:Int):bQ:=.gN (.v (.int .i64 n))
abbrev o(d:rO)(r:Nat)(af:cO):RO:=⟨d,some r,none,af,none⟩
abbrev s(d:rO)(af:cO):RO:=⟨d,none,none,af,none⟩
abbrev g(d:rO)(r b:Nat)(w:Bool)(af:cO):RO:=⟨d,some r,some (b,w),af,none⟩
abbrev m(a r:Nat)(af:cO):RO:=⟨.qu (.tmp a),some r,none,af,none⟩
abbrev n(a r:Nat):RO:=⟨.qu (.tmp a),some r,none,[],none⟩
abbrev l(a r:Nat)(af:cO):RO:=⟨.load 1 false (.tmp a),some r,none,af,none⟩
abbrev L(k a r:Nat)(af:cO):RO:=⟨.load k true (.tmp a),some r,none,af,none⟩
abbrev a(k b r:Nat)(af:cO):RO:=⟨.addOff k (.tmp b),some r,none,af,none⟩
abbrev b(op:BinOp)(x y r:Nat)(af:cO):RO:=⟨.bin op (.tmp x) (.tmp y),some r,none,af,none⟩
abbrev c(x r:Nat)(af:cO):RO:=⟨.nilCheck (.tmp x),some r,none,af,none⟩
abbrev e(k x r:Nat)(af:cO):RO:=⟨.extract k (.tmp x),some r,none,af,none⟩
abbrev x(k y z r:Nat)(af:cO):RO:=⟨.idxAddr k (.tmp y) (.tmp z),some r,none,af,none⟩
abbrev S(k y z:Nat)(af:cO):RO:=⟨.store k (.tmp y) (.tmp z),none,none,af,none⟩
abbrev p(u v r:Nat)(af:cO):RO:=⟨.pick (.tmp u) (.gN (.v (.bool true))) (.tmp v),some r,none,af,none⟩
abbrev q(u v r:Nat)(af:cO):RO:=⟨.pick (.tmp u) (.tmp v) (.gN (.v (.bool false))),some r,none,af,none⟩
abbrev u(k y r b:Nat)(w:Bool)(af:cO):RO:=⟨.addOff k (.tmp y),some r,some (b,w),af,none⟩
abbrev v(y r b:Nat)(w:Bool)(af:cO):RO:=⟨.load 1 false (.tmp y),some r,some (b,w),af,none⟩
abbrev w(y r b:Nat)(w:Bool)(af:cO):RO:=⟨.qu (.tmp y),some r,some (b,w),af,none⟩
abbrev y(l:ai):DC:=.region false l
abbrev Y(l:ai):DC:=.region true l
abbrev j(a b:DC):DC:=.seq a b
abbrev F(r:Nat):RO:=⟨.qu (.gN (.v (.bool false))),some r,none,[],none⟩
abbrev R(r:Nat):RO:=⟨.qu (.gN (.v (.bool true))),some r,none,[],none⟩
abbrev I(k:Int)(r:Nat):RO:=⟨.qu (.gN (.v (.int .i64 k))),some r,none,[],none⟩
abbrev Z(r:Nat):RO:=⟨.qu (.gN .aW),some r,none,[],none⟩
abbrev B(k r:Nat):RO:=⟨.box (.tmp k),some r,none,[],none⟩
abbrev N(k r:Nat)(af:cO):RO:=⟨.len (.tmp k),some r,none,af,none⟩
abbrev U(k r:Nat)(af:cO):RO:=⟨.un .not (.tmp k),some r,none,af,none⟩
abbrev C(op:BinOp)(x:Nat)(k:Int)(r:Nat)(af:cO):RO:=⟨.bin op (.tmp x) (.gN (.v (.int .i64 k))),some r,none,af,none⟩
abbrev D(op:BinOp)(x y r b:Nat)(w:Bool)(af:cO):RO:=⟨.bin op (.tmp x) (.tmp y),some r,some (b,w),af,none⟩
abbrev E(op:BinOp)(x:Nat)(k:Int)(r b:Nat)(w:Bool)(af:cO):RO:=⟨.bin op (.tmp x) (.gN (.v (.int .i64 k))),some r,some (b,w),af,none⟩
abbrev H(x r b:Nat)(w:Bool)(af:cO):RO:=⟨.len (.tmp x),some r,some (b,w),af,none⟩
abbrev K(x r b:Nat)(w:Bool)(af:cO):RO:=⟨.un .not (.tmp x),some r,some (b,w),af,none⟩
abbrev V(k:Int):DV:=.v (.int .i64 k)
abbrev k(l:cO)(k:Nat):cO:=l++List.range (k+1)
attribute [simp] t i o s g m n l L a b c e x S p q u v w y Y j F R I Z B N U C D E H K V
section
variable{base nt:Nat}{W M W':fo}{w0:World}{st:l8}{fY:Bool}{f:FuncId}{d:DC}{cA:Array Value}
variable [bI] [dL]
inductive bV where
 |da (t:Nat)
 |cell (a n:Nat) (agg:Bool)
def nQ(P:Program):ResultVar->Option bV
 |.tmp t=>some (.da t)
 |.cell a t=>match P.underlying t,P.info? t with
  |some d,some i=>some (.cell a i.size (b8 d))
  |_,_=>none
def bV.oq(st:l8):bV->qO
 |.da t=>⟨True,st.tmps t,none⟩
 |.cell a n agg=>iF n agg st.ab (st.tmps a)
def lM(fY:Bool)(st:l8):List bV->Prop
 |[]=>True
 |r::rs=>((r.oq st).ok/\F3 fY st.ab (r.oq st).val)/\lM fY st rs
def o9(st:l8)(rs:List bV):aK:=rs.map λr=>tz st.ab (r.oq st).val
def Yi(rs:List bV)(t:T)(st:l8):Prop:=
 lM true st rs/\t=(match o9 st rs with|[x]=>x|ts=>.eo ts)
def su(rs:List bV)(r:fI)(st:l8):Prop:=
 lM false st rs/\st.ab=r.ab/\r.val=.v (match o9 st rs with|[x]=>x|ts=>.eo ts)
def Om:Option T->DV
 |some t=>.v t
 |none=>.skip
def qy(ts:aK):l8:=⟨λk=>Om ts[k]?,λ_=>none,1000,1000,[]⟩
def Cc:Option DV->DV
 |some d=>d
 |none=>.skip
def wd(args:bB)(ab:bq)(N:Nat):l8:=⟨λk=>Cc args[k]?,ab,N,N,[]⟩
def On(rs:List bV)(t:T):Exit->l8->Prop
 |.normal,st|.ret,st=>Yi rs t st
 |_,_=>False
def DK(rs:List bV)(r:fI):Exit->l8->Prop
 |.normal,st|.ret,st=>su rs r st
 |_,_=>False
section
variable{P:Program}
def res_run{w:World}{a:Act}{L:Loc}(h:R0 base W M w0 nt st.tmps st.ab a w L)(hW:fY=true->∀r o b,st.ab r=some o->L.own r o=some b->¬W' b)(Vn:∀b,W' b->WW W st.ab L b){rv:ResultVar}{r:bV}(hr:nQ P rv=some r)(dq:(r.oq st).ok/\F3 fY st.ab (r.oq st).val):
  ∃v,((match rv with|.tmp t=>pure (a.tmps.getD t Go.undef)|.cell b t=>do loadVar t (<-asAddr (a.tmps.getD b Go.undef))):Sem Value).run P w=.ok v w/\bj w W' (tz st.ab (r.oq st).val) v:=by
 have bZ:∀{d:DV} {x:Value},aA w W st.ab L d x->F3 fY st.ab d->bj w W' (tz st.ab d) x:=λhd hk=>
  (x6 (fY:=fY) W' h.o hW Vn).1 _ _ hd hk
 cases rv with
 |tmp t=>
  simp only[nQ,Zaa]at hr;subst hr;exact⟨_,rfl,bZ (h.tmps t) dq.2⟩
 |cell b t=>
  simp only[nQ]at hr;split at hr
  ·rename_i d i hd hi;simp only[Zaa]at hr;subst hr;simp only[bV.oq]at dq;obtain⟨hp,v,bW,hv⟩:=wF h.o hd hi (h.tmps b) dq.1;refine⟨v, ?_,bZ hv dq.2⟩;have hpt:∃p,a.tmps.getD b Go.undef=.pointer (some p):=by
    have hx:=h.tmps b;have ho:=dq.1;cases hq:st.tmps b with
    |ptr r off=>rw[hq]at hx;simp only[aA]at hx;exact⟨_,hx.2⟩
    |l7 av j off=>rw[hq]at hx;simp only[aA]at hx;obtain⟨_,_,_,hx,_⟩:=hx;exact⟨_,hx⟩
    |iD cs off=>rw[hq]at hx;simp only[aA]at hx;obtain⟨_,_,hx,_⟩:=hx;exact⟨_,hx⟩
    |ka r bD j off=>rw[hq]at hx;simp only[aA]at hx;obtain⟨⟨_,_,hx⟩,_⟩:=hx;exact⟨_,hx⟩
    |v t'=>
     rw[hq]at hx ho;cases t' with
     |box cs=>simp only[aA,bj]at hx;obtain⟨_,_,hx,_⟩:=hx;exact⟨_,hx⟩
     |_=>exact ho.elim
    |_=>rw[hq]at ho;exact ho.elim
   obtain⟨p,hp⟩:=hpt;show Sem.run P (do loadVar t (<-asAddr (a.tmps.getD b Go.undef))) w=_;rw[hp]at bW⊢;simpa [Instr.loadAt,Instr.sureAddr,asAddr]using bW
  ·cases hr
def QH{base:Nat}{W M:fo}{w0 w:World}{nt:Nat}{st:l8}{a:Act}{L:Loc}(h:R0 base W M w0 nt st.tmps st.ab a w L){fY:Bool}{W':fo}(hW:fY=true->∀r o b,st.ab r=some o->L.own r o=some b->¬W' b)(Vn:∀b,W' b->WW W st.ab L b):∀{rvs:List ResultVar} {rs:List bV},rvs.mapM (nQ P)=some rs->lM fY st rs->
  ∃vs,(rvs.mapM (λrv=>((match rv with|.tmp t=>pure (a.tmps.getD t Go.undef)|.cell b t=>do loadVar t (<-asAddr (a.tmps.getD b Go.undef))):Sem Value))).run P w=.ok vs w/\fN w W' (o9 st rs) vs
 |[],rs,hr,_=>by simp at hr;subst hr;exact⟨[],by simp,by simp[o9,fN]⟩
 |rv::rvs,rs,hr,dq=>by
  simp only[Za7,Zao,Zaj,Zad,Zaa]at hr;obtain⟨r,sg,rs',mt,rfl⟩:=hr;simp only[lM]at dq;obtain⟨v,h1,h2⟩:=res_run h hW Vn sg dq.1;obtain⟨vs,h3,h4⟩:=QH h hW Vn mt dq.2;refine⟨v::vs, ?_, ?_⟩
  ·rw[Za7];simp only[Sem.run_bind,h1,Result.andThen_ok,h3,Sem.run_pure]
  ·simp only[o9,ZaA,fN];exact⟨v,vs,rfl,h2,h4⟩
def uy{w:World}{a:Act}{L:Loc}(h:R0 base W M w0 nt st.tmps st.ab a w L)(hW:fY=true->∀r o b,st.ab r=some o->L.own r o=some b->¬W' b)(Vn:∀b,W' b->WW W st.ab L b){fn:Func}{rs:List bV}(hr:fn.results.toList.mapM (nQ P)=some rs){t:T}(dq:lM fY st rs/\t=(match o9 st rs with|[x]=>x|ts=>.eo ts)):
  ∃v,(results fn a.tmps).run P w=.ok v w/\bj w W' t v:=by
 obtain⟨h1,rfl⟩:=dq;obtain⟨vs,h2,h3⟩:=QH h hW Vn hr h1;have hm:(fn.results.mapM (λrv=>((match rv with|.tmp t=>pure (a.tmps.getD t Go.undef)|.cell b t=>do loadVar t (<-asAddr (a.tmps.getD b Go.undef))):Sem Value))).run P w=.ok vs.toArray w:=by
  rw[Zcx];simp only[Sem.run_map,h2,Result.andThen_ok]
 have hl:vs.length=(o9 st rs).length:=fN.length h3;refine⟨if h:vs.toArray.size=1 then vs.toArray[0]else .tuple vs.toArray, ?_, ?_⟩
 ·have B7:(results fn a.tmps)=(do
   let vs<-fn.results.mapM (λrv=>((match rv with|.tmp t=>pure (a.tmps.getD t Go.undef)|.cell b t=>do loadVar t (<-asAddr (a.tmps.getD b Go.undef))):Sem Value))
   pure (if h:vs.size=1 then vs[0]else .tuple vs)):=rfl
  rw[B7];simp only[Sem.run_bind,hm,Result.andThen_ok,Sem.run_pure]
 ·cases Kr:o9 st rs with
  |nil=>
   rw[Kr]at hl h3;have:vs=[]:=ZaD (by simpa using hl);subst this;simp only[bj];exact⟨#[],by simp,by simp[fN]⟩
  |cons x xs=>
   rw[Kr]at hl h3;cases xs with
   |nil=>
    simp only[fN]at h3;obtain⟨v,EY,rfl,hv,rfl⟩:=h3;simpa using hv
   |cons y ys=>
    have:vs.toArray.size≠1:=by simp at hl⊢;omega
    rw[ZcT this];simp only[bj];exact⟨_,rfl,by simpa using h3⟩
def VD{κ:oX}{st:RS}{a:Act}{w:World}{L:Loc}(hJ:κ.J=none)(h:eP κ nt st a w L){D:Nat}{Ds:cO}(hd:a.defers=(D::Ds).map mark)(hn:(D::Ds).Nodup)(hk:∀D'∈D::Ds,w.heap[D']? =some (.deferred (some []))/\κ.gw.heap.size<=D'):
  eP κ nt st {a with defers:=Ds.map mark} (w.putObj D (.deferred none)) L:=by
 obtain⟨W,base,M,w0,dP,h0⟩:=h.ex;have hD:=hk D (Zbl ..);have ln:=(Zap.1 hD.1).1;have Oi:∀b,b≠D->(w.putObj D (.deferred none)).heap[b]? =w.heap[b]? :=λb hb=>World.putObj_heap_other hb;have yi:(w.putObj D (.deferred none)).heap.size=w.heap.size:=by simp[World.putObj]
 have Dv:=dP;unfold oX.At at Dv;simp only[hJ]at Dv;obtain⟨_,rfl,rfl,rfl,rfl⟩:=Dv;have hbD:κ.base<=D:=ZaP (h.bg hJ) hD.2;have mE:∀(b:Nat) c e fr,w.heap[b]? =some (.cells c e fr)->(w.putObj D (.deferred none)).heap[b]? =some (.cells c e fr):=λb c e fr hb=>by
  rw[Oi b (by rintro rfl;rw[hD.1]at hb;cases hb)];exact hb
 have B8:KeepsC (WW κ.W st.ab L) w (w.putObj D (.deferred none)):=⟨by rw[yi];exact Zaf _,λb c e fr hb _=>mE b c e fr hb⟩;have kd:∀(d:DV) (x:Value),aA w κ.W st.ab L d x->aA (w.putObj D (.deferred none)) κ.W st.ab L d x:=λd x=>(oZ B8 (SizeOf.sizeOf d+1)).1 d x (by omega);have hO:ct κ.base κ.W κ.M κ.w0 st.ab (w.putObj D (.deferred none)) L:=uq h0.o hD.1 (λe=>e) hbD;refine⟨⟨κ.W,κ.base,κ.M,κ.w0,dP,h0.size,λt=>kd _ _ (h0.tmps t),hO⟩, ?_,⟨Ds,rfl,(Zcw.1 hn).2,λD' hD'=>?_,λh=>by rw[hJ]at h;cases h⟩,h.bg,h.bZ⟩
 ·have had:=h.eZ;refine⟨⟨⟨by rw[yi];exact had.dx.size,λb c e fr hb VE=>mE _ _ _ _ (had.dx.I1 b c e fr hb VE)⟩,λb hb=>?_,λb r hb=>?_⟩,had.sub,had.fix,had.dT,had.yl⟩
  ·rw[Oi b (by have:=(Zap.1 hb).1;rw[oX.ya]at this;omega)];exact had.dx.W8 b hb
  ·rw[Oi b (by have:=(Zap.1 hb).1;rw[oX.ya]at this;omega)];exact had.dx.Xy b r hb
 ·have bT:D'≠D:=λe=>(Zcw.1 hn).1 (e▸hD');have:=hk D' (Zbg _ hD');exact⟨by rw[Oi D' bT];exact this.1,this.2⟩
def uA{κ:oX}{nt:Nat}{st:RS}{fn:Func}{R:Ending->World->Prop}(hJ:κ.J=none)(hR:∀(a:Act) (w:World) (L:Loc),eP κ nt st a w L->∃v,(results fn a.tmps).run P w=.ok v w/\R (.returned v) w):
  ∀(Ds:cO) (a:Act) (w:World) (L:Loc),eP κ nt st a w L->a.defers=Ds.map mark->Ds.Nodup->(∀D∈Ds,w.heap[D]? =some (.deferred (some []))/\κ.gw.heap.size<=D)->
   LeavesInM Fence.wide 0 P fn a.tmps R (Ds.map mark) .returning w
 |[],a,w,L,h,_,_,_=>by
  obtain⟨v,h1,h2⟩:=hR a w L h;exact⟨v,h1,h2⟩
 |D::Ds,a,w,L,h,hd,hn,hk=>by
  refine⟨by simp,.inl ⟨D,w.putObj D (.deferred none),rfl,run_takeDeferred (hk D (Zbl ..)).1, ?_⟩⟩;have h':=VD hJ h hd hn hk;obtain⟨Ds',e1,_,e3,_⟩:=h'.defers;have e:Ds'=Ds:=by
   have hi:∀(l l':cO),l.map mark=l'.map mark->l=l':=by
    intro l;induction l with
    |nil=>intro l' e;cases l'<;>simp_all
    |cons x l ih=>
     intro l' e;cases l' with
     |nil=>simp at e
     |cons y l'=>
      simp only[ZaA,Za1,mark,Deferred.mk.injEq,Target.collected.injEq,and_true]at e;rw[e.1,ih l' e.2]
   exact hi _ _ e1.symm
  subst e;exact uA hJ hR Ds' {a with defers:=Ds'.map mark} _ L h' rfl (Zcw.1 hn).2 e3
def aB(P:Program)(f:FuncId)(nt:Nat)(d:DC)(rs:List bV):Prop:=
 ∃fn,P.funcs[f]? =some fn/\fn.ntmps=nt/\fn.body.map (ce P nt)=some d/\fn.results.toList.mapM (nQ P)=some rs/\(fn.name== "runtime.NumGoroutine")=false
def aB.of{f:FuncId}{nt:Nat}{d:DC}{rs:List bV}(fn:Func)(h:(P.funcs[f]?,fn.ntmps,fn.body.map (ce P nt),fn.results.toList.mapM (nQ P),fn.name== "runtime.NumGoroutine")=(some fn,nt,some d,some rs,false)):aB P f nt d rs:=by
 simp only[Zav]at h;exact⟨fn,h⟩
def aB.entry{rs:List bV}(h:aB P f nt d rs):Dq P f:=by
 obtain⟨fn,h1,_,h3,_,h5⟩:=h;obtain⟨c,h2,_⟩:=Zac.1 h3;exact⟨fn,h1,by simpa using h5,by simp[h2]⟩
def pb{n:Nat}{k:Nat}{v:Value}(h:cA.toList[k]? =some v):(cA++Array.replicate (n-cA.size) Go.undef).getD k Go.undef=v:=by
 have ln:k<cA.size:=by have:=(Zaw.1 h).1;simpa using this
 rw[ZaH,ZcZ ln];simp only[Array.getElem?_toList]at h;rw[h];rfl
def oG{n:Nat}{k:Nat}(h:cA.size<=k):(cA++Array.replicate (n-cA.size) Go.undef).getD k Go.undef=Go.undef:=by
 rw[ZaH,Array.getElem?_append_right h,Array.getElem?_replicate];split<;>rfl
def aB.ok{rs:List bV}(h:aB P f nt d rs){ts:aK}{t:T}(dM:ts.length<=nt)(k:aa P nt d (On rs t) (qy ts)):bl P f ts t:=by
 have Aj:=h.entry;obtain⟨fn,dn,rfl,h3,hr,_⟩:=h;obtain⟨c,hb,hc⟩:=Zac.1 h3;refine⟨Aj,λW w cA hW hg gQ=>?_⟩;have hl:=fN.length gQ;simp only[Za3]at hl;have uB:Ie ⟨W,λ_=>none,⟨λ_=>0,λ_=>Go.undef,0⟩,w,w.heap.size,λ_=>False,w,none,none,none⟩ fn.ntmps (qy ts) {tmps:=cA++Array.replicate (fn.ntmps-cA.size) Go.undef,defers:=[]} w ⟨λ_=>0,λ_=>Go.undef,0⟩:=by
  refine⟨⟨⟨W,w.heap.size,λ_=>False,w,⟨λ_=>rfl,rfl,rfl,rfl,rfl⟩,by simp;omega,λk=>?_,⟨Fr.refl (Zaf _),(λr o h=>by cases h),(λr r' o o' b _ h=>by cases h),(λr o b h=>by cases h),hW,hg.start⟩⟩,
   gP.cQ (dg.refl _ _),⟨[],rfl,Zb0,(λ_ h=>by cases h),λ_=>rfl⟩,λ_=>Zaf _,⟨0,λ_ _=>rfl⟩⟩,λ_ _=>rfl,λ_ _=>rfl,λh=>by cases h⟩
  simp only[qy];cases hk:ts[k]? with
  |some x=>
   obtain⟨v,hv,mQ⟩:=fN.get gQ hk;simp only[pb hv,Om,aA];refine bj.bi (dg.refl W w).toKeepsC ?_ x v mQ;rintro b hb (h|⟨r,o,h,_⟩)
   ·exact h
   ·cases h
  |none=>
   have xL:cA.size<=k:=by
    have:=ZbE.1 hk;omega
   simp only[Om,aA,oG xL]
 refine callsIn_wide.1 (callsIn_of_wp_marks (n:=0) dn hb trivial ?_);refine wpIn_mono (k.run c hc 0 _ _ _ _ ⟨λJ hJ=>(by cases hJ),λl r s hY=>(by cases hY),λl hl=>(by cases hl)⟩ uB) ?_;rintro e a' w' ⟨dm,L',q,r'⟩;have done:Yi rs t dm->LeavesInM Fence.wide 0 P fn a'.tmps (λe w'=>∃v,e=.returned v/\vO w.heap.size w w'/\bj w' W t v) a'.defers .returning w':=by
  intro hq;obtain⟨Ds,h1,h2,h3,_⟩:=r'.r.defers;rw[h1];refine uA (κ:=⟨W,λ_=>none,⟨λ_=>0,λ_=>Go.undef,0⟩,w,w.heap.size,λ_=>False,w,none,none,none⟩) rfl ?_ Ds a' w' L' r'.r h1 h2 h3;intro a2 w2 L2 h4;obtain⟨W',KL,M',w0',dP,h0⟩:=h4.ex;obtain⟨_,e1,e2,e3,e4⟩:=dP
  replace h0:R0 w.heap.size W (λ_=>False) w fn.ntmps dm.tmps dm.ab a2 w2 L2:=by rw[e1,e2,e3,e4]at h0;exact h0
  obtain⟨v,k1,k2⟩:=uy (st:=dm) h0 (fY:=true) (W':=W) (λ_ r o b e1 e2=>h0.o.qQ r o b e1 e2) (λb hb=>.inl hb) hr hq;have fr:=h0.o.fr;exact⟨v,k1,v,rfl,⟨⟨fr.os,fr.tape,fr.output,fr.size,λk hk=>fr.block k hk (λx=>x)⟩,fr.drawn⟩,k2⟩
 cases e with
 |normal=>exact done q
 |ret=>exact done q
 |_=>exact q.elim
def aB.okS{rs:List bV}(h:aB P f nt d rs){args:bB}{ab:bq}{r:fI}{N:Nat}(hN:∀r,N<=r->ab r=none)(dM:args.length<=nt)(k:aa P nt d (DK rs r) (wd args ab N)):aR P f args ab r:=by
 have Aj:=h.entry;obtain⟨fn,dn,rfl,h3,hr,_⟩:=h;obtain⟨c,hb,hc⟩:=Zac.1 h3;refine⟨Aj,λbase W M w0 w L cA hO B9=>?_⟩;have hl:=B9.1;simp only[Za3]at hl;have uB:Ie ⟨W,ab,L,w,base,M,w0,none,none,none⟩ fn.ntmps (wd args ab N) {tmps:=cA++Array.replicate (fn.ntmps-cA.size) Go.undef,defers:=[]} w L:=by
  refine⟨⟨⟨W,base,M,w0,⟨λ_=>rfl,rfl,rfl,rfl,rfl⟩,by simp;omega,λk=>?_,hO⟩,
   gP.cQ (dg.refl _ _),⟨[],rfl,Zb0,(λ_ h=>by cases h),λ_=>rfl⟩,λ_=>ZaP hO.fr.jq hO.fr.size,⟨N,hN⟩⟩,hN,hN,λh=>by cases h⟩
  simp only[wd];cases hk:args[k]? with
  |some x=>
   have hv:∃v,cA.toList[k]? =some v:=by
    have:k<cA.size:=by rw[hl];exact(Zaw.1 hk).1
    exact⟨cA[k],by simp[this]⟩
   obtain⟨v,hv⟩:=hv;simp only[pb hv,Cc];exact B9.2 k x v hk hv
  |none=>
   have xL:cA.size<=k:=by
    have:=ZbE.1 hk;omega
   simp only[Cc,aA,oG xL]
 refine callsIn_wide.1 (callsIn_of_wp_marks (n:=0) dn hb trivial ?_);refine wpIn_mono (k.run c hc 0 _ _ _ _ ⟨λJ hJ=>(by cases hJ),λl r s hY=>(by cases hY),λl hl=>(by cases hl)⟩ uB) ?_;rintro e a' w' ⟨dm,L',q,r'⟩;have done:su rs r dm->LeavesInM Fence.wide 0 P fn a'.tmps (λe w'=>∃v L',e=.returned v/\ct base W M w0 r.ab w' L'/\gP W ab L w r.ab L' w'/\aA w' W r.ab L' r.val v) a'.defers .returning w':=by
  rintro⟨hq1,Xh,hq3⟩;obtain⟨Ds,h1,h2,h3,_⟩:=r'.r.defers;rw[h1];refine uA (κ:=⟨W,ab,L,w,base,M,w0,none,none,none⟩) rfl ?_ Ds a' w' L' r'.r h1 h2 h3;intro a2 w2 L2 h4;obtain⟨W',KL,M',w0',dP,h0⟩:=h4.ex;obtain⟨_,e1,e2,e3,e4⟩:=dP
  replace h0:R0 base W M w0 fn.ntmps dm.tmps dm.ab a2 w2 L2:=by rw[e1,e2,e3,e4]at h0;exact h0
  obtain⟨v,k1,k2⟩:=uy (st:=dm) h0 (fY:=false) (W':=WW W dm.ab L2) (λx=>by cases x) (λb hb=>hb) hr ⟨hq1,rfl⟩;have NE:=h0.o;have tC:=h4.eZ;simp only[Xh]at NE tC k2;refine⟨v,k1,v,L2,rfl,NE,tC, ?_⟩;rw[hq3];simp only[aA];exact k2
 cases e with
 |normal=>exact done q
 |ret=>exact done q
 |_=>exact q.elim
end
end
section
variable{yZ:Bool}
variable [bI] [dL]
def fc(Γ:pI)(aJ:Nat):ai->RS->(RS->Prop)->Prop
 |[],st,K=>K st
 |r::rs,st,K=>
  match r.guard with
  |none=>cP r st.tmps/\um r st.ab (post Γ aJ r st).ab/\(post Γ aJ r st).ok/\fc Γ aJ rs ⟨cU st.tmps r.dst (post Γ aJ r st).val,(post Γ aJ r st).ab,(post Γ aJ r st).todo⟩ K
  |some (s,LS)=>
   match st.tmps s with
   |.v (.bool b)=>(b=LS->cP r st.tmps/\um r st.ab (post Γ aJ r st).ab/\(post Γ aJ r st).ok/\fc Γ aJ rs ⟨cU (cU st.tmps (some s) (.v (.bool LS))) r.dst (post Γ aJ r st).val,(post Γ aJ r st).ab,(post Γ aJ r st).todo⟩ K)/\
     (b= !LS->fc Γ aJ rs ⟨cU (cU st.tmps (some s) (.v (.bool (!LS)))) r.dst .skip,st.ab,st.todo⟩ K)
   |.skip=>fc Γ aJ rs ⟨cU st.tmps r.dst .skip,st.ab,st.todo⟩ K
   |_=>False
def jQ{ρ:dw}{s:Nat}{v:DV}(h:ρ s=v):cU ρ (some s) v=ρ:=by
 funext x;simp only[cU];split
 ·rename_i e;rw[e,h]
 ·rfl
def iK{Γ:pI}{aJ:Nat}:∀(rs:ai) (st:RS) (K:RS->Prop),fc Γ aJ rs st K->jE Γ aJ rs st/\K (dZ Γ aJ rs st)
 |[],st,K,h=>⟨trivial,h⟩
 |r::rs,st,K,h=>by
  simp only[fc]at h;simp only[jE,dZ];have yes:fV r.guard st.tmps=some true->(cP r st.tmps/\um r st.ab (post Γ aJ r st).ab/\(post Γ aJ r st).ok/\fc Γ aJ rs ⟨cU st.tmps r.dst (post Γ aJ r st).val,(post Γ aJ r st).ab,(post Γ aJ r st).todo⟩ K)->(cJ Γ aJ r st/\jE Γ aJ rs (dW Γ aJ r st))/\K (dZ Γ aJ rs (dW Γ aJ r st)):=by
   rintro hw ⟨ht,hk4,dq,hk⟩;have e1:dW Γ aJ r st=⟨cU st.tmps r.dst (post Γ aJ r st).val,(post Γ aJ r st).ab,(post Γ aJ r st).todo⟩:=by simp only[dW,hw]
   have e2:cJ Γ aJ r st:=by simp only[cJ,hw];exact⟨dq,ht,hk4⟩
   rw[e1];have:=iK rs _ K hk;exact⟨⟨e2,this.1⟩,this.2⟩
  have no:fV r.guard st.tmps=some false->fc Γ aJ rs ⟨cU st.tmps r.dst .skip,st.ab,st.todo⟩ K->(cJ Γ aJ r st/\jE Γ aJ rs (dW Γ aJ r st))/\K (dZ Γ aJ rs (dW Γ aJ r st)):=by
   rintro hw hk;have e1:dW Γ aJ r st=⟨cU st.tmps r.dst .skip,st.ab,st.todo⟩:=by simp only[dW,hw]
   have e2:cJ Γ aJ r st:=by simp only[cJ,hw]
   rw[e1];have:=iK rs _ K hk;exact⟨⟨e2,this.1⟩,this.2⟩
  cases hg:r.guard with
  |none=>rw[hg]at h;exact yes (by simp[fV,hg]) h
  |some g=>
   obtain⟨s,LS⟩:=g;rw[hg]at h;simp only at h;cases hs:st.tmps s with
   |skip=>rw[hs]at h;exact no (by simp[fV,hg,hs]) h
   |v t=>
    rw[hs]at h;cases t with
    |bool b=>
     simp only at h;by_cases hb:b=LS
     ·subst hb;rw[jQ hs]at h;exact yes (by simp[fV,hg,hs]) (h.1 rfl)
     ·have fp:b= !LS:=by cases b<;>cases LS<;>simp_all
      subst fp;rw[jQ hs]at h;exact no (by simp[fV,hg,hs]) (h.2 rfl)
    |_=>exact h.elim
   |_=>rw[hs]at h;exact h.elim
def gB(Γ:pI)(aJ:Nat)(rs:ai)(tm:dw)(ob:bq)(td:List (aK))(K:RS->Prop)(dst:Option Nat)(e:qO):Prop:=
 e.ok/\fc Γ aJ rs ⟨cU tm dst e.val,cG ob e.put,td⟩ K
def GK(Γ:pI)(aJ:Nat)(rs:ai)(tm:dw)(K:RS->Prop)(dst:Option Nat)(e:SEff):Prop:=
 e.ok/\fc Γ aJ rs ⟨cU tm dst e.val,e.ab,e.todo⟩ K
def ml(Γ:pI)(aJ:Nat)(d:rO)(rs:ai)(tm:dw)(ob:bq)(td:List (aK))(K:RS->Prop)(dst:Option Nat)(gv:dw):Prop:=
 if rP d then GK Γ aJ rs gv K dst (oi Γ d tm ob td)else gB Γ aJ rs gv ob td K dst (dj Γ d (bN aJ dst) tm ob)
def Oo(Γ:pI)(aJ:Nat)(d:rO)(rs:ai)(tm:dw)(ob:bq)(td:List (aK))(K:RS->Prop)(dst:Option Nat)(s:Nat)(LS:Bool)(g:DV):Prop:=
 match g with
 |.v (.bool b)=>(b=LS->ml Γ aJ d rs tm ob td K dst (cU tm (some s) (.v (.bool LS))))/\
   (b= !LS->fc Γ aJ rs ⟨cU (cU tm (some s) (.v (.bool (!LS)))) dst .skip,ob,td⟩ K)
 |.skip=>fc Γ aJ rs ⟨cU tm dst .skip,ob,td⟩ K
 |_=>False
section
variable{Γ:pI}{aJ:Nat}{st:RS}{K:RS->Prop}{rs:ai}{tm gv:dw}{ob:bq}{td:List (aK)}{dst:Option Nat}
def goOn_mk(ok:Prop)(v:DV)(p:Option (Nat×Ob)):gB Γ aJ rs tm ob td K dst ⟨ok,v,p⟩=(ok/\fc Γ aJ rs ⟨cU tm dst v,cG ob p,td⟩ K):=rfl
def Yj(ok:Prop)(v:DV)(nJ:bq)(td':List (aK)):GK Γ aJ rs tm K dst ⟨ok,v,nJ,td'⟩=(ok/\fc Γ aJ rs ⟨cU tm dst v,nJ,td'⟩ K):=rfl
def Yk:gB Γ aJ rs tm ob td K dst cZ=False:=by simp[gB,cZ]
def VF(f:FuncId)(args:List bQ):ml Γ aJ (.callS f args) rs tm ob td K dst gv=GK Γ aJ rs gv K dst (oi Γ (.callS f args) tm ob td):=by simp[ml,rP]
def VG(x:bQ)(args:List bQ):ml Γ aJ (.callv x args) rs tm ob td K dst gv=GK Γ aJ rs gv K dst (oi Γ (.callv x args) tm ob td):=by simp[ml,rP]
def nh(d:rO)(s:Nat)(b LS:Bool):Oo Γ aJ d rs tm ob td K dst s LS (.v (.bool b))=((b=LS->ml Γ aJ d rs tm ob td K dst (cU tm (some s) (.v (.bool LS))))/\
   (b= !LS->fc Γ aJ rs ⟨cU (cU tm (some s) (.v (.bool (!LS)))) dst .skip,ob,td⟩ K)):=rfl
def Yl:fc Γ aJ [] st K=K st:=rfl
def yh{d:rO}{g:Option (Nat×Bool)}{af:cO}{l:Option (cO)}:((post Γ aJ ⟨d,dst,g,af,l⟩ ⟨tm,ob,td⟩).ok/\fc Γ aJ rs ⟨cU gv dst (post Γ aJ ⟨d,dst,g,af,l⟩ ⟨tm,ob,td⟩).val,(post Γ aJ ⟨d,dst,g,af,l⟩ ⟨tm,ob,td⟩).ab,(post Γ aJ ⟨d,dst,g,af,l⟩ ⟨tm,ob,td⟩).todo⟩ K)=ml Γ aJ d rs tm ob td K dst gv:=by
 unfold post ml;cases h:rP d<;>simp[gB,GK,oq]
def DL{d:rO}{g:Option (Nat×Bool)}{af:cO}{o o':bq}:um ⟨d,dst,g,af,none⟩ o o'=True:=eq_true λ_ l h=>by cases h
def GL(l:cO)(o o':bq):Prop:=∀n,n∉l->o' n=o n
def DN{d:rO}{g:Option (Nat×Bool)}{af l:cO}:um ⟨d,dst,g,af,some l⟩ ob (post Γ aJ ⟨d,dst,g,af,some l⟩ ⟨tm,ob,td⟩).ab=(rP d=true->GL l ob (oi Γ d tm ob td).ab):=by
 unfold um GL post;by_cases h:rP d=true
 ·simp[h]
 ·simp[h]
def Oq(d:rO)(af:cO):fc Γ aJ (⟨d,dst,none,af,none⟩::rs) ⟨tm,ob,td⟩ K=ml Γ aJ d rs tm ob td K dst tm:=by
 simp only[fc,cP,DL,true_and];exact yh
def Ot(d:rO)(af:cO)(l:cO):
  fc Γ aJ (⟨d,dst,none,af,some l⟩::rs) ⟨tm,ob,td⟩ K=(cP ⟨d,dst,none,af,some l⟩ tm/\(rP d=true->GL l ob (oi Γ d tm ob td).ab)/\ml Γ aJ d rs tm ob td K dst tm):=by
 simp only[fc];rw[yh,DN]
@[simp low] def pc(d:rO)(s:Nat)(LS:Bool)(af:cO):
  fc Γ aJ (⟨d,dst,some (s,LS),af,none⟩::rs) ⟨tm,ob,td⟩ K=Oo Γ aJ d rs tm ob td K dst s LS (tm s):=by
 simp only[fc,Oo,cP,DL,true_and];rw[yh]
end
section
variable{Γ:pI}{aJ:Nat}{K:RS->Prop}{rs:ai}{tm:dw}{ob:bq}{td:List (aK)}{dst:Option Nat}{d:rO}{s:Nat}{af:cO}
@[simp] def exec_g_tt(h:tm s=.v (.bool true)):fc Γ aJ (⟨d,dst,some (s,true),af,none⟩::rs) ⟨tm,ob,td⟩ K=ml Γ aJ d rs tm ob td K dst tm:=by
 rw[pc,h,nh,jQ h];simp
@[simp] def exec_g_ff(h:tm s=.v (.bool false)):fc Γ aJ (⟨d,dst,some (s,false),af,none⟩::rs) ⟨tm,ob,td⟩ K=ml Γ aJ d rs tm ob td K dst tm:=by
 rw[pc,h,nh,jQ h];simp
@[simp] def exec_g_tf(h:tm s=.v (.bool true)):fc Γ aJ (⟨d,dst,some (s,false),af,none⟩::rs) ⟨tm,ob,td⟩ K=fc Γ aJ rs ⟨cU tm dst .skip,ob,td⟩ K:=by
 rw[pc,h,nh];simp[jQ h]
@[simp] def exec_g_ft(h:tm s=.v (.bool false)):fc Γ aJ (⟨d,dst,some (s,true),af,none⟩::rs) ⟨tm,ob,td⟩ K=fc Γ aJ rs ⟨cU tm dst .skip,ob,td⟩ K:=by
 rw[pc,h,nh];simp[jQ h]
@[simp] def exec_g_sk{LS:Bool}(h:tm s=.skip):fc Γ aJ (⟨d,dst,some (s,LS),af,none⟩::rs) ⟨tm,ob,td⟩ K=fc Γ aJ rs ⟨cU tm dst .skip,ob,td⟩ K:=by
 rw[pc,h];rfl
end
def look:fA->Nat->DV
 |[],_=>.undef
 |(j,v)::l,k=>if k=j then v else look l k
def cM:cV->Nat->Option Ob
 |[],_=>none
 |(j,o)::l,k=>if k=j then some o else cM l k
def Ym(f:dw)(k:Nat)(v:DV)(x:Nat):cU f (some k) v x=if x=k then v else f x:=rfl
def VH(f:dw)(v:DV):cU f none v=f:=rfl
def VI(f:bq):cG f none=f:=rfl
def GM(f:bq)(r:Nat)(o:Ob)(x:Nat):cG f (some (r,o)) x=if x=r then some o else f x:=rfl
def vi(j:Nat)(v:DV)(l:fA)(k:Nat):look ((j,v)::l) k=if k=j then v else look l k:=rfl
def Yn(k:Nat):look [] k=.undef:=rfl
def cS(j:Nat)(o:Ob)(l:cV)(k:Nat):cM ((j,o)::l) k=if k=j then some o else cM l k:=rfl
def gR(k:Nat):cM [] k=none:=rfl
def Yo(l:cV)(r:Nat)(o:Ob):cG (cM l) (some (r,o))=cM ((r,o)::l):=rfl
def nR(ks:cO)(tm:dw):fA:=ks.map λk=>(k,tm k)
def DO(k:Nat)(ks:cO)(tm:dw):nR (k::ks) tm=(k,tm k)::nR ks tm:=rfl
def VJ(tm:dw):nR [] tm=[]:=rfl
def mG(tm:dw):∀(ks:cO) (k:Nat),look (nR ks tm) k=.undef\/look (nR ks tm) k=tm k
 |[],_=>.inl rfl
 |j::ks,k=>by
  rw[DO,vi];split
  ·rename_i h;exact .inr (by rw[h])
  ·exact mG tm ks k
def Le.we{st:l8}{tm:dw}(h:∀k,tm k=.undef\/tm k=st.tmps k):Le st ⟨tm,st.ab,st.aJ,st.low,st.todo⟩:=λκ nt a w L r=>
 ⟨L,⟨by
  obtain⟨W,base,M,w0,dP,h0⟩:=r.r.ex;exact⟨W,base,M,w0,dP,h0.size,λt=>by
   rcases h t with e|e
   ·show aA w W st.ab L (tm t) _;rw[e];simp[aA]
   ·show aA w W st.ab L (tm t) _;rw[e];exact h0.tmps t,h0.o⟩,r.r.eZ,r.r.defers,r.r.bg,r.r.bZ⟩,r.fresh,r.low,r.it⟩
def VK(ts:aK):Le (qy ts) ⟨look ((ts.map .v).zipIdx.map λp=>(p.2,p.1)),cM [],1000,1000,[]⟩:=by
 have key:∀(ts:aK) (i k:Nat),look (((ts.map .v).zipIdx i).map λp=>(p.2,p.1)) k=.undef\/look (((ts.map .v).zipIdx i).map λp=>(p.2,p.1)) k=Om (if i<=k then ts[k-i]? else none):=by
  intro ts;induction ts with
  |nil=>intro i k;exact .inl rfl
  |cons t ts ih=>
   intro i k;simp only[ZaA,ZcI,vi];split
   ·rename_i h;subst h;exact .inr (by simp[Om])
   ·rename_i h;rcases ih (i+1) k with e|e
    ·exact .inl e
    ·right;rw[e];by_cases hk:i+1<=k
     ·rw[Zai hk,Zai (by omega),show k-i=(k-(i+1))+1 by omega,Zbb]
     ·have:¬i<=k:=by omega
      rw[Zab hk,Zab this]
 refine Le.trans (Le.we (st:=qy ts) (tm:=look ((ts.map .v).zipIdx.map λp=>(p.2,p.1))) λk=>?_) (λκ nt a w L r=>⟨L,r⟩);have:=key ts 0 k;simpa [qy]using this
section
variable{P:Program}{nt:Nat}{Γ:pI}{Q:Exit->l8->Prop}{st:l8}{tm:dw}{ob:bq}{aJ low:Nat}{td:List (aK)}
def aa.fK(aC:ay P Γ)(hm:P.follows .mixedOrders=true){rs:ai}(ks:cO)
  (h:fc Γ aJ rs ⟨tm,ob,td⟩ λs=>Q .normal ⟨look (nR ks s.tmps),s.ab,aJ+nt+1,low,s.todo⟩):aa P nt (.region yZ rs) Q ⟨tm,ob,aJ,low,td⟩:=by
 have:=iK _ _ _ h;refine aa.yf (Q:=λe s=>e=.normal/\s=⟨(dZ Γ aJ rs ⟨tm,ob,td⟩).tmps,(dZ Γ aJ rs ⟨tm,ob,td⟩).ab,aJ+nt+1,low,(dZ Γ aJ rs ⟨tm,ob,td⟩).todo⟩) (aa.region aC hm (st:=⟨tm,ob,aJ,low,td⟩) this.1 ⟨rfl,rfl⟩) ?_;rintro e s ⟨rfl,rfl⟩;exact⟨_,Le.we (mG _ ks),this.2⟩
def aa.ch(aC:ay P Γ)(hm:P.follows .mixedOrders=true){rs:ai}{b:DC}(ks:cO)
  (h:fc Γ aJ rs ⟨tm,ob,td⟩ λs=>aa P nt b Q ⟨look (nR ks s.tmps),s.ab,aJ+nt+1,low,s.todo⟩):aa P nt (.seq (.region yZ rs) b) Q ⟨tm,ob,aJ,low,td⟩:=
 aa.seq (aa.fK aC hm ks h)
def aa.pe(aC:ay P Γ)(hm:P.follows .mixedOrders=true){d:DC}{rs:ai}(hd:d=.jr (rs.map bare)\/∃yZ,d=.region yZ (rs.map bare))(dq:ee nt true rs=true)(ks:cO)
  (h:fc Γ aJ rs ⟨tm,ob,td⟩ λs=>Q .normal ⟨look (nR ks s.tmps),s.ab,aJ+nt+1,low,s.todo⟩):aa P nt d Q ⟨tm,ob,aJ,low,td⟩:=by
 have:=iK _ _ _ h;refine aa.yf (Q:=λe s=>e=.normal/\s=⟨(dZ Γ aJ rs ⟨tm,ob,td⟩).tmps,(dZ Γ aJ rs ⟨tm,ob,td⟩).ab,aJ+nt+1,low,(dZ Γ aJ rs ⟨tm,ob,td⟩).todo⟩) (aa.regionA aC hm hd dq (st:=⟨tm,ob,aJ,low,td⟩) this.1 ⟨rfl,rfl⟩) ?_;rintro e s ⟨rfl,rfl⟩;exact⟨_,Le.we (mG _ ks),this.2⟩
def aa.jR(aC:ay P Γ)(hm:P.follows .mixedOrders=true){d b:DC}{rs:ai}(hd:d=.jr (rs.map bare)\/∃yZ,d=.region yZ (rs.map bare))(dq:ee nt true rs=true)(ks:cO)
  (h:fc Γ aJ rs ⟨tm,ob,td⟩ λs=>aa P nt b Q ⟨look (nR ks s.tmps),s.ab,aJ+nt+1,low,s.todo⟩):aa P nt (.seq d b) Q ⟨tm,ob,aJ,low,td⟩:=
 aa.seq (aa.pe aC hm hd dq ks h)
end
def aO{P:Program}{nt:Nat}{d:DC}{Q:Exit->l8->Prop}{ts:aK}(h:aa P nt d Q ⟨look ((ts.map .v).zipIdx.map λp=>(p.2,p.1)),cM [],1000,1000,[]⟩):aa P nt d Q (qy ts):=aa.le (VK ts) h
section
variable{Γ:pI}{aJ:Nat}{K:RS->Prop}{rs:ai}{tm gv:dw}{ob:bq}{td:List (aK)}{dst:Option Nat}
@[simp] def goD_mov(x:bQ):ml Γ aJ (.qu x) rs tm ob td K dst gv=gB Γ aJ rs gv ob td K dst (dj Γ (.qu x) (bN aJ dst) tm ob):=rfl
@[simp] def goD_pick(c a b:bQ):ml Γ aJ (.pick c a b) rs tm ob td K dst gv=gB Γ aJ rs gv ob td K dst (dj Γ (.pick c a b) (bN aJ dst) tm ob):=rfl
@[simp] def goD_alloc(zero:bB):ml Γ aJ (.alloc zero) rs tm ob td K dst gv=gB Γ aJ rs gv ob td K dst (dj Γ (.alloc zero) (bN aJ dst) tm ob):=rfl
@[simp] def goD_box(x:bQ):ml Γ aJ (.box x) rs tm ob td K dst gv=gB Γ aJ rs gv ob td K dst (dj Γ (.box x) (bN aJ dst) tm ob):=rfl
@[simp] def goD_build(zero:bB)(parts:List (Nat×Nat×bQ)):ml Γ aJ (.build zero parts) rs tm ob td K dst gv=gB Γ aJ rs gv ob td K dst (dj Γ (.build zero parts) (bN aJ dst) tm ob):=rfl
@[simp] def goD_bslice(len sz:Nat)(zero:bB)(parts:List (Nat×Nat×bQ)):ml Γ aJ (.bslice len sz zero parts) rs tm ob td K dst gv=gB Γ aJ rs gv ob td K dst (dj Γ (.bslice len sz zero parts) (bN aJ dst) tm ob):=rfl
@[simp] def goD_load(n:Nat)(agg:Bool)(x:bQ):ml Γ aJ (.load n agg x) rs tm ob td K dst gv=gB Γ aJ rs gv ob td K dst (dj Γ (.load n agg x) (bN aJ dst) tm ob):=rfl
@[simp] def goD_store(n:Nat)(x y:bQ):ml Γ aJ (.store n x y) rs tm ob td K dst gv=gB Γ aJ rs gv ob td K dst (dj Γ (.store n x y) (bN aJ dst) tm ob):=rfl
@[simp] def goD_bin(op:BinOp)(x y:bQ):ml Γ aJ (.bin op x y) rs tm ob td K dst gv=gB Γ aJ rs gv ob td K dst (dj Γ (.bin op x y) (bN aJ dst) tm ob):=rfl
@[simp] def goD_eqT(neg agg:Bool)(cj:List Sh)(x y:bQ):ml Γ aJ (.eqT neg agg cj x y) rs tm ob td K dst gv=gB Γ aJ rs gv ob td K dst (dj Γ (.eqT neg agg cj x y) (bN aJ dst) tm ob):=rfl
@[simp] def goD_un(op:UnOp)(x:bQ):ml Γ aJ (.un op x) rs tm ob td K dst gv=gB Γ aJ rs gv ob td K dst (dj Γ (.un op x) (bN aJ dst) tm ob):=rfl
@[simp] def goD_conv(k:IntKind)(x:bQ):ml Γ aJ (.conv k x) rs tm ob td K dst gv=gB Γ aJ rs gv ob td K dst (dj Γ (.conv k x) (bN aJ dst) tm ob):=rfl
@[simp] def goD_addOff(k:Nat)(x:bQ):ml Γ aJ (.addOff k x) rs tm ob td K dst gv=gB Γ aJ rs gv ob td K dst (dj Γ (.addOff k x) (bN aJ dst) tm ob):=rfl
@[simp] def goD_nilCheck(x:bQ):ml Γ aJ (.nilCheck x) rs tm ob td K dst gv=gB Γ aJ rs gv ob td K dst (dj Γ (.nilCheck x) (bN aJ dst) tm ob):=rfl
@[simp] def goD_idxAddr(sz:Nat)(x i:bQ):ml Γ aJ (.idxAddr sz x i) rs tm ob td K dst gv=gB Γ aJ rs gv ob td K dst (dj Γ (.idxAddr sz x i) (bN aJ dst) tm ob):=rfl
@[simp] def goD_arrAddr(len sz:Nat)(x i:bQ):ml Γ aJ (.arrAddr len sz x i) rs tm ob td K dst gv=gB Γ aJ rs gv ob td K dst (dj Γ (.arrAddr len sz x i) (bN aJ dst) tm ob):=rfl
@[simp] def goD_field(off n:Nat)(agg:Bool)(x:bQ):ml Γ aJ (.field off n agg x) rs tm ob td K dst gv=gB Γ aJ rs gv ob td K dst (dj Γ (.field off n agg x) (bN aJ dst) tm ob):=rfl
@[simp] def goD_slice(sz:Nat)(x:bQ)(lo hi:Option bQ):ml Γ aJ (.slice sz x lo hi) rs tm ob td K dst gv=gB Γ aJ rs gv ob td K dst (dj Γ (.slice sz x lo hi) (bN aJ dst) tm ob):=rfl
@[simp] def goD_extract(i:Nat)(x:bQ):ml Γ aJ (.extract i x) rs tm ob td K dst gv=gB Γ aJ rs gv ob td K dst (dj Γ (.extract i x) (bN aJ dst) tm ob):=rfl
@[simp] def goD_call(f:FuncId)(args:List bQ):ml Γ aJ (.call f args) rs tm ob td K dst gv=gB Γ aJ rs gv ob td K dst (dj Γ (.call f args) (bN aJ dst) tm ob):=rfl
@[simp] def goD_len(x:bQ):ml Γ aJ (.len x) rs tm ob td K dst gv=gB Γ aJ rs gv ob td K dst (dj Γ (.len x) (bN aJ dst) tm ob):=rfl
@[simp] def goD_lenS(x:bQ):ml Γ aJ (.lenS x) rs tm ob td K dst gv=gB Γ aJ rs gv ob td K dst (dj Γ (.lenS x) (bN aJ dst) tm ob):=rfl
@[simp] def goD_minmax(aaN:Bool)(x y:bQ):ml Γ aJ (.minmax aaN x y) rs tm ob td K dst gv=gB Γ aJ rs gv ob td K dst (dj Γ (.minmax aaN x y) (bN aJ dst) tm ob):=rfl
@[simp] def goD_append(e sz bytes:Nat)(x y:bQ):ml Γ aJ (.append e sz bytes x y) rs tm ob td K dst gv=gB Γ aJ rs gv ob td K dst (dj Γ (.append e sz bytes x y) (bN aJ dst) tm ob):=rfl
@[simp] def goD_mkSlice(e sz bytes:Nat)(zero:aK)(n:bQ):ml Γ aJ (.mkSlice e sz bytes zero n) rs tm ob td K dst gv=gB Γ aJ rs gv ob td K dst (dj Γ (.mkSlice e sz bytes zero n) (bN aJ dst) tm ob):=rfl
@[simp] def goD_mkSliceB(e sz bytes:Nat)(zero:aK)(n:bQ):ml Γ aJ (.mkSliceB e sz bytes zero n) rs tm ob td K dst gv=gB Γ aJ rs gv ob td K dst (dj Γ (.mkSliceB e sz bytes zero n) (bN aJ dst) tm ob):=rfl
@[simp] def goD_mkFn(f:Fn)(bY:List bQ):ml Γ aJ (.mkFn f bY) rs tm ob td K dst gv=gB Γ aJ rs gv ob td K dst (dj Γ (.mkFn f bY) (bN aJ dst) tm ob):=rfl
@[simp] def goD_callR(f:FuncId)(args:List bQ):ml Γ aJ (.callR f args) rs tm ob td K dst gv=gB Γ aJ rs gv ob td K dst (dj Γ (.callR f args) (bN aJ dst) tm ob):=rfl
@[simp] def goD_callF(f:FuncId)(args:List bQ):ml Γ aJ (.callF f args) rs tm ob td K dst gv=gB Γ aJ rs gv ob td K dst (dj Γ (.callF f args) (bN aJ dst) tm ob):=rfl
@[simp] def goD_mkMap(cj:List Sh)(agg:Bool):ml Γ aJ (.mkMap cj agg) rs tm ob td K dst gv=gB Γ aJ rs gv ob td K dst (dj Γ (.mkMap cj agg) (bN aJ dst) tm ob):=rfl
@[simp] def goD_lookup(cj:List Sh)(agg:Bool)(zero:DV)(ok:Bool)(x k:bQ):ml Γ aJ (.lookup cj agg zero ok x k) rs tm ob td K dst gv=gB Γ aJ rs gv ob td K dst (dj Γ (.lookup cj agg zero ok x k) (bN aJ dst) tm ob):=rfl
@[simp] def goD_mapUpd(cj:List Sh)(agg:Bool)(x k y:bQ):ml Γ aJ (.mapUpd cj agg x k y) rs tm ob td K dst gv=gB Γ aJ rs gv ob td K dst (dj Γ (.mapUpd cj agg x k y) (bN aJ dst) tm ob):=rfl
@[simp] def goD_mapEnt(cj:List Sh)(agg:Bool)(z:DV)(x k:bQ):ml Γ aJ (.mapEnt cj agg z x k) rs tm ob td K dst gv=gB Γ aJ rs gv ob td K dst (dj Γ (.mapEnt cj agg z x k) (bN aJ dst) tm ob):=rfl
@[simp] def goD_entSt(x s y:bQ):ml Γ aJ (.entSt x s y) rs tm ob td K dst gv=gB Γ aJ rs gv ob td K dst (dj Γ (.entSt x s y) (bN aJ dst) tm ob):=rfl
@[simp] def goD_mapDel(cj:List Sh)(agg:Bool)(x k:bQ):ml Γ aJ (.mapDel cj agg x k) rs tm ob td K dst gv=gB Γ aJ rs gv ob td K dst (dj Γ (.mapDel cj agg x k) (bN aJ dst) tm ob):=rfl
@[simp] def goD_lenM(x:bQ):ml Γ aJ (.lenM x) rs tm ob td K dst gv=gB Γ aJ rs gv ob td K dst (dj Γ (.lenM x) (bN aJ dst) tm ob):=rfl
@[simp] def goD_rangeM(x:bQ):ml Γ aJ (.rangeM x) rs tm ob td K dst gv=gB Γ aJ rs gv ob td K dst (dj Γ (.rangeM x) (bN aJ dst) tm ob):=rfl
@[simp] def goD_copy(sz:Nat)(x y:bQ):ml Γ aJ (.copy sz x y) rs tm ob td K dst gv=gB Γ aJ rs gv ob td K dst (dj Γ (.copy sz x y) (bN aJ dst) tm ob):=rfl
@[simp] def goD_isNil(kind:Nat)(neg:Bool)(x:bQ):ml Γ aJ (.isNil kind neg x) rs tm ob td K dst gv=gB Γ aJ rs gv ob td K dst (dj Γ (.isNil kind neg x) (bN aJ dst) tm ob):=rfl
@[simp] def goD_indexS(x i:bQ):ml Γ aJ (.indexS x i) rs tm ob td K dst gv=gB Γ aJ rs gv ob td K dst (dj Γ (.indexS x i) (bN aJ dst) tm ob):=rfl
@[simp] def goD_fail:ml Γ aJ (.fail) rs tm ob td K dst gv=gB Γ aJ rs gv ob td K dst (dj Γ (.fail) (bN aJ dst) tm ob):=rfl
@[simp] def goD_entryM(x:bQ):ml Γ aJ (.entryM x) rs tm ob td K dst gv=GK Γ aJ rs gv K dst (oi Γ (.entryM x) tm ob td):=by simp[ml,rP]
end
attribute [simp] GM goOn_mk Yj Yk VF VG oi nh Yl Oq Ot Ym VH VI Yo vi Yn cS gR DO VJ
attribute [simp] dj bQ.ev iF lG ua Dc Qq iq kT rZ kK oQ mZ Dd De Df jA r8 wC vd oD fL wy lH gh Gx pV oT oS mw ja jd ku je r9 kU kV jN gj oE zV NW eM xU
attribute [simp] On DK Yi su lM o9 bV.oq mO cellsOf eX kp t7 iZ cy vZ t8 tz ji F3 tA bN Db eL HI gO tl QF Ok rP
def aF{x:Int}(h: -9223372036854775808<=x/\x<=9223372036854775807):IntKind.i64.wrap x=x:=by
 simp[IntKind.wrap,IntKind.bits,IntKind.signed];omega
def DP{x:Int}(h:0<=x):x.tdiv 2=x/2:=Int.tdiv_eq_ediv_of_nonneg h
end
section
variable{P:Program}{f sz:Nat}{fn:aK->List (aK)}
variable [bI] [dL]
def bu:List (Nat×Spec)->pI
 |[],_=>none
 |(g,s)::l,f=>if f=g then some s else bu l f
def ay.nil:ay P (bu []):=λ_ _ h=>by cases h
def ay.add{s:Spec}{l:List (Nat×Spec)}(h:ay P (bu l))(k:XR P f s):ay P (bu ((f,s)::l)):=by
 intro g s' hg;simp only[bu]at hg;split at hg
 ·rename_i e;cases hg;subst e;exact k
 ·exact h g s' hg
def ay.cons{s:Spec}{l:List (Nat×Spec)}(h:ay P (bu l))
  (k:∀ts,s.pre ts->bl P f ts (s.fn ts)/\(s.jz=true->iJ (s.fn ts)=true)) (hs:s.st=none:=by rfl) (xK:s.fresh=none:=by rfl):ay P (bu ((f,s)::l)):=
 h.add ⟨k,λe sz hf=>(by rw[xK]at hf;cases hf),λk hk=>(by rw[hs]at hk;cases hk)⟩
def eS(k:bB->bq->fI):Spec:=⟨λ_=>False,λ_=>.bool false,true,some k,none,false⟩
def ay.gS{k:bB->bq->fI}{l:List (Nat×Spec)}(h:ay P (bu l))
  (hk:∀args ab,(k args ab).ok->(∀N,(∀r,N<=r->ab r=none)->aR P f args ab (k args ab))/\∀r,ab r=none->(k args ab).ab r=none):ay P (bu ((f,eS k)::l)):=
 h.add ⟨λ_ h=>h.elim,λ_ _ h=>(by cases h),λk' e=>by cases e;exact hk⟩
def oW.ok{f:FuncId}{ts:aK}{e:Nat}{av:List (aK)}(h:oW P f ts e sz av):bl P f ts (.sl av):=
 ⟨h.entry,λW w cA hW hg hr=>(h.run W w cA hW hg hr).mono λe' w' ⟨v,h1,hb,hf⟩=>⟨v,h1,hb,by
  simp only[bj];rcases hf.it with⟨h2,a,h3⟩|⟨g,cap,pa,h2,hp,xL,hh,h3,h4,h5,h6⟩
  ·exact .inl ⟨h2,a,0,h3⟩
  ·refine .inr ⟨g,0,cap,sz,h2,(Zap.1 hh).1,λhw=>?_,h3,bw.jB (du.bi (dg.refl (λb=>W b\/b=g) w').toKeepsC (λb _ hb=>.inl hb) _ _ h6) hf.len λj v hv=>?_⟩
   ·have:=hW g hw;omega
   ·rw[Zbi,cell_of_row w' g j pa e (0,0) hh];rw[ZaQ]at hv;split at hv
    ·simpa using hv
    ·cases hv⟩⟩
def yj(pre:aK->Prop)(fn:aK->List (aK))(e sz:Nat):Spec:=⟨pre,λts=>.sl (fn ts),false,none,some (e,sz),false⟩
def ay.Yp{pre:aK->Prop}{e:Nat}{l:List (Nat×Spec)}(h:ay P (bu l))(k:∀ts,pre ts->oW P f ts e sz (fn ts)):ay P (bu ((f,yj pre fn e sz)::l)):=
 h.add ⟨λts hp=>⟨(k ts hp).ok,λx=>by cases x⟩,λe' iG hf ts hp=>(by cases hf;exact⟨_,rfl,k ts hp,λx=>by cases x⟩),λk hk=>(by cases hk)⟩
def DQ(pre:aK->Prop)(fn:aK->List (aK))(e sz:Nat):Spec:=⟨pre,λts=>.sl (fn ts),false,none,some (e,sz),true⟩
def ay.consL{pre:aK->Prop}{e:Nat}{l:List (Nat×Spec)}(h:ay P (bu l))(k:∀ts,pre ts->oW P f ts e sz (fn ts)/\iJ.iU (fn ts).flatten=true):ay P (bu ((f,DQ pre fn e sz)::l)):=
 h.add ⟨λts hp=>⟨(k ts hp).1.ok,λx=>by cases x⟩,λe' iG hf ts hp=>(by cases hf;exact⟨_,rfl,(k ts hp).1,λ_=>(k ts hp).2⟩),λk hk=>(by cases hk)⟩
@[simp] def specL_fresh(pre:aK->Prop)(fn:aK->List (aK))(e sz:Nat):(DQ pre fn e sz).fresh=some (e,sz):=rfl
@[simp] def specL_fn(pre:aK->Prop)(fn:aK->List (aK))(e sz:Nat)(ts:aK):(DQ pre fn e sz).fn ts=.sl (fn ts):=rfl
@[simp] def specL_pre(pre:aK->Prop)(fn:aK->List (aK))(e sz:Nat):(DQ pre fn e sz).pre=pre:=rfl
@[simp] def specL_lend(pre:aK->Prop)(fn:aK->List (aK))(e sz:Nat):(DQ pre fn e sz).fY=true:=rfl
@[simp] def specF_lend(pre:aK->Prop)(fn:aK->List (aK))(e sz:Nat):(yj pre fn e sz).fY=false:=rfl
@[simp] def specF_fresh(pre:aK->Prop)(fn:aK->List (aK))(e sz:Nat):(yj pre fn e sz).fresh=some (e,sz):=rfl
@[simp] def specF_fn(pre:aK->Prop)(fn:aK->List (aK))(e sz:Nat)(ts:aK):(yj pre fn e sz).fn ts=.sl (fn ts):=rfl
@[simp] def specF_pre(pre:aK->Prop)(fn:aK->List (aK))(e sz:Nat):(yj pre fn e sz).pre=pre:=rfl
def cT(pre:aK->Prop)(fn:aK->T)(jz:Bool):Spec:=⟨pre,fn,jz,none,none,false⟩
@[simp] def specP_pre(pre:aK->Prop)(fn:aK->T)(jz:Bool):(cT pre fn jz).pre=pre:=rfl
@[simp] def specP_fn(pre:aK->Prop)(fn:aK->T)(jz:Bool):(cT pre fn jz).fn=fn:=rfl
@[simp] def specP_scalar(pre:aK->Prop)(fn:aK->T)(jz:Bool):(cT pre fn jz).jz=jz:=rfl
@[simp] def specP_st(pre:aK->Prop)(fn:aK->T)(jz:Bool):(cT pre fn jz).st=none:=rfl
@[simp] def specF_st(pre:aK->Prop)(fn:aK->List (aK))(e sz:Nat):(yj pre fn e sz).st=none:=rfl
@[simp] def specS_st(k:bB->bq->fI):(eS k).st=some k:=rfl
def Ou(g f:Nat)(s:Spec)(l:List (Nat×Spec)):bu ((g,s)::l) f=if f=g then some s else bu l f:=rfl
def VL(f:Nat):bu [] f=none:=rfl
attribute [simp] Ou VL
theorem bl.calls{P:Program}{f:FuncId}{ts:aK}{t:T}(h:bl P f ts t){w:World}{cA:Array Value}(hg:F2 w λ_=>False)(hr:fN w (λ_=>False) ts cA.toList):
  Calls P f cA w λe w'=>∃v,e=.returned v/\vO w.heap.size w w'/\bj w' (λ_=>False) t v:=
 h.run (λ_=>False) w cA (λ_ h=>h.elim) hg hr
@[simp] def wrap_lit(n:Nat)(h:n<9223372036854775808):IntKind.i64.wrap (no_index (@OfNat.ofNat Int n instOfNat))= @OfNat.ofNat Int n instOfNat:=by
 have e:(@OfNat.ofNat Int n instOfNat)=(n:Int):=rfl;rw[e,aF (by omega)]
@[simp] def wrap_neg(n:Nat)(h:n<9223372036854775808):IntKind.i64.wrap (-(no_index (@OfNat.ofNat Int n instOfNat)))= -(@OfNat.ofNat Int n instOfNat):=by
 have e:(@OfNat.ofNat Int n instOfNat)=(n:Int):=rfl;rw[e,aF (by omega)]
end
section
variable{o':Ob}{r:Nat}
variable [bI] [dL]
def gone(aI:bq)(σ:Nat->Nat)(r:Nat):Prop:=∀r',aI r'≠none->σ r'≠r
def Yr(ab aI:bq)(σ:Nat->Nat)(r off:Nat):DV->Prop
 |.ptr r' off'=>r=σ r'/\off=off'/\∃cs,aI r'=some (.box cs)
 |.iD cs off'=>off=off'/\ab r=some (.box (cs.map .v))/\gone aI σ r
 |.v (.box cs)=>off=0/\ab r=some (.box (cs.map .v))/\gone aI σ r
 |_=>False
def yo(ab aI:bq)(σ:Nat->Nat)(r bD:Nat):DV->Prop
 |.bA r' cg=>r=σ r'/\∃e sz av e' iG eN,ab r=some (.dT bD e sz av)/\aI r'=some (.dT cg e' iG eN)
 |.v (.sl av)=>(∃e sz,ab r=some (.dT bD e sz av))/\gone aI σ r
 |_=>False
def QL(ab aI:bq)(σ:Nat->Nat)(r bD:Nat)(i:Int)(off:Nat):DV->Prop
 |.ka r' cg i' off'=>r=σ r'/\i=i'/\off=off'/\∃e sz av e' iG eN,ab r=some (.dT bD e sz av)/\aI r'=some (.dT cg e' iG eN)/\sz=iG/\av.length=eN.length
 |_=>False
def qW:Option Ob->Prop
 |some (.map _ _ _ _)=>True
 |_=>False
def DT:Option Ob->Prop
 |some (.kc _ _ _ _)=>True
 |_=>False
def pg(aI:bq)(σ:Nat->Nat)(r:Nat):DV->Prop
 |.iE r'=>r=σ r'/\qW (aI r')
 |_=>False
def Ys(aI:bq)(σ:Nat->Nat)(r:Nat):DV->Prop
 |.kc r'=>r=σ r'/\DT (aI r')
 |_=>False
def corAsl(ab aI:bq)(σ:Nat->Nat)(r bD lo n:Nat):DV->Prop
 |.u9 r' cg lo' n'=>r=σ r'/\lo=lo'/\n=n'/\∃e sz av e' iG eN,ab r=some (.dT bD e sz av)/\aI r'=some (.dT cg e' iG eN)/\sz=iG/\av.length=eN.length
 |.v (.sl eN)=>(∃e sz av,ab r=some (.dT bD e sz av)/\eN=(av.drop lo).take n)/\gone aI σ r
 |_=>False
def Yt(ab aI:bq)(σ:Nat->Nat)(r n:Nat):DV->Prop
 |.F9 r' n'=>r=σ r'/\n=n'/\∃cs,aI r'=some (.box cs)
 |.v (.sl av)=>av.length=n/\(∃sz,∀x∈av,x.length=sz)/\ab r=some (.box (av.flatten.map .v))/\gone aI σ r
 |_=>False
def DU{o:Option Ob}(h:qW o):∃cj agg c es,o=some (.map cj agg c es):=by
 unfold qW at h;split at h
 ·exact⟨_,_,_,_,rfl⟩
 ·exact h.elim
def VO{o:Option Ob}(h:DT o):∃m s sn l,o=some (.kc m s sn l):=by
 unfold DT at h;split at h
 ·exact⟨_,_,_,_,rfl⟩
 ·exact h.elim
def Ih:DV->Option (bB)
 |.agg ds=>some ds
 |.v (.agg ts)=>some (ts.map .v)
 |_=>none
mutual
def iL(ab aI:bq)(σ:Nat->Nat):DV->DV->Prop
 |.aW,d'=>d'=.undef\/d'=.aW\/d'=.v (.sl [])
 |.ptr r off,d'=>d'=.undef\/Yr ab aI σ r off d'
 |.bA r bD,d'=>d'=.undef\/yo ab aI σ r bD d'
 |.ka r bD i off,d'=>d'=.undef\/QL ab aI σ r bD i off d'
 |.agg ds,d'=>d'=.undef\/match Ih d' with|some ag=>ij ab aI σ ds ag|none=>False
 |.undef,d'=>d'=.undef
 |.skip,d'=>d'=.undef\/d'=.skip
 |.v t,d'=>d'=.undef\/d'=.v t
 |.l7 av i off,d'=>d'=.undef\/d'=.l7 av i off
 |.iD cs off,d'=>d'=.undef\/d'=.iD cs off
 |.NV,d'=>d'=.undef\/d'=.NV
 |.iE r,d'=>d'=.undef\/pg aI σ r d'
 |.kc r,d'=>d'=.undef\/Ys aI σ r d'
 |.u9 r bD lo n,d'=>d'=.undef\/corAsl ab aI σ r bD lo n d'
 |.F9 r n,d'=>d'=.undef\/Yt ab aI σ r n d'
 |.eo ds,d'=>d'=.undef\/match d' with|.eo ag=>ij ab aI σ ds ag|_=>False
 |.nG f ds,d'=>d'=.undef\/match d' with|.nG f' ag=>f=f'/\ij ab aI σ ds ag|.v (.fn f' ts)=>f=f'/\ij ab aI σ ds (ts.map .v)|_=>False
def ij(ab aI:bq)(σ:Nat->Nat):bB->bB->Prop
 |[],ag=>ag=[]
 |d::ds,ag=>match ag with
  |[]=>False
  |d'::ag=>iL ab aI σ d d'/\ij ab aI σ ds ag
end
def jF(ab aI:bq)(σ:Nat->Nat):List (Nat×T×DV)->List (Nat×T×DV)->Prop
 |[],m0=>m0=[]
 |e::es,m0=>match m0 with
  |[]=>False
  |e'::m0=>e.1=e'.1/\e.2.1=e'.2.1/\iL ab aI σ e.2.2 e'.2.2/\jF ab aI σ es m0
def ph{ab aI:bq}{σ:Nat->Nat}:∀{es:List (Nat×T×DV)},(∀e∈es,iL ab aI σ e.2.2 e.2.2)->jF ab aI σ es es
 |[],_=>by simp[jF]
 |e::es,h=>by simp only[jF];exact⟨trivial,trivial,h e (by simp),ph λe he=>h e (by simp[he])⟩
def nS(ab aI:bq)(σ:Nat->Nat):Ob->Ob->Prop
 |.box cs,.box iz=>ij ab aI σ cs iz
 |.dT _ e sz av,.dT _ e' iG eN=>e=e'/\sz=iG/\av=eN
 |.map cj agg c es,.map kq kr c' m0=>cj=kq/\agg=kr/\c=c'/\jF ab aI σ es m0
 |.kc m s sn l,.kc m' s' sn' l'=>m=σ m'/\s=s'/\sn=sn'/\l=l'/\qW (aI m')
 |_,_=>False
def jt:Ob->Ob->Prop
 |.box _,.box _=>True
 |.dT v _ sz av,.dT v' _ iG eN=>v=v'/\sz=iG/\av.length=eN.length
 |.map _ _ _ _,.map _ _ _ _=>True
 |.kc _ _ _ _,.kc _ _ _ _=>True
 |_,_=>False
def yq{o:Ob}(h:jt o o'):o'.kind=o.kind:=by cases o<;>cases o'<;>first|rfl|exact h.elim
def Loc.DW(L:Loc)(σ:Nat->Nat):Loc:=⟨λr=>L.I1 (σ r),λr=>L.sl (σ r),L.yl⟩
section
variable{base:Nat}{W M:fo}{w0 w:World}{ab aI:bq}{L:Loc}{σ:Nat->Nat}
def vn{o:Ob}(h:nS ab aI σ o o')(r:Nat):(L.DW σ).own r o'=L.own (σ r) o:=by
 cases o<;>cases o'<;>first|rfl|exact h.elim
def lN(gH:∀r' o',aI r'=some o'->∃o,ab (σ r')=some o/\∀r,(L.DW σ).own r o'=L.own (σ r) o)(b:Nat)(h:WW W aI (L.DW σ) b):WW W ab L b:=by
 rcases h with h|⟨r',o',h1,h2⟩
 ·exact .inl h
 ·obtain⟨o,h3,h4⟩:=gH r' o' h1;exact .inr ⟨σ r',o,h3,by rw[<-h4];exact h2⟩
def DX(hO:ct base W M w0 ab w L)(gH:∀r' o',aI r'=some o'->∃o,ab (σ r')=some o/\∀r,(L.DW σ).own r o'=L.own (σ r) o){b:Nat}{o:Ob}(hr:ab r=some o)(hb:L.own r o=some b)(hg:gone aI σ r):¬WW W aI (L.DW σ) b:=by
 rintro(h|⟨r',o',h1,h2⟩)
 ·exact hO.qQ r o b hr hb h
 ·obtain⟨o2,h3,h4⟩:=gH r' o' h1;rw[h4]at h2;exact hO.apart r (σ r') o o2 b (λe=>hg r' (by rw[h1];exact λe=>by cases e) e.symm) hr h3 hb h2
def wM(hO:ct base W M w0 ab w L)(gH:∀r' o',aI r'=some o'->∃o,ab (σ r')=some o/\∀r,(L.DW σ).own r o'=L.own (σ r) o){cs:aK}(hr:ab r=some (.box (cs.map .v)))(hg:gone aI σ r):
  L.I1 r<w.heap.size/\¬WW W aI (L.DW σ) (L.I1 r)/\ed w (WW W aI (L.DW σ)) (L.I1 r) 0 cs:=by
 have hb:=hO.ob r _ hr;obtain⟨c,e,hc,gQ,_⟩:=hb;refine⟨(Zap.1 hc).1,DX hO gH hr rfl hg,ed.Da cs 0 λj t hj=>?_⟩;have hd:(cs.map DV.v)[j]? =some (.v t):=by simp[hj]
 obtain⟨v,hv,h1,h2⟩:=aQ.get gQ hd;simp only[aA]at h2;refine⟨v, ?_,h1,bj.bi (dg.refl (WW W ab L) w).toKeepsC (λb _ hb=>lN gH b hb) t v h2⟩;simp only[World.cell?,hc,Zbi];simpa using hv
def Oy(hO:ct base W M w0 ab w L)(gH:∀r' o',aI r'=some o'->∃o,ab (σ r')=some o/\∀r,(L.DW σ).own r o'=L.own (σ r) o){bD e sz:Nat}{av:List (aK)}(hr:ab r=some (.dT bD e sz av))(hg:gone aI σ r):
  bj w (WW W aI (L.DW σ)) (.sl av) (L.sl r):=by
 have tD:=hO.ob r _ hr;obtain⟨yi,eF,hm,P1⟩:=tD;simp only[bj];rcases P1 with⟨rfl,p,hp⟩|⟨g',cap,pa,tp,hp,hh,jy,sc,HN,gQ⟩
 ·exact .inl ⟨rfl,p,0,hp⟩
 ·have zO:aX (L.sl r)=some g':=by simp[tp,aX,ZaJ.1 hp]
  refine .inr ⟨g',0,cap,sz,tp,(Zap.1 hh).1,DX hO gH hr (by simpa [Loc.own]using zO) hg,jy, ?_⟩;have B7:=pL.av (hO.ob r _ hr) (g:=g') zO;obtain⟨vs,xM,Cm,XE⟩:=bw.flatten B7;exact bw.jB (du.bi (dg.refl (WW W ab L) w).toKeepsC (λb _ hb=>lN gH b hb) _ _ Cm) eF XE
def wN{ts:aK}:∀{vs:List Value},aQ w W ab L (ts.map .v) vs->du w (WW W ab L) ts vs:=by
 induction ts with
 |nil=>intro vs h;simpa [aQ,du]using h
 |cons t ts ih=>
  intro vs h;simp only[ZaA,aQ]at h;obtain⟨v,EY,rfl,h1,h2,h3⟩:=h;simp only[aA]at h2;simp only[du];exact⟨v,EY,rfl,h1,h2,ih h3⟩
def Cu(hO:ct base W M w0 ab w L)(gH:∀r' o',aI r'=some o'->∃o,ab (σ r')=some o/\∀r,(L.DW σ).own r o'=L.own (σ r) o):
  ∀n,(∀(d d':DV) (x:Value),SizeOf.sizeOf d<n->iL ab aI σ d d'->aA w W ab L d x->aA w W aI (L.DW σ) d' x)/\
   (∀(ds ag:bB) (xs:List Value),SizeOf.sizeOf ds<n->ij ab aI σ ds ag->aQ w W ab L ds xs->aQ w W aI (L.DW σ) ag xs)/\
   (∀(ds ag:bB) (xs:List Value),SizeOf.sizeOf ds<n->ij ab aI σ ds ag->eE w W ab L ds xs->eE w W aI (L.DW σ) ag xs):=by
 have nR:∀(t:T) (x:Value),bj w (WW W ab L) t x->bj w (WW W aI (L.DW σ)) t x:=λt x h=>bj.bi (dg.refl (WW W ab L) w).toKeepsC (λb _ hb=>lN gH b hb) t x h;intro n;induction n with
 |zero=>exact⟨λ_ _ _ h=>by omega,λ_ _ _ h=>by omega,λ_ _ _ h=>by omega⟩
 |succ n ih=>
  refine⟨λd d' x hn hc hr=>?_,λds ag xs hn hc hr=>?_,λds ag xs hn hc hr=>?_⟩
  ·by_cases hu:d'=.undef
   ·subst hu;simp[aA]
   cases d with
   |undef=>simp only[iL]at hc;exact Zar hc hu
   |skip=>simp only[iL,hu,false_or]at hc;subst hc;simpa only[aA]using hr
   |NV=>simp only[iL,hu,false_or]at hc;subst hc;simp only[aA,Loc.DW]at hr⊢;exact hr
   |v t=>simp only[iL,hu,false_or]at hc;subst hc;simp only[aA]at hr⊢;exact nR t x hr
   |l7 av i off=>
    simp only[iL,hu,false_or]at hc;subst hc;simp only[aA]at hr⊢;obtain⟨b,o,sz,hx,hb,VE,B7,h1,h2⟩:=hr;exact⟨b,o,sz,hx,hb,λk=>VE (lN gH b k),bw.bi (dg.refl (WW W ab L) w).toKeepsC (λb _ hb=>lN gH b hb) hb VE sz o av B7,h1,h2⟩
   |iD cs off=>
    simp only[iL,hu,false_or]at hc;subst hc;simp only[aA]at hr⊢;obtain⟨b,o,hx,hb,VE,B7⟩:=hr;exact⟨b,o,hx,hb,λk=>VE (lN gH b k),ed.bi (dg.refl (WW W ab L) w).toKeepsC (λb _ hb=>lN gH b hb) hb VE o cs B7⟩
   |iE r=>
    simp only[iL,hu,false_or]at hc;simp only[aA]at hr;cases d' with
    |iE r'=>
     obtain⟨rfl,hm⟩:=hc;simp only[aA];exact⟨DU hm,hr.2⟩
    |_=>exact hc.elim
   |kc r=>
    simp only[iL,hu,false_or]at hc;simp only[aA]at hr;cases d' with
    |kc r'=>
     obtain⟨rfl,hm⟩:=hc;simp only[aA];exact⟨VO hm,hr.2⟩
    |_=>exact hc.elim
   |eo ds=>
    simp only[iL,hu,false_or]at hc;simp only[aA]at hr;obtain⟨vs,rfl,hr⟩:=hr;cases d' with
    |eo ag=>
     simp only[aA];exact⟨vs,rfl,ih.2.2 ds ag _ (by simp at hn⊢;omega) hc hr⟩
    |_=>exact hc.elim
   |nG f ds=>
    simp only[iL,hu,false_or]at hc;simp only[aA]at hr;obtain⟨vs,rfl,hr⟩:=hr;cases d' with
    |nG f' ag=>
     obtain⟨rfl,hc⟩:=hc;simp only[aA];exact⟨vs,rfl,ih.2.1 ds ag _ (by simp at hn⊢;omega) hc hr⟩
    |v t=>
     cases t with
     |fn f' ts=>
      obtain⟨rfl,hc⟩:=hc;simp only[aA,bj];exact⟨vs,rfl,wN (ih.2.1 ds _ _ (by simp at hn⊢;omega) hc hr)⟩
     |_=>exact hc.elim
    |_=>exact hc.elim
   |F9 r m=>
    simp only[iL,hu,false_or]at hc;simp only[aA]at hr;obtain⟨⟨cs0,hcs0⟩,rfl⟩:=hr;cases d' with
    |F9 r' m'=>
     obtain⟨rfl,rfl,cs,oj⟩:=hc;simp only[aA];exact⟨⟨cs,oj⟩,rfl⟩
    |v t=>
     cases t with
     |sl av=>
      obtain⟨rfl,⟨sz,yi⟩,tD,hg⟩:=hc;obtain⟨h1,h2,h3⟩:=wM hO gH tD hg;simp only[aA,bj];refine .inr ⟨L.I1 r,0,av.length,sz,rfl,h1,h2,Zaf _, ?_⟩;obtain⟨vs,Bk,mQ⟩:=ed.cA h3;exact bw.jB Bk yi mQ
     |_=>exact hc.elim
    |_=>exact hc.elim
   |u9 r bD lo m=>
    simp only[iL,hu,false_or]at hc;simp only[aA]at hr;obtain⟨Kl,qw,e2,Gy,lI,gI,Km,hx⟩:=hr;cases d' with
    |u9 r' cg lo' m'=>
     obtain⟨rfl,rfl,rfl,e,sz,av,e',iG,eN,h1,h2,h3,h4⟩:=hc;rw[gI]at h1;simp only[Zaa,Ob.dT.injEq]at h1;obtain⟨rfl,rfl,rfl,rfl⟩:=h1;simp only[aA];refine⟨Kl,cg,e',iG,eN,h2,Zaf _,λ_=>?_⟩;obtain⟨k0,p,cap,p2,k1,k2,k3⟩:=hx rfl;exact⟨by rw[<-h4];exact k0,p,cap,p2,by rw[<-h4];exact k1,k2,by rw[<-h3];exact k3⟩
    |v t=>
     cases t with
     |sl eN=>
      obtain⟨⟨e,sz,av,h1,rfl⟩,hg⟩:=hc;rw[gI]at h1;simp only[Zaa,Ob.dT.injEq]at h1;obtain⟨rfl,rfl,rfl,rfl⟩:=h1;have hx:=hx rfl;simp only[aA,bj];have HG:((lI.drop lo).take m).length=m:=by rw[ZaB,Zbo];omega
      rcases uf hO gI hx with⟨rfl,a,c,rfl⟩|⟨g,c,zO,rfl,Lk,B7⟩
      ·exact .inl ⟨by simp,a,c,rfl⟩
      ·refine .inr ⟨g,lo*Gy,c,Gy,by rw[HG],(hO.ob r _ gI).lt (by simpa [Loc.own]using zO),DX hO gH gI (by simpa [Loc.own]using zO) hg,by omega, ?_⟩;obtain⟨vs,xM,Cm,XE⟩:=bw.flatten B7;exact bw.jB (du.bi (dg.refl (WW W ab L) w).toKeepsC (λb _ hb=>lN gH b hb) _ _ Cm) (λx hx=>(hO.ob r _ gI).2.1 x (ZbW (ZaE hx))) XE
     |_=>exact hc.elim
    |_=>exact hc.elim
   |aW=>
    simp only[iL,hu,false_or]at hc;rcases hc with rfl|rfl
    ·simpa only[aA]using hr
    ·simp only[aA]at hr;obtain⟨a,rfl⟩:=hr;simp only[aA,bj];exact .inl ⟨trivial,a,0,rfl⟩
   |ptr r off=>
    simp only[iL,hu,false_or]at hc;simp only[aA]at hr;obtain⟨⟨cs0,hcs0⟩,rfl⟩:=hr;cases d' with
    |ptr r' off'=>
     obtain⟨rfl,rfl,cs,oj⟩:=hc;simp only[aA];exact⟨⟨cs,oj⟩,rfl⟩
    |iD cs off'=>
     obtain⟨rfl,tD,hg⟩:=hc;obtain⟨h1,h2,h3⟩:=wM hO gH tD hg;simp only[aA];exact⟨L.I1 r,0,by simp,h1,h2,h3⟩
    |v t=>
     cases t with
     |box cs=>
      obtain⟨rfl,tD,hg⟩:=hc;obtain⟨h1,h2,h3⟩:=wM hO gH tD hg;simp only[aA,bj];exact⟨L.I1 r,0,rfl,h1,h2,h3⟩
     |_=>exact hc.elim
    |_=>exact hc.elim
   |bA r bD=>
    simp only[iL,hu,false_or]at hc;simp only[aA]at hr;obtain⟨Kl,qw,e2,Gy,lI,gI,Km,hx⟩:=hr;cases d' with
    |bA r' cg=>
     obtain⟨rfl,e,sz,av,e',iG,eN,h1,h2⟩:=hc;rw[gI]at h1;simp only[Zaa,Ob.dT.injEq]at h1;obtain⟨rfl,_⟩:=h1;simp only[aA];exact⟨Kl,cg,e',iG,eN,h2,Zaf _,λ_=>hx rfl⟩
    |v t=>
     cases t with
     |sl av=>
      obtain⟨⟨e,sz,h1⟩,hg⟩:=hc;rw[gI]at h1;simp only[Zaa,Ob.dT.injEq]at h1;obtain⟨rfl,rfl,rfl,rfl⟩:=h1;have hx:=hx rfl;subst hx;simp only[aA];exact Oy hO gH gI hg
     |_=>exact hc.elim
    |_=>exact hc.elim
   |ka r bD i off=>
    simp only[iL,hu,false_or]at hc;simp only[aA]at hr;obtain⟨Kl,qw,e2,Gy,lI,gI,Km,hx⟩:=hr;cases d' with
    |ka r' cg i' off'=>
     obtain⟨rfl,rfl,rfl,e,sz,av,e',iG,eN,h1,h2,h3,h4⟩:=hc;rw[gI]at h1;simp only[Zaa,Ob.dT.injEq]at h1;obtain⟨rfl,rfl,rfl,rfl⟩:=h1;simp only[aA];refine⟨Kl,cg,e',iG,eN,h2,Zaf _,λ_=>?_⟩;obtain⟨g,k1,k2,k3,k4⟩:=hx rfl;exact⟨g,k1,by rw[<-h3];exact k2,k3,by rw[<-h4];exact k4⟩
    |_=>exact hc.elim
   |agg ds=>
    simp only[iL,hu,false_or]at hc;simp only[aA]at hr;obtain⟨vs,rfl,hr⟩:=hr;cases d' with
    |agg ag=>
     simp only[Ih]at hc;simp only[aA];exact⟨vs,rfl,ih.2.1 ds ag _ (by simp at hn⊢;omega) hc hr⟩
    |v t=>
     cases t with
     |agg ts=>
      simp only[Ih]at hc;simp only[aA,bj];exact⟨vs,rfl,wN (ih.2.1 ds _ _ (by simp at hn⊢;omega) hc hr)⟩
     |_=>exact hc.elim
    |_=>exact hc.elim
  ·cases ds with
   |nil=>simp only[ij]at hc;subst hc;simpa only[aQ]using hr
   |cons d ds=>
    cases ag with
    |nil=>simp[ij]at hc
    |cons d' ag=>
     simp only[ij]at hc;simp only[aQ]at hr⊢;obtain⟨y,ys,hv,h1,h2,h3⟩:=hr;exact⟨y,ys,hv,h1,ih.1 d d' y (by simp at hn⊢;omega) hc.1 h2,ih.2.1 ds ag ys (by simp at hn⊢;omega) hc.2 h3⟩
  ·cases ds with
   |nil=>simp only[ij]at hc;subst hc;simpa only[eE]using hr
   |cons d ds=>
    cases ag with
    |nil=>simp[ij]at hc
    |cons d' ag=>
     simp only[ij]at hc;simp only[eE]at hr⊢;obtain⟨y,ys,hv,h2,h3⟩:=hr;exact⟨y,ys,hv,ih.1 d d' y (by simp at hn⊢;omega) hc.1 h2,ih.2.2 ds ag ys (by simp at hn⊢;omega) hc.2 h3⟩
def Le.cor{st dm:l8}(σ:Nat->Nat)(Dw:dm.low=st.low)(KQ:dm.todo=st.todo)(DY:∀r,dm.aJ<=r->dm.ab r=none)
  (gH:∀r' o',dm.ab r'=some o'->∃o,st.ab (σ r')=some o/\nS st.ab dm.ab σ o o')
  (hinj:∀r1 r2,dm.ab r1≠none->dm.ab r2≠none->σ r1=σ r2->r1=r2)
  (BA:∀r,r<st.low->∀o,st.ab r=some o->σ r=r/\∃o',dm.ab r=some o'/\jt o o')
  (ik:∀k,iL st.ab dm.ab σ (st.tmps k) (dm.tmps k)):Le st dm:=by
 intro κ nt a w L h;refine⟨L.DW σ,⟨?_, ?_,h.r.defers,h.r.bg,⟨_,DY⟩⟩,DY,by rw[Dw];exact h.low,by rw[Dw];exact h.it⟩
 ·obtain⟨W,base,M,w0,dP,h0⟩:=h.r.ex;have hO:=h0.o;have tD:∀r' o',dm.ab r'=some o'->∃o,st.ab (σ r')=some o/\∀r,(L.DW σ).own r o'=L.own (σ r) o:=λr' o' h=>let⟨o,h1,h2⟩:=gH r' o' h;⟨o,h1,vn h2⟩
  have cr:=λ(d d':DV) (x:Value)=>(Cu hO tD (SizeOf.sizeOf d+1)).1 d d' x (by omega);have crs:=λ(ds ag:bB) (xs:List Value)=>(Cu hO tD (SizeOf.sizeOf ds+1)).2.1 ds ag xs (by omega);refine⟨W,base,M,w0,by rw[KQ];exact dP,h0.size,λt=>cr _ _ _ (ik t) (h0.tmps t),⟨hO.fr,λr' o' iA=>?_,λr1 r2 o1 o2 b bT h1 h2 tV fH=>?_,λr' o' b iA hb=>?_,hO.under,hO.gl.bi (dg.refl (WW W st.ab L) w).toKeepsC λb _ hb=>lN tD b hb⟩⟩
  ·obtain⟨o,ho,hc⟩:=gH r' o' iA;have hk:=hO.ob (σ r') o ho;cases o with
   |box cs=>
    cases o' with
    |box iz=>
     obtain⟨c,e,cR,hr,hm⟩:=hk;exact⟨c,e,cR,crs cs iz _ hc hr,hm⟩
    |_=>exact hc.elim
   |map cj agg c es=>
    cases o' with
    |map kq kr c' m0=>
     obtain⟨rfl,rfl,rfl,pP⟩:=hc;obtain⟨dT,cR,hr,k1,k2,k3,hm⟩:=hk;have key:∀(es m0:List (Nat×T×DV)) (xs:List MapEntry),jF st.ab dm.ab σ es m0->bJ w W st.ab L es xs->bJ w W dm.ab (L.DW σ) m0 xs/\m0.map (·.1)=es.map (·.1)/\m0.map (·.2.1)=es.map (·.2.1):=by
      intro es;induction es with
      |nil=>intro m0 xs h1 h2;simp only[jF]at h1;subst h1;exact⟨by simpa only[bJ]using h2,rfl,rfl⟩
      |cons e es ih=>
       intro m0 xs h1 h2;cases m0 with
       |nil=>simp[jF]at h1
       |cons e' m0=>
        simp only[jF]at h1;simp only[bJ]at h2⊢;obtain⟨x,lz,rfl,q0,q1,q2,q3⟩:=h2;obtain⟨i1,i2,i3⟩:=ih m0 lz h1.2.2.2 q3;refine⟨⟨x,lz,rfl,q0.trans h1.1, ?_,cr _ _ _ h1.2.2.1 q2,i1⟩,by simp[i2,h1.1],by simp[i3,h1.2.1]⟩;rw[<-h1.2.1];exact bj.bi (dg.refl (WW W st.ab L) w).toKeepsC (λb _ hb=>lN tD b hb) _ _ q1
     obtain⟨i1,i2,i3⟩:=key es m0 _ pP hr;refine⟨dT,cR,i1,λe he=>?_,λe he=>?_,by rw[i2];exact k3,hm⟩
     ·have:e.2.1∈es.map (·.2.1):=by rw[<-i3];exact Zak.2 ⟨e,he,rfl⟩
      obtain⟨e0,h0',Nz⟩:=Zak.1 this;rw[<-Nz];exact k1 e0 h0'
     ·have:e.1∈es.map (·.1):=by rw[<-i2];exact Zak.2 ⟨e,he,rfl⟩
      obtain⟨e0,h0',Nz⟩:=Zak.1 this;rw[<-Nz];exact k2 e0 h0'
    |_=>exact hc.elim
   |kc m s sn l=>
    cases o' with
    |kc m' s' sn' l'=>
     obtain⟨rfl,rfl,rfl,rfl,Ny⟩:=hc;obtain⟨cR,_,hm⟩:=hk;exact⟨cR,DU Ny,hm⟩
    |_=>exact hc.elim
   |dT bD e sz av=>
    cases o' with
    |box _=>exact hc.elim
    |map _ _ _ _=>exact hc.elim
    |kc _ _ _ _=>exact hc.elim
    |dT cg e' iG eN=>
     obtain⟨rfl,rfl,rfl⟩:=hc;obtain⟨g1,g2,g3,g4⟩:=hk;refine⟨g1,g2,g3, ?_⟩;rcases g4 with g4|⟨g,cap,pa,hv,hp,hh,k1,k2,k3,k4⟩
     ·exact .inl g4
     ·exact .inr ⟨g,cap,pa,hv,hp,hh,k1,k2,k3,du.bi (dg.refl (WW W st.ab L) w).toKeepsC (λb _ hb=>lN tD b hb) _ _ k4⟩
  ·obtain⟨p1,q1,c1⟩:=gH r1 o1 h1;obtain⟨p2,q2,c2⟩:=gH r2 o2 h2;rw[vn c1]at tV;rw[vn c2]at fH;exact hO.apart (σ r1) (σ r2) p1 p2 b (λe=>bT (hinj r1 r2 (λe=>by rw[show dm.ab r1=some o1 from h1]at e;cases e) (λe=>by rw[show dm.ab r2=some o2 from h2]at e;cases e) e)) q1 q2 tV fH
  ·obtain⟨p1,q1,c1⟩:=gH r' o' iA;rw[vn c1]at hb;exact hO.qQ (σ r') p1 b q1 hb
 ·have ha:gP κ.W κ.go κ.gL (κ.NC st.todo) st.ab L w:=h.r.eZ;show gP κ.W κ.go κ.gL (κ.NC dm.todo) dm.ab (L.DW σ) w;rw[KQ];refine⟨ha.dx,λb hb hw=>ha.sub b hb (lN (λr' o' h=>let⟨o,h1,h2⟩:=gH r' o' h;⟨o,h1,vn h2⟩) b hw),λr o hr hk=>?_,λr bD e sz av hr=>?_,ha.yl⟩
  ·have ln:r<st.low:=ZbK λjy=>by rw[h.low r jy]at hr;cases hr
   obtain⟨e1,o1,sg,pJ⟩:=ha.fix r o hr hk;obtain⟨hs,o',iA,hv⟩:=BA r ln _ sg;exact⟨by simp only[Loc.DW,hs];exact e1,o',iA,(yq hv).trans pJ⟩
  ·have ln:r<st.low:=ZbK λjy=>by rw[h.low r jy]at hr;cases hr
   obtain⟨v1,e1,s1,r1,sg,l1,k1⟩:=ha.dT r bD e sz av hr;obtain⟨hs,o',iA,hv⟩:=BA r ln _ sg;cases o' with
   |box iz=>exact hv.elim
   |map _ _ _ _=>exact hv.elim
   |kc _ _ _ _=>exact hv.elim
   |dT v2 e2 s2 r2=>
    obtain⟨rfl,rfl,h3⟩:=hv;exact⟨v1,e2,s1,r2,iA,l1,λhv=>by
     obtain⟨a1,a2,a3⟩:=k1 hv;exact⟨by simp only[Loc.DW,hs];exact a1,a2,by rw[<-h3];exact a3⟩⟩
end
end
section
variable{r ba:Nat}{o0:cV}{yZ:Bool}{rs:ai}
variable [bI] [dL]
section
variable{P:Program}{nt:Nat}
def OC(qs:Array Nat)(cA:Array Value)(tm:Array Value):(qs.zip cA).foldl (λt (p,v)=>t.setIfInBounds p v) tm=(qs.toList.zip cA.toList).foldl (λt (pv:Nat×Value)=>t.setIfInBounds pv.1 pv.2) tm:=by
 rw[<-Array.foldl_toList,Array.toList_zip]
def VQ{ro:Option Nat}{w:World}{fn:FuncId}{tm:Array Value}{ps:Array Nat}{y z:Code}(I2:∀l,ro=some l->∃r,w.heap[l]? =some (.loop r)):
  ∃(l:Nat) (Ds:cO) (W1:World) (rec:Loop),(Instr.enterLoop fn tm ps y z ro).run P w=.ok (l,Ds.map mark) W1/\vO w.heap.size w W1/\w.heap.size<=l/\W1.heap[l]? =some (.loop rec)/\
   rec.state=.ready/\rec.pending=none/\rec.fn=fn/\rec.tmps=tm/\rec.params=ps/\rec.assign=y/\rec.body=z/\Ds.Nodup/\(∀D∈Ds,W1.heap[D]? =some (.deferred (some []))/\w.heap.size<=D):=by
 cases ro with
 |none=>
  refine⟨_,[w.heap.size],_,{state:=.ready,pending:=none,fn,tmps:=tm,params:=ps,assign:=y,body:=z,defers:=w.heap.size},run_enterLoop_outer _ _ _ _ _, ?_,by simp, ?_,rfl,rfl,rfl,rfl,rfl,rfl,rfl,by simp, ?_⟩
  ·exact⟨((Below.refl _ w).alloc (Zaf _) _).alloc (by simp) _,Zaf _⟩
  ·have:=World.alloc_heap_new (w.alloc (.deferred (some []))) (.loop {state:=.ready,pending:=none,fn,tmps:=tm,params:=ps,assign:=y,body:=z,defers:=w.heap.size})
   rwa [World.size_alloc]at this
  ·intro D hD;simp only[Zan]at hD;subst hD;exact⟨(Below.heap_alloc _ _ _ (by simp)).trans (World.alloc_heap_new w _),Zaf _⟩
 |some l0=>
  obtain⟨r0,hr0⟩:=I2 l0 rfl;refine⟨_,[],_,{state:=.ready,pending:=none,fn,tmps:=tm,params:=ps,assign:=y,body:=z,defers:=r0.defers},run_enterLoop_inner hr0 _ _ _ _ _, ?_,Zaf _,World.alloc_heap_new w _,rfl,rfl,rfl,rfl,rfl,rfl,rfl,Zb0,λD hD=>by cases hD⟩;exact⟨(Below.refl _ w).alloc (Zaf _) _,Zaf _⟩
end
def fR(ab aI:bq)(σ:Nat->Nat)(tm:dw):fA->Prop
 |[]=>True
 |(k,d)::l=>iL ab aI σ (tm k) d/\fR ab aI σ tm l
def uC(ab aI:bq)(σ:Nat->Nat):cV->Prop
 |[]=>True
 |(r,o)::l=>(∃o0,ab (σ r)=some o0/\nS ab aI σ o0 o)/\uC ab aI σ l
def oH(n:Nat):cV->Prop
 |[]=>True
 |(r,_)::l=>r<n/\oH n l
def uD(n:Nat):cV->Prop
 |[]=>True
 |(r,_)::l=>n<=r/\uD n l
def Ii(σ:Nat->Nat)(r:Nat):cV->Prop
 |[]=>True
 |(r',_)::l=>(σ r=σ r'->r=r')/\Ii σ r l
def Cv(σ:Nat->Nat):cV->Prop
 |[]=>True
 |(r,_)::l=>Ii σ r l/\Cv σ l
def jS:∀{l:cV} {r:Nat} {o:Ob},cM l r=some o->(r,o)∈l
 |[],_,_,h=>by cases h
 |(j,x)::l,r,o,h=>by
  simp only[cM]at h;split at h
  ·rename_i e;cases h;subst e;exact Zbl ..
  ·exact Zbg _ (jS h)
def QM{l:cV}(h:cM l r≠none):∃o,(r,o)∈l:=by
 cases ho:cM l r with
 |none=>exact Zar ho h
 |some o=>exact⟨o,jS ho⟩
def qC{n:Nat}:∀{l:cV},oH n l->∀r o,(r,o)∈l->r<n
 |[],_,_,_,h=>by cases h
 |(j,x)::l,hk,r,o,h=>by
  rcases Zah.1 h with e|h
  ·cases e;exact hk.1
  ·exact qC hk.2 r o h
def yw{n:Nat}:∀{l:cV},uD n l->∀r o,(r,o)∈l->n<=r
 |[],_,_,_,h=>by cases h
 |(j,x)::l,hk,r,o,h=>by
  rcases Zah.1 h with e|h
  ·cases e;exact hk.1
  ·exact yw hk.2 r o h
def sx{ab aI:bq}{σ:Nat->Nat}:∀{l:cV},uC ab aI σ l->∀r o,(r,o)∈l->∃o0,ab (σ r)=some o0/\nS ab aI σ o0 o
 |[],_,_,_,h=>by cases h
 |(j,x)::l,hk,r,o,h=>by
  rcases Zah.1 h with e|h
  ·cases e;exact hk.1
  ·exact sx hk.2 r o h
def wO{σ:Nat->Nat}{r:Nat}:∀{l:cV},Ii σ r l->∀r' o,(r',o)∈l->σ r=σ r'->r=r'
 |[],_,_,_,h=>by cases h
 |(j,x)::l,hk,r',o,h=>by
  rcases Zah.1 h with e|h
  ·cases e;exact hk.1
  ·exact wO hk.2 r' o h
def BD{σ:Nat->Nat}:∀{l:cV},Cv σ l->∀r1 r2 o1 o2,(r1,o1)∈l->(r2,o2)∈l->σ r1=σ r2->r1=r2
 |[],_,_,_,_,_,h,_=>by cases h
 |(j,x)::l,hk,r1,r2,o1,o2,h1,h2=>by
  rcases Zah.1 h1 with e1|h1
  ·cases e1;rcases Zah.1 h2 with e2|h2
   ·cases e2;exact λ_=>rfl
   ·exact wO hk.1 r2 o2 h2
  ·rcases Zah.1 h2 with e2|h2
   ·cases e2;exact λe=>(wO hk.1 r1 o1 h1 e.symm).symm
   ·exact BD hk.2 r1 r2 o1 o2 h1 h2
@[simp] def gone_obs_nil(σ:Nat->Nat)(r:Nat):gone (cM []) σ r:=λr' h=>by simp[cM]at h
def Yx{σ:Nat->Nat}{j:Nat}{o:Ob}{l:cV}(h1:σ j≠r)(h2:gone (cM l) σ r):gone (cM ((j,o)::l)) σ r:=by
 intro r' gD;by_cases hj:r'=j
 ·subst hj;exact h1
 ·exact h2 r' (by rw[cS,Zab hj]at gD;exact gD)
def nk{ab aI:bq}{σ:Nat->Nat}{tm:dw}:∀(l:fA),fR ab aI σ tm l->∀k,iL ab aI σ (tm k) (look l k)
 |[],_,k=>by
  show iL ab aI σ (tm k) .undef;cases tm k<;>simp[iL]
 |(j,d)::l,h,k=>by
  simp only[look];split
  ·rename_i e;subst e;exact h.1
  ·exact nk l h.2 k
def Le.corL{tm:dw}{o:cV}{l:fA}{aJ:Nat}{td:List (aK)}{low:Nat}(σ:Nat->Nat)(Cd:uD low o0)(hk:oH ba o)(ha:Cv σ o)
  (gH:uC (cM o0) (cM o) σ o) (ik:fR (cM o0) (cM o) σ tm l):Le ⟨tm,cM o0,aJ,low,td⟩ ⟨look l,cM o,ba,low,td⟩:=by
 refine Le.cor σ rfl rfl (λr hr=>?_) (λr' o' h=>sx gH r' o' (jS h)) (λr1 r2 h1 h2 e=>?_) (λr hr o' h=>?_) (λk=>nk l ik k)
 ·cases ho:cM o r with
  |none=>exact ho
  |some x=>have:=qC hk r x (jS ho);simp only at hr;omega
 ·obtain⟨x1,k1⟩:=QM h1;obtain⟨x2,k2⟩:=QM h2;exact BD ha r1 r2 x1 x2 k1 k2 e
 ·have:=yw Cd r o' (jS h);simp only at hr;omega
def Le.bi{tm:dw}{o:cV}{l:fA}{aJ:Nat}{td:List (aK)}{low:Nat}(Cd:uD low o0)(hk:oH ba o)
  (gH:uC (cM o0) (cM o) id o) (ik:fR (cM o0) (cM o) id tm l):Le ⟨tm,cM o0,aJ,low,td⟩ ⟨look l,cM o,ba,low,td⟩:=by
 refine Le.corL id Cd hk ?_ gH ik;clear hk gH ik;induction o with
 |nil=>trivial
 |cons p o ih=>
  refine⟨?_,ih⟩;clear ih;induction o with
  |nil=>trivial
  |cons q o ih=>exact⟨λh=>h,ih⟩
attribute [simp] fR uC oH uD Ii Cv iL ij Yr Yt yo QL Ih nS
def gn(tm:dw):fA->Prop
 |[]=>True
 |(k,d)::l=>tm k=d/\gn tm l
def D0{tm:dw}:∀{l:fA},gn tm l->∀k,look l k=.undef\/look l k=tm k
 |[],_,_=>.inl rfl
 |(j,d)::l,h,k=>by
  simp only[look];split
  ·rename_i e;subst e;exact .inr h.1.symm
  ·exact D0 h.2 k
section
variable{P:Program}{nt:Nat}{Γ:pI}{Q:Exit->l8->Prop}{tm:dw}{ob:bq}{aJ low:Nat}{td:List (aK)}
def aa.regTo(aC:ay P Γ)(hm:P.follows .mixedOrders=true)(l:fA)(nJ:bq)
  (h:fc Γ aJ rs ⟨tm,ob,td⟩ λs=>gn s.tmps l/\s.ab=nJ/\s.todo=td) (k:Q .normal ⟨look l,nJ,aJ+nt+1,low,td⟩):aa P nt (.region yZ rs) Q ⟨tm,ob,aJ,low,td⟩:=by
 obtain⟨h1,h2,h3,h4⟩:=iK _ _ _ h;refine aa.yf (Q:=λe s=>e=.normal/\s=⟨(dZ Γ aJ rs ⟨tm,ob,td⟩).tmps,(dZ Γ aJ rs ⟨tm,ob,td⟩).ab,aJ+nt+1,low,(dZ Γ aJ rs ⟨tm,ob,td⟩).todo⟩) (aa.region aC hm (st:=⟨tm,ob,aJ,low,td⟩) h1 ⟨rfl,rfl⟩) ?_;rintro e s ⟨rfl,rfl⟩;refine⟨_,Le.we (D0 h2), ?_⟩;simp only[h3,h4];exact k
def aa.Yy(aC:ay P Γ)(hm:P.follows .mixedOrders=true){b:DC}(l:fA)(nJ:bq)
  (h:fc Γ aJ rs ⟨tm,ob,td⟩ λs=>gn s.tmps l/\s.ab=nJ/\s.todo=td) (k:aa P nt b Q ⟨look l,nJ,aJ+nt+1,low,td⟩):aa P nt (.seq (.region yZ rs) b) Q ⟨tm,ob,aJ,low,td⟩:=
 aa.seq (aa.regTo aC hm l nJ h k)
def aa.cz(aC:ay P Γ)(hm:P.follows .mixedOrders=true){b:DC}(l:fA)
  (h:fc Γ aJ rs ⟨tm,ob,td⟩ λs=>gn s.tmps l/\s.ab=ob/\s.todo=td) (k:aa P nt b Q ⟨look l,ob,aJ+nt+1,low,td⟩):aa P nt (.seq (.region yZ rs) b) Q ⟨tm,ob,aJ,low,td⟩:=
 aa.Yy aC hm l ob h k
def aa.to{d:DC}{st:l8}(st2:l8)(h:aa P nt d (λe s=>e=.normal/\Le s st2) st)(k:Q .normal st2):aa P nt d Q st:=
 aa.yf h λe s ⟨h1,h2⟩=>by subst h1;exact⟨st2,h2,k⟩
end
section
variable{P:Program}{nt:Nat}{d:DC}{Q:Exit->l8->Prop}{low aJ ba:Nat}
def aa.lk{tm:dw}{o0 o:cV}{l:fA}{td:List (aK)}(h:uD low o0/\oH ba o/\uC (cM o0) (cM o) id o/\fR (cM o0) (cM o) id tm l)(k:aa P nt d Q ⟨look l,cM o,ba,low,td⟩):aa P nt d Q ⟨tm,cM o0,aJ,low,td⟩:=aa.le (Le.bi h.1 h.2.1 h.2.2.1 h.2.2.2) k
def aa.c0{st:l8}{x:bQ}{a b:DC}(h:x.ev st.tmps=.v (.bool false))(k:aa P nt b Q st):aa P nt (.cond x a b) Q st:=aa.cond h (λg=>by cases g) λ_=>k
def aa.c1{st:l8}{x:bQ}{a b:DC}(h:x.ev st.tmps=.v (.bool true))(k:aa P nt a Q st):aa P nt (.cond x a b) Q st:=aa.cond h (λ_=>k) λg=>by cases g
end
attribute [simp] gn
end
section
variable{args:bB}{ab:bq}
variable [bI] [dL]
section
variable{P:Program}{nt:Nat}{Γ:pI}{Q:Exit->l8->Prop}{tm:dw}{ob:bq}{aJ low:Nat}{td:List (aK)}
def aa.Ij(aC:ay P Γ)(hm:P.follows .mixedOrders=true){yZ:Bool}{rs:ai}(l:fA)
  (h:fc Γ aJ rs ⟨tm,ob,td⟩ λs=>gn s.tmps l/\s.ab=ob/\s.todo=td) (k:Q .normal ⟨look l,ob,aJ+nt+1,low,td⟩):aa P nt (.region yZ rs) Q ⟨tm,ob,aJ,low,td⟩:=
 aa.regTo aC hm l ob h k
end
def ew(f:bq)(r:Nat)(o:Ob):bq:=λk=>if k=r then some o else f k
def OA(f:bq)(r:Nat)(o:Ob)(k:Nat):ew f r o k=if k=r then some o else f k:=rfl
@[simp] def putO_setO(f:bq)(r:Nat)(o o':Ob):cG (ew f r o) (some (r,o'))=ew f r o':=by
 funext k;simp only[GM,ew];split<;>rfl
@[simp] def setO_setO(f:bq)(r:Nat)(o o':Ob):ew (ew f r o) r o'=ew f r o':=by
 funext k;simp only[ew];split<;>rfl
def vq{f:bq}{r:Nat}{o o':Ob}(h:f r=some o){k:Nat}(hk:f k=none):ew f r o' k=none:=by
 simp only[ew];split
 ·rename_i e;rw[e,h]at hk;cases hk
 ·exact hk
def Le.same{tm:dw}{ob:bq}{aJ ba low:Nat}{td:List (aK)}{l:fA}(h:∀r,ba<=r->ob r=none)(hl:gn tm l):Le ⟨tm,ob,aJ,low,td⟩ ⟨look l,ob,ba,low,td⟩:=
 Le.trans (Le.we (D0 hl)) λκ nt a w L r=>⟨L,⟨r.r,h,r.low,r.it⟩⟩
def D1:∀(ds:bB) (i k:Nat),look ((ds.zipIdx i).map λp=>(p.2,p.1)) k=.undef\/look ((ds.zipIdx i).map λp=>(p.2,p.1)) k=Cc (if i<=k then ds[k-i]? else none)
 |[],i,k=>.inl rfl
 |t::ts,i,k=>by
  simp only[ZaA,ZcI,vi];split
  ·rename_i h;subst h;exact .inr (by simp[Cc])
  ·rename_i h;rcases D1 ts (i+1) k with e|e
   ·exact .inl e
   ·right;rw[e];by_cases hk:i+1<=k
    ·rw[Zai hk,Zai (by omega),show k-i=(k-(i+1))+1 by omega,Zbb]
    ·have:¬i<=k:=by omega
     rw[Zab hk,Zab this]
def Al{P:Program}{nt:Nat}{d:DC}{Q:Exit->l8->Prop}{N:Nat}(h:aa P nt d Q ⟨look (args.zipIdx.map λp=>(p.2,p.1)),ab,N,N,[]⟩):aa P nt d Q (wd args ab N):=by
 refine aa.le (Le.we (st:=wd args ab N) (tm:=look (args.zipIdx.map λp=>(p.2,p.1))) λk=>?_) h;have:=D1 args 0 k;simpa [wd]using this
@[simp] def Yz(ob:bq):∀x:aK,ji ob (x.map .v)=x
 |[]=>rfl
 |t::x=>by simp[Yz ob x]
@[simp] def setO_get(f:bq)(r:Nat)(o:Ob):ew f r o r=some o:=by simp[ew]
def aR.of{P:Program}{f:FuncId}{r r':fI}(h:aR P f args ab r)(h1:r'.ab=r.ab)(h2:r'.val=r.val):aR P f args ab r':=by
 obtain⟨ok,val,ob⟩:=r;obtain⟨ok',val',nJ⟩:=r';simp only at h1 h2;subst h1 h2;exact⟨h.entry,h.run⟩
end
section
variable{f ob:bq}{o':Ob}{r sz aJ low:Nat}{tm:dw}{td:List (aK)}{σ:Nat->Nat}
variable [bI] [dL]
def Loc.at(L:Loc)(q:Nat)(x:Value):Loc:=⟨L.I1,λk=>if k=q then x else L.sl k,L.yl⟩
section
variable{base:Nat}{W M:fo}{w0 w:World}{ab:bq}{L:Loc}
def fq{q:Nat}{o:Ob}(h:ew f q o r=some o'):(r=q/\o'=o)\/(r≠q/\f r=some o'):=by
 simp only[ew]at h;split at h
 ·rename_i e;exact .inl ⟨e,(ZbU h).symm⟩
 ·rename_i e;exact .inr ⟨e,h⟩
def mS{q:Nat}{o:Ob}(h:r≠q)(k:f r=some o'):ew f q o r=some o':=by
 simp only[ew,Zab h,k]
def Ik{q:Nat}{x:Value}{o:Ob}(h:r≠q):(L.at q x).own r o=L.own r o:=by
 cases o<;>simp[Loc.own,Loc.at,h]
def Cw{q:Nat}{a:Option Addr}{v e:Nat}{av:List (aK)}:(L.at q (.slice a 0 0)).own q (.dT v e sz av)=none:=by
 cases a<;>simp[Loc.own,Loc.at,aX]
def YA{q:Nat}{a:Option Addr}{e:Nat}{b:Nat}(h:WW W (ew ab q (.dT 0 e sz [])) (L.at q (.slice a 0 0)) b):WW W ab L b:=by
 rcases h with h|⟨r,o,hr,hb⟩
 ·exact .inl h
 ·rcases fq hr with⟨rfl,rfl⟩|⟨bT,hr⟩
  ·rw[Cw]at hb;cases hb
  ·rw[Ik bT]at hb;exact .inr ⟨r,o,hr,hb⟩
def Il{q:Nat}{a:Option Addr}{e:Nat}(hq:ab q=none):gP W ab L w (ew ab q (.dT 0 e sz [])) (L.at q (.slice a 0 0)) w:=by
 refine⟨dg.refl _ _,λb _ h=>YA h,λr o hr hk=>?_,λr bD e' iG av hr=>?_,rfl⟩
 ·have bT:r≠q:=λh=>by rw[h,hq]at hr;cases hr
  exact⟨rfl,o,mS bT hr,rfl⟩
 ·have bT:r≠q:=λh=>by rw[h,hq]at hr;cases hr
  exact⟨bD,e',iG,av,mS bT hr,Zaf _,λ_=>⟨by simp[Loc.at,bT],rfl,rfl⟩⟩
def KT(hO:ct base W M w0 ab w L){q:Nat}{a:Option Addr}{e:Nat}(yi:0<sz)(hq:ab q=none):ct base W M w0 (ew ab q (.dT 0 e sz [])) w (L.at q (.slice a 0 0)):=by
 have hA:=Il (W:=W) (w:=w) (L:=L) (a:=a) (e:=e) (sz:=sz) hq;refine⟨hO.fr,λr o hr=>?_,λr r' o o' b bT h1 h2 hb=>?_,λr o b hr hb=>?_,hO.under,hO.gl.bi hA.dx.toKeepsC hA.sub⟩
 ·rcases fq hr with⟨rfl,rfl⟩|⟨bT,hr⟩
  ·refine⟨yi,λx hx=>(by cases hx),λg hg=>?_,.inl ⟨rfl,a,by simp[Loc.at]⟩⟩;exfalso;simp only[Loc.at,if_true]at hg;cases a<;>simp[aX]at hg
  ·have hk:=hO.ob r o hr;cases o with
   |box cs=>
    obtain⟨c,f,cR,gQ,hm⟩:=hk;exact⟨c,f,cR,aQ.eZ hA cs _ gQ,hm⟩
   |map cj agg c es=>
    obtain⟨dT,cR,gQ,q1,q2,q3,hm⟩:=hk;exact⟨dT,cR,bJ.eZ hA es _ gQ,q1,q2,q3,hm⟩
   |kc m s sn l=>
    obtain⟨cR,Ny,hm⟩:=hk;exact⟨cR,(hA.mp m Ny).2,hm⟩
   |dT bD e' iG av=>
    obtain⟨g1,g2,g3,g4⟩:=hk;have hs:(L.at q (.slice a 0 0)).sl r=L.sl r:=by simp[Loc.at,bT]
    refine⟨g1,g2,by rw[hs];exact g3, ?_⟩;rw[hs];rcases g4 with g4|⟨g,cap,pa,hv,hp,hh,k1,k2,k3,k4⟩
    ·exact .inl g4
    ·exact .inr ⟨g,cap,pa,hv,hp,hh,k1,k2,k3,du.bi (dg.refl (WW W ab L) w).toKeepsC (λb _ hb=>YA hb) _ _ k4⟩
 ·rcases fq h1 with⟨rfl,rfl⟩|⟨n1,h1⟩
  ·rw[Cw]at hb;cases hb
  ·rw[Ik n1]at hb;rcases fq h2 with⟨rfl,rfl⟩|⟨n2,h2⟩
   ·rw[Cw];exact λh=>by cases h
   ·rw[Ik n2];exact hO.apart r r' o o' b bT h1 h2 hb
 ·rcases fq hr with⟨rfl,rfl⟩|⟨n1,hr⟩
  ·rw[Cw]at hb;cases hb
  ·rw[Ik n1]at hb;exact hO.qQ r o b hr hb
end
def Le.vr{k:Nat}(e:Nat)(yi:0<sz)(hk:tm k=.aW):
  Le ⟨tm,ob,aJ,low,td⟩ ⟨cU tm (some k) (.bA aJ 0),ew ob aJ (.dT 0 e sz []),aJ+1,low,td⟩:=by
 intro κ nt a w L h;have hq:ob aJ=none:=h.fresh aJ (Zaf _);obtain⟨W,base,M,w0,dP,h0⟩:=h.r.ex;have hx:=h0.tmps k;simp only[hk,aA]at hx;obtain⟨ad,hx⟩:=hx;have hA:=Il (W:=W) (w:=w) (L:=L) (a:=ad) (e:=e) (sz:=sz) hq;have wJ:=dP.sub;have xK:∀r,aJ+1<=r->ew ob aJ (.dT 0 e sz []) r=none:=λr hr=>by
  simp only[ew];rw[Zab (by omega)];exact h.fresh r (by simp only;omega)
 refine⟨L.at aJ (.slice ad 0 0),⟨⟨W,base,M,w0,dP,h0.size,λt=>?_,KT h0.o yi hq⟩,gP.comp h.r.eZ hA (dP.H3 _) wJ.2,h.r.defers,h.r.bg,⟨_,xK⟩⟩,xK,h.low,h.it⟩;simp only[cU];by_cases ht:t=k
 ·subst ht;simp only[if_true,aA];refine⟨⟨ad,0,0,hx⟩,0,e,sz,[],by simp,Zaf _,λ_=>?_⟩;rw[hx];simp[Loc.at]
 ·simp only[ht,if_false];exact aA.eZ hA _ _ (h0.tmps t)
def Am{w:World}{W:fo}{ab:bq}{L:Loc}:∀(cs:bB) (xs:List Value) (k:Nat) (d:DV),aQ w W ab L cs xs->(∀x,xs[k]? =some x->aA w W ab L d x)->aQ w W ab L (cs.set k d) xs
 |[],xs,k,d,h,_=>by simpa using h
 |c::cs,xs,0,d,h,hd=>by
  simp only[aQ]at h;obtain⟨x,lz,rfl,h1,h2,h3⟩:=h;simp only[ZbR,aQ];exact⟨x,lz,rfl,h1,hd x (by simp),h3⟩
 |c::cs,xs,k+1,d,h,hd=>by
  simp only[aQ]at h;obtain⟨x,lz,rfl,h1,h2,h3⟩:=h;simp only[Zb2,aQ];exact⟨x,lz,rfl,h1,h2,Am cs lz k d h3 λy hy=>hd y (by simpa using hy)⟩
def An{w:World}{W:fo}{ab:bq}{L:Loc}:∀(cs:bB) (xs:List Value) (k:Nat) (d:DV) (x:Value),aQ w W ab L cs xs->cs[k]? =some d->xs[k]? =some x->aA w W ab L d x
 |[],xs,k,d,x,h,hk,_=>by simp at hk
 |c::cs,xs,0,d,x,h,hk,hx=>by
  simp only[aQ]at h;obtain⟨y,lz,rfl,h1,h2,h3⟩:=h;simp only[ZaF,Zaa]at hk hx;subst hk hx;exact h2
 |c::cs,xs,k+1,d,x,h,hk,hx=>by
  simp only[aQ]at h;obtain⟨y,lz,rfl,h1,h2,h3⟩:=h;simp only[Zbb]at hk hx;exact An cs lz k d x h3 hk hx
def wP{w:World}{W:fo}{ab:bq}{L:Loc}:∀(cs:bB) (xs:List Value) (k:Nat) (d:DV),aQ w W ab L cs xs->cs[k]? =some d->∃x,xs[k]? =some x
 |[],xs,k,d,h,hk=>by simp at hk
 |c::cs,xs,0,d,h,hk=>by
  simp only[aQ]at h;obtain⟨y,lz,rfl,h1,h2,h3⟩:=h;exact⟨y,by simp⟩
 |c::cs,xs,k+1,d,h,hk=>by
  simp only[aQ]at h;obtain⟨y,lz,rfl,h1,h2,h3⟩:=h;simp only[Zbb]at hk;obtain⟨x,hx⟩:=wP cs lz k d h3 hk;exact⟨x,by simpa using hx⟩
def Le.Cx(r:Nat)(k:Nat){cs:bB}(e:Nat)(yi:0<sz)(hr:ob r=some (.box cs))(hk:cs[k]? =some .aW):
  Le ⟨tm,ob,aJ,low,td⟩ ⟨tm,ew (ew ob aJ (.dT 0 e sz [])) r (.box (cs.set k (.bA aJ 0))),aJ+1,low,td⟩:=by
 intro κ nt a w L h;have hq:ob aJ=none:=h.fresh aJ (Zaf _);have hrq:r≠aJ:=λe=>by rw[e,hq]at hr;cases hr
 have hrlt:r<aJ:=ZbK λjy=>by have:=h.fresh r jy;simp only at this;rw[this]at hr;cases hr
 obtain⟨W,base,M,w0,dP,h0⟩:=h.r.ex;have hO:=h0.o;obtain⟨c,f,cR,gQ,hm⟩:=hO.ob r _ hr;obtain⟨x,hx⟩:=wP _ _ _ _ gQ hk;have Ga:=An _ _ _ _ _ gQ hk hx;simp only[aA]at Ga;obtain⟨ad,hxa⟩:=Ga;have hA:=Il (W:=W) (w:=w) (L:=L) (a:=ad) (e:=e) (sz:=sz) hq;have wi:=KT (a:=ad) (e:=e) hO yi hq;obtain⟨o1,KU⟩:=bb (ew ob aJ (.dT 0 e sz []));obtain⟨L1,VR⟩:=bb (L.at aJ (.slice ad 0 0));have sg:o1 r=some (.box cs):=by rw[<-KU];exact mS hrq hr
 rw[KU,VR]at hA wi;have Co:∀{V:fo} b,WW V (ew o1 r (.box (cs.set k (.bA aJ 0)))) L1 b->WW V o1 L1 b:=by
  intro V b hb;rcases hb with hb|⟨r',o,gD,hb⟩
  ·exact .inl hb
  ·rcases fq gD with⟨rfl,rfl⟩|⟨_,gD⟩
   ·exact .inr ⟨r',_,sg,hb⟩
   ·exact .inr ⟨r',o,gD,hb⟩
 have tC:gP W o1 L1 w (ew o1 r (.box (cs.set k (.bA aJ 0)))) L1 w:=by
  refine⟨dg.refl _ _,λb _ h=>Co b h,λr' o' gD tU=>?_,λr' bD e' iG av gD=>?_,rfl⟩
  ·by_cases he:r'=r
   ·subst he;rw[sg]at gD;cases gD;exact⟨rfl,.box (cs.set k (.bA aJ 0)),by simp[ew],rfl⟩
   ·exact⟨rfl,o',mS he gD,rfl⟩
  ·have he:r'≠r:=λhe=>by rw[he,sg]at gD;cases gD
   exact⟨bD,e',iG,av,mS he gD,Zaf _,λ_=>⟨rfl,rfl,rfl⟩⟩
 have NE:ct base W M w0 (ew o1 r (.box (cs.set k (.bA aJ 0)))) w L1:=by
  refine⟨wi.fr,λr' o gD=>?_,λp p' o o' b bT h1 h2 hb=>?_,λp o b hp hb=>?_,wi.under,wi.gl.bi tC.dx.toKeepsC tC.sub⟩
  ·rcases fq gD with⟨rfl,rfl⟩|⟨bT,gD⟩
   ·refine⟨c,f,by rw[<-VR];exact cR,Am _ _ _ _ (aQ.eZ tC _ _ (aQ.eZ hA _ _ gQ)) λy hy=>?_,by rw[<-VR];exact hm⟩;rw[hx]at hy;cases hy;simp only[aA];refine⟨⟨ad,0,0,hxa⟩,0,e,sz,[],mS (Ne.symm hrq) (by rw[<-KU];simp),Zaf _,λ_=>?_⟩;rw[hxa,<-VR];simp[Loc.at]
   ·have tU:=wi.ob r' o gD;cases o with
    |box iz=>
     obtain⟨c',f',D3,D4,HP⟩:=tU;exact⟨c',f',D3,aQ.eZ tC iz _ D4,HP⟩
    |map cj agg c es=>
     obtain⟨dT,D3,D4,q1,q2,q3,HP⟩:=tU;exact⟨dT,D3,bJ.eZ tC es _ D4,q1,q2,q3,HP⟩
    |kc m s sn l=>
     obtain⟨D3,Ny,HP⟩:=tU;exact⟨D3,(tC.mp m Ny).2,HP⟩
    |dT bD e' iG av=>
     obtain⟨g1,g2,g3,g4⟩:=tU;refine⟨g1,g2,g3, ?_⟩;rcases g4 with g4|⟨g,cap,pa,hv,hp,hh,k1,k2,k3,k4⟩
     ·exact .inl g4
     ·exact .inr ⟨g,cap,pa,hv,hp,hh,k1,k2,k3,du.bi (dg.refl (WW W o1 L1) w).toKeepsC (λb _ hb=>Co b hb) _ _ k4⟩
  ·have key:∀{p o},ew o1 r (.box (cs.set k (.bA aJ 0))) p=some o->∃o2,o1 p=some o2/\L1.own p o=L1.own p o2:=by
    intro p o hp;rcases fq hp with⟨rfl,rfl⟩|⟨_,hp⟩
    ·exact⟨_,sg,rfl⟩
    ·exact⟨o,hp,rfl⟩
   obtain⟨x1,y1,z1⟩:=key h1;obtain⟨x2,y2,z2⟩:=key h2;rw[z1]at hb;rw[z2];exact wi.apart p p' x1 x2 b bT y1 y2 hb
  ·rcases fq hp with⟨rfl,rfl⟩|⟨_,hp⟩
   ·exact wi.qQ p _ b sg hb
   ·exact wi.qQ p o b hp hb
 have wJ:=dP.sub;have xK:∀r',aJ+1<=r'->ew o1 r (.box (cs.set k (.bA aJ 0))) r'=none:=λr' gD=>by
  rw[<-KU];simp only[ew];rw[Zab (by omega),Zab (by omega)];exact h.fresh r' (by simp only;omega)
 rw[KU];exact⟨L1,⟨⟨W,base,M,w0,dP,h0.size,λt=>aA.eZ tC _ _ (aA.eZ hA _ _ (h0.tmps t)),NE⟩,gP.comp (gP.comp h.r.eZ hA (dP.H3 _) wJ.2) tC (dP.H3 _) wJ.2,h.r.defers,h.r.bg,⟨_,xK⟩⟩,xK,h.low,h.it⟩
@[simp] def Im:look []=λ_=>DV.undef:=by funext k;rfl
def KV:Option Ob->Option Ob->Prop
 |some a,some b=>jt a b
 |_,_=>False
def QN(low:Nat)(o0 o:bq):cV->Prop
 |[]=>True
 |(r,_)::l=>(r<low->KV (o0 r) (o r))/\QN low o0 o l
attribute [simp] QN KV jt
@[simp] def gone_cons{j:Nat}{o:Ob}{l:cV}:gone (cM ((j,o)::l)) σ r↔σ j≠r/\gone (cM l) σ r:=by
 refine⟨λh=>⟨h j (by simp),λr' gD=>h r' (by simp only[cS];split<;>simp[gD])⟩,λh=>Yx h.1 h.2⟩
@[simp] def gone_nil:gone (cM []) σ r:=λr' h=>Zar rfl h
end
section
variable{r:Nat}{f:bq}{d:DC}
variable [bI] [dL]
def aM:cV->bq->bq
 |[],f=>f
 |(r,o)::l,f=>λk=>if k=r then some o else aM l f k
@[simp] def aP(r:Nat)(o:Ob)(l:cV)(f:bq)(k:Nat):aM ((r,o)::l) f k=if k=r then some o else aM l f k:=rfl
@[simp] def cm(f:bq)(k:Nat):aM [] f k=f k:=rfl
@[simp] def VU(l:cV)(f:bq)(r:Nat)(o:Ob):cG (aM l f) (some (r,o))=aM ((r,o)::l) f:=rfl
def jT(l:cV)(f:bq)(r:Nat)(o:Ob):ew (aM l f) r o=aM ((r,o)::l) f:=rfl
def aZ:Ob->cO
 |.box cs=>bM cs
 |.dT _ _ _ _=>[]
 |.map _ _ _ es=>es.flatMap λe=>aN e.2.2
 |.kc m _ _ _=>[m]
def dh(f:bq)(n:Nat):Prop:=∀r o,f r=some o->r<n/\∀m∈aZ o,f m≠none
section
variable{base:Nat}{W M:fo}{w0 w:World}{ab aI:bq}{L:Loc}
def Au(hO:ct base W M w0 ab w L){N:Nat}(hN:∀r,N<=r->ab r=none):dh ab N:=by
 intro r o hr;refine⟨ZbK (λh=>by rw[hN r h]at hr;cases hr),λm hm=>?_⟩;have gH:=hO.ob r o hr;cases o with
 |box cs=>obtain⟨c,e,_,h,_⟩:=gH;exact fZ.aN cs (fZ.bP cs _ h) m hm
 |dT _ _ _ _=>cases hm
 |kc m' _ _ _=>
  obtain⟨_,⟨_,_,_,_,h⟩,_⟩:=gH;simp only[aZ,Zan]at hm;subst hm;simp[h]
 |map cj agg c es=>
  obtain⟨dT,_,h,_⟩:=gH;simp only[aZ,ZaV]at hm;obtain⟨e,he,hm⟩:=hm;obtain⟨i,hi⟩:=ZbY he;obtain⟨x,_,_,_,hv⟩:=bJ.get h hi;exact fg.aN _ (fg.bP _ _ hv) m hm
def sameAt(ab aI:bq)(m:Nat):Prop:=∃o o',ab m=some o/\aI m=some o'/\jt o o'
def KY(Co:∀b,WW W aI L b->WW W ab L b):
  ∀n,(∀(d:DV) (x:Value),SizeOf.sizeOf d<n->(∀m∈aN d,sameAt ab aI m)->aA w W ab L d x->aA w W aI L d x)/\
   (∀(ds:bB) (xs:List Value),SizeOf.sizeOf ds<n->(∀m∈bM ds,sameAt ab aI m)->aQ w W ab L ds xs->aQ w W aI L ds xs)/\
   (∀(ds:bB) (xs:List Value),SizeOf.sizeOf ds<n->(∀m∈bM ds,sameAt ab aI m)->eE w W ab L ds xs->eE w W aI L ds xs):=by
 have B8:=(dg.refl (WW W ab L) w).toKeepsC;have wJ:∀b,b<w.heap.size->WW W aI L b->WW W ab L b:=λb _ h=>Co b h;intro n;induction n with
 |zero=>exact⟨λ_ _ h=>by omega,λ_ _ h=>by omega,λ_ _ h=>by omega⟩
 |succ n ih=>
  refine⟨λd x hn hm hr=>?_,λds xs hn hm hr=>?_,λds xs hn hm hr=>?_⟩
  ·cases d with
   |undef=>simp[aA]
   |skip=>simpa only[aA]using hr
   |NV=>simpa only[aA]using hr
   |aW=>simpa only[aA]using hr
   |v t=>simp only[aA]at hr⊢;exact bj.bi B8 wJ t x hr
   |l7 av i off=>
    simp only[aA]at hr⊢;obtain⟨b,o,sz,hx,hb,VE,B7,h1,h2⟩:=hr;exact⟨b,o,sz,hx,hb,λk=>VE (Co b k),bw.bi B8 wJ hb VE sz o av B7,h1,h2⟩
   |iD cs off=>
    simp only[aA]at hr⊢;obtain⟨b,o,hx,hb,VE,B7⟩:=hr;exact⟨b,o,hx,hb,λk=>VE (Co b k),ed.bi B8 wJ hb VE o cs B7⟩
   |ptr r off=>
    obtain⟨o,o',h1,h2,h3⟩:=hm r (by simp[aN]);simp only[aA]at hr⊢;obtain⟨⟨cs,hc⟩,hx⟩:=hr;rw[h1]at hc;cases hc;cases o' with
    |box iz=>exact⟨⟨iz,h2⟩,hx⟩
    |_=>exact h3.elim
   |iE r=>
    obtain⟨o,o',h1,h2,h3⟩:=hm r (by simp[aN]);simp only[aA]at hr⊢;obtain⟨⟨_,_,_,_,hc⟩,hx⟩:=hr;rw[h1]at hc;cases hc;cases o' with
    |map a b c d=>exact⟨⟨a,b,c,d,h2⟩,hx⟩
    |_=>exact h3.elim
   |kc r=>
    obtain⟨o,o',h1,h2,h3⟩:=hm r (by simp[aN]);simp only[aA]at hr⊢;obtain⟨⟨_,_,_,_,hc⟩,hx⟩:=hr;rw[h1]at hc;cases hc;cases o' with
    |kc a b c d=>exact⟨⟨a,b,c,d,h2⟩,hx⟩
    |_=>exact h3.elim
   |bA r bD=>
    obtain⟨o,o',h1,h2,h3⟩:=hm r (by simp[aN]);simp only[aA]at hr⊢;obtain⟨Kl,cg,e,sz,av,hc,jy,hx⟩:=hr;rw[h1]at hc;cases hc;cases o' with
    |dT v2 e2 s2 r2=>obtain⟨rfl,rfl,h5⟩:=h3;exact⟨Kl,_,_,_,_,h2,jy,hx⟩
    |_=>exact h3.elim
   |ka r bD i off=>
    obtain⟨o,o',h1,h2,h3⟩:=hm r (by simp[aN]);simp only[aA]at hr⊢;obtain⟨Kl,cg,e,sz,av,hc,jy,hx⟩:=hr;rw[h1]at hc;cases hc;cases o' with
    |dT v2 e2 s2 r2=>
     obtain⟨rfl,rfl,h5⟩:=h3;exact⟨Kl,_,_,_,_,h2,jy,λhv=>by obtain⟨g,k1,k2,k3,k4⟩:=hx hv;exact⟨g,k1,k2,k3,by rw[<-h5];exact k4⟩⟩
    |_=>exact h3.elim
   |F9 r m=>
    obtain⟨o,o',h1,h2,h3⟩:=hm r (by simp[aN]);simp only[aA]at hr⊢;obtain⟨⟨cs,hc⟩,hx⟩:=hr;rw[h1]at hc;cases hc;cases o' with
    |box iz=>exact⟨⟨iz,h2⟩,hx⟩
    |_=>exact h3.elim
   |u9 r bD lo m=>
    obtain⟨o,o',h1,h2,h3⟩:=hm r (by simp[aN]);simp only[aA]at hr⊢;obtain⟨Kl,cg,e,sz,av,hc,jy,hx⟩:=hr;rw[h1]at hc;cases hc;cases o' with
    |dT v2 e2 s2 r2=>
     obtain⟨rfl,rfl,h5⟩:=h3;exact⟨Kl,_,_,_,_,h2,jy,λhv=>by
      obtain⟨k0,p,cap,p2,k1,k2,k3⟩:=hx hv;exact⟨by rw[<-h5];exact k0,p,cap,p2,by rw[<-h5];exact k1,k2,k3⟩⟩
    |_=>exact h3.elim
   |agg ds=>
    simp only[aA]at hr⊢;obtain⟨vs,hv,hr⟩:=hr;exact⟨vs,hv,ih.2.1 ds _ (by simp at hn⊢;omega) (λm h=>hm m (by simpa only[aN]using h)) hr⟩
   |nG f ds=>
    simp only[aA]at hr⊢;obtain⟨vs,hv,hr⟩:=hr;exact⟨vs,hv,ih.2.1 ds _ (by simp at hn⊢;omega) (λm h=>hm m (by simpa only[aN]using h)) hr⟩
   |eo ds=>
    simp only[aA]at hr⊢;obtain⟨vs,hv,hr⟩:=hr;exact⟨vs,hv,ih.2.2 ds _ (by simp at hn⊢;omega) (λm h=>hm m (by simpa only[aN]using h)) hr⟩
  ·cases ds with
   |nil=>simpa only[aQ]using hr
   |cons d ds=>
    simp only[aQ]at hr⊢;obtain⟨y,ys,hv,h1,h2,h3⟩:=hr;exact⟨y,ys,hv,h1,ih.1 d y (by simp at hn⊢;omega) (λm h=>hm m (by simp[bM,h])) h2,ih.2.1 ds ys (by simp at hn⊢;omega) (λm h=>hm m (by simp[bM,h])) h3⟩
  ·cases ds with
   |nil=>simpa only[eE]using hr
   |cons d ds=>
    simp only[eE]at hr⊢;obtain⟨y,ys,hv,h2,h3⟩:=hr;exact⟨y,ys,hv,ih.1 d y (by simp at hn⊢;omega) (λm h=>hm m (by simp[bM,h])) h2,ih.2.2 ds ys (by simp at hn⊢;omega) (λm h=>hm m (by simp[bM,h])) h3⟩
def ob_same(Co:∀b,WW W aI L b->WW W ab L b){o:Ob}(hm:∀m∈aZ o,sameAt ab aI m)(h:pL w W ab L base M r o):pL w W aI L base M r o:=by
 cases o with
 |box cs=>obtain⟨c,e,hc,hr,z7⟩:=h;exact⟨c,e,hc,(KY Co (SizeOf.sizeOf cs+1)).2.1 cs _ (by omega) hm hr,z7⟩
 |dT bD e sz av=>
  obtain⟨g1,g2,g3,g4⟩:=h;refine⟨g1,g2,g3, ?_⟩;rcases g4 with g4|⟨g,cap,pa,hv,hp,hh,k1,k2,k3,k4⟩
  ·exact .inl g4
  ·exact .inr ⟨g,cap,pa,hv,hp,hh,k1,k2,k3,du.bi (dg.refl (WW W ab L) w).toKeepsC (λb _ hb=>Co b hb) _ _ k4⟩
 |map cj agg c es=>
  obtain⟨dT,hc,hr,k1,k2,k3,z7⟩:=h;refine⟨dT,hc, ?_,k1,k2,k3,z7⟩;have key:∀(es:List (Nat×T×DV)) (xs:List MapEntry),(∀m∈es.flatMap (λe=>aN e.2.2),sameAt ab aI m)->bJ w W ab L es xs->bJ w W aI L es xs:=by
   intro es;induction es with
   |nil=>intro xs _ h;simpa only[bJ]using h
   |cons e es ih=>
    intro xs hm h;simp only[bJ]at h⊢;obtain⟨x,lz,hx,h1,h2,h3,h4⟩:=h;exact⟨x,lz,hx,h1,bj.bi (dg.refl (WW W ab L) w).toKeepsC (λb _ hb=>Co b hb) _ _ h2,
     (KY Co (SizeOf.sizeOf e.2.2+1)).1 _ _ (by omega) (λm h=>hm m (by simp[h])) h3,ih lz (λm h=>hm m (by simp only[Zbt,Zaq];exact .inr h)) h4⟩
  exact key es _ hm hr
 |kc m s sn l=>
  obtain⟨hc,⟨a1,a2,a3,a4,Ny⟩,z7⟩:=h;obtain⟨o,o',h1,h2,h3⟩:=hm m (by simp[aZ]);rw[Ny]at h1;cases h1;cases o' with
  |map b1 b2 b3 b4=>exact⟨hc,⟨b1,b2,b3,b4,h2⟩,z7⟩
  |_=>exact h3.elim
end
def eA(ab aI:bq)(o o':Ob):Prop:=nS ab aI id o o'\/(o=o'/\∀m∈aZ o,sameAt ab aI m)
def yH{ab aI:bq}{L:Loc}{o o':Ob}(h:eA ab aI o o')(r:Nat):L.own r o'=L.own r o:=by
 rcases h with h|⟨rfl,_⟩
 ·exact vn (L:=L) h r
 ·rfl
def Le.YG{st dm:l8}(Dw:dm.low=st.low)(KQ:dm.todo=st.todo)(DY:∀r,dm.aJ<=r->dm.ab r=none)
  (gH:∀r o',dm.ab r=some o'->∃o,st.ab r=some o/\eA st.ab dm.ab o o')
  (BA:∀r,r<st.low->∀o,st.ab r=some o->∃o',dm.ab r=some o'/\jt o o')
  (ik:∀k,iL st.ab dm.ab id (st.tmps k) (dm.tmps k)):Le st dm:=by
 intro κ nt a w L h;have tD:∀r' o',dm.ab r'=some o'->∃o,st.ab (id r')=some o/\∀r,(L.DW id).own r o'=L.own (id r) o:=λr' o' h=>let⟨o,h1,h2⟩:=gH r' o' h;⟨o,h1,yH (L:=L) h2⟩
 refine⟨L,⟨?_, ?_,h.r.defers,h.r.bg,⟨_,DY⟩⟩,DY,by rw[Dw];exact h.low,by rw[Dw];exact h.it⟩
 ·obtain⟨W,base,M,w0,dP,h0⟩:=h.r.ex;have hO:=h0.o;have Co:∀b,WW W dm.ab L b->WW W st.ab L b:=λb hb=>lN (L:=L) (σ:=id) tD b hb;have cr:=λ(d d':DV) (x:Value)=>(Cu hO tD (SizeOf.sizeOf d+1)).1 d d' x (by omega);have crs:=λ(ds ag:bB) (xs:List Value)=>(Cu hO tD (SizeOf.sizeOf ds+1)).2.1 ds ag xs (by omega);refine⟨W,base,M,w0,by rw[KQ];exact dP,h0.size,λt=>cr _ _ _ (ik t) (h0.tmps t),⟨hO.fr,λr' o' iA=>?_,λr1 r2 o1 o2 b bT h1 h2 tV fH=>?_,λr' o' b iA hb=>?_,hO.under,hO.gl.bi (dg.refl (WW W st.ab L) w).toKeepsC λb _ hb=>Co b hb⟩⟩
  ·obtain⟨o,ho,hc⟩:=gH r' o' iA;have hk:=hO.ob r' o ho;rcases hc with hc|⟨rfl,hc⟩
   ·cases o with
    |box cs=>
     cases o' with
     |box iz=>
      obtain⟨c,e,cR,hr,hm⟩:=hk;exact⟨c,e,cR,crs cs iz _ hc hr,hm⟩
     |_=>exact hc.elim
    |map cj agg c es=>
     cases o' with
     |map kq kr c' m0=>
      obtain⟨rfl,rfl,rfl,pP⟩:=hc;obtain⟨dT,cR,hr,k1,k2,k3,hm⟩:=hk;have key:∀(es m0:List (Nat×T×DV)) (xs:List MapEntry),jF st.ab dm.ab id es m0->bJ w W st.ab L es xs->bJ w W dm.ab L m0 xs/\m0.map (·.1)=es.map (·.1)/\m0.map (·.2.1)=es.map (·.2.1):=by
       intro es;induction es with
       |nil=>intro m0 xs h1 h2;simp only[jF]at h1;subst h1;exact⟨by simpa only[bJ]using h2,rfl,rfl⟩
       |cons e es ih=>
        intro m0 xs h1 h2;cases m0 with
        |nil=>simp[jF]at h1
        |cons e' m0=>
         simp only[jF]at h1;simp only[bJ]at h2⊢;obtain⟨x,lz,rfl,q0,q1,q2,q3⟩:=h2;obtain⟨i1,i2,i3⟩:=ih m0 lz h1.2.2.2 q3;refine⟨⟨x,lz,rfl,q0.trans h1.1, ?_,cr _ _ _ h1.2.2.1 q2,i1⟩,by simp[i2,h1.1],by simp[i3,h1.2.1]⟩;rw[<-h1.2.1];exact bj.bi (dg.refl (WW W st.ab L) w).toKeepsC (λb _ hb=>Co b hb) _ _ q1
      obtain⟨i1,i2,i3⟩:=key es m0 _ pP hr;refine⟨dT,cR,i1,λe he=>?_,λe he=>?_,by rw[i2];exact k3,hm⟩
      ·have:e.2.1∈es.map (·.2.1):=by rw[<-i3];exact Zak.2 ⟨e,he,rfl⟩
       obtain⟨e0,h0',Nz⟩:=Zak.1 this;rw[<-Nz];exact k1 e0 h0'
      ·have:e.1∈es.map (·.1):=by rw[<-i2];exact Zak.2 ⟨e,he,rfl⟩
       obtain⟨e0,h0',Nz⟩:=Zak.1 this;rw[<-Nz];exact k2 e0 h0'
     |_=>exact hc.elim
    |kc m s sn l=>
     cases o' with
     |kc m' s' sn' l'=>
      obtain⟨rfl,rfl,rfl,rfl,Ny⟩:=hc;obtain⟨cR,_,hm⟩:=hk;exact⟨cR,DU Ny,hm⟩
     |_=>exact hc.elim
    |dT bD e sz av=>
     cases o' with
     |box _=>exact hc.elim
     |map _ _ _ _=>exact hc.elim
     |kc _ _ _ _=>exact hc.elim
     |dT cg e' iG eN=>
      obtain⟨rfl,rfl,rfl⟩:=hc;obtain⟨g1,g2,g3,g4⟩:=hk;refine⟨g1,g2,g3, ?_⟩;rcases g4 with g4|⟨g,cap,pa,hv,hp,hh,k1,k2,k3,k4⟩
      ·exact .inl g4
      ·exact .inr ⟨g,cap,pa,hv,hp,hh,k1,k2,k3,du.bi (dg.refl (WW W st.ab L) w).toKeepsC (λb _ hb=>Co b hb) _ _ k4⟩
   ·exact ob_same Co hc hk
  ·obtain⟨p1,q1,c1⟩:=gH r1 o1 h1;obtain⟨p2,q2,c2⟩:=gH r2 o2 h2;rw[yH c1]at tV;rw[yH c2]at fH;exact hO.apart r1 r2 p1 p2 b bT q1 q2 tV fH
  ·obtain⟨p1,q1,c1⟩:=gH r' o' iA;rw[yH c1]at hb;exact hO.qQ r' p1 b q1 hb
 ·have ha:gP κ.W κ.go κ.gL (κ.NC st.todo) st.ab L w:=h.r.eZ;show gP κ.W κ.go κ.gL (κ.NC dm.todo) dm.ab _ w;rw[KQ];refine⟨ha.dx,λb hb hw=>ha.sub b hb (lN (L:=L) (σ:=id) tD b hw),λr o hr hk=>?_,λr bD e sz av hr=>?_,ha.yl⟩
  ·have ln:r<st.low:=ZbK λjy=>by rw[h.low r jy]at hr;cases hr
   obtain⟨e1,o1,sg,pJ⟩:=ha.fix r o hr hk;obtain⟨o',iA,hv⟩:=BA r ln _ sg;exact⟨e1,o',iA,(yq hv).trans pJ⟩
  ·have ln:r<st.low:=ZbK λjy=>by rw[h.low r jy]at hr;cases hr
   obtain⟨v1,e1,s1,r1,sg,l1,k1⟩:=ha.dT r bD e sz av hr;obtain⟨o',iA,hv⟩:=BA r ln _ sg;cases o' with
   |box iz=>exact hv.elim
   |map _ _ _ _=>exact hv.elim
   |kc _ _ _ _=>exact hv.elim
   |dT v2 e2 s2 r2=>
    obtain⟨rfl,rfl,h3⟩:=hv;exact⟨v1,e2,s1,r2,iA,l1,λhv=>by
     obtain⟨a1,a2,a3⟩:=k1 hv;exact⟨a1,a2,by rw[<-h3];exact a3⟩⟩
def be(o:Ob):jt o o:=by cases o<;>simp[jt]
def dN(low:Nat)(a b:bq):cV->Prop
 |[]=>True
 |(r,o)::l=>(∃o0,a r=some o0/\eA a b o0 o/\(r<low->jt o0 o))/\dN low a b l
def bK(low:Nat)(l1:cV):cV->Prop
 |[]=>True
 |(r,_)::l=>(r<low->∃o,(r,o)∈l1)/\bK low l1 l
def qX:∀{l:cV} {f:bq} {r:Nat} {o:Ob},aM l f r=some o->(r,o)∈l\/((∀o',(r,o')∉l)/\f r=some o)
 |[],_,_,_,h=>.inr ⟨λ_ h=>(by cases h),h⟩
 |(j,x)::l,f,r,o,h=>by
  simp only[aP]at h;split at h
  ·rename_i e;cases h;subst e;exact .inl (Zbl ..)
  ·rename_i bT;rcases qX h with h|⟨h1,h2⟩
   ·exact .inl (Zbg _ h)
   ·refine .inr ⟨λo' iA=>?_,h2⟩;rcases Zah.1 iA with e|iA
    ·cases e;exact bT rfl
    ·exact h1 o' iA
def fj{l:cV}(h:∀o',(r,o')∉l):aM l f r=f r:=by
 induction l with
 |nil=>rfl
 |cons p l ih=>
  obtain⟨j,x⟩:=p;rw[aP,Zab (λe=>h x (by rw[e];exact Zbl ..))];exact ih λo' iA=>h o' (Zbg _ iA)
def Cz{l:cV}{o:Ob}(h:(r,o)∈l):∃o',aM l f r=some o'/\(r,o')∈l:=by
 induction l with
 |nil=>cases h
 |cons p l ih=>
  obtain⟨j,x⟩:=p;by_cases e:r=j
  ·subst e;exact⟨x,by simp,Zbl ..⟩
  ·rcases Zah.1 h with h|h
   ·cases h;exact Zar rfl e
   ·obtain⟨o',h1,h2⟩:=ih h;exact⟨o',by rw[aP,Zab e];exact h1,Zbg _ h2⟩
def wR{low:Nat}{a b:bq}:∀{l:cV},dN low a b l->∀r o,(r,o)∈l->∃o0,a r=some o0/\eA a b o0 o/\(r<low->jt o0 o)
 |[],_,_,_,h=>by cases h
 |(j,x)::l,hk,r,o,h=>by
  rcases Zah.1 h with e|h
  ·cases e;exact hk.1
  ·exact wR hk.2 r o h
def sD{low:Nat}{l1:cV}:∀{l:cV},bK low l1 l->∀r o,(r,o)∈l->r<low->∃o,(r,o)∈l1
 |[],_,_,_,h=>by cases h
 |(j,x)::l,hk,r,o,h=>by
  rcases Zah.1 h with e|h
  ·cases e;exact hk.1
  ·exact sD hk.2 r o h
def Le.dV{tm:dw}{l0 l1:cV}{l:fA}{aJ ba:Nat}{td:List (aK)}{low:Nat}(hf:dh f low)(hn:low<=ba)(hb:oH ba l1)
  (h0:bK low l1 l0) (h1:dN low (aM l0 f) (aM l1 f) l1) (ik:fR (aM l0 f) (aM l1 f) id tm l):
  Le ⟨tm,aM l0 f,aJ,low,td⟩ ⟨look l,aM l1 f,ba,low,td⟩:=by
 have KZ:∀r,r<low->∀o,aM l0 f r=some o->∃o',aM l1 f r=some o'/\jt o o':=by
  intro r hr o ho;by_cases ic:∃o',(r,o')∈l1
  ·obtain⟨o1,KU⟩:=ic;obtain⟨o2,h2,h3⟩:=Cz (f:=f) KU;obtain⟨o0,k1,_,k3⟩:=wR h1 r o2 h3;rw[ho]at k1;cases k1;exact⟨o2,h2,k3 hr⟩
  ·have hnot:∀o',(r,o')∉l1:=λo' h=>ic ⟨o',h⟩;rcases qX ho with h|⟨_,h⟩
   ·exact Zar (sD h0 r o h hr) ic
   ·exact⟨o,by rw[fj hnot];exact h,be o⟩
 refine Le.YG rfl rfl (λr hr=>?_) (λr o' iA=>?_) (λr hr o ho=>KZ r hr o ho) (λk=>nk l ik k)
 ·cases ho:aM l1 f r with
  |none=>exact ho
  |some o=>
   rcases qX ho with h|⟨_,h⟩
   ·have:=qC hb r o h;simp only at hr;omega
   ·have:=(hf r o h).1;simp only at hr;omega
 ·rcases qX iA with h|⟨hnot,h⟩
  ·obtain⟨o0,k1,k2,_⟩:=wR h1 r o' h;exact⟨o0,k1,k2⟩
  ·obtain⟨ln,hnm⟩:=hf r o' h;have HQ:aM l0 f r=some o':=by
    by_cases ic:∃o1,(r,o1)∈l0
    ·obtain⟨o1,KU⟩:=ic;obtain⟨o2,h2⟩:=sD h0 r o1 KU ln;exact Zar h2 (hnot o2)
    ·rw[fj λo1 h1=>ic ⟨o1,h1⟩];exact h
   refine⟨o',HQ,.inr ⟨rfl,λm hm=>?_⟩⟩;have hm0:=hnm m hm;have hmlt:m<low:=by
    cases hfm:f m with
    |none=>exact Zar hfm hm0
    |some x=>exact(hf m x hfm).1
   have Dn:∃o,aM l0 f m=some o:=by
    by_cases ic:∃o1,(m,o1)∈l0
    ·obtain⟨o1,KU⟩:=ic;obtain⟨o2,h2,_⟩:=Cz (f:=f) KU;exact⟨o2,h2⟩
    ·rw[fj λo1 h1=>ic ⟨o1,h1⟩];exact ZbP.1 hm0
   obtain⟨o,ho⟩:=Dn;obtain⟨o2,h2,h3⟩:=KZ m hmlt o ho;exact⟨o,o2,ho,h2,h3⟩
section
variable{P:Program}
def aB.pQ{f:FuncId}{nt:Nat}{rs:List bV}(h:aB P f nt d rs){args:bB}{ab:bq}{r:fI}{N:Nat}(hN:∀r,N<=r->ab r=none)(dM:args.length<=nt)
  (k:dh ab N->aa P nt d (DK rs r) ⟨look (args.zipIdx.map λp=>(p.2,p.1)),aM [] ab,N,N,[]⟩):aR P f args ab r:=
 ⟨h.entry,λbase W M w0 w L cA hO B9=>(aB.okS h hN dM (Al (k (Au hO hN)))).run base W M w0 w L cA hO B9⟩
def yI{fn:Func}{t:Nat}{tmps:Array Value}{w:World}(hr:fn.results.toList.mapM (nQ P)=some [.da t]):(results fn tmps).run P w=.ok (tmps.getD t Go.undef) w:=by
 have h1:∃rv,fn.results.toList=[rv]/\nQ P rv=some (.da t):=by
  cases h:fn.results.toList with
  |nil=>rw[h]at hr;simp at hr
  |cons rv l=>
   rw[h]at hr;simp only[Za7,Zao,Zaj,Zad,Zaa,Za1]at hr;obtain⟨x,hx,ys,pM,rfl,rfl⟩:=hr;cases l with
   |nil=>exact⟨rv,rfl,hx⟩
   |cons y l=>simp[Zad]at pM
 obtain⟨rv,h1,h2⟩:=h1;have h3:fn.results= #[rv]:=by rw[<-Array.toArray_toList (xs:=fn.results),h1]
 cases rv with
 |tmp t'=>
  simp only[nQ,Zaa,bV.da.injEq]at h2;subst h2;have B7:(results fn tmps)=(do
   let vs<-fn.results.mapM (λrv=>((match rv with|.tmp t=>pure (tmps.getD t Go.undef)|.cell b t=>do loadVar t (<-asAddr (tmps.getD b Go.undef))):Sem Value))
   pure (if h:vs.size=1 then vs[0]else .tuple vs)):=rfl
  have hm:(fn.results.mapM (λrv=>((match rv with|.tmp t=>pure (tmps.getD t Go.undef)|.cell b t=>do loadVar t (<-asAddr (tmps.getD b Go.undef))):Sem Value))).run P w=.ok #[tmps.getD t' Go.undef] w:=by
   rw[Zcx,h1];simp
  rw[B7];simp only[Sem.run_bind,hm,Result.andThen_ok,Sem.run_pure];rfl
 |cell b t'=>
  simp only[nQ]at h2;split at h2<;>simp at h2
def finF(t e sz:Nat)(av:List (aK)):Exit->l8->Prop
 |.normal,st|.ret,st=>(st.tmps t=.aW/\av=[]/\0<sz)\/∃r bD,st.tmps t=.bA r bD/\st.ab r=some (.dT bD e sz av)
 |_,_=>False
def aB.okF{f:FuncId}{nt:Nat}{t:Nat}(h:aB P f nt d [.da t]){ts:aK}{e sz:Nat}{av:List (aK)}(dM:ts.length<=nt)(k:aa P nt d (finF t e sz av) (qy ts)):oW P f ts e sz av:=by
 have Aj:=h.entry;obtain⟨fn,dn,rfl,h3,hr,_⟩:=h;obtain⟨c,hb,hc⟩:=Zac.1 h3;refine⟨Aj,λW w cA hW hg gQ=>?_⟩;have hl:=fN.length gQ;simp only[Za3]at hl;have uB:Ie ⟨W,λ_=>none,⟨λ_=>0,λ_=>Go.undef,0⟩,w,w.heap.size,λ_=>False,w,none,none,none⟩ fn.ntmps (qy ts) {tmps:=cA++Array.replicate (fn.ntmps-cA.size) Go.undef,defers:=[]} w ⟨λ_=>0,λ_=>Go.undef,0⟩:=by
  refine⟨⟨⟨W,w.heap.size,λ_=>False,w,⟨λ_=>rfl,rfl,rfl,rfl,rfl⟩,by simp;omega,λk=>?_,⟨Fr.refl (Zaf _),(λr o h=>by cases h),(λr r' o o' b _ h=>by cases h),(λr o b h=>by cases h),hW,hg.start⟩⟩,
   gP.cQ (dg.refl _ _),⟨[],rfl,Zb0,(λ_ h=>by cases h),λ_=>rfl⟩,λ_=>Zaf _,⟨0,λ_ _=>rfl⟩⟩,λ_ _=>rfl,λ_ _=>rfl,λh=>by cases h⟩
  simp only[qy];cases hk:ts[k]? with
  |some x=>
   obtain⟨v,hv,mQ⟩:=fN.get gQ hk;simp only[pb hv,Om,aA];refine bj.bi (dg.refl W w).toKeepsC ?_ x v mQ;rintro b hb (h|⟨r,o,h,_⟩)
   ·exact h
   ·cases h
  |none=>
   have xL:cA.size<=k:=by
    have:=ZbE.1 hk;omega
   simp only[Om,aA,oG xL]
 refine callsIn_wide.1 (callsIn_of_wp_marks (n:=0) dn hb trivial ?_);refine wpIn_mono (k.run c hc 0 _ _ _ _ ⟨λJ hJ=>(by cases hJ),λl r s hY=>(by cases hY),λl hl=>(by cases hl)⟩ uB) ?_;rintro e' a' w' ⟨dm,L',q,r'⟩;have done:((dm.tmps t=.aW/\av=[]/\0<sz)\/∃r bD,dm.tmps t=.bA r bD/\dm.ab r=some (.dT bD e sz av))->LeavesInM Fence.wide 0 P fn a'.tmps (λe' w'=>∃v,e'=.returned v/\vO w.heap.size w w'/\Dr w.heap.size w' W e sz av v) a'.defers .returning w':=by
  intro hq;obtain⟨Ds,h1,h2,h3,_⟩:=r'.r.defers;rw[h1];refine uA (κ:=⟨W,λ_=>none,⟨λ_=>0,λ_=>Go.undef,0⟩,w,w.heap.size,λ_=>False,w,none,none,none⟩) rfl ?_ Ds a' w' L' r'.r h1 h2 h3;intro a2 w2 L2 h4;obtain⟨W',KL,M',w0',dP,h0⟩:=h4.ex;obtain⟨_,e1,e2,e3,e4⟩:=dP
  replace h0:R0 w.heap.size W (λ_=>False) w fn.ntmps dm.tmps dm.ab a2 w2 L2:=by rw[e1,e2,e3,e4]at h0;exact h0
  have fr:=h0.o.fr;refine⟨_,yI hr,_,rfl,⟨⟨fr.os,fr.tape,fr.output,fr.size,λk hk=>fr.block k hk (λx=>x)⟩,fr.drawn⟩, ?_⟩;have ht:=h0.tmps t;rcases hq with⟨hq,rfl,yi⟩|⟨r,bD,hq,ho⟩
  ·rw[hq]at ht;simp only[aA]at ht;exact⟨yi,λ_ h=>(by cases h),.inl ⟨rfl,ht⟩⟩
  ·rw[hq]at ht;simp only[aA]at ht;obtain⟨_,cg,e',iG,eN,iA,_,hx⟩:=ht;rw[ho]at iA;cases iA;have hx:=hx rfl;obtain⟨g1,g2,g3,g4⟩:=h0.o.ob r _ ho;refine⟨g1,g2, ?_⟩;rcases g4 with⟨h5,a,h6⟩|⟨g,cap,pa,hv,hp,hh,k1,k2,k3,k4⟩
   ·exact .inl ⟨h5,a,hx.trans h6⟩
   ·have zO:aX (L2.sl r)=some g:=by rw[hv];simp[aX,ZaJ.1 hp]
    refine .inr ⟨g,cap,pa,hx.trans hv,hp,(g3 g zO).resolve_right (λx=>x),hh,k1,k2,k3,du.bi (dg.refl (WW W dm.ab L2) w2).toKeepsC (λb _ hb=>?_) _ _ k4⟩;rcases hb with hb|rfl
    ·exact .inl hb
    ·exact .inr ⟨r,_,ho,zO⟩
 cases e' with
 |normal=>exact done q
 |ret=>exact done q
 |_=>exact q.elim
section
variable{κ:oX}{nt:Nat}{Γ:pI}{aJ:Nat}{ro:Option Nat}{n:Nat}
def QR(aC:ay P Γ)(yb:κ.Good P){ops:Array Oper}{Q:Exit->Act->World->Prop}{l2:cO}:∀(l:cO) (rs:ai),(∀(k:Nat) (i:Nat),l[k]? =some i->∃o r,ops[i]? =some o/\rs[k]? =some r/\d9 P ops o=some (bare r))->rs.length=l.length->rs.all (l9 nt)=true->fP rs=true->
  ∀(st:RS) (a:Act) (w:World) (L:Loc),eP κ nt st a w L->kC aJ rs st->jE Γ aJ rs st->(∀a' w' L',eP κ nt (dZ Γ aJ rs st) a' w' L'->wpOpsIn (iV ro) n P ops Q l2 a' w')->wpOpsIn (iV ro) n P ops Q (l++l2) a w
 |[],rs,_,hl,_,_,st,a,w,L,h,_,_,hQ=>by
  have:rs=[]:=ZaD (by simpa using hl);subst this;exact hQ a w L h
 |i::l,[],_,hl,_,_,_,_,_,_,_,_,_,_=>by simp at hl
 |i::l,r::rs,hk,hl,d0,bT,st,a,w,L,h,hf,dq,hQ=>by
  obtain⟨o,r',ho,gD,hc⟩:=hk 0 i rfl;simp only[ZaF,Zaa]at gD;subst gD;simp only[ZcG,Zam]at d0;simp only[jE]at dq;have X7:gm r=true:=by have:=d0.1;simp only[l9,Zam]at this;exact this.1.2
  show wpOpsIn (iV ro) n P ops Q (i::(l++l2)) a w;rw[wpOpsIn_cons];refine pZ aC yb ho hc d0.1 h (hf.2 r (by simp)) dq.1 λa' w' L' h'=>?_;refine QR aC yb l rs (λk j hj=>hk (k+1) j (by simpa using hj)) (by simpa using hl) d0.2 (by simp only[fP,Zam]at bT;exact bT.2) _ a' w' L' h' ?_ dq.2 hQ;exact vh aC X7 dq.1 (sk bT) ⟨hf.1,λy hy=>hf.2 y (by simp[hy])⟩
def K0(aC:ay P Γ){t:Nat}:∀(rs:ai) (st:RS),jE Γ aJ rs st->st.ab t=none->(∀r∈rs,ut r.d=true->t≠nm aJ r)->(dZ Γ aJ rs st).ab t=none
 |[],st,_,h,_=>h
 |r::rs,st,dq,h,hn=>by
  simp only[jE]at dq;exact K0 aC rs _ dq.2 (Ah aC dq.1 h (hn r (by simp))) λr hr=>hn r (by simp[hr])
end
section
variable{nt:Nat}{Γ:pI}{Q:Exit->l8->Prop}{tm:dw}{ob:bq}{aJ low:Nat}{td:List (aK)}
def Ip{a b:ai}(h:fP (a++b)=true):fP a=true/\fP b=true/\∀x∈a,∀y∈b,pX x y=true:=by
 induction a with
 |nil=>exact⟨rfl,h,λ_ h=>by cases h⟩
 |cons r a ih=>
  simp only[ZaM,fP,Zam,List.all_append]at h⊢;obtain⟨i1,i2,i3⟩:=ih h.2;refine⟨⟨h.1.1,i1⟩,i2,λx hx y hy=>?_⟩;rcases Zah.1 hx with rfl|hx
  ·exact ZaU.1 h.1.2 y hy
  ·exact i3 x hx y hy
end
end
end
section
variable{f:Nat->Nat}
variable [bI] [dL]
def fk(f:Nat->Nat)(r:RO):RO:=⟨r.d,r.dst,r.guard,r.after,r.j5.map (·.map f)⟩
def c5(f:Nat->Nat)(rs:ai):ai:=rs.map (fk f)
def YH(hf:∀a b,f a=f b->a=b)(x y:Option (cO)):Ca (x.map (·.map f)) (y.map (·.map f))=Ca x y:=by
 cases x<;>cases y<;>simp only[Option.map_none,Za8,Ca]
 rename_i a b;rw[ZbX];simp only[List.all_map,ZaU,Function.comp_apply,bne_iff_ne,ne_eq];exact⟨λh x hx y hy e=>h x hx y hy (by rw[e]),λh x hx y hy e=>h x hx y hy (hf _ _ e)⟩
def VV(hf:∀a b,f a=f b->a=b)(x y:RO):kw (fk f x) (fk f y)=kw x y:=by
 unfold kw;rw[show(fk f x).j5=x.j5.map (·.map f)from rfl,show(fk f y).j5=y.j5.map (·.map f)from rfl,YH hf];rfl
def VW(f:Nat->Nat)(rs:ai):ng (c5 f rs)=ng rs:=by
 unfold ng c5;rw[ZcC];try rfl
def D9(f:Nat->Nat):∀rs:ai,fP (c5 f rs)=fP rs
 |[]=>rfl
 |r::rs=>by
  simp only[c5,ZaA,fP,List.all_map];have:=D9 f rs;simp only[c5]at this;rw[this];rfl
def dX(hf:∀a b,f a=f b->a=b)(nt:Nat)(yZ:Bool)(rs:ai):ee nt yZ (c5 f rs)=ee nt yZ rs:=by
 unfold ee;rw[D9,VW];have h1:(c5 f rs).all (l9 nt)=rs.all (l9 nt):=by simp only[c5,List.all_map];rfl
 have h2:vg (c5 f rs) (ng rs)=vg rs (ng rs):=by
  unfold vg;simp only[c5,Zbn,Zbx]
  congr 1
  funext i;cases rs[i]? with
  |none=>rfl
  |some y=>
   cases(ng rs)[i]? with
   |none=>rfl
   |some m=>
    simp only[Za8]
    congr 1
    congr 1
    funext x;cases rs[x]? with
    |none=>rfl
    |some r=>simp only[Za8,VV hf]
 rw[h1,h2]
def K1(b N:Nat)(n:Nat):Nat:=if n=0 then b else N+n
def VX{b N:Nat}(h:b<N)(x y:Nat)(e:K1 b N x=K1 b N y):x=y:=by
 unfold K1 at e;split at e<;>split at e<;>omega
def ky(l:cV)(r:Nat)(o:Ob):ew (cM l) r o=cM ((r,o)::l):=rfl
end
section
variable{d:DC}{rs:ai}
variable [bI] [dL]
section
variable{P:Program}{nt:Nat}{Γ:pI}{Q:Exit->l8->Prop}{st:l8}{tm:dw}{ob:bq}{aJ low:Nat}{td:List (aK)}
def aa.regionF(aC:ay P Γ)(hm:P.follows .mixedOrders=true)(hd:d=.region false (rs.map bare))(dq:ee nt false rs=true)
  (bW:jE Γ st.aJ rs ⟨st.tmps,st.ab,st.todo⟩) (hQ:Q .normal ⟨(dZ Γ st.aJ rs ⟨st.tmps,st.ab,st.todo⟩).tmps,(dZ Γ st.aJ rs ⟨st.tmps,st.ab,st.todo⟩).ab,st.aJ+nt+1,st.low,(dZ Γ st.aJ rs ⟨st.tmps,st.ab,st.todo⟩).todo⟩):
  aa P nt d Q st:=by
 refine⟨λc hc=>?_⟩;subst hd;obtain⟨id,ops,rfl,mt,hok'⟩:=o8 hc;exact sr aC hm mt dq bW hQ
def aa.Iq(aC:ay P Γ)(hm:P.follows .mixedOrders=true)(hd:d=.region false (rs.map bare))(dq:ee nt false rs=true)(ks:cO)
  (h:fc Γ aJ rs ⟨tm,ob,td⟩ λs=>Q .normal ⟨look (nR ks s.tmps),s.ab,aJ+nt+1,low,s.todo⟩):aa P nt d Q ⟨tm,ob,aJ,low,td⟩:=by
 have:=iK _ _ _ h;refine aa.yf (Q:=λe s=>e=.normal/\s=⟨(dZ Γ aJ rs ⟨tm,ob,td⟩).tmps,(dZ Γ aJ rs ⟨tm,ob,td⟩).ab,aJ+nt+1,low,(dZ Γ aJ rs ⟨tm,ob,td⟩).todo⟩) (aa.regionF aC hm hd dq (st:=⟨tm,ob,aJ,low,td⟩) this.1 ⟨rfl,rfl⟩) ?_;rintro e s ⟨rfl,rfl⟩;exact⟨_,Le.we (mG _ ks),this.2⟩
def aa.cX(aC:ay P Γ)(hm:P.follows .mixedOrders=true){b:DC}(hd:d=.region false (rs.map bare))(dq:ee nt false rs=true)(ks:cO)
  (h:fc Γ aJ rs ⟨tm,ob,td⟩ λs=>aa P nt b Q ⟨look (nR ks s.tmps),s.ab,aJ+nt+1,low,s.todo⟩):aa P nt (.seq d b) Q ⟨tm,ob,aJ,low,td⟩:=
 aa.seq (aa.Iq aC hm hd dq ks h)
end
end
end Go.DM
namespace Go.DM
open Go.RowKit
variable [bI] [dL]
section
variable{Γ:pI}{aJ:Nat}{K:RS->Prop}{rs:ai}{tm:dw}{ob:bq}{td:List (aK)}{dst:Option Nat}{d:rO}{s:Nat}{af l:cO}
@[simp] def exec_h_t(b:Bool)(h:tm s=.v (.bool b)):fc Γ aJ (⟨d,dst,some (s,b),af,some l⟩::rs) ⟨tm,ob,td⟩ K=(cP ⟨d,dst,none,af,some l⟩ tm/\(rP d=true->GL l ob (oi Γ d tm ob td).ab)/\ml Γ aJ d rs tm ob td K dst tm):=by
 simp only[fc,h,forall_const,jQ h,DN];cases b<;>simp[yh,cP]
def K2(b c:Bool)(h:tm s=.v (.bool b))(hc:b= !c):fc Γ aJ (⟨d,dst,some (s,c),af,some l⟩::rs) ⟨tm,ob,td⟩ K=fc Γ aJ rs ⟨cU tm dst .skip,ob,td⟩ K:=by
 subst hc;cases c
 ·have h:tm s=.v (.bool true):=h;simp[fc,h,jQ h]
 ·have h:tm s=.v (.bool false):=h;simp[fc,h,jQ h]
@[simp] def exec_h_tf(h:tm s=.v (.bool true)):fc Γ aJ (⟨d,dst,some (s,false),af,some l⟩::rs) ⟨tm,ob,td⟩ K=fc Γ aJ rs ⟨cU tm dst .skip,ob,td⟩ K:=K2 true false h rfl
@[simp] def exec_h_ft(h:tm s=.v (.bool false)):fc Γ aJ (⟨d,dst,some (s,true),af,some l⟩::rs) ⟨tm,ob,td⟩ K=fc Γ aJ rs ⟨cU tm dst .skip,ob,td⟩ K:=K2 false true h rfl
@[simp] def exec_h_sk{LS:Bool}(h:tm s=.skip):fc Γ aJ (⟨d,dst,some (s,LS),af,some l⟩::rs) ⟨tm,ob,td⟩ K=fc Γ aJ rs ⟨cU tm dst .skip,ob,td⟩ K:=by
 simp only[fc,h]
end
end Go.DM
namespace Go.DM
open Go.RowKit
section
variable{cs:bB}{av:List (aK)}{sz:Nat}
variable [bI] [dL]
def YI{base:Nat}{W M:fo}{w0 w:World}{o1:bq}{L1:Loc}(wi:ct base W M w0 o1 w L1){r k:Nat}{d:DV}(sg:o1 r=some (.box cs))
  (hd:∀c f xs,w.heap[L1.I1 r]? =some (.cells c f (0,0))->c.toList=xs->∀x,xs[k]? =some x->gP W o1 L1 w (ew o1 r (.box (cs.set k d))) L1 w->aA w W (ew o1 r (.box (cs.set k d))) L1 d x):
  ct base W M w0 (ew o1 r (.box (cs.set k d))) w L1/\gP W o1 L1 w (ew o1 r (.box (cs.set k d))) L1 w:=by
 have Co:∀{V:fo} b,WW V (ew o1 r (.box (cs.set k d))) L1 b->WW V o1 L1 b:=by
  intro V b hb;rcases hb with hb|⟨r',o,gD,hb⟩
  ·exact .inl hb
  ·rcases fq gD with⟨rfl,rfl⟩|⟨_,gD⟩
   ·exact .inr ⟨r',_,sg,hb⟩
   ·exact .inr ⟨r',o,gD,hb⟩
 have tC:gP W o1 L1 w (ew o1 r (.box (cs.set k d))) L1 w:=by
  refine⟨dg.refl _ _,λb _ h=>Co b h,λr' o' gD tU=>?_,λr' bD e' iG av gD=>?_,rfl⟩
  ·by_cases he:r'=r
   ·subst he;rw[sg]at gD;cases gD;exact⟨rfl,.box (cs.set k d),by simp[ew],rfl⟩
   ·exact⟨rfl,o',mS he gD,rfl⟩
  ·have he:r'≠r:=λhe=>by rw[he,sg]at gD;cases gD
   exact⟨bD,e',iG,av,mS he gD,Zaf _,λ_=>⟨rfl,rfl,rfl⟩⟩
 refine⟨⟨wi.fr,λr' o gD=>?_,λp p' o o' b bT h1 h2 hb=>?_,λp o b hp hb=>?_,wi.under,wi.gl.bi tC.dx.toKeepsC tC.sub⟩,tC⟩
 ·rcases fq gD with⟨rfl,rfl⟩|⟨bT,gD⟩
  ·obtain⟨c,f,cR,gQ,hm⟩:=wi.ob r' _ sg;exact⟨c,f,cR,Am _ _ _ _ (aQ.eZ tC _ _ gQ) λy hy=>hd c f _ cR rfl y hy tC,hm⟩
  ·have tU:=wi.ob r' o gD;cases o with
   |box iz=>
    obtain⟨c',f',D3,D4,HP⟩:=tU;exact⟨c',f',D3,aQ.eZ tC iz _ D4,HP⟩
   |map cj agg c es=>
    obtain⟨dT,D3,D4,q1,q2,q3,HP⟩:=tU;exact⟨dT,D3,bJ.eZ tC es _ D4,q1,q2,q3,HP⟩
   |kc m s sn l=>
    obtain⟨D3,Ny,HP⟩:=tU;exact⟨D3,(tC.mp m Ny).2,HP⟩
   |dT bD e' iG av=>
    obtain⟨g1,g2,g3,g4⟩:=tU;refine⟨g1,g2,g3, ?_⟩;rcases g4 with g4|⟨g,cap,pa,hv,hp,hh,k1,k2,k3,k4⟩
    ·exact .inl g4
    ·exact .inr ⟨g,cap,pa,hv,hp,hh,k1,k2,k3,du.bi (dg.refl (WW W o1 L1) w).toKeepsC (λb _ hb=>Co b hb) _ _ k4⟩
 ·have key:∀{p o},ew o1 r (.box (cs.set k d)) p=some o->∃o2,o1 p=some o2/\L1.own p o=L1.own p o2:=by
   intro p o hp;rcases fq hp with⟨rfl,rfl⟩|⟨_,hp⟩
   ·exact⟨_,sg,rfl⟩
   ·exact⟨o,hp,rfl⟩
  obtain⟨x1,y1,z1⟩:=key h1;obtain⟨x2,y2,z2⟩:=key h2;rw[z1]at hb;rw[z2];exact wi.apart p p' x1 x2 b bT y1 y2 hb
 ·rcases fq hp with⟨rfl,rfl⟩|⟨_,hp⟩
  ·exact wi.qQ p _ b sg hb
  ·exact wi.qQ p o b hp hb
def VY{n:Nat}(h:∀x∈av,x.length=sz):(av.take n).flatten=av.flatten.take (n*sz):=by
 induction av generalizing n with
 |nil=>simp
 |cons r rs ih=>
  cases n with
  |zero=>simp
  |succ n=>
   have hr:r.length=sz:=h r (by simp);have e1:r.take ((n+1)*sz)=r:=ZaX (by rw[hr,Nat.add_mul];omega);have e2:(n+1)*sz-sz=n*sz:=by rw[Nat.add_mul];omega
   rw[Zcf,Zbu,Zbu,Zc1,hr,e1,e2,ih λx hx=>h x (by simp[hx])]
def Le.cut{tm:dw}{ob:bq}{aJ low:Nat}{td:List (aK)}(r:Nat)(k:Nat){q bD n e:Nat}(hr:ob r=some (.box cs))(hk:cs[k]? =some (.u9 q bD 0 n))
  (hq:ob q=some (.dT bD e sz av)):
  Le ⟨tm,ob,aJ,low,td⟩ ⟨tm,ew (ew ob q (.dT (bD+1) e sz (av.take n))) r (.box (cs.set k (.bA q (bD+1)))),aJ,low,td⟩:=by
 intro κ nt a w L h;have hrq:r≠q:=λe=>by rw[e,hq]at hr;cases hr
 obtain⟨W,base,M,w0,dP,h0⟩:=h.r.ex;have hO:=h0.o;obtain⟨c,f,cR,gQ,hm⟩:=hO.ob r _ hr;obtain⟨x,hx⟩:=wP _ _ _ _ gQ hk;have Ga:=An _ _ _ _ _ gQ hk hx;simp only[aA]at Ga;obtain⟨_,cg,e',iG,eN,iA,_,hv⟩:=Ga;rw[hq]at iA;cases iA;obtain⟨Kp,p,cap,p2,vP,Qy,Qu⟩:=hv rfl;simp only[Zcb,ZcK,Zbi]at Kp Qy Qu;obtain⟨yi,dM,zO,P1⟩:=hO.ob q _ hq;have sc:aX (L.sl q)=aX x:=by
  rw[vP,Qy];by_cases h0:cap=0
  ·subst h0;cases p<;>cases p2<;>simp[aX]
  ·rw[Qu (by omega)];cases p<;>simp[aX,h0,Addr.add]
 have step:∃xs,du w (WW W ob L) (av.take n).flatten xs/\(((av.take n).length+([]:List (aK)).length=0/\∃a:Option Addr,x=.slice a 0 0)\/∃g cap pa,x=.slice (some ⟨g,0,none⟩) ((av.take n).length+([]:List (aK)).length) cap/\0<cap/\w.heap[g]? =some (.cells pa e (0,0))/\(av.take n).length+([]:List (aK)).length<=cap/\cap<=maxLen/\pa.size=cap*sz/\
     pa.toList.take (((av.take n).length+([]:List (aK)).length)*sz)=xs++[]):=by
  have hl:(av.take n).length=n:=by rw[ZaB];omega
  rcases P1 with⟨rfl,a0,ha0⟩|⟨g,cap',pa,h1,h2,h3,h4,h5,h6,h7⟩
  ·simp only[Zcj]at Kp;obtain rfl:n=0:=by omega
   rw[vP]at ha0;simp only[Value.slice.injEq]at ha0;obtain⟨rfl,_,rfl⟩:=ha0;exact⟨[],by simp[du],.inl ⟨by simp,p2,by rw[Qy]⟩⟩
  ·rw[vP]at h1;simp only[Value.slice.injEq]at h1;obtain⟨rfl,_,rfl⟩:=h1;have:=Qu h2;subst this;refine⟨pa.toList.take (n*sz), ?_,.inr ⟨g,cap,pa,by rw[Qy,hl];simp[Addr.add],h2,h3,by simp only[hl,Zcj];omega,h5,h6,by rw[hl];simp⟩⟩;rw[VY dM];have:=du.take (n*sz) h7;rw[ZcS,Zc9 (Zbk _ Kp)]at this;exact this
 obtain⟨xs,hxs,ub⟩:=step;obtain⟨wi,hA⟩:=sd (ys:=[]) (av:=av.take n) (cg:=bD+1) (v:=x) (v':=x) (w':=w) (vs:=[]) hO yi (λy hy=>dM y (by simp only[ZaC]at hy;exact ZaE hy)) (.inr ⟨hq,sc,by omega⟩) hxs (by simp[du]) ub
  ⟨rfl,rfl,rfl,Zaf _,λ_ _ _=>rfl⟩ (λb hb=>.inl hb) (Zaf _)
 simp only[ZaC]at wi hA;obtain⟨o1,KU⟩:=bb (ew ob q (.dT (bD+1) e sz (av.take n)));have oV:cG ob (some (q,.dT (bD+1) e sz (av.take n)))=o1:=KU;rw[oV]at wi hA;obtain⟨L1,VR⟩:=bb (L.iS q x);rw[VR]at wi hA;have sg:o1 r=some (.box cs):=by rw[<-KU];exact mS hrq hr
 have hq1:o1 q=some (.dT (bD+1) e sz (av.take n)):=by rw[<-KU];simp[ew]
 obtain⟨NE,tC⟩:=YI (k:=k) (d:=.bA q (bD+1)) wi sg (λc' f' lz Xb mh y hy tC=>by
  have hb:L1.I1 r=L.I1 r:=by rw[<-VR];rfl
  rw[hb,cR]at Xb;cases Xb;rw[<-mh,hx]at hy;cases hy;simp only[aA];refine⟨⟨_,_,_,Qy⟩,bD+1,e,sz,av.take n,mS (Ne.symm hrq) hq1,Zaf _,λ_=>?_⟩;rw[<-VR];simp[Loc.iS])
 have wJ:=dP.sub;have xK:∀r',aJ<=r'->ew o1 r (.box (cs.set k (.bA q (bD+1)))) r'=none:=λr' gD=>by
  have hn:=h.fresh r' gD;simp only at hn;have e1:r'≠r:=λe=>by rw[e,hr]at hn;cases hn
  have e2:r'≠q:=λe=>by rw[e,hq]at hn;cases hn
  rw[<-KU];simp only[ew];rw[Zab e1,Zab e2];exact hn
 rw[KU];exact⟨L1,⟨⟨W,base,M,w0,dP,h0.size,λt=>aA.eZ tC _ _ (aA.eZ hA _ _ (h0.tmps t)),NE⟩,gP.comp (gP.comp h.r.eZ hA (dP.H3 _) wJ.2) tC (dP.H3 _) wJ.2,h.r.defers,h.r.bg,⟨_,xK⟩⟩,xK,h.low,h.it⟩
end
section
variable{f:FuncId}{N':Nat}
variable [bI] [dL]
section
variable{P:Program}
structure sE(P:Program)(f:FuncId)(args:bB)(ab:bq)(N N':Nat)(bf:DV->bq->Prop):Prop where
 entry:Dq P f
 le:N<=N'
 none:∀val aI,bf val aI->(∀r,r<N->ab r=none->aI r=none)/\∀r,N'<=r->aI r=none
 run:∀(base:Nat) (W M:fo) (w0 w:World) (L:Loc) (cA:Array Value),ct base W M w0 ab w L->jD w W ab L args cA.toList->
  Calls P f cA w λe w'=>∃v L' val aI,e=.returned v/\bf val aI/\ct base W M w0 aI w' L'/\gP W ab L w aI L' w'/\aA w' W aI L' val v
def finN(t:Nat)(bf:DV->bq->Prop):Exit->l8->Prop
 |.normal,st|.ret,st=>bf (st.tmps t) st.ab
 |_,_=>False
def aB.YJ{nt:Nat}{d:DC}{t:Nat}(h:aB P f nt d [.da t]){args:bB}{ab:bq}{bf:DV->bq->Prop}{N:Nat}(hN:∀r,N<=r->ab r=none)(dM:args.length<=nt)
   (jy:N<=N') (mi:∀val aI,bf val aI->(∀r,r<N->ab r=none->aI r=none)/\∀r,N'<=r->aI r=none)
  (k:dh ab N->aa P nt d (finN t bf) ⟨look (args.zipIdx.map λp=>(p.2,p.1)),aM [] ab,N,N,[]⟩):sE P f args ab N N' bf:=by
 have Aj:=h.entry;obtain⟨fn,dn,rfl,h3,hr,_⟩:=h;obtain⟨c,hb,hc⟩:=Zac.1 h3;refine⟨Aj,jy,mi,λbase W M w0 w L cA hO B9=>?_⟩;have k:=Al (k (Au hO hN));have hl:=B9.1;simp only[Za3]at hl;have uB:Ie ⟨W,ab,L,w,base,M,w0,none,none,none⟩ fn.ntmps (wd args ab N) {tmps:=cA++Array.replicate (fn.ntmps-cA.size) Go.undef,defers:=[]} w L:=by
  refine⟨⟨⟨W,base,M,w0,⟨λ_=>rfl,rfl,rfl,rfl,rfl⟩,by simp;omega,λk=>?_,hO⟩,
   gP.cQ (dg.refl _ _),⟨[],rfl,Zb0,(λ_ h=>by cases h),λ_=>rfl⟩,λ_=>ZaP hO.fr.jq hO.fr.size,⟨N,hN⟩⟩,hN,hN,λh=>by cases h⟩
  simp only[wd];cases hk:args[k]? with
  |some x=>
   have hv:∃v,cA.toList[k]? =some v:=by
    have:k<cA.size:=by rw[hl];exact(Zaw.1 hk).1
    exact⟨cA[k],by simp[this]⟩
   obtain⟨v,hv⟩:=hv;simp only[pb hv,Cc];exact B9.2 k x v hk hv
  |none=>
   have xL:cA.size<=k:=by
    have:=ZbE.1 hk;omega
   simp only[Cc,aA,oG xL]
 refine callsIn_wide.1 (callsIn_of_wp_marks (n:=0) dn hb trivial ?_);refine wpIn_mono (k.run c hc 0 _ _ _ _ ⟨λJ hJ=>(by cases hJ),λl r s hY=>(by cases hY),λl hl=>(by cases hl)⟩ uB) ?_;rintro e a' w' ⟨dm,L',q,r'⟩;have done:bf (dm.tmps t) dm.ab->LeavesInM Fence.wide 0 P fn a'.tmps (λe w'=>∃v L' val aI,e=.returned v/\bf val aI/\ct base W M w0 aI w' L'/\gP W ab L w aI L' w'/\aA w' W aI L' val v) a'.defers .returning w':=by
  intro Xh;obtain⟨Ds,h1,h2,h3,_⟩:=r'.r.defers;rw[h1];refine uA (κ:=⟨W,ab,L,w,base,M,w0,none,none,none⟩) rfl ?_ Ds a' w' L' r'.r h1 h2 h3;intro a2 w2 L2 h4;obtain⟨W',KL,M',w0',dP,h0⟩:=h4.ex;obtain⟨_,e1,e2,e3,e4⟩:=dP
  replace h0:R0 base W M w0 fn.ntmps dm.tmps dm.ab a2 w2 L2:=by rw[e1,e2,e3,e4]at h0;exact h0
  exact⟨_,yI hr,_,L2,dm.tmps t,dm.ab,rfl,Xh,h0.o,h4.eZ,h0.tmps t⟩
 cases e with
 |normal=>exact done q
 |ret=>exact done q
 |_=>exact q.elim
section
variable{nt:Nat}{Γ:pI}{Q:Exit->l8->Prop}{tm:dw}{ob:bq}{aJ low:Nat}{td:List (aK)}
def aa.YK(aC:ay P Γ){rs pre post:ai}{args:List bQ}{dst:Option Nat}{af:cO}(ks:cO)(mt:rs=pre++⟨.call f args,dst,none,af,none⟩::post)
  (h:fc Γ aJ pre ⟨tm,ob,td⟩ λs=>∃bf,((∀r,aJ+nt+1<=r->s.ab r=none)->sE P f (args.map (·.ev s.tmps)) s.ab (aJ+nt+1) N' bf)/\
   ∀val nJ,bf val nJ->fc Γ aJ post ⟨cU s.tmps dst val,nJ,s.todo⟩ λs'=>Q .normal ⟨look (nR ks s'.tmps),s'.ab,N',low,s'.todo⟩):
  aa P nt (.region false rs) Q ⟨tm,ob,aJ,low,td⟩:=by
 refine⟨λc hc=>?_⟩;obtain⟨id,ops,rfl,oj,dq⟩:=o8 hc;have hcs':fO P ops=some (rs.map bare):=by rw[tr oj];exact oj
 have hg:=lL hcs';simp only[ee,Zam]at dq;obtain⟨⟨d0,bT⟩,_⟩:=dq;subst mt;rw[List.all_append,ZcG]at d0;simp only[Zam]at d0;obtain⟨QS,nP,YL⟩:=d0;obtain⟨hne1,hne2,hne12⟩:=Ip bT;have Dn:=iK _ _ _ h;obtain⟨YM,bf,aT,hpost⟩:=Dn;intro n κ Xg w L g r;refine wpIn_region ?_;have yi:ops.size=pre.length+(post.length+1):=by have:=hg.1;simp at this;omega
 have vx:∀x:RO,∃k,nm aJ x=aJ+k:=λx=>by
  unfold nm bN;cases x.dst with
  |none=>exact⟨0,rfl⟩
  |some d=>exact⟨d+1,by simp only[Nat.add_assoc]⟩
 have wS:∀t,aJ<=t->ob t=none:=λt ht=>r.fresh t ht;have hf1:kC aJ pre ⟨tm,ob,td⟩:=⟨wS aJ (Zaf _),λx _=>by obtain⟨k,hk⟩:=vx x;rw[hk];exact wS _ (by omega)⟩;have hrange:List.range ops.size=List.range pre.length++(pre.length::List.range' (pre.length+1) post.length):=by
  rw[yi,range_split (i:=pre.length) (by omega)]
  congr 2
  congr 1
  omega
 rw[hrange];refine QR aC g (List.range pre.length) pre (λk i hi=>?_) (by simp) QS hne1 ⟨tm,ob,td⟩ Xg w L r.r hf1 YM ?_
 ·obtain⟨hk,HV⟩:=Zaw.1 hi;simp only[Zb5]at hk;simp only[ZbS]at HV;subst HV;obtain⟨r,h1,h2⟩:=hg.2 k ops[k] (by simp[show k<ops.size by omega]);rw[Zbc hk]at h1;exact⟨ops[k],r,by simp[show k<ops.size by omega],h1,h2⟩
 intro a1 w1 L1 R1;obtain⟨s1,J4⟩:=bb (dZ Γ aJ pre ⟨tm,ob,td⟩);have hno1:∀t,ob t=none->(∀r∈pre,ut r.d=true->t≠nm aJ r)->s1.ab t=none:=λt ht hn=>by rw[<-J4];exact K0 aC pre _ YM ht hn
 rw[J4]at R1 aT hpost;obtain⟨r',h1,hco⟩:=hg.2 pre.length ops[pre.length] (by simp[show pre.length<ops.size by omega]);rw[Za9 (Zaf _)]at h1;simp only[Zcp,ZaF,Zaa]at h1;subst h1;obtain⟨hd,hgd,kv,_⟩:=fQ hco;rw[wpOpsIn_cons,wpOpIn];simp only[show ops[pre.length]? =some ops[pre.length]by simp[show pre.length<ops.size by omega]];rw[Ag (b:=true) hgd R1 rfl];simp only[if_true];refine⟨mC _ w1 _, ?_⟩;have hd':dz P ops[pre.length]=some (.call f args):=hd;have yd:∀c,ops[pre.length].op≠ .defer c:=nL hd';rw[show(iV κ.ro).round=κ.ro from rfl,Oper.semAt_eq κ.ro _ _ yd];obtain⟨c,ho,cR⟩:=fz hd' (.inl ⟨f,args,rfl⟩);obtain⟨fn,jx,dn,X8,Bv,pM⟩:=kX cR;have bW:=jO (P:=P) (w:=w1) (a:=a1) (g:=f) (bY:= #[]) ho (λx hx=>by rw[jx]at hx;cases hx;rfl) ⟨_,jx⟩ ⟨fn,dn,X8,Bv⟩;rw[ZbJ]at bW;rw[bW,Oper.uponIn_enter];refine⟨λhx=>(by cases hx),eQ ?_⟩;obtain⟨W,base,M,w0,dP,h0⟩:=R1.ex;have hN1:∀r,aJ+nt+1<=r->s1.ab r=none:=λt ht=>by rw[<-J4];exact yg aC pre QS _ YM t ht (wS t (by omega))
 have aT:=aT hN1;refine(aT.run base W M w0 w1 L1 (c.args.map a1.eval) h0.o (by simpa using gk h0.o.gl h0.tmps pM)).mono ?_;rintro e w2 ⟨v,L2,val,Xi,rfl,hP,NE,tC,mQ⟩;have QT:∀d,dst=some d->d<nt:=by
  intro d hd;have:=nP;subst hd;simp only[l9,Zam,Zau]at this;exact this.2
 have R2:=eP.put R1 dP h0 dst QT NE tC mQ ⟨N',(aT.none val Xi hP).2⟩;show wpOpsIn (iV κ.ro) n P ops _ (List.range' (pre.length+1) post.length) (a1.put ops[pre.length].dst v) w2;have QU:dst=ops[pre.length].dst:=kv;rw[<-QU];have hex2:=iK _ _ _ (hpost val Xi hP);obtain⟨QG,hQ2⟩:=hex2;have hpre_ne:∀r∈pre,ut r.d=true->∀y∈post,nm aJ y≠nm aJ r:=by
  intro r hr hl y hy e;have hn:=hne12 r hr y (by simp[hy]);have hlr:=ZaU.1 QS r hr;simp only[l9,Zam]at hlr;have p0:r.dst.isSome=true:=by simpa [gm,hl]using hlr.1.2
  obtain⟨d,hd⟩:=Zbp.1 p0;cases hyd:y.dst with
  |none=>simp[nm,bN,hd,hyd]at e;omega
  |some d'=>
   simp only[pX,hd,hyd,bne_iff_ne,ne_eq]at hn;simp only[nm,bN,hd,hyd]at e;omega
 have Dw:∀y∈post,nm aJ y<aJ+nt+1:=by
  intro y hy;have hly:=ZaU.1 YL y hy;simp only[l9,Zam]at hly;unfold nm bN;cases hyd:y.dst with
  |none=>simp only;omega
  |some d=>
   have:=hly.2;rw[hyd]at this;simp only[Zau]at this;simp only;omega
 have hf2:kC aJ post ⟨cU s1.tmps dst val,Xi,s1.todo⟩:=by
  refine⟨(aT.none val Xi hP).1 _ (by omega) (hno1 aJ (wS _ (Zaf _)) λr hr hl e=>?_),λy hy=>(aT.none val Xi hP).1 _ (Dw y hy) (hno1 _ ?_ λr hr hl=>hpre_ne r hr hl y hy)⟩
  ·have hlr:=ZaU.1 QS r hr;simp only[l9,Zam]at hlr;have p0:r.dst.isSome=true:=by simpa [gm,hl]using hlr.1.2
   obtain⟨d,hd⟩:=Zbp.1 p0;simp[nm,bN,hd]at e;omega
  ·obtain⟨k,hk⟩:=vx y;rw[hk];exact wS _ (by omega)
 have hne3:fP post=true:=by simp only[fP,Zam]at hne2;exact hne2.2
 refine ux aC g (List.range' (pre.length+1) post.length) post (λk i hi=>?_) (by simp) YL hne3 _ _ w2 L2 R2 hf2 QG λa3 w3 L3 R3=>?_
 ·obtain⟨hk,HV⟩:=Zaw.1 hi;simp only[List.length_range']at hk;simp only[List.getElem_range',Nat.one_mul]at HV;subst HV;obtain⟨r,h1,h2⟩:=hg.2 (pre.length+1+k) ops[pre.length+1+k] (by simp[show pre.length+1+k<ops.size by omega]);rw[Za9 (by omega),show pre.length+1+k-pre.length=k+1 by omega,Zbb]at h1;exact⟨ops[pre.length+1+k],r,by simp[show pre.length+1+k<ops.size by omega],h1,h2⟩
 ·have xK:∀t,N'<=t->(dZ Γ aJ post ⟨cU s1.tmps dst val,Xi,s1.todo⟩).ab t=none:=by
   intro t ht;exact yg aC post YL _ QG t (ZaP aT.le ht) ((aT.none val Xi hP).2 t ht)
  obtain⟨L4,R4⟩:=Le.we (st:=⟨(dZ Γ aJ post ⟨cU s1.tmps dst val,Xi,s1.todo⟩).tmps,(dZ Γ aJ post ⟨cU s1.tmps dst val,Xi,s1.todo⟩).ab,N',low,(dZ Γ aJ post ⟨cU s1.tmps dst val,Xi,s1.todo⟩).todo⟩) (mG _ ks) κ nt a3 w3 L3 ⟨R3,xK,r.low,r.it⟩;exact⟨_,L4,hQ2,R4⟩
end
end
end
end Go.DM
namespace Go.DM
open Go.RowKit
variable [bI] [dL]
section
variable{P:Program}{nt:Nat}{Γ:pI}{κ:oX}{ro:Option Nat}{n:Nat}
def OF(yb:κ.Good P){ops:Array Oper}{i:Nat}{o:Oper}{f:FuncId}{args:List bQ}{dst:Option Nat}{af:cO}(hi:ops[i]? =some o)(hco:d9 P ops o=some ⟨.call f args,dst,none,af,none⟩)(nP:l9 nt ⟨.call f args,dst,none,af,none⟩=true)
  {s1:RS} {a1:Act} {w1:World} {L1:Loc} (R1:eP κ nt s1 a1 w1 L1) {N N':Nat} {bf:DV->bq->Prop} (aT:sE P f (args.map (·.ev s1.tmps)) s1.ab N N' bf) {K:Act->World->Prop} {Q:Exit->Act->World->Prop}
  (hK:∀a' w' L' val nJ,bf val nJ->eP κ nt ⟨cU s1.tmps dst val,nJ,s1.todo⟩ a' w' L'->K a' w'):wpOpIn (iV κ.ro) n P ops Q i K a1 w1:=by
 obtain⟨hd,hgd,kv,_⟩:=fQ (r:=⟨.call f args,dst,none,af,none⟩) hco;rw[wpOpIn];simp only[hi];rw[Ag (b:=true) hgd R1 rfl];simp only[if_true];refine⟨mC _ w1 _, ?_⟩;have hd':dz P o=some (.call f args):=hd;have yd:∀c,o.op≠ .defer c:=nL hd';rw[show(iV κ.ro).round=κ.ro from rfl,Oper.semAt_eq κ.ro _ _ yd];obtain⟨c,ho,cR⟩:=fz hd' (.inl ⟨f,args,rfl⟩);obtain⟨fn,jx,dn,X8,Bv,pM⟩:=kX cR;have bW:=jO (P:=P) (w:=w1) (a:=a1) (g:=f) (bY:= #[]) ho (λx hx=>by rw[jx]at hx;cases hx;rfl) ⟨_,jx⟩ ⟨fn,dn,X8,Bv⟩;rw[ZbJ]at bW;rw[bW,Oper.uponIn_enter];refine⟨λhx=>(by cases hx),eQ ?_⟩;obtain⟨W,base,M,w0,dP,h0⟩:=R1.ex;refine(aT.run base W M w0 w1 L1 (c.args.map a1.eval) h0.o (by simpa using gk h0.o.gl h0.tmps pM)).mono ?_;rintro e w2 ⟨v,L2,val,Xi,rfl,hP,NE,tC,mQ⟩;have QT:∀d,dst=some d->d<nt:=by
  intro d hd;have:=nP;subst hd;simp only[l9,Zam,Zau]at this;exact this.2
 have R2:=eP.put R1 dP h0 dst QT NE tC mQ ⟨N',(aT.none val Xi hP).2⟩;have QU:dst=o.dst:=kv;rw[QU]at R2;rw[QU]at hK;exact hK _ _ _ _ _ hP R2
end
section
variable{P:Program}{nt:Nat}{Γ:pI}{Q:Exit->l8->Prop}{tm:dw}{ob:bq}{aJ low:Nat}{td:List (aK)}
def YN{a:Array Bool}{i:Nat}(h:i<a.size)(d e:Bool):a.getD i d=a.getD i e:=by
 rw[ZaH,ZaH];simp[h]
end
end Go.DM
namespace Go.DM.Ve
section
variable{α:Type}(lt:α->α->Bool)
structure SWO:Prop where
 irrefl:∀x,lt x x=false
 trans:∀x y z,lt x y=true->lt y z=true->lt x z=true
 ntrans:∀x y z,lt x y=false->lt y z=false->lt x z=false
def wB(l:List α):Prop:=l.Pairwise λa b=>lt b a=false
def rR(x y:α):Bool:= !lt x y&& !lt y x
def qM(x:α):List α->List α
 |[]=>[x]
 |y::ys=>if lt x y then y::qM x ys else x::y::ys
def C7(l:List α):List α:=l.foldl (λfX x=>qM lt x fX) []
def kj(l:List α):List α:=(C7 lt l).reverse
variable{lt}
def SWO.asymm(h:SWO lt){x y:α}(h1:lt x y=true):lt y x=false:=by
 cases h2:lt y x with
 |false=>rfl
 |true=>have:=h.trans x y x h1 h2;rw[h.irrefl]at this;cases this
def D2(x:α):∀(l:List α) (z:α),z∈qM lt x l↔z=x\/z∈l
 |[],z=>by simp[qM]
 |y::ys,z=>by
  simp only[qM];split
  ·simp only[Zah,D2 x ys z];constructor
   ·rintro(h|h|h)<;>simp[h]
   ·rintro(h|h|h)<;>simp[h]
  ·simp
def BE(h:SWO lt)(x:α):∀l:List α,l.Pairwise (λa b=>lt a b=false)->(qM lt x l).Pairwise λa b=>lt a b=false
 |[],_=>by simp[qM]
 |y::ys,hs=>by
  simp only[qM];rw[Za0]at hs;split
  ·rename_i hxy;rw[Za0];refine⟨λz hz=>?_,BE h x ys hs.2⟩;rcases(D2 x ys z).1 hz with rfl|hz
   ·exact h.asymm hxy
   ·exact hs.1 z hz
  ·rename_i hxy;have hxy:lt x y=false:=by simpa using hxy
   rw[Za0];refine⟨λz hz=>?_,Za0.2 hs⟩;rcases Zah.1 hz with rfl|hz
   ·exact hxy
   ·exact h.ntrans x y z hxy (hs.1 z hz)
def BF(h:SWO lt)(x z:α):∀l:List α,(qM lt x l).filter (rR lt z)=(if rR lt z x then x::l.filter (rR lt z)else l.filter (rR lt z))
 |[]=>by simp[qM,Za4]
 |y::ys=>by
  simp only[qM];split
  ·rename_i hxy;rw[Za4,BF h x z ys];have hn:rR lt z x=true->rR lt z y=false:=by
    intro hx;simp only[rR,Zam,Zbf]at hx;cases hy:rR lt z y with
    |false=>rfl
    |true=>
     simp only[rR,Zam,Zbf]at hy;have:=h.ntrans x z y hx.2 hy.1;rw[hxy]at this;cases this
   by_cases hzx:rR lt z x=true
   ·simp[hzx,hn hzx]
   ·simp only[Zc3]at hzx;simp[hzx,Za4]
  ·rw[Za4]
def yx(h:SWO lt):∀(l fX:List α),fX.Pairwise (λa b=>lt a b=false)->(l.foldl (λfX x=>qM lt x fX) fX).Pairwise λa b=>lt a b=false
 |[],fX,ha=>ha
 |x::l,fX,ha=>yx h l _ (BE h x fX ha)
def lO(h:SWO lt)(z:α):∀(l fX:List α),(l.foldl (λfX x=>qM lt x fX) fX).filter (rR lt z)=(l.filter (rR lt z)).reverse++fX.filter (rR lt z)
 |[],fX=>by simp
 |x::l,fX=>by
  rw[ZaN,lO h z l,BF h];by_cases hx:rR lt z x=true
  ·simp[hx]
  ·simp only[Zc3]at hx;simp[hx]
def rY(h:SWO lt)(l:List α):wB lt (kj lt l):=by
 unfold wB kj;rw[List.pairwise_reverse];exact yx h l [] List.Pairwise.nil
def yy(h:SWO lt)(z:α)(l:List α):(kj lt l).filter (rR lt z)=l.filter (rR lt z):=by
 unfold kj C7;rw[List.filter_reverse,lO h z];simp
def uE(h:SWO lt)(x:α):rR lt x x=true:=by simp[rR,h.irrefl]
def GO:∀(l fX:List α) (z:α),z∈l.foldl (λfX x=>qM lt x fX) fX↔z∈l\/z∈fX
 |[],fX,z=>by simp
 |x::l,fX,z=>by
  rw[ZaN,GO l,D2];simp only[Zah];constructor
  ·rintro(h|h|h)<;>simp[h]
  ·rintro((h|h)|h)<;>simp[h]
@[simp] def u6(l:List α)(z:α):z∈kj lt l↔z∈l:=by simp[kj,C7,GO]
def BG(x:α):∀l:List α,(qM lt x l).length=l.length+1
 |[]=>rfl
 |y::ys=>by simp only[qM];split<;>simp[BG x ys]
def yz:∀l fX:List α,(l.foldl (λfX x=>qM lt x fX) fX).length=l.length+fX.length
 |[],fX=>by simp
 |x::l,fX=>by rw[ZaN,yz l,BG];simp;omega
@[simp] def xT(l:List α):(kj lt l).length=l.length:=by simp[kj,C7,yz]
def wh(h:SWO lt):∀(l1 l2:List α),wB lt l1->wB lt l2->(∀x,l1.filter (rR lt x)=l2.filter (rR lt x))->l1=l2
 |[],[],_,_,_=>rfl
 |[],b::t,_,_,hf=>by
  have:=hf b;simp[Za4,uE h]at this
 |a::t,[],_,_,hf=>by
  have:=hf a;simp[Za4,uE h]at this
 |a::t1,b::t2,s1,s2,hf=>by
  have s1':=Za0.1 s1;have s2':=Za0.1 s2;have hab:lt b a=false:=by
   have:b∈a::t1:=by
    have:b∈(a::t1).filter (rR lt b):=by rw[hf b];simp[uE h]
    exact(Zbj.1 this).1
   rcases Zah.1 this with rfl|hm
   ·exact h.irrefl _
   ·exact s1'.1 b hm
  have hba:lt a b=false:=by
   have:a∈b::t2:=by
    have:a∈(b::t2).filter (rR lt a):=by rw[<-hf a];simp[uE h]
    exact(Zbj.1 this).1
   rcases Zah.1 this with rfl|hm
   ·exact h.irrefl _
   ·exact s2'.1 a hm
  have he:rR lt a b=true:=by simp[rR,hab,hba]
  have h1:=hf a;rw[Za4,Za4,uE h,he]at h1;simp only[if_true,Za1]at h1;obtain⟨rfl,_⟩:=h1
  congr 1
  refine wh h t1 t2 s1'.2 s2'.2 λx=>?_;have:=hf x;rw[Za4,Za4]at this;split at this
  ·exact(List.cons.inj this).2
  ·exact this
def KS(h:SWO lt){l l':List α}(hs:wB lt l')(hf:∀x,l'.filter (rR lt x)=l.filter (rR lt x)):kj lt l=l':=
 wh h _ _ (rY h l) hs λx=>by rw[yy h,hf]
end
section
variable{α:Type}
end
section
variable{α:Type}{lt:α->α->Bool}
end
end Go.DM.Ve
