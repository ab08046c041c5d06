/- Part of the proof. Conditions: none. -/
import Derived.Test.YtnhpkhblghgpdaaGreatDoorXab
import Derived.OrdersIn
import Derived.RangeFuncCalls
import Derived.Sort.LoopGhostIn
set_option linter.unusedSectionVars false
set_option linter.unusedSimpArgs false
set_option linter.unusedVariables false
set_option linter.defProp false
namespace Go.DM
open Go.RowKit
section
variable{ro:Option Nat}{f:FuncId}{todo:List (aK)}{r:Loop}{go ab aI:bq}{gL L':Loc}{d:rO}{args:List bQ}{ds:bB}{cA:Array Value}{vs:List Value}{o':Obj}
variable [bI] [dL]
structure RO where
 d:rO
 dst:Option Nat
 guard:Option (Nat×Bool)
 after:cO
 j5:Option (cO):=none
abbrev ai:=List RO
structure RS where
 tmps:dw
 ab:bq
 todo:List (aK)
def cU(f:dw):Option Nat->DV->Nat->DV
 |none,_=>f
 |some k,v=>λx=>if x=k then v else f x
def fV(g:Option (Nat×Bool))(ρ:dw):Option Bool:=
 match g with
 |none=>some true
 |some (s,want)=>match ρ s with
  |.v (.bool b)=>some (b==want)
  |.skip=>some false
  |_=>none
def bN(aJ:Nat):Option Nat->Nat
 |some d=>aJ+d+1
 |none=>aJ
def oq(Γ:pI)(aJ:Nat)(r:RO)(st:RS):qO:=dj Γ r.d (bN aJ r.dst) st.tmps st.ab
def bG:rO->List bQ
 |.qu x|.box x|.load _ _ x|.un _ x|.conv _ x|.addOff _ x|.nilCheck x|.field _ _ _ x|.extract _ x|.len x|.lenS x|.mkSlice _ _ _ _ x|.mkSliceB _ _ _ _ x|.lenM x|.rangeM x|.entryM x|.isNil _ _ x=>[x]
 |.pick c a b=>[c,a,b]
 |.alloc _|.mkMap _ _|.fail=>[]
 |.build _ ps|.bslice _ _ _ ps=>ps.map (·.2.2)
 |.store _ x y|.bin _ x y|.eqT _ _ _ x y|.idxAddr _ x y|.arrAddr _ _ x y|.minmax _ x y|.append _ _ _ x y|.lookup _ _ _ _ x y|.mapDel _ _ x y|.copy _ x y|.indexS x y=>[x,y]
 |.mapUpd _ _ x k y=>[x,k,y]
 |.mapEnt _ _ _ x k=>[x,k]
 |.entSt x s y=>[x,s,y]
 |.slice _ x lo hi=>x::(lo.toList++hi.toList)
 |.call _ xs|.callS _ xs|.callF _ xs|.callR _ xs|.mkFn _ xs=>xs
 |.callv x xs=>x::xs
def cP(r:RO)(ρ:dw):Prop:=
 match r.j5 with
 |none=>True
 |some l=>∀x∈bG r.d,∀n∈aN (x.ev ρ),n∈l
def post(Γ:pI)(aJ:Nat)(r:RO)(st:RS):SEff:=
 if rP r.d then oi Γ r.d st.tmps st.ab st.todo
 else⟨(oq Γ aJ r st).ok,(oq Γ aJ r st).val,cG st.ab (oq Γ aJ r st).put,st.todo⟩
def um(r:RO)(o o':bq):Prop:=rP r.d=true->∀l,r.j5=some l->∀n,n∉l->o' n=o n
def cJ(Γ:pI)(aJ:Nat)(r:RO)(st:RS):Prop:=
 match fV r.guard st.tmps with
 |some true=>(post Γ aJ r st).ok/\cP r st.tmps/\um r st.ab (post Γ aJ r st).ab
 |some false=>True
 |none=>False
def dW(Γ:pI)(aJ:Nat)(r:RO)(st:RS):RS:=
 match fV r.guard st.tmps with
 |some true=>⟨cU st.tmps r.dst (post Γ aJ r st).val,(post Γ aJ r st).ab,(post Γ aJ r st).todo⟩
 |some false=>⟨cU st.tmps r.dst .skip,st.ab,st.todo⟩
 |none=>st
def iJ:T->Bool
 |.bool _|.int _ _|.str _=>true
 |.eo ts=>iU ts
 |.agg ts=>iU ts
 |_=>false
where
 iU:aK->Bool
 |[]=>true
 |t::ts=>iJ t&&iU ts
def wG:∀(n:Nat),(∀(t:T) (w w':World) (W W':fo) (v:Value),SizeOf.sizeOf t<n->iJ t=true->bj w W t v->bj w' W' t v)/\
  (∀(ts:aK) (w w':World) (W W':fo) (vs:List Value),SizeOf.sizeOf ts<n->iJ.iU ts=true->(bf w W ts vs->bf w' W' ts vs)/\(fN w W ts vs->fN w' W' ts vs))
 |0=>⟨λ_ _ _ _ _ _ h=>by omega,λ_ _ _ _ _ _ h=>by omega⟩
 |n+1=>by
  have ih:=wG n;refine⟨λt w w' W W' v hn hs h=>?_,λts w w' W W' vs hn hs=>?_⟩
  ·cases t with
   |agg ts=>simp only[bj]at h⊢;obtain⟨vs,hv,hr⟩:=h;exact⟨vs,hv,(ih.2 ts w w' W W' _ (by simp at hn⊢;omega) hs).1 hr⟩
   |eo ts=>simp only[bj]at h⊢;obtain⟨vs,hv,hr⟩:=h;exact⟨vs,hv,(ih.2 ts w w' W W' _ (by simp at hn⊢;omega) hs).2 hr⟩
   |bool b=>simpa [bj]using h
   |int k n=>simpa [bj]using h
   |str s=>simpa [bj]using h
   |_=>exact Zar hs ZaL
  ·cases ts with
   |nil=>exact⟨λh=>by simpa [bf]using h,λh=>by simpa [fN]using h⟩
   |cons t ts=>
    simp only[iJ.iU,Zam]at hs;have h2:=ih.2 ts w w' W W';refine⟨λh=>?_,λh=>?_⟩
    ·simp only[bf]at h⊢;obtain⟨v,vs',rfl,h1,hr,mt⟩:=h;exact⟨v,vs',rfl,h1,ih.1 t w w' W W' v (by simp at hn⊢;omega) hs.1 hr,(h2 _ (by simp at hn⊢;omega) hs.2).1 mt⟩
    ·simp only[fN]at h⊢;obtain⟨v,vs',rfl,hr,mt⟩:=h;exact⟨v,vs',rfl,ih.1 t w w' W W' v (by simp at hn⊢;omega) hs.1 hr,(h2 _ (by simp at hn⊢;omega) hs.2).2 mt⟩
def Dq(P:Program)(f:FuncId):Prop:=∃fn,P.funcs[f]? =some fn/\fn.name≠ "runtime.NumGoroutine" /\fn.body.isNone=false
structure bl(P:Program)(f:FuncId)(ts:aK)(t:T):Prop where
 entry:Dq P f
 run:∀(W:fo) (w:World) (cA:Array Value),(∀b,W b->b<w.heap.size)->F2 w W->fN w W ts cA.toList->
  Calls P f cA w λe w'=>∃v,e=.returned v/\vO w.heap.size w w'/\bj w' W t v
structure Dr(n0:Nat)(w':World)(W:fo)(e sz:Nat)(av:List (aK))(v:Value):Prop where
 pos:0<sz
 len:∀x∈av,x.length=sz
 it:(av=[]/\∃a:Option Addr,v=.slice a 0 0)\/∃g cap cur,v=.slice (some ⟨g,0,none⟩) av.length cap/\0<cap/\n0<=g/\w'.heap[g]? =some (.cells cur e (0,0))/\av.length<=cap/\cap<=maxLen/\cur.size=cap*sz/\bf w' (λb=>W b\/b=g) av.flatten (cur.toList.take (av.length*sz))
structure oW(P:Program)(f:FuncId)(ts:aK)(e sz:Nat)(av:List (aK)):Prop where
 entry:Dq P f
 run:∀(W:fo) (w:World) (cA:Array Value),(∀b,W b->b<w.heap.size)->F2 w W->fN w W ts cA.toList->
  Calls P f cA w λe' w'=>∃v,e'=.returned v/\vO w.heap.size w w'/\Dr w.heap.size w' W e sz av v
def jD(w:World)(W:fo)(ab:bq)(L:Loc)(ds:bB)(vs:List Value):Prop:=
 vs.length=ds.length/\∀(i:Nat) (d:DV) (v:Value),ds[i]? =some d->vs[i]? =some v->aA w W ab L d v
structure aR(P:Program)(f:FuncId)(args:bB)(ab:bq)(r:fI):Prop where
 entry:Dq P f
 run:∀(base:Nat) (W M:fo) (w0 w:World) (L:Loc) (cA:Array Value),ct base W M w0 ab w L->jD w W ab L args cA.toList->
  Calls P f cA w λe w'=>∃v L',e=.returned v/\ct base W M w0 r.ab w' L'/\gP W ab L w r.ab L' w'/\aA w' W r.ab L' r.val v
structure XR(P:Program)(f:FuncId)(s:Spec):Prop where
 pure:∀ts,s.pre ts->bl P f ts (s.fn ts)/\(s.jz=true->iJ (s.fn ts)=true)
 fresh:∀e sz,s.fresh=some (e,sz)->∀ts,s.pre ts->∃av,s.fn ts=.sl av/\oW P f ts e sz av/\(s.fY=true->iJ.iU av.flatten=true)
 st:∀k,s.st=some k->∀args ab,(k args ab).ok->(∀N,(∀r,N<=r->ab r=none)->aR P f args ab (k args ab))/\∀r,ab r=none->(k args ab).ab r=none
def ay(P:Program)(Γ:pI):Prop:=∀f s,Γ f=some s->XR P f s
def iV(ro:Option Nat):Fence:={Fence.wide with round:=ro}
def eQ{n:Nat}{P:Program}{args:Array Value}{w:World}{R:Ending->World->Prop}(h:Calls P f args w R):CallsIn (iV ro) n P f args w R:=by
 have h0:CallsIn Fence.wide n P f args w R:=callsIn_wide.2 h;exact h0
structure oX where
 W:fo
 go:bq
 gL:Loc
 gw:World
 base:Nat
 M:fo
 w0:World
 J:Option (fo->List (aK)->World->Prop)
 ro:Option Nat
 Y:Option (Nat×Loop×Loop):=none
def oX.At(κ:oX)(todo:List (aK))(W:fo)(base:Nat)(M:fo)(w0:World):Prop:=
 match κ.J with
 |none=>(κ.Y=none->todo=[])/\W=κ.W/\base=κ.base/\M=κ.M/\w0=κ.w0
 |some J=>J W todo w0/\base=w0.heap.size/\M=(λ_=>False)/\(∀b,W b->κ.W b\/κ.gw.heap.size<=b)/\∀b,κ.W b->W b
structure Yields(P:Program)(l:Nat)(J:fo->List (aK)->World->Prop):Prop where
 stays:∀(W:fo) (todo:List (aK)) (A B:World),J W todo A->vO A.heap.size A B->J W todo B
 round:∀(W:fo) (x:aK) (rest:List (aK)) (cA:Array Value) (A:World),J W (x::rest) A->fN A W x cA.toList->
  ∃fn tmps assign body,(Instr.yield l cA).run P A=.ok (.round l fn tmps assign body) A/\RoundIn Fence.wide 0 P l fn tmps assign body A λe B=>
   e=.returned (.bool true)/\∃W',J W' rest B/\dg W A B/\(∀b,W' b->b<B.heap.size/\(W b\/A.heap.size<=b))/\∀b,W b->W' b
structure H2(P:Program)(l:Nat)(r s:Loop)(k:bB->bq->fI)(base:Nat)(W M:fo)(w0:World)(go:bq)(gL:Loc)(gw:World):Prop where
 round:∀(w:World) (L:Loc) (ab:bq) (args:bB) (cA:Array Value),(k args ab).ok->yIs (k args ab).val->(∃N,∀x,N<=x->ab x=none)->w.heap[l]? =some (.loop r)->
  gP W go gL gw ab L w->ct base W M w0 ab w L->jD w W ab L args cA.toList->
  ∃fn tmps assign body,(Instr.yield l cA).run P w=.ok (.round l fn tmps assign body) w/\RoundIn Fence.wide 0 P l fn tmps assign body w λe B=>
   e=.returned (.bool (yGo (k args ab).val))/\∃L',ct base W M w0 (k args ab).ab B L'/\gP W ab L (w.putObj l (.loop (if yGo (k args ab).val then r else s))) (k args ab).ab L' B
def _root_.Go.World.uo{w:World}{l:Nat}{o:Obj}(h:w.heap[l]? =some o):w.putObj l o=w:=by
 obtain⟨hl,e⟩:=Zap.1 h;have:w.heap.setIfInBounds l o=w.heap:=by
  refine Array.ext_getElem? λi=>?_;rw[ZbZ];split
  ·rename_i e2;subst e2;exact h.symm
  ·rfl
 unfold World.putObj;rw[this]
def oX.NC(κ:oX)(todo:List (aK)):World:=match κ.Y with
 |none=>κ.gw
 |some (l,r,s)=>κ.gw.putObj l (.loop (match todo with|[]=>s|_=>r))
def oX.ya(κ:oX)(todo:List (aK)):(κ.NC todo).heap.size=κ.gw.heap.size:=by
 unfold oX.NC;split
 ·rfl
 ·simp[World.putObj]
def oX.KC{κ:oX}(h:κ.Y=none)(todo:List (aK)):κ.NC todo=κ.gw:=by simp[oX.NC,h]
structure oX.Good(P:Program)(κ:oX):Prop where
 y:∀J,κ.J=some J->Yields P κ.gL.yl J/\dL.k=none/\κ.Y=none
 ys:∀l r s,κ.Y=some (l,r,s)->κ.base<=l/\κ.gw.heap[l]? =some (.loop r)/\∃k,dL.k=some (l,k)/\H2 P l r s k κ.base κ.W κ.M κ.w0 κ.go κ.gL κ.gw
 rd:∀l,κ.ro=some l->∃r,κ.gw.heap[l]? =some (.loop r)
def mark(D:Nat):Deferred:={target:=.collected D,args:= #[]}
structure R0(base:Nat)(W M:fo)(w0:World)(nt:Nat)(tmps:dw)(ab:bq)(a:Act)(w:World)(L:Loc):Prop where
 size:a.tmps.size=nt
 tmps:∀t,aA w W ab L (tmps t) (a.tmps.getD t Go.undef)
 o:ct base W M w0 ab w L
structure eP(κ:oX)(nt:Nat)(st:RS)(a:Act)(w:World)(L:Loc):Prop where
 ex:∃W base M w0,κ.At st.todo W base M w0/\R0 base W M w0 nt st.tmps st.ab a w L
 eZ:gP κ.W κ.go κ.gL (κ.NC st.todo) st.ab L w
 defers:∃Ds:cO,a.defers=Ds.map mark/\Ds.Nodup/\(∀D∈Ds,w.heap[D]? =some (.deferred (some []))/\κ.gw.heap.size<=D)/\(κ.J.isSome=true->Ds=[])
 bg:κ.J=none->κ.base<=κ.gw.heap.size
 bZ:∃N,∀r,N<=r->st.ab r=none
def oX.At.sub{κ:oX}{W:fo}{base:Nat}{M:fo}{w0:World}(h:κ.At todo W base M w0):(∀b,W b->κ.W b\/κ.gw.heap.size<=b)/\∀b,κ.W b->W b:=by
 unfold oX.At at h;split at h
 ·obtain⟨_,rfl,_⟩:=h;exact⟨λ_ h=>.inl h,λ_ h=>h⟩
 ·exact⟨h.2.2.2.1,h.2.2.2.2⟩
def oX.At.H3{κ:oX}{W:fo}{base:Nat}{M:fo}{w0:World}(h:κ.At todo W base M w0)(td:List (aK)):∀b,W b->κ.W b\/(κ.NC td).heap.size<=b:=by
 rw[oX.ya];exact h.sub.1
def oX.XS{κ:oX}{l:Nat}(td:List (aK))(h:κ.gw.heap[l]? =some (.loop r)):∃r',(κ.NC td).heap[l]? =some (.loop r'):=by
 unfold oX.NC;split
 ·exact⟨r,h⟩
 ·rename_i l' _ _ _;by_cases e:l=l'
  ·subst e;exact⟨_,World.putObj_heap_same (Zap.1 h).1⟩
  ·exact⟨r,by rw[World.putObj_heap_other e];exact h⟩
def gP.comp{W V:fo}{L:Loc}{gw w w':World}(h:gP V go gL gw ab L w)(k:gP W ab L w aI L' w')(h1:∀b,W b->V b\/gw.heap.size<=b)(h2:∀b,V b->W b):
  gP V go gL gw aI L' w':=by
 have up:∀b,b<gw.heap.size->WW W ab L b->WW V ab L b:=λb hb hw=>by
  rcases hw with hw|hw
  ·rcases h1 b hw with h3|h3
   ·exact .inl h3
   ·omega
  ·exact .inr hw
 refine⟨⟨⟨ZaP h.dx.size k.dx.size,λb c e fr hb hn=>?_⟩,λb hb=>k.dx.W8 b (h.dx.W8 b hb),λb r hb=>k.dx.Xy b r (h.dx.Xy b r hb)⟩,λb hb hw=>?_,λr o hr hk=>?_,λr bD e sz av hr=>?_,k.yl.trans h.yl⟩
 ·have hlt:=(Zap.1 hb).1;exact k.dx.blk b c e fr (h.dx.blk b c e fr hb hn) λx=>hn (h.sub b hlt (up b hlt x))
 ·refine h.sub b hb (up b hb (k.sub b (Zbz hb h.dx.size) ?_));rcases hw with hw|hw
  ·exact .inl (h2 b hw)
  ·exact .inr hw
 ·obtain⟨e1,o1,sg,pJ⟩:=h.fix r o hr hk;obtain⟨e2,o2,xV,wH⟩:=k.fix r o1 sg (by rw[pJ];exact hk);exact⟨e2.trans e1,o2,xV,wH.trans pJ⟩
 ·obtain⟨v1,e1,s1,r1,sg,l1,k1⟩:=h.arr r bD e sz av hr;obtain⟨v2,e2,s2,r2,xV,l2,k2⟩:=k.arr r v1 e1 s1 r1 sg;refine⟨v2,e2,s2,r2,xV,ZaP l1 l2,λhv=>?_⟩;have Bk:v1=bD:=by omega
  obtain⟨a1,a2,a3⟩:=k1 Bk;obtain⟨b1,b2,b3⟩:=k2 (by omega);exact⟨b1.trans a1,b2.trans a2,b3.trans a3⟩
section
variable{P:Program}{κ:oX}{base:Nat}{W M:fo}{w0:World}{nt:Nat}{Γ:pI}{aJ:Nat}
def Dt(tmps:Array Value)(d t:Nat)(v:Value)(hd:d<tmps.size):(tmps.setIfInBounds d v).getD t Go.undef=if t=d then v else tmps.getD t Go.undef:=by
 simp only[ZaH,ZbZ];by_cases h:d=t
 ·subst h;simp[hd]
 ·have:t≠d:=λe=>h e.symm;simp[h,this]
def R0.put{tmps:dw}{a:Act}{w w':World}{L:Loc}(h:R0 base W M w0 nt tmps ab a w L)(dst:Option Nat)(kv:∀d,dst=some d->d<nt){v:DV}{x:Value}
  (hO:ct base W M w0 aI w' L') (hA:gP W ab L w aI L' w') (hv:aA w' W aI L' v x):
  R0 base W M w0 nt (cU tmps dst v) aI (a.put dst x) w' L':=by
 cases dst with
 |none=>exact⟨h.size,λt=>aA.eZ hA _ _ (h.tmps t),hO⟩
 |some d=>
  refine⟨by simpa [Act.put]using h.size,λt=>?_,hO⟩;simp only[cU,Act.put];rw[Dt _ _ _ _ (by rw[h.size];exact kv d rfl)];by_cases ht:t=d
  ·simp only[ht,if_true];exact hv
  ·simp only[ht,if_false];exact aA.eZ hA _ _ (h.tmps t)
def wI(a:Act)(dst:Option Nat)(x:Value):(a.put dst x).defers=a.defers:=by cases dst<;>rfl
def eP.put{st:RS}{a:Act}{w w':World}{L:Loc}(hR:eP κ nt st a w L)(dP:κ.At st.todo W base M w0)(h:R0 base W M w0 nt st.tmps st.ab a w L)
  (dst:Option Nat) (kv:∀d,dst=some d->d<nt) {v:DV} {x:Value} (hO:ct base W M w0 aI w' L') (hA:gP W st.ab L w aI L' w') (hv:aA w' W aI L' v x) (lr:∃N,∀r,N<=r->aI r=none):
  eP κ nt ⟨cU st.tmps dst v,aI,st.todo⟩ (a.put dst x) w' L':=
 ⟨⟨W,base,M,w0,dP,h.put dst kv hO hA hv⟩,hR.eZ.comp hA (dP.H3 _) dP.sub.2,by
  obtain⟨Ds,h1,h2,h3,h4⟩:=hR.defers;exact⟨Ds,by rw[wI];exact h1,h2,λD hD=>⟨hA.dx.W8 D (h3 D hD).1,(h3 D hD).2⟩,h4⟩,hR.bg,lr⟩
def eP.skip{st:RS}{a:Act}{w:World}{L:Loc}(h:eP κ nt st a w L)(dst:Option Nat)(kv:∀d,dst=some d->d<nt):
  eP κ nt ⟨cU st.tmps dst .skip,st.ab,st.todo⟩ (a.put dst Go.undef) w L:=by
 obtain⟨W,base,M,w0,dP,h0⟩:=h.ex;exact eP.put h dP h0 dst kv h0.o (gP.cQ (dg.refl _ _)) (by simp[aA]) h.bZ
def mC(o:Oper)(w:World)(ρ:Operand->Value):∀f,o.about P w ρ=some f->(iV ro).fn f:=λ_ _=>trivial
def nL{o:Oper}(h:dz P o=some d):∀c,o.op≠ .defer c:=by
 intro c hc;simp[dz,hc]at h
def fz{o:Oper}(hc:dz P o=some d)(hd':(∃f args,d=.call f args)\/(∃f args,d=.callS f args)\/(∃f args,d=.callv f args)\/(∃f args,d=.callF f args)\/∃f args,d=.callR f args):∃c,o.op=.call c/\eG P c=some d:=by
 rcases hd' with⟨f,args,rfl⟩|⟨f,args,rfl⟩|⟨f,args,rfl⟩|⟨f,args,rfl⟩|⟨f,args,rfl⟩;all_goals
  unfold dz at hc;cases ho:o.op<;>simp only[ho,reduceCtorEq]at hc
  case call c=>exact⟨c,rfl,hc⟩
  case binOp op t x y yt=>
   exfalso;simp only[Zaj,Zad]at hc;obtain⟨x',hx,y',hy,hc⟩:=hc;unfold mA at hc;repeat' split at hc
   all_goals first|(cases hc;done)|(simp only[Zac,reduceCtorEq,and_false,exists_false]at hc;done)
  case makeMap t h=>
   exfalso;cases h with
   |some m=>cases hc
   |none=>
    simp only at hc;split at hc
    ·simp only[Zac,reduceCtorEq,and_false,exists_false]at hc
    ·cases hc
  case slice t x lo hi mx=>
   exfalso;cases mx with
   |some m=>cases hc
   |none=>
    simp only at hc;repeat' split at hc
    all_goals simp only[Zao,Zaj,Zad,Zaa,reduceCtorEq,and_false,exists_false]at hc
  all_goals exfalso
  all_goals first
   |(simp only[Zac,reduceCtorEq,and_false,exists_false]at hc;done)
   |(simp only[Zao,Zaj,Zad,Zaa,reduceCtorEq,and_false,exists_false]at hc;done)
   |(repeat' split at hc)<;>first
     |(simp only[Zac,Zao,Zaj,Zad,Zaa,reduceCtorEq,and_false,exists_false]at hc;done)
     |(simp[Zad]at hc;done)
def kX{c:Call}(h:eG P c=some (.call f args)):∃fn,c.callee=.value (.func f)/\P.funcs[f]? =some fn/\fn.name≠ "runtime.NumGoroutine" /\fn.body.isNone=false/\c.args.toList.mapM bQ.of=some args:=by
 unfold eG at h;split at h
 ·rename_i g jx;split at h
  ·rename_i fn hfn;split at h
   ·cases h
   ·rename_i hnr;simp only[Zac,rO.call.injEq]at h;obtain⟨ys,pM,rfl,rfl⟩:=h;refine⟨fn,jx,hfn,λe=>hnr (.inl e), ?_,pM⟩;cases hb:fn.body.isNone
    ·rfl
    ·exact Zar (.inr hb) hnr
  ·cases h
 all_goals
  repeat' split at h
  all_goals first
   |(simp only[Zac,Zao,Zaj,Zad,Zaa,reduceCtorEq,and_false,exists_false]at h;done)
   |skip
def H4{c:Call}{x:bQ}(h:eG P c=some (.callv x args)):∃t,c.callee=.value (.tmp t)/\x=.tmp t/\c.args.toList.mapM bQ.of=some args:=by
 unfold eG at h;split at h
 ·split at h
  ·split at h
   ·cases h
   ·simp at h
  ·cases h
 ·rename_i t jx;simp only[Zac,rO.callv.injEq]at h;obtain⟨ys,pM,rfl,rfl⟩:=h;exact⟨t,jx,rfl,pM⟩
 all_goals
  repeat' split at h
  all_goals first
   |(simp only[Zac,Zao,Zaj,Zad,Zaa,reduceCtorEq,and_false,exists_false]at h;done)
   |skip
def Bt:rO->rO
 |.callS f args=>.call f args
 |.callF f args=>.call f args
 |.callR f args=>.call f args
 |.mkSliceB e sz bytes zero n=>.mkSlice e sz bytes zero n
 |d=>d
def mD(W':fo){fY:Bool}{ab:bq}{w:World}{L:Loc}(hO:ct base W M w0 ab w L)(hW:fY=true->∀r o b,ab r=some o->L.own r o=some b->¬W' b)(Vn:∀b,W' b->WW W ab L b):
  ∀{ds:bB} {vs:List Value},jD w W ab L ds vs->tA fY ab ds->fN w W' (ji ab ds) vs
 |[],vs,h,_=>by
  have:vs=[]:=ZaD h.1;subst this;simp[fN,ji]
 |d::ds,[],h,_=>by have:=h.1;simp at this
 |d::ds,v::vs,h,hk=>by
  simp only[tA]at hk;simp only[fN,ji];exact⟨v,vs,rfl,(x6 W' hO hW Vn).1 _ _ (h.2 0 d v rfl rfl) hk.1,mD W' hO hW Vn ⟨by simpa using h.1,λi x y hx hy=>h.2 (i+1) x y (by simpa using hx) (by simpa using hy)⟩ hk.2⟩
def GI(aC:ay P Γ){w:World}{L:Loc}(hO:ct base W M w0 ab w L){g:FuncId}{s:Spec}(hg:Γ g=some s)(oY:tA s.jz ab ds)(tB:s.pre (ji ab ds))
  (hr:jD w W ab L ds cA.toList):Calls P g cA w λe w'=>∃v,e=.returned v/\ct base W M w0 ab w' L/\gP W ab L w ab L w'/\aA w' W ab L (.v (s.fn (ji ab ds))) v:=by
 obtain⟨sh,hsc⟩:=(aC g s hg).pure _ tB;have Co:∀b,WW W ab L b->b<w.heap.size:=by
  have jy:base<=w.heap.size:=ZaP hO.fr.jq hO.fr.size;rintro b (hb|⟨r',o',h1,h2⟩)
  ·have:=hO.under b hb;omega
  ·exact(hO.ob r' o' h1).lt h2
 cases hs:s.jz with
 |true=>
  rw[hs]at oY;have N7:=mD (λ_=>False) (fY:=true) hO (λ_ _ _ _ _ _ x=>x) (λ_ x=>x.elim) hr oY;refine(sh.run (λ_=>False) w cA (λ_ x=>x.elim) (hO.gl.bi (dg.refl (WW W ab L) _).toKeepsC λ_ _ h=>h.elim) N7).mono ?_;rintro e w' ⟨v,rfl,hb,hv⟩;obtain⟨hO',hA⟩:=ct.grow hO hb;refine⟨v,rfl,hO',hA, ?_⟩;simp only[aA];exact(wG _).1 _ w' w' (λ_=>False) (WW W ab L) v (Zcc _) (hsc hs) hv
 |false=>
  rw[hs]at oY;have N7:=mD (WW W ab L) (fY:=false) hO (λx=>by cases x) (λ_ x=>x) hr oY;refine(sh.run (WW W ab L) w cA Co hO.gl N7).mono ?_;rintro e w' ⟨v,rfl,hb,hv⟩;obtain⟨hO',hA⟩:=ct.grow hO hb;exact⟨v,rfl,hO',hA,by simp only[aA];exact hv⟩
def N8{w:World}{L:Loc}(hO:ct base W M w0 ab w L){g:FuncId}{fY:Bool}(oY:tA fY ab ds){e sz:Nat}{av:List (aK)}(sh:oW P g (ji ab ds) e sz av)(hsc:fY=true->iJ.iU av.flatten=true)
  (hr:jD w W ab L ds cA.toList) {name:Nat} (hname:ab name=none):Calls P g cA w λe' w'=>∃v L',e'=.returned v/\ct base W M w0 (cG ab (some (name,.arr 0 e sz av))) w' L'/\gP W ab L w (cG ab (some (name,.arr 0 e sz av))) L' w'/\aA w' W (cG ab (some (name,.arr 0 e sz av))) L' (.bA name 0) v:=by
 have jy:base<=w.heap.size:=ZaP hO.fr.jq hO.fr.size;have Co:∀b,WW W ab L b->b<w.heap.size:=by
  rintro b (hb|⟨r',o',h1,h2⟩)
  ·have:=hO.under b hb;omega
  ·exact(hO.ob r' o' h1).lt h2
 have aT:Calls P g cA w λe' w'=>∃v,e'=.returned v/\vO w.heap.size w w'/\Dr w.heap.size w' (WW W ab L) e sz av v:=by
  cases fY with
  |false=>
   have N7:=mD (WW W ab L) (fY:=false) hO (λx=>by cases x) (λ_ x=>x) hr oY;exact sh.run (WW W ab L) w cA Co hO.gl N7
  |true=>
   have N7:=mD (λ_=>False) (fY:=true) hO (λ_ _ _ _ _ _ x=>x) (λ_ x=>x.elim) hr oY;refine(sh.run (λ_=>False) w cA (λ_ x=>x.elim) (hO.gl.bi (dg.refl (WW W ab L) _).toKeepsC λ_ _ h=>h.elim) N7).mono ?_;rintro e' w' ⟨v,h1,h2,h3⟩;refine⟨v,h1,h2,h3.pos,h3.len, ?_⟩;rcases h3.it with h4|⟨g',cap,cur,k1,k2,k3,k4,k5,k6,k7,k8⟩
   ·exact .inl h4
   ·exact .inr ⟨g',cap,cur,k1,k2,k3,k4,k5,k6,k7,((wG _).2 _ w' w' _ _ _ (Zcc _) (hsc rfl)).1 k8⟩
 refine aT.mono ?_;rintro e' w' ⟨v,rfl,hb,hf⟩;have h:=ct.put hO (r:=name) (L':=L.iS name v) (o':=.arr 0 e sz av) (hO.fr.trans ⟨hb.os,hb.tape,hb.output,jy,hb.size,λk hk _=>hb.block k (by omega),hb.drawn⟩) hb.size (λx hx=>⟨rfl,by simp[Loc.iS,hx]⟩) rfl (λb hlt _=>hb.block b hlt)
  (λb h=>.inr (by
   simp only[Loc.own,Loc.iS,if_true]at h;rcases hf.it with⟨_,a,rfl⟩|⟨g',cap,cur,rfl,hp,xL,_⟩
   ·cases a<;>simp[aX]at h
   ·simp only[aX,Zab (ZaJ.1 hp),Zaa]at h;omega))
  (λo' h _=>by rw[hname]at h;cases h) (λ_ _ _ _ h=>by rw[hname]at h;cases h) (λeZ=>by
   refine⟨hf.pos,hf.len,λg' hg=>?_, ?_⟩
   ·simp only[Loc.iS,if_true]at hg;rcases hf.it with⟨_,a,rfl⟩|⟨g2,cap,cur,rfl,hp,xL,_⟩
    ·cases a<;>simp[aX]at hg
    ·simp only[aX,Zab (ZaJ.1 hp),Zaa]at hg;exact .inl (by omega)
   ·simp only[Loc.iS,if_true];rcases hf.it with⟨h1,a,h2⟩|⟨g2,cap,cur,h1,hp,xL,h2,h3,h4,h5,h6⟩
    ·exact .inl ⟨h1,a,h2⟩
    ·refine .inr ⟨g2,cap,cur,h1,hp,h2,h3,h4,h5,bf.bi (dg.refl (λb=>WW W ab L b\/b=g2) w').toKeepsC (λb _ hb=>?_) _ _ h6⟩;rcases hb with hb|⟨r',o',gD,hb⟩
     ·exact .inl (.inl hb)
     ·simp only[cG]at gD;split at gD
      ·rename_i e1;cases gD;subst e1;simp only[Loc.own,if_true,h1,aX,Zab (ZaJ.1 hp),Zaa]at hb;exact .inr hb.symm
      ·rename_i bT;refine .inl (.inr ⟨r',o',gD, ?_⟩);cases o'<;>simpa [Loc.own,Loc.iS,bT]using hb)
 refine⟨v,_,rfl,h.1,h.2, ?_⟩;simp only[aA];refine⟨?_,0,e,sz,av,by simp[cG],Zaf _,λ_=>by simp[Loc.iS]⟩;rcases hf.it with⟨_,a,rfl⟩|⟨g2,cap,cur,rfl,_⟩<;>exact⟨_,_,_,rfl⟩
def gk{w:World}{L:Loc}{a:Act}{ρ:dw}(hg:F2 w (WW W ab L))(jw:∀t,aA w W ab L (ρ t) (a.tmps.getD t Go.undef)){xs:List Operand}{ys:List bQ}(h:xs.mapM bQ.of=some ys):jD w W ab L (ys.map (·.ev ρ)) (xs.map a.eval):=by
 refine⟨by simp[ul h],λi d v hd hv=>?_⟩;rw[Zbx,Zac]at hd hv;obtain⟨y,hy,rfl⟩:=hd;obtain⟨x,hx,rfl⟩:=hv;exact Br hg jw h i x y hx hy
def jD.append{w:World}{L:Loc}{ds':bB}{vs':List Value}(h:jD w W ab L ds vs)(k:jD w W ab L ds' vs'):jD w W ab L (ds++ds') (vs++vs'):=by
 refine⟨by simp[h.1,k.1],λi d v hd hv=>?_⟩;by_cases hi:i<ds.length
 ·rw[Zbc hi]at hd;rw[Zbc (by rw[h.1];exact hi)]at hv;exact h.2 i d v hd hv
 ·rw[Za9 (by omega)]at hd;rw[Za9 (by rw[h.1];omega),h.1]at hv;exact k.2 _ d v hd hv
def Du{w:World}{L:Loc}{ts:aK}(h:bf w (WW W ab L) ts vs):jD w W ab L (ts.map .v) vs:=by
 refine⟨by simp[bf.length h],λi d v hd hv=>?_⟩;rw[Zbx,Zac]at hd;obtain⟨t,ht,rfl⟩:=hd;obtain⟨v',tp,_,hr⟩:=bf.get h ht;rw[hv]at tp;cases tp;simpa [aA]using hr
def Bu{w:World}{L:Loc}(h:aQ w W ab L ds vs):jD w W ab L ds vs:=by
 refine⟨by simp[aQ.length h],λi d v hd hv=>?_⟩;obtain⟨v',tp,_,hr⟩:=aQ.get h hd;rw[hv]at tp;cases tp;exact hr
def Ge{o:Oper}{x:bQ}(hc:dz P o=some (.entryM x)):∃y,o.op=.entry y/\bQ.of y=some x:=by
 unfold dz at hc;cases ho:o.op<;>simp only[ho,reduceCtorEq]at hc
 case entry y=>
  simp only[Zac,rO.entryM.injEq]at hc;obtain⟨y',hy,rfl⟩:=hc;exact⟨y,rfl,hy⟩
 case binOp op t x y yt=>
  exfalso;simp only[Zaj,Zad]at hc;obtain⟨x',hx,y',hy,hc⟩:=hc;unfold mA at hc;repeat' split at hc
  all_goals first|(cases hc;done)|(simp only[Zac,reduceCtorEq,and_false,exists_false]at hc;done)
 case call c=>
  exfalso;unfold eG at hc;repeat' split at hc
  all_goals first
   |(cases hc;done)
   |(simp only[Zac,Zao,Zaj,Zad,Zaa,reduceCtorEq,and_false,exists_false]at hc;done)
 case slice t x lo hi mx=>
  exfalso;cases mx with
  |some m=>cases hc
  |none=>
   simp only at hc;repeat' split at hc
   all_goals simp only[Zao,Zaj,Zad,Zaa,reduceCtorEq,and_false,exists_false]at hc
 case makeMap t h=>
  exfalso;cases h with
  |some m=>cases hc
  |none=>
   simp only at hc;split at hc
   ·simp only[Zac,reduceCtorEq,and_false,exists_false]at hc
   ·cases hc
 all_goals exfalso
 all_goals first
  |(simp only[Zac,reduceCtorEq,and_false,exists_false]at hc;done)
  |(simp only[Zao,Zaj,Zad,Zaa,reduceCtorEq,and_false,exists_false]at hc;done)
  |(repeat' split at hc)<;>first
    |(simp only[Zac,Zao,Zaj,Zad,Zaa,reduceCtorEq,and_false,exists_false]at hc;done)
    |(simp[Zad]at hc;done)
def jO{o:Oper}{a:Act}{w:World}{c:Call}(ho:o.op=.call c){g:FuncId}{bY:Array Value}(hv:∀f,c.callee=.value f->a.eval f=.func (.func g) #[] bY)(hc:∃f,c.callee=.value f)(hg:Dq P g):
  (execOp a.eval o).run P w=.ok (.enter g (c.args.map a.eval++bY)) w:=by
 obtain⟨f,hf⟩:=hc;obtain⟨fn,hfn,bT,Bv⟩:=hg;simp[execOp,ho,resolve,hf,hv f hf,Deferred.ofValue,invoke,callFunc,hfn,bT];intro mi;simp[mi]at Bv
def v8{n l:Nat}{fn:FuncId}{tmps:Array Value}{assign body:Code}{w:World}{R:Ending->World->Prop}(h:RoundIn Fence.wide 0 P l fn tmps assign body w R):
  RoundIn (iV ro) n P l fn tmps assign body w R:=by
 have h0:RoundIn Fence.wide n P l fn tmps assign body w R:=⟨h.1,λc cs _=>h.2 c cs (by simp[Fence.room,Fence.wide])⟩;exact h0
def oZ{W:fo}{L:Loc}{w w':World}(B8:KeepsC (WW W ab L) w w'):∀n,(∀(d:DV) (x:Value),SizeOf.sizeOf d<n->aA w W ab L d x->aA w' W ab L d x)/\(∀(ds:bB) (xs:List Value),SizeOf.sizeOf ds<n->aQ w W ab L ds xs->aQ w' W ab L ds xs)/\(∀(ds:bB) (xs:List Value),SizeOf.sizeOf ds<n->eE w W ab L ds xs->eE w' W ab L ds xs):=by
 have wJ:∀b,b<w.heap.size->WW W ab L b->WW W ab L b:=λ_ _ h=>h;intro n;induction n with
 |zero=>exact⟨λ_ _ h=>by omega,λ_ _ h=>by omega,λ_ _ h=>by omega⟩
 |succ n ih=>
  refine⟨λd x hn hx=>?_,λds xs hn hx=>?_,λds xs hn hx=>?_⟩
  ·cases d with
   |v t=>simp only[aA]at hx⊢;exact bj.bi B8 wJ t x hx
   |eo cs=>
    simp only[aA]at hx⊢;obtain⟨vs,hv,hr⟩:=hx;exact⟨vs,hv,ih.2.2 cs _ (by simp at hn⊢;omega) hr⟩
   |nG f cs=>
    simp only[aA]at hx⊢;obtain⟨vs,hv,hr⟩:=hx;exact⟨vs,hv,ih.2.1 cs _ (by simp at hn⊢;omega) hr⟩
   |l7 av i off=>
    simp only[aA]at hx⊢;obtain⟨b,o,sz,hx,hb,Gf,hr,h1,h2⟩:=hx;exact⟨b,o,sz,hx,Zbz hb B8.size,Gf,bw.bi B8 wJ hb Gf sz o av hr,h1,h2⟩
   |iD cs off=>
    simp only[aA]at hx⊢;obtain⟨b,o,hx,hb,Gf,hr⟩:=hx;exact⟨b,o,hx,Zbz hb B8.size,Gf,ed.bi B8 wJ hb Gf o cs hr⟩
   |agg cs=>
    simp only[aA]at hx⊢;obtain⟨vs,hv,hr⟩:=hx;exact⟨vs,hv,ih.2.1 cs _ (by simp at hn⊢;omega) hr⟩
   |_=>exact hx
  ·cases ds with
   |nil=>simpa only[aQ]using hx
   |cons d ds=>
    simp only[aQ]at hx⊢;obtain⟨y,ys,hv,h1,h2,h3⟩:=hx;exact⟨y,ys,hv,h1,ih.1 d y (by simp at hn⊢;omega) h2,ih.2.1 ds ys (by simp at hn⊢;omega) h3⟩
  ·cases ds with
   |nil=>simpa only[eE]using hx
   |cons d ds=>
    simp only[eE]at hx⊢;obtain⟨y,ys,hv,h2,h3⟩:=hx;exact⟨y,ys,hv,ih.1 d y (by simp at hn⊢;omega) h2,ih.2.2 ds ys (by simp at hn⊢;omega) h3⟩
def ou{w:World}{l:Nat}{o:Obj}(hl:w.heap[l]? =some o)(hnc:¬Obj.plain o):∀(b:Nat) x,Obj.plain x->w.heap[b]? =some x->(w.putObj l o').heap[b]? =some x:=λb x hx hb=>by
 rw[World.putObj_heap_other (by rintro rfl;rw[hl]at hb;cases hb;exact hnc hx)];exact hb
def uq{base:Nat}{W M:fo}{w0 w:World}{L:Loc}(h:ct base W M w0 ab w L){l:Nat}{o:Obj}(hl:w.heap[l]? =some o)(hnc:¬Obj.plain o)(hb:base<=l):
  ct base W M w0 ab (w.putObj l o') L:=by
 have hsz:(w.putObj l o').heap.size=w.heap.size:=by simp[World.putObj]
 have mE:=ou (o':=o') hl hnc;have B8:KeepsC (WW W ab L) w (w.putObj l o'):=⟨by rw[hsz];exact Zaf _,λb c e fr hb _=>mE b _ trivial hb⟩;have f:=h.fr;refine⟨⟨f.os,f.tape,f.output,f.jq,by rw[hsz];exact f.size,λk hk hm=>?_,f.drawn⟩,λr o ho=>?_,h.apart,h.qQ,h.under,h.gl.bi B8 λ_ _ h=>h⟩
 ·rw[World.putObj_heap_other (by omega)];exact f.block k hk hm
 ·have gH:=h.ob r o ho;cases o with
  |box cs=>
   obtain⟨c,e,hc,hr,hm⟩:=gH;exact⟨c,e,mE _ _ trivial hc,(oZ B8 (SizeOf.sizeOf cs+1)).2.1 cs _ (by omega) hr,hm⟩
  |map cj agg c es=>
   obtain⟨arr,hc,hr,k1,k2,k3,hm⟩:=gH;refine⟨arr,mE _ _ trivial hc, ?_,k1,k2,k3,hm⟩;have key:∀(es:List (Nat×T×DV)) (xs:List MapEntry),bJ w W ab L es xs->bJ (w.putObj l o') W ab L es xs:=by
    intro es;induction es with
    |nil=>intro xs h;simpa only[bJ]using h
    |cons e es ih=>
     intro xs h;simp only[bJ]at h⊢;obtain⟨x,lz,hx,h1,h2,h3,h4⟩:=h;exact⟨x,lz,hx,h1,bj.bi B8 (λ_ _ h=>h) _ _ h2,(oZ B8 (SizeOf.sizeOf e.2.2+1)).1 _ _ (by omega) h3,ih lz h4⟩
   exact key es _ hr
  |iter m s sn lt=>
   obtain⟨hc,Ny,hm⟩:=gH;exact⟨mE _ _ trivial hc,Ny,hm⟩
  |arr bD e sz av=>
   obtain⟨g1,g2,g3,g4⟩:=gH;refine⟨g1,g2,g3, ?_⟩;rcases g4 with g4|⟨g,cap,cur,hv,hp,hh,k1,k2,k3,k4⟩
   ·exact .inl g4
   ·exact .inr ⟨g,cap,cur,hv,hp,mE _ _ trivial hh,k1,k2,k3,bf.bi B8 (λ_ _ h=>h) _ _ k4⟩
def gP.Cp{V:fo}{L:Loc}{gw w:World}{l:Nat}{r':Loop}(hg:l<gw.heap.size)(h:gP V go gL (gw.putObj l (.loop r)) ab L w):
  gP V go gL (gw.putObj l (.loop r')) ab L (w.putObj l (.loop r')):=by
 have hl:w.heap[l]? =some (.loop r):=h.dx.Xy _ _ (World.putObj_heap_same hg);have hlw:=(Zap.1 hl).1;have s1:(gw.putObj l (.loop r')).heap.size=gw.heap.size:=by simp[World.putObj]
 have s2:(gw.putObj l (.loop r)).heap.size=gw.heap.size:=by simp[World.putObj]
 have s3:(w.putObj l (.loop r')).heap.size=w.heap.size:=by simp[World.putObj]
 have g1:(gw.putObj l (.loop r')).heap[l]? =some (.loop r'):=World.putObj_heap_same hg;have g3:(w.putObj l (.loop r')).heap[l]? =some (.loop r'):=World.putObj_heap_same hlw;have o1:∀b,b≠l->(gw.putObj l (.loop r')).heap[b]? =(gw.putObj l (.loop r)).heap[b]? :=λb hb=>(World.putObj_heap_other hb).trans (World.putObj_heap_other hb).symm;have o3:∀b,b≠l->(w.putObj l (.loop r')).heap[b]? =w.heap[b]? :=λb hb=>World.putObj_heap_other hb;have hk:=h.dx.size;refine⟨⟨⟨by rw[s1,s3];rw[s2]at hk;exact hk,λb c e fr hb hn=>?_⟩,λb hb=>?_,λb rr hb=>?_⟩,λb hb hw=>?_,h.fix,h.arr,h.yl⟩
 ·have bT:b≠l:=by rintro rfl;rw[g1]at hb;cases hb
  rw[o1 b bT]at hb;rw[o3 b bT];exact h.dx.blk b c e fr hb hn
 ·have bT:b≠l:=by rintro rfl;rw[g1]at hb;cases hb
  rw[o1 b bT]at hb;rw[o3 b bT];exact h.dx.W8 b hb
 ·by_cases bT:b=l
  ·subst bT;rw[g1]at hb;rw[g3];exact hb
  ·rw[o1 b bT]at hb;rw[o3 b bT];exact h.dx.Xy b rr hb
 ·rw[s1]at hb;exact h.sub b (by rw[s2];exact hb) hw
def Qz{n:Nat}(aC:ay P Γ)(yb:κ.Good P){o:Oper}{r:RO}(hc:dz P o=some (Bt r.d))(kv:r.dst=o.dst){st:RS}{a:Act}{w:World}{L:Loc}(h:eP κ nt st a w L)(hd:∀d,r.dst=some d->d<nt)
  (hname:st.ab (bN aJ r.dst)=none) (hok:(post Γ aJ r st).ok) {K:Act->World->Prop} {Q:Exit->Act->World->Prop}
  (hK:∀a' w' L',eP κ nt ⟨cU st.tmps r.dst (post Γ aJ r st).val,(post Γ aJ r st).ab,(post Γ aJ r st).todo⟩ a' w' L'->K a' w'):
  o.wpIn (iV ro) n P a w K Q:=by
 have hR:=h;obtain⟨⟨W,base,M,w0,dP,h0⟩,Gg,hdf,hbg,lr⟩:=h;refine⟨mC o w _, ?_⟩;have yd:∀c,o.op≠ .defer c:=nL hc;rw[show(iV ro).round=ro from rfl,Oper.semAt_eq ro _ o yd];by_cases h4:rP r.d=true
 ·unfold post at hok hK;rw[Zai h4]at hok hK;cases XT:r.d<;>rw[XT]at h4<;>first|(simp[rP]at h4;done)|skip
  case callS f args=>
   rw[XT]at hc hok hK;obtain⟨c,ho,cR⟩:=fz hc (.inl ⟨f,args,rfl⟩);obtain⟨fn,jx,hfn,bT,Bv,pM⟩:=kX cR;have bW:=jO (P:=P) (w:=w) (a:=a) (g:=f) (bY:= #[]) ho (λx hx=>by rw[jx]at hx;cases hx;rfl) ⟨_,jx⟩ ⟨fn,hfn,bT,Bv⟩;rw[ZbJ]at bW;rw[bW,Oper.uponIn_enter];refine⟨λhx=>(by cases hx),eQ ?_⟩;simp only[oi]at hok hK;cases hg:Γ f with
   |none=>simp[hg]at hok
   |some s=>
    simp only[hg]at hok hK;cases hk:s.st with
    |none=>simp[hk]at hok
    |some k=>
     simp only[hk]at hok hK;obtain⟨aT,rQ⟩:=(aC f s hg).st k hk _ _ hok;obtain⟨N,hN⟩:=lr;have aT:=aT N hN;refine(aT.run base W M w0 w L (c.args.map a.eval) h0.o (by simpa using gk h0.o.gl h0.tmps pM)).mono ?_;rintro e w' ⟨v,L',rfl,hO,hA,hv⟩;have:=hK _ _ _ (eP.put hR dP h0 r.dst hd hO hA hv ⟨N,λr hr=>rQ r (hN r hr)⟩);rw[<-kv];exact this
  case callv x args=>
   rw[XT]at hc hok hK;obtain⟨c,ho,cR⟩:=fz hc (.inr (.inr (.inl ⟨_,_,rfl⟩)));obtain⟨t,jx,rfl,pM⟩:=H4 cR;have ht:=h0.tmps t;simp only[oi,show bQ.ev st.tmps (.tmp t)=st.tmps t from rfl]at hok hK;cases hv:st.tmps t with
   |v tv=>
    rw[hv]at ht hok hK;cases tv with
    |fn fv bY=>
     cases fv with
     |func g=>
      simp only at hok hK;simp only[aA,bj]at ht;obtain⟨vs,hx,GJ⟩:=ht;cases hg:Γ g with
      |none=>simp[hg]at hok
      |some s=>
       simp only[hg]at hok hK;cases hk:s.st with
       |none=>
        simp only[hk]at hok hK;unfold pV at hok hK;simp only[hg]at hok hK;obtain⟨oY,tB⟩:=hok;have bW:=jO (P:=P) (w:=w) (a:=a) (g:=g) (bY:=vs) ho (λx mh=>by rw[jx]at mh;cases mh;exact hx) ⟨_,jx⟩ ((aC g s hg).pure _ tB).1.entry;rw[bW,Oper.uponIn_enter];refine⟨λhx=>(by cases hx),eQ ?_⟩;have B9:jD w W st.ab L (args.map (·.ev st.tmps)++bY.map .v) (c.args.map a.eval++vs).toList:=by
         simpa using jD.append (gk h0.o.gl h0.tmps pM) (Du GJ)
        refine(GI aC h0.o hg oY tB B9).mono ?_;rintro e w' ⟨v,rfl,hO,hA,tp⟩;have:=hK _ _ _ (eP.put hR dP h0 r.dst hd hO hA tp lr);rw[<-kv];exact this
       |some k=>
        simp only[hk]at hok hK;obtain⟨aT,rQ⟩:=(aC g s hg).st k hk _ _ hok;obtain⟨N,hN⟩:=lr;have aT:=aT N hN;have bW:=jO (P:=P) (w:=w) (a:=a) (g:=g) (bY:=vs) ho (λx mh=>by rw[jx]at mh;cases mh;exact hx) ⟨_,jx⟩ aT.entry;rw[bW,Oper.uponIn_enter];refine⟨λhx=>(by cases hx),eQ ?_⟩;have B9:jD w W st.ab L (args.map (·.ev st.tmps)++bY.map .v) (c.args.map a.eval++vs).toList:=by
         simpa using jD.append (gk h0.o.gl h0.tmps pM) (Du GJ)
        refine(aT.run base W M w0 w L _ h0.o B9).mono ?_;rintro e w' ⟨v,L',rfl,hO,hA,tp⟩;have:=hK _ _ _ (eP.put hR dP h0 r.dst hd hO hA tp ⟨N,λr hr=>rQ r (hN r hr)⟩);rw[<-kv];exact this
     |_=>simp at hok
    |mg rv=>
     simp only at hok hK;cases Xc:(dL.k:Option (Nat×(bB->bq->fI)))with
     |none=>simp[Xc]at hok
     |some p=>
      obtain⟨l,k⟩:=p;simp only[Xc]at hok hK;obtain⟨hrv,htd,pN,hkb⟩:=hok;subst hrv;simp only[aA,bj]at ht;cases hJ:κ.J with
      |some J=>
       have:=(yb.y J hJ).2.1;rw[Xc]at this;cases this
      |none=>
       have Dv:=dP;unfold oX.At at Dv;simp only[hJ]at Dv;obtain⟨ht0,rfl,rfl,rfl,rfl⟩:=Dv;cases hY:κ.Y with
       |none=>exact Zar (ht0 hY) htd
       |some p=>
        obtain⟨l',r1,s1⟩:=p;obtain⟨hb,hg,k',tU,hys'⟩:=yb.ys l' r1 s1 hY;rw[Xc]at tU;cases tU;have hgw:κ.NC st.todo=κ.gw.putObj l (.loop r1):=by
         cases htd2:st.todo with
         |nil=>exact Zar htd2 htd
         |cons _ _=>simp only[oX.NC,hY]
        rw[hgw]at Gg;have hltg:=(Zap.1 hg).1;have hlw:w.heap[l]? =some (.loop r1):=Gg.dx.Xy _ _ (World.putObj_heap_same hltg);have B9:jD w κ.W st.ab L (args.map (·.ev st.tmps)) (c.args.map a.eval).toList:=by
         simpa using gk h0.o.gl h0.tmps pM
        obtain⟨fn,tmps,assign,body,KD,H5⟩:=hys'.round w L st.ab _ (c.args.map a.eval) pN hkb lr hlw (by rw[World.uo hg]at Gg;exact Gg) h0.o B9;have bW:(execOp a.eval o).run P w=.ok (.round l fn tmps assign body) w:=by
         have:a.eval (.tmp t)=.func (.yield l) #[] #[]:=ht;simp[execOp,ho,resolve,jx,this,Deferred.ofValue,invoke,KD]
        rw[bW,Oper.uponIn_round];refine⟨λhx=>(by cases hx),v8 ?_⟩;refine H5.mono ?_;rintro e B ⟨rfl,L',hO',hA'⟩;obtain⟨r2,xV⟩:=bb ((if yGo (k (args.map (·.ev st.tmps)) st.ab).val=true then r1 else s1));rw[xV]at hA';have XB:¬Obj.plain (.loop r1):=λe=>e;have B8:KeepsC (WW κ.W st.ab L) w (w.putObj l (.loop r2)):=⟨by simp[World.putObj],λb c e fr hb _=>ou hlw XB b _ trivial hb⟩;have h1:R0 κ.base κ.W κ.M κ.w0 nt st.tmps st.ab a (w.putObj l (.loop r2)) L:=⟨h0.size,λt=>(oZ B8 (SizeOf.sizeOf (st.tmps t)+1)).1 (st.tmps t) _ (Zcc _) (h0.tmps t),uq h0.o hlw XB hb⟩;obtain⟨Ds,hDs,hDn,hDk,hDJ⟩:=hdf;obtain⟨N,hN⟩:=lr;obtain⟨go,XU⟩:=bb (yGo (k (args.map (·.ev st.tmps)) st.ab).val);have c7:(k (args.map (·.ev st.tmps)) st.ab).val=.v (.bool go):=by
         rw[<-XU];revert hkb;cases(k (args.map (·.ev st.tmps)) st.ab).val with
         |v x=>cases x<;>simp[yIs,yGo]
         |_=>simp[yIs]
        rw[XU]at xV;simp only[c7,XA]at hK;have hR:eP κ nt ⟨cU st.tmps r.dst (.v (.bool go)),(k (args.map (·.ev st.tmps)) st.ab).ab,if go=true then st.todo else []⟩ (a.put r.dst (.bool go)) B L':=by
         refine⟨⟨κ.W,κ.base,κ.M,κ.w0, ?_,h1.put r.dst hd hO' hA' (by simp[aA,bj])⟩, ?_,⟨Ds,by rw[wI];exact hDs,hDn,λD hD=>⟨hA'.dx.W8 D ?_,(hDk D hD).2⟩,hDJ⟩,hbg,⟨N,λx hx=>dL.aN _ _ Xc _ _ pN x (hN x hx)⟩⟩
         ·unfold oX.At;simp only[hJ];exact⟨(λh=>by rw[hY]at h;cases h),trivial,trivial,trivial,trivial⟩
         ·have hg2:κ.NC (if go=true then st.todo else [])=κ.gw.putObj l (.loop r2):=by
           rw[<-xV];cases go
           ·simp[oX.NC,hY]
           ·rw[Zai rfl,hgw];simp
          rw[hg2];exact(gP.Cp hltg Gg).comp hA' (λ_ h=>.inl h) (λ_ h=>h)
         ·rw[World.putObj_heap_other (by rintro rfl;rw[(hDk _ hD).1]at hlw;cases hlw)];exact(hDk D hD).1
        have:=hK _ _ _ hR;rw[<-kv,XU];exact this
    |_=>simp at hok
   |NV=>
    rw[hv]at ht hok hK;simp only[aA]at ht;cases htd:st.todo with
    |nil=>simp[htd]at hok
    |cons y rest=>
     simp only[htd]at hok hK;obtain⟨Xc,oY,harg,XV⟩:=hok;rw[htd]at dP;unfold oX.At at dP;cases hJ:κ.J with
     |none=>
      simp only[hJ]at dP;have hY:κ.Y=none:=by
       cases hY:κ.Y with
       |none=>rfl
       |some p=>obtain⟨_,_,k,hk,_⟩:=yb.ys p.1 p.2.1 p.2.2 hY;rw[Xc]at hk;cases hk
      exact Zar (dP.1 hY) (by simp)
     |some J=>
      simp only[hJ]at dP;obtain⟨hj,rfl,rfl,Xd,hw2⟩:=dP;have hY:=(yb.y J hJ).2.2;rw[oX.KC hY]at Gg;have hy:=(yb.y J hJ).1;have hbw:vO w0.heap.size w0 w:=⟨⟨h0.o.fr.os,h0.o.fr.tape,h0.o.fr.output,h0.o.fr.size,λk hk=>h0.o.fr.block k hk (λx=>x)⟩,h0.o.fr.drawn⟩;have hjw:=hy.stays W (y::rest) w0 w hj hbw;have Co:∀b,WW W st.ab L b->W b:=by
       rintro b (hb|⟨r',o',h1,_⟩)
       ·exact hb
       ·rw[XV]at h1;cases h1
      have N7:fN w W y (c.args.map a.eval).toList:=by
       rw[<-harg];have:=mD W (fY:=false) h0.o (λx=>by cases x) (λb hb=>.inl hb) (gk h0.o.gl h0.tmps pM) oY;simpa using this
      obtain⟨fn,tmps,assign,body,KD,H5⟩:=hy.round W y rest (c.args.map a.eval) w hjw N7;have bW:(execOp a.eval o).run P w=.ok (.round L.yl fn tmps assign body) w:=by
       rw[<-Gg.yl]at KD;have:a.eval (.tmp t)=.func (.yield L.yl) #[] #[]:=ht;simp[execOp,ho,resolve,jx,this,Deferred.ofValue,invoke,KD]
      rw[bW,Oper.uponIn_round];refine⟨λhx=>(by cases hx),v8 ?_⟩;rw[<-Gg.yl]at H5;refine H5.mono ?_;rintro e B ⟨rfl,W',hj',tU,fp,hmono⟩;have Dw:∀b,W b->b<w.heap.size:=λb hb=>by
       have h1:=h0.o.under b hb;have h2:=h0.o.fr.size;omega
      have hA0:gP W st.ab L w st.ab L B:=gP.cQ (tU.mono λb hb=>.inl hb);obtain⟨Ds,hDs,hDn,hDk,hDJ⟩:=hdf;have XW:B4 W W' st.ab L w st.ab L B:=by
       refine⟨tU.mono λb hb=>.inl hb,λb hb hw=>?_,λr o hr _=>⟨rfl,o,hr,rfl⟩,λr bD e sz av hr=>⟨bD,e,sz,av,hr,Zaf _,λ_=>⟨rfl,rfl,rfl⟩⟩,rfl⟩;rcases hw with hw|⟨r',o',h1,_⟩
       ·rcases(fp b hw).2 with h2|h2
        ·exact .inl h2
        ·omega
       ·rw[XV]at h1;cases h1
      have move:∀(d:DV) (x:Value),aA w W st.ab L d x->aA B W' st.ab L d x:=aA.eZ XW;have hO':ct B.heap.size W' (λ_=>False) B st.ab B L:=by
       refine⟨Fr.refl (Zaf _),λr o ho=>?_,λr r' o o' b _ ho=>?_,λr o b ho=>?_,λb hb=>(fp b hb).1,h0.o.gl.bi XW.dx.toKeepsC XW.sub⟩;all_goals rw[XV]at ho;cases ho
      have hR:eP κ nt ⟨cU st.tmps r.dst (.v (.bool true)),st.ab,rest⟩ (a.put r.dst (.bool true)) B L:=by
       refine⟨⟨W',B.heap.size,λ_=>False,B, ?_, ?_⟩,(by rw[oX.KC hY];exact Gg.comp hA0 Xd hw2),⟨Ds,by rw[wI];exact hDs,hDn,λD hD=>⟨tU.W8 D (hDk D hD).1,(hDk D hD).2⟩,hDJ⟩,hbg,lr⟩
       ·unfold oX.At;simp only[hJ];refine⟨hj',trivial,trivial,λb hb=>?_,λb hb=>hmono b (hw2 b hb)⟩;rcases(fp b hb).2 with h1|h1
        ·exact Xd b h1
        ·exact .inr (ZaP Gg.dx.size h1)
       ·have h1:R0 B.heap.size W' (λ_=>False) B nt st.tmps st.ab a B L:=⟨h0.size,λt=>move _ _ (h0.tmps t),hO'⟩;exact h1.put r.dst hd hO' (gP.cQ (dg.refl _ _)) (by simp[aA,bj])
      have:=hK _ _ _ hR;rw[<-kv];exact this
   |nG fv bY=>
    rw[hv]at ht hok hK;cases fv with
    |func g=>
     simp only at hok hK;simp only[aA]at ht;obtain⟨vs,hx,GJ⟩:=ht;cases hg:Γ g with
     |none=>simp[hg]at hok
     |some s=>
      simp only[hg]at hok hK;cases hk:s.st with
      |none=>simp[hk]at hok
      |some k=>
       simp only[hk]at hok hK;obtain⟨aT,rQ⟩:=(aC g s hg).st k hk _ _ hok;obtain⟨N,hN⟩:=lr;have aT:=aT N hN;have bW:=jO (P:=P) (w:=w) (a:=a) (g:=g) (bY:=vs) ho (λx mh=>by rw[jx]at mh;cases mh;exact hx) ⟨_,jx⟩ aT.entry;rw[bW,Oper.uponIn_enter];refine⟨λhx=>(by cases hx),eQ ?_⟩;have B9:jD w W st.ab L (args.map (·.ev st.tmps)++bY) (c.args.map a.eval++vs).toList:=by
        simpa using jD.append (gk h0.o.gl h0.tmps pM) (Bu GJ)
       refine(aT.run base W M w0 w L _ h0.o B9).mono ?_;rintro e w' ⟨v,L',rfl,hO,hA,tp⟩;have:=hK _ _ _ (eP.put hR dP h0 r.dst hd hO hA tp ⟨N,λr hr=>rQ r (hN r hr)⟩);rw[<-kv];exact this
    |_=>simp at hok
   |_=>rw[hv]at hok;simp at hok
  case entryM x=>
   rw[XT]at hc hok hK;have Xb:dz P o=some (.entryM x):=hc;obtain⟨y,ho,hy⟩:=Ge Xb;simp only[oi]at hok hK;obtain⟨nx,v,w',L',bW,Dx,hO,hA,hv⟩:=H6 h0.o ho (bQ.bP h0.o.gl h0.tmps hy) hok;have oV:(kV st.ab (x.ev st.tmps)).put=none:=by unfold kV;(repeat' split)<;>rfl
   rw[oV]at hO hA hv;rw[bW];rcases Dx with rfl|⟨rfl,rfl⟩
   ·rw[Oper.uponIn_value,<-kv];exact hK _ _ _ (eP.put hR dP h0 r.dst hd hO hA hv lr)
   ·rw[Oper.uponIn_skip,<-kv];exact hK _ _ _ (eP.put hR dP h0 r.dst hd hO hA hv lr)
 ·have h4':rP r.d=false:=by simpa using h4
  have Xa:=hc;have hbdF:∀f args,r.d=.callF f args->Bt r.d=.call f args:=λf args h=>by rw[h];rfl
  unfold post at hok hK;rw[Zab h4]at hok hK;simp only at hok hK;by_cases nP:∃f args,r.d=.call f args
  ·obtain⟨f,args,Vq⟩:=nP;rw[Vq]at hc;obtain⟨c,ho,cR⟩:=fz hc (.inl ⟨f,args,rfl⟩);obtain⟨fn,jx,hfn,bT,Bv,pM⟩:=kX cR;have bW:=jO (P:=P) (w:=w) (a:=a) (g:=f) (bY:= #[]) ho (λx hx=>by rw[jx]at hx;cases hx;rfl) ⟨_,jx⟩ ⟨fn,hfn,bT,Bv⟩;rw[ZbJ]at bW;rw[bW,Oper.uponIn_enter];refine⟨λhx=>(by cases hx),eQ ?_⟩;simp only[oq,Vq,dj,pV]at hok hK;cases hg:Γ f with
   |none=>simp[hg,cZ]at hok
   |some s=>
    simp only[hg]at hok hK;obtain⟨oY,tB⟩:=hok;refine(GI aC h0.o hg oY tB (cA:=c.args.map a.eval) (by simpa using gk h0.o.gl h0.tmps pM)).mono ?_;rintro e w' ⟨v,rfl,hO,hA,tp⟩;have:=hK _ _ _ (eP.put hR dP h0 r.dst hd hO hA tp lr);rw[<-kv];exact this
  ·by_cases N9:∃f args,r.d=.callF f args
   ·obtain⟨f,args,Vq⟩:=N9;have gI:dz P o=some (.call f args):=by rw[<-hbdF f args Vq];exact Xa
    obtain⟨c,ho,cR⟩:=fz gI (.inl ⟨f,args,rfl⟩);obtain⟨fn,jx,hfn,bT,Bv,pM⟩:=kX cR;have bW:=jO (P:=P) (w:=w) (a:=a) (g:=f) (bY:= #[]) ho (λx hx=>by rw[jx]at hx;cases hx;rfl) ⟨_,jx⟩ ⟨fn,hfn,bT,Bv⟩;rw[ZbJ]at bW;rw[bW,Oper.uponIn_enter];refine⟨λhx=>(by cases hx),eQ ?_⟩;simp only[oq,Vq,dj,oT]at hok hK;cases hg:Γ f with
    |none=>simp[hg,cZ]at hok
    |some s=>
     simp only[hg]at hok hK;cases xK:s.fresh with
     |none=>simp[xK,cZ]at hok
     |some q=>
      obtain⟨e,sz⟩:=q;simp only[xK]at hok hK;cases hrw:s.fn (ji st.ab (args.map (·.ev st.tmps)))<;>simp only[hrw,cZ]at hok hK<;>try exact hok.elim
      rename_i av;obtain⟨oY,tB⟩:=hok;obtain⟨eN,h1,h2,h3⟩:=(aC f s hg).fresh e sz xK _ tB;rw[hrw]at h1;cases h1;refine(N8 h0.o oY h2 h3 (cA:=c.args.map a.eval) (by simpa using gk h0.o.gl h0.tmps pM) hname).mono ?_;rintro e' w' ⟨v,L',rfl,hO,hA,tp⟩;have Dy:∃N,∀r',N<=r'->(cG st.ab (some (bN aJ r.dst,.arr 0 e sz av))) r'=none:=by
       obtain⟨N,hN⟩:=lr;refine⟨max N (bN aJ r.dst+1),λr' gD=>?_⟩;simp only[cG];rw[Zab (by omega)];exact hN r' (by omega)
      have:=hK _ _ _ (eP.put hR dP h0 r.dst hd hO hA tp Dy);rw[<-kv];exact this
   by_cases Oa:∃f args,r.d=.callR f args
   ·obtain⟨f,args,Vq⟩:=Oa;have gI:dz P o=some (.call f args):=by rw[show(rO.call f args)=Bt r.d by rw[Vq];rfl];exact Xa
    obtain⟨c,ho,cR⟩:=fz gI (.inl ⟨f,args,rfl⟩);obtain⟨fn,jx,hfn,bT,Bv,pM⟩:=kX cR;have bW:=jO (P:=P) (w:=w) (a:=a) (g:=f) (bY:= #[]) ho (λx hx=>by rw[jx]at hx;cases hx;rfl) ⟨_,jx⟩ ⟨fn,hfn,bT,Bv⟩;rw[ZbJ]at bW;rw[bW,Oper.uponIn_enter];refine⟨λhx=>(by cases hx),eQ ?_⟩;simp only[oq,Vq,dj,oS]at hok hK;cases hg:Γ f with
    |none=>simp[hg,cZ]at hok
    |some s=>
     simp only[hg]at hok hK;cases hk:s.st with
     |none=>simp[hk,cZ]at hok
     |some k=>
      simp only[hk]at hok hK;obtain⟨H7,XV,c7⟩:=hok st.ab (λ_ _=>rfl);obtain⟨aT,rQ⟩:=(aC f s hg).st k hk _ _ H7;obtain⟨N,hN⟩:=lr;have aT:=aT N hN;refine(aT.run base W M w0 w L (c.args.map a.eval) h0.o (by simpa using gk h0.o.gl h0.tmps pM)).mono ?_;rintro e w' ⟨v,L',rfl,hO,hA,hv⟩;rw[XV]at hO hA hv;rw[c7]at hv;have:=hK _ _ _ (eP.put hR dP h0 r.dst hd hO hA hv ⟨N,hN⟩);rw[<-kv];exact this
   by_cases hmkB:∃e sz N4 zero n,r.d=.mkSliceB e sz N4 zero n
   ·obtain⟨e,sz,N4,zero,n,Vq⟩:=hmkB;have gI:dz P o=some (.mkSlice e sz N4 zero n):=by rw[show(rO.mkSlice e sz N4 zero n)=Bt r.d by rw[Vq];rfl];exact Xa
    simp only[oq,Vq,dj]at hok hK;obtain⟨nx,v,w',L',bW,Dx,hO,hA,hv⟩:=Vp h0.o gI h0.tmps hname hok;have Dy:∃N,∀r',N<=r'->(cG st.ab (gh sz N4 zero (bN aJ r.dst) (n.ev st.tmps)).put) r'=none:=by
     obtain⟨N,hN⟩:=lr;cases hp:(gh sz N4 zero (bN aJ r.dst) (n.ev st.tmps)).put with
     |none=>exact⟨N,hN⟩
     |some q=>
      obtain⟨t,o'⟩:=q;refine⟨max N (t+1),λr' gD=>?_⟩;simp only[cG];rw[Zab (by omega)];exact hN r' (by omega)
    rw[bW];rcases Dx with rfl|⟨rfl,rfl⟩
    ·rw[Oper.uponIn_value,<-kv];exact hK _ _ _ (eP.put hR dP h0 r.dst hd hO hA hv Dy)
    ·rw[Oper.uponIn_skip,<-kv];exact hK _ _ _ (eP.put hR dP h0 r.dst hd hO hA hv Dy)
   have hbd:Bt r.d=r.d:=by
    cases XT:r.d<;>rw[XT]at h4' N9 Oa hmkB<;>first|rfl|(simp[rP]at h4';done)|exact Zar ⟨_,_,rfl⟩ N9|exact Zar ⟨_,_,rfl⟩ Oa|exact Zar ⟨_,_,_,_,_,rfl⟩ hmkB
   rw[hbd]at hc;have Dy:∃N,∀r',N<=r'->(cG st.ab (oq Γ aJ r st).put) r'=none:=by
    obtain⟨N,hN⟩:=lr;cases hp:(oq Γ aJ r st).put with
    |none=>exact⟨N,hN⟩
    |some q=>
     obtain⟨t,o'⟩:=q;refine⟨max N (t+1),λr' gD=>?_⟩;simp only[cG];rw[Zab (by omega)];exact hN r' (by omega)
   obtain⟨nx,v,w',L',bW,Dx,hO,hA,hv⟩:=XP (Γ:=Γ) (name:=bN aJ r.dst) hc (λf args e=>nP ⟨f,args,e⟩) h0.tmps h0.o hname hok;rw[bW];rcases Dx with rfl|⟨rfl,rfl⟩
   ·rw[Oper.uponIn_value,<-kv];exact hK _ _ _ (eP.put hR dP h0 r.dst hd hO hA hv Dy)
   ·rw[Oper.uponIn_skip,<-kv];exact hK _ _ _ (eP.put hR dP h0 r.dst hd hO hA hv Dy)
end
end
section
variable{xs:List bQ}{r:Nat}
variable [bI]
def nI:rO->Nat
 |.alloc _|.box _|.mkSlice .. |.mkSliceB .. |.mkMap .. =>2
 |.store .. |.append .. |.mapUpd .. |.mapEnt .. |.entSt .. |.mapDel .. |.copy .. |.rangeM _|.callF .. =>3
 |.load .. |.eqT .. |.idxAddr .. |.len _|.call .. |.callR .. |.slice .. |.lookup .. |.lenM _|.isNil .. =>1
 |.callS .. |.callv .. |.entryM _=>4
 |_=>0
section
variable{Γ:pI}{d:rO}{name:Nat}{ρ XX:dw}{ab aI:bq}
def jP(h:∀x∈xs,x.ev ρ=x.ev XX):xs.map (·.ev ρ)=xs.map (·.ev XX):=Zbq h
def Ad(h:∀x∈bG d,x.ev ρ=x.ev XX):dj Γ d name ρ ab=dj Γ d name XX ab:=by
 cases d;case build z ps=>
  have:ps.map (λp=>(p.1,p.2.1,p.2.2.ev ρ))=ps.map (λp=>(p.1,p.2.1,p.2.2.ev XX)):=Zbq λp hp=>by rw[h p.2.2 (Zak.2 ⟨p,hp,rfl⟩)]
  simp only[dj,this]
 case bslice n sz z ps=>
  have:ps.map (λp=>(p.1,p.2.1,p.2.2.ev ρ))=ps.map (λp=>(p.1,p.2.1,p.2.2.ev XX)):=Zbq λp hp=>by rw[h p.2.2 (Zak.2 ⟨p,hp,rfl⟩)]
  simp only[dj,this]
 case slice sz x lo hi=>
  have h1:=h x (by simp[bG]);have h2:lo.map (·.ev ρ)=lo.map (·.ev XX):=by cases lo<;>simp;exact h _ (by simp[bG])
  have h3:hi.map (·.ev ρ)=hi.map (·.ev XX):=by cases hi<;>simp;exact h _ (by simp[bG])
  simp only[dj,h1,h2,h3]
 case call f xs=>simp only[dj,jP (xs:=xs) h]
 case callF f xs=>simp only[dj,jP (xs:=xs) h]
 case callR f xs=>simp only[dj,jP (xs:=xs) h]
 case callS f xs=>rfl
 case callv x xs=>rfl
 case mkFn f xs=>simp only[dj,jP (xs:=xs) h]
 all_goals (simp only[bG,Zah,Zal,or_false,forall_eq_or_imp,forall_eq]at h;simp only[dj,h])
def Dz(h:nI d=0\/nI d=2):dj Γ d name ρ ab=dj Γ d name ρ aI:=by
 cases d<;>first|rfl|(simp[nI]at h;done)
mutual
def fg(ab:bq):DV->Prop
 |.ptr r _|.bA r _|.ka r _ _ _|.iE r|.iter r|.u9 r _ _ _|.F9 r _=>ab r≠none
 |.agg cs|.eo cs|.nG _ cs=>fZ ab cs
 |_=>True
def fZ(ab:bq):bB->Prop
 |[]=>True
 |d::ds=>fg ab d/\fZ ab ds
end
mutual
def fg.bP{w:World}{W:fo}{L:Loc}:∀(d:DV) (x:Value),aA w W ab L d x->fg ab d
 |.ptr r off,x,h=>by simp only[aA]at h;obtain⟨⟨cs,hc⟩,_⟩:=h;simp[fg,hc]
 |.F9 r n,x,h=>by simp only[aA]at h;obtain⟨⟨cs,hc⟩,_⟩:=h;simp[fg,hc]
 |.bA r bD,x,h=>by simp only[aA]at h;obtain⟨_,v,e,s,av,hc,_⟩:=h;simp[fg,hc]
 |.ka r bD i off,x,h=>by simp only[aA]at h;obtain⟨_,v,e,s,av,hc,_⟩:=h;simp[fg,hc]
 |.iE r,x,h=>by simp only[aA]at h;obtain⟨⟨_,_,_,_,hc⟩,_⟩:=h;simp[fg,hc]
 |.iter r,x,h=>by simp only[aA]at h;obtain⟨⟨_,_,_,_,hc⟩,_⟩:=h;simp[fg,hc]
 |.u9 r bD lo n,x,h=>by simp only[aA]at h;obtain⟨_,v,e,s,av,hc,_⟩:=h;simp[fg,hc]
 |.eo cs,x,h=>by simp only[aA]at h;obtain⟨vs,_,hr⟩:=h;simp only[fg];exact fZ.QA cs _ hr
 |.nG f cs,x,h=>by simp only[aA]at h;obtain⟨vs,_,hr⟩:=h;simp only[fg];exact fZ.bP cs _ hr
 |.agg cs,x,h=>by simp only[aA]at h;obtain⟨vs,_,hr⟩:=h;simp only[fg];exact fZ.bP cs _ hr
 |.undef,_,_|.skip,_,_|.v _,_,_|.aW,_,_|.l7 _ _ _,_,_|.iD _ _,_,_|.NV,_,_=>by simp[fg]
def fZ.bP{w:World}{W:fo}{L:Loc}:∀(ds:bB) (xs:List Value),aQ w W ab L ds xs->fZ ab ds
 |[],_,_=>by simp[fZ]
 |d::ds,xs,h=>by
  simp only[aQ]at h;obtain⟨x,lz,_,_,h1,h2⟩:=h;simp only[fZ];exact⟨fg.bP d x h1,fZ.bP ds lz h2⟩
def fZ.QA{w:World}{W:fo}{L:Loc}:∀(ds:bB) (xs:List Value),eE w W ab L ds xs->fZ ab ds
 |[],_,_=>by simp[fZ]
 |d::ds,xs,h=>by
  simp only[eE]at h;obtain⟨x,lz,_,h1,h2⟩:=h;simp only[fZ];exact⟨fg.bP d x h1,fZ.QA ds lz h2⟩
end
mutual
def fg.aN:∀(d:DV),fg ab d->∀n∈aN d,ab n≠none
 |.ptr r off,h,n,hn=>by simp only[DM.aN,Zan]at hn;subst hn;simpa only[fg]using h
 |.F9 r m,h,n,hn=>by simp only[DM.aN,Zan]at hn;subst hn;simpa only[fg]using h
 |.bA r bD,h,n,hn=>by simp only[DM.aN,Zan]at hn;subst hn;simpa only[fg]using h
 |.ka r bD i off,h,n,hn=>by simp only[DM.aN,Zan]at hn;subst hn;simpa only[fg]using h
 |.iE r,h,n,hn=>by simp only[DM.aN,Zan]at hn;subst hn;simpa only[fg]using h
 |.iter r,h,n,hn=>by simp only[DM.aN,Zan]at hn;subst hn;simpa only[fg]using h
 |.u9 r _ _ _,h,n,hn=>by simp only[DM.aN,Zan]at hn;subst hn;simpa only[fg]using h
 |.eo cs,h,n,hn=>by simp only[DM.aN]at hn;simp only[fg]at h;exact fZ.aN cs h n hn
 |.nG f cs,h,n,hn=>by simp only[DM.aN]at hn;simp only[fg]at h;exact fZ.aN cs h n hn
 |.agg cs,h,n,hn=>by simp only[DM.aN]at hn;simp only[fg]at h;exact fZ.aN cs h n hn
 |.NV,_,n,hn|.undef,_,n,hn|.skip,_,n,hn|.v _,_,n,hn|.aW,_,n,hn|.l7 _ _ _,_,n,hn|.iD _ _,_,n,hn=>by simp[DM.aN]at hn
def fZ.aN:∀(ds:bB),fZ ab ds->∀n∈bM ds,ab n≠none
 |[],_,n,hn=>by simp[bM]at hn
 |d::ds,h,n,hn=>by
  simp only[fZ]at h;simp only[bM,Zaq]at hn;rcases hn with hn|hn
  ·exact fg.aN d h.1 n hn
  ·exact fZ.aN ds h.2 n hn
end
def Ext(ab aI:bq):Prop:=∀r,ab r≠none->aI r=ab r
mutual
def H8:∀(d:DV),(∀n∈aN d,aI n=ab n)->tz aI d=tz ab d
 |.bA r bD,hr=>by simp only[tz,hr r (by simp[aN])]
 |.agg cs,hr=>by simp only[tz,qT cs (λn hn=>hr n (by simpa only[aN]using hn))]
 |.nG f cs,hr=>by simp only[tz,qT cs (λn hn=>hr n (by simpa only[aN]using hn))]
 |.u9 r bD lo n,hr=>by simp only[tz,hr r (by simp[aN])]
 |.undef,_|.skip,_|.v _,_|.aW,_|.ptr _ _,_|.l7 _ _ _,_|.iD _ _,_|.ka _ _ _ _,_|.NV,_|.iE _,_|.iter _,_|.eo _,_|.F9 _ _,_=>by simp[tz]
def qT:∀(ds:bB),(∀n∈bM ds,aI n=ab n)->ji aI ds=ji ab ds
 |[],_=>rfl
 |d::ds,hr=>by simp only[ji,H8 d (λn hn=>hr n (by simp[bM,hn])),qT ds (λn hn=>hr n (by simp[bM,hn]))]
end
mutual
def H9(l:Bool):∀(d:DV),(∀n∈aN d,aI n=ab n)->F3 l aI d=F3 l ab d
 |.bA r bD,hr=>by simp only[F3,hr r (by simp[aN])]
 |.agg cs,hr=>by simp only[F3,ur l cs (λn hn=>hr n (by simpa only[aN]using hn))]
 |.nG f cs,hr=>by simp only[F3,ur l cs (λn hn=>hr n (by simpa only[aN]using hn))]
 |.u9 r bD lo n,hr=>by simp only[F3,hr r (by simp[aN])]
 |.undef,_|.skip,_|.v _,_|.aW,_|.ptr _ _,_|.l7 _ _ _,_|.iD _ _,_|.ka _ _ _ _,_|.NV,_|.iE _,_|.iter _,_|.eo _,_|.F9 _ _,_=>by simp[F3]
def ur(l:Bool):∀(ds:bB),(∀n∈bM ds,aI n=ab n)->tA l aI ds=tA l ab ds
 |[],_=>rfl
 |d::ds,hr=>by simp only[tA,H9 l d (λn hn=>hr n (by simp[bM,hn])),ur l ds (λn hn=>hr n (by simp[bM,hn]))]
end
def o6{n:Nat}:n∈bM (xs.map (·.ev ρ))->∃x∈xs,n∈aN (x.ev ρ):=by
 induction xs with
 |nil=>simp[bM]
 |cons x xs ih=>
  simp only[ZaA,bM,Zaq];rintro(h|h)
  ·exact⟨x,by simp,h⟩
  ·obtain⟨y,hy,hn⟩:=ih h;exact⟨y,by simp[hy],hn⟩
def KE(d:DV):∀n∈bM (cellsOf d),n∈aN d:=by
 have hv:∀cs:aK,bM (cs.map .v)=[]:=by
  intro cs;induction cs with
  |nil=>rfl
  |cons c cs ih=>simp only[ZaA,bM,aN,ih,ZaC]
 intro n hn;cases d with
 |v t=>cases t<;>simp[cellsOf,bM,aN,hv]at hn
 |agg cs=>simpa [cellsOf,aN]using hn
 |_=>simpa [cellsOf,bM]using hn
def Bw{d:DV}(hy:∀n∈aN d,aI n=ab n):fL aI d=fL ab d:=by
 cases d<;>simp only[aN,Zan,forall_eq]at hy<;>first|rfl|(simp only[fL,hy];done)|skip
 rename_i t;cases t<;>first|rfl|skip
 rename_i v;cases v<;>first|rfl|skip
 rename_i p n c;cases n<;>rfl
def Ae(hr:∀x∈bG d,∀n∈aN (x.ev ρ),aI n=ab n):dj Γ d name ρ aI=dj Γ d name ρ ab:=by
 by_cases h0:nI d=0\/nI d=2
 ·exact Dz h0
 cases d<;>first|exact Zar (Or.inl rfl) h0|exact Zar (Or.inr rfl) h0|rfl|skip
 case load n agg x=>
  have hx:=hr x (by simp[bG]);simp only[dj];cases hv:x.ev ρ<;>rw[hv]at hx<;>simp only[aN,Zan,forall_eq]at hx<;>first|rfl|(simp only[iF,hx];done)|(rename_i t;cases t<;>rfl)
 case store n x y=>
  have hx:=hr x (by simp[bG]);have hy:=hr y (by simp[bG]);have hyc:ji aI (cellsOf (y.ev ρ))=ji ab (cellsOf (y.ev ρ)):=qT _ λn hn=>hy n (KE _ n hn);simp only[dj];cases hv:x.ev ρ<;>rw[hv]at hx<;>simp only[aN,Zan,forall_eq]at hx<;>first|rfl|(simp only[lG,hx,hyc];done)|(rename_i t;cases t<;>rfl)
 case eqT neg agg cj x y=>
  have hx:=hr x (by simp[bG]);have hy:=hr y (by simp[bG]);simp only[dj,H9 true _ hx,H9 true _ hy,H8 _ hx,H8 _ hy]
 case idxAddr sz x i=>
  have hx:=hr x (by simp[bG]);simp only[dj];cases hv:x.ev ρ<;>rw[hv]at hx<;>simp only[aN,Zan,forall_eq]at hx<;>first|rfl|skip
  ·rename_i t;cases t<;>first|rfl|(cases i.ev ρ<;>first|rfl|(rename_i t;cases t<;>rfl))
  ·cases i.ev ρ<;>first|rfl|skip
   rename_i t;cases t<;>first|rfl|(simp only[rZ,hx])
  ·cases i.ev ρ<;>first|rfl|skip
   rename_i t;cases t<;>first|rfl|(simp only[rZ,hx])
  ·cases i.ev ρ<;>first|rfl|skip
   rename_i t;cases t<;>rfl
 case len x=>
  have hx:=hr x (by simp[bG]);simp only[dj];cases hv:x.ev ρ<;>rw[hv]at hx<;>simp only[aN,Zan,forall_eq]at hx<;>first|rfl|(simp only[wC,hx];done)|(rename_i t;cases t<;>rfl)
 case call f xs=>
  have hx:∀n∈bM (xs.map (·.ev ρ)),aI n=ab n:=λn hn=>by obtain⟨x,hx,hn⟩:=o6 hn;exact hr x hx n hn
  simp only[dj,pV,ur _ _ hx,qT _ hx]
 case callF f xs=>
  have hx:∀n∈bM (xs.map (·.ev ρ)),aI n=ab n:=λn hn=>by obtain⟨x,hx,hn⟩:=o6 hn;exact hr x hx n hn
  simp only[dj,oT,ur _ _ hx,qT _ hx]
 case callR f xs=>
  have hx:∀n∈bM (xs.map (·.ev ρ)),aI n=ab n:=λn hn=>by obtain⟨x,hx,hn⟩:=o6 hn;exact hr x hx n hn
  simp only[dj,HK hx]
 case append e sz bytes x y=>
  have hx:=hr x (by simp[bG]);have hy:=hr y (by simp[bG]);have hs:fL aI (y.ev ρ)=fL ab (y.ev ρ):=Bw hy;simp only[dj,ir,hs];cases fL ab (y.ev ρ)with
  |none=>rfl
  |some ys=>
   cases hv:x.ev ρ<;>rw[hv]at hx<;>simp only[aN,Zan,forall_eq]at hx<;>first|rfl|(simp only[hx];done)|(rename_i t;cases t<;>rfl)|skip
   rename_i r bD lo n;cases lo<;>simp only[hx]
 case slice sz x lo hi=>
  have hx:=hr x (by simp[bG]);simp only[dj];cases hv:x.ev ρ<;>rw[hv]at hx<;>simp only[aN,Zan,forall_eq]at hx<;>first|rfl|(simp only[jA,hx];done)|(rename_i t;cases t<;>rfl)
 case lookup cj agg z ok x k=>
  have hx:=hr x (by simp[bG]);simp only[dj];cases hv:x.ev ρ<;>rw[hv]at hx<;>simp only[aN,Zan,forall_eq]at hx<;>first|rfl|(rename_i t;cases t<;>rfl)|(cases hkk:zV (k.ev ρ)<;>simp only[mw,hx,hkk])
 case mapUpd cj agg x k y=>
  have hx:=hr x (by simp[bG]);simp only[dj];cases hv:x.ev ρ<;>rw[hv]at hx<;>simp only[aN,Zan,forall_eq]at hx<;>first|rfl|(rename_i t;cases t<;>rfl)|(cases hkk:zV (k.ev ρ)<;>simp only[ja,hx,hkk])
 case mapEnt cj agg z x k=>
  have hx:=hr x (by simp[bG]);simp only[dj];cases hv:x.ev ρ<;>rw[hv]at hx<;>simp only[aN,Zan,forall_eq]at hx<;>first|rfl|(rename_i t;cases t<;>rfl)|(cases hkk:zV (k.ev ρ)<;>simp only[jd,hx,hkk])
 case entSt x s y=>
  have hx:=hr x (by simp[bG]);simp only[dj];cases hv:x.ev ρ<;>rw[hv]at hx<;>simp only[aN,Zan,forall_eq]at hx<;>first|rfl|(rename_i t;cases t<;>rfl)|(unfold ku;split<;>first|rfl|(rename_i e _;cases e;simp only[hx]))
 case mapDel cj agg x k=>
  have hx:=hr x (by simp[bG]);simp only[dj];cases hv:x.ev ρ<;>rw[hv]at hx<;>simp only[aN,Zan,forall_eq]at hx<;>first|rfl|(rename_i t;cases t<;>rfl)|(cases hkk:zV (k.ev ρ)<;>simp only[je,hx,hkk])
 case lenM x=>
  have hx:=hr x (by simp[bG]);simp only[dj];cases hv:x.ev ρ<;>rw[hv]at hx<;>simp only[aN,Zan,forall_eq]at hx<;>first|rfl|(simp only[r9,hx];done)|(rename_i t;cases t<;>rfl)
 case rangeM x=>
  have hx:=hr x (by simp[bG]);simp only[dj];cases hv:x.ev ρ<;>rw[hv]at hx<;>simp only[aN,Zan,forall_eq]at hx<;>first|rfl|(simp only[kU,hx];done)|(rename_i t;cases t<;>rfl)
 case isNil kind neg x=>
  have hx:=hr x (by simp[bG]);simp only[dj];cases hv:x.ev ρ<;>rw[hv]at hx<;>simp only[aN,Zan,forall_eq]at hx<;>first|rfl|(simp only[gj,hx];done)|(unfold gj;split<;>first|rfl|(rename_i e;cases e))
 case copy sz x y=>
  have hx:=hr x (by simp[bG]);have hy:=hr y (by simp[bG]);simp only[dj,jN,Bw hy];cases fL ab (y.ev ρ)with
  |none=>rfl
  |some ys=>
   cases hv:x.ev ρ<;>rw[hv]at hx<;>simp only[aN,Zan,forall_eq]at hx<;>first|rfl|(simp only[hx];done)|(rename_i t;cases t<;>rfl)
def sem_ext(h:Ext ab aI)(hr:∀x∈bG d,fg ab (x.ev ρ)):dj Γ d name ρ aI=dj Γ d name ρ ab:=
 Ae λx hx n hn=>h n (fg.aN _ (hr x hx) n hn)
def ut:rO->Bool
 |.alloc _|.box _|.mkSlice .. |.mkSliceB .. |.append .. |.mkMap .. |.rangeM _|.callF .. =>true
 |_=>false
def vf{o:Ob}(h:nI d=3)(hp:(dj Γ d name ρ ab).put=some (r,o)):r=name\/∃x∈bG d,r∈aN (x.ev ρ):=by
 cases d<;>first|(simp[nI]at h;done)|skip
 case store n x y=>
  simp only[dj]at hp;unfold lG at hp;split at hp
  ·rename_i hv;split at hp
   ·simp only[Zaa,Zav]at hp;obtain⟨rfl,_⟩:=hp;exact .inr ⟨x,by simp[bG],by simp[hv,aN]⟩
   ·cases hp
  ·rename_i hv;split at hp
   ·simp only[Zaa,Zav]at hp;obtain⟨rfl,_⟩:=hp;exact .inr ⟨x,by simp[bG],by simp[hv,aN]⟩
   ·cases hp
  ·cases hp
 case append e sz N4 x y=>
  simp only[dj]at hp;unfold ir at hp;split at hp
  ·cases hp
  ·split at hp
   ·simp only[Zaa,Zav]at hp;exact .inl hp.1.symm
   ·rename_i hv;split at hp
    ·simp only[Zaa,Zav]at hp;obtain⟨rfl,_⟩:=hp;exact .inr ⟨x,by simp[bG],by simp[hv,aN]⟩
    ·cases hp
   ·rename_i hv;split at hp
    ·simp only[Zaa,Zav]at hp;obtain⟨rfl,_⟩:=hp;exact .inr ⟨x,by simp[bG],by simp[hv,aN]⟩
    ·cases hp
   ·cases hp
 case copy sz x y=>
  simp only[dj]at hp;unfold jN at hp;split at hp
  ·cases hp
  ·split at hp
   ·rename_i hv;split at hp
    ·simp only[Zaa,Zav]at hp;obtain⟨rfl,_⟩:=hp;exact .inr ⟨x,by simp[bG],by simp[hv,aN]⟩
    ·cases hp
   ·rename_i hv;split at hp
    ·simp only[Zaa,Zav]at hp;obtain⟨rfl,_⟩:=hp;exact .inr ⟨x,by simp[bG],by simp[hv,aN]⟩
    ·cases hp
   ·cases hp
 case mapUpd cj agg x k y=>
  simp only[dj]at hp;unfold ja at hp;split at hp
  ·rename_i hv _;split at hp
   ·simp only[Zaa,Zav]at hp;obtain⟨rfl,_⟩:=hp;exact .inr ⟨x,by simp[bG],by simp[hv,aN]⟩
   ·cases hp
  ·cases hp
 case mapEnt cj agg z x k=>
  simp only[dj]at hp;unfold jd at hp;split at hp
  ·rename_i hv _;split at hp
   ·simp only[Zaa,Zav]at hp;obtain⟨rfl,_⟩:=hp;exact .inr ⟨x,by simp[bG],by simp[hv,aN]⟩
   ·cases hp
  ·cases hp
 case entSt x s y=>
  simp only[dj]at hp;unfold ku at hp;split at hp
  ·rename_i hv _;split at hp
   ·split at hp
    ·simp only[Zaa,Zav]at hp;obtain⟨rfl,_⟩:=hp;exact .inr ⟨x,by simp[bG],by simp[hv,aN]⟩
    ·cases hp
   ·cases hp
  ·cases hp
 case mapDel cj agg x k=>
  simp only[dj]at hp;unfold je at hp;split at hp
  ·rename_i hv _;split at hp
   ·simp only[Zaa,Zav]at hp;obtain⟨rfl,_⟩:=hp;exact .inr ⟨x,by simp[bG],by simp[hv,aN]⟩
   ·cases hp
  ·cases hp
 case rangeM x=>
  simp only[dj]at hp;unfold kU at hp;split at hp
  ·split at hp
   ·simp only[Zaa,Zav]at hp;exact .inl hp.1.symm
   ·cases hp
  ·cases hp
 case callF f xs=>
  simp only[dj]at hp;unfold oT at hp
  (repeat' split at hp)<;>first|(cases hp;done)|(simp only[Zaa,Zav]at hp;exact .inl hp.1.symm)
def Oc{o:Ob}(h:nI d=3)(hl:ut d=false)(hp:(dj Γ d name ρ ab).put=some (r,o)):∃x∈bG d,r∈aN (x.ev ρ):=by
 cases d<;>first|(simp[nI]at h;done)|(simp[ut]at hl;done)|skip
 case store n x y=>
  simp only[dj]at hp;unfold lG at hp;split at hp
  ·rename_i hv;split at hp
   ·simp only[Zaa,Zav]at hp;obtain⟨rfl,_⟩:=hp;exact⟨x,by simp[bG],by simp[hv,aN]⟩
   ·cases hp
  ·rename_i hv;split at hp
   ·simp only[Zaa,Zav]at hp;obtain⟨rfl,_⟩:=hp;exact⟨x,by simp[bG],by simp[hv,aN]⟩
   ·cases hp
  ·cases hp
 case copy sz x y=>
  simp only[dj]at hp;unfold jN at hp;split at hp
  ·cases hp
  ·split at hp
   ·rename_i hv;split at hp
    ·simp only[Zaa,Zav]at hp;obtain⟨rfl,_⟩:=hp;exact⟨x,by simp[bG],by simp[hv,aN]⟩
    ·cases hp
   ·rename_i hv;split at hp
    ·simp only[Zaa,Zav]at hp;obtain⟨rfl,_⟩:=hp;exact⟨x,by simp[bG],by simp[hv,aN]⟩
    ·cases hp
   ·cases hp
 case mapUpd cj agg x k y=>
  simp only[dj]at hp;unfold ja at hp;split at hp
  ·rename_i hv _;split at hp
   ·simp only[Zaa,Zav]at hp;obtain⟨rfl,_⟩:=hp;exact⟨x,by simp[bG],by simp[hv,aN]⟩
   ·cases hp
  ·cases hp
 case mapEnt cj agg z x k=>
  simp only[dj]at hp;unfold jd at hp;split at hp
  ·rename_i hv _;split at hp
   ·simp only[Zaa,Zav]at hp;obtain⟨rfl,_⟩:=hp;exact⟨x,by simp[bG],by simp[hv,aN]⟩
   ·cases hp
  ·cases hp
 case entSt x s y=>
  simp only[dj]at hp;unfold ku at hp;split at hp
  ·rename_i hv _;split at hp
   ·split at hp
    ·simp only[Zaa,Zav]at hp;obtain⟨rfl,_⟩:=hp;exact⟨x,by simp[bG],by simp[hv,aN]⟩
    ·cases hp
   ·cases hp
  ·cases hp
 case mapDel cj agg x k=>
  simp only[dj]at hp;unfold je at hp;split at hp
  ·rename_i hv _;split at hp
   ·simp only[Zaa,Zav]at hp;obtain⟨rfl,_⟩:=hp;exact⟨x,by simp[bG],by simp[hv,aN]⟩
   ·cases hp
  ·cases hp
def KF(h:nI d=0\/nI d=1):(dj Γ d name ρ ab).put=none:=by
 cases d<;>first|(simp[nI]at h;done)|rfl|skip
 case pick c a b=>simp only[dj];split<;>rfl
 case bslice=>simp only[dj];split<;>rfl
 case load n agg x=>simp only[dj];unfold iF;(repeat' split)<;>rfl
 case bin op x y=>simp only[dj];unfold ua;(repeat' split)<;>rfl
 case un op x=>simp only[dj];unfold Qq;(repeat' split)<;>rfl
 case conv k x=>simp only[dj];split<;>rfl
 case addOff k x=>simp only[dj];unfold iq;(repeat' split)<;>rfl
 case nilCheck x=>simp only[dj];unfold kT;(repeat' split)<;>rfl
 case idxAddr sz x i=>simp only[dj];unfold rZ;(repeat' split)<;>rfl
 case arrAddr n sz x i=>simp only[dj];unfold kK;(repeat' split)<;>rfl
 case field off n agg x=>simp only[dj];unfold oQ;(repeat' split)<;>rfl
 case slice sz x lo hi=>simp only[dj];unfold jA;(repeat' split)<;>rfl
 case extract i x=>simp only[dj];unfold r8;(repeat' split)<;>rfl
 case call f xs=>simp only[dj];unfold pV;(repeat' split)<;>rfl
 case callR f xs=>simp only[dj];unfold oS;(repeat' split)<;>rfl
 case len x=>simp only[dj];unfold wC;(repeat' split)<;>rfl
 case lenS x=>simp only[dj];unfold vd;(repeat' split)<;>rfl
 case minmax m x y=>simp only[dj];unfold oD;(repeat' split)<;>rfl
 case lookup=>simp only[dj];unfold mw;(repeat' split)<;>rfl
 case lenM x=>simp only[dj];unfold r9;(repeat' split)<;>rfl
 case isNil=>simp only[dj];unfold gj;(repeat' split)<;>rfl
 case indexS x i=>simp only[dj];unfold oE;(repeat' split)<;>rfl
def put_new{o:Ob}(h:nI d=2)(hp:(dj Γ d name ρ ab).put=some (r,o)):r=name:=by
 cases d<;>first|(simp[nI]at h;done)|skip
 case alloc z=>simp only[dj,Zaa,Zav]at hp;exact hp.1.symm
 case box x=>simp only[dj,Zaa,Zav]at hp;exact hp.1.symm
 case mkMap=>simp only[dj,Zaa,Zav]at hp;exact hp.1.symm
 case mkSlice e sz N4 z n=>
  simp only[dj]at hp;unfold lH at hp;split at hp
  ·simp only[Zaa,Zav]at hp;exact hp.1.symm
  ·cases hp
 case mkSliceB e sz N4 z n=>
  simp only[dj]at hp;unfold gh at hp;split at hp
  ·simp only[Zaa,Zav]at hp;exact hp.1.symm
  ·cases hp
def put_old{o:Ob}(h:nI d=3)(hp:(dj Γ d name ρ ab).put=some (r,o)):r=name\/ab r≠none:=by
 cases d<;>first|(simp[nI]at h;done)|skip
 case store n x y=>
  simp only[dj]at hp;unfold lG at hp;split at hp
  ·split at hp
   ·rename_i hc;simp only[Zaa,Zav]at hp;obtain⟨rfl,_⟩:=hp;exact .inr (by simp[hc])
   ·cases hp
  ·split at hp
   ·rename_i hc;simp only[Zaa,Zav]at hp;obtain⟨rfl,_⟩:=hp;exact .inr (by simp[hc])
   ·cases hp
  ·cases hp
 case append e sz N4 x y=>
  simp only[dj]at hp;unfold ir at hp;split at hp
  ·cases hp
  ·split at hp
   ·simp only[Zaa,Zav]at hp;exact .inl hp.1.symm
   ·split at hp
    ·rename_i hc;simp only[Zaa,Zav]at hp;obtain⟨rfl,_⟩:=hp;exact .inr (by simp[hc])
    ·cases hp
   ·split at hp
    ·rename_i hc;simp only[Zaa,Zav]at hp;obtain⟨rfl,_⟩:=hp;exact .inr (by simp[hc])
    ·cases hp
   ·cases hp
 case copy sz x y=>
  simp only[dj]at hp;unfold jN at hp
  (repeat' split at hp)<;>first|(cases hp;done)|(rename_i hc;simp only[Zaa,Zav]at hp;obtain⟨rfl,_⟩:=hp;exact .inr (by simp[hc]))
 case mapUpd=>
  simp only[dj]at hp;unfold ja at hp
  (repeat' split at hp)<;>first|(cases hp;done)|(rename_i hc;simp only[Zaa,Zav]at hp;obtain⟨rfl,_⟩:=hp;exact .inr (by simp[hc]))
 case mapEnt=>
  simp only[dj]at hp;unfold jd at hp
  (repeat' split at hp)<;>first|(cases hp;done)|(rename_i hc;simp only[Zaa,Zav]at hp;obtain⟨rfl,_⟩:=hp;exact .inr (by simp[hc]))
 case entSt=>
  simp only[dj]at hp;unfold ku at hp
  (repeat' split at hp)<;>first|(cases hp;done)|(rename_i hc _ _ _;simp only[Zaa,Zav]at hp;obtain⟨rfl,_⟩:=hp;exact .inr (by simp_all))
 case mapDel=>
  simp only[dj]at hp;unfold je at hp
  (repeat' split at hp)<;>first|(cases hp;done)|(rename_i hc;simp only[Zaa,Zav]at hp;obtain⟨rfl,_⟩:=hp;exact .inr (by simp[hc]))
 case rangeM=>
  simp only[dj]at hp;unfold kU at hp
  (repeat' split at hp)<;>first|(cases hp;done)|(simp only[Zaa,Zav]at hp;exact .inl hp.1.symm)
 case callF f xs=>
  simp only[dj]at hp;unfold oT at hp
  (repeat' split at hp)<;>first|(cases hp;done)|(simp only[Zaa,Zav]at hp;exact .inl hp.1.symm)
def XY{o:Ob}(h:nI d=3)(hl:ut d=false)(hp:(dj Γ d name ρ ab).put=some (r,o)):ab r≠none:=by
 cases d<;>first|(simp[nI]at h;done)|(simp[ut]at hl;done)|skip
 all_goals simp only[dj]at hp
 case store=>unfold lG at hp;(repeat' split at hp)<;>first|(cases hp;done)|(rename_i hc;simp only[Zaa,Zav]at hp;obtain⟨rfl,_⟩:=hp;simp[hc])
 case copy=>unfold jN at hp;(repeat' split at hp)<;>first|(cases hp;done)|(rename_i hc;simp only[Zaa,Zav]at hp;obtain⟨rfl,_⟩:=hp;simp[hc])
 case mapUpd=>unfold ja at hp;(repeat' split at hp)<;>first|(cases hp;done)|(rename_i hc;simp only[Zaa,Zav]at hp;obtain⟨rfl,_⟩:=hp;simp[hc])
 case mapEnt=>unfold jd at hp;(repeat' split at hp)<;>first|(cases hp;done)|(rename_i hc;simp only[Zaa,Zav]at hp;obtain⟨rfl,_⟩:=hp;simp[hc])
 case entSt=>unfold ku at hp;(repeat' split at hp)<;>first|(cases hp;done)|(simp only[Zaa,Zav]at hp;obtain⟨rfl,_⟩:=hp;simp_all)
 case mapDel=>unfold je at hp;(repeat' split at hp)<;>first|(cases hp;done)|(rename_i hc;simp only[Zaa,Zav]at hp;obtain⟨rfl,_⟩:=hp;simp[hc])
end
end
section
variable{r:RO}{st:RS}{ρ:dw}{d:rO}{ab:bq}
variable [bI] [dL]
def Od:bQ->Option Nat
 |.tmp t=>some t
 |.gN _=>none
def Cq(r:RO):cO:=(bG r.d).filterMap Od++(r.guard.map (·.1)).toList
def conOk:bQ->Bool
 |.tmp _=>true
 |.gN (.v _)|.gN .aW|.gN (.iD _ _)=>true
 |_=>false
def uu(r:RO):Bool:=(bG r.d).all conOk
def iW(x y:RO):Bool:=match x.dst with|some d=> !(Cq y).contains d|none=>true
def pX(x y:RO):Bool:=match x.dst,y.dst with|some a,some b=>a !=b|_,_=>true
def Oe(a b:Nat):Bool:=((a==3&&(b==1||b==3))||(b==3&&a==1))||((a==4&&b !=0)||(b==4&&a !=0))
def Ca(x y:Option (cO)):Bool:=match x,y with|some a,some b=>a.all λn=>b.all λm=>n !=m|_,_=>false
def ok4(a b:Nat):Bool:=(a !=4||b==1)&&(b !=4||a==1)
def isF:rO->Bool
 |.callF .. =>true
 |_=>false
def XZ(a b:rO):Bool:=(isF a&&nI b==1)||(isF b&&nI a==1)
def kw(x y:RO):Bool:=
 iW x y&&iW y x&&pX x y&&(!Oe (nI x.d) (nI y.d)||(Ca x.j5 y.j5&&ok4 (nI x.d) (nI y.d))||XZ x.d y.d)
def gm(r:RO):Bool:= !ut r.d||r.dst.isSome
section
variable{Γ:pI}{aJ:Nat}
def DA(st:RS):Prop:=∀t,fg st.ab (st.tmps t)
def nm(aJ:Nat)(r:RO):Nat:=bN aJ r.dst
def QB(aJ:Nat)(r:RO)(st:RS):Prop:=r.dst.isSome=true->st.ab (nm aJ r)=none
def Cr{t:Nat}{o:Ob}(hp:(oq Γ aJ r st).put=some (t,o)):(t=nm aJ r/\ut r.d=true)\/(st.ab t≠none/\nI r.d=3):=by
 unfold oq at hp;by_cases h0:nI r.d=0\/nI r.d=1
 ·rw[KF h0]at hp;cases hp
 ·by_cases h2:nI r.d=2
  ·refine .inl ⟨put_new h2 hp, ?_⟩;cases hd:r.d<;>rw[hd]at h2<;>first|rfl|(simp[nI]at h2;done)
  ·have h3:nI r.d=3:=by
    cases hd:r.d<;>rw[hd]at h0 h2<;>first|(simp_all [nI];done)|(rw[hd]at hp;simp[dj,cZ]at hp)
   cases hl:ut r.d with
   |true=>
    rcases put_old h3 hp with h|h
    ·exact .inl ⟨h,rfl⟩
    ·exact .inr ⟨h,h3⟩
   |false=>exact .inr ⟨XY h3 hl hp,h3⟩
def ev_upd{x:bQ}{dst:Option Nat}{v:DV}(h:∀d,dst=some d->Od x≠some d):x.ev (cU ρ dst v)=x.ev ρ:=by
 cases x with
 |gN d=>rfl
 |tmp t=>
  cases dst with
  |none=>rfl
  |some d=>
   have:=h d rfl;simp only[Od,ne_eq,Zaa]at this;simp[bQ.ev,cU,this]
def Bx{x y:RO}(h:iW x y=true){d:Nat}(hd:x.dst=some d):d∉Cq y:=by
 simp only[iW,hd]at h;simpa using h
def ye{x y:RO}(h:iW x y=true)(ρ:dw)(v:DV):fV y.guard (cU ρ x.dst v)=fV y.guard ρ:=by
 cases hg:y.guard with
 |none=>rfl
 |some g=>
  obtain⟨s,want⟩:=g;cases hd:x.dst with
  |none=>rfl
  |some d=>
   have hn:=Bx h hd;have:s≠d:=λe=>hn (by simp[Cq,hg,e]);simp[fV,cU,this]
def qU{x y:RO}(h1:iW x y=true)(ρ:dw)(v:DV):∀o∈bG y.d,o.ev (cU ρ x.dst v)=o.ev ρ:=λo ho=>ev_upd λd hd hs=>by
  have:=Bx h1 hd;exact this (by simp only[Cq,Zaq,ZbA];exact .inl ⟨o,ho,hs⟩)
def pY{x y:RO}(h1:iW x y=true)(ρ:dw)(v:DV):cP y (cU ρ x.dst v)↔cP y ρ:=by
 unfold cP;cases y.j5 with
 |none=>rfl
 |some l=>
  constructor
  ·intro h o ho n hn;exact h o ho n (by rw[qU h1 ρ v o ho];exact hn)
  ·intro h o ho n hn;exact h o ho n (by rw[qU h1 ρ v o ho]at hn;exact hn)
def qV{x y:RO}(hd:Ca x.j5 y.j5=true)(tx:cP x ρ)(ty:cP y ρ){o p:bQ}(ho:o∈bG x.d)(hp:p∈bG y.d){n:Nat}(h1:n∈aN (o.ev ρ))(h2:n∈aN (p.ev ρ)):False:=by
 unfold Ca at hd;unfold cP at tx ty;cases hx:x.j5 with
 |none=>simp[hx]at hd
 |some a=>
  cases hy:y.j5 with
  |none=>simp[hx,hy]at hd
  |some b=>
   simp only[hx,hy]at hd tx ty;have:=ZaU.1 (ZaU.1 hd n (tx o ho n h1)) n (ty p hp n h2);simp at this
def si{x:RO}{t:Nat}{o:Ob}(h3x:nI x.d=3)(Xe:gm x=true)(DB:x.dst.isSome=true->False)
  (hpx:(dj Γ x.d (bN aJ x.dst) st.tmps st.ab).put=some (t,o)) (h5:t=bN aJ x.dst) {C:Prop} (k:∀a∈bG x.d,t∈aN (a.ev st.tmps)->C):C:=by
 cases hdx:x.dst with
 |some d=>exact(DB (by simp[hdx])).elim
 |none=>
  have:ut x.d=false:=by simpa [gm,hdx]using Xe
  obtain⟨a,ha,hn⟩:=Oc h3x this hpx;exact k a ha hn
def X0{y:RO}(hcy:uu y=true)(hR:DA st):∀o∈bG y.d,fg st.ab (o.ev st.tmps):=λo ho=>by
 have:=ZaU.1 hcy o ho;cases o with
 |tmp t=>exact hR t
 |gN d=>cases d<;>first|(simp[conOk]at this;done)|simp[bQ.ev,fg]
def not4:nI d≠4↔rP d=false:=by cases d<;>simp[nI,rP]
def Of{XX:dw}{todo:List (aK)}(h:∀x∈bG d,x.ev ρ=x.ev XX):oi Γ d ρ ab todo=oi Γ d XX ab todo:=by
 cases d<;>first|rfl|skip
 case callS f xs=>simp only[oi,jP (xs:=xs) h]
 case entryM x=>simp only[oi,h x (by simp[bG])]
 case callv x xs=>
  have h1:=h x (by simp[bG]);have h2:=jP (xs:=xs) (λy hy=>h y (by simp[bG,hy]));simp only[oi,h1,h2]
def Vr{f:FuncId}{xs:List bQ}{name:Nat}{t:Nat}{o:Ob}(h:(dj Γ (.callF f xs) name ρ ab).put=some (t,o)):t=name:=by
 simp only[dj,oT]at h
 (repeat' split at h)<;>simp_all [cZ]
def Vt{x y:RO}(hi:kw x y=true)(ND:rP x.d=false)(Cb:rP y.d=false)(hcy:uu y=true)(Xe:gm x=true)(hR:DA st)(hf:QB aJ x st)(v:DV)(td:List (aK))(ty:cP y st.tmps){p:Option (Nat×Ob)}(hp:p=none\/(p=(oq Γ aJ x st).put/\cP x st.tmps)):
  oq Γ aJ y ⟨cU st.tmps x.dst v,cG st.ab p,td⟩=oq Γ aJ y st:=by
 simp only[kw,Zam,Zbf,Zci]at hi;obtain⟨⟨⟨h1,h2⟩,h3⟩,h4⟩:=hi;have hev:=qU h1 st.tmps v;have href:=X0 hcy hR;unfold oq;simp only;rw[Ad hev];rcases hp with rfl|⟨rfl,tx⟩
 ·rfl
 ·cases hpx:(oq Γ aJ x st).put with
  |none=>rfl
  |some q=>
   obtain⟨t,o⟩:=q;by_cases hy:nI y.d=0\/nI y.d=2
   ·exact Dz hy
   ·rcases Cr hpx with⟨rfl,hl⟩|⟨bT,h3x⟩
    ·refine sem_ext (λr hr=>?_) href;have hds:x.dst.isSome=true:=by simpa [gm,hl]using Xe
     have mi:=hf hds;simp only[cG];rw[Zab];rintro rfl;exact hr mi
    ·rcases h4 with(h4|h4)|h4
     ·exfalso;have:nI y.d=1\/nI y.d=3:=by
       have:=not4.2 Cb;cases hd:y.d<;>rw[hd]at hy this<;>simp_all [nI]
      rcases this with h|h<;>simp[h3x,h,Oe]at h4
     ·refine Ae λp hp n hn=>?_;simp only[cG];rw[Zab];rintro rfl;unfold oq at hpx;rcases vf h3x hpx with h5|⟨o',iA,Gf⟩
      ·exact si h3x Xe (λe=>bT (by rw[show n=nm aJ x from h5];exact hf e)) hpx h5 (λa ha Gf=>qV h4.1 tx ty ha hp Gf hn)
      ·exact qV h4.1 tx ty iA hp Gf hn
     ·exfalso;unfold XZ at h4;rw[h3x]at h4;have h5:isF x.d=true:=by
       cases hF:isF x.d
       ·rw[hF]at h4;simp at h4
       ·rfl
      have h6:ut x.d=true:=by
       cases hd:x.d<;>rw[hd]at h5<;>first|rfl|(simp[isF]at h5;done)
      have h7:=hf (by simpa [gm,h6]using Xe);have h8:t=nm aJ x:=by
       unfold oq at hpx;cases hd:x.d<;>rw[hd]at h5 hpx<;>first|(simp[isF]at h5;done)|skip
       exact Vr hpx
      rw[h8]at bT;exact bT h7
def X1{x y:RO}(hi:kw x y=true)(h4:rP x.d=true):nI y.d=0\/(nI y.d=1/\Ca x.j5 y.j5=true):=by
 have c4:nI x.d=4:=by cases hx:x.d<;>rw[hx]at h4<;>simp_all [nI,rP]
 simp only[kw,Zam,Zbf,Zci]at hi;rcases hi.2 with(h|h)|h
 ·simp[Oe,c4]at h;exact .inl h.1
 ·simp[ok4,c4]at h;exact .inr ⟨h.2.1,h.1⟩
 ·exfalso;have:isF x.d=false:=by cases hx:x.d<;>rw[hx]at h4<;>simp_all [isF,rP]
  simp[XZ,this,c4]at h
def Vu(a b:Nat):Oe a b=Oe b a:=by
 unfold Oe;cases a==3<;>cases b==3<;>cases a==1<;>cases b==1<;>cases a==4<;>cases b==4<;>cases a !=0<;>cases b !=0<;>rfl
def DD{x y:RO}(h:pX x y=true):pX y x=true:=by
 unfold pX at h⊢;cases hx:x.dst<;>cases hy:y.dst<;>simp_all
 exact λe=>h e.symm
def Vv(a b:Option (cO)):Ca a b=Ca b a:=by
 cases a with
 |none=>cases b<;>rfl
 |some a=>
  cases b with
  |none=>rfl
  |some b=>
   rw[ZbX];simp only[Ca,ZaU,bne_iff_ne,ne_eq];exact⟨λh n hn m hm e=>h m hm n hn e.symm,λh n hn m hm e=>h m hm n hn e.symm⟩
def wL{x y:RO}(h:kw x y=true):kw y x=true:=by
 simp only[kw,Zam]at h⊢;refine⟨⟨⟨h.1.1.2,h.1.1.1⟩,DD h.1.2⟩, ?_⟩;rw[Vu,Vv];have:=h.2;simp only[Zci,Zam]at this⊢;rcases this with(h|h)|h
 ·exact .inl (.inl h)
 ·refine .inl (.inr ⟨h.1, ?_⟩);simp only[ok4,Zam]at h⊢;exact⟨h.2.2,h.2.1⟩
 ·refine .inr ?_;unfold XZ at h⊢;rw[Bool.or_comm];exact h
def vp(Γ:pI)(aJ:Nat)(r:RO)(st:RS):DV×Option (Nat×Ob):=
 match fV r.guard st.tmps with
 |some true=>((oq Γ aJ r st).val,(oq Γ aJ r st).put)
 |_=>(.skip,none)
def F4(Γ:pI)(r:RO)(st:RS):DV×bq×List (aK):=
 match fV r.guard st.tmps with
 |some true=>((oi Γ r.d st.tmps st.ab st.todo).val,(oi Γ r.d st.tmps st.ab st.todo).ab,(oi Γ r.d st.tmps st.ab st.todo).todo)
 |_=>(.skip,st.ab,st.todo)
def mR(h4:rP r.d=false)(h:cJ Γ aJ r st):dW Γ aJ r st=⟨cU st.tmps r.dst (vp Γ aJ r st).1,cG st.ab (vp Γ aJ r st).2,st.todo⟩:=by
 unfold cJ at h;unfold dW vp;cases hw:fV r.guard st.tmps with
 |none=>rw[hw]at h;exact h.elim
 |some b=>cases b<;>simp[post,h4,cG]
def uw(h4:rP r.d=true)(h:cJ Γ aJ r st):dW Γ aJ r st=⟨cU st.tmps r.dst (F4 Γ r st).1,(F4 Γ r st).2.1,(F4 Γ r st).2.2⟩:=by
 unfold cJ at h;unfold dW F4;cases hw:fV r.guard st.tmps with
 |none=>rw[hw]at h;exact h.elim
 |some b=>cases b<;>simp[post,h4]
def Ia(r:RO)(st:RS):(vp Γ aJ r st).2=none\/(vp Γ aJ r st).2=(oq Γ aJ r st).put:=by
 unfold vp;split
 ·exact .inr rfl
 ·exact .inl rfl
def Ib(h0:nI r.d=0\/nI r.d=1):(vp Γ aJ r st).2=none:=by
 rcases Ia (Γ:=Γ) (aJ:=aJ) r st with h|h
 ·exact h
 ·rw[h];exact KF h0
def sj(h:cJ Γ aJ r st):(vp Γ aJ r st).2=none\/((vp Γ aJ r st).2=(oq Γ aJ r st).put/\cP r st.tmps):=by
 unfold cJ at h;unfold vp;cases hw:fV r.guard st.tmps with
 |none=>rw[hw]at h;exact h.elim
 |some b=>
  cases b with
  |false=>exact .inl rfl
  |true=>rw[hw]at h;exact .inr ⟨rfl,h.2.1⟩
def Vw(h:nI d=0):rP d=false:=not4.1 (by rw[h];decide)
def Og{x y:RO}(ha:iW x y=true)(h0:nI y.d=0)(v:DV)(aI:bq)(td:List (aK)):
  vp Γ aJ y ⟨cU st.tmps x.dst v,aI,td⟩=vp Γ aJ y st/\(cJ Γ aJ y ⟨cU st.tmps x.dst v,aI,td⟩↔cJ Γ aJ y st):=by
 have hw:fV y.guard (cU st.tmps x.dst v)=fV y.guard st.tmps:=ye ha _ _;have ht:=pY (y:=y) ha st.tmps v;have he:oq Γ aJ y ⟨cU st.tmps x.dst v,aI,td⟩=oq Γ aJ y st:=by
  unfold oq;simp only;rw[Ad (qU ha st.tmps v)];exact Dz (.inl h0)
 refine⟨?_, ?_⟩
 ·unfold vp;simp only[hw,he]
 ·unfold cJ post um;simp only[hw,he,ht,Vw h0,ZaW,if_false,false_implies]
def Oh{x y:RO}(ha:iW x y=true)(h1:nI y.d=1)(hd:Ca x.j5 y.j5=true)(v:DV)(aI:bq)(td:List (aK))(hk:∀l,x.j5=some l->∀n,n∉l->aI n=st.ab n)
  (oy:cJ Γ aJ y st\/cJ Γ aJ y ⟨cU st.tmps x.dst v,aI,td⟩):
  vp Γ aJ y ⟨cU st.tmps x.dst v,aI,td⟩=vp Γ aJ y st/\cJ Γ aJ y ⟨cU st.tmps x.dst v,aI,td⟩/\cJ Γ aJ y st:=by
 have hw:fV y.guard (cU st.tmps x.dst v)=fV y.guard st.tmps:=ye ha _ _;have ht:=pY (y:=y) ha st.tmps v;have Cb:rP y.d=false:=not4.1 (by rw[h1];decide);have he:cP y st.tmps->oq Γ aJ y ⟨cU st.tmps x.dst v,aI,td⟩=oq Γ aJ y st:=λty=>by
  unfold oq;simp only;rw[Ad (qU ha st.tmps v)];refine Ae λp hp n hn=>?_;unfold Ca at hd;unfold cP at ty;cases hx:x.j5 with
  |none=>simp[hx]at hd
  |some a=>
   cases hyt:y.j5 with
   |none=>simp[hx,hyt]at hd
   |some b=>
    simp only[hx,hyt]at hd ty;refine hk a hx n λhna=>?_;have:=ZaU.1 (ZaU.1 hd n hna) n (ty p hp n hn);simp at this
 unfold cJ post um at oy⊢;unfold vp;simp only[hw,ht,Cb,ZaW,if_false,false_implies,and_true]at oy⊢;cases hb:fV y.guard st.tmps with
 |none=>simp only[hb,or_self]at oy
 |some b=>
  cases b with
  |false=>simp
  |true=>
   simp only[hb]at oy⊢;have ty:cP y st.tmps:=by rcases oy with h|h<;>exact h.2
   have he:=he ty;simp only[he]at oy⊢;have:=oy.elim id id;exact⟨trivial,this,this⟩
def X2{x:RO}(h4:rP x.d=true)(ox:cJ Γ aJ x st):∀l,x.j5=some l->∀n,n∉l->(F4 Γ x st).2.1 n=st.ab n:=by
 unfold cJ post um at ox;unfold F4;intro l hl n hn;cases hb:fV x.guard st.tmps with
 |none=>simp[hb]at ox
 |some b=>
  cases b with
  |false=>rfl
  |true=>
   simp only[hb,h4,if_true]at ox;exact ox.2.2 trivial l hl n hn
def X3{x y:RO}(hi:kw x y=true)(h4:rP x.d=true)(ox:cJ Γ aJ x st)(oy:cJ Γ aJ y st\/cJ Γ aJ y ⟨cU st.tmps x.dst (F4 Γ x st).1,(F4 Γ x st).2.1,(F4 Γ x st).2.2⟩):
  vp Γ aJ y ⟨cU st.tmps x.dst (F4 Γ x st).1,(F4 Γ x st).2.1,(F4 Γ x st).2.2⟩=vp Γ aJ y st/\cJ Γ aJ y ⟨cU st.tmps x.dst (F4 Γ x st).1,(F4 Γ x st).2.1,(F4 Γ x st).2.2⟩/\cJ Γ aJ y st/\(nI y.d=0\/nI y.d=1):=by
 have ha:iW x y=true:=by simp only[kw,Zam]at hi;exact hi.1.1.1
 rcases X1 hi h4 with h|⟨h,hd⟩
 ·obtain⟨e1,e2⟩:=Og (Γ:=Γ) (aJ:=aJ) (st:=st) ha h (F4 Γ x st).1 (F4 Γ x st).2.1 (F4 Γ x st).2.2;have:=oy.elim id e2.1;exact⟨e1,e2.2 this,this,.inl h⟩
 ·obtain⟨e1,e2,e3⟩:=Oh ha h hd _ _ _ (X2 h4 ox) oy;exact⟨e1,e2,e3,.inr h⟩
def after{x y:RO}(hi:kw x y=true)(ND:rP x.d=false)(Cb:rP y.d=false)(hcy:uu y=true)(Xe:gm x=true)(hR:DA st)(hf:QB aJ x st)(ox:cJ Γ aJ x st)(oy:cJ Γ aJ y st\/cJ Γ aJ y (dW Γ aJ x st)):
  vp Γ aJ y (dW Γ aJ x st)=vp Γ aJ y st/\cJ Γ aJ y (dW Γ aJ x st)/\cJ Γ aJ y st:=by
 rw[mR ND ox]at oy⊢;have ha:iW x y=true:=by simp only[kw,Zam]at hi;exact hi.1.1.1
 have hw:fV y.guard (cU st.tmps x.dst (vp Γ aJ x st).1)=fV y.guard st.tmps:=ye ha _ _;have ht:=pY (y:=y) ha st.tmps (vp Γ aJ x st).1;have he:cP y st.tmps->_:=λty=>Vt (Γ:=Γ) hi ND Cb hcy Xe hR hf (vp Γ aJ x st).1 st.todo ty (sj ox);generalize vp Γ aJ x st=q at oy hw ht he⊢;unfold cJ post um at oy⊢;unfold vp;simp only[hw,ht,Cb,ZaW,if_false,false_implies,and_true]at oy⊢;cases hb:fV y.guard st.tmps with
 |none=>simp only[hb,or_self]at oy
 |some b=>
  cases b with
  |false=>simp
  |true=>
   simp only[hb]at oy⊢;have ty:cP y st.tmps:=by rcases oy with h|h<;>exact h.2
   have he:=he ty;simp only[he]at oy⊢;have:=oy.elim id id;exact⟨trivial,this,this⟩
def Af{x y:RO}(h3:pX x y=true)(f:dw)(u v:DV):cU (cU f x.dst u) y.dst v=cU (cU f y.dst v) x.dst u:=by
 funext t;cases hx:x.dst<;>cases hy:y.dst<;>simp only[cU]
 rename_i d e;have hde:d≠e:=by simpa [pX,hx,hy]using h3
 by_cases h1:t=d<;>by_cases h2:t=e<;>simp_all
def X4{x y:RO}(ha:iW y x=true)(v:DV):F4 Γ x ⟨cU st.tmps y.dst v,st.ab,st.todo⟩=F4 Γ x st/\(rP x.d=true->(cJ Γ aJ x ⟨cU st.tmps y.dst v,st.ab,st.todo⟩↔cJ Γ aJ x st)):=by
 have hw:fV x.guard (cU st.tmps y.dst v)=fV x.guard st.tmps:=ye ha _ _;have ht:=pY (y:=x) ha st.tmps v;have hs:oi Γ x.d (cU st.tmps y.dst v) st.ab st.todo=oi Γ x.d st.tmps st.ab st.todo:=Of (qU ha st.tmps v);refine⟨?_,λh4=>?_⟩
 ·unfold F4;simp only[hw,hs]
 ·unfold cJ post;simp only[hw,hs,ht,h4,if_true]
def swap{x y:RO}(hi:kw x y=true)(X5:uu x=true)(hcy:uu y=true)(Xe:gm x=true)(hly:gm y=true)(hR:DA st)(J2:QB aJ x st)(hfy:QB aJ y st)
  (ox:cJ Γ aJ x st) (oy:cJ Γ aJ y (dW Γ aJ x st)):
  cJ Γ aJ y st/\cJ Γ aJ x (dW Γ aJ y st)/\dW Γ aJ y (dW Γ aJ x st)=dW Γ aJ x (dW Γ aJ y st):=by
 have pW:=hi;simp only[kw,Zam]at pW;obtain⟨⟨⟨h1,h2⟩,h3⟩,h4⟩:=pW;by_cases ND:rP x.d=true
 ·rw[uw ND ox]at oy⊢;obtain⟨e1,_,X6,y0⟩:=X3 hi ND ox (.inr oy);have Cb:rP y.d=false:=not4.1 (by rcases y0 with h|h<;>rw[h]<;>decide)
  rw[mR Cb oy,mR Cb X6,e1,Ib y0];obtain⟨e3,e4⟩:=X4 (Γ:=Γ) (aJ:=aJ) (x:=x) (y:=y) (st:=st) h2 (vp Γ aJ y st).1;have ox':=(e4 ND).2 ox;refine⟨X6,ox', ?_⟩;simp only[cG]at ox'⊢;rw[uw ND ox',e3];simp only;rw[Af h3]
 ·have ND:rP x.d=false:=by simpa using ND
  by_cases Cb:rP y.d=true
  ·have x0:nI x.d=0\/nI x.d=1:=by
    rcases X1 (wL hi) Cb with h|⟨h,_⟩
    ·exact .inl h
    ·exact .inr h
   rw[mR ND ox,Ib x0]at oy⊢;simp only[cG]at oy⊢;obtain⟨e3,e4⟩:=X4 (Γ:=Γ) (aJ:=aJ) (x:=y) (y:=x) (st:=st) h1 (vp Γ aJ x st).1;have X6:=(e4 Cb).1 oy;rw[uw Cb oy,uw Cb X6,e3];obtain⟨e1,ox',_,_⟩:=X3 (wL hi) Cb X6 (.inl ox);refine⟨X6,ox', ?_⟩;rw[mR ND ox',e1,Ib x0];simp only[cG];rw[Af h3]
  ·have Cb:rP y.d=false:=by simpa using Cb
   have a1:=after (Γ:=Γ) hi ND Cb hcy Xe hR J2 ox (.inr oy);have X6:=a1.2.2;have a2:=after (Γ:=Γ) (wL hi) Cb ND X5 hly hR hfy X6 (.inl ox);have ox':=a2.2.1;refine⟨X6,ox', ?_⟩;have tx:=sj ox;have ty:=sj X6;rw[mR Cb oy,mR ND ox',a1.1,a2.1,mR ND ox,mR Cb X6]
   congr 1
   ·exact Af h3 _ _ _
   ·funext t;cases hx:(vp Γ aJ x st).2 with
    |none=>cases(vp Γ aJ y st).2<;>rfl
    |some p=>
     cases hy:(vp Γ aJ y st).2 with
     |none=>rfl
     |some q=>
      obtain⟨t1,o1⟩:=p;obtain⟨t2,o2⟩:=q;have e1:=Cr (((Ia (Γ:=Γ) (aJ:=aJ) x st).resolve_left (by simp[hx])).symm.trans hx);have e2:=Cr (((Ia (Γ:=Γ) (aJ:=aJ) y st).resolve_left (by simp[hy])).symm.trans hy);have bT:t1≠t2:=by
       rcases e1 with⟨rfl,l1⟩|⟨n1,c1⟩<;>rcases e2 with⟨rfl,l2⟩|⟨n2,c2⟩
       ·have s1:x.dst.isSome=true:=by simpa [gm,l1]using Xe
        have s2:y.dst.isSome=true:=by simpa [gm,l2]using hly
        obtain⟨d1,hd1⟩:=Zbp.1 s1;obtain⟨d2,hd2⟩:=Zbp.1 s2;have:d1≠d2:=by simpa [pX,hd1,hd2]using h3
        simp[nm,bN,hd1,hd2,this]
       ·rintro rfl;exact n2 (J2 (by simpa [gm,l1]using Xe))
       ·rintro rfl;exact n1 (hfy (by simpa [gm,l2]using hly))
       ·simp only[Zci,Zam]at h4;rcases h4 with(h4|h4)|h4
        ·simp[Oe,c1,c2]at h4
        ·rintro rfl;have p1:=(tx.resolve_left (by simp[hx])).1.symm.trans hx;have p2:=(ty.resolve_left (by simp[hy])).1.symm.trans hy;have q1:=(tx.resolve_left (by simp[hx])).2;have q2:=(ty.resolve_left (by simp[hy])).2;unfold oq at p1 p2;rcases vf c1 p1 with h5|⟨o,ho,hn⟩
         ·exact si c1 Xe (λe=>n1 (by rw[show t1=nm aJ x from h5];exact J2 e)) p1 h5 (λo ho hn=>by
           rcases vf c2 p2 with h6|⟨o',iA,Gf⟩
           ·exact si c2 hly (λe=>n2 (by rw[show t1=nm aJ y from h6];exact hfy e)) p2 h6 (λo' iA Gf=>qV h4.1 q1 q2 ho iA hn Gf)
           ·exact qV h4.1 q1 q2 ho iA hn Gf)
         ·rcases vf c2 p2 with h6|⟨o',iA,Gf⟩
          ·exact si c2 hly (λe=>n2 (by rw[show t1=nm aJ y from h6];exact hfy e)) p2 h6 (λo' iA Gf=>qV h4.1 q1 q2 ho iA hn Gf)
          ·exact qV h4.1 q1 q2 ho iA hn Gf
        ·simp[XZ,c1,c2]at h4
      simp only[cG];by_cases h1:t=t1<;>by_cases h2:t=t2<;>simp_all
end
end
section
variable{ops:Array Oper}{r:RO}{st:RS}{Q:Exit->Act->World->Prop}{rs:ai}{id:Nat}{listed:Array Bool}
variable [bI] [dL]
def Cs(ops:Array Oper)(o:Oper):Option (Option (Nat×Bool)):=
 match o.guard with
 |none=>some none
 |some (j,b)=>((ops[j]?).bind (·.dst)).map λs=>some (s,b)
def d9(P:Program)(ops:Array Oper)(o:Oper):Option RO:=do
 let d<-dz P o
 let g<-Cs ops o
 pure ⟨d,o.dst,g,(o.after.toList.filter (Region.binds .any ·)).map (·.on),none⟩
def bare(r:RO):RO:=⟨Bt r.d,r.dst,r.guard,r.after,none⟩
def fO(P:Program)(ops:Array Oper):Option (ai):=ops.toList.mapM (d9 P ops)
def jE(Γ:pI)(aJ:Nat):ai->RS->Prop
 |[],_=>True
 |r::rs,st=>cJ Γ aJ r st/\jE Γ aJ rs (dW Γ aJ r st)
def dZ(Γ:pI)(aJ:Nat):ai->RS->RS
 |[],st=>st
 |r::rs,st=>dZ Γ aJ rs (dW Γ aJ r st)
def l9(nt:Nat)(r:RO):Bool:=uu r&&gm r&&(match r.dst with|some d=>decide (d<nt)|none=>true)
def fP:ai->Bool
 |[]=>true
 |r::rs=>rs.all (pX r)&&fP rs
def o7(fX:cO)(as:cO):Nat:=as.foldl (λm j=>m|||(1<<<j)|||fX.getD j 0) 0
def ng(rs:ai):cO:=rs.foldl (λfX r=>fX++[o7 fX r.after]) []
def vg(rs:ai)(ms:cO):Bool:=
 (List.range rs.length).all λi=>match rs[i]?,ms[i]? with
  |some y,some m=>y.after.all (·<i)&&(List.range i).all λx=>m.testBit x||(match rs[x]? with|some r=>kw r y|none=>false)
  |_,_=>false
def ee(nt:Nat)(draw:Bool)(rs:ai):Bool:=rs.all (l9 nt)&&fP rs&&(!draw||vg rs (ng rs))
section
variable{P:Program}{κ:oX}{nt:Nat}{Γ:pI}{aJ:Nat}{ro:Option Nat}{n:Nat}
def wpIn_ex{o:Oper}{a:Act}{w:World}{K:Act->World->Prop}(h:o.wpIn (iV ro) n P a w K (λ_ _ _=>False)):∃a w,K a w:=by
 have h:=h.2;generalize (o.semAt (iV ro).round a.eval).run P w=r at h;cases r with
 |ok x w'=>
  cases x<;>simp only[Oper.uponIn]at h
  case value v=>exact⟨_,_,h⟩
  case skip=>exact⟨_,_,h⟩
  case defer d=>exact⟨_,_,h⟩
  case enter f args=>
   obtain⟨_,_,hc⟩:=h;obtain⟨e,w2,fr,hR,_⟩:=hc [] (λd hd=>by cases hd);cases e with
   |returned v=>exact⟨_,_,hR⟩
   |panicked c=>exact hR.elim
   |outgrown=>obtain⟨_,_,hf⟩:=hR;exact hf.elim
  case row r args=>
   obtain⟨_,hc⟩:=h;obtain⟨v,w2,hR,_⟩:=hc default [] (λd hd=>by cases hd);exact⟨_,_,hR⟩
  case round l f t as b=>
   obtain⟨_,_,hc⟩:=h;obtain⟨e,w2,hR,_⟩:=hc default [] (λd hd=>by cases hd);cases e with
   |returned v=>exact⟨_,_,hR⟩
   |panicked c=>exact hR.elim
   |outgrown=>obtain⟨_,_,hf⟩:=hR;exact hf.elim
 |halt x w'=>cases x<;>simp only[Oper.uponIn]at h
def fQ{o:Oper}(h:d9 P ops o=some (bare r)):dz P o=some (Bt r.d)/\Cs ops o=some r.guard/\r.dst=o.dst/\r.after=(o.after.toList.filter (Region.binds .any ·)).map (·.on):=by
 simp only[d9,Zao,Zaj,Zad,Zaa]at h;obtain⟨d,hd,g,hg,he⟩:=h;obtain⟨d',ds,gd,af,tc⟩:=r;simp only[bare,RO.mk.injEq,and_true]at he;obtain⟨rfl,rfl,rfl,rfl⟩:=he;exact⟨hd,hg,rfl,rfl⟩
def Ag{o:Oper}{a:Act}{w:World}{L:Loc}(hg:Cs ops o=some r.guard)(h:eP κ nt st a w L){b:Bool}(hw:fV r.guard st.tmps=some b):
  Region.wanted o (yielded ops a.tmps)=b:=by
 unfold Cs at hg;cases ho:o.guard with
 |none=>
  rw[ho]at hg;simp only[Zaa]at hg;rw[<-hg]at hw;simp only[fV,Zaa]at hw;simp[Region.wanted,ho,hw]
 |some jb=>
  obtain⟨j,want⟩:=jb;rw[ho]at hg;simp only[Zac]at hg;obtain⟨s,hs,Bo⟩:=hg;rw[<-Bo]at hw;simp only[fV]at hw;obtain⟨W,base,M,w0,_,h0⟩:=h.ex;have gQ:=h0.tmps s;simp only[Region.wanted,ho,yielded,hs,Zcr];split at hw
  ·rename_i x hx;rw[hx]at gQ;simp only[aA,bj]at gQ;simp only[Zaa]at hw;have:a.tmps[s]? =some (.bool x):=by
    rw[ZaH]at gQ;cases he:a.tmps[s]? with
    |none=>rw[he]at gQ;simp[Go.undef]at gQ
    |some y=>rw[he]at gQ;simpa using gQ
   rw[this,<-hw];simp
  ·rename_i hx;rw[hx]at gQ;simp only[aA]at gQ;simp only[Zaa]at hw;subst hw;rw[ZaH]at gQ;cases he:a.tmps[s]? with
   |none=>simp
   |some y=>
    rw[he]at gQ;simp only[Zbd]at gQ;subst gQ;simp[Go.undef]
  ·cases hw
def pZ(aC:ay P Γ)(yb:κ.Good P){i:Nat}{o:Oper}(ho:ops[i]? =some o)(hr:d9 P ops o=some (bare r))(H7:l9 nt r=true){a:Act}{w:World}{L:Loc}(h:eP κ nt st a w L)
  (hname:st.ab (nm aJ r)=none) (hok:cJ Γ aJ r st) {K:Act->World->Prop} (hK:∀a' w' L',eP κ nt (dW Γ aJ r st) a' w' L'->K a' w'):
  wpOpIn (iV ro) n P ops Q i K a w:=by
 obtain⟨hd,hg,kv,_⟩:=fQ hr;have Vx:∀d,r.dst=some d->d<nt:=by
  intro d hd;simp only[l9,hd,Zam,Zau]at H7;exact H7.2
 unfold wpOpIn;simp only[ho];unfold cJ at hok;unfold dW at hK;cases hw:fV r.guard st.tmps with
 |none=>rw[hw]at hok;exact hok.elim
 |some b=>
  rw[hw]at hok hK;rw[Ag hg h hw];cases b with
  |true=>
   simp only[if_true]at hok hK⊢;exact Qz aC yb hd kv h Vx hname hok.1 hK
  |false=>
   simp only[ZaW,if_false];refine⟨mC o w _, ?_⟩;rw[<-kv];exact hK _ _ _ (h.skip r.dst Vx)
def Vy(aC:ay P Γ)(yb:κ.Good P){o:Oper}(hr:d9 P ops o=some (bare r))(H7:l9 nt r=true)(h:∃a w L,eP κ nt st a w L)(hname:st.ab (nm aJ r)=none)(hok:cJ Γ aJ r st):
  ∃a w L,eP κ nt (dW Γ aJ r st) a w L:=by
 obtain⟨a,w,L,h⟩:=h;obtain⟨hd,hg,kv,_⟩:=fQ hr;have Vx:∀d,r.dst=some d->d<nt:=by
  intro d hd;simp only[l9,hd,Zam,Zau]at H7;exact H7.2
 unfold cJ at hok;unfold dW;cases hw:fV r.guard st.tmps with
 |none=>rw[hw]at hok;exact hok.elim
 |some b=>
  rw[hw]at hok;cases b with
  |true=>
   have:=Qz (ro:=none) (n:=0) (K:=λa' w'=>∃L',eP κ nt ⟨cU st.tmps r.dst (post Γ aJ r st).val,(post Γ aJ r st).ab,(post Γ aJ r st).todo⟩ a' w' L') (Q:=λ_ _ _=>False) aC yb hd kv h Vx hname hok.1 (λa' w' L' h'=>⟨L',h'⟩);obtain⟨a',w',L',h'⟩:=wpIn_ex this;exact⟨a',w',L',h'⟩
  |false=>exact⟨_,_,_,h.skip r.dst Vx⟩
def DE(h:∃a w L,eP κ nt st a w L):DA st:=by
 obtain⟨a,w,L,h⟩:=h;obtain⟨W,base,M,w0,_,h0⟩:=h.ex;exact λt=>fg.bP _ _ (h0.tmps t)
def kC(aJ:Nat)(rs:ai)(st:RS):Prop:=st.ab aJ=none/\∀r∈rs,st.ab (nm aJ r)=none
def Ah(aC:ay P Γ)(hok:cJ Γ aJ r st){t:Nat}(ht:st.ab t=none)(hn:ut r.d=true->t≠nm aJ r):(dW Γ aJ r st).ab t=none:=by
 by_cases h4:rP r.d=true
 ·rw[uw h4 hok];unfold cJ post at hok;unfold F4;cases hw:fV r.guard st.tmps with
  |none=>rw[hw]at hok;exact hok.elim
  |some b=>
   cases b with
   |false=>exact ht
   |true=>
    rw[hw]at hok;simp only[h4,if_true]at hok⊢;have hok:=hok.1;cases hd:r.d<;>rw[hd]at h4 hok<;>first|(simp[rP]at h4;done)|skip
    case callS f args=>
     simp only[oi]at hok⊢;cases hg:Γ f with
     |none=>exact ht
     |some s=>
      simp only[hg]at hok⊢;cases hk:s.st with
      |none=>exact ht
      |some k=>
       simp only[hk]at hok⊢;exact((aC f s hg).st k hk _ _ hok).2 t ht
    case callv x args=>
     simp only[oi]at hok⊢;cases hx:x.ev st.tmps with
     |nG f bY=>
      rw[hx]at hok;cases f with
      |func g=>
       simp only at hok⊢;cases hg:Γ g with
       |none=>exact ht
       |some s=>
        simp only[hg]at hok⊢;cases hk:s.st with
        |none=>exact ht
        |some k=>
         simp only[hk]at hok⊢;exact((aC g s hg).st k hk _ _ hok).2 t ht
      |_=>exact ht
     |NV=>
      simp only;split<;>exact ht
     |v t=>
      cases t with
      |fn f bY=>
       rw[hx]at hok;cases f with
       |func g=>
        simp only at hok⊢;cases hg:Γ g with
        |none=>exact ht
        |some s=>
         simp only[hg]at hok⊢;cases hk:s.st with
         |none=>exact ht
         |some k=>
          simp only[hk]at hok⊢;exact((aC g s hg).st k hk _ _ hok).2 t ht
       |_=>exact ht
      |mg rv=>
       rw[hx]at hok;simp only at hok⊢;cases Xc:(dL.k:Option (Nat×(bB->bq->fI)))with
       |none=>exact ht
       |some p=>
        obtain⟨l,k⟩:=p;simp only[Xc]at hok⊢;exact dL.aN _ _ Xc _ _ hok.2.2.1 t ht
      |_=>exact ht
     |_=>exact ht
    case entryM x=>exact ht
 have h4:rP r.d=false:=by simpa using h4
 rw[mR h4 hok];cases hp:(vp Γ aJ r st).2 with
 |none=>exact ht
 |some p=>
  obtain⟨t1,o1⟩:=p;have e1:=Cr (((Ia (Γ:=Γ) (aJ:=aJ) r st).resolve_left (by simp[hp])).symm.trans hp);simp only[cG];rw[Zab]
  ·exact ht
  ·rintro rfl;rcases e1 with⟨h1,h2⟩|⟨h1,_⟩
   ·exact hn h2 h1
   ·exact h1 ht
def vh(aC:ay P Γ)(hl:gm r=true)(hok:cJ Γ aJ r st)(bT:∀y∈rs,pX r y=true/\y.dst.isSome=true\/y.dst=none)(h:kC aJ rs st):kC aJ rs (dW Γ aJ r st):=by
 have key:∀t,st.ab t=none->(ut r.d=true->t≠nm aJ r)->(dW Γ aJ r st).ab t=none:=λt ht hn=>Ah aC hok ht hn;have p0:ut r.d=true->∃d,r.dst=some d:=λhr=>Zbp.1 (by simpa [gm,hr]using hl);refine⟨key _ h.1 λhr=>?_,λy hy=>key _ (h.2 y hy) λhr=>?_⟩
 ·obtain⟨d,hd⟩:=p0 hr;simp[nm,bN,hd];omega
 ·obtain⟨d,hd⟩:=p0 hr;rcases bT y hy with⟨h1,h2⟩|h2
  ·obtain⟨e,he⟩:=Zbp.1 h2;have:d≠e:=by simpa [pX,hd,he]using h1
   simp[nm,bN,hd,he];omega
  ·simp[nm,bN,hd,h2];omega
def sk(h:fP (r::rs)=true):∀y∈rs,pX r y=true/\y.dst.isSome=true\/y.dst=none:=by
 intro y hy;simp only[fP,Zam,ZaU]at h;cases hd:y.dst with
 |none=>exact .inr rfl
 |some d=>exact .inl ⟨h.1 y hy,rfl⟩
def ux(aC:ay P Γ)(yb:κ.Good P){ops:Array Oper}{Q:Exit->Act->World->Prop}:∀(l:cO) (rs:ai),(∀(k:Nat) (i:Nat),l[k]? =some i->∃o r,ops[i]? =some o/\rs[k]? =some r/\d9 P ops o=some (bare r))->rs.length=l.length->rs.all (l9 nt)=true->fP rs=true->
  ∀(st:RS) (a:Act) (w:World) (L:Loc),eP κ nt st a w L->kC aJ rs st->jE Γ aJ rs st->(∀a' w' L',eP κ nt (dZ Γ aJ rs st) a' w' L'->Q .normal a' w')->wpOpsIn (iV ro) n P ops Q l a w
 |[],rs,_,hl,_,_,st,a,w,L,h,_,_,hQ=>by
  have:rs=[]:=ZaD (by simpa using hl);subst this;exact hQ a w L h
 |i::l,[],_,hl,_,_,_,_,_,_,_,_,_,_=>by simp at hl
 |i::l,r::rs,hk,hl,d0,bT,st,a,w,L,h,hf,hok,hQ=>by
  obtain⟨o,r',ho,gD,hc⟩:=hk 0 i rfl;simp only[ZaF,Zaa]at gD;subst gD;simp only[ZcG,Zam]at d0;simp only[jE]at hok;have X7:gm r=true:=by have:=d0.1;simp only[l9,Zam]at this;exact this.1.2
  rw[wpOpsIn_cons];refine pZ aC yb ho hc d0.1 h (hf.2 r (by simp)) hok.1 λa' w' L' h'=>?_;refine ux aC yb l rs (λk j hj=>hk (k+1) j (by simpa using hj)) (by simpa using hl) d0.2 (by simp only[fP,Zam]at bT;exact bT.2) _ a' w' L' h' ?_ hok.2 hQ;exact vh aC X7 hok.1 (sk bT) ⟨hf.1,λy hy=>hf.2 y (by simp[hy])⟩
def lL(h:fO P ops=some (rs.map bare)):rs.length=ops.size/\∀(i:Nat) (o:Oper),ops[i]? =some o->∃r,rs[i]? =some r/\d9 P ops o=some (bare r):=by
 unfold fO at h;have key:∀(l:List Oper) (rs:ai),l.mapM (d9 P ops)=some rs->rs.length=l.length/\∀(i:Nat) (o:Oper),l[i]? =some o->∃r,rs[i]? =some r/\d9 P ops o=some r:=by
  intro l;induction l with
  |nil=>intro rs h;simp at h;subst h;simp
  |cons x l ih=>
   intro rs h;simp only[Za7,Zao,Zaj,Zad,Zaa]at h;obtain⟨r,hr,rs',mt,rfl⟩:=h;have:=ih rs' mt;refine⟨by simp[this.1],λi o ho=>?_⟩;cases i with
   |zero=>simp only[ZaF,Zaa]at ho;subst ho;exact⟨r,rfl,hr⟩
   |succ i=>simpa using this.2 i o (by simpa using ho)
 have:=key _ _ h;refine⟨by simpa using this.1,λi o ho=>?_⟩;obtain⟨r,h1,h2⟩:=this.2 i o (by simpa using ho);simp only[Zbx,Zac]at h1;obtain⟨q,h1,rfl⟩:=h1;exact⟨q,h1,h2⟩
def KG(aC:ay P Γ)(yb:κ.Good P)(hc:fO P ops=some (rs.map bare))(hok:ee nt false rs=true){a:Act}{w:World}{L:Loc}(h:eP κ nt st a w L)
  (hf:kC aJ rs st) (bW:jE Γ aJ rs st) (hQ:∀a' w' L',eP κ nt (dZ Γ aJ rs st) a' w' L'->Q .normal a' w'):(Code.region id ops false).wpIn (iV ro) n P Q a w:=by
 have hg:=lL hc;simp only[ee,Zam]at hok;refine wpIn_region (ux aC yb (List.range ops.size) rs (λk i hi=>?_) (by simpa using hg.1) hok.1.1 hok.1.2 st a w L h hf bW hQ);obtain⟨hk,HV⟩:=Zaw.1 hi;simp only[Zb5]at hk;simp only[ZbS]at HV;subst HV;obtain⟨r,h1,h2⟩:=hg.2 k ops[k] (by simp[hk]);exact⟨ops[k],r,by simp[hk],h1,h2⟩
def DF(aC:ay P Γ)(yb:κ.Good P){ops:Array Oper}{r:RO}{post:ai}(hr:l9 nt r=true):∀(pre:ai),(∀x∈pre,kw x r=true/\l9 nt x=true/\∃o,d9 P ops o=some (bare x))->fP (pre++r::post)=true->
  ∀(st:RS),(∃a w L,eP κ nt st a w L)->kC aJ (pre++r::post) st->jE Γ aJ (pre++r::post) st->
   cJ Γ aJ r st/\jE Γ aJ (pre++post) (dW Γ aJ r st)/\dZ Γ aJ (pre++post) (dW Γ aJ r st)=dZ Γ aJ (pre++r::post) st
 |[],_,_,st,_,_,h=>⟨h.1,h.2,rfl⟩
 |x::pre,tB,bT,st,hreal,DB,h=>by
  simp only[ZaM,jE]at h;obtain⟨hi,hx,o,hc⟩:=tB x (by simp);have X5:uu x=true/\gm x=true:=by simp only[l9,Zam]at hx;exact hx.1
  have hcr:uu r=true/\gm r=true:=by simp only[l9,Zam]at hr;exact hr.1
  have hreal':=Vy aC yb hc hx hreal (DB.2 x (by simp)) h.1;have X8:fP (pre++r::post)=true:=by simp only[ZaM,fP,Zam]at bT;exact bT.2
  have hfree':kC aJ (pre++r::post) (dW Γ aJ x st):=vh aC X5.2 h.1 (sk bT) ⟨DB.1,λy hy=>DB.2 y (by simp only[ZaM,Zah];exact .inr hy)⟩;obtain⟨i1,i2,i3⟩:=DF aC yb hr pre (λy hy=>tB y (by simp[hy])) X8 _ hreal' hfree' h.2;obtain⟨s1,s2,s3⟩:=swap hi X5.1 hcr.1 X5.2 hcr.2 (DE hreal) (λ_=>DB.2 x (by simp)) (λ_=>DB.2 r (by simp)) h.1 i1;refine⟨s1,⟨s2,by rw[<-s3];exact i2⟩, ?_⟩;simp only[ZaM,dZ];rw[<-s3];exact i3
def rem(n:Nat)(listed:Array Bool):cO:=(List.range n).filter λi=> !listed.getD i true
def p6{n:Nat}{i:Nat}:i∈rem n listed↔i<n/\listed.getD i true=false:=by
 simp[rem]
def range_split{n i:Nat}(h:i<n):List.range n=List.range i++i::List.range' (i+1) (n-i-1):=by
 have h1:n=i+(1+(n-i-1)):=by omega
 rw[List.range_eq_range',List.range_eq_range']
 conv=>lhs;rw[h1]
 rw[<-List.range'_append_1,Zbi,<-List.range'_append_1];simp
def Vz{n i:Nat}(hs:listed.size=n)(hi:i∈rem n listed):∃pre post,rem n listed=pre++i::post/\rem n (listed.setIfInBounds i true)=pre++post/\(∀x∈pre,x<i/\x∈rem n listed):=by
 obtain⟨h1,h2⟩:=p6.1 hi;have Oi:∀j,j≠i->(listed.setIfInBounds i true).getD j true=listed.getD j true:=λj hj=>getD_set_ne true (Ne.symm hj);have hself:(listed.setIfInBounds i true).getD i true=true:=by
  rw[ZaH,ZbZ];simp[hs,h1]
 refine⟨(List.range i).filter (λj=> !listed.getD j true),(List.range' (i+1) (n-i-1)).filter (λj=> !listed.getD j true), ?_, ?_, ?_⟩
 ·unfold rem;rw[range_split h1,List.filter_append,Za4];simp[h2]
 ·unfold rem;rw[range_split h1,List.filter_append,Za4];simp only[hself,Zcs,ZaW,if_false]
  congr 1
  ·refine List.filter_congr λj hj=>?_;rw[Oi j (by have:=Za2.1 hj;omega)]
  ·refine List.filter_congr λj hj=>?_;rw[Oi j (by have:=Zb6.1 hj;omega)]
 ·intro x hx;simp only[Zbj,Za2,Zbf]at hx;exact⟨hx.1,p6.2 ⟨by omega,hx.2⟩⟩
def one_bit{k:Nat}(h:(1:Nat).testBit k=true):k=0:=by
 cases k with
 |zero=>rfl
 |succ k=>simp[Nat.testBit_succ]at h
def DG(fX:cO):∀(as:cO) (m x:Nat),(as.foldl (λm j=>m|||(1<<<j)|||fX.getD j 0) m).testBit x=true->m.testBit x=true\/x∈as\/∃j∈as,(fX.getD j 0).testBit x=true
 |[],m,x,h=>.inl h
 |j::as,m,x,h=>by
  simp only[ZaN]at h;rcases DG fX as _ x h with h|h|⟨k,hk,h⟩
  ·simp only[Nat.testBit_or,Zci,Nat.testBit_shiftLeft,Zam,Zau,ge_iff_le]at h;rcases h with(h|⟨h1,h2⟩)|h
   ·exact .inl h
   ·have:=one_bit h2;have:x=j:=by omega
    exact .inr (.inl (by simp[this]))
   ·exact .inr (.inr ⟨j,by simp,h⟩)
  ·exact .inr (.inl (by simp[h]))
  ·exact .inr (.inr ⟨k,by simp[hk],h⟩)
def DH:∀(rs:ai) (fX:cO),(rs.foldl (λfX r=>fX++[o7 fX r.after]) fX).take fX.length=fX/\
  ∀(k:Nat) (r:RO),rs[k]? =some r->(rs.foldl (λfX r=>fX++[o7 fX r.after]) fX)[fX.length+k]? =some (o7 ((rs.foldl (λfX r=>fX++[o7 fX r.after]) fX).take (fX.length+k)) r.after)
 |[],fX=>⟨by simp,by simp⟩
 |r::rs,fX=>by
  have ih:=DH rs (fX++[o7 fX r.after]);simp only[ZaN];generalize hm:rs.foldl (λfX r=>fX++[o7 fX r.after]) (fX++[o7 fX r.after])=ms at ih;simp only[ZaK,Za5,Zcj,Zbi]at ih;have h1:ms.take fX.length=fX:=by
   have:=congrArg (List.take fX.length) ih.1;rw[ZcS]at this;simpa [show min fX.length (fX.length+1)=fX.length by omega]using this
  refine⟨h1,λk q hq=>?_⟩;cases k with
  |zero=>
   simp only[ZaF,Zaa]at hq;subst hq;rw[ZbV,h1];have h2:(ms.take (fX.length+1))[fX.length]? =some (o7 fX r.after):=by rw[ih.1];simp
   rw[ZaQ]at h2;simpa using h2
  |succ k=>
   have:=ih.2 k q (by simpa using hq)
   rwa [show fX.length+1+k=fX.length+(k+1)by omega]at this
def VA{i m x:Nat}(hr:rs[i]? =some r)(hm:(ng rs)[i]? =some m)(hx:m.testBit x=true)(hlt:∀j∈r.after,j<i):x∈r.after\/∃j∈r.after,∃mj,(ng rs)[j]? =some mj/\mj.testBit x=true:=by
 have:=(DH rs []).2 i r hr;simp only[Zcj,Zbi]at this;have HP:(ng rs)[i]? =some (o7 ((ng rs).take i) r.after):=this;rw[hm]at HP;simp only[Zaa]at HP;subst HP;unfold o7 at hx;rcases DG _ _ _ _ hx with h|h|⟨j,hj,h⟩
 ·simp at h
 ·exact .inl h
 ·refine .inr ⟨j,hj, ?_⟩;have hji:=hlt j hj;rw[List.getD,ZaQ,Zai hji]at h;cases hmj:(ng rs)[j]? with
  |none=>rw[hmj]at h;simp at h
  |some mj=>rw[hmj]at h;exact⟨mj,rfl,by simpa using h⟩
def Ic(hp:∀(i:Nat) (y:RO),rs[i]? =some y->∀j∈y.after,j<i)(aT:∀(j:Nat) (y:RO),listed.getD j false=true->rs[j]? =some y->∀e∈y.after,listed.getD e false=true):
  ∀(i:Nat) (y:RO) (m x:Nat),rs[i]? =some y->(ng rs)[i]? =some m->m.testBit x=true->(∀e∈y.after,listed.getD e false=true)->listed.getD x false=true:=by
 intro i;induction i using Nat.strongRecOn with
 |_ i ih=>
  intro y m x hy hm hx hd;rcases VA hy hm hx (hp i y hy)with h|⟨j,hj,mj,hmj,hxj⟩
  ·exact hd x h
  ·have hji:=hp i y hy j hj;have dM:j<rs.length:=by
    have:=(Zaw.1 hy).1;omega
   have hyj:rs[j]? =some rs[j]:=by simp[dM]
   exact ih j hji rs[j] mj x hyj hmj hxj (aT j _ (hd j hj) hyj)
def DI(h:vg rs (ng rs)=true):(∀(i:Nat) (y:RO),rs[i]? =some y->∀j∈y.after,j<i)/\
  ∀(i x:Nat) (y r:RO),rs[i]? =some y->x<i->rs[x]? =some r->kw r y=true\/∃m,(ng rs)[i]? =some m/\m.testBit x=true:=by
 unfold vg at h;rw[ZaU]at h;have key:∀(i:Nat) (y:RO),rs[i]? =some y->∃m,(ng rs)[i]? =some m/\(∀j∈y.after,j<i)/\∀x,x<i->m.testBit x=true\/∃r,rs[x]? =some r/\kw r y=true:=by
  intro i y hy;have:=h i (Za2.2 (Zaw.1 hy).1);rw[hy]at this;cases hm:(ng rs)[i]? with
  |none=>rw[hm]at this;simp at this
  |some m=>
   rw[hm]at this;simp only[Zam,ZaU,Zau,Za2,Zci]at this;refine⟨m,rfl,this.1,λx hx=>?_⟩;rcases this.2 x hx with h1|h1
   ·exact .inl h1
   ·cases hr:rs[x]? with
    |none=>rw[hr]at h1;simp at h1
    |some r=>rw[hr]at h1;exact .inr ⟨r,rfl,h1⟩
 refine⟨λi y hy=>(key i y hy).choose_spec.2.1,λi x y r hy hx hr=>?_⟩;obtain⟨m,hm,_,h2⟩:=key i y hy;rcases h2 x hx with h3|⟨r',gD,h3⟩
 ·exact .inr ⟨m,hm,h3⟩
 ·rw[hr]at gD;cases gD;exact .inl h3
def any_run(aC:ay P Γ)(yb:κ.Good P){g:Nat->RO}(hg:∀(i:Nat) (o:Oper),ops[i]? =some o->d9 P ops o=some (bare (g i)))
  (hro:∀i,i<ops.size->l9 nt (g i)=true) (bT:∀l:cO,l.Nodup->(∀i∈l,i<ops.size)->fP (l.map g)=true)
  (hind:∀(listed:Array Bool) (i x:Nat),i<ops.size->x<i->listed.getD x true=false->(∀(j:Nat),j<ops.size->listed.getD j false=true->∀e∈(g j).after,listed.getD e false=true)->(∀e∈(g i).after,listed.getD e false=true)->kw (g x) (g i)=true)
  (hlt:∀i,i<ops.size->∀j∈(g i).after,j<i):
  ∀(fuel:Nat) (listed:Array Bool),listed.size=ops.size->(rem ops.size listed).length=fuel->(∀(j:Nat),j<ops.size->listed.getD j false=true->∀e∈(g j).after,listed.getD e false=true)->
   ∀(st:RS) (a:Act) (w:World) (L:Loc),eP κ nt st a w L->kC aJ ((rem ops.size listed).map g) st->jE Γ aJ ((rem ops.size listed).map g) st->
    (∀a' w' L',eP κ nt (dZ Γ aJ ((rem ops.size listed).map g) st) a' w' L'->Q .normal a' w')->wpAnyIn (iV ro) n P .any ops Q fuel listed a w:=by
 have Ai:∀(i:Nat) (o:Oper),ops[i]? =some o->∀(listed:Array Bool),(∀e∈o.after,Region.binds .any e=true->listed.getD e.on false=true)↔∀e∈(g i).after,listed.getD e false=true:=by
  intro i o ho listed;have:=(fQ (hg i o ho)).2.2.2;rw[this];constructor
  ·intro h e he;simp only[Zak,Zbj]at he;obtain⟨x,⟨hx,hb⟩,rfl⟩:=he;exact h x (by simpa using hx) hb
  ·intro h e he hb;exact h e.on (Zak.2 ⟨e,Zbj.2 ⟨by simpa using he,hb⟩,rfl⟩)
 intro fuel;induction fuel with
 |zero=>
  intro listed hs hfu aT st a w L h hf hok hQ;have KH:rem ops.size listed=[]:=ZaD hfu;refine⟨?_, ?_⟩
  ·cases hr:Region.ready .any ops listed with
   |nil=>rfl
   |cons j js=>
    exfalso;have hj:j∈Region.ready .any ops listed:=by rw[hr];simp
    obtain⟨h0,o,ho,_⟩:=mem_ready.1 hj;have:j∈rem ops.size listed:=p6.2 ⟨(Zap.1 ho).1,h0⟩;rw[KH]at this;cases this
  ·rw[KH]at hQ;exact hQ a w L h
 |succ fuel ih=>
  intro listed hs hfu aT st a w L h hf hok hQ;refine⟨λhr=>?_,λi hi=>?_⟩
  ·exfalso;have X9:∃i,i∈rem ops.size listed/\∀x<i,x∉rem ops.size listed:=by
    have Dn:∃i,i∈rem ops.size listed:=by
     cases hl:rem ops.size listed with
     |nil=>rw[hl]at hfu;cases hfu
     |cons i l=>exact⟨i,by simp⟩
    obtain⟨i,hi⟩:=Dn;induction i using Nat.strongRecOn with
    |_ i ih2=>
     by_cases hx:∃x,x<i/\x∈rem ops.size listed
     ·obtain⟨x,HS,v7⟩:=hx;exact ih2 x HS v7
     ·exact⟨i,hi,λx HS v7=>hx ⟨x,HS,v7⟩⟩
   obtain⟨i,hi,X9⟩:=X9;obtain⟨h1,h2⟩:=p6.1 hi;have:i∈Region.ready .any ops listed:=mem_ready.2 ⟨h2,ops[i],by simp[h1],by
    rw[Ai i ops[i] (by simp[h1])];intro e he;have hei:=hlt i h1 e he;have hn:=X9 e hei;rw[p6]at hn;have Xf:e<listed.size:=by omega
    rw[ZaH]at hn⊢;simp only[Xf,ZbD,Zbd]at hn⊢;cases hb:listed[e]
    ·exact Zar ⟨by omega,hb⟩ hn
    ·rfl⟩
   rw[hr]at this;cases this
  ·obtain⟨h0,o,ho,d0⟩:=mem_ready.1 hi;have Ya:i<ops.size:=(Zap.1 ho).1;have hdeps:=(Ai i o ho listed).1 d0;obtain⟨pre,post,e1,e2,tB⟩:=Vz hs (p6.2 ⟨Ya,h0⟩);rw[e1,ZaZ,ZaA]at hok hQ hf;have yd:(pre++i::post).Nodup:=by
    rw[<-e1];exact List.Pairwise.filter _ List.nodup_range
   have hbd:∀x∈pre++i::post,x<ops.size:=by
    intro x hx;rw[<-e1]at hx;exact(p6.1 hx).1
   have hne1:fP (pre.map g++g i::post.map g)=true:=by
    have:=bT _ yd hbd;simpa using this
   have mv:=DF (κ:=κ) aC yb (ops:=ops) (hro i Ya) (pre.map g) (λx hx=>by
    obtain⟨y,hy,rfl⟩:=Zak.1 hx;have fJ:=tB y hy;have hyb:=(p6.1 fJ.2);refine⟨hind listed i y Ya fJ.1 hyb.2 aT hdeps,hro y hyb.1,ops[y],hg y _ (by simp[hyb.1])⟩) hne1 st ⟨a,w,L,h⟩ hf hok
   have hgi:=hg i o ho;refine pZ aC yb ho hgi (hro i Ya) h (hf.2 (g i) (by simp)) mv.1 λa' w' L' h'=>?_;refine ih (listed.setIfInBounds i true) (by simpa using hs) ?_ ?_ _ a' w' L' h' ?_ ?_ ?_
   ·rw[e2];rw[e1]at hfu;simp only[ZaK,Za5]at hfu⊢;omega
   ·intro j hj J3 e he;by_cases hji:j=i
    ·subst hji;exact getD_set_true (hdeps e he)
    ·rw[getD_set_ne false (Ne.symm hji)]at J3;exact getD_set_true (aT j hj J3 e he)
   ·rw[e2,ZaZ];have X7:gm (g i)=true:=by have:=hro i Ya;simp only[l9,Zam]at this;exact this.1.2
    refine vh aC X7 mv.1 (λy hy=>?_) ⟨hf.1,λy hy=>hf.2 y ?_⟩
    ·have hnd2:(i::(pre++post)).Nodup:=(List.perm_middle.nodup_iff).1 yd;have:=bT _ hnd2 (λx hx=>hbd x (by simp only[Zah,Zaq]at hx⊢;rcases hx with h|h|h<;>simp[h]))
     rw[ZaA,ZaZ]at this;exact sk this y hy
    ·simp only[Zaq,Zah]at hy⊢;rcases hy with h|h
     ·exact .inl h
     ·exact .inr (.inr h)
   ·rw[e2,ZaZ];exact mv.2.1
   ·rw[e2,ZaZ,mv.2.2];exact hQ
def wa:∀{rs:ai},fP rs=true->∀(i j:Nat) (x y:RO),i≠j->rs[i]? =some x->rs[j]? =some y->pX x y=true
 |[],_,_,_,_,_,_,h,_=>by simp at h
 |r::rs,hd,i,j,x,y,hij,hx,hy=>by
  simp only[fP,Zam,ZaU]at hd;cases i with
  |zero=>
   simp only[ZaF,Zaa]at hx;subst hx;cases j with
   |zero=>exact Zar rfl hij
   |succ j=>exact hd.1 y (Zax (by simpa using hy))
  |succ i=>
   cases j with
   |zero=>
    simp only[ZaF,Zaa]at hy;subst hy;exact DD (hd.1 x (Zax (by simpa using hx)))
   |succ j=>exact wa hd.2 i j x y (by omega) (by simpa using hx) (by simpa using hy)
def KJ(aC:ay P Γ)(yb:κ.Good P)(hm:P.follows .mixedOrders=true)(hc:fO P ops=some (rs.map bare))(hok:ee nt true rs=true){a:Act}{w:World}{L:Loc}(h:eP κ nt st a w L)
  (hf:kC aJ rs st) (bW:jE Γ aJ rs st) (hQ:∀a' w' L',eP κ nt (dZ Γ aJ rs st) a' w' L'->Q .normal a' w'):(Code.region id ops true).wpIn (iV ro) n P Q a w:=by
 obtain⟨dM,mF⟩:=lL hc;simp only[ee,Zam,Zcs,Bool.false_or]at hok;obtain⟨⟨d0,Vx⟩,hp⟩:=hok;obtain⟨hlt,hpair⟩:=DI hp
 let g:Nat->RO:=λi=>(rs[i]?).getD ⟨.qu (.gN .undef),none,none,[],none⟩
 have gg:∀i,i<ops.size->rs[i]? =some (g i):=λi hi=>by
  have:i<rs.length:=by omega
  simp[g,this]
 have hgc:∀(i:Nat) (o:Oper),ops[i]? =some o->d9 P ops o=some (bare (g i)):=λi o ho=>by
  obtain⟨r,h1,h2⟩:=mF i o ho;have:g i=r:=by simp[g,h1]
  rw[this];exact h2
 have mt:rs=(List.range ops.size).map g:=by
  apply ZbN;intro i;by_cases hi:i<ops.size
  ·rw[gg i hi];simp[hi]
  ·rw[Zbs (by omega),Zbs (by simp;omega)]
 have QC:rem ops.size (Array.replicate ops.size false)=List.range ops.size:=by
  unfold rem;rw[List.filter_eq_self.2];intro i hi;have:=Za2.1 hi;simp[ZaH,this]
 have hh:eP κ nt st a {w with drawn:=w.drawn+1} L:=by
  have hb:vO w.heap.size w {w with drawn:=w.drawn+1}:=⟨⟨rfl,rfl,rfl,Zaf _,λ_ _=>rfl⟩,Zdb _⟩;obtain⟨W,base,M,w0,dP,h0⟩:=h.ex;obtain⟨hO,hA⟩:=ct.grow h0.o hb;obtain⟨Ds,h1,h2,h3,h4⟩:=h.defers;exact⟨⟨W,base,M,w0,dP,h0.size,λt=>aA.eZ hA _ _ (h0.tmps t),hO⟩,h.eZ.comp hA (dP.H3 _) dP.sub.2,⟨Ds,h1,h2,λD hD=>⟨hA.dx.W8 D (h3 D hD).1,(h3 D hD).2⟩,h4⟩,h.bg,h.bZ⟩
 refine wpIn_region_any hm (any_run aC yb (g:=g) hgc (λi hi=>ZaU.1 d0 _ (Zax (gg i hi))) (λl hl hb=>?_) (λlisted i x hi hx Gb aT hd=>?_) (λi hi=>hlt i (g i) (gg i hi)) ops.size _ (by simp) (by rw[QC];simp) (λj hj J3=>?_) st a _ L hh
  (by rw[QC,<-mt];exact hf) (by rw[QC,<-mt];exact bW) (by rw[QC,<-mt];exact hQ))
 ·clear bW hQ hf;induction l with
  |nil=>rfl
  |cons i l ih=>
   simp only[ZaA,fP,Zam,ZaU];rw[Zcw]at hl;refine⟨λy hy=>?_,ih hl.2 λj hj=>hb j (by simp[hj])⟩;obtain⟨j,hj,rfl⟩:=Zak.1 hy;exact wa Vx i j _ _ (by rintro rfl;exact hl.1 hj) (gg i (hb i (by simp))) (gg j (hb j (by simp[hj])))
 ·rcases hpair i x (g i) (g x) (gg i hi) hx (gg x (by omega))with h1|⟨m,QD,NX⟩
  ·exact h1
  ·exfalso;have:=Ic (rs:=rs) (listed:=listed) hlt (λj y hj hy=>by
    have hjn:j<ops.size:=by have:=(Zaw.1 hy).1;omega
    have:y=g j:=by rw[gg j hjn]at hy;exact(ZbU hy).symm
    rw[this];exact aT j hjn hj) i (g i) m x (gg i hi) QD NX hd
   rw[ZaH]at this Gb;cases v7:listed[x]? with
   |none=>rw[v7]at this;simp at this
   |some b=>rw[v7]at this Gb;simp at this Gb;rw[this]at Gb;cases Gb
 ·rw[ZaH]at J3;simp[hj]at J3
end
end
section
variable{id d1 d2:Nat}{draw:Bool}{rs:ai}{ops:Array Oper}{dm:l8}
variable [bI] [dL]
inductive DC where
 |skip
 |region (draw:Bool) (rs:ai)
 |jr (rs:ai)
 |seq (a b:DC)
 |cond (c:bQ) (a b:DC)
 |block (id:Nat) (c:DC)
 |loop (c:DC)
 |exit (id:Nat)
 |ret
 |Id (g:bQ) (ps:cO) (a b:DC)
 |QE (x:bQ) (d1 d2:Nat)
 |By
def Yb(ops:Array Oper):Option (bQ×Nat×Nat):=
 match ops.toList with
 |[a,b]=>match a.op,b.op,a.dst,b.dst,a.guard,b.guard with
  |.next x false,.extract (.tmp t) 0,some d1,some d2,none,none=>if t=d1 then(bQ.of x).map λy=>(y,d1,d2)else none
  |_,_,_,_,_,_=>none
 |_=>none
def ce(P:Program)(nt:Nat):Code->DC
 |.skip=>.skip
 |.region _ ops draw=>match fO P ops with
  |some rs=>if ee nt draw rs then .region draw rs else if draw&&ee nt false rs then .jr rs else .By
  |none=>if draw then .By else match Yb ops with
   |some q=>if q.2.1<nt/\q.2.2<nt then .QE q.1 q.2.1 q.2.2 else .By
   |none=>.By
 |.seq a b=>.seq (ce P nt a) (ce P nt b)
 |.cond c a b=>match bQ.of c with
  |some x=>.cond x (ce P nt a) (ce P nt b)
  |none=>.By
 |.block id c=>.block id (ce P nt c)
 |.loop c=>.loop (ce P nt c)
 |.exit id=>.exit id
 |.ret=>.ret
 |.rangeFunc g ps a b=>match bQ.of g with
  |some x=>if ps.toList.all (·<nt)then .Id x ps.toList (ce P nt a) (ce P nt b)else .By
  |none=>.By
 |_=>.By
section
variable{P:Program}{nt:Nat}{c:Code}
def Yc(h:ce P nt c=.skip):c=.skip:=by
 cases c<;>simp only[ce]at h<;>first|rfl|cases h|(repeat' split at h)<;>cases h
def inv_ret(h:ce P nt c=.ret):c=.ret:=by
 cases c<;>simp only[ce]at h<;>first|rfl|cases h|(repeat' split at h)<;>cases h
def Oj{x:bQ}{ps:cO}{a b:DC}(h:ce P nt c=.Id x ps a b):∃g qs y z,c=.rangeFunc g qs y z/\bQ.of g=some x/\qs.toList=ps/\(∀p∈ps,p<nt)/\ce P nt y=a/\ce P nt z=b:=by
 cases c<;>simp only[ce]at h<;>first|(cases h;done)|skip
 ·(repeat' split at h)<;>cases h
 ·split at h<;>cases h
 ·split at h
  ·rename_i hx;split at h
   ·rename_i hp;cases h;exact⟨_,_,_,_,rfl,hx,rfl,λp hp'=>by have:=ZaU.1 hp p hp';simpa using this,rfl,rfl⟩
   ·cases h
  ·cases h
def Yd(h:ce P nt c=.exit id):c=.exit id:=by
 cases c<;>simp only[ce]at h<;>first|(cases h;rfl)|cases h|(repeat' split at h)<;>cases h
def inv_seq{a b:DC}(h:ce P nt c=.seq a b):∃x y,c=.seq x y/\ce P nt x=a/\ce P nt y=b:=by
 cases c<;>simp only[ce]at h<;>first|(cases h;exact⟨_,_,rfl,rfl,rfl⟩)|cases h|(repeat' split at h)<;>cases h
def Ye{x:bQ}{a b:DC}(h:ce P nt c=.cond x a b):∃x' y z,c=.cond x' y z/\bQ.of x'=some x/\ce P nt y=a/\ce P nt z=b:=by
 cases c<;>simp only[ce]at h<;>first|(cases h;done)|skip
 ·(repeat' split at h)<;>cases h
 ·split at h
  ·rename_i hx;cases h;exact⟨_,_,_,rfl,hx,rfl,rfl⟩
  ·cases h
 ·(repeat' split at h)<;>cases h
def VB{a:DC}(h:ce P nt c=.block id a):∃x,c=.block id x/\ce P nt x=a:=by
 cases c<;>simp only[ce]at h<;>first|(cases h;exact⟨_,rfl,rfl⟩)|cases h|(repeat' split at h)<;>cases h
def Yf{a:DC}(h:ce P nt c=.loop a):∃x,c=.loop x/\ce P nt x=a:=by
 cases c<;>simp only[ce]at h<;>first|(cases h;exact⟨_,rfl,rfl⟩)|cases h|(repeat' split at h)<;>cases h
def o8(h:ce P nt c=.region draw rs):∃id ops,c=.region id ops draw/\fO P ops=some rs/\ee nt draw rs=true:=by
 cases c<;>simp only[ce]at h<;>first|(cases h;done)|skip
 case region id ops dr=>
  split at h
  ·rename_i mt;split at h
   ·rename_i hok;cases h;exact⟨_,_,rfl,mt,hok⟩
   ·split at h<;>cases h
  ·(repeat' split at h)<;>cases h
 case cond=>split at h<;>cases h
 case rangeFunc=>(repeat' split at h)<;>cases h
def KK(h:ce P nt c=.jr rs):∃id ops,c=.region id ops true/\fO P ops=some rs:=by
 cases c<;>simp only[ce]at h<;>first|(cases h;done)|skip
 case region id ops dr=>
  split at h
  ·rename_i mt;split at h
   ·cases h
   ·split at h
    ·rename_i hd;cases h;simp only[Zam]at hd;exact⟨_,_,by rw[hd.1],mt⟩
    ·cases h
  ·(repeat' split at h)<;>cases h
 case cond=>split at h<;>cases h
 case rangeFunc=>(repeat' split at h)<;>cases h
end
def VC{P:Program}{nt:Nat}{c:Code}{x:bQ}(h:ce P nt c=.QE x d1 d2):∃id o1 o2 y,c=.region id #[o1,o2] false/\o1.op=.next y false/\bQ.of y=some x/\o1.dst=some d1/\o1.guard=none/\o2.op=.extract (.tmp d1) 0/\o2.dst=some d2/\o2.guard=none/\d1<nt/\d2<nt:=by
 cases c<;>simp only[ce]at h<;>first|(cases h;done)|skip
 case region id ops dr=>
  split at h
  ·split at h
   ·cases h
   ·split at h<;>cases h
  ·split at h
   ·cases h
   ·rename_i Kq;have Kq:dr=false:=by simpa using Kq
    subst Kq;split at h
    ·rename_i q hq;split at h
     ·rename_i hlt;cases h;unfold Yb at hq;split at hq
      ·rename_i o1 o2 hops;split at hq
       ·rename_i y t e1 e2 h1 h2 h3 h4 h5 h6;split at hq
        ·rename_i hte;subst hte;simp only[Zac]at hq;obtain⟨z,hz,rfl⟩:=hq;exact⟨id,o1,o2,y,by rw[show ops= #[o1,o2]by rw[<-Array.toArray_toList (xs:=ops),hops]],h1,hz,h3,h5,h2,h4,h6,hlt.1,hlt.2⟩
        ·cases hq
       ·cases hq
      ·cases hq
     ·cases h
    ·cases h
 case cond=>split at h<;>cases h
 case rangeFunc=>(repeat' split at h)<;>cases h
def Gh{P:Program}{o:Oper}{d:rO}(h:dz P o=some d):Bt d=d:=by
 cases d<;>first|rfl|skip
 case mkSliceB=>exact(no_mkB h).elim
 case callS=>
  obtain⟨c,_,hc⟩:=fz h (.inr (.inl ⟨_,_,rfl⟩));exfalso;unfold eG at hc;repeat' split at hc
  all_goals first
   |(cases hc;done)
   |(simp only[Zac,Zao,Zaj,Zad,Zaa,reduceCtorEq,and_false,exists_false]at hc;done)
 case callF=>
  obtain⟨c,_,hc⟩:=fz h (.inr (.inr (.inr (.inl ⟨_,_,rfl⟩))));exfalso;unfold eG at hc;repeat' split at hc
  all_goals first
   |(cases hc;done)
   |(simp only[Zac,Zao,Zaj,Zad,Zaa,reduceCtorEq,and_false,exists_false]at hc;done)
 case callR=>
  obtain⟨c,_,hc⟩:=fz h (.inr (.inr (.inr (.inr ⟨_,_,rfl⟩))));exfalso;unfold eG at hc;repeat' split at hc
  all_goals first
   |(cases hc;done)
   |(simp only[Zac,Zao,Zaj,Zad,Zaa,reduceCtorEq,and_false,exists_false]at hc;done)
def DJ{P:Program}{o:Oper}{r:RO}(h:d9 P ops o=some r):bare r=r:=by
 simp only[d9,Zao,Zaj,Zad,Zaa]at h;obtain⟨d,hd,g,hg,rfl⟩:=h;simp only[bare,Gh hd]
def tr{P:Program}(h:fO P ops=some rs):rs.map bare=rs:=by
 unfold fO at h;have key:∀(l:List Oper) (rs:ai),l.mapM (d9 P ops)=some rs->rs.map bare=rs:=by
  intro l;induction l with
  |nil=>intro rs h;simp at h;subst h;rfl
  |cons o l ih=>
   intro rs h;simp only[Za7,Zao,Zaj,Zad,Zaa]at h;obtain⟨r,hr,rs',mt,rfl⟩:=h;simp only[ZaA,DJ hr,ih rs' mt]
 exact key _ _ h
def eR:ai->List (Option (cO))->ai
 |r::rs,t::ts=>⟨r.d,r.dst,r.guard,r.after,t⟩::eR rs ts
 |rs,_=>rs
structure Ie(κ:oX)(nt:Nat)(st:l8)(a:Act)(w:World)(L:Loc):Prop where
 r:eP κ nt ⟨st.tmps,st.ab,st.todo⟩ a w L
 fresh:∀r,st.aJ<=r->st.ab r=none
 low:∀r,st.low<=r->κ.go r=none
 it:κ.J.isSome=true->st.low=0
def Sat(P:Program)(nt:Nat)(c:Code)(Q:Exit->l8->Prop)(st:l8):Prop:=
 ∀(n:Nat) (κ:oX) (a:Act) (w:World) (L:Loc),κ.Good P->Ie κ nt st a w L->
  c.wpIn (iV κ.ro) n P (λe a' w'=>∃dm L',Q e dm/\Ie κ nt dm a' w' L') a w
structure aa(P:Program)(nt:Nat)(d:DC)(Q:Exit->l8->Prop)(st:l8):Prop where
 run:∀c,ce P nt c=d->Sat P nt c Q st
def Le(st dm:l8):Prop:=∀(κ:oX) (nt:Nat) (a:Act) (w:World) (L:Loc),Ie κ nt st a w L->∃L',Ie κ nt dm a w L'
def Le.refl(st:l8):Le st st:=λ_ _ _ _ L h=>⟨L,h⟩
def Le.trans{a b c:l8}(h:Le a b)(k:Le b c):Le a c:=λ_ _ _ _ L r=>let⟨_,r'⟩:=h _ _ _ _ L r;k _ _ _ _ _ r'
section
variable{P:Program}{nt:Nat}{Γ:pI}{Q:Exit->l8->Prop}{st:l8}
def Sat.le{c:Code}(h:Le st dm)(k:Sat P nt c Q dm):Sat P nt c Q st:=λn κ a w L g r=>let⟨L',r'⟩:=h _ _ _ _ L r;k n κ a w L' g r'
def aa.le{d:DC}(h:Le st dm)(k:aa P nt d Q dm):aa P nt d Q st:=⟨λc hc=>Sat.le h (k.run c hc)⟩
def aa.yf{d:DC}{Q':Exit->l8->Prop}(h:aa P nt d Q st)(hq:∀e st,Q e st->∃st2,Le st st2/\Q' e st2):aa P nt d Q' st:=
 ⟨λc hc n κ a w L g r=>wpIn_mono (h.run c hc n κ a w L g r) λ_ _ _ ⟨_,L',q,r'⟩=>let⟨st2,hl,q2⟩:=hq _ _ q;let⟨L2,r2⟩:=hl _ _ _ _ L' r';⟨st2,L2,q2,r2⟩⟩
def aa.skip(h:Q .normal st):aa P nt .skip Q st:=by
 refine⟨λc hc=>?_⟩;obtain rfl:=Yc hc;exact λn κ a w L g r=>wpIn_skip ⟨st,L,h,r⟩
def aa.exit(h:Q (.exit id) st):aa P nt (.exit id) Q st:=by
 refine⟨λc hc=>?_⟩;obtain rfl:=Yd hc;exact λn κ a w L g r=>wpIn_exit ⟨st,L,h,r⟩
def aa.ret(h:Q .ret st):aa P nt .ret Q st:=by
 refine⟨λc hc=>?_⟩;obtain rfl:=inv_ret hc;exact λn κ a w L g r=>wpIn_ret ⟨st,L,h,r⟩
def QF(k:l8->Prop)(Q:Exit->l8->Prop):Exit->l8->Prop
 |.normal,st=>k st
 |e,st=>Q e st
def aa.seq{a b:DC}(h:aa P nt a (QF (aa P nt b Q) Q) st):aa P nt (.seq a b) Q st:=by
 refine⟨λc hc=>?_⟩;obtain⟨a',b',rfl,ha,hb⟩:=inv_seq hc;intro n κ Xg w L g r;refine wpIn_seq (wpIn_mono (h.run _ ha n κ Xg w L g r) ?_);rintro e a' w' ⟨dm,L',q,r'⟩;cases e with
 |normal=>exact q.run _ hb n κ a' w' L' g r'
 |_=>exact⟨dm,L',q,r'⟩
def aa.cond{x:bQ}{a b:DC}{t:Bool}(hx:x.ev st.tmps=.v (.bool t))(ht:t=true->aa P nt a Q st)(hf:t=false->aa P nt b Q st):aa P nt (.cond x a b) Q st:=by
 refine⟨λc hc=>?_⟩;obtain⟨x',a',b',rfl,mh,ha,hb⟩:=Ye hc;intro n κ Xg w L g r;obtain⟨W,base,M,w0,dP,h0⟩:=r.r.ex;have:=bQ.bP h0.o.gl h0.tmps mh;rw[hx]at this;simp only[aA,bj]at this;cases t with
 |true=>exact wpIn_cond_true this ((ht rfl).run _ ha n κ Xg w L g r)
 |false=>exact wpIn_cond_false this ((hf rfl).run _ hb n κ Xg w L g r)
def Ok(id:Nat)(Q:Exit->l8->Prop):Exit->l8->Prop
 |.exit id',st=>if id'=id then Q .normal st else Q (.exit id') st
 |e,st=>Q e st
def aa.block{a:DC}(h:aa P nt a (Ok id Q) st):aa P nt (.block id a) Q st:=by
 refine⟨λc hc=>?_⟩;obtain⟨a',rfl,ha⟩:=VB hc;intro n κ Xg w L g r;refine wpIn_block (wpIn_mono (h.run _ ha n κ Xg w L g r) ?_);rintro e a' w' ⟨dm,L',q,r'⟩;cases e with
 |exit id'=>
  simp only[Ok]at q;simp only[Exit.inBlock];split at q
  ·rename_i h;rw[Zai h];exact⟨dm,L',q,r'⟩
  ·rename_i h;rw[Zab h];exact⟨dm,L',q,r'⟩
 |_=>exact⟨dm,L',q,r'⟩
def aa.loop{α:Type}{body:DC}(R:α->l8)(I:α->Prop)(μ:α->Nat)(x:α)(h0:Le st (R x))(hI:I x)
  (round:∀y,I y->aa P nt body (QF (λdm=>∃z,Le dm (R z)/\I z/\μ z<μ y) Q) (R y)):aa P nt (.loop body) Q st:=by
 refine⟨λc hc=>?_⟩;obtain⟨a',rfl,ha'⟩:=Yf hc;intro n κ Xg w L g r;obtain⟨L0,r0⟩:=h0 _ _ _ _ L r;refine wpIn_loop_ghost (λk a w=>∃y L,μ y=k/\I y/\Ie κ nt (R y) a w L) (μ x) ⟨x,L0,rfl,hI,r0⟩ ?_;rintro k a w ⟨y,L,rfl,hy,hr⟩;refine wpIn_mono ((round y hy).run _ ha' n κ a w L g hr) ?_;rintro e a' w' ⟨dm,L',q,r'⟩;cases e with
 |normal=>
  obtain⟨z,jy,hz,hlt⟩:=q;obtain⟨L2,r2⟩:=jy _ _ _ _ L' r';exact⟨μ z,hlt,z,L2,rfl,hz,r2⟩
 |_=>exact⟨dm,L',q,r'⟩
def yg(aC:ay P Γ){aJ:Nat}:∀(rs:ai),rs.all (l9 nt)=true->∀(st:RS),jE Γ aJ rs st->∀t,aJ+nt+1<=t->st.ab t=none->(dZ Γ aJ rs st).ab t=none
 |[],_,st,_,t,_,h=>h
 |r::rs,d0,st,hok,t,ht,h=>by
  simp only[ZcG,Zam]at d0;simp only[jE]at hok;refine yg aC rs d0.2 _ hok.2 t ht (Ah aC hok.1 h λhl e=>?_);have hr:=d0.1;simp only[l9,Zam]at hr;have hs:r.dst.isSome=true:=by simpa [gm,hl]using hr.1.2
  obtain⟨d,hd⟩:=Zbp.1 hs;have hlt:d<nt:=by have:=hr.2;rw[hd]at this;simpa using this
  simp only[nm,bN,hd]at e;omega
def sr(aC:ay P Γ)(hm:P.follows .mixedOrders=true)(mt:fO P ops=some (rs.map bare))(hok:ee nt draw rs=true)
  (bW:jE Γ st.aJ rs ⟨st.tmps,st.ab,st.todo⟩) (hQ:Q .normal ⟨(dZ Γ st.aJ rs ⟨st.tmps,st.ab,st.todo⟩).tmps,(dZ Γ st.aJ rs ⟨st.tmps,st.ab,st.todo⟩).ab,st.aJ+nt+1,st.low,(dZ Γ st.aJ rs ⟨st.tmps,st.ab,st.todo⟩).todo⟩):
  Sat P nt (.region id ops draw) Q st:=by
 intro n κ Xg w L g r;have hname:∀x∈rs,∃k,nm st.aJ x=st.aJ+k:=λx _=>by
  unfold nm bN;cases x.dst with
  |none=>exact⟨0,rfl⟩
  |some d=>exact⟨d+1,by simp only[Nat.add_assoc]⟩
 have hf:kC st.aJ rs ⟨st.tmps,st.ab,st.todo⟩:=⟨r.fresh _ (Zaf _),λx hx=>by
  obtain⟨k,hk⟩:=hname x hx;rw[hk];exact r.fresh _ (by omega)⟩
 have bZ:∀a' w' L',eP κ nt (dZ Γ st.aJ rs ⟨st.tmps,st.ab,st.todo⟩) a' w' L'->∃dm L',Q .normal dm/\Ie κ nt dm a' w' L':=by
  intro a' w' L' r';refine⟨_,L',hQ,r', ?_,r.low,r.it⟩;have d0:rs.all (l9 nt)=true:=by simp only[ee,Zam]at hok;exact hok.1.1
  intro t ht;exact yg aC rs d0 _ bW t ht (r.fresh t (by simp only at ht;omega))
 cases draw with
 |false=>exact KG aC g mt hok r.r hf bW bZ
 |true=>exact KJ aC g hm mt hok r.r hf bW bZ
def aa.region(aC:ay P Γ)(hm:P.follows .mixedOrders=true)(bW:jE Γ st.aJ rs ⟨st.tmps,st.ab,st.todo⟩)(hQ:Q .normal ⟨(dZ Γ st.aJ rs ⟨st.tmps,st.ab,st.todo⟩).tmps,(dZ Γ st.aJ rs ⟨st.tmps,st.ab,st.todo⟩).ab,st.aJ+nt+1,st.low,(dZ Γ st.aJ rs ⟨st.tmps,st.ab,st.todo⟩).todo⟩):
  aa P nt (.region draw rs) Q st:=by
 refine⟨λc hc=>?_⟩;obtain⟨id,ops,rfl,mt,hok⟩:=o8 hc;exact sr aC hm (by rw[tr mt];exact mt) hok bW hQ
def aa.regionA(aC:ay P Γ)(hm:P.follows .mixedOrders=true){d:DC}(hd:d=.jr (rs.map bare)\/∃draw,d=.region draw (rs.map bare))(hok:ee nt true rs=true)
  (bW:jE Γ st.aJ rs ⟨st.tmps,st.ab,st.todo⟩) (hQ:Q .normal ⟨(dZ Γ st.aJ rs ⟨st.tmps,st.ab,st.todo⟩).tmps,(dZ Γ st.aJ rs ⟨st.tmps,st.ab,st.todo⟩).ab,st.aJ+nt+1,st.low,(dZ Γ st.aJ rs ⟨st.tmps,st.ab,st.todo⟩).todo⟩):
  aa P nt d Q st:=by
 refine⟨λc hc=>?_⟩;rcases hd with rfl|⟨draw,rfl⟩
 ·obtain⟨id,ops,rfl,mt⟩:=KK hc;exact sr aC hm mt hok bW hQ
 ·obtain⟨id,ops,rfl,mt,hok'⟩:=o8 hc;refine sr aC hm mt ?_ bW hQ;cases draw with
  |true=>exact hok
  |false=>simp only[ee,Zam]at hok⊢;exact⟨hok.1,rfl⟩
def aa.next{x:bQ}{r m s l c:Nat}{sn:cO}{cj:List Sh}{agg:Bool}{es:List (Nat×T×DV)}(hx:x.ev st.tmps=.iter r)(hr:st.ab r=some (.iter m s sn l))(hm:st.ab m=some (.map cj agg c es))(hlt:∀e∈es,e.1<s)(hl:s<=l)
  (Yg:(∀e∈es,e.1∈sn)->Q .normal ⟨cU (cU st.tmps (some d1) .undef) (some d2) (.v (.bool false)),st.ab,st.aJ,st.low,st.todo⟩)
  (XU:∀e∈es,e.1∉sn->Q .normal ⟨cU (cU st.tmps (some d1) .undef) (some d2) (.v (.bool true)),cG st.ab (some (r,.iter m s (sn++[e.1]) c)),st.aJ,st.low,st.todo⟩):
  aa P nt (.QE x d1 d2) Q st:=by
 refine⟨λcc hc=>?_⟩;obtain⟨id,o1,o2,y,rfl,h1,hy,h2,h3,h4,h5,h6,hd1,hd2⟩:=VC hc;intro n κ a w L g r0;refine wpIn_region ?_;have hR:=r0.r;obtain⟨W,base,M,w0,dP,h0⟩:=hR.ex;have Ga:=bQ.bP h0.o.gl h0.tmps hy;rw[hx]at Ga;simp only[aA]at Ga;obtain⟨_,Qy⟩:=Ga;have bZ:∀{b:Bool} {aI:bq} {v:Value} {w':World},ct base W M w0 aI w' L->gP W st.ab L w aI L w'->(∃N,∀r,N<=r->aI r=none)->(∀t,st.ab t=none->aI t=none)->(∃rest:List Value,v=.tuple (Value.bool b::rest).toArray)->(execOp a.eval o1).run P w=.ok (.value v) w'->
   Q .normal ⟨cU (cU st.tmps (some d1) .undef) (some d2) (.v (.bool b)),aI,st.aJ,st.low,st.todo⟩->
   wpOpsIn (iV κ.ro) n P #[o1,o2] (λe a' w'=>∃dm L',Q e dm/\Ie κ nt dm a' w' L') (List.range 2) a w:=by
  intro b aI v w' hO hA lr mi hv bW hQ;obtain⟨rest,rfl⟩:=hv;show wpOpsIn (iV κ.ro) n P #[o1,o2] _ [0,1] a w;rw[wpOpsIn_cons,wpOpIn];simp only[show(#[o1,o2]:Array Oper)[0]? =some o1 from rfl,Region.wanted,h3,if_true];refine⟨mC o1 w _, ?_⟩;rw[show(iV κ.ro).round=κ.ro from rfl,Oper.semAt_eq κ.ro _ o1 (λc hc=>by rw[h1]at hc;cases hc),bW,Oper.uponIn_value,h2];have R1:eP κ nt ⟨cU st.tmps (some d1) .undef,aI,st.todo⟩ (a.put (some d1) (.tuple (Value.bool b::rest).toArray)) w' L:=eP.put hR dP h0 (some d1) (λd hd=>by cases hd;exact hd1) hO hA (by simp[aA]) lr;rw[wpOpsIn_cons,wpOpIn];simp only[show(#[o1,o2]:Array Oper)[1]? =some o2 from rfl,Region.wanted,h6,if_true];refine⟨mC o2 w' _, ?_⟩;have hev:(a.put (some d1) (.tuple (Value.bool b::rest).toArray)).eval (.tmp d1)=.tuple (Value.bool b::rest).toArray:=by
   simp only[Act.put,Act.eval];rw[Dt _ _ _ _ (by rw[h0.size];exact hd1)];simp
  have QG:(execOp (a.put (some d1) (.tuple (Value.bool b::rest).toArray)).eval o2).run P w'=.ok (.value (.bool b)) w':=by
   simp[execOp,h4,hev,Instr.extract]
  rw[show(iV κ.ro).round=κ.ro from rfl,Oper.semAt_eq κ.ro _ o2 (λc hc=>by rw[h4]at hc;cases hc),QG,Oper.uponIn_value,h5];obtain⟨W2,base2,M2,w02,Yh,h02⟩:=R1.ex;have R2:=eP.put R1 Yh h02 (some d2) (λd hd=>by cases hd;exact hd2) (v:=.v (.bool b)) (x:=.bool b) h02.o (gP.cQ (dg.refl _ _)) (by simp[aA,bj]) lr;exact⟨_,L,hQ,R2,λt ht=>mi t (r0.fresh t ht),r0.low,r0.it⟩
 rcases Ol (P:=P) h0.o hr hm hlt hl o1.type with⟨d0,bW⟩|⟨e,he,hn,k,v,w',bW,hO,hA⟩
 ·refine bZ (b:=false) h0.o (gP.cQ (dg.refl _ _)) hR.bZ (λt h=>h) ⟨[],rfl⟩ ?_ (Yg d0);simp[execOp,h1,Qy,bW]
 ·refine bZ (b:=true) hO hA ?_ ?_ ⟨[k,v],rfl⟩ ?_ (XU e he hn)
  ·obtain⟨N,hN⟩:=hR.bZ;refine⟨max N (r+1),λr' gD=>?_⟩;simp only[cG];rw[Zab (by omega)];exact hN r' (by omega)
  ·intro t ht;simp only[cG];rw[Zab (λe=>by rw[e,hr]at ht;cases ht)];exact ht
  ·simp[execOp,h1,Qy,bW]
end
end
abbrev t(n:Nat):bQ:=.tmp n
abbrev i(n:Int):bQ:=.gN (.v (.int .i64 n))
abbrev o(d:rO)(r:Nat)(af:cO):RO:=⟨d,some r,none,af,none⟩
abbrev s(d:rO)(af:cO):RO:=⟨d,none,none,af,none⟩
abbrev g(d:rO)(r b:Nat)(w:Bool)(af:cO):RO:=⟨d,some r,some (b,w),af,none⟩
abbrev m(a r:Nat)(af:cO):RO:=⟨.qu (.tmp a),some r,none,af,none⟩
abbrev n(a r:Nat):RO:=⟨.qu (.tmp a),some r,none,[],none⟩
abbrev l(a r:Nat)(af:cO):RO:=⟨.load 1 false (.tmp a),some r,none,af,none⟩
abbrev L(k a r:Nat)(af:cO):RO:=⟨.load k true (.tmp a),some r,none,af,none⟩
abbrev a(k b r:Nat)(af:cO):RO:=⟨.addOff k (.tmp b),some r,none,af,none⟩
abbrev b(op:BinOp)(x y r:Nat)(af:cO):RO:=⟨.bin op (.tmp x) (.tmp y),some r,none,af,none⟩
abbrev c(x r:Nat)(af:cO):RO:=⟨.nilCheck (.tmp x),some r,none,af,none⟩
abbrev e(k x r:Nat)(af:cO):RO:=⟨.extract k (.tmp x),some r,none,af,none⟩
abbrev x(k y z r:Nat)(af:cO):RO:=⟨.idxAddr k (.tmp y) (.tmp z),some r,none,af,none⟩
abbrev S(k y z:Nat)(af:cO):RO:=⟨.store k (.tmp y) (.tmp z),none,none,af,none⟩
abbrev p(u v r:Nat)(af:cO):RO:=⟨.pick (.tmp u) (.gN (.v (.bool true))) (.tmp v),some r,none,af,none⟩
abbrev q(u v r:Nat)(af:cO):RO:=⟨.pick (.tmp u) (.tmp v) (.gN (.v (.bool false))),some r,none,af,none⟩
abbrev u(k y r b:Nat)(w:Bool)(af:cO):RO:=⟨.addOff k (.tmp y),some r,some (b,w),af,none⟩
abbrev v(y r b:Nat)(w:Bool)(af:cO):RO:=⟨.load 1 false (.tmp y),some r,some (b,w),af,none⟩
abbrev w(y r b:Nat)(w:Bool)(af:cO):RO:=⟨.qu (.tmp y),some r,some (b,w),af,none⟩
abbrev y(l:ai):DC:=.region false l
abbrev Y(l:ai):DC:=.region true l
abbrev j(a b:DC):DC:=.seq a b
abbrev F(r:Nat):RO:=⟨.qu (.gN (.v (.bool false))),some r,none,[],none⟩
abbrev R(r:Nat):RO:=⟨.qu (.gN (.v (.bool true))),some r,none,[],none⟩
abbrev I(k:Int)(r:Nat):RO:=⟨.qu (.gN (.v (.int .i64 k))),some r,none,[],none⟩
abbrev Z(r:Nat):RO:=⟨.qu (.gN .aW),some r,none,[],none⟩
abbrev B(k r:Nat):RO:=⟨.box (.tmp k),some r,none,[],none⟩
abbrev N(k r:Nat)(af:cO):RO:=⟨.len (.tmp k),some r,none,af,none⟩
abbrev U(k r:Nat)(af:cO):RO:=⟨.un .not (.tmp k),some r,none,af,none⟩
abbrev C(op:BinOp)(x:Nat)(k:Int)(r:Nat)(af:cO):RO:=⟨.bin op (.tmp x) (.gN (.v (.int .i64 k))),some r,none,af,none⟩
abbrev D(op:BinOp)(x y r b:Nat)(w:Bool)(af:cO):RO:=⟨.bin op (.tmp x) (.tmp y),some r,some (b,w),af,none⟩
abbrev E(op:BinOp)(x:Nat)(k:Int)(r b:Nat)(w:Bool)(af:cO):RO:=⟨.bin op (.tmp x) (.gN (.v (.int .i64 k))),some r,some (b,w),af,none⟩
abbrev H(x r b:Nat)(w:Bool)(af:cO):RO:=⟨.len (.tmp x),some r,some (b,w),af,none⟩
abbrev K(x r b:Nat)(w:Bool)(af:cO):RO:=⟨.un .not (.tmp x),some r,some (b,w),af,none⟩
abbrev V(k:Int):DV:=.v (.int .i64 k)
abbrev k(l:cO)(k:Nat):cO:=l++List.range (k+1)
attribute [simp] t i o s g m n l L a b c e x S p q u v w y Y j F R I Z B N U C D E H K V
end Go.DM
