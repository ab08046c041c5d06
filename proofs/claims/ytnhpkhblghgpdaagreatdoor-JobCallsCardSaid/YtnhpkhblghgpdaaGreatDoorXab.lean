/- Part. Conditions: none. -/
import Derived.Test.YtnhpkhblghgpdaaGreatDoorXaa
import Derived.OrdersIn
import Derived.RangeFuncCalls
import Derived.Sort.LoopGhostIn
import Derived.RangeFuncLeaves
import Derived.RangeFuncRecord
import Derived.RangeFuncNested
import Derived.KernelRfl
set_option linter.all false
namespace Go.DM
open Go.RowKit
section
variable{ro:Option Nat}{f:FuncId}{todo:List (aK)}{r:Loop}{go ab aI:bF}{gL L':Loc}{d:tZ}{args:List cg}{ds:bM}{cT:Array Value}{vs:List Value}{o':Obj}
variable [bK] [d8]
structure RO where
 d:tZ
 dst:Option Nat
 guard:Option (Nat×Bool)
 after:cY
 ld:Option (cY):=none
abbrev cu:=List RO
structure RS where
 tmps:dG
 ab:bF
 todo:List (aK)
def dg(f:dG):Option Nat->DV->Nat->DV
 |none,_=>f
 |some k,v=>λx=>if x=k then v else f x
def gN(g:Option (Nat×Bool))(ρ:dG):Option Bool:=
 match g with
 |none=>some true
 |some (s,mH)=>match ρ s with
  |.v (.bool b)=>some (b==mH)
  |.skip=>some false
  |_=>none
def b8(aJ:Nat):Option Nat->Nat
 |some d=>aJ+d+1
 |none=>aJ
def pM(Γ:pW)(aJ:Nat)(r:RO)(st:RS):tq:=dK Γ r.d (b8 aJ r.dst) st.tmps st.ab
def bT:tZ->List cg
 |.Hr x|.box x|.load _ _ x|.un _ x|.conv _ x|.addOff _ x|.nilCheck x|.field _ _ _ x|.extract _ x|.len x|.lenS x|.mkSlice _ _ _ _ x|.mkSliceB _ _ _ _ x|.lenM x|.rangeM x|.entryM x|.isNil _ _ x=>[x]
 |.pick c a b=>[c,a,b]
 |.alloc _|.mkMap _ _|.fail=>[]
 |.build _ ps|.bslice _ _ _ ps=>ps.map (·.2.2)
 |.store _ x y|.bin _ x y|.eqT _ _ _ x y|.idxAddr _ x y|.arrAddr _ _ x y|.minmax _ x y|.append _ _ _ x y|.lookup _ _ _ _ x y|.mapDel _ _ x y|.copy _ x y|.indexS x y=>[x,y]
 |.mapUpd _ _ x k y=>[x,k,y]
 |.mapEnt _ _ _ x k=>[x,k]
 |.entSt x s y=>[x,s,y]
 |.slice _ x lo hi=>x::(lo.toList++hi.toList)
 |.call _ xs|.callS _ xs|.callF _ xs|.callR _ xs|.mkFn _ xs=>xs
 |.callv x xs=>x::xs
def cZ(r:RO)(ρ:dG):Prop:=
 match r.ld with
 |none=>True
 |some l=>∀x∈bT r.d,∀n∈aT (x.ev ρ),n∈l
def post(Γ:pW)(aJ:Nat)(r:RO)(st:RS):ahC:=
 if t6 r.d then pJ Γ r.d st.tmps st.ab st.todo
 else⟨(pM Γ aJ r st).ok,(pM Γ aJ r st).val,cV st.ab (pM Γ aJ r st).put,st.todo⟩
def wl(r:RO)(o o':bF):Prop:=t6 r.d=true->∀l,r.ld=some l->∀n,n∉l->o' n=o n
def c8(Γ:pW)(aJ:Nat)(r:RO)(st:RS):Prop:=
 match gN r.guard st.tmps with
 |some true=>(post Γ aJ r st).ok/\cZ r st.tmps/\wl r st.ab (post Γ aJ r st).ab
 |some false=>True
 |none=>False
def eB(Γ:pW)(aJ:Nat)(r:RO)(st:RS):RS:=
 match gN r.guard st.tmps with
 |some true=>⟨dg st.tmps r.dst (post Γ aJ r st).val,(post Γ aJ r st).ab,(post Γ aJ r st).todo⟩
 |some false=>⟨dg st.tmps r.dst .skip,st.ab,st.todo⟩
 |none=>st
def jL:T->Bool
 |.bool _|.int _ _|.str _=>true
 |.eE ts=>jT ts
 |.agg ts=>jT ts
 |_=>false
where
 jT:aK->Bool
 |[]=>true
 |t::ts=>jL t&&jT ts
def yL:∀(n:Nat),(∀(t:T) (w w':World) (W W':f9) (v:Value),SizeOf.sizeOf t<n->jL t=true->bw w W t v->bw w' W' t v)/\
  (∀(ts:aK) (w w':World) (W W':f9) (vs:List Value),SizeOf.sizeOf ts<n->jL.jT ts=true->(bu w W ts vs->bu w' W' ts vs)/\(gH w W ts vs->gH w' W' ts vs))
 |0=>⟨λ_ _ _ _ _ _ h=>by omega,λ_ _ _ _ _ _ h=>by omega⟩
 |n+1=>by
  have ih:=yL n;refine⟨λt w w' W W' v hn hs h=>?_,λts w w' W W' vs hn hs=>?_⟩
  ·cases t with
   |agg ts=>simp only[bw]at h⊢;obtain⟨vs,hv,hr⟩:=h;exact⟨vs,hv,(ih.2 ts w w' W W' _ (by simp at hn⊢;omega) hs).1 hr⟩
   |eE ts=>simp only[bw]at h⊢;obtain⟨vs,hv,hr⟩:=h;exact⟨vs,hv,(ih.2 ts w w' W W' _ (by simp at hn⊢;omega) hs).2 hr⟩
   |bool b=>simpa [bw]using h
   |int k n=>simpa [bw]using h
   |str s=>simpa [bw]using h
   |_=>exact eK hs EQ
  ·cases ts with
   |nil=>exact⟨λh=>by simpa [bu]using h,λh=>by simpa [gH]using h⟩
   |cons t ts=>
    simp only[jL.jT,mX]at hs;have h2:=ih.2 ts w w' W W';refine⟨λh=>?_,λh=>?_⟩
    ·simp only[bu]at h⊢;obtain⟨v,kj,rfl,h1,hr,nR⟩:=h;exact⟨v,kj,rfl,h1,ih.1 t w w' W W' v (by simp at hn⊢;omega) hs.1 hr,(h2 _ (by simp at hn⊢;omega) hs.2).1 nR⟩
    ·simp only[gH]at h⊢;obtain⟨v,kj,rfl,hr,nR⟩:=h;exact⟨v,kj,rfl,ih.1 t w w' W W' v (by simp at hn⊢;omega) hs.1 hr,(h2 _ (by simp at hn⊢;omega) hs.2).2 nR⟩
def E0(P:Program)(f:FuncId):Prop:=∃fn,P.funcs[f]? =some fn/\fn.name≠ "runtime.NumGoroutine" /\fn.body.isNone=false
structure bb(P:Program)(f:FuncId)(ts:aK)(t:T):Prop where
 entry:E0 P f
 run:∀(W:f9) (w:World) (cT:Array Value),(∀b,W b->b<w.heap.size)->GW w W->gH w W ts cT.toList->
  Calls P f cT w λe w'=>∃v,e=.returned v/\xQ w.heap.size w w'/\bw w' W t v
structure E3(n0:Nat)(w':World)(W:f9)(e sz:Nat)(aw:List (aK))(v:Value):Prop where
 pos:0<sz
 len:∀x∈aw,x.length=sz
 it:(aw=[]/\∃a:Option Addr,v=.slice a 0 0)\/∃g cap eV,v=.slice (some ⟨g,0,none⟩) aw.length cap/\0<cap/\n0<=g/\w'.heap[g]? =some (.cells eV e (0,0))/\aw.length<=cap/\cap<=maxLen/\eV.size=cap*sz/\bu w' (λb=>W b\/b=g) aw.flatten (eV.toList.take (aw.length*sz))
structure pj(P:Program)(f:FuncId)(ts:aK)(e sz:Nat)(aw:List (aK)):Prop where
 entry:E0 P f
 run:∀(W:f9) (w:World) (cT:Array Value),(∀b,W b->b<w.heap.size)->GW w W->gH w W ts cT.toList->
  Calls P f cT w λe' w'=>∃v,e'=.returned v/\xQ w.heap.size w w'/\E3 w.heap.size w' W e sz aw v
def kC(w:World)(W:f9)(ab:bF)(L:Loc)(ds:bM)(vs:List Value):Prop:=
 vs.length=ds.length/\∀(i:Nat) (d:DV) (v:Value),ds[i]? =some d->vs[i]? =some v->aC w W ab L d v
structure aY(P:Program)(f:FuncId)(args:bM)(ab:bF)(r:gC):Prop where
 entry:E0 P f
 run:∀(base:Nat) (W M:f9) (w0 w:World) (L:Loc) (cT:Array Value),cO base W M w0 ab w L->kC w W ab L args cT.toList->
  Calls P f cT w λe w'=>∃v L',e=.returned v/\cO base W M w0 r.ab w' L'/\iH W ab L w r.ab L' w'/\aC w' W r.ab L' r.val v
structure Wp(P:Program)(f:FuncId)(s:Spec):Prop where
 pure:∀ts,s.pre ts->bb P f ts (s.fn ts)/\(s.ky=true->jL (s.fn ts)=true)
 fresh:∀e sz,s.fresh=some (e,sz)->∀ts,s.pre ts->∃aw,s.fn ts=.sl aw/\pj P f ts e sz aw/\(s.gQ=true->jL.jT aw.flatten=true)
 st:∀k,s.st=some k->∀args ab,(k args ab).ok->(∀N,(∀r,N<=r->ab r=none)->aY P f args ab (k args ab))/\∀r,ab r=none->(k args ab).ab r=none
def ay(P:Program)(Γ:pW):Prop:=∀f s,Γ f=some s->Wp P f s
def jU(ro:Option Nat):Fence:={Fence.wide with round:=ro}
def fD{n:Nat}{P:Program}{args:Array Value}{w:World}{R:Ending->World->Prop}(h:Calls P f args w R):CallsIn (jU ro) n P f args w R:=by
 have h0:CallsIn Fence.wide n P f args w R:=callsIn_wide.2 h;exact h0
structure qC where
 W:f9
 go:bF
 gL:Loc
 gw:World
 base:Nat
 M:f9
 w0:World
 J:Option (f9->List (aK)->World->Prop)
 ro:Option Nat
 Y:Option (Nat×Loop×Loop):=none
def qC.At(κ:qC)(todo:List (aK))(W:f9)(base:Nat)(M:f9)(w0:World):Prop:=
 match κ.J with
 |none=>(κ.Y=none->todo=[])/\W=κ.W/\base=κ.base/\M=κ.M/\w0=κ.w0
 |some J=>J W todo w0/\base=w0.heap.size/\M=(λ_=>False)/\(∀b,W b->κ.W b\/κ.gw.heap.size<=b)/\∀b,κ.W b->W b
structure Yields(P:Program)(l:Nat)(J:f9->List (aK)->World->Prop):Prop where
 amB:∀(W:f9) (todo:List (aK)) (A B:World),J W todo A->xQ A.heap.size A B->J W todo B
 round:∀(W:f9) (x:aK) (rest:List (aK)) (cT:Array Value) (A:World),J W (x::rest) A->gH A W x cT.toList->
  ∃fn tmps assign body,(Instr.yield l cT).run P A=.ok (.round l fn tmps assign body) A/\RoundIn Fence.wide 0 P l fn tmps assign body A λe B=>
   e=.returned (.bool true)/\∃W',J W' rest B/\dJ W A B/\(∀b,W' b->b<B.heap.size/\(W b\/A.heap.size<=b))/\∀b,W b->W' b
structure Jk(P:Program)(l:Nat)(r s:Loop)(k:bM->bF->gC)(base:Nat)(W M:f9)(w0:World)(go:bF)(gL:Loc)(gw:World):Prop where
 round:∀(w:World) (L:Loc) (ab:bF) (args:bM) (cT:Array Value),(k args ab).ok->yIs (k args ab).val->(∃N,∀x,N<=x->ab x=none)->w.heap[l]? =some (.loop r)->
  iH W go gL gw ab L w->cO base W M w0 ab w L->kC w W ab L args cT.toList->
  ∃fn tmps assign body,(Instr.yield l cT).run P w=.ok (.round l fn tmps assign body) w/\RoundIn Fence.wide 0 P l fn tmps assign body w λe B=>
   e=.returned (.bool (yGo (k args ab).val))/\∃L',cO base W M w0 (k args ab).ab B L'/\iH W ab L (w.putObj l (.loop (if yGo (k args ab).val then r else s))) (k args ab).ab L' B
def _root_.Go.World.wn{w:World}{l:Nat}{o:Obj}(h:w.heap[l]? =some o):w.putObj l o=w:=by
 obtain⟨hl,e⟩:=w7.1 h;have:w.heap.setIfInBounds l o=w.heap:=by
  refine Array.ext_getElem? λi=>?_;rw[Zcf];split
  ·rename_i e2;subst e2;exact h.symm
  ·rfl
 unfold World.putObj;rw[this]
def qC.Ox(κ:qC)(todo:List (aK)):World:=match κ.Y with
 |none=>κ.gw
 |some (l,r,s)=>κ.gw.putObj l (.loop (match todo with|[]=>s|_=>r))
def qC.Ad(κ:qC)(todo:List (aK)):(κ.Ox todo).heap.size=κ.gw.heap.size:=by
 unfold qC.Ox;split
 ·rfl
 ·simp[World.putObj]
def qC.LA{κ:qC}(h:κ.Y=none)(todo:List (aK)):κ.Ox todo=κ.gw:=by simp[qC.Ox,h]
structure qC.Good(P:Program)(κ:qC):Prop where
 y:∀J,κ.J=some J->Yields P κ.gL.yl J/\d8.k=none/\κ.Y=none
 ys:∀l r s,κ.Y=some (l,r,s)->κ.base<=l/\κ.gw.heap[l]? =some (.loop r)/\∃k,d8.k=some (l,k)/\Jk P l r s k κ.base κ.W κ.M κ.w0 κ.go κ.gL κ.gw
 rd:∀l,κ.ro=some l->∃r,κ.gw.heap[l]? =some (.loop r)
def mark(D:Nat):Deferred:={target:=.collected D,args:= #[]}
structure R0(base:Nat)(W M:f9)(w0:World)(nt:Nat)(tmps:dG)(ab:bF)(a:Act)(w:World)(L:Loc):Prop where
 size:a.tmps.size=nt
 tmps:∀t,aC w W ab L (tmps t) (a.tmps.getD t Go.undef)
 o:cO base W M w0 ab w L
structure fB(κ:qC)(nt:Nat)(st:RS)(a:Act)(w:World)(L:Loc):Prop where
 ex:∃W base M w0,κ.At st.todo W base M w0/\R0 base W M w0 nt st.tmps st.ab a w L
 fP:iH κ.W κ.go κ.gL (κ.Ox st.todo) st.ab L w
 defers:∃Ds:cY,a.defers=Ds.map mark/\Ds.Nodup/\(∀D∈Ds,w.heap[D]? =some (.deferred (some []))/\κ.gw.heap.size<=D)/\(κ.J.isSome=true->Ds=[])
 bg:κ.J=none->κ.base<=κ.gw.heap.size
 bU:∃N,∀r,N<=r->st.ab r=none
def qC.At.sub{κ:qC}{W:f9}{base:Nat}{M:f9}{w0:World}(h:κ.At todo W base M w0):(∀b,W b->κ.W b\/κ.gw.heap.size<=b)/\∀b,κ.W b->W b:=by
 unfold qC.At at h;split at h
 ·obtain⟨_,rfl,_⟩:=h;exact⟨λ_ h=>.inl h,λ_ h=>h⟩
 ·exact⟨h.2.2.2.1,h.2.2.2.2⟩
def qC.At.Jl{κ:qC}{W:f9}{base:Nat}{M:f9}{w0:World}(h:κ.At todo W base M w0)(td:List (aK)):∀b,W b->κ.W b\/(κ.Ox td).heap.size<=b:=by
 rw[qC.Ad];exact h.sub.1
def qC.Wq{κ:qC}{l:Nat}(td:List (aK))(h:κ.gw.heap[l]? =some (.loop r)):∃r',(κ.Ox td).heap[l]? =some (.loop r'):=by
 unfold qC.Ox;split
 ·exact⟨r,h⟩
 ·rename_i l' _ _ _;by_cases e:l=l'
  ·subst e;exact⟨_,World.putObj_heap_same (w7.1 h).1⟩
  ·exact⟨r,by rw[World.putObj_heap_other e];exact h⟩
def iH.comp{W V:f9}{L:Loc}{gw w w':World}(h:iH V go gL gw ab L w)(k:iH W ab L w aI L' w')(h1:∀b,W b->V b\/gw.heap.size<=b)(h2:∀b,V b->W b):
  iH V go gL gw aI L' w':=by
 have up:∀b,b<gw.heap.size->WW W ab L b->WW V ab L b:=λb hb hw=>by
  rcases hw with hw|hw
  ·rcases h1 b hw with h3|h3
   ·exact .inl h3
   ·omega
  ·exact .inr hw
 refine⟨⟨⟨yI h.dP.size k.dP.size,λb c e fr hb hn=>?_⟩,λb hb=>k.dP.VE b (h.dP.VE b hb),λb r hb=>k.dP.V6 b r (h.dP.V6 b r hb)⟩,λb hb hw=>?_,λr o hr hk=>?_,λr bP e sz aw hr=>?_,k.yl.trans h.yl⟩
 ·have eG:=(w7.1 hb).1;exact k.dP.kx b c e fr (h.dP.kx b c e fr hb hn) λx=>hn (h.sub b eG (up b eG x))
 ·refine h.sub b hb (up b hb (k.sub b (ZbK hb h.dP.size) ?_));rcases hw with hw|hw
  ·exact .inl (h2 b hw)
  ·exact .inr hw
 ·obtain⟨e1,o1,tg,rH⟩:=h.fix r o hr hk;obtain⟨e2,o2,yd,wo⟩:=k.fix r o1 tg (by rw[rH];exact hk);exact⟨e2.trans e1,o2,yd,wo.trans rH⟩
 ·obtain⟨v1,e1,s1,r1,tg,l1,k1⟩:=h.bJ r bP e sz aw hr;obtain⟨v2,e2,s2,r2,yd,l2,k2⟩:=k.bJ r v1 e1 s1 r1 tg;refine⟨v2,e2,s2,r2,yd,yI l1 l2,λhv=>?_⟩;have ya:v1=bP:=by omega
  obtain⟨a1,a2,a3⟩:=k1 ya;obtain⟨b1,b2,b3⟩:=k2 (by omega);exact⟨b1.trans a1,b2.trans a2,b3.trans a3⟩
section
variable{P:Program}{κ:qC}{base:Nat}{W M:f9}{w0:World}{nt:Nat}{Γ:pW}{aJ:Nat}
def E4(tmps:Array Value)(d t:Nat)(v:Value)(hd:d<tmps.size):(tmps.setIfInBounds d v).getD t Go.undef=if t=d then v else tmps.getD t Go.undef:=by
 simp only[Oy,Zcf];by_cases h:d=t
 ·subst h;simp[hd]
 ·have:t≠d:=λe=>h e.symm;simp[h,this]
def R0.put{tmps:dG}{a:Act}{w w':World}{L:Loc}(h:R0 base W M w0 nt tmps ab a w L)(dst:Option Nat)(lM:∀d,dst=some d->d<nt){v:DV}{x:Value}
  (hO:cO base W M w0 aI w' L') (hA:iH W ab L w aI L' w') (hv:aC w' W aI L' v x):
  R0 base W M w0 nt (dg tmps dst v) aI (a.put dst x) w' L':=by
 cases dst with
 |none=>exact⟨h.size,λt=>aC.fP hA _ _ (h.tmps t),hO⟩
 |some d=>
  refine⟨by simpa [Act.put]using h.size,λt=>?_,hO⟩;simp only[dg,Act.put];rw[E4 _ _ _ _ (by rw[h.size];exact lM d rfl)];by_cases ht:t=d
  ·simp only[ht,km];exact hv
  ·simp only[ht,xd];exact aC.fP hA _ _ (h.tmps t)
def yM(a:Act)(dst:Option Nat)(x:Value):(a.put dst x).defers=a.defers:=by cases dst<;>rfl
def fB.put{st:RS}{a:Act}{w w':World}{L:Loc}(hR:fB κ nt st a w L)(dW:κ.At st.todo W base M w0)(h:R0 base W M w0 nt st.tmps st.ab a w L)
  (dst:Option Nat) (lM:∀d,dst=some d->d<nt) {v:DV} {x:Value} (hO:cO base W M w0 aI w' L') (hA:iH W st.ab L w aI L' w') (hv:aC w' W aI L' v x) (lN:∃N,∀r,N<=r->aI r=none):
  fB κ nt ⟨dg st.tmps dst v,aI,st.todo⟩ (a.put dst x) w' L':=
 ⟨⟨W,base,M,w0,dW,h.put dst lM hO hA hv⟩,hR.fP.comp hA (dW.Jl _) dW.sub.2,by
  obtain⟨Ds,h1,h2,h3,h4⟩:=hR.defers;exact⟨Ds,by rw[yM];exact h1,h2,λD hD=>⟨hA.dP.VE D (h3 D hD).1,(h3 D hD).2⟩,h4⟩,hR.bg,lN⟩
def fB.skip{st:RS}{a:Act}{w:World}{L:Loc}(h:fB κ nt st a w L)(dst:Option Nat)(lM:∀d,dst=some d->d<nt):
  fB κ nt ⟨dg st.tmps dst .skip,st.ab,st.todo⟩ (a.put dst Go.undef) w L:=by
 obtain⟨W,base,M,w0,dW,h0⟩:=h.ex;exact fB.put h dW h0 dst lM h0.o (iH.dc (dJ.refl _ _)) (by simp[aC]) h.bU
def nW(o:Oper)(w:World)(ρ:Operand->Value):∀f,o.about P w ρ=some f->(jU ro).fn f:=λ_ _=>trivial
def pk{o:Oper}(h:dS P o=some d):∀c,o.op≠ .defer c:=by
 intro c hc;simp[dS,hc]at h
def gk{o:Oper}(hc:dS P o=some d)(hd':(∃f args,d=.call f args)\/(∃f args,d=.callS f args)\/(∃f args,d=.callv f args)\/(∃f args,d=.callF f args)\/∃f args,d=.callR f args):∃c,o.op=.call c/\fk P c=some d:=by
 rcases hd' with⟨f,args,rfl⟩|⟨f,args,rfl⟩|⟨f,args,rfl⟩|⟨f,args,rfl⟩|⟨f,args,rfl⟩;all_goals
  unfold dS at hc;cases ho:o.op<;>simp only[ho,reduceCtorEq]at hc
  case call c=>exact⟨c,rfl,hc⟩
  case binOp op t x y yt=>
   exfalso;simp only[lp,kb]at hc;obtain⟨x',hx,y',hy,hc⟩:=hc;unfold nV at hc;repeat' split at hc
   all_goals first|(cases hc;done)|(simp only[jr,reduceCtorEq,xk,xl]at hc;done)
  case makeMap t h=>
   exfalso;cases h with
   |some m=>cases hc
   |none=>
    simp only at hc;split at hc
    ·simp only[jr,reduceCtorEq,xk,xl]at hc
    ·cases hc
  case slice t x lo hi mx=>
   exfalso;cases mx with
   |some m=>cases hc
   |none=>
    simp only at hc;repeat' split at hc
    all_goals simp only[mF,lp,kb,cI,reduceCtorEq,xk,xl]at hc
  all_goals exfalso
  all_goals first
   |(simp only[jr,reduceCtorEq,xk,xl]at hc;done)
   |(simp only[mF,lp,kb,cI,reduceCtorEq,xk,xl]at hc;done)
   |(repeat' split at hc)<;>first
     |(simp only[jr,mF,lp,kb,cI,reduceCtorEq,xk,xl]at hc;done)
     |(simp[kb]at hc;done)
def mr{c:Call}(h:fk P c=some (.call f args)):∃fn,c.callee=.value (.func f)/\P.funcs[f]? =some fn/\fn.name≠ "runtime.NumGoroutine" /\fn.body.isNone=false/\c.args.toList.mapM cg.of=some args:=by
 unfold fk at h;split at h
 ·rename_i g kv;split at h
  ·rename_i fn ut;split at h
   ·cases h
   ·rename_i hnr;simp only[jr,tZ.call.injEq]at h;obtain⟨ys,rL,rfl,rfl⟩:=h;refine⟨fn,kv,ut,λe=>hnr (.inl e), ?_,rL⟩;cases hb:fn.body.isNone
    ·rfl
    ·exact eK (.inr hb) hnr
  ·cases h
 all_goals
  repeat' split at h
  all_goals first
   |(simp only[jr,mF,lp,kb,cI,reduceCtorEq,xk,xl]at h;done)
   |skip
def Jm{c:Call}{x:cg}(h:fk P c=some (.callv x args)):∃t,c.callee=.value (.tmp t)/\x=.tmp t/\c.args.toList.mapM cg.of=some args:=by
 unfold fk at h;split at h
 ·split at h
  ·split at h
   ·cases h
   ·simp at h
  ·cases h
 ·rename_i t kv;simp only[jr,tZ.callv.injEq]at h;obtain⟨ys,rL,rfl,rfl⟩:=h;exact⟨t,kv,rfl,rL⟩
 all_goals
  repeat' split at h
  all_goals first
   |(simp only[jr,mF,lp,kb,cI,reduceCtorEq,xk,xl]at h;done)
   |skip
def CV:tZ->tZ
 |.callS f args=>.call f args
 |.callF f args=>.call f args
 |.callR f args=>.call f args
 |.mkSliceB e sz bytes zero n=>.mkSlice e sz bytes zero n
 |d=>d
def nX(W':f9){gQ:Bool}{ab:bF}{w:World}{L:Loc}(hO:cO base W M w0 ab w L)(hW:gQ=true->∀r o b,ab r=some o->L.own r o=some b->¬W' b)(TM:∀b,W' b->WW W ab L b):
  ∀{ds:bM} {vs:List Value},kC w W ab L ds vs->vv gQ ab ds->gH w W' (ka ab ds) vs
 |[],vs,h,_=>by
  have:vs=[]:=Ln h.1;subst this;simp[gH,ka]
 |d::ds,[],h,_=>by have:=h.1;simp at this
 |d::ds,v::vs,h,hk=>by
  simp only[vv]at hk;simp only[gH,ka];exact⟨v,vs,rfl,(z8 W' hO hW TM).1 _ _ (h.2 0 d v rfl rfl) hk.1,nX W' hO hW TM ⟨by simpa using h.1,λi x y hx hy=>h.2 (i+1) x y (by simpa using hx) (by simpa using hy)⟩ hk.2⟩
def HE(aB:ay P Γ){w:World}{L:Loc}(hO:cO base W M w0 ab w L){g:FuncId}{s:Spec}(hg:Γ g=some s)(qD:vv s.ky ab ds)(vw:s.pre (ka ab ds))
  (hr:kC w W ab L ds cT.toList):Calls P g cT w λe w'=>∃v,e=.returned v/\cO base W M w0 ab w' L/\iH W ab L w ab L w'/\aC w' W ab L (.v (s.fn (ka ab ds))) v:=by
 obtain⟨uu,hsc⟩:=(aB g s hg).pure _ vw;have DZ:∀b,WW W ab L b->b<w.heap.size:=by
  have kw:base<=w.heap.size:=yI hO.fr.kl hO.fr.size;rintro b (hb|⟨r',o',h1,h2⟩)
  ·have:=hO.under b hb;omega
  ·exact(hO.ob r' o' h1).lt h2
 cases hs:s.ky with
 |true=>
  rw[hs]at qD;have LB:=nX (λ_=>False) (gQ:=true) hO (λ_ _ _ _ _ _ x=>x) (λ_ x=>x.elim) hr qD;refine(uu.run (λ_=>False) w cT (λ_ x=>x.elim) (hO.gl.bi (dJ.refl (WW W ab L) _).toKeepsC λ_ _ h=>h.elim) LB).mono ?_;rintro e w' ⟨v,rfl,hb,hv⟩;obtain⟨hO',hA⟩:=cO.grow hO hb;refine⟨v,rfl,hO',hA, ?_⟩;simp only[aC];exact(yL _).1 _ w' w' (λ_=>False) (WW W ab L) v (Zcg _) (hsc hs) hv
 |false=>
  rw[hs]at qD;have LB:=nX (WW W ab L) (gQ:=false) hO (λx=>by cases x) (λ_ x=>x) hr qD;refine(uu.run (WW W ab L) w cT DZ hO.gl LB).mono ?_;rintro e w' ⟨v,rfl,hb,hv⟩;obtain⟨hO',hA⟩:=cO.grow hO hb;exact⟨v,rfl,hO',hA,by simp only[aC];exact hv⟩
def O1{w:World}{L:Loc}(hO:cO base W M w0 ab w L){g:FuncId}{gQ:Bool}(qD:vv gQ ab ds){e sz:Nat}{aw:List (aK)}(uu:pj P g (ka ab ds) e sz aw)(hsc:gQ=true->jL.jT aw.flatten=true)
  (hr:kC w W ab L ds cT.toList) {name:Nat} (fF:ab name=none):Calls P g cT w λe' w'=>∃v L',e'=.returned v/\cO base W M w0 (cV ab (some (name,.bJ 0 e sz aw))) w' L'/\iH W ab L w (cV ab (some (name,.bJ 0 e sz aw))) L' w'/\aC w' W (cV ab (some (name,.bJ 0 e sz aw))) L' (.bE name 0) v:=by
 have kw:base<=w.heap.size:=yI hO.fr.kl hO.fr.size;have DZ:∀b,WW W ab L b->b<w.heap.size:=by
  rintro b (hb|⟨r',o',h1,h2⟩)
  ·have:=hO.under b hb;omega
  ·exact(hO.ob r' o' h1).lt h2
 have ba:Calls P g cT w λe' w'=>∃v,e'=.returned v/\xQ w.heap.size w w'/\E3 w.heap.size w' (WW W ab L) e sz aw v:=by
  cases gQ with
  |false=>
   have LB:=nX (WW W ab L) (gQ:=false) hO (λx=>by cases x) (λ_ x=>x) hr qD;exact uu.run (WW W ab L) w cT DZ hO.gl LB
  |true=>
   have LB:=nX (λ_=>False) (gQ:=true) hO (λ_ _ _ _ _ _ x=>x) (λ_ x=>x.elim) hr qD;refine(uu.run (λ_=>False) w cT (λ_ x=>x.elim) (hO.gl.bi (dJ.refl (WW W ab L) _).toKeepsC λ_ _ h=>h.elim) LB).mono ?_;rintro e' w' ⟨v,h1,h2,h3⟩;refine⟨v,h1,h2,h3.pos,h3.len, ?_⟩;rcases h3.it with h4|⟨g',cap,eV,k1,k2,k3,k4,k5,k6,k7,k8⟩
   ·exact .inl h4
   ·exact .inr ⟨g',cap,eV,k1,k2,k3,k4,k5,k6,k7,((yL _).2 _ w' w' _ _ _ (Zcg _) (hsc rfl)).1 k8⟩
 refine ba.mono ?_;rintro e' w' ⟨v,rfl,hb,hf⟩;have h:=cO.put hO (r:=name) (L':=L.jS name v) (o':=.bJ 0 e sz aw) (hO.fr.trans ⟨hb.os,hb.tape,hb.output,kw,hb.size,λk hk _=>hb.block k (by omega),hb.drawn⟩) hb.size (λx hx=>⟨rfl,by simp[Loc.jS,hx]⟩) rfl (λb eG _=>hb.block b eG)
  (λb h=>.inr (by
   simp only[Loc.own,Loc.jS,km]at h;rcases hf.it with⟨_,a,rfl⟩|⟨g',cap,eV,rfl,hp,zH,_⟩
   ·cases a<;>simp[bm]at h
   ·simp only[bm,bj (GY.1 hp),cI]at h;omega))
  (λo' h _=>by rw[fF]at h;cases h) (λ_ _ _ _ h=>by rw[fF]at h;cases h) (λfP=>by
   refine⟨hf.pos,hf.len,λg' hg=>?_, ?_⟩
   ·simp only[Loc.jS,km]at hg;rcases hf.it with⟨_,a,rfl⟩|⟨g2,cap,eV,rfl,hp,zH,_⟩
    ·cases a<;>simp[bm]at hg
    ·simp only[bm,bj (GY.1 hp),cI]at hg;exact .inl (by omega)
   ·simp only[Loc.jS,km];rcases hf.it with⟨h1,a,h2⟩|⟨g2,cap,eV,h1,hp,zH,h2,h3,h4,h5,h6⟩
    ·exact .inl ⟨h1,a,h2⟩
    ·refine .inr ⟨g2,cap,eV,h1,hp,h2,h3,h4,h5,bu.bi (dJ.refl (λb=>WW W ab L b\/b=g2) w').toKeepsC (λb _ hb=>?_) _ _ h6⟩;rcases hb with hb|⟨r',o',g0,hb⟩
     ·exact .inl (.inl hb)
     ·simp only[cV]at g0;split at g0
      ·rename_i e1;cases g0;subst e1;simp only[Loc.own,km,h1,bm,bj (GY.1 hp),cI]at hb;exact .inr hb.symm
      ·rename_i cj;refine .inl (.inr ⟨r',o',g0, ?_⟩);cases o'<;>simpa [Loc.own,Loc.jS,cj]using hb)
 refine⟨v,_,rfl,h.1,h.2, ?_⟩;simp only[aC];refine⟨?_,0,e,sz,aw,by simp[cV],eF _,λ_=>by simp[Loc.jS]⟩;rcases hf.it with⟨_,a,rfl⟩|⟨g2,cap,eV,rfl,_⟩<;>exact⟨_,_,_,rfl⟩
def g5{w:World}{L:Loc}{a:Act}{ρ:dG}(hg:GW w (WW W ab L))(ku:∀t,aC w W ab L (ρ t) (a.tmps.getD t Go.undef)){xs:List Operand}{ys:List cg}(h:xs.mapM cg.of=some ys):kC w W ab L (ys.map (·.ev ρ)) (xs.map a.eval):=by
 refine⟨by simp[wk h],λi d v hd hv=>?_⟩;rw[ZbH,jr]at hd hv;obtain⟨y,hy,rfl⟩:=hd;obtain⟨x,hx,rfl⟩:=hv;exact CT hg ku h i x y hx hy
def kC.append{w:World}{L:Loc}{sN:bM}{kj:List Value}(h:kC w W ab L ds vs)(k:kC w W ab L sN kj):kC w W ab L (ds++sN) (vs++kj):=by
 refine⟨by simp[h.1,k.1],λi d v hd hv=>?_⟩;by_cases hi:i<ds.length
 ·rw[Zbm hi]at hd;rw[Zbm (by rw[h.1];exact hi)]at hv;exact h.2 i d v hd hv
 ·rw[Zbk (by omega)]at hd;rw[Zbk (by rw[h.1];omega),h.1]at hv;exact k.2 _ d v hd hv
def E5{w:World}{L:Loc}{ts:aK}(h:bu w (WW W ab L) ts vs):kC w W ab L (ts.map .v) vs:=by
 refine⟨by simp[bu.length h],λi d v hd hv=>?_⟩;rw[ZbH,jr]at hd;obtain⟨t,ht,rfl⟩:=hd;obtain⟨v',vm,_,hr⟩:=bu.get h ht;rw[hv]at vm;cases vm;simpa [aC]using hr
def CW{w:World}{L:Loc}(h:aX w W ab L ds vs):kC w W ab L ds vs:=by
 refine⟨by simp[aX.length h],λi d v hd hv=>?_⟩;obtain⟨v',vm,_,hr⟩:=aX.get h hd;rw[hv]at vm;cases vm;exact hr
def G6{o:Oper}{x:cg}(hc:dS P o=some (.entryM x)):∃y,o.op=.entry y/\cg.of y=some x:=by
 unfold dS at hc;cases ho:o.op<;>simp only[ho,reduceCtorEq]at hc
 case entry y=>
  simp only[jr,tZ.entryM.injEq]at hc;obtain⟨y',hy,rfl⟩:=hc;exact⟨y,rfl,hy⟩
 case binOp op t x y yt=>
  exfalso;simp only[lp,kb]at hc;obtain⟨x',hx,y',hy,hc⟩:=hc;unfold nV at hc;repeat' split at hc
  all_goals first|(cases hc;done)|(simp only[jr,reduceCtorEq,xk,xl]at hc;done)
 case call c=>
  exfalso;unfold fk at hc;repeat' split at hc
  all_goals first
   |(cases hc;done)
   |(simp only[jr,mF,lp,kb,cI,reduceCtorEq,xk,xl]at hc;done)
 case slice t x lo hi mx=>
  exfalso;cases mx with
  |some m=>cases hc
  |none=>
   simp only at hc;repeat' split at hc
   all_goals simp only[mF,lp,kb,cI,reduceCtorEq,xk,xl]at hc
 case makeMap t h=>
  exfalso;cases h with
  |some m=>cases hc
  |none=>
   simp only at hc;split at hc
   ·simp only[jr,reduceCtorEq,xk,xl]at hc
   ·cases hc
 all_goals exfalso
 all_goals first
  |(simp only[jr,reduceCtorEq,xk,xl]at hc;done)
  |(simp only[mF,lp,kb,cI,reduceCtorEq,xk,xl]at hc;done)
  |(repeat' split at hc)<;>first
    |(simp only[jr,mF,lp,kb,cI,reduceCtorEq,xk,xl]at hc;done)
    |(simp[kb]at hc;done)
def kR{o:Oper}{a:Act}{w:World}{c:Call}(ho:o.op=.call c){g:FuncId}{cA:Array Value}(hv:∀f,c.callee=.value f->a.eval f=.func (.func g) #[] cA)(hc:∃f,c.callee=.value f)(hg:E0 P g):
  (execOp a.eval o).run P w=.ok (.enter g (c.args.map a.eval++cA)) w:=by
 obtain⟨f,hf⟩:=hc;obtain⟨fn,ut,cj,CX⟩:=hg;simp[execOp,ho,resolve,hf,hv f hf,Deferred.ofValue,invoke,callFunc,ut,cj];intro nL;simp[nL]at CX
def yg{n l:Nat}{fn:FuncId}{tmps:Array Value}{assign body:Code}{w:World}{R:Ending->World->Prop}(h:RoundIn Fence.wide 0 P l fn tmps assign body w R):
  RoundIn (jU ro) n P l fn tmps assign body w R:=by
 have h0:RoundIn Fence.wide n P l fn tmps assign body w R:=⟨h.1,λc cs _=>h.2 c cs (by simp[Fence.room,Fence.wide])⟩;exact h0
def qE{W:f9}{L:Loc}{w w':World}(DF:KeepsC (WW W ab L) w w'):∀n,(∀(d:DV) (x:Value),SizeOf.sizeOf d<n->aC w W ab L d x->aC w' W ab L d x)/\(∀(ds:bM) (xs:List Value),SizeOf.sizeOf ds<n->aX w W ab L ds xs->aX w' W ab L ds xs)/\(∀(ds:bM) (xs:List Value),SizeOf.sizeOf ds<n->fj w W ab L ds xs->fj w' W ab L ds xs):=by
 have yN:∀b,b<w.heap.size->WW W ab L b->WW W ab L b:=λ_ _ h=>h;intro n;induction n with
 |zero=>exact⟨λ_ _ h=>by omega,λ_ _ h=>by omega,λ_ _ h=>by omega⟩
 |succ n ih=>
  refine⟨λd x hn hx=>?_,λds xs hn hx=>?_,λds xs hn hx=>?_⟩
  ·cases d with
   |v t=>simp only[aC]at hx⊢;exact bw.bi DF yN t x hx
   |eE cs=>
    simp only[aC]at hx⊢;obtain⟨vs,hv,hr⟩:=hx;exact⟨vs,hv,ih.2.2 cs _ (by simp at hn⊢;omega) hr⟩
   |pf f cs=>
    simp only[aC]at hx⊢;obtain⟨vs,hv,hr⟩:=hx;exact⟨vs,hv,ih.2.1 cs _ (by simp at hn⊢;omega) hr⟩
   |nz aw i off=>
    simp only[aC]at hx⊢;obtain⟨b,o,sz,hx,hb,G7,hr,h1,h2⟩:=hx;exact⟨b,o,sz,hx,ZbK hb DF.size,G7,bL.bi DF yN hb G7 sz o aw hr,h1,h2⟩
   |kP cs off=>
    simp only[aC]at hx⊢;obtain⟨b,o,hx,hb,G7,hr⟩:=hx;exact⟨b,o,hx,ZbK hb DF.size,G7,eQ.bi DF yN hb G7 o cs hr⟩
   |agg cs=>
    simp only[aC]at hx⊢;obtain⟨vs,hv,hr⟩:=hx;exact⟨vs,hv,ih.2.1 cs _ (by simp at hn⊢;omega) hr⟩
   |_=>exact hx
  ·cases ds with
   |nil=>simpa only[aX]using hx
   |cons d ds=>
    simp only[aX]at hx⊢;obtain⟨y,ys,hv,h1,h2,h3⟩:=hx;exact⟨y,ys,hv,h1,ih.1 d y (by simp at hn⊢;omega) h2,ih.2.1 ds ys (by simp at hn⊢;omega) h3⟩
  ·cases ds with
   |nil=>simpa only[fj]using hx
   |cons d ds=>
    simp only[fj]at hx⊢;obtain⟨y,ys,hv,h2,h3⟩:=hx;exact⟨y,ys,hv,ih.1 d y (by simp at hn⊢;omega) h2,ih.2.2 ds ys (by simp at hn⊢;omega) h3⟩
def pN{w:World}{l:Nat}{o:Obj}(hl:w.heap[l]? =some o)(I9:¬Obj.plain o):∀(b:Nat) x,Obj.plain x->w.heap[b]? =some x->(w.putObj l o').heap[b]? =some x:=λb x hx hb=>by
 rw[World.putObj_heap_other (by rintro rfl;rw[hl]at hb;cases hb;exact I9 hx)];exact hb
def wp{base:Nat}{W M:f9}{w0 w:World}{L:Loc}(h:cO base W M w0 ab w L){l:Nat}{o:Obj}(hl:w.heap[l]? =some o)(I9:¬Obj.plain o)(hb:base<=l):
  cO base W M w0 ab (w.putObj l o') L:=by
 have jJ:(w.putObj l o').heap.size=w.heap.size:=by simp[World.putObj]
 have nY:=pN (o':=o') hl I9;have DF:KeepsC (WW W ab L) w (w.putObj l o'):=⟨by rw[jJ];exact eF _,λb c e fr hb _=>nY b _ trivial hb⟩;have f:=h.fr;refine⟨⟨f.os,f.tape,f.output,f.kl,by rw[jJ];exact f.size,λk hk hm=>?_,f.drawn⟩,λr o ho=>?_,h.apart,h.tu,h.under,h.gl.bi DF λ_ _ h=>h⟩
 ·rw[World.putObj_heap_other (by omega)];exact f.block k hk hm
 ·have iy:=h.ob r o ho;cases o with
  |box cs=>
   obtain⟨c,e,hc,hr,hm⟩:=iy;exact⟨c,e,nY _ _ trivial hc,(qE DF (SizeOf.sizeOf cs+1)).2.1 cs _ (by omega) hr,hm⟩
  |map cL agg c es=>
   obtain⟨bJ,hc,hr,k1,k2,k3,hm⟩:=iy;refine⟨bJ,nY _ _ trivial hc, ?_,k1,k2,k3,hm⟩;have key:∀(es:List (Nat×T×DV)) (xs:List MapEntry),bX w W ab L es xs->bX (w.putObj l o') W ab L es xs:=by
    intro es;induction es with
    |nil=>intro xs h;simpa only[bX]using h
    |cons e es ih=>
     intro xs h;simp only[bX]at h⊢;obtain⟨x,mL,hx,h1,h2,h3,h4⟩:=h;exact⟨x,mL,hx,h1,bw.bi DF (λ_ _ h=>h) _ _ h2,(qE DF (SizeOf.sizeOf e.2.2+1)).1 _ _ (by omega) h3,ih mL h4⟩
   exact key es _ hr
  |cX m s sn lt=>
   obtain⟨hc,Oo,hm⟩:=iy;exact⟨nY _ _ trivial hc,Oo,hm⟩
  |bJ bP e sz aw=>
   obtain⟨g1,g2,g3,g4⟩:=iy;refine⟨g1,g2,g3, ?_⟩;rcases g4 with g4|⟨g,cap,eV,hv,hp,hh,k1,k2,k3,k4⟩
   ·exact .inl g4
   ·exact .inr ⟨g,cap,eV,hv,hp,nY _ _ trivial hh,k1,k2,k3,bu.bi DF (λ_ _ h=>h) _ _ k4⟩
def iH.D0{V:f9}{L:Loc}{gw w:World}{l:Nat}{r':Loop}(hg:l<gw.heap.size)(h:iH V go gL (gw.putObj l (.loop r)) ab L w):
  iH V go gL (gw.putObj l (.loop r')) ab L (w.putObj l (.loop r')):=by
 have hl:w.heap[l]? =some (.loop r):=h.dP.V6 _ _ (World.putObj_heap_same hg);have hlw:=(w7.1 hl).1;have s1:(gw.putObj l (.loop r')).heap.size=gw.heap.size:=by simp[World.putObj]
 have s2:(gw.putObj l (.loop r)).heap.size=gw.heap.size:=by simp[World.putObj]
 have s3:(w.putObj l (.loop r')).heap.size=w.heap.size:=by simp[World.putObj]
 have g1:(gw.putObj l (.loop r')).heap[l]? =some (.loop r'):=World.putObj_heap_same hg;have g3:(w.putObj l (.loop r')).heap[l]? =some (.loop r'):=World.putObj_heap_same hlw;have o1:∀b,b≠l->(gw.putObj l (.loop r')).heap[b]? =(gw.putObj l (.loop r)).heap[b]? :=λb hb=>(World.putObj_heap_other hb).trans (World.putObj_heap_other hb).symm;have o3:∀b,b≠l->(w.putObj l (.loop r')).heap[b]? =w.heap[b]? :=λb hb=>World.putObj_heap_other hb;have hk:=h.dP.size;refine⟨⟨⟨by rw[s1,s3];rw[s2]at hk;exact hk,λb c e fr hb hn=>?_⟩,λb hb=>?_,λb rr hb=>?_⟩,λb hb hw=>?_,h.fix,h.bJ,h.yl⟩
 ·have cj:b≠l:=by rintro rfl;rw[g1]at hb;cases hb
  rw[o1 b cj]at hb;rw[o3 b cj];exact h.dP.kx b c e fr hb hn
 ·have cj:b≠l:=by rintro rfl;rw[g1]at hb;cases hb
  rw[o1 b cj]at hb;rw[o3 b cj];exact h.dP.VE b hb
 ·by_cases cj:b=l
  ·subst cj;rw[g1]at hb;rw[g3];exact hb
  ·rw[o1 b cj]at hb;rw[o3 b cj];exact h.dP.V6 b rr hb
 ·rw[s1]at hb;exact h.sub b (by rw[s2];exact hb) hw
def Rp{n:Nat}(aB:ay P Γ)(Ae:κ.Good P){o:Oper}{r:RO}(hc:dS P o=some (CV r.d))(lM:r.dst=o.dst){st:RS}{a:Act}{w:World}{L:Loc}(h:fB κ nt st a w L)(hd:∀d,r.dst=some d->d<nt)
  (fF:st.ab (b8 aJ r.dst)=none) (aO:(post Γ aJ r st).ok) {K:Act->World->Prop} {Q:Exit->Act->World->Prop}
  (hK:∀a' w' L',fB κ nt ⟨dg st.tmps r.dst (post Γ aJ r st).val,(post Γ aJ r st).ab,(post Γ aJ r st).todo⟩ a' w' L'->K a' w'):
  o.wpIn (jU ro) n P a w K Q:=by
 have hR:=h;obtain⟨⟨W,base,M,w0,dW,h0⟩,G8,hdf,hbg,lN⟩:=h;refine⟨nW o w _, ?_⟩;have Af:∀c,o.op≠ .defer c:=pk hc;rw[show(jU ro).round=ro from rfl,Oper.semAt_eq ro _ o Af];by_cases h4:t6 r.d=true
 ·unfold post at aO hK;rw[cG h4]at aO hK;cases Wr:r.d<;>rw[Wr]at h4<;>first|(simp[t6]at h4;done)|skip
  case callS f args=>
   rw[Wr]at hc aO hK;obtain⟨c,ho,ct⟩:=gk hc (.inl ⟨f,args,rfl⟩);obtain⟨fn,kv,ut,cj,CX,rL⟩:=mr ct;have cw:=kR (P:=P) (w:=w) (a:=a) (g:=f) (cA:= #[]) ho (λx hx=>by rw[kv]at hx;cases hx;rfl) ⟨_,kv⟩ ⟨fn,ut,cj,CX⟩;rw[ZbW]at cw;rw[cw,Oper.uponIn_enter];refine⟨λhx=>(by cases hx),fD ?_⟩;simp only[pJ]at aO hK;cases hg:Γ f with
   |none=>simp[hg]at aO
   |some s=>
    simp only[hg]at aO hK;cases hk:s.st with
    |none=>simp[hk]at aO
    |some k=>
     simp only[hk]at aO hK;obtain⟨ba,p0⟩:=(aB f s hg).st k hk _ _ aO;obtain⟨N,hN⟩:=lN;have ba:=ba N hN;refine(ba.run base W M w0 w L (c.args.map a.eval) h0.o (by simpa using g5 h0.o.gl h0.tmps rL)).mono ?_;rintro e w' ⟨v,L',rfl,hO,hA,hv⟩;have:=hK _ _ _ (fB.put hR dW h0 r.dst hd hO hA hv ⟨N,λr hr=>p0 r (hN r hr)⟩);rw[<-lM];exact this
  case callv x args=>
   rw[Wr]at hc aO hK;obtain⟨c,ho,ct⟩:=gk hc (.inr (.inr (.inl ⟨_,_,rfl⟩)));obtain⟨t,kv,rfl,rL⟩:=Jm ct;have ht:=h0.tmps t;simp only[pJ,show cg.ev st.tmps (.tmp t)=st.tmps t from rfl]at aO hK;cases hv:st.tmps t with
   |v tv=>
    rw[hv]at ht aO hK;cases tv with
    |fn fv cA=>
     cases fv with
     |func g=>
      simp only at aO hK;simp only[aC,bw]at ht;obtain⟨vs,hx,HF⟩:=ht;cases hg:Γ g with
      |none=>simp[hg]at aO
      |some s=>
       simp only[hg]at aO hK;cases hk:s.st with
       |none=>
        simp only[hk]at aO hK;unfold rX at aO hK;simp only[hg]at aO hK;obtain⟨qD,vw⟩:=aO;have cw:=kR (P:=P) (w:=w) (a:=a) (g:=g) (cA:=vs) ho (λx nK=>by rw[kv]at nK;cases nK;exact hx) ⟨_,kv⟩ ((aB g s hg).pure _ vw).1.entry;rw[cw,Oper.uponIn_enter];refine⟨λhx=>(by cases hx),fD ?_⟩;have DG:kC w W st.ab L (args.map (·.ev st.tmps)++cA.map .v) (c.args.map a.eval++vs).toList:=by
         simpa using kC.append (g5 h0.o.gl h0.tmps rL) (E5 HF)
        refine(HE aB h0.o hg qD vw DG).mono ?_;rintro e w' ⟨v,rfl,hO,hA,vm⟩;have:=hK _ _ _ (fB.put hR dW h0 r.dst hd hO hA vm lN);rw[<-lM];exact this
       |some k=>
        simp only[hk]at aO hK;obtain⟨ba,p0⟩:=(aB g s hg).st k hk _ _ aO;obtain⟨N,hN⟩:=lN;have ba:=ba N hN;have cw:=kR (P:=P) (w:=w) (a:=a) (g:=g) (cA:=vs) ho (λx nK=>by rw[kv]at nK;cases nK;exact hx) ⟨_,kv⟩ ba.entry;rw[cw,Oper.uponIn_enter];refine⟨λhx=>(by cases hx),fD ?_⟩;have DG:kC w W st.ab L (args.map (·.ev st.tmps)++cA.map .v) (c.args.map a.eval++vs).toList:=by
         simpa using kC.append (g5 h0.o.gl h0.tmps rL) (E5 HF)
        refine(ba.run base W M w0 w L _ h0.o DG).mono ?_;rintro e w' ⟨v,L',rfl,hO,hA,vm⟩;have:=hK _ _ _ (fB.put hR dW h0 r.dst hd hO hA vm ⟨N,λr hr=>p0 r (hN r hr)⟩);rw[<-lM];exact this
     |_=>simp at aO
    |w6 rv=>
     simp only at aO hK;cases VH:(d8.k:Option (Nat×(bM->bF->gC)))with
     |none=>simp[VH]at aO
     |some p=>
      obtain⟨l,k⟩:=p;simp only[VH]at aO hK;obtain⟨hrv,htd,rN,hkb⟩:=aO;subst hrv;simp only[aC,bw]at ht;cases hJ:κ.J with
      |some J=>
       have:=(Ae.y J hJ).2.1;rw[VH]at this;cases this
      |none=>
       have E6:=dW;unfold qC.At at E6;simp only[hJ]at E6;obtain⟨ht0,rfl,rfl,rfl,rfl⟩:=E6;cases hY:κ.Y with
       |none=>exact eK (ht0 hY) htd
       |some p=>
        obtain⟨l',r1,s1⟩:=p;obtain⟨hb,hg,k',vQ,av9⟩:=Ae.ys l' r1 s1 hY;rw[VH]at vQ;cases vQ;have hgw:κ.Ox st.todo=κ.gw.putObj l (.loop r1):=by
         cases awa:st.todo with
         |nil=>exact eK awa htd
         |cons _ _=>simp only[qC.Ox,hY]
        rw[hgw]at G8;have amC:=(w7.1 hg).1;have hlw:w.heap[l]? =some (.loop r1):=G8.dP.V6 _ _ (World.putObj_heap_same amC);have DG:kC w κ.W st.ab L (args.map (·.ev st.tmps)) (c.args.map a.eval).toList:=by
         simpa using g5 h0.o.gl h0.tmps rL
        obtain⟨fn,tmps,assign,body,LC,Jn⟩:=av9.round w L st.ab _ (c.args.map a.eval) rN hkb lN hlw (by rw[World.wn hg]at G8;exact G8) h0.o DG;have cw:(execOp a.eval o).run P w=.ok (.round l fn tmps assign body) w:=by
         have:a.eval (.tmp t)=.func (.yield l) #[] #[]:=ht;simp[execOp,ho,resolve,kv,this,Deferred.ofValue,invoke,LC]
        rw[cw,Oper.uponIn_round];refine⟨λhx=>(by cases hx),yg ?_⟩;refine Jn.mono ?_;rintro e B ⟨rfl,L',hO',hA'⟩;obtain⟨r2,yd⟩:=aW ((if yGo (k (args.map (·.ev st.tmps)) st.ab).val=true then r1 else s1));rw[yd]at hA';have Wa:¬Obj.plain (.loop r1):=λe=>e;have DF:KeepsC (WW κ.W st.ab L) w (w.putObj l (.loop r2)):=⟨by simp[World.putObj],λb c e fr hb _=>pN hlw Wa b _ trivial hb⟩;have h1:R0 κ.base κ.W κ.M κ.w0 nt st.tmps st.ab a (w.putObj l (.loop r2)) L:=⟨h0.size,λt=>(qE DF (SizeOf.sizeOf (st.tmps t)+1)).1 (st.tmps t) _ (Zcg _) (h0.tmps t),wp h0.o hlw Wa hb⟩;obtain⟨Ds,hDs,hDn,hDk,hDJ⟩:=hdf;obtain⟨N,hN⟩:=lN;obtain⟨go,Ws⟩:=aW (yGo (k (args.map (·.ev st.tmps)) st.ab).val);have dv:(k (args.map (·.ev st.tmps)) st.ab).val=.v (.bool go):=by
         rw[<-Ws];revert hkb;cases(k (args.map (·.ev st.tmps)) st.ab).val with
         |v x=>cases x<;>simp[yIs,yGo]
         |_=>simp[yIs]
        rw[Ws]at yd;simp only[dv,V8]at hK;have hR:fB κ nt ⟨dg st.tmps r.dst (.v (.bool go)),(k (args.map (·.ev st.tmps)) st.ab).ab,if go=true then st.todo else []⟩ (a.put r.dst (.bool go)) B L':=by
         refine⟨⟨κ.W,κ.base,κ.M,κ.w0, ?_,h1.put r.dst hd hO' hA' (by simp[aC,bw])⟩, ?_,⟨Ds,by rw[yM];exact hDs,hDn,λD hD=>⟨hA'.dP.VE D ?_,(hDk D hD).2⟩,hDJ⟩,hbg,⟨N,λx hx=>d8.aT _ _ VH _ _ rN x (hN x hx)⟩⟩
         ·unfold qC.At;simp only[hJ];exact⟨(λh=>by rw[hY]at h;cases h),trivial,trivial,trivial,trivial⟩
         ·have hg2:κ.Ox (if go=true then st.todo else [])=κ.gw.putObj l (.loop r2):=by
           rw[<-yd];cases go
           ·simp[qC.Ox,hY]
           ·rw[cG rfl,hgw];simp
          rw[hg2];exact(iH.D0 amC G8).comp hA' (λ_ h=>.inl h) (λ_ h=>h)
         ·rw[World.putObj_heap_other (by rintro rfl;rw[(hDk _ hD).1]at hlw;cases hlw)];exact(hDk D hD).1
        have:=hK _ _ _ hR;rw[<-lM,Ws];exact this
    |_=>simp at aO
   |OR=>
    rw[hv]at ht aO hK;simp only[aC]at ht;cases htd:st.todo with
    |nil=>simp[htd]at aO
    |cons y rest=>
     simp only[htd]at aO hK;obtain⟨VH,qD,awb,Wt⟩:=aO;rw[htd]at dW;unfold qC.At at dW;cases hJ:κ.J with
     |none=>
      simp only[hJ]at dW;have hY:κ.Y=none:=by
       cases hY:κ.Y with
       |none=>rfl
       |some p=>obtain⟨_,_,k,hk,_⟩:=Ae.ys p.1 p.2.1 p.2.2 hY;rw[VH]at hk;cases hk
      exact eK (dW.1 hY) (by simp)
     |some J=>
      simp only[hJ]at dW;obtain⟨hj,rfl,rfl,VI,hw2⟩:=dW;have hY:=(Ae.y J hJ).2.2;rw[qC.LA hY]at G8;have hy:=(Ae.y J hJ).1;have hbw:xQ w0.heap.size w0 w:=⟨⟨h0.o.fr.os,h0.o.fr.tape,h0.o.fr.output,h0.o.fr.size,λk hk=>h0.o.fr.block k hk (λx=>x)⟩,h0.o.fr.drawn⟩;have hjw:=hy.amB W (y::rest) w0 w hj hbw;have DZ:∀b,WW W st.ab L b->W b:=by
       rintro b (hb|⟨r',o',h1,_⟩)
       ·exact hb
       ·rw[Wt]at h1;cases h1
      have LB:gH w W y (c.args.map a.eval).toList:=by
       rw[<-awb];have:=nX W (gQ:=false) h0.o (λx=>by cases x) (λb hb=>.inl hb) (g5 h0.o.gl h0.tmps rL) qD;simpa using this
      obtain⟨fn,tmps,assign,body,LC,Jn⟩:=hy.round W y rest (c.args.map a.eval) w hjw LB;have cw:(execOp a.eval o).run P w=.ok (.round L.yl fn tmps assign body) w:=by
       rw[<-G8.yl]at LC;have:a.eval (.tmp t)=.func (.yield L.yl) #[] #[]:=ht;simp[execOp,ho,resolve,kv,this,Deferred.ofValue,invoke,LC]
      rw[cw,Oper.uponIn_round];refine⟨λhx=>(by cases hx),yg ?_⟩;rw[<-G8.yl]at Jn;refine Jn.mono ?_;rintro e B ⟨rfl,W',hj',vQ,gb,amD⟩;have BI:∀b,W b->b<w.heap.size:=λb hb=>by
       have h1:=h0.o.under b hb;have h2:=h0.o.fr.size;omega
      have hA0:iH W st.ab L w st.ab L B:=iH.dc (vQ.mono λb hb=>.inl hb);obtain⟨Ds,hDs,hDn,hDk,hDJ⟩:=hdf;have Wu:Dx W W' st.ab L w st.ab L B:=by
       refine⟨vQ.mono λb hb=>.inl hb,λb hb hw=>?_,λr o hr _=>⟨rfl,o,hr,rfl⟩,λr bP e sz aw hr=>⟨bP,e,sz,aw,hr,eF _,λ_=>⟨rfl,rfl,rfl⟩⟩,rfl⟩;rcases hw with hw|⟨r',o',h1,_⟩
       ·rcases(gb b hw).2 with h2|h2
        ·exact .inl h2
        ·omega
       ·rw[Wt]at h1;cases h1
      have move:∀(d:DV) (x:Value),aC w W st.ab L d x->aC B W' st.ab L d x:=aC.fP Wu;have hO':cO B.heap.size W' (λ_=>False) B st.ab B L:=by
       refine⟨Fr.refl (eF _),λr o ho=>?_,λr r' o o' b _ ho=>?_,λr o b ho=>?_,λb hb=>(gb b hb).1,h0.o.gl.bi Wu.dP.toKeepsC Wu.sub⟩;all_goals rw[Wt]at ho;cases ho
      have hR:fB κ nt ⟨dg st.tmps r.dst (.v (.bool true)),st.ab,rest⟩ (a.put r.dst (.bool true)) B L:=by
       refine⟨⟨W',B.heap.size,λ_=>False,B, ?_, ?_⟩,(by rw[qC.LA hY];exact G8.comp hA0 VI hw2),⟨Ds,by rw[yM];exact hDs,hDn,λD hD=>⟨vQ.VE D (hDk D hD).1,(hDk D hD).2⟩,hDJ⟩,hbg,lN⟩
       ·unfold qC.At;simp only[hJ];refine⟨hj',trivial,trivial,λb hb=>?_,λb hb=>amD b (hw2 b hb)⟩;rcases(gb b hb).2 with h1|h1
        ·exact VI b h1
        ·exact .inr (yI G8.dP.size h1)
       ·have h1:R0 B.heap.size W' (λ_=>False) B nt st.tmps st.ab a B L:=⟨h0.size,λt=>move _ _ (h0.tmps t),hO'⟩;exact h1.put r.dst hd hO' (iH.dc (dJ.refl _ _)) (by simp[aC,bw])
      have:=hK _ _ _ hR;rw[<-lM];exact this
   |pf fv cA=>
    rw[hv]at ht aO hK;cases fv with
    |func g=>
     simp only at aO hK;simp only[aC]at ht;obtain⟨vs,hx,HF⟩:=ht;cases hg:Γ g with
     |none=>simp[hg]at aO
     |some s=>
      simp only[hg]at aO hK;cases hk:s.st with
      |none=>simp[hk]at aO
      |some k=>
       simp only[hk]at aO hK;obtain⟨ba,p0⟩:=(aB g s hg).st k hk _ _ aO;obtain⟨N,hN⟩:=lN;have ba:=ba N hN;have cw:=kR (P:=P) (w:=w) (a:=a) (g:=g) (cA:=vs) ho (λx nK=>by rw[kv]at nK;cases nK;exact hx) ⟨_,kv⟩ ba.entry;rw[cw,Oper.uponIn_enter];refine⟨λhx=>(by cases hx),fD ?_⟩;have DG:kC w W st.ab L (args.map (·.ev st.tmps)++cA) (c.args.map a.eval++vs).toList:=by
        simpa using kC.append (g5 h0.o.gl h0.tmps rL) (CW HF)
       refine(ba.run base W M w0 w L _ h0.o DG).mono ?_;rintro e w' ⟨v,L',rfl,hO,hA,vm⟩;have:=hK _ _ _ (fB.put hR dW h0 r.dst hd hO hA vm ⟨N,λr hr=>p0 r (hN r hr)⟩);rw[<-lM];exact this
    |_=>simp at aO
   |_=>rw[hv]at aO;simp at aO
  case entryM x=>
   rw[Wr]at hc aO hK;have Lx:dS P o=some (.entryM x):=hc;obtain⟨y,ho,hy⟩:=G6 Lx;simp only[pJ]at aO hK;obtain⟨nx,v,w',L',cw,Bu,hO,hA,hv⟩:=Jo h0.o ho (cg.ch h0.o.gl h0.tmps hy) aO;have qA:(mn st.ab (x.ev st.tmps)).put=none:=by unfold mn;(repeat' split)<;>rfl
   rw[qA]at hO hA hv;rw[cw];rcases Bu with rfl|⟨rfl,rfl⟩
   ·rw[Oper.uponIn_value,<-lM];exact hK _ _ _ (fB.put hR dW h0 r.dst hd hO hA hv lN)
   ·rw[Oper.uponIn_skip,<-lM];exact hK _ _ _ (fB.put hR dW h0 r.dst hd hO hA hv lN)
 ·have h4':t6 r.d=false:=by simpa using h4
  have VG:=hc;have awc:∀f args,r.d=.callF f args->CV r.d=.call f args:=λf args h=>by rw[h];rfl
  unfold post at aO hK;rw[bj h4]at aO hK;simp only at aO hK;by_cases pw:∃f args,r.d=.call f args
  ·obtain⟨f,args,TP⟩:=pw;rw[TP]at hc;obtain⟨c,ho,ct⟩:=gk hc (.inl ⟨f,args,rfl⟩);obtain⟨fn,kv,ut,cj,CX,rL⟩:=mr ct;have cw:=kR (P:=P) (w:=w) (a:=a) (g:=f) (cA:= #[]) ho (λx hx=>by rw[kv]at hx;cases hx;rfl) ⟨_,kv⟩ ⟨fn,ut,cj,CX⟩;rw[ZbW]at cw;rw[cw,Oper.uponIn_enter];refine⟨λhx=>(by cases hx),fD ?_⟩;simp only[pM,TP,dK,rX]at aO hK;cases hg:Γ f with
   |none=>simp[hg,dm]at aO
   |some s=>
    simp only[hg]at aO hK;obtain⟨qD,vw⟩:=aO;refine(HE aB h0.o hg qD vw (cT:=c.args.map a.eval) (by simpa using g5 h0.o.gl h0.tmps rL)).mono ?_;rintro e w' ⟨v,rfl,hO,hA,vm⟩;have:=hK _ _ _ (fB.put hR dW h0 r.dst hd hO hA vm lN);rw[<-lM];exact this
  ·by_cases O2:∃f args,r.d=.callF f args
   ·obtain⟨f,args,TP⟩:=O2;have fW:dS P o=some (.call f args):=by rw[<-awc f args TP];exact VG
    obtain⟨c,ho,ct⟩:=gk fW (.inl ⟨f,args,rfl⟩);obtain⟨fn,kv,ut,cj,CX,rL⟩:=mr ct;have cw:=kR (P:=P) (w:=w) (a:=a) (g:=f) (cA:= #[]) ho (λx hx=>by rw[kv]at hx;cases hx;rfl) ⟨_,kv⟩ ⟨fn,ut,cj,CX⟩;rw[ZbW]at cw;rw[cw,Oper.uponIn_enter];refine⟨λhx=>(by cases hx),fD ?_⟩;simp only[pM,TP,dK,qx]at aO hK;cases hg:Γ f with
    |none=>simp[hg,dm]at aO
    |some s=>
     simp only[hg]at aO hK;cases zG:s.fresh with
     |none=>simp[zG,dm]at aO
     |some q=>
      obtain⟨e,sz⟩:=q;simp only[zG]at aO hK;cases hrw:s.fn (ka st.ab (args.map (·.ev st.tmps)))<;>simp only[hrw,dm]at aO hK<;>try exact aO.elim
      rename_i aw;obtain⟨qD,vw⟩:=aO;obtain⟨fz,h1,h2,h3⟩:=(aB f s hg).fresh e sz zG _ vw;rw[hrw]at h1;cases h1;refine(O1 h0.o qD h2 h3 (cT:=c.args.map a.eval) (by simpa using g5 h0.o.gl h0.tmps rL) fF).mono ?_;rintro e' w' ⟨v,L',rfl,hO,hA,vm⟩;have E7:∃N,∀r',N<=r'->(cV st.ab (some (b8 aJ r.dst,.bJ 0 e sz aw))) r'=none:=by
       obtain⟨N,hN⟩:=lN;refine⟨max N (b8 aJ r.dst+1),λr' g0=>?_⟩;simp only[cV];rw[bj (by omega)];exact hN r' (by omega)
      have:=hK _ _ _ (fB.put hR dW h0 r.dst hd hO hA vm E7);rw[<-lM];exact this
   by_cases O3:∃f args,r.d=.callR f args
   ·obtain⟨f,args,TP⟩:=O3;have fW:dS P o=some (.call f args):=by rw[show(tZ.call f args)=CV r.d by rw[TP];rfl];exact VG
    obtain⟨c,ho,ct⟩:=gk fW (.inl ⟨f,args,rfl⟩);obtain⟨fn,kv,ut,cj,CX,rL⟩:=mr ct;have cw:=kR (P:=P) (w:=w) (a:=a) (g:=f) (cA:= #[]) ho (λx hx=>by rw[kv]at hx;cases hx;rfl) ⟨_,kv⟩ ⟨fn,ut,cj,CX⟩;rw[ZbW]at cw;rw[cw,Oper.uponIn_enter];refine⟨λhx=>(by cases hx),fD ?_⟩;simp only[pM,TP,dK,qw]at aO hK;cases hg:Γ f with
    |none=>simp[hg,dm]at aO
    |some s=>
     simp only[hg]at aO hK;cases hk:s.st with
     |none=>simp[hk,dm]at aO
     |some k=>
      simp only[hk]at aO hK;obtain⟨Jp,Wt,dv⟩:=aO st.ab (λ_ _=>rfl);obtain⟨ba,p0⟩:=(aB f s hg).st k hk _ _ Jp;obtain⟨N,hN⟩:=lN;have ba:=ba N hN;refine(ba.run base W M w0 w L (c.args.map a.eval) h0.o (by simpa using g5 h0.o.gl h0.tmps rL)).mono ?_;rintro e w' ⟨v,L',rfl,hO,hA,hv⟩;rw[Wt]at hO hA hv;rw[dv]at hv;have:=hK _ _ _ (fB.put hR dW h0 r.dst hd hO hA hv ⟨N,hN⟩);rw[<-lM];exact this
   by_cases ahI:∃e sz OY zero n,r.d=.mkSliceB e sz OY zero n
   ·obtain⟨e,sz,OY,zero,n,TP⟩:=ahI;have fW:dS P o=some (.mkSlice e sz OY zero n):=by rw[show(tZ.mkSlice e sz OY zero n)=CV r.d by rw[TP];rfl];exact VG
    simp only[pM,TP,dK]at aO hK;obtain⟨nx,v,w',L',cw,Bu,hO,hA,hv⟩:=TO h0.o fW h0.tmps fF aO;have E7:∃N,∀r',N<=r'->(cV st.ab (gY sz OY zero (b8 aJ r.dst) (n.ev st.tmps)).put) r'=none:=by
     obtain⟨N,hN⟩:=lN;cases hp:(gY sz OY zero (b8 aJ r.dst) (n.ev st.tmps)).put with
     |none=>exact⟨N,hN⟩
     |some q=>
      obtain⟨t,o'⟩:=q;refine⟨max N (t+1),λr' g0=>?_⟩;simp only[cV];rw[bj (by omega)];exact hN r' (by omega)
    rw[cw];rcases Bu with rfl|⟨rfl,rfl⟩
    ·rw[Oper.uponIn_value,<-lM];exact hK _ _ _ (fB.put hR dW h0 r.dst hd hO hA hv E7)
    ·rw[Oper.uponIn_skip,<-lM];exact hK _ _ _ (fB.put hR dW h0 r.dst hd hO hA hv E7)
   have HG:CV r.d=r.d:=by
    cases Wr:r.d<;>rw[Wr]at h4' O2 O3 ahI<;>first|rfl|(simp[t6]at h4';done)|exact eK ⟨_,_,rfl⟩ O2|exact eK ⟨_,_,rfl⟩ O3|exact eK ⟨_,_,_,_,_,rfl⟩ ahI
   rw[HG]at hc;have E7:∃N,∀r',N<=r'->(cV st.ab (pM Γ aJ r st).put) r'=none:=by
    obtain⟨N,hN⟩:=lN;cases hp:(pM Γ aJ r st).put with
    |none=>exact⟨N,hN⟩
    |some q=>
     obtain⟨t,o'⟩:=q;refine⟨max N (t+1),λr' g0=>?_⟩;simp only[cV];rw[bj (by omega)];exact hN r' (by omega)
   obtain⟨nx,v,w',L',cw,Bu,hO,hA,hv⟩:=Wn (Γ:=Γ) (name:=b8 aJ r.dst) hc (λf args e=>pw ⟨f,args,e⟩) h0.tmps h0.o fF aO;rw[cw];rcases Bu with rfl|⟨rfl,rfl⟩
   ·rw[Oper.uponIn_value,<-lM];exact hK _ _ _ (fB.put hR dW h0 r.dst hd hO hA hv E7)
   ·rw[Oper.uponIn_skip,<-lM];exact hK _ _ _ (fB.put hR dW h0 r.dst hd hO hA hv E7)
end
end
section
variable{xs:List cg}{r:Nat}
variable [bK]
def ph:tZ->Nat
 |.alloc _|.box _|.mkSlice .. |.mkSliceB .. |.mkMap .. =>2
 |.store .. |.append .. |.mapUpd .. |.mapEnt .. |.entSt .. |.mapDel .. |.copy .. |.rangeM _|.callF .. =>3
 |.load .. |.eqT .. |.idxAddr .. |.len _|.call .. |.callR .. |.slice .. |.lookup .. |.lenM _|.isNil .. =>1
 |.callS .. |.callv .. |.entryM _=>4
 |_=>0
section
variable{Γ:pW}{d:tZ}{name:Nat}{ρ Wv:dG}{ab aI:bF}
def kS(h:∀x∈xs,x.ev ρ=x.ev Wv):xs.map (·.ev ρ)=xs.map (·.ev Wv):=ZbC h
def BJ(h:∀x∈bT d,x.ev ρ=x.ev Wv):dK Γ d name ρ ab=dK Γ d name Wv ab:=by
 cases d;case build z ps=>
  have:ps.map (λp=>(p.1,p.2.1,p.2.2.ev ρ))=ps.map (λp=>(p.1,p.2.1,p.2.2.ev Wv)):=ZbC λp hp=>by rw[h p.2.2 (iF.2 ⟨p,hp,rfl⟩)]
  simp only[dK,this]
 case bslice n sz z ps=>
  have:ps.map (λp=>(p.1,p.2.1,p.2.2.ev ρ))=ps.map (λp=>(p.1,p.2.1,p.2.2.ev Wv)):=ZbC λp hp=>by rw[h p.2.2 (iF.2 ⟨p,hp,rfl⟩)]
  simp only[dK,this]
 case slice sz x lo hi=>
  have h1:=h x (by simp[bT]);have h2:lo.map (·.ev ρ)=lo.map (·.ev Wv):=by cases lo<;>simp;exact h _ (by simp[bT])
  have h3:hi.map (·.ev ρ)=hi.map (·.ev Wv):=by cases hi<;>simp;exact h _ (by simp[bT])
  simp only[dK,h1,h2,h3]
 case call f xs=>simp only[dK,kS (xs:=xs) h]
 case callF f xs=>simp only[dK,kS (xs:=xs) h]
 case callR f xs=>simp only[dK,kS (xs:=xs) h]
 case callS f xs=>rfl
 case callv x xs=>rfl
 case mkFn f xs=>simp only[dK,kS (xs:=xs) h]
 all_goals (simp only[bT,gm,lZ,lS,forall_eq_or_imp,LD]at h;simp only[dK,h])
def E8(h:ph d=0\/ph d=2):dK Γ d name ρ ab=dK Γ d name ρ aI:=by
 cases d<;>first|rfl|(simp[ph]at h;done)
mutual
def fX(ab:bF):DV->Prop
 |.ptr r _|.bE r _|.ln r _ _ _|.jG r|.cX r|.w8 r _ _ _|.G2 r _=>ab r≠none
 |.agg cs|.eE cs|.pf _ cs=>gR ab cs
 |_=>True
def gR(ab:bF):bM->Prop
 |[]=>True
 |d::ds=>fX ab d/\gR ab ds
end
mutual
def fX.ch{w:World}{W:f9}{L:Loc}:∀(d:DV) (x:Value),aC w W ab L d x->fX ab d
 |.ptr r off,x,h=>by simp only[aC]at h;obtain⟨⟨cs,hc⟩,_⟩:=h;simp[fX,hc]
 |.G2 r n,x,h=>by simp only[aC]at h;obtain⟨⟨cs,hc⟩,_⟩:=h;simp[fX,hc]
 |.bE r bP,x,h=>by simp only[aC]at h;obtain⟨_,v,e,s,aw,hc,_⟩:=h;simp[fX,hc]
 |.ln r bP i off,x,h=>by simp only[aC]at h;obtain⟨_,v,e,s,aw,hc,_⟩:=h;simp[fX,hc]
 |.jG r,x,h=>by simp only[aC]at h;obtain⟨⟨_,_,_,_,hc⟩,_⟩:=h;simp[fX,hc]
 |.cX r,x,h=>by simp only[aC]at h;obtain⟨⟨_,_,_,_,hc⟩,_⟩:=h;simp[fX,hc]
 |.w8 r bP lo n,x,h=>by simp only[aC]at h;obtain⟨_,v,e,s,aw,hc,_⟩:=h;simp[fX,hc]
 |.eE cs,x,h=>by simp only[aC]at h;obtain⟨vs,_,hr⟩:=h;simp only[fX];exact gR.Rq cs _ hr
 |.pf f cs,x,h=>by simp only[aC]at h;obtain⟨vs,_,hr⟩:=h;simp only[fX];exact gR.ch cs _ hr
 |.agg cs,x,h=>by simp only[aC]at h;obtain⟨vs,_,hr⟩:=h;simp only[fX];exact gR.ch cs _ hr
 |.undef,_,_|.skip,_,_|.v _,_,_|.bH,_,_|.nz _ _ _,_,_|.kP _ _,_,_|.OR,_,_=>by simp[fX]
def gR.ch{w:World}{W:f9}{L:Loc}:∀(ds:bM) (xs:List Value),aX w W ab L ds xs->gR ab ds
 |[],_,_=>by simp[gR]
 |d::ds,xs,h=>by
  simp only[aX]at h;obtain⟨x,mL,_,_,h1,h2⟩:=h;simp only[gR];exact⟨fX.ch d x h1,gR.ch ds mL h2⟩
def gR.Rq{w:World}{W:f9}{L:Loc}:∀(ds:bM) (xs:List Value),fj w W ab L ds xs->gR ab ds
 |[],_,_=>by simp[gR]
 |d::ds,xs,h=>by
  simp only[fj]at h;obtain⟨x,mL,_,h1,h2⟩:=h;simp only[gR];exact⟨fX.ch d x h1,gR.Rq ds mL h2⟩
end
mutual
def fX.aT:∀(d:DV),fX ab d->∀n∈aT d,ab n≠none
 |.ptr r off,h,n,hn=>by simp only[DM.aT,pe]at hn;subst hn;simpa only[fX]using h
 |.G2 r m,h,n,hn=>by simp only[DM.aT,pe]at hn;subst hn;simpa only[fX]using h
 |.bE r bP,h,n,hn=>by simp only[DM.aT,pe]at hn;subst hn;simpa only[fX]using h
 |.ln r bP i off,h,n,hn=>by simp only[DM.aT,pe]at hn;subst hn;simpa only[fX]using h
 |.jG r,h,n,hn=>by simp only[DM.aT,pe]at hn;subst hn;simpa only[fX]using h
 |.cX r,h,n,hn=>by simp only[DM.aT,pe]at hn;subst hn;simpa only[fX]using h
 |.w8 r _ _ _,h,n,hn=>by simp only[DM.aT,pe]at hn;subst hn;simpa only[fX]using h
 |.eE cs,h,n,hn=>by simp only[DM.aT]at hn;simp only[fX]at h;exact gR.aT cs h n hn
 |.pf f cs,h,n,hn=>by simp only[DM.aT]at hn;simp only[fX]at h;exact gR.aT cs h n hn
 |.agg cs,h,n,hn=>by simp only[DM.aT]at hn;simp only[fX]at h;exact gR.aT cs h n hn
 |.OR,_,n,hn|.undef,_,n,hn|.skip,_,n,hn|.v _,_,n,hn|.bH,_,n,hn|.nz _ _ _,_,n,hn|.kP _ _,_,n,hn=>by simp[DM.aT]at hn
def gR.aT:∀(ds:bM),gR ab ds->∀n∈bR ds,ab n≠none
 |[],_,n,hn=>by simp[bR]at hn
 |d::ds,h,n,hn=>by
  simp only[gR]at h;simp only[bR,oJ]at hn;rcases hn with hn|hn
  ·exact fX.aT d h.1 n hn
  ·exact gR.aT ds h.2 n hn
end
def Ext(ab aI:bF):Prop:=∀r,ab r≠none->aI r=ab r
mutual
def Jq:∀(d:DV),(∀n∈aT d,aI n=ab n)->vu aI d=vu ab d
 |.bE r bP,hr=>by simp only[vu,hr r (by simp[aT])]
 |.agg cs,hr=>by simp only[vu,tA cs (λn hn=>hr n (by simpa only[aT]using hn))]
 |.pf f cs,hr=>by simp only[vu,tA cs (λn hn=>hr n (by simpa only[aT]using hn))]
 |.w8 r bP lo n,hr=>by simp only[vu,hr r (by simp[aT])]
 |.undef,_|.skip,_|.v _,_|.bH,_|.ptr _ _,_|.nz _ _ _,_|.kP _ _,_|.ln _ _ _ _,_|.OR,_|.jG _,_|.cX _,_|.eE _,_|.G2 _ _,_=>by simp[vu]
def tA:∀(ds:bM),(∀n∈bR ds,aI n=ab n)->ka aI ds=ka ab ds
 |[],_=>rfl
 |d::ds,hr=>by simp only[ka,Jq d (λn hn=>hr n (by simp[bR,hn])),tA ds (λn hn=>hr n (by simp[bR,hn]))]
end
mutual
def Jr(l:Bool):∀(d:DV),(∀n∈aT d,aI n=ab n)->GX l aI d=GX l ab d
 |.bE r bP,hr=>by simp only[GX,hr r (by simp[aT])]
 |.agg cs,hr=>by simp only[GX,wq l cs (λn hn=>hr n (by simpa only[aT]using hn))]
 |.pf f cs,hr=>by simp only[GX,wq l cs (λn hn=>hr n (by simpa only[aT]using hn))]
 |.w8 r bP lo n,hr=>by simp only[GX,hr r (by simp[aT])]
 |.undef,_|.skip,_|.v _,_|.bH,_|.ptr _ _,_|.nz _ _ _,_|.kP _ _,_|.ln _ _ _ _,_|.OR,_|.jG _,_|.cX _,_|.eE _,_|.G2 _ _,_=>by simp[GX]
def wq(l:Bool):∀(ds:bM),(∀n∈bR ds,aI n=ab n)->vv l aI ds=vv l ab ds
 |[],_=>rfl
 |d::ds,hr=>by simp only[vv,Jr l d (λn hn=>hr n (by simp[bR,hn])),wq l ds (λn hn=>hr n (by simp[bR,hn]))]
end
def qF{n:Nat}:n∈bR (xs.map (·.ev ρ))->∃x∈xs,n∈aT (x.ev ρ):=by
 induction xs with
 |nil=>simp[bR]
 |cons x xs ih=>
  simp only[rW,bR,oJ];rintro(h|h)
  ·exact⟨x,by simp,h⟩
  ·obtain⟨y,hy,hn⟩:=ih h;exact⟨y,by simp[hy],hn⟩
def LF(d:DV):∀n∈bR (cellsOf d),n∈aT d:=by
 have hv:∀cs:aK,bR (cs.map .v)=[]:=by
  intro cs;induction cs with
  |nil=>rfl
  |cons c cs ih=>simp only[rW,bR,aT,ih,xP]
 intro n hn;cases d with
 |v t=>cases t<;>simp[cellsOf,bR,aT,hv]at hn
 |agg cs=>simpa [cellsOf,aT]using hn
 |_=>simpa [cellsOf,bR]using hn
def CY{d:DV}(hy:∀n∈aT d,aI n=ab n):gD aI d=gD ab d:=by
 cases d<;>simp only[aT,pe,LD]at hy<;>first|rfl|(simp only[gD,hy];done)|skip
 rename_i t;cases t<;>first|rfl|skip
 rename_i v;cases v<;>first|rfl|skip
 rename_i p n c;cases n<;>rfl
def BK(hr:∀x∈bT d,∀n∈aT (x.ev ρ),aI n=ab n):dK Γ d name ρ aI=dK Γ d name ρ ab:=by
 by_cases h0:ph d=0\/ph d=2
 ·exact E8 h0
 cases d<;>first|exact eK (Or.inl rfl) h0|exact eK (Or.inr rfl) h0|rfl|skip
 case load n agg x=>
  have hx:=hr x (by simp[bT]);simp only[dK];cases hv:x.ev ρ<;>rw[hv]at hx<;>simp only[aT,pe,LD]at hx<;>first|rfl|(simp only[jH,hx];done)|(rename_i t;cases t<;>rfl)
 case store n x y=>
  have hx:=hr x (by simp[bT]);have hy:=hr y (by simp[bT]);have hyc:ka aI (cellsOf (y.ev ρ))=ka ab (cellsOf (y.ev ρ)):=tA _ λn hn=>hy n (LF _ n hn);simp only[dK];cases hv:x.ev ρ<;>rw[hv]at hx<;>simp only[aT,pe,LD]at hx<;>first|rfl|(simp only[mS,hx,hyc];done)|(rename_i t;cases t<;>rfl)
 case eqT neg agg cL x y=>
  have hx:=hr x (by simp[bT]);have hy:=hr y (by simp[bT]);simp only[dK,Jr true _ hx,Jr true _ hy,Jq _ hx,Jq _ hy]
 case idxAddr sz x i=>
  have hx:=hr x (by simp[bT]);simp only[dK];cases hv:x.ev ρ<;>rw[hv]at hx<;>simp only[aT,pe,LD]at hx<;>first|rfl|skip
  ·rename_i t;cases t<;>first|rfl|(cases i.ev ρ<;>first|rfl|(rename_i t;cases t<;>rfl))
  ·cases i.ev ρ<;>first|rfl|skip
   rename_i t;cases t<;>first|rfl|(simp only[uh,hx])
  ·cases i.ev ρ<;>first|rfl|skip
   rename_i t;cases t<;>first|rfl|(simp only[uh,hx])
  ·cases i.ev ρ<;>first|rfl|skip
   rename_i t;cases t<;>rfl
 case len x=>
  have hx:=hr x (by simp[bT]);simp only[dK];cases hv:x.ev ρ<;>rw[hv]at hx<;>simp only[aT,pe,LD]at hx<;>first|rfl|(simp only[yG,hx];done)|(rename_i t;cases t<;>rfl)
 case call f xs=>
  have hx:∀n∈bR (xs.map (·.ev ρ)),aI n=ab n:=λn hn=>by obtain⟨x,hx,hn⟩:=qF hn;exact hr x hx n hn
  simp only[dK,rX,wq _ _ hx,tA _ hx]
 case callF f xs=>
  have hx:∀n∈bR (xs.map (·.ev ρ)),aI n=ab n:=λn hn=>by obtain⟨x,hx,hn⟩:=qF hn;exact hr x hx n hn
  simp only[dK,qx,wq _ _ hx,tA _ hx]
 case callR f xs=>
  have hx:∀n∈bR (xs.map (·.ev ρ)),aI n=ab n:=λn hn=>by obtain⟨x,hx,hn⟩:=qF hn;exact hr x hx n hn
  simp only[dK,IX hx]
 case append e sz bytes x y=>
  have hx:=hr x (by simp[bT]);have hy:=hr y (by simp[bT]);have hs:gD aI (y.ev ρ)=gD ab (y.ev ρ):=CY hy;simp only[dK,ju,hs];cases gD ab (y.ev ρ)with
  |none=>rfl
  |some ys=>
   cases hv:x.ev ρ<;>rw[hv]at hx<;>simp only[aT,pe,LD]at hx<;>first|rfl|(simp only[hx];done)|(rename_i t;cases t<;>rfl)|skip
   rename_i r bP lo n;cases lo<;>simp only[hx]
 case slice sz x lo hi=>
  have hx:=hr x (by simp[bT]);simp only[dK];cases hv:x.ev ρ<;>rw[hv]at hx<;>simp only[aT,pe,LD]at hx<;>first|rfl|(simp only[kz,hx];done)|(rename_i t;cases t<;>rfl)
 case lookup cL agg z ok x k=>
  have hx:=hr x (by simp[bT]);simp only[dK];cases hv:x.ev ρ<;>rw[hv]at hx<;>simp only[aT,pe,LD]at hx<;>first|rfl|(rename_i t;cases t<;>rfl)|(cases Ww:BA (k.ev ρ)<;>simp only[nT,hx,Ww])
 case mapUpd cL agg x k y=>
  have hx:=hr x (by simp[bT]);simp only[dK];cases hv:x.ev ρ<;>rw[hv]at hx<;>simp only[aT,pe,LD]at hx<;>first|rfl|(rename_i t;cases t<;>rfl)|(cases Ww:BA (k.ev ρ)<;>simp only[j5,hx,Ww])
 case mapEnt cL agg z x k=>
  have hx:=hr x (by simp[bT]);simp only[dK];cases hv:x.ev ρ<;>rw[hv]at hx<;>simp only[aT,pe,LD]at hx<;>first|rfl|(rename_i t;cases t<;>rfl)|(cases Ww:BA (k.ev ρ)<;>simp only[j6,hx,Ww])
 case entSt x s y=>
  have hx:=hr x (by simp[bT]);simp only[dK];cases hv:x.ev ρ<;>rw[hv]at hx<;>simp only[aT,pe,LD]at hx<;>first|rfl|(rename_i t;cases t<;>rfl)|(unfold lL;split<;>first|rfl|(rename_i e _;cases e;simp only[hx]))
 case mapDel cL agg x k=>
  have hx:=hr x (by simp[bT]);simp only[dK];cases hv:x.ev ρ<;>rw[hv]at hx<;>simp only[aT,pe,LD]at hx<;>first|rfl|(rename_i t;cases t<;>rfl)|(cases Ww:BA (k.ev ρ)<;>simp only[j7,hx,Ww])
 case lenM x=>
  have hx:=hr x (by simp[bT]);simp only[dK];cases hv:x.ev ρ<;>rw[hv]at hx<;>simp only[aT,pe,LD]at hx<;>first|rfl|(simp only[uj,hx];done)|(rename_i t;cases t<;>rfl)
 case rangeM x=>
  have hx:=hr x (by simp[bT]);simp only[dK];cases hv:x.ev ρ<;>rw[hv]at hx<;>simp only[aT,pe,LD]at hx<;>first|rfl|(simp only[mm,hx];done)|(rename_i t;cases t<;>rfl)
 case isNil kind neg x=>
  have hx:=hr x (by simp[bT]);simp only[dK];cases hv:x.ev ρ<;>rw[hv]at hx<;>simp only[aT,pe,LD]at hx<;>first|rfl|(simp only[gZ,hx];done)|(unfold gZ;split<;>first|rfl|(rename_i e;cases e))
 case copy sz x y=>
  have hx:=hr x (by simp[bT]);have hy:=hr y (by simp[bT]);simp only[dK,kQ,CY hy];cases gD ab (y.ev ρ)with
  |none=>rfl
  |some ys=>
   cases hv:x.ev ρ<;>rw[hv]at hx<;>simp only[aT,pe,LD]at hx<;>first|rfl|(simp only[hx];done)|(rename_i t;cases t<;>rfl)
def abd(h:Ext ab aI)(hr:∀x∈bT d,fX ab (x.ev ρ)):dK Γ d name ρ aI=dK Γ d name ρ ab:=
 BK λx hx n hn=>h n (fX.aT _ (hr x hx) n hn)
def lays:tZ->Bool
 |.alloc _|.box _|.mkSlice .. |.mkSliceB .. |.append .. |.mkMap .. |.rangeM _|.callF .. =>true
 |_=>false
def xm{o:Ob}(h:ph d=3)(hp:(dK Γ d name ρ ab).put=some (r,o)):r=name\/∃x∈bT d,r∈aT (x.ev ρ):=by
 cases d<;>first|(simp[ph]at h;done)|skip
 case store n x y=>
  simp only[dK]at hp;unfold mS at hp;split at hp
  ·rename_i hv;split at hp
   ·simp only[cI,oL]at hp;obtain⟨rfl,_⟩:=hp;exact .inr ⟨x,by simp[bT],by simp[hv,aT]⟩
   ·cases hp
  ·rename_i hv;split at hp
   ·simp only[cI,oL]at hp;obtain⟨rfl,_⟩:=hp;exact .inr ⟨x,by simp[bT],by simp[hv,aT]⟩
   ·cases hp
  ·cases hp
 case append e sz OY x y=>
  simp only[dK]at hp;unfold ju at hp;split at hp
  ·cases hp
  ·split at hp
   ·simp only[cI,oL]at hp;exact .inl hp.1.symm
   ·rename_i hv;split at hp
    ·simp only[cI,oL]at hp;obtain⟨rfl,_⟩:=hp;exact .inr ⟨x,by simp[bT],by simp[hv,aT]⟩
    ·cases hp
   ·rename_i hv;split at hp
    ·simp only[cI,oL]at hp;obtain⟨rfl,_⟩:=hp;exact .inr ⟨x,by simp[bT],by simp[hv,aT]⟩
    ·cases hp
   ·cases hp
 case copy sz x y=>
  simp only[dK]at hp;unfold kQ at hp;split at hp
  ·cases hp
  ·split at hp
   ·rename_i hv;split at hp
    ·simp only[cI,oL]at hp;obtain⟨rfl,_⟩:=hp;exact .inr ⟨x,by simp[bT],by simp[hv,aT]⟩
    ·cases hp
   ·rename_i hv;split at hp
    ·simp only[cI,oL]at hp;obtain⟨rfl,_⟩:=hp;exact .inr ⟨x,by simp[bT],by simp[hv,aT]⟩
    ·cases hp
   ·cases hp
 case mapUpd cL agg x k y=>
  simp only[dK]at hp;unfold j5 at hp;split at hp
  ·rename_i hv _;split at hp
   ·simp only[cI,oL]at hp;obtain⟨rfl,_⟩:=hp;exact .inr ⟨x,by simp[bT],by simp[hv,aT]⟩
   ·cases hp
  ·cases hp
 case mapEnt cL agg z x k=>
  simp only[dK]at hp;unfold j6 at hp;split at hp
  ·rename_i hv _;split at hp
   ·simp only[cI,oL]at hp;obtain⟨rfl,_⟩:=hp;exact .inr ⟨x,by simp[bT],by simp[hv,aT]⟩
   ·cases hp
  ·cases hp
 case entSt x s y=>
  simp only[dK]at hp;unfold lL at hp;split at hp
  ·rename_i hv _;split at hp
   ·split at hp
    ·simp only[cI,oL]at hp;obtain⟨rfl,_⟩:=hp;exact .inr ⟨x,by simp[bT],by simp[hv,aT]⟩
    ·cases hp
   ·cases hp
  ·cases hp
 case mapDel cL agg x k=>
  simp only[dK]at hp;unfold j7 at hp;split at hp
  ·rename_i hv _;split at hp
   ·simp only[cI,oL]at hp;obtain⟨rfl,_⟩:=hp;exact .inr ⟨x,by simp[bT],by simp[hv,aT]⟩
   ·cases hp
  ·cases hp
 case rangeM x=>
  simp only[dK]at hp;unfold mm at hp;split at hp
  ·split at hp
   ·simp only[cI,oL]at hp;exact .inl hp.1.symm
   ·cases hp
  ·cases hp
 case callF f xs=>
  simp only[dK]at hp;unfold qx at hp
  (repeat' split at hp)<;>first|(cases hp;done)|(simp only[cI,oL]at hp;exact .inl hp.1.symm)
def O4{o:Ob}(h:ph d=3)(hl:lays d=false)(hp:(dK Γ d name ρ ab).put=some (r,o)):∃x∈bT d,r∈aT (x.ev ρ):=by
 cases d<;>first|(simp[ph]at h;done)|(simp[lays]at hl;done)|skip
 case store n x y=>
  simp only[dK]at hp;unfold mS at hp;split at hp
  ·rename_i hv;split at hp
   ·simp only[cI,oL]at hp;obtain⟨rfl,_⟩:=hp;exact⟨x,by simp[bT],by simp[hv,aT]⟩
   ·cases hp
  ·rename_i hv;split at hp
   ·simp only[cI,oL]at hp;obtain⟨rfl,_⟩:=hp;exact⟨x,by simp[bT],by simp[hv,aT]⟩
   ·cases hp
  ·cases hp
 case copy sz x y=>
  simp only[dK]at hp;unfold kQ at hp;split at hp
  ·cases hp
  ·split at hp
   ·rename_i hv;split at hp
    ·simp only[cI,oL]at hp;obtain⟨rfl,_⟩:=hp;exact⟨x,by simp[bT],by simp[hv,aT]⟩
    ·cases hp
   ·rename_i hv;split at hp
    ·simp only[cI,oL]at hp;obtain⟨rfl,_⟩:=hp;exact⟨x,by simp[bT],by simp[hv,aT]⟩
    ·cases hp
   ·cases hp
 case mapUpd cL agg x k y=>
  simp only[dK]at hp;unfold j5 at hp;split at hp
  ·rename_i hv _;split at hp
   ·simp only[cI,oL]at hp;obtain⟨rfl,_⟩:=hp;exact⟨x,by simp[bT],by simp[hv,aT]⟩
   ·cases hp
  ·cases hp
 case mapEnt cL agg z x k=>
  simp only[dK]at hp;unfold j6 at hp;split at hp
  ·rename_i hv _;split at hp
   ·simp only[cI,oL]at hp;obtain⟨rfl,_⟩:=hp;exact⟨x,by simp[bT],by simp[hv,aT]⟩
   ·cases hp
  ·cases hp
 case entSt x s y=>
  simp only[dK]at hp;unfold lL at hp;split at hp
  ·rename_i hv _;split at hp
   ·split at hp
    ·simp only[cI,oL]at hp;obtain⟨rfl,_⟩:=hp;exact⟨x,by simp[bT],by simp[hv,aT]⟩
    ·cases hp
   ·cases hp
  ·cases hp
 case mapDel cL agg x k=>
  simp only[dK]at hp;unfold j7 at hp;split at hp
  ·rename_i hv _;split at hp
   ·simp only[cI,oL]at hp;obtain⟨rfl,_⟩:=hp;exact⟨x,by simp[bT],by simp[hv,aT]⟩
   ·cases hp
  ·cases hp
def LG(h:ph d=0\/ph d=1):(dK Γ d name ρ ab).put=none:=by
 cases d<;>first|(simp[ph]at h;done)|rfl|skip
 case pick c a b=>simp only[dK];split<;>rfl
 case bslice=>simp only[dK];split<;>rfl
 case load n agg x=>simp only[dK];unfold jH;(repeat' split)<;>rfl
 case bin op x y=>simp only[dK];unfold vZ;(repeat' split)<;>rfl
 case un op x=>simp only[dK];unfold Rd;(repeat' split)<;>rfl
 case conv k x=>simp only[dK];split<;>rfl
 case addOff k x=>simp only[dK];unfold jt;(repeat' split)<;>rfl
 case nilCheck x=>simp only[dK];unfold ml;(repeat' split)<;>rfl
 case idxAddr sz x i=>simp only[dK];unfold uh;(repeat' split)<;>rfl
 case arrAddr n sz x i=>simp only[dK];unfold lY;(repeat' split)<;>rfl
 case field off n agg x=>simp only[dK];unfold qt;(repeat' split)<;>rfl
 case slice sz x lo hi=>simp only[dK];unfold kz;(repeat' split)<;>rfl
 case extract i x=>simp only[dK];unfold ui;(repeat' split)<;>rfl
 case call f xs=>simp only[dK];unfold rX;(repeat' split)<;>rfl
 case callR f xs=>simp only[dK];unfold qw;(repeat' split)<;>rfl
 case len x=>simp only[dK];unfold yG;(repeat' split)<;>rfl
 case lenS x=>simp only[dK];unfold w9;(repeat' split)<;>rfl
 case minmax m x y=>simp only[dK];unfold pX;(repeat' split)<;>rfl
 case lookup=>simp only[dK];unfold nT;(repeat' split)<;>rfl
 case lenM x=>simp only[dK];unfold uj;(repeat' split)<;>rfl
 case isNil=>simp only[dK];unfold gZ;(repeat' split)<;>rfl
 case indexS x i=>simp only[dK];unfold pY;(repeat' split)<;>rfl
def abe{o:Ob}(h:ph d=2)(hp:(dK Γ d name ρ ab).put=some (r,o)):r=name:=by
 cases d<;>first|(simp[ph]at h;done)|skip
 case alloc z=>simp only[dK,cI,oL]at hp;exact hp.1.symm
 case box x=>simp only[dK,cI,oL]at hp;exact hp.1.symm
 case mkMap=>simp only[dK,cI,oL]at hp;exact hp.1.symm
 case mkSlice e sz OY z n=>
  simp only[dK]at hp;unfold mT at hp;split at hp
  ·simp only[cI,oL]at hp;exact hp.1.symm
  ·cases hp
 case mkSliceB e sz OY z n=>
  simp only[dK]at hp;unfold gY at hp;split at hp
  ·simp only[cI,oL]at hp;exact hp.1.symm
  ·cases hp
def abf{o:Ob}(h:ph d=3)(hp:(dK Γ d name ρ ab).put=some (r,o)):r=name\/ab r≠none:=by
 cases d<;>first|(simp[ph]at h;done)|skip
 case store n x y=>
  simp only[dK]at hp;unfold mS at hp;split at hp
  ·split at hp
   ·rename_i hc;simp only[cI,oL]at hp;obtain⟨rfl,_⟩:=hp;exact .inr (by simp[hc])
   ·cases hp
  ·split at hp
   ·rename_i hc;simp only[cI,oL]at hp;obtain⟨rfl,_⟩:=hp;exact .inr (by simp[hc])
   ·cases hp
  ·cases hp
 case append e sz OY x y=>
  simp only[dK]at hp;unfold ju at hp;split at hp
  ·cases hp
  ·split at hp
   ·simp only[cI,oL]at hp;exact .inl hp.1.symm
   ·split at hp
    ·rename_i hc;simp only[cI,oL]at hp;obtain⟨rfl,_⟩:=hp;exact .inr (by simp[hc])
    ·cases hp
   ·split at hp
    ·rename_i hc;simp only[cI,oL]at hp;obtain⟨rfl,_⟩:=hp;exact .inr (by simp[hc])
    ·cases hp
   ·cases hp
 case copy sz x y=>
  simp only[dK]at hp;unfold kQ at hp
  (repeat' split at hp)<;>first|(cases hp;done)|(rename_i hc;simp only[cI,oL]at hp;obtain⟨rfl,_⟩:=hp;exact .inr (by simp[hc]))
 case mapUpd=>
  simp only[dK]at hp;unfold j5 at hp
  (repeat' split at hp)<;>first|(cases hp;done)|(rename_i hc;simp only[cI,oL]at hp;obtain⟨rfl,_⟩:=hp;exact .inr (by simp[hc]))
 case mapEnt=>
  simp only[dK]at hp;unfold j6 at hp
  (repeat' split at hp)<;>first|(cases hp;done)|(rename_i hc;simp only[cI,oL]at hp;obtain⟨rfl,_⟩:=hp;exact .inr (by simp[hc]))
 case entSt=>
  simp only[dK]at hp;unfold lL at hp
  (repeat' split at hp)<;>first|(cases hp;done)|(rename_i hc _ _ _;simp only[cI,oL]at hp;obtain⟨rfl,_⟩:=hp;exact .inr (by simp_all))
 case mapDel=>
  simp only[dK]at hp;unfold j7 at hp
  (repeat' split at hp)<;>first|(cases hp;done)|(rename_i hc;simp only[cI,oL]at hp;obtain⟨rfl,_⟩:=hp;exact .inr (by simp[hc]))
 case rangeM=>
  simp only[dK]at hp;unfold mm at hp
  (repeat' split at hp)<;>first|(cases hp;done)|(simp only[cI,oL]at hp;exact .inl hp.1.symm)
 case callF f xs=>
  simp only[dK]at hp;unfold qx at hp
  (repeat' split at hp)<;>first|(cases hp;done)|(simp only[cI,oL]at hp;exact .inl hp.1.symm)
def Wx{o:Ob}(h:ph d=3)(hl:lays d=false)(hp:(dK Γ d name ρ ab).put=some (r,o)):ab r≠none:=by
 cases d<;>first|(simp[ph]at h;done)|(simp[lays]at hl;done)|skip
 all_goals simp only[dK]at hp
 case store=>unfold mS at hp;(repeat' split at hp)<;>first|(cases hp;done)|(rename_i hc;simp only[cI,oL]at hp;obtain⟨rfl,_⟩:=hp;simp[hc])
 case copy=>unfold kQ at hp;(repeat' split at hp)<;>first|(cases hp;done)|(rename_i hc;simp only[cI,oL]at hp;obtain⟨rfl,_⟩:=hp;simp[hc])
 case mapUpd=>unfold j5 at hp;(repeat' split at hp)<;>first|(cases hp;done)|(rename_i hc;simp only[cI,oL]at hp;obtain⟨rfl,_⟩:=hp;simp[hc])
 case mapEnt=>unfold j6 at hp;(repeat' split at hp)<;>first|(cases hp;done)|(rename_i hc;simp only[cI,oL]at hp;obtain⟨rfl,_⟩:=hp;simp[hc])
 case entSt=>unfold lL at hp;(repeat' split at hp)<;>first|(cases hp;done)|(simp only[cI,oL]at hp;obtain⟨rfl,_⟩:=hp;simp_all)
 case mapDel=>unfold j7 at hp;(repeat' split at hp)<;>first|(cases hp;done)|(rename_i hc;simp only[cI,oL]at hp;obtain⟨rfl,_⟩:=hp;simp[hc])
end
end
section
variable{r:RO}{st:RS}{ρ:dG}{d:tZ}{ab:bF}
variable [bK] [d8]
def O5:cg->Option Nat
 |.tmp t=>some t
 |.yF _=>none
def D1(r:RO):cY:=(bT r.d).filterMap O5++(r.guard.map (·.1)).toList
def age:cg->Bool
 |.tmp _=>true
 |.yF (.v _)|.yF .bH|.yF (.kP _ _)=>true
 |_=>false
def wr(r:RO):Bool:=(bT r.d).all age
def jV(x y:RO):Bool:=match x.dst with|some d=> !(D1 y).contains d|none=>true
def rZ(x y:RO):Bool:=match x.dst,y.dst with|some a,some b=>a !=b|_,_=>true
def O6(a b:Nat):Bool:=((a==3&&(b==1||b==3))||(b==3&&a==1))||((a==4&&b !=0)||(b==4&&a !=0))
def DH(x y:Option (cY)):Bool:=match x,y with|some a,some b=>a.all λn=>b.all λm=>n !=m|_,_=>false
def ok4(a b:Nat):Bool:=(a !=4||b==1)&&(b !=4||a==1)
def isF:tZ->Bool
 |.callF .. =>true
 |_=>false
def Wy(a b:tZ):Bool:=(isF a&&ph b==1)||(isF b&&ph a==1)
def lO(x y:RO):Bool:=
 jV x y&&jV y x&&rZ x y&&(!O6 (ph x.d) (ph y.d)||(DH x.ld y.ld&&ok4 (ph x.d) (ph y.d))||Wy x.d y.d)
def g6(r:RO):Bool:= !lays r.d||r.dst.isSome
section
variable{Γ:pW}{aJ:Nat}
def E9(st:RS):Prop:=∀t,fX st.ab (st.tmps t)
def nm(aJ:Nat)(r:RO):Nat:=b8 aJ r.dst
def Rr(aJ:Nat)(r:RO)(st:RS):Prop:=r.dst.isSome=true->st.ab (nm aJ r)=none
def D2{t:Nat}{o:Ob}(hp:(pM Γ aJ r st).put=some (t,o)):(t=nm aJ r/\lays r.d=true)\/(st.ab t≠none/\ph r.d=3):=by
 unfold pM at hp;by_cases h0:ph r.d=0\/ph r.d=1
 ·rw[LG h0]at hp;cases hp
 ·by_cases h2:ph r.d=2
  ·refine .inl ⟨abe h2 hp, ?_⟩;cases hd:r.d<;>rw[hd]at h2<;>first|rfl|(simp[ph]at h2;done)
  ·have h3:ph r.d=3:=by
    cases hd:r.d<;>rw[hd]at h0 h2<;>first|(simp_all [ph];done)|(rw[hd]at hp;simp[dK,dm]at hp)
   cases hl:lays r.d with
   |true=>
    rcases abf h3 hp with h|h
    ·exact .inl ⟨h,rfl⟩
    ·exact .inr ⟨h,h3⟩
   |false=>exact .inr ⟨Wx h3 hl hp,h3⟩
def ahJ{x:cg}{dst:Option Nat}{v:DV}(h:∀d,dst=some d->O5 x≠some d):x.ev (dg ρ dst v)=x.ev ρ:=by
 cases x with
 |yF d=>rfl
 |tmp t=>
  cases dst with
  |none=>rfl
  |some d=>
   have:=h d rfl;simp only[O5,ne_eq,cI]at this;simp[cg.ev,dg,this]
def CZ{x y:RO}(h:jV x y=true){d:Nat}(hd:x.dst=some d):d∉D1 y:=by
 simp only[jV,hd]at h;simpa using h
def Ag{x y:RO}(h:jV x y=true)(ρ:dG)(v:DV):gN y.guard (dg ρ x.dst v)=gN y.guard ρ:=by
 cases hg:y.guard with
 |none=>rfl
 |some g=>
  obtain⟨s,mH⟩:=g;cases hd:x.dst with
  |none=>rfl
  |some d=>
   have hn:=CZ h hd;have:s≠d:=λe=>hn (by simp[D1,hg,e]);simp[gN,dg,this]
def tC{x y:RO}(h1:jV x y=true)(ρ:dG)(v:DV):∀o∈bT y.d,o.ev (dg ρ x.dst v)=o.ev ρ:=λo ho=>ahJ λd hd hs=>by
  have:=CZ h1 hd;exact this (by simp only[D1,oJ,ZbM];exact .inl ⟨o,ho,hs⟩)
def r8{x y:RO}(h1:jV x y=true)(ρ:dG)(v:DV):cZ y (dg ρ x.dst v)↔cZ y ρ:=by
 unfold cZ;cases y.ld with
 |none=>rfl
 |some l=>
  constructor
  ·intro h o ho n hn;exact h o ho n (by rw[tC h1 ρ v o ho];exact hn)
  ·intro h o ho n hn;exact h o ho n (by rw[tC h1 ρ v o ho]at hn;exact hn)
def tD{x y:RO}(hd:DH x.ld y.ld=true)(tx:cZ x ρ)(ty:cZ y ρ){o p:cg}(ho:o∈bT x.d)(hp:p∈bT y.d){n:Nat}(h1:n∈aT (o.ev ρ))(h2:n∈aT (p.ev ρ)):False:=by
 unfold DH at hd;unfold cZ at tx ty;cases hx:x.ld with
 |none=>simp[hx]at hd
 |some a=>
  cases hy:y.ld with
  |none=>simp[hx,hy]at hd
  |some b=>
   simp only[hx,hy]at hd tx ty;have:=HH.1 (HH.1 hd n (tx o ho n h1)) n (ty p hp n h2);simp at this
def uw{x:RO}{t:Nat}{o:Ob}(h3x:ph x.d=3)(VJ:g6 x=true)(Fa:x.dst.isSome=true->False)
  (hpx:(dK Γ x.d (b8 aJ x.dst) st.tmps st.ab).put=some (t,o)) (h5:t=b8 aJ x.dst) {C:Prop} (k:∀a∈bT x.d,t∈aT (a.ev st.tmps)->C):C:=by
 cases hdx:x.dst with
 |some d=>exact(Fa (by simp[hdx])).elim
 |none=>
  have:lays x.d=false:=by simpa [g6,hdx]using VJ
  obtain⟨a,ha,hn⟩:=O4 h3x this hpx;exact k a ha hn
def Wz{y:RO}(hcy:wr y=true)(hR:E9 st):∀o∈bT y.d,fX st.ab (o.ev st.tmps):=λo ho=>by
 have:=HH.1 hcy o ho;cases o with
 |tmp t=>exact hR t
 |yF d=>cases d<;>first|(simp[age]at this;done)|simp[cg.ev,fX]
def abg:ph d≠4↔t6 d=false:=by cases d<;>simp[ph,t6]
def O7{Wv:dG}{todo:List (aK)}(h:∀x∈bT d,x.ev ρ=x.ev Wv):pJ Γ d ρ ab todo=pJ Γ d Wv ab todo:=by
 cases d<;>first|rfl|skip
 case callS f xs=>simp only[pJ,kS (xs:=xs) h]
 case entryM x=>simp only[pJ,h x (by simp[bT])]
 case callv x xs=>
  have h1:=h x (by simp[bT]);have h2:=kS (xs:=xs) (λy hy=>h y (by simp[bT,hy]));simp only[pJ,h1,h2]
def TQ{f:FuncId}{xs:List cg}{name:Nat}{t:Nat}{o:Ob}(h:(dK Γ (.callF f xs) name ρ ab).put=some (t,o)):t=name:=by
 simp only[dK,qx]at h
 (repeat' split at h)<;>simp_all [dm]
def TR{x y:RO}(hi:lO x y=true)(Oz:t6 x.d=false)(Ah:t6 y.d=false)(hcy:wr y=true)(VJ:g6 x=true)(hR:E9 st)(hf:Rr aJ x st)(v:DV)(td:List (aK))(ty:cZ y st.tmps){p:Option (Nat×Ob)}(hp:p=none\/(p=(pM Γ aJ x st).put/\cZ x st.tmps)):
  pM Γ aJ y ⟨dg st.tmps x.dst v,cV st.ab p,td⟩=pM Γ aJ y st:=by
 simp only[lO,mX,TS,Zcj]at hi;obtain⟨⟨⟨h1,h2⟩,h3⟩,h4⟩:=hi;have hev:=tC h1 st.tmps v;have awd:=Wz hcy hR;unfold pM;simp only;rw[BJ hev];rcases hp with rfl|⟨rfl,tx⟩
 ·rfl
 ·cases hpx:(pM Γ aJ x st).put with
  |none=>rfl
  |some q=>
   obtain⟨t,o⟩:=q;by_cases hy:ph y.d=0\/ph y.d=2
   ·exact E8 hy
   ·rcases D2 hpx with⟨rfl,hl⟩|⟨cj,h3x⟩
    ·refine abd (λr hr=>?_) awd;have hds:x.dst.isSome=true:=by simpa [g6,hl]using VJ
     have nL:=hf hds;simp only[cV];rw[bj];rintro rfl;exact hr nL
    ·rcases h4 with(h4|h4)|h4
     ·exfalso;have:ph y.d=1\/ph y.d=3:=by
       have:=abg.2 Ah;cases hd:y.d<;>rw[hd]at hy this<;>simp_all [ph]
      rcases this with h|h<;>simp[h3x,h,O6]at h4
     ·refine BK λp hp n hn=>?_;simp only[cV];rw[bj];rintro rfl;unfold pM at hpx;rcases xm h3x hpx with h5|⟨o',jA,G7⟩
      ·exact uw h3x VJ (λe=>cj (by rw[show n=nm aJ x from h5];exact hf e)) hpx h5 (λa ha G7=>tD h4.1 tx ty ha hp G7 hn)
      ·exact tD h4.1 tx ty jA hp G7 hn
     ·exfalso;unfold Wy at h4;rw[h3x]at h4;have h5:isF x.d=true:=by
       cases hF:isF x.d
       ·rw[hF]at h4;simp at h4
       ·rfl
      have h6:lays x.d=true:=by
       cases hd:x.d<;>rw[hd]at h5<;>first|rfl|(simp[isF]at h5;done)
      have h7:=hf (by simpa [g6,h6]using VJ);have h8:t=nm aJ x:=by
       unfold pM at hpx;cases hd:x.d<;>rw[hd]at h5 hpx<;>first|(simp[isF]at h5;done)|skip
       exact TQ hpx
      rw[h8]at cj;exact cj h7
def WA{x y:RO}(hi:lO x y=true)(h4:t6 x.d=true):ph y.d=0\/(ph y.d=1/\DH x.ld y.ld=true):=by
 have c4:ph x.d=4:=by cases hx:x.d<;>rw[hx]at h4<;>simp_all [ph,t6]
 simp only[lO,mX,TS,Zcj]at hi;rcases hi.2 with(h|h)|h
 ·simp[O6,c4]at h;exact .inl h.1
 ·simp[ok4,c4]at h;exact .inr ⟨h.2.1,h.1⟩
 ·exfalso;have:isF x.d=false:=by cases hx:x.d<;>rw[hx]at h4<;>simp_all [isF,t6]
  simp[Wy,this,c4]at h
def TT(a b:Nat):O6 a b=O6 b a:=by
 unfold O6;cases a==3<;>cases b==3<;>cases a==1<;>cases b==1<;>cases a==4<;>cases b==4<;>cases a !=0<;>cases b !=0<;>rfl
def Fb{x y:RO}(h:rZ x y=true):rZ y x=true:=by
 unfold rZ at h⊢;cases hx:x.dst<;>cases hy:y.dst<;>simp_all
 exact λe=>h e.symm
def TU(a b:Option (cY)):DH a b=DH b a:=by
 cases a with
 |none=>cases b<;>rfl
 |some a=>
  cases b with
  |none=>rfl
  |some b=>
   rw[Zcc];simp only[DH,HH,Zdl,ne_eq];exact⟨λh n hn m hm e=>h m hm n hn e.symm,λh n hn m hm e=>h m hm n hn e.symm⟩
def yO{x y:RO}(h:lO x y=true):lO y x=true:=by
 simp only[lO,mX]at h⊢;refine⟨⟨⟨h.1.1.2,h.1.1.1⟩,Fb h.1.2⟩, ?_⟩;rw[TT,TU];have:=h.2;simp only[Zcj,mX]at this⊢;rcases this with(h|h)|h
 ·exact .inl (.inl h)
 ·refine .inl (.inr ⟨h.1, ?_⟩);simp only[ok4,mX]at h⊢;exact⟨h.2.2,h.2.1⟩
 ·refine .inr ?_;unfold Wy at h⊢;rw[Bool.or_comm];exact h
def vp(Γ:pW)(aJ:Nat)(r:RO)(st:RS):DV×Option (Nat×Ob):=
 match gN r.guard st.tmps with
 |some true=>((pM Γ aJ r st).val,(pM Γ aJ r st).put)
 |_=>(.skip,none)
def GZ(Γ:pW)(r:RO)(st:RS):DV×bF×List (aK):=
 match gN r.guard st.tmps with
 |some true=>((pJ Γ r.d st.tmps st.ab st.todo).val,(pJ Γ r.d st.tmps st.ab st.todo).ab,(pJ Γ r.d st.tmps st.ab st.todo).todo)
 |_=>(.skip,st.ab,st.todo)
def oA(h4:t6 r.d=false)(h:c8 Γ aJ r st):eB Γ aJ r st=⟨dg st.tmps r.dst (vp Γ aJ r st).1,cV st.ab (vp Γ aJ r st).2,st.todo⟩:=by
 unfold c8 at h;unfold eB vp;cases hw:gN r.guard st.tmps with
 |none=>rw[hw]at h;exact h.elim
 |some b=>cases b<;>simp[post,h4,cV]
def wt(h4:t6 r.d=true)(h:c8 Γ aJ r st):eB Γ aJ r st=⟨dg st.tmps r.dst (GZ Γ r st).1,(GZ Γ r st).2.1,(GZ Γ r st).2.2⟩:=by
 unfold c8 at h;unfold eB GZ;cases hw:gN r.guard st.tmps with
 |none=>rw[hw]at h;exact h.elim
 |some b=>cases b<;>simp[post,h4]
def Js(r:RO)(st:RS):(vp Γ aJ r st).2=none\/(vp Γ aJ r st).2=(pM Γ aJ r st).put:=by
 unfold vp;split
 ·exact .inr rfl
 ·exact .inl rfl
def Jt(h0:ph r.d=0\/ph r.d=1):(vp Γ aJ r st).2=none:=by
 rcases Js (Γ:=Γ) (aJ:=aJ) r st with h|h
 ·exact h
 ·rw[h];exact LG h0
def ux(h:c8 Γ aJ r st):(vp Γ aJ r st).2=none\/((vp Γ aJ r st).2=(pM Γ aJ r st).put/\cZ r st.tmps):=by
 unfold c8 at h;unfold vp;cases hw:gN r.guard st.tmps with
 |none=>rw[hw]at h;exact h.elim
 |some b=>
  cases b with
  |false=>exact .inl rfl
  |true=>rw[hw]at h;exact .inr ⟨rfl,h.2.1⟩
def TV(h:ph d=0):t6 d=false:=abg.1 (by rw[h];decide)
def O8{x y:RO}(ha:jV x y=true)(h0:ph y.d=0)(v:DV)(aI:bF)(td:List (aK)):
  vp Γ aJ y ⟨dg st.tmps x.dst v,aI,td⟩=vp Γ aJ y st/\(c8 Γ aJ y ⟨dg st.tmps x.dst v,aI,td⟩↔c8 Γ aJ y st):=by
 have hw:gN y.guard (dg st.tmps x.dst v)=gN y.guard st.tmps:=Ag ha _ _;have ht:=r8 (y:=y) ha st.tmps v;have he:pM Γ aJ y ⟨dg st.tmps x.dst v,aI,td⟩=pM Γ aJ y st:=by
  unfold pM;simp only;rw[BJ (tC ha st.tmps v)];exact E8 (.inl h0)
 refine⟨?_, ?_⟩
 ·unfold vp;simp only[hw,he]
 ·unfold c8 post wl;simp only[hw,he,ht,TV h0,Ou,xd,ZdB]
def O9{x y:RO}(ha:jV x y=true)(h1:ph y.d=1)(hd:DH x.ld y.ld=true)(v:DV)(aI:bF)(td:List (aK))(hk:∀l,x.ld=some l->∀n,n∉l->aI n=st.ab n)
  (oy:c8 Γ aJ y st\/c8 Γ aJ y ⟨dg st.tmps x.dst v,aI,td⟩):
  vp Γ aJ y ⟨dg st.tmps x.dst v,aI,td⟩=vp Γ aJ y st/\c8 Γ aJ y ⟨dg st.tmps x.dst v,aI,td⟩/\c8 Γ aJ y st:=by
 have hw:gN y.guard (dg st.tmps x.dst v)=gN y.guard st.tmps:=Ag ha _ _;have ht:=r8 (y:=y) ha st.tmps v;have Ah:t6 y.d=false:=abg.1 (by rw[h1];decide);have he:cZ y st.tmps->pM Γ aJ y ⟨dg st.tmps x.dst v,aI,td⟩=pM Γ aJ y st:=λty=>by
  unfold pM;simp only;rw[BJ (tC ha st.tmps v)];refine BK λp hp n hn=>?_;unfold DH at hd;unfold cZ at ty;cases hx:x.ld with
  |none=>simp[hx]at hd
  |some a=>
   cases hyt:y.ld with
   |none=>simp[hx,hyt]at hd
   |some b=>
    simp only[hx,hyt]at hd ty;refine hk a hx n λhna=>?_;have:=HH.1 (HH.1 hd n hna) n (ty p hp n hn);simp at this
 unfold c8 post wl at oy⊢;unfold vp;simp only[hw,ht,Ah,Ou,xd,ZdB,Lt]at oy⊢;cases hb:gN y.guard st.tmps with
 |none=>simp only[hb,or_self]at oy
 |some b=>
  cases b with
  |false=>simp
  |true=>
   simp only[hb]at oy⊢;have ty:cZ y st.tmps:=by rcases oy with h|h<;>exact h.2
   have he:=he ty;simp only[he]at oy⊢;have:=oy.elim id id;exact⟨trivial,this,this⟩
def WB{x:RO}(h4:t6 x.d=true)(ox:c8 Γ aJ x st):∀l,x.ld=some l->∀n,n∉l->(GZ Γ x st).2.1 n=st.ab n:=by
 unfold c8 post wl at ox;unfold GZ;intro l hl n hn;cases hb:gN x.guard st.tmps with
 |none=>simp[hb]at ox
 |some b=>
  cases b with
  |false=>rfl
  |true=>
   simp only[hb,h4,km]at ox;exact ox.2.2 trivial l hl n hn
def WC{x y:RO}(hi:lO x y=true)(h4:t6 x.d=true)(ox:c8 Γ aJ x st)(oy:c8 Γ aJ y st\/c8 Γ aJ y ⟨dg st.tmps x.dst (GZ Γ x st).1,(GZ Γ x st).2.1,(GZ Γ x st).2.2⟩):
  vp Γ aJ y ⟨dg st.tmps x.dst (GZ Γ x st).1,(GZ Γ x st).2.1,(GZ Γ x st).2.2⟩=vp Γ aJ y st/\c8 Γ aJ y ⟨dg st.tmps x.dst (GZ Γ x st).1,(GZ Γ x st).2.1,(GZ Γ x st).2.2⟩/\c8 Γ aJ y st/\(ph y.d=0\/ph y.d=1):=by
 have ha:jV x y=true:=by simp only[lO,mX]at hi;exact hi.1.1.1
 rcases WA hi h4 with h|⟨h,hd⟩
 ·obtain⟨e1,e2⟩:=O8 (Γ:=Γ) (aJ:=aJ) (st:=st) ha h (GZ Γ x st).1 (GZ Γ x st).2.1 (GZ Γ x st).2.2;have:=oy.elim id e2.1;exact⟨e1,e2.2 this,this,.inl h⟩
 ·obtain⟨e1,e2,e3⟩:=O9 ha h hd _ _ _ (WB h4 ox) oy;exact⟨e1,e2,e3,.inr h⟩
def after{x y:RO}(hi:lO x y=true)(Oz:t6 x.d=false)(Ah:t6 y.d=false)(hcy:wr y=true)(VJ:g6 x=true)(hR:E9 st)(hf:Rr aJ x st)(ox:c8 Γ aJ x st)(oy:c8 Γ aJ y st\/c8 Γ aJ y (eB Γ aJ x st)):
  vp Γ aJ y (eB Γ aJ x st)=vp Γ aJ y st/\c8 Γ aJ y (eB Γ aJ x st)/\c8 Γ aJ y st:=by
 rw[oA Oz ox]at oy⊢;have ha:jV x y=true:=by simp only[lO,mX]at hi;exact hi.1.1.1
 have hw:gN y.guard (dg st.tmps x.dst (vp Γ aJ x st).1)=gN y.guard st.tmps:=Ag ha _ _;have ht:=r8 (y:=y) ha st.tmps (vp Γ aJ x st).1;have he:cZ y st.tmps->_:=λty=>TR (Γ:=Γ) hi Oz Ah hcy VJ hR hf (vp Γ aJ x st).1 st.todo ty (ux ox);generalize vp Γ aJ x st=q at oy hw ht he⊢;unfold c8 post wl at oy⊢;unfold vp;simp only[hw,ht,Ah,Ou,xd,ZdB,Lt]at oy⊢;cases hb:gN y.guard st.tmps with
 |none=>simp only[hb,or_self]at oy
 |some b=>
  cases b with
  |false=>simp
  |true=>
   simp only[hb]at oy⊢;have ty:cZ y st.tmps:=by rcases oy with h|h<;>exact h.2
   have he:=he ty;simp only[he]at oy⊢;have:=oy.elim id id;exact⟨trivial,this,this⟩
def BL{x y:RO}(h3:rZ x y=true)(f:dG)(u v:DV):dg (dg f x.dst u) y.dst v=dg (dg f y.dst v) x.dst u:=by
 funext t;cases hx:x.dst<;>cases hy:y.dst<;>simp only[dg]
 rename_i d e;have hde:d≠e:=by simpa [rZ,hx,hy]using h3
 by_cases h1:t=d<;>by_cases h2:t=e<;>simp_all
def WD{x y:RO}(ha:jV y x=true)(v:DV):GZ Γ x ⟨dg st.tmps y.dst v,st.ab,st.todo⟩=GZ Γ x st/\(t6 x.d=true->(c8 Γ aJ x ⟨dg st.tmps y.dst v,st.ab,st.todo⟩↔c8 Γ aJ x st)):=by
 have hw:gN x.guard (dg st.tmps y.dst v)=gN x.guard st.tmps:=Ag ha _ _;have ht:=r8 (y:=x) ha st.tmps v;have hs:pJ Γ x.d (dg st.tmps y.dst v) st.ab st.todo=pJ Γ x.d st.tmps st.ab st.todo:=O7 (tC ha st.tmps v);refine⟨?_,λh4=>?_⟩
 ·unfold GZ;simp only[hw,hs]
 ·unfold c8 post;simp only[hw,hs,ht,h4,km]
def swap{x y:RO}(hi:lO x y=true)(WE:wr x=true)(hcy:wr y=true)(VJ:g6 x=true)(hly:g6 y=true)(hR:E9 st)(KV:Rr aJ x st)(hfy:Rr aJ y st)
  (ox:c8 Γ aJ x st) (oy:c8 Γ aJ y (eB Γ aJ x st)):
  c8 Γ aJ y st/\c8 Γ aJ x (eB Γ aJ y st)/\eB Γ aJ y (eB Γ aJ x st)=eB Γ aJ x (eB Γ aJ y st):=by
 have rY:=hi;simp only[lO,mX]at rY;obtain⟨⟨⟨h1,h2⟩,h3⟩,h4⟩:=rY;by_cases Oz:t6 x.d=true
 ·rw[wt Oz ox]at oy⊢;obtain⟨e1,_,WG,y0⟩:=WC hi Oz ox (.inr oy);have Ah:t6 y.d=false:=abg.1 (by rcases y0 with h|h<;>rw[h]<;>decide)
  rw[oA Ah oy,oA Ah WG,e1,Jt y0];obtain⟨e3,e4⟩:=WD (Γ:=Γ) (aJ:=aJ) (x:=x) (y:=y) (st:=st) h2 (vp Γ aJ y st).1;have ox':=(e4 Oz).2 ox;refine⟨WG,ox', ?_⟩;simp only[cV]at ox'⊢;rw[wt Oz ox',e3];simp only;rw[BL h3]
 ·have Oz:t6 x.d=false:=by simpa using Oz
  by_cases Ah:t6 y.d=true
  ·have x0:ph x.d=0\/ph x.d=1:=by
    rcases WA (yO hi) Ah with h|⟨h,_⟩
    ·exact .inl h
    ·exact .inr h
   rw[oA Oz ox,Jt x0]at oy⊢;simp only[cV]at oy⊢;obtain⟨e3,e4⟩:=WD (Γ:=Γ) (aJ:=aJ) (x:=y) (y:=x) (st:=st) h1 (vp Γ aJ x st).1;have WG:=(e4 Ah).1 oy;rw[wt Ah oy,wt Ah WG,e3];obtain⟨e1,ox',_,_⟩:=WC (yO hi) Ah WG (.inl ox);refine⟨WG,ox', ?_⟩;rw[oA Oz ox',e1,Jt x0];simp only[cV];rw[BL h3]
  ·have Ah:t6 y.d=false:=by simpa using Ah
   have a1:=after (Γ:=Γ) hi Oz Ah hcy VJ hR KV ox (.inr oy);have WG:=a1.2.2;have a2:=after (Γ:=Γ) (yO hi) Ah Oz WE hly hR hfy WG (.inl ox);have ox':=a2.2.1;refine⟨WG,ox', ?_⟩;have tx:=ux ox;have ty:=ux WG;rw[oA Ah oy,oA Oz ox',a1.1,a2.1,oA Oz ox,oA Ah WG]
   congr 1
   ·exact BL h3 _ _ _
   ·funext t;cases hx:(vp Γ aJ x st).2 with
    |none=>cases(vp Γ aJ y st).2<;>rfl
    |some p=>
     cases hy:(vp Γ aJ y st).2 with
     |none=>rfl
     |some q=>
      obtain⟨t1,o1⟩:=p;obtain⟨t2,o2⟩:=q;have e1:=D2 (((Js (Γ:=Γ) (aJ:=aJ) x st).resolve_left (by simp[hx])).symm.trans hx);have e2:=D2 (((Js (Γ:=Γ) (aJ:=aJ) y st).resolve_left (by simp[hy])).symm.trans hy);have cj:t1≠t2:=by
       rcases e1 with⟨rfl,l1⟩|⟨n1,c1⟩<;>rcases e2 with⟨rfl,l2⟩|⟨n2,c2⟩
       ·have s1:x.dst.isSome=true:=by simpa [g6,l1]using VJ
        have s2:y.dst.isSome=true:=by simpa [g6,l2]using hly
        obtain⟨d1,TW⟩:=ZbB.1 s1;obtain⟨d2,hd2⟩:=ZbB.1 s2;have:d1≠d2:=by simpa [rZ,TW,hd2]using h3
        simp[nm,b8,TW,hd2,this]
       ·rintro rfl;exact n2 (KV (by simpa [g6,l1]using VJ))
       ·rintro rfl;exact n1 (hfy (by simpa [g6,l2]using hly))
       ·simp only[Zcj,mX]at h4;rcases h4 with(h4|h4)|h4
        ·simp[O6,c1,c2]at h4
        ·rintro rfl;have p1:=(tx.resolve_left (by simp[hx])).1.symm.trans hx;have p2:=(ty.resolve_left (by simp[hy])).1.symm.trans hy;have q1:=(tx.resolve_left (by simp[hx])).2;have q2:=(ty.resolve_left (by simp[hy])).2;unfold pM at p1 p2;rcases xm c1 p1 with h5|⟨o,ho,hn⟩
         ·exact uw c1 VJ (λe=>n1 (by rw[show t1=nm aJ x from h5];exact KV e)) p1 h5 (λo ho hn=>by
           rcases xm c2 p2 with h6|⟨o',jA,G7⟩
           ·exact uw c2 hly (λe=>n2 (by rw[show t1=nm aJ y from h6];exact hfy e)) p2 h6 (λo' jA G7=>tD h4.1 q1 q2 ho jA hn G7)
           ·exact tD h4.1 q1 q2 ho jA hn G7)
         ·rcases xm c2 p2 with h6|⟨o',jA,G7⟩
          ·exact uw c2 hly (λe=>n2 (by rw[show t1=nm aJ y from h6];exact hfy e)) p2 h6 (λo' jA G7=>tD h4.1 q1 q2 ho jA hn G7)
          ·exact tD h4.1 q1 q2 ho jA hn G7
        ·simp[Wy,c1,c2]at h4
      simp only[cV];by_cases h1:t=t1<;>by_cases h2:t=t2<;>simp_all
end
end
section
variable{ops:Array Oper}{r:RO}{st:RS}{Q:Exit->Act->World->Prop}{rs:cu}{id:Nat}{listed:Array Bool}
variable [bK] [d8]
def D3(ops:Array Oper)(o:Oper):Option (Option (Nat×Bool)):=
 match o.guard with
 |none=>some none
 |some (j,b)=>((ops[j]?).bind (·.dst)).map λs=>some (s,b)
def eP(P:Program)(ops:Array Oper)(o:Oper):Option RO:=do
 let d<-dS P o
 let g<-D3 ops o
 pure ⟨d,o.dst,g,(o.after.toList.filter (Region.binds .any ·)).map (·.on),none⟩
def bare(r:RO):RO:=⟨CV r.d,r.dst,r.guard,r.after,none⟩
def ga(P:Program)(ops:Array Oper):Option (cu):=ops.toList.mapM (eP P ops)
def kD(Γ:pW)(aJ:Nat):cu->RS->Prop
 |[],_=>True
 |r::rs,st=>c8 Γ aJ r st/\kD Γ aJ rs (eB Γ aJ r st)
def eH(Γ:pW)(aJ:Nat):cu->RS->RS
 |[],st=>st
 |r::rs,st=>eH Γ aJ rs (eB Γ aJ r st)
def nA(nt:Nat)(r:RO):Bool:=wr r&&g6 r&&(match r.dst with|some d=>decide (d<nt)|none=>true)
def gI:cu->Bool
 |[]=>true
 |r::rs=>rs.all (rZ r)&&gI rs
def qG(gP:cY)(as:cY):Nat:=as.foldl (λm j=>m|||(1<<<j)|||gP.getD j 0) 0
def oQ(rs:cu):cY:=rs.foldl (λgP r=>gP++[qG gP r.after]) []
def xn(rs:cu)(ms:cY):Bool:=
 (List.range rs.length).all λi=>match rs[i]?,ms[i]? with
  |some y,some m=>y.after.all (·<i)&&(List.range i).all λx=>m.testBit x||(match rs[x]? with|some r=>lO r y|none=>false)
  |_,_=>false
def eR(nt:Nat)(iV:Bool)(rs:cu):Bool:=rs.all (nA nt)&&gI rs&&(!iV||xn rs (oQ rs))
section
variable{P:Program}{κ:qC}{nt:Nat}{Γ:pW}{aJ:Nat}{ro:Option Nat}{n:Nat}
def abh{o:Oper}{a:Act}{w:World}{K:Act->World->Prop}(h:o.wpIn (jU ro) n P a w K (λ_ _ _=>False)):∃a w,K a w:=by
 have h:=h.2;generalize (o.semAt (jU ro).round a.eval).run P w=r at h;cases r with
 |ok x w'=>
  cases x<;>simp only[Oper.uponIn]at h
  case value v=>exact⟨_,_,h⟩
  case skip=>exact⟨_,_,h⟩
  case defer d=>exact⟨_,_,h⟩
  case enter f args=>
   obtain⟨_,_,hc⟩:=h;obtain⟨e,w2,fr,hR,_⟩:=hc [] (λd hd=>by cases hd);cases e with
   |returned v=>exact⟨_,_,hR⟩
   |panicked c=>exact hR.elim
   |outgrown=>obtain⟨_,_,hf⟩:=hR;exact hf.elim
  case row r args=>
   obtain⟨_,hc⟩:=h;obtain⟨v,w2,hR,_⟩:=hc default [] (λd hd=>by cases hd);exact⟨_,_,hR⟩
  case round l f t as b=>
   obtain⟨_,_,hc⟩:=h;obtain⟨e,w2,hR,_⟩:=hc default [] (λd hd=>by cases hd);cases e with
   |returned v=>exact⟨_,_,hR⟩
   |panicked c=>exact hR.elim
   |outgrown=>obtain⟨_,_,hf⟩:=hR;exact hf.elim
 |halt x w'=>cases x<;>simp only[Oper.uponIn]at h
def gJ{o:Oper}(h:eP P ops o=some (bare r)):dS P o=some (CV r.d)/\D3 ops o=some r.guard/\r.dst=o.dst/\r.after=(o.after.toList.filter (Region.binds .any ·)).map (·.on):=by
 simp only[eP,mF,lp,kb,cI]at h;obtain⟨d,hd,g,hg,he⟩:=h;obtain⟨d',ds,gd,af,tc⟩:=r;simp only[bare,RO.mk.injEq,Lt]at he;obtain⟨rfl,rfl,rfl,rfl⟩:=he;exact⟨hd,hg,rfl,rfl⟩
def BM{o:Oper}{a:Act}{w:World}{L:Loc}(hg:D3 ops o=some r.guard)(h:fB κ nt st a w L){b:Bool}(hw:gN r.guard st.tmps=some b):
  Region.wanted o (yielded ops a.tmps)=b:=by
 unfold D3 at hg;cases ho:o.guard with
 |none=>
  rw[ho]at hg;simp only[cI]at hg;rw[<-hg]at hw;simp only[gN,cI]at hw;simp[Region.wanted,ho,hw]
 |some jb=>
  obtain⟨j,mH⟩:=jb;rw[ho]at hg;simp only[jr]at hg;obtain⟨s,hs,CQ⟩:=hg;rw[<-CQ]at hw;simp only[gN]at hw;obtain⟨W,base,M,w0,_,h0⟩:=h.ex;have iJ:=h0.tmps s;simp only[Region.wanted,ho,yielded,hs,ZcJ];split at hw
  ·rename_i x hx;rw[hx]at iJ;simp only[aC,bw]at iJ;simp only[cI]at hw;have:a.tmps[s]? =some (.bool x):=by
    rw[Oy]at iJ;cases he:a.tmps[s]? with
    |none=>rw[he]at iJ;simp[Go.undef]at iJ
    |some y=>rw[he]at iJ;simpa using iJ
   rw[this,<-hw];simp
  ·rename_i hx;rw[hx]at iJ;simp only[aC]at iJ;simp only[cI]at hw;subst hw;rw[Oy]at iJ;cases he:a.tmps[s]? with
   |none=>simp
   |some y=>
    rw[he]at iJ;simp only[Rs]at iJ;subst iJ;simp[Go.undef]
  ·cases hw
def r9(aB:ay P Γ)(Ae:κ.Good P){i:Nat}{o:Oper}(ho:ops[i]? =some o)(hr:eP P ops o=some (bare r))(Jp:nA nt r=true){a:Act}{w:World}{L:Loc}(h:fB κ nt st a w L)
  (fF:st.ab (nm aJ r)=none) (aO:c8 Γ aJ r st) {K:Act->World->Prop} (hK:∀a' w' L',fB κ nt (eB Γ aJ r st) a' w' L'->K a' w'):
  wpOpIn (jU ro) n P ops Q i K a w:=by
 obtain⟨hd,hg,lM,_⟩:=gJ hr;have LH:∀d,r.dst=some d->d<nt:=by
  intro d hd;simp only[nA,hd,mX,sa]at Jp;exact Jp.2
 unfold wpOpIn;simp only[ho];unfold c8 at aO;unfold eB at hK;cases hw:gN r.guard st.tmps with
 |none=>rw[hw]at aO;exact aO.elim
 |some b=>
  rw[hw]at aO hK;rw[BM hg h hw];cases b with
  |true=>
   simp only[km]at aO hK⊢;exact Rp aB Ae hd lM h LH fF aO.1 hK
  |false=>
   simp only[Ou,xd];refine⟨nW o w _, ?_⟩;rw[<-lM];exact hK _ _ _ (h.skip r.dst LH)
def TX(aB:ay P Γ)(Ae:κ.Good P){o:Oper}(hr:eP P ops o=some (bare r))(Jp:nA nt r=true)(h:∃a w L,fB κ nt st a w L)(fF:st.ab (nm aJ r)=none)(aO:c8 Γ aJ r st):
  ∃a w L,fB κ nt (eB Γ aJ r st) a w L:=by
 obtain⟨a,w,L,h⟩:=h;obtain⟨hd,hg,lM,_⟩:=gJ hr;have LH:∀d,r.dst=some d->d<nt:=by
  intro d hd;simp only[nA,hd,mX,sa]at Jp;exact Jp.2
 unfold c8 at aO;unfold eB;cases hw:gN r.guard st.tmps with
 |none=>rw[hw]at aO;exact aO.elim
 |some b=>
  rw[hw]at aO;cases b with
  |true=>
   have:=Rp (ro:=none) (n:=0) (K:=λa' w'=>∃L',fB κ nt ⟨dg st.tmps r.dst (post Γ aJ r st).val,(post Γ aJ r st).ab,(post Γ aJ r st).todo⟩ a' w' L') (Q:=λ_ _ _=>False) aB Ae hd lM h LH fF aO.1 (λa' w' L' h'=>⟨L',h'⟩);obtain⟨a',w',L',h'⟩:=abh this;exact⟨a',w',L',h'⟩
  |false=>exact⟨_,_,_,h.skip r.dst LH⟩
def Fc(h:∃a w L,fB κ nt st a w L):E9 st:=by
 obtain⟨a,w,L,h⟩:=h;obtain⟨W,base,M,w0,_,h0⟩:=h.ex;exact λt=>fX.ch _ _ (h0.tmps t)
def lT(aJ:Nat)(rs:cu)(st:RS):Prop:=st.ab aJ=none/\∀r∈rs,st.ab (nm aJ r)=none
def BN(aB:ay P Γ)(aO:c8 Γ aJ r st){t:Nat}(ht:st.ab t=none)(hn:lays r.d=true->t≠nm aJ r):(eB Γ aJ r st).ab t=none:=by
 by_cases h4:t6 r.d=true
 ·rw[wt h4 aO];unfold c8 post at aO;unfold GZ;cases hw:gN r.guard st.tmps with
  |none=>rw[hw]at aO;exact aO.elim
  |some b=>
   cases b with
   |false=>exact ht
   |true=>
    rw[hw]at aO;simp only[h4,km]at aO⊢;have aO:=aO.1;cases hd:r.d<;>rw[hd]at h4 aO<;>first|(simp[t6]at h4;done)|skip
    case callS f args=>
     simp only[pJ]at aO⊢;cases hg:Γ f with
     |none=>exact ht
     |some s=>
      simp only[hg]at aO⊢;cases hk:s.st with
      |none=>exact ht
      |some k=>
       simp only[hk]at aO⊢;exact((aB f s hg).st k hk _ _ aO).2 t ht
    case callv x args=>
     simp only[pJ]at aO⊢;cases hx:x.ev st.tmps with
     |pf f cA=>
      rw[hx]at aO;cases f with
      |func g=>
       simp only at aO⊢;cases hg:Γ g with
       |none=>exact ht
       |some s=>
        simp only[hg]at aO⊢;cases hk:s.st with
        |none=>exact ht
        |some k=>
         simp only[hk]at aO⊢;exact((aB g s hg).st k hk _ _ aO).2 t ht
      |_=>exact ht
     |OR=>
      simp only;split<;>exact ht
     |v t=>
      cases t with
      |fn f cA=>
       rw[hx]at aO;cases f with
       |func g=>
        simp only at aO⊢;cases hg:Γ g with
        |none=>exact ht
        |some s=>
         simp only[hg]at aO⊢;cases hk:s.st with
         |none=>exact ht
         |some k=>
          simp only[hk]at aO⊢;exact((aB g s hg).st k hk _ _ aO).2 t ht
       |_=>exact ht
      |w6 rv=>
       rw[hx]at aO;simp only at aO⊢;cases VH:(d8.k:Option (Nat×(bM->bF->gC)))with
       |none=>exact ht
       |some p=>
        obtain⟨l,k⟩:=p;simp only[VH]at aO⊢;exact d8.aT _ _ VH _ _ aO.2.2.1 t ht
      |_=>exact ht
     |_=>exact ht
    case entryM x=>exact ht
 have h4:t6 r.d=false:=by simpa using h4
 rw[oA h4 aO];cases hp:(vp Γ aJ r st).2 with
 |none=>exact ht
 |some p=>
  obtain⟨t1,o1⟩:=p;have e1:=D2 (((Js (Γ:=Γ) (aJ:=aJ) r st).resolve_left (by simp[hp])).symm.trans hp);simp only[cV];rw[bj]
  ·exact ht
  ·rintro rfl;rcases e1 with⟨h1,h2⟩|⟨h1,_⟩
   ·exact hn h2 h1
   ·exact h1 ht
def xo(aB:ay P Γ)(hl:g6 r=true)(aO:c8 Γ aJ r st)(cj:∀y∈rs,rZ r y=true/\y.dst.isSome=true\/y.dst=none)(h:lT aJ rs st):lT aJ rs (eB Γ aJ r st):=by
 have key:∀t,st.ab t=none->(lays r.d=true->t≠nm aJ r)->(eB Γ aJ r st).ab t=none:=λt ht hn=>BN aB aO ht hn;have sb:lays r.d=true->∃d,r.dst=some d:=λhr=>ZbB.1 (by simpa [g6,hr]using hl);refine⟨key _ h.1 λhr=>?_,λy hy=>key _ (h.2 y hy) λhr=>?_⟩
 ·obtain⟨d,hd⟩:=sb hr;simp[nm,b8,hd];omega
 ·obtain⟨d,hd⟩:=sb hr;rcases cj y hy with⟨h1,h2⟩|h2
  ·obtain⟨e,he⟩:=ZbB.1 h2;have:d≠e:=by simpa [rZ,hd,he]using h1
   simp[nm,b8,hd,he];omega
  ·simp[nm,b8,hd,h2];omega
def uy(h:gI (r::rs)=true):∀y∈rs,rZ r y=true/\y.dst.isSome=true\/y.dst=none:=by
 intro y hy;simp only[gI,mX,HH]at h;cases hd:y.dst with
 |none=>exact .inr rfl
 |some d=>exact .inl ⟨h.1 y hy,rfl⟩
def wu(aB:ay P Γ)(Ae:κ.Good P){ops:Array Oper}{Q:Exit->Act->World->Prop}:∀(l:cY) (rs:cu),(∀(k:Nat) (i:Nat),l[k]? =some i->∃o r,ops[i]? =some o/\rs[k]? =some r/\eP P ops o=some (bare r))->rs.length=l.length->rs.all (nA nt)=true->gI rs=true->
  ∀(st:RS) (a:Act) (w:World) (L:Loc),fB κ nt st a w L->lT aJ rs st->kD Γ aJ rs st->(∀a' w' L',fB κ nt (eH Γ aJ rs st) a' w' L'->Q .normal a' w')->wpOpsIn (jU ro) n P ops Q l a w
 |[],rs,_,hl,_,_,st,a,w,L,h,_,_,hQ=>by
  have:rs=[]:=Ln (by simpa using hl);subst this;exact hQ a w L h
 |i::l,[],_,hl,_,_,_,_,_,_,_,_,_,_=>by simp at hl
 |i::l,r::rs,hk,hl,eI,cj,st,a,w,L,h,hf,aO,hQ=>by
  obtain⟨o,r',ho,g0,hc⟩:=hk 0 i rfl;simp only[IS,cI]at g0;subst g0;simp only[ZcZ,mX]at eI;simp only[kD]at aO;have WH:g6 r=true:=by have:=eI.1;simp only[nA,mX]at this;exact this.1.2
  rw[wpOpsIn_cons];refine r9 aB Ae ho hc eI.1 h (hf.2 r (by simp)) aO.1 λa' w' L' h'=>?_;refine wu aB Ae l rs (λk j hj=>hk (k+1) j (by simpa using hj)) (by simpa using hl) eI.2 (by simp only[gI,mX]at cj;exact cj.2) _ a' w' L' h' ?_ aO.2 hQ;exact xo aB WH aO.1 (uy cj) ⟨hf.1,λy hy=>hf.2 y (by simp[hy])⟩
def mY(h:ga P ops=some (rs.map bare)):rs.length=ops.size/\∀(i:Nat) (o:Oper),ops[i]? =some o->∃r,rs[i]? =some r/\eP P ops o=some (bare r):=by
 unfold ga at h;have key:∀(l:List Oper) (rs:cu),l.mapM (eP P ops)=some rs->rs.length=l.length/\∀(i:Nat) (o:Oper),l[i]? =some o->∃r,rs[i]? =some r/\eP P ops o=some r:=by
  intro l;induction l with
  |nil=>intro rs h;simp at h;subst h;simp
  |cons x l ih=>
   intro rs h;simp only[KS,mF,lp,kb,cI]at h;obtain⟨r,hr,rs',nR,rfl⟩:=h;have:=ih rs' nR;refine⟨by simp[this.1],λi o ho=>?_⟩;cases i with
   |zero=>simp only[IS,cI]at ho;subst ho;exact⟨r,rfl,hr⟩
   |succ i=>simpa using this.2 i o (by simpa using ho)
 have:=key _ _ h;refine⟨by simpa using this.1,λi o ho=>?_⟩;obtain⟨r,h1,h2⟩:=this.2 i o (by simpa using ho);simp only[ZbH,jr]at h1;obtain⟨q,h1,rfl⟩:=h1;exact⟨q,h1,h2⟩
def LI(aB:ay P Γ)(Ae:κ.Good P)(hc:ga P ops=some (rs.map bare))(aO:eR nt false rs=true){a:Act}{w:World}{L:Loc}(h:fB κ nt st a w L)
  (hf:lT aJ rs st) (cw:kD Γ aJ rs st) (hQ:∀a' w' L',fB κ nt (eH Γ aJ rs st) a' w' L'->Q .normal a' w'):(Code.region id ops false).wpIn (jU ro) n P Q a w:=by
 have hg:=mY hc;simp only[eR,mX]at aO;refine wpIn_region (wu aB Ae (List.range ops.size) rs (λk i hi=>?_) (by simpa using hg.1) aO.1.1 aO.1.2 st a w L h hf cw hQ);obtain⟨hk,Jd⟩:=DA.1 hi;simp only[Zcm]at hk;simp only[ZbX]at Jd;subst Jd;obtain⟨r,h1,h2⟩:=hg.2 k ops[k] (by simp[hk]);exact⟨ops[k],r,by simp[hk],h1,h2⟩
def Fd(aB:ay P Γ)(Ae:κ.Good P){ops:Array Oper}{r:RO}{post:cu}(hr:nA nt r=true):∀(pre:cu),(∀x∈pre,lO x r=true/\nA nt x=true/\∃o,eP P ops o=some (bare x))->gI (pre++r::post)=true->
  ∀(st:RS),(∃a w L,fB κ nt st a w L)->lT aJ (pre++r::post) st->kD Γ aJ (pre++r::post) st->
   c8 Γ aJ r st/\kD Γ aJ (pre++post) (eB Γ aJ r st)/\eH Γ aJ (pre++post) (eB Γ aJ r st)=eH Γ aJ (pre++r::post) st
 |[],_,_,st,_,_,h=>⟨h.1,h.2,rfl⟩
 |x::pre,vw,cj,st,agf,Fa,h=>by
  simp only[Dy,kD]at h;obtain⟨hi,hx,o,hc⟩:=vw x (by simp);have WE:wr x=true/\g6 x=true:=by simp only[nA,mX]at hx;exact hx.1
  have hcr:wr r=true/\g6 r=true:=by simp only[nA,mX]at hr;exact hr.1
  have ahK:=TX aB Ae hc hx agf (Fa.2 x (by simp)) h.1;have WI:gI (pre++r::post)=true:=by simp only[Dy,gI,mX]at cj;exact cj.2
  have ahL:lT aJ (pre++r::post) (eB Γ aJ x st):=xo aB WE.2 h.1 (uy cj) ⟨Fa.1,λy hy=>Fa.2 y (by simp only[Dy,gm];exact .inr hy)⟩;obtain⟨i1,i2,i3⟩:=Fd aB Ae hr pre (λy hy=>vw y (by simp[hy])) WI _ ahK ahL h.2;obtain⟨s1,s2,s3⟩:=swap hi WE.1 hcr.1 WE.2 hcr.2 (Fc agf) (λ_=>Fa.2 x (by simp)) (λ_=>Fa.2 r (by simp)) h.1 i1;refine⟨s1,⟨s2,by rw[<-s3];exact i2⟩, ?_⟩;simp only[Dy,eH];rw[<-s3];exact i3
def rem(n:Nat)(listed:Array Bool):cY:=(List.range n).filter λi=> !listed.getD i true
def sc{n:Nat}{i:Nat}:i∈rem n listed↔i<n/\listed.getD i true=false:=by
 simp[rem]
def range_split{n i:Nat}(h:i<n):List.range n=List.range i++i::List.range' (i+1) (n-i-1):=by
 have h1:n=i+(1+(n-i-1)):=by omega
 rw[List.range_eq_range',List.range_eq_range']
 conv=>lhs;rw[h1]
 rw[<-List.range'_append_1,KR,<-List.range'_append_1];simp
def TY{n i:Nat}(hs:listed.size=n)(hi:i∈rem n listed):∃pre post,rem n listed=pre++i::post/\rem n (listed.setIfInBounds i true)=pre++post/\(∀x∈pre,x<i/\x∈rem n listed):=by
 obtain⟨h1,h2⟩:=sc.1 hi;have Pa:∀j,j≠i->(listed.setIfInBounds i true).getD j true=listed.getD j true:=λj hj=>getD_set_ne true (Ne.symm hj);have amE:(listed.setIfInBounds i true).getD i true=true:=by
  rw[Oy,Zcf];simp[hs,h1]
 refine⟨(List.range i).filter (λj=> !listed.getD j true),(List.range' (i+1) (n-i-1)).filter (λj=> !listed.getD j true), ?_, ?_, ?_⟩
 ·unfold rem;rw[range_split h1,VD,On];simp[h2]
 ·unfold rem;rw[range_split h1,VD,On];simp only[amE,ZcK,Ou,xd]
  congr 1
  ·refine List.filter_congr λj hj=>?_;rw[Pa j (by have:=IM.1 hj;omega)]
  ·refine List.filter_congr λj hj=>?_;rw[Pa j (by have:=Zcn.1 hj;omega)]
 ·intro x hx;simp only[Rt,IM,TS]at hx;exact⟨hx.1,sc.2 ⟨by omega,hx.2⟩⟩
def abi{k:Nat}(h:(1:Nat).testBit k=true):k=0:=by
 cases k with
 |zero=>rfl
 |succ k=>simp[Nat.testBit_succ]at h
def Fe(gP:cY):∀(as:cY) (m x:Nat),(as.foldl (λm j=>m|||(1<<<j)|||gP.getD j 0) m).testBit x=true->m.testBit x=true\/x∈as\/∃j∈as,(gP.getD j 0).testBit x=true
 |[],m,x,h=>.inl h
 |j::as,m,x,h=>by
  simp only[CD]at h;rcases Fe gP as _ x h with h|h|⟨k,hk,h⟩
  ·simp only[Nat.testBit_or,Zcj,Nat.testBit_shiftLeft,mX,sa,ge_iff_le]at h;rcases h with(h|⟨h1,h2⟩)|h
   ·exact .inl h
   ·have:=abi h2;have:x=j:=by omega
    exact .inr (.inl (by simp[this]))
   ·exact .inr (.inr ⟨j,by simp,h⟩)
  ·exact .inr (.inl (by simp[h]))
  ·exact .inr (.inr ⟨k,by simp[hk],h⟩)
def Ff:∀(rs:cu) (gP:cY),(rs.foldl (λgP r=>gP++[qG gP r.after]) gP).take gP.length=gP/\
  ∀(k:Nat) (r:RO),rs[k]? =some r->(rs.foldl (λgP r=>gP++[qG gP r.after]) gP)[gP.length+k]? =some (qG ((rs.foldl (λgP r=>gP++[qG gP r.after]) gP).take (gP.length+k)) r.after)
 |[],gP=>⟨by simp,by simp⟩
 |r::rs,gP=>by
  have ih:=Ff rs (gP++[qG gP r.after]);simp only[CD];generalize hm:rs.foldl (λgP r=>gP++[qG gP r.after]) (gP++[qG gP r.after])=ms at ih;simp only[EN,Oq,ZcA,KR]at ih;have h1:ms.take gP.length=gP:=by
   have:=congrArg (List.take gP.length) ih.1;rw[Zdc]at this;simpa [show min gP.length (gP.length+1)=gP.length by omega]using this
  refine⟨h1,λk q hq=>?_⟩;cases k with
  |zero=>
   simp only[IS,cI]at hq;subst hq;rw[Zcb,h1];have h2:(ms.take (gP.length+1))[gP.length]? =some (qG gP r.after):=by rw[ih.1];simp
   rw[Hv]at h2;simpa using h2
  |succ k=>
   have:=ih.2 k q (by simpa using hq)
   rwa [show gP.length+1+k=gP.length+(k+1)by omega]at this
def TZ{i m x:Nat}(hr:rs[i]? =some r)(hm:(oQ rs)[i]? =some m)(hx:m.testBit x=true)(eG:∀j∈r.after,j<i):x∈r.after\/∃j∈r.after,∃mj,(oQ rs)[j]? =some mj/\mj.testBit x=true:=by
 have:=(Ff rs []).2 i r hr;simp only[ZcA,KR]at this;have I3:(oQ rs)[i]? =some (qG ((oQ rs).take i) r.after):=this;rw[hm]at I3;simp only[cI]at I3;subst I3;unfold qG at hx;rcases Fe _ _ _ _ hx with h|h|⟨j,hj,h⟩
 ·simp at h
 ·exact .inl h
 ·refine .inr ⟨j,hj, ?_⟩;have hji:=eG j hj;rw[List.getD,Hv,cG hji]at h;cases hmj:(oQ rs)[j]? with
  |none=>rw[hmj]at h;simp at h
  |some mj=>rw[hmj]at h;exact⟨mj,rfl,by simpa using h⟩
def Ju(hp:∀(i:Nat) (y:RO),rs[i]? =some y->∀j∈y.after,j<i)(ba:∀(j:Nat) (y:RO),listed.getD j false=true->rs[j]? =some y->∀e∈y.after,listed.getD e false=true):
  ∀(i:Nat) (y:RO) (m x:Nat),rs[i]? =some y->(oQ rs)[i]? =some m->m.testBit x=true->(∀e∈y.after,listed.getD e false=true)->listed.getD x false=true:=by
 intro i;induction i using Nat.strongRecOn with
 |_ i ih=>
  intro y m x hy hm hx hd;rcases TZ hy hm hx (hp i y hy)with h|⟨j,hj,mj,hmj,hxj⟩
  ·exact hd x h
  ·have hji:=hp i y hy j hj;have dQ:j<rs.length:=by
    have:=(DA.1 hy).1;omega
   have hyj:rs[j]? =some rs[j]:=by simp[dQ]
   exact ih j hji rs[j] mj x hyj hmj hxj (ba j _ (hd j hj) hyj)
def Fg(h:xn rs (oQ rs)=true):(∀(i:Nat) (y:RO),rs[i]? =some y->∀j∈y.after,j<i)/\
  ∀(i x:Nat) (y r:RO),rs[i]? =some y->x<i->rs[x]? =some r->lO r y=true\/∃m,(oQ rs)[i]? =some m/\m.testBit x=true:=by
 unfold xn at h;rw[HH]at h;have key:∀(i:Nat) (y:RO),rs[i]? =some y->∃m,(oQ rs)[i]? =some m/\(∀j∈y.after,j<i)/\∀x,x<i->m.testBit x=true\/∃r,rs[x]? =some r/\lO r y=true:=by
  intro i y hy;have:=h i (IM.2 (DA.1 hy).1);rw[hy]at this;cases hm:(oQ rs)[i]? with
  |none=>rw[hm]at this;simp at this
  |some m=>
   rw[hm]at this;simp only[mX,HH,sa,IM,Zcj]at this;refine⟨m,rfl,this.1,λx hx=>?_⟩;rcases this.2 x hx with h1|h1
   ·exact .inl h1
   ·cases hr:rs[x]? with
    |none=>rw[hr]at h1;simp at h1
    |some r=>rw[hr]at h1;exact .inr ⟨r,rfl,h1⟩
 refine⟨λi y hy=>(key i y hy).choose_spec.2.1,λi x y r hy hx hr=>?_⟩;obtain⟨m,hm,_,h2⟩:=key i y hy;rcases h2 x hx with h3|⟨r',g0,h3⟩
 ·exact .inr ⟨m,hm,h3⟩
 ·rw[hr]at g0;cases g0;exact .inl h3
def abj(aB:ay P Γ)(Ae:κ.Good P){g:Nat->RO}(hg:∀(i:Nat) (o:Oper),ops[i]? =some o->eP P ops o=some (bare (g i)))
  (kO:∀i,i<ops.size->nA nt (g i)=true) (cj:∀l:cY,l.Nodup->(∀i∈l,i<ops.size)->gI (l.map g)=true)
  (awe:∀(listed:Array Bool) (i x:Nat),i<ops.size->x<i->listed.getD x true=false->(∀(j:Nat),j<ops.size->listed.getD j false=true->∀e∈(g j).after,listed.getD e false=true)->(∀e∈(g i).after,listed.getD e false=true)->lO (g x) (g i)=true)
  (eG:∀i,i<ops.size->∀j∈(g i).after,j<i):
  ∀(BO:Nat) (listed:Array Bool),listed.size=ops.size->(rem ops.size listed).length=BO->(∀(j:Nat),j<ops.size->listed.getD j false=true->∀e∈(g j).after,listed.getD e false=true)->
   ∀(st:RS) (a:Act) (w:World) (L:Loc),fB κ nt st a w L->lT aJ ((rem ops.size listed).map g) st->kD Γ aJ ((rem ops.size listed).map g) st->
    (∀a' w' L',fB κ nt (eH Γ aJ ((rem ops.size listed).map g) st) a' w' L'->Q .normal a' w')->wpAnyIn (jU ro) n P .any ops Q BO listed a w:=by
 have BP:∀(i:Nat) (o:Oper),ops[i]? =some o->∀(listed:Array Bool),(∀e∈o.after,Region.binds .any e=true->listed.getD e.on false=true)↔∀e∈(g i).after,listed.getD e false=true:=by
  intro i o ho listed;have:=(gJ (hg i o ho)).2.2.2;rw[this];constructor
  ·intro h e he;simp only[iF,Rt]at he;obtain⟨x,⟨hx,hb⟩,rfl⟩:=he;exact h x (by simpa using hx) hb
  ·intro h e he hb;exact h e.on (iF.2 ⟨e,Rt.2 ⟨by simpa using he,hb⟩,rfl⟩)
 intro BO;induction BO with
 |zero=>
  intro listed hs hfu ba st a w L h hf aO hQ;have LJ:rem ops.size listed=[]:=Ln hfu;refine⟨?_, ?_⟩
  ·cases hr:Region.ready .any ops listed with
   |nil=>rfl
   |cons j js=>
    exfalso;have hj:j∈Region.ready .any ops listed:=by rw[hr];simp
    obtain⟨h0,o,ho,_⟩:=mem_ready.1 hj;have:j∈rem ops.size listed:=sc.2 ⟨(w7.1 ho).1,h0⟩;rw[LJ]at this;cases this
  ·rw[LJ]at hQ;exact hQ a w L h
 |succ BO ih=>
  intro listed hs hfu ba st a w L h hf aO hQ;refine⟨λhr=>?_,λi hi=>?_⟩
  ·exfalso;have WJ:∃i,i∈rem ops.size listed/\∀x<i,x∉rem ops.size listed:=by
    have EW:∃i,i∈rem ops.size listed:=by
     cases hl:rem ops.size listed with
     |nil=>rw[hl]at hfu;cases hfu
     |cons i l=>exact⟨i,by simp⟩
    obtain⟨i,hi⟩:=EW;induction i using Nat.strongRecOn with
    |_ i ih2=>
     by_cases hx:∃x,x<i/\x∈rem ops.size listed
     ·obtain⟨x,I6,yf⟩:=hx;exact ih2 x I6 yf
     ·exact⟨i,hi,λx I6 yf=>hx ⟨x,I6,yf⟩⟩
   obtain⟨i,hi,WJ⟩:=WJ;obtain⟨h1,h2⟩:=sc.1 hi;have:i∈Region.ready .any ops listed:=mem_ready.2 ⟨h2,ops[i],by simp[h1],by
    rw[BP i ops[i] (by simp[h1])];intro e he;have hei:=eG i h1 e he;have hn:=WJ e hei;rw[sc]at hn;have VK:e<listed.size:=by omega
    rw[Oy]at hn⊢;simp only[VK,ZbR,Rs]at hn⊢;cases hb:listed[e]
    ·exact eK ⟨by omega,hb⟩ hn
    ·rfl⟩
   rw[hr]at this;cases this
  ·obtain⟨h0,o,ho,eI⟩:=mem_ready.1 hi;have WK:i<ops.size:=(w7.1 ho).1;have agh:=(BP i o ho listed).1 eI;obtain⟨pre,post,e1,e2,vw⟩:=TY hs (sc.2 ⟨WK,h0⟩);rw[e1,Jv,rW]at aO hQ hf;have Af:(pre++i::post).Nodup:=by
    rw[<-e1];exact List.Pairwise.filter _ List.nodup_range
   have HG:∀x∈pre++i::post,x<ops.size:=by
    intro x hx;rw[<-e1]at hx;exact(sc.1 hx).1
   have ahM:gI (pre.map g++g i::post.map g)=true:=by
    have:=cj _ Af HG;simpa using this
   have mv:=Fd (κ:=κ) aB Ae (ops:=ops) (kO i WK) (pre.map g) (λx hx=>by
    obtain⟨y,hy,rfl⟩:=iF.1 hx;have fA:=vw y hy;have hyb:=(sc.1 fA.2);refine⟨awe listed i y WK fA.1 hyb.2 ba agh,kO y hyb.1,ops[y],hg y _ (by simp[hyb.1])⟩) ahM st ⟨a,w,L,h⟩ hf aO
   have hgi:=hg i o ho;refine r9 aB Ae ho hgi (kO i WK) h (hf.2 (g i) (by simp)) mv.1 λa' w' L' h'=>?_;refine ih (listed.setIfInBounds i true) (by simpa using hs) ?_ ?_ _ a' w' L' h' ?_ ?_ ?_
   ·rw[e2];rw[e1]at hfu;simp only[EN,Oq]at hfu⊢;omega
   ·intro j hj KW e he;by_cases hji:j=i
    ·subst hji;exact getD_set_true (agh e he)
    ·rw[getD_set_ne false (Ne.symm hji)]at KW;exact getD_set_true (ba j hj KW e he)
   ·rw[e2,Jv];have WH:g6 (g i)=true:=by have:=kO i WK;simp only[nA,mX]at this;exact this.1.2
    refine xo aB WH mv.1 (λy hy=>?_) ⟨hf.1,λy hy=>hf.2 y ?_⟩
    ·have awf:(i::(pre++post)).Nodup:=(List.perm_middle.nodup_iff).1 Af;have:=cj _ awf (λx hx=>HG x (by simp only[gm,oJ]at hx⊢;rcases hx with h|h|h<;>simp[h]))
     rw[rW,Jv]at this;exact uy this y hy
    ·simp only[oJ,gm]at hy⊢;rcases hy with h|h
     ·exact .inl h
     ·exact .inr (.inr h)
   ·rw[e2,Jv];exact mv.2.1
   ·rw[e2,Jv,mv.2.2];exact hQ
def yh:∀{rs:cu},gI rs=true->∀(i j:Nat) (x y:RO),i≠j->rs[i]? =some x->rs[j]? =some y->rZ x y=true
 |[],_,_,_,_,_,_,h,_=>by simp at h
 |r::rs,hd,i,j,x,y,hij,hx,hy=>by
  simp only[gI,mX,HH]at hd;cases i with
  |zero=>
   simp only[IS,cI]at hx;subst hx;cases j with
   |zero=>exact eK rfl hij
   |succ j=>exact hd.1 y (zK (by simpa using hy))
  |succ i=>
   cases j with
   |zero=>
    simp only[IS,cI]at hy;subst hy;exact Fb (hd.1 x (zK (by simpa using hx)))
   |succ j=>exact yh hd.2 i j x y (by omega) (by simpa using hx) (by simpa using hy)
def LK(aB:ay P Γ)(Ae:κ.Good P)(hm:P.follows .mixedOrders=true)(hc:ga P ops=some (rs.map bare))(aO:eR nt true rs=true){a:Act}{w:World}{L:Loc}(h:fB κ nt st a w L)
  (hf:lT aJ rs st) (cw:kD Γ aJ rs st) (hQ:∀a' w' L',fB κ nt (eH Γ aJ rs st) a' w' L'->Q .normal a' w'):(Code.region id ops true).wpIn (jU ro) n P Q a w:=by
 obtain⟨dQ,nZ⟩:=mY hc;simp only[eR,mX,ZcK,Bool.false_or]at aO;obtain⟨⟨eI,LH⟩,hp⟩:=aO;obtain⟨eG,amF⟩:=Fg hp
 let g:Nat->RO:=λi=>(rs[i]?).getD ⟨.Hr (.yF .undef),none,none,[],none⟩
 have gg:∀i,i<ops.size->rs[i]? =some (g i):=λi hi=>by
  have:i<rs.length:=by omega
  simp[g,this]
 have hgc:∀(i:Nat) (o:Oper),ops[i]? =some o->eP P ops o=some (bare (g i)):=λi o ho=>by
  obtain⟨r,h1,h2⟩:=nZ i o ho;have:g i=r:=by simp[g,h1]
  rw[this];exact h2
 have nR:rs=(List.range ops.size).map g:=by
  apply Zb3;intro i;by_cases hi:i<ops.size
  ·rw[gg i hi];simp[hi]
  ·rw[Zbt (by omega),Zbt (by simp;omega)]
 have Ru:rem ops.size (Array.replicate ops.size false)=List.range ops.size:=by
  unfold rem;rw[List.filter_eq_self.2];intro i hi;have:=IM.1 hi;simp[Oy,this]
 have hh:fB κ nt st a {w with drawn:=w.drawn+1} L:=by
  have hb:xQ w.heap.size w {w with drawn:=w.drawn+1}:=⟨⟨rfl,rfl,rfl,eF _,λ_ _=>rfl⟩,Zdy _⟩;obtain⟨W,base,M,w0,dW,h0⟩:=h.ex;obtain⟨hO,hA⟩:=cO.grow h0.o hb;obtain⟨Ds,h1,h2,h3,h4⟩:=h.defers;exact⟨⟨W,base,M,w0,dW,h0.size,λt=>aC.fP hA _ _ (h0.tmps t),hO⟩,h.fP.comp hA (dW.Jl _) dW.sub.2,⟨Ds,h1,h2,λD hD=>⟨hA.dP.VE D (h3 D hD).1,(h3 D hD).2⟩,h4⟩,h.bg,h.bU⟩
 refine wpIn_region_any hm (abj aB Ae (g:=g) hgc (λi hi=>HH.1 eI _ (zK (gg i hi))) (λl hl hb=>?_) (λlisted i x hi hx DE ba hd=>?_) (λi hi=>eG i (g i) (gg i hi)) ops.size _ (by simp) (by rw[Ru];simp) (λj hj KW=>?_) st a _ L hh
  (by rw[Ru,<-nR];exact hf) (by rw[Ru,<-nR];exact cw) (by rw[Ru,<-nR];exact hQ))
 ·clear cw hQ hf;induction l with
  |nil=>rfl
  |cons i l ih=>
   simp only[rW,gI,mX,HH];rw[ZcO]at hl;refine⟨λy hy=>?_,ih hl.2 λj hj=>hb j (by simp[hj])⟩;obtain⟨j,hj,rfl⟩:=iF.1 hy;exact yh LH i j _ _ (by rintro rfl;exact hl.1 hj) (gg i (hb i (by simp))) (gg j (hb j (by simp[hj])))
 ·rcases amF i x (g i) (g x) (gg i hi) hx (gg x (by omega))with h1|⟨m,C0,DD⟩
  ·exact h1
  ·exfalso;have:=Ju (rs:=rs) (listed:=listed) eG (λj y hj hy=>by
    have hjn:j<ops.size:=by have:=(DA.1 hy).1;omega
    have:y=g j:=by rw[gg j hjn]at hy;exact(Zca hy).symm
    rw[this];exact ba j hjn hj) i (g i) m x (gg i hi) C0 DD hd
   rw[Oy]at this DE;cases yf:listed[x]? with
   |none=>rw[yf]at this;simp at this
   |some b=>rw[yf]at this DE;simp at this DE;rw[this]at DE;cases DE
 ·rw[Oy]at KW;simp[hj]at KW
end
end
section
variable{id d1 d2:Nat}{iV:Bool}{rs:cu}{ops:Array Oper}{dL:mK}
variable [bK] [d8]
inductive DC where
 |skip
 |region (iV:Bool) (rs:cu)
 |fG (rs:cu)
 |seq (a b:DC)
 |cond (c:cg) (a b:DC)
 |block (id:Nat) (c:DC)
 |loop (c:DC)
 |exit (id:Nat)
 |ret
 |IT (g:cg) (ps:cY) (a b:DC)
 |Rc (x:cg) (d1 d2:Nat)
 |tp
def OQ(ops:Array Oper):Option (cg×Nat×Nat):=
 match ops.toList with
 |[a,b]=>match a.op,b.op,a.dst,b.dst,a.guard,b.guard with
  |.next x false,.extract (.tmp t) 0,some d1,some d2,none,none=>if t=d1 then(cg.of x).map λy=>(y,d1,d2)else none
  |_,_,_,_,_,_=>none
 |_=>none
def cD(P:Program)(nt:Nat):Code->DC
 |.skip=>.skip
 |.region _ ops iV=>match ga P ops with
  |some rs=>if eR nt iV rs then .region iV rs else if iV&&eR nt false rs then .fG rs else .tp
  |none=>if iV then .tp else match OQ ops with
   |some q=>if q.2.1<nt/\q.2.2<nt then .Rc q.1 q.2.1 q.2.2 else .tp
   |none=>.tp
 |.seq a b=>.seq (cD P nt a) (cD P nt b)
 |.cond c a b=>match cg.of c with
  |some x=>.cond x (cD P nt a) (cD P nt b)
  |none=>.tp
 |.block id c=>.block id (cD P nt c)
 |.loop c=>.loop (cD P nt c)
 |.exit id=>.exit id
 |.ret=>.ret
 |.rangeFunc g ps a b=>match cg.of g with
  |some x=>if ps.toList.all (·<nt)then .IT x ps.toList (cD P nt a) (cD P nt b)else .tp
  |none=>.tp
 |_=>.tp
section
variable{P:Program}{nt:Nat}{c:Code}
def WL(h:cD P nt c=.skip):c=.skip:=by
 cases c<;>simp only[cD]at h<;>first|rfl|cases h|(repeat' split at h)<;>cases h
def abk(h:cD P nt c=.ret):c=.ret:=by
 cases c<;>simp only[cD]at h<;>first|rfl|cases h|(repeat' split at h)<;>cases h
def Pb{x:cg}{ps:cY}{a b:DC}(h:cD P nt c=.IT x ps a b):∃g qs y z,c=.rangeFunc g qs y z/\cg.of g=some x/\qs.toList=ps/\(∀p∈ps,p<nt)/\cD P nt y=a/\cD P nt z=b:=by
 cases c<;>simp only[cD]at h<;>first|(cases h;done)|skip
 ·(repeat' split at h)<;>cases h
 ·split at h<;>cases h
 ·split at h
  ·rename_i hx;split at h
   ·rename_i hp;cases h;exact⟨_,_,_,_,rfl,hx,rfl,λp hp'=>by have:=HH.1 hp p hp';simpa using this,rfl,rfl⟩
   ·cases h
  ·cases h
def WM(h:cD P nt c=.exit id):c=.exit id:=by
 cases c<;>simp only[cD]at h<;>first|(cases h;rfl)|cases h|(repeat' split at h)<;>cases h
def abl{a b:DC}(h:cD P nt c=.seq a b):∃x y,c=.seq x y/\cD P nt x=a/\cD P nt y=b:=by
 cases c<;>simp only[cD]at h<;>first|(cases h;exact⟨_,_,rfl,rfl,rfl⟩)|cases h|(repeat' split at h)<;>cases h
def WN{x:cg}{a b:DC}(h:cD P nt c=.cond x a b):∃x' y z,c=.cond x' y z/\cg.of x'=some x/\cD P nt y=a/\cD P nt z=b:=by
 cases c<;>simp only[cD]at h<;>first|(cases h;done)|skip
 ·(repeat' split at h)<;>cases h
 ·split at h
  ·rename_i hx;cases h;exact⟨_,_,_,rfl,hx,rfl,rfl⟩
  ·cases h
 ·(repeat' split at h)<;>cases h
def T0{a:DC}(h:cD P nt c=.block id a):∃x,c=.block id x/\cD P nt x=a:=by
 cases c<;>simp only[cD]at h<;>first|(cases h;exact⟨_,rfl,rfl⟩)|cases h|(repeat' split at h)<;>cases h
def WO{a:DC}(h:cD P nt c=.loop a):∃x,c=.loop x/\cD P nt x=a:=by
 cases c<;>simp only[cD]at h<;>first|(cases h;exact⟨_,rfl,rfl⟩)|cases h|(repeat' split at h)<;>cases h
def qH(h:cD P nt c=.region iV rs):∃id ops,c=.region id ops iV/\ga P ops=some rs/\eR nt iV rs=true:=by
 cases c<;>simp only[cD]at h<;>first|(cases h;done)|skip
 case region id ops dr=>
  split at h
  ·rename_i nR;split at h
   ·rename_i aO;cases h;exact⟨_,_,rfl,nR,aO⟩
   ·split at h<;>cases h
  ·(repeat' split at h)<;>cases h
 case cond=>split at h<;>cases h
 case rangeFunc=>(repeat' split at h)<;>cases h
def LL(h:cD P nt c=.fG rs):∃id ops,c=.region id ops true/\ga P ops=some rs:=by
 cases c<;>simp only[cD]at h<;>first|(cases h;done)|skip
 case region id ops dr=>
  split at h
  ·rename_i nR;split at h
   ·cases h
   ·split at h
    ·rename_i hd;cases h;simp only[mX]at hd;exact⟨_,_,by rw[hd.1],nR⟩
    ·cases h
  ·(repeat' split at h)<;>cases h
 case cond=>split at h<;>cases h
 case rangeFunc=>(repeat' split at h)<;>cases h
end
def T1{P:Program}{nt:Nat}{c:Code}{x:cg}(h:cD P nt c=.Rc x d1 d2):∃id o1 o2 y,c=.region id #[o1,o2] false/\o1.op=.next y false/\cg.of y=some x/\o1.dst=some d1/\o1.guard=none/\o2.op=.extract (.tmp d1) 0/\o2.dst=some d2/\o2.guard=none/\d1<nt/\d2<nt:=by
 cases c<;>simp only[cD]at h<;>first|(cases h;done)|skip
 case region id ops dr=>
  split at h
  ·split at h
   ·cases h
   ·split at h<;>cases h
  ·split at h
   ·cases h
   ·rename_i Lo;have Lo:dr=false:=by simpa using Lo
    subst Lo;split at h
    ·rename_i q hq;split at h
     ·rename_i eG;cases h;unfold OQ at hq;split at hq
      ·rename_i o1 o2 ahN;split at hq
       ·rename_i y t e1 e2 h1 h2 h3 h4 h5 h6;split at hq
        ·rename_i hte;subst hte;simp only[jr]at hq;obtain⟨z,hz,rfl⟩:=hq;exact⟨id,o1,o2,y,by rw[show ops= #[o1,o2]by rw[<-Array.toArray_toList (xs:=ops),ahN]],h1,hz,h3,h5,h2,h4,h6,eG.1,eG.2⟩
        ·cases hq
       ·cases hq
      ·cases hq
     ·cases h
    ·cases h
 case cond=>split at h<;>cases h
 case rangeFunc=>(repeat' split at h)<;>cases h
def G9{P:Program}{o:Oper}{d:tZ}(h:dS P o=some d):CV d=d:=by
 cases d<;>first|rfl|skip
 case mkSliceB=>exact(ahH h).elim
 case callS=>
  obtain⟨c,_,hc⟩:=gk h (.inr (.inl ⟨_,_,rfl⟩));exfalso;unfold fk at hc;repeat' split at hc
  all_goals first
   |(cases hc;done)
   |(simp only[jr,mF,lp,kb,cI,reduceCtorEq,xk,xl]at hc;done)
 case callF=>
  obtain⟨c,_,hc⟩:=gk h (.inr (.inr (.inr (.inl ⟨_,_,rfl⟩))));exfalso;unfold fk at hc;repeat' split at hc
  all_goals first
   |(cases hc;done)
   |(simp only[jr,mF,lp,kb,cI,reduceCtorEq,xk,xl]at hc;done)
 case callR=>
  obtain⟨c,_,hc⟩:=gk h (.inr (.inr (.inr (.inr ⟨_,_,rfl⟩))));exfalso;unfold fk at hc;repeat' split at hc
  all_goals first
   |(cases hc;done)
   |(simp only[jr,mF,lp,kb,cI,reduceCtorEq,xk,xl]at hc;done)
def Fh{P:Program}{o:Oper}{r:RO}(h:eP P ops o=some r):bare r=r:=by
 simp only[eP,mF,lp,kb,cI]at h;obtain⟨d,hd,g,hg,rfl⟩:=h;simp only[bare,G9 hd]
def vo{P:Program}(h:ga P ops=some rs):rs.map bare=rs:=by
 unfold ga at h;have key:∀(l:List Oper) (rs:cu),l.mapM (eP P ops)=some rs->rs.map bare=rs:=by
  intro l;induction l with
  |nil=>intro rs h;simp at h;subst h;rfl
  |cons o l ih=>
   intro rs h;simp only[KS,mF,lp,kb,cI]at h;obtain⟨r,hr,rs',nR,rfl⟩:=h;simp only[rW,Fh hr,ih rs' nR]
 exact key _ _ h
def fl:cu->List (Option (cY))->cu
 |r::rs,t::ts=>⟨r.d,r.dst,r.guard,r.after,t⟩::fl rs ts
 |rs,_=>rs
structure Jw(κ:qC)(nt:Nat)(st:mK)(a:Act)(w:World)(L:Loc):Prop where
 r:fB κ nt ⟨st.tmps,st.ab,st.todo⟩ a w L
 fresh:∀r,st.aJ<=r->st.ab r=none
 low:∀r,st.low<=r->κ.go r=none
 it:κ.J.isSome=true->st.low=0
def Sat(P:Program)(nt:Nat)(c:Code)(Q:Exit->mK->Prop)(st:mK):Prop:=
 ∀(n:Nat) (κ:qC) (a:Act) (w:World) (L:Loc),κ.Good P->Jw κ nt st a w L->
  c.wpIn (jU κ.ro) n P (λe a' w'=>∃dL L',Q e dL/\Jw κ nt dL a' w' L') a w
structure aa(P:Program)(nt:Nat)(d:DC)(Q:Exit->mK->Prop)(st:mK):Prop where
 run:∀c,cD P nt c=d->Sat P nt c Q st
def Le(st dL:mK):Prop:=∀(κ:qC) (nt:Nat) (a:Act) (w:World) (L:Loc),Jw κ nt st a w L->∃L',Jw κ nt dL a w L'
def Le.refl(st:mK):Le st st:=λ_ _ _ _ L h=>⟨L,h⟩
def Le.trans{a b c:mK}(h:Le a b)(k:Le b c):Le a c:=λ_ _ _ _ L r=>let⟨_,r'⟩:=h _ _ _ _ L r;k _ _ _ _ _ r'
section
variable{P:Program}{nt:Nat}{Γ:pW}{Q:Exit->mK->Prop}{st:mK}
def Sat.le{c:Code}(h:Le st dL)(k:Sat P nt c Q dL):Sat P nt c Q st:=λn κ a w L g r=>let⟨L',r'⟩:=h _ _ _ _ L r;k n κ a w L' g r'
def aa.le{d:DC}(h:Le st dL)(k:aa P nt d Q dL):aa P nt d Q st:=⟨λc hc=>Sat.le h (k.run c hc)⟩
def aa.Ai{d:DC}{Q':Exit->mK->Prop}(h:aa P nt d Q st)(hq:∀e st,Q e st->∃st2,Le st st2/\Q' e st2):aa P nt d Q' st:=
 ⟨λc hc n κ a w L g r=>wpIn_mono (h.run c hc n κ a w L g r) λ_ _ _ ⟨_,L',q,r'⟩=>let⟨st2,hl,q2⟩:=hq _ _ q;let⟨L2,r2⟩:=hl _ _ _ _ L' r';⟨st2,L2,q2,r2⟩⟩
def aa.skip(h:Q .normal st):aa P nt .skip Q st:=by
 refine⟨λc hc=>?_⟩;obtain rfl:=WL hc;exact λn κ a w L g r=>wpIn_skip ⟨st,L,h,r⟩
def aa.exit(h:Q (.exit id) st):aa P nt (.exit id) Q st:=by
 refine⟨λc hc=>?_⟩;obtain rfl:=WM hc;exact λn κ a w L g r=>wpIn_exit ⟨st,L,h,r⟩
def aa.ret(h:Q .ret st):aa P nt .ret Q st:=by
 refine⟨λc hc=>?_⟩;obtain rfl:=abk hc;exact λn κ a w L g r=>wpIn_ret ⟨st,L,h,r⟩
def LM(k:mK->Prop)(Q:Exit->mK->Prop):Exit->mK->Prop
 |.normal,st=>k st
 |e,st=>Q e st
def aa.seq{a b:DC}(h:aa P nt a (LM (aa P nt b Q) Q) st):aa P nt (.seq a b) Q st:=by
 refine⟨λc hc=>?_⟩;obtain⟨a',b',rfl,ha,hb⟩:=abl hc;intro n κ VL w L g r;refine wpIn_seq (wpIn_mono (h.run _ ha n κ VL w L g r) ?_);rintro e a' w' ⟨dL,L',q,r'⟩;cases e with
 |normal=>exact q.run _ hb n κ a' w' L' g r'
 |_=>exact⟨dL,L',q,r'⟩
def aa.cond{x:cg}{a b:DC}{t:Bool}(hx:x.ev st.tmps=.v (.bool t))(ht:t=true->aa P nt a Q st)(hf:t=false->aa P nt b Q st):aa P nt (.cond x a b) Q st:=by
 refine⟨λc hc=>?_⟩;obtain⟨x',a',b',rfl,nK,ha,hb⟩:=WN hc;intro n κ VL w L g r;obtain⟨W,base,M,w0,dW,h0⟩:=r.r.ex;have:=cg.ch h0.o.gl h0.tmps nK;rw[hx]at this;simp only[aC,bw]at this;cases t with
 |true=>exact wpIn_cond_true this ((ht rfl).run _ ha n κ VL w L g r)
 |false=>exact wpIn_cond_false this ((hf rfl).run _ hb n κ VL w L g r)
def Jx(id:Nat)(Q:Exit->mK->Prop):Exit->mK->Prop
 |.exit id',st=>if id'=id then Q .normal st else Q (.exit id') st
 |e,st=>Q e st
def aa.block{a:DC}(h:aa P nt a (Jx id Q) st):aa P nt (.block id a) Q st:=by
 refine⟨λc hc=>?_⟩;obtain⟨a',rfl,ha⟩:=T0 hc;intro n κ VL w L g r;refine wpIn_block (wpIn_mono (h.run _ ha n κ VL w L g r) ?_);rintro e a' w' ⟨dL,L',q,r'⟩;cases e with
 |exit id'=>
  simp only[Jx]at q;simp only[Exit.inBlock];split at q
  ·rename_i h;rw[cG h];exact⟨dL,L',q,r'⟩
  ·rename_i h;rw[bj h];exact⟨dL,L',q,r'⟩
 |_=>exact⟨dL,L',q,r'⟩
def aa.loop{α:Type}{body:DC}(R:α->mK)(I:α->Prop)(μ:α->Nat)(x:α)(h0:Le st (R x))(hI:I x)
  (round:∀y,I y->aa P nt body (LM (λdL=>∃z,Le dL (R z)/\I z/\μ z<μ y) Q) (R y)):aa P nt (.loop body) Q st:=by
 refine⟨λc hc=>?_⟩;obtain⟨a',rfl,ha'⟩:=WO hc;intro n κ VL w L g r;obtain⟨L0,r0⟩:=h0 _ _ _ _ L r;refine wpIn_loop_ghost (λk a w=>∃y L,μ y=k/\I y/\Jw κ nt (R y) a w L) (μ x) ⟨x,L0,rfl,hI,r0⟩ ?_;rintro k a w ⟨y,L,rfl,hy,hr⟩;refine wpIn_mono ((round y hy).run _ ha' n κ a w L g hr) ?_;rintro e a' w' ⟨dL,L',q,r'⟩;cases e with
 |normal=>
  obtain⟨z,kw,hz,eG⟩:=q;obtain⟨L2,r2⟩:=kw _ _ _ _ L' r';exact⟨μ z,eG,z,L2,rfl,hz,r2⟩
 |_=>exact⟨dL,L',q,r'⟩
def Aj(aB:ay P Γ){aJ:Nat}:∀(rs:cu),rs.all (nA nt)=true->∀(st:RS),kD Γ aJ rs st->∀t,aJ+nt+1<=t->st.ab t=none->(eH Γ aJ rs st).ab t=none
 |[],_,st,_,t,_,h=>h
 |r::rs,eI,st,aO,t,ht,h=>by
  simp only[ZcZ,mX]at eI;simp only[kD]at aO;refine Aj aB rs eI.2 _ aO.2 t ht (BN aB aO.1 h λhl e=>?_);have hr:=eI.1;simp only[nA,mX]at hr;have hs:r.dst.isSome=true:=by simpa [g6,hl]using hr.1.2
  obtain⟨d,hd⟩:=ZbB.1 hs;have eG:d<nt:=by have:=hr.2;rw[hd]at this;simpa using this
  simp only[nm,b8,hd]at e;omega
def uA(aB:ay P Γ)(hm:P.follows .mixedOrders=true)(nR:ga P ops=some (rs.map bare))(aO:eR nt iV rs=true)
  (cw:kD Γ st.aJ rs ⟨st.tmps,st.ab,st.todo⟩) (hQ:Q .normal ⟨(eH Γ st.aJ rs ⟨st.tmps,st.ab,st.todo⟩).tmps,(eH Γ st.aJ rs ⟨st.tmps,st.ab,st.todo⟩).ab,st.aJ+nt+1,st.low,(eH Γ st.aJ rs ⟨st.tmps,st.ab,st.todo⟩).todo⟩):
  Sat P nt (.region id ops iV) Q st:=by
 intro n κ VL w L g r;have fF:∀x∈rs,∃k,nm st.aJ x=st.aJ+k:=λx _=>by
  unfold nm b8;cases x.dst with
  |none=>exact⟨0,rfl⟩
  |some d=>exact⟨d+1,by simp only[fQ]⟩
 have hf:lT st.aJ rs ⟨st.tmps,st.ab,st.todo⟩:=⟨r.fresh _ (eF _),λx hx=>by
  obtain⟨k,hk⟩:=fF x hx;rw[hk];exact r.fresh _ (by omega)⟩
 have bU:∀a' w' L',fB κ nt (eH Γ st.aJ rs ⟨st.tmps,st.ab,st.todo⟩) a' w' L'->∃dL L',Q .normal dL/\Jw κ nt dL a' w' L':=by
  intro a' w' L' r';refine⟨_,L',hQ,r', ?_,r.low,r.it⟩;have eI:rs.all (nA nt)=true:=by simp only[eR,mX]at aO;exact aO.1.1
  intro t ht;exact Aj aB rs eI _ cw t ht (r.fresh t (by simp only at ht;omega))
 cases iV with
 |false=>exact LI aB g nR aO r.r hf cw bU
 |true=>exact LK aB g hm nR aO r.r hf cw bU
def aa.region(aB:ay P Γ)(hm:P.follows .mixedOrders=true)(cw:kD Γ st.aJ rs ⟨st.tmps,st.ab,st.todo⟩)(hQ:Q .normal ⟨(eH Γ st.aJ rs ⟨st.tmps,st.ab,st.todo⟩).tmps,(eH Γ st.aJ rs ⟨st.tmps,st.ab,st.todo⟩).ab,st.aJ+nt+1,st.low,(eH Γ st.aJ rs ⟨st.tmps,st.ab,st.todo⟩).todo⟩):
  aa P nt (.region iV rs) Q st:=by
 refine⟨λc hc=>?_⟩;obtain⟨id,ops,rfl,nR,aO⟩:=qH hc;exact uA aB hm (by rw[vo nR];exact nR) aO cw hQ
def aa.abm(aB:ay P Γ)(hm:P.follows .mixedOrders=true){d:DC}(hd:d=.fG (rs.map bare)\/∃iV,d=.region iV (rs.map bare))(aO:eR nt true rs=true)
  (cw:kD Γ st.aJ rs ⟨st.tmps,st.ab,st.todo⟩) (hQ:Q .normal ⟨(eH Γ st.aJ rs ⟨st.tmps,st.ab,st.todo⟩).tmps,(eH Γ st.aJ rs ⟨st.tmps,st.ab,st.todo⟩).ab,st.aJ+nt+1,st.low,(eH Γ st.aJ rs ⟨st.tmps,st.ab,st.todo⟩).todo⟩):
  aa P nt d Q st:=by
 refine⟨λc hc=>?_⟩;rcases hd with rfl|⟨iV,rfl⟩
 ·obtain⟨id,ops,rfl,nR⟩:=LL hc;exact uA aB hm nR aO cw hQ
 ·obtain⟨id,ops,rfl,nR,ahF⟩:=qH hc;refine uA aB hm nR ?_ cw hQ;cases iV with
  |true=>exact aO
  |false=>simp only[eR,mX]at aO⊢;exact⟨aO.1,rfl⟩
def aa.next{x:cg}{r m s l c:Nat}{sn:cY}{cL:List Sh}{agg:Bool}{es:List (Nat×T×DV)}(hx:x.ev st.tmps=.cX r)(hr:st.ab r=some (.cX m s sn l))(hm:st.ab m=some (.map cL agg c es))(eG:∀e∈es,e.1<s)(hl:s<=l)
  (WP:(∀e∈es,e.1∈sn)->Q .normal ⟨dg (dg st.tmps (some d1) .undef) (some d2) (.v (.bool false)),st.ab,st.aJ,st.low,st.todo⟩)
  (Ws:∀e∈es,e.1∉sn->Q .normal ⟨dg (dg st.tmps (some d1) .undef) (some d2) (.v (.bool true)),cV st.ab (some (r,.cX m s (sn++[e.1]) c)),st.aJ,st.low,st.todo⟩):
  aa P nt (.Rc x d1 d2) Q st:=by
 refine⟨λcc hc=>?_⟩;obtain⟨id,o1,o2,y,rfl,h1,hy,h2,h3,h4,h5,h6,TW,hd2⟩:=T1 hc;intro n κ a w L g r0;refine wpIn_region ?_;have hR:=r0.r;obtain⟨W,base,M,w0,dW,h0⟩:=hR.ex;have G3:=cg.ch h0.o.gl h0.tmps hy;rw[hx]at G3;simp only[aC]at G3;obtain⟨_,Ro⟩:=G3;have bU:∀{b:Bool} {aI:bF} {v:Value} {w':World},cO base W M w0 aI w' L->iH W st.ab L w aI L w'->(∃N,∀r,N<=r->aI r=none)->(∀t,st.ab t=none->aI t=none)->(∃rest:List Value,v=.tuple (Value.bool b::rest).toArray)->(execOp a.eval o1).run P w=.ok (.value v) w'->
   Q .normal ⟨dg (dg st.tmps (some d1) .undef) (some d2) (.v (.bool b)),aI,st.aJ,st.low,st.todo⟩->
   wpOpsIn (jU κ.ro) n P #[o1,o2] (λe a' w'=>∃dL L',Q e dL/\Jw κ nt dL a' w' L') (List.range 2) a w:=by
  intro b aI v w' hO hA lN nL hv cw hQ;obtain⟨rest,rfl⟩:=hv;show wpOpsIn (jU κ.ro) n P #[o1,o2] _ [0,1] a w;rw[wpOpsIn_cons,wpOpIn];simp only[show(#[o1,o2]:Array Oper)[0]? =some o1 from rfl,Region.wanted,h3,km];refine⟨nW o1 w _, ?_⟩;rw[show(jU κ.ro).round=κ.ro from rfl,Oper.semAt_eq κ.ro _ o1 (λc hc=>by rw[h1]at hc;cases hc),cw,Oper.uponIn_value,h2];have R1:fB κ nt ⟨dg st.tmps (some d1) .undef,aI,st.todo⟩ (a.put (some d1) (.tuple (Value.bool b::rest).toArray)) w' L:=fB.put hR dW h0 (some d1) (λd hd=>by cases hd;exact TW) hO hA (by simp[aC]) lN;rw[wpOpsIn_cons,wpOpIn];simp only[show(#[o1,o2]:Array Oper)[1]? =some o2 from rfl,Region.wanted,h6,km];refine⟨nW o2 w' _, ?_⟩;have hev:(a.put (some d1) (.tuple (Value.bool b::rest).toArray)).eval (.tmp d1)=.tuple (Value.bool b::rest).toArray:=by
   simp only[Act.put,Act.eval];rw[E4 _ _ _ _ (by rw[h0.size];exact TW)];simp
  have Rv:(execOp (a.put (some d1) (.tuple (Value.bool b::rest).toArray)).eval o2).run P w'=.ok (.value (.bool b)) w':=by
   simp[execOp,h4,hev,Instr.extract]
  rw[show(jU κ.ro).round=κ.ro from rfl,Oper.semAt_eq κ.ro _ o2 (λc hc=>by rw[h4]at hc;cases hc),Rv,Oper.uponIn_value,h5];obtain⟨W2,amG,M2,w02,WQ,h02⟩:=R1.ex;have R2:=fB.put R1 WQ h02 (some d2) (λd hd=>by cases hd;exact hd2) (v:=.v (.bool b)) (x:=.bool b) h02.o (iH.dc (dJ.refl _ _)) (by simp[aC,bw]) lN;exact⟨_,L,hQ,R2,λt ht=>nL t (r0.fresh t ht),r0.low,r0.it⟩
 rcases Pc (P:=P) h0.o hr hm eG hl o1.type with⟨eI,cw⟩|⟨e,he,hn,k,v,w',cw,hO,hA⟩
 ·refine bU (b:=false) h0.o (iH.dc (dJ.refl _ _)) hR.bU (λt h=>h) ⟨[],rfl⟩ ?_ (WP eI);simp[execOp,h1,Ro,cw]
 ·refine bU (b:=true) hO hA ?_ ?_ ⟨[k,v],rfl⟩ ?_ (Ws e he hn)
  ·obtain⟨N,hN⟩:=hR.bU;refine⟨max N (r+1),λr' g0=>?_⟩;simp only[cV];rw[bj (by omega)];exact hN r' (by omega)
  ·intro t ht;simp only[cV];rw[bj (λe=>by rw[e,hr]at ht;cases ht)];exact ht
  ·simp[execOp,h1,Ro,cw]
end
end
abbrev t(n:Nat):cg:=.tmp n
abbrev i(n:Int):cg:=.yF (.v (.int .i64 n))
abbrev o(d:tZ)(r:Nat)(af:cY):RO:=⟨d,some r,none,af,none⟩
abbrev s(d:tZ)(af:cY):RO:=⟨d,none,none,af,none⟩
abbrev g(d:tZ)(r b:Nat)(w:Bool)(af:cY):RO:=⟨d,some r,some (b,w),af,none⟩
abbrev m(a r:Nat)(af:cY):RO:=⟨.Hr (.tmp a),some r,none,af,none⟩
abbrev n(a r:Nat):RO:=⟨.Hr (.tmp a),some r,none,[],none⟩
abbrev l(a r:Nat)(af:cY):RO:=⟨.load 1 false (.tmp a),some r,none,af,none⟩
abbrev L(k a r:Nat)(af:cY):RO:=⟨.load k true (.tmp a),some r,none,af,none⟩
abbrev a(k b r:Nat)(af:cY):RO:=⟨.addOff k (.tmp b),some r,none,af,none⟩
abbrev b(op:BinOp)(x y r:Nat)(af:cY):RO:=⟨.bin op (.tmp x) (.tmp y),some r,none,af,none⟩
abbrev c(x r:Nat)(af:cY):RO:=⟨.nilCheck (.tmp x),some r,none,af,none⟩
abbrev e(k x r:Nat)(af:cY):RO:=⟨.extract k (.tmp x),some r,none,af,none⟩
abbrev x(k y z r:Nat)(af:cY):RO:=⟨.idxAddr k (.tmp y) (.tmp z),some r,none,af,none⟩
abbrev S(k y z:Nat)(af:cY):RO:=⟨.store k (.tmp y) (.tmp z),none,none,af,none⟩
abbrev p(u v r:Nat)(af:cY):RO:=⟨.pick (.tmp u) (.yF (.v (.bool true))) (.tmp v),some r,none,af,none⟩
abbrev q(u v r:Nat)(af:cY):RO:=⟨.pick (.tmp u) (.tmp v) (.yF (.v (.bool false))),some r,none,af,none⟩
abbrev u(k y r b:Nat)(w:Bool)(af:cY):RO:=⟨.addOff k (.tmp y),some r,some (b,w),af,none⟩
abbrev v(y r b:Nat)(w:Bool)(af:cY):RO:=⟨.load 1 false (.tmp y),some r,some (b,w),af,none⟩
abbrev w(y r b:Nat)(w:Bool)(af:cY):RO:=⟨.Hr (.tmp y),some r,some (b,w),af,none⟩
abbrev y(l:cu):DC:=.region false l
abbrev Y(l:cu):DC:=.region true l
abbrev j(a b:DC):DC:=.seq a b
abbrev F(r:Nat):RO:=⟨.Hr (.yF (.v (.bool false))),some r,none,[],none⟩
abbrev R(r:Nat):RO:=⟨.Hr (.yF (.v (.bool true))),some r,none,[],none⟩
abbrev I(k:Int)(r:Nat):RO:=⟨.Hr (.yF (.v (.int .i64 k))),some r,none,[],none⟩
abbrev Z(r:Nat):RO:=⟨.Hr (.yF .bH),some r,none,[],none⟩
abbrev B(k r:Nat):RO:=⟨.box (.tmp k),some r,none,[],none⟩
abbrev N(k r:Nat)(af:cY):RO:=⟨.len (.tmp k),some r,none,af,none⟩
abbrev U(k r:Nat)(af:cY):RO:=⟨.un .not (.tmp k),some r,none,af,none⟩
abbrev C(op:BinOp)(x:Nat)(k:Int)(r:Nat)(af:cY):RO:=⟨.bin op (.tmp x) (.yF (.v (.int .i64 k))),some r,none,af,none⟩
abbrev D(op:BinOp)(x y r b:Nat)(w:Bool)(af:cY):RO:=⟨.bin op (.tmp x) (.tmp y),some r,some (b,w),af,none⟩
abbrev E(op:BinOp)(x:Nat)(k:Int)(r b:Nat)(w:Bool)(af:cY):RO:=⟨.bin op (.tmp x) (.yF (.v (.int .i64 k))),some r,some (b,w),af,none⟩
abbrev H(x r b:Nat)(w:Bool)(af:cY):RO:=⟨.len (.tmp x),some r,some (b,w),af,none⟩
abbrev K(x r b:Nat)(w:Bool)(af:cY):RO:=⟨.un .not (.tmp x),some r,some (b,w),af,none⟩
abbrev V(k:Int):DV:=.v (.int .i64 k)
abbrev k(l:cY)(k:Nat):cY:=l++List.range (k+1)
attribute [simp] t i o s g m n l L a b c e x S p q u v w y Y j F R I Z B N U C D E H K V
section
variable{base nt:Nat}{W M W':f9}{w0:World}{st:mK}{gQ:Bool}{f:FuncId}{d:DC}{cT:Array Value}
variable [bK] [d8]
inductive dF where
 |kT (t:Nat)
 |cell (a n:Nat) (agg:Bool)
def oK(P:Program):ResultVar->Option dF
 |.tmp t=>some (.kT t)
 |.cell a t=>match P.underlying t,P.info? t with
  |some d,some i=>some (.cell a i.size (cE d))
  |_,_=>none
def dF.pM(st:mK):dF->tq
 |.kT t=>⟨True,st.tmps t,none⟩
 |.cell a n agg=>jH n agg st.ab (st.tmps a)
def lq(gQ:Bool)(st:mK):List dF->Prop
 |[]=>True
 |r::rs=>((r.pM st).ok/\GX gQ st.ab (r.pM st).val)/\lq gQ st rs
def oR(st:mK)(rs:List dF):aK:=rs.map λr=>vu st.ab (r.pM st).val
def WR(rs:List dF)(t:T)(st:mK):Prop:=
 lq true st rs/\t=(match oR st rs with|[x]=>x|ts=>.eE ts)
def qI(rs:List dF)(r:gC)(st:mK):Prop:=
 lq false st rs/\st.ab=r.ab/\r.val=.v (match oR st rs with|[x]=>x|ts=>.eE ts)
def Pd:Option T->DV
 |some t=>.v t
 |none=>.skip
def sP(ts:aK):mK:=⟨λk=>Pd ts[k]?,λ_=>none,1000,1000,[]⟩
def DI:Option DV->DV
 |some d=>d
 |none=>.skip
def yi(args:bM)(ab:bF)(N:Nat):mK:=⟨λk=>DI args[k]?,ab,N,N,[]⟩
def Pe(rs:List dF)(t:T):Exit->mK->Prop
 |.normal,st|.ret,st=>WR rs t st
 |_,_=>False
def BQ(rs:List dF)(r:gC):Exit->mK->Prop
 |.normal,st|.ret,st=>qI rs r st
 |_,_=>False
section
variable{P:Program}
def abn{w:World}{a:Act}{L:Loc}(h:R0 base W M w0 nt st.tmps st.ab a w L)(hW:gQ=true->∀r o b,st.ab r=some o->L.own r o=some b->¬W' b)(TM:∀b,W' b->WW W st.ab L b){rv:ResultVar}{r:dF}(hr:oK P rv=some r)(aO:(r.pM st).ok/\GX gQ st.ab (r.pM st).val):
  ∃v,((match rv with|.tmp t=>pure (a.tmps.getD t Go.undef)|.cell b t=>do loadVar t (<-asAddr (a.tmps.getD b Go.undef))):Sem Value).run P w=.ok v w/\bw w W' (vu st.ab (r.pM st).val) v:=by
 have bU:∀{d:DV} {x:Value},aC w W st.ab L d x->GX gQ st.ab d->bw w W' (vu st.ab d) x:=λhd hk=>
  (z8 (gQ:=gQ) W' h.o hW TM).1 _ _ hd hk
 cases rv with
 |tmp t=>
  simp only[oK,cI]at hr;subst hr;exact⟨_,rfl,bU (h.tmps t) aO.2⟩
 |cell b t=>
  simp only[oK]at hr;split at hr
  ·rename_i d i hd hi;simp only[cI]at hr;subst hr;simp only[dF.pM]at aO;obtain⟨hp,v,cw,hv⟩:=yK h.o hd hi (h.tmps b) aO.1;refine⟨v, ?_,bU hv aO.2⟩;have hpt:∃p,a.tmps.getD b Go.undef=.pointer (some p):=by
    have hx:=h.tmps b;have ho:=aO.1;cases hq:st.tmps b with
    |ptr r off=>rw[hq]at hx;simp only[aC]at hx;exact⟨_,hx.2⟩
    |nz aw j off=>rw[hq]at hx;simp only[aC]at hx;obtain⟨_,_,_,hx,_⟩:=hx;exact⟨_,hx⟩
    |kP cs off=>rw[hq]at hx;simp only[aC]at hx;obtain⟨_,_,hx,_⟩:=hx;exact⟨_,hx⟩
    |ln r bP j off=>rw[hq]at hx;simp only[aC]at hx;obtain⟨⟨_,_,hx⟩,_⟩:=hx;exact⟨_,hx⟩
    |v t'=>
     rw[hq]at hx ho;cases t' with
     |box cs=>simp only[aC,bw]at hx;obtain⟨_,_,hx,_⟩:=hx;exact⟨_,hx⟩
     |_=>exact ho.elim
    |_=>rw[hq]at ho;exact ho.elim
   obtain⟨p,hp⟩:=hpt;show Sem.run P (do loadVar t (<-asAddr (a.tmps.getD b Go.undef))) w=_;rw[hp]at cw⊢;simpa [Instr.loadAt,Instr.sureAddr,asAddr]using cw
  ·cases hr
def Rw{base:Nat}{W M:f9}{w0 w:World}{nt:Nat}{st:mK}{a:Act}{L:Loc}(h:R0 base W M w0 nt st.tmps st.ab a w L){gQ:Bool}{W':f9}(hW:gQ=true->∀r o b,st.ab r=some o->L.own r o=some b->¬W' b)(TM:∀b,W' b->WW W st.ab L b):∀{rvs:List ResultVar} {rs:List dF},rvs.mapM (oK P)=some rs->lq gQ st rs->
  ∃vs,(rvs.mapM (λrv=>((match rv with|.tmp t=>pure (a.tmps.getD t Go.undef)|.cell b t=>do loadVar t (<-asAddr (a.tmps.getD b Go.undef))):Sem Value))).run P w=.ok vs w/\gH w W' (oR st rs) vs
 |[],rs,hr,_=>by simp at hr;subst hr;exact⟨[],by simp,by simp[oR,gH]⟩
 |rv::rvs,rs,hr,aO=>by
  simp only[KS,mF,lp,kb,cI]at hr;obtain⟨r,tg,rs',nR,rfl⟩:=hr;simp only[lq]at aO;obtain⟨v,h1,h2⟩:=abn h hW TM tg aO.1;obtain⟨vs,h3,h4⟩:=Rw h hW TM nR aO.2;refine⟨v::vs, ?_, ?_⟩
  ·rw[KS];simp only[Sem.run_bind,h1,Result.andThen_ok,h3,Sem.run_pure]
  ·simp only[oR,rW,gH];exact⟨v,vs,rfl,h2,h4⟩
def wv{w:World}{a:Act}{L:Loc}(h:R0 base W M w0 nt st.tmps st.ab a w L)(hW:gQ=true->∀r o b,st.ab r=some o->L.own r o=some b->¬W' b)(TM:∀b,W' b->WW W st.ab L b){fn:Func}{rs:List dF}(hr:fn.results.toList.mapM (oK P)=some rs){t:T}(aO:lq gQ st rs/\t=(match oR st rs with|[x]=>x|ts=>.eE ts)):
  ∃v,(results fn a.tmps).run P w=.ok v w/\bw w W' t v:=by
 obtain⟨h1,rfl⟩:=aO;obtain⟨vs,h2,h3⟩:=Rw h hW TM hr h1;have hm:(fn.results.mapM (λrv=>((match rv with|.tmp t=>pure (a.tmps.getD t Go.undef)|.cell b t=>do loadVar t (<-asAddr (a.tmps.getD b Go.undef))):Sem Value))).run P w=.ok vs.toArray w:=by
  rw[ZcP];simp only[Sem.run_map,h2,Result.andThen_ok]
 have hl:vs.length=(oR st rs).length:=gH.length h3;refine⟨if h:vs.toArray.size=1 then vs.toArray[0]else .tuple vs.toArray, ?_, ?_⟩
 ·have xR:(results fn a.tmps)=(do
   let vs<-fn.results.mapM (λrv=>((match rv with|.tmp t=>pure (a.tmps.getD t Go.undef)|.cell b t=>do loadVar t (<-asAddr (a.tmps.getD b Go.undef))):Sem Value))
   pure (if h:vs.size=1 then vs[0]else .tuple vs)):=rfl
  rw[xR];simp only[Sem.run_bind,hm,Result.andThen_ok,Sem.run_pure]
 ·cases Lp:oR st rs with
  |nil=>
   rw[Lp]at hl h3;have:vs=[]:=Ln (by simpa using hl);subst this;simp only[bw];exact⟨#[],by simp,by simp[gH]⟩
  |cons x xs=>
   rw[Lp]at hl h3;cases xs with
   |nil=>
    simp only[gH]at h3;obtain⟨v,kj,rfl,hv,rfl⟩:=h3;simpa using hv
   |cons y ys=>
    have:vs.toArray.size≠1:=by simp at hl⊢;omega
    rw[Zde this];simp only[bw];exact⟨_,rfl,by simpa using h3⟩
def T2{κ:qC}{st:RS}{a:Act}{w:World}{L:Loc}(hJ:κ.J=none)(h:fB κ nt st a w L){D:Nat}{Ds:cY}(hd:a.defers=(D::Ds).map mark)(hn:(D::Ds).Nodup)(hk:∀D'∈D::Ds,w.heap[D']? =some (.deferred (some []))/\κ.gw.heap.size<=D'):
  fB κ nt st {a with defers:=Ds.map mark} (w.putObj D (.deferred none)) L:=by
 obtain⟨W,base,M,w0,dW,h0⟩:=h.ex;have hD:=hk D (VN ..);have eG:=(w7.1 hD.1).1;have Pa:∀b,b≠D->(w.putObj D (.deferred none)).heap[b]? =w.heap[b]? :=λb hb=>World.putObj_heap_other hb;have jJ:(w.putObj D (.deferred none)).heap.size=w.heap.size:=by simp[World.putObj]
 have E6:=dW;unfold qC.At at E6;simp only[hJ]at E6;obtain⟨_,rfl,rfl,rfl,rfl⟩:=E6;have hbD:κ.base<=D:=yI (h.bg hJ) hD.2;have nY:∀(b:Nat) c e fr,w.heap[b]? =some (.cells c e fr)->(w.putObj D (.deferred none)).heap[b]? =some (.cells c e fr):=λb c e fr hb=>by
  rw[Pa b (by rintro rfl;rw[hD.1]at hb;cases hb)];exact hb
 have DF:KeepsC (WW κ.W st.ab L) w (w.putObj D (.deferred none)):=⟨by rw[jJ];exact eF _,λb c e fr hb _=>nY b c e fr hb⟩;have kd:∀(d:DV) (x:Value),aC w κ.W st.ab L d x->aC (w.putObj D (.deferred none)) κ.W st.ab L d x:=λd x=>(qE DF (SizeOf.sizeOf d+1)).1 d x (by omega);have hO:cO κ.base κ.W κ.M κ.w0 st.ab (w.putObj D (.deferred none)) L:=wp h0.o hD.1 (λe=>e) hbD;refine⟨⟨κ.W,κ.base,κ.M,κ.w0,dW,h0.size,λt=>kd _ _ (h0.tmps t),hO⟩, ?_,⟨Ds,rfl,(ZcO.1 hn).2,λD' hD'=>?_,λh=>by rw[hJ]at h;cases h⟩,h.bg,h.bU⟩
 ·have had:=h.fP;refine⟨⟨⟨by rw[jJ];exact had.dP.size,λb c e fr hb T3=>nY _ _ _ _ (had.dP.kx b c e fr hb T3)⟩,λb hb=>?_,λb r hb=>?_⟩,had.sub,had.fix,had.bJ,had.yl⟩
  ·rw[Pa b (by have:=(w7.1 hb).1;rw[qC.Ad]at this;omega)];exact had.dP.VE b hb
  ·rw[Pa b (by have:=(w7.1 hb).1;rw[qC.Ad]at this;omega)];exact had.dP.V6 b r hb
 ·have cj:D'≠D:=λe=>(ZcO.1 hn).1 (e▸hD');have:=hk D' (VO _ hD');exact⟨by rw[Pa D' cj];exact this.1,this.2⟩
def leaves{κ:qC}{nt:Nat}{st:RS}{fn:Func}{R:Ending->World->Prop}(hJ:κ.J=none)(hR:∀(a:Act) (w:World) (L:Loc),fB κ nt st a w L->∃v,(results fn a.tmps).run P w=.ok v w/\R (.returned v) w):
  ∀(Ds:cY) (a:Act) (w:World) (L:Loc),fB κ nt st a w L->a.defers=Ds.map mark->Ds.Nodup->(∀D∈Ds,w.heap[D]? =some (.deferred (some []))/\κ.gw.heap.size<=D)->
   LeavesInM Fence.wide 0 P fn a.tmps R (Ds.map mark) .returning w
 |[],a,w,L,h,_,_,_=>by
  obtain⟨v,h1,h2⟩:=hR a w L h;exact⟨v,h1,h2⟩
 |D::Ds,a,w,L,h,hd,hn,hk=>by
  refine⟨by simp,.inl ⟨D,w.putObj D (.deferred none),rfl,run_takeDeferred (hk D (VN ..)).1, ?_⟩⟩;have h':=T2 hJ h hd hn hk;obtain⟨Ds',e1,_,e3,_⟩:=h'.defers;have e:Ds'=Ds:=by
   have hi:∀(l l':cY),l.map mark=l'.map mark->l=l':=by
    intro l;induction l with
    |nil=>intro l' e;cases l'<;>simp_all
    |cons x l ih=>
     intro l' e;cases l' with
     |nil=>simp at e
     |cons y l'=>
      simp only[rW,KU,mark,Deferred.mk.injEq,Target.collected.injEq,Lt]at e;rw[e.1,ih l' e.2]
   exact hi _ _ e1.symm
  subst e;exact leaves hJ hR Ds' {a with defers:=Ds'.map mark} _ L h' rfl (ZcO.1 hn).2 e3
def aP(P:Program)(f:FuncId)(nt:Nat)(d:DC)(rs:List dF):Prop:=
 ∃fn,P.funcs[f]? =some fn/\fn.ntmps=nt/\fn.body.map (cD P nt)=some d/\fn.results.toList.mapM (oK P)=some rs/\(fn.name== "runtime.NumGoroutine")=false
abbrev dw(n:Nat):List dF:=[.kT n]
def aP.of{f:FuncId}{nt:Nat}{d:DC}{rs:List dF}(fn:Func)(h:(P.funcs[f]?,fn.ntmps,fn.body.map (cD P nt),fn.results.toList.mapM (oK P),fn.name== "runtime.NumGoroutine")=(some fn,nt,some d,some rs,false)):aP P f nt d rs:=by
 simp only[oL]at h;exact⟨fn,h⟩
def aP.entry{rs:List dF}(h:aP P f nt d rs):E0 P f:=by
 obtain⟨fn,h1,_,h3,_,h5⟩:=h;obtain⟨c,h2,_⟩:=jr.1 h3;exact⟨fn,h1,by simpa using h5,by simp[h2]⟩
def qJ{n:Nat}{k:Nat}{v:Value}(h:cT.toList[k]? =some v):(cT++Array.replicate (n-cT.size) Go.undef).getD k Go.undef=v:=by
 have eG:k<cT.size:=by have:=(DA.1 h).1;simpa using this
 rw[Oy,Zdk eG];simp only[Zb8]at h;rw[h];rfl
def p6{n:Nat}{k:Nat}(h:cT.size<=k):(cT++Array.replicate (n-cT.size) Go.undef).getD k Go.undef=Go.undef:=by
 rw[Oy,Array.getElem?_append_right h,Array.getElem?_replicate];split<;>rfl
def aP.ok{rs:List dF}(h:aP P f nt d rs){ts:aK}{t:T}(dQ:ts.length<=nt)(k:aa P nt d (Pe rs t) (sP ts)):bb P f ts t:=by
 have BR:=h.entry;obtain⟨fn,ut,rfl,h3,hr,_⟩:=h;obtain⟨c,hb,hc⟩:=jr.1 h3;refine⟨BR,λW w cT hW hg iJ=>?_⟩;have hl:=gH.length iJ;simp only[Rg]at hl;have wx:Jw ⟨W,λ_=>none,⟨λ_=>0,λ_=>Go.undef,0⟩,w,w.heap.size,λ_=>False,w,none,none,none⟩ fn.ntmps (sP ts) {tmps:=cT++Array.replicate (fn.ntmps-cT.size) Go.undef,defers:=[]} w ⟨λ_=>0,λ_=>Go.undef,0⟩:=by
  refine⟨⟨⟨W,w.heap.size,λ_=>False,w,⟨λ_=>rfl,rfl,rfl,rfl,rfl⟩,by simp;omega,λk=>?_,⟨Fr.refl (eF _),(λr o h=>by cases h),(λr r' o o' b _ h=>by cases h),(λr o b h=>by cases h),hW,hg.start⟩⟩,
   iH.dc (dJ.refl _ _),⟨[],rfl,Zch,(λ_ h=>by cases h),λ_=>rfl⟩,λ_=>eF _,⟨0,λ_ _=>rfl⟩⟩,λ_ _=>rfl,λ_ _=>rfl,λh=>by cases h⟩
  simp only[sP];cases hk:ts[k]? with
  |some x=>
   obtain⟨v,hv,mM⟩:=gH.get iJ hk;simp only[qJ hv,Pd,aC];refine bw.bi (dJ.refl W w).toKeepsC ?_ x v mM;rintro b hb (h|⟨r,o,h,_⟩)
   ·exact h
   ·cases h
  |none=>
   have zH:cT.size<=k:=by
    have:=ZbS.1 hk;omega
   simp only[Pd,aC,p6 zH]
 refine callsIn_wide.1 (callsIn_of_wp_marks (n:=0) ut hb trivial ?_);refine wpIn_mono (k.run c hc 0 _ _ _ _ ⟨λJ hJ=>(by cases hJ),λl r s hY=>(by cases hY),λl hl=>(by cases hl)⟩ wx) ?_;rintro e a' w' ⟨dL,L',q,r'⟩;have done:WR rs t dL->LeavesInM Fence.wide 0 P fn a'.tmps (λe w'=>∃v,e=.returned v/\xQ w.heap.size w w'/\bw w' W t v) a'.defers .returning w':=by
  intro hq;obtain⟨Ds,h1,h2,h3,_⟩:=r'.r.defers;rw[h1];refine leaves (κ:=⟨W,λ_=>none,⟨λ_=>0,λ_=>Go.undef,0⟩,w,w.heap.size,λ_=>False,w,none,none,none⟩) rfl ?_ Ds a' w' L' r'.r h1 h2 h3;intro a2 w2 L2 h4;obtain⟨W',LN,M',w0',dW,h0⟩:=h4.ex;obtain⟨_,e1,e2,e3,e4⟩:=dW
  replace h0:R0 w.heap.size W (λ_=>False) w fn.ntmps dL.tmps dL.ab a2 w2 L2:=by rw[e1,e2,e3,e4]at h0;exact h0
  obtain⟨v,k1,k2⟩:=wv (st:=dL) h0 (gQ:=true) (W':=W) (λ_ r o b e1 e2=>h0.o.tu r o b e1 e2) (λb hb=>.inl hb) hr hq;have fr:=h0.o.fr;exact⟨v,k1,v,rfl,⟨⟨fr.os,fr.tape,fr.output,fr.size,λk hk=>fr.block k hk (λx=>x)⟩,fr.drawn⟩,k2⟩
 cases e with
 |normal=>exact done q
 |ret=>exact done q
 |_=>exact q.elim
def aP.okS{rs:List dF}(h:aP P f nt d rs){args:bM}{ab:bF}{r:gC}{N:Nat}(hN:∀r,N<=r->ab r=none)(dQ:args.length<=nt)(k:aa P nt d (BQ rs r) (yi args ab N)):aY P f args ab r:=by
 have BR:=h.entry;obtain⟨fn,ut,rfl,h3,hr,_⟩:=h;obtain⟨c,hb,hc⟩:=jr.1 h3;refine⟨BR,λbase W M w0 w L cT hO DG=>?_⟩;have hl:=DG.1;simp only[Rg]at hl;have wx:Jw ⟨W,ab,L,w,base,M,w0,none,none,none⟩ fn.ntmps (yi args ab N) {tmps:=cT++Array.replicate (fn.ntmps-cT.size) Go.undef,defers:=[]} w L:=by
  refine⟨⟨⟨W,base,M,w0,⟨λ_=>rfl,rfl,rfl,rfl,rfl⟩,by simp;omega,λk=>?_,hO⟩,
   iH.dc (dJ.refl _ _),⟨[],rfl,Zch,(λ_ h=>by cases h),λ_=>rfl⟩,λ_=>yI hO.fr.kl hO.fr.size,⟨N,hN⟩⟩,hN,hN,λh=>by cases h⟩
  simp only[yi];cases hk:args[k]? with
  |some x=>
   have hv:∃v,cT.toList[k]? =some v:=by
    have:k<cT.size:=by rw[hl];exact(DA.1 hk).1
    exact⟨cT[k],by simp[this]⟩
   obtain⟨v,hv⟩:=hv;simp only[qJ hv,DI];exact DG.2 k x v hk hv
  |none=>
   have zH:cT.size<=k:=by
    have:=ZbS.1 hk;omega
   simp only[DI,aC,p6 zH]
 refine callsIn_wide.1 (callsIn_of_wp_marks (n:=0) ut hb trivial ?_);refine wpIn_mono (k.run c hc 0 _ _ _ _ ⟨λJ hJ=>(by cases hJ),λl r s hY=>(by cases hY),λl hl=>(by cases hl)⟩ wx) ?_;rintro e a' w' ⟨dL,L',q,r'⟩;have done:qI rs r dL->LeavesInM Fence.wide 0 P fn a'.tmps (λe w'=>∃v L',e=.returned v/\cO base W M w0 r.ab w' L'/\iH W ab L w r.ab L' w'/\aC w' W r.ab L' r.val v) a'.defers .returning w':=by
  rintro⟨hq1,Jy,hq3⟩;obtain⟨Ds,h1,h2,h3,_⟩:=r'.r.defers;rw[h1];refine leaves (κ:=⟨W,ab,L,w,base,M,w0,none,none,none⟩) rfl ?_ Ds a' w' L' r'.r h1 h2 h3;intro a2 w2 L2 h4;obtain⟨W',LN,M',w0',dW,h0⟩:=h4.ex;obtain⟨_,e1,e2,e3,e4⟩:=dW
  replace h0:R0 base W M w0 fn.ntmps dL.tmps dL.ab a2 w2 L2:=by rw[e1,e2,e3,e4]at h0;exact h0
  obtain⟨v,k1,k2⟩:=wv (st:=dL) h0 (gQ:=false) (W':=WW W dL.ab L2) (λx=>by cases x) (λb hb=>hb) hr ⟨hq1,rfl⟩;have Jz:=h0.o;have vx:=h4.fP;simp only[Jy]at Jz vx k2;refine⟨v,k1,v,L2,rfl,Jz,vx, ?_⟩;rw[hq3];simp only[aC];exact k2
 cases e with
 |normal=>exact done q
 |ret=>exact done q
 |_=>exact q.elim
end
end
end Go.DM
namespace Go.DM
open Go.RowKit
variable [bK] [d8]
section
def fO(Γ:pW)(aJ:Nat):cu->RS->(RS->Prop)->Prop
 |[],st,K=>K st
 |r::rs,st,K=>
  match r.guard with
  |none=>cZ r st.tmps/\wl r st.ab (post Γ aJ r st).ab/\(post Γ aJ r st).ok/\fO Γ aJ rs ⟨dg st.tmps r.dst (post Γ aJ r st).val,(post Γ aJ r st).ab,(post Γ aJ r st).todo⟩ K
  |some (s,mH)=>
   match st.tmps s with
   |.v (.bool b)=>(b=mH->cZ r st.tmps/\wl r st.ab (post Γ aJ r st).ab/\(post Γ aJ r st).ok/\fO Γ aJ rs ⟨dg (dg st.tmps (some s) (.v (.bool mH))) r.dst (post Γ aJ r st).val,(post Γ aJ r st).ab,(post Γ aJ r st).todo⟩ K)/\
     (b= !mH->fO Γ aJ rs ⟨dg (dg st.tmps (some s) (.v (.bool (!mH)))) r.dst .skip,st.ab,st.todo⟩ K)
   |.skip=>fO Γ aJ rs ⟨dg st.tmps r.dst .skip,st.ab,st.todo⟩ K
   |_=>False
def kU{ρ:dG}{s:Nat}{v:DV}(h:ρ s=v):dg ρ (some s) v=ρ:=by
 funext x;simp only[dg];split
 ·rename_i e;rw[e,h]
 ·rfl
def jM{Γ:pW}{aJ:Nat}:∀(rs:cu) (st:RS) (K:RS->Prop),fO Γ aJ rs st K->kD Γ aJ rs st/\K (eH Γ aJ rs st)
 |[],st,K,h=>⟨trivial,h⟩
 |r::rs,st,K,h=>by
  simp only[fO]at h;simp only[kD,eH];have yes:gN r.guard st.tmps=some true->(cZ r st.tmps/\wl r st.ab (post Γ aJ r st).ab/\(post Γ aJ r st).ok/\fO Γ aJ rs ⟨dg st.tmps r.dst (post Γ aJ r st).val,(post Γ aJ r st).ab,(post Γ aJ r st).todo⟩ K)->(c8 Γ aJ r st/\kD Γ aJ rs (eB Γ aJ r st))/\K (eH Γ aJ rs (eB Γ aJ r st)):=by
   rintro hw ⟨ht,hk4,aO,hk⟩;have e1:eB Γ aJ r st=⟨dg st.tmps r.dst (post Γ aJ r st).val,(post Γ aJ r st).ab,(post Γ aJ r st).todo⟩:=by simp only[eB,hw]
   have e2:c8 Γ aJ r st:=by simp only[c8,hw];exact⟨aO,ht,hk4⟩
   rw[e1];have:=jM rs _ K hk;exact⟨⟨e2,this.1⟩,this.2⟩
  have no:gN r.guard st.tmps=some false->fO Γ aJ rs ⟨dg st.tmps r.dst .skip,st.ab,st.todo⟩ K->(c8 Γ aJ r st/\kD Γ aJ rs (eB Γ aJ r st))/\K (eH Γ aJ rs (eB Γ aJ r st)):=by
   rintro hw hk;have e1:eB Γ aJ r st=⟨dg st.tmps r.dst .skip,st.ab,st.todo⟩:=by simp only[eB,hw]
   have e2:c8 Γ aJ r st:=by simp only[c8,hw]
   rw[e1];have:=jM rs _ K hk;exact⟨⟨e2,this.1⟩,this.2⟩
  cases hg:r.guard with
  |none=>rw[hg]at h;exact yes (by simp[gN,hg]) h
  |some g=>
   obtain⟨s,mH⟩:=g;rw[hg]at h;simp only at h;cases hs:st.tmps s with
   |skip=>rw[hs]at h;exact no (by simp[gN,hg,hs]) h
   |v t=>
    rw[hs]at h;cases t with
    |bool b=>
     simp only at h;by_cases hb:b=mH
     ·subst hb;rw[kU hs]at h;exact yes (by simp[gN,hg,hs]) (h.1 rfl)
     ·have gb:b= !mH:=by cases b<;>cases mH<;>simp_all
      subst gb;rw[kU hs]at h;exact no (by simp[gN,hg,hs]) (h.2 rfl)
    |_=>exact h.elim
   |_=>rw[hs]at h;exact h.elim
def im(Γ:pW)(aJ:Nat)(rs:cu)(tm:dG)(ob:bF)(td:List (aK))(K:RS->Prop)(dst:Option Nat)(e:tq):Prop:=
 e.ok/\fO Γ aJ rs ⟨dg tm dst e.val,cV ob e.put,td⟩ K
def HI(Γ:pW)(aJ:Nat)(rs:cu)(tm:dG)(K:RS->Prop)(dst:Option Nat)(e:ahC):Prop:=
 e.ok/\fO Γ aJ rs ⟨dg tm dst e.val,e.ab,e.todo⟩ K
def nM(Γ:pW)(aJ:Nat)(d:tZ)(rs:cu)(tm:dG)(ob:bF)(td:List (aK))(K:RS->Prop)(dst:Option Nat)(ik:dG):Prop:=
 if t6 d then HI Γ aJ rs ik K dst (pJ Γ d tm ob td)else im Γ aJ rs ik ob td K dst (dK Γ d (b8 aJ dst) tm ob)
def Pf(Γ:pW)(aJ:Nat)(d:tZ)(rs:cu)(tm:dG)(ob:bF)(td:List (aK))(K:RS->Prop)(dst:Option Nat)(s:Nat)(mH:Bool)(g:DV):Prop:=
 match g with
 |.v (.bool b)=>(b=mH->nM Γ aJ d rs tm ob td K dst (dg tm (some s) (.v (.bool mH))))/\
   (b= !mH->fO Γ aJ rs ⟨dg (dg tm (some s) (.v (.bool (!mH)))) dst .skip,ob,td⟩ K)
 |.skip=>fO Γ aJ rs ⟨dg tm dst .skip,ob,td⟩ K
 |_=>False
section
variable{Γ:pW}{aJ:Nat}{st:RS}{K:RS->Prop}{rs:cu}{tm ik:dG}{ob:bF}{td:List (aK)}{dst:Option Nat}
def abo(ok:Prop)(v:DV)(p:Option (Nat×Ob)):im Γ aJ rs tm ob td K dst ⟨ok,v,p⟩=(ok/\fO Γ aJ rs ⟨dg tm dst v,cV ob p,td⟩ K):=rfl
def WS(ok:Prop)(v:DV)(oB:bF)(td':List (aK)):HI Γ aJ rs tm K dst ⟨ok,v,oB,td'⟩=(ok/\fO Γ aJ rs ⟨dg tm dst v,oB,td'⟩ K):=rfl
def WT:im Γ aJ rs tm ob td K dst dm=False:=by simp[im,dm]
def T4(f:FuncId)(args:List cg):nM Γ aJ (.callS f args) rs tm ob td K dst ik=HI Γ aJ rs ik K dst (pJ Γ (.callS f args) tm ob td):=by simp[nM,t6]
def T5(x:cg)(args:List cg):nM Γ aJ (.callv x args) rs tm ob td K dst ik=HI Γ aJ rs ik K dst (pJ Γ (.callv x args) tm ob td):=by simp[nM,t6]
def oS(d:tZ)(s:Nat)(b mH:Bool):Pf Γ aJ d rs tm ob td K dst s mH (.v (.bool b))=((b=mH->nM Γ aJ d rs tm ob td K dst (dg tm (some s) (.v (.bool mH))))/\
   (b= !mH->fO Γ aJ rs ⟨dg (dg tm (some s) (.v (.bool (!mH)))) dst .skip,ob,td⟩ K)):=rfl
def WU:fO Γ aJ [] st K=K st:=rfl
def Ak{d:tZ}{g:Option (Nat×Bool)}{af:cY}{l:Option (cY)}:((post Γ aJ ⟨d,dst,g,af,l⟩ ⟨tm,ob,td⟩).ok/\fO Γ aJ rs ⟨dg ik dst (post Γ aJ ⟨d,dst,g,af,l⟩ ⟨tm,ob,td⟩).val,(post Γ aJ ⟨d,dst,g,af,l⟩ ⟨tm,ob,td⟩).ab,(post Γ aJ ⟨d,dst,g,af,l⟩ ⟨tm,ob,td⟩).todo⟩ K)=nM Γ aJ d rs tm ob td K dst ik:=by
 unfold post nM;cases h:t6 d<;>simp[im,HI,pM]
def Fi{d:tZ}{g:Option (Nat×Bool)}{af:cY}{o o':bF}:wl ⟨d,dst,g,af,none⟩ o o'=True:=eq_true λ_ l h=>by cases h
def HJ(l:cY)(o o':bF):Prop:=∀n,n∉l->o' n=o n
def Fj{d:tZ}{g:Option (Nat×Bool)}{af l:cY}:wl ⟨d,dst,g,af,some l⟩ ob (post Γ aJ ⟨d,dst,g,af,some l⟩ ⟨tm,ob,td⟩).ab=(t6 d=true->HJ l ob (pJ Γ d tm ob td).ab):=by
 unfold wl HJ post;by_cases h:t6 d=true
 ·simp[h]
 ·simp[h]
def Pg(d:tZ)(af:cY):fO Γ aJ (⟨d,dst,none,af,none⟩::rs) ⟨tm,ob,td⟩ K=nM Γ aJ d rs tm ob td K dst tm:=by
 simp only[fO,cZ,Fi,rO];exact Ak
def Ph(d:tZ)(af:cY)(l:cY):
  fO Γ aJ (⟨d,dst,none,af,some l⟩::rs) ⟨tm,ob,td⟩ K=(cZ ⟨d,dst,none,af,some l⟩ tm/\(t6 d=true->HJ l ob (pJ Γ d tm ob td).ab)/\nM Γ aJ d rs tm ob td K dst tm):=by
 simp only[fO];rw[Ak,Fj]
@[simp low] def qK(d:tZ)(s:Nat)(mH:Bool)(af:cY):
  fO Γ aJ (⟨d,dst,some (s,mH),af,none⟩::rs) ⟨tm,ob,td⟩ K=Pf Γ aJ d rs tm ob td K dst s mH (tm s):=by
 simp only[fO,Pf,cZ,Fi,rO];rw[Ak]
end
section
variable{Γ:pW}{aJ:Nat}{K:RS->Prop}{rs:cu}{tm:dG}{ob:bF}{td:List (aK)}{dst:Option Nat}{d:tZ}{s:Nat}{af:cY}
@[simp] def alL(h:tm s=.v (.bool true)):fO Γ aJ (⟨d,dst,some (s,true),af,none⟩::rs) ⟨tm,ob,td⟩ K=nM Γ aJ d rs tm ob td K dst tm:=by
 rw[qK,h,oS,kU h];simp
@[simp] def alM(h:tm s=.v (.bool false)):fO Γ aJ (⟨d,dst,some (s,false),af,none⟩::rs) ⟨tm,ob,td⟩ K=nM Γ aJ d rs tm ob td K dst tm:=by
 rw[qK,h,oS,kU h];simp
@[simp] def alN(h:tm s=.v (.bool true)):fO Γ aJ (⟨d,dst,some (s,false),af,none⟩::rs) ⟨tm,ob,td⟩ K=fO Γ aJ rs ⟨dg tm dst .skip,ob,td⟩ K:=by
 rw[qK,h,oS];simp[kU h]
@[simp] def alO(h:tm s=.v (.bool false)):fO Γ aJ (⟨d,dst,some (s,true),af,none⟩::rs) ⟨tm,ob,td⟩ K=fO Γ aJ rs ⟨dg tm dst .skip,ob,td⟩ K:=by
 rw[qK,h,oS];simp[kU h]
@[simp] def alP{mH:Bool}(h:tm s=.skip):fO Γ aJ (⟨d,dst,some (s,mH),af,none⟩::rs) ⟨tm,ob,td⟩ K=fO Γ aJ rs ⟨dg tm dst .skip,ob,td⟩ K:=by
 rw[qK,h];rfl
end
def look:fg->Nat->DV
 |[],_=>.undef
 |(j,v)::l,k=>if k=j then v else look l k
def cF:df->Nat->Option Ob
 |[],_=>none
 |(j,o)::l,k=>if k=j then some o else cF l k
def WV(f:dG)(k:Nat)(v:DV)(x:Nat):dg f (some k) v x=if x=k then v else f x:=rfl
def T6(f:dG)(v:DV):dg f none v=f:=rfl
def T7(f:bF):cV f none=f:=rfl
def HK(f:bF)(r:Nat)(o:Ob)(x:Nat):cV f (some (r,o)) x=if x=r then some o else f x:=rfl
def oa(j:Nat)(v:DV)(l:fg)(k:Nat):look ((j,v)::l) k=if k=j then v else look l k:=rfl
def WX(k:Nat):look [] k=.undef:=rfl
def dd(j:Nat)(o:Ob)(l:df)(k:Nat):cF ((j,o)::l) k=if k=j then some o else cF l k:=rfl
def iK(k:Nat):cF [] k=none:=rfl
def WY(l:df)(r:Nat)(o:Ob):cV (cF l) (some (r,o))=cF ((r,o)::l):=rfl
def oT(ks:cY)(tm:dG):fg:=ks.map λk=>(k,tm k)
def Fk(k:Nat)(ks:cY)(tm:dG):oT (k::ks) tm=(k,tm k)::oT ks tm:=rfl
def T8(tm:dG):oT [] tm=[]:=rfl
def od(tm:dG):∀(ks:cY) (k:Nat),look (oT ks tm) k=.undef\/look (oT ks tm) k=tm k
 |[],_=>.inl rfl
 |j::ks,k=>by
  rw[Fk,oa];split
  ·rename_i h;exact .inr (by rw[h])
  ·exact od tm ks k
def Le.yj{st:mK}{tm:dG}(h:∀k,tm k=.undef\/tm k=st.tmps k):Le st ⟨tm,st.ab,st.aJ,st.low,st.todo⟩:=λκ nt a w L r=>
 ⟨L,⟨by
  obtain⟨W,base,M,w0,dW,h0⟩:=r.r.ex;exact⟨W,base,M,w0,dW,h0.size,λt=>by
   rcases h t with e|e
   ·show aC w W st.ab L (tm t) _;rw[e];simp[aC]
   ·show aC w W st.ab L (tm t) _;rw[e];exact h0.tmps t,h0.o⟩,r.r.fP,r.r.defers,r.r.bg,r.r.bU⟩,r.fresh,r.low,r.it⟩
def T9(ts:aK):Le (sP ts) ⟨look ((ts.map .v).zipIdx.map λp=>(p.2,p.1)),cF [],1000,1000,[]⟩:=by
 have key:∀(ts:aK) (i k:Nat),look (((ts.map .v).zipIdx i).map λp=>(p.2,p.1)) k=.undef\/look (((ts.map .v).zipIdx i).map λp=>(p.2,p.1)) k=Pd (if i<=k then ts[k-i]? else none):=by
  intro ts;induction ts with
  |nil=>intro i k;exact .inl rfl
  |cons t ts ih=>
   intro i k;simp only[rW,Zc1,oa];split
   ·rename_i h;subst h;exact .inr (by simp[Pd])
   ·rename_i h;rcases ih (i+1) k with e|e
    ·exact .inl e
    ·right;rw[e];by_cases hk:i+1<=k
     ·rw[cG hk,cG (by omega),show k-i=(k-(i+1))+1 by omega,Zbl]
     ·have:¬i<=k:=by omega
      rw[bj hk,bj this]
 refine Le.trans (Le.yj (st:=sP ts) (tm:=look ((ts.map .v).zipIdx.map λp=>(p.2,p.1))) λk=>?_) (λκ nt a w L r=>⟨L,r⟩);have:=key ts 0 k;simpa [sP]using this
section
variable{P:Program}{nt:Nat}{Γ:pW}{Q:Exit->mK->Prop}{st:mK}{tm:dG}{ob:bF}{aJ low:Nat}{td:List (aK)}
def aa.dZ(aB:ay P Γ)(hm:P.follows .mixedOrders=true){iV:Bool}{rs:cu}(ks:cY)
  (h:fO Γ aJ rs ⟨tm,ob,td⟩ λs=>Q .normal ⟨look (oT ks s.tmps),s.ab,aJ+nt+1,low,s.todo⟩):aa P nt (.region iV rs) Q ⟨tm,ob,aJ,low,td⟩:=by
 have:=jM _ _ _ h;refine aa.Ai (Q:=λe s=>e=.normal/\s=⟨(eH Γ aJ rs ⟨tm,ob,td⟩).tmps,(eH Γ aJ rs ⟨tm,ob,td⟩).ab,aJ+nt+1,low,(eH Γ aJ rs ⟨tm,ob,td⟩).todo⟩) (aa.region aB hm (st:=⟨tm,ob,aJ,low,td⟩) this.1 ⟨rfl,rfl⟩) ?_;rintro e s ⟨rfl,rfl⟩;exact⟨_,Le.yj (od _ ks),this.2⟩
def aa.ai(aB:ay P Γ)(hm:P.follows .mixedOrders=true){iV:Bool}{rs:cu}{b:DC}(ks:cY)
  (h:fO Γ aJ rs ⟨tm,ob,td⟩ λs=>aa P nt b Q ⟨look (oT ks s.tmps),s.ab,aJ+nt+1,low,s.todo⟩):aa P nt (.seq (.region iV rs) b) Q ⟨tm,ob,aJ,low,td⟩:=
 aa.seq (aa.dZ aB hm ks h)
def aa.pO(aB:ay P Γ)(hm:P.follows .mixedOrders=true){d:DC}{rs:cu}(hd:d=.fG (rs.map bare)\/∃iV,d=.region iV (rs.map bare))(aO:eR nt true rs=true)(ks:cY)
  (h:fO Γ aJ rs ⟨tm,ob,td⟩ λs=>Q .normal ⟨look (oT ks s.tmps),s.ab,aJ+nt+1,low,s.todo⟩):aa P nt d Q ⟨tm,ob,aJ,low,td⟩:=by
 have:=jM _ _ _ h;refine aa.Ai (Q:=λe s=>e=.normal/\s=⟨(eH Γ aJ rs ⟨tm,ob,td⟩).tmps,(eH Γ aJ rs ⟨tm,ob,td⟩).ab,aJ+nt+1,low,(eH Γ aJ rs ⟨tm,ob,td⟩).todo⟩) (aa.abm aB hm hd aO (st:=⟨tm,ob,aJ,low,td⟩) this.1 ⟨rfl,rfl⟩) ?_;rintro e s ⟨rfl,rfl⟩;exact⟨_,Le.yj (od _ ks),this.2⟩
def aa.ko(aB:ay P Γ)(hm:P.follows .mixedOrders=true){d b:DC}{rs:cu}(hd:d=.fG (rs.map bare)\/∃iV,d=.region iV (rs.map bare))(aO:eR nt true rs=true)(ks:cY)
  (h:fO Γ aJ rs ⟨tm,ob,td⟩ λs=>aa P nt b Q ⟨look (oT ks s.tmps),s.ab,aJ+nt+1,low,s.todo⟩):aa P nt (.seq d b) Q ⟨tm,ob,aJ,low,td⟩:=
 aa.seq (aa.pO aB hm hd aO ks h)
end
def aM{P:Program}{nt:Nat}{d:DC}{Q:Exit->mK->Prop}{ts:aK}(h:aa P nt d Q ⟨look ((ts.map .v).zipIdx.map λp=>(p.2,p.1)),cF [],1000,1000,[]⟩):aa P nt d Q (sP ts):=aa.le (T9 ts) h
section
variable{Γ:pW}{aJ:Nat}{K:RS->Prop}{rs:cu}{tm ik:dG}{ob:bF}{td:List (aK)}{dst:Option Nat}
@[simp] def avV(x:cg):nM Γ aJ (.Hr x) rs tm ob td K dst ik=im Γ aJ rs ik ob td K dst (dK Γ (.Hr x) (b8 aJ dst) tm ob):=rfl
@[simp] def amH(c a b:cg):nM Γ aJ (.pick c a b) rs tm ob td K dst ik=im Γ aJ rs ik ob td K dst (dK Γ (.pick c a b) (b8 aJ dst) tm ob):=rfl
@[simp] def alQ(zero:bM):nM Γ aJ (.alloc zero) rs tm ob td K dst ik=im Γ aJ rs ik ob td K dst (dK Γ (.alloc zero) (b8 aJ dst) tm ob):=rfl
@[simp] def avW(x:cg):nM Γ aJ (.box x) rs tm ob td K dst ik=im Γ aJ rs ik ob td K dst (dK Γ (.box x) (b8 aJ dst) tm ob):=rfl
@[simp] def alR(zero:bM)(parts:List (Nat×Nat×cg)):nM Γ aJ (.build zero parts) rs tm ob td K dst ik=im Γ aJ rs ik ob td K dst (dK Γ (.build zero parts) (b8 aJ dst) tm ob):=rfl
@[simp] def ahO(len sz:Nat)(zero:bM)(parts:List (Nat×Nat×cg)):nM Γ aJ (.bslice len sz zero parts) rs tm ob td K dst ik=im Γ aJ rs ik ob td K dst (dK Γ (.bslice len sz zero parts) (b8 aJ dst) tm ob):=rfl
@[simp] def amI(n:Nat)(agg:Bool)(x:cg):nM Γ aJ (.load n agg x) rs tm ob td K dst ik=im Γ aJ rs ik ob td K dst (dK Γ (.load n agg x) (b8 aJ dst) tm ob):=rfl
@[simp] def alS(n:Nat)(x y:cg):nM Γ aJ (.store n x y) rs tm ob td K dst ik=im Γ aJ rs ik ob td K dst (dK Γ (.store n x y) (b8 aJ dst) tm ob):=rfl
@[simp] def avX(op:BinOp)(x y:cg):nM Γ aJ (.bin op x y) rs tm ob td K dst ik=im Γ aJ rs ik ob td K dst (dK Γ (.bin op x y) (b8 aJ dst) tm ob):=rfl
@[simp] def avY(neg agg:Bool)(cL:List Sh)(x y:cg):nM Γ aJ (.eqT neg agg cL x y) rs tm ob td K dst ik=im Γ aJ rs ik ob td K dst (dK Γ (.eqT neg agg cL x y) (b8 aJ dst) tm ob):=rfl
@[simp] def awg(op:UnOp)(x:cg):nM Γ aJ (.un op x) rs tm ob td K dst ik=im Γ aJ rs ik ob td K dst (dK Γ (.un op x) (b8 aJ dst) tm ob):=rfl
@[simp] def amJ(k:IntKind)(x:cg):nM Γ aJ (.conv k x) rs tm ob td K dst ik=im Γ aJ rs ik ob td K dst (dK Γ (.conv k x) (b8 aJ dst) tm ob):=rfl
@[simp] def ahP(k:Nat)(x:cg):nM Γ aJ (.addOff k x) rs tm ob td K dst ik=im Γ aJ rs ik ob td K dst (dK Γ (.addOff k x) (b8 aJ dst) tm ob):=rfl
@[simp] def abp(x:cg):nM Γ aJ (.nilCheck x) rs tm ob td K dst ik=im Γ aJ rs ik ob td K dst (dK Γ (.nilCheck x) (b8 aJ dst) tm ob):=rfl
@[simp] def agi(sz:Nat)(x i:cg):nM Γ aJ (.idxAddr sz x i) rs tm ob td K dst ik=im Γ aJ rs ik ob td K dst (dK Γ (.idxAddr sz x i) (b8 aJ dst) tm ob):=rfl
@[simp] def agj(len sz:Nat)(x i:cg):nM Γ aJ (.arrAddr len sz x i) rs tm ob td K dst ik=im Γ aJ rs ik ob td K dst (dK Γ (.arrAddr len sz x i) (b8 aJ dst) tm ob):=rfl
@[simp] def alT(off n:Nat)(agg:Bool)(x:cg):nM Γ aJ (.field off n agg x) rs tm ob td K dst ik=im Γ aJ rs ik ob td K dst (dK Γ (.field off n agg x) (b8 aJ dst) tm ob):=rfl
@[simp] def alU(sz:Nat)(x:cg)(lo hi:Option cg):nM Γ aJ (.slice sz x lo hi) rs tm ob td K dst ik=im Γ aJ rs ik ob td K dst (dK Γ (.slice sz x lo hi) (b8 aJ dst) tm ob):=rfl
@[simp] def agk(i:Nat)(x:cg):nM Γ aJ (.extract i x) rs tm ob td K dst ik=im Γ aJ rs ik ob td K dst (dK Γ (.extract i x) (b8 aJ dst) tm ob):=rfl
@[simp] def amK(f:FuncId)(args:List cg):nM Γ aJ (.call f args) rs tm ob td K dst ik=im Γ aJ rs ik ob td K dst (dK Γ (.call f args) (b8 aJ dst) tm ob):=rfl
@[simp] def avZ(x:cg):nM Γ aJ (.len x) rs tm ob td K dst ik=im Γ aJ rs ik ob td K dst (dK Γ (.len x) (b8 aJ dst) tm ob):=rfl
@[simp] def amL(x:cg):nM Γ aJ (.lenS x) rs tm ob td K dst ik=im Γ aJ rs ik ob td K dst (dK Γ (.lenS x) (b8 aJ dst) tm ob):=rfl
@[simp] def ahQ(Li:Bool)(x y:cg):nM Γ aJ (.minmax Li x y) rs tm ob td K dst ik=im Γ aJ rs ik ob td K dst (dK Γ (.minmax Li x y) (b8 aJ dst) tm ob):=rfl
@[simp] def ahR(e sz bytes:Nat)(x y:cg):nM Γ aJ (.append e sz bytes x y) rs tm ob td K dst ik=im Γ aJ rs ik ob td K dst (dK Γ (.append e sz bytes x y) (b8 aJ dst) tm ob):=rfl
@[simp] def agl(e sz bytes:Nat)(zero:aK)(n:cg):nM Γ aJ (.mkSlice e sz bytes zero n) rs tm ob td K dst ik=im Γ aJ rs ik ob td K dst (dK Γ (.mkSlice e sz bytes zero n) (b8 aJ dst) tm ob):=rfl
@[simp] def abq(e sz bytes:Nat)(zero:aK)(n:cg):nM Γ aJ (.mkSliceB e sz bytes zero n) rs tm ob td K dst ik=im Γ aJ rs ik ob td K dst (dK Γ (.mkSliceB e sz bytes zero n) (b8 aJ dst) tm ob):=rfl
@[simp] def amM(f:Fn)(cA:List cg):nM Γ aJ (.mkFn f cA) rs tm ob td K dst ik=im Γ aJ rs ik ob td K dst (dK Γ (.mkFn f cA) (b8 aJ dst) tm ob):=rfl
@[simp] def alV(f:FuncId)(args:List cg):nM Γ aJ (.callR f args) rs tm ob td K dst ik=im Γ aJ rs ik ob td K dst (dK Γ (.callR f args) (b8 aJ dst) tm ob):=rfl
@[simp] def alW(f:FuncId)(args:List cg):nM Γ aJ (.callF f args) rs tm ob td K dst ik=im Γ aJ rs ik ob td K dst (dK Γ (.callF f args) (b8 aJ dst) tm ob):=rfl
@[simp] def alX(cL:List Sh)(agg:Bool):nM Γ aJ (.mkMap cL agg) rs tm ob td K dst ik=im Γ aJ rs ik ob td K dst (dK Γ (.mkMap cL agg) (b8 aJ dst) tm ob):=rfl
@[simp] def ahS(cL:List Sh)(agg:Bool)(zero:DV)(ok:Bool)(x k:cg):nM Γ aJ (.lookup cL agg zero ok x k) rs tm ob td K dst ik=im Γ aJ rs ik ob td K dst (dK Γ (.lookup cL agg zero ok x k) (b8 aJ dst) tm ob):=rfl
@[simp] def ahT(cL:List Sh)(agg:Bool)(x k y:cg):nM Γ aJ (.mapUpd cL agg x k y) rs tm ob td K dst ik=im Γ aJ rs ik ob td K dst (dK Γ (.mapUpd cL agg x k y) (b8 aJ dst) tm ob):=rfl
@[simp] def ahU(cL:List Sh)(agg:Bool)(z:DV)(x k:cg):nM Γ aJ (.mapEnt cL agg z x k) rs tm ob td K dst ik=im Γ aJ rs ik ob td K dst (dK Γ (.mapEnt cL agg z x k) (b8 aJ dst) tm ob):=rfl
@[simp] def alY(x s y:cg):nM Γ aJ (.entSt x s y) rs tm ob td K dst ik=im Γ aJ rs ik ob td K dst (dK Γ (.entSt x s y) (b8 aJ dst) tm ob):=rfl
@[simp] def ahV(cL:List Sh)(agg:Bool)(x k:cg):nM Γ aJ (.mapDel cL agg x k) rs tm ob td K dst ik=im Γ aJ rs ik ob td K dst (dK Γ (.mapDel cL agg x k) (b8 aJ dst) tm ob):=rfl
@[simp] def amN(x:cg):nM Γ aJ (.lenM x) rs tm ob td K dst ik=im Γ aJ rs ik ob td K dst (dK Γ (.lenM x) (b8 aJ dst) tm ob):=rfl
@[simp] def ahW(x:cg):nM Γ aJ (.rangeM x) rs tm ob td K dst ik=im Γ aJ rs ik ob td K dst (dK Γ (.rangeM x) (b8 aJ dst) tm ob):=rfl
@[simp] def amO(sz:Nat)(x y:cg):nM Γ aJ (.copy sz x y) rs tm ob td K dst ik=im Γ aJ rs ik ob td K dst (dK Γ (.copy sz x y) (b8 aJ dst) tm ob):=rfl
@[simp] def alZ(kind:Nat)(neg:Bool)(x:cg):nM Γ aJ (.isNil kind neg x) rs tm ob td K dst ik=im Γ aJ rs ik ob td K dst (dK Γ (.isNil kind neg x) (b8 aJ dst) tm ob):=rfl
@[simp] def ahX(x i:cg):nM Γ aJ (.indexS x i) rs tm ob td K dst ik=im Γ aJ rs ik ob td K dst (dK Γ (.indexS x i) (b8 aJ dst) tm ob):=rfl
@[simp] def amP:nM Γ aJ (.fail) rs tm ob td K dst ik=im Γ aJ rs ik ob td K dst (dK Γ (.fail) (b8 aJ dst) tm ob):=rfl
@[simp] def ahY(x:cg):nM Γ aJ (.entryM x) rs tm ob td K dst ik=HI Γ aJ rs ik K dst (pJ Γ (.entryM x) tm ob td):=by simp[nM,t6]
end
attribute [simp] HK abo WS WT T4 T5 pJ oS WU Pg Ph WV T6 T7 WY oa WX dd iK Fk T8
attribute [simp] dK cg.ev jH mS vZ EG Rd jt ml uh lY qt oM EH EI EJ kz ui yG w9 pX gD ju mT gY Hs rX qx qw nT j5 j6 lL j7 uj mm mn kQ gZ pY BA OS fu zV
attribute [simp] Pe BQ WR qI lq oR dF.pM ov cellsOf fM lH vX jZ cS x8 vY vu ka GX vv b8 EF fq IU iG vj LM Jx t6
def aA{x:Int}(h: -9223372036854775808<=x/\x<=9223372036854775807):IntKind.i64.wrap x=x:=by
 simp[IntKind.wrap,IntKind.bits,IntKind.signed];omega
def Al{x:Int}(h:0<=x):x.tdiv 2=x/2:=Int.tdiv_eq_ediv_of_nonneg h
def amQ{x:Int}(h:0<=x):x.tmod 2=x % 2:=Int.tmod_eq_emod_of_nonneg h
end
end Go.DM
namespace Go.DM
open Go.RowKit
section
variable{P:Program}{f sz:Nat}{fn:aK->List (aK)}
variable [bK] [d8]
def bB:List (Nat×Spec)->pW
 |[],_=>none
 |(g,s)::l,f=>if f=g then some s else bB l f
def ay.nil:ay P (bB []):=λ_ _ h=>by cases h
def ay.add{s:Spec}{l:List (Nat×Spec)}(h:ay P (bB l))(k:Wp P f s):ay P (bB ((f,s)::l)):=by
 intro g s' hg;simp only[bB]at hg;split at hg
 ·rename_i e;cases hg;subst e;exact k
 ·exact h g s' hg
def ay.cons{s:Spec}{l:List (Nat×Spec)}(h:ay P (bB l))
  (k:∀ts,s.pre ts->bb P f ts (s.fn ts)/\(s.ky=true->jL (s.fn ts)=true)) (hs:s.st=none:=by rfl) (zG:s.fresh=none:=by rfl):ay P (bB ((f,s)::l)):=
 h.add ⟨k,λe sz hf=>(by rw[zG]at hf;cases hf),λk hk=>(by rw[hs]at hk;cases hk)⟩
def eL(k:bM->bF->gC):Spec:=⟨λ_=>False,λ_=>.bool false,true,some k,none,false⟩
def ay.iL{k:bM->bF->gC}{l:List (Nat×Spec)}(h:ay P (bB l))
  (hk:∀args ab,(k args ab).ok->(∀N,(∀r,N<=r->ab r=none)->aY P f args ab (k args ab))/\∀r,ab r=none->(k args ab).ab r=none):ay P (bB ((f,eL k)::l)):=
 h.add ⟨λ_ h=>h.elim,λ_ _ h=>(by cases h),λk' e=>by cases e;exact hk⟩
def pj.ok{f:FuncId}{ts:aK}{e:Nat}{aw:List (aK)}(h:pj P f ts e sz aw):bb P f ts (.sl aw):=
 ⟨h.entry,λW w cT hW hg hr=>(h.run W w cT hW hg hr).mono λe' w' ⟨v,h1,hb,hf⟩=>⟨v,h1,hb,by
  simp only[bw];rcases hf.it with⟨h2,a,h3⟩|⟨g,cap,eV,h2,hp,zH,hh,h3,h4,h5,h6⟩
  ·exact .inl ⟨h2,a,0,h3⟩
  ·refine .inr ⟨g,0,cap,sz,h2,(w7.1 hh).1,λhw=>?_,h3,bL.kA (bu.bi (dJ.refl (λb=>W b\/b=g) w').toKeepsC (λb _ hb=>.inl hb) _ _ h6) hf.len λj v hv=>?_⟩
   ·have:=hW g hw;omega
   ·rw[KR,cell_of_row w' g j eV e (0,0) hh];rw[Hv]at hv;split at hv
    ·simpa using hv
    ·cases hv⟩⟩
def Am(pre:aK->Prop)(fn:aK->List (aK))(e sz:Nat):Spec:=⟨pre,λts=>.sl (fn ts),false,none,some (e,sz),false⟩
def ay.WZ{pre:aK->Prop}{e:Nat}{l:List (Nat×Spec)}(h:ay P (bB l))(k:∀ts,pre ts->pj P f ts e sz (fn ts)):ay P (bB ((f,Am pre fn e sz)::l)):=
 h.add ⟨λts hp=>⟨(k ts hp).ok,λx=>by cases x⟩,λe' jI hf ts hp=>(by cases hf;exact⟨_,rfl,k ts hp,λx=>by cases x⟩),λk hk=>(by cases hk)⟩
def C1(pre:aK->Prop)(fn:aK->List (aK))(e sz:Nat):Spec:=⟨pre,λts=>.sl (fn ts),false,none,some (e,sz),true⟩
def ay.W0{pre:aK->Prop}{e:Nat}{l:List (Nat×Spec)}(h:ay P (bB l))(k:∀ts,pre ts->pj P f ts e sz (fn ts)/\jL.jT (fn ts).flatten=true):ay P (bB ((f,C1 pre fn e sz)::l)):=
 h.add ⟨λts hp=>⟨(k ts hp).1.ok,λx=>by cases x⟩,λe' jI hf ts hp=>(by cases hf;exact⟨_,rfl,(k ts hp).1,λ_=>(k ts hp).2⟩),λk hk=>(by cases hk)⟩
@[simp] def agm(pre:aK->Prop)(fn:aK->List (aK))(e sz:Nat):(C1 pre fn e sz).fresh=some (e,sz):=rfl
@[simp] def amR(pre:aK->Prop)(fn:aK->List (aK))(e sz:Nat)(ts:aK):(C1 pre fn e sz).fn ts=.sl (fn ts):=rfl
@[simp] def al0(pre:aK->Prop)(fn:aK->List (aK))(e sz:Nat):(C1 pre fn e sz).pre=pre:=rfl
@[simp] def ahZ(pre:aK->Prop)(fn:aK->List (aK))(e sz:Nat):(C1 pre fn e sz).gQ=true:=rfl
@[simp] def ah0(pre:aK->Prop)(fn:aK->List (aK))(e sz:Nat):(Am pre fn e sz).gQ=false:=rfl
@[simp] def agn(pre:aK->Prop)(fn:aK->List (aK))(e sz:Nat):(Am pre fn e sz).fresh=some (e,sz):=rfl
@[simp] def amS(pre:aK->Prop)(fn:aK->List (aK))(e sz:Nat)(ts:aK):(Am pre fn e sz).fn ts=.sl (fn ts):=rfl
@[simp] def al4(pre:aK->Prop)(fn:aK->List (aK))(e sz:Nat):(Am pre fn e sz).pre=pre:=rfl
def cK(pre:aK->Prop)(fn:aK->T)(ky:Bool):Spec:=⟨pre,fn,ky,none,none,false⟩
@[simp] def al5(pre:aK->Prop)(fn:aK->T)(ky:Bool):(cK pre fn ky).pre=pre:=rfl
@[simp] def amT(pre:aK->Prop)(fn:aK->T)(ky:Bool):(cK pre fn ky).fn=fn:=rfl
@[simp] def abr(pre:aK->Prop)(fn:aK->T)(ky:Bool):(cK pre fn ky).ky=ky:=rfl
@[simp] def amU(pre:aK->Prop)(fn:aK->T)(ky:Bool):(cK pre fn ky).st=none:=rfl
@[simp] def amV(pre:aK->Prop)(fn:aK->List (aK))(e sz:Nat):(Am pre fn e sz).st=none:=rfl
@[simp] def amW(k:bM->bF->gC):(eL k).st=some k:=rfl
def Pi(g f:Nat)(s:Spec)(l:List (Nat×Spec)):bB ((g,s)::l) f=if f=g then some s else bB l f:=rfl
def Ua(f:Nat):bB [] f=none:=rfl
attribute [simp] Pi Ua
theorem bb.ago{P:Program}{f:FuncId}{ts:aK}{t:T}(h:bb P f ts t){w:World}{cT:Array Value}(hg:GW w λ_=>False)(hr:gH w (λ_=>False) ts cT.toList):
  Calls P f cT w λe w'=>∃v,e=.returned v/\xQ w.heap.size w w'/\bw w' (λ_=>False) t v:=
 h.run (λ_=>False) w cT (λ_ h=>h.elim) hg hr
@[simp] def amX(n:Nat)(h:n<9223372036854775808):IntKind.i64.wrap (no_index (@OfNat.ofNat Int n instOfNat))= @OfNat.ofNat Int n instOfNat:=by
 have e:(@OfNat.ofNat Int n instOfNat)=(n:Int):=rfl;rw[e,aA (by omega)]
@[simp] def amY(n:Nat)(h:n<9223372036854775808):IntKind.i64.wrap (-(no_index (@OfNat.ofNat Int n instOfNat)))= -(@OfNat.ofNat Int n instOfNat):=by
 have e:(@OfNat.ofNat Int n instOfNat)=(n:Int):=rfl;rw[e,aA (by omega)]
end
section
variable{o':Ob}{r:Nat}
variable [bK] [d8]
def gone(aI:bF)(σ:Nat->Nat)(r:Nat):Prop:=∀r',aI r'≠none->σ r'≠r
def W4(ab aI:bF)(σ:Nat->Nat)(r off:Nat):DV->Prop
 |.ptr r' LR=>r=σ r'/\off=LR/\∃cs,aI r'=some (.box cs)
 |.kP cs LR=>off=LR/\ab r=some (.box (cs.map .v))/\gone aI σ r
 |.v (.box cs)=>off=0/\ab r=some (.box (cs.map .v))/\gone aI σ r
 |_=>False
def Ap(ab aI:bF)(σ:Nat->Nat)(r bP:Nat):DV->Prop
 |.bE r' cJ=>r=σ r'/\∃e sz aw e' jI fz,ab r=some (.bJ bP e sz aw)/\aI r'=some (.bJ cJ e' jI fz)
 |.v (.sl aw)=>(∃e sz,ab r=some (.bJ bP e sz aw))/\gone aI σ r
 |_=>False
def RA(ab aI:bF)(σ:Nat->Nat)(r bP:Nat)(i:Int)(off:Nat):DV->Prop
 |.ln r' cJ i' LR=>r=σ r'/\i=i'/\off=LR/\∃e sz aw e' jI fz,ab r=some (.bJ bP e sz aw)/\aI r'=some (.bJ cJ e' jI fz)/\sz=jI/\aw.length=fz.length
 |_=>False
def tE:Option Ob->Prop
 |some (.map _ _ _ _)=>True
 |_=>False
def Fo:Option Ob->Prop
 |some (.cX _ _ _ _)=>True
 |_=>False
def qN(aI:bF)(σ:Nat->Nat)(r:Nat):DV->Prop
 |.jG r'=>r=σ r'/\tE (aI r')
 |_=>False
def W6(aI:bF)(σ:Nat->Nat)(r:Nat):DV->Prop
 |.cX r'=>r=σ r'/\Fo (aI r')
 |_=>False
def ah2(ab aI:bF)(σ:Nat->Nat)(r bP lo n:Nat):DV->Prop
 |.w8 r' cJ lo' n'=>r=σ r'/\lo=lo'/\n=n'/\∃e sz aw e' jI fz,ab r=some (.bJ bP e sz aw)/\aI r'=some (.bJ cJ e' jI fz)/\sz=jI/\aw.length=fz.length
 |.v (.sl fz)=>(∃e sz aw,ab r=some (.bJ bP e sz aw)/\fz=(aw.drop lo).take n)/\gone aI σ r
 |_=>False
def W7(ab aI:bF)(σ:Nat->Nat)(r n:Nat):DV->Prop
 |.G2 r' n'=>r=σ r'/\n=n'/\∃cs,aI r'=some (.box cs)
 |.v (.sl aw)=>aw.length=n/\(∃sz,∀x∈aw,x.length=sz)/\ab r=some (.box (aw.flatten.map .v))/\gone aI σ r
 |_=>False
def Fp{o:Option Ob}(h:tE o):∃cL agg c es,o=some (.map cL agg c es):=by
 unfold tE at h;split at h
 ·exact⟨_,_,_,_,rfl⟩
 ·exact h.elim
def Uc{o:Option Ob}(h:Fo o):∃m s sn l,o=some (.cX m s sn l):=by
 unfold Fo at h;split at h
 ·exact⟨_,_,_,_,rfl⟩
 ·exact h.elim
def JC:DV->Option (bM)
 |.agg ds=>some ds
 |.v (.agg ts)=>some (ts.map .v)
 |_=>none
mutual
def jB(ab aI:bF)(σ:Nat->Nat):DV->DV->Prop
 |.bH,d'=>d'=.undef\/d'=.bH\/d'=.v (.sl [])
 |.ptr r off,d'=>d'=.undef\/W4 ab aI σ r off d'
 |.bE r bP,d'=>d'=.undef\/Ap ab aI σ r bP d'
 |.ln r bP i off,d'=>d'=.undef\/RA ab aI σ r bP i off d'
 |.agg ds,d'=>d'=.undef\/match JC d' with|some sN=>jg ab aI σ ds sN|none=>False
 |.undef,d'=>d'=.undef
 |.skip,d'=>d'=.undef\/d'=.skip
 |.v t,d'=>d'=.undef\/d'=.v t
 |.nz aw i off,d'=>d'=.undef\/d'=.nz aw i off
 |.kP cs off,d'=>d'=.undef\/d'=.kP cs off
 |.OR,d'=>d'=.undef\/d'=.OR
 |.jG r,d'=>d'=.undef\/qN aI σ r d'
 |.cX r,d'=>d'=.undef\/W6 aI σ r d'
 |.w8 r bP lo n,d'=>d'=.undef\/ah2 ab aI σ r bP lo n d'
 |.G2 r n,d'=>d'=.undef\/W7 ab aI σ r n d'
 |.eE ds,d'=>d'=.undef\/match d' with|.eE sN=>jg ab aI σ ds sN|_=>False
 |.pf f ds,d'=>d'=.undef\/match d' with|.pf f' sN=>f=f'/\jg ab aI σ ds sN|.v (.fn f' ts)=>f=f'/\jg ab aI σ ds (ts.map .v)|_=>False
def jg(ab aI:bF)(σ:Nat->Nat):bM->bM->Prop
 |[],sN=>sN=[]
 |d::ds,sN=>match sN with
  |[]=>False
  |d'::sN=>jB ab aI σ d d'/\jg ab aI σ ds sN
end
def kE(ab aI:bF)(σ:Nat->Nat):List (Nat×T×DV)->List (Nat×T×DV)->Prop
 |[],oO=>oO=[]
 |e::es,oO=>match oO with
  |[]=>False
  |e'::oO=>e.1=e'.1/\e.2.1=e'.2.1/\jB ab aI σ e.2.2 e'.2.2/\kE ab aI σ es oO
def qO{ab aI:bF}{σ:Nat->Nat}:∀{es:List (Nat×T×DV)},(∀e∈es,jB ab aI σ e.2.2 e.2.2)->kE ab aI σ es es
 |[],_=>by simp[kE]
 |e::es,h=>by simp only[kE];exact⟨trivial,trivial,h e (by simp),qO λe he=>h e (by simp[he])⟩
def px(ab aI:bF)(σ:Nat->Nat):Ob->Ob->Prop
 |.box cs,.box x9=>jg ab aI σ cs x9
 |.bJ _ e sz aw,.bJ _ e' jI fz=>e=e'/\sz=jI/\aw=fz
 |.map cL agg c es,.map lI lJ c' oO=>cL=lI/\agg=lJ/\c=c'/\kE ab aI σ es oO
 |.cX m s sn l,.cX m' s' sn' l'=>m=σ m'/\s=s'/\sn=sn'/\l=l'/\tE (aI m')
 |_,_=>False
def kp:Ob->Ob->Prop
 |.box _,.box _=>True
 |.bJ v _ sz aw,.bJ v' _ jI fz=>v=v'/\sz=jI/\aw.length=fz.length
 |.map _ _ _ _,.map _ _ _ _=>True
 |.cX _ _ _ _,.cX _ _ _ _=>True
 |_,_=>False
def Aq{o:Ob}(h:kp o o'):o'.kind=o.kind:=by cases o<;>cases o'<;>first|rfl|exact h.elim
def Loc.Fq(L:Loc)(σ:Nat->Nat):Loc:=⟨λr=>L.kx (σ r),λr=>L.sl (σ r),L.yl⟩
section
variable{base:Nat}{W M:f9}{w0 w:World}{ab aI:bF}{L:Loc}{σ:Nat->Nat}
def xw{o:Ob}(h:px ab aI σ o o')(r:Nat):(L.Fq σ).own r o'=L.own (σ r) o:=by
 cases o<;>cases o'<;>first|rfl|exact h.elim
def mZ(iy:∀r' o',aI r'=some o'->∃o,ab (σ r')=some o/\∀r,(L.Fq σ).own r o'=L.own (σ r) o)(b:Nat)(h:WW W aI (L.Fq σ) b):WW W ab L b:=by
 rcases h with h|⟨r',o',h1,h2⟩
 ·exact .inl h
 ·obtain⟨o,h3,h4⟩:=iy r' o' h1;exact .inr ⟨σ r',o,h3,by rw[<-h4];exact h2⟩
def Fs(hO:cO base W M w0 ab w L)(iy:∀r' o',aI r'=some o'->∃o,ab (σ r')=some o/\∀r,(L.Fq σ).own r o'=L.own (σ r) o){b:Nat}{o:Ob}(hr:ab r=some o)(hb:L.own r o=some b)(hg:gone aI σ r):¬WW W aI (L.Fq σ) b:=by
 rintro(h|⟨r',o',h1,h2⟩)
 ·exact hO.tu r o b hr hb h
 ·obtain⟨o2,h3,h4⟩:=iy r' o' h1;rw[h4]at h2;exact hO.apart r (σ r') o o2 b (λe=>hg r' (by rw[h1];exact λe=>by cases e) e.symm) hr h3 hb h2
def yP(hO:cO base W M w0 ab w L)(iy:∀r' o',aI r'=some o'->∃o,ab (σ r')=some o/\∀r,(L.Fq σ).own r o'=L.own (σ r) o){cs:aK}(hr:ab r=some (.box (cs.map .v)))(hg:gone aI σ r):
  L.kx r<w.heap.size/\¬WW W aI (L.Fq σ) (L.kx r)/\eQ w (WW W aI (L.Fq σ)) (L.kx r) 0 cs:=by
 have hb:=hO.ob r _ hr;obtain⟨c,e,hc,iJ,_⟩:=hb;refine⟨(w7.1 hc).1,Fs hO iy hr rfl hg,eQ.EE cs 0 λj t hj=>?_⟩;have hd:(cs.map DV.v)[j]? =some (.v t):=by simp[hj]
 obtain⟨v,hv,h1,h2⟩:=aX.get iJ hd;simp only[aC]at h2;refine⟨v, ?_,h1,bw.bi (dJ.refl (WW W ab L) w).toKeepsC (λb _ hb=>mZ iy b hb) t v h2⟩;simp only[World.cell?,hc,KR];simpa using hv
def Pm(hO:cO base W M w0 ab w L)(iy:∀r' o',aI r'=some o'->∃o,ab (σ r')=some o/\∀r,(L.Fq σ).own r o'=L.own (σ r) o){bP e sz:Nat}{aw:List (aK)}(hr:ab r=some (.bJ bP e sz aw))(hg:gone aI σ r):
  bw w (WW W aI (L.Fq σ)) (.sl aw) (L.sl r):=by
 have vy:=hO.ob r _ hr;obtain⟨jJ,ew,hm,mN⟩:=vy;simp only[bw];rcases mN with⟨rfl,p,hp⟩|⟨g',cap,eV,vm,hp,hh,kw,um,I0,iJ⟩
 ·exact .inl ⟨rfl,p,0,hp⟩
 ·have zX:bm (L.sl r)=some g':=by simp[vm,bm,GY.1 hp]
  refine .inr ⟨g',0,cap,sz,vm,(w7.1 hh).1,Fs hO iy hr (by simpa [Loc.own]using zX) hg,kw, ?_⟩;have xR:=rK.aw (hO.ob r _ hr) (g:=g') zX;obtain⟨vs,zI,DX,Wc⟩:=bL.flatten xR;exact bL.kA (bu.bi (dJ.refl (WW W ab L) w).toKeepsC (λb _ hb=>mZ iy b hb) _ _ DX) ew Wc
def yQ{ts:aK}:∀{vs:List Value},aX w W ab L (ts.map .v) vs->bu w (WW W ab L) ts vs:=by
 induction ts with
 |nil=>intro vs h;simpa [aX,bu]using h
 |cons t ts ih=>
  intro vs h;simp only[rW,aX]at h;obtain⟨v,kj,rfl,h1,h2,h3⟩:=h;simp only[aC]at h2;simp only[bu];exact⟨v,kj,rfl,h1,h2,ih h3⟩
def D5(hO:cO base W M w0 ab w L)(iy:∀r' o',aI r'=some o'->∃o,ab (σ r')=some o/\∀r,(L.Fq σ).own r o'=L.own (σ r) o):
  ∀n,(∀(d d':DV) (x:Value),SizeOf.sizeOf d<n->jB ab aI σ d d'->aC w W ab L d x->aC w W aI (L.Fq σ) d' x)/\
   (∀(ds sN:bM) (xs:List Value),SizeOf.sizeOf ds<n->jg ab aI σ ds sN->aX w W ab L ds xs->aX w W aI (L.Fq σ) sN xs)/\
   (∀(ds sN:bM) (xs:List Value),SizeOf.sizeOf ds<n->jg ab aI σ ds sN->fj w W ab L ds xs->fj w W aI (L.Fq σ) sN xs):=by
 have oT:∀(t:T) (x:Value),bw w (WW W ab L) t x->bw w (WW W aI (L.Fq σ)) t x:=λt x h=>bw.bi (dJ.refl (WW W ab L) w).toKeepsC (λb _ hb=>mZ iy b hb) t x h;intro n;induction n with
 |zero=>exact⟨λ_ _ _ h=>by omega,λ_ _ _ h=>by omega,λ_ _ _ h=>by omega⟩
 |succ n ih=>
  refine⟨λd d' x hn hc hr=>?_,λds sN xs hn hc hr=>?_,λds sN xs hn hc hr=>?_⟩
  ·by_cases hu:d'=.undef
   ·subst hu;simp[aC]
   cases d with
   |undef=>simp only[jB]at hc;exact eK hc hu
   |skip=>simp only[jB,hu,JD]at hc;subst hc;simpa only[aC]using hr
   |OR=>simp only[jB,hu,JD]at hc;subst hc;simp only[aC,Loc.Fq]at hr⊢;exact hr
   |v t=>simp only[jB,hu,JD]at hc;subst hc;simp only[aC]at hr⊢;exact oT t x hr
   |nz aw i off=>
    simp only[jB,hu,JD]at hc;subst hc;simp only[aC]at hr⊢;obtain⟨b,o,sz,hx,hb,T3,xR,h1,h2⟩:=hr;exact⟨b,o,sz,hx,hb,λk=>T3 (mZ iy b k),bL.bi (dJ.refl (WW W ab L) w).toKeepsC (λb _ hb=>mZ iy b hb) hb T3 sz o aw xR,h1,h2⟩
   |kP cs off=>
    simp only[jB,hu,JD]at hc;subst hc;simp only[aC]at hr⊢;obtain⟨b,o,hx,hb,T3,xR⟩:=hr;exact⟨b,o,hx,hb,λk=>T3 (mZ iy b k),eQ.bi (dJ.refl (WW W ab L) w).toKeepsC (λb _ hb=>mZ iy b hb) hb T3 o cs xR⟩
   |jG r=>
    simp only[jB,hu,JD]at hc;simp only[aC]at hr;cases d' with
    |jG r'=>
     obtain⟨rfl,hm⟩:=hc;simp only[aC];exact⟨Fp hm,hr.2⟩
    |_=>exact hc.elim
   |cX r=>
    simp only[jB,hu,JD]at hc;simp only[aC]at hr;cases d' with
    |cX r'=>
     obtain⟨rfl,hm⟩:=hc;simp only[aC];exact⟨Uc hm,hr.2⟩
    |_=>exact hc.elim
   |eE ds=>
    simp only[jB,hu,JD]at hc;simp only[aC]at hr;obtain⟨vs,rfl,hr⟩:=hr;cases d' with
    |eE sN=>
     simp only[aC];exact⟨vs,rfl,ih.2.2 ds sN _ (by simp at hn⊢;omega) hc hr⟩
    |_=>exact hc.elim
   |pf f ds=>
    simp only[jB,hu,JD]at hc;simp only[aC]at hr;obtain⟨vs,rfl,hr⟩:=hr;cases d' with
    |pf f' sN=>
     obtain⟨rfl,hc⟩:=hc;simp only[aC];exact⟨vs,rfl,ih.2.1 ds sN _ (by simp at hn⊢;omega) hc hr⟩
    |v t=>
     cases t with
     |fn f' ts=>
      obtain⟨rfl,hc⟩:=hc;simp only[aC,bw];exact⟨vs,rfl,yQ (ih.2.1 ds _ _ (by simp at hn⊢;omega) hc hr)⟩
     |_=>exact hc.elim
    |_=>exact hc.elim
   |G2 r m=>
    simp only[jB,hu,JD]at hc;simp only[aC]at hr;obtain⟨⟨cs0,awh⟩,rfl⟩:=hr;cases d' with
    |G2 r' m'=>
     obtain⟨rfl,rfl,cs,pi⟩:=hc;simp only[aC];exact⟨⟨cs,pi⟩,rfl⟩
    |v t=>
     cases t with
     |sl aw=>
      obtain⟨rfl,⟨sz,jJ⟩,vy,hg⟩:=hc;obtain⟨h1,h2,h3⟩:=yP hO iy vy hg;simp only[aC,bw];refine .inr ⟨L.kx r,0,aw.length,sz,rfl,h1,h2,eF _, ?_⟩;obtain⟨vs,ya,mM⟩:=eQ.cT h3;exact bL.kA ya jJ mM
     |_=>exact hc.elim
    |_=>exact hc.elim
   |w8 r bP lo m=>
    simp only[jB,hu,JD]at hc;simp only[aC]at hr;obtain⟨Lj,sM,e2,Ht,mU,fW,Lk,hx⟩:=hr;cases d' with
    |w8 r' cJ lo' m'=>
     obtain⟨rfl,rfl,rfl,e,sz,aw,e',jI,fz,h1,h2,h3,h4⟩:=hc;rw[fW]at h1;simp only[cI,Ob.bJ.injEq]at h1;obtain⟨rfl,rfl,rfl,rfl⟩:=h1;simp only[aC];refine⟨Lj,cJ,e',jI,fz,h2,eF _,λ_=>?_⟩;obtain⟨k0,p,cap,p2,k1,k2,k3⟩:=hx rfl;exact⟨by rw[<-h4];exact k0,p,cap,p2,by rw[<-h4];exact k1,k2,by rw[<-h3];exact k3⟩
    |v t=>
     cases t with
     |sl fz=>
      obtain⟨⟨e,sz,aw,h1,rfl⟩,hg⟩:=hc;rw[fW]at h1;simp only[cI,Ob.bJ.injEq]at h1;obtain⟨rfl,rfl,rfl,rfl⟩:=h1;have hx:=hx rfl;simp only[aC,bw];have IQ:((mU.drop lo).take m).length=m:=by rw[xj,VF];omega
      rcases wb hO fW hx with⟨rfl,a,c,rfl⟩|⟨g,c,zX,rfl,I9,xR⟩
      ·exact .inl ⟨by simp,a,c,rfl⟩
      ·refine .inr ⟨g,lo*Ht,c,Ht,by rw[IQ],(hO.ob r _ fW).lt (by simpa [Loc.own]using zX),Fs hO iy fW (by simpa [Loc.own]using zX) hg,by omega, ?_⟩;obtain⟨vs,zI,DX,Wc⟩:=bL.flatten xR;exact bL.kA (bu.bi (dJ.refl (WW W ab L) w).toKeepsC (λb _ hb=>mZ iy b hb) _ _ DX) (λx hx=>(hO.ob r _ fW).2.1 x (Zb1 (DB hx))) Wc
     |_=>exact hc.elim
    |_=>exact hc.elim
   |bH=>
    simp only[jB,hu,JD]at hc;rcases hc with rfl|rfl
    ·simpa only[aC]using hr
    ·simp only[aC]at hr;obtain⟨a,rfl⟩:=hr;simp only[aC,bw];exact .inl ⟨trivial,a,0,rfl⟩
   |ptr r off=>
    simp only[jB,hu,JD]at hc;simp only[aC]at hr;obtain⟨⟨cs0,awh⟩,rfl⟩:=hr;cases d' with
    |ptr r' LR=>
     obtain⟨rfl,rfl,cs,pi⟩:=hc;simp only[aC];exact⟨⟨cs,pi⟩,rfl⟩
    |kP cs LR=>
     obtain⟨rfl,vy,hg⟩:=hc;obtain⟨h1,h2,h3⟩:=yP hO iy vy hg;simp only[aC];exact⟨L.kx r,0,by simp,h1,h2,h3⟩
    |v t=>
     cases t with
     |box cs=>
      obtain⟨rfl,vy,hg⟩:=hc;obtain⟨h1,h2,h3⟩:=yP hO iy vy hg;simp only[aC,bw];exact⟨L.kx r,0,rfl,h1,h2,h3⟩
     |_=>exact hc.elim
    |_=>exact hc.elim
   |bE r bP=>
    simp only[jB,hu,JD]at hc;simp only[aC]at hr;obtain⟨Lj,sM,e2,Ht,mU,fW,Lk,hx⟩:=hr;cases d' with
    |bE r' cJ=>
     obtain⟨rfl,e,sz,aw,e',jI,fz,h1,h2⟩:=hc;rw[fW]at h1;simp only[cI,Ob.bJ.injEq]at h1;obtain⟨rfl,_⟩:=h1;simp only[aC];exact⟨Lj,cJ,e',jI,fz,h2,eF _,λ_=>hx rfl⟩
    |v t=>
     cases t with
     |sl aw=>
      obtain⟨⟨e,sz,h1⟩,hg⟩:=hc;rw[fW]at h1;simp only[cI,Ob.bJ.injEq]at h1;obtain⟨rfl,rfl,rfl,rfl⟩:=h1;have hx:=hx rfl;subst hx;simp only[aC];exact Pm hO iy fW hg
     |_=>exact hc.elim
    |_=>exact hc.elim
   |ln r bP i off=>
    simp only[jB,hu,JD]at hc;simp only[aC]at hr;obtain⟨Lj,sM,e2,Ht,mU,fW,Lk,hx⟩:=hr;cases d' with
    |ln r' cJ i' LR=>
     obtain⟨rfl,rfl,rfl,e,sz,aw,e',jI,fz,h1,h2,h3,h4⟩:=hc;rw[fW]at h1;simp only[cI,Ob.bJ.injEq]at h1;obtain⟨rfl,rfl,rfl,rfl⟩:=h1;simp only[aC];refine⟨Lj,cJ,e',jI,fz,h2,eF _,λ_=>?_⟩;obtain⟨g,k1,k2,k3,k4⟩:=hx rfl;exact⟨g,k1,by rw[<-h3];exact k2,k3,by rw[<-h4];exact k4⟩
    |_=>exact hc.elim
   |agg ds=>
    simp only[jB,hu,JD]at hc;simp only[aC]at hr;obtain⟨vs,rfl,hr⟩:=hr;cases d' with
    |agg sN=>
     simp only[JC]at hc;simp only[aC];exact⟨vs,rfl,ih.2.1 ds sN _ (by simp at hn⊢;omega) hc hr⟩
    |v t=>
     cases t with
     |agg ts=>
      simp only[JC]at hc;simp only[aC,bw];exact⟨vs,rfl,yQ (ih.2.1 ds _ _ (by simp at hn⊢;omega) hc hr)⟩
     |_=>exact hc.elim
    |_=>exact hc.elim
  ·cases ds with
   |nil=>simp only[jg]at hc;subst hc;simpa only[aX]using hr
   |cons d ds=>
    cases sN with
    |nil=>simp[jg]at hc
    |cons d' sN=>
     simp only[jg]at hc;simp only[aX]at hr⊢;obtain⟨y,ys,hv,h1,h2,h3⟩:=hr;exact⟨y,ys,hv,h1,ih.1 d d' y (by simp at hn⊢;omega) hc.1 h2,ih.2.1 ds sN ys (by simp at hn⊢;omega) hc.2 h3⟩
  ·cases ds with
   |nil=>simp only[jg]at hc;subst hc;simpa only[fj]using hr
   |cons d ds=>
    cases sN with
    |nil=>simp[jg]at hc
    |cons d' sN=>
     simp only[jg]at hc;simp only[fj]at hr⊢;obtain⟨y,ys,hv,h2,h3⟩:=hr;exact⟨y,ys,hv,ih.1 d d' y (by simp at hn⊢;omega) hc.1 h2,ih.2.2 ds sN ys (by simp at hn⊢;omega) hc.2 h3⟩
def Le.cor{st dL:mK}(σ:Nat->Nat)(BI:dL.low=st.low)(LS:dL.todo=st.todo)(Ft:∀r,dL.aJ<=r->dL.ab r=none)
  (iy:∀r' o',dL.ab r'=some o'->∃o,st.ab (σ r')=some o/\px st.ab dL.ab σ o o')
  (awi:∀r1 r2,dL.ab r1≠none->dL.ab r2≠none->σ r1=σ r2->r1=r2)
  (C3:∀r,r<st.low->∀o,st.ab r=some o->σ r=r/\∃o',dL.ab r=some o'/\kp o o')
  (g8:∀k,jB st.ab dL.ab σ (st.tmps k) (dL.tmps k)):Le st dL:=by
 intro κ nt a w L h;refine⟨L.Fq σ,⟨?_, ?_,h.r.defers,h.r.bg,⟨_,Ft⟩⟩,Ft,by rw[BI];exact h.low,by rw[BI];exact h.it⟩
 ·obtain⟨W,base,M,w0,dW,h0⟩:=h.r.ex;have hO:=h0.o;have vy:∀r' o',dL.ab r'=some o'->∃o,st.ab (σ r')=some o/\∀r,(L.Fq σ).own r o'=L.own (σ r) o:=λr' o' h=>let⟨o,h1,h2⟩:=iy r' o' h;⟨o,h1,xw h2⟩
  have cr:=λ(d d':DV) (x:Value)=>(D5 hO vy (SizeOf.sizeOf d+1)).1 d d' x (by omega);have crs:=λ(ds sN:bM) (xs:List Value)=>(D5 hO vy (SizeOf.sizeOf ds+1)).2.1 ds sN xs (by omega);refine⟨W,base,M,w0,by rw[LS];exact dW,h0.size,λt=>cr _ _ _ (g8 t) (h0.tmps t),⟨hO.fr,λr' o' jA=>?_,λr1 r2 o1 o2 b cj h1 h2 vR gn=>?_,λr' o' b jA hb=>?_,hO.under,hO.gl.bi (dJ.refl (WW W st.ab L) w).toKeepsC λb _ hb=>mZ vy b hb⟩⟩
  ·obtain⟨o,ho,hc⟩:=iy r' o' jA;have hk:=hO.ob (σ r') o ho;cases o with
   |box cs=>
    cases o' with
    |box x9=>
     obtain⟨c,e,ct,hr,hm⟩:=hk;exact⟨c,e,ct,crs cs x9 _ hc hr,hm⟩
    |_=>exact hc.elim
   |map cL agg c es=>
    cases o' with
    |map lI lJ c' oO=>
     obtain⟨rfl,rfl,rfl,rP⟩:=hc;obtain⟨bJ,ct,hr,k1,k2,k3,hm⟩:=hk;have key:∀(es oO:List (Nat×T×DV)) (xs:List MapEntry),kE st.ab dL.ab σ es oO->bX w W st.ab L es xs->bX w W dL.ab (L.Fq σ) oO xs/\oO.map (·.1)=es.map (·.1)/\oO.map (·.2.1)=es.map (·.2.1):=by
      intro es;induction es with
      |nil=>intro oO xs h1 h2;simp only[kE]at h1;subst h1;exact⟨by simpa only[bX]using h2,rfl,rfl⟩
      |cons e es ih=>
       intro oO xs h1 h2;cases oO with
       |nil=>simp[kE]at h1
       |cons e' oO=>
        simp only[kE]at h1;simp only[bX]at h2⊢;obtain⟨x,mL,rfl,q0,q1,q2,q3⟩:=h2;obtain⟨i1,i2,i3⟩:=ih oO mL h1.2.2.2 q3;refine⟨⟨x,mL,rfl,q0.trans h1.1, ?_,cr _ _ _ h1.2.2.1 q2,i1⟩,by simp[i2,h1.1],by simp[i3,h1.2.1]⟩;rw[<-h1.2.1];exact bw.bi (dJ.refl (WW W st.ab L) w).toKeepsC (λb _ hb=>mZ vy b hb) _ _ q1
     obtain⟨i1,i2,i3⟩:=key es oO _ rP hr;refine⟨bJ,ct,i1,λe he=>?_,λe he=>?_,by rw[i2];exact k3,hm⟩
     ·have:e.2.1∈es.map (·.2.1):=by rw[<-i3];exact iF.2 ⟨e,he,rfl⟩
      obtain⟨e0,h0',Ot⟩:=iF.1 this;rw[<-Ot];exact k1 e0 h0'
     ·have:e.1∈es.map (·.1):=by rw[<-i2];exact iF.2 ⟨e,he,rfl⟩
      obtain⟨e0,h0',Ot⟩:=iF.1 this;rw[<-Ot];exact k2 e0 h0'
    |_=>exact hc.elim
   |cX m s sn l=>
    cases o' with
    |cX m' s' sn' l'=>
     obtain⟨rfl,rfl,rfl,rfl,Oo⟩:=hc;obtain⟨ct,_,hm⟩:=hk;exact⟨ct,Fp Oo,hm⟩
    |_=>exact hc.elim
   |bJ bP e sz aw=>
    cases o' with
    |box _=>exact hc.elim
    |map _ _ _ _=>exact hc.elim
    |cX _ _ _ _=>exact hc.elim
    |bJ cJ e' jI fz=>
     obtain⟨rfl,rfl,rfl⟩:=hc;obtain⟨g1,g2,g3,g4⟩:=hk;refine⟨g1,g2,g3, ?_⟩;rcases g4 with g4|⟨g,cap,eV,hv,hp,hh,k1,k2,k3,k4⟩
     ·exact .inl g4
     ·exact .inr ⟨g,cap,eV,hv,hp,hh,k1,k2,k3,bu.bi (dJ.refl (WW W st.ab L) w).toKeepsC (λb _ hb=>mZ vy b hb) _ _ k4⟩
  ·obtain⟨p1,q1,c1⟩:=iy r1 o1 h1;obtain⟨p2,q2,c2⟩:=iy r2 o2 h2;rw[xw c1]at vR;rw[xw c2]at gn;exact hO.apart (σ r1) (σ r2) p1 p2 b (λe=>cj (awi r1 r2 (λe=>by rw[show dL.ab r1=some o1 from h1]at e;cases e) (λe=>by rw[show dL.ab r2=some o2 from h2]at e;cases e) e)) q1 q2 vR gn
  ·obtain⟨p1,q1,c1⟩:=iy r' o' jA;rw[xw c1]at hb;exact hO.tu (σ r') p1 b q1 hb
 ·have ha:iH κ.W κ.go κ.gL (κ.Ox st.todo) st.ab L w:=h.r.fP;show iH κ.W κ.go κ.gL (κ.Ox dL.todo) dL.ab (L.Fq σ) w;rw[LS];refine⟨ha.dP,λb hb hw=>ha.sub b hb (mZ (λr' o' h=>let⟨o,h1,h2⟩:=iy r' o' h;⟨o,h1,xw h2⟩) b hw),λr o hr hk=>?_,λr bP e sz aw hr=>?_,ha.yl⟩
  ·have eG:r<st.low:=ZbY λkw=>by rw[h.low r kw]at hr;cases hr
   obtain⟨e1,o1,tg,rH⟩:=ha.fix r o hr hk;obtain⟨hs,o',jA,hv⟩:=C3 r eG _ tg;exact⟨by simp only[Loc.Fq,hs];exact e1,o',jA,(Aq hv).trans rH⟩
  ·have eG:r<st.low:=ZbY λkw=>by rw[h.low r kw]at hr;cases hr
   obtain⟨v1,e1,s1,r1,tg,l1,k1⟩:=ha.bJ r bP e sz aw hr;obtain⟨hs,o',jA,hv⟩:=C3 r eG _ tg;cases o' with
   |box x9=>exact hv.elim
   |map _ _ _ _=>exact hv.elim
   |cX _ _ _ _=>exact hv.elim
   |bJ v2 e2 s2 r2=>
    obtain⟨rfl,rfl,h3⟩:=hv;exact⟨v1,e2,s1,r2,jA,l1,λhv=>by
     obtain⟨a1,a2,a3⟩:=k1 hv;exact⟨by simp only[Loc.Fq,hs];exact a1,a2,by rw[<-h3];exact a3⟩⟩
end
end
section
variable{r aV:Nat}{o0:df}{iV:Bool}{rs:cu}
variable [bK] [d8]
section
variable{P:Program}{nt:Nat}
def Pq(qs:Array Nat)(cT:Array Value)(tm:Array Value):(qs.zip cT).foldl (λt (p,v)=>t.setIfInBounds p v) tm=(qs.toList.zip cT.toList).foldl (λt (pv:Nat×Value)=>t.setIfInBounds pv.1 pv.2) tm:=by
 rw[<-Array.foldl_toList,Array.toList_zip]
def Ue{ro:Option Nat}{w:World}{fn:FuncId}{tm:Array Value}{ps:Array Nat}{y z:Code}(kO:∀l,ro=some l->∃r,w.heap[l]? =some (.loop r)):
  ∃(l:Nat) (Ds:cY) (W1:World) (rec:Loop),(Instr.enterLoop fn tm ps y z ro).run P w=.ok (l,Ds.map mark) W1/\xQ w.heap.size w W1/\w.heap.size<=l/\W1.heap[l]? =some (.loop rec)/\
   rec.state=.ready/\rec.pending=none/\rec.fn=fn/\rec.tmps=tm/\rec.params=ps/\rec.assign=y/\rec.body=z/\Ds.Nodup/\(∀D∈Ds,W1.heap[D]? =some (.deferred (some []))/\w.heap.size<=D):=by
 cases ro with
 |none=>
  refine⟨_,[w.heap.size],_,{state:=.ready,pending:=none,fn,tmps:=tm,params:=ps,assign:=y,body:=z,defers:=w.heap.size},run_enterLoop_outer _ _ _ _ _, ?_,by simp, ?_,rfl,rfl,rfl,rfl,rfl,rfl,rfl,by simp, ?_⟩
  ·exact⟨((Below.refl _ w).alloc (eF _) _).alloc (by simp) _,eF _⟩
  ·have:=World.alloc_heap_new (w.alloc (.deferred (some []))) (.loop {state:=.ready,pending:=none,fn,tmps:=tm,params:=ps,assign:=y,body:=z,defers:=w.heap.size})
   rwa [World.size_alloc]at this
  ·intro D hD;simp only[pe]at hD;subst hD;exact⟨(Below.heap_alloc _ _ _ (by simp)).trans (World.alloc_heap_new w _),eF _⟩
 |some l0=>
  obtain⟨r0,hr0⟩:=kO l0 rfl;refine⟨_,[],_,{state:=.ready,pending:=none,fn,tmps:=tm,params:=ps,assign:=y,body:=z,defers:=r0.defers},run_enterLoop_inner hr0 _ _ _ _ _, ?_,eF _,World.alloc_heap_new w _,rfl,rfl,rfl,rfl,rfl,rfl,rfl,Zch,λD hD=>by cases hD⟩;exact⟨(Below.refl _ w).alloc (eF _) _,eF _⟩
end
def gf(ab aI:bF)(σ:Nat->Nat)(tm:dG):fg->Prop
 |[]=>True
 |(k,d)::l=>jB ab aI σ (tm k) d/\gf ab aI σ tm l
def uC(ab aI:bF)(σ:Nat->Nat):df->Prop
 |[]=>True
 |(r,o)::l=>(∃o0,ab (σ r)=some o0/\px ab aI σ o0 o)/\uC ab aI σ l
def oe(n:Nat):df->Prop
 |[]=>True
 |(r,_)::l=>r<n/\oe n l
def tF(n:Nat):df->Prop
 |[]=>True
 |(r,_)::l=>n<=r/\tF n l
def JE(σ:Nat->Nat)(r:Nat):df->Prop
 |[]=>True
 |(r',_)::l=>(σ r=σ r'->r=r')/\JE σ r l
def D6(σ:Nat->Nat):df->Prop
 |[]=>True
 |(r,_)::l=>JE σ r l/\D6 σ l
def kV:∀{l:df} {r:Nat} {o:Ob},cF l r=some o->(r,o)∈l
 |[],_,_,h=>by cases h
 |(j,x)::l,r,o,h=>by
  simp only[cF]at h;split at h
  ·rename_i e;cases h;subst e;exact VN ..
  ·exact VO _ (kV h)
def RC{l:df}(h:cF l r≠none):∃o,(r,o)∈l:=by
 cases ho:cF l r with
 |none=>exact eK ho h
 |some o=>exact⟨o,kV ho⟩
def sS{n:Nat}:∀{l:df},oe n l->∀r o,(r,o)∈l->r<n
 |[],_,_,_,h=>by cases h
 |(j,x)::l,hk,r,o,h=>by
  rcases gm.1 h with e|h
  ·cases e;exact hk.1
  ·exact sS hk.2 r o h
def As{n:Nat}:∀{l:df},tF n l->∀r o,(r,o)∈l->n<=r
 |[],_,_,_,h=>by cases h
 |(j,x)::l,hk,r,o,h=>by
  rcases gm.1 h with e|h
  ·cases e;exact hk.1
  ·exact As hk.2 r o h
def uD{ab aI:bF}{σ:Nat->Nat}:∀{l:df},uC ab aI σ l->∀r o,(r,o)∈l->∃o0,ab (σ r)=some o0/\px ab aI σ o0 o
 |[],_,_,_,h=>by cases h
 |(j,x)::l,hk,r,o,h=>by
  rcases gm.1 h with e|h
  ·cases e;exact hk.1
  ·exact uD hk.2 r o h
def yR{σ:Nat->Nat}{r:Nat}:∀{l:df},JE σ r l->∀r' o,(r',o)∈l->σ r=σ r'->r=r'
 |[],_,_,_,h=>by cases h
 |(j,x)::l,hk,r',o,h=>by
  rcases gm.1 h with e|h
  ·cases e;exact hk.1
  ·exact yR hk.2 r' o h
def C6{σ:Nat->Nat}:∀{l:df},D6 σ l->∀r1 r2 o1 o2,(r1,o1)∈l->(r2,o2)∈l->σ r1=σ r2->r1=r2
 |[],_,_,_,_,_,h,_=>by cases h
 |(j,x)::l,hk,r1,r2,o1,o2,h1,h2=>by
  rcases gm.1 h1 with e1|h1
  ·cases e1;rcases gm.1 h2 with e2|h2
   ·cases e2;exact λ_=>rfl
   ·exact yR hk.1 r2 o2 h2
  ·rcases gm.1 h2 with e2|h2
   ·cases e2;exact λe=>(yR hk.1 r1 o1 h1 e.symm).symm
   ·exact C6 hk.2 r1 r2 o1 o2 h1 h2
@[simp] def abt(σ:Nat->Nat)(r:Nat):gone (cF []) σ r:=λr' h=>by simp[cF]at h
def Xb{σ:Nat->Nat}{j:Nat}{o:Ob}{l:df}(h1:σ j≠r)(h2:gone (cF l) σ r):gone (cF ((j,o)::l)) σ r:=by
 intro r' g0;by_cases hj:r'=j
 ·subst hj;exact h1
 ·exact h2 r' (by rw[dd,bj hj]at g0;exact g0)
def m0{ab aI:bF}{σ:Nat->Nat}{tm:dG}:∀(l:fg),gf ab aI σ tm l->∀k,jB ab aI σ (tm k) (look l k)
 |[],_,k=>by
  show jB ab aI σ (tm k) .undef;cases tm k<;>simp[jB]
 |(j,d)::l,h,k=>by
  simp only[look];split
  ·rename_i e;subst e;exact h.1
  ·exact m0 l h.2 k
def Le.awk{tm:dG}{o:df}{l:fg}{aJ:Nat}{td:List (aK)}{low:Nat}(σ:Nat->Nat)(DJ:tF low o0)(hk:oe aV o)(ha:D6 σ o)
  (iy:uC (cF o0) (cF o) σ o) (g8:gf (cF o0) (cF o) σ tm l):Le ⟨tm,cF o0,aJ,low,td⟩ ⟨look l,cF o,aV,low,td⟩:=by
 refine Le.cor σ rfl rfl (λr hr=>?_) (λr' o' h=>uD iy r' o' (kV h)) (λr1 r2 h1 h2 e=>?_) (λr hr o' h=>?_) (λk=>m0 l g8 k)
 ·cases ho:cF o r with
  |none=>exact ho
  |some x=>have:=sS hk r x (kV ho);simp only at hr;omega
 ·obtain⟨x1,k1⟩:=RC h1;obtain⟨x2,k2⟩:=RC h2;exact C6 ha r1 r2 x1 x2 k1 k2 e
 ·have:=As DJ r o' (kV h);simp only at hr;omega
def Le.bi{tm:dG}{o:df}{l:fg}{aJ:Nat}{td:List (aK)}{low:Nat}(DJ:tF low o0)(hk:oe aV o)
  (iy:uC (cF o0) (cF o) id o) (g8:gf (cF o0) (cF o) id tm l):Le ⟨tm,cF o0,aJ,low,td⟩ ⟨look l,cF o,aV,low,td⟩:=by
 refine Le.awk id DJ hk ?_ iy g8;clear hk iy g8;induction o with
 |nil=>trivial
 |cons p o ih=>
  refine⟨?_,ih⟩;clear ih;induction o with
  |nil=>trivial
  |cons q o ih=>exact⟨λh=>h,ih⟩
attribute [simp] gf uC oe tF JE D6 jB jg W4 W7 Ap RA JC px
def fH(tm:dG):fg->Prop
 |[]=>True
 |(k,d)::l=>tm k=d/\fH tm l
def Fv{tm:dG}:∀{l:fg},fH tm l->∀k,look l k=.undef\/look l k=tm k
 |[],_,_=>.inl rfl
 |(j,d)::l,h,k=>by
  simp only[look];split
  ·rename_i e;subst e;exact .inr h.1.symm
  ·exact Fv h.2 k
section
variable{P:Program}{nt:Nat}{Γ:pW}{Q:Exit->mK->Prop}{tm:dG}{ob:bF}{aJ low:Nat}{td:List (aK)}
def aa.ags(aB:ay P Γ)(hm:P.follows .mixedOrders=true)(l:fg)(oB:bF)
  (h:fO Γ aJ rs ⟨tm,ob,td⟩ λs=>fH s.tmps l/\s.ab=oB/\s.todo=td) (k:Q .normal ⟨look l,oB,aJ+nt+1,low,td⟩):aa P nt (.region iV rs) Q ⟨tm,ob,aJ,low,td⟩:=by
 obtain⟨h1,h2,h3,h4⟩:=jM _ _ _ h;refine aa.Ai (Q:=λe s=>e=.normal/\s=⟨(eH Γ aJ rs ⟨tm,ob,td⟩).tmps,(eH Γ aJ rs ⟨tm,ob,td⟩).ab,aJ+nt+1,low,(eH Γ aJ rs ⟨tm,ob,td⟩).todo⟩) (aa.region aB hm (st:=⟨tm,ob,aJ,low,td⟩) h1 ⟨rfl,rfl⟩) ?_;rintro e s ⟨rfl,rfl⟩;refine⟨_,Le.yj (Fv h2), ?_⟩;simp only[h3,h4];exact k
def aa.LX(aB:ay P Γ)(hm:P.follows .mixedOrders=true){b:DC}(l:fg)(oB:bF)
  (h:fO Γ aJ rs ⟨tm,ob,td⟩ λs=>fH s.tmps l/\s.ab=oB/\s.todo=td) (k:aa P nt b Q ⟨look l,oB,aJ+nt+1,low,td⟩):aa P nt (.seq (.region iV rs) b) Q ⟨tm,ob,aJ,low,td⟩:=
 aa.seq (aa.ags aB hm l oB h k)
def aa.ci(aB:ay P Γ)(hm:P.follows .mixedOrders=true){b:DC}(l:fg)
  (h:fO Γ aJ rs ⟨tm,ob,td⟩ λs=>fH s.tmps l/\s.ab=ob/\s.todo=td) (k:aa P nt b Q ⟨look l,ob,aJ+nt+1,low,td⟩):aa P nt (.seq (.region iV rs) b) Q ⟨tm,ob,aJ,low,td⟩:=
 aa.LX aB hm l ob h k
def aa.to{d:DC}{st:mK}(st2:mK)(h:aa P nt d (λe s=>e=.normal/\Le s st2) st)(k:Q .normal st2):aa P nt d Q st:=
 aa.Ai h λe s ⟨h1,h2⟩=>by subst h1;exact⟨st2,h2,k⟩
end
section
variable{P:Program}{nt:Nat}{d:DC}{Q:Exit->mK->Prop}{low aJ aV:Nat}
def aa.lk{tm:dG}{o0 o:df}{l:fg}{td:List (aK)}(h:tF low o0/\oe aV o/\uC (cF o0) (cF o) id o/\gf (cF o0) (cF o) id tm l)(k:aa P nt d Q ⟨look l,cF o,aV,low,td⟩):aa P nt d Q ⟨tm,cF o0,aJ,low,td⟩:=aa.le (Le.bi h.1 h.2.1 h.2.2.1 h.2.2.2) k
def aa.sq{Γ:pW}{tm:dG}{ob:bF}{td:List (aK)}(aB:ay P Γ)(hm:P.follows .mixedOrders=true){iV:Bool}{rs:cu}{b c:DC}(ks:cY)(h:fO Γ aJ rs ⟨tm,ob,td⟩ λs=>aa P nt b (LM (aa P nt c Q) Q) ⟨look (oT ks s.tmps),s.ab,aJ+nt+1,low,s.todo⟩):aa P nt (.seq (.seq (.region iV rs) b) c) Q ⟨tm,ob,aJ,low,td⟩:=aa.seq (aa.ai aB hm ks h)
def aa.c0{st:mK}{x:cg}{a b:DC}(h:x.ev st.tmps=.v (.bool false))(k:aa P nt b Q st):aa P nt (.cond x a b) Q st:=aa.cond h (λg=>by cases g) λ_=>k
def aa.c1{st:mK}{x:cg}{a b:DC}(h:x.ev st.tmps=.v (.bool true))(k:aa P nt a Q st):aa P nt (.cond x a b) Q st:=aa.cond h (λ_=>k) λg=>by cases g
end
attribute [simp] fH
end
section
variable{args:bM}{ab:bF}
variable [bK] [d8]
section
variable{P:Program}{nt:Nat}{Γ:pW}{Q:Exit->mK->Prop}{tm:dG}{ob:bF}{aJ low:Nat}{td:List (aK)}
def aa.JF(aB:ay P Γ)(hm:P.follows .mixedOrders=true){iV:Bool}{rs:cu}(l:fg)
  (h:fO Γ aJ rs ⟨tm,ob,td⟩ λs=>fH s.tmps l/\s.ab=ob/\s.todo=td) (k:Q .normal ⟨look l,ob,aJ+nt+1,low,td⟩):aa P nt (.region iV rs) Q ⟨tm,ob,aJ,low,td⟩:=
 aa.ags aB hm l ob h k
end
def eY(f:bF)(r:Nat)(o:Ob):bF:=λk=>if k=r then some o else f k
def Po(f:bF)(r:Nat)(o:Ob)(k:Nat):eY f r o k=if k=r then some o else f k:=rfl
@[simp] def al6(f:bF)(r:Nat)(o o':Ob):cV (eY f r o) (some (r,o'))=eY f r o':=by
 funext k;simp only[HK,eY];split<;>rfl
@[simp] def al7(f:bF)(r:Nat)(o o':Ob):eY (eY f r o) r o'=eY f r o':=by
 funext k;simp only[eY];split<;>rfl
def xy{f:bF}{r:Nat}{o o':Ob}(h:f r=some o){k:Nat}(hk:f k=none):eY f r o' k=none:=by
 simp only[eY];split
 ·rename_i e;rw[e,h]at hk;cases hk
 ·exact hk
def Le.same{tm:dG}{ob:bF}{aJ aV low:Nat}{td:List (aK)}{l:fg}(h:∀r,aV<=r->ob r=none)(hl:fH tm l):Le ⟨tm,ob,aJ,low,td⟩ ⟨look l,ob,aV,low,td⟩:=
 Le.trans (Le.yj (Fv hl)) λκ nt a w L r=>⟨L,⟨r.r,h,r.low,r.it⟩⟩
def Fw:∀(ds:bM) (i k:Nat),look ((ds.zipIdx i).map λp=>(p.2,p.1)) k=.undef\/look ((ds.zipIdx i).map λp=>(p.2,p.1)) k=DI (if i<=k then ds[k-i]? else none)
 |[],i,k=>.inl rfl
 |t::ts,i,k=>by
  simp only[rW,Zc1,oa];split
  ·rename_i h;subst h;exact .inr (by simp[DI])
  ·rename_i h;rcases Fw ts (i+1) k with e|e
   ·exact .inl e
   ·right;rw[e];by_cases hk:i+1<=k
    ·rw[cG hk,cG (by omega),show k-i=(k-(i+1))+1 by omega,Zbl]
    ·have:¬i<=k:=by omega
     rw[bj hk,bj this]
def BT{P:Program}{nt:Nat}{d:DC}{Q:Exit->mK->Prop}{N:Nat}(h:aa P nt d Q ⟨look (args.zipIdx.map λp=>(p.2,p.1)),ab,N,N,[]⟩):aa P nt d Q (yi args ab N):=by
 refine aa.le (Le.yj (st:=yi args ab N) (tm:=look (args.zipIdx.map λp=>(p.2,p.1))) λk=>?_) h;have:=Fw args 0 k;simpa [yi]using this
@[simp] def Xc(ob:bF):∀x:aK,ka ob (x.map .v)=x
 |[]=>rfl
 |t::x=>by simp[Xc ob x]
@[simp] def am3(f:bF)(r:Nat)(o:Ob):eY f r o r=some o:=by simp[eY]
def aY.of{P:Program}{f:FuncId}{r r':gC}(h:aY P f args ab r)(h1:r'.ab=r.ab)(h2:r'.val=r.val):aY P f args ab r':=by
 obtain⟨ok,val,ob⟩:=r;obtain⟨ok',ayb,oB⟩:=r';simp only at h1 h2;subst h1 h2;exact⟨h.entry,h.run⟩
end
section
variable{f ob:bF}{o':Ob}{r sz aJ low:Nat}{tm:dG}{td:List (aK)}{σ:Nat->Nat}
variable [bK] [d8]
def Loc.at(L:Loc)(q:Nat)(x:Value):Loc:=⟨L.kx,λk=>if k=q then x else L.sl k,L.yl⟩
section
variable{base:Nat}{W M:f9}{w0 w:World}{ab:bF}{L:Loc}
def gh{q:Nat}{o:Ob}(h:eY f q o r=some o'):(r=q/\o'=o)\/(r≠q/\f r=some o'):=by
 simp only[eY]at h;split at h
 ·rename_i e;exact .inl ⟨e,(Zca h).symm⟩
 ·rename_i e;exact .inr ⟨e,h⟩
def oC{q:Nat}{o:Ob}(h:r≠q)(k:f r=some o'):eY f q o r=some o':=by
 simp only[eY,bj h,k]
def JG{q:Nat}{x:Value}{o:Ob}(h:r≠q):(L.at q x).own r o=L.own r o:=by
 cases o<;>simp[Loc.own,Loc.at,h]
def D7{q:Nat}{a:Option Addr}{v e:Nat}{aw:List (aK)}:(L.at q (.slice a 0 0)).own q (.bJ v e sz aw)=none:=by
 cases a<;>simp[Loc.own,Loc.at,bm]
def Xd{q:Nat}{a:Option Addr}{e:Nat}{b:Nat}(h:WW W (eY ab q (.bJ 0 e sz [])) (L.at q (.slice a 0 0)) b):WW W ab L b:=by
 rcases h with h|⟨r,o,hr,hb⟩
 ·exact .inl h
 ·rcases gh hr with⟨rfl,rfl⟩|⟨cj,hr⟩
  ·rw[D7]at hb;cases hb
  ·rw[JG cj]at hb;exact .inr ⟨r,o,hr,hb⟩
def JH{q:Nat}{a:Option Addr}{e:Nat}(hq:ab q=none):iH W ab L w (eY ab q (.bJ 0 e sz [])) (L.at q (.slice a 0 0)) w:=by
 refine⟨dJ.refl _ _,λb _ h=>Xd h,λr o hr hk=>?_,λr bP e' jI aw hr=>?_,rfl⟩
 ·have cj:r≠q:=λh=>by rw[h,hq]at hr;cases hr
  exact⟨rfl,o,oC cj hr,rfl⟩
 ·have cj:r≠q:=λh=>by rw[h,hq]at hr;cases hr
  exact⟨bP,e',jI,aw,oC cj hr,eF _,λ_=>⟨by simp[Loc.at,cj],rfl,rfl⟩⟩
def LZ(hO:cO base W M w0 ab w L){q:Nat}{a:Option Addr}{e:Nat}(jJ:0<sz)(hq:ab q=none):cO base W M w0 (eY ab q (.bJ 0 e sz [])) w (L.at q (.slice a 0 0)):=by
 have hA:=JH (W:=W) (w:=w) (L:=L) (a:=a) (e:=e) (sz:=sz) hq;refine⟨hO.fr,λr o hr=>?_,λr r' o o' b cj h1 h2 hb=>?_,λr o b hr hb=>?_,hO.under,hO.gl.bi hA.dP.toKeepsC hA.sub⟩
 ·rcases gh hr with⟨rfl,rfl⟩|⟨cj,hr⟩
  ·refine⟨jJ,λx hx=>(by cases hx),λg hg=>?_,.inl ⟨rfl,a,by simp[Loc.at]⟩⟩;exfalso;simp only[Loc.at,km]at hg;cases a<;>simp[bm]at hg
  ·have hk:=hO.ob r o hr;cases o with
   |box cs=>
    obtain⟨c,f,ct,iJ,hm⟩:=hk;exact⟨c,f,ct,aX.fP hA cs _ iJ,hm⟩
   |map cL agg c es=>
    obtain⟨bJ,ct,iJ,q1,q2,q3,hm⟩:=hk;exact⟨bJ,ct,bX.fP hA es _ iJ,q1,q2,q3,hm⟩
   |cX m s sn l=>
    obtain⟨ct,Oo,hm⟩:=hk;exact⟨ct,(hA.mp m Oo).2,hm⟩
   |bJ bP e' jI aw=>
    obtain⟨g1,g2,g3,g4⟩:=hk;have hs:(L.at q (.slice a 0 0)).sl r=L.sl r:=by simp[Loc.at,cj]
    refine⟨g1,g2,by rw[hs];exact g3, ?_⟩;rw[hs];rcases g4 with g4|⟨g,cap,eV,hv,hp,hh,k1,k2,k3,k4⟩
    ·exact .inl g4
    ·exact .inr ⟨g,cap,eV,hv,hp,hh,k1,k2,k3,bu.bi (dJ.refl (WW W ab L) w).toKeepsC (λb _ hb=>Xd hb) _ _ k4⟩
 ·rcases gh h1 with⟨rfl,rfl⟩|⟨n1,h1⟩
  ·rw[D7]at hb;cases hb
  ·rw[JG n1]at hb;rcases gh h2 with⟨rfl,rfl⟩|⟨n2,h2⟩
   ·rw[D7];exact λh=>by cases h
   ·rw[JG n2];exact hO.apart r r' o o' b cj h1 h2 hb
 ·rcases gh hr with⟨rfl,rfl⟩|⟨n1,hr⟩
  ·rw[D7]at hb;cases hb
  ·rw[JG n1]at hb;exact hO.tu r o b hr hb
end
def Le.pQ{k:Nat}(e:Nat)(jJ:0<sz)(hk:tm k=.bH):
  Le ⟨tm,ob,aJ,low,td⟩ ⟨dg tm (some k) (.bE aJ 0),eY ob aJ (.bJ 0 e sz []),aJ+1,low,td⟩:=by
 intro κ nt a w L h;have hq:ob aJ=none:=h.fresh aJ (eF _);obtain⟨W,base,M,w0,dW,h0⟩:=h.r.ex;have hx:=h0.tmps k;simp only[hk,aC]at hx;obtain⟨ad,hx⟩:=hx;have hA:=JH (W:=W) (w:=w) (L:=L) (a:=ad) (e:=e) (sz:=sz) hq;have yN:=dW.sub;have zG:∀r,aJ+1<=r->eY ob aJ (.bJ 0 e sz []) r=none:=λr hr=>by
  simp only[eY];rw[bj (by omega)];exact h.fresh r (by simp only;omega)
 refine⟨L.at aJ (.slice ad 0 0),⟨⟨W,base,M,w0,dW,h0.size,λt=>?_,LZ h0.o jJ hq⟩,iH.comp h.r.fP hA (dW.Jl _) yN.2,h.r.defers,h.r.bg,⟨_,zG⟩⟩,zG,h.low,h.it⟩;simp only[dg];by_cases ht:t=k
 ·subst ht;simp only[km,aC];refine⟨⟨ad,0,0,hx⟩,0,e,sz,[],by simp,eF _,λ_=>?_⟩;rw[hx];simp[Loc.at]
 ·simp only[ht,xd];exact aC.fP hA _ _ (h0.tmps t)
def BU{w:World}{W:f9}{ab:bF}{L:Loc}:∀(cs:bM) (xs:List Value) (k:Nat) (d:DV),aX w W ab L cs xs->(∀x,xs[k]? =some x->aC w W ab L d x)->aX w W ab L (cs.set k d) xs
 |[],xs,k,d,h,_=>by simpa using h
 |c::cs,xs,0,d,h,hd=>by
  simp only[aX]at h;obtain⟨x,mL,rfl,h1,h2,h3⟩:=h;simp only[Zb7,aX];exact⟨x,mL,rfl,h1,hd x (by simp),h3⟩
 |c::cs,xs,k+1,d,h,hd=>by
  simp only[aX]at h;obtain⟨x,mL,rfl,h1,h2,h3⟩:=h;simp only[Zci,aX];exact⟨x,mL,rfl,h1,h2,BU cs mL k d h3 λy hy=>hd y (by simpa using hy)⟩
def BV{w:World}{W:f9}{ab:bF}{L:Loc}:∀(cs:bM) (xs:List Value) (k:Nat) (d:DV) (x:Value),aX w W ab L cs xs->cs[k]? =some d->xs[k]? =some x->aC w W ab L d x
 |[],xs,k,d,x,h,hk,_=>by simp at hk
 |c::cs,xs,0,d,x,h,hk,hx=>by
  simp only[aX]at h;obtain⟨y,mL,rfl,h1,h2,h3⟩:=h;simp only[IS,cI]at hk hx;subst hk hx;exact h2
 |c::cs,xs,k+1,d,x,h,hk,hx=>by
  simp only[aX]at h;obtain⟨y,mL,rfl,h1,h2,h3⟩:=h;simp only[Zbl]at hk hx;exact BV cs mL k d x h3 hk hx
def yS{w:World}{W:f9}{ab:bF}{L:Loc}:∀(cs:bM) (xs:List Value) (k:Nat) (d:DV),aX w W ab L cs xs->cs[k]? =some d->∃x,xs[k]? =some x
 |[],xs,k,d,h,hk=>by simp at hk
 |c::cs,xs,0,d,h,hk=>by
  simp only[aX]at h;obtain⟨y,mL,rfl,h1,h2,h3⟩:=h;exact⟨y,by simp⟩
 |c::cs,xs,k+1,d,h,hk=>by
  simp only[aX]at h;obtain⟨y,mL,rfl,h1,h2,h3⟩:=h;simp only[Zbl]at hk;obtain⟨x,hx⟩:=yS cs mL k d h3 hk;exact⟨x,by simpa using hx⟩
def Le.D8(r:Nat)(k:Nat){cs:bM}(e:Nat)(jJ:0<sz)(hr:ob r=some (.box cs))(hk:cs[k]? =some .bH):
  Le ⟨tm,ob,aJ,low,td⟩ ⟨tm,eY (eY ob aJ (.bJ 0 e sz [])) r (.box (cs.set k (.bE aJ 0))),aJ+1,low,td⟩:=by
 intro κ nt a w L h;have hq:ob aJ=none:=h.fresh aJ (eF _);have hrq:r≠aJ:=λe=>by rw[e,hq]at hr;cases hr
 have ayc:r<aJ:=ZbY λkw=>by have:=h.fresh r kw;simp only at this;rw[this]at hr;cases hr
 obtain⟨W,base,M,w0,dW,h0⟩:=h.r.ex;have hO:=h0.o;obtain⟨c,f,ct,iJ,hm⟩:=hO.ob r _ hr;obtain⟨x,hx⟩:=yS _ _ _ _ iJ hk;have G3:=BV _ _ _ _ _ iJ hk hx;simp only[aC]at G3;obtain⟨ad,hxa⟩:=G3;have hA:=JH (W:=W) (w:=w) (L:=L) (a:=ad) (e:=e) (sz:=sz) hq;have vq:=LZ (a:=ad) (e:=e) hO jJ hq;obtain⟨o1,L5⟩:=aW (eY ob aJ (.bJ 0 e sz []));obtain⟨L1,Uf⟩:=aW (L.at aJ (.slice ad 0 0));have tg:o1 r=some (.box cs):=by rw[<-L5];exact oC hrq hr
 rw[L5,Uf]at hA vq;have DZ:∀{V:f9} b,WW V (eY o1 r (.box (cs.set k (.bE aJ 0)))) L1 b->WW V o1 L1 b:=by
  intro V b hb;rcases hb with hb|⟨r',o,g0,hb⟩
  ·exact .inl hb
  ·rcases gh g0 with⟨rfl,rfl⟩|⟨_,g0⟩
   ·exact .inr ⟨r',_,tg,hb⟩
   ·exact .inr ⟨r',o,g0,hb⟩
 have vx:iH W o1 L1 w (eY o1 r (.box (cs.set k (.bE aJ 0)))) L1 w:=by
  refine⟨dJ.refl _ _,λb _ h=>DZ b h,λr' o' g0 vQ=>?_,λr' bP e' jI aw g0=>?_,rfl⟩
  ·by_cases he:r'=r
   ·subst he;rw[tg]at g0;cases g0;exact⟨rfl,.box (cs.set k (.bE aJ 0)),by simp[eY],rfl⟩
   ·exact⟨rfl,o',oC he g0,rfl⟩
  ·have he:r'≠r:=λhe=>by rw[he,tg]at g0;cases g0
   exact⟨bP,e',jI,aw,oC he g0,eF _,λ_=>⟨rfl,rfl,rfl⟩⟩
 have Jz:cO base W M w0 (eY o1 r (.box (cs.set k (.bE aJ 0)))) w L1:=by
  refine⟨vq.fr,λr' o g0=>?_,λp p' o o' b cj h1 h2 hb=>?_,λp o b hp hb=>?_,vq.under,vq.gl.bi vx.dP.toKeepsC vx.sub⟩
  ·rcases gh g0 with⟨rfl,rfl⟩|⟨cj,g0⟩
   ·refine⟨c,f,by rw[<-Uf];exact ct,BU _ _ _ _ (aX.fP vx _ _ (aX.fP hA _ _ iJ)) λy hy=>?_,by rw[<-Uf];exact hm⟩;rw[hx]at hy;cases hy;simp only[aC];refine⟨⟨ad,0,0,hxa⟩,0,e,sz,[],oC (Ne.symm hrq) (by rw[<-L5];simp),eF _,λ_=>?_⟩;rw[hxa,<-Uf];simp[Loc.at]
   ·have vQ:=vq.ob r' o g0;cases o with
    |box x9=>
     obtain⟨c',f',Fy,Fz,I3⟩:=vQ;exact⟨c',f',Fy,aX.fP vx x9 _ Fz,I3⟩
    |map cL agg c es=>
     obtain⟨bJ,Fy,Fz,q1,q2,q3,I3⟩:=vQ;exact⟨bJ,Fy,bX.fP vx es _ Fz,q1,q2,q3,I3⟩
    |cX m s sn l=>
     obtain⟨Fy,Oo,I3⟩:=vQ;exact⟨Fy,(vx.mp m Oo).2,I3⟩
    |bJ bP e' jI aw=>
     obtain⟨g1,g2,g3,g4⟩:=vQ;refine⟨g1,g2,g3, ?_⟩;rcases g4 with g4|⟨g,cap,eV,hv,hp,hh,k1,k2,k3,k4⟩
     ·exact .inl g4
     ·exact .inr ⟨g,cap,eV,hv,hp,hh,k1,k2,k3,bu.bi (dJ.refl (WW W o1 L1) w).toKeepsC (λb _ hb=>DZ b hb) _ _ k4⟩
  ·have key:∀{p o},eY o1 r (.box (cs.set k (.bE aJ 0))) p=some o->∃o2,o1 p=some o2/\L1.own p o=L1.own p o2:=by
    intro p o hp;rcases gh hp with⟨rfl,rfl⟩|⟨_,hp⟩
    ·exact⟨_,tg,rfl⟩
    ·exact⟨o,hp,rfl⟩
   obtain⟨x1,y1,z1⟩:=key h1;obtain⟨x2,y2,z2⟩:=key h2;rw[z1]at hb;rw[z2];exact vq.apart p p' x1 x2 b cj y1 y2 hb
  ·rcases gh hp with⟨rfl,rfl⟩|⟨_,hp⟩
   ·exact vq.tu p _ b tg hb
   ·exact vq.tu p o b hp hb
 have yN:=dW.sub;have zG:∀r',aJ+1<=r'->eY o1 r (.box (cs.set k (.bE aJ 0))) r'=none:=λr' g0=>by
  rw[<-L5];simp only[eY];rw[bj (by omega),bj (by omega)];exact h.fresh r' (by simp only;omega)
 rw[L5];exact⟨L1,⟨⟨W,base,M,w0,dW,h0.size,λt=>aC.fP vx _ _ (aC.fP hA _ _ (h0.tmps t)),Jz⟩,iH.comp (iH.comp h.r.fP hA (dW.Jl _) yN.2) vx (dW.Jl _) yN.2,h.r.defers,h.r.bg,⟨_,zG⟩⟩,zG,h.low,h.it⟩
@[simp] def JI:look []=λ_=>DV.undef:=by funext k;rfl
def L6:Option Ob->Option Ob->Prop
 |some a,some b=>kp a b
 |_,_=>False
def RD(low:Nat)(o0 o:bF):df->Prop
 |[]=>True
 |(r,_)::l=>(r<low->L6 (o0 r) (o r))/\RD low o0 o l
attribute [simp] RD L6 kp
@[simp] def al8{j:Nat}{o:Ob}{l:df}:gone (cF ((j,o)::l)) σ r↔σ j≠r/\gone (cF l) σ r:=by
 refine⟨λh=>⟨h j (by simp),λr' g0=>h r' (by simp only[dd];split<;>simp[g0])⟩,λh=>Xb h.1 h.2⟩
@[simp] def am4:gone (cF []) σ r:=λr' h=>eK rfl h
end
section
variable{r:Nat}{f:bF}{d:DC}
variable [bK] [d8]
def aR:df->bF->bF
 |[],f=>f
 |(r,o)::l,f=>λk=>if k=r then some o else aR l f k
@[simp] def aL(r:Nat)(o:Ob)(l:df)(f:bF)(k:Nat):aR ((r,o)::l) f k=if k=r then some o else aR l f k:=rfl
@[simp] def cq(f:bF)(k:Nat):aR [] f k=f k:=rfl
@[simp] def Ui(l:df)(f:bF)(r:Nat)(o:Ob):cV (aR l f) (some (r,o))=aR ((r,o)::l) f:=rfl
def kW(l:df)(f:bF)(r:Nat)(o:Ob):eY (aR l f) r o=aR ((r,o)::l) f:=rfl
def be:Ob->cY
 |.box cs=>bR cs
 |.bJ _ _ _ _=>[]
 |.map _ _ _ es=>es.flatMap λe=>aT e.2.2
 |.cX m _ _ _=>[m]
def dy(f:bF)(n:Nat):Prop:=∀r o,f r=some o->r<n/\∀m∈be o,f m≠none
section
variable{base:Nat}{W M:f9}{w0 w:World}{ab aI:bF}{L:Loc}
def B1(hO:cO base W M w0 ab w L){N:Nat}(hN:∀r,N<=r->ab r=none):dy ab N:=by
 intro r o hr;refine⟨ZbY (λh=>by rw[hN r h]at hr;cases hr),λm hm=>?_⟩;have iy:=hO.ob r o hr;cases o with
 |box cs=>obtain⟨c,e,_,h,_⟩:=iy;exact gR.aT cs (gR.ch cs _ h) m hm
 |bJ _ _ _ _=>cases hm
 |cX m' _ _ _=>
  obtain⟨_,⟨_,_,_,_,h⟩,_⟩:=iy;simp only[be,pe]at hm;subst hm;simp[h]
 |map cL agg c es=>
  obtain⟨bJ,_,h,_⟩:=iy;simp only[be,KQ]at hm;obtain⟨e,he,hm⟩:=hm;obtain⟨i,hi⟩:=Zcd he;obtain⟨x,_,_,_,hv⟩:=bX.get h hi;exact fX.aT _ (fX.ch _ _ hv) m hm
def sameAt(ab aI:bF)(m:Nat):Prop:=∃o o',ab m=some o/\aI m=some o'/\kp o o'
def L9(DZ:∀b,WW W aI L b->WW W ab L b):
  ∀n,(∀(d:DV) (x:Value),SizeOf.sizeOf d<n->(∀m∈aT d,sameAt ab aI m)->aC w W ab L d x->aC w W aI L d x)/\
   (∀(ds:bM) (xs:List Value),SizeOf.sizeOf ds<n->(∀m∈bR ds,sameAt ab aI m)->aX w W ab L ds xs->aX w W aI L ds xs)/\
   (∀(ds:bM) (xs:List Value),SizeOf.sizeOf ds<n->(∀m∈bR ds,sameAt ab aI m)->fj w W ab L ds xs->fj w W aI L ds xs):=by
 have DF:=(dJ.refl (WW W ab L) w).toKeepsC;have yN:∀b,b<w.heap.size->WW W aI L b->WW W ab L b:=λb _ h=>DZ b h;intro n;induction n with
 |zero=>exact⟨λ_ _ h=>by omega,λ_ _ h=>by omega,λ_ _ h=>by omega⟩
 |succ n ih=>
  refine⟨λd x hn hm hr=>?_,λds xs hn hm hr=>?_,λds xs hn hm hr=>?_⟩
  ·cases d with
   |undef=>simp[aC]
   |skip=>simpa only[aC]using hr
   |OR=>simpa only[aC]using hr
   |bH=>simpa only[aC]using hr
   |v t=>simp only[aC]at hr⊢;exact bw.bi DF yN t x hr
   |nz aw i off=>
    simp only[aC]at hr⊢;obtain⟨b,o,sz,hx,hb,T3,xR,h1,h2⟩:=hr;exact⟨b,o,sz,hx,hb,λk=>T3 (DZ b k),bL.bi DF yN hb T3 sz o aw xR,h1,h2⟩
   |kP cs off=>
    simp only[aC]at hr⊢;obtain⟨b,o,hx,hb,T3,xR⟩:=hr;exact⟨b,o,hx,hb,λk=>T3 (DZ b k),eQ.bi DF yN hb T3 o cs xR⟩
   |ptr r off=>
    obtain⟨o,o',h1,h2,h3⟩:=hm r (by simp[aT]);simp only[aC]at hr⊢;obtain⟨⟨cs,hc⟩,hx⟩:=hr;rw[h1]at hc;cases hc;cases o' with
    |box x9=>exact⟨⟨x9,h2⟩,hx⟩
    |_=>exact h3.elim
   |jG r=>
    obtain⟨o,o',h1,h2,h3⟩:=hm r (by simp[aT]);simp only[aC]at hr⊢;obtain⟨⟨_,_,_,_,hc⟩,hx⟩:=hr;rw[h1]at hc;cases hc;cases o' with
    |map a b c d=>exact⟨⟨a,b,c,d,h2⟩,hx⟩
    |_=>exact h3.elim
   |cX r=>
    obtain⟨o,o',h1,h2,h3⟩:=hm r (by simp[aT]);simp only[aC]at hr⊢;obtain⟨⟨_,_,_,_,hc⟩,hx⟩:=hr;rw[h1]at hc;cases hc;cases o' with
    |cX a b c d=>exact⟨⟨a,b,c,d,h2⟩,hx⟩
    |_=>exact h3.elim
   |bE r bP=>
    obtain⟨o,o',h1,h2,h3⟩:=hm r (by simp[aT]);simp only[aC]at hr⊢;obtain⟨Lj,cJ,e,sz,aw,hc,kw,hx⟩:=hr;rw[h1]at hc;cases hc;cases o' with
    |bJ v2 e2 s2 r2=>obtain⟨rfl,rfl,h5⟩:=h3;exact⟨Lj,_,_,_,_,h2,kw,hx⟩
    |_=>exact h3.elim
   |ln r bP i off=>
    obtain⟨o,o',h1,h2,h3⟩:=hm r (by simp[aT]);simp only[aC]at hr⊢;obtain⟨Lj,cJ,e,sz,aw,hc,kw,hx⟩:=hr;rw[h1]at hc;cases hc;cases o' with
    |bJ v2 e2 s2 r2=>
     obtain⟨rfl,rfl,h5⟩:=h3;exact⟨Lj,_,_,_,_,h2,kw,λhv=>by obtain⟨g,k1,k2,k3,k4⟩:=hx hv;exact⟨g,k1,k2,k3,by rw[<-h5];exact k4⟩⟩
    |_=>exact h3.elim
   |G2 r m=>
    obtain⟨o,o',h1,h2,h3⟩:=hm r (by simp[aT]);simp only[aC]at hr⊢;obtain⟨⟨cs,hc⟩,hx⟩:=hr;rw[h1]at hc;cases hc;cases o' with
    |box x9=>exact⟨⟨x9,h2⟩,hx⟩
    |_=>exact h3.elim
   |w8 r bP lo m=>
    obtain⟨o,o',h1,h2,h3⟩:=hm r (by simp[aT]);simp only[aC]at hr⊢;obtain⟨Lj,cJ,e,sz,aw,hc,kw,hx⟩:=hr;rw[h1]at hc;cases hc;cases o' with
    |bJ v2 e2 s2 r2=>
     obtain⟨rfl,rfl,h5⟩:=h3;exact⟨Lj,_,_,_,_,h2,kw,λhv=>by
      obtain⟨k0,p,cap,p2,k1,k2,k3⟩:=hx hv;exact⟨by rw[<-h5];exact k0,p,cap,p2,by rw[<-h5];exact k1,k2,k3⟩⟩
    |_=>exact h3.elim
   |agg ds=>
    simp only[aC]at hr⊢;obtain⟨vs,hv,hr⟩:=hr;exact⟨vs,hv,ih.2.1 ds _ (by simp at hn⊢;omega) (λm h=>hm m (by simpa only[aT]using h)) hr⟩
   |pf f ds=>
    simp only[aC]at hr⊢;obtain⟨vs,hv,hr⟩:=hr;exact⟨vs,hv,ih.2.1 ds _ (by simp at hn⊢;omega) (λm h=>hm m (by simpa only[aT]using h)) hr⟩
   |eE ds=>
    simp only[aC]at hr⊢;obtain⟨vs,hv,hr⟩:=hr;exact⟨vs,hv,ih.2.2 ds _ (by simp at hn⊢;omega) (λm h=>hm m (by simpa only[aT]using h)) hr⟩
  ·cases ds with
   |nil=>simpa only[aX]using hr
   |cons d ds=>
    simp only[aX]at hr⊢;obtain⟨y,ys,hv,h1,h2,h3⟩:=hr;exact⟨y,ys,hv,h1,ih.1 d y (by simp at hn⊢;omega) (λm h=>hm m (by simp[bR,h])) h2,ih.2.1 ds ys (by simp at hn⊢;omega) (λm h=>hm m (by simp[bR,h])) h3⟩
  ·cases ds with
   |nil=>simpa only[fj]using hr
   |cons d ds=>
    simp only[fj]at hr⊢;obtain⟨y,ys,hv,h2,h3⟩:=hr;exact⟨y,ys,hv,ih.1 d y (by simp at hn⊢;omega) (λm h=>hm m (by simp[bR,h])) h2,ih.2.2 ds ys (by simp at hn⊢;omega) (λm h=>hm m (by simp[bR,h])) h3⟩
def abu(DZ:∀b,WW W aI L b->WW W ab L b){o:Ob}(hm:∀m∈be o,sameAt ab aI m)(h:rK w W ab L base M r o):rK w W aI L base M r o:=by
 cases o with
 |box cs=>obtain⟨c,e,hc,hr,BE⟩:=h;exact⟨c,e,hc,(L9 DZ (SizeOf.sizeOf cs+1)).2.1 cs _ (by omega) hm hr,BE⟩
 |bJ bP e sz aw=>
  obtain⟨g1,g2,g3,g4⟩:=h;refine⟨g1,g2,g3, ?_⟩;rcases g4 with g4|⟨g,cap,eV,hv,hp,hh,k1,k2,k3,k4⟩
  ·exact .inl g4
  ·exact .inr ⟨g,cap,eV,hv,hp,hh,k1,k2,k3,bu.bi (dJ.refl (WW W ab L) w).toKeepsC (λb _ hb=>DZ b hb) _ _ k4⟩
 |map cL agg c es=>
  obtain⟨bJ,hc,hr,k1,k2,k3,BE⟩:=h;refine⟨bJ,hc, ?_,k1,k2,k3,BE⟩;have key:∀(es:List (Nat×T×DV)) (xs:List MapEntry),(∀m∈es.flatMap (λe=>aT e.2.2),sameAt ab aI m)->bX w W ab L es xs->bX w W aI L es xs:=by
   intro es;induction es with
   |nil=>intro xs _ h;simpa only[bX]using h
   |cons e es ih=>
    intro xs hm h;simp only[bX]at h⊢;obtain⟨x,mL,hx,h1,h2,h3,h4⟩:=h;exact⟨x,mL,hx,h1,bw.bi (dJ.refl (WW W ab L) w).toKeepsC (λb _ hb=>DZ b hb) _ _ h2,
     (L9 DZ (SizeOf.sizeOf e.2.2+1)).1 _ _ (by omega) (λm h=>hm m (by simp[h])) h3,ih mL (λm h=>hm m (by simp only[V0,oJ];exact .inr h)) h4⟩
  exact key es _ hm hr
 |cX m s sn l=>
  obtain⟨hc,⟨a1,a2,a3,a4,Oo⟩,BE⟩:=h;obtain⟨o,o',h1,h2,h3⟩:=hm m (by simp[be]);rw[Oo]at h1;cases h1;cases o' with
  |map b1 b2 b3 b4=>exact⟨hc,⟨b1,b2,b3,b4,h2⟩,BE⟩
  |_=>exact h3.elim
end
def eZ(ab aI:bF)(o o':Ob):Prop:=px ab aI id o o'\/(o=o'/\∀m∈be o,sameAt ab aI m)
def AE{ab aI:bF}{L:Loc}{o o':Ob}(h:eZ ab aI o o')(r:Nat):L.own r o'=L.own r o:=by
 rcases h with h|⟨rfl,_⟩
 ·exact xw (L:=L) h r
 ·rfl
def Le.Uj{st dL:mK}(BI:dL.low=st.low)(LS:dL.todo=st.todo)(Ft:∀r,dL.aJ<=r->dL.ab r=none)
  (iy:∀r o',dL.ab r=some o'->∃o,st.ab r=some o/\eZ st.ab dL.ab o o')
  (C3:∀r,r<st.low->∀o,st.ab r=some o->∃o',dL.ab r=some o'/\kp o o')
  (g8:∀k,jB st.ab dL.ab id (st.tmps k) (dL.tmps k)):Le st dL:=by
 intro κ nt a w L h;have vy:∀r' o',dL.ab r'=some o'->∃o,st.ab (id r')=some o/\∀r,(L.Fq id).own r o'=L.own (id r) o:=λr' o' h=>let⟨o,h1,h2⟩:=iy r' o' h;⟨o,h1,AE (L:=L) h2⟩
 refine⟨L,⟨?_, ?_,h.r.defers,h.r.bg,⟨_,Ft⟩⟩,Ft,by rw[BI];exact h.low,by rw[BI];exact h.it⟩
 ·obtain⟨W,base,M,w0,dW,h0⟩:=h.r.ex;have hO:=h0.o;have DZ:∀b,WW W dL.ab L b->WW W st.ab L b:=λb hb=>mZ (L:=L) (σ:=id) vy b hb;have cr:=λ(d d':DV) (x:Value)=>(D5 hO vy (SizeOf.sizeOf d+1)).1 d d' x (by omega);have crs:=λ(ds sN:bM) (xs:List Value)=>(D5 hO vy (SizeOf.sizeOf ds+1)).2.1 ds sN xs (by omega);refine⟨W,base,M,w0,by rw[LS];exact dW,h0.size,λt=>cr _ _ _ (g8 t) (h0.tmps t),⟨hO.fr,λr' o' jA=>?_,λr1 r2 o1 o2 b cj h1 h2 vR gn=>?_,λr' o' b jA hb=>?_,hO.under,hO.gl.bi (dJ.refl (WW W st.ab L) w).toKeepsC λb _ hb=>DZ b hb⟩⟩
  ·obtain⟨o,ho,hc⟩:=iy r' o' jA;have hk:=hO.ob r' o ho;rcases hc with hc|⟨rfl,hc⟩
   ·cases o with
    |box cs=>
     cases o' with
     |box x9=>
      obtain⟨c,e,ct,hr,hm⟩:=hk;exact⟨c,e,ct,crs cs x9 _ hc hr,hm⟩
     |_=>exact hc.elim
    |map cL agg c es=>
     cases o' with
     |map lI lJ c' oO=>
      obtain⟨rfl,rfl,rfl,rP⟩:=hc;obtain⟨bJ,ct,hr,k1,k2,k3,hm⟩:=hk;have key:∀(es oO:List (Nat×T×DV)) (xs:List MapEntry),kE st.ab dL.ab id es oO->bX w W st.ab L es xs->bX w W dL.ab L oO xs/\oO.map (·.1)=es.map (·.1)/\oO.map (·.2.1)=es.map (·.2.1):=by
       intro es;induction es with
       |nil=>intro oO xs h1 h2;simp only[kE]at h1;subst h1;exact⟨by simpa only[bX]using h2,rfl,rfl⟩
       |cons e es ih=>
        intro oO xs h1 h2;cases oO with
        |nil=>simp[kE]at h1
        |cons e' oO=>
         simp only[kE]at h1;simp only[bX]at h2⊢;obtain⟨x,mL,rfl,q0,q1,q2,q3⟩:=h2;obtain⟨i1,i2,i3⟩:=ih oO mL h1.2.2.2 q3;refine⟨⟨x,mL,rfl,q0.trans h1.1, ?_,cr _ _ _ h1.2.2.1 q2,i1⟩,by simp[i2,h1.1],by simp[i3,h1.2.1]⟩;rw[<-h1.2.1];exact bw.bi (dJ.refl (WW W st.ab L) w).toKeepsC (λb _ hb=>DZ b hb) _ _ q1
      obtain⟨i1,i2,i3⟩:=key es oO _ rP hr;refine⟨bJ,ct,i1,λe he=>?_,λe he=>?_,by rw[i2];exact k3,hm⟩
      ·have:e.2.1∈es.map (·.2.1):=by rw[<-i3];exact iF.2 ⟨e,he,rfl⟩
       obtain⟨e0,h0',Ot⟩:=iF.1 this;rw[<-Ot];exact k1 e0 h0'
      ·have:e.1∈es.map (·.1):=by rw[<-i2];exact iF.2 ⟨e,he,rfl⟩
       obtain⟨e0,h0',Ot⟩:=iF.1 this;rw[<-Ot];exact k2 e0 h0'
     |_=>exact hc.elim
    |cX m s sn l=>
     cases o' with
     |cX m' s' sn' l'=>
      obtain⟨rfl,rfl,rfl,rfl,Oo⟩:=hc;obtain⟨ct,_,hm⟩:=hk;exact⟨ct,Fp Oo,hm⟩
     |_=>exact hc.elim
    |bJ bP e sz aw=>
     cases o' with
     |box _=>exact hc.elim
     |map _ _ _ _=>exact hc.elim
     |cX _ _ _ _=>exact hc.elim
     |bJ cJ e' jI fz=>
      obtain⟨rfl,rfl,rfl⟩:=hc;obtain⟨g1,g2,g3,g4⟩:=hk;refine⟨g1,g2,g3, ?_⟩;rcases g4 with g4|⟨g,cap,eV,hv,hp,hh,k1,k2,k3,k4⟩
      ·exact .inl g4
      ·exact .inr ⟨g,cap,eV,hv,hp,hh,k1,k2,k3,bu.bi (dJ.refl (WW W st.ab L) w).toKeepsC (λb _ hb=>DZ b hb) _ _ k4⟩
   ·exact abu DZ hc hk
  ·obtain⟨p1,q1,c1⟩:=iy r1 o1 h1;obtain⟨p2,q2,c2⟩:=iy r2 o2 h2;rw[AE c1]at vR;rw[AE c2]at gn;exact hO.apart r1 r2 p1 p2 b cj q1 q2 vR gn
  ·obtain⟨p1,q1,c1⟩:=iy r' o' jA;rw[AE c1]at hb;exact hO.tu r' p1 b q1 hb
 ·have ha:iH κ.W κ.go κ.gL (κ.Ox st.todo) st.ab L w:=h.r.fP;show iH κ.W κ.go κ.gL (κ.Ox dL.todo) dL.ab _ w;rw[LS];refine⟨ha.dP,λb hb hw=>ha.sub b hb (mZ (L:=L) (σ:=id) vy b hw),λr o hr hk=>?_,λr bP e sz aw hr=>?_,ha.yl⟩
  ·have eG:r<st.low:=ZbY λkw=>by rw[h.low r kw]at hr;cases hr
   obtain⟨e1,o1,tg,rH⟩:=ha.fix r o hr hk;obtain⟨o',jA,hv⟩:=C3 r eG _ tg;exact⟨e1,o',jA,(Aq hv).trans rH⟩
  ·have eG:r<st.low:=ZbY λkw=>by rw[h.low r kw]at hr;cases hr
   obtain⟨v1,e1,s1,r1,tg,l1,k1⟩:=ha.bJ r bP e sz aw hr;obtain⟨o',jA,hv⟩:=C3 r eG _ tg;cases o' with
   |box x9=>exact hv.elim
   |map _ _ _ _=>exact hv.elim
   |cX _ _ _ _=>exact hv.elim
   |bJ v2 e2 s2 r2=>
    obtain⟨rfl,rfl,h3⟩:=hv;exact⟨v1,e2,s1,r2,jA,l1,λhv=>by
     obtain⟨a1,a2,a3⟩:=k1 hv;exact⟨a1,a2,by rw[<-h3];exact a3⟩⟩
def bq(o:Ob):kp o o:=by cases o<;>simp[kp]
def d9(low:Nat)(a b:bF):df->Prop
 |[]=>True
 |(r,o)::l=>(∃o0,a r=some o0/\eZ a b o0 o/\(r<low->kp o0 o))/\d9 low a b l
def bZ(low:Nat)(l1:df):df->Prop
 |[]=>True
 |(r,_)::l=>(r<low->∃o,(r,o)∈l1)/\bZ low l1 l
def tG:∀{l:df} {f:bF} {r:Nat} {o:Ob},aR l f r=some o->(r,o)∈l\/((∀o',(r,o')∉l)/\f r=some o)
 |[],_,_,_,h=>.inr ⟨λ_ h=>(by cases h),h⟩
 |(j,x)::l,f,r,o,h=>by
  simp only[aL]at h;split at h
  ·rename_i e;cases h;subst e;exact .inl (VN ..)
  ·rename_i cj;rcases tG h with h|⟨h1,h2⟩
   ·exact .inl (VO _ h)
   ·refine .inr ⟨λo' jA=>?_,h2⟩;rcases gm.1 jA with e|jA
    ·cases e;exact cj rfl
    ·exact h1 o' jA
def fY{l:df}(h:∀o',(r,o')∉l):aR l f r=f r:=by
 induction l with
 |nil=>rfl
 |cons p l ih=>
  obtain⟨j,x⟩:=p;rw[aL,bj (λe=>h x (by rw[e];exact VN ..))];exact ih λo' jA=>h o' (VO _ jA)
def D9{l:df}{o:Ob}(h:(r,o)∈l):∃o',aR l f r=some o'/\(r,o')∈l:=by
 induction l with
 |nil=>cases h
 |cons p l ih=>
  obtain⟨j,x⟩:=p;by_cases e:r=j
  ·subst e;exact⟨x,by simp,VN ..⟩
  ·rcases gm.1 h with h|h
   ·cases h;exact eK rfl e
   ·obtain⟨o',h1,h2⟩:=ih h;exact⟨o',by rw[aL,bj e];exact h1,VO _ h2⟩
def yU{low:Nat}{a b:bF}:∀{l:df},d9 low a b l->∀r o,(r,o)∈l->∃o0,a r=some o0/\eZ a b o0 o/\(r<low->kp o0 o)
 |[],_,_,_,h=>by cases h
 |(j,x)::l,hk,r,o,h=>by
  rcases gm.1 h with e|h
  ·cases e;exact hk.1
  ·exact yU hk.2 r o h
def uH{low:Nat}{l1:df}:∀{l:df},bZ low l1 l->∀r o,(r,o)∈l->r<low->∃o,(r,o)∈l1
 |[],_,_,_,h=>by cases h
 |(j,x)::l,hk,r,o,h=>by
  rcases gm.1 h with e|h
  ·cases e;exact hk.1
  ·exact uH hk.2 r o h
def Le.eA{tm:dG}{l0 l1:df}{l:fg}{aJ aV:Nat}{td:List (aK)}{low:Nat}(hf:dy f low)(hn:low<=aV)(hb:oe aV l1)
  (h0:bZ low l1 l0) (h1:d9 low (aR l0 f) (aR l1 f) l1) (g8:gf (aR l0 f) (aR l1 f) id tm l):
  Le ⟨tm,aR l0 f,aJ,low,td⟩ ⟨look l,aR l1 f,aV,low,td⟩:=by
 have Ma:∀r,r<low->∀o,aR l0 f r=some o->∃o',aR l1 f r=some o'/\kp o o':=by
  intro r hr o ho;by_cases te:∃o',(r,o')∈l1
  ·obtain⟨o1,L5⟩:=te;obtain⟨o2,h2,h3⟩:=D9 (f:=f) L5;obtain⟨o0,k1,_,k3⟩:=yU h1 r o2 h3;rw[ho]at k1;cases k1;exact⟨o2,h2,k3 hr⟩
  ·have ah6:∀o',(r,o')∉l1:=λo' h=>te ⟨o',h⟩;rcases tG ho with h|⟨_,h⟩
   ·exact eK (uH h0 r o h hr) te
   ·exact⟨o,by rw[fY ah6];exact h,bq o⟩
 refine Le.Uj rfl rfl (λr hr=>?_) (λr o' jA=>?_) (λr hr o ho=>Ma r hr o ho) (λk=>m0 l g8 k)
 ·cases ho:aR l1 f r with
  |none=>exact ho
  |some o=>
   rcases tG ho with h|⟨_,h⟩
   ·have:=sS hb r o h;simp only at hr;omega
   ·have:=(hf r o h).1;simp only at hr;omega
 ·rcases tG jA with h|⟨ah6,h⟩
  ·obtain⟨o0,k1,k2,_⟩:=yU h1 r o' h;exact⟨o0,k1,k2⟩
  ·obtain⟨eG,hnm⟩:=hf r o' h;have I4:aR l0 f r=some o':=by
    by_cases te:∃o1,(r,o1)∈l0
    ·obtain⟨o1,L5⟩:=te;obtain⟨o2,h2⟩:=uH h0 r o1 L5 eG;exact eK h2 (ah6 o2)
    ·rw[fY λo1 h1=>te ⟨o1,h1⟩];exact h
   refine⟨o',I4,.inr ⟨rfl,λm hm=>?_⟩⟩;have hm0:=hnm m hm;have awn:m<low:=by
    cases hfm:f m with
    |none=>exact eK hfm hm0
    |some x=>exact(hf m x hfm).1
   have EW:∃o,aR l0 f m=some o:=by
    by_cases te:∃o1,(m,o1)∈l0
    ·obtain⟨o1,L5⟩:=te;obtain⟨o2,h2,_⟩:=D9 (f:=f) L5;exact⟨o2,h2⟩
    ·rw[fY λo1 h1=>te ⟨o1,h1⟩];exact Zb5.1 hm0
   obtain⟨o,ho⟩:=EW;obtain⟨o2,h2,h3⟩:=Ma m awn o ho;exact⟨o,o2,ho,h2,h3⟩
section
variable{P:Program}
def aP.rJ{f:FuncId}{nt:Nat}{rs:List dF}(h:aP P f nt d rs){args:bM}{ab:bF}{r:gC}{N:Nat}(hN:∀r,N<=r->ab r=none)(dQ:args.length<=nt)
  (k:dy ab N->aa P nt d (BQ rs r) ⟨look (args.zipIdx.map λp=>(p.2,p.1)),aR [] ab,N,N,[]⟩):aY P f args ab r:=
 ⟨h.entry,λbase W M w0 w L cT hO DG=>(aP.okS h hN dQ (BT (k (B1 hO hN)))).run base W M w0 w L cT hO DG⟩
def AF{fn:Func}{t:Nat}{tmps:Array Value}{w:World}(hr:fn.results.toList.mapM (oK P)=some [.kT t]):(results fn tmps).run P w=.ok (tmps.getD t Go.undef) w:=by
 have h1:∃rv,fn.results.toList=[rv]/\oK P rv=some (.kT t):=by
  cases h:fn.results.toList with
  |nil=>rw[h]at hr;simp at hr
  |cons rv l=>
   rw[h]at hr;simp only[KS,mF,lp,kb,cI,KU]at hr;obtain⟨x,hx,ys,rL,rfl,rfl⟩:=hr;cases l with
   |nil=>exact⟨rv,rfl,hx⟩
   |cons y l=>simp[kb]at rL
 obtain⟨rv,h1,h2⟩:=h1;have h3:fn.results= #[rv]:=by rw[<-Array.toArray_toList (xs:=fn.results),h1]
 cases rv with
 |tmp t'=>
  simp only[oK,cI,dF.kT.injEq]at h2;subst h2;have xR:(results fn tmps)=(do
   let vs<-fn.results.mapM (λrv=>((match rv with|.tmp t=>pure (tmps.getD t Go.undef)|.cell b t=>do loadVar t (<-asAddr (tmps.getD b Go.undef))):Sem Value))
   pure (if h:vs.size=1 then vs[0]else .tuple vs)):=rfl
  have hm:(fn.results.mapM (λrv=>((match rv with|.tmp t=>pure (tmps.getD t Go.undef)|.cell b t=>do loadVar t (<-asAddr (tmps.getD b Go.undef))):Sem Value))).run P w=.ok #[tmps.getD t' Go.undef] w:=by
   rw[ZcP,h1];simp
  rw[xR];simp only[Sem.run_bind,hm,Result.andThen_ok,Sem.run_pure];rfl
 |cell b t'=>
  simp only[oK]at h2;split at h2<;>simp at h2
def awo(t e sz:Nat)(aw:List (aK)):Exit->mK->Prop
 |.normal,st|.ret,st=>(st.tmps t=.bH/\aw=[]/\0<sz)\/∃r bP,st.tmps t=.bE r bP/\st.ab r=some (.bJ bP e sz aw)
 |_,_=>False
def aP.okF{f:FuncId}{nt:Nat}{t:Nat}(h:aP P f nt d [.kT t]){ts:aK}{e sz:Nat}{aw:List (aK)}(dQ:ts.length<=nt)(k:aa P nt d (awo t e sz aw) (sP ts)):pj P f ts e sz aw:=by
 have BR:=h.entry;obtain⟨fn,ut,rfl,h3,hr,_⟩:=h;obtain⟨c,hb,hc⟩:=jr.1 h3;refine⟨BR,λW w cT hW hg iJ=>?_⟩;have hl:=gH.length iJ;simp only[Rg]at hl;have wx:Jw ⟨W,λ_=>none,⟨λ_=>0,λ_=>Go.undef,0⟩,w,w.heap.size,λ_=>False,w,none,none,none⟩ fn.ntmps (sP ts) {tmps:=cT++Array.replicate (fn.ntmps-cT.size) Go.undef,defers:=[]} w ⟨λ_=>0,λ_=>Go.undef,0⟩:=by
  refine⟨⟨⟨W,w.heap.size,λ_=>False,w,⟨λ_=>rfl,rfl,rfl,rfl,rfl⟩,by simp;omega,λk=>?_,⟨Fr.refl (eF _),(λr o h=>by cases h),(λr r' o o' b _ h=>by cases h),(λr o b h=>by cases h),hW,hg.start⟩⟩,
   iH.dc (dJ.refl _ _),⟨[],rfl,Zch,(λ_ h=>by cases h),λ_=>rfl⟩,λ_=>eF _,⟨0,λ_ _=>rfl⟩⟩,λ_ _=>rfl,λ_ _=>rfl,λh=>by cases h⟩
  simp only[sP];cases hk:ts[k]? with
  |some x=>
   obtain⟨v,hv,mM⟩:=gH.get iJ hk;simp only[qJ hv,Pd,aC];refine bw.bi (dJ.refl W w).toKeepsC ?_ x v mM;rintro b hb (h|⟨r,o,h,_⟩)
   ·exact h
   ·cases h
  |none=>
   have zH:cT.size<=k:=by
    have:=ZbS.1 hk;omega
   simp only[Pd,aC,p6 zH]
 refine callsIn_wide.1 (callsIn_of_wp_marks (n:=0) ut hb trivial ?_);refine wpIn_mono (k.run c hc 0 _ _ _ _ ⟨λJ hJ=>(by cases hJ),λl r s hY=>(by cases hY),λl hl=>(by cases hl)⟩ wx) ?_;rintro e' a' w' ⟨dL,L',q,r'⟩;have done:((dL.tmps t=.bH/\aw=[]/\0<sz)\/∃r bP,dL.tmps t=.bE r bP/\dL.ab r=some (.bJ bP e sz aw))->LeavesInM Fence.wide 0 P fn a'.tmps (λe' w'=>∃v,e'=.returned v/\xQ w.heap.size w w'/\E3 w.heap.size w' W e sz aw v) a'.defers .returning w':=by
  intro hq;obtain⟨Ds,h1,h2,h3,_⟩:=r'.r.defers;rw[h1];refine leaves (κ:=⟨W,λ_=>none,⟨λ_=>0,λ_=>Go.undef,0⟩,w,w.heap.size,λ_=>False,w,none,none,none⟩) rfl ?_ Ds a' w' L' r'.r h1 h2 h3;intro a2 w2 L2 h4;obtain⟨W',LN,M',w0',dW,h0⟩:=h4.ex;obtain⟨_,e1,e2,e3,e4⟩:=dW
  replace h0:R0 w.heap.size W (λ_=>False) w fn.ntmps dL.tmps dL.ab a2 w2 L2:=by rw[e1,e2,e3,e4]at h0;exact h0
  have fr:=h0.o.fr;refine⟨_,AF hr,_,rfl,⟨⟨fr.os,fr.tape,fr.output,fr.size,λk hk=>fr.block k hk (λx=>x)⟩,fr.drawn⟩, ?_⟩;have ht:=h0.tmps t;rcases hq with⟨hq,rfl,jJ⟩|⟨r,bP,hq,ho⟩
  ·rw[hq]at ht;simp only[aC]at ht;exact⟨jJ,λ_ h=>(by cases h),.inl ⟨rfl,ht⟩⟩
  ·rw[hq]at ht;simp only[aC]at ht;obtain⟨_,cJ,e',jI,fz,jA,_,hx⟩:=ht;rw[ho]at jA;cases jA;have hx:=hx rfl;obtain⟨g1,g2,g3,g4⟩:=h0.o.ob r _ ho;refine⟨g1,g2, ?_⟩;rcases g4 with⟨h5,a,h6⟩|⟨g,cap,eV,hv,hp,hh,k1,k2,k3,k4⟩
   ·exact .inl ⟨h5,a,hx.trans h6⟩
   ·have zX:bm (L2.sl r)=some g:=by rw[hv];simp[bm,GY.1 hp]
    refine .inr ⟨g,cap,eV,hx.trans hv,hp,(g3 g zX).resolve_right (λx=>x),hh,k1,k2,k3,bu.bi (dJ.refl (WW W dL.ab L2) w2).toKeepsC (λb _ hb=>?_) _ _ k4⟩;rcases hb with hb|rfl
    ·exact .inl hb
    ·exact .inr ⟨r,_,ho,zX⟩
 cases e' with
 |normal=>exact done q
 |ret=>exact done q
 |_=>exact q.elim
section
variable{κ:qC}{nt:Nat}{Γ:pW}{aJ:Nat}{ro:Option Nat}{n:Nat}
def RH(aB:ay P Γ)(Ae:κ.Good P){ops:Array Oper}{Q:Exit->Act->World->Prop}{l2:cY}:∀(l:cY) (rs:cu),(∀(k:Nat) (i:Nat),l[k]? =some i->∃o r,ops[i]? =some o/\rs[k]? =some r/\eP P ops o=some (bare r))->rs.length=l.length->rs.all (nA nt)=true->gI rs=true->
  ∀(st:RS) (a:Act) (w:World) (L:Loc),fB κ nt st a w L->lT aJ rs st->kD Γ aJ rs st->(∀a' w' L',fB κ nt (eH Γ aJ rs st) a' w' L'->wpOpsIn (jU ro) n P ops Q l2 a' w')->wpOpsIn (jU ro) n P ops Q (l++l2) a w
 |[],rs,_,hl,_,_,st,a,w,L,h,_,_,hQ=>by
  have:rs=[]:=Ln (by simpa using hl);subst this;exact hQ a w L h
 |i::l,[],_,hl,_,_,_,_,_,_,_,_,_,_=>by simp at hl
 |i::l,r::rs,hk,hl,eI,cj,st,a,w,L,h,hf,aO,hQ=>by
  obtain⟨o,r',ho,g0,hc⟩:=hk 0 i rfl;simp only[IS,cI]at g0;subst g0;simp only[ZcZ,mX]at eI;simp only[kD]at aO;have WH:g6 r=true:=by have:=eI.1;simp only[nA,mX]at this;exact this.1.2
  show wpOpsIn (jU ro) n P ops Q (i::(l++l2)) a w;rw[wpOpsIn_cons];refine r9 aB Ae ho hc eI.1 h (hf.2 r (by simp)) aO.1 λa' w' L' h'=>?_;refine RH aB Ae l rs (λk j hj=>hk (k+1) j (by simpa using hj)) (by simpa using hl) eI.2 (by simp only[gI,mX]at cj;exact cj.2) _ a' w' L' h' ?_ aO.2 hQ;exact xo aB WH aO.1 (uy cj) ⟨hf.1,λy hy=>hf.2 y (by simp[hy])⟩
def Mb(aB:ay P Γ){t:Nat}:∀(rs:cu) (st:RS),kD Γ aJ rs st->st.ab t=none->(∀r∈rs,lays r.d=true->t≠nm aJ r)->(eH Γ aJ rs st).ab t=none
 |[],st,_,h,_=>h
 |r::rs,st,aO,h,hn=>by
  simp only[kD]at aO;exact Mb aB rs _ aO.2 (BN aB aO.1 h (hn r (by simp))) λr hr=>hn r (by simp[hr])
end
section
variable{nt:Nat}{Γ:pW}{Q:Exit->mK->Prop}{tm:dG}{ob:bF}{aJ low:Nat}{td:List (aK)}
def JL{a b:cu}(h:gI (a++b)=true):gI a=true/\gI b=true/\∀x∈a,∀y∈b,rZ x y=true:=by
 induction a with
 |nil=>exact⟨rfl,h,λ_ h=>by cases h⟩
 |cons r a ih=>
  simp only[Dy,gI,mX,List.all_append]at h⊢;obtain⟨i1,i2,i3⟩:=ih h.2;refine⟨⟨h.1.1,i1⟩,i2,λx hx y hy=>?_⟩;rcases gm.1 hx with rfl|hx
  ·exact HH.1 h.1.2 y hy
  ·exact i3 x hx y hy
end
end
end
section
variable{f:Nat->Nat}
variable [bK] [d8]
def fZ(f:Nat->Nat)(r:RO):RO:=⟨r.d,r.dst,r.guard,r.after,r.ld.map (·.map f)⟩
def dq(f:Nat->Nat)(rs:cu):cu:=rs.map (fZ f)
def Xj(hf:∀a b,f a=f b->a=b)(x y:Option (cY)):DH (x.map (·.map f)) (y.map (·.map f))=DH x y:=by
 cases x<;>cases y<;>simp only[Option.map_none,OA,DH]
 rename_i a b;rw[Zcc];simp only[List.all_map,HH,Function.comp_apply,Zdl,ne_eq];exact⟨λh x hx y hy e=>h x hx y hy (by rw[e]),λh x hx y hy e=>h x hx y hy (hf _ _ e)⟩
def Uk(hf:∀a b,f a=f b->a=b)(x y:RO):lO (fZ f x) (fZ f y)=lO x y:=by
 unfold lO;rw[show(fZ f x).ld=x.ld.map (·.map f)from rfl,show(fZ f y).ld=y.ld.map (·.map f)from rfl,Xj hf];rfl
def Ul(f:Nat->Nat)(rs:cu):oQ (dq f rs)=oQ rs:=by
 unfold oQ dq;rw[ZcV];try rfl
def FF(f:Nat->Nat):∀rs:cu,gI (dq f rs)=gI rs
 |[]=>rfl
 |r::rs=>by
  simp only[dq,rW,gI,List.all_map];have:=FF f rs;simp only[dq]at this;rw[this];rfl
def eC(hf:∀a b,f a=f b->a=b)(nt:Nat)(iV:Bool)(rs:cu):eR nt iV (dq f rs)=eR nt iV rs:=by
 unfold eR;rw[FF,Ul];have h1:(dq f rs).all (nA nt)=rs.all (nA nt):=by simp only[dq,List.all_map];rfl
 have h2:xn (dq f rs) (oQ rs)=xn rs (oQ rs):=by
  unfold xn;simp only[dq,RB,ZbH]
  congr 1
  funext i;cases rs[i]? with
  |none=>rfl
  |some y=>
   cases(oQ rs)[i]? with
   |none=>rfl
   |some m=>
    simp only[OA]
    congr 1
    congr 1
    funext x;cases rs[x]? with
    |none=>rfl
    |some r=>simp only[OA,Uk hf]
 rw[h1,h2]
def Mc(b N:Nat)(n:Nat):Nat:=if n=0 then b else N+n
def Um{b N:Nat}(h:b<N)(x y:Nat)(e:Mc b N x=Mc b N y):x=y:=by
 unfold Mc at e;split at e<;>split at e<;>omega
def jv(l:df)(r:Nat)(o:Ob):eY (cF l) r o=cF ((r,o)::l):=rfl
end
section
variable{d:DC}{rs:cu}
variable [bK] [d8]
section
variable{P:Program}{nt:Nat}{Γ:pW}{Q:Exit->mK->Prop}{st:mK}{tm:dG}{ob:bF}{aJ low:Nat}{td:List (aK)}
def aa.abv(aB:ay P Γ)(hm:P.follows .mixedOrders=true)(hd:d=.region false (rs.map bare))(aO:eR nt false rs=true)
  (cw:kD Γ st.aJ rs ⟨st.tmps,st.ab,st.todo⟩) (hQ:Q .normal ⟨(eH Γ st.aJ rs ⟨st.tmps,st.ab,st.todo⟩).tmps,(eH Γ st.aJ rs ⟨st.tmps,st.ab,st.todo⟩).ab,st.aJ+nt+1,st.low,(eH Γ st.aJ rs ⟨st.tmps,st.ab,st.todo⟩).todo⟩):
  aa P nt d Q st:=by
 refine⟨λc hc=>?_⟩;subst hd;obtain⟨id,ops,rfl,nR,ahF⟩:=qH hc;exact uA aB hm nR aO cw hQ
def aa.JM(aB:ay P Γ)(hm:P.follows .mixedOrders=true)(hd:d=.region false (rs.map bare))(aO:eR nt false rs=true)(ks:cY)
  (h:fO Γ aJ rs ⟨tm,ob,td⟩ λs=>Q .normal ⟨look (oT ks s.tmps),s.ab,aJ+nt+1,low,s.todo⟩):aa P nt d Q ⟨tm,ob,aJ,low,td⟩:=by
 have:=jM _ _ _ h;refine aa.Ai (Q:=λe s=>e=.normal/\s=⟨(eH Γ aJ rs ⟨tm,ob,td⟩).tmps,(eH Γ aJ rs ⟨tm,ob,td⟩).ab,aJ+nt+1,low,(eH Γ aJ rs ⟨tm,ob,td⟩).todo⟩) (aa.abv aB hm hd aO (st:=⟨tm,ob,aJ,low,td⟩) this.1 ⟨rfl,rfl⟩) ?_;rintro e s ⟨rfl,rfl⟩;exact⟨_,Le.yj (od _ ks),this.2⟩
def aa.c5(aB:ay P Γ)(hm:P.follows .mixedOrders=true){b:DC}(hd:d=.region false (rs.map bare))(aO:eR nt false rs=true)(ks:cY)
  (h:fO Γ aJ rs ⟨tm,ob,td⟩ λs=>aa P nt b Q ⟨look (oT ks s.tmps),s.ab,aJ+nt+1,low,s.todo⟩):aa P nt (.seq d b) Q ⟨tm,ob,aJ,low,td⟩:=
 aa.seq (aa.JM aB hm hd aO ks h)
end
end
end Go.DM
namespace Go.DM
open Go.RowKit
variable [bK] [d8]
section
variable{Γ:pW}{aJ:Nat}{K:RS->Prop}{rs:cu}{tm:dG}{ob:bF}{td:List (aK)}{dst:Option Nat}{d:tZ}{s:Nat}{af l:cY}
@[simp] def am7(b:Bool)(h:tm s=.v (.bool b)):fO Γ aJ (⟨d,dst,some (s,b),af,some l⟩::rs) ⟨tm,ob,td⟩ K=(cZ ⟨d,dst,none,af,some l⟩ tm/\(t6 d=true->HJ l ob (pJ Γ d tm ob td).ab)/\nM Γ aJ d rs tm ob td K dst tm):=by
 simp only[fO,h,forall_const,kU h,Fj];cases b<;>simp[Ak,cZ]
def Md(b c:Bool)(h:tm s=.v (.bool b))(hc:b= !c):fO Γ aJ (⟨d,dst,some (s,c),af,some l⟩::rs) ⟨tm,ob,td⟩ K=fO Γ aJ rs ⟨dg tm dst .skip,ob,td⟩ K:=by
 subst hc;cases c
 ·have h:tm s=.v (.bool true):=h;simp[fO,h,kU h]
 ·have h:tm s=.v (.bool false):=h;simp[fO,h,kU h]
@[simp] def al9(h:tm s=.v (.bool true)):fO Γ aJ (⟨d,dst,some (s,false),af,some l⟩::rs) ⟨tm,ob,td⟩ K=fO Γ aJ rs ⟨dg tm dst .skip,ob,td⟩ K:=Md true false h rfl
@[simp] def ama(h:tm s=.v (.bool false)):fO Γ aJ (⟨d,dst,some (s,true),af,some l⟩::rs) ⟨tm,ob,td⟩ K=fO Γ aJ rs ⟨dg tm dst .skip,ob,td⟩ K:=Md false true h rfl
@[simp] def amb{mH:Bool}(h:tm s=.skip):fO Γ aJ (⟨d,dst,some (s,mH),af,some l⟩::rs) ⟨tm,ob,td⟩ K=fO Γ aJ rs ⟨dg tm dst .skip,ob,td⟩ K:=by
 simp only[fO,h]
end
end Go.DM
namespace Go.DM
open Go.RowKit
section
variable{cs:bM}{aw:List (aK)}{sz:Nat}
variable [bK] [d8]
def Xk{base:Nat}{W M:f9}{w0 w:World}{o1:bF}{L1:Loc}(vq:cO base W M w0 o1 w L1){r k:Nat}{d:DV}(tg:o1 r=some (.box cs))
  (hd:∀c f xs,w.heap[L1.kx r]? =some (.cells c f (0,0))->c.toList=xs->∀x,xs[k]? =some x->iH W o1 L1 w (eY o1 r (.box (cs.set k d))) L1 w->aC w W (eY o1 r (.box (cs.set k d))) L1 d x):
  cO base W M w0 (eY o1 r (.box (cs.set k d))) w L1/\iH W o1 L1 w (eY o1 r (.box (cs.set k d))) L1 w:=by
 have DZ:∀{V:f9} b,WW V (eY o1 r (.box (cs.set k d))) L1 b->WW V o1 L1 b:=by
  intro V b hb;rcases hb with hb|⟨r',o,g0,hb⟩
  ·exact .inl hb
  ·rcases gh g0 with⟨rfl,rfl⟩|⟨_,g0⟩
   ·exact .inr ⟨r',_,tg,hb⟩
   ·exact .inr ⟨r',o,g0,hb⟩
 have vx:iH W o1 L1 w (eY o1 r (.box (cs.set k d))) L1 w:=by
  refine⟨dJ.refl _ _,λb _ h=>DZ b h,λr' o' g0 vQ=>?_,λr' bP e' jI aw g0=>?_,rfl⟩
  ·by_cases he:r'=r
   ·subst he;rw[tg]at g0;cases g0;exact⟨rfl,.box (cs.set k d),by simp[eY],rfl⟩
   ·exact⟨rfl,o',oC he g0,rfl⟩
  ·have he:r'≠r:=λhe=>by rw[he,tg]at g0;cases g0
   exact⟨bP,e',jI,aw,oC he g0,eF _,λ_=>⟨rfl,rfl,rfl⟩⟩
 refine⟨⟨vq.fr,λr' o g0=>?_,λp p' o o' b cj h1 h2 hb=>?_,λp o b hp hb=>?_,vq.under,vq.gl.bi vx.dP.toKeepsC vx.sub⟩,vx⟩
 ·rcases gh g0 with⟨rfl,rfl⟩|⟨cj,g0⟩
  ·obtain⟨c,f,ct,iJ,hm⟩:=vq.ob r' _ tg;exact⟨c,f,ct,BU _ _ _ _ (aX.fP vx _ _ iJ) λy hy=>hd c f _ ct rfl y hy vx,hm⟩
  ·have vQ:=vq.ob r' o g0;cases o with
   |box x9=>
    obtain⟨c',f',Fy,Fz,I3⟩:=vQ;exact⟨c',f',Fy,aX.fP vx x9 _ Fz,I3⟩
   |map cL agg c es=>
    obtain⟨bJ,Fy,Fz,q1,q2,q3,I3⟩:=vQ;exact⟨bJ,Fy,bX.fP vx es _ Fz,q1,q2,q3,I3⟩
   |cX m s sn l=>
    obtain⟨Fy,Oo,I3⟩:=vQ;exact⟨Fy,(vx.mp m Oo).2,I3⟩
   |bJ bP e' jI aw=>
    obtain⟨g1,g2,g3,g4⟩:=vQ;refine⟨g1,g2,g3, ?_⟩;rcases g4 with g4|⟨g,cap,eV,hv,hp,hh,k1,k2,k3,k4⟩
    ·exact .inl g4
    ·exact .inr ⟨g,cap,eV,hv,hp,hh,k1,k2,k3,bu.bi (dJ.refl (WW W o1 L1) w).toKeepsC (λb _ hb=>DZ b hb) _ _ k4⟩
 ·have key:∀{p o},eY o1 r (.box (cs.set k d)) p=some o->∃o2,o1 p=some o2/\L1.own p o=L1.own p o2:=by
   intro p o hp;rcases gh hp with⟨rfl,rfl⟩|⟨_,hp⟩
   ·exact⟨_,tg,rfl⟩
   ·exact⟨o,hp,rfl⟩
  obtain⟨x1,y1,z1⟩:=key h1;obtain⟨x2,y2,z2⟩:=key h2;rw[z1]at hb;rw[z2];exact vq.apart p p' x1 x2 b cj y1 y2 hb
 ·rcases gh hp with⟨rfl,rfl⟩|⟨_,hp⟩
  ·exact vq.tu p _ b tg hb
  ·exact vq.tu p o b hp hb
def Un{n:Nat}(h:∀x∈aw,x.length=sz):(aw.take n).flatten=aw.flatten.take (n*sz):=by
 induction aw generalizing n with
 |nil=>simp
 |cons r rs ih=>
  cases n with
  |zero=>simp
  |succ n=>
   have hr:r.length=sz:=h r (by simp);have e1:r.take ((n+1)*sz)=r:=TE (by rw[hr,Dw];omega);have e2:(n+1)*sz-sz=n*sz:=by rw[Dw];omega
   rw[Zcw,V9,V9,Zdn,hr,e1,e2,ih λx hx=>h x (by simp[hx])]
def Le.cut{tm:dG}{ob:bF}{aJ low:Nat}{td:List (aK)}(r:Nat)(k:Nat){q bP n e:Nat}(hr:ob r=some (.box cs))(hk:cs[k]? =some (.w8 q bP 0 n))
  (hq:ob q=some (.bJ bP e sz aw)):
  Le ⟨tm,ob,aJ,low,td⟩ ⟨tm,eY (eY ob q (.bJ (bP+1) e sz (aw.take n))) r (.box (cs.set k (.bE q (bP+1)))),aJ,low,td⟩:=by
 intro κ nt a w L h;have hrq:r≠q:=λe=>by rw[e,hq]at hr;cases hr
 obtain⟨W,base,M,w0,dW,h0⟩:=h.r.ex;have hO:=h0.o;obtain⟨c,f,ct,iJ,hm⟩:=hO.ob r _ hr;obtain⟨x,hx⟩:=yS _ _ _ _ iJ hk;have G3:=BV _ _ _ _ _ iJ hk hx;simp only[aC]at G3;obtain⟨_,cJ,e',jI,fz,jA,_,hv⟩:=G3;rw[hq]at jA;cases jA;obtain⟨Lm,p,cap,p2,xS,Ro,Rh⟩:=hv rfl;simp only[Zcu,Zc3,KR]at Lm Ro Rh;obtain⟨jJ,dQ,zX,mN⟩:=hO.ob q _ hq;have um:bm (L.sl q)=bm x:=by
  rw[xS,Ro];by_cases h0:cap=0
  ·subst h0;cases p<;>cases p2<;>simp[bm]
  ·rw[Rh (by omega)];cases p<;>simp[bm,h0,Addr.add]
 have step:∃xs,bu w (WW W ob L) (aw.take n).flatten xs/\(((aw.take n).length+([]:List (aK)).length=0/\∃a:Option Addr,x=.slice a 0 0)\/∃g cap eV,x=.slice (some ⟨g,0,none⟩) ((aw.take n).length+([]:List (aK)).length) cap/\0<cap/\w.heap[g]? =some (.cells eV e (0,0))/\(aw.take n).length+([]:List (aK)).length<=cap/\cap<=maxLen/\eV.size=cap*sz/\
     eV.toList.take (((aw.take n).length+([]:List (aK)).length)*sz)=xs++[]):=by
  have hl:(aw.take n).length=n:=by rw[xj];omega
  rcases mN with⟨rfl,a0,ha0⟩|⟨g,amw,eV,h1,h2,h3,h4,h5,h6,h7⟩
  ·simp only[ZcA]at Lm;obtain rfl:n=0:=by omega
   rw[xS]at ha0;simp only[Value.slice.injEq]at ha0;obtain⟨rfl,_,rfl⟩:=ha0;exact⟨[],by simp[bu],.inl ⟨by simp,p2,by rw[Ro]⟩⟩
  ·rw[xS]at h1;simp only[Value.slice.injEq]at h1;obtain⟨rfl,_,rfl⟩:=h1;have:=Rh h2;subst this;refine⟨eV.toList.take (n*sz), ?_,.inr ⟨g,cap,eV,by rw[Ro,hl];simp[Addr.add],h2,h3,by simp only[hl,ZcA];omega,h5,h6,by rw[hl];simp⟩⟩;rw[Un dQ];have:=bu.take (n*sz) h7;rw[Zdc,Zdw (Zbx _ Lm)]at this;exact this
 obtain⟨xs,hxs,v6⟩:=step;obtain⟨vq,hA⟩:=uo (ys:=[]) (aw:=aw.take n) (cJ:=bP+1) (v:=x) (v':=x) (w':=w) (vs:=[]) hO jJ (λy hy=>dQ y (by simp only[xP]at hy;exact DB hy)) (.inr ⟨hq,um,by omega⟩) hxs (by simp[bu]) v6
  ⟨rfl,rfl,rfl,eF _,λ_ _ _=>rfl⟩ (λb hb=>.inl hb) (eF _)
 simp only[xP]at vq hA;obtain⟨o1,L5⟩:=aW (eY ob q (.bJ (bP+1) e sz (aw.take n)));have qA:cV ob (some (q,.bJ (bP+1) e sz (aw.take n)))=o1:=L5;rw[qA]at vq hA;obtain⟨L1,Uf⟩:=aW (L.jS q x);rw[Uf]at vq hA;have tg:o1 r=some (.box cs):=by rw[<-L5];exact oC hrq hr
 have hq1:o1 q=some (.bJ (bP+1) e sz (aw.take n)):=by rw[<-L5];simp[eY]
 obtain⟨Jz,vx⟩:=Xk (k:=k) (d:=.bE q (bP+1)) vq tg (λc' f' mL Lx nK y hy vx=>by
  have hb:L1.kx r=L.kx r:=by rw[<-Uf];rfl
  rw[hb,ct]at Lx;cases Lx;rw[<-nK,hx]at hy;cases hy;simp only[aC];refine⟨⟨_,_,_,Ro⟩,bP+1,e,sz,aw.take n,oC (Ne.symm hrq) hq1,eF _,λ_=>?_⟩;rw[<-Uf];simp[Loc.jS])
 have yN:=dW.sub;have zG:∀r',aJ<=r'->eY o1 r (.box (cs.set k (.bE q (bP+1)))) r'=none:=λr' g0=>by
  have hn:=h.fresh r' g0;simp only at hn;have e1:r'≠r:=λe=>by rw[e,hr]at hn;cases hn
  have e2:r'≠q:=λe=>by rw[e,hq]at hn;cases hn
  rw[<-L5];simp only[eY];rw[bj e1,bj e2];exact hn
 rw[L5];exact⟨L1,⟨⟨W,base,M,w0,dW,h0.size,λt=>aC.fP vx _ _ (aC.fP hA _ _ (h0.tmps t)),Jz⟩,iH.comp (iH.comp h.r.fP hA (dW.Jl _) yN.2) vx (dW.Jl _) yN.2,h.r.defers,h.r.bg,⟨_,zG⟩⟩,zG,h.low,h.it⟩
end
section
variable{f:FuncId}{N':Nat}
variable [bK] [d8]
section
variable{P:Program}
structure uI(P:Program)(f:FuncId)(args:bM)(ab:bF)(N N':Nat)(sU:DV->bF->Prop):Prop where
 entry:E0 P f
 le:N<=N'
 none:∀val aI,sU val aI->(∀r,r<N->ab r=none->aI r=none)/\∀r,N'<=r->aI r=none
 run:∀(base:Nat) (W M:f9) (w0 w:World) (L:Loc) (cT:Array Value),cO base W M w0 ab w L->kC w W ab L args cT.toList->
  Calls P f cT w λe w'=>∃v L' val aI,e=.returned v/\sU val aI/\cO base W M w0 aI w' L'/\iH W ab L w aI L' w'/\aC w' W aI L' val v
def abw(t:Nat)(sU:DV->bF->Prop):Exit->mK->Prop
 |.normal,st|.ret,st=>sU (st.tmps t) st.ab
 |_,_=>False
def aP.Xl{nt:Nat}{d:DC}{t:Nat}(h:aP P f nt d [.kT t]){args:bM}{ab:bF}{sU:DV->bF->Prop}{N:Nat}(hN:∀r,N<=r->ab r=none)(dQ:args.length<=nt)
   (kw:N<=N') (nL:∀val aI,sU val aI->(∀r,r<N->ab r=none->aI r=none)/\∀r,N'<=r->aI r=none)
  (k:dy ab N->aa P nt d (abw t sU) ⟨look (args.zipIdx.map λp=>(p.2,p.1)),aR [] ab,N,N,[]⟩):uI P f args ab N N' sU:=by
 have BR:=h.entry;obtain⟨fn,ut,rfl,h3,hr,_⟩:=h;obtain⟨c,hb,hc⟩:=jr.1 h3;refine⟨BR,kw,nL,λbase W M w0 w L cT hO DG=>?_⟩;have k:=BT (k (B1 hO hN));have hl:=DG.1;simp only[Rg]at hl;have wx:Jw ⟨W,ab,L,w,base,M,w0,none,none,none⟩ fn.ntmps (yi args ab N) {tmps:=cT++Array.replicate (fn.ntmps-cT.size) Go.undef,defers:=[]} w L:=by
  refine⟨⟨⟨W,base,M,w0,⟨λ_=>rfl,rfl,rfl,rfl,rfl⟩,by simp;omega,λk=>?_,hO⟩,
   iH.dc (dJ.refl _ _),⟨[],rfl,Zch,(λ_ h=>by cases h),λ_=>rfl⟩,λ_=>yI hO.fr.kl hO.fr.size,⟨N,hN⟩⟩,hN,hN,λh=>by cases h⟩
  simp only[yi];cases hk:args[k]? with
  |some x=>
   have hv:∃v,cT.toList[k]? =some v:=by
    have:k<cT.size:=by rw[hl];exact(DA.1 hk).1
    exact⟨cT[k],by simp[this]⟩
   obtain⟨v,hv⟩:=hv;simp only[qJ hv,DI];exact DG.2 k x v hk hv
  |none=>
   have zH:cT.size<=k:=by
    have:=ZbS.1 hk;omega
   simp only[DI,aC,p6 zH]
 refine callsIn_wide.1 (callsIn_of_wp_marks (n:=0) ut hb trivial ?_);refine wpIn_mono (k.run c hc 0 _ _ _ _ ⟨λJ hJ=>(by cases hJ),λl r s hY=>(by cases hY),λl hl=>(by cases hl)⟩ wx) ?_;rintro e a' w' ⟨dL,L',q,r'⟩;have done:sU (dL.tmps t) dL.ab->LeavesInM Fence.wide 0 P fn a'.tmps (λe w'=>∃v L' val aI,e=.returned v/\sU val aI/\cO base W M w0 aI w' L'/\iH W ab L w aI L' w'/\aC w' W aI L' val v) a'.defers .returning w':=by
  intro Jy;obtain⟨Ds,h1,h2,h3,_⟩:=r'.r.defers;rw[h1];refine leaves (κ:=⟨W,ab,L,w,base,M,w0,none,none,none⟩) rfl ?_ Ds a' w' L' r'.r h1 h2 h3;intro a2 w2 L2 h4;obtain⟨W',LN,M',w0',dW,h0⟩:=h4.ex;obtain⟨_,e1,e2,e3,e4⟩:=dW
  replace h0:R0 base W M w0 fn.ntmps dL.tmps dL.ab a2 w2 L2:=by rw[e1,e2,e3,e4]at h0;exact h0
  exact⟨_,AF hr,_,L2,dL.tmps t,dL.ab,rfl,Jy,h0.o,h4.fP,h0.tmps t⟩
 cases e with
 |normal=>exact done q
 |ret=>exact done q
 |_=>exact q.elim
section
variable{nt:Nat}{Γ:pW}{Q:Exit->mK->Prop}{tm:dG}{ob:bF}{aJ low:Nat}{td:List (aK)}
def aa.Xm(aB:ay P Γ){rs pre post:cu}{args:List cg}{dst:Option Nat}{af:cY}(ks:cY)(nR:rs=pre++⟨.call f args,dst,none,af,none⟩::post)
  (h:fO Γ aJ pre ⟨tm,ob,td⟩ λs=>∃sU,((∀r,aJ+nt+1<=r->s.ab r=none)->uI P f (args.map (·.ev s.tmps)) s.ab (aJ+nt+1) N' sU)/\
   ∀val oB,sU val oB->fO Γ aJ post ⟨dg s.tmps dst val,oB,s.todo⟩ λs'=>Q .normal ⟨look (oT ks s'.tmps),s'.ab,N',low,s'.todo⟩):
  aa P nt (.region false rs) Q ⟨tm,ob,aJ,low,td⟩:=by
 refine⟨λc hc=>?_⟩;obtain⟨id,ops,rfl,pi,aO⟩:=qH hc;have ah7:ga P ops=some (rs.map bare):=by rw[vo pi];exact pi
 have hg:=mY ah7;simp only[eR,mX]at aO;obtain⟨⟨eI,cj⟩,_⟩:=aO;subst nR;rw[List.all_append,ZcZ]at eI;simp only[mX]at eI;obtain⟨RI,pw,Xn⟩:=eI;obtain⟨ahM,abx,am8⟩:=JL cj;have EW:=jM _ _ _ h;obtain⟨Xo,sU,ba,agv⟩:=EW;intro n κ VL w L g r;refine wpIn_region ?_;have jJ:ops.size=pre.length+(post.length+1):=by have:=hg.1;simp at this;omega
 have fF:∀x:RO,∃k,nm aJ x=aJ+k:=λx=>by
  unfold nm b8;cases x.dst with
  |none=>exact⟨0,rfl⟩
  |some d=>exact⟨d+1,by simp only[fQ]⟩
 have yV:∀t,aJ<=t->ob t=none:=λt ht=>r.fresh t ht;have hf1:lT aJ pre ⟨tm,ob,td⟩:=⟨yV aJ (eF _),λx _=>by obtain⟨k,hk⟩:=fF x;rw[hk];exact yV _ (by omega)⟩;have ah8:List.range ops.size=List.range pre.length++(pre.length::List.range' (pre.length+1) post.length):=by
  rw[jJ,range_split (i:=pre.length) (by omega)]
  congr 2
  congr 1
  omega
 rw[ah8];refine RH aB g (List.range pre.length) pre (λk i hi=>?_) (by simp) RI ahM ⟨tm,ob,td⟩ VL w L r.r hf1 Xo ?_
 ·obtain⟨hk,Jd⟩:=DA.1 hi;simp only[Zcm]at hk;simp only[ZbX]at Jd;subst Jd;obtain⟨r,h1,h2⟩:=hg.2 k ops[k] (by simp[show k<ops.size by omega]);rw[Zbm hk]at h1;exact⟨ops[k],r,by simp[show k<ops.size by omega],h1,h2⟩
 intro a1 w1 L1 R1;obtain⟨s1,KY⟩:=aW (eH Γ aJ pre ⟨tm,ob,td⟩);have am9:∀t,ob t=none->(∀r∈pre,lays r.d=true->t≠nm aJ r)->s1.ab t=none:=λt ht hn=>by rw[<-KY];exact Mb aB pre _ Xo ht hn
 rw[KY]at R1 ba agv;obtain⟨r',h1,hco⟩:=hg.2 pre.length ops[pre.length] (by simp[show pre.length<ops.size by omega]);rw[Zbk (eF _)]at h1;simp only[ZcG,IS,cI]at h1;subst h1;obtain⟨hd,hgd,lM,_⟩:=gJ hco;rw[wpOpsIn_cons,wpOpIn];simp only[show ops[pre.length]? =some ops[pre.length]by simp[show pre.length<ops.size by omega]];rw[BM (b:=true) hgd R1 rfl];simp only[km];refine⟨nW _ w1 _, ?_⟩;have hd':dS P ops[pre.length]=some (.call f args):=hd;have Af:∀c,ops[pre.length].op≠ .defer c:=pk hd';rw[show(jU κ.ro).round=κ.ro from rfl,Oper.semAt_eq κ.ro _ _ Af];obtain⟨c,ho,ct⟩:=gk hd' (.inl ⟨f,args,rfl⟩);obtain⟨fn,kv,ut,WI,CX,rL⟩:=mr ct;have cw:=kR (P:=P) (w:=w1) (a:=a1) (g:=f) (cA:= #[]) ho (λx hx=>by rw[kv]at hx;cases hx;rfl) ⟨_,kv⟩ ⟨fn,ut,WI,CX⟩;rw[ZbW]at cw;rw[cw,Oper.uponIn_enter];refine⟨λhx=>(by cases hx),fD ?_⟩;obtain⟨W,base,M,w0,dW,h0⟩:=R1.ex;have hN1:∀r,aJ+nt+1<=r->s1.ab r=none:=λt ht=>by rw[<-KY];exact Aj aB pre RI _ Xo t ht (yV t (by omega))
 have ba:=ba hN1;refine(ba.run base W M w0 w1 L1 (c.args.map a1.eval) h0.o (by simpa using g5 h0.o.gl h0.tmps rL)).mono ?_;rintro e w2 ⟨v,L2,val,VQ,rfl,hP,Jz,vx,mM⟩;have OC:∀d,dst=some d->d<nt:=by
  intro d hd;have:=pw;subst hd;simp only[nA,mX,sa]at this;exact this.2
 have R2:=fB.put R1 dW h0 dst OC Jz vx mM ⟨N',(ba.none val VQ hP).2⟩;show wpOpsIn (jU κ.ro) n P ops _ (List.range' (pre.length+1) post.length) (a1.put ops[pre.length].dst v) w2;have RK:dst=ops[pre.length].dst:=lM;rw[<-RK];have awp:=jM _ _ _ (agv val VQ hP);obtain⟨Rv,hQ2⟩:=awp;have aby:∀r∈pre,lays r.d=true->∀y∈post,nm aJ y≠nm aJ r:=by
  intro r hr hl y hy e;have hn:=am8 r hr y (by simp[hy]);have hlr:=HH.1 RI r hr;simp only[nA,mX]at hlr;have sb:r.dst.isSome=true:=by simpa [g6,hl]using hlr.1.2
  obtain⟨d,hd⟩:=ZbB.1 sb;cases hyd:y.dst with
  |none=>simp[nm,b8,hd,hyd]at e;omega
  |some d'=>
   simp only[rZ,hd,hyd,Zdl,ne_eq]at hn;simp only[nm,b8,hd,hyd]at e;omega
 have BI:∀y∈post,nm aJ y<aJ+nt+1:=by
  intro y hy;have hly:=HH.1 Xn y hy;simp only[nA,mX]at hly;unfold nm b8;cases hyd:y.dst with
  |none=>simp only;omega
  |some d=>
   have:=hly.2;rw[hyd]at this;simp only[sa]at this;simp only;omega
 have hf2:lT aJ post ⟨dg s1.tmps dst val,VQ,s1.todo⟩:=by
  refine⟨(ba.none val VQ hP).1 _ (by omega) (am9 aJ (yV _ (eF _)) λr hr hl e=>?_),λy hy=>(ba.none val VQ hP).1 _ (BI y hy) (am9 _ ?_ λr hr hl=>aby r hr hl y hy)⟩
  ·have hlr:=HH.1 RI r hr;simp only[nA,mX]at hlr;have sb:r.dst.isSome=true:=by simpa [g6,hl]using hlr.1.2
   obtain⟨d,hd⟩:=ZbB.1 sb;simp[nm,b8,hd]at e;omega
  ·obtain⟨k,hk⟩:=fF y;rw[hk];exact yV _ (by omega)
 have awq:gI post=true:=by simp only[gI,mX]at abx;exact abx.2
 refine wu aB g (List.range' (pre.length+1) post.length) post (λk i hi=>?_) (by simp) Xn awq _ _ w2 L2 R2 hf2 Rv λa3 w3 L3 R3=>?_
 ·obtain⟨hk,Jd⟩:=DA.1 hi;simp only[List.length_range']at hk;simp only[List.getElem_range',Nat.one_mul]at Jd;subst Jd;obtain⟨r,h1,h2⟩:=hg.2 (pre.length+1+k) ops[pre.length+1+k] (by simp[show pre.length+1+k<ops.size by omega]);rw[Zbk (by omega),show pre.length+1+k-pre.length=k+1 by omega,Zbl]at h1;exact⟨ops[pre.length+1+k],r,by simp[show pre.length+1+k<ops.size by omega],h1,h2⟩
 ·have zG:∀t,N'<=t->(eH Γ aJ post ⟨dg s1.tmps dst val,VQ,s1.todo⟩).ab t=none:=by
   intro t ht;exact Aj aB post Xn _ Rv t (yI ba.le ht) ((ba.none val VQ hP).2 t ht)
  obtain⟨L4,R4⟩:=Le.yj (st:=⟨(eH Γ aJ post ⟨dg s1.tmps dst val,VQ,s1.todo⟩).tmps,(eH Γ aJ post ⟨dg s1.tmps dst val,VQ,s1.todo⟩).ab,N',low,(eH Γ aJ post ⟨dg s1.tmps dst val,VQ,s1.todo⟩).todo⟩) (od _ ks) κ nt a3 w3 L3 ⟨R3,zG,r.low,r.it⟩;exact⟨_,L4,hQ2,R4⟩
end
end
end
end Go.DM
namespace Go.DM
open Go.RowKit
variable [bK] [d8]
section
variable{P:Program}{nt:Nat}{Γ:pW}{κ:qC}{ro:Option Nat}{n:Nat}
def Pu(Ae:κ.Good P){ops:Array Oper}{i:Nat}{o:Oper}{f:FuncId}{args:List cg}{dst:Option Nat}{af:cY}(hi:ops[i]? =some o)(hco:eP P ops o=some ⟨.call f args,dst,none,af,none⟩)(pw:nA nt ⟨.call f args,dst,none,af,none⟩=true)
  {s1:RS} {a1:Act} {w1:World} {L1:Loc} (R1:fB κ nt s1 a1 w1 L1) {N N':Nat} {sU:DV->bF->Prop} (ba:uI P f (args.map (·.ev s1.tmps)) s1.ab N N' sU) {K:Act->World->Prop} {Q:Exit->Act->World->Prop}
  (hK:∀a' w' L' val oB,sU val oB->fB κ nt ⟨dg s1.tmps dst val,oB,s1.todo⟩ a' w' L'->K a' w'):wpOpIn (jU κ.ro) n P ops Q i K a1 w1:=by
 obtain⟨hd,hgd,lM,_⟩:=gJ (r:=⟨.call f args,dst,none,af,none⟩) hco;rw[wpOpIn];simp only[hi];rw[BM (b:=true) hgd R1 rfl];simp only[km];refine⟨nW _ w1 _, ?_⟩;have hd':dS P o=some (.call f args):=hd;have Af:∀c,o.op≠ .defer c:=pk hd';rw[show(jU κ.ro).round=κ.ro from rfl,Oper.semAt_eq κ.ro _ _ Af];obtain⟨c,ho,ct⟩:=gk hd' (.inl ⟨f,args,rfl⟩);obtain⟨fn,kv,ut,WI,CX,rL⟩:=mr ct;have cw:=kR (P:=P) (w:=w1) (a:=a1) (g:=f) (cA:= #[]) ho (λx hx=>by rw[kv]at hx;cases hx;rfl) ⟨_,kv⟩ ⟨fn,ut,WI,CX⟩;rw[ZbW]at cw;rw[cw,Oper.uponIn_enter];refine⟨λhx=>(by cases hx),fD ?_⟩;obtain⟨W,base,M,w0,dW,h0⟩:=R1.ex;refine(ba.run base W M w0 w1 L1 (c.args.map a1.eval) h0.o (by simpa using g5 h0.o.gl h0.tmps rL)).mono ?_;rintro e w2 ⟨v,L2,val,VQ,rfl,hP,Jz,vx,mM⟩;have OC:∀d,dst=some d->d<nt:=by
  intro d hd;have:=pw;subst hd;simp only[nA,mX,sa]at this;exact this.2
 have R2:=fB.put R1 dW h0 dst OC Jz vx mM ⟨N',(ba.none val VQ hP).2⟩;have RK:dst=o.dst:=lM;rw[RK]at R2;rw[RK]at hK;exact hK _ _ _ _ _ hP R2
end
section
variable{P:Program}{nt:Nat}{Γ:pW}{Q:Exit->mK->Prop}{tm:dG}{ob:bF}{aJ low:Nat}{td:List (aK)}
def Xp{a:Array Bool}{i:Nat}(h:i<a.size)(d e:Bool):a.getD i d=a.getD i e:=by
 rw[Oy,Oy];simp[h]
end
end Go.DM
namespace Go.DM
section
variable [bK]
def zU:Code->List (Array Oper)
 |.region _ ops _=>[ops]
 |.seq a b=>zU a++zU b
 |.cond _ a b=>zU a++zU b
 |.block _ c=>zU c
 |.loop c=>zU c
 |.rangeFunc _ _ a b=>zU a++zU b
 |_=>[]
noncomputable def rg0(P:Program)(fn:Func)(k:Nat):cu:=
 match fn.body with
 |some c=>match(zU c)[k]? with
  |some ops=>(ga P ops).getD []
  |none=>[]
 |none=>[]
noncomputable def rg1(P:Program)(f k:Nat):cu:=match P.funcs[f]? with
 |some fn=>rg0 P fn k
 |none=>[]
def av3(sf:cY)(l:cu):cu:=l.map λr=>match r.d with
 |.call f xs=>if sf.contains f then⟨.callS f xs,r.dst,r.guard,r.after,none⟩else if sf.contains (f+100000)then⟨.callF f xs,r.dst,r.guard,r.after,none⟩else if sf.contains (f+200000)then⟨.callR f xs,r.dst,r.guard,r.after,none⟩else r
 |.mkSlice e sz b z n=>if sf.contains (e+300000)then⟨.mkSliceB e sz b z n,r.dst,r.guard,r.after,none⟩else r
 |_=>r
def TC:Code->Nat
 |.region _ _ _=>1
 |.seq a b|.cond _ a b|.rangeFunc _ _ a b=>TC a+TC b
 |.block _ c|.loop c=>TC c
 |_=>0
noncomputable def skC(g:Nat->cu):Nat->Code->DC
 |_,.skip=>.skip
 |k,.region _ ops iV=>match OQ ops with
  |some q=>.Rc q.1 q.2.1 q.2.2
  |none=>.region iV (g k)
 |k,.seq a b=>.seq (skC g k a) (skC g (k+TC a) b)
 |k,.cond c a b=>match cg.of c with
  |some z=>.cond z (skC g k a) (skC g (k+TC a) b)
  |none=>.tp
 |k,.block id c=>.block id (skC g k c)
 |k,.loop c=>.loop (skC g k c)
 |_,.exit id=>.exit id
 |_,.ret=>.ret
 |k,.rangeFunc f ps a b=>match cg.of f with
  |some z=>.IT z ps.toList (skC g k a) (skC g (k+TC a) b)
  |none=>.tp
 |_,_=>.tp
noncomputable def sk1(g:Nat->cu)(P:Program)(f:Nat):DC:=match P.funcs[f]? with
 |some fn=>match fn.body with
  |some c=>skC g 0 c
  |none=>.tp
 |none=>.tp
def aP.at{P:Program}{f nt:Nat}{d:DC}{rs:List dF}(h:((P.funcs[f]?).map λfn=>(fn.ntmps,fn.body.map (cD P nt),fn.results.toList.mapM (oK P),fn.name== "runtime.NumGoroutine"))=some (nt,some d,some rs,false):=by kernel_rfl):aP P f nt d rs:=by
 obtain⟨fn,h1,h2⟩:=jr.1 h;simp only[oL]at h2;exact⟨fn,h1,h2⟩
def ji{b:Bool}{l1 l2:cu}(h:l1=l2:=by kernel_rfl):DC.region b l1=DC.region b l2:=by rw[h]
end
end Go.DM
namespace Go.DM.Tz
section
variable{α:Type}(lt:α->α->Bool)
structure SWO:Prop where
 irrefl:∀x,lt x x=false
 trans:∀x y z,lt x y=true->lt y z=true->lt x z=true
 ntrans:∀x y z,lt x y=false->lt y z=false->lt x z=false
def yD(l:List α):Prop:=l.Pairwise λa b=>lt b a=false
def t7(x y:α):Bool:= !lt x y&& !lt y x
def tl(x:α):List α->List α
 |[]=>[x]
 |y::ys=>if lt x y then y::tl x ys else x::y::ys
def EB(l:List α):List α:=l.foldl (λgP x=>tl lt x gP) []
def lE(l:List α):List α:=(EB lt l).reverse
variable{lt}
def SWO.asymm(h:SWO lt){x y:α}(h1:lt x y=true):lt y x=false:=by
 cases h2:lt y x with
 |false=>rfl
 |true=>have:=h.trans x y x h1 h2;rw[h.irrefl]at this;cases this
def Fx(x:α):∀(l:List α) (z:α),z∈tl lt x l↔z=x\/z∈l
 |[],z=>by simp[tl]
 |y::ys,z=>by
  simp only[tl];split
  ·simp only[gm,Fx x ys z];constructor
   ·rintro(h|h|h)<;>simp[h]
   ·rintro(h|h|h)<;>simp[h]
  ·simp
def C7(h:SWO lt)(x:α):∀l:List α,l.Pairwise (λa b=>lt a b=false)->(tl lt x l).Pairwise λa b=>lt a b=false
 |[],_=>by simp[tl]
 |y::ys,hs=>by
  simp only[tl];rw[OL]at hs;split
  ·rename_i hxy;rw[OL];refine⟨λz hz=>?_,C7 h x ys hs.2⟩;rcases(Fx x ys z).1 hz with rfl|hz
   ·exact h.asymm hxy
   ·exact hs.1 z hz
  ·rename_i hxy;have hxy:lt x y=false:=by simpa using hxy
   rw[OL];refine⟨λz hz=>?_,OL.2 hs⟩;rcases gm.1 hz with rfl|hz
   ·exact hxy
   ·exact h.ntrans x y z hxy (hs.1 z hz)
def C8(h:SWO lt)(x z:α):∀l:List α,(tl lt x l).filter (t7 lt z)=(if t7 lt z x then x::l.filter (t7 lt z)else l.filter (t7 lt z))
 |[]=>by simp[tl,On]
 |y::ys=>by
  simp only[tl];split
  ·rename_i hxy;rw[On,C8 h x z ys];have hn:t7 lt z x=true->t7 lt z y=false:=by
    intro hx;simp only[t7,mX,TS]at hx;cases hy:t7 lt z y with
    |false=>rfl
    |true=>
     simp only[t7,mX,TS]at hy;have:=h.ntrans x z y hx.2 hy.1;rw[hxy]at this;cases this
   by_cases hzx:t7 lt z x=true
   ·simp[hzx,hn hzx]
   ·simp only[Zdp]at hzx;simp[hzx,On]
  ·rw[On]
def Au(h:SWO lt):∀(l gP:List α),gP.Pairwise (λa b=>lt a b=false)->(l.foldl (λgP x=>tl lt x gP) gP).Pairwise λa b=>lt a b=false
 |[],gP,ha=>ha
 |x::l,gP,ha=>Au h l _ (C7 h x gP ha)
def m9(h:SWO lt)(z:α):∀(l gP:List α),(l.foldl (λgP x=>tl lt x gP) gP).filter (t7 lt z)=(l.filter (t7 lt z)).reverse++gP.filter (t7 lt z)
 |[],gP=>by simp
 |x::l,gP=>by
  rw[CD,m9 h z l,C8 h];by_cases hx:t7 lt z x=true
  ·simp[hx]
  ·simp only[Zdp]at hx;simp[hx]
def uf(h:SWO lt)(l:List α):yD lt (lE lt l):=by
 unfold yD lE;rw[List.pairwise_reverse];exact Au h l [] List.Pairwise.nil
def Av(h:SWO lt)(z:α)(l:List α):(lE lt l).filter (t7 lt z)=l.filter (t7 lt z):=by
 unfold lE EB;rw[List.filter_reverse,m9 h z];simp
def wy(h:SWO lt)(x:α):t7 lt x x=true:=by simp[t7,h.irrefl]
def HM:∀(l gP:List α) (z:α),z∈l.foldl (λgP x=>tl lt x gP) gP↔z∈l\/z∈gP
 |[],gP,z=>by simp
 |x::l,gP,z=>by
  rw[CD,HM l,Fx];simp only[gm];constructor
  ·rintro(h|h|h)<;>simp[h]
  ·rintro((h|h)|h)<;>simp[h]
@[simp] def wY(l:List α)(z:α):z∈lE lt l↔z∈l:=by simp[lE,EB,HM]
def C9(x:α):∀l:List α,(tl lt x l).length=l.length+1
 |[]=>rfl
 |y::ys=>by simp only[tl];split<;>simp[C9 x ys]
def Aw:∀l gP:List α,(l.foldl (λgP x=>tl lt x gP) gP).length=l.length+gP.length
 |[],gP=>by simp
 |x::l,gP=>by rw[CD,Aw l,C9];simp;omega
@[simp] def zT(l:List α):(lE lt l).length=l.length:=by simp[lE,EB,Aw]
def yn(h:SWO lt):∀(l1 l2:List α),yD lt l1->yD lt l2->(∀x,l1.filter (t7 lt x)=l2.filter (t7 lt x))->l1=l2
 |[],[],_,_,_=>rfl
 |[],b::t,_,_,hf=>by
  have:=hf b;simp[On,wy h]at this
 |a::t,[],_,_,hf=>by
  have:=hf a;simp[On,wy h]at this
 |a::t1,b::t2,s1,s2,hf=>by
  have s1':=OL.1 s1;have s2':=OL.1 s2;have TA:lt b a=false:=by
   have:b∈a::t1:=by
    have:b∈(a::t1).filter (t7 lt b):=by rw[hf b];simp[wy h]
    exact(Rt.1 this).1
   rcases gm.1 this with rfl|hm
   ·exact h.irrefl _
   ·exact s1'.1 b hm
  have hba:lt a b=false:=by
   have:a∈b::t2:=by
    have:a∈(b::t2).filter (t7 lt a):=by rw[<-hf a];simp[wy h]
    exact(Rt.1 this).1
   rcases gm.1 this with rfl|hm
   ·exact h.irrefl _
   ·exact s2'.1 a hm
  have he:t7 lt a b=true:=by simp[t7,TA,hba]
  have h1:=hf a;rw[On,On,wy h,he]at h1;simp only[km,KU]at h1;obtain⟨rfl,_⟩:=h1
  congr 1
  refine yn h t1 t2 s1'.2 s2'.2 λx=>?_;have:=hf x;rw[On,On]at this;split at this
  ·exact(List.cons.inj this).2
  ·exact this
def LY(h:SWO lt){l l':List α}(hs:yD lt l')(hf:∀x,l'.filter (t7 lt x)=l.filter (t7 lt x)):lE lt l=l':=
 yn h _ _ (uf h l) hs λx=>by rw[Av h,hf]
end
section
variable{α:Type}
end
section
variable{α:Type}{lt:α->α->Bool}
end
end Go.DM.Tz
