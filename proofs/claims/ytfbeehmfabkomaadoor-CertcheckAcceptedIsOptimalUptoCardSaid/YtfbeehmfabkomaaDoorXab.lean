/- Part. Conditions: none. -/
import Derived.Test.YtfbeehmfabkomaaDoorXaa
import Derived.OrdersIn
import Derived.RangeFuncCalls
import Derived.Sort.LoopGhostIn
import Derived.RangeFuncLeaves
import Derived.RangeFuncRecord
import Derived.RangeFuncNested
set_option linter.all false
namespace Go.DM
open Go.RowKit
section
variable{ro:Option Nat}{f:FuncId}{todo:List (ar)}{r:Loop}{go ab ay:bA}{gL L':Loc}{d:mQ}{args:List be}{ds:bD}{anM:Array Value}{vs:List Value}{o':Obj}
variable [bh] [cG]
structure RO where
 d:mQ
 dst:Option Nat
 guard:Option (Nat×Bool)
 after:bY
 gQ:Option (bY):=none
abbrev ah:=List RO
structure RS where
 tmps:cQ
 ab:bA
 todo:List (ar)
def bW(f:cQ):Option Nat->DV->Nat->DV
 |none,_=>f
 |some k,v=>λx=>if x=k then v else f x
def dY(g:Option (Nat×Bool))(ρ:cQ):Option Bool:=
 match g with
 |none=>some true
 |some (s,iY)=>match ρ s with
  |.v (.bool b)=>some (b==iY)
  |.skip=>some false
  |_=>none
def bm(az:Nat):Option Nat->Nat
 |some d=>az+d+1
 |none=>az
def kw(Γ:gP)(az:Nat)(r:RO)(st:RS):my:=cj Γ r.d (bm az r.dst) st.tmps st.ab
def br:mQ->List be
 |.jS x|.box x|.load _ _ x|.un _ x|.conv _ x|.addOff _ x|.nilCheck x|.field _ _ _ x|.extract _ x|.len x|.lenS x|.mkSlice _ _ _ _ x|.mkSliceB _ _ _ _ x|.lenM x|.rangeM x|.entryM x|.isNil _ _ x=>[x]
 |.pick c a b=>[c,a,b]
 |.alloc _|.mkMap _ _|.fail=>[]
 |.build _ ps|.bslice _ _ _ ps=>ps.map (·.2.2)
 |.store _ x y|.bin _ x y|.eqT _ _ _ x y|.idxAddr _ x y|.arrAddr _ _ x y|.minmax _ x y|.append _ _ _ x y|.lookup _ _ _ _ x y|.mapDel _ _ x y|.copy _ x y|.indexS x y=>[x,y]
 |.mapUpd _ _ x k y=>[x,k,y]
 |.mapEnt _ _ _ x k=>[x,k]
 |.entSt x s y=>[x,s,y]
 |.slice _ x lo hi=>x::(lo.toList++hi.toList)
 |.call _ xs|.callS _ xs|.callF _ xs|.callR _ xs|.mkFn _ xs=>xs
 |.callv x xs=>x::xs
def cL(r:RO)(ρ:cQ):Prop:=
 match r.gQ with
 |none=>True
 |some l=>∀x∈br r.d,∀n∈aS (x.ev ρ),n∈l
def post(Γ:gP)(az:Nat)(r:RO)(st:RS):abg:=
 if mR r.d then ku Γ r.d st.tmps st.ab st.todo
 else⟨(kw Γ az r st).ok,(kw Γ az r st).val,bQ st.ab (kw Γ az r st).put,st.todo⟩
def oE(r:RO)(o o':bA):Prop:=mR r.d=true->∀l,r.gQ=some l->∀n,n∉l->o' n=o n
def bT(Γ:gP)(az:Nat)(r:RO)(st:RS):Prop:=
 match dY r.guard st.tmps with
 |some true=>(post Γ az r st).ok/\cL r st.tmps/\oE r st.ab (post Γ az r st).ab
 |some false=>True
 |none=>False
def cR(Γ:gP)(az:Nat)(r:RO)(st:RS):RS:=
 match dY r.guard st.tmps with
 |some true=>⟨bW st.tmps r.dst (post Γ az r st).val,(post Γ az r st).ab,(post Γ az r st).todo⟩
 |some false=>⟨bW st.tmps r.dst .skip,st.ab,st.todo⟩
 |none=>st
def il:T->Bool
 |.bool _|.int _ _|.str _=>true
 |.dh ts=>ig ts
 |.agg ts=>ig ts
 |_=>false
where
 ig:ar->Bool
 |[]=>true
 |t::ts=>il t&&ig ts
def qn:∀(n:Nat),(∀(t:T) (w w':World) (W W':dJ) (v:Value),SizeOf.sizeOf t<n->il t=true->aO w W t v->aO w' W' t v)/\
  (∀(ts:ar) (w w':World) (W W':dJ) (vs:List Value),SizeOf.sizeOf ts<n->il.ig ts=true->(aN w W ts vs->aN w' W' ts vs)/\(dq w W ts vs->dq w' W' ts vs))
 |0=>⟨λ_ _ _ _ _ _ h=>by omega,λ_ _ _ _ _ _ h=>by omega⟩
 |n+1=>by
  have ih:=qn n;refine⟨λt w w' W W' v hn hs h=>?_,λts w w' W W' vs hn hs=>?_⟩
  ·cases t with
   |agg ts=>simp only[aO]at h⊢;obtain⟨vs,hv,hr⟩:=h;exact⟨vs,hv,(ih.2 ts w w' W W' _ (by simp at hn⊢;omega) hs).1 hr⟩
   |dh ts=>simp only[aO]at h⊢;obtain⟨vs,hv,hr⟩:=h;exact⟨vs,hv,(ih.2 ts w w' W W' _ (by simp at hn⊢;omega) hs).2 hr⟩
   |bool b=>simpa [aO]using h
   |int k n=>simpa [aO]using h
   |str s=>simpa [aO]using h
   |_=>exact yV hs E6
  ·cases ts with
   |nil=>exact⟨λh=>by simpa [aN]using h,λh=>by simpa [dq]using h⟩
   |cons t ts=>
    simp only[il.ig,iS]at hs;have h2:=ih.2 ts w w' W W';refine⟨λh=>?_,λh=>?_⟩
    ·simp only[aN]at h⊢;obtain⟨v,fW,rfl,h1,hr,jy⟩:=h;exact⟨v,fW,rfl,h1,ih.1 t w w' W W' v (by simp at hn⊢;omega) hs.1 hr,(h2 _ (by simp at hn⊢;omega) hs.2).1 jy⟩
    ·simp only[dq]at h⊢;obtain⟨v,fW,rfl,hr,jy⟩:=h;exact⟨v,fW,rfl,ih.1 t w w' W W' v (by simp at hn⊢;omega) hs.1 hr,(h2 _ (by simp at hn⊢;omega) hs.2).2 jy⟩
def wo(P:Program)(f:FuncId):Prop:=∃fn,P.funcs[f]? =some fn/\fn.name≠ "runtime.NumGoroutine" /\fn.body.isNone=false
structure aI(P:Program)(f:FuncId)(ts:ar)(t:T):Prop where
 entry:wo P f
 run:∀(W:dJ) (w:World) (anM:Array Value),(∀b,W b->b<w.heap.size)->vT w W->dq w W ts anM.toList->
  Calls P f anM w λe w'=>∃v,e=.returned v/\qZ w.heap.size w w'/\aO w' W t v
structure wp(n0:Nat)(w':World)(W:dJ)(e sz:Nat)(an:List (ar))(v:Value):Prop where
 pos:0<sz
 len:∀x∈an,x.length=sz
 it:(an=[]/\∃a:Option Addr,v=.slice a 0 0)\/∃g cap dg,v=.slice (some ⟨g,0,none⟩) an.length cap/\0<cap/\n0<=g/\w'.heap[g]? =some (.cells dg e (0,0))/\an.length<=cap/\cap<=maxLen/\dg.size=cap*sz/\aN w' (λb=>W b\/b=g) an.flatten (dg.toList.take (an.length*sz))
structure mf(P:Program)(f:FuncId)(ts:ar)(e sz:Nat)(an:List (ar)):Prop where
 entry:wo P f
 run:∀(W:dJ) (w:World) (anM:Array Value),(∀b,W b->b<w.heap.size)->vT w W->dq w W ts anM.toList->
  Calls P f anM w λe' w'=>∃v,e'=.returned v/\qZ w.heap.size w w'/\wp w.heap.size w' W e sz an v
def iK(w:World)(W:dJ)(ab:bA)(L:Loc)(ds:bD)(vs:List Value):Prop:=
 vs.length=ds.length/\∀(i:Nat) (d:DV) (v:Value),ds[i]? =some d->vs[i]? =some v->ap w W ab L d v
structure b9(P:Program)(f:FuncId)(args:bD)(ab:bA)(r:fp):Prop where
 entry:wo P f
 run:∀(base:Nat) (W M:dJ) (w0 w:World) (L:Loc) (anM:Array Value),bJ base W M w0 ab w L->iK w W ab L args anM.toList->
  Calls P f anM w λe w'=>∃v L',e=.returned v/\bJ base W M w0 r.ab w' L'/\fX W ab L w r.ab L' w'/\ap w' W r.ab L' r.val v
structure N0(P:Program)(f:FuncId)(s:Spec):Prop where
 pure:∀ts,s.pre ts->aI P f ts (s.fn ts)/\(s.gu=true->il (s.fn ts)=true)
 fresh:∀e sz,s.fresh=some (e,sz)->∀ts,s.pre ts->∃an,s.fn ts=.sl an/\mf P f ts e sz an/\(s.d5=true->il.ig an.flatten=true)
 st:∀k,s.st=some k->∀args ab,(k args ab).ok->(∀N,(∀r,N<=r->ab r=none)->b9 P f args ab (k args ab))/\∀r,ab r=none->(k args ab).ab r=none
def au(P:Program)(Γ:gP):Prop:=∀f s,Γ f=some s->N0 P f s
def gR(ro:Option Nat):Fence:={Fence.wide with round:=ro}
def dK{n:Nat}{P:Program}{args:Array Value}{w:World}{R:Ending->World->Prop}(h:Calls P f args w R):CallsIn (gR ro) n P f args w R:=by
 have h0:CallsIn Fence.wide n P f args w R:=callsIn_wide.2 h;exact h0
structure kS where
 W:dJ
 go:bA
 gL:Loc
 gw:World
 base:Nat
 M:dJ
 w0:World
 J:Option (dJ->List (ar)->World->Prop)
 ro:Option Nat
 Y:Option (Nat×Loop×Loop):=none
def kS.At(κ:kS)(todo:List (ar))(W:dJ)(base:Nat)(M:dJ)(w0:World):Prop:=
 match κ.J with
 |none=>(κ.Y=none->todo=[])/\W=κ.W/\base=κ.base/\M=κ.M/\w0=κ.w0
 |some J=>J W todo w0/\base=w0.heap.size/\M=(λ_=>False)/\(∀b,W b->κ.W b\/κ.gw.heap.size<=b)/\∀b,κ.W b->W b
structure Yields(P:Program)(l:Nat)(J:dJ->List (ar)->World->Prop):Prop where
 Wb:∀(W:dJ) (todo:List (ar)) (A B:World),J W todo A->qZ A.heap.size A B->J W todo B
 round:∀(W:dJ) (x:ar) (rest:List (ar)) (anM:Array Value) (A:World),J W (x::rest) A->dq A W x anM.toList->
  ∃fn tmps assign body,(Instr.yield l anM).run P A=.ok (.round l fn tmps assign body) A/\RoundIn Fence.wide 0 P l fn tmps assign body A λe B=>
   e=.returned (.bool true)/\∃W',J W' rest B/\ch W A B/\(∀b,W' b->b<B.heap.size/\(W b\/A.heap.size<=b))/\∀b,W b->W' b
structure Un(P:Program)(l:Nat)(r s:Loop)(k:bD->bA->fp)(base:Nat)(W M:dJ)(w0:World)(go:bA)(gL:Loc)(gw:World):Prop where
 round:∀(w:World) (L:Loc) (ab:bA) (args:bD) (anM:Array Value),(k args ab).ok->Ky (k args ab).val->(∃N,∀x,N<=x->ab x=none)->w.heap[l]? =some (.loop r)->
  fX W go gL gw ab L w->bJ base W M w0 ab w L->iK w W ab L args anM.toList->
  ∃fn tmps assign body,(Instr.yield l anM).run P w=.ok (.round l fn tmps assign body) w/\RoundIn Fence.wide 0 P l fn tmps assign body w λe B=>
   e=.returned (.bool (Ef (k args ab).val))/\∃L',bJ base W M w0 (k args ab).ab B L'/\fX W ab L (w.putObj l (.loop (if Ef (k args ab).val then r else s))) (k args ab).ab L' B
def _root_.Go.World.Cy{w:World}{l:Nat}{o:Obj}(h:w.heap[l]? =some o):w.putObj l o=w:=by
 obtain⟨hl,e⟩:=kf.1 h;have:w.heap.setIfInBounds l o=w.heap:=by
  refine Array.ext_getElem? λi=>?_;rw[Zcp];split
  ·rename_i e2;subst e2;exact h.symm
  ·rfl
 unfold World.putObj;rw[this]
def kS.B0(κ:kS)(todo:List (ar)):World:=match κ.Y with
 |none=>κ.gw
 |some (l,r,s)=>κ.gw.putObj l (.loop (match todo with|[]=>s|_=>r))
def kS.rE(κ:kS)(todo:List (ar)):(κ.B0 todo).heap.size=κ.gw.heap.size:=by
 unfold kS.B0;split
 ·rfl
 ·simp[World.putObj]
def kS.Cz{κ:kS}(h:κ.Y=none)(todo:List (ar)):κ.B0 todo=κ.gw:=by simp[kS.B0,h]
structure kS.uX(P:Program)(κ:kS):Prop where
 y:∀J,κ.J=some J->Yields P κ.gL.yl J/\cG.k=none/\κ.Y=none
 ys:∀l r s,κ.Y=some (l,r,s)->κ.base<=l/\κ.gw.heap[l]? =some (.loop r)/\∃k,cG.k=some (l,k)/\Un P l r s k κ.base κ.W κ.M κ.w0 κ.go κ.gL κ.gw
 rd:∀l,κ.ro=some l->∃r,κ.gw.heap[l]? =some (.loop r)
def mark(D:Nat):Deferred:={target:=.collected D,args:= #[]}
structure R0(base:Nat)(W M:dJ)(w0:World)(nt:Nat)(tmps:cQ)(ab:bA)(a:Act)(w:World)(L:Loc):Prop where
 size:a.tmps.size=nt
 tmps:∀t,ap w W ab L (tmps t) (a.tmps.getD t Go.undef)
 o:bJ base W M w0 ab w L
structure dL(κ:kS)(nt:Nat)(st:RS)(a:Act)(w:World)(L:Loc):Prop where
 ex:∃W base M w0,κ.At st.todo W base M w0/\R0 base W M w0 nt st.tmps st.ab a w L
 er:fX κ.W κ.go κ.gL (κ.B0 st.todo) st.ab L w
 defers:∃Ds:bY,a.defers=Ds.map mark/\Ds.Nodup/\(∀D∈Ds,w.heap[D]? =some (.deferred (some []))/\κ.gw.heap.size<=D)/\(κ.J.isSome=true->Ds=[])
 bg:κ.J=none->κ.base<=κ.gw.heap.size
 je:∃N,∀r,N<=r->st.ab r=none
def kS.At.sub{κ:kS}{W:dJ}{base:Nat}{M:dJ}{w0:World}(h:κ.At todo W base M w0):(∀b,W b->κ.W b\/κ.gw.heap.size<=b)/\∀b,κ.W b->W b:=by
 unfold kS.At at h;split at h
 ·obtain⟨_,rfl,_⟩:=h;exact⟨λ_ h=>.inl h,λ_ h=>h⟩
 ·exact⟨h.2.2.2.1,h.2.2.2.2⟩
def kS.At.N1{κ:kS}{W:dJ}{base:Nat}{M:dJ}{w0:World}(h:κ.At todo W base M w0)(td:List (ar)):∀b,W b->κ.W b\/(κ.B0 td).heap.size<=b:=by
 rw[kS.rE];exact h.sub.1
def kS.N2{κ:kS}{l:Nat}(td:List (ar))(h:κ.gw.heap[l]? =some (.loop r)):∃r',(κ.B0 td).heap[l]? =some (.loop r'):=by
 unfold kS.B0;split
 ·exact⟨r,h⟩
 ·rename_i l' _ _ _;by_cases e:l=l'
  ·subst e;exact⟨_,World.putObj_heap_same (kf.1 h).1⟩
  ·exact⟨r,by rw[World.putObj_heap_other e];exact h⟩
def fX.comp{W V:dJ}{L:Loc}{gw w w':World}(h:fX V go gL gw ab L w)(k:fX W ab L w ay L' w')(h1:∀b,W b->V b\/gw.heap.size<=b)(h2:∀b,V b->W b):
  fX V go gL gw ay L' w':=by
 have up:∀b,b<gw.heap.size->WW W ab L b->WW V ab L b:=λb hb hw=>by
  rcases hw with hw|hw
  ·rcases h1 b hw with h3|h3
   ·exact .inl h3
   ·omega
  ·exact .inr hw
 refine⟨⟨⟨wB h.bV.size k.bV.size,λb c e fr hb hn=>?_⟩,λb hb=>k.bV.HG b (h.bV.HG b hb),λb r hb=>k.bV.KU b r (h.bV.KU b r hb)⟩,λb hb hw=>?_,λr o hr hk=>?_,λr aX e sz an hr=>?_,k.yl.trans h.yl⟩
 ·have dR:=(kf.1 hb).1;exact k.bV.gp b c e fr (h.bV.gp b c e fr hb hn) λx=>hn (h.sub b dR (up b dR x))
 ·refine h.sub b hb (up b hb (k.sub b (MG hb h.bV.size) ?_));rcases hw with hw|hw
  ·exact .inl (h2 b hw)
  ·exact .inr hw
 ·obtain⟨e1,o1,mU,ma⟩:=h.fix r o hr hk;obtain⟨e2,o2,nS,qo⟩:=k.fix r o1 mU (by rw[ma];exact hk);exact⟨e2.trans e1,o2,nS,qo.trans ma⟩
 ·obtain⟨v1,e1,s1,r1,mU,l1,k1⟩:=h.aR r aX e sz an hr;obtain⟨v2,e2,s2,r2,nS,l2,k2⟩:=k.aR r v1 e1 s1 r1 mU;refine⟨v2,e2,s2,r2,nS,wB l1 l2,λhv=>?_⟩;have E8:v1=aX:=by omega
  obtain⟨a1,a2,a3⟩:=k1 E8;obtain⟨b1,b2,b3⟩:=k2 (by omega);exact⟨b1.trans a1,b2.trans a2,b3.trans a3⟩
section
variable{P:Program}{κ:kS}{base:Nat}{W M:dJ}{w0:World}{nt:Nat}{Γ:gP}{az:Nat}
def wq(tmps:Array Value)(d t:Nat)(v:Value)(hd:d<tmps.size):(tmps.setIfInBounds d v).getD t Go.undef=if t=d then v else tmps.getD t Go.undef:=by
 simp only[BY,Zcp];by_cases h:d=t
 ·subst h;simp[hd]
 ·have:t≠d:=λe=>h e.symm;simp[h,this]
def R0.put{tmps:cQ}{a:Act}{w w':World}{L:Loc}(h:R0 base W M w0 nt tmps ab a w L)(dst:Option Nat)(iW:∀d,dst=some d->d<nt){v:DV}{x:Value}
  (hO:bJ base W M w0 ay w' L') (hA:fX W ab L w ay L' w') (hv:ap w' W ay L' v x):
  R0 base W M w0 nt (bW tmps dst v) ay (a.put dst x) w' L':=by
 cases dst with
 |none=>exact⟨h.size,λt=>ap.er hA _ _ (h.tmps t),hO⟩
 |some d=>
  refine⟨by simpa [Act.put]using h.size,λt=>?_,hO⟩;simp only[bW,Act.put];rw[wq _ _ _ _ (by rw[h.size];exact iW d rfl)];by_cases ht:t=d
  ·simp only[ht,yh];exact hv
  ·simp only[ht,Lg];exact ap.er hA _ _ (h.tmps t)
def qp(a:Act)(dst:Option Nat)(x:Value):(a.put dst x).defers=a.defers:=by cases dst<;>rfl
def dL.put{st:RS}{a:Act}{w w':World}{L:Loc}(hR:dL κ nt st a w L)(fF:κ.At st.todo W base M w0)(h:R0 base W M w0 nt st.tmps st.ab a w L)
  (dst:Option Nat) (iW:∀d,dst=some d->d<nt) {v:DV} {x:Value} (hO:bJ base W M w0 ay w' L') (hA:fX W st.ab L w ay L' w') (hv:ap w' W ay L' v x) (iv:∃N,∀r,N<=r->ay r=none):
  dL κ nt ⟨bW st.tmps dst v,ay,st.todo⟩ (a.put dst x) w' L':=
 ⟨⟨W,base,M,w0,fF,h.put dst iW hO hA hv⟩,hR.er.comp hA (fF.N1 _) fF.sub.2,by
  obtain⟨Ds,h1,h2,h3,h4⟩:=hR.defers;exact⟨Ds,by rw[qp];exact h1,h2,λD hD=>⟨hA.bV.HG D (h3 D hD).1,(h3 D hD).2⟩,h4⟩,hR.bg,iv⟩
def dL.skip{st:RS}{a:Act}{w:World}{L:Loc}(h:dL κ nt st a w L)(dst:Option Nat)(iW:∀d,dst=some d->d<nt):
  dL κ nt ⟨bW st.tmps dst .skip,st.ab,st.todo⟩ (a.put dst Go.undef) w L:=by
 obtain⟨W,base,M,w0,fF,h0⟩:=h.ex;exact dL.put h fF h0 dst iW h0.o (fX.bZ (ch.refl _ _)) (by simp[ap]) h.je
def kT(o:Oper)(w:World)(ρ:Operand->Value):∀f,o.about P w ρ=some f->(gR ro).fn f:=λ_ _=>trivial
def nJ{o:Oper}(h:cy P o=some d):∀c,o.op≠ .defer c:=by
 intro c hc;simp[cy,hc]at h
def d6{o:Oper}(hc:cy P o=some d)(Hf:(∃f args,d=.call f args)\/(∃f args,d=.callS f args)\/(∃f args,d=.callv f args)\/(∃f args,d=.callF f args)\/∃f args,d=.callR f args):∃c,o.op=.call c/\dc P c=some d:=by
 rcases Hf with⟨f,args,rfl⟩|⟨f,args,rfl⟩|⟨f,args,rfl⟩|⟨f,args,rfl⟩|⟨f,args,rfl⟩;all_goals
  unfold cy at hc;cases ho:o.op<;>simp only[ho,reduceCtorEq]at hc
  case call c=>exact⟨c,rfl,hc⟩
  case binOp op t x y yt=>
   exfalso;simp only[gV,fO]at hc;obtain⟨x',hx,y',hy,hc⟩:=hc;unfold jF at hc;repeat' split at hc
   all_goals first|(cases hc;done)|(simp only[fE,reduceCtorEq,Ba,Hz]at hc;done)
  case makeMap t h=>
   exfalso;cases h with
   |some m=>cases hc
   |none=>
    simp only at hc;split at hc
    ·simp only[fE,reduceCtorEq,Ba,Hz]at hc
    ·cases hc
  case slice t x lo hi mx=>
   exfalso;cases mx with
   |some m=>cases hc
   |none=>
    simp only at hc;repeat' split at hc
    all_goals simp only[I7,gV,fO,bN,reduceCtorEq,Ba,Hz]at hc
  all_goals exfalso
  all_goals first
   |(simp only[fE,reduceCtorEq,Ba,Hz]at hc;done)
   |(simp only[I7,gV,fO,bN,reduceCtorEq,Ba,Hz]at hc;done)
   |(repeat' split at hc)<;>first
     |(simp only[fE,I7,gV,fO,bN,reduceCtorEq,Ba,Hz]at hc;done)
     |(simp[fO]at hc;done)
def jX{c:Call}(h:dc P c=some (.call f args)):∃fn,c.callee=.value (.func f)/\P.funcs[f]? =some fn/\fn.name≠ "runtime.NumGoroutine" /\fn.body.isNone=false/\c.args.toList.mapM be.of=some args:=by
 unfold dc at h;split at h
 ·rename_i g gW;split at h
  ·rename_i fn sK;split at h
   ·cases h
   ·rename_i hnr;simp only[fE,mQ.call.injEq]at h;obtain⟨ys,mB,rfl,rfl⟩:=h;refine⟨fn,gW,sK,λe=>hnr (.inl e), ?_,mB⟩;cases hb:fn.body.isNone
    ·rfl
    ·exact yV (.inr hb) hnr
  ·cases h
 all_goals
  repeat' split at h
  all_goals first
   |(simp only[fE,I7,gV,fO,bN,reduceCtorEq,Ba,Hz]at h;done)
   |skip
def AD{c:Call}{x:be}(h:dc P c=some (.callv x args)):∃t,c.callee=.value (.tmp t)/\x=.tmp t/\c.args.toList.mapM be.of=some args:=by
 unfold dc at h;split at h
 ·split at h
  ·split at h
   ·cases h
   ·simp at h
  ·cases h
 ·rename_i t gW;simp only[fE,mQ.callv.injEq]at h;obtain⟨ys,mB,rfl,rfl⟩:=h;exact⟨t,gW,rfl,mB⟩
 all_goals
  repeat' split at h
  all_goals first
   |(simp only[fE,I7,gV,fO,bN,reduceCtorEq,Ba,Hz]at h;done)
   |skip
def um:mQ->mQ
 |.callS f args=>.call f args
 |.callF f args=>.call f args
 |.callR f args=>.call f args
 |.mkSliceB e sz bytes zero n=>.mkSlice e sz bytes zero n
 |d=>d
def jG(W':dJ){d5:Bool}{ab:bA}{w:World}{L:Loc}(hO:bJ base W M w0 ab w L)(hW:d5=true->∀r o b,ab r=some o->L.own r o=some b->¬W' b)(K4:∀b,W' b->WW W ab L b):
  ∀{ds:bD} {vs:List Value},iK w W ab L ds vs->oa d5 ab ds->dq w W' (fR ab ds) vs
 |[],vs,h,_=>by
  have:vs=[]:=kx h.1;subst this;simp[dq,fR]
 |d::ds,[],h,_=>by have:=h.1;simp at this
 |d::ds,v::vs,h,hk=>by
  simp only[oa]at hk;simp only[dq,fR];exact⟨v,vs,rfl,(rz W' hO hW K4).1 _ _ (h.2 0 d v rfl rfl) hk.1,jG W' hO hW K4 ⟨by simpa using h.1,λi x y hx hy=>h.2 (i+1) x y (by simpa using hx) (by simpa using hy)⟩ hk.2⟩
def y7(am:au P Γ){w:World}{L:Loc}(hO:bJ base W M w0 ab w L){g:FuncId}{s:Spec}(hg:Γ g=some s)(kU:oa s.gu ab ds)(mW:s.pre (fR ab ds))
  (hr:iK w W ab L ds anM.toList):Calls P g anM w λe w'=>∃v,e=.returned v/\bJ base W M w0 ab w' L/\fX W ab L w ab L w'/\ap w' W ab L (.v (s.fn (fR ab ds))) v:=by
 obtain⟨m9,hsc⟩:=(am g s hg).pure _ mW;have vj:∀b,WW W ab L b->b<w.heap.size:=by
  have iU:base<=w.heap.size:=wB hO.fr.gz hO.fr.size;rintro b (hb|⟨r',o',h1,h2⟩)
  ·have:=hO.under b hb;omega
  ·exact(hO.ob r' o' h1).lt h2
 cases hs:s.gu with
 |true=>
  rw[hs]at kU;have Ae:=jG (λ_=>False) (d5:=true) hO (λ_ _ _ _ _ _ x=>x) (λ_ x=>x.elim) hr kU;refine(m9.run (λ_=>False) w anM (λ_ x=>x.elim) (hO.gl.aD (ch.refl (WW W ab L) _).toKeepsC λ_ _ h=>h.elim) Ae).mono ?_;rintro e w' ⟨v,rfl,hb,hv⟩;obtain⟨Wc,hA⟩:=bJ.grow hO hb;refine⟨v,rfl,Wc,hA, ?_⟩;simp only[ap];exact(qn _).1 _ w' w' (λ_=>False) (WW W ab L) v (IV _) (hsc hs) hv
 |false=>
  rw[hs]at kU;have Ae:=jG (WW W ab L) (d5:=false) hO (λx=>by cases x) (λ_ x=>x) hr kU;refine(m9.run (WW W ab L) w anM vj hO.gl Ae).mono ?_;rintro e w' ⟨v,rfl,hb,hv⟩;obtain⟨Wc,hA⟩:=bJ.grow hO hb;exact⟨v,rfl,Wc,hA,by simp only[ap];exact hv⟩
def FL{w:World}{L:Loc}(hO:bJ base W M w0 ab w L){g:FuncId}{d5:Bool}(kU:oa d5 ab ds){e sz:Nat}{an:List (ar)}(m9:mf P g (fR ab ds) e sz an)(hsc:d5=true->il.ig an.flatten=true)
  (hr:iK w W ab L ds anM.toList) {name:Nat} (dj:ab name=none):Calls P g anM w λe' w'=>∃v L',e'=.returned v/\bJ base W M w0 (bQ ab (some (name,.aR 0 e sz an))) w' L'/\fX W ab L w (bQ ab (some (name,.aR 0 e sz an))) L' w'/\ap w' W (bQ ab (some (name,.aR 0 e sz an))) L' (.aQ name 0) v:=by
 have iU:base<=w.heap.size:=wB hO.fr.gz hO.fr.size;have vj:∀b,WW W ab L b->b<w.heap.size:=by
  rintro b (hb|⟨r',o',h1,h2⟩)
  ·have:=hO.under b hb;omega
  ·exact(hO.ob r' o' h1).lt h2
 have cD:Calls P g anM w λe' w'=>∃v,e'=.returned v/\qZ w.heap.size w w'/\wp w.heap.size w' (WW W ab L) e sz an v:=by
  cases d5 with
  |false=>
   have Ae:=jG (WW W ab L) (d5:=false) hO (λx=>by cases x) (λ_ x=>x) hr kU;exact m9.run (WW W ab L) w anM vj hO.gl Ae
  |true=>
   have Ae:=jG (λ_=>False) (d5:=true) hO (λ_ _ _ _ _ _ x=>x) (λ_ x=>x.elim) hr kU;refine(m9.run (λ_=>False) w anM (λ_ x=>x.elim) (hO.gl.aD (ch.refl (WW W ab L) _).toKeepsC λ_ _ h=>h.elim) Ae).mono ?_;rintro e' w' ⟨v,h1,h2,h3⟩;refine⟨v,h1,h2,h3.pos,h3.len, ?_⟩;rcases h3.it with h4|⟨g',cap,dg,k1,k2,k3,k4,k5,k6,k7,k8⟩
   ·exact .inl h4
   ·exact .inr ⟨g',cap,dg,k1,k2,k3,k4,k5,k6,k7,((qn _).2 _ w' w' _ _ _ (IV _) (hsc rfl)).1 k8⟩
 refine cD.mono ?_;rintro e' w' ⟨v,rfl,hb,hf⟩;have h:=bJ.put hO (r:=name) (L':=L.fZ name v) (o':=.aR 0 e sz an) (hO.fr.trans ⟨hb.os,hb.tape,hb.output,iU,hb.size,λk hk _=>hb.block k (by omega),hb.drawn⟩) hb.size (λx hx=>⟨rfl,by simp[Loc.fZ,hx]⟩) rfl (λb dR _=>hb.block b dR)
  (λb h=>.inr (by
   simp only[Loc.own,Loc.fZ,yh]at h;rcases hf.it with⟨_,a,rfl⟩|⟨g',cap,dg,rfl,hp,yx,_⟩
   ·cases a<;>simp[aP]at h
   ·simp only[aP,mL (Fz.1 hp),bN]at h;omega))
  (λo' h _=>by rw[dj]at h;cases h) (λ_ _ _ _ h=>by rw[dj]at h;cases h) (λer=>by
   refine⟨hf.pos,hf.len,λg' hg=>?_, ?_⟩
   ·simp only[Loc.fZ,yh]at hg;rcases hf.it with⟨_,a,rfl⟩|⟨g2,cap,dg,rfl,hp,yx,_⟩
    ·cases a<;>simp[aP]at hg
    ·simp only[aP,mL (Fz.1 hp),bN]at hg;exact .inl (by omega)
   ·simp only[Loc.fZ,yh];rcases hf.it with⟨h1,a,h2⟩|⟨g2,cap,dg,h1,hp,yx,h2,h3,h4,h5,h6⟩
    ·exact .inl ⟨h1,a,h2⟩
    ·refine .inr ⟨g2,cap,dg,h1,hp,h2,h3,h4,h5,aN.aD (ch.refl (λb=>WW W ab L b\/b=g2) w').toKeepsC (λb _ hb=>?_) _ _ h6⟩;rcases hb with hb|⟨r',o',jV,hb⟩
     ·exact .inl (.inl hb)
     ·simp only[bQ]at jV;split at jV
      ·rename_i e1;cases jV;subst e1;simp only[Loc.own,yh,h1,aP,mL (Fz.1 hp),bN]at hb;exact .inr hb.symm
      ·rename_i cZ;refine .inl (.inr ⟨r',o',jV, ?_⟩);cases o'<;>simpa [Loc.own,Loc.fZ,cZ]using hb)
 refine⟨v,_,rfl,h.1,h.2, ?_⟩;simp only[ap];refine⟨?_,0,e,sz,an,by simp[bQ],iV _,λ_=>by simp[Loc.fZ]⟩;rcases hf.it with⟨_,a,rfl⟩|⟨g2,cap,dg,rfl,_⟩<;>exact⟨_,_,_,rfl⟩
def eR{w:World}{L:Loc}{a:Act}{ρ:cQ}(hg:vT w (WW W ab L))(gb:∀t,ap w W ab L (ρ t) (a.tmps.getD t Go.undef)){xs:List Operand}{ys:List be}(h:xs.mapM be.of=some ys):iK w W ab L (ys.map (·.ev ρ)) (xs.map a.eval):=by
 refine⟨by simp[oD h],λi d v hd hv=>?_⟩;rw[vA,fE]at hd hv;obtain⟨y,hy,rfl⟩:=hd;obtain⟨x,hx,rfl⟩:=hv;exact uk hg gb h i x y hx hy
def iK.append{w:World}{L:Loc}{md:bD}{fW:List Value}(h:iK w W ab L ds vs)(k:iK w W ab L md fW):iK w W ab L (ds++md) (vs++fW):=by
 refine⟨by simp[h.1,k.1],λi d v hd hv=>?_⟩;by_cases hi:i<ds.length
 ·rw[V8 hi]at hd;rw[V8 (by rw[h.1];exact hi)]at hv;exact h.2 i d v hd hv
 ·rw[MH (by omega)]at hd;rw[MH (by rw[h.1];omega),h.1]at hv;exact k.2 _ d v hd hv
def ws{w:World}{L:Loc}{ts:ar}(h:aN w (WW W ab L) ts vs):iK w W ab L (ts.map .v) vs:=by
 refine⟨by simp[aN.length h],λi d v hd hv=>?_⟩;rw[vA,fE]at hd;obtain⟨t,ht,rfl⟩:=hd;obtain⟨v',nH,_,hr⟩:=aN.get h ht;rw[hv]at nH;cases nH;simpa [ap]using hr
def CA{w:World}{L:Loc}(h:aH w W ab L ds vs):iK w W ab L ds vs:=by
 refine⟨by simp[aH.length h],λi d v hd hv=>?_⟩;obtain⟨v',nH,_,hr⟩:=aH.get h hd;rw[hv]at nH;cases nH;exact hr
def yz{o:Oper}{x:be}(hc:cy P o=some (.entryM x)):∃y,o.op=.entry y/\be.of y=some x:=by
 unfold cy at hc;cases ho:o.op<;>simp only[ho,reduceCtorEq]at hc
 case entry y=>
  simp only[fE,mQ.entryM.injEq]at hc;obtain⟨y',hy,rfl⟩:=hc;exact⟨y,rfl,hy⟩
 case binOp op t x y yt=>
  exfalso;simp only[gV,fO]at hc;obtain⟨x',hx,y',hy,hc⟩:=hc;unfold jF at hc;repeat' split at hc
  all_goals first|(cases hc;done)|(simp only[fE,reduceCtorEq,Ba,Hz]at hc;done)
 case call c=>
  exfalso;unfold dc at hc;repeat' split at hc
  all_goals first
   |(cases hc;done)
   |(simp only[fE,I7,gV,fO,bN,reduceCtorEq,Ba,Hz]at hc;done)
 case slice t x lo hi mx=>
  exfalso;cases mx with
  |some m=>cases hc
  |none=>
   simp only at hc;repeat' split at hc
   all_goals simp only[I7,gV,fO,bN,reduceCtorEq,Ba,Hz]at hc
 case makeMap t h=>
  exfalso;cases h with
  |some m=>cases hc
  |none=>
   simp only at hc;split at hc
   ·simp only[fE,reduceCtorEq,Ba,Hz]at hc
   ·cases hc
 all_goals exfalso
 all_goals first
  |(simp only[fE,reduceCtorEq,Ba,Hz]at hc;done)
  |(simp only[I7,gV,fO,bN,reduceCtorEq,Ba,Hz]at hc;done)
  |(repeat' split at hc)<;>first
    |(simp only[fE,I7,gV,fO,bN,reduceCtorEq,Ba,Hz]at hc;done)
    |(simp[fO]at hc;done)
def iL{o:Oper}{a:Act}{w:World}{c:Call}(ho:o.op=.call c){g:FuncId}{bP:Array Value}(hv:∀f,c.callee=.value f->a.eval f=.func (.func g) #[] bP)(hc:∃f,c.callee=.value f)(hg:wo P g):
  (execOp a.eval o).run P w=.ok (.enter g (c.args.map a.eval++bP)) w:=by
 obtain⟨f,hf⟩:=hc;obtain⟨fn,sK,cZ,K6⟩:=hg;simp[execOp,ho,resolve,hf,hv f hf,Deferred.ofValue,invoke,callFunc,sK,cZ];intro rF;simp[rF]at K6
def pV{n l:Nat}{fn:FuncId}{tmps:Array Value}{assign body:Code}{w:World}{R:Ending->World->Prop}(h:RoundIn Fence.wide 0 P l fn tmps assign body w R):
  RoundIn (gR ro) n P l fn tmps assign body w R:=by
 have h0:RoundIn Fence.wide n P l fn tmps assign body w R:=⟨h.1,λc cs _=>h.2 c cs (by simp[Fence.room,Fence.wide])⟩;exact h0
def jH{W:dJ}{L:Loc}{w w':World}(qq:KeepsC (WW W ab L) w w'):∀n,(∀(d:DV) (x:Value),SizeOf.sizeOf d<n->ap w W ab L d x->ap w' W ab L d x)/\(∀(ds:bD) (xs:List Value),SizeOf.sizeOf ds<n->aH w W ab L ds xs->aH w' W ab L ds xs)/\(∀(ds:bD) (xs:List Value),SizeOf.sizeOf ds<n->db w W ab L ds xs->db w' W ab L ds xs):=by
 have qr:∀b,b<w.heap.size->WW W ab L b->WW W ab L b:=λ_ _ h=>h;intro n;induction n with
 |zero=>exact⟨λ_ _ h=>by omega,λ_ _ h=>by omega,λ_ _ h=>by omega⟩
 |succ n ih=>
  refine⟨λd x hn hx=>?_,λds xs hn hx=>?_,λds xs hn hx=>?_⟩
  ·cases d with
   |v t=>simp only[ap]at hx⊢;exact aO.aD qq qr t x hx
   |dh cs=>
    simp only[ap]at hx⊢;obtain⟨vs,hv,hr⟩:=hx;exact⟨vs,hv,ih.2.2 cs _ (by simp at hn⊢;omega) hr⟩
   |uS f cs=>
    simp only[ap]at hx⊢;obtain⟨vs,hv,hr⟩:=hx;exact⟨vs,hv,ih.2.1 cs _ (by simp at hn⊢;omega) hr⟩
   |jr an i off=>
    simp only[ap]at hx⊢;obtain⟨b,o,sz,hx,hb,wt,hr,h1,h2⟩:=hx;exact⟨b,o,sz,hx,MG hb qq.size,wt,aT.aD qq qr hb wt sz o an hr,h1,h2⟩
   |gq cs off=>
    simp only[ap]at hx⊢;obtain⟨b,o,hx,hb,wt,hr⟩:=hx;exact⟨b,o,hx,MG hb qq.size,wt,cS.aD qq qr hb wt o cs hr⟩
   |agg cs=>
    simp only[ap]at hx⊢;obtain⟨vs,hv,hr⟩:=hx;exact⟨vs,hv,ih.2.1 cs _ (by simp at hn⊢;omega) hr⟩
   |_=>exact hx
  ·cases ds with
   |nil=>simpa only[aH]using hx
   |cons d ds=>
    simp only[aH]at hx⊢;obtain⟨y,ys,hv,h1,h2,h3⟩:=hx;exact⟨y,ys,hv,h1,ih.1 d y (by simp at hn⊢;omega) h2,ih.2.1 ds ys (by simp at hn⊢;omega) h3⟩
  ·cases ds with
   |nil=>simpa only[db]using hx
   |cons d ds=>
    simp only[db]at hx⊢;obtain⟨y,ys,hv,h2,h3⟩:=hx;exact⟨y,ys,hv,ih.1 d y (by simp at hn⊢;omega) h2,ih.2.2 ds ys (by simp at hn⊢;omega) h3⟩
def jj{w:World}{l:Nat}{o:Obj}(hl:w.heap[l]? =some o)(V7:¬Obj.plain o):∀(b:Nat) x,Obj.plain x->w.heap[b]? =some x->(w.putObj l o').heap[b]? =some x:=λb x hx hb=>by
 rw[World.putObj_heap_other (by rintro rfl;rw[hl]at hb;cases hb;exact V7 hx)];exact hb
def oF{base:Nat}{W M:dJ}{w0 w:World}{L:Loc}(h:bJ base W M w0 ab w L){l:Nat}{o:Obj}(hl:w.heap[l]? =some o)(V7:¬Obj.plain o)(hb:base<=l):
  bJ base W M w0 ab (w.putObj l o') L:=by
 have fG:(w.putObj l o').heap.size=w.heap.size:=by simp[World.putObj]
 have kV:=jj (o':=o') hl V7;have qq:KeepsC (WW W ab L) w (w.putObj l o'):=⟨by rw[fG];exact iV _,λb c e fr hb _=>kV b _ trivial hb⟩;have f:=h.fr;refine⟨⟨f.os,f.tape,f.output,f.gz,by rw[fG];exact f.size,λk hk hm=>?_,f.drawn⟩,λr o ho=>?_,h.apart,h.oh,h.under,h.gl.aD qq λ_ _ h=>h⟩
 ·rw[World.putObj_heap_other (by omega)];exact f.block k hk hm
 ·have c9:=h.ob r o ho;cases o with
  |box cs=>
   obtain⟨c,e,hc,hr,hm⟩:=c9;exact⟨c,e,kV _ _ trivial hc,(jH qq (SizeOf.sizeOf cs+1)).2.1 cs _ (by omega) hr,hm⟩
  |map bB agg c es=>
   obtain⟨aR,hc,hr,k1,k2,k3,hm⟩:=c9;refine⟨aR,kV _ _ trivial hc, ?_,k1,k2,k3,hm⟩;have key:∀(es:List (Nat×T×DV)) (xs:List MapEntry),aY w W ab L es xs->aY (w.putObj l o') W ab L es xs:=by
    intro es;induction es with
    |nil=>intro xs h;simpa only[aY]using h
    |cons e es ih=>
     intro xs h;simp only[aY]at h⊢;obtain⟨x,jU,hx,h1,h2,h3,h4⟩:=h;exact⟨x,jU,hx,h1,aO.aD qq (λ_ _ h=>h) _ _ h2,(jH qq (SizeOf.sizeOf e.2.2+1)).1 _ _ (by omega) h3,ih jU h4⟩
   exact key es _ hr
  |c8 m s sn lt=>
   obtain⟨hc,HK,hm⟩:=c9;exact⟨kV _ _ trivial hc,HK,hm⟩
  |aR aX e sz an=>
   obtain⟨g1,g2,g3,g4⟩:=c9;refine⟨g1,g2,g3, ?_⟩;rcases g4 with g4|⟨g,cap,dg,hv,hp,hh,k1,k2,k3,k4⟩
   ·exact .inl g4
   ·exact .inr ⟨g,cap,dg,hv,hp,kV _ _ trivial hh,k1,k2,k3,aN.aD qq (λ_ _ h=>h) _ _ k4⟩
def fX.Uo{V:dJ}{L:Loc}{gw w:World}{l:Nat}{r':Loop}(hg:l<gw.heap.size)(h:fX V go gL (gw.putObj l (.loop r)) ab L w):
  fX V go gL (gw.putObj l (.loop r')) ab L (w.putObj l (.loop r')):=by
 have hl:w.heap[l]? =some (.loop r):=h.bV.KU _ _ (World.putObj_heap_same hg);have TF:=(kf.1 hl).1;have s1:(gw.putObj l (.loop r')).heap.size=gw.heap.size:=by simp[World.putObj]
 have s2:(gw.putObj l (.loop r)).heap.size=gw.heap.size:=by simp[World.putObj]
 have s3:(w.putObj l (.loop r')).heap.size=w.heap.size:=by simp[World.putObj]
 have g1:(gw.putObj l (.loop r')).heap[l]? =some (.loop r'):=World.putObj_heap_same hg;have g3:(w.putObj l (.loop r')).heap[l]? =some (.loop r'):=World.putObj_heap_same TF;have o1:∀b,b≠l->(gw.putObj l (.loop r')).heap[b]? =(gw.putObj l (.loop r)).heap[b]? :=λb hb=>(World.putObj_heap_other hb).trans (World.putObj_heap_other hb).symm;have o3:∀b,b≠l->(w.putObj l (.loop r')).heap[b]? =w.heap[b]? :=λb hb=>World.putObj_heap_other hb;have hk:=h.bV.size;refine⟨⟨⟨by rw[s1,s3];rw[s2]at hk;exact hk,λb c e fr hb hn=>?_⟩,λb hb=>?_,λb rr hb=>?_⟩,λb hb hw=>?_,h.fix,h.aR,h.yl⟩
 ·have cZ:b≠l:=by rintro rfl;rw[g1]at hb;cases hb
  rw[o1 b cZ]at hb;rw[o3 b cZ];exact h.bV.gp b c e fr hb hn
 ·have cZ:b≠l:=by rintro rfl;rw[g1]at hb;cases hb
  rw[o1 b cZ]at hb;rw[o3 b cZ];exact h.bV.HG b hb
 ·by_cases cZ:b=l
  ·subst cZ;rw[g1]at hb;rw[g3];exact hb
  ·rw[o1 b cZ]at hb;rw[o3 b cZ];exact h.bV.KU b rr hb
 ·rw[s1]at hb;exact h.sub b (by rw[s2];exact hb) hw
def HT{n:Nat}(am:au P Γ)(uY:κ.uX P){o:Oper}{r:RO}(hc:cy P o=some (um r.d))(iW:r.dst=o.dst){st:RS}{a:Act}{w:World}{L:Loc}(h:dL κ nt st a w L)(hd:∀d,r.dst=some d->d<nt)
  (dj:st.ab (bm az r.dst)=none) (aB:(post Γ az r st).ok) {K:Act->World->Prop} {Q:Exit->Act->World->Prop}
  (hK:∀a' w' L',dL κ nt ⟨bW st.tmps r.dst (post Γ az r st).val,(post Γ az r st).ab,(post Γ az r st).todo⟩ a' w' L'->K a' w'):
  o.wpIn (gR ro) n P a w K Q:=by
 have hR:=h;obtain⟨⟨W,base,M,w0,fF,h0⟩,yA,hdf,hbg,iv⟩:=h;refine⟨kT o w _, ?_⟩;have wu:∀c,o.op≠ .defer c:=nJ hc;rw[show(gR ro).round=ro from rfl,Oper.semAt_eq ro _ o wu];by_cases h4:mR r.d=true
 ·unfold post at aB hK;rw[uV h4]at aB hK;cases TG:r.d<;>rw[TG]at h4<;>first|(simp[mR]at h4;done)|skip
  case callS f args=>
   rw[TG]at hc aB hK;obtain⟨c,ho,aZ⟩:=d6 hc (.inl ⟨f,args,rfl⟩);obtain⟨fn,gW,sK,cZ,K6,mB⟩:=jX aZ;have bq:=iL (P:=P) (w:=w) (a:=a) (g:=f) (bP:= #[]) ho (λx hx=>by rw[gW]at hx;cases hx;rfl) ⟨_,gW⟩ ⟨fn,sK,cZ,K6⟩;rw[BG]at bq;rw[bq,Oper.uponIn_enter];refine⟨λhx=>(by cases hx),dK ?_⟩;simp only[ku]at aB hK;cases hg:Γ f with
   |none=>simp[hg]at aB
   |some s=>
    simp only[hg]at aB hK;cases hk:s.st with
    |none=>simp[hk]at aB
    |some k=>
     simp only[hk]at aB hK;obtain⟨cD,B3⟩:=(am f s hg).st k hk _ _ aB;obtain⟨N,hN⟩:=iv;have cD:=cD N hN;refine(cD.run base W M w0 w L (c.args.map a.eval) h0.o (by simpa using eR h0.o.gl h0.tmps mB)).mono ?_;rintro e w' ⟨v,L',rfl,hO,hA,hv⟩;have:=hK _ _ _ (dL.put hR fF h0 r.dst hd hO hA hv ⟨N,λr hr=>B3 r (hN r hr)⟩);rw[<-iW];exact this
  case callv x args=>
   rw[TG]at hc aB hK;obtain⟨c,ho,aZ⟩:=d6 hc (.inr (.inr (.inl ⟨_,_,rfl⟩)));obtain⟨t,gW,rfl,mB⟩:=AD aZ;have ht:=h0.tmps t;simp only[ku,show be.ev st.tmps (.tmp t)=st.tmps t from rfl]at aB hK;cases hv:st.tmps t with
   |v tv=>
    rw[hv]at ht aB hK;cases tv with
    |fn fv bP=>
     cases fv with
     |func g=>
      simp only at aB hK;simp only[ap,aO]at ht;obtain⟨vs,hx,y8⟩:=ht;cases hg:Γ g with
      |none=>simp[hg]at aB
      |some s=>
       simp only[hg]at aB hK;cases hk:s.st with
       |none=>
        simp only[hk]at aB hK;unfold lF at aB hK;simp only[hg]at aB hK;obtain⟨kU,mW⟩:=aB;have bq:=iL (P:=P) (w:=w) (a:=a) (g:=g) (bP:=vs) ho (λx lq=>by rw[gW]at lq;cases lq;exact hx) ⟨_,gW⟩ ((am g s hg).pure _ mW).1.entry;rw[bq,Oper.uponIn_enter];refine⟨λhx=>(by cases hx),dK ?_⟩;have FM:iK w W st.ab L (args.map (·.ev st.tmps)++bP.map .v) (c.args.map a.eval++vs).toList:=by
         simpa using iK.append (eR h0.o.gl h0.tmps mB) (ws y8)
        refine(y7 am h0.o hg kU mW FM).mono ?_;rintro e w' ⟨v,rfl,hO,hA,nH⟩;have:=hK _ _ _ (dL.put hR fF h0 r.dst hd hO hA nH iv);rw[<-iW];exact this
       |some k=>
        simp only[hk]at aB hK;obtain⟨cD,B3⟩:=(am g s hg).st k hk _ _ aB;obtain⟨N,hN⟩:=iv;have cD:=cD N hN;have bq:=iL (P:=P) (w:=w) (a:=a) (g:=g) (bP:=vs) ho (λx lq=>by rw[gW]at lq;cases lq;exact hx) ⟨_,gW⟩ cD.entry;rw[bq,Oper.uponIn_enter];refine⟨λhx=>(by cases hx),dK ?_⟩;have FM:iK w W st.ab L (args.map (·.ev st.tmps)++bP.map .v) (c.args.map a.eval++vs).toList:=by
         simpa using iK.append (eR h0.o.gl h0.tmps mB) (ws y8)
        refine(cD.run base W M w0 w L _ h0.o FM).mono ?_;rintro e w' ⟨v,L',rfl,hO,hA,nH⟩;have:=hK _ _ _ (dL.put hR fF h0 r.dst hd hO hA nH ⟨N,λr hr=>B3 r (hN r hr)⟩);rw[<-iW];exact this
     |_=>simp at aB
    |mb rv=>
     simp only at aB hK;cases ML:(cG.k:Option (Nat×(bD->bA->fp)))with
     |none=>simp[ML]at aB
     |some p=>
      obtain⟨l,k⟩:=p;simp only[ML]at aB hK;obtain⟨hrv,EL,lr,hkb⟩:=aB;subst hrv;simp only[ap,aO]at ht;cases hJ:κ.J with
      |some J=>
       have:=(uY.y J hJ).2.1;rw[ML]at this;cases this
      |none=>
       have wv:=fF;unfold kS.At at wv;simp only[hJ]at wv;obtain⟨Kw,rfl,rfl,rfl,rfl⟩:=wv;cases hY:κ.Y with
       |none=>exact yV (Kw hY) EL
       |some p=>
        obtain⟨l',r1,s1⟩:=p;obtain⟨hb,hg,k',wn,ahE⟩:=uY.ys l' r1 s1 hY;rw[ML]at wn;cases wn;have So:κ.B0 st.todo=κ.gw.putObj l (.loop r1):=by
         cases ahF:st.todo with
         |nil=>exact yV ahF EL
         |cons _ _=>simp only[kS.B0,hY]
        rw[So]at yA;have aej:=(kf.1 hg).1;have TF:w.heap[l]? =some (.loop r1):=yA.bV.KU _ _ (World.putObj_heap_same aej);have FM:iK w κ.W st.ab L (args.map (·.ev st.tmps)) (c.args.map a.eval).toList:=by
         simpa using eR h0.o.gl h0.tmps mB
        obtain⟨fn,tmps,assign,body,HU,AE⟩:=ahE.round w L st.ab _ (c.args.map a.eval) lr hkb iv TF (by rw[World.Cy hg]at yA;exact yA) h0.o FM;have bq:(execOp a.eval o).run P w=.ok (.round l fn tmps assign body) w:=by
         have:a.eval (.tmp t)=.func (.yield l) #[] #[]:=ht;simp[execOp,ho,resolve,gW,this,Deferred.ofValue,invoke,HU]
        rw[bq,Oper.uponIn_round];refine⟨λhx=>(by cases hx),pV ?_⟩;refine AE.mono ?_;rintro e B ⟨rfl,L',Wc,Sp⟩;obtain⟨r2,nS⟩:=ba ((if Ef (k (args.map (·.ev st.tmps)) st.ab).val=true then r1 else s1));rw[nS]at Sp;have TA:¬Obj.plain (.loop r1):=λe=>e;have qq:KeepsC (WW κ.W st.ab L) w (w.putObj l (.loop r2)):=⟨by simp[World.putObj],λb c e fr hb _=>jj TF TA b _ trivial hb⟩;have h1:R0 κ.base κ.W κ.M κ.w0 nt st.tmps st.ab a (w.putObj l (.loop r2)) L:=⟨h0.size,λt=>(jH qq (SizeOf.sizeOf (st.tmps t)+1)).1 (st.tmps t) _ (IV _) (h0.tmps t),oF h0.o TF TA hb⟩;obtain⟨Ds,Wd,hDn,Hg,hDJ⟩:=hdf;obtain⟨N,hN⟩:=iv;obtain⟨go,My⟩:=ba (Ef (k (args.map (·.ev st.tmps)) st.ab).val);have dt:(k (args.map (·.ev st.tmps)) st.ab).val=.v (.bool go):=by
         rw[<-My];revert hkb;cases(k (args.map (·.ev st.tmps)) st.ab).val with
         |v x=>cases x<;>simp[Ky,Ef]
         |_=>simp[Ky]
        rw[My]at nS;simp only[dt,NH]at hK;have hR:dL κ nt ⟨bW st.tmps r.dst (.v (.bool go)),(k (args.map (·.ev st.tmps)) st.ab).ab,if go=true then st.todo else []⟩ (a.put r.dst (.bool go)) B L':=by
         refine⟨⟨κ.W,κ.base,κ.M,κ.w0, ?_,h1.put r.dst hd Wc Sp (by simp[ap,aO])⟩, ?_,⟨Ds,by rw[qp];exact Wd,hDn,λD hD=>⟨Sp.bV.HG D ?_,(Hg D hD).2⟩,hDJ⟩,hbg,⟨N,λx hx=>cG.aS _ _ ML _ _ lr x (hN x hx)⟩⟩
         ·unfold kS.At;simp only[hJ];exact⟨(λh=>by rw[hY]at h;cases h),trivial,trivial,trivial,trivial⟩
         ·have Mz:κ.B0 (if go=true then st.todo else [])=κ.gw.putObj l (.loop r2):=by
           rw[<-nS];cases go
           ·simp[kS.B0,hY]
           ·rw[uV rfl,So];simp
          rw[Mz];exact(fX.Uo aej yA).comp Sp (λ_ h=>.inl h) (λ_ h=>h)
         ·rw[World.putObj_heap_other (by rintro rfl;rw[(Hg _ hD).1]at TF;cases TF)];exact(Hg D hD).1
        have:=hK _ _ _ hR;rw[<-iW,My];exact this
    |_=>simp at aB
   |vU=>
    rw[hv]at ht aB hK;simp only[ap]at ht;cases EL:st.todo with
    |nil=>simp[EL]at aB
    |cons y rest=>
     simp only[EL]at aB hK;obtain⟨ML,kU,ahG,N3⟩:=aB;rw[EL]at fF;unfold kS.At at fF;cases hJ:κ.J with
     |none=>
      simp only[hJ]at fF;have hY:κ.Y=none:=by
       cases hY:κ.Y with
       |none=>rfl
       |some p=>obtain⟨_,_,k,hk,_⟩:=uY.ys p.1 p.2.1 p.2.2 hY;rw[ML]at hk;cases hk
      exact yV (fF.1 hY) (by simp)
     |some J=>
      simp only[hJ]at fF;obtain⟨hj,rfl,rfl,Up,Sq⟩:=fF;have hY:=(uY.y J hJ).2.2;rw[kS.Cz hY]at yA;have hy:=(uY.y J hJ).1;have hbw:qZ w0.heap.size w0 w:=⟨⟨h0.o.fr.os,h0.o.fr.tape,h0.o.fr.output,h0.o.fr.size,λk hk=>h0.o.fr.block k hk (λx=>x)⟩,h0.o.fr.drawn⟩;have hjw:=hy.Wb W (y::rest) w0 w hj hbw;have vj:∀b,WW W st.ab L b->W b:=by
       rintro b (hb|⟨r',o',h1,_⟩)
       ·exact hb
       ·rw[N3]at h1;cases h1
      have Ae:dq w W y (c.args.map a.eval).toList:=by
       rw[<-ahG];have:=jG W (d5:=false) h0.o (λx=>by cases x) (λb hb=>.inl hb) (eR h0.o.gl h0.tmps mB) kU;simpa using this
      obtain⟨fn,tmps,assign,body,HU,AE⟩:=hy.round W y rest (c.args.map a.eval) w hjw Ae;have bq:(execOp a.eval o).run P w=.ok (.round L.yl fn tmps assign body) w:=by
       rw[<-yA.yl]at HU;have:a.eval (.tmp t)=.func (.yield L.yl) #[] #[]:=ht;simp[execOp,ho,resolve,gW,this,Deferred.ofValue,invoke,HU]
      rw[bq,Oper.uponIn_round];refine⟨λhx=>(by cases hx),pV ?_⟩;rw[<-yA.yl]at AE;refine AE.mono ?_;rintro e B ⟨rfl,W',MA,wn,ls,aek⟩;have AF:∀b,W b->b<w.heap.size:=λb hb=>by
       have h1:=h0.o.under b hb;have h2:=h0.o.fr.size;omega
      have hA0:fX W st.ab L w st.ab L B:=fX.bZ (wn.mono λb hb=>.inl hb);obtain⟨Ds,Wd,hDn,Hg,hDJ⟩:=hdf;have N4:uU W W' st.ab L w st.ab L B:=by
       refine⟨wn.mono λb hb=>.inl hb,λb hb hw=>?_,λr o hr _=>⟨rfl,o,hr,rfl⟩,λr aX e sz an hr=>⟨aX,e,sz,an,hr,iV _,λ_=>⟨rfl,rfl,rfl⟩⟩,rfl⟩;rcases hw with hw|⟨r',o',h1,_⟩
       ·rcases(ls b hw).2 with h2|h2
        ·exact .inl h2
        ·omega
       ·rw[N3]at h1;cases h1
      have move:∀(d:DV) (x:Value),ap w W st.ab L d x->ap B W' st.ab L d x:=ap.er N4;have Wc:bJ B.heap.size W' (λ_=>False) B st.ab B L:=by
       refine⟨Fr.refl (iV _),λr o ho=>?_,λr r' o o' b _ ho=>?_,λr o b ho=>?_,λb hb=>(ls b hb).1,h0.o.gl.aD N4.bV.toKeepsC N4.sub⟩;all_goals rw[N3]at ho;cases ho
      have hR:dL κ nt ⟨bW st.tmps r.dst (.v (.bool true)),st.ab,rest⟩ (a.put r.dst (.bool true)) B L:=by
       refine⟨⟨W',B.heap.size,λ_=>False,B, ?_, ?_⟩,(by rw[kS.Cz hY];exact yA.comp hA0 Up Sq),⟨Ds,by rw[qp];exact Wd,hDn,λD hD=>⟨wn.HG D (Hg D hD).1,(Hg D hD).2⟩,hDJ⟩,hbg,iv⟩
       ·unfold kS.At;simp only[hJ];refine⟨MA,trivial,trivial,λb hb=>?_,λb hb=>aek b (Sq b hb)⟩;rcases(ls b hb).2 with h1|h1
        ·exact Up b h1
        ·exact .inr (wB yA.bV.size h1)
       ·have h1:R0 B.heap.size W' (λ_=>False) B nt st.tmps st.ab a B L:=⟨h0.size,λt=>move _ _ (h0.tmps t),Wc⟩;exact h1.put r.dst hd Wc (fX.bZ (ch.refl _ _)) (by simp[ap,aO])
      have:=hK _ _ _ hR;rw[<-iW];exact this
   |uS fv bP=>
    rw[hv]at ht aB hK;cases fv with
    |func g=>
     simp only at aB hK;simp only[ap]at ht;obtain⟨vs,hx,y8⟩:=ht;cases hg:Γ g with
     |none=>simp[hg]at aB
     |some s=>
      simp only[hg]at aB hK;cases hk:s.st with
      |none=>simp[hk]at aB
      |some k=>
       simp only[hk]at aB hK;obtain⟨cD,B3⟩:=(am g s hg).st k hk _ _ aB;obtain⟨N,hN⟩:=iv;have cD:=cD N hN;have bq:=iL (P:=P) (w:=w) (a:=a) (g:=g) (bP:=vs) ho (λx lq=>by rw[gW]at lq;cases lq;exact hx) ⟨_,gW⟩ cD.entry;rw[bq,Oper.uponIn_enter];refine⟨λhx=>(by cases hx),dK ?_⟩;have FM:iK w W st.ab L (args.map (·.ev st.tmps)++bP) (c.args.map a.eval++vs).toList:=by
        simpa using iK.append (eR h0.o.gl h0.tmps mB) (CA y8)
       refine(cD.run base W M w0 w L _ h0.o FM).mono ?_;rintro e w' ⟨v,L',rfl,hO,hA,nH⟩;have:=hK _ _ _ (dL.put hR fF h0 r.dst hd hO hA nH ⟨N,λr hr=>B3 r (hN r hr)⟩);rw[<-iW];exact this
    |_=>simp at aB
   |_=>rw[hv]at aB;simp at aB
  case entryM x=>
   rw[TG]at hc aB hK;have V9:cy P o=some (.entryM x):=hc;obtain⟨y,ho,hy⟩:=yz V9;simp only[ku]at aB hK;obtain⟨nx,v,w',L',bq,TH,hO,hA,hv⟩:=AG h0.o ho (be.bd h0.o.gl h0.tmps hy) aB;have wj:(iH st.ab (x.ev st.tmps)).put=none:=by unfold iH;(repeat' split)<;>rfl
   rw[wj]at hO hA hv;rw[bq];rcases TH with rfl|⟨rfl,rfl⟩
   ·rw[Oper.uponIn_value,<-iW];exact hK _ _ _ (dL.put hR fF h0 r.dst hd hO hA hv iv)
   ·rw[Oper.uponIn_skip,<-iW];exact hK _ _ _ (dL.put hR fF h0 r.dst hd hO hA hv iv)
 ·have h4':mR r.d=false:=by simpa using h4
  have Ue:=hc;have ahH:∀f args,r.d=.callF f args->um r.d=.call f args:=λf args h=>by rw[h];rfl
  unfold post at aB hK;rw[mL h4]at aB hK;simp only at aB hK;by_cases kh:∃f args,r.d=.call f args
  ·obtain⟨f,args,K7⟩:=kh;rw[K7]at hc;obtain⟨c,ho,aZ⟩:=d6 hc (.inl ⟨f,args,rfl⟩);obtain⟨fn,gW,sK,cZ,K6,mB⟩:=jX aZ;have bq:=iL (P:=P) (w:=w) (a:=a) (g:=f) (bP:= #[]) ho (λx hx=>by rw[gW]at hx;cases hx;rfl) ⟨_,gW⟩ ⟨fn,sK,cZ,K6⟩;rw[BG]at bq;rw[bq,Oper.uponIn_enter];refine⟨λhx=>(by cases hx),dK ?_⟩;simp only[kw,K7,cj,lF]at aB hK;cases hg:Γ f with
   |none=>simp[hg,cb]at aB
   |some s=>
    simp only[hg]at aB hK;obtain⟨kU,mW⟩:=aB;refine(y7 am h0.o hg kU mW (anM:=c.args.map a.eval) (by simpa using eR h0.o.gl h0.tmps mB)).mono ?_;rintro e w' ⟨v,rfl,hO,hA,nH⟩;have:=hK _ _ _ (dL.put hR fF h0 r.dst hd hO hA nH iv);rw[<-iW];exact this
  ·by_cases FN:∃f args,r.d=.callF f args
   ·obtain⟨f,args,K7⟩:=FN;have fg:cy P o=some (.call f args):=by rw[<-ahH f args K7];exact Ue
    obtain⟨c,ho,aZ⟩:=d6 fg (.inl ⟨f,args,rfl⟩);obtain⟨fn,gW,sK,cZ,K6,mB⟩:=jX aZ;have bq:=iL (P:=P) (w:=w) (a:=a) (g:=f) (bP:= #[]) ho (λx hx=>by rw[gW]at hx;cases hx;rfl) ⟨_,gW⟩ ⟨fn,sK,cZ,K6⟩;rw[BG]at bq;rw[bq,Oper.uponIn_enter];refine⟨λhx=>(by cases hx),dK ?_⟩;simp only[kw,K7,cj,kQ]at aB hK;cases hg:Γ f with
    |none=>simp[hg,cb]at aB
    |some s=>
     simp only[hg]at aB hK;cases fY:s.fresh with
     |none=>simp[fY,cb]at aB
     |some q=>
      obtain⟨e,sz⟩:=q;simp only[fY]at aB hK;cases hrw:s.fn (fR st.ab (args.map (·.ev st.tmps)))<;>simp only[hrw,cb]at aB hK<;>try exact aB.elim
      rename_i an;obtain⟨kU,mW⟩:=aB;obtain⟨di,h1,h2,h3⟩:=(am f s hg).fresh e sz fY _ mW;rw[hrw]at h1;cases h1;refine(FL h0.o kU h2 h3 (anM:=c.args.map a.eval) (by simpa using eR h0.o.gl h0.tmps mB) dj).mono ?_;rintro e' w' ⟨v,L',rfl,hO,hA,nH⟩;have wx:∃N,∀r',N<=r'->(bQ st.ab (some (bm az r.dst,.aR 0 e sz an))) r'=none:=by
       obtain⟨N,hN⟩:=iv;refine⟨max N (bm az r.dst+1),λr' jV=>?_⟩;simp only[bQ];rw[mL (by omega)];exact hN r' (by omega)
      have:=hK _ _ _ (dL.put hR fF h0 r.dst hd hO hA nH wx);rw[<-iW];exact this
   by_cases FO:∃f args,r.d=.callR f args
   ·obtain⟨f,args,K7⟩:=FO;have fg:cy P o=some (.call f args):=by rw[show(mQ.call f args)=um r.d by rw[K7];rfl];exact Ue
    obtain⟨c,ho,aZ⟩:=d6 fg (.inl ⟨f,args,rfl⟩);obtain⟨fn,gW,sK,cZ,K6,mB⟩:=jX aZ;have bq:=iL (P:=P) (w:=w) (a:=a) (g:=f) (bP:= #[]) ho (λx hx=>by rw[gW]at hx;cases hx;rfl) ⟨_,gW⟩ ⟨fn,sK,cZ,K6⟩;rw[BG]at bq;rw[bq,Oper.uponIn_enter];refine⟨λhx=>(by cases hx),dK ?_⟩;simp only[kw,K7,cj,kP]at aB hK;cases hg:Γ f with
    |none=>simp[hg,cb]at aB
    |some s=>
     simp only[hg]at aB hK;cases hk:s.st with
     |none=>simp[hk,cb]at aB
     |some k=>
      simp only[hk]at aB hK;obtain⟨FP,N3,dt⟩:=aB st.ab (λ_ _=>rfl);obtain⟨cD,B3⟩:=(am f s hg).st k hk _ _ FP;obtain⟨N,hN⟩:=iv;have cD:=cD N hN;refine(cD.run base W M w0 w L (c.args.map a.eval) h0.o (by simpa using eR h0.o.gl h0.tmps mB)).mono ?_;rintro e w' ⟨v,L',rfl,hO,hA,hv⟩;rw[N3]at hO hA hv;rw[dt]at hv;have:=hK _ _ _ (dL.put hR fF h0 r.dst hd hO hA hv ⟨N,hN⟩);rw[<-iW];exact this
   by_cases abm:∃e sz FI zero n,r.d=.mkSliceB e sz FI zero n
   ·obtain⟨e,sz,FI,zero,n,K7⟩:=abm;have fg:cy P o=some (.mkSlice e sz FI zero n):=by rw[show(mQ.mkSlice e sz FI zero n)=um r.d by rw[K7];rfl];exact Ue
    simp only[kw,K7,cj]at aB hK;obtain⟨nx,v,w',L',bq,TH,hO,hA,hv⟩:=K5 h0.o fg h0.tmps dj aB;have wx:∃N,∀r',N<=r'->(bQ st.ab (ef sz FI zero (bm az r.dst) (n.ev st.tmps)).put) r'=none:=by
     obtain⟨N,hN⟩:=iv;cases hp:(ef sz FI zero (bm az r.dst) (n.ev st.tmps)).put with
     |none=>exact⟨N,hN⟩
     |some q=>
      obtain⟨t,o'⟩:=q;refine⟨max N (t+1),λr' jV=>?_⟩;simp only[bQ];rw[mL (by omega)];exact hN r' (by omega)
    rw[bq];rcases TH with rfl|⟨rfl,rfl⟩
    ·rw[Oper.uponIn_value,<-iW];exact hK _ _ _ (dL.put hR fF h0 r.dst hd hO hA hv wx)
    ·rw[Oper.uponIn_skip,<-iW];exact hK _ _ _ (dL.put hR fF h0 r.dst hd hO hA hv wx)
   have Sr:um r.d=r.d:=by
    cases TG:r.d<;>rw[TG]at h4' FN FO abm<;>first|rfl|(simp[mR]at h4';done)|exact yV ⟨_,_,rfl⟩ FN|exact yV ⟨_,_,rfl⟩ FO|exact yV ⟨_,_,_,_,_,rfl⟩ abm
   rw[Sr]at hc;have wx:∃N,∀r',N<=r'->(bQ st.ab (kw Γ az r st).put) r'=none:=by
    obtain⟨N,hN⟩:=iv;cases hp:(kw Γ az r st).put with
    |none=>exact⟨N,hN⟩
    |some q=>
     obtain⟨t,o'⟩:=q;refine⟨max N (t+1),λr' jV=>?_⟩;simp only[bQ];rw[mL (by omega)];exact hN r' (by omega)
   obtain⟨nx,v,w',L',bq,TH,hO,hA,hv⟩:=NX (Γ:=Γ) (name:=bm az r.dst) hc (λf args e=>kh ⟨f,args,e⟩) h0.tmps h0.o dj aB;rw[bq];rcases TH with rfl|⟨rfl,rfl⟩
   ·rw[Oper.uponIn_value,<-iW];exact hK _ _ _ (dL.put hR fF h0 r.dst hd hO hA hv wx)
   ·rw[Oper.uponIn_skip,<-iW];exact hK _ _ _ (dL.put hR fF h0 r.dst hd hO hA hv wx)
end
end
section
variable{xs:List be}{r:Nat}
variable [bh]
def j6:mQ->Nat
 |.alloc _|.box _|.mkSlice .. |.mkSliceB .. |.mkMap .. =>2
 |.store .. |.append .. |.mapUpd .. |.mapEnt .. |.entSt .. |.mapDel .. |.copy .. |.rangeM _|.callF .. =>3
 |.load .. |.eqT .. |.idxAddr .. |.len _|.call .. |.callR .. |.slice .. |.lookup .. |.lenM _|.isNil .. =>1
 |.callS .. |.callv .. |.entryM _=>4
 |_=>0
section
variable{Γ:gP}{d:mQ}{name:Nat}{ρ N5:cQ}{ab ay:bA}
def gK(h:∀x∈xs,x.ev ρ=x.ev N5):xs.map (·.ev ρ)=xs.map (·.ev N5):=QQ h
def sV(h:∀x∈br d,x.ev ρ=x.ev N5):cj Γ d name ρ ab=cj Γ d name N5 ab:=by
 cases d;case build z ps=>
  have:ps.map (λp=>(p.1,p.2.1,p.2.2.ev ρ))=ps.map (λp=>(p.1,p.2.1,p.2.2.ev N5)):=QQ λp hp=>by rw[h p.2.2 (kL.2 ⟨p,hp,rfl⟩)]
  simp only[cj,this]
 case bslice n sz z ps=>
  have:ps.map (λp=>(p.1,p.2.1,p.2.2.ev ρ))=ps.map (λp=>(p.1,p.2.1,p.2.2.ev N5)):=QQ λp hp=>by rw[h p.2.2 (kL.2 ⟨p,hp,rfl⟩)]
  simp only[cj,this]
 case slice sz x lo hi=>
  have h1:=h x (by simp[br]);have h2:lo.map (·.ev ρ)=lo.map (·.ev N5):=by cases lo<;>simp;exact h _ (by simp[br])
  have h3:hi.map (·.ev ρ)=hi.map (·.ev N5):=by cases hi<;>simp;exact h _ (by simp[br])
  simp only[cj,h1,h2,h3]
 case call f xs=>simp only[cj,gK (xs:=xs) h]
 case callF f xs=>simp only[cj,gK (xs:=xs) h]
 case callR f xs=>simp only[cj,gK (xs:=xs) h]
 case callS f xs=>rfl
 case callv x xs=>rfl
 case mkFn f xs=>simp only[cj,gK (xs:=xs) h]
 all_goals (simp only[br,pH,Zct,Zdl,forall_eq_or_imp,TI]at h;simp only[cj,h])
def wy(h:j6 d=0\/j6 d=2):cj Γ d name ρ ab=cj Γ d name ρ ay:=by
 cases d<;>first|rfl|(simp[j6]at h;done)
mutual
def dC(ab:bA):DV->Prop
 |.ptr r _|.aQ r _|.gU r _ _ _|.dQ r|.c8 r|.qi r _ _ _|.Al r _=>ab r≠none
 |.agg cs|.dh cs|.uS _ cs=>d7 ab cs
 |_=>True
def d7(ab:bA):bD->Prop
 |[]=>True
 |d::ds=>dC ab d/\d7 ab ds
end
mutual
def dC.bd{w:World}{W:dJ}{L:Loc}:∀(d:DV) (x:Value),ap w W ab L d x->dC ab d
 |.ptr r off,x,h=>by simp only[ap]at h;obtain⟨⟨cs,hc⟩,_⟩:=h;simp[dC,hc]
 |.Al r n,x,h=>by simp only[ap]at h;obtain⟨⟨cs,hc⟩,_⟩:=h;simp[dC,hc]
 |.aQ r aX,x,h=>by simp only[ap]at h;obtain⟨_,v,e,s,an,hc,_⟩:=h;simp[dC,hc]
 |.gU r aX i off,x,h=>by simp only[ap]at h;obtain⟨_,v,e,s,an,hc,_⟩:=h;simp[dC,hc]
 |.dQ r,x,h=>by simp only[ap]at h;obtain⟨⟨_,_,_,_,hc⟩,_⟩:=h;simp[dC,hc]
 |.c8 r,x,h=>by simp only[ap]at h;obtain⟨⟨_,_,_,_,hc⟩,_⟩:=h;simp[dC,hc]
 |.qi r aX lo n,x,h=>by simp only[ap]at h;obtain⟨_,v,e,s,an,hc,_⟩:=h;simp[dC,hc]
 |.dh cs,x,h=>by simp only[ap]at h;obtain⟨vs,_,hr⟩:=h;simp only[dC];exact d7.HV cs _ hr
 |.uS f cs,x,h=>by simp only[ap]at h;obtain⟨vs,_,hr⟩:=h;simp only[dC];exact d7.bd cs _ hr
 |.agg cs,x,h=>by simp only[ap]at h;obtain⟨vs,_,hr⟩:=h;simp only[dC];exact d7.bd cs _ hr
 |.undef,_,_|.skip,_,_|.v _,_,_|.aF,_,_|.jr _ _ _,_,_|.gq _ _,_,_|.vU,_,_=>by simp[dC]
def d7.bd{w:World}{W:dJ}{L:Loc}:∀(ds:bD) (xs:List Value),aH w W ab L ds xs->d7 ab ds
 |[],_,_=>by simp[d7]
 |d::ds,xs,h=>by
  simp only[aH]at h;obtain⟨x,jU,_,_,h1,h2⟩:=h;simp only[d7];exact⟨dC.bd d x h1,d7.bd ds jU h2⟩
def d7.HV{w:World}{W:dJ}{L:Loc}:∀(ds:bD) (xs:List Value),db w W ab L ds xs->d7 ab ds
 |[],_,_=>by simp[d7]
 |d::ds,xs,h=>by
  simp only[db]at h;obtain⟨x,jU,_,h1,h2⟩:=h;simp only[d7];exact⟨dC.bd d x h1,d7.HV ds jU h2⟩
end
mutual
def dC.aS:∀(d:DV),dC ab d->∀n∈aS d,ab n≠none
 |.ptr r off,h,n,hn=>by simp only[DM.aS,ic]at hn;subst hn;simpa only[dC]using h
 |.Al r m,h,n,hn=>by simp only[DM.aS,ic]at hn;subst hn;simpa only[dC]using h
 |.aQ r aX,h,n,hn=>by simp only[DM.aS,ic]at hn;subst hn;simpa only[dC]using h
 |.gU r aX i off,h,n,hn=>by simp only[DM.aS,ic]at hn;subst hn;simpa only[dC]using h
 |.dQ r,h,n,hn=>by simp only[DM.aS,ic]at hn;subst hn;simpa only[dC]using h
 |.c8 r,h,n,hn=>by simp only[DM.aS,ic]at hn;subst hn;simpa only[dC]using h
 |.qi r _ _ _,h,n,hn=>by simp only[DM.aS,ic]at hn;subst hn;simpa only[dC]using h
 |.dh cs,h,n,hn=>by simp only[DM.aS]at hn;simp only[dC]at h;exact d7.aS cs h n hn
 |.uS f cs,h,n,hn=>by simp only[DM.aS]at hn;simp only[dC]at h;exact d7.aS cs h n hn
 |.agg cs,h,n,hn=>by simp only[DM.aS]at hn;simp only[dC]at h;exact d7.aS cs h n hn
 |.vU,_,n,hn|.undef,_,n,hn|.skip,_,n,hn|.v _,_,n,hn|.aF,_,n,hn|.jr _ _ _,_,n,hn|.gq _ _,_,n,hn=>by simp[DM.aS]at hn
def d7.aS:∀(ds:bD),d7 ab ds->∀n∈ca ds,ab n≠none
 |[],_,n,hn=>by simp[ca]at hn
 |d::ds,h,n,hn=>by
  simp only[d7]at h;simp only[ca,dP]at hn;rcases hn with hn|hn
  ·exact dC.aS d h.1 n hn
  ·exact d7.aS ds h.2 n hn
end
def Ext(ab ay:bA):Prop:=∀r,ab r≠none->ay r=ab r
mutual
def AH:∀(d:DV),(∀n∈aS d,ay n=ab n)->nR ay d=nR ab d
 |.aQ r aX,hr=>by simp only[nR,hr r (by simp[aS])]
 |.agg cs,hr=>by simp only[nR,mD cs (λn hn=>hr n (by simpa only[aS]using hn))]
 |.uS f cs,hr=>by simp only[nR,mD cs (λn hn=>hr n (by simpa only[aS]using hn))]
 |.qi r aX lo n,hr=>by simp only[nR,hr r (by simp[aS])]
 |.undef,_|.skip,_|.v _,_|.aF,_|.ptr _ _,_|.jr _ _ _,_|.gq _ _,_|.gU _ _ _ _,_|.vU,_|.dQ _,_|.c8 _,_|.dh _,_|.Al _ _,_=>by simp[nR]
def mD:∀(ds:bD),(∀n∈ca ds,ay n=ab n)->fR ay ds=fR ab ds
 |[],_=>rfl
 |d::ds,hr=>by simp only[fR,AH d (λn hn=>hr n (by simp[ca,hn])),mD ds (λn hn=>hr n (by simp[ca,hn]))]
end
mutual
def AI(l:Bool):∀(d:DV),(∀n∈aS d,ay n=ab n)->yg l ay d=yg l ab d
 |.aQ r aX,hr=>by simp only[yg,hr r (by simp[aS])]
 |.agg cs,hr=>by simp only[yg,oG l cs (λn hn=>hr n (by simpa only[aS]using hn))]
 |.uS f cs,hr=>by simp only[yg,oG l cs (λn hn=>hr n (by simpa only[aS]using hn))]
 |.qi r aX lo n,hr=>by simp only[yg,hr r (by simp[aS])]
 |.undef,_|.skip,_|.v _,_|.aF,_|.ptr _ _,_|.jr _ _ _,_|.gq _ _,_|.gU _ _ _ _,_|.vU,_|.dQ _,_|.c8 _,_|.dh _,_|.Al _ _,_=>by simp[yg]
def oG(l:Bool):∀(ds:bD),(∀n∈ca ds,ay n=ab n)->oa l ay ds=oa l ab ds
 |[],_=>rfl
 |d::ds,hr=>by simp only[oa,AI l d (λn hn=>hr n (by simp[ca,hn])),oG l ds (λn hn=>hr n (by simp[ca,hn]))]
end
def qt{n:Nat}:n∈ca (xs.map (·.ev ρ))->∃x∈xs,n∈aS (x.ev ρ):=by
 induction xs with
 |nil=>simp[ca]
 |cons x xs ih=>
  simp only[l8,ca,dP];rintro(h|h)
  ·exact⟨x,by simp,h⟩
  ·obtain⟨y,hy,hn⟩:=ih h;exact⟨y,by simp[hy],hn⟩
def CC(d:DV):∀n∈ca (cellsOf d),n∈aS d:=by
 have hv:∀cs:ar,ca (cs.map .v)=[]:=by
  intro cs;induction cs with
  |nil=>rfl
  |cons c cs ih=>simp only[l8,ca,aS,ih,F5]
 intro n hn;cases d with
 |v t=>cases t<;>simp[cellsOf,ca,aS,hv]at hn
 |agg cs=>simpa [cellsOf,aS]using hn
 |_=>simpa [cellsOf,ca]using hn
def uo{d:DV}(hy:∀n∈aS d,ay n=ab n):dT ay d=dT ab d:=by
 cases d<;>simp only[aS,ic,TI]at hy<;>first|rfl|(simp only[dT,hy];done)|skip
 rename_i t;cases t<;>first|rfl|skip
 rename_i v;cases v<;>first|rfl|skip
 rename_i p n c;cases n<;>rfl
def sW(hr:∀x∈br d,∀n∈aS (x.ev ρ),ay n=ab n):cj Γ d name ρ ay=cj Γ d name ρ ab:=by
 by_cases h0:j6 d=0\/j6 d=2
 ·exact wy h0
 cases d<;>first|exact yV (Or.inl rfl) h0|exact yV (Or.inr rfl) h0|rfl|skip
 case load n agg x=>
  have hx:=hr x (by simp[br]);simp only[cj];cases hv:x.ev ρ<;>rw[hv]at hx<;>simp only[aS,ic,TI]at hx<;>first|rfl|(simp only[eE,hx];done)|(rename_i t;cases t<;>rfl)
 case store n x y=>
  have hx:=hr x (by simp[br]);have hy:=hr y (by simp[br]);have hyc:fR ay (cellsOf (y.ev ρ))=fR ab (cellsOf (y.ev ρ)):=mD _ λn hn=>hy n (CC _ n hn);simp only[cj];cases hv:x.ev ρ<;>rw[hv]at hx<;>simp only[aS,ic,TI]at hx<;>first|rfl|(simp only[jf,hx,hyc];done)|(rename_i t;cases t<;>rfl)
 case eqT neg agg bB x y=>
  have hx:=hr x (by simp[br]);have hy:=hr y (by simp[br]);simp only[cj,AI true _ hx,AI true _ hy,AH _ hx,AH _ hy]
 case idxAddr sz x i=>
  have hx:=hr x (by simp[br]);simp only[cj];cases hv:x.ev ρ<;>rw[hv]at hx<;>simp only[aS,ic,TI]at hx<;>first|rfl|skip
  ·rename_i t;cases t<;>first|rfl|(cases i.ev ρ<;>first|rfl|(rename_i t;cases t<;>rfl))
  ·cases i.ev ρ<;>first|rfl|skip
   rename_i t;cases t<;>first|rfl|(simp only[mX,hx])
  ·cases i.ev ρ<;>first|rfl|skip
   rename_i t;cases t<;>first|rfl|(simp only[mX,hx])
  ·cases i.ev ρ<;>first|rfl|skip
   rename_i t;cases t<;>rfl
 case len x=>
  have hx:=hr x (by simp[br]);simp only[cj];cases hv:x.ev ρ<;>rw[hv]at hx<;>simp only[aS,ic,TI]at hx<;>first|rfl|(simp only[qj,hx];done)|(rename_i t;cases t<;>rfl)
 case call f xs=>
  have hx:∀n∈ca (xs.map (·.ev ρ)),ay n=ab n:=λn hn=>by obtain⟨x,hx,hn⟩:=qt hn;exact hr x hx n hn
  simp only[cj,lF,oG _ _ hx,mD _ hx]
 case callF f xs=>
  have hx:∀n∈ca (xs.map (·.ev ρ)),ay n=ab n:=λn hn=>by obtain⟨x,hx,hn⟩:=qt hn;exact hr x hx n hn
  simp only[cj,kQ,oG _ _ hx,mD _ hx]
 case callR f xs=>
  have hx:∀n∈ca (xs.map (·.ev ρ)),ay n=ab n:=λn hn=>by obtain⟨x,hx,hn⟩:=qt hn;exact hr x hx n hn
  simp only[cj,An hx]
 case append e sz bytes x y=>
  have hx:=hr x (by simp[br]);have hy:=hr y (by simp[br]);have hs:dT ay (y.ev ρ)=dT ab (y.ev ρ):=uo hy;simp only[cj,ff,hs];cases dT ab (y.ev ρ)with
  |none=>rfl
  |some ys=>
   cases hv:x.ev ρ<;>rw[hv]at hx<;>simp only[aS,ic,TI]at hx<;>first|rfl|(simp only[hx];done)|(rename_i t;cases t<;>rfl)|skip
   rename_i r aX lo n;cases lo<;>simp only[hx]
 case slice sz x lo hi=>
  have hx:=hr x (by simp[br]);simp only[cj];cases hv:x.ev ρ<;>rw[hv]at hx<;>simp only[aS,ic,TI]at hx<;>first|rfl|(simp only[gv,hx];done)|(rename_i t;cases t<;>rfl)
 case lookup bB agg z ok x k=>
  have hx:=hr x (by simp[br]);simp only[cj];cases hv:x.ev ρ<;>rw[hv]at hx<;>simp only[aS,ic,TI]at hx<;>first|rfl|(rename_i t;cases t<;>rfl)|(cases KT:pI (k.ev ρ)<;>simp only[jB,hx,KT])
 case mapUpd bB agg x k y=>
  have hx:=hr x (by simp[br]);simp only[cj];cases hv:x.ev ρ<;>rw[hv]at hx<;>simp only[aS,ic,TI]at hx<;>first|rfl|(rename_i t;cases t<;>rfl)|(cases KT:pI (k.ev ρ)<;>simp only[fL,hx,KT])
 case mapEnt bB agg z x k=>
  have hx:=hr x (by simp[br]);simp only[cj];cases hv:x.ev ρ<;>rw[hv]at hx<;>simp only[aS,ic,TI]at hx<;>first|rfl|(rename_i t;cases t<;>rfl)|(cases KT:pI (k.ev ρ)<;>simp only[fM,hx,KT])
 case entSt x s y=>
  have hx:=hr x (by simp[br]);simp only[cj];cases hv:x.ev ρ<;>rw[hv]at hx<;>simp only[aS,ic,TI]at hx<;>first|rfl|(rename_i t;cases t<;>rfl)|(unfold b0;split<;>first|rfl|(rename_i e _;cases e;simp only[hx]))
 case mapDel bB agg x k=>
  have hx:=hr x (by simp[br]);simp only[cj];cases hv:x.ev ρ<;>rw[hv]at hx<;>simp only[aS,ic,TI]at hx<;>first|rfl|(rename_i t;cases t<;>rfl)|(cases KT:pI (k.ev ρ)<;>simp only[fN,hx,KT])
 case lenM x=>
  have hx:=hr x (by simp[br]);simp only[cj];cases hv:x.ev ρ<;>rw[hv]at hx<;>simp only[aS,ic,TI]at hx<;>first|rfl|(simp only[m0,hx];done)|(rename_i t;cases t<;>rfl)
 case rangeM x=>
  have hx:=hr x (by simp[br]);simp only[cj];cases hv:x.ev ρ<;>rw[hv]at hx<;>simp only[aS,ic,TI]at hx<;>first|rfl|(simp only[iG,hx];done)|(rename_i t;cases t<;>rfl)
 case isNil kind neg x=>
  have hx:=hr x (by simp[br]);simp only[cj];cases hv:x.ev ρ<;>rw[hv]at hx<;>simp only[aS,ic,TI]at hx<;>first|rfl|(simp only[ej,hx];done)|(unfold ej;split<;>first|rfl|(rename_i e;cases e))
 case copy sz x y=>
  have hx:=hr x (by simp[br]);have hy:=hr y (by simp[br]);simp only[cj,gJ,uo hy];cases dT ab (y.ev ρ)with
  |none=>rfl
  |some ys=>
   cases hv:x.ev ρ<;>rw[hv]at hx<;>simp only[aS,ic,TI]at hx<;>first|rfl|(simp only[hx];done)|(rename_i t;cases t<;>rfl)
def Uq(h:Ext ab ay)(hr:∀x∈br d,dC ab (x.ev ρ)):cj Γ d name ρ ay=cj Γ d name ρ ab:=
 sW λx hx n hn=>h n (dC.aS _ (hr x hx) n hn)
def lays:mQ->Bool
 |.alloc _|.box _|.mkSlice .. |.mkSliceB .. |.append .. |.mkMap .. |.rangeM _|.callF .. =>true
 |_=>false
def pe{o:Ob}(h:j6 d=3)(hp:(cj Γ d name ρ ab).put=some (r,o)):r=name\/∃x∈br d,r∈aS (x.ev ρ):=by
 cases d<;>first|(simp[j6]at h;done)|skip
 case store n x y=>
  simp only[cj]at hp;unfold jf at hp;split at hp
  ·rename_i hv;split at hp
   ·simp only[bN,l7]at hp;obtain⟨rfl,_⟩:=hp;exact .inr ⟨x,by simp[br],by simp[hv,aS]⟩
   ·cases hp
  ·rename_i hv;split at hp
   ·simp only[bN,l7]at hp;obtain⟨rfl,_⟩:=hp;exact .inr ⟨x,by simp[br],by simp[hv,aS]⟩
   ·cases hp
  ·cases hp
 case append e sz FI x y=>
  simp only[cj]at hp;unfold ff at hp;split at hp
  ·cases hp
  ·split at hp
   ·simp only[bN,l7]at hp;exact .inl hp.1.symm
   ·rename_i hv;split at hp
    ·simp only[bN,l7]at hp;obtain⟨rfl,_⟩:=hp;exact .inr ⟨x,by simp[br],by simp[hv,aS]⟩
    ·cases hp
   ·rename_i hv;split at hp
    ·simp only[bN,l7]at hp;obtain⟨rfl,_⟩:=hp;exact .inr ⟨x,by simp[br],by simp[hv,aS]⟩
    ·cases hp
   ·cases hp
 case copy sz x y=>
  simp only[cj]at hp;unfold gJ at hp;split at hp
  ·cases hp
  ·split at hp
   ·rename_i hv;split at hp
    ·simp only[bN,l7]at hp;obtain⟨rfl,_⟩:=hp;exact .inr ⟨x,by simp[br],by simp[hv,aS]⟩
    ·cases hp
   ·rename_i hv;split at hp
    ·simp only[bN,l7]at hp;obtain⟨rfl,_⟩:=hp;exact .inr ⟨x,by simp[br],by simp[hv,aS]⟩
    ·cases hp
   ·cases hp
 case mapUpd bB agg x k y=>
  simp only[cj]at hp;unfold fL at hp;split at hp
  ·rename_i hv _;split at hp
   ·simp only[bN,l7]at hp;obtain⟨rfl,_⟩:=hp;exact .inr ⟨x,by simp[br],by simp[hv,aS]⟩
   ·cases hp
  ·cases hp
 case mapEnt bB agg z x k=>
  simp only[cj]at hp;unfold fM at hp;split at hp
  ·rename_i hv _;split at hp
   ·simp only[bN,l7]at hp;obtain⟨rfl,_⟩:=hp;exact .inr ⟨x,by simp[br],by simp[hv,aS]⟩
   ·cases hp
  ·cases hp
 case entSt x s y=>
  simp only[cj]at hp;unfold b0 at hp;split at hp
  ·rename_i hv _;split at hp
   ·split at hp
    ·simp only[bN,l7]at hp;obtain⟨rfl,_⟩:=hp;exact .inr ⟨x,by simp[br],by simp[hv,aS]⟩
    ·cases hp
   ·cases hp
  ·cases hp
 case mapDel bB agg x k=>
  simp only[cj]at hp;unfold fN at hp;split at hp
  ·rename_i hv _;split at hp
   ·simp only[bN,l7]at hp;obtain⟨rfl,_⟩:=hp;exact .inr ⟨x,by simp[br],by simp[hv,aS]⟩
   ·cases hp
  ·cases hp
 case rangeM x=>
  simp only[cj]at hp;unfold iG at hp;split at hp
  ·split at hp
   ·simp only[bN,l7]at hp;exact .inl hp.1.symm
   ·cases hp
  ·cases hp
 case callF f xs=>
  simp only[cj]at hp;unfold kQ at hp
  (repeat' split at hp)<;>first|(cases hp;done)|(simp only[bN,l7]at hp;exact .inl hp.1.symm)
def FQ{o:Ob}(h:j6 d=3)(hl:lays d=false)(hp:(cj Γ d name ρ ab).put=some (r,o)):∃x∈br d,r∈aS (x.ev ρ):=by
 cases d<;>first|(simp[j6]at h;done)|(simp[lays]at hl;done)|skip
 case store n x y=>
  simp only[cj]at hp;unfold jf at hp;split at hp
  ·rename_i hv;split at hp
   ·simp only[bN,l7]at hp;obtain⟨rfl,_⟩:=hp;exact⟨x,by simp[br],by simp[hv,aS]⟩
   ·cases hp
  ·rename_i hv;split at hp
   ·simp only[bN,l7]at hp;obtain⟨rfl,_⟩:=hp;exact⟨x,by simp[br],by simp[hv,aS]⟩
   ·cases hp
  ·cases hp
 case copy sz x y=>
  simp only[cj]at hp;unfold gJ at hp;split at hp
  ·cases hp
  ·split at hp
   ·rename_i hv;split at hp
    ·simp only[bN,l7]at hp;obtain⟨rfl,_⟩:=hp;exact⟨x,by simp[br],by simp[hv,aS]⟩
    ·cases hp
   ·rename_i hv;split at hp
    ·simp only[bN,l7]at hp;obtain⟨rfl,_⟩:=hp;exact⟨x,by simp[br],by simp[hv,aS]⟩
    ·cases hp
   ·cases hp
 case mapUpd bB agg x k y=>
  simp only[cj]at hp;unfold fL at hp;split at hp
  ·rename_i hv _;split at hp
   ·simp only[bN,l7]at hp;obtain⟨rfl,_⟩:=hp;exact⟨x,by simp[br],by simp[hv,aS]⟩
   ·cases hp
  ·cases hp
 case mapEnt bB agg z x k=>
  simp only[cj]at hp;unfold fM at hp;split at hp
  ·rename_i hv _;split at hp
   ·simp only[bN,l7]at hp;obtain⟨rfl,_⟩:=hp;exact⟨x,by simp[br],by simp[hv,aS]⟩
   ·cases hp
  ·cases hp
 case entSt x s y=>
  simp only[cj]at hp;unfold b0 at hp;split at hp
  ·rename_i hv _;split at hp
   ·split at hp
    ·simp only[bN,l7]at hp;obtain⟨rfl,_⟩:=hp;exact⟨x,by simp[br],by simp[hv,aS]⟩
    ·cases hp
   ·cases hp
  ·cases hp
 case mapDel bB agg x k=>
  simp only[cj]at hp;unfold fN at hp;split at hp
  ·rename_i hv _;split at hp
   ·simp only[bN,l7]at hp;obtain⟨rfl,_⟩:=hp;exact⟨x,by simp[br],by simp[hv,aS]⟩
   ·cases hp
  ·cases hp
def CD(h:j6 d=0\/j6 d=1):(cj Γ d name ρ ab).put=none:=by
 cases d<;>first|(simp[j6]at h;done)|rfl|skip
 case pick c a b=>simp only[cj];split<;>rfl
 case bslice=>simp only[cj];split<;>rfl
 case load n agg x=>simp only[cj];unfold eE;(repeat' split)<;>rfl
 case bin op x y=>simp only[cj];unfold og;(repeat' split)<;>rfl
 case un op x=>simp only[cj];unfold HI;(repeat' split)<;>rfl
 case conv k x=>simp only[cj];split<;>rfl
 case addOff k x=>simp only[cj];unfold fe;(repeat' split)<;>rfl
 case nilCheck x=>simp only[cj];unfold iF;(repeat' split)<;>rfl
 case idxAddr sz x i=>simp only[cj];unfold mX;(repeat' split)<;>rfl
 case arrAddr n sz x i=>simp only[cj];unfold iw;(repeat' split)<;>rfl
 case field off n agg x=>simp only[cj];unfold kN;(repeat' split)<;>rfl
 case slice sz x lo hi=>simp only[cj];unfold gv;(repeat' split)<;>rfl
 case extract i x=>simp only[cj];unfold mY;(repeat' split)<;>rfl
 case call f xs=>simp only[cj];unfold lF;(repeat' split)<;>rfl
 case callR f xs=>simp only[cj];unfold kP;(repeat' split)<;>rfl
 case len x=>simp only[cj];unfold qj;(repeat' split)<;>rfl
 case lenS x=>simp only[cj];unfold o9;(repeat' split)<;>rfl
 case minmax m x y=>simp only[cj];unfold kD;(repeat' split)<;>rfl
 case lookup=>simp only[cj];unfold jB;(repeat' split)<;>rfl
 case lenM x=>simp only[cj];unfold m0;(repeat' split)<;>rfl
 case isNil=>simp only[cj];unfold ej;(repeat' split)<;>rfl
 case indexS x i=>simp only[cj];unfold kF;(repeat' split)<;>rfl
def Ur{o:Ob}(h:j6 d=2)(hp:(cj Γ d name ρ ab).put=some (r,o)):r=name:=by
 cases d<;>first|(simp[j6]at h;done)|skip
 case alloc z=>simp only[cj,bN,l7]at hp;exact hp.1.symm
 case box x=>simp only[cj,bN,l7]at hp;exact hp.1.symm
 case mkMap=>simp only[cj,bN,l7]at hp;exact hp.1.symm
 case mkSlice e sz FI z n=>
  simp only[cj]at hp;unfold jg at hp;split at hp
  ·simp only[bN,l7]at hp;exact hp.1.symm
  ·cases hp
 case mkSliceB e sz FI z n=>
  simp only[cj]at hp;unfold ef at hp;split at hp
  ·simp only[bN,l7]at hp;exact hp.1.symm
  ·cases hp
def Us{o:Ob}(h:j6 d=3)(hp:(cj Γ d name ρ ab).put=some (r,o)):r=name\/ab r≠none:=by
 cases d<;>first|(simp[j6]at h;done)|skip
 case store n x y=>
  simp only[cj]at hp;unfold jf at hp;split at hp
  ·split at hp
   ·rename_i hc;simp only[bN,l7]at hp;obtain⟨rfl,_⟩:=hp;exact .inr (by simp[hc])
   ·cases hp
  ·split at hp
   ·rename_i hc;simp only[bN,l7]at hp;obtain⟨rfl,_⟩:=hp;exact .inr (by simp[hc])
   ·cases hp
  ·cases hp
 case append e sz FI x y=>
  simp only[cj]at hp;unfold ff at hp;split at hp
  ·cases hp
  ·split at hp
   ·simp only[bN,l7]at hp;exact .inl hp.1.symm
   ·split at hp
    ·rename_i hc;simp only[bN,l7]at hp;obtain⟨rfl,_⟩:=hp;exact .inr (by simp[hc])
    ·cases hp
   ·split at hp
    ·rename_i hc;simp only[bN,l7]at hp;obtain⟨rfl,_⟩:=hp;exact .inr (by simp[hc])
    ·cases hp
   ·cases hp
 case copy sz x y=>
  simp only[cj]at hp;unfold gJ at hp
  (repeat' split at hp)<;>first|(cases hp;done)|(rename_i hc;simp only[bN,l7]at hp;obtain⟨rfl,_⟩:=hp;exact .inr (by simp[hc]))
 case mapUpd=>
  simp only[cj]at hp;unfold fL at hp
  (repeat' split at hp)<;>first|(cases hp;done)|(rename_i hc;simp only[bN,l7]at hp;obtain⟨rfl,_⟩:=hp;exact .inr (by simp[hc]))
 case mapEnt=>
  simp only[cj]at hp;unfold fM at hp
  (repeat' split at hp)<;>first|(cases hp;done)|(rename_i hc;simp only[bN,l7]at hp;obtain⟨rfl,_⟩:=hp;exact .inr (by simp[hc]))
 case entSt=>
  simp only[cj]at hp;unfold b0 at hp
  (repeat' split at hp)<;>first|(cases hp;done)|(rename_i hc _ _ _;simp only[bN,l7]at hp;obtain⟨rfl,_⟩:=hp;exact .inr (by simp_all))
 case mapDel=>
  simp only[cj]at hp;unfold fN at hp
  (repeat' split at hp)<;>first|(cases hp;done)|(rename_i hc;simp only[bN,l7]at hp;obtain⟨rfl,_⟩:=hp;exact .inr (by simp[hc]))
 case rangeM=>
  simp only[cj]at hp;unfold iG at hp
  (repeat' split at hp)<;>first|(cases hp;done)|(simp only[bN,l7]at hp;exact .inl hp.1.symm)
 case callF f xs=>
  simp only[cj]at hp;unfold kQ at hp
  (repeat' split at hp)<;>first|(cases hp;done)|(simp only[bN,l7]at hp;exact .inl hp.1.symm)
def N6{o:Ob}(h:j6 d=3)(hl:lays d=false)(hp:(cj Γ d name ρ ab).put=some (r,o)):ab r≠none:=by
 cases d<;>first|(simp[j6]at h;done)|(simp[lays]at hl;done)|skip
 all_goals simp only[cj]at hp
 case store=>unfold jf at hp;(repeat' split at hp)<;>first|(cases hp;done)|(rename_i hc;simp only[bN,l7]at hp;obtain⟨rfl,_⟩:=hp;simp[hc])
 case copy=>unfold gJ at hp;(repeat' split at hp)<;>first|(cases hp;done)|(rename_i hc;simp only[bN,l7]at hp;obtain⟨rfl,_⟩:=hp;simp[hc])
 case mapUpd=>unfold fL at hp;(repeat' split at hp)<;>first|(cases hp;done)|(rename_i hc;simp only[bN,l7]at hp;obtain⟨rfl,_⟩:=hp;simp[hc])
 case mapEnt=>unfold fM at hp;(repeat' split at hp)<;>first|(cases hp;done)|(rename_i hc;simp only[bN,l7]at hp;obtain⟨rfl,_⟩:=hp;simp[hc])
 case entSt=>unfold b0 at hp;(repeat' split at hp)<;>first|(cases hp;done)|(simp only[bN,l7]at hp;obtain⟨rfl,_⟩:=hp;simp_all)
 case mapDel=>unfold fN at hp;(repeat' split at hp)<;>first|(cases hp;done)|(rename_i hc;simp only[bN,l7]at hp;obtain⟨rfl,_⟩:=hp;simp[hc])
end
end
section
variable{r:RO}{st:RS}{ρ:cQ}{d:mQ}{ab:bA}
variable [bh] [cG]
def FR:be->Option Nat
 |.tmp t=>some t
 |.eD _=>none
def vk(r:RO):bY:=(br r.d).filterMap FR++(r.guard.map (·.1)).toList
def We:be->Bool
 |.tmp _=>true
 |.eD (.v _)|.eD .aF|.eD (.gq _ _)=>true
 |_=>false
def oH(r:RO):Bool:=(br r.d).all We
def fI(x y:RO):Bool:=match x.dst with|some d=> !(vk y).contains d|none=>true
def lG(x y:RO):Bool:=match x.dst,y.dst with|some a,some b=>a !=b|_,_=>true
def FT(a b:Nat):Bool:=((a==3&&(b==1||b==3))||(b==3&&a==1))||((a==4&&b !=0)||(b==4&&a !=0))
def uZ(x y:Option (bY)):Bool:=match x,y with|some a,some b=>a.all λn=>b.all λm=>n !=m|_,_=>false
def Wf(a b:Nat):Bool:=(a !=4||b==1)&&(b !=4||a==1)
def Wg:mQ->Bool
 |.callF .. =>true
 |_=>false
def N7(a b:mQ):Bool:=(Wg a&&j6 b==1)||(Wg b&&j6 a==1)
def ii(x y:RO):Bool:=
 fI x y&&fI y x&&lG x y&&(!FT (j6 x.d) (j6 y.d)||(uZ x.gQ y.gQ&&Wf (j6 x.d) (j6 y.d))||N7 x.d y.d)
def ek(r:RO):Bool:= !lays r.d||r.dst.isSome
section
variable{Γ:gP}{az:Nat}
def wA(st:RS):Prop:=∀t,dC st.ab (st.tmps t)
def nm(az:Nat)(r:RO):Nat:=bm az r.dst
def HW(az:Nat)(r:RO)(st:RS):Prop:=r.dst.isSome=true->st.ab (nm az r)=none
def vm{t:Nat}{o:Ob}(hp:(kw Γ az r st).put=some (t,o)):(t=nm az r/\lays r.d=true)\/(st.ab t≠none/\j6 r.d=3):=by
 unfold kw at hp;by_cases h0:j6 r.d=0\/j6 r.d=1
 ·rw[CD h0]at hp;cases hp
 ·by_cases h2:j6 r.d=2
  ·refine .inl ⟨Ur h2 hp, ?_⟩;cases hd:r.d<;>rw[hd]at h2<;>first|rfl|(simp[j6]at h2;done)
  ·have h3:j6 r.d=3:=by
    cases hd:r.d<;>rw[hd]at h0 h2<;>first|(simp_all [j6];done)|(rw[hd]at hp;simp[cj,cb]at hp)
   cases hl:lays r.d with
   |true=>
    rcases Us h3 hp with h|h
    ·exact .inl ⟨h,rfl⟩
    ·exact .inr ⟨h,h3⟩
   |false=>exact .inr ⟨N6 h3 hl hp,h3⟩
def abn{x:be}{dst:Option Nat}{v:DV}(h:∀d,dst=some d->FR x≠some d):x.ev (bW ρ dst v)=x.ev ρ:=by
 cases x with
 |eD d=>rfl
 |tmp t=>
  cases dst with
  |none=>rfl
  |some d=>
   have:=h d rfl;simp only[FR,ne_eq,bN]at this;simp[be.ev,bW,this]
def uq{x y:RO}(h:fI x y=true){d:Nat}(hd:x.dst=some d):d∉vk y:=by
 simp only[fI,hd]at h;simpa using h
def rG{x y:RO}(h:fI x y=true)(ρ:cQ)(v:DV):dY y.guard (bW ρ x.dst v)=dY y.guard ρ:=by
 cases hg:y.guard with
 |none=>rfl
 |some g=>
  obtain⟨s,iY⟩:=g;cases hd:x.dst with
  |none=>rfl
  |some d=>
   have hn:=uq h hd;have:s≠d:=λe=>hn (by simp[vk,hg,e]);simp[dY,bW,this]
def mE{x y:RO}(h1:fI x y=true)(ρ:cQ)(v:DV):∀o∈br y.d,o.ev (bW ρ x.dst v)=o.ev ρ:=λo ho=>abn λd hd hs=>by
  have:=uq h1 hd;exact this (by simp only[vk,dP,List.mem_filterMap];exact .inl ⟨o,ho,hs⟩)
def lH{x y:RO}(h1:fI x y=true)(ρ:cQ)(v:DV):cL y (bW ρ x.dst v)↔cL y ρ:=by
 unfold cL;cases y.gQ with
 |none=>rfl
 |some l=>
  constructor
  ·intro h o ho n hn;exact h o ho n (by rw[mE h1 ρ v o ho];exact hn)
  ·intro h o ho n hn;exact h o ho n (by rw[mE h1 ρ v o ho]at hn;exact hn)
def mF{x y:RO}(hd:uZ x.gQ y.gQ=true)(tx:cL x ρ)(ty:cL y ρ){o p:be}(ho:o∈br x.d)(hp:p∈br y.d){n:Nat}(h1:n∈aS (o.ev ρ))(h2:n∈aS (p.ev ρ)):False:=by
 unfold uZ at hd;unfold cL at tx ty;cases hx:x.gQ with
 |none=>simp[hx]at hd
 |some a=>
  cases hy:y.gQ with
  |none=>simp[hx,hy]at hd
  |some b=>
   simp only[hx,hy]at hd tx ty;have:=yJ.1 (yJ.1 hd n (tx o ho n h1)) n (ty p hp n h2);simp at this
def nc{x:RO}{t:Nat}{o:Ob}(Hh:j6 x.d=3)(MM:ek x=true)(wC:x.dst.isSome=true->False)
  (u0:(cj Γ x.d (bm az x.dst) st.tmps st.ab).put=some (t,o)) (h5:t=bm az x.dst) {C:Prop} (k:∀a∈br x.d,t∈aS (a.ev st.tmps)->C):C:=by
 cases hdx:x.dst with
 |some d=>exact(wC (by simp[hdx])).elim
 |none=>
  have:lays x.d=false:=by simpa [ek,hdx]using MM
  obtain⟨a,ha,hn⟩:=FQ Hh this u0;exact k a ha hn
def N8{y:RO}(EM:oH y=true)(hR:wA st):∀o∈br y.d,dC st.ab (o.ev st.tmps):=λo ho=>by
 have:=yJ.1 EM o ho;cases o with
 |tmp t=>exact hR t
 |eD d=>cases d<;>first|(simp[We]at this;done)|simp[be.ev,dC]
def Ut:j6 d≠4↔mR d=false:=by cases d<;>simp[j6,mR]
def FU{N5:cQ}{todo:List (ar)}(h:∀x∈br d,x.ev ρ=x.ev N5):ku Γ d ρ ab todo=ku Γ d N5 ab todo:=by
 cases d<;>first|rfl|skip
 case callS f xs=>simp only[ku,gK (xs:=xs) h]
 case entryM x=>simp only[ku,h x (by simp[br])]
 case callv x xs=>
  have h1:=h x (by simp[br]);have h2:=gK (xs:=xs) (λy hy=>h y (by simp[br,hy]));simp only[ku,h1,h2]
def K8{f:FuncId}{xs:List be}{name:Nat}{t:Nat}{o:Ob}(h:(cj Γ (.callF f xs) name ρ ab).put=some (t,o)):t=name:=by
 simp only[cj,kQ]at h
 (repeat' split at h)<;>simp_all [cb]
def K9{x y:RO}(hi:ii x y=true)(Fd:mR x.d=false)(wD:mR y.d=false)(EM:oH y=true)(MM:ek x=true)(hR:wA st)(hf:HW az x st)(v:DV)(td:List (ar))(ty:cL y st.tmps){p:Option (Nat×Ob)}(hp:p=none\/(p=(kw Γ az x st).put/\cL x st.tmps)):
  kw Γ az y ⟨bW st.tmps x.dst v,bQ st.ab p,td⟩=kw Γ az y st:=by
 simp only[ii,iS,Fm,QK]at hi;obtain⟨⟨⟨h1,h2⟩,h3⟩,h4⟩:=hi;have E1:=mE h1 st.tmps v;have ahI:=N8 EM hR;unfold kw;simp only;rw[sV E1];rcases hp with rfl|⟨rfl,tx⟩
 ·rfl
 ·cases u0:(kw Γ az x st).put with
  |none=>rfl
  |some q=>
   obtain⟨t,o⟩:=q;by_cases hy:j6 y.d=0\/j6 y.d=2
   ·exact wy hy
   ·rcases vm u0 with⟨rfl,hl⟩|⟨cZ,Hh⟩
    ·refine Uq (λr hr=>?_) ahI;have Er:x.dst.isSome=true:=by simpa [ek,hl]using MM
     have rF:=hf Er;simp only[bQ];rw[mL];rintro rfl;exact hr rF
    ·rcases h4 with(h4|h4)|h4
     ·exfalso;have:j6 y.d=1\/j6 y.d=3:=by
       have:=Ut.2 wD;cases hd:y.d<;>rw[hd]at hy this<;>simp_all [j6]
      rcases this with h|h<;>simp[Hh,h,FT]at h4
     ·refine sW λp hp n hn=>?_;simp only[bQ];rw[mL];rintro rfl;unfold kw at u0;rcases pe Hh u0 with h5|⟨o',jM,wt⟩
      ·exact nc Hh MM (λe=>cZ (by rw[show n=nm az x from h5];exact hf e)) u0 h5 (λa ha wt=>mF h4.1 tx ty ha hp wt hn)
      ·exact mF h4.1 tx ty jM hp wt hn
     ·exfalso;unfold N7 at h4;rw[Hh]at h4;have h5:Wg x.d=true:=by
       cases hF:Wg x.d
       ·rw[hF]at h4;simp at h4
       ·rfl
      have h6:lays x.d=true:=by
       cases hd:x.d<;>rw[hd]at h5<;>first|rfl|(simp[Wg]at h5;done)
      have h7:=hf (by simpa [ek,h6]using MM);have h8:t=nm az x:=by
       unfold kw at u0;cases hd:x.d<;>rw[hd]at h5 u0<;>first|(simp[Wg]at h5;done)|skip
       exact K8 u0
      rw[h8]at cZ;exact cZ h7
def N9{x y:RO}(hi:ii x y=true)(h4:mR x.d=true):j6 y.d=0\/(j6 y.d=1/\uZ x.gQ y.gQ=true):=by
 have c4:j6 x.d=4:=by cases hx:x.d<;>rw[hx]at h4<;>simp_all [j6,mR]
 simp only[ii,iS,Fm,QK]at hi;rcases hi.2 with(h|h)|h
 ·simp[FT,c4]at h;exact .inl h.1
 ·simp[Wf,c4]at h;exact .inr ⟨h.2.1,h.1⟩
 ·exfalso;have:Wg x.d=false:=by cases hx:x.d<;>rw[hx]at h4<;>simp_all [Wg,mR]
  simp[N7,this,c4]at h
def La(a b:Nat):FT a b=FT b a:=by
 unfold FT;cases a==3<;>cases b==3<;>cases a==1<;>cases b==1<;>cases a==4<;>cases b==4<;>cases a !=0<;>cases b !=0<;>rfl
def wE{x y:RO}(h:lG x y=true):lG y x=true:=by
 unfold lG at h⊢;cases hx:x.dst<;>cases hy:y.dst<;>simp_all
 exact λe=>h e.symm
def Lb(a b:Option (bY)):uZ a b=uZ b a:=by
 cases a with
 |none=>cases b<;>rfl
 |some a=>
  cases b with
  |none=>rfl
  |some b=>
   rw[VV];simp only[uZ,yJ,Zdm,ne_eq];exact⟨λh n hn m hm e=>h m hm n hn e.symm,λh n hn m hm e=>h m hm n hn e.symm⟩
def qu{x y:RO}(h:ii x y=true):ii y x=true:=by
 simp only[ii,iS]at h⊢;refine⟨⟨⟨h.1.1.2,h.1.1.1⟩,wE h.1.2⟩, ?_⟩;rw[La,Lb];have:=h.2;simp only[QK,iS]at this⊢;rcases this with(h|h)|h
 ·exact .inl (.inl h)
 ·refine .inl (.inr ⟨h.1, ?_⟩);simp only[Wf,iS]at h⊢;exact⟨h.2.2,h.2.1⟩
 ·refine .inr ?_;unfold N7 at h⊢;rw[Bool.or_comm];exact h
def vp(Γ:gP)(az:Nat)(r:RO)(st:RS):DV×Option (Nat×Ob):=
 match dY r.guard st.tmps with
 |some true=>((kw Γ az r st).val,(kw Γ az r st).put)
 |_=>(.skip,none)
def yj(Γ:gP)(r:RO)(st:RS):DV×bA×List (ar):=
 match dY r.guard st.tmps with
 |some true=>((ku Γ r.d st.tmps st.ab st.todo).val,(ku Γ r.d st.tmps st.ab st.todo).ab,(ku Γ r.d st.tmps st.ab st.todo).todo)
 |_=>(.skip,st.ab,st.todo)
def jN(h4:mR r.d=false)(h:bT Γ az r st):cR Γ az r st=⟨bW st.tmps r.dst (vp Γ az r st).1,bQ st.ab (vp Γ az r st).2,st.todo⟩:=by
 unfold bT at h;unfold cR vp;cases hw:dY r.guard st.tmps with
 |none=>rw[hw]at h;exact h.elim
 |some b=>cases b<;>simp[post,h4,bQ]
def oI(h4:mR r.d=true)(h:bT Γ az r st):cR Γ az r st=⟨bW st.tmps r.dst (yj Γ r st).1,(yj Γ r st).2.1,(yj Γ r st).2.2⟩:=by
 unfold bT at h;unfold cR yj;cases hw:dY r.guard st.tmps with
 |none=>rw[hw]at h;exact h.elim
 |some b=>cases b<;>simp[post,h4]
def AJ(r:RO)(st:RS):(vp Γ az r st).2=none\/(vp Γ az r st).2=(kw Γ az r st).put:=by
 unfold vp;split
 ·exact .inr rfl
 ·exact .inl rfl
def AK(h0:j6 r.d=0\/j6 r.d=1):(vp Γ az r st).2=none:=by
 rcases AJ (Γ:=Γ) (az:=az) r st with h|h
 ·exact h
 ·rw[h];exact CD h0
def ne(h:bT Γ az r st):(vp Γ az r st).2=none\/((vp Γ az r st).2=(kw Γ az r st).put/\cL r st.tmps):=by
 unfold bT at h;unfold vp;cases hw:dY r.guard st.tmps with
 |none=>rw[hw]at h;exact h.elim
 |some b=>
  cases b with
  |false=>exact .inl rfl
  |true=>rw[hw]at h;exact .inr ⟨rfl,h.2.1⟩
def Lc(h:j6 d=0):mR d=false:=Ut.1 (by rw[h];decide)
def FV{x y:RO}(ha:fI x y=true)(h0:j6 y.d=0)(v:DV)(ay:bA)(td:List (ar)):
  vp Γ az y ⟨bW st.tmps x.dst v,ay,td⟩=vp Γ az y st/\(bT Γ az y ⟨bW st.tmps x.dst v,ay,td⟩↔bT Γ az y st):=by
 have hw:dY y.guard (bW st.tmps x.dst v)=dY y.guard st.tmps:=rG ha _ _;have ht:=lH (y:=y) ha st.tmps v;have he:kw Γ az y ⟨bW st.tmps x.dst v,ay,td⟩=kw Γ az y st:=by
  unfold kw;simp only;rw[sV (mE ha st.tmps v)];exact wy (.inl h0)
 refine⟨?_, ?_⟩
 ·unfold vp;simp only[hw,he]
 ·unfold bT post oE;simp only[hw,he,ht,Lc h0,TP,Lg,Zdn]
def FW{x y:RO}(ha:fI x y=true)(h1:j6 y.d=1)(hd:uZ x.gQ y.gQ=true)(v:DV)(ay:bA)(td:List (ar))(hk:∀l,x.gQ=some l->∀n,n∉l->ay n=st.ab n)
  (oy:bT Γ az y st\/bT Γ az y ⟨bW st.tmps x.dst v,ay,td⟩):
  vp Γ az y ⟨bW st.tmps x.dst v,ay,td⟩=vp Γ az y st/\bT Γ az y ⟨bW st.tmps x.dst v,ay,td⟩/\bT Γ az y st:=by
 have hw:dY y.guard (bW st.tmps x.dst v)=dY y.guard st.tmps:=rG ha _ _;have ht:=lH (y:=y) ha st.tmps v;have wD:mR y.d=false:=Ut.1 (by rw[h1];decide);have he:cL y st.tmps->kw Γ az y ⟨bW st.tmps x.dst v,ay,td⟩=kw Γ az y st:=λty=>by
  unfold kw;simp only;rw[sV (mE ha st.tmps v)];refine sW λp hp n hn=>?_;unfold uZ at hd;unfold cL at ty;cases hx:x.gQ with
  |none=>simp[hx]at hd
  |some a=>
   cases hyt:y.gQ with
   |none=>simp[hx,hyt]at hd
   |some b=>
    simp only[hx,hyt]at hd ty;refine hk a hx n λhna=>?_;have:=yJ.1 (yJ.1 hd n hna) n (ty p hp n hn);simp at this
 unfold bT post oE at oy⊢;unfold vp;simp only[hw,ht,wD,TP,Lg,Zdn,QM]at oy⊢;cases hb:dY y.guard st.tmps with
 |none=>simp only[hb,or_self]at oy
 |some b=>
  cases b with
  |false=>simp
  |true=>
   simp only[hb]at oy⊢;have ty:cL y st.tmps:=by rcases oy with h|h<;>exact h.2
   have he:=he ty;simp only[he]at oy⊢;have:=oy.elim id id;exact⟨trivial,this,this⟩
def Oa{x:RO}(h4:mR x.d=true)(ox:bT Γ az x st):∀l,x.gQ=some l->∀n,n∉l->(yj Γ x st).2.1 n=st.ab n:=by
 unfold bT post oE at ox;unfold yj;intro l hl n hn;cases hb:dY x.guard st.tmps with
 |none=>simp[hb]at ox
 |some b=>
  cases b with
  |false=>rfl
  |true=>
   simp only[hb,h4,yh]at ox;exact ox.2.2 trivial l hl n hn
def Oc{x y:RO}(hi:ii x y=true)(h4:mR x.d=true)(ox:bT Γ az x st)(oy:bT Γ az y st\/bT Γ az y ⟨bW st.tmps x.dst (yj Γ x st).1,(yj Γ x st).2.1,(yj Γ x st).2.2⟩):
  vp Γ az y ⟨bW st.tmps x.dst (yj Γ x st).1,(yj Γ x st).2.1,(yj Γ x st).2.2⟩=vp Γ az y st/\bT Γ az y ⟨bW st.tmps x.dst (yj Γ x st).1,(yj Γ x st).2.1,(yj Γ x st).2.2⟩/\bT Γ az y st/\(j6 y.d=0\/j6 y.d=1):=by
 have ha:fI x y=true:=by simp only[ii,iS]at hi;exact hi.1.1.1
 rcases N9 hi h4 with h|⟨h,hd⟩
 ·obtain⟨e1,e2⟩:=FV (Γ:=Γ) (az:=az) (st:=st) ha h (yj Γ x st).1 (yj Γ x st).2.1 (yj Γ x st).2.2;have:=oy.elim id e2.1;exact⟨e1,e2.2 this,this,.inl h⟩
 ·obtain⟨e1,e2,e3⟩:=FW ha h hd _ _ _ (Oa h4 ox) oy;exact⟨e1,e2,e3,.inr h⟩
def after{x y:RO}(hi:ii x y=true)(Fd:mR x.d=false)(wD:mR y.d=false)(EM:oH y=true)(MM:ek x=true)(hR:wA st)(hf:HW az x st)(ox:bT Γ az x st)(oy:bT Γ az y st\/bT Γ az y (cR Γ az x st)):
  vp Γ az y (cR Γ az x st)=vp Γ az y st/\bT Γ az y (cR Γ az x st)/\bT Γ az y st:=by
 rw[jN Fd ox]at oy⊢;have ha:fI x y=true:=by simp only[ii,iS]at hi;exact hi.1.1.1
 have hw:dY y.guard (bW st.tmps x.dst (vp Γ az x st).1)=dY y.guard st.tmps:=rG ha _ _;have ht:=lH (y:=y) ha st.tmps (vp Γ az x st).1;have he:cL y st.tmps->_:=λty=>K9 (Γ:=Γ) hi Fd wD EM MM hR hf (vp Γ az x st).1 st.todo ty (ne ox);generalize vp Γ az x st=q at oy hw ht he⊢;unfold bT post oE at oy⊢;unfold vp;simp only[hw,ht,wD,TP,Lg,Zdn,QM]at oy⊢;cases hb:dY y.guard st.tmps with
 |none=>simp only[hb,or_self]at oy
 |some b=>
  cases b with
  |false=>simp
  |true=>
   simp only[hb]at oy⊢;have ty:cL y st.tmps:=by rcases oy with h|h<;>exact h.2
   have he:=he ty;simp only[he]at oy⊢;have:=oy.elim id id;exact⟨trivial,this,this⟩
def sX{x y:RO}(h3:lG x y=true)(f:cQ)(u v:DV):bW (bW f x.dst u) y.dst v=bW (bW f y.dst v) x.dst u:=by
 funext t;cases hx:x.dst<;>cases hy:y.dst<;>simp only[bW]
 rename_i d e;have Sl:d≠e:=by simpa [lG,hx,hy]using h3
 by_cases h1:t=d<;>by_cases h2:t=e<;>simp_all
def Od{x y:RO}(ha:fI y x=true)(v:DV):yj Γ x ⟨bW st.tmps y.dst v,st.ab,st.todo⟩=yj Γ x st/\(mR x.d=true->(bT Γ az x ⟨bW st.tmps y.dst v,st.ab,st.todo⟩↔bT Γ az x st)):=by
 have hw:dY x.guard (bW st.tmps y.dst v)=dY x.guard st.tmps:=rG ha _ _;have ht:=lH (y:=x) ha st.tmps v;have hs:ku Γ x.d (bW st.tmps y.dst v) st.ab st.todo=ku Γ x.d st.tmps st.ab st.todo:=FU (mE ha st.tmps v);refine⟨?_,λh4=>?_⟩
 ·unfold yj;simp only[hw,hs]
 ·unfold bT post;simp only[hw,hs,ht,h4,yh]
theorem swap{x y:RO}{st:RS}(hi:ii x y=true)(QJ:oH x=true)(EM:oH y=true)(MM:ek x=true)(Wh:ek y=true)(hR:wA st)(hfx:HW az x st)(Su:HW az y st)
  (ox:bT Γ az x st) (oy:bT Γ az y (cR Γ az x st)):
  bT Γ az y st/\bT Γ az x (cR Γ az y st)/\cR Γ az y (cR Γ az x st)=cR Γ az x (cR Γ az y st):=by
 have vG:=hi;simp only[ii,iS]at vG;obtain⟨⟨⟨h1,h2⟩,h3⟩,h4⟩:=vG;by_cases Fd:mR x.d=true
 ·rw[oI Fd ox]at oy⊢;obtain⟨e1,_,Oe,y0⟩:=Oc hi Fd ox (.inr oy);have wD:mR y.d=false:=Ut.1 (by rcases y0 with h|h<;>rw[h]<;>decide)
  rw[jN wD oy,jN wD Oe,e1,AK y0];obtain⟨e3,e4⟩:=Od (Γ:=Γ) (az:=az) (x:=x) (y:=y) (st:=st) h2 (vp Γ az y st).1;have Uu:=(e4 Fd).2 ox;refine⟨Oe,Uu, ?_⟩;simp only[bQ]at Uu⊢;rw[oI Fd Uu,e3];simp only;rw[sX h3]
 ·have Fd:mR x.d=false:=by simpa using Fd
  by_cases wD:mR y.d=true
  ·have x0:j6 x.d=0\/j6 x.d=1:=by
    rcases N9 (qu hi) wD with h|⟨h,_⟩
    ·exact .inl h
    ·exact .inr h
   rw[jN Fd ox,AK x0]at oy⊢;simp only[bQ]at oy⊢;obtain⟨e3,e4⟩:=Od (Γ:=Γ) (az:=az) (x:=y) (y:=x) (st:=st) h1 (vp Γ az x st).1;have Oe:=(e4 wD).1 oy;rw[oI wD oy,oI wD Oe,e3];obtain⟨e1,Uu,_,_⟩:=Oc (qu hi) wD Oe (.inl ox);refine⟨Oe,Uu, ?_⟩;rw[jN Fd Uu,e1,AK x0];simp only[bQ];rw[sX h3]
  ·have wD:mR y.d=false:=by simpa using wD
   have a1:=after (Γ:=Γ) hi Fd wD EM MM hR hfx ox (.inr oy);have Oe:=a1.2.2;have a2:=after (Γ:=Γ) (qu hi) wD Fd QJ Wh hR Su Oe (.inl ox);have Uu:=a2.2.1;refine⟨Oe,Uu, ?_⟩;have tx:=ne ox;have ty:=ne Oe;rw[jN wD oy,jN Fd Uu,a1.1,a2.1,jN Fd ox,jN wD Oe]
   congr 1
   ·exact sX h3 _ _ _
   ·funext t;cases hx:(vp Γ az x st).2 with
    |none=>cases(vp Γ az y st).2<;>rfl
    |some p=>
     cases hy:(vp Γ az y st).2 with
     |none=>rfl
     |some q=>
      obtain⟨t1,o1⟩:=p;obtain⟨t2,o2⟩:=q;have e1:=vm (((AJ (Γ:=Γ) (az:=az) x st).resolve_left (by simp[hx])).symm.trans hx);have e2:=vm (((AJ (Γ:=Γ) (az:=az) y st).resolve_left (by simp[hy])).symm.trans hy);have cZ:t1≠t2:=by
       rcases e1 with⟨rfl,l1⟩|⟨n1,c1⟩<;>rcases e2 with⟨rfl,l2⟩|⟨n2,c2⟩
       ·have s1:x.dst.isSome=true:=by simpa [ek,l1]using MM
        have s2:y.dst.isSome=true:=by simpa [ek,l2]using Wh
        obtain⟨d1,Ld⟩:=TJ.1 s1;obtain⟨d2,Hi⟩:=TJ.1 s2;have:d1≠d2:=by simpa [lG,Ld,Hi]using h3
        simp[nm,bm,Ld,Hi,this]
       ·rintro rfl;exact n2 (hfx (by simpa [ek,l1]using MM))
       ·rintro rfl;exact n1 (Su (by simpa [ek,l2]using Wh))
       ·simp only[QK,iS]at h4;rcases h4 with(h4|h4)|h4
        ·simp[FT,c1,c2]at h4
        ·rintro rfl;have p1:=(tx.resolve_left (by simp[hx])).1.symm.trans hx;have p2:=(ty.resolve_left (by simp[hy])).1.symm.trans hy;have q1:=(tx.resolve_left (by simp[hx])).2;have q2:=(ty.resolve_left (by simp[hy])).2;unfold kw at p1 p2;rcases pe c1 p1 with h5|⟨o,ho,hn⟩
         ·exact nc c1 MM (λe=>n1 (by rw[show t1=nm az x from h5];exact hfx e)) p1 h5 (λo ho hn=>by
           rcases pe c2 p2 with h6|⟨o',jM,wt⟩
           ·exact nc c2 Wh (λe=>n2 (by rw[show t1=nm az y from h6];exact Su e)) p2 h6 (λo' jM wt=>mF h4.1 q1 q2 ho jM hn wt)
           ·exact mF h4.1 q1 q2 ho jM hn wt)
         ·rcases pe c2 p2 with h6|⟨o',jM,wt⟩
          ·exact nc c2 Wh (λe=>n2 (by rw[show t1=nm az y from h6];exact Su e)) p2 h6 (λo' jM wt=>mF h4.1 q1 q2 ho jM hn wt)
          ·exact mF h4.1 q1 q2 ho jM hn wt
        ·simp[N7,c1,c2]at h4
      simp only[bQ];by_cases h1:t=t1<;>by_cases h2:t=t2<;>simp_all
end
end
section
variable{ops:Array Oper}{r:RO}{st:RS}{Q:Exit->Act->World->Prop}{rs:ah}{id:Nat}{listed:Array Bool}
variable [bh] [cG]
def vn(ops:Array Oper)(o:Oper):Option (Option (Nat×Bool)):=
 match o.guard with
 |none=>some none
 |some (j,b)=>((ops[j]?).bind (·.dst)).map λs=>some (s,b)
def dp(P:Program)(ops:Array Oper)(o:Oper):Option RO:=do
 let d<-cy P o
 let g<-vn ops o
 pure ⟨d,o.dst,g,(o.after.toList.filter (Region.binds .any ·)).map (·.on),none⟩
def bare(r:RO):RO:=⟨um r.d,r.dst,r.guard,r.after,none⟩
def eo(P:Program)(ops:Array Oper):Option (ah):=ops.toList.mapM (dp P ops)
def gD(Γ:gP)(az:Nat):ah->RS->Prop
 |[],_=>True
 |r::rs,st=>bT Γ az r st/\gD Γ az rs (cR Γ az r st)
def cO(Γ:gP)(az:Nat):ah->RS->RS
 |[],st=>st
 |r::rs,st=>cO Γ az rs (cR Γ az r st)
def ky(nt:Nat)(r:RO):Bool:=oH r&&ek r&&(match r.dst with|some d=>decide (d<nt)|none=>true)
def dV:ah->Bool
 |[]=>true
 |r::rs=>rs.all (lG r)&&dV rs
def kW(dw:bY)(as:bY):Nat:=as.foldl (λm j=>m|||(1<<<j)|||dw.getD j 0) 0
def jY(rs:ah):bY:=rs.foldl (λdw r=>dw++[kW dw r.after]) []
def pg(rs:ah)(ms:bY):Bool:=
 (List.range rs.length).all λi=>match rs[i]?,ms[i]? with
  |some y,some m=>y.after.all (·<i)&&(List.range i).all λx=>m.testBit x||(match rs[x]? with|some r=>ii r y|none=>false)
  |_,_=>false
def dd(nt:Nat)(fJ:Bool)(rs:ah):Bool:=rs.all (ky nt)&&dV rs&&(!fJ||pg rs (jY rs))
section
variable{P:Program}{κ:kS}{nt:Nat}{Γ:gP}{az:Nat}{ro:Option Nat}{n:Nat}
def Uv{o:Oper}{a:Act}{w:World}{K:Act->World->Prop}(h:o.wpIn (gR ro) n P a w K (λ_ _ _=>False)):∃a w,K a w:=by
 have h:=h.2;generalize (o.semAt (gR ro).round a.eval).run P w=r at h;cases r with
 |ok x w'=>
  cases x<;>simp only[Oper.uponIn]at h
  case value v=>exact⟨_,_,h⟩
  case skip=>exact⟨_,_,h⟩
  case defer d=>exact⟨_,_,h⟩
  case enter f args=>
   obtain⟨_,_,hc⟩:=h;obtain⟨e,w2,fr,hR,_⟩:=hc [] (λd hd=>by cases hd);cases e with
   |returned v=>exact⟨_,_,hR⟩
   |panicked c=>exact hR.elim
   |outgrown=>obtain⟨_,_,hf⟩:=hR;exact hf.elim
  case row r args=>
   obtain⟨_,hc⟩:=h;obtain⟨v,w2,hR,_⟩:=hc default [] (λd hd=>by cases hd);exact⟨_,_,hR⟩
  case round l f t as b=>
   obtain⟨_,_,hc⟩:=h;obtain⟨e,w2,hR,_⟩:=hc default [] (λd hd=>by cases hd);cases e with
   |returned v=>exact⟨_,_,hR⟩
   |panicked c=>exact hR.elim
   |outgrown=>obtain⟨_,_,hf⟩:=hR;exact hf.elim
 |halt x w'=>cases x<;>simp only[Oper.uponIn]at h
def im{o:Oper}(h:dp P ops o=some (bare r)):cy P o=some (um r.d)/\vn ops o=some r.guard/\r.dst=o.dst/\r.after=(o.after.toList.filter (Region.binds .any ·)).map (·.on):=by
 simp only[dp,I7,gV,fO,bN]at h;obtain⟨d,hd,g,hg,he⟩:=h;obtain⟨d',ds,gd,af,tc⟩:=r;simp only[bare,RO.mk.injEq,QM]at he;obtain⟨rfl,rfl,rfl,rfl⟩:=he;exact⟨hd,hg,rfl,rfl⟩
def y9{o:Oper}{a:Act}{w:World}{L:Loc}(hg:vn ops o=some r.guard)(h:dL κ nt st a w L){b:Bool}(hw:dY r.guard st.tmps=some b):
  Region.wanted o (yielded ops a.tmps)=b:=by
 unfold vn at hg;cases ho:o.guard with
 |none=>
  rw[ho]at hg;simp only[bN]at hg;rw[<-hg]at hw;simp only[dY,bN]at hw;simp[Region.wanted,ho,hw]
 |some jb=>
  obtain⟨j,iY⟩:=jb;rw[ho]at hg;simp only[fE]at hg;obtain⟨s,hs,pJ⟩:=hg;rw[<-pJ]at hw;simp only[dY]at hw;obtain⟨W,base,M,w0,_,h0⟩:=h.ex;have eZ:=h0.tmps s;simp only[Region.wanted,ho,yielded,hs,Hc];split at hw
  ·rename_i x hx;rw[hx]at eZ;simp only[ap,aO]at eZ;simp only[bN]at hw;have:a.tmps[s]? =some (.bool x):=by
    rw[BY]at eZ;cases he:a.tmps[s]? with
    |none=>rw[he]at eZ;simp[Go.undef]at eZ
    |some y=>rw[he]at eZ;simpa using eZ
   rw[this,<-hw];simp
  ·rename_i hx;rw[hx]at eZ;simp only[ap]at eZ;simp only[bN]at hw;subst hw;rw[BY]at eZ;cases he:a.tmps[s]? with
   |none=>simp
   |some y=>
    rw[he]at eZ;simp only[TB]at eZ;subst eZ;simp[Go.undef]
  ·cases hw
def oJ(am:au P Γ)(uY:κ.uX P){i:Nat}{o:Oper}(ho:ops[i]? =some o)(hr:dp P ops o=some (bare r))(FP:ky nt r=true){a:Act}{w:World}{L:Loc}(h:dL κ nt st a w L)
  (dj:st.ab (nm az r)=none) (aB:bT Γ az r st) {K:Act->World->Prop} (hK:∀a' w' L',dL κ nt (cR Γ az r st) a' w' L'->K a' w'):
  wpOpIn (gR ro) n P ops Q i K a w:=by
 obtain⟨hd,hg,iW,_⟩:=im hr;have Fe:∀d,r.dst=some d->d<nt:=by
  intro d hd;simp only[ky,hd,iS,o5]at FP;exact FP.2
 unfold wpOpIn;simp only[ho];unfold bT at aB;unfold cR at hK;cases hw:dY r.guard st.tmps with
 |none=>rw[hw]at aB;exact aB.elim
 |some b=>
  rw[hw]at aB hK;rw[y9 hg h hw];cases b with
  |true=>
   simp only[yh]at aB hK⊢;exact HT am uY hd iW h Fe dj aB.1 hK
  |false=>
   simp only[TP,Lg];refine⟨kT o w _, ?_⟩;rw[<-iW];exact hK _ _ _ (h.skip r.dst Fe)
def Lf(am:au P Γ)(uY:κ.uX P){o:Oper}(hr:dp P ops o=some (bare r))(FP:ky nt r=true)(h:∃a w L,dL κ nt st a w L)(dj:st.ab (nm az r)=none)(aB:bT Γ az r st):
  ∃a w L,dL κ nt (cR Γ az r st) a w L:=by
 obtain⟨a,w,L,h⟩:=h;obtain⟨hd,hg,iW,_⟩:=im hr;have Fe:∀d,r.dst=some d->d<nt:=by
  intro d hd;simp only[ky,hd,iS,o5]at FP;exact FP.2
 unfold bT at aB;unfold cR;cases hw:dY r.guard st.tmps with
 |none=>rw[hw]at aB;exact aB.elim
 |some b=>
  rw[hw]at aB;cases b with
  |true=>
   have:=HT (ro:=none) (n:=0) (K:=λa' w'=>∃L',dL κ nt ⟨bW st.tmps r.dst (post Γ az r st).val,(post Γ az r st).ab,(post Γ az r st).todo⟩ a' w' L') (Q:=λ_ _ _=>False) am uY hd iW h Fe dj aB.1 (λa' w' L' h'=>⟨L',h'⟩);obtain⟨a',w',L',h'⟩:=Uv this;exact⟨a',w',L',h'⟩
  |false=>exact⟨_,_,_,h.skip r.dst Fe⟩
def wF(h:∃a w L,dL κ nt st a w L):wA st:=by
 obtain⟨a,w,L,h⟩:=h;obtain⟨W,base,M,w0,_,h0⟩:=h.ex;exact λt=>dC.bd _ _ (h0.tmps t)
def io(az:Nat)(rs:ah)(st:RS):Prop:=st.ab az=none/\∀r∈rs,st.ab (nm az r)=none
def sY(am:au P Γ)(aB:bT Γ az r st){t:Nat}(ht:st.ab t=none)(hn:lays r.d=true->t≠nm az r):(cR Γ az r st).ab t=none:=by
 by_cases h4:mR r.d=true
 ·rw[oI h4 aB];unfold bT post at aB;unfold yj;cases hw:dY r.guard st.tmps with
  |none=>rw[hw]at aB;exact aB.elim
  |some b=>
   cases b with
   |false=>exact ht
   |true=>
    rw[hw]at aB;simp only[h4,yh]at aB⊢;have aB:=aB.1;cases hd:r.d<;>rw[hd]at h4 aB<;>first|(simp[mR]at h4;done)|skip
    case callS f args=>
     simp only[ku]at aB⊢;cases hg:Γ f with
     |none=>exact ht
     |some s=>
      simp only[hg]at aB⊢;cases hk:s.st with
      |none=>exact ht
      |some k=>
       simp only[hk]at aB⊢;exact((am f s hg).st k hk _ _ aB).2 t ht
    case callv x args=>
     simp only[ku]at aB⊢;cases hx:x.ev st.tmps with
     |uS f bP=>
      rw[hx]at aB;cases f with
      |func g=>
       simp only at aB⊢;cases hg:Γ g with
       |none=>exact ht
       |some s=>
        simp only[hg]at aB⊢;cases hk:s.st with
        |none=>exact ht
        |some k=>
         simp only[hk]at aB⊢;exact((am g s hg).st k hk _ _ aB).2 t ht
      |_=>exact ht
     |vU=>
      simp only;split<;>exact ht
     |v t=>
      cases t with
      |fn f bP=>
       rw[hx]at aB;cases f with
       |func g=>
        simp only at aB⊢;cases hg:Γ g with
        |none=>exact ht
        |some s=>
         simp only[hg]at aB⊢;cases hk:s.st with
         |none=>exact ht
         |some k=>
          simp only[hk]at aB⊢;exact((am g s hg).st k hk _ _ aB).2 t ht
       |_=>exact ht
      |mb rv=>
       rw[hx]at aB;simp only at aB⊢;cases ML:(cG.k:Option (Nat×(bD->bA->fp)))with
       |none=>exact ht
       |some p=>
        obtain⟨l,k⟩:=p;simp only[ML]at aB⊢;exact cG.aS _ _ ML _ _ aB.2.2.1 t ht
      |_=>exact ht
     |_=>exact ht
    case entryM x=>exact ht
 have h4:mR r.d=false:=by simpa using h4
 rw[jN h4 aB];cases hp:(vp Γ az r st).2 with
 |none=>exact ht
 |some p=>
  obtain⟨t1,o1⟩:=p;have e1:=vm (((AJ (Γ:=Γ) (az:=az) r st).resolve_left (by simp[hp])).symm.trans hp);simp only[bQ];rw[mL]
  ·exact ht
  ·rintro rfl;rcases e1 with⟨h1,h2⟩|⟨h1,_⟩
   ·exact hn h2 h1
   ·exact h1 ht
def pi(am:au P Γ)(hl:ek r=true)(aB:bT Γ az r st)(cZ:∀y∈rs,lG r y=true/\y.dst.isSome=true\/y.dst=none)(h:io az rs st):io az rs (cR Γ az r st):=by
 have key:∀t,st.ab t=none->(lays r.d=true->t≠nm az r)->(cR Γ az r st).ab t=none:=λt ht hn=>sY am aB ht hn;have za:lays r.d=true->∃d,r.dst=some d:=λhr=>TJ.1 (by simpa [ek,hr]using hl);refine⟨key _ h.1 λhr=>?_,λy hy=>key _ (h.2 y hy) λhr=>?_⟩
 ·obtain⟨d,hd⟩:=za hr;simp[nm,bm,hd];omega
 ·obtain⟨d,hd⟩:=za hr;rcases cZ y hy with⟨h1,h2⟩|h2
  ·obtain⟨e,he⟩:=TJ.1 h2;have:d≠e:=by simpa [lG,hd,he]using h1
   simp[nm,bm,hd,he];omega
  ·simp[nm,bm,hd,h2];omega
def nf(h:dV (r::rs)=true):∀y∈rs,lG r y=true/\y.dst.isSome=true\/y.dst=none:=by
 intro y hy;simp only[dV,iS,yJ]at h;cases hd:y.dst with
 |none=>exact .inr rfl
 |some d=>exact .inl ⟨h.1 y hy,rfl⟩
def oK(am:au P Γ)(uY:κ.uX P){ops:Array Oper}{Q:Exit->Act->World->Prop}:∀(l:bY) (rs:ah),(∀(k:Nat) (i:Nat),l[k]? =some i->∃o r,ops[i]? =some o/\rs[k]? =some r/\dp P ops o=some (bare r))->rs.length=l.length->rs.all (ky nt)=true->dV rs=true->
  ∀(st:RS) (a:Act) (w:World) (L:Loc),dL κ nt st a w L->io az rs st->gD Γ az rs st->(∀a' w' L',dL κ nt (cO Γ az rs st) a' w' L'->Q .normal a' w')->wpOpsIn (gR ro) n P ops Q l a w
 |[],rs,_,hl,_,_,st,a,w,L,h,_,_,hQ=>by
  have:rs=[]:=kx (by simpa using hl);subst this;exact hQ a w L h
 |i::l,[],_,hl,_,_,_,_,_,_,_,_,_,_=>by simp at hl
 |i::l,r::rs,hk,hl,cJ,cZ,st,a,w,L,h,hf,aB,hQ=>by
  obtain⟨o,r',ho,jV,hc⟩:=hk 0 i rfl;simp only[pd,bN]at jV;subst jV;simp only[Yx,iS]at cJ;simp only[gD]at aB;have Of:ek r=true:=by have:=cJ.1;simp only[ky,iS]at this;exact this.1.2
  rw[wpOpsIn_cons];refine oJ am uY ho hc cJ.1 h (hf.2 r (by simp)) aB.1 λa' w' L' h'=>?_;refine oK am uY l rs (λk j hj=>hk (k+1) j (by simpa using hj)) (by simpa using hl) cJ.2 (by simp only[dV,iS]at cZ;exact cZ.2) _ a' w' L' h' ?_ aB.2 hQ;exact pi am Of aB.1 (nf cZ) ⟨hf.1,λy hy=>hf.2 y (by simp[hy])⟩
def kX(h:eo P ops=some (rs.map bare)):rs.length=ops.size/\∀(i:Nat) (o:Oper),ops[i]? =some o->∃r,rs[i]? =some r/\dp P ops o=some (bare r):=by
 unfold eo at h;have key:∀(l:List Oper) (rs:ah),l.mapM (dp P ops)=some rs->rs.length=l.length/\∀(i:Nat) (o:Oper),l[i]? =some o->∃r,rs[i]? =some r/\dp P ops o=some r:=by
  intro l;induction l with
  |nil=>intro rs h;simp at h;subst h;simp
  |cons x l ih=>
   intro rs h;simp only[LQ,I7,gV,fO,bN]at h;obtain⟨r,hr,QL,jy,rfl⟩:=h;have:=ih QL jy;refine⟨by simp[this.1],λi o ho=>?_⟩;cases i with
   |zero=>simp only[pd,bN]at ho;subst ho;exact⟨r,rfl,hr⟩
   |succ i=>simpa using this.2 i o (by simpa using ho)
 have:=key _ _ h;refine⟨by simpa using this.1,λi o ho=>?_⟩;obtain⟨r,h1,h2⟩:=this.2 i o (by simpa using ho);simp only[vA,fE]at h1;obtain⟨q,h1,rfl⟩:=h1;exact⟨q,h1,h2⟩
def CF(am:au P Γ)(uY:κ.uX P)(hc:eo P ops=some (rs.map bare))(aB:dd nt false rs=true){a:Act}{w:World}{L:Loc}(h:dL κ nt st a w L)
  (hf:io az rs st) (bq:gD Γ az rs st) (hQ:∀a' w' L',dL κ nt (cO Γ az rs st) a' w' L'->Q .normal a' w'):(Code.region id ops false).wpIn (gR ro) n P Q a w:=by
 have hg:=kX hc;simp only[dd,iS]at aB;refine wpIn_region (oK am uY (List.range ops.size) rs (λk i hi=>?_) (by simpa using hg.1) aB.1.1 aB.1.2 st a w L h hf bq hQ);obtain⟨hk,Fb⟩:=E9.1 hi;simp only[Cp]at hk;simp only[TW]at Fb;subst Fb;obtain⟨r,h1,h2⟩:=hg.2 k ops[k] (by simp[hk]);exact⟨ops[k],r,by simp[hk],h1,h2⟩
def wG(am:au P Γ)(uY:κ.uX P){ops:Array Oper}{r:RO}{post:ah}(hr:ky nt r=true):∀(pre:ah),(∀x∈pre,ii x r=true/\ky nt x=true/\∃o,dp P ops o=some (bare x))->dV (pre++r::post)=true->
  ∀(st:RS),(∃a w L,dL κ nt st a w L)->io az (pre++r::post) st->gD Γ az (pre++r::post) st->
   bT Γ az r st/\gD Γ az (pre++post) (cR Γ az r st)/\cO Γ az (pre++post) (cR Γ az r st)=cO Γ az (pre++r::post) st
 |[],_,_,st,_,_,h=>⟨h.1,h.2,rfl⟩
 |x::pre,mW,cZ,st,Wi,wC,h=>by
  simp only[CE,gD]at h;obtain⟨hi,hx,o,hc⟩:=mW x (by simp);have QJ:oH x=true/\ek x=true:=by simp only[ky,iS]at hx;exact hx.1
  have hcr:oH r=true/\ek r=true:=by simp only[ky,iS]at hr;exact hr.1
  have abo:=Lf am uY hc hx Wi (wC.2 x (by simp)) h.1;have abp:dV (pre++r::post)=true:=by simp only[CE,dV,iS]at cZ;exact cZ.2
  have abq:io az (pre++r::post) (cR Γ az x st):=pi am QJ.2 h.1 (nf cZ) ⟨wC.1,λy hy=>wC.2 y (by simp only[CE,pH];exact .inr hy)⟩;obtain⟨i1,i2,i3⟩:=wG am uY hr pre (λy hy=>mW y (by simp[hy])) abp _ abo abq h.2;obtain⟨s1,s2,s3⟩:=swap hi QJ.1 hcr.1 QJ.2 hcr.2 (wF Wi) (λ_=>wC.2 x (by simp)) (λ_=>wC.2 r (by simp)) h.1 i1;refine⟨s1,⟨s2,by rw[<-s3];exact i2⟩, ?_⟩;simp only[CE,cO];rw[<-s3];exact i3
def rem(n:Nat)(listed:Array Bool):bY:=(List.range n).filter λi=> !listed.getD i true
def lI{n:Nat}{i:Nat}:i∈rem n listed↔i<n/\listed.getD i true=false:=by
 simp[rem]
def oL{n i:Nat}(h:i<n):List.range n=List.range i++i::List.range' (i+1) (n-i-1):=by
 have h1:n=i+(1+(n-i-1)):=by omega
 rw[List.range_eq_range',List.range_eq_range']
 conv=>lhs;rw[h1]
 rw[<-List.range'_append_1,Cf,<-List.range'_append_1];simp
def Lh{n i:Nat}(hs:listed.size=n)(hi:i∈rem n listed):∃pre post,rem n listed=pre++i::post/\rem n (listed.setIfInBounds i true)=pre++post/\(∀x∈pre,x<i/\x∈rem n listed):=by
 obtain⟨h1,h2⟩:=lI.1 hi;have FX:∀j,j≠i->(listed.setIfInBounds i true).getD j true=listed.getD j true:=λj hj=>getD_set_ne true (Ne.symm hj);have ael:(listed.setIfInBounds i true).getD i true=true:=by
  rw[BY,Zcp];simp[hs,h1]
 refine⟨(List.range i).filter (λj=> !listed.getD j true),(List.range' (i+1) (n-i-1)).filter (λj=> !listed.getD j true), ?_, ?_, ?_⟩
 ·unfold rem;rw[oL h1,HH,KN];simp[h2]
 ·unfold rem;rw[oL h1,HH,KN];simp only[ael,Vq,TP,Lg]
  congr 1
  ·refine List.filter_congr λj hj=>?_;rw[FX j (by have:=o8.1 hj;omega)]
  ·refine List.filter_congr λj hj=>?_;rw[FX j (by have:=List.mem_range'_1.1 hj;omega)]
 ·intro x hx;simp only[QZ,o8,Fm]at hx;exact⟨hx.1,lI.2 ⟨by omega,hx.2⟩⟩
def Uw{k:Nat}(h:(1:Nat).testBit k=true):k=0:=by
 cases k with
 |zero=>rfl
 |succ k=>simp[Nat.testBit_succ]at h
def wH(dw:bY):∀(as:bY) (m x:Nat),(as.foldl (λm j=>m|||(1<<<j)|||dw.getD j 0) m).testBit x=true->m.testBit x=true\/x∈as\/∃j∈as,(dw.getD j 0).testBit x=true
 |[],m,x,h=>.inl h
 |j::as,m,x,h=>by
  simp only[F6]at h;rcases wH dw as _ x h with h|h|⟨k,hk,h⟩
  ·simp only[Nat.testBit_or,QK,Nat.testBit_shiftLeft,iS,o5,ge_iff_le]at h;rcases h with(h|⟨h1,h2⟩)|h
   ·exact .inl h
   ·have:=Uw h2;have:x=j:=by omega
    exact .inr (.inl (by simp[this]))
   ·exact .inr (.inr ⟨j,by simp,h⟩)
  ·exact .inr (.inl (by simp[h]))
  ·exact .inr (.inr ⟨k,by simp[hk],h⟩)
def wI:∀(rs:ah) (dw:bY),(rs.foldl (λdw r=>dw++[kW dw r.after]) dw).take dw.length=dw/\
  ∀(k:Nat) (r:RO),rs[k]? =some r->(rs.foldl (λdw r=>dw++[kW dw r.after]) dw)[dw.length+k]? =some (kW ((rs.foldl (λdw r=>dw++[kW dw r.after]) dw).take (dw.length+k)) r.after)
 |[],dw=>⟨by simp,by simp⟩
 |r::rs,dw=>by
  have ih:=wI rs (dw++[kW dw r.after]);simp only[F6];generalize hm:rs.foldl (λdw r=>dw++[kW dw r.after]) (dw++[kW dw r.after])=ms at ih;simp only[pb,pc,Uj,Cf]at ih;have h1:ms.take dw.length=dw:=by
   have:=congrArg (List.take dw.length) ih.1;rw[Zdi]at this;simpa [show min dw.length (dw.length+1)=dw.length by omega]using this
  refine⟨h1,λk q hq=>?_⟩;cases k with
  |zero=>
   simp only[pd,bN]at hq;subst hq;rw[ET,h1];have h2:(ms.take (dw.length+1))[dw.length]? =some (kW dw r.after):=by rw[ih.1];simp
   rw[Fo]at h2;simpa using h2
  |succ k=>
   have:=ih.2 k q (by simpa using hq)
   rwa [show dw.length+1+k=dw.length+(k+1)by omega]at this
def Li{i m x:Nat}(hr:rs[i]? =some r)(hm:(jY rs)[i]? =some m)(hx:m.testBit x=true)(dR:∀j∈r.after,j<i):x∈r.after\/∃j∈r.after,∃mj,(jY rs)[j]? =some mj/\mj.testBit x=true:=by
 have:=(wI rs []).2 i r hr;simp only[Uj,Cf]at this;have FA:(jY rs)[i]? =some (kW ((jY rs).take i) r.after):=this;rw[hm]at FA;simp only[bN]at FA;subst FA;unfold kW at hx;rcases wH _ _ _ _ hx with h|h|⟨j,hj,h⟩
 ·simp at h
 ·exact .inl h
 ·refine .inr ⟨j,hj, ?_⟩;have Hk:=dR j hj;rw[List.getD,Fo,uV Hk]at h;cases Sv:(jY rs)[j]? with
  |none=>rw[Sv]at h;simp at h
  |some mj=>rw[Sv]at h;exact⟨mj,rfl,by simpa using h⟩
def AL(hp:∀(i:Nat) (y:RO),rs[i]? =some y->∀j∈y.after,j<i)(cD:∀(j:Nat) (y:RO),listed.getD j false=true->rs[j]? =some y->∀e∈y.after,listed.getD e false=true):
  ∀(i:Nat) (y:RO) (m x:Nat),rs[i]? =some y->(jY rs)[i]? =some m->m.testBit x=true->(∀e∈y.after,listed.getD e false=true)->listed.getD x false=true:=by
 intro i;induction i using Nat.strongRecOn with
 |_ i ih=>
  intro y m x hy hm hx hd;rcases Li hy hm hx (hp i y hy)with h|⟨j,hj,mj,Sv,hxj⟩
  ·exact hd x h
  ·have Hk:=hp i y hy j hj;have dI:j<rs.length:=by
    have:=(E9.1 hy).1;omega
   have hyj:rs[j]? =some rs[j]:=by simp[dI]
   exact ih j Hk rs[j] mj x hyj Sv hxj (cD j _ (hd j hj) hyj)
def FY(h:pg rs (jY rs)=true):(∀(i:Nat) (y:RO),rs[i]? =some y->∀j∈y.after,j<i)/\
  ∀(i x:Nat) (y r:RO),rs[i]? =some y->x<i->rs[x]? =some r->ii r y=true\/∃m,(jY rs)[i]? =some m/\m.testBit x=true:=by
 unfold pg at h;rw[yJ]at h;have key:∀(i:Nat) (y:RO),rs[i]? =some y->∃m,(jY rs)[i]? =some m/\(∀j∈y.after,j<i)/\∀x,x<i->m.testBit x=true\/∃r,rs[x]? =some r/\ii r y=true:=by
  intro i y hy;have:=h i (o8.2 (E9.1 hy).1);rw[hy]at this;cases hm:(jY rs)[i]? with
  |none=>rw[hm]at this;simp at this
  |some m=>
   rw[hm]at this;simp only[iS,yJ,o5,o8,QK]at this;refine⟨m,rfl,this.1,λx hx=>?_⟩;rcases this.2 x hx with h1|h1
   ·exact .inl h1
   ·cases hr:rs[x]? with
    |none=>rw[hr]at h1;simp at h1
    |some r=>rw[hr]at h1;exact .inr ⟨r,rfl,h1⟩
 refine⟨λi y hy=>(key i y hy).choose_spec.2.1,λi x y r hy hx hr=>?_⟩;obtain⟨m,hm,_,h2⟩:=key i y hy;rcases h2 x hx with h3|⟨r',jV,h3⟩
 ·exact .inr ⟨m,hm,h3⟩
 ·rw[hr]at jV;cases jV;exact .inl h3
def Ux(am:au P Γ)(uY:κ.uX P){g:Nat->RO}(hg:∀(i:Nat) (o:Oper),ops[i]? =some o->dp P ops o=some (bare (g i)))
  (B1:∀i,i<ops.size->ky nt (g i)=true) (cZ:∀l:bY,l.Nodup->(∀i∈l,i<ops.size)->dV (l.map g)=true)
  (ahJ:∀(listed:Array Bool) (i x:Nat),i<ops.size->x<i->listed.getD x true=false->(∀(j:Nat),j<ops.size->listed.getD j false=true->∀e∈(g j).after,listed.getD e false=true)->(∀e∈(g i).after,listed.getD e false=true)->ii (g x) (g i)=true)
  (dR:∀i,i<ops.size->∀j∈(g i).after,j<i):
  ∀(fuel:Nat) (listed:Array Bool),listed.size=ops.size->(rem ops.size listed).length=fuel->(∀(j:Nat),j<ops.size->listed.getD j false=true->∀e∈(g j).after,listed.getD e false=true)->
   ∀(st:RS) (a:Act) (w:World) (L:Loc),dL κ nt st a w L->io az ((rem ops.size listed).map g) st->gD Γ az ((rem ops.size listed).map g) st->
    (∀a' w' L',dL κ nt (cO Γ az ((rem ops.size listed).map g) st) a' w' L'->Q .normal a' w')->wpAnyIn (gR ro) n P .any ops Q fuel listed a w:=by
 have Og:∀(i:Nat) (o:Oper),ops[i]? =some o->∀(listed:Array Bool),(∀e∈o.after,Region.binds .any e=true->listed.getD e.on false=true)↔∀e∈(g i).after,listed.getD e false=true:=by
  intro i o ho listed;have:=(im (hg i o ho)).2.2.2;rw[this];constructor
  ·intro h e he;simp only[kL,QZ]at he;obtain⟨x,⟨hx,hb⟩,rfl⟩:=he;exact h x (by simpa using hx) hb
  ·intro h e he hb;exact h e.on (kL.2 ⟨e,QZ.2 ⟨by simpa using he,hb⟩,rfl⟩)
 intro fuel;induction fuel with
 |zero=>
  intro listed hs Hu cD st a w L h hf aB hQ;have Uy:rem ops.size listed=[]:=kx Hu;refine⟨?_, ?_⟩
  ·cases hr:Region.ready .any ops listed with
   |nil=>rfl
   |cons j js=>
    exfalso;have hj:j∈Region.ready .any ops listed:=by rw[hr];simp
    obtain⟨h0,o,ho,_⟩:=mem_ready.1 hj;have:j∈rem ops.size listed:=lI.2 ⟨(kf.1 ho).1,h0⟩;rw[Uy]at this;cases this
  ·rw[Uy]at hQ;exact hQ a w L h
 |succ fuel ih=>
  intro listed hs Hu cD st a w L h hf aB hQ;refine⟨λhr=>?_,λi hi=>?_⟩
  ·exfalso;have FZ:∃i,i∈rem ops.size listed/\∀x<i,x∉rem ops.size listed:=by
    have MK:∃i,i∈rem ops.size listed:=by
     cases hl:rem ops.size listed with
     |nil=>rw[hl]at Hu;cases Hu
     |cons i l=>exact⟨i,by simp⟩
    obtain⟨i,hi⟩:=MK;induction i using Nat.strongRecOn with
    |_ i QN=>
     by_cases hx:∃x,x<i/\x∈rem ops.size listed
     ·obtain⟨x,Au,wa⟩:=hx;exact QN x Au wa
     ·exact⟨i,hi,λx Au wa=>hx ⟨x,Au,wa⟩⟩
   obtain⟨i,hi,FZ⟩:=FZ;obtain⟨h1,h2⟩:=lI.1 hi;have:i∈Region.ready .any ops listed:=mem_ready.2 ⟨h2,ops[i],by simp[h1],by
    rw[Og i ops[i] (by simp[h1])];intro e he;have hei:=dR i h1 e he;have hn:=FZ e hei;rw[lI]at hn;have he2:e<listed.size:=by omega
    rw[BY]at hn⊢;simp only[he2,E2,TB]at hn⊢;cases hb:listed[e]
    ·exact yV ⟨by omega,hb⟩ hn
    ·rfl⟩
   rw[hr]at this;cases this
  ·obtain⟨h0,o,ho,cJ⟩:=mem_ready.1 hi;have Oh:i<ops.size:=(kf.1 ho).1;have Wl:=(Og i o ho listed).1 cJ;obtain⟨pre,post,e1,e2,mW⟩:=Lh hs (lI.2 ⟨Oh,h0⟩);rw[e1,qQ,l8]at aB hQ hf;have wu:(pre++i::post).Nodup:=by
    rw[<-e1];exact List.Pairwise.filter _ List.nodup_range
   have Sr:∀x∈pre++i::post,x<ops.size:=by
    intro x hx;rw[<-e1]at hx;exact(lI.1 hx).1
   have abr:dV (pre.map g++g i::post.map g)=true:=by
    have:=cZ _ wu Sr;simpa using this
   have mv:=wG (κ:=κ) am uY (ops:=ops) (B1 i Oh) (pre.map g) (λx hx=>by
    obtain⟨y,hy,rfl⟩:=kL.1 hx;have eG:=mW y hy;have hyb:=(lI.1 eG.2);refine⟨ahJ listed i y Oh eG.1 hyb.2 cD Wl,B1 y hyb.1,ops[y],hg y _ (by simp[hyb.1])⟩) abr st ⟨a,w,L,h⟩ hf aB
   have hgi:=hg i o ho;refine oJ am uY ho hgi (B1 i Oh) h (hf.2 (g i) (by simp)) mv.1 λa' w' L' h'=>?_;refine ih (listed.setIfInBounds i true) (by simpa using hs) ?_ ?_ _ a' w' L' h' ?_ ?_ ?_
   ·rw[e2];rw[e1]at Hu;simp only[pb,pc]at Hu⊢;omega
   ·intro j hj QO e he;by_cases Hk:j=i
    ·subst Hk;exact getD_set_true (Wl e he)
    ·rw[getD_set_ne false (Ne.symm Hk)]at QO;exact getD_set_true (cD j hj QO e he)
   ·rw[e2,qQ];have Of:ek (g i)=true:=by have:=B1 i Oh;simp only[ky,iS]at this;exact this.1.2
    refine pi am Of mv.1 (λy hy=>?_) ⟨hf.1,λy hy=>hf.2 y ?_⟩
    ·have ahK:(i::(pre++post)).Nodup:=(List.perm_middle.nodup_iff).1 wu;have:=cZ _ ahK (λx hx=>Sr x (by simp only[pH,dP]at hx⊢;rcases hx with h|h|h<;>simp[h]))
     rw[l8,qQ]at this;exact nf this y hy
    ·simp only[dP,pH]at hy⊢;rcases hy with h|h
     ·exact .inl h
     ·exact .inr (.inr h)
   ·rw[e2,qQ];exact mv.2.1
   ·rw[e2,qQ,mv.2.2];exact hQ
def pW:∀{rs:ah},dV rs=true->∀(i j:Nat) (x y:RO),i≠j->rs[i]? =some x->rs[j]? =some y->lG x y=true
 |[],_,_,_,_,_,_,h,_=>by simp at h
 |r::rs,hd,i,j,x,y,TK,hx,hy=>by
  simp only[dV,iS,yJ]at hd;cases i with
  |zero=>
   simp only[pd,bN]at hx;subst hx;cases j with
   |zero=>exact yV rfl TK
   |succ j=>exact hd.1 y (zM (by simpa using hy))
  |succ i=>
   cases j with
   |zero=>
    simp only[pd,bN]at hy;subst hy;exact wE (hd.1 x (zM (by simpa using hx)))
   |succ j=>exact pW hd.2 i j x y (by omega) (by simpa using hx) (by simpa using hy)
def CH(am:au P Γ)(uY:κ.uX P)(hm:P.follows .mixedOrders=true)(hc:eo P ops=some (rs.map bare))(aB:dd nt true rs=true){a:Act}{w:World}{L:Loc}(h:dL κ nt st a w L)
  (hf:io az rs st) (bq:gD Γ az rs st) (hQ:∀a' w' L',dL κ nt (cO Γ az rs st) a' w' L'->Q .normal a' w'):(Code.region id ops true).wpIn (gR ro) n P Q a w:=by
 obtain⟨dI,Oi⟩:=kX hc;simp only[dd,iS,Vq,Bool.false_or]at aB;obtain⟨⟨cJ,Fe⟩,hp⟩:=aB;obtain⟨dR,aem⟩:=FY hp
 let g:Nat->RO:=λi=>(rs[i]?).getD ⟨.jS (.eD .undef),none,none,[],none⟩
 have gg:∀i,i<ops.size->rs[i]? =some (g i):=λi hi=>by
  have:i<rs.length:=by omega
  simp[g,this]
 have TL:∀(i:Nat) (o:Oper),ops[i]? =some o->dp P ops o=some (bare (g i)):=λi o ho=>by
  obtain⟨r,h1,h2⟩:=Oi i o ho;have:g i=r:=by simp[g,h1]
  rw[this];exact h2
 have jy:rs=(List.range ops.size).map g:=by
  apply xX;intro i;by_cases hi:i<ops.size
  ·rw[gg i hi];simp[hi]
  ·rw[MI (by omega),MI (by simp;omega)]
 have HX:rem ops.size (Array.replicate ops.size false)=List.range ops.size:=by
  unfold rem;rw[List.filter_eq_self.2];intro i hi;have:=o8.1 hi;simp[BY,this]
 have hh:dL κ nt st a {w with drawn:=w.drawn+1} L:=by
  have hb:qZ w.heap.size w {w with drawn:=w.drawn+1}:=⟨⟨rfl,rfl,rfl,iV _,λ_ _=>rfl⟩,Nat.le_succ _⟩;obtain⟨W,base,M,w0,fF,h0⟩:=h.ex;obtain⟨hO,hA⟩:=bJ.grow h0.o hb;obtain⟨Ds,h1,h2,h3,h4⟩:=h.defers;exact⟨⟨W,base,M,w0,fF,h0.size,λt=>ap.er hA _ _ (h0.tmps t),hO⟩,h.er.comp hA (fF.N1 _) fF.sub.2,⟨Ds,h1,h2,λD hD=>⟨hA.bV.HG D (h3 D hD).1,(h3 D hD).2⟩,h4⟩,h.bg,h.je⟩
 refine wpIn_region_any hm (Ux am uY (g:=g) TL (λi hi=>yJ.1 cJ _ (zM (gg i hi))) (λl hl hb=>?_) (λlisted i x hi hx vh cD hd=>?_) (λi hi=>dR i (g i) (gg i hi)) ops.size _ (by simp) (by rw[HX];simp) (λj hj QO=>?_) st a _ L hh
  (by rw[HX,<-jy];exact hf) (by rw[HX,<-jy];exact bq) (by rw[HX,<-jy];exact hQ))
 ·clear bq hQ hf;induction l with
  |nil=>rfl
  |cons i l ih=>
   simp only[l8,dV,iS,yJ];rw[RX]at hl;refine⟨λy hy=>?_,ih hl.2 λj hj=>hb j (by simp[hj])⟩;obtain⟨j,hj,rfl⟩:=kL.1 hy;exact pW Fe i j _ _ (by rintro rfl;exact hl.1 hj) (gg i (hb i (by simp))) (gg j (hb j (by simp[hj])))
 ·rcases aem i x (g i) (g x) (gg i hi) hx (gg x (by omega))with h1|⟨m,Fu,Ud⟩
  ·exact h1
  ·exfalso;have:=AL (rs:=rs) (listed:=listed) dR (λj y hj hy=>by
    have hjn:j<ops.size:=by have:=(E9.1 hy).1;omega
    have:y=g j:=by rw[gg j hjn]at hy;exact(Zdb hy).symm
    rw[this];exact cD j hjn hj) i (g i) m x (gg i hi) Fu Ud hd
   rw[BY]at this vh;cases wa:listed[x]? with
   |none=>rw[wa]at this;simp at this
   |some b=>rw[wa]at this vh;simp at this vh;rw[this]at vh;cases vh
 ·rw[BY]at QO;simp[hj]at QO
end
end
section
variable{id d1 d2:Nat}{fJ:Bool}{rs:ah}{ops:Array Oper}{dD:nO}
variable [bh] [cG]
inductive DC where
 |skip
 |region (fJ:Bool) (rs:ah)
 |pj (rs:ah)
 |seq (a b:DC)
 |cond (c:be) (a b:DC)
 |block (id:Nat) (c:DC)
 |loop (c:DC)
 |exit (id:Nat)
 |ret
 |sZ (g:be) (ps:bY) (a b:DC)
 |HY (x:be) (d1 d2:Nat)
 |ur
def Oj(ops:Array Oper):Option (be×Nat×Nat):=
 match ops.toList with
 |[a,b]=>match a.op,b.op,a.dst,b.dst,a.guard,b.guard with
  |.next x false,.extract (.tmp t) 0,some d1,some d2,none,none=>if t=d1 then(be.of x).map λy=>(y,d1,d2)else none
  |_,_,_,_,_,_=>none
 |_=>none
def bv(P:Program)(nt:Nat):Code->DC
 |.skip=>.skip
 |.region _ ops fJ=>match eo P ops with
  |some rs=>if dd nt fJ rs then .region fJ rs else if fJ&&dd nt false rs then .pj rs else .ur
  |none=>if fJ then .ur else match Oj ops with
   |some q=>if q.2.1<nt/\q.2.2<nt then .HY q.1 q.2.1 q.2.2 else .ur
   |none=>.ur
 |.seq a b=>.seq (bv P nt a) (bv P nt b)
 |.cond c a b=>match be.of c with
  |some x=>.cond x (bv P nt a) (bv P nt b)
  |none=>.ur
 |.block id c=>.block id (bv P nt c)
 |.loop c=>.loop (bv P nt c)
 |.exit id=>.exit id
 |.ret=>.ret
 |.rangeFunc g ps a b=>match be.of g with
  |some x=>if ps.toList.all (·<nt)then .sZ x ps.toList (bv P nt a) (bv P nt b)else .ur
  |none=>.ur
 |_=>.ur
section
variable{P:Program}{nt:Nat}{c:Code}
def Ok(h:bv P nt c=.skip):c=.skip:=by
 cases c<;>simp only[bv]at h<;>first|rfl|cases h|(repeat' split at h)<;>cases h
def Uz(h:bv P nt c=.ret):c=.ret:=by
 cases c<;>simp only[bv]at h<;>first|rfl|cases h|(repeat' split at h)<;>cases h
def F0{x:be}{ps:bY}{a b:DC}(h:bv P nt c=.sZ x ps a b):∃g qs y z,c=.rangeFunc g qs y z/\be.of g=some x/\qs.toList=ps/\(∀p∈ps,p<nt)/\bv P nt y=a/\bv P nt z=b:=by
 cases c<;>simp only[bv]at h<;>first|(cases h;done)|skip
 ·(repeat' split at h)<;>cases h
 ·split at h<;>cases h
 ·split at h
  ·rename_i hx;split at h
   ·rename_i hp;cases h;exact⟨_,_,_,_,rfl,hx,rfl,λp hp'=>by have:=yJ.1 hp p hp';simpa using this,rfl,rfl⟩
   ·cases h
  ·cases h
def Ol(h:bv P nt c=.exit id):c=.exit id:=by
 cases c<;>simp only[bv]at h<;>first|(cases h;rfl)|cases h|(repeat' split at h)<;>cases h
def UA{a b:DC}(h:bv P nt c=.seq a b):∃x y,c=.seq x y/\bv P nt x=a/\bv P nt y=b:=by
 cases c<;>simp only[bv]at h<;>first|(cases h;exact⟨_,_,rfl,rfl,rfl⟩)|cases h|(repeat' split at h)<;>cases h
def Om{x:be}{a b:DC}(h:bv P nt c=.cond x a b):∃x' y z,c=.cond x' y z/\be.of x'=some x/\bv P nt y=a/\bv P nt z=b:=by
 cases c<;>simp only[bv]at h<;>first|(cases h;done)|skip
 ·(repeat' split at h)<;>cases h
 ·split at h
  ·rename_i hx;cases h;exact⟨_,_,_,rfl,hx,rfl,rfl⟩
  ·cases h
 ·(repeat' split at h)<;>cases h
def Lj{a:DC}(h:bv P nt c=.block id a):∃x,c=.block id x/\bv P nt x=a:=by
 cases c<;>simp only[bv]at h<;>first|(cases h;exact⟨_,rfl,rfl⟩)|cases h|(repeat' split at h)<;>cases h
def On{a:DC}(h:bv P nt c=.loop a):∃x,c=.loop x/\bv P nt x=a:=by
 cases c<;>simp only[bv]at h<;>first|(cases h;exact⟨_,rfl,rfl⟩)|cases h|(repeat' split at h)<;>cases h
def ng(h:bv P nt c=.region fJ rs):∃id ops,c=.region id ops fJ/\eo P ops=some rs/\dd nt fJ rs=true:=by
 cases c<;>simp only[bv]at h<;>first|(cases h;done)|skip
 case region id ops dr=>
  split at h
  ·rename_i jy;split at h
   ·rename_i aB;cases h;exact⟨_,_,rfl,jy,aB⟩
   ·split at h<;>cases h
  ·(repeat' split at h)<;>cases h
 case cond=>split at h<;>cases h
 case rangeFunc=>(repeat' split at h)<;>cases h
def CI(h:bv P nt c=.pj rs):∃id ops,c=.region id ops true/\eo P ops=some rs:=by
 cases c<;>simp only[bv]at h<;>first|(cases h;done)|skip
 case region id ops dr=>
  split at h
  ·rename_i jy;split at h
   ·cases h
   ·split at h
    ·rename_i hd;cases h;simp only[iS]at hd;exact⟨_,_,by rw[hd.1],jy⟩
    ·cases h
  ·(repeat' split at h)<;>cases h
 case cond=>split at h<;>cases h
 case rangeFunc=>(repeat' split at h)<;>cases h
end
def Lk{P:Program}{nt:Nat}{c:Code}{x:be}(h:bv P nt c=.HY x d1 d2):∃id o1 o2 y,c=.region id #[o1,o2] false/\o1.op=.next y false/\be.of y=some x/\o1.dst=some d1/\o1.guard=none/\o2.op=.extract (.tmp d1) 0/\o2.dst=some d2/\o2.guard=none/\d1<nt/\d2<nt:=by
 cases c<;>simp only[bv]at h<;>first|(cases h;done)|skip
 case region id ops dr=>
  split at h
  ·split at h
   ·cases h
   ·split at h<;>cases h
  ·split at h
   ·cases h
   ·rename_i FB;have FB:dr=false:=by simpa using FB
    subst FB;split at h
    ·rename_i q hq;split at h
     ·rename_i dR;cases h;unfold Oj at hq;split at hq
      ·rename_i o1 o2 abs;split at hq
       ·rename_i y t e1 e2 h1 h2 h3 h4 h5 h6;split at hq
        ·rename_i QP;subst QP;simp only[fE]at hq;obtain⟨z,hz,rfl⟩:=hq;exact⟨id,o1,o2,y,by rw[show ops= #[o1,o2]by rw[<-Array.toArray_toList (xs:=ops),abs]],h1,hz,h3,h5,h2,h4,h6,dR.1,dR.2⟩
        ·cases hq
       ·cases hq
      ·cases hq
     ·cases h
    ·cases h
 case cond=>split at h<;>cases h
 case rangeFunc=>(repeat' split at h)<;>cases h
def yB{P:Program}{o:Oper}{d:mQ}(h:cy P o=some d):um d=d:=by
 cases d<;>first|rfl|skip
 case mkSliceB=>exact(abl h).elim
 case callS=>
  obtain⟨c,_,hc⟩:=d6 h (.inr (.inl ⟨_,_,rfl⟩));exfalso;unfold dc at hc;repeat' split at hc
  all_goals first
   |(cases hc;done)
   |(simp only[fE,I7,gV,fO,bN,reduceCtorEq,Ba,Hz]at hc;done)
 case callF=>
  obtain⟨c,_,hc⟩:=d6 h (.inr (.inr (.inr (.inl ⟨_,_,rfl⟩))));exfalso;unfold dc at hc;repeat' split at hc
  all_goals first
   |(cases hc;done)
   |(simp only[fE,I7,gV,fO,bN,reduceCtorEq,Ba,Hz]at hc;done)
 case callR=>
  obtain⟨c,_,hc⟩:=d6 h (.inr (.inr (.inr (.inr ⟨_,_,rfl⟩))));exfalso;unfold dc at hc;repeat' split at hc
  all_goals first
   |(cases hc;done)
   |(simp only[fE,I7,gV,fO,bN,reduceCtorEq,Ba,Hz]at hc;done)
def wJ{P:Program}{o:Oper}{r:RO}(h:dp P ops o=some r):bare r=r:=by
 simp only[dp,I7,gV,fO,bN]at h;obtain⟨d,hd,g,hg,rfl⟩:=h;simp only[bare,yB hd]
def nK{P:Program}(h:eo P ops=some rs):rs.map bare=rs:=by
 unfold eo at h;have key:∀(l:List Oper) (rs:ah),l.mapM (dp P ops)=some rs->rs.map bare=rs:=by
  intro l;induction l with
  |nil=>intro rs h;simp at h;subst h;rfl
  |cons o l ih=>
   intro rs h;simp only[LQ,I7,gV,fO,bN]at h;obtain⟨r,hr,QL,jy,rfl⟩:=h;simp only[l8,wJ hr,ih QL jy]
 exact key _ _ h
def rH:ah->List (Option (bY))->ah
 |r::rs,t::ts=>⟨r.d,r.dst,r.guard,r.after,t⟩::rH rs ts
 |rs,_=>rs
structure F1(κ:kS)(nt:Nat)(st:nO)(a:Act)(w:World)(L:Loc):Prop where
 r:dL κ nt ⟨st.tmps,st.ab,st.todo⟩ a w L
 fresh:∀r,st.az<=r->st.ab r=none
 low:∀r,st.low<=r->κ.go r=none
 it:κ.J.isSome=true->st.low=0
def IH(P:Program)(nt:Nat)(c:Code)(Q:Exit->nO->Prop)(st:nO):Prop:=
 ∀(n:Nat) (κ:kS) (a:Act) (w:World) (L:Loc),κ.uX P->F1 κ nt st a w L->
  c.wpIn (gR κ.ro) n P (λe a' w'=>∃dD L',Q e dD/\F1 κ nt dD a' w' L') a w
structure aa(P:Program)(nt:Nat)(d:DC)(Q:Exit->nO->Prop)(st:nO):Prop where
 run:∀c,bv P nt c=d->IH P nt c Q st
def Le(st dD:nO):Prop:=∀(κ:kS) (nt:Nat) (a:Act) (w:World) (L:Loc),F1 κ nt st a w L->∃L',F1 κ nt dD a w L'
def Le.trans{a b c:nO}(h:Le a b)(k:Le b c):Le a c:=λ_ _ _ _ L r=>let⟨_,r'⟩:=h _ _ _ _ L r;k _ _ _ _ _ r'
section
variable{P:Program}{nt:Nat}{Γ:gP}{Q:Exit->nO->Prop}{st:nO}
def IH.le{c:Code}(h:Le st dD)(k:IH P nt c Q dD):IH P nt c Q st:=λn κ a w L g r=>let⟨L',r'⟩:=h _ _ _ _ L r;k n κ a w L' g r'
def aa.le{d:DC}(h:Le st dD)(k:aa P nt d Q dD):aa P nt d Q st:=⟨λc hc=>IH.le h (k.run c hc)⟩
def aa.nh{d:DC}{Q':Exit->nO->Prop}(h:aa P nt d Q st)(hq:∀e st,Q e st->∃Wm,Le st Wm/\Q' e Wm):aa P nt d Q' st:=
 ⟨λc hc n κ a w L g r=>wpIn_mono (h.run c hc n κ a w L g r) λ_ _ _ ⟨_,L',q,r'⟩=>let⟨Wm,hl,q2⟩:=hq _ _ q;let⟨L2,r2⟩:=hl _ _ _ _ L' r';⟨Wm,L2,q2,r2⟩⟩
def aa.skip(h:Q .normal st):aa P nt .skip Q st:=by
 refine⟨λc hc=>?_⟩;obtain rfl:=Ok hc;exact λn κ a w L g r=>wpIn_skip ⟨st,L,h,r⟩
def aa.exit(h:Q (.exit id) st):aa P nt (.exit id) Q st:=by
 refine⟨λc hc=>?_⟩;obtain rfl:=Ol hc;exact λn κ a w L g r=>wpIn_exit ⟨st,L,h,r⟩
def aa.ret(h:Q .ret st):aa P nt .ret Q st:=by
 refine⟨λc hc=>?_⟩;obtain rfl:=Uz hc;exact λn κ a w L g r=>wpIn_ret ⟨st,L,h,r⟩
def zb(k:nO->Prop)(Q:Exit->nO->Prop):Exit->nO->Prop
 |.normal,st=>k st
 |e,st=>Q e st
def aa.seq{a b:DC}(h:aa P nt a (zb (aa P nt b Q) Q) st):aa P nt (.seq a b) Q st:=by
 refine⟨λc hc=>?_⟩;obtain⟨a',b',rfl,ha,hb⟩:=UA hc;intro n κ TM w L g r;refine wpIn_seq (wpIn_mono (h.run _ ha n κ TM w L g r) ?_);rintro e a' w' ⟨dD,L',q,r'⟩;cases e with
 |normal=>exact q.run _ hb n κ a' w' L' g r'
 |_=>exact⟨dD,L',q,r'⟩
def aa.cond{x:be}{a b:DC}{t:Bool}(hx:x.ev st.tmps=.v (.bool t))(ht:t=true->aa P nt a Q st)(hf:t=false->aa P nt b Q st):aa P nt (.cond x a b) Q st:=by
 refine⟨λc hc=>?_⟩;obtain⟨x',a',b',rfl,lq,ha,hb⟩:=Om hc;intro n κ TM w L g r;obtain⟨W,base,M,w0,fF,h0⟩:=r.r.ex;have:=be.bd h0.o.gl h0.tmps lq;rw[hx]at this;simp only[ap,aO]at this;cases t with
 |true=>exact wpIn_cond_true this ((ht rfl).run _ ha n κ TM w L g r)
 |false=>exact wpIn_cond_false this ((hf rfl).run _ hb n κ TM w L g r)
def mg(id:Nat)(Q:Exit->nO->Prop):Exit->nO->Prop
 |.exit id',st=>if id'=id then Q .normal st else Q (.exit id') st
 |e,st=>Q e st
def aa.block{a:DC}(h:aa P nt a (mg id Q) st):aa P nt (.block id a) Q st:=by
 refine⟨λc hc=>?_⟩;obtain⟨a',rfl,ha⟩:=Lj hc;intro n κ TM w L g r;refine wpIn_block (wpIn_mono (h.run _ ha n κ TM w L g r) ?_);rintro e a' w' ⟨dD,L',q,r'⟩;cases e with
 |exit id'=>
  simp only[mg]at q;simp only[Exit.inBlock];split at q
  ·rename_i h;rw[uV h];exact⟨dD,L',q,r'⟩
  ·rename_i h;rw[mL h];exact⟨dD,L',q,r'⟩
 |_=>exact⟨dD,L',q,r'⟩
def aa.loop{α:Type}{body:DC}(R:α->nO)(I:α->Prop)(μ:α->Nat)(x:α)(h0:Le st (R x))(hI:I x)
  (round:∀y,I y->aa P nt body (zb (λdD=>∃z,Le dD (R z)/\I z/\μ z<μ y) Q) (R y)):aa P nt (.loop body) Q st:=by
 refine⟨λc hc=>?_⟩;obtain⟨a',rfl,ha'⟩:=On hc;intro n κ TM w L g r;obtain⟨L0,r0⟩:=h0 _ _ _ _ L r;refine wpIn_loop_ghost (λk a w=>∃y L,μ y=k/\I y/\F1 κ nt (R y) a w L) (μ x) ⟨x,L0,rfl,hI,r0⟩ ?_;rintro k a w ⟨y,L,rfl,hy,hr⟩;refine wpIn_mono ((round y hy).run _ ha' n κ a w L g hr) ?_;rintro e a' w' ⟨dD,L',q,r'⟩;cases e with
 |normal=>
  obtain⟨z,iU,hz,dR⟩:=q;obtain⟨L2,r2⟩:=iU _ _ _ _ L' r';exact⟨μ z,dR,z,L2,rfl,hz,r2⟩
 |_=>exact⟨dD,L',q,r'⟩
def rJ(am:au P Γ){az:Nat}:∀(rs:ah),rs.all (ky nt)=true->∀(st:RS),gD Γ az rs st->∀t,az+nt+1<=t->st.ab t=none->(cO Γ az rs st).ab t=none
 |[],_,st,_,t,_,h=>h
 |r::rs,cJ,st,aB,t,ht,h=>by
  simp only[Yx,iS]at cJ;simp only[gD]at aB;refine rJ am rs cJ.2 _ aB.2 t ht (sY am aB.1 h λhl e=>?_);have hr:=cJ.1;simp only[ky,iS]at hr;have hs:r.dst.isSome=true:=by simpa [ek,hl]using hr.1.2
  obtain⟨d,hd⟩:=TJ.1 hs;have dR:d<nt:=by have:=hr.2;rw[hd]at this;simpa using this
  simp only[nm,bm,hd]at e;omega
def ni(am:au P Γ)(hm:P.follows .mixedOrders=true)(jy:eo P ops=some (rs.map bare))(aB:dd nt fJ rs=true)
  (bq:gD Γ st.az rs ⟨st.tmps,st.ab,st.todo⟩) (hQ:Q .normal ⟨(cO Γ st.az rs ⟨st.tmps,st.ab,st.todo⟩).tmps,(cO Γ st.az rs ⟨st.tmps,st.ab,st.todo⟩).ab,st.az+nt+1,st.low,(cO Γ st.az rs ⟨st.tmps,st.ab,st.todo⟩).todo⟩):
  IH P nt (.region id ops fJ) Q st:=by
 intro n κ TM w L g r;have dj:∀x∈rs,∃k,nm st.az x=st.az+k:=λx _=>by
  unfold nm bm;cases x.dst with
  |none=>exact⟨0,rfl⟩
  |some d=>exact⟨d+1,by simp only[ym]⟩
 have hf:io st.az rs ⟨st.tmps,st.ab,st.todo⟩:=⟨r.fresh _ (iV _),λx hx=>by
  obtain⟨k,hk⟩:=dj x hx;rw[hk];exact r.fresh _ (by omega)⟩
 have je:∀a' w' L',dL κ nt (cO Γ st.az rs ⟨st.tmps,st.ab,st.todo⟩) a' w' L'->∃dD L',Q .normal dD/\F1 κ nt dD a' w' L':=by
  intro a' w' L' r';refine⟨_,L',hQ,r', ?_,r.low,r.it⟩;have cJ:rs.all (ky nt)=true:=by simp only[dd,iS]at aB;exact aB.1.1
  intro t ht;exact rJ am rs cJ _ bq t ht (r.fresh t (by simp only at ht;omega))
 cases fJ with
 |false=>exact CF am g jy aB r.r hf bq je
 |true=>exact CH am g hm jy aB r.r hf bq je
def aa.region(am:au P Γ)(hm:P.follows .mixedOrders=true)(bq:gD Γ st.az rs ⟨st.tmps,st.ab,st.todo⟩)(hQ:Q .normal ⟨(cO Γ st.az rs ⟨st.tmps,st.ab,st.todo⟩).tmps,(cO Γ st.az rs ⟨st.tmps,st.ab,st.todo⟩).ab,st.az+nt+1,st.low,(cO Γ st.az rs ⟨st.tmps,st.ab,st.todo⟩).todo⟩):
  aa P nt (.region fJ rs) Q st:=by
 refine⟨λc hc=>?_⟩;obtain⟨id,ops,rfl,jy,aB⟩:=ng hc;exact ni am hm (by rw[nK jy];exact jy) aB bq hQ
def aa.UB(am:au P Γ)(hm:P.follows .mixedOrders=true){d:DC}(hd:d=.pj (rs.map bare)\/∃fJ,d=.region fJ (rs.map bare))(aB:dd nt true rs=true)
  (bq:gD Γ st.az rs ⟨st.tmps,st.ab,st.todo⟩) (hQ:Q .normal ⟨(cO Γ st.az rs ⟨st.tmps,st.ab,st.todo⟩).tmps,(cO Γ st.az rs ⟨st.tmps,st.ab,st.todo⟩).ab,st.az+nt+1,st.low,(cO Γ st.az rs ⟨st.tmps,st.ab,st.todo⟩).todo⟩):
  aa P nt d Q st:=by
 refine⟨λc hc=>?_⟩;rcases hd with rfl|⟨fJ,rfl⟩
 ·obtain⟨id,ops,rfl,jy⟩:=CI hc;exact ni am hm jy aB bq hQ
 ·obtain⟨id,ops,rfl,jy,abj⟩:=ng hc;refine ni am hm jy ?_ bq hQ;cases fJ with
  |true=>exact aB
  |false=>simp only[dd,iS]at aB⊢;exact⟨aB.1,rfl⟩
def aa.next{x:be}{r m s l c:Nat}{sn:bY}{bB:List Sh}{agg:Bool}{es:List (Nat×T×DV)}(hx:x.ev st.tmps=.c8 r)(hr:st.ab r=some (.c8 m s sn l))(hm:st.ab m=some (.map bB agg c es))(dR:∀e∈es,e.1<s)(hl:s<=l)
  (Oo:(∀e∈es,e.1∈sn)->Q .normal ⟨bW (bW st.tmps (some d1) .undef) (some d2) (.v (.bool false)),st.ab,st.az,st.low,st.todo⟩)
  (My:∀e∈es,e.1∉sn->Q .normal ⟨bW (bW st.tmps (some d1) .undef) (some d2) (.v (.bool true)),bQ st.ab (some (r,.c8 m s (sn++[e.1]) c)),st.az,st.low,st.todo⟩):
  aa P nt (.HY x d1 d2) Q st:=by
 refine⟨λcc hc=>?_⟩;obtain⟨id,o1,o2,y,rfl,h1,hy,h2,h3,h4,h5,h6,Ld,Hi⟩:=Lk hc;intro n κ a w L g r0;refine wpIn_region ?_;have hR:=r0.r;obtain⟨W,base,M,w0,fF,h0⟩:=hR.ex;have BX:=be.bd h0.o.gl h0.tmps hy;rw[hx]at BX;simp only[ap]at BX;obtain⟨_,Wa⟩:=BX;have je:∀{b:Bool} {ay:bA} {v:Value} {w':World},bJ base W M w0 ay w' L->fX W st.ab L w ay L w'->(∃N,∀r,N<=r->ay r=none)->(∀t,st.ab t=none->ay t=none)->(∃rest:List Value,v=.tuple (Value.bool b::rest).toArray)->(execOp a.eval o1).run P w=.ok (.value v) w'->
   Q .normal ⟨bW (bW st.tmps (some d1) .undef) (some d2) (.v (.bool b)),ay,st.az,st.low,st.todo⟩->
   wpOpsIn (gR κ.ro) n P #[o1,o2] (λe a' w'=>∃dD L',Q e dD/\F1 κ nt dD a' w' L') (List.range 2) a w:=by
  intro b ay v w' hO hA iv rF hv bq hQ;obtain⟨rest,rfl⟩:=hv;show wpOpsIn (gR κ.ro) n P #[o1,o2] _ [0,1] a w;rw[wpOpsIn_cons,wpOpIn];simp only[show(#[o1,o2]:Array Oper)[0]? =some o1 from rfl,Region.wanted,h3,yh];refine⟨kT o1 w _, ?_⟩;rw[show(gR κ.ro).round=κ.ro from rfl,Oper.semAt_eq κ.ro _ o1 (λc hc=>by rw[h1]at hc;cases hc),bq,Oper.uponIn_value,h2];have R1:dL κ nt ⟨bW st.tmps (some d1) .undef,ay,st.todo⟩ (a.put (some d1) (.tuple (Value.bool b::rest).toArray)) w' L:=dL.put hR fF h0 (some d1) (λd hd=>by cases hd;exact Ld) hO hA (by simp[ap]) iv;rw[wpOpsIn_cons,wpOpIn];simp only[show(#[o1,o2]:Array Oper)[1]? =some o2 from rfl,Region.wanted,h6,yh];refine⟨kT o2 w' _, ?_⟩;have E1:(a.put (some d1) (.tuple (Value.bool b::rest).toArray)).eval (.tmp d1)=.tuple (Value.bool b::rest).toArray:=by
   simp only[Act.put,Act.eval];rw[wq _ _ _ _ (by rw[h0.size];exact Ld)];simp
  have HZ:(execOp (a.put (some d1) (.tuple (Value.bool b::rest).toArray)).eval o2).run P w'=.ok (.value (.bool b)) w':=by
   simp[execOp,h4,E1,Instr.extract]
  rw[show(gR κ.ro).round=κ.ro from rfl,Oper.semAt_eq κ.ro _ o2 (λc hc=>by rw[h4]at hc;cases hc),HZ,Oper.uponIn_value,h5];obtain⟨W2,aen,M2,w02,Ll,UC⟩:=R1.ex;have R2:=dL.put R1 Ll UC (some d2) (λd hd=>by cases hd;exact Hi) (v:=.v (.bool b)) (x:=.bool b) UC.o (fX.bZ (ch.refl _ _)) (by simp[ap,aO]) iv;exact⟨_,L,hQ,R2,λt ht=>rF t (r0.fresh t ht),r0.low,r0.it⟩
 rcases F2 (P:=P) h0.o hr hm dR hl o1.type with⟨cJ,bq⟩|⟨e,he,hn,k,v,w',bq,hO,hA⟩
 ·refine je (b:=false) h0.o (fX.bZ (ch.refl _ _)) hR.je (λt h=>h) ⟨[],rfl⟩ ?_ (Oo cJ);simp[execOp,h1,Wa,bq]
 ·refine je (b:=true) hO hA ?_ ?_ ⟨[k,v],rfl⟩ ?_ (My e he hn)
  ·obtain⟨N,hN⟩:=hR.je;refine⟨max N (r+1),λr' jV=>?_⟩;simp only[bQ];rw[mL (by omega)];exact hN r' (by omega)
  ·intro t ht;simp only[bQ];rw[mL (λe=>by rw[e,hr]at ht;cases ht)];exact ht
  ·simp[execOp,h1,Wa,bq]
end
end
abbrev t(n:Nat):be:=.tmp n
abbrev i(n:Int):be:=.eD (.v (.int .i64 n))
abbrev o(d:mQ)(r:Nat)(af:bY):RO:=⟨d,some r,none,af,none⟩
abbrev s(d:mQ)(af:bY):RO:=⟨d,none,none,af,none⟩
abbrev g(d:mQ)(r b:Nat)(w:Bool)(af:bY):RO:=⟨d,some r,some (b,w),af,none⟩
abbrev m(a r:Nat)(af:bY):RO:=⟨.jS (.tmp a),some r,none,af,none⟩
abbrev n(a r:Nat):RO:=⟨.jS (.tmp a),some r,none,[],none⟩
abbrev l(a r:Nat)(af:bY):RO:=⟨.load 1 false (.tmp a),some r,none,af,none⟩
abbrev L(k a r:Nat)(af:bY):RO:=⟨.load k true (.tmp a),some r,none,af,none⟩
abbrev a(k b r:Nat)(af:bY):RO:=⟨.addOff k (.tmp b),some r,none,af,none⟩
abbrev b(op:BinOp)(x y r:Nat)(af:bY):RO:=⟨.bin op (.tmp x) (.tmp y),some r,none,af,none⟩
abbrev c(x r:Nat)(af:bY):RO:=⟨.nilCheck (.tmp x),some r,none,af,none⟩
abbrev e(k x r:Nat)(af:bY):RO:=⟨.extract k (.tmp x),some r,none,af,none⟩
abbrev x(k y z r:Nat)(af:bY):RO:=⟨.idxAddr k (.tmp y) (.tmp z),some r,none,af,none⟩
abbrev S(k y z:Nat)(af:bY):RO:=⟨.store k (.tmp y) (.tmp z),none,none,af,none⟩
abbrev p(u v r:Nat)(af:bY):RO:=⟨.pick (.tmp u) (.eD (.v (.bool true))) (.tmp v),some r,none,af,none⟩
abbrev q(u v r:Nat)(af:bY):RO:=⟨.pick (.tmp u) (.tmp v) (.eD (.v (.bool false))),some r,none,af,none⟩
abbrev u(k y r b:Nat)(w:Bool)(af:bY):RO:=⟨.addOff k (.tmp y),some r,some (b,w),af,none⟩
abbrev v(y r b:Nat)(w:Bool)(af:bY):RO:=⟨.load 1 false (.tmp y),some r,some (b,w),af,none⟩
abbrev w(y r b:Nat)(w:Bool)(af:bY):RO:=⟨.jS (.tmp y),some r,some (b,w),af,none⟩
abbrev y(l:ah):DC:=.region false l
abbrev Y(l:ah):DC:=.region true l
abbrev j(a b:DC):DC:=.seq a b
abbrev F(r:Nat):RO:=⟨.jS (.eD (.v (.bool false))),some r,none,[],none⟩
abbrev R(r:Nat):RO:=⟨.jS (.eD (.v (.bool true))),some r,none,[],none⟩
abbrev I(k:Int)(r:Nat):RO:=⟨.jS (.eD (.v (.int .i64 k))),some r,none,[],none⟩
abbrev Z(r:Nat):RO:=⟨.jS (.eD .aF),some r,none,[],none⟩
abbrev B(k r:Nat):RO:=⟨.box (.tmp k),some r,none,[],none⟩
abbrev N(k r:Nat)(af:bY):RO:=⟨.len (.tmp k),some r,none,af,none⟩
abbrev U(k r:Nat)(af:bY):RO:=⟨.un .not (.tmp k),some r,none,af,none⟩
abbrev C(op:BinOp)(x:Nat)(k:Int)(r:Nat)(af:bY):RO:=⟨.bin op (.tmp x) (.eD (.v (.int .i64 k))),some r,none,af,none⟩
abbrev D(op:BinOp)(x y r b:Nat)(w:Bool)(af:bY):RO:=⟨.bin op (.tmp x) (.tmp y),some r,some (b,w),af,none⟩
abbrev E(op:BinOp)(x:Nat)(k:Int)(r b:Nat)(w:Bool)(af:bY):RO:=⟨.bin op (.tmp x) (.eD (.v (.int .i64 k))),some r,some (b,w),af,none⟩
abbrev H(x r b:Nat)(w:Bool)(af:bY):RO:=⟨.len (.tmp x),some r,some (b,w),af,none⟩
abbrev K(x r b:Nat)(w:Bool)(af:bY):RO:=⟨.un .not (.tmp x),some r,some (b,w),af,none⟩
abbrev V(k:Int):DV:=.v (.int .i64 k)
abbrev k(l:bY)(k:Nat):bY:=l++List.range (k+1)
attribute [simp] t i o s g m n l L a b c e x S p q u v w y Y j F R I Z B N U C D E H K V
section
variable{base nt:Nat}{W M W':dJ}{w0:World}{st:nO}{d5:Bool}{f:FuncId}{d:DC}{anM:Array Value}
variable [bh] [cG]
inductive cV where
 |iZ (t:Nat)
 |cell (a n:Nat) (agg:Bool)
def kj(P:Program):ResultVar->Option cV
 |.tmp t=>some (.iZ t)
 |.cell a t=>match P.underlying t,P.info? t with
  |some d,some i=>some (.cell a i.size (bu d))
  |_,_=>none
def cV.kw(st:nO):cV->my
 |.iZ t=>⟨True,st.tmps t,none⟩
 |.cell a n agg=>eE n agg st.ab (st.tmps a)
def oM(d5:Bool)(st:nO):List cV->Prop
 |[]=>True
 |r::rs=>((r.kw st).ok/\yg d5 st.ab (r.kw st).val)/\oM d5 st rs
def rK(st:nO)(rs:List cV):ar:=rs.map λr=>nR st.ab (r.kw st).val
def Oq(rs:List cV)(t:T)(st:nO):Prop:=
 oM true st rs/\t=(match rK st rs with|[x]=>x|ts=>.dh ts)
def F3(rs:List cV)(r:fp)(st:nO):Prop:=
 oM false st rs/\st.ab=r.ab/\r.val=.v (match rK st rs with|[x]=>x|ts=>.dh ts)
def JU:Option T->DV
 |some t=>.v t
 |none=>.skip
def mh(ts:ar):nO:=⟨λk=>JU ts[k]?,λ_=>none,1000,1000,[]⟩
def F4:Option DV->DV
 |some d=>d
 |none=>.skip
def ut(args:bD)(ab:bA)(N:Nat):nO:=⟨λk=>F4 args[k]?,ab,N,N,[]⟩
def aeo(rs:List cV)(t:T):Exit->nO->Prop
 |.normal,st|.ret,st=>Oq rs t st
 |_,_=>False
def UD(rs:List cV)(r:fp):Exit->nO->Prop
 |.normal,st|.ret,st=>F3 rs r st
 |_,_=>False
section
variable{P:Program}
def UE{w:World}{a:Act}{L:Loc}(h:R0 base W M w0 nt st.tmps st.ab a w L)(hW:d5=true->∀r o b,st.ab r=some o->L.own r o=some b->¬W' b)(K4:∀b,W' b->WW W st.ab L b){rv:ResultVar}{r:cV}(hr:kj P rv=some r)(aB:(r.kw st).ok/\yg d5 st.ab (r.kw st).val):
  ∃v,((match rv with|.tmp t=>pure (a.tmps.getD t Go.undef)|.cell b t=>do loadVar t (<-asAddr (a.tmps.getD b Go.undef))):Sem Value).run P w=.ok v w/\aO w W' (nR st.ab (r.kw st).val) v:=by
 have je:∀{d:DV} {x:Value},ap w W st.ab L d x->yg d5 st.ab d->aO w W' (nR st.ab d) x:=λhd hk=>
  (rz (d5:=d5) W' h.o hW K4).1 _ _ hd hk
 cases rv with
 |tmp t=>
  simp only[kj,bN]at hr;subst hr;exact⟨_,rfl,je (h.tmps t) aB.2⟩
 |cell b t=>
  simp only[kj]at hr;split at hr
  ·rename_i d i hd hi;simp only[bN]at hr;subst hr;simp only[cV.kw]at aB;obtain⟨hp,v,bq,hv⟩:=ql h.o hd hi (h.tmps b) aB.1;refine⟨v, ?_,je hv aB.2⟩;have hpt:∃p,a.tmps.getD b Go.undef=.pointer (some p):=by
    have hx:=h.tmps b;have ho:=aB.1;cases hq:st.tmps b with
    |ptr r off=>rw[hq]at hx;simp only[ap]at hx;exact⟨_,hx.2⟩
    |jr an j off=>rw[hq]at hx;simp only[ap]at hx;obtain⟨_,_,_,hx,_⟩:=hx;exact⟨_,hx⟩
    |gq cs off=>rw[hq]at hx;simp only[ap]at hx;obtain⟨_,_,hx,_⟩:=hx;exact⟨_,hx⟩
    |gU r aX j off=>rw[hq]at hx;simp only[ap]at hx;obtain⟨⟨_,_,hx⟩,_⟩:=hx;exact⟨_,hx⟩
    |v t'=>
     rw[hq]at hx ho;cases t' with
     |box cs=>simp only[ap,aO]at hx;obtain⟨_,_,hx,_⟩:=hx;exact⟨_,hx⟩
     |_=>exact ho.elim
    |_=>rw[hq]at ho;exact ho.elim
   obtain⟨p,hp⟩:=hpt;show Sem.run P (do loadVar t (<-asAddr (a.tmps.getD b Go.undef))) w=_;rw[hp]at bq⊢;simpa [Instr.loadAt,Instr.sureAddr,asAddr]using bq
  ·cases hr
def H0{base:Nat}{W M:dJ}{w0 w:World}{nt:Nat}{st:nO}{a:Act}{L:Loc}(h:R0 base W M w0 nt st.tmps st.ab a w L){d5:Bool}{W':dJ}(hW:d5=true->∀r o b,st.ab r=some o->L.own r o=some b->¬W' b)(K4:∀b,W' b->WW W st.ab L b):∀{EP:List ResultVar} {rs:List cV},EP.mapM (kj P)=some rs->oM d5 st rs->
  ∃vs,(EP.mapM (λrv=>((match rv with|.tmp t=>pure (a.tmps.getD t Go.undef)|.cell b t=>do loadVar t (<-asAddr (a.tmps.getD b Go.undef))):Sem Value))).run P w=.ok vs w/\dq w W' (rK st rs) vs
 |[],rs,hr,_=>by simp at hr;subst hr;exact⟨[],by simp,by simp[rK,dq]⟩
 |rv::EP,rs,hr,aB=>by
  simp only[LQ,I7,gV,fO,bN]at hr;obtain⟨r,mU,QL,jy,rfl⟩:=hr;simp only[oM]at aB;obtain⟨v,h1,h2⟩:=UE h hW K4 mU aB.1;obtain⟨vs,h3,h4⟩:=H0 h hW K4 jy aB.2;refine⟨v::vs, ?_, ?_⟩
  ·rw[LQ];simp only[Sem.run_bind,h1,Result.andThen_ok,h3,Sem.run_pure]
  ·simp only[rK,l8,dq];exact⟨v,vs,rfl,h2,h4⟩
def oN{w:World}{a:Act}{L:Loc}(h:R0 base W M w0 nt st.tmps st.ab a w L)(hW:d5=true->∀r o b,st.ab r=some o->L.own r o=some b->¬W' b)(K4:∀b,W' b->WW W st.ab L b){fn:Func}{rs:List cV}(hr:fn.results.toList.mapM (kj P)=some rs){t:T}(aB:oM d5 st rs/\t=(match rK st rs with|[x]=>x|ts=>.dh ts)):
  ∃v,(results fn a.tmps).run P w=.ok v w/\aO w W' t v:=by
 obtain⟨h1,rfl⟩:=aB;obtain⟨vs,h2,h3⟩:=H0 h hW K4 hr h1;have hm:(fn.results.mapM (λrv=>((match rv with|.tmp t=>pure (a.tmps.getD t Go.undef)|.cell b t=>do loadVar t (<-asAddr (a.tmps.getD b Go.undef))):Sem Value))).run P w=.ok vs.toArray w:=by
  rw[Sb];simp only[Sem.run_map,h2,Result.andThen_ok]
 have hl:vs.length=(rK st rs).length:=dq.length h3;refine⟨if h:vs.toArray.size=1 then vs.toArray[0]else .tuple vs.toArray, ?_, ?_⟩
 ·have nT:(results fn a.tmps)=(do
   let vs<-fn.results.mapM (λrv=>((match rv with|.tmp t=>pure (a.tmps.getD t Go.undef)|.cell b t=>do loadVar t (<-asAddr (a.tmps.getD b Go.undef))):Sem Value))
   pure (if h:vs.size=1 then vs[0]else .tuple vs)):=rfl
  rw[nT];simp only[Sem.run_bind,hm,Result.andThen_ok,Sem.run_pure]
 ·cases uW:rK st rs with
  |nil=>
   rw[uW]at hl h3;have:vs=[]:=kx (by simpa using hl);subst this;simp only[aO];exact⟨#[],by simp,by simp[dq]⟩
  |cons x xs=>
   rw[uW]at hl h3;cases xs with
   |nil=>
    simp only[dq]at h3;obtain⟨v,fW,rfl,hv,rfl⟩:=h3;simpa using hv
   |cons y ys=>
    have:vs.toArray.size≠1:=by simp at hl⊢;omega
    rw[dif_neg this];simp only[aO];exact⟨_,rfl,by simpa using h3⟩
def Lm{κ:kS}{st:RS}{a:Act}{w:World}{L:Loc}(hJ:κ.J=none)(h:dL κ nt st a w L){D:Nat}{Ds:bY}(hd:a.defers=(D::Ds).map mark)(hn:(D::Ds).Nodup)(hk:∀D'∈D::Ds,w.heap[D']? =some (.deferred (some []))/\κ.gw.heap.size<=D'):
  dL κ nt st {a with defers:=Ds.map mark} (w.putObj D (.deferred none)) L:=by
 obtain⟨W,base,M,w0,fF,h0⟩:=h.ex;have hD:=hk D (KY ..);have dR:=(kf.1 hD.1).1;have FX:∀b,b≠D->(w.putObj D (.deferred none)).heap[b]? =w.heap[b]? :=λb hb=>World.putObj_heap_other hb;have fG:(w.putObj D (.deferred none)).heap.size=w.heap.size:=by simp[World.putObj]
 have wv:=fF;unfold kS.At at wv;simp only[hJ]at wv;obtain⟨_,rfl,rfl,rfl,rfl⟩:=wv;have hbD:κ.base<=D:=wB (h.bg hJ) hD.2;have kV:∀(b:Nat) c e fr,w.heap[b]? =some (.cells c e fr)->(w.putObj D (.deferred none)).heap[b]? =some (.cells c e fr):=λb c e fr hb=>by
  rw[FX b (by rintro rfl;rw[hD.1]at hb;cases hb)];exact hb
 have qq:KeepsC (WW κ.W st.ab L) w (w.putObj D (.deferred none)):=⟨by rw[fG];exact iV _,λb c e fr hb _=>kV b c e fr hb⟩;have kd:∀(d:DV) (x:Value),ap w κ.W st.ab L d x->ap (w.putObj D (.deferred none)) κ.W st.ab L d x:=λd x=>(jH qq (SizeOf.sizeOf d+1)).1 d x (by omega);have hO:bJ κ.base κ.W κ.M κ.w0 st.ab (w.putObj D (.deferred none)) L:=oF h0.o hD.1 (λe=>e) hbD;refine⟨⟨κ.W,κ.base,κ.M,κ.w0,fF,h0.size,λt=>kd _ _ (h0.tmps t),hO⟩, ?_,⟨Ds,rfl,(RX.1 hn).2,λD' Sy=>?_,λh=>by rw[hJ]at h;cases h⟩,h.bg,h.je⟩
 ·have Wn:=h.er;refine⟨⟨⟨by rw[fG];exact Wn.bV.size,λb c e fr hb Ln=>kV _ _ _ _ (Wn.bV.gp b c e fr hb Ln)⟩,λb hb=>?_,λb r hb=>?_⟩,Wn.sub,Wn.fix,Wn.aR,Wn.yl⟩
  ·rw[FX b (by have:=(kf.1 hb).1;rw[kS.rE]at this;omega)];exact Wn.bV.HG b hb
  ·rw[FX b (by have:=(kf.1 hb).1;rw[kS.rE]at this;omega)];exact Wn.bV.KU b r hb
 ·have cZ:D'≠D:=λe=>(RX.1 hn).1 (e▸Sy);have:=hk D' (Cq _ Sy);exact⟨by rw[FX D' cZ];exact this.1,this.2⟩
def leaves{κ:kS}{nt:Nat}{st:RS}{fn:Func}{R:Ending->World->Prop}(hJ:κ.J=none)(hR:∀(a:Act) (w:World) (L:Loc),dL κ nt st a w L->∃v,(results fn a.tmps).run P w=.ok v w/\R (.returned v) w):
  ∀(Ds:bY) (a:Act) (w:World) (L:Loc),dL κ nt st a w L->a.defers=Ds.map mark->Ds.Nodup->(∀D∈Ds,w.heap[D]? =some (.deferred (some []))/\κ.gw.heap.size<=D)->
   LeavesInM Fence.wide 0 P fn a.tmps R (Ds.map mark) .returning w
 |[],a,w,L,h,_,_,_=>by
  obtain⟨v,h1,h2⟩:=hR a w L h;exact⟨v,h1,h2⟩
 |D::Ds,a,w,L,h,hd,hn,hk=>by
  refine⟨by simp,.inl ⟨D,w.putObj D (.deferred none),rfl,run_takeDeferred (hk D (KY ..)).1, ?_⟩⟩;have h':=Lm hJ h hd hn hk;obtain⟨Ds',e1,_,e3,_⟩:=h'.defers;have e:Ds'=Ds:=by
   have hi:∀(l l':bY),l.map mark=l'.map mark->l=l':=by
    intro l;induction l with
    |nil=>intro l' e;cases l'<;>simp_all
    |cons x l ih=>
     intro l' e;cases l' with
     |nil=>simp at e
     |cons y l'=>
      simp only[l8,BE,mark,Deferred.mk.injEq,Target.collected.injEq,QM]at e;rw[e.1,ih l' e.2]
   exact hi _ _ e1.symm
  subst e;exact leaves hJ hR Ds' {a with defers:=Ds'.map mark} _ L h' rfl (RX.1 hn).2 e3
def av(P:Program)(f:FuncId)(nt:Nat)(d:DC)(rs:List cV):Prop:=
 ∃fn,P.funcs[f]? =some fn/\fn.ntmps=nt/\fn.body.map (bv P nt)=some d/\fn.results.toList.mapM (kj P)=some rs/\(fn.name== "runtime.NumGoroutine")=false
abbrev ci(n:Nat):List cV:=[.iZ n]
def av.of{f:FuncId}{nt:Nat}{d:DC}{rs:List cV}(fn:Func)(h:(P.funcs[f]?,fn.ntmps,fn.body.map (bv P nt),fn.results.toList.mapM (kj P),fn.name== "runtime.NumGoroutine")=(some fn,nt,some d,some rs,false)):av P f nt d rs:=by
 simp only[l7]at h;exact⟨fn,h⟩
def av.entry{rs:List cV}(h:av P f nt d rs):wo P f:=by
 obtain⟨fn,h1,_,h3,_,h5⟩:=h;obtain⟨c,h2,_⟩:=fE.1 h3;exact⟨fn,h1,by simpa using h5,by simp[h2]⟩
def mG{n:Nat}{k:Nat}{v:Value}(h:anM.toList[k]? =some v):(anM++Array.replicate (n-anM.size) Go.undef).getD k Go.undef=v:=by
 have dR:k<anM.size:=by have:=(E9.1 h).1;simpa using this
 rw[BY,ZcY dR];simp only[Wy]at h;rw[h];rfl
def mH{n:Nat}{k:Nat}(h:anM.size<=k):(anM++Array.replicate (n-anM.size) Go.undef).getD k Go.undef=Go.undef:=by
 rw[BY,Array.getElem?_append_right h,Array.getElem?_replicate];split<;>rfl
def av.ok{rs:List cV}(h:av P f nt d rs){ts:ar}{t:T}(dI:ts.length<=nt)(k:aa P nt d (aeo rs t) (mh ts)):aI P f ts t:=by
 have wK:=h.entry;obtain⟨fn,sK,rfl,h3,hr,_⟩:=h;obtain⟨c,hb,hc⟩:=fE.1 h3;refine⟨wK,λW w anM hW hg eZ=>?_⟩;have hl:=dq.length eZ;simp only[HM]at hl;have rL:F1 ⟨W,λ_=>none,⟨λ_=>0,λ_=>Go.undef,0⟩,w,w.heap.size,λ_=>False,w,none,none,none⟩ fn.ntmps (mh ts) {tmps:=anM++Array.replicate (fn.ntmps-anM.size) Go.undef,defers:=[]} w ⟨λ_=>0,λ_=>Go.undef,0⟩:=by
  refine⟨⟨⟨W,w.heap.size,λ_=>False,w,⟨λ_=>rfl,rfl,rfl,rfl,rfl⟩,by simp;omega,λk=>?_,⟨Fr.refl (iV _),(λr o h=>by cases h),(λr r' o o' b _ h=>by cases h),(λr o b h=>by cases h),hW,hg.start⟩⟩,
   fX.bZ (ch.refl _ _),⟨[],rfl,QY,(λ_ h=>by cases h),λ_=>rfl⟩,λ_=>iV _,⟨0,λ_ _=>rfl⟩⟩,λ_ _=>rfl,λ_ _=>rfl,λh=>by cases h⟩
  simp only[mh];cases hk:ts[k]? with
  |some x=>
   obtain⟨v,hv,nG⟩:=dq.get eZ hk;simp only[mG hv,JU,ap];refine aO.aD (ch.refl W w).toKeepsC ?_ x v nG;rintro b hb (h|⟨r,o,h,_⟩)
   ·exact h
   ·cases h
  |none=>
   have yx:anM.size<=k:=by
    have:=EO.1 hk;omega
   simp only[JU,ap,mH yx]
 refine callsIn_wide.1 (callsIn_of_wp_marks (n:=0) sK hb trivial ?_);refine wpIn_mono (k.run c hc 0 _ _ _ _ ⟨λJ hJ=>(by cases hJ),λl r s hY=>(by cases hY),λl hl=>(by cases hl)⟩ rL) ?_;rintro e a' w' ⟨dD,L',q,r'⟩;have done:Oq rs t dD->LeavesInM Fence.wide 0 P fn a'.tmps (λe w'=>∃v,e=.returned v/\qZ w.heap.size w w'/\aO w' W t v) a'.defers .returning w':=by
  intro hq;obtain⟨Ds,h1,h2,h3,_⟩:=r'.r.defers;rw[h1];refine leaves (κ:=⟨W,λ_=>none,⟨λ_=>0,λ_=>Go.undef,0⟩,w,w.heap.size,λ_=>False,w,none,none,none⟩) rfl ?_ Ds a' w' L' r'.r h1 h2 h3;intro a2 w2 L2 h4;obtain⟨W',H1,M',QR,fF,h0⟩:=h4.ex;obtain⟨_,e1,e2,e3,e4⟩:=fF
  replace h0:R0 w.heap.size W (λ_=>False) w fn.ntmps dD.tmps dD.ab a2 w2 L2:=by rw[e1,e2,e3,e4]at h0;exact h0
  obtain⟨v,k1,k2⟩:=oN (st:=dD) h0 (d5:=true) (W':=W) (λ_ r o b e1 e2=>h0.o.oh r o b e1 e2) (λb hb=>.inl hb) hr hq;have fr:=h0.o.fr;exact⟨v,k1,v,rfl,⟨⟨fr.os,fr.tape,fr.output,fr.size,λk hk=>fr.block k hk (λx=>x)⟩,fr.drawn⟩,k2⟩
 cases e with
 |normal=>exact done q
 |ret=>exact done q
 |_=>exact q.elim
def av.TN{rs:List cV}(h:av P f nt d rs){args:bD}{ab:bA}{r:fp}{N:Nat}(hN:∀r,N<=r->ab r=none)(dI:args.length<=nt)(k:aa P nt d (UD rs r) (ut args ab N)):b9 P f args ab r:=by
 have wK:=h.entry;obtain⟨fn,sK,rfl,h3,hr,_⟩:=h;obtain⟨c,hb,hc⟩:=fE.1 h3;refine⟨wK,λbase W M w0 w L anM hO FM=>?_⟩;have hl:=FM.1;simp only[HM]at hl;have rL:F1 ⟨W,ab,L,w,base,M,w0,none,none,none⟩ fn.ntmps (ut args ab N) {tmps:=anM++Array.replicate (fn.ntmps-anM.size) Go.undef,defers:=[]} w L:=by
  refine⟨⟨⟨W,base,M,w0,⟨λ_=>rfl,rfl,rfl,rfl,rfl⟩,by simp;omega,λk=>?_,hO⟩,
   fX.bZ (ch.refl _ _),⟨[],rfl,QY,(λ_ h=>by cases h),λ_=>rfl⟩,λ_=>wB hO.fr.gz hO.fr.size,⟨N,hN⟩⟩,hN,hN,λh=>by cases h⟩
  simp only[ut];cases hk:args[k]? with
  |some x=>
   have hv:∃v,anM.toList[k]? =some v:=by
    have:k<anM.size:=by rw[hl];exact(E9.1 hk).1
    exact⟨anM[k],by simp[this]⟩
   obtain⟨v,hv⟩:=hv;simp only[mG hv,F4];exact FM.2 k x v hk hv
  |none=>
   have yx:anM.size<=k:=by
    have:=EO.1 hk;omega
   simp only[F4,ap,mH yx]
 refine callsIn_wide.1 (callsIn_of_wp_marks (n:=0) sK hb trivial ?_);refine wpIn_mono (k.run c hc 0 _ _ _ _ ⟨λJ hJ=>(by cases hJ),λl r s hY=>(by cases hY),λl hl=>(by cases hl)⟩ rL) ?_;rintro e a' w' ⟨dD,L',q,r'⟩;have done:F3 rs r dD->LeavesInM Fence.wide 0 P fn a'.tmps (λe w'=>∃v L',e=.returned v/\bJ base W M w0 r.ab w' L'/\fX W ab L w r.ab L' w'/\ap w' W r.ab L' r.val v) a'.defers .returning w':=by
  rintro⟨hq1,QS,hq3⟩;obtain⟨Ds,h1,h2,h3,_⟩:=r'.r.defers;rw[h1];refine leaves (κ:=⟨W,ab,L,w,base,M,w0,none,none,none⟩) rfl ?_ Ds a' w' L' r'.r h1 h2 h3;intro a2 w2 L2 h4;obtain⟨W',H1,M',QR,fF,h0⟩:=h4.ex;obtain⟨_,e1,e2,e3,e4⟩:=fF
  replace h0:R0 base W M w0 fn.ntmps dD.tmps dD.ab a2 w2 L2:=by rw[e1,e2,e3,e4]at h0;exact h0
  obtain⟨v,k1,k2⟩:=oN (st:=dD) h0 (d5:=false) (W':=WW W dD.ab L2) (λx=>by cases x) (λb hb=>hb) hr ⟨hq1,rfl⟩;have UF:=h0.o;have F7:=h4.er;simp only[QS]at UF F7 k2;refine⟨v,k1,v,L2,rfl,UF,F7, ?_⟩;rw[hq3];simp only[ap];exact k2
 cases e with
 |normal=>exact done q
 |ret=>exact done q
 |_=>exact q.elim
end
end
end Go.DM
namespace Go.DM
open Go.RowKit
variable [bh] [cG]
section
def dy(Γ:gP)(az:Nat):ah->RS->(RS->Prop)->Prop
 |[],st,K=>K st
 |r::rs,st,K=>
  match r.guard with
  |none=>cL r st.tmps/\oE r st.ab (post Γ az r st).ab/\(post Γ az r st).ok/\dy Γ az rs ⟨bW st.tmps r.dst (post Γ az r st).val,(post Γ az r st).ab,(post Γ az r st).todo⟩ K
  |some (s,iY)=>
   match st.tmps s with
   |.v (.bool b)=>(b=iY->cL r st.tmps/\oE r st.ab (post Γ az r st).ab/\(post Γ az r st).ok/\dy Γ az rs ⟨bW (bW st.tmps (some s) (.v (.bool iY))) r.dst (post Γ az r st).val,(post Γ az r st).ab,(post Γ az r st).todo⟩ K)/\
     (b= !iY->dy Γ az rs ⟨bW (bW st.tmps (some s) (.v (.bool (!iY)))) r.dst .skip,st.ab,st.todo⟩ K)
   |.skip=>dy Γ az rs ⟨bW st.tmps r.dst .skip,st.ab,st.todo⟩ K
   |_=>False
def gM{ρ:cQ}{s:Nat}{v:DV}(h:ρ s=v):bW ρ (some s) v=ρ:=by
 funext x;simp only[bW];split
 ·rename_i e;rw[e,h]
 ·rfl
def gE{Γ:gP}{az:Nat}:∀(rs:ah) (st:RS) (K:RS->Prop),dy Γ az rs st K->gD Γ az rs st/\K (cO Γ az rs st)
 |[],st,K,h=>⟨trivial,h⟩
 |r::rs,st,K,h=>by
  simp only[dy]at h;simp only[gD,cO];have yes:dY r.guard st.tmps=some true->(cL r st.tmps/\oE r st.ab (post Γ az r st).ab/\(post Γ az r st).ok/\dy Γ az rs ⟨bW st.tmps r.dst (post Γ az r st).val,(post Γ az r st).ab,(post Γ az r st).todo⟩ K)->(bT Γ az r st/\gD Γ az rs (cR Γ az r st))/\K (cO Γ az rs (cR Γ az r st)):=by
   rintro hw ⟨ht,Sc,aB,hk⟩;have e1:cR Γ az r st=⟨bW st.tmps r.dst (post Γ az r st).val,(post Γ az r st).ab,(post Γ az r st).todo⟩:=by simp only[cR,hw]
   have e2:bT Γ az r st:=by simp only[bT,hw];exact⟨aB,ht,Sc⟩
   rw[e1];have:=gE rs _ K hk;exact⟨⟨e2,this.1⟩,this.2⟩
  have no:dY r.guard st.tmps=some false->dy Γ az rs ⟨bW st.tmps r.dst .skip,st.ab,st.todo⟩ K->(bT Γ az r st/\gD Γ az rs (cR Γ az r st))/\K (cO Γ az rs (cR Γ az r st)):=by
   rintro hw hk;have e1:cR Γ az r st=⟨bW st.tmps r.dst .skip,st.ab,st.todo⟩:=by simp only[cR,hw]
   have e2:bT Γ az r st:=by simp only[bT,hw]
   rw[e1];have:=gE rs _ K hk;exact⟨⟨e2,this.1⟩,this.2⟩
  cases hg:r.guard with
  |none=>rw[hg]at h;exact yes (by simp[dY,hg]) h
  |some g=>
   obtain⟨s,iY⟩:=g;rw[hg]at h;simp only at h;cases hs:st.tmps s with
   |skip=>rw[hs]at h;exact no (by simp[dY,hg,hs]) h
   |v t=>
    rw[hs]at h;cases t with
    |bool b=>
     simp only at h;by_cases hb:b=iY
     ·subst hb;rw[gM hs]at h;exact yes (by simp[dY,hg,hs]) (h.1 rfl)
     ·have ls:b= !iY:=by cases b<;>cases iY<;>simp_all
      subst ls;rw[gM hs]at h;exact no (by simp[dY,hg,hs]) (h.2 rfl)
    |_=>exact h.elim
   |_=>rw[hs]at h;exact h.elim
def anT(Γ:gP)(az:Nat)(rs:ah)(tm:cQ)(ob:bA)(td:List (ar))(K:RS->Prop)(dst:Option Nat)(e:my):Prop:=
 e.ok/\dy Γ az rs ⟨bW tm dst e.val,bQ ob e.put,td⟩ K
def zc(Γ:gP)(az:Nat)(rs:ah)(tm:cQ)(K:RS->Prop)(dst:Option Nat)(e:abg):Prop:=
 e.ok/\dy Γ az rs ⟨bW tm dst e.val,e.ab,e.todo⟩ K
def jv(Γ:gP)(az:Nat)(d:mQ)(rs:ah)(tm:cQ)(ob:bA)(td:List (ar))(K:RS->Prop)(dst:Option Nat)(eu:cQ):Prop:=
 if mR d then zc Γ az rs eu K dst (ku Γ d tm ob td)else anT Γ az rs eu ob td K dst (cj Γ d (bm az dst) tm ob)
def F8(Γ:gP)(az:Nat)(d:mQ)(rs:ah)(tm:cQ)(ob:bA)(td:List (ar))(K:RS->Prop)(dst:Option Nat)(s:Nat)(iY:Bool)(g:DV):Prop:=
 match g with
 |.v (.bool b)=>(b=iY->jv Γ az d rs tm ob td K dst (bW tm (some s) (.v (.bool iY))))/\
   (b= !iY->dy Γ az rs ⟨bW (bW tm (some s) (.v (.bool (!iY)))) dst .skip,ob,td⟩ K)
 |.skip=>dy Γ az rs ⟨bW tm dst .skip,ob,td⟩ K
 |_=>False
section
variable{Γ:gP}{az:Nat}{st:RS}{K:RS->Prop}{rs:ah}{tm eu:cQ}{ob:bA}{td:List (ar)}{dst:Option Nat}
def UG(ok:Prop)(v:DV)(p:Option (Nat×Ob)):anT Γ az rs tm ob td K dst ⟨ok,v,p⟩=(ok/\dy Γ az rs ⟨bW tm dst v,bQ ob p,td⟩ K):=rfl
def Ot(ok:Prop)(v:DV)(JV:bA)(td':List (ar)):zc Γ az rs tm K dst ⟨ok,v,JV,td'⟩=(ok/\dy Γ az rs ⟨bW tm dst v,JV,td'⟩ K):=rfl
def Ou:anT Γ az rs tm ob td K dst cb=False:=by simp[anT,cb]
def Lo(f:FuncId)(args:List be):jv Γ az (.callS f args) rs tm ob td K dst eu=zc Γ az rs eu K dst (ku Γ (.callS f args) tm ob td):=by simp[jv,mR]
def Lp(x:be)(args:List be):jv Γ az (.callv x args) rs tm ob td K dst eu=zc Γ az rs eu K dst (ku Γ (.callv x args) tm ob td):=by simp[jv,mR]
def jZ(d:mQ)(s:Nat)(b iY:Bool):F8 Γ az d rs tm ob td K dst s iY (.v (.bool b))=((b=iY->jv Γ az d rs tm ob td K dst (bW tm (some s) (.v (.bool iY))))/\
   (b= !iY->dy Γ az rs ⟨bW (bW tm (some s) (.v (.bool (!iY)))) dst .skip,ob,td⟩ K)):=rfl
def Ov:dy Γ az [] st K=K st:=rfl
def rN{d:mQ}{g:Option (Nat×Bool)}{af:bY}{l:Option (bY)}:((post Γ az ⟨d,dst,g,af,l⟩ ⟨tm,ob,td⟩).ok/\dy Γ az rs ⟨bW eu dst (post Γ az ⟨d,dst,g,af,l⟩ ⟨tm,ob,td⟩).val,(post Γ az ⟨d,dst,g,af,l⟩ ⟨tm,ob,td⟩).ab,(post Γ az ⟨d,dst,g,af,l⟩ ⟨tm,ob,td⟩).todo⟩ K)=jv Γ az d rs tm ob td K dst eu:=by
 unfold post jv;cases h:mR d<;>simp[anT,zc,kw]
def wL{d:mQ}{g:Option (Nat×Bool)}{af:bY}{o o':bA}:oE ⟨d,dst,g,af,none⟩ o o'=True:=eq_true λ_ l h=>by cases h
def H2(l:bY)(o o':bA):Prop:=∀n,n∉l->o' n=o n
def wM{d:mQ}{g:Option (Nat×Bool)}{af l:bY}:oE ⟨d,dst,g,af,some l⟩ ob (post Γ az ⟨d,dst,g,af,some l⟩ ⟨tm,ob,td⟩).ab=(mR d=true->H2 l ob (ku Γ d tm ob td).ab):=by
 unfold oE H2 post;by_cases h:mR d=true
 ·simp[h]
 ·simp[h]
def F9(d:mQ)(af:bY):dy Γ az (⟨d,dst,none,af,none⟩::rs) ⟨tm,ob,td⟩ K=jv Γ az d rs tm ob td K dst tm:=by
 simp only[dy,cL,wL,E4];exact rN
def Ga(d:mQ)(af:bY)(l:bY):
  dy Γ az (⟨d,dst,none,af,some l⟩::rs) ⟨tm,ob,td⟩ K=(cL ⟨d,dst,none,af,some l⟩ tm/\(mR d=true->H2 l ob (ku Γ d tm ob td).ab)/\jv Γ az d rs tm ob td K dst tm):=by
 simp only[dy];rw[rN,wM]
@[simp low] def kY(d:mQ)(s:Nat)(iY:Bool)(af:bY):
  dy Γ az (⟨d,dst,some (s,iY),af,none⟩::rs) ⟨tm,ob,td⟩ K=F8 Γ az d rs tm ob td K dst s iY (tm s):=by
 simp only[dy,F8,cL,wL,E4];rw[rN]
end
section
variable{Γ:gP}{az:Nat}{K:RS->Prop}{rs:ah}{tm:cQ}{ob:bA}{td:List (ar)}{dst:Option Nat}{d:mQ}{s:Nat}{af:bY}
@[simp] def adl(h:tm s=.v (.bool true)):dy Γ az (⟨d,dst,some (s,true),af,none⟩::rs) ⟨tm,ob,td⟩ K=jv Γ az d rs tm ob td K dst tm:=by
 rw[kY,h,jZ,gM h];simp
@[simp] def adm(h:tm s=.v (.bool false)):dy Γ az (⟨d,dst,some (s,false),af,none⟩::rs) ⟨tm,ob,td⟩ K=jv Γ az d rs tm ob td K dst tm:=by
 rw[kY,h,jZ,gM h];simp
@[simp] def adn(h:tm s=.v (.bool true)):dy Γ az (⟨d,dst,some (s,false),af,none⟩::rs) ⟨tm,ob,td⟩ K=dy Γ az rs ⟨bW tm dst .skip,ob,td⟩ K:=by
 rw[kY,h,jZ];simp[gM h]
@[simp] def ado(h:tm s=.v (.bool false)):dy Γ az (⟨d,dst,some (s,true),af,none⟩::rs) ⟨tm,ob,td⟩ K=dy Γ az rs ⟨bW tm dst .skip,ob,td⟩ K:=by
 rw[kY,h,jZ];simp[gM h]
@[simp] def adp{iY:Bool}(h:tm s=.skip):dy Γ az (⟨d,dst,some (s,iY),af,none⟩::rs) ⟨tm,ob,td⟩ K=dy Γ az rs ⟨bW tm dst .skip,ob,td⟩ K:=by
 rw[kY,h];rfl
end
def look:iE->Nat->DV
 |[],_=>.undef
 |(j,v)::l,k=>if k=j then v else look l k
def cC:d0->Nat->Option Ob
 |[],_=>none
 |(j,o)::l,k=>if k=j then some o else cC l k
def Ow(f:cQ)(k:Nat)(v:DV)(x:Nat):bW f (some k) v x=if x=k then v else f x:=rfl
def Lq(f:cQ)(v:DV):bW f none v=f:=rfl
def Lr(f:bA):bQ f none=f:=rfl
def zd(f:bA)(r:Nat)(o:Ob)(x:Nat):bQ f (some (r,o)) x=if x=r then some o else f x:=rfl
def kH(j:Nat)(v:DV)(l:iE)(k:Nat):look ((j,v)::l) k=if k=j then v else look l k:=rfl
def Ox(k:Nat):look [] k=.undef:=rfl
def rO(j:Nat)(o:Ob)(l:d0)(k:Nat):cC ((j,o)::l) k=if k=j then some o else cC l k:=rfl
def H3(k:Nat):cC [] k=none:=rfl
def Oy(l:d0)(r:Nat)(o:Ob):bQ (cC l) (some (r,o))=cC ((r,o)::l):=rfl
def kZ(ks:bY)(tm:cQ):iE:=ks.map λk=>(k,tm k)
def wN(k:Nat)(ks:bY)(tm:cQ):kZ (k::ks) tm=(k,tm k)::kZ ks tm:=rfl
def Ls(tm:cQ):kZ [] tm=[]:=rfl
def la(tm:cQ):∀(ks:bY) (k:Nat),look (kZ ks tm) k=.undef\/look (kZ ks tm) k=tm k
 |[],_=>.inl rfl
 |j::ks,k=>by
  rw[wN,kH];split
  ·rename_i h;exact .inr (by rw[h])
  ·exact la tm ks k
def Le.pX{st:nO}{tm:cQ}(h:∀k,tm k=.undef\/tm k=st.tmps k):Le st ⟨tm,st.ab,st.az,st.low,st.todo⟩:=λκ nt a w L r=>
 ⟨L,⟨by
  obtain⟨W,base,M,w0,fF,h0⟩:=r.r.ex;exact⟨W,base,M,w0,fF,h0.size,λt=>by
   rcases h t with e|e
   ·show ap w W st.ab L (tm t) _;rw[e];simp[ap]
   ·show ap w W st.ab L (tm t) _;rw[e];exact h0.tmps t,h0.o⟩,r.r.er,r.r.defers,r.r.bg,r.r.je⟩,r.fresh,r.low,r.it⟩
def Lt(ts:ar):Le (mh ts) ⟨look ((ts.map .v).zipIdx.map λp=>(p.2,p.1)),cC [],1000,1000,[]⟩:=by
 have key:∀(ts:ar) (i k:Nat),look (((ts.map .v).zipIdx i).map λp=>(p.2,p.1)) k=.undef\/look (((ts.map .v).zipIdx i).map λp=>(p.2,p.1)) k=JU (if i<=k then ts[k-i]? else none):=by
  intro ts;induction ts with
  |nil=>intro i k;exact .inl rfl
  |cons t ts ih=>
   intro i k;simp only[l8,ZbG,kH];split
   ·rename_i h;subst h;exact .inr (by simp[JU])
   ·rename_i h;rcases ih (i+1) k with e|e
    ·exact .inl e
    ·right;rw[e];by_cases hk:i+1<=k
     ·rw[uV hk,uV (by omega),show k-i=(k-(i+1))+1 by omega,EN]
     ·have:¬i<=k:=by omega
      rw[mL hk,mL this]
 refine Le.trans (Le.pX (st:=mh ts) (tm:=look ((ts.map .v).zipIdx.map λp=>(p.2,p.1))) λk=>?_) (λκ nt a w L r=>⟨L,r⟩);have:=key ts 0 k;simpa [mh]using this
section
variable{P:Program}{nt:Nat}{Γ:gP}{Q:Exit->nO->Prop}{st:nO}{tm:cQ}{ob:bA}{az low:Nat}{td:List (ar)}
def aa.cX(am:au P Γ)(hm:P.follows .mixedOrders=true){fJ:Bool}{rs:ah}(ks:bY)
  (h:dy Γ az rs ⟨tm,ob,td⟩ λs=>Q .normal ⟨look (kZ ks s.tmps),s.ab,az+nt+1,low,s.todo⟩):aa P nt (.region fJ rs) Q ⟨tm,ob,az,low,td⟩:=by
 have:=gE _ _ _ h;refine aa.nh (Q:=λe s=>e=.normal/\s=⟨(cO Γ az rs ⟨tm,ob,td⟩).tmps,(cO Γ az rs ⟨tm,ob,td⟩).ab,az+nt+1,low,(cO Γ az rs ⟨tm,ob,td⟩).todo⟩) (aa.region am hm (st:=⟨tm,ob,az,low,td⟩) this.1 ⟨rfl,rfl⟩) ?_;rintro e s ⟨rfl,rfl⟩;exact⟨_,Le.pX (la _ ks),this.2⟩
def aa.ag(am:au P Γ)(hm:P.follows .mixedOrders=true){fJ:Bool}{rs:ah}{b:DC}(ks:bY)
  (h:dy Γ az rs ⟨tm,ob,td⟩ λs=>aa P nt b Q ⟨look (kZ ks s.tmps),s.ab,az+nt+1,low,s.todo⟩):aa P nt (.seq (.region fJ rs) b) Q ⟨tm,ob,az,low,td⟩:=
 aa.seq (aa.cX am hm ks h)
def aa.nj(am:au P Γ)(hm:P.follows .mixedOrders=true){d:DC}{rs:ah}(hd:d=.pj (rs.map bare)\/∃fJ,d=.region fJ (rs.map bare))(aB:dd nt true rs=true)(ks:bY)
  (h:dy Γ az rs ⟨tm,ob,td⟩ λs=>Q .normal ⟨look (kZ ks s.tmps),s.ab,az+nt+1,low,s.todo⟩):aa P nt d Q ⟨tm,ob,az,low,td⟩:=by
 have:=gE _ _ _ h;refine aa.nh (Q:=λe s=>e=.normal/\s=⟨(cO Γ az rs ⟨tm,ob,td⟩).tmps,(cO Γ az rs ⟨tm,ob,td⟩).ab,az+nt+1,low,(cO Γ az rs ⟨tm,ob,td⟩).todo⟩) (aa.UB am hm hd aB (st:=⟨tm,ob,az,low,td⟩) this.1 ⟨rfl,rfl⟩) ?_;rintro e s ⟨rfl,rfl⟩;exact⟨_,Le.pX (la _ ks),this.2⟩
def aa.eC(am:au P Γ)(hm:P.follows .mixedOrders=true){d b:DC}{rs:ah}(hd:d=.pj (rs.map bare)\/∃fJ,d=.region fJ (rs.map bare))(aB:dd nt true rs=true)(ks:bY)
  (h:dy Γ az rs ⟨tm,ob,td⟩ λs=>aa P nt b Q ⟨look (kZ ks s.tmps),s.ab,az+nt+1,low,s.todo⟩):aa P nt (.seq d b) Q ⟨tm,ob,az,low,td⟩:=
 aa.seq (aa.nj am hm hd aB ks h)
end
def aC{P:Program}{nt:Nat}{d:DC}{Q:Exit->nO->Prop}{ts:ar}(h:aa P nt d Q ⟨look ((ts.map .v).zipIdx.map λp=>(p.2,p.1)),cC [],1000,1000,[]⟩):aa P nt d Q (mh ts):=aa.le (Lt ts) h
section
variable{Γ:gP}{az:Nat}{K:RS->Prop}{rs:ah}{tm eu:cQ}{ob:bA}{td:List (ar)}{dst:Option Nat}
@[simp] def ag1(x:be):jv Γ az (.jS x) rs tm ob td K dst eu=anT Γ az rs eu ob td K dst (cj Γ (.jS x) (bm az dst) tm ob):=rfl
@[simp] def aep(c a b:be):jv Γ az (.pick c a b) rs tm ob td K dst eu=anT Γ az rs eu ob td K dst (cj Γ (.pick c a b) (bm az dst) tm ob):=rfl
@[simp] def adq(zero:bD):jv Γ az (.alloc zero) rs tm ob td K dst eu=anT Γ az rs eu ob td K dst (cj Γ (.alloc zero) (bm az dst) tm ob):=rfl
@[simp] def ag2(x:be):jv Γ az (.box x) rs tm ob td K dst eu=anT Γ az rs eu ob td K dst (cj Γ (.box x) (bm az dst) tm ob):=rfl
@[simp] def adr(zero:bD)(parts:List (Nat×Nat×be)):jv Γ az (.build zero parts) rs tm ob td K dst eu=anT Γ az rs eu ob td K dst (cj Γ (.build zero parts) (bm az dst) tm ob):=rfl
@[simp] def abt(len sz:Nat)(zero:bD)(parts:List (Nat×Nat×be)):jv Γ az (.bslice len sz zero parts) rs tm ob td K dst eu=anT Γ az rs eu ob td K dst (cj Γ (.bslice len sz zero parts) (bm az dst) tm ob):=rfl
@[simp] def aeq(n:Nat)(agg:Bool)(x:be):jv Γ az (.load n agg x) rs tm ob td K dst eu=anT Γ az rs eu ob td K dst (cj Γ (.load n agg x) (bm az dst) tm ob):=rfl
@[simp] def ads(n:Nat)(x y:be):jv Γ az (.store n x y) rs tm ob td K dst eu=anT Γ az rs eu ob td K dst (cj Γ (.store n x y) (bm az dst) tm ob):=rfl
@[simp] def ag3(op:BinOp)(x y:be):jv Γ az (.bin op x y) rs tm ob td K dst eu=anT Γ az rs eu ob td K dst (cj Γ (.bin op x y) (bm az dst) tm ob):=rfl
@[simp] def ag4(neg agg:Bool)(bB:List Sh)(x y:be):jv Γ az (.eqT neg agg bB x y) rs tm ob td K dst eu=anT Γ az rs eu ob td K dst (cj Γ (.eqT neg agg bB x y) (bm az dst) tm ob):=rfl
@[simp] def ahL(op:UnOp)(x:be):jv Γ az (.un op x) rs tm ob td K dst eu=anT Γ az rs eu ob td K dst (cj Γ (.un op x) (bm az dst) tm ob):=rfl
@[simp] def aer(k:IntKind)(x:be):jv Γ az (.conv k x) rs tm ob td K dst eu=anT Γ az rs eu ob td K dst (cj Γ (.conv k x) (bm az dst) tm ob):=rfl
@[simp] def abu(k:Nat)(x:be):jv Γ az (.addOff k x) rs tm ob td K dst eu=anT Γ az rs eu ob td K dst (cj Γ (.addOff k x) (bm az dst) tm ob):=rfl
@[simp] def UH(x:be):jv Γ az (.nilCheck x) rs tm ob td K dst eu=anT Γ az rs eu ob td K dst (cj Γ (.nilCheck x) (bm az dst) tm ob):=rfl
@[simp] def Wo(sz:Nat)(x i:be):jv Γ az (.idxAddr sz x i) rs tm ob td K dst eu=anT Γ az rs eu ob td K dst (cj Γ (.idxAddr sz x i) (bm az dst) tm ob):=rfl
@[simp] def Wp(len sz:Nat)(x i:be):jv Γ az (.arrAddr len sz x i) rs tm ob td K dst eu=anT Γ az rs eu ob td K dst (cj Γ (.arrAddr len sz x i) (bm az dst) tm ob):=rfl
@[simp] def adt(off n:Nat)(agg:Bool)(x:be):jv Γ az (.field off n agg x) rs tm ob td K dst eu=anT Γ az rs eu ob td K dst (cj Γ (.field off n agg x) (bm az dst) tm ob):=rfl
@[simp] def adu(sz:Nat)(x:be)(lo hi:Option be):jv Γ az (.slice sz x lo hi) rs tm ob td K dst eu=anT Γ az rs eu ob td K dst (cj Γ (.slice sz x lo hi) (bm az dst) tm ob):=rfl
@[simp] def Wq(i:Nat)(x:be):jv Γ az (.extract i x) rs tm ob td K dst eu=anT Γ az rs eu ob td K dst (cj Γ (.extract i x) (bm az dst) tm ob):=rfl
@[simp] def aes(f:FuncId)(args:List be):jv Γ az (.call f args) rs tm ob td K dst eu=anT Γ az rs eu ob td K dst (cj Γ (.call f args) (bm az dst) tm ob):=rfl
@[simp] def ag5(x:be):jv Γ az (.len x) rs tm ob td K dst eu=anT Γ az rs eu ob td K dst (cj Γ (.len x) (bm az dst) tm ob):=rfl
@[simp] def aet(x:be):jv Γ az (.lenS x) rs tm ob td K dst eu=anT Γ az rs eu ob td K dst (cj Γ (.lenS x) (bm az dst) tm ob):=rfl
@[simp] def abv(Cl:Bool)(x y:be):jv Γ az (.minmax Cl x y) rs tm ob td K dst eu=anT Γ az rs eu ob td K dst (cj Γ (.minmax Cl x y) (bm az dst) tm ob):=rfl
@[simp] def abw(e sz bytes:Nat)(x y:be):jv Γ az (.append e sz bytes x y) rs tm ob td K dst eu=anT Γ az rs eu ob td K dst (cj Γ (.append e sz bytes x y) (bm az dst) tm ob):=rfl
@[simp] def Wr(e sz bytes:Nat)(zero:ar)(n:be):jv Γ az (.mkSlice e sz bytes zero n) rs tm ob td K dst eu=anT Γ az rs eu ob td K dst (cj Γ (.mkSlice e sz bytes zero n) (bm az dst) tm ob):=rfl
@[simp] def UI(e sz bytes:Nat)(zero:ar)(n:be):jv Γ az (.mkSliceB e sz bytes zero n) rs tm ob td K dst eu=anT Γ az rs eu ob td K dst (cj Γ (.mkSliceB e sz bytes zero n) (bm az dst) tm ob):=rfl
@[simp] def aeu(f:Fn)(bP:List be):jv Γ az (.mkFn f bP) rs tm ob td K dst eu=anT Γ az rs eu ob td K dst (cj Γ (.mkFn f bP) (bm az dst) tm ob):=rfl
@[simp] def adw(f:FuncId)(args:List be):jv Γ az (.callR f args) rs tm ob td K dst eu=anT Γ az rs eu ob td K dst (cj Γ (.callR f args) (bm az dst) tm ob):=rfl
@[simp] def adx(f:FuncId)(args:List be):jv Γ az (.callF f args) rs tm ob td K dst eu=anT Γ az rs eu ob td K dst (cj Γ (.callF f args) (bm az dst) tm ob):=rfl
@[simp] def ady(bB:List Sh)(agg:Bool):jv Γ az (.mkMap bB agg) rs tm ob td K dst eu=anT Γ az rs eu ob td K dst (cj Γ (.mkMap bB agg) (bm az dst) tm ob):=rfl
@[simp] def abx(bB:List Sh)(agg:Bool)(zero:DV)(ok:Bool)(x k:be):jv Γ az (.lookup bB agg zero ok x k) rs tm ob td K dst eu=anT Γ az rs eu ob td K dst (cj Γ (.lookup bB agg zero ok x k) (bm az dst) tm ob):=rfl
@[simp] def aby(bB:List Sh)(agg:Bool)(x k y:be):jv Γ az (.mapUpd bB agg x k y) rs tm ob td K dst eu=anT Γ az rs eu ob td K dst (cj Γ (.mapUpd bB agg x k y) (bm az dst) tm ob):=rfl
@[simp] def abz(bB:List Sh)(agg:Bool)(z:DV)(x k:be):jv Γ az (.mapEnt bB agg z x k) rs tm ob td K dst eu=anT Γ az rs eu ob td K dst (cj Γ (.mapEnt bB agg z x k) (bm az dst) tm ob):=rfl
@[simp] def adz(x s y:be):jv Γ az (.entSt x s y) rs tm ob td K dst eu=anT Γ az rs eu ob td K dst (cj Γ (.entSt x s y) (bm az dst) tm ob):=rfl
@[simp] def abA(bB:List Sh)(agg:Bool)(x k:be):jv Γ az (.mapDel bB agg x k) rs tm ob td K dst eu=anT Γ az rs eu ob td K dst (cj Γ (.mapDel bB agg x k) (bm az dst) tm ob):=rfl
@[simp] def aev(x:be):jv Γ az (.lenM x) rs tm ob td K dst eu=anT Γ az rs eu ob td K dst (cj Γ (.lenM x) (bm az dst) tm ob):=rfl
@[simp] def abB(x:be):jv Γ az (.rangeM x) rs tm ob td K dst eu=anT Γ az rs eu ob td K dst (cj Γ (.rangeM x) (bm az dst) tm ob):=rfl
@[simp] def aew(sz:Nat)(x y:be):jv Γ az (.copy sz x y) rs tm ob td K dst eu=anT Γ az rs eu ob td K dst (cj Γ (.copy sz x y) (bm az dst) tm ob):=rfl
@[simp] def adA(kind:Nat)(neg:Bool)(x:be):jv Γ az (.isNil kind neg x) rs tm ob td K dst eu=anT Γ az rs eu ob td K dst (cj Γ (.isNil kind neg x) (bm az dst) tm ob):=rfl
@[simp] def abC(x i:be):jv Γ az (.indexS x i) rs tm ob td K dst eu=anT Γ az rs eu ob td K dst (cj Γ (.indexS x i) (bm az dst) tm ob):=rfl
@[simp] def aex:jv Γ az (.fail) rs tm ob td K dst eu=anT Γ az rs eu ob td K dst (cj Γ (.fail) (bm az dst) tm ob):=rfl
@[simp] def abD(x:be):jv Γ az (.entryM x) rs tm ob td K dst eu=zc Γ az rs eu K dst (ku Γ (.entryM x) tm ob td):=by simp[jv,mR]
end
attribute [simp] zd UG Ot Ou Lo Lp ku jZ Ov F9 Ga Ow Lq Lr Oy kH Ox rO H3 wN Ls
attribute [simp] cj be.ev eE jf og vV HI fe iF mX iw kN jT vW vX vY gv mY qj o9 kD dT ff jg ef yR lF kQ kP jB fL fM b0 fN m0 iG iH gJ ej kF pI yw cU rj
attribute [simp] aeo UD Oq F3 oM rK cV.kw lD cellsOf dm an2 od fc bH pQ oe nR fR yg oa bm q9 cT uT eF mz zb mg mR
def aq{x:Int}(h: -9223372036854775808<=x/\x<=9223372036854775807):IntKind.i64.wrap x=x:=by
 simp[IntKind.wrap,IntKind.bits,IntKind.signed];omega
def as9{x:Int}(h:0<=x):x.tdiv 2=x/2:=Fw h
def ata{x:Int}(h:0<=x):x.tmod 2=x % 2:=EZ h
end
end Go.DM
namespace Go.DM
open Go.RowKit
section
variable{P:Program}{f sz:Nat}{fn:ar->List (ar)}
variable [bh] [cG]
def bG:List (Nat×Spec)->gP
 |[],_=>none
 |(g,s)::l,f=>if f=g then some s else bG l f
def au.nil:au P (bG []):=λ_ _ h=>by cases h
def au.add{s:Spec}{l:List (Nat×Spec)}(h:au P (bG l))(k:N0 P f s):au P (bG ((f,s)::l)):=by
 intro g s' hg;simp only[bG]at hg;split at hg
 ·rename_i e;cases hg;subst e;exact k
 ·exact h g s' hg
def au.cons{s:Spec}{l:List (Nat×Spec)}(h:au P (bG l))
  (k:∀ts,s.pre ts->aI P f ts (s.fn ts)/\(s.gu=true->il (s.fn ts)=true)) (hs:s.st=none:=by rfl) (fY:s.fresh=none:=by rfl):au P (bG ((f,s)::l)):=
 h.add ⟨k,λe sz hf=>(by rw[fY]at hf;cases hf),λk hk=>(by rw[hs]at hk;cases hk)⟩
def ee(k:bD->bA->fp):Spec:=⟨λ_=>False,λ_=>.bool false,true,some k,none,false⟩
def au.gm{k:bD->bA->fp}{l:List (Nat×Spec)}(h:au P (bG l))
  (hk:∀args ab,(k args ab).ok->(∀N,(∀r,N<=r->ab r=none)->b9 P f args ab (k args ab))/\∀r,ab r=none->(k args ab).ab r=none):au P (bG ((f,ee k)::l)):=
 h.add ⟨λ_ h=>h.elim,λ_ _ h=>(by cases h),λk' e=>by cases e;exact hk⟩
def mf.ok{f:FuncId}{ts:ar}{e:Nat}{an:List (ar)}(h:mf P f ts e sz an):aI P f ts (.sl an):=
 ⟨h.entry,λW w anM hW hg hr=>(h.run W w anM hW hg hr).mono λe' w' ⟨v,h1,hb,hf⟩=>⟨v,h1,hb,by
  simp only[aO];rcases hf.it with⟨h2,a,h3⟩|⟨g,cap,dg,h2,hp,yx,hh,h3,h4,h5,h6⟩
  ·exact .inl ⟨h2,a,0,h3⟩
  ·refine .inr ⟨g,0,cap,sz,h2,(kf.1 hh).1,λhw=>?_,h3,aT.gB (aN.aD (ch.refl (λb=>W b\/b=g) w').toKeepsC (λb _ hb=>.inl hb) _ _ h6) hf.len λj v hv=>?_⟩
   ·have:=hW g hw;omega
   ·rw[Cf,cell_of_row w' g j dg e (0,0) hh];rw[Fo]at hv;split at hv
    ·simpa using hv
    ·cases hv⟩⟩
def rP(pre:ar->Prop)(fn:ar->List (ar))(e sz:Nat):Spec:=⟨pre,λts=>.sl (fn ts),false,none,some (e,sz),false⟩
def au.Oz{pre:ar->Prop}{e:Nat}{l:List (Nat×Spec)}(h:au P (bG l))(k:∀ts,pre ts->mf P f ts e sz (fn ts)):au P (bG ((f,rP pre fn e sz)::l)):=
 h.add ⟨λts hp=>⟨(k ts hp).ok,λx=>by cases x⟩,λe' fS hf ts hp=>(by cases hf;exact⟨_,rfl,k ts hp,λx=>by cases x⟩),λk hk=>(by cases hk)⟩
def ze(pre:ar->Prop)(fn:ar->List (ar))(e sz:Nat):Spec:=⟨pre,λts=>.sl (fn ts),false,none,some (e,sz),true⟩
def au.aeA{pre:ar->Prop}{e:Nat}{l:List (Nat×Spec)}(h:au P (bG l))(k:∀ts,pre ts->mf P f ts e sz (fn ts)/\il.ig (fn ts).flatten=true):au P (bG ((f,ze pre fn e sz)::l)):=
 h.add ⟨λts hp=>⟨(k ts hp).1.ok,λx=>by cases x⟩,λe' fS hf ts hp=>(by cases hf;exact⟨_,rfl,(k ts hp).1,λ_=>(k ts hp).2⟩),λk hk=>(by cases hk)⟩
@[simp] def Ws(pre:ar->Prop)(fn:ar->List (ar))(e sz:Nat):(ze pre fn e sz).fresh=some (e,sz):=rfl
@[simp] def aeB(pre:ar->Prop)(fn:ar->List (ar))(e sz:Nat)(ts:ar):(ze pre fn e sz).fn ts=.sl (fn ts):=rfl
@[simp] def adB(pre:ar->Prop)(fn:ar->List (ar))(e sz:Nat):(ze pre fn e sz).pre=pre:=rfl
@[simp] def abE(pre:ar->Prop)(fn:ar->List (ar))(e sz:Nat):(ze pre fn e sz).d5=true:=rfl
@[simp] def abF(pre:ar->Prop)(fn:ar->List (ar))(e sz:Nat):(rP pre fn e sz).d5=false:=rfl
@[simp] def Wt(pre:ar->Prop)(fn:ar->List (ar))(e sz:Nat):(rP pre fn e sz).fresh=some (e,sz):=rfl
@[simp] def aeC(pre:ar->Prop)(fn:ar->List (ar))(e sz:Nat)(ts:ar):(rP pre fn e sz).fn ts=.sl (fn ts):=rfl
@[simp] def adC(pre:ar->Prop)(fn:ar->List (ar))(e sz:Nat):(rP pre fn e sz).pre=pre:=rfl
def bp(pre:ar->Prop)(fn:ar->T)(gu:Bool):Spec:=⟨pre,fn,gu,none,none,false⟩
@[simp] def adD(pre:ar->Prop)(fn:ar->T)(gu:Bool):(bp pre fn gu).pre=pre:=rfl
@[simp] def aeD(pre:ar->Prop)(fn:ar->T)(gu:Bool):(bp pre fn gu).fn=fn:=rfl
@[simp] def UJ(pre:ar->Prop)(fn:ar->T)(gu:Bool):(bp pre fn gu).gu=gu:=rfl
@[simp] def aeE(pre:ar->Prop)(fn:ar->T)(gu:Bool):(bp pre fn gu).st=none:=rfl
@[simp] def aeF(pre:ar->Prop)(fn:ar->List (ar))(e sz:Nat):(rP pre fn e sz).st=none:=rfl
@[simp] def aeG(k:bD->bA->fp):(ee k).st=some k:=rfl
def Gb(g f:Nat)(s:Spec)(l:List (Nat×Spec)):bG ((g,s)::l) f=if f=g then some s else bG l f:=rfl
def Lu(f:Nat):bG [] f=none:=rfl
attribute [simp] Gb Lu
theorem aI.Wu{P:Program}{f:FuncId}{ts:ar}{t:T}(h:aI P f ts t){w:World}{anM:Array Value}(hg:vT w λ_=>False)(hr:dq w (λ_=>False) ts anM.toList):
  Calls P f anM w λe w'=>∃v,e=.returned v/\qZ w.heap.size w w'/\aO w' (λ_=>False) t v:=
 h.run (λ_=>False) w anM (λ_ h=>h.elim) hg hr
@[simp] def aeH(n:Nat)(h:n<9223372036854775808):IntKind.i64.wrap (no_index (@OfNat.ofNat Int n instOfNat))= @OfNat.ofNat Int n instOfNat:=by
 have e:(@OfNat.ofNat Int n instOfNat)=(n:Int):=rfl;rw[e,aq (by omega)]
@[simp] def aeI(n:Nat)(h:n<9223372036854775808):IntKind.i64.wrap (-(no_index (@OfNat.ofNat Int n instOfNat)))= -(@OfNat.ofNat Int n instOfNat):=by
 have e:(@OfNat.ofNat Int n instOfNat)=(n:Int):=rfl;rw[e,aq (by omega)]
end
section
variable{o':Ob}{r:Nat}
variable [bh] [cG]
def gone(ay:bA)(σ:Nat->Nat)(r:Nat):Prop:=∀r',ay r'≠none->σ r'≠r
def OC(ab ay:bA)(σ:Nat->Nat)(r off:Nat):DV->Prop
 |.ptr r' CN=>r=σ r'/\off=CN/\∃cs,ay r'=some (.box cs)
 |.gq cs CN=>off=CN/\ab r=some (.box (cs.map .v))/\gone ay σ r
 |.v (.box cs)=>off=0/\ab r=some (.box (cs.map .v))/\gone ay σ r
 |_=>False
def H6(ab ay:bA)(σ:Nat->Nat)(r aX:Nat):DV->Prop
 |.aQ r' bi=>r=σ r'/\∃e sz an e' fS di,ab r=some (.aR aX e sz an)/\ay r'=some (.aR bi e' fS di)
 |.v (.sl an)=>(∃e sz,ab r=some (.aR aX e sz an))/\gone ay σ r
 |_=>False
def H7(ab ay:bA)(σ:Nat->Nat)(r aX:Nat)(i:Int)(off:Nat):DV->Prop
 |.gU r' bi i' CN=>r=σ r'/\i=i'/\off=CN/\∃e sz an e' fS di,ab r=some (.aR aX e sz an)/\ay r'=some (.aR bi e' fS di)/\sz=fS/\an.length=di.length
 |_=>False
def gF:Option Ob->Prop
 |some (.map _ _ _ _)=>True
 |_=>False
def wR:Option Ob->Prop
 |some (.c8 _ _ _ _)=>True
 |_=>False
def fT(ay:bA)(σ:Nat->Nat)(r:Nat):DV->Prop
 |.dQ r'=>r=σ r'/\gF (ay r')
 |_=>False
def OD(ay:bA)(σ:Nat->Nat)(r:Nat):DV->Prop
 |.c8 r'=>r=σ r'/\wR (ay r')
 |_=>False
def abG(ab ay:bA)(σ:Nat->Nat)(r aX lo n:Nat):DV->Prop
 |.qi r' bi Kx n'=>r=σ r'/\lo=Kx/\n=n'/\∃e sz an e' fS di,ab r=some (.aR aX e sz an)/\ay r'=some (.aR bi e' fS di)/\sz=fS/\an.length=di.length
 |.v (.sl di)=>(∃e sz an,ab r=some (.aR aX e sz an)/\di=(an.drop lo).take n)/\gone ay σ r
 |_=>False
def OE(ab ay:bA)(σ:Nat->Nat)(r n:Nat):DV->Prop
 |.Al r' n'=>r=σ r'/\n=n'/\∃cs,ay r'=some (.box cs)
 |.v (.sl an)=>an.length=n/\(∃sz,∀x∈an,x.length=sz)/\ab r=some (.box (an.flatten.map .v))/\gone ay σ r
 |_=>False
def wS{o:Option Ob}(h:gF o):∃bB agg c es,o=some (.map bB agg c es):=by
 unfold gF at h;split at h
 ·exact⟨_,_,_,_,rfl⟩
 ·exact h.elim
def Lv{o:Option Ob}(h:wR o):∃m s sn l,o=some (.c8 m s sn l):=by
 unfold wR at h;split at h
 ·exact⟨_,_,_,_,rfl⟩
 ·exact h.elim
def AP:DV->Option (bD)
 |.agg ds=>some ds
 |.v (.agg ts)=>some (ts.map .v)
 |_=>none
mutual
def iz(ab ay:bA)(σ:Nat->Nat):DV->DV->Prop
 |.aF,d'=>d'=.undef\/d'=.aF\/d'=.v (.sl [])
 |.ptr r off,d'=>d'=.undef\/OC ab ay σ r off d'
 |.aQ r aX,d'=>d'=.undef\/H6 ab ay σ r aX d'
 |.gU r aX i off,d'=>d'=.undef\/H7 ab ay σ r aX i off d'
 |.agg ds,d'=>d'=.undef\/match AP d' with|some md=>km ab ay σ ds md|none=>False
 |.undef,d'=>d'=.undef
 |.skip,d'=>d'=.undef\/d'=.skip
 |.v t,d'=>d'=.undef\/d'=.v t
 |.jr an i off,d'=>d'=.undef\/d'=.jr an i off
 |.gq cs off,d'=>d'=.undef\/d'=.gq cs off
 |.vU,d'=>d'=.undef\/d'=.vU
 |.dQ r,d'=>d'=.undef\/fT ay σ r d'
 |.c8 r,d'=>d'=.undef\/OD ay σ r d'
 |.qi r aX lo n,d'=>d'=.undef\/abG ab ay σ r aX lo n d'
 |.Al r n,d'=>d'=.undef\/OE ab ay σ r n d'
 |.dh ds,d'=>d'=.undef\/match d' with|.dh md=>km ab ay σ ds md|_=>False
 |.uS f ds,d'=>d'=.undef\/match d' with|.uS f' md=>f=f'/\km ab ay σ ds md|.v (.fn f' ts)=>f=f'/\km ab ay σ ds (ts.map .v)|_=>False
def km(ab ay:bA)(σ:Nat->Nat):bD->bD->Prop
 |[],md=>md=[]
 |d::ds,md=>match md with
  |[]=>False
  |d'::md=>iz ab ay σ d d'/\km ab ay σ ds md
end
def fj(ab ay:bA)(σ:Nat->Nat):List (Nat×T×DV)->List (Nat×T×DV)->Prop
 |[],kg=>kg=[]
 |e::es,kg=>match kg with
  |[]=>False
  |e'::kg=>e.1=e'.1/\e.2.1=e'.2.1/\iz ab ay σ e.2.2 e'.2.2/\fj ab ay σ es kg
def lb{ab ay:bA}{σ:Nat->Nat}:∀{es:List (Nat×T×DV)},(∀e∈es,iz ab ay σ e.2.2 e.2.2)->fj ab ay σ es es
 |[],_=>by simp[fj]
 |e::es,h=>by simp only[fj];exact⟨trivial,trivial,h e (by simp),lb λe he=>h e (by simp[he])⟩
def kn(ab ay:bA)(σ:Nat->Nat):Ob->Ob->Prop
 |.box cs,.box sN=>km ab ay σ cs sN
 |.aR _ e sz an,.aR _ e' fS di=>e=e'/\sz=fS/\an=di
 |.map bB agg c es,.map g7 lu c' kg=>bB=g7/\agg=lu/\c=c'/\fj ab ay σ es kg
 |.c8 m s sn l,.c8 m' s' sn' l'=>m=σ m'/\s=s'/\sn=sn'/\l=l'/\gF (ay m')
 |_,_=>False
def ga:Ob->Ob->Prop
 |.box _,.box _=>True
 |.aR v _ sz an,.aR v' _ fS di=>v=v'/\sz=fS/\an.length=di.length
 |.map _ _ _ _,.map _ _ _ _=>True
 |.c8 _ _ _ _,.c8 _ _ _ _=>True
 |_,_=>False
def rR{o:Ob}(h:ga o o'):o'.kind=o.kind:=by cases o<;>cases o'<;>first|rfl|exact h.elim
def Loc.wT(L:Loc)(σ:Nat->Nat):Loc:=⟨λr=>L.gp (σ r),λr=>L.sl (σ r),L.yl⟩
section
variable{base:Nat}{W M:dJ}{w0 w:World}{ab ay:bA}{L:Loc}{σ:Nat->Nat}
def po{o:Ob}(h:kn ab ay σ o o')(r:Nat):(L.wT σ).own r o'=L.own (σ r) o:=by
 cases o<;>cases o'<;>first|rfl|exact h.elim
def jk(c9:∀r' o',ay r'=some o'->∃o,ab (σ r')=some o/\∀r,(L.wT σ).own r o'=L.own (σ r) o)(b:Nat)(h:WW W ay (L.wT σ) b):WW W ab L b:=by
 rcases h with h|⟨r',o',h1,h2⟩
 ·exact .inl h
 ·obtain⟨o,h3,h4⟩:=c9 r' o' h1;exact .inr ⟨σ r',o,h3,by rw[<-h4];exact h2⟩
def wU(hO:bJ base W M w0 ab w L)(c9:∀r' o',ay r'=some o'->∃o,ab (σ r')=some o/\∀r,(L.wT σ).own r o'=L.own (σ r) o){b:Nat}{o:Ob}(hr:ab r=some o)(hb:L.own r o=some b)(hg:gone ay σ r):¬WW W ay (L.wT σ) b:=by
 rintro(h|⟨r',o',h1,h2⟩)
 ·exact hO.oh r o b hr hb h
 ·obtain⟨o2,h3,h4⟩:=c9 r' o' h1;rw[h4]at h2;exact hO.apart r (σ r') o o2 b (λe=>hg r' (by rw[h1];exact λe=>by cases e) e.symm) hr h3 hb h2
def qv(hO:bJ base W M w0 ab w L)(c9:∀r' o',ay r'=some o'->∃o,ab (σ r')=some o/\∀r,(L.wT σ).own r o'=L.own (σ r) o){cs:ar}(hr:ab r=some (.box (cs.map .v)))(hg:gone ay σ r):
  L.gp r<w.heap.size/\¬WW W ay (L.wT σ) (L.gp r)/\cS w (WW W ay (L.wT σ)) (L.gp r) 0 cs:=by
 have hb:=hO.ob r _ hr;obtain⟨c,e,hc,eZ,_⟩:=hb;refine⟨(kf.1 hc).1,wU hO c9 hr rfl hg,cS.vS cs 0 λj t hj=>?_⟩;have hd:(cs.map DV.v)[j]? =some (.v t):=by simp[hj]
 obtain⟨v,hv,h1,h2⟩:=aH.get eZ hd;simp only[ap]at h2;refine⟨v, ?_,h1,aO.aD (ch.refl (WW W ab L) w).toKeepsC (λb _ hb=>jk c9 b hb) t v h2⟩;simp only[World.cell?,hc,Cf];simpa using hv
def Gd(hO:bJ base W M w0 ab w L)(c9:∀r' o',ay r'=some o'->∃o,ab (σ r')=some o/\∀r,(L.wT σ).own r o'=L.own (σ r) o){aX e sz:Nat}{an:List (ar)}(hr:ab r=some (.aR aX e sz an))(hg:gone ay σ r):
  aO w (WW W ay (L.wT σ)) (.sl an) (L.sl r):=by
 have nU:=hO.ob r _ hr;obtain⟨fG,bX,hm,ln⟩:=nU;simp only[aO];rcases ln with⟨rfl,p,hp⟩|⟨g',cap,dg,nH,hp,hh,iU,ol,Ap,eZ⟩
 ·exact .inl ⟨rfl,p,0,hp⟩
 ·have sS:aP (L.sl r)=some g':=by simp[nH,aP,Fz.1 hp]
  refine .inr ⟨g',0,cap,sz,nH,(kf.1 hh).1,wU hO c9 hr (by simpa [Loc.own]using sS) hg,iU, ?_⟩;have nT:=lp.an (hO.ob r _ hr) (g:=g') sS;obtain⟨vs,sI,vg,NK⟩:=aT.flatten nT;exact aT.gB (aN.aD (ch.refl (WW W ab L) w).toKeepsC (λb _ hb=>jk c9 b hb) _ _ vg) bX NK
def wV{ts:ar}:∀{vs:List Value},aH w W ab L (ts.map .v) vs->aN w (WW W ab L) ts vs:=by
 induction ts with
 |nil=>intro vs h;simpa [aH,aN]using h
 |cons t ts ih=>
  intro vs h;simp only[l8,aH]at h;obtain⟨v,fW,rfl,h1,h2,h3⟩:=h;simp only[ap]at h2;simp only[aN];exact⟨v,fW,rfl,h1,h2,ih h3⟩
def vo(hO:bJ base W M w0 ab w L)(c9:∀r' o',ay r'=some o'->∃o,ab (σ r')=some o/\∀r,(L.wT σ).own r o'=L.own (σ r) o):
  ∀n,(∀(d d':DV) (x:Value),SizeOf.sizeOf d<n->iz ab ay σ d d'->ap w W ab L d x->ap w W ay (L.wT σ) d' x)/\
   (∀(ds md:bD) (xs:List Value),SizeOf.sizeOf ds<n->km ab ay σ ds md->aH w W ab L ds xs->aH w W ay (L.wT σ) md xs)/\
   (∀(ds md:bD) (xs:List Value),SizeOf.sizeOf ds<n->km ab ay σ ds md->db w W ab L ds xs->db w W ay (L.wT σ) md xs):=by
 have kZ:∀(t:T) (x:Value),aO w (WW W ab L) t x->aO w (WW W ay (L.wT σ)) t x:=λt x h=>aO.aD (ch.refl (WW W ab L) w).toKeepsC (λb _ hb=>jk c9 b hb) t x h;intro n;induction n with
 |zero=>exact⟨λ_ _ _ h=>by omega,λ_ _ _ h=>by omega,λ_ _ _ h=>by omega⟩
 |succ n ih=>
  refine⟨λd d' x hn hc hr=>?_,λds md xs hn hc hr=>?_,λds md xs hn hc hr=>?_⟩
  ·by_cases hu:d'=.undef
   ·subst hu;simp[ap]
   cases d with
   |undef=>simp only[iz]at hc;exact yV hc hu
   |skip=>simp only[iz,hu,Wj]at hc;subst hc;simpa only[ap]using hr
   |vU=>simp only[iz,hu,Wj]at hc;subst hc;simp only[ap,Loc.wT]at hr⊢;exact hr
   |v t=>simp only[iz,hu,Wj]at hc;subst hc;simp only[ap]at hr⊢;exact kZ t x hr
   |jr an i off=>
    simp only[iz,hu,Wj]at hc;subst hc;simp only[ap]at hr⊢;obtain⟨b,o,sz,hx,hb,Ln,nT,h1,h2⟩:=hr;exact⟨b,o,sz,hx,hb,λk=>Ln (jk c9 b k),aT.aD (ch.refl (WW W ab L) w).toKeepsC (λb _ hb=>jk c9 b hb) hb Ln sz o an nT,h1,h2⟩
   |gq cs off=>
    simp only[iz,hu,Wj]at hc;subst hc;simp only[ap]at hr⊢;obtain⟨b,o,hx,hb,Ln,nT⟩:=hr;exact⟨b,o,hx,hb,λk=>Ln (jk c9 b k),cS.aD (ch.refl (WW W ab L) w).toKeepsC (λb _ hb=>jk c9 b hb) hb Ln o cs nT⟩
   |dQ r=>
    simp only[iz,hu,Wj]at hc;simp only[ap]at hr;cases d' with
    |dQ r'=>
     obtain⟨rfl,hm⟩:=hc;simp only[ap];exact⟨wS hm,hr.2⟩
    |_=>exact hc.elim
   |c8 r=>
    simp only[iz,hu,Wj]at hc;simp only[ap]at hr;cases d' with
    |c8 r'=>
     obtain⟨rfl,hm⟩:=hc;simp only[ap];exact⟨Lv hm,hr.2⟩
    |_=>exact hc.elim
   |dh ds=>
    simp only[iz,hu,Wj]at hc;simp only[ap]at hr;obtain⟨vs,rfl,hr⟩:=hr;cases d' with
    |dh md=>
     simp only[ap];exact⟨vs,rfl,ih.2.2 ds md _ (by simp at hn⊢;omega) hc hr⟩
    |_=>exact hc.elim
   |uS f ds=>
    simp only[iz,hu,Wj]at hc;simp only[ap]at hr;obtain⟨vs,rfl,hr⟩:=hr;cases d' with
    |uS f' md=>
     obtain⟨rfl,hc⟩:=hc;simp only[ap];exact⟨vs,rfl,ih.2.1 ds md _ (by simp at hn⊢;omega) hc hr⟩
    |v t=>
     cases t with
     |fn f' ts=>
      obtain⟨rfl,hc⟩:=hc;simp only[ap,aO];exact⟨vs,rfl,wV (ih.2.1 ds _ _ (by simp at hn⊢;omega) hc hr)⟩
     |_=>exact hc.elim
    |_=>exact hc.elim
   |Al r m=>
    simp only[iz,hu,Wj]at hc;simp only[ap]at hr;obtain⟨⟨Sz,ahM⟩,rfl⟩:=hr;cases d' with
    |Al r' m'=>
     obtain⟨rfl,rfl,cs,pR⟩:=hc;simp only[ap];exact⟨⟨cs,pR⟩,rfl⟩
    |v t=>
     cases t with
     |sl an=>
      obtain⟨rfl,⟨sz,fG⟩,nU,hg⟩:=hc;obtain⟨h1,h2,h3⟩:=qv hO c9 nU hg;simp only[ap,aO];refine .inr ⟨L.gp r,0,an.length,sz,rfl,h1,h2,iV _, ?_⟩;obtain⟨vs,E8,nG⟩:=cS.anM h3;exact aT.gB E8 fG nG
     |_=>exact hc.elim
    |_=>exact hc.elim
   |qi r aX lo m=>
    simp only[iz,hu,Wj]at hc;simp only[ap]at hr;obtain⟨Cm,mc,e2,yS,jh,fg,Cn,hx⟩:=hr;cases d' with
    |qi r' bi Kx m'=>
     obtain⟨rfl,rfl,rfl,e,sz,an,e',fS,di,h1,h2,h3,h4⟩:=hc;rw[fg]at h1;simp only[bN,Ob.aR.injEq]at h1;obtain⟨rfl,rfl,rfl,rfl⟩:=h1;simp only[ap];refine⟨Cm,bi,e',fS,di,h2,iV _,λ_=>?_⟩;obtain⟨k0,p,cap,p2,k1,k2,k3⟩:=hx rfl;exact⟨by rw[<-h4];exact k0,p,cap,p2,by rw[<-h4];exact k1,k2,by rw[<-h3];exact k3⟩
    |v t=>
     cases t with
     |sl di=>
      obtain⟨⟨e,sz,an,h1,rfl⟩,hg⟩:=hc;rw[fg]at h1;simp only[bN,Ob.aR.injEq]at h1;obtain⟨rfl,rfl,rfl,rfl⟩:=h1;have hx:=hx rfl;simp only[ap,aO];have ja:((jh.drop lo).take m).length=m:=by rw[ye,Fx];omega
      rcases oq hO fg hx with⟨rfl,a,c,rfl⟩|⟨g,c,sS,rfl,V7,nT⟩
      ·exact .inl ⟨by simp,a,c,rfl⟩
      ·refine .inr ⟨g,lo*yS,c,yS,by rw[ja],(hO.ob r _ fg).lt (by simpa [Loc.own]using sS),wU hO c9 fg (by simpa [Loc.own]using sS) hg,by omega, ?_⟩;obtain⟨vs,sI,vg,NK⟩:=aT.flatten nT;exact aT.gB (aN.aD (ch.refl (WW W ab L) w).toKeepsC (λb _ hb=>jk c9 b hb) _ _ vg) (λx hx=>(hO.ob r _ fg).2.1 x (EK (ud hx))) NK
     |_=>exact hc.elim
    |_=>exact hc.elim
   |aF=>
    simp only[iz,hu,Wj]at hc;rcases hc with rfl|rfl
    ·simpa only[ap]using hr
    ·simp only[ap]at hr;obtain⟨a,rfl⟩:=hr;simp only[ap,aO];exact .inl ⟨trivial,a,0,rfl⟩
   |ptr r off=>
    simp only[iz,hu,Wj]at hc;simp only[ap]at hr;obtain⟨⟨Sz,ahM⟩,rfl⟩:=hr;cases d' with
    |ptr r' CN=>
     obtain⟨rfl,rfl,cs,pR⟩:=hc;simp only[ap];exact⟨⟨cs,pR⟩,rfl⟩
    |gq cs CN=>
     obtain⟨rfl,nU,hg⟩:=hc;obtain⟨h1,h2,h3⟩:=qv hO c9 nU hg;simp only[ap];exact⟨L.gp r,0,by simp,h1,h2,h3⟩
    |v t=>
     cases t with
     |box cs=>
      obtain⟨rfl,nU,hg⟩:=hc;obtain⟨h1,h2,h3⟩:=qv hO c9 nU hg;simp only[ap,aO];exact⟨L.gp r,0,rfl,h1,h2,h3⟩
     |_=>exact hc.elim
    |_=>exact hc.elim
   |aQ r aX=>
    simp only[iz,hu,Wj]at hc;simp only[ap]at hr;obtain⟨Cm,mc,e2,yS,jh,fg,Cn,hx⟩:=hr;cases d' with
    |aQ r' bi=>
     obtain⟨rfl,e,sz,an,e',fS,di,h1,h2⟩:=hc;rw[fg]at h1;simp only[bN,Ob.aR.injEq]at h1;obtain⟨rfl,_⟩:=h1;simp only[ap];exact⟨Cm,bi,e',fS,di,h2,iV _,λ_=>hx rfl⟩
    |v t=>
     cases t with
     |sl an=>
      obtain⟨⟨e,sz,h1⟩,hg⟩:=hc;rw[fg]at h1;simp only[bN,Ob.aR.injEq]at h1;obtain⟨rfl,rfl,rfl,rfl⟩:=h1;have hx:=hx rfl;subst hx;simp only[ap];exact Gd hO c9 fg hg
     |_=>exact hc.elim
    |_=>exact hc.elim
   |gU r aX i off=>
    simp only[iz,hu,Wj]at hc;simp only[ap]at hr;obtain⟨Cm,mc,e2,yS,jh,fg,Cn,hx⟩:=hr;cases d' with
    |gU r' bi i' CN=>
     obtain⟨rfl,rfl,rfl,e,sz,an,e',fS,di,h1,h2,h3,h4⟩:=hc;rw[fg]at h1;simp only[bN,Ob.aR.injEq]at h1;obtain⟨rfl,rfl,rfl,rfl⟩:=h1;simp only[ap];refine⟨Cm,bi,e',fS,di,h2,iV _,λ_=>?_⟩;obtain⟨g,k1,k2,k3,k4⟩:=hx rfl;exact⟨g,k1,by rw[<-h3];exact k2,k3,by rw[<-h4];exact k4⟩
    |_=>exact hc.elim
   |agg ds=>
    simp only[iz,hu,Wj]at hc;simp only[ap]at hr;obtain⟨vs,rfl,hr⟩:=hr;cases d' with
    |agg md=>
     simp only[AP]at hc;simp only[ap];exact⟨vs,rfl,ih.2.1 ds md _ (by simp at hn⊢;omega) hc hr⟩
    |v t=>
     cases t with
     |agg ts=>
      simp only[AP]at hc;simp only[ap,aO];exact⟨vs,rfl,wV (ih.2.1 ds _ _ (by simp at hn⊢;omega) hc hr)⟩
     |_=>exact hc.elim
    |_=>exact hc.elim
  ·cases ds with
   |nil=>simp only[km]at hc;subst hc;simpa only[aH]using hr
   |cons d ds=>
    cases md with
    |nil=>simp[km]at hc
    |cons d' md=>
     simp only[km]at hc;simp only[aH]at hr⊢;obtain⟨y,ys,hv,h1,h2,h3⟩:=hr;exact⟨y,ys,hv,h1,ih.1 d d' y (by simp at hn⊢;omega) hc.1 h2,ih.2.1 ds md ys (by simp at hn⊢;omega) hc.2 h3⟩
  ·cases ds with
   |nil=>simp only[km]at hc;subst hc;simpa only[db]using hr
   |cons d ds=>
    cases md with
    |nil=>simp[km]at hc
    |cons d' md=>
     simp only[km]at hc;simp only[db]at hr⊢;obtain⟨y,ys,hv,h2,h3⟩:=hr;exact⟨y,ys,hv,ih.1 d d' y (by simp at hn⊢;omega) hc.1 h2,ih.2.2 ds md ys (by simp at hn⊢;omega) hc.2 h3⟩
def Le.cor{st dD:nO}(σ:Nat->Nat)(AF:dD.low=st.low)(CO:dD.todo=st.todo)(wW:∀r,dD.az<=r->dD.ab r=none)
  (c9:∀r' o',dD.ab r'=some o'->∃o,st.ab (σ r')=some o/\kn st.ab dD.ab σ o o')
  (ahN:∀r1 r2,dD.ab r1≠none->dD.ab r2≠none->σ r1=σ r2->r1=r2)
  (CP:∀r,r<st.low->∀o,st.ab r=some o->σ r=r/\∃o',dD.ab r=some o'/\ga o o')
  (pP:∀k,iz st.ab dD.ab σ (st.tmps k) (dD.tmps k)):Le st dD:=by
 intro κ nt a w L h;refine⟨L.wT σ,⟨?_, ?_,h.r.defers,h.r.bg,⟨_,wW⟩⟩,wW,by rw[AF];exact h.low,by rw[AF];exact h.it⟩
 ·obtain⟨W,base,M,w0,fF,h0⟩:=h.r.ex;have hO:=h0.o;have nU:∀r' o',dD.ab r'=some o'->∃o,st.ab (σ r')=some o/\∀r,(L.wT σ).own r o'=L.own (σ r) o:=λr' o' h=>let⟨o,h1,h2⟩:=c9 r' o' h;⟨o,h1,po h2⟩
  have cr:=λ(d d':DV) (x:Value)=>(vo hO nU (SizeOf.sizeOf d+1)).1 d d' x (by omega);have crs:=λ(ds md:bD) (xs:List Value)=>(vo hO nU (SizeOf.sizeOf ds+1)).2.1 ds md xs (by omega);refine⟨W,base,M,w0,by rw[CO];exact fF,h0.size,λt=>cr _ _ _ (pP t) (h0.tmps t),⟨hO.fr,λr' o' jM=>?_,λr1 r2 o1 o2 b cZ h1 h2 u3 i7=>?_,λr' o' b jM hb=>?_,hO.under,hO.gl.aD (ch.refl (WW W st.ab L) w).toKeepsC λb _ hb=>jk nU b hb⟩⟩
  ·obtain⟨o,ho,hc⟩:=c9 r' o' jM;have hk:=hO.ob (σ r') o ho;cases o with
   |box cs=>
    cases o' with
    |box sN=>
     obtain⟨c,e,aZ,hr,hm⟩:=hk;exact⟨c,e,aZ,crs cs sN _ hc hr,hm⟩
    |_=>exact hc.elim
   |map bB agg c es=>
    cases o' with
    |map g7 lu c' kg=>
     obtain⟨rfl,rfl,rfl,lc⟩:=hc;obtain⟨aR,aZ,hr,k1,k2,k3,hm⟩:=hk;have key:∀(es kg:List (Nat×T×DV)) (xs:List MapEntry),fj st.ab dD.ab σ es kg->aY w W st.ab L es xs->aY w W dD.ab (L.wT σ) kg xs/\kg.map (·.1)=es.map (·.1)/\kg.map (·.2.1)=es.map (·.2.1):=by
      intro es;induction es with
      |nil=>intro kg xs h1 h2;simp only[fj]at h1;subst h1;exact⟨by simpa only[aY]using h2,rfl,rfl⟩
      |cons e es ih=>
       intro kg xs h1 h2;cases kg with
       |nil=>simp[fj]at h1
       |cons e' kg=>
        simp only[fj]at h1;simp only[aY]at h2⊢;obtain⟨x,jU,rfl,q0,q1,q2,q3⟩:=h2;obtain⟨i1,i2,i3⟩:=ih kg jU h1.2.2.2 q3;refine⟨⟨x,jU,rfl,q0.trans h1.1, ?_,cr _ _ _ h1.2.2.1 q2,i1⟩,by simp[i2,h1.1],by simp[i3,h1.2.1]⟩;rw[<-h1.2.1];exact aO.aD (ch.refl (WW W st.ab L) w).toKeepsC (λb _ hb=>jk nU b hb) _ _ q1
     obtain⟨i1,i2,i3⟩:=key es kg _ lc hr;refine⟨aR,aZ,i1,λe he=>?_,λe he=>?_,by rw[i2];exact k3,hm⟩
     ·have:e.2.1∈es.map (·.2.1):=by rw[<-i3];exact kL.2 ⟨e,he,rfl⟩
      obtain⟨e0,ER,HP⟩:=kL.1 this;rw[<-HP];exact k1 e0 ER
     ·have:e.1∈es.map (·.1):=by rw[<-i2];exact kL.2 ⟨e,he,rfl⟩
      obtain⟨e0,ER,HP⟩:=kL.1 this;rw[<-HP];exact k2 e0 ER
    |_=>exact hc.elim
   |c8 m s sn l=>
    cases o' with
    |c8 m' s' sn' l'=>
     obtain⟨rfl,rfl,rfl,rfl,HK⟩:=hc;obtain⟨aZ,_,hm⟩:=hk;exact⟨aZ,wS HK,hm⟩
    |_=>exact hc.elim
   |aR aX e sz an=>
    cases o' with
    |box _=>exact hc.elim
    |map _ _ _ _=>exact hc.elim
    |c8 _ _ _ _=>exact hc.elim
    |aR bi e' fS di=>
     obtain⟨rfl,rfl,rfl⟩:=hc;obtain⟨g1,g2,g3,g4⟩:=hk;refine⟨g1,g2,g3, ?_⟩;rcases g4 with g4|⟨g,cap,dg,hv,hp,hh,k1,k2,k3,k4⟩
     ·exact .inl g4
     ·exact .inr ⟨g,cap,dg,hv,hp,hh,k1,k2,k3,aN.aD (ch.refl (WW W st.ab L) w).toKeepsC (λb _ hb=>jk nU b hb) _ _ k4⟩
  ·obtain⟨p1,q1,c1⟩:=c9 r1 o1 h1;obtain⟨p2,q2,c2⟩:=c9 r2 o2 h2;rw[po c1]at u3;rw[po c2]at i7;exact hO.apart (σ r1) (σ r2) p1 p2 b (λe=>cZ (ahN r1 r2 (λe=>by rw[show dD.ab r1=some o1 from h1]at e;cases e) (λe=>by rw[show dD.ab r2=some o2 from h2]at e;cases e) e)) q1 q2 u3 i7
  ·obtain⟨p1,q1,c1⟩:=c9 r' o' jM;rw[po c1]at hb;exact hO.oh (σ r') p1 b q1 hb
 ·have ha:fX κ.W κ.go κ.gL (κ.B0 st.todo) st.ab L w:=h.r.er;show fX κ.W κ.go κ.gL (κ.B0 dD.todo) dD.ab (L.wT σ) w;rw[CO];refine⟨ha.bV,λb hb hw=>ha.sub b hb (jk (λr' o' h=>let⟨o,h1,h2⟩:=c9 r' o' h;⟨o,h1,po h2⟩) b hw),λr o hr hk=>?_,λr aX e sz an hr=>?_,ha.yl⟩
  ·have dR:r<st.low:=Si λiU=>by rw[h.low r iU]at hr;cases hr
   obtain⟨e1,o1,mU,ma⟩:=ha.fix r o hr hk;obtain⟨hs,o',jM,hv⟩:=CP r dR _ mU;exact⟨by simp only[Loc.wT,hs];exact e1,o',jM,(rR hv).trans ma⟩
  ·have dR:r<st.low:=Si λiU=>by rw[h.low r iU]at hr;cases hr
   obtain⟨v1,e1,s1,r1,mU,l1,k1⟩:=ha.aR r aX e sz an hr;obtain⟨hs,o',jM,hv⟩:=CP r dR _ mU;cases o' with
   |box sN=>exact hv.elim
   |map _ _ _ _=>exact hv.elim
   |c8 _ _ _ _=>exact hv.elim
   |aR v2 e2 s2 r2=>
    obtain⟨rfl,rfl,h3⟩:=hv;exact⟨v1,e2,s1,r2,jM,l1,λhv=>by
     obtain⟨a1,a2,a3⟩:=k1 hv;exact⟨by simp only[Loc.wT,hs];exact a1,a2,by rw[<-h3];exact a3⟩⟩
end
end
section
variable{st:nO}{f:FuncId}{bP:ar}{u4:List (ar)}{d:DC}{r bC:Nat}{o0:d0}{fJ:Bool}{rs:ah}
variable [bh] [cG]
structure abI(P:Program)(f:FuncId)(bP:ar)(u4:List (ar)):Prop where
 entry:wo P f
 run:∀(l:Nat) (J:dJ->List (ar)->World->Prop) (W:dJ) (A:World) (vs:Array Value),Yields P l J->J W u4 A->aN A W bP vs.toList->(∀b,W b->b<A.heap.size)->vT A W->
  Calls P f (#[.func (.yield l) #[] #[]]++vs) A λe B=>(∃v,e=.returned v)/\∃W',J W' [] B
def wY(f:cQ):bY->ar->Nat->DV
 |p::ps,x::xs=>wY (bW f (some p) (.v x)) ps xs
 |_,_=>f
section
variable{P:Program}{nt:Nat}
def zh{A:World}{W:dJ}{ab:bA}{L:Loc}:∀(ps:bY) (x:ar) (anM:List Value) (f:cQ) (tm:Array Value),(∀p∈ps,p<nt)->tm.size=nt->x.length=ps.length->dq A (WW W ab L) x anM->
  (∀t,ap A W ab L (f t) (tm.getD t Go.undef))->
  ((ps.zip anM).foldl (λt (pv:Nat×Value)=>t.setIfInBounds pv.1 pv.2) tm).size=nt/\∀t,ap A W ab L (wY f ps x t) (((ps.zip anM).foldl (λt (pv:Nat×Value)=>t.setIfInBounds pv.1 pv.2) tm).getD t Go.undef)
 |[],x,anM,f,tm,_,hs,hl,hr,hf=>by
  have:x=[]:=kx (by simpa using hl);subst this;exact⟨by simpa using hs,by simpa [wY]using hf⟩
 |p::ps,[],anM,f,tm,_,_,hl,_,_=>by simp at hl
 |p::ps,y::x,anM,f,tm,hp,hs,hl,hr,hf=>by
  simp only[dq]at hr;obtain⟨v,fW,rfl,h1,h2⟩:=hr;simp only[List.zip_cons_cons,F6,wY];refine zh ps x fW _ _ (λq hq=>hp q (Cq _ hq)) (by simpa using hs) (by simpa using hl) h2 λt=>?_;rw[wq _ _ _ _ (by rw[hs];exact hp p (KY ..))];simp only[bW];by_cases ht:t=p
  ·simp only[ht,yh,ap];exact h1
  ·simp only[ht,Lg];exact hf t
def Gf(qs:Array Nat)(anM:Array Value)(tm:Array Value):(qs.zip anM).foldl (λt (p,v)=>t.setIfInBounds p v) tm=(qs.toList.zip anM.toList).foldl (λt (pv:Nat×Value)=>t.setIfInBounds pv.1 pv.2) tm:=by
 rw[<-Array.foldl_toList,Array.toList_zip]
def Ly{ro:Option Nat}{w:World}{fn:FuncId}{tm:Array Value}{ps:Array Nat}{y z:Code}(B1:∀l,ro=some l->∃r,w.heap[l]? =some (.loop r)):
  ∃(l:Nat) (Ds:bY) (W1:World) (rec:Loop),(Instr.enterLoop fn tm ps y z ro).run P w=.ok (l,Ds.map mark) W1/\qZ w.heap.size w W1/\w.heap.size<=l/\W1.heap[l]? =some (.loop rec)/\
   rec.state=.ready/\rec.pending=none/\rec.fn=fn/\rec.tmps=tm/\rec.params=ps/\rec.assign=y/\rec.body=z/\Ds.Nodup/\(∀D∈Ds,W1.heap[D]? =some (.deferred (some []))/\w.heap.size<=D):=by
 cases ro with
 |none=>
  refine⟨_,[w.heap.size],_,{state:=.ready,pending:=none,fn,tmps:=tm,params:=ps,assign:=y,body:=z,defers:=w.heap.size},run_enterLoop_outer _ _ _ _ _, ?_,by simp, ?_,rfl,rfl,rfl,rfl,rfl,rfl,rfl,by simp, ?_⟩
  ·exact⟨((Below.refl _ w).alloc (iV _) _).alloc (by simp) _,iV _⟩
  ·have:=World.alloc_heap_new (w.alloc (.deferred (some []))) (.loop {state:=.ready,pending:=none,fn,tmps:=tm,params:=ps,assign:=y,body:=z,defers:=w.heap.size})
   rwa [World.size_alloc]at this
  ·intro D hD;simp only[ic]at hD;subst hD;exact⟨(Below.heap_alloc _ _ _ (by simp)).trans (World.alloc_heap_new w _),iV _⟩
 |some l0=>
  obtain⟨r0,EU⟩:=B1 l0 rfl;refine⟨_,[],_,{state:=.ready,pending:=none,fn,tmps:=tm,params:=ps,assign:=y,body:=z,defers:=r0.defers},run_enterLoop_inner EU _ _ _ _ _, ?_,iV _,World.alloc_heap_new w _,rfl,rfl,rfl,rfl,rfl,rfl,rfl,QY,λD hD=>by cases hD⟩;exact⟨(Below.refl _ w).alloc (iV _) _,iV _⟩
def aa.sZ{Q:Exit->nO->Prop}{g:be}{ps:bY}{as bs:DC}(Lz:abI P f bP u4)(AF:0<st.low)
  (hg:g.ev st.tmps=.v (.fn (.func f) bP)) (dI:∀x∈u4,x.length=ps.length) (R:List (ar)->bA) (hR0:R []=st.ab) (wZ:∀pre r,st.az<=r->R pre r=none)
  (round:∀pre x rest,u4=pre++x::rest->aa P nt as (λe s1=>e=.normal/\aa P nt bs (λe s2=>e=.normal/\Le s2 ⟨λ_=>.undef,R (pre++[x]),st.az,st.az,[]⟩) s1) ⟨wY st.tmps ps x,R pre,st.az,st.az,[]⟩)
  (done:Q .normal ⟨st.tmps,R u4,st.az,st.low,st.todo⟩):aa P nt (.sZ g ps as bs) Q st:=by
 refine⟨λc hc=>?_⟩;obtain⟨g',qs,y,z,rfl,hg',rfl,dR,hy,hz⟩:=F0 hc;intro n κ a w L gd r;have hJ:κ.J=none:=by
  cases hj:κ.J with
  |none=>rfl
  |some J=>have:=r.it (by rw[hj];rfl);omega
 obtain⟨W,base,M,w0,fF,h0⟩:=r.r.ex;have wv:=fF;unfold kS.At at wv;simp only[hJ]at wv;obtain⟨EL,rfl,rfl,rfl,rfl⟩:=wv;have QV:=be.bd h0.o.gl h0.tmps hg';rw[hg]at QV;simp only[ap,aO]at QV;obtain⟨vs,QV,y8⟩:=QV;have iU:κ.base<=w.heap.size:=wB h0.o.fr.gz h0.o.fr.size;have vj:∀b,WW κ.W st.ab L b->b<w.heap.size:=by
  rintro b (hb|⟨r',o',h1,h2⟩)
  ·have:=h0.o.under b hb;omega
  ·exact(h0.o.ob r' o' h1).lt h2
 refine wpIn_rangeFunc ?_;intro fn sK;obtain⟨l,SW,W1,rec,wK,u3,TF,hl1,r1,r2,r3,r4,r5,r6,r7,wu,Wd⟩:=Ly (P:=P) (ro:=κ.ro) (w:=w) (fn:=fn) (tm:=a.tmps) (ps:=qs) (y:=y) (z:=z) (λl hl=>by
  obtain⟨rc,Fg⟩:=gd.rd l hl;obtain⟨rc',ahP⟩:=kS.N2 st.todo Fg;exact⟨rc',r.r.er.bV.KU l rc' ahP⟩)
 obtain⟨fnE,ahQ,cZ,K6⟩:=Lz.entry;have hDl:∀D∈SW,D≠l:=λD hD e=>by
  have:=(Wd D hD).1;rw[e,hl1]at this;cases this
 let J:dJ->List (ar)->World->Prop:=λWk todo A=>∃pre L',u4=pre++todo/\bJ κ.base κ.W κ.M κ.w0 (R pre) A L'/\fX κ.W st.ab L w (R pre) L' A/\(∀b,WW κ.W (R pre) L' b->Wk b)/\
  A.heap[l]? =some (.loop rec)/\(∀D∈SW,A.heap[D]? =some (.deferred (some [])))/\∀b,Wk b->b<A.heap.size
 have ahR:({rec with state:=.ready,pending:=none}:Loop)=rec:=by cases rec;simp_all
 have abJ:Yields P l J:=by
  refine⟨?_, ?_⟩
  ·rintro Wk todo A B ⟨pre,L',h1,h2,h3,h4,h5,h6,h7⟩ hb;obtain⟨hO,hA⟩:=bJ.grow h2 hb;refine⟨pre,L',h1,hO,h3.comp hA (λ_ h=>.inl h) (λ_ h=>h),h4, ?_,λD hD=>?_,λb hw=>MG (h7 b hw) hb.size⟩
   ·exact(hb.block l (kf.1 h5).1).trans h5
   ·exact(hb.block D (kf.1 (h6 D hD)).1).trans (h6 D hD)
  ·rintro Wk x rest anM A ⟨pre,L',h1,h2,h3,h4,h5,h6,h7⟩ hx;have vh:x.length=qs.toList.length:=dI x (by rw[h1];simp);have sI:anM.size=rec.params.size:=by
    have:=dq.length hx;rw[r5];simpa [vh]using this
   have HU:=run_yield (P:=P) (args:=anM) h5 sI;rw[r3,r4,r5,r6,r7]at HU;refine⟨_,_,_,_,HU, ?_⟩;have aeO:κ.base<=A.heap.size:=wB h2.fr.gz h2.fr.size;have hlA:=(kf.1 h5).1;have hxW:dq A (WW κ.W (R pre) L') x anM.toList:=by
    have hk:=ch.refl Wk A;have conv:∀(ts:ar) (vs:List Value),dq A Wk ts vs->dq A (WW κ.W (R pre) L') ts vs:=λts vs h=>dq.aD hk.toKeepsC (λb _ hb=>h4 b hb) ts vs h
    exact conv _ _ hx
   have pP:∀t,ap A κ.W (R pre) L' (st.tmps t) (a.tmps.getD t Go.undef):=λt=>ap.er h3 _ _ (h0.tmps t);have NY:=zh (nt:=nt) qs.toList x anM.toList st.tmps a.tmps dR h0.size vh hxW pP;rw[<-Gf]at NY
   let κ1:kS:=⟨κ.W,R pre,L',A,κ.base,κ.M,κ.w0,none,some l,none⟩
   have aeP:κ1.uX P:=⟨λJ hJ=>(by cases hJ),λl r s hY=>(by cases hY),λl' hl'=>by cases hl';exact⟨rec,h5⟩⟩;have ahS:F1 κ1 nt ⟨wY st.tmps qs.toList x,R pre,st.az,st.az,[]⟩ {tmps:=(qs.zip anM).foldl (λt (p,v)=>t.setIfInBounds p v) a.tmps,defers:=[]} A L':=
    ⟨⟨⟨κ.W,κ.base,κ.M,κ.w0,⟨λ_=>rfl,rfl,rfl,rfl,rfl⟩,NY.1,NY.2,h2⟩,fX.bZ (ch.refl _ _),⟨[],rfl,QY,(λ_ h=>by cases h),λ_=>rfl⟩,λ_=>aeO,⟨st.az,wZ pre⟩⟩,wZ pre,wZ pre,λh=>by cases h⟩
   refine roundIn_of_wpIn trivial ?_;refine wpIn_mono ((round pre x rest h1).run y hy 0 κ1 _ A L' aeP ahS) ?_;rintro e a' w' ⟨s1,L1,⟨rfl,aeQ⟩,LA⟩;have AQ:fX κ.W (R pre) L' A s1.ab L1 w':=LA.r.er;have Co:w'.heap[l]? =some (.loop rec):=AQ.bV.KU l rec h5;have ahT:=(kf.1 Co).1;refine⟨_,run_beginRound Co r1, ?_⟩
   let busy:Loop:={rec with state:=.busy}
   let SX:kS:=⟨κ.W,R pre,L',A.putObj l (.loop busy),κ.base,κ.M,κ.w0,none,some l,none⟩
   have IW:(A.putObj l (.loop busy)).heap.size=A.heap.size:=by simp[World.putObj]
   have vO:(w'.putObj l (.loop busy)).heap.size=w'.heap.size:=by simp[World.putObj]
   have gA:(A.putObj l (.loop busy)).heap[l]? =some (.loop busy):=World.putObj_heap_same hlA;have gw':(w'.putObj l (.loop busy)).heap[l]? =some (.loop busy):=World.putObj_heap_same ahT;have oA:∀b,b≠l->(A.putObj l (.loop busy)).heap[b]? =A.heap[b]? :=λb hb=>World.putObj_heap_other hb;have ow:∀b,b≠l->(w'.putObj l (.loop busy)).heap[b]? =w'.heap[b]? :=λb hb=>World.putObj_heap_other hb;have TA:¬Obj.plain (.loop rec):=λe=>e;have aeR:SX.uX P:=⟨λJ hJ=>(by cases hJ),λl r s hY=>(by cases hY),λl' hl'=>by cases hl';exact⟨busy,gA⟩⟩;have SY:κ.base<=l:=wB iU TF;have ahU:fX κ.W (R pre) L' (A.putObj l (.loop busy)) s1.ab L1 (w'.putObj l (.loop busy)):=by
    refine⟨⟨⟨by rw[IW,vO];exact AQ.bV.size,λb c e fr hb hn=>?_⟩,λb hb=>?_,λb rr hb=>?_⟩,λb hb hw=>?_,AQ.fix,AQ.aR,AQ.yl⟩
    ·have cZ:b≠l:=by rintro rfl;rw[gA]at hb;cases hb
     rw[oA b cZ]at hb;rw[ow b cZ];exact AQ.bV.gp b c e fr hb hn
    ·have cZ:b≠l:=by rintro rfl;rw[gA]at hb;cases hb
     rw[oA b cZ]at hb;rw[ow b cZ];exact AQ.bV.HG b hb
    ·by_cases cZ:b=l
     ·subst cZ;rw[gA]at hb;rw[gw'];exact hb
     ·rw[oA b cZ]at hb;rw[ow b cZ];exact AQ.bV.KU b rr hb
    ·rw[IW]at hb;exact AQ.sub b hb hw
   have ahV:F1 SX nt s1 a' (w'.putObj l (.loop busy)) L1:=by
    obtain⟨W2,aen,M2,w02,Ll,UC⟩:=LA.r.ex;have ajE:=Ll;obtain⟨e0,e1,e2,e3,e4⟩:=Ll
    replace UC:R0 κ.base κ.W κ.M κ.w0 nt s1.tmps s1.ab a' w' L1:=by rw[e1,e2,e3,e4]at UC;exact UC
    have qq:KeepsC (WW κ.W s1.ab L1) w' (w'.putObj l (.loop busy)):=⟨by rw[vO];exact iV _,λb c e fr hb _=>jj Co TA b _ trivial hb⟩;obtain⟨Ds,d1,d2,d3,d4⟩:=LA.r.defers;refine⟨⟨⟨κ.W,κ.base,κ.M,κ.w0,⟨e0,rfl,rfl,rfl,rfl⟩,UC.size,λt=>(jH qq (SizeOf.sizeOf (s1.tmps t)+1)).1 (s1.tmps t) _ (IV _) (UC.tmps t),oF UC.o Co TA SY⟩,ahU,⟨Ds,d1,d2,λD hD=>?_,d4⟩,λ_=>by rw[IW];exact aeO,LA.r.je⟩,LA.fresh,LA.low,λh=>by cases h⟩;have:=d3 D hD;refine⟨?_,by rw[IW];exact this.2⟩;rw[ow D (by rintro rfl;rw[Co]at this;cases this.1)];exact this.1
   refine wpIn_mono (aeQ.run z hz 0 SX a' _ L1 aeR ahV) ?_;rintro e a3 w3 ⟨s3,L3,⟨rfl,hLe⟩,ahW⟩;obtain⟨L4,aeS⟩:=hLe SX nt a3 w3 L3 ahW;have AR:fX κ.W (R pre) L' (A.putObj l (.loop busy)) (R (pre++[x])) L4 w3:=aeS.r.er;have hl3:w3.heap[l]? =some (.loop busy):=AR.bV.KU l busy gA;have ahX:=(kf.1 hl3).1;have abK:=run_endRound (P:=P) none hl3;simp only[Option.isNone_none,yh]at abK;have hbr:({busy with state:=.ready,pending:=none}:Loop)=rec:=by rw[<-ahR]
   rw[hbr]at abK;refine⟨_,_,abK,rfl, ?_⟩;have EV:(w3.putObj l (.loop rec)).heap.size=w3.heap.size:=by simp[World.putObj]
   have g3:(w3.putObj l (.loop rec)).heap[l]? =some (.loop rec):=World.putObj_heap_same ahX;have o3:∀b,b≠l->(w3.putObj l (.loop rec)).heap[b]? =w3.heap[b]? :=λb hb=>World.putObj_heap_other hb;have hnb:¬Obj.plain (.loop busy):=λe=>e;have OH:fX κ.W (R pre) L' A (R (pre++[x])) L4 (w3.putObj l (.loop rec)):=by
    refine⟨⟨⟨by rw[EV];have:=AR.bV.size;rw[IW]at this;exact this,λb c e fr hb hn=>?_⟩,λb hb=>?_,λb rr hb=>?_⟩,λb hb hw=>?_,AR.fix,AR.aR,AR.yl⟩
    ·have cZ:b≠l:=by rintro rfl;rw[h5]at hb;cases hb
     rw[o3 b cZ];exact AR.bV.gp b c e fr (by rw[oA b cZ];exact hb) hn
    ·have cZ:b≠l:=by rintro rfl;rw[h5]at hb;cases hb
     rw[o3 b cZ];exact AR.bV.HG b (by rw[oA b cZ];exact hb)
    ·by_cases cZ:b=l
     ·subst cZ;rw[h5]at hb;rw[g3];exact hb
     ·rw[o3 b cZ];exact AR.bV.KU b rr (by rw[oA b cZ];exact hb)
    ·exact AR.sub b (by rw[IW];exact hb) hw
   obtain⟨W5,ajF,M5,w05,ahY,h05⟩:=aeS.r.ex;obtain⟨_,e1,e2,e3,e4⟩:=ahY
   replace h05:bJ κ.base κ.W κ.M κ.w0 (R (pre++[x])) w3 L4:=by have:=h05.o;rw[e1,e2,e3,e4]at this;exact this
   have QW:bJ κ.base κ.W κ.M κ.w0 (R (pre++[x])) (w3.putObj l (.loop rec)) L4:=oF h05 hl3 hnb SY;have ajM:κ.base<=(w3.putObj l (.loop rec)).heap.size:=wB QW.fr.gz QW.fr.size;have aeT:∀b,WW κ.W (R (pre++[x])) L4 b->b<(w3.putObj l (.loop rec)).heap.size:=by
    rintro b (hb|⟨r',o',q1,q2⟩)
    ·have:=QW.under b hb;omega
    ·exact(QW.ob r' o' q1).lt q2
   have hAw:A.heap.size<=(w3.putObj l (.loop rec)).heap.size:=OH.bV.size;refine⟨λb=>Wk b\/WW κ.W (R (pre++[x])) L4 b,⟨pre++[x],L4,by rw[h1];simp,QW,h3.comp OH (λ_ h=>.inl h) (λ_ h=>h),λb hb=>.inr hb,g3,λD hD=>OH.bV.HG D (h6 D hD), ?_⟩,OH.bV.mono h4, ?_,λb hb=>.inl hb⟩
   ·rintro b (hb|hb)
    ·exact MG (h7 b hb) hAw
    ·exact aeT b hb
   ·rintro b (hb|hb)
    ·exact⟨MG (h7 b hb) hAw,.inl hb⟩
    ·refine⟨aeT b hb, ?_⟩;by_cases ahZ:b<A.heap.size
     ·exact .inl (h4 b (OH.sub b ahZ hb))
     ·exact .inr (by omega)
 obtain⟨AS,hA1⟩:=bJ.grow h0.o u3;have hJ1:J (WW κ.W st.ab L) u4 W1:=⟨[],L,rfl,by rw[hR0];exact AS,by rw[hR0];exact hA1,by rw[hR0];exact λb hb=>hb,hl1,λD hD=>(Wd D hD).1,λb hb=>MG (vj b hb) u3.size⟩;refine⟨l,SW.map mark,W1,{target:=.fn (.func f) vs,args:= #[.func (.yield l) #[] #[]]},W1,f, #[.func (.yield l) #[] #[]]++vs,W1,wK, ?_,λ_ _=>trivial, ?_,(λh=>by cases h), ?_⟩
 ·simp only[resolve,QV,Deferred.ofValue];simp[Act.eval]
 ·simp[invoke,callFunc,ahQ,cZ];intro rF;simp[rF]at K6
 ·refine dK ((Lz.run l J (WW κ.W st.ab L) W1 vs abJ hJ1 ?_ (λb hb=>MG (vj b hb) u3.size) AS.gl).mono ?_)
  ·exact aN.aD (ch.Ck u3.toBelow (W:=WW κ.W st.ab L)).toKeepsC (λ_ _ h=>h) _ _ y8
  ·rintro e B ⟨⟨v,rfl⟩,W',pre,L',h1,h2,h3,h4,h5,h6,h7⟩;have:pre=u4:=by simpa using h1.symm
   subst this;refine⟨none,_,by have:=run_endLoop (P:=P) h5 (by rw[r1];simp);rw[r2]at this;exact this, ?_⟩;have hlB:=(kf.1 h5).1
   let off:Loop:={rec with state:=.exhausted,pending:=none}
   have TA:¬Obj.plain (.loop rec):=λe=>e;have SY:κ.base<=l:=wB iU TF;have hsB:(B.putObj l (.loop off)).heap.size=B.heap.size:=by simp[World.putObj]
   have oB:∀b,b≠l->(B.putObj l (.loop off)).heap[b]? =B.heap[b]? :=λb hb=>World.putObj_heap_other hb;have qq:KeepsC (WW κ.W (R pre) L') B (B.putObj l (.loop off)):=⟨by rw[hsB];exact iV _,λb c e fr hb _=>jj h5 TA b _ trivial hb⟩;have So:(κ.B0 st.todo).heap.size<=w.heap.size:=r.r.er.bV.size;have aeU:=So;rw[kS.rE]at aeU;have ah0:fX κ.W κ.go κ.gL (κ.B0 st.todo) (R pre) L' (B.putObj l (.loop off)):=by
    have h:=r.r.er.comp h3 (λ_ h=>.inl h) (λ_ h=>h);refine⟨⟨⟨by rw[hsB];exact h.bV.size,λb c e fr hb hn=>jj h5 TA b _ trivial (h.bV.gp b c e fr hb hn)⟩,λb hb=>?_,λb rr hb=>?_⟩,h.sub,h.fix,h.aR,h.yl⟩
    ·rw[oB b (by have:=(kf.1 hb).1;omega)];exact h.bV.HG b hb
    ·rw[oB b (by have:=(kf.1 hb).1;omega)];exact h.bV.KU b rr hb
   obtain⟨Ds,d1,d2,d3,d4⟩:=r.r.defers;refine⟨_,L',done,⟨⟨κ.W,κ.base,κ.M,κ.w0,fF,h0.size,λt=>(jH qq (SizeOf.sizeOf (st.tmps t)+1)).1 (st.tmps t) _ (IV _) (ap.er h3 _ _ (h0.tmps t)),oF h2 h5 TA SY⟩,ah0,⟨SW++Ds,by rw[qQ,<-d1], ?_,λD hD=>?_,λh=>by rw[hJ]at h;cases h⟩,r.r.bg,⟨st.az,wZ pre⟩⟩,wZ pre,r.low,r.it⟩
   ·rw[Rc];refine⟨wu,d2,λD hD D' Sy e=>?_⟩;subst e;have k1:=(Wd D hD).2;have k2:=(kf.1 (d3 D Sy).1).1;omega
   ·rcases dP.1 hD with hD|hD
    ·refine⟨?_,wB aeU (Wd D hD).2⟩;rw[oB D (hDl D hD)];exact h6 D hD
    ·refine⟨?_,(d3 D hD).2⟩;have k2:=(kf.1 (d3 D hD).1).1;rw[oB D (by omega)];exact h3.bV.HG D (d3 D hD).1
def Gg:Exit->nO->Prop
 |.normal,st|.ret,st=>st.todo=[]
 |_,_=>False
def CR(bP:ar)(u4:List (ar)):nO:=⟨λk=>match k with|0=>.vU|k+1=>JU bP[k]?,λ_=>none,1000,0,u4⟩
def av.okI(h:av P f nt d [])(dI:bP.length+1<=nt)(k:aa P nt d Gg (CR bP u4))(ML:(cG.k:Option (Nat×(bD->bA->fp)))=none:=by rfl):abI P f bP u4:=by
 have wK:=h.entry;obtain⟨fn,sK,rfl,h3,hr,_⟩:=h;obtain⟨c,hb,hc⟩:=fE.1 h3;refine⟨wK,λl J W A vs hy hj eZ hW hg=>?_⟩;have hl:=aN.length eZ;simp only[HM]at hl;have rL:F1 ⟨W,λ_=>none,⟨λ_=>0,λ_=>Go.undef,l⟩,A,0,λ_=>False,A,some J,none,none⟩ fn.ntmps (CR bP u4) {tmps:=(#[.func (.yield l) #[] #[]]++vs)++Array.replicate (fn.ntmps-(#[Value.func (.yield l) #[] #[]]++vs).size) Go.undef,defers:=[]} A ⟨λ_=>0,λ_=>Go.undef,l⟩:=by
  refine⟨⟨⟨W,A.heap.size,λ_=>False,A,⟨hj,rfl,rfl,λb hb=>.inl hb,λb hb=>hb⟩,by simp;omega,λk=>?_,⟨Fr.refl (iV _),(λr o h=>by cases h),(λr r' o o' b _ h=>by cases h),(λr o b h=>by cases h),hW,hg.start⟩⟩,
   fX.bZ (ch.refl _ _),⟨[],rfl,QY,(λ_ h=>by cases h),λ_=>rfl⟩,(λh=>by cases h),⟨0,λ_ _=>rfl⟩⟩,λ_ _=>rfl,λ_ _=>rfl,λ_=>rfl⟩
  simp only[CR];cases k with
  |zero=>simp only[ap];exact mG (by simp)
  |succ k=>
   simp only;cases hk:bP[k]? with
   |some x=>
    obtain⟨v,hv,_,nG⟩:=aN.get eZ hk;have nH:(#[Value.func (.yield l) #[] #[]]++vs).toList[k+1]? =some v:=by simpa using hv
    simp only[mG nH,JU,ap];refine aO.aD (ch.refl W A).toKeepsC ?_ x v nG;rintro b hb (h|⟨r,o,h,_⟩)
    ·exact h
    ·cases h
   |none=>
    have yx:(#[Value.func (.yield l) #[] #[]]++vs).size<=k+1:=by
     have:=EO.1 hk;simp;omega
    simp only[JU,ap,mH yx]
 refine callsIn_wide.1 (callsIn_of_wp_marks (n:=0) sK hb trivial ?_);refine wpIn_mono (k.run c hc 0 _ _ _ _ ⟨λJ' hJ=>(by cases hJ;exact⟨hy,ML,rfl⟩),λl r s hY=>(by cases hY),λl hl=>(by cases hl)⟩ rL) ?_;rintro e a' w' ⟨dD,L',q,r'⟩;have done:dD.todo=[]->LeavesInM Fence.wide 0 P fn a'.tmps (λe B=>(∃v,e=.returned v)/\∃W',J W' [] B) a'.defers .returning w':=by
  intro hq;obtain⟨Ds,h1,h2,h3,h4⟩:=r'.r.defers;have hD0:=h4 rfl;subst hD0;rw[h1];obtain⟨W',H1,M',QR,fF,h0⟩:=r'.r.ex;obtain⟨MA,rfl,rfl,_,_⟩:=fF;rw[show(⟨dD.tmps,dD.ab,dD.todo⟩:RS).todo=[]from hq]at MA;obtain⟨v,k1,_⟩:=oN (st:=dD) h0 (d5:=true) (W':=λ_=>False) (λ_ _ _ _ _ _ h=>h) (λ_ h=>h.elim) hr ⟨(trivial:oM true dD []),rfl⟩;have fr:=h0.o.fr;exact⟨v,k1,⟨v,rfl⟩,W',hy.Wb W' [] QR w' MA ⟨⟨fr.os,fr.tape,fr.output,fr.size,λk hk=>fr.block k hk (λx=>x)⟩,fr.drawn⟩⟩
 cases e with
 |normal=>exact done q
 |ret=>exact done q
 |_=>exact q.elim
end
def kM(ab ay:bA)(σ:Nat->Nat)(tm:cQ):iE->Prop
 |[]=>True
 |(k,d)::l=>iz ab ay σ (tm k) d/\kM ab ay σ tm l
def qw(ab ay:bA)(σ:Nat->Nat):d0->Prop
 |[]=>True
 |(r,o)::l=>(∃o0,ab (σ r)=some o0/\kn ab ay σ o0 o)/\qw ab ay σ l
def iN(n:Nat):d0->Prop
 |[]=>True
 |(r,_)::l=>r<n/\iN n l
def dO(n:Nat):d0->Prop
 |[]=>True
 |(r,_)::l=>n<=r/\dO n l
def AT(σ:Nat->Nat)(r:Nat):d0->Prop
 |[]=>True
 |(r',_)::l=>(σ r=σ r'->r=r')/\AT σ r l
def vq(σ:Nat->Nat):d0->Prop
 |[]=>True
 |(r,_)::l=>AT σ r l/\vq σ l
def lJ:∀{l:d0} {r:Nat} {o:Ob},cC l r=some o->(r,o)∈l
 |[],_,_,h=>by cases h
 |(j,x)::l,r,o,h=>by
  simp only[cC]at h;split at h
  ·rename_i e;cases h;subst e;exact KY ..
  ·exact Cq _ (lJ h)
def H8{l:d0}(h:cC l r≠none):∃o,(r,o)∈l:=by
 cases ho:cC l r with
 |none=>exact yV ho h
 |some o=>exact⟨o,lJ ho⟩
def jO{n:Nat}:∀{l:d0},iN n l->∀r o,(r,o)∈l->r<n
 |[],_,_,_,h=>by cases h
 |(j,x)::l,hk,r,o,h=>by
  rcases pH.1 h with e|h
  ·cases e;exact hk.1
  ·exact jO hk.2 r o h
def rV{n:Nat}:∀{l:d0},dO n l->∀r o,(r,o)∈l->n<=r
 |[],_,_,_,h=>by cases h
 |(j,x)::l,hk,r,o,h=>by
  rcases pH.1 h with e|h
  ·cases e;exact hk.1
  ·exact rV hk.2 r o h
def qx{ab ay:bA}{σ:Nat->Nat}:∀{l:d0},qw ab ay σ l->∀r o,(r,o)∈l->∃o0,ab (σ r)=some o0/\kn ab ay σ o0 o
 |[],_,_,_,h=>by cases h
 |(j,x)::l,hk,r,o,h=>by
  rcases pH.1 h with e|h
  ·cases e;exact hk.1
  ·exact qx hk.2 r o h
def qy{σ:Nat->Nat}{r:Nat}:∀{l:d0},AT σ r l->∀r' o,(r',o)∈l->σ r=σ r'->r=r'
 |[],_,_,_,h=>by cases h
 |(j,x)::l,hk,r',o,h=>by
  rcases pH.1 h with e|h
  ·cases e;exact hk.1
  ·exact qy hk.2 r' o h
def ux{σ:Nat->Nat}:∀{l:d0},vq σ l->∀r1 r2 o1 o2,(r1,o1)∈l->(r2,o2)∈l->σ r1=σ r2->r1=r2
 |[],_,_,_,_,_,h,_=>by cases h
 |(j,x)::l,hk,r1,r2,o1,o2,h1,h2=>by
  rcases pH.1 h1 with e1|h1
  ·cases e1;rcases pH.1 h2 with e2|h2
   ·cases e2;exact λ_=>rfl
   ·exact qy hk.1 r2 o2 h2
  ·rcases pH.1 h2 with e2|h2
   ·cases e2;exact λe=>(qy hk.1 r1 o1 h1 e.symm).symm
   ·exact ux hk.2 r1 r2 o1 o2 h1 h2
@[simp] def UM(σ:Nat->Nat)(r:Nat):gone (cC []) σ r:=λr' h=>by simp[cC]at h
def OI{σ:Nat->Nat}{j:Nat}{o:Ob}{l:d0}(h1:σ j≠r)(h2:gone (cC l) σ r):gone (cC ((j,o)::l)) σ r:=by
 intro r' jV;by_cases hj:r'=j
 ·subst hj;exact h1
 ·exact h2 r' (by rw[rO,mL hj]at jV;exact jV)
def rW{ab ay:bA}{σ:Nat->Nat}{tm:cQ}:∀(l:iE),kM ab ay σ tm l->∀k,iz ab ay σ (tm k) (look l k)
 |[],_,k=>by
  show iz ab ay σ (tm k) .undef;cases tm k<;>simp[iz]
 |(j,d)::l,h,k=>by
  simp only[look];split
  ·rename_i e;subst e;exact h.1
  ·exact rW l h.2 k
def Le.ah1{tm:cQ}{o:d0}{l:iE}{az:Nat}{td:List (ar)}{low:Nat}(σ:Nat->Nat)(zf:dO low o0)(hk:iN bC o)(ha:vq σ o)
  (c9:qw (cC o0) (cC o) σ o) (pP:kM (cC o0) (cC o) σ tm l):Le ⟨tm,cC o0,az,low,td⟩ ⟨look l,cC o,bC,low,td⟩:=by
 refine Le.cor σ rfl rfl (λr hr=>?_) (λr' o' h=>qx c9 r' o' (lJ h)) (λr1 r2 h1 h2 e=>?_) (λr hr o' h=>?_) (λk=>rW l pP k)
 ·cases ho:cC o r with
  |none=>exact ho
  |some x=>have:=jO hk r x (lJ ho);simp only at hr;omega
 ·obtain⟨x1,k1⟩:=H8 h1;obtain⟨x2,k2⟩:=H8 h2;exact ux ha r1 r2 x1 x2 k1 k2 e
 ·have:=rV zf r o' (lJ h);simp only at hr;omega
def Le.aD{tm:cQ}{o:d0}{l:iE}{az:Nat}{td:List (ar)}{low:Nat}(zf:dO low o0)(hk:iN bC o)
  (c9:qw (cC o0) (cC o) id o) (pP:kM (cC o0) (cC o) id tm l):Le ⟨tm,cC o0,az,low,td⟩ ⟨look l,cC o,bC,low,td⟩:=by
 refine Le.ah1 id zf hk ?_ c9 pP;clear hk c9 pP;induction o with
 |nil=>trivial
 |cons p o ih=>
  refine⟨?_,ih⟩;clear ih;induction o with
  |nil=>trivial
  |cons q o ih=>exact⟨λh=>h,ih⟩
attribute [simp] kM qw iN dO AT vq iz km OC OE H6 H7 AP kn
def uy(tm:cQ):iE->Prop
 |[]=>True
 |(k,d)::l=>tm k=d/\uy tm l
def w6{tm:cQ}:∀{l:iE},uy tm l->∀k,look l k=.undef\/look l k=tm k
 |[],_,_=>.inl rfl
 |(j,d)::l,h,k=>by
  simp only[look];split
  ·rename_i e;subst e;exact .inr h.1.symm
  ·exact w6 h.2 k
section
variable{P:Program}{nt:Nat}{Γ:gP}{Q:Exit->nO->Prop}{tm:cQ}{ob:bA}{az low:Nat}{td:List (ar)}
def aa.WA(am:au P Γ)(hm:P.follows .mixedOrders=true)(l:iE)(JV:bA)
  (h:dy Γ az rs ⟨tm,ob,td⟩ λs=>uy s.tmps l/\s.ab=JV/\s.todo=td) (k:Q .normal ⟨look l,JV,az+nt+1,low,td⟩):aa P nt (.region fJ rs) Q ⟨tm,ob,az,low,td⟩:=by
 obtain⟨h1,h2,h3,h4⟩:=gE _ _ _ h;refine aa.nh (Q:=λe s=>e=.normal/\s=⟨(cO Γ az rs ⟨tm,ob,td⟩).tmps,(cO Γ az rs ⟨tm,ob,td⟩).ab,az+nt+1,low,(cO Γ az rs ⟨tm,ob,td⟩).todo⟩) (aa.region am hm (st:=⟨tm,ob,az,low,td⟩) h1 ⟨rfl,rfl⟩) ?_;rintro e s ⟨rfl,rfl⟩;refine⟨_,Le.pX (w6 h2), ?_⟩;simp only[h3,h4];exact k
def aa.Cj(am:au P Γ)(hm:P.follows .mixedOrders=true){b:DC}(l:iE)(JV:bA)
  (h:dy Γ az rs ⟨tm,ob,td⟩ λs=>uy s.tmps l/\s.ab=JV/\s.todo=td) (k:aa P nt b Q ⟨look l,JV,az+nt+1,low,td⟩):aa P nt (.seq (.region fJ rs) b) Q ⟨tm,ob,az,low,td⟩:=
 aa.seq (aa.WA am hm l JV h k)
def aa.co(am:au P Γ)(hm:P.follows .mixedOrders=true){b:DC}(l:iE)
  (h:dy Γ az rs ⟨tm,ob,td⟩ λs=>uy s.tmps l/\s.ab=ob/\s.todo=td) (k:aa P nt b Q ⟨look l,ob,az+nt+1,low,td⟩):aa P nt (.seq (.region fJ rs) b) Q ⟨tm,ob,az,low,td⟩:=
 aa.Cj am hm l ob h k
def aa.to(Wm:nO)(h:aa P nt d (λe s=>e=.normal/\Le s Wm) st)(k:Q .normal Wm):aa P nt d Q st:=
 aa.nh h λe s ⟨h1,h2⟩=>by subst h1;exact⟨Wm,h2,k⟩
end
section
variable{P:Program}{nt:Nat}{d:DC}{Q:Exit->nO->Prop}{low az bC:Nat}
def aa.lk{tm:cQ}{o0 o:d0}{l:iE}{td:List (ar)}(h:dO low o0/\iN bC o/\qw (cC o0) (cC o) id o/\kM (cC o0) (cC o) id tm l)(k:aa P nt d Q ⟨look l,cC o,bC,low,td⟩):aa P nt d Q ⟨tm,cC o0,az,low,td⟩:=aa.le (Le.aD h.1 h.2.1 h.2.2.1 h.2.2.2) k
def aa.sq{Γ:gP}{tm:cQ}{ob:bA}{td:List (ar)}(am:au P Γ)(hm:P.follows .mixedOrders=true){fJ:Bool}{rs:ah}{b c:DC}(ks:bY)(h:dy Γ az rs ⟨tm,ob,td⟩ λs=>aa P nt b (zb (aa P nt c Q) Q) ⟨look (kZ ks s.tmps),s.ab,az+nt+1,low,s.todo⟩):aa P nt (.seq (.seq (.region fJ rs) b) c) Q ⟨tm,ob,az,low,td⟩:=aa.seq (aa.ag am hm ks h)
def aa.c0{st:nO}{x:be}{a b:DC}(h:x.ev st.tmps=.v (.bool false))(k:aa P nt b Q st):aa P nt (.cond x a b) Q st:=aa.cond h (λg=>by cases g) λ_=>k
def aa.c1{st:nO}{x:be}{a b:DC}(h:x.ev st.tmps=.v (.bool true))(k:aa P nt a Q st):aa P nt (.cond x a b) Q st:=aa.cond h (λ_=>k) λg=>by cases g
end
attribute [simp] uy
end
section
variable{d:DC}{f ab:bA}{r:Nat}{args:bD}
variable [bh] [cG]
section
variable{P:Program}{nt:Nat}{Γ:gP}{Q:Exit->nO->Prop}{tm:cQ}{ob:bA}{az low:Nat}{td:List (ar)}
def aa.oO(am:au P Γ)(hm:P.follows .mixedOrders=true){fJ:Bool}{rs:ah}(l:iE)
  (h:dy Γ az rs ⟨tm,ob,td⟩ λs=>uy s.tmps l/\s.ab=ob/\s.todo=td) (k:Q .normal ⟨look l,ob,az+nt+1,low,td⟩):aa P nt (.region fJ rs) Q ⟨tm,ob,az,low,td⟩:=
 aa.WA am hm l ob h k
end
def zi:∀(ts:ar) (i k:Nat),look (((ts.map .v).zipIdx i).map λp=>(p.2,p.1)) k=.undef\/look (((ts.map .v).zipIdx i).map λp=>(p.2,p.1)) k=JU (if i<=k then ts[k-i]? else none)
 |[],i,k=>.inl rfl
 |t::ts,i,k=>by
  simp only[l8,ZbG,kH];split
  ·rename_i h;subst h;exact .inr (by simp[JU])
  ·rename_i h;rcases zi ts (i+1) k with e|e
   ·exact .inl e
   ·right;rw[e];by_cases hk:i+1<=k
    ·rw[uV hk,uV (by omega),show k-i=(k-(i+1))+1 by omega,EN]
    ·have:¬i<=k:=by omega
     rw[mL hk,mL this]
def LB{P:Program}{nt:Nat}{Q:Exit->nO->Prop}{bP:ar}{u4:List (ar)}
  (h:aa P nt d Q ⟨look ((0,.vU)::((bP.map .v).zipIdx 1).map λp=>(p.2,p.1)),cC [],1000,0,u4⟩):aa P nt d Q (CR bP u4):=by
 refine aa.le (Le.trans (Le.pX (st:=CR bP u4) (tm:=look ((0,.vU)::((bP.map .v).zipIdx 1).map λp=>(p.2,p.1))) λk=>?_) (λκ nt a w L r=>⟨L,r⟩)) h;simp only[kH];split
 ·rename_i e;subst e;exact .inr rfl
 ·rename_i e;rcases zi bP 1 k with h|h
  ·exact .inl h
  ·rw[h];have:1<=k:=by omega
   rw[uV this];obtain⟨j,rfl⟩:∃j,k=j+1:=⟨k-1,by omega⟩;exact .inr rfl
def bI(f:bA)(r:Nat)(o:Ob):bA:=λk=>if k=r then some o else f k
def Ge(f:bA)(r:Nat)(o:Ob)(k:Nat):bI f r o k=if k=r then some o else f k:=rfl
@[simp] def adE(f:bA)(r:Nat)(o o':Ob):bQ (bI f r o) (some (r,o'))=bI f r o':=by
 funext k;simp only[zd,bI];split<;>rfl
@[simp] def adF(f:bA)(r:Nat)(o o':Ob):bI (bI f r o) r o'=bI f r o':=by
 funext k;simp only[bI];split<;>rfl
def kI{o:Ob}(h:f r=some o):f=bI f r o:=by
 funext k;simp only[bI];split
 ·rename_i e;rw[e,h]
 ·rfl
def dE{o o':Ob}(h:f r=some o){k:Nat}(hk:f k=none):bI f r o' k=none:=by
 simp only[bI];split
 ·rename_i e;rw[e,h]at hk;cases hk
 ·exact hk
def Le.same{tm:cQ}{ob:bA}{az bC low:Nat}{td:List (ar)}{l:iE}(h:∀r,bC<=r->ob r=none)(hl:uy tm l):Le ⟨tm,ob,az,low,td⟩ ⟨look l,ob,bC,low,td⟩:=
 Le.trans (Le.pX (w6 hl)) λκ nt a w L r=>⟨L,⟨r.r,h,r.low,r.it⟩⟩
def w7:∀(ds:bD) (i k:Nat),look ((ds.zipIdx i).map λp=>(p.2,p.1)) k=.undef\/look ((ds.zipIdx i).map λp=>(p.2,p.1)) k=F4 (if i<=k then ds[k-i]? else none)
 |[],i,k=>.inl rfl
 |t::ts,i,k=>by
  simp only[l8,ZbG,kH];split
  ·rename_i h;subst h;exact .inr (by simp[F4])
  ·rename_i h;rcases w7 ts (i+1) k with e|e
   ·exact .inl e
   ·right;rw[e];by_cases hk:i+1<=k
    ·rw[uV hk,uV (by omega),show k-i=(k-(i+1))+1 by omega,EN]
    ·have:¬i<=k:=by omega
     rw[mL hk,mL this]
def fk{P:Program}{nt:Nat}{Q:Exit->nO->Prop}{N:Nat}(h:aa P nt d Q ⟨look (args.zipIdx.map λp=>(p.2,p.1)),ab,N,N,[]⟩):aa P nt d Q (ut args ab N):=by
 refine aa.le (Le.pX (st:=ut args ab N) (tm:=look (args.zipIdx.map λp=>(p.2,p.1))) λk=>?_) h;have:=w7 args 0 k;simpa [ut]using this
def dM:∀{x:ar},(∀t∈x,q9 t=true)->fc (x.map .v)
 |[],_=>trivial
 |t::x,h=>⟨h t (KY ..),dM λt ht=>h t (Cq _ ht)⟩
@[simp] def OJ(ob:bA):∀x:ar,fR ob (x.map .v)=x
 |[]=>rfl
 |t::x=>by simp[OJ ob x]
@[simp] def aeV(f:bA)(r:Nat)(o:Ob):bI f r o r=some o:=by simp[bI]
def pZ(n:Nat)(x:ar):Prop:=x.length=n/\∀t∈x,q9 t=true
def b9.of{P:Program}{f:FuncId}{r r':fp}(h:b9 P f args ab r)(h1:r'.ab=r.ab)(h2:r'.val=r.val):b9 P f args ab r':=by
 obtain⟨ok,val,ob⟩:=r;obtain⟨ok',ajN,JV⟩:=r';simp only at h1 h2;subst h1 h2;exact⟨h.entry,h.run⟩
end
section
variable{f ob:bA}{o':Ob}{r sz az low:Nat}{tm:cQ}{td:List (ar)}{σ:Nat->Nat}
variable [bh] [cG]
def Loc.at(L:Loc)(q:Nat)(x:Value):Loc:=⟨L.gp,λk=>if k=q then x else L.sl k,L.yl⟩
section
variable{base:Nat}{W M:dJ}{w0 w:World}{ab:bA}{L:Loc}
def fC{q:Nat}{o:Ob}(h:bI f q o r=some o'):(r=q/\o'=o)\/(r≠q/\f r=some o'):=by
 simp only[bI]at h;split at h
 ·rename_i e;exact .inl ⟨e,(Zdb h).symm⟩
 ·rename_i e;exact .inr ⟨e,h⟩
def wO{q:Nat}{o:Ob}(h:r≠q)(k:f r=some o'):bI f q o r=some o':=by
 simp only[bI,mL h,k]
def AX{q:Nat}{x:Value}{o:Ob}(h:r≠q):(L.at q x).own r o=L.own r o:=by
 cases o<;>simp[Loc.own,Loc.at,h]
def vr{q:Nat}{a:Option Addr}{v e:Nat}{an:List (ar)}:(L.at q (.slice a 0 0)).own q (.aR v e sz an)=none:=by
 cases a<;>simp[Loc.own,Loc.at,aP]
def OM{q:Nat}{a:Option Addr}{e:Nat}{b:Nat}(h:WW W (bI ab q (.aR 0 e sz [])) (L.at q (.slice a 0 0)) b):WW W ab L b:=by
 rcases h with h|⟨r,o,hr,hb⟩
 ·exact .inl h
 ·rcases fC hr with⟨rfl,rfl⟩|⟨cZ,hr⟩
  ·rw[vr]at hb;cases hb
  ·rw[AX cZ]at hb;exact .inr ⟨r,o,hr,hb⟩
def AY{q:Nat}{a:Option Addr}{e:Nat}(hq:ab q=none):fX W ab L w (bI ab q (.aR 0 e sz [])) (L.at q (.slice a 0 0)) w:=by
 refine⟨ch.refl _ _,λb _ h=>OM h,λr o hr hk=>?_,λr aX e' fS an hr=>?_,rfl⟩
 ·have cZ:r≠q:=λh=>by rw[h,hq]at hr;cases hr
  exact⟨rfl,o,wO cZ hr,rfl⟩
 ·have cZ:r≠q:=λh=>by rw[h,hq]at hr;cases hr
  exact⟨aX,e',fS,an,wO cZ hr,iV _,λ_=>⟨by simp[Loc.at,cZ],rfl,rfl⟩⟩
def CV(hO:bJ base W M w0 ab w L){q:Nat}{a:Option Addr}{e:Nat}(fG:0<sz)(hq:ab q=none):bJ base W M w0 (bI ab q (.aR 0 e sz [])) w (L.at q (.slice a 0 0)):=by
 have hA:=AY (W:=W) (w:=w) (L:=L) (a:=a) (e:=e) (sz:=sz) hq;refine⟨hO.fr,λr o hr=>?_,λr r' o o' b cZ h1 h2 hb=>?_,λr o b hr hb=>?_,hO.under,hO.gl.aD hA.bV.toKeepsC hA.sub⟩
 ·rcases fC hr with⟨rfl,rfl⟩|⟨cZ,hr⟩
  ·refine⟨fG,λx hx=>(by cases hx),λg hg=>?_,.inl ⟨rfl,a,by simp[Loc.at]⟩⟩;exfalso;simp only[Loc.at,yh]at hg;cases a<;>simp[aP]at hg
  ·have hk:=hO.ob r o hr;cases o with
   |box cs=>
    obtain⟨c,f,aZ,eZ,hm⟩:=hk;exact⟨c,f,aZ,aH.er hA cs _ eZ,hm⟩
   |map bB agg c es=>
    obtain⟨aR,aZ,eZ,q1,q2,q3,hm⟩:=hk;exact⟨aR,aZ,aY.er hA es _ eZ,q1,q2,q3,hm⟩
   |c8 m s sn l=>
    obtain⟨aZ,HK,hm⟩:=hk;exact⟨aZ,(hA.mp m HK).2,hm⟩
   |aR aX e' fS an=>
    obtain⟨g1,g2,g3,g4⟩:=hk;have hs:(L.at q (.slice a 0 0)).sl r=L.sl r:=by simp[Loc.at,cZ]
    refine⟨g1,g2,by rw[hs];exact g3, ?_⟩;rw[hs];rcases g4 with g4|⟨g,cap,dg,hv,hp,hh,k1,k2,k3,k4⟩
    ·exact .inl g4
    ·exact .inr ⟨g,cap,dg,hv,hp,hh,k1,k2,k3,aN.aD (ch.refl (WW W ab L) w).toKeepsC (λb _ hb=>OM hb) _ _ k4⟩
 ·rcases fC h1 with⟨rfl,rfl⟩|⟨n1,h1⟩
  ·rw[vr]at hb;cases hb
  ·rw[AX n1]at hb;rcases fC h2 with⟨rfl,rfl⟩|⟨n2,h2⟩
   ·rw[vr];exact λh=>by cases h
   ·rw[AX n2];exact hO.apart r r' o o' b cZ h1 h2 hb
 ·rcases fC hr with⟨rfl,rfl⟩|⟨n1,hr⟩
  ·rw[vr]at hb;cases hb
  ·rw[AX n1]at hb;exact hO.oh r o b hr hb
end
def Le.lK{k:Nat}(e:Nat)(fG:0<sz)(hk:tm k=.aF):
  Le ⟨tm,ob,az,low,td⟩ ⟨bW tm (some k) (.aQ az 0),bI ob az (.aR 0 e sz []),az+1,low,td⟩:=by
 intro κ nt a w L h;have hq:ob az=none:=h.fresh az (iV _);obtain⟨W,base,M,w0,fF,h0⟩:=h.r.ex;have hx:=h0.tmps k;simp only[hk,ap]at hx;obtain⟨ad,hx⟩:=hx;have hA:=AY (W:=W) (w:=w) (L:=L) (a:=ad) (e:=e) (sz:=sz) hq;have qr:=fF.sub;have fY:∀r,az+1<=r->bI ob az (.aR 0 e sz []) r=none:=λr hr=>by
  simp only[bI];rw[mL (by omega)];exact h.fresh r (by simp only;omega)
 refine⟨L.at az (.slice ad 0 0),⟨⟨W,base,M,w0,fF,h0.size,λt=>?_,CV h0.o fG hq⟩,fX.comp h.r.er hA (fF.N1 _) qr.2,h.r.defers,h.r.bg,⟨_,fY⟩⟩,fY,h.low,h.it⟩;simp only[bW];by_cases ht:t=k
 ·subst ht;simp only[yh,ap];refine⟨⟨ad,0,0,hx⟩,0,e,sz,[],by simp,iV _,λ_=>?_⟩;rw[hx];simp[Loc.at]
 ·simp only[ht,Lg];exact ap.er hA _ _ (h0.tmps t)
def zl{w:World}{W:dJ}{ab:bA}{L:Loc}:∀(cs:bD) (xs:List Value) (k:Nat) (d:DV),aH w W ab L cs xs->(∀x,xs[k]? =some x->ap w W ab L d x)->aH w W ab L (cs.set k d) xs
 |[],xs,k,d,h,_=>by simpa using h
 |c::cs,xs,0,d,h,hd=>by
  simp only[aH]at h;obtain⟨x,jU,rfl,h1,h2,h3⟩:=h;simp only[Sm,aH];exact⟨x,jU,rfl,h1,hd x (by simp),h3⟩
 |c::cs,xs,k+1,d,h,hd=>by
  simp only[aH]at h;obtain⟨x,jU,rfl,h1,h2,h3⟩:=h;simp only[ZcW,aH];exact⟨x,jU,rfl,h1,h2,zl cs jU k d h3 λy hy=>hd y (by simpa using hy)⟩
def zm{w:World}{W:dJ}{ab:bA}{L:Loc}:∀(cs:bD) (xs:List Value) (k:Nat) (d:DV) (x:Value),aH w W ab L cs xs->cs[k]? =some d->xs[k]? =some x->ap w W ab L d x
 |[],xs,k,d,x,h,hk,_=>by simp at hk
 |c::cs,xs,0,d,x,h,hk,hx=>by
  simp only[aH]at h;obtain⟨y,jU,rfl,h1,h2,h3⟩:=h;simp only[pd,bN]at hk hx;subst hk hx;exact h2
 |c::cs,xs,k+1,d,x,h,hk,hx=>by
  simp only[aH]at h;obtain⟨y,jU,rfl,h1,h2,h3⟩:=h;simp only[EN]at hk hx;exact zm cs jU k d x h3 hk hx
def xd{w:World}{W:dJ}{ab:bA}{L:Loc}:∀(cs:bD) (xs:List Value) (k:Nat) (d:DV),aH w W ab L cs xs->cs[k]? =some d->∃x,xs[k]? =some x
 |[],xs,k,d,h,hk=>by simp at hk
 |c::cs,xs,0,d,h,hk=>by
  simp only[aH]at h;obtain⟨y,jU,rfl,h1,h2,h3⟩:=h;exact⟨y,by simp⟩
 |c::cs,xs,k+1,d,h,hk=>by
  simp only[aH]at h;obtain⟨y,jU,rfl,h1,h2,h3⟩:=h;simp only[EN]at hk;obtain⟨x,hx⟩:=xd cs jU k d h3 hk;exact⟨x,by simpa using hx⟩
def Le.ve(r:Nat)(k:Nat){cs:bD}(e:Nat)(fG:0<sz)(hr:ob r=some (.box cs))(hk:cs[k]? =some .aF):
  Le ⟨tm,ob,az,low,td⟩ ⟨tm,bI (bI ob az (.aR 0 e sz [])) r (.box (cs.set k (.aQ az 0))),az+1,low,td⟩:=by
 intro κ nt a w L h;have hq:ob az=none:=h.fresh az (iV _);have hrq:r≠az:=λe=>by rw[e,hq]at hr;cases hr
 have ajO:r<az:=Si λiU=>by have:=h.fresh r iU;simp only at this;rw[this]at hr;cases hr
 obtain⟨W,base,M,w0,fF,h0⟩:=h.r.ex;have hO:=h0.o;obtain⟨c,f,aZ,eZ,hm⟩:=hO.ob r _ hr;obtain⟨x,hx⟩:=xd _ _ _ _ eZ hk;have BX:=zm _ _ _ _ _ eZ hk hx;simp only[ap]at BX;obtain⟨ad,hxa⟩:=BX;have hA:=AY (W:=W) (w:=w) (L:=L) (a:=ad) (e:=e) (sz:=sz) hq;have AS:=CV (a:=ad) (e:=e) hO fG hq;obtain⟨o1,ON⟩:=ba (bI ob az (.aR 0 e sz []));obtain⟨L1,Tk⟩:=ba (L.at az (.slice ad 0 0));have mU:o1 r=some (.box cs):=by rw[<-ON];exact wO hrq hr
 rw[ON,Tk]at hA AS;have vj:∀{V:dJ} b,WW V (bI o1 r (.box (cs.set k (.aQ az 0)))) L1 b->WW V o1 L1 b:=by
  intro V b hb;rcases hb with hb|⟨r',o,jV,hb⟩
  ·exact .inl hb
  ·rcases fC jV with⟨rfl,rfl⟩|⟨_,jV⟩
   ·exact .inr ⟨r',_,mU,hb⟩
   ·exact .inr ⟨r',o,jV,hb⟩
 have F7:fX W o1 L1 w (bI o1 r (.box (cs.set k (.aQ az 0)))) L1 w:=by
  refine⟨ch.refl _ _,λb _ h=>vj b h,λr' o' jV wn=>?_,λr' aX e' fS an jV=>?_,rfl⟩
  ·by_cases he:r'=r
   ·subst he;rw[mU]at jV;cases jV;exact⟨rfl,.box (cs.set k (.aQ az 0)),by simp[bI],rfl⟩
   ·exact⟨rfl,o',wO he jV,rfl⟩
  ·have he:r'≠r:=λhe=>by rw[he,mU]at jV;cases jV
   exact⟨aX,e',fS,an,wO he jV,iV _,λ_=>⟨rfl,rfl,rfl⟩⟩
 have UF:bJ base W M w0 (bI o1 r (.box (cs.set k (.aQ az 0)))) w L1:=by
  refine⟨AS.fr,λr' o jV=>?_,λp p' o o' b cZ h1 h2 hb=>?_,λp o b hp hb=>?_,AS.under,AS.gl.aD F7.bV.toKeepsC F7.sub⟩
  ·rcases fC jV with⟨rfl,rfl⟩|⟨cZ,jV⟩
   ·refine⟨c,f,by rw[<-Tk];exact aZ,zl _ _ _ _ (aH.er F7 _ _ (aH.er hA _ _ eZ)) λy hy=>?_,by rw[<-Tk];exact hm⟩;rw[hx]at hy;cases hy;simp only[ap];refine⟨⟨ad,0,0,hxa⟩,0,e,sz,[],wO (Ne.symm hrq) (by rw[<-ON];simp),iV _,λ_=>?_⟩;rw[hxa,<-Tk];simp[Loc.at]
   ·have wn:=AS.ob r' o jV;cases o with
    |box sN=>
     obtain⟨c',f',OO,OP,FA⟩:=wn;exact⟨c',f',OO,aH.er F7 sN _ OP,FA⟩
    |map bB agg c es=>
     obtain⟨aR,OO,OP,q1,q2,q3,FA⟩:=wn;exact⟨aR,OO,aY.er F7 es _ OP,q1,q2,q3,FA⟩
    |c8 m s sn l=>
     obtain⟨OO,HK,FA⟩:=wn;exact⟨OO,(F7.mp m HK).2,FA⟩
    |aR aX e' fS an=>
     obtain⟨g1,g2,g3,g4⟩:=wn;refine⟨g1,g2,g3, ?_⟩;rcases g4 with g4|⟨g,cap,dg,hv,hp,hh,k1,k2,k3,k4⟩
     ·exact .inl g4
     ·exact .inr ⟨g,cap,dg,hv,hp,hh,k1,k2,k3,aN.aD (ch.refl (WW W o1 L1) w).toKeepsC (λb _ hb=>vj b hb) _ _ k4⟩
  ·have key:∀{p o},bI o1 r (.box (cs.set k (.aQ az 0))) p=some o->∃o2,o1 p=some o2/\L1.own p o=L1.own p o2:=by
    intro p o hp;rcases fC hp with⟨rfl,rfl⟩|⟨_,hp⟩
    ·exact⟨_,mU,rfl⟩
    ·exact⟨o,hp,rfl⟩
   obtain⟨x1,y1,z1⟩:=key h1;obtain⟨x2,y2,z2⟩:=key h2;rw[z1]at hb;rw[z2];exact AS.apart p p' x1 x2 b cZ y1 y2 hb
  ·rcases fC hp with⟨rfl,rfl⟩|⟨_,hp⟩
   ·exact AS.oh p _ b mU hb
   ·exact AS.oh p o b hp hb
 have qr:=fF.sub;have fY:∀r',az+1<=r'->bI o1 r (.box (cs.set k (.aQ az 0))) r'=none:=λr' jV=>by
  rw[<-ON];simp only[bI];rw[mL (by omega),mL (by omega)];exact h.fresh r' (by simp only;omega)
 rw[ON];exact⟨L1,⟨⟨W,base,M,w0,fF,h0.size,λt=>ap.er F7 _ _ (ap.er hA _ _ (h0.tmps t)),UF⟩,fX.comp (fX.comp h.r.er hA (fF.N1 _) qr.2) F7 (fF.N1 _) qr.2,h.r.defers,h.r.bg,⟨_,fY⟩⟩,fY,h.low,h.it⟩
def oR(l:d0)(r:Nat)(o:Ob):bI (cC l) r o=cC ((r,o)::l):=by funext k;rfl
@[simp] def AZ:look []=λ_=>DV.undef:=by funext k;rfl
def xf:Option Ob->Option Ob->Prop
 |some a,some b=>ga a b
 |_,_=>False
def vt(low:Nat)(o0 o:bA):d0->Prop
 |[]=>True
 |(r,_)::l=>(r<low->xf (o0 r) (o r))/\vt low o0 o l
def uD{low:Nat}{o0 o:bA}:∀{l:d0},vt low o0 o l->∀r x,(r,x)∈l->r<low->xf (o0 r) (o r)
 |[],_,_,_,h=>by cases h
 |(r,x)::l,h,r',x',hm=>by
  rcases pH.1 hm with e|hm
  ·cases e;exact h.1
  ·exact uD h.2 r' x' hm
def Le.UO{o0 o:d0}{l:iE}{bC:Nat}(zf:vt low (cC o0) (cC o) o0)(hk:iN bC o)
  (c9:qw (cC o0) (cC o) id o) (pP:kM (cC o0) (cC o) id tm l):Le ⟨tm,cC o0,az,low,td⟩ ⟨look l,cC o,bC,low,td⟩:=by
 refine Le.cor id rfl rfl (λr hr=>?_) (λr' o' h=>qx c9 r' o' (lJ h)) (λr1 r2 h1 h2 e=>e) (λr hr o' h=>?_) (λk=>rW l pP k)
 ·cases ho:cC o r with
  |none=>exact ho
  |some x=>have:=jO hk r x (lJ ho);simp only at hr;omega
 ·have:=uD zf r o' (lJ h) hr;simp only at h⊢;rw[h]at this;refine⟨rfl, ?_⟩;cases ho:cC o r with
  |none=>rw[ho]at this;exact this.elim
  |some x=>rw[ho]at this;exact⟨x,rfl,this⟩
attribute [simp] vt xf ga
@[simp] def adG{j:Nat}{o:Ob}{l:d0}:gone (cC ((j,o)::l)) σ r↔σ j≠r/\gone (cC l) σ r:=by
 refine⟨λh=>⟨h j (by simp),λr' jV=>h r' (by simp only[rO];split<;>simp[jV])⟩,λh=>OI h.1 h.2⟩
@[simp] def aeX:gone (cC []) σ r:=λr' h=>yV rfl h
end
section
variable{r:Nat}{f:bA}{d:DC}
variable [bh] [cG]
def cB:d0->bA->bA
 |[],f=>f
 |(r,o)::l,f=>λk=>if k=r then some o else cB l f k
@[simp] def tg(r:Nat)(o:Ob)(l:d0)(f:bA)(k:Nat):cB ((r,o)::l) f k=if k=r then some o else cB l f k:=rfl
@[simp] def ae0(f:bA)(k:Nat):cB [] f k=f k:=rfl
@[simp] def adH(l:d0)(f:bA)(r:Nat)(o:Ob):bQ (cB l f) (some (r,o))=cB ((r,o)::l) f:=rfl
def ez(l:d0)(f:bA)(r:Nat)(o:Ob):bI (cB l f) r o=cB ((r,o)::l) f:=rfl
def gI:Ob->bY
 |.box cs=>ca cs
 |.aR _ _ _ _=>[]
 |.map _ _ _ es=>es.flatMap λe=>aS e.2.2
 |.c8 m _ _ _=>[m]
def mV(f:bA)(n:Nat):Prop:=∀r o,f r=some o->r<n/\∀m∈gI o,f m≠none
section
variable{base:Nat}{W M:dJ}{w0 w:World}{ab ay:bA}{L:Loc}
def zt(hO:bJ base W M w0 ab w L){N:Nat}(hN:∀r,N<=r->ab r=none):mV ab N:=by
 intro r o hr;refine⟨Si (λh=>by rw[hN r h]at hr;cases hr),λm hm=>?_⟩;have c9:=hO.ob r o hr;cases o with
 |box cs=>obtain⟨c,e,_,h,_⟩:=c9;exact d7.aS cs (d7.bd cs _ h) m hm
 |aR _ _ _ _=>cases hm
 |c8 m' _ _ _=>
  obtain⟨_,⟨_,_,_,_,h⟩,_⟩:=c9;simp only[gI,ic]at hm;subst hm;simp[h]
 |map bB agg c es=>
  obtain⟨aR,_,h,_⟩:=c9;simp only[gI,yf]at hm;obtain⟨e,he,hm⟩:=hm;obtain⟨i,hi⟩:=Kv he;obtain⟨x,_,_,_,hv⟩:=aY.get h hi;exact dC.aS _ (dC.bd _ _ hv) m hm
def sameAt(ab ay:bA)(m:Nat):Prop:=∃o o',ab m=some o/\ay m=some o'/\ga o o'
def CZ(vj:∀b,WW W ay L b->WW W ab L b):
  ∀n,(∀(d:DV) (x:Value),SizeOf.sizeOf d<n->(∀m∈aS d,sameAt ab ay m)->ap w W ab L d x->ap w W ay L d x)/\
   (∀(ds:bD) (xs:List Value),SizeOf.sizeOf ds<n->(∀m∈ca ds,sameAt ab ay m)->aH w W ab L ds xs->aH w W ay L ds xs)/\
   (∀(ds:bD) (xs:List Value),SizeOf.sizeOf ds<n->(∀m∈ca ds,sameAt ab ay m)->db w W ab L ds xs->db w W ay L ds xs):=by
 have qq:=(ch.refl (WW W ab L) w).toKeepsC;have qr:∀b,b<w.heap.size->WW W ay L b->WW W ab L b:=λb _ h=>vj b h;intro n;induction n with
 |zero=>exact⟨λ_ _ h=>by omega,λ_ _ h=>by omega,λ_ _ h=>by omega⟩
 |succ n ih=>
  refine⟨λd x hn hm hr=>?_,λds xs hn hm hr=>?_,λds xs hn hm hr=>?_⟩
  ·cases d with
   |undef=>simp[ap]
   |skip=>simpa only[ap]using hr
   |vU=>simpa only[ap]using hr
   |aF=>simpa only[ap]using hr
   |v t=>simp only[ap]at hr⊢;exact aO.aD qq qr t x hr
   |jr an i off=>
    simp only[ap]at hr⊢;obtain⟨b,o,sz,hx,hb,Ln,nT,h1,h2⟩:=hr;exact⟨b,o,sz,hx,hb,λk=>Ln (vj b k),aT.aD qq qr hb Ln sz o an nT,h1,h2⟩
   |gq cs off=>
    simp only[ap]at hr⊢;obtain⟨b,o,hx,hb,Ln,nT⟩:=hr;exact⟨b,o,hx,hb,λk=>Ln (vj b k),cS.aD qq qr hb Ln o cs nT⟩
   |ptr r off=>
    obtain⟨o,o',h1,h2,h3⟩:=hm r (by simp[aS]);simp only[ap]at hr⊢;obtain⟨⟨cs,hc⟩,hx⟩:=hr;rw[h1]at hc;cases hc;cases o' with
    |box sN=>exact⟨⟨sN,h2⟩,hx⟩
    |_=>exact h3.elim
   |dQ r=>
    obtain⟨o,o',h1,h2,h3⟩:=hm r (by simp[aS]);simp only[ap]at hr⊢;obtain⟨⟨_,_,_,_,hc⟩,hx⟩:=hr;rw[h1]at hc;cases hc;cases o' with
    |map a b c d=>exact⟨⟨a,b,c,d,h2⟩,hx⟩
    |_=>exact h3.elim
   |c8 r=>
    obtain⟨o,o',h1,h2,h3⟩:=hm r (by simp[aS]);simp only[ap]at hr⊢;obtain⟨⟨_,_,_,_,hc⟩,hx⟩:=hr;rw[h1]at hc;cases hc;cases o' with
    |c8 a b c d=>exact⟨⟨a,b,c,d,h2⟩,hx⟩
    |_=>exact h3.elim
   |aQ r aX=>
    obtain⟨o,o',h1,h2,h3⟩:=hm r (by simp[aS]);simp only[ap]at hr⊢;obtain⟨Cm,bi,e,sz,an,hc,iU,hx⟩:=hr;rw[h1]at hc;cases hc;cases o' with
    |aR v2 e2 s2 r2=>obtain⟨rfl,rfl,h5⟩:=h3;exact⟨Cm,_,_,_,_,h2,iU,hx⟩
    |_=>exact h3.elim
   |gU r aX i off=>
    obtain⟨o,o',h1,h2,h3⟩:=hm r (by simp[aS]);simp only[ap]at hr⊢;obtain⟨Cm,bi,e,sz,an,hc,iU,hx⟩:=hr;rw[h1]at hc;cases hc;cases o' with
    |aR v2 e2 s2 r2=>
     obtain⟨rfl,rfl,h5⟩:=h3;exact⟨Cm,_,_,_,_,h2,iU,λhv=>by obtain⟨g,k1,k2,k3,k4⟩:=hx hv;exact⟨g,k1,k2,k3,by rw[<-h5];exact k4⟩⟩
    |_=>exact h3.elim
   |Al r m=>
    obtain⟨o,o',h1,h2,h3⟩:=hm r (by simp[aS]);simp only[ap]at hr⊢;obtain⟨⟨cs,hc⟩,hx⟩:=hr;rw[h1]at hc;cases hc;cases o' with
    |box sN=>exact⟨⟨sN,h2⟩,hx⟩
    |_=>exact h3.elim
   |qi r aX lo m=>
    obtain⟨o,o',h1,h2,h3⟩:=hm r (by simp[aS]);simp only[ap]at hr⊢;obtain⟨Cm,bi,e,sz,an,hc,iU,hx⟩:=hr;rw[h1]at hc;cases hc;cases o' with
    |aR v2 e2 s2 r2=>
     obtain⟨rfl,rfl,h5⟩:=h3;exact⟨Cm,_,_,_,_,h2,iU,λhv=>by
      obtain⟨k0,p,cap,p2,k1,k2,k3⟩:=hx hv;exact⟨by rw[<-h5];exact k0,p,cap,p2,by rw[<-h5];exact k1,k2,k3⟩⟩
    |_=>exact h3.elim
   |agg ds=>
    simp only[ap]at hr⊢;obtain⟨vs,hv,hr⟩:=hr;exact⟨vs,hv,ih.2.1 ds _ (by simp at hn⊢;omega) (λm h=>hm m (by simpa only[aS]using h)) hr⟩
   |uS f ds=>
    simp only[ap]at hr⊢;obtain⟨vs,hv,hr⟩:=hr;exact⟨vs,hv,ih.2.1 ds _ (by simp at hn⊢;omega) (λm h=>hm m (by simpa only[aS]using h)) hr⟩
   |dh ds=>
    simp only[ap]at hr⊢;obtain⟨vs,hv,hr⟩:=hr;exact⟨vs,hv,ih.2.2 ds _ (by simp at hn⊢;omega) (λm h=>hm m (by simpa only[aS]using h)) hr⟩
  ·cases ds with
   |nil=>simpa only[aH]using hr
   |cons d ds=>
    simp only[aH]at hr⊢;obtain⟨y,ys,hv,h1,h2,h3⟩:=hr;exact⟨y,ys,hv,h1,ih.1 d y (by simp at hn⊢;omega) (λm h=>hm m (by simp[ca,h])) h2,ih.2.1 ds ys (by simp at hn⊢;omega) (λm h=>hm m (by simp[ca,h])) h3⟩
  ·cases ds with
   |nil=>simpa only[db]using hr
   |cons d ds=>
    simp only[db]at hr⊢;obtain⟨y,ys,hv,h2,h3⟩:=hr;exact⟨y,ys,hv,ih.1 d y (by simp at hn⊢;omega) (λm h=>hm m (by simp[ca,h])) h2,ih.2.2 ds ys (by simp at hn⊢;omega) (λm h=>hm m (by simp[ca,h])) h3⟩
def UP(vj:∀b,WW W ay L b->WW W ab L b){o:Ob}(hm:∀m∈gI o,sameAt ab ay m)(h:lp w W ab L base M r o):lp w W ay L base M r o:=by
 cases o with
 |box cs=>obtain⟨c,e,hc,hr,HN⟩:=h;exact⟨c,e,hc,(CZ vj (SizeOf.sizeOf cs+1)).2.1 cs _ (by omega) hm hr,HN⟩
 |aR aX e sz an=>
  obtain⟨g1,g2,g3,g4⟩:=h;refine⟨g1,g2,g3, ?_⟩;rcases g4 with g4|⟨g,cap,dg,hv,hp,hh,k1,k2,k3,k4⟩
  ·exact .inl g4
  ·exact .inr ⟨g,cap,dg,hv,hp,hh,k1,k2,k3,aN.aD (ch.refl (WW W ab L) w).toKeepsC (λb _ hb=>vj b hb) _ _ k4⟩
 |map bB agg c es=>
  obtain⟨aR,hc,hr,k1,k2,k3,HN⟩:=h;refine⟨aR,hc, ?_,k1,k2,k3,HN⟩;have key:∀(es:List (Nat×T×DV)) (xs:List MapEntry),(∀m∈es.flatMap (λe=>aS e.2.2),sameAt ab ay m)->aY w W ab L es xs->aY w W ay L es xs:=by
   intro es;induction es with
   |nil=>intro xs _ h;simpa only[aY]using h
   |cons e es ih=>
    intro xs hm h;simp only[aY]at h⊢;obtain⟨x,jU,hx,h1,h2,h3,h4⟩:=h;exact⟨x,jU,hx,h1,aO.aD (ch.refl (WW W ab L) w).toKeepsC (λb _ hb=>vj b hb) _ _ h2,
     (CZ vj (SizeOf.sizeOf e.2.2+1)).1 _ _ (by omega) (λm h=>hm m (by simp[h])) h3,ih jU (λm h=>hm m (by simp only[KO,dP];exact .inr h)) h4⟩
  exact key es _ hm hr
 |c8 m s sn l=>
  obtain⟨hc,⟨a1,a2,a3,a4,HK⟩,HN⟩:=h;obtain⟨o,o',h1,h2,h3⟩:=hm m (by simp[gI]);rw[HK]at h1;cases h1;cases o' with
  |map b1 b2 b3 b4=>exact⟨hc,⟨b1,b2,b3,b4,h2⟩,HN⟩
  |_=>exact h3.elim
end
def jA(ab ay:bA)(o o':Ob):Prop:=kn ab ay id o o'\/(o=o'/\∀m∈gI o,sameAt ab ay m)
def sd{ab ay:bA}{L:Loc}{o o':Ob}(h:jA ab ay o o')(r:Nat):L.own r o'=L.own r o:=by
 rcases h with h|⟨rfl,_⟩
 ·exact po (L:=L) h r
 ·rfl
def Le.ah4{st dD:nO}(AF:dD.low=st.low)(CO:dD.todo=st.todo)(wW:∀r,dD.az<=r->dD.ab r=none)
  (c9:∀r o',dD.ab r=some o'->∃o,st.ab r=some o/\jA st.ab dD.ab o o')
  (CP:∀r,r<st.low->∀o,st.ab r=some o->∃o',dD.ab r=some o'/\ga o o')
  (pP:∀k,iz st.ab dD.ab id (st.tmps k) (dD.tmps k)):Le st dD:=by
 intro κ nt a w L h;have nU:∀r' o',dD.ab r'=some o'->∃o,st.ab (id r')=some o/\∀r,(L.wT id).own r o'=L.own (id r) o:=λr' o' h=>let⟨o,h1,h2⟩:=c9 r' o' h;⟨o,h1,sd (L:=L) h2⟩
 refine⟨L,⟨?_, ?_,h.r.defers,h.r.bg,⟨_,wW⟩⟩,wW,by rw[AF];exact h.low,by rw[AF];exact h.it⟩
 ·obtain⟨W,base,M,w0,fF,h0⟩:=h.r.ex;have hO:=h0.o;have vj:∀b,WW W dD.ab L b->WW W st.ab L b:=λb hb=>jk (L:=L) (σ:=id) nU b hb;have cr:=λ(d d':DV) (x:Value)=>(vo hO nU (SizeOf.sizeOf d+1)).1 d d' x (by omega);have crs:=λ(ds md:bD) (xs:List Value)=>(vo hO nU (SizeOf.sizeOf ds+1)).2.1 ds md xs (by omega);refine⟨W,base,M,w0,by rw[CO];exact fF,h0.size,λt=>cr _ _ _ (pP t) (h0.tmps t),⟨hO.fr,λr' o' jM=>?_,λr1 r2 o1 o2 b cZ h1 h2 u3 i7=>?_,λr' o' b jM hb=>?_,hO.under,hO.gl.aD (ch.refl (WW W st.ab L) w).toKeepsC λb _ hb=>vj b hb⟩⟩
  ·obtain⟨o,ho,hc⟩:=c9 r' o' jM;have hk:=hO.ob r' o ho;rcases hc with hc|⟨rfl,hc⟩
   ·cases o with
    |box cs=>
     cases o' with
     |box sN=>
      obtain⟨c,e,aZ,hr,hm⟩:=hk;exact⟨c,e,aZ,crs cs sN _ hc hr,hm⟩
     |_=>exact hc.elim
    |map bB agg c es=>
     cases o' with
     |map g7 lu c' kg=>
      obtain⟨rfl,rfl,rfl,lc⟩:=hc;obtain⟨aR,aZ,hr,k1,k2,k3,hm⟩:=hk;have key:∀(es kg:List (Nat×T×DV)) (xs:List MapEntry),fj st.ab dD.ab id es kg->aY w W st.ab L es xs->aY w W dD.ab L kg xs/\kg.map (·.1)=es.map (·.1)/\kg.map (·.2.1)=es.map (·.2.1):=by
       intro es;induction es with
       |nil=>intro kg xs h1 h2;simp only[fj]at h1;subst h1;exact⟨by simpa only[aY]using h2,rfl,rfl⟩
       |cons e es ih=>
        intro kg xs h1 h2;cases kg with
        |nil=>simp[fj]at h1
        |cons e' kg=>
         simp only[fj]at h1;simp only[aY]at h2⊢;obtain⟨x,jU,rfl,q0,q1,q2,q3⟩:=h2;obtain⟨i1,i2,i3⟩:=ih kg jU h1.2.2.2 q3;refine⟨⟨x,jU,rfl,q0.trans h1.1, ?_,cr _ _ _ h1.2.2.1 q2,i1⟩,by simp[i2,h1.1],by simp[i3,h1.2.1]⟩;rw[<-h1.2.1];exact aO.aD (ch.refl (WW W st.ab L) w).toKeepsC (λb _ hb=>vj b hb) _ _ q1
      obtain⟨i1,i2,i3⟩:=key es kg _ lc hr;refine⟨aR,aZ,i1,λe he=>?_,λe he=>?_,by rw[i2];exact k3,hm⟩
      ·have:e.2.1∈es.map (·.2.1):=by rw[<-i3];exact kL.2 ⟨e,he,rfl⟩
       obtain⟨e0,ER,HP⟩:=kL.1 this;rw[<-HP];exact k1 e0 ER
      ·have:e.1∈es.map (·.1):=by rw[<-i2];exact kL.2 ⟨e,he,rfl⟩
       obtain⟨e0,ER,HP⟩:=kL.1 this;rw[<-HP];exact k2 e0 ER
     |_=>exact hc.elim
    |c8 m s sn l=>
     cases o' with
     |c8 m' s' sn' l'=>
      obtain⟨rfl,rfl,rfl,rfl,HK⟩:=hc;obtain⟨aZ,_,hm⟩:=hk;exact⟨aZ,wS HK,hm⟩
     |_=>exact hc.elim
    |aR aX e sz an=>
     cases o' with
     |box _=>exact hc.elim
     |map _ _ _ _=>exact hc.elim
     |c8 _ _ _ _=>exact hc.elim
     |aR bi e' fS di=>
      obtain⟨rfl,rfl,rfl⟩:=hc;obtain⟨g1,g2,g3,g4⟩:=hk;refine⟨g1,g2,g3, ?_⟩;rcases g4 with g4|⟨g,cap,dg,hv,hp,hh,k1,k2,k3,k4⟩
      ·exact .inl g4
      ·exact .inr ⟨g,cap,dg,hv,hp,hh,k1,k2,k3,aN.aD (ch.refl (WW W st.ab L) w).toKeepsC (λb _ hb=>vj b hb) _ _ k4⟩
   ·exact UP vj hc hk
  ·obtain⟨p1,q1,c1⟩:=c9 r1 o1 h1;obtain⟨p2,q2,c2⟩:=c9 r2 o2 h2;rw[sd c1]at u3;rw[sd c2]at i7;exact hO.apart r1 r2 p1 p2 b cZ q1 q2 u3 i7
  ·obtain⟨p1,q1,c1⟩:=c9 r' o' jM;rw[sd c1]at hb;exact hO.oh r' p1 b q1 hb
 ·have ha:fX κ.W κ.go κ.gL (κ.B0 st.todo) st.ab L w:=h.r.er;show fX κ.W κ.go κ.gL (κ.B0 dD.todo) dD.ab _ w;rw[CO];refine⟨ha.bV,λb hb hw=>ha.sub b hb (jk (L:=L) (σ:=id) nU b hw),λr o hr hk=>?_,λr aX e sz an hr=>?_,ha.yl⟩
  ·have dR:r<st.low:=Si λiU=>by rw[h.low r iU]at hr;cases hr
   obtain⟨e1,o1,mU,ma⟩:=ha.fix r o hr hk;obtain⟨o',jM,hv⟩:=CP r dR _ mU;exact⟨e1,o',jM,(rR hv).trans ma⟩
  ·have dR:r<st.low:=Si λiU=>by rw[h.low r iU]at hr;cases hr
   obtain⟨v1,e1,s1,r1,mU,l1,k1⟩:=ha.aR r aX e sz an hr;obtain⟨o',jM,hv⟩:=CP r dR _ mU;cases o' with
   |box sN=>exact hv.elim
   |map _ _ _ _=>exact hv.elim
   |c8 _ _ _ _=>exact hv.elim
   |aR v2 e2 s2 r2=>
    obtain⟨rfl,rfl,h3⟩:=hv;exact⟨v1,e2,s1,r2,jM,l1,λhv=>by
     obtain⟨a1,a2,a3⟩:=k1 hv;exact⟨a1,a2,by rw[<-h3];exact a3⟩⟩
def cY(o:Ob):ga o o:=by cases o<;>simp[ga]
def kb(low:Nat)(a b:bA):d0->Prop
 |[]=>True
 |(r,o)::l=>(∃o0,a r=some o0/\jA a b o0 o/\(r<low->ga o0 o))/\kb low a b l
def cx(low:Nat)(l1:d0):d0->Prop
 |[]=>True
 |(r,_)::l=>(r<low->∃o,(r,o)∈l1)/\cx low l1 l
def oU:∀{l:d0} {f:bA} {r:Nat} {o:Ob},cB l f r=some o->(r,o)∈l\/((∀o',(r,o')∉l)/\f r=some o)
 |[],_,_,_,h=>.inr ⟨λ_ h=>(by cases h),h⟩
 |(j,x)::l,f,r,o,h=>by
  simp only[tg]at h;split at h
  ·rename_i e;cases h;subst e;exact .inl (KY ..)
  ·rename_i cZ;rcases oU h with h|⟨h1,h2⟩
   ·exact .inl (Cq _ h)
   ·refine .inr ⟨λo' jM=>?_,h2⟩;rcases pH.1 jM with e|jM
    ·cases e;exact cZ rfl
    ·exact h1 o' jM
def oV{l:d0}(h:∀o',(r,o')∉l):cB l f r=f r:=by
 induction l with
 |nil=>rfl
 |cons p l ih=>
  obtain⟨j,x⟩:=p;rw[tg,mL (λe=>h x (by rw[e];exact KY ..))];exact ih λo' jM=>h o' (Cq _ jM)
def Id{l:d0}{o:Ob}(h:(r,o)∈l):∃o',cB l f r=some o'/\(r,o')∈l:=by
 induction l with
 |nil=>cases h
 |cons p l ih=>
  obtain⟨j,x⟩:=p;by_cases e:r=j
  ·subst e;exact⟨x,by simp,KY ..⟩
  ·rcases pH.1 h with h|h
   ·cases h;exact yV rfl e
   ·obtain⟨o',h1,h2⟩:=ih h;exact⟨o',by rw[tg,mL e];exact h1,Cq _ h2⟩
def qB{low:Nat}{a b:bA}:∀{l:d0},kb low a b l->∀r o,(r,o)∈l->∃o0,a r=some o0/\jA a b o0 o/\(r<low->ga o0 o)
 |[],_,_,_,h=>by cases h
 |(j,x)::l,hk,r,o,h=>by
  rcases pH.1 h with e|h
  ·cases e;exact hk.1
  ·exact qB hk.2 r o h
def nv{low:Nat}{l1:d0}:∀{l:d0},cx low l1 l->∀r o,(r,o)∈l->r<low->∃o,(r,o)∈l1
 |[],_,_,_,h=>by cases h
 |(j,x)::l,hk,r,o,h=>by
  rcases pH.1 h with e|h
  ·cases e;exact hk.1
  ·exact nv hk.2 r o h
def Le.gk{tm:cQ}{l0 l1:d0}{l:iE}{az bC:Nat}{td:List (ar)}{low:Nat}(hf:mV f low)(hn:low<=bC)(hb:iN bC l1)
  (h0:cx low l1 l0) (h1:kb low (cB l0 f) (cB l1 f) l1) (pP:kM (cB l0 f) (cB l1 f) id tm l):
  Le ⟨tm,cB l0 f,az,low,td⟩ ⟨look l,cB l1 f,bC,low,td⟩:=by
 have C0:∀r,r<low->∀o,cB l0 f r=some o->∃o',cB l1 f r=some o'/\ga o o':=by
  intro r hr o ho;by_cases Ac:∃o',(r,o')∈l1
  ·obtain⟨o1,ON⟩:=Ac;obtain⟨o2,h2,h3⟩:=Id (f:=f) ON;obtain⟨o0,k1,_,k3⟩:=qB h1 r o2 h3;rw[ho]at k1;cases k1;exact⟨o2,h2,k3 hr⟩
  ·have abO:∀o',(r,o')∉l1:=λo' h=>Ac ⟨o',h⟩;rcases oU ho with h|⟨_,h⟩
   ·exact yV (nv h0 r o h hr) Ac
   ·exact⟨o,by rw[oV abO];exact h,cY o⟩
 refine Le.ah4 rfl rfl (λr hr=>?_) (λr o' jM=>?_) (λr hr o ho=>C0 r hr o ho) (λk=>rW l pP k)
 ·cases ho:cB l1 f r with
  |none=>exact ho
  |some o=>
   rcases oU ho with h|⟨_,h⟩
   ·have:=jO hb r o h;simp only at hr;omega
   ·have:=(hf r o h).1;simp only at hr;omega
 ·rcases oU jM with h|⟨abO,h⟩
  ·obtain⟨o0,k1,k2,_⟩:=qB h1 r o' h;exact⟨o0,k1,k2⟩
  ·obtain⟨dR,Q3⟩:=hf r o' h;have FD:cB l0 f r=some o':=by
    by_cases Ac:∃o1,(r,o1)∈l0
    ·obtain⟨o1,ON⟩:=Ac;obtain⟨o2,h2⟩:=nv h0 r o1 ON dR;exact yV h2 (abO o2)
    ·rw[oV λo1 h1=>Ac ⟨o1,h1⟩];exact h
   refine⟨o',FD,.inr ⟨rfl,λm hm=>?_⟩⟩;have Ku:=Q3 m hm;have ah5:m<low:=by
    cases SL:f m with
    |none=>exact yV SL Ku
    |some x=>exact(hf m x SL).1
   have MK:∃o,cB l0 f m=some o:=by
    by_cases Ac:∃o1,(m,o1)∈l0
    ·obtain⟨o1,ON⟩:=Ac;obtain⟨o2,h2,_⟩:=Id (f:=f) ON;exact⟨o2,h2⟩
    ·rw[oV λo1 h1=>Ac ⟨o1,h1⟩];exact JR.1 Ku
   obtain⟨o,ho⟩:=MK;obtain⟨o2,h2,h3⟩:=C0 m ah5 o ho;exact⟨o,o2,ho,h2,h3⟩
section
variable{P:Program}
def av.KQ{f:FuncId}{nt:Nat}{rs:List cV}(h:av P f nt d rs){args:bD}{ab:bA}{r:fp}{N:Nat}(hN:∀r,N<=r->ab r=none)(dI:args.length<=nt)
  (k:mV ab N->aa P nt d (UD rs r) ⟨look (args.zipIdx.map λp=>(p.2,p.1)),cB [] ab,N,N,[]⟩):b9 P f args ab r:=
 ⟨h.entry,λbase W M w0 w L anM hO FM=>(av.TN h hN dI (fk (k (zt hO hN)))).run base W M w0 w L anM hO FM⟩
def A1{fn:Func}{t:Nat}{tmps:Array Value}{w:World}(hr:fn.results.toList.mapM (kj P)=some [.iZ t]):(results fn tmps).run P w=.ok (tmps.getD t Go.undef) w:=by
 have h1:∃rv,fn.results.toList=[rv]/\kj P rv=some (.iZ t):=by
  cases h:fn.results.toList with
  |nil=>rw[h]at hr;simp at hr
  |cons rv l=>
   rw[h]at hr;simp only[LQ,I7,gV,fO,bN,BE]at hr;obtain⟨x,hx,ys,mB,rfl,rfl⟩:=hr;cases l with
   |nil=>exact⟨rv,rfl,hx⟩
   |cons y l=>simp[fO]at mB
 obtain⟨rv,h1,h2⟩:=h1;have h3:fn.results= #[rv]:=by rw[<-Array.toArray_toList (xs:=fn.results),h1]
 cases rv with
 |tmp t'=>
  simp only[kj,bN,cV.iZ.injEq]at h2;subst h2;have nT:(results fn tmps)=(do
   let vs<-fn.results.mapM (λrv=>((match rv with|.tmp t=>pure (tmps.getD t Go.undef)|.cell b t=>do loadVar t (<-asAddr (tmps.getD b Go.undef))):Sem Value))
   pure (if h:vs.size=1 then vs[0]else .tuple vs)):=rfl
  have hm:(fn.results.mapM (λrv=>((match rv with|.tmp t=>pure (tmps.getD t Go.undef)|.cell b t=>do loadVar t (<-asAddr (tmps.getD b Go.undef))):Sem Value))).run P w=.ok #[tmps.getD t' Go.undef] w:=by
   rw[Sb,h1];simp
  rw[nT];simp only[Sem.run_bind,hm,Result.andThen_ok,Sem.run_pure];rfl
 |cell b t'=>
  simp only[kj]at h2;split at h2<;>simp at h2
def ah6(t e sz:Nat)(an:List (ar)):Exit->nO->Prop
 |.normal,st|.ret,st=>(st.tmps t=.aF/\an=[]/\0<sz)\/∃r aX,st.tmps t=.aQ r aX/\st.ab r=some (.aR aX e sz an)
 |_,_=>False
def av.B2{f:FuncId}{nt:Nat}{t:Nat}(h:av P f nt d [.iZ t]){ts:ar}{e sz:Nat}{an:List (ar)}(dI:ts.length<=nt)(k:aa P nt d (ah6 t e sz an) (mh ts)):mf P f ts e sz an:=by
 have wK:=h.entry;obtain⟨fn,sK,rfl,h3,hr,_⟩:=h;obtain⟨c,hb,hc⟩:=fE.1 h3;refine⟨wK,λW w anM hW hg eZ=>?_⟩;have hl:=dq.length eZ;simp only[HM]at hl;have rL:F1 ⟨W,λ_=>none,⟨λ_=>0,λ_=>Go.undef,0⟩,w,w.heap.size,λ_=>False,w,none,none,none⟩ fn.ntmps (mh ts) {tmps:=anM++Array.replicate (fn.ntmps-anM.size) Go.undef,defers:=[]} w ⟨λ_=>0,λ_=>Go.undef,0⟩:=by
  refine⟨⟨⟨W,w.heap.size,λ_=>False,w,⟨λ_=>rfl,rfl,rfl,rfl,rfl⟩,by simp;omega,λk=>?_,⟨Fr.refl (iV _),(λr o h=>by cases h),(λr r' o o' b _ h=>by cases h),(λr o b h=>by cases h),hW,hg.start⟩⟩,
   fX.bZ (ch.refl _ _),⟨[],rfl,QY,(λ_ h=>by cases h),λ_=>rfl⟩,λ_=>iV _,⟨0,λ_ _=>rfl⟩⟩,λ_ _=>rfl,λ_ _=>rfl,λh=>by cases h⟩
  simp only[mh];cases hk:ts[k]? with
  |some x=>
   obtain⟨v,hv,nG⟩:=dq.get eZ hk;simp only[mG hv,JU,ap];refine aO.aD (ch.refl W w).toKeepsC ?_ x v nG;rintro b hb (h|⟨r,o,h,_⟩)
   ·exact h
   ·cases h
  |none=>
   have yx:anM.size<=k:=by
    have:=EO.1 hk;omega
   simp only[JU,ap,mH yx]
 refine callsIn_wide.1 (callsIn_of_wp_marks (n:=0) sK hb trivial ?_);refine wpIn_mono (k.run c hc 0 _ _ _ _ ⟨λJ hJ=>(by cases hJ),λl r s hY=>(by cases hY),λl hl=>(by cases hl)⟩ rL) ?_;rintro e' a' w' ⟨dD,L',q,r'⟩;have done:((dD.tmps t=.aF/\an=[]/\0<sz)\/∃r aX,dD.tmps t=.aQ r aX/\dD.ab r=some (.aR aX e sz an))->LeavesInM Fence.wide 0 P fn a'.tmps (λe' w'=>∃v,e'=.returned v/\qZ w.heap.size w w'/\wp w.heap.size w' W e sz an v) a'.defers .returning w':=by
  intro hq;obtain⟨Ds,h1,h2,h3,_⟩:=r'.r.defers;rw[h1];refine leaves (κ:=⟨W,λ_=>none,⟨λ_=>0,λ_=>Go.undef,0⟩,w,w.heap.size,λ_=>False,w,none,none,none⟩) rfl ?_ Ds a' w' L' r'.r h1 h2 h3;intro a2 w2 L2 h4;obtain⟨W',H1,M',QR,fF,h0⟩:=h4.ex;obtain⟨_,e1,e2,e3,e4⟩:=fF
  replace h0:R0 w.heap.size W (λ_=>False) w fn.ntmps dD.tmps dD.ab a2 w2 L2:=by rw[e1,e2,e3,e4]at h0;exact h0
  have fr:=h0.o.fr;refine⟨_,A1 hr,_,rfl,⟨⟨fr.os,fr.tape,fr.output,fr.size,λk hk=>fr.block k hk (λx=>x)⟩,fr.drawn⟩, ?_⟩;have ht:=h0.tmps t;rcases hq with⟨hq,rfl,fG⟩|⟨r,aX,hq,ho⟩
  ·rw[hq]at ht;simp only[ap]at ht;exact⟨fG,λ_ h=>(by cases h),.inl ⟨rfl,ht⟩⟩
  ·rw[hq]at ht;simp only[ap]at ht;obtain⟨_,bi,e',fS,di,jM,_,hx⟩:=ht;rw[ho]at jM;cases jM;have hx:=hx rfl;obtain⟨g1,g2,g3,g4⟩:=h0.o.ob r _ ho;refine⟨g1,g2, ?_⟩;rcases g4 with⟨h5,a,h6⟩|⟨g,cap,dg,hv,hp,hh,k1,k2,k3,k4⟩
   ·exact .inl ⟨h5,a,hx.trans h6⟩
   ·have sS:aP (L2.sl r)=some g:=by rw[hv];simp[aP,Fz.1 hp]
    refine .inr ⟨g,cap,dg,hx.trans hv,hp,(g3 g sS).resolve_right (λx=>x),hh,k1,k2,k3,aN.aD (ch.refl (WW W dD.ab L2) w2).toKeepsC (λb _ hb=>?_) _ _ k4⟩;rcases hb with hb|rfl
    ·exact .inl hb
    ·exact .inr ⟨r,_,ho,sS⟩
 cases e' with
 |normal=>exact done q
 |ret=>exact done q
 |_=>exact q.elim
section
variable{κ:kS}{nt:Nat}{Γ:gP}{az:Nat}{ro:Option Nat}{n:Nat}
def Ie(am:au P Γ)(uY:κ.uX P){ops:Array Oper}{Q:Exit->Act->World->Prop}{l2:bY}:∀(l:bY) (rs:ah),(∀(k:Nat) (i:Nat),l[k]? =some i->∃o r,ops[i]? =some o/\rs[k]? =some r/\dp P ops o=some (bare r))->rs.length=l.length->rs.all (ky nt)=true->dV rs=true->
  ∀(st:RS) (a:Act) (w:World) (L:Loc),dL κ nt st a w L->io az rs st->gD Γ az rs st->(∀a' w' L',dL κ nt (cO Γ az rs st) a' w' L'->wpOpsIn (gR ro) n P ops Q l2 a' w')->wpOpsIn (gR ro) n P ops Q (l++l2) a w
 |[],rs,_,hl,_,_,st,a,w,L,h,_,_,hQ=>by
  have:rs=[]:=kx (by simpa using hl);subst this;exact hQ a w L h
 |i::l,[],_,hl,_,_,_,_,_,_,_,_,_,_=>by simp at hl
 |i::l,r::rs,hk,hl,cJ,cZ,st,a,w,L,h,hf,aB,hQ=>by
  obtain⟨o,r',ho,jV,hc⟩:=hk 0 i rfl;simp only[pd,bN]at jV;subst jV;simp only[Yx,iS]at cJ;simp only[gD]at aB;have Of:ek r=true:=by have:=cJ.1;simp only[ky,iS]at this;exact this.1.2
  show wpOpsIn (gR ro) n P ops Q (i::(l++l2)) a w;rw[wpOpsIn_cons];refine oJ am uY ho hc cJ.1 h (hf.2 r (by simp)) aB.1 λa' w' L' h'=>?_;refine Ie am uY l rs (λk j hj=>hk (k+1) j (by simpa using hj)) (by simpa using hl) cJ.2 (by simp only[dV,iS]at cZ;exact cZ.2) _ a' w' L' h' ?_ aB.2 hQ;exact pi am Of aB.1 (nf cZ) ⟨hf.1,λy hy=>hf.2 y (by simp[hy])⟩
def C1(am:au P Γ){t:Nat}:∀(rs:ah) (st:RS),gD Γ az rs st->st.ab t=none->(∀r∈rs,lays r.d=true->t≠nm az r)->(cO Γ az rs st).ab t=none
 |[],st,_,h,_=>h
 |r::rs,st,aB,h,hn=>by
  simp only[gD]at aB;exact C1 am rs _ aB.2 (sY am aB.1 h (hn r (by simp))) λr hr=>hn r (by simp[hr])
end
section
variable{nt:Nat}{Γ:gP}{Q:Exit->nO->Prop}{tm:cQ}{ob:bA}{az low:Nat}{td:List (ar)}
def A2{a b:ah}(h:dV (a++b)=true):dV a=true/\dV b=true/\∀x∈a,∀y∈b,lG x y=true:=by
 induction a with
 |nil=>exact⟨rfl,h,λ_ h=>by cases h⟩
 |cons r a ih=>
  simp only[CE,dV,iS,List.all_append]at h⊢;obtain⟨i1,i2,i3⟩:=ih h.2;refine⟨⟨h.1.1,i1⟩,i2,λx hx y hy=>?_⟩;rcases pH.1 hx with rfl|hx
  ·exact yJ.1 h.1.2 y hy
  ·exact i3 x hx y hy
end
end
end
section
variable{f:Nat->Nat}
variable [bh] [cG]
def mI(f:Nat->Nat)(r:RO):RO:=⟨r.d,r.dst,r.guard,r.after,r.gQ.map (·.map f)⟩
def ir(f:Nat->Nat)(rs:ah):ah:=rs.map (mI f)
def OV(hf:∀a b,f a=f b->a=b)(x y:Option (bY)):uZ (x.map (·.map f)) (y.map (·.map f))=uZ x y:=by
 cases x<;>cases y<;>simp only[Option.map_none,V1,uZ]
 rename_i a b;rw[VV];simp only[List.all_map,yJ,Function.comp_apply,Zdm,ne_eq];exact⟨λh x hx y hy e=>h x hx y hy (by rw[e]),λh x hx y hy e=>h x hx y hy (hf _ _ e)⟩
def LH(hf:∀a b,f a=f b->a=b)(x y:RO):ii (mI f x) (mI f y)=ii x y:=by
 unfold ii;rw[show(mI f x).gQ=x.gQ.map (·.map f)from rfl,show(mI f y).gQ=y.gQ.map (·.map f)from rfl,OV hf];rfl
def LI(f:Nat->Nat)(rs:ah):jY (ir f rs)=jY rs:=by
 unfold jY ir;rw[List.foldl_map];try rfl
def xl(f:Nat->Nat):∀rs:ah,dV (ir f rs)=dV rs
 |[]=>rfl
 |r::rs=>by
  simp only[ir,l8,dV,List.all_map];have:=xl f rs;simp only[ir]at this;rw[this];rfl
def A3(hf:∀a b,f a=f b->a=b)(nt:Nat)(fJ:Bool)(rs:ah):dd nt fJ (ir f rs)=dd nt fJ rs:=by
 unfold dd;rw[xl,LI];have h1:(ir f rs).all (ky nt)=rs.all (ky nt):=by simp only[ir,List.all_map];rfl
 have h2:pg (ir f rs) (jY rs)=pg rs (jY rs):=by
  unfold pg;simp only[ir,GP,vA]
  congr 1
  funext i;cases rs[i]? with
  |none=>rfl
  |some y=>
   cases(jY rs)[i]? with
   |none=>rfl
   |some m=>
    simp only[V1]
    congr 1
    congr 1
    funext x;cases rs[x]? with
    |none=>rfl
    |some r=>simp only[V1,LH hf]
 rw[h1,h2]
def C2(b N:Nat)(n:Nat):Nat:=if n=0 then b else N+n
def LJ{b N:Nat}(h:b<N)(x y:Nat)(e:C2 b N x=C2 b N y):x=y:=by
 unfold C2 at e;split at e<;>split at e<;>omega
def gn(l:d0)(r:Nat)(o:Ob):bI (cC l) r o=cC ((r,o)::l):=rfl
end
section
variable{d:DC}{rs:ah}
variable [bh] [cG]
section
variable{P:Program}{nt:Nat}{Γ:gP}{Q:Exit->nO->Prop}{st:nO}{tm:cQ}{ob:bA}{az low:Nat}{td:List (ar)}
def aa.UQ(am:au P Γ)(hm:P.follows .mixedOrders=true)(hd:d=.region false (rs.map bare))(aB:dd nt false rs=true)
  (bq:gD Γ st.az rs ⟨st.tmps,st.ab,st.todo⟩) (hQ:Q .normal ⟨(cO Γ st.az rs ⟨st.tmps,st.ab,st.todo⟩).tmps,(cO Γ st.az rs ⟨st.tmps,st.ab,st.todo⟩).ab,st.az+nt+1,st.low,(cO Γ st.az rs ⟨st.tmps,st.ab,st.todo⟩).todo⟩):
  aa P nt d Q st:=by
 refine⟨λc hc=>?_⟩;subst hd;obtain⟨id,ops,rfl,jy,abj⟩:=ng hc;exact ni am hm jy aB bq hQ
def aa.ah7(am:au P Γ)(hm:P.follows .mixedOrders=true)(hd:d=.region false (rs.map bare))(aB:dd nt false rs=true)(ks:bY)
  (h:dy Γ az rs ⟨tm,ob,td⟩ λs=>Q .normal ⟨look (kZ ks s.tmps),s.ab,az+nt+1,low,s.todo⟩):aa P nt d Q ⟨tm,ob,az,low,td⟩:=by
 have:=gE _ _ _ h;refine aa.nh (Q:=λe s=>e=.normal/\s=⟨(cO Γ az rs ⟨tm,ob,td⟩).tmps,(cO Γ az rs ⟨tm,ob,td⟩).ab,az+nt+1,low,(cO Γ az rs ⟨tm,ob,td⟩).todo⟩) (aa.UQ am hm hd aB (st:=⟨tm,ob,az,low,td⟩) this.1 ⟨rfl,rfl⟩) ?_;rintro e s ⟨rfl,rfl⟩;exact⟨_,Le.pX (la _ ks),this.2⟩
def aa.vd(am:au P Γ)(hm:P.follows .mixedOrders=true){b:DC}(hd:d=.region false (rs.map bare))(aB:dd nt false rs=true)(ks:bY)
  (h:dy Γ az rs ⟨tm,ob,td⟩ λs=>aa P nt b Q ⟨look (kZ ks s.tmps),s.ab,az+nt+1,low,s.todo⟩):aa P nt (.seq d b) Q ⟨tm,ob,az,low,td⟩:=
 aa.seq (aa.ah7 am hm hd aB ks h)
end
end
end Go.DM
namespace Go.DM
open Go.RowKit
variable [bh] [cG]
section
variable{Γ:gP}{az:Nat}{K:RS->Prop}{rs:ah}{tm:cQ}{ob:bA}{td:List (ar)}{dst:Option Nat}{d:mQ}{s:Nat}{af l:bY}
@[simp] def ae1(b:Bool)(h:tm s=.v (.bool b)):dy Γ az (⟨d,dst,some (s,b),af,some l⟩::rs) ⟨tm,ob,td⟩ K=(cL ⟨d,dst,none,af,some l⟩ tm/\(mR d=true->H2 l ob (ku Γ d tm ob td).ab)/\jv Γ az d rs tm ob td K dst tm):=by
 simp only[dy,h,forall_const,gM h,wM];cases b<;>simp[rN,cL]
def C3(b c:Bool)(h:tm s=.v (.bool b))(hc:b= !c):dy Γ az (⟨d,dst,some (s,c),af,some l⟩::rs) ⟨tm,ob,td⟩ K=dy Γ az rs ⟨bW tm dst .skip,ob,td⟩ K:=by
 subst hc;cases c
 ·have h:tm s=.v (.bool true):=h;simp[dy,h,gM h]
 ·have h:tm s=.v (.bool false):=h;simp[dy,h,gM h]
@[simp] def adI(h:tm s=.v (.bool true)):dy Γ az (⟨d,dst,some (s,false),af,some l⟩::rs) ⟨tm,ob,td⟩ K=dy Γ az rs ⟨bW tm dst .skip,ob,td⟩ K:=C3 true false h rfl
@[simp] def adJ(h:tm s=.v (.bool false)):dy Γ az (⟨d,dst,some (s,true),af,some l⟩::rs) ⟨tm,ob,td⟩ K=dy Γ az rs ⟨bW tm dst .skip,ob,td⟩ K:=C3 false true h rfl
@[simp] def adK{iY:Bool}(h:tm s=.skip):dy Γ az (⟨d,dst,some (s,iY),af,some l⟩::rs) ⟨tm,ob,td⟩ K=dy Γ az rs ⟨bW tm dst .skip,ob,td⟩ K:=by
 simp only[dy,h]
end
section
variable{P:Program}
structure Gm(P:Program)(f:FuncId)(args:bD)(ab:bA)(N N':Nat)(se:DV->bA->Prop):Prop where
 entry:wo P f
 le:N<=N'
 none:∀val ay,se val ay->(∀r,r<N->ab r=none->ay r=none)/\∀r,N'<=r->ay r=none
 run:∀(base:Nat) (W M:dJ) (w0 w:World) (L:Loc) (anM:Array Value),bJ base W M w0 ab w L->iK w W ab L args anM.toList->
  Calls P f anM w λe w'=>∃v L' val ay,e=.returned v/\se val ay/\bJ base W M w0 ay w' L'/\fX W ab L w ay L' w'/\ap w' W ay L' val v
section
variable{nt:Nat}{Γ:gP}{Q:Exit->nO->Prop}{tm:cQ}{ob:bA}{az low:Nat}{td:List (ar)}
def aa.ah8(am:au P Γ){rs pre post:ah}{f:FuncId}{args:List be}{dst:Option Nat}{af:bY}(ks:bY){N':Nat}(jy:rs=pre++⟨.call f args,dst,none,af,none⟩::post)
  (h:dy Γ az pre ⟨tm,ob,td⟩ λs=>∃se,((∀r,az+nt+1<=r->s.ab r=none)->Gm P f (args.map (·.ev s.tmps)) s.ab (az+nt+1) N' se)/\
   ∀val JV,se val JV->dy Γ az post ⟨bW s.tmps dst val,JV,s.todo⟩ λs'=>Q .normal ⟨look (kZ ks s'.tmps),s'.ab,N',low,s'.todo⟩):
  aa P nt (.region false rs) Q ⟨tm,ob,az,low,td⟩:=by
 refine⟨λc hc=>?_⟩;obtain⟨id,ops,rfl,pR,aB⟩:=ng hc;have ah9:eo P ops=some (rs.map bare):=by rw[nK pR];exact pR
 have hg:=kX ah9;simp only[dd,iS]at aB;obtain⟨⟨cJ,cZ⟩,_⟩:=aB;subst jy;rw[List.all_append,Yx]at cJ;simp only[iS]at cJ;obtain⟨If,kh,OW⟩:=cJ;obtain⟨abr,ae2,ae3⟩:=A2 cZ;have MK:=gE _ _ _ h;obtain⟨OX,se,cD,WE⟩:=MK;intro n κ TM w L g r;refine wpIn_region ?_;have fG:ops.size=pre.length+(post.length+1):=by have:=hg.1;simp at this;omega
 have dj:∀x:RO,∃k,nm az x=az+k:=λx=>by
  unfold nm bm;cases x.dst with
  |none=>exact⟨0,rfl⟩
  |some d=>exact⟨d+1,by simp only[ym]⟩
 have xm:∀t,az<=t->ob t=none:=λt ht=>r.fresh t ht;have Vb:io az pre ⟨tm,ob,td⟩:=⟨xm az (iV _),λx _=>by obtain⟨k,hk⟩:=dj x;rw[hk];exact xm _ (by omega)⟩;have abP:List.range ops.size=List.range pre.length++(pre.length::List.range' (pre.length+1) post.length):=by
  rw[fG,oL (i:=pre.length) (by omega)]
  congr 2
  congr 1
  omega
 rw[abP];refine Ie am g (List.range pre.length) pre (λk i hi=>?_) (by simp) If abr ⟨tm,ob,td⟩ TM w L r.r Vb OX ?_
 ·obtain⟨hk,Fb⟩:=E9.1 hi;simp only[Cp]at hk;simp only[TW]at Fb;subst Fb;obtain⟨r,h1,h2⟩:=hg.2 k ops[k] (by simp[show k<ops.size by omega]);rw[V8 hk]at h1;exact⟨ops[k],r,by simp[show k<ops.size by omega],h1,h2⟩
 intro a1 w1 L1 R1;obtain⟨s1,E5⟩:=ba (cO Γ az pre ⟨tm,ob,td⟩);have ae4:∀t,ob t=none->(∀r∈pre,lays r.d=true->t≠nm az r)->s1.ab t=none:=λt ht hn=>by rw[<-E5];exact C1 am pre _ OX ht hn
 rw[E5]at R1 cD WE;obtain⟨r',h1,hco⟩:=hg.2 pre.length ops[pre.length] (by simp[show pre.length<ops.size by omega]);rw[MH (iV _)]at h1;simp only[Nat.sub_self,pd,bN]at h1;subst h1;obtain⟨hd,Q4,iW,_⟩:=im hco;rw[wpOpsIn_cons,wpOpIn];simp only[show ops[pre.length]? =some ops[pre.length]by simp[show pre.length<ops.size by omega]];rw[y9 (b:=true) Q4 R1 rfl];simp only[yh];refine⟨kT _ w1 _, ?_⟩;have Hf:cy P ops[pre.length]=some (.call f args):=hd;have wu:∀c,ops[pre.length].op≠ .defer c:=nJ Hf;rw[show(gR κ.ro).round=κ.ro from rfl,Oper.semAt_eq κ.ro _ _ wu];obtain⟨c,ho,aZ⟩:=d6 Hf (.inl ⟨f,args,rfl⟩);obtain⟨fn,gW,sK,abp,K6,mB⟩:=jX aZ;have bq:=iL (P:=P) (w:=w1) (a:=a1) (g:=f) (bP:= #[]) ho (λx hx=>by rw[gW]at hx;cases hx;rfl) ⟨_,gW⟩ ⟨fn,sK,abp,K6⟩;rw[BG]at bq;rw[bq,Oper.uponIn_enter];refine⟨λhx=>(by cases hx),dK ?_⟩;obtain⟨W,base,M,w0,fF,h0⟩:=R1.ex;have hN1:∀r,az+nt+1<=r->s1.ab r=none:=λt ht=>by rw[<-E5];exact rJ am pre If _ OX t ht (xm t (by omega))
 have cD:=cD hN1;refine(cD.run base W M w0 w1 L1 (c.args.map a1.eval) h0.o (by simpa using eR h0.o.gl h0.tmps mB)).mono ?_;rintro e w2 ⟨v,L2,val,TR,rfl,hP,UF,F7,nG⟩;have TS:∀d,dst=some d->d<nt:=by
  intro d hd;have:=kh;subst hd;simp only[ky,iS,o5]at this;exact this.2
 have R2:=dL.put R1 fF h0 dst TS UF F7 nG ⟨N',(cD.none val TR hP).2⟩;show wpOpsIn (gR κ.ro) n P ops _ (List.range' (pre.length+1) post.length) (a1.put ops[pre.length].dst v) w2;have ae5:dst=ops[pre.length].dst:=iW;rw[<-ae5];have aia:=gE _ _ _ (WE val TR hP);obtain⟨HZ,hQ2⟩:=aia;have UR:∀r∈pre,lays r.d=true->∀y∈post,nm az y≠nm az r:=by
  intro r hr hl y hy e;have hn:=ae3 r hr y (by simp[hy]);have Q5:=yJ.1 If r hr;simp only[ky,iS]at Q5;have za:r.dst.isSome=true:=by simpa [ek,hl]using Q5.1.2
  obtain⟨d,hd⟩:=TJ.1 za;cases Q6:y.dst with
  |none=>simp[nm,bm,hd,Q6]at e;omega
  |some d'=>
   simp only[lG,hd,Q6,Zdm,ne_eq]at hn;simp only[nm,bm,hd,Q6]at e;omega
 have AF:∀y∈post,nm az y<az+nt+1:=by
  intro y hy;have Wh:=yJ.1 OW y hy;simp only[ky,iS]at Wh;unfold nm bm;cases Q6:y.dst with
  |none=>simp only;omega
  |some d=>
   have:=Wh.2;rw[Q6]at this;simp only[o5]at this;simp only;omega
 have Vc:io az post ⟨bW s1.tmps dst val,TR,s1.todo⟩:=by
  refine⟨(cD.none val TR hP).1 _ (by omega) (ae4 az (xm _ (iV _)) λr hr hl e=>?_),λy hy=>(cD.none val TR hP).1 _ (AF y hy) (ae4 _ ?_ λr hr hl=>UR r hr hl y hy)⟩
  ·have Q5:=yJ.1 If r hr;simp only[ky,iS]at Q5;have za:r.dst.isSome=true:=by simpa [ek,hl]using Q5.1.2
   obtain⟨d,hd⟩:=TJ.1 za;simp[nm,bm,hd]at e;omega
  ·obtain⟨k,hk⟩:=dj y;rw[hk];exact xm _ (by omega)
 have aib:dV post=true:=by simp only[dV,iS]at ae2;exact ae2.2
 refine oK am g (List.range' (pre.length+1) post.length) post (λk i hi=>?_) (by simp) OW aib _ _ w2 L2 R2 Vc HZ λa3 w3 L3 R3=>?_
 ·obtain⟨hk,Fb⟩:=E9.1 hi;simp only[List.length_range']at hk;simp only[List.getElem_range',Zde]at Fb;subst Fb;obtain⟨r,h1,h2⟩:=hg.2 (pre.length+1+k) ops[pre.length+1+k] (by simp[show pre.length+1+k<ops.size by omega]);rw[MH (by omega),show pre.length+1+k-pre.length=k+1 by omega,EN]at h1;exact⟨ops[pre.length+1+k],r,by simp[show pre.length+1+k<ops.size by omega],h1,h2⟩
 ·have fY:∀t,N'<=t->(cO Γ az post ⟨bW s1.tmps dst val,TR,s1.todo⟩).ab t=none:=by
   intro t ht;exact rJ am post OW _ HZ t (wB cD.le ht) ((cD.none val TR hP).2 t ht)
  obtain⟨L4,R4⟩:=Le.pX (st:=⟨(cO Γ az post ⟨bW s1.tmps dst val,TR,s1.todo⟩).tmps,(cO Γ az post ⟨bW s1.tmps dst val,TR,s1.todo⟩).ab,N',low,(cO Γ az post ⟨bW s1.tmps dst val,TR,s1.todo⟩).todo⟩) (la _ ks) κ nt a3 w3 L3 ⟨R3,fY,r.low,r.it⟩;exact⟨_,L4,hQ2,R4⟩
end
end
end Go.DM
namespace Go.DM.kC
section
variable{α:Type}(lt:α->α->Bool)
structure SWO:Prop where
 irrefl:∀x,lt x x=false
 trans:∀x y z,lt x y=true->lt y z=true->lt x z=true
 ntrans:∀x y z,lt x y=false->lt y z=false->lt x z=false
def cP(l:List α):Prop:=l.Pairwise λa b=>lt b a=false
def i4(x y:α):Bool:= !lt x y&& !lt y x
def gZ(x:α):List α->List α
 |[]=>[x]
 |y::ys=>if lt x y then y::gZ x ys else x::y::ys
def j8(l:List α):List α:=l.foldl (λdw x=>gZ lt x dw) []
def bE(l:List α):List α:=(j8 lt l).reverse
variable{lt}
def SWO.asymm(h:SWO lt){x y:α}(h1:lt x y=true):lt y x=false:=by
 cases h2:lt y x with
 |false=>rfl
 |true=>have:=h.trans x y x h1 h2;rw[h.irrefl]at this;cases this
def w8(x:α):∀(l:List α) (z:α),z∈gZ lt x l↔z=x\/z∈l
 |[],z=>by simp[gZ]
 |y::ys,z=>by
  simp only[gZ];split
  ·simp only[pH,w8 x ys z];constructor
   ·rintro(h|h|h)<;>simp[h]
   ·rintro(h|h|h)<;>simp[h]
  ·simp
def uA(h:SWO lt)(x:α):∀l:List α,l.Pairwise (λa b=>lt a b=false)->(gZ lt x l).Pairwise λa b=>lt a b=false
 |[],_=>by simp[gZ]
 |y::ys,hs=>by
  simp only[gZ];rw[CG]at hs;split
  ·rename_i WB;rw[CG];refine⟨λz hz=>?_,uA h x ys hs.2⟩;rcases(w8 x ys z).1 hz with rfl|hz
   ·exact h.asymm WB
   ·exact hs.1 z hz
  ·rename_i WB;have WB:lt x y=false:=by simpa using WB
   rw[CG];refine⟨λz hz=>?_,CG.2 hs⟩;rcases pH.1 hz with rfl|hz
   ·exact WB
   ·exact h.ntrans x y z WB (hs.1 z hz)
def uB(h:SWO lt)(x z:α):∀l:List α,(gZ lt x l).filter (i4 lt z)=(if i4 lt z x then x::l.filter (i4 lt z)else l.filter (i4 lt z))
 |[]=>by simp[gZ,KN]
 |y::ys=>by
  simp only[gZ];split
  ·rename_i WB;rw[KN,uB h x z ys];have hn:i4 lt z x=true->i4 lt z y=false:=by
    intro hx;simp only[i4,iS,Fm]at hx;cases hy:i4 lt z y with
    |false=>rfl
    |true=>
     simp only[i4,iS,Fm]at hy;have:=h.ntrans x z y hx.2 hy.1;rw[WB]at this;cases this
   by_cases SZ:i4 lt z x=true
   ·simp[SZ,hn SZ]
   ·simp only[He]at SZ;simp[SZ,KN]
  ·rw[KN]
def rX(h:SWO lt):∀(l dw:List α),dw.Pairwise (λa b=>lt a b=false)->(l.foldl (λdw x=>gZ lt x dw) dw).Pairwise λa b=>lt a b=false
 |[],dw,ha=>ha
 |x::l,dw,ha=>rX h l _ (uA h x dw ha)
def rY(h:SWO lt)(z:α):∀(l dw:List α),(l.foldl (λdw x=>gZ lt x dw) dw).filter (i4 lt z)=(l.filter (i4 lt z)).reverse++dw.filter (i4 lt z)
 |[],dw=>by simp
 |x::l,dw=>by
  rw[F6,rY h z l,uB h];by_cases hx:i4 lt z x=true
  ·simp[hx]
  ·simp only[He]at hx;simp[hx]
def dH(h:SWO lt)(l:List α):cP lt (bE lt l):=by
 unfold cP bE;rw[List.pairwise_reverse];exact rX h l [] List.Pairwise.nil
def jl(h:SWO lt)(z:α)(l:List α):(bE lt l).filter (i4 lt z)=l.filter (i4 lt z):=by
 unfold bE j8;rw[List.filter_reverse,rY h z];simp
def oP(h:SWO lt)(x:α):i4 lt x x=true:=by simp[i4,h.irrefl]
def zj:∀(l dw:List α) (z:α),z∈l.foldl (λdw x=>gZ lt x dw) dw↔z∈l\/z∈dw
 |[],dw,z=>by simp
 |x::l,dw,z=>by
  rw[F6,zj l,w8];simp only[pH];constructor
  ·rintro(h|h|h)<;>simp[h]
  ·rintro((h|h)|h)<;>simp[h]
@[simp] def iD(l:List α)(z:α):z∈bE lt l↔z∈l:=by simp[bE,j8,zj]
def uC(x:α):∀l:List α,(gZ lt x l).length=l.length+1
 |[]=>rfl
 |y::ys=>by simp only[gZ];split<;>simp[uC x ys]
def rZ:∀l dw:List α,(l.foldl (λdw x=>gZ lt x dw) dw).length=l.length+dw.length
 |[],dw=>by simp
 |x::l,dw=>by rw[F6,rZ l,uC];simp;omega
@[simp] def fy(l:List α):(bE lt l).length=l.length:=by simp[bE,j8,rZ]
def p6(h:SWO lt):∀(l1 l2:List α),cP lt l1->cP lt l2->(∀x,l1.filter (i4 lt x)=l2.filter (i4 lt x))->l1=l2
 |[],[],_,_,_=>rfl
 |[],b::t,_,_,hf=>by
  have:=hf b;simp[KN,oP h]at this
 |a::t,[],_,_,hf=>by
  have:=hf a;simp[KN,oP h]at this
 |a::t1,b::t2,s1,s2,hf=>by
  have s1':=CG.1 s1;have s2':=CG.1 s2;have gi:lt b a=false:=by
   have:b∈a::t1:=by
    have:b∈(a::t1).filter (i4 lt b):=by rw[hf b];simp[oP h]
    exact(QZ.1 this).1
   rcases pH.1 this with rfl|hm
   ·exact h.irrefl _
   ·exact s1'.1 b hm
  have V0:lt a b=false:=by
   have:a∈b::t2:=by
    have:a∈(b::t2).filter (i4 lt a):=by rw[<-hf a];simp[oP h]
    exact(QZ.1 this).1
   rcases pH.1 this with rfl|hm
   ·exact h.irrefl _
   ·exact s2'.1 a hm
  have he:i4 lt a b=true:=by simp[i4,gi,V0]
  have h1:=hf a;rw[KN,KN,oP h,he]at h1;simp only[yh,BE]at h1;obtain⟨rfl,_⟩:=h1
  congr 1
  refine p6 h t1 t2 s1'.2 s2'.2 λx=>?_;have:=hf x;rw[KN,KN]at this;split at this
  ·exact(List.cons.inj this).2
  ·exact this
def j3(h:SWO lt){l l':List α}(hs:cP lt l')(hf:∀x,l'.filter (i4 lt x)=l.filter (i4 lt x)):bE lt l=l':=
 p6 h _ _ (dH h l) hs λx=>by rw[jl h,hf]
def fK(h:SWO lt){l:List α}(hs:cP lt l):bE lt l=l:=j3 h hs λ_=>rfl
def eS{l1 l2:List α}:cP lt (l1++l2)↔cP lt l1/\cP lt l2/\∀a∈l1,∀b∈l2,lt b a=false:=by
 unfold cP;rw[List.pairwise_append]
def Gh(h:SWO lt){L1 L2 R1 R2:List α}(hL:cP lt (L1++L2))(hR:cP lt (R1++R2))(h1:∀r∈R1,∀l∈L2,lt r l=true)(h2:∀l∈L1,∀r∈R2,lt r l=false):
  bE lt (L1++R1)++bE lt (L2++R2)=bE lt (L1++L2++(R1++R2)):=by
 rw[eS]at hL hR
 symm
 refine j3 h ?_ λx=>?_
 ·rw[eS];refine⟨dH h _,dH h _,λa ha b hb=>?_⟩;simp only[iD,dP]at ha hb;rcases ha with ha|ha<;>rcases hb with hb|hb
  ·exact hL.2.2 a ha b hb
  ·exact h2 a ha b hb
  ·exact h.asymm (h1 a ha b hb)
  ·exact hR.2.2 a ha b hb
 ·simp only[HH,jl h];have:R1.filter (i4 lt x)++L2.filter (i4 lt x)=L2.filter (i4 lt x)++R1.filter (i4 lt x):=by
   by_cases e:R1.filter (i4 lt x)=[]
   ·simp[e]
   ·obtain⟨r,hr⟩:=List.exists_mem_of_ne_nil _ e;obtain⟨mU,nS⟩:=QZ.1 hr;have:L2.filter (i4 lt x)=[]:=by
     rw[IX];intro l hl hx;simp only[i4,iS,Fm]at nS hx;have k1:=h1 r mU l hl;have k2:=h.ntrans r x l nS.2 hx.1;rw[k1]at k2;cases k2
    simp[this]
  simp only[KW];rw[<-List.append_assoc (R1.filter _),this,KW]
def w9(h:SWO lt){l1 l2:List α}{x:α}(h1:cP lt l1)(h2:cP lt l2)(h12:∀a∈l1,∀b∈l2,lt b a=false)(Au:∀a∈l1,lt x a=false)(wa:∀b∈l2,lt b x=false):cP lt (l1++x::l2):=by
 rw[eS];refine⟨h1,CG.2 ⟨wa,h2⟩,λa ha b hb=>?_⟩;rcases pH.1 hb with rfl|hb
 ·exact Au a ha
 ·exact h12 a ha b hb
def LC(h:SWO lt){R1 R2:List α}{x:α}(hR:cP lt (R1++R2))(h1:∀r∈R1,lt r x=true)(h2:∀r∈R2,lt r x=false):bE lt (x::(R1++R2))=R1++x::R2:=by
 rw[eS]at hR;refine j3 h (w9 h hR.1 hR.2.1 hR.2.2 (λa ha=>h.asymm (h1 a ha)) h2) λz=>?_;simp only[HH,KN];by_cases hz:i4 lt z x=true
 ·have:R1.filter (i4 lt z)=[]:=by
   rw[IX];intro r hr hx;simp only[i4,iS,Fm]at hz hx;have:=h.ntrans r z x hx.2 hz.1;rw[h1 r hr]at this;cases this
  simp[hz,this]
 ·simp only[He]at hz;simp[hz]
def OK(h:SWO lt){L1 L2:List α}{x:α}(hL:cP lt (L1++L2))(h1:∀l∈L1,lt x l=false)(h2:∀l∈L2,lt x l=true):bE lt (L1++L2++[x])=L1++x::L2:=by
 rw[eS]at hL;refine j3 h (w9 h hL.1 hL.2.1 hL.2.2 h1 λb hb=>h.asymm (h2 b hb)) λz=>?_;simp only[HH,KN,List.filter_nil];by_cases hz:i4 lt z x=true
 ·have:L2.filter (i4 lt z)=[]:=by
   rw[IX];intro r hr hx;simp only[i4,iS,Fm]at hz hx;have:=h.ntrans x z r hz.2 hx.1;rw[h2 r hr]at this;cases this
  simp[hz,this]
 ·simp only[He]at hz;simp[hz]
end
section
variable{α:Type}
def dA(D:List α)(i j:Nat):List α:=(D.drop i).take (j-i)
@[simp] def abL(D:List α)(i j:Nat):(dA D i j).length=min (j-i) (D.length-i):=by simp[dA]
def UN [Inhabited α]{D:List α}{i j:Nat}{x:α}:x∈dA D i j↔∃k,i<=k/\k<j/\k<D.length/\D.getD k default=x:=by
 unfold dA;rw[BW];constructor
 ·rintro⟨n,hn,rfl⟩;simp only[ye,Fx]at hn;refine⟨i+n,by omega,by omega,by omega, ?_⟩;rw[Hj,Ff,Ub,fq (by omega)];rfl
 ·rintro⟨k,h1,h2,h3,rfl⟩;refine⟨k-i,by simp only[ye,Fx];omega, ?_⟩;rw[Hj,Ff,Ub,fq h3];simp only[show i+(k-i)=k by omega,TB]
def nk(D:List α){i j k:Nat}(h1:i<=j)(h2:j<=k):dA D i k=dA D i j++dA D j k:=by
 unfold dA;rw[show k-i=(j-i)+(k-j)by omega,List.take_add,Zco,show i+(j-i)=j by omega]
def cW(D:List α){i j:Nat}(h:i<=j):dA D i j++D.drop j=D.drop i:=by
 unfold dA
 conv=>rhs;rw[<-List.take_append_drop (j-i) (D.drop i)]
 rw[Zco,show i+(j-i)=j by omega]
def jm(A X B:List α){i j:Nat}(hi:A.length=i)(hj:i+X.length=j):dA (A++(X++B)) i j=X:=by
 subst hi;unfold dA;rw[List.drop_left,show j-A.length=X.length by omega,Zdj]
@[simp] def CS(D:List α)(i:Nat):dA D i i=[]:=by simp[dA]
def cH(lt:α->α->Bool)(D:List α)(a b:Nat):List α:=D.take a++(bE lt (dA D a b)++D.drop b)
def ko(D:List α)(a m b:Nat):List α:=D.take a++(dA D m b++(dA D a m++D.drop b))
def oQ(D:List α)(a b n:Nat):List α:=D.take a++(dA D b (b+n)++(dA D (a+n) b++(dA D a (a+n)++D.drop (b+n))))
def OL(D:List α){a m b:Nat}(h1:a<=m)(h2:m<=b):D=D.take a++(dA D a m++(dA D m b++D.drop b)):=by
 conv=>lhs;rw[<-List.take_append_drop a D]
 rw[cW D h2,cW D h1]
def xa(A B:List α){i:Nat}(hi:A.length=i):(A++B).take i=A:=by subst hi;simp
def xb(A X B:List α){i:Nat}(hi:A.length+X.length=i):(A++(X++B)).drop i=B:=by
 subst hi;rw[<-List.append_assoc,List.drop_left' (by simp)]
def LD(A P Q B:List α){a m b:Nat}(ha:A.length=a)(hm:a+P.length=m)(hb:m+Q.length=b):ko (A++(P++(Q++B))) a m b=A++(Q++(P++B)):=by
 unfold ko;rw[xa _ _ ha,jm A P _ ha hm,<-List.append_assoc A P,jm (A++P) Q B (by simp;omega) (by omega),xb (A++P) Q B (by simp;omega)]
def nl(A X M Y B:List α){a b n:Nat}(ha:A.length=a)(hx:X.length=n)(hm:a+n+M.length=b)(hy:Y.length=n):oQ (A++(X++(M++(Y++B)))) a b n=A++(Y++(M++(X++B))):=by
 have s1:dA (A++(X++(M++(Y++B)))) a (a+n)=X:=jm A X _ ha (by omega);have s2:dA (A++(X++(M++(Y++B)))) (a+n) b=M:=by
  rw[show A++(X++(M++(Y++B)))=(A++X)++(M++(Y++B))by simp];exact jm _ M _ (by simp;omega) (by omega)
 have s3:dA (A++(X++(M++(Y++B)))) b (b+n)=Y:=by
  rw[show A++(X++(M++(Y++B)))=(A++X++M)++(Y++B)by simp];exact jm _ Y _ (by simp;omega) (by omega)
 have s4:(A++(X++(M++(Y++B)))).drop (b+n)=B:=by
  rw[show A++(X++(M++(Y++B)))=(A++X++M)++(Y++B)by simp];exact xb _ Y _ (by simp;omega)
 unfold oQ;rw[xa _ _ ha,s1,s2,s3,s4]
def ld(lt:α->α->Bool)(A X B:List α){a b:Nat}(ha:A.length=a)(hb:a+X.length=b):cH lt (A++(X++B)) a b=A++(bE lt X++B):=by
 unfold cH;rw[xa _ _ ha,jm A X B ha hb,xb A X B (by omega)]
@[simp] def yC(lt:α->α->Bool)(D:List α){a b:Nat}(h1:a<=b)(h2:b<=D.length):(cH lt D a b).length=D.length:=by
 simp[cH];omega
def Gi{lt:α->α->Bool}{D:List α}{a b:Nat}{x:α}(h1:a<=b):x∈cH lt D a b↔x∈D:=by
 unfold cH;rw[dP,dP,iD]
 conv=>rhs;rw[<-List.take_append_drop a D,<-cW D h1]
 rw[dP,dP]
def LF{D:List α}{a m b:Nat}{x:α}(h1:a<=m)(h2:m<=b):x∈ko D a m b↔x∈D:=by
 unfold ko
 conv=>rhs;rw[OL D h1 h2]
 simp only[dP];constructor
 ·rintro(h|h|h|h)<;>simp[h]
 ·rintro(h|h|h|h)<;>simp[h]
def AU{D:List α}{a m b:Nat}(h1:a<=m)(h2:m<=b)(h3:b<=D.length):(ko D a m b).length=D.length:=by
 simp[ko];omega
def AV{lt:α->α->Bool}(h:SWO lt){D:List α}{a s m e b mid:Nat}(h1:a<=s)(h2:s<=m)(h3:m<=e)(h4:e<=b)(h5:b<=D.length)(aeW:s+e=mid+m)
  (hL:cP lt (dA D a m)) (hR:cP lt (dA D m b)) (k1:∀r∈dA D m e,∀l∈dA D s m,lt r l=true) (k2:∀l∈dA D a s,∀r∈dA D e b,lt r l=false):
  let D1:=ko D s m e
  let D2:=cH lt D1 a mid
  (cP lt (dA D1 a s)/\cP lt (dA D1 s mid))/\(cP lt (dA D2 mid e)/\cP lt (dA D2 e b))/\cH lt D2 mid b=cH lt D a b/\(s=a->D2=D1)/\(mid<=s->D2=D1)/\(e<=mid->cH lt D2 mid b=D2)/\(b<=e->cH lt D2 mid b=D2):=by
 have lA:(D.take a).length=a:=by simp;omega
 have lL1:(dA D a s).length=s-a:=by simp;omega
 have lL2:(dA D s m).length=m-s:=by simp;omega
 have lR1:(dA D m e).length=e-m:=by simp;omega
 have lR2:(dA D e b).length=b-e:=by simp;omega
 have hD:D=D.take a++(dA D a s++(dA D s m++(dA D m e++(dA D e b++D.drop b)))):=by
  rw[cW D h4,cW D h3,cW D h2,cW D h1,wb]
 rw[nk D h1 h2]at hL;rw[nk D h3 h4]at hR;generalize D.take a=A at lA hD;generalize dA D a s=L1 at*
 generalize dA D s m=L2 at*
 generalize dA D m e=R1 at*
 generalize dA D e b=R2 at*
 generalize D.drop b=B at*
 subst hD;have e1:ko (A++(L1++(L2++(R1++(R2++B))))) s m e=A++(L1++(R1++(L2++(R2++B)))):=by
  rw[<-List.append_assoc A L1,LD (A++L1) L2 R1 _ (by simp;omega) (by omega) (by omega),KW]
 have e2:cH lt (A++(L1++(R1++(L2++(R2++B))))) a mid=A++(bE lt (L1++R1)++(L2++(R2++B))):=by
  rw[<-List.append_assoc L1 R1,ld lt A (L1++R1) _ lA (by simp;omega)]
 have e3:cH lt (A++(bE lt (L1++R1)++(L2++(R2++B)))) mid b=A++(bE lt (L1++R1)++(bE lt (L2++R2)++B)):=by
  rw[show A++(bE lt (L1++R1)++(L2++(R2++B)))=(A++bE lt (L1++R1))++((L2++R2)++B)by simp,ld lt (A++bE lt (L1++R1)) (L2++R2) _ (by simp;omega) (by simp;omega),KW]
 have e4:cH lt (A++(L1++(L2++(R1++(R2++B))))) a b=A++(bE lt (L1++L2++(R1++R2))++B):=by
  have:=ld lt A (L1++L2++(R1++R2)) B lA (b:=b) (by simp;omega);simp only[KW]at this⊢;exact this
 simp only[e1,e2,e3];have Ti:=eS.1 hL;have Tj:=eS.1 hR;refine⟨⟨?_, ?_⟩,⟨?_, ?_⟩, ?_, ?_, ?_, ?_, ?_⟩
 ·rw[jm A L1 _ lA (by omega)];exact Ti.1
 ·rw[<-List.append_assoc A L1,jm (A++L1) R1 _ (by simp;omega) (by omega)];exact Tj.1
 ·rw[<-List.append_assoc A,jm (A++bE lt (L1++R1)) L2 _ (by simp;omega) (by omega)];exact Ti.2.1
 ·rw[<-List.append_assoc A,<-List.append_assoc (A++bE lt (L1++R1)),jm (A++bE lt (L1++R1)++L2) R2 _ (by simp;omega) (by omega)];exact Tj.2.1
 ·rw[e4,<-Gh h hL hR k1 k2];simp only[KW]
 ·intro hs;have:L1=[]:=kx (by omega);subst this;rw[z6,fK h Tj.1];simp
 ·intro hs;have:R1=[]:=kx (by omega);subst this;rw[F5,fK h Ti.1];simp
 ·intro hs;have:L2=[]:=kx (by omega);subst this;rw[z6,fK h Tj.2.1];simp
 ·intro hs;have:R2=[]:=kx (by omega);subst this;rw[F5,fK h Ti.2.1];simp
end
section
variable{α:Type}{lt:α->α->Bool}
def CT(h:SWO lt){l l':List α}(hf:∀x,l.filter (i4 lt x)=l'.filter (i4 lt x)):bE lt l=bE lt l':=
 j3 h (dH h l') λx=>by rw[jl h,hf]
def AW(h:SWO lt){D:List α}{a b:Nat}(gi:a<=b):bE lt (cH lt D a b)=bE lt D:=by
 refine CT h λx=>?_;unfold cH
 conv=>rhs;rw[<-List.take_append_drop a D,<-cW D gi]
 simp only[HH,jl h]
def CU(A B:List α){i j:Nat}(h:j<=A.length):dA (A++B) i j=dA A i j:=by
 unfold dA;by_cases hi:i<=A.length
 ·rw[su hi,Ve (by simp;omega)]
 ·rw[show j-i=0 by omega];simp
def zk(A B:List α){i j:Nat}(h:A.length<=i):dA (A++B) i j=dA B (i-A.length) (j-A.length):=by
 unfold dA;rw[NU,zN h,z6,show j-A.length-(i-A.length)=j-i by omega]
def fl{D:List α}{a b i j:Nat}(gi:a<=b)(hb:b<=D.length)(h:j<=a\/b<=i):dA (cH lt D a b) i j=dA D i j:=by
 have hD:D=D.take a++(dA D a b++D.drop b):=by rw[cW D gi,wb]
 have lA:(D.take a).length=a:=by simp;omega
 have lS:(dA D a b).length=b-a:=by simp;omega
 unfold cH
 conv=>rhs;rw[hD]
 rcases h with h|h
 ·rw[CU _ _ (by omega),CU _ _ (by omega)]
 ·rw[<-List.append_assoc,<-List.append_assoc,zk _ _ (by simp;omega),zk _ _ (by simp;omega)]
  congr 1<;>simp
def ip{D:List α}{a b:Nat}(gi:a<=b)(hb:b<=D.length):dA (cH lt D a b) a b=bE lt (dA D a b):=by
 unfold cH;exact jm _ _ _ (by simp;omega) (by simp;omega)
def kA{D:List α}{i j:Nat}(h:D.length<=j):dA D i j=D.drop i:=by
 unfold dA;exact IN (by simp;omega)
def s6(lt:α->α->Bool)(D:List α)(bs:Nat)(p:dJ):Prop:=∀j,p j->cP lt (dA D (j*bs) (j*bs+bs))
def s7{j k bs:Nat}(h:j<k):j*bs+bs<=k*bs:=by
 have:=B7 bs (show j+1<=k by omega);rw[TE]at this;omega
end
end Go.DM.kC
