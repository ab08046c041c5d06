/- Part. Conditions: none. -/
import Derived.Test.YtnhpkhblghgpdaaGreatDoorXaa
import Derived.OrdersIn
import Derived.RangeFuncCalls
import Derived.Sort.LoopGhostIn
import Derived.RangeFuncLeaves
import Derived.RangeFuncRecord
import Derived.RangeFuncNested
set_option linter.all false
namespace Go.DM
open Go.RowKit
section
variable{ro:Option Nat}{f:FuncId}{todo:List (aL)}{r:Loop}{go ab aJ:bq}{gL L':Loc}{d:sV}{args:List bW}{ds:bF}{cI:Array Value}{vs:List Value}{o':Obj}
variable [bM] [dM]
structure RO where
 d:sV
 dst:Option Nat
 guard:Option (Nat×Bool)
 after:cQ
 kI:Option (cQ):=none
abbrev ai:=List RO
structure RS where
 tmps:dj
 ab:bq
 todo:List (aL)
def c5(f:dj):Option Nat->DV->Nat->DV
 |none,_=>f
 |some k,v=>λx=>if x=k then v else f x
def gp(g:Option (Nat×Bool))(ρ:dj):Option Bool:=
 match g with
 |none=>some true
 |some (s,mg)=>match ρ s with
  |.v (.bool b)=>some (b==mg)
  |.skip=>some false
  |_=>none
def bV(aK:Nat):Option Nat->Nat
 |some d=>aK+d+1
 |none=>aK
def oU(Γ:pk)(aK:Nat)(r:RO)(st:RS):si:=dw Γ r.d (bV aK r.dst) st.tmps st.ab
def bN:sV->List bW
 |.sh x|.box x|.load _ _ x|.un _ x|.conv _ x|.addOff _ x|.nilCheck x|.field _ _ _ x|.extract _ x|.len x|.lenS x|.mkSlice _ _ _ _ x|.mkSliceB _ _ _ _ x|.lenM x|.rangeM x|.entryM x|.isNil _ _ x=>[x]
 |.pick c a b=>[c,a,b]
 |.alloc _|.mkMap _ _|.fail=>[]
 |.build _ ps|.bslice _ _ _ ps=>ps.map (·.2.2)
 |.store _ x y|.bin _ x y|.eqT _ _ _ x y|.idxAddr _ x y|.arrAddr _ _ x y|.minmax _ x y|.append _ _ _ x y|.lookup _ _ _ _ x y|.mapDel _ _ x y|.copy _ x y|.indexS x y=>[x,y]
 |.mapUpd _ _ x k y=>[x,k,y]
 |.mapEnt _ _ _ x k=>[x,k]
 |.entSt x s y=>[x,s,y]
 |.slice _ x lo hi=>x::(lo.toList++hi.toList)
 |.call _ xs|.callS _ xs|.callF _ xs|.callR _ xs|.mkFn _ xs=>xs
 |.callv x xs=>x::xs
def cX(r:RO)(ρ:dj):Prop:=
 match r.kI with
 |none=>True
 |some l=>∀x∈bN r.d,∀n∈aP (x.ev ρ),n∈l
def post(Γ:pk)(aK:Nat)(r:RO)(st:RS):alA:=
 if sW r.d then pn Γ r.d st.tmps st.ab st.todo
 else⟨(oU Γ aK r st).ok,(oU Γ aK r st).val,cN st.ab (oU Γ aK r st).put,st.todo⟩
def vn(r:RO)(o o':bq):Prop:=sW r.d=true->∀l,r.kI=some l->∀n,n∉l->o' n=o n
def cT(Γ:pk)(aK:Nat)(r:RO)(st:RS):Prop:=
 match gp r.guard st.tmps with
 |some true=>(post Γ aK r st).ok/\cX r st.tmps/\vn r st.ab (post Γ aK r st).ab
 |some false=>True
 |none=>False
def d7(Γ:pk)(aK:Nat)(r:RO)(st:RS):RS:=
 match gp r.guard st.tmps with
 |some true=>⟨c5 st.tmps r.dst (post Γ aK r st).val,(post Γ aK r st).ab,(post Γ aK r st).todo⟩
 |some false=>⟨c5 st.tmps r.dst .skip,st.ab,st.todo⟩
 |none=>st
def jk:T->Bool
 |.bool _|.int _ _|.str _=>true
 |.ew ts=>jv ts
 |.agg ts=>jv ts
 |_=>false
where
 jv:aL->Bool
 |[]=>true
 |t::ts=>jk t&&jv ts
def xM:∀(n:Nat),(∀(t:T) (w w':World) (W W':fH) (v:Value),SizeOf.sizeOf t<n->jk t=true->bm w W t v->bm w' W' t v)/\
  (∀(ts:aL) (w w':World) (W W':fH) (vs:List Value),SizeOf.sizeOf ts<n->jk.jv ts=true->(bl w W ts vs->bl w' W' ts vs)/\(ga w W ts vs->ga w' W' ts vs))
 |0=>⟨λ_ _ _ _ _ _ h=>by omega,λ_ _ _ _ _ _ h=>by omega⟩
 |n+1=>by
  have ih:=xM n;refine⟨λt w w' W W' v hn hs h=>?_,λts w w' W W' vs hn hs=>?_⟩
  ·cases t with
   |agg ts=>simp only[bm]at h⊢;obtain⟨vs,hv,hr⟩:=h;exact⟨vs,hv,(ih.2 ts w w' W W' _ (by simp at hn⊢;omega) hs).1 hr⟩
   |ew ts=>simp only[bm]at h⊢;obtain⟨vs,hv,hr⟩:=h;exact⟨vs,hv,(ih.2 ts w w' W W' _ (by simp at hn⊢;omega) hs).2 hr⟩
   |bool b=>simpa [bm]using h
   |int k n=>simpa [bm]using h
   |str s=>simpa [bm]using h
   |_=>exact eB hs EB
  ·cases ts with
   |nil=>exact⟨λh=>by simpa [bl]using h,λh=>by simpa [ga]using h⟩
   |cons t ts=>
    simp only[jk.jv,mD]at hs;have h2:=ih.2 ts w w' W W';refine⟨λh=>?_,λh=>?_⟩
    ·simp only[bl]at h⊢;obtain⟨v,jN,rfl,h1,hr,nw⟩:=h;exact⟨v,jN,rfl,h1,ih.1 t w w' W W' v (by simp at hn⊢;omega) hs.1 hr,(h2 _ (by simp at hn⊢;omega) hs.2).1 nw⟩
    ·simp only[ga]at h⊢;obtain⟨v,jN,rfl,hr,nw⟩:=h;exact⟨v,jN,rfl,ih.1 t w w' W W' v (by simp at hn⊢;omega) hs.1 hr,(h2 _ (by simp at hn⊢;omega) hs.2).2 nw⟩
def EK(P:Program)(f:FuncId):Prop:=∃fn,P.funcs[f]? =some fn/\fn.name≠ "runtime.NumGoroutine" /\fn.body.isNone=false
structure bw(P:Program)(f:FuncId)(ts:aL)(t:T):Prop where
 entry:EK P f
 run:∀(W:fH) (w:World) (cI:Array Value),(∀b,W b->b<w.heap.size)->Hk w W->ga w W ts cI.toList->
  Calls P f cI w λe w'=>∃v,e=.returned v/\wL w.heap.size w w'/\bm w' W t v
structure EL(n0:Nat)(w':World)(W:fH)(e sz:Nat)(av:List (aL))(v:Value):Prop where
 pos:0<sz
 len:∀x∈av,x.length=sz
 it:(av=[]/\∃a:Option Addr,v=.slice a 0 0)\/∃g cap eH,v=.slice (some ⟨g,0,none⟩) av.length cap/\0<cap/\n0<=g/\w'.heap[g]? =some (.cells eH e (0,0))/\av.length<=cap/\cap<=maxLen/\eH.size=cap*sz/\bl w' (λb=>W b\/b=g) av.flatten (eH.toList.take (av.length*sz))
structure pW(P:Program)(f:FuncId)(ts:aL)(e sz:Nat)(av:List (aL)):Prop where
 entry:EK P f
 run:∀(W:fH) (w:World) (cI:Array Value),(∀b,W b->b<w.heap.size)->Hk w W->ga w W ts cI.toList->
  Calls P f cI w λe' w'=>∃v,e'=.returned v/\wL w.heap.size w w'/\EL w.heap.size w' W e sz av v
def j7(w:World)(W:fH)(ab:bq)(L:Loc)(ds:bF)(vs:List Value):Prop:=
 vs.length=ds.length/\∀(i:Nat) (d:DV) (v:Value),ds[i]? =some d->vs[i]? =some v->aA w W ab L d v
structure aQ(P:Program)(f:FuncId)(args:bF)(ab:bq)(r:fV):Prop where
 entry:EK P f
 run:∀(base:Nat) (W M:fH) (w0 w:World) (L:Loc) (cI:Array Value),cC base W M w0 ab w L->j7 w W ab L args cI.toList->
  Calls P f cI w λe w'=>∃v L',e=.returned v/\cC base W M w0 r.ab w' L'/\ic W ab L w r.ab L' w'/\aA w' W r.ab L' r.val v
structure Z1(P:Program)(f:FuncId)(s:Spec):Prop where
 pure:∀ts,s.pre ts->bw P f ts (s.fn ts)/\(s.jY=true->jk (s.fn ts)=true)
 fresh:∀e sz,s.fresh=some (e,sz)->∀ts,s.pre ts->∃av,s.fn ts=.sl av/\pW P f ts e sz av/\(s.gu=true->jk.jv av.flatten=true)
 st:∀k,s.st=some k->∀args ab,(k args ab).ok->(∀N,(∀r,N<=r->ab r=none)->aQ P f args ab (k args ab))/\∀r,ab r=none->(k args ab).ab r=none
def ay(P:Program)(Γ:pk):Prop:=∀f s,Γ f=some s->Z1 P f s
def iZ(ro:Option Nat):Fence:={Fence.wide with round:=ro}
def fe{n:Nat}{P:Program}{args:Array Value}{w:World}{R:Ending->World->Prop}(h:Calls P f args w R):CallsIn (iZ ro) n P f args w R:=by
 have h0:CallsIn Fence.wide n P f args w R:=callsIn_wide.2 h;exact h0
structure pX where
 W:fH
 go:bq
 gL:Loc
 gw:World
 base:Nat
 M:fH
 w0:World
 J:Option (fH->List (aL)->World->Prop)
 ro:Option Nat
 Y:Option (Nat×Loop×Loop):=none
def pX.At(κ:pX)(todo:List (aL))(W:fH)(base:Nat)(M:fH)(w0:World):Prop:=
 match κ.J with
 |none=>(κ.Y=none->todo=[])/\W=κ.W/\base=κ.base/\M=κ.M/\w0=κ.w0
 |some J=>J W todo w0/\base=w0.heap.size/\M=(λ_=>False)/\(∀b,W b->κ.W b\/κ.gw.heap.size<=b)/\∀b,κ.W b->W b
structure Yields(P:Program)(l:Nat)(J:fH->List (aL)->World->Prop):Prop where
 aoY:∀(W:fH) (todo:List (aL)) (A B:World),J W todo A->wL A.heap.size A B->J W todo B
 round:∀(W:fH) (x:aL) (rest:List (aL)) (cI:Array Value) (A:World),J W (x::rest) A->ga A W x cI.toList->
  ∃fn tmps assign body,(Instr.yield l cI).run P A=.ok (.round l fn tmps assign body) A/\RoundIn Fence.wide 0 P l fn tmps assign body A λe B=>
   e=.returned (.bool true)/\∃W',J W' rest B/\dv W A B/\(∀b,W' b->b<B.heap.size/\(W b\/A.heap.size<=b))/\∀b,W b->W' b
structure Jx(P:Program)(l:Nat)(r s:Loop)(k:bF->bq->fV)(base:Nat)(W M:fH)(w0:World)(go:bq)(gL:Loc)(gw:World):Prop where
 round:∀(w:World) (L:Loc) (ab:bq) (args:bF) (cI:Array Value),(k args ab).ok->yIs (k args ab).val->(∃N,∀x,N<=x->ab x=none)->w.heap[l]? =some (.loop r)->
  ic W go gL gw ab L w->cC base W M w0 ab w L->j7 w W ab L args cI.toList->
  ∃fn tmps assign body,(Instr.yield l cI).run P w=.ok (.round l fn tmps assign body) w/\RoundIn Fence.wide 0 P l fn tmps assign body w λe B=>
   e=.returned (.bool (yGo (k args ab).val))/\∃L',cC base W M w0 (k args ab).ab B L'/\ic W ab L (w.putObj l (.loop (if yGo (k args ab).val then r else s))) (k args ab).ab L' B
def _root_.Go.World.vo{w:World}{l:Nat}{o:Obj}(h:w.heap[l]? =some o):w.putObj l o=w:=by
 obtain⟨hl,e⟩:=v8.1 h;have:w.heap.setIfInBounds l o=w.heap:=by
  refine Array.ext_getElem? λi=>?_;rw[Zcd];split
  ·rename_i e2;subst e2;exact h.symm
  ·rfl
 unfold World.putObj;rw[this]
def pX.O0(κ:pX)(todo:List (aL)):World:=match κ.Y with
 |none=>κ.gw
 |some (l,r,s)=>κ.gw.putObj l (.loop (match todo with|[]=>s|_=>r))
def pX.zh(κ:pX)(todo:List (aL)):(κ.O0 todo).heap.size=κ.gw.heap.size:=by
 unfold pX.O0;split
 ·rfl
 ·simp[World.putObj]
def pX.Mc{κ:pX}(h:κ.Y=none)(todo:List (aL)):κ.O0 todo=κ.gw:=by simp[pX.O0,h]
structure pX.Good(P:Program)(κ:pX):Prop where
 y:∀J,κ.J=some J->Yields P κ.gL.yl J/\dM.k=none/\κ.Y=none
 ys:∀l r s,κ.Y=some (l,r,s)->κ.base<=l/\κ.gw.heap[l]? =some (.loop r)/\∃k,dM.k=some (l,k)/\Jx P l r s k κ.base κ.W κ.M κ.w0 κ.go κ.gL κ.gw
 rd:∀l,κ.ro=some l->∃r,κ.gw.heap[l]? =some (.loop r)
def mark(D:Nat):Deferred:={target:=.collected D,args:= #[]}
structure R0(base:Nat)(W M:fH)(w0:World)(nt:Nat)(tmps:dj)(ab:bq)(a:Act)(w:World)(L:Loc):Prop where
 size:a.tmps.size=nt
 tmps:∀t,aA w W ab L (tmps t) (a.tmps.getD t Go.undef)
 o:cC base W M w0 ab w L
structure eW(κ:pX)(nt:Nat)(st:RS)(a:Act)(w:World)(L:Loc):Prop where
 ex:∃W base M w0,κ.At st.todo W base M w0/\R0 base W M w0 nt st.tmps st.ab a w L
 fu:ic κ.W κ.go κ.gL (κ.O0 st.todo) st.ab L w
 defers:∃Ds:cQ,a.defers=Ds.map mark/\Ds.Nodup/\(∀D∈Ds,w.heap[D]? =some (.deferred (some []))/\κ.gw.heap.size<=D)/\(κ.J.isSome=true->Ds=[])
 bg:κ.J=none->κ.base<=κ.gw.heap.size
 cj:∃N,∀r,N<=r->st.ab r=none
def pX.At.sub{κ:pX}{W:fH}{base:Nat}{M:fH}{w0:World}(h:κ.At todo W base M w0):(∀b,W b->κ.W b\/κ.gw.heap.size<=b)/\∀b,κ.W b->W b:=by
 unfold pX.At at h;split at h
 ·obtain⟨_,rfl,_⟩:=h;exact⟨λ_ h=>.inl h,λ_ h=>h⟩
 ·exact⟨h.2.2.2.1,h.2.2.2.2⟩
def pX.At.Jy{κ:pX}{W:fH}{base:Nat}{M:fH}{w0:World}(h:κ.At todo W base M w0)(td:List (aL)):∀b,W b->κ.W b\/(κ.O0 td).heap.size<=b:=by
 rw[pX.zh];exact h.sub.1
def pX.Z2{κ:pX}{l:Nat}(td:List (aL))(h:κ.gw.heap[l]? =some (.loop r)):∃r',(κ.O0 td).heap[l]? =some (.loop r'):=by
 unfold pX.O0;split
 ·exact⟨r,h⟩
 ·rename_i l' _ _ _;by_cases e:l=l'
  ·subst e;exact⟨_,World.putObj_heap_same (v8.1 h).1⟩
  ·exact⟨r,by rw[World.putObj_heap_other e];exact h⟩
def ic.comp{W V:fH}{L:Loc}{gw w w':World}(h:ic V go gL gw ab L w)(k:ic W ab L w aJ L' w')(h1:∀b,W b->V b\/gw.heap.size<=b)(h2:∀b,V b->W b):
  ic V go gL gw aJ L' w':=by
 have up:∀b,b<gw.heap.size->WW W ab L b->WW V ab L b:=λb hb hw=>by
  rcases hw with hw|hw
  ·rcases h1 b hw with h3|h3
   ·exact .inl h3
   ·omega
  ·exact .inr hw
 refine⟨⟨⟨xI h.dG.size k.dG.size,λb c e fr hb hn=>?_⟩,λb hb=>k.dG.Za b (h.dG.Za b hb),λb r hb=>k.dG.ZG b r (h.dG.ZG b r hb)⟩,λb hb hw=>?_,λr o hr hk=>?_,λr bJ e sz av hr=>?_,k.yl.trans h.yl⟩
 ·have ef:=(v8.1 hb).1;exact k.dG.jX b c e fr (h.dG.jX b c e fr hb hn) λx=>hn (h.sub b ef (up b ef x))
 ·refine h.sub b hb (up b hb (k.sub b (ZbJ hb h.dG.size) ?_));rcases hw with hw|hw
  ·exact .inl (h2 b hw)
  ·exact .inr hw
 ·obtain⟨e1,o1,tw,pq⟩:=h.fix r o hr hk;obtain⟨e2,o2,yY,xN⟩:=k.fix r o1 tw (by rw[pq];exact hk);exact⟨e2.trans e1,o2,yY,xN.trans pq⟩
 ·obtain⟨v1,e1,s1,r1,tw,l1,k1⟩:=h.bE r bJ e sz av hr;obtain⟨v2,e2,s2,r2,yY,l2,k2⟩:=k.bE r v1 e1 s1 r1 tw;refine⟨v2,e2,s2,r2,yY,xI l1 l2,λhv=>?_⟩;have Cl:v1=bJ:=by omega
  obtain⟨a1,a2,a3⟩:=k1 Cl;obtain⟨b1,b2,b3⟩:=k2 (by omega);exact⟨b1.trans a1,b2.trans a2,b3.trans a3⟩
section
variable{P:Program}{κ:pX}{base:Nat}{W M:fH}{w0:World}{nt:Nat}{Γ:pk}{aK:Nat}
def EM(tmps:Array Value)(d t:Nat)(v:Value)(hd:d<tmps.size):(tmps.setIfInBounds d v).getD t Go.undef=if t=d then v else tmps.getD t Go.undef:=by
 simp only[O1,Zcd];by_cases h:d=t
 ·subst h;simp[hd]
 ·have:t≠d:=λe=>h e.symm;simp[h,this]
def R0.put{tmps:dj}{a:Act}{w w':World}{L:Loc}(h:R0 base W M w0 nt tmps ab a w L)(dst:Option Nat)(lc:∀d,dst=some d->d<nt){v:DV}{x:Value}
  (hO:cC base W M w0 aJ w' L') (hA:ic W ab L w aJ L' w') (hv:aA w' W aJ L' v x):
  R0 base W M w0 nt (c5 tmps dst v) aJ (a.put dst x) w' L':=by
 cases dst with
 |none=>exact⟨h.size,λt=>aA.fu hA _ _ (h.tmps t),hO⟩
 |some d=>
  refine⟨by simpa [Act.put]using h.size,λt=>?_,hO⟩;simp only[c5,Act.put];rw[EM _ _ _ _ (by rw[h.size];exact lc d rfl)];by_cases ht:t=d
  ·simp only[ht,jP];exact hv
  ·simp only[ht,w7];exact aA.fu hA _ _ (h.tmps t)
def xO(a:Act)(dst:Option Nat)(x:Value):(a.put dst x).defers=a.defers:=by cases dst<;>rfl
def eW.put{st:RS}{a:Act}{w w':World}{L:Loc}(hR:eW κ nt st a w L)(dK:κ.At st.todo W base M w0)(h:R0 base W M w0 nt st.tmps st.ab a w L)
  (dst:Option Nat) (lc:∀d,dst=some d->d<nt) {v:DV} {x:Value} (hO:cC base W M w0 aJ w' L') (hA:ic W st.ab L w aJ L' w') (hv:aA w' W aJ L' v x) (mh:∃N,∀r,N<=r->aJ r=none):
  eW κ nt ⟨c5 st.tmps dst v,aJ,st.todo⟩ (a.put dst x) w' L':=
 ⟨⟨W,base,M,w0,dK,h.put dst lc hO hA hv⟩,hR.fu.comp hA (dK.Jy _) dK.sub.2,by
  obtain⟨Ds,h1,h2,h3,h4⟩:=hR.defers;exact⟨Ds,by rw[xO];exact h1,h2,λD hD=>⟨hA.dG.Za D (h3 D hD).1,(h3 D hD).2⟩,h4⟩,hR.bg,mh⟩
def eW.skip{st:RS}{a:Act}{w:World}{L:Loc}(h:eW κ nt st a w L)(dst:Option Nat)(lc:∀d,dst=some d->d<nt):
  eW κ nt ⟨c5 st.tmps dst .skip,st.ab,st.todo⟩ (a.put dst Go.undef) w L:=by
 obtain⟨W,base,M,w0,dK,h0⟩:=h.ex;exact eW.put h dK h0 dst lc h0.o (ic.cZ (dv.refl _ _)) (by simp[aA]) h.cj
def nF(o:Oper)(w:World)(ρ:Operand->Value):∀f,o.about P w ρ=some f->(iZ ro).fn f:=λ_ _=>trivial
def oV{o:Oper}(h:dI P o=some d):∀c,o.op≠ .defer c:=by
 intro c hc;simp[dI,hc]at h
def fO{o:Oper}(hc:dI P o=some d)(hd':(∃f args,d=.call f args)\/(∃f args,d=.callS f args)\/(∃f args,d=.callv f args)\/(∃f args,d=.callF f args)\/∃f args,d=.callR f args):∃c,o.op=.call c/\eR P c=some d:=by
 rcases hd' with⟨f,args,rfl⟩|⟨f,args,rfl⟩|⟨f,args,rfl⟩|⟨f,args,rfl⟩|⟨f,args,rfl⟩;all_goals
  unfold dI at hc;cases ho:o.op<;>simp only[ho,reduceCtorEq]at hc
  case call c=>exact⟨c,rfl,hc⟩
  case binOp op t x y yt=>
   exfalso;simp only[kP,jG]at hc;obtain⟨x',hx,y',hy,hc⟩:=hc;unfold nE at hc;repeat' split at hc
   all_goals first|(cases hc;done)|(simp only[iV,reduceCtorEq,wg,wh]at hc;done)
  case makeMap t h=>
   exfalso;cases h with
   |some m=>cases hc
   |none=>
    simp only at hc;split at hc
    ·simp only[iV,reduceCtorEq,wg,wh]at hc
    ·cases hc
  case slice t x lo hi mx=>
   exfalso;cases mx with
   |some m=>cases hc
   |none=>
    simp only at hc;repeat' split at hc
    all_goals simp only[mb,kP,jG,cu,reduceCtorEq,wg,wh]at hc
  all_goals exfalso
  all_goals first
   |(simp only[iV,reduceCtorEq,wg,wh]at hc;done)
   |(simp only[mb,kP,jG,cu,reduceCtorEq,wg,wh]at hc;done)
   |(repeat' split at hc)<;>first
     |(simp only[iV,mb,kP,jG,cu,reduceCtorEq,wg,wh]at hc;done)
     |(simp[jG]at hc;done)
def lT{c:Call}(h:eR P c=some (.call f args)):∃fn,c.callee=.value (.func f)/\P.funcs[f]? =some fn/\fn.name≠ "runtime.NumGoroutine" /\fn.body.isNone=false/\c.args.toList.mapM bW.of=some args:=by
 unfold eR at h;split at h
 ·rename_i g jV;split at h
  ·rename_i fn tz;split at h
   ·cases h
   ·rename_i hnr;simp only[iV,sV.call.injEq]at h;obtain⟨ys,qG,rfl,rfl⟩:=h;refine⟨fn,jV,tz,λe=>hnr (.inl e), ?_,qG⟩;cases hb:fn.body.isNone
    ·rfl
    ·exact eB (.inr hb) hnr
  ·cases h
 all_goals
  repeat' split at h
  all_goals first
   |(simp only[iV,mb,kP,jG,cu,reduceCtorEq,wg,wh]at h;done)
   |skip
def Jz{c:Call}{x:bW}(h:eR P c=some (.callv x args)):∃t,c.callee=.value (.tmp t)/\x=.tmp t/\c.args.toList.mapM bW.of=some args:=by
 unfold eR at h;split at h
 ·split at h
  ·split at h
   ·cases h
   ·simp at h
  ·cases h
 ·rename_i t jV;simp only[iV,sV.callv.injEq]at h;obtain⟨ys,qG,rfl,rfl⟩:=h;exact⟨t,jV,rfl,qG⟩
 all_goals
  repeat' split at h
  all_goals first
   |(simp only[iV,mb,kP,jG,cu,reduceCtorEq,wg,wh]at h;done)
   |skip
def Cu:sV->sV
 |.callS f args=>.call f args
 |.callF f args=>.call f args
 |.callR f args=>.call f args
 |.mkSliceB e sz bytes zero n=>.mkSlice e sz bytes zero n
 |d=>d
def nG(W':fH){gu:Bool}{ab:bq}{w:World}{L:Loc}(hO:cC base W M w0 ab w L)(hW:gu=true->∀r o b,ab r=some o->L.own r o=some b->¬W' b)(Xl:∀b,W' b->WW W ab L b):
  ∀{ds:bF} {vs:List Value},j7 w W ab L ds vs->uE gu ab ds->ga w W' (jF ab ds) vs
 |[],vs,h,_=>by
  have:vs=[]:=LS h.1;subst this;simp[ga,jF]
 |d::ds,[],h,_=>by have:=h.1;simp at this
 |d::ds,v::vs,h,hk=>by
  simp only[uE]at hk;simp only[ga,jF];exact⟨v,vs,rfl,(zd W' hO hW Xl).1 _ _ (h.2 0 d v rfl rfl) hk.1,nG W' hO hW Xl ⟨by simpa using h.1,λi x y hx hy=>h.2 (i+1) x y (by simpa using hx) (by simpa using hy)⟩ hk.2⟩
def H0(aC:ay P Γ){w:World}{L:Loc}(hO:cC base W M w0 ab w L){g:FuncId}{s:Spec}(hg:Γ g=some s)(pY:uE s.jY ab ds)(uG:s.pre (jF ab ds))
  (hr:j7 w W ab L ds cI.toList):Calls P g cI w λe w'=>∃v,e=.returned v/\cC base W M w0 ab w' L/\ic W ab L w ab L w'/\aA w' W ab L (.v (s.fn (jF ab ds))) v:=by
 obtain⟨tA,hsc⟩:=(aC g s hg).pure _ uG;have Dw:∀b,WW W ab L b->b<w.heap.size:=by
  have jW:base<=w.heap.size:=xI hO.fr.jO hO.fr.size;rintro b (hb|⟨r',o',h1,h2⟩)
  ·have:=hO.under b hb;omega
  ·exact(hO.ob r' o' h1).lt h2
 cases hs:s.jY with
 |true=>
  rw[hs]at pY;have PA:=nG (λ_=>False) (gu:=true) hO (λ_ _ _ _ _ _ x=>x) (λ_ x=>x.elim) hr pY;refine(tA.run (λ_=>False) w cI (λ_ x=>x.elim) (hO.gl.bH (dv.refl (WW W ab L) _).toKeepsC λ_ _ h=>h.elim) PA).mono ?_;rintro e w' ⟨v,rfl,hb,hv⟩;obtain⟨hO',hA⟩:=cC.grow hO hb;refine⟨v,rfl,hO',hA, ?_⟩;simp only[aA];exact(xM _).1 _ w' w' (λ_=>False) (WW W ab L) v (Zcr _) (hsc hs) hv
 |false=>
  rw[hs]at pY;have PA:=nG (WW W ab L) (gu:=false) hO (λx=>by cases x) (λ_ x=>x) hr pY;refine(tA.run (WW W ab L) w cI Dw hO.gl PA).mono ?_;rintro e w' ⟨v,rfl,hb,hv⟩;obtain⟨hO',hA⟩:=cC.grow hO hb;exact⟨v,rfl,hO',hA,by simp only[aA];exact hv⟩
def PB{w:World}{L:Loc}(hO:cC base W M w0 ab w L){g:FuncId}{gu:Bool}(pY:uE gu ab ds){e sz:Nat}{av:List (aL)}(tA:pW P g (jF ab ds) e sz av)(hsc:gu=true->jk.jv av.flatten=true)
  (hr:j7 w W ab L ds cI.toList) {name:Nat} (ff:ab name=none):Calls P g cI w λe' w'=>∃v L',e'=.returned v/\cC base W M w0 (cN ab (some (name,.bE 0 e sz av))) w' L'/\ic W ab L w (cN ab (some (name,.bE 0 e sz av))) L' w'/\aA w' W (cN ab (some (name,.bE 0 e sz av))) L' (.bC name 0) v:=by
 have jW:base<=w.heap.size:=xI hO.fr.jO hO.fr.size;have Dw:∀b,WW W ab L b->b<w.heap.size:=by
  rintro b (hb|⟨r',o',h1,h2⟩)
  ·have:=hO.under b hb;omega
  ·exact(hO.ob r' o' h1).lt h2
 have aV:Calls P g cI w λe' w'=>∃v,e'=.returned v/\wL w.heap.size w w'/\EL w.heap.size w' (WW W ab L) e sz av v:=by
  cases gu with
  |false=>
   have PA:=nG (WW W ab L) (gu:=false) hO (λx=>by cases x) (λ_ x=>x) hr pY;exact tA.run (WW W ab L) w cI Dw hO.gl PA
  |true=>
   have PA:=nG (λ_=>False) (gu:=true) hO (λ_ _ _ _ _ _ x=>x) (λ_ x=>x.elim) hr pY;refine(tA.run (λ_=>False) w cI (λ_ x=>x.elim) (hO.gl.bH (dv.refl (WW W ab L) _).toKeepsC λ_ _ h=>h.elim) PA).mono ?_;rintro e' w' ⟨v,h1,h2,h3⟩;refine⟨v,h1,h2,h3.pos,h3.len, ?_⟩;rcases h3.it with h4|⟨g',cap,eH,k1,k2,k3,k4,k5,k6,k7,k8⟩
   ·exact .inl h4
   ·exact .inr ⟨g',cap,eH,k1,k2,k3,k4,k5,k6,k7,((xM _).2 _ w' w' _ _ _ (Zcr _) (hsc rfl)).1 k8⟩
 refine aV.mono ?_;rintro e' w' ⟨v,rfl,hb,hf⟩;have h:=cC.put hO (r:=name) (L':=L.ju name v) (o':=.bE 0 e sz av) (hO.fr.trans ⟨hb.os,hb.tape,hb.output,jW,hb.size,λk hk _=>hb.block k (by omega),hb.drawn⟩) hb.size (λx hx=>⟨rfl,by simp[Loc.ju,hx]⟩) rfl (λb ef _=>hb.block b ef)
  (λb h=>.inr (by
   simp only[Loc.own,Loc.ju,jP]at h;rcases hf.it with⟨_,a,rfl⟩|⟨g',cap,eH,rfl,hp,yO,_⟩
   ·cases a<;>simp[bi]at h
   ·simp only[bi,aZ (Hm.1 hp),cu]at h;omega))
  (λo' h _=>by rw[ff]at h;cases h) (λ_ _ _ _ h=>by rw[ff]at h;cases h) (λfu=>by
   refine⟨hf.pos,hf.len,λg' hg=>?_, ?_⟩
   ·simp only[Loc.ju,jP]at hg;rcases hf.it with⟨_,a,rfl⟩|⟨g2,cap,eH,rfl,hp,yO,_⟩
    ·cases a<;>simp[bi]at hg
    ·simp only[bi,aZ (Hm.1 hp),cu]at hg;exact .inl (by omega)
   ·simp only[Loc.ju,jP];rcases hf.it with⟨h1,a,h2⟩|⟨g2,cap,eH,h1,hp,yO,h2,h3,h4,h5,h6⟩
    ·exact .inl ⟨h1,a,h2⟩
    ·refine .inr ⟨g2,cap,eH,h1,hp,h2,h3,h4,h5,bl.bH (dv.refl (λb=>WW W ab L b\/b=g2) w').toKeepsC (λb _ hb=>?_) _ _ h6⟩;rcases hb with hb|⟨r',o',gS,hb⟩
     ·exact .inl (.inl hb)
     ·simp only[cN]at gS;split at gS
      ·rename_i e1;cases gS;subst e1;simp only[Loc.own,jP,h1,bi,aZ (Hm.1 hp),cu]at hb;exact .inr hb.symm
      ·rename_i b7;refine .inl (.inr ⟨r',o',gS, ?_⟩);cases o'<;>simpa [Loc.own,Loc.ju,b7]using hb)
 refine⟨v,_,rfl,h.1,h.2, ?_⟩;simp only[aA];refine⟨?_,0,e,sz,av,by simp[cN],ed _,λ_=>by simp[Loc.ju]⟩;rcases hf.it with⟨_,a,rfl⟩|⟨g2,cap,eH,rfl,_⟩<;>exact⟨_,_,_,rfl⟩
def gH{w:World}{L:Loc}{a:Act}{ρ:dj}(hg:Hk w (WW W ab L))(jU:∀t,aA w W ab L (ρ t) (a.tmps.getD t Go.undef)){xs:List Operand}{ys:List bW}(h:xs.mapM bW.of=some ys):j7 w W ab L (ys.map (·.ev ρ)) (xs.map a.eval):=by
 refine⟨by simp[vm h],λi d v hd hv=>?_⟩;rw[ZbG,iV]at hd hv;obtain⟨y,hy,rfl⟩:=hd;obtain⟨x,hx,rfl⟩:=hv;exact Cs hg jU h i x y hx hy
def j7.append{w:World}{L:Loc}{rP:bF}{jN:List Value}(h:j7 w W ab L ds vs)(k:j7 w W ab L rP jN):j7 w W ab L (ds++rP) (vs++jN):=by
 refine⟨by simp[h.1,k.1],λi d v hd hv=>?_⟩;by_cases hi:i<ds.length
 ·rw[Zbl hi]at hd;rw[Zbl (by rw[h.1];exact hi)]at hv;exact h.2 i d v hd hv
 ·rw[Zbj (by omega)]at hd;rw[Zbj (by rw[h.1];omega),h.1]at hv;exact k.2 _ d v hd hv
def EN{w:World}{L:Loc}{ts:aL}(h:bl w (WW W ab L) ts vs):j7 w W ab L (ts.map .v) vs:=by
 refine⟨by simp[bl.length h],λi d v hd hv=>?_⟩;rw[ZbG,iV]at hd;obtain⟨t,ht,rfl⟩:=hd;obtain⟨v',ux,_,hr⟩:=bl.get h ht;rw[hv]at ux;cases ux;simpa [aA]using hr
def Cv{w:World}{L:Loc}(h:aR w W ab L ds vs):j7 w W ab L ds vs:=by
 refine⟨by simp[aR.length h],λi d v hd hv=>?_⟩;obtain⟨v',ux,_,hr⟩:=aR.get h hd;rw[hv]at ux;cases ux;exact hr
def Hv{o:Oper}{x:bW}(hc:dI P o=some (.entryM x)):∃y,o.op=.entry y/\bW.of y=some x:=by
 unfold dI at hc;cases ho:o.op<;>simp only[ho,reduceCtorEq]at hc
 case entry y=>
  simp only[iV,sV.entryM.injEq]at hc;obtain⟨y',hy,rfl⟩:=hc;exact⟨y,rfl,hy⟩
 case binOp op t x y yt=>
  exfalso;simp only[kP,jG]at hc;obtain⟨x',hx,y',hy,hc⟩:=hc;unfold nE at hc;repeat' split at hc
  all_goals first|(cases hc;done)|(simp only[iV,reduceCtorEq,wg,wh]at hc;done)
 case call c=>
  exfalso;unfold eR at hc;repeat' split at hc
  all_goals first
   |(cases hc;done)
   |(simp only[iV,mb,kP,jG,cu,reduceCtorEq,wg,wh]at hc;done)
 case slice t x lo hi mx=>
  exfalso;cases mx with
  |some m=>cases hc
  |none=>
   simp only at hc;repeat' split at hc
   all_goals simp only[mb,kP,jG,cu,reduceCtorEq,wg,wh]at hc
 case makeMap t h=>
  exfalso;cases h with
  |some m=>cases hc
  |none=>
   simp only at hc;split at hc
   ·simp only[iV,reduceCtorEq,wg,wh]at hc
   ·cases hc
 all_goals exfalso
 all_goals first
  |(simp only[iV,reduceCtorEq,wg,wh]at hc;done)
  |(simp only[mb,kP,jG,cu,reduceCtorEq,wg,wh]at hc;done)
  |(repeat' split at hc)<;>first
    |(simp only[iV,mb,kP,jG,cu,reduceCtorEq,wg,wh]at hc;done)
    |(simp[jG]at hc;done)
def kp{o:Oper}{a:Act}{w:World}{c:Call}(ho:o.op=.call c){g:FuncId}{ch:Array Value}(hv:∀f,c.callee=.value f->a.eval f=.func (.func g) #[] ch)(hc:∃f,c.callee=.value f)(hg:EK P g):
  (execOp a.eval o).run P w=.ok (.enter g (c.args.map a.eval++ch)) w:=by
 obtain⟨f,hf⟩:=hc;obtain⟨fn,tz,b7,Cw⟩:=hg;simp[execOp,ho,resolve,hf,hv f hf,Deferred.ofValue,invoke,callFunc,tz,b7];intro ng;simp[ng]at Cw
def xd{n l:Nat}{fn:FuncId}{tmps:Array Value}{assign body:Code}{w:World}{R:Ending->World->Prop}(h:RoundIn Fence.wide 0 P l fn tmps assign body w R):
  RoundIn (iZ ro) n P l fn tmps assign body w R:=by
 have h0:RoundIn Fence.wide n P l fn tmps assign body w R:=⟨h.1,λc cs _=>h.2 c cs (by simp[Fence.room,Fence.wide])⟩;exact h0
def pZ{W:fH}{L:Loc}{w w':World}(Dc:KeepsC (WW W ab L) w w'):∀n,(∀(d:DV) (x:Value),SizeOf.sizeOf d<n->aA w W ab L d x->aA w' W ab L d x)/\(∀(ds:bF) (xs:List Value),SizeOf.sizeOf ds<n->aR w W ab L ds xs->aR w' W ab L ds xs)/\(∀(ds:bF) (xs:List Value),SizeOf.sizeOf ds<n->eP w W ab L ds xs->eP w' W ab L ds xs):=by
 have xP:∀b,b<w.heap.size->WW W ab L b->WW W ab L b:=λ_ _ h=>h;intro n;induction n with
 |zero=>exact⟨λ_ _ h=>by omega,λ_ _ h=>by omega,λ_ _ h=>by omega⟩
 |succ n ih=>
  refine⟨λd x hn hx=>?_,λds xs hn hx=>?_,λds xs hn hx=>?_⟩
  ·cases d with
   |v t=>simp only[aA]at hx⊢;exact bm.bH Dc xP t x hx
   |ew cs=>
    simp only[aA]at hx⊢;obtain⟨vs,hv,hr⟩:=hx;exact⟨vs,hv,ih.2.2 cs _ (by simp at hn⊢;omega) hr⟩
   |oP f cs=>
    simp only[aA]at hx⊢;obtain⟨vs,hv,hr⟩:=hx;exact⟨vs,hv,ih.2.1 cs _ (by simp at hn⊢;omega) hr⟩
   |mV av i off=>
    simp only[aA]at hx⊢;obtain⟨b,o,sz,hx,hb,Hw,hr,h1,h2⟩:=hx;exact⟨b,o,sz,hx,ZbJ hb Dc.size,Hw,bD.bH Dc xP hb Hw sz o av hr,h1,h2⟩
   |jd cs off=>
    simp only[aA]at hx⊢;obtain⟨b,o,hx,hb,Hw,hr⟩:=hx;exact⟨b,o,hx,ZbJ hb Dc.size,Hw,eD.bH Dc xP hb Hw o cs hr⟩
   |agg cs=>
    simp only[aA]at hx⊢;obtain⟨vs,hv,hr⟩:=hx;exact⟨vs,hv,ih.2.1 cs _ (by simp at hn⊢;omega) hr⟩
   |_=>exact hx
  ·cases ds with
   |nil=>simpa only[aR]using hx
   |cons d ds=>
    simp only[aR]at hx⊢;obtain⟨y,ys,hv,h1,h2,h3⟩:=hx;exact⟨y,ys,hv,h1,ih.1 d y (by simp at hn⊢;omega) h2,ih.2.1 ds ys (by simp at hn⊢;omega) h3⟩
  ·cases ds with
   |nil=>simpa only[eP]using hx
   |cons d ds=>
    simp only[eP]at hx⊢;obtain⟨y,ys,hv,h2,h3⟩:=hx;exact⟨y,ys,hv,ih.1 d y (by simp at hn⊢;omega) h2,ih.2.2 ds ys (by simp at hn⊢;omega) h3⟩
def pu{w:World}{l:Nat}{o:Obj}(hl:w.heap[l]? =some o)(Jp:¬Obj.plain o):∀(b:Nat) x,Obj.plain x->w.heap[b]? =some x->(w.putObj l o').heap[b]? =some x:=λb x hx hb=>by
 rw[World.putObj_heap_other (by rintro rfl;rw[hl]at hb;cases hb;exact Jp hx)];exact hb
def vq{base:Nat}{W M:fH}{w0 w:World}{L:Loc}(h:cC base W M w0 ab w L){l:Nat}{o:Obj}(hl:w.heap[l]? =some o)(Jp:¬Obj.plain o)(hb:base<=l):
  cC base W M w0 ab (w.putObj l o') L:=by
 have ji:(w.putObj l o').heap.size=w.heap.size:=by simp[World.putObj]
 have nH:=pu (o':=o') hl Jp;have Dc:KeepsC (WW W ab L) w (w.putObj l o'):=⟨by rw[ji];exact ed _,λb c e fr hb _=>nH b _ trivial hb⟩;have f:=h.fr;refine⟨⟨f.os,f.tape,f.output,f.jO,by rw[ji];exact f.size,λk hk hm=>?_,f.drawn⟩,λr o ho=>?_,h.apart,h.sk,h.under,h.gl.bH Dc λ_ _ h=>h⟩
 ·rw[World.putObj_heap_other (by omega)];exact f.block k hk hm
 ·have gP:=h.ob r o ho;cases o with
  |box cs=>
   obtain⟨c,e,hc,hr,hm⟩:=gP;exact⟨c,e,nH _ _ trivial hc,(pZ Dc (SizeOf.sizeOf cs+1)).2.1 cs _ (by omega) hr,hm⟩
  |map cy agg c es=>
   obtain⟨bE,hc,hr,k1,k2,k3,hm⟩:=gP;refine⟨bE,nH _ _ trivial hc, ?_,k1,k2,k3,hm⟩;have key:∀(es:List (Nat×T×DV)) (xs:List MapEntry),bP w W ab L es xs->bP (w.putObj l o') W ab L es xs:=by
    intro es;induction es with
    |nil=>intro xs h;simpa only[bP]using h
    |cons e es ih=>
     intro xs h;simp only[bP]at h⊢;obtain⟨x,mq,hx,h1,h2,h3,h4⟩:=h;exact⟨x,mq,hx,h1,bm.bH Dc (λ_ _ h=>h) _ _ h2,(pZ Dc (SizeOf.sizeOf e.2.2+1)).1 _ _ (by omega) h3,ih mq h4⟩
   exact key es _ hr
  |cm m s sn lt=>
   obtain⟨hc,OW,hm⟩:=gP;exact⟨nH _ _ trivial hc,OW,hm⟩
  |bE bJ e sz av=>
   obtain⟨g1,g2,g3,g4⟩:=gP;refine⟨g1,g2,g3, ?_⟩;rcases g4 with g4|⟨g,cap,eH,hv,hp,hh,k1,k2,k3,k4⟩
   ·exact .inl g4
   ·exact .inr ⟨g,cap,eH,hv,hp,nH _ _ trivial hh,k1,k2,k3,bl.bH Dc (λ_ _ h=>h) _ _ k4⟩
def ic.Dx{V:fH}{L:Loc}{gw w:World}{l:Nat}{r':Loop}(hg:l<gw.heap.size)(h:ic V go gL (gw.putObj l (.loop r)) ab L w):
  ic V go gL (gw.putObj l (.loop r')) ab L (w.putObj l (.loop r')):=by
 have hl:w.heap[l]? =some (.loop r):=h.dG.ZG _ _ (World.putObj_heap_same hg);have hlw:=(v8.1 hl).1;have s1:(gw.putObj l (.loop r')).heap.size=gw.heap.size:=by simp[World.putObj]
 have s2:(gw.putObj l (.loop r)).heap.size=gw.heap.size:=by simp[World.putObj]
 have s3:(w.putObj l (.loop r')).heap.size=w.heap.size:=by simp[World.putObj]
 have g1:(gw.putObj l (.loop r')).heap[l]? =some (.loop r'):=World.putObj_heap_same hg;have g3:(w.putObj l (.loop r')).heap[l]? =some (.loop r'):=World.putObj_heap_same hlw;have o1:∀b,b≠l->(gw.putObj l (.loop r')).heap[b]? =(gw.putObj l (.loop r)).heap[b]? :=λb hb=>(World.putObj_heap_other hb).trans (World.putObj_heap_other hb).symm;have o3:∀b,b≠l->(w.putObj l (.loop r')).heap[b]? =w.heap[b]? :=λb hb=>World.putObj_heap_other hb;have hk:=h.dG.size;refine⟨⟨⟨by rw[s1,s3];rw[s2]at hk;exact hk,λb c e fr hb hn=>?_⟩,λb hb=>?_,λb rr hb=>?_⟩,λb hb hw=>?_,h.fix,h.bE,h.yl⟩
 ·have b7:b≠l:=by rintro rfl;rw[g1]at hb;cases hb
  rw[o1 b b7]at hb;rw[o3 b b7];exact h.dG.jX b c e fr hb hn
 ·have b7:b≠l:=by rintro rfl;rw[g1]at hb;cases hb
  rw[o1 b b7]at hb;rw[o3 b b7];exact h.dG.Za b hb
 ·by_cases b7:b=l
  ·subst b7;rw[g1]at hb;rw[g3];exact hb
  ·rw[o1 b b7]at hb;rw[o3 b b7];exact h.dG.ZG b rr hb
 ·rw[s1]at hb;exact h.sub b (by rw[s2];exact hb) hw
def Sp{n:Nat}(aC:ay P Γ)(xi:κ.Good P){o:Oper}{r:RO}(hc:dI P o=some (Cu r.d))(lc:r.dst=o.dst){st:RS}{a:Act}{w:World}{L:Loc}(h:eW κ nt st a w L)(hd:∀d,r.dst=some d->d<nt)
  (ff:st.ab (bV aK r.dst)=none) (aN:(post Γ aK r st).ok) {K:Act->World->Prop} {Q:Exit->Act->World->Prop}
  (hK:∀a' w' L',eW κ nt ⟨c5 st.tmps r.dst (post Γ aK r st).val,(post Γ aK r st).ab,(post Γ aK r st).todo⟩ a' w' L'->K a' w'):
  o.wpIn (iZ ro) n P a w K Q:=by
 have hR:=h;obtain⟨⟨W,base,M,w0,dK,h0⟩,Hx,hdf,hbg,mh⟩:=h;refine⟨nF o w _, ?_⟩;have zi:∀c,o.op≠ .defer c:=oV hc;rw[show(iZ ro).round=ro from rfl,Oper.semAt_eq ro _ o zi];by_cases h4:sW r.d=true
 ·unfold post at aN hK;rw[cF h4]at aN hK;cases Z3:r.d<;>rw[Z3]at h4<;>first|(simp[sW]at h4;done)|skip
  case callS f args=>
   rw[Z3]at hc aN hK;obtain⟨c,ho,cU⟩:=fO hc (.inl ⟨f,args,rfl⟩);obtain⟨fn,jV,tz,b7,Cw,qG⟩:=lT cU;have ce:=kp (P:=P) (w:=w) (a:=a) (g:=f) (ch:= #[]) ho (λx hx=>by rw[jV]at hx;cases hx;rfl) ⟨_,jV⟩ ⟨fn,tz,b7,Cw⟩;rw[ZbV]at ce;rw[ce,Oper.uponIn_enter];refine⟨λhx=>(by cases hx),fe ?_⟩;simp only[pn]at aN hK;cases hg:Γ f with
   |none=>simp[hg]at aN
   |some s=>
    simp only[hg]at aN hK;cases hk:s.st with
    |none=>simp[hk]at aN
    |some k=>
     simp only[hk]at aN hK;obtain⟨aV,mE⟩:=(aC f s hg).st k hk _ _ aN;obtain⟨N,hN⟩:=mh;have aV:=aV N hN;refine(aV.run base W M w0 w L (c.args.map a.eval) h0.o (by simpa using gH h0.o.gl h0.tmps qG)).mono ?_;rintro e w' ⟨v,L',rfl,hO,hA,hv⟩;have:=hK _ _ _ (eW.put hR dK h0 r.dst hd hO hA hv ⟨N,λr hr=>mE r (hN r hr)⟩);rw[<-lc];exact this
  case callv x args=>
   rw[Z3]at hc aN hK;obtain⟨c,ho,cU⟩:=fO hc (.inr (.inr (.inl ⟨_,_,rfl⟩)));obtain⟨t,jV,rfl,qG⟩:=Jz cU;have ht:=h0.tmps t;simp only[pn,show bW.ev st.tmps (.tmp t)=st.tmps t from rfl]at aN hK;cases hv:st.tmps t with
   |v tv=>
    rw[hv]at ht aN hK;cases tv with
    |fn fv ch=>
     cases fv with
     |func g=>
      simp only at aN hK;simp only[aA,bm]at ht;obtain⟨vs,hx,H1⟩:=ht;cases hg:Γ g with
      |none=>simp[hg]at aN
      |some s=>
       simp only[hg]at aN hK;cases hk:s.st with
       |none=>
        simp only[hk]at aN hK;unfold qN at aN hK;simp only[hg]at aN hK;obtain⟨pY,uG⟩:=aN;have ce:=kp (P:=P) (w:=w) (a:=a) (g:=g) (ch:=vs) ho (λx m0=>by rw[jV]at m0;cases m0;exact hx) ⟨_,jV⟩ ((aC g s hg).pure _ uG).1.entry;rw[ce,Oper.uponIn_enter];refine⟨λhx=>(by cases hx),fe ?_⟩;have Dd:j7 w W st.ab L (args.map (·.ev st.tmps)++ch.map .v) (c.args.map a.eval++vs).toList:=by
         simpa using j7.append (gH h0.o.gl h0.tmps qG) (EN H1)
        refine(H0 aC h0.o hg pY uG Dd).mono ?_;rintro e w' ⟨v,rfl,hO,hA,ux⟩;have:=hK _ _ _ (eW.put hR dK h0 r.dst hd hO hA ux mh);rw[<-lc];exact this
       |some k=>
        simp only[hk]at aN hK;obtain⟨aV,mE⟩:=(aC g s hg).st k hk _ _ aN;obtain⟨N,hN⟩:=mh;have aV:=aV N hN;have ce:=kp (P:=P) (w:=w) (a:=a) (g:=g) (ch:=vs) ho (λx m0=>by rw[jV]at m0;cases m0;exact hx) ⟨_,jV⟩ aV.entry;rw[ce,Oper.uponIn_enter];refine⟨λhx=>(by cases hx),fe ?_⟩;have Dd:j7 w W st.ab L (args.map (·.ev st.tmps)++ch.map .v) (c.args.map a.eval++vs).toList:=by
         simpa using j7.append (gH h0.o.gl h0.tmps qG) (EN H1)
        refine(aV.run base W M w0 w L _ h0.o Dd).mono ?_;rintro e w' ⟨v,L',rfl,hO,hA,ux⟩;have:=hK _ _ _ (eW.put hR dK h0 r.dst hd hO hA ux ⟨N,λr hr=>mE r (hN r hr)⟩);rw[<-lc];exact this
     |_=>simp at aN
    |pO rv=>
     simp only at aN hK;cases Zh:(dM.k:Option (Nat×(bF->bq->fV)))with
     |none=>simp[Zh]at aN
     |some p=>
      obtain⟨l,k⟩:=p;simp only[Zh]at aN hK;obtain⟨hrv,htd,qH,hkb⟩:=aN;subst hrv;simp only[aA,bm]at ht;cases hJ:κ.J with
      |some J=>
       have:=(xi.y J hJ).2.1;rw[Zh]at this;cases this
      |none=>
       have EO:=dK;unfold pX.At at EO;simp only[hJ]at EO;obtain⟨ht0,rfl,rfl,rfl,rfl⟩:=EO;cases hY:κ.Y with
       |none=>exact eB (ht0 hY) htd
       |some p=>
        obtain⟨l',r1,s1⟩:=p;obtain⟨hb,hg,k',uW,atF⟩:=xi.ys l' r1 s1 hY;rw[Zh]at uW;cases uW;have hgw:κ.O0 st.todo=κ.gw.putObj l (.loop r1):=by
         cases atG:st.todo with
         |nil=>exact eB atG htd
         |cons _ _=>simp only[pX.O0,hY]
        rw[hgw]at Hx;have aoZ:=(v8.1 hg).1;have hlw:w.heap[l]? =some (.loop r1):=Hx.dG.ZG _ _ (World.putObj_heap_same aoZ);have Dd:j7 w κ.W st.ab L (args.map (·.ev st.tmps)) (c.args.map a.eval).toList:=by
         simpa using gH h0.o.gl h0.tmps qG
        obtain⟨fn,tmps,assign,body,Md,JA⟩:=atF.round w L st.ab _ (c.args.map a.eval) qH hkb mh hlw (by rw[World.vo hg]at Hx;exact Hx) h0.o Dd;have ce:(execOp a.eval o).run P w=.ok (.round l fn tmps assign body) w:=by
         have:a.eval (.tmp t)=.func (.yield l) #[] #[]:=ht;simp[execOp,ho,resolve,jV,this,Deferred.ofValue,invoke,Md]
        rw[ce,Oper.uponIn_round];refine⟨λhx=>(by cases hx),xd ?_⟩;refine JA.mono ?_;rintro e B ⟨rfl,L',hO',hA'⟩;obtain⟨r2,yY⟩:=be ((if yGo (k (args.map (·.ev st.tmps)) st.ab).val=true then r1 else s1));rw[yY]at hA';have ZK:¬Obj.plain (.loop r1):=λe=>e;have Dc:KeepsC (WW κ.W st.ab L) w (w.putObj l (.loop r2)):=⟨by simp[World.putObj],λb c e fr hb _=>pu hlw ZK b _ trivial hb⟩;have h1:R0 κ.base κ.W κ.M κ.w0 nt st.tmps st.ab a (w.putObj l (.loop r2)) L:=⟨h0.size,λt=>(pZ Dc (SizeOf.sizeOf (st.tmps t)+1)).1 (st.tmps t) _ (Zcr _) (h0.tmps t),vq h0.o hlw ZK hb⟩;obtain⟨Ds,hDs,hDn,hDk,hDJ⟩:=hdf;obtain⟨N,hN⟩:=mh;obtain⟨go,Z4⟩:=be (yGo (k (args.map (·.ev st.tmps)) st.ab).val);have dd:(k (args.map (·.ev st.tmps)) st.ab).val=.v (.bool go):=by
         rw[<-Z4];revert hkb;cases(k (args.map (·.ev st.tmps)) st.ab).val with
         |v x=>cases x<;>simp[yIs,yGo]
         |_=>simp[yIs]
        rw[Z4]at yY;simp only[dd,ZI]at hK;have hR:eW κ nt ⟨c5 st.tmps r.dst (.v (.bool go)),(k (args.map (·.ev st.tmps)) st.ab).ab,if go=true then st.todo else []⟩ (a.put r.dst (.bool go)) B L':=by
         refine⟨⟨κ.W,κ.base,κ.M,κ.w0, ?_,h1.put r.dst hd hO' hA' (by simp[aA,bm])⟩, ?_,⟨Ds,by rw[xO];exact hDs,hDn,λD hD=>⟨hA'.dG.Za D ?_,(hDk D hD).2⟩,hDJ⟩,hbg,⟨N,λx hx=>dM.aP _ _ Zh _ _ qH x (hN x hx)⟩⟩
         ·unfold pX.At;simp only[hJ];exact⟨(λh=>by rw[hY]at h;cases h),trivial,trivial,trivial,trivial⟩
         ·have Sq:κ.O0 (if go=true then st.todo else [])=κ.gw.putObj l (.loop r2):=by
           rw[<-yY];cases go
           ·simp[pX.O0,hY]
           ·rw[cF rfl,hgw];simp
          rw[Sq];exact(ic.Dx aoZ Hx).comp hA' (λ_ h=>.inl h) (λ_ h=>h)
         ·rw[World.putObj_heap_other (by rintro rfl;rw[(hDk _ hD).1]at hlw;cases hlw)];exact(hDk D hD).1
        have:=hK _ _ _ hR;rw[<-lc,Z4];exact this
    |_=>simp at aN
   |Po=>
    rw[hv]at ht aN hK;simp only[aA]at ht;cases htd:st.todo with
    |nil=>simp[htd]at aN
    |cons y rest=>
     simp only[htd]at aN hK;obtain⟨Zh,pY,atH,Z5⟩:=aN;rw[htd]at dK;unfold pX.At at dK;cases hJ:κ.J with
     |none=>
      simp only[hJ]at dK;have hY:κ.Y=none:=by
       cases hY:κ.Y with
       |none=>rfl
       |some p=>obtain⟨_,_,k,hk,_⟩:=xi.ys p.1 p.2.1 p.2.2 hY;rw[Zh]at hk;cases hk
      exact eB (dK.1 hY) (by simp)
     |some J=>
      simp only[hJ]at dK;obtain⟨hj,rfl,rfl,Zi,hw2⟩:=dK;have hY:=(xi.y J hJ).2.2;rw[pX.Mc hY]at Hx;have hy:=(xi.y J hJ).1;have hbw:wL w0.heap.size w0 w:=⟨⟨h0.o.fr.os,h0.o.fr.tape,h0.o.fr.output,h0.o.fr.size,λk hk=>h0.o.fr.block k hk (λx=>x)⟩,h0.o.fr.drawn⟩;have hjw:=hy.aoY W (y::rest) w0 w hj hbw;have Dw:∀b,WW W st.ab L b->W b:=by
       rintro b (hb|⟨r',o',h1,_⟩)
       ·exact hb
       ·rw[Z5]at h1;cases h1
      have PA:ga w W y (c.args.map a.eval).toList:=by
       rw[<-atH];have:=nG W (gu:=false) h0.o (λx=>by cases x) (λb hb=>.inl hb) (gH h0.o.gl h0.tmps qG) pY;simpa using this
      obtain⟨fn,tmps,assign,body,Md,JA⟩:=hy.round W y rest (c.args.map a.eval) w hjw PA;have ce:(execOp a.eval o).run P w=.ok (.round L.yl fn tmps assign body) w:=by
       rw[<-Hx.yl]at Md;have:a.eval (.tmp t)=.func (.yield L.yl) #[] #[]:=ht;simp[execOp,ho,resolve,jV,this,Deferred.ofValue,invoke,Md]
      rw[ce,Oper.uponIn_round];refine⟨λhx=>(by cases hx),xd ?_⟩;rw[<-Hx.yl]at JA;refine JA.mono ?_;rintro e B ⟨rfl,W',hj',uW,fI,ao0⟩;have A5:∀b,W b->b<w.heap.size:=λb hb=>by
       have h1:=h0.o.under b hb;have h2:=h0.o.fr.size;omega
      have hA0:ic W st.ab L w st.ab L B:=ic.cZ (uW.mono λb hb=>.inl hb);obtain⟨Ds,hDs,hDn,hDk,hDJ⟩:=hdf;have Z6:C8 W W' st.ab L w st.ab L B:=by
       refine⟨uW.mono λb hb=>.inl hb,λb hb hw=>?_,λr o hr _=>⟨rfl,o,hr,rfl⟩,λr bJ e sz av hr=>⟨bJ,e,sz,av,hr,ed _,λ_=>⟨rfl,rfl,rfl⟩⟩,rfl⟩;rcases hw with hw|⟨r',o',h1,_⟩
       ·rcases(fI b hw).2 with h2|h2
        ·exact .inl h2
        ·omega
       ·rw[Z5]at h1;cases h1
      have move:∀(d:DV) (x:Value),aA w W st.ab L d x->aA B W' st.ab L d x:=aA.fu Z6;have hO':cC B.heap.size W' (λ_=>False) B st.ab B L:=by
       refine⟨Fr.refl (ed _),λr o ho=>?_,λr r' o o' b _ ho=>?_,λr o b ho=>?_,λb hb=>(fI b hb).1,h0.o.gl.bH Z6.dG.toKeepsC Z6.sub⟩;all_goals rw[Z5]at ho;cases ho
      have hR:eW κ nt ⟨c5 st.tmps r.dst (.v (.bool true)),st.ab,rest⟩ (a.put r.dst (.bool true)) B L:=by
       refine⟨⟨W',B.heap.size,λ_=>False,B, ?_, ?_⟩,(by rw[pX.Mc hY];exact Hx.comp hA0 Zi hw2),⟨Ds,by rw[xO];exact hDs,hDn,λD hD=>⟨uW.Za D (hDk D hD).1,(hDk D hD).2⟩,hDJ⟩,hbg,mh⟩
       ·unfold pX.At;simp only[hJ];refine⟨hj',trivial,trivial,λb hb=>?_,λb hb=>ao0 b (hw2 b hb)⟩;rcases(fI b hb).2 with h1|h1
        ·exact Zi b h1
        ·exact .inr (xI Hx.dG.size h1)
       ·have h1:R0 B.heap.size W' (λ_=>False) B nt st.tmps st.ab a B L:=⟨h0.size,λt=>move _ _ (h0.tmps t),hO'⟩;exact h1.put r.dst hd hO' (ic.cZ (dv.refl _ _)) (by simp[aA,bm])
      have:=hK _ _ _ hR;rw[<-lc];exact this
   |oP fv ch=>
    rw[hv]at ht aN hK;cases fv with
    |func g=>
     simp only at aN hK;simp only[aA]at ht;obtain⟨vs,hx,H1⟩:=ht;cases hg:Γ g with
     |none=>simp[hg]at aN
     |some s=>
      simp only[hg]at aN hK;cases hk:s.st with
      |none=>simp[hk]at aN
      |some k=>
       simp only[hk]at aN hK;obtain⟨aV,mE⟩:=(aC g s hg).st k hk _ _ aN;obtain⟨N,hN⟩:=mh;have aV:=aV N hN;have ce:=kp (P:=P) (w:=w) (a:=a) (g:=g) (ch:=vs) ho (λx m0=>by rw[jV]at m0;cases m0;exact hx) ⟨_,jV⟩ aV.entry;rw[ce,Oper.uponIn_enter];refine⟨λhx=>(by cases hx),fe ?_⟩;have Dd:j7 w W st.ab L (args.map (·.ev st.tmps)++ch) (c.args.map a.eval++vs).toList:=by
        simpa using j7.append (gH h0.o.gl h0.tmps qG) (Cv H1)
       refine(aV.run base W M w0 w L _ h0.o Dd).mono ?_;rintro e w' ⟨v,L',rfl,hO,hA,ux⟩;have:=hK _ _ _ (eW.put hR dK h0 r.dst hd hO hA ux ⟨N,λr hr=>mE r (hN r hr)⟩);rw[<-lc];exact this
    |_=>simp at aN
   |_=>rw[hv]at aN;simp at aN
  case entryM x=>
   rw[Z3]at hc aN hK;have Zf:dI P o=some (.entryM x):=hc;obtain⟨y,ho,hy⟩:=Hv Zf;simp only[pn]at aN hK;obtain⟨nx,v,w',L',ce,EP,hO,hA,hv⟩:=JB h0.o ho (bW.bX h0.o.gl h0.tmps hy) aN;have pV:(lR st.ab (x.ev st.tmps)).put=none:=by unfold lR;(repeat' split)<;>rfl
   rw[pV]at hO hA hv;rw[ce];rcases EP with rfl|⟨rfl,rfl⟩
   ·rw[Oper.uponIn_value,<-lc];exact hK _ _ _ (eW.put hR dK h0 r.dst hd hO hA hv mh)
   ·rw[Oper.uponIn_skip,<-lc];exact hK _ _ _ (eW.put hR dK h0 r.dst hd hO hA hv mh)
 ·have h4':sW r.d=false:=by simpa using h4
  have Ze:=hc;have atJ:∀f args,r.d=.callF f args->Cu r.d=.call f args:=λf args h=>by rw[h];rfl
  unfold post at aN hK;rw[aZ h4]at aN hK;simp only at aN hK;by_cases m9:∃f args,r.d=.call f args
  ·obtain⟨f,args,Xo⟩:=m9;rw[Xo]at hc;obtain⟨c,ho,cU⟩:=fO hc (.inl ⟨f,args,rfl⟩);obtain⟨fn,jV,tz,b7,Cw,qG⟩:=lT cU;have ce:=kp (P:=P) (w:=w) (a:=a) (g:=f) (ch:= #[]) ho (λx hx=>by rw[jV]at hx;cases hx;rfl) ⟨_,jV⟩ ⟨fn,tz,b7,Cw⟩;rw[ZbV]at ce;rw[ce,Oper.uponIn_enter];refine⟨λhx=>(by cases hx),fe ?_⟩;simp only[oU,Xo,dw,qN]at aN hK;cases hg:Γ f with
   |none=>simp[hg,da]at aN
   |some s=>
    simp only[hg]at aN hK;obtain⟨pY,uG⟩:=aN;refine(H0 aC h0.o hg pY uG (cI:=c.args.map a.eval) (by simpa using gH h0.o.gl h0.tmps qG)).mono ?_;rintro e w' ⟨v,rfl,hO,hA,ux⟩;have:=hK _ _ _ (eW.put hR dK h0 r.dst hd hO hA ux mh);rw[<-lc];exact this
  ·by_cases PC:∃f args,r.d=.callF f args
   ·obtain⟨f,args,Xo⟩:=PC;have gZ:dI P o=some (.call f args):=by rw[<-atJ f args Xo];exact Ze
    obtain⟨c,ho,cU⟩:=fO gZ (.inl ⟨f,args,rfl⟩);obtain⟨fn,jV,tz,b7,Cw,qG⟩:=lT cU;have ce:=kp (P:=P) (w:=w) (a:=a) (g:=f) (ch:= #[]) ho (λx hx=>by rw[jV]at hx;cases hx;rfl) ⟨_,jV⟩ ⟨fn,tz,b7,Cw⟩;rw[ZbV]at ce;rw[ce,Oper.uponIn_enter];refine⟨λhx=>(by cases hx),fe ?_⟩;simp only[oU,Xo,dw,pS]at aN hK;cases hg:Γ f with
    |none=>simp[hg,da]at aN
    |some s=>
     simp only[hg]at aN hK;cases w6:s.fresh with
     |none=>simp[w6,da]at aN
     |some q=>
      obtain⟨e,sz⟩:=q;simp only[w6]at aN hK;cases hrw:s.fn (jF st.ab (args.map (·.ev st.tmps)))<;>simp only[hrw,da]at aN hK<;>try exact aN.elim
      rename_i av;obtain⟨pY,uG⟩:=aN;obtain⟨fc,h1,h2,h3⟩:=(aC f s hg).fresh e sz w6 _ uG;rw[hrw]at h1;cases h1;refine(PB h0.o pY h2 h3 (cI:=c.args.map a.eval) (by simpa using gH h0.o.gl h0.tmps qG) ff).mono ?_;rintro e' w' ⟨v,L',rfl,hO,hA,ux⟩;have EQ:∃N,∀r',N<=r'->(cN st.ab (some (bV aK r.dst,.bE 0 e sz av))) r'=none:=by
       obtain⟨N,hN⟩:=mh;refine⟨max N (bV aK r.dst+1),λr' gS=>?_⟩;simp only[cN];rw[aZ (by omega)];exact hN r' (by omega)
      have:=hK _ _ _ (eW.put hR dK h0 r.dst hd hO hA ux EQ);rw[<-lc];exact this
   by_cases PD:∃f args,r.d=.callR f args
   ·obtain⟨f,args,Xo⟩:=PD;have gZ:dI P o=some (.call f args):=by rw[show(sV.call f args)=Cu r.d by rw[Xo];rfl];exact Ze
    obtain⟨c,ho,cU⟩:=fO gZ (.inl ⟨f,args,rfl⟩);obtain⟨fn,jV,tz,b7,Cw,qG⟩:=lT cU;have ce:=kp (P:=P) (w:=w) (a:=a) (g:=f) (ch:= #[]) ho (λx hx=>by rw[jV]at hx;cases hx;rfl) ⟨_,jV⟩ ⟨fn,tz,b7,Cw⟩;rw[ZbV]at ce;rw[ce,Oper.uponIn_enter];refine⟨λhx=>(by cases hx),fe ?_⟩;simp only[oU,Xo,dw,pR]at aN hK;cases hg:Γ f with
    |none=>simp[hg,da]at aN
    |some s=>
     simp only[hg]at aN hK;cases hk:s.st with
     |none=>simp[hk,da]at aN
     |some k=>
      simp only[hk]at aN hK;obtain⟨JC,Z5,dd⟩:=aN st.ab (λ_ _=>rfl);obtain⟨aV,mE⟩:=(aC f s hg).st k hk _ _ JC;obtain⟨N,hN⟩:=mh;have aV:=aV N hN;refine(aV.run base W M w0 w L (c.args.map a.eval) h0.o (by simpa using gH h0.o.gl h0.tmps qG)).mono ?_;rintro e w' ⟨v,L',rfl,hO,hA,hv⟩;rw[Z5]at hO hA hv;rw[dd]at hv;have:=hK _ _ _ (eW.put hR dK h0 r.dst hd hO hA hv ⟨N,hN⟩);rw[<-lc];exact this
   by_cases alG:∃e sz Px zero n,r.d=.mkSliceB e sz Px zero n
   ·obtain⟨e,sz,Px,zero,n,Xo⟩:=alG;have gZ:dI P o=some (.mkSlice e sz Px zero n):=by rw[show(sV.mkSlice e sz Px zero n)=Cu r.d by rw[Xo];rfl];exact Ze
    simp only[oU,Xo,dw]at aN hK;obtain⟨nx,v,w',L',ce,EP,hO,hA,hv⟩:=Xn h0.o gZ h0.tmps ff aN;have EQ:∃N,∀r',N<=r'->(cN st.ab (gF sz Px zero (bV aK r.dst) (n.ev st.tmps)).put) r'=none:=by
     obtain⟨N,hN⟩:=mh;cases hp:(gF sz Px zero (bV aK r.dst) (n.ev st.tmps)).put with
     |none=>exact⟨N,hN⟩
     |some q=>
      obtain⟨t,o'⟩:=q;refine⟨max N (t+1),λr' gS=>?_⟩;simp only[cN];rw[aZ (by omega)];exact hN r' (by omega)
    rw[ce];rcases EP with rfl|⟨rfl,rfl⟩
    ·rw[Oper.uponIn_value,<-lc];exact hK _ _ _ (eW.put hR dK h0 r.dst hd hO hA hv EQ)
    ·rw[Oper.uponIn_skip,<-lc];exact hK _ _ _ (eW.put hR dK h0 r.dst hd hO hA hv EQ)
   have Me:Cu r.d=r.d:=by
    cases Z3:r.d<;>rw[Z3]at h4' PC PD alG<;>first|rfl|(simp[sW]at h4';done)|exact eB ⟨_,_,rfl⟩ PC|exact eB ⟨_,_,rfl⟩ PD|exact eB ⟨_,_,_,_,_,rfl⟩ alG
   rw[Me]at hc;have EQ:∃N,∀r',N<=r'->(cN st.ab (oU Γ aK r st).put) r'=none:=by
    obtain⟨N,hN⟩:=mh;cases hp:(oU Γ aK r st).put with
    |none=>exact⟨N,hN⟩
    |some q=>
     obtain⟨t,o'⟩:=q;refine⟨max N (t+1),λr' gS=>?_⟩;simp only[cN];rw[aZ (by omega)];exact hN r' (by omega)
   obtain⟨nx,v,w',L',ce,EP,hO,hA,hv⟩:=ZZ (Γ:=Γ) (name:=bV aK r.dst) hc (λf args e=>m9 ⟨f,args,e⟩) h0.tmps h0.o ff aN;rw[ce];rcases EP with rfl|⟨rfl,rfl⟩
   ·rw[Oper.uponIn_value,<-lc];exact hK _ _ _ (eW.put hR dK h0 r.dst hd hO hA hv EQ)
   ·rw[Oper.uponIn_skip,<-lc];exact hK _ _ _ (eW.put hR dK h0 r.dst hd hO hA hv EQ)
end
end
section
variable{xs:List bW}{r:Nat}
variable [bM]
def oR:sV->Nat
 |.alloc _|.box _|.mkSlice .. |.mkSliceB .. |.mkMap .. =>2
 |.store .. |.append .. |.mapUpd .. |.mapEnt .. |.entSt .. |.mapDel .. |.copy .. |.rangeM _|.callF .. =>3
 |.load .. |.eqT .. |.idxAddr .. |.len _|.call .. |.callR .. |.slice .. |.lookup .. |.lenM _|.isNil .. =>1
 |.callS .. |.callv .. |.entryM _=>4
 |_=>0
section
variable{Γ:pk}{d:sV}{name:Nat}{ρ Z7:dj}{ab aJ:bq}
def kq(h:∀x∈xs,x.ev ρ=x.ev Z7):xs.map (·.ev ρ)=xs.map (·.ev Z7):=Zbz h
def A6(h:∀x∈bN d,x.ev ρ=x.ev Z7):dw Γ d name ρ ab=dw Γ d name Z7 ab:=by
 cases d;case build z ps=>
  have:ps.map (λp=>(p.1,p.2.1,p.2.2.ev ρ))=ps.map (λp=>(p.1,p.2.1,p.2.2.ev Z7)):=Zbz λp hp=>by rw[h p.2.2 (g9.2 ⟨p,hp,rfl⟩)]
  simp only[dw,this]
 case bslice n sz z ps=>
  have:ps.map (λp=>(p.1,p.2.1,p.2.2.ev ρ))=ps.map (λp=>(p.1,p.2.1,p.2.2.ev Z7)):=Zbz λp hp=>by rw[h p.2.2 (g9.2 ⟨p,hp,rfl⟩)]
  simp only[dw,this]
 case slice sz x lo hi=>
  have h1:=h x (by simp[bN]);have h2:lo.map (·.ev ρ)=lo.map (·.ev Z7):=by cases lo<;>simp;exact h _ (by simp[bN])
  have h3:hi.map (·.ev ρ)=hi.map (·.ev Z7):=by cases hi<;>simp;exact h _ (by simp[bN])
  simp only[dw,h1,h2,h3]
 case call f xs=>simp only[dw,kq (xs:=xs) h]
 case callF f xs=>simp only[dw,kq (xs:=xs) h]
 case callR f xs=>simp only[dw,kq (xs:=xs) h]
 case callS f xs=>rfl
 case callv x xs=>rfl
 case mkFn f xs=>simp only[dw,kq (xs:=xs) h]
 all_goals (simp only[bN,fN,lq,ld,forall_eq_or_imp,Mf]at h;simp only[dw,h])
def ER(h:oR d=0\/oR d=2):dw Γ d name ρ ab=dw Γ d name ρ aJ:=by
 cases d<;>first|rfl|(simp[oR]at h;done)
mutual
def fD(ab:bq):DV->Prop
 |.ptr r _|.bC r _|.kO r _ _ _|.je r|.cm r|.wa r _ _ _|.Hq r _=>ab r≠none
 |.agg cs|.ew cs|.oP _ cs=>gv ab cs
 |_=>True
def gv(ab:bq):bF->Prop
 |[]=>True
 |d::ds=>fD ab d/\gv ab ds
end
mutual
def fD.bX{w:World}{W:fH}{L:Loc}:∀(d:DV) (x:Value),aA w W ab L d x->fD ab d
 |.ptr r off,x,h=>by simp only[aA]at h;obtain⟨⟨cs,hc⟩,_⟩:=h;simp[fD,hc]
 |.Hq r n,x,h=>by simp only[aA]at h;obtain⟨⟨cs,hc⟩,_⟩:=h;simp[fD,hc]
 |.bC r bJ,x,h=>by simp only[aA]at h;obtain⟨_,v,e,s,av,hc,_⟩:=h;simp[fD,hc]
 |.kO r bJ i off,x,h=>by simp only[aA]at h;obtain⟨_,v,e,s,av,hc,_⟩:=h;simp[fD,hc]
 |.je r,x,h=>by simp only[aA]at h;obtain⟨⟨_,_,_,_,hc⟩,_⟩:=h;simp[fD,hc]
 |.cm r,x,h=>by simp only[aA]at h;obtain⟨⟨_,_,_,_,hc⟩,_⟩:=h;simp[fD,hc]
 |.wa r bJ lo n,x,h=>by simp only[aA]at h;obtain⟨_,v,e,s,av,hc,_⟩:=h;simp[fD,hc]
 |.ew cs,x,h=>by simp only[aA]at h;obtain⟨vs,_,hr⟩:=h;simp only[fD];exact gv.Sr cs _ hr
 |.oP f cs,x,h=>by simp only[aA]at h;obtain⟨vs,_,hr⟩:=h;simp only[fD];exact gv.bX cs _ hr
 |.agg cs,x,h=>by simp only[aA]at h;obtain⟨vs,_,hr⟩:=h;simp only[fD];exact gv.bX cs _ hr
 |.undef,_,_|.skip,_,_|.v _,_,_|.aX,_,_|.mV _ _ _,_,_|.jd _ _,_,_|.Po,_,_=>by simp[fD]
def gv.bX{w:World}{W:fH}{L:Loc}:∀(ds:bF) (xs:List Value),aR w W ab L ds xs->gv ab ds
 |[],_,_=>by simp[gv]
 |d::ds,xs,h=>by
  simp only[aR]at h;obtain⟨x,mq,_,_,h1,h2⟩:=h;simp only[gv];exact⟨fD.bX d x h1,gv.bX ds mq h2⟩
def gv.Sr{w:World}{W:fH}{L:Loc}:∀(ds:bF) (xs:List Value),eP w W ab L ds xs->gv ab ds
 |[],_,_=>by simp[gv]
 |d::ds,xs,h=>by
  simp only[eP]at h;obtain⟨x,mq,_,h1,h2⟩:=h;simp only[gv];exact⟨fD.bX d x h1,gv.Sr ds mq h2⟩
end
mutual
def fD.aP:∀(d:DV),fD ab d->∀n∈aP d,ab n≠none
 |.ptr r off,h,n,hn=>by simp only[DM.aP,oO]at hn;subst hn;simpa only[fD]using h
 |.Hq r m,h,n,hn=>by simp only[DM.aP,oO]at hn;subst hn;simpa only[fD]using h
 |.bC r bJ,h,n,hn=>by simp only[DM.aP,oO]at hn;subst hn;simpa only[fD]using h
 |.kO r bJ i off,h,n,hn=>by simp only[DM.aP,oO]at hn;subst hn;simpa only[fD]using h
 |.je r,h,n,hn=>by simp only[DM.aP,oO]at hn;subst hn;simpa only[fD]using h
 |.cm r,h,n,hn=>by simp only[DM.aP,oO]at hn;subst hn;simpa only[fD]using h
 |.wa r _ _ _,h,n,hn=>by simp only[DM.aP,oO]at hn;subst hn;simpa only[fD]using h
 |.ew cs,h,n,hn=>by simp only[DM.aP]at hn;simp only[fD]at h;exact gv.aP cs h n hn
 |.oP f cs,h,n,hn=>by simp only[DM.aP]at hn;simp only[fD]at h;exact gv.aP cs h n hn
 |.agg cs,h,n,hn=>by simp only[DM.aP]at hn;simp only[fD]at h;exact gv.aP cs h n hn
 |.Po,_,n,hn|.undef,_,n,hn|.skip,_,n,hn|.v _,_,n,hn|.aX,_,n,hn|.mV _ _ _,_,n,hn|.jd _ _,_,n,hn=>by simp[DM.aP]at hn
def gv.aP:∀(ds:bF),gv ab ds->∀n∈bQ ds,ab n≠none
 |[],_,n,hn=>by simp[bQ]at hn
 |d::ds,h,n,hn=>by
  simp only[gv]at h;simp only[bQ,oi]at hn;rcases hn with hn|hn
  ·exact fD.aP d h.1 n hn
  ·exact gv.aP ds h.2 n hn
end
def Ext(ab aJ:bq):Prop:=∀r,ab r≠none->aJ r=ab r
mutual
def JD:∀(d:DV),(∀n∈aP d,aJ n=ab n)->uD aJ d=uD ab d
 |.bC r bJ,hr=>by simp only[uD,hr r (by simp[aP])]
 |.agg cs,hr=>by simp only[uD,sv cs (λn hn=>hr n (by simpa only[aP]using hn))]
 |.oP f cs,hr=>by simp only[uD,sv cs (λn hn=>hr n (by simpa only[aP]using hn))]
 |.wa r bJ lo n,hr=>by simp only[uD,hr r (by simp[aP])]
 |.undef,_|.skip,_|.v _,_|.aX,_|.ptr _ _,_|.mV _ _ _,_|.jd _ _,_|.kO _ _ _ _,_|.Po,_|.je _,_|.cm _,_|.ew _,_|.Hq _ _,_=>by simp[uD]
def sv:∀(ds:bF),(∀n∈bQ ds,aJ n=ab n)->jF aJ ds=jF ab ds
 |[],_=>rfl
 |d::ds,hr=>by simp only[jF,JD d (λn hn=>hr n (by simp[bQ,hn])),sv ds (λn hn=>hr n (by simp[bQ,hn]))]
end
mutual
def JE(l:Bool):∀(d:DV),(∀n∈aP d,aJ n=ab n)->Hl l aJ d=Hl l ab d
 |.bC r bJ,hr=>by simp only[Hl,hr r (by simp[aP])]
 |.agg cs,hr=>by simp only[Hl,vr l cs (λn hn=>hr n (by simpa only[aP]using hn))]
 |.oP f cs,hr=>by simp only[Hl,vr l cs (λn hn=>hr n (by simpa only[aP]using hn))]
 |.wa r bJ lo n,hr=>by simp only[Hl,hr r (by simp[aP])]
 |.undef,_|.skip,_|.v _,_|.aX,_|.ptr _ _,_|.mV _ _ _,_|.jd _ _,_|.kO _ _ _ _,_|.Po,_|.je _,_|.cm _,_|.ew _,_|.Hq _ _,_=>by simp[Hl]
def vr(l:Bool):∀(ds:bF),(∀n∈bQ ds,aJ n=ab n)->uE l aJ ds=uE l ab ds
 |[],_=>rfl
 |d::ds,hr=>by simp only[uE,JE l d (λn hn=>hr n (by simp[bQ,hn])),vr l ds (λn hn=>hr n (by simp[bQ,hn]))]
end
def p0{n:Nat}:n∈bQ (xs.map (·.ev ρ))->∃x∈xs,n∈aP (x.ev ρ):=by
 induction xs with
 |nil=>simp[bQ]
 |cons x xs ih=>
  simp only[qD,bQ,oi];rintro(h|h)
  ·exact⟨x,by simp,h⟩
  ·obtain⟨y,hy,hn⟩:=ih h;exact⟨y,by simp[hy],hn⟩
def Mg(d:DV):∀n∈bQ (cellsOf d),n∈aP d:=by
 have hv:∀cs:aL,bQ (cs.map .v)=[]:=by
  intro cs;induction cs with
  |nil=>rfl
  |cons c cs ih=>simp only[qD,bQ,aP,ih,vZ]
 intro n hn;cases d with
 |v t=>cases t<;>simp[cellsOf,bQ,aP,hv]at hn
 |agg cs=>simpa [cellsOf,aP]using hn
 |_=>simpa [cellsOf,bQ]using hn
def Cx{d:DV}(hy:∀n∈aP d,aJ n=ab n):fY aJ d=fY ab d:=by
 cases d<;>simp only[aP,oO,Mf]at hy<;>first|rfl|(simp only[fY,hy];done)|skip
 rename_i t;cases t<;>first|rfl|skip
 rename_i v;cases v<;>first|rfl|skip
 rename_i p n c;cases n<;>rfl
def A7(hr:∀x∈bN d,∀n∈aP (x.ev ρ),aJ n=ab n):dw Γ d name ρ aJ=dw Γ d name ρ ab:=by
 by_cases h0:oR d=0\/oR d=2
 ·exact ER h0
 cases d<;>first|exact eB (Or.inl rfl) h0|exact eB (Or.inr rfl) h0|rfl|skip
 case load n agg x=>
  have hx:=hr x (by simp[bN]);simp only[dw];cases hv:x.ev ρ<;>rw[hv]at hx<;>simp only[aP,oO,Mf]at hx<;>first|rfl|(simp only[jg,hx];done)|(rename_i t;cases t<;>rfl)
 case store n x y=>
  have hx:=hr x (by simp[bN]);have hy:=hr y (by simp[bN]);have hyc:jF aJ (cellsOf (y.ev ρ))=jF ab (cellsOf (y.ev ρ)):=sv _ λn hn=>hy n (Mg _ n hn);simp only[dw];cases hv:x.ev ρ<;>rw[hv]at hx<;>simp only[aP,oO,Mf]at hx<;>first|rfl|(simp only[my,hx,hyc];done)|(rename_i t;cases t<;>rfl)
 case eqT neg agg cy x y=>
  have hx:=hr x (by simp[bN]);have hy:=hr y (by simp[bN]);simp only[dw,JE true _ hx,JE true _ hy,JD _ hx,JD _ hy]
 case idxAddr sz x i=>
  have hx:=hr x (by simp[bN]);simp only[dw];cases hv:x.ev ρ<;>rw[hv]at hx<;>simp only[aP,oO,Mf]at hx<;>first|rfl|skip
  ·rename_i t;cases t<;>first|rfl|(cases i.ev ρ<;>first|rfl|(rename_i t;cases t<;>rfl))
  ·cases i.ev ρ<;>first|rfl|skip
   rename_i t;cases t<;>first|rfl|(simp only[tg,hx])
  ·cases i.ev ρ<;>first|rfl|skip
   rename_i t;cases t<;>first|rfl|(simp only[tg,hx])
  ·cases i.ev ρ<;>first|rfl|skip
   rename_i t;cases t<;>rfl
 case len x=>
  have hx:=hr x (by simp[bN]);simp only[dw];cases hv:x.ev ρ<;>rw[hv]at hx<;>simp only[aP,oO,Mf]at hx<;>first|rfl|(simp only[xG,hx];done)|(rename_i t;cases t<;>rfl)
 case call f xs=>
  have hx:∀n∈bQ (xs.map (·.ev ρ)),aJ n=ab n:=λn hn=>by obtain⟨x,hx,hn⟩:=p0 hn;exact hr x hx n hn
  simp only[dw,qN,vr _ _ hx,sv _ hx]
 case callF f xs=>
  have hx:∀n∈bQ (xs.map (·.ev ρ)),aJ n=ab n:=λn hn=>by obtain⟨x,hx,hn⟩:=p0 hn;exact hr x hx n hn
  simp only[dw,pS,vr _ _ hx,sv _ hx]
 case callR f xs=>
  have hx:∀n∈bQ (xs.map (·.ev ρ)),aJ n=ab n:=λn hn=>by obtain⟨x,hx,hn⟩:=p0 hn;exact hr x hx n hn
  simp only[dw,Je hx]
 case append e sz bytes x y=>
  have hx:=hr x (by simp[bN]);have hy:=hr y (by simp[bN]);have hs:fY aJ (y.ev ρ)=fY ab (y.ev ρ):=Cx hy;simp only[dw,iL,hs];cases fY ab (y.ev ρ)with
  |none=>rfl
  |some ys=>
   cases hv:x.ev ρ<;>rw[hv]at hx<;>simp only[aP,oO,Mf]at hx<;>first|rfl|(simp only[hx];done)|(rename_i t;cases t<;>rfl)|skip
   rename_i r bJ lo n;cases lo<;>simp only[hx]
 case slice sz x lo hi=>
  have hx:=hr x (by simp[bN]);simp only[dw];cases hv:x.ev ρ<;>rw[hv]at hx<;>simp only[aP,oO,Mf]at hx<;>first|rfl|(simp only[jZ,hx];done)|(rename_i t;cases t<;>rfl)
 case lookup cy agg z ok x k=>
  have hx:=hr x (by simp[bN]);simp only[dw];cases hv:x.ev ρ<;>rw[hv]at hx<;>simp only[aP,oO,Mf]at hx<;>first|rfl|(rename_i t;cases t<;>rfl)|(cases hkk:AV (k.ev ρ)<;>simp only[nz,hx,hkk])
 case mapUpd cy agg x k y=>
  have hx:=hr x (by simp[bN]);simp only[dw];cases hv:x.ev ρ<;>rw[hv]at hx<;>simp only[aP,oO,Mf]at hx<;>first|rfl|(rename_i t;cases t<;>rfl)|(cases hkk:AV (k.ev ρ)<;>simp only[jA,hx,hkk])
 case mapEnt cy agg z x k=>
  have hx:=hr x (by simp[bN]);simp only[dw];cases hv:x.ev ρ<;>rw[hv]at hx<;>simp only[aP,oO,Mf]at hx<;>first|rfl|(rename_i t;cases t<;>rfl)|(cases hkk:AV (k.ev ρ)<;>simp only[jB,hx,hkk])
 case entSt x s y=>
  have hx:=hr x (by simp[bN]);simp only[dw];cases hv:x.ev ρ<;>rw[hv]at hx<;>simp only[aP,oO,Mf]at hx<;>first|rfl|(rename_i t;cases t<;>rfl)|(unfold la;split<;>first|rfl|(rename_i e _;cases e;simp only[hx]))
 case mapDel cy agg x k=>
  have hx:=hr x (by simp[bN]);simp only[dw];cases hv:x.ev ρ<;>rw[hv]at hx<;>simp only[aP,oO,Mf]at hx<;>first|rfl|(rename_i t;cases t<;>rfl)|(cases hkk:AV (k.ev ρ)<;>simp only[jC,hx,hkk])
 case lenM x=>
  have hx:=hr x (by simp[bN]);simp only[dw];cases hv:x.ev ρ<;>rw[hv]at hx<;>simp only[aP,oO,Mf]at hx<;>first|rfl|(simp only[tj,hx];done)|(rename_i t;cases t<;>rfl)
 case rangeM x=>
  have hx:=hr x (by simp[bN]);simp only[dw];cases hv:x.ev ρ<;>rw[hv]at hx<;>simp only[aP,oO,Mf]at hx<;>first|rfl|(simp only[lQ,hx];done)|(rename_i t;cases t<;>rfl)
 case isNil kind neg x=>
  have hx:=hr x (by simp[bN]);simp only[dw];cases hv:x.ev ρ<;>rw[hv]at hx<;>simp only[aP,oO,Mf]at hx<;>first|rfl|(simp only[gG,hx];done)|(unfold gG;split<;>first|rfl|(rename_i e;cases e))
 case copy sz x y=>
  have hx:=hr x (by simp[bN]);have hy:=hr y (by simp[bN]);simp only[dw,ko,Cx hy];cases fY ab (y.ev ρ)with
  |none=>rfl
  |some ys=>
   cases hv:x.ev ρ<;>rw[hv]at hx<;>simp only[aP,oO,Mf]at hx<;>first|rfl|(simp only[hx];done)|(rename_i t;cases t<;>rfl)
def aew(h:Ext ab aJ)(hr:∀x∈bN d,fD ab (x.ev ρ)):dw Γ d name ρ aJ=dw Γ d name ρ ab:=
 A7 λx hx n hn=>h n (fD.aP _ (hr x hx) n hn)
def lays:sV->Bool
 |.alloc _|.box _|.mkSlice .. |.mkSliceB .. |.append .. |.mkMap .. |.rangeM _|.callF .. =>true
 |_=>false
def wi{o:Ob}(h:oR d=3)(hp:(dw Γ d name ρ ab).put=some (r,o)):r=name\/∃x∈bN d,r∈aP (x.ev ρ):=by
 cases d<;>first|(simp[oR]at h;done)|skip
 case store n x y=>
  simp only[dw]at hp;unfold my at hp;split at hp
  ·rename_i hv;split at hp
   ·simp only[cu,oS]at hp;obtain⟨rfl,_⟩:=hp;exact .inr ⟨x,by simp[bN],by simp[hv,aP]⟩
   ·cases hp
  ·rename_i hv;split at hp
   ·simp only[cu,oS]at hp;obtain⟨rfl,_⟩:=hp;exact .inr ⟨x,by simp[bN],by simp[hv,aP]⟩
   ·cases hp
  ·cases hp
 case append e sz Px x y=>
  simp only[dw]at hp;unfold iL at hp;split at hp
  ·cases hp
  ·split at hp
   ·simp only[cu,oS]at hp;exact .inl hp.1.symm
   ·rename_i hv;split at hp
    ·simp only[cu,oS]at hp;obtain⟨rfl,_⟩:=hp;exact .inr ⟨x,by simp[bN],by simp[hv,aP]⟩
    ·cases hp
   ·rename_i hv;split at hp
    ·simp only[cu,oS]at hp;obtain⟨rfl,_⟩:=hp;exact .inr ⟨x,by simp[bN],by simp[hv,aP]⟩
    ·cases hp
   ·cases hp
 case copy sz x y=>
  simp only[dw]at hp;unfold ko at hp;split at hp
  ·cases hp
  ·split at hp
   ·rename_i hv;split at hp
    ·simp only[cu,oS]at hp;obtain⟨rfl,_⟩:=hp;exact .inr ⟨x,by simp[bN],by simp[hv,aP]⟩
    ·cases hp
   ·rename_i hv;split at hp
    ·simp only[cu,oS]at hp;obtain⟨rfl,_⟩:=hp;exact .inr ⟨x,by simp[bN],by simp[hv,aP]⟩
    ·cases hp
   ·cases hp
 case mapUpd cy agg x k y=>
  simp only[dw]at hp;unfold jA at hp;split at hp
  ·rename_i hv _;split at hp
   ·simp only[cu,oS]at hp;obtain⟨rfl,_⟩:=hp;exact .inr ⟨x,by simp[bN],by simp[hv,aP]⟩
   ·cases hp
  ·cases hp
 case mapEnt cy agg z x k=>
  simp only[dw]at hp;unfold jB at hp;split at hp
  ·rename_i hv _;split at hp
   ·simp only[cu,oS]at hp;obtain⟨rfl,_⟩:=hp;exact .inr ⟨x,by simp[bN],by simp[hv,aP]⟩
   ·cases hp
  ·cases hp
 case entSt x s y=>
  simp only[dw]at hp;unfold la at hp;split at hp
  ·rename_i hv _;split at hp
   ·split at hp
    ·simp only[cu,oS]at hp;obtain⟨rfl,_⟩:=hp;exact .inr ⟨x,by simp[bN],by simp[hv,aP]⟩
    ·cases hp
   ·cases hp
  ·cases hp
 case mapDel cy agg x k=>
  simp only[dw]at hp;unfold jC at hp;split at hp
  ·rename_i hv _;split at hp
   ·simp only[cu,oS]at hp;obtain⟨rfl,_⟩:=hp;exact .inr ⟨x,by simp[bN],by simp[hv,aP]⟩
   ·cases hp
  ·cases hp
 case rangeM x=>
  simp only[dw]at hp;unfold lQ at hp;split at hp
  ·split at hp
   ·simp only[cu,oS]at hp;exact .inl hp.1.symm
   ·cases hp
  ·cases hp
 case callF f xs=>
  simp only[dw]at hp;unfold pS at hp
  (repeat' split at hp)<;>first|(cases hp;done)|(simp only[cu,oS]at hp;exact .inl hp.1.symm)
def PE{o:Ob}(h:oR d=3)(hl:lays d=false)(hp:(dw Γ d name ρ ab).put=some (r,o)):∃x∈bN d,r∈aP (x.ev ρ):=by
 cases d<;>first|(simp[oR]at h;done)|(simp[lays]at hl;done)|skip
 case store n x y=>
  simp only[dw]at hp;unfold my at hp;split at hp
  ·rename_i hv;split at hp
   ·simp only[cu,oS]at hp;obtain⟨rfl,_⟩:=hp;exact⟨x,by simp[bN],by simp[hv,aP]⟩
   ·cases hp
  ·rename_i hv;split at hp
   ·simp only[cu,oS]at hp;obtain⟨rfl,_⟩:=hp;exact⟨x,by simp[bN],by simp[hv,aP]⟩
   ·cases hp
  ·cases hp
 case copy sz x y=>
  simp only[dw]at hp;unfold ko at hp;split at hp
  ·cases hp
  ·split at hp
   ·rename_i hv;split at hp
    ·simp only[cu,oS]at hp;obtain⟨rfl,_⟩:=hp;exact⟨x,by simp[bN],by simp[hv,aP]⟩
    ·cases hp
   ·rename_i hv;split at hp
    ·simp only[cu,oS]at hp;obtain⟨rfl,_⟩:=hp;exact⟨x,by simp[bN],by simp[hv,aP]⟩
    ·cases hp
   ·cases hp
 case mapUpd cy agg x k y=>
  simp only[dw]at hp;unfold jA at hp;split at hp
  ·rename_i hv _;split at hp
   ·simp only[cu,oS]at hp;obtain⟨rfl,_⟩:=hp;exact⟨x,by simp[bN],by simp[hv,aP]⟩
   ·cases hp
  ·cases hp
 case mapEnt cy agg z x k=>
  simp only[dw]at hp;unfold jB at hp;split at hp
  ·rename_i hv _;split at hp
   ·simp only[cu,oS]at hp;obtain⟨rfl,_⟩:=hp;exact⟨x,by simp[bN],by simp[hv,aP]⟩
   ·cases hp
  ·cases hp
 case entSt x s y=>
  simp only[dw]at hp;unfold la at hp;split at hp
  ·rename_i hv _;split at hp
   ·split at hp
    ·simp only[cu,oS]at hp;obtain⟨rfl,_⟩:=hp;exact⟨x,by simp[bN],by simp[hv,aP]⟩
    ·cases hp
   ·cases hp
  ·cases hp
 case mapDel cy agg x k=>
  simp only[dw]at hp;unfold jC at hp;split at hp
  ·rename_i hv _;split at hp
   ·simp only[cu,oS]at hp;obtain⟨rfl,_⟩:=hp;exact⟨x,by simp[bN],by simp[hv,aP]⟩
   ·cases hp
  ·cases hp
def Mh(h:oR d=0\/oR d=1):(dw Γ d name ρ ab).put=none:=by
 cases d<;>first|(simp[oR]at h;done)|rfl|skip
 case pick c a b=>simp only[dw];split<;>rfl
 case bslice=>simp only[dw];split<;>rfl
 case load n agg x=>simp only[dw];unfold jg;(repeat' split)<;>rfl
 case bin op x y=>simp only[dw];unfold u7;(repeat' split)<;>rfl
 case un op x=>simp only[dw];unfold Se;(repeat' split)<;>rfl
 case conv k x=>simp only[dw];split<;>rfl
 case addOff k x=>simp only[dw];unfold iK;(repeat' split)<;>rfl
 case nilCheck x=>simp only[dw];unfold lP;(repeat' split)<;>rfl
 case idxAddr sz x i=>simp only[dw];unfold tg;(repeat' split)<;>rfl
 case arrAddr n sz x i=>simp only[dw];unfold lF;(repeat' split)<;>rfl
 case field off n agg x=>simp only[dw];unfold pP;(repeat' split)<;>rfl
 case slice sz x lo hi=>simp only[dw];unfold jZ;(repeat' split)<;>rfl
 case extract i x=>simp only[dw];unfold th;(repeat' split)<;>rfl
 case call f xs=>simp only[dw];unfold qN;(repeat' split)<;>rfl
 case callR f xs=>simp only[dw];unfold pR;(repeat' split)<;>rfl
 case len x=>simp only[dw];unfold xG;(repeat' split)<;>rfl
 case lenS x=>simp only[dw];unfold wb;(repeat' split)<;>rfl
 case minmax m x y=>simp only[dw];unfold pC;(repeat' split)<;>rfl
 case lookup=>simp only[dw];unfold nz;(repeat' split)<;>rfl
 case lenM x=>simp only[dw];unfold tj;(repeat' split)<;>rfl
 case isNil=>simp only[dw];unfold gG;(repeat' split)<;>rfl
 case indexS x i=>simp only[dw];unfold pD;(repeat' split)<;>rfl
def aex{o:Ob}(h:oR d=2)(hp:(dw Γ d name ρ ab).put=some (r,o)):r=name:=by
 cases d<;>first|(simp[oR]at h;done)|skip
 case alloc z=>simp only[dw,cu,oS]at hp;exact hp.1.symm
 case box x=>simp only[dw,cu,oS]at hp;exact hp.1.symm
 case mkMap=>simp only[dw,cu,oS]at hp;exact hp.1.symm
 case mkSlice e sz Px z n=>
  simp only[dw]at hp;unfold mz at hp;split at hp
  ·simp only[cu,oS]at hp;exact hp.1.symm
  ·cases hp
 case mkSliceB e sz Px z n=>
  simp only[dw]at hp;unfold gF at hp;split at hp
  ·simp only[cu,oS]at hp;exact hp.1.symm
  ·cases hp
def aey{o:Ob}(h:oR d=3)(hp:(dw Γ d name ρ ab).put=some (r,o)):r=name\/ab r≠none:=by
 cases d<;>first|(simp[oR]at h;done)|skip
 case store n x y=>
  simp only[dw]at hp;unfold my at hp;split at hp
  ·split at hp
   ·rename_i hc;simp only[cu,oS]at hp;obtain⟨rfl,_⟩:=hp;exact .inr (by simp[hc])
   ·cases hp
  ·split at hp
   ·rename_i hc;simp only[cu,oS]at hp;obtain⟨rfl,_⟩:=hp;exact .inr (by simp[hc])
   ·cases hp
  ·cases hp
 case append e sz Px x y=>
  simp only[dw]at hp;unfold iL at hp;split at hp
  ·cases hp
  ·split at hp
   ·simp only[cu,oS]at hp;exact .inl hp.1.symm
   ·split at hp
    ·rename_i hc;simp only[cu,oS]at hp;obtain⟨rfl,_⟩:=hp;exact .inr (by simp[hc])
    ·cases hp
   ·split at hp
    ·rename_i hc;simp only[cu,oS]at hp;obtain⟨rfl,_⟩:=hp;exact .inr (by simp[hc])
    ·cases hp
   ·cases hp
 case copy sz x y=>
  simp only[dw]at hp;unfold ko at hp
  (repeat' split at hp)<;>first|(cases hp;done)|(rename_i hc;simp only[cu,oS]at hp;obtain⟨rfl,_⟩:=hp;exact .inr (by simp[hc]))
 case mapUpd=>
  simp only[dw]at hp;unfold jA at hp
  (repeat' split at hp)<;>first|(cases hp;done)|(rename_i hc;simp only[cu,oS]at hp;obtain⟨rfl,_⟩:=hp;exact .inr (by simp[hc]))
 case mapEnt=>
  simp only[dw]at hp;unfold jB at hp
  (repeat' split at hp)<;>first|(cases hp;done)|(rename_i hc;simp only[cu,oS]at hp;obtain⟨rfl,_⟩:=hp;exact .inr (by simp[hc]))
 case entSt=>
  simp only[dw]at hp;unfold la at hp
  (repeat' split at hp)<;>first|(cases hp;done)|(rename_i hc _ _ _;simp only[cu,oS]at hp;obtain⟨rfl,_⟩:=hp;exact .inr (by simp_all))
 case mapDel=>
  simp only[dw]at hp;unfold jC at hp
  (repeat' split at hp)<;>first|(cases hp;done)|(rename_i hc;simp only[cu,oS]at hp;obtain⟨rfl,_⟩:=hp;exact .inr (by simp[hc]))
 case rangeM=>
  simp only[dw]at hp;unfold lQ at hp
  (repeat' split at hp)<;>first|(cases hp;done)|(simp only[cu,oS]at hp;exact .inl hp.1.symm)
 case callF f xs=>
  simp only[dw]at hp;unfold pS at hp
  (repeat' split at hp)<;>first|(cases hp;done)|(simp only[cu,oS]at hp;exact .inl hp.1.symm)
def Z8{o:Ob}(h:oR d=3)(hl:lays d=false)(hp:(dw Γ d name ρ ab).put=some (r,o)):ab r≠none:=by
 cases d<;>first|(simp[oR]at h;done)|(simp[lays]at hl;done)|skip
 all_goals simp only[dw]at hp
 case store=>unfold my at hp;(repeat' split at hp)<;>first|(cases hp;done)|(rename_i hc;simp only[cu,oS]at hp;obtain⟨rfl,_⟩:=hp;simp[hc])
 case copy=>unfold ko at hp;(repeat' split at hp)<;>first|(cases hp;done)|(rename_i hc;simp only[cu,oS]at hp;obtain⟨rfl,_⟩:=hp;simp[hc])
 case mapUpd=>unfold jA at hp;(repeat' split at hp)<;>first|(cases hp;done)|(rename_i hc;simp only[cu,oS]at hp;obtain⟨rfl,_⟩:=hp;simp[hc])
 case mapEnt=>unfold jB at hp;(repeat' split at hp)<;>first|(cases hp;done)|(rename_i hc;simp only[cu,oS]at hp;obtain⟨rfl,_⟩:=hp;simp[hc])
 case entSt=>unfold la at hp;(repeat' split at hp)<;>first|(cases hp;done)|(simp only[cu,oS]at hp;obtain⟨rfl,_⟩:=hp;simp_all)
 case mapDel=>unfold jC at hp;(repeat' split at hp)<;>first|(cases hp;done)|(rename_i hc;simp only[cu,oS]at hp;obtain⟨rfl,_⟩:=hp;simp[hc])
end
end
section
variable{r:RO}{st:RS}{ρ:dj}{d:sV}{ab:bq}
variable [bM] [dM]
def PF:bW->Option Nat
 |.tmp t=>some t
 |.ia _=>none
def Dy(r:RO):cQ:=(bN r.d).filterMap PF++(r.guard.map (·.1)).toList
def agu:bW->Bool
 |.tmp _=>true
 |.ia (.v _)|.ia .aX|.ia (.jd _ _)=>true
 |_=>false
def vt(r:RO):Bool:=(bN r.d).all agu
def jw(x y:RO):Bool:=match x.dst with|some d=> !(Dy y).contains d|none=>true
def qP(x y:RO):Bool:=match x.dst,y.dst with|some a,some b=>a !=b|_,_=>true
def PG(a b:Nat):Bool:=((a==3&&(b==1||b==3))||(b==3&&a==1))||((a==4&&b !=0)||(b==4&&a !=0))
def De(x y:Option (cQ)):Bool:=match x,y with|some a,some b=>a.all λn=>b.all λm=>n !=m|_,_=>false
def ok4(a b:Nat):Bool:=(a !=4||b==1)&&(b !=4||a==1)
def isF:sV->Bool
 |.callF .. =>true
 |_=>false
def Z9(a b:sV):Bool:=(isF a&&oR b==1)||(isF b&&oR a==1)
def lg(x y:RO):Bool:=
 jw x y&&jw y x&&qP x y&&(!PG (oR x.d) (oR y.d)||(De x.kI y.kI&&ok4 (oR x.d) (oR y.d))||Z9 x.d y.d)
def gI(r:RO):Bool:= !lays r.d||r.dst.isSome
section
variable{Γ:pk}{aK:Nat}
def ES(st:RS):Prop:=∀t,fD st.ab (st.tmps t)
def nm(aK:Nat)(r:RO):Nat:=bV aK r.dst
def Ss(aK:Nat)(r:RO)(st:RS):Prop:=r.dst.isSome=true->st.ab (nm aK r)=none
def Dz{t:Nat}{o:Ob}(hp:(oU Γ aK r st).put=some (t,o)):(t=nm aK r/\lays r.d=true)\/(st.ab t≠none/\oR r.d=3):=by
 unfold oU at hp;by_cases h0:oR r.d=0\/oR r.d=1
 ·rw[Mh h0]at hp;cases hp
 ·by_cases h2:oR r.d=2
  ·refine .inl ⟨aex h2 hp, ?_⟩;cases hd:r.d<;>rw[hd]at h2<;>first|rfl|(simp[oR]at h2;done)
  ·have h3:oR r.d=3:=by
    cases hd:r.d<;>rw[hd]at h0 h2<;>first|(simp_all [oR];done)|(rw[hd]at hp;simp[dw,da]at hp)
   cases hl:lays r.d with
   |true=>
    rcases aey h3 hp with h|h
    ·exact .inl ⟨h,rfl⟩
    ·exact .inr ⟨h,h3⟩
   |false=>exact .inr ⟨Z8 h3 hl hp,h3⟩
def alH{x:bW}{dst:Option Nat}{v:DV}(h:∀d,dst=some d->PF x≠some d):x.ev (c5 ρ dst v)=x.ev ρ:=by
 cases x with
 |ia d=>rfl
 |tmp t=>
  cases dst with
  |none=>rfl
  |some d=>
   have:=h d rfl;simp only[PF,ne_eq,cu]at this;simp[bW.ev,c5,this]
def Cy{x y:RO}(h:jw x y=true){d:Nat}(hd:x.dst=some d):d∉Dy y:=by
 simp only[jw,hd]at h;simpa using h
def zj{x y:RO}(h:jw x y=true)(ρ:dj)(v:DV):gp y.guard (c5 ρ x.dst v)=gp y.guard ρ:=by
 cases hg:y.guard with
 |none=>rfl
 |some g=>
  obtain⟨s,mg⟩:=g;cases hd:x.dst with
  |none=>rfl
  |some d=>
   have hn:=Cy h hd;have:s≠d:=λe=>hn (by simp[Dy,hg,e]);simp[gp,c5,this]
def sx{x y:RO}(h1:jw x y=true)(ρ:dj)(v:DV):∀o∈bN y.d,o.ev (c5 ρ x.dst v)=o.ev ρ:=λo ho=>alH λd hd hs=>by
  have:=Cy h1 hd;exact this (by simp only[Dy,oi,ZbK];exact .inl ⟨o,ho,hs⟩)
def qQ{x y:RO}(h1:jw x y=true)(ρ:dj)(v:DV):cX y (c5 ρ x.dst v)↔cX y ρ:=by
 unfold cX;cases y.kI with
 |none=>rfl
 |some l=>
  constructor
  ·intro h o ho n hn;exact h o ho n (by rw[sx h1 ρ v o ho];exact hn)
  ·intro h o ho n hn;exact h o ho n (by rw[sx h1 ρ v o ho]at hn;exact hn)
def sy{x y:RO}(hd:De x.kI y.kI=true)(tx:cX x ρ)(ty:cX y ρ){o p:bW}(ho:o∈bN x.d)(hp:p∈bN y.d){n:Nat}(h1:n∈aP (o.ev ρ))(h2:n∈aP (p.ev ρ)):False:=by
 unfold De at hd;unfold cX at tx ty;cases hx:x.kI with
 |none=>simp[hx]at hd
 |some a=>
  cases hy:y.kI with
  |none=>simp[hx,hy]at hd
  |some b=>
   simp only[hx,hy]at hd tx ty;have:=Hy.1 (Hy.1 hd n (tx o ho n h1)) n (ty p hp n h2);simp at this
def tB{x:RO}{t:Nat}{o:Ob}(h3x:oR x.d=3)(Zj:gI x=true)(ET:x.dst.isSome=true->False)
  (hpx:(dw Γ x.d (bV aK x.dst) st.tmps st.ab).put=some (t,o)) (h5:t=bV aK x.dst) {C:Prop} (k:∀a∈bN x.d,t∈aP (a.ev st.tmps)->C):C:=by
 cases hdx:x.dst with
 |some d=>exact(ET (by simp[hdx])).elim
 |none=>
  have:lays x.d=false:=by simpa [gI,hdx]using Zj
  obtain⟨a,ha,hn⟩:=PE h3x this hpx;exact k a ha hn
def aaa{y:RO}(hcy:vt y=true)(hR:ES st):∀o∈bN y.d,fD st.ab (o.ev st.tmps):=λo ho=>by
 have:=Hy.1 hcy o ho;cases o with
 |tmp t=>exact hR t
 |ia d=>cases d<;>first|(simp[agu]at this;done)|simp[bW.ev,fD]
def aez:oR d≠4↔sW d=false:=by cases d<;>simp[oR,sW]
def PH{Z7:dj}{todo:List (aL)}(h:∀x∈bN d,x.ev ρ=x.ev Z7):pn Γ d ρ ab todo=pn Γ d Z7 ab todo:=by
 cases d<;>first|rfl|skip
 case callS f xs=>simp only[pn,kq (xs:=xs) h]
 case entryM x=>simp only[pn,h x (by simp[bN])]
 case callv x xs=>
  have h1:=h x (by simp[bN]);have h2:=kq (xs:=xs) (λy hy=>h y (by simp[bN,hy]));simp only[pn,h1,h2]
def Xp{f:FuncId}{xs:List bW}{name:Nat}{t:Nat}{o:Ob}(h:(dw Γ (.callF f xs) name ρ ab).put=some (t,o)):t=name:=by
 simp only[dw,pS]at h
 (repeat' split at h)<;>simp_all [da]
def Xq{x y:RO}(hi:lg x y=true)(O2:sW x.d=false)(Df:sW y.d=false)(hcy:vt y=true)(Zj:gI x=true)(hR:ES st)(hf:Ss aK x st)(v:DV)(td:List (aL))(ty:cX y st.tmps){p:Option (Nat×Ob)}(hp:p=none\/(p=(oU Γ aK x st).put/\cX x st.tmps)):
  oU Γ aK y ⟨c5 st.tmps x.dst v,cN st.ab p,td⟩=oU Γ aK y st:=by
 simp only[lg,mD,Xr,Zcy]at hi;obtain⟨⟨⟨h1,h2⟩,h3⟩,h4⟩:=hi;have hev:=sx h1 st.tmps v;have atK:=aaa hcy hR;unfold oU;simp only;rw[A6 hev];rcases hp with rfl|⟨rfl,tx⟩
 ·rfl
 ·cases hpx:(oU Γ aK x st).put with
  |none=>rfl
  |some q=>
   obtain⟨t,o⟩:=q;by_cases hy:oR y.d=0\/oR y.d=2
   ·exact ER hy
   ·rcases Dz hpx with⟨rfl,hl⟩|⟨b7,h3x⟩
    ·refine aew (λr hr=>?_) atK;have hds:x.dst.isSome=true:=by simpa [gI,hl]using Zj
     have ng:=hf hds;simp only[cN];rw[aZ];rintro rfl;exact hr ng
    ·rcases h4 with(h4|h4)|h4
     ·exfalso;have:oR y.d=1\/oR y.d=3:=by
       have:=aez.2 Df;cases hd:y.d<;>rw[hd]at hy this<;>simp_all [oR]
      rcases this with h|h<;>simp[h3x,h,PG]at h4
     ·refine A7 λp hp n hn=>?_;simp only[cN];rw[aZ];rintro rfl;unfold oU at hpx;rcases wi h3x hpx with h5|⟨o',iW,Hw⟩
      ·exact tB h3x Zj (λe=>b7 (by rw[show n=nm aK x from h5];exact hf e)) hpx h5 (λa ha Hw=>sy h4.1 tx ty ha hp Hw hn)
      ·exact sy h4.1 tx ty iW hp Hw hn
     ·exfalso;unfold Z9 at h4;rw[h3x]at h4;have h5:isF x.d=true:=by
       cases hF:isF x.d
       ·rw[hF]at h4;simp at h4
       ·rfl
      have h6:lays x.d=true:=by
       cases hd:x.d<;>rw[hd]at h5<;>first|rfl|(simp[isF]at h5;done)
      have h7:=hf (by simpa [gI,h6]using Zj);have h8:t=nm aK x:=by
       unfold oU at hpx;cases hd:x.d<;>rw[hd]at h5 hpx<;>first|(simp[isF]at h5;done)|skip
       exact Xp hpx
      rw[h8]at b7;exact b7 h7
def aab{x y:RO}(hi:lg x y=true)(h4:sW x.d=true):oR y.d=0\/(oR y.d=1/\De x.kI y.kI=true):=by
 have c4:oR x.d=4:=by cases hx:x.d<;>rw[hx]at h4<;>simp_all [oR,sW]
 simp only[lg,mD,Xr,Zcy]at hi;rcases hi.2 with(h|h)|h
 ·simp[PG,c4]at h;exact .inl h.1
 ·simp[ok4,c4]at h;exact .inr ⟨h.2.1,h.1⟩
 ·exfalso;have:isF x.d=false:=by cases hx:x.d<;>rw[hx]at h4<;>simp_all [isF,sW]
  simp[Z9,this,c4]at h
def Xs(a b:Nat):PG a b=PG b a:=by
 unfold PG;cases a==3<;>cases b==3<;>cases a==1<;>cases b==1<;>cases a==4<;>cases b==4<;>cases a !=0<;>cases b !=0<;>rfl
def EU{x y:RO}(h:qP x y=true):qP y x=true:=by
 unfold qP at h⊢;cases hx:x.dst<;>cases hy:y.dst<;>simp_all
 exact λe=>h e.symm
def Xt(a b:Option (cQ)):De a b=De b a:=by
 cases a with
 |none=>cases b<;>rfl
 |some a=>
  cases b with
  |none=>rfl
  |some b=>
   rw[Zcb];simp only[De,Hy,Zdm,ne_eq];exact⟨λh n hn m hm e=>h m hm n hn e.symm,λh n hn m hm e=>h m hm n hn e.symm⟩
def xQ{x y:RO}(h:lg x y=true):lg y x=true:=by
 simp only[lg,mD]at h⊢;refine⟨⟨⟨h.1.1.2,h.1.1.1⟩,EU h.1.2⟩, ?_⟩;rw[Xs,Xt];have:=h.2;simp only[Zcy,mD]at this⊢;rcases this with(h|h)|h
 ·exact .inl (.inl h)
 ·refine .inl (.inr ⟨h.1, ?_⟩);simp only[ok4,mD]at h⊢;exact⟨h.2.2,h.2.1⟩
 ·refine .inr ?_;unfold Z9 at h⊢;rw[Bool.or_comm];exact h
def vp(Γ:pk)(aK:Nat)(r:RO)(st:RS):DV×Option (Nat×Ob):=
 match gp r.guard st.tmps with
 |some true=>((oU Γ aK r st).val,(oU Γ aK r st).put)
 |_=>(.skip,none)
def Hn(Γ:pk)(r:RO)(st:RS):DV×bq×List (aL):=
 match gp r.guard st.tmps with
 |some true=>((pn Γ r.d st.tmps st.ab st.todo).val,(pn Γ r.d st.tmps st.ab st.todo).ab,(pn Γ r.d st.tmps st.ab st.todo).todo)
 |_=>(.skip,st.ab,st.todo)
def nV(h4:sW r.d=false)(h:cT Γ aK r st):d7 Γ aK r st=⟨c5 st.tmps r.dst (vp Γ aK r st).1,cN st.ab (vp Γ aK r st).2,st.todo⟩:=by
 unfold cT at h;unfold d7 vp;cases hw:gp r.guard st.tmps with
 |none=>rw[hw]at h;exact h.elim
 |some b=>cases b<;>simp[post,h4,cN]
def vu(h4:sW r.d=true)(h:cT Γ aK r st):d7 Γ aK r st=⟨c5 st.tmps r.dst (Hn Γ r st).1,(Hn Γ r st).2.1,(Hn Γ r st).2.2⟩:=by
 unfold cT at h;unfold d7 Hn;cases hw:gp r.guard st.tmps with
 |none=>rw[hw]at h;exact h.elim
 |some b=>cases b<;>simp[post,h4]
def JF(r:RO)(st:RS):(vp Γ aK r st).2=none\/(vp Γ aK r st).2=(oU Γ aK r st).put:=by
 unfold vp;split
 ·exact .inr rfl
 ·exact .inl rfl
def JG(h0:oR r.d=0\/oR r.d=1):(vp Γ aK r st).2=none:=by
 rcases JF (Γ:=Γ) (aK:=aK) r st with h|h
 ·exact h
 ·rw[h];exact Mh h0
def tC(h:cT Γ aK r st):(vp Γ aK r st).2=none\/((vp Γ aK r st).2=(oU Γ aK r st).put/\cX r st.tmps):=by
 unfold cT at h;unfold vp;cases hw:gp r.guard st.tmps with
 |none=>rw[hw]at h;exact h.elim
 |some b=>
  cases b with
  |false=>exact .inl rfl
  |true=>rw[hw]at h;exact .inr ⟨rfl,h.2.1⟩
def Xu(h:oR d=0):sW d=false:=aez.1 (by rw[h];decide)
def PJ{x y:RO}(ha:jw x y=true)(h0:oR y.d=0)(v:DV)(aJ:bq)(td:List (aL)):
  vp Γ aK y ⟨c5 st.tmps x.dst v,aJ,td⟩=vp Γ aK y st/\(cT Γ aK y ⟨c5 st.tmps x.dst v,aJ,td⟩↔cT Γ aK y st):=by
 have hw:gp y.guard (c5 st.tmps x.dst v)=gp y.guard st.tmps:=zj ha _ _;have ht:=qQ (y:=y) ha st.tmps v;have he:oU Γ aK y ⟨c5 st.tmps x.dst v,aJ,td⟩=oU Γ aK y st:=by
  unfold oU;simp only;rw[A6 (sx ha st.tmps v)];exact ER (.inl h0)
 refine⟨?_, ?_⟩
 ·unfold vp;simp only[hw,he]
 ·unfold cT post vn;simp only[hw,he,ht,Xu h0,OX,w7,ZdA]
def PK{x y:RO}(ha:jw x y=true)(h1:oR y.d=1)(hd:De x.kI y.kI=true)(v:DV)(aJ:bq)(td:List (aL))(hk:∀l,x.kI=some l->∀n,n∉l->aJ n=st.ab n)
  (oy:cT Γ aK y st\/cT Γ aK y ⟨c5 st.tmps x.dst v,aJ,td⟩):
  vp Γ aK y ⟨c5 st.tmps x.dst v,aJ,td⟩=vp Γ aK y st/\cT Γ aK y ⟨c5 st.tmps x.dst v,aJ,td⟩/\cT Γ aK y st:=by
 have hw:gp y.guard (c5 st.tmps x.dst v)=gp y.guard st.tmps:=zj ha _ _;have ht:=qQ (y:=y) ha st.tmps v;have Df:sW y.d=false:=aez.1 (by rw[h1];decide);have he:cX y st.tmps->oU Γ aK y ⟨c5 st.tmps x.dst v,aJ,td⟩=oU Γ aK y st:=λty=>by
  unfold oU;simp only;rw[A6 (sx ha st.tmps v)];refine A7 λp hp n hn=>?_;unfold De at hd;unfold cX at ty;cases hx:x.kI with
  |none=>simp[hx]at hd
  |some a=>
   cases hyt:y.kI with
   |none=>simp[hx,hyt]at hd
   |some b=>
    simp only[hx,hyt]at hd ty;refine hk a hx n λhna=>?_;have:=Hy.1 (Hy.1 hd n hna) n (ty p hp n hn);simp at this
 unfold cT post vn at oy⊢;unfold vp;simp only[hw,ht,Df,OX,w7,ZdA,OY]at oy⊢;cases hb:gp y.guard st.tmps with
 |none=>simp only[hb,or_self]at oy
 |some b=>
  cases b with
  |false=>simp
  |true=>
   simp only[hb]at oy⊢;have ty:cX y st.tmps:=by rcases oy with h|h<;>exact h.2
   have he:=he ty;simp only[he]at oy⊢;have:=oy.elim id id;exact⟨trivial,this,this⟩
def aac{x:RO}(h4:sW x.d=true)(ox:cT Γ aK x st):∀l,x.kI=some l->∀n,n∉l->(Hn Γ x st).2.1 n=st.ab n:=by
 unfold cT post vn at ox;unfold Hn;intro l hl n hn;cases hb:gp x.guard st.tmps with
 |none=>simp[hb]at ox
 |some b=>
  cases b with
  |false=>rfl
  |true=>
   simp only[hb,h4,jP]at ox;exact ox.2.2 trivial l hl n hn
def aad{x y:RO}(hi:lg x y=true)(h4:sW x.d=true)(ox:cT Γ aK x st)(oy:cT Γ aK y st\/cT Γ aK y ⟨c5 st.tmps x.dst (Hn Γ x st).1,(Hn Γ x st).2.1,(Hn Γ x st).2.2⟩):
  vp Γ aK y ⟨c5 st.tmps x.dst (Hn Γ x st).1,(Hn Γ x st).2.1,(Hn Γ x st).2.2⟩=vp Γ aK y st/\cT Γ aK y ⟨c5 st.tmps x.dst (Hn Γ x st).1,(Hn Γ x st).2.1,(Hn Γ x st).2.2⟩/\cT Γ aK y st/\(oR y.d=0\/oR y.d=1):=by
 have ha:jw x y=true:=by simp only[lg,mD]at hi;exact hi.1.1.1
 rcases aab hi h4 with h|⟨h,hd⟩
 ·obtain⟨e1,e2⟩:=PJ (Γ:=Γ) (aK:=aK) (st:=st) ha h (Hn Γ x st).1 (Hn Γ x st).2.1 (Hn Γ x st).2.2;have:=oy.elim id e2.1;exact⟨e1,e2.2 this,this,.inl h⟩
 ·obtain⟨e1,e2,e3⟩:=PK ha h hd _ _ _ (aac h4 ox) oy;exact⟨e1,e2,e3,.inr h⟩
def after{x y:RO}(hi:lg x y=true)(O2:sW x.d=false)(Df:sW y.d=false)(hcy:vt y=true)(Zj:gI x=true)(hR:ES st)(hf:Ss aK x st)(ox:cT Γ aK x st)(oy:cT Γ aK y st\/cT Γ aK y (d7 Γ aK x st)):
  vp Γ aK y (d7 Γ aK x st)=vp Γ aK y st/\cT Γ aK y (d7 Γ aK x st)/\cT Γ aK y st:=by
 rw[nV O2 ox]at oy⊢;have ha:jw x y=true:=by simp only[lg,mD]at hi;exact hi.1.1.1
 have hw:gp y.guard (c5 st.tmps x.dst (vp Γ aK x st).1)=gp y.guard st.tmps:=zj ha _ _;have ht:=qQ (y:=y) ha st.tmps (vp Γ aK x st).1;have he:cX y st.tmps->_:=λty=>Xq (Γ:=Γ) hi O2 Df hcy Zj hR hf (vp Γ aK x st).1 st.todo ty (tC ox);generalize vp Γ aK x st=q at oy hw ht he⊢;unfold cT post vn at oy⊢;unfold vp;simp only[hw,ht,Df,OX,w7,ZdA,OY]at oy⊢;cases hb:gp y.guard st.tmps with
 |none=>simp only[hb,or_self]at oy
 |some b=>
  cases b with
  |false=>simp
  |true=>
   simp only[hb]at oy⊢;have ty:cX y st.tmps:=by rcases oy with h|h<;>exact h.2
   have he:=he ty;simp only[he]at oy⊢;have:=oy.elim id id;exact⟨trivial,this,this⟩
def A8{x y:RO}(h3:qP x y=true)(f:dj)(u v:DV):c5 (c5 f x.dst u) y.dst v=c5 (c5 f y.dst v) x.dst u:=by
 funext t;cases hx:x.dst<;>cases hy:y.dst<;>simp only[c5]
 rename_i d e;have hde:d≠e:=by simpa [qP,hx,hy]using h3
 by_cases h1:t=d<;>by_cases h2:t=e<;>simp_all
def aae{x y:RO}(ha:jw y x=true)(v:DV):Hn Γ x ⟨c5 st.tmps y.dst v,st.ab,st.todo⟩=Hn Γ x st/\(sW x.d=true->(cT Γ aK x ⟨c5 st.tmps y.dst v,st.ab,st.todo⟩↔cT Γ aK x st)):=by
 have hw:gp x.guard (c5 st.tmps y.dst v)=gp x.guard st.tmps:=zj ha _ _;have ht:=qQ (y:=x) ha st.tmps v;have hs:pn Γ x.d (c5 st.tmps y.dst v) st.ab st.todo=pn Γ x.d st.tmps st.ab st.todo:=PH (sx ha st.tmps v);refine⟨?_,λh4=>?_⟩
 ·unfold Hn;simp only[hw,hs]
 ·unfold cT post;simp only[hw,hs,ht,h4,jP]
def swap{x y:RO}(hi:lg x y=true)(hcx:vt x=true)(hcy:vt y=true)(Zj:gI x=true)(hly:gI y=true)(hR:ES st)(Lt:Ss aK x st)(hfy:Ss aK y st)
  (ox:cT Γ aK x st) (oy:cT Γ aK y (d7 Γ aK x st)):
  cT Γ aK y st/\cT Γ aK x (d7 Γ aK y st)/\d7 Γ aK y (d7 Γ aK x st)=d7 Γ aK x (d7 Γ aK y st):=by
 have qO:=hi;simp only[lg,mD]at qO;obtain⟨⟨⟨h1,h2⟩,h3⟩,h4⟩:=qO;by_cases O2:sW x.d=true
 ·rw[vu O2 ox]at oy⊢;obtain⟨e1,_,oy',y0⟩:=aad hi O2 ox (.inr oy);have Df:sW y.d=false:=aez.1 (by rcases y0 with h|h<;>rw[h]<;>decide)
  rw[nV Df oy,nV Df oy',e1,JG y0];obtain⟨e3,e4⟩:=aae (Γ:=Γ) (aK:=aK) (x:=x) (y:=y) (st:=st) h2 (vp Γ aK y st).1;have ox':=(e4 O2).2 ox;refine⟨oy',ox', ?_⟩;simp only[cN]at ox'⊢;rw[vu O2 ox',e3];simp only;rw[A8 h3]
 ·have O2:sW x.d=false:=by simpa using O2
  by_cases Df:sW y.d=true
  ·have x0:oR x.d=0\/oR x.d=1:=by
    rcases aab (xQ hi) Df with h|⟨h,_⟩
    ·exact .inl h
    ·exact .inr h
   rw[nV O2 ox,JG x0]at oy⊢;simp only[cN]at oy⊢;obtain⟨e3,e4⟩:=aae (Γ:=Γ) (aK:=aK) (x:=y) (y:=x) (st:=st) h1 (vp Γ aK x st).1;have oy':=(e4 Df).1 oy;rw[vu Df oy,vu Df oy',e3];obtain⟨e1,ox',_,_⟩:=aad (xQ hi) Df oy' (.inl ox);refine⟨oy',ox', ?_⟩;rw[nV O2 ox',e1,JG x0];simp only[cN];rw[A8 h3]
  ·have Df:sW y.d=false:=by simpa using Df
   have a1:=after (Γ:=Γ) hi O2 Df hcy Zj hR Lt ox (.inr oy);have oy':=a1.2.2;have a2:=after (Γ:=Γ) (xQ hi) Df O2 hcx hly hR hfy oy' (.inl ox);have ox':=a2.2.1;refine⟨oy',ox', ?_⟩;have tx:=tC ox;have ty:=tC oy';rw[nV Df oy,nV O2 ox',a1.1,a2.1,nV O2 ox,nV Df oy']
   congr 1
   ·exact A8 h3 _ _ _
   ·funext t;cases hx:(vp Γ aK x st).2 with
    |none=>cases(vp Γ aK y st).2<;>rfl
    |some p=>
     cases hy:(vp Γ aK y st).2 with
     |none=>rfl
     |some q=>
      obtain⟨t1,o1⟩:=p;obtain⟨t2,o2⟩:=q;have e1:=Dz (((JF (Γ:=Γ) (aK:=aK) x st).resolve_left (by simp[hx])).symm.trans hx);have e2:=Dz (((JF (Γ:=Γ) (aK:=aK) y st).resolve_left (by simp[hy])).symm.trans hy);have b7:t1≠t2:=by
       rcases e1 with⟨rfl,l1⟩|⟨n1,c1⟩<;>rcases e2 with⟨rfl,l2⟩|⟨n2,c2⟩
       ·have s1:x.dst.isSome=true:=by simpa [gI,l1]using Zj
        have s2:y.dst.isSome=true:=by simpa [gI,l2]using hly
        obtain⟨d1,hd1⟩:=Zby.1 s1;obtain⟨d2,hd2⟩:=Zby.1 s2;have:d1≠d2:=by simpa [qP,hd1,hd2]using h3
        simp[nm,bV,hd1,hd2,this]
       ·rintro rfl;exact n2 (Lt (by simpa [gI,l1]using Zj))
       ·rintro rfl;exact n1 (hfy (by simpa [gI,l2]using hly))
       ·simp only[Zcy,mD]at h4;rcases h4 with(h4|h4)|h4
        ·simp[PG,c1,c2]at h4
        ·rintro rfl;have p1:=(tx.resolve_left (by simp[hx])).1.symm.trans hx;have p2:=(ty.resolve_left (by simp[hy])).1.symm.trans hy;have q1:=(tx.resolve_left (by simp[hx])).2;have q2:=(ty.resolve_left (by simp[hy])).2;unfold oU at p1 p2;rcases wi c1 p1 with h5|⟨o,ho,hn⟩
         ·exact tB c1 Zj (λe=>n1 (by rw[show t1=nm aK x from h5];exact Lt e)) p1 h5 (λo ho hn=>by
           rcases wi c2 p2 with h6|⟨o',iW,Hw⟩
           ·exact tB c2 hly (λe=>n2 (by rw[show t1=nm aK y from h6];exact hfy e)) p2 h6 (λo' iW Hw=>sy h4.1 q1 q2 ho iW hn Hw)
           ·exact sy h4.1 q1 q2 ho iW hn Hw)
         ·rcases wi c2 p2 with h6|⟨o',iW,Hw⟩
          ·exact tB c2 hly (λe=>n2 (by rw[show t1=nm aK y from h6];exact hfy e)) p2 h6 (λo' iW Hw=>sy h4.1 q1 q2 ho iW hn Hw)
          ·exact sy h4.1 q1 q2 ho iW hn Hw
        ·simp[Z9,c1,c2]at h4
      simp only[cN];by_cases h1:t=t1<;>by_cases h2:t=t2<;>simp_all
end
end
section
variable{ops:Array Oper}{r:RO}{st:RS}{Q:Exit->Act->World->Prop}{rs:ai}{id:Nat}{listed:Array Bool}
variable [bM] [dM]
def DA(ops:Array Oper)(o:Oper):Option (Option (Nat×Bool)):=
 match o.guard with
 |none=>some none
 |some (j,b)=>((ops[j]?).bind (·.dst)).map λs=>some (s,b)
def eC(P:Program)(ops:Array Oper)(o:Oper):Option RO:=do
 let d<-dI P o
 let g<-DA ops o
 pure ⟨d,o.dst,g,(o.after.toList.filter (Region.binds .any ·)).map (·.on),none⟩
def bare(r:RO):RO:=⟨Cu r.d,r.dst,r.guard,r.after,none⟩
def gb(P:Program)(ops:Array Oper):Option (ai):=ops.toList.mapM (eC P ops)
def j8(Γ:pk)(aK:Nat):ai->RS->Prop
 |[],_=>True
 |r::rs,st=>cT Γ aK r st/\j8 Γ aK rs (d7 Γ aK r st)
def ee(Γ:pk)(aK:Nat):ai->RS->RS
 |[],st=>st
 |r::rs,st=>ee Γ aK rs (d7 Γ aK r st)
def mi(nt:Nat)(r:RO):Bool:=vt r&&gI r&&(match r.dst with|some d=>decide (d<nt)|none=>true)
def gf:ai->Bool
 |[]=>true
 |r::rs=>rs.all (qP r)&&gf rs
def p6(gr:cQ)(as:cQ):Nat:=as.foldl (λm j=>m|||(1<<<j)|||gr.getD j 0) 0
def ov(rs:ai):cQ:=rs.foldl (λgr r=>gr++[p6 gr r.after]) []
def wj(rs:ai)(ms:cQ):Bool:=
 (List.range rs.length).all λi=>match rs[i]?,ms[i]? with
  |some y,some m=>y.after.all (·<i)&&(List.range i).all λx=>m.testBit x||(match rs[x]? with|some r=>lg r y|none=>false)
  |_,_=>false
def eE(nt:Nat)(iO:Bool)(rs:ai):Bool:=rs.all (mi nt)&&gf rs&&(!iO||wj rs (ov rs))
section
variable{P:Program}{κ:pX}{nt:Nat}{Γ:pk}{aK:Nat}{ro:Option Nat}{n:Nat}
def aeA{o:Oper}{a:Act}{w:World}{K:Act->World->Prop}(h:o.wpIn (iZ ro) n P a w K (λ_ _ _=>False)):∃a w,K a w:=by
 have h:=h.2;generalize (o.semAt (iZ ro).round a.eval).run P w=r at h;cases r with
 |ok x w'=>
  cases x<;>simp only[Oper.uponIn]at h
  case value v=>exact⟨_,_,h⟩
  case skip=>exact⟨_,_,h⟩
  case defer d=>exact⟨_,_,h⟩
  case enter f args=>
   obtain⟨_,_,hc⟩:=h;obtain⟨e,w2,fr,hR,_⟩:=hc [] (λd hd=>by cases hd);cases e with
   |returned v=>exact⟨_,_,hR⟩
   |panicked c=>exact hR.elim
   |outgrown=>obtain⟨_,_,hf⟩:=hR;exact hf.elim
  case row r args=>
   obtain⟨_,hc⟩:=h;obtain⟨v,w2,hR,_⟩:=hc default [] (λd hd=>by cases hd);exact⟨_,_,hR⟩
  case round l f t as b=>
   obtain⟨_,_,hc⟩:=h;obtain⟨e,w2,hR,_⟩:=hc default [] (λd hd=>by cases hd);cases e with
   |returned v=>exact⟨_,_,hR⟩
   |panicked c=>exact hR.elim
   |outgrown=>obtain⟨_,_,hf⟩:=hR;exact hf.elim
 |halt x w'=>cases x<;>simp only[Oper.uponIn]at h
def gh{o:Oper}(h:eC P ops o=some (bare r)):dI P o=some (Cu r.d)/\DA ops o=some r.guard/\r.dst=o.dst/\r.after=(o.after.toList.filter (Region.binds .any ·)).map (·.on):=by
 simp only[eC,mb,kP,jG,cu]at h;obtain⟨d,hd,g,hg,he⟩:=h;obtain⟨d',ds,gd,af,tc⟩:=r;simp only[bare,RO.mk.injEq,OY]at he;obtain⟨rfl,rfl,rfl,rfl⟩:=he;exact⟨hd,hg,rfl,rfl⟩
def A9{o:Oper}{a:Act}{w:World}{L:Loc}(hg:DA ops o=some r.guard)(h:eW κ nt st a w L){b:Bool}(hw:gp r.guard st.tmps=some b):
  Region.wanted o (yielded ops a.tmps)=b:=by
 unfold DA at hg;cases ho:o.guard with
 |none=>
  rw[ho]at hg;simp only[cu]at hg;rw[<-hg]at hw;simp only[gp,cu]at hw;simp[Region.wanted,ho,hw]
 |some jb=>
  obtain⟨j,mg⟩:=jb;rw[ho]at hg;simp only[iV]at hg;obtain⟨s,hs,Cp⟩:=hg;rw[<-Cp]at hw;simp only[gp]at hw;obtain⟨W,base,M,w0,_,h0⟩:=h.ex;have ig:=h0.tmps s;simp only[Region.wanted,ho,yielded,hs,ZcI];split at hw
  ·rename_i x hx;rw[hx]at ig;simp only[aA,bm]at ig;simp only[cu]at hw;have:a.tmps[s]? =some (.bool x):=by
    rw[O1]at ig;cases he:a.tmps[s]? with
    |none=>rw[he]at ig;simp[Go.undef]at ig
    |some y=>rw[he]at ig;simpa using ig
   rw[this,<-hw];simp
  ·rename_i hx;rw[hx]at ig;simp only[aA]at ig;simp only[cu]at hw;subst hw;rw[O1]at ig;cases he:a.tmps[s]? with
   |none=>simp
   |some y=>
    rw[he]at ig;simp only[St]at ig;subst ig;simp[Go.undef]
  ·cases hw
def ow(aC:ay P Γ)(xi:κ.Good P){i:Nat}{o:Oper}(ho:ops[i]? =some o)(hr:eC P ops o=some (bare r))(JC:mi nt r=true){a:Act}{w:World}{L:Loc}(h:eW κ nt st a w L)
  (ff:st.ab (nm aK r)=none) (aN:cT Γ aK r st) {K:Act->World->Prop} (hK:∀a' w' L',eW κ nt (d7 Γ aK r st) a' w' L'->K a' w'):
  wpOpIn (iZ ro) n P ops Q i K a w:=by
 obtain⟨hd,hg,lc,_⟩:=gh hr;have Xv:∀d,r.dst=some d->d<nt:=by
  intro d hd;simp only[mi,hd,mD,tD]at JC;exact JC.2
 unfold wpOpIn;simp only[ho];unfold cT at aN;unfold d7 at hK;cases hw:gp r.guard st.tmps with
 |none=>rw[hw]at aN;exact aN.elim
 |some b=>
  rw[hw]at aN hK;rw[A9 hg h hw];cases b with
  |true=>
   simp only[jP]at aN hK⊢;exact Sp aC xi hd lc h Xv ff aN.1 hK
  |false=>
   simp only[OX,w7];refine⟨nF o w _, ?_⟩;rw[<-lc];exact hK _ _ _ (h.skip r.dst Xv)
def Xw(aC:ay P Γ)(xi:κ.Good P){o:Oper}(hr:eC P ops o=some (bare r))(JC:mi nt r=true)(h:∃a w L,eW κ nt st a w L)(ff:st.ab (nm aK r)=none)(aN:cT Γ aK r st):
  ∃a w L,eW κ nt (d7 Γ aK r st) a w L:=by
 obtain⟨a,w,L,h⟩:=h;obtain⟨hd,hg,lc,_⟩:=gh hr;have Xv:∀d,r.dst=some d->d<nt:=by
  intro d hd;simp only[mi,hd,mD,tD]at JC;exact JC.2
 unfold cT at aN;unfold d7;cases hw:gp r.guard st.tmps with
 |none=>rw[hw]at aN;exact aN.elim
 |some b=>
  rw[hw]at aN;cases b with
  |true=>
   have:=Sp (ro:=none) (n:=0) (K:=λa' w'=>∃L',eW κ nt ⟨c5 st.tmps r.dst (post Γ aK r st).val,(post Γ aK r st).ab,(post Γ aK r st).todo⟩ a' w' L') (Q:=λ_ _ _=>False) aC xi hd lc h Xv ff aN.1 (λa' w' L' h'=>⟨L',h'⟩);obtain⟨a',w',L',h'⟩:=aeA this;exact⟨a',w',L',h'⟩
  |false=>exact⟨_,_,_,h.skip r.dst Xv⟩
def EV(h:∃a w L,eW κ nt st a w L):ES st:=by
 obtain⟨a,w,L,h⟩:=h;obtain⟨W,base,M,w0,_,h0⟩:=h.ex;exact λt=>fD.bX _ _ (h0.tmps t)
def lr(aK:Nat)(rs:ai)(st:RS):Prop:=st.ab aK=none/\∀r∈rs,st.ab (nm aK r)=none
def Ba(aC:ay P Γ)(aN:cT Γ aK r st){t:Nat}(ht:st.ab t=none)(hn:lays r.d=true->t≠nm aK r):(d7 Γ aK r st).ab t=none:=by
 by_cases h4:sW r.d=true
 ·rw[vu h4 aN];unfold cT post at aN;unfold Hn;cases hw:gp r.guard st.tmps with
  |none=>rw[hw]at aN;exact aN.elim
  |some b=>
   cases b with
   |false=>exact ht
   |true=>
    rw[hw]at aN;simp only[h4,jP]at aN⊢;have aN:=aN.1;cases hd:r.d<;>rw[hd]at h4 aN<;>first|(simp[sW]at h4;done)|skip
    case callS f args=>
     simp only[pn]at aN⊢;cases hg:Γ f with
     |none=>exact ht
     |some s=>
      simp only[hg]at aN⊢;cases hk:s.st with
      |none=>exact ht
      |some k=>
       simp only[hk]at aN⊢;exact((aC f s hg).st k hk _ _ aN).2 t ht
    case callv x args=>
     simp only[pn]at aN⊢;cases hx:x.ev st.tmps with
     |oP f ch=>
      rw[hx]at aN;cases f with
      |func g=>
       simp only at aN⊢;cases hg:Γ g with
       |none=>exact ht
       |some s=>
        simp only[hg]at aN⊢;cases hk:s.st with
        |none=>exact ht
        |some k=>
         simp only[hk]at aN⊢;exact((aC g s hg).st k hk _ _ aN).2 t ht
      |_=>exact ht
     |Po=>
      simp only;split<;>exact ht
     |v t=>
      cases t with
      |fn f ch=>
       rw[hx]at aN;cases f with
       |func g=>
        simp only at aN⊢;cases hg:Γ g with
        |none=>exact ht
        |some s=>
         simp only[hg]at aN⊢;cases hk:s.st with
         |none=>exact ht
         |some k=>
          simp only[hk]at aN⊢;exact((aC g s hg).st k hk _ _ aN).2 t ht
       |_=>exact ht
      |pO rv=>
       rw[hx]at aN;simp only at aN⊢;cases Zh:(dM.k:Option (Nat×(bF->bq->fV)))with
       |none=>exact ht
       |some p=>
        obtain⟨l,k⟩:=p;simp only[Zh]at aN⊢;exact dM.aP _ _ Zh _ _ aN.2.2.1 t ht
      |_=>exact ht
     |_=>exact ht
    case entryM x=>exact ht
 have h4:sW r.d=false:=by simpa using h4
 rw[nV h4 aN];cases hp:(vp Γ aK r st).2 with
 |none=>exact ht
 |some p=>
  obtain⟨t1,o1⟩:=p;have e1:=Dz (((JF (Γ:=Γ) (aK:=aK) r st).resolve_left (by simp[hp])).symm.trans hp);simp only[cN];rw[aZ]
  ·exact ht
  ·rintro rfl;rcases e1 with⟨h1,h2⟩|⟨h1,_⟩
   ·exact hn h2 h1
   ·exact h1 ht
def wk(aC:ay P Γ)(hl:gI r=true)(aN:cT Γ aK r st)(b7:∀y∈rs,qP r y=true/\y.dst.isSome=true\/y.dst=none)(h:lr aK rs st):lr aK rs (d7 Γ aK r st):=by
 have key:∀t,st.ab t=none->(lays r.d=true->t≠nm aK r)->(d7 Γ aK r st).ab t=none:=λt ht hn=>Ba aC aN ht hn;have qR:lays r.d=true->∃d,r.dst=some d:=λhr=>Zby.1 (by simpa [gI,hr]using hl);refine⟨key _ h.1 λhr=>?_,λy hy=>key _ (h.2 y hy) λhr=>?_⟩
 ·obtain⟨d,hd⟩:=qR hr;simp[nm,bV,hd];omega
 ·obtain⟨d,hd⟩:=qR hr;rcases b7 y hy with⟨h1,h2⟩|h2
  ·obtain⟨e,he⟩:=Zby.1 h2;have:d≠e:=by simpa [qP,hd,he]using h1
   simp[nm,bV,hd,he];omega
  ·simp[nm,bV,hd,h2];omega
def tE(h:gf (r::rs)=true):∀y∈rs,qP r y=true/\y.dst.isSome=true\/y.dst=none:=by
 intro y hy;simp only[gf,mD,Hy]at h;cases hd:y.dst with
 |none=>exact .inr rfl
 |some d=>exact .inl ⟨h.1 y hy,rfl⟩
def vv(aC:ay P Γ)(xi:κ.Good P){ops:Array Oper}{Q:Exit->Act->World->Prop}:∀(l:cQ) (rs:ai),(∀(k:Nat) (i:Nat),l[k]? =some i->∃o r,ops[i]? =some o/\rs[k]? =some r/\eC P ops o=some (bare r))->rs.length=l.length->rs.all (mi nt)=true->gf rs=true->
  ∀(st:RS) (a:Act) (w:World) (L:Loc),eW κ nt st a w L->lr aK rs st->j8 Γ aK rs st->(∀a' w' L',eW κ nt (ee Γ aK rs st) a' w' L'->Q .normal a' w')->wpOpsIn (iZ ro) n P ops Q l a w
 |[],rs,_,hl,_,_,st,a,w,L,h,_,_,hQ=>by
  have:rs=[]:=LS (by simpa using hl);subst this;exact hQ a w L h
 |i::l,[],_,hl,_,_,_,_,_,_,_,_,_,_=>by simp at hl
 |i::l,r::rs,hk,hl,eF,b7,st,a,w,L,h,hf,aN,hQ=>by
  obtain⟨o,r',ho,gS,hc⟩:=hk 0 i rfl;simp only[HN,cu]at gS;subst gS;simp only[ZcZ,mD]at eF;simp only[j8]at aN;have aaf:gI r=true:=by have:=eF.1;simp only[mi,mD]at this;exact this.1.2
  rw[wpOpsIn_cons];refine ow aC xi ho hc eF.1 h (hf.2 r (by simp)) aN.1 λa' w' L' h'=>?_;refine vv aC xi l rs (λk j hj=>hk (k+1) j (by simpa using hj)) (by simpa using hl) eF.2 (by simp only[gf,mD]at b7;exact b7.2) _ a' w' L' h' ?_ aN.2 hQ;exact wk aC aaf aN.1 (tE b7) ⟨hf.1,λy hy=>hf.2 y (by simp[hy])⟩
def j9(h:gb P ops=some (rs.map bare)):rs.length=ops.size/\∀(i:Nat) (o:Oper),ops[i]? =some o->∃r,rs[i]? =some r/\eC P ops o=some (bare r):=by
 unfold gb at h;have key:∀(l:List Oper) (rs:ai),l.mapM (eC P ops)=some rs->rs.length=l.length/\∀(i:Nat) (o:Oper),l[i]? =some o->∃r,rs[i]? =some r/\eC P ops o=some r:=by
  intro l;induction l with
  |nil=>intro rs h;simp at h;subst h;simp
  |cons x l ih=>
   intro rs h;simp only[Lp,mb,kP,jG,cu]at h;obtain⟨r,hr,rs',nw,rfl⟩:=h;have:=ih rs' nw;refine⟨by simp[this.1],λi o ho=>?_⟩;cases i with
   |zero=>simp only[HN,cu]at ho;subst ho;exact⟨r,rfl,hr⟩
   |succ i=>simpa using this.2 i o (by simpa using ho)
 have:=key _ _ h;refine⟨by simpa using this.1,λi o ho=>?_⟩;obtain⟨r,h1,h2⟩:=this.2 i o (by simpa using ho);simp only[ZbG,iV]at h1;obtain⟨q,h1,rfl⟩:=h1;exact⟨q,h1,h2⟩
def Mi(aC:ay P Γ)(xi:κ.Good P)(hc:gb P ops=some (rs.map bare))(aN:eE nt false rs=true){a:Act}{w:World}{L:Loc}(h:eW κ nt st a w L)
  (hf:lr aK rs st) (ce:j8 Γ aK rs st) (hQ:∀a' w' L',eW κ nt (ee Γ aK rs st) a' w' L'->Q .normal a' w'):(Code.region id ops false).wpIn (iZ ro) n P Q a w:=by
 have hg:=j9 hc;simp only[eE,mD]at aN;refine wpIn_region (vv aC xi (List.range ops.size) rs (λk i hi=>?_) (by simpa using hg.1) aN.1.1 aN.1.2 st a w L h hf ce hQ);obtain⟨hk,Jq⟩:=Db.1 hi;simp only[Zcj]at hk;simp only[Zb6]at Jq;subst Jq;obtain⟨r,h1,h2⟩:=hg.2 k ops[k] (by simp[hk]);exact⟨ops[k],r,by simp[hk],h1,h2⟩
def EW(aC:ay P Γ)(xi:κ.Good P){ops:Array Oper}{r:RO}{post:ai}(hr:mi nt r=true):∀(pre:ai),(∀x∈pre,lg x r=true/\mi nt x=true/\∃o,eC P ops o=some (bare x))->gf (pre++r::post)=true->
  ∀(st:RS),(∃a w L,eW κ nt st a w L)->lr aK (pre++r::post) st->j8 Γ aK (pre++r::post) st->
   cT Γ aK r st/\j8 Γ aK (pre++post) (d7 Γ aK r st)/\ee Γ aK (pre++post) (d7 Γ aK r st)=ee Γ aK (pre++r::post) st
 |[],_,_,st,_,_,h=>⟨h.1,h.2,rfl⟩
 |x::pre,uG,b7,st,agv,ET,h=>by
  simp only[C9,j8]at h;obtain⟨hi,hx,o,hc⟩:=uG x (by simp);have hcx:vt x=true/\gI x=true:=by simp only[mi,mD]at hx;exact hx.1
  have hcr:vt r=true/\gI r=true:=by simp only[mi,mD]at hr;exact hr.1
  have alI:=Xw aC xi hc hx agv (ET.2 x (by simp)) h.1;have aag:gf (pre++r::post)=true:=by simp only[C9,gf,mD]at b7;exact b7.2
  have alJ:lr aK (pre++r::post) (d7 Γ aK x st):=wk aC hcx.2 h.1 (tE b7) ⟨ET.1,λy hy=>ET.2 y (by simp only[C9,fN];exact .inr hy)⟩;obtain⟨i1,i2,i3⟩:=EW aC xi hr pre (λy hy=>uG y (by simp[hy])) aag _ alI alJ h.2;obtain⟨s1,s2,s3⟩:=swap hi hcx.1 hcr.1 hcx.2 hcr.2 (EV agv) (λ_=>ET.2 x (by simp)) (λ_=>ET.2 r (by simp)) h.1 i1;refine⟨s1,⟨s2,by rw[<-s3];exact i2⟩, ?_⟩;simp only[C9,ee];rw[<-s3];exact i3
def rem(n:Nat)(listed:Array Bool):cQ:=(List.range n).filter λi=> !listed.getD i true
def qS{n:Nat}{i:Nat}:i∈rem n listed↔i<n/\listed.getD i true=false:=by
 simp[rem]
def range_split{n i:Nat}(h:i<n):List.range n=List.range i++i::List.range' (i+1) (n-i-1):=by
 have h1:n=i+(1+(n-i-1)):=by omega
 rw[List.range_eq_range',List.range_eq_range']
 conv=>lhs;rw[h1]
 rw[<-List.range'_append_1,Lo,<-List.range'_append_1];simp
def Xx{n i:Nat}(hs:listed.size=n)(hi:i∈rem n listed):∃pre post,rem n listed=pre++i::post/\rem n (listed.setIfInBounds i true)=pre++post/\(∀x∈pre,x<i/\x∈rem n listed):=by
 obtain⟨h1,h2⟩:=qS.1 hi;have PL:∀j,j≠i->(listed.setIfInBounds i true).getD j true=listed.getD j true:=λj hj=>getD_set_ne true (Ne.symm hj);have ao1:(listed.setIfInBounds i true).getD i true=true:=by
  rw[O1,Zcd];simp[hs,h1]
 refine⟨(List.range i).filter (λj=> !listed.getD j true),(List.range' (i+1) (n-i-1)).filter (λj=> !listed.getD j true), ?_, ?_, ?_⟩
 ·unfold rem;rw[range_split h1,Y9,OU];simp[h2]
 ·unfold rem;rw[range_split h1,Y9,OU];simp only[ao1,ZcJ,OX,w7]
  congr 1
  ·refine List.filter_congr λj hj=>?_;rw[PL j (by have:=I4.1 hj;omega)]
  ·refine List.filter_congr λj hj=>?_;rw[PL j (by have:=Zck.1 hj;omega)]
 ·intro x hx;simp only[Su,I4,Xr]at hx;exact⟨hx.1,qS.2 ⟨by omega,hx.2⟩⟩
def aeB{k:Nat}(h:(1:Nat).testBit k=true):k=0:=by
 cases k with
 |zero=>rfl
 |succ k=>simp[Nat.testBit_succ]at h
def EX(gr:cQ):∀(as:cQ) (m x:Nat),(as.foldl (λm j=>m|||(1<<<j)|||gr.getD j 0) m).testBit x=true->m.testBit x=true\/x∈as\/∃j∈as,(gr.getD j 0).testBit x=true
 |[],m,x,h=>.inl h
 |j::as,m,x,h=>by
  simp only[Ca]at h;rcases EX gr as _ x h with h|h|⟨k,hk,h⟩
  ·simp only[Nat.testBit_or,Zcy,Nat.testBit_shiftLeft,mD,tD,ge_iff_le]at h;rcases h with(h|⟨h1,h2⟩)|h
   ·exact .inl h
   ·have:=aeB h2;have:x=j:=by omega
    exact .inr (.inl (by simp[this]))
   ·exact .inr (.inr ⟨j,by simp,h⟩)
  ·exact .inr (.inl (by simp[h]))
  ·exact .inr (.inr ⟨k,by simp[hk],h⟩)
def EY:∀(rs:ai) (gr:cQ),(rs.foldl (λgr r=>gr++[p6 gr r.after]) gr).take gr.length=gr/\
  ∀(k:Nat) (r:RO),rs[k]? =some r->(rs.foldl (λgr r=>gr++[p6 gr r.after]) gr)[gr.length+k]? =some (p6 ((rs.foldl (λgr r=>gr++[p6 gr r.after]) gr).take (gr.length+k)) r.after)
 |[],gr=>⟨by simp,by simp⟩
 |r::rs,gr=>by
  have ih:=EY rs (gr++[p6 gr r.after]);simp only[Ca];generalize hm:rs.foldl (λgr r=>gr++[p6 gr r.after]) (gr++[p6 gr r.after])=ms at ih;simp only[Ey,Lr,Zcz,Lo]at ih;have h1:ms.take gr.length=gr:=by
   have:=congrArg (List.take gr.length) ih.1;rw[Zde]at this;simpa [show min gr.length (gr.length+1)=gr.length by omega]using this
  refine⟨h1,λk q hq=>?_⟩;cases k with
  |zero=>
   simp only[HN,cu]at hq;subst hq;rw[ZA,h1];have h2:(ms.take (gr.length+1))[gr.length]? =some (p6 gr r.after):=by rw[ih.1];simp
   rw[HR]at h2;simpa using h2
  |succ k=>
   have:=ih.2 k q (by simpa using hq)
   rwa [show gr.length+1+k=gr.length+(k+1)by omega]at this
def Xy{i m x:Nat}(hr:rs[i]? =some r)(hm:(ov rs)[i]? =some m)(hx:m.testBit x=true)(ef:∀j∈r.after,j<i):x∈r.after\/∃j∈r.after,∃mj,(ov rs)[j]? =some mj/\mj.testBit x=true:=by
 have:=(EY rs []).2 i r hr;simp only[Zcz,Lo]at this;have Jj:(ov rs)[i]? =some (p6 ((ov rs).take i) r.after):=this;rw[hm]at Jj;simp only[cu]at Jj;subst Jj;unfold p6 at hx;rcases EX _ _ _ _ hx with h|h|⟨j,hj,h⟩
 ·simp at h
 ·exact .inl h
 ·refine .inr ⟨j,hj, ?_⟩;have Xz:=ef j hj;rw[List.getD,HR,cF Xz]at h;cases hmj:(ov rs)[j]? with
  |none=>rw[hmj]at h;simp at h
  |some mj=>rw[hmj]at h;exact⟨mj,rfl,by simpa using h⟩
def JH(hp:∀(i:Nat) (y:RO),rs[i]? =some y->∀j∈y.after,j<i)(aV:∀(j:Nat) (y:RO),listed.getD j false=true->rs[j]? =some y->∀e∈y.after,listed.getD e false=true):
  ∀(i:Nat) (y:RO) (m x:Nat),rs[i]? =some y->(ov rs)[i]? =some m->m.testBit x=true->(∀e∈y.after,listed.getD e false=true)->listed.getD x false=true:=by
 intro i;induction i using Nat.strongRecOn with
 |_ i ih=>
  intro y m x hy hm hx hd;rcases Xy hy hm hx (hp i y hy)with h|⟨j,hj,mj,hmj,hxj⟩
  ·exact hd x h
  ·have Xz:=hp i y hy j hj;have dN:j<rs.length:=by
    have:=(Db.1 hy).1;omega
   have hyj:rs[j]? =some rs[j]:=by simp[dN]
   exact ih j Xz rs[j] mj x hyj hmj hxj (aV j _ (hd j hj) hyj)
def EZ(h:wj rs (ov rs)=true):(∀(i:Nat) (y:RO),rs[i]? =some y->∀j∈y.after,j<i)/\
  ∀(i x:Nat) (y r:RO),rs[i]? =some y->x<i->rs[x]? =some r->lg r y=true\/∃m,(ov rs)[i]? =some m/\m.testBit x=true:=by
 unfold wj at h;rw[Hy]at h;have key:∀(i:Nat) (y:RO),rs[i]? =some y->∃m,(ov rs)[i]? =some m/\(∀j∈y.after,j<i)/\∀x,x<i->m.testBit x=true\/∃r,rs[x]? =some r/\lg r y=true:=by
  intro i y hy;have:=h i (I4.2 (Db.1 hy).1);rw[hy]at this;cases hm:(ov rs)[i]? with
  |none=>rw[hm]at this;simp at this
  |some m=>
   rw[hm]at this;simp only[mD,Hy,tD,I4,Zcy]at this;refine⟨m,rfl,this.1,λx hx=>?_⟩;rcases this.2 x hx with h1|h1
   ·exact .inl h1
   ·cases hr:rs[x]? with
    |none=>rw[hr]at h1;simp at h1
    |some r=>rw[hr]at h1;exact .inr ⟨r,rfl,h1⟩
 refine⟨λi y hy=>(key i y hy).choose_spec.2.1,λi x y r hy hx hr=>?_⟩;obtain⟨m,hm,_,h2⟩:=key i y hy;rcases h2 x hx with h3|⟨r',gS,h3⟩
 ·exact .inr ⟨m,hm,h3⟩
 ·rw[hr]at gS;cases gS;exact .inl h3
def aeC(aC:ay P Γ)(xi:κ.Good P){g:Nat->RO}(hg:∀(i:Nat) (o:Oper),ops[i]? =some o->eC P ops o=some (bare (g i)))
  (kr:∀i,i<ops.size->mi nt (g i)=true) (b7:∀l:cQ,l.Nodup->(∀i∈l,i<ops.size)->gf (l.map g)=true)
  (atL:∀(listed:Array Bool) (i x:Nat),i<ops.size->x<i->listed.getD x true=false->(∀(j:Nat),j<ops.size->listed.getD j false=true->∀e∈(g j).after,listed.getD e false=true)->(∀e∈(g i).after,listed.getD e false=true)->lg (g x) (g i)=true)
  (ef:∀i,i<ops.size->∀j∈(g i).after,j<i):
  ∀(Bb:Nat) (listed:Array Bool),listed.size=ops.size->(rem ops.size listed).length=Bb->(∀(j:Nat),j<ops.size->listed.getD j false=true->∀e∈(g j).after,listed.getD e false=true)->
   ∀(st:RS) (a:Act) (w:World) (L:Loc),eW κ nt st a w L->lr aK ((rem ops.size listed).map g) st->j8 Γ aK ((rem ops.size listed).map g) st->
    (∀a' w' L',eW κ nt (ee Γ aK ((rem ops.size listed).map g) st) a' w' L'->Q .normal a' w')->wpAnyIn (iZ ro) n P .any ops Q Bb listed a w:=by
 have Bc:∀(i:Nat) (o:Oper),ops[i]? =some o->∀(listed:Array Bool),(∀e∈o.after,Region.binds .any e=true->listed.getD e.on false=true)↔∀e∈(g i).after,listed.getD e false=true:=by
  intro i o ho listed;have:=(gh (hg i o ho)).2.2.2;rw[this];constructor
  ·intro h e he;simp only[g9,Su]at he;obtain⟨x,⟨hx,hb⟩,rfl⟩:=he;exact h x (by simpa using hx) hb
  ·intro h e he hb;exact h e.on (g9.2 ⟨e,Su.2 ⟨by simpa using he,hb⟩,rfl⟩)
 intro Bb;induction Bb with
 |zero=>
  intro listed hs hfu aV st a w L h hf aN hQ;have Mj:rem ops.size listed=[]:=LS hfu;refine⟨?_, ?_⟩
  ·cases hr:Region.ready .any ops listed with
   |nil=>rfl
   |cons j js=>
    exfalso;have hj:j∈Region.ready .any ops listed:=by rw[hr];simp
    obtain⟨h0,o,ho,_⟩:=mem_ready.1 hj;have:j∈rem ops.size listed:=qS.2 ⟨(v8.1 ho).1,h0⟩;rw[Mj]at this;cases this
  ·rw[Mj]at hQ;exact hQ a w L h
 |succ Bb ih=>
  intro listed hs hfu aV st a w L h hf aN hQ;refine⟨λhr=>?_,λi hi=>?_⟩
  ·exfalso;have aah:∃i,i∈rem ops.size listed/\∀x<i,x∉rem ops.size listed:=by
    have EH:∃i,i∈rem ops.size listed:=by
     cases hl:rem ops.size listed with
     |nil=>rw[hl]at hfu;cases hfu
     |cons i l=>exact⟨i,by simp⟩
    obtain⟨i,hi⟩:=EH;induction i using Nat.strongRecOn with
    |_ i ih2=>
     by_cases hx:∃x,x<i/\x∈rem ops.size listed
     ·obtain⟨x,Jm,xb⟩:=hx;exact ih2 x Jm xb
     ·exact⟨i,hi,λx Jm xb=>hx ⟨x,Jm,xb⟩⟩
   obtain⟨i,hi,aah⟩:=aah;obtain⟨h1,h2⟩:=qS.1 hi;have:i∈Region.ready .any ops listed:=mem_ready.2 ⟨h2,ops[i],by simp[h1],by
    rw[Bc i ops[i] (by simp[h1])];intro e he;have hei:=ef i h1 e he;have hn:=aah e hei;rw[qS]at hn;have Zk:e<listed.size:=by omega
    rw[O1]at hn⊢;simp only[Zk,ZbP,St]at hn⊢;cases hb:listed[e]
    ·exact eB ⟨by omega,hb⟩ hn
    ·rfl⟩
   rw[hr]at this;cases this
  ·obtain⟨h0,o,ho,eF⟩:=mem_ready.1 hi;have aai:i<ops.size:=(v8.1 ho).1;have agw:=(Bc i o ho listed).1 eF;obtain⟨pre,post,e1,e2,uG⟩:=Xx hs (qS.2 ⟨aai,h0⟩);rw[e1,JI,qD]at aN hQ hf;have zi:(pre++i::post).Nodup:=by
    rw[<-e1];exact List.Pairwise.filter _ List.nodup_range
   have Me:∀x∈pre++i::post,x<ops.size:=by
    intro x hx;rw[<-e1]at hx;exact(qS.1 hx).1
   have alK:gf (pre.map g++g i::post.map g)=true:=by
    have:=b7 _ zi Me;simpa using this
   have mv:=EW (κ:=κ) aC xi (ops:=ops) (kr i aai) (pre.map g) (λx hx=>by
    obtain⟨y,hy,rfl⟩:=g9.1 hx;have fW:=uG y hy;have hyb:=(qS.1 fW.2);refine⟨atL listed i y aai fW.1 hyb.2 aV agw,kr y hyb.1,ops[y],hg y _ (by simp[hyb.1])⟩) alK st ⟨a,w,L,h⟩ hf aN
   have hgi:=hg i o ho;refine ow aC xi ho hgi (kr i aai) h (hf.2 (g i) (by simp)) mv.1 λa' w' L' h'=>?_;refine ih (listed.setIfInBounds i true) (by simpa using hs) ?_ ?_ _ a' w' L' h' ?_ ?_ ?_
   ·rw[e2];rw[e1]at hfu;simp only[Ey,Lr]at hfu⊢;omega
   ·intro j hj H2 e he;by_cases Xz:j=i
    ·subst Xz;exact getD_set_true (agw e he)
    ·rw[getD_set_ne false (Ne.symm Xz)]at H2;exact getD_set_true (aV j hj H2 e he)
   ·rw[e2,JI];have aaf:gI (g i)=true:=by have:=kr i aai;simp only[mi,mD]at this;exact this.1.2
    refine wk aC aaf mv.1 (λy hy=>?_) ⟨hf.1,λy hy=>hf.2 y ?_⟩
    ·have atM:(i::(pre++post)).Nodup:=(List.perm_middle.nodup_iff).1 zi;have:=b7 _ atM (λx hx=>Me x (by simp only[fN,oi]at hx⊢;rcases hx with h|h|h<;>simp[h]))
     rw[qD,JI]at this;exact tE this y hy
    ·simp only[oi,fN]at hy⊢;rcases hy with h|h
     ·exact .inl h
     ·exact .inr (.inr h)
   ·rw[e2,JI];exact mv.2.1
   ·rw[e2,JI,mv.2.2];exact hQ
def xj:∀{rs:ai},gf rs=true->∀(i j:Nat) (x y:RO),i≠j->rs[i]? =some x->rs[j]? =some y->qP x y=true
 |[],_,_,_,_,_,_,h,_=>by simp at h
 |r::rs,hd,i,j,x,y,hij,hx,hy=>by
  simp only[gf,mD,Hy]at hd;cases i with
  |zero=>
   simp only[HN,cu]at hx;subst hx;cases j with
   |zero=>exact eB rfl hij
   |succ j=>exact hd.1 y (xL (by simpa using hy))
  |succ i=>
   cases j with
   |zero=>
    simp only[HN,cu]at hy;subst hy;exact EU (hd.1 x (xL (by simpa using hx)))
   |succ j=>exact xj hd.2 i j x y (by omega) (by simpa using hx) (by simpa using hy)
def Mk(aC:ay P Γ)(xi:κ.Good P)(hm:P.follows .mixedOrders=true)(hc:gb P ops=some (rs.map bare))(aN:eE nt true rs=true){a:Act}{w:World}{L:Loc}(h:eW κ nt st a w L)
  (hf:lr aK rs st) (ce:j8 Γ aK rs st) (hQ:∀a' w' L',eW κ nt (ee Γ aK rs st) a' w' L'->Q .normal a' w'):(Code.region id ops true).wpIn (iZ ro) n P Q a w:=by
 obtain⟨dN,mF⟩:=j9 hc;simp only[eE,mD,ZcJ,Bool.false_or]at aN;obtain⟨⟨eF,Xv⟩,hp⟩:=aN;obtain⟨ef,ao2⟩:=EZ hp
 let g:Nat->RO:=λi=>(rs[i]?).getD ⟨.sh (.ia .undef),none,none,[],none⟩
 have gg:∀i,i<ops.size->rs[i]? =some (g i):=λi hi=>by
  have:i<rs.length:=by omega
  simp[g,this]
 have hgc:∀(i:Nat) (o:Oper),ops[i]? =some o->eC P ops o=some (bare (g i)):=λi o ho=>by
  obtain⟨r,h1,h2⟩:=mF i o ho;have:g i=r:=by simp[g,h1]
  rw[this];exact h2
 have nw:rs=(List.range ops.size).map g:=by
  apply ZbZ;intro i;by_cases hi:i<ops.size
  ·rw[gg i hi];simp[hi]
  ·rw[ZbB (by omega),ZbB (by simp;omega)]
 have Sv:rem ops.size (Array.replicate ops.size false)=List.range ops.size:=by
  unfold rem;rw[List.filter_eq_self.2];intro i hi;have:=I4.1 hi;simp[O1,this]
 have hh:eW κ nt st a {w with drawn:=w.drawn+1} L:=by
  have hb:wL w.heap.size w {w with drawn:=w.drawn+1}:=⟨⟨rfl,rfl,rfl,ed _,λ_ _=>rfl⟩,Zdx _⟩;obtain⟨W,base,M,w0,dK,h0⟩:=h.ex;obtain⟨hO,hA⟩:=cC.grow h0.o hb;obtain⟨Ds,h1,h2,h3,h4⟩:=h.defers;exact⟨⟨W,base,M,w0,dK,h0.size,λt=>aA.fu hA _ _ (h0.tmps t),hO⟩,h.fu.comp hA (dK.Jy _) dK.sub.2,⟨Ds,h1,h2,λD hD=>⟨hA.dG.Za D (h3 D hD).1,(h3 D hD).2⟩,h4⟩,h.bg,h.cj⟩
 refine wpIn_region_any hm (aeC aC xi (g:=g) hgc (λi hi=>Hy.1 eF _ (xL (gg i hi))) (λl hl hb=>?_) (λlisted i x hi hx Hs aV hd=>?_) (λi hi=>ef i (g i) (gg i hi)) ops.size _ (by simp) (by rw[Sv];simp) (λj hj H2=>?_) st a _ L hh
  (by rw[Sv,<-nw];exact hf) (by rw[Sv,<-nw];exact ce) (by rw[Sv,<-nw];exact hQ))
 ·clear ce hQ hf;induction l with
  |nil=>rfl
  |cons i l ih=>
   simp only[qD,gf,mD,Hy];rw[ZcN]at hl;refine⟨λy hy=>?_,ih hl.2 λj hj=>hb j (by simp[hj])⟩;obtain⟨j,hj,rfl⟩:=g9.1 hy;exact xj Xv i j _ _ (by rintro rfl;exact hl.1 hj) (gg i (hb i (by simp))) (gg j (hb j (by simp[hj])))
 ·rcases ao2 i x (g i) (g x) (gg i hi) hx (gg x (by omega))with h1|⟨m,O3,Pr⟩
  ·exact h1
  ·exfalso;have:=JH (rs:=rs) (listed:=listed) ef (λj y hj hy=>by
    have hjn:j<ops.size:=by have:=(Db.1 hy).1;omega
    have:y=g j:=by rw[gg j hjn]at hy;exact(Zb9 hy).symm
    rw[this];exact aV j hjn hj) i (g i) m x (gg i hi) O3 Pr hd
   rw[O1]at this Hs;cases xb:listed[x]? with
   |none=>rw[xb]at this;simp at this
   |some b=>rw[xb]at this Hs;simp at this Hs;rw[this]at Hs;cases Hs
 ·rw[O1]at H2;simp[hj]at H2
end
end
section
variable{id d1 d2:Nat}{iO:Bool}{rs:ai}{ops:Array Oper}{dx:ma}
variable [bM] [dM]
inductive DC where
 |skip
 |region (iO:Bool) (rs:ai)
 |jQ (rs:ai)
 |seq (a b:DC)
 |cond (c:bW) (a b:DC)
 |block (id:Nat) (c:DC)
 |loop (c:DC)
 |exit (id:Nat)
 |ret
 |JJ (g:bW) (ps:cQ) (a b:DC)
 |Sw (x:bW) (d1 d2:Nat)
 |Cz
def aaj(ops:Array Oper):Option (bW×Nat×Nat):=
 match ops.toList with
 |[a,b]=>match a.op,b.op,a.dst,b.dst,a.guard,b.guard with
  |.next x false,.extract (.tmp t) 0,some d1,some d2,none,none=>if t=d1 then(bW.of x).map λy=>(y,d1,d2)else none
  |_,_,_,_,_,_=>none
 |_=>none
def ct(P:Program)(nt:Nat):Code->DC
 |.skip=>.skip
 |.region _ ops iO=>match gb P ops with
  |some rs=>if eE nt iO rs then .region iO rs else if iO&&eE nt false rs then .jQ rs else .Cz
  |none=>if iO then .Cz else match aaj ops with
   |some q=>if q.2.1<nt/\q.2.2<nt then .Sw q.1 q.2.1 q.2.2 else .Cz
   |none=>.Cz
 |.seq a b=>.seq (ct P nt a) (ct P nt b)
 |.cond c a b=>match bW.of c with
  |some x=>.cond x (ct P nt a) (ct P nt b)
  |none=>.Cz
 |.block id c=>.block id (ct P nt c)
 |.loop c=>.loop (ct P nt c)
 |.exit id=>.exit id
 |.ret=>.ret
 |.rangeFunc g ps a b=>match bW.of g with
  |some x=>if ps.toList.all (·<nt)then .JJ x ps.toList (ct P nt a) (ct P nt b)else .Cz
  |none=>.Cz
 |_=>.Cz
section
variable{P:Program}{nt:Nat}{c:Code}
def aak(h:ct P nt c=.skip):c=.skip:=by
 cases c<;>simp only[ct]at h<;>first|rfl|cases h|(repeat' split at h)<;>cases h
def aeD(h:ct P nt c=.ret):c=.ret:=by
 cases c<;>simp only[ct]at h<;>first|rfl|cases h|(repeat' split at h)<;>cases h
def PM{x:bW}{ps:cQ}{a b:DC}(h:ct P nt c=.JJ x ps a b):∃g qs y z,c=.rangeFunc g qs y z/\bW.of g=some x/\qs.toList=ps/\(∀p∈ps,p<nt)/\ct P nt y=a/\ct P nt z=b:=by
 cases c<;>simp only[ct]at h<;>first|(cases h;done)|skip
 ·(repeat' split at h)<;>cases h
 ·split at h<;>cases h
 ·split at h
  ·rename_i hx;split at h
   ·rename_i hp;cases h;exact⟨_,_,_,_,rfl,hx,rfl,λp hp'=>by have:=Hy.1 hp p hp';simpa using this,rfl,rfl⟩
   ·cases h
  ·cases h
def aal(h:ct P nt c=.exit id):c=.exit id:=by
 cases c<;>simp only[ct]at h<;>first|(cases h;rfl)|cases h|(repeat' split at h)<;>cases h
def aeE{a b:DC}(h:ct P nt c=.seq a b):∃x y,c=.seq x y/\ct P nt x=a/\ct P nt y=b:=by
 cases c<;>simp only[ct]at h<;>first|(cases h;exact⟨_,_,rfl,rfl,rfl⟩)|cases h|(repeat' split at h)<;>cases h
def aam{x:bW}{a b:DC}(h:ct P nt c=.cond x a b):∃x' y z,c=.cond x' y z/\bW.of x'=some x/\ct P nt y=a/\ct P nt z=b:=by
 cases c<;>simp only[ct]at h<;>first|(cases h;done)|skip
 ·(repeat' split at h)<;>cases h
 ·split at h
  ·rename_i hx;cases h;exact⟨_,_,_,rfl,hx,rfl,rfl⟩
  ·cases h
 ·(repeat' split at h)<;>cases h
def XA{a:DC}(h:ct P nt c=.block id a):∃x,c=.block id x/\ct P nt x=a:=by
 cases c<;>simp only[ct]at h<;>first|(cases h;exact⟨_,rfl,rfl⟩)|cases h|(repeat' split at h)<;>cases h
def aan{a:DC}(h:ct P nt c=.loop a):∃x,c=.loop x/\ct P nt x=a:=by
 cases c<;>simp only[ct]at h<;>first|(cases h;exact⟨_,rfl,rfl⟩)|cases h|(repeat' split at h)<;>cases h
def nI(h:ct P nt c=.region iO rs):∃id ops,c=.region id ops iO/\gb P ops=some rs/\eE nt iO rs=true:=by
 cases c<;>simp only[ct]at h<;>first|(cases h;done)|skip
 case region id ops dr=>
  split at h
  ·rename_i nw;split at h
   ·rename_i aN;cases h;exact⟨_,_,rfl,nw,aN⟩
   ·split at h<;>cases h
  ·(repeat' split at h)<;>cases h
 case cond=>split at h<;>cases h
 case rangeFunc=>(repeat' split at h)<;>cases h
def Ml(h:ct P nt c=.jQ rs):∃id ops,c=.region id ops true/\gb P ops=some rs:=by
 cases c<;>simp only[ct]at h<;>first|(cases h;done)|skip
 case region id ops dr=>
  split at h
  ·rename_i nw;split at h
   ·cases h
   ·split at h
    ·rename_i hd;cases h;simp only[mD]at hd;exact⟨_,_,by rw[hd.1],nw⟩
    ·cases h
  ·(repeat' split at h)<;>cases h
 case cond=>split at h<;>cases h
 case rangeFunc=>(repeat' split at h)<;>cases h
end
def XB{P:Program}{nt:Nat}{c:Code}{x:bW}(h:ct P nt c=.Sw x d1 d2):∃id o1 o2 y,c=.region id #[o1,o2] false/\o1.op=.next y false/\bW.of y=some x/\o1.dst=some d1/\o1.guard=none/\o2.op=.extract (.tmp d1) 0/\o2.dst=some d2/\o2.guard=none/\d1<nt/\d2<nt:=by
 cases c<;>simp only[ct]at h<;>first|(cases h;done)|skip
 case region id ops dr=>
  split at h
  ·split at h
   ·cases h
   ·split at h<;>cases h
  ·split at h
   ·cases h
   ·rename_i LU;have LU:dr=false:=by simpa using LU
    subst LU;split at h
    ·rename_i q hq;split at h
     ·rename_i ef;cases h;unfold aaj at hq;split at hq
      ·rename_i o1 o2 alL;split at hq
       ·rename_i y t e1 e2 h1 h2 h3 h4 h5 h6;split at hq
        ·rename_i hte;subst hte;simp only[iV]at hq;obtain⟨z,hz,rfl⟩:=hq;exact⟨id,o1,o2,y,by rw[show ops= #[o1,o2]by rw[<-Array.toArray_toList (xs:=ops),alL]],h1,hz,h3,h5,h2,h4,h6,ef.1,ef.2⟩
        ·cases hq
       ·cases hq
      ·cases hq
     ·cases h
    ·cases h
 case cond=>split at h<;>cases h
 case rangeFunc=>(repeat' split at h)<;>cases h
def Hz{P:Program}{o:Oper}{d:sV}(h:dI P o=some d):Cu d=d:=by
 cases d<;>first|rfl|skip
 case mkSliceB=>exact(alF h).elim
 case callS=>
  obtain⟨c,_,hc⟩:=fO h (.inr (.inl ⟨_,_,rfl⟩));exfalso;unfold eR at hc;repeat' split at hc
  all_goals first
   |(cases hc;done)
   |(simp only[iV,mb,kP,jG,cu,reduceCtorEq,wg,wh]at hc;done)
 case callF=>
  obtain⟨c,_,hc⟩:=fO h (.inr (.inr (.inr (.inl ⟨_,_,rfl⟩))));exfalso;unfold eR at hc;repeat' split at hc
  all_goals first
   |(cases hc;done)
   |(simp only[iV,mb,kP,jG,cu,reduceCtorEq,wg,wh]at hc;done)
 case callR=>
  obtain⟨c,_,hc⟩:=fO h (.inr (.inr (.inr (.inr ⟨_,_,rfl⟩))));exfalso;unfold eR at hc;repeat' split at hc
  all_goals first
   |(cases hc;done)
   |(simp only[iV,mb,kP,jG,cu,reduceCtorEq,wg,wh]at hc;done)
def E0{P:Program}{o:Oper}{r:RO}(h:eC P ops o=some r):bare r=r:=by
 simp only[eC,mb,kP,jG,cu]at h;obtain⟨d,hd,g,hg,rfl⟩:=h;simp only[bare,Hz hd]
def uA{P:Program}(h:gb P ops=some rs):rs.map bare=rs:=by
 unfold gb at h;have key:∀(l:List Oper) (rs:ai),l.mapM (eC P ops)=some rs->rs.map bare=rs:=by
  intro l;induction l with
  |nil=>intro rs h;simp at h;subst h;rfl
  |cons o l ih=>
   intro rs h;simp only[Lp,mb,kP,jG,cu]at h;obtain⟨r,hr,rs',nw,rfl⟩:=h;simp only[qD,E0 hr,ih rs' nw]
 exact key _ _ h
def fg:ai->List (Option (cQ))->ai
 |r::rs,t::ts=>⟨r.d,r.dst,r.guard,r.after,t⟩::fg rs ts
 |rs,_=>rs
structure H3(κ:pX)(nt:Nat)(st:ma)(a:Act)(w:World)(L:Loc):Prop where
 r:eW κ nt ⟨st.tmps,st.ab,st.todo⟩ a w L
 fresh:∀r,st.aK<=r->st.ab r=none
 low:∀r,st.low<=r->κ.go r=none
 it:κ.J.isSome=true->st.low=0
def Sat(P:Program)(nt:Nat)(c:Code)(Q:Exit->ma->Prop)(st:ma):Prop:=
 ∀(n:Nat) (κ:pX) (a:Act) (w:World) (L:Loc),κ.Good P->H3 κ nt st a w L->
  c.wpIn (iZ κ.ro) n P (λe a' w'=>∃dx L',Q e dx/\H3 κ nt dx a' w' L') a w
structure aa(P:Program)(nt:Nat)(d:DC)(Q:Exit->ma->Prop)(st:ma):Prop where
 run:∀c,ct P nt c=d->Sat P nt c Q st
def Le(st dx:ma):Prop:=∀(κ:pX) (nt:Nat) (a:Act) (w:World) (L:Loc),H3 κ nt st a w L->∃L',H3 κ nt dx a w L'
def Le.refl(st:ma):Le st st:=λ_ _ _ _ L h=>⟨L,h⟩
def Le.trans{a b c:ma}(h:Le a b)(k:Le b c):Le a c:=λ_ _ _ _ L r=>let⟨_,r'⟩:=h _ _ _ _ L r;k _ _ _ _ _ r'
section
variable{P:Program}{nt:Nat}{Γ:pk}{Q:Exit->ma->Prop}{st:ma}
def Sat.le{c:Code}(h:Le st dx)(k:Sat P nt c Q dx):Sat P nt c Q st:=λn κ a w L g r=>let⟨L',r'⟩:=h _ _ _ _ L r;k n κ a w L' g r'
def aa.le{d:DC}(h:Le st dx)(k:aa P nt d Q dx):aa P nt d Q st:=⟨λc hc=>Sat.le h (k.run c hc)⟩
def aa.zk{d:DC}{Q':Exit->ma->Prop}(h:aa P nt d Q st)(hq:∀e st,Q e st->∃st2,Le st st2/\Q' e st2):aa P nt d Q' st:=
 ⟨λc hc n κ a w L g r=>wpIn_mono (h.run c hc n κ a w L g r) λ_ _ _ ⟨_,L',q,r'⟩=>let⟨st2,hl,q2⟩:=hq _ _ q;let⟨L2,r2⟩:=hl _ _ _ _ L' r';⟨st2,L2,q2,r2⟩⟩
def aa.skip(h:Q .normal st):aa P nt .skip Q st:=by
 refine⟨λc hc=>?_⟩;obtain rfl:=aak hc;exact λn κ a w L g r=>wpIn_skip ⟨st,L,h,r⟩
def aa.exit(h:Q (.exit id) st):aa P nt (.exit id) Q st:=by
 refine⟨λc hc=>?_⟩;obtain rfl:=aal hc;exact λn κ a w L g r=>wpIn_exit ⟨st,L,h,r⟩
def aa.ret(h:Q .ret st):aa P nt .ret Q st:=by
 refine⟨λc hc=>?_⟩;obtain rfl:=aeD hc;exact λn κ a w L g r=>wpIn_ret ⟨st,L,h,r⟩
def Mm(k:ma->Prop)(Q:Exit->ma->Prop):Exit->ma->Prop
 |.normal,st=>k st
 |e,st=>Q e st
def aa.seq{a b:DC}(h:aa P nt a (Mm (aa P nt b Q) Q) st):aa P nt (.seq a b) Q st:=by
 refine⟨λc hc=>?_⟩;obtain⟨a',b',rfl,ha,hb⟩:=aeE hc;intro n κ XC w L g r;refine wpIn_seq (wpIn_mono (h.run _ ha n κ XC w L g r) ?_);rintro e a' w' ⟨dx,L',q,r'⟩;cases e with
 |normal=>exact q.run _ hb n κ a' w' L' g r'
 |_=>exact⟨dx,L',q,r'⟩
def aa.cond{x:bW}{a b:DC}{t:Bool}(hx:x.ev st.tmps=.v (.bool t))(ht:t=true->aa P nt a Q st)(hf:t=false->aa P nt b Q st):aa P nt (.cond x a b) Q st:=by
 refine⟨λc hc=>?_⟩;obtain⟨x',a',b',rfl,m0,ha,hb⟩:=aam hc;intro n κ XC w L g r;obtain⟨W,base,M,w0,dK,h0⟩:=r.r.ex;have:=bW.bX h0.o.gl h0.tmps m0;rw[hx]at this;simp only[aA,bm]at this;cases t with
 |true=>exact wpIn_cond_true this ((ht rfl).run _ ha n κ XC w L g r)
 |false=>exact wpIn_cond_false this ((hf rfl).run _ hb n κ XC w L g r)
def PN(id:Nat)(Q:Exit->ma->Prop):Exit->ma->Prop
 |.exit id',st=>if id'=id then Q .normal st else Q (.exit id') st
 |e,st=>Q e st
def aa.block{a:DC}(h:aa P nt a (PN id Q) st):aa P nt (.block id a) Q st:=by
 refine⟨λc hc=>?_⟩;obtain⟨a',rfl,ha⟩:=XA hc;intro n κ XC w L g r;refine wpIn_block (wpIn_mono (h.run _ ha n κ XC w L g r) ?_);rintro e a' w' ⟨dx,L',q,r'⟩;cases e with
 |exit id'=>
  simp only[PN]at q;simp only[Exit.inBlock];split at q
  ·rename_i h;rw[cF h];exact⟨dx,L',q,r'⟩
  ·rename_i h;rw[aZ h];exact⟨dx,L',q,r'⟩
 |_=>exact⟨dx,L',q,r'⟩
def aa.loop{α:Type}{body:DC}(R:α->ma)(I:α->Prop)(μ:α->Nat)(x:α)(h0:Le st (R x))(hI:I x)
  (round:∀y,I y->aa P nt body (Mm (λdx=>∃z,Le dx (R z)/\I z/\μ z<μ y) Q) (R y)):aa P nt (.loop body) Q st:=by
 refine⟨λc hc=>?_⟩;obtain⟨a',rfl,ha'⟩:=aan hc;intro n κ XC w L g r;obtain⟨L0,r0⟩:=h0 _ _ _ _ L r;refine wpIn_loop_ghost (λk a w=>∃y L,μ y=k/\I y/\H3 κ nt (R y) a w L) (μ x) ⟨x,L0,rfl,hI,r0⟩ ?_;rintro k a w ⟨y,L,rfl,hy,hr⟩;refine wpIn_mono ((round y hy).run _ ha' n κ a w L g hr) ?_;rintro e a' w' ⟨dx,L',q,r'⟩;cases e with
 |normal=>
  obtain⟨z,jW,hz,ef⟩:=q;obtain⟨L2,r2⟩:=jW _ _ _ _ L' r';exact⟨μ z,ef,z,L2,rfl,hz,r2⟩
 |_=>exact⟨dx,L',q,r'⟩
def zl(aC:ay P Γ){aK:Nat}:∀(rs:ai),rs.all (mi nt)=true->∀(st:RS),j8 Γ aK rs st->∀t,aK+nt+1<=t->st.ab t=none->(ee Γ aK rs st).ab t=none
 |[],_,st,_,t,_,h=>h
 |r::rs,eF,st,aN,t,ht,h=>by
  simp only[ZcZ,mD]at eF;simp only[j8]at aN;refine zl aC rs eF.2 _ aN.2 t ht (Ba aC aN.1 h λhl e=>?_);have hr:=eF.1;simp only[mi,mD]at hr;have hs:r.dst.isSome=true:=by simpa [gI,hl]using hr.1.2
  obtain⟨d,hd⟩:=Zby.1 hs;have ef:d<nt:=by have:=hr.2;rw[hd]at this;simpa using this
  simp only[nm,bV,hd]at e;omega
def tF(aC:ay P Γ)(hm:P.follows .mixedOrders=true)(nw:gb P ops=some (rs.map bare))(aN:eE nt iO rs=true)
  (ce:j8 Γ st.aK rs ⟨st.tmps,st.ab,st.todo⟩) (hQ:Q .normal ⟨(ee Γ st.aK rs ⟨st.tmps,st.ab,st.todo⟩).tmps,(ee Γ st.aK rs ⟨st.tmps,st.ab,st.todo⟩).ab,st.aK+nt+1,st.low,(ee Γ st.aK rs ⟨st.tmps,st.ab,st.todo⟩).todo⟩):
  Sat P nt (.region id ops iO) Q st:=by
 intro n κ XC w L g r;have ff:∀x∈rs,∃k,nm st.aK x=st.aK+k:=λx _=>by
  unfold nm bV;cases x.dst with
  |none=>exact⟨0,rfl⟩
  |some d=>exact⟨d+1,by simp only[fq]⟩
 have hf:lr st.aK rs ⟨st.tmps,st.ab,st.todo⟩:=⟨r.fresh _ (ed _),λx hx=>by
  obtain⟨k,hk⟩:=ff x hx;rw[hk];exact r.fresh _ (by omega)⟩
 have cj:∀a' w' L',eW κ nt (ee Γ st.aK rs ⟨st.tmps,st.ab,st.todo⟩) a' w' L'->∃dx L',Q .normal dx/\H3 κ nt dx a' w' L':=by
  intro a' w' L' r';refine⟨_,L',hQ,r', ?_,r.low,r.it⟩;have eF:rs.all (mi nt)=true:=by simp only[eE,mD]at aN;exact aN.1.1
  intro t ht;exact zl aC rs eF _ ce t ht (r.fresh t (by simp only at ht;omega))
 cases iO with
 |false=>exact Mi aC g nw aN r.r hf ce cj
 |true=>exact Mk aC g hm nw aN r.r hf ce cj
def aa.region(aC:ay P Γ)(hm:P.follows .mixedOrders=true)(ce:j8 Γ st.aK rs ⟨st.tmps,st.ab,st.todo⟩)(hQ:Q .normal ⟨(ee Γ st.aK rs ⟨st.tmps,st.ab,st.todo⟩).tmps,(ee Γ st.aK rs ⟨st.tmps,st.ab,st.todo⟩).ab,st.aK+nt+1,st.low,(ee Γ st.aK rs ⟨st.tmps,st.ab,st.todo⟩).todo⟩):
  aa P nt (.region iO rs) Q st:=by
 refine⟨λc hc=>?_⟩;obtain⟨id,ops,rfl,nw,aN⟩:=nI hc;exact tF aC hm (by rw[uA nw];exact nw) aN ce hQ
def aa.aeF(aC:ay P Γ)(hm:P.follows .mixedOrders=true){d:DC}(hd:d=.jQ (rs.map bare)\/∃iO,d=.region iO (rs.map bare))(aN:eE nt true rs=true)
  (ce:j8 Γ st.aK rs ⟨st.tmps,st.ab,st.todo⟩) (hQ:Q .normal ⟨(ee Γ st.aK rs ⟨st.tmps,st.ab,st.todo⟩).tmps,(ee Γ st.aK rs ⟨st.tmps,st.ab,st.todo⟩).ab,st.aK+nt+1,st.low,(ee Γ st.aK rs ⟨st.tmps,st.ab,st.todo⟩).todo⟩):
  aa P nt d Q st:=by
 refine⟨λc hc=>?_⟩;rcases hd with rfl|⟨iO,rfl⟩
 ·obtain⟨id,ops,rfl,nw⟩:=Ml hc;exact tF aC hm nw aN ce hQ
 ·obtain⟨id,ops,rfl,nw,alD⟩:=nI hc;refine tF aC hm nw ?_ ce hQ;cases iO with
  |true=>exact aN
  |false=>simp only[eE,mD]at aN⊢;exact⟨aN.1,rfl⟩
def aa.next{x:bW}{r m s l c:Nat}{sn:cQ}{cy:List Sh}{agg:Bool}{es:List (Nat×T×DV)}(hx:x.ev st.tmps=.cm r)(hr:st.ab r=some (.cm m s sn l))(hm:st.ab m=some (.map cy agg c es))(ef:∀e∈es,e.1<s)(hl:s<=l)
  (aao:(∀e∈es,e.1∈sn)->Q .normal ⟨c5 (c5 st.tmps (some d1) .undef) (some d2) (.v (.bool false)),st.ab,st.aK,st.low,st.todo⟩)
  (Z4:∀e∈es,e.1∉sn->Q .normal ⟨c5 (c5 st.tmps (some d1) .undef) (some d2) (.v (.bool true)),cN st.ab (some (r,.cm m s (sn++[e.1]) c)),st.aK,st.low,st.todo⟩):
  aa P nt (.Sw x d1 d2) Q st:=by
 refine⟨λcc hc=>?_⟩;obtain⟨id,o1,o2,y,rfl,h1,hy,h2,h3,h4,h5,h6,hd1,hd2⟩:=XB hc;intro n κ a w L g r0;refine wpIn_region ?_;have hR:=r0.r;obtain⟨W,base,M,w0,dK,h0⟩:=hR.ex;have Hr:=bW.bX h0.o.gl h0.tmps hy;rw[hx]at Hr;simp only[aA]at Hr;obtain⟨_,So⟩:=Hr;have cj:∀{b:Bool} {aJ:bq} {v:Value} {w':World},cC base W M w0 aJ w' L->ic W st.ab L w aJ L w'->(∃N,∀r,N<=r->aJ r=none)->(∀t,st.ab t=none->aJ t=none)->(∃rest:List Value,v=.tuple (Value.bool b::rest).toArray)->(execOp a.eval o1).run P w=.ok (.value v) w'->
   Q .normal ⟨c5 (c5 st.tmps (some d1) .undef) (some d2) (.v (.bool b)),aJ,st.aK,st.low,st.todo⟩->
   wpOpsIn (iZ κ.ro) n P #[o1,o2] (λe a' w'=>∃dx L',Q e dx/\H3 κ nt dx a' w' L') (List.range 2) a w:=by
  intro b aJ v w' hO hA mh ng hv ce hQ;obtain⟨rest,rfl⟩:=hv;show wpOpsIn (iZ κ.ro) n P #[o1,o2] _ [0,1] a w;rw[wpOpsIn_cons,wpOpIn];simp only[show(#[o1,o2]:Array Oper)[0]? =some o1 from rfl,Region.wanted,h3,jP];refine⟨nF o1 w _, ?_⟩;rw[show(iZ κ.ro).round=κ.ro from rfl,Oper.semAt_eq κ.ro _ o1 (λc hc=>by rw[h1]at hc;cases hc),ce,Oper.uponIn_value,h2];have R1:eW κ nt ⟨c5 st.tmps (some d1) .undef,aJ,st.todo⟩ (a.put (some d1) (.tuple (Value.bool b::rest).toArray)) w' L:=eW.put hR dK h0 (some d1) (λd hd=>by cases hd;exact hd1) hO hA (by simp[aA]) mh;rw[wpOpsIn_cons,wpOpIn];simp only[show(#[o1,o2]:Array Oper)[1]? =some o2 from rfl,Region.wanted,h6,jP];refine⟨nF o2 w' _, ?_⟩;have hev:(a.put (some d1) (.tuple (Value.bool b::rest).toArray)).eval (.tmp d1)=.tuple (Value.bool b::rest).toArray:=by
   simp only[Act.put,Act.eval];rw[EM _ _ _ _ (by rw[h0.size];exact hd1)];simp
  have Sx:(execOp (a.put (some d1) (.tuple (Value.bool b::rest).toArray)).eval o2).run P w'=.ok (.value (.bool b)) w':=by
   simp[execOp,h4,hev,Instr.extract]
  rw[show(iZ κ.ro).round=κ.ro from rfl,Oper.semAt_eq κ.ro _ o2 (λc hc=>by rw[h4]at hc;cases hc),Sx,Oper.uponIn_value,h5];obtain⟨W2,ao3,M2,w02,aap,h02⟩:=R1.ex;have R2:=eW.put R1 aap h02 (some d2) (λd hd=>by cases hd;exact hd2) (v:=.v (.bool b)) (x:=.bool b) h02.o (ic.cZ (dv.refl _ _)) (by simp[aA,bm]) mh;exact⟨_,L,hQ,R2,λt ht=>ng t (r0.fresh t ht),r0.low,r0.it⟩
 rcases PO (P:=P) h0.o hr hm ef hl o1.type with⟨eF,ce⟩|⟨e,he,hn,k,v,w',ce,hO,hA⟩
 ·refine cj (b:=false) h0.o (ic.cZ (dv.refl _ _)) hR.cj (λt h=>h) ⟨[],rfl⟩ ?_ (aao eF);simp[execOp,h1,So,ce]
 ·refine cj (b:=true) hO hA ?_ ?_ ⟨[k,v],rfl⟩ ?_ (Z4 e he hn)
  ·obtain⟨N,hN⟩:=hR.cj;refine⟨max N (r+1),λr' gS=>?_⟩;simp only[cN];rw[aZ (by omega)];exact hN r' (by omega)
  ·intro t ht;simp only[cN];rw[aZ (λe=>by rw[e,hr]at ht;cases ht)];exact ht
  ·simp[execOp,h1,So,ce]
end
end
abbrev t(n:Nat):bW:=.tmp n
abbrev i(n:Int):bW:=.ia (.v (.int .i64 n))
abbrev o(d:sV)(r:Nat)(af:cQ):RO:=⟨d,some r,none,af,none⟩
abbrev s(d:sV)(af:cQ):RO:=⟨d,none,none,af,none⟩
abbrev g(d:sV)(r b:Nat)(w:Bool)(af:cQ):RO:=⟨d,some r,some (b,w),af,none⟩
abbrev m(a r:Nat)(af:cQ):RO:=⟨.sh (.tmp a),some r,none,af,none⟩
abbrev n(a r:Nat):RO:=⟨.sh (.tmp a),some r,none,[],none⟩
abbrev l(a r:Nat)(af:cQ):RO:=⟨.load 1 false (.tmp a),some r,none,af,none⟩
abbrev L(k a r:Nat)(af:cQ):RO:=⟨.load k true (.tmp a),some r,none,af,none⟩
abbrev a(k b r:Nat)(af:cQ):RO:=⟨.addOff k (.tmp b),some r,none,af,none⟩
abbrev b(op:BinOp)(x y r:Nat)(af:cQ):RO:=⟨.bin op (.tmp x) (.tmp y),some r,none,af,none⟩
abbrev c(x r:Nat)(af:cQ):RO:=⟨.nilCheck (.tmp x),some r,none,af,none⟩
abbrev e(k x r:Nat)(af:cQ):RO:=⟨.extract k (.tmp x),some r,none,af,none⟩
abbrev x(k y z r:Nat)(af:cQ):RO:=⟨.idxAddr k (.tmp y) (.tmp z),some r,none,af,none⟩
abbrev S(k y z:Nat)(af:cQ):RO:=⟨.store k (.tmp y) (.tmp z),none,none,af,none⟩
abbrev p(u v r:Nat)(af:cQ):RO:=⟨.pick (.tmp u) (.ia (.v (.bool true))) (.tmp v),some r,none,af,none⟩
abbrev q(u v r:Nat)(af:cQ):RO:=⟨.pick (.tmp u) (.tmp v) (.ia (.v (.bool false))),some r,none,af,none⟩
abbrev u(k y r b:Nat)(w:Bool)(af:cQ):RO:=⟨.addOff k (.tmp y),some r,some (b,w),af,none⟩
abbrev v(y r b:Nat)(w:Bool)(af:cQ):RO:=⟨.load 1 false (.tmp y),some r,some (b,w),af,none⟩
abbrev w(y r b:Nat)(w:Bool)(af:cQ):RO:=⟨.sh (.tmp y),some r,some (b,w),af,none⟩
abbrev y(l:ai):DC:=.region false l
abbrev Y(l:ai):DC:=.region true l
abbrev j(a b:DC):DC:=.seq a b
abbrev F(r:Nat):RO:=⟨.sh (.ia (.v (.bool false))),some r,none,[],none⟩
abbrev R(r:Nat):RO:=⟨.sh (.ia (.v (.bool true))),some r,none,[],none⟩
abbrev I(k:Int)(r:Nat):RO:=⟨.sh (.ia (.v (.int .i64 k))),some r,none,[],none⟩
abbrev Z(r:Nat):RO:=⟨.sh (.ia .aX),some r,none,[],none⟩
abbrev B(k r:Nat):RO:=⟨.box (.tmp k),some r,none,[],none⟩
abbrev N(k r:Nat)(af:cQ):RO:=⟨.len (.tmp k),some r,none,af,none⟩
abbrev U(k r:Nat)(af:cQ):RO:=⟨.un .not (.tmp k),some r,none,af,none⟩
abbrev C(op:BinOp)(x:Nat)(k:Int)(r:Nat)(af:cQ):RO:=⟨.bin op (.tmp x) (.ia (.v (.int .i64 k))),some r,none,af,none⟩
abbrev D(op:BinOp)(x y r b:Nat)(w:Bool)(af:cQ):RO:=⟨.bin op (.tmp x) (.tmp y),some r,some (b,w),af,none⟩
abbrev E(op:BinOp)(x:Nat)(k:Int)(r b:Nat)(w:Bool)(af:cQ):RO:=⟨.bin op (.tmp x) (.ia (.v (.int .i64 k))),some r,some (b,w),af,none⟩
abbrev H(x r b:Nat)(w:Bool)(af:cQ):RO:=⟨.len (.tmp x),some r,some (b,w),af,none⟩
abbrev K(x r b:Nat)(w:Bool)(af:cQ):RO:=⟨.un .not (.tmp x),some r,some (b,w),af,none⟩
abbrev V(k:Int):DV:=.v (.int .i64 k)
abbrev k(l:cQ)(k:Nat):cQ:=l++List.range (k+1)
attribute [simp] t i o s g m n l L a b c e x S p q u v w y Y j F R I Z B N U C D E H K V
section
variable{base nt:Nat}{W M W':fH}{w0:World}{st:ma}{gu:Bool}{f:FuncId}{d:DC}{cI:Array Value}
variable [bM] [dM]
inductive dS where
 |oz (t:Nat)
 |cell (a n:Nat) (agg:Bool)
def o7(P:Program):ResultVar->Option dS
 |.tmp t=>some (.oz t)
 |.cell a t=>match P.underlying t,P.info? t with
  |some d,some i=>some (.cell a i.size (cq d))
  |_,_=>none
def dS.oU(st:ma):dS->si
 |.oz t=>⟨True,st.tmps t,none⟩
 |.cell a n agg=>jg n agg st.ab (st.tmps a)
def kQ(gu:Bool)(st:ma):List dS->Prop
 |[]=>True
 |r::rs=>((r.oU st).ok/\Hl gu st.ab (r.oU st).val)/\kQ gu st rs
def oA(st:ma)(rs:List dS):aL:=rs.map λr=>uD st.ab (r.oU st).val
def aaq(rs:List dS)(t:T)(st:ma):Prop:=
 kQ true st rs/\t=(match oA st rs with|[x]=>x|ts=>.ew ts)
def p7(rs:List dS)(r:fV)(st:ma):Prop:=
 kQ false st rs/\st.ab=r.ab/\r.val=.v (match oA st rs with|[x]=>x|ts=>.ew ts)
def PP:Option T->DV
 |some t=>.v t
 |none=>.skip
def rR(ts:aL):ma:=⟨λk=>PP ts[k]?,λ_=>none,1000,1000,[]⟩
def Dg:Option DV->DV
 |some d=>d
 |none=>.skip
def xk(args:bF)(ab:bq)(N:Nat):ma:=⟨λk=>Dg args[k]?,ab,N,N,[]⟩
def PQ(rs:List dS)(t:T):Exit->ma->Prop
 |.normal,st|.ret,st=>aaq rs t st
 |_,_=>False
def Bd(rs:List dS)(r:fV):Exit->ma->Prop
 |.normal,st|.ret,st=>p7 rs r st
 |_,_=>False
section
variable{P:Program}
def aeG{w:World}{a:Act}{L:Loc}(h:R0 base W M w0 nt st.tmps st.ab a w L)(hW:gu=true->∀r o b,st.ab r=some o->L.own r o=some b->¬W' b)(Xl:∀b,W' b->WW W st.ab L b){rv:ResultVar}{r:dS}(hr:o7 P rv=some r)(aN:(r.oU st).ok/\Hl gu st.ab (r.oU st).val):
  ∃v,((match rv with|.tmp t=>pure (a.tmps.getD t Go.undef)|.cell b t=>do loadVar t (<-asAddr (a.tmps.getD b Go.undef))):Sem Value).run P w=.ok v w/\bm w W' (uD st.ab (r.oU st).val) v:=by
 have cj:∀{d:DV} {x:Value},aA w W st.ab L d x->Hl gu st.ab d->bm w W' (uD st.ab d) x:=λhd hk=>
  (zd (gu:=gu) W' h.o hW Xl).1 _ _ hd hk
 cases rv with
 |tmp t=>
  simp only[o7,cu]at hr;subst hr;exact⟨_,rfl,cj (h.tmps t) aN.2⟩
 |cell b t=>
  simp only[o7]at hr;split at hr
  ·rename_i d i hd hi;simp only[cu]at hr;subst hr;simp only[dS.oU]at aN;obtain⟨hp,v,ce,hv⟩:=xK h.o hd hi (h.tmps b) aN.1;refine⟨v, ?_,cj hv aN.2⟩;have hpt:∃p,a.tmps.getD b Go.undef=.pointer (some p):=by
    have hx:=h.tmps b;have ho:=aN.1;cases hq:st.tmps b with
    |ptr r off=>rw[hq]at hx;simp only[aA]at hx;exact⟨_,hx.2⟩
    |mV av j off=>rw[hq]at hx;simp only[aA]at hx;obtain⟨_,_,_,hx,_⟩:=hx;exact⟨_,hx⟩
    |jd cs off=>rw[hq]at hx;simp only[aA]at hx;obtain⟨_,_,hx,_⟩:=hx;exact⟨_,hx⟩
    |kO r bJ j off=>rw[hq]at hx;simp only[aA]at hx;obtain⟨⟨_,_,hx⟩,_⟩:=hx;exact⟨_,hx⟩
    |v t'=>
     rw[hq]at hx ho;cases t' with
     |box cs=>simp only[aA,bm]at hx;obtain⟨_,_,hx,_⟩:=hx;exact⟨_,hx⟩
     |_=>exact ho.elim
    |_=>rw[hq]at ho;exact ho.elim
   obtain⟨p,hp⟩:=hpt;show Sem.run P (do loadVar t (<-asAddr (a.tmps.getD b Go.undef))) w=_;rw[hp]at ce⊢;simpa [Instr.loadAt,Instr.sureAddr,asAddr]using ce
  ·cases hr
def Sy{base:Nat}{W M:fH}{w0 w:World}{nt:Nat}{st:ma}{a:Act}{L:Loc}(h:R0 base W M w0 nt st.tmps st.ab a w L){gu:Bool}{W':fH}(hW:gu=true->∀r o b,st.ab r=some o->L.own r o=some b->¬W' b)(Xl:∀b,W' b->WW W st.ab L b):∀{rvs:List ResultVar} {rs:List dS},rvs.mapM (o7 P)=some rs->kQ gu st rs->
  ∃vs,(rvs.mapM (λrv=>((match rv with|.tmp t=>pure (a.tmps.getD t Go.undef)|.cell b t=>do loadVar t (<-asAddr (a.tmps.getD b Go.undef))):Sem Value))).run P w=.ok vs w/\ga w W' (oA st rs) vs
 |[],rs,hr,_=>by simp at hr;subst hr;exact⟨[],by simp,by simp[oA,ga]⟩
 |rv::rvs,rs,hr,aN=>by
  simp only[Lp,mb,kP,jG,cu]at hr;obtain⟨r,tw,rs',nw,rfl⟩:=hr;simp only[kQ]at aN;obtain⟨v,h1,h2⟩:=aeG h hW Xl tw aN.1;obtain⟨vs,h3,h4⟩:=Sy h hW Xl nw aN.2;refine⟨v::vs, ?_, ?_⟩
  ·rw[Lp];simp only[Sem.run_bind,h1,Result.andThen_ok,h3,Sem.run_pure]
  ·simp only[oA,qD,ga];exact⟨v,vs,rfl,h2,h4⟩
def vw{w:World}{a:Act}{L:Loc}(h:R0 base W M w0 nt st.tmps st.ab a w L)(hW:gu=true->∀r o b,st.ab r=some o->L.own r o=some b->¬W' b)(Xl:∀b,W' b->WW W st.ab L b){fn:Func}{rs:List dS}(hr:fn.results.toList.mapM (o7 P)=some rs){t:T}(aN:kQ gu st rs/\t=(match oA st rs with|[x]=>x|ts=>.ew ts)):
  ∃v,(results fn a.tmps).run P w=.ok v w/\bm w W' t v:=by
 obtain⟨h1,rfl⟩:=aN;obtain⟨vs,h2,h3⟩:=Sy h hW Xl hr h1;have hm:(fn.results.mapM (λrv=>((match rv with|.tmp t=>pure (a.tmps.getD t Go.undef)|.cell b t=>do loadVar t (<-asAddr (a.tmps.getD b Go.undef))):Sem Value))).run P w=.ok vs.toArray w:=by
  rw[ZcO];simp only[Sem.run_map,h2,Result.andThen_ok]
 have hl:vs.length=(oA st rs).length:=ga.length h3;refine⟨if h:vs.toArray.size=1 then vs.toArray[0]else .tuple vs.toArray, ?_, ?_⟩
 ·have AM:(results fn a.tmps)=(do
   let vs<-fn.results.mapM (λrv=>((match rv with|.tmp t=>pure (a.tmps.getD t Go.undef)|.cell b t=>do loadVar t (<-asAddr (a.tmps.getD b Go.undef))):Sem Value))
   pure (if h:vs.size=1 then vs[0]else .tuple vs)):=rfl
  rw[AM];simp only[Sem.run_bind,hm,Result.andThen_ok,Sem.run_pure]
 ·cases LX:oA st rs with
  |nil=>
   rw[LX]at hl h3;have:vs=[]:=LS (by simpa using hl);subst this;simp only[bm];exact⟨#[],by simp,by simp[ga]⟩
  |cons x xs=>
   rw[LX]at hl h3;cases xs with
   |nil=>
    simp only[ga]at h3;obtain⟨v,jN,rfl,hv,rfl⟩:=h3;simpa using hv
   |cons y ys=>
    have:vs.toArray.size≠1:=by simp at hl⊢;omega
    rw[Zdg this];simp only[bm];exact⟨_,rfl,by simpa using h3⟩
def XD{κ:pX}{st:RS}{a:Act}{w:World}{L:Loc}(hJ:κ.J=none)(h:eW κ nt st a w L){D:Nat}{Ds:cQ}(hd:a.defers=(D::Ds).map mark)(hn:(D::Ds).Nodup)(hk:∀D'∈D::Ds,w.heap[D']? =some (.deferred (some []))/\κ.gw.heap.size<=D'):
  eW κ nt st {a with defers:=Ds.map mark} (w.putObj D (.deferred none)) L:=by
 obtain⟨W,base,M,w0,dK,h0⟩:=h.ex;have hD:=hk D (Zl ..);have ef:=(v8.1 hD.1).1;have PL:∀b,b≠D->(w.putObj D (.deferred none)).heap[b]? =w.heap[b]? :=λb hb=>World.putObj_heap_other hb;have ji:(w.putObj D (.deferred none)).heap.size=w.heap.size:=by simp[World.putObj]
 have EO:=dK;unfold pX.At at EO;simp only[hJ]at EO;obtain⟨_,rfl,rfl,rfl,rfl⟩:=EO;have hbD:κ.base<=D:=xI (h.bg hJ) hD.2;have nH:∀(b:Nat) c e fr,w.heap[b]? =some (.cells c e fr)->(w.putObj D (.deferred none)).heap[b]? =some (.cells c e fr):=λb c e fr hb=>by
  rw[PL b (by rintro rfl;rw[hD.1]at hb;cases hb)];exact hb
 have Dc:KeepsC (WW κ.W st.ab L) w (w.putObj D (.deferred none)):=⟨by rw[ji];exact ed _,λb c e fr hb _=>nH b c e fr hb⟩;have kd:∀(d:DV) (x:Value),aA w κ.W st.ab L d x->aA (w.putObj D (.deferred none)) κ.W st.ab L d x:=λd x=>(pZ Dc (SizeOf.sizeOf d+1)).1 d x (by omega);have hO:cC κ.base κ.W κ.M κ.w0 st.ab (w.putObj D (.deferred none)) L:=vq h0.o hD.1 (λe=>e) hbD;refine⟨⟨κ.W,κ.base,κ.M,κ.w0,dK,h0.size,λt=>kd _ _ (h0.tmps t),hO⟩, ?_,⟨Ds,rfl,(ZcN.1 hn).2,λD' hD'=>?_,λh=>by rw[hJ]at h;cases h⟩,h.bg,h.cj⟩
 ·have had:=h.fu;refine⟨⟨⟨by rw[ji];exact had.dG.size,λb c e fr hb XE=>nH _ _ _ _ (had.dG.jX b c e fr hb XE)⟩,λb hb=>?_,λb r hb=>?_⟩,had.sub,had.fix,had.bE,had.yl⟩
  ·rw[PL b (by have:=(v8.1 hb).1;rw[pX.zh]at this;omega)];exact had.dG.Za b hb
  ·rw[PL b (by have:=(v8.1 hb).1;rw[pX.zh]at this;omega)];exact had.dG.ZG b r hb
 ·have b7:D'≠D:=λe=>(ZcN.1 hn).1 (e▸hD');have:=hk D' (Zm _ hD');exact⟨by rw[PL D' b7];exact this.1,this.2⟩
def leaves{κ:pX}{nt:Nat}{st:RS}{fn:Func}{R:Ending->World->Prop}(hJ:κ.J=none)(hR:∀(a:Act) (w:World) (L:Loc),eW κ nt st a w L->∃v,(results fn a.tmps).run P w=.ok v w/\R (.returned v) w):
  ∀(Ds:cQ) (a:Act) (w:World) (L:Loc),eW κ nt st a w L->a.defers=Ds.map mark->Ds.Nodup->(∀D∈Ds,w.heap[D]? =some (.deferred (some []))/\κ.gw.heap.size<=D)->
   LeavesInM Fence.wide 0 P fn a.tmps R (Ds.map mark) .returning w
 |[],a,w,L,h,_,_,_=>by
  obtain⟨v,h1,h2⟩:=hR a w L h;exact⟨v,h1,h2⟩
 |D::Ds,a,w,L,h,hd,hn,hk=>by
  refine⟨by simp,.inl ⟨D,w.putObj D (.deferred none),rfl,run_takeDeferred (hk D (Zl ..)).1, ?_⟩⟩;have h':=XD hJ h hd hn hk;obtain⟨Ds',e1,_,e3,_⟩:=h'.defers;have e:Ds'=Ds:=by
   have hi:∀(l l':cQ),l.map mark=l'.map mark->l=l':=by
    intro l;induction l with
    |nil=>intro l' e;cases l'<;>simp_all
    |cons x l ih=>
     intro l' e;cases l' with
     |nil=>simp at e
     |cons y l'=>
      simp only[qD,LW,mark,Deferred.mk.injEq,Target.collected.injEq,OY]at e;rw[e.1,ih l' e.2]
   exact hi _ _ e1.symm
  subst e;exact leaves hJ hR Ds' {a with defers:=Ds'.map mark} _ L h' rfl (ZcN.1 hn).2 e3
def aB(P:Program)(f:FuncId)(nt:Nat)(d:DC)(rs:List dS):Prop:=
 ∃fn,P.funcs[f]? =some fn/\fn.ntmps=nt/\fn.body.map (ct P nt)=some d/\fn.results.toList.mapM (o7 P)=some rs/\(fn.name== "runtime.NumGoroutine")=false
abbrev dm(n:Nat):List dS:=[.oz n]
def aB.of{f:FuncId}{nt:Nat}{d:DC}{rs:List dS}(fn:Func)(h:(P.funcs[f]?,fn.ntmps,fn.body.map (ct P nt),fn.results.toList.mapM (o7 P),fn.name== "runtime.NumGoroutine")=(some fn,nt,some d,some rs,false)):aB P f nt d rs:=by
 simp only[oS]at h;exact⟨fn,h⟩
def aB.entry{rs:List dS}(h:aB P f nt d rs):EK P f:=by
 obtain⟨fn,h1,_,h3,_,h5⟩:=h;obtain⟨c,h2,_⟩:=iV.1 h3;exact⟨fn,h1,by simpa using h5,by simp[h2]⟩
def p8{n:Nat}{k:Nat}{v:Value}(h:cI.toList[k]? =some v):(cI++Array.replicate (n-cI.size) Go.undef).getD k Go.undef=v:=by
 have ef:k<cI.size:=by have:=(Db.1 h).1;simpa using this
 rw[O1,Zdl ef];simp only[Zb7]at h;rw[h];rfl
def pF{n:Nat}{k:Nat}(h:cI.size<=k):(cI++Array.replicate (n-cI.size) Go.undef).getD k Go.undef=Go.undef:=by
 rw[O1,Array.getElem?_append_right h,Array.getElem?_replicate];split<;>rfl
def aB.ok{rs:List dS}(h:aB P f nt d rs){ts:aL}{t:T}(dN:ts.length<=nt)(k:aa P nt d (PQ rs t) (rR ts)):bw P f ts t:=by
 have Be:=h.entry;obtain⟨fn,tz,rfl,h3,hr,_⟩:=h;obtain⟨c,hb,hc⟩:=iV.1 h3;refine⟨Be,λW w cI hW hg ig=>?_⟩;have hl:=ga.length ig;simp only[Si]at hl;have vx:H3 ⟨W,λ_=>none,⟨λ_=>0,λ_=>Go.undef,0⟩,w,w.heap.size,λ_=>False,w,none,none,none⟩ fn.ntmps (rR ts) {tmps:=cI++Array.replicate (fn.ntmps-cI.size) Go.undef,defers:=[]} w ⟨λ_=>0,λ_=>Go.undef,0⟩:=by
  refine⟨⟨⟨W,w.heap.size,λ_=>False,w,⟨λ_=>rfl,rfl,rfl,rfl,rfl⟩,by simp;omega,λk=>?_,⟨Fr.refl (ed _),(λr o h=>by cases h),(λr r' o o' b _ h=>by cases h),(λr o b h=>by cases h),hW,hg.start⟩⟩,
   ic.cZ (dv.refl _ _),⟨[],rfl,Zce,(λ_ h=>by cases h),λ_=>rfl⟩,λ_=>ed _,⟨0,λ_ _=>rfl⟩⟩,λ_ _=>rfl,λ_ _=>rfl,λh=>by cases h⟩
  simp only[rR];cases hk:ts[k]? with
  |some x=>
   obtain⟨v,hv,nU⟩:=ga.get ig hk;simp only[p8 hv,PP,aA];refine bm.bH (dv.refl W w).toKeepsC ?_ x v nU;rintro b hb (h|⟨r,o,h,_⟩)
   ·exact h
   ·cases h
  |none=>
   have yO:cI.size<=k:=by
    have:=ZbQ.1 hk;omega
   simp only[PP,aA,pF yO]
 refine callsIn_wide.1 (callsIn_of_wp_marks (n:=0) tz hb trivial ?_);refine wpIn_mono (k.run c hc 0 _ _ _ _ ⟨λJ hJ=>(by cases hJ),λl r s hY=>(by cases hY),λl hl=>(by cases hl)⟩ vx) ?_;rintro e a' w' ⟨dx,L',q,r'⟩;have done:aaq rs t dx->LeavesInM Fence.wide 0 P fn a'.tmps (λe w'=>∃v,e=.returned v/\wL w.heap.size w w'/\bm w' W t v) a'.defers .returning w':=by
  intro hq;obtain⟨Ds,h1,h2,h3,_⟩:=r'.r.defers;rw[h1];refine leaves (κ:=⟨W,λ_=>none,⟨λ_=>0,λ_=>Go.undef,0⟩,w,w.heap.size,λ_=>False,w,none,none,none⟩) rfl ?_ Ds a' w' L' r'.r h1 h2 h3;intro a2 w2 L2 h4;obtain⟨W',Mn,M',w0',dK,h0⟩:=h4.ex;obtain⟨_,e1,e2,e3,e4⟩:=dK
  replace h0:R0 w.heap.size W (λ_=>False) w fn.ntmps dx.tmps dx.ab a2 w2 L2:=by rw[e1,e2,e3,e4]at h0;exact h0
  obtain⟨v,k1,k2⟩:=vw (st:=dx) h0 (gu:=true) (W':=W) (λ_ r o b e1 e2=>h0.o.sk r o b e1 e2) (λb hb=>.inl hb) hr hq;have fr:=h0.o.fr;exact⟨v,k1,v,rfl,⟨⟨fr.os,fr.tape,fr.output,fr.size,λk hk=>fr.block k hk (λx=>x)⟩,fr.drawn⟩,k2⟩
 cases e with
 |normal=>exact done q
 |ret=>exact done q
 |_=>exact q.elim
def aB.okS{rs:List dS}(h:aB P f nt d rs){args:bF}{ab:bq}{r:fV}{N:Nat}(hN:∀r,N<=r->ab r=none)(dN:args.length<=nt)(k:aa P nt d (Bd rs r) (xk args ab N)):aQ P f args ab r:=by
 have Be:=h.entry;obtain⟨fn,tz,rfl,h3,hr,_⟩:=h;obtain⟨c,hb,hc⟩:=iV.1 h3;refine⟨Be,λbase W M w0 w L cI hO Dd=>?_⟩;have hl:=Dd.1;simp only[Si]at hl;have vx:H3 ⟨W,ab,L,w,base,M,w0,none,none,none⟩ fn.ntmps (xk args ab N) {tmps:=cI++Array.replicate (fn.ntmps-cI.size) Go.undef,defers:=[]} w L:=by
  refine⟨⟨⟨W,base,M,w0,⟨λ_=>rfl,rfl,rfl,rfl,rfl⟩,by simp;omega,λk=>?_,hO⟩,
   ic.cZ (dv.refl _ _),⟨[],rfl,Zce,(λ_ h=>by cases h),λ_=>rfl⟩,λ_=>xI hO.fr.jO hO.fr.size,⟨N,hN⟩⟩,hN,hN,λh=>by cases h⟩
  simp only[xk];cases hk:args[k]? with
  |some x=>
   have hv:∃v,cI.toList[k]? =some v:=by
    have:k<cI.size:=by rw[hl];exact(Db.1 hk).1
    exact⟨cI[k],by simp[this]⟩
   obtain⟨v,hv⟩:=hv;simp only[p8 hv,Dg];exact Dd.2 k x v hk hv
  |none=>
   have yO:cI.size<=k:=by
    have:=ZbQ.1 hk;omega
   simp only[Dg,aA,pF yO]
 refine callsIn_wide.1 (callsIn_of_wp_marks (n:=0) tz hb trivial ?_);refine wpIn_mono (k.run c hc 0 _ _ _ _ ⟨λJ hJ=>(by cases hJ),λl r s hY=>(by cases hY),λl hl=>(by cases hl)⟩ vx) ?_;rintro e a' w' ⟨dx,L',q,r'⟩;have done:p7 rs r dx->LeavesInM Fence.wide 0 P fn a'.tmps (λe w'=>∃v L',e=.returned v/\cC base W M w0 r.ab w' L'/\ic W ab L w r.ab L' w'/\aA w' W r.ab L' r.val v) a'.defers .returning w':=by
  rintro⟨hq1,Zn,hq3⟩;obtain⟨Ds,h1,h2,h3,_⟩:=r'.r.defers;rw[h1];refine leaves (κ:=⟨W,ab,L,w,base,M,w0,none,none,none⟩) rfl ?_ Ds a' w' L' r'.r h1 h2 h3;intro a2 w2 L2 h4;obtain⟨W',Mn,M',w0',dK,h0⟩:=h4.ex;obtain⟨_,e1,e2,e3,e4⟩:=dK
  replace h0:R0 base W M w0 fn.ntmps dx.tmps dx.ab a2 w2 L2:=by rw[e1,e2,e3,e4]at h0;exact h0
  obtain⟨v,k1,k2⟩:=vw (st:=dx) h0 (gu:=false) (W':=WW W dx.ab L2) (λx=>by cases x) (λb hb=>hb) hr ⟨hq1,rfl⟩;have O4:=h0.o;have uH:=h4.fu;simp only[Zn]at O4 uH k2;refine⟨v,k1,v,L2,rfl,O4,uH, ?_⟩;rw[hq3];simp only[aA];exact k2
 cases e with
 |normal=>exact done q
 |ret=>exact done q
 |_=>exact q.elim
end
end
end Go.DM
namespace Go.DM
open Go.RowKit
variable [bM] [dM]
section
def fj(Γ:pk)(aK:Nat):ai->RS->(RS->Prop)->Prop
 |[],st,K=>K st
 |r::rs,st,K=>
  match r.guard with
  |none=>cX r st.tmps/\vn r st.ab (post Γ aK r st).ab/\(post Γ aK r st).ok/\fj Γ aK rs ⟨c5 st.tmps r.dst (post Γ aK r st).val,(post Γ aK r st).ab,(post Γ aK r st).todo⟩ K
  |some (s,mg)=>
   match st.tmps s with
   |.v (.bool b)=>(b=mg->cX r st.tmps/\vn r st.ab (post Γ aK r st).ab/\(post Γ aK r st).ok/\fj Γ aK rs ⟨c5 (c5 st.tmps (some s) (.v (.bool mg))) r.dst (post Γ aK r st).val,(post Γ aK r st).ab,(post Γ aK r st).todo⟩ K)/\
     (b= !mg->fj Γ aK rs ⟨c5 (c5 st.tmps (some s) (.v (.bool (!mg)))) r.dst .skip,st.ab,st.todo⟩ K)
   |.skip=>fj Γ aK rs ⟨c5 st.tmps r.dst .skip,st.ab,st.todo⟩ K
   |_=>False
def ku{ρ:dj}{s:Nat}{v:DV}(h:ρ s=v):c5 ρ (some s) v=ρ:=by
 funext x;simp only[c5];split
 ·rename_i e;rw[e,h]
 ·rfl
def jm{Γ:pk}{aK:Nat}:∀(rs:ai) (st:RS) (K:RS->Prop),fj Γ aK rs st K->j8 Γ aK rs st/\K (ee Γ aK rs st)
 |[],st,K,h=>⟨trivial,h⟩
 |r::rs,st,K,h=>by
  simp only[fj]at h;simp only[j8,ee];have yes:gp r.guard st.tmps=some true->(cX r st.tmps/\vn r st.ab (post Γ aK r st).ab/\(post Γ aK r st).ok/\fj Γ aK rs ⟨c5 st.tmps r.dst (post Γ aK r st).val,(post Γ aK r st).ab,(post Γ aK r st).todo⟩ K)->(cT Γ aK r st/\j8 Γ aK rs (d7 Γ aK r st))/\K (ee Γ aK rs (d7 Γ aK r st)):=by
   rintro hw ⟨ht,hk4,aN,hk⟩;have e1:d7 Γ aK r st=⟨c5 st.tmps r.dst (post Γ aK r st).val,(post Γ aK r st).ab,(post Γ aK r st).todo⟩:=by simp only[d7,hw]
   have e2:cT Γ aK r st:=by simp only[cT,hw];exact⟨aN,ht,hk4⟩
   rw[e1];have:=jm rs _ K hk;exact⟨⟨e2,this.1⟩,this.2⟩
  have no:gp r.guard st.tmps=some false->fj Γ aK rs ⟨c5 st.tmps r.dst .skip,st.ab,st.todo⟩ K->(cT Γ aK r st/\j8 Γ aK rs (d7 Γ aK r st))/\K (ee Γ aK rs (d7 Γ aK r st)):=by
   rintro hw hk;have e1:d7 Γ aK r st=⟨c5 st.tmps r.dst .skip,st.ab,st.todo⟩:=by simp only[d7,hw]
   have e2:cT Γ aK r st:=by simp only[cT,hw]
   rw[e1];have:=jm rs _ K hk;exact⟨⟨e2,this.1⟩,this.2⟩
  cases hg:r.guard with
  |none=>rw[hg]at h;exact yes (by simp[gp,hg]) h
  |some g=>
   obtain⟨s,mg⟩:=g;rw[hg]at h;simp only at h;cases hs:st.tmps s with
   |skip=>rw[hs]at h;exact no (by simp[gp,hg,hs]) h
   |v t=>
    rw[hs]at h;cases t with
    |bool b=>
     simp only at h;by_cases hb:b=mg
     ·subst hb;rw[ku hs]at h;exact yes (by simp[gp,hg,hs]) (h.1 rfl)
     ·have fI:b= !mg:=by cases b<;>cases mg<;>simp_all
      subst fI;rw[ku hs]at h;exact no (by simp[gp,hg,hs]) (h.2 rfl)
    |_=>exact h.elim
   |_=>rw[hs]at h;exact h.elim
def gT(Γ:pk)(aK:Nat)(rs:ai)(tm:dj)(ob:bq)(td:List (aL))(K:RS->Prop)(dst:Option Nat)(e:si):Prop:=
 e.ok/\fj Γ aK rs ⟨c5 tm dst e.val,cN ob e.put,td⟩ K
def H4(Γ:pk)(aK:Nat)(rs:ai)(tm:dj)(K:RS->Prop)(dst:Option Nat)(e:alA):Prop:=
 e.ok/\fj Γ aK rs ⟨c5 tm dst e.val,e.ab,e.todo⟩ K
def nh(Γ:pk)(aK:Nat)(d:sV)(rs:ai)(tm:dj)(ob:bq)(td:List (aL))(K:RS->Prop)(dst:Option Nat)(gQ:dj):Prop:=
 if sW d then H4 Γ aK rs gQ K dst (pn Γ d tm ob td)else gT Γ aK rs gQ ob td K dst (dw Γ d (bV aK dst) tm ob)
def PT(Γ:pk)(aK:Nat)(d:sV)(rs:ai)(tm:dj)(ob:bq)(td:List (aL))(K:RS->Prop)(dst:Option Nat)(s:Nat)(mg:Bool)(g:DV):Prop:=
 match g with
 |.v (.bool b)=>(b=mg->nh Γ aK d rs tm ob td K dst (c5 tm (some s) (.v (.bool mg))))/\
   (b= !mg->fj Γ aK rs ⟨c5 (c5 tm (some s) (.v (.bool (!mg)))) dst .skip,ob,td⟩ K)
 |.skip=>fj Γ aK rs ⟨c5 tm dst .skip,ob,td⟩ K
 |_=>False
section
variable{Γ:pk}{aK:Nat}{st:RS}{K:RS->Prop}{rs:ai}{tm gQ:dj}{ob:bq}{td:List (aL)}{dst:Option Nat}
def aeH(ok:Prop)(v:DV)(p:Option (Nat×Ob)):gT Γ aK rs tm ob td K dst ⟨ok,v,p⟩=(ok/\fj Γ aK rs ⟨c5 tm dst v,cN ob p,td⟩ K):=rfl
def aar(ok:Prop)(v:DV)(mG:bq)(td':List (aL)):H4 Γ aK rs tm K dst ⟨ok,v,mG,td'⟩=(ok/\fj Γ aK rs ⟨c5 tm dst v,mG,td'⟩ K):=rfl
def aas:gT Γ aK rs tm ob td K dst da=False:=by simp[gT,da]
def XF(f:FuncId)(args:List bW):nh Γ aK (.callS f args) rs tm ob td K dst gQ=H4 Γ aK rs gQ K dst (pn Γ (.callS f args) tm ob td):=by simp[nh,sW]
def XG(x:bW)(args:List bW):nh Γ aK (.callv x args) rs tm ob td K dst gQ=H4 Γ aK rs gQ K dst (pn Γ (.callv x args) tm ob td):=by simp[nh,sW]
def oB(d:sV)(s:Nat)(b mg:Bool):PT Γ aK d rs tm ob td K dst s mg (.v (.bool b))=((b=mg->nh Γ aK d rs tm ob td K dst (c5 tm (some s) (.v (.bool mg))))/\
   (b= !mg->fj Γ aK rs ⟨c5 (c5 tm (some s) (.v (.bool (!mg)))) dst .skip,ob,td⟩ K)):=rfl
def aat:fj Γ aK [] st K=K st:=rfl
def zm{d:sV}{g:Option (Nat×Bool)}{af:cQ}{l:Option (cQ)}:((post Γ aK ⟨d,dst,g,af,l⟩ ⟨tm,ob,td⟩).ok/\fj Γ aK rs ⟨c5 gQ dst (post Γ aK ⟨d,dst,g,af,l⟩ ⟨tm,ob,td⟩).val,(post Γ aK ⟨d,dst,g,af,l⟩ ⟨tm,ob,td⟩).ab,(post Γ aK ⟨d,dst,g,af,l⟩ ⟨tm,ob,td⟩).todo⟩ K)=nh Γ aK d rs tm ob td K dst gQ:=by
 unfold post nh;cases h:sW d<;>simp[gT,H4,oU]
def E3{d:sV}{g:Option (Nat×Bool)}{af:cQ}{o o':bq}:vn ⟨d,dst,g,af,none⟩ o o'=True:=eq_true λ_ l h=>by cases h
def H5(l:cQ)(o o':bq):Prop:=∀n,n∉l->o' n=o n
def E4{d:sV}{g:Option (Nat×Bool)}{af l:cQ}:vn ⟨d,dst,g,af,some l⟩ ob (post Γ aK ⟨d,dst,g,af,some l⟩ ⟨tm,ob,td⟩).ab=(sW d=true->H5 l ob (pn Γ d tm ob td).ab):=by
 unfold vn H5 post;by_cases h:sW d=true
 ·simp[h]
 ·simp[h]
def PU(d:sV)(af:cQ):fj Γ aK (⟨d,dst,none,af,none⟩::rs) ⟨tm,ob,td⟩ K=nh Γ aK d rs tm ob td K dst tm:=by
 simp only[fj,cX,E3,qI];exact zm
def PV(d:sV)(af:cQ)(l:cQ):
  fj Γ aK (⟨d,dst,none,af,some l⟩::rs) ⟨tm,ob,td⟩ K=(cX ⟨d,dst,none,af,some l⟩ tm/\(sW d=true->H5 l ob (pn Γ d tm ob td).ab)/\nh Γ aK d rs tm ob td K dst tm):=by
 simp only[fj];rw[zm,E4]
@[simp low] def p9(d:sV)(s:Nat)(mg:Bool)(af:cQ):
  fj Γ aK (⟨d,dst,some (s,mg),af,none⟩::rs) ⟨tm,ob,td⟩ K=PT Γ aK d rs tm ob td K dst s mg (tm s):=by
 simp only[fj,PT,cX,E3,qI];rw[zm]
end
section
variable{Γ:pk}{aK:Nat}{K:RS->Prop}{rs:ai}{tm:dj}{ob:bq}{td:List (aL)}{dst:Option Nat}{d:sV}{s:Nat}{af:cQ}
@[simp] def aoa(h:tm s=.v (.bool true)):fj Γ aK (⟨d,dst,some (s,true),af,none⟩::rs) ⟨tm,ob,td⟩ K=nh Γ aK d rs tm ob td K dst tm:=by
 rw[p9,h,oB,ku h];simp
@[simp] def aob(h:tm s=.v (.bool false)):fj Γ aK (⟨d,dst,some (s,false),af,none⟩::rs) ⟨tm,ob,td⟩ K=nh Γ aK d rs tm ob td K dst tm:=by
 rw[p9,h,oB,ku h];simp
@[simp] def aoc(h:tm s=.v (.bool true)):fj Γ aK (⟨d,dst,some (s,false),af,none⟩::rs) ⟨tm,ob,td⟩ K=fj Γ aK rs ⟨c5 tm dst .skip,ob,td⟩ K:=by
 rw[p9,h,oB];simp[ku h]
@[simp] def aod(h:tm s=.v (.bool false)):fj Γ aK (⟨d,dst,some (s,true),af,none⟩::rs) ⟨tm,ob,td⟩ K=fj Γ aK rs ⟨c5 tm dst .skip,ob,td⟩ K:=by
 rw[p9,h,oB];simp[ku h]
@[simp] def aoe{mg:Bool}(h:tm s=.skip):fj Γ aK (⟨d,dst,some (s,mg),af,none⟩::rs) ⟨tm,ob,td⟩ K=fj Γ aK rs ⟨c5 tm dst .skip,ob,td⟩ K:=by
 rw[p9,h];rfl
end
def look:eO->Nat->DV
 |[],_=>.undef
 |(j,v)::l,k=>if k=j then v else look l k
def cJ:c7->Nat->Option Ob
 |[],_=>none
 |(j,o)::l,k=>if k=j then some o else cJ l k
def aau(f:dj)(k:Nat)(v:DV)(x:Nat):c5 f (some k) v x=if x=k then v else f x:=rfl
def XH(f:dj)(v:DV):c5 f none v=f:=rfl
def XI(f:bq):cN f none=f:=rfl
def H6(f:bq)(r:Nat)(o:Ob)(x:Nat):cN f (some (r,o)) x=if x=r then some o else f x:=rfl
def nJ(j:Nat)(v:DV)(l:eO)(k:Nat):look ((j,v)::l) k=if k=j then v else look l k:=rfl
def aav(k:Nat):look [] k=.undef:=rfl
def c6(j:Nat)(o:Ob)(l:c7)(k:Nat):cJ ((j,o)::l) k=if k=j then some o else cJ l k:=rfl
def ii(k:Nat):cJ [] k=none:=rfl
def aaw(l:c7)(r:Nat)(o:Ob):cN (cJ l) (some (r,o))=cJ ((r,o)::l):=rfl
def lU(ks:cQ)(tm:dj):eO:=ks.map λk=>(k,tm k)
def E5(k:Nat)(ks:cQ)(tm:dj):lU (k::ks) tm=(k,tm k)::lU ks tm:=rfl
def XJ(tm:dj):lU [] tm=[]:=rfl
def lG(tm:dj):∀(ks:cQ) (k:Nat),look (lU ks tm) k=.undef\/look (lU ks tm) k=tm k
 |[],_=>.inl rfl
 |j::ks,k=>by
  rw[E5,nJ];split
  ·rename_i h;exact .inr (by rw[h])
  ·exact lG tm ks k
def Le.vy{st:ma}{tm:dj}(h:∀k,tm k=.undef\/tm k=st.tmps k):Le st ⟨tm,st.ab,st.aK,st.low,st.todo⟩:=λκ nt a w L r=>
 ⟨L,⟨by
  obtain⟨W,base,M,w0,dK,h0⟩:=r.r.ex;exact⟨W,base,M,w0,dK,h0.size,λt=>by
   rcases h t with e|e
   ·show aA w W st.ab L (tm t) _;rw[e];simp[aA]
   ·show aA w W st.ab L (tm t) _;rw[e];exact h0.tmps t,h0.o⟩,r.r.fu,r.r.defers,r.r.bg,r.r.cj⟩,r.fresh,r.low,r.it⟩
def XK(ts:aL):Le (rR ts) ⟨look ((ts.map .v).zipIdx.map λp=>(p.2,p.1)),cJ [],1000,1000,[]⟩:=by
 have key:∀(ts:aL) (i k:Nat),look (((ts.map .v).zipIdx i).map λp=>(p.2,p.1)) k=.undef\/look (((ts.map .v).zipIdx i).map λp=>(p.2,p.1)) k=PP (if i<=k then ts[k-i]? else none):=by
  intro ts;induction ts with
  |nil=>intro i k;exact .inl rfl
  |cons t ts ih=>
   intro i k;simp only[qD,Zc2,nJ];split
   ·rename_i h;subst h;exact .inr (by simp[PP])
   ·rename_i h;rcases ih (i+1) k with e|e
    ·exact .inl e
    ·right;rw[e];by_cases hk:i+1<=k
     ·rw[cF hk,cF (by omega),show k-i=(k-(i+1))+1 by omega,Zb]
     ·have:¬i<=k:=by omega
      rw[aZ hk,aZ this]
 refine Le.trans (Le.vy (st:=rR ts) (tm:=look ((ts.map .v).zipIdx.map λp=>(p.2,p.1))) λk=>?_) (λκ nt a w L r=>⟨L,r⟩);have:=key ts 0 k;simpa [rR]using this
section
variable{P:Program}{nt:Nat}{Γ:pk}{Q:Exit->ma->Prop}{st:ma}{tm:dj}{ob:bq}{aK low:Nat}{td:List (aL)}
def aa.fJ(aC:ay P Γ)(hm:P.follows .mixedOrders=true){iO:Bool}{rs:ai}(ks:cQ)
  (h:fj Γ aK rs ⟨tm,ob,td⟩ λs=>Q .normal ⟨look (lU ks s.tmps),s.ab,aK+nt+1,low,s.todo⟩):aa P nt (.region iO rs) Q ⟨tm,ob,aK,low,td⟩:=by
 have:=jm _ _ _ h;refine aa.zk (Q:=λe s=>e=.normal/\s=⟨(ee Γ aK rs ⟨tm,ob,td⟩).tmps,(ee Γ aK rs ⟨tm,ob,td⟩).ab,aK+nt+1,low,(ee Γ aK rs ⟨tm,ob,td⟩).todo⟩) (aa.region aC hm (st:=⟨tm,ob,aK,low,td⟩) this.1 ⟨rfl,rfl⟩) ?_;rintro e s ⟨rfl,rfl⟩;exact⟨_,Le.vy (lG _ ks),this.2⟩
def aa.ag(aC:ay P Γ)(hm:P.follows .mixedOrders=true){iO:Bool}{rs:ai}{b:DC}(ks:cQ)
  (h:fj Γ aK rs ⟨tm,ob,td⟩ λs=>aa P nt b Q ⟨look (lU ks s.tmps),s.ab,aK+nt+1,low,s.todo⟩):aa P nt (.seq (.region iO rs) b) Q ⟨tm,ob,aK,low,td⟩:=
 aa.seq (aa.fJ aC hm ks h)
def aa.qa(aC:ay P Γ)(hm:P.follows .mixedOrders=true){d:DC}{rs:ai}(hd:d=.jQ (rs.map bare)\/∃iO,d=.region iO (rs.map bare))(aN:eE nt true rs=true)(ks:cQ)
  (h:fj Γ aK rs ⟨tm,ob,td⟩ λs=>Q .normal ⟨look (lU ks s.tmps),s.ab,aK+nt+1,low,s.todo⟩):aa P nt d Q ⟨tm,ob,aK,low,td⟩:=by
 have:=jm _ _ _ h;refine aa.zk (Q:=λe s=>e=.normal/\s=⟨(ee Γ aK rs ⟨tm,ob,td⟩).tmps,(ee Γ aK rs ⟨tm,ob,td⟩).ab,aK+nt+1,low,(ee Γ aK rs ⟨tm,ob,td⟩).todo⟩) (aa.aeF aC hm hd aN (st:=⟨tm,ob,aK,low,td⟩) this.1 ⟨rfl,rfl⟩) ?_;rintro e s ⟨rfl,rfl⟩;exact⟨_,Le.vy (lG _ ks),this.2⟩
def aa.kv(aC:ay P Γ)(hm:P.follows .mixedOrders=true){d b:DC}{rs:ai}(hd:d=.jQ (rs.map bare)\/∃iO,d=.region iO (rs.map bare))(aN:eE nt true rs=true)(ks:cQ)
  (h:fj Γ aK rs ⟨tm,ob,td⟩ λs=>aa P nt b Q ⟨look (lU ks s.tmps),s.ab,aK+nt+1,low,s.todo⟩):aa P nt (.seq d b) Q ⟨tm,ob,aK,low,td⟩:=
 aa.seq (aa.qa aC hm hd aN ks h)
end
def aT{P:Program}{nt:Nat}{d:DC}{Q:Exit->ma->Prop}{ts:aL}(h:aa P nt d Q ⟨look ((ts.map .v).zipIdx.map λp=>(p.2,p.1)),cJ [],1000,1000,[]⟩):aa P nt d Q (rR ts):=aa.le (XK ts) h
section
variable{Γ:pk}{aK:Nat}{K:RS->Prop}{rs:ai}{tm gQ:dj}{ob:bq}{td:List (aL)}{dst:Option Nat}
@[simp] def atr(x:bW):nh Γ aK (.sh x) rs tm ob td K dst gQ=gT Γ aK rs gQ ob td K dst (dw Γ (.sh x) (bV aK dst) tm ob):=rfl
@[simp] def ao4(c a b:bW):nh Γ aK (.pick c a b) rs tm ob td K dst gQ=gT Γ aK rs gQ ob td K dst (dw Γ (.pick c a b) (bV aK dst) tm ob):=rfl
@[simp] def aof(zero:bF):nh Γ aK (.alloc zero) rs tm ob td K dst gQ=gT Γ aK rs gQ ob td K dst (dw Γ (.alloc zero) (bV aK dst) tm ob):=rfl
@[simp] def ats(x:bW):nh Γ aK (.box x) rs tm ob td K dst gQ=gT Γ aK rs gQ ob td K dst (dw Γ (.box x) (bV aK dst) tm ob):=rfl
@[simp] def aog(zero:bF)(parts:List (Nat×Nat×bW)):nh Γ aK (.build zero parts) rs tm ob td K dst gQ=gT Γ aK rs gQ ob td K dst (dw Γ (.build zero parts) (bV aK dst) tm ob):=rfl
@[simp] def alM(len sz:Nat)(zero:bF)(parts:List (Nat×Nat×bW)):nh Γ aK (.bslice len sz zero parts) rs tm ob td K dst gQ=gT Γ aK rs gQ ob td K dst (dw Γ (.bslice len sz zero parts) (bV aK dst) tm ob):=rfl
@[simp] def ao5(n:Nat)(agg:Bool)(x:bW):nh Γ aK (.load n agg x) rs tm ob td K dst gQ=gT Γ aK rs gQ ob td K dst (dw Γ (.load n agg x) (bV aK dst) tm ob):=rfl
@[simp] def aoh(n:Nat)(x y:bW):nh Γ aK (.store n x y) rs tm ob td K dst gQ=gT Γ aK rs gQ ob td K dst (dw Γ (.store n x y) (bV aK dst) tm ob):=rfl
@[simp] def atu(op:BinOp)(x y:bW):nh Γ aK (.bin op x y) rs tm ob td K dst gQ=gT Γ aK rs gQ ob td K dst (dw Γ (.bin op x y) (bV aK dst) tm ob):=rfl
@[simp] def atv(neg agg:Bool)(cy:List Sh)(x y:bW):nh Γ aK (.eqT neg agg cy x y) rs tm ob td K dst gQ=gT Γ aK rs gQ ob td K dst (dw Γ (.eqT neg agg cy x y) (bV aK dst) tm ob):=rfl
@[simp] def atN(op:UnOp)(x:bW):nh Γ aK (.un op x) rs tm ob td K dst gQ=gT Γ aK rs gQ ob td K dst (dw Γ (.un op x) (bV aK dst) tm ob):=rfl
@[simp] def ao6(k:IntKind)(x:bW):nh Γ aK (.conv k x) rs tm ob td K dst gQ=gT Γ aK rs gQ ob td K dst (dw Γ (.conv k x) (bV aK dst) tm ob):=rfl
@[simp] def alN(k:Nat)(x:bW):nh Γ aK (.addOff k x) rs tm ob td K dst gQ=gT Γ aK rs gQ ob td K dst (dw Γ (.addOff k x) (bV aK dst) tm ob):=rfl
@[simp] def aeI(x:bW):nh Γ aK (.nilCheck x) rs tm ob td K dst gQ=gT Γ aK rs gQ ob td K dst (dw Γ (.nilCheck x) (bV aK dst) tm ob):=rfl
@[simp] def agx(sz:Nat)(x i:bW):nh Γ aK (.idxAddr sz x i) rs tm ob td K dst gQ=gT Γ aK rs gQ ob td K dst (dw Γ (.idxAddr sz x i) (bV aK dst) tm ob):=rfl
@[simp] def agy(len sz:Nat)(x i:bW):nh Γ aK (.arrAddr len sz x i) rs tm ob td K dst gQ=gT Γ aK rs gQ ob td K dst (dw Γ (.arrAddr len sz x i) (bV aK dst) tm ob):=rfl
@[simp] def aoi(off n:Nat)(agg:Bool)(x:bW):nh Γ aK (.field off n agg x) rs tm ob td K dst gQ=gT Γ aK rs gQ ob td K dst (dw Γ (.field off n agg x) (bV aK dst) tm ob):=rfl
@[simp] def aoj(sz:Nat)(x:bW)(lo hi:Option bW):nh Γ aK (.slice sz x lo hi) rs tm ob td K dst gQ=gT Γ aK rs gQ ob td K dst (dw Γ (.slice sz x lo hi) (bV aK dst) tm ob):=rfl
@[simp] def agz(i:Nat)(x:bW):nh Γ aK (.extract i x) rs tm ob td K dst gQ=gT Γ aK rs gQ ob td K dst (dw Γ (.extract i x) (bV aK dst) tm ob):=rfl
@[simp] def ao7(f:FuncId)(args:List bW):nh Γ aK (.call f args) rs tm ob td K dst gQ=gT Γ aK rs gQ ob td K dst (dw Γ (.call f args) (bV aK dst) tm ob):=rfl
@[simp] def atw(x:bW):nh Γ aK (.len x) rs tm ob td K dst gQ=gT Γ aK rs gQ ob td K dst (dw Γ (.len x) (bV aK dst) tm ob):=rfl
@[simp] def ao8(x:bW):nh Γ aK (.lenS x) rs tm ob td K dst gQ=gT Γ aK rs gQ ob td K dst (dw Γ (.lenS x) (bV aK dst) tm ob):=rfl
@[simp] def alO(LN:Bool)(x y:bW):nh Γ aK (.minmax LN x y) rs tm ob td K dst gQ=gT Γ aK rs gQ ob td K dst (dw Γ (.minmax LN x y) (bV aK dst) tm ob):=rfl
@[simp] def alP(e sz bytes:Nat)(x y:bW):nh Γ aK (.append e sz bytes x y) rs tm ob td K dst gQ=gT Γ aK rs gQ ob td K dst (dw Γ (.append e sz bytes x y) (bV aK dst) tm ob):=rfl
@[simp] def agA(e sz bytes:Nat)(zero:aL)(n:bW):nh Γ aK (.mkSlice e sz bytes zero n) rs tm ob td K dst gQ=gT Γ aK rs gQ ob td K dst (dw Γ (.mkSlice e sz bytes zero n) (bV aK dst) tm ob):=rfl
@[simp] def aeJ(e sz bytes:Nat)(zero:aL)(n:bW):nh Γ aK (.mkSliceB e sz bytes zero n) rs tm ob td K dst gQ=gT Γ aK rs gQ ob td K dst (dw Γ (.mkSliceB e sz bytes zero n) (bV aK dst) tm ob):=rfl
@[simp] def ao9(f:Fn)(ch:List bW):nh Γ aK (.mkFn f ch) rs tm ob td K dst gQ=gT Γ aK rs gQ ob td K dst (dw Γ (.mkFn f ch) (bV aK dst) tm ob):=rfl
@[simp] def aok(f:FuncId)(args:List bW):nh Γ aK (.callR f args) rs tm ob td K dst gQ=gT Γ aK rs gQ ob td K dst (dw Γ (.callR f args) (bV aK dst) tm ob):=rfl
@[simp] def aol(f:FuncId)(args:List bW):nh Γ aK (.callF f args) rs tm ob td K dst gQ=gT Γ aK rs gQ ob td K dst (dw Γ (.callF f args) (bV aK dst) tm ob):=rfl
@[simp] def aom(cy:List Sh)(agg:Bool):nh Γ aK (.mkMap cy agg) rs tm ob td K dst gQ=gT Γ aK rs gQ ob td K dst (dw Γ (.mkMap cy agg) (bV aK dst) tm ob):=rfl
@[simp] def alQ(cy:List Sh)(agg:Bool)(zero:DV)(ok:Bool)(x k:bW):nh Γ aK (.lookup cy agg zero ok x k) rs tm ob td K dst gQ=gT Γ aK rs gQ ob td K dst (dw Γ (.lookup cy agg zero ok x k) (bV aK dst) tm ob):=rfl
@[simp] def alR(cy:List Sh)(agg:Bool)(x k y:bW):nh Γ aK (.mapUpd cy agg x k y) rs tm ob td K dst gQ=gT Γ aK rs gQ ob td K dst (dw Γ (.mapUpd cy agg x k y) (bV aK dst) tm ob):=rfl
@[simp] def alS(cy:List Sh)(agg:Bool)(z:DV)(x k:bW):nh Γ aK (.mapEnt cy agg z x k) rs tm ob td K dst gQ=gT Γ aK rs gQ ob td K dst (dw Γ (.mapEnt cy agg z x k) (bV aK dst) tm ob):=rfl
@[simp] def aon(x s y:bW):nh Γ aK (.entSt x s y) rs tm ob td K dst gQ=gT Γ aK rs gQ ob td K dst (dw Γ (.entSt x s y) (bV aK dst) tm ob):=rfl
@[simp] def alT(cy:List Sh)(agg:Bool)(x k:bW):nh Γ aK (.mapDel cy agg x k) rs tm ob td K dst gQ=gT Γ aK rs gQ ob td K dst (dw Γ (.mapDel cy agg x k) (bV aK dst) tm ob):=rfl
@[simp] def apa(x:bW):nh Γ aK (.lenM x) rs tm ob td K dst gQ=gT Γ aK rs gQ ob td K dst (dw Γ (.lenM x) (bV aK dst) tm ob):=rfl
@[simp] def alU(x:bW):nh Γ aK (.rangeM x) rs tm ob td K dst gQ=gT Γ aK rs gQ ob td K dst (dw Γ (.rangeM x) (bV aK dst) tm ob):=rfl
@[simp] def apb(sz:Nat)(x y:bW):nh Γ aK (.copy sz x y) rs tm ob td K dst gQ=gT Γ aK rs gQ ob td K dst (dw Γ (.copy sz x y) (bV aK dst) tm ob):=rfl
@[simp] def aoo(kind:Nat)(neg:Bool)(x:bW):nh Γ aK (.isNil kind neg x) rs tm ob td K dst gQ=gT Γ aK rs gQ ob td K dst (dw Γ (.isNil kind neg x) (bV aK dst) tm ob):=rfl
@[simp] def alV(x i:bW):nh Γ aK (.indexS x i) rs tm ob td K dst gQ=gT Γ aK rs gQ ob td K dst (dw Γ (.indexS x i) (bV aK dst) tm ob):=rfl
@[simp] def apc:nh Γ aK (.fail) rs tm ob td K dst gQ=gT Γ aK rs gQ ob td K dst (dw Γ (.fail) (bV aK dst) tm ob):=rfl
@[simp] def alW(x:bW):nh Γ aK (.entryM x) rs tm ob td K dst gQ=H4 Γ aK rs gQ K dst (pn Γ (.entryM x) tm ob td):=by simp[nh,sW]
end
attribute [simp] H6 aeH aar aas XF XG pn oB aat PU PV aau XH XI aaw nJ aav c6 ii E5 XJ
attribute [simp] dw bW.ev jg my u7 Ep Se iK lP tg lF pP oj Er Es Et jZ th xG wb pC fY iL mz gF HO qN pS pR nz jA jB la jC tj lQ lR ko gG pD AV Pp fa yX
attribute [simp] PQ Bd aaq p7 kQ oA dS.oU nS cellsOf fp kY u5 jz cG wY u6 uD jF Hl uE bV Eo eZ I9 ib uu Mm PN sW
def aF{x:Int}(h: -9223372036854775808<=x/\x<=9223372036854775807):IntKind.i64.wrap x=x:=by
 simp[IntKind.wrap,IntKind.bits,IntKind.signed];omega
def E6{x:Int}(h:0<=x):x.tdiv 2=x/2:=Int.tdiv_eq_ediv_of_nonneg h
end
end Go.DM
namespace Go.DM
open Go.RowKit
section
variable{P:Program}{f sz:Nat}{fn:aL->List (aL)}
variable [bM] [dM]
def bB:List (Nat×Spec)->pk
 |[],_=>none
 |(g,s)::l,f=>if f=g then some s else bB l f
def ay.nil:ay P (bB []):=λ_ _ h=>by cases h
def ay.add{s:Spec}{l:List (Nat×Spec)}(h:ay P (bB l))(k:Z1 P f s):ay P (bB ((f,s)::l)):=by
 intro g s' hg;simp only[bB]at hg;split at hg
 ·rename_i e;cases hg;subst e;exact k
 ·exact h g s' hg
def ay.cons{s:Spec}{l:List (Nat×Spec)}(h:ay P (bB l))
  (k:∀ts,s.pre ts->bw P f ts (s.fn ts)/\(s.jY=true->jk (s.fn ts)=true)) (hs:s.st=none:=by rfl) (w6:s.fresh=none:=by rfl):ay P (bB ((f,s)::l)):=
 h.add ⟨k,λe sz hf=>(by rw[w6]at hf;cases hf),λk hk=>(by rw[hs]at hk;cases hk)⟩
def en(k:bF->bq->fV):Spec:=⟨λ_=>False,λ_=>.bool false,true,some k,none,false⟩
def ay.ij{k:bF->bq->fV}{l:List (Nat×Spec)}(h:ay P (bB l))
  (hk:∀args ab,(k args ab).ok->(∀N,(∀r,N<=r->ab r=none)->aQ P f args ab (k args ab))/\∀r,ab r=none->(k args ab).ab r=none):ay P (bB ((f,en k)::l)):=
 h.add ⟨λ_ h=>h.elim,λ_ _ h=>(by cases h),λk' e=>by cases e;exact hk⟩
def pW.ok{f:FuncId}{ts:aL}{e:Nat}{av:List (aL)}(h:pW P f ts e sz av):bw P f ts (.sl av):=
 ⟨h.entry,λW w cI hW hg hr=>(h.run W w cI hW hg hr).mono λe' w' ⟨v,h1,hb,hf⟩=>⟨v,h1,hb,by
  simp only[bm];rcases hf.it with⟨h2,a,h3⟩|⟨g,cap,eH,h2,hp,yO,hh,h3,h4,h5,h6⟩
  ·exact .inl ⟨h2,a,0,h3⟩
  ·refine .inr ⟨g,0,cap,sz,h2,(v8.1 hh).1,λhw=>?_,h3,bD.j5 (bl.bH (dv.refl (λb=>W b\/b=g) w').toKeepsC (λb _ hb=>.inl hb) _ _ h6) hf.len λj v hv=>?_⟩
   ·have:=hW g hw;omega
   ·rw[Lo,cell_of_row w' g j eH e (0,0) hh];rw[HR]at hv;split at hv
    ·simpa using hv
    ·cases hv⟩⟩
def zn(pre:aL->Prop)(fn:aL->List (aL))(e sz:Nat):Spec:=⟨pre,λts=>.sl (fn ts),false,none,some (e,sz),false⟩
def ay.aax{pre:aL->Prop}{e:Nat}{l:List (Nat×Spec)}(h:ay P (bB l))(k:∀ts,pre ts->pW P f ts e sz (fn ts)):ay P (bB ((f,zn pre fn e sz)::l)):=
 h.add ⟨λts hp=>⟨(k ts hp).ok,λx=>by cases x⟩,λe' jh hf ts hp=>(by cases hf;exact⟨_,rfl,k ts hp,λx=>by cases x⟩),λk hk=>(by cases hk)⟩
def E7(pre:aL->Prop)(fn:aL->List (aL))(e sz:Nat):Spec:=⟨pre,λts=>.sl (fn ts),false,none,some (e,sz),true⟩
def ay.agB{pre:aL->Prop}{e:Nat}{l:List (Nat×Spec)}(h:ay P (bB l))(k:∀ts,pre ts->pW P f ts e sz (fn ts)/\jk.jv (fn ts).flatten=true):ay P (bB ((f,E7 pre fn e sz)::l)):=
 h.add ⟨λts hp=>⟨(k ts hp).1.ok,λx=>by cases x⟩,λe' jh hf ts hp=>(by cases hf;exact⟨_,rfl,(k ts hp).1,λ_=>(k ts hp).2⟩),λk hk=>(by cases hk)⟩
@[simp] def agC(pre:aL->Prop)(fn:aL->List (aL))(e sz:Nat):(E7 pre fn e sz).fresh=some (e,sz):=rfl
@[simp] def apd(pre:aL->Prop)(fn:aL->List (aL))(e sz:Nat)(ts:aL):(E7 pre fn e sz).fn ts=.sl (fn ts):=rfl
@[simp] def aop(pre:aL->Prop)(fn:aL->List (aL))(e sz:Nat):(E7 pre fn e sz).pre=pre:=rfl
@[simp] def alX(pre:aL->Prop)(fn:aL->List (aL))(e sz:Nat):(E7 pre fn e sz).gu=true:=rfl
@[simp] def alY(pre:aL->Prop)(fn:aL->List (aL))(e sz:Nat):(zn pre fn e sz).gu=false:=rfl
@[simp] def agD(pre:aL->Prop)(fn:aL->List (aL))(e sz:Nat):(zn pre fn e sz).fresh=some (e,sz):=rfl
@[simp] def ape(pre:aL->Prop)(fn:aL->List (aL))(e sz:Nat)(ts:aL):(zn pre fn e sz).fn ts=.sl (fn ts):=rfl
@[simp] def aoq(pre:aL->Prop)(fn:aL->List (aL))(e sz:Nat):(zn pre fn e sz).pre=pre:=rfl
def dh(pre:aL->Prop)(fn:aL->T)(jY:Bool):Spec:=⟨pre,fn,jY,none,none,false⟩
@[simp] def aor(pre:aL->Prop)(fn:aL->T)(jY:Bool):(dh pre fn jY).pre=pre:=rfl
@[simp] def apf(pre:aL->Prop)(fn:aL->T)(jY:Bool):(dh pre fn jY).fn=fn:=rfl
@[simp] def aeK(pre:aL->Prop)(fn:aL->T)(jY:Bool):(dh pre fn jY).jY=jY:=rfl
@[simp] def apg(pre:aL->Prop)(fn:aL->T)(jY:Bool):(dh pre fn jY).st=none:=rfl
@[simp] def aph(pre:aL->Prop)(fn:aL->List (aL))(e sz:Nat):(zn pre fn e sz).st=none:=rfl
@[simp] def api(k:bF->bq->fV):(en k).st=some k:=rfl
def PW(g f:Nat)(s:Spec)(l:List (Nat×Spec)):bB ((g,s)::l) f=if f=g then some s else bB l f:=rfl
def XL(f:Nat):bB [] f=none:=rfl
attribute [simp] PW XL
theorem bw.agE{P:Program}{f:FuncId}{ts:aL}{t:T}(h:bw P f ts t){w:World}{cI:Array Value}(hg:Hk w λ_=>False)(hr:ga w (λ_=>False) ts cI.toList):
  Calls P f cI w λe w'=>∃v,e=.returned v/\wL w.heap.size w w'/\bm w' (λ_=>False) t v:=
 h.run (λ_=>False) w cI (λ_ h=>h.elim) hg hr
@[simp] def apj(n:Nat)(h:n<9223372036854775808):IntKind.i64.wrap (no_index (@OfNat.ofNat Int n instOfNat))= @OfNat.ofNat Int n instOfNat:=by
 have e:(@OfNat.ofNat Int n instOfNat)=(n:Int):=rfl;rw[e,aF (by omega)]
@[simp] def apk(n:Nat)(h:n<9223372036854775808):IntKind.i64.wrap (-(no_index (@OfNat.ofNat Int n instOfNat)))= -(@OfNat.ofNat Int n instOfNat):=by
 have e:(@OfNat.ofNat Int n instOfNat)=(n:Int):=rfl;rw[e,aF (by omega)]
end
section
variable{o':Ob}{r:Nat}
variable [bM] [dM]
def gone(aJ:bq)(σ:Nat->Nat)(r:Nat):Prop:=∀r',aJ r'≠none->σ r'≠r
def aaz(ab aJ:bq)(σ:Nat->Nat)(r off:Nat):DV->Prop
 |.ptr r' Mr=>r=σ r'/\off=Mr/\∃cs,aJ r'=some (.box cs)
 |.jd cs Mr=>off=Mr/\ab r=some (.box (cs.map .v))/\gone aJ σ r
 |.v (.box cs)=>off=0/\ab r=some (.box (cs.map .v))/\gone aJ σ r
 |_=>False
def zq(ab aJ:bq)(σ:Nat->Nat)(r bJ:Nat):DV->Prop
 |.bC r' cw=>r=σ r'/\∃e sz av e' jh fc,ab r=some (.bE bJ e sz av)/\aJ r'=some (.bE cw e' jh fc)
 |.v (.sl av)=>(∃e sz,ab r=some (.bE bJ e sz av))/\gone aJ σ r
 |_=>False
def SD(ab aJ:bq)(σ:Nat->Nat)(r bJ:Nat)(i:Int)(off:Nat):DV->Prop
 |.kO r' cw i' Mr=>r=σ r'/\i=i'/\off=Mr/\∃e sz av e' jh fc,ab r=some (.bE bJ e sz av)/\aJ r'=some (.bE cw e' jh fc)/\sz=jh/\av.length=fc.length
 |_=>False
def sA:Option Ob->Prop
 |some (.map _ _ _ _)=>True
 |_=>False
def Fa:Option Ob->Prop
 |some (.cm _ _ _ _)=>True
 |_=>False
def qc(aJ:bq)(σ:Nat->Nat)(r:Nat):DV->Prop
 |.je r'=>r=σ r'/\sA (aJ r')
 |_=>False
def aaA(aJ:bq)(σ:Nat->Nat)(r:Nat):DV->Prop
 |.cm r'=>r=σ r'/\Fa (aJ r')
 |_=>False
def al0(ab aJ:bq)(σ:Nat->Nat)(r bJ lo n:Nat):DV->Prop
 |.wa r' cw lo' n'=>r=σ r'/\lo=lo'/\n=n'/\∃e sz av e' jh fc,ab r=some (.bE bJ e sz av)/\aJ r'=some (.bE cw e' jh fc)/\sz=jh/\av.length=fc.length
 |.v (.sl fc)=>(∃e sz av,ab r=some (.bE bJ e sz av)/\fc=(av.drop lo).take n)/\gone aJ σ r
 |_=>False
def aaB(ab aJ:bq)(σ:Nat->Nat)(r n:Nat):DV->Prop
 |.Hq r' n'=>r=σ r'/\n=n'/\∃cs,aJ r'=some (.box cs)
 |.v (.sl av)=>av.length=n/\(∃sz,∀x∈av,x.length=sz)/\ab r=some (.box (av.flatten.map .v))/\gone aJ σ r
 |_=>False
def Fb{o:Option Ob}(h:sA o):∃cy agg c es,o=some (.map cy agg c es):=by
 unfold sA at h;split at h
 ·exact⟨_,_,_,_,rfl⟩
 ·exact h.elim
def XN{o:Option Ob}(h:Fa o):∃m s sn l,o=some (.cm m s sn l):=by
 unfold Fa at h;split at h
 ·exact⟨_,_,_,_,rfl⟩
 ·exact h.elim
def JM:DV->Option (bF)
 |.agg ds=>some ds
 |.v (.agg ts)=>some (ts.map .v)
 |_=>none
mutual
def iY(ab aJ:bq)(σ:Nat->Nat):DV->DV->Prop
 |.aX,d'=>d'=.undef\/d'=.aX\/d'=.v (.sl [])
 |.ptr r off,d'=>d'=.undef\/aaz ab aJ σ r off d'
 |.bC r bJ,d'=>d'=.undef\/zq ab aJ σ r bJ d'
 |.kO r bJ i off,d'=>d'=.undef\/SD ab aJ σ r bJ i off d'
 |.agg ds,d'=>d'=.undef\/match JM d' with|some rP=>iF ab aJ σ ds rP|none=>False
 |.undef,d'=>d'=.undef
 |.skip,d'=>d'=.undef\/d'=.skip
 |.v t,d'=>d'=.undef\/d'=.v t
 |.mV av i off,d'=>d'=.undef\/d'=.mV av i off
 |.jd cs off,d'=>d'=.undef\/d'=.jd cs off
 |.Po,d'=>d'=.undef\/d'=.Po
 |.je r,d'=>d'=.undef\/qc aJ σ r d'
 |.cm r,d'=>d'=.undef\/aaA aJ σ r d'
 |.wa r bJ lo n,d'=>d'=.undef\/al0 ab aJ σ r bJ lo n d'
 |.Hq r n,d'=>d'=.undef\/aaB ab aJ σ r n d'
 |.ew ds,d'=>d'=.undef\/match d' with|.ew rP=>iF ab aJ σ ds rP|_=>False
 |.oP f ds,d'=>d'=.undef\/match d' with|.oP f' rP=>f=f'/\iF ab aJ σ ds rP|.v (.fn f' ts)=>f=f'/\iF ab aJ σ ds (ts.map .v)|_=>False
def iF(ab aJ:bq)(σ:Nat->Nat):bF->bF->Prop
 |[],rP=>rP=[]
 |d::ds,rP=>match rP with
  |[]=>False
  |d'::rP=>iY ab aJ σ d d'/\iF ab aJ σ ds rP
end
def ka(ab aJ:bq)(σ:Nat->Nat):List (Nat×T×DV)->List (Nat×T×DV)->Prop
 |[],ol=>ol=[]
 |e::es,ol=>match ol with
  |[]=>False
  |e'::ol=>e.1=e'.1/\e.2.1=e'.2.1/\iY ab aJ σ e.2.2 e'.2.2/\ka ab aJ σ es ol
def qd{ab aJ:bq}{σ:Nat->Nat}:∀{es:List (Nat×T×DV)},(∀e∈es,iY ab aJ σ e.2.2 e.2.2)->ka ab aJ σ es es
 |[],_=>by simp[ka]
 |e::es,h=>by simp only[ka];exact⟨trivial,trivial,h e (by simp),qd λe he=>h e (by simp[he])⟩
def o8(ab aJ:bq)(σ:Nat->Nat):Ob->Ob->Prop
 |.box cs,.box wZ=>iF ab aJ σ cs wZ
 |.bE _ e sz av,.bE _ e' jh fc=>e=e'/\sz=jh/\av=fc
 |.map cy agg c es,.map kZ k9 c' ol=>cy=kZ/\agg=k9/\c=c'/\ka ab aJ σ es ol
 |.cm m s sn l,.cm m' s' sn' l'=>m=σ m'/\s=s'/\sn=sn'/\l=l'/\sA (aJ m')
 |_,_=>False
def jR:Ob->Ob->Prop
 |.box _,.box _=>True
 |.bE v _ sz av,.bE v' _ jh fc=>v=v'/\sz=jh/\av.length=fc.length
 |.map _ _ _ _,.map _ _ _ _=>True
 |.cm _ _ _ _,.cm _ _ _ _=>True
 |_,_=>False
def zr{o:Ob}(h:jR o o'):o'.kind=o.kind:=by cases o<;>cases o'<;>first|rfl|exact h.elim
def Loc.Fc(L:Loc)(σ:Nat->Nat):Loc:=⟨λr=>L.jX (σ r),λr=>L.sl (σ r),L.yl⟩
section
variable{base:Nat}{W M:fH}{w0 w:World}{ab aJ:bq}{L:Loc}{σ:Nat->Nat}
def wo{o:Ob}(h:o8 ab aJ σ o o')(r:Nat):(L.Fc σ).own r o'=L.own (σ r) o:=by
 cases o<;>cases o'<;>first|rfl|exact h.elim
def mH(gP:∀r' o',aJ r'=some o'->∃o,ab (σ r')=some o/\∀r,(L.Fc σ).own r o'=L.own (σ r) o)(b:Nat)(h:WW W aJ (L.Fc σ) b):WW W ab L b:=by
 rcases h with h|⟨r',o',h1,h2⟩
 ·exact .inl h
 ·obtain⟨o,h3,h4⟩:=gP r' o' h1;exact .inr ⟨σ r',o,h3,by rw[<-h4];exact h2⟩
def Fd(hO:cC base W M w0 ab w L)(gP:∀r' o',aJ r'=some o'->∃o,ab (σ r')=some o/\∀r,(L.Fc σ).own r o'=L.own (σ r) o){b:Nat}{o:Ob}(hr:ab r=some o)(hb:L.own r o=some b)(hg:gone aJ σ r):¬WW W aJ (L.Fc σ) b:=by
 rintro(h|⟨r',o',h1,h2⟩)
 ·exact hO.sk r o b hr hb h
 ·obtain⟨o2,h3,h4⟩:=gP r' o' h1;rw[h4]at h2;exact hO.apart r (σ r') o o2 b (λe=>hg r' (by rw[h1];exact λe=>by cases e) e.symm) hr h3 hb h2
def xR(hO:cC base W M w0 ab w L)(gP:∀r' o',aJ r'=some o'->∃o,ab (σ r')=some o/\∀r,(L.Fc σ).own r o'=L.own (σ r) o){cs:aL}(hr:ab r=some (.box (cs.map .v)))(hg:gone aJ σ r):
  L.jX r<w.heap.size/\¬WW W aJ (L.Fc σ) (L.jX r)/\eD w (WW W aJ (L.Fc σ)) (L.jX r) 0 cs:=by
 have hb:=hO.ob r _ hr;obtain⟨c,e,hc,ig,_⟩:=hb;refine⟨(v8.1 hc).1,Fd hO gP hr rfl hg,eD.En cs 0 λj t hj=>?_⟩;have hd:(cs.map DV.v)[j]? =some (.v t):=by simp[hj]
 obtain⟨v,hv,h1,h2⟩:=aR.get ig hd;simp only[aA]at h2;refine⟨v, ?_,h1,bm.bH (dv.refl (WW W ab L) w).toKeepsC (λb _ hb=>mH gP b hb) t v h2⟩;simp only[World.cell?,hc,Lo];simpa using hv
def P0(hO:cC base W M w0 ab w L)(gP:∀r' o',aJ r'=some o'->∃o,ab (σ r')=some o/\∀r,(L.Fc σ).own r o'=L.own (σ r) o){bJ e sz:Nat}{av:List (aL)}(hr:ab r=some (.bE bJ e sz av))(hg:gone aJ σ r):
  bm w (WW W aJ (L.Fc σ)) (.sl av) (L.sl r):=by
 have rV:=hO.ob r _ hr;obtain⟨ji,eQ,hm,oQ⟩:=rV;simp only[bm];rcases oQ with⟨rfl,p,hp⟩|⟨g',cap,eH,ux,hp,hh,jW,tp,Jg,ig⟩
 ·exact .inl ⟨rfl,p,0,hp⟩
 ·have AN:bi (L.sl r)=some g':=by simp[ux,bi,Hm.1 hp]
  refine .inr ⟨g',0,cap,sz,ux,(v8.1 hh).1,Fd hO gP hr (by simpa [Loc.own]using AN) hg,jW, ?_⟩;have AM:=qF.av (hO.ob r _ hr) (g:=g') AN;obtain⟨vs,yP,Du,ZN⟩:=bD.flatten AM;exact bD.j5 (bl.bH (dv.refl (WW W ab L) w).toKeepsC (λb _ hb=>mH gP b hb) _ _ Du) eQ ZN
def xS{ts:aL}:∀{vs:List Value},aR w W ab L (ts.map .v) vs->bl w (WW W ab L) ts vs:=by
 induction ts with
 |nil=>intro vs h;simpa [aR,bl]using h
 |cons t ts ih=>
  intro vs h;simp only[qD,aR]at h;obtain⟨v,jN,rfl,h1,h2,h3⟩:=h;simp only[aA]at h2;simp only[bl];exact⟨v,jN,rfl,h1,h2,ih h3⟩
def DD(hO:cC base W M w0 ab w L)(gP:∀r' o',aJ r'=some o'->∃o,ab (σ r')=some o/\∀r,(L.Fc σ).own r o'=L.own (σ r) o):
  ∀n,(∀(d d':DV) (x:Value),SizeOf.sizeOf d<n->iY ab aJ σ d d'->aA w W ab L d x->aA w W aJ (L.Fc σ) d' x)/\
   (∀(ds rP:bF) (xs:List Value),SizeOf.sizeOf ds<n->iF ab aJ σ ds rP->aR w W ab L ds xs->aR w W aJ (L.Fc σ) rP xs)/\
   (∀(ds rP:bF) (xs:List Value),SizeOf.sizeOf ds<n->iF ab aJ σ ds rP->eP w W ab L ds xs->eP w W aJ (L.Fc σ) rP xs):=by
 have lU:∀(t:T) (x:Value),bm w (WW W ab L) t x->bm w (WW W aJ (L.Fc σ)) t x:=λt x h=>bm.bH (dv.refl (WW W ab L) w).toKeepsC (λb _ hb=>mH gP b hb) t x h;intro n;induction n with
 |zero=>exact⟨λ_ _ _ h=>by omega,λ_ _ _ h=>by omega,λ_ _ _ h=>by omega⟩
 |succ n ih=>
  refine⟨λd d' x hn hc hr=>?_,λds rP xs hn hc hr=>?_,λds rP xs hn hc hr=>?_⟩
  ·by_cases hu:d'=.undef
   ·subst hu;simp[aA]
   cases d with
   |undef=>simp only[iY]at hc;exact eB hc hu
   |skip=>simp only[iY,hu,JN]at hc;subst hc;simpa only[aA]using hr
   |Po=>simp only[iY,hu,JN]at hc;subst hc;simp only[aA,Loc.Fc]at hr⊢;exact hr
   |v t=>simp only[iY,hu,JN]at hc;subst hc;simp only[aA]at hr⊢;exact lU t x hr
   |mV av i off=>
    simp only[iY,hu,JN]at hc;subst hc;simp only[aA]at hr⊢;obtain⟨b,o,sz,hx,hb,XE,AM,h1,h2⟩:=hr;exact⟨b,o,sz,hx,hb,λk=>XE (mH gP b k),bD.bH (dv.refl (WW W ab L) w).toKeepsC (λb _ hb=>mH gP b hb) hb XE sz o av AM,h1,h2⟩
   |jd cs off=>
    simp only[iY,hu,JN]at hc;subst hc;simp only[aA]at hr⊢;obtain⟨b,o,hx,hb,XE,AM⟩:=hr;exact⟨b,o,hx,hb,λk=>XE (mH gP b k),eD.bH (dv.refl (WW W ab L) w).toKeepsC (λb _ hb=>mH gP b hb) hb XE o cs AM⟩
   |je r=>
    simp only[iY,hu,JN]at hc;simp only[aA]at hr;cases d' with
    |je r'=>
     obtain⟨rfl,hm⟩:=hc;simp only[aA];exact⟨Fb hm,hr.2⟩
    |_=>exact hc.elim
   |cm r=>
    simp only[iY,hu,JN]at hc;simp only[aA]at hr;cases d' with
    |cm r'=>
     obtain⟨rfl,hm⟩:=hc;simp only[aA];exact⟨XN hm,hr.2⟩
    |_=>exact hc.elim
   |ew ds=>
    simp only[iY,hu,JN]at hc;simp only[aA]at hr;obtain⟨vs,rfl,hr⟩:=hr;cases d' with
    |ew rP=>
     simp only[aA];exact⟨vs,rfl,ih.2.2 ds rP _ (by simp at hn⊢;omega) hc hr⟩
    |_=>exact hc.elim
   |oP f ds=>
    simp only[iY,hu,JN]at hc;simp only[aA]at hr;obtain⟨vs,rfl,hr⟩:=hr;cases d' with
    |oP f' rP=>
     obtain⟨rfl,hc⟩:=hc;simp only[aA];exact⟨vs,rfl,ih.2.1 ds rP _ (by simp at hn⊢;omega) hc hr⟩
    |v t=>
     cases t with
     |fn f' ts=>
      obtain⟨rfl,hc⟩:=hc;simp only[aA,bm];exact⟨vs,rfl,xS (ih.2.1 ds _ _ (by simp at hn⊢;omega) hc hr)⟩
     |_=>exact hc.elim
    |_=>exact hc.elim
   |Hq r m=>
    simp only[iY,hu,JN]at hc;simp only[aA]at hr;obtain⟨⟨cs0,atO⟩,rfl⟩:=hr;cases d' with
    |Hq r' m'=>
     obtain⟨rfl,rfl,cs,oT⟩:=hc;simp only[aA];exact⟨⟨cs,oT⟩,rfl⟩
    |v t=>
     cases t with
     |sl av=>
      obtain⟨rfl,⟨sz,ji⟩,rV,hg⟩:=hc;obtain⟨h1,h2,h3⟩:=xR hO gP rV hg;simp only[aA,bm];refine .inr ⟨L.jX r,0,av.length,sz,rfl,h1,h2,ed _, ?_⟩;obtain⟨vs,Cl,nU⟩:=eD.cI h3;exact bD.j5 Cl ji nU
     |_=>exact hc.elim
    |_=>exact hc.elim
   |wa r bJ lo m=>
    simp only[iY,hu,JN]at hc;simp only[aA]at hr;obtain⟨LO,rO,e2,HP,mA,gZ,LP,hx⟩:=hr;cases d' with
    |wa r' cw lo' m'=>
     obtain⟨rfl,rfl,rfl,e,sz,av,e',jh,fc,h1,h2,h3,h4⟩:=hc;rw[gZ]at h1;simp only[cu,Ob.bE.injEq]at h1;obtain⟨rfl,rfl,rfl,rfl⟩:=h1;simp only[aA];refine⟨LO,cw,e',jh,fc,h2,ed _,λ_=>?_⟩;obtain⟨k0,p,cap,p2,k1,k2,k3⟩:=hx rfl;exact⟨by rw[<-h4];exact k0,p,cap,p2,by rw[<-h4];exact k1,k2,by rw[<-h3];exact k3⟩
    |v t=>
     cases t with
     |sl fc=>
      obtain⟨⟨e,sz,av,h1,rfl⟩,hg⟩:=hc;rw[gZ]at h1;simp only[cu,Ob.bE.injEq]at h1;obtain⟨rfl,rfl,rfl,rfl⟩:=h1;have hx:=hx rfl;simp only[aA,bm];have I7:((mA.drop lo).take m).length=m:=by rw[we,Zc];omega
      rcases vf hO gZ hx with⟨rfl,a,c,rfl⟩|⟨g,c,AN,rfl,Jp,AM⟩
      ·exact .inl ⟨by simp,a,c,rfl⟩
      ·refine .inr ⟨g,lo*HP,c,HP,by rw[I7],(hO.ob r _ gZ).lt (by simpa [Loc.own]using AN),Fd hO gP gZ (by simpa [Loc.own]using AN) hg,by omega, ?_⟩;obtain⟨vs,yP,Du,ZN⟩:=bD.flatten AM;exact bD.j5 (bl.bH (dv.refl (WW W ab L) w).toKeepsC (λb _ hb=>mH gP b hb) _ _ Du) (λx hx=>(hO.ob r _ gZ).2.1 x (Zca (Ew hx))) ZN
     |_=>exact hc.elim
    |_=>exact hc.elim
   |aX=>
    simp only[iY,hu,JN]at hc;rcases hc with rfl|rfl
    ·simpa only[aA]using hr
    ·simp only[aA]at hr;obtain⟨a,rfl⟩:=hr;simp only[aA,bm];exact .inl ⟨trivial,a,0,rfl⟩
   |ptr r off=>
    simp only[iY,hu,JN]at hc;simp only[aA]at hr;obtain⟨⟨cs0,atO⟩,rfl⟩:=hr;cases d' with
    |ptr r' Mr=>
     obtain⟨rfl,rfl,cs,oT⟩:=hc;simp only[aA];exact⟨⟨cs,oT⟩,rfl⟩
    |jd cs Mr=>
     obtain⟨rfl,rV,hg⟩:=hc;obtain⟨h1,h2,h3⟩:=xR hO gP rV hg;simp only[aA];exact⟨L.jX r,0,by simp,h1,h2,h3⟩
    |v t=>
     cases t with
     |box cs=>
      obtain⟨rfl,rV,hg⟩:=hc;obtain⟨h1,h2,h3⟩:=xR hO gP rV hg;simp only[aA,bm];exact⟨L.jX r,0,rfl,h1,h2,h3⟩
     |_=>exact hc.elim
    |_=>exact hc.elim
   |bC r bJ=>
    simp only[iY,hu,JN]at hc;simp only[aA]at hr;obtain⟨LO,rO,e2,HP,mA,gZ,LP,hx⟩:=hr;cases d' with
    |bC r' cw=>
     obtain⟨rfl,e,sz,av,e',jh,fc,h1,h2⟩:=hc;rw[gZ]at h1;simp only[cu,Ob.bE.injEq]at h1;obtain⟨rfl,_⟩:=h1;simp only[aA];exact⟨LO,cw,e',jh,fc,h2,ed _,λ_=>hx rfl⟩
    |v t=>
     cases t with
     |sl av=>
      obtain⟨⟨e,sz,h1⟩,hg⟩:=hc;rw[gZ]at h1;simp only[cu,Ob.bE.injEq]at h1;obtain⟨rfl,rfl,rfl,rfl⟩:=h1;have hx:=hx rfl;subst hx;simp only[aA];exact P0 hO gP gZ hg
     |_=>exact hc.elim
    |_=>exact hc.elim
   |kO r bJ i off=>
    simp only[iY,hu,JN]at hc;simp only[aA]at hr;obtain⟨LO,rO,e2,HP,mA,gZ,LP,hx⟩:=hr;cases d' with
    |kO r' cw i' Mr=>
     obtain⟨rfl,rfl,rfl,e,sz,av,e',jh,fc,h1,h2,h3,h4⟩:=hc;rw[gZ]at h1;simp only[cu,Ob.bE.injEq]at h1;obtain⟨rfl,rfl,rfl,rfl⟩:=h1;simp only[aA];refine⟨LO,cw,e',jh,fc,h2,ed _,λ_=>?_⟩;obtain⟨g,k1,k2,k3,k4⟩:=hx rfl;exact⟨g,k1,by rw[<-h3];exact k2,k3,by rw[<-h4];exact k4⟩
    |_=>exact hc.elim
   |agg ds=>
    simp only[iY,hu,JN]at hc;simp only[aA]at hr;obtain⟨vs,rfl,hr⟩:=hr;cases d' with
    |agg rP=>
     simp only[JM]at hc;simp only[aA];exact⟨vs,rfl,ih.2.1 ds rP _ (by simp at hn⊢;omega) hc hr⟩
    |v t=>
     cases t with
     |agg ts=>
      simp only[JM]at hc;simp only[aA,bm];exact⟨vs,rfl,xS (ih.2.1 ds _ _ (by simp at hn⊢;omega) hc hr)⟩
     |_=>exact hc.elim
    |_=>exact hc.elim
  ·cases ds with
   |nil=>simp only[iF]at hc;subst hc;simpa only[aR]using hr
   |cons d ds=>
    cases rP with
    |nil=>simp[iF]at hc
    |cons d' rP=>
     simp only[iF]at hc;simp only[aR]at hr⊢;obtain⟨y,ys,hv,h1,h2,h3⟩:=hr;exact⟨y,ys,hv,h1,ih.1 d d' y (by simp at hn⊢;omega) hc.1 h2,ih.2.1 ds rP ys (by simp at hn⊢;omega) hc.2 h3⟩
  ·cases ds with
   |nil=>simp only[iF]at hc;subst hc;simpa only[eP]using hr
   |cons d ds=>
    cases rP with
    |nil=>simp[iF]at hc
    |cons d' rP=>
     simp only[iF]at hc;simp only[eP]at hr⊢;obtain⟨y,ys,hv,h2,h3⟩:=hr;exact⟨y,ys,hv,ih.1 d d' y (by simp at hn⊢;omega) hc.1 h2,ih.2.2 ds rP ys (by simp at hn⊢;omega) hc.2 h3⟩
def Le.cor{st dx:ma}(σ:Nat->Nat)(A5:dx.low=st.low)(Ms:dx.todo=st.todo)(Fe:∀r,dx.aK<=r->dx.ab r=none)
  (gP:∀r' o',dx.ab r'=some o'->∃o,st.ab (σ r')=some o/\o8 st.ab dx.ab σ o o')
  (atQ:∀r1 r2,dx.ab r1≠none->dx.ab r2≠none->σ r1=σ r2->r1=r2)
  (CC:∀r,r<st.low->∀o,st.ab r=some o->σ r=r/\∃o',dx.ab r=some o'/\jR o o')
  (iX:∀k,iY st.ab dx.ab σ (st.tmps k) (dx.tmps k)):Le st dx:=by
 intro κ nt a w L h;refine⟨L.Fc σ,⟨?_, ?_,h.r.defers,h.r.bg,⟨_,Fe⟩⟩,Fe,by rw[A5];exact h.low,by rw[A5];exact h.it⟩
 ·obtain⟨W,base,M,w0,dK,h0⟩:=h.r.ex;have hO:=h0.o;have rV:∀r' o',dx.ab r'=some o'->∃o,st.ab (σ r')=some o/\∀r,(L.Fc σ).own r o'=L.own (σ r) o:=λr' o' h=>let⟨o,h1,h2⟩:=gP r' o' h;⟨o,h1,wo h2⟩
  have cr:=λ(d d':DV) (x:Value)=>(DD hO rV (SizeOf.sizeOf d+1)).1 d d' x (by omega);have crs:=λ(ds rP:bF) (xs:List Value)=>(DD hO rV (SizeOf.sizeOf ds+1)).2.1 ds rP xs (by omega);refine⟨W,base,M,w0,by rw[Ms];exact dK,h0.size,λt=>cr _ _ _ (iX t) (h0.tmps t),⟨hO.fr,λr' o' iW=>?_,λr1 r2 o1 o2 b b7 h1 h2 xT gm=>?_,λr' o' b iW hb=>?_,hO.under,hO.gl.bH (dv.refl (WW W st.ab L) w).toKeepsC λb _ hb=>mH rV b hb⟩⟩
  ·obtain⟨o,ho,hc⟩:=gP r' o' iW;have hk:=hO.ob (σ r') o ho;cases o with
   |box cs=>
    cases o' with
    |box wZ=>
     obtain⟨c,e,cU,hr,hm⟩:=hk;exact⟨c,e,cU,crs cs wZ _ hc hr,hm⟩
    |_=>exact hc.elim
   |map cy agg c es=>
    cases o' with
    |map kZ k9 c' ol=>
     obtain⟨rfl,rfl,rfl,qK⟩:=hc;obtain⟨bE,cU,hr,k1,k2,k3,hm⟩:=hk;have key:∀(es ol:List (Nat×T×DV)) (xs:List MapEntry),ka st.ab dx.ab σ es ol->bP w W st.ab L es xs->bP w W dx.ab (L.Fc σ) ol xs/\ol.map (·.1)=es.map (·.1)/\ol.map (·.2.1)=es.map (·.2.1):=by
      intro es;induction es with
      |nil=>intro ol xs h1 h2;simp only[ka]at h1;subst h1;exact⟨by simpa only[bP]using h2,rfl,rfl⟩
      |cons e es ih=>
       intro ol xs h1 h2;cases ol with
       |nil=>simp[ka]at h1
       |cons e' ol=>
        simp only[ka]at h1;simp only[bP]at h2⊢;obtain⟨x,mq,rfl,q0,q1,q2,q3⟩:=h2;obtain⟨i1,i2,i3⟩:=ih ol mq h1.2.2.2 q3;refine⟨⟨x,mq,rfl,q0.trans h1.1, ?_,cr _ _ _ h1.2.2.1 q2,i1⟩,by simp[i2,h1.1],by simp[i3,h1.2.1]⟩;rw[<-h1.2.1];exact bm.bH (dv.refl (WW W st.ab L) w).toKeepsC (λb _ hb=>mH rV b hb) _ _ q1
     obtain⟨i1,i2,i3⟩:=key es ol _ qK hr;refine⟨bE,cU,i1,λe he=>?_,λe he=>?_,by rw[i2];exact k3,hm⟩
     ·have:e.2.1∈es.map (·.2.1):=by rw[<-i3];exact g9.2 ⟨e,he,rfl⟩
      obtain⟨e0,h0',Ls⟩:=g9.1 this;rw[<-Ls];exact k1 e0 h0'
     ·have:e.1∈es.map (·.1):=by rw[<-i2];exact g9.2 ⟨e,he,rfl⟩
      obtain⟨e0,h0',Ls⟩:=g9.1 this;rw[<-Ls];exact k2 e0 h0'
    |_=>exact hc.elim
   |cm m s sn l=>
    cases o' with
    |cm m' s' sn' l'=>
     obtain⟨rfl,rfl,rfl,rfl,OW⟩:=hc;obtain⟨cU,_,hm⟩:=hk;exact⟨cU,Fb OW,hm⟩
    |_=>exact hc.elim
   |bE bJ e sz av=>
    cases o' with
    |box _=>exact hc.elim
    |map _ _ _ _=>exact hc.elim
    |cm _ _ _ _=>exact hc.elim
    |bE cw e' jh fc=>
     obtain⟨rfl,rfl,rfl⟩:=hc;obtain⟨g1,g2,g3,g4⟩:=hk;refine⟨g1,g2,g3, ?_⟩;rcases g4 with g4|⟨g,cap,eH,hv,hp,hh,k1,k2,k3,k4⟩
     ·exact .inl g4
     ·exact .inr ⟨g,cap,eH,hv,hp,hh,k1,k2,k3,bl.bH (dv.refl (WW W st.ab L) w).toKeepsC (λb _ hb=>mH rV b hb) _ _ k4⟩
  ·obtain⟨p1,q1,c1⟩:=gP r1 o1 h1;obtain⟨p2,q2,c2⟩:=gP r2 o2 h2;rw[wo c1]at xT;rw[wo c2]at gm;exact hO.apart (σ r1) (σ r2) p1 p2 b (λe=>b7 (atQ r1 r2 (λe=>by rw[show dx.ab r1=some o1 from h1]at e;cases e) (λe=>by rw[show dx.ab r2=some o2 from h2]at e;cases e) e)) q1 q2 xT gm
  ·obtain⟨p1,q1,c1⟩:=gP r' o' iW;rw[wo c1]at hb;exact hO.sk (σ r') p1 b q1 hb
 ·have ha:ic κ.W κ.go κ.gL (κ.O0 st.todo) st.ab L w:=h.r.fu;show ic κ.W κ.go κ.gL (κ.O0 dx.todo) dx.ab (L.Fc σ) w;rw[Ms];refine⟨ha.dG,λb hb hw=>ha.sub b hb (mH (λr' o' h=>let⟨o,h1,h2⟩:=gP r' o' h;⟨o,h1,wo h2⟩) b hw),λr o hr hk=>?_,λr bJ e sz av hr=>?_,ha.yl⟩
  ·have ef:r<st.low:=ZbW λjW=>by rw[h.low r jW]at hr;cases hr
   obtain⟨e1,o1,tw,pq⟩:=ha.fix r o hr hk;obtain⟨hs,o',iW,hv⟩:=CC r ef _ tw;exact⟨by simp only[Loc.Fc,hs];exact e1,o',iW,(zr hv).trans pq⟩
  ·have ef:r<st.low:=ZbW λjW=>by rw[h.low r jW]at hr;cases hr
   obtain⟨v1,e1,s1,r1,tw,l1,k1⟩:=ha.bE r bJ e sz av hr;obtain⟨hs,o',iW,hv⟩:=CC r ef _ tw;cases o' with
   |box wZ=>exact hv.elim
   |map _ _ _ _=>exact hv.elim
   |cm _ _ _ _=>exact hv.elim
   |bE v2 e2 s2 r2=>
    obtain⟨rfl,rfl,h3⟩:=hv;exact⟨v1,e2,s1,r2,iW,l1,λhv=>by
     obtain⟨a1,a2,a3⟩:=k1 hv;exact⟨by simp only[Loc.Fc,hs];exact a1,a2,by rw[<-h3];exact a3⟩⟩
end
end
section
variable{r aY:Nat}{o0:c7}{iO:Bool}{rs:ai}
variable [bM] [dM]
section
variable{P:Program}{nt:Nat}
def P4(qs:Array Nat)(cI:Array Value)(tm:Array Value):(qs.zip cI).foldl (λt (p,v)=>t.setIfInBounds p v) tm=(qs.toList.zip cI.toList).foldl (λt (pv:Nat×Value)=>t.setIfInBounds pv.1 pv.2) tm:=by
 rw[<-Array.foldl_toList,Array.toList_zip]
def XQ{ro:Option Nat}{w:World}{fn:FuncId}{tm:Array Value}{ps:Array Nat}{y z:Code}(kr:∀l,ro=some l->∃r,w.heap[l]? =some (.loop r)):
  ∃(l:Nat) (Ds:cQ) (W1:World) (rec:Loop),(Instr.enterLoop fn tm ps y z ro).run P w=.ok (l,Ds.map mark) W1/\wL w.heap.size w W1/\w.heap.size<=l/\W1.heap[l]? =some (.loop rec)/\
   rec.state=.ready/\rec.pending=none/\rec.fn=fn/\rec.tmps=tm/\rec.params=ps/\rec.assign=y/\rec.body=z/\Ds.Nodup/\(∀D∈Ds,W1.heap[D]? =some (.deferred (some []))/\w.heap.size<=D):=by
 cases ro with
 |none=>
  refine⟨_,[w.heap.size],_,{state:=.ready,pending:=none,fn,tmps:=tm,params:=ps,assign:=y,body:=z,defers:=w.heap.size},run_enterLoop_outer _ _ _ _ _, ?_,by simp, ?_,rfl,rfl,rfl,rfl,rfl,rfl,rfl,by simp, ?_⟩
  ·exact⟨((Below.refl _ w).alloc (ed _) _).alloc (by simp) _,ed _⟩
  ·have:=World.alloc_heap_new (w.alloc (.deferred (some []))) (.loop {state:=.ready,pending:=none,fn,tmps:=tm,params:=ps,assign:=y,body:=z,defers:=w.heap.size})
   rwa [World.size_alloc]at this
  ·intro D hD;simp only[oO]at hD;subst hD;exact⟨(Below.heap_alloc _ _ _ (by simp)).trans (World.alloc_heap_new w _),ed _⟩
 |some l0=>
  obtain⟨r0,hr0⟩:=kr l0 rfl;refine⟨_,[],_,{state:=.ready,pending:=none,fn,tmps:=tm,params:=ps,assign:=y,body:=z,defers:=r0.defers},run_enterLoop_inner hr0 _ _ _ _ _, ?_,ed _,World.alloc_heap_new w _,rfl,rfl,rfl,rfl,rfl,rfl,rfl,Zce,λD hD=>by cases hD⟩;exact⟨(Below.refl _ w).alloc (ed _) _,ed _⟩
end
def fK(ab aJ:bq)(σ:Nat->Nat)(tm:dj):eO->Prop
 |[]=>True
 |(k,d)::l=>iY ab aJ σ (tm k) d/\fK ab aJ σ tm l
def tH(ab aJ:bq)(σ:Nat->Nat):c7->Prop
 |[]=>True
 |(r,o)::l=>(∃o0,ab (σ r)=some o0/\o8 ab aJ σ o0 o)/\tH ab aJ σ l
def nK(n:Nat):c7->Prop
 |[]=>True
 |(r,_)::l=>r<n/\nK n l
def sC(n:Nat):c7->Prop
 |[]=>True
 |(r,_)::l=>n<=r/\sC n l
def JO(σ:Nat->Nat)(r:Nat):c7->Prop
 |[]=>True
 |(r',_)::l=>(σ r=σ r'->r=r')/\JO σ r l
def DF(σ:Nat->Nat):c7->Prop
 |[]=>True
 |(r,_)::l=>JO σ r l/\DF σ l
def kw:∀{l:c7} {r:Nat} {o:Ob},cJ l r=some o->(r,o)∈l
 |[],_,_,h=>by cases h
 |(j,x)::l,r,o,h=>by
  simp only[cJ]at h;split at h
  ·rename_i e;cases h;subst e;exact Zl ..
  ·exact Zm _ (kw h)
def SE{l:c7}(h:cJ l r≠none):∃o,(r,o)∈l:=by
 cases ho:cJ l r with
 |none=>exact eB ho h
 |some o=>exact⟨o,kw ho⟩
def rX{n:Nat}:∀{l:c7},nK n l->∀r o,(r,o)∈l->r<n
 |[],_,_,_,h=>by cases h
 |(j,x)::l,hk,r,o,h=>by
  rcases fN.1 h with e|h
  ·cases e;exact hk.1
  ·exact rX hk.2 r o h
def zu{n:Nat}:∀{l:c7},sC n l->∀r o,(r,o)∈l->n<=r
 |[],_,_,_,h=>by cases h
 |(j,x)::l,hk,r,o,h=>by
  rcases fN.1 h with e|h
  ·cases e;exact hk.1
  ·exact zu hk.2 r o h
def tJ{ab aJ:bq}{σ:Nat->Nat}:∀{l:c7},tH ab aJ σ l->∀r o,(r,o)∈l->∃o0,ab (σ r)=some o0/\o8 ab aJ σ o0 o
 |[],_,_,_,h=>by cases h
 |(j,x)::l,hk,r,o,h=>by
  rcases fN.1 h with e|h
  ·cases e;exact hk.1
  ·exact tJ hk.2 r o h
def xU{σ:Nat->Nat}{r:Nat}:∀{l:c7},JO σ r l->∀r' o,(r',o)∈l->σ r=σ r'->r=r'
 |[],_,_,_,h=>by cases h
 |(j,x)::l,hk,r',o,h=>by
  rcases fN.1 h with e|h
  ·cases e;exact hk.1
  ·exact xU hk.2 r' o h
def CF{σ:Nat->Nat}:∀{l:c7},DF σ l->∀r1 r2 o1 o2,(r1,o1)∈l->(r2,o2)∈l->σ r1=σ r2->r1=r2
 |[],_,_,_,_,_,h,_=>by cases h
 |(j,x)::l,hk,r1,r2,o1,o2,h1,h2=>by
  rcases fN.1 h1 with e1|h1
  ·cases e1;rcases fN.1 h2 with e2|h2
   ·cases e2;exact λ_=>rfl
   ·exact xU hk.1 r2 o2 h2
  ·rcases fN.1 h2 with e2|h2
   ·cases e2;exact λe=>(xU hk.1 r1 o1 h1 e.symm).symm
   ·exact CF hk.2 r1 r2 o1 o2 h1 h2
@[simp] def aeM(σ:Nat->Nat)(r:Nat):gone (cJ []) σ r:=λr' h=>by simp[cJ]at h
def aaF{σ:Nat->Nat}{j:Nat}{o:Ob}{l:c7}(h1:σ j≠r)(h2:gone (cJ l) σ r):gone (cJ ((j,o)::l)) σ r:=by
 intro r' gS;by_cases hj:r'=j
 ·subst hj;exact h1
 ·exact h2 r' (by rw[c6,aZ hj]at gS;exact gS)
def mI{ab aJ:bq}{σ:Nat->Nat}{tm:dj}:∀(l:eO),fK ab aJ σ tm l->∀k,iY ab aJ σ (tm k) (look l k)
 |[],_,k=>by
  show iY ab aJ σ (tm k) .undef;cases tm k<;>simp[iY]
 |(j,d)::l,h,k=>by
  simp only[look];split
  ·rename_i e;subst e;exact h.1
  ·exact mI l h.2 k
def Le.atS{tm:dj}{o:c7}{l:eO}{aK:Nat}{td:List (aL)}{low:Nat}(σ:Nat->Nat)(Dh:sC low o0)(hk:nK aY o)(ha:DF σ o)
  (gP:tH (cJ o0) (cJ o) σ o) (iX:fK (cJ o0) (cJ o) σ tm l):Le ⟨tm,cJ o0,aK,low,td⟩ ⟨look l,cJ o,aY,low,td⟩:=by
 refine Le.cor σ rfl rfl (λr hr=>?_) (λr' o' h=>tJ gP r' o' (kw h)) (λr1 r2 h1 h2 e=>?_) (λr hr o' h=>?_) (λk=>mI l iX k)
 ·cases ho:cJ o r with
  |none=>exact ho
  |some x=>have:=rX hk r x (kw ho);simp only at hr;omega
 ·obtain⟨x1,k1⟩:=SE h1;obtain⟨x2,k2⟩:=SE h2;exact CF ha r1 r2 x1 x2 k1 k2 e
 ·have:=zu Dh r o' (kw h);simp only at hr;omega
def Le.bH{tm:dj}{o:c7}{l:eO}{aK:Nat}{td:List (aL)}{low:Nat}(Dh:sC low o0)(hk:nK aY o)
  (gP:tH (cJ o0) (cJ o) id o) (iX:fK (cJ o0) (cJ o) id tm l):Le ⟨tm,cJ o0,aK,low,td⟩ ⟨look l,cJ o,aY,low,td⟩:=by
 refine Le.atS id Dh hk ?_ gP iX;clear hk gP iX;induction o with
 |nil=>trivial
 |cons p o ih=>
  refine⟨?_,ih⟩;clear ih;induction o with
  |nil=>trivial
  |cons q o ih=>exact⟨λh=>h,ih⟩
attribute [simp] fK tH nK sC JO DF iY iF aaz aaB zq SD JM o8
def fk(tm:dj):eO->Prop
 |[]=>True
 |(k,d)::l=>tm k=d/\fk tm l
def Fg{tm:dj}:∀{l:eO},fk tm l->∀k,look l k=.undef\/look l k=tm k
 |[],_,_=>.inl rfl
 |(j,d)::l,h,k=>by
  simp only[look];split
  ·rename_i e;subst e;exact .inr h.1.symm
  ·exact Fg h.2 k
section
variable{P:Program}{nt:Nat}{Γ:pk}{Q:Exit->ma->Prop}{tm:dj}{ob:bq}{aK low:Nat}{td:List (aL)}
def aa.agI(aC:ay P Γ)(hm:P.follows .mixedOrders=true)(l:eO)(mG:bq)
  (h:fj Γ aK rs ⟨tm,ob,td⟩ λs=>fk s.tmps l/\s.ab=mG/\s.todo=td) (k:Q .normal ⟨look l,mG,aK+nt+1,low,td⟩):aa P nt (.region iO rs) Q ⟨tm,ob,aK,low,td⟩:=by
 obtain⟨h1,h2,h3,h4⟩:=jm _ _ _ h;refine aa.zk (Q:=λe s=>e=.normal/\s=⟨(ee Γ aK rs ⟨tm,ob,td⟩).tmps,(ee Γ aK rs ⟨tm,ob,td⟩).ab,aK+nt+1,low,(ee Γ aK rs ⟨tm,ob,td⟩).todo⟩) (aa.region aC hm (st:=⟨tm,ob,aK,low,td⟩) h1 ⟨rfl,rfl⟩) ?_;rintro e s ⟨rfl,rfl⟩;refine⟨_,Le.vy (Fg h2), ?_⟩;simp only[h3,h4];exact k
def aa.aaG(aC:ay P Γ)(hm:P.follows .mixedOrders=true){b:DC}(l:eO)(mG:bq)
  (h:fj Γ aK rs ⟨tm,ob,td⟩ λs=>fk s.tmps l/\s.ab=mG/\s.todo=td) (k:aa P nt b Q ⟨look l,mG,aK+nt+1,low,td⟩):aa P nt (.seq (.region iO rs) b) Q ⟨tm,ob,aK,low,td⟩:=
 aa.seq (aa.agI aC hm l mG h k)
def aa.cH(aC:ay P Γ)(hm:P.follows .mixedOrders=true){b:DC}(l:eO)
  (h:fj Γ aK rs ⟨tm,ob,td⟩ λs=>fk s.tmps l/\s.ab=ob/\s.todo=td) (k:aa P nt b Q ⟨look l,ob,aK+nt+1,low,td⟩):aa P nt (.seq (.region iO rs) b) Q ⟨tm,ob,aK,low,td⟩:=
 aa.aaG aC hm l ob h k
def aa.to{d:DC}{st:ma}(st2:ma)(h:aa P nt d (λe s=>e=.normal/\Le s st2) st)(k:Q .normal st2):aa P nt d Q st:=
 aa.zk h λe s ⟨h1,h2⟩=>by subst h1;exact⟨st2,h2,k⟩
end
section
variable{P:Program}{nt:Nat}{d:DC}{Q:Exit->ma->Prop}{low aK aY:Nat}
def aa.lk{tm:dj}{o0 o:c7}{l:eO}{td:List (aL)}(h:sC low o0/\nK aY o/\tH (cJ o0) (cJ o) id o/\fK (cJ o0) (cJ o) id tm l)(k:aa P nt d Q ⟨look l,cJ o,aY,low,td⟩):aa P nt d Q ⟨tm,cJ o0,aK,low,td⟩:=aa.le (Le.bH h.1 h.2.1 h.2.2.1 h.2.2.2) k
def aa.sq{Γ:pk}{tm:dj}{ob:bq}{td:List (aL)}(aC:ay P Γ)(hm:P.follows .mixedOrders=true){iO:Bool}{rs:ai}{b c:DC}(ks:cQ)(h:fj Γ aK rs ⟨tm,ob,td⟩ λs=>aa P nt b (Mm (aa P nt c Q) Q) ⟨look (lU ks s.tmps),s.ab,aK+nt+1,low,s.todo⟩):aa P nt (.seq (.seq (.region iO rs) b) c) Q ⟨tm,ob,aK,low,td⟩:=aa.seq (aa.ag aC hm ks h)
def aa.c0{st:ma}{x:bW}{a b:DC}(h:x.ev st.tmps=.v (.bool false))(k:aa P nt b Q st):aa P nt (.cond x a b) Q st:=aa.cond h (λg=>by cases g) λ_=>k
def aa.c1{st:ma}{x:bW}{a b:DC}(h:x.ev st.tmps=.v (.bool true))(k:aa P nt a Q st):aa P nt (.cond x a b) Q st:=aa.cond h (λ_=>k) λg=>by cases g
end
attribute [simp] fk
end
section
variable{args:bF}{ab:bq}
variable [bM] [dM]
section
variable{P:Program}{nt:Nat}{Γ:pk}{Q:Exit->ma->Prop}{tm:dj}{ob:bq}{aK low:Nat}{td:List (aL)}
def aa.JP(aC:ay P Γ)(hm:P.follows .mixedOrders=true){iO:Bool}{rs:ai}(l:eO)
  (h:fj Γ aK rs ⟨tm,ob,td⟩ λs=>fk s.tmps l/\s.ab=ob/\s.todo=td) (k:Q .normal ⟨look l,ob,aK+nt+1,low,td⟩):aa P nt (.region iO rs) Q ⟨tm,ob,aK,low,td⟩:=
 aa.agI aC hm l ob h k
end
def eJ(f:bq)(r:Nat)(o:Ob):bq:=λk=>if k=r then some o else f k
def P2(f:bq)(r:Nat)(o:Ob)(k:Nat):eJ f r o k=if k=r then some o else f k:=rfl
@[simp] def aos(f:bq)(r:Nat)(o o':Ob):cN (eJ f r o) (some (r,o'))=eJ f r o':=by
 funext k;simp only[H6,eJ];split<;>rfl
@[simp] def aot(f:bq)(r:Nat)(o o':Ob):eJ (eJ f r o) r o'=eJ f r o':=by
 funext k;simp only[eJ];split<;>rfl
def wq{f:bq}{r:Nat}{o o':Ob}(h:f r=some o){k:Nat}(hk:f k=none):eJ f r o' k=none:=by
 simp only[eJ];split
 ·rename_i e;rw[e,h]at hk;cases hk
 ·exact hk
def Le.same{tm:dj}{ob:bq}{aK aY low:Nat}{td:List (aL)}{l:eO}(h:∀r,aY<=r->ob r=none)(hl:fk tm l):Le ⟨tm,ob,aK,low,td⟩ ⟨look l,ob,aY,low,td⟩:=
 Le.trans (Le.vy (Fg hl)) λκ nt a w L r=>⟨L,⟨r.r,h,r.low,r.it⟩⟩
def Fh:∀(ds:bF) (i k:Nat),look ((ds.zipIdx i).map λp=>(p.2,p.1)) k=.undef\/look ((ds.zipIdx i).map λp=>(p.2,p.1)) k=Dg (if i<=k then ds[k-i]? else none)
 |[],i,k=>.inl rfl
 |t::ts,i,k=>by
  simp only[qD,Zc2,nJ];split
  ·rename_i h;subst h;exact .inr (by simp[Dg])
  ·rename_i h;rcases Fh ts (i+1) k with e|e
   ·exact .inl e
   ·right;rw[e];by_cases hk:i+1<=k
    ·rw[cF hk,cF (by omega),show k-i=(k-(i+1))+1 by omega,Zb]
    ·have:¬i<=k:=by omega
     rw[aZ hk,aZ this]
def Bg{P:Program}{nt:Nat}{d:DC}{Q:Exit->ma->Prop}{N:Nat}(h:aa P nt d Q ⟨look (args.zipIdx.map λp=>(p.2,p.1)),ab,N,N,[]⟩):aa P nt d Q (xk args ab N):=by
 refine aa.le (Le.vy (st:=xk args ab N) (tm:=look (args.zipIdx.map λp=>(p.2,p.1))) λk=>?_) h;have:=Fh args 0 k;simpa [xk]using this
@[simp] def aaH(ob:bq):∀x:aL,jF ob (x.map .v)=x
 |[]=>rfl
 |t::x=>by simp[aaH ob x]
@[simp] def app(f:bq)(r:Nat)(o:Ob):eJ f r o r=some o:=by simp[eJ]
def aQ.of{P:Program}{f:FuncId}{r r':fV}(h:aQ P f args ab r)(h1:r'.ab=r.ab)(h2:r'.val=r.val):aQ P f args ab r':=by
 obtain⟨ok,val,ob⟩:=r;obtain⟨ok',avz,mG⟩:=r';simp only at h1 h2;subst h1 h2;exact⟨h.entry,h.run⟩
end
section
variable{f ob:bq}{o':Ob}{r sz aK low:Nat}{tm:dj}{td:List (aL)}{σ:Nat->Nat}
variable [bM] [dM]
def Loc.at(L:Loc)(q:Nat)(x:Value):Loc:=⟨L.jX,λk=>if k=q then x else L.sl k,L.yl⟩
section
variable{base:Nat}{W M:fH}{w0 w:World}{ab:bq}{L:Loc}
def fL{q:Nat}{o:Ob}(h:eJ f q o r=some o'):(r=q/\o'=o)\/(r≠q/\f r=some o'):=by
 simp only[eJ]at h;split at h
 ·rename_i e;exact .inl ⟨e,(Zb9 h).symm⟩
 ·rename_i e;exact .inr ⟨e,h⟩
def nW{q:Nat}{o:Ob}(h:r≠q)(k:f r=some o'):eJ f q o r=some o':=by
 simp only[eJ,aZ h,k]
def JQ{q:Nat}{x:Value}{o:Ob}(h:r≠q):(L.at q x).own r o=L.own r o:=by
 cases o<;>simp[Loc.own,Loc.at,h]
def DG{q:Nat}{a:Option Addr}{v e:Nat}{av:List (aL)}:(L.at q (.slice a 0 0)).own q (.bE v e sz av)=none:=by
 cases a<;>simp[Loc.own,Loc.at,bi]
def aaI{q:Nat}{a:Option Addr}{e:Nat}{b:Nat}(h:WW W (eJ ab q (.bE 0 e sz [])) (L.at q (.slice a 0 0)) b):WW W ab L b:=by
 rcases h with h|⟨r,o,hr,hb⟩
 ·exact .inl h
 ·rcases fL hr with⟨rfl,rfl⟩|⟨b7,hr⟩
  ·rw[DG]at hb;cases hb
  ·rw[JQ b7]at hb;exact .inr ⟨r,o,hr,hb⟩
def JR{q:Nat}{a:Option Addr}{e:Nat}(hq:ab q=none):ic W ab L w (eJ ab q (.bE 0 e sz [])) (L.at q (.slice a 0 0)) w:=by
 refine⟨dv.refl _ _,λb _ h=>aaI h,λr o hr hk=>?_,λr bJ e' jh av hr=>?_,rfl⟩
 ·have b7:r≠q:=λh=>by rw[h,hq]at hr;cases hr
  exact⟨rfl,o,nW b7 hr,rfl⟩
 ·have b7:r≠q:=λh=>by rw[h,hq]at hr;cases hr
  exact⟨bJ,e',jh,av,nW b7 hr,ed _,λ_=>⟨by simp[Loc.at,b7],rfl,rfl⟩⟩
def Mv(hO:cC base W M w0 ab w L){q:Nat}{a:Option Addr}{e:Nat}(ji:0<sz)(hq:ab q=none):cC base W M w0 (eJ ab q (.bE 0 e sz [])) w (L.at q (.slice a 0 0)):=by
 have hA:=JR (W:=W) (w:=w) (L:=L) (a:=a) (e:=e) (sz:=sz) hq;refine⟨hO.fr,λr o hr=>?_,λr r' o o' b b7 h1 h2 hb=>?_,λr o b hr hb=>?_,hO.under,hO.gl.bH hA.dG.toKeepsC hA.sub⟩
 ·rcases fL hr with⟨rfl,rfl⟩|⟨b7,hr⟩
  ·refine⟨ji,λx hx=>(by cases hx),λg hg=>?_,.inl ⟨rfl,a,by simp[Loc.at]⟩⟩;exfalso;simp only[Loc.at,jP]at hg;cases a<;>simp[bi]at hg
  ·have hk:=hO.ob r o hr;cases o with
   |box cs=>
    obtain⟨c,f,cU,ig,hm⟩:=hk;exact⟨c,f,cU,aR.fu hA cs _ ig,hm⟩
   |map cy agg c es=>
    obtain⟨bE,cU,ig,q1,q2,q3,hm⟩:=hk;exact⟨bE,cU,bP.fu hA es _ ig,q1,q2,q3,hm⟩
   |cm m s sn l=>
    obtain⟨cU,OW,hm⟩:=hk;exact⟨cU,(hA.mp m OW).2,hm⟩
   |bE bJ e' jh av=>
    obtain⟨g1,g2,g3,g4⟩:=hk;have hs:(L.at q (.slice a 0 0)).sl r=L.sl r:=by simp[Loc.at,b7]
    refine⟨g1,g2,by rw[hs];exact g3, ?_⟩;rw[hs];rcases g4 with g4|⟨g,cap,eH,hv,hp,hh,k1,k2,k3,k4⟩
    ·exact .inl g4
    ·exact .inr ⟨g,cap,eH,hv,hp,hh,k1,k2,k3,bl.bH (dv.refl (WW W ab L) w).toKeepsC (λb _ hb=>aaI hb) _ _ k4⟩
 ·rcases fL h1 with⟨rfl,rfl⟩|⟨n1,h1⟩
  ·rw[DG]at hb;cases hb
  ·rw[JQ n1]at hb;rcases fL h2 with⟨rfl,rfl⟩|⟨n2,h2⟩
   ·rw[DG];exact λh=>by cases h
   ·rw[JQ n2];exact hO.apart r r' o o' b b7 h1 h2 hb
 ·rcases fL hr with⟨rfl,rfl⟩|⟨n1,hr⟩
  ·rw[DG]at hb;cases hb
  ·rw[JQ n1]at hb;exact hO.sk r o b hr hb
end
def Le.wr{k:Nat}(e:Nat)(ji:0<sz)(hk:tm k=.aX):
  Le ⟨tm,ob,aK,low,td⟩ ⟨c5 tm (some k) (.bC aK 0),eJ ob aK (.bE 0 e sz []),aK+1,low,td⟩:=by
 intro κ nt a w L h;have hq:ob aK=none:=h.fresh aK (ed _);obtain⟨W,base,M,w0,dK,h0⟩:=h.r.ex;have hx:=h0.tmps k;simp only[hk,aA]at hx;obtain⟨ad,hx⟩:=hx;have hA:=JR (W:=W) (w:=w) (L:=L) (a:=ad) (e:=e) (sz:=sz) hq;have xP:=dK.sub;have w6:∀r,aK+1<=r->eJ ob aK (.bE 0 e sz []) r=none:=λr hr=>by
  simp only[eJ];rw[aZ (by omega)];exact h.fresh r (by simp only;omega)
 refine⟨L.at aK (.slice ad 0 0),⟨⟨W,base,M,w0,dK,h0.size,λt=>?_,Mv h0.o ji hq⟩,ic.comp h.r.fu hA (dK.Jy _) xP.2,h.r.defers,h.r.bg,⟨_,w6⟩⟩,w6,h.low,h.it⟩;simp only[c5];by_cases ht:t=k
 ·subst ht;simp only[jP,aA];refine⟨⟨ad,0,0,hx⟩,0,e,sz,[],by simp,ed _,λ_=>?_⟩;rw[hx];simp[Loc.at]
 ·simp only[ht,w7];exact aA.fu hA _ _ (h0.tmps t)
def Bh{w:World}{W:fH}{ab:bq}{L:Loc}:∀(cs:bF) (xs:List Value) (k:Nat) (d:DV),aR w W ab L cs xs->(∀x,xs[k]? =some x->aA w W ab L d x)->aR w W ab L (cs.set k d) xs
 |[],xs,k,d,h,_=>by simpa using h
 |c::cs,xs,0,d,h,hd=>by
  simp only[aR]at h;obtain⟨x,mq,rfl,h1,h2,h3⟩:=h;simp only[Zb5,aR];exact⟨x,mq,rfl,h1,hd x (by simp),h3⟩
 |c::cs,xs,k+1,d,h,hd=>by
  simp only[aR]at h;obtain⟨x,mq,rfl,h1,h2,h3⟩:=h;simp only[Zcg,aR];exact⟨x,mq,rfl,h1,h2,Bh cs mq k d h3 λy hy=>hd y (by simpa using hy)⟩
def Bi{w:World}{W:fH}{ab:bq}{L:Loc}:∀(cs:bF) (xs:List Value) (k:Nat) (d:DV) (x:Value),aR w W ab L cs xs->cs[k]? =some d->xs[k]? =some x->aA w W ab L d x
 |[],xs,k,d,x,h,hk,_=>by simp at hk
 |c::cs,xs,0,d,x,h,hk,hx=>by
  simp only[aR]at h;obtain⟨y,mq,rfl,h1,h2,h3⟩:=h;simp only[HN,cu]at hk hx;subst hk hx;exact h2
 |c::cs,xs,k+1,d,x,h,hk,hx=>by
  simp only[aR]at h;obtain⟨y,mq,rfl,h1,h2,h3⟩:=h;simp only[Zb]at hk hx;exact Bi cs mq k d x h3 hk hx
def xV{w:World}{W:fH}{ab:bq}{L:Loc}:∀(cs:bF) (xs:List Value) (k:Nat) (d:DV),aR w W ab L cs xs->cs[k]? =some d->∃x,xs[k]? =some x
 |[],xs,k,d,h,hk=>by simp at hk
 |c::cs,xs,0,d,h,hk=>by
  simp only[aR]at h;obtain⟨y,mq,rfl,h1,h2,h3⟩:=h;exact⟨y,by simp⟩
 |c::cs,xs,k+1,d,h,hk=>by
  simp only[aR]at h;obtain⟨y,mq,rfl,h1,h2,h3⟩:=h;simp only[Zb]at hk;obtain⟨x,hx⟩:=xV cs mq k d h3 hk;exact⟨x,by simpa using hx⟩
def Le.DH(r:Nat)(k:Nat){cs:bF}(e:Nat)(ji:0<sz)(hr:ob r=some (.box cs))(hk:cs[k]? =some .aX):
  Le ⟨tm,ob,aK,low,td⟩ ⟨tm,eJ (eJ ob aK (.bE 0 e sz [])) r (.box (cs.set k (.bC aK 0))),aK+1,low,td⟩:=by
 intro κ nt a w L h;have hq:ob aK=none:=h.fresh aK (ed _);have hrq:r≠aK:=λe=>by rw[e,hq]at hr;cases hr
 have avA:r<aK:=ZbW λjW=>by have:=h.fresh r jW;simp only at this;rw[this]at hr;cases hr
 obtain⟨W,base,M,w0,dK,h0⟩:=h.r.ex;have hO:=h0.o;obtain⟨c,f,cU,ig,hm⟩:=hO.ob r _ hr;obtain⟨x,hx⟩:=xV _ _ _ _ ig hk;have Hr:=Bi _ _ _ _ _ ig hk hx;simp only[aA]at Hr;obtain⟨ad,hxa⟩:=Hr;have hA:=JR (W:=W) (w:=w) (L:=L) (a:=ad) (e:=e) (sz:=sz) hq;have xn:=Mv (a:=ad) (e:=e) hO ji hq;obtain⟨o1,H9⟩:=be (eJ ob aK (.bE 0 e sz []));obtain⟨L1,XR⟩:=be (L.at aK (.slice ad 0 0));have tw:o1 r=some (.box cs):=by rw[<-H9];exact nW hrq hr
 rw[H9,XR]at hA xn;have Dw:∀{V:fH} b,WW V (eJ o1 r (.box (cs.set k (.bC aK 0)))) L1 b->WW V o1 L1 b:=by
  intro V b hb;rcases hb with hb|⟨r',o,gS,hb⟩
  ·exact .inl hb
  ·rcases fL gS with⟨rfl,rfl⟩|⟨_,gS⟩
   ·exact .inr ⟨r',_,tw,hb⟩
   ·exact .inr ⟨r',o,gS,hb⟩
 have uH:ic W o1 L1 w (eJ o1 r (.box (cs.set k (.bC aK 0)))) L1 w:=by
  refine⟨dv.refl _ _,λb _ h=>Dw b h,λr' o' gS uW=>?_,λr' bJ e' jh av gS=>?_,rfl⟩
  ·by_cases he:r'=r
   ·subst he;rw[tw]at gS;cases gS;exact⟨rfl,.box (cs.set k (.bC aK 0)),by simp[eJ],rfl⟩
   ·exact⟨rfl,o',nW he gS,rfl⟩
  ·have he:r'≠r:=λhe=>by rw[he,tw]at gS;cases gS
   exact⟨bJ,e',jh,av,nW he gS,ed _,λ_=>⟨rfl,rfl,rfl⟩⟩
 have O4:cC base W M w0 (eJ o1 r (.box (cs.set k (.bC aK 0)))) w L1:=by
  refine⟨xn.fr,λr' o gS=>?_,λp p' o o' b b7 h1 h2 hb=>?_,λp o b hp hb=>?_,xn.under,xn.gl.bH uH.dG.toKeepsC uH.sub⟩
  ·rcases fL gS with⟨rfl,rfl⟩|⟨b7,gS⟩
   ·refine⟨c,f,by rw[<-XR];exact cU,Bh _ _ _ _ (aR.fu uH _ _ (aR.fu hA _ _ ig)) λy hy=>?_,by rw[<-XR];exact hm⟩;rw[hx]at hy;cases hy;simp only[aA];refine⟨⟨ad,0,0,hxa⟩,0,e,sz,[],nW (Ne.symm hrq) (by rw[<-H9];simp),ed _,λ_=>?_⟩;rw[hxa,<-XR];simp[Loc.at]
   ·have uW:=xn.ob r' o gS;cases o with
    |box wZ=>
     obtain⟨c',f',Fj,Fk,Jj⟩:=uW;exact⟨c',f',Fj,aR.fu uH wZ _ Fk,Jj⟩
    |map cy agg c es=>
     obtain⟨bE,Fj,Fk,q1,q2,q3,Jj⟩:=uW;exact⟨bE,Fj,bP.fu uH es _ Fk,q1,q2,q3,Jj⟩
    |cm m s sn l=>
     obtain⟨Fj,OW,Jj⟩:=uW;exact⟨Fj,(uH.mp m OW).2,Jj⟩
    |bE bJ e' jh av=>
     obtain⟨g1,g2,g3,g4⟩:=uW;refine⟨g1,g2,g3, ?_⟩;rcases g4 with g4|⟨g,cap,eH,hv,hp,hh,k1,k2,k3,k4⟩
     ·exact .inl g4
     ·exact .inr ⟨g,cap,eH,hv,hp,hh,k1,k2,k3,bl.bH (dv.refl (WW W o1 L1) w).toKeepsC (λb _ hb=>Dw b hb) _ _ k4⟩
  ·have key:∀{p o},eJ o1 r (.box (cs.set k (.bC aK 0))) p=some o->∃o2,o1 p=some o2/\L1.own p o=L1.own p o2:=by
    intro p o hp;rcases fL hp with⟨rfl,rfl⟩|⟨_,hp⟩
    ·exact⟨_,tw,rfl⟩
    ·exact⟨o,hp,rfl⟩
   obtain⟨x1,y1,z1⟩:=key h1;obtain⟨x2,y2,z2⟩:=key h2;rw[z1]at hb;rw[z2];exact xn.apart p p' x1 x2 b b7 y1 y2 hb
  ·rcases fL hp with⟨rfl,rfl⟩|⟨_,hp⟩
   ·exact xn.sk p _ b tw hb
   ·exact xn.sk p o b hp hb
 have xP:=dK.sub;have w6:∀r',aK+1<=r'->eJ o1 r (.box (cs.set k (.bC aK 0))) r'=none:=λr' gS=>by
  rw[<-H9];simp only[eJ];rw[aZ (by omega),aZ (by omega)];exact h.fresh r' (by simp only;omega)
 rw[H9];exact⟨L1,⟨⟨W,base,M,w0,dK,h0.size,λt=>aA.fu uH _ _ (aA.fu hA _ _ (h0.tmps t)),O4⟩,ic.comp (ic.comp h.r.fu hA (dK.Jy _) xP.2) uH (dK.Jy _) xP.2,h.r.defers,h.r.bg,⟨_,w6⟩⟩,w6,h.low,h.it⟩
@[simp] def JT:look []=λ_=>DV.undef:=by funext k;rfl
def Mw:Option Ob->Option Ob->Prop
 |some a,some b=>jR a b
 |_,_=>False
def SF(low:Nat)(o0 o:bq):c7->Prop
 |[]=>True
 |(r,_)::l=>(r<low->Mw (o0 r) (o r))/\SF low o0 o l
attribute [simp] SF Mw jR
@[simp] def aou{j:Nat}{o:Ob}{l:c7}:gone (cJ ((j,o)::l)) σ r↔σ j≠r/\gone (cJ l) σ r:=by
 refine⟨λh=>⟨h j (by simp),λr' gS=>h r' (by simp only[c6];split<;>simp[gS])⟩,λh=>aaF h.1 h.2⟩
@[simp] def apq:gone (cJ []) σ r:=λr' h=>eB rfl h
end
section
variable{r:Nat}{f:bq}{d:DC}
variable [bM] [dM]
def aO:c7->bq->bq
 |[],f=>f
 |(r,o)::l,f=>λk=>if k=r then some o else aO l f k
@[simp] def aH(r:Nat)(o:Ob)(l:c7)(f:bq)(k:Nat):aO ((r,o)::l) f k=if k=r then some o else aO l f k:=rfl
@[simp] def bL(f:bq)(k:Nat):aO [] f k=f k:=rfl
@[simp] def XU(l:c7)(f:bq)(r:Nat)(o:Ob):cN (aO l f) (some (r,o))=aO ((r,o)::l) f:=rfl
def kx(l:c7)(f:bq)(r:Nat)(o:Ob):eJ (aO l f) r o=aO ((r,o)::l) f:=rfl
def bb:Ob->cQ
 |.box cs=>bQ cs
 |.bE _ _ _ _=>[]
 |.map _ _ _ es=>es.flatMap λe=>aP e.2.2
 |.cm m _ _ _=>[m]
def df(f:bq)(n:Nat):Prop:=∀r o,f r=some o->r<n/\∀m∈bb o,f m≠none
section
variable{base:Nat}{W M:fH}{w0 w:World}{ab aJ:bq}{L:Loc}
def Bo(hO:cC base W M w0 ab w L){N:Nat}(hN:∀r,N<=r->ab r=none):df ab N:=by
 intro r o hr;refine⟨ZbW (λh=>by rw[hN r h]at hr;cases hr),λm hm=>?_⟩;have gP:=hO.ob r o hr;cases o with
 |box cs=>obtain⟨c,e,_,h,_⟩:=gP;exact gv.aP cs (gv.bX cs _ h) m hm
 |bE _ _ _ _=>cases hm
 |cm m' _ _ _=>
  obtain⟨_,⟨_,_,_,_,h⟩,_⟩:=gP;simp only[bb,oO]at hm;subst hm;simp[h]
 |map cy agg c es=>
  obtain⟨bE,_,h,_⟩:=gP;simp only[bb,Ln]at hm;obtain⟨e,he,hm⟩:=hm;obtain⟨i,hi⟩:=Zcc he;obtain⟨x,_,_,_,hv⟩:=bP.get h hi;exact fD.aP _ (fD.bX _ _ hv) m hm
def sameAt(ab aJ:bq)(m:Nat):Prop:=∃o o',ab m=some o/\aJ m=some o'/\jR o o'
def Mz(Dw:∀b,WW W aJ L b->WW W ab L b):
  ∀n,(∀(d:DV) (x:Value),SizeOf.sizeOf d<n->(∀m∈aP d,sameAt ab aJ m)->aA w W ab L d x->aA w W aJ L d x)/\
   (∀(ds:bF) (xs:List Value),SizeOf.sizeOf ds<n->(∀m∈bQ ds,sameAt ab aJ m)->aR w W ab L ds xs->aR w W aJ L ds xs)/\
   (∀(ds:bF) (xs:List Value),SizeOf.sizeOf ds<n->(∀m∈bQ ds,sameAt ab aJ m)->eP w W ab L ds xs->eP w W aJ L ds xs):=by
 have Dc:=(dv.refl (WW W ab L) w).toKeepsC;have xP:∀b,b<w.heap.size->WW W aJ L b->WW W ab L b:=λb _ h=>Dw b h;intro n;induction n with
 |zero=>exact⟨λ_ _ h=>by omega,λ_ _ h=>by omega,λ_ _ h=>by omega⟩
 |succ n ih=>
  refine⟨λd x hn hm hr=>?_,λds xs hn hm hr=>?_,λds xs hn hm hr=>?_⟩
  ·cases d with
   |undef=>simp[aA]
   |skip=>simpa only[aA]using hr
   |Po=>simpa only[aA]using hr
   |aX=>simpa only[aA]using hr
   |v t=>simp only[aA]at hr⊢;exact bm.bH Dc xP t x hr
   |mV av i off=>
    simp only[aA]at hr⊢;obtain⟨b,o,sz,hx,hb,XE,AM,h1,h2⟩:=hr;exact⟨b,o,sz,hx,hb,λk=>XE (Dw b k),bD.bH Dc xP hb XE sz o av AM,h1,h2⟩
   |jd cs off=>
    simp only[aA]at hr⊢;obtain⟨b,o,hx,hb,XE,AM⟩:=hr;exact⟨b,o,hx,hb,λk=>XE (Dw b k),eD.bH Dc xP hb XE o cs AM⟩
   |ptr r off=>
    obtain⟨o,o',h1,h2,h3⟩:=hm r (by simp[aP]);simp only[aA]at hr⊢;obtain⟨⟨cs,hc⟩,hx⟩:=hr;rw[h1]at hc;cases hc;cases o' with
    |box wZ=>exact⟨⟨wZ,h2⟩,hx⟩
    |_=>exact h3.elim
   |je r=>
    obtain⟨o,o',h1,h2,h3⟩:=hm r (by simp[aP]);simp only[aA]at hr⊢;obtain⟨⟨_,_,_,_,hc⟩,hx⟩:=hr;rw[h1]at hc;cases hc;cases o' with
    |map a b c d=>exact⟨⟨a,b,c,d,h2⟩,hx⟩
    |_=>exact h3.elim
   |cm r=>
    obtain⟨o,o',h1,h2,h3⟩:=hm r (by simp[aP]);simp only[aA]at hr⊢;obtain⟨⟨_,_,_,_,hc⟩,hx⟩:=hr;rw[h1]at hc;cases hc;cases o' with
    |cm a b c d=>exact⟨⟨a,b,c,d,h2⟩,hx⟩
    |_=>exact h3.elim
   |bC r bJ=>
    obtain⟨o,o',h1,h2,h3⟩:=hm r (by simp[aP]);simp only[aA]at hr⊢;obtain⟨LO,cw,e,sz,av,hc,jW,hx⟩:=hr;rw[h1]at hc;cases hc;cases o' with
    |bE v2 e2 s2 r2=>obtain⟨rfl,rfl,h5⟩:=h3;exact⟨LO,_,_,_,_,h2,jW,hx⟩
    |_=>exact h3.elim
   |kO r bJ i off=>
    obtain⟨o,o',h1,h2,h3⟩:=hm r (by simp[aP]);simp only[aA]at hr⊢;obtain⟨LO,cw,e,sz,av,hc,jW,hx⟩:=hr;rw[h1]at hc;cases hc;cases o' with
    |bE v2 e2 s2 r2=>
     obtain⟨rfl,rfl,h5⟩:=h3;exact⟨LO,_,_,_,_,h2,jW,λhv=>by obtain⟨g,k1,k2,k3,k4⟩:=hx hv;exact⟨g,k1,k2,k3,by rw[<-h5];exact k4⟩⟩
    |_=>exact h3.elim
   |Hq r m=>
    obtain⟨o,o',h1,h2,h3⟩:=hm r (by simp[aP]);simp only[aA]at hr⊢;obtain⟨⟨cs,hc⟩,hx⟩:=hr;rw[h1]at hc;cases hc;cases o' with
    |box wZ=>exact⟨⟨wZ,h2⟩,hx⟩
    |_=>exact h3.elim
   |wa r bJ lo m=>
    obtain⟨o,o',h1,h2,h3⟩:=hm r (by simp[aP]);simp only[aA]at hr⊢;obtain⟨LO,cw,e,sz,av,hc,jW,hx⟩:=hr;rw[h1]at hc;cases hc;cases o' with
    |bE v2 e2 s2 r2=>
     obtain⟨rfl,rfl,h5⟩:=h3;exact⟨LO,_,_,_,_,h2,jW,λhv=>by
      obtain⟨k0,p,cap,p2,k1,k2,k3⟩:=hx hv;exact⟨by rw[<-h5];exact k0,p,cap,p2,by rw[<-h5];exact k1,k2,k3⟩⟩
    |_=>exact h3.elim
   |agg ds=>
    simp only[aA]at hr⊢;obtain⟨vs,hv,hr⟩:=hr;exact⟨vs,hv,ih.2.1 ds _ (by simp at hn⊢;omega) (λm h=>hm m (by simpa only[aP]using h)) hr⟩
   |oP f ds=>
    simp only[aA]at hr⊢;obtain⟨vs,hv,hr⟩:=hr;exact⟨vs,hv,ih.2.1 ds _ (by simp at hn⊢;omega) (λm h=>hm m (by simpa only[aP]using h)) hr⟩
   |ew ds=>
    simp only[aA]at hr⊢;obtain⟨vs,hv,hr⟩:=hr;exact⟨vs,hv,ih.2.2 ds _ (by simp at hn⊢;omega) (λm h=>hm m (by simpa only[aP]using h)) hr⟩
  ·cases ds with
   |nil=>simpa only[aR]using hr
   |cons d ds=>
    simp only[aR]at hr⊢;obtain⟨y,ys,hv,h1,h2,h3⟩:=hr;exact⟨y,ys,hv,h1,ih.1 d y (by simp at hn⊢;omega) (λm h=>hm m (by simp[bQ,h])) h2,ih.2.1 ds ys (by simp at hn⊢;omega) (λm h=>hm m (by simp[bQ,h])) h3⟩
  ·cases ds with
   |nil=>simpa only[eP]using hr
   |cons d ds=>
    simp only[eP]at hr⊢;obtain⟨y,ys,hv,h2,h3⟩:=hr;exact⟨y,ys,hv,ih.1 d y (by simp at hn⊢;omega) (λm h=>hm m (by simp[bQ,h])) h2,ih.2.2 ds ys (by simp at hn⊢;omega) (λm h=>hm m (by simp[bQ,h])) h3⟩
def aeN(Dw:∀b,WW W aJ L b->WW W ab L b){o:Ob}(hm:∀m∈bb o,sameAt ab aJ m)(h:qF w W ab L base M r o):qF w W aJ L base M r o:=by
 cases o with
 |box cs=>obtain⟨c,e,hc,hr,A0⟩:=h;exact⟨c,e,hc,(Mz Dw (SizeOf.sizeOf cs+1)).2.1 cs _ (by omega) hm hr,A0⟩
 |bE bJ e sz av=>
  obtain⟨g1,g2,g3,g4⟩:=h;refine⟨g1,g2,g3, ?_⟩;rcases g4 with g4|⟨g,cap,eH,hv,hp,hh,k1,k2,k3,k4⟩
  ·exact .inl g4
  ·exact .inr ⟨g,cap,eH,hv,hp,hh,k1,k2,k3,bl.bH (dv.refl (WW W ab L) w).toKeepsC (λb _ hb=>Dw b hb) _ _ k4⟩
 |map cy agg c es=>
  obtain⟨bE,hc,hr,k1,k2,k3,A0⟩:=h;refine⟨bE,hc, ?_,k1,k2,k3,A0⟩;have key:∀(es:List (Nat×T×DV)) (xs:List MapEntry),(∀m∈es.flatMap (λe=>aP e.2.2),sameAt ab aJ m)->bP w W ab L es xs->bP w W aJ L es xs:=by
   intro es;induction es with
   |nil=>intro xs _ h;simpa only[bP]using h
   |cons e es ih=>
    intro xs hm h;simp only[bP]at h⊢;obtain⟨x,mq,hx,h1,h2,h3,h4⟩:=h;exact⟨x,mq,hx,h1,bm.bH (dv.refl (WW W ab L) w).toKeepsC (λb _ hb=>Dw b hb) _ _ h2,
     (Mz Dw (SizeOf.sizeOf e.2.2+1)).1 _ _ (by omega) (λm h=>hm m (by simp[h])) h3,ih mq (λm h=>hm m (by simp only[Zz,oi];exact .inr h)) h4⟩
  exact key es _ hm hr
 |cm m s sn l=>
  obtain⟨hc,⟨a1,a2,a3,a4,OW⟩,A0⟩:=h;obtain⟨o,o',h1,h2,h3⟩:=hm m (by simp[bb]);rw[OW]at h1;cases h1;cases o' with
  |map b1 b2 b3 b4=>exact⟨hc,⟨b1,b2,b3,b4,h2⟩,A0⟩
  |_=>exact h3.elim
end
def eK(ab aJ:bq)(o o':Ob):Prop:=o8 ab aJ id o o'\/(o=o'/\∀m∈bb o,sameAt ab aJ m)
def zH{ab aJ:bq}{L:Loc}{o o':Ob}(h:eK ab aJ o o')(r:Nat):L.own r o'=L.own r o:=by
 rcases h with h|⟨rfl,_⟩
 ·exact wo (L:=L) h r
 ·rfl
def Le.XV{st dx:ma}(A5:dx.low=st.low)(Ms:dx.todo=st.todo)(Fe:∀r,dx.aK<=r->dx.ab r=none)
  (gP:∀r o',dx.ab r=some o'->∃o,st.ab r=some o/\eK st.ab dx.ab o o')
  (CC:∀r,r<st.low->∀o,st.ab r=some o->∃o',dx.ab r=some o'/\jR o o')
  (iX:∀k,iY st.ab dx.ab id (st.tmps k) (dx.tmps k)):Le st dx:=by
 intro κ nt a w L h;have rV:∀r' o',dx.ab r'=some o'->∃o,st.ab (id r')=some o/\∀r,(L.Fc id).own r o'=L.own (id r) o:=λr' o' h=>let⟨o,h1,h2⟩:=gP r' o' h;⟨o,h1,zH (L:=L) h2⟩
 refine⟨L,⟨?_, ?_,h.r.defers,h.r.bg,⟨_,Fe⟩⟩,Fe,by rw[A5];exact h.low,by rw[A5];exact h.it⟩
 ·obtain⟨W,base,M,w0,dK,h0⟩:=h.r.ex;have hO:=h0.o;have Dw:∀b,WW W dx.ab L b->WW W st.ab L b:=λb hb=>mH (L:=L) (σ:=id) rV b hb;have cr:=λ(d d':DV) (x:Value)=>(DD hO rV (SizeOf.sizeOf d+1)).1 d d' x (by omega);have crs:=λ(ds rP:bF) (xs:List Value)=>(DD hO rV (SizeOf.sizeOf ds+1)).2.1 ds rP xs (by omega);refine⟨W,base,M,w0,by rw[Ms];exact dK,h0.size,λt=>cr _ _ _ (iX t) (h0.tmps t),⟨hO.fr,λr' o' iW=>?_,λr1 r2 o1 o2 b b7 h1 h2 xT gm=>?_,λr' o' b iW hb=>?_,hO.under,hO.gl.bH (dv.refl (WW W st.ab L) w).toKeepsC λb _ hb=>Dw b hb⟩⟩
  ·obtain⟨o,ho,hc⟩:=gP r' o' iW;have hk:=hO.ob r' o ho;rcases hc with hc|⟨rfl,hc⟩
   ·cases o with
    |box cs=>
     cases o' with
     |box wZ=>
      obtain⟨c,e,cU,hr,hm⟩:=hk;exact⟨c,e,cU,crs cs wZ _ hc hr,hm⟩
     |_=>exact hc.elim
    |map cy agg c es=>
     cases o' with
     |map kZ k9 c' ol=>
      obtain⟨rfl,rfl,rfl,qK⟩:=hc;obtain⟨bE,cU,hr,k1,k2,k3,hm⟩:=hk;have key:∀(es ol:List (Nat×T×DV)) (xs:List MapEntry),ka st.ab dx.ab id es ol->bP w W st.ab L es xs->bP w W dx.ab L ol xs/\ol.map (·.1)=es.map (·.1)/\ol.map (·.2.1)=es.map (·.2.1):=by
       intro es;induction es with
       |nil=>intro ol xs h1 h2;simp only[ka]at h1;subst h1;exact⟨by simpa only[bP]using h2,rfl,rfl⟩
       |cons e es ih=>
        intro ol xs h1 h2;cases ol with
        |nil=>simp[ka]at h1
        |cons e' ol=>
         simp only[ka]at h1;simp only[bP]at h2⊢;obtain⟨x,mq,rfl,q0,q1,q2,q3⟩:=h2;obtain⟨i1,i2,i3⟩:=ih ol mq h1.2.2.2 q3;refine⟨⟨x,mq,rfl,q0.trans h1.1, ?_,cr _ _ _ h1.2.2.1 q2,i1⟩,by simp[i2,h1.1],by simp[i3,h1.2.1]⟩;rw[<-h1.2.1];exact bm.bH (dv.refl (WW W st.ab L) w).toKeepsC (λb _ hb=>Dw b hb) _ _ q1
      obtain⟨i1,i2,i3⟩:=key es ol _ qK hr;refine⟨bE,cU,i1,λe he=>?_,λe he=>?_,by rw[i2];exact k3,hm⟩
      ·have:e.2.1∈es.map (·.2.1):=by rw[<-i3];exact g9.2 ⟨e,he,rfl⟩
       obtain⟨e0,h0',Ls⟩:=g9.1 this;rw[<-Ls];exact k1 e0 h0'
      ·have:e.1∈es.map (·.1):=by rw[<-i2];exact g9.2 ⟨e,he,rfl⟩
       obtain⟨e0,h0',Ls⟩:=g9.1 this;rw[<-Ls];exact k2 e0 h0'
     |_=>exact hc.elim
    |cm m s sn l=>
     cases o' with
     |cm m' s' sn' l'=>
      obtain⟨rfl,rfl,rfl,rfl,OW⟩:=hc;obtain⟨cU,_,hm⟩:=hk;exact⟨cU,Fb OW,hm⟩
     |_=>exact hc.elim
    |bE bJ e sz av=>
     cases o' with
     |box _=>exact hc.elim
     |map _ _ _ _=>exact hc.elim
     |cm _ _ _ _=>exact hc.elim
     |bE cw e' jh fc=>
      obtain⟨rfl,rfl,rfl⟩:=hc;obtain⟨g1,g2,g3,g4⟩:=hk;refine⟨g1,g2,g3, ?_⟩;rcases g4 with g4|⟨g,cap,eH,hv,hp,hh,k1,k2,k3,k4⟩
      ·exact .inl g4
      ·exact .inr ⟨g,cap,eH,hv,hp,hh,k1,k2,k3,bl.bH (dv.refl (WW W st.ab L) w).toKeepsC (λb _ hb=>Dw b hb) _ _ k4⟩
   ·exact aeN Dw hc hk
  ·obtain⟨p1,q1,c1⟩:=gP r1 o1 h1;obtain⟨p2,q2,c2⟩:=gP r2 o2 h2;rw[zH c1]at xT;rw[zH c2]at gm;exact hO.apart r1 r2 p1 p2 b b7 q1 q2 xT gm
  ·obtain⟨p1,q1,c1⟩:=gP r' o' iW;rw[zH c1]at hb;exact hO.sk r' p1 b q1 hb
 ·have ha:ic κ.W κ.go κ.gL (κ.O0 st.todo) st.ab L w:=h.r.fu;show ic κ.W κ.go κ.gL (κ.O0 dx.todo) dx.ab _ w;rw[Ms];refine⟨ha.dG,λb hb hw=>ha.sub b hb (mH (L:=L) (σ:=id) rV b hw),λr o hr hk=>?_,λr bJ e sz av hr=>?_,ha.yl⟩
  ·have ef:r<st.low:=ZbW λjW=>by rw[h.low r jW]at hr;cases hr
   obtain⟨e1,o1,tw,pq⟩:=ha.fix r o hr hk;obtain⟨o',iW,hv⟩:=CC r ef _ tw;exact⟨e1,o',iW,(zr hv).trans pq⟩
  ·have ef:r<st.low:=ZbW λjW=>by rw[h.low r jW]at hr;cases hr
   obtain⟨v1,e1,s1,r1,tw,l1,k1⟩:=ha.bE r bJ e sz av hr;obtain⟨o',iW,hv⟩:=CC r ef _ tw;cases o' with
   |box wZ=>exact hv.elim
   |map _ _ _ _=>exact hv.elim
   |cm _ _ _ _=>exact hv.elim
   |bE v2 e2 s2 r2=>
    obtain⟨rfl,rfl,h3⟩:=hv;exact⟨v1,e2,s1,r2,iW,l1,λhv=>by
     obtain⟨a1,a2,a3⟩:=k1 hv;exact⟨a1,a2,by rw[<-h3];exact a3⟩⟩
def bk(o:Ob):jR o o:=by cases o<;>simp[jR]
def dT(low:Nat)(a b:bq):c7->Prop
 |[]=>True
 |(r,o)::l=>(∃o0,a r=some o0/\eK a b o0 o/\(r<low->jR o0 o))/\dT low a b l
def bU(low:Nat)(l1:c7):c7->Prop
 |[]=>True
 |(r,_)::l=>(r<low->∃o,(r,o)∈l1)/\bU low l1 l
def sD:∀{l:c7} {f:bq} {r:Nat} {o:Ob},aO l f r=some o->(r,o)∈l\/((∀o',(r,o')∉l)/\f r=some o)
 |[],_,_,_,h=>.inr ⟨λ_ h=>(by cases h),h⟩
 |(j,x)::l,f,r,o,h=>by
  simp only[aH]at h;split at h
  ·rename_i e;cases h;subst e;exact .inl (Zl ..)
  ·rename_i b7;rcases sD h with h|⟨h1,h2⟩
   ·exact .inl (Zm _ h)
   ·refine .inr ⟨λo' iW=>?_,h2⟩;rcases fN.1 iW with e|iW
    ·cases e;exact b7 rfl
    ·exact h1 o' iW
def fE{l:c7}(h:∀o',(r,o')∉l):aO l f r=f r:=by
 induction l with
 |nil=>rfl
 |cons p l ih=>
  obtain⟨j,x⟩:=p;rw[aH,aZ (λe=>h x (by rw[e];exact Zl ..))];exact ih λo' iW=>h o' (Zm _ iW)
def DJ{l:c7}{o:Ob}(h:(r,o)∈l):∃o',aO l f r=some o'/\(r,o')∈l:=by
 induction l with
 |nil=>cases h
 |cons p l ih=>
  obtain⟨j,x⟩:=p;by_cases e:r=j
  ·subst e;exact⟨x,by simp,Zl ..⟩
  ·rcases fN.1 h with h|h
   ·cases h;exact eB rfl e
   ·obtain⟨o',h1,h2⟩:=ih h;exact⟨o',by rw[aH,aZ e];exact h1,Zm _ h2⟩
def xX{low:Nat}{a b:bq}:∀{l:c7},dT low a b l->∀r o,(r,o)∈l->∃o0,a r=some o0/\eK a b o0 o/\(r<low->jR o0 o)
 |[],_,_,_,h=>by cases h
 |(j,x)::l,hk,r,o,h=>by
  rcases fN.1 h with e|h
  ·cases e;exact hk.1
  ·exact xX hk.2 r o h
def tO{low:Nat}{l1:c7}:∀{l:c7},bU low l1 l->∀r o,(r,o)∈l->r<low->∃o,(r,o)∈l1
 |[],_,_,_,h=>by cases h
 |(j,x)::l,hk,r,o,h=>by
  rcases fN.1 h with e|h
  ·cases e;exact hk.1
  ·exact tO hk.2 r o h
def Le.d6{tm:dj}{l0 l1:c7}{l:eO}{aK aY:Nat}{td:List (aL)}{low:Nat}(hf:df f low)(hn:low<=aY)(hb:nK aY l1)
  (h0:bU low l1 l0) (h1:dT low (aO l0 f) (aO l1 f) l1) (iX:fK (aO l0 f) (aO l1 f) id tm l):
  Le ⟨tm,aO l0 f,aK,low,td⟩ ⟨look l,aO l1 f,aY,low,td⟩:=by
 have MA:∀r,r<low->∀o,aO l0 f r=some o->∃o',aO l1 f r=some o'/\jR o o':=by
  intro r hr o ho;by_cases ut:∃o',(r,o')∈l1
  ·obtain⟨o1,H9⟩:=ut;obtain⟨o2,h2,h3⟩:=DJ (f:=f) H9;obtain⟨o0,k1,_,k3⟩:=xX h1 r o2 h3;rw[ho]at k1;cases k1;exact⟨o2,h2,k3 hr⟩
  ·have al7:∀o',(r,o')∉l1:=λo' h=>ut ⟨o',h⟩;rcases sD ho with h|⟨_,h⟩
   ·exact eB (tO h0 r o h hr) ut
   ·exact⟨o,by rw[fE al7];exact h,bk o⟩
 refine Le.XV rfl rfl (λr hr=>?_) (λr o' iW=>?_) (λr hr o ho=>MA r hr o ho) (λk=>mI l iX k)
 ·cases ho:aO l1 f r with
  |none=>exact ho
  |some o=>
   rcases sD ho with h|⟨_,h⟩
   ·have:=rX hb r o h;simp only at hr;omega
   ·have:=(hf r o h).1;simp only at hr;omega
 ·rcases sD iW with h|⟨al7,h⟩
  ·obtain⟨o0,k1,k2,_⟩:=xX h1 r o' h;exact⟨o0,k1,k2⟩
  ·obtain⟨ef,hnm⟩:=hf r o' h;have Jk:aO l0 f r=some o':=by
    by_cases ut:∃o1,(r,o1)∈l0
    ·obtain⟨o1,H9⟩:=ut;obtain⟨o2,h2⟩:=tO h0 r o1 H9 ef;exact eB h2 (al7 o2)
    ·rw[fE λo1 h1=>ut ⟨o1,h1⟩];exact h
   refine⟨o',Jk,.inr ⟨rfl,λm hm=>?_⟩⟩;have hm0:=hnm m hm;have atV:m<low:=by
    cases hfm:f m with
    |none=>exact eB hfm hm0
    |some x=>exact(hf m x hfm).1
   have EH:∃o,aO l0 f m=some o:=by
    by_cases ut:∃o1,(m,o1)∈l0
    ·obtain⟨o1,H9⟩:=ut;obtain⟨o2,h2,_⟩:=DJ (f:=f) H9;exact⟨o2,h2⟩
    ·rw[fE λo1 h1=>ut ⟨o1,h1⟩];exact Zb2.1 hm0
   obtain⟨o,ho⟩:=EH;obtain⟨o2,h2,h3⟩:=MA m atV o ho;exact⟨o,o2,ho,h2,h3⟩
section
variable{P:Program}
def aB.qE{f:FuncId}{nt:Nat}{rs:List dS}(h:aB P f nt d rs){args:bF}{ab:bq}{r:fV}{N:Nat}(hN:∀r,N<=r->ab r=none)(dN:args.length<=nt)
  (k:df ab N->aa P nt d (Bd rs r) ⟨look (args.zipIdx.map λp=>(p.2,p.1)),aO [] ab,N,N,[]⟩):aQ P f args ab r:=
 ⟨h.entry,λbase W M w0 w L cI hO Dd=>(aB.okS h hN dN (Bg (k (Bo hO hN)))).run base W M w0 w L cI hO Dd⟩
def zI{fn:Func}{t:Nat}{tmps:Array Value}{w:World}(hr:fn.results.toList.mapM (o7 P)=some [.oz t]):(results fn tmps).run P w=.ok (tmps.getD t Go.undef) w:=by
 have h1:∃rv,fn.results.toList=[rv]/\o7 P rv=some (.oz t):=by
  cases h:fn.results.toList with
  |nil=>rw[h]at hr;simp at hr
  |cons rv l=>
   rw[h]at hr;simp only[Lp,mb,kP,jG,cu,LW]at hr;obtain⟨x,hx,ys,qG,rfl,rfl⟩:=hr;cases l with
   |nil=>exact⟨rv,rfl,hx⟩
   |cons y l=>simp[jG]at qG
 obtain⟨rv,h1,h2⟩:=h1;have h3:fn.results= #[rv]:=by rw[<-Array.toArray_toList (xs:=fn.results),h1]
 cases rv with
 |tmp t'=>
  simp only[o7,cu,dS.oz.injEq]at h2;subst h2;have AM:(results fn tmps)=(do
   let vs<-fn.results.mapM (λrv=>((match rv with|.tmp t=>pure (tmps.getD t Go.undef)|.cell b t=>do loadVar t (<-asAddr (tmps.getD b Go.undef))):Sem Value))
   pure (if h:vs.size=1 then vs[0]else .tuple vs)):=rfl
  have hm:(fn.results.mapM (λrv=>((match rv with|.tmp t=>pure (tmps.getD t Go.undef)|.cell b t=>do loadVar t (<-asAddr (tmps.getD b Go.undef))):Sem Value))).run P w=.ok #[tmps.getD t' Go.undef] w:=by
   rw[ZcO,h1];simp
  rw[AM];simp only[Sem.run_bind,hm,Result.andThen_ok,Sem.run_pure];rfl
 |cell b t'=>
  simp only[o7]at h2;split at h2<;>simp at h2
def atW(t e sz:Nat)(av:List (aL)):Exit->ma->Prop
 |.normal,st|.ret,st=>(st.tmps t=.aX/\av=[]/\0<sz)\/∃r bJ,st.tmps t=.bC r bJ/\st.ab r=some (.bE bJ e sz av)
 |_,_=>False
def aB.okF{f:FuncId}{nt:Nat}{t:Nat}(h:aB P f nt d [.oz t]){ts:aL}{e sz:Nat}{av:List (aL)}(dN:ts.length<=nt)(k:aa P nt d (atW t e sz av) (rR ts)):pW P f ts e sz av:=by
 have Be:=h.entry;obtain⟨fn,tz,rfl,h3,hr,_⟩:=h;obtain⟨c,hb,hc⟩:=iV.1 h3;refine⟨Be,λW w cI hW hg ig=>?_⟩;have hl:=ga.length ig;simp only[Si]at hl;have vx:H3 ⟨W,λ_=>none,⟨λ_=>0,λ_=>Go.undef,0⟩,w,w.heap.size,λ_=>False,w,none,none,none⟩ fn.ntmps (rR ts) {tmps:=cI++Array.replicate (fn.ntmps-cI.size) Go.undef,defers:=[]} w ⟨λ_=>0,λ_=>Go.undef,0⟩:=by
  refine⟨⟨⟨W,w.heap.size,λ_=>False,w,⟨λ_=>rfl,rfl,rfl,rfl,rfl⟩,by simp;omega,λk=>?_,⟨Fr.refl (ed _),(λr o h=>by cases h),(λr r' o o' b _ h=>by cases h),(λr o b h=>by cases h),hW,hg.start⟩⟩,
   ic.cZ (dv.refl _ _),⟨[],rfl,Zce,(λ_ h=>by cases h),λ_=>rfl⟩,λ_=>ed _,⟨0,λ_ _=>rfl⟩⟩,λ_ _=>rfl,λ_ _=>rfl,λh=>by cases h⟩
  simp only[rR];cases hk:ts[k]? with
  |some x=>
   obtain⟨v,hv,nU⟩:=ga.get ig hk;simp only[p8 hv,PP,aA];refine bm.bH (dv.refl W w).toKeepsC ?_ x v nU;rintro b hb (h|⟨r,o,h,_⟩)
   ·exact h
   ·cases h
  |none=>
   have yO:cI.size<=k:=by
    have:=ZbQ.1 hk;omega
   simp only[PP,aA,pF yO]
 refine callsIn_wide.1 (callsIn_of_wp_marks (n:=0) tz hb trivial ?_);refine wpIn_mono (k.run c hc 0 _ _ _ _ ⟨λJ hJ=>(by cases hJ),λl r s hY=>(by cases hY),λl hl=>(by cases hl)⟩ vx) ?_;rintro e' a' w' ⟨dx,L',q,r'⟩;have done:((dx.tmps t=.aX/\av=[]/\0<sz)\/∃r bJ,dx.tmps t=.bC r bJ/\dx.ab r=some (.bE bJ e sz av))->LeavesInM Fence.wide 0 P fn a'.tmps (λe' w'=>∃v,e'=.returned v/\wL w.heap.size w w'/\EL w.heap.size w' W e sz av v) a'.defers .returning w':=by
  intro hq;obtain⟨Ds,h1,h2,h3,_⟩:=r'.r.defers;rw[h1];refine leaves (κ:=⟨W,λ_=>none,⟨λ_=>0,λ_=>Go.undef,0⟩,w,w.heap.size,λ_=>False,w,none,none,none⟩) rfl ?_ Ds a' w' L' r'.r h1 h2 h3;intro a2 w2 L2 h4;obtain⟨W',Mn,M',w0',dK,h0⟩:=h4.ex;obtain⟨_,e1,e2,e3,e4⟩:=dK
  replace h0:R0 w.heap.size W (λ_=>False) w fn.ntmps dx.tmps dx.ab a2 w2 L2:=by rw[e1,e2,e3,e4]at h0;exact h0
  have fr:=h0.o.fr;refine⟨_,zI hr,_,rfl,⟨⟨fr.os,fr.tape,fr.output,fr.size,λk hk=>fr.block k hk (λx=>x)⟩,fr.drawn⟩, ?_⟩;have ht:=h0.tmps t;rcases hq with⟨hq,rfl,ji⟩|⟨r,bJ,hq,ho⟩
  ·rw[hq]at ht;simp only[aA]at ht;exact⟨ji,λ_ h=>(by cases h),.inl ⟨rfl,ht⟩⟩
  ·rw[hq]at ht;simp only[aA]at ht;obtain⟨_,cw,e',jh,fc,iW,_,hx⟩:=ht;rw[ho]at iW;cases iW;have hx:=hx rfl;obtain⟨g1,g2,g3,g4⟩:=h0.o.ob r _ ho;refine⟨g1,g2, ?_⟩;rcases g4 with⟨h5,a,h6⟩|⟨g,cap,eH,hv,hp,hh,k1,k2,k3,k4⟩
   ·exact .inl ⟨h5,a,hx.trans h6⟩
   ·have AN:bi (L2.sl r)=some g:=by rw[hv];simp[bi,Hm.1 hp]
    refine .inr ⟨g,cap,eH,hx.trans hv,hp,(g3 g AN).resolve_right (λx=>x),hh,k1,k2,k3,bl.bH (dv.refl (WW W dx.ab L2) w2).toKeepsC (λb _ hb=>?_) _ _ k4⟩;rcases hb with hb|rfl
    ·exact .inl hb
    ·exact .inr ⟨r,_,ho,AN⟩
 cases e' with
 |normal=>exact done q
 |ret=>exact done q
 |_=>exact q.elim
section
variable{κ:pX}{nt:Nat}{Γ:pk}{aK:Nat}{ro:Option Nat}{n:Nat}
def SL(aC:ay P Γ)(xi:κ.Good P){ops:Array Oper}{Q:Exit->Act->World->Prop}{l2:cQ}:∀(l:cQ) (rs:ai),(∀(k:Nat) (i:Nat),l[k]? =some i->∃o r,ops[i]? =some o/\rs[k]? =some r/\eC P ops o=some (bare r))->rs.length=l.length->rs.all (mi nt)=true->gf rs=true->
  ∀(st:RS) (a:Act) (w:World) (L:Loc),eW κ nt st a w L->lr aK rs st->j8 Γ aK rs st->(∀a' w' L',eW κ nt (ee Γ aK rs st) a' w' L'->wpOpsIn (iZ ro) n P ops Q l2 a' w')->wpOpsIn (iZ ro) n P ops Q (l++l2) a w
 |[],rs,_,hl,_,_,st,a,w,L,h,_,_,hQ=>by
  have:rs=[]:=LS (by simpa using hl);subst this;exact hQ a w L h
 |i::l,[],_,hl,_,_,_,_,_,_,_,_,_,_=>by simp at hl
 |i::l,r::rs,hk,hl,eF,b7,st,a,w,L,h,hf,aN,hQ=>by
  obtain⟨o,r',ho,gS,hc⟩:=hk 0 i rfl;simp only[HN,cu]at gS;subst gS;simp only[ZcZ,mD]at eF;simp only[j8]at aN;have aaf:gI r=true:=by have:=eF.1;simp only[mi,mD]at this;exact this.1.2
  show wpOpsIn (iZ ro) n P ops Q (i::(l++l2)) a w;rw[wpOpsIn_cons];refine ow aC xi ho hc eF.1 h (hf.2 r (by simp)) aN.1 λa' w' L' h'=>?_;refine SL aC xi l rs (λk j hj=>hk (k+1) j (by simpa using hj)) (by simpa using hl) eF.2 (by simp only[gf,mD]at b7;exact b7.2) _ a' w' L' h' ?_ aN.2 hQ;exact wk aC aaf aN.1 (tE b7) ⟨hf.1,λy hy=>hf.2 y (by simp[hy])⟩
def MB(aC:ay P Γ){t:Nat}:∀(rs:ai) (st:RS),j8 Γ aK rs st->st.ab t=none->(∀r∈rs,lays r.d=true->t≠nm aK r)->(ee Γ aK rs st).ab t=none
 |[],st,_,h,_=>h
 |r::rs,st,aN,h,hn=>by
  simp only[j8]at aN;exact MB aC rs _ aN.2 (Ba aC aN.1 h (hn r (by simp))) λr hr=>hn r (by simp[hr])
end
section
variable{nt:Nat}{Γ:pk}{Q:Exit->ma->Prop}{tm:dj}{ob:bq}{aK low:Nat}{td:List (aL)}
def JW{a b:ai}(h:gf (a++b)=true):gf a=true/\gf b=true/\∀x∈a,∀y∈b,qP x y=true:=by
 induction a with
 |nil=>exact⟨rfl,h,λ_ h=>by cases h⟩
 |cons r a ih=>
  simp only[C9,gf,mD,List.all_append]at h⊢;obtain⟨i1,i2,i3⟩:=ih h.2;refine⟨⟨h.1.1,i1⟩,i2,λx hx y hy=>?_⟩;rcases fN.1 hx with rfl|hx
  ·exact Hy.1 h.1.2 y hy
  ·exact i3 x hx y hy
end
end
end
section
variable{f:Nat->Nat}
variable [bM] [dM]
def fF(f:Nat->Nat)(r:RO):RO:=⟨r.d,r.dst,r.guard,r.after,r.kI.map (·.map f)⟩
def db(f:Nat->Nat)(rs:ai):ai:=rs.map (fF f)
def aaL(hf:∀a b,f a=f b->a=b)(x y:Option (cQ)):De (x.map (·.map f)) (y.map (·.map f))=De x y:=by
 cases x<;>cases y<;>simp only[Option.map_none,O5,De]
 rename_i a b;rw[Zcb];simp only[List.all_map,Hy,Function.comp_apply,Zdm,ne_eq];exact⟨λh x hx y hy e=>h x hx y hy (by rw[e]),λh x hx y hy e=>h x hx y hy (hf _ _ e)⟩
def XW(hf:∀a b,f a=f b->a=b)(x y:RO):lg (fF f x) (fF f y)=lg x y:=by
 unfold lg;rw[show(fF f x).kI=x.kI.map (·.map f)from rfl,show(fF f y).kI=y.kI.map (·.map f)from rfl,aaL hf];rfl
def XX(f:Nat->Nat)(rs:ai):ov (db f rs)=ov rs:=by
 unfold ov db;rw[ZcU];try rfl
def Fq(f:Nat->Nat):∀rs:ai,gf (db f rs)=gf rs
 |[]=>rfl
 |r::rs=>by
  simp only[db,qD,gf,List.all_map];have:=Fq f rs;simp only[db]at this;rw[this];rfl
def d8(hf:∀a b,f a=f b->a=b)(nt:Nat)(iO:Bool)(rs:ai):eE nt iO (db f rs)=eE nt iO rs:=by
 unfold eE;rw[Fq,XX];have h1:(db f rs).all (mi nt)=rs.all (mi nt):=by simp only[db,List.all_map];rfl
 have h2:wj (db f rs) (ov rs)=wj rs (ov rs):=by
  unfold wj;simp only[db,XP,ZbG]
  congr 1
  funext i;cases rs[i]? with
  |none=>rfl
  |some y=>
   cases(ov rs)[i]? with
   |none=>rfl
   |some m=>
    simp only[O5]
    congr 1
    congr 1
    funext x;cases rs[x]? with
    |none=>rfl
    |some r=>simp only[O5,XW hf]
 rw[h1,h2]
def MC(b N:Nat)(n:Nat):Nat:=if n=0 then b else N+n
def XY{b N:Nat}(h:b<N)(x y:Nat)(e:MC b N x=MC b N y):x=y:=by
 unfold MC at e;split at e<;>split at e<;>omega
def lj(l:c7)(r:Nat)(o:Ob):eJ (cJ l) r o=cJ ((r,o)::l):=rfl
end
section
variable{d:DC}{rs:ai}
variable [bM] [dM]
section
variable{P:Program}{nt:Nat}{Γ:pk}{Q:Exit->ma->Prop}{st:ma}{tm:dj}{ob:bq}{aK low:Nat}{td:List (aL)}
def aa.aeO(aC:ay P Γ)(hm:P.follows .mixedOrders=true)(hd:d=.region false (rs.map bare))(aN:eE nt false rs=true)
  (ce:j8 Γ st.aK rs ⟨st.tmps,st.ab,st.todo⟩) (hQ:Q .normal ⟨(ee Γ st.aK rs ⟨st.tmps,st.ab,st.todo⟩).tmps,(ee Γ st.aK rs ⟨st.tmps,st.ab,st.todo⟩).ab,st.aK+nt+1,st.low,(ee Γ st.aK rs ⟨st.tmps,st.ab,st.todo⟩).todo⟩):
  aa P nt d Q st:=by
 refine⟨λc hc=>?_⟩;subst hd;obtain⟨id,ops,rfl,nw,alD⟩:=nI hc;exact tF aC hm nw aN ce hQ
def aa.Di(aC:ay P Γ)(hm:P.follows .mixedOrders=true)(hd:d=.region false (rs.map bare))(aN:eE nt false rs=true)(ks:cQ)
  (h:fj Γ aK rs ⟨tm,ob,td⟩ λs=>Q .normal ⟨look (lU ks s.tmps),s.ab,aK+nt+1,low,s.todo⟩):aa P nt d Q ⟨tm,ob,aK,low,td⟩:=by
 have:=jm _ _ _ h;refine aa.zk (Q:=λe s=>e=.normal/\s=⟨(ee Γ aK rs ⟨tm,ob,td⟩).tmps,(ee Γ aK rs ⟨tm,ob,td⟩).ab,aK+nt+1,low,(ee Γ aK rs ⟨tm,ob,td⟩).todo⟩) (aa.aeO aC hm hd aN (st:=⟨tm,ob,aK,low,td⟩) this.1 ⟨rfl,rfl⟩) ?_;rintro e s ⟨rfl,rfl⟩;exact⟨_,Le.vy (lG _ ks),this.2⟩
def aa.cY(aC:ay P Γ)(hm:P.follows .mixedOrders=true){b:DC}(hd:d=.region false (rs.map bare))(aN:eE nt false rs=true)(ks:cQ)
  (h:fj Γ aK rs ⟨tm,ob,td⟩ λs=>aa P nt b Q ⟨look (lU ks s.tmps),s.ab,aK+nt+1,low,s.todo⟩):aa P nt (.seq d b) Q ⟨tm,ob,aK,low,td⟩:=
 aa.seq (aa.Di aC hm hd aN ks h)
end
end
end Go.DM
namespace Go.DM
open Go.RowKit
variable [bM] [dM]
section
variable{Γ:pk}{aK:Nat}{K:RS->Prop}{rs:ai}{tm:dj}{ob:bq}{td:List (aL)}{dst:Option Nat}{d:sV}{s:Nat}{af l:cQ}
@[simp] def apt(b:Bool)(h:tm s=.v (.bool b)):fj Γ aK (⟨d,dst,some (s,b),af,some l⟩::rs) ⟨tm,ob,td⟩ K=(cX ⟨d,dst,none,af,some l⟩ tm/\(sW d=true->H5 l ob (pn Γ d tm ob td).ab)/\nh Γ aK d rs tm ob td K dst tm):=by
 simp only[fj,h,forall_const,ku h,E4];cases b<;>simp[zm,cX]
def MD(b c:Bool)(h:tm s=.v (.bool b))(hc:b= !c):fj Γ aK (⟨d,dst,some (s,c),af,some l⟩::rs) ⟨tm,ob,td⟩ K=fj Γ aK rs ⟨c5 tm dst .skip,ob,td⟩ K:=by
 subst hc;cases c
 ·have h:tm s=.v (.bool true):=h;simp[fj,h,ku h]
 ·have h:tm s=.v (.bool false):=h;simp[fj,h,ku h]
@[simp] def aov(h:tm s=.v (.bool true)):fj Γ aK (⟨d,dst,some (s,false),af,some l⟩::rs) ⟨tm,ob,td⟩ K=fj Γ aK rs ⟨c5 tm dst .skip,ob,td⟩ K:=MD true false h rfl
@[simp] def aow(h:tm s=.v (.bool false)):fj Γ aK (⟨d,dst,some (s,true),af,some l⟩::rs) ⟨tm,ob,td⟩ K=fj Γ aK rs ⟨c5 tm dst .skip,ob,td⟩ K:=MD false true h rfl
@[simp] def aox{mg:Bool}(h:tm s=.skip):fj Γ aK (⟨d,dst,some (s,mg),af,some l⟩::rs) ⟨tm,ob,td⟩ K=fj Γ aK rs ⟨c5 tm dst .skip,ob,td⟩ K:=by
 simp only[fj,h]
end
end Go.DM
namespace Go.DM
open Go.RowKit
section
variable{cs:bF}{av:List (aL)}{sz:Nat}
variable [bM] [dM]
def aaM{base:Nat}{W M:fH}{w0 w:World}{o1:bq}{L1:Loc}(xn:cC base W M w0 o1 w L1){r k:Nat}{d:DV}(tw:o1 r=some (.box cs))
  (hd:∀c f xs,w.heap[L1.jX r]? =some (.cells c f (0,0))->c.toList=xs->∀x,xs[k]? =some x->ic W o1 L1 w (eJ o1 r (.box (cs.set k d))) L1 w->aA w W (eJ o1 r (.box (cs.set k d))) L1 d x):
  cC base W M w0 (eJ o1 r (.box (cs.set k d))) w L1/\ic W o1 L1 w (eJ o1 r (.box (cs.set k d))) L1 w:=by
 have Dw:∀{V:fH} b,WW V (eJ o1 r (.box (cs.set k d))) L1 b->WW V o1 L1 b:=by
  intro V b hb;rcases hb with hb|⟨r',o,gS,hb⟩
  ·exact .inl hb
  ·rcases fL gS with⟨rfl,rfl⟩|⟨_,gS⟩
   ·exact .inr ⟨r',_,tw,hb⟩
   ·exact .inr ⟨r',o,gS,hb⟩
 have uH:ic W o1 L1 w (eJ o1 r (.box (cs.set k d))) L1 w:=by
  refine⟨dv.refl _ _,λb _ h=>Dw b h,λr' o' gS uW=>?_,λr' bJ e' jh av gS=>?_,rfl⟩
  ·by_cases he:r'=r
   ·subst he;rw[tw]at gS;cases gS;exact⟨rfl,.box (cs.set k d),by simp[eJ],rfl⟩
   ·exact⟨rfl,o',nW he gS,rfl⟩
  ·have he:r'≠r:=λhe=>by rw[he,tw]at gS;cases gS
   exact⟨bJ,e',jh,av,nW he gS,ed _,λ_=>⟨rfl,rfl,rfl⟩⟩
 refine⟨⟨xn.fr,λr' o gS=>?_,λp p' o o' b b7 h1 h2 hb=>?_,λp o b hp hb=>?_,xn.under,xn.gl.bH uH.dG.toKeepsC uH.sub⟩,uH⟩
 ·rcases fL gS with⟨rfl,rfl⟩|⟨b7,gS⟩
  ·obtain⟨c,f,cU,ig,hm⟩:=xn.ob r' _ tw;exact⟨c,f,cU,Bh _ _ _ _ (aR.fu uH _ _ ig) λy hy=>hd c f _ cU rfl y hy uH,hm⟩
  ·have uW:=xn.ob r' o gS;cases o with
   |box wZ=>
    obtain⟨c',f',Fj,Fk,Jj⟩:=uW;exact⟨c',f',Fj,aR.fu uH wZ _ Fk,Jj⟩
   |map cy agg c es=>
    obtain⟨bE,Fj,Fk,q1,q2,q3,Jj⟩:=uW;exact⟨bE,Fj,bP.fu uH es _ Fk,q1,q2,q3,Jj⟩
   |cm m s sn l=>
    obtain⟨Fj,OW,Jj⟩:=uW;exact⟨Fj,(uH.mp m OW).2,Jj⟩
   |bE bJ e' jh av=>
    obtain⟨g1,g2,g3,g4⟩:=uW;refine⟨g1,g2,g3, ?_⟩;rcases g4 with g4|⟨g,cap,eH,hv,hp,hh,k1,k2,k3,k4⟩
    ·exact .inl g4
    ·exact .inr ⟨g,cap,eH,hv,hp,hh,k1,k2,k3,bl.bH (dv.refl (WW W o1 L1) w).toKeepsC (λb _ hb=>Dw b hb) _ _ k4⟩
 ·have key:∀{p o},eJ o1 r (.box (cs.set k d)) p=some o->∃o2,o1 p=some o2/\L1.own p o=L1.own p o2:=by
   intro p o hp;rcases fL hp with⟨rfl,rfl⟩|⟨_,hp⟩
   ·exact⟨_,tw,rfl⟩
   ·exact⟨o,hp,rfl⟩
  obtain⟨x1,y1,z1⟩:=key h1;obtain⟨x2,y2,z2⟩:=key h2;rw[z1]at hb;rw[z2];exact xn.apart p p' x1 x2 b b7 y1 y2 hb
 ·rcases fL hp with⟨rfl,rfl⟩|⟨_,hp⟩
  ·exact xn.sk p _ b tw hb
  ·exact xn.sk p o b hp hb
def XZ{n:Nat}(h:∀x∈av,x.length=sz):(av.take n).flatten=av.flatten.take (n*sz):=by
 induction av generalizing n with
 |nil=>simp
 |cons r rs ih=>
  cases n with
  |zero=>simp
  |succ n=>
   have hr:r.length=sz:=h r (by simp);have e1:r.take ((n+1)*sz)=r:=Xd (by rw[hr,C7];omega);have e2:(n+1)*sz-sz=n*sz:=by rw[C7];omega
   rw[Zcu,ZJ,ZJ,Zdo,hr,e1,e2,ih λx hx=>h x (by simp[hx])]
def Le.cut{tm:dj}{ob:bq}{aK low:Nat}{td:List (aL)}(r:Nat)(k:Nat){q bJ n e:Nat}(hr:ob r=some (.box cs))(hk:cs[k]? =some (.wa q bJ 0 n))
  (hq:ob q=some (.bE bJ e sz av)):
  Le ⟨tm,ob,aK,low,td⟩ ⟨tm,eJ (eJ ob q (.bE (bJ+1) e sz (av.take n))) r (.box (cs.set k (.bC q (bJ+1)))),aK,low,td⟩:=by
 intro κ nt a w L h;have hrq:r≠q:=λe=>by rw[e,hq]at hr;cases hr
 obtain⟨W,base,M,w0,dK,h0⟩:=h.r.ex;have hO:=h0.o;obtain⟨c,f,cU,ig,hm⟩:=hO.ob r _ hr;obtain⟨x,hx⟩:=xV _ _ _ _ ig hk;have Hr:=Bi _ _ _ _ _ ig hk hx;simp only[aA]at Hr;obtain⟨_,cw,e',jh,fc,iW,_,hv⟩:=Hr;rw[hq]at iW;cases iW;obtain⟨LR,p,cap,p2,wM,So,Ji⟩:=hv rfl;simp only[Zcq,Zc4,Lo]at LR So Ji;obtain⟨ji,dN,AN,oQ⟩:=hO.ob q _ hq;have tp:bi (L.sl q)=bi x:=by
  rw[wM,So];by_cases h0:cap=0
  ·subst h0;cases p<;>cases p2<;>simp[bi]
  ·rw[Ji (by omega)];cases p<;>simp[bi,h0,Addr.add]
 have step:∃xs,bl w (WW W ob L) (av.take n).flatten xs/\(((av.take n).length+([]:List (aL)).length=0/\∃a:Option Addr,x=.slice a 0 0)\/∃g cap eH,x=.slice (some ⟨g,0,none⟩) ((av.take n).length+([]:List (aL)).length) cap/\0<cap/\w.heap[g]? =some (.cells eH e (0,0))/\(av.take n).length+([]:List (aL)).length<=cap/\cap<=maxLen/\eH.size=cap*sz/\
     eH.toList.take (((av.take n).length+([]:List (aL)).length)*sz)=xs++[]):=by
  have hl:(av.take n).length=n:=by rw[we];omega
  rcases oQ with⟨rfl,a0,ha0⟩|⟨g,aoT,eH,h1,h2,h3,h4,h5,h6,h7⟩
  ·simp only[Zcz]at LR;obtain rfl:n=0:=by omega
   rw[wM]at ha0;simp only[Value.slice.injEq]at ha0;obtain⟨rfl,_,rfl⟩:=ha0;exact⟨[],by simp[bl],.inl ⟨by simp,p2,by rw[So]⟩⟩
  ·rw[wM]at h1;simp only[Value.slice.injEq]at h1;obtain⟨rfl,_,rfl⟩:=h1;have:=Ji h2;subst this;refine⟨eH.toList.take (n*sz), ?_,.inr ⟨g,cap,eH,by rw[So,hl];simp[Addr.add],h2,h3,by simp only[hl,Zcz];omega,h5,h6,by rw[hl];simp⟩⟩;rw[XZ dN];have:=bl.take (n*sz) h7;rw[Zde,Zdv (Zbu _ LR)]at this;exact this
 obtain⟨xs,hxs,u9⟩:=step;obtain⟨xn,hA⟩:=tq (ys:=[]) (av:=av.take n) (cw:=bJ+1) (v:=x) (v':=x) (w':=w) (vs:=[]) hO ji (λy hy=>dN y (by simp only[vZ]at hy;exact Ew hy)) (.inr ⟨hq,tp,by omega⟩) hxs (by simp[bl]) u9
  ⟨rfl,rfl,rfl,ed _,λ_ _ _=>rfl⟩ (λb hb=>.inl hb) (ed _)
 simp only[vZ]at xn hA;obtain⟨o1,H9⟩:=be (eJ ob q (.bE (bJ+1) e sz (av.take n)));have pV:cN ob (some (q,.bE (bJ+1) e sz (av.take n)))=o1:=H9;rw[pV]at xn hA;obtain⟨L1,XR⟩:=be (L.ju q x);rw[XR]at xn hA;have tw:o1 r=some (.box cs):=by rw[<-H9];exact nW hrq hr
 have hq1:o1 q=some (.bE (bJ+1) e sz (av.take n)):=by rw[<-H9];simp[eJ]
 obtain⟨O4,uH⟩:=aaM (k:=k) (d:=.bC q (bJ+1)) xn tw (λc' f' mq Zf m0 y hy uH=>by
  have hb:L1.jX r=L.jX r:=by rw[<-XR];rfl
  rw[hb,cU]at Zf;cases Zf;rw[<-m0,hx]at hy;cases hy;simp only[aA];refine⟨⟨_,_,_,So⟩,bJ+1,e,sz,av.take n,nW (Ne.symm hrq) hq1,ed _,λ_=>?_⟩;rw[<-XR];simp[Loc.ju])
 have xP:=dK.sub;have w6:∀r',aK<=r'->eJ o1 r (.box (cs.set k (.bC q (bJ+1)))) r'=none:=λr' gS=>by
  have hn:=h.fresh r' gS;simp only at hn;have e1:r'≠r:=λe=>by rw[e,hr]at hn;cases hn
  have e2:r'≠q:=λe=>by rw[e,hq]at hn;cases hn
  rw[<-H9];simp only[eJ];rw[aZ e1,aZ e2];exact hn
 rw[H9];exact⟨L1,⟨⟨W,base,M,w0,dK,h0.size,λt=>aA.fu uH _ _ (aA.fu hA _ _ (h0.tmps t)),O4⟩,ic.comp (ic.comp h.r.fu hA (dK.Jy _) xP.2) uH (dK.Jy _) xP.2,h.r.defers,h.r.bg,⟨_,w6⟩⟩,w6,h.low,h.it⟩
end
section
variable{f:FuncId}{N':Nat}
variable [bM] [dM]
section
variable{P:Program}
structure tP(P:Program)(f:FuncId)(args:bF)(ab:bq)(N N':Nat)(oW:DV->bq->Prop):Prop where
 entry:EK P f
 le:N<=N'
 none:∀val aJ,oW val aJ->(∀r,r<N->ab r=none->aJ r=none)/\∀r,N'<=r->aJ r=none
 run:∀(base:Nat) (W M:fH) (w0 w:World) (L:Loc) (cI:Array Value),cC base W M w0 ab w L->j7 w W ab L args cI.toList->
  Calls P f cI w λe w'=>∃v L' val aJ,e=.returned v/\oW val aJ/\cC base W M w0 aJ w' L'/\ic W ab L w aJ L' w'/\aA w' W aJ L' val v
def aeP(t:Nat)(oW:DV->bq->Prop):Exit->ma->Prop
 |.normal,st|.ret,st=>oW (st.tmps t) st.ab
 |_,_=>False
def aB.aeQ{nt:Nat}{d:DC}{t:Nat}(h:aB P f nt d [.oz t]){args:bF}{ab:bq}{oW:DV->bq->Prop}{N:Nat}(hN:∀r,N<=r->ab r=none)(dN:args.length<=nt)
   (jW:N<=N') (ng:∀val aJ,oW val aJ->(∀r,r<N->ab r=none->aJ r=none)/\∀r,N'<=r->aJ r=none)
  (k:df ab N->aa P nt d (aeP t oW) ⟨look (args.zipIdx.map λp=>(p.2,p.1)),aO [] ab,N,N,[]⟩):tP P f args ab N N' oW:=by
 have Be:=h.entry;obtain⟨fn,tz,rfl,h3,hr,_⟩:=h;obtain⟨c,hb,hc⟩:=iV.1 h3;refine⟨Be,jW,ng,λbase W M w0 w L cI hO Dd=>?_⟩;have k:=Bg (k (Bo hO hN));have hl:=Dd.1;simp only[Si]at hl;have vx:H3 ⟨W,ab,L,w,base,M,w0,none,none,none⟩ fn.ntmps (xk args ab N) {tmps:=cI++Array.replicate (fn.ntmps-cI.size) Go.undef,defers:=[]} w L:=by
  refine⟨⟨⟨W,base,M,w0,⟨λ_=>rfl,rfl,rfl,rfl,rfl⟩,by simp;omega,λk=>?_,hO⟩,
   ic.cZ (dv.refl _ _),⟨[],rfl,Zce,(λ_ h=>by cases h),λ_=>rfl⟩,λ_=>xI hO.fr.jO hO.fr.size,⟨N,hN⟩⟩,hN,hN,λh=>by cases h⟩
  simp only[xk];cases hk:args[k]? with
  |some x=>
   have hv:∃v,cI.toList[k]? =some v:=by
    have:k<cI.size:=by rw[hl];exact(Db.1 hk).1
    exact⟨cI[k],by simp[this]⟩
   obtain⟨v,hv⟩:=hv;simp only[p8 hv,Dg];exact Dd.2 k x v hk hv
  |none=>
   have yO:cI.size<=k:=by
    have:=ZbQ.1 hk;omega
   simp only[Dg,aA,pF yO]
 refine callsIn_wide.1 (callsIn_of_wp_marks (n:=0) tz hb trivial ?_);refine wpIn_mono (k.run c hc 0 _ _ _ _ ⟨λJ hJ=>(by cases hJ),λl r s hY=>(by cases hY),λl hl=>(by cases hl)⟩ vx) ?_;rintro e a' w' ⟨dx,L',q,r'⟩;have done:oW (dx.tmps t) dx.ab->LeavesInM Fence.wide 0 P fn a'.tmps (λe w'=>∃v L' val aJ,e=.returned v/\oW val aJ/\cC base W M w0 aJ w' L'/\ic W ab L w aJ L' w'/\aA w' W aJ L' val v) a'.defers .returning w':=by
  intro Zn;obtain⟨Ds,h1,h2,h3,_⟩:=r'.r.defers;rw[h1];refine leaves (κ:=⟨W,ab,L,w,base,M,w0,none,none,none⟩) rfl ?_ Ds a' w' L' r'.r h1 h2 h3;intro a2 w2 L2 h4;obtain⟨W',Mn,M',w0',dK,h0⟩:=h4.ex;obtain⟨_,e1,e2,e3,e4⟩:=dK
  replace h0:R0 base W M w0 fn.ntmps dx.tmps dx.ab a2 w2 L2:=by rw[e1,e2,e3,e4]at h0;exact h0
  exact⟨_,zI hr,_,L2,dx.tmps t,dx.ab,rfl,Zn,h0.o,h4.fu,h0.tmps t⟩
 cases e with
 |normal=>exact done q
 |ret=>exact done q
 |_=>exact q.elim
section
variable{nt:Nat}{Γ:pk}{Q:Exit->ma->Prop}{tm:dj}{ob:bq}{aK low:Nat}{td:List (aL)}
def aa.al8(aC:ay P Γ){rs pre post:ai}{args:List bW}{dst:Option Nat}{af:cQ}(ks:cQ)(nw:rs=pre++⟨.call f args,dst,none,af,none⟩::post)
  (h:fj Γ aK pre ⟨tm,ob,td⟩ λs=>∃oW,((∀r,aK+nt+1<=r->s.ab r=none)->tP P f (args.map (·.ev s.tmps)) s.ab (aK+nt+1) N' oW)/\
   ∀val mG,oW val mG->fj Γ aK post ⟨c5 s.tmps dst val,mG,s.todo⟩ λs'=>Q .normal ⟨look (lU ks s'.tmps),s'.ab,N',low,s'.todo⟩):
  aa P nt (.region false rs) Q ⟨tm,ob,aK,low,td⟩:=by
 refine⟨λc hc=>?_⟩;obtain⟨id,ops,rfl,oT,aN⟩:=nI hc;have al9:gb P ops=some (rs.map bare):=by rw[uA oT];exact oT
 have hg:=j9 al9;simp only[eE,mD]at aN;obtain⟨⟨eF,b7⟩,_⟩:=aN;subst nw;rw[List.all_append,ZcZ]at eF;simp only[mD]at eF;obtain⟨SM,m9,aaN⟩:=eF;obtain⟨alK,aeR,apu⟩:=JW b7;have EH:=jm _ _ _ h;obtain⟨aaO,oW,aV,agL⟩:=EH;intro n κ XC w L g r;refine wpIn_region ?_;have ji:ops.size=pre.length+(post.length+1):=by have:=hg.1;simp at this;omega
 have ff:∀x:RO,∃k,nm aK x=aK+k:=λx=>by
  unfold nm bV;cases x.dst with
  |none=>exact⟨0,rfl⟩
  |some d=>exact⟨d+1,by simp only[fq]⟩
 have xY:∀t,aK<=t->ob t=none:=λt ht=>r.fresh t ht;have hf1:lr aK pre ⟨tm,ob,td⟩:=⟨xY aK (ed _),λx _=>by obtain⟨k,hk⟩:=ff x;rw[hk];exact xY _ (by omega)⟩;have ama:List.range ops.size=List.range pre.length++(pre.length::List.range' (pre.length+1) post.length):=by
  rw[ji,range_split (i:=pre.length) (by omega)]
  congr 2
  congr 1
  omega
 rw[ama];refine SL aC g (List.range pre.length) pre (λk i hi=>?_) (by simp) SM alK ⟨tm,ob,td⟩ XC w L r.r hf1 aaO ?_
 ·obtain⟨hk,Jq⟩:=Db.1 hi;simp only[Zcj]at hk;simp only[Zb6]at Jq;subst Jq;obtain⟨r,h1,h2⟩:=hg.2 k ops[k] (by simp[show k<ops.size by omega]);rw[Zbl hk]at h1;exact⟨ops[k],r,by simp[show k<ops.size by omega],h1,h2⟩
 intro a1 w1 L1 R1;obtain⟨s1,Lu⟩:=be (ee Γ aK pre ⟨tm,ob,td⟩);have apv:∀t,ob t=none->(∀r∈pre,lays r.d=true->t≠nm aK r)->s1.ab t=none:=λt ht hn=>by rw[<-Lu];exact MB aC pre _ aaO ht hn
 rw[Lu]at R1 aV agL;obtain⟨r',h1,hco⟩:=hg.2 pre.length ops[pre.length] (by simp[show pre.length<ops.size by omega]);rw[Zbj (ed _)]at h1;simp only[ZcF,HN,cu]at h1;subst h1;obtain⟨hd,hgd,lc,_⟩:=gh hco;rw[wpOpsIn_cons,wpOpIn];simp only[show ops[pre.length]? =some ops[pre.length]by simp[show pre.length<ops.size by omega]];rw[A9 (b:=true) hgd R1 rfl];simp only[jP];refine⟨nF _ w1 _, ?_⟩;have hd':dI P ops[pre.length]=some (.call f args):=hd;have zi:∀c,ops[pre.length].op≠ .defer c:=oV hd';rw[show(iZ κ.ro).round=κ.ro from rfl,Oper.semAt_eq κ.ro _ _ zi];obtain⟨c,ho,cU⟩:=fO hd' (.inl ⟨f,args,rfl⟩);obtain⟨fn,jV,tz,aag,Cw,qG⟩:=lT cU;have ce:=kp (P:=P) (w:=w1) (a:=a1) (g:=f) (ch:= #[]) ho (λx hx=>by rw[jV]at hx;cases hx;rfl) ⟨_,jV⟩ ⟨fn,tz,aag,Cw⟩;rw[ZbV]at ce;rw[ce,Oper.uponIn_enter];refine⟨λhx=>(by cases hx),fe ?_⟩;obtain⟨W,base,M,w0,dK,h0⟩:=R1.ex;have hN1:∀r,aK+nt+1<=r->s1.ab r=none:=λt ht=>by rw[<-Lu];exact zl aC pre SM _ aaO t ht (xY t (by omega))
 have aV:=aV hN1;refine(aV.run base W M w0 w1 L1 (c.args.map a1.eval) h0.o (by simpa using gH h0.o.gl h0.tmps qG)).mono ?_;rintro e w2 ⟨v,L2,val,Zo,rfl,hP,O4,uH,nU⟩;have SN:∀d,dst=some d->d<nt:=by
  intro d hd;have:=m9;subst hd;simp only[mi,mD,tD]at this;exact this.2
 have R2:=eW.put R1 dK h0 dst SN O4 uH nU ⟨N',(aV.none val Zo hP).2⟩;show wpOpsIn (iZ κ.ro) n P ops _ (List.range' (pre.length+1) post.length) (a1.put ops[pre.length].dst v) w2;have SO:dst=ops[pre.length].dst:=lc;rw[<-SO];have atX:=jm _ _ _ (agL val Zo hP);obtain⟨Sx,hQ2⟩:=atX;have aeS:∀r∈pre,lays r.d=true->∀y∈post,nm aK y≠nm aK r:=by
  intro r hr hl y hy e;have hn:=apu r hr y (by simp[hy]);have hlr:=Hy.1 SM r hr;simp only[mi,mD]at hlr;have qR:r.dst.isSome=true:=by simpa [gI,hl]using hlr.1.2
  obtain⟨d,hd⟩:=Zby.1 qR;cases hyd:y.dst with
  |none=>simp[nm,bV,hd,hyd]at e;omega
  |some d'=>
   simp only[qP,hd,hyd,Zdm,ne_eq]at hn;simp only[nm,bV,hd,hyd]at e;omega
 have A5:∀y∈post,nm aK y<aK+nt+1:=by
  intro y hy;have hly:=Hy.1 aaN y hy;simp only[mi,mD]at hly;unfold nm bV;cases hyd:y.dst with
  |none=>simp only;omega
  |some d=>
   have:=hly.2;rw[hyd]at this;simp only[tD]at this;simp only;omega
 have hf2:lr aK post ⟨c5 s1.tmps dst val,Zo,s1.todo⟩:=by
  refine⟨(aV.none val Zo hP).1 _ (by omega) (apv aK (xY _ (ed _)) λr hr hl e=>?_),λy hy=>(aV.none val Zo hP).1 _ (A5 y hy) (apv _ ?_ λr hr hl=>aeS r hr hl y hy)⟩
  ·have hlr:=Hy.1 SM r hr;simp only[mi,mD]at hlr;have qR:r.dst.isSome=true:=by simpa [gI,hl]using hlr.1.2
   obtain⟨d,hd⟩:=Zby.1 qR;simp[nm,bV,hd]at e;omega
  ·obtain⟨k,hk⟩:=ff y;rw[hk];exact xY _ (by omega)
 have atY:gf post=true:=by simp only[gf,mD]at aeR;exact aeR.2
 refine vv aC g (List.range' (pre.length+1) post.length) post (λk i hi=>?_) (by simp) aaN atY _ _ w2 L2 R2 hf2 Sx λa3 w3 L3 R3=>?_
 ·obtain⟨hk,Jq⟩:=Db.1 hi;simp only[List.length_range']at hk;simp only[List.getElem_range',Nat.one_mul]at Jq;subst Jq;obtain⟨r,h1,h2⟩:=hg.2 (pre.length+1+k) ops[pre.length+1+k] (by simp[show pre.length+1+k<ops.size by omega]);rw[Zbj (by omega),show pre.length+1+k-pre.length=k+1 by omega,Zb]at h1;exact⟨ops[pre.length+1+k],r,by simp[show pre.length+1+k<ops.size by omega],h1,h2⟩
 ·have w6:∀t,N'<=t->(ee Γ aK post ⟨c5 s1.tmps dst val,Zo,s1.todo⟩).ab t=none:=by
   intro t ht;exact zl aC post aaN _ Sx t (xI aV.le ht) ((aV.none val Zo hP).2 t ht)
  obtain⟨L4,R4⟩:=Le.vy (st:=⟨(ee Γ aK post ⟨c5 s1.tmps dst val,Zo,s1.todo⟩).tmps,(ee Γ aK post ⟨c5 s1.tmps dst val,Zo,s1.todo⟩).ab,N',low,(ee Γ aK post ⟨c5 s1.tmps dst val,Zo,s1.todo⟩).todo⟩) (lG _ ks) κ nt a3 w3 L3 ⟨R3,w6,r.low,r.it⟩;exact⟨_,L4,hQ2,R4⟩
end
end
end
end Go.DM
namespace Go.DM
open Go.RowKit
variable [bM] [dM]
section
variable{P:Program}{nt:Nat}{Γ:pk}{κ:pX}{ro:Option Nat}{n:Nat}
def Fs(xi:κ.Good P){ops:Array Oper}{i:Nat}{o:Oper}{f:FuncId}{args:List bW}{dst:Option Nat}{af:cQ}(hi:ops[i]? =some o)(hco:eC P ops o=some ⟨.call f args,dst,none,af,none⟩)(m9:mi nt ⟨.call f args,dst,none,af,none⟩=true)
  {s1:RS} {a1:Act} {w1:World} {L1:Loc} (R1:eW κ nt s1 a1 w1 L1) {N N':Nat} {oW:DV->bq->Prop} (aV:tP P f (args.map (·.ev s1.tmps)) s1.ab N N' oW) {K:Act->World->Prop} {Q:Exit->Act->World->Prop}
  (hK:∀a' w' L' val mG,oW val mG->eW κ nt ⟨c5 s1.tmps dst val,mG,s1.todo⟩ a' w' L'->K a' w'):wpOpIn (iZ κ.ro) n P ops Q i K a1 w1:=by
 obtain⟨hd,hgd,lc,_⟩:=gh (r:=⟨.call f args,dst,none,af,none⟩) hco;rw[wpOpIn];simp only[hi];rw[A9 (b:=true) hgd R1 rfl];simp only[jP];refine⟨nF _ w1 _, ?_⟩;have hd':dI P o=some (.call f args):=hd;have zi:∀c,o.op≠ .defer c:=oV hd';rw[show(iZ κ.ro).round=κ.ro from rfl,Oper.semAt_eq κ.ro _ _ zi];obtain⟨c,ho,cU⟩:=fO hd' (.inl ⟨f,args,rfl⟩);obtain⟨fn,jV,tz,aag,Cw,qG⟩:=lT cU;have ce:=kp (P:=P) (w:=w1) (a:=a1) (g:=f) (ch:= #[]) ho (λx hx=>by rw[jV]at hx;cases hx;rfl) ⟨_,jV⟩ ⟨fn,tz,aag,Cw⟩;rw[ZbV]at ce;rw[ce,Oper.uponIn_enter];refine⟨λhx=>(by cases hx),fe ?_⟩;obtain⟨W,base,M,w0,dK,h0⟩:=R1.ex;refine(aV.run base W M w0 w1 L1 (c.args.map a1.eval) h0.o (by simpa using gH h0.o.gl h0.tmps qG)).mono ?_;rintro e w2 ⟨v,L2,val,Zo,rfl,hP,O4,uH,nU⟩;have SN:∀d,dst=some d->d<nt:=by
  intro d hd;have:=m9;subst hd;simp only[mi,mD,tD]at this;exact this.2
 have R2:=eW.put R1 dK h0 dst SN O4 uH nU ⟨N',(aV.none val Zo hP).2⟩;have SO:dst=o.dst:=lc;rw[SO]at R2;rw[SO]at hK;exact hK _ _ _ _ _ hP R2
end
section
variable{P:Program}{nt:Nat}{Γ:pk}{Q:Exit->ma->Prop}{tm:dj}{ob:bq}{aK low:Nat}{td:List (aL)}
def aaP{a:Array Bool}{i:Nat}(h:i<a.size)(d e:Bool):a.getD i d=a.getD i e:=by
 rw[O1,O1];simp[h]
end
end Go.DM
namespace Go.DM.W9
section
variable{α:Type}(lt:α->α->Bool)
structure SWO:Prop where
 irrefl:∀x,lt x x=false
 trans:∀x y z,lt x y=true->lt y z=true->lt x z=true
 ntrans:∀x y z,lt x y=false->lt y z=false->lt x z=false
def xF(l:List α):Prop:=l.Pairwise λa b=>lt b a=false
def sX(x y:α):Bool:= !lt x y&& !lt y x
def sf(x:α):List α->List α
 |[]=>[x]
 |y::ys=>if lt x y then y::sf x ys else x::y::ys
def Ek(l:List α):List α:=l.foldl (λgr x=>sf lt x gr) []
def kV(l:List α):List α:=(Ek lt l).reverse
variable{lt}
def SWO.asymm(h:SWO lt){x y:α}(h1:lt x y=true):lt y x=false:=by
 cases h2:lt y x with
 |false=>rfl
 |true=>have:=h.trans x y x h1 h2;rw[h.irrefl]at this;cases this
def Fi(x:α):∀(l:List α) (z:α),z∈sf lt x l↔z=x\/z∈l
 |[],z=>by simp[sf]
 |y::ys,z=>by
  simp only[sf];split
  ·simp only[fN,Fi x ys z];constructor
   ·rintro(h|h|h)<;>simp[h]
   ·rintro(h|h|h)<;>simp[h]
  ·simp
def CG(h:SWO lt)(x:α):∀l:List α,l.Pairwise (λa b=>lt a b=false)->(sf lt x l).Pairwise λa b=>lt a b=false
 |[],_=>by simp[sf]
 |y::ys,hs=>by
  simp only[sf];rw[Ph]at hs;split
  ·rename_i hxy;rw[Ph];refine⟨λz hz=>?_,CG h x ys hs.2⟩;rcases(Fi x ys z).1 hz with rfl|hz
   ·exact h.asymm hxy
   ·exact hs.1 z hz
  ·rename_i hxy;have hxy:lt x y=false:=by simpa using hxy
   rw[Ph];refine⟨λz hz=>?_,Ph.2 hs⟩;rcases fN.1 hz with rfl|hz
   ·exact hxy
   ·exact h.ntrans x y z hxy (hs.1 z hz)
def CH(h:SWO lt)(x z:α):∀l:List α,(sf lt x l).filter (sX lt z)=(if sX lt z x then x::l.filter (sX lt z)else l.filter (sX lt z))
 |[]=>by simp[sf,OU]
 |y::ys=>by
  simp only[sf];split
  ·rename_i hxy;rw[OU,CH h x z ys];have hn:sX lt z x=true->sX lt z y=false:=by
    intro hx;simp only[sX,mD,Xr]at hx;cases hy:sX lt z y with
    |false=>rfl
    |true=>
     simp only[sX,mD,Xr]at hy;have:=h.ntrans x z y hx.2 hy.1;rw[hxy]at this;cases this
   by_cases hzx:sX lt z x=true
   ·simp[hzx,hn hzx]
   ·simp only[Zdp]at hzx;simp[hzx,OU]
  ·rw[OU]
def zw(h:SWO lt):∀(l gr:List α),gr.Pairwise (λa b=>lt a b=false)->(l.foldl (λgr x=>sf lt x gr) gr).Pairwise λa b=>lt a b=false
 |[],gr,ha=>ha
 |x::l,gr,ha=>zw h l _ (CG h x gr ha)
def mJ(h:SWO lt)(z:α):∀(l gr:List α),(l.foldl (λgr x=>sf lt x gr) gr).filter (sX lt z)=(l.filter (sX lt z)).reverse++gr.filter (sX lt z)
 |[],gr=>by simp
 |x::l,gr=>by
  rw[Ca,mJ h z l,CH h];by_cases hx:sX lt z x=true
  ·simp[hx]
  ·simp only[Zdp]at hx;simp[hx]
def tf(h:SWO lt)(l:List α):xF lt (kV lt l):=by
 unfold xF kV;rw[List.pairwise_reverse];exact zw h l [] List.Pairwise.nil
def zx(h:SWO lt)(z:α)(l:List α):(kV lt l).filter (sX lt z)=l.filter (sX lt z):=by
 unfold kV Ek;rw[List.filter_reverse,mJ h z];simp
def vA(h:SWO lt)(x:α):sX lt x x=true:=by simp[sX,h.irrefl]
def H8:∀(l gr:List α) (z:α),z∈l.foldl (λgr x=>sf lt x gr) gr↔z∈l\/z∈gr
 |[],gr,z=>by simp
 |x::l,gr,z=>by
  rw[Ca,H8 l,Fi];simp only[fN];constructor
  ·rintro(h|h|h)<;>simp[h]
  ·rintro((h|h)|h)<;>simp[h]
@[simp] def vX(l:List α)(z:α):z∈kV lt l↔z∈l:=by simp[kV,Ek,H8]
def CI(x:α):∀l:List α,(sf lt x l).length=l.length+1
 |[]=>rfl
 |y::ys=>by simp only[sf];split<;>simp[CI x ys]
def zy:∀l gr:List α,(l.foldl (λgr x=>sf lt x gr) gr).length=l.length+gr.length
 |[],gr=>by simp
 |x::l,gr=>by rw[Ca,zy l,CI];simp;omega
@[simp] def yW(l:List α):(kV lt l).length=l.length:=by simp[kV,Ek,zy]
def xm(h:SWO lt):∀(l1 l2:List α),xF lt l1->xF lt l2->(∀x,l1.filter (sX lt x)=l2.filter (sX lt x))->l1=l2
 |[],[],_,_,_=>rfl
 |[],b::t,_,_,hf=>by
  have:=hf b;simp[OU,vA h]at this
 |a::t,[],_,_,hf=>by
  have:=hf a;simp[OU,vA h]at this
 |a::t1,b::t2,s1,s2,hf=>by
  have s1':=Ph.1 s1;have s2':=Ph.1 s2;have Xa:lt b a=false:=by
   have:b∈a::t1:=by
    have:b∈(a::t1).filter (sX lt b):=by rw[hf b];simp[vA h]
    exact(Su.1 this).1
   rcases fN.1 this with rfl|hm
   ·exact h.irrefl _
   ·exact s1'.1 b hm
  have hba:lt a b=false:=by
   have:a∈b::t2:=by
    have:a∈(b::t2).filter (sX lt a):=by rw[<-hf a];simp[vA h]
    exact(Su.1 this).1
   rcases fN.1 this with rfl|hm
   ·exact h.irrefl _
   ·exact s2'.1 a hm
  have he:sX lt a b=true:=by simp[sX,Xa,hba]
  have h1:=hf a;rw[OU,OU,vA h,he]at h1;simp only[jP,LW]at h1;obtain⟨rfl,_⟩:=h1
  congr 1
  refine xm h t1 t2 s1'.2 s2'.2 λx=>?_;have:=hf x;rw[OU,OU]at this;split at this
  ·exact(List.cons.inj this).2
  ·exact this
def Mu(h:SWO lt){l l':List α}(hs:xF lt l')(hf:∀x,l'.filter (sX lt x)=l.filter (sX lt x)):kV lt l=l':=
 xm h _ _ (tf h l) hs λx=>by rw[zx h,hf]
end
section
variable{α:Type}
end
section
variable{α:Type}{lt:α->α->Bool}
end
end Go.DM.W9
