/- Part of the proof. Conditions: none. -/
import Derived.Test.YtljcdomdjgolkaaGreatDoorXab
import Derived.OrdersIn
import Derived.RangeFuncCalls
import Derived.Sort.LoopGhostIn
set_option linter.unusedSectionVars false
set_option linter.unusedSimpArgs false
set_option linter.unusedVariables false
namespace Go.DM
open Go.RowKit
variable [Laid]
structure RO where
 d:nH
 dst:Option Nat
 guard:Option (Nat×Bool)
 after:List Nat
 iJ:Option (List Nat):=none
structure RS where
 tmps:Nat->DV
 objs:aU
 todo:List (List T)
def b7(f:Nat->DV):Option Nat->DV->Nat->DV
 |none,_=>f
 |some k,v=>λx=>if x=k then v else f x
def ef(g:Option (Nat×Bool))(ρ:Nat->DV):Option Bool:=
 match g with
 |none=>some true
 |some (s,want)=>match ρ s with
  |.v (.bool b)=>some (b==want)
  |.skip=>some false
  |_=>none
def nameOf(nxt:Nat):Option Nat->Nat
 |some d=>nxt+d+1
 |none=>nxt
def pe(Γ:Env)(nxt:Nat)(r:RO)(st:RS):oj:=cw Γ r.d (nameOf nxt r.dst) st.tmps st.objs
def bm:nH->List bp
 |.bP x|.box x|.load _ _ x|.un _ x|.conv _ x|.addOff _ x|.nilCheck x|.field _ _ _ x|.extract _ x|.len x|.lenS x|.mkSlice _ _ _ _ x|.mkSliceB _ _ _ _ x|.lenM x|.rangeM x|.entryM x|.isNil _ _ x=>[x]
 |.pick c a b=>[c,a,b]
 |.alloc _|.mkMap _ _|.fail=>[]
 |.build _ ps|.bslice _ _ _ ps=>ps.map (·.2.2)
 |.store _ x y|.bin _ x y|.eqT _ _ _ x y|.idxAddr _ x y|.arrAddr _ _ x y|.minmax _ x y|.append _ _ _ x y|.lookup _ _ _ _ x y|.mapDel _ _ x y|.copy _ x y|.indexS x y=>[x,y]
 |.mapUpd _ _ x k y=>[x,k,y]
 |.mapEnt _ _ _ x k=>[x,k]
 |.entSt x s y=>[x,s,y]
 |.slice _ x lo hi=>x::(lo.toList++hi.toList)
 |.call _ xs|.callS _ xs|.callF _ xs|.callR _ xs|.mkFn _ xs=>xs
 |.callv x xs=>x::xs
def b8(r:RO)(ρ:Nat->DV):Prop:=
 match r.iJ with
 |none=>True
 |some l=>∀x∈bm r.d,∀n∈names (x.ev ρ),n∈l
def post(Γ:Env)(nxt:Nat)(r:RO)(st:RS):SEff:=
 if oU r.d then lU Γ r.d st.tmps st.objs st.todo
 else⟨(pe Γ nxt r st).ok,(pe Γ nxt r st).val,bR st.objs (pe Γ nxt r st).put,st.todo⟩
def qT(r:RO)(o o':aU):Prop:=oU r.d=true->∀l,r.iJ=some l->∀n,n∉l->o' n=o n
def bT(Γ:Env)(nxt:Nat)(r:RO)(st:RS):Prop:=
 match ef r.guard st.tmps with
 |some true=>(post Γ nxt r st).ok/\b8 r st.tmps/\qT r st.objs (post Γ nxt r st).objs
 |some false=>True
 |none=>False
def cI(Γ:Env)(nxt:Nat)(r:RO)(st:RS):RS:=
 match ef r.guard st.tmps with
 |some true=>⟨b7 st.tmps r.dst (post Γ nxt r st).val,(post Γ nxt r st).objs,(post Γ nxt r st).todo⟩
 |some false=>⟨b7 st.tmps r.dst .skip,st.objs,st.todo⟩
 |none=>st
def gf:T->Bool
 |.bool _|.int _ _|.str _=>true
 |.eF ts=>gE ts
 |.agg ts=>gE ts
 |_=>false
where
 gE:List T->Bool
 |[]=>true
 |t::ts=>gf t&&gE ts
theorem tJ:∀(n:Nat),(∀(t:T) (w w':World) (W W':Nat->Prop) (v:Value),SizeOf.sizeOf t<n->gf t=true->aR w W t v->aR w' W' t v)/\
  (∀(ts:List T) (w w':World) (W W':Nat->Prop) (vs:List Value),SizeOf.sizeOf ts<n->gf.gE ts=true->(aP w W ts vs->aP w' W' ts vs)/\(dw w W ts vs->dw w' W' ts vs))
 |0=>⟨λ_ _ _ _ _ _ h=>by omega,λ_ _ _ _ _ _ h=>by omega⟩
 |n+1=>by
  have ih:=tJ n;refine⟨λt w w' W W' v hn hs h=>?_,λts w w' W W' vs hn hs=>?_⟩
  ·cases t with
   |agg ts=>simp only[aR]at h⊢;obtain⟨vs,hv,hr⟩:=h;exact⟨vs,hv,(ih.2 ts w w' W W' _ (by simp at hn⊢;omega) hs).1 hr⟩
   |eF ts=>simp only[aR]at h⊢;obtain⟨vs,hv,hr⟩:=h;exact⟨vs,hv,(ih.2 ts w w' W W' _ (by simp at hn⊢;omega) hs).2 hr⟩
   |bool b=>simpa [aR]using h
   |int k n=>simpa [aR]using h
   |str s=>simpa [aR]using h
   |_=>exact absurd hs Zaz
  ·cases ts with
   |nil=>exact⟨λh=>by simpa [aP]using h,λh=>by simpa [dw]using h⟩
   |cons t ts=>
    simp only[gf.gE,Zam]at hs;have h2:=ih.2 ts w w' W W';refine⟨λh=>?_,λh=>?_⟩
    ·simp only[aP]at h⊢;obtain⟨v,gY,rfl,h1,hr,jI⟩:=h;exact⟨v,gY,rfl,h1,ih.1 t w w' W W' v (by simp at hn⊢;omega) hs.1 hr,(h2 _ (by simp at hn⊢;omega) hs.2).1 jI⟩
    ·simp only[dw]at h⊢;obtain⟨v,gY,rfl,hr,jI⟩:=h;exact⟨v,gY,rfl,ih.1 t w w' W W' v (by simp at hn⊢;omega) hs.1 hr,(h2 _ (by simp at hn⊢;omega) hs.2).2 jI⟩
def Entry(P:Program)(f:FuncId):Prop:=∃fn,P.funcs[f]? =some fn/\fn.name≠ "runtime.NumGoroutine" /\fn.body.isNone=false
structure aT(P:Program)(f:FuncId)(ts:List T)(t:T):Prop where
 entry:Entry P f
 run:∀(W:Nat->Prop) (w:World) (vals:Array Value),(∀b,W b->b<w.heap.size)->zN w W->dw w W ts vals.toList->
  Calls P f vals w λe w'=>∃v,e=.returned v/\tE w.heap.size w w'/\aR w' W t v
structure Ac(n0:Nat)(w':World)(W:Nat->Prop)(e sz:Nat)(rows:List (List T))(v:Value):Prop where
 pos:0<sz
 len:∀x∈rows,x.length=sz
 it:(rows=[]/\∃a:Option Addr,v=.slice a 0 0)\/∃g cap cur,v=.slice (some ⟨g,0,none⟩) rows.length cap/\0<cap/\n0<=g/\w'.heap[g]? =some (.cells cur e (0,0))/\rows.length<=cap/\cap<=maxLen/\cur.size=cap*sz/\aP w' (λb=>W b\/b=g) rows.flatten (cur.toList.take (rows.length*sz))
structure lJ(P:Program)(f:FuncId)(ts:List T)(e sz:Nat)(rows:List (List T)):Prop where
 entry:Entry P f
 run:∀(W:Nat->Prop) (w:World) (vals:Array Value),(∀b,W b->b<w.heap.size)->zN w W->dw w W ts vals.toList->
  Calls P f vals w λe' w'=>∃v,e'=.returned v/\tE w.heap.size w w'/\Ac w.heap.size w' W e sz rows v
def km(w:World)(W:Nat->Prop)(objs:aU)(L:Loc)(ds:List DV)(vs:List Value):Prop:=
 vs.length=ds.length/\∀(i:Nat) (d:DV) (v:Value),ds[i]? =some d->vs[i]? =some v->av w W objs L d v
structure aY(P:Program)(f:FuncId)(args:List DV)(objs:aU)(r:iw):Prop where
 entry:Entry P f
 run:∀(base:Nat) (W M:Nat->Prop) (w0 w:World) (L:Loc) (vals:Array Value),bK base W M w0 objs w L->km w W objs L args vals.toList->
  Calls P f vals w λe w'=>∃v L',e=.returned v/\bK base W M w0 r.objs w' L'/\iX W objs L w r.objs L' w'/\av w' W r.objs L' r.val v
structure Qw(P:Program)(f:FuncId)(s:Spec):Prop where
 pure:∀ts,s.pre ts->aT P f ts (s.fn ts)/\(s.scalar=true->gf (s.fn ts)=true)
 fresh:∀e sz,s.fresh=some (e,sz)->∀ts,s.pre ts->∃rows,s.fn ts=.sl rows/\lJ P f ts e sz rows/\(s.lend=true->gf.gE rows.flatten=true)
 st:∀k,s.st=some k->∀args objs,(k args objs).ok->(∀N,(∀r,N<=r->objs r=none)->aY P f args objs (k args objs))/\∀r,objs r=none->(k args objs).objs r=none
def ay(P:Program)(Γ:Env):Prop:=∀f s,Γ f=some s->Qw P f s
def iK(ro:Option Nat):Fence:={Fence.wide with round:=ro}
theorem dT{ro:Option Nat}{n:Nat}{P:Program}{f:FuncId}{args:Array Value}{w:World}{R:Ending->World->Prop}(h:Calls P f args w R):CallsIn (iK ro) n P f args w R:=by
 have h0:CallsIn Fence.wide n P f args w R:=callsIn_wide.2 h;exact h0
structure Ctx where
 W:Nat->Prop
 go:aU
 gL:Loc
 gw:World
 base:Nat
 M:Nat->Prop
 w0:World
 J:Option ((Nat->Prop)->List (List T)->World->Prop)
 ro:Option Nat
def Ctx.At(κ:Ctx)(todo:List (List T))(W:Nat->Prop)(base:Nat)(M:Nat->Prop)(w0:World):Prop:=
 match κ.J with
 |none=>todo=[]/\W=κ.W/\base=κ.base/\M=κ.M/\w0=κ.w0
 |some J=>J W todo w0/\base=w0.heap.size/\M=(λ_=>False)/\(∀b,W b->κ.W b\/κ.gw.heap.size<=b)/\∀b,κ.W b->W b
structure Yields(P:Program)(l:Nat)(J:(Nat->Prop)->List (List T)->World->Prop):Prop where
 stays:∀(W:Nat->Prop) (todo:List (List T)) (A B:World),J W todo A->tE A.heap.size A B->J W todo B
 round:∀(W:Nat->Prop) (x:List T) (rest:List (List T)) (vals:Array Value) (A:World),J W (x::rest) A->dw A W x vals.toList->
  ∃fn tmps assign body,(Instr.yield l vals).run P A=.ok (.round l fn tmps assign body) A/\RoundIn Fence.wide 0 P l fn tmps assign body A λe B=>
   e=.returned (.bool true)/\∃W',J W' rest B/\cb W A B/\(∀b,W' b->b<B.heap.size/\(W b\/A.heap.size<=b))/\∀b,W b->W' b
structure Ctx.Good(P:Program)(κ:Ctx):Prop where
 y:∀J,κ.J=some J->Yields P κ.gL.yl J
 rd:∀l,κ.ro=some l->∃r,κ.gw.heap[l]? =some (.loop r)
def mark(D:Nat):Deferred:={target:=.collected D,args:= #[]}
structure R0(base:Nat)(W M:Nat->Prop)(w0:World)(nt:Nat)(tmps:Nat->DV)(objs:aU)(a:Act)(w:World)(L:Loc):Prop where
 size:a.tmps.size=nt
 tmps:∀t,av w W objs L (tmps t) (a.tmps.getD t Go.undef)
 o:bK base W M w0 objs w L
structure dH(κ:Ctx)(nt:Nat)(st:RS)(a:Act)(w:World)(L:Loc):Prop where
 ex:∃W base M w0,κ.At st.todo W base M w0/\R0 base W M w0 nt st.tmps st.objs a w L
 ee:iX κ.W κ.go κ.gL κ.gw st.objs L w
 defers:∃Ds:List Nat,a.defers=Ds.map mark/\Ds.Nodup/\(∀D∈Ds,w.heap[D]? =some (.deferred (some []))/\κ.gw.heap.size<=D)/\(κ.J.isSome=true->Ds=[])
 bg:κ.J=none->κ.base<=κ.gw.heap.size
 fin:∃N,∀r,N<=r->st.objs r=none
theorem Ctx.At.sub{κ:Ctx}{todo:List (List T)}{W:Nat->Prop}{base:Nat}{M:Nat->Prop}{w0:World}(h:κ.At todo W base M w0):(∀b,W b->κ.W b\/κ.gw.heap.size<=b)/\∀b,κ.W b->W b:=by
 unfold Ctx.At at h;split at h
 ·obtain⟨_,rfl,_⟩:=h;exact⟨λ_ h=>.inl h,λ_ h=>h⟩
 ·exact⟨h.2.2.2.1,h.2.2.2.2⟩
theorem iX.comp{W V:Nat->Prop}{go objs aA:aU}{gL L L':Loc}{gw w w':World}(h:iX V go gL gw objs L w)(k:iX W objs L w aA L' w')(h1:∀b,W b->V b\/gw.heap.size<=b)(h2:∀b,V b->W b):
  iX V go gL gw aA L' w':=by
 have up:∀b,b<gw.heap.size->WW W objs L b->WW V objs L b:=λb hb hw=>by
  rcases hw with hw|hw
  ·rcases h1 b hw with h3|h3
   ·exact .inl h3
   ·omega
  ·exact .inr hw
 refine⟨⟨⟨ZaC h.keeps.size k.keeps.size,λb c e fr hb hn=>?_⟩,λb hb=>k.keeps.NZ b (h.keeps.NZ b hb),λb r hb=>k.keeps.Wu b r (h.keeps.Wu b r hb)⟩,λb hb hw=>?_,λr o hr hk=>?_,λr ver e sz rows hr=>?_,k.yl.trans h.yl⟩
 ·have cW:=(Zai.1 hb).1;exact k.keeps.gW b c e fr (h.keeps.gW b c e fr hb hn) λx=>hn (h.sub b cW (up b cW x))
 ·refine h.sub b hb (up b hb (k.sub b (ZaR hb h.keeps.size) ?_));rcases hw with hw|hw
  ·exact .inl (h2 b hw)
  ·exact .inr hw
 ·obtain⟨e1,o1,lP,qg⟩:=h.fix r o hr hk;obtain⟨e2,o2,pV,qU⟩:=k.fix r o1 lP (by rw[qg];exact hk);exact⟨e2.trans e1,o2,pV,qU.trans qg⟩
 ·obtain⟨v1,e1,s1,r1,lP,l1,k1⟩:=h.arr r ver e sz rows hr;obtain⟨v2,e2,s2,r2,pV,l2,k2⟩:=k.arr r v1 e1 s1 r1 lP;refine⟨v2,e2,s2,r2,pV,ZaC l1 l2,λhv=>?_⟩;have zg:v1=ver:=by omega
  obtain⟨a1,a2,a3⟩:=k1 zg;obtain⟨b1,b2,b3⟩:=k2 (by omega);exact⟨b1.trans a1,b2.trans a2,b3.trans a3⟩
section
variable{P:Program}{κ:Ctx}{base:Nat}{W M:Nat->Prop}{w0:World}{nt:Nat}{Γ:Env}{nxt:Nat}
theorem Ad(tmps:Array Value)(d t:Nat)(v:Value)(hd:d<tmps.size):(tmps.setIfInBounds d v).getD t Go.undef=if t=d then v else tmps.getD t Go.undef:=by
 simp only[Zax,Zb2];by_cases h:d=t
 ·subst h;simp[hd]
 ·have:t≠d:=λe=>h e.symm;simp[h,this]
theorem R0.put{tmps:Nat->DV}{objs:aU}{a:Act}{w w':World}{L L':Loc}{aA:aU}(h:R0 base W M w0 nt tmps objs a w L)(dst:Option Nat)(jQ:∀d,dst=some d->d<nt){v:DV}{x:Value}
  (hO:bK base W M w0 aA w' L') (hA:iX W objs L w aA L' w') (hv:av w' W aA L' v x):
  R0 base W M w0 nt (b7 tmps dst v) aA (a.put dst x) w' L':=by
 cases dst with
 |none=>exact⟨h.size,λt=>av.ee hA _ _ (h.tmps t),hO⟩
 |some d=>
  refine⟨by simpa [Act.put]using h.size,λt=>?_,hO⟩;simp only[b7,Act.put];rw[Ad _ _ _ _ (by rw[h.size];exact jQ d rfl)];by_cases ht:t=d
  ·simp only[ht,if_true];exact hv
  ·simp only[ht,if_false];exact av.ee hA _ _ (h.tmps t)
theorem put_defers(a:Act)(dst:Option Nat)(x:Value):(a.put dst x).defers=a.defers:=by cases dst<;>rfl
theorem dH.put{st:RS}{a:Act}{w w':World}{L L':Loc}{aA:aU}(hR:dH κ nt st a w L)(dI:κ.At st.todo W base M w0)(h:R0 base W M w0 nt st.tmps st.objs a w L)
  (dst:Option Nat) (jQ:∀d,dst=some d->d<nt) {v:DV} {x:Value} (hO:bK base W M w0 aA w' L') (hA:iX W st.objs L w aA L' w') (hv:av w' W aA L' v x) (mE:∃N,∀r,N<=r->aA r=none):
  dH κ nt ⟨b7 st.tmps dst v,aA,st.todo⟩ (a.put dst x) w' L':=
 ⟨⟨W,base,M,w0,dI,h.put dst jQ hO hA hv⟩,hR.ee.comp hA dI.sub.1 dI.sub.2,by
  obtain⟨Ds,h1,h2,h3,h4⟩:=hR.defers;exact⟨Ds,by rw[put_defers];exact h1,h2,λD hD=>⟨hA.keeps.NZ D (h3 D hD).1,(h3 D hD).2⟩,h4⟩,hR.bg,mE⟩
theorem dH.skip{st:RS}{a:Act}{w:World}{L:Loc}(h:dH κ nt st a w L)(dst:Option Nat)(jQ:∀d,dst=some d->d<nt):
  dH κ nt ⟨b7 st.tmps dst .skip,st.objs,st.todo⟩ (a.put dst Go.undef) w L:=by
 obtain⟨W,base,M,w0,dI,h0⟩:=h.ex;exact dH.put h dI h0 dst jQ h0.o (iX.cd (cb.refl _ _)) (by simp[av]) h.fin
theorem mF{ro:Option Nat}(o:Oper)(w:World)(ρ:Operand->Value):∀f,o.about P w ρ=some f->(iK ro).fn f:=λ_ _=>trivial
theorem pX{o:Oper}{d:nH}(h:cE P o=some d):∀c,o.op≠ .defer c:=by
 intro c hc;simp[cE,hc]at h
theorem ep{o:Oper}{d:nH}(hc:cE P o=some d)(hd':(∃f args,d=.call f args)\/(∃f args,d=.callS f args)\/(∃f args,d=.callv f args)\/(∃f args,d=.callF f args)\/∃f args,d=.callR f args):∃c,o.op=.call c/\c8 P c=some d:=by
 rcases hd' with⟨f,args,rfl⟩|⟨f,args,rfl⟩|⟨f,args,rfl⟩|⟨f,args,rfl⟩|⟨f,args,rfl⟩;all_goals
  unfold cE at hc;cases ho:o.op<;>simp only[ho,reduceCtorEq]at hc
  case call c=>exact⟨c,rfl,hc⟩
  case binOp op t x y yt=>
   exfalso;simp only[Zaf,Zac]at hc;obtain⟨x',hx,y',hy,hc⟩:=hc;unfold kH at hc;repeat' split at hc
   all_goals first|(cases hc;done)|(simp only[Zab,reduceCtorEq,and_false,exists_false]at hc;done)
  case makeMap t h=>
   exfalso;cases h with
   |some m=>cases hc
   |none=>
    simp only at hc;split at hc
    ·simp only[Zab,reduceCtorEq,and_false,exists_false]at hc
    ·cases hc
  case slice t x lo hi mx=>
   exfalso;cases mx with
   |some m=>cases hc
   |none=>
    simp only at hc;repeat' split at hc
    all_goals simp only[Zaj,Zaf,Zac,Zaa,reduceCtorEq,and_false,exists_false]at hc
  all_goals exfalso
  all_goals first
   |(simp only[Zab,reduceCtorEq,and_false,exists_false]at hc;done)
   |(simp only[Zaj,Zaf,Zac,Zaa,reduceCtorEq,and_false,exists_false]at hc;done)
   |(repeat' split at hc)<;>first
     |(simp only[Zab,Zaj,Zaf,Zac,Zaa,reduceCtorEq,and_false,exists_false]at hc;done)
     |(simp[Zac]at hc;done)
theorem ll{c:Call}{f:FuncId}{args:List bp}(h:c8 P c=some (.call f args)):∃fn,c.callee=.value (.func f)/\P.funcs[f]? =some fn/\fn.name≠ "runtime.NumGoroutine" /\fn.body.isNone=false/\c.args.toList.mapM bp.of=some args:=by
 unfold c8 at h;split at h
 ·rename_i g jg;split at h
  ·rename_i fn wo;split at h
   ·cases h
   ·rename_i hnr;simp only[Zab,nH.call.injEq]at h;obtain⟨ys,oa,rfl,rfl⟩:=h;refine⟨fn,jg,wo,λe=>hnr (.inl e), ?_,oa⟩;cases hb:fn.body.isNone
    ·rfl
    ·exact absurd (.inr hb) hnr
  ·cases h
 all_goals
  repeat' split at h
  all_goals first
   |(simp only[Zab,Zaj,Zaf,Zac,Zaa,reduceCtorEq,and_false,exists_false]at h;done)
   |skip
theorem En{c:Call}{x:bp}{args:List bp}(h:c8 P c=some (.callv x args)):∃t,c.callee=.value (.tmp t)/\x=.tmp t/\c.args.toList.mapM bp.of=some args:=by
 unfold c8 at h;split at h
 ·split at h
  ·split at h
   ·cases h
   ·simp at h
  ·cases h
 ·rename_i t jg;simp only[Zab,nH.callv.injEq]at h;obtain⟨ys,oa,rfl,rfl⟩:=h;exact⟨t,jg,rfl,oa⟩
 all_goals
  repeat' split at h
  all_goals first
   |(simp only[Zab,Zaj,Zaf,Zac,Zaa,reduceCtorEq,and_false,exists_false]at h;done)
   |skip
def yi:nH->nH
 |.callS f args=>.call f args
 |.callF f args=>.call f args
 |.callR f args=>.call f args
 |.mkSliceB e sz bytes zero n=>.mkSlice e sz bytes zero n
 |d=>d
theorem kI(W':Nat->Prop){lend:Bool}{objs:aU}{w:World}{L:Loc}(hO:bK base W M w0 objs w L)(hW:lend=true->∀r o b,objs r=some o->L.own r o=some b->¬W' b)(N8:∀b,W' b->WW W objs L b):
  ∀{ds:List DV} {vs:List Value},km w W objs L ds vs->qE lend objs ds->dw w W' (gO objs ds) vs
 |[],vs,h,_=>by
  have:vs=[]:=ZaD h.1;subst this;simp[dw,gO]
 |d::ds,[],h,_=>by have:=h.1;simp at this
 |d::ds,v::vs,h,hk=>by
  simp only[qE]at hk;simp only[dw,gO];exact⟨v,vs,rfl,(uR W' hO hW N8).1 _ _ (h.2 0 d v rfl rfl) hk.1,kI W' hO hW N8 ⟨by simpa using h.1,λi x y hx hy=>h.2 (i+1) x y (by simpa using hx) (by simpa using hy)⟩ hk.2⟩
theorem CR(aw:ay P Γ){objs:aU}{w:World}{L:Loc}(hO:bK base W M w0 objs w L){g:FuncId}{s:Spec}(hg:Γ g=some s){ds:List DV}{vals:Array Value}(mG:qE s.scalar objs ds)(tK:s.pre (gO objs ds))
  (hr:km w W objs L ds vals.toList):Calls P g vals w λe w'=>∃v,e=.returned v/\bK base W M w0 objs w' L/\iX W objs L w objs L w'/\av w' W objs L (.v (s.fn (gO objs ds))) v:=by
 obtain⟨pf,hsc⟩:=(aw g s hg).pure _ tK;have wO:∀b,WW W objs L b->b<w.heap.size:=by
  have hle:base<=w.heap.size:=ZaC hO.fr.hZ hO.fr.size;rintro b (hb|⟨r',o',h1,h2⟩)
  ·have:=hO.under b hb;omega
  ·exact(hO.ob r' o' h1).lt h2
 cases hs:s.scalar with
 |true=>
  rw[hs]at mG;have Gt:=kI (λ_=>False) (lend:=true) hO (λ_ _ _ _ _ _ x=>x) (λ_ x=>x.elim) hr mG;refine(pf.run (λ_=>False) w vals (λ_ x=>x.elim) (hO.gl.aC (cb.refl (WW W objs L) _).toKeepsC λ_ _ h=>h.elim) Gt).mono ?_;rintro e w' ⟨v,rfl,hb,hv⟩;obtain⟨hO',hA⟩:=bK.grow hO hb;refine⟨v,rfl,hO',hA, ?_⟩;simp only[av];exact(tJ _).1 _ w' w' (λ_=>False) (WW W objs L) v (ZbV _) (hsc hs) hv
 |false=>
  rw[hs]at mG;have Gt:=kI (WW W objs L) (lend:=false) hO (λx=>by cases x) (λ_ x=>x) hr mG;refine(pf.run (WW W objs L) w vals wO hO.gl Gt).mono ?_;rintro e w' ⟨v,rfl,hb,hv⟩;obtain⟨hO',hA⟩:=bK.grow hO hb;exact⟨v,rfl,hO',hA,by simp only[av];exact hv⟩
theorem JL{objs:aU}{w:World}{L:Loc}(hO:bK base W M w0 objs w L){g:FuncId}{ds:List DV}{vals:Array Value}{lend:Bool}(mG:qE lend objs ds){e sz:Nat}{rows:List (List T)}(pf:lJ P g (gO objs ds) e sz rows)(hsc:lend=true->gf.gE rows.flatten=true)
  (hr:km w W objs L ds vals.toList) {name:Nat} (dx:objs name=none):Calls P g vals w λe' w'=>∃v L',e'=.returned v/\bK base W M w0 (bR objs (some (name,.arr 0 e sz rows))) w' L'/\iX W objs L w (bR objs (some (name,.arr 0 e sz rows))) L' w'/\av w' W (bR objs (some (name,.arr 0 e sz rows))) L' (.bk name 0) v:=by
 have hle:base<=w.heap.size:=ZaC hO.fr.hZ hO.fr.size;have wO:∀b,WW W objs L b->b<w.heap.size:=by
  rintro b (hb|⟨r',o',h1,h2⟩)
  ·have:=hO.under b hb;omega
  ·exact(hO.ob r' o' h1).lt h2
 have bd:Calls P g vals w λe' w'=>∃v,e'=.returned v/\tE w.heap.size w w'/\Ac w.heap.size w' (WW W objs L) e sz rows v:=by
  cases lend with
  |false=>
   have Gt:=kI (WW W objs L) (lend:=false) hO (λx=>by cases x) (λ_ x=>x) hr mG;exact pf.run (WW W objs L) w vals wO hO.gl Gt
  |true=>
   have Gt:=kI (λ_=>False) (lend:=true) hO (λ_ _ _ _ _ _ x=>x) (λ_ x=>x.elim) hr mG;refine(pf.run (λ_=>False) w vals (λ_ x=>x.elim) (hO.gl.aC (cb.refl (WW W objs L) _).toKeepsC λ_ _ h=>h.elim) Gt).mono ?_;rintro e' w' ⟨v,h1,h2,h3⟩;refine⟨v,h1,h2,h3.pos,h3.len, ?_⟩;rcases h3.it with h4|⟨g',cap,cur,k1,k2,k3,k4,k5,k6,k7,k8⟩
   ·exact .inl h4
   ·exact .inr ⟨g',cap,cur,k1,k2,k3,k4,k5,k6,k7,((tJ _).2 _ w' w' _ _ _ (ZbV _) (hsc rfl)).1 k8⟩
 refine bd.mono ?_;rintro e' w' ⟨v,rfl,hb,hf⟩;have h:=bK.put hO (r:=name) (L':=L.gD name v) (o':=.arr 0 e sz rows) (hO.fr.trans ⟨hb.os,hb.tape,hb.output,hle,hb.size,λk hk _=>hb.block k (by omega),hb.drawn⟩) hb.size (λx hx=>⟨rfl,by simp[Loc.gD,hx]⟩) rfl (λb cW _=>hb.block b cW)
  (λb h=>.inr (by
   simp only[Loc.own,Loc.gD,if_true]at h;rcases hf.it with⟨_,a,rfl⟩|⟨g',cap,cur,rfl,hp,zf,_⟩
   ·cases a<;>simp[aO]at h
   ·simp only[aO,if_neg (Zay.1 hp),Zaa]at h;omega))
  (λo' h _=>by rw[dx]at h;cases h) (λ_ _ _ _ h=>by rw[dx]at h;cases h) (λee=>by
   refine⟨hf.pos,hf.len,λg' hg=>?_, ?_⟩
   ·simp only[Loc.gD,if_true]at hg;rcases hf.it with⟨_,a,rfl⟩|⟨g2,cap,cur,rfl,hp,zf,_⟩
    ·cases a<;>simp[aO]at hg
    ·simp only[aO,if_neg (Zay.1 hp),Zaa]at hg;exact .inl (by omega)
   ·simp only[Loc.gD,if_true];rcases hf.it with⟨h1,a,h2⟩|⟨g2,cap,cur,h1,hp,zf,h2,h3,h4,h5,h6⟩
    ·exact .inl ⟨h1,a,h2⟩
    ·refine .inr ⟨g2,cap,cur,h1,hp,h2,h3,h4,h5,aP.aC (cb.refl (λb=>WW W objs L b\/b=g2) w').toKeepsC (λb _ hb=>?_) _ _ h6⟩;rcases hb with hb|⟨r',o',ff,hb⟩
     ·exact .inl (.inl hb)
     ·simp only[bR]at ff;split at ff
      ·rename_i e1;cases ff;subst e1;simp only[Loc.own,if_true,h1,aO,if_neg (Zay.1 hp),Zaa]at hb;exact .inr hb.symm
      ·rename_i bG;refine .inl (.inr ⟨r',o',ff, ?_⟩);cases o'<;>simpa [Loc.own,Loc.gD,bG]using hb)
 refine⟨v,_,rfl,h.1,h.2, ?_⟩;simp only[av];refine⟨?_,0,e,sz,rows,by simp[bR],Zae _,λ_=>by simp[Loc.gD]⟩;rcases hf.it with⟨_,a,rfl⟩|⟨g2,cap,cur,rfl,_⟩<;>exact⟨_,_,_,rfl⟩
theorem gh{objs:aU}{w:World}{L:Loc}{a:Act}{ρ:Nat->DV}(hg:zN w (WW W objs L))(gX:∀t,av w W objs L (ρ t) (a.tmps.getD t Go.undef)){xs:List Operand}{ys:List bp}(h:xs.mapM bp.of=some ys):km w W objs L (ys.map (·.ev ρ)) (xs.map a.eval):=by
 refine⟨by simp[qS h],λi d v hd hv=>?_⟩;rw[Zbp,Zab]at hd hv;obtain⟨y,hy,rfl⟩:=hd;obtain⟨x,hx,rfl⟩:=hv;exact yf hg gX h i x y hx hy
theorem km.append{objs:aU}{w:World}{L:Loc}{ds nJ:List DV}{vs gY:List Value}(h:km w W objs L ds vs)(k:km w W objs L nJ gY):km w W objs L (ds++nJ) (vs++gY):=by
 refine⟨by simp[h.1,k.1],λi d v hd hv=>?_⟩;by_cases hi:i<ds.length
 ·rw[Zbj hi]at hd;rw[Zbj (by rw[h.1];exact hi)]at hv;exact h.2 i d v hd hv
 ·rw[Zbh (by omega)]at hd;rw[Zbh (by rw[h.1];omega),h.1]at hv;exact k.2 _ d v hd hv
theorem Ae{objs:aU}{w:World}{L:Loc}{ts:List T}{vs:List Value}(h:aP w (WW W objs L) ts vs):km w W objs L (ts.map .v) vs:=by
 refine⟨by simp[aP.length h],λi d v hd hv=>?_⟩;rw[Zbp,Zab]at hd;obtain⟨t,ht,rfl⟩:=hd;obtain⟨v',pU,_,hr⟩:=aP.get h ht;rw[hv]at pU;cases pU;simpa [av]using hr
theorem Gu{objs:aU}{w:World}{L:Loc}{ds:List DV}{vs:List Value}(h:aK w W objs L ds vs):km w W objs L ds vs:=by
 refine⟨by simp[aK.length h],λi d v hd hv=>?_⟩;obtain⟨v',pU,_,hr⟩:=aK.get h hd;rw[hv]at pU;cases pU;exact hr
theorem Ci{o:Oper}{x:bp}(hc:cE P o=some (.entryM x)):∃y,o.op=.entry y/\bp.of y=some x:=by
 unfold cE at hc;cases ho:o.op<;>simp only[ho,reduceCtorEq]at hc
 case entry y=>
  simp only[Zab,nH.entryM.injEq]at hc;obtain⟨y',hy,rfl⟩:=hc;exact⟨y,rfl,hy⟩
 case binOp op t x y yt=>
  exfalso;simp only[Zaf,Zac]at hc;obtain⟨x',hx,y',hy,hc⟩:=hc;unfold kH at hc;repeat' split at hc
  all_goals first|(cases hc;done)|(simp only[Zab,reduceCtorEq,and_false,exists_false]at hc;done)
 case call c=>
  exfalso;unfold c8 at hc;repeat' split at hc
  all_goals first
   |(cases hc;done)
   |(simp only[Zab,Zaj,Zaf,Zac,Zaa,reduceCtorEq,and_false,exists_false]at hc;done)
 case slice t x lo hi mx=>
  exfalso;cases mx with
  |some m=>cases hc
  |none=>
   simp only at hc;repeat' split at hc
   all_goals simp only[Zaj,Zaf,Zac,Zaa,reduceCtorEq,and_false,exists_false]at hc
 case makeMap t h=>
  exfalso;cases h with
  |some m=>cases hc
  |none=>
   simp only at hc;split at hc
   ·simp only[Zab,reduceCtorEq,and_false,exists_false]at hc
   ·cases hc
 all_goals exfalso
 all_goals first
  |(simp only[Zab,reduceCtorEq,and_false,exists_false]at hc;done)
  |(simp only[Zaj,Zaf,Zac,Zaa,reduceCtorEq,and_false,exists_false]at hc;done)
  |(repeat' split at hc)<;>first
    |(simp only[Zab,Zaj,Zaf,Zac,Zaa,reduceCtorEq,and_false,exists_false]at hc;done)
    |(simp[Zac]at hc;done)
theorem jx{o:Oper}{a:Act}{w:World}{c:Call}(ho:o.op=.call c){g:FuncId}{caps:Array Value}(hv:∀f,c.callee=.value f->a.eval f=.func (.func g) #[] caps)(hc:∃f,c.callee=.value f)(hg:Entry P g):
  (execOp a.eval o).run P w=.ok (.enter g (c.args.map a.eval++caps)) w:=by
 obtain⟨f,hf⟩:=hc;obtain⟨fn,wo,bG,F1⟩:=hg;simp[execOp,ho,resolve,hf,hv f hf,Deferred.ofValue,invoke,callFunc,wo,bG];intro lQ;simp[lQ]at F1
theorem Cj{ro:Option Nat}{n l:Nat}{fn:FuncId}{tmps:Array Value}{assign body:Code}{w:World}{R:Ending->World->Prop}(h:RoundIn Fence.wide 0 P l fn tmps assign body w R):
  RoundIn (iK ro) n P l fn tmps assign body w R:=by
 have h0:RoundIn Fence.wide n P l fn tmps assign body w R:=⟨h.1,λc cs _=>h.2 c cs (by simp[Fence.room,Fence.wide])⟩;exact h0
theorem Mv{ro:Option Nat}{n:Nat}(aw:ay P Γ)(wq:κ.Good P){o:Oper}{r:RO}(hc:cE P o=some (yi r.d))(jQ:r.dst=o.dst){st:RS}{a:Act}{w:World}{L:Loc}(h:dH κ nt st a w L)(hd:∀d,r.dst=some d->d<nt)
  (dx:st.objs (nameOf nxt r.dst)=none) (aF:(post Γ nxt r st).ok) {K:Act->World->Prop} {Q:Exit->Act->World->Prop}
  (hK:∀a' w' L',dH κ nt ⟨b7 st.tmps r.dst (post Γ nxt r st).val,(post Γ nxt r st).objs,(post Γ nxt r st).todo⟩ a' w' L'->K a' w'):
  o.wpIn (iK ro) n P a w K Q:=by
 have hR:=h;obtain⟨⟨W,base,M,w0,dI,h0⟩,W8,hdf,hbg,mE⟩:=h;refine⟨mF o w _, ?_⟩;have y7:∀c,o.op≠ .defer c:=pX hc;rw[show(iK ro).round=ro from rfl,Oper.semAt_eq ro _ o y7];by_cases h4:oU r.d=true
 ·unfold post at aF hK;rw[if_pos h4]at aF hK;cases Ww:r.d<;>rw[Ww]at h4<;>first|(simp[oU]at h4;done)|skip
  case callS f args=>
   rw[Ww]at hc aF hK;obtain⟨c,ho,bM⟩:=ep hc (.inl ⟨f,args,rfl⟩);obtain⟨fn,jg,wo,bG,F1,oa⟩:=ll bM;have bz:=jx (P:=P) (w:=w) (a:=a) (g:=f) (caps:= #[]) ho (λx hx=>by rw[jg]at hx;cases hx;rfl) ⟨_,jg⟩ ⟨fn,wo,bG,F1⟩;rw[ZbD]at bz;rw[bz,Oper.uponIn_enter];refine⟨λhx=>(by cases hx),dT ?_⟩;simp only[lU]at aF hK;cases hg:Γ f with
   |none=>simp[hg]at aF
   |some s=>
    simp only[hg]at aF hK;cases hk:s.st with
    |none=>simp[hk]at aF
    |some k=>
     simp only[hk]at aF hK;obtain⟨bd,uB⟩:=(aw f s hg).st k hk _ _ aF;obtain⟨N,hN⟩:=mE;have bd:=bd N hN;refine(bd.run base W M w0 w L (c.args.map a.eval) h0.o (by simpa using gh h0.o.gl h0.tmps oa)).mono ?_;rintro e w' ⟨v,L',rfl,hO,hA,hv⟩;have:=hK _ _ _ (dH.put hR dI h0 r.dst hd hO hA hv ⟨N,λr hr=>uB r (hN r hr)⟩);rw[<-jQ];exact this
  case callv x args=>
   rw[Ww]at hc aF hK;obtain⟨c,ho,bM⟩:=ep hc (.inr (.inr (.inl ⟨_,_,rfl⟩)));obtain⟨t,jg,rfl,oa⟩:=En bM;have ht:=h0.tmps t;simp only[lU,show bp.ev st.tmps (.tmp t)=st.tmps t from rfl]at aF hK;cases hv:st.tmps t with
   |v tv=>
    rw[hv]at ht aF hK;cases tv with
    |fn fv caps=>
     cases fv with
     |func g=>
      simp only at aF hK;simp only[av,aR]at ht;obtain⟨vs,hx,CS⟩:=ht;cases hg:Γ g with
      |none=>simp[hg]at aF
      |some s=>
       simp only[hg]at aF hK;cases hk:s.st with
       |none=>
        simp only[hk]at aF hK;unfold ni at aF hK;simp only[hg]at aF hK;obtain⟨mG,tK⟩:=aF;have bz:=jx (P:=P) (w:=w) (a:=a) (g:=g) (caps:=vs) ho (λx fZ=>by rw[jg]at fZ;cases fZ;exact hx) ⟨_,jg⟩ ((aw g s hg).pure _ tK).1.entry;rw[bz,Oper.uponIn_enter];refine⟨λhx=>(by cases hx),dT ?_⟩;have Od:km w W st.objs L (args.map (·.ev st.tmps)++caps.map .v) (c.args.map a.eval++vs).toList:=by
         simpa using km.append (gh h0.o.gl h0.tmps oa) (Ae CS)
        refine(CR aw h0.o hg mG tK Od).mono ?_;rintro e w' ⟨v,rfl,hO,hA,pU⟩;have:=hK _ _ _ (dH.put hR dI h0 r.dst hd hO hA pU mE);rw[<-jQ];exact this
       |some k=>
        simp only[hk]at aF hK;obtain⟨bd,uB⟩:=(aw g s hg).st k hk _ _ aF;obtain⟨N,hN⟩:=mE;have bd:=bd N hN;have bz:=jx (P:=P) (w:=w) (a:=a) (g:=g) (caps:=vs) ho (λx fZ=>by rw[jg]at fZ;cases fZ;exact hx) ⟨_,jg⟩ bd.entry;rw[bz,Oper.uponIn_enter];refine⟨λhx=>(by cases hx),dT ?_⟩;have Od:km w W st.objs L (args.map (·.ev st.tmps)++caps.map .v) (c.args.map a.eval++vs).toList:=by
         simpa using km.append (gh h0.o.gl h0.tmps oa) (Ae CS)
        refine(bd.run base W M w0 w L _ h0.o Od).mono ?_;rintro e w' ⟨v,L',rfl,hO,hA,pU⟩;have:=hK _ _ _ (dH.put hR dI h0 r.dst hd hO hA pU ⟨N,λr hr=>uB r (hN r hr)⟩);rw[<-jQ];exact this
     |_=>simp at aF
    |_=>simp at aF
   |CF=>
    rw[hv]at ht aF hK;simp only[av]at ht;cases htd:st.todo with
    |nil=>simp[htd]at aF
    |cons y rest=>
     simp only[htd]at aF hK;obtain⟨mG,harg,Qx⟩:=aF;rw[htd]at dI;unfold Ctx.At at dI;cases hJ:κ.J with
     |none=>simp[hJ]at dI
     |some J=>
      simp only[hJ]at dI;obtain⟨hj,rfl,rfl,Oe,YO⟩:=dI;have hy:=wq.y J hJ;have hbw:tE w0.heap.size w0 w:=⟨⟨h0.o.fr.os,h0.o.fr.tape,h0.o.fr.output,h0.o.fr.size,λk hk=>h0.o.fr.block k hk (λx=>x)⟩,h0.o.fr.drawn⟩;have hjw:=hy.stays W (y::rest) w0 w hj hbw;have wO:∀b,WW W st.objs L b->W b:=by
       rintro b (hb|⟨r',o',h1,_⟩)
       ·exact hb
       ·rw[Qx]at h1;cases h1
      have Gt:dw w W y (c.args.map a.eval).toList:=by
       rw[<-harg];have:=kI W (lend:=false) h0.o (λx=>by cases x) (λb hb=>.inl hb) (gh h0.o.gl h0.tmps oa) mG;simpa using this
      obtain⟨fn,tmps,assign,body,PX,Qy⟩:=hy.round W y rest (c.args.map a.eval) w hjw Gt;have bz:(execOp a.eval o).run P w=.ok (.round L.yl fn tmps assign body) w:=by
       rw[<-W8.yl]at PX;have:a.eval (.tmp t)=.func (.yield L.yl) #[] #[]:=ht;simp[execOp,ho,resolve,jg,this,Deferred.ofValue,invoke,PX]
      rw[bz,Oper.uponIn_round];refine⟨λhx=>(by cases hx),Cj ?_⟩;rw[<-W8.yl]at Qy;refine Qy.mono ?_;rintro e B ⟨rfl,W',YP,sS,mH,hmono⟩;have Ck:∀b,W b->b<w.heap.size:=λb hb=>by
       have h1:=h0.o.under b hb;have h2:=h0.o.fr.size;omega
      have hA0:iX W st.objs L w st.objs L B:=iX.cd (sS.mono λb hb=>.inl hb);obtain⟨Ds,hDs,hDn,hDk,hDJ⟩:=hdf;have Qz:y5 W W' st.objs L w st.objs L B:=by
       refine⟨sS.mono λb hb=>.inl hb,λb hb hw=>?_,λr o hr _=>⟨rfl,o,hr,rfl⟩,λr ver e sz rows hr=>⟨ver,e,sz,rows,hr,Zae _,λ_=>⟨rfl,rfl,rfl⟩⟩,rfl⟩;rcases hw with hw|⟨r',o',h1,_⟩
       ·rcases(mH b hw).2 with h2|h2
        ·exact .inl h2
        ·omega
       ·rw[Qx]at h1;cases h1
      have move:∀(d:DV) (x:Value),av w W st.objs L d x->av B W' st.objs L d x:=av.ee Qz;have hO':bK B.heap.size W' (λ_=>False) B st.objs B L:=by
       refine⟨Fr.refl (Zae _),λr o ho=>?_,λr r' o o' b _ ho=>?_,λr o b ho=>?_,λb hb=>(mH b hb).1,h0.o.gl.aC Qz.keeps.toKeepsC Qz.sub⟩;all_goals rw[Qx]at ho;cases ho
      have hR:dH κ nt ⟨b7 st.tmps r.dst (.v (.bool true)),st.objs,rest⟩ (a.put r.dst (.bool true)) B L:=by
       refine⟨⟨W',B.heap.size,λ_=>False,B, ?_, ?_⟩,W8.comp hA0 Oe YO,⟨Ds,by rw[put_defers];exact hDs,hDn,λD hD=>⟨sS.NZ D (hDk D hD).1,(hDk D hD).2⟩,hDJ⟩,hbg,mE⟩
       ·unfold Ctx.At;simp only[hJ];refine⟨YP,trivial,trivial,λb hb=>?_,λb hb=>hmono b (YO b hb)⟩;rcases(mH b hb).2 with h1|h1
        ·exact Oe b h1
        ·exact .inr (ZaC W8.keeps.size h1)
       ·have h1:R0 B.heap.size W' (λ_=>False) B nt st.tmps st.objs a B L:=⟨h0.size,λt=>move _ _ (h0.tmps t),hO'⟩;exact h1.put r.dst hd hO' (iX.cd (cb.refl _ _)) (by simp[av,aR])
      have:=hK _ _ _ hR;rw[<-jQ];exact this
   |mu fv caps=>
    rw[hv]at ht aF hK;cases fv with
    |func g=>
     simp only at aF hK;simp only[av]at ht;obtain⟨vs,hx,CS⟩:=ht;cases hg:Γ g with
     |none=>simp[hg]at aF
     |some s=>
      simp only[hg]at aF hK;cases hk:s.st with
      |none=>simp[hk]at aF
      |some k=>
       simp only[hk]at aF hK;obtain⟨bd,uB⟩:=(aw g s hg).st k hk _ _ aF;obtain⟨N,hN⟩:=mE;have bd:=bd N hN;have bz:=jx (P:=P) (w:=w) (a:=a) (g:=g) (caps:=vs) ho (λx fZ=>by rw[jg]at fZ;cases fZ;exact hx) ⟨_,jg⟩ bd.entry;rw[bz,Oper.uponIn_enter];refine⟨λhx=>(by cases hx),dT ?_⟩;have Od:km w W st.objs L (args.map (·.ev st.tmps)++caps) (c.args.map a.eval++vs).toList:=by
        simpa using km.append (gh h0.o.gl h0.tmps oa) (Gu CS)
       refine(bd.run base W M w0 w L _ h0.o Od).mono ?_;rintro e w' ⟨v,L',rfl,hO,hA,pU⟩;have:=hK _ _ _ (dH.put hR dI h0 r.dst hd hO hA pU ⟨N,λr hr=>uB r (hN r hr)⟩);rw[<-jQ];exact this
    |_=>simp at aF
   |_=>rw[hv]at aF;simp at aF
  case entryM x=>
   rw[Ww]at hc aF hK;have Ab:cE P o=some (.entryM x):=hc;obtain⟨y,ho,hy⟩:=Ci Ab;simp only[lU]at aF hK;obtain⟨nx,v,w',L',bz,CT,hO,hA,hv⟩:=Eo h0.o ho (bp.bq h0.o.gl h0.tmps hy) aF;have nL:(jv st.objs (x.ev st.tmps)).put=none:=by unfold jv;(repeat' split)<;>rfl
   rw[nL]at hO hA hv;rw[bz];rcases CT with rfl|⟨rfl,rfl⟩
   ·rw[Oper.uponIn_value,<-jQ];exact hK _ _ _ (dH.put hR dI h0 r.dst hd hO hA hv mE)
   ·rw[Oper.uponIn_skip,<-jQ];exact hK _ _ _ (dH.put hR dI h0 r.dst hd hO hA hv mE)
 ·have h4':oU r.d=false:=by simpa using h4
  have PU:=hc;have hbdF:∀f args,r.d=.callF f args->yi r.d=.call f args:=λf args h=>by rw[h];rfl
  unfold post at aF hK;rw[if_neg h4]at aF hK;simp only at aF hK;by_cases yg:∃f args,r.d=.call f args
  ·obtain⟨f,args,Of⟩:=yg;rw[Of]at hc;obtain⟨c,ho,bM⟩:=ep hc (.inl ⟨f,args,rfl⟩);obtain⟨fn,jg,wo,bG,F1,oa⟩:=ll bM;have bz:=jx (P:=P) (w:=w) (a:=a) (g:=f) (caps:= #[]) ho (λx hx=>by rw[jg]at hx;cases hx;rfl) ⟨_,jg⟩ ⟨fn,wo,bG,F1⟩;rw[ZbD]at bz;rw[bz,Oper.uponIn_enter];refine⟨λhx=>(by cases hx),dT ?_⟩;simp only[pe,Of,cw,ni]at aF hK;cases hg:Γ f with
   |none=>simp[hg,bad]at aF
   |some s=>
    simp only[hg]at aF hK;obtain⟨mG,tK⟩:=aF;refine(CR aw h0.o hg mG tK (vals:=c.args.map a.eval) (by simpa using gh h0.o.gl h0.tmps oa)).mono ?_;rintro e w' ⟨v,rfl,hO,hA,pU⟩;have:=hK _ _ _ (dH.put hR dI h0 r.dst hd hO hA pU mE);rw[<-jQ];exact this
  ·by_cases JM:∃f args,r.d=.callF f args
   ·obtain⟨f,args,Of⟩:=JM;have dG:cE P o=some (.call f args):=by rw[<-hbdF f args Of];exact PU
    obtain⟨c,ho,bM⟩:=ep dG (.inl ⟨f,args,rfl⟩);obtain⟨fn,jg,wo,bG,F1,oa⟩:=ll bM;have bz:=jx (P:=P) (w:=w) (a:=a) (g:=f) (caps:= #[]) ho (λx hx=>by rw[jg]at hx;cases hx;rfl) ⟨_,jg⟩ ⟨fn,wo,bG,F1⟩;rw[ZbD]at bz;rw[bz,Oper.uponIn_enter];refine⟨λhx=>(by cases hx),dT ?_⟩;simp only[pe,Of,cw,mA]at aF hK;cases hg:Γ f with
    |none=>simp[hg,bad]at aF
    |some s=>
     simp only[hg]at aF hK;cases wi:s.fresh with
     |none=>simp[wi,bad]at aF
     |some q=>
      obtain⟨e,sz⟩:=q;simp only[wi]at aF hK;cases hrw:s.fn (gO st.objs (args.map (·.ev st.tmps)))<;>simp only[hrw,bad]at aF hK<;>try exact aF.elim
      rename_i rows;obtain⟨mG,tK⟩:=aF;obtain⟨di,h1,h2,h3⟩:=(aw f s hg).fresh e sz wi _ tK;rw[hrw]at h1;cases h1;refine(JL h0.o mG h2 h3 (vals:=c.args.map a.eval) (by simpa using gh h0.o.gl h0.tmps oa) dx).mono ?_;rintro e' w' ⟨v,L',rfl,hO,hA,pU⟩;have Af:∃N,∀r',N<=r'->(bR st.objs (some (nameOf nxt r.dst,.arr 0 e sz rows))) r'=none:=by
       obtain⟨N,hN⟩:=mE;refine⟨max N (nameOf nxt r.dst+1),λr' ff=>?_⟩;simp only[bR];rw[if_neg (by omega)];exact hN r' (by omega)
      have:=hK _ _ _ (dH.put hR dI h0 r.dst hd hO hA pU Af);rw[<-jQ];exact this
   by_cases JN:∃f args,r.d=.callR f args
   ·obtain⟨f,args,Of⟩:=JN;have dG:cE P o=some (.call f args):=by rw[show(nH.call f args)=yi r.d by rw[Of];rfl];exact PU
    obtain⟨c,ho,bM⟩:=ep dG (.inl ⟨f,args,rfl⟩);obtain⟨fn,jg,wo,bG,F1,oa⟩:=ll bM;have bz:=jx (P:=P) (w:=w) (a:=a) (g:=f) (caps:= #[]) ho (λx hx=>by rw[jg]at hx;cases hx;rfl) ⟨_,jg⟩ ⟨fn,wo,bG,F1⟩;rw[ZbD]at bz;rw[bz,Oper.uponIn_enter];refine⟨λhx=>(by cases hx),dT ?_⟩;simp only[pe,Of,cw,mz]at aF hK;cases hg:Γ f with
    |none=>simp[hg,bad]at aF
    |some s=>
     simp only[hg]at aF hK;cases hk:s.st with
     |none=>simp[hk,bad]at aF
     |some k=>
      simp only[hk]at aF hK;obtain⟨JO,Qx,cY⟩:=aF st.objs (λ_ _=>rfl);obtain⟨bd,uB⟩:=(aw f s hg).st k hk _ _ JO;obtain⟨N,hN⟩:=mE;have bd:=bd N hN;refine(bd.run base W M w0 w L (c.args.map a.eval) h0.o (by simpa using gh h0.o.gl h0.tmps oa)).mono ?_;rintro e w' ⟨v,L',rfl,hO,hA,hv⟩;rw[Qx]at hO hA hv;rw[cY]at hv;have:=hK _ _ _ (dH.put hR dI h0 r.dst hd hO hA hv ⟨N,hN⟩);rw[<-jQ];exact this
   by_cases hmkB:∃e sz Jp zero n,r.d=.mkSliceB e sz Jp zero n
   ·obtain⟨e,sz,Jp,zero,n,Of⟩:=hmkB;have dG:cE P o=some (.mkSlice e sz Jp zero n):=by rw[show(nH.mkSlice e sz Jp zero n)=yi r.d by rw[Of];rfl];exact PU
    simp only[pe,Of,cw]at aF hK;obtain⟨nx,v,w',L',bz,CT,hO,hA,hv⟩:=Oc h0.o dG h0.tmps dx aF;have Af:∃N,∀r',N<=r'->(bR st.objs (eG sz Jp zero (nameOf nxt r.dst) (n.ev st.tmps)).put) r'=none:=by
     obtain⟨N,hN⟩:=mE;cases hp:(eG sz Jp zero (nameOf nxt r.dst) (n.ev st.tmps)).put with
     |none=>exact⟨N,hN⟩
     |some q=>
      obtain⟨t,o'⟩:=q;refine⟨max N (t+1),λr' ff=>?_⟩;simp only[bR];rw[if_neg (by omega)];exact hN r' (by omega)
    rw[bz];rcases CT with rfl|⟨rfl,rfl⟩
    ·rw[Oper.uponIn_value,<-jQ];exact hK _ _ _ (dH.put hR dI h0 r.dst hd hO hA hv Af)
    ·rw[Oper.uponIn_skip,<-jQ];exact hK _ _ _ (dH.put hR dI h0 r.dst hd hO hA hv Af)
   have PY:yi r.d=r.d:=by
    cases Ww:r.d<;>rw[Ww]at h4' JM JN hmkB<;>first|rfl|(simp[oU]at h4';done)|exact absurd ⟨_,_,rfl⟩ JM|exact absurd ⟨_,_,rfl⟩ JN|exact absurd ⟨_,_,_,_,_,rfl⟩ hmkB
   rw[PY]at hc;have Af:∃N,∀r',N<=r'->(bR st.objs (pe Γ nxt r st).put) r'=none:=by
    obtain⟨N,hN⟩:=mE;cases hp:(pe Γ nxt r st).put with
    |none=>exact⟨N,hN⟩
    |some q=>
     obtain⟨t,o'⟩:=q;refine⟨max N (t+1),λr' ff=>?_⟩;simp only[bR];rw[if_neg (by omega)];exact hN r' (by omega)
   obtain⟨nx,v,w',L',bz,CT,hO,hA,hv⟩:=Qt (Γ:=Γ) (name:=nameOf nxt r.dst) hc (λf args e=>yg ⟨f,args,e⟩) h0.tmps h0.o dx aF;rw[bz];rcases CT with rfl|⟨rfl,rfl⟩
   ·rw[Oper.uponIn_value,<-jQ];exact hK _ _ _ (dH.put hR dI h0 r.dst hd hO hA hv Af)
   ·rw[Oper.uponIn_skip,<-jQ];exact hK _ _ _ (dH.put hR dI h0 r.dst hd hO hA hv Af)
end
end Go.DM
namespace Go.DM
open Go.RowKit
variable [Laid]
def cls:nH->Nat
 |.alloc _|.box _|.mkSlice .. |.mkSliceB .. |.mkMap .. =>2
 |.store .. |.append .. |.mapUpd .. |.mapEnt .. |.entSt .. |.mapDel .. |.copy .. |.rangeM _|.callF .. =>3
 |.load .. |.eqT .. |.idxAddr .. |.len _|.call .. |.callR .. |.slice .. |.lookup .. |.lenM _|.isNil .. =>1
 |.callS .. |.callv .. |.entryM _=>4
 |_=>0
section
variable{Γ:Env}{d:nH}{name:Nat}{ρ QA:Nat->DV}{objs aA:aU}
theorem iA{xs:List bp}(h:∀x∈xs,x.ev ρ=x.ev QA):xs.map (·.ev ρ)=xs.map (·.ev QA):=Zbq h
theorem wP(h:∀x∈bm d,x.ev ρ=x.ev QA):cw Γ d name ρ objs=cw Γ d name QA objs:=by
 cases d;case build z ps=>
  have:ps.map (λp=>(p.1,p.2.1,p.2.2.ev ρ))=ps.map (λp=>(p.1,p.2.1,p.2.2.ev QA)):=Zbq λp hp=>by rw[h p.2.2 (Zal.2 ⟨p,hp,rfl⟩)]
  simp only[cw,this]
 case bslice n sz z ps=>
  have:ps.map (λp=>(p.1,p.2.1,p.2.2.ev ρ))=ps.map (λp=>(p.1,p.2.1,p.2.2.ev QA)):=Zbq λp hp=>by rw[h p.2.2 (Zal.2 ⟨p,hp,rfl⟩)]
  simp only[cw,this]
 case slice sz x lo hi=>
  have h1:=h x (by simp[bm]);have h2:lo.map (·.ev ρ)=lo.map (·.ev QA):=by cases lo<;>simp;exact h _ (by simp[bm])
  have h3:hi.map (·.ev ρ)=hi.map (·.ev QA):=by cases hi<;>simp;exact h _ (by simp[bm])
  simp only[cw,h1,h2,h3]
 case call f xs=>simp only[cw,iA (xs:=xs) h]
 case callF f xs=>simp only[cw,iA (xs:=xs) h]
 case callR f xs=>simp only[cw,iA (xs:=xs) h]
 case callS f xs=>rfl
 case callv x xs=>rfl
 case mkFn f xs=>simp only[cw,iA (xs:=xs) h]
 all_goals (simp only[bm,Zag,Zap,or_false,forall_eq_or_imp,forall_eq]at h;simp only[cw,h])
theorem Ag(h:cls d=0\/cls d=2):cw Γ d name ρ objs=cw Γ d name ρ aA:=by
 cases d<;>first|rfl|(simp[cls]at h;done)
mutual
def dJ(objs:aU):DV->Prop
 |.ptr r _|.bk r _|.jd r _ _ _|.iv r|.iter r|.sP r _ _ _|.D4 r _=>objs r≠none
 |.agg cs|.eF cs|.mu _ cs=>eu objs cs
 |_=>True
def eu(objs:aU):List DV->Prop
 |[]=>True
 |d::ds=>dJ objs d/\eu objs ds
end
mutual
theorem dJ.bq{w:World}{W:Nat->Prop}{L:Loc}:∀(d:DV) (x:Value),av w W objs L d x->dJ objs d
 |.ptr r off,x,h=>by simp only[av]at h;obtain⟨⟨cs,hc⟩,_⟩:=h;simp[dJ,hc]
 |.D4 r n,x,h=>by simp only[av]at h;obtain⟨⟨cs,hc⟩,_⟩:=h;simp[dJ,hc]
 |.bk r ver,x,h=>by simp only[av]at h;obtain⟨_,v,e,s,rows,hc,_⟩:=h;simp[dJ,hc]
 |.jd r ver i off,x,h=>by simp only[av]at h;obtain⟨_,v,e,s,rows,hc,_⟩:=h;simp[dJ,hc]
 |.iv r,x,h=>by simp only[av]at h;obtain⟨⟨_,_,_,_,hc⟩,_⟩:=h;simp[dJ,hc]
 |.iter r,x,h=>by simp only[av]at h;obtain⟨⟨_,_,_,_,hc⟩,_⟩:=h;simp[dJ,hc]
 |.sP r ver lo n,x,h=>by simp only[av]at h;obtain⟨_,v,e,s,rows,hc,_⟩:=h;simp[dJ,hc]
 |.eF cs,x,h=>by simp only[av]at h;obtain⟨vs,_,hr⟩:=h;simp only[dJ];exact eu.Mw cs _ hr
 |.mu f cs,x,h=>by simp only[av]at h;obtain⟨vs,_,hr⟩:=h;simp only[dJ];exact eu.bq cs _ hr
 |.agg cs,x,h=>by simp only[av]at h;obtain⟨vs,_,hr⟩:=h;simp only[dJ];exact eu.bq cs _ hr
 |.undef,_,_|.skip,_,_|.v _,_,_|.aI,_,_|.ky _ _ _,_,_|.gz _ _,_,_|.CF,_,_=>by simp[dJ]
theorem eu.bq{w:World}{W:Nat->Prop}{L:Loc}:∀(ds:List DV) (xs:List Value),aK w W objs L ds xs->eu objs ds
 |[],_,_=>by simp[eu]
 |d::ds,xs,h=>by
  simp only[aK]at h;obtain⟨x,jJ,_,_,h1,h2⟩:=h;simp only[eu];exact⟨dJ.bq d x h1,eu.bq ds jJ h2⟩
theorem eu.Mw{w:World}{W:Nat->Prop}{L:Loc}:∀(ds:List DV) (xs:List Value),eZ w W objs L ds xs->eu objs ds
 |[],_,_=>by simp[eu]
 |d::ds,xs,h=>by
  simp only[eZ]at h;obtain⟨x,jJ,_,h1,h2⟩:=h;simp only[eu];exact⟨dJ.bq d x h1,eu.Mw ds jJ h2⟩
end
mutual
theorem dJ.names:∀(d:DV),dJ objs d->∀n∈names d,objs n≠none
 |.ptr r off,h,n,hn=>by simp only[DM.names,Zah]at hn;subst hn;simpa only[dJ]using h
 |.D4 r m,h,n,hn=>by simp only[DM.names,Zah]at hn;subst hn;simpa only[dJ]using h
 |.bk r ver,h,n,hn=>by simp only[DM.names,Zah]at hn;subst hn;simpa only[dJ]using h
 |.jd r ver i off,h,n,hn=>by simp only[DM.names,Zah]at hn;subst hn;simpa only[dJ]using h
 |.iv r,h,n,hn=>by simp only[DM.names,Zah]at hn;subst hn;simpa only[dJ]using h
 |.iter r,h,n,hn=>by simp only[DM.names,Zah]at hn;subst hn;simpa only[dJ]using h
 |.sP r _ _ _,h,n,hn=>by simp only[DM.names,Zah]at hn;subst hn;simpa only[dJ]using h
 |.eF cs,h,n,hn=>by simp only[DM.names]at hn;simp only[dJ]at h;exact eu.names cs h n hn
 |.mu f cs,h,n,hn=>by simp only[DM.names]at hn;simp only[dJ]at h;exact eu.names cs h n hn
 |.agg cs,h,n,hn=>by simp only[DM.names]at hn;simp only[dJ]at h;exact eu.names cs h n hn
 |.CF,_,n,hn|.undef,_,n,hn|.skip,_,n,hn|.v _,_,n,hn|.aI,_,n,hn|.ky _ _ _,_,n,hn|.gz _ _,_,n,hn=>by simp[DM.names]at hn
theorem eu.names:∀(ds:List DV),eu objs ds->∀n∈bJ ds,objs n≠none
 |[],_,n,hn=>by simp[bJ]at hn
 |d::ds,h,n,hn=>by
  simp only[eu]at h;simp only[bJ,Zao]at hn;rcases hn with hn|hn
  ·exact dJ.names d h.1 n hn
  ·exact eu.names ds h.2 n hn
end
def Ext(objs aA:aU):Prop:=∀r,objs r≠none->aA r=objs r
mutual
theorem Ep:∀(d:DV),(∀n∈names d,aA n=objs n)->qd aA d=qd objs d
 |.bk r ver,hr=>by simp only[qd,hr r (by simp[names])]
 |.agg cs,hr=>by simp only[qd,oD cs (λn hn=>hr n (by simpa only[names]using hn))]
 |.mu f cs,hr=>by simp only[qd,oD cs (λn hn=>hr n (by simpa only[names]using hn))]
 |.sP r ver lo n,hr=>by simp only[qd,hr r (by simp[names])]
 |.undef,_|.skip,_|.v _,_|.aI,_|.ptr _ _,_|.ky _ _ _,_|.gz _ _,_|.jd _ _ _ _,_|.CF,_|.iv _,_|.iter _,_|.eF _,_|.D4 _ _,_=>by simp[qd]
theorem oD:∀(ds:List DV),(∀n∈bJ ds,aA n=objs n)->gO aA ds=gO objs ds
 |[],_=>rfl
 |d::ds,hr=>by simp only[gO,Ep d (λn hn=>hr n (by simp[bJ,hn])),oD ds (λn hn=>hr n (by simp[bJ,hn]))]
end
mutual
theorem Er(l:Bool):∀(d:DV),(∀n∈names d,aA n=objs n)->Cb l aA d=Cb l objs d
 |.bk r ver,hr=>by simp only[Cb,hr r (by simp[names])]
 |.agg cs,hr=>by simp only[Cb,qV l cs (λn hn=>hr n (by simpa only[names]using hn))]
 |.mu f cs,hr=>by simp only[Cb,qV l cs (λn hn=>hr n (by simpa only[names]using hn))]
 |.sP r ver lo n,hr=>by simp only[Cb,hr r (by simp[names])]
 |.undef,_|.skip,_|.v _,_|.aI,_|.ptr _ _,_|.ky _ _ _,_|.gz _ _,_|.jd _ _ _ _,_|.CF,_|.iv _,_|.iter _,_|.eF _,_|.D4 _ _,_=>by simp[Cb]
theorem qV(l:Bool):∀(ds:List DV),(∀n∈bJ ds,aA n=objs n)->qE l aA ds=qE l objs ds
 |[],_=>rfl
 |d::ds,hr=>by simp only[qE,Er l d (λn hn=>hr n (by simp[bJ,hn])),qV l ds (λn hn=>hr n (by simp[bJ,hn]))]
end
theorem tL{xs:List bp}{n:Nat}:n∈bJ (xs.map (·.ev ρ))->∃x∈xs,n∈names (x.ev ρ):=by
 induction xs with
 |nil=>simp[bJ]
 |cons x xs ih=>
  simp only[Zau,bJ,Zao];rintro(h|h)
  ·exact⟨x,by simp,h⟩
  ·obtain⟨y,hy,hn⟩:=ih h;exact⟨y,by simp[hy],hn⟩
theorem Gv(d:DV):∀n∈bJ (cellsOf d),n∈names d:=by
 have hv:∀cs:List T,bJ (cs.map .v)=[]:=by
  intro cs;induction cs with
  |nil=>rfl
  |cons c cs ih=>simp only[Zau,bJ,names,ih,ZaJ]
 intro n hn;cases d with
 |v t=>cases t<;>simp[cellsOf,bJ,names,hv]at hn
 |agg cs=>simpa [cellsOf,names]using hn
 |_=>simpa [cellsOf,bJ]using hn
theorem yj{d:DV}(hy:∀n∈names d,aA n=objs n):dX aA d=dX objs d:=by
 cases d<;>simp only[names,Zah,forall_eq]at hy<;>first|rfl|(simp only[dX,hy];done)|skip
 rename_i t;cases t<;>first|rfl|skip
 rename_i v;cases v<;>first|rfl|skip
 rename_i p n c;cases n<;>rfl
theorem wQ(hr:∀x∈bm d,∀n∈names (x.ev ρ),aA n=objs n):cw Γ d name ρ aA=cw Γ d name ρ objs:=by
 by_cases h0:cls d=0\/cls d=2
 ·exact Ag h0
 cases d<;>first|exact absurd (Or.inl rfl) h0|exact absurd (Or.inr rfl) h0|rfl|skip
 case load n agg x=>
  have hx:=hr x (by simp[bm]);simp only[cw];cases hv:x.ev ρ<;>rw[hv]at hx<;>simp only[names,Zah,forall_eq]at hx<;>first|rfl|(simp only[fX,hx];done)|(rename_i t;cases t<;>rfl)
 case store n x y=>
  have hx:=hr x (by simp[bm]);have hy:=hr y (by simp[bm]);have hyc:gO aA (cellsOf (y.ev ρ))=gO objs (cellsOf (y.ev ρ)):=oD _ λn hn=>hy n (Gv _ n hn);simp only[cw];cases hv:x.ev ρ<;>rw[hv]at hx<;>simp only[names,Zah,forall_eq]at hx<;>first|rfl|(simp only[jN,hx,hyc];done)|(rename_i t;cases t<;>rfl)
 case eqT neg agg shs x y=>
  have hx:=hr x (by simp[bm]);have hy:=hr y (by simp[bm]);simp only[cw,Er true _ hx,Er true _ hy,Ep _ hx,Ep _ hy]
 case idxAddr sz x i=>
  have hx:=hr x (by simp[bm]);simp only[cw];cases hv:x.ev ρ<;>rw[hv]at hx<;>simp only[names,Zah,forall_eq]at hx<;>first|rfl|skip
  ·rename_i t;cases t<;>first|rfl|(cases i.ev ρ<;>first|rfl|(rename_i t;cases t<;>rfl))
  ·cases i.ev ρ<;>first|rfl|skip
   rename_i t;cases t<;>first|rfl|(simp only[o6,hx])
  ·cases i.ev ρ<;>first|rfl|skip
   rename_i t;cases t<;>first|rfl|(simp only[o6,hx])
  ·cases i.ev ρ<;>first|rfl|skip
   rename_i t;cases t<;>rfl
 case len x=>
  have hx:=hr x (by simp[bm]);simp only[cw];cases hv:x.ev ρ<;>rw[hv]at hx<;>simp only[names,Zah,forall_eq]at hx<;>first|rfl|(simp only[tF,hx];done)|(rename_i t;cases t<;>rfl)
 case call f xs=>
  have hx:∀n∈bJ (xs.map (·.ev ρ)),aA n=objs n:=λn hn=>by obtain⟨x,hx,hn⟩:=tL hn;exact hr x hx n hn
  simp only[cw,ni,qV _ _ hx,oD _ hx]
 case callF f xs=>
  have hx:∀n∈bJ (xs.map (·.ev ρ)),aA n=objs n:=λn hn=>by obtain⟨x,hx,hn⟩:=tL hn;exact hr x hx n hn
  simp only[cw,mA,qV _ _ hx,oD _ hx]
 case callR f xs=>
  have hx:∀n∈bJ (xs.map (·.ev ρ)),aA n=objs n:=λn hn=>by obtain⟨x,hx,hn⟩:=tL hn;exact hr x hx n hn
  simp only[cw,D7 hx]
 case append e sz bytes x y=>
  have hx:=hr x (by simp[bm]);have hy:=hr y (by simp[bm]);have hs:dX aA (y.ev ρ)=dX objs (y.ev ρ):=yj hy;simp only[cw,fP,hs];cases dX objs (y.ev ρ)with
  |none=>rfl
  |some ys=>
   cases hv:x.ev ρ<;>rw[hv]at hx<;>simp only[names,Zah,forall_eq]at hx<;>first|rfl|(simp only[hx];done)|(rename_i t;cases t<;>rfl)|skip
   rename_i r ver lo n;cases lo<;>simp only[hx]
 case slice sz x lo hi=>
  have hx:=hr x (by simp[bm]);simp only[cw];cases hv:x.ev ρ<;>rw[hv]at hx<;>simp only[names,Zah,forall_eq]at hx<;>first|rfl|(simp only[hY,hx];done)|(rename_i t;cases t<;>rfl)
 case lookup shs agg z ok x k=>
  have hx:=hr x (by simp[bm]);simp only[cw];cases hv:x.ev ρ<;>rw[hv]at hx<;>simp only[names,Zah,forall_eq]at hx<;>first|rfl|(rename_i t;cases t<;>rfl)|(cases QB:wG (k.ev ρ)<;>simp only[kz,hx,QB])
 case mapUpd shs agg x k y=>
  have hx:=hr x (by simp[bm]);simp only[cw];cases hv:x.ev ρ<;>rw[hv]at hx<;>simp only[names,Zah,forall_eq]at hx<;>first|rfl|(rename_i t;cases t<;>rfl)|(cases QB:wG (k.ev ρ)<;>simp only[gJ,hx,QB])
 case mapEnt shs agg z x k=>
  have hx:=hr x (by simp[bm]);simp only[cw];cases hv:x.ev ρ<;>rw[hv]at hx<;>simp only[names,Zah,forall_eq]at hx<;>first|rfl|(rename_i t;cases t<;>rfl)|(cases QB:wG (k.ev ρ)<;>simp only[gK,hx,QB])
 case entSt x s y=>
  have hx:=hr x (by simp[bm]);simp only[cw];cases hv:x.ev ρ<;>rw[hv]at hx<;>simp only[names,Zah,forall_eq]at hx<;>first|rfl|(rename_i t;cases t<;>rfl)|(unfold jf;split<;>first|rfl|(rename_i e _;cases e;simp only[hx]))
 case mapDel shs agg x k=>
  have hx:=hr x (by simp[bm]);simp only[cw];cases hv:x.ev ρ<;>rw[hv]at hx<;>simp only[names,Zah,forall_eq]at hx<;>first|rfl|(rename_i t;cases t<;>rfl)|(cases QB:wG (k.ev ρ)<;>simp only[gM,hx,QB])
 case lenM x=>
  have hx:=hr x (by simp[bm]);simp only[cw];cases hv:x.ev ρ<;>rw[hv]at hx<;>simp only[names,Zah,forall_eq]at hx<;>first|rfl|(simp only[o8,hx];done)|(rename_i t;cases t<;>rfl)
 case rangeM x=>
  have hx:=hr x (by simp[bm]);simp only[cw];cases hv:x.ev ρ<;>rw[hv]at hx<;>simp only[names,Zah,forall_eq]at hx<;>first|rfl|(simp only[ju,hx];done)|(rename_i t;cases t<;>rfl)
 case isNil kind neg x=>
  have hx:=hr x (by simp[bm]);simp only[cw];cases hv:x.ev ρ<;>rw[hv]at hx<;>simp only[names,Zah,forall_eq]at hx<;>first|rfl|(simp only[eH,hx];done)|(unfold eH;split<;>first|rfl|(rename_i e;cases e))
 case copy sz x y=>
  have hx:=hr x (by simp[bm]);have hy:=hr y (by simp[bm]);simp only[cw,iy,yj hy];cases dX objs (y.ev ρ)with
  |none=>rfl
  |some ys=>
   cases hv:x.ev ρ<;>rw[hv]at hx<;>simp only[names,Zah,forall_eq]at hx<;>first|rfl|(simp only[hx];done)|(rename_i t;cases t<;>rfl)
theorem W9(h:Ext objs aA)(hr:∀x∈bm d,dJ objs (x.ev ρ)):cw Γ d name ρ aA=cw Γ d name ρ objs:=
 wQ λx hx n hn=>h n (dJ.names _ (hr x hx) n hn)
def lays:nH->Bool
 |.alloc _|.box _|.mkSlice .. |.mkSliceB .. |.append .. |.mkMap .. |.rangeM _|.callF .. =>true
 |_=>false
theorem sd{r:Nat}{o:Ob}(h:cls d=3)(hp:(cw Γ d name ρ objs).put=some (r,o)):r=name\/∃x∈bm d,r∈names (x.ev ρ):=by
 cases d<;>first|(simp[cls]at h;done)|skip
 case store n x y=>
  simp only[cw]at hp;unfold jN at hp;split at hp
  ·rename_i hv;split at hp
   ·simp only[Zaa,Zar]at hp;obtain⟨rfl,_⟩:=hp;exact .inr ⟨x,by simp[bm],by simp[hv,names]⟩
   ·cases hp
  ·rename_i hv;split at hp
   ·simp only[Zaa,Zar]at hp;obtain⟨rfl,_⟩:=hp;exact .inr ⟨x,by simp[bm],by simp[hv,names]⟩
   ·cases hp
  ·cases hp
 case append e sz Jp x y=>
  simp only[cw]at hp;unfold fP at hp;split at hp
  ·cases hp
  ·split at hp
   ·simp only[Zaa,Zar]at hp;exact .inl hp.1.symm
   ·rename_i hv;split at hp
    ·simp only[Zaa,Zar]at hp;obtain⟨rfl,_⟩:=hp;exact .inr ⟨x,by simp[bm],by simp[hv,names]⟩
    ·cases hp
   ·rename_i hv;split at hp
    ·simp only[Zaa,Zar]at hp;obtain⟨rfl,_⟩:=hp;exact .inr ⟨x,by simp[bm],by simp[hv,names]⟩
    ·cases hp
   ·cases hp
 case copy sz x y=>
  simp only[cw]at hp;unfold iy at hp;split at hp
  ·cases hp
  ·split at hp
   ·rename_i hv;split at hp
    ·simp only[Zaa,Zar]at hp;obtain⟨rfl,_⟩:=hp;exact .inr ⟨x,by simp[bm],by simp[hv,names]⟩
    ·cases hp
   ·rename_i hv;split at hp
    ·simp only[Zaa,Zar]at hp;obtain⟨rfl,_⟩:=hp;exact .inr ⟨x,by simp[bm],by simp[hv,names]⟩
    ·cases hp
   ·cases hp
 case mapUpd shs agg x k y=>
  simp only[cw]at hp;unfold gJ at hp;split at hp
  ·rename_i hv _;split at hp
   ·simp only[Zaa,Zar]at hp;obtain⟨rfl,_⟩:=hp;exact .inr ⟨x,by simp[bm],by simp[hv,names]⟩
   ·cases hp
  ·cases hp
 case mapEnt shs agg z x k=>
  simp only[cw]at hp;unfold gK at hp;split at hp
  ·rename_i hv _;split at hp
   ·simp only[Zaa,Zar]at hp;obtain⟨rfl,_⟩:=hp;exact .inr ⟨x,by simp[bm],by simp[hv,names]⟩
   ·cases hp
  ·cases hp
 case entSt x s y=>
  simp only[cw]at hp;unfold jf at hp;split at hp
  ·rename_i hv _;split at hp
   ·split at hp
    ·simp only[Zaa,Zar]at hp;obtain⟨rfl,_⟩:=hp;exact .inr ⟨x,by simp[bm],by simp[hv,names]⟩
    ·cases hp
   ·cases hp
  ·cases hp
 case mapDel shs agg x k=>
  simp only[cw]at hp;unfold gM at hp;split at hp
  ·rename_i hv _;split at hp
   ·simp only[Zaa,Zar]at hp;obtain⟨rfl,_⟩:=hp;exact .inr ⟨x,by simp[bm],by simp[hv,names]⟩
   ·cases hp
  ·cases hp
 case rangeM x=>
  simp only[cw]at hp;unfold ju at hp;split at hp
  ·split at hp
   ·simp only[Zaa,Zar]at hp;exact .inl hp.1.symm
   ·cases hp
  ·cases hp
 case callF f xs=>
  simp only[cw]at hp;unfold mA at hp
  (repeat' split at hp)<;>first|(cases hp;done)|(simp only[Zaa,Zar]at hp;exact .inl hp.1.symm)
theorem JP{r:Nat}{o:Ob}(h:cls d=3)(hl:lays d=false)(hp:(cw Γ d name ρ objs).put=some (r,o)):∃x∈bm d,r∈names (x.ev ρ):=by
 cases d<;>first|(simp[cls]at h;done)|(simp[lays]at hl;done)|skip
 case store n x y=>
  simp only[cw]at hp;unfold jN at hp;split at hp
  ·rename_i hv;split at hp
   ·simp only[Zaa,Zar]at hp;obtain⟨rfl,_⟩:=hp;exact⟨x,by simp[bm],by simp[hv,names]⟩
   ·cases hp
  ·rename_i hv;split at hp
   ·simp only[Zaa,Zar]at hp;obtain⟨rfl,_⟩:=hp;exact⟨x,by simp[bm],by simp[hv,names]⟩
   ·cases hp
  ·cases hp
 case copy sz x y=>
  simp only[cw]at hp;unfold iy at hp;split at hp
  ·cases hp
  ·split at hp
   ·rename_i hv;split at hp
    ·simp only[Zaa,Zar]at hp;obtain⟨rfl,_⟩:=hp;exact⟨x,by simp[bm],by simp[hv,names]⟩
    ·cases hp
   ·rename_i hv;split at hp
    ·simp only[Zaa,Zar]at hp;obtain⟨rfl,_⟩:=hp;exact⟨x,by simp[bm],by simp[hv,names]⟩
    ·cases hp
   ·cases hp
 case mapUpd shs agg x k y=>
  simp only[cw]at hp;unfold gJ at hp;split at hp
  ·rename_i hv _;split at hp
   ·simp only[Zaa,Zar]at hp;obtain⟨rfl,_⟩:=hp;exact⟨x,by simp[bm],by simp[hv,names]⟩
   ·cases hp
  ·cases hp
 case mapEnt shs agg z x k=>
  simp only[cw]at hp;unfold gK at hp;split at hp
  ·rename_i hv _;split at hp
   ·simp only[Zaa,Zar]at hp;obtain⟨rfl,_⟩:=hp;exact⟨x,by simp[bm],by simp[hv,names]⟩
   ·cases hp
  ·cases hp
 case entSt x s y=>
  simp only[cw]at hp;unfold jf at hp;split at hp
  ·rename_i hv _;split at hp
   ·split at hp
    ·simp only[Zaa,Zar]at hp;obtain⟨rfl,_⟩:=hp;exact⟨x,by simp[bm],by simp[hv,names]⟩
    ·cases hp
   ·cases hp
  ·cases hp
 case mapDel shs agg x k=>
  simp only[cw]at hp;unfold gM at hp;split at hp
  ·rename_i hv _;split at hp
   ·simp only[Zaa,Zar]at hp;obtain⟨rfl,_⟩:=hp;exact⟨x,by simp[bm],by simp[hv,names]⟩
   ·cases hp
  ·cases hp
theorem Gw(h:cls d=0\/cls d=1):(cw Γ d name ρ objs).put=none:=by
 cases d<;>first|(simp[cls]at h;done)|rfl|skip
 case pick c a b=>simp only[cw];split<;>rfl
 case bslice=>simp only[cw];split<;>rfl
 case load n agg x=>simp only[cw];unfold fX;(repeat' split)<;>rfl
 case bin op x y=>simp only[cw];unfold qH;(repeat' split)<;>rfl
 case un op x=>simp only[cw];unfold Mm;(repeat' split)<;>rfl
 case conv k x=>simp only[cw];split<;>rfl
 case addOff k x=>simp only[cw];unfold fO;(repeat' split)<;>rfl
 case nilCheck x=>simp only[cw];unfold jt;(repeat' split)<;>rfl
 case idxAddr sz x i=>simp only[cw];unfold o6;(repeat' split)<;>rfl
 case arrAddr n sz x i=>simp only[cw];unfold jl;(repeat' split)<;>rfl
 case field off n agg x=>simp only[cw];unfold mw;(repeat' split)<;>rfl
 case slice sz x lo hi=>simp only[cw];unfold hY;(repeat' split)<;>rfl
 case extract i x=>simp only[cw];unfold o7;(repeat' split)<;>rfl
 case call f xs=>simp only[cw];unfold ni;(repeat' split)<;>rfl
 case callR f xs=>simp only[cw];unfold mz;(repeat' split)<;>rfl
 case len x=>simp only[cw];unfold tF;(repeat' split)<;>rfl
 case lenS x=>simp only[cw];unfold sa;(repeat' split)<;>rfl
 case minmax m x y=>simp only[cw];unfold mf;(repeat' split)<;>rfl
 case lookup=>simp only[cw];unfold kz;(repeat' split)<;>rfl
 case lenM x=>simp only[cw];unfold o8;(repeat' split)<;>rfl
 case isNil=>simp only[cw];unfold eH;(repeat' split)<;>rfl
 case indexS x i=>simp only[cw];unfold mg;(repeat' split)<;>rfl
theorem Xa{r:Nat}{o:Ob}(h:cls d=2)(hp:(cw Γ d name ρ objs).put=some (r,o)):r=name:=by
 cases d<;>first|(simp[cls]at h;done)|skip
 case alloc z=>simp only[cw,Zaa,Zar]at hp;exact hp.1.symm
 case box x=>simp only[cw,Zaa,Zar]at hp;exact hp.1.symm
 case mkMap=>simp only[cw,Zaa,Zar]at hp;exact hp.1.symm
 case mkSlice e sz Jp z n=>
  simp only[cw]at hp;unfold jO at hp;split at hp
  ·simp only[Zaa,Zar]at hp;exact hp.1.symm
  ·cases hp
 case mkSliceB e sz Jp z n=>
  simp only[cw]at hp;unfold eG at hp;split at hp
  ·simp only[Zaa,Zar]at hp;exact hp.1.symm
  ·cases hp
theorem Xb{r:Nat}{o:Ob}(h:cls d=3)(hp:(cw Γ d name ρ objs).put=some (r,o)):r=name\/objs r≠none:=by
 cases d<;>first|(simp[cls]at h;done)|skip
 case store n x y=>
  simp only[cw]at hp;unfold jN at hp;split at hp
  ·split at hp
   ·rename_i hc;simp only[Zaa,Zar]at hp;obtain⟨rfl,_⟩:=hp;exact .inr (by simp[hc])
   ·cases hp
  ·split at hp
   ·rename_i hc;simp only[Zaa,Zar]at hp;obtain⟨rfl,_⟩:=hp;exact .inr (by simp[hc])
   ·cases hp
  ·cases hp
 case append e sz Jp x y=>
  simp only[cw]at hp;unfold fP at hp;split at hp
  ·cases hp
  ·split at hp
   ·simp only[Zaa,Zar]at hp;exact .inl hp.1.symm
   ·split at hp
    ·rename_i hc;simp only[Zaa,Zar]at hp;obtain⟨rfl,_⟩:=hp;exact .inr (by simp[hc])
    ·cases hp
   ·split at hp
    ·rename_i hc;simp only[Zaa,Zar]at hp;obtain⟨rfl,_⟩:=hp;exact .inr (by simp[hc])
    ·cases hp
   ·cases hp
 case copy sz x y=>
  simp only[cw]at hp;unfold iy at hp
  (repeat' split at hp)<;>first|(cases hp;done)|(rename_i hc;simp only[Zaa,Zar]at hp;obtain⟨rfl,_⟩:=hp;exact .inr (by simp[hc]))
 case mapUpd=>
  simp only[cw]at hp;unfold gJ at hp
  (repeat' split at hp)<;>first|(cases hp;done)|(rename_i hc;simp only[Zaa,Zar]at hp;obtain⟨rfl,_⟩:=hp;exact .inr (by simp[hc]))
 case mapEnt=>
  simp only[cw]at hp;unfold gK at hp
  (repeat' split at hp)<;>first|(cases hp;done)|(rename_i hc;simp only[Zaa,Zar]at hp;obtain⟨rfl,_⟩:=hp;exact .inr (by simp[hc]))
 case entSt=>
  simp only[cw]at hp;unfold jf at hp
  (repeat' split at hp)<;>first|(cases hp;done)|(rename_i hc _ _ _;simp only[Zaa,Zar]at hp;obtain⟨rfl,_⟩:=hp;exact .inr (by simp_all))
 case mapDel=>
  simp only[cw]at hp;unfold gM at hp
  (repeat' split at hp)<;>first|(cases hp;done)|(rename_i hc;simp only[Zaa,Zar]at hp;obtain⟨rfl,_⟩:=hp;exact .inr (by simp[hc]))
 case rangeM=>
  simp only[cw]at hp;unfold ju at hp
  (repeat' split at hp)<;>first|(cases hp;done)|(simp only[Zaa,Zar]at hp;exact .inl hp.1.symm)
 case callF f xs=>
  simp only[cw]at hp;unfold mA at hp
  (repeat' split at hp)<;>first|(cases hp;done)|(simp only[Zaa,Zar]at hp;exact .inl hp.1.symm)
theorem QC{r:Nat}{o:Ob}(h:cls d=3)(hl:lays d=false)(hp:(cw Γ d name ρ objs).put=some (r,o)):objs r≠none:=by
 cases d<;>first|(simp[cls]at h;done)|(simp[lays]at hl;done)|skip
 all_goals simp only[cw]at hp
 case store=>unfold jN at hp;(repeat' split at hp)<;>first|(cases hp;done)|(rename_i hc;simp only[Zaa,Zar]at hp;obtain⟨rfl,_⟩:=hp;simp[hc])
 case copy=>unfold iy at hp;(repeat' split at hp)<;>first|(cases hp;done)|(rename_i hc;simp only[Zaa,Zar]at hp;obtain⟨rfl,_⟩:=hp;simp[hc])
 case mapUpd=>unfold gJ at hp;(repeat' split at hp)<;>first|(cases hp;done)|(rename_i hc;simp only[Zaa,Zar]at hp;obtain⟨rfl,_⟩:=hp;simp[hc])
 case mapEnt=>unfold gK at hp;(repeat' split at hp)<;>first|(cases hp;done)|(rename_i hc;simp only[Zaa,Zar]at hp;obtain⟨rfl,_⟩:=hp;simp[hc])
 case entSt=>unfold jf at hp;(repeat' split at hp)<;>first|(cases hp;done)|(simp only[Zaa,Zar]at hp;obtain⟨rfl,_⟩:=hp;simp_all)
 case mapDel=>unfold gM at hp;(repeat' split at hp)<;>first|(cases hp;done)|(rename_i hc;simp only[Zaa,Zar]at hp;obtain⟨rfl,_⟩:=hp;simp[hc])
end
end Go.DM
namespace Go.DM
open Go.RowKit
variable [Laid]
def JQ:bp->Option Nat
 |.tmp t=>some t
 |.cq _=>none
def slotsOf(r:RO):List Nat:=(bm r.d).filterMap JQ++(r.guard.map (·.1)).toList
def YQ:bp->Bool
 |.tmp _=>true
 |.cq (.v _)|.cq .aI|.cq (.gz _ _)=>true
 |_=>false
def qW(r:RO):Bool:=(bm r.d).all YQ
def gF(x y:RO):Bool:=match x.dst with|some d=> !(slotsOf y).contains d|none=>true
def pY(x y:RO):Bool:=match x.dst,y.dst with|some a,some b=>a !=b|_,_=>true
def JR(a b:Nat):Bool:=((a==3&&(b==1||b==3))||(b==3&&a==1))||((a==4&&b !=0)||(b==4&&a !=0))
def y8(x y:Option (List Nat)):Bool:=match x,y with|some a,some b=>a.all λn=>b.all λm=>n !=m|_,_=>false
def ok4(a b:Nat):Bool:=(a !=4||b==1)&&(b !=4||a==1)
def YR:nH->Bool
 |.callF .. =>true
 |_=>false
def QD(a b:nH):Bool:=(YR a&&cls b==1)||(YR b&&cls a==1)
def indep(x y:RO):Bool:=
 gF x y&&gF y x&&pY x y&&(!JR (cls x.d) (cls y.d)||(y8 x.iJ y.iJ&&ok4 (cls x.d) (cls y.d))||QD x.d y.d)
def eJ(r:RO):Bool:= !lays r.d||r.dst.isSome
section
variable{Γ:Env}{nxt:Nat}
def Ah(st:RS):Prop:=∀t,dJ st.objs (st.tmps t)
def nm(nxt:Nat)(r:RO):Nat:=nameOf nxt r.dst
def Mx(nxt:Nat)(r:RO)(st:RS):Prop:=r.dst.isSome=true->st.objs (nm nxt r)=none
theorem zk{r:RO}{st:RS}{t:Nat}{o:Ob}(hp:(pe Γ nxt r st).put=some (t,o)):(t=nm nxt r/\lays r.d=true)\/(st.objs t≠none/\cls r.d=3):=by
 unfold pe at hp;by_cases h0:cls r.d=0\/cls r.d=1
 ·rw[Gw h0]at hp;cases hp
 ·by_cases h2:cls r.d=2
  ·refine .inl ⟨Xa h2 hp, ?_⟩;cases hd:r.d<;>rw[hd]at h2<;>first|rfl|(simp[cls]at h2;done)
  ·have h3:cls r.d=3:=by
    cases hd:r.d<;>rw[hd]at h0 h2<;>first|(simp_all [cls];done)|(rw[hd]at hp;simp[cw,bad]at hp)
   cases hl:lays r.d with
   |true=>
    rcases Xb h3 hp with h|h
    ·exact .inl ⟨h,rfl⟩
    ·exact .inr ⟨h,h3⟩
   |false=>exact .inr ⟨QC h3 hl hp,h3⟩
theorem ev_upd{x:bp}{ρ:Nat->DV}{dst:Option Nat}{v:DV}(h:∀d,dst=some d->JQ x≠some d):x.ev (b7 ρ dst v)=x.ev ρ:=by
 cases x with
 |cq d=>rfl
 |tmp t=>
  cases dst with
  |none=>rfl
  |some d=>
   have:=h d rfl;simp only[JQ,ne_eq,Zaa]at this;simp[bp.ev,b7,this]
theorem yk{x y:RO}(h:gF x y=true){d:Nat}(hd:x.dst=some d):d∉slotsOf y:=by
 simp only[gF,hd]at h;simpa using h
theorem uV{x y:RO}(h:gF x y=true)(ρ:Nat->DV)(v:DV):ef y.guard (b7 ρ x.dst v)=ef y.guard ρ:=by
 cases hg:y.guard with
 |none=>rfl
 |some g=>
  obtain⟨s,want⟩:=g;cases hd:x.dst with
  |none=>rfl
  |some d=>
   have hn:=yk h hd;have:s≠d:=λe=>hn (by simp[slotsOf,hg,e]);simp[ef,b7,this]
theorem oE{x y:RO}(h1:gF x y=true)(ρ:Nat->DV)(v:DV):∀o∈bm y.d,o.ev (b7 ρ x.dst v)=o.ev ρ:=λo ho=>ev_upd λd hd hs=>by
  have:=yk h1 hd;exact this (by simp only[slotsOf,Zao,Zbm];exact .inl ⟨o,ho,hs⟩)
theorem nk{x y:RO}(h1:gF x y=true)(ρ:Nat->DV)(v:DV):b8 y (b7 ρ x.dst v)↔b8 y ρ:=by
 unfold b8;cases y.iJ with
 |none=>rfl
 |some l=>
  constructor
  ·intro h o ho n hn;exact h o ho n (by rw[oE h1 ρ v o ho];exact hn)
  ·intro h o ho n hn;exact h o ho n (by rw[oE h1 ρ v o ho]at hn;exact hn)
theorem oF{x y:RO}{ρ:Nat->DV}(hd:y8 x.iJ y.iJ=true)(tx:b8 x ρ)(ty:b8 y ρ){o p:bp}(ho:o∈bm x.d)(hp:p∈bm y.d){n:Nat}(h1:n∈names (o.ev ρ))(h2:n∈names (p.ev ρ)):False:=by
 unfold y8 at hd;unfold b8 at tx ty;cases hx:x.iJ with
 |none=>simp[hx]at hd
 |some a=>
  cases hy:y.iJ with
  |none=>simp[hx,hy]at hd
  |some b=>
   simp only[hx,hy]at hd tx ty;have:=ZaI.1 (ZaI.1 hd n (tx o ho n h1)) n (ty p hp n h2);simp at this
theorem pg{x:RO}{st:RS}{t:Nat}{o:Ob}(h3x:cls x.d=3)(PZ:eJ x=true)(Ai:x.dst.isSome=true->False)
  (Xc:(cw Γ x.d (nameOf nxt x.dst) st.tmps st.objs).put=some (t,o)) (h5:t=nameOf nxt x.dst) {C:Prop} (k:∀a∈bm x.d,t∈names (a.ev st.tmps)->C):C:=by
 cases hdx:x.dst with
 |some d=>exact(Ai (by simp[hdx])).elim
 |none=>
  have:lays x.d=false:=by simpa [eJ,hdx]using PZ
  obtain⟨a,ha,hn⟩:=JP h3x this Xc;exact k a ha hn
theorem QE{y:RO}{st:RS}(hcy:qW y=true)(hR:Ah st):∀o∈bm y.d,dJ st.objs (o.ev st.tmps):=λo ho=>by
 have:=ZaI.1 hcy o ho;cases o with
 |tmp t=>exact hR t
 |cq d=>cases d<;>first|(simp[YQ]at this;done)|simp[bp.ev,dJ]
theorem Xd{d:nH}:cls d≠4↔oU d=false:=by cases d<;>simp[cls,oU]
theorem JS{d:nH}{ρ QA:Nat->DV}{objs:aU}{todo:List (List T)}(h:∀x∈bm d,x.ev ρ=x.ev QA):lU Γ d ρ objs todo=lU Γ d QA objs todo:=by
 cases d<;>first|rfl|skip
 case callS f xs=>simp only[lU,iA (xs:=xs) h]
 case entryM x=>simp only[lU,h x (by simp[bm])]
 case callv x xs=>
  have h1:=h x (by simp[bm]);have h2:=iA (xs:=xs) (λy hy=>h y (by simp[bm,hy]));simp only[lU,h1,h2]
theorem Og{f:FuncId}{xs:List bp}{name:Nat}{ρ:Nat->DV}{objs:aU}{t:Nat}{o:Ob}(h:(cw Γ (.callF f xs) name ρ objs).put=some (t,o)):t=name:=by
 simp only[cw,mA]at h
 (repeat' split at h)<;>simp_all [bad]
theorem Oh{x y:RO}{st:RS}(hi:indep x y=true)(Jq:oU x.d=false)(wR:oU y.d=false)(hcy:qW y=true)(PZ:eJ x=true)(hR:Ah st)(hf:Mx nxt x st)(v:DV)(td:List (List T))(ty:b8 y st.tmps){p:Option (Nat×Ob)}(hp:p=none\/(p=(pe Γ nxt x st).put/\b8 x st.tmps)):
  pe Γ nxt y ⟨b7 st.tmps x.dst v,bR st.objs p,td⟩=pe Γ nxt y st:=by
 simp only[indep,Zam,Zbl,ZbL]at hi;obtain⟨⟨⟨h1,h2⟩,h3⟩,h4⟩:=hi;have hev:=oE h1 st.tmps v;have href:=QE hcy hR;unfold pe;simp only;rw[wP hev];rcases hp with rfl|⟨rfl,tx⟩
 ·rfl
 ·cases Xc:(pe Γ nxt x st).put with
  |none=>rfl
  |some q=>
   obtain⟨t,o⟩:=q;by_cases hy:cls y.d=0\/cls y.d=2
   ·exact Ag hy
   ·rcases zk Xc with⟨rfl,hl⟩|⟨bG,h3x⟩
    ·refine W9 (λr hr=>?_) href;have hds:x.dst.isSome=true:=by simpa [eJ,hl]using PZ
     have lQ:=hf hds;simp only[bR];rw[if_neg];rintro rfl;exact hr lQ
    ·rcases h4 with(h4|h4)|h4
     ·exfalso;have:cls y.d=1\/cls y.d=3:=by
       have:=Xd.2 wR;cases hd:y.d<;>rw[hd]at hy this<;>simp_all [cls]
      rcases this with h|h<;>simp[h3x,h,JR]at h4
     ·refine wQ λp hp n hn=>?_;simp only[bR];rw[if_neg];rintro rfl;unfold pe at Xc;rcases sd h3x Xc with h5|⟨o',ga,Cl⟩
      ·exact pg h3x PZ (λe=>bG (by rw[show n=nm nxt x from h5];exact hf e)) Xc h5 (λa ha Cl=>oF h4.1 tx ty ha hp Cl hn)
      ·exact oF h4.1 tx ty ga hp Cl hn
     ·exfalso;unfold QD at h4;rw[h3x]at h4;have h5:YR x.d=true:=by
       cases hF:YR x.d
       ·rw[hF]at h4;simp at h4
       ·rfl
      have h6:lays x.d=true:=by
       cases hd:x.d<;>rw[hd]at h5<;>first|rfl|(simp[YR]at h5;done)
      have h7:=hf (by simpa [eJ,h6]using PZ);have h8:t=nm nxt x:=by
       unfold pe at Xc;cases hd:x.d<;>rw[hd]at h5 Xc<;>first|(simp[YR]at h5;done)|skip
       exact Og Xc
      rw[h8]at bG;exact bG h7
theorem QF{x y:RO}(hi:indep x y=true)(h4:oU x.d=true):cls y.d=0\/(cls y.d=1/\y8 x.iJ y.iJ=true):=by
 have c4:cls x.d=4:=by cases hx:x.d<;>rw[hx]at h4<;>simp_all [cls,oU]
 simp only[indep,Zam,Zbl,ZbL]at hi;rcases hi.2 with(h|h)|h
 ·simp[JR,c4]at h;exact .inl h.1
 ·simp[ok4,c4]at h;exact .inr ⟨h.2.1,h.1⟩
 ·exfalso;have:YR x.d=false:=by cases hx:x.d<;>rw[hx]at h4<;>simp_all [YR,oU]
  simp[QD,this,c4]at h
theorem Oi(a b:Nat):JR a b=JR b a:=by
 unfold JR;cases a==3<;>cases b==3<;>cases a==1<;>cases b==1<;>cases a==4<;>cases b==4<;>cases a !=0<;>cases b !=0<;>rfl
theorem Aj{x y:RO}(h:pY x y=true):pY y x=true:=by
 unfold pY at h⊢;cases hx:x.dst<;>cases hy:y.dst<;>simp_all
 exact λe=>h e.symm
theorem Oj(a b:Option (List Nat)):y8 a b=y8 b a:=by
 cases a with
 |none=>cases b<;>rfl
 |some a=>
  cases b with
  |none=>rfl
  |some b=>
   rw[Bool.eq_iff_iff];simp only[y8,ZaI,bne_iff_ne,ne_eq];exact⟨λh n hn m hm e=>h m hm n hn e.symm,λh n hn m hm e=>h m hm n hn e.symm⟩
theorem tM{x y:RO}(h:indep x y=true):indep y x=true:=by
 simp only[indep,Zam]at h⊢;refine⟨⟨⟨h.1.1.2,h.1.1.1⟩,Aj h.1.2⟩, ?_⟩;rw[Oi,Oj];have:=h.2;simp only[ZbL,Zam]at this⊢;rcases this with(h|h)|h
 ·exact .inl (.inl h)
 ·refine .inl (.inr ⟨h.1, ?_⟩);simp only[ok4,Zam]at h⊢;exact⟨h.2.2,h.2.1⟩
 ·refine .inr ?_;unfold QD at h⊢;rw[Bool.or_comm];exact h
def vp(Γ:Env)(nxt:Nat)(r:RO)(st:RS):DV×Option (Nat×Ob):=
 match ef r.guard st.tmps with
 |some true=>((pe Γ nxt r st).val,(pe Γ nxt r st).put)
 |_=>(.skip,none)
def Cd(Γ:Env)(r:RO)(st:RS):DV×aU×List (List T):=
 match ef r.guard st.tmps with
 |some true=>((lU Γ r.d st.tmps st.objs st.todo).val,(lU Γ r.d st.tmps st.objs st.todo).objs,(lU Γ r.d st.tmps st.objs st.todo).todo)
 |_=>(.skip,st.objs,st.todo)
theorem step_eq{r:RO}{st:RS}(h4:oU r.d=false)(h:bT Γ nxt r st):cI Γ nxt r st=⟨b7 st.tmps r.dst (vp Γ nxt r st).1,bR st.objs (vp Γ nxt r st).2,st.todo⟩:=by
 unfold bT at h;unfold cI vp;cases hw:ef r.guard st.tmps with
 |none=>rw[hw]at h;exact h.elim
 |some b=>cases b<;>simp[post,h4,bR]
theorem qX{r:RO}{st:RS}(h4:oU r.d=true)(h:bT Γ nxt r st):cI Γ nxt r st=⟨b7 st.tmps r.dst (Cd Γ r st).1,(Cd Γ r st).2.1,(Cd Γ r st).2.2⟩:=by
 unfold bT at h;unfold cI Cd;cases hw:ef r.guard st.tmps with
 |none=>rw[hw]at h;exact h.elim
 |some b=>cases b<;>simp[post,h4]
theorem Es(r:RO)(st:RS):(vp Γ nxt r st).2=none\/(vp Γ nxt r st).2=(pe Γ nxt r st).put:=by
 unfold vp;split
 ·exact .inr rfl
 ·exact .inl rfl
theorem Et{r:RO}{st:RS}(h0:cls r.d=0\/cls r.d=1):(vp Γ nxt r st).2=none:=by
 rcases Es (Γ:=Γ) (nxt:=nxt) r st with h|h
 ·exact h
 ·rw[h];exact Gw h0
theorem ph{r:RO}{st:RS}(h:bT Γ nxt r st):(vp Γ nxt r st).2=none\/((vp Γ nxt r st).2=(pe Γ nxt r st).put/\b8 r st.tmps):=by
 unfold bT at h;unfold vp;cases hw:ef r.guard st.tmps with
 |none=>rw[hw]at h;exact h.elim
 |some b=>
  cases b with
  |false=>exact .inl rfl
  |true=>rw[hw]at h;exact .inr ⟨rfl,h.2.1⟩
theorem Ol{d:nH}(h:cls d=0):oU d=false:=Xd.1 (by rw[h];decide)
theorem JT{x y:RO}{st:RS}(ha:gF x y=true)(h0:cls y.d=0)(v:DV)(aA:aU)(td:List (List T)):
  vp Γ nxt y ⟨b7 st.tmps x.dst v,aA,td⟩=vp Γ nxt y st/\(bT Γ nxt y ⟨b7 st.tmps x.dst v,aA,td⟩↔bT Γ nxt y st):=by
 have hw:ef y.guard (b7 st.tmps x.dst v)=ef y.guard st.tmps:=uV ha _ _;have ht:=nk (y:=y) ha st.tmps v;have he:pe Γ nxt y ⟨b7 st.tmps x.dst v,aA,td⟩=pe Γ nxt y st:=by
  unfold pe;simp only;rw[wP (oE ha st.tmps v)];exact Ag (.inl h0)
 refine⟨?_, ?_⟩
 ·unfold vp;simp only[hw,he]
 ·unfold bT post qT;simp only[hw,he,ht,Ol h0,ZaT,if_false,false_implies]
theorem JU{x y:RO}{st:RS}(ha:gF x y=true)(h1:cls y.d=1)(hd:y8 x.iJ y.iJ=true)(v:DV)(aA:aU)(td:List (List T))(hk:∀l,x.iJ=some l->∀n,n∉l->aA n=st.objs n)
  (oy:bT Γ nxt y st\/bT Γ nxt y ⟨b7 st.tmps x.dst v,aA,td⟩):
  vp Γ nxt y ⟨b7 st.tmps x.dst v,aA,td⟩=vp Γ nxt y st/\bT Γ nxt y ⟨b7 st.tmps x.dst v,aA,td⟩/\bT Γ nxt y st:=by
 have hw:ef y.guard (b7 st.tmps x.dst v)=ef y.guard st.tmps:=uV ha _ _;have ht:=nk (y:=y) ha st.tmps v;have wR:oU y.d=false:=Xd.1 (by rw[h1];decide);have he:b8 y st.tmps->pe Γ nxt y ⟨b7 st.tmps x.dst v,aA,td⟩=pe Γ nxt y st:=λty=>by
  unfold pe;simp only;rw[wP (oE ha st.tmps v)];refine wQ λp hp n hn=>?_;unfold y8 at hd;unfold b8 at ty;cases hx:x.iJ with
  |none=>simp[hx]at hd
  |some a=>
   cases hyt:y.iJ with
   |none=>simp[hx,hyt]at hd
   |some b=>
    simp only[hx,hyt]at hd ty;refine hk a hx n λhna=>?_;have:=ZaI.1 (ZaI.1 hd n hna) n (ty p hp n hn);simp at this
 unfold bT post qT at oy⊢;unfold vp;simp only[hw,ht,wR,ZaT,if_false,false_implies,and_true]at oy⊢;cases hb:ef y.guard st.tmps with
 |none=>simp only[hb,or_self]at oy
 |some b=>
  cases b with
  |false=>simp
  |true=>
   simp only[hb]at oy⊢;have ty:b8 y st.tmps:=by rcases oy with h|h<;>exact h.2
   have he:=he ty;simp only[he]at oy⊢;have:=oy.elim id id;exact⟨trivial,this,this⟩
theorem QG{x:RO}{st:RS}(h4:oU x.d=true)(ox:bT Γ nxt x st):∀l,x.iJ=some l->∀n,n∉l->(Cd Γ x st).2.1 n=st.objs n:=by
 unfold bT post qT at ox;unfold Cd;intro l hl n hn;cases hb:ef x.guard st.tmps with
 |none=>simp[hb]at ox
 |some b=>
  cases b with
  |false=>rfl
  |true=>
   simp only[hb,h4,if_true]at ox;exact ox.2.2 trivial l hl n hn
theorem QH{x y:RO}{st:RS}(hi:indep x y=true)(h4:oU x.d=true)(ox:bT Γ nxt x st)(oy:bT Γ nxt y st\/bT Γ nxt y ⟨b7 st.tmps x.dst (Cd Γ x st).1,(Cd Γ x st).2.1,(Cd Γ x st).2.2⟩):
  vp Γ nxt y ⟨b7 st.tmps x.dst (Cd Γ x st).1,(Cd Γ x st).2.1,(Cd Γ x st).2.2⟩=vp Γ nxt y st/\bT Γ nxt y ⟨b7 st.tmps x.dst (Cd Γ x st).1,(Cd Γ x st).2.1,(Cd Γ x st).2.2⟩/\bT Γ nxt y st/\(cls y.d=0\/cls y.d=1):=by
 have ha:gF x y=true:=by simp only[indep,Zam]at hi;exact hi.1.1.1
 rcases QF hi h4 with h|⟨h,hd⟩
 ·obtain⟨e1,e2⟩:=JT (Γ:=Γ) (nxt:=nxt) (st:=st) ha h (Cd Γ x st).1 (Cd Γ x st).2.1 (Cd Γ x st).2.2;have:=oy.elim id e2.1;exact⟨e1,e2.2 this,this,.inl h⟩
 ·obtain⟨e1,e2,e3⟩:=JU ha h hd _ _ _ (QG h4 ox) oy;exact⟨e1,e2,e3,.inr h⟩
theorem after{x y:RO}{st:RS}(hi:indep x y=true)(Jq:oU x.d=false)(wR:oU y.d=false)(hcy:qW y=true)(PZ:eJ x=true)(hR:Ah st)(hf:Mx nxt x st)(ox:bT Γ nxt x st)(oy:bT Γ nxt y st\/bT Γ nxt y (cI Γ nxt x st)):
  vp Γ nxt y (cI Γ nxt x st)=vp Γ nxt y st/\bT Γ nxt y (cI Γ nxt x st)/\bT Γ nxt y st:=by
 rw[step_eq Jq ox]at oy⊢;have ha:gF x y=true:=by simp only[indep,Zam]at hi;exact hi.1.1.1
 have hw:ef y.guard (b7 st.tmps x.dst (vp Γ nxt x st).1)=ef y.guard st.tmps:=uV ha _ _;have ht:=nk (y:=y) ha st.tmps (vp Γ nxt x st).1;have he:b8 y st.tmps->_:=λty=>Oh (Γ:=Γ) hi Jq wR hcy PZ hR hf (vp Γ nxt x st).1 st.todo ty (ph ox);generalize vp Γ nxt x st=q at oy hw ht he⊢;unfold bT post qT at oy⊢;unfold vp;simp only[hw,ht,wR,ZaT,if_false,false_implies,and_true]at oy⊢;cases hb:ef y.guard st.tmps with
 |none=>simp only[hb,or_self]at oy
 |some b=>
  cases b with
  |false=>simp
  |true=>
   simp only[hb]at oy⊢;have ty:b8 y st.tmps:=by rcases oy with h|h<;>exact h.2
   have he:=he ty;simp only[he]at oy⊢;have:=oy.elim id id;exact⟨trivial,this,this⟩
theorem wS{x y:RO}(h3:pY x y=true)(f:Nat->DV)(u v:DV):b7 (b7 f x.dst u) y.dst v=b7 (b7 f y.dst v) x.dst u:=by
 funext t;cases hx:x.dst<;>cases hy:y.dst<;>simp only[b7]
 rename_i d e;have hde:d≠e:=by simpa [pY,hx,hy]using h3
 by_cases h1:t=d<;>by_cases h2:t=e<;>simp_all
theorem QI{x y:RO}{st:RS}(ha:gF y x=true)(v:DV):Cd Γ x ⟨b7 st.tmps y.dst v,st.objs,st.todo⟩=Cd Γ x st/\(oU x.d=true->(bT Γ nxt x ⟨b7 st.tmps y.dst v,st.objs,st.todo⟩↔bT Γ nxt x st)):=by
 have hw:ef x.guard (b7 st.tmps y.dst v)=ef x.guard st.tmps:=uV ha _ _;have ht:=nk (y:=x) ha st.tmps v;have hs:lU Γ x.d (b7 st.tmps y.dst v) st.objs st.todo=lU Γ x.d st.tmps st.objs st.todo:=JS (oE ha st.tmps v);refine⟨?_,λh4=>?_⟩
 ·unfold Cd;simp only[hw,hs]
 ·unfold bT post;simp only[hw,hs,ht,h4,if_true]
theorem swap{x y:RO}{st:RS}(hi:indep x y=true)(QJ:qW x=true)(hcy:qW y=true)(PZ:eJ x=true)(hly:eJ y=true)(hR:Ah st)(F2:Mx nxt x st)(hfy:Mx nxt y st)
  (ox:bT Γ nxt x st) (oy:bT Γ nxt y (cI Γ nxt x st)):
  bT Γ nxt y st/\bT Γ nxt x (cI Γ nxt y st)/\cI Γ nxt y (cI Γ nxt x st)=cI Γ nxt x (cI Γ nxt y st):=by
 have nj:=hi;simp only[indep,Zam]at nj;obtain⟨⟨⟨h1,h2⟩,h3⟩,h4⟩:=nj;by_cases Jq:oU x.d=true
 ·rw[qX Jq ox]at oy⊢;obtain⟨e1,_,QK,y0⟩:=QH hi Jq ox (.inr oy);have wR:oU y.d=false:=Xd.1 (by rcases y0 with h|h<;>rw[h]<;>decide)
  rw[step_eq wR oy,step_eq wR QK,e1,Et y0];obtain⟨e3,e4⟩:=QI (Γ:=Γ) (nxt:=nxt) (x:=x) (y:=y) (st:=st) h2 (vp Γ nxt y st).1;have Xe:=(e4 Jq).2 ox;refine⟨QK,Xe, ?_⟩;simp only[bR]at Xe⊢;rw[qX Jq Xe,e3];simp only;rw[wS h3]
 ·have Jq:oU x.d=false:=by simpa using Jq
  by_cases wR:oU y.d=true
  ·have x0:cls x.d=0\/cls x.d=1:=by
    rcases QF (tM hi) wR with h|⟨h,_⟩
    ·exact .inl h
    ·exact .inr h
   rw[step_eq Jq ox,Et x0]at oy⊢;simp only[bR]at oy⊢;obtain⟨e3,e4⟩:=QI (Γ:=Γ) (nxt:=nxt) (x:=y) (y:=x) (st:=st) h1 (vp Γ nxt x st).1;have QK:=(e4 wR).1 oy;rw[qX wR oy,qX wR QK,e3];obtain⟨e1,Xe,_,_⟩:=QH (tM hi) wR QK (.inl ox);refine⟨QK,Xe, ?_⟩;rw[step_eq Jq Xe,e1,Et x0];simp only[bR];rw[wS h3]
  ·have wR:oU y.d=false:=by simpa using wR
   have a1:=after (Γ:=Γ) hi Jq wR hcy PZ hR F2 ox (.inr oy);have QK:=a1.2.2;have a2:=after (Γ:=Γ) (tM hi) wR Jq QJ hly hR hfy QK (.inl ox);have Xe:=a2.2.1;refine⟨QK,Xe, ?_⟩;have tx:=ph ox;have ty:=ph QK;rw[step_eq wR oy,step_eq Jq Xe,a1.1,a2.1,step_eq Jq ox,step_eq wR QK]
   congr 1
   ·exact wS h3 _ _ _
   ·funext t;cases hx:(vp Γ nxt x st).2 with
    |none=>cases(vp Γ nxt y st).2<;>rfl
    |some p=>
     cases hy:(vp Γ nxt y st).2 with
     |none=>rfl
     |some q=>
      obtain⟨t1,o1⟩:=p;obtain⟨t2,o2⟩:=q;have e1:=zk (((Es (Γ:=Γ) (nxt:=nxt) x st).resolve_left (by simp[hx])).symm.trans hx);have e2:=zk (((Es (Γ:=Γ) (nxt:=nxt) y st).resolve_left (by simp[hy])).symm.trans hy);have bG:t1≠t2:=by
       rcases e1 with⟨rfl,l1⟩|⟨n1,c1⟩<;>rcases e2 with⟨rfl,l2⟩|⟨n2,c2⟩
       ·have s1:x.dst.isSome=true:=by simpa [eJ,l1]using PZ
        have s2:y.dst.isSome=true:=by simpa [eJ,l2]using hly
        obtain⟨d1,Om⟩:=Zbu.1 s1;obtain⟨d2,hd2⟩:=Zbu.1 s2;have:d1≠d2:=by simpa [pY,Om,hd2]using h3
        simp[nm,nameOf,Om,hd2,this]
       ·rintro rfl;exact n2 (F2 (by simpa [eJ,l1]using PZ))
       ·rintro rfl;exact n1 (hfy (by simpa [eJ,l2]using hly))
       ·simp only[ZbL,Zam]at h4;rcases h4 with(h4|h4)|h4
        ·simp[JR,c1,c2]at h4
        ·rintro rfl;have p1:=(tx.resolve_left (by simp[hx])).1.symm.trans hx;have p2:=(ty.resolve_left (by simp[hy])).1.symm.trans hy;have q1:=(tx.resolve_left (by simp[hx])).2;have q2:=(ty.resolve_left (by simp[hy])).2;unfold pe at p1 p2;rcases sd c1 p1 with h5|⟨o,ho,hn⟩
         ·exact pg c1 PZ (λe=>n1 (by rw[show t1=nm nxt x from h5];exact F2 e)) p1 h5 (λo ho hn=>by
           rcases sd c2 p2 with h6|⟨o',ga,Cl⟩
           ·exact pg c2 hly (λe=>n2 (by rw[show t1=nm nxt y from h6];exact hfy e)) p2 h6 (λo' ga Cl=>oF h4.1 q1 q2 ho ga hn Cl)
           ·exact oF h4.1 q1 q2 ho ga hn Cl)
         ·rcases sd c2 p2 with h6|⟨o',ga,Cl⟩
          ·exact pg c2 hly (λe=>n2 (by rw[show t1=nm nxt y from h6];exact hfy e)) p2 h6 (λo' ga Cl=>oF h4.1 q1 q2 ho ga hn Cl)
          ·exact oF h4.1 q1 q2 ho ga hn Cl
        ·simp[QD,c1,c2]at h4
      simp only[bR];by_cases h1:t=t1<;>by_cases h2:t=t2<;>simp_all
end
end Go.DM
namespace Go.DM
open Go.RowKit
variable [Laid]
def guardOf(ops:Array Oper)(o:Oper):Option (Option (Nat×Bool)):=
 match o.guard with
 |none=>some none
 |some (j,b)=>((ops[j]?).bind (·.dst)).map λs=>some (s,b)
def cK(P:Program)(ops:Array Oper)(o:Oper):Option RO:=do
 let d<-cE P o
 let g<-guardOf ops o
 pure ⟨d,o.dst,g,(o.after.toList.filter (Region.binds .any ·)).map (·.on),none⟩
def bare(r:RO):RO:=⟨yi r.d,r.dst,r.guard,r.after,none⟩
def eK(P:Program)(ops:Array Oper):Option (List RO):=ops.toList.mapM (cK P ops)
def iL(Γ:Env)(nxt:Nat):List RO->RS->Prop
 |[],_=>True
 |r::rs,st=>bT Γ nxt r st/\iL Γ nxt rs (cI Γ nxt r st)
def cL(Γ:Env)(nxt:Nat):List RO->RS->RS
 |[],st=>st
 |r::rs,st=>cL Γ nxt rs (cI Γ nxt r st)
def kf(nt:Nat)(r:RO):Bool:=qW r&&eJ r&&(match r.dst with|some d=>decide (d<nt)|none=>true)
def dM:List RO->Bool
 |[]=>true
 |r::rs=>rs.all (pY r)&&dM rs
def mI(acc:List Nat)(as:List Nat):Nat:=as.foldl (λm j=>m|||(1<<<j)|||acc.getD j 0) 0
def ln(rs:List RO):List Nat:=rs.foldl (λacc r=>acc++[mI acc r.after]) []
def se(rs:List RO)(ms:List Nat):Bool:=
 (List.range rs.length).all λi=>match rs[i]?,ms[i]? with
  |some y,some m=>y.after.all (·<i)&&(List.range i).all λx=>m.testBit x||(match rs[x]? with|some r=>indep r y|none=>false)
  |_,_=>false
def da(nt:Nat)(draw:Bool)(rs:List RO):Bool:=rs.all (kf nt)&&dM rs&&(!draw||se rs (ln rs))
section
variable{P:Program}{κ:Ctx}{nt:Nat}{Γ:Env}{nxt:Nat}{ro:Option Nat}{n:Nat}
theorem Xf{o:Oper}{a:Act}{w:World}{K:Act->World->Prop}(h:o.wpIn (iK ro) n P a w K (λ_ _ _=>False)):∃a w,K a w:=by
 have h:=h.2;generalize (o.semAt (iK ro).round a.eval).run P w=r at h;cases r with
 |ok x w'=>
  cases x<;>simp only[Oper.uponIn]at h
  case value v=>exact⟨_,_,h⟩
  case skip=>exact⟨_,_,h⟩
  case defer d=>exact⟨_,_,h⟩
  case enter f args=>
   obtain⟨_,_,hc⟩:=h;obtain⟨e,w2,fr,hR,_⟩:=hc [] (λd hd=>by cases hd);cases e with
   |returned v=>exact⟨_,_,hR⟩
   |panicked c=>exact hR.elim
   |outgrown=>obtain⟨_,_,hf⟩:=hR;exact hf.elim
  case row r args=>
   obtain⟨_,hc⟩:=h;obtain⟨v,w2,hR,_⟩:=hc default [] (λd hd=>by cases hd);exact⟨_,_,hR⟩
  case round l f t as b=>
   obtain⟨_,_,hc⟩:=h;obtain⟨e,w2,hR,_⟩:=hc default [] (λd hd=>by cases hd);cases e with
   |returned v=>exact⟨_,_,hR⟩
   |panicked c=>exact hR.elim
   |outgrown=>obtain⟨_,_,hf⟩:=hR;exact hf.elim
 |halt x w'=>cases x<;>simp only[Oper.uponIn]at h
theorem fj{ops:Array Oper}{o:Oper}{r:RO}(h:cK P ops o=some (bare r)):cE P o=some (yi r.d)/\guardOf ops o=some r.guard/\r.dst=o.dst/\r.after=(o.after.toList.filter (Region.binds .any ·)).map (·.on):=by
 simp only[cK,Zaj,Zaf,Zac,Zaa]at h;obtain⟨d,hd,g,hg,he⟩:=h;obtain⟨d',ds,gd,af,tc⟩:=r;simp only[bare,RO.mk.injEq,and_true]at he;obtain⟨rfl,rfl,rfl,rfl⟩:=he;exact⟨hd,hg,rfl,rfl⟩
theorem CU{ops:Array Oper}{o:Oper}{r:RO}{st:RS}{a:Act}{w:World}{L:Loc}(hg:guardOf ops o=some r.guard)(h:dH κ nt st a w L){b:Bool}(hw:ef r.guard st.tmps=some b):
  Region.wanted o (yielded ops a.tmps)=b:=by
 unfold guardOf at hg;cases ho:o.guard with
 |none=>
  rw[ho]at hg;simp only[Zaa]at hg;rw[<-hg]at hw;simp only[ef,Zaa]at hw;simp[Region.wanted,ho,hw]
 |some jb=>
  obtain⟨j,want⟩:=jb;rw[ho]at hg;simp only[Zab]at hg;obtain⟨s,hs,yb⟩:=hg;rw[<-yb]at hw;simp only[ef]at hw;obtain⟨W,base,M,w0,_,h0⟩:=h.ex;have eI:=h0.tmps s;simp only[Region.wanted,ho,yielded,hs,Zb8];split at hw
  ·rename_i x hx;rw[hx]at eI;simp only[av,aR]at eI;simp only[Zaa]at hw;have:a.tmps[s]? =some (.bool x):=by
    rw[Zax]at eI;cases he:a.tmps[s]? with
    |none=>rw[he]at eI;simp[Go.undef]at eI
    |some y=>rw[he]at eI;simpa using eI
   rw[this,<-hw];simp
  ·rename_i hx;rw[hx]at eI;simp only[av]at eI;simp only[Zaa]at hw;subst hw;rw[Zax]at eI;cases he:a.tmps[s]? with
   |none=>simp
   |some y=>
    rw[he]at eI;simp only[Zbc]at eI;subst eI;simp[Go.undef]
  ·cases hw
theorem ij(aw:ay P Γ)(wq:κ.Good P){ops:Array Oper}{i:Nat}{o:Oper}{r:RO}(ho:ops[i]? =some o)(hr:cK P ops o=some (bare r))(JO:kf nt r=true){st:RS}{a:Act}{w:World}{L:Loc}(h:dH κ nt st a w L)
  (dx:st.objs (nm nxt r)=none) (aF:bT Γ nxt r st) {K:Act->World->Prop} {Q:Exit->Act->World->Prop} (hK:∀a' w' L',dH κ nt (cI Γ nxt r st) a' w' L'->K a' w'):
  wpOpIn (iK ro) n P ops Q i K a w:=by
 obtain⟨hd,hg,jQ,_⟩:=fj hr;have Eu:∀d,r.dst=some d->d<nt:=by
  intro d hd;simp only[kf,hd,Zam,decide_eq_true_eq]at JO;exact JO.2
 unfold wpOpIn;simp only[ho];unfold bT at aF;unfold cI at hK;cases hw:ef r.guard st.tmps with
 |none=>rw[hw]at aF;exact aF.elim
 |some b=>
  rw[hw]at aF hK;rw[CU hg h hw];cases b with
  |true=>
   simp only[if_true]at aF hK⊢;exact Mv aw wq hd jQ h Eu dx aF.1 hK
  |false=>
   simp only[ZaT,if_false];refine⟨mF o w _, ?_⟩;rw[<-jQ];exact hK _ _ _ (h.skip r.dst Eu)
theorem On(aw:ay P Γ)(wq:κ.Good P){ops:Array Oper}{o:Oper}{r:RO}(hr:cK P ops o=some (bare r))(JO:kf nt r=true){st:RS}(h:∃a w L,dH κ nt st a w L)(dx:st.objs (nm nxt r)=none)(aF:bT Γ nxt r st):
  ∃a w L,dH κ nt (cI Γ nxt r st) a w L:=by
 obtain⟨a,w,L,h⟩:=h;obtain⟨hd,hg,jQ,_⟩:=fj hr;have Eu:∀d,r.dst=some d->d<nt:=by
  intro d hd;simp only[kf,hd,Zam,decide_eq_true_eq]at JO;exact JO.2
 unfold bT at aF;unfold cI;cases hw:ef r.guard st.tmps with
 |none=>rw[hw]at aF;exact aF.elim
 |some b=>
  rw[hw]at aF;cases b with
  |true=>
   have:=Mv (ro:=none) (n:=0) (K:=λa' w'=>∃L',dH κ nt ⟨b7 st.tmps r.dst (post Γ nxt r st).val,(post Γ nxt r st).objs,(post Γ nxt r st).todo⟩ a' w' L') (Q:=λ_ _ _=>False) aw wq hd jQ h Eu dx aF.1 (λa' w' L' h'=>⟨L',h'⟩);obtain⟨a',w',L',h'⟩:=Xf this;exact⟨a',w',L',h'⟩
  |false=>exact⟨_,_,_,h.skip r.dst Eu⟩
theorem Ak{st:RS}(h:∃a w L,dH κ nt st a w L):Ah st:=by
 obtain⟨a,w,L,h⟩:=h;obtain⟨W,base,M,w0,_,h0⟩:=h.ex;exact λt=>dJ.bq _ _ (h0.tmps t)
def gj(nxt:Nat)(rs:List RO)(st:RS):Prop:=st.objs nxt=none/\∀r∈rs,st.objs (nm nxt r)=none
theorem CV(aw:ay P Γ){r:RO}{st:RS}(aF:bT Γ nxt r st){t:Nat}(ht:st.objs t=none)(hn:lays r.d=true->t≠nm nxt r):(cI Γ nxt r st).objs t=none:=by
 by_cases h4:oU r.d=true
 ·rw[qX h4 aF];unfold bT post at aF;unfold Cd;cases hw:ef r.guard st.tmps with
  |none=>rw[hw]at aF;exact aF.elim
  |some b=>
   cases b with
   |false=>exact ht
   |true=>
    rw[hw]at aF;simp only[h4,if_true]at aF⊢;have aF:=aF.1;cases hd:r.d<;>rw[hd]at h4 aF<;>first|(simp[oU]at h4;done)|skip
    case callS f args=>
     simp only[lU]at aF⊢;cases hg:Γ f with
     |none=>exact ht
     |some s=>
      simp only[hg]at aF⊢;cases hk:s.st with
      |none=>exact ht
      |some k=>
       simp only[hk]at aF⊢;exact((aw f s hg).st k hk _ _ aF).2 t ht
    case callv x args=>
     simp only[lU]at aF⊢;cases hx:x.ev st.tmps with
     |mu f caps=>
      rw[hx]at aF;cases f with
      |func g=>
       simp only at aF⊢;cases hg:Γ g with
       |none=>exact ht
       |some s=>
        simp only[hg]at aF⊢;cases hk:s.st with
        |none=>exact ht
        |some k=>
         simp only[hk]at aF⊢;exact((aw g s hg).st k hk _ _ aF).2 t ht
      |_=>exact ht
     |CF=>simp only;split<;>exact ht
     |v t=>
      cases t with
      |fn f caps=>
       rw[hx]at aF;cases f with
       |func g=>
        simp only at aF⊢;cases hg:Γ g with
        |none=>exact ht
        |some s=>
         simp only[hg]at aF⊢;cases hk:s.st with
         |none=>exact ht
         |some k=>
          simp only[hk]at aF⊢;exact((aw g s hg).st k hk _ _ aF).2 t ht
       |_=>exact ht
      |_=>exact ht
     |_=>exact ht
    case entryM x=>exact ht
 have h4:oU r.d=false:=by simpa using h4
 rw[step_eq h4 aF];cases hp:(vp Γ nxt r st).2 with
 |none=>exact ht
 |some p=>
  obtain⟨t1,o1⟩:=p;have e1:=zk (((Es (Γ:=Γ) (nxt:=nxt) r st).resolve_left (by simp[hp])).symm.trans hp);simp only[bR];rw[if_neg]
  ·exact ht
  ·rintro rfl;rcases e1 with⟨h1,h2⟩|⟨h1,_⟩
   ·exact hn h2 h1
   ·exact h1 ht
theorem jy(aw:ay P Γ){r:RO}{st:RS}(hl:eJ r=true)(aF:bT Γ nxt r st){rs:List RO}(bG:∀y∈rs,pY r y=true/\y.dst.isSome=true\/y.dst=none)(h:gj nxt rs st):gj nxt rs (cI Γ nxt r st):=by
 have key:∀t,st.objs t=none->(lays r.d=true->t≠nm nxt r)->(cI Γ nxt r st).objs t=none:=λt ht hn=>CV aw aF ht hn;have Al:lays r.d=true->∃d,r.dst=some d:=λhr=>Zbu.1 (by simpa [eJ,hr]using hl);refine⟨key _ h.1 λhr=>?_,λy hy=>key _ (h.2 y hy) λhr=>?_⟩
 ·obtain⟨d,hd⟩:=Al hr;simp[nm,nameOf,hd];omega
 ·obtain⟨d,hd⟩:=Al hr;rcases bG y hy with⟨h1,h2⟩|h2
  ·obtain⟨e,he⟩:=Zbu.1 h2;have:d≠e:=by simpa [pY,hd,he]using h1
   simp[nm,nameOf,hd,he];omega
  ·simp[nm,nameOf,hd,h2];omega
theorem ik{r:RO}{rs:List RO}(h:dM (r::rs)=true):∀y∈rs,pY r y=true/\y.dst.isSome=true\/y.dst=none:=by
 intro y hy;simp only[dM,Zam,ZaI]at h;cases hd:y.dst with
 |none=>exact .inr rfl
 |some d=>exact .inl ⟨h.1 y hy,rfl⟩
theorem ym(aw:ay P Γ)(wq:κ.Good P){ops:Array Oper}{Q:Exit->Act->World->Prop}:∀(l:List Nat) (rs:List RO),(∀(k:Nat) (i:Nat),l[k]? =some i->∃o r,ops[i]? =some o/\rs[k]? =some r/\cK P ops o=some (bare r))->rs.length=l.length->rs.all (kf nt)=true->dM rs=true->
  ∀(st:RS) (a:Act) (w:World) (L:Loc),dH κ nt st a w L->gj nxt rs st->iL Γ nxt rs st->(∀a' w' L',dH κ nt (cL Γ nxt rs st) a' w' L'->Q .normal a' w')->wpOpsIn (iK ro) n P ops Q l a w
 |[],rs,_,hl,_,_,st,a,w,L,h,_,_,hQ=>by
  have:rs=[]:=ZaD (by simpa using hl);subst this;exact hQ a w L h
 |i::l,[],_,hl,_,_,_,_,_,_,_,_,_,_=>by simp at hl
 |i::l,r::rs,hk,hl,dK,bG,st,a,w,L,h,hf,aF,hQ=>by
  obtain⟨o,r',ho,ff,hc⟩:=hk 0 i rfl;simp only[ZaG,Zaa]at ff;subst ff;simp only[ZcC,Zam]at dK;simp only[iL]at aF;have hlay:eJ r=true:=by have:=dK.1;simp only[kf,Zam]at this;exact this.1.2
  rw[wpOpsIn_cons];refine ij aw wq ho hc dK.1 h (hf.2 r (by simp)) aF.1 λa' w' L' h'=>?_;refine ym aw wq l rs (λk j hj=>hk (k+1) j (by simpa using hj)) (by simpa using hl) dK.2 (by simp only[dM,Zam]at bG;exact bG.2) _ a' w' L' h' ?_ aF.2 hQ;exact jy aw hlay aF.1 (ik bG) ⟨hf.1,λy hy=>hf.2 y (by simp[hy])⟩
theorem mJ{ops:Array Oper}{rs:List RO}(h:eK P ops=some (rs.map bare)):rs.length=ops.size/\∀(i:Nat) (o:Oper),ops[i]? =some o->∃r,rs[i]? =some r/\cK P ops o=some (bare r):=by
 unfold eK at h;have key:∀(l:List Oper) (rs:List RO),l.mapM (cK P ops)=some rs->rs.length=l.length/\∀(i:Nat) (o:Oper),l[i]? =some o->∃r,rs[i]? =some r/\cK P ops o=some r:=by
  intro l;induction l with
  |nil=>intro rs h;simp at h;subst h;simp
  |cons x l ih=>
   intro rs h;simp only[Za2,Zaj,Zaf,Zac,Zaa]at h;obtain⟨r,hr,rs',jI,rfl⟩:=h;have:=ih rs' jI;refine⟨by simp[this.1],λi o ho=>?_⟩;cases i with
   |zero=>simp only[ZaG,Zaa]at ho;subst ho;exact⟨r,rfl,hr⟩
   |succ i=>simpa using this.2 i o (by simpa using ho)
 have:=key _ _ h;refine⟨by simpa using this.1,λi o ho=>?_⟩;obtain⟨r,h1,h2⟩:=this.2 i o (by simpa using ho);simp only[Zbp,Zab]at h1;obtain⟨q,h1,rfl⟩:=h1;exact⟨q,h1,h2⟩
theorem Gx(aw:ay P Γ)(wq:κ.Good P){id:Nat}{ops:Array Oper}{rs:List RO}(hc:eK P ops=some (rs.map bare))(aF:da nt false rs=true){Q:Exit->Act->World->Prop}{st:RS}{a:Act}{w:World}{L:Loc}(h:dH κ nt st a w L)
  (hf:gj nxt rs st) (bz:iL Γ nxt rs st) (hQ:∀a' w' L',dH κ nt (cL Γ nxt rs st) a' w' L'->Q .normal a' w'):(Code.region id ops false).wpIn (iK ro) n P Q a w:=by
 have hg:=mJ hc;simp only[da,Zam]at aF;refine wpIn_region (ym aw wq (List.range ops.size) rs (λk i hi=>?_) (by simpa using hg.1) aF.1.1 aF.1.2 st a w L h hf bz hQ);obtain⟨hk,Oa⟩:=Zas.1 hi;simp only[ZcE]at hk;simp only[ZcB]at Oa;subst Oa;obtain⟨r,h1,h2⟩:=hg.2 k ops[k] (by simp[hk]);exact⟨ops[k],r,by simp[hk],h1,h2⟩
theorem Am(aw:ay P Γ)(wq:κ.Good P){ops:Array Oper}{r:RO}{post:List RO}(hr:kf nt r=true):∀(pre:List RO),(∀x∈pre,indep x r=true/\kf nt x=true/\∃o,cK P ops o=some (bare x))->dM (pre++r::post)=true->
  ∀(st:RS),(∃a w L,dH κ nt st a w L)->gj nxt (pre++r::post) st->iL Γ nxt (pre++r::post) st->
   bT Γ nxt r st/\iL Γ nxt (pre++post) (cI Γ nxt r st)/\cL Γ nxt (pre++post) (cI Γ nxt r st)=cL Γ nxt (pre++r::post) st
 |[],_,_,st,_,_,h=>⟨h.1,h.2,rfl⟩
 |x::pre,tK,bG,st,YS,Ai,h=>by
  simp only[ZaH,iL]at h;obtain⟨hi,hx,o,hc⟩:=tK x (by simp);have QJ:qW x=true/\eJ x=true:=by simp only[kf,Zam]at hx;exact hx.1
  have hcr:qW r=true/\eJ r=true:=by simp only[kf,Zam]at hr;exact hr.1
  have hreal':=On aw wq hc hx YS (Ai.2 x (by simp)) h.1;have hne':dM (pre++r::post)=true:=by simp only[ZaH,dM,Zam]at bG;exact bG.2
  have hfree':gj nxt (pre++r::post) (cI Γ nxt x st):=jy aw QJ.2 h.1 (ik bG) ⟨Ai.1,λy hy=>Ai.2 y (by simp only[ZaH,Zag];exact .inr hy)⟩;obtain⟨i1,i2,i3⟩:=Am aw wq hr pre (λy hy=>tK y (by simp[hy])) hne' _ hreal' hfree' h.2;obtain⟨s1,s2,s3⟩:=swap hi QJ.1 hcr.1 QJ.2 hcr.2 (Ak YS) (λ_=>Ai.2 x (by simp)) (λ_=>Ai.2 r (by simp)) h.1 i1;refine⟨s1,⟨s2,by rw[<-s3];exact i2⟩, ?_⟩;simp only[ZaH,cL];rw[<-s3];exact i3
def rem(n:Nat)(listed:Array Bool):List Nat:=(List.range n).filter λi=> !listed.getD i true
theorem nr{n:Nat}{listed:Array Bool}{i:Nat}:i∈rem n listed↔i<n/\listed.getD i true=false:=by
 simp[rem]
theorem range_split{n i:Nat}(h:i<n):List.range n=List.range i++i::List.range' (i+1) (n-i-1):=by
 have h1:n=i+(1+(n-i-1)):=by omega
 rw[Zcq,Zcq]
 conv=>lhs;rw[h1]
 rw[<-List.range'_append_1,ZaY,<-List.range'_append_1];simp
theorem Oo{n i:Nat}{listed:Array Bool}(hs:listed.size=n)(hi:i∈rem n listed):∃pre post,rem n listed=pre++i::post/\rem n (listed.setIfInBounds i true)=pre++post/\(∀x∈pre,x<i/\x∈rem n listed):=by
 obtain⟨h1,h2⟩:=nr.1 hi;have JV:∀j,j≠i->(listed.setIfInBounds i true).getD j true=listed.getD j true:=λj hj=>getD_set_ne true (Ne.symm hj);have hself:(listed.setIfInBounds i true).getD i true=true:=by
  rw[Zax,Zb2];simp[hs,h1]
 refine⟨(List.range i).filter (λj=> !listed.getD j true),(List.range' (i+1) (n-i-1)).filter (λj=> !listed.getD j true), ?_, ?_, ?_⟩
 ·unfold rem;rw[range_split h1,List.filter_append,Za8];simp[h2]
 ·unfold rem;rw[range_split h1,List.filter_append,Za8];simp only[hself,Zcj,ZaT,if_false]
  congr 1
  ·refine List.filter_congr λj hj=>?_;rw[JV j (by have:=ZaQ.1 hj;omega)]
  ·refine List.filter_congr λj hj=>?_;rw[JV j (by have:=Zbg.1 hj;omega)]
 ·intro x hx;simp only[ZaO,ZaQ,Zbl]at hx;exact⟨hx.1,nr.2 ⟨by omega,hx.2⟩⟩
theorem Xg{k:Nat}(h:(1:Nat).testBit k=true):k=0:=by
 cases k with
 |zero=>rfl
 |succ k=>simp[Nat.testBit_succ]at h
theorem An(acc:List Nat):∀(as:List Nat) (m x:Nat),(as.foldl (λm j=>m|||(1<<<j)|||acc.getD j 0) m).testBit x=true->m.testBit x=true\/x∈as\/∃j∈as,(acc.getD j 0).testBit x=true
 |[],m,x,h=>.inl h
 |j::as,m,x,h=>by
  simp only[ZaB]at h;rcases An acc as _ x h with h|h|⟨k,hk,h⟩
  ·simp only[Nat.testBit_or,ZbL,Nat.testBit_shiftLeft,Zam,decide_eq_true_eq,ge_iff_le]at h;rcases h with(h|⟨h1,h2⟩)|h
   ·exact .inl h
   ·have:=Xg h2;have:x=j:=by omega
    exact .inr (.inl (by simp[this]))
   ·exact .inr (.inr ⟨j,by simp,h⟩)
  ·exact .inr (.inl (by simp[h]))
  ·exact .inr (.inr ⟨k,by simp[hk],h⟩)
theorem Ao:∀(rs:List RO) (acc:List Nat),(rs.foldl (λacc r=>acc++[mI acc r.after]) acc).take acc.length=acc/\
  ∀(k:Nat) (r:RO),rs[k]? =some r->(rs.foldl (λacc r=>acc++[mI acc r.after]) acc)[acc.length+k]? =some (mI ((rs.foldl (λacc r=>acc++[mI acc r.after]) acc).take (acc.length+k)) r.after)
 |[],acc=>⟨by simp,by simp⟩
 |r::rs,acc=>by
  have ih:=Ao rs (acc++[mI acc r.after]);simp only[ZaB];generalize hm:rs.foldl (λacc r=>acc++[mI acc r.after]) (acc++[mI acc r.after])=ms at ih;simp only[ZaA,Zba,Zcc,ZaY]at ih;have h1:ms.take acc.length=acc:=by
   have:=congrArg (List.take acc.length) ih.1;rw[Zcw]at this;simpa [show min acc.length (acc.length+1)=acc.length by omega]using this
  refine⟨h1,λk q hq=>?_⟩;cases k with
  |zero=>
   simp only[ZaG,Zaa]at hq;subst hq;rw[ZbI,h1];have h2:(ms.take (acc.length+1))[acc.length]? =some (mI acc r.after):=by rw[ih.1];simp
   rw[ZaF]at h2;simpa using h2
  |succ k=>
   have:=ih.2 k q (by simpa using hq)
   rwa [show acc.length+1+k=acc.length+(k+1)by omega]at this
theorem Oq{rs:List RO}{i m x:Nat}{r:RO}(hr:rs[i]? =some r)(hm:(ln rs)[i]? =some m)(hx:m.testBit x=true)(cW:∀j∈r.after,j<i):x∈r.after\/∃j∈r.after,∃mj,(ln rs)[j]? =some mj/\mj.testBit x=true:=by
 have:=(Ao rs []).2 i r hr;simp only[Zcc,ZaY]at this;have Ec:(ln rs)[i]? =some (mI ((ln rs).take i) r.after):=this;rw[hm]at Ec;simp only[Zaa]at Ec;subst Ec;unfold mI at hx;rcases An _ _ _ _ hx with h|h|⟨j,hj,h⟩
 ·simp at h
 ·exact .inl h
 ·refine .inr ⟨j,hj, ?_⟩;have hji:=cW j hj;rw[List.getD,ZaF,if_pos hji]at h;cases hmj:(ln rs)[j]? with
  |none=>rw[hmj]at h;simp at h
  |some mj=>rw[hmj]at h;exact⟨mj,rfl,by simpa using h⟩
theorem uW{rs:List RO}{listed:Array Bool}(hp:∀(i:Nat) (y:RO),rs[i]? =some y->∀j∈y.after,j<i)(bd:∀(j:Nat) (y:RO),listed.getD j false=true->rs[j]? =some y->∀e∈y.after,listed.getD e false=true):
  ∀(i:Nat) (y:RO) (m x:Nat),rs[i]? =some y->(ln rs)[i]? =some m->m.testBit x=true->(∀e∈y.after,listed.getD e false=true)->listed.getD x false=true:=by
 intro i;induction i using Nat.strongRecOn with
 |_ i ih=>
  intro y m x hy hm hx hd;rcases Oq hy hm hx (hp i y hy)with h|⟨j,hj,mj,hmj,hxj⟩
  ·exact hd x h
  ·have hji:=hp i y hy j hj;have hlen:j<rs.length:=by
    have:=(Zas.1 hy).1;omega
   have hyj:rs[j]? =some rs[j]:=by simp[hlen]
   exact ih j hji rs[j] mj x hyj hmj hxj (bd j _ (hd j hj) hyj)
theorem Ap{rs:List RO}(h:se rs (ln rs)=true):(∀(i:Nat) (y:RO),rs[i]? =some y->∀j∈y.after,j<i)/\
  ∀(i x:Nat) (y r:RO),rs[i]? =some y->x<i->rs[x]? =some r->indep r y=true\/∃m,(ln rs)[i]? =some m/\m.testBit x=true:=by
 unfold se at h;rw[ZaI]at h;have key:∀(i:Nat) (y:RO),rs[i]? =some y->∃m,(ln rs)[i]? =some m/\(∀j∈y.after,j<i)/\∀x,x<i->m.testBit x=true\/∃r,rs[x]? =some r/\indep r y=true:=by
  intro i y hy;have:=h i (ZaQ.2 (Zas.1 hy).1);rw[hy]at this;cases hm:(ln rs)[i]? with
  |none=>rw[hm]at this;simp at this
  |some m=>
   rw[hm]at this;simp only[Zam,ZaI,decide_eq_true_eq,ZaQ,ZbL]at this;refine⟨m,rfl,this.1,λx hx=>?_⟩;rcases this.2 x hx with h1|h1
   ·exact .inl h1
   ·cases hr:rs[x]? with
    |none=>rw[hr]at h1;simp at h1
    |some r=>rw[hr]at h1;exact .inr ⟨r,rfl,h1⟩
 refine⟨λi y hy=>(key i y hy).choose_spec.2.1,λi x y r hy hx hr=>?_⟩;obtain⟨m,hm,_,h2⟩:=key i y hy;rcases h2 x hx with h3|⟨r',ff,h3⟩
 ·exact .inr ⟨m,hm,h3⟩
 ·rw[hr]at ff;cases ff;exact .inl h3
theorem My(aw:ay P Γ)(wq:κ.Good P){ops:Array Oper}{Q:Exit->Act->World->Prop}{g:Nat->RO}(hg:∀(i:Nat) (o:Oper),ops[i]? =some o->cK P ops o=some (bare (g i)))
  (jS:∀i,i<ops.size->kf nt (g i)=true) (bG:∀l:List Nat,l.Nodup->(∀i∈l,i<ops.size)->dM (l.map g)=true)
  (hind:∀(listed:Array Bool) (i x:Nat),i<ops.size->x<i->listed.getD x true=false->(∀(j:Nat),j<ops.size->listed.getD j false=true->∀e∈(g j).after,listed.getD e false=true)->(∀e∈(g i).after,listed.getD e false=true)->indep (g x) (g i)=true)
  (cW:∀i,i<ops.size->∀j∈(g i).after,j<i):
  ∀(fuel:Nat) (listed:Array Bool),listed.size=ops.size->(rem ops.size listed).length=fuel->(∀(j:Nat),j<ops.size->listed.getD j false=true->∀e∈(g j).after,listed.getD e false=true)->
   ∀(st:RS) (a:Act) (w:World) (L:Loc),dH κ nt st a w L->gj nxt ((rem ops.size listed).map g) st->iL Γ nxt ((rem ops.size listed).map g) st->
    (∀a' w' L',dH κ nt (cL Γ nxt ((rem ops.size listed).map g) st) a' w' L'->Q .normal a' w')->wpAnyIn (iK ro) n P .any ops Q fuel listed a w:=by
 have jT:∀(i:Nat) (o:Oper),ops[i]? =some o->∀(listed:Array Bool),(∀e∈o.after,Region.binds .any e=true->listed.getD e.on false=true)↔∀e∈(g i).after,listed.getD e false=true:=by
  intro i o ho listed;have:=(fj (hg i o ho)).2.2.2;rw[this];constructor
  ·intro h e he;simp only[Zal,ZaO]at he;obtain⟨x,⟨hx,hb⟩,rfl⟩:=he;exact h x (by simpa using hx) hb
  ·intro h e he hb;exact h e.on (Zal.2 ⟨e,ZaO.2 ⟨by simpa using he,hb⟩,rfl⟩)
 intro fuel;induction fuel with
 |zero=>
  intro listed hs hfu bd st a w L h hf aF hQ;have Gy:rem ops.size listed=[]:=ZaD hfu;refine⟨?_, ?_⟩
  ·cases hr:Region.ready .any ops listed with
   |nil=>rfl
   |cons j js=>
    exfalso;have hj:j∈Region.ready .any ops listed:=by rw[hr];simp
    obtain⟨h0,o,ho,_⟩:=mem_ready.1 hj;have:j∈rem ops.size listed:=nr.2 ⟨(Zai.1 ho).1,h0⟩;rw[Gy]at this;cases this
  ·rw[Gy]at hQ;exact hQ a w L h
 |succ fuel ih=>
  intro listed hs hfu bd st a w L h hf aF hQ;refine⟨λhr=>?_,λi hi=>?_⟩
  ·exfalso;have Ev:∃i,i∈rem ops.size listed/\∀x<i,x∉rem ops.size listed:=by
    have hex:∃i,i∈rem ops.size listed:=by
     cases hl:rem ops.size listed with
     |nil=>rw[hl]at hfu;cases hfu
     |cons i l=>exact⟨i,by simp⟩
    obtain⟨i,hi⟩:=hex;induction i using Nat.strongRecOn with
    |_ i Ot=>
     by_cases hx:∃x,x<i/\x∈rem ops.size listed
     ·obtain⟨x,FZ,sR⟩:=hx;exact Ot x FZ sR
     ·exact⟨i,hi,λx FZ sR=>hx ⟨x,FZ,sR⟩⟩
   obtain⟨i,hi,Ev⟩:=Ev;obtain⟨h1,h2⟩:=nr.1 hi;have:i∈Region.ready .any ops listed:=mem_ready.2 ⟨h2,ops[i],by simp[h1],by
    rw[jT i ops[i] (by simp[h1])];intro e he;have hei:=cW i h1 e he;have hn:=Ev e hei;rw[nr]at hn;have he2:e<listed.size:=by omega
    rw[Zax]at hn⊢;simp only[he2,Zbs,Zbc]at hn⊢;cases hb:listed[e]
    ·exact absurd ⟨by omega,hb⟩ hn
    ·rfl⟩
   rw[hr]at this;cases this
  ·obtain⟨h0,o,ho,dK⟩:=mem_ready.1 hi;have QL:i<ops.size:=(Zai.1 ho).1;have YT:=(jT i o ho listed).1 dK;obtain⟨pre,post,e1,e2,tK⟩:=Oo hs (nr.2 ⟨QL,h0⟩);rw[e1,ZaP,Zau]at aF hQ hf;have y7:(pre++i::post).Nodup:=by
    rw[<-e1];exact List.Pairwise.filter _ List.nodup_range
   have PY:∀x∈pre++i::post,x<ops.size:=by
    intro x hx;rw[<-e1]at hx;exact(nr.1 hx).1
   have hne1:dM (pre.map g++g i::post.map g)=true:=by
    have:=bG _ y7 PY;simpa using this
   have mv:=Am (κ:=κ) aw wq (ops:=ops) (jS i QL) (pre.map g) (λx hx=>by
    obtain⟨y,hy,rfl⟩:=Zal.1 hx;have fl:=tK y hy;have hyb:=(nr.1 fl.2);refine⟨hind listed i y QL fl.1 hyb.2 bd YT,jS y hyb.1,ops[y],hg y _ (by simp[hyb.1])⟩) hne1 st ⟨a,w,L,h⟩ hf aF
   have hgi:=hg i o ho;refine ij aw wq ho hgi (jS i QL) h (hf.2 (g i) (by simp)) mv.1 λa' w' L' h'=>?_;refine ih (listed.setIfInBounds i true) (by simpa using hs) ?_ ?_ _ a' w' L' h' ?_ ?_ ?_
   ·rw[e2];rw[e1]at hfu;simp only[ZaA,Zba]at hfu⊢;omega
   ·intro j hj Mz e he;by_cases hji:j=i
    ·subst hji;exact getD_set_true (YT e he)
    ·rw[getD_set_ne false (Ne.symm hji)]at Mz;exact getD_set_true (bd j hj Mz e he)
   ·rw[e2,ZaP];have hlay:eJ (g i)=true:=by have:=jS i QL;simp only[kf,Zam]at this;exact this.1.2
    refine jy aw hlay mv.1 (λy hy=>?_) ⟨hf.1,λy hy=>hf.2 y ?_⟩
    ·have hnd2:(i::(pre++post)).Nodup:=(List.perm_middle.nodup_iff).1 y7;have:=bG _ hnd2 (λx hx=>PY x (by simp only[Zag,Zao]at hx⊢;rcases hx with h|h|h<;>simp[h]))
     rw[Zau,ZaP]at this;exact ik this y hy
    ·simp only[Zao,Zag]at hy⊢;rcases hy with h|h
     ·exact .inl h
     ·exact .inr (.inr h)
   ·rw[e2,ZaP];exact mv.2.1
   ·rw[e2,ZaP,mv.2.2];exact hQ
theorem nM:∀{rs:List RO},dM rs=true->∀(i j:Nat) (x y:RO),i≠j->rs[i]? =some x->rs[j]? =some y->pY x y=true
 |[],_,_,_,_,_,_,h,_=>by simp at h
 |r::rs,hd,i,j,x,y,Wx,hx,hy=>by
  simp only[dM,Zam,ZaI]at hd;cases i with
  |zero=>
   simp only[ZaG,Zaa]at hx;subst hx;cases j with
   |zero=>exact absurd rfl Wx
   |succ j=>exact hd.1 y (Zaq (by simpa using hy))
  |succ i=>
   cases j with
   |zero=>
    simp only[ZaG,Zaa]at hy;subst hy;exact Aj (hd.1 x (Zaq (by simpa using hx)))
   |succ j=>exact nM hd.2 i j x y (by omega) (by simpa using hx) (by simpa using hy)
theorem Gz(aw:ay P Γ)(wq:κ.Good P){id:Nat}{ops:Array Oper}{rs:List RO}(hm:P.follows .mixedOrders=true)(hc:eK P ops=some (rs.map bare))(aF:da nt true rs=true){Q:Exit->Act->World->Prop}{st:RS}{a:Act}{w:World}{L:Loc}(h:dH κ nt st a w L)
  (hf:gj nxt rs st) (bz:iL Γ nxt rs st) (hQ:∀a' w' L',dH κ nt (cL Γ nxt rs st) a' w' L'->Q .normal a' w'):(Code.region id ops true).wpIn (iK ro) n P Q a w:=by
 obtain⟨hlen,pj⟩:=mJ hc;simp only[da,Zam,Zcj,Bool.false_or]at aF;obtain⟨⟨dK,Eu⟩,hp⟩:=aF;obtain⟨cW,QM⟩:=Ap hp
 let g:Nat->RO:=λi=>(rs[i]?).getD ⟨.bP (.cq .undef),none,none,[],none⟩
 have gg:∀i,i<ops.size->rs[i]? =some (g i):=λi hi=>by
  have:i<rs.length:=by omega
  simp[g,this]
 have YU:∀(i:Nat) (o:Oper),ops[i]? =some o->cK P ops o=some (bare (g i)):=λi o ho=>by
  obtain⟨r,h1,h2⟩:=pj i o ho;have:g i=r:=by simp[g,h1]
  rw[this];exact h2
 have jI:rs=(List.range ops.size).map g:=by
  apply Zbk;intro i;by_cases hi:i<ops.size
  ·rw[gg i hi];simp[hi]
  ·rw[ZaS (by omega),ZaS (by simp;omega)]
 have MA:rem ops.size (Array.replicate ops.size false)=List.range ops.size:=by
  unfold rem;rw[List.filter_eq_self.2];intro i hi;have:=ZaQ.1 hi;simp[Zax,this]
 have hh:dH κ nt st a {w with drawn:=w.drawn+1} L:=by
  have hb:tE w.heap.size w {w with drawn:=w.drawn+1}:=⟨⟨rfl,rfl,rfl,Zae _,λ_ _=>rfl⟩,ZcP _⟩;obtain⟨W,base,M,w0,dI,h0⟩:=h.ex;obtain⟨hO,hA⟩:=bK.grow h0.o hb;obtain⟨Ds,h1,h2,h3,h4⟩:=h.defers;exact⟨⟨W,base,M,w0,dI,h0.size,λt=>av.ee hA _ _ (h0.tmps t),hO⟩,h.ee.comp hA dI.sub.1 dI.sub.2,⟨Ds,h1,h2,λD hD=>⟨hA.keeps.NZ D (h3 D hD).1,(h3 D hD).2⟩,h4⟩,h.bg,h.fin⟩
 refine wpIn_region_any hm (My aw wq (g:=g) YU (λi hi=>ZaI.1 dK _ (Zaq (gg i hi))) (λl hl hb=>?_) (λlisted i x hi hx sc bd hd=>?_) (λi hi=>cW i (g i) (gg i hi)) ops.size _ (by simp) (by rw[MA];simp) (λj hj Mz=>?_) st a _ L hh
  (by rw[MA,<-jI];exact hf) (by rw[MA,<-jI];exact bz) (by rw[MA,<-jI];exact hQ))
 ·clear bz hQ hf;induction l with
  |nil=>rfl
  |cons i l ih=>
   simp only[Zau,dM,Zam,ZaI];rw[ZbM]at hl;refine⟨λy hy=>?_,ih hl.2 λj hj=>hb j (by simp[hj])⟩;obtain⟨j,hj,rfl⟩:=Zal.1 hy;exact nM Eu i j _ _ (by rintro rfl;exact hl.1 hj) (gg i (hb i (by simp))) (gg j (hb j (by simp[hj])))
 ·rcases QM i x (g i) (g x) (gg i hi) hx (gg x (by omega))with h1|⟨m,wu,Ed⟩
  ·exact h1
  ·exfalso;have:=uW (rs:=rs) (listed:=listed) cW (λj y hj hy=>by
    have hjn:j<ops.size:=by have:=(Zas.1 hy).1;omega
    have:y=g j:=by rw[gg j hjn]at hy;exact(ZbK hy).symm
    rw[this];exact bd j hjn hj) i (g i) m x (gg i hi) wu Ed hd
   rw[Zax]at this sc;cases sR:listed[x]? with
   |none=>rw[sR]at this;simp at this
   |some b=>rw[sR]at this sc;simp at this sc;rw[this]at sc;cases sc
 ·rw[Zax]at Mz;simp[hj]at Mz
end
end Go.DM
namespace Go.DM
open Go.RowKit
variable [Laid]
inductive DC where
 |skip
 |region (draw:Bool) (rs:List RO)
 |jU (rs:List RO)
 |seq (a b:DC)
 |cond (c:bp) (a b:DC)
 |block (id:Nat) (c:DC)
 |loop (c:DC)
 |exit (id:Nat)
 |ret
 |wT (g:bp) (ps:List Nat) (a b:DC)
 |MB (x:bp) (d1 d2:Nat)
 |other
def QN(ops:Array Oper):Option (bp×Nat×Nat):=
 match ops.toList with
 |[a,b]=>match a.op,b.op,a.dst,b.dst,a.guard,b.guard with
  |.next x false,.extract (.tmp t) 0,some d1,some d2,none,none=>if t=d1 then(bp.of x).map λy=>(y,d1,d2)else none
  |_,_,_,_,_,_=>none
 |_=>none
def bB(P:Program)(nt:Nat):Code->DC
 |.skip=>.skip
 |.region _ ops draw=>match eK P ops with
  |some rs=>if da nt draw rs then .region draw rs else if draw&&da nt false rs then .jU rs else .other
  |none=>if draw then .other else match QN ops with
   |some q=>if q.2.1<nt/\q.2.2<nt then .MB q.1 q.2.1 q.2.2 else .other
   |none=>.other
 |.seq a b=>.seq (bB P nt a) (bB P nt b)
 |.cond c a b=>match bp.of c with
  |some x=>.cond x (bB P nt a) (bB P nt b)
  |none=>.other
 |.block id c=>.block id (bB P nt c)
 |.loop c=>.loop (bB P nt c)
 |.exit id=>.exit id
 |.ret=>.ret
 |.rangeFunc g ps a b=>match bp.of g with
  |some x=>if ps.toList.all (·<nt)then .wT x ps.toList (bB P nt a) (bB P nt b)else .other
  |none=>.other
 |_=>.other
section
variable{P:Program}{nt:Nat}{c:Code}
theorem QO(h:bB P nt c=.skip):c=.skip:=by
 cases c<;>simp only[bB]at h<;>first|rfl|cases h|(repeat' split at h)<;>cases h
theorem Xh(h:bB P nt c=.ret):c=.ret:=by
 cases c<;>simp only[bB]at h<;>first|rfl|cases h|(repeat' split at h)<;>cases h
theorem JW{x:bp}{ps:List Nat}{a b:DC}(h:bB P nt c=.wT x ps a b):∃g qs y z,c=.rangeFunc g qs y z/\bp.of g=some x/\qs.toList=ps/\(∀p∈ps,p<nt)/\bB P nt y=a/\bB P nt z=b:=by
 cases c<;>simp only[bB]at h<;>first|(cases h;done)|skip
 ·(repeat' split at h)<;>cases h
 ·split at h<;>cases h
 ·split at h
  ·rename_i hx;split at h
   ·rename_i hp;cases h;exact⟨_,_,_,_,rfl,hx,rfl,λp hp'=>by have:=ZaI.1 hp p hp';simpa using this,rfl,rfl⟩
   ·cases h
  ·cases h
theorem QP{id:Nat}(h:bB P nt c=.exit id):c=.exit id:=by
 cases c<;>simp only[bB]at h<;>first|(cases h;rfl)|cases h|(repeat' split at h)<;>cases h
theorem Xi{a b:DC}(h:bB P nt c=.seq a b):∃x y,c=.seq x y/\bB P nt x=a/\bB P nt y=b:=by
 cases c<;>simp only[bB]at h<;>first|(cases h;exact⟨_,_,rfl,rfl,rfl⟩)|cases h|(repeat' split at h)<;>cases h
theorem QQ{x:bp}{a b:DC}(h:bB P nt c=.cond x a b):∃x' y z,c=.cond x' y z/\bp.of x'=some x/\bB P nt y=a/\bB P nt z=b:=by
 cases c<;>simp only[bB]at h<;>first|(cases h;done)|skip
 ·(repeat' split at h)<;>cases h
 ·split at h
  ·rename_i hx;cases h;exact⟨_,_,_,rfl,hx,rfl,rfl⟩
  ·cases h
 ·(repeat' split at h)<;>cases h
theorem Ou{id:Nat}{a:DC}(h:bB P nt c=.block id a):∃x,c=.block id x/\bB P nt x=a:=by
 cases c<;>simp only[bB]at h<;>first|(cases h;exact⟨_,rfl,rfl⟩)|cases h|(repeat' split at h)<;>cases h
theorem QR{a:DC}(h:bB P nt c=.loop a):∃x,c=.loop x/\bB P nt x=a:=by
 cases c<;>simp only[bB]at h<;>first|(cases h;exact⟨_,rfl,rfl⟩)|cases h|(repeat' split at h)<;>cases h
theorem pk{draw:Bool}{rs:List RO}(h:bB P nt c=.region draw rs):∃id ops,c=.region id ops draw/\eK P ops=some rs/\da nt draw rs=true:=by
 cases c<;>simp only[bB]at h<;>first|(cases h;done)|skip
 case region id ops dr=>
  split at h
  ·rename_i jI;split at h
   ·rename_i aF;cases h;exact⟨_,_,rfl,jI,aF⟩
   ·split at h<;>cases h
  ·(repeat' split at h)<;>cases h
 case cond=>split at h<;>cases h
 case rangeFunc=>(repeat' split at h)<;>cases h
theorem GA{rs:List RO}(h:bB P nt c=.jU rs):∃id ops,c=.region id ops true/\eK P ops=some rs:=by
 cases c<;>simp only[bB]at h<;>first|(cases h;done)|skip
 case region id ops dr=>
  split at h
  ·rename_i jI;split at h
   ·cases h
   ·split at h
    ·rename_i hd;cases h;simp only[Zam]at hd;exact⟨_,_,by rw[hd.1],jI⟩
    ·cases h
  ·(repeat' split at h)<;>cases h
 case cond=>split at h<;>cases h
 case rangeFunc=>(repeat' split at h)<;>cases h
end
theorem Ov{P:Program}{nt:Nat}{c:Code}{x:bp}{d1 d2:Nat}(h:bB P nt c=.MB x d1 d2):∃id o1 o2 y,c=.region id #[o1,o2] false/\o1.op=.next y false/\bp.of y=some x/\o1.dst=some d1/\o1.guard=none/\o2.op=.extract (.tmp d1) 0/\o2.dst=some d2/\o2.guard=none/\d1<nt/\d2<nt:=by
 cases c<;>simp only[bB]at h<;>first|(cases h;done)|skip
 case region id ops dr=>
  split at h
  ·split at h
   ·cases h
   ·split at h<;>cases h
  ·split at h
   ·cases h
   ·rename_i JD;have JD:dr=false:=by simpa using JD
    subst JD;split at h
    ·rename_i q hq;split at h
     ·rename_i cW;cases h;unfold QN at hq;split at hq
      ·rename_i o1 o2 hops;split at hq
       ·rename_i y t e1 e2 h1 h2 h3 h4 h5 h6;split at hq
        ·rename_i hte;subst hte;simp only[Zab]at hq;obtain⟨z,hz,rfl⟩:=hq;exact⟨id,o1,o2,y,by rw[show ops= #[o1,o2]by rw[<-Array.toArray_toList (xs:=ops),hops]],h1,hz,h3,h5,h2,h4,h6,cW.1,cW.2⟩
        ·cases hq
       ·cases hq
      ·cases hq
     ·cases h
    ·cases h
 case cond=>split at h<;>cases h
 case rangeFunc=>(repeat' split at h)<;>cases h
theorem Cm{P:Program}{o:Oper}{d:nH}(h:cE P o=some d):yi d=d:=by
 cases d<;>first|rfl|skip
 case mkSliceB=>exact(no_mkB h).elim
 case callS=>
  obtain⟨c,_,hc⟩:=ep h (.inr (.inl ⟨_,_,rfl⟩));exfalso;unfold c8 at hc;repeat' split at hc
  all_goals first
   |(cases hc;done)
   |(simp only[Zab,Zaj,Zaf,Zac,Zaa,reduceCtorEq,and_false,exists_false]at hc;done)
 case callF=>
  obtain⟨c,_,hc⟩:=ep h (.inr (.inr (.inr (.inl ⟨_,_,rfl⟩))));exfalso;unfold c8 at hc;repeat' split at hc
  all_goals first
   |(cases hc;done)
   |(simp only[Zab,Zaj,Zaf,Zac,Zaa,reduceCtorEq,and_false,exists_false]at hc;done)
 case callR=>
  obtain⟨c,_,hc⟩:=ep h (.inr (.inr (.inr (.inr ⟨_,_,rfl⟩))));exfalso;unfold c8 at hc;repeat' split at hc
  all_goals first
   |(cases hc;done)
   |(simp only[Zab,Zaj,Zaf,Zac,Zaa,reduceCtorEq,and_false,exists_false]at hc;done)
theorem Aq{P:Program}{ops:Array Oper}{o:Oper}{r:RO}(h:cK P ops o=some r):bare r=r:=by
 simp only[cK,Zaj,Zaf,Zac,Zaa]at h;obtain⟨d,hd,g,hg,rfl⟩:=h;simp only[bare,Cm hd]
theorem pZ{P:Program}{ops:Array Oper}{rs:List RO}(h:eK P ops=some rs):rs.map bare=rs:=by
 unfold eK at h;have key:∀(l:List Oper) (rs:List RO),l.mapM (cK P ops)=some rs->rs.map bare=rs:=by
  intro l;induction l with
  |nil=>intro rs h;simp at h;subst h;rfl
  |cons o l ih=>
   intro rs h;simp only[Za2,Zaj,Zaf,Zac,Zaa]at h;obtain⟨r,hr,rs',jI,rfl⟩:=h;simp only[Zau,Aq hr,ih rs' jI]
 exact key _ _ h
def fm:List RO->List (Option (List Nat))->List RO
 |r::rs,t::ts=>⟨r.d,r.dst,r.guard,r.after,t⟩::fm rs ts
 |rs,_=>rs
structure Rel(κ:Ctx)(nt:Nat)(st:kW)(a:Act)(w:World)(L:Loc):Prop where
 r:dH κ nt ⟨st.tmps,st.objs,st.todo⟩ a w L
 fresh:∀r,st.nxt<=r->st.objs r=none
 low:∀r,st.low<=r->κ.go r=none
 it:κ.J.isSome=true->st.low=0
def Sat(P:Program)(nt:Nat)(c:Code)(Q:Exit->kW->Prop)(st:kW):Prop:=
 ∀(n:Nat) (κ:Ctx) (a:Act) (w:World) (L:Loc),κ.Good P->Rel κ nt st a w L->
  c.wpIn (iK κ.ro) n P (λe a' w'=>∃df L',Q e df/\Rel κ nt df a' w' L') a w
structure aa(P:Program)(nt:Nat)(d:DC)(Q:Exit->kW->Prop)(st:kW):Prop where
 run:∀c,bB P nt c=d->Sat P nt c Q st
def Le(st df:kW):Prop:=∀(κ:Ctx) (nt:Nat) (a:Act) (w:World) (L:Loc),Rel κ nt st a w L->∃L',Rel κ nt df a w L'
theorem Le.trans{a b c:kW}(h:Le a b)(k:Le b c):Le a c:=λ_ _ _ _ L r=>let⟨_,r'⟩:=h _ _ _ _ L r;k _ _ _ _ _ r'
section
variable{P:Program}{nt:Nat}{Γ:Env}{Q:Exit->kW->Prop}{st:kW}
theorem Sat.le{c:Code}{df:kW}(h:Le st df)(k:Sat P nt c Q df):Sat P nt c Q st:=λn κ a w L g r=>let⟨L',r'⟩:=h _ _ _ _ L r;k n κ a w L' g r'
theorem aa.le{d:DC}{df:kW}(h:Le st df)(k:aa P nt d Q df):aa P nt d Q st:=⟨λc hc=>Sat.le h (k.run c hc)⟩
theorem aa.uX{d:DC}{Q':Exit->kW->Prop}(h:aa P nt d Q st)(hq:∀e st,Q e st->∃st2,Le st st2/\Q' e st2):aa P nt d Q' st:=
 ⟨λc hc n κ a w L g r=>wpIn_mono (h.run c hc n κ a w L g r) λ_ _ _ ⟨_,L',q,r'⟩=>let⟨st2,hl,q2⟩:=hq _ _ q;let⟨L2,r2⟩:=hl _ _ _ _ L' r';⟨st2,L2,q2,r2⟩⟩
theorem aa.skip(h:Q .normal st):aa P nt .skip Q st:=by
 refine⟨λc hc=>?_⟩;obtain rfl:=QO hc;exact λn κ a w L g r=>wpIn_skip ⟨st,L,h,r⟩
theorem aa.exit{id:Nat}(h:Q (.exit id) st):aa P nt (.exit id) Q st:=by
 refine⟨λc hc=>?_⟩;obtain rfl:=QP hc;exact λn κ a w L g r=>wpIn_exit ⟨st,L,h,r⟩
theorem aa.ret(h:Q .ret st):aa P nt .ret Q st:=by
 refine⟨λc hc=>?_⟩;obtain rfl:=Xh hc;exact λn κ a w L g r=>wpIn_ret ⟨st,L,h,r⟩
def Ar(k:kW->Prop)(Q:Exit->kW->Prop):Exit->kW->Prop
 |.normal,st=>k st
 |e,st=>Q e st
theorem aa.seq{a b:DC}(h:aa P nt a (Ar (aa P nt b Q) Q) st):aa P nt (.seq a b) Q st:=by
 refine⟨λc hc=>?_⟩;obtain⟨a',b',rfl,ha,hb⟩:=Xi hc;intro n κ act w L g r;refine wpIn_seq (wpIn_mono (h.run _ ha n κ act w L g r) ?_);rintro e a' w' ⟨df,L',q,r'⟩;cases e with
 |normal=>exact q.run _ hb n κ a' w' L' g r'
 |_=>exact⟨df,L',q,r'⟩
theorem aa.cond{x:bp}{a b:DC}{t:Bool}(hx:x.ev st.tmps=.v (.bool t))(ht:t=true->aa P nt a Q st)(hf:t=false->aa P nt b Q st):aa P nt (.cond x a b) Q st:=by
 refine⟨λc hc=>?_⟩;obtain⟨x',a',b',rfl,fZ,ha,hb⟩:=QQ hc;intro n κ act w L g r;obtain⟨W,base,M,w0,dI,h0⟩:=r.r.ex;have:=bp.bq h0.o.gl h0.tmps fZ;rw[hx]at this;simp only[av,aR]at this;cases t with
 |true=>exact wpIn_cond_true this ((ht rfl).run _ ha n κ act w L g r)
 |false=>exact wpIn_cond_false this ((hf rfl).run _ hb n κ act w L g r)
def tN(id:Nat)(Q:Exit->kW->Prop):Exit->kW->Prop
 |.exit id',st=>if id'=id then Q .normal st else Q (.exit id') st
 |e,st=>Q e st
theorem aa.block{id:Nat}{a:DC}(h:aa P nt a (tN id Q) st):aa P nt (.block id a) Q st:=by
 refine⟨λc hc=>?_⟩;obtain⟨a',rfl,ha⟩:=Ou hc;intro n κ act w L g r;refine wpIn_block (wpIn_mono (h.run _ ha n κ act w L g r) ?_);rintro e a' w' ⟨df,L',q,r'⟩;cases e with
 |exit id'=>
  simp only[tN]at q;simp only[Exit.inBlock];split at q
  ·rename_i h;rw[if_pos h];exact⟨df,L',q,r'⟩
  ·rename_i h;rw[if_neg h];exact⟨df,L',q,r'⟩
 |_=>exact⟨df,L',q,r'⟩
theorem aa.loop{α:Type}{body:DC}(R:α->kW)(I:α->Prop)(μ:α->Nat)(x:α)(h0:Le st (R x))(hI:I x)
  (round:∀y,I y->aa P nt body (Ar (λdf=>∃z,Le df (R z)/\I z/\μ z<μ y) Q) (R y)):aa P nt (.loop body) Q st:=by
 refine⟨λc hc=>?_⟩;obtain⟨a',rfl,ha'⟩:=QR hc;intro n κ act w L g r;obtain⟨L0,r0⟩:=h0 _ _ _ _ L r;refine wpIn_loop_ghost (λk a w=>∃y L,μ y=k/\I y/\Rel κ nt (R y) a w L) (μ x) ⟨x,L0,rfl,hI,r0⟩ ?_;rintro k a w ⟨y,L,rfl,hy,hr⟩;refine wpIn_mono ((round y hy).run _ ha' n κ a w L g hr) ?_;rintro e a' w' ⟨df,L',q,r'⟩;cases e with
 |normal=>
  obtain⟨z,hle,hz,cW⟩:=q;obtain⟨L2,r2⟩:=hle _ _ _ _ L' r';exact⟨μ z,cW,z,L2,rfl,hz,r2⟩
 |_=>exact⟨df,L',q,r'⟩
theorem qY(aw:ay P Γ){nxt:Nat}:∀(rs:List RO),rs.all (kf nt)=true->∀(st:RS),iL Γ nxt rs st->∀t,nxt+nt+1<=t->st.objs t=none->(cL Γ nxt rs st).objs t=none
 |[],_,st,_,t,_,h=>h
 |r::rs,dK,st,aF,t,ht,h=>by
  simp only[ZcC,Zam]at dK;simp only[iL]at aF;refine qY aw rs dK.2 _ aF.2 t ht (CV aw aF.1 h λhl e=>?_);have hr:=dK.1;simp only[kf,Zam]at hr;have hs:r.dst.isSome=true:=by simpa [eJ,hl]using hr.1.2
  obtain⟨d,hd⟩:=Zbu.1 hs;have cW:d<nt:=by have:=hr.2;rw[hd]at this;simpa using this
  simp only[nm,nameOf,hd]at e;omega
theorem pn(aw:ay P Γ)(hm:P.follows .mixedOrders=true){id:Nat}{ops:Array Oper}{draw:Bool}{rs:List RO}(jI:eK P ops=some (rs.map bare))(aF:da nt draw rs=true)
  (bz:iL Γ st.nxt rs ⟨st.tmps,st.objs,st.todo⟩) (hQ:Q .normal ⟨(cL Γ st.nxt rs ⟨st.tmps,st.objs,st.todo⟩).tmps,(cL Γ st.nxt rs ⟨st.tmps,st.objs,st.todo⟩).objs,st.nxt+nt+1,st.low,(cL Γ st.nxt rs ⟨st.tmps,st.objs,st.todo⟩).todo⟩):
  Sat P nt (.region id ops draw) Q st:=by
 intro n κ act w L g r;have dx:∀x∈rs,∃k,nm st.nxt x=st.nxt+k:=λx _=>by
  unfold nm nameOf;cases x.dst with
  |none=>exact⟨0,rfl⟩
  |some d=>exact⟨d+1,by simp only[Nat.add_assoc]⟩
 have hf:gj st.nxt rs ⟨st.tmps,st.objs,st.todo⟩:=⟨r.fresh _ (Zae _),λx hx=>by
  obtain⟨k,hk⟩:=dx x hx;rw[hk];exact r.fresh _ (by omega)⟩
 have fin:∀a' w' L',dH κ nt (cL Γ st.nxt rs ⟨st.tmps,st.objs,st.todo⟩) a' w' L'->∃df L',Q .normal df/\Rel κ nt df a' w' L':=by
  intro a' w' L' r';refine⟨_,L',hQ,r', ?_,r.low,r.it⟩;have dK:rs.all (kf nt)=true:=by simp only[da,Zam]at aF;exact aF.1.1
  intro t ht;exact qY aw rs dK _ bz t ht (r.fresh t (by simp only at ht;omega))
 cases draw with
 |false=>exact Gx aw g jI aF r.r hf bz fin
 |true=>exact Gz aw g hm jI aF r.r hf bz fin
theorem aa.region(aw:ay P Γ)(hm:P.follows .mixedOrders=true){draw:Bool}{rs:List RO}(bz:iL Γ st.nxt rs ⟨st.tmps,st.objs,st.todo⟩)(hQ:Q .normal ⟨(cL Γ st.nxt rs ⟨st.tmps,st.objs,st.todo⟩).tmps,(cL Γ st.nxt rs ⟨st.tmps,st.objs,st.todo⟩).objs,st.nxt+nt+1,st.low,(cL Γ st.nxt rs ⟨st.tmps,st.objs,st.todo⟩).todo⟩):
  aa P nt (.region draw rs) Q st:=by
 refine⟨λc hc=>?_⟩;obtain⟨id,ops,rfl,jI,aF⟩:=pk hc;exact pn aw hm (by rw[pZ jI];exact jI) aF bz hQ
theorem aa.Xj(aw:ay P Γ)(hm:P.follows .mixedOrders=true){d:DC}{rs:List RO}(hd:d=.jU (rs.map bare)\/∃draw,d=.region draw (rs.map bare))(aF:da nt true rs=true)
  (bz:iL Γ st.nxt rs ⟨st.tmps,st.objs,st.todo⟩) (hQ:Q .normal ⟨(cL Γ st.nxt rs ⟨st.tmps,st.objs,st.todo⟩).tmps,(cL Γ st.nxt rs ⟨st.tmps,st.objs,st.todo⟩).objs,st.nxt+nt+1,st.low,(cL Γ st.nxt rs ⟨st.tmps,st.objs,st.todo⟩).todo⟩):
  aa P nt d Q st:=by
 refine⟨λc hc=>?_⟩;rcases hd with rfl|⟨draw,rfl⟩
 ·obtain⟨id,ops,rfl,jI⟩:=GA hc;exact pn aw hm jI aF bz hQ
 ·obtain⟨id,ops,rfl,jI,hok'⟩:=pk hc;refine pn aw hm jI ?_ bz hQ;cases draw with
  |true=>exact aF
  |false=>simp only[da,Zam]at aF⊢;exact⟨aF.1,rfl⟩
theorem aa.next{x:bp}{d1 d2 r m s l c:Nat}{sn:List Nat}{shs:List Sh}{agg:Bool}{es:List (Nat×T×DV)}(hx:x.ev st.tmps=.iter r)(hr:st.objs r=some (.iter m s sn l))(hm:st.objs m=some (.map shs agg c es))(cW:∀e∈es,e.1<s)(hl:s<=l)
  (QS:(∀e∈es,e.1∈sn)->Q .normal ⟨b7 (b7 st.tmps (some d1) .undef) (some d2) (.v (.bool false)),st.objs,st.nxt,st.low,st.todo⟩)
  (hgo:∀e∈es,e.1∉sn->Q .normal ⟨b7 (b7 st.tmps (some d1) .undef) (some d2) (.v (.bool true)),bR st.objs (some (r,.iter m s (sn++[e.1]) c)),st.nxt,st.low,st.todo⟩):
  aa P nt (.MB x d1 d2) Q st:=by
 refine⟨λcc hc=>?_⟩;obtain⟨id,o1,o2,y,rfl,h1,hy,h2,h3,h4,h5,h6,Om,hd2⟩:=Ov hc;intro n κ a w L g r0;refine wpIn_region ?_;have hR:=r0.r;obtain⟨W,base,M,w0,dI,h0⟩:=hR.ex;have Cg:=bp.bq h0.o.gl h0.tmps hy;rw[hx]at Cg;simp only[av]at Cg;obtain⟨_,Mu⟩:=Cg;have fin:∀{b:Bool} {aA:aU} {v:Value} {w':World},bK base W M w0 aA w' L->iX W st.objs L w aA L w'->(∃N,∀r,N<=r->aA r=none)->(∀t,st.objs t=none->aA t=none)->(∃rest:List Value,v=.tuple (Value.bool b::rest).toArray)->(execOp a.eval o1).run P w=.ok (.value v) w'->
   Q .normal ⟨b7 (b7 st.tmps (some d1) .undef) (some d2) (.v (.bool b)),aA,st.nxt,st.low,st.todo⟩->
   wpOpsIn (iK κ.ro) n P #[o1,o2] (λe a' w'=>∃df L',Q e df/\Rel κ nt df a' w' L') (List.range 2) a w:=by
  intro b aA v w' hO hA mE lQ hv bz hQ;obtain⟨rest,rfl⟩:=hv;show wpOpsIn (iK κ.ro) n P #[o1,o2] _ [0,1] a w;rw[wpOpsIn_cons,wpOpIn];simp only[show(#[o1,o2]:Array Oper)[0]? =some o1 from rfl,Region.wanted,h3,if_true];refine⟨mF o1 w _, ?_⟩;rw[show(iK κ.ro).round=κ.ro from rfl,Oper.semAt_eq κ.ro _ o1 (λc hc=>by rw[h1]at hc;cases hc),bz,Oper.uponIn_value,h2];have R1:dH κ nt ⟨b7 st.tmps (some d1) .undef,aA,st.todo⟩ (a.put (some d1) (.tuple (Value.bool b::rest).toArray)) w' L:=dH.put hR dI h0 (some d1) (λd hd=>by cases hd;exact Om) hO hA (by simp[av]) mE;rw[wpOpsIn_cons,wpOpIn];simp only[show(#[o1,o2]:Array Oper)[1]? =some o2 from rfl,Region.wanted,h6,if_true];refine⟨mF o2 w' _, ?_⟩;have hev:(a.put (some d1) (.tuple (Value.bool b::rest).toArray)).eval (.tmp d1)=.tuple (Value.bool b::rest).toArray:=by
   simp only[Act.put,Act.eval];rw[Ad _ _ _ _ (by rw[h0.size];exact Om)];simp
  have hrun2:(execOp (a.put (some d1) (.tuple (Value.bool b::rest).toArray)).eval o2).run P w'=.ok (.value (.bool b)) w':=by
   simp[execOp,h4,hev,Instr.extract]
  rw[show(iK κ.ro).round=κ.ro from rfl,Oper.semAt_eq κ.ro _ o2 (λc hc=>by rw[h4]at hc;cases hc),hrun2,Oper.uponIn_value,h5];obtain⟨W2,base2,M2,w02,Xk,Xl⟩:=R1.ex;have R2:=dH.put R1 Xk Xl (some d2) (λd hd=>by cases hd;exact hd2) (v:=.v (.bool b)) (x:=.bool b) Xl.o (iX.cd (cb.refl _ _)) (by simp[av,aR]) mE;exact⟨_,L,hQ,R2,λt ht=>lQ t (r0.fresh t ht),r0.low,r0.it⟩
 rcases JX (P:=P) h0.o hr hm cW hl o1.type with⟨dK,bz⟩|⟨e,he,hn,k,v,w',bz,hO,hA⟩
 ·refine fin (b:=false) h0.o (iX.cd (cb.refl _ _)) hR.fin (λt h=>h) ⟨[],rfl⟩ ?_ (QS dK);simp[execOp,h1,Mu,bz]
 ·refine fin (b:=true) hO hA ?_ ?_ ⟨[k,v],rfl⟩ ?_ (hgo e he hn)
  ·obtain⟨N,hN⟩:=hR.fin;refine⟨max N (r+1),λr' ff=>?_⟩;simp only[bR];rw[if_neg (by omega)];exact hN r' (by omega)
  ·intro t ht;simp only[bR];rw[if_neg (λe=>by rw[e,hr]at ht;cases ht)];exact ht
  ·simp[execOp,h1,Mu,bz]
end
end Go.DM
namespace Go.DM
abbrev t(n:Nat):bp:=.tmp n
abbrev i(n:Int):bp:=.cq (.v (.int .i64 n))
abbrev o(d:nH)(r:Nat)(af:List Nat):RO:=⟨d,some r,none,af,none⟩
abbrev s(d:nH)(af:List Nat):RO:=⟨d,none,none,af,none⟩
abbrev g(d:nH)(r b:Nat)(w:Bool)(af:List Nat):RO:=⟨d,some r,some (b,w),af,none⟩
abbrev m(a r:Nat)(af:List Nat):RO:=⟨.bP (.tmp a),some r,none,af,none⟩
abbrev n(a r:Nat):RO:=⟨.bP (.tmp a),some r,none,[],none⟩
abbrev l(a r:Nat)(af:List Nat):RO:=⟨.load 1 false (.tmp a),some r,none,af,none⟩
abbrev L(k a r:Nat)(af:List Nat):RO:=⟨.load k true (.tmp a),some r,none,af,none⟩
abbrev a(k b r:Nat)(af:List Nat):RO:=⟨.addOff k (.tmp b),some r,none,af,none⟩
abbrev b(op:BinOp)(x y r:Nat)(af:List Nat):RO:=⟨.bin op (.tmp x) (.tmp y),some r,none,af,none⟩
abbrev c(x r:Nat)(af:List Nat):RO:=⟨.nilCheck (.tmp x),some r,none,af,none⟩
abbrev e(k x r:Nat)(af:List Nat):RO:=⟨.extract k (.tmp x),some r,none,af,none⟩
abbrev x(k y z r:Nat)(af:List Nat):RO:=⟨.idxAddr k (.tmp y) (.tmp z),some r,none,af,none⟩
abbrev S(k y z:Nat)(af:List Nat):RO:=⟨.store k (.tmp y) (.tmp z),none,none,af,none⟩
abbrev p(u v r:Nat)(af:List Nat):RO:=⟨.pick (.tmp u) (.cq (.v (.bool true))) (.tmp v),some r,none,af,none⟩
abbrev q(u v r:Nat)(af:List Nat):RO:=⟨.pick (.tmp u) (.tmp v) (.cq (.v (.bool false))),some r,none,af,none⟩
abbrev u(k y r b:Nat)(w:Bool)(af:List Nat):RO:=⟨.addOff k (.tmp y),some r,some (b,w),af,none⟩
abbrev v(y r b:Nat)(w:Bool)(af:List Nat):RO:=⟨.load 1 false (.tmp y),some r,some (b,w),af,none⟩
abbrev w(y r b:Nat)(w:Bool)(af:List Nat):RO:=⟨.bP (.tmp y),some r,some (b,w),af,none⟩
abbrev y(l:List RO):DC:=.region false l
abbrev Y(l:List RO):DC:=.region true l
abbrev j(a b:DC):DC:=.seq a b
abbrev k(l:List Nat)(k:Nat):List Nat:=l++List.range (k+1)
attribute [simp] t i o s g m n l L a b c e x S p q u v w y Y j
end Go.DM
