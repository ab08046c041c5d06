/- Part of the proof. Conditions: none. -/
import Derived.Test.YtljcdomdjgolkaaGreatDoorXab
import Derived.OrdersIn
import Derived.RangeFuncCalls
import Derived.Sort.LoopGhostIn
set_option linter.unusedSectionVars false
set_option linter.unusedSimpArgs false
set_option linter.unusedVariables false
namespace Go.DM
open Go.RowKit
variable [Laid]
structure RO where
 d:nO
 dst:Option Nat
 guard:Option (Nat×Bool)
 after:List Nat
 iQ:Option (List Nat):=none
structure RS where
 tmps:Nat->DV
 objs:aU
 todo:List (List T)
def cd(f:Nat->DV):Option Nat->DV->Nat->DV
 |none,_=>f
 |some k,v=>λx=>if x=k then v else f x
def ef(g:Option (Nat×Bool))(ρ:Nat->DV):Option Bool:=
 match g with
 |none=>some true
 |some (s,want)=>match ρ s with
  |.v (.bool b)=>some (b==want)
  |.skip=>some false
  |_=>none
def nameOf(nxt:Nat):Option Nat->Nat
 |some d=>nxt+d+1
 |none=>nxt
def pw(Γ:Env)(nxt:Nat)(r:RO)(st:RS):oF:=cy Γ r.d (nameOf nxt r.dst) st.tmps st.objs
def bm:nO->List bp
 |.bL x|.box x|.load _ _ x|.un _ x|.conv _ x|.addOff _ x|.nilCheck x|.field _ _ _ x|.extract _ x|.len x|.lenS x|.mkSlice _ _ _ _ x|.mkSliceB _ _ _ _ x|.lenM x|.rangeM x|.entryM x|.isNil _ _ x=>[x]
 |.pick c a b=>[c,a,b]
 |.alloc _|.mkMap _ _|.fail=>[]
 |.build _ ps|.bslice _ _ _ ps=>ps.map (·.2.2)
 |.store _ x y|.bin _ x y|.eqT _ _ _ x y|.idxAddr _ x y|.arrAddr _ _ x y|.minmax _ x y|.append _ _ _ x y|.lookup _ _ _ _ x y|.mapDel _ _ x y|.copy _ x y|.indexS x y=>[x,y]
 |.mapUpd _ _ x k y=>[x,k,y]
 |.mapEnt _ _ _ x k=>[x,k]
 |.entSt x s y=>[x,s,y]
 |.slice _ x lo hi=>x::(lo.toList++hi.toList)
 |.call _ xs|.callS _ xs|.callF _ xs|.callR _ xs|.mkFn _ xs=>xs
 |.callv x xs=>x::xs
def ch(r:RO)(ρ:Nat->DV):Prop:=
 match r.iQ with
 |none=>True
 |some l=>∀x∈bm r.d,∀n∈names (x.ev ρ),n∈l
def post(Γ:Env)(nxt:Nat)(r:RO)(st:RS):SEff:=
 if o9 r.d then ma Γ r.d st.tmps st.objs st.todo
 else⟨(pw Γ nxt r st).ok,(pw Γ nxt r st).val,bV st.objs (pw Γ nxt r st).put,st.todo⟩
def rE(r:RO)(o o':aU):Prop:=o9 r.d=true->∀l,r.iQ=some l->∀n,n∉l->o' n=o n
def bX(Γ:Env)(nxt:Nat)(r:RO)(st:RS):Prop:=
 match ef r.guard st.tmps with
 |some true=>(post Γ nxt r st).ok/\ch r st.tmps/\rE r st.objs (post Γ nxt r st).objs
 |some false=>True
 |none=>False
def cN(Γ:Env)(nxt:Nat)(r:RO)(st:RS):RS:=
 match ef r.guard st.tmps with
 |some true=>⟨cd st.tmps r.dst (post Γ nxt r st).val,(post Γ nxt r st).objs,(post Γ nxt r st).todo⟩
 |some false=>⟨cd st.tmps r.dst .skip,st.objs,st.todo⟩
 |none=>st
def gj:T->Bool
 |.bool _|.int _ _|.str _=>true
 |.eC ts=>gI ts
 |.agg ts=>gI ts
 |_=>false
where
 gI:List T->Bool
 |[]=>true
 |t::ts=>gj t&&gI ts
theorem tU:∀(n:Nat),(∀(t:T) (w w':World) (W W':Nat->Prop) (v:Value),SizeOf.sizeOf t<n->gj t=true->aS w W t v->aS w' W' t v)/\
  (∀(ts:List T) (w w':World) (W W':Nat->Prop) (vs:List Value),SizeOf.sizeOf ts<n->gj.gI ts=true->(aR w W ts vs->aR w' W' ts vs)/\(dx w W ts vs->dx w' W' ts vs))
 |0=>⟨λ_ _ _ _ _ _ h=>by omega,λ_ _ _ _ _ _ h=>by omega⟩
 |n+1=>by
  have ih:=tU n;refine⟨λt w w' W W' v hn hs h=>?_,λts w w' W W' vs hn hs=>?_⟩
  ·cases t with
   |agg ts=>simp only[aS]at h⊢;obtain⟨vs,hv,hr⟩:=h;exact⟨vs,hv,(ih.2 ts w w' W W' _ (by simp at hn⊢;omega) hs).1 hr⟩
   |eC ts=>simp only[aS]at h⊢;obtain⟨vs,hv,hr⟩:=h;exact⟨vs,hv,(ih.2 ts w w' W W' _ (by simp at hn⊢;omega) hs).2 hr⟩
   |bool b=>simpa [aS]using h
   |int k n=>simpa [aS]using h
   |str s=>simpa [aS]using h
   |_=>exact absurd hs ZaC
  ·cases ts with
   |nil=>exact⟨λh=>by simpa [aR]using h,λh=>by simpa [dx]using h⟩
   |cons t ts=>
    simp only[gj.gI,Zam]at hs;have h2:=ih.2 ts w w' W W';refine⟨λh=>?_,λh=>?_⟩
    ·simp only[aR]at h⊢;obtain⟨v,ia,rfl,h1,hr,jM⟩:=h;exact⟨v,ia,rfl,h1,ih.1 t w w' W W' v (by simp at hn⊢;omega) hs.1 hr,(h2 _ (by simp at hn⊢;omega) hs.2).1 jM⟩
    ·simp only[dx]at h⊢;obtain⟨v,ia,rfl,hr,jM⟩:=h;exact⟨v,ia,rfl,ih.1 t w w' W W' v (by simp at hn⊢;omega) hs.1 hr,(h2 _ (by simp at hn⊢;omega) hs.2).2 jM⟩
def Entry(P:Program)(f:FuncId):Prop:=∃fn,P.funcs[f]? =some fn/\fn.name≠ "runtime.NumGoroutine" /\fn.body.isNone=false
structure aT(P:Program)(f:FuncId)(ts:List T)(t:T):Prop where
 entry:Entry P f
 run:∀(W:Nat->Prop) (w:World) (vals:Array Value),(∀b,W b->b<w.heap.size)->Ab w W->dx w W ts vals.toList->
  Calls P f vals w λe w'=>∃v,e=.returned v/\tP w.heap.size w w'/\aS w' W t v
structure As(n0:Nat)(w':World)(W:Nat->Prop)(e sz:Nat)(rows:List (List T))(v:Value):Prop where
 pos:0<sz
 len:∀x∈rows,x.length=sz
 it:(rows=[]/\∃a:Option Addr,v=.slice a 0 0)\/∃g cap cur,v=.slice (some ⟨g,0,none⟩) rows.length cap/\0<cap/\n0<=g/\w'.heap[g]? =some (.cells cur e (0,0))/\rows.length<=cap/\cap<=maxLen/\cur.size=cap*sz/\aR w' (λb=>W b\/b=g) rows.flatten (cur.toList.take (rows.length*sz))
structure lQ(P:Program)(f:FuncId)(ts:List T)(e sz:Nat)(rows:List (List T)):Prop where
 entry:Entry P f
 run:∀(W:Nat->Prop) (w:World) (vals:Array Value),(∀b,W b->b<w.heap.size)->Ab w W->dx w W ts vals.toList->
  Calls P f vals w λe' w'=>∃v,e'=.returned v/\tP w.heap.size w w'/\As w.heap.size w' W e sz rows v
def kz(w:World)(W:Nat->Prop)(objs:aU)(L:Loc)(ds:List DV)(vs:List Value):Prop:=
 vs.length=ds.length/\∀(i:Nat) (d:DV) (v:Value),ds[i]? =some d->vs[i]? =some v->av w W objs L d v
structure aZ(P:Program)(f:FuncId)(args:List DV)(objs:aU)(r:iD):Prop where
 entry:Entry P f
 run:∀(base:Nat) (W M:Nat->Prop) (w0 w:World) (L:Loc) (vals:Array Value),bN base W M w0 objs w L->kz w W objs L args vals.toList->
  Calls P f vals w λe w'=>∃v L',e=.returned v/\bN base W M w0 r.objs w' L'/\jc W objs L w r.objs L' w'/\av w' W r.objs L' r.val v
structure Q4(P:Program)(f:FuncId)(s:Spec):Prop where
 pure:∀ts,s.pre ts->aT P f ts (s.fn ts)/\(s.scalar=true->gj (s.fn ts)=true)
 fresh:∀e sz,s.fresh=some (e,sz)->∀ts,s.pre ts->∃rows,s.fn ts=.sl rows/\lQ P f ts e sz rows/\(s.lend=true->gj.gI rows.flatten=true)
 st:∀k,s.st=some k->∀args objs,(k args objs).ok->(∀N,(∀r,N<=r->objs r=none)->aZ P f args objs (k args objs))/\∀r,objs r=none->(k args objs).objs r=none
def ay(P:Program)(Γ:Env):Prop:=∀f s,Γ f=some s->Q4 P f s
def iR(ro:Option Nat):Fence:={Fence.wide with round:=ro}
theorem dT{ro:Option Nat}{n:Nat}{P:Program}{f:FuncId}{args:Array Value}{w:World}{R:Ending->World->Prop}(h:Calls P f args w R):CallsIn (iR ro) n P f args w R:=by
 have h0:CallsIn Fence.wide n P f args w R:=callsIn_wide.2 h;exact h0
structure Ctx where
 W:Nat->Prop
 go:aU
 gL:Loc
 gw:World
 base:Nat
 M:Nat->Prop
 w0:World
 J:Option ((Nat->Prop)->List (List T)->World->Prop)
 ro:Option Nat
def Ctx.At(κ:Ctx)(todo:List (List T))(W:Nat->Prop)(base:Nat)(M:Nat->Prop)(w0:World):Prop:=
 match κ.J with
 |none=>todo=[]/\W=κ.W/\base=κ.base/\M=κ.M/\w0=κ.w0
 |some J=>J W todo w0/\base=w0.heap.size/\M=(λ_=>False)/\(∀b,W b->κ.W b\/κ.gw.heap.size<=b)/\∀b,κ.W b->W b
structure Yields(P:Program)(l:Nat)(J:(Nat->Prop)->List (List T)->World->Prop):Prop where
 stays:∀(W:Nat->Prop) (todo:List (List T)) (A B:World),J W todo A->tP A.heap.size A B->J W todo B
 round:∀(W:Nat->Prop) (x:List T) (rest:List (List T)) (vals:Array Value) (A:World),J W (x::rest) A->dx A W x vals.toList->
  ∃fn tmps assign body,(Instr.yield l vals).run P A=.ok (.round l fn tmps assign body) A/\RoundIn Fence.wide 0 P l fn tmps assign body A λe B=>
   e=.returned (.bool true)/\∃W',J W' rest B/\cq W A B/\(∀b,W' b->b<B.heap.size/\(W b\/A.heap.size<=b))/\∀b,W b->W' b
structure Ctx.Good(P:Program)(κ:Ctx):Prop where
 y:∀J,κ.J=some J->Yields P κ.gL.yl J
 rd:∀l,κ.ro=some l->∃r,κ.gw.heap[l]? =some (.loop r)
def mark(D:Nat):Deferred:={target:=.collected D,args:= #[]}
structure R0(base:Nat)(W M:Nat->Prop)(w0:World)(nt:Nat)(tmps:Nat->DV)(objs:aU)(a:Act)(w:World)(L:Loc):Prop where
 size:a.tmps.size=nt
 tmps:∀t,av w W objs L (tmps t) (a.tmps.getD t Go.undef)
 o:bN base W M w0 objs w L
structure dI(κ:Ctx)(nt:Nat)(st:RS)(a:Act)(w:World)(L:Loc):Prop where
 ex:∃W base M w0,κ.At st.todo W base M w0/\R0 base W M w0 nt st.tmps st.objs a w L
 ee:jc κ.W κ.go κ.gL κ.gw st.objs L w
 defers:∃Ds:List Nat,a.defers=Ds.map mark/\Ds.Nodup/\(∀D∈Ds,w.heap[D]? =some (.deferred (some []))/\κ.gw.heap.size<=D)/\(κ.J.isSome=true->Ds=[])
 bg:κ.J=none->κ.base<=κ.gw.heap.size
 fin:∃N,∀r,N<=r->st.objs r=none
theorem Ctx.At.sub{κ:Ctx}{todo:List (List T)}{W:Nat->Prop}{base:Nat}{M:Nat->Prop}{w0:World}(h:κ.At todo W base M w0):(∀b,W b->κ.W b\/κ.gw.heap.size<=b)/\∀b,κ.W b->W b:=by
 unfold Ctx.At at h;split at h
 ·obtain⟨_,rfl,_⟩:=h;exact⟨λ_ h=>.inl h,λ_ h=>h⟩
 ·exact⟨h.2.2.2.1,h.2.2.2.2⟩
theorem jc.comp{W V:Nat->Prop}{go objs aB:aU}{gL L L':Loc}{gw w w':World}(h:jc V go gL gw objs L w)(k:jc W objs L w aB L' w')(h1:∀b,W b->V b\/gw.heap.size<=b)(h2:∀b,V b->W b):
  jc V go gL gw aB L' w':=by
 have up:∀b,b<gw.heap.size->WW W objs L b->WW V objs L b:=λb hb hw=>by
  rcases hw with hw|hw
  ·rcases h1 b hw with h3|h3
   ·exact .inl h3
   ·omega
  ·exact .inr hw
 refine⟨⟨⟨ZaE h.keeps.size k.keeps.size,λb c e fr hb hn=>?_⟩,λb hb=>k.keeps.OA b (h.keeps.OA b hb),λb r hb=>k.keeps.Xu b r (h.keeps.Xu b r hb)⟩,λb hb hw=>?_,λr o hr hk=>?_,λr ver e sz rows hr=>?_,k.yl.trans h.yl⟩
 ·have cV:=(Zaj.1 hb).1;exact k.keeps.hY b c e fr (h.keeps.hY b c e fr hb hn) λx=>hn (h.sub b cV (up b cV x))
 ·refine h.sub b hb (up b hb (k.sub b (ZaR hb h.keeps.size) ?_));rcases hw with hw|hw
  ·exact .inl (h2 b hw)
  ·exact .inr hw
 ·obtain⟨e1,o1,lX,qz⟩:=h.fix r o hr hk;obtain⟨e2,o2,qa,rF⟩:=k.fix r o1 lX (by rw[qz];exact hk);exact⟨e2.trans e1,o2,qa,rF.trans qz⟩
 ·obtain⟨v1,e1,s1,r1,lX,l1,k1⟩:=h.arr r ver e sz rows hr;obtain⟨v2,e2,s2,r2,qa,l2,k2⟩:=k.arr r v1 e1 s1 r1 lX;refine⟨v2,e2,s2,r2,qa,ZaE l1 l2,λhv=>?_⟩;have zy:v1=ver:=by omega
  obtain⟨a1,a2,a3⟩:=k1 zy;obtain⟨b1,b2,b3⟩:=k2 (by omega);exact⟨b1.trans a1,b2.trans a2,b3.trans a3⟩
section
variable{P:Program}{κ:Ctx}{base:Nat}{W M:Nat->Prop}{w0:World}{nt:Nat}{Γ:Env}{nxt:Nat}
theorem Au(tmps:Array Value)(d t:Nat)(v:Value)(hd:d<tmps.size):(tmps.setIfInBounds d v).getD t Go.undef=if t=d then v else tmps.getD t Go.undef:=by
 simp only[Zay,Zb3];by_cases h:d=t
 ·subst h;simp[hd]
 ·have:t≠d:=λe=>h e.symm;simp[h,this]
theorem R0.put{tmps:Nat->DV}{objs:aU}{a:Act}{w w':World}{L L':Loc}{aB:aU}(h:R0 base W M w0 nt tmps objs a w L)(dst:Option Nat)(jU:∀d,dst=some d->d<nt){v:DV}{x:Value}
  (hO:bN base W M w0 aB w' L') (hA:jc W objs L w aB L' w') (hv:av w' W aB L' v x):
  R0 base W M w0 nt (cd tmps dst v) aB (a.put dst x) w' L':=by
 cases dst with
 |none=>exact⟨h.size,λt=>av.ee hA _ _ (h.tmps t),hO⟩
 |some d=>
  refine⟨by simpa [Act.put]using h.size,λt=>?_,hO⟩;simp only[cd,Act.put];rw[Au _ _ _ _ (by rw[h.size];exact jU d rfl)];by_cases ht:t=d
  ·simp only[ht,if_true];exact hv
  ·simp only[ht,if_false];exact av.ee hA _ _ (h.tmps t)
theorem put_defers(a:Act)(dst:Option Nat)(x:Value):(a.put dst x).defers=a.defers:=by cases dst<;>rfl
theorem dI.put{st:RS}{a:Act}{w w':World}{L L':Loc}{aB:aU}(hR:dI κ nt st a w L)(dy:κ.At st.todo W base M w0)(h:R0 base W M w0 nt st.tmps st.objs a w L)
  (dst:Option Nat) (jU:∀d,dst=some d->d<nt) {v:DV} {x:Value} (hO:bN base W M w0 aB w' L') (hA:jc W st.objs L w aB L' w') (hv:av w' W aB L' v x) (mL:∃N,∀r,N<=r->aB r=none):
  dI κ nt ⟨cd st.tmps dst v,aB,st.todo⟩ (a.put dst x) w' L':=
 ⟨⟨W,base,M,w0,dy,h.put dst jU hO hA hv⟩,hR.ee.comp hA dy.sub.1 dy.sub.2,by
  obtain⟨Ds,h1,h2,h3,h4⟩:=hR.defers;exact⟨Ds,by rw[put_defers];exact h1,h2,λD hD=>⟨hA.keeps.OA D (h3 D hD).1,(h3 D hD).2⟩,h4⟩,hR.bg,mL⟩
theorem dI.skip{st:RS}{a:Act}{w:World}{L:Loc}(h:dI κ nt st a w L)(dst:Option Nat)(jU:∀d,dst=some d->d<nt):
  dI κ nt ⟨cd st.tmps dst .skip,st.objs,st.todo⟩ (a.put dst Go.undef) w L:=by
 obtain⟨W,base,M,w0,dy,h0⟩:=h.ex;exact dI.put h dy h0 dst jU h0.o (jc.ct (cq.refl _ _)) (by simp[av]) h.fin
theorem mM{ro:Option Nat}(o:Oper)(w:World)(ρ:Operand->Value):∀f,o.about P w ρ=some f->(iR ro).fn f:=λ_ _=>trivial
theorem qc{o:Oper}{d:nO}(h:cI P o=some d):∀c,o.op≠ .defer c:=by
 intro c hc;simp[cI,hc]at h
theorem ep{o:Oper}{d:nO}(hc:cI P o=some d)(hd':(∃f args,d=.call f args)\/(∃f args,d=.callS f args)\/(∃f args,d=.callv f args)\/(∃f args,d=.callF f args)\/∃f args,d=.callR f args):∃c,o.op=.call c/\da P c=some d:=by
 rcases hd' with⟨f,args,rfl⟩|⟨f,args,rfl⟩|⟨f,args,rfl⟩|⟨f,args,rfl⟩|⟨f,args,rfl⟩;all_goals
  unfold cI at hc;cases ho:o.op<;>simp only[ho,reduceCtorEq]at hc
  case call c=>exact⟨c,rfl,hc⟩
  case binOp op t x y yt=>
   exfalso;simp only[Zaf,Zac]at hc;obtain⟨x',hx,y',hy,hc⟩:=hc;unfold kP at hc;repeat' split at hc
   all_goals first|(cases hc;done)|(simp only[Zab,reduceCtorEq,and_false,exists_false]at hc;done)
  case makeMap t h=>
   exfalso;cases h with
   |some m=>cases hc
   |none=>
    simp only at hc;split at hc
    ·simp only[Zab,reduceCtorEq,and_false,exists_false]at hc
    ·cases hc
  case slice t x lo hi mx=>
   exfalso;cases mx with
   |some m=>cases hc
   |none=>
    simp only at hc;repeat' split at hc
    all_goals simp only[Zak,Zaf,Zac,Zaa,reduceCtorEq,and_false,exists_false]at hc
  all_goals exfalso
  all_goals first
   |(simp only[Zab,reduceCtorEq,and_false,exists_false]at hc;done)
   |(simp only[Zak,Zaf,Zac,Zaa,reduceCtorEq,and_false,exists_false]at hc;done)
   |(repeat' split at hc)<;>first
     |(simp only[Zab,Zak,Zaf,Zac,Zaa,reduceCtorEq,and_false,exists_false]at hc;done)
     |(simp[Zac]at hc;done)
theorem lD{c:Call}{f:FuncId}{args:List bp}(h:da P c=some (.call f args)):∃fn,c.callee=.value (.func f)/\P.funcs[f]? =some fn/\fn.name≠ "runtime.NumGoroutine" /\fn.body.isNone=false/\c.args.toList.mapM bp.of=some args:=by
 unfold da at h;split at h
 ·rename_i g jk;split at h
  ·rename_i fn wF;split at h
   ·cases h
   ·rename_i hnr;simp only[Zab,nO.call.injEq]at h;obtain⟨ys,oz,rfl,rfl⟩:=h;refine⟨fn,jk,wF,λe=>hnr (.inl e), ?_,oz⟩;cases hb:fn.body.isNone
    ·rfl
    ·exact absurd (.inr hb) hnr
  ·cases h
 all_goals
  repeat' split at h
  all_goals first
   |(simp only[Zab,Zak,Zaf,Zac,Zaa,reduceCtorEq,and_false,exists_false]at h;done)
   |skip
theorem EL{c:Call}{x:bp}{args:List bp}(h:da P c=some (.callv x args)):∃t,c.callee=.value (.tmp t)/\x=.tmp t/\c.args.toList.mapM bp.of=some args:=by
 unfold da at h;split at h
 ·split at h
  ·split at h
   ·cases h
   ·simp at h
  ·cases h
 ·rename_i t jk;simp only[Zab,nO.callv.injEq]at h;obtain⟨ys,oz,rfl,rfl⟩:=h;exact⟨t,jk,rfl,oz⟩
 all_goals
  repeat' split at h
  all_goals first
   |(simp only[Zab,Zak,Zaf,Zac,Zaa,reduceCtorEq,and_false,exists_false]at h;done)
   |skip
def yy:nO->nO
 |.callS f args=>.call f args
 |.callF f args=>.call f args
 |.callR f args=>.call f args
 |.mkSliceB e sz bytes zero n=>.mkSlice e sz bytes zero n
 |d=>d
theorem kQ(W':Nat->Prop){lend:Bool}{objs:aU}{w:World}{L:Loc}(hO:bN base W M w0 objs w L)(hW:lend=true->∀r o b,objs r=some o->L.own r o=some b->¬W' b)(OJ:∀b,W' b->WW W objs L b):
  ∀{ds:List DV} {vs:List Value},kz w W objs L ds vs->qQ lend objs ds->dx w W' (gR objs ds) vs
 |[],vs,h,_=>by
  have:vs=[]:=ZaD h.1;subst this;simp[dx,gR]
 |d::ds,[],h,_=>by have:=h.1;simp at this
 |d::ds,v::vs,h,hk=>by
  simp only[qQ]at hk;simp only[dx,gR];exact⟨v,vs,rfl,(u4 W' hO hW OJ).1 _ _ (h.2 0 d v rfl rfl) hk.1,kQ W' hO hW OJ ⟨by simpa using h.1,λi x y hx hy=>h.2 (i+1) x y (by simpa using hx) (by simpa using hy)⟩ hk.2⟩
theorem Dc(aw:ay P Γ){objs:aU}{w:World}{L:Loc}(hO:bN base W M w0 objs w L){g:FuncId}{s:Spec}(hg:Γ g=some s){ds:List DV}{vals:Array Value}(mN:qQ s.scalar objs ds)(tV:s.pre (gR objs ds))
  (hr:kz w W objs L ds vals.toList):Calls P g vals w λe w'=>∃v,e=.returned v/\bN base W M w0 objs w' L/\jc W objs L w objs L w'/\av w' W objs L (.v (s.fn (gR objs ds))) v:=by
 obtain⟨px,hsc⟩:=(aw g s hg).pure _ tV;have wY:∀b,WW W objs L b->b<w.heap.size:=by
  have hle:base<=w.heap.size:=ZaE hO.fr.ik hO.fr.size;rintro b (hb|⟨r',o',h1,h2⟩)
  ·have:=hO.under b hb;omega
  ·exact(hO.ob r' o' h1).lt h2
 cases hs:s.scalar with
 |true=>
  rw[hs]at mN;have GR:=kQ (λ_=>False) (lend:=true) hO (λ_ _ _ _ _ _ x=>x) (λ_ x=>x.elim) hr mN;refine(px.run (λ_=>False) w vals (λ_ x=>x.elim) (hO.gl.aD (cq.refl (WW W objs L) _).toKeepsC λ_ _ h=>h.elim) GR).mono ?_;rintro e w' ⟨v,rfl,hb,hv⟩;obtain⟨hO',hA⟩:=bN.grow hO hb;refine⟨v,rfl,hO',hA, ?_⟩;simp only[av];exact(tU _).1 _ w' w' (λ_=>False) (WW W objs L) v (ZbW _) (hsc hs) hv
 |false=>
  rw[hs]at mN;have GR:=kQ (WW W objs L) (lend:=false) hO (λx=>by cases x) (λ_ x=>x) hr mN;refine(px.run (WW W objs L) w vals wY hO.gl GR).mono ?_;rintro e w' ⟨v,rfl,hb,hv⟩;obtain⟨hO',hA⟩:=bN.grow hO hb;exact⟨v,rfl,hO',hA,by simp only[av];exact hv⟩
theorem Kd{objs:aU}{w:World}{L:Loc}(hO:bN base W M w0 objs w L){g:FuncId}{ds:List DV}{vals:Array Value}{lend:Bool}(mN:qQ lend objs ds){e sz:Nat}{rows:List (List T)}(px:lQ P g (gR objs ds) e sz rows)(hsc:lend=true->gj.gI rows.flatten=true)
  (hr:kz w W objs L ds vals.toList) {name:Nat} (dz:objs name=none):Calls P g vals w λe' w'=>∃v L',e'=.returned v/\bN base W M w0 (bV objs (some (name,.arr 0 e sz rows))) w' L'/\jc W objs L w (bV objs (some (name,.arr 0 e sz rows))) L' w'/\av w' W (bV objs (some (name,.arr 0 e sz rows))) L' (.bd name 0) v:=by
 have hle:base<=w.heap.size:=ZaE hO.fr.ik hO.fr.size;have wY:∀b,WW W objs L b->b<w.heap.size:=by
  rintro b (hb|⟨r',o',h1,h2⟩)
  ·have:=hO.under b hb;omega
  ·exact(hO.ob r' o' h1).lt h2
 have bj:Calls P g vals w λe' w'=>∃v,e'=.returned v/\tP w.heap.size w w'/\As w.heap.size w' (WW W objs L) e sz rows v:=by
  cases lend with
  |false=>
   have GR:=kQ (WW W objs L) (lend:=false) hO (λx=>by cases x) (λ_ x=>x) hr mN;exact px.run (WW W objs L) w vals wY hO.gl GR
  |true=>
   have GR:=kQ (λ_=>False) (lend:=true) hO (λ_ _ _ _ _ _ x=>x) (λ_ x=>x.elim) hr mN;refine(px.run (λ_=>False) w vals (λ_ x=>x.elim) (hO.gl.aD (cq.refl (WW W objs L) _).toKeepsC λ_ _ h=>h.elim) GR).mono ?_;rintro e' w' ⟨v,h1,h2,h3⟩;refine⟨v,h1,h2,h3.pos,h3.len, ?_⟩;rcases h3.it with h4|⟨g',cap,cur,k1,k2,k3,k4,k5,k6,k7,k8⟩
   ·exact .inl h4
   ·exact .inr ⟨g',cap,cur,k1,k2,k3,k4,k5,k6,k7,((tU _).2 _ w' w' _ _ _ (ZbW _) (hsc rfl)).1 k8⟩
 refine bj.mono ?_;rintro e' w' ⟨v,rfl,hb,hf⟩;have h:=bN.put hO (r:=name) (L':=L.gH name v) (o':=.arr 0 e sz rows) (hO.fr.trans ⟨hb.os,hb.tape,hb.output,hle,hb.size,λk hk _=>hb.block k (by omega),hb.drawn⟩) hb.size (λx hx=>⟨rfl,by simp[Loc.gH,hx]⟩) rfl (λb cV _=>hb.block b cV)
  (λb h=>.inr (by
   simp only[Loc.own,Loc.gH,if_true]at h;rcases hf.it with⟨_,a,rfl⟩|⟨g',cap,cur,rfl,hp,zx,_⟩
   ·cases a<;>simp[aP]at h
   ·simp only[aP,if_neg (ZaA.1 hp),Zaa]at h;omega))
  (λo' h _=>by rw[dz]at h;cases h) (λ_ _ _ _ h=>by rw[dz]at h;cases h) (λee=>by
   refine⟨hf.pos,hf.len,λg' hg=>?_, ?_⟩
   ·simp only[Loc.gH,if_true]at hg;rcases hf.it with⟨_,a,rfl⟩|⟨g2,cap,cur,rfl,hp,zx,_⟩
    ·cases a<;>simp[aP]at hg
    ·simp only[aP,if_neg (ZaA.1 hp),Zaa]at hg;exact .inl (by omega)
   ·simp only[Loc.gH,if_true];rcases hf.it with⟨h1,a,h2⟩|⟨g2,cap,cur,h1,hp,zx,h2,h3,h4,h5,h6⟩
    ·exact .inl ⟨h1,a,h2⟩
    ·refine .inr ⟨g2,cap,cur,h1,hp,h2,h3,h4,h5,aR.aD (cq.refl (λb=>WW W objs L b\/b=g2) w').toKeepsC (λb _ hb=>?_) _ _ h6⟩;rcases hb with hb|⟨r',o',ff,hb⟩
     ·exact .inl (.inl hb)
     ·simp only[bV]at ff;split at ff
      ·rename_i e1;cases ff;subst e1;simp only[Loc.own,if_true,h1,aP,if_neg (ZaA.1 hp),Zaa]at hb;exact .inr hb.symm
      ·rename_i bH;refine .inl (.inr ⟨r',o',ff, ?_⟩);cases o'<;>simpa [Loc.own,Loc.gH,bH]using hb)
 refine⟨v,_,rfl,h.1,h.2, ?_⟩;simp only[av];refine⟨?_,0,e,sz,rows,by simp[bV],Zae _,λ_=>by simp[Loc.gH]⟩;rcases hf.it with⟨_,a,rfl⟩|⟨g2,cap,cur,rfl,_⟩<;>exact⟨_,_,_,rfl⟩
theorem gk{objs:aU}{w:World}{L:Loc}{a:Act}{ρ:Nat->DV}(hg:Ab w (WW W objs L))(hZ:∀t,av w W objs L (ρ t) (a.tmps.getD t Go.undef)){xs:List Operand}{ys:List bp}(h:xs.mapM bp.of=some ys):kz w W objs L (ys.map (·.ev ρ)) (xs.map a.eval):=by
 refine⟨by simp[rD h],λi d v hd hv=>?_⟩;rw[Zbp,Zab]at hd hv;obtain⟨y,hy,rfl⟩:=hd;obtain⟨x,hx,rfl⟩:=hv;exact yu hg hZ h i x y hx hy
theorem kz.append{objs:aU}{w:World}{L:Loc}{ds nQ:List DV}{vs ia:List Value}(h:kz w W objs L ds vs)(k:kz w W objs L nQ ia):kz w W objs L (ds++nQ) (vs++ia):=by
 refine⟨by simp[h.1,k.1],λi d v hd hv=>?_⟩;by_cases hi:i<ds.length
 ·rw[Zbk hi]at hd;rw[Zbk (by rw[h.1];exact hi)]at hv;exact h.2 i d v hd hv
 ·rw[Zbi (by omega)]at hd;rw[Zbi (by rw[h.1];omega),h.1]at hv;exact k.2 _ d v hd hv
theorem Av{objs:aU}{w:World}{L:Loc}{ts:List T}{vs:List Value}(h:aR w (WW W objs L) ts vs):kz w W objs L (ts.map .v) vs:=by
 refine⟨by simp[aR.length h],λi d v hd hv=>?_⟩;rw[Zbp,Zab]at hd;obtain⟨t,ht,rfl⟩:=hd;obtain⟨v',p9,_,hr⟩:=aR.get h ht;rw[hv]at p9;cases p9;simpa [av]using hr
theorem GS{objs:aU}{w:World}{L:Loc}{ds:List DV}{vs:List Value}(h:aL w W objs L ds vs):kz w W objs L ds vs:=by
 refine⟨by simp[aL.length h],λi d v hd hv=>?_⟩;obtain⟨v',p9,_,hr⟩:=aL.get h hd;rw[hv]at p9;cases p9;exact hr
theorem CD{o:Oper}{x:bp}(hc:cI P o=some (.entryM x)):∃y,o.op=.entry y/\bp.of y=some x:=by
 unfold cI at hc;cases ho:o.op<;>simp only[ho,reduceCtorEq]at hc
 case entry y=>
  simp only[Zab,nO.entryM.injEq]at hc;obtain⟨y',hy,rfl⟩:=hc;exact⟨y,rfl,hy⟩
 case binOp op t x y yt=>
  exfalso;simp only[Zaf,Zac]at hc;obtain⟨x',hx,y',hy,hc⟩:=hc;unfold kP at hc;repeat' split at hc
  all_goals first|(cases hc;done)|(simp only[Zab,reduceCtorEq,and_false,exists_false]at hc;done)
 case call c=>
  exfalso;unfold da at hc;repeat' split at hc
  all_goals first
   |(cases hc;done)
   |(simp only[Zab,Zak,Zaf,Zac,Zaa,reduceCtorEq,and_false,exists_false]at hc;done)
 case slice t x lo hi mx=>
  exfalso;cases mx with
  |some m=>cases hc
  |none=>
   simp only at hc;repeat' split at hc
   all_goals simp only[Zak,Zaf,Zac,Zaa,reduceCtorEq,and_false,exists_false]at hc
 case makeMap t h=>
  exfalso;cases h with
  |some m=>cases hc
  |none=>
   simp only at hc;split at hc
   ·simp only[Zab,reduceCtorEq,and_false,exists_false]at hc
   ·cases hc
 all_goals exfalso
 all_goals first
  |(simp only[Zab,reduceCtorEq,and_false,exists_false]at hc;done)
  |(simp only[Zak,Zaf,Zac,Zaa,reduceCtorEq,and_false,exists_false]at hc;done)
  |(repeat' split at hc)<;>first
    |(simp only[Zab,Zak,Zaf,Zac,Zaa,reduceCtorEq,and_false,exists_false]at hc;done)
    |(simp[Zac]at hc;done)
theorem jB{o:Oper}{a:Act}{w:World}{c:Call}(ho:o.op=.call c){g:FuncId}{caps:Array Value}(hv:∀f,c.callee=.value f->a.eval f=.func (.func g) #[] caps)(hc:∃f,c.callee=.value f)(hg:Entry P g):
  (execOp a.eval o).run P w=.ok (.enter g (c.args.map a.eval++caps)) w:=by
 obtain⟨f,hf⟩:=hc;obtain⟨fn,wF,bH,Cx⟩:=hg;simp[execOp,ho,resolve,hf,hv f hf,Deferred.ofValue,invoke,callFunc,wF,bH];intro lY;simp[lY]at Cx
theorem CE{ro:Option Nat}{n l:Nat}{fn:FuncId}{tmps:Array Value}{assign body:Code}{w:World}{R:Ending->World->Prop}(h:RoundIn Fence.wide 0 P l fn tmps assign body w R):
  RoundIn (iR ro) n P l fn tmps assign body w R:=by
 have h0:RoundIn Fence.wide n P l fn tmps assign body w R:=⟨h.1,λc cs _=>h.2 c cs (by simp[Fence.room,Fence.wide])⟩;exact h0
theorem M3{ro:Option Nat}{n:Nat}(aw:ay P Γ)(wG:κ.Good P){o:Oper}{r:RO}(hc:cI P o=some (yy r.d))(jU:r.dst=o.dst){st:RS}{a:Act}{w:World}{L:Loc}(h:dI κ nt st a w L)(hd:∀d,r.dst=some d->d<nt)
  (dz:st.objs (nameOf nxt r.dst)=none) (aG:(post Γ nxt r st).ok) {K:Act->World->Prop} {Q:Exit->Act->World->Prop}
  (hK:∀a' w' L',dI κ nt ⟨cd st.tmps r.dst (post Γ nxt r st).val,(post Γ nxt r st).objs,(post Γ nxt r st).todo⟩ a' w' L'->K a' w'):
  o.wpIn (iR ro) n P a w K Q:=by
 have hR:=h;obtain⟨⟨W,base,M,w0,dy,h0⟩,X3,hdf,hbg,mL⟩:=h;refine⟨mM o w _, ?_⟩;have zm:∀c,o.op≠ .defer c:=qc hc;rw[show(iR ro).round=ro from rfl,Oper.semAt_eq ro _ o zm];by_cases h4:o9 r.d=true
 ·unfold post at aG hK;rw[if_pos h4]at aG hK;cases Xw:r.d<;>rw[Xw]at h4<;>first|(simp[o9]at h4;done)|skip
  case callS f args=>
   rw[Xw]at hc aG hK;obtain⟨c,ho,bK⟩:=ep hc (.inl ⟨f,args,rfl⟩);obtain⟨fn,jk,wF,bH,Cx,oz⟩:=lD bK;have bz:=jB (P:=P) (w:=w) (a:=a) (g:=f) (caps:= #[]) ho (λx hx=>by rw[jk]at hx;cases hx;rfl) ⟨_,jk⟩ ⟨fn,wF,bH,Cx⟩;rw[ZbD]at bz;rw[bz,Oper.uponIn_enter];refine⟨λhx=>(by cases hx),dT ?_⟩;simp only[ma]at aG hK;cases hg:Γ f with
   |none=>simp[hg]at aG
   |some s=>
    simp only[hg]at aG hK;cases hk:s.st with
    |none=>simp[hk]at aG
    |some k=>
     simp only[hk]at aG hK;obtain⟨bj,uL⟩:=(aw f s hg).st k hk _ _ aG;obtain⟨N,hN⟩:=mL;have bj:=bj N hN;refine(bj.run base W M w0 w L (c.args.map a.eval) h0.o (by simpa using gk h0.o.gl h0.tmps oz)).mono ?_;rintro e w' ⟨v,L',rfl,hO,hA,hv⟩;have:=hK _ _ _ (dI.put hR dy h0 r.dst hd hO hA hv ⟨N,λr hr=>uL r (hN r hr)⟩);rw[<-jU];exact this
  case callv x args=>
   rw[Xw]at hc aG hK;obtain⟨c,ho,bK⟩:=ep hc (.inr (.inr (.inl ⟨_,_,rfl⟩)));obtain⟨t,jk,rfl,oz⟩:=EL bK;have ht:=h0.tmps t;simp only[ma,show bp.ev st.tmps (.tmp t)=st.tmps t from rfl]at aG hK;cases hv:st.tmps t with
   |v tv=>
    rw[hv]at ht aG hK;cases tv with
    |fn fv caps=>
     cases fv with
     |func g=>
      simp only at aG hK;simp only[av,aS]at ht;obtain⟨vs,hx,Dd⟩:=ht;cases hg:Γ g with
      |none=>simp[hg]at aG
      |some s=>
       simp only[hg]at aG hK;cases hk:s.st with
       |none=>
        simp only[hk]at aG hK;unfold nA at aG hK;simp only[hg]at aG hK;obtain⟨mN,tV⟩:=aG;have bz:=jB (P:=P) (w:=w) (a:=a) (g:=g) (caps:=vs) ho (λx fJ=>by rw[jk]at fJ;cases fJ;exact hx) ⟨_,jk⟩ ((aw g s hg).pure _ tV).1.entry;rw[bz,Oper.uponIn_enter];refine⟨λhx=>(by cases hx),dT ?_⟩;have OL:kz w W st.objs L (args.map (·.ev st.tmps)++caps.map .v) (c.args.map a.eval++vs).toList:=by
         simpa using kz.append (gk h0.o.gl h0.tmps oz) (Av Dd)
        refine(Dc aw h0.o hg mN tV OL).mono ?_;rintro e w' ⟨v,rfl,hO,hA,p9⟩;have:=hK _ _ _ (dI.put hR dy h0 r.dst hd hO hA p9 mL);rw[<-jU];exact this
       |some k=>
        simp only[hk]at aG hK;obtain⟨bj,uL⟩:=(aw g s hg).st k hk _ _ aG;obtain⟨N,hN⟩:=mL;have bj:=bj N hN;have bz:=jB (P:=P) (w:=w) (a:=a) (g:=g) (caps:=vs) ho (λx fJ=>by rw[jk]at fJ;cases fJ;exact hx) ⟨_,jk⟩ bj.entry;rw[bz,Oper.uponIn_enter];refine⟨λhx=>(by cases hx),dT ?_⟩;have OL:kz w W st.objs L (args.map (·.ev st.tmps)++caps.map .v) (c.args.map a.eval++vs).toList:=by
         simpa using kz.append (gk h0.o.gl h0.tmps oz) (Av Dd)
        refine(bj.run base W M w0 w L _ h0.o OL).mono ?_;rintro e w' ⟨v,L',rfl,hO,hA,p9⟩;have:=hK _ _ _ (dI.put hR dy h0 r.dst hd hO hA p9 ⟨N,λr hr=>uL r (hN r hr)⟩);rw[<-jU];exact this
     |_=>simp at aG
    |_=>simp at aG
   |C1=>
    rw[hv]at ht aG hK;simp only[av]at ht;cases htd:st.todo with
    |nil=>simp[htd]at aG
    |cons y rest=>
     simp only[htd]at aG hK;obtain⟨mN,harg,Q5⟩:=aG;rw[htd]at dy;unfold Ctx.At at dy;cases hJ:κ.J with
     |none=>simp[hJ]at dy
     |some J=>
      simp only[hJ]at dy;obtain⟨hj,rfl,rfl,Qu,hw2⟩:=dy;have hy:=wG.y J hJ;have hbw:tP w0.heap.size w0 w:=⟨⟨h0.o.fr.os,h0.o.fr.tape,h0.o.fr.output,h0.o.fr.size,λk hk=>h0.o.fr.block k hk (λx=>x)⟩,h0.o.fr.drawn⟩;have hjw:=hy.stays W (y::rest) w0 w hj hbw;have wY:∀b,WW W st.objs L b->W b:=by
       rintro b (hb|⟨r',o',h1,_⟩)
       ·exact hb
       ·rw[Q5]at h1;cases h1
      have GR:dx w W y (c.args.map a.eval).toList:=by
       rw[<-harg];have:=kQ W (lend:=false) h0.o (λx=>by cases x) (λb hb=>.inl hb) (gk h0.o.gl h0.tmps oz) mN;simpa using this
      obtain⟨fn,tmps,assign,body,Qv,Q6⟩:=hy.round W y rest (c.args.map a.eval) w hjw GR;have bz:(execOp a.eval o).run P w=.ok (.round L.yl fn tmps assign body) w:=by
       rw[<-X3.yl]at Qv;have:a.eval (.tmp t)=.func (.yield L.yl) #[] #[]:=ht;simp[execOp,ho,resolve,jk,this,Deferred.ofValue,invoke,Qv]
      rw[bz,Oper.uponIn_round];refine⟨λhx=>(by cases hx),CE ?_⟩;rw[<-X3.yl]at Q6;refine Q6.mono ?_;rintro e B ⟨rfl,W',X4,te,mO,hmono⟩;have CF:∀b,W b->b<w.heap.size:=λb hb=>by
       have h1:=h0.o.under b hb;have h2:=h0.o.fr.size;omega
      have hA0:jc W st.objs L w st.objs L B:=jc.ct (te.mono λb hb=>.inl hb);obtain⟨Ds,hDs,hDn,hDk,hDJ⟩:=hdf;have Q7:zk W W' st.objs L w st.objs L B:=by
       refine⟨te.mono λb hb=>.inl hb,λb hb hw=>?_,λr o hr _=>⟨rfl,o,hr,rfl⟩,λr ver e sz rows hr=>⟨ver,e,sz,rows,hr,Zae _,λ_=>⟨rfl,rfl,rfl⟩⟩,rfl⟩;rcases hw with hw|⟨r',o',h1,_⟩
       ·rcases(mO b hw).2 with h2|h2
        ·exact .inl h2
        ·omega
       ·rw[Q5]at h1;cases h1
      have move:∀(d:DV) (x:Value),av w W st.objs L d x->av B W' st.objs L d x:=av.ee Q7;have hO':bN B.heap.size W' (λ_=>False) B st.objs B L:=by
       refine⟨Fr.refl (Zae _),λr o ho=>?_,λr r' o o' b _ ho=>?_,λr o b ho=>?_,λb hb=>(mO b hb).1,h0.o.gl.aD Q7.keeps.toKeepsC Q7.sub⟩;all_goals rw[Q5]at ho;cases ho
      have hR:dI κ nt ⟨cd st.tmps r.dst (.v (.bool true)),st.objs,rest⟩ (a.put r.dst (.bool true)) B L:=by
       refine⟨⟨W',B.heap.size,λ_=>False,B, ?_, ?_⟩,X3.comp hA0 Qu hw2,⟨Ds,by rw[put_defers];exact hDs,hDn,λD hD=>⟨te.OA D (hDk D hD).1,(hDk D hD).2⟩,hDJ⟩,hbg,mL⟩
       ·unfold Ctx.At;simp only[hJ];refine⟨X4,trivial,trivial,λb hb=>?_,λb hb=>hmono b (hw2 b hb)⟩;rcases(mO b hb).2 with h1|h1
        ·exact Qu b h1
        ·exact .inr (ZaE X3.keeps.size h1)
       ·have h1:R0 B.heap.size W' (λ_=>False) B nt st.tmps st.objs a B L:=⟨h0.size,λt=>move _ _ (h0.tmps t),hO'⟩;exact h1.put r.dst hd hO' (jc.ct (cq.refl _ _)) (by simp[av,aS])
      have:=hK _ _ _ hR;rw[<-jU];exact this
   |mF fv caps=>
    rw[hv]at ht aG hK;cases fv with
    |func g=>
     simp only at aG hK;simp only[av]at ht;obtain⟨vs,hx,Dd⟩:=ht;cases hg:Γ g with
     |none=>simp[hg]at aG
     |some s=>
      simp only[hg]at aG hK;cases hk:s.st with
      |none=>simp[hk]at aG
      |some k=>
       simp only[hk]at aG hK;obtain⟨bj,uL⟩:=(aw g s hg).st k hk _ _ aG;obtain⟨N,hN⟩:=mL;have bj:=bj N hN;have bz:=jB (P:=P) (w:=w) (a:=a) (g:=g) (caps:=vs) ho (λx fJ=>by rw[jk]at fJ;cases fJ;exact hx) ⟨_,jk⟩ bj.entry;rw[bz,Oper.uponIn_enter];refine⟨λhx=>(by cases hx),dT ?_⟩;have OL:kz w W st.objs L (args.map (·.ev st.tmps)++caps) (c.args.map a.eval++vs).toList:=by
        simpa using kz.append (gk h0.o.gl h0.tmps oz) (GS Dd)
       refine(bj.run base W M w0 w L _ h0.o OL).mono ?_;rintro e w' ⟨v,L',rfl,hO,hA,p9⟩;have:=hK _ _ _ (dI.put hR dy h0 r.dst hd hO hA p9 ⟨N,λr hr=>uL r (hN r hr)⟩);rw[<-jU];exact this
    |_=>simp at aG
   |_=>rw[hv]at aG;simp at aG
  case entryM x=>
   rw[Xw]at hc aG hK;have Ar:cI P o=some (.entryM x):=hc;obtain⟨y,ho,hy⟩:=CD Ar;simp only[ma]at aG hK;obtain⟨nx,v,w',L',bz,De,hO,hA,hv⟩:=EM h0.o ho (bp.bq h0.o.gl h0.tmps hy) aG;have nS:(jz st.objs (x.ev st.tmps)).put=none:=by unfold jz;(repeat' split)<;>rfl
   rw[nS]at hO hA hv;rw[bz];rcases De with rfl|⟨rfl,rfl⟩
   ·rw[Oper.uponIn_value,<-jU];exact hK _ _ _ (dI.put hR dy h0 r.dst hd hO hA hv mL)
   ·rw[Oper.uponIn_skip,<-jU];exact hK _ _ _ (dI.put hR dy h0 r.dst hd hO hA hv mL)
 ·have h4':o9 r.d=false:=by simpa using h4
  have Qq:=hc;have hbdF:∀f args,r.d=.callF f args->yy r.d=.call f args:=λf args h=>by rw[h];rfl
  unfold post at aG hK;rw[if_neg h4]at aG hK;simp only at aG hK;by_cases yw:∃f args,r.d=.call f args
  ·obtain⟨f,args,OM⟩:=yw;rw[OM]at hc;obtain⟨c,ho,bK⟩:=ep hc (.inl ⟨f,args,rfl⟩);obtain⟨fn,jk,wF,bH,Cx,oz⟩:=lD bK;have bz:=jB (P:=P) (w:=w) (a:=a) (g:=f) (caps:= #[]) ho (λx hx=>by rw[jk]at hx;cases hx;rfl) ⟨_,jk⟩ ⟨fn,wF,bH,Cx⟩;rw[ZbD]at bz;rw[bz,Oper.uponIn_enter];refine⟨λhx=>(by cases hx),dT ?_⟩;simp only[pw,OM,cy,nA]at aG hK;cases hg:Γ f with
   |none=>simp[hg,bad]at aG
   |some s=>
    simp only[hg]at aG hK;obtain⟨mN,tV⟩:=aG;refine(Dc aw h0.o hg mN tV (vals:=c.args.map a.eval) (by simpa using gk h0.o.gl h0.tmps oz)).mono ?_;rintro e w' ⟨v,rfl,hO,hA,p9⟩;have:=hK _ _ _ (dI.put hR dy h0 r.dst hd hO hA p9 mL);rw[<-jU];exact this
  ·by_cases Ke:∃f args,r.d=.callF f args
   ·obtain⟨f,args,OM⟩:=Ke;have dU:cI P o=some (.call f args):=by rw[<-hbdF f args OM];exact Qq
    obtain⟨c,ho,bK⟩:=ep dU (.inl ⟨f,args,rfl⟩);obtain⟨fn,jk,wF,bH,Cx,oz⟩:=lD bK;have bz:=jB (P:=P) (w:=w) (a:=a) (g:=f) (caps:= #[]) ho (λx hx=>by rw[jk]at hx;cases hx;rfl) ⟨_,jk⟩ ⟨fn,wF,bH,Cx⟩;rw[ZbD]at bz;rw[bz,Oper.uponIn_enter];refine⟨λhx=>(by cases hx),dT ?_⟩;simp only[pw,OM,cy,mJ]at aG hK;cases hg:Γ f with
    |none=>simp[hg,bad]at aG
    |some s=>
     simp only[hg]at aG hK;cases wC:s.fresh with
     |none=>simp[wC,bad]at aG
     |some q=>
      obtain⟨e,sz⟩:=q;simp only[wC]at aG hK;cases hrw:s.fn (gR st.objs (args.map (·.ev st.tmps)))<;>simp only[hrw,bad]at aG hK<;>try exact aG.elim
      rename_i rows;obtain⟨mN,tV⟩:=aG;obtain⟨dp,h1,h2,h3⟩:=(aw f s hg).fresh e sz wC _ tV;rw[hrw]at h1;cases h1;refine(Kd h0.o mN h2 h3 (vals:=c.args.map a.eval) (by simpa using gk h0.o.gl h0.tmps oz) dz).mono ?_;rintro e' w' ⟨v,L',rfl,hO,hA,p9⟩;have Aw:∃N,∀r',N<=r'->(bV st.objs (some (nameOf nxt r.dst,.arr 0 e sz rows))) r'=none:=by
       obtain⟨N,hN⟩:=mL;refine⟨max N (nameOf nxt r.dst+1),λr' ff=>?_⟩;simp only[bV];rw[if_neg (by omega)];exact hN r' (by omega)
      have:=hK _ _ _ (dI.put hR dy h0 r.dst hd hO hA p9 Aw);rw[<-jU];exact this
   by_cases Kf:∃f args,r.d=.callR f args
   ·obtain⟨f,args,OM⟩:=Kf;have dU:cI P o=some (.call f args):=by rw[show(nO.call f args)=yy r.d by rw[OM];rfl];exact Qq
    obtain⟨c,ho,bK⟩:=ep dU (.inl ⟨f,args,rfl⟩);obtain⟨fn,jk,wF,bH,Cx,oz⟩:=lD bK;have bz:=jB (P:=P) (w:=w) (a:=a) (g:=f) (caps:= #[]) ho (λx hx=>by rw[jk]at hx;cases hx;rfl) ⟨_,jk⟩ ⟨fn,wF,bH,Cx⟩;rw[ZbD]at bz;rw[bz,Oper.uponIn_enter];refine⟨λhx=>(by cases hx),dT ?_⟩;simp only[pw,OM,cy,mI]at aG hK;cases hg:Γ f with
    |none=>simp[hg,bad]at aG
    |some s=>
     simp only[hg]at aG hK;cases hk:s.st with
     |none=>simp[hk,bad]at aG
     |some k=>
      simp only[hk]at aG hK;obtain⟨Kg,Q5,c6⟩:=aG st.objs (λ_ _=>rfl);obtain⟨bj,uL⟩:=(aw f s hg).st k hk _ _ Kg;obtain⟨N,hN⟩:=mL;have bj:=bj N hN;refine(bj.run base W M w0 w L (c.args.map a.eval) h0.o (by simpa using gk h0.o.gl h0.tmps oz)).mono ?_;rintro e w' ⟨v,L',rfl,hO,hA,hv⟩;rw[Q5]at hO hA hv;rw[c6]at hv;have:=hK _ _ _ (dI.put hR dy h0 r.dst hd hO hA hv ⟨N,hN⟩);rw[<-jU];exact this
   by_cases hmkB:∃e sz JQ zero n,r.d=.mkSliceB e sz JQ zero n
   ·obtain⟨e,sz,JQ,zero,n,OM⟩:=hmkB;have dU:cI P o=some (.mkSlice e sz JQ zero n):=by rw[show(nO.mkSlice e sz JQ zero n)=yy r.d by rw[OM];rfl];exact Qq
    simp only[pw,OM,cy]at aG hK;obtain⟨nx,v,w',L',bz,De,hO,hA,hv⟩:=OK h0.o dU h0.tmps dz aG;have Aw:∃N,∀r',N<=r'->(bV st.objs (eG sz JQ zero (nameOf nxt r.dst) (n.ev st.tmps)).put) r'=none:=by
     obtain⟨N,hN⟩:=mL;cases hp:(eG sz JQ zero (nameOf nxt r.dst) (n.ev st.tmps)).put with
     |none=>exact⟨N,hN⟩
     |some q=>
      obtain⟨t,o'⟩:=q;refine⟨max N (t+1),λr' ff=>?_⟩;simp only[bV];rw[if_neg (by omega)];exact hN r' (by omega)
    rw[bz];rcases De with rfl|⟨rfl,rfl⟩
    ·rw[Oper.uponIn_value,<-jU];exact hK _ _ _ (dI.put hR dy h0 r.dst hd hO hA hv Aw)
    ·rw[Oper.uponIn_skip,<-jU];exact hK _ _ _ (dI.put hR dy h0 r.dst hd hO hA hv Aw)
   have Qw:yy r.d=r.d:=by
    cases Xw:r.d<;>rw[Xw]at h4' Ke Kf hmkB<;>first|rfl|(simp[o9]at h4';done)|exact absurd ⟨_,_,rfl⟩ Ke|exact absurd ⟨_,_,rfl⟩ Kf|exact absurd ⟨_,_,_,_,_,rfl⟩ hmkB
   rw[Qw]at hc;have Aw:∃N,∀r',N<=r'->(bV st.objs (pw Γ nxt r st).put) r'=none:=by
    obtain⟨N,hN⟩:=mL;cases hp:(pw Γ nxt r st).put with
    |none=>exact⟨N,hN⟩
    |some q=>
     obtain⟨t,o'⟩:=q;refine⟨max N (t+1),λr' ff=>?_⟩;simp only[bV];rw[if_neg (by omega)];exact hN r' (by omega)
   obtain⟨nx,v,w',L',bz,De,hO,hA,hv⟩:=Q1 (Γ:=Γ) (name:=nameOf nxt r.dst) hc (λf args e=>yw ⟨f,args,e⟩) h0.tmps h0.o dz aG;rw[bz];rcases De with rfl|⟨rfl,rfl⟩
   ·rw[Oper.uponIn_value,<-jU];exact hK _ _ _ (dI.put hR dy h0 r.dst hd hO hA hv Aw)
   ·rw[Oper.uponIn_skip,<-jU];exact hK _ _ _ (dI.put hR dy h0 r.dst hd hO hA hv Aw)
end
end Go.DM
namespace Go.DM
open Go.RowKit
variable [Laid]
def cls:nO->Nat
 |.alloc _|.box _|.mkSlice .. |.mkSliceB .. |.mkMap .. =>2
 |.store .. |.append .. |.mapUpd .. |.mapEnt .. |.entSt .. |.mapDel .. |.copy .. |.rangeM _|.callF .. =>3
 |.load .. |.eqT .. |.idxAddr .. |.len _|.call .. |.callR .. |.slice .. |.lookup .. |.lenM _|.isNil .. =>1
 |.callS .. |.callv .. |.entryM _=>4
 |_=>0
section
variable{Γ:Env}{d:nO}{name:Nat}{ρ Q8:Nat->DV}{objs aB:aU}
theorem iF{xs:List bp}(h:∀x∈xs,x.ev ρ=x.ev Q8):xs.map (·.ev ρ)=xs.map (·.ev Q8):=Zbq h
theorem wZ(h:∀x∈bm d,x.ev ρ=x.ev Q8):cy Γ d name ρ objs=cy Γ d name Q8 objs:=by
 cases d;case build z ps=>
  have:ps.map (λp=>(p.1,p.2.1,p.2.2.ev ρ))=ps.map (λp=>(p.1,p.2.1,p.2.2.ev Q8)):=Zbq λp hp=>by rw[h p.2.2 (Zal.2 ⟨p,hp,rfl⟩)]
  simp only[cy,this]
 case bslice n sz z ps=>
  have:ps.map (λp=>(p.1,p.2.1,p.2.2.ev ρ))=ps.map (λp=>(p.1,p.2.1,p.2.2.ev Q8)):=Zbq λp hp=>by rw[h p.2.2 (Zal.2 ⟨p,hp,rfl⟩)]
  simp only[cy,this]
 case slice sz x lo hi=>
  have h1:=h x (by simp[bm]);have h2:lo.map (·.ev ρ)=lo.map (·.ev Q8):=by cases lo<;>simp;exact h _ (by simp[bm])
  have h3:hi.map (·.ev ρ)=hi.map (·.ev Q8):=by cases hi<;>simp;exact h _ (by simp[bm])
  simp only[cy,h1,h2,h3]
 case call f xs=>simp only[cy,iF (xs:=xs) h]
 case callF f xs=>simp only[cy,iF (xs:=xs) h]
 case callR f xs=>simp only[cy,iF (xs:=xs) h]
 case callS f xs=>rfl
 case callv x xs=>rfl
 case mkFn f xs=>simp only[cy,iF (xs:=xs) h]
 all_goals (simp only[bm,Zag,Zap,or_false,forall_eq_or_imp,forall_eq]at h;simp only[cy,h])
theorem Ax(h:cls d=0\/cls d=2):cy Γ d name ρ objs=cy Γ d name ρ aB:=by
 cases d<;>first|rfl|(simp[cls]at h;done)
mutual
def dJ(objs:aU):DV->Prop
 |.ptr r _|.bd r _|.jh r _ _ _|.iC r|.iter r|.s8 r _ _ _|.Es r _=>objs r≠none
 |.agg cs|.eC cs|.mF _ cs=>eu objs cs
 |_=>True
def eu(objs:aU):List DV->Prop
 |[]=>True
 |d::ds=>dJ objs d/\eu objs ds
end
mutual
theorem dJ.bq{w:World}{W:Nat->Prop}{L:Loc}:∀(d:DV) (x:Value),av w W objs L d x->dJ objs d
 |.ptr r off,x,h=>by simp only[av]at h;obtain⟨⟨cs,hc⟩,_⟩:=h;simp[dJ,hc]
 |.Es r n,x,h=>by simp only[av]at h;obtain⟨⟨cs,hc⟩,_⟩:=h;simp[dJ,hc]
 |.bd r ver,x,h=>by simp only[av]at h;obtain⟨_,v,e,s,rows,hc,_⟩:=h;simp[dJ,hc]
 |.jh r ver i off,x,h=>by simp only[av]at h;obtain⟨_,v,e,s,rows,hc,_⟩:=h;simp[dJ,hc]
 |.iC r,x,h=>by simp only[av]at h;obtain⟨⟨_,_,_,_,hc⟩,_⟩:=h;simp[dJ,hc]
 |.iter r,x,h=>by simp only[av]at h;obtain⟨⟨_,_,_,_,hc⟩,_⟩:=h;simp[dJ,hc]
 |.s8 r ver lo n,x,h=>by simp only[av]at h;obtain⟨_,v,e,s,rows,hc,_⟩:=h;simp[dJ,hc]
 |.eC cs,x,h=>by simp only[av]at h;obtain⟨vs,_,hr⟩:=h;simp only[dJ];exact eu.M4 cs _ hr
 |.mF f cs,x,h=>by simp only[av]at h;obtain⟨vs,_,hr⟩:=h;simp only[dJ];exact eu.bq cs _ hr
 |.agg cs,x,h=>by simp only[av]at h;obtain⟨vs,_,hr⟩:=h;simp only[dJ];exact eu.bq cs _ hr
 |.undef,_,_|.skip,_,_|.v _,_,_|.aJ,_,_|.kL _ _ _,_,_|.gE _ _,_,_|.C1,_,_=>by simp[dJ]
theorem eu.bq{w:World}{W:Nat->Prop}{L:Loc}:∀(ds:List DV) (xs:List Value),aL w W objs L ds xs->eu objs ds
 |[],_,_=>by simp[eu]
 |d::ds,xs,h=>by
  simp only[aL]at h;obtain⟨x,jN,_,_,h1,h2⟩:=h;simp only[eu];exact⟨dJ.bq d x h1,eu.bq ds jN h2⟩
theorem eu.M4{w:World}{W:Nat->Prop}{L:Loc}:∀(ds:List DV) (xs:List Value),eZ w W objs L ds xs->eu objs ds
 |[],_,_=>by simp[eu]
 |d::ds,xs,h=>by
  simp only[eZ]at h;obtain⟨x,jN,_,h1,h2⟩:=h;simp only[eu];exact⟨dJ.bq d x h1,eu.M4 ds jN h2⟩
end
mutual
theorem dJ.names:∀(d:DV),dJ objs d->∀n∈names d,objs n≠none
 |.ptr r off,h,n,hn=>by simp only[DM.names,Zah]at hn;subst hn;simpa only[dJ]using h
 |.Es r m,h,n,hn=>by simp only[DM.names,Zah]at hn;subst hn;simpa only[dJ]using h
 |.bd r ver,h,n,hn=>by simp only[DM.names,Zah]at hn;subst hn;simpa only[dJ]using h
 |.jh r ver i off,h,n,hn=>by simp only[DM.names,Zah]at hn;subst hn;simpa only[dJ]using h
 |.iC r,h,n,hn=>by simp only[DM.names,Zah]at hn;subst hn;simpa only[dJ]using h
 |.iter r,h,n,hn=>by simp only[DM.names,Zah]at hn;subst hn;simpa only[dJ]using h
 |.s8 r _ _ _,h,n,hn=>by simp only[DM.names,Zah]at hn;subst hn;simpa only[dJ]using h
 |.eC cs,h,n,hn=>by simp only[DM.names]at hn;simp only[dJ]at h;exact eu.names cs h n hn
 |.mF f cs,h,n,hn=>by simp only[DM.names]at hn;simp only[dJ]at h;exact eu.names cs h n hn
 |.agg cs,h,n,hn=>by simp only[DM.names]at hn;simp only[dJ]at h;exact eu.names cs h n hn
 |.C1,_,n,hn|.undef,_,n,hn|.skip,_,n,hn|.v _,_,n,hn|.aJ,_,n,hn|.kL _ _ _,_,n,hn|.gE _ _,_,n,hn=>by simp[DM.names]at hn
theorem eu.names:∀(ds:List DV),eu objs ds->∀n∈bM ds,objs n≠none
 |[],_,n,hn=>by simp[bM]at hn
 |d::ds,h,n,hn=>by
  simp only[eu]at h;simp only[bM,Zao]at hn;rcases hn with hn|hn
  ·exact dJ.names d h.1 n hn
  ·exact eu.names ds h.2 n hn
end
def Ext(objs aB:aU):Prop:=∀r,objs r≠none->aB r=objs r
mutual
theorem EN:∀(d:DV),(∀n∈names d,aB n=objs n)->qw aB d=qw objs d
 |.bd r ver,hr=>by simp only[qw,hr r (by simp[names])]
 |.agg cs,hr=>by simp only[qw,oL cs (λn hn=>hr n (by simpa only[names]using hn))]
 |.mF f cs,hr=>by simp only[qw,oL cs (λn hn=>hr n (by simpa only[names]using hn))]
 |.s8 r ver lo n,hr=>by simp only[qw,hr r (by simp[names])]
 |.undef,_|.skip,_|.v _,_|.aJ,_|.ptr _ _,_|.kL _ _ _,_|.gE _ _,_|.jh _ _ _ _,_|.C1,_|.iC _,_|.iter _,_|.eC _,_|.Es _ _,_=>by simp[qw]
theorem oL:∀(ds:List DV),(∀n∈bM ds,aB n=objs n)->gR aB ds=gR objs ds
 |[],_=>rfl
 |d::ds,hr=>by simp only[gR,EN d (λn hn=>hr n (by simp[bM,hn])),oL ds (λn hn=>hr n (by simp[bM,hn]))]
end
mutual
theorem EO(l:Bool):∀(d:DV),(∀n∈names d,aB n=objs n)->Cv l aB d=Cv l objs d
 |.bd r ver,hr=>by simp only[Cv,hr r (by simp[names])]
 |.agg cs,hr=>by simp only[Cv,rG l cs (λn hn=>hr n (by simpa only[names]using hn))]
 |.mF f cs,hr=>by simp only[Cv,rG l cs (λn hn=>hr n (by simpa only[names]using hn))]
 |.s8 r ver lo n,hr=>by simp only[Cv,hr r (by simp[names])]
 |.undef,_|.skip,_|.v _,_|.aJ,_|.ptr _ _,_|.kL _ _ _,_|.gE _ _,_|.jh _ _ _ _,_|.C1,_|.iC _,_|.iter _,_|.eC _,_|.Es _ _,_=>by simp[Cv]
theorem rG(l:Bool):∀(ds:List DV),(∀n∈bM ds,aB n=objs n)->qQ l aB ds=qQ l objs ds
 |[],_=>rfl
 |d::ds,hr=>by simp only[qQ,EO l d (λn hn=>hr n (by simp[bM,hn])),rG l ds (λn hn=>hr n (by simp[bM,hn]))]
end
theorem tW{xs:List bp}{n:Nat}:n∈bM (xs.map (·.ev ρ))->∃x∈xs,n∈names (x.ev ρ):=by
 induction xs with
 |nil=>simp[bM]
 |cons x xs ih=>
  simp only[Zau,bM,Zao];rintro(h|h)
  ·exact⟨x,by simp,h⟩
  ·obtain⟨y,hy,hn⟩:=ih h;exact⟨y,by simp[hy],hn⟩
theorem GU(d:DV):∀n∈bM (cellsOf d),n∈names d:=by
 have hv:∀cs:List T,bM (cs.map .v)=[]:=by
  intro cs;induction cs with
  |nil=>rfl
  |cons c cs ih=>simp only[Zau,bM,names,ih,ZaJ]
 intro n hn;cases d with
 |v t=>cases t<;>simp[cellsOf,bM,names,hv]at hn
 |agg cs=>simpa [cellsOf,names]using hn
 |_=>simpa [cellsOf,bM]using hn
theorem yz{d:DV}(hy:∀n∈names d,aB n=objs n):dY aB d=dY objs d:=by
 cases d<;>simp only[names,Zah,forall_eq]at hy<;>first|rfl|(simp only[dY,hy];done)|skip
 rename_i t;cases t<;>first|rfl|skip
 rename_i v;cases v<;>first|rfl|skip
 rename_i p n c;cases n<;>rfl
theorem w6(hr:∀x∈bm d,∀n∈names (x.ev ρ),aB n=objs n):cy Γ d name ρ aB=cy Γ d name ρ objs:=by
 by_cases h0:cls d=0\/cls d=2
 ·exact Ax h0
 cases d<;>first|exact absurd (Or.inl rfl) h0|exact absurd (Or.inr rfl) h0|rfl|skip
 case load n agg x=>
  have hx:=hr x (by simp[bm]);simp only[cy];cases hv:x.ev ρ<;>rw[hv]at hx<;>simp only[names,Zah,forall_eq]at hx<;>first|rfl|(simp only[ga,hx];done)|(rename_i t;cases t<;>rfl)
 case store n x y=>
  have hx:=hr x (by simp[bm]);have hy:=hr y (by simp[bm]);have hyc:gR aB (cellsOf (y.ev ρ))=gR objs (cellsOf (y.ev ρ)):=oL _ λn hn=>hy n (GU _ n hn);simp only[cy];cases hv:x.ev ρ<;>rw[hv]at hx<;>simp only[names,Zah,forall_eq]at hx<;>first|rfl|(simp only[jR,hx,hyc];done)|(rename_i t;cases t<;>rfl)
 case eqT neg agg shs x y=>
  have hx:=hr x (by simp[bm]);have hy:=hr y (by simp[bm]);simp only[cy,EO true _ hx,EO true _ hy,EN _ hx,EN _ hy]
 case idxAddr sz x i=>
  have hx:=hr x (by simp[bm]);simp only[cy];cases hv:x.ev ρ<;>rw[hv]at hx<;>simp only[names,Zah,forall_eq]at hx<;>first|rfl|skip
  ·rename_i t;cases t<;>first|rfl|(cases i.ev ρ<;>first|rfl|(rename_i t;cases t<;>rfl))
  ·cases i.ev ρ<;>first|rfl|skip
   rename_i t;cases t<;>first|rfl|(simp only[pg,hx])
  ·cases i.ev ρ<;>first|rfl|skip
   rename_i t;cases t<;>first|rfl|(simp only[pg,hx])
  ·cases i.ev ρ<;>first|rfl|skip
   rename_i t;cases t<;>rfl
 case len x=>
  have hx:=hr x (by simp[bm]);simp only[cy];cases hv:x.ev ρ<;>rw[hv]at hx<;>simp only[names,Zah,forall_eq]at hx<;>first|rfl|(simp only[tQ,hx];done)|(rename_i t;cases t<;>rfl)
 case call f xs=>
  have hx:∀n∈bM (xs.map (·.ev ρ)),aB n=objs n:=λn hn=>by obtain⟨x,hx,hn⟩:=tW hn;exact hr x hx n hn
  simp only[cy,nA,rG _ _ hx,oL _ hx]
 case callF f xs=>
  have hx:∀n∈bM (xs.map (·.ev ρ)),aB n=objs n:=λn hn=>by obtain⟨x,hx,hn⟩:=tW hn;exact hr x hx n hn
  simp only[cy,mJ,rG _ _ hx,oL _ hx]
 case callR f xs=>
  have hx:∀n∈bM (xs.map (·.ev ρ)),aB n=objs n:=λn hn=>by obtain⟨x,hx,hn⟩:=tW hn;exact hr x hx n hn
  simp only[cy,Ev hx]
 case append e sz bytes x y=>
  have hx:=hr x (by simp[bm]);have hy:=hr y (by simp[bm]);have hs:dY aB (y.ev ρ)=dY objs (y.ev ρ):=yz hy;simp only[cy,fS,hs];cases dY objs (y.ev ρ)with
  |none=>rfl
  |some ys=>
   cases hv:x.ev ρ<;>rw[hv]at hx<;>simp only[names,Zah,forall_eq]at hx<;>first|rfl|(simp only[hx];done)|(rename_i t;cases t<;>rfl)|skip
   rename_i r ver lo n;cases lo<;>simp only[hx]
 case slice sz x lo hi=>
  have hx:=hr x (by simp[bm]);simp only[cy];cases hv:x.ev ρ<;>rw[hv]at hx<;>simp only[names,Zah,forall_eq]at hx<;>first|rfl|(simp only[ij,hx];done)|(rename_i t;cases t<;>rfl)
 case lookup shs agg z ok x k=>
  have hx:=hr x (by simp[bm]);simp only[cy];cases hv:x.ev ρ<;>rw[hv]at hx<;>simp only[names,Zah,forall_eq]at hx<;>first|rfl|(rename_i t;cases t<;>rfl)|(cases Q9:wR (k.ev ρ)<;>simp only[kM,hx,Q9])
 case mapUpd shs agg x k y=>
  have hx:=hr x (by simp[bm]);simp only[cy];cases hv:x.ev ρ<;>rw[hv]at hx<;>simp only[names,Zah,forall_eq]at hx<;>first|rfl|(rename_i t;cases t<;>rfl)|(cases Q9:wR (k.ev ρ)<;>simp only[gN,hx,Q9])
 case mapEnt shs agg z x k=>
  have hx:=hr x (by simp[bm]);simp only[cy];cases hv:x.ev ρ<;>rw[hv]at hx<;>simp only[names,Zah,forall_eq]at hx<;>first|rfl|(rename_i t;cases t<;>rfl)|(cases Q9:wR (k.ev ρ)<;>simp only[gO,hx,Q9])
 case entSt x s y=>
  have hx:=hr x (by simp[bm]);simp only[cy];cases hv:x.ev ρ<;>rw[hv]at hx<;>simp only[names,Zah,forall_eq]at hx<;>first|rfl|(rename_i t;cases t<;>rfl)|(unfold jj;split<;>first|rfl|(rename_i e _;cases e;simp only[hx]))
 case mapDel shs agg x k=>
  have hx:=hr x (by simp[bm]);simp only[cy];cases hv:x.ev ρ<;>rw[hv]at hx<;>simp only[names,Zah,forall_eq]at hx<;>first|rfl|(rename_i t;cases t<;>rfl)|(cases Q9:wR (k.ev ρ)<;>simp only[gP,hx,Q9])
 case lenM x=>
  have hx:=hr x (by simp[bm]);simp only[cy];cases hv:x.ev ρ<;>rw[hv]at hx<;>simp only[names,Zah,forall_eq]at hx<;>first|rfl|(simp only[pj,hx];done)|(rename_i t;cases t<;>rfl)
 case rangeM x=>
  have hx:=hr x (by simp[bm]);simp only[cy];cases hv:x.ev ρ<;>rw[hv]at hx<;>simp only[names,Zah,forall_eq]at hx<;>first|rfl|(simp only[jy,hx];done)|(rename_i t;cases t<;>rfl)
 case isNil kind neg x=>
  have hx:=hr x (by simp[bm]);simp only[cy];cases hv:x.ev ρ<;>rw[hv]at hx<;>simp only[names,Zah,forall_eq]at hx<;>first|rfl|(simp only[eH,hx];done)|(unfold eH;split<;>first|rfl|(rename_i e;cases e))
 case copy sz x y=>
  have hx:=hr x (by simp[bm]);have hy:=hr y (by simp[bm]);simp only[cy,iE,yz hy];cases dY objs (y.ev ρ)with
  |none=>rfl
  |some ys=>
   cases hv:x.ev ρ<;>rw[hv]at hx<;>simp only[names,Zah,forall_eq]at hx<;>first|rfl|(simp only[hx];done)|(rename_i t;cases t<;>rfl)
theorem X5(h:Ext objs aB)(hr:∀x∈bm d,dJ objs (x.ev ρ)):cy Γ d name ρ aB=cy Γ d name ρ objs:=
 w6 λx hx n hn=>h n (dJ.names _ (hr x hx) n hn)
def lays:nO->Bool
 |.alloc _|.box _|.mkSlice .. |.mkSliceB .. |.append .. |.mkMap .. |.rangeM _|.callF .. =>true
 |_=>false
theorem sx{r:Nat}{o:Ob}(h:cls d=3)(hp:(cy Γ d name ρ objs).put=some (r,o)):r=name\/∃x∈bm d,r∈names (x.ev ρ):=by
 cases d<;>first|(simp[cls]at h;done)|skip
 case store n x y=>
  simp only[cy]at hp;unfold jR at hp;split at hp
  ·rename_i hv;split at hp
   ·simp only[Zaa,Zar]at hp;obtain⟨rfl,_⟩:=hp;exact .inr ⟨x,by simp[bm],by simp[hv,names]⟩
   ·cases hp
  ·rename_i hv;split at hp
   ·simp only[Zaa,Zar]at hp;obtain⟨rfl,_⟩:=hp;exact .inr ⟨x,by simp[bm],by simp[hv,names]⟩
   ·cases hp
  ·cases hp
 case append e sz JQ x y=>
  simp only[cy]at hp;unfold fS at hp;split at hp
  ·cases hp
  ·split at hp
   ·simp only[Zaa,Zar]at hp;exact .inl hp.1.symm
   ·rename_i hv;split at hp
    ·simp only[Zaa,Zar]at hp;obtain⟨rfl,_⟩:=hp;exact .inr ⟨x,by simp[bm],by simp[hv,names]⟩
    ·cases hp
   ·rename_i hv;split at hp
    ·simp only[Zaa,Zar]at hp;obtain⟨rfl,_⟩:=hp;exact .inr ⟨x,by simp[bm],by simp[hv,names]⟩
    ·cases hp
   ·cases hp
 case copy sz x y=>
  simp only[cy]at hp;unfold iE at hp;split at hp
  ·cases hp
  ·split at hp
   ·rename_i hv;split at hp
    ·simp only[Zaa,Zar]at hp;obtain⟨rfl,_⟩:=hp;exact .inr ⟨x,by simp[bm],by simp[hv,names]⟩
    ·cases hp
   ·rename_i hv;split at hp
    ·simp only[Zaa,Zar]at hp;obtain⟨rfl,_⟩:=hp;exact .inr ⟨x,by simp[bm],by simp[hv,names]⟩
    ·cases hp
   ·cases hp
 case mapUpd shs agg x k y=>
  simp only[cy]at hp;unfold gN at hp;split at hp
  ·rename_i hv _;split at hp
   ·simp only[Zaa,Zar]at hp;obtain⟨rfl,_⟩:=hp;exact .inr ⟨x,by simp[bm],by simp[hv,names]⟩
   ·cases hp
  ·cases hp
 case mapEnt shs agg z x k=>
  simp only[cy]at hp;unfold gO at hp;split at hp
  ·rename_i hv _;split at hp
   ·simp only[Zaa,Zar]at hp;obtain⟨rfl,_⟩:=hp;exact .inr ⟨x,by simp[bm],by simp[hv,names]⟩
   ·cases hp
  ·cases hp
 case entSt x s y=>
  simp only[cy]at hp;unfold jj at hp;split at hp
  ·rename_i hv _;split at hp
   ·split at hp
    ·simp only[Zaa,Zar]at hp;obtain⟨rfl,_⟩:=hp;exact .inr ⟨x,by simp[bm],by simp[hv,names]⟩
    ·cases hp
   ·cases hp
  ·cases hp
 case mapDel shs agg x k=>
  simp only[cy]at hp;unfold gP at hp;split at hp
  ·rename_i hv _;split at hp
   ·simp only[Zaa,Zar]at hp;obtain⟨rfl,_⟩:=hp;exact .inr ⟨x,by simp[bm],by simp[hv,names]⟩
   ·cases hp
  ·cases hp
 case rangeM x=>
  simp only[cy]at hp;unfold jy at hp;split at hp
  ·split at hp
   ·simp only[Zaa,Zar]at hp;exact .inl hp.1.symm
   ·cases hp
  ·cases hp
 case callF f xs=>
  simp only[cy]at hp;unfold mJ at hp
  (repeat' split at hp)<;>first|(cases hp;done)|(simp only[Zaa,Zar]at hp;exact .inl hp.1.symm)
theorem Kh{r:Nat}{o:Ob}(h:cls d=3)(hl:lays d=false)(hp:(cy Γ d name ρ objs).put=some (r,o)):∃x∈bm d,r∈names (x.ev ρ):=by
 cases d<;>first|(simp[cls]at h;done)|(simp[lays]at hl;done)|skip
 case store n x y=>
  simp only[cy]at hp;unfold jR at hp;split at hp
  ·rename_i hv;split at hp
   ·simp only[Zaa,Zar]at hp;obtain⟨rfl,_⟩:=hp;exact⟨x,by simp[bm],by simp[hv,names]⟩
   ·cases hp
  ·rename_i hv;split at hp
   ·simp only[Zaa,Zar]at hp;obtain⟨rfl,_⟩:=hp;exact⟨x,by simp[bm],by simp[hv,names]⟩
   ·cases hp
  ·cases hp
 case copy sz x y=>
  simp only[cy]at hp;unfold iE at hp;split at hp
  ·cases hp
  ·split at hp
   ·rename_i hv;split at hp
    ·simp only[Zaa,Zar]at hp;obtain⟨rfl,_⟩:=hp;exact⟨x,by simp[bm],by simp[hv,names]⟩
    ·cases hp
   ·rename_i hv;split at hp
    ·simp only[Zaa,Zar]at hp;obtain⟨rfl,_⟩:=hp;exact⟨x,by simp[bm],by simp[hv,names]⟩
    ·cases hp
   ·cases hp
 case mapUpd shs agg x k y=>
  simp only[cy]at hp;unfold gN at hp;split at hp
  ·rename_i hv _;split at hp
   ·simp only[Zaa,Zar]at hp;obtain⟨rfl,_⟩:=hp;exact⟨x,by simp[bm],by simp[hv,names]⟩
   ·cases hp
  ·cases hp
 case mapEnt shs agg z x k=>
  simp only[cy]at hp;unfold gO at hp;split at hp
  ·rename_i hv _;split at hp
   ·simp only[Zaa,Zar]at hp;obtain⟨rfl,_⟩:=hp;exact⟨x,by simp[bm],by simp[hv,names]⟩
   ·cases hp
  ·cases hp
 case entSt x s y=>
  simp only[cy]at hp;unfold jj at hp;split at hp
  ·rename_i hv _;split at hp
   ·split at hp
    ·simp only[Zaa,Zar]at hp;obtain⟨rfl,_⟩:=hp;exact⟨x,by simp[bm],by simp[hv,names]⟩
    ·cases hp
   ·cases hp
  ·cases hp
 case mapDel shs agg x k=>
  simp only[cy]at hp;unfold gP at hp;split at hp
  ·rename_i hv _;split at hp
   ·simp only[Zaa,Zar]at hp;obtain⟨rfl,_⟩:=hp;exact⟨x,by simp[bm],by simp[hv,names]⟩
   ·cases hp
  ·cases hp
theorem GV(h:cls d=0\/cls d=1):(cy Γ d name ρ objs).put=none:=by
 cases d<;>first|(simp[cls]at h;done)|rfl|skip
 case pick c a b=>simp only[cy];split<;>rfl
 case bslice=>simp only[cy];split<;>rfl
 case load n agg x=>simp only[cy];unfold ga;(repeat' split)<;>rfl
 case bin op x y=>simp only[cy];unfold qT;(repeat' split)<;>rfl
 case un op x=>simp only[cy];unfold MS;(repeat' split)<;>rfl
 case conv k x=>simp only[cy];split<;>rfl
 case addOff k x=>simp only[cy];unfold fR;(repeat' split)<;>rfl
 case nilCheck x=>simp only[cy];unfold jx;(repeat' split)<;>rfl
 case idxAddr sz x i=>simp only[cy];unfold pg;(repeat' split)<;>rfl
 case arrAddr n sz x i=>simp only[cy];unfold jq;(repeat' split)<;>rfl
 case field off n agg x=>simp only[cy];unfold mG;(repeat' split)<;>rfl
 case slice sz x lo hi=>simp only[cy];unfold ij;(repeat' split)<;>rfl
 case extract i x=>simp only[cy];unfold ph;(repeat' split)<;>rfl
 case call f xs=>simp only[cy];unfold nA;(repeat' split)<;>rfl
 case callR f xs=>simp only[cy];unfold mI;(repeat' split)<;>rfl
 case len x=>simp only[cy];unfold tQ;(repeat' split)<;>rfl
 case lenS x=>simp only[cy];unfold sr;(repeat' split)<;>rfl
 case minmax m x y=>simp only[cy];unfold mr;(repeat' split)<;>rfl
 case lookup=>simp only[cy];unfold kM;(repeat' split)<;>rfl
 case lenM x=>simp only[cy];unfold pj;(repeat' split)<;>rfl
 case isNil=>simp only[cy];unfold eH;(repeat' split)<;>rfl
 case indexS x i=>simp only[cy];unfold mu;(repeat' split)<;>rfl
theorem X6{r:Nat}{o:Ob}(h:cls d=2)(hp:(cy Γ d name ρ objs).put=some (r,o)):r=name:=by
 cases d<;>first|(simp[cls]at h;done)|skip
 case alloc z=>simp only[cy,Zaa,Zar]at hp;exact hp.1.symm
 case box x=>simp only[cy,Zaa,Zar]at hp;exact hp.1.symm
 case mkMap=>simp only[cy,Zaa,Zar]at hp;exact hp.1.symm
 case mkSlice e sz JQ z n=>
  simp only[cy]at hp;unfold jS at hp;split at hp
  ·simp only[Zaa,Zar]at hp;exact hp.1.symm
  ·cases hp
 case mkSliceB e sz JQ z n=>
  simp only[cy]at hp;unfold eG at hp;split at hp
  ·simp only[Zaa,Zar]at hp;exact hp.1.symm
  ·cases hp
theorem X7{r:Nat}{o:Ob}(h:cls d=3)(hp:(cy Γ d name ρ objs).put=some (r,o)):r=name\/objs r≠none:=by
 cases d<;>first|(simp[cls]at h;done)|skip
 case store n x y=>
  simp only[cy]at hp;unfold jR at hp;split at hp
  ·split at hp
   ·rename_i hc;simp only[Zaa,Zar]at hp;obtain⟨rfl,_⟩:=hp;exact .inr (by simp[hc])
   ·cases hp
  ·split at hp
   ·rename_i hc;simp only[Zaa,Zar]at hp;obtain⟨rfl,_⟩:=hp;exact .inr (by simp[hc])
   ·cases hp
  ·cases hp
 case append e sz JQ x y=>
  simp only[cy]at hp;unfold fS at hp;split at hp
  ·cases hp
  ·split at hp
   ·simp only[Zaa,Zar]at hp;exact .inl hp.1.symm
   ·split at hp
    ·rename_i hc;simp only[Zaa,Zar]at hp;obtain⟨rfl,_⟩:=hp;exact .inr (by simp[hc])
    ·cases hp
   ·split at hp
    ·rename_i hc;simp only[Zaa,Zar]at hp;obtain⟨rfl,_⟩:=hp;exact .inr (by simp[hc])
    ·cases hp
   ·cases hp
 case copy sz x y=>
  simp only[cy]at hp;unfold iE at hp
  (repeat' split at hp)<;>first|(cases hp;done)|(rename_i hc;simp only[Zaa,Zar]at hp;obtain⟨rfl,_⟩:=hp;exact .inr (by simp[hc]))
 case mapUpd=>
  simp only[cy]at hp;unfold gN at hp
  (repeat' split at hp)<;>first|(cases hp;done)|(rename_i hc;simp only[Zaa,Zar]at hp;obtain⟨rfl,_⟩:=hp;exact .inr (by simp[hc]))
 case mapEnt=>
  simp only[cy]at hp;unfold gO at hp
  (repeat' split at hp)<;>first|(cases hp;done)|(rename_i hc;simp only[Zaa,Zar]at hp;obtain⟨rfl,_⟩:=hp;exact .inr (by simp[hc]))
 case entSt=>
  simp only[cy]at hp;unfold jj at hp
  (repeat' split at hp)<;>first|(cases hp;done)|(rename_i hc _ _ _;simp only[Zaa,Zar]at hp;obtain⟨rfl,_⟩:=hp;exact .inr (by simp_all))
 case mapDel=>
  simp only[cy]at hp;unfold gP at hp
  (repeat' split at hp)<;>first|(cases hp;done)|(rename_i hc;simp only[Zaa,Zar]at hp;obtain⟨rfl,_⟩:=hp;exact .inr (by simp[hc]))
 case rangeM=>
  simp only[cy]at hp;unfold jy at hp
  (repeat' split at hp)<;>first|(cases hp;done)|(simp only[Zaa,Zar]at hp;exact .inl hp.1.symm)
 case callF f xs=>
  simp only[cy]at hp;unfold mJ at hp
  (repeat' split at hp)<;>first|(cases hp;done)|(simp only[Zaa,Zar]at hp;exact .inl hp.1.symm)
theorem Ra{r:Nat}{o:Ob}(h:cls d=3)(hl:lays d=false)(hp:(cy Γ d name ρ objs).put=some (r,o)):objs r≠none:=by
 cases d<;>first|(simp[cls]at h;done)|(simp[lays]at hl;done)|skip
 all_goals simp only[cy]at hp
 case store=>unfold jR at hp;(repeat' split at hp)<;>first|(cases hp;done)|(rename_i hc;simp only[Zaa,Zar]at hp;obtain⟨rfl,_⟩:=hp;simp[hc])
 case copy=>unfold iE at hp;(repeat' split at hp)<;>first|(cases hp;done)|(rename_i hc;simp only[Zaa,Zar]at hp;obtain⟨rfl,_⟩:=hp;simp[hc])
 case mapUpd=>unfold gN at hp;(repeat' split at hp)<;>first|(cases hp;done)|(rename_i hc;simp only[Zaa,Zar]at hp;obtain⟨rfl,_⟩:=hp;simp[hc])
 case mapEnt=>unfold gO at hp;(repeat' split at hp)<;>first|(cases hp;done)|(rename_i hc;simp only[Zaa,Zar]at hp;obtain⟨rfl,_⟩:=hp;simp[hc])
 case entSt=>unfold jj at hp;(repeat' split at hp)<;>first|(cases hp;done)|(simp only[Zaa,Zar]at hp;obtain⟨rfl,_⟩:=hp;simp_all)
 case mapDel=>unfold gP at hp;(repeat' split at hp)<;>first|(cases hp;done)|(rename_i hc;simp only[Zaa,Zar]at hp;obtain⟨rfl,_⟩:=hp;simp[hc])
end
end Go.DM
namespace Go.DM
open Go.RowKit
variable [Laid]
def Ki:bp->Option Nat
 |.tmp t=>some t
 |.cm _=>none
def slotsOf(r:RO):List Nat:=(bm r.d).filterMap Ki++(r.guard.map (·.1)).toList
def ZJ:bp->Bool
 |.tmp _=>true
 |.cm (.v _)|.cm .aJ|.cm (.gE _ _)=>true
 |_=>false
def rH(r:RO):Bool:=(bm r.d).all ZJ
def gJ(x y:RO):Bool:=match x.dst with|some d=> !(slotsOf y).contains d|none=>true
def qd(x y:RO):Bool:=match x.dst,y.dst with|some a,some b=>a !=b|_,_=>true
def Kj(a b:Nat):Bool:=((a==3&&(b==1||b==3))||(b==3&&a==1))||((a==4&&b !=0)||(b==4&&a !=0))
def zn(x y:Option (List Nat)):Bool:=match x,y with|some a,some b=>a.all λn=>b.all λm=>n !=m|_,_=>false
def ok4(a b:Nat):Bool:=(a !=4||b==1)&&(b !=4||a==1)
def ZK:nO->Bool
 |.callF .. =>true
 |_=>false
def Rb(a b:nO):Bool:=(ZK a&&cls b==1)||(ZK b&&cls a==1)
def indep(x y:RO):Bool:=
 gJ x y&&gJ y x&&qd x y&&(!Kj (cls x.d) (cls y.d)||(zn x.iQ y.iQ&&ok4 (cls x.d) (cls y.d))||Rb x.d y.d)
def eJ(r:RO):Bool:= !lays r.d||r.dst.isSome
section
variable{Γ:Env}{nxt:Nat}
def Ay(st:RS):Prop:=∀t,dJ st.objs (st.tmps t)
def nm(nxt:Nat)(r:RO):Nat:=nameOf nxt r.dst
def M6(nxt:Nat)(r:RO)(st:RS):Prop:=r.dst.isSome=true->st.objs (nm nxt r)=none
theorem zC{r:RO}{st:RS}{t:Nat}{o:Ob}(hp:(pw Γ nxt r st).put=some (t,o)):(t=nm nxt r/\lays r.d=true)\/(st.objs t≠none/\cls r.d=3):=by
 unfold pw at hp;by_cases h0:cls r.d=0\/cls r.d=1
 ·rw[GV h0]at hp;cases hp
 ·by_cases h2:cls r.d=2
  ·refine .inl ⟨X6 h2 hp, ?_⟩;cases hd:r.d<;>rw[hd]at h2<;>first|rfl|(simp[cls]at h2;done)
  ·have h3:cls r.d=3:=by
    cases hd:r.d<;>rw[hd]at h0 h2<;>first|(simp_all [cls];done)|(rw[hd]at hp;simp[cy,bad]at hp)
   cases hl:lays r.d with
   |true=>
    rcases X7 h3 hp with h|h
    ·exact .inl ⟨h,rfl⟩
    ·exact .inr ⟨h,h3⟩
   |false=>exact .inr ⟨Ra h3 hl hp,h3⟩
theorem ev_upd{x:bp}{ρ:Nat->DV}{dst:Option Nat}{v:DV}(h:∀d,dst=some d->Ki x≠some d):x.ev (cd ρ dst v)=x.ev ρ:=by
 cases x with
 |cm d=>rfl
 |tmp t=>
  cases dst with
  |none=>rfl
  |some d=>
   have:=h d rfl;simp only[Ki,ne_eq,Zaa]at this;simp[bp.ev,cd,this]
theorem yA{x y:RO}(h:gJ x y=true){d:Nat}(hd:x.dst=some d):d∉slotsOf y:=by
 simp only[gJ,hd]at h;simpa using h
theorem u9{x y:RO}(h:gJ x y=true)(ρ:Nat->DV)(v:DV):ef y.guard (cd ρ x.dst v)=ef y.guard ρ:=by
 cases hg:y.guard with
 |none=>rfl
 |some g=>
  obtain⟨s,want⟩:=g;cases hd:x.dst with
  |none=>rfl
  |some d=>
   have hn:=yA h hd;have:s≠d:=λe=>hn (by simp[slotsOf,hg,e]);simp[ef,cd,this]
theorem oM{x y:RO}(h1:gJ x y=true)(ρ:Nat->DV)(v:DV):∀o∈bm y.d,o.ev (cd ρ x.dst v)=o.ev ρ:=λo ho=>ev_upd λd hd hs=>by
  have:=yA h1 hd;exact this (by simp only[slotsOf,Zao,Zbn];exact .inl ⟨o,ho,hs⟩)
theorem nC{x y:RO}(h1:gJ x y=true)(ρ:Nat->DV)(v:DV):ch y (cd ρ x.dst v)↔ch y ρ:=by
 unfold ch;cases y.iQ with
 |none=>rfl
 |some l=>
  constructor
  ·intro h o ho n hn;exact h o ho n (by rw[oM h1 ρ v o ho];exact hn)
  ·intro h o ho n hn;exact h o ho n (by rw[oM h1 ρ v o ho]at hn;exact hn)
theorem oN{x y:RO}{ρ:Nat->DV}(hd:zn x.iQ y.iQ=true)(tx:ch x ρ)(ty:ch y ρ){o p:bp}(ho:o∈bm x.d)(hp:p∈bm y.d){n:Nat}(h1:n∈names (o.ev ρ))(h2:n∈names (p.ev ρ)):False:=by
 unfold zn at hd;unfold ch at tx ty;cases hx:x.iQ with
 |none=>simp[hx]at hd
 |some a=>
  cases hy:y.iQ with
  |none=>simp[hx,hy]at hd
  |some b=>
   simp only[hx,hy]at hd tx ty;have:=ZaI.1 (ZaI.1 hd n (tx o ho n h1)) n (ty p hp n h2);simp at this
theorem py{x:RO}{st:RS}{t:Nat}{o:Ob}(h3x:cls x.d=3)(Qx:eJ x=true)(Az:x.dst.isSome=true->False)
  (X8:(cy Γ x.d (nameOf nxt x.dst) st.tmps st.objs).put=some (t,o)) (h5:t=nameOf nxt x.dst) {C:Prop} (k:∀a∈bm x.d,t∈names (a.ev st.tmps)->C):C:=by
 cases hdx:x.dst with
 |some d=>exact(Az (by simp[hdx])).elim
 |none=>
  have:lays x.d=false:=by simpa [eJ,hdx]using Qx
  obtain⟨a,ha,hn⟩:=Kh h3x this X8;exact k a ha hn
theorem Rc{y:RO}{st:RS}(hcy:rH y=true)(hR:Ay st):∀o∈bm y.d,dJ st.objs (o.ev st.tmps):=λo ho=>by
 have:=ZaI.1 hcy o ho;cases o with
 |tmp t=>exact hR t
 |cm d=>cases d<;>first|(simp[ZJ]at this;done)|simp[bp.ev,dJ]
theorem X9{d:nO}:cls d≠4↔o9 d=false:=by cases d<;>simp[cls,o9]
theorem Kk{d:nO}{ρ Q8:Nat->DV}{objs:aU}{todo:List (List T)}(h:∀x∈bm d,x.ev ρ=x.ev Q8):ma Γ d ρ objs todo=ma Γ d Q8 objs todo:=by
 cases d<;>first|rfl|skip
 case callS f xs=>simp only[ma,iF (xs:=xs) h]
 case entryM x=>simp only[ma,h x (by simp[bm])]
 case callv x xs=>
  have h1:=h x (by simp[bm]);have h2:=iF (xs:=xs) (λy hy=>h y (by simp[bm,hy]));simp only[ma,h1,h2]
theorem ON{f:FuncId}{xs:List bp}{name:Nat}{ρ:Nat->DV}{objs:aU}{t:Nat}{o:Ob}(h:(cy Γ (.callF f xs) name ρ objs).put=some (t,o)):t=name:=by
 simp only[cy,mJ]at h
 (repeat' split at h)<;>simp_all [bad]
theorem OO{x y:RO}{st:RS}(hi:indep x y=true)(JR:o9 x.d=false)(w7:o9 y.d=false)(hcy:rH y=true)(Qx:eJ x=true)(hR:Ay st)(hf:M6 nxt x st)(v:DV)(td:List (List T))(ty:ch y st.tmps){p:Option (Nat×Ob)}(hp:p=none\/(p=(pw Γ nxt x st).put/\ch x st.tmps)):
  pw Γ nxt y ⟨cd st.tmps x.dst v,bV st.objs p,td⟩=pw Γ nxt y st:=by
 simp only[indep,Zam,Zbm,ZbL]at hi;obtain⟨⟨⟨h1,h2⟩,h3⟩,h4⟩:=hi;have hev:=oM h1 st.tmps v;have href:=Rc hcy hR;unfold pw;simp only;rw[wZ hev];rcases hp with rfl|⟨rfl,tx⟩
 ·rfl
 ·cases X8:(pw Γ nxt x st).put with
  |none=>rfl
  |some q=>
   obtain⟨t,o⟩:=q;by_cases hy:cls y.d=0\/cls y.d=2
   ·exact Ax hy
   ·rcases zC X8 with⟨rfl,hl⟩|⟨bH,h3x⟩
    ·refine X5 (λr hr=>?_) href;have hds:x.dst.isSome=true:=by simpa [eJ,hl]using Qx
     have lY:=hf hds;simp only[bV];rw[if_neg];rintro rfl;exact hr lY
    ·rcases h4 with(h4|h4)|h4
     ·exfalso;have:cls y.d=1\/cls y.d=3:=by
       have:=X9.2 w7;cases hd:y.d<;>rw[hd]at hy this<;>simp_all [cls]
      rcases this with h|h<;>simp[h3x,h,Kj]at h4
     ·refine w6 λp hp n hn=>?_;simp only[bV];rw[if_neg];rintro rfl;unfold pw at X8;rcases sx h3x X8 with h5|⟨o',gf,CG⟩
      ·exact py h3x Qx (λe=>bH (by rw[show n=nm nxt x from h5];exact hf e)) X8 h5 (λa ha CG=>oN h4.1 tx ty ha hp CG hn)
      ·exact oN h4.1 tx ty gf hp CG hn
     ·exfalso;unfold Rb at h4;rw[h3x]at h4;have h5:ZK x.d=true:=by
       cases hF:ZK x.d
       ·rw[hF]at h4;simp at h4
       ·rfl
      have h6:lays x.d=true:=by
       cases hd:x.d<;>rw[hd]at h5<;>first|rfl|(simp[ZK]at h5;done)
      have h7:=hf (by simpa [eJ,h6]using Qx);have h8:t=nm nxt x:=by
       unfold pw at X8;cases hd:x.d<;>rw[hd]at h5 X8<;>first|(simp[ZK]at h5;done)|skip
       exact ON X8
      rw[h8]at bH;exact bH h7
theorem Re{x y:RO}(hi:indep x y=true)(h4:o9 x.d=true):cls y.d=0\/(cls y.d=1/\zn x.iQ y.iQ=true):=by
 have c4:cls x.d=4:=by cases hx:x.d<;>rw[hx]at h4<;>simp_all [cls,o9]
 simp only[indep,Zam,Zbm,ZbL]at hi;rcases hi.2 with(h|h)|h
 ·simp[Kj,c4]at h;exact .inl h.1
 ·simp[ok4,c4]at h;exact .inr ⟨h.2.1,h.1⟩
 ·exfalso;have:ZK x.d=false:=by cases hx:x.d<;>rw[hx]at h4<;>simp_all [ZK,o9]
  simp[Rb,this,c4]at h
theorem OP(a b:Nat):Kj a b=Kj b a:=by
 unfold Kj;cases a==3<;>cases b==3<;>cases a==1<;>cases b==1<;>cases a==4<;>cases b==4<;>cases a !=0<;>cases b !=0<;>rfl
theorem AA{x y:RO}(h:qd x y=true):qd y x=true:=by
 unfold qd at h⊢;cases hx:x.dst<;>cases hy:y.dst<;>simp_all
 exact λe=>h e.symm
theorem OQ(a b:Option (List Nat)):zn a b=zn b a:=by
 cases a with
 |none=>cases b<;>rfl
 |some a=>
  cases b with
  |none=>rfl
  |some b=>
   rw[ZcP];simp only[zn,ZaI,bne_iff_ne,ne_eq];exact⟨λh n hn m hm e=>h m hm n hn e.symm,λh n hn m hm e=>h m hm n hn e.symm⟩
theorem tX{x y:RO}(h:indep x y=true):indep y x=true:=by
 simp only[indep,Zam]at h⊢;refine⟨⟨⟨h.1.1.2,h.1.1.1⟩,AA h.1.2⟩, ?_⟩;rw[OP,OQ];have:=h.2;simp only[ZbL,Zam]at this⊢;rcases this with(h|h)|h
 ·exact .inl (.inl h)
 ·refine .inl (.inr ⟨h.1, ?_⟩);simp only[ok4,Zam]at h⊢;exact⟨h.2.2,h.2.1⟩
 ·refine .inr ?_;unfold Rb at h⊢;rw[Bool.or_comm];exact h
def vp(Γ:Env)(nxt:Nat)(r:RO)(st:RS):DV×Option (Nat×Ob):=
 match ef r.guard st.tmps with
 |some true=>((pw Γ nxt r st).val,(pw Γ nxt r st).put)
 |_=>(.skip,none)
def Cy(Γ:Env)(r:RO)(st:RS):DV×aU×List (List T):=
 match ef r.guard st.tmps with
 |some true=>((ma Γ r.d st.tmps st.objs st.todo).val,(ma Γ r.d st.tmps st.objs st.todo).objs,(ma Γ r.d st.tmps st.objs st.todo).todo)
 |_=>(.skip,st.objs,st.todo)
theorem step_eq{r:RO}{st:RS}(h4:o9 r.d=false)(h:bX Γ nxt r st):cN Γ nxt r st=⟨cd st.tmps r.dst (vp Γ nxt r st).1,bV st.objs (vp Γ nxt r st).2,st.todo⟩:=by
 unfold bX at h;unfold cN vp;cases hw:ef r.guard st.tmps with
 |none=>rw[hw]at h;exact h.elim
 |some b=>cases b<;>simp[post,h4,bV]
theorem rJ{r:RO}{st:RS}(h4:o9 r.d=true)(h:bX Γ nxt r st):cN Γ nxt r st=⟨cd st.tmps r.dst (Cy Γ r st).1,(Cy Γ r st).2.1,(Cy Γ r st).2.2⟩:=by
 unfold bX at h;unfold cN Cy;cases hw:ef r.guard st.tmps with
 |none=>rw[hw]at h;exact h.elim
 |some b=>cases b<;>simp[post,h4]
theorem EP(r:RO)(st:RS):(vp Γ nxt r st).2=none\/(vp Γ nxt r st).2=(pw Γ nxt r st).put:=by
 unfold vp;split
 ·exact .inr rfl
 ·exact .inl rfl
theorem ER{r:RO}{st:RS}(h0:cls r.d=0\/cls r.d=1):(vp Γ nxt r st).2=none:=by
 rcases EP (Γ:=Γ) (nxt:=nxt) r st with h|h
 ·exact h
 ·rw[h];exact GV h0
theorem pz{r:RO}{st:RS}(h:bX Γ nxt r st):(vp Γ nxt r st).2=none\/((vp Γ nxt r st).2=(pw Γ nxt r st).put/\ch r st.tmps):=by
 unfold bX at h;unfold vp;cases hw:ef r.guard st.tmps with
 |none=>rw[hw]at h;exact h.elim
 |some b=>
  cases b with
  |false=>exact .inl rfl
  |true=>rw[hw]at h;exact .inr ⟨rfl,h.2.1⟩
theorem OS{d:nO}(h:cls d=0):o9 d=false:=X9.1 (by rw[h];decide)
theorem Kl{x y:RO}{st:RS}(ha:gJ x y=true)(h0:cls y.d=0)(v:DV)(aB:aU)(td:List (List T)):
  vp Γ nxt y ⟨cd st.tmps x.dst v,aB,td⟩=vp Γ nxt y st/\(bX Γ nxt y ⟨cd st.tmps x.dst v,aB,td⟩↔bX Γ nxt y st):=by
 have hw:ef y.guard (cd st.tmps x.dst v)=ef y.guard st.tmps:=u9 ha _ _;have ht:=nC (y:=y) ha st.tmps v;have he:pw Γ nxt y ⟨cd st.tmps x.dst v,aB,td⟩=pw Γ nxt y st:=by
  unfold pw;simp only;rw[wZ (oM ha st.tmps v)];exact Ax (.inl h0)
 refine⟨?_, ?_⟩
 ·unfold vp;simp only[hw,he]
 ·unfold bX post rE;simp only[hw,he,ht,OS h0,ZaK,if_false,false_implies]
theorem Km{x y:RO}{st:RS}(ha:gJ x y=true)(h1:cls y.d=1)(hd:zn x.iQ y.iQ=true)(v:DV)(aB:aU)(td:List (List T))(hk:∀l,x.iQ=some l->∀n,n∉l->aB n=st.objs n)
  (oy:bX Γ nxt y st\/bX Γ nxt y ⟨cd st.tmps x.dst v,aB,td⟩):
  vp Γ nxt y ⟨cd st.tmps x.dst v,aB,td⟩=vp Γ nxt y st/\bX Γ nxt y ⟨cd st.tmps x.dst v,aB,td⟩/\bX Γ nxt y st:=by
 have hw:ef y.guard (cd st.tmps x.dst v)=ef y.guard st.tmps:=u9 ha _ _;have ht:=nC (y:=y) ha st.tmps v;have w7:o9 y.d=false:=X9.1 (by rw[h1];decide);have he:ch y st.tmps->pw Γ nxt y ⟨cd st.tmps x.dst v,aB,td⟩=pw Γ nxt y st:=λty=>by
  unfold pw;simp only;rw[wZ (oM ha st.tmps v)];refine w6 λp hp n hn=>?_;unfold zn at hd;unfold ch at ty;cases hx:x.iQ with
  |none=>simp[hx]at hd
  |some a=>
   cases hyt:y.iQ with
   |none=>simp[hx,hyt]at hd
   |some b=>
    simp only[hx,hyt]at hd ty;refine hk a hx n λhna=>?_;have:=ZaI.1 (ZaI.1 hd n hna) n (ty p hp n hn);simp at this
 unfold bX post rE at oy⊢;unfold vp;simp only[hw,ht,w7,ZaK,if_false,false_implies,and_true]at oy⊢;cases hb:ef y.guard st.tmps with
 |none=>simp only[hb,or_self]at oy
 |some b=>
  cases b with
  |false=>simp
  |true=>
   simp only[hb]at oy⊢;have ty:ch y st.tmps:=by rcases oy with h|h<;>exact h.2
   have he:=he ty;simp only[he]at oy⊢;have:=oy.elim id id;exact⟨trivial,this,this⟩
theorem Rf{x:RO}{st:RS}(h4:o9 x.d=true)(ox:bX Γ nxt x st):∀l,x.iQ=some l->∀n,n∉l->(Cy Γ x st).2.1 n=st.objs n:=by
 unfold bX post rE at ox;unfold Cy;intro l hl n hn;cases hb:ef x.guard st.tmps with
 |none=>simp[hb]at ox
 |some b=>
  cases b with
  |false=>rfl
  |true=>
   simp only[hb,h4,if_true]at ox;exact ox.2.2 trivial l hl n hn
theorem Rg{x y:RO}{st:RS}(hi:indep x y=true)(h4:o9 x.d=true)(ox:bX Γ nxt x st)(oy:bX Γ nxt y st\/bX Γ nxt y ⟨cd st.tmps x.dst (Cy Γ x st).1,(Cy Γ x st).2.1,(Cy Γ x st).2.2⟩):
  vp Γ nxt y ⟨cd st.tmps x.dst (Cy Γ x st).1,(Cy Γ x st).2.1,(Cy Γ x st).2.2⟩=vp Γ nxt y st/\bX Γ nxt y ⟨cd st.tmps x.dst (Cy Γ x st).1,(Cy Γ x st).2.1,(Cy Γ x st).2.2⟩/\bX Γ nxt y st/\(cls y.d=0\/cls y.d=1):=by
 have ha:gJ x y=true:=by simp only[indep,Zam]at hi;exact hi.1.1.1
 rcases Re hi h4 with h|⟨h,hd⟩
 ·obtain⟨e1,e2⟩:=Kl (Γ:=Γ) (nxt:=nxt) (st:=st) ha h (Cy Γ x st).1 (Cy Γ x st).2.1 (Cy Γ x st).2.2;have:=oy.elim id e2.1;exact⟨e1,e2.2 this,this,.inl h⟩
 ·obtain⟨e1,e2,e3⟩:=Km ha h hd _ _ _ (Rf h4 ox) oy;exact⟨e1,e2,e3,.inr h⟩
theorem after{x y:RO}{st:RS}(hi:indep x y=true)(JR:o9 x.d=false)(w7:o9 y.d=false)(hcy:rH y=true)(Qx:eJ x=true)(hR:Ay st)(hf:M6 nxt x st)(ox:bX Γ nxt x st)(oy:bX Γ nxt y st\/bX Γ nxt y (cN Γ nxt x st)):
  vp Γ nxt y (cN Γ nxt x st)=vp Γ nxt y st/\bX Γ nxt y (cN Γ nxt x st)/\bX Γ nxt y st:=by
 rw[step_eq JR ox]at oy⊢;have ha:gJ x y=true:=by simp only[indep,Zam]at hi;exact hi.1.1.1
 have hw:ef y.guard (cd st.tmps x.dst (vp Γ nxt x st).1)=ef y.guard st.tmps:=u9 ha _ _;have ht:=nC (y:=y) ha st.tmps (vp Γ nxt x st).1;have he:ch y st.tmps->_:=λty=>OO (Γ:=Γ) hi JR w7 hcy Qx hR hf (vp Γ nxt x st).1 st.todo ty (pz ox);generalize vp Γ nxt x st=q at oy hw ht he⊢;unfold bX post rE at oy⊢;unfold vp;simp only[hw,ht,w7,ZaK,if_false,false_implies,and_true]at oy⊢;cases hb:ef y.guard st.tmps with
 |none=>simp only[hb,or_self]at oy
 |some b=>
  cases b with
  |false=>simp
  |true=>
   simp only[hb]at oy⊢;have ty:ch y st.tmps:=by rcases oy with h|h<;>exact h.2
   have he:=he ty;simp only[he]at oy⊢;have:=oy.elim id id;exact⟨trivial,this,this⟩
theorem w8{x y:RO}(h3:qd x y=true)(f:Nat->DV)(u v:DV):cd (cd f x.dst u) y.dst v=cd (cd f y.dst v) x.dst u:=by
 funext t;cases hx:x.dst<;>cases hy:y.dst<;>simp only[cd]
 rename_i d e;have hde:d≠e:=by simpa [qd,hx,hy]using h3
 by_cases h1:t=d<;>by_cases h2:t=e<;>simp_all
theorem Rh{x y:RO}{st:RS}(ha:gJ y x=true)(v:DV):Cy Γ x ⟨cd st.tmps y.dst v,st.objs,st.todo⟩=Cy Γ x st/\(o9 x.d=true->(bX Γ nxt x ⟨cd st.tmps y.dst v,st.objs,st.todo⟩↔bX Γ nxt x st)):=by
 have hw:ef x.guard (cd st.tmps y.dst v)=ef x.guard st.tmps:=u9 ha _ _;have ht:=nC (y:=x) ha st.tmps v;have hs:ma Γ x.d (cd st.tmps y.dst v) st.objs st.todo=ma Γ x.d st.tmps st.objs st.todo:=Kk (oM ha st.tmps v);refine⟨?_,λh4=>?_⟩
 ·unfold Cy;simp only[hw,hs]
 ·unfold bX post;simp only[hw,hs,ht,h4,if_true]
theorem swap{x y:RO}{st:RS}(hi:indep x y=true)(Ri:rH x=true)(hcy:rH y=true)(Qx:eJ x=true)(hly:eJ y=true)(hR:Ay st)(Gp:M6 nxt x st)(hfy:M6 nxt y st)
  (ox:bX Γ nxt x st) (oy:bX Γ nxt y (cN Γ nxt x st)):
  bX Γ nxt y st/\bX Γ nxt x (cN Γ nxt y st)/\cN Γ nxt y (cN Γ nxt x st)=cN Γ nxt x (cN Γ nxt y st):=by
 have nB:=hi;simp only[indep,Zam]at nB;obtain⟨⟨⟨h1,h2⟩,h3⟩,h4⟩:=nB;by_cases JR:o9 x.d=true
 ·rw[rJ JR ox]at oy⊢;obtain⟨e1,_,Rj,y0⟩:=Rg hi JR ox (.inr oy);have w7:o9 y.d=false:=X9.1 (by rcases y0 with h|h<;>rw[h]<;>decide)
  rw[step_eq w7 oy,step_eq w7 Rj,e1,ER y0];obtain⟨e3,e4⟩:=Rh (Γ:=Γ) (nxt:=nxt) (x:=x) (y:=y) (st:=st) h2 (vp Γ nxt y st).1;have Ya:=(e4 JR).2 ox;refine⟨Rj,Ya, ?_⟩;simp only[bV]at Ya⊢;rw[rJ JR Ya,e3];simp only;rw[w8 h3]
 ·have JR:o9 x.d=false:=by simpa using JR
  by_cases w7:o9 y.d=true
  ·have x0:cls x.d=0\/cls x.d=1:=by
    rcases Re (tX hi) w7 with h|⟨h,_⟩
    ·exact .inl h
    ·exact .inr h
   rw[step_eq JR ox,ER x0]at oy⊢;simp only[bV]at oy⊢;obtain⟨e3,e4⟩:=Rh (Γ:=Γ) (nxt:=nxt) (x:=y) (y:=x) (st:=st) h1 (vp Γ nxt x st).1;have Rj:=(e4 w7).1 oy;rw[rJ w7 oy,rJ w7 Rj,e3];obtain⟨e1,Ya,_,_⟩:=Rg (tX hi) w7 Rj (.inl ox);refine⟨Rj,Ya, ?_⟩;rw[step_eq JR Ya,e1,ER x0];simp only[bV];rw[w8 h3]
  ·have w7:o9 y.d=false:=by simpa using w7
   have a1:=after (Γ:=Γ) hi JR w7 hcy Qx hR Gp ox (.inr oy);have Rj:=a1.2.2;have a2:=after (Γ:=Γ) (tX hi) w7 JR Ri hly hR hfy Rj (.inl ox);have Ya:=a2.2.1;refine⟨Rj,Ya, ?_⟩;have tx:=pz ox;have ty:=pz Rj;rw[step_eq w7 oy,step_eq JR Ya,a1.1,a2.1,step_eq JR ox,step_eq w7 Rj]
   congr 1
   ·exact w8 h3 _ _ _
   ·funext t;cases hx:(vp Γ nxt x st).2 with
    |none=>cases(vp Γ nxt y st).2<;>rfl
    |some p=>
     cases hy:(vp Γ nxt y st).2 with
     |none=>rfl
     |some q=>
      obtain⟨t1,o1⟩:=p;obtain⟨t2,o2⟩:=q;have e1:=zC (((EP (Γ:=Γ) (nxt:=nxt) x st).resolve_left (by simp[hx])).symm.trans hx);have e2:=zC (((EP (Γ:=Γ) (nxt:=nxt) y st).resolve_left (by simp[hy])).symm.trans hy);have bH:t1≠t2:=by
       rcases e1 with⟨rfl,l1⟩|⟨n1,c1⟩<;>rcases e2 with⟨rfl,l2⟩|⟨n2,c2⟩
       ·have s1:x.dst.isSome=true:=by simpa [eJ,l1]using Qx
        have s2:y.dst.isSome=true:=by simpa [eJ,l2]using hly
        obtain⟨d1,OT⟩:=Zbu.1 s1;obtain⟨d2,hd2⟩:=Zbu.1 s2;have:d1≠d2:=by simpa [qd,OT,hd2]using h3
        simp[nm,nameOf,OT,hd2,this]
       ·rintro rfl;exact n2 (Gp (by simpa [eJ,l1]using Qx))
       ·rintro rfl;exact n1 (hfy (by simpa [eJ,l2]using hly))
       ·simp only[ZbL,Zam]at h4;rcases h4 with(h4|h4)|h4
        ·simp[Kj,c1,c2]at h4
        ·rintro rfl;have p1:=(tx.resolve_left (by simp[hx])).1.symm.trans hx;have p2:=(ty.resolve_left (by simp[hy])).1.symm.trans hy;have q1:=(tx.resolve_left (by simp[hx])).2;have q2:=(ty.resolve_left (by simp[hy])).2;unfold pw at p1 p2;rcases sx c1 p1 with h5|⟨o,ho,hn⟩
         ·exact py c1 Qx (λe=>n1 (by rw[show t1=nm nxt x from h5];exact Gp e)) p1 h5 (λo ho hn=>by
           rcases sx c2 p2 with h6|⟨o',gf,CG⟩
           ·exact py c2 hly (λe=>n2 (by rw[show t1=nm nxt y from h6];exact hfy e)) p2 h6 (λo' gf CG=>oN h4.1 q1 q2 ho gf hn CG)
           ·exact oN h4.1 q1 q2 ho gf hn CG)
         ·rcases sx c2 p2 with h6|⟨o',gf,CG⟩
          ·exact py c2 hly (λe=>n2 (by rw[show t1=nm nxt y from h6];exact hfy e)) p2 h6 (λo' gf CG=>oN h4.1 q1 q2 ho gf hn CG)
          ·exact oN h4.1 q1 q2 ho gf hn CG
        ·simp[Rb,c1,c2]at h4
      simp only[bV];by_cases h1:t=t1<;>by_cases h2:t=t2<;>simp_all
end
end Go.DM
namespace Go.DM
open Go.RowKit
variable [Laid]
def guardOf(ops:Array Oper)(o:Oper):Option (Option (Nat×Bool)):=
 match o.guard with
 |none=>some none
 |some (j,b)=>((ops[j]?).bind (·.dst)).map λs=>some (s,b)
def cO(P:Program)(ops:Array Oper)(o:Oper):Option RO:=do
 let d<-cI P o
 let g<-guardOf ops o
 pure ⟨d,o.dst,g,(o.after.toList.filter (Region.binds .any ·)).map (·.on),none⟩
def bare(r:RO):RO:=⟨yy r.d,r.dst,r.guard,r.after,none⟩
def eK(P:Program)(ops:Array Oper):Option (List RO):=ops.toList.mapM (cO P ops)
def iS(Γ:Env)(nxt:Nat):List RO->RS->Prop
 |[],_=>True
 |r::rs,st=>bX Γ nxt r st/\iS Γ nxt rs (cN Γ nxt r st)
def cP(Γ:Env)(nxt:Nat):List RO->RS->RS
 |[],st=>st
 |r::rs,st=>cP Γ nxt rs (cN Γ nxt r st)
def kq(nt:Nat)(r:RO):Bool:=rH r&&eJ r&&(match r.dst with|some d=>decide (d<nt)|none=>true)
def dM:List RO->Bool
 |[]=>true
 |r::rs=>rs.all (qd r)&&dM rs
def mP(acc:List Nat)(as:List Nat):Nat:=as.foldl (λm j=>m|||(1<<<j)|||acc.getD j 0) 0
def lE(rs:List RO):List Nat:=rs.foldl (λacc r=>acc++[mP acc r.after]) []
def sy(rs:List RO)(ms:List Nat):Bool:=
 (List.range rs.length).all λi=>match rs[i]?,ms[i]? with
  |some y,some m=>y.after.all (·<i)&&(List.range i).all λx=>m.testBit x||(match rs[x]? with|some r=>indep r y|none=>false)
  |_,_=>false
def db(nt:Nat)(draw:Bool)(rs:List RO):Bool:=rs.all (kq nt)&&dM rs&&(!draw||sy rs (lE rs))
section
variable{P:Program}{κ:Ctx}{nt:Nat}{Γ:Env}{nxt:Nat}{ro:Option Nat}{n:Nat}
theorem Yb{o:Oper}{a:Act}{w:World}{K:Act->World->Prop}(h:o.wpIn (iR ro) n P a w K (λ_ _ _=>False)):∃a w,K a w:=by
 have h:=h.2;generalize (o.semAt (iR ro).round a.eval).run P w=r at h;cases r with
 |ok x w'=>
  cases x<;>simp only[Oper.uponIn]at h
  case value v=>exact⟨_,_,h⟩
  case skip=>exact⟨_,_,h⟩
  case defer d=>exact⟨_,_,h⟩
  case enter f args=>
   obtain⟨_,_,hc⟩:=h;obtain⟨e,w2,fr,hR,_⟩:=hc [] (λd hd=>by cases hd);cases e with
   |returned v=>exact⟨_,_,hR⟩
   |panicked c=>exact hR.elim
   |outgrown=>obtain⟨_,_,hf⟩:=hR;exact hf.elim
  case row r args=>
   obtain⟨_,hc⟩:=h;obtain⟨v,w2,hR,_⟩:=hc default [] (λd hd=>by cases hd);exact⟨_,_,hR⟩
  case round l f t as b=>
   obtain⟨_,_,hc⟩:=h;obtain⟨e,w2,hR,_⟩:=hc default [] (λd hd=>by cases hd);cases e with
   |returned v=>exact⟨_,_,hR⟩
   |panicked c=>exact hR.elim
   |outgrown=>obtain⟨_,_,hf⟩:=hR;exact hf.elim
 |halt x w'=>cases x<;>simp only[Oper.uponIn]at h
theorem fk{ops:Array Oper}{o:Oper}{r:RO}(h:cO P ops o=some (bare r)):cI P o=some (yy r.d)/\guardOf ops o=some r.guard/\r.dst=o.dst/\r.after=(o.after.toList.filter (Region.binds .any ·)).map (·.on):=by
 simp only[cO,Zak,Zaf,Zac,Zaa]at h;obtain⟨d,hd,g,hg,he⟩:=h;obtain⟨d',ds,gd,af,tc⟩:=r;simp only[bare,RO.mk.injEq,and_true]at he;obtain⟨rfl,rfl,rfl,rfl⟩:=he;exact⟨hd,hg,rfl,rfl⟩
theorem Df{ops:Array Oper}{o:Oper}{r:RO}{st:RS}{a:Act}{w:World}{L:Loc}(hg:guardOf ops o=some r.guard)(h:dI κ nt st a w L){b:Bool}(hw:ef r.guard st.tmps=some b):
  Region.wanted o (yielded ops a.tmps)=b:=by
 unfold guardOf at hg;cases ho:o.guard with
 |none=>
  rw[ho]at hg;simp only[Zaa]at hg;rw[<-hg]at hw;simp only[ef,Zaa]at hw;simp[Region.wanted,ho,hw]
 |some jb=>
  obtain⟨j,want⟩:=jb;rw[ho]at hg;simp only[Zab]at hg;obtain⟨s,hs,yo⟩:=hg;rw[<-yo]at hw;simp only[ef]at hw;obtain⟨W,base,M,w0,_,h0⟩:=h.ex;have eI:=h0.tmps s;simp only[Region.wanted,ho,yielded,hs,Zb8];split at hw
  ·rename_i x hx;rw[hx]at eI;simp only[av,aS]at eI;simp only[Zaa]at hw;have:a.tmps[s]? =some (.bool x):=by
    rw[Zay]at eI;cases he:a.tmps[s]? with
    |none=>rw[he]at eI;simp[Go.undef]at eI
    |some y=>rw[he]at eI;simpa using eI
   rw[this,<-hw];simp
  ·rename_i hx;rw[hx]at eI;simp only[av]at eI;simp only[Zaa]at hw;subst hw;rw[Zay]at eI;cases he:a.tmps[s]? with
   |none=>simp
   |some y=>
    rw[he]at eI;simp only[Zbc]at eI;subst eI;simp[Go.undef]
  ·cases hw
theorem iq(aw:ay P Γ)(wG:κ.Good P){ops:Array Oper}{i:Nat}{o:Oper}{r:RO}(ho:ops[i]? =some o)(hr:cO P ops o=some (bare r))(Kg:kq nt r=true){st:RS}{a:Act}{w:World}{L:Loc}(h:dI κ nt st a w L)
  (dz:st.objs (nm nxt r)=none) (aG:bX Γ nxt r st) {K:Act->World->Prop} {Q:Exit->Act->World->Prop} (hK:∀a' w' L',dI κ nt (cN Γ nxt r st) a' w' L'->K a' w'):
  wpOpIn (iR ro) n P ops Q i K a w:=by
 obtain⟨hd,hg,jU,_⟩:=fk hr;have ES:∀d,r.dst=some d->d<nt:=by
  intro d hd;simp only[kq,hd,Zam,decide_eq_true_eq]at Kg;exact Kg.2
 unfold wpOpIn;simp only[ho];unfold bX at aG;unfold cN at hK;cases hw:ef r.guard st.tmps with
 |none=>rw[hw]at aG;exact aG.elim
 |some b=>
  rw[hw]at aG hK;rw[Df hg h hw];cases b with
  |true=>
   simp only[if_true]at aG hK⊢;exact M3 aw wG hd jU h ES dz aG.1 hK
  |false=>
   simp only[ZaK,if_false];refine⟨mM o w _, ?_⟩;rw[<-jU];exact hK _ _ _ (h.skip r.dst ES)
theorem OU(aw:ay P Γ)(wG:κ.Good P){ops:Array Oper}{o:Oper}{r:RO}(hr:cO P ops o=some (bare r))(Kg:kq nt r=true){st:RS}(h:∃a w L,dI κ nt st a w L)(dz:st.objs (nm nxt r)=none)(aG:bX Γ nxt r st):
  ∃a w L,dI κ nt (cN Γ nxt r st) a w L:=by
 obtain⟨a,w,L,h⟩:=h;obtain⟨hd,hg,jU,_⟩:=fk hr;have ES:∀d,r.dst=some d->d<nt:=by
  intro d hd;simp only[kq,hd,Zam,decide_eq_true_eq]at Kg;exact Kg.2
 unfold bX at aG;unfold cN;cases hw:ef r.guard st.tmps with
 |none=>rw[hw]at aG;exact aG.elim
 |some b=>
  rw[hw]at aG;cases b with
  |true=>
   have:=M3 (ro:=none) (n:=0) (K:=λa' w'=>∃L',dI κ nt ⟨cd st.tmps r.dst (post Γ nxt r st).val,(post Γ nxt r st).objs,(post Γ nxt r st).todo⟩ a' w' L') (Q:=λ_ _ _=>False) aw wG hd jU h ES dz aG.1 (λa' w' L' h'=>⟨L',h'⟩);obtain⟨a',w',L',h'⟩:=Yb this;exact⟨a',w',L',h'⟩
  |false=>exact⟨_,_,_,h.skip r.dst ES⟩
theorem AB{st:RS}(h:∃a w L,dI κ nt st a w L):Ay st:=by
 obtain⟨a,w,L,h⟩:=h;obtain⟨W,base,M,w0,_,h0⟩:=h.ex;exact λt=>dJ.bq _ _ (h0.tmps t)
def gm(nxt:Nat)(rs:List RO)(st:RS):Prop:=st.objs nxt=none/\∀r∈rs,st.objs (nm nxt r)=none
theorem Dg(aw:ay P Γ){r:RO}{st:RS}(aG:bX Γ nxt r st){t:Nat}(ht:st.objs t=none)(hn:lays r.d=true->t≠nm nxt r):(cN Γ nxt r st).objs t=none:=by
 by_cases h4:o9 r.d=true
 ·rw[rJ h4 aG];unfold bX post at aG;unfold Cy;cases hw:ef r.guard st.tmps with
  |none=>rw[hw]at aG;exact aG.elim
  |some b=>
   cases b with
   |false=>exact ht
   |true=>
    rw[hw]at aG;simp only[h4,if_true]at aG⊢;have aG:=aG.1;cases hd:r.d<;>rw[hd]at h4 aG<;>first|(simp[o9]at h4;done)|skip
    case callS f args=>
     simp only[ma]at aG⊢;cases hg:Γ f with
     |none=>exact ht
     |some s=>
      simp only[hg]at aG⊢;cases hk:s.st with
      |none=>exact ht
      |some k=>
       simp only[hk]at aG⊢;exact((aw f s hg).st k hk _ _ aG).2 t ht
    case callv x args=>
     simp only[ma]at aG⊢;cases hx:x.ev st.tmps with
     |mF f caps=>
      rw[hx]at aG;cases f with
      |func g=>
       simp only at aG⊢;cases hg:Γ g with
       |none=>exact ht
       |some s=>
        simp only[hg]at aG⊢;cases hk:s.st with
        |none=>exact ht
        |some k=>
         simp only[hk]at aG⊢;exact((aw g s hg).st k hk _ _ aG).2 t ht
      |_=>exact ht
     |C1=>simp only;split<;>exact ht
     |v t=>
      cases t with
      |fn f caps=>
       rw[hx]at aG;cases f with
       |func g=>
        simp only at aG⊢;cases hg:Γ g with
        |none=>exact ht
        |some s=>
         simp only[hg]at aG⊢;cases hk:s.st with
         |none=>exact ht
         |some k=>
          simp only[hk]at aG⊢;exact((aw g s hg).st k hk _ _ aG).2 t ht
       |_=>exact ht
      |_=>exact ht
     |_=>exact ht
    case entryM x=>exact ht
 have h4:o9 r.d=false:=by simpa using h4
 rw[step_eq h4 aG];cases hp:(vp Γ nxt r st).2 with
 |none=>exact ht
 |some p=>
  obtain⟨t1,o1⟩:=p;have e1:=zC (((EP (Γ:=Γ) (nxt:=nxt) r st).resolve_left (by simp[hp])).symm.trans hp);simp only[bV];rw[if_neg]
  ·exact ht
  ·rintro rfl;rcases e1 with⟨h1,h2⟩|⟨h1,_⟩
   ·exact hn h2 h1
   ·exact h1 ht
theorem jC(aw:ay P Γ){r:RO}{st:RS}(hl:eJ r=true)(aG:bX Γ nxt r st){rs:List RO}(bH:∀y∈rs,qd r y=true/\y.dst.isSome=true\/y.dst=none)(h:gm nxt rs st):gm nxt rs (cN Γ nxt r st):=by
 have key:∀t,st.objs t=none->(lays r.d=true->t≠nm nxt r)->(cN Γ nxt r st).objs t=none:=λt ht hn=>Dg aw aG ht hn;have AD:lays r.d=true->∃d,r.dst=some d:=λhr=>Zbu.1 (by simpa [eJ,hr]using hl);refine⟨key _ h.1 λhr=>?_,λy hy=>key _ (h.2 y hy) λhr=>?_⟩
 ·obtain⟨d,hd⟩:=AD hr;simp[nm,nameOf,hd];omega
 ·obtain⟨d,hd⟩:=AD hr;rcases bH y hy with⟨h1,h2⟩|h2
  ·obtain⟨e,he⟩:=Zbu.1 h2;have:d≠e:=by simpa [qd,hd,he]using h1
   simp[nm,nameOf,hd,he];omega
  ·simp[nm,nameOf,hd,h2];omega
theorem iu{r:RO}{rs:List RO}(h:dM (r::rs)=true):∀y∈rs,qd r y=true/\y.dst.isSome=true\/y.dst=none:=by
 intro y hy;simp only[dM,Zam,ZaI]at h;cases hd:y.dst with
 |none=>exact .inr rfl
 |some d=>exact .inl ⟨h.1 y hy,rfl⟩
theorem yB(aw:ay P Γ)(wG:κ.Good P){ops:Array Oper}{Q:Exit->Act->World->Prop}:∀(l:List Nat) (rs:List RO),(∀(k:Nat) (i:Nat),l[k]? =some i->∃o r,ops[i]? =some o/\rs[k]? =some r/\cO P ops o=some (bare r))->rs.length=l.length->rs.all (kq nt)=true->dM rs=true->
  ∀(st:RS) (a:Act) (w:World) (L:Loc),dI κ nt st a w L->gm nxt rs st->iS Γ nxt rs st->(∀a' w' L',dI κ nt (cP Γ nxt rs st) a' w' L'->Q .normal a' w')->wpOpsIn (iR ro) n P ops Q l a w
 |[],rs,_,hl,_,_,st,a,w,L,h,_,_,hQ=>by
  have:rs=[]:=ZaD (by simpa using hl);subst this;exact hQ a w L h
 |i::l,[],_,hl,_,_,_,_,_,_,_,_,_,_=>by simp at hl
 |i::l,r::rs,hk,hl,dK,bH,st,a,w,L,h,hf,aG,hQ=>by
  obtain⟨o,r',ho,ff,hc⟩:=hk 0 i rfl;simp only[ZaG,Zaa]at ff;subst ff;simp only[ZcC,Zam]at dK;simp only[iS]at aG;have hlay:eJ r=true:=by have:=dK.1;simp only[kq,Zam]at this;exact this.1.2
  rw[wpOpsIn_cons];refine iq aw wG ho hc dK.1 h (hf.2 r (by simp)) aG.1 λa' w' L' h'=>?_;refine yB aw wG l rs (λk j hj=>hk (k+1) j (by simpa using hj)) (by simpa using hl) dK.2 (by simp only[dM,Zam]at bH;exact bH.2) _ a' w' L' h' ?_ aG.2 hQ;exact jC aw hlay aG.1 (iu bH) ⟨hf.1,λy hy=>hf.2 y (by simp[hy])⟩
theorem mQ{ops:Array Oper}{rs:List RO}(h:eK P ops=some (rs.map bare)):rs.length=ops.size/\∀(i:Nat) (o:Oper),ops[i]? =some o->∃r,rs[i]? =some r/\cO P ops o=some (bare r):=by
 unfold eK at h;have key:∀(l:List Oper) (rs:List RO),l.mapM (cO P ops)=some rs->rs.length=l.length/\∀(i:Nat) (o:Oper),l[i]? =some o->∃r,rs[i]? =some r/\cO P ops o=some r:=by
  intro l;induction l with
  |nil=>intro rs h;simp at h;subst h;simp
  |cons x l ih=>
   intro rs h;simp only[Za1,Zak,Zaf,Zac,Zaa]at h;obtain⟨r,hr,rs',jM,rfl⟩:=h;have:=ih rs' jM;refine⟨by simp[this.1],λi o ho=>?_⟩;cases i with
   |zero=>simp only[ZaG,Zaa]at ho;subst ho;exact⟨r,rfl,hr⟩
   |succ i=>simpa using this.2 i o (by simpa using ho)
 have:=key _ _ h;refine⟨by simpa using this.1,λi o ho=>?_⟩;obtain⟨r,h1,h2⟩:=this.2 i o (by simpa using ho);simp only[Zbp,Zab]at h1;obtain⟨q,h1,rfl⟩:=h1;exact⟨q,h1,h2⟩
theorem GW(aw:ay P Γ)(wG:κ.Good P){id:Nat}{ops:Array Oper}{rs:List RO}(hc:eK P ops=some (rs.map bare))(aG:db nt false rs=true){Q:Exit->Act->World->Prop}{st:RS}{a:Act}{w:World}{L:Loc}(h:dI κ nt st a w L)
  (hf:gm nxt rs st) (bz:iS Γ nxt rs st) (hQ:∀a' w' L',dI κ nt (cP Γ nxt rs st) a' w' L'->Q .normal a' w'):(Code.region id ops false).wpIn (iR ro) n P Q a w:=by
 have hg:=mQ hc;simp only[db,Zam]at aG;refine wpIn_region (yB aw wG (List.range ops.size) rs (λk i hi=>?_) (by simpa using hg.1) aG.1.1 aG.1.2 st a w L h hf bz hQ);obtain⟨hk,JO⟩:=Zas.1 hi;simp only[ZcE]at hk;simp only[ZcB]at JO;subst JO;obtain⟨r,h1,h2⟩:=hg.2 k ops[k] (by simp[hk]);exact⟨ops[k],r,by simp[hk],h1,h2⟩
theorem AE(aw:ay P Γ)(wG:κ.Good P){ops:Array Oper}{r:RO}{post:List RO}(hr:kq nt r=true):∀(pre:List RO),(∀x∈pre,indep x r=true/\kq nt x=true/\∃o,cO P ops o=some (bare x))->dM (pre++r::post)=true->
  ∀(st:RS),(∃a w L,dI κ nt st a w L)->gm nxt (pre++r::post) st->iS Γ nxt (pre++r::post) st->
   bX Γ nxt r st/\iS Γ nxt (pre++post) (cN Γ nxt r st)/\cP Γ nxt (pre++post) (cN Γ nxt r st)=cP Γ nxt (pre++r::post) st
 |[],_,_,st,_,_,h=>⟨h.1,h.2,rfl⟩
 |x::pre,tV,bH,st,ZL,Az,h=>by
  simp only[ZaH,iS]at h;obtain⟨hi,hx,o,hc⟩:=tV x (by simp);have Ri:rH x=true/\eJ x=true:=by simp only[kq,Zam]at hx;exact hx.1
  have hcr:rH r=true/\eJ r=true:=by simp only[kq,Zam]at hr;exact hr.1
  have hreal':=OU aw wG hc hx ZL (Az.2 x (by simp)) h.1;have hne':dM (pre++r::post)=true:=by simp only[ZaH,dM,Zam]at bH;exact bH.2
  have hfree':gm nxt (pre++r::post) (cN Γ nxt x st):=jC aw Ri.2 h.1 (iu bH) ⟨Az.1,λy hy=>Az.2 y (by simp only[ZaH,Zag];exact .inr hy)⟩;obtain⟨i1,i2,i3⟩:=AE aw wG hr pre (λy hy=>tV y (by simp[hy])) hne' _ hreal' hfree' h.2;obtain⟨s1,s2,s3⟩:=swap hi Ri.1 hcr.1 Ri.2 hcr.2 (AB ZL) (λ_=>Az.2 x (by simp)) (λ_=>Az.2 r (by simp)) h.1 i1;refine⟨s1,⟨s2,by rw[<-s3];exact i2⟩, ?_⟩;simp only[ZaH,cP];rw[<-s3];exact i3
def rem(n:Nat)(listed:Array Bool):List Nat:=(List.range n).filter λi=> !listed.getD i true
theorem nD{n:Nat}{listed:Array Bool}{i:Nat}:i∈rem n listed↔i<n/\listed.getD i true=false:=by
 simp[rem]
theorem range_split{n i:Nat}(h:i<n):List.range n=List.range i++i::List.range' (i+1) (n-i-1):=by
 have h1:n=i+(1+(n-i-1)):=by omega
 rw[Zcq,Zcq]
 conv=>lhs;rw[h1]
 rw[<-List.range'_append_1,ZaX,<-List.range'_append_1];simp
theorem OV{n i:Nat}{listed:Array Bool}(hs:listed.size=n)(hi:i∈rem n listed):∃pre post,rem n listed=pre++i::post/\rem n (listed.setIfInBounds i true)=pre++post/\(∀x∈pre,x<i/\x∈rem n listed):=by
 obtain⟨h1,h2⟩:=nD.1 hi;have Kn:∀j,j≠i->(listed.setIfInBounds i true).getD j true=listed.getD j true:=λj hj=>getD_set_ne true (Ne.symm hj);have hself:(listed.setIfInBounds i true).getD i true=true:=by
  rw[Zay,Zb3];simp[hs,h1]
 refine⟨(List.range i).filter (λj=> !listed.getD j true),(List.range' (i+1) (n-i-1)).filter (λj=> !listed.getD j true), ?_, ?_, ?_⟩
 ·unfold rem;rw[range_split h1,List.filter_append,Za7];simp[h2]
 ·unfold rem;rw[range_split h1,List.filter_append,Za7];simp only[hself,Zci,ZaK,if_false]
  congr 1
  ·refine List.filter_congr λj hj=>?_;rw[Kn j (by have:=ZaM.1 hj;omega)]
  ·refine List.filter_congr λj hj=>?_;rw[Kn j (by have:=Zbh.1 hj;omega)]
 ·intro x hx;simp only[ZaP,ZaM,Zbm]at hx;exact⟨hx.1,nD.2 ⟨by omega,hx.2⟩⟩
theorem Yc{k:Nat}(h:(1:Nat).testBit k=true):k=0:=by
 cases k with
 |zero=>rfl
 |succ k=>simp[Nat.testBit_succ]at h
theorem AF(acc:List Nat):∀(as:List Nat) (m x:Nat),(as.foldl (λm j=>m|||(1<<<j)|||acc.getD j 0) m).testBit x=true->m.testBit x=true\/x∈as\/∃j∈as,(acc.getD j 0).testBit x=true
 |[],m,x,h=>.inl h
 |j::as,m,x,h=>by
  simp only[Zaz]at h;rcases AF acc as _ x h with h|h|⟨k,hk,h⟩
  ·simp only[Nat.testBit_or,ZbL,Nat.testBit_shiftLeft,Zam,decide_eq_true_eq,ge_iff_le]at h;rcases h with(h|⟨h1,h2⟩)|h
   ·exact .inl h
   ·have:=Yc h2;have:x=j:=by omega
    exact .inr (.inl (by simp[this]))
   ·exact .inr (.inr ⟨j,by simp,h⟩)
  ·exact .inr (.inl (by simp[h]))
  ·exact .inr (.inr ⟨k,by simp[hk],h⟩)
theorem AG:∀(rs:List RO) (acc:List Nat),(rs.foldl (λacc r=>acc++[mP acc r.after]) acc).take acc.length=acc/\
  ∀(k:Nat) (r:RO),rs[k]? =some r->(rs.foldl (λacc r=>acc++[mP acc r.after]) acc)[acc.length+k]? =some (mP ((rs.foldl (λacc r=>acc++[mP acc r.after]) acc).take (acc.length+k)) r.after)
 |[],acc=>⟨by simp,by simp⟩
 |r::rs,acc=>by
  have ih:=AG rs (acc++[mP acc r.after]);simp only[Zaz];generalize hm:rs.foldl (λacc r=>acc++[mP acc r.after]) (acc++[mP acc r.after])=ms at ih;simp only[ZaB,Za9,Zcc,ZaX]at ih;have h1:ms.take acc.length=acc:=by
   have:=congrArg (List.take acc.length) ih.1;rw[Zcw]at this;simpa [show min acc.length (acc.length+1)=acc.length by omega]using this
  refine⟨h1,λk q hq=>?_⟩;cases k with
  |zero=>
   simp only[ZaG,Zaa]at hq;subst hq;rw[ZbG,h1];have h2:(ms.take (acc.length+1))[acc.length]? =some (mP acc r.after):=by rw[ih.1];simp
   rw[ZaF]at h2;simpa using h2
  |succ k=>
   have:=ih.2 k q (by simpa using hq)
   rwa [show acc.length+1+k=acc.length+(k+1)by omega]at this
theorem OW{rs:List RO}{i m x:Nat}{r:RO}(hr:rs[i]? =some r)(hm:(lE rs)[i]? =some m)(hx:m.testBit x=true)(cV:∀j∈r.after,j<i):x∈r.after\/∃j∈r.after,∃mj,(lE rs)[j]? =some mj/\mj.testBit x=true:=by
 have:=(AG rs []).2 i r hr;simp only[Zcc,ZaX]at this;have EA:(lE rs)[i]? =some (mP ((lE rs).take i) r.after):=this;rw[hm]at EA;simp only[Zaa]at EA;subst EA;unfold mP at hx;rcases AF _ _ _ _ hx with h|h|⟨j,hj,h⟩
 ·simp at h
 ·exact .inl h
 ·refine .inr ⟨j,hj, ?_⟩;have hji:=cV j hj;rw[List.getD,ZaF,if_pos hji]at h;cases hmj:(lE rs)[j]? with
  |none=>rw[hmj]at h;simp at h
  |some mj=>rw[hmj]at h;exact⟨mj,rfl,by simpa using h⟩
theorem vd{rs:List RO}{listed:Array Bool}(hp:∀(i:Nat) (y:RO),rs[i]? =some y->∀j∈y.after,j<i)(bj:∀(j:Nat) (y:RO),listed.getD j false=true->rs[j]? =some y->∀e∈y.after,listed.getD e false=true):
  ∀(i:Nat) (y:RO) (m x:Nat),rs[i]? =some y->(lE rs)[i]? =some m->m.testBit x=true->(∀e∈y.after,listed.getD e false=true)->listed.getD x false=true:=by
 intro i;induction i using Nat.strongRecOn with
 |_ i ih=>
  intro y m x hy hm hx hd;rcases OW hy hm hx (hp i y hy)with h|⟨j,hj,mj,hmj,hxj⟩
  ·exact hd x h
  ·have hji:=hp i y hy j hj;have hlen:j<rs.length:=by
    have:=(Zas.1 hy).1;omega
   have hyj:rs[j]? =some rs[j]:=by simp[hlen]
   exact ih j hji rs[j] mj x hyj hmj hxj (bj j _ (hd j hj) hyj)
theorem AH{rs:List RO}(h:sy rs (lE rs)=true):(∀(i:Nat) (y:RO),rs[i]? =some y->∀j∈y.after,j<i)/\
  ∀(i x:Nat) (y r:RO),rs[i]? =some y->x<i->rs[x]? =some r->indep r y=true\/∃m,(lE rs)[i]? =some m/\m.testBit x=true:=by
 unfold sy at h;rw[ZaI]at h;have key:∀(i:Nat) (y:RO),rs[i]? =some y->∃m,(lE rs)[i]? =some m/\(∀j∈y.after,j<i)/\∀x,x<i->m.testBit x=true\/∃r,rs[x]? =some r/\indep r y=true:=by
  intro i y hy;have:=h i (ZaM.2 (Zas.1 hy).1);rw[hy]at this;cases hm:(lE rs)[i]? with
  |none=>rw[hm]at this;simp at this
  |some m=>
   rw[hm]at this;simp only[Zam,ZaI,decide_eq_true_eq,ZaM,ZbL]at this;refine⟨m,rfl,this.1,λx hx=>?_⟩;rcases this.2 x hx with h1|h1
   ·exact .inl h1
   ·cases hr:rs[x]? with
    |none=>rw[hr]at h1;simp at h1
    |some r=>rw[hr]at h1;exact .inr ⟨r,rfl,h1⟩
 refine⟨λi y hy=>(key i y hy).choose_spec.2.1,λi x y r hy hx hr=>?_⟩;obtain⟨m,hm,_,h2⟩:=key i y hy;rcases h2 x hx with h3|⟨r',ff,h3⟩
 ·exact .inr ⟨m,hm,h3⟩
 ·rw[hr]at ff;cases ff;exact .inl h3
theorem M7(aw:ay P Γ)(wG:κ.Good P){ops:Array Oper}{Q:Exit->Act->World->Prop}{g:Nat->RO}(hg:∀(i:Nat) (o:Oper),ops[i]? =some o->cO P ops o=some (bare (g i)))
  (jW:∀i,i<ops.size->kq nt (g i)=true) (bH:∀l:List Nat,l.Nodup->(∀i∈l,i<ops.size)->dM (l.map g)=true)
  (hind:∀(listed:Array Bool) (i x:Nat),i<ops.size->x<i->listed.getD x true=false->(∀(j:Nat),j<ops.size->listed.getD j false=true->∀e∈(g j).after,listed.getD e false=true)->(∀e∈(g i).after,listed.getD e false=true)->indep (g x) (g i)=true)
  (cV:∀i,i<ops.size->∀j∈(g i).after,j<i):
  ∀(fuel:Nat) (listed:Array Bool),listed.size=ops.size->(rem ops.size listed).length=fuel->(∀(j:Nat),j<ops.size->listed.getD j false=true->∀e∈(g j).after,listed.getD e false=true)->
   ∀(st:RS) (a:Act) (w:World) (L:Loc),dI κ nt st a w L->gm nxt ((rem ops.size listed).map g) st->iS Γ nxt ((rem ops.size listed).map g) st->
    (∀a' w' L',dI κ nt (cP Γ nxt ((rem ops.size listed).map g) st) a' w' L'->Q .normal a' w')->wpAnyIn (iR ro) n P .any ops Q fuel listed a w:=by
 have jX:∀(i:Nat) (o:Oper),ops[i]? =some o->∀(listed:Array Bool),(∀e∈o.after,Region.binds .any e=true->listed.getD e.on false=true)↔∀e∈(g i).after,listed.getD e false=true:=by
  intro i o ho listed;have:=(fk (hg i o ho)).2.2.2;rw[this];constructor
  ·intro h e he;simp only[Zal,ZaP]at he;obtain⟨x,⟨hx,hb⟩,rfl⟩:=he;exact h x (by simpa using hx) hb
  ·intro h e he hb;exact h e.on (Zal.2 ⟨e,ZaP.2 ⟨by simpa using he,hb⟩,rfl⟩)
 intro fuel;induction fuel with
 |zero=>
  intro listed hs hfu bj st a w L h hf aG hQ;have GX:rem ops.size listed=[]:=ZaD hfu;refine⟨?_, ?_⟩
  ·cases hr:Region.ready .any ops listed with
   |nil=>rfl
   |cons j js=>
    exfalso;have hj:j∈Region.ready .any ops listed:=by rw[hr];simp
    obtain⟨h0,o,ho,_⟩:=mem_ready.1 hj;have:j∈rem ops.size listed:=nD.2 ⟨(Zaj.1 ho).1,h0⟩;rw[GX]at this;cases this
  ·rw[GX]at hQ;exact hQ a w L h
 |succ fuel ih=>
  intro listed hs hfu bj st a w L h hf aG hQ;refine⟨λhr=>?_,λi hi=>?_⟩
  ·exfalso;have ET:∃i,i∈rem ops.size listed/\∀x<i,x∉rem ops.size listed:=by
    have hex:∃i,i∈rem ops.size listed:=by
     cases hl:rem ops.size listed with
     |nil=>rw[hl]at hfu;cases hfu
     |cons i l=>exact⟨i,by simp⟩
    obtain⟨i,hi⟩:=hex;induction i using Nat.strongRecOn with
    |_ i OX=>
     by_cases hx:∃x,x<i/\x∈rem ops.size listed
     ·obtain⟨x,Gn,qy⟩:=hx;exact OX x Gn qy
     ·exact⟨i,hi,λx Gn qy=>hx ⟨x,Gn,qy⟩⟩
   obtain⟨i,hi,ET⟩:=ET;obtain⟨h1,h2⟩:=nD.1 hi;have:i∈Region.ready .any ops listed:=mem_ready.2 ⟨h2,ops[i],by simp[h1],by
    rw[jX i ops[i] (by simp[h1])];intro e he;have hei:=cV i h1 e he;have hn:=ET e hei;rw[nD]at hn;have he2:e<listed.size:=by omega
    rw[Zay]at hn⊢;simp only[he2,Zbs,Zbc]at hn⊢;cases hb:listed[e]
    ·exact absurd ⟨by omega,hb⟩ hn
    ·rfl⟩
   rw[hr]at this;cases this
  ·obtain⟨h0,o,ho,dK⟩:=mem_ready.1 hi;have Rk:i<ops.size:=(Zaj.1 ho).1;have ZM:=(jX i o ho listed).1 dK;obtain⟨pre,post,e1,e2,tV⟩:=OV hs (nD.2 ⟨Rk,h0⟩);rw[e1,ZaQ,Zau]at aG hQ hf;have zm:(pre++i::post).Nodup:=by
    rw[<-e1];exact List.Pairwise.filter _ List.nodup_range
   have Qw:∀x∈pre++i::post,x<ops.size:=by
    intro x hx;rw[<-e1]at hx;exact(nD.1 hx).1
   have hne1:dM (pre.map g++g i::post.map g)=true:=by
    have:=bH _ zm Qw;simpa using this
   have mv:=AE (κ:=κ) aw wG (ops:=ops) (jW i Rk) (pre.map g) (λx hx=>by
    obtain⟨y,hy,rfl⟩:=Zal.1 hx;have fg:=tV y hy;have hyb:=(nD.1 fg.2);refine⟨hind listed i y Rk fg.1 hyb.2 bj ZM,jW y hyb.1,ops[y],hg y _ (by simp[hyb.1])⟩) hne1 st ⟨a,w,L,h⟩ hf aG
   have hgi:=hg i o ho;refine iq aw wG ho hgi (jW i Rk) h (hf.2 (g i) (by simp)) mv.1 λa' w' L' h'=>?_;refine ih (listed.setIfInBounds i true) (by simpa using hs) ?_ ?_ _ a' w' L' h' ?_ ?_ ?_
   ·rw[e2];rw[e1]at hfu;simp only[ZaB,Za9]at hfu⊢;omega
   ·intro j hj M8 e he;by_cases hji:j=i
    ·subst hji;exact getD_set_true (ZM e he)
    ·rw[getD_set_ne false (Ne.symm hji)]at M8;exact getD_set_true (bj j hj M8 e he)
   ·rw[e2,ZaQ];have hlay:eJ (g i)=true:=by have:=jW i Rk;simp only[kq,Zam]at this;exact this.1.2
    refine jC aw hlay mv.1 (λy hy=>?_) ⟨hf.1,λy hy=>hf.2 y ?_⟩
    ·have hnd2:(i::(pre++post)).Nodup:=(List.perm_middle.nodup_iff).1 zm;have:=bH _ hnd2 (λx hx=>Qw x (by simp only[Zag,Zao]at hx⊢;rcases hx with h|h|h<;>simp[h]))
     rw[Zau,ZaQ]at this;exact iu this y hy
    ·simp only[Zao,Zag]at hy⊢;rcases hy with h|h
     ·exact .inl h
     ·exact .inr (.inr h)
   ·rw[e2,ZaQ];exact mv.2.1
   ·rw[e2,ZaQ,mv.2.2];exact hQ
theorem nT:∀{rs:List RO},dM rs=true->∀(i j:Nat) (x y:RO),i≠j->rs[i]? =some x->rs[j]? =some y->qd x y=true
 |[],_,_,_,_,_,_,h,_=>by simp at h
 |r::rs,hd,i,j,x,y,Xx,hx,hy=>by
  simp only[dM,Zam,ZaI]at hd;cases i with
  |zero=>
   simp only[ZaG,Zaa]at hx;subst hx;cases j with
   |zero=>exact absurd rfl Xx
   |succ j=>exact hd.1 y (Zaq (by simpa using hy))
  |succ i=>
   cases j with
   |zero=>
    simp only[ZaG,Zaa]at hy;subst hy;exact AA (hd.1 x (Zaq (by simpa using hx)))
   |succ j=>exact nT hd.2 i j x y (by omega) (by simpa using hx) (by simpa using hy)
theorem GY(aw:ay P Γ)(wG:κ.Good P){id:Nat}{ops:Array Oper}{rs:List RO}(hm:P.follows .mixedOrders=true)(hc:eK P ops=some (rs.map bare))(aG:db nt true rs=true){Q:Exit->Act->World->Prop}{st:RS}{a:Act}{w:World}{L:Loc}(h:dI κ nt st a w L)
  (hf:gm nxt rs st) (bz:iS Γ nxt rs st) (hQ:∀a' w' L',dI κ nt (cP Γ nxt rs st) a' w' L'->Q .normal a' w'):(Code.region id ops true).wpIn (iR ro) n P Q a w:=by
 obtain⟨hlen,pA⟩:=mQ hc;simp only[db,Zam,Zci,Bool.false_or]at aG;obtain⟨⟨dK,ES⟩,hp⟩:=aG;obtain⟨cV,Rl⟩:=AH hp
 let g:Nat->RO:=λi=>(rs[i]?).getD ⟨.bL (.cm .undef),none,none,[],none⟩
 have gg:∀i,i<ops.size->rs[i]? =some (g i):=λi hi=>by
  have:i<rs.length:=by omega
  simp[g,this]
 have ZN:∀(i:Nat) (o:Oper),ops[i]? =some o->cO P ops o=some (bare (g i)):=λi o ho=>by
  obtain⟨r,h1,h2⟩:=pA i o ho;have:g i=r:=by simp[g,h1]
  rw[this];exact h2
 have jM:rs=(List.range ops.size).map g:=by
  apply Zbl;intro i;by_cases hi:i<ops.size
  ·rw[gg i hi];simp[hi]
  ·rw[ZaS (by omega),ZaS (by simp;omega)]
 have M9:rem ops.size (Array.replicate ops.size false)=List.range ops.size:=by
  unfold rem;rw[List.filter_eq_self.2];intro i hi;have:=ZaM.1 hi;simp[Zay,this]
 have hh:dI κ nt st a {w with drawn:=w.drawn+1} L:=by
  have hb:tP w.heap.size w {w with drawn:=w.drawn+1}:=⟨⟨rfl,rfl,rfl,Zae _,λ_ _=>rfl⟩,ZcQ _⟩;obtain⟨W,base,M,w0,dy,h0⟩:=h.ex;obtain⟨hO,hA⟩:=bN.grow h0.o hb;obtain⟨Ds,h1,h2,h3,h4⟩:=h.defers;exact⟨⟨W,base,M,w0,dy,h0.size,λt=>av.ee hA _ _ (h0.tmps t),hO⟩,h.ee.comp hA dy.sub.1 dy.sub.2,⟨Ds,h1,h2,λD hD=>⟨hA.keeps.OA D (h3 D hD).1,(h3 D hD).2⟩,h4⟩,h.bg,h.fin⟩
 refine wpIn_region_any hm (M7 aw wG (g:=g) ZN (λi hi=>ZaI.1 dK _ (Zaq (gg i hi))) (λl hl hb=>?_) (λlisted i x hi hx sv bj hd=>?_) (λi hi=>cV i (g i) (gg i hi)) ops.size _ (by simp) (by rw[M9];simp) (λj hj M8=>?_) st a _ L hh
  (by rw[M9,<-jM];exact hf) (by rw[M9,<-jM];exact bz) (by rw[M9,<-jM];exact hQ))
 ·clear bz hQ hf;induction l with
  |nil=>rfl
  |cons i l ih=>
   simp only[Zau,dM,Zam,ZaI];rw[ZbM]at hl;refine⟨λy hy=>?_,ih hl.2 λj hj=>hb j (by simp[hj])⟩;obtain⟨j,hj,rfl⟩:=Zal.1 hy;exact nT ES i j _ _ (by rintro rfl;exact hl.1 hj) (gg i (hb i (by simp))) (gg j (hb j (by simp[hj])))
 ·rcases Rl i x (g i) (g x) (gg i hi) hx (gg x (by omega))with h1|⟨m,wH,EB⟩
  ·exact h1
  ·exfalso;have:=vd (rs:=rs) (listed:=listed) cV (λj y hj hy=>by
    have hjn:j<ops.size:=by have:=(Zas.1 hy).1;omega
    have:y=g j:=by rw[gg j hjn]at hy;exact(ZbK hy).symm
    rw[this];exact bj j hjn hj) i (g i) m x (gg i hi) wH EB hd
   rw[Zay]at this sv;cases qy:listed[x]? with
   |none=>rw[qy]at this;simp at this
   |some b=>rw[qy]at this sv;simp at this sv;rw[this]at sv;cases sv
 ·rw[Zay]at M8;simp[hj]at M8
end
end Go.DM
namespace Go.DM
open Go.RowKit
variable [Laid]
inductive DC where
 |skip
 |region (draw:Bool) (rs:List RO)
 |jY (rs:List RO)
 |seq (a b:DC)
 |cond (c:bp) (a b:DC)
 |block (id:Nat) (c:DC)
 |loop (c:DC)
 |exit (id:Nat)
 |ret
 |xb (g:bp) (ps:List Nat) (a b:DC)
 |Na (x:bp) (d1 d2:Nat)
 |other
def Rm(ops:Array Oper):Option (bp×Nat×Nat):=
 match ops.toList with
 |[a,b]=>match a.op,b.op,a.dst,b.dst,a.guard,b.guard with
  |.next x false,.extract (.tmp t) 0,some d1,some d2,none,none=>if t=d1 then(bp.of x).map λy=>(y,d1,d2)else none
  |_,_,_,_,_,_=>none
 |_=>none
def bB(P:Program)(nt:Nat):Code->DC
 |.skip=>.skip
 |.region _ ops draw=>match eK P ops with
  |some rs=>if db nt draw rs then .region draw rs else if draw&&db nt false rs then .jY rs else .other
  |none=>if draw then .other else match Rm ops with
   |some q=>if q.2.1<nt/\q.2.2<nt then .Na q.1 q.2.1 q.2.2 else .other
   |none=>.other
 |.seq a b=>.seq (bB P nt a) (bB P nt b)
 |.cond c a b=>match bp.of c with
  |some x=>.cond x (bB P nt a) (bB P nt b)
  |none=>.other
 |.block id c=>.block id (bB P nt c)
 |.loop c=>.loop (bB P nt c)
 |.exit id=>.exit id
 |.ret=>.ret
 |.rangeFunc g ps a b=>match bp.of g with
  |some x=>if ps.toList.all (·<nt)then .xb x ps.toList (bB P nt a) (bB P nt b)else .other
  |none=>.other
 |_=>.other
section
variable{P:Program}{nt:Nat}{c:Code}
theorem Rn(h:bB P nt c=.skip):c=.skip:=by
 cases c<;>simp only[bB]at h<;>first|rfl|cases h|(repeat' split at h)<;>cases h
theorem Yd(h:bB P nt c=.ret):c=.ret:=by
 cases c<;>simp only[bB]at h<;>first|rfl|cases h|(repeat' split at h)<;>cases h
theorem Ko{x:bp}{ps:List Nat}{a b:DC}(h:bB P nt c=.xb x ps a b):∃g qs y z,c=.rangeFunc g qs y z/\bp.of g=some x/\qs.toList=ps/\(∀p∈ps,p<nt)/\bB P nt y=a/\bB P nt z=b:=by
 cases c<;>simp only[bB]at h<;>first|(cases h;done)|skip
 ·(repeat' split at h)<;>cases h
 ·split at h<;>cases h
 ·split at h
  ·rename_i hx;split at h
   ·rename_i hp;cases h;exact⟨_,_,_,_,rfl,hx,rfl,λp hp'=>by have:=ZaI.1 hp p hp';simpa using this,rfl,rfl⟩
   ·cases h
  ·cases h
theorem Ro{id:Nat}(h:bB P nt c=.exit id):c=.exit id:=by
 cases c<;>simp only[bB]at h<;>first|(cases h;rfl)|cases h|(repeat' split at h)<;>cases h
theorem Ye{a b:DC}(h:bB P nt c=.seq a b):∃x y,c=.seq x y/\bB P nt x=a/\bB P nt y=b:=by
 cases c<;>simp only[bB]at h<;>first|(cases h;exact⟨_,_,rfl,rfl,rfl⟩)|cases h|(repeat' split at h)<;>cases h
theorem Rp{x:bp}{a b:DC}(h:bB P nt c=.cond x a b):∃x' y z,c=.cond x' y z/\bp.of x'=some x/\bB P nt y=a/\bB P nt z=b:=by
 cases c<;>simp only[bB]at h<;>first|(cases h;done)|skip
 ·(repeat' split at h)<;>cases h
 ·split at h
  ·rename_i hx;cases h;exact⟨_,_,_,rfl,hx,rfl,rfl⟩
  ·cases h
 ·(repeat' split at h)<;>cases h
theorem OY{id:Nat}{a:DC}(h:bB P nt c=.block id a):∃x,c=.block id x/\bB P nt x=a:=by
 cases c<;>simp only[bB]at h<;>first|(cases h;exact⟨_,rfl,rfl⟩)|cases h|(repeat' split at h)<;>cases h
theorem Rq{a:DC}(h:bB P nt c=.loop a):∃x,c=.loop x/\bB P nt x=a:=by
 cases c<;>simp only[bB]at h<;>first|(cases h;exact⟨_,rfl,rfl⟩)|cases h|(repeat' split at h)<;>cases h
theorem pB{draw:Bool}{rs:List RO}(h:bB P nt c=.region draw rs):∃id ops,c=.region id ops draw/\eK P ops=some rs/\db nt draw rs=true:=by
 cases c<;>simp only[bB]at h<;>first|(cases h;done)|skip
 case region id ops dr=>
  split at h
  ·rename_i jM;split at h
   ·rename_i aG;cases h;exact⟨_,_,rfl,jM,aG⟩
   ·split at h<;>cases h
  ·(repeat' split at h)<;>cases h
 case cond=>split at h<;>cases h
 case rangeFunc=>(repeat' split at h)<;>cases h
theorem GZ{rs:List RO}(h:bB P nt c=.jY rs):∃id ops,c=.region id ops true/\eK P ops=some rs:=by
 cases c<;>simp only[bB]at h<;>first|(cases h;done)|skip
 case region id ops dr=>
  split at h
  ·rename_i jM;split at h
   ·cases h
   ·split at h
    ·rename_i hd;cases h;simp only[Zam]at hd;exact⟨_,_,by rw[hd.1],jM⟩
    ·cases h
  ·(repeat' split at h)<;>cases h
 case cond=>split at h<;>cases h
 case rangeFunc=>(repeat' split at h)<;>cases h
end
theorem OZ{P:Program}{nt:Nat}{c:Code}{x:bp}{d1 d2:Nat}(h:bB P nt c=.Na x d1 d2):∃id o1 o2 y,c=.region id #[o1,o2] false/\o1.op=.next y false/\bp.of y=some x/\o1.dst=some d1/\o1.guard=none/\o2.op=.extract (.tmp d1) 0/\o2.dst=some d2/\o2.guard=none/\d1<nt/\d2<nt:=by
 cases c<;>simp only[bB]at h<;>first|(cases h;done)|skip
 case region id ops dr=>
  split at h
  ·split at h
   ·cases h
   ·split at h<;>cases h
  ·split at h
   ·cases h
   ·rename_i J5;have J5:dr=false:=by simpa using J5
    subst J5;split at h
    ·rename_i q hq;split at h
     ·rename_i cV;cases h;unfold Rm at hq;split at hq
      ·rename_i o1 o2 hops;split at hq
       ·rename_i y t e1 e2 h1 h2 h3 h4 h5 h6;split at hq
        ·rename_i hte;subst hte;simp only[Zab]at hq;obtain⟨z,hz,rfl⟩:=hq;exact⟨id,o1,o2,y,by rw[show ops= #[o1,o2]by rw[<-Array.toArray_toList (xs:=ops),hops]],h1,hz,h3,h5,h2,h4,h6,cV.1,cV.2⟩
        ·cases hq
       ·cases hq
      ·cases hq
     ·cases h
    ·cases h
 case cond=>split at h<;>cases h
 case rangeFunc=>(repeat' split at h)<;>cases h
theorem CH{P:Program}{o:Oper}{d:nO}(h:cI P o=some d):yy d=d:=by
 cases d<;>first|rfl|skip
 case mkSliceB=>exact(no_mkB h).elim
 case callS=>
  obtain⟨c,_,hc⟩:=ep h (.inr (.inl ⟨_,_,rfl⟩));exfalso;unfold da at hc;repeat' split at hc
  all_goals first
   |(cases hc;done)
   |(simp only[Zab,Zak,Zaf,Zac,Zaa,reduceCtorEq,and_false,exists_false]at hc;done)
 case callF=>
  obtain⟨c,_,hc⟩:=ep h (.inr (.inr (.inr (.inl ⟨_,_,rfl⟩))));exfalso;unfold da at hc;repeat' split at hc
  all_goals first
   |(cases hc;done)
   |(simp only[Zab,Zak,Zaf,Zac,Zaa,reduceCtorEq,and_false,exists_false]at hc;done)
 case callR=>
  obtain⟨c,_,hc⟩:=ep h (.inr (.inr (.inr (.inr ⟨_,_,rfl⟩))));exfalso;unfold da at hc;repeat' split at hc
  all_goals first
   |(cases hc;done)
   |(simp only[Zab,Zak,Zaf,Zac,Zaa,reduceCtorEq,and_false,exists_false]at hc;done)
theorem AI{P:Program}{ops:Array Oper}{o:Oper}{r:RO}(h:cO P ops o=some r):bare r=r:=by
 simp only[cO,Zak,Zaf,Zac,Zaa]at h;obtain⟨d,hd,g,hg,rfl⟩:=h;simp only[bare,CH hd]
theorem qe{P:Program}{ops:Array Oper}{rs:List RO}(h:eK P ops=some rs):rs.map bare=rs:=by
 unfold eK at h;have key:∀(l:List Oper) (rs:List RO),l.mapM (cO P ops)=some rs->rs.map bare=rs:=by
  intro l;induction l with
  |nil=>intro rs h;simp at h;subst h;rfl
  |cons o l ih=>
   intro rs h;simp only[Za1,Zak,Zaf,Zac,Zaa]at h;obtain⟨r,hr,rs',jM,rfl⟩:=h;simp only[Zau,AI hr,ih rs' jM]
 exact key _ _ h
def fm:List RO->List (Option (List Nat))->List RO
 |r::rs,t::ts=>⟨r.d,r.dst,r.guard,r.after,t⟩::fm rs ts
 |rs,_=>rs
structure Rel(κ:Ctx)(nt:Nat)(st:lj)(a:Act)(w:World)(L:Loc):Prop where
 r:dI κ nt ⟨st.tmps,st.objs,st.todo⟩ a w L
 fresh:∀r,st.nxt<=r->st.objs r=none
 low:∀r,st.low<=r->κ.go r=none
 it:κ.J.isSome=true->st.low=0
def Sat(P:Program)(nt:Nat)(c:Code)(Q:Exit->lj->Prop)(st:lj):Prop:=
 ∀(n:Nat) (κ:Ctx) (a:Act) (w:World) (L:Loc),κ.Good P->Rel κ nt st a w L->
  c.wpIn (iR κ.ro) n P (λe a' w'=>∃dh L',Q e dh/\Rel κ nt dh a' w' L') a w
structure aa(P:Program)(nt:Nat)(d:DC)(Q:Exit->lj->Prop)(st:lj):Prop where
 run:∀c,bB P nt c=d->Sat P nt c Q st
def Le(st dh:lj):Prop:=∀(κ:Ctx) (nt:Nat) (a:Act) (w:World) (L:Loc),Rel κ nt st a w L->∃L',Rel κ nt dh a w L'
theorem Le.trans{a b c:lj}(h:Le a b)(k:Le b c):Le a c:=λ_ _ _ _ L r=>let⟨_,r'⟩:=h _ _ _ _ L r;k _ _ _ _ _ r'
section
variable{P:Program}{nt:Nat}{Γ:Env}{Q:Exit->lj->Prop}{st:lj}
theorem Sat.le{c:Code}{dh:lj}(h:Le st dh)(k:Sat P nt c Q dh):Sat P nt c Q st:=λn κ a w L g r=>let⟨L',r'⟩:=h _ _ _ _ L r;k n κ a w L' g r'
theorem aa.le{d:DC}{dh:lj}(h:Le st dh)(k:aa P nt d Q dh):aa P nt d Q st:=⟨λc hc=>Sat.le h (k.run c hc)⟩
theorem aa.ve{d:DC}{Q':Exit->lj->Prop}(h:aa P nt d Q st)(hq:∀e st,Q e st->∃st2,Le st st2/\Q' e st2):aa P nt d Q' st:=
 ⟨λc hc n κ a w L g r=>wpIn_mono (h.run c hc n κ a w L g r) λ_ _ _ ⟨_,L',q,r'⟩=>let⟨st2,hl,q2⟩:=hq _ _ q;let⟨L2,r2⟩:=hl _ _ _ _ L' r';⟨st2,L2,q2,r2⟩⟩
theorem aa.skip(h:Q .normal st):aa P nt .skip Q st:=by
 refine⟨λc hc=>?_⟩;obtain rfl:=Rn hc;exact λn κ a w L g r=>wpIn_skip ⟨st,L,h,r⟩
theorem aa.exit{id:Nat}(h:Q (.exit id) st):aa P nt (.exit id) Q st:=by
 refine⟨λc hc=>?_⟩;obtain rfl:=Ro hc;exact λn κ a w L g r=>wpIn_exit ⟨st,L,h,r⟩
theorem aa.ret(h:Q .ret st):aa P nt .ret Q st:=by
 refine⟨λc hc=>?_⟩;obtain rfl:=Yd hc;exact λn κ a w L g r=>wpIn_ret ⟨st,L,h,r⟩
def AJ(k:lj->Prop)(Q:Exit->lj->Prop):Exit->lj->Prop
 |.normal,st=>k st
 |e,st=>Q e st
theorem aa.seq{a b:DC}(h:aa P nt a (AJ (aa P nt b Q) Q) st):aa P nt (.seq a b) Q st:=by
 refine⟨λc hc=>?_⟩;obtain⟨a',b',rfl,ha,hb⟩:=Ye hc;intro n κ act w L g r;refine wpIn_seq (wpIn_mono (h.run _ ha n κ act w L g r) ?_);rintro e a' w' ⟨dh,L',q,r'⟩;cases e with
 |normal=>exact q.run _ hb n κ a' w' L' g r'
 |_=>exact⟨dh,L',q,r'⟩
theorem aa.cond{x:bp}{a b:DC}{t:Bool}(hx:x.ev st.tmps=.v (.bool t))(ht:t=true->aa P nt a Q st)(hf:t=false->aa P nt b Q st):aa P nt (.cond x a b) Q st:=by
 refine⟨λc hc=>?_⟩;obtain⟨x',a',b',rfl,fJ,ha,hb⟩:=Rp hc;intro n κ act w L g r;obtain⟨W,base,M,w0,dy,h0⟩:=r.r.ex;have:=bp.bq h0.o.gl h0.tmps fJ;rw[hx]at this;simp only[av,aS]at this;cases t with
 |true=>exact wpIn_cond_true this ((ht rfl).run _ ha n κ act w L g r)
 |false=>exact wpIn_cond_false this ((hf rfl).run _ hb n κ act w L g r)
def tY(id:Nat)(Q:Exit->lj->Prop):Exit->lj->Prop
 |.exit id',st=>if id'=id then Q .normal st else Q (.exit id') st
 |e,st=>Q e st
theorem aa.block{id:Nat}{a:DC}(h:aa P nt a (tY id Q) st):aa P nt (.block id a) Q st:=by
 refine⟨λc hc=>?_⟩;obtain⟨a',rfl,ha⟩:=OY hc;intro n κ act w L g r;refine wpIn_block (wpIn_mono (h.run _ ha n κ act w L g r) ?_);rintro e a' w' ⟨dh,L',q,r'⟩;cases e with
 |exit id'=>
  simp only[tY]at q;simp only[Exit.inBlock];split at q
  ·rename_i h;rw[if_pos h];exact⟨dh,L',q,r'⟩
  ·rename_i h;rw[if_neg h];exact⟨dh,L',q,r'⟩
 |_=>exact⟨dh,L',q,r'⟩
theorem aa.loop{α:Type}{body:DC}(R:α->lj)(I:α->Prop)(μ:α->Nat)(x:α)(h0:Le st (R x))(hI:I x)
  (round:∀y,I y->aa P nt body (AJ (λdh=>∃z,Le dh (R z)/\I z/\μ z<μ y) Q) (R y)):aa P nt (.loop body) Q st:=by
 refine⟨λc hc=>?_⟩;obtain⟨a',rfl,ha'⟩:=Rq hc;intro n κ act w L g r;obtain⟨L0,r0⟩:=h0 _ _ _ _ L r;refine wpIn_loop_ghost (λk a w=>∃y L,μ y=k/\I y/\Rel κ nt (R y) a w L) (μ x) ⟨x,L0,rfl,hI,r0⟩ ?_;rintro k a w ⟨y,L,rfl,hy,hr⟩;refine wpIn_mono ((round y hy).run _ ha' n κ a w L g hr) ?_;rintro e a' w' ⟨dh,L',q,r'⟩;cases e with
 |normal=>
  obtain⟨z,hle,hz,cV⟩:=q;obtain⟨L2,r2⟩:=hle _ _ _ _ L' r';exact⟨μ z,cV,z,L2,rfl,hz,r2⟩
 |_=>exact⟨dh,L',q,r'⟩
theorem rK(aw:ay P Γ){nxt:Nat}:∀(rs:List RO),rs.all (kq nt)=true->∀(st:RS),iS Γ nxt rs st->∀t,nxt+nt+1<=t->st.objs t=none->(cP Γ nxt rs st).objs t=none
 |[],_,st,_,t,_,h=>h
 |r::rs,dK,st,aG,t,ht,h=>by
  simp only[ZcC,Zam]at dK;simp only[iS]at aG;refine rK aw rs dK.2 _ aG.2 t ht (Dg aw aG.1 h λhl e=>?_);have hr:=dK.1;simp only[kq,Zam]at hr;have hs:r.dst.isSome=true:=by simpa [eJ,hl]using hr.1.2
  obtain⟨d,hd⟩:=Zbu.1 hs;have cV:d<nt:=by have:=hr.2;rw[hd]at this;simpa using this
  simp only[nm,nameOf,hd]at e;omega
theorem pC(aw:ay P Γ)(hm:P.follows .mixedOrders=true){id:Nat}{ops:Array Oper}{draw:Bool}{rs:List RO}(jM:eK P ops=some (rs.map bare))(aG:db nt draw rs=true)
  (bz:iS Γ st.nxt rs ⟨st.tmps,st.objs,st.todo⟩) (hQ:Q .normal ⟨(cP Γ st.nxt rs ⟨st.tmps,st.objs,st.todo⟩).tmps,(cP Γ st.nxt rs ⟨st.tmps,st.objs,st.todo⟩).objs,st.nxt+nt+1,st.low,(cP Γ st.nxt rs ⟨st.tmps,st.objs,st.todo⟩).todo⟩):
  Sat P nt (.region id ops draw) Q st:=by
 intro n κ act w L g r;have dz:∀x∈rs,∃k,nm st.nxt x=st.nxt+k:=λx _=>by
  unfold nm nameOf;cases x.dst with
  |none=>exact⟨0,rfl⟩
  |some d=>exact⟨d+1,by simp only[Nat.add_assoc]⟩
 have hf:gm st.nxt rs ⟨st.tmps,st.objs,st.todo⟩:=⟨r.fresh _ (Zae _),λx hx=>by
  obtain⟨k,hk⟩:=dz x hx;rw[hk];exact r.fresh _ (by omega)⟩
 have fin:∀a' w' L',dI κ nt (cP Γ st.nxt rs ⟨st.tmps,st.objs,st.todo⟩) a' w' L'->∃dh L',Q .normal dh/\Rel κ nt dh a' w' L':=by
  intro a' w' L' r';refine⟨_,L',hQ,r', ?_,r.low,r.it⟩;have dK:rs.all (kq nt)=true:=by simp only[db,Zam]at aG;exact aG.1.1
  intro t ht;exact rK aw rs dK _ bz t ht (r.fresh t (by simp only at ht;omega))
 cases draw with
 |false=>exact GW aw g jM aG r.r hf bz fin
 |true=>exact GY aw g hm jM aG r.r hf bz fin
theorem aa.region(aw:ay P Γ)(hm:P.follows .mixedOrders=true){draw:Bool}{rs:List RO}(bz:iS Γ st.nxt rs ⟨st.tmps,st.objs,st.todo⟩)(hQ:Q .normal ⟨(cP Γ st.nxt rs ⟨st.tmps,st.objs,st.todo⟩).tmps,(cP Γ st.nxt rs ⟨st.tmps,st.objs,st.todo⟩).objs,st.nxt+nt+1,st.low,(cP Γ st.nxt rs ⟨st.tmps,st.objs,st.todo⟩).todo⟩):
  aa P nt (.region draw rs) Q st:=by
 refine⟨λc hc=>?_⟩;obtain⟨id,ops,rfl,jM,aG⟩:=pB hc;exact pC aw hm (by rw[qe jM];exact jM) aG bz hQ
theorem aa.Yf(aw:ay P Γ)(hm:P.follows .mixedOrders=true){d:DC}{rs:List RO}(hd:d=.jY (rs.map bare)\/∃draw,d=.region draw (rs.map bare))(aG:db nt true rs=true)
  (bz:iS Γ st.nxt rs ⟨st.tmps,st.objs,st.todo⟩) (hQ:Q .normal ⟨(cP Γ st.nxt rs ⟨st.tmps,st.objs,st.todo⟩).tmps,(cP Γ st.nxt rs ⟨st.tmps,st.objs,st.todo⟩).objs,st.nxt+nt+1,st.low,(cP Γ st.nxt rs ⟨st.tmps,st.objs,st.todo⟩).todo⟩):
  aa P nt d Q st:=by
 refine⟨λc hc=>?_⟩;rcases hd with rfl|⟨draw,rfl⟩
 ·obtain⟨id,ops,rfl,jM⟩:=GZ hc;exact pC aw hm jM aG bz hQ
 ·obtain⟨id,ops,rfl,jM,hok'⟩:=pB hc;refine pC aw hm jM ?_ bz hQ;cases draw with
  |true=>exact aG
  |false=>simp only[db,Zam]at aG⊢;exact⟨aG.1,rfl⟩
theorem aa.next{x:bp}{d1 d2 r m s l c:Nat}{sn:List Nat}{shs:List Sh}{agg:Bool}{es:List (Nat×T×DV)}(hx:x.ev st.tmps=.iter r)(hr:st.objs r=some (.iter m s sn l))(hm:st.objs m=some (.map shs agg c es))(cV:∀e∈es,e.1<s)(hl:s<=l)
  (Rr:(∀e∈es,e.1∈sn)->Q .normal ⟨cd (cd st.tmps (some d1) .undef) (some d2) (.v (.bool false)),st.objs,st.nxt,st.low,st.todo⟩)
  (hgo:∀e∈es,e.1∉sn->Q .normal ⟨cd (cd st.tmps (some d1) .undef) (some d2) (.v (.bool true)),bV st.objs (some (r,.iter m s (sn++[e.1]) c)),st.nxt,st.low,st.todo⟩):
  aa P nt (.Na x d1 d2) Q st:=by
 refine⟨λcc hc=>?_⟩;obtain⟨id,o1,o2,y,rfl,h1,hy,h2,h3,h4,h5,h6,OT,hd2⟩:=OZ hc;intro n κ a w L g r0;refine wpIn_region ?_;have hR:=r0.r;obtain⟨W,base,M,w0,dy,h0⟩:=hR.ex;have CB:=bp.bq h0.o.gl h0.tmps hy;rw[hx]at CB;simp only[av]at CB;obtain⟨_,M1⟩:=CB;have fin:∀{b:Bool} {aB:aU} {v:Value} {w':World},bN base W M w0 aB w' L->jc W st.objs L w aB L w'->(∃N,∀r,N<=r->aB r=none)->(∀t,st.objs t=none->aB t=none)->(∃rest:List Value,v=.tuple (Value.bool b::rest).toArray)->(execOp a.eval o1).run P w=.ok (.value v) w'->
   Q .normal ⟨cd (cd st.tmps (some d1) .undef) (some d2) (.v (.bool b)),aB,st.nxt,st.low,st.todo⟩->
   wpOpsIn (iR κ.ro) n P #[o1,o2] (λe a' w'=>∃dh L',Q e dh/\Rel κ nt dh a' w' L') (List.range 2) a w:=by
  intro b aB v w' hO hA mL lY hv bz hQ;obtain⟨rest,rfl⟩:=hv;show wpOpsIn (iR κ.ro) n P #[o1,o2] _ [0,1] a w;rw[wpOpsIn_cons,wpOpIn];simp only[show(#[o1,o2]:Array Oper)[0]? =some o1 from rfl,Region.wanted,h3,if_true];refine⟨mM o1 w _, ?_⟩;rw[show(iR κ.ro).round=κ.ro from rfl,Oper.semAt_eq κ.ro _ o1 (λc hc=>by rw[h1]at hc;cases hc),bz,Oper.uponIn_value,h2];have R1:dI κ nt ⟨cd st.tmps (some d1) .undef,aB,st.todo⟩ (a.put (some d1) (.tuple (Value.bool b::rest).toArray)) w' L:=dI.put hR dy h0 (some d1) (λd hd=>by cases hd;exact OT) hO hA (by simp[av]) mL;rw[wpOpsIn_cons,wpOpIn];simp only[show(#[o1,o2]:Array Oper)[1]? =some o2 from rfl,Region.wanted,h6,if_true];refine⟨mM o2 w' _, ?_⟩;have hev:(a.put (some d1) (.tuple (Value.bool b::rest).toArray)).eval (.tmp d1)=.tuple (Value.bool b::rest).toArray:=by
   simp only[Act.put,Act.eval];rw[Au _ _ _ _ (by rw[h0.size];exact OT)];simp
  have hrun2:(execOp (a.put (some d1) (.tuple (Value.bool b::rest).toArray)).eval o2).run P w'=.ok (.value (.bool b)) w':=by
   simp[execOp,h4,hev,Instr.extract]
  rw[show(iR κ.ro).round=κ.ro from rfl,Oper.semAt_eq κ.ro _ o2 (λc hc=>by rw[h4]at hc;cases hc),hrun2,Oper.uponIn_value,h5];obtain⟨W2,base2,M2,w02,Yg,Yh⟩:=R1.ex;have R2:=dI.put R1 Yg Yh (some d2) (λd hd=>by cases hd;exact hd2) (v:=.v (.bool b)) (x:=.bool b) Yh.o (jc.ct (cq.refl _ _)) (by simp[av,aS]) mL;exact⟨_,L,hQ,R2,λt ht=>lY t (r0.fresh t ht),r0.low,r0.it⟩
 rcases Kp (P:=P) h0.o hr hm cV hl o1.type with⟨dK,bz⟩|⟨e,he,hn,k,v,w',bz,hO,hA⟩
 ·refine fin (b:=false) h0.o (jc.ct (cq.refl _ _)) hR.fin (λt h=>h) ⟨[],rfl⟩ ?_ (Rr dK);simp[execOp,h1,M1,bz]
 ·refine fin (b:=true) hO hA ?_ ?_ ⟨[k,v],rfl⟩ ?_ (hgo e he hn)
  ·obtain⟨N,hN⟩:=hR.fin;refine⟨max N (r+1),λr' ff=>?_⟩;simp only[bV];rw[if_neg (by omega)];exact hN r' (by omega)
  ·intro t ht;simp only[bV];rw[if_neg (λe=>by rw[e,hr]at ht;cases ht)];exact ht
  ·simp[execOp,h1,M1,bz]
end
end Go.DM
namespace Go.DM
abbrev t(n:Nat):bp:=.tmp n
abbrev i(n:Int):bp:=.cm (.v (.int .i64 n))
abbrev o(d:nO)(r:Nat)(af:List Nat):RO:=⟨d,some r,none,af,none⟩
abbrev s(d:nO)(af:List Nat):RO:=⟨d,none,none,af,none⟩
abbrev g(d:nO)(r b:Nat)(w:Bool)(af:List Nat):RO:=⟨d,some r,some (b,w),af,none⟩
abbrev m(a r:Nat)(af:List Nat):RO:=⟨.bL (.tmp a),some r,none,af,none⟩
abbrev n(a r:Nat):RO:=⟨.bL (.tmp a),some r,none,[],none⟩
abbrev l(a r:Nat)(af:List Nat):RO:=⟨.load 1 false (.tmp a),some r,none,af,none⟩
abbrev L(k a r:Nat)(af:List Nat):RO:=⟨.load k true (.tmp a),some r,none,af,none⟩
abbrev a(k b r:Nat)(af:List Nat):RO:=⟨.addOff k (.tmp b),some r,none,af,none⟩
abbrev b(op:BinOp)(x y r:Nat)(af:List Nat):RO:=⟨.bin op (.tmp x) (.tmp y),some r,none,af,none⟩
abbrev c(x r:Nat)(af:List Nat):RO:=⟨.nilCheck (.tmp x),some r,none,af,none⟩
abbrev e(k x r:Nat)(af:List Nat):RO:=⟨.extract k (.tmp x),some r,none,af,none⟩
abbrev x(k y z r:Nat)(af:List Nat):RO:=⟨.idxAddr k (.tmp y) (.tmp z),some r,none,af,none⟩
abbrev S(k y z:Nat)(af:List Nat):RO:=⟨.store k (.tmp y) (.tmp z),none,none,af,none⟩
abbrev p(u v r:Nat)(af:List Nat):RO:=⟨.pick (.tmp u) (.cm (.v (.bool true))) (.tmp v),some r,none,af,none⟩
abbrev q(u v r:Nat)(af:List Nat):RO:=⟨.pick (.tmp u) (.tmp v) (.cm (.v (.bool false))),some r,none,af,none⟩
abbrev u(k y r b:Nat)(w:Bool)(af:List Nat):RO:=⟨.addOff k (.tmp y),some r,some (b,w),af,none⟩
abbrev v(y r b:Nat)(w:Bool)(af:List Nat):RO:=⟨.load 1 false (.tmp y),some r,some (b,w),af,none⟩
abbrev w(y r b:Nat)(w:Bool)(af:List Nat):RO:=⟨.bL (.tmp y),some r,some (b,w),af,none⟩
abbrev y(l:List RO):DC:=.region false l
abbrev Y(l:List RO):DC:=.region true l
abbrev j(a b:DC):DC:=.seq a b
abbrev k(l:List Nat)(k:Nat):List Nat:=l++List.range (k+1)
attribute [simp] t i o s g m n l L a b c e x S p q u v w y Y j
end Go.DM
