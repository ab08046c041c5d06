/- Part of the proof. Conditions: none. -/
import Derived.Test.YtljcdomdjgolkaaGreatDoorXaa
import Derived.Laws.Shifts
set_option linter.unusedSectionVars false
set_option linter.unusedSimpArgs false
set_option linter.unusedVariables false
namespace Go.DM
open Go.RowKit
variable [Laid]
def ofParts(l:List (Nat×Operand))(place:Nat->Option (Nat×Nat)):Option (List (Nat×Nat×bp)):=
 l.mapM λp=>do
  let q<-place p.1
  let x<-bp.of p.2
  pure (q.1,q.2,x)
def places(P:Program)(t:TypeId):Option (Nat->Option (Nat×Nat)):=
 match P.underlying t with
 |some (.struct fields)=>(fields.toList.mapM λf=>(P.info? f.type).map λi=>(f.offset,i.size)).map λpl k=>pl[k]?
 |some (.array _ e)=>(P.info? e).map λie k=>some (k*ie.size,ie.size)
 |_=>none
def Am:Option Operand->Option (Option bp)
 |none=>some none
 |some x=>(bp.of x).map some
def uZ:TypeDesc->bp->Option Nat
 |.slice _,.cm .aJ=>some 0
 |.pointer _,.cm (.v (.raw (.pointer none)))=>some 1
 |.func _ _ _,.cm (.v (.raw .nilFunc))=>some 2
 |_,_=>none
def fK(P:Program)(k:TypeId):Option (List Sh×Bool):=
 match P.underlying k,jL P 10000 k with
 |some d,some s=>some (s,bA d)
 |_,_=>none
def C8(P:Program)(e:TypeId):Option DV:=do
 let i<-P.info? e
 let z<-i.zero
 match z with
 |.agg cs=>(cs.toList.mapM kN).map .agg
 |z=>kN z
def kP(P:Program)(op:BinOp)(t:TypeId)(x y:bp):Option nO:=
 match P.underlying t with
 |some (.int _)=>match op with
  |.add|.sub|.mul|.quo|.rem|.eql|.neq|.lss|.leq|.gtr|.geq|.shl|.shr|.and|.or|.xor=>some (.bin op x y)
  |_=>none
 |some d=>match op,jL P 10000 t with
  |.eql,some shs=>if P.eqGuardType P.depth t then none else some (.eqT false (bA d) shs x y)
  |.neq,some shs=>if P.eqGuardType P.depth t then none else some (.eqT true (bA d) shs x y)
  |.eql,none=>(uZ d y).map λk=>.isNil k false x
  |.neq,none=>(uZ d y).map λk=>.isNil k true x
  |_,_=>none
 |none=>none
def da(P:Program)(c:Call):Option nO:=
 match c.callee with
 |.value (.func f)=>match P.funcs[f]? with
  |some fn=>if fn.name= "runtime.NumGoroutine" \/fn.body.isNone then none else(c.args.toList.mapM bp.of).map (.call f)
  |none=>none
 |.value (.tmp t)=>(c.args.toList.mapM bp.of).map (.callv (.tmp t))
 |.builtin .len=>match c.args.toList,c.argTypes.toList with
  |[x],[t]=>match P.underlying t with
   |some (.slice _)=>(bp.of x).map .len
   |some .string=>(bp.of x).map .lenS
   |some (.map _ _)=>(bp.of x).map .lenM
   |_=>none
  |_,_=>none
 |.builtin .copy=>match c.args.toList,c.argTypes.toList with
  |[x,y],[t,_]=>match P.underlying t with
   |some (.slice e)=>match P.info? e with
    |some i=>do return .copy i.size (<-bp.of x) (<-bp.of y)
    |none=>none
   |_=>none
  |_,_=>none
 |.builtin .delete=>match c.args.toList,c.argTypes.toList with
  |[x,k],t::_=>match P.underlying t with
   |some (.map kt _)=>match fK P kt with
    |some ki=>do return .mapDel ki.1 ki.2 (<-bp.of x) (<-bp.of k)
    |none=>none
   |_=>none
  |_,_=>none
 |.builtin .min=>match c.args.toList with
  |[x,y]=>do return .minmax false (<-bp.of x) (<-bp.of y)
  |_=>none
 |.builtin .max=>match c.args.toList with
  |[x,y]=>do return .minmax true (<-bp.of x) (<-bp.of y)
  |_=>none
 |.builtin .append=>match c.args.toList,c.argTypes.toList with
  |[x,y],[t,t']=>if t≠t' then none else match P.underlying t with
   |some (.slice e)=>match P.info? e with
    |some i=>match i.zero with
     |some z=>if z.cells.size=i.size/\0<i.size then do return .append e i.size i.bytes (<-bp.of x) (<-bp.of y)else none
     |none=>none
    |none=>none
   |_=>none
  |_,_=>none
 |_=>none
def cI(P:Program)(o:Oper):Option nO:=
 match o.op with
 |.move x|.assign x=>(bp.of x).map .bL
 |.pick c a b=>do return .pick (<-bp.of c) (<-bp.of a) (<-bp.of b)
 |.alloc e=>do
  let i<-P.info? e
  let z<-i.zero
  return .alloc (<-z.cells.toList.mapM kN)
 |.box _ x=>(bp.of x).map .box
 |.build t parts=>do
  let i<-P.info? t
  let z<-i.zero
  let zs<-z.cells.toList.mapM kN
  let pl<-places P t
  return .build zs (<-ofParts parts.toList pl)
 |.buildSlice t len parts=>
  match P.underlying t with
  |some (.slice e)=>do
   let ei<-P.info? e
   if len*ei.size>2^24\/ei.size=0 then none else
   let z<-ei.zero
   let zs<-(((Array.range (len*ei.size)).map (z.cells[· % z.cells.size]!)).toList).mapM kN
   return .bslice len ei.size zs (<-ofParts parts.toList λk=>some (k*ei.size,ei.size))
  |_=>none
 |.load t a=>match P.underlying t,P.info? t with
  |some d,some i=>(bp.of a).map (.load i.size (bA d))
  |_,_=>none
 |.store t a x=>do
  let i<-P.info? t
  return .store i.size (<-bp.of a) (<-bp.of x)
 |.nilCheck x=>(bp.of x).map .nilCheck
 |.binOp op t x y _=>do kP P op t (<-bp.of x) (<-bp.of y)
 |.unOp op _ x=>(bp.of x).map (.un op)
 |.convert src dst x=>match P.underlying src,P.underlying dst with
  |some (.int _),some (.int k)=>(bp.of x).map (.conv k)
  |_,_=>none
 |.fieldAddr s x f=>match P.underlying s with
  |some (.struct fs)=>match fs[f]? with
   |some fd=>match P.info? fd.type with
    |some fi=>if fi.size=0 then none else(bp.of x).map (.addOff fd.offset)
    |none=>none
   |none=>none
  |_=>none
 |.field s x f=>match P.underlying s with
  |some (.struct fs)=>match fs[f]? with
   |some fd=>match P.info? fd.type,P.underlying fd.type with
    |some fi,some d=>(bp.of x).map (.field fd.offset fi.size (bA d))
    |_,_=>none
   |none=>none
  |_=>none
 |.indexAddr t x ix=>match P.underlying t with
  |some (.slice e)=>match P.info? e with
   |some i=>do return .idxAddr i.size (<-bp.of x) (<-bp.of ix)
   |none=>none
  |some (.array n e)=>match P.info? e with
   |some i=>do return .arrAddr n i.size (<-bp.of x) (<-bp.of ix)
   |none=>none
  |_=>none
 |.slice t x lo hi none=>match P.underlying t with
  |some (.slice e)=>match P.info? e with
   |some i=>do return .slice i.size (<-bp.of x) (<-Am lo) (<-Am hi)
   |none=>none
  |_=>none
 |.extract t i=>(bp.of t).map (.extract i)
 |.makeSlice t l c=>match P.underlying t with
  |some (.slice e)=>match P.info? e with
   |some i=>match i.zero with
    |some z=>match l,c with
     |.tmp a,.tmp b=>if a=b/\0<i.size then do return .mkSlice e i.size i.bytes (<-z.cells.toList.mapM pn) (.tmp a)else none
     |.const (.int k a),.const (.int k' b)=>if a=b/\k=k'/\0<i.size then do return .mkSlice e i.size i.bytes (<-z.cells.toList.mapM pn) (.cm (.v (.int k a)))else none
     |_,_=>none
    |none=>none
   |none=>none
  |_=>none
 |.makeFunc f first caps=>if first.isEmpty then do return .mkFn f (<-caps.toList.mapM bp.of)else none
 |.call c=>da P c
 |.makeMap t none=>match P.underlying t with
  |some (.map kt _)=>(fK P kt).map λki=>.mkMap ki.1 ki.2
  |_=>none
 |.lookup t x k ok=>match P.underlying t with
  |some (.map kt e)=>match fK P kt,C8 P e with
   |some ki,some z=>do return .lookup ki.1 ki.2 z ok (<-bp.of x) (<-bp.of k)
   |_,_=>none
  |_=>none
 |.mapUpdate t x k y=>match P.underlying t with
  |some (.map kt _)=>match fK P kt with
   |some ki=>do return .mapUpd ki.1 ki.2 (<-bp.of x) (<-bp.of k) (<-bp.of y)
   |none=>none
  |_=>none
 |.mapEntry t x k=>match P.underlying t with
  |some (.map kt e)=>match fK P kt,C8 P e with
   |some ki,some z=>do return .mapEnt ki.1 ki.2 z (<-bp.of x) (<-bp.of k)
   |_,_=>none
  |_=>none
 |.entryStore _ x s y=>do return .entSt (<-bp.of x) (<-bp.of s) (<-bp.of y)
 |.range t x=>match P.underlying t with
  |some (.map _ _)=>(bp.of x).map .rangeM
  |_=>none
 |.entry x=>(bp.of x).map .entryM
 |.index t x i=>match P.underlying t with
  |some .string=>do return .indexS (<-bp.of x) (<-bp.of i)
  |_=>none
 |.panic _|.makeInterface .. =>some .fail
 |_=>none
section
variable{w:World}{W:Nat->Prop}{objs:aU}{L:Loc}
theorem C9(off:Nat):∀(vs:List Value) (j0:Nat) (cs:Array Value),off+j0+vs.length<=cs.size->
  (vs.zipIdx j0).foldl (λcs (x:Value×Nat)=>cs.setIfInBounds (off+x.2) x.1) cs=(bI cs.toList (off+j0) vs).toArray
 |[],j0,cs,_=>by simp[bI]
 |v::vs,j0,cs,h=>by
  simp only[Za9]at h;simp only[Zb7,Zaz];rw[C9 off vs (j0+1) _ (by simp;omega)]
  congr 1
  simp only[bI,Array.toList_setIfInBounds,Za9];have e:=list_seg_step cs.toList (off+j0) v vs (by simp;omega);simpa [Nat.add_assoc]using e
theorem An{a:Act}{ρ:Nat->DV}(hg:Ab w (WW W objs L))(hZ:∀t,av w W objs L (ρ t) (a.tmps.getD t Go.undef)){place:Nat->Option (Nat×Nat)}:∀(ps:List (Nat×Operand)) (qs:List (Nat×Nat×bp)),ofParts ps place=some qs->
  ∀(cells:Array Value) (ds:List DV),aL w W objs L ds cells.toList->qS cells.size (qs.map λp=>(p.1,p.2.1,p.2.2.ev ρ))->
   ∃Ao,Instr.fill place cells (ps.map λp=>(p.1,a.eval p.2))=some Ao/\aL w W objs L (tn ds (qs.map λp=>(p.1,p.2.1,p.2.2.ev ρ))) Ao.toList/\Ao.size=cells.size
 |[],qs,h,cells,ds,hd,_=>by
  simp[ofParts]at h;subst h;exact⟨cells,rfl,by simpa [tn]using hd,rfl⟩
 |p::ps,qs,h,cells,ds,hd,aG=>by
  simp only[ofParts,Za1,Zak,Zaf,Zac,Zaa]at h;obtain⟨q,⟨pl,Qr,x,hx,rfl⟩,qs',hqs,rfl⟩:=h;simp only[Zau,qS]at aG;obtain⟨hl,qW,zz,tr⟩:=aG;have hv:=bp.bq hg hZ hx;have lz:=nR hv zz;have bj:(a.eval p.2).cells.size=pl.2:=by have:=aL.length lz;simpa [hl]using this
  have X0:((a.eval p.2).cells.zipIdx.foldl (λcs (x:Value×Nat)=>cs.setIfInBounds (pl.1+x.2) x.1) cells)=(bI cells.toList pl.1 (a.eval p.2).cells.toList).toArray:=by
   rw[<-Array.foldl_toList,Array.toList_zipIdx];have:=C9 pl.1 (a.eval p.2).cells.toList 0 cells (by simp[bj];omega);simpa using this
  have hd':aL w W objs L (bI ds pl.1 (cellsOf (x.ev ρ))) (bI cells.toList pl.1 (a.eval p.2).cells.toList).toArray.toList:=by
   simpa using aL.bI pl.1 hd lz
  have gF:(bI cells.toList pl.1 (a.eval p.2).cells.toList).toArray.size=cells.size:=by
   have:=fB (l:=cells.toList) (new:=(a.eval p.2).cells.toList) (off:=pl.1) (by simp[bj];omega);simpa using this
  obtain⟨Ao,h1,h2,h3⟩:=An hg hZ ps qs' (by simpa [ofParts]using hqs) _ _ hd' (by rw[gF];exact tr);refine⟨Ao, ?_,by simpa only[Zau,tn]using h2,h3.trans gF⟩;simp only[Zau,Instr.fill,Qr,bj];rw[if_neg (by simp;omega),X0];exact h1
theorem rC{P:Program}(w:World){t e:TypeId}{i:TypeInfo}{z:Value}(ht:P.underlying t=some (.slice e))(hi:P.info? e=some i)(hz:i.zero=some z)(len:Nat)(hlen:¬len*i.size>2^24){parts:Array (Nat×Value)}{cells:Array Value}
  (h:Instr.fill (λk=>some (k*i.size,i.size)) ((Array.range (len*i.size)).map (z.cells[· % z.cells.size]!)) parts.toList=some cells):
  (Instr.buildSlice t len parts).run P w=.ok (.slice (some ⟨w.heap.size,0,none⟩) len len) (w.alloc (.cells cells e)):=by
 by_cases h0:len*i.size=0
 ·have h':Instr.fill (λk=>some (k*i.size,i.size)) #[] parts.toList=some cells:=by
   rw[h0]at h;simpa [Array.range_zero']using h
  simp[Instr.buildSlice,run_underlying ht,run_sizeOf hi,h0,h',newRow,Array.range_zero']
 ·simp[Instr.buildSlice,run_underlying ht,run_sizeOf hi,zeroValue,typeInfo,hi,hz,h0,hlen,h,newRow]
end
end Go.DM
namespace Go.DM
open Go.RowKit
variable [Laid]
def bS(P:Program)(base:Nat)(W M:Nat->Prop)(w0:World)(objs:aU)(L:Loc)(w:World)(a:Act)(o:Oper)(e:oF):Prop:=
 ∃nx v w' L',(execOp a.eval o).run P w=.ok nx w'/\(nx=.value v\/(nx=.skip/\v=Go.undef))/\
  bN base W M w0 (bV objs e.put) w' L'/\jc W objs L w (bV objs e.put) L' w'/\av w' W (bV objs e.put) L' e.val v
section
variable{P:Program}{base:Nat}{W M:Nat->Prop}{w0:World}{objs:aU}{L:Loc}{w:World}{a:Act}{o:Oper}
theorem bS.quiet(hO:bN base W M w0 objs w L){e:oF}(nS:e.put=none){v:Value}(bz:(execOp a.eval o).run P w=.ok (.value v) w)(hv:av w W objs L e.val v):bS P base W M w0 objs L w a o e:=
 ⟨.value v,v,w,L,bz,.inl rfl,by rw[nS];exact hO,by rw[nS];exact jc.ct (cq.refl _ _),by rw[nS];exact hv⟩
theorem bS.int(hO:bN base W M w0 objs w L){e:oF}(nS:e.put=none){k:IntKind}{n:Int}(c6:e.val=.v (.int k n))(bz:(execOp a.eval o).run P w=.ok (.value (.int k n)) w):bS P base W M w0 objs L w a o e:=
 bS.quiet hO nS bz (by rw[c6];simp[av,aS])
theorem bS.bool(hO:bN base W M w0 objs w L){e:oF}(nS:e.put=none){b:Bool}(c6:e.val=.v (.bool b))(bz:(execOp a.eval o).run P w=.ok (.value (.bool b)) w):bS P base W M w0 objs L w a o e:=
 bS.quiet hO nS bz (by rw[c6];simp[av,aS])
theorem OG(hO:bN base W M w0 objs w L){op:BinOp}{t:TypeId}{x y:Operand}{yt:TypeId}(ho:o.op=.binOp op t x y yt){d1 d2:DV}(h1:av w W objs L d1 (a.eval x))(h2:av w W objs L d2 (a.eval y))(aG:(qT op d1 d2).ok):
  bS P base W M w0 objs L w a o (qT op d1 d2):=by
 have key:∀{k k':IntKind} {p q:Int},d1=.v (.int k p)->d2=.v (.int k' q)->bS P base W M w0 objs L w a o (qT op d1 d2):=by
  rintro k k' p q rfl rfl;simp only[av,aS]at h1 h2;have hex:∀(v:Value),(eqGuard op t x y (.int k p) (.int k' q)).run P w=.ok () w->(binOp op t (.int k p) (.int k' q)).run P w=.ok v w->(execOp a.eval o).run P w=.ok (.value v) w:=by
   intro v e1 e2;simp[execOp,ho,h1,h2,e1,e2]
  have hg:(eqGuard op t x y (.int k p) (.int k' q)).run P w=.ok () w:=by cases op<;>simp[eqGuard]
  cases op<;>simp only[qT,bad]at aG⊢
  all_goals first
   |exact aG.elim
   |(subst aG;first
     |(refine bS.int hO rfl rfl (hex _ hg ?_);simp[binOp,Op.intArith];done)
     |(refine bS.int hO rfl rfl (hex _ hg ?_);simp[binOp,Op.intBits];done)
     |(refine bS.bool hO rfl rfl (hex _ hg ?_);simp[binOp,Op.intCmp];done)
     |(refine bS.bool hO rfl rfl (hex _ hg ?_);simp[binOp,Op.intCmp];rfl))
   |(refine bS.int hO rfl rfl (hex _ hg ?_);simp[binOp,shift_shl_any _ _ _ _ aG,shift_shr_any _ _ _ _ aG];done)
   |(obtain⟨rfl,hq⟩:=aG;exact bS.int hO rfl rfl (hex _ hg (by simp[binOp,Op.intDiv,hq])))
 unfold qT at aG;split at aG
 ·exact key rfl rfl
 ·exact aG.elim
theorem ED{d:DV}{x:Value}{cs:List DV}(h:av w W objs L d x)(hc:lu d=some cs):∃vs:Array Value,x=.agg vs/\aL w W objs L cs vs.toList:=by
 cases d with
 |v t=>
  cases t with
  |agg ts=>
   simp only[lu,Zaa]at hc;subst hc;simp only[av,aS]at h;obtain⟨vs,rfl,hr⟩:=h;exact⟨vs,rfl,aL.pk hr⟩
  |_=>simp[lu]at hc
 |agg ds=>
  simp only[lu,Zaa]at hc;subst hc;simp only[av]at h;exact h
 |_=>simp[lu]at hc
theorem GL{s:TypeId}{xv:Value}{f:Nat}{fs:Array Field}{fd:Field}{i:TypeInfo}{desc:TypeDesc}(hs:P.underlying s=some (.struct fs))(hf:fs[f]? =some fd)(hi:P.info? fd.type=some i)(hd:P.underlying fd.type=some desc)
  {d:DV} (h:av w W objs L d xv) (aG:(mG fd.offset i.size (bA desc) d).ok):
  (mG fd.offset i.size (bA desc) d).put=none/\∃v,(Instr.field s xv f).run P w=.ok v w/\av w W objs L (mG fd.offset i.size (bA desc) d).val v:=by
 unfold mG at aG⊢;cases hc:lu d with
 |none=>simp[hc,bad]at aG
 |some cs=>
  simp only[hc]at aG⊢;obtain⟨vs,rfl,hr⟩:=ED h hc;have hl:=aL.length hr;have hp:=lA (P:=P) w hd hi (xs:=vs.toList) (off:=fd.offset) aG.2 (by omega);simp only[Array.toArray_toList]at hp;refine⟨trivial,_,by simp[Instr.field,run_underlying hs,hf,asAgg,hp];rfl, ?_⟩;by_cases ha:bA desc=true
  ·simp only[ha,if_true,wE,av];exact⟨_,rfl,by simpa using aL.take i.size (aL.drop fd.offset hr)⟩
  ·have h1:i.size=1:=aG.2.resolve_left ha;have cV:fd.offset<cs.length:=by omega
   obtain⟨v,p9,_,ff⟩:=aL.get hr (i:=fd.offset) (d:=cs[fd.offset]) (by simp[cV]);have e1:(List.take i.size (List.drop fd.offset vs.toList)).getD 0 Go.undef=v:=by
    rw[h1];simp only[List.getD,ZaF,Zbb,ZbG,p9];simp
   have e2:cs.getD fd.offset .undef=cs[fd.offset]:=by simp[List.getD,cV]
   simp only[ha,wE,e1,e2];exact ff
theorem EE{k:Nat}{d:DV}{xv:Value}(h:av w W objs L d xv)(aG:(fR k d).ok):
  (fR k d).put=none/\∃b o,xv=.pointer (some ⟨b,o,none⟩)/\av w W objs L (fR k d).val (.pointer (some ⟨b,o+k,none⟩)):=by
 cases d with
 |ptr r off=>
  simp only[av]at h;obtain⟨hc,rfl⟩:=h;exact⟨rfl,_,_,rfl,by simp only[fR,av];exact⟨hc,trivial⟩⟩
 |kL rows i off=>
  simp only[av]at h;obtain⟨b,o,sz,rfl,rest⟩:=h;exact⟨rfl,_,_,rfl,by simp only[fR,av];exact⟨b,o,sz,by rw[Nat.add_assoc],rest⟩⟩
 |gE cs off=>
  simp only[av]at h;obtain⟨b,o,rfl,rest⟩:=h;exact⟨rfl,_,_,rfl,by simp only[fR,av];exact⟨b,o,by rw[Nat.add_assoc],rest⟩⟩
 |jh r ver i off=>
  simp only[av]at h;obtain⟨⟨b,o,rfl⟩,ver',e,sz,rows,ho,hle,hx⟩:=h;refine⟨rfl,_,_,rfl, ?_⟩;simp only[fR,av];refine⟨⟨_,_,rfl⟩,ver',e,sz,rows,ho,hle,λhv=>?_⟩;obtain⟨g,hg,hp,h0,h1⟩:=hx hv;simp only[Value.pointer.injEq,Zaa,Addr.mk.injEq,and_true]at hp;exact⟨g,hg,by rw[hp.1,hp.2,Nat.add_assoc],h0,h1⟩
 |v t=>
  cases t with
  |box cs=>
   simp only[av,aS]at h;obtain⟨b,o,rfl,rest⟩:=h;exact⟨rfl,_,_,rfl,by simp only[fR,av];exact⟨b,o,rfl,rest⟩⟩
  |_=>exact aG.elim
 |_=>exact aG.elim
theorem Ap{d:DV}{xv:Value}(h:av w W objs L d xv)(aG:(jx d).ok):
  (jx d).put=none/\(jx d).val=d/\((∃p,xv=.pointer (some p))\/∃f caps,xv=.func (.func f) #[] caps):=by
 cases d with
 |ptr r off=>simp only[av]at h;obtain⟨_,rfl⟩:=h;exact⟨rfl,rfl,.inl ⟨_,rfl⟩⟩
 |kL rows i off=>simp only[av]at h;obtain⟨b,o,sz,rfl,_⟩:=h;exact⟨rfl,rfl,.inl ⟨_,rfl⟩⟩
 |gE cs off=>simp only[av]at h;obtain⟨b,o,rfl,_⟩:=h;exact⟨rfl,rfl,.inl ⟨_,rfl⟩⟩
 |jh r ver i off=>simp only[av]at h;obtain⟨⟨b,o,rfl⟩,_⟩:=h;exact⟨rfl,rfl,.inl ⟨_,rfl⟩⟩
 |v t=>
  cases t with
  |box cs=>simp only[av,aS]at h;obtain⟨b,o,rfl,_⟩:=h;exact⟨rfl,rfl,.inl ⟨_,rfl⟩⟩
  |fn f caps=>
   cases f with
   |func f=>simp only[av,aS]at h;obtain⟨vs,rfl,_⟩:=h;exact⟨rfl,rfl,.inr ⟨_,_,rfl⟩⟩
   |_=>exact aG.elim
  |_=>exact aG.elim
 |_=>exact aG.elim
theorem OH{t e:TypeId}{i:TypeInfo}(hO:bN base W M w0 objs w L)(ht:P.underlying t=some (.slice e))(hi:P.info? e=some i){d d2:DV}{xv yv:Value}(h:av w W objs L d xv)(h2:av w W objs L d2 yv)(aG:(pg i.size objs d d2).ok):
  (pg i.size objs d d2).put=none/\∃v,(Instr.indexAt t xv yv).run P w=.ok v w/\av w W objs L (pg i.size objs d d2).val v:=by
 have bz:∀(b o n c:Nat) (k:IntKind) (j:Int),0<=j->j<n->(Instr.indexAt t (.slice (some ⟨b,o,none⟩) n c) (.int k j)).run P w=.ok (.pointer (some ⟨b,o+j.toNat*i.size,none⟩)) w:=by
  intro b o n c k j h0 h1;simp[Instr.indexAt,asIntOf,run_underlying ht,h0,h1,run_sizeOf hi,ll]
 unfold pg at aG⊢;split at aG
 ·rename_i rows k j;simp only at aG⊢;obtain⟨h0,h1,gF⟩:=aG;simp only[av,aS]at h h2;subst h2;rcases h with⟨rfl,_⟩|⟨b,o,cap,sz,rfl,hb,hn,hc,hr⟩
  ·simp at h1;omega
  ·have me:=(aY.row hr (wT h0 h1)).1;have hsz':sz=i.size:=by omega
   subst hsz';refine⟨trivial,_,bz b o _ _ k j h0 h1, ?_⟩;simp only[av];exact⟨b,o,_,by rw[ZbG],hb,hn,hr,h0,h1⟩
 ·rename_i r ver k j;cases hc:objs r with
  |none=>simp[hc,bad]at aG
  |some ob=>
   cases ob with
   |box cs=>simp[hc,bad]at aG
   |map _ _ _ _=>simp[hc,bad]at aG
   |iter _ _ _ _=>simp[hc,bad]at aG
   |arr ver' e' gb rows=>
    simp only[hc]at aG⊢;obtain⟨rfl,rfl,h0,h1⟩:=aG;simp only[av,aS]at h h2;subst h2;obtain⟨_,nP,e2,C3,jT,lP,_,hv⟩:=h;rw[hc]at lP;cases lP;have hv:=hv rfl;subst hv;have fH:=hO.ob r _ hc;obtain⟨gF,cU,hm,ky⟩:=fH;rcases ky with⟨rfl,_⟩|⟨g',cap,cur,p9,hp,hh,hle,po,Ex,eI⟩
    ·simp at h1;omega
    ·refine⟨trivial,_,by rw[p9];exact bz g' 0 _ _ k j h0 h1, ?_⟩;simp only[av];exact⟨⟨_,_,rfl⟩,ver,e',_,rows,hc,Zae _,λ_=>⟨g',by simp[p9,aP,ZaA.1 hp],by simp,h0,h1⟩⟩
 ·rename_i r ver lo n k j;cases hc:objs r with
  |none=>simp[hc,bad]at aG
  |some ob=>
   cases ob with
   |box cs=>simp[hc,bad]at aG
   |map _ _ _ _=>simp[hc,bad]at aG
   |iter _ _ _ _=>simp[hc,bad]at aG
   |arr ver' e' gb rows=>
    simp only[hc]at aG⊢;obtain⟨rfl,rfl,h0,h1⟩:=aG;simp only[av,aS]at h h2;subst h2;obtain⟨_,nP,e2,C3,jT,lP,_,hv⟩:=h;rw[hc]at lP;cases lP;have hv:=hv rfl;rcases qZ hO hc hv with⟨rfl,_⟩|⟨g,c,tT,rfl,QW,_⟩
    ·simp at h1;omega
    ·refine⟨trivial,_,bz g _ _ _ k j h0 h1, ?_⟩;have hl:=hv.1;have e1:((lo:Int)+j).toNat=lo+j.toNat:=by omega
     simp only[av];exact⟨⟨_,_,rfl⟩,ver,e',_,rows,hc,Zae _,λ_=>⟨g,tT,by rw[e1,Nat.add_mul];simp,by omega,by omega⟩⟩
 ·rename_i r n k j;simp only[av,aS]at h h2;subst h2;obtain⟨hc,rfl⟩:=h;obtain⟨h0,h1⟩:=aG;refine⟨rfl,_,bz _ _ _ _ k j h0 h1, ?_⟩;simp only[av];exact⟨hc,by simp⟩
 ·exact aG.elim
theorem CC{t e:TypeId}{i:TypeInfo}{n:Nat}(ht:P.underlying t=some (.array n e))(hi:P.info? e=some i){d d2:DV}{xv yv:Value}(h:av w W objs L d xv)(h2:av w W objs L d2 yv)(aG:(jq n i.size d d2).ok):
  (jq n i.size d d2).put=none/\∃v,(Instr.indexAt t xv yv).run P w=.ok v w/\av w W objs L (jq n i.size d d2).val v:=by
 have bz:∀(b o:Nat) (k:IntKind) (j:Int),0<=j->j<n->(Instr.indexAt t (.pointer (some ⟨b,o,none⟩)) (.int k j)).run P w=.ok (.pointer (some ⟨b,o+j.toNat*i.size,none⟩)) w:=by
  intro b o k j h0 h1;by_cases hn:n<=1<;>simp[Instr.indexAt,asIntOf,run_underlying ht,h0,h1,run_sizeOf hi,ll,Instr.sureAddr]
 unfold jq at aG⊢;split at aG
 ·rename_i r off k j;simp only[av,aS]at h h2;obtain⟨hc,rfl⟩:=h;subst h2;exact⟨rfl,_,bz _ _ k j aG.1 aG.2,by simp only[av];exact⟨hc,trivial⟩⟩
 ·rename_i rows q off k j;simp only[av,aS]at h h2;obtain⟨b,o,sz,rfl,rest⟩:=h;subst h2;exact⟨rfl,_,bz _ _ k j aG.1 aG.2,by simp only[av];exact⟨b,o,sz,by rw[Nat.add_assoc],rest⟩⟩
 ·rename_i cs off k j;simp only[av,aS]at h h2;obtain⟨b,o,rfl,rest⟩:=h;subst h2;exact⟨rfl,_,bz _ _ k j aG.1 aG.2,by simp only[av];exact⟨b,o,by rw[Nat.add_assoc],rest⟩⟩
 ·rename_i cs k j;simp only[av,aS]at h h2;obtain⟨b,o,rfl,rest⟩:=h;subst h2;exact⟨rfl,_,bz _ _ k j aG.1 aG.2,by simp only[av];exact⟨b,o,rfl,rest⟩⟩
 ·rename_i r ver q off k j;simp only[av,aS]at h h2;obtain⟨⟨b,o,rfl⟩,ver',e,sz,rows,ho,hle,hx⟩:=h;subst h2;refine⟨rfl,_,bz _ _ k j aG.1 aG.2, ?_⟩;simp only[av];refine⟨⟨_,_,rfl⟩,ver',e,sz,rows,ho,hle,λhv=>?_⟩;obtain⟨g,hg,hp,h0,h1⟩:=hx hv;simp only[Value.pointer.injEq,Zaa,Addr.mk.injEq,and_true]at hp;exact⟨g,hg,by rw[hp.1,hp.2,Nat.add_assoc],h0,h1⟩
 ·exact aG.elim
theorem OI{x:Operand}{t e:TypeId}(hO:bN base W M w0 objs w L)(ho:o.op=.call {callee:=.builtin .len,args:= #[x],argTypes:= #[t]})(ht:P.underlying t=some (.slice e)){d:DV}(h:av w W objs L d (a.eval x))(aG:(tQ objs d).ok):
  bS P base W M w0 objs L w a o (tQ objs d):=by
 have ta:∀(p:Option Addr) (n c:Nat),a.eval x=.slice p n c->(execOp a.eval o).run P w=.ok (.value (.int .i64 n)) w:=by
  rintro p n c hx;simp[execOp,ho,resolve,invoke,builtin,hx,Builtin.len_,run_underlying ht,goInt]
 cases d with
 |v t'=>
  cases t' with
  |sl rows=>
   simp only[av,aS]at h;rcases h with⟨rfl,p,c,hx⟩|⟨b,oo,cap,sz,hx,_⟩
   ·exact bS.int hO rfl rfl (ta _ _ _ hx)
   ·exact bS.int hO rfl rfl (ta _ _ _ hx)
  |_=>exact aG.elim
 |aJ=>
  simp only[av]at h;obtain⟨p,hx⟩:=h;exact bS.int hO rfl rfl (ta _ _ _ hx)
 |bd r ver=>
  simp only[av]at h;obtain⟨_,ver',e',sz,rows,hc,_,hv⟩:=h;simp only[tQ,hc]at aG⊢;have hv:=hv aG;have fH:=hO.ob r _ hc;obtain⟨gF,cU,hm,ky⟩:=fH;rcases ky with⟨rfl,p,hp⟩|⟨g',cap,cur,p9,hp,hh,hle,po,Ex,eI⟩
  ·exact bS.int hO rfl rfl (ta _ _ _ (hv.trans hp))
  ·exact bS.int hO rfl rfl (ta _ _ _ (hv.trans p9))
 |s8 r ver lo n=>
  simp only[av]at h;obtain⟨⟨p,c,hx⟩,_⟩:=h;exact bS.int hO rfl rfl (ta _ _ _ hx)
 |Es r n=>
  simp only[av]at h;obtain⟨_,hx⟩:=h;exact bS.int hO rfl rfl (ta _ _ _ hx)
 |_=>exact aG.elim
theorem Ka{x:Operand}{t:TypeId}(hO:bN base W M w0 objs w L)(ho:o.op=.call {callee:=.builtin .len,args:= #[x],argTypes:= #[t]})(ht:P.underlying t=some .string){d:DV}(h:av w W objs L d (a.eval x))(aG:(sr d).ok):
  bS P base W M w0 objs L w a o (sr d):=by
 unfold sr at aG⊢;split at aG
 ·simp only[av,aS]at h;refine bS.int hO rfl rfl ?_;simp[execOp,ho,resolve,invoke,builtin,h,Builtin.len_,run_underlying ht,goInt]
 ·exact aG.elim
theorem u0{x y:Operand}{ts:Array TypeId}(m:Bool)(hO:bN base W M w0 objs w L)(ho:o.op=.call {callee:=.builtin (if m then .max else .min),args:= #[x,y],argTypes:=ts}){d1 d2:DV}(h1:av w W objs L d1 (a.eval x))(h2:av w W objs L d2 (a.eval y))(aG:(mr m d1 d2).ok):
  bS P base W M w0 objs L w a o (mr m d1 d2):=by
 unfold mr at aG⊢;split at aG
 ·rename_i k p k' q;simp only[av,aS]at h1 h2;have hok':k=k':=aG;subst hok';cases m
  ·have e:(if q<p then q else p)=min p q:=by omega
   refine bS.int hO rfl rfl ?_;simp[execOp,ho,resolve,invoke,builtin,h1,h2,run_min_int2,e]
  ·have e:(if q>p then q else p)=max p q:=by omega
   refine bS.int hO rfl rfl ?_;simp only[gt_iff_lt]at e;simp[execOp,ho,resolve,invoke,builtin,h1,h2,run_max_int2,e]
 ·exact aG.elim
theorem Da{d:DV}{x:Value}{n:Int}(h:av w W objs L d x)(hi:Ae d=some n):∃k,x=.int k n:=by
 unfold Ae at hi;split at hi
 ·simp only[Zaa]at hi;subst hi;simp only[av,aS]at h;exact⟨_,h⟩
 ·cases hi
theorem GM(hO:bN base W M w0 objs w L){t e:TypeId}{i:TypeInfo}(ht:P.underlying t=some (.slice e))(hi:P.info? e=some i){d:DV}{xv:Value}(h:av w W objs L d xv){lo nB:Option DV}{lv hv:Option Value}
  (MY:(lo=none/\lv=none)\/∃dl vl,lo=some dl/\lv=some vl/\av w W objs L dl vl) (hhi:(nB=none/\hv=none)\/∃dl vl,nB=some dl/\hv=some vl/\av w W objs L dl vl)
  (aG:(ij i.size lo nB objs d).ok):
  (ij i.size lo nB objs d).put=none/\∃v,(Instr.sliceAt t xv lv hv none).run P w=.ok v w/\av w W objs L (ij i.size lo nB objs d).val v:=by
 have bz:∀(p:Option Addr) (n c:Nat) (l hh:Int),0<=l->l<=hh->hh<=n->n<=c->(lv=none/\l=0\/∃k,lv=some (.int k l))->(hv=none/\hh=n\/∃k,hv=some (.int k hh))->
   (Instr.sliceAt t (.slice p n c) lv hv none).run P w=.ok (.slice (if c=l.toNat then p else p.map (·.add (l.toNat*i.size))) (hh.toNat-l.toNat) (c-l.toNat)) w:=by
  intro p n c l hh h0 h1 h2 h3 hl hh';have b2:hh<=c:=by omega
  have b3:0<=hh:=by omega
  have b4:l<=(hh.toNat:Int):=by omega
  have b5:((hh.toNat:Nat):Int)=hh:=by omega
  rcases hl with⟨rfl,rfl⟩|⟨k,rfl⟩<;>rcases hh' with⟨rfl,rfl⟩|⟨k',rfl⟩
  ·simp[Instr.sliceAt,Instr.slice,run_underlying ht,Instr.sliceBounds,run_sizeOf hi]
  ·simp[Instr.sliceAt,Instr.slice,run_underlying ht,Instr.sliceBounds,run_sizeOf hi,Instr.sliceBound,asIntOf,b2,b3]
  ·have b6:l<=(n:Int):=h1;simp[Instr.sliceAt,Instr.slice,run_underlying ht,Instr.sliceBounds,run_sizeOf hi,Instr.sliceBound,asIntOf,b6,h0]
  ·simp[Instr.sliceAt,Instr.slice,run_underlying ht,Instr.sliceBounds,run_sizeOf hi,Instr.sliceBound,asIntOf,b2,b3,h0,b5,h1]
 have QX:∀{l:Int},Af lo=some l->(lv=none/\l=0\/∃k,lv=some (.int k l)):=by
  intro l hl;rcases MY with⟨rfl,rfl⟩|⟨dl,vl,rfl,rfl,hr⟩
  ·simp only[Af,Zaa]at hl;exact .inl ⟨rfl,hl.symm⟩
  ·obtain⟨k,rfl⟩:=Da hr hl;exact .inr ⟨k,rfl⟩
 have c6:∀{n:Int} {l:Int},Ag n nB=some l->(hv=none/\l=n\/∃k,hv=some (.int k l)):=by
  intro n l hl;rcases hhi with⟨rfl,rfl⟩|⟨dl,vl,rfl,rfl,hr⟩
  ·simp only[Ag,Zaa]at hl;exact .inl ⟨rfl,hl.symm⟩
  ·obtain⟨k,rfl⟩:=Da hr hl;exact .inr ⟨k,rfl⟩
 cases d with
 |v t'=>
  cases t' with
  |sl rows=>
   simp only[ij]at aG⊢;cases el:Af lo with
   |none=>simp[el,bad]at aG
   |some l=>
    cases eh:Ag rows.length nB with
    |none=>simp[el,eh,bad]at aG
    |some hh=>
     simp only[el,eh]at aG⊢;obtain⟨h0,h1,h2,gF⟩:=aG;refine⟨trivial, ?_⟩;simp only[av,aS]at h;have hlen:((rows.take hh.toNat).drop l.toNat).length=hh.toNat-l.toNat:=by simp;omega
     rcases h with⟨rfl,p,c,rfl⟩|⟨b,oo,cap,sz,rfl,hb,hn,hc,hr⟩
     ·have z1:hh=0:=by simp at h2;omega
      have z2:l=0:=by omega
      subst z1 z2;refine⟨_,bz p 0 c 0 0 h0 h1 (by omega) (by omega) (QX el) (c6 eh), ?_⟩;simp only[av,aS];exact .inl ⟨by simp,_,_,rfl⟩
     ·refine⟨_,bz _ _ cap l hh h0 h1 h2 hc (QX el) (c6 eh), ?_⟩;simp only[av,aS];by_cases zz:cap=l.toNat
      ·refine .inl ⟨?_,_,_,by rw[show hh.toNat-l.toNat=0 by omega]⟩;apply ZaD;omega
      ·refine .inr ⟨b,oo+l.toNat*i.size,cap-l.toNat,i.size, ?_,hb,hn,by omega, ?_⟩
       ·rw[hlen,if_neg zz];simp[ll]
       ·refine aY.zw _ _ λj r hj=>?_;rw[Zbb,ZaF]at hj;split at hj
        ·have me:=aY.row hr hj;have Qp:=gF r (Zaq hj);have:sz=i.size:=by omega
         subst this;refine⟨Qp, ?_⟩;have e2:oo+l.toNat*i.size+j*i.size=oo+(l.toNat+j)*i.size:=by rw[Nat.add_mul];omega
         rw[e2];exact me.2
        ·cases hj
  |_=>exact aG.elim
 |aJ=>
  simp only[ij]at aG⊢;cases el:Af lo with
  |none=>simp[el,bad]at aG
  |some l=>
   cases eh:Ag 0 nB with
   |none=>simp[el,eh,bad]at aG
   |some hh=>
    simp only[el,eh]at aG⊢;obtain⟨rfl,rfl⟩:=aG;refine⟨trivial, ?_⟩;simp only[av]at h;obtain⟨p,rfl⟩:=h;refine⟨_,bz p 0 0 0 0 (Zcx _) (Zcx _) (by omega) (Zae _) (QX el) (c6 eh), ?_⟩;simp[av]
 |bd r ver=>
  simp only[ij]at aG⊢;cases hc:objs r with
  |none=>simp[hc,bad]at aG
  |some ob=>
   cases ob with
   |arr ver' e' gb rows=>
    simp only[hc]at aG⊢;cases el:Af lo with
    |none=>simp[el,bad]at aG
    |some l=>
     cases eh:Ag rows.length nB with
     |none=>simp[el,eh,bad]at aG
     |some hh=>
      simp only[el,eh]at aG⊢;obtain⟨rfl,rfl,h0,h1,h2⟩:=aG;refine⟨trivial, ?_⟩;simp only[av]at h;obtain⟨_,nP,e2,C3,jT,lP,_,jn⟩:=h;rw[hc]at lP;cases lP;have jn:=jn rfl;subst jn;obtain⟨_,_,_,ky⟩:=hO.ob r _ hc;have ta:∃p cap,L.sl r=.slice p rows.length cap/\rows.length<=cap:=by
       rcases ky with⟨rfl,a,ha⟩|⟨g,cap,cur,k1,k2,k3,k4,_⟩
       ·exact⟨a,0,ha,Zae _⟩
       ·exact⟨_,cap,k1,k4⟩
      obtain⟨p,cap,ta,po⟩:=ta;refine⟨_,by rw[ta];exact bz p rows.length cap l hh h0 h1 h2 po (QX el) (c6 eh), ?_⟩;simp only[av];exact⟨⟨_,_,rfl⟩,ver,e',_,rows,hc,Zae _,λ_=>⟨by omega,p,cap,_,ta,rfl,λcV=>by rw[if_neg (by omega)]⟩⟩
   |_=>simp[hc,bad]at aG
 |s8 r ver lo0 n=>
  simp only[ij]at aG⊢;cases hc:objs r with
  |none=>simp[hc,bad]at aG
  |some ob=>
   cases ob with
   |arr ver' e' gb rows=>
    simp only[hc]at aG⊢;cases el:Af lo with
    |none=>simp[el,bad]at aG
    |some l=>
     cases eh:Ag n nB with
     |none=>simp[el,eh,bad]at aG
     |some hh=>
      simp only[el,eh]at aG⊢;obtain⟨rfl,rfl,h0,h1,h2⟩:=aG;refine⟨trivial, ?_⟩;simp only[av]at h;obtain⟨_,nP,e2,C3,jT,lP,_,jn⟩:=h;rw[hc]at lP;cases lP;obtain⟨QM,p,cap,p2,ta,rfl,MT⟩:=jn rfl;obtain⟨_,_,_,ky⟩:=hO.ob r _ hc;have po:rows.length<=cap/\∀q,p=some q->0<cap->∃g,q=⟨g,0,none⟩:=by
       rcases ky with⟨rfl,a,ha⟩|⟨g,cap',cur,k1,k2,k3,k4,_⟩
       ·exact⟨by simp,λq hq Qq=>by rw[ta]at ha;cases ha;omega⟩
       ·rw[ta]at k1;cases k1;exact⟨k4,λq hq _=>⟨g,by simpa using hq.symm⟩⟩
      refine⟨_,bz p2 n (cap-lo0) l hh h0 h1 h2 (by omega) (QX el) (c6 eh), ?_⟩;simp only[av];refine⟨⟨_,_,rfl⟩,ver,e',_,rows,hc,Zae _,λ_=>⟨by omega,p,cap,_,ta,by rw[Nat.sub_sub],λcV=>?_⟩⟩;rw[if_neg (by omega),MT (by omega)];cases p with
      |none=>rfl
      |some q=>
       obtain⟨g,rfl⟩:=po.2 q rfl (by omega);simp[ll,Nat.add_mul]
   |_=>simp[hc,bad]at aG
 |_=>exact aG.elim
end
end Go.DM
namespace Go.DM
open Go.RowKit
variable [Laid]
section
variable{P:Program}{base:Nat}{W M:Nat->Prop}{w0:World}{objs:aU}{L:Loc}{w:World}{a:Act}{o:Oper}
theorem gQ{W':Nat->Prop}:∀{shs:List Sh} {ts:List T} {vs:List Value},dj shs ts->aR w W' ts vs->fits shs vs
 |[],ts,vs,h,hr=>by
  simp only[dj]at h;subst h;simpa [aR,fits]using hr
 |s::ss,[],vs,h,_=>by simp[dj]at h
 |s::ss,t::ts,vs,h,hr=>by
  simp only[dj]at h;simp only[aR]at hr;obtain⟨v,ia,rfl,_,h2,hr⟩:=hr;simp only[fits];refine⟨v,ia,rfl, ?_,gQ h.2 hr⟩;have h1:=h.1;cases s<;>cases t<;>first|exact absurd h1 ZaC|skip
  all_goals (simp only[aS]at h2;subst h2;first|rfl|exact h1)
theorem GO{W':Nat->Prop}{s:Sh}{t u:T}{x y:Value}(ht:Et s t=true)(hu:Et s u=true)(hx:aS w W' t x)(hy:aS w W' u y):fe t u=ZH x y:=by
 cases s<;>cases t<;>(first|exact absurd ht ZaC|skip)<;>cases u<;>(first|exact absurd hu ZaC|skip)
 all_goals (simp only[aS]at hx hy;subst hx hy;simp only[fe,ZH])
 ·rfl
 ·rename_i s1 s2;by_cases h:s1=s2
  ·subst h;simp
  ·have bH:s1.toList≠s2.toList:=λe=>h (by
    rw[ByteArray.toList_eq,ByteArray.toList_eq]at e;obtain⟨d1⟩:=s1;obtain⟨d2⟩:=s2;exact congrArg ByteArray.mk (Array.ext' e))
   simp[h,bH]
theorem wW{W':Nat->Prop}:∀{shs:List Sh} {ts us:List T} {xs ys:List Value},dj shs ts->dj shs us->aR w W' ts xs->aR w W' us ys->oG ts us=kO xs ys
 |[],ts,us,xs,ys,h1,h2,hx,hy=>by
  simp only[dj]at h1 h2;subst h1 h2;simp only[aR]at hx hy;subst hx hy;rfl
 |s::ss,[],_,_,_,h,_,_,_=>by simp[dj]at h
 |s::ss,_::_,[],_,_,_,h,_,_=>by simp[dj]at h
 |s::ss,t::ts,u::us,xs,ys,h1,h2,hx,hy=>by
  simp only[dj]at h1 h2;simp only[aR]at hx hy;obtain⟨x,jN,rfl,_,Gn,hx⟩:=hx;obtain⟨y,ys',rfl,_,jV,hy⟩:=hy;simp only[oG,kO];rw[GO h1.1 h2.1 Gn jV,wW h1.2 h2.2 hx hy]
theorem mw{shs:List Sh}{t:T}(h:dj shs [t]):∃s,shs=[s]/\Et s t=true:=by
 cases shs with
 |nil=>simp[dj]at h
 |cons s ss=>
  simp only[dj]at h;cases ss with
  |nil=>exact⟨s,rfl,h.1⟩
  |cons s2 ss=>simp[dj]at h
theorem vy{em:Bool}{d:Nat}(ih:∀(t:TypeId) (shs:List Sh) (desc:TypeDesc),jL P d t=some shs->P.underlying t=some desc->∀(xs:List Value) (w:World),fits shs xs->(Instr.checkKey em d t (wE desc xs)).run P w=.ok () w)
  (GK:∀(t:TypeId) (shs:List Sh),jL P d t=some shs->∃desc,P.underlying t=some desc/\(bA desc=true\/shs.length=1)) (xs:List Value):
  ∀(fs:List Field) (off:Nat) (shs:List Sh) (w:World),gh P (jL P d) off fs=some shs->fits shs (xs.drop off)->off<=xs.length->
   (forIn fs PUnit.unit (λf (_:PUnit)=>
      if f.name≠ "_" then do
       let x<-part f.type xs.toArray f.offset
       Instr.checkKey em d f.type x
       pure (ForInStep.yield PUnit.unit)
      else pure (ForInStep.yield PUnit.unit)):Sem PUnit).run P w=.ok PUnit.unit w
 |[],off,shs,w,h,hx,_=>by simp
 |f::fs,off,shs,w,h,hx,hox=>by
  simp only[gh]at h;split at h
  ·rename_i s i hs hi;split at h
   ·rename_i hc;obtain⟨hn,rfl,gF⟩:=hc;simp only[Zab]at h;obtain⟨rest,tr,rfl⟩:=h;obtain⟨desc,hd,h1⟩:=GK _ _ hs;have sv:=fits.length hx;simp only[ZaB,Za8]at sv;obtain⟨Gn,qy⟩:=fits.split hx;rw[List.drop_drop]at qy;rw[gF]at h1;have p1:=λw=>lA (P:=P) w hd hi (xs:=xs) (off:=f.offset) h1 (by omega);have hr:=ih _ _ _ hs hd _ w Gn;rw[gF]at hr;simp only[Zcp,hn,ne_eq,not_false_eq_true,if_true,Sem.run_bind,p1,Result.andThen_ok,hr,Sem.run_pure];exact vy ih GK xs fs _ rest w tr qy (by omega)
   ·cases h
  ·cases h
theorem xk{em:Bool}{d:Nat}{e:TypeId}{de:TypeDesc}{s:List Sh}{i:TypeInfo}(hd:P.underlying e=some de)(hi:P.info? e=some i)(h1:bA de=true\/i.size=1)(hs:s.length=i.size)
  (ih:∀(xs:List Value) (w:World),fits s xs->(Instr.checkKey em d e (wE de xs)).run P w=.ok () w) (xs:List Value):
  ∀(n k:Nat) (w:World),fits ((List.replicate n s).flatten) (xs.drop (k*i.size))->
   (forIn (List.range' k n) PUnit.unit (λj (_:PUnit)=>do
      let sz<-sizeOf e
      let x<-part e xs.toArray (j*sz)
      Instr.checkKey em d e x
      pure (ForInStep.yield PUnit.unit)):Sem PUnit).run P w=.ok PUnit.unit w
 |0,k,w,hx=>by simp
 |n+1,k,w,hx=>by
  simp only[Za6,Zbf]at hx;have sv:=fits.length hx;simp only[ZaB,Za8]at sv;obtain⟨Gn,qy⟩:=fits.split hx;have e2:k*i.size+s.length=(k+1)*i.size:=by rw[Nat.add_mul,hs];omega
  rw[List.drop_drop,e2]at qy;by_cases hz:i.size=0
  ·have gF:∀(w:World),k*i.size+i.size<=xs.length\/xs.length<k*i.size:=λ_=>by omega
   have MX:=h1.elim id (λh=>by omega);have p1:=λw=>lA (P:=P) w hd hi (xs:=xs) (off:=k*i.size) h1 (by rw[hz];simp);rw[hs]at Gn;have hr:=ih _ w Gn;simp only[ZcK,Zcp,Sem.run_bind,run_sizeOf hi,p1,Result.andThen_ok,hr,Sem.run_pure];exact xk hd hi h1 hs ih xs n (k+1) w qy
  ·have p1:=λw=>lA (P:=P) w hd hi (xs:=xs) (off:=k*i.size) h1 (by omega);rw[hs]at Gn;have hr:=ih _ w Gn;simp only[ZcK,Zcp,Sem.run_bind,run_sizeOf hi,p1,Result.andThen_ok,hr,Sem.run_pure];exact xk hd hi h1 hs ih xs n (k+1) w qy
theorem xl(em:Bool):∀(d:Nat) (t:TypeId) (shs:List Sh) (desc:TypeDesc),jL P d t=some shs->P.underlying t=some desc->∀(xs:List Value) (w:World),fits shs xs->(Instr.checkKey em d t (wE desc xs)).run P w=.ok () w
 |0,t,shs,desc,h,_,_,_,_=>by simp[jL]at h
 |d+1,t,shs,desc,h,hu,xs,w,hx=>by
  simp only[jL,hu]at h;cases desc;case bool=>simp[wE,bA,Instr.checkKey,run_underlying hu]
  case int k=>simp[wE,bA,Instr.checkKey,run_underlying hu]
  case string=>simp[wE,bA,Instr.checkKey,run_underlying hu]
  case struct fs=>
   replace h:(if P.stoodInHeld t then none else gh P (jL P d) 0 fs.toList)=some shs:=h
   split at h
   ·cases h
   ·have:=vy (em:=em) (λt shs desc=>xl em d t shs desc) (λt shs hs=>by
     cases d with
     |zero=>simp[jL]at hs
     |succ d=>exact zB hs) xs fs.toList 0 shs w h (by simpa using hx) (by omega)
    simp only[wE,bA,if_true];rw[Instr.checkKey];simp only[Sem.run_bind,run_underlying hu,Result.andThen_ok];rw[<-Array.forIn_toList];refine(congrArg (λr=>Result.andThen r _) this).trans ?_;rfl
  case array n e=>
   replace h:(match jL P d e,P.info? e with
    |some s,some i=>if s.length=i.size/\0<i.size then some ((List.replicate n s).flatten)else none
    |_,_=>none)=some shs:=h
   split at h
   ·rename_i s i hs hi;split at h
    ·rename_i hc;simp only[Zaa]at h;subst h;have hde:∃desc,P.underlying e=some desc/\(bA desc=true\/s.length=1):=by
      cases d with
      |zero=>simp[jL]at hs
      |succ d=>exact zB hs
     obtain⟨de,hd,h1⟩:=hde;rw[hc.1]at h1;have:=xk hd hi h1 hc.1 (λxs w=>xl em d e s de hs hd xs w) xs n 0 w (by simpa using hx);simp only[wE,bA,if_true];rw[Instr.checkKey];simp only[Sem.run_bind,run_underlying hu,Result.andThen_ok,Std.Legacy.Range.forIn_eq_forIn_range',Std.Legacy.Range.size,Zb2,Zcd,Nat.div_one];refine(congrArg (λr=>Result.andThen r _) this).trans ?_;rfl
    ·cases h
   ·cases h
  all_goals exact absurd h (by simp)
def aI:T->List T
 |.agg as=>as
 |t=>[t]
theorem jr{shs:List Sh}{agg:Bool}{t:T}(h:dm shs agg t):dj shs (aI t):=by
 cases t<;>simp only[dm]at h<;>exact h.2
theorem xm{W':Nat->Prop}{shs:List Sh}{desc:TypeDesc}{t:T}{x:Value}(h:dm shs (bA desc) t)(hr:aS w W' t x):∃vs,x=wE desc vs/\aR w W' (aI t) vs:=by
 cases t with
 |agg as=>
  simp only[dm]at h;simp only[aS]at hr;obtain⟨vs,rfl,hr⟩:=hr;exact⟨vs.toList,by simp[wE,h.1],hr⟩
 |_=>
  simp only[dm]at h;refine⟨[x],by simp[wE,h.1], ?_⟩;simp only[aI,aR];obtain⟨s,rfl,hs⟩:=mw h.2;refine⟨x,[],rfl, ?_,hr,rfl⟩;cases s<;>first|exact absurd hs ZaC|(simp only[aS]at hr;subst hr;rfl)
theorem A4{shs:List Sh}{agg:Bool}{t u:T}(h:dm shs agg t)(k:dm shs agg u):fe t u=oG (aI t) (aI u):=by
 cases t with
 |agg as=>
  cases u with
  |agg bs=>rfl
  |_=>simp only[dm]at h k;rw[h.1]at k;exact absurd k.1 (by simp)
 |_=>
  cases u with
  |agg bs=>simp only[dm]at h k;rw[k.1]at h;exact absurd h.1 (by simp)
  |_=>simp[aI,oG]
theorem RM{s:Sh}{t u:T}(ht:Et s t=true)(hu:Et s u=true)(h:fe t u=true):t=u:=by
 cases s<;>cases t<;>(first|exact absurd ht ZaC|skip)<;>cases u<;>(first|exact absurd hu ZaC|skip)
 ·simp only[fe,beq_iff_eq]at h;rw[h]
 ·simp only[Et,beq_iff_eq]at ht hu;simp only[fe,decide_eq_true_eq]at h;subst ht hu h;rfl
 ·simp only[fe,decide_eq_true_eq]at h;rw[h]
theorem Dt:∀{shs:List Sh} {ts us:List T},dj shs ts->dj shs us->oG ts us=true->ts=us
 |[],ts,us,h1,h2,_=>by simp only[dj]at h1 h2;rw[h1,h2]
 |s::ss,[],_,h,_,_=>by simp[dj]at h
 |s::ss,_::_,[],_,h,_=>by simp[dj]at h
 |s::ss,t::ts,u::us,h1,h2,h=>by
  simp only[dj]at h1 h2;simp only[oG,Zam]at h;rw[RM h1.1 h2.1 h.1,Dt h1.2 h2.2 h.2]
theorem key_inj{shs:List Sh}{agg:Bool}{t u:T}(h:dm shs agg t)(k:dm shs agg u)(e:fe t u=true):t=u:=by
 have h1:=jr h;have k1:=jr k;rw[A4 h k]at e;have:=Dt h1 k1 e;cases t with
 |agg as=>
  cases u with
  |agg bs=>simpa [aI]using this
  |_=>simp only[dm]at h k;rw[h.1]at k;exact absurd k.1 (by simp)
 |_=>
  cases u with
  |agg bs=>simp only[dm]at h k;rw[k.1]at h;exact absurd h.1 (by simp)
  |_=>exact(List.cons.inj this).1
theorem Ph{k:TypeId}{shs:List Sh}{agg:Bool}(hk:fK P k=some (shs,agg)){t u:T}{x y:Value}{W':Nat->Prop}(ht:dm shs agg t)(hu:dm shs agg u)(hx:aS w W' t x)(hy:aS w W' u y):
  (Op.equal k x y).run P w=.ok (fe t u) w:=by
 unfold fK at hk;split at hk
 ·rename_i d s hd hs;simp only[Zaa,Zar]at hk;obtain⟨rfl,rfl⟩:=hk;obtain⟨vs,rfl,h1⟩:=xm ht hx;obtain⟨us,rfl,h2⟩:=xm hu hy;rw[A4 ht hu,wW (jr ht) (jr hu) h1 h2];exact pr 10000 k s d hs hd vs us w (gQ (jr ht) h1) (gQ (jr hu) h2)
 ·cases hk
theorem pG{k:TypeId}{shs:List Sh}{agg:Bool}(hk:fK P k=some (shs,agg)){t:T}{x:Value}{W':Nat->Prop}(ht:dm shs agg t)(hx:aS w W' t x)(em:Bool):
  (Instr.checkKey em 10000 k x).run P w=.ok () w:=by
 unfold fK at hk;split at hk
 ·rename_i d s hd hs;simp only[Zaa,Zar]at hk;obtain⟨rfl,rfl⟩:=hk;obtain⟨vs,rfl,h1⟩:=xm ht hx;exact xl em 10000 k s d hs hd vs w (gQ (jr ht) h1)
 ·cases hk
theorem No{W':Nat->Prop}{shs:List Sh}{agg:Bool}{t:T}{v:Value}(hk:dm shs agg t)(hr:aS w W' t v):
  (∀k a,v=.int k a->t=.int k a)/\(∀s,v=.string s->t=.str s)/\(∀b,v=.bool b->t=.bool b):=by
 have bad:∀{x:T},dj shs [x]->(∀s,Et s x=false)->False:=λh1 h2=>by
  obtain⟨s,_,hs⟩:=mw h1;rw[h2]at hs;cases hs
 cases t with
 |agg as=>simp only[aS]at hr;obtain⟨_,rfl,_⟩:=hr;exact⟨λ_ _ e=>(by cases e),λ_ e=>(by cases e),λ_ e=>(by cases e)⟩
 |int k a=>simp only[aS]at hr;subst hr;exact⟨λ_ _ e=>(by cases e;rfl),λ_ e=>(by cases e),λ_ e=>(by cases e)⟩
 |str a=>simp only[aS]at hr;subst hr;exact⟨λ_ _ e=>(by cases e),λ_ e=>(by cases e;rfl),λ_ e=>(by cases e)⟩
 |bool a=>simp only[aS]at hr;subst hr;exact⟨λ_ _ e=>(by cases e),λ_ e=>(by cases e),λ_ e=>(by cases e;rfl)⟩
 |_=>exact(bad hk.2 (λs=>by cases s<;>rfl)).elim
def foundAt(t:T)(es:List (Nat×T×DV))(xs:List MapEntry)(i:Nat):Option (Nat×Value):=
 match es.findIdx? λe=>fe t e.2.1 with
 |some j=>(xs[j]?).map λe=>(i+j,e.val)
 |none=>none
theorem vA(t:T)(e:Nat×T×DV)(es:List (Nat×T×DV))(x:MapEntry)(xs:List MapEntry)(i:Nat):foundAt t (e::es) (x::xs) i=if fe t e.2.1 then some (i,x.val)else foundAt t es xs (i+1):=by
 simp only[foundAt,Za3];by_cases h:fe t e.2.1=true
 ·simp[h]
 ·simp only[h];cases List.findIdx? (λe=>fe t e.2.1) es with
  |none=>simp
  |some j=>simp[show i+1+j=i+(j+1)by omega]
theorem yN{k:TypeId}{shs:List Sh}{agg:Bool}(hk:fK P k=some (shs,agg)){t:T}{x:Value}(ht:dm shs agg t)(hx:aS w (WW W objs L) t x):∀(es:List (Nat×T×DV)) (xs:List MapEntry) (i:Nat),bk w W objs L es xs->(∀e∈es,dm shs agg e.2.1)->
  (Instr.findAsking k x xs i).run P w=.ok (foundAt t es xs i) w
 |[],xs,i,h,_=>by simp only[bk]at h;subst h;simp[Instr.findAsking,foundAt]
 |e::es,xs,i,h,dK=>by
  simp only[bk]at h;obtain⟨y,ys,rfl,_,h2,_,h4⟩:=h;have:=Ph hk ht (dK e (by simp)) hx h2;rw[vA];simp only[Instr.findAsking,Sem.run_bind,this,Result.andThen_ok];cases fe t e.2.1
  ·simpa using yN hk ht hx es ys (i+1) h4 λe he=>dK e (by simp[he])
  ·simp
theorem yO{k:TypeId}{shs:List Sh}{d:TypeDesc}(hd:P.underlying k=some d)(hs:jL P 10000 k=some shs){t:T}{x:Value}(ht:dm shs (bA d) t)(hx:aS w (WW W objs L) t x):∀(es:List (Nat×T×DV)) (xs:List MapEntry) (i:Nat),bk w W objs L es xs->(∀e∈es,dm shs (bA d) e.2.1)->
  Instr.findNow d x xs i=some (foundAt t es xs i)\/Instr.findNow d x xs i=none
 |[],xs,i,h,_=>by simp only[bk]at h;subst h;simp[Instr.findNow,foundAt]
 |e::es,xs,i,h,dK=>by
  simp only[bk]at h;obtain⟨y,ys,rfl,_,h2,_,h4⟩:=h;rw[vA];simp only[Instr.findNow];cases RN:Instr.sameNow d x y.key with
  |none=>right;rfl
  |some r=>
   have hr:r=fe t e.2.1:=by
    have lx:=No ht hx;have ly:=No (dK e (by simp)) h2;unfold Instr.sameNow at RN;split at RN
    ·rename_i k1 a1 k2 a2 e2;split at RN
     ·rename_i Q9;subst Q9;simp only[Zaa]at RN;rw[lx.1 _ _ rfl,ly.1 _ _ e2,<-RN];simp only[fe];by_cases h:a1=a2<;>simp[h]
     ·cases RN
    ·rename_i a1 a2 e2;simp only[Zaa]at RN;rw[lx.2.1 _ rfl,ly.2.1 _ e2,<-RN];simp only[fe];by_cases h:a1=a2
     ·subst h;obtain⟨x⟩:=a1;simp only[decide_true];exact(show(x==x)=true by simp)
     ·simp only[h,decide_false];cases hb:a1==a2 with
      |false=>rfl
      |true=>exact absurd (by
        obtain⟨x⟩:=a1;obtain⟨y⟩:=a2;have e:x=y:=by simpa using(show(x==y)=true from hb)
        rw[e]) h
    ·rename_i a1 a2 e2;simp only[Zaa]at RN;rw[lx.2.2 _ rfl,ly.2.2 _ e2,<-RN];rfl
    ·cases RN
   subst hr;cases fe t e.2.1
   ·exact yO hd hs ht hx es ys (i+1) h4 λe he=>dK e (by simp[he])
   ·simp
theorem sH{k:TypeId}{shs:List Sh}{agg:Bool}(hk:fK P k=some (shs,agg)){t:T}{x:Value}(ht:dm shs agg t)(hx:aS w (WW W objs L) t x){es:List (Nat×T×DV)}{xs:List MapEntry}(h:bk w W objs L es xs)(dK:∀e∈es,dm shs agg e.2.1):
  (Instr.findKey k x xs).run P w=.ok (foundAt t es xs 0) w:=by
 have ha:=yN hk ht hx es xs 0 h dK;unfold fK at hk;split at hk
 ·rename_i d s hd hs;simp only[Zaa,Zar]at hk;obtain⟨rfl,rfl⟩:=hk;unfold Instr.findKey;simp only[Sem.run_bind,run_underlying hd,Result.andThen_ok];rcases yO hd hs ht hx es xs 0 h dK with h1|h1
  ·rw[h1];simp
  ·rw[h1];exact ha
 ·cases hk
theorem bk.length:∀{es:List (Nat×T×DV)} {xs:List MapEntry},bk w W objs L es xs->xs.length=es.length
 |[],_,h=>by simp only[bk]at h;simp[h]
 |e::es,_,h=>by
  simp only[bk]at h;obtain⟨x,jN,rfl,_,_,_,h4⟩:=h;simp[bk.length h4]
theorem bk.get:∀{es:List (Nat×T×DV)} {xs:List MapEntry} {i:Nat} {e:Nat×T×DV},bk w W objs L es xs->es[i]? =some e->∃x,xs[i]? =some x/\x.born=e.1/\aS w (WW W objs L) e.2.1 x.key/\av w W objs L e.2.2 x.val
 |[],_,_,_,_,h=>by simp at h
 |e::es,_,0,_,hr,h=>by
  simp only[bk]at hr;obtain⟨x,jN,rfl,h1,h2,h3,_⟩:=hr;simp only[ZaG,Zaa]at h;subst h;exact⟨x,rfl,h1,h2,h3⟩
 |e::es,_,i+1,_,hr,h=>by
  simp only[bk]at hr;obtain⟨x,jN,rfl,_,_,_,h4⟩:=hr;simpa using bk.get h4 (by simpa using h)
theorem bk.append:∀{es es':List (Nat×T×DV)} {xs jN:List MapEntry},bk w W objs L es xs->bk w W objs L es' jN->bk w W objs L (es++es') (xs++jN)
 |[],_,_,_,h,k=>by simp only[bk]at h;subst h;simpa using k
 |e::es,_,_,_,h,k=>by
  simp only[bk]at h;obtain⟨x,xs1,rfl,h1,h2,h3,h4⟩:=h;simp only[ZaH,bk];exact⟨x,_,rfl,h1,h2,h3,bk.append h4 k⟩
theorem bk.modify{y:DV}{v:Value}(hy:av w W objs L y v):∀{es:List (Nat×T×DV)} {xs:List MapEntry} (i:Nat),bk w W objs L es xs->bk w W objs L (es.modify i λe=>(e.1,e.2.1,y)) (xs.modify i λe=>{e with val:=v})
 |[],_,i,h=>by simp only[bk]at h;subst h;simp[bk]
 |e::es,_,0,h=>by
  simp only[bk]at h;obtain⟨x,xs1,rfl,h1,h2,h3,h4⟩:=h;simp only[Zb4,bk];exact⟨_,_,rfl,h1,h2,hy,h4⟩
 |e::es,_,i+1,h=>by
  simp only[bk]at h;obtain⟨x,xs1,rfl,h1,h2,h3,h4⟩:=h;simp only[ZbN,bk];exact⟨_,_,rfl,h1,h2,h3,bk.modify hy i h4⟩
theorem bk.erase:∀{es:List (Nat×T×DV)} {xs:List MapEntry} (i:Nat),bk w W objs L es xs->bk w W objs L (es.eraseIdx i) (xs.eraseIdx i)
 |[],_,i,h=>by simp only[bk]at h;subst h;simp[bk]
 |e::es,_,0,h=>by
  simp only[bk]at h;obtain⟨x,xs1,rfl,h1,h2,h3,h4⟩:=h;simpa using h4
 |e::es,_,i+1,h=>by
  simp only[bk]at h;obtain⟨x,xs1,rfl,h1,h2,h3,h4⟩:=h;simp only[List.eraseIdx_cons_succ,bk];exact⟨_,_,rfl,h1,h2,h3,bk.erase i h4⟩
theorem vC{d:DV}{x:Value}{t:T}(h:av w W objs L d x)(hk:wR d=some t):aS w (WW W objs L) t x:=by
 cases d with
 |v t'=>simp only[wR,Zaa]at hk;subst hk;simpa only[av]using h
 |agg cs=>
  simp only[wR,Zab]at hk;obtain⟨ts,QT,rfl⟩:=hk;simp only[av]at h;obtain⟨vs,rfl,hr⟩:=h;simp only[aS];refine⟨vs,rfl, ?_⟩;have key:∀(cs:List DV) (ts:List T) (vs:List Value),J3 cs=some ts->aL w W objs L cs vs->aR w (WW W objs L) ts vs:=by
   intro cs;induction cs with
   |nil=>intro ts vs h1 h2;simp only[J3,Zaa]at h1;subst h1;simpa [aL,aR]using h2
   |cons c cs ih=>
    intro ts vs h1 h2;cases c with
    |v u=>
     simp only[J3,Zab]at h1;obtain⟨us,hus,rfl⟩:=h1;simp only[aL]at h2;obtain⟨y,ys,rfl,k1,k2,k3⟩:=h2;simp only[aR];exact⟨y,ys,rfl,k1,by simpa only[av]using k2,ih us ys hus k3⟩
    |_=>simp[J3]at h1
  exact key cs ts _ QT hr
 |_=>simp[wR]at hk
def Obj.Z0:Obj->Prop
 |.cells _ _ _=>False
 |_=>True
theorem ba_beq(s:ByteArray):(s==s)=true:=by
 obtain⟨x⟩:=s;exact(show(x==x)=true by simp)
theorem eM{b:Nat}{x:Obj}(h:w.heap[b]? =some x)(hx:Obj.Z0 x):(getObj b).run P w=.ok x w:=by
 cases x<;>first|exact hx.elim|simp[getObj,Sem.run,h]
def _root_.Go.World.fo(w:World)(b:Nat)(x:Obj):World:={w with heap:=w.heap.setIfInBounds b x}
theorem mX{b:Nat}{x y:Obj}(h:w.heap[b]? =some x)(hx:Obj.Z0 x):(setObj b y).run P w=.ok () (w.fo b y):=by
 cases x<;>first|exact hx.elim|simp[setObj,Sem.run,h,World.fo]
theorem yP{b:Nat}{x y:Obj}(h:w.heap[b]? =some x):(w.fo b y).heap[b]? =some y:=by
 have cV:b<w.heap.size:=(Zaj.1 h).1;simp[World.fo,cV]
theorem pH{b k:Nat}{y:Obj}(h:k≠b):(w.fo b y).heap[k]? =w.heap[k]? :=by simp[World.fo,Ne.symm h]
theorem rU{b:Nat}{y:Obj}:(w.fo b y).heap.size=w.heap.size:=by simp[World.fo]
theorem Du{g:Nat}(x:Obj)(h:Fr base M w0 w)(hg:base<=g\/M g):Fr base M w0 (w.fo g x):=
 ⟨h.os,h.tape,h.output,h.ik,by rw[rU];exact h.size,λk hk hm=>by
  rw[pH (by
    rintro rfl;rcases hg with h1|h1;·omega
    exact hm h1)]
  exact h.block k hk hm,h.drawn⟩
theorem pI(hO:bN base W M w0 objs w L){r c c':Nat}{shs shs':List Sh}{agg agg':Bool}{es es':List (Nat×T×DV)}(hc:objs r=some (.map shs agg c es)){arr':Array MapEntry}
  (hr:bk w W objs L es' arr'.toList) (h1:∀e∈es',dm shs' agg' e.2.1) (h2:∀e∈es',e.1<c') (h3:(es'.map (·.1)).Nodup):
  bN base W M w0 (bV objs (some (r,.map shs' agg' c' es'))) (w.fo (L.hY r) (.map arr' c')) L/\jc W objs L w (bV objs (some (r,.map shs' agg' c' es'))) L (w.fo (L.hY r) (.map arr' c')):=by
 obtain⟨arr,hh,_,_,_,_,hm⟩:=hO.ob r _ hc;refine bN.put hO (Du _ hO.fr hm) (by rw[rU];exact Zae _) (λ_ _=>⟨rfl,rfl⟩) rfl (λb _ hb=>pH (λx=>hb _ hc (by simp[Loc.own,x])))
  (λb hb=>.inl ⟨_,hc,hb⟩) (λo' gf _=>by rw[hc]at gf;cases gf;exact⟨rfl,rfl⟩) (λver e sz rows h=>by rw[hc]at h;cases h) (λee=>?_)
 exact⟨arr',yP hh,bk.ee ee _ _ hr,h1,h2,h3,hm⟩
theorem sameBits_self:∀{shs:List Sh} {ts:List T} {vs:List Value} {W':Nat->Prop} (n:Nat),dj shs ts->aR w W' ts vs->(vs.zip vs).all (λx=>Instr.sameBits n x.1 x.2)=true
 |[],ts,vs,W',n,h,hr=>by simp only[dj]at h;subst h;simp only[aR]at hr;subst hr;rfl
 |s::ss,[],_,_,_,h,_=>by simp[dj]at h
 |s::ss,t::ts,vs,W',n,h,hr=>by
  simp only[dj]at h;simp only[aR]at hr;obtain⟨v,ia,rfl,_,h1,h2⟩:=hr;simp only[List.zip_cons_cons,ZcC,Zam];refine⟨?_,sameBits_self n h.2 h2⟩;have hs:=h.1;cases s<;>cases t<;>first|exact absurd hs ZaC|skip
  all_goals (simp only[aS]at h1;subst h1;cases n<;>simp[Instr.sameBits,ba_beq])
theorem Hl{shs:List Sh}{agg:Bool}{t:T}{x:Value}{W':Nat->Prop}(h:dm shs agg t)(hr:aS w W' t x):Instr.sameBits 10000 x x=true:=by
 cases t with
 |agg as=>
  simp only[dm]at h;simp only[aS]at hr;obtain⟨vs,rfl,hr⟩:=hr;simp only[Instr.sameBits,beq_self_eq_true,Zcj];exact sameBits_self 9999 h.2 hr
 |_=>
  simp only[dm]at h;obtain⟨s,rfl,hs⟩:=mw h.2;have h1:x.oneCell'=true:=by cases s<;>first|exact absurd hs ZaC|(simp only[aS]at hr;subst hr;rfl)
  have:=sameBits_self (w:=w) (W':=W') 10000 h.2 (vs:=[x]) (by simp only[aR];exact⟨x,[],rfl,h1,hr,rfl⟩);simpa using this
theorem Dv:∀{shs:List Sh} {ts:List T} {vs us:List Value} {W':Nat->Prop},dj shs ts->aR w W' ts vs->aR w W' ts us->vs=us
 |[],ts,vs,us,W',h,h1,h2=>by simp only[dj]at h;subst h;simp only[aR]at h1 h2;rw[h1,h2]
 |s::ss,[],_,_,_,h,_,_=>by simp[dj]at h
 |s::ss,t::ts,vs,us,W',h,h1,h2=>by
  simp only[dj]at h;simp only[aR]at h1 h2;obtain⟨v,ia,rfl,_,k1,k2⟩:=h1;obtain⟨u,us',rfl,_,l1,l2⟩:=h2;have hs:=h.1;rw[Dv h.2 k2 l2]
  congr 1
  cases s<;>cases t<;>first|exact absurd hs ZaC|skip
  all_goals (simp only[aS]at k1 l1;rw[k1,l1])
theorem Np{shs:List Sh}{agg:Bool}{t:T}{x y:Value}{W':Nat->Prop}(h:dm shs agg t)(hx:aS w W' t x)(hy:aS w W' t y):x=y:=by
 cases t with
 |agg as=>
  simp only[dm]at h;simp only[aS]at hx hy;obtain⟨vs,rfl,hx⟩:=hx;obtain⟨us,rfl,hy⟩:=hy;have:=Dv h.2 hx hy;rw[Array.toList_inj.1 this]
 |_=>
  simp only[dm]at h;obtain⟨s,rfl,hs⟩:=mw h.2;cases s<;>first|exact absurd hs ZaC|(simp only[aS]at hx hy;rw[hx,hy])
end
end Go.DM
namespace Go.DM
open Go.RowKit
variable [Laid]
section
variable{P:Program}{base:Nat}{W M:Nat->Prop}{w0:World}{objs:aU}{L:Loc}{w:World}{a:Act}{o:Oper}
theorem Dw{et:TypeId}{z:DV}(h:C8 P et=some z):∃zv,(zeroValue et).run P w=.ok zv w/\av w W objs L z zv:=by
 unfold C8 at h;simp only[Zaf,Zac]at h;obtain⟨i,hi,zv,hz,h⟩:=h;refine⟨zv,by simp[zeroValue,typeInfo,hi,hz], ?_⟩;split at h
 ·rename_i cs;simp only[Zab]at h;obtain⟨ds,hds,rfl⟩:=h;simp only[av];exact⟨cs,rfl,gG hds⟩
 ·exact(tR h).1
theorem vD(t:T)(es:List (Nat×T×DV)):oH t es=(es.findIdx? λe=>fe t e.2.1).bind (es[·]?):=by
 unfold oH;induction es with
 |nil=>rfl
 |cons e es ih=>
  simp only[ZaO,Za3];by_cases h:fe t e.2.1=true
  ·simp[h]
  ·simp only[h,ih];cases List.findIdx? (λe=>fe t e.2.1) es<;>simp
theorem E5{t:T}{es:List (Nat×T×DV)}{i:Nat}(h:(es.findIdx? λe=>fe t e.2.1)=some i):∃e,es[i]? =some e/\fe t e.2.1=true:=by
 induction es generalizing i with
 |nil=>simp at h
 |cons e es ih=>
  simp only[Za3]at h;by_cases he:fe t e.2.1=true
  ·simp only[he,if_true,Zaa]at h;subst h;exact⟨e,rfl,he⟩
  ·rw[if_neg he,Zab]at h;obtain⟨j,hj,rfl⟩:=h;simpa using ih hj
theorem EF(hO:bN base W M w0 objs w L){t kt et:TypeId}{x k:Operand}{ok:Bool}(ho:o.op=.lookup t x k ok)(ht:P.underlying t=some (.map kt et)){shs:List Sh}{agg:Bool}(hk:fK P kt=some (shs,agg)){z:DV}(hz:C8 P et=some z)
  {d1 d2:DV} (h1:av w W objs L d1 (a.eval x)) (h2:av w W objs L d2 (a.eval k)) (aG:(kM shs agg z ok objs d1 d2).ok):bS P base W M w0 objs L w a o (kM shs agg z ok objs d1 d2):=by
 unfold kM at aG⊢;split at aG
 ·rename_i r RP RQ;cases hc:objs r with
  |none=>simp[hc,bad]at aG
  |some ob=>
   cases ob with
   |map shs' agg' c es=>
    simp only[hc]at aG⊢;obtain⟨rfl,rfl,pJ⟩:=aG;simp only[av]at h1;obtain⟨_,hx⟩:=h1;have qH:=vC h2 RQ;obtain⟨arr,hh,pa,dK,_,_,_⟩:=hO.ob r _ hc;have wL:=λem=>pG (P:=P) (w:=w) hk pJ qH em;have hf:=sH (P:=P) hk pJ qH pa dK;have hg:=eM (P:=P) hh trivial;simp only[RQ];rw[vD];unfold foundAt at hf;cases hi:es.findIdx? (λe=>fe RP e.2.1)with
    |none=>
     simp only[hi]at hf;obtain⟨zv,X1,hzd⟩:=Dw (P:=P) (w:=w) (W:=W) (objs:=objs) (L:=L) hz;simp only[Option.bind_none];have bz:(Instr.lookup t (.map (some (L.hY r))) (a.eval k) ok).run P w=.ok (if ok then .tuple #[zv,.bool false]else zv) w:=by
      simp[Instr.lookup,run_underlying ht,hg,wL,hf,X1]
     refine bS.quiet hO rfl (v:=if ok then .tuple #[zv,.bool false]else zv) (by simp[execOp,ho,hx,bz]) ?_;cases ok
     ·simpa using hzd
     ·simp only[if_true,av];exact⟨_,rfl,by simp only[eZ];exact⟨zv,_,rfl,hzd,.bool false,[],rfl,by simp[av,aS],rfl⟩⟩
    |some i=>
     obtain⟨e,he,hq⟩:=E5 hi;obtain⟨xe,AW,_,_,hv⟩:=bk.get pa he;simp only[hi,AW,Za0]at hf;simp only[Zb8,he];have bz:(Instr.lookup t (.map (some (L.hY r))) (a.eval k) ok).run P w=.ok (if ok then .tuple #[xe.val,.bool true]else xe.val) w:=by
      simp[Instr.lookup,run_underlying ht,hg,wL,hf]
     refine bS.quiet hO rfl (v:=if ok then .tuple #[xe.val,.bool true]else xe.val) (by simp[execOp,ho,hx,bz]) ?_;cases ok
     ·simpa using hv
     ·simp only[if_true,av];exact⟨_,rfl,by simp only[eZ];exact⟨xe.val,_,rfl,hv,.bool true,[],rfl,by simp[av,aS],rfl⟩⟩
   |_=>simp[hc,bad]at aG
 ·exact aG.elim
theorem vE{es:List (Nat×T×DV)}{y:DV}(i:Nat):(es.modify i λe=>(e.1,e.2.1,y)).map (·.1)=es.map (·.1):=by
 induction es generalizing i with
 |nil=>simp
 |cons e es ih=>cases i<;>simp[ih]
theorem nE{es:List (Nat×T×DV)}{y:DV}(i:Nat){e:Nat×T×DV}(h:e∈es.modify i λe=>(e.1,e.2.1,y)):∃e'∈es,e.1=e'.1/\e.2.1=e'.2.1:=by
 induction es generalizing i with
 |nil=>simp at h
 |cons e0 es ih=>
  cases i with
  |zero=>
   simp only[Zb4,Zag]at h;rcases h with rfl|h
   ·exact⟨e0,by simp,rfl,rfl⟩
   ·exact⟨e,by simp[h],rfl,rfl⟩
  |succ i=>
   simp only[ZbN,Zag]at h;rcases h with rfl|h
   ·exact⟨e,by simp,rfl,rfl⟩
   ·obtain⟨e',h1,h2⟩:=ih i h;exact⟨e',by simp[h1],h2⟩
theorem KE{es:List (Nat×T×DV)}{xs:List MapEntry}{i:Nat}{v key:Value}{x:MapEntry}(hx:xs[i]? =some x)(hk:x.key=key):(xs.modify i λe=>{e with key:=key,val:=v})=xs.modify i λe=>{e with val:=v}:=by
 induction xs generalizing i with
 |nil=>simp
 |cons y ys ih=>
  cases i with
  |zero=>
   simp only[ZaG,Zaa]at hx;subst hx hk;simp
  |succ i=>
   simp only[ZbN,Za5,true_and];exact ih (by simpa using hx)
theorem EG(hO:bN base W M w0 objs w L){t kt et:TypeId}{x k y:Operand}(ho:o.op=.mapUpdate t x k y)(ht:P.underlying t=some (.map kt et)){shs:List Sh}{agg:Bool}(hk:fK P kt=some (shs,agg))
  {d1 d2 d3:DV} (h1:av w W objs L d1 (a.eval x)) (h2:av w W objs L d2 (a.eval k)) (h3:av w W objs L d3 (a.eval y)) (aG:(gN shs agg objs d1 d2 d3).ok):bS P base W M w0 objs L w a o (gN shs agg objs d1 d2 d3):=by
 unfold gN at aG⊢;split at aG
 ·rename_i r RP RQ;cases hc:objs r with
  |none=>simp[hc,bad]at aG
  |some ob=>
   cases ob with
   |map shs' agg' c es=>
    simp only[hc]at aG⊢;obtain⟨rfl,rfl,pJ,hb⟩:=aG;simp only[av]at h1;obtain⟨_,hx⟩:=h1;have qH:=vC h2 RQ;obtain⟨arr,hh,pa,dK,cV,zm,hm⟩:=hO.ob r _ hc;have wL:=λem=>pG (P:=P) (w:=w) hk pJ qH em;have hf:=sH (P:=P) hk pJ qH pa dK;have hg:=eM (P:=P) hh trivial;have hs:=λy=>mX (P:=P) (y:=y) hh trivial;simp only[RQ];unfold foundAt at hf;unfold Eu mH;cases hi:es.findIdx? (λe=>fe RP e.2.1)with
    |none=>
     simp only[hi]at hf;simp only;have bz:(Instr.mapUpdate t (.map (some (L.hY r))) (a.eval k) (a.eval y)).run P w=.ok () (w.fo (L.hY r) (.map (arr.push {key:=a.eval k,val:=a.eval y,born:=c}) (c+1))):=by
      simp[Instr.mapUpdate,run_underlying ht,hg,wL,hf,hs]
     have:=pI hO hc (shs':=shs') (agg':=agg') (c':=c+1) (es':=es++[(c,RP,d3)]) (arr':=arr.push {key:=a.eval k,val:=a.eval y,born:=c})
      (by rw[Array.toList_push];exact bk.append pa (by simp only[bk];exact⟨_,_,rfl,rfl,qH,h3,rfl⟩))
      (λe he=>by
        rcases Zao.1 he with he|he;·exact dK e he
        ·simp only[Zah]at he;subst he;exact pJ)
      (λe he=>by
        rcases Zao.1 he with he|he;·have:=cV e he;omega
        ·simp only[Zah]at he;subst he;simp)
      (by rw[ZaQ,ZbP];exact⟨zm,by simp,λb hb b2 kp=>by
         simp only[Zau,ZbY,Zah]at kp;obtain⟨e,he,rfl⟩:=Zal.1 hb;have:=cV e he;omega⟩)
     exact⟨.skip,Go.undef,_,L,by simp[execOp,ho,hx,bz],.inr ⟨rfl,rfl⟩,this.1,this.2,by simp[av]⟩
    |some i=>
     obtain⟨e,he,hq⟩:=E5 hi;obtain⟨xe,AW,_,hxk,hv⟩:=bk.get pa he;simp only[hi,AW,Za0]at hf;have hte:RP=e.2.1:=key_inj pJ (dK e (Zaq he)) hq;have KF:xe.key=a.eval k:=Np pJ (by rw[hte];exact hxk) qH;have hkts:(Instr.keyThatStays xe.key (a.eval k)).run P w=.ok (a.eval k) w:=by
      rw[KF];simp[Instr.keyThatStays,Hl pJ qH]
     have hai:arr[i]? =some xe:=by simpa using AW
     have bz:(Instr.mapUpdate t (.map (some (L.hY r))) (a.eval k) (a.eval y)).run P w=.ok () (w.fo (L.hY r) (.map (arr.modify i λe=>{e with key:=a.eval k,val:=a.eval y}) c)):=by
      simp[Instr.mapUpdate,run_underlying ht,hg,wL,hf,hs,hai,hkts]
     have J4:(arr.modify i λe=>{e with key:=a.eval k,val:=a.eval y}).toList=arr.toList.modify i λe=>{e with val:=a.eval y}:=by
      rw[Zct];exact KE (es:=es) (by simpa using hai) KF
     simp only;have:=pI hO hc (shs':=shs') (agg':=agg') (c':=c) (es':=es.modify i λe=>(e.1,e.2.1,d3)) (arr':=arr.modify i λe=>{e with key:=a.eval k,val:=a.eval y})
      (by rw[J4];exact bk.modify h3 i pa)
      (λe he=>by obtain⟨e',h1,_,h2⟩:=nE i he;rw[h2];exact dK e' h1)
      (λe he=>by obtain⟨e',h1,h2,_⟩:=nE i he;rw[h2];exact cV e' h1)
      (by rw[vE];exact zm)
     exact⟨.skip,Go.undef,_,L,by simp[execOp,ho,hx,bz],.inr ⟨rfl,rfl⟩,this.1,this.2,by simp[av]⟩
   |_=>simp[hc,bad]at aG
 ·exact aG.elim
theorem EH(hO:bN base W M w0 objs w L){t kt et:TypeId}{x k:Operand}(ho:o.op=.mapEntry t x k)(ht:P.underlying t=some (.map kt et)){shs:List Sh}{agg:Bool}(hk:fK P kt=some (shs,agg)){z:DV}(hz:C8 P et=some z)
  {d1 d2:DV} (h1:av w W objs L d1 (a.eval x)) (h2:av w W objs L d2 (a.eval k)) (aG:(gO shs agg z objs d1 d2).ok):bS P base W M w0 objs L w a o (gO shs agg z objs d1 d2):=by
 unfold gO at aG⊢;split at aG
 ·rename_i r RP RQ;cases hc:objs r with
  |none=>simp[hc,bad]at aG
  |some ob=>
   cases ob with
   |map shs' agg' c es=>
    simp only[hc]at aG⊢;obtain⟨rfl,rfl,pJ⟩:=aG;simp only[av]at h1;obtain⟨_,hx⟩:=h1;have qH:=vC h2 RQ;obtain⟨arr,hh,pa,dK,cV,zm,hm⟩:=hO.ob r _ hc;have wL:=λem=>pG (P:=P) (w:=w) hk pJ qH em;have hf:=sH (P:=P) hk pJ qH pa dK;have hg:=eM (P:=P) hh trivial;have hs:=λy=>mX (P:=P) (y:=y) hh trivial;simp only[RQ];unfold XW;rw[vD];unfold foundAt at hf;unfold XV mH;cases hi:es.findIdx? (λe=>fe RP e.2.1)with
    |none=>
     simp only[hi]at hf;obtain⟨zv,X1,hzd⟩:=Dw (P:=P) (w:=w) (W:=W) (objs:=objs) (L:=L) hz;simp only[Option.bind_none];have bz:(Instr.mapEntry t (.map (some (L.hY r))) (a.eval k)).run P w=.ok (.tuple #[zv,goInt c]) (w.fo (L.hY r) (.map (arr.push {key:=a.eval k,val:=zv,born:=c}) (c+1))):=by
      simp[Instr.mapEntry,run_underlying ht,hg,wL,hf,hs,X1]
     have:=pI hO hc (shs':=shs') (agg':=agg') (c':=c+1) (es':=es++[(c,RP,z)]) (arr':=arr.push {key:=a.eval k,val:=zv,born:=c})
      (by rw[Array.toList_push];exact bk.append pa (by simp only[bk];exact⟨_,_,rfl,rfl,qH,hzd,rfl⟩))
      (λe he=>by
        rcases Zao.1 he with he|he;·exact dK e he
        ·simp only[Zah]at he;subst he;exact pJ)
      (λe he=>by
        rcases Zao.1 he with he|he;·have:=cV e he;omega
        ·simp only[Zah]at he;subst he;simp)
      (by rw[ZaQ,ZbP];exact⟨zm,by simp,λb hb b2 kp=>by
         simp only[Zau,ZbY,Zah]at kp;obtain⟨e,he,rfl⟩:=Zal.1 hb;have:=cV e he;omega⟩)
     refine⟨.value (.tuple #[zv,goInt c]),.tuple #[zv,goInt c],_,L,by simp[execOp,ho,hx,bz],.inl rfl,this.1,this.2, ?_⟩;have Yq:=av.ee this.2 _ _ hzd;simp only[av];exact⟨_,rfl,by simp only[eZ];exact⟨zv,_,rfl,Yq,goInt c,[],rfl,by simp[av,aS,goInt],rfl⟩⟩
    |some i=>
     obtain⟨e,he,hq⟩:=E5 hi;obtain⟨xe,AW,Nq,hxk,hv⟩:=bk.get pa he;simp only[hi,AW,Za0]at hf;have hte:RP=e.2.1:=key_inj pJ (dK e (Zaq he)) hq;have KF:xe.key=a.eval k:=Np pJ (by rw[hte];exact hxk) qH;have hkts:(Instr.keyThatStays xe.key (a.eval k)).run P w=.ok (a.eval k) w:=by
      rw[KF];simp[Instr.keyThatStays,Hl pJ qH]
     have hai:arr[i]? =some xe:=by simpa using AW
     have J4:(arr.modify i λe=>{e with key:=a.eval k}).toList=arr.toList:=by
      rw[Zct];apply Zbl;intro j;rw[List.getElem?_modify];split
      ·rename_i hj;subst hj;rw[AW];simp[<-KF]
      ·simp
     have bz:(Instr.mapEntry t (.map (some (L.hY r))) (a.eval k)).run P w=.ok (.tuple #[xe.val,goInt xe.born]) (w.fo (L.hY r) (.map (arr.modify i λe=>{e with key:=a.eval k}) c)):=by
      simp[Instr.mapEntry,run_underlying ht,hg,wL,hf,hs,hai,hkts]
     have:=pI hO hc (shs':=shs') (agg':=agg') (c':=c) (es':=es) (arr':=arr.modify i λe=>{e with key:=a.eval k})
      (by rw[J4];exact pa) dK cV zm
     simp only[Zb8,he];refine⟨.value (.tuple #[xe.val,goInt xe.born]),.tuple #[xe.val,goInt xe.born],_,L,by simp[execOp,ho,hx,bz],.inl rfl,this.1,this.2, ?_⟩;have Yq:=av.ee this.2 _ _ hv;simp only[av];exact⟨_,rfl,by simp only[eZ];exact⟨xe.val,_,rfl,Yq,goInt xe.born,[],rfl,by simp[av,aS,goInt,Nq],rfl⟩⟩
   |_=>simp[hc,bad]at aG
 ·exact aG.elim
theorem RU{es:List (Nat×T×DV)}{xs:List MapEntry}{b:Int}(h:bk w W objs L es xs):xs.findIdx? (λe=>(e.born:Int)==b)=es.findIdx? (λe=>(e.1:Int)==b):=by
 induction es generalizing xs with
 |nil=>simp only[bk]at h;subst h;rfl
 |cons e es ih=>
  simp only[bk]at h;obtain⟨x,jN,rfl,hb,_,_,hr⟩:=h;simp only[Za3,ih hr,hb]
theorem GQ(hO:bN base W M w0 objs w L){t:TypeId}{x s y:Operand}(ho:o.op=.entryStore t x s y)
  {d1 d2 d3:DV} (h1:av w W objs L d1 (a.eval x)) (h2:av w W objs L d2 (a.eval s)) (h3:av w W objs L d3 (a.eval y)) (aG:(jj objs d1 d2 d3).ok):bS P base W M w0 objs L w a o (jj objs d1 d2 d3):=by
 unfold jj at aG⊢;split at aG
 ·rename_i r kk b;cases hc:objs r with
  |none=>simp[hc,bad]at aG
  |some ob=>
   cases ob with
   |map shs agg c es=>
    simp only[hc]at aG⊢;simp only[av,aS]at h1 h2;obtain⟨_,hx⟩:=h1;obtain⟨arr,hh,pa,dK,cV,zm,hm⟩:=hO.ob r _ hc;have hg:=eM (P:=P) hh trivial;have hs:=λy=>mX (P:=P) (y:=y) hh trivial;unfold XX at aG⊢;cases hi:es.findIdx? (λe=>(e.1:Int)==b)with
    |none=>simp[hi,bad]at aG
    |some i=>
     simp only[Za0];have hbi:=(RU (b:=b) pa).trans hi;have hbi':arr.findIdx? (λe=>(e.born:Int)==b)=some i:=by rw[<-hbi];cases arr;simp
     have bz:(Instr.entryStore t (.map (some (L.hY r))) (.int kk b) (a.eval y)).run P w=.ok () (w.fo (L.hY r) (.map (arr.modify i λe=>{e with val:=a.eval y}) c)):=by
      simp[Instr.entryStore,hg,hs,asInt,asIntOf,hbi']
     have:=pI hO hc (shs':=shs) (agg':=agg) (c':=c) (es':=es.modify i λe=>(e.1,e.2.1,d3)) (arr':=arr.modify i λe=>{e with val:=a.eval y})
      (by rw[Zct];exact bk.modify h3 i pa)
      (λe he=>by obtain⟨e',h1,_,h2⟩:=nE i he;rw[h2];exact dK e' h1)
      (λe he=>by obtain⟨e',h1,h2,_⟩:=nE i he;rw[h2];exact cV e' h1)
      (by rw[vE];exact zm)
     exact⟨.skip,Go.undef,_,L,by simp[execOp,ho,hx,h2,bz],.inr ⟨rfl,rfl⟩,this.1,this.2,by simp[av]⟩
   |_=>simp[hc,bad]at aG
 ·exact aG.elim
theorem EK(hO:bN base W M w0 objs w L){t kt et:TypeId}{x k:Operand}{ts:Array TypeId}(QT:ts[0]? =some t)(ho:o.op=.call {callee:=.builtin .delete,args:= #[x,k],argTypes:=ts})(ht:P.underlying t=some (.map kt et)){shs:List Sh}{agg:Bool}(hk:fK P kt=some (shs,agg))
  {d1 d2:DV} (h1:av w W objs L d1 (a.eval x)) (h2:av w W objs L d2 (a.eval k)) (aG:(gP shs agg objs d1 d2).ok):bS P base W M w0 objs L w a o (gP shs agg objs d1 d2):=by
 unfold gP at aG⊢;split at aG
 ·rename_i r RP RQ;cases hc:objs r with
  |none=>simp[hc,bad]at aG
  |some ob=>
   cases ob with
   |map shs' agg' c es=>
    simp only[hc]at aG⊢;obtain⟨rfl,rfl,pJ⟩:=aG;simp only[av]at h1;obtain⟨_,hx⟩:=h1;have qH:=vC h2 RQ;obtain⟨arr,hh,pa,dK,cV,zm,hm⟩:=hO.ob r _ hc;have wL:=λem=>pG (P:=P) (w:=w) hk pJ qH em;have hf:=sH (P:=P) hk pJ qH pa dK;have hg:=eM (P:=P) hh trivial;have hs:=λy=>mX (P:=P) (y:=y) hh trivial;simp only[RQ];unfold foundAt at hf;unfold XU;cases hi:es.findIdx? (λe=>fe RP e.2.1)with
    |none=>
     simp only[hi]at hf;simp only;have:=pI hO hc (shs':=shs') (agg':=agg') (c':=c) (es':=es) (arr':=arr) pa dK cV zm;refine⟨.value (.tuple #[]),.tuple #[],_,L, ?_,.inl rfl,this.1,this.2,by simp only[av,aS,dx];exact⟨_,rfl,rfl⟩⟩;simp[execOp,ho,resolve,invoke,builtin,Builtin.delete_,QT,hx,run_underlying ht,hg,wL,hf,hs]
    |some i=>
     obtain⟨e,he,hq⟩:=E5 hi;obtain⟨xe,AW,_,hxk,hv⟩:=bk.get pa he;simp only[hi,AW,Za0]at hf;have J4:(arr.eraseIdxIfInBounds i).toList=arr.toList.eraseIdx i:=by
      have:i<arr.size:=by have:=(Zas.1 AW).1;simpa using this
      unfold Array.eraseIdxIfInBounds;simp[this]
     simp only;have:=pI hO hc (shs':=shs') (agg':=agg') (c':=c) (es':=es.eraseIdx i) (arr':=arr.eraseIdxIfInBounds i)
      (by rw[J4];exact bk.erase i pa)
      (λe he=>dK e (Zcf he))
      (λe he=>cV e (Zcf he))
      (List.Sublist.nodup ((List.eraseIdx_sublist _ _).map _) zm)
     refine⟨.value (.tuple #[]),.tuple #[],_,L, ?_,.inl rfl,this.1,this.2,by simp only[av,aS,dx];exact⟨_,rfl,rfl⟩⟩;simp[execOp,ho,resolve,invoke,builtin,Builtin.delete_,QT,hx,run_underlying ht,hg,wL,hf,hs]
   |_=>simp[hc,bad]at aG
 ·exact aG.elim
theorem Kc(hO:bN base W M w0 objs w L){x:Operand}{t kt et:TypeId}(ho:o.op=.call {callee:=.builtin .len,args:= #[x],argTypes:= #[t]})(ht:P.underlying t=some (.map kt et)){d:DV}(h:av w W objs L d (a.eval x))(aG:(pj objs d).ok):
  bS P base W M w0 objs L w a o (pj objs d):=by
 unfold pj at aG⊢;split at aG
 ·rename_i r;cases hc:objs r with
  |none=>simp[hc,bad]at aG
  |some ob=>
   cases ob with
   |map shs agg c es=>
    simp only[av]at h;obtain⟨_,hx⟩:=h;obtain⟨arr,hh,pa,_⟩:=hO.ob r _ hc;have hg:=eM (P:=P) hh trivial;have hl:=bk.length pa;simp only[ZaT]at hl;refine bS.int hO rfl rfl ?_;simp[execOp,ho,resolve,invoke,builtin,hx,Builtin.len_,run_underlying ht,goInt,hg,hl]
   |_=>simp[hc,bad]at aG
 ·exact aG.elim
theorem GP(hO:bN base W M w0 objs w L){name:Nat}(dz:objs name=none){t:TypeId}(ho:o.op=.makeMap t none)(shs:List Sh)(agg:Bool):
  bS P base W M w0 objs L w a o ⟨True,.iC name,some (name,.map shs agg 0 [])⟩:=by
 have hb:=jA (w:=w) (.map #[] 0);have h:=bN.put hO (r:=name) (L':=L.fC name w.heap.size) (o':=.map shs agg 0 []) (uW hO.fr hb) hb.size (λx hx=>⟨by simp[Loc.fC,hx],rfl⟩) rfl (λb cV _=>hb.block b cV) (λb h=>.inr (by
   simp only[Loc.own,Loc.fC,if_true,Zaa]at h;omega))
  (λo' h _=>by rw[dz]at h;cases h) (λ_ _ _ _ h=>by rw[dz]at h;cases h) (λee=>by
   refine⟨#[], ?_,by simp[bk],by simp,by simp,by simp,.inl ?_⟩
   ·simp only[Loc.fC,if_true];exact heap_alloc_new w _
   ·simp only[Loc.fC,if_true];exact ZaE hO.fr.ik hO.fr.size)
 refine⟨_,.map (some w.heap.size),_,_, ?_,.inl rfl,h.1,h.2, ?_⟩
 ·simp[execOp,ho,Instr.makeMap]
 ·simp only[av];exact⟨⟨shs,agg,0,[],by simp[bV]⟩,by simp[Loc.fC]⟩
theorem EI(hO:bN base W M w0 objs w L){name:Nat}(dz:objs name=none){x:Operand}{t kt et:TypeId}(ho:o.op=.range t x)(ht:P.underlying t=some (.map kt et)){d:DV}(h:av w W objs L d (a.eval x))(aG:(jy name objs d).ok):
  bS P base W M w0 objs L w a o (jy name objs d):=by
 unfold jy at aG⊢;split at aG
 ·rename_i r;cases hc:objs r with
  |none=>simp[hc,bad]at aG
  |some ob=>
   cases ob with
   |map shs agg c es=>
    simp only[av]at h;obtain⟨JM,hx⟩:=h;obtain⟨arr,hh,pa,_⟩:=hO.ob r _ hc;have hg:=eM (P:=P) hh trivial;have bH:r≠name:=λe=>by rw[e,dz]at hc;cases hc
    have hb:=jA (w:=w) (.mapIter (some (L.hY r)) c #[] c);have h:=bN.put hO (r:=name) (L':=L.fC name w.heap.size) (o':=.iter r c [] c) (uW hO.fr hb) hb.size (λx hx=>⟨by simp[Loc.fC,hx],rfl⟩) rfl (λb cV _=>hb.block b cV) (λb h=>.inr (by
      simp only[Loc.own,Loc.fC,if_true,Zaa]at h;omega))
     (λo' h _=>by rw[dz]at h;cases h) (λ_ _ _ _ h=>by rw[dz]at h;cases h) (λee=>by
      refine⟨?_,⟨shs,agg,c,es,by simp[bV,bH,hc]⟩,.inl ?_⟩
      ·simp only[Loc.fC,if_true,bH,if_false];exact heap_alloc_new w _
      ·simp only[Loc.fC,if_true];exact ZaE hO.fr.ik hO.fr.size)
    simp only[];refine⟨_,.pointer (some ⟨w.heap.size,0,none⟩),_,_, ?_,.inl rfl,h.1,h.2, ?_⟩
    ·simp[execOp,ho,Instr.range,hx,run_underlying ht,hg]
    ·simp only[av];exact⟨⟨r,c,[],c,by simp[bV]⟩,by simp[Loc.fC]⟩
   |_=>simp[hc,bad]at aG
 ·exact aG.elim
theorem A5{b:Nat}:∀{es:List (Nat×T×DV)} {xs:List MapEntry},bk w W objs L es xs->∀{e:Nat×T×DV},(es.find? λe=>e.1==b)=some e->∃x,(xs.find? λx=>x.born==b)=some x/\aS w (WW W objs L) e.2.1 x.key/\av w W objs L e.2.2 x.val
 |[],_,_,e,h=>by simp at h
 |e0::es,xs,hr,e,h=>by
  simp only[bk]at hr;obtain⟨x,jN,rfl,h1,h2,h3,h4⟩:=hr;simp only[ZaO,h1]at h⊢;by_cases hb:(e0.1==b)=true
  ·simp only[hb]at h⊢;cases h;exact⟨x,rfl,h2,h3⟩
  ·simp only[hb]at h⊢;exact A5 h4 h
theorem EM(hO:bN base W M w0 objs w L){x:Operand}(ho:o.op=.entry x){d:DV}(h:av w W objs L d (a.eval x))(aG:(jz objs d).ok):
  bS P base W M w0 objs L w a o (jz objs d):=by
 unfold jz at aG⊢;split at aG
 ·rename_i r;cases hc:objs r with
  |none=>simp[hc,bad]at aG
  |some ob=>
   cases ob with
   |iter m s sn l=>
    simp only[hc]at aG⊢;cases hm:objs m with
    |none=>simp[hm,bad]at aG
    |some om=>
     cases om with
     |map shs agg c es=>
      simp only[hm]at aG⊢;cases hl:sn.getLast? with
      |none=>simp[hl,bad]at aG
      |some b=>
       simp only[hl]at aG⊢;cases hf:es.find? (λe=>e.1==b)with
       |none=>simp[hf,bad]at aG
       |some e=>
        simp only[hf]at aG⊢;subst aG;simp only[av]at h;obtain⟨_,hx⟩:=h;obtain⟨hh,_,_⟩:=hO.ob r _ hc;obtain⟨arr,hh2,pa,_⟩:=hO.ob m _ hm;have hg:=eM (P:=P) hh trivial;have hg2:=eM (P:=P) hh2 trivial;obtain⟨xe,AW,k1,k2⟩:=A5 pa hf;have hback:sn.toArray.back? =some b:=by rw[List.back?_toArray];exact hl
        have OM:arr.find? (λx=>x.born==b)=some xe:=by rw[<-Array.find?_toList];exact AW
        refine bS.quiet hO rfl (v:=.tuple #[xe.key,xe.val]) ?_ ?_
        ·simp[execOp,ho,Instr.entry,hx,hg,hback,hg2,OM]
        ·simp only[av];exact⟨_,rfl,by simp only[eZ];exact⟨_,_,rfl,by simpa [av]using k1,_,_,rfl,k2,rfl⟩⟩
     |_=>simp[hm,bad]at aG
   |_=>simp[hc,bad]at aG
 ·exact aG.elim
theorem EJ(hO:bN base W M w0 objs w L){t:TypeId}{x i:Operand}(ho:o.op=.index t x i)(ht:P.underlying t=some .string){d1 d2:DV}(h1:av w W objs L d1 (a.eval x))(h2:av w W objs L d2 (a.eval i))(aG:(mu d1 d2).ok):
  bS P base W M w0 objs L w a o (mu d1 d2):=by
 unfold mu at aG⊢;split at aG
 ·rename_i s k j;simp only[av,aS]at h1 h2;obtain⟨h0,cV⟩:=aG;have hj:j.toNat<s.size:=by omega
  have X4:j.toNat<s.data.size:=hj;have pA:s[j.toNat]? =some (s.data.getD j.toNat 0):=by
   rw[getElem?_pos s j.toNat hj];simp[Array.getD,ByteArray.getElem_eq_getElem_data];intro h;omega
  refine bS.int hO rfl rfl ?_;simp[execOp,ho,Instr.index,h1,h2,asIntOf,run_underlying ht,h0,pA]
 ·exact aG.elim
theorem E6{op:BinOp}{neg:Bool}(Cw:op=if neg then .neq else .eql){t:TypeId}{x y:Operand}{yt:TypeId}(ho:o.op=.binOp op t x y yt){r:Bool}(bH:∀k n,a.eval x≠ .int k n)(hni:a.eval x≠ .nilIface)(hna:∀cs,a.eval x≠ .agg cs)(hnf:∀k b,a.eval x≠ .float k b)(QW:∀k b c,a.eval x≠ .complex k b c)(hns:∀s,a.eval x≠ .string s)
  (he:(Op.equal t (a.eval x) (a.eval y)).run P w=.ok r w) (hg:(eqGuard op t x y (a.eval x) (a.eval y)).run P w=.ok () w):(execOp a.eval o).run P w=.ok (.value (.bool (neg^^r))) w:=by
 have hb:(binOp op t (a.eval x) (a.eval y)).run P w=.ok (.bool (neg^^r)) w:=by
  generalize a.eval x=xv at*
  subst Cw;cases neg<;>cases xv<;>first|exact absurd rfl (bH _ _)|exact absurd rfl hni|exact absurd rfl (hna _)|exact absurd rfl (hnf _ _)|exact absurd rfl (QW _ _ _)|exact absurd rfl (hns _)|simp[binOp,he]
 simp[execOp,ho,hg,hb]
theorem Hm{d:TypeDesc}{y:Operand}{y':bp}{k:Nat}(hy:bp.of y=some y')(h:uZ d y'=some k):
  (k=0/\(∃e,d=.slice e)/\a.eval y=.slice none 0 0)\/(k=1/\(∃e,d=.pointer e)/\a.eval y=.pointer none)\/(k=2/\(∃p r v,d=.func p r v)/\a.eval y=.nilFunc):=by
 unfold uZ at h;have key:∀{z:DV},bp.of y=some (.cm z)->∃v,a.eval y=v/\(kN v=some z\/(∃f,z=.v (.fn f []))\/∃c,z=.gE c 0):=by
  intro z hz;cases y with
  |tmp t=>simp[bp.of]at hz
  |const v=>simp only[bp.of,Zab,bp.cm.injEq]at hz;obtain⟨d,hd,rfl⟩:=hz;exact⟨v,rfl,.inl hd⟩
  |func f=>simp only[bp.of,Zaa,bp.cm.injEq]at hz;subst hz;exact⟨_,rfl,.inr (.inl ⟨_,rfl⟩)⟩
  |global g=>
   simp only[bp.of,Zab,bp.cm.injEq]at hz;obtain⟨p,_,rfl⟩:=hz;exact⟨_,rfl,.inr (.inr ⟨_,rfl⟩)⟩
 split at h
 ·obtain⟨v,hv,hc|⟨f,hf⟩|⟨f,hf⟩⟩:=key hy
  ·unfold kN at hc;split at hc<;>simp at hc
   exact .inl ⟨by simpa using h.symm,⟨_,rfl⟩,hv⟩
  ·cases hf
  ·cases hf
 ·obtain⟨v,hv,hc|⟨f,hf⟩|⟨f,hf⟩⟩:=key hy
  ·unfold kN at hc;split at hc<;>simp at hc
   exact .inr (.inl ⟨by simpa using h.symm,⟨_,rfl⟩,hv⟩)
  ·cases hf
  ·cases hf
 ·obtain⟨v,hv,hc|⟨f,hf⟩|⟨f,hf⟩⟩:=key hy
  ·unfold kN at hc;split at hc<;>simp at hc
   exact .inr (.inr ⟨by simpa using h.symm,⟨_,_,_,rfl⟩,hv⟩)
  ·cases hf
  ·cases hf
 ·cases h
theorem uf(d:Nat)(hd:d=9999)(t:TypeId)(x y:Value):(Op.equal t x y)=Op.equalIn (d+1) t x y:=by subst hd;rfl
theorem xn(t e:TypeId)(p:Option Addr)(n c:Nat)(h:P.underlying t=some (.slice e)):(Op.equal t (.slice p n c) (.slice none 0 0)).run P w=.ok p.isNone w:=by
 obtain⟨d,hd⟩:∃d,d=9999:=⟨_,rfl⟩;rw[uf d hd,Op.equalIn];cases p<;>simp[run_underlying h]
theorem A6(t e:TypeId)(p:Option Addr)(h:P.underlying t=some (.pointer e)):(Op.equal t (.pointer p) (.pointer none)).run P w=.ok p.isNone w:=by
 obtain⟨d,hd⟩:∃d,d=9999:=⟨_,rfl⟩;rw[uf d hd,Op.equalIn];cases p<;>simp[run_underlying h]
theorem CJ(t:TypeId){q1 q2 q3}(v:Value)(r:Bool)(h:P.underlying t=some (.func q1 q2 q3))(hv:(v=.nilFunc/\r=true)\/(∃f b c,v=.func f b c)/\r=false):(Op.equal t v .nilFunc).run P w=.ok r w:=by
 obtain⟨d,hd⟩:∃d,d=9999:=⟨_,rfl⟩;rw[uf d hd,Op.equalIn];rcases hv with⟨rfl,rfl⟩|⟨⟨f,b,c,rfl⟩,rfl⟩<;>simp[run_underlying h]
theorem yx(hO:bN base W M w0 objs w L){op:BinOp}{neg:Bool}(Cw:op=if neg then .neq else .eql){t:TypeId}{x y:Operand}{yt:TypeId}(ho:o.op=.binOp op t x y yt){d:TypeDesc}(hd:P.underlying t=some d){y':bp}(hy:bp.of y=some y'){k:Nat}(hk:uZ d y'=some k)
  {d1:DV} (h1:av w W objs L d1 (a.eval x)) (aG:(eH k neg objs d1).ok):bS P base W M w0 objs L w a o (eH k neg objs d1):=by
 have hv:=Hm (a:=a) hy hk;have fin:∀{r:Bool},eH k neg objs d1=⟨(eH k neg objs d1).ok,.v (.bool (neg^^r)),none⟩->(execOp a.eval o).run P w=.ok (.value (.bool (neg^^r))) w->bS P base W M w0 objs L w a o (eH k neg objs d1):=by
  intro r e h;rw[e];exact bS.bool hO rfl rfl h
 have sl:∀{p:Option Addr} {n c:Nat},k=0->a.eval x=.slice p n c->(execOp a.eval o).run P w=.ok (.value (.bool (neg^^p.isNone))) w:=by
  intro p n c h0 hx;rcases hv with⟨_,⟨e,rfl⟩,JP⟩|⟨h,_⟩|⟨h,_⟩
  ·refine E6 Cw ho (by simp[hx]) (by simp[hx]) (by simp[hx]) (by simp[hx]) (by simp[hx]) (by simp[hx]) (by rw[hx,JP];exact xn t e p n c hd) ?_;rw[hx,JP,Cw];cases neg<;>simp[eqGuard]
  ·omega
  ·omega
 have pt:∀{p:Option Addr},k=1->a.eval x=.pointer p->(execOp a.eval o).run P w=.ok (.value (.bool (neg^^p.isNone))) w:=by
  intro p h0 hx;rcases hv with⟨h,_⟩|⟨_,⟨e,rfl⟩,JP⟩|⟨h,_⟩
  ·omega
  ·refine E6 Cw ho (by simp[hx]) (by simp[hx]) (by simp[hx]) (by simp[hx]) (by simp[hx]) (by simp[hx]) (by rw[hx,JP];exact A6 t e p hd) ?_;rw[hx,JP,Cw];cases neg<;>simp[eqGuard]
  ·omega
 have fn:∀{v:Value} {r:Bool},k=2->a.eval x=v->(v=.nilFunc/\r=true)\/(∃f b c,v=.func f b c)/\r=false->(execOp a.eval o).run P w=.ok (.value (.bool (neg^^r))) w:=by
  intro v r h0 hx zA;rcases hv with⟨h,_⟩|⟨h,_⟩|⟨_,⟨q1,q2,q3,rfl⟩,JP⟩
  ·omega
  ·omega
  ·have he:=CJ (w:=w) t v r hd zA;subst hx;refine E6 Cw ho ?_ ?_ ?_ ?_ ?_ ?_ (by rw[JP];exact he) ?_;all_goals rcases zA with⟨hx,rfl⟩|⟨⟨f,b,c,hx⟩,rfl⟩<;>first|(simp[hx];done)|(rw[hx,JP,Cw];cases neg<;>simp[eqGuard])
 cases d1 with
 |v t'=>
  cases t' with
  |sl rows=>
   simp only[eH]at aG;obtain⟨h0,bH⟩:=aG;simp only[av,aS]at h1;rcases h1 with⟨rfl,_⟩|⟨b,oo,c,sz,hx,_⟩
   ·exact absurd rfl bH
   ·exact fin (r:=false) rfl (sl h0 hx)
  |fn f caps=>
   cases f with
   |func f=>simp only[av,aS]at h1;obtain⟨vs,hx,_⟩:=h1;exact fin (r:=false) rfl (fn aG hx (.inr ⟨⟨_,_,_,rfl⟩,rfl⟩))
   |_=>exact aG.elim
  |box cs=>simp only[av,aS]at h1;obtain⟨b,oo,hx,_⟩:=h1;exact fin (r:=false) rfl (pt aG hx)
  |raw v=>
   simp only[av,aS]at h1;cases v with
   |slice p n c=>exact fin (r:=p.isNone) rfl (sl aG h1)
   |pointer p=>exact fin (r:=p.isNone) rfl (pt aG h1)
   |nilFunc=>exact fin (r:=true) rfl (fn aG h1 (.inl ⟨rfl,rfl⟩))
   |_=>exact aG.elim
  |_=>exact aG.elim
 |ptr r off=>simp only[av]at h1;exact fin (r:=false) rfl (pt aG h1.2)
 |gE cs off=>simp only[av]at h1;obtain⟨b,oo,hx,_⟩:=h1;exact fin (r:=false) rfl (pt aG hx)
 |kL rows i off=>simp only[av]at h1;obtain⟨b,oo,sz,hx,_⟩:=h1;exact fin (r:=false) rfl (pt aG hx)
 |jh r ver i off=>simp only[av]at h1;obtain⟨⟨b,oo,hx⟩,_⟩:=h1;exact fin (r:=false) rfl (pt aG hx)
 |mF f caps=>
  cases f with
  |func f=>simp only[av]at h1;obtain⟨vs,hx,_⟩:=h1;exact fin (r:=false) rfl (fn aG hx (.inr ⟨⟨_,_,_,rfl⟩,rfl⟩))
  |_=>exact aG.elim
 |bd r ver=>
  cases hc:objs r with
  |none=>simp[eH,hc,bad]at aG
  |some ob=>
   cases ob with
   |arr ver' e' gb rows=>
    have e1:eH k neg objs (.bd r ver)=⟨k=0/\ver=ver'/\rows≠[],.v (.bool (neg^^false)),none⟩:=by simp only[eH,hc]
    rw[e1]at aG;obtain⟨h0,rfl,bH⟩:=aG;simp only[av]at h1;obtain⟨_,nP,e2,C3,jT,lP,_,jn⟩:=h1;rw[hc]at lP;cases lP;have hx:=jn rfl;obtain⟨_,_,_,ky⟩:=hO.ob r _ hc;rcases ky with⟨rfl,_⟩|⟨g,cap,cur,k1,_⟩
    ·exact absurd rfl bH
    ·exact fin (r:=false) (by rw[e1]) (sl h0 (hx.trans k1))
   |_=>simp[eH,hc,bad]at aG
 |_=>exact aG.elim
theorem Kp(hO:bN base W M w0 objs w L){r m s l c:Nat}{sn:List Nat}{shs:List Sh}{agg:Bool}{es:List (Nat×T×DV)}(hr:objs r=some (.iter m s sn l))(hm:objs m=some (.map shs agg c es))(cV:∀e∈es,e.1<s)(hl:s<=l)(ty:TypeId):
  ((∀e∈es,e.1∈sn)/\(Instr.next (.pointer (some ⟨L.hY r,0,none⟩)) false ty).run P w=.ok (.tuple #[.bool false]) w)\/
  ∃e∈es,e.1∉sn/\∃k v w',(Instr.next (.pointer (some ⟨L.hY r,0,none⟩)) false ty).run P w=.ok (.tuple #[.bool true,k,v]) w'/\
   bN base W M w0 (bV objs (some (r,.iter m s (sn++[e.1]) c))) w' L/\jc W objs L w (bV objs (some (r,.iter m s (sn++[e.1]) c))) L w':=by
 obtain⟨hh,_,MU⟩:=hO.ob r _ hr;obtain⟨arr,hh2,pa,_⟩:=hO.ob m _ hm;have hg:=eM (P:=P) hh trivial;have hg2:=eM (P:=P) hh2 trivial;have Z1:∀x∈arr.toList,x.born<s:=by
  intro x hx;obtain⟨i,hi⟩:=ZbI hx;have tg:i<es.length:=by rw[<-bk.length pa];exact(Zas.1 hi).1
  obtain⟨x',fJ,hb,_⟩:=bk.get pa (Zan tg);rw[hi]at fJ;cases fJ;rw[hb];exact cV _ (Zbj tg)
 have htest:(!(sn.toArray).isEmpty&& !arr.isEmpty&&arr.all (λx=>decide (x.born>=l)))=false:=by
  cases he:arr.isEmpty with
  |true=>simp
  |false=>
   have dK:arr.all (λx=>decide (x.born>=l))=false:=by
    rw[Bool.eq_false_iff];intro h;rw[Array.all_eq_true_iff_forall_mem]at h;have h0:0<arr.size:=by
     rcases ZcA arr.size with h0|h0
     ·simp[Array.isEmpty,h0]at he
     ·exact h0
    have h1:=h _ (Array.getElem_mem h0);have h2:=Z1 arr[0] (by simp);simp at h1;omega
   simp[dK]
 have Nr:∀x,x∈arr.filter (λe=> !sn.toArray.contains e.born)↔x∈arr.toList/\x.born∉sn:=by
  intro x;simp
 have xo:∀x∈(arr.filter (λe=> !sn.toArray.contains e.born)),x.born<s:=λx hx=>Z1 x ((Nr x).1 hx).1;simp only[Instr.next,Sem.run_bind,hg,hg2,Result.andThen_ok,htest,ZaK,if_false];generalize hL:arr.filter (λe=> !sn.toArray.contains e.born)=A at Nr xo⊢;have e1:A.filter (λx=>decide (x.born<s))=A:=Array.filter_eq_self.2 (λx hx=>by simpa using xo x hx);have e2:A.filter (λx=>decide (x.born>=s))= #[]:=by
  rw[Array.filter_eq_empty_iff];intro x hx;have:=xo x hx;simp;omega
 simp only[e1,e2,ZbD];by_cases h0:A.size=0
 ·left;have:A= #[]:=Array.eq_empty_of_size_eq_zero h0;subst this;refine⟨λe he=>?_, ?_⟩
  ·obtain⟨i,hi⟩:=ZbI he;obtain⟨x,hx,hb,_⟩:=bk.get pa hi;by_cases h:e.1∈sn
   ·exact h
   ·have:=(Nr x).2 ⟨Zaq hx,by rw[hb];exact h⟩;simp at this
  ·simp[choose,Sem.run,Question.forced]
 ·right;have bH:A.isEmpty=false:=by simp[Array.isEmpty,h0]
  simp only[bH,ZaK,if_false,Array.empty_append,Array.size_map];have Ns:∃(j:Nat) (w1:World),j<A.size/\(w1=w\/w1=w.drew)/\(choose (Question.mapNext A.size)).run P w=.ok j w1:=by
   by_cases hf:A.size<=1
   ·exact⟨0,w,by omega,.inl rfl,by simp[choose,Sem.run,Question.forced,hf]⟩
   ·exact⟨_,w.drew,Nat.mod_lt _ (by omega),.inr rfl,by
     simp only[choose,Sem.run,Question.forced,decide_eq_true_eq,hf,if_false,Question.cut];rfl⟩
  obtain⟨j,w1,hj,Qu,bz⟩:=Ns;have qu:=(Nr A[j]).1 (Array.getElem_mem hj);obtain⟨i,hi⟩:=ZbI qu.1;have tg:i<es.length:=by rw[<-bk.length pa];exact(Zas.1 hi).1
  obtain⟨x',fJ,hb,_⟩:=bk.get pa (Zan tg);rw[hi]at fJ;cases fJ;have hhe:w1.heap=w.heap:=by rcases Qu with rfl|rfl<;>rfl
  have hh1:w1.heap[L.hY r]? =some (.mapIter (some (L.hY m)) s sn.toArray l):=by rw[hhe];exact hh
  have hfr1:Fr base M w0 w1:=by
   rcases Qu with rfl|rfl
   ·exact hO.fr
   ·exact⟨hO.fr.os,hO.fr.tape,hO.fr.output,hO.fr.ik,hO.fr.size,hO.fr.block,Nat.le_succ_of_le hO.fr.drawn⟩
  refine⟨es[i],Zbj tg,by rw[<-hb];exact qu.2,A[j].key,A[j].val,w1.fo (L.hY r) (.mapIter (some (L.hY m)) s (sn.toArray.push A[j].born) c), ?_, ?_⟩
  ·simp only[bz,Array.getElem?_map,Zbs hj,Za0,Sem.run_bind,mX (P:=P) hh1 trivial,Result.andThen_ok,Sem.run_pure]
  ·rw[hb];refine bN.put hO (Du _ hfr1 MU) (by rw[rU,hhe];exact Zae _) (λ_ _=>⟨rfl,rfl⟩) rfl (λb _ hb=>(pH (λx=>hb _ hr (by simp[Loc.own,x]))).trans (by rw[hhe]))
    (λb hb=>.inl ⟨_,hr,hb⟩) (λo' gf _=>by rw[hr]at gf;cases gf;exact⟨rfl,rfl⟩) (λver e sz rows h=>by rw[hr]at h;cases h) (λee=>?_)
   refine⟨?_, ?_,MU⟩
   ·rw[yP hh1];simp
   ·have bH:m≠r:=λe=>by rw[e,hr]at hm;cases hm
    exact⟨shs,agg,c,es,by simp[bV,bH,hm]⟩
end
end Go.DM
namespace Go.DM
open Go.RowKit
variable [Laid]
section
variable{P:Program}{base:Nat}{W M:Nat->Prop}{w0:World}{objs:aU}{L:Loc}{w:World}{a:Act}{o:Oper}{Γ:Env}{name:Nat}{ρ:Nat->DV}{d:nO}
theorem u4{lend:Bool}(W':Nat->Prop)(hO:bN base W M w0 objs w L)(hW:lend=true->∀r o b,objs r=some o->L.own r o=some b->¬W' b)(OJ:∀b,W' b->WW W objs L b):
  (∀(d:DV) (x:Value),av w W objs L d x->Cv lend objs d->aS w W' (qw objs d) x)/\(∀(ds:List DV) (xs:List Value),aL w W objs L ds xs->qQ lend objs ds->aR w W' (gR objs ds) xs):=by
 have hk:cq (WW W objs L) w w:=cq.refl _ _;have one:∀(n:Nat),(∀(d:DV) (x:Value),SizeOf.sizeOf d<n->av w W objs L d x->Cv lend objs d->aS w W' (qw objs d) x)/\(∀(ds:List DV) (xs:List Value),SizeOf.sizeOf ds<n->aL w W objs L ds xs->qQ lend objs ds->aR w W' (gR objs ds) xs):=by
  intro n;induction n with
  |zero=>exact⟨λ_ _ h=>by omega,λ_ _ h=>by omega⟩
  |succ n ih=>
   refine⟨λd x hn h aG=>?_,λds xs hn h aG=>?_⟩
   ·cases d with
    |v t=>simp only[av]at h;simp only[qw];exact aS.aD hk.toKeepsC (λb _ hb=>OJ b hb) t x h
    |aJ=>
     simp only[av]at h;obtain⟨p,rfl⟩:=h;simp only[qw,aS];exact .inl ⟨trivial,p,0,rfl⟩
    |bd r ver=>
     simp only[Cv]at aG;obtain⟨hl,aG⟩:=aG;simp only[av]at h;obtain⟨_,ver',e,sz,rows,hc,_,hv⟩:=h;simp only[hc]at aG;have hv:=hv aG;subst hv;simp only[qw,hc,aS];have fH:=hO.ob r _ hc;obtain⟨gF,cU,hm,ky⟩:=fH;rcases ky with⟨rfl,p,hp⟩|⟨g',cap,cur,p9,hp,hh,hle,po,Ex,eI⟩
     ·exact .inl ⟨rfl,p,0,hp⟩
     ·have tT:aP (L.sl r)=some g':=by simp[p9,aP,ZaA.1 hp]
      refine .inr ⟨g',0,cap,sz,p9,(Zaj.1 hh).1,hW hl r _ g' hc (by simpa [Loc.own]using tT),hle, ?_⟩;have tS:=nu.rows (hO.ob r _ hc) (g:=g') (by simp[p9,aP,ZaA.1 hp]);by_cases hg:g'<w.heap.size
      ·obtain⟨vs,wD,zA,QO⟩:=aY.flatten tS;exact aY.il (aR.aD hk.toKeepsC (λb _ hb=>OJ b hb) _ _ zA) cU QO
      ·exact absurd (Zaj.1 hh).1 hg
    |agg cs=>
     simp only[av]at h;obtain⟨vs,rfl,hr⟩:=h;simp only[qw,aS];simp only[Cv]at aG;exact⟨vs,rfl,ih.2 cs _ (by simp at hn⊢;omega) hr aG⟩
    |mF f cs=>
     simp only[av]at h;obtain⟨vs,rfl,hr⟩:=h;simp only[qw,aS];simp only[Cv]at aG;exact⟨vs,rfl,ih.2 cs _ (by simp at hn⊢;omega) hr aG⟩
    |s8 r ver lo m=>
     simp only[Cv]at aG;obtain⟨hl,aG⟩:=aG;simp only[av]at h;obtain⟨_,ver',e,sz,rows,hc,_,hv⟩:=h;simp only[hc]at aG;have hv:=hv aG.1;simp only[qw,hc,aS];have Eo:((rows.drop lo).take m).length=m:=by rw[Zaw,Za8];omega
     rcases qZ hO hc hv with⟨rfl,a,c,rfl⟩|⟨g,c,tT,rfl,QW,hr⟩
     ·exact .inl ⟨by simp,a,c,rfl⟩
     ·refine .inr ⟨g,lo*sz,c,sz,by rw[Eo],(hO.ob r _ hc).lt (by simpa [Loc.own]using tT),hW hl r _ g hc (by simpa [Loc.own]using tT),by omega, ?_⟩;obtain⟨vs,wD,zA,QO⟩:=aY.flatten hr;exact aY.il (aR.aD hk.toKeepsC (λb _ hb=>OJ b hb) _ _ zA) (λx hx=>(hO.ob r _ hc).2.1 x (Zbv (Zav hx))) QO
    |_=>exact aG.elim
   ·cases ds with
    |nil=>simpa [aL,aR,gR]using h
    |cons d ds=>
     simp only[aL]at h;obtain⟨x,jN,rfl,h1,h2,hr⟩:=h;simp only[qQ]at aG;simp only[gR,aR];exact⟨x,jN,rfl,h1,ih.1 d x (by simp at hn⊢;omega) h2 aG.1,ih.2 ds jN (by simp at hn⊢;omega) hr aG.2⟩
 exact⟨λd x=>(one (SizeOf.sizeOf d+1)).1 d x (by omega),λds xs=>(one (SizeOf.sizeOf ds+1)).2 ds xs (by omega)⟩
theorem Kb{neg agg:Bool}{shs:List Sh}{t u:T}(h:¬((∃as,t=.agg as)/\∃bs,u=.agg bs)):Ad neg agg shs t u=⟨agg=false/\dj shs [t]/\dj shs [u],.v (.bool (neg^^fe t u)),none⟩:=by
 cases t<;>first|rfl|(cases u<;>first|rfl|exact absurd ⟨⟨_,rfl⟩,⟨_,rfl⟩⟩ h)
theorem MZ{n:Nat}{t:TypeId}{s:Sh}{desc:TypeDesc}(hs:jL P (n+1) t=some [s])(hd:P.underlying t=some desc)(ha:bA desc=false):(s=.bool/\desc=.bool)\/(s=.str/\desc=.string)\/∃k,s=.int k/\desc=.int k:=by
 simp only[jL,hd]at hs;cases desc;case bool=>simp at hs;exact .inl ⟨hs.symm,rfl⟩
 case int k=>simp at hs;exact .inr (.inr ⟨k,hs.symm,rfl⟩)
 case string=>simp at hs;exact .inr (.inl ⟨hs.symm,rfl⟩)
 case struct=>exact absurd ha (by simp[bA])
 case array=>exact absurd ha (by simp[bA])
 all_goals exact absurd hs (by simp)
theorem GN{op:BinOp}{t:TypeId}{x y:Operand}{yt:TypeId}{neg:Bool}(Cw:op=if neg then .neq else .eql)(ho:o.op=.binOp op t x y yt){desc:TypeDesc}(hd:P.underlying t=some desc)(M0:∀k,desc≠ .int k){shs:List Sh}(hs:jL P 10000 t=some shs)(hg:P.eqGuardType P.depth t=false)
  (hO:bN base W M w0 objs w L) {d1 d2:DV} (h1:av w W objs L d1 (a.eval x)) (h2:av w W objs L d2 (a.eval y)) (k1:Cv true objs d1) (k2:Cv true objs d2) (aG:(Ad neg (bA desc) shs (qw objs d1) (qw objs d2)).ok):
  bS P base W M w0 objs L w a o ⟨True,(Ad neg (bA desc) shs (qw objs d1) (qw objs d2)).val,none⟩:=by
 have r1:=(u4 (lend:=true) (λ_=>False) hO (λ_ _ _ _ _ _ h=>h) (λ_ h=>h.elim)).1 d1 _ h1 k1;have r2:=(u4 (lend:=true) (λ_=>False) hO (λ_ _ _ _ _ _ h=>h) (λ_ h=>h.elim)).1 d2 _ h2 k2;by_cases hagg:(∃as,qw objs d1=.agg as)/\∃bs,qw objs d2=.agg bs
 ·obtain⟨⟨as,t1⟩,bs,t2⟩:=hagg;simp only[t1,t2,Ad]at aG⊢;obtain⟨ha,f1,f2⟩:=aG;rw[t1]at r1;rw[t2]at r2;simp only[aS]at r1 r2;obtain⟨xs,e1,g1⟩:=r1;obtain⟨ys,e2,g2⟩:=r2;have hq:(Op.equal t (.agg xs) (.agg ys)).run P w=.ok (oG as bs) w:=by
   have:=pr 10000 t shs desc hs hd xs.toList ys.toList w (gQ f1 g1) (gQ f2 g2);simp only[wE,ha,if_true,Array.toArray_toList]at this;rw[wW f1 f2 g1 g2];exact this
  have QY:=run_eqGuard_agg w op t x y xs ys hg;refine bS.bool hO rfl rfl ?_;subst Cw;cases neg<;>simp only[if_true,if_false,ZaK]at ho QY<;>simp[execOp,ho,e1,e2,QY,binOp,hq]
 ·rw[Kb hagg]at aG⊢;obtain⟨ha,f1,f2⟩:=aG;obtain⟨s,rfl,g1⟩:=mw f1;obtain⟨s2,JN,g2⟩:=mw f2;obtain rfl:s=s2:=by simpa using JN
  refine bS.bool hO rfl rfl ?_;rw[GO g1 g2 r1 r2];subst Cw;cases s with
  |bool=>
   have ZI:P.underlying t=some .bool:=by
    rcases MZ (n:=9999) hs hd ha with⟨_,rfl⟩|⟨h,_⟩|⟨k,h,_⟩
    ·exact hd
    ·cases h
    ·cases h
   cases MX:qw objs d1<;>rw[MX]at g1 r1<;>first|exact absurd g1 ZaC|skip
   cases h2':qw objs d2<;>rw[h2']at g2 r2<;>first|exact absurd g2 ZaC|skip
   simp only[aS]at r1 r2;cases neg<;>simp[execOp,ho,r1,r2,eqGuard,run_eql_bool,run_neq_bool,ZI,ZH]
  |str=>
   cases MX:qw objs d1<;>rw[MX]at g1 r1<;>first|exact absurd g1 ZaC|skip
   cases h2':qw objs d2<;>rw[h2']at g2 r2<;>first|exact absurd g2 ZaC|skip
   simp only[aS]at r1 r2;cases neg<;>simp[execOp,ho,r1,r2,eqGuard,binOp,Op.stringOp,ZH]
  |int k=>
   rcases MZ (n:=9999) hs hd ha with⟨h,_⟩|⟨h,_⟩|⟨k',_,h⟩
   ·cases h
   ·cases h
   ·exact absurd h (M0 k')
theorem yr{W':Nat->Prop}{sz:Nat}:∀(n:Nat) (cs:List T) (vs:List Value) (b o:Nat),cs.length=n*sz->aR w W' cs vs->(∀j v,vs[j]? =some v->w.cell? ⟨b,o+j,none⟩=some v)->aY w W' sz b o (chunk sz n cs)
 |0,_,_,_,_,_,_,_=>by simp[chunk,aY]
 |n+1,cs,vs,b,o,hl,hr,hc=>by
  have gF:sz<=cs.length:=by rw[hl,Nat.add_mul];omega
  have wD:=aR.length hr;simp only[chunk,aY];refine⟨by simp;omega, ?_, ?_⟩
  ·refine cY.pk (aR.take sz hr) λj v hj=>hc j v ?_;rw[ZaF]at hj;split at hj
   ·exact hj
   ·cases hj
  ·refine yr n _ (vs.drop sz) b (o+sz) (by rw[Za8,hl,Nat.add_mul];omega) (aR.drop sz hr) λj v hj=>?_;rw[Zbb]at hj;have:=hc (sz+j) v hj
   rwa [show o+sz+j=o+(sz+j)by omega]
theorem u5(sz:Nat):∀(n:Nat) (cs:List T),(chunk sz n cs).length=n
 |0,_=>rfl
 |n+1,cs=>by simp[chunk,u5 sz n]
theorem u6:∀(ps:List (Nat×Nat×DV)) (ds:List DV),qS ds.length ps->(tn ds ps).length=ds.length
 |[],ds,_=>rfl
 |(off,sz,d)::ps,ds,h=>by
  simp only[qS]at h;obtain⟨h1,h2,h3,h4⟩:=h;have hl:(bI ds off (cellsOf d)).length=ds.length:=fB (by omega);simp only[tn];rw[u6 ps _ (by rw[hl];exact h4),hl]
theorem yu(hg:Ab w (WW W objs L))(hZ:∀t,av w W objs L (ρ t) (a.tmps.getD t Go.undef)):∀{xs:List Operand} {ys:List bp},xs.mapM bp.of=some ys->∀(i:Nat) (x:Operand) (y:bp),xs[i]? =some x->ys[i]? =some y->av w W objs L (y.ev ρ) (a.eval x)
 |[],ys,h,i,x,y,hx,_=>by simp at hx
 |x::xs,ys,h,i,p,q,hp,hq=>by
  simp only[Za1,Zak,Zaf,Zac,Zaa]at h;obtain⟨y,hy,ys',oz,rfl⟩:=h;cases i with
  |zero=>
   simp only[ZaG,Zaa]at hp hq;subst hp hq;exact bp.bq hg hZ hy
  |succ i=>exact yu hg hZ oz i p q (by simpa using hp) (by simpa using hq)
theorem rD:∀{xs:List Operand} {ys:List bp},xs.mapM bp.of=some ys->ys.length=xs.length
 |[],ys,h=>by simp at h;simp[h]
 |x::xs,ys,h=>by
  simp only[Za1,Zak,Zaf,Zac,Zaa]at h;obtain⟨y,hy,ys',oz,rfl⟩:=h;simp[rD oz]
theorem Aq(hg:Ab w (WW W objs L))(hZ:∀t,av w W objs L (ρ t) (a.tmps.getD t Go.undef)){x:Option Operand}{y:Option bp}(h:Am x=some y):(y.map (·.ev ρ)=none/\x.map a.eval=none)\/∃dl vl,y.map (·.ev ρ)=some dl/\x.map a.eval=some vl/\av w W objs L dl vl:=by
 cases x with
 |none=>simp only[Am,Zaa]at h;subst h;exact .inl ⟨rfl,rfl⟩
 |some x=>
  simp only[Am,Zab]at h;obtain⟨z,hz,rfl⟩:=h;exact .inr ⟨_,_,rfl,rfl,bp.bq hg hZ hz⟩
theorem QZ{d:DV}{v:Value}(hp:qR d)(h:av w W objs L d v):v.oneCell'=true:=by
 cases d with
 |aJ=>simp only[av]at h;obtain⟨p,rfl⟩:=h;rfl
 |v t=>
  simp only[av]at h;cases t with
  |agg ts=>exact absurd hp ZaC
  |eC ts=>exact absurd hp ZaC
  |raw x=>simp only[aS]at h;subst h;exact hp
  |sl rows=>simp only[aS]at h;rcases h with⟨_,_,_,rfl⟩|⟨_,_,_,_,rfl,_⟩<;>rfl
  |fn f caps=>simp only[aS]at h;obtain⟨_,rfl,_⟩:=h;rfl
  |box cs=>simp only[aS]at h;obtain⟨_,_,rfl,_⟩:=h;rfl
  |bool b=>simp only[aS]at h;subst h;rfl
  |int k n=>simp only[aS]at h;subst h;rfl
  |str k=>simp only[aS]at h;subst h;rfl
 |_=>exact hp.elim
theorem Q0{d:DV}{v:Value}(hp:ji d)(h:av w W objs L d v):v.oneCell'=true:=by
 cases d with
 |undef=>exact hp.elim
 |skip=>exact hp.elim
 |agg cs=>exact hp.elim
 |eC cs=>exact hp.elim
 |v t=>exact QZ (d:=.v t) hp h
 |aJ=>simp only[av]at h;obtain⟨p,rfl⟩:=h;rfl
 |ptr r off=>simp only[av]at h;obtain⟨_,rfl⟩:=h;rfl
 |bd r ver=>simp only[av]at h;obtain⟨⟨_,_,_,rfl⟩,_⟩:=h;rfl
 |kL rows i off=>simp only[av]at h;obtain⟨_,_,_,rfl,_⟩:=h;rfl
 |gE cs off=>simp only[av]at h;obtain⟨_,_,rfl,_⟩:=h;rfl
 |jh r ver i off=>simp only[av]at h;obtain⟨⟨_,_,rfl⟩,_⟩:=h;rfl
 |C1=>simp only[av]at h;subst h;rfl
 |iC r=>simp only[av]at h;obtain⟨_,rfl⟩:=h;rfl
 |iter r=>simp only[av]at h;obtain⟨_,rfl⟩:=h;rfl
 |s8 r ver lo n=>simp only[av]at h;obtain⟨⟨_,_,rfl⟩,_⟩:=h;rfl
 |Es r n=>simp only[av]at h;obtain⟨_,rfl⟩:=h;rfl
 |mF f cs=>simp only[av]at h;obtain⟨_,rfl,_⟩:=h;rfl
theorem Db(hg:Ab w (WW W objs L))(hZ:∀t,av w W objs L (ρ t) (a.tmps.getD t Go.undef)):∀{xs:List Operand} {ys:List bp},xs.mapM bp.of=some ys->dw (ys.map (·.ev ρ))->aL w W objs L (ys.map (·.ev ρ)) (xs.map a.eval)
 |[],ys,h,_=>by simp at h;subst h;simp[aL]
 |x::xs,ys,h,hp=>by
  simp only[Za1,Zak,Zaf,Zac,Zaa]at h;obtain⟨y,hy,ys',oz,rfl⟩:=h;simp only[Zau,dw]at hp;simp only[Zau,aL];have r:=bp.bq hg hZ hy;exact⟨_,_,rfl,Q0 hp.1 r,r,Db hg hZ oz hp.2⟩
theorem wX:∀{ds:List DV},uV ds=true->gM ds
 |[],_=>trivial
 |d::ds,h=>by
  cases d with
  |v t=>simp only[uV,Zam]at h;exact⟨h.1,wX h.2⟩
  |aJ=>simp only[uV]at h;exact⟨trivial,wX h⟩
  |_=>simp[uV]at h
theorem Q1(hc:cI P o=some d)(yw:∀f args,d≠ .call f args)(hZ:∀t,av w W objs L (ρ t) (a.tmps.getD t Go.undef))(hO:bN base W M w0 objs w L)(dz:objs name=none)(aG:(cy Γ d name ρ objs).ok):
  bS P base W M w0 objs L w a o (cy Γ d name ρ objs):=by
 unfold cI at hc;cases ho:o.op<;>simp only[ho,reduceCtorEq]at hc
 case move x=>
  simp only[Zab]at hc;obtain⟨y,hy,rfl⟩:=hc;exact bS.quiet hO rfl (v:=a.eval x) (by simp[execOp,ho]) (bp.bq hO.gl hZ hy)
 case assign x=>
  simp only[Zab]at hc;obtain⟨y,hy,rfl⟩:=hc;exact bS.quiet hO rfl (v:=a.eval x) (by simp[execOp,ho]) (bp.bq hO.gl hZ hy)
 case pick c x y=>
  simp only[Zak,Zaf,Zac,Zaa]at hc;obtain⟨c',Ar,x',hx,y',hy,rfl⟩:=hc;have r:=bp.bq hO.gl hZ Ar;unfold cy at aG⊢;simp only at aG⊢;split at aG
  ·rename_i t ht;rw[ht]at r;simp only[av,aS]at r;refine bS.quiet hO rfl (v:=if t then a.eval x else a.eval y) (by simp[execOp,ho,r,asBool]) ?_;cases t
   ·exact bp.bq hO.gl hZ hy
   ·exact bp.bq hO.gl hZ hx
  ·exact aG.elim
 case alloc e=>
  simp only[Zak,Zaf,Zac,Zaa]at hc;obtain⟨i,hi,z,hz,zs,Gm,rfl⟩:=hc;have h:=Ey hO dz e (gG Gm);refine⟨_,.pointer (some ⟨w.heap.size,0,none⟩),_,_, ?_,.inl rfl,h.1,h.2, ?_⟩
  ·simp[execOp,ho,Instr.alloc,zeroValue,typeInfo,hi,hz,newVar,newRow]
  ·simp only[cy,av];exact⟨⟨zs,by simp[bV]⟩,by simp[Loc.fC]⟩
 case box e x=>
  simp only[Zab]at hc;obtain⟨y,hy,rfl⟩:=hc;have h:=Ey hO dz e (av.cells (bp.bq hO.gl hZ hy) aG);refine⟨_,.pointer (some ⟨w.heap.size,0,none⟩),_,_, ?_,.inl rfl,h.1,h.2, ?_⟩
  ·simp[execOp,ho,Instr.box,newVar,newRow]
  ·simp only[cy,av];exact⟨⟨cellsOf (y.ev ρ),by simp[bV]⟩,by simp[Loc.fC]⟩
 case build t parts=>
  simp only[Zak,Zaf,Zac,Zaa]at hc;obtain⟨i,hi,z,hz,zs,Gm,pl,Qr,ps,Q2,rfl⟩:=hc;have X1:=gG (w:=w) (W:=W) (objs:=objs) (L:=L) Gm;have QS:=aL.length X1;simp only[ZaT]at QS;simp only[cy]at aG⊢;obtain⟨cells,h1,h2,h3⟩:=An hO.gl hZ parts.toList ps Q2 z.cells zs X1 (by rw[QS];exact aG);have hb:P.built t (parts.map λx=>(x.1,a.eval x.2)).toList=some cells:=by
   unfold Program.built;unfold places at Qr;cases hu:P.underlying t with
   |none=>simp[hu]at Qr
   |some desc=>
    cases desc<;>simp only[hu,reduceCtorEq]at Qr
    case array n e=>
     simp only[Zab]at Qr;obtain⟨ie,hie,rfl⟩:=Qr;simpa [hi,hz,hie]using h1
    case struct fields=>
     simp only[Zab]at Qr;obtain⟨pl',hpl',rfl⟩:=Qr;simp only[hi,hz,hpl',Array.toList_map];simpa using h1
  refine bS.quiet hO rfl (v:=.agg cells) ?_ (by simp only[av];exact⟨cells,rfl,h2⟩);have:=run_build w t (parts.map λx=>(x.1,a.eval x.2)) cells hb;simp[execOp,ho,this]
 case buildSlice t len parts=>
  split at hc
  ·rename_i e hu;simp only[Zak,Zaf,Zac]at hc;obtain⟨i,hi,hc⟩:=hc;split at hc
   ·cases hc
   ·rename_i gF;simp only[Zac,Zaa]at hc;obtain⟨z,hz,zs,Gm,ps,Q2,rfl⟩:=hc;have X1:=gG (w:=w) (W:=W) (objs:=objs) (L:=L) Gm;have QS:=aL.length X1;have hlen:¬len*i.size>2^24:=λh=>gF (.inl h);have OF:i.size≠0:=λh=>gF (.inr h);simp only[ZaT,Array.size_map,Array.size_range]at QS;simp only[cy]at aG⊢;by_cases h0:len=0
    ·subst h0;simp only[if_true]at aG⊢;subst aG;have hp0:parts.toList=[]:=by
      cases hp:parts.toList with
      |nil=>rfl
      |cons p ps'=>
       rw[hp]at Q2;simp only[ofParts,Za1,Zak,Zaf,Zac,Zaa,reduceCtorEq,and_false,exists_false]at Q2
     have hp1:parts= #[]:=by cases parts;simp_all
     have hr:=rC (P:=P) w hu hi hz 0 (by simp) (parts:= #[]) (cells:= #[]) (by simp[Instr.fill,Array.range_zero']);have hg:=bN.grow hO (jA (w:=w) (.cells #[] e));refine⟨_,.slice (some ⟨w.heap.size,0,none⟩) 0 0,_,L, ?_,.inl rfl,hg.1,hg.2,by simp only[av];exact⟨_,rfl⟩⟩;simp[execOp,ho,hp1,hr]
    ·simp only[h0,if_false]at aG⊢;obtain⟨hf,Q3⟩:=aG;obtain⟨cells,h1,h2,h3⟩:=An hO.gl hZ parts.toList ps Q2 _ zs X1 (by simpa using hf);have hr:=rC (P:=P) w hu hi hz len hlen (parts:=parts.map λx=>(x.1,a.eval x.2)) (cells:=cells) (by simpa using h1);have hg:=bN.grow hO (jA (w:=w) (.cells cells e));refine⟨_,.slice (some ⟨w.heap.size,0,none⟩) len len,_,L, ?_,.inl rfl,hg.1,hg.2, ?_⟩
     ·simp[execOp,ho,hr]
     ·have qx:=mb (objs2:=λ_=>none) Q3 (aL.ee hg.2 _ _ h2);simp only[bV,av,aS,u5];refine .inr ⟨w.heap.size,0,len,i.size,rfl,by simp, ?_,Zae _, ?_⟩
      ·rintro(hw|⟨r,ob,lX,qa⟩)
       ·have h1:=hO.under _ hw;have h2:=hO.fr.ik;have h3:=hO.fr.size;omega
       ·have:=(hO.ob r ob lX).lt qa;omega
      ·refine yr len _ cells.toList _ _ ?_ qx λj v hj=>?_
       ·rw[qY,u6 _ _ (by rw[<-QS];exact hf),<-QS]
       ·rw[ZaX,cell_of_row (w.alloc (.cells cells e)) w.heap.size j cells e (0,0) (heap_alloc_new w _)];simpa using hj
  ·cases hc
 case load t x=>
  split at hc
  ·rename_i desc i hd hi;simp only[Zab]at hc;obtain⟨y,hy,rfl⟩:=hc;simp only[cy]at aG⊢;obtain⟨hp,v,bz,hv⟩:=Ai hO hd hi (bp.bq hO.gl hZ hy) aG;exact bS.quiet hO hp (v:=v) (by simp[execOp,ho,bz]) hv
  ·cases hc
 case store t x y=>
  simp only[Zak,Zaf,Zac,Zaa]at hc;obtain⟨i,hi,x',hx,y',hy,rfl⟩:=hc;have rx:=bp.bq hO.gl hZ hx;have ry:=bp.bq hO.gl hZ hy;simp only[cy]at aG⊢;cases hd:x'.ev ρ with
  |ptr r off=>
   rw[hd]at rx;simp only[av]at rx;obtain⟨⟨cs,lz⟩,M1⟩:=rx;simp only[hd,jR,lz]at aG⊢;obtain⟨w',h1,h2,h3⟩:=OB hO hi lz ry aG.1 aG.2.1 aG.2.2;exact⟨.skip,Go.undef,w',L,by simp[execOp,ho,M1,h1],.inr ⟨rfl,rfl⟩,h2,h3,by simp[av]⟩
  |jh r ver j off=>
   rw[hd]at rx;simp only[av]at rx;obtain⟨_,ver',e,sz,rows,lz,_,qy⟩:=rx;simp only[hd,jR,lz]at aG⊢;obtain⟨rfl,hn,qW,Q3⟩:=aG;obtain⟨g,hg,M1,h0,h1⟩:=qy rfl;obtain⟨w',h1,h2,h3⟩:=OC hO hi lz hg h0 h1 ry hn qW Q3;exact⟨.skip,Go.undef,w',L,by simp[execOp,ho,M1,h1],.inr ⟨rfl,rfl⟩,h2,h3,by simp[av]⟩
  |_=>rw[hd]at aG;exact aG.elim
 case nilCheck x=>
  simp only[Zab]at hc;obtain⟨y,hy,rfl⟩:=hc;have rx:=bp.bq hO.gl hZ hy;simp only[cy]at aG⊢;obtain⟨h1,h2,h3⟩:=Ap rx aG;refine bS.quiet hO h1 (v:=a.eval x) ?_ (by rw[h2];exact rx);rcases h3 with⟨p,hp⟩|⟨f,caps,hp⟩
  ·simp only[execOp,ho,hp];simp
  ·simp only[execOp,ho,hp];simp
 case binOp op t x y yt=>
  simp only[Zaf,Zac]at hc;obtain⟨x',hx,y',hy,hc⟩:=hc;have rx:=bp.bq hO.gl hZ hx;have ry:=bp.bq hO.gl hZ hy;unfold kP at hc;split at hc
  ·split at hc;all_goals first
    |(simp only[Zaa]at hc;subst hc;exact OG hO ho rx ry aG)
    |cases hc
  ·rename_i desc M0 hd;split at hc
   ·rename_i shs hs;split at hc
    ·cases hc
    ·rename_i hg;simp only[Zaa]at hc;subst hc;simp only[cy]at aG⊢;obtain⟨k1,k2,aG⟩:=aG;exact GN (neg:=false) rfl ho hd (λk hk=>M0 k hk) hs (by simpa using hg) hO rx ry k1 k2 aG
   ·rename_i shs hs;split at hc
    ·cases hc
    ·rename_i hg;simp only[Zaa]at hc;subst hc;simp only[cy]at aG⊢;obtain⟨k1,k2,aG⟩:=aG;exact GN (neg:=true) rfl ho hd (λk hk=>M0 k hk) hs (by simpa using hg) hO rx ry k1 k2 aG
   ·simp only[Zab]at hc;obtain⟨k,hk,rfl⟩:=hc;exact yx (neg:=false) hO rfl ho hd hy hk rx aG
   ·simp only[Zab]at hc;obtain⟨k,hk,rfl⟩:=hc;exact yx (neg:=true) hO rfl ho hd hy hk rx aG
   ·cases hc
  ·cases hc
 case makeMap t hint=>
  cases hint with
  |some h=>cases hc
  |none=>
   simp only at hc;split at hc
   ·simp only[Zab]at hc;obtain⟨ki,_,rfl⟩:=hc;exact GP hO dz ho _ _
   ·cases hc
 case lookup t x k ok=>
  split at hc
  ·rename_i kt et ht;split at hc
   ·rename_i ki z JO hz;simp only[Zak,Zaf,Zac,Zaa]at hc;obtain⟨x',hx,k',hk,rfl⟩:=hc;exact EF hO ho ht JO hz (bp.bq hO.gl hZ hx) (bp.bq hO.gl hZ hk) aG
   ·cases hc
  ·cases hc
 case mapUpdate t x k y=>
  split at hc
  ·rename_i kt et ht;split at hc
   ·rename_i ki JO;simp only[Zak,Zaf,Zac,Zaa]at hc;obtain⟨x',hx,k',hk,y',hy,rfl⟩:=hc;exact EG hO ho ht JO (bp.bq hO.gl hZ hx) (bp.bq hO.gl hZ hk) (bp.bq hO.gl hZ hy) aG
   ·cases hc
  ·cases hc
 case mapEntry t x k=>
  split at hc
  ·rename_i kt et ht;split at hc
   ·rename_i ki z JO hz;simp only[Zak,Zaf,Zac,Zaa]at hc;obtain⟨x',hx,k',hk,rfl⟩:=hc;exact EH hO ho ht JO hz (bp.bq hO.gl hZ hx) (bp.bq hO.gl hZ hk) aG
   ·cases hc
  ·cases hc
 case entryStore t x s y=>
  simp only[Zak,Zaf,Zac,Zaa]at hc;obtain⟨x',hx,k',hk,y',hy,rfl⟩:=hc;exact GQ hO ho (bp.bq hO.gl hZ hx) (bp.bq hO.gl hZ hk) (bp.bq hO.gl hZ hy) aG
 case range t x=>
  split at hc
  ·rename_i kt et ht;simp only[Zab]at hc;obtain⟨x',hx,rfl⟩:=hc;exact EI hO dz ho ht (bp.bq hO.gl hZ hx) aG
  ·cases hc
 case entry x=>
  simp only[Zab]at hc;obtain⟨x',hx,rfl⟩:=hc;exact aG.elim
 case index t x i=>
  split at hc
  ·rename_i ht;simp only[Zak,Zaf,Zac,Zaa]at hc;obtain⟨x',hx,i',hi,rfl⟩:=hc;exact EJ hO ho ht (bp.bq hO.gl hZ hx) (bp.bq hO.gl hZ hi) aG
  ·cases hc
 case panic x=>simp only[Zaa]at hc;subst hc;exact aG.elim
 case makeInterface _ _=>simp only[Zaa]at hc;subst hc;exact aG.elim
 case unOp op t x=>
  simp only[Zab]at hc;obtain⟨y,hy,rfl⟩:=hc;have rx:=bp.bq hO.gl hZ hy;unfold cy MS at aG⊢;simp only at aG⊢;split at aG
  ·rename_i b hb;rw[hb]at rx;simp only[av,aS]at rx;split at aG
   ·exact bS.bool hO rfl rfl (by simp[execOp,ho,rx,Op.unary])
   ·exact aG.elim
  ·rename_i k n hb;rw[hb]at rx;simp only[av,aS]at rx;split at aG
   ·exact bS.int hO rfl rfl (by simp[execOp,ho,rx,Op.unary,Op.intArith])
   ·exact aG.elim
  ·exact aG.elim
 case convert src dst x=>
  split at hc
  ·rename_i k0 k hs hd;simp only[Zab]at hc;obtain⟨y,hy,rfl⟩:=hc;have rx:=bp.bq hO.gl hZ hy;unfold cy at aG⊢;simp only at aG⊢;split at aG
   ·rename_i k1 n hb;rw[hb]at rx;simp only[av,aS]at rx;exact bS.int hO rfl rfl (by simp[execOp,ho,rx,convert,run_underlying hs,run_underlying hd,Conv.intToInt])
   ·exact aG.elim
  ·cases hc
 case fieldAddr s x f=>
  split at hc
  ·rename_i fs hs;split at hc
   ·rename_i fd hf;split at hc
    ·rename_i fi hi;split at hc
     ·cases hc
     ·rename_i gF;simp only[Zab]at hc;obtain⟨y,hy,rfl⟩:=hc;have rx:=bp.bq hO.gl hZ hy;simp only[cy]at aG⊢;obtain⟨hp,b,oo,M1,hv⟩:=EE rx aG;refine bS.quiet hO hp (v:=.pointer (some ⟨b,oo+fd.offset,none⟩)) ?_ hv;simp[execOp,ho,M1,Instr.fieldAt,run_underlying hs,hf,Instr.sureAddr,fieldPlace,run_sizeOf hi,gF,ll]
    ·cases hc
   ·cases hc
  ·cases hc
 case field s x f=>
  split at hc
  ·rename_i fs hs;split at hc
   ·rename_i fd hf;split at hc
    ·rename_i fi desc hi hd;simp only[Zab]at hc;obtain⟨y,hy,rfl⟩:=hc;have rx:=bp.bq hO.gl hZ hy;simp only[cy]at aG⊢;obtain⟨hp,v,bz,hv⟩:=GL hs hf hi hd rx aG;exact bS.quiet hO hp (v:=v) (by simp[execOp,ho,bz]) hv
    ·cases hc
   ·cases hc
  ·cases hc
 case indexAddr t x ix=>
  split at hc
  ·rename_i e ht;split at hc
   ·rename_i i hi;simp only[Zak,Zaf,Zac,Zaa]at hc;obtain⟨x',hx,y',hy,rfl⟩:=hc;simp only[cy]at aG⊢;obtain⟨hp,v,bz,hv⟩:=OH hO ht hi (bp.bq hO.gl hZ hx) (bp.bq hO.gl hZ hy) aG;exact bS.quiet hO hp (v:=v) (by simp[execOp,ho,bz]) hv
   ·cases hc
  ·rename_i n e ht;split at hc
   ·rename_i i hi;simp only[Zak,Zaf,Zac,Zaa]at hc;obtain⟨x',hx,y',hy,rfl⟩:=hc;simp only[cy]at aG⊢;obtain⟨hp,v,bz,hv⟩:=CC ht hi (bp.bq hO.gl hZ hx) (bp.bq hO.gl hZ hy) aG;exact bS.quiet hO hp (v:=v) (by simp[execOp,ho,bz]) hv
   ·cases hc
  ·cases hc
 case slice t x lo nB mx=>
  cases mx with
  |some m=>cases hc
  |none=>
   simp only at hc;split at hc
   ·rename_i e ht;split at hc
    ·rename_i i hi;simp only[Zak,Zaf,Zac,Zaa]at hc;obtain⟨x',hx,lo',MY,hi2,hhi,rfl⟩:=hc;simp only[cy]at aG⊢;obtain⟨hp,v,bz,hv⟩:=GM hO ht hi (bp.bq hO.gl hZ hx) (Aq hO.gl hZ MY) (Aq hO.gl hZ hhi) aG;exact bS.quiet hO hp (v:=v) (by simp[execOp,ho,bz]) hv
    ·cases hc
   ·cases hc
 case extract x i=>
  simp only[Zab]at hc;obtain⟨y,hy,rfl⟩:=hc;have rx:=bp.bq hO.gl hZ hy;unfold cy ph at aG⊢;simp only at aG⊢;split at aG
  ·rename_i ts hb;rw[hb]at rx;simp only[av,aS]at rx;obtain⟨vs,hv,hr⟩:=rx;obtain⟨v,jn,qa⟩:=dx.get hr (i:=i) (t:=ts.getD i default) (by simp[List.getD,show i<ts.length from aG]);refine bS.quiet hO rfl (v:=v) ?_ (by simp only[av];exact qa);have:vs[i]? =some v:=by simpa using jn
   simp[execOp,ho,hv,Instr.extract,this]
  ·rename_i ds hb;rw[hb]at rx;simp only[av]at rx;obtain⟨vs,hv,hr⟩:=rx;have key:∀(ds:List DV) (vs:List Value) (i:Nat),eZ w W objs L ds vs->i<ds.length->∃v,vs[i]? =some v/\av w W objs L (ds.getD i .undef) v:=by
    intro ds;induction ds with
    |nil=>intro vs i _ h;simp at h
    |cons d ds ih=>
     intro vs i h hi;simp only[eZ]at h;obtain⟨v,ia,rfl,h1,h2⟩:=h;cases i with
     |zero=>exact⟨v,rfl,h1⟩
     |succ i=>simpa using ih ia i h2 (by simpa using hi)
   obtain⟨v,jn,qa⟩:=key ds _ i hr aG;refine bS.quiet hO rfl (v:=v) ?_ qa;have:vs[i]? =some v:=by simpa using jn
   simp[execOp,ho,hv,Instr.extract,this]
  ·exact aG.elim
 case makeSlice t l c=>
  split at hc
  ·rename_i e ht;split at hc
   ·rename_i i hi;split at hc
    ·rename_i z hz;split at hc
     ·rename_i p q;split at hc
      ·rename_i hpq;obtain⟨rfl,gF⟩:=hpq;simp only[Zak,Zaf,Zac,Zaa]at hc;obtain⟨zero,hzero,rfl⟩:=hc;simp only[cy]at aG⊢;obtain⟨v,w',L',h1,h2,h3,h4⟩:=Al hO ht hi hz gF hzero dz (bp.bq hO.gl hZ (x:=.tmp p) rfl) aG;exact⟨.value v,v,w',L',by simp[execOp,ho,h1],.inl rfl,h2,h3,h4⟩
      ·cases hc
     ·rename_i k p k' q;split at hc
      ·rename_i hpq;obtain⟨rfl,rfl,gF⟩:=hpq;simp only[Zak,Zaf,Zac,Zaa]at hc;obtain⟨zero,hzero,rfl⟩:=hc;simp only[cy]at aG⊢;obtain⟨v,w',L',h1,h2,h3,h4⟩:=Al hO ht hi hz gF hzero dz (bp.bq (ρ:=ρ) hO.gl hZ (x:=.const (.int k p)) rfl) aG;exact⟨.value v,v,w',L',by simp[execOp,ho,h1],.inl rfl,h2,h3,h4⟩
      ·cases hc
     ·cases hc
    ·cases hc
   ·cases hc
  ·cases hc
 case makeFunc f first caps=>
  split at hc
  ·rename_i hf;simp only[Zak,Zaf,Zac,Zaa]at hc;obtain⟨cs,lz,rfl⟩:=hc;simp only[cy]at aG⊢;have hr:aL w W objs L (cs.map (·.ev ρ)) (caps.map a.eval).toList:=by
    simpa using Db hO.gl hZ lz aG
   refine bS.quiet hO rfl (v:=.func f #[] (caps.map a.eval)) ?_ ?_
   ·have:first= #[]:=by simpa using hf
    simp[execOp,ho,this,Instr.makeFunc]
   ·by_cases Qt:uV (cs.map (·.ev ρ))=true
    ·simp only[Qt,if_true,av,aS];exact⟨_,rfl,mb (wX Qt) hr⟩
    ·simp only[Qt];exact⟨_,rfl,hr⟩
  ·cases hc
 case call c=>
  have u7:∀{xs:List Operand},c.args.toList=xs->c.args=xs.toArray:=λh=>by rw[<-h,Array.toArray_toList]
  have htys:∀{xs:List TypeId},c.argTypes.toList=xs->c.argTypes=xs.toArray:=λh=>by rw[<-h,Array.toArray_toList]
  unfold da at hc;split at hc
  ·split at hc
   ·split at hc
    ·cases hc
    ·simp only[Zab]at hc;obtain⟨y,_,rfl⟩:=hc;exact absurd rfl (yw _ _)
   ·cases hc
  ·obtain⟨ys,_,rfl⟩:=Zab.1 hc;exact aG.elim
  ·rename_i jk;split at hc
   ·rename_i x t hx ht;have zz:c={callee:=.builtin .len,args:= #[x],argTypes:= #[t]}:=by
     have h1:=u7 hx;have h2:=htys ht;cases c
     simp_all
    subst zz;split at hc
    ·rename_i e hu;simp only[Zab]at hc;obtain⟨y,hy,rfl⟩:=hc;exact OI hO ho hu (bp.bq hO.gl hZ hy) aG
    ·rename_i hu;simp only[Zab]at hc;obtain⟨y,hy,rfl⟩:=hc;exact Ka hO ho hu (bp.bq hO.gl hZ hy) aG
    ·rename_i kt et hu;simp only[Zab]at hc;obtain⟨y,hy,rfl⟩:=hc;exact Kc hO ho hu (bp.bq hO.gl hZ hy) aG
    ·cases hc
   ·cases hc
  ·rename_i jk;split at hc
   ·rename_i x y t t' hx ht;have zz:c={callee:=.builtin .copy,args:= #[x,y],argTypes:= #[t,t']}:=by
     have h1:=u7 hx;have h2:=htys ht;cases c
     simp_all
    subst zz;split at hc
    ·rename_i e hu;split at hc
     ·rename_i i hi;simp only[Zak,Zaf,Zac,Zaa]at hc;obtain⟨x',fJ,y',JP,rfl⟩:=hc;simp only[cy]at aG⊢;obtain⟨v,w',h1,h2,h3,h4⟩:=J7 (t:=t) (t':=t') (ty:=o.type) hO hu hi (bp.bq hO.gl hZ fJ) (bp.bq hO.gl hZ JP) aG;exact⟨.value v,v,w',L,by simp[execOp,ho,resolve,invoke,builtin,h1],.inl rfl,h2,h3,h4⟩
     ·cases hc
    ·cases hc
   ·cases hc
  ·rename_i jk;split at hc
   ·rename_i x k t ts' hx ht;have zz:c={callee:=.builtin .delete,args:= #[x,k],argTypes:=c.argTypes}:=by
     have h1:=u7 hx;cases c
     simp_all
    have QT:c.argTypes[0]? =some t:=by rw[<-Array.getElem?_toList,ht];rfl
    split at hc
    ·rename_i kt et hu;split at hc
     ·rename_i ki JO;simp only[Zak,Zaf,Zac,Zaa]at hc;obtain⟨x',fJ,k',te,rfl⟩:=hc;exact EK hO QT (by rw[ho,<-zz]) hu JO (bp.bq hO.gl hZ fJ) (bp.bq hO.gl hZ te) aG
     ·cases hc
    ·cases hc
   ·cases hc
  ·rename_i jk;split at hc
   ·rename_i x y hx;have zz:c={callee:=.builtin .min,args:= #[x,y],argTypes:=c.argTypes}:=by
     have h1:=u7 hx;cases c
     simp_all
    simp only[Zak,Zaf,Zac,Zaa]at hc;obtain⟨x',fJ,y',JP,rfl⟩:=hc;exact u0 false hO (by rw[ho,zz];rfl) (bp.bq hO.gl hZ fJ) (bp.bq hO.gl hZ JP) aG
   ·cases hc
  ·rename_i jk;split at hc
   ·rename_i x y hx;have zz:c={callee:=.builtin .max,args:= #[x,y],argTypes:=c.argTypes}:=by
     have h1:=u7 hx;cases c
     simp_all
    simp only[Zak,Zaf,Zac,Zaa]at hc;obtain⟨x',fJ,y',JP,rfl⟩:=hc;exact u0 true hO (by rw[ho,zz];rfl) (bp.bq hO.gl hZ fJ) (bp.bq hO.gl hZ JP) aG
   ·cases hc
  ·rename_i jk;split at hc
   ·rename_i x y t t' hx ht;have zz:c={callee:=.builtin .append,args:= #[x,y],argTypes:= #[t,t']}:=by
     have h1:=u7 hx;have h2:=htys ht;cases c
     simp_all
    subst zz;split at hc
    ·cases hc
    ·rename_i X2;have X2:t=t':=by simpa using X2
     subst X2;split at hc
     ·rename_i e hu;split at hc
      ·rename_i i hi;split at hc
       ·rename_i z hz;split at hc
        ·rename_i gF;simp only[Zak,Zaf,Zac,Zaa]at hc;obtain⟨x',fJ,y',JP,rfl⟩:=hc;simp only[cy]at aG⊢;obtain⟨v,w',L',h1,h2,h3,h4⟩:=EC (ty:=o.type) hO hu hi hz gF.1 gF.2 dz (bp.bq hO.gl hZ fJ) (bp.bq hO.gl hZ JP) aG;exact⟨.value v,v,w',L',by simp[execOp,ho,resolve,invoke,builtin,h1],.inl rfl,h2,h3,h4⟩
        ·cases hc
       ·cases hc
      ·cases hc
     ·cases hc
   ·cases hc
  ·cases hc
theorem OK(hO:bN base W M w0 objs w L){e sz JQ:Nat}{zero:List T}{n:bp}(hc:cI P o=some (.mkSlice e sz JQ zero n))(hZ:∀t,av w W objs L (ρ t) (a.tmps.getD t Go.undef))(dz:objs name=none)
  (aG:(eG sz JQ zero name (n.ev ρ)).ok):bS P base W M w0 objs L w a o (eG sz JQ zero name (n.ev ρ)):=by
 unfold cI at hc;cases ho:o.op<;>simp only[ho,reduceCtorEq]at hc
 case makeSlice t l c=>
  split at hc
  ·rename_i e' ht;split at hc
   ·rename_i i hi;split at hc
    ·rename_i z hz;split at hc
     ·rename_i p q;split at hc
      ·rename_i hpq;obtain⟨rfl,gF⟩:=hpq;simp only[Zak,Zaf,Zac,Zaa,nO.mkSlice.injEq]at hc;obtain⟨zero',hzero,rfl,rfl,rfl,rfl,rfl⟩:=hc;obtain⟨v,w',L',h1,h2,h3,h4⟩:=yq hO ht hi hz hzero dz (bp.bq hO.gl hZ (x:=.tmp p) rfl) aG;exact⟨.value v,v,w',L',by simp[execOp,ho,h1],.inl rfl,h2,h3,h4⟩
      ·cases hc
     ·rename_i k p k' q;split at hc
      ·rename_i hpq;obtain⟨rfl,rfl,gF⟩:=hpq;simp only[Zak,Zaf,Zac,Zaa,nO.mkSlice.injEq]at hc;obtain⟨zero',hzero,rfl,rfl,rfl,rfl,rfl⟩:=hc;obtain⟨v,w',L',h1,h2,h3,h4⟩:=yq hO ht hi hz hzero dz (bp.bq (ρ:=ρ) hO.gl hZ (x:=.const (.int k p)) rfl) aG;exact⟨.value v,v,w',L',by simp[execOp,ho,h1],.inl rfl,h2,h3,h4⟩
      ·cases hc
     ·cases hc
    ·cases hc
   ·cases hc
  ·cases hc
 case binOp op t x y yt=>
  exfalso;simp only[Zaf,Zac]at hc;obtain⟨x',hx,y',hy,hc⟩:=hc;unfold kP at hc;repeat' split at hc
  all_goals first|(cases hc;done)|(simp only[Zab,reduceCtorEq,and_false,exists_false]at hc;done)
 case makeMap t h=>
  exfalso;cases h with
  |some m=>cases hc
  |none=>
   simp only at hc;split at hc
   ·simp only[Zab,reduceCtorEq,and_false,exists_false]at hc
   ·cases hc
 case slice t x lo hi mx=>
  exfalso;cases mx with
  |some m=>cases hc
  |none=>
   simp only at hc;repeat' split at hc
   all_goals simp only[Zab,Zak,Zaf,Zac,Zaa,reduceCtorEq,and_false,exists_false]at hc
 case call c=>
  exfalso;unfold da at hc;repeat' split at hc
  all_goals first
   |(cases hc;done)
   |(simp only[Zab,Zak,Zaf,Zac,Zaa,reduceCtorEq,and_false,exists_false]at hc;done)
   |skip
 all_goals exfalso
 all_goals first
  |(simp only[Zab,reduceCtorEq,and_false,exists_false]at hc;done)
  |(simp only[Zak,Zaf,Zac,Zaa,reduceCtorEq,and_false,exists_false]at hc;done)
  |(repeat' split at hc)<;>first
    |(simp only[Zab,Zak,Zaf,Zac,Zaa,reduceCtorEq,and_false,exists_false]at hc;done)
    |(simp[Zac]at hc;done)
theorem no_mkB{e sz JQ:Nat}{zero:List T}{n:bp}(hc:cI P o=some (.mkSliceB e sz JQ zero n)):False:=by
 unfold cI at hc;cases ho:o.op<;>simp only[ho,reduceCtorEq]at hc
 case makeSlice t l c=>
  repeat' split at hc
  all_goals first
   |(cases hc;done)
   |(simp only[Zak,Zaf,Zac,Zaa,reduceCtorEq,and_false,exists_false]at hc;done)
 case binOp op t x y yt=>
  simp only[Zaf,Zac]at hc;obtain⟨x',hx,y',hy,hc⟩:=hc;unfold kP at hc;repeat' split at hc
  all_goals first|(cases hc;done)|(simp only[Zab,reduceCtorEq,and_false,exists_false]at hc;done)
 case makeMap t h=>
  cases h with
  |some m=>cases hc
  |none=>
   simp only at hc;split at hc
   ·simp only[Zab,reduceCtorEq,and_false,exists_false]at hc
   ·cases hc
 case slice t x lo hi mx=>
  cases mx with
  |some m=>cases hc
  |none=>
   simp only at hc;repeat' split at hc
   all_goals simp only[Zab,Zak,Zaf,Zac,Zaa,reduceCtorEq,and_false,exists_false]at hc
 case call c=>
  unfold da at hc;repeat' split at hc
  all_goals first
   |(cases hc;done)
   |(simp only[Zab,Zak,Zaf,Zac,Zaa,reduceCtorEq,and_false,exists_false]at hc;done)
 all_goals first
  |(simp only[Zab,reduceCtorEq,and_false,exists_false]at hc;done)
  |(simp only[Zak,Zaf,Zac,Zaa,reduceCtorEq,and_false,exists_false]at hc;done)
  |(repeat' split at hc)<;>first
    |(simp only[Zab,Zak,Zaf,Zac,Zaa,reduceCtorEq,and_false,exists_false]at hc;done)
    |(simp[Zac]at hc;done)
end
end Go.DM
