/- Part of the proof. Conditions: none. -/
import Derived.Test.YtnhpkhblghgpdaaGreatDoorXaa
import Derived.Laws.Shifts
set_option linter.unusedSectionVars false
set_option linter.unusedSimpArgs false
set_option linter.unusedVariables false
set_option linter.defProp false
namespace Go.DM
open Go.RowKit
variable [bI]
def sf(l:List (Nat×Operand))(place:Nat->Option (Nat×Nat)):Option (List (Nat×Nat×bQ)):=
 l.mapM λp=>do
  let q<-place p.1
  let x<-bQ.of p.2
  pure (q.1,q.2,x)
def places(P:Program)(t:TypeId):Option (Nat->Option (Nat×Nat)):=
 match P.underlying t with
 |some (.struct fields)=>(fields.toList.mapM λf=>(P.info? f.type).map λi=>(f.offset,i.size)).map λpl k=>pl[k]?
 |some (.array _ e)=>(P.info? e).map λie k=>some (k*ie.size,ie.size)
 |_=>none
def Dk:Option Operand->Option (Option bQ)
 |none=>some none
 |some x=>(bQ.of x).map some
def xY:TypeDesc->bQ->Option Nat
 |.slice _,.gN .aW=>some 0
 |.pointer _,.gN (.v (.mg (.pointer none)))=>some 1
 |.func _ _ _,.gN (.v (.mg .nilFunc))=>some 2
 |_,_=>none
def il(P:Program)(k:TypeId):Option (List Sh×Bool):=
 match P.underlying k,lp P 10000 k with
 |some d,some s=>some (s,b8 d)
 |_,_=>none
def GD(P:Program)(e:TypeId):Option DV:=do
 let i<-P.info? e
 let z<-i.zero
 match z with
 |.agg cs=>(cs.toList.mapM my).map .agg
 |z=>my z
def mA(P:Program)(op:BinOp)(t:TypeId)(x y:bQ):Option rO:=
 match P.underlying t with
 |some (.int _)=>match op with
  |.add|.sub|.mul|.quo|.rem|.eql|.neq|.lss|.leq|.gtr|.geq|.shl|.shr|.and|.or|.xor=>some (.bin op x y)
  |_=>none
 |some d=>match op,lp P 10000 t with
  |.eql,some cj=>if P.eqGuardType P.depth t then none else some (.eqT false (b8 d) cj x y)
  |.neq,some cj=>if P.eqGuardType P.depth t then none else some (.eqT true (b8 d) cj x y)
  |.eql,none=>(xY d y).map λk=>.isNil k false x
  |.neq,none=>(xY d y).map λk=>.isNil k true x
  |_,_=>none
 |none=>none
def eG(P:Program)(c:Call):Option rO:=
 match c.callee with
 |.value (.func f)=>match P.funcs[f]? with
  |some fn=>if fn.name= "runtime.NumGoroutine" \/fn.body.isNone then none else(c.args.toList.mapM bQ.of).map (.call f)
  |none=>none
 |.value (.tmp t)=>(c.args.toList.mapM bQ.of).map (.callv (.tmp t))
 |.builtin .len=>match c.args.toList,c.argTypes.toList with
  |[x],[t]=>match P.underlying t with
   |some (.slice _)=>(bQ.of x).map .len
   |some .string=>(bQ.of x).map .lenS
   |some (.map _ _)=>(bQ.of x).map .lenM
   |_=>none
  |_,_=>none
 |.builtin .copy=>match c.args.toList,c.argTypes.toList with
  |[x,y],[t,_]=>match P.underlying t with
   |some (.slice e)=>match P.info? e with
    |some i=>do return .copy i.size (<-bQ.of x) (<-bQ.of y)
    |none=>none
   |_=>none
  |_,_=>none
 |.builtin .delete=>match c.args.toList,c.argTypes.toList with
  |[x,k],t::_=>match P.underlying t with
   |some (.map kt _)=>match il P kt with
    |some ki=>do return .mapDel ki.1 ki.2 (<-bQ.of x) (<-bQ.of k)
    |none=>none
   |_=>none
  |_,_=>none
 |.builtin .min=>match c.args.toList with
  |[x,y]=>do return .minmax false (<-bQ.of x) (<-bQ.of y)
  |_=>none
 |.builtin .max=>match c.args.toList with
  |[x,y]=>do return .minmax true (<-bQ.of x) (<-bQ.of y)
  |_=>none
 |.builtin .append=>match c.args.toList,c.argTypes.toList with
  |[x,y],[t,t']=>if t≠t' then none else match P.underlying t with
   |some (.slice e)=>match P.info? e with
    |some i=>match i.zero with
     |some z=>if z.cells.size=i.size/\0<i.size then do return .append e i.size i.bytes (<-bQ.of x) (<-bQ.of y)else none
     |none=>none
    |none=>none
   |_=>none
  |_,_=>none
 |_=>none
def dz(P:Program)(o:Oper):Option rO:=
 match o.op with
 |.move x|.assign x=>(bQ.of x).map .qu
 |.pick c a b=>do return .pick (<-bQ.of c) (<-bQ.of a) (<-bQ.of b)
 |.alloc e=>do
  let i<-P.info? e
  let z<-i.zero
  return .alloc (<-z.cells.toList.mapM my)
 |.box _ x=>(bQ.of x).map .box
 |.build t parts=>do
  let i<-P.info? t
  let z<-i.zero
  let zs<-z.cells.toList.mapM my
  let pl<-places P t
  return .build zs (<-sf parts.toList pl)
 |.buildSlice t len parts=>
  match P.underlying t with
  |some (.slice e)=>do
   let ei<-P.info? e
   if len*ei.size>2^24\/ei.size=0 then none else
   let z<-ei.zero
   let zs<-(((Array.range (len*ei.size)).map (z.cells[· % z.cells.size]!)).toList).mapM my
   return .bslice len ei.size zs (<-sf parts.toList λk=>some (k*ei.size,ei.size))
  |_=>none
 |.load t a=>match P.underlying t,P.info? t with
  |some d,some i=>(bQ.of a).map (.load i.size (b8 d))
  |_,_=>none
 |.store t a x=>do
  let i<-P.info? t
  return .store i.size (<-bQ.of a) (<-bQ.of x)
 |.nilCheck x=>(bQ.of x).map .nilCheck
 |.binOp op t x y _=>do mA P op t (<-bQ.of x) (<-bQ.of y)
 |.unOp op _ x=>(bQ.of x).map (.un op)
 |.convert src dst x=>match P.underlying src,P.underlying dst with
  |some (.int _),some (.int k)=>(bQ.of x).map (.conv k)
  |_,_=>none
 |.fieldAddr s x f=>match P.underlying s with
  |some (.struct fs)=>match fs[f]? with
   |some fd=>match P.info? fd.type with
    |some fi=>if fi.size=0 then none else(bQ.of x).map (.addOff fd.offset)
    |none=>none
   |none=>none
  |_=>none
 |.field s x f=>match P.underlying s with
  |some (.struct fs)=>match fs[f]? with
   |some fd=>match P.info? fd.type,P.underlying fd.type with
    |some fi,some d=>(bQ.of x).map (.field fd.offset fi.size (b8 d))
    |_,_=>none
   |none=>none
  |_=>none
 |.indexAddr t x ix=>match P.underlying t with
  |some (.slice e)=>match P.info? e with
   |some i=>do return .idxAddr i.size (<-bQ.of x) (<-bQ.of ix)
   |none=>none
  |some (.array n e)=>match P.info? e with
   |some i=>do return .arrAddr n i.size (<-bQ.of x) (<-bQ.of ix)
   |none=>none
  |_=>none
 |.slice t x lo hi none=>match P.underlying t with
  |some (.slice e)=>match P.info? e with
   |some i=>do return .slice i.size (<-bQ.of x) (<-Dk lo) (<-Dk hi)
   |none=>none
  |_=>none
 |.extract t i=>(bQ.of t).map (.extract i)
 |.makeSlice t l c=>match P.underlying t with
  |some (.slice e)=>match P.info? e with
   |some i=>match i.zero with
    |some z=>match l,c with
     |.tmp a,.tmp b=>if a=b/\0<i.size then do return .mkSlice e i.size i.bytes (<-z.cells.toList.mapM sb) (.tmp a)else none
     |.const (.int k a),.const (.int k' b)=>if a=b/\k=k'/\0<i.size then do return .mkSlice e i.size i.bytes (<-z.cells.toList.mapM sb) (.gN (.v (.int k a)))else none
     |_,_=>none
    |none=>none
   |none=>none
  |_=>none
 |.makeFunc f first bY=>if first.isEmpty then do return .mkFn f (<-bY.toList.mapM bQ.of)else none
 |.call c=>eG P c
 |.makeMap t none=>match P.underlying t with
  |some (.map kt _)=>(il P kt).map λki=>.mkMap ki.1 ki.2
  |_=>none
 |.lookup t x k ok=>match P.underlying t with
  |some (.map kt e)=>match il P kt,GD P e with
   |some ki,some z=>do return .lookup ki.1 ki.2 z ok (<-bQ.of x) (<-bQ.of k)
   |_,_=>none
  |_=>none
 |.mapUpdate t x k y=>match P.underlying t with
  |some (.map kt _)=>match il P kt with
   |some ki=>do return .mapUpd ki.1 ki.2 (<-bQ.of x) (<-bQ.of k) (<-bQ.of y)
   |none=>none
  |_=>none
 |.mapEntry t x k=>match P.underlying t with
  |some (.map kt e)=>match il P kt,GD P e with
   |some ki,some z=>do return .mapEnt ki.1 ki.2 z (<-bQ.of x) (<-bQ.of k)
   |_,_=>none
  |_=>none
 |.entryStore _ x s y=>do return .entSt (<-bQ.of x) (<-bQ.of s) (<-bQ.of y)
 |.range t x=>match P.underlying t with
  |some (.map _ _)=>(bQ.of x).map .rangeM
  |_=>none
 |.entry x=>(bQ.of x).map .entryM
 |.index t x i=>match P.underlying t with
  |some .string=>do return .indexS (<-bQ.of x) (<-bQ.of i)
  |_=>none
 |.panic _|.makeInterface .. =>some .fail
 |_=>none
section
variable{w:World}{W:fo}{ab:bq}{L:Loc}
def GF(off:Nat):∀(vs:List Value) (j0:Nat) (cs:Array Value),off+j0+vs.length<=cs.size->
  (vs.zipIdx j0).foldl (λcs (x:Value×Nat)=>cs.setIfInBounds (off+x.2) x.1) cs=(cy cs.toList (off+j0) vs).toArray
 |[],j0,cs,_=>by simp[cy]
 |v::vs,j0,cs,h=>by
  simp only[Za5]at h;simp only[ZcI,ZaN];rw[GF off vs (j0+1) _ (by simp;omega)]
  congr 1
  simp only[cy,Array.toList_setIfInBounds,Za5];have e:=list_seg_step cs.toList (off+j0) v vs (by simp;omega);simpa [Nat.add_assoc]using e
def Dl{a:Act}{ρ:dw}(hg:F2 w (WW W ab L))(jw:∀t,aA w W ab L (ρ t) (a.tmps.getD t Go.undef)){place:Nat->Option (Nat×Nat)}:∀(ps:List (Nat×Operand)) (qs:List (Nat×Nat×bQ)),sf ps place=some qs->
  ∀(cells:Array Value) (ds:bB),aQ w W ab L ds cells.toList->t8 cells.size (qs.map λp=>(p.1,p.2.1,p.2.2.ev ρ))->
   ∃cells',Instr.fill place cells (ps.map λp=>(p.1,a.eval p.2))=some cells'/\aQ w W ab L (vZ ds (qs.map λp=>(p.1,p.2.1,p.2.2.ev ρ))) cells'.toList/\cells'.size=cells.size
 |[],qs,h,cells,ds,hd,_=>by
  simp[sf]at h;subst h;exact⟨cells,rfl,by simpa [vZ]using hd,rfl⟩
 |p::ps,qs,h,cells,ds,hd,hok=>by
  simp only[sf,Za7,Zao,Zaj,Zad,Zaa]at h;obtain⟨q,⟨pl,Vj,x,hx,rfl⟩,qs',hqs,rfl⟩:=h;simp only[ZaA,t8]at hok;obtain⟨hl,hfit,Cl,Kt⟩:=hok;have hv:=bQ.bP hg jw hx;have oj:=qx hv Cl;have aT:(a.eval p.2).cells.size=pl.2:=by have:=aQ.length oj;simpa [hl]using this
  have Dm:((a.eval p.2).cells.zipIdx.foldl (λcs (x:Value×Nat)=>cs.setIfInBounds (pl.1+x.2) x.1) cells)=(cy cells.toList pl.1 (a.eval p.2).cells.toList).toArray:=by
   rw[<-Array.foldl_toList,Array.toList_zipIdx];have:=GF pl.1 (a.eval p.2).cells.toList 0 cells (by simp[aT];omega);simpa using this
  have hd':aQ w W ab L (cy ds pl.1 (cellsOf (x.ev ρ))) (cy cells.toList pl.1 (a.eval p.2).cells.toList).toArray.toList:=by
   simpa using aQ.cy pl.1 hd oj
  have hsz:(cy cells.toList pl.1 (a.eval p.2).cells.toList).toArray.size=cells.size:=by
   have:=g5 (l:=cells.toList) (new:=(a.eval p.2).cells.toList) (off:=pl.1) (by simp[aT];omega);simpa using this
  obtain⟨cells',h1,h2,h3⟩:=Dl hg jw ps qs' (by simpa [sf]using hqs) _ _ hd' (by rw[hsz];exact Kt);refine⟨cells', ?_,by simpa only[ZaA,vZ]using h2,h3.trans hsz⟩;simp only[ZaA,Instr.fill,Vj,aT];rw[Zab (by simp;omega),Dm];exact h1
def uk{P:Program}(w:World){t e:TypeId}{i:TypeInfo}{z:Value}(ht:P.underlying t=some (.slice e))(hi:P.info? e=some i)(hz:i.zero=some z)(len:Nat)(dM:¬len*i.size>2^24){parts:Array (Nat×Value)}{cells:Array Value}
  (h:Instr.fill (λk=>some (k*i.size,i.size)) ((Array.range (len*i.size)).map (z.cells[· % z.cells.size]!)) parts.toList=some cells):
  (Instr.buildSlice t len parts).run P w=.ok (.slice (some ⟨w.heap.size,0,none⟩) len len) (w.alloc (.cells cells e)):=by
 by_cases h0:len*i.size=0
 ·have h':Instr.fill (λk=>some (k*i.size,i.size)) #[] parts.toList=some cells:=by
   rw[h0]at h;simpa [Array.range_zero']using h
  simp[Instr.buildSlice,run_underlying ht,run_sizeOf hi,h0,h',newRow,Array.range_zero']
 ·simp[Instr.buildSlice,run_underlying ht,run_sizeOf hi,zeroValue,typeInfo,hi,hz,h0,dM,h,newRow]
end
end Go.DM
namespace Go.DM
open Go.RowKit
section
variable{d1 d2 d:DV}{xv yv:Value}
variable [bI]
def cH(P:Program)(base:Nat)(W M:fo)(w0:World)(ab:bq)(L:Loc)(w:World)(a:Act)(o:Oper)(e:qO):Prop:=
 ∃nx v w' L',(execOp a.eval o).run P w=.ok nx w'/\(nx=.value v\/(nx=.skip/\v=Go.undef))/\
  ct base W M w0 (cG ab e.put) w' L'/\gP W ab L w (cG ab e.put) L' w'/\aA w' W (cG ab e.put) L' e.val v
section
variable{P:Program}{base:Nat}{W M:fo}{w0:World}{ab:bq}{L:Loc}{w:World}{a:Act}{o:Oper}
def cH.lJ(hO:ct base W M w0 ab w L){e:qO}(oV:e.put=none){v:Value}(bW:(execOp a.eval o).run P w=.ok (.value v) w)(hv:aA w W ab L e.val v):cH P base W M w0 ab L w a o e:=
 ⟨.value v,v,w,L,bW,.inl rfl,by rw[oV];exact hO,by rw[oV];exact gP.cQ (dg.refl _ _),by rw[oV];exact hv⟩
def cH.int(hO:ct base W M w0 ab w L){e:qO}(oV:e.put=none){k:IntKind}{n:Int}(c7:e.val=.v (.int k n))(bW:(execOp a.eval o).run P w=.ok (.value (.int k n)) w):cH P base W M w0 ab L w a o e:=
 cH.lJ hO oV bW (by rw[c7];simp[aA,bj])
def cH.bool(hO:ct base W M w0 ab w L){e:qO}(oV:e.put=none){b:Bool}(c7:e.val=.v (.bool b))(bW:(execOp a.eval o).run P w=.ok (.value (.bool b)) w):cH P base W M w0 ab L w a o e:=
 cH.lJ hO oV bW (by rw[c7];simp[aA,bj])
def Vk(hO:ct base W M w0 ab w L){op:BinOp}{t:TypeId}{x y:Operand}{yt:TypeId}(ho:o.op=.binOp op t x y yt)(h1:aA w W ab L d1 (a.eval x))(h2:aA w W ab L d2 (a.eval y))(hok:(ua op d1 d2).ok):
  cH P base W M w0 ab L w a o (ua op d1 d2):=by
 have key:∀{k k':IntKind} {p q:Int},d1=.v (.int k p)->d2=.v (.int k' q)->cH P base W M w0 ab L w a o (ua op d1 d2):=by
  rintro k k' p q rfl rfl;simp only[aA,bj]at h1 h2;have Dn:∀(v:Value),(eqGuard op t x y (.int k p) (.int k' q)).run P w=.ok () w->(binOp op t (.int k p) (.int k' q)).run P w=.ok v w->(execOp a.eval o).run P w=.ok (.value v) w:=by
   intro v e1 e2;simp[execOp,ho,h1,h2,e1,e2]
  have hg:(eqGuard op t x y (.int k p) (.int k' q)).run P w=.ok () w:=by cases op<;>simp[eqGuard]
  cases op<;>simp only[ua,cZ]at hok⊢
  all_goals first
   |exact hok.elim
   |(subst hok;first
     |(refine cH.int hO rfl rfl (Dn _ hg ?_);simp[binOp,Op.intArith];done)
     |(refine cH.int hO rfl rfl (Dn _ hg ?_);simp[binOp,Op.intBits];done)
     |(refine cH.bool hO rfl rfl (Dn _ hg ?_);simp[binOp,Op.intCmp];done)
     |(refine cH.bool hO rfl rfl (Dn _ hg ?_);simp[binOp,Op.intCmp];rfl))
   |(refine cH.int hO rfl rfl (Dn _ hg ?_);simp[binOp,shift_shl_any _ _ _ _ hok,shift_shr_any _ _ _ _ hok];done)
   |(obtain⟨rfl,hq⟩:=hok;exact cH.int hO rfl rfl (Dn _ hg (by simp[binOp,Op.intDiv,hq])))
 unfold ua at hok;split at hok
 ·exact key rfl rfl
 ·exact hok.elim
def HT{x:Value}{cs:bB}(h:aA w W ab L d x)(hc:mZ d=some cs):∃vs:Array Value,x=.agg vs/\aQ w W ab L cs vs.toList:=by
 cases d with
 |v t=>
  cases t with
  |agg ts=>
   simp only[mZ,Zaa]at hc;subst hc;simp only[aA,bj]at h;obtain⟨vs,rfl,hr⟩:=h;exact⟨vs,rfl,aQ.sa hr⟩
  |_=>simp[mZ]at hc
 |agg ds=>
  simp only[mZ,Zaa]at hc;subst hc;simp only[aA]at h;exact h
 |_=>simp[mZ]at hc
def Ku{s:TypeId}{f:Nat}{fs:Array Field}{fd:Field}{i:TypeInfo}{desc:TypeDesc}(hs:P.underlying s=some (.struct fs))(hf:fs[f]? =some fd)(hi:P.info? fd.type=some i)(hd:P.underlying fd.type=some desc)
   (h:aA w W ab L d xv) (hok:(oQ fd.offset i.size (b8 desc) d).ok):
  (oQ fd.offset i.size (b8 desc) d).put=none/\∃v,(Instr.field s xv f).run P w=.ok v w/\aA w W ab L (oQ fd.offset i.size (b8 desc) d).val v:=by
 unfold oQ at hok⊢;cases hc:mZ d with
 |none=>simp[hc,cZ]at hok
 |some cs=>
  simp only[hc]at hok⊢;obtain⟨vs,rfl,hr⟩:=HT h hc;have hl:=aQ.length hr;have hp:=m9 (P:=P) w hd hi (xs:=vs.toList) (off:=fd.offset) hok.2 (by omega);simp only[Array.toArray_toList]at hp;refine⟨trivial,_,by simp[Instr.field,run_underlying hs,hf,asAgg,hp];rfl, ?_⟩;by_cases ha:b8 desc=true
  ·simp only[ha,if_true,zP,aA];exact⟨_,rfl,by simpa using aQ.take i.size (aQ.drop fd.offset hr)⟩
  ·have h1:i.size=1:=hok.2.resolve_left ha;have hlt:fd.offset<cs.length:=by omega
   obtain⟨v,tp,_,gD⟩:=aQ.get hr (i:=fd.offset) (d:=cs[fd.offset]) (by simp[hlt]);have e1:(List.take i.size (List.drop fd.offset vs.toList)).getD 0 Go.undef=v:=by
    rw[h1];simp only[List.getD,ZaQ,ZbH,ZbV,tp];simp
   have e2:cs.getD fd.offset .undef=cs[fd.offset]:=by simp[List.getD,hlt]
   simp only[ha,zP,e1,e2];exact gD
def HU{k:Nat}(h:aA w W ab L d xv)(hok:(iq k d).ok):
  (iq k d).put=none/\∃b o,xv=.pointer (some ⟨b,o,none⟩)/\aA w W ab L (iq k d).val (.pointer (some ⟨b,o+k,none⟩)):=by
 cases d with
 |ptr r off=>
  simp only[aA]at h;obtain⟨hc,rfl⟩:=h;exact⟨rfl,_,_,rfl,by simp only[iq,aA];exact⟨hc,trivial⟩⟩
 |l7 av i off=>
  simp only[aA]at h;obtain⟨b,o,sz,rfl,rest⟩:=h;exact⟨rfl,_,_,rfl,by simp only[iq,aA];exact⟨b,o,sz,by rw[Nat.add_assoc],rest⟩⟩
 |iD cs off=>
  simp only[aA]at h;obtain⟨b,o,rfl,rest⟩:=h;exact⟨rfl,_,_,rfl,by simp only[iq,aA];exact⟨b,o,by rw[Nat.add_assoc],rest⟩⟩
 |ka r bD i off=>
  simp only[aA]at h;obtain⟨⟨b,o,rfl⟩,cg,e,sz,av,ho,jy,hx⟩:=h;refine⟨rfl,_,_,rfl, ?_⟩;simp only[iq,aA];refine⟨⟨_,_,rfl⟩,cg,e,sz,av,ho,jy,λhv=>?_⟩;obtain⟨g,hg,hp,h0,h1⟩:=hx hv;simp only[Value.pointer.injEq,Zaa,Addr.mk.injEq,and_true]at hp;exact⟨g,hg,by rw[hp.1,hp.2,Nat.add_assoc],h0,h1⟩
 |v t=>
  cases t with
  |box cs=>
   simp only[aA,bj]at h;obtain⟨b,o,rfl,rest⟩:=h;exact⟨rfl,_,_,rfl,by simp only[iq,aA];exact⟨b,o,rfl,rest⟩⟩
  |_=>exact hok.elim
 |_=>exact hok.elim
def Do(h:aA w W ab L d xv)(hok:(kT d).ok):
  (kT d).put=none/\(kT d).val=d/\((∃p,xv=.pointer (some p))\/∃f bY,xv=.func (.func f) #[] bY):=by
 cases d with
 |ptr r off=>simp only[aA]at h;obtain⟨_,rfl⟩:=h;exact⟨rfl,rfl,.inl ⟨_,rfl⟩⟩
 |l7 av i off=>simp only[aA]at h;obtain⟨b,o,sz,rfl,_⟩:=h;exact⟨rfl,rfl,.inl ⟨_,rfl⟩⟩
 |iD cs off=>simp only[aA]at h;obtain⟨b,o,rfl,_⟩:=h;exact⟨rfl,rfl,.inl ⟨_,rfl⟩⟩
 |ka r bD i off=>simp only[aA]at h;obtain⟨⟨b,o,rfl⟩,_⟩:=h;exact⟨rfl,rfl,.inl ⟨_,rfl⟩⟩
 |v t=>
  cases t with
  |box cs=>simp only[aA,bj]at h;obtain⟨b,o,rfl,_⟩:=h;exact⟨rfl,rfl,.inl ⟨_,rfl⟩⟩
  |fn f bY=>
   cases f with
   |func f=>simp only[aA,bj]at h;obtain⟨vs,rfl,_⟩:=h;exact⟨rfl,rfl,.inr ⟨_,_,rfl⟩⟩
   |_=>exact hok.elim
  |_=>exact hok.elim
 |_=>exact hok.elim
def Vl{t e:TypeId}{i:TypeInfo}(hO:ct base W M w0 ab w L)(ht:P.underlying t=some (.slice e))(hi:P.info? e=some i)(h:aA w W ab L d xv)(h2:aA w W ab L d2 yv)(hok:(rZ i.size ab d d2).ok):
  (rZ i.size ab d d2).put=none/\∃v,(Instr.indexAt t xv yv).run P w=.ok v w/\aA w W ab L (rZ i.size ab d d2).val v:=by
 have bW:∀(b o n c:Nat) (k:IntKind) (j:Int),0<=j->j<n->(Instr.indexAt t (.slice (some ⟨b,o,none⟩) n c) (.int k j)).run P w=.ok (.pointer (some ⟨b,o+j.toNat*i.size,none⟩)) w:=by
  intro b o n c k j h0 h1;simp[Instr.indexAt,asIntOf,run_underlying ht,h0,h1,run_sizeOf hi,mP]
 unfold rZ at hok⊢;split at hok
 ·rename_i av k j;simp only at hok⊢;obtain⟨h0,h1,hsz⟩:=hok;simp only[aA,bj]at h h2;subst h2;rcases h with⟨rfl,_⟩|⟨b,o,cap,sz,rfl,hb,hn,hc,hr⟩
  ·simp at h1;omega
  ·have hrow:=(bw.row hr (zX h0 h1)).1;have hsz':sz=i.size:=by omega
   subst hsz';refine⟨trivial,_,bW b o _ _ k j h0 h1, ?_⟩;simp only[aA];exact⟨b,o,_,by rw[ZbV],hb,hn,hr,h0,h1⟩
 ·rename_i r bD k j;cases hc:ab r with
  |none=>simp[hc,cZ]at hok
  |some ob=>
   cases ob with
   |box cs=>simp[hc,cZ]at hok
   |map _ _ _ _=>simp[hc,cZ]at hok
   |iter _ _ _ _=>simp[hc,cZ]at hok
   |arr cg e' iG av=>
    simp only[hc]at hok⊢;obtain⟨rfl,rfl,h0,h1⟩:=hok;simp only[aA,bj]at h h2;subst h2;obtain⟨_,qw,e2,Gy,lI,nH,_,hv⟩:=h;rw[hc]at nH;cases nH;have hv:=hv rfl;subst hv;have gH:=hO.ob r _ hc;obtain⟨hsz,eF,hm,hal⟩:=gH;rcases hal with⟨rfl,_⟩|⟨g',cap,cur,tp,hp,hh,jy,sc,HN,gQ⟩
    ·simp at h1;omega
    ·refine⟨trivial,_,by rw[tp];exact bW g' 0 _ _ k j h0 h1, ?_⟩;simp only[aA];exact⟨⟨_,_,rfl⟩,bD,e',_,av,hc,Zaf _,λ_=>⟨g',by simp[tp,aX,ZaJ.1 hp],by simp,h0,h1⟩⟩
 ·rename_i r bD lo n k j;cases hc:ab r with
  |none=>simp[hc,cZ]at hok
  |some ob=>
   cases ob with
   |box cs=>simp[hc,cZ]at hok
   |map _ _ _ _=>simp[hc,cZ]at hok
   |iter _ _ _ _=>simp[hc,cZ]at hok
   |arr cg e' iG av=>
    simp only[hc]at hok⊢;obtain⟨rfl,rfl,h0,h1⟩:=hok;simp only[aA,bj]at h h2;subst h2;obtain⟨_,qw,e2,Gy,lI,nH,_,hv⟩:=h;rw[hc]at nH;cases nH;have hv:=hv rfl;rcases uf hO hc hv with⟨rfl,_⟩|⟨g,c,zO,rfl,hnc,_⟩
    ·simp at h1;omega
    ·refine⟨trivial,_,bW g _ _ _ k j h0 h1, ?_⟩;have hl:=hv.1;have e1:((lo:Int)+j).toNat=lo+j.toNat:=by omega
     simp only[aA];exact⟨⟨_,_,rfl⟩,bD,e',_,av,hc,Zaf _,λ_=>⟨g,zO,by rw[e1,Nat.add_mul];simp,by omega,by omega⟩⟩
 ·rename_i r n k j;simp only[aA,bj]at h h2;subst h2;obtain⟨hc,rfl⟩:=h;obtain⟨h0,h1⟩:=hok;refine⟨rfl,_,bW _ _ _ _ k j h0 h1, ?_⟩;simp only[aA];exact⟨hc,by simp⟩
 ·exact hok.elim
def Gd{t e:TypeId}{i:TypeInfo}{n:Nat}(ht:P.underlying t=some (.array n e))(hi:P.info? e=some i)(h:aA w W ab L d xv)(h2:aA w W ab L d2 yv)(hok:(kK n i.size d d2).ok):
  (kK n i.size d d2).put=none/\∃v,(Instr.indexAt t xv yv).run P w=.ok v w/\aA w W ab L (kK n i.size d d2).val v:=by
 have bW:∀(b o:Nat) (k:IntKind) (j:Int),0<=j->j<n->(Instr.indexAt t (.pointer (some ⟨b,o,none⟩)) (.int k j)).run P w=.ok (.pointer (some ⟨b,o+j.toNat*i.size,none⟩)) w:=by
  intro b o k j h0 h1;by_cases hn:n<=1<;>simp[Instr.indexAt,asIntOf,run_underlying ht,h0,h1,run_sizeOf hi,mP,Instr.sureAddr]
 unfold kK at hok⊢;split at hok
 ·rename_i r off k j;simp only[aA,bj]at h h2;obtain⟨hc,rfl⟩:=h;subst h2;exact⟨rfl,_,bW _ _ k j hok.1 hok.2,by simp only[aA];exact⟨hc,trivial⟩⟩
 ·rename_i av q off k j;simp only[aA,bj]at h h2;obtain⟨b,o,sz,rfl,rest⟩:=h;subst h2;exact⟨rfl,_,bW _ _ k j hok.1 hok.2,by simp only[aA];exact⟨b,o,sz,by rw[Nat.add_assoc],rest⟩⟩
 ·rename_i cs off k j;simp only[aA,bj]at h h2;obtain⟨b,o,rfl,rest⟩:=h;subst h2;exact⟨rfl,_,bW _ _ k j hok.1 hok.2,by simp only[aA];exact⟨b,o,by rw[Nat.add_assoc],rest⟩⟩
 ·rename_i cs k j;simp only[aA,bj]at h h2;obtain⟨b,o,rfl,rest⟩:=h;subst h2;exact⟨rfl,_,bW _ _ k j hok.1 hok.2,by simp only[aA];exact⟨b,o,rfl,rest⟩⟩
 ·rename_i r bD q off k j;simp only[aA,bj]at h h2;obtain⟨⟨b,o,rfl⟩,cg,e,sz,av,ho,jy,hx⟩:=h;subst h2;refine⟨rfl,_,bW _ _ k j hok.1 hok.2, ?_⟩;simp only[aA];refine⟨⟨_,_,rfl⟩,cg,e,sz,av,ho,jy,λhv=>?_⟩;obtain⟨g,hg,hp,h0,h1⟩:=hx hv;simp only[Value.pointer.injEq,Zaa,Addr.mk.injEq,and_true]at hp;exact⟨g,hg,by rw[hp.1,hp.2,Nat.add_assoc],h0,h1⟩
 ·exact hok.elim
def Vm{x:Operand}{t e:TypeId}(hO:ct base W M w0 ab w L)(ho:o.op=.call {callee:=.builtin .len,args:= #[x],argTypes:= #[t]})(ht:P.underlying t=some (.slice e))(h:aA w W ab L d (a.eval x))(hok:(wC ab d).ok):
  cH P base W M w0 ab L w a o (wC ab d):=by
 have vP:∀(p:Option Addr) (n c:Nat),a.eval x=.slice p n c->(execOp a.eval o).run P w=.ok (.value (.int .i64 n)) w:=by
  rintro p n c hx;simp[execOp,ho,resolve,invoke,builtin,hx,Builtin.len_,run_underlying ht,goInt]
 cases d with
 |v t'=>
  cases t' with
  |sl av=>
   simp only[aA,bj]at h;rcases h with⟨rfl,p,c,hx⟩|⟨b,oo,cap,sz,hx,_⟩
   ·exact cH.int hO rfl rfl (vP _ _ _ hx)
   ·exact cH.int hO rfl rfl (vP _ _ _ hx)
  |_=>exact hok.elim
 |aW=>
  simp only[aA]at h;obtain⟨p,hx⟩:=h;exact cH.int hO rfl rfl (vP _ _ _ hx)
 |bA r bD=>
  simp only[aA]at h;obtain⟨_,cg,e',sz,av,hc,_,hv⟩:=h;simp only[wC,hc]at hok⊢;have hv:=hv hok;have gH:=hO.ob r _ hc;obtain⟨hsz,eF,hm,hal⟩:=gH;rcases hal with⟨rfl,p,hp⟩|⟨g',cap,cur,tp,hp,hh,jy,sc,HN,gQ⟩
  ·exact cH.int hO rfl rfl (vP _ _ _ (hv.trans hp))
  ·exact cH.int hO rfl rfl (vP _ _ _ (hv.trans tp))
 |u9 r bD lo n=>
  simp only[aA]at h;obtain⟨⟨p,c,hx⟩,_⟩:=h;exact cH.int hO rfl rfl (vP _ _ _ hx)
 |F9 r n=>
  simp only[aA]at h;obtain⟨_,hx⟩:=h;exact cH.int hO rfl rfl (vP _ _ _ hx)
 |_=>exact hok.elim
def N3{x:Operand}{t:TypeId}(hO:ct base W M w0 ab w L)(ho:o.op=.call {callee:=.builtin .len,args:= #[x],argTypes:= #[t]})(ht:P.underlying t=some .string)(h:aA w W ab L d (a.eval x))(hok:(vd d).ok):
  cH P base W M w0 ab L w a o (vd d):=by
 unfold vd at hok⊢;split at hok
 ·simp only[aA,bj]at h;refine cH.int hO rfl rfl ?_;simp[execOp,ho,resolve,invoke,builtin,h,Builtin.len_,run_underlying ht,goInt]
 ·exact hok.elim
def xZ{x y:Operand}{ts:Array TypeId}(m:Bool)(hO:ct base W M w0 ab w L)(ho:o.op=.call {callee:=.builtin (if m then .max else .min),args:= #[x,y],argTypes:=ts})(h1:aA w W ab L d1 (a.eval x))(h2:aA w W ab L d2 (a.eval y))(hok:(oD m d1 d2).ok):
  cH P base W M w0 ab L w a o (oD m d1 d2):=by
 unfold oD at hok⊢;split at hok
 ·rename_i k p k' q;simp only[aA,bj]at h1 h2;have hok':k=k':=hok;subst hok';cases m
  ·have e:(if q<p then q else p)=min p q:=by omega
   refine cH.int hO rfl rfl ?_;simp[execOp,ho,resolve,invoke,builtin,h1,h2,run_min_int2,e]
  ·have e:(if q>p then q else p)=max p q:=by omega
   refine cH.int hO rfl rfl ?_;simp only[gt_iff_lt]at e;simp[execOp,ho,resolve,invoke,builtin,h1,h2,run_max_int2,e]
 ·exact hok.elim
def GG{x:Value}{n:Int}(h:aA w W ab L d x)(hi:Dd d=some n):∃k,x=.int k n:=by
 unfold Dd at hi;split at hi
 ·simp only[Zaa]at hi;subst hi;simp only[aA,bj]at h;exact⟨_,h⟩
 ·cases hi
def Kv(hO:ct base W M w0 ab w L){t e:TypeId}{i:TypeInfo}(ht:P.underlying t=some (.slice e))(hi:P.info? e=some i)(h:aA w W ab L d xv){lo pW:Option DV}{lv hv:Option Value}
  (hlo:(lo=none/\lv=none)\/∃dl vl,lo=some dl/\lv=some vl/\aA w W ab L dl vl) (hhi:(pW=none/\hv=none)\/∃dl vl,pW=some dl/\hv=some vl/\aA w W ab L dl vl)
  (hok:(jA i.size lo pW ab d).ok):
  (jA i.size lo pW ab d).put=none/\∃v,(Instr.sliceAt t xv lv hv none).run P w=.ok v w/\aA w W ab L (jA i.size lo pW ab d).val v:=by
 have bW:∀(p:Option Addr) (n c:Nat) (l hh:Int),0<=l->l<=hh->hh<=n->n<=c->(lv=none/\l=0\/∃k,lv=some (.int k l))->(hv=none/\hh=n\/∃k,hv=some (.int k hh))->
   (Instr.sliceAt t (.slice p n c) lv hv none).run P w=.ok (.slice (if c=l.toNat then p else p.map (·.add (l.toNat*i.size))) (hh.toNat-l.toNat) (c-l.toNat)) w:=by
  intro p n c l hh h0 h1 h2 h3 hl hh';have b2:hh<=c:=by omega
  have b3:0<=hh:=by omega
  have b4:l<=(hh.toNat:Int):=by omega
  have b5:((hh.toNat:Nat):Int)=hh:=by omega
  rcases hl with⟨rfl,rfl⟩|⟨k,rfl⟩<;>rcases hh' with⟨rfl,rfl⟩|⟨k',rfl⟩
  ·simp[Instr.sliceAt,Instr.slice,run_underlying ht,Instr.sliceBounds,run_sizeOf hi]
  ·simp[Instr.sliceAt,Instr.slice,run_underlying ht,Instr.sliceBounds,run_sizeOf hi,Instr.sliceBound,asIntOf,b2,b3]
  ·have b6:l<=(n:Int):=h1;simp[Instr.sliceAt,Instr.slice,run_underlying ht,Instr.sliceBounds,run_sizeOf hi,Instr.sliceBound,asIntOf,b6,h0]
  ·simp[Instr.sliceAt,Instr.slice,run_underlying ht,Instr.sliceBounds,run_sizeOf hi,Instr.sliceBound,asIntOf,b2,b3,h0,b5,h1]
 have XL:∀{l:Int},De lo=some l->(lv=none/\l=0\/∃k,lv=some (.int k l)):=by
  intro l hl;rcases hlo with⟨rfl,rfl⟩|⟨dl,vl,rfl,rfl,hr⟩
  ·simp only[De,Zaa]at hl;exact .inl ⟨rfl,hl.symm⟩
  ·obtain⟨k,rfl⟩:=GG hr hl;exact .inr ⟨k,rfl⟩
 have c7:∀{n:Int} {l:Int},Df n pW=some l->(hv=none/\l=n\/∃k,hv=some (.int k l)):=by
  intro n l hl;rcases hhi with⟨rfl,rfl⟩|⟨dl,vl,rfl,rfl,hr⟩
  ·simp only[Df,Zaa]at hl;exact .inl ⟨rfl,hl.symm⟩
  ·obtain⟨k,rfl⟩:=GG hr hl;exact .inr ⟨k,rfl⟩
 cases d with
 |v t'=>
  cases t' with
  |sl av=>
   simp only[jA]at hok⊢;cases el:De lo with
   |none=>simp[el,cZ]at hok
   |some l=>
    cases eh:Df av.length pW with
    |none=>simp[el,eh,cZ]at hok
    |some hh=>
     simp only[el,eh]at hok⊢;obtain⟨h0,h1,h2,hsz⟩:=hok;refine⟨trivial, ?_⟩;simp only[aA,bj]at h;have dM:((av.take hh.toNat).drop l.toNat).length=hh.toNat-l.toNat:=by simp;omega
     rcases h with⟨rfl,p,c,rfl⟩|⟨b,oo,cap,sz,rfl,hb,hn,hc,hr⟩
     ·have z1:hh=0:=by simp at h2;omega
      have z2:l=0:=by omega
      subst z1 z2;refine⟨_,bW p 0 c 0 0 h0 h1 (by omega) (by omega) (XL el) (c7 eh), ?_⟩;simp only[aA,bj];exact .inl ⟨by simp,_,_,rfl⟩
     ·refine⟨_,bW _ _ cap l hh h0 h1 h2 hc (XL el) (c7 eh), ?_⟩;simp only[aA,bj];by_cases Cl:cap=l.toNat
      ·refine .inl ⟨?_,_,_,by rw[show hh.toNat-l.toNat=0 by omega]⟩;apply ZaD;omega
      ·refine .inr ⟨b,oo+l.toNat*i.size,cap-l.toNat,i.size, ?_,hb,hn,by omega, ?_⟩
       ·rw[dM,Zab Cl];simp[mP]
       ·refine bw.Ck _ _ λj r hj=>?_;rw[ZbH,ZaQ]at hj;split at hj
        ·have hrow:=bw.row hr hj;have z8:=hsz r (Zax hj);have:sz=i.size:=by omega
         subst this;refine⟨z8, ?_⟩;have e2:oo+l.toNat*i.size+j*i.size=oo+(l.toNat+j)*i.size:=by rw[Nat.add_mul];omega
         rw[e2];exact hrow.2
        ·cases hj
  |_=>exact hok.elim
 |aW=>
  simp only[jA]at hok⊢;cases el:De lo with
  |none=>simp[el,cZ]at hok
  |some l=>
   cases eh:Df 0 pW with
   |none=>simp[el,eh,cZ]at hok
   |some hh=>
    simp only[el,eh]at hok⊢;obtain⟨rfl,rfl⟩:=hok;refine⟨trivial, ?_⟩;simp only[aA]at h;obtain⟨p,rfl⟩:=h;refine⟨_,bW p 0 0 0 0 (Zct _) (Zct _) (by omega) (Zaf _) (XL el) (c7 eh), ?_⟩;simp[aA]
 |bA r bD=>
  simp only[jA]at hok⊢;cases hc:ab r with
  |none=>simp[hc,cZ]at hok
  |some ob=>
   cases ob with
   |arr cg e' iG av=>
    simp only[hc]at hok⊢;cases el:De lo with
    |none=>simp[el,cZ]at hok
    |some l=>
     cases eh:Df av.length pW with
     |none=>simp[el,eh,cZ]at hok
     |some hh=>
      simp only[el,eh]at hok⊢;obtain⟨rfl,rfl,h0,h1,h2⟩:=hok;refine⟨trivial, ?_⟩;simp only[aA]at h;obtain⟨_,qw,e2,Gy,lI,nH,_,mQ⟩:=h;rw[hc]at nH;cases nH;have mQ:=mQ rfl;subst mQ;obtain⟨_,_,_,hal⟩:=hO.ob r _ hc;have vP:∃p cap,L.sl r=.slice p av.length cap/\av.length<=cap:=by
       rcases hal with⟨rfl,a,ha⟩|⟨g,cap,cur,k1,k2,k3,k4,_⟩
       ·exact⟨a,0,ha,Zaf _⟩
       ·exact⟨_,cap,k1,k4⟩
      obtain⟨p,cap,vP,sc⟩:=vP;refine⟨_,by rw[vP];exact bW p av.length cap l hh h0 h1 h2 sc (XL el) (c7 eh), ?_⟩;simp only[aA];exact⟨⟨_,_,rfl⟩,bD,e',_,av,hc,Zaf _,λ_=>⟨by omega,p,cap,_,vP,rfl,λhlt=>by rw[Zab (by omega)]⟩⟩
   |_=>simp[hc,cZ]at hok
 |u9 r bD lo0 n=>
  simp only[jA]at hok⊢;cases hc:ab r with
  |none=>simp[hc,cZ]at hok
  |some ob=>
   cases ob with
   |arr cg e' iG av=>
    simp only[hc]at hok⊢;cases el:De lo with
    |none=>simp[el,cZ]at hok
    |some l=>
     cases eh:Df n pW with
     |none=>simp[el,eh,cZ]at hok
     |some hh=>
      simp only[el,eh]at hok⊢;obtain⟨rfl,rfl,h0,h1,h2⟩:=hok;refine⟨trivial, ?_⟩;simp only[aA]at h;obtain⟨_,qw,e2,Gy,lI,nH,_,mQ⟩:=h;rw[hc]at nH;cases nH;obtain⟨Kp,p,cap,p2,vP,rfl,Qu⟩:=mQ rfl;obtain⟨_,_,_,hal⟩:=hO.ob r _ hc;have sc:av.length<=cap/\∀q,p=some q->0<cap->∃g,q=⟨g,0,none⟩:=by
       rcases hal with⟨rfl,a,ha⟩|⟨g,cap',cur,k1,k2,k3,k4,_⟩
       ·exact⟨by simp,λq hq Xa=>by rw[vP]at ha;cases ha;omega⟩
       ·rw[vP]at k1;cases k1;exact⟨k4,λq hq _=>⟨g,by simpa using hq.symm⟩⟩
      refine⟨_,bW p2 n (cap-lo0) l hh h0 h1 h2 (by omega) (XL el) (c7 eh), ?_⟩;simp only[aA];refine⟨⟨_,_,rfl⟩,bD,e',_,av,hc,Zaf _,λ_=>⟨by omega,p,cap,_,vP,by rw[Nat.sub_sub],λhlt=>?_⟩⟩;rw[Zab (by omega),Qu (by omega)];cases p with
      |none=>rfl
      |some q=>
       obtain⟨g,rfl⟩:=sc.2 q rfl (by omega);simp[mP,Nat.add_mul]
   |_=>simp[hc,cZ]at hok
 |_=>exact hok.elim
end
end
section
variable{W':fo}{cj:List Sh}{agg:Bool}{es:List (Nat×T×DV)}
variable [bI]
section
variable{P:Program}{base:Nat}{W M:fo}{w0:World}{ab:bq}{L:Loc}{w:World}{a:Act}{o:Oper}
def jg{W':fo}:∀{cj:List Sh} {ts:aK} {vs:List Value},eL cj ts->bf w W' ts vs->fits cj vs
 |[],ts,vs,h,hr=>by
  simp only[eL]at h;subst h;simpa [bf,fits]using hr
 |s::ss,[],vs,h,_=>by simp[eL]at h
 |s::ss,t::ts,vs,h,hr=>by
  simp only[eL]at h;simp only[bf]at hr;obtain⟨v,vs',rfl,_,h2,hr⟩:=hr;simp only[fits];refine⟨v,vs',rfl, ?_,jg h.2 hr⟩;have h1:=h.1;cases s<;>cases t<;>first|exact Zar h1 ZaL|skip
  all_goals (simp only[bj]at h2;subst h2;first|rfl|exact h1)
def Ky{s:Sh}{t u:T}{x y:Value}(ht:HI s t=true)(hu:HI s u=true)(hx:bj w W' t x)(hy:bj w W' u y):gO t u=veq x y:=by
 cases s<;>cases t<;>(first|exact Zar ht ZaL|skip)<;>cases u<;>(first|exact Zar hu ZaL|skip)
 all_goals (simp only[bj]at hx hy;subst hx hy;simp only[gO,veq])
 ·rfl
 ·rename_i s1 s2;by_cases h:s1=s2
  ·subst h;simp
  ·have bT:s1.toList≠s2.toList:=λe=>h (by
    rw[ByteArray.toList_eq,ByteArray.toList_eq]at e;obtain⟨d1⟩:=s1;obtain⟨d2⟩:=s2;exact congrArg ByteArray.mk (Array.ext' e))
   simp[h,bT]
def Ab{W':fo}:∀{cj:List Sh} {ts us:aK} {xs ys:List Value},eL cj ts->eL cj us->bf w W' ts xs->bf w W' us ys->tl ts us=mz xs ys
 |[],ts,us,xs,ys,h1,h2,hx,hy=>by
  simp only[eL]at h1 h2;subst h1 h2;simp only[bf]at hx hy;subst hx hy;rfl
 |s::ss,[],_,_,_,h,_,_,_=>by simp[eL]at h
 |s::ss,_::_,[],_,_,_,h,_,_=>by simp[eL]at h
 |s::ss,t::ts,u::us,xs,ys,h1,h2,hx,hy=>by
  simp only[eL]at h1 h2;simp only[bf]at hx hy;obtain⟨x,lz,rfl,_,HS,hx⟩:=hx;obtain⟨y,ys',rfl,_,lq,hy⟩:=hy;simp only[tl,mz];rw[Ky h1.1 h2.1 HS lq,Ab h1.2 h2.2 hx hy]
def oF{t:T}(h:eL cj [t]):∃s,cj=[s]/\HI s t=true:=by
 cases cj with
 |nil=>simp[eL]at h
 |cons s ss=>
  simp only[eL]at h;cases ss with
  |nil=>exact⟨s,rfl,h.1⟩
  |cons s2 ss=>simp[eL]at h
def yA{em:Bool}{d:Nat}(ih:∀(t:TypeId) (cj:List Sh) (desc:TypeDesc),lp P d t=some cj->P.underlying t=some desc->∀(xs:List Value) (w:World),fits cj xs->(Instr.checkKey em d t (zP desc xs)).run P w=.ok () w)
  (Ks:∀(t:TypeId) (cj:List Sh),lp P d t=some cj->∃desc,P.underlying t=some desc/\(b8 desc=true\/cj.length=1)) (xs:List Value):
  ∀(fs:List Field) (off:Nat) (cj:List Sh) (w:World),iH P (lp P d) off fs=some cj->fits cj (xs.drop off)->off<=xs.length->
   (forIn fs PUnit.unit (λf (_:PUnit)=>
      if f.name≠ "_" then do
       let x<-part f.type xs.toArray f.offset
       Instr.checkKey em d f.type x
       pure (ForInStep.yield PUnit.unit)
      else pure (ForInStep.yield PUnit.unit)):Sem PUnit).run P w=.ok PUnit.unit w
 |[],off,cj,w,h,hx,_=>by simp
 |f::fs,off,cj,w,h,hx,hox=>by
  simp only[iH]at h;split at h
  ·rename_i s i hs hi;split at h
   ·rename_i hc;obtain⟨hn,rfl,hsz⟩:=hc;simp only[Zac]at h;obtain⟨rest,Kt,rfl⟩:=h;obtain⟨desc,hd,h1⟩:=Ks _ _ hs;have Gb:=fits.length hx;simp only[ZaK,Zbo]at Gb;obtain⟨HS,v7⟩:=fits.split hx;rw[List.drop_drop]at v7;rw[hsz]at h1;have p1:=λw=>m9 (P:=P) w hd hi (xs:=xs) (off:=f.offset) h1 (by omega);have hr:=ih _ _ _ hs hd _ w HS;rw[hsz]at hr;simp only[ZcL,hn,ne_eq,not_false_eq_true,if_true,Sem.run_bind,p1,Result.andThen_ok,hr,Sem.run_pure];exact yA ih Ks xs fs _ rest w Kt v7 (by omega)
   ·cases h
  ·cases h
def Ao{em:Bool}{d:Nat}{e:TypeId}{de:TypeDesc}{s:List Sh}{i:TypeInfo}(hd:P.underlying e=some de)(hi:P.info? e=some i)(h1:b8 de=true\/i.size=1)(hs:s.length=i.size)
  (ih:∀(xs:List Value) (w:World),fits s xs->(Instr.checkKey em d e (zP de xs)).run P w=.ok () w) (xs:List Value):
  ∀(n k:Nat) (w:World),fits ((List.replicate n s).flatten) (xs.drop (k*i.size))->
   (forIn (List.range' k n) PUnit.unit (λj (_:PUnit)=>do
      let sz<-sizeOf e
      let x<-part e xs.toArray (j*sz)
      Instr.checkKey em d e x
      pure (ForInStep.yield PUnit.unit)):Sem PUnit).run P w=.ok PUnit.unit w
 |0,k,w,hx=>by simp
 |n+1,k,w,hx=>by
  simp only[ZaY,Zbu]at hx;have Gb:=fits.length hx;simp only[ZaK,Zbo]at Gb;obtain⟨HS,v7⟩:=fits.split hx;have e2:k*i.size+s.length=(k+1)*i.size:=by rw[Nat.add_mul,hs];omega
  rw[List.drop_drop,e2]at v7;by_cases hz:i.size=0
  ·have hsz:∀(w:World),k*i.size+i.size<=xs.length\/xs.length<k*i.size:=λ_=>by omega
   have Nz:=h1.elim id (λh=>by omega);have p1:=λw=>m9 (P:=P) w hd hi (xs:=xs) (off:=k*i.size) h1 (by rw[hz];simp);rw[hs]at HS;have hr:=ih _ w HS;simp only[Zc2,ZcL,Sem.run_bind,run_sizeOf hi,p1,Result.andThen_ok,hr,Sem.run_pure];exact Ao hd hi h1 hs ih xs n (k+1) w v7
  ·have p1:=λw=>m9 (P:=P) w hd hi (xs:=xs) (off:=k*i.size) h1 (by omega);rw[hs]at HS;have hr:=ih _ w HS;simp only[Zc2,ZcL,Sem.run_bind,run_sizeOf hi,p1,Result.andThen_ok,hr,Sem.run_pure];exact Ao hd hi h1 hs ih xs n (k+1) w v7
def Ap(em:Bool):∀(d:Nat) (t:TypeId) (cj:List Sh) (desc:TypeDesc),lp P d t=some cj->P.underlying t=some desc->∀(xs:List Value) (w:World),fits cj xs->(Instr.checkKey em d t (zP desc xs)).run P w=.ok () w
 |0,t,cj,desc,h,_,_,_,_=>by simp[lp]at h
 |d+1,t,cj,desc,h,hu,xs,w,hx=>by
  simp only[lp,hu]at h;cases desc;case bool=>simp[zP,b8,Instr.checkKey,run_underlying hu]
  case int k=>simp[zP,b8,Instr.checkKey,run_underlying hu]
  case string=>simp[zP,b8,Instr.checkKey,run_underlying hu]
  case struct fs=>
   replace h:(if P.stoodInHeld t then none else iH P (lp P d) 0 fs.toList)=some cj:=h
   split at h
   ·cases h
   ·have:=yA (em:=em) (λt cj desc=>Ap em d t cj desc) (λt cj hs=>by
     cases d with
     |zero=>simp[lp]at hs
     |succ d=>exact Cn hs) xs fs.toList 0 cj w h (by simpa using hx) (by omega)
    simp only[zP,b8,if_true];rw[Instr.checkKey];simp only[Sem.run_bind,run_underlying hu,Result.andThen_ok];rw[<-Array.forIn_toList];refine(congrArg (λr=>Result.andThen r _) this).trans ?_;rfl
  case array n e=>
   replace h:(match lp P d e,P.info? e with
    |some s,some i=>if s.length=i.size/\0<i.size then some ((List.replicate n s).flatten)else none
    |_,_=>none)=some cj:=h
   split at h
   ·rename_i s i hs hi;split at h
    ·rename_i hc;simp only[Zaa]at h;subst h;have hde:∃desc,P.underlying e=some desc/\(b8 desc=true\/s.length=1):=by
      cases d with
      |zero=>simp[lp]at hs
      |succ d=>exact Cn hs
     obtain⟨de,hd,h1⟩:=hde;rw[hc.1]at h1;have:=Ao hd hi h1 hc.1 (λxs w=>Ap em d e s de hs hd xs w) xs n 0 w (by simpa using hx);simp only[zP,b8,if_true];rw[Instr.checkKey];simp only[Sem.run_bind,run_underlying hu,Result.andThen_ok,Std.Legacy.Range.forIn_eq_forIn_range',Std.Legacy.Range.size,Zcb,Zcz,Nat.div_one];refine(congrArg (λr=>Result.andThen r _) this).trans ?_;rfl
    ·cases h
   ·cases h
  all_goals exact Zar h (by simp)
def cu:T->aK
 |.agg as=>as
 |t=>[t]
def kM{t:T}(h:eM cj agg t):eL cj (cu t):=by
 cases t<;>simp only[eM]at h<;>exact h.2
def Aq{desc:TypeDesc}{t:T}{x:Value}(h:eM cj (b8 desc) t)(hr:bj w W' t x):∃vs,x=zP desc vs/\bf w W' (cu t) vs:=by
 cases t with
 |agg as=>
  simp only[eM]at h;simp only[bj]at hr;obtain⟨vs,rfl,hr⟩:=hr;exact⟨vs.toList,by simp[zP,h.1],hr⟩
 |_=>
  simp only[eM]at h;refine⟨[x],by simp[zP,h.1], ?_⟩;simp only[cu,bf];obtain⟨s,rfl,hs⟩:=oF h.2;refine⟨x,[],rfl, ?_,hr,rfl⟩;cases s<;>first|exact Zar hs ZaL|(simp only[bj]at hr;subst hr;rfl)
def D5{t u:T}(h:eM cj agg t)(k:eM cj agg u):gO t u=tl (cu t) (cu u):=by
 cases t with
 |agg as=>
  cases u with
  |agg bs=>rfl
  |_=>simp only[eM]at h k;rw[h.1]at k;exact Zar k.1 (by simp)
 |_=>
  cases u with
  |agg bs=>simp only[eM]at h k;rw[k.1]at h;exact Zar h.1 (by simp)
  |_=>simp[cu,tl]
def YB{s:Sh}{t u:T}(ht:HI s t=true)(hu:HI s u=true)(h:gO t u=true):t=u:=by
 cases s<;>cases t<;>(first|exact Zar ht ZaL|skip)<;>cases u<;>(first|exact Zar hu ZaL|skip)
 ·simp only[gO,beq_iff_eq]at h;rw[h]
 ·simp only[HI,beq_iff_eq]at ht hu;simp only[gO,Zau]at h;subst ht hu h;rfl
 ·simp only[gO,Zau]at h;rw[h]
def GP:∀{cj:List Sh} {ts us:aK},eL cj ts->eL cj us->tl ts us=true->ts=us
 |[],ts,us,h1,h2,_=>by simp only[eL]at h1 h2;rw[h1,h2]
 |s::ss,[],_,h,_,_=>by simp[eL]at h
 |s::ss,_::_,[],_,h,_=>by simp[eL]at h
 |s::ss,t::ts,u::us,h1,h2,h=>by
  simp only[eL]at h1 h2;simp only[tl,Zam]at h;rw[YB h1.1 h2.1 h.1,GP h1.2 h2.2 h.2]
def QO{t u:T}(h:eM cj agg t)(k:eM cj agg u)(e:gO t u=true):t=u:=by
 have h1:=kM h;have k1:=kM k;rw[D5 h k]at e;have:=GP h1 k1 e;cases t with
 |agg as=>
  cases u with
  |agg bs=>simpa [cu]using this
  |_=>simp only[eM]at h k;rw[h.1]at k;exact Zar k.1 (by simp)
 |_=>
  cases u with
  |agg bs=>simp only[eM]at h k;rw[k.1]at h;exact Zar h.1 (by simp)
  |_=>exact(List.cons.inj this).1
def VS{k:TypeId}(hk:il P k=some (cj,agg)){t u:T}{x y:Value}(ht:eM cj agg t)(hu:eM cj agg u)(hx:bj w W' t x)(hy:bj w W' u y):
  (Op.equal k x y).run P w=.ok (gO t u) w:=by
 unfold il at hk;split at hk
 ·rename_i d s hd hs;simp only[Zaa,Zav]at hk;obtain⟨rfl,rfl⟩:=hk;obtain⟨vs,rfl,h1⟩:=Aq ht hx;obtain⟨us,rfl,h2⟩:=Aq hu hy;rw[D5 ht hu,Ab (kM ht) (kM hu) h1 h2];exact se 10000 k s d hs hd vs us w (jg (kM ht) h1) (jg (kM hu) h2)
 ·cases hk
def sy{k:TypeId}(hk:il P k=some (cj,agg)){t:T}{x:Value}(ht:eM cj agg t)(hx:bj w W' t x)(em:Bool):
  (Instr.checkKey em 10000 k x).run P w=.ok () w:=by
 unfold il at hk;split at hk
 ·rename_i d s hd hs;simp only[Zaa,Zav]at hk;obtain⟨rfl,rfl⟩:=hk;obtain⟨vs,rfl,h1⟩:=Aq ht hx;exact Ap em 10000 k s d hs hd vs w (jg (kM ht) h1)
 ·cases hk
def QP{t:T}{v:Value}(hk:eM cj agg t)(hr:bj w W' t v):
  (∀k a,v=.int k a->t=.int k a)/\(∀s,v=.string s->t=.str s)/\(∀b,v=.bool b->t=.bool b):=by
 have cZ:∀{x:T},eL cj [x]->(∀s,HI s x=false)->False:=λh1 h2=>by
  obtain⟨s,_,hs⟩:=oF h1;rw[h2]at hs;cases hs
 cases t with
 |agg as=>simp only[bj]at hr;obtain⟨_,rfl,_⟩:=hr;exact⟨λ_ _ e=>(by cases e),λ_ e=>(by cases e),λ_ e=>(by cases e)⟩
 |int k a=>simp only[bj]at hr;subst hr;exact⟨λ_ _ e=>(by cases e;rfl),λ_ e=>(by cases e),λ_ e=>(by cases e)⟩
 |str a=>simp only[bj]at hr;subst hr;exact⟨λ_ _ e=>(by cases e),λ_ e=>(by cases e;rfl),λ_ e=>(by cases e)⟩
 |bool a=>simp only[bj]at hr;subst hr;exact⟨λ_ _ e=>(by cases e),λ_ e=>(by cases e),λ_ e=>(by cases e;rfl)⟩
 |_=>exact(cZ hk.2 (λs=>by cases s<;>rfl)).elim
def kD(t:T)(es:List (Nat×T×DV))(xs:List MapEntry)(i:Nat):Option (Nat×Value):=
 match es.findIdx? λe=>gO t e.2.1 with
 |some j=>(xs[j]?).map λe=>(i+j,e.val)
 |none=>none
def yB(t:T)(e:Nat×T×DV)(es:List (Nat×T×DV))(x:MapEntry)(xs:List MapEntry)(i:Nat):kD t (e::es) (x::xs) i=if gO t e.2.1 then some (i,x.val)else kD t es xs (i+1):=by
 simp only[kD,Zbh];by_cases h:gO t e.2.1=true
 ·simp[h]
 ·simp only[h];cases List.findIdx? (λe=>gO t e.2.1) es with
  |none=>simp
  |some j=>simp[show i+1+j=i+(j+1)by omega]
def BH{k:TypeId}{cj:List Sh}{agg:Bool}(hk:il P k=some (cj,agg)){t:T}{x:Value}(ht:eM cj agg t)(hx:bj w (WW W ab L) t x):∀(es:List (Nat×T×DV)) (xs:List MapEntry) (i:Nat),bJ w W ab L es xs->(∀e∈es,eM cj agg e.2.1)->
  (Instr.findAsking k x xs i).run P w=.ok (kD t es xs i) w
 |[],xs,i,h,_=>by simp only[bJ]at h;subst h;simp[Instr.findAsking,kD]
 |e::es,xs,i,h,d0=>by
  simp only[bJ]at h;obtain⟨y,ys,rfl,_,h2,_,h4⟩:=h;have:=VS hk ht (d0 e (by simp)) hx h2;rw[yB];simp only[Instr.findAsking,Sem.run_bind,this,Result.andThen_ok];cases gO t e.2.1
  ·simpa using BH hk ht hx es ys (i+1) h4 λe he=>d0 e (by simp[he])
  ·simp
def BI{k:TypeId}{cj:List Sh}{d:TypeDesc}(hd:P.underlying k=some d)(hs:lp P 10000 k=some cj){t:T}{x:Value}(ht:eM cj (b8 d) t)(hx:bj w (WW W ab L) t x):∀(es:List (Nat×T×DV)) (xs:List MapEntry) (i:Nat),bJ w W ab L es xs->(∀e∈es,eM cj (b8 d) e.2.1)->
  Instr.findNow d x xs i=some (kD t es xs i)\/Instr.findNow d x xs i=none
 |[],xs,i,h,_=>by simp only[bJ]at h;subst h;simp[Instr.findNow,kD]
 |e::es,xs,i,h,d0=>by
  simp only[bJ]at h;obtain⟨y,ys,rfl,_,h2,_,h4⟩:=h;rw[yB];simp only[Instr.findNow];cases YC:Instr.sameNow d x y.key with
  |none=>right;rfl
  |some r=>
   have hr:r=gO t e.2.1:=by
    have lx:=QP ht hx;have ly:=QP (d0 e (by simp)) h2;unfold Instr.sameNow at YC;split at YC
    ·rename_i k1 a1 k2 a2 e2;split at YC
     ·rename_i hkk;subst hkk;simp only[Zaa]at YC;rw[lx.1 _ _ rfl,ly.1 _ _ e2,<-YC];simp only[gO];by_cases h:a1=a2<;>simp[h]
     ·cases YC
    ·rename_i a1 a2 e2;simp only[Zaa]at YC;rw[lx.2.1 _ rfl,ly.2.1 _ e2,<-YC];simp only[gO];by_cases h:a1=a2
     ·subst h;obtain⟨x⟩:=a1;simp only[decide_true];exact(show(x==x)=true by simp)
     ·simp only[h,decide_false];cases hb:a1==a2 with
      |false=>rfl
      |true=>exact Zar (by
        obtain⟨x⟩:=a1;obtain⟨y⟩:=a2;have e:x=y:=by simpa using(show(x==y)=true from hb)
        rw[e]) h
    ·rename_i a1 a2 e2;simp only[Zaa]at YC;rw[lx.2.2 _ rfl,ly.2.2 _ e2,<-YC];rfl
    ·cases YC
   subst hr;cases gO t e.2.1
   ·exact BI hd hs ht hx es ys (i+1) h4 λe he=>d0 e (by simp[he])
   ·simp
def vt{k:TypeId}(hk:il P k=some (cj,agg)){t:T}{x:Value}(ht:eM cj agg t)(hx:bj w (WW W ab L) t x){xs:List MapEntry}(h:bJ w W ab L es xs)(d0:∀e∈es,eM cj agg e.2.1):
  (Instr.findKey k x xs).run P w=.ok (kD t es xs 0) w:=by
 have ha:=BH hk ht hx es xs 0 h d0;unfold il at hk;split at hk
 ·rename_i d s hd hs;simp only[Zaa,Zav]at hk;obtain⟨rfl,rfl⟩:=hk;unfold Instr.findKey;simp only[Sem.run_bind,run_underlying hd,Result.andThen_ok];rcases BI hd hs ht hx es xs 0 h d0 with h1|h1
  ·rw[h1];simp
  ·rw[h1];exact ha
 ·cases hk
def bJ.length:∀{es:List (Nat×T×DV)} {xs:List MapEntry},bJ w W ab L es xs->xs.length=es.length
 |[],_,h=>by simp only[bJ]at h;simp[h]
 |e::es,_,h=>by
  simp only[bJ]at h;obtain⟨x,lz,rfl,_,_,_,h4⟩:=h;simp[bJ.length h4]
def bJ.get:∀{es:List (Nat×T×DV)} {xs:List MapEntry} {i:Nat} {e:Nat×T×DV},bJ w W ab L es xs->es[i]? =some e->∃x,xs[i]? =some x/\x.born=e.1/\bj w (WW W ab L) e.2.1 x.key/\aA w W ab L e.2.2 x.val
 |[],_,_,_,_,h=>by simp at h
 |e::es,_,0,_,hr,h=>by
  simp only[bJ]at hr;obtain⟨x,lz,rfl,h1,h2,h3,_⟩:=hr;simp only[ZaF,Zaa]at h;subst h;exact⟨x,rfl,h1,h2,h3⟩
 |e::es,_,i+1,_,hr,h=>by
  simp only[bJ]at hr;obtain⟨x,lz,rfl,_,_,_,h4⟩:=hr;simpa using bJ.get h4 (by simpa using h)
def bJ.append:∀{es m0:List (Nat×T×DV)} {xs lz:List MapEntry},bJ w W ab L es xs->bJ w W ab L m0 lz->bJ w W ab L (es++m0) (xs++lz)
 |[],_,_,_,h,k=>by simp only[bJ]at h;subst h;simpa using k
 |e::es,_,_,_,h,k=>by
  simp only[bJ]at h;obtain⟨x,xs1,rfl,h1,h2,h3,h4⟩:=h;simp only[ZaM,bJ];exact⟨x,_,rfl,h1,h2,h3,bJ.append h4 k⟩
def bJ.modify{y:DV}{v:Value}(hy:aA w W ab L y v):∀{es:List (Nat×T×DV)} {xs:List MapEntry} (i:Nat),bJ w W ab L es xs->bJ w W ab L (es.modify i λe=>(e.1,e.2.1,y)) (xs.modify i λe=>{e with val:=v})
 |[],_,i,h=>by simp only[bJ]at h;subst h;simp[bJ]
 |e::es,_,0,h=>by
  simp only[bJ]at h;obtain⟨x,xs1,rfl,h1,h2,h3,h4⟩:=h;simp only[Zco,bJ];exact⟨_,_,rfl,h1,h2,hy,h4⟩
 |e::es,_,i+1,h=>by
  simp only[bJ]at h;obtain⟨x,xs1,rfl,h1,h2,h3,h4⟩:=h;simp only[Zb4,bJ];exact⟨_,_,rfl,h1,h2,h3,bJ.modify hy i h4⟩
def bJ.erase:∀{es:List (Nat×T×DV)} {xs:List MapEntry} (i:Nat),bJ w W ab L es xs->bJ w W ab L (es.eraseIdx i) (xs.eraseIdx i)
 |[],_,i,h=>by simp only[bJ]at h;subst h;simp[bJ]
 |e::es,_,0,h=>by
  simp only[bJ]at h;obtain⟨x,xs1,rfl,h1,h2,h3,h4⟩:=h;simpa using h4
 |e::es,_,i+1,h=>by
  simp only[bJ]at h;obtain⟨x,xs1,rfl,h1,h2,h3,h4⟩:=h;simp only[List.eraseIdx_cons_succ,bJ];exact⟨_,_,rfl,h1,h2,h3,bJ.erase i h4⟩
def yC{d:DV}{x:Value}{t:T}(h:aA w W ab L d x)(hk:zV d=some t):bj w (WW W ab L) t x:=by
 cases d with
 |v t'=>simp only[zV,Zaa]at hk;subst hk;simpa only[aA]using h
 |agg cs=>
  simp only[zV,Zac]at hk;obtain⟨ts,Kr,rfl⟩:=hk;simp only[aA]at h;obtain⟨vs,rfl,hr⟩:=h;simp only[bj];refine⟨vs,rfl, ?_⟩;have key:∀(cs:bB) (ts:aK) (vs:List Value),NW cs=some ts->aQ w W ab L cs vs->bf w (WW W ab L) ts vs:=by
   intro cs;induction cs with
   |nil=>intro ts vs h1 h2;simp only[NW,Zaa]at h1;subst h1;simpa [aQ,bf]using h2
   |cons c cs ih=>
    intro ts vs h1 h2;cases c with
    |v u=>
     simp only[NW,Zac]at h1;obtain⟨us,VT,rfl⟩:=h1;simp only[aQ]at h2;obtain⟨y,ys,rfl,k1,k2,k3⟩:=h2;simp only[bf];exact⟨y,ys,rfl,k1,by simpa only[aA]using k2,ih us ys VT k3⟩
    |_=>simp[NW]at h1
  exact key cs ts _ Kr hr
 |_=>simp[zV]at hk
def Obj.noRow:Obj->Prop
 |.cells _ _ _=>False
 |_=>True
def ba_beq(s:ByteArray):(s==s)=true:=by
 obtain⟨x⟩:=s;exact(show(x==x)=true by simp)
def gp{b:Nat}{x:Obj}(h:w.heap[b]? =some x)(hx:Obj.noRow x):(getObj b).run P w=.ok x w:=by
 cases x<;>first|exact hx.elim|simp[getObj,Sem.run,h]
def _root_.Go.World.gT(w:World)(b:Nat)(x:Obj):World:={w with heap:=w.heap.setIfInBounds b x}
def pi{b:Nat}{x y:Obj}(h:w.heap[b]? =some x)(hx:Obj.noRow x):(setObj b y).run P w=.ok () (w.gT b y):=by
 cases x<;>first|exact hx.elim|simp[setObj,Sem.run,h,World.gT]
def BJ{b:Nat}{x y:Obj}(h:w.heap[b]? =some x):(w.gT b y).heap[b]? =some y:=by
 have hlt:b<w.heap.size:=(Zap.1 h).1;simp[World.gT,hlt]
def sA{b k:Nat}{y:Obj}(h:k≠b):(w.gT b y).heap[k]? =w.heap[k]? :=by simp[World.gT,Ne.symm h]
def uF{b:Nat}{y:Obj}:(w.gT b y).heap.size=w.heap.size:=by simp[World.gT]
def GQ{g:Nat}(x:Obj)(h:Fr base M w0 w)(hg:base<=g\/M g):Fr base M w0 (w.gT g x):=
 ⟨h.os,h.tape,h.output,h.jq,by rw[uF];exact h.size,λk hk hm=>by
  rw[sA (by
    rintro rfl;rcases hg with h1|h1;·omega
    exact hm h1)]
  exact h.block k hk hm,h.drawn⟩
def sC(hO:ct base W M w0 ab w L){r c c':Nat}{kq:List Sh}{kr:Bool}{m0:List (Nat×T×DV)}(hc:ab r=some (.map cj agg c es)){D6:Array MapEntry}
  (hr:bJ w W ab L m0 D6.toList) (h1:∀e∈m0,eM kq kr e.2.1) (h2:∀e∈m0,e.1<c') (h3:(m0.map (·.1)).Nodup):
  ct base W M w0 (cG ab (some (r,.map kq kr c' m0))) (w.gT (L.blk r) (.map D6 c')) L/\gP W ab L w (cG ab (some (r,.map kq kr c' m0))) L (w.gT (L.blk r) (.map D6 c')):=by
 obtain⟨arr,hh,_,_,_,_,hm⟩:=hO.ob r _ hc;refine ct.put hO (GQ _ hO.fr hm) (by rw[uF];exact Zaf _) (λ_ _=>⟨rfl,rfl⟩) rfl (λb _ hb=>sA (λx=>hb _ hc (by simp[Loc.own,x])))
  (λb hb=>.inl ⟨_,hc,hb⟩) (λo' iA _=>by rw[hc]at iA;cases iA;exact⟨rfl,rfl⟩) (λbD e sz av h=>by rw[hc]at h;cases h) (λeZ=>?_)
 exact⟨D6,BJ hh,bJ.eZ eZ _ _ hr,h1,h2,h3,hm⟩
def qD:∀{cj:List Sh} {ts:aK} {vs:List Value} {W':fo} (n:Nat),eL cj ts->bf w W' ts vs->(vs.zip vs).all (λx=>Instr.sameBits n x.1 x.2)=true
 |[],ts,vs,W',n,h,hr=>by simp only[eL]at h;subst h;simp only[bf]at hr;subst hr;rfl
 |s::ss,[],_,_,_,h,_=>by simp[eL]at h
 |s::ss,t::ts,vs,W',n,h,hr=>by
  simp only[eL]at h;simp only[bf]at hr;obtain⟨v,vs',rfl,_,h1,h2⟩:=hr;simp only[List.zip_cons_cons,ZcG,Zam];refine⟨?_,qD n h.2 h2⟩;have hs:=h.1;cases s<;>cases t<;>first|exact Zar hs ZaL|skip
  all_goals (simp only[bj]at h1;subst h1;cases n<;>simp[Instr.sameBits,ba_beq])
def KW{t:T}{x:Value}(h:eM cj agg t)(hr:bj w W' t x):Instr.sameBits 10000 x x=true:=by
 cases t with
 |agg as=>
  simp only[eM]at h;simp only[bj]at hr;obtain⟨vs,rfl,hr⟩:=hr;simp only[Instr.sameBits,beq_self_eq_true,ZcF];exact qD 9999 h.2 hr
 |_=>
  simp only[eM]at h;obtain⟨s,rfl,hs⟩:=oF h.2;have h1:x.oneCell'=true:=by cases s<;>first|exact Zar hs ZaL|(simp only[bj]at hr;subst hr;rfl)
  have:=qD (w:=w) (W':=W') 10000 h.2 (vs:=[x]) (by simp only[bf];exact⟨x,[],rfl,h1,hr,rfl⟩);simpa using this
def GR:∀{cj:List Sh} {ts:aK} {vs us:List Value} {W':fo},eL cj ts->bf w W' ts vs->bf w W' ts us->vs=us
 |[],ts,vs,us,W',h,h1,h2=>by simp only[eL]at h;subst h;simp only[bf]at h1 h2;rw[h1,h2]
 |s::ss,[],_,_,_,h,_,_=>by simp[eL]at h
 |s::ss,t::ts,vs,us,W',h,h1,h2=>by
  simp only[eL]at h;simp only[bf]at h1 h2;obtain⟨v,vs',rfl,_,k1,k2⟩:=h1;obtain⟨u,us',rfl,_,l1,l2⟩:=h2;have hs:=h.1;rw[GR h.2 k2 l2]
  congr 1
  cases s<;>cases t<;>first|exact Zar hs ZaL|skip
  all_goals (simp only[bj]at k1 l1;rw[k1,l1])
def QQ{t:T}{x y:Value}(h:eM cj agg t)(hx:bj w W' t x)(hy:bj w W' t y):x=y:=by
 cases t with
 |agg as=>
  simp only[eM]at h;simp only[bj]at hx hy;obtain⟨vs,rfl,hx⟩:=hx;obtain⟨us,rfl,hy⟩:=hy;have:=GR h.2 hx hy;rw[Array.toList_inj.1 this]
 |_=>
  simp only[eM]at h;obtain⟨s,rfl,hs⟩:=oF h.2;cases s<;>first|exact Zar hs ZaL|(simp only[bj]at hx hy;rw[hx,hy])
end
end
section
variable{et kt yt:TypeId}{z d1 d2 d3 d:DV}{es:List (Nat×T×DV)}{cj:List Sh}{agg neg:Bool}{xs:List MapEntry}{name:Nat}{op:BinOp}{y':bQ}
variable [bI]
section
variable{P:Program}{base:Nat}{W M:fo}{w0:World}{ab:bq}{L:Loc}{w:World}{a:Act}{o:Oper}
def GS(h:GD P et=some z):∃zv,(zeroValue et).run P w=.ok zv w/\aA w W ab L z zv:=by
 unfold GD at h;simp only[Zaj,Zad]at h;obtain⟨i,hi,zv,hz,h⟩:=h;refine⟨zv,by simp[zeroValue,typeInfo,hi,hz], ?_⟩;split at h
 ·rename_i cs;simp only[Zac]at h;obtain⟨ds,hds,rfl⟩:=h;simp only[aA];exact⟨cs,rfl,iR hds⟩
 ·exact(wE h).1
def yD(t:T)(es:List (Nat×T×DV)):qP t es=(es.findIdx? λe=>gO t e.2.1).bind (es[·]?):=by
 unfold qP;induction es with
 |nil=>rfl
 |cons e es ih=>
  simp only[Za6,Zbh];by_cases h:gO t e.2.1=true
  ·simp[h]
  ·simp only[h,ih];cases List.findIdx? (λe=>gO t e.2.1) es<;>simp
def In{t:T}{i:Nat}(h:(es.findIdx? λe=>gO t e.2.1)=some i):∃e,es[i]? =some e/\gO t e.2.1=true:=by
 induction es generalizing i with
 |nil=>simp at h
 |cons e es ih=>
  simp only[Zbh]at h;by_cases he:gO t e.2.1=true
  ·simp only[he,if_true,Zaa]at h;subst h;exact⟨e,rfl,he⟩
  ·rw[Zab he,Zac]at h;obtain⟨j,hj,rfl⟩:=h;simpa using ih hj
def HW(hO:ct base W M w0 ab w L){t:TypeId}{x k:Operand}{ok:Bool}(ho:o.op=.lookup t x k ok)(ht:P.underlying t=some (.map kt et))(hk:il P kt=some (cj,agg))(hz:GD P et=some z)
   (h1:aA w W ab L d1 (a.eval x)) (h2:aA w W ab L d2 (a.eval k)) (hok:(mw cj agg z ok ab d1 d2).ok):cH P base W M w0 ab L w a o (mw cj agg z ok ab d1 d2):=by
 unfold mw at hok⊢;split at hok
 ·rename_i r YD YE;cases hc:ab r with
  |none=>simp[hc,cZ]at hok
  |some ob=>
   cases ob with
   |map kq kr c es=>
    simp only[hc]at hok⊢;obtain⟨rfl,rfl,pN⟩:=hok;simp only[aA]at h1;obtain⟨_,hx⟩:=h1;have yE:=yC h2 YE;obtain⟨arr,hh,pP,d0,_,_,_⟩:=hO.ob r _ hc;have Cy:=λem=>sy (P:=P) (w:=w) hk pN yE em;have hf:=vt (P:=P) hk pN yE pP d0;have hg:=gp (P:=P) hh trivial;simp only[YE];rw[yD];unfold kD at hf;cases hi:es.findIdx? (λe=>gO YD e.2.1)with
    |none=>
     simp only[hi]at hf;obtain⟨zv,hzr,hzd⟩:=GS (P:=P) (w:=w) (W:=W) (ab:=ab) (L:=L) hz;simp only[Option.bind_none];have bW:(Instr.lookup t (.map (some (L.blk r))) (a.eval k) ok).run P w=.ok (if ok then .tuple #[zv,.bool false]else zv) w:=by
      simp[Instr.lookup,run_underlying ht,hg,Cy,hf,hzr]
     refine cH.lJ hO rfl (v:=if ok then .tuple #[zv,.bool false]else zv) (by simp[execOp,ho,hx,bW]) ?_;cases ok
     ·simpa using hzd
     ·simp only[if_true,aA];exact⟨_,rfl,by simp only[eE];exact⟨zv,_,rfl,hzd,.bool false,[],rfl,by simp[aA,bj],rfl⟩⟩
    |some i=>
     obtain⟨e,he,hq⟩:=In hi;obtain⟨xe,F5,_,_,hv⟩:=bJ.get pP he;simp only[hi,F5,Za8]at hf;simp only[Zcr,he];have bW:(Instr.lookup t (.map (some (L.blk r))) (a.eval k) ok).run P w=.ok (if ok then .tuple #[xe.val,.bool true]else xe.val) w:=by
      simp[Instr.lookup,run_underlying ht,hg,Cy,hf]
     refine cH.lJ hO rfl (v:=if ok then .tuple #[xe.val,.bool true]else xe.val) (by simp[execOp,ho,hx,bW]) ?_;cases ok
     ·simpa using hv
     ·simp only[if_true,aA];exact⟨_,rfl,by simp only[eE];exact⟨xe.val,_,rfl,hv,.bool true,[],rfl,by simp[aA,bj],rfl⟩⟩
   |_=>simp[hc,cZ]at hok
 ·exact hok.elim
def yF{y:DV}(i:Nat):(es.modify i λe=>(e.1,e.2.1,y)).map (·.1)=es.map (·.1):=by
 induction es generalizing i with
 |nil=>simp
 |cons e es ih=>cases i<;>simp[ih]
def p7{y:DV}(i:Nat){e:Nat×T×DV}(h:e∈es.modify i λe=>(e.1,e.2.1,y)):∃e'∈es,e.1=e'.1/\e.2.1=e'.2.1:=by
 induction es generalizing i with
 |nil=>simp at h
 |cons e0 es ih=>
  cases i with
  |zero=>
   simp only[Zco,Zah]at h;rcases h with rfl|h
   ·exact⟨e0,by simp,rfl,rfl⟩
   ·exact⟨e,by simp[h],rfl,rfl⟩
  |succ i=>
   simp only[Zb4,Zah]at h;rcases h with rfl|h
   ·exact⟨e,by simp,rfl,rfl⟩
   ·obtain⟨e',h1,h2⟩:=ih i h;exact⟨e',by simp[h1],h2⟩
def OD{es:List (Nat×T×DV)}{i:Nat}{v key:Value}{x:MapEntry}(hx:xs[i]? =some x)(hk:x.key=key):(xs.modify i λe=>{e with key:=key,val:=v})=xs.modify i λe=>{e with val:=v}:=by
 induction xs generalizing i with
 |nil=>simp
 |cons y ys ih=>
  cases i with
  |zero=>
   simp only[ZaF,Zaa]at hx;subst hx hk;simp
  |succ i=>
   simp only[Zb4,Za1,true_and];exact ih (by simpa using hx)
def HX(hO:ct base W M w0 ab w L){t:TypeId}{x k y:Operand}(ho:o.op=.mapUpdate t x k y)(ht:P.underlying t=some (.map kt et))(hk:il P kt=some (cj,agg))
   (h1:aA w W ab L d1 (a.eval x)) (h2:aA w W ab L d2 (a.eval k)) (h3:aA w W ab L d3 (a.eval y)) (hok:(ja cj agg ab d1 d2 d3).ok):cH P base W M w0 ab L w a o (ja cj agg ab d1 d2 d3):=by
 unfold ja at hok⊢;split at hok
 ·rename_i r YD YE;cases hc:ab r with
  |none=>simp[hc,cZ]at hok
  |some ob=>
   cases ob with
   |map kq kr c es=>
    simp only[hc]at hok⊢;obtain⟨rfl,rfl,pN,hb⟩:=hok;simp only[aA]at h1;obtain⟨_,hx⟩:=h1;have yE:=yC h2 YE;obtain⟨arr,hh,pP,d0,hlt,yd,hm⟩:=hO.ob r _ hc;have Cy:=λem=>sy (P:=P) (w:=w) hk pN yE em;have hf:=vt (P:=P) hk pN yE pP d0;have hg:=gp (P:=P) hh trivial;have hs:=λy=>pi (P:=P) (y:=y) hh trivial;simp only[YE];unfold kD at hf;unfold HJ oR;cases hi:es.findIdx? (λe=>gO YD e.2.1)with
    |none=>
     simp only[hi]at hf;simp only;have bW:(Instr.mapUpdate t (.map (some (L.blk r))) (a.eval k) (a.eval y)).run P w=.ok () (w.gT (L.blk r) (.map (arr.push {key:=a.eval k,val:=a.eval y,born:=c}) (c+1))):=by
      simp[Instr.mapUpdate,run_underlying ht,hg,Cy,hf,hs]
     have:=sC hO hc (kq:=kq) (kr:=kr) (c':=c+1) (m0:=es++[(c,YD,d3)]) (D6:=arr.push {key:=a.eval k,val:=a.eval y,born:=c})
      (by rw[Array.toList_push];exact bJ.append pP (by simp only[bJ];exact⟨_,_,rfl,rfl,yE,h3,rfl⟩))
      (λe he=>by
        rcases Zaq.1 he with he|he;·exact d0 e he
        ·simp only[Zan]at he;subst he;exact pN)
      (λe he=>by
        rcases Zaq.1 he with he|he;·have:=hlt e he;omega
        ·simp only[Zan]at he;subst he;simp)
      (by rw[ZaZ,Zb7];exact⟨yd,by simp,λb hb b2 fH=>by
         simp only[ZaA,ZbL,Zan]at fH;obtain⟨e,he,rfl⟩:=Zak.1 hb;have:=hlt e he;omega⟩)
     exact⟨.skip,Go.undef,_,L,by simp[execOp,ho,hx,bW],.inr ⟨rfl,rfl⟩,this.1,this.2,by simp[aA]⟩
    |some i=>
     obtain⟨e,he,hq⟩:=In hi;obtain⟨xe,F5,_,hxk,hv⟩:=bJ.get pP he;simp only[hi,F5,Za8]at hf;have hte:YD=e.2.1:=QO pN (d0 e (Zax he)) hq;have OE:xe.key=a.eval k:=QQ pN (by rw[hte];exact hxk) yE;have hkts:(Instr.keyThatStays xe.key (a.eval k)).run P w=.ok (a.eval k) w:=by
      rw[OE];simp[Instr.keyThatStays,KW pN yE]
     have hai:arr[i]? =some xe:=by simpa using F5
     have bW:(Instr.mapUpdate t (.map (some (L.blk r))) (a.eval k) (a.eval y)).run P w=.ok () (w.gT (L.blk r) (.map (arr.modify i λe=>{e with key:=a.eval k,val:=a.eval y}) c)):=by
      simp[Instr.mapUpdate,run_underlying ht,hg,Cy,hf,hs,hai,hkts]
     have B6:(arr.modify i λe=>{e with key:=a.eval k,val:=a.eval y}).toList=arr.toList.modify i λe=>{e with val:=a.eval y}:=by
      rw[ZcQ];exact OD (es:=es) (by simpa using hai) OE
     simp only;have:=sC hO hc (kq:=kq) (kr:=kr) (c':=c) (m0:=es.modify i λe=>(e.1,e.2.1,d3)) (D6:=arr.modify i λe=>{e with key:=a.eval k,val:=a.eval y})
      (by rw[B6];exact bJ.modify h3 i pP)
      (λe he=>by obtain⟨e',h1,_,h2⟩:=p7 i he;rw[h2];exact d0 e' h1)
      (λe he=>by obtain⟨e',h1,h2,_⟩:=p7 i he;rw[h2];exact hlt e' h1)
      (by rw[yF];exact yd)
     exact⟨.skip,Go.undef,_,L,by simp[execOp,ho,hx,bW],.inr ⟨rfl,rfl⟩,this.1,this.2,by simp[aA]⟩
   |_=>simp[hc,cZ]at hok
 ·exact hok.elim
def HY(hO:ct base W M w0 ab w L){t:TypeId}{x k:Operand}(ho:o.op=.mapEntry t x k)(ht:P.underlying t=some (.map kt et))(hk:il P kt=some (cj,agg))(hz:GD P et=some z)
   (h1:aA w W ab L d1 (a.eval x)) (h2:aA w W ab L d2 (a.eval k)) (hok:(jd cj agg z ab d1 d2).ok):cH P base W M w0 ab L w a o (jd cj agg z ab d1 d2):=by
 unfold jd at hok⊢;split at hok
 ·rename_i r YD YE;cases hc:ab r with
  |none=>simp[hc,cZ]at hok
  |some ob=>
   cases ob with
   |map kq kr c es=>
    simp only[hc]at hok⊢;obtain⟨rfl,rfl,pN⟩:=hok;simp only[aA]at h1;obtain⟨_,hx⟩:=h1;have yE:=yC h2 YE;obtain⟨arr,hh,pP,d0,hlt,yd,hm⟩:=hO.ob r _ hc;have Cy:=λem=>sy (P:=P) (w:=w) hk pN yE em;have hf:=vt (P:=P) hk pN yE pP d0;have hg:=gp (P:=P) hh trivial;have hs:=λy=>pi (P:=P) (y:=y) hh trivial;simp only[YE];unfold entV;rw[yD];unfold kD at hf;unfold entE oR;cases hi:es.findIdx? (λe=>gO YD e.2.1)with
    |none=>
     simp only[hi]at hf;obtain⟨zv,hzr,hzd⟩:=GS (P:=P) (w:=w) (W:=W) (ab:=ab) (L:=L) hz;simp only[Option.bind_none];have bW:(Instr.mapEntry t (.map (some (L.blk r))) (a.eval k)).run P w=.ok (.tuple #[zv,goInt c]) (w.gT (L.blk r) (.map (arr.push {key:=a.eval k,val:=zv,born:=c}) (c+1))):=by
      simp[Instr.mapEntry,run_underlying ht,hg,Cy,hf,hs,hzr]
     have:=sC hO hc (kq:=kq) (kr:=kr) (c':=c+1) (m0:=es++[(c,YD,z)]) (D6:=arr.push {key:=a.eval k,val:=zv,born:=c})
      (by rw[Array.toList_push];exact bJ.append pP (by simp only[bJ];exact⟨_,_,rfl,rfl,yE,hzd,rfl⟩))
      (λe he=>by
        rcases Zaq.1 he with he|he;·exact d0 e he
        ·simp only[Zan]at he;subst he;exact pN)
      (λe he=>by
        rcases Zaq.1 he with he|he;·have:=hlt e he;omega
        ·simp only[Zan]at he;subst he;simp)
      (by rw[ZaZ,Zb7];exact⟨yd,by simp,λb hb b2 fH=>by
         simp only[ZaA,ZbL,Zan]at fH;obtain⟨e,he,rfl⟩:=Zak.1 hb;have:=hlt e he;omega⟩)
     refine⟨.value (.tuple #[zv,goInt c]),.tuple #[zv,goInt c],_,L,by simp[execOp,ho,hx,bW],.inl rfl,this.1,this.2, ?_⟩;have hz2:=aA.eZ this.2 _ _ hzd;simp only[aA];exact⟨_,rfl,by simp only[eE];exact⟨zv,_,rfl,hz2,goInt c,[],rfl,by simp[aA,bj,goInt],rfl⟩⟩
    |some i=>
     obtain⟨e,he,hq⟩:=In hi;obtain⟨xe,F5,NG,hxk,hv⟩:=bJ.get pP he;simp only[hi,F5,Za8]at hf;have hte:YD=e.2.1:=QO pN (d0 e (Zax he)) hq;have OE:xe.key=a.eval k:=QQ pN (by rw[hte];exact hxk) yE;have hkts:(Instr.keyThatStays xe.key (a.eval k)).run P w=.ok (a.eval k) w:=by
      rw[OE];simp[Instr.keyThatStays,KW pN yE]
     have hai:arr[i]? =some xe:=by simpa using F5
     have B6:(arr.modify i λe=>{e with key:=a.eval k}).toList=arr.toList:=by
      rw[ZcQ];apply ZbN;intro j;rw[List.getElem?_modify];split
      ·rename_i hj;subst hj;rw[F5];simp[<-OE]
      ·simp
     have bW:(Instr.mapEntry t (.map (some (L.blk r))) (a.eval k)).run P w=.ok (.tuple #[xe.val,goInt xe.born]) (w.gT (L.blk r) (.map (arr.modify i λe=>{e with key:=a.eval k}) c)):=by
      simp[Instr.mapEntry,run_underlying ht,hg,Cy,hf,hs,hai,hkts]
     have:=sC hO hc (kq:=kq) (kr:=kr) (c':=c) (m0:=es) (D6:=arr.modify i λe=>{e with key:=a.eval k})
      (by rw[B6];exact pP) d0 hlt yd
     simp only[Zcr,he];refine⟨.value (.tuple #[xe.val,goInt xe.born]),.tuple #[xe.val,goInt xe.born],_,L,by simp[execOp,ho,hx,bW],.inl rfl,this.1,this.2, ?_⟩;have hz2:=aA.eZ this.2 _ _ hv;simp only[aA];exact⟨_,rfl,by simp only[eE];exact⟨xe.val,_,rfl,hz2,goInt xe.born,[],rfl,by simp[aA,bj,goInt,NG],rfl⟩⟩
   |_=>simp[hc,cZ]at hok
 ·exact hok.elim
def YF{b:Int}(h:bJ w W ab L es xs):xs.findIdx? (λe=>(e.born:Int)==b)=es.findIdx? (λe=>(e.1:Int)==b):=by
 induction es generalizing xs with
 |nil=>simp only[bJ]at h;subst h;rfl
 |cons e es ih=>
  simp only[bJ]at h;obtain⟨x,lz,rfl,hb,_,_,hr⟩:=h;simp only[Zbh,ih hr,hb]
def KA(hO:ct base W M w0 ab w L){t:TypeId}{x s y:Operand}(ho:o.op=.entryStore t x s y)
   (h1:aA w W ab L d1 (a.eval x)) (h2:aA w W ab L d2 (a.eval s)) (h3:aA w W ab L d3 (a.eval y)) (hok:(ku ab d1 d2 d3).ok):cH P base W M w0 ab L w a o (ku ab d1 d2 d3):=by
 unfold ku at hok⊢;split at hok
 ·rename_i r kk b;cases hc:ab r with
  |none=>simp[hc,cZ]at hok
  |some ob=>
   cases ob with
   |map cj agg c es=>
    simp only[hc]at hok⊢;simp only[aA,bj]at h1 h2;obtain⟨_,hx⟩:=h1;obtain⟨arr,hh,pP,d0,hlt,yd,hm⟩:=hO.ob r _ hc;have hg:=gp (P:=P) hh trivial;have hs:=λy=>pi (P:=P) (y:=y) hh trivial;unfold setB at hok⊢;cases hi:es.findIdx? (λe=>(e.1:Int)==b)with
    |none=>simp[hi,cZ]at hok
    |some i=>
     simp only[Za8];have hbi:=(YF (b:=b) pP).trans hi;have hbi':arr.findIdx? (λe=>(e.born:Int)==b)=some i:=by rw[<-hbi];cases arr;simp
     have bW:(Instr.entryStore t (.map (some (L.blk r))) (.int kk b) (a.eval y)).run P w=.ok () (w.gT (L.blk r) (.map (arr.modify i λe=>{e with val:=a.eval y}) c)):=by
      simp[Instr.entryStore,hg,hs,asInt,asIntOf,hbi']
     have:=sC hO hc (kq:=cj) (kr:=agg) (c':=c) (m0:=es.modify i λe=>(e.1,e.2.1,d3)) (D6:=arr.modify i λe=>{e with val:=a.eval y})
      (by rw[ZcQ];exact bJ.modify h3 i pP)
      (λe he=>by obtain⟨e',h1,_,h2⟩:=p7 i he;rw[h2];exact d0 e' h1)
      (λe he=>by obtain⟨e',h1,h2,_⟩:=p7 i he;rw[h2];exact hlt e' h1)
      (by rw[yF];exact yd)
     exact⟨.skip,Go.undef,_,L,by simp[execOp,ho,hx,h2,bW],.inr ⟨rfl,rfl⟩,this.1,this.2,by simp[aA]⟩
   |_=>simp[hc,cZ]at hok
 ·exact hok.elim
def H1(hO:ct base W M w0 ab w L){t:TypeId}{x k:Operand}{ts:Array TypeId}(Kr:ts[0]? =some t)(ho:o.op=.call {callee:=.builtin .delete,args:= #[x,k],argTypes:=ts})(ht:P.underlying t=some (.map kt et))(hk:il P kt=some (cj,agg))
   (h1:aA w W ab L d1 (a.eval x)) (h2:aA w W ab L d2 (a.eval k)) (hok:(je cj agg ab d1 d2).ok):cH P base W M w0 ab L w a o (je cj agg ab d1 d2):=by
 unfold je at hok⊢;split at hok
 ·rename_i r YD YE;cases hc:ab r with
  |none=>simp[hc,cZ]at hok
  |some ob=>
   cases ob with
   |map kq kr c es=>
    simp only[hc]at hok⊢;obtain⟨rfl,rfl,pN⟩:=hok;simp only[aA]at h1;obtain⟨_,hx⟩:=h1;have yE:=yC h2 YE;obtain⟨arr,hh,pP,d0,hlt,yd,hm⟩:=hO.ob r _ hc;have Cy:=λem=>sy (P:=P) (w:=w) hk pN yE em;have hf:=vt (P:=P) hk pN yE pP d0;have hg:=gp (P:=P) hh trivial;have hs:=λy=>pi (P:=P) (y:=y) hh trivial;simp only[YE];unfold kD at hf;unfold delE;cases hi:es.findIdx? (λe=>gO YD e.2.1)with
    |none=>
     simp only[hi]at hf;simp only;have:=sC hO hc (kq:=kq) (kr:=kr) (c':=c) (m0:=es) (D6:=arr) pP d0 hlt yd;refine⟨.value (.tuple #[]),.tuple #[],_,L, ?_,.inl rfl,this.1,this.2,by simp only[aA,bj,fN];exact⟨_,rfl,rfl⟩⟩;simp[execOp,ho,resolve,invoke,builtin,Builtin.delete_,Kr,hx,run_underlying ht,hg,Cy,hf,hs]
    |some i=>
     obtain⟨e,he,hq⟩:=In hi;obtain⟨xe,F5,_,hxk,hv⟩:=bJ.get pP he;simp only[hi,F5,Za8]at hf;have B6:(arr.eraseIdxIfInBounds i).toList=arr.toList.eraseIdx i:=by
      have:i<arr.size:=by have:=(Zaw.1 F5).1;simpa using this
      unfold Array.eraseIdxIfInBounds;simp[this]
     simp only;have:=sC hO hc (kq:=kq) (kr:=kr) (c':=c) (m0:=es.eraseIdx i) (D6:=arr.eraseIdxIfInBounds i)
      (by rw[B6];exact bJ.erase i pP)
      (λe he=>d0 e (ZcA he))
      (λe he=>hlt e (ZcA he))
      (List.Sublist.nodup ((List.eraseIdx_sublist _ _).map _) yd)
     refine⟨.value (.tuple #[]),.tuple #[],_,L, ?_,.inl rfl,this.1,this.2,by simp only[aA,bj,fN];exact⟨_,rfl,rfl⟩⟩;simp[execOp,ho,resolve,invoke,builtin,Builtin.delete_,Kr,hx,run_underlying ht,hg,Cy,hf,hs]
   |_=>simp[hc,cZ]at hok
 ·exact hok.elim
def N6(hO:ct base W M w0 ab w L){x:Operand}{t:TypeId}(ho:o.op=.call {callee:=.builtin .len,args:= #[x],argTypes:= #[t]})(ht:P.underlying t=some (.map kt et))(h:aA w W ab L d (a.eval x))(hok:(r9 ab d).ok):
  cH P base W M w0 ab L w a o (r9 ab d):=by
 unfold r9 at hok⊢;split at hok
 ·rename_i r;cases hc:ab r with
  |none=>simp[hc,cZ]at hok
  |some ob=>
   cases ob with
   |map cj agg c es=>
    simp only[aA]at h;obtain⟨_,hx⟩:=h;obtain⟨arr,hh,pP,_⟩:=hO.ob r _ hc;have hg:=gp (P:=P) hh trivial;have hl:=bJ.length pP;simp only[Za3]at hl;refine cH.int hO rfl rfl ?_;simp[execOp,ho,resolve,invoke,builtin,hx,Builtin.len_,run_underlying ht,goInt,hg,hl]
   |_=>simp[hc,cZ]at hok
 ·exact hok.elim
def Kz(hO:ct base W M w0 ab w L)(hname:ab name=none){t:TypeId}(ho:o.op=.makeMap t none)(cj:List Sh)(agg:Bool):
  cH P base W M w0 ab L w a o ⟨True,.iE name,some (name,.map cj agg 0 [])⟩:=by
 have hb:=kW (w:=w) (.map #[] 0);have h:=ct.put hO (r:=name) (L':=L.g6 name w.heap.size) (o':=.map cj agg 0 []) (xW hO.fr hb) hb.size (λx hx=>⟨by simp[Loc.g6,hx],rfl⟩) rfl (λb hlt _=>hb.block b hlt) (λb h=>.inr (by
   simp only[Loc.own,Loc.g6,if_true,Zaa]at h;omega))
  (λo' h _=>by rw[hname]at h;cases h) (λ_ _ _ _ h=>by rw[hname]at h;cases h) (λeZ=>by
   refine⟨#[], ?_,by simp[bJ],by simp,by simp,by simp,.inl ?_⟩
   ·simp only[Loc.g6,if_true];exact heap_alloc_new w _
   ·simp only[Loc.g6,if_true];exact ZaP hO.fr.jq hO.fr.size)
 refine⟨_,.map (some w.heap.size),_,_, ?_,.inl rfl,h.1,h.2, ?_⟩
 ·simp[execOp,ho,Instr.makeMap]
 ·simp only[aA];exact⟨⟨cj,agg,0,[],by simp[cG]⟩,by simp[Loc.g6]⟩
def HZ(hO:ct base W M w0 ab w L)(hname:ab name=none){x:Operand}{t:TypeId}(ho:o.op=.range t x)(ht:P.underlying t=some (.map kt et))(h:aA w W ab L d (a.eval x))(hok:(kU name ab d).ok):
  cH P base W M w0 ab L w a o (kU name ab d):=by
 unfold kU at hok⊢;split at hok
 ·rename_i r;cases hc:ab r with
  |none=>simp[hc,cZ]at hok
  |some ob=>
   cases ob with
   |map cj agg c es=>
    simp only[aA]at h;obtain⟨Ny,hx⟩:=h;obtain⟨arr,hh,pP,_⟩:=hO.ob r _ hc;have hg:=gp (P:=P) hh trivial;have bT:r≠name:=λe=>by rw[e,hname]at hc;cases hc
    have hb:=kW (w:=w) (.mapIter (some (L.blk r)) c #[] c);have h:=ct.put hO (r:=name) (L':=L.g6 name w.heap.size) (o':=.iter r c [] c) (xW hO.fr hb) hb.size (λx hx=>⟨by simp[Loc.g6,hx],rfl⟩) rfl (λb hlt _=>hb.block b hlt) (λb h=>.inr (by
      simp only[Loc.own,Loc.g6,if_true,Zaa]at h;omega))
     (λo' h _=>by rw[hname]at h;cases h) (λ_ _ _ _ h=>by rw[hname]at h;cases h) (λeZ=>by
      refine⟨?_,⟨cj,agg,c,es,by simp[cG,bT,hc]⟩,.inl ?_⟩
      ·simp only[Loc.g6,if_true,bT,if_false];exact heap_alloc_new w _
      ·simp only[Loc.g6,if_true];exact ZaP hO.fr.jq hO.fr.size)
    simp only[];refine⟨_,.pointer (some ⟨w.heap.size,0,none⟩),_,_, ?_,.inl rfl,h.1,h.2, ?_⟩
    ·simp[execOp,ho,Instr.range,hx,run_underlying ht,hg]
    ·simp only[aA];exact⟨⟨r,c,[],c,by simp[cG]⟩,by simp[Loc.g6]⟩
   |_=>simp[hc,cZ]at hok
 ·exact hok.elim
def D7{b:Nat}:∀{es:List (Nat×T×DV)} {xs:List MapEntry},bJ w W ab L es xs->∀{e:Nat×T×DV},(es.find? λe=>e.1==b)=some e->∃x,(xs.find? λx=>x.born==b)=some x/\bj w (WW W ab L) e.2.1 x.key/\aA w W ab L e.2.2 x.val
 |[],_,_,e,h=>by simp at h
 |e0::es,xs,hr,e,h=>by
  simp only[bJ]at hr;obtain⟨x,lz,rfl,h1,h2,h3,h4⟩:=hr;simp only[Za6,h1]at h⊢;by_cases hb:(e0.1==b)=true
  ·simp only[hb]at h⊢;cases h;exact⟨x,rfl,h2,h3⟩
  ·simp only[hb]at h⊢;exact D7 h4 h
def H6(hO:ct base W M w0 ab w L){x:Operand}(ho:o.op=.entry x)(h:aA w W ab L d (a.eval x))(hok:(kV ab d).ok):
  cH P base W M w0 ab L w a o (kV ab d):=by
 unfold kV at hok⊢;split at hok
 ·rename_i r;cases hc:ab r with
  |none=>simp[hc,cZ]at hok
  |some ob=>
   cases ob with
   |iter m s sn l=>
    simp only[hc]at hok⊢;cases hm:ab m with
    |none=>simp[hm,cZ]at hok
    |some om=>
     cases om with
     |map cj agg c es=>
      simp only[hm]at hok⊢;cases hl:sn.getLast? with
      |none=>simp[hl,cZ]at hok
      |some b=>
       simp only[hl]at hok⊢;cases hf:es.find? (λe=>e.1==b)with
       |none=>simp[hf,cZ]at hok
       |some e=>
        simp only[hf]at hok⊢;subst hok;simp only[aA]at h;obtain⟨_,hx⟩:=h;obtain⟨hh,_,_⟩:=hO.ob r _ hc;obtain⟨arr,hh2,pP,_⟩:=hO.ob m _ hm;have hg:=gp (P:=P) hh trivial;have hg2:=gp (P:=P) hh2 trivial;obtain⟨xe,F5,k1,k2⟩:=D7 pP hf;have hback:sn.toArray.back? =some b:=by rw[List.back?_toArray];exact hl
        have Vq:arr.find? (λx=>x.born==b)=some xe:=by rw[<-Array.find?_toList];exact F5
        refine cH.lJ hO rfl (v:=.tuple #[xe.key,xe.val]) ?_ ?_
        ·simp[execOp,ho,Instr.entry,hx,hg,hback,hg2,Vq]
        ·simp only[aA];exact⟨_,rfl,by simp only[eE];exact⟨_,_,rfl,by simpa [aA]using k1,_,_,rfl,k2,rfl⟩⟩
     |_=>simp[hm,cZ]at hok
   |_=>simp[hc,cZ]at hok
 ·exact hok.elim
def H0(hO:ct base W M w0 ab w L){t:TypeId}{x i:Operand}(ho:o.op=.index t x i)(ht:P.underlying t=some .string)(h1:aA w W ab L d1 (a.eval x))(h2:aA w W ab L d2 (a.eval i))(hok:(oE d1 d2).ok):
  cH P base W M w0 ab L w a o (oE d1 d2):=by
 unfold oE at hok⊢;split at hok
 ·rename_i s k j;simp only[aA,bj]at h1 h2;obtain⟨h0,hlt⟩:=hok;have hj:j.toNat<s.size:=by omega
  have hj':j.toNat<s.data.size:=hj;have mF:s[j.toNat]? =some (s.data.getD j.toNat 0):=by
   rw[getElem?_pos s j.toNat hj];simp[Array.getD,ByteArray.getElem_eq_getElem_data];intro h;omega
  refine cH.int hO rfl rfl ?_;simp[execOp,ho,Instr.index,h1,h2,asIntOf,run_underlying ht,h0,mF]
 ·exact hok.elim
def Io(NA:op=if neg then .neq else .eql){t:TypeId}{x y:Operand}(ho:o.op=.binOp op t x y yt){r:Bool}(bT:∀k n,a.eval x≠ .int k n)(hni:a.eval x≠ .nilIface)(hna:∀cs,a.eval x≠ .agg cs)(hnf:∀k b,a.eval x≠ .float k b)(hnc:∀k b c,a.eval x≠ .complex k b c)(hns:∀s,a.eval x≠ .string s)
  (he:(Op.equal t (a.eval x) (a.eval y)).run P w=.ok r w) (hg:(eqGuard op t x y (a.eval x) (a.eval y)).run P w=.ok () w):(execOp a.eval o).run P w=.ok (.value (.bool (neg^^r))) w:=by
 have hb:(binOp op t (a.eval x) (a.eval y)).run P w=.ok (.bool (neg^^r)) w:=by
  generalize a.eval x=xv at*
  subst NA;cases neg<;>cases xv<;>first|exact Zar rfl (bT _ _)|exact Zar rfl hni|exact Zar rfl (hna _)|exact Zar rfl (hnf _ _)|exact Zar rfl (hnc _ _ _)|exact Zar rfl (hns _)|simp[binOp,he]
 simp[execOp,ho,hg,hb]
def KX{d:TypeDesc}{y:Operand}{k:Nat}(hy:bQ.of y=some y')(h:xY d y'=some k):
  (k=0/\(∃e,d=.slice e)/\a.eval y=.slice none 0 0)\/(k=1/\(∃e,d=.pointer e)/\a.eval y=.pointer none)\/(k=2/\(∃p r v,d=.func p r v)/\a.eval y=.nilFunc):=by
 unfold xY at h;have key:∀{z:DV},bQ.of y=some (.gN z)->∃v,a.eval y=v/\(my v=some z\/(∃f,z=.v (.fn f []))\/∃c,z=.iD c 0):=by
  intro z hz;cases y with
  |tmp t=>simp[bQ.of]at hz
  |const v=>simp only[bQ.of,Zac,bQ.gN.injEq]at hz;obtain⟨d,hd,rfl⟩:=hz;exact⟨v,rfl,.inl hd⟩
  |func f=>simp only[bQ.of,Zaa,bQ.gN.injEq]at hz;subst hz;exact⟨_,rfl,.inr (.inl ⟨_,rfl⟩)⟩
  |global g=>
   simp only[bQ.of,Zac,bQ.gN.injEq]at hz;obtain⟨p,_,rfl⟩:=hz;exact⟨_,rfl,.inr (.inr ⟨_,rfl⟩)⟩
 split at h
 ·obtain⟨v,hv,hc|⟨f,hf⟩|⟨f,hf⟩⟩:=key hy
  ·unfold my at hc;split at hc<;>simp at hc
   exact .inl ⟨by simpa using h.symm,⟨_,rfl⟩,hv⟩
  ·cases hf
  ·cases hf
 ·obtain⟨v,hv,hc|⟨f,hf⟩|⟨f,hf⟩⟩:=key hy
  ·unfold my at hc;split at hc<;>simp at hc
   exact .inr (.inl ⟨by simpa using h.symm,⟨_,rfl⟩,hv⟩)
  ·cases hf
  ·cases hf
 ·obtain⟨v,hv,hc|⟨f,hf⟩|⟨f,hf⟩⟩:=key hy
  ·unfold my at hc;split at hc<;>simp at hc
   exact .inr (.inr ⟨by simpa using h.symm,⟨_,_,_,rfl⟩,hv⟩)
  ·cases hf
  ·cases hf
 ·cases h
def wQ(d:Nat)(hd:d=9999)(t:TypeId)(x y:Value):(Op.equal t x y)=Op.equalIn (d+1) t x y:=by subst hd;rfl
def Ar(t e:TypeId)(p:Option Addr)(n c:Nat)(h:P.underlying t=some (.slice e)):(Op.equal t (.slice p n c) (.slice none 0 0)).run P w=.ok p.isNone w:=by
 obtain⟨d,hd⟩:∃d,d=9999:=⟨_,rfl⟩;rw[wQ d hd,Op.equalIn];cases p<;>simp[run_underlying h]
def D8(t e:TypeId)(p:Option Addr)(h:P.underlying t=some (.pointer e)):(Op.equal t (.pointer p) (.pointer none)).run P w=.ok p.isNone w:=by
 obtain⟨d,hd⟩:∃d,d=9999:=⟨_,rfl⟩;rw[wQ d hd,Op.equalIn];cases p<;>simp[run_underlying h]
def Gi(t:TypeId){q1 q2 q3}(v:Value)(r:Bool)(h:P.underlying t=some (.func q1 q2 q3))(hv:(v=.nilFunc/\r=true)\/(∃f b c,v=.func f b c)/\r=false):(Op.equal t v .nilFunc).run P w=.ok r w:=by
 obtain⟨d,hd⟩:∃d,d=9999:=⟨_,rfl⟩;rw[wQ d hd,Op.equalIn];rcases hv with⟨rfl,rfl⟩|⟨⟨f,b,c,rfl⟩,rfl⟩<;>simp[run_underlying h]
def Bs(hO:ct base W M w0 ab w L)(NA:op=if neg then .neq else .eql){t:TypeId}{x y:Operand}(ho:o.op=.binOp op t x y yt){d:TypeDesc}(hd:P.underlying t=some d)(hy:bQ.of y=some y'){k:Nat}(hk:xY d y'=some k)
   (h1:aA w W ab L d1 (a.eval x)) (hok:(gj k neg ab d1).ok):cH P base W M w0 ab L w a o (gj k neg ab d1):=by
 have hv:=KX (a:=a) hy hk;have bZ:∀{r:Bool},gj k neg ab d1=⟨(gj k neg ab d1).ok,.v (.bool (neg^^r)),none⟩->(execOp a.eval o).run P w=.ok (.value (.bool (neg^^r))) w->cH P base W M w0 ab L w a o (gj k neg ab d1):=by
  intro r e h;rw[e];exact cH.bool hO rfl rfl h
 have sl:∀{p:Option Addr} {n c:Nat},k=0->a.eval x=.slice p n c->(execOp a.eval o).run P w=.ok (.value (.bool (neg^^p.isNone))) w:=by
  intro p n c h0 hx;rcases hv with⟨_,⟨e,rfl⟩,NB⟩|⟨h,_⟩|⟨h,_⟩
  ·refine Io NA ho (by simp[hx]) (by simp[hx]) (by simp[hx]) (by simp[hx]) (by simp[hx]) (by simp[hx]) (by rw[hx,NB];exact Ar t e p n c hd) ?_;rw[hx,NB,NA];cases neg<;>simp[eqGuard]
  ·omega
  ·omega
 have pt:∀{p:Option Addr},k=1->a.eval x=.pointer p->(execOp a.eval o).run P w=.ok (.value (.bool (neg^^p.isNone))) w:=by
  intro p h0 hx;rcases hv with⟨h,_⟩|⟨_,⟨e,rfl⟩,NB⟩|⟨h,_⟩
  ·omega
  ·refine Io NA ho (by simp[hx]) (by simp[hx]) (by simp[hx]) (by simp[hx]) (by simp[hx]) (by simp[hx]) (by rw[hx,NB];exact D8 t e p hd) ?_;rw[hx,NB,NA];cases neg<;>simp[eqGuard]
  ·omega
 have fn:∀{v:Value} {r:Bool},k=2->a.eval x=v->(v=.nilFunc/\r=true)\/(∃f b c,v=.func f b c)/\r=false->(execOp a.eval o).run P w=.ok (.value (.bool (neg^^r))) w:=by
  intro v r h0 hx Cm;rcases hv with⟨h,_⟩|⟨h,_⟩|⟨_,⟨q1,q2,q3,rfl⟩,NB⟩
  ·omega
  ·omega
  ·have he:=Gi (w:=w) t v r hd Cm;subst hx;refine Io NA ho ?_ ?_ ?_ ?_ ?_ ?_ (by rw[NB];exact he) ?_;all_goals rcases Cm with⟨hx,rfl⟩|⟨⟨f,b,c,hx⟩,rfl⟩<;>first|(simp[hx];done)|(rw[hx,NB,NA];cases neg<;>simp[eqGuard])
 cases d1 with
 |v t'=>
  cases t' with
  |sl av=>
   simp only[gj]at hok;obtain⟨h0,bT⟩:=hok;simp only[aA,bj]at h1;rcases h1 with⟨rfl,_⟩|⟨b,oo,c,sz,hx,_⟩
   ·exact Zar rfl bT
   ·exact bZ (r:=false) rfl (sl h0 hx)
  |fn f bY=>
   cases f with
   |func f=>simp only[aA,bj]at h1;obtain⟨vs,hx,_⟩:=h1;exact bZ (r:=false) rfl (fn hok hx (.inr ⟨⟨_,_,_,rfl⟩,rfl⟩))
   |_=>exact hok.elim
  |box cs=>simp only[aA,bj]at h1;obtain⟨b,oo,hx,_⟩:=h1;exact bZ (r:=false) rfl (pt hok hx)
  |mg v=>
   simp only[aA,bj]at h1;cases v with
   |slice p n c=>exact bZ (r:=p.isNone) rfl (sl hok h1)
   |pointer p=>exact bZ (r:=p.isNone) rfl (pt hok h1)
   |nilFunc=>exact bZ (r:=true) rfl (fn hok h1 (.inl ⟨rfl,rfl⟩))
   |_=>exact hok.elim
  |_=>exact hok.elim
 |ptr r off=>simp only[aA]at h1;exact bZ (r:=false) rfl (pt hok h1.2)
 |iD cs off=>simp only[aA]at h1;obtain⟨b,oo,hx,_⟩:=h1;exact bZ (r:=false) rfl (pt hok hx)
 |l7 av i off=>simp only[aA]at h1;obtain⟨b,oo,sz,hx,_⟩:=h1;exact bZ (r:=false) rfl (pt hok hx)
 |ka r bD i off=>simp only[aA]at h1;obtain⟨⟨b,oo,hx⟩,_⟩:=h1;exact bZ (r:=false) rfl (pt hok hx)
 |nG f bY=>
  cases f with
  |func f=>simp only[aA]at h1;obtain⟨vs,hx,_⟩:=h1;exact bZ (r:=false) rfl (fn hok hx (.inr ⟨⟨_,_,_,rfl⟩,rfl⟩))
  |_=>exact hok.elim
 |bA r bD=>
  cases hc:ab r with
  |none=>simp[gj,hc,cZ]at hok
  |some ob=>
   cases ob with
   |arr cg e' iG av=>
    have e1:gj k neg ab (.bA r bD)=⟨k=0/\bD=cg/\av≠[],.v (.bool (neg^^false)),none⟩:=by simp only[gj,hc]
    rw[e1]at hok;obtain⟨h0,rfl,bT⟩:=hok;simp only[aA]at h1;obtain⟨_,qw,e2,Gy,lI,nH,_,mQ⟩:=h1;rw[hc]at nH;cases nH;have hx:=mQ rfl;obtain⟨_,_,_,hal⟩:=hO.ob r _ hc;rcases hal with⟨rfl,_⟩|⟨g,cap,cur,k1,_⟩
    ·exact Zar rfl bT
    ·exact bZ (r:=false) (by rw[e1]) (sl h0 (hx.trans k1))
   |_=>simp[gj,hc,cZ]at hok
 |_=>exact hok.elim
def Ol(hO:ct base W M w0 ab w L){r m s l c:Nat}{sn:cO}(hr:ab r=some (.iter m s sn l))(hm:ab m=some (.map cj agg c es))(hlt:∀e∈es,e.1<s)(hl:s<=l)(ty:TypeId):
  ((∀e∈es,e.1∈sn)/\(Instr.next (.pointer (some ⟨L.blk r,0,none⟩)) false ty).run P w=.ok (.tuple #[.bool false]) w)\/
  ∃e∈es,e.1∉sn/\∃k v w',(Instr.next (.pointer (some ⟨L.blk r,0,none⟩)) false ty).run P w=.ok (.tuple #[.bool true,k,v]) w'/\
   ct base W M w0 (cG ab (some (r,.iter m s (sn++[e.1]) c))) w' L/\gP W ab L w (cG ab (some (r,.iter m s (sn++[e.1]) c))) L w':=by
 obtain⟨hh,_,z7⟩:=hO.ob r _ hr;obtain⟨arr,hh2,pP,_⟩:=hO.ob m _ hm;have hg:=gp (P:=P) hh trivial;have hg2:=gp (P:=P) hh2 trivial;have hborn:∀x∈arr.toList,x.born<s:=by
  intro x hx;obtain⟨i,hi⟩:=ZbY hx;have As:i<es.length:=by rw[<-bJ.length pP];exact(Zaw.1 hi).1
  obtain⟨x',mh,hb,_⟩:=bJ.get pP (Zas As);rw[hi]at mh;cases mh;rw[hb];exact hlt _ (Zbe As)
 have htest:(!(sn.toArray).isEmpty&& !arr.isEmpty&&arr.all (λx=>decide (x.born>=l)))=false:=by
  cases he:arr.isEmpty with
  |true=>simp
  |false=>
   have d0:arr.all (λx=>decide (x.born>=l))=false:=by
    rw[Bool.eq_false_iff];intro h;rw[Array.all_eq_true_iff_forall_mem]at h;have h0:0<arr.size:=by
     rcases ZcY arr.size with h0|h0
     ·simp[Array.isEmpty,h0]at he
     ·exact h0
    have h1:=h _ (Array.getElem_mem h0);have h2:=hborn arr[0] (by simp);simp at h1;omega
   simp[d0]
 have yG:∀x,x∈arr.filter (λe=> !sn.toArray.contains e.born)↔x∈arr.toList/\x.born∉sn:=by
  intro x;simp
 have kx:∀x∈(arr.filter (λe=> !sn.toArray.contains e.born)),x.born<s:=λx hx=>hborn x ((yG x).1 hx).1;simp only[Instr.next,Sem.run_bind,hg,hg2,Result.andThen_ok,htest,ZaW,if_false];generalize hL:arr.filter (λe=> !sn.toArray.contains e.born)=A at yG kx⊢;have e1:A.filter (λx=>decide (x.born<s))=A:=Array.filter_eq_self.2 (λx hx=>by simpa using kx x hx);have e2:A.filter (λx=>decide (x.born>=s))= #[]:=by
  rw[Array.filter_eq_empty_iff];intro x hx;have:=kx x hx;simp;omega
 simp only[e1,e2,ZbJ];by_cases h0:A.size=0
 ·left;have:A= #[]:=Array.eq_empty_of_size_eq_zero h0;subst this;refine⟨λe he=>?_, ?_⟩
  ·obtain⟨i,hi⟩:=ZbY he;obtain⟨x,hx,hb,_⟩:=bJ.get pP hi;by_cases h:e.1∈sn
   ·exact h
   ·have:=(yG x).2 ⟨Zax hx,by rw[hb];exact h⟩;simp at this
  ·simp[choose,Sem.run,Question.forced]
 ·right;have bT:A.isEmpty=false:=by simp[Array.isEmpty,h0]
  simp only[bT,ZaW,if_false,Array.empty_append,Array.size_map];have hch:∃(j:Nat) (w1:World),j<A.size/\(w1=w\/w1=w.drew)/\(choose (Question.mapNext A.size)).run P w=.ok j w1:=by
   by_cases hf:A.size<=1
   ·exact⟨0,w,by omega,.inl rfl,by simp[choose,Sem.run,Question.forced,hf]⟩
   ·exact⟨_,w.drew,Nat.mod_lt _ (by omega),.inr rfl,by
     simp only[choose,Sem.run,Question.forced,Zau,hf,if_false,Question.cut];rfl⟩
  obtain⟨j,w1,hj,Xd,bW⟩:=hch;have hin:=(yG A[j]).1 (Array.getElem_mem hj);obtain⟨i,hi⟩:=ZbY hin.1;have As:i<es.length:=by rw[<-bJ.length pP];exact(Zaw.1 hi).1
  obtain⟨x',mh,hb,_⟩:=bJ.get pP (Zas As);rw[hi]at mh;cases mh;have hhe:w1.heap=w.heap:=by rcases Xd with rfl|rfl<;>rfl
  have hh1:w1.heap[L.blk r]? =some (.mapIter (some (L.blk m)) s sn.toArray l):=by rw[hhe];exact hh
  have hfr1:Fr base M w0 w1:=by
   rcases Xd with rfl|rfl
   ·exact hO.fr
   ·exact⟨hO.fr.os,hO.fr.tape,hO.fr.output,hO.fr.jq,hO.fr.size,hO.fr.block,Nat.le_succ_of_le hO.fr.drawn⟩
  refine⟨es[i],Zbe As,by rw[<-hb];exact hin.2,A[j].key,A[j].val,w1.gT (L.blk r) (.mapIter (some (L.blk m)) s (sn.toArray.push A[j].born) c), ?_, ?_⟩
  ·simp only[bW,Array.getElem?_map,ZbD hj,Za8,Sem.run_bind,pi (P:=P) hh1 trivial,Result.andThen_ok,Sem.run_pure]
  ·rw[hb];refine ct.put hO (GQ _ hfr1 z7) (by rw[uF,hhe];exact Zaf _) (λ_ _=>⟨rfl,rfl⟩) rfl (λb _ hb=>(sA (λx=>hb _ hr (by simp[Loc.own,x]))).trans (by rw[hhe]))
    (λb hb=>.inl ⟨_,hr,hb⟩) (λo' iA _=>by rw[hr]at iA;cases iA;exact⟨rfl,rfl⟩) (λbD e sz av h=>by rw[hr]at h;cases h) (λeZ=>?_)
   refine⟨?_, ?_,z7⟩
   ·rw[BJ hh1];simp
   ·have bT:m≠r:=λe=>by rw[e,hr]at hm;cases hm
    exact⟨cj,agg,c,es,by simp[cG,bT,hm]⟩
end
end
section
variable{neg:Bool}{cj:List Sh}{desc:TypeDesc}{sz N4:Nat}{zero:aK}
variable [bI]
section
variable{P:Program}{base:Nat}{W M:fo}{w0:World}{ab:bq}{L:Loc}{w:World}{a:Act}{o:Oper}{Γ:pI}{name:Nat}{ρ:dw}{d:rO}
def x6{fY:Bool}(W':fo)(hO:ct base W M w0 ab w L)(hW:fY=true->∀r o b,ab r=some o->L.own r o=some b->¬W' b)(Vn:∀b,W' b->WW W ab L b):
  (∀(d:DV) (x:Value),aA w W ab L d x->F3 fY ab d->bj w W' (tz ab d) x)/\(∀(ds:bB) (xs:List Value),aQ w W ab L ds xs->tA fY ab ds->bf w W' (ji ab ds) xs):=by
 have hk:dg (WW W ab L) w w:=dg.refl _ _;have one:∀(n:Nat),(∀(d:DV) (x:Value),SizeOf.sizeOf d<n->aA w W ab L d x->F3 fY ab d->bj w W' (tz ab d) x)/\(∀(ds:bB) (xs:List Value),SizeOf.sizeOf ds<n->aQ w W ab L ds xs->tA fY ab ds->bf w W' (ji ab ds) xs):=by
  intro n;induction n with
  |zero=>exact⟨λ_ _ h=>by omega,λ_ _ h=>by omega⟩
  |succ n ih=>
   refine⟨λd x hn h hok=>?_,λds xs hn h hok=>?_⟩
   ·cases d with
    |v t=>simp only[aA]at h;simp only[tz];exact bj.bi hk.toKeepsC (λb _ hb=>Vn b hb) t x h
    |aW=>
     simp only[aA]at h;obtain⟨p,rfl⟩:=h;simp only[tz,bj];exact .inl ⟨trivial,p,0,rfl⟩
    |bA r bD=>
     simp only[F3]at hok;obtain⟨hl,hok⟩:=hok;simp only[aA]at h;obtain⟨_,cg,e,sz,av,hc,_,hv⟩:=h;simp only[hc]at hok;have hv:=hv hok;subst hv;simp only[tz,hc,bj];have gH:=hO.ob r _ hc;obtain⟨hsz,eF,hm,hal⟩:=gH;rcases hal with⟨rfl,p,hp⟩|⟨g',cap,cur,tp,hp,hh,jy,sc,HN,gQ⟩
     ·exact .inl ⟨rfl,p,0,hp⟩
     ·have zO:aX (L.sl r)=some g':=by simp[tp,aX,ZaJ.1 hp]
      refine .inr ⟨g',0,cap,sz,tp,(Zap.1 hh).1,hW hl r _ g' hc (by simpa [Loc.own]using zO),jy, ?_⟩;have B7:=pL.av (hO.ob r _ hc) (g:=g') (by simp[tp,aX,ZaJ.1 hp]);by_cases hg:g'<w.heap.size
      ·obtain⟨vs,xM,Cm,XE⟩:=bw.flatten B7;exact bw.jB (bf.bi hk.toKeepsC (λb _ hb=>Vn b hb) _ _ Cm) eF XE
      ·exact Zar (Zap.1 hh).1 hg
    |agg cs=>
     simp only[aA]at h;obtain⟨vs,rfl,hr⟩:=h;simp only[tz,bj];simp only[F3]at hok;exact⟨vs,rfl,ih.2 cs _ (by simp at hn⊢;omega) hr hok⟩
    |nG f cs=>
     simp only[aA]at h;obtain⟨vs,rfl,hr⟩:=h;simp only[tz,bj];simp only[F3]at hok;exact⟨vs,rfl,ih.2 cs _ (by simp at hn⊢;omega) hr hok⟩
    |u9 r bD lo m=>
     simp only[F3]at hok;obtain⟨hl,hok⟩:=hok;simp only[aA]at h;obtain⟨_,cg,e,sz,av,hc,_,hv⟩:=h;simp only[hc]at hok;have hv:=hv hok.1;simp only[tz,hc,bj];have HG:((av.drop lo).take m).length=m:=by rw[ZaB,Zbo];omega
     rcases uf hO hc hv with⟨rfl,a,c,rfl⟩|⟨g,c,zO,rfl,hnc,hr⟩
     ·exact .inl ⟨by simp,a,c,rfl⟩
     ·refine .inr ⟨g,lo*sz,c,sz,by rw[HG],(hO.ob r _ hc).lt (by simpa [Loc.own]using zO),hW hl r _ g hc (by simpa [Loc.own]using zO),by omega, ?_⟩;obtain⟨vs,xM,Cm,XE⟩:=bw.flatten hr;exact bw.jB (bf.bi hk.toKeepsC (λb _ hb=>Vn b hb) _ _ Cm) (λx hx=>(hO.ob r _ hc).2.1 x (ZbW (ZaE hx))) XE
    |_=>exact hok.elim
   ·cases ds with
    |nil=>simpa [aQ,bf,ji]using h
    |cons d ds=>
     simp only[aQ]at h;obtain⟨x,lz,rfl,h1,h2,hr⟩:=h;simp only[tA]at hok;simp only[ji,bf];exact⟨x,lz,rfl,h1,ih.1 d x (by simp at hn⊢;omega) h2 hok.1,ih.2 ds lz (by simp at hn⊢;omega) hr hok.2⟩
 exact⟨λd x=>(one (SizeOf.sizeOf d+1)).1 d x (by omega),λds xs=>(one (SizeOf.sizeOf ds+1)).2 ds xs (by omega)⟩
def N5{agg:Bool}{t u:T}(h:¬((∃as,t=.agg as)/\∃bs,u=.agg bs)):Dc neg agg cj t u=⟨agg=false/\eL cj [t]/\eL cj [u],.v (.bool (neg^^gO t u)),none⟩:=by
 cases t<;>first|rfl|(cases u<;>first|rfl|exact Zar ⟨⟨_,rfl⟩,⟨_,rfl⟩⟩ h)
def Qw{n:Nat}{t:TypeId}{s:Sh}(hs:lp P (n+1) t=some [s])(hd:P.underlying t=some desc)(ha:b8 desc=false):(s=.bool/\desc=.bool)\/(s=.str/\desc=.string)\/∃k,s=.int k/\desc=.int k:=by
 simp only[lp,hd]at hs;cases desc;case bool=>simp at hs;exact .inl ⟨hs.symm,rfl⟩
 case int k=>simp at hs;exact .inr (.inr ⟨k,hs.symm,rfl⟩)
 case string=>simp at hs;exact .inr (.inl ⟨hs.symm,rfl⟩)
 case struct=>exact Zar ha (by simp[b8])
 case array=>exact Zar ha (by simp[b8])
 all_goals exact Zar hs (by simp)
def Kw{op:BinOp}{t:TypeId}{x y:Operand}{yt:TypeId}(NA:op=if neg then .neq else .eql)(ho:o.op=.binOp op t x y yt)(hd:P.underlying t=some desc)(Qx:∀k,desc≠ .int k)(hs:lp P 10000 t=some cj)(hg:P.eqGuardType P.depth t=false)
  (hO:ct base W M w0 ab w L) {d1 d2:DV} (h1:aA w W ab L d1 (a.eval x)) (h2:aA w W ab L d2 (a.eval y)) (k1:F3 true ab d1) (k2:F3 true ab d2) (hok:(Dc neg (b8 desc) cj (tz ab d1) (tz ab d2)).ok):
  cH P base W M w0 ab L w a o ⟨True,(Dc neg (b8 desc) cj (tz ab d1) (tz ab d2)).val,none⟩:=by
 have r1:=(x6 (fY:=true) (λ_=>False) hO (λ_ _ _ _ _ _ h=>h) (λ_ h=>h.elim)).1 d1 _ h1 k1;have r2:=(x6 (fY:=true) (λ_=>False) hO (λ_ _ _ _ _ _ h=>h) (λ_ h=>h.elim)).1 d2 _ h2 k2;by_cases hagg:(∃as,tz ab d1=.agg as)/\∃bs,tz ab d2=.agg bs
 ·obtain⟨⟨as,t1⟩,bs,t2⟩:=hagg;simp only[t1,t2,Dc]at hok⊢;obtain⟨ha,f1,f2⟩:=hok;rw[t1]at r1;rw[t2]at r2;simp only[bj]at r1 r2;obtain⟨xs,e1,g1⟩:=r1;obtain⟨ys,e2,g2⟩:=r2;have hq:(Op.equal t (.agg xs) (.agg ys)).run P w=.ok (tl as bs) w:=by
   have:=se 10000 t cj desc hs hd xs.toList ys.toList w (jg f1 g1) (jg f2 g2);simp only[zP,ha,if_true,Array.toArray_toList]at this;rw[Ab f1 f2 g1 g2];exact this
  have XM:=run_eqGuard_agg w op t x y xs ys hg;refine cH.bool hO rfl rfl ?_;subst NA;cases neg<;>simp only[if_true,if_false,ZaW]at ho XM<;>simp[execOp,ho,e1,e2,XM,binOp,hq]
 ·rw[N5 hagg]at hok⊢;obtain⟨ha,f1,f2⟩:=hok;obtain⟨s,rfl,g1⟩:=oF f1;obtain⟨s2,hs2,g2⟩:=oF f2;obtain rfl:s=s2:=by simpa using hs2
  refine cH.bool hO rfl rfl ?_;rw[Ky g1 g2 r1 r2];subst NA;cases s with
  |bool=>
   have hdb:P.underlying t=some .bool:=by
    rcases Qw (n:=9999) hs hd ha with⟨_,rfl⟩|⟨h,_⟩|⟨k,h,_⟩
    ·exact hd
    ·cases h
    ·cases h
   cases Nz:tz ab d1<;>rw[Nz]at g1 r1<;>first|exact Zar g1 ZaL|skip
   cases h2':tz ab d2<;>rw[h2']at g2 r2<;>first|exact Zar g2 ZaL|skip
   simp only[bj]at r1 r2;cases neg<;>simp[execOp,ho,r1,r2,eqGuard,run_eql_bool,run_neq_bool,hdb,veq]
  |str=>
   cases Nz:tz ab d1<;>rw[Nz]at g1 r1<;>first|exact Zar g1 ZaL|skip
   cases h2':tz ab d2<;>rw[h2']at g2 r2<;>first|exact Zar g2 ZaL|skip
   simp only[bj]at r1 r2;cases neg<;>simp[execOp,ho,r1,r2,eqGuard,binOp,Op.stringOp,veq]
  |int k=>
   rcases Qw (n:=9999) hs hd ha with⟨h,_⟩|⟨h,_⟩|⟨k',_,h⟩
   ·cases h
   ·cases h
   ·exact Zar h (Qx k')
def Bq{W':fo}{sz:Nat}:∀(n:Nat) (cs:aK) (vs:List Value) (b o:Nat),cs.length=n*sz->bf w W' cs vs->(∀j v,vs[j]? =some v->w.cell? ⟨b,o+j,none⟩=some v)->bw w W' sz b o (fU sz n cs)
 |0,_,_,_,_,_,_,_=>by simp[fU,bw]
 |n+1,cs,vs,b,o,hl,hr,hc=>by
  have hsz:sz<=cs.length:=by rw[hl,Nat.add_mul];omega
  have xM:=bf.length hr;simp only[fU,bw];refine⟨by simp;omega, ?_, ?_⟩
  ·refine ed.sa (bf.take sz hr) λj v hj=>hc j v ?_;rw[ZaQ]at hj;split at hj
   ·exact hj
   ·cases hj
  ·refine Bq n _ (vs.drop sz) b (o+sz) (by rw[Zbo,hl,Nat.add_mul];omega) (bf.drop sz hr) λj v hj=>?_;rw[ZbH]at hj;have:=hc (sz+j) v hj
   rwa [show o+sz+j=o+(sz+j)by omega]
def x7(sz:Nat):∀(n:Nat) (cs:aK),(fU sz n cs).length=n
 |0,_=>rfl
 |n+1,cs=>by simp[fU,x7 sz n]
def x8:∀(ps:List (Nat×Nat×DV)) (ds:bB),t8 ds.length ps->(vZ ds ps).length=ds.length
 |[],ds,_=>rfl
 |(off,sz,d)::ps,ds,h=>by
  simp only[t8]at h;obtain⟨h1,h2,h3,h4⟩:=h;have hl:(cy ds off (cellsOf d)).length=ds.length:=g5 (by omega);simp only[vZ];rw[x8 ps _ (by rw[hl];exact h4),hl]
def Br(hg:F2 w (WW W ab L))(jw:∀t,aA w W ab L (ρ t) (a.tmps.getD t Go.undef)):∀{xs:List Operand} {ys:List bQ},xs.mapM bQ.of=some ys->∀(i:Nat) (x:Operand) (y:bQ),xs[i]? =some x->ys[i]? =some y->aA w W ab L (y.ev ρ) (a.eval x)
 |[],ys,h,i,x,y,hx,_=>by simp at hx
 |x::xs,ys,h,i,p,q,hp,hq=>by
  simp only[Za7,Zao,Zaj,Zad,Zaa]at h;obtain⟨y,hy,ys',pM,rfl⟩:=h;cases i with
  |zero=>
   simp only[ZaF,Zaa]at hp hq;subst hp hq;exact bQ.bP hg jw hy
  |succ i=>exact Br hg jw pM i p q (by simpa using hp) (by simpa using hq)
def ul:∀{xs:List Operand} {ys:List bQ},xs.mapM bQ.of=some ys->ys.length=xs.length
 |[],ys,h=>by simp at h;simp[h]
 |x::xs,ys,h=>by
  simp only[Za7,Zao,Zaj,Zad,Zaa]at h;obtain⟨y,hy,ys',pM,rfl⟩:=h;simp[ul pM]
def Dp(hg:F2 w (WW W ab L))(jw:∀t,aA w W ab L (ρ t) (a.tmps.getD t Go.undef)){x:Option Operand}{y:Option bQ}(h:Dk x=some y):(y.map (·.ev ρ)=none/\x.map a.eval=none)\/∃dl vl,y.map (·.ev ρ)=some dl/\x.map a.eval=some vl/\aA w W ab L dl vl:=by
 cases x with
 |none=>simp only[Dk,Zaa]at h;subst h;exact .inl ⟨rfl,rfl⟩
 |some x=>
  simp only[Dk,Zac]at h;obtain⟨z,hz,rfl⟩:=h;exact .inr ⟨_,_,rfl,rfl,bQ.bP hg jw hz⟩
def XN{d:DV}{v:Value}(hp:t7 d)(h:aA w W ab L d v):v.oneCell'=true:=by
 cases d with
 |aW=>simp only[aA]at h;obtain⟨p,rfl⟩:=h;rfl
 |v t=>
  simp only[aA]at h;cases t with
  |agg ts=>exact Zar hp ZaL
  |eo ts=>exact Zar hp ZaL
  |mg x=>simp only[bj]at h;subst h;exact hp
  |sl av=>simp only[bj]at h;rcases h with⟨_,_,_,rfl⟩|⟨_,_,_,_,rfl,_⟩<;>rfl
  |fn f bY=>simp only[bj]at h;obtain⟨_,rfl,_⟩:=h;rfl
  |box cs=>simp only[bj]at h;obtain⟨_,_,rfl,_⟩:=h;rfl
  |bool b=>simp only[bj]at h;subst h;rfl
  |int k n=>simp only[bj]at h;subst h;rfl
  |str k=>simp only[bj]at h;subst h;rfl
 |_=>exact hp.elim
def XO{d:DV}{v:Value}(hp:kp d)(h:aA w W ab L d v):v.oneCell'=true:=by
 cases d with
 |undef=>exact hp.elim
 |skip=>exact hp.elim
 |agg cs=>exact hp.elim
 |eo cs=>exact hp.elim
 |v t=>exact XN (d:=.v t) hp h
 |aW=>simp only[aA]at h;obtain⟨p,rfl⟩:=h;rfl
 |ptr r off=>simp only[aA]at h;obtain⟨_,rfl⟩:=h;rfl
 |bA r bD=>simp only[aA]at h;obtain⟨⟨_,_,_,rfl⟩,_⟩:=h;rfl
 |l7 av i off=>simp only[aA]at h;obtain⟨_,_,_,rfl,_⟩:=h;rfl
 |iD cs off=>simp only[aA]at h;obtain⟨_,_,rfl,_⟩:=h;rfl
 |ka r bD i off=>simp only[aA]at h;obtain⟨⟨_,_,rfl⟩,_⟩:=h;rfl
 |NV=>simp only[aA]at h;subst h;rfl
 |iE r=>simp only[aA]at h;obtain⟨_,rfl⟩:=h;rfl
 |iter r=>simp only[aA]at h;obtain⟨_,rfl⟩:=h;rfl
 |u9 r bD lo n=>simp only[aA]at h;obtain⟨⟨_,_,rfl⟩,_⟩:=h;rfl
 |F9 r n=>simp only[aA]at h;obtain⟨_,rfl⟩:=h;rfl
 |nG f cs=>simp only[aA]at h;obtain⟨_,rfl,_⟩:=h;rfl
def GH(hg:F2 w (WW W ab L))(jw:∀t,aA w W ab L (ρ t) (a.tmps.getD t Go.undef)):∀{xs:List Operand} {ys:List bQ},xs.mapM bQ.of=some ys->eX (ys.map (·.ev ρ))->aQ w W ab L (ys.map (·.ev ρ)) (xs.map a.eval)
 |[],ys,h,_=>by simp at h;subst h;simp[aQ]
 |x::xs,ys,h,hp=>by
  simp only[Za7,Zao,Zaj,Zad,Zaa]at h;obtain⟨y,hy,ys',pM,rfl⟩:=h;simp only[ZaA,eX]at hp;simp only[ZaA,aQ];have r:=bQ.bP hg jw hy;exact⟨_,_,rfl,XO hp.1 r,r,GH hg jw pM hp.2⟩
def Ac:∀{ds:bB},xU ds=true->iZ ds
 |[],_=>trivial
 |d::ds,h=>by
  cases d with
  |v t=>simp only[xU,Zam]at h;exact⟨h.1,Ac h.2⟩
  |aW=>simp only[xU]at h;exact⟨trivial,Ac h⟩
  |_=>simp[xU]at h
def XP(hc:dz P o=some d)(nP:∀f args,d≠ .call f args)(jw:∀t,aA w W ab L (ρ t) (a.tmps.getD t Go.undef))(hO:ct base W M w0 ab w L)(hname:ab name=none)(hok:(dj Γ d name ρ ab).ok):
  cH P base W M w0 ab L w a o (dj Γ d name ρ ab):=by
 unfold dz at hc;cases ho:o.op<;>simp only[ho,reduceCtorEq]at hc
 case move x=>
  simp only[Zac]at hc;obtain⟨y,hy,rfl⟩:=hc;exact cH.lJ hO rfl (v:=a.eval x) (by simp[execOp,ho]) (bQ.bP hO.gl jw hy)
 case assign x=>
  simp only[Zac]at hc;obtain⟨y,hy,rfl⟩:=hc;exact cH.lJ hO rfl (v:=a.eval x) (by simp[execOp,ho]) (bQ.bP hO.gl jw hy)
 case pick c x y=>
  simp only[Zao,Zaj,Zad,Zaa]at hc;obtain⟨c',Xb,x',hx,y',hy,rfl⟩:=hc;have r:=bQ.bP hO.gl jw Xb;unfold dj at hok⊢;simp only at hok⊢;split at hok
  ·rename_i t ht;rw[ht]at r;simp only[aA,bj]at r;refine cH.lJ hO rfl (v:=if t then a.eval x else a.eval y) (by simp[execOp,ho,r,asBool]) ?_;cases t
   ·exact bQ.bP hO.gl jw hy
   ·exact bQ.bP hO.gl jw hx
  ·exact hok.elim
 case alloc e=>
  simp only[Zao,Zaj,Zad,Zaa]at hc;obtain⟨i,hi,z,hz,zs,J1,rfl⟩:=hc;have h:=HO hO hname e (iR J1);refine⟨_,.pointer (some ⟨w.heap.size,0,none⟩),_,_, ?_,.inl rfl,h.1,h.2, ?_⟩
  ·simp[execOp,ho,Instr.alloc,zeroValue,typeInfo,hi,hz,newVar,newRow]
  ·simp only[dj,aA];exact⟨⟨zs,by simp[cG]⟩,by simp[Loc.g6]⟩
 case box e x=>
  simp only[Zac]at hc;obtain⟨y,hy,rfl⟩:=hc;have h:=HO hO hname e (aA.cells (bQ.bP hO.gl jw hy) hok);refine⟨_,.pointer (some ⟨w.heap.size,0,none⟩),_,_, ?_,.inl rfl,h.1,h.2, ?_⟩
  ·simp[execOp,ho,Instr.box,newVar,newRow]
  ·simp only[dj,aA];exact⟨⟨cellsOf (y.ev ρ),by simp[cG]⟩,by simp[Loc.g6]⟩
 case build t parts=>
  simp only[Zao,Zaj,Zad,Zaa]at hc;obtain⟨i,hi,z,hz,zs,J1,pl,Vj,ps,Vo,rfl⟩:=hc;have hzr:=iR (w:=w) (W:=W) (ab:=ab) (L:=L) J1;have XJ:=aQ.length hzr;simp only[Za3]at XJ;simp only[dj]at hok⊢;obtain⟨cells,h1,h2,h3⟩:=Dl hO.gl jw parts.toList ps Vo z.cells zs hzr (by rw[XJ];exact hok);have hb:P.built t (parts.map λx=>(x.1,a.eval x.2)).toList=some cells:=by
   unfold Program.built;unfold places at Vj;cases hu:P.underlying t with
   |none=>simp[hu]at Vj
   |some desc=>
    cases desc<;>simp only[hu,reduceCtorEq]at Vj
    case array n e=>
     simp only[Zac]at Vj;obtain⟨ie,hie,rfl⟩:=Vj;simpa [hi,hz,hie]using h1
    case struct fields=>
     simp only[Zac]at Vj;obtain⟨pl',hpl',rfl⟩:=Vj;simp only[hi,hz,hpl',Array.toList_map];simpa using h1
  refine cH.lJ hO rfl (v:=.agg cells) ?_ (by simp only[aA];exact⟨cells,rfl,h2⟩);have:=run_build w t (parts.map λx=>(x.1,a.eval x.2)) cells hb;simp[execOp,ho,this]
 case buildSlice t len parts=>
  split at hc
  ·rename_i e hu;simp only[Zao,Zaj,Zad]at hc;obtain⟨i,hi,hc⟩:=hc;split at hc
   ·cases hc
   ·rename_i hsz;simp only[Zad,Zaa]at hc;obtain⟨z,hz,zs,J1,ps,Vo,rfl⟩:=hc;have hzr:=iR (w:=w) (W:=W) (ab:=ab) (L:=L) J1;have XJ:=aQ.length hzr;have dM:¬len*i.size>2^24:=λh=>hsz (.inl h);have Gc:i.size≠0:=λh=>hsz (.inr h);simp only[Za3,Array.size_map,Array.size_range]at XJ;simp only[dj]at hok⊢;by_cases h0:len=0
    ·subst h0;simp only[if_true]at hok⊢;subst hok;have hp0:parts.toList=[]:=by
      cases hp:parts.toList with
      |nil=>rfl
      |cons p ps'=>
       rw[hp]at Vo;simp only[sf,Za7,Zao,Zaj,Zad,Zaa,reduceCtorEq,and_false,exists_false]at Vo
     have hp1:parts= #[]:=by cases parts;simp_all
     have hr:=uk (P:=P) w hu hi hz 0 (by simp) (parts:= #[]) (cells:= #[]) (by simp[Instr.fill,Array.range_zero']);have hg:=ct.grow hO (kW (w:=w) (.cells #[] e));refine⟨_,.slice (some ⟨w.heap.size,0,none⟩) 0 0,_,L, ?_,.inl rfl,hg.1,hg.2,by simp only[aA];exact⟨_,rfl⟩⟩;simp[execOp,ho,hp1,hr]
    ·simp only[h0,if_false]at hok⊢;obtain⟨hf,XQ⟩:=hok;obtain⟨cells,h1,h2,h3⟩:=Dl hO.gl jw parts.toList ps Vo _ zs hzr (by simpa using hf);have hr:=uk (P:=P) w hu hi hz len dM (parts:=parts.map λx=>(x.1,a.eval x.2)) (cells:=cells) (by simpa using h1);have hg:=ct.grow hO (kW (w:=w) (.cells cells e));refine⟨_,.slice (some ⟨w.heap.size,0,none⟩) len len,_,L, ?_,.inl rfl,hg.1,hg.2, ?_⟩
     ·simp[execOp,ho,hr]
     ·have Bl:=ol (Qt:=λ_=>none) XQ (aQ.eZ hg.2 _ _ h2);simp only[cG,aA,bj,x7];refine .inr ⟨w.heap.size,0,len,i.size,rfl,by simp, ?_,Zaf _, ?_⟩
      ·rintro(hw|⟨r,ob,sg,xV⟩)
       ·have h1:=hO.under _ hw;have h2:=hO.fr.jq;have h3:=hO.fr.size;omega
       ·have:=(hO.ob r ob sg).lt xV;omega
      ·refine Bq len _ cells.toList _ _ ?_ Bl λj v hj=>?_
       ·rw[ue,x8 _ _ (by rw[<-XJ];exact hf),<-XJ]
       ·rw[Zbi,cell_of_row (w.alloc (.cells cells e)) w.heap.size j cells e (0,0) (heap_alloc_new w _)];simpa using hj
  ·cases hc
 case load t x=>
  split at hc
  ·rename_i desc i hd hi;simp only[Zac]at hc;obtain⟨y,hy,rfl⟩:=hc;simp only[dj]at hok⊢;obtain⟨hp,v,bW,hv⟩:=wF hO hd hi (bQ.bP hO.gl jw hy) hok;exact cH.lJ hO hp (v:=v) (by simp[execOp,ho,bW]) hv
  ·cases hc
 case store t x y=>
  simp only[Zao,Zaj,Zad,Zaa]at hc;obtain⟨i,hi,x',hx,y',hy,rfl⟩:=hc;have rx:=bQ.bP hO.gl jw hx;have ry:=bQ.bP hO.gl jw hy;simp only[dj]at hok⊢;cases hd:x'.ev ρ with
  |ptr r off=>
   rw[hd]at rx;simp only[aA]at rx;obtain⟨⟨cs,oj⟩,Qy⟩:=rx;simp only[hd,lG,oj]at hok⊢;obtain⟨w',h1,h2,h3⟩:=Vg hO hi oj ry hok.1 hok.2.1 hok.2.2;exact⟨.skip,Go.undef,w',L,by simp[execOp,ho,Qy,h1],.inr ⟨rfl,rfl⟩,h2,h3,by simp[aA]⟩
  |ka r bD j off=>
   rw[hd]at rx;simp only[aA]at rx;obtain⟨_,cg,e,sz,av,oj,_,v7⟩:=rx;simp only[hd,lG,oj]at hok⊢;obtain⟨rfl,hn,hfit,XQ⟩:=hok;obtain⟨g,hg,Qy,h0,h1⟩:=v7 rfl;obtain⟨w',h1,h2,h3⟩:=Vh hO hi oj hg h0 h1 ry hn hfit XQ;exact⟨.skip,Go.undef,w',L,by simp[execOp,ho,Qy,h1],.inr ⟨rfl,rfl⟩,h2,h3,by simp[aA]⟩
  |_=>rw[hd]at hok;exact hok.elim
 case nilCheck x=>
  simp only[Zac]at hc;obtain⟨y,hy,rfl⟩:=hc;have rx:=bQ.bP hO.gl jw hy;simp only[dj]at hok⊢;obtain⟨h1,h2,h3⟩:=Do rx hok;refine cH.lJ hO h1 (v:=a.eval x) ?_ (by rw[h2];exact rx);rcases h3 with⟨p,hp⟩|⟨f,bY,hp⟩
  ·simp only[execOp,ho,hp];simp
  ·simp only[execOp,ho,hp];simp
 case binOp op t x y yt=>
  simp only[Zaj,Zad]at hc;obtain⟨x',hx,y',hy,hc⟩:=hc;have rx:=bQ.bP hO.gl jw hx;have ry:=bQ.bP hO.gl jw hy;unfold mA at hc;split at hc
  ·split at hc;all_goals first
    |(simp only[Zaa]at hc;subst hc;exact Vk hO ho rx ry hok)
    |cases hc
  ·rename_i desc Qx hd;split at hc
   ·rename_i cj hs;split at hc
    ·cases hc
    ·rename_i hg;simp only[Zaa]at hc;subst hc;simp only[dj]at hok⊢;obtain⟨k1,k2,hok⟩:=hok;exact Kw (neg:=false) rfl ho hd (λk hk=>Qx k hk) hs (by simpa using hg) hO rx ry k1 k2 hok
   ·rename_i cj hs;split at hc
    ·cases hc
    ·rename_i hg;simp only[Zaa]at hc;subst hc;simp only[dj]at hok⊢;obtain⟨k1,k2,hok⟩:=hok;exact Kw (neg:=true) rfl ho hd (λk hk=>Qx k hk) hs (by simpa using hg) hO rx ry k1 k2 hok
   ·simp only[Zac]at hc;obtain⟨k,hk,rfl⟩:=hc;exact Bs (neg:=false) hO rfl ho hd hy hk rx hok
   ·simp only[Zac]at hc;obtain⟨k,hk,rfl⟩:=hc;exact Bs (neg:=true) hO rfl ho hd hy hk rx hok
   ·cases hc
  ·cases hc
 case makeMap t hint=>
  cases hint with
  |some h=>cases hc
  |none=>
   simp only at hc;split at hc
   ·simp only[Zac]at hc;obtain⟨ki,_,rfl⟩:=hc;exact Kz hO hname ho _ _
   ·cases hc
 case lookup t x k ok=>
  split at hc
  ·rename_i kt et ht;split at hc
   ·rename_i ki z HV hz;simp only[Zao,Zaj,Zad,Zaa]at hc;obtain⟨x',hx,k',hk,rfl⟩:=hc;exact HW hO ho ht HV hz (bQ.bP hO.gl jw hx) (bQ.bP hO.gl jw hk) hok
   ·cases hc
  ·cases hc
 case mapUpdate t x k y=>
  split at hc
  ·rename_i kt et ht;split at hc
   ·rename_i ki HV;simp only[Zao,Zaj,Zad,Zaa]at hc;obtain⟨x',hx,k',hk,y',hy,rfl⟩:=hc;exact HX hO ho ht HV (bQ.bP hO.gl jw hx) (bQ.bP hO.gl jw hk) (bQ.bP hO.gl jw hy) hok
   ·cases hc
  ·cases hc
 case mapEntry t x k=>
  split at hc
  ·rename_i kt et ht;split at hc
   ·rename_i ki z HV hz;simp only[Zao,Zaj,Zad,Zaa]at hc;obtain⟨x',hx,k',hk,rfl⟩:=hc;exact HY hO ho ht HV hz (bQ.bP hO.gl jw hx) (bQ.bP hO.gl jw hk) hok
   ·cases hc
  ·cases hc
 case entryStore t x s y=>
  simp only[Zao,Zaj,Zad,Zaa]at hc;obtain⟨x',hx,k',hk,y',hy,rfl⟩:=hc;exact KA hO ho (bQ.bP hO.gl jw hx) (bQ.bP hO.gl jw hk) (bQ.bP hO.gl jw hy) hok
 case range t x=>
  split at hc
  ·rename_i kt et ht;simp only[Zac]at hc;obtain⟨x',hx,rfl⟩:=hc;exact HZ hO hname ho ht (bQ.bP hO.gl jw hx) hok
  ·cases hc
 case entry x=>
  simp only[Zac]at hc;obtain⟨x',hx,rfl⟩:=hc;exact hok.elim
 case index t x i=>
  split at hc
  ·rename_i ht;simp only[Zao,Zaj,Zad,Zaa]at hc;obtain⟨x',hx,i',hi,rfl⟩:=hc;exact H0 hO ho ht (bQ.bP hO.gl jw hx) (bQ.bP hO.gl jw hi) hok
  ·cases hc
 case panic x=>simp only[Zaa]at hc;subst hc;exact hok.elim
 case makeInterface _ _=>simp only[Zaa]at hc;subst hc;exact hok.elim
 case unOp op t x=>
  simp only[Zac]at hc;obtain⟨y,hy,rfl⟩:=hc;have rx:=bQ.bP hO.gl jw hy;unfold dj Qq at hok⊢;simp only at hok⊢;split at hok
  ·rename_i b hb;rw[hb]at rx;simp only[aA,bj]at rx;split at hok
   ·exact cH.bool hO rfl rfl (by simp[execOp,ho,rx,Op.unary])
   ·exact hok.elim
  ·rename_i k n hb;rw[hb]at rx;simp only[aA,bj]at rx;split at hok
   ·exact cH.int hO rfl rfl (by simp[execOp,ho,rx,Op.unary,Op.intArith])
   ·exact hok.elim
  ·exact hok.elim
 case convert src dst x=>
  split at hc
  ·rename_i k0 k hs hd;simp only[Zac]at hc;obtain⟨y,hy,rfl⟩:=hc;have rx:=bQ.bP hO.gl jw hy;unfold dj at hok⊢;simp only at hok⊢;split at hok
   ·rename_i k1 n hb;rw[hb]at rx;simp only[aA,bj]at rx;exact cH.int hO rfl rfl (by simp[execOp,ho,rx,convert,run_underlying hs,run_underlying hd,Conv.intToInt])
   ·exact hok.elim
  ·cases hc
 case fieldAddr s x f=>
  split at hc
  ·rename_i fs hs;split at hc
   ·rename_i fd hf;split at hc
    ·rename_i fi hi;split at hc
     ·cases hc
     ·rename_i hsz;simp only[Zac]at hc;obtain⟨y,hy,rfl⟩:=hc;have rx:=bQ.bP hO.gl jw hy;simp only[dj]at hok⊢;obtain⟨hp,b,oo,Qy,hv⟩:=HU rx hok;refine cH.lJ hO hp (v:=.pointer (some ⟨b,oo+fd.offset,none⟩)) ?_ hv;simp[execOp,ho,Qy,Instr.fieldAt,run_underlying hs,hf,Instr.sureAddr,fieldPlace,run_sizeOf hi,hsz,mP]
    ·cases hc
   ·cases hc
  ·cases hc
 case field s x f=>
  split at hc
  ·rename_i fs hs;split at hc
   ·rename_i fd hf;split at hc
    ·rename_i fi desc hi hd;simp only[Zac]at hc;obtain⟨y,hy,rfl⟩:=hc;have rx:=bQ.bP hO.gl jw hy;simp only[dj]at hok⊢;obtain⟨hp,v,bW,hv⟩:=Ku hs hf hi hd rx hok;exact cH.lJ hO hp (v:=v) (by simp[execOp,ho,bW]) hv
    ·cases hc
   ·cases hc
  ·cases hc
 case indexAddr t x ix=>
  split at hc
  ·rename_i e ht;split at hc
   ·rename_i i hi;simp only[Zao,Zaj,Zad,Zaa]at hc;obtain⟨x',hx,y',hy,rfl⟩:=hc;simp only[dj]at hok⊢;obtain⟨hp,v,bW,hv⟩:=Vl hO ht hi (bQ.bP hO.gl jw hx) (bQ.bP hO.gl jw hy) hok;exact cH.lJ hO hp (v:=v) (by simp[execOp,ho,bW]) hv
   ·cases hc
  ·rename_i n e ht;split at hc
   ·rename_i i hi;simp only[Zao,Zaj,Zad,Zaa]at hc;obtain⟨x',hx,y',hy,rfl⟩:=hc;simp only[dj]at hok⊢;obtain⟨hp,v,bW,hv⟩:=Gd ht hi (bQ.bP hO.gl jw hx) (bQ.bP hO.gl jw hy) hok;exact cH.lJ hO hp (v:=v) (by simp[execOp,ho,bW]) hv
   ·cases hc
  ·cases hc
 case slice t x lo pW mx=>
  cases mx with
  |some m=>cases hc
  |none=>
   simp only at hc;split at hc
   ·rename_i e ht;split at hc
    ·rename_i i hi;simp only[Zao,Zaj,Zad,Zaa]at hc;obtain⟨x',hx,lo',hlo,hi2,hhi,rfl⟩:=hc;simp only[dj]at hok⊢;obtain⟨hp,v,bW,hv⟩:=Kv hO ht hi (bQ.bP hO.gl jw hx) (Dp hO.gl jw hlo) (Dp hO.gl jw hhi) hok;exact cH.lJ hO hp (v:=v) (by simp[execOp,ho,bW]) hv
    ·cases hc
   ·cases hc
 case extract x i=>
  simp only[Zac]at hc;obtain⟨y,hy,rfl⟩:=hc;have rx:=bQ.bP hO.gl jw hy;unfold dj r8 at hok⊢;simp only at hok⊢;split at hok
  ·rename_i ts hb;rw[hb]at rx;simp only[aA,bj]at rx;obtain⟨vs,hv,hr⟩:=rx;obtain⟨v,mQ,xV⟩:=fN.get hr (i:=i) (t:=ts.getD i default) (by simp[List.getD,show i<ts.length from hok]);refine cH.lJ hO rfl (v:=v) ?_ (by simp only[aA];exact xV);have:vs[i]? =some v:=by simpa using mQ
   simp[execOp,ho,hv,Instr.extract,this]
  ·rename_i ds hb;rw[hb]at rx;simp only[aA]at rx;obtain⟨vs,hv,hr⟩:=rx;have key:∀(ds:bB) (vs:List Value) (i:Nat),eE w W ab L ds vs->i<ds.length->∃v,vs[i]? =some v/\aA w W ab L (ds.getD i .undef) v:=by
    intro ds;induction ds with
    |nil=>intro vs i _ h;simp at h
    |cons d ds ih=>
     intro vs i h hi;simp only[eE]at h;obtain⟨v,vs',rfl,h1,h2⟩:=h;cases i with
     |zero=>exact⟨v,rfl,h1⟩
     |succ i=>simpa using ih vs' i h2 (by simpa using hi)
   obtain⟨v,mQ,xV⟩:=key ds _ i hr hok;refine cH.lJ hO rfl (v:=v) ?_ xV;have:vs[i]? =some v:=by simpa using mQ
   simp[execOp,ho,hv,Instr.extract,this]
  ·exact hok.elim
 case makeSlice t l c=>
  split at hc
  ·rename_i e ht;split at hc
   ·rename_i i hi;split at hc
    ·rename_i z hz;split at hc
     ·rename_i p q;split at hc
      ·rename_i hpq;obtain⟨rfl,hsz⟩:=hpq;simp only[Zao,Zaj,Zad,Zaa]at hc;obtain⟨zero,ui,rfl⟩:=hc;simp only[dj]at hok⊢;obtain⟨v,w',L',h1,h2,h3,h4⟩:=Dj hO ht hi hz hsz ui hname (bQ.bP hO.gl jw (x:=.tmp p) rfl) hok;exact⟨.value v,v,w',L',by simp[execOp,ho,h1],.inl rfl,h2,h3,h4⟩
      ·cases hc
     ·rename_i k p k' q;split at hc
      ·rename_i hpq;obtain⟨rfl,rfl,hsz⟩:=hpq;simp only[Zao,Zaj,Zad,Zaa]at hc;obtain⟨zero,ui,rfl⟩:=hc;simp only[dj]at hok⊢;obtain⟨v,w',L',h1,h2,h3,h4⟩:=Dj hO ht hi hz hsz ui hname (bQ.bP (ρ:=ρ) hO.gl jw (x:=.const (.int k p)) rfl) hok;exact⟨.value v,v,w',L',by simp[execOp,ho,h1],.inl rfl,h2,h3,h4⟩
      ·cases hc
     ·cases hc
    ·cases hc
   ·cases hc
  ·cases hc
 case makeFunc f first bY=>
  split at hc
  ·rename_i hf;simp only[Zao,Zaj,Zad,Zaa]at hc;obtain⟨cs,oj,rfl⟩:=hc;simp only[dj]at hok⊢;have hr:aQ w W ab L (cs.map (·.ev ρ)) (bY.map a.eval).toList:=by
    simpa using GH hO.gl jw oj hok
   refine cH.lJ hO rfl (v:=.func f #[] (bY.map a.eval)) ?_ ?_
   ·have:first= #[]:=by simpa using hf
    simp[execOp,ho,this,Instr.makeFunc]
   ·by_cases hpb:xU (cs.map (·.ev ρ))=true
    ·simp only[hpb,if_true,aA,bj];exact⟨_,rfl,ol (Ac hpb) hr⟩
    ·simp only[hpb];exact⟨_,rfl,hr⟩
  ·cases hc
 case call c=>
  have x9:∀{xs:List Operand},c.args.toList=xs->c.args=xs.toArray:=λh=>by rw[<-h,Array.toArray_toList]
  have htys:∀{xs:List TypeId},c.argTypes.toList=xs->c.argTypes=xs.toArray:=λh=>by rw[<-h,Array.toArray_toList]
  unfold eG at hc;split at hc
  ·split at hc
   ·split at hc
    ·cases hc
    ·simp only[Zac]at hc;obtain⟨y,_,rfl⟩:=hc;exact Zar rfl (nP _ _)
   ·cases hc
  ·obtain⟨ys,_,rfl⟩:=Zac.1 hc;exact hok.elim
  ·rename_i jx;split at hc
   ·rename_i x t hx ht;have Cl:c={callee:=.builtin .len,args:= #[x],argTypes:= #[t]}:=by
     have h1:=x9 hx;have h2:=htys ht;cases c
     simp_all
    subst Cl;split at hc
    ·rename_i e hu;simp only[Zac]at hc;obtain⟨y,hy,rfl⟩:=hc;exact Vm hO ho hu (bQ.bP hO.gl jw hy) hok
    ·rename_i hu;simp only[Zac]at hc;obtain⟨y,hy,rfl⟩:=hc;exact N3 hO ho hu (bQ.bP hO.gl jw hy) hok
    ·rename_i kt et hu;simp only[Zac]at hc;obtain⟨y,hy,rfl⟩:=hc;exact N6 hO ho hu (bQ.bP hO.gl jw hy) hok
    ·cases hc
   ·cases hc
  ·rename_i jx;split at hc
   ·rename_i x y t t' hx ht;have Cl:c={callee:=.builtin .copy,args:= #[x,y],argTypes:= #[t,t']}:=by
     have h1:=x9 hx;have h2:=htys ht;cases c
     simp_all
    subst Cl;split at hc
    ·rename_i e hu;split at hc
     ·rename_i i hi;simp only[Zao,Zaj,Zad,Zaa]at hc;obtain⟨x',mh,y',NB,rfl⟩:=hc;simp only[dj]at hok⊢;obtain⟨v,w',h1,h2,h3,h4⟩:=NZ (t:=t) (t':=t') (ty:=o.type) hO hu hi (bQ.bP hO.gl jw mh) (bQ.bP hO.gl jw NB) hok;exact⟨.value v,v,w',L,by simp[execOp,ho,resolve,invoke,builtin,h1],.inl rfl,h2,h3,h4⟩
     ·cases hc
    ·cases hc
   ·cases hc
  ·rename_i jx;split at hc
   ·rename_i x k t ts' hx ht;have Cl:c={callee:=.builtin .delete,args:= #[x,k],argTypes:=c.argTypes}:=by
     have h1:=x9 hx;cases c
     simp_all
    have Kr:c.argTypes[0]? =some t:=by rw[<-Array.getElem?_toList,ht];rfl
    split at hc
    ·rename_i kt et hu;split at hc
     ·rename_i ki HV;simp only[Zao,Zaj,Zad,Zaa]at hc;obtain⟨x',mh,k',tU,rfl⟩:=hc;exact H1 hO Kr (by rw[ho,<-Cl]) hu HV (bQ.bP hO.gl jw mh) (bQ.bP hO.gl jw tU) hok
     ·cases hc
    ·cases hc
   ·cases hc
  ·rename_i jx;split at hc
   ·rename_i x y hx;have Cl:c={callee:=.builtin .min,args:= #[x,y],argTypes:=c.argTypes}:=by
     have h1:=x9 hx;cases c
     simp_all
    simp only[Zao,Zaj,Zad,Zaa]at hc;obtain⟨x',mh,y',NB,rfl⟩:=hc;exact xZ false hO (by rw[ho,Cl];rfl) (bQ.bP hO.gl jw mh) (bQ.bP hO.gl jw NB) hok
   ·cases hc
  ·rename_i jx;split at hc
   ·rename_i x y hx;have Cl:c={callee:=.builtin .max,args:= #[x,y],argTypes:=c.argTypes}:=by
     have h1:=x9 hx;cases c
     simp_all
    simp only[Zao,Zaj,Zad,Zaa]at hc;obtain⟨x',mh,y',NB,rfl⟩:=hc;exact xZ true hO (by rw[ho,Cl];rfl) (bQ.bP hO.gl jw mh) (bQ.bP hO.gl jw NB) hok
   ·cases hc
  ·rename_i jx;split at hc
   ·rename_i x y t t' hx ht;have Cl:c={callee:=.builtin .append,args:= #[x,y],argTypes:= #[t,t']}:=by
     have h1:=x9 hx;have h2:=htys ht;cases c
     simp_all
    subst Cl;split at hc
    ·cases hc
    ·rename_i KB;have KB:t=t':=by simpa using KB
     subst KB;split at hc
     ·rename_i e hu;split at hc
      ·rename_i i hi;split at hc
       ·rename_i z hz;split at hc
        ·rename_i hsz;simp only[Zao,Zaj,Zad,Zaa]at hc;obtain⟨x',mh,y',NB,rfl⟩:=hc;simp only[dj]at hok⊢;obtain⟨v,w',L',h1,h2,h3,h4⟩:=HR (ty:=o.type) hO hu hi hz hsz.1 hsz.2 hname (bQ.bP hO.gl jw mh) (bQ.bP hO.gl jw NB) hok;exact⟨.value v,v,w',L',by simp[execOp,ho,resolve,invoke,builtin,h1],.inl rfl,h2,h3,h4⟩
        ·cases hc
       ·cases hc
      ·cases hc
     ·cases hc
   ·cases hc
  ·cases hc
def Vp(hO:ct base W M w0 ab w L){e:Nat}{n:bQ}(hc:dz P o=some (.mkSlice e sz N4 zero n))(jw:∀t,aA w W ab L (ρ t) (a.tmps.getD t Go.undef))(hname:ab name=none)
  (hok:(gh sz N4 zero name (n.ev ρ)).ok):cH P base W M w0 ab L w a o (gh sz N4 zero name (n.ev ρ)):=by
 unfold dz at hc;cases ho:o.op<;>simp only[ho,reduceCtorEq]at hc
 case makeSlice t l c=>
  split at hc
  ·rename_i e' ht;split at hc
   ·rename_i i hi;split at hc
    ·rename_i z hz;split at hc
     ·rename_i p q;split at hc
      ·rename_i hpq;obtain⟨rfl,hsz⟩:=hpq;simp only[Zao,Zaj,Zad,Zaa,rO.mkSlice.injEq]at hc;obtain⟨zero',ui,rfl,rfl,rfl,rfl,rfl⟩:=hc;obtain⟨v,w',L',h1,h2,h3,h4⟩:=Bp hO ht hi hz ui hname (bQ.bP hO.gl jw (x:=.tmp p) rfl) hok;exact⟨.value v,v,w',L',by simp[execOp,ho,h1],.inl rfl,h2,h3,h4⟩
      ·cases hc
     ·rename_i k p k' q;split at hc
      ·rename_i hpq;obtain⟨rfl,rfl,hsz⟩:=hpq;simp only[Zao,Zaj,Zad,Zaa,rO.mkSlice.injEq]at hc;obtain⟨zero',ui,rfl,rfl,rfl,rfl,rfl⟩:=hc;obtain⟨v,w',L',h1,h2,h3,h4⟩:=Bp hO ht hi hz ui hname (bQ.bP (ρ:=ρ) hO.gl jw (x:=.const (.int k p)) rfl) hok;exact⟨.value v,v,w',L',by simp[execOp,ho,h1],.inl rfl,h2,h3,h4⟩
      ·cases hc
     ·cases hc
    ·cases hc
   ·cases hc
  ·cases hc
 case binOp op t x y yt=>
  exfalso;simp only[Zaj,Zad]at hc;obtain⟨x',hx,y',hy,hc⟩:=hc;unfold mA at hc;repeat' split at hc
  all_goals first|(cases hc;done)|(simp only[Zac,reduceCtorEq,and_false,exists_false]at hc;done)
 case makeMap t h=>
  exfalso;cases h with
  |some m=>cases hc
  |none=>
   simp only at hc;split at hc
   ·simp only[Zac,reduceCtorEq,and_false,exists_false]at hc
   ·cases hc
 case slice t x lo hi mx=>
  exfalso;cases mx with
  |some m=>cases hc
  |none=>
   simp only at hc;repeat' split at hc
   all_goals simp only[Zac,Zao,Zaj,Zad,Zaa,reduceCtorEq,and_false,exists_false]at hc
 case call c=>
  exfalso;unfold eG at hc;repeat' split at hc
  all_goals first
   |(cases hc;done)
   |(simp only[Zac,Zao,Zaj,Zad,Zaa,reduceCtorEq,and_false,exists_false]at hc;done)
   |skip
 all_goals exfalso
 all_goals first
  |(simp only[Zac,reduceCtorEq,and_false,exists_false]at hc;done)
  |(simp only[Zao,Zaj,Zad,Zaa,reduceCtorEq,and_false,exists_false]at hc;done)
  |(repeat' split at hc)<;>first
    |(simp only[Zac,Zao,Zaj,Zad,Zaa,reduceCtorEq,and_false,exists_false]at hc;done)
    |(simp[Zad]at hc;done)
def no_mkB{e:Nat}{n:bQ}(hc:dz P o=some (.mkSliceB e sz N4 zero n)):False:=by
 unfold dz at hc;cases ho:o.op<;>simp only[ho,reduceCtorEq]at hc
 case makeSlice t l c=>
  repeat' split at hc
  all_goals first
   |(cases hc;done)
   |(simp only[Zao,Zaj,Zad,Zaa,reduceCtorEq,and_false,exists_false]at hc;done)
 case binOp op t x y yt=>
  simp only[Zaj,Zad]at hc;obtain⟨x',hx,y',hy,hc⟩:=hc;unfold mA at hc;repeat' split at hc
  all_goals first|(cases hc;done)|(simp only[Zac,reduceCtorEq,and_false,exists_false]at hc;done)
 case makeMap t h=>
  cases h with
  |some m=>cases hc
  |none=>
   simp only at hc;split at hc
   ·simp only[Zac,reduceCtorEq,and_false,exists_false]at hc
   ·cases hc
 case slice t x lo hi mx=>
  cases mx with
  |some m=>cases hc
  |none=>
   simp only at hc;repeat' split at hc
   all_goals simp only[Zac,Zao,Zaj,Zad,Zaa,reduceCtorEq,and_false,exists_false]at hc
 case call c=>
  unfold eG at hc;repeat' split at hc
  all_goals first
   |(cases hc;done)
   |(simp only[Zac,Zao,Zaj,Zad,Zaa,reduceCtorEq,and_false,exists_false]at hc;done)
 all_goals first
  |(simp only[Zac,reduceCtorEq,and_false,exists_false]at hc;done)
  |(simp only[Zao,Zaj,Zad,Zaa,reduceCtorEq,and_false,exists_false]at hc;done)
  |(repeat' split at hc)<;>first
    |(simp only[Zac,Zao,Zaj,Zad,Zaa,reduceCtorEq,and_false,exists_false]at hc;done)
    |(simp[Zad]at hc;done)
end
end
end Go.DM
