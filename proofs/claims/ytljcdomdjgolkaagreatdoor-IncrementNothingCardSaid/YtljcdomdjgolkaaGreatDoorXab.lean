/- Part of the proof. Conditions: none. -/
import Derived.Test.YtljcdomdjgolkaaGreatDoorXaa
import Derived.Laws.Shifts
set_option linter.unusedSectionVars false
set_option linter.unusedSimpArgs false
set_option linter.unusedVariables false
namespace Go.DM
open Go.RowKit
variable [Laid]
def ofParts(l:List (Nat×Operand))(place:Nat->Option (Nat×Nat)):Option (List (Nat×Nat×bp)):=
 l.mapM λp=>do
  let q<-place p.1
  let x<-bp.of p.2
  pure (q.1,q.2,x)
def places(P:Program)(t:TypeId):Option (Nat->Option (Nat×Nat)):=
 match P.underlying t with
 |some (.struct fields)=>(fields.toList.mapM λf=>(P.info? f.type).map λi=>(f.offset,i.size)).map λpl k=>pl[k]?
 |some (.array _ e)=>(P.info? e).map λie k=>some (k*ie.size,ie.size)
 |_=>none
def zY:Option Operand->Option (Option bp)
 |none=>some none
 |some x=>(bp.of x).map some
def uP:TypeDesc->bp->Option Nat
 |.slice _,.cq .aI=>some 0
 |.pointer _,.cq (.v (.raw (.pointer none)))=>some 1
 |.func _ _ _,.cq (.v (.raw .nilFunc))=>some 2
 |_,_=>none
def fJ(P:Program)(k:TypeId):Option (List Sh×Bool):=
 match P.underlying k,jH P 10000 k with
 |some d,some s=>some (s,bA d)
 |_,_=>none
def CM(P:Program)(e:TypeId):Option DV:=do
 let i<-P.info? e
 let z<-i.zero
 match z with
 |.agg cs=>(cs.toList.mapM kF).map .agg
 |z=>kF z
def kH(P:Program)(op:BinOp)(t:TypeId)(x y:bp):Option nH:=
 match P.underlying t with
 |some (.int _)=>match op with
  |.add|.sub|.mul|.quo|.rem|.eql|.neq|.lss|.leq|.gtr|.geq|.shl|.shr|.and|.or|.xor=>some (.bin op x y)
  |_=>none
 |some d=>match op,jH P 10000 t with
  |.eql,some shs=>if P.eqGuardType P.depth t then none else some (.eqT false (bA d) shs x y)
  |.neq,some shs=>if P.eqGuardType P.depth t then none else some (.eqT true (bA d) shs x y)
  |.eql,none=>(uP d y).map λk=>.isNil k false x
  |.neq,none=>(uP d y).map λk=>.isNil k true x
  |_,_=>none
 |none=>none
def c8(P:Program)(c:Call):Option nH:=
 match c.callee with
 |.value (.func f)=>match P.funcs[f]? with
  |some fn=>if fn.name= "runtime.NumGoroutine" \/fn.body.isNone then none else(c.args.toList.mapM bp.of).map (.call f)
  |none=>none
 |.value (.tmp t)=>(c.args.toList.mapM bp.of).map (.callv (.tmp t))
 |.builtin .len=>match c.args.toList,c.argTypes.toList with
  |[x],[t]=>match P.underlying t with
   |some (.slice _)=>(bp.of x).map .len
   |some .string=>(bp.of x).map .lenS
   |some (.map _ _)=>(bp.of x).map .lenM
   |_=>none
  |_,_=>none
 |.builtin .copy=>match c.args.toList,c.argTypes.toList with
  |[x,y],[t,_]=>match P.underlying t with
   |some (.slice e)=>match P.info? e with
    |some i=>do return .copy i.size (<-bp.of x) (<-bp.of y)
    |none=>none
   |_=>none
  |_,_=>none
 |.builtin .delete=>match c.args.toList,c.argTypes.toList with
  |[x,k],t::_=>match P.underlying t with
   |some (.map kt _)=>match fJ P kt with
    |some ki=>do return .mapDel ki.1 ki.2 (<-bp.of x) (<-bp.of k)
    |none=>none
   |_=>none
  |_,_=>none
 |.builtin .min=>match c.args.toList with
  |[x,y]=>do return .minmax false (<-bp.of x) (<-bp.of y)
  |_=>none
 |.builtin .max=>match c.args.toList with
  |[x,y]=>do return .minmax true (<-bp.of x) (<-bp.of y)
  |_=>none
 |.builtin .append=>match c.args.toList,c.argTypes.toList with
  |[x,y],[t,t']=>if t≠t' then none else match P.underlying t with
   |some (.slice e)=>match P.info? e with
    |some i=>match i.zero with
     |some z=>if z.cells.size=i.size/\0<i.size then do return .append e i.size i.bytes (<-bp.of x) (<-bp.of y)else none
     |none=>none
    |none=>none
   |_=>none
  |_,_=>none
 |_=>none
def cE(P:Program)(o:Oper):Option nH:=
 match o.op with
 |.move x|.assign x=>(bp.of x).map .bP
 |.pick c a b=>do return .pick (<-bp.of c) (<-bp.of a) (<-bp.of b)
 |.alloc e=>do
  let i<-P.info? e
  let z<-i.zero
  return .alloc (<-z.cells.toList.mapM kF)
 |.box _ x=>(bp.of x).map .box
 |.build t parts=>do
  let i<-P.info? t
  let z<-i.zero
  let zs<-z.cells.toList.mapM kF
  let pl<-places P t
  return .build zs (<-ofParts parts.toList pl)
 |.buildSlice t len parts=>
  match P.underlying t with
  |some (.slice e)=>do
   let ei<-P.info? e
   if len*ei.size>2^24\/ei.size=0 then none else
   let z<-ei.zero
   let zs<-(((Array.range (len*ei.size)).map (z.cells[· % z.cells.size]!)).toList).mapM kF
   return .bslice len ei.size zs (<-ofParts parts.toList λk=>some (k*ei.size,ei.size))
  |_=>none
 |.load t a=>match P.underlying t,P.info? t with
  |some d,some i=>(bp.of a).map (.load i.size (bA d))
  |_,_=>none
 |.store t a x=>do
  let i<-P.info? t
  return .store i.size (<-bp.of a) (<-bp.of x)
 |.nilCheck x=>(bp.of x).map .nilCheck
 |.binOp op t x y _=>do kH P op t (<-bp.of x) (<-bp.of y)
 |.unOp op _ x=>(bp.of x).map (.un op)
 |.convert src dst x=>match P.underlying src,P.underlying dst with
  |some (.int _),some (.int k)=>(bp.of x).map (.conv k)
  |_,_=>none
 |.fieldAddr s x f=>match P.underlying s with
  |some (.struct fs)=>match fs[f]? with
   |some fd=>match P.info? fd.type with
    |some fi=>if fi.size=0 then none else(bp.of x).map (.addOff fd.offset)
    |none=>none
   |none=>none
  |_=>none
 |.field s x f=>match P.underlying s with
  |some (.struct fs)=>match fs[f]? with
   |some fd=>match P.info? fd.type,P.underlying fd.type with
    |some fi,some d=>(bp.of x).map (.field fd.offset fi.size (bA d))
    |_,_=>none
   |none=>none
  |_=>none
 |.indexAddr t x ix=>match P.underlying t with
  |some (.slice e)=>match P.info? e with
   |some i=>do return .idxAddr i.size (<-bp.of x) (<-bp.of ix)
   |none=>none
  |some (.array n e)=>match P.info? e with
   |some i=>do return .arrAddr n i.size (<-bp.of x) (<-bp.of ix)
   |none=>none
  |_=>none
 |.slice t x lo hi none=>match P.underlying t with
  |some (.slice e)=>match P.info? e with
   |some i=>do return .slice i.size (<-bp.of x) (<-zY lo) (<-zY hi)
   |none=>none
  |_=>none
 |.extract t i=>(bp.of t).map (.extract i)
 |.makeSlice t l c=>match P.underlying t with
  |some (.slice e)=>match P.info? e with
   |some i=>match i.zero with
    |some z=>match l,c with
     |.tmp a,.tmp b=>if a=b/\0<i.size then do return .mkSlice e i.size i.bytes (<-z.cells.toList.mapM pa) (.tmp a)else none
     |.const (.int k a),.const (.int k' b)=>if a=b/\k=k'/\0<i.size then do return .mkSlice e i.size i.bytes (<-z.cells.toList.mapM pa) (.cq (.v (.int k a)))else none
     |_,_=>none
    |none=>none
   |none=>none
  |_=>none
 |.makeFunc f first caps=>if first.isEmpty then do return .mkFn f (<-caps.toList.mapM bp.of)else none
 |.call c=>c8 P c
 |.makeMap t none=>match P.underlying t with
  |some (.map kt _)=>(fJ P kt).map λki=>.mkMap ki.1 ki.2
  |_=>none
 |.lookup t x k ok=>match P.underlying t with
  |some (.map kt e)=>match fJ P kt,CM P e with
   |some ki,some z=>do return .lookup ki.1 ki.2 z ok (<-bp.of x) (<-bp.of k)
   |_,_=>none
  |_=>none
 |.mapUpdate t x k y=>match P.underlying t with
  |some (.map kt _)=>match fJ P kt with
   |some ki=>do return .mapUpd ki.1 ki.2 (<-bp.of x) (<-bp.of k) (<-bp.of y)
   |none=>none
  |_=>none
 |.mapEntry t x k=>match P.underlying t with
  |some (.map kt e)=>match fJ P kt,CM P e with
   |some ki,some z=>do return .mapEnt ki.1 ki.2 z (<-bp.of x) (<-bp.of k)
   |_,_=>none
  |_=>none
 |.entryStore _ x s y=>do return .entSt (<-bp.of x) (<-bp.of s) (<-bp.of y)
 |.range t x=>match P.underlying t with
  |some (.map _ _)=>(bp.of x).map .rangeM
  |_=>none
 |.entry x=>(bp.of x).map .entryM
 |.index t x i=>match P.underlying t with
  |some .string=>do return .indexS (<-bp.of x) (<-bp.of i)
  |_=>none
 |.panic _|.makeInterface .. =>some .fail
 |_=>none
section
variable{w:World}{W:Nat->Prop}{objs:aU}{L:Loc}
theorem CO(off:Nat):∀(vs:List Value) (j0:Nat) (cs:Array Value),off+j0+vs.length<=cs.size->
  (vs.zipIdx j0).foldl (λcs (x:Value×Nat)=>cs.setIfInBounds (off+x.2) x.1) cs=(bH cs.toList (off+j0) vs).toArray
 |[],j0,cs,_=>by simp[bH]
 |v::vs,j0,cs,h=>by
  simp only[Zba]at h;simp only[Zb7,ZaB];rw[CO off vs (j0+1) _ (by simp;omega)]
  congr 1
  simp only[bH,Array.toList_setIfInBounds,Zba];have e:=list_seg_step cs.toList (off+j0) v vs (by simp;omega);simpa [Nat.add_assoc]using e
theorem zZ{a:Act}{ρ:Nat->DV}(hg:zN w (WW W objs L))(gX:∀t,av w W objs L (ρ t) (a.tmps.getD t Go.undef)){place:Nat->Option (Nat×Nat)}:∀(ps:List (Nat×Operand)) (qs:List (Nat×Nat×bp)),ofParts ps place=some qs->
  ∀(cells:Array Value) (ds:List DV),aK w W objs L ds cells.toList->qG cells.size (qs.map λp=>(p.1,p.2.1,p.2.2.ev ρ))->
   ∃z7,Instr.fill place cells (ps.map λp=>(p.1,a.eval p.2))=some z7/\aK w W objs L (sY ds (qs.map λp=>(p.1,p.2.1,p.2.2.ev ρ))) z7.toList/\z7.size=cells.size
 |[],qs,h,cells,ds,hd,_=>by
  simp[ofParts]at h;subst h;exact⟨cells,rfl,by simpa [sY]using hd,rfl⟩
 |p::ps,qs,h,cells,ds,hd,aF=>by
  simp only[ofParts,Za2,Zaj,Zaf,Zac,Zaa]at h;obtain⟨q,⟨pl,PV,x,hx,rfl⟩,qs',hqs,rfl⟩:=h;simp only[Zau,qG]at aF;obtain⟨hl,qK,zh,ta⟩:=aF;have hv:=bp.bq hg gX hx;have mC:=nK hv zh;have bd:(a.eval p.2).cells.size=pl.2:=by have:=aK.length mC;simpa [hl]using this
  have W4:((a.eval p.2).cells.zipIdx.foldl (λcs (x:Value×Nat)=>cs.setIfInBounds (pl.1+x.2) x.1) cells)=(bH cells.toList pl.1 (a.eval p.2).cells.toList).toArray:=by
   rw[<-Array.foldl_toList,Array.toList_zipIdx];have:=CO pl.1 (a.eval p.2).cells.toList 0 cells (by simp[bd];omega);simpa using this
  have hd':aK w W objs L (bH ds pl.1 (cellsOf (x.ev ρ))) (bH cells.toList pl.1 (a.eval p.2).cells.toList).toArray.toList:=by
   simpa using aK.bH pl.1 hd mC
  have gB:(bH cells.toList pl.1 (a.eval p.2).cells.toList).toArray.size=cells.size:=by
   have:=fB (l:=cells.toList) (new:=(a.eval p.2).cells.toList) (off:=pl.1) (by simp[bd];omega);simpa using this
  obtain⟨z7,h1,h2,h3⟩:=zZ hg gX ps qs' (by simpa [ofParts]using hqs) _ _ hd' (by rw[gB];exact ta);refine⟨z7, ?_,by simpa only[Zau,sY]using h2,h3.trans gB⟩;simp only[Zau,Instr.fill,PV,bd];rw[if_neg (by simp;omega),W4];exact h1
theorem qR{P:Program}(w:World){t e:TypeId}{i:TypeInfo}{z:Value}(ht:P.underlying t=some (.slice e))(hi:P.info? e=some i)(hz:i.zero=some z)(len:Nat)(hlen:¬len*i.size>2^24){parts:Array (Nat×Value)}{cells:Array Value}
  (h:Instr.fill (λk=>some (k*i.size,i.size)) ((Array.range (len*i.size)).map (z.cells[· % z.cells.size]!)) parts.toList=some cells):
  (Instr.buildSlice t len parts).run P w=.ok (.slice (some ⟨w.heap.size,0,none⟩) len len) (w.alloc (.cells cells e)):=by
 by_cases h0:len*i.size=0
 ·have h':Instr.fill (λk=>some (k*i.size,i.size)) #[] parts.toList=some cells:=by
   rw[h0]at h;simpa [Array.range_zero']using h
  simp[Instr.buildSlice,run_underlying ht,run_sizeOf hi,h0,h',newRow,Array.range_zero']
 ·simp[Instr.buildSlice,run_underlying ht,run_sizeOf hi,zeroValue,typeInfo,hi,hz,h0,hlen,h,newRow]
end
end Go.DM
namespace Go.DM
open Go.RowKit
variable [Laid]
def bQ(P:Program)(base:Nat)(W M:Nat->Prop)(w0:World)(objs:aU)(L:Loc)(w:World)(a:Act)(o:Oper)(e:oj):Prop:=
 ∃nx v w' L',(execOp a.eval o).run P w=.ok nx w'/\(nx=.value v\/(nx=.skip/\v=Go.undef))/\
  bK base W M w0 (bR objs e.put) w' L'/\iX W objs L w (bR objs e.put) L' w'/\av w' W (bR objs e.put) L' e.val v
section
variable{P:Program}{base:Nat}{W M:Nat->Prop}{w0:World}{objs:aU}{L:Loc}{w:World}{a:Act}{o:Oper}
theorem bQ.quiet(hO:bK base W M w0 objs w L){e:oj}(nL:e.put=none){v:Value}(bz:(execOp a.eval o).run P w=.ok (.value v) w)(hv:av w W objs L e.val v):bQ P base W M w0 objs L w a o e:=
 ⟨.value v,v,w,L,bz,.inl rfl,by rw[nL];exact hO,by rw[nL];exact iX.cd (cb.refl _ _),by rw[nL];exact hv⟩
theorem bQ.int(hO:bK base W M w0 objs w L){e:oj}(nL:e.put=none){k:IntKind}{n:Int}(cY:e.val=.v (.int k n))(bz:(execOp a.eval o).run P w=.ok (.value (.int k n)) w):bQ P base W M w0 objs L w a o e:=
 bQ.quiet hO nL bz (by rw[cY];simp[av,aR])
theorem bQ.bool(hO:bK base W M w0 objs w L){e:oj}(nL:e.put=none){b:Bool}(cY:e.val=.v (.bool b))(bz:(execOp a.eval o).run P w=.ok (.value (.bool b)) w):bQ P base W M w0 objs L w a o e:=
 bQ.quiet hO nL bz (by rw[cY];simp[av,aR])
theorem N5(hO:bK base W M w0 objs w L){op:BinOp}{t:TypeId}{x y:Operand}{yt:TypeId}(ho:o.op=.binOp op t x y yt){d1 d2:DV}(h1:av w W objs L d1 (a.eval x))(h2:av w W objs L d2 (a.eval y))(aF:(qH op d1 d2).ok):
  bQ P base W M w0 objs L w a o (qH op d1 d2):=by
 have key:∀{k k':IntKind} {p q:Int},d1=.v (.int k p)->d2=.v (.int k' q)->bQ P base W M w0 objs L w a o (qH op d1 d2):=by
  rintro k k' p q rfl rfl;simp only[av,aR]at h1 h2;have hex:∀(v:Value),(eqGuard op t x y (.int k p) (.int k' q)).run P w=.ok () w->(binOp op t (.int k p) (.int k' q)).run P w=.ok v w->(execOp a.eval o).run P w=.ok (.value v) w:=by
   intro v e1 e2;simp[execOp,ho,h1,h2,e1,e2]
  have hg:(eqGuard op t x y (.int k p) (.int k' q)).run P w=.ok () w:=by cases op<;>simp[eqGuard]
  cases op<;>simp only[qH,bad]at aF⊢
  all_goals first
   |exact aF.elim
   |(subst aF;first
     |(refine bQ.int hO rfl rfl (hex _ hg ?_);simp[binOp,Op.intArith];done)
     |(refine bQ.int hO rfl rfl (hex _ hg ?_);simp[binOp,Op.intBits];done)
     |(refine bQ.bool hO rfl rfl (hex _ hg ?_);simp[binOp,Op.intCmp];done)
     |(refine bQ.bool hO rfl rfl (hex _ hg ?_);simp[binOp,Op.intCmp];rfl))
   |(refine bQ.int hO rfl rfl (hex _ hg ?_);simp[binOp,shift_shl_any _ _ _ _ aF,shift_shr_any _ _ _ _ aF];done)
   |(obtain⟨rfl,hq⟩:=aF;exact bQ.int hO rfl rfl (hex _ hg (by simp[binOp,Op.intDiv,hq])))
 unfold qH at aF;split at aF
 ·exact key rfl rfl
 ·exact aF.elim
theorem Ef{d:DV}{x:Value}{cs:List DV}(h:av w W objs L d x)(hc:lj d=some cs):∃vs:Array Value,x=.agg vs/\aK w W objs L cs vs.toList:=by
 cases d with
 |v t=>
  cases t with
  |agg ts=>
   simp only[lj,Zaa]at hc;subst hc;simp only[av,aR]at h;obtain⟨vs,rfl,hr⟩:=h;exact⟨vs,rfl,aK.o9 hr⟩
  |_=>simp[lj]at hc
 |agg ds=>
  simp only[lj,Zaa]at hc;subst hc;simp only[av]at h;exact h
 |_=>simp[lj]at hc
theorem Gm{s:TypeId}{xv:Value}{f:Nat}{fs:Array Field}{fd:Field}{i:TypeInfo}{desc:TypeDesc}(hs:P.underlying s=some (.struct fs))(hf:fs[f]? =some fd)(hi:P.info? fd.type=some i)(hd:P.underlying fd.type=some desc)
  {d:DV} (h:av w W objs L d xv) (aF:(mw fd.offset i.size (bA desc) d).ok):
  (mw fd.offset i.size (bA desc) d).put=none/\∃v,(Instr.field s xv f).run P w=.ok v w/\av w W objs L (mw fd.offset i.size (bA desc) d).val v:=by
 unfold mw at aF⊢;cases hc:lj d with
 |none=>simp[hc,bad]at aF
 |some cs=>
  simp only[hc]at aF⊢;obtain⟨vs,rfl,hr⟩:=Ef h hc;have hl:=aK.length hr;have hp:=lk (P:=P) w hd hi (xs:=vs.toList) (off:=fd.offset) aF.2 (by omega);simp only[Array.toArray_toList]at hp;refine⟨trivial,_,by simp[Instr.field,run_underlying hs,hf,asAgg,hp];rfl, ?_⟩;by_cases ha:bA desc=true
  ·simp only[ha,if_true,wk,av];exact⟨_,rfl,by simpa using aK.take i.size (aK.drop fd.offset hr)⟩
  ·have h1:i.size=1:=aF.2.resolve_left ha;have cW:fd.offset<cs.length:=by omega
   obtain⟨v,pU,_,ff⟩:=aK.get hr (i:=fd.offset) (d:=cs[fd.offset]) (by simp[cW]);have e1:(List.take i.size (List.drop fd.offset vs.toList)).getD 0 Go.undef=v:=by
    rw[h1];simp only[List.getD,ZaF,Zbb,ZbI,pU];simp
   have e2:cs.getD fd.offset .undef=cs[fd.offset]:=by simp[List.getD,cW]
   simp only[ha,wk,e1,e2];exact ff
theorem Eg{k:Nat}{d:DV}{xv:Value}(h:av w W objs L d xv)(aF:(fO k d).ok):
  (fO k d).put=none/\∃b o,xv=.pointer (some ⟨b,o,none⟩)/\av w W objs L (fO k d).val (.pointer (some ⟨b,o+k,none⟩)):=by
 cases d with
 |ptr r off=>
  simp only[av]at h;obtain⟨hc,rfl⟩:=h;exact⟨rfl,_,_,rfl,by simp only[fO,av];exact⟨hc,trivial⟩⟩
 |ky rows i off=>
  simp only[av]at h;obtain⟨b,o,sz,rfl,rest⟩:=h;exact⟨rfl,_,_,rfl,by simp only[fO,av];exact⟨b,o,sz,by rw[Nat.add_assoc],rest⟩⟩
 |gz cs off=>
  simp only[av]at h;obtain⟨b,o,rfl,rest⟩:=h;exact⟨rfl,_,_,rfl,by simp only[fO,av];exact⟨b,o,by rw[Nat.add_assoc],rest⟩⟩
 |jd r ver i off=>
  simp only[av]at h;obtain⟨⟨b,o,rfl⟩,ver',e,sz,rows,ho,hle,hx⟩:=h;refine⟨rfl,_,_,rfl, ?_⟩;simp only[fO,av];refine⟨⟨_,_,rfl⟩,ver',e,sz,rows,ho,hle,λhv=>?_⟩;obtain⟨g,hg,hp,h0,h1⟩:=hx hv;simp only[Value.pointer.injEq,Zaa,Addr.mk.injEq,and_true]at hp;exact⟨g,hg,by rw[hp.1,hp.2,Nat.add_assoc],h0,h1⟩
 |v t=>
  cases t with
  |box cs=>
   simp only[av,aR]at h;obtain⟨b,o,rfl,rest⟩:=h;exact⟨rfl,_,_,rfl,by simp only[fO,av];exact⟨b,o,rfl,rest⟩⟩
  |_=>exact aF.elim
 |_=>exact aF.elim
theorem z8{d:DV}{xv:Value}(h:av w W objs L d xv)(aF:(jt d).ok):
  (jt d).put=none/\(jt d).val=d/\((∃p,xv=.pointer (some p))\/∃f caps,xv=.func (.func f) #[] caps):=by
 cases d with
 |ptr r off=>simp only[av]at h;obtain⟨_,rfl⟩:=h;exact⟨rfl,rfl,.inl ⟨_,rfl⟩⟩
 |ky rows i off=>simp only[av]at h;obtain⟨b,o,sz,rfl,_⟩:=h;exact⟨rfl,rfl,.inl ⟨_,rfl⟩⟩
 |gz cs off=>simp only[av]at h;obtain⟨b,o,rfl,_⟩:=h;exact⟨rfl,rfl,.inl ⟨_,rfl⟩⟩
 |jd r ver i off=>simp only[av]at h;obtain⟨⟨b,o,rfl⟩,_⟩:=h;exact⟨rfl,rfl,.inl ⟨_,rfl⟩⟩
 |v t=>
  cases t with
  |box cs=>simp only[av,aR]at h;obtain⟨b,o,rfl,_⟩:=h;exact⟨rfl,rfl,.inl ⟨_,rfl⟩⟩
  |fn f caps=>
   cases f with
   |func f=>simp only[av,aR]at h;obtain⟨vs,rfl,_⟩:=h;exact⟨rfl,rfl,.inr ⟨_,_,rfl⟩⟩
   |_=>exact aF.elim
  |_=>exact aF.elim
 |_=>exact aF.elim
theorem N6{t e:TypeId}{i:TypeInfo}(hO:bK base W M w0 objs w L)(ht:P.underlying t=some (.slice e))(hi:P.info? e=some i){d d2:DV}{xv yv:Value}(h:av w W objs L d xv)(h2:av w W objs L d2 yv)(aF:(o6 i.size objs d d2).ok):
  (o6 i.size objs d d2).put=none/\∃v,(Instr.indexAt t xv yv).run P w=.ok v w/\av w W objs L (o6 i.size objs d d2).val v:=by
 have bz:∀(b o n c:Nat) (k:IntKind) (j:Int),0<=j->j<n->(Instr.indexAt t (.slice (some ⟨b,o,none⟩) n c) (.int k j)).run P w=.ok (.pointer (some ⟨b,o+j.toNat*i.size,none⟩)) w:=by
  intro b o n c k j h0 h1;simp[Instr.indexAt,asIntOf,run_underlying ht,h0,h1,run_sizeOf hi,kY]
 unfold o6 at aF⊢;split at aF
 ·rename_i rows k j;simp only at aF⊢;obtain⟨h0,h1,gB⟩:=aF;simp only[av,aR]at h h2;subst h2;rcases h with⟨rfl,_⟩|⟨b,o,cap,sz,rfl,hb,hn,hc,hr⟩
  ·simp at h1;omega
  ·have lW:=(aX.row hr (wI h0 h1)).1;have hsz':sz=i.size:=by omega
   subst hsz';refine⟨trivial,_,bz b o _ _ k j h0 h1, ?_⟩;simp only[av];exact⟨b,o,_,by rw[ZbI],hb,hn,hr,h0,h1⟩
 ·rename_i r ver k j;cases hc:objs r with
  |none=>simp[hc,bad]at aF
  |some ob=>
   cases ob with
   |box cs=>simp[hc,bad]at aF
   |map _ _ _ _=>simp[hc,bad]at aF
   |iter _ _ _ _=>simp[hc,bad]at aF
   |arr ver' e' fY rows=>
    simp only[hc]at aF⊢;obtain⟨rfl,rfl,h0,h1⟩:=aF;simp only[av,aR]at h h2;subst h2;obtain⟨_,nI,e2,CH,jP,lI,_,hv⟩:=h;rw[hc]at lI;cases lI;have hv:=hv rfl;subst hv;have fH:=hO.ob r _ hc;obtain⟨gB,cS,hm,kl⟩:=fH;rcases kl with⟨rfl,_⟩|⟨g',cap,cur,pU,hp,hh,hle,pb,D9,eI⟩
    ·simp at h1;omega
    ·refine⟨trivial,_,by rw[pU];exact bz g' 0 _ _ k j h0 h1, ?_⟩;simp only[av];exact⟨⟨_,_,rfl⟩,ver,e',_,rows,hc,Zae _,λ_=>⟨g',by simp[pU,aO,Zay.1 hp],by simp,h0,h1⟩⟩
 ·rename_i r ver lo n k j;cases hc:objs r with
  |none=>simp[hc,bad]at aF
  |some ob=>
   cases ob with
   |box cs=>simp[hc,bad]at aF
   |map _ _ _ _=>simp[hc,bad]at aF
   |iter _ _ _ _=>simp[hc,bad]at aF
   |arr ver' e' fY rows=>
    simp only[hc]at aF⊢;obtain⟨rfl,rfl,h0,h1⟩:=aF;simp only[av,aR]at h h2;subst h2;obtain⟨_,nI,e2,CH,jP,lI,_,hv⟩:=h;rw[hc]at lI;cases lI;have hv:=hv rfl;rcases qN hO hc hv with⟨rfl,_⟩|⟨g,c,uA,rfl,Qn,_⟩
    ·simp at h1;omega
    ·refine⟨trivial,_,bz g _ _ _ k j h0 h1, ?_⟩;have hl:=hv.1;have e1:((lo:Int)+j).toNat=lo+j.toNat:=by omega
     simp only[av];exact⟨⟨_,_,rfl⟩,ver,e',_,rows,hc,Zae _,λ_=>⟨g,uA,by rw[e1,Nat.add_mul];simp,by omega,by omega⟩⟩
 ·rename_i r n k j;simp only[av,aR]at h h2;subst h2;obtain⟨hc,rfl⟩:=h;obtain⟨h0,h1⟩:=aF;refine⟨rfl,_,bz _ _ _ _ k j h0 h1, ?_⟩;simp only[av];exact⟨hc,by simp⟩
 ·exact aF.elim
theorem Ch{t e:TypeId}{i:TypeInfo}{n:Nat}(ht:P.underlying t=some (.array n e))(hi:P.info? e=some i){d d2:DV}{xv yv:Value}(h:av w W objs L d xv)(h2:av w W objs L d2 yv)(aF:(jl n i.size d d2).ok):
  (jl n i.size d d2).put=none/\∃v,(Instr.indexAt t xv yv).run P w=.ok v w/\av w W objs L (jl n i.size d d2).val v:=by
 have bz:∀(b o:Nat) (k:IntKind) (j:Int),0<=j->j<n->(Instr.indexAt t (.pointer (some ⟨b,o,none⟩)) (.int k j)).run P w=.ok (.pointer (some ⟨b,o+j.toNat*i.size,none⟩)) w:=by
  intro b o k j h0 h1;by_cases hn:n<=1<;>simp[Instr.indexAt,asIntOf,run_underlying ht,h0,h1,run_sizeOf hi,kY,Instr.sureAddr]
 unfold jl at aF⊢;split at aF
 ·rename_i r off k j;simp only[av,aR]at h h2;obtain⟨hc,rfl⟩:=h;subst h2;exact⟨rfl,_,bz _ _ k j aF.1 aF.2,by simp only[av];exact⟨hc,trivial⟩⟩
 ·rename_i rows q off k j;simp only[av,aR]at h h2;obtain⟨b,o,sz,rfl,rest⟩:=h;subst h2;exact⟨rfl,_,bz _ _ k j aF.1 aF.2,by simp only[av];exact⟨b,o,sz,by rw[Nat.add_assoc],rest⟩⟩
 ·rename_i cs off k j;simp only[av,aR]at h h2;obtain⟨b,o,rfl,rest⟩:=h;subst h2;exact⟨rfl,_,bz _ _ k j aF.1 aF.2,by simp only[av];exact⟨b,o,by rw[Nat.add_assoc],rest⟩⟩
 ·rename_i cs k j;simp only[av,aR]at h h2;obtain⟨b,o,rfl,rest⟩:=h;subst h2;exact⟨rfl,_,bz _ _ k j aF.1 aF.2,by simp only[av];exact⟨b,o,rfl,rest⟩⟩
 ·rename_i r ver q off k j;simp only[av,aR]at h h2;obtain⟨⟨b,o,rfl⟩,ver',e,sz,rows,ho,hle,hx⟩:=h;subst h2;refine⟨rfl,_,bz _ _ k j aF.1 aF.2, ?_⟩;simp only[av];refine⟨⟨_,_,rfl⟩,ver',e,sz,rows,ho,hle,λhv=>?_⟩;obtain⟨g,hg,hp,h0,h1⟩:=hx hv;simp only[Value.pointer.injEq,Zaa,Addr.mk.injEq,and_true]at hp;exact⟨g,hg,by rw[hp.1,hp.2,Nat.add_assoc],h0,h1⟩
 ·exact aF.elim
theorem N7{x:Operand}{t e:TypeId}(hO:bK base W M w0 objs w L)(ho:o.op=.call {callee:=.builtin .len,args:= #[x],argTypes:= #[t]})(ht:P.underlying t=some (.slice e)){d:DV}(h:av w W objs L d (a.eval x))(aF:(tF objs d).ok):
  bQ P base W M w0 objs L w a o (tF objs d):=by
 have sQ:∀(p:Option Addr) (n c:Nat),a.eval x=.slice p n c->(execOp a.eval o).run P w=.ok (.value (.int .i64 n)) w:=by
  rintro p n c hx;simp[execOp,ho,resolve,invoke,builtin,hx,Builtin.len_,run_underlying ht,goInt]
 cases d with
 |v t'=>
  cases t' with
  |sl rows=>
   simp only[av,aR]at h;rcases h with⟨rfl,p,c,hx⟩|⟨b,oo,cap,sz,hx,_⟩
   ·exact bQ.int hO rfl rfl (sQ _ _ _ hx)
   ·exact bQ.int hO rfl rfl (sQ _ _ _ hx)
  |_=>exact aF.elim
 |aI=>
  simp only[av]at h;obtain⟨p,hx⟩:=h;exact bQ.int hO rfl rfl (sQ _ _ _ hx)
 |bk r ver=>
  simp only[av]at h;obtain⟨_,ver',e',sz,rows,hc,_,hv⟩:=h;simp only[tF,hc]at aF⊢;have hv:=hv aF;have fH:=hO.ob r _ hc;obtain⟨gB,cS,hm,kl⟩:=fH;rcases kl with⟨rfl,p,hp⟩|⟨g',cap,cur,pU,hp,hh,hle,pb,D9,eI⟩
  ·exact bQ.int hO rfl rfl (sQ _ _ _ (hv.trans hp))
  ·exact bQ.int hO rfl rfl (sQ _ _ _ (hv.trans pU))
 |sP r ver lo n=>
  simp only[av]at h;obtain⟨⟨p,c,hx⟩,_⟩:=h;exact bQ.int hO rfl rfl (sQ _ _ _ hx)
 |D4 r n=>
  simp only[av]at h;obtain⟨_,hx⟩:=h;exact bQ.int hO rfl rfl (sQ _ _ _ hx)
 |_=>exact aF.elim
theorem JI{x:Operand}{t:TypeId}(hO:bK base W M w0 objs w L)(ho:o.op=.call {callee:=.builtin .len,args:= #[x],argTypes:= #[t]})(ht:P.underlying t=some .string){d:DV}(h:av w W objs L d (a.eval x))(aF:(sa d).ok):
  bQ P base W M w0 objs L w a o (sa d):=by
 unfold sa at aF⊢;split at aF
 ·simp only[av,aR]at h;refine bQ.int hO rfl rfl ?_;simp[execOp,ho,resolve,invoke,builtin,h,Builtin.len_,run_underlying ht,goInt]
 ·exact aF.elim
theorem uQ{x y:Operand}{ts:Array TypeId}(m:Bool)(hO:bK base W M w0 objs w L)(ho:o.op=.call {callee:=.builtin (if m then .max else .min),args:= #[x,y],argTypes:=ts}){d1 d2:DV}(h1:av w W objs L d1 (a.eval x))(h2:av w W objs L d2 (a.eval y))(aF:(mf m d1 d2).ok):
  bQ P base W M w0 objs L w a o (mf m d1 d2):=by
 unfold mf at aF⊢;split at aF
 ·rename_i k p k' q;simp only[av,aR]at h1 h2;have hok':k=k':=aF;subst hok';cases m
  ·have e:(if q<p then q else p)=min p q:=by omega
   refine bQ.int hO rfl rfl ?_;simp[execOp,ho,resolve,invoke,builtin,h1,h2,run_min_int2,e]
  ·have e:(if q>p then q else p)=max p q:=by omega
   refine bQ.int hO rfl rfl ?_;simp only[gt_iff_lt]at e;simp[execOp,ho,resolve,invoke,builtin,h1,h2,run_max_int2,e]
 ·exact aF.elim
theorem CP{d:DV}{x:Value}{n:Int}(h:av w W objs L d x)(hi:zQ d=some n):∃k,x=.int k n:=by
 unfold zQ at hi;split at hi
 ·simp only[Zaa]at hi;subst hi;simp only[av,aR]at h;exact⟨_,h⟩
 ·cases hi
theorem Gn(hO:bK base W M w0 objs w L){t e:TypeId}{i:TypeInfo}(ht:P.underlying t=some (.slice e))(hi:P.info? e=some i){d:DV}{xv:Value}(h:av w W objs L d xv){lo nj:Option DV}{lv hv:Option Value}
  (Wv:(lo=none/\lv=none)\/∃dl vl,lo=some dl/\lv=some vl/\av w W objs L dl vl) (hhi:(nj=none/\hv=none)\/∃dl vl,nj=some dl/\hv=some vl/\av w W objs L dl vl)
  (aF:(hY i.size lo nj objs d).ok):
  (hY i.size lo nj objs d).put=none/\∃v,(Instr.sliceAt t xv lv hv none).run P w=.ok v w/\av w W objs L (hY i.size lo nj objs d).val v:=by
 have bz:∀(p:Option Addr) (n c:Nat) (l hh:Int),0<=l->l<=hh->hh<=n->n<=c->(lv=none/\l=0\/∃k,lv=some (.int k l))->(hv=none/\hh=n\/∃k,hv=some (.int k hh))->
   (Instr.sliceAt t (.slice p n c) lv hv none).run P w=.ok (.slice (if c=l.toNat then p else p.map (·.add (l.toNat*i.size))) (hh.toNat-l.toNat) (c-l.toNat)) w:=by
  intro p n c l hh h0 h1 h2 h3 hl hh';have b2:hh<=c:=by omega
  have b3:0<=hh:=by omega
  have b4:l<=(hh.toNat:Int):=by omega
  have b5:((hh.toNat:Nat):Int)=hh:=by omega
  rcases hl with⟨rfl,rfl⟩|⟨k,rfl⟩<;>rcases hh' with⟨rfl,rfl⟩|⟨k',rfl⟩
  ·simp[Instr.sliceAt,Instr.slice,run_underlying ht,Instr.sliceBounds,run_sizeOf hi]
  ·simp[Instr.sliceAt,Instr.slice,run_underlying ht,Instr.sliceBounds,run_sizeOf hi,Instr.sliceBound,asIntOf,b2,b3]
  ·have b6:l<=(n:Int):=h1;simp[Instr.sliceAt,Instr.slice,run_underlying ht,Instr.sliceBounds,run_sizeOf hi,Instr.sliceBound,asIntOf,b6,h0]
  ·simp[Instr.sliceAt,Instr.slice,run_underlying ht,Instr.sliceBounds,run_sizeOf hi,Instr.sliceBound,asIntOf,b2,b3,h0,b5,h1]
 have Qo:∀{l:Int},zR lo=some l->(lv=none/\l=0\/∃k,lv=some (.int k l)):=by
  intro l hl;rcases Wv with⟨rfl,rfl⟩|⟨dl,vl,rfl,rfl,hr⟩
  ·simp only[zR,Zaa]at hl;exact .inl ⟨rfl,hl.symm⟩
  ·obtain⟨k,rfl⟩:=CP hr hl;exact .inr ⟨k,rfl⟩
 have cY:∀{n:Int} {l:Int},zS n nj=some l->(hv=none/\l=n\/∃k,hv=some (.int k l)):=by
  intro n l hl;rcases hhi with⟨rfl,rfl⟩|⟨dl,vl,rfl,rfl,hr⟩
  ·simp only[zS,Zaa]at hl;exact .inl ⟨rfl,hl.symm⟩
  ·obtain⟨k,rfl⟩:=CP hr hl;exact .inr ⟨k,rfl⟩
 cases d with
 |v t'=>
  cases t' with
  |sl rows=>
   simp only[hY]at aF⊢;cases el:zR lo with
   |none=>simp[el,bad]at aF
   |some l=>
    cases eh:zS rows.length nj with
    |none=>simp[el,eh,bad]at aF
    |some hh=>
     simp only[el,eh]at aF⊢;obtain⟨h0,h1,h2,gB⟩:=aF;refine⟨trivial, ?_⟩;simp only[av,aR]at h;have hlen:((rows.take hh.toNat).drop l.toNat).length=hh.toNat-l.toNat:=by simp;omega
     rcases h with⟨rfl,p,c,rfl⟩|⟨b,oo,cap,sz,rfl,hb,hn,hc,hr⟩
     ·have z1:hh=0:=by simp at h2;omega
      have z2:l=0:=by omega
      subst z1 z2;refine⟨_,bz p 0 c 0 0 h0 h1 (by omega) (by omega) (Qo el) (cY eh), ?_⟩;simp only[av,aR];exact .inl ⟨by simp,_,_,rfl⟩
     ·refine⟨_,bz _ _ cap l hh h0 h1 h2 hc (Qo el) (cY eh), ?_⟩;simp only[av,aR];by_cases zh:cap=l.toNat
      ·refine .inl ⟨?_,_,_,by rw[show hh.toNat-l.toNat=0 by omega]⟩;apply ZaD;omega
      ·refine .inr ⟨b,oo+l.toNat*i.size,cap-l.toNat,i.size, ?_,hb,hn,by omega, ?_⟩
       ·rw[hlen,if_neg zh];simp[kY]
       ·refine aX.ze _ _ λj r hj=>?_;rw[Zbb,ZaF]at hj;split at hj
        ·have lW:=aX.row hr hj;have PT:=gB r (Zaq hj);have:sz=i.size:=by omega
         subst this;refine⟨PT, ?_⟩;have e2:oo+l.toNat*i.size+j*i.size=oo+(l.toNat+j)*i.size:=by rw[Nat.add_mul];omega
         rw[e2];exact lW.2
        ·cases hj
  |_=>exact aF.elim
 |aI=>
  simp only[hY]at aF⊢;cases el:zR lo with
  |none=>simp[el,bad]at aF
  |some l=>
   cases eh:zS 0 nj with
   |none=>simp[el,eh,bad]at aF
   |some hh=>
    simp only[el,eh]at aF⊢;obtain⟨rfl,rfl⟩:=aF;refine⟨trivial, ?_⟩;simp only[av]at h;obtain⟨p,rfl⟩:=h;refine⟨_,bz p 0 0 0 0 (Zcx _) (Zcx _) (by omega) (Zae _) (Qo el) (cY eh), ?_⟩;simp[av]
 |bk r ver=>
  simp only[hY]at aF⊢;cases hc:objs r with
  |none=>simp[hc,bad]at aF
  |some ob=>
   cases ob with
   |arr ver' e' fY rows=>
    simp only[hc]at aF⊢;cases el:zR lo with
    |none=>simp[el,bad]at aF
    |some l=>
     cases eh:zS rows.length nj with
     |none=>simp[el,eh,bad]at aF
     |some hh=>
      simp only[el,eh]at aF⊢;obtain⟨rfl,rfl,h0,h1,h2⟩:=aF;refine⟨trivial, ?_⟩;simp only[av]at h;obtain⟨_,nI,e2,CH,jP,lI,_,jj⟩:=h;rw[hc]at lI;cases lI;have jj:=jj rfl;subst jj;obtain⟨_,_,_,kl⟩:=hO.ob r _ hc;have sQ:∃p cap,L.sl r=.slice p rows.length cap/\rows.length<=cap:=by
       rcases kl with⟨rfl,a,ha⟩|⟨g,cap,cur,k1,k2,k3,k4,_⟩
       ·exact⟨a,0,ha,Zae _⟩
       ·exact⟨_,cap,k1,k4⟩
      obtain⟨p,cap,sQ,pb⟩:=sQ;refine⟨_,by rw[sQ];exact bz p rows.length cap l hh h0 h1 h2 pb (Qo el) (cY eh), ?_⟩;simp only[av];exact⟨⟨_,_,rfl⟩,ver,e',_,rows,hc,Zae _,λ_=>⟨by omega,p,cap,_,sQ,rfl,λcW=>by rw[if_neg (by omega)]⟩⟩
   |_=>simp[hc,bad]at aF
 |sP r ver lo0 n=>
  simp only[hY]at aF⊢;cases hc:objs r with
  |none=>simp[hc,bad]at aF
  |some ob=>
   cases ob with
   |arr ver' e' fY rows=>
    simp only[hc]at aF⊢;cases el:zR lo with
    |none=>simp[el,bad]at aF
    |some l=>
     cases eh:zS n nj with
     |none=>simp[el,eh,bad]at aF
     |some hh=>
      simp only[el,eh]at aF⊢;obtain⟨rfl,rfl,h0,h1,h2⟩:=aF;refine⟨trivial, ?_⟩;simp only[av]at h;obtain⟨_,nI,e2,CH,jP,lI,_,jj⟩:=h;rw[hc]at lI;cases lI;obtain⟨Qe,p,cap,p2,sQ,rfl,Mn⟩:=jj rfl;obtain⟨_,_,_,kl⟩:=hO.ob r _ hc;have pb:rows.length<=cap/\∀q,p=some q->0<cap->∃g,q=⟨g,0,none⟩:=by
       rcases kl with⟨rfl,a,ha⟩|⟨g,cap',cur,k1,k2,k3,k4,_⟩
       ·exact⟨by simp,λq hq PU=>by rw[sQ]at ha;cases ha;omega⟩
       ·rw[sQ]at k1;cases k1;exact⟨k4,λq hq _=>⟨g,by simpa using hq.symm⟩⟩
      refine⟨_,bz p2 n (cap-lo0) l hh h0 h1 h2 (by omega) (Qo el) (cY eh), ?_⟩;simp only[av];refine⟨⟨_,_,rfl⟩,ver,e',_,rows,hc,Zae _,λ_=>⟨by omega,p,cap,_,sQ,by rw[Nat.sub_sub],λcW=>?_⟩⟩;rw[if_neg (by omega),Mn (by omega)];cases p with
      |none=>rfl
      |some q=>
       obtain⟨g,rfl⟩:=pb.2 q rfl (by omega);simp[kY,Nat.add_mul]
   |_=>simp[hc,bad]at aF
 |_=>exact aF.elim
end
end Go.DM
namespace Go.DM
open Go.RowKit
variable [Laid]
section
variable{P:Program}{base:Nat}{W M:Nat->Prop}{w0:World}{objs:aU}{L:Loc}{w:World}{a:Act}{o:Oper}
theorem gN{W':Nat->Prop}:∀{shs:List Sh} {ts:List T} {vs:List Value},dg shs ts->aP w W' ts vs->fits shs vs
 |[],ts,vs,h,hr=>by
  simp only[dg]at h;subst h;simpa [aP,fits]using hr
 |s::ss,[],vs,h,_=>by simp[dg]at h
 |s::ss,t::ts,vs,h,hr=>by
  simp only[dg]at h;simp only[aP]at hr;obtain⟨v,gY,rfl,_,h2,hr⟩:=hr;simp only[fits];refine⟨v,gY,rfl, ?_,gN h.2 hr⟩;have h1:=h.1;cases s<;>cases t<;>first|exact absurd h1 Zaz|skip
  all_goals (simp only[aR]at h2;subst h2;first|rfl|exact h1)
theorem Gq{W':Nat->Prop}{s:Sh}{t u:T}{x y:Value}(ht:D5 s t=true)(hu:D5 s u=true)(hx:aR w W' t x)(hy:aR w W' u y):fe t u=YM x y:=by
 cases s<;>cases t<;>(first|exact absurd ht Zaz|skip)<;>cases u<;>(first|exact absurd hu Zaz|skip)
 all_goals (simp only[aR]at hx hy;subst hx hy;simp only[fe,YM])
 ·rfl
 ·rename_i s1 s2;by_cases h:s1=s2
  ·subst h;simp
  ·have bG:s1.toList≠s2.toList:=λe=>h (by
    rw[ByteArray.toList_eq,ByteArray.toList_eq]at e;obtain⟨d1⟩:=s1;obtain⟨d2⟩:=s2;exact congrArg ByteArray.mk (Array.ext' e))
   simp[h,bG]
theorem wM{W':Nat->Prop}:∀{shs:List Sh} {ts us:List T} {xs ys:List Value},dg shs ts->dg shs us->aP w W' ts xs->aP w W' us ys->oq ts us=kG xs ys
 |[],ts,us,xs,ys,h1,h2,hx,hy=>by
  simp only[dg]at h1 h2;subst h1 h2;simp only[aP]at hx hy;subst hx hy;rfl
 |s::ss,[],_,_,_,h,_,_,_=>by simp[dg]at h
 |s::ss,_::_,[],_,_,_,h,_,_=>by simp[dg]at h
 |s::ss,t::ts,u::us,xs,ys,h1,h2,hx,hy=>by
  simp only[dg]at h1 h2;simp only[aP]at hx hy;obtain⟨x,jJ,rfl,_,FZ,hx⟩:=hx;obtain⟨y,ys',rfl,_,jR,hy⟩:=hy;simp only[oq,kG];rw[Gq h1.1 h2.1 FZ jR,wM h1.2 h2.2 hx hy]
theorem mh{shs:List Sh}{t:T}(h:dg shs [t]):∃s,shs=[s]/\D5 s t=true:=by
 cases shs with
 |nil=>simp[dg]at h
 |cons s ss=>
  simp only[dg]at h;cases ss with
  |nil=>exact⟨s,rfl,h.1⟩
  |cons s2 ss=>simp[dg]at h
theorem vk{em:Bool}{d:Nat}(ih:∀(t:TypeId) (shs:List Sh) (desc:TypeDesc),jH P d t=some shs->P.underlying t=some desc->∀(xs:List Value) (w:World),fits shs xs->(Instr.checkKey em d t (wk desc xs)).run P w=.ok () w)
  (Gl:∀(t:TypeId) (shs:List Sh),jH P d t=some shs->∃desc,P.underlying t=some desc/\(bA desc=true\/shs.length=1)) (xs:List Value):
  ∀(fs:List Field) (off:Nat) (shs:List Sh) (w:World),gb P (jH P d) off fs=some shs->fits shs (xs.drop off)->off<=xs.length->
   (forIn fs PUnit.unit (λf (_:PUnit)=>
      if f.name≠ "_" then do
       let x<-part f.type xs.toArray f.offset
       Instr.checkKey em d f.type x
       pure (ForInStep.yield PUnit.unit)
      else pure (ForInStep.yield PUnit.unit)):Sem PUnit).run P w=.ok PUnit.unit w
 |[],off,shs,w,h,hx,_=>by simp
 |f::fs,off,shs,w,h,hx,hox=>by
  simp only[gb]at h;split at h
  ·rename_i s i hs hi;split at h
   ·rename_i hc;obtain⟨hn,rfl,gB⟩:=hc;simp only[Zab]at h;obtain⟨rest,ta,rfl⟩:=h;obtain⟨desc,hd,h1⟩:=Gl _ _ hs;have sc:=fits.length hx;simp only[ZaA,Za9]at sc;obtain⟨FZ,sR⟩:=fits.split hx;rw[List.drop_drop]at sR;rw[gB]at h1;have p1:=λw=>lk (P:=P) w hd hi (xs:=xs) (off:=f.offset) h1 (by omega);have hr:=ih _ _ _ hs hd _ w FZ;rw[gB]at hr;simp only[Zcp,hn,ne_eq,not_false_eq_true,if_true,Sem.run_bind,p1,Result.andThen_ok,hr,Sem.run_pure];exact vk ih Gl xs fs _ rest w ta sR (by omega)
   ·cases h
  ·cases h
theorem wX{em:Bool}{d:Nat}{e:TypeId}{de:TypeDesc}{s:List Sh}{i:TypeInfo}(hd:P.underlying e=some de)(hi:P.info? e=some i)(h1:bA de=true\/i.size=1)(hs:s.length=i.size)
  (ih:∀(xs:List Value) (w:World),fits s xs->(Instr.checkKey em d e (wk de xs)).run P w=.ok () w) (xs:List Value):
  ∀(n k:Nat) (w:World),fits ((List.replicate n s).flatten) (xs.drop (k*i.size))->
   (forIn (List.range' k n) PUnit.unit (λj (_:PUnit)=>do
      let sz<-sizeOf e
      let x<-part e xs.toArray (j*sz)
      Instr.checkKey em d e x
      pure (ForInStep.yield PUnit.unit)):Sem PUnit).run P w=.ok PUnit.unit w
 |0,k,w,hx=>by simp
 |n+1,k,w,hx=>by
  simp only[Za7,Zbe]at hx;have sc:=fits.length hx;simp only[ZaA,Za9]at sc;obtain⟨FZ,sR⟩:=fits.split hx;have e2:k*i.size+s.length=(k+1)*i.size:=by rw[Nat.add_mul,hs];omega
  rw[List.drop_drop,e2]at sR;by_cases hz:i.size=0
  ·have gB:∀(w:World),k*i.size+i.size<=xs.length\/xs.length<k*i.size:=λ_=>by omega
   have Mr:=h1.elim id (λh=>by omega);have p1:=λw=>lk (P:=P) w hd hi (xs:=xs) (off:=k*i.size) h1 (by rw[hz];simp);rw[hs]at FZ;have hr:=ih _ w FZ;simp only[ZcJ,Zcp,Sem.run_bind,run_sizeOf hi,p1,Result.andThen_ok,hr,Sem.run_pure];exact wX hd hi h1 hs ih xs n (k+1) w sR
  ·have p1:=λw=>lk (P:=P) w hd hi (xs:=xs) (off:=k*i.size) h1 (by omega);rw[hs]at FZ;have hr:=ih _ w FZ;simp only[ZcJ,Zcp,Sem.run_bind,run_sizeOf hi,p1,Result.andThen_ok,hr,Sem.run_pure];exact wX hd hi h1 hs ih xs n (k+1) w sR
theorem wY(em:Bool):∀(d:Nat) (t:TypeId) (shs:List Sh) (desc:TypeDesc),jH P d t=some shs->P.underlying t=some desc->∀(xs:List Value) (w:World),fits shs xs->(Instr.checkKey em d t (wk desc xs)).run P w=.ok () w
 |0,t,shs,desc,h,_,_,_,_=>by simp[jH]at h
 |d+1,t,shs,desc,h,hu,xs,w,hx=>by
  simp only[jH,hu]at h;cases desc;case bool=>simp[wk,bA,Instr.checkKey,run_underlying hu]
  case int k=>simp[wk,bA,Instr.checkKey,run_underlying hu]
  case string=>simp[wk,bA,Instr.checkKey,run_underlying hu]
  case struct fs=>
   replace h:(if P.stoodInHeld t then none else gb P (jH P d) 0 fs.toList)=some shs:=h
   split at h
   ·cases h
   ·have:=vk (em:=em) (λt shs desc=>wY em d t shs desc) (λt shs hs=>by
     cases d with
     |zero=>simp[jH]at hs
     |succ d=>exact zj hs) xs fs.toList 0 shs w h (by simpa using hx) (by omega)
    simp only[wk,bA,if_true];rw[Instr.checkKey];simp only[Sem.run_bind,run_underlying hu,Result.andThen_ok];rw[<-Array.forIn_toList];refine(congrArg (λr=>Result.andThen r _) this).trans ?_;rfl
  case array n e=>
   replace h:(match jH P d e,P.info? e with
    |some s,some i=>if s.length=i.size/\0<i.size then some ((List.replicate n s).flatten)else none
    |_,_=>none)=some shs:=h
   split at h
   ·rename_i s i hs hi;split at h
    ·rename_i hc;simp only[Zaa]at h;subst h;have hde:∃desc,P.underlying e=some desc/\(bA desc=true\/s.length=1):=by
      cases d with
      |zero=>simp[jH]at hs
      |succ d=>exact zj hs
     obtain⟨de,hd,h1⟩:=hde;rw[hc.1]at h1;have:=wX hd hi h1 hc.1 (λxs w=>wY em d e s de hs hd xs w) xs n 0 w (by simpa using hx);simp only[wk,bA,if_true];rw[Instr.checkKey];simp only[Sem.run_bind,run_underlying hu,Result.andThen_ok,Std.Legacy.Range.forIn_eq_forIn_range',Std.Legacy.Range.size,Zb1,Zcd,Nat.div_one];refine(congrArg (λr=>Result.andThen r _) this).trans ?_;rfl
    ·cases h
   ·cases h
  all_goals exact absurd h (by simp)
def aL:T->List T
 |.agg as=>as
 |t=>[t]
theorem jm{shs:List Sh}{agg:Bool}{t:T}(h:dh shs agg t):dg shs (aL t):=by
 cases t<;>simp only[dh]at h<;>exact h.2
theorem wZ{W':Nat->Prop}{shs:List Sh}{desc:TypeDesc}{t:T}{x:Value}(h:dh shs (bA desc) t)(hr:aR w W' t x):∃vs,x=wk desc vs/\aP w W' (aL t) vs:=by
 cases t with
 |agg as=>
  simp only[dh]at h;simp only[aR]at hr;obtain⟨vs,rfl,hr⟩:=hr;exact⟨vs.toList,by simp[wk,h.1],hr⟩
 |_=>
  simp only[dh]at h;refine⟨[x],by simp[wk,h.1], ?_⟩;simp only[aL,aP];obtain⟨s,rfl,hs⟩:=mh h.2;refine⟨x,[],rfl, ?_,hr,rfl⟩;cases s<;>first|exact absurd hs Zaz|(simp only[aR]at hr;subst hr;rfl)
theorem AO{shs:List Sh}{agg:Bool}{t u:T}(h:dh shs agg t)(k:dh shs agg u):fe t u=oq (aL t) (aL u):=by
 cases t with
 |agg as=>
  cases u with
  |agg bs=>rfl
  |_=>simp only[dh]at h k;rw[h.1]at k;exact absurd k.1 (by simp)
 |_=>
  cases u with
  |agg bs=>simp only[dh]at h k;rw[k.1]at h;exact absurd h.1 (by simp)
  |_=>simp[aL,oq]
theorem Rf{s:Sh}{t u:T}(ht:D5 s t=true)(hu:D5 s u=true)(h:fe t u=true):t=u:=by
 cases s<;>cases t<;>(first|exact absurd ht Zaz|skip)<;>cases u<;>(first|exact absurd hu Zaz|skip)
 ·simp only[fe,beq_iff_eq]at h;rw[h]
 ·simp only[D5,beq_iff_eq]at ht hu;simp only[fe,decide_eq_true_eq]at h;subst ht hu h;rfl
 ·simp only[fe,decide_eq_true_eq]at h;rw[h]
theorem C6:∀{shs:List Sh} {ts us:List T},dg shs ts->dg shs us->oq ts us=true->ts=us
 |[],ts,us,h1,h2,_=>by simp only[dg]at h1 h2;rw[h1,h2]
 |s::ss,[],_,h,_,_=>by simp[dg]at h
 |s::ss,_::_,[],_,h,_=>by simp[dg]at h
 |s::ss,t::ts,u::us,h1,h2,h=>by
  simp only[dg]at h1 h2;simp only[oq,Zam]at h;rw[Rf h1.1 h2.1 h.1,C6 h1.2 h2.2 h.2]
theorem key_inj{shs:List Sh}{agg:Bool}{t u:T}(h:dh shs agg t)(k:dh shs agg u)(e:fe t u=true):t=u:=by
 have h1:=jm h;have k1:=jm k;rw[AO h k]at e;have:=C6 h1 k1 e;cases t with
 |agg as=>
  cases u with
  |agg bs=>simpa [aL]using this
  |_=>simp only[dh]at h k;rw[h.1]at k;exact absurd k.1 (by simp)
 |_=>
  cases u with
  |agg bs=>simp only[dh]at h k;rw[k.1]at h;exact absurd h.1 (by simp)
  |_=>exact(List.cons.inj this).1
theorem ON{k:TypeId}{shs:List Sh}{agg:Bool}(hk:fJ P k=some (shs,agg)){t u:T}{x y:Value}{W':Nat->Prop}(ht:dh shs agg t)(hu:dh shs agg u)(hx:aR w W' t x)(hy:aR w W' u y):
  (Op.equal k x y).run P w=.ok (fe t u) w:=by
 unfold fJ at hk;split at hk
 ·rename_i d s hd hs;simp only[Zaa,Zar]at hk;obtain⟨rfl,rfl⟩:=hk;obtain⟨vs,rfl,h1⟩:=wZ ht hx;obtain⟨us,rfl,h2⟩:=wZ hu hy;rw[AO ht hu,wM (jm ht) (jm hu) h1 h2];exact pd 10000 k s d hs hd vs us w (gN (jm ht) h1) (gN (jm hu) h2)
 ·cases hk
theorem pw{k:TypeId}{shs:List Sh}{agg:Bool}(hk:fJ P k=some (shs,agg)){t:T}{x:Value}{W':Nat->Prop}(ht:dh shs agg t)(hx:aR w W' t x)(em:Bool):
  (Instr.checkKey em 10000 k x).run P w=.ok () w:=by
 unfold fJ at hk;split at hk
 ·rename_i d s hd hs;simp only[Zaa,Zar]at hk;obtain⟨rfl,rfl⟩:=hk;obtain⟨vs,rfl,h1⟩:=wZ ht hx;exact wY em 10000 k s d hs hd vs w (gN (jm ht) h1)
 ·cases hk
theorem MN{W':Nat->Prop}{shs:List Sh}{agg:Bool}{t:T}{v:Value}(hk:dh shs agg t)(hr:aR w W' t v):
  (∀k a,v=.int k a->t=.int k a)/\(∀s,v=.string s->t=.str s)/\(∀b,v=.bool b->t=.bool b):=by
 have bad:∀{x:T},dg shs [x]->(∀s,D5 s x=false)->False:=λh1 h2=>by
  obtain⟨s,_,hs⟩:=mh h1;rw[h2]at hs;cases hs
 cases t with
 |agg as=>simp only[aR]at hr;obtain⟨_,rfl,_⟩:=hr;exact⟨λ_ _ e=>(by cases e),λ_ e=>(by cases e),λ_ e=>(by cases e)⟩
 |int k a=>simp only[aR]at hr;subst hr;exact⟨λ_ _ e=>(by cases e;rfl),λ_ e=>(by cases e),λ_ e=>(by cases e)⟩
 |str a=>simp only[aR]at hr;subst hr;exact⟨λ_ _ e=>(by cases e),λ_ e=>(by cases e;rfl),λ_ e=>(by cases e)⟩
 |bool a=>simp only[aR]at hr;subst hr;exact⟨λ_ _ e=>(by cases e),λ_ e=>(by cases e),λ_ e=>(by cases e;rfl)⟩
 |_=>exact(bad hk.2 (λs=>by cases s<;>rfl)).elim
def foundAt(t:T)(es:List (Nat×T×DV))(xs:List MapEntry)(i:Nat):Option (Nat×Value):=
 match es.findIdx? λe=>fe t e.2.1 with
 |some j=>(xs[j]?).map λe=>(i+j,e.val)
 |none=>none
theorem vm(t:T)(e:Nat×T×DV)(es:List (Nat×T×DV))(x:MapEntry)(xs:List MapEntry)(i:Nat):foundAt t (e::es) (x::xs) i=if fe t e.2.1 then some (i,x.val)else foundAt t es xs (i+1):=by
 simp only[foundAt,Za4];by_cases h:fe t e.2.1=true
 ·simp[h]
 ·simp only[h];cases List.findIdx? (λe=>fe t e.2.1) es with
  |none=>simp
  |some j=>simp[show i+1+j=i+(j+1)by omega]
theorem yB{k:TypeId}{shs:List Sh}{agg:Bool}(hk:fJ P k=some (shs,agg)){t:T}{x:Value}(ht:dh shs agg t)(hx:aR w (WW W objs L) t x):∀(es:List (Nat×T×DV)) (xs:List MapEntry) (i:Nat),bj w W objs L es xs->(∀e∈es,dh shs agg e.2.1)->
  (Instr.findAsking k x xs i).run P w=.ok (foundAt t es xs i) w
 |[],xs,i,h,_=>by simp only[bj]at h;subst h;simp[Instr.findAsking,foundAt]
 |e::es,xs,i,h,dK=>by
  simp only[bj]at h;obtain⟨y,ys,rfl,_,h2,_,h4⟩:=h;have:=ON hk ht (dK e (by simp)) hx h2;rw[vm];simp only[Instr.findAsking,Sem.run_bind,this,Result.andThen_ok];cases fe t e.2.1
  ·simpa using yB hk ht hx es ys (i+1) h4 λe he=>dK e (by simp[he])
  ·simp
theorem yC{k:TypeId}{shs:List Sh}{d:TypeDesc}(hd:P.underlying k=some d)(hs:jH P 10000 k=some shs){t:T}{x:Value}(ht:dh shs (bA d) t)(hx:aR w (WW W objs L) t x):∀(es:List (Nat×T×DV)) (xs:List MapEntry) (i:Nat),bj w W objs L es xs->(∀e∈es,dh shs (bA d) e.2.1)->
  Instr.findNow d x xs i=some (foundAt t es xs i)\/Instr.findNow d x xs i=none
 |[],xs,i,h,_=>by simp only[bj]at h;subst h;simp[Instr.findNow,foundAt]
 |e::es,xs,i,h,dK=>by
  simp only[bj]at h;obtain⟨y,ys,rfl,_,h2,_,h4⟩:=h;rw[vm];simp only[Instr.findNow];cases Rg:Instr.sameNow d x y.key with
  |none=>right;rfl
  |some r=>
   have hr:r=fe t e.2.1:=by
    have lx:=MN ht hx;have ly:=MN (dK e (by simp)) h2;unfold Instr.sameNow at Rg;split at Rg
    ·rename_i k1 a1 k2 a2 e2;split at Rg
     ·rename_i QB;subst QB;simp only[Zaa]at Rg;rw[lx.1 _ _ rfl,ly.1 _ _ e2,<-Rg];simp only[fe];by_cases h:a1=a2<;>simp[h]
     ·cases Rg
    ·rename_i a1 a2 e2;simp only[Zaa]at Rg;rw[lx.2.1 _ rfl,ly.2.1 _ e2,<-Rg];simp only[fe];by_cases h:a1=a2
     ·subst h;obtain⟨x⟩:=a1;simp only[decide_true];exact(show(x==x)=true by simp)
     ·simp only[h,decide_false];cases hb:a1==a2 with
      |false=>rfl
      |true=>exact absurd (by
        obtain⟨x⟩:=a1;obtain⟨y⟩:=a2;have e:x=y:=by simpa using(show(x==y)=true from hb)
        rw[e]) h
    ·rename_i a1 a2 e2;simp only[Zaa]at Rg;rw[lx.2.2 _ rfl,ly.2.2 _ e2,<-Rg];rfl
    ·cases Rg
   subst hr;cases fe t e.2.1
   ·exact yC hd hs ht hx es ys (i+1) h4 λe he=>dK e (by simp[he])
   ·simp
theorem sr{k:TypeId}{shs:List Sh}{agg:Bool}(hk:fJ P k=some (shs,agg)){t:T}{x:Value}(ht:dh shs agg t)(hx:aR w (WW W objs L) t x){es:List (Nat×T×DV)}{xs:List MapEntry}(h:bj w W objs L es xs)(dK:∀e∈es,dh shs agg e.2.1):
  (Instr.findKey k x xs).run P w=.ok (foundAt t es xs 0) w:=by
 have ha:=yB hk ht hx es xs 0 h dK;unfold fJ at hk;split at hk
 ·rename_i d s hd hs;simp only[Zaa,Zar]at hk;obtain⟨rfl,rfl⟩:=hk;unfold Instr.findKey;simp only[Sem.run_bind,run_underlying hd,Result.andThen_ok];rcases yC hd hs ht hx es xs 0 h dK with h1|h1
  ·rw[h1];simp
  ·rw[h1];exact ha
 ·cases hk
theorem bj.length:∀{es:List (Nat×T×DV)} {xs:List MapEntry},bj w W objs L es xs->xs.length=es.length
 |[],_,h=>by simp only[bj]at h;simp[h]
 |e::es,_,h=>by
  simp only[bj]at h;obtain⟨x,jJ,rfl,_,_,_,h4⟩:=h;simp[bj.length h4]
theorem bj.get:∀{es:List (Nat×T×DV)} {xs:List MapEntry} {i:Nat} {e:Nat×T×DV},bj w W objs L es xs->es[i]? =some e->∃x,xs[i]? =some x/\x.born=e.1/\aR w (WW W objs L) e.2.1 x.key/\av w W objs L e.2.2 x.val
 |[],_,_,_,_,h=>by simp at h
 |e::es,_,0,_,hr,h=>by
  simp only[bj]at hr;obtain⟨x,jJ,rfl,h1,h2,h3,_⟩:=hr;simp only[ZaG,Zaa]at h;subst h;exact⟨x,rfl,h1,h2,h3⟩
 |e::es,_,i+1,_,hr,h=>by
  simp only[bj]at hr;obtain⟨x,jJ,rfl,_,_,_,h4⟩:=hr;simpa using bj.get h4 (by simpa using h)
theorem bj.append:∀{es es':List (Nat×T×DV)} {xs jJ:List MapEntry},bj w W objs L es xs->bj w W objs L es' jJ->bj w W objs L (es++es') (xs++jJ)
 |[],_,_,_,h,k=>by simp only[bj]at h;subst h;simpa using k
 |e::es,_,_,_,h,k=>by
  simp only[bj]at h;obtain⟨x,xs1,rfl,h1,h2,h3,h4⟩:=h;simp only[ZaH,bj];exact⟨x,_,rfl,h1,h2,h3,bj.append h4 k⟩
theorem bj.modify{y:DV}{v:Value}(hy:av w W objs L y v):∀{es:List (Nat×T×DV)} {xs:List MapEntry} (i:Nat),bj w W objs L es xs->bj w W objs L (es.modify i λe=>(e.1,e.2.1,y)) (xs.modify i λe=>{e with val:=v})
 |[],_,i,h=>by simp only[bj]at h;subst h;simp[bj]
 |e::es,_,0,h=>by
  simp only[bj]at h;obtain⟨x,xs1,rfl,h1,h2,h3,h4⟩:=h;simp only[Zb3,bj];exact⟨_,_,rfl,h1,h2,hy,h4⟩
 |e::es,_,i+1,h=>by
  simp only[bj]at h;obtain⟨x,xs1,rfl,h1,h2,h3,h4⟩:=h;simp only[ZbN,bj];exact⟨_,_,rfl,h1,h2,h3,bj.modify hy i h4⟩
theorem bj.erase:∀{es:List (Nat×T×DV)} {xs:List MapEntry} (i:Nat),bj w W objs L es xs->bj w W objs L (es.eraseIdx i) (xs.eraseIdx i)
 |[],_,i,h=>by simp only[bj]at h;subst h;simp[bj]
 |e::es,_,0,h=>by
  simp only[bj]at h;obtain⟨x,xs1,rfl,h1,h2,h3,h4⟩:=h;simpa using h4
 |e::es,_,i+1,h=>by
  simp only[bj]at h;obtain⟨x,xs1,rfl,h1,h2,h3,h4⟩:=h;simp only[List.eraseIdx_cons_succ,bj];exact⟨_,_,rfl,h1,h2,h3,bj.erase i h4⟩
theorem vn{d:DV}{x:Value}{t:T}(h:av w W objs L d x)(hk:wG d=some t):aR w (WW W objs L) t x:=by
 cases d with
 |v t'=>simp only[wG,Zaa]at hk;subst hk;simpa only[av]using h
 |agg cs=>
  simp only[wG,Zab]at hk;obtain⟨ts,Ql,rfl⟩:=hk;simp only[av]at h;obtain⟨vs,rfl,hr⟩:=h;simp only[aR];refine⟨vs,rfl, ?_⟩;have key:∀(cs:List DV) (ts:List T) (vs:List Value),JB cs=some ts->aK w W objs L cs vs->aP w (WW W objs L) ts vs:=by
   intro cs;induction cs with
   |nil=>intro ts vs h1 h2;simp only[JB,Zaa]at h1;subst h1;simpa [aK,aP]using h2
   |cons c cs ih=>
    intro ts vs h1 h2;cases c with
    |v u=>
     simp only[JB,Zab]at h1;obtain⟨us,hus,rfl⟩:=h1;simp only[aK]at h2;obtain⟨y,ys,rfl,k1,k2,k3⟩:=h2;simp only[aP];exact⟨y,ys,rfl,k1,by simpa only[av]using k2,ih us ys hus k3⟩
    |_=>simp[JB]at h1
  exact key cs ts _ Ql hr
 |_=>simp[wG]at hk
def Obj.Y9:Obj->Prop
 |.cells _ _ _=>False
 |_=>True
theorem ba_beq(s:ByteArray):(s==s)=true:=by
 obtain⟨x⟩:=s;exact(show(x==x)=true by simp)
theorem eM{b:Nat}{x:Obj}(h:w.heap[b]? =some x)(hx:Obj.Y9 x):(getObj b).run P w=.ok x w:=by
 cases x<;>first|exact hx.elim|simp[getObj,Sem.run,h]
def _root_.Go.World.fo(w:World)(b:Nat)(x:Obj):World:={w with heap:=w.heap.setIfInBounds b x}
theorem mQ{b:Nat}{x y:Obj}(h:w.heap[b]? =some x)(hx:Obj.Y9 x):(setObj b y).run P w=.ok () (w.fo b y):=by
 cases x<;>first|exact hx.elim|simp[setObj,Sem.run,h,World.fo]
theorem yD{b:Nat}{x y:Obj}(h:w.heap[b]? =some x):(w.fo b y).heap[b]? =some y:=by
 have cW:b<w.heap.size:=(Zai.1 h).1;simp[World.fo,cW]
theorem px{b k:Nat}{y:Obj}(h:k≠b):(w.fo b y).heap[k]? =w.heap[k]? :=by simp[World.fo,Ne.symm h]
theorem rC{b:Nat}{y:Obj}:(w.fo b y).heap.size=w.heap.size:=by simp[World.fo]
theorem C7{g:Nat}(x:Obj)(h:Fr base M w0 w)(hg:base<=g\/M g):Fr base M w0 (w.fo g x):=
 ⟨h.os,h.tape,h.output,h.hZ,by rw[rC];exact h.size,λk hk hm=>by
  rw[px (by
    rintro rfl;rcases hg with h1|h1;·omega
    exact hm h1)]
  exact h.block k hk hm,h.drawn⟩
theorem py(hO:bK base W M w0 objs w L){r c c':Nat}{shs shs':List Sh}{agg agg':Bool}{es es':List (Nat×T×DV)}(hc:objs r=some (.map shs agg c es)){arr':Array MapEntry}
  (hr:bj w W objs L es' arr'.toList) (h1:∀e∈es',dh shs' agg' e.2.1) (h2:∀e∈es',e.1<c') (h3:(es'.map (·.1)).Nodup):
  bK base W M w0 (bR objs (some (r,.map shs' agg' c' es'))) (w.fo (L.gW r) (.map arr' c')) L/\iX W objs L w (bR objs (some (r,.map shs' agg' c' es'))) L (w.fo (L.gW r) (.map arr' c')):=by
 obtain⟨arr,hh,_,_,_,_,hm⟩:=hO.ob r _ hc;refine bK.put hO (C7 _ hO.fr hm) (by rw[rC];exact Zae _) (λ_ _=>⟨rfl,rfl⟩) rfl (λb _ hb=>px (λx=>hb _ hc (by simp[Loc.own,x])))
  (λb hb=>.inl ⟨_,hc,hb⟩) (λo' ga _=>by rw[hc]at ga;cases ga;exact⟨rfl,rfl⟩) (λver e sz rows h=>by rw[hc]at h;cases h) (λee=>?_)
 exact⟨arr',yD hh,bj.ee ee _ _ hr,h1,h2,h3,hm⟩
theorem sameBits_self:∀{shs:List Sh} {ts:List T} {vs:List Value} {W':Nat->Prop} (n:Nat),dg shs ts->aP w W' ts vs->(vs.zip vs).all (λx=>Instr.sameBits n x.1 x.2)=true
 |[],ts,vs,W',n,h,hr=>by simp only[dg]at h;subst h;simp only[aP]at hr;subst hr;rfl
 |s::ss,[],_,_,_,h,_=>by simp[dg]at h
 |s::ss,t::ts,vs,W',n,h,hr=>by
  simp only[dg]at h;simp only[aP]at hr;obtain⟨v,gY,rfl,_,h1,h2⟩:=hr;simp only[List.zip_cons_cons,ZcC,Zam];refine⟨?_,sameBits_self n h.2 h2⟩;have hs:=h.1;cases s<;>cases t<;>first|exact absurd hs Zaz|skip
  all_goals (simp only[aR]at h1;subst h1;cases n<;>simp[Instr.sameBits,ba_beq])
theorem GQ{shs:List Sh}{agg:Bool}{t:T}{x:Value}{W':Nat->Prop}(h:dh shs agg t)(hr:aR w W' t x):Instr.sameBits 10000 x x=true:=by
 cases t with
 |agg as=>
  simp only[dh]at h;simp only[aR]at hr;obtain⟨vs,rfl,hr⟩:=hr;simp only[Instr.sameBits,beq_self_eq_true,Zck];exact sameBits_self 9999 h.2 hr
 |_=>
  simp only[dh]at h;obtain⟨s,rfl,hs⟩:=mh h.2;have h1:x.oneCell'=true:=by cases s<;>first|exact absurd hs Zaz|(simp only[aR]at hr;subst hr;rfl)
  have:=sameBits_self (w:=w) (W':=W') 10000 h.2 (vs:=[x]) (by simp only[aP];exact⟨x,[],rfl,h1,hr,rfl⟩);simpa using this
theorem C8:∀{shs:List Sh} {ts:List T} {vs us:List Value} {W':Nat->Prop},dg shs ts->aP w W' ts vs->aP w W' ts us->vs=us
 |[],ts,vs,us,W',h,h1,h2=>by simp only[dg]at h;subst h;simp only[aP]at h1 h2;rw[h1,h2]
 |s::ss,[],_,_,_,h,_,_=>by simp[dg]at h
 |s::ss,t::ts,vs,us,W',h,h1,h2=>by
  simp only[dg]at h;simp only[aP]at h1 h2;obtain⟨v,gY,rfl,_,k1,k2⟩:=h1;obtain⟨u,us',rfl,_,l1,l2⟩:=h2;have hs:=h.1;rw[C8 h.2 k2 l2]
  congr 1
  cases s<;>cases t<;>first|exact absurd hs Zaz|skip
  all_goals (simp only[aR]at k1 l1;rw[k1,l1])
theorem MO{shs:List Sh}{agg:Bool}{t:T}{x y:Value}{W':Nat->Prop}(h:dh shs agg t)(hx:aR w W' t x)(hy:aR w W' t y):x=y:=by
 cases t with
 |agg as=>
  simp only[dh]at h;simp only[aR]at hx hy;obtain⟨vs,rfl,hx⟩:=hx;obtain⟨us,rfl,hy⟩:=hy;have:=C8 h.2 hx hy;rw[Array.toList_inj.1 this]
 |_=>
  simp only[dh]at h;obtain⟨s,rfl,hs⟩:=mh h.2;cases s<;>first|exact absurd hs Zaz|(simp only[aR]at hx hy;rw[hx,hy])
end
end Go.DM
namespace Go.DM
open Go.RowKit
variable [Laid]
section
variable{P:Program}{base:Nat}{W M:Nat->Prop}{w0:World}{objs:aU}{L:Loc}{w:World}{a:Act}{o:Oper}
theorem C9{et:TypeId}{z:DV}(h:CM P et=some z):∃zv,(zeroValue et).run P w=.ok zv w/\av w W objs L z zv:=by
 unfold CM at h;simp only[Zaf,Zac]at h;obtain⟨i,hi,zv,hz,h⟩:=h;refine⟨zv,by simp[zeroValue,typeInfo,hi,hz], ?_⟩;split at h
 ·rename_i cs;simp only[Zab]at h;obtain⟨ds,hds,rfl⟩:=h;simp only[av];exact⟨cs,rfl,gC hds⟩
 ·exact(tG h).1
theorem vo(t:T)(es:List (Nat×T×DV)):ou t es=(es.findIdx? λe=>fe t e.2.1).bind (es[·]?):=by
 unfold ou;induction es with
 |nil=>rfl
 |cons e es ih=>
  simp only[ZaN,Za4];by_cases h:fe t e.2.1=true
  ·simp[h]
  ·simp only[h,ih];cases List.findIdx? (λe=>fe t e.2.1) es<;>simp
theorem EF{t:T}{es:List (Nat×T×DV)}{i:Nat}(h:(es.findIdx? λe=>fe t e.2.1)=some i):∃e,es[i]? =some e/\fe t e.2.1=true:=by
 induction es generalizing i with
 |nil=>simp at h
 |cons e es ih=>
  simp only[Za4]at h;by_cases he:fe t e.2.1=true
  ·simp only[he,if_true,Zaa]at h;subst h;exact⟨e,rfl,he⟩
  ·rw[if_neg he,Zab]at h;obtain⟨j,hj,rfl⟩:=h;simpa using ih hj
theorem Eh(hO:bK base W M w0 objs w L){t kt et:TypeId}{x k:Operand}{ok:Bool}(ho:o.op=.lookup t x k ok)(ht:P.underlying t=some (.map kt et)){shs:List Sh}{agg:Bool}(hk:fJ P kt=some (shs,agg)){z:DV}(hz:CM P et=some z)
  {d1 d2:DV} (h1:av w W objs L d1 (a.eval x)) (h2:av w W objs L d2 (a.eval k)) (aF:(kz shs agg z ok objs d1 d2).ok):bQ P base W M w0 objs L w a o (kz shs agg z ok objs d1 d2):=by
 unfold kz at aF⊢;split at aF
 ·rename_i r Rh Ri;cases hc:objs r with
  |none=>simp[hc,bad]at aF
  |some ob=>
   cases ob with
   |map shs' agg' c es=>
    simp only[hc]at aF⊢;obtain⟨rfl,rfl,pz⟩:=aF;simp only[av]at h1;obtain⟨_,hx⟩:=h1;have tT:=vn h2 Ri;obtain⟨arr,hh,oV,dK,_,_,_⟩:=hO.ob r _ hc;have wA:=λem=>pw (P:=P) (w:=w) hk pz tT em;have hf:=sr (P:=P) hk pz tT oV dK;have hg:=eM (P:=P) hh trivial;simp only[Ri];rw[vo];unfold foundAt at hf;cases hi:es.findIdx? (λe=>fe Rh e.2.1)with
    |none=>
     simp only[hi]at hf;obtain⟨zv,W6,hzd⟩:=C9 (P:=P) (w:=w) (W:=W) (objs:=objs) (L:=L) hz;simp only[Option.bind_none];have bz:(Instr.lookup t (.map (some (L.gW r))) (a.eval k) ok).run P w=.ok (if ok then .tuple #[zv,.bool false]else zv) w:=by
      simp[Instr.lookup,run_underlying ht,hg,wA,hf,W6]
     refine bQ.quiet hO rfl (v:=if ok then .tuple #[zv,.bool false]else zv) (by simp[execOp,ho,hx,bz]) ?_;cases ok
     ·simpa using hzd
     ·simp only[if_true,av];exact⟨_,rfl,by simp only[eZ];exact⟨zv,_,rfl,hzd,.bool false,[],rfl,by simp[av,aR],rfl⟩⟩
    |some i=>
     obtain⟨e,he,hq⟩:=EF hi;obtain⟨xe,AG,_,_,hv⟩:=bj.get oV he;simp only[hi,AG,Za1]at hf;simp only[Zb8,he];have bz:(Instr.lookup t (.map (some (L.gW r))) (a.eval k) ok).run P w=.ok (if ok then .tuple #[xe.val,.bool true]else xe.val) w:=by
      simp[Instr.lookup,run_underlying ht,hg,wA,hf]
     refine bQ.quiet hO rfl (v:=if ok then .tuple #[xe.val,.bool true]else xe.val) (by simp[execOp,ho,hx,bz]) ?_;cases ok
     ·simpa using hv
     ·simp only[if_true,av];exact⟨_,rfl,by simp only[eZ];exact⟨xe.val,_,rfl,hv,.bool true,[],rfl,by simp[av,aR],rfl⟩⟩
   |_=>simp[hc,bad]at aF
 ·exact aF.elim
theorem vq{es:List (Nat×T×DV)}{y:DV}(i:Nat):(es.modify i λe=>(e.1,e.2.1,y)).map (·.1)=es.map (·.1):=by
 induction es generalizing i with
 |nil=>simp
 |cons e es ih=>cases i<;>simp[ih]
theorem nu{es:List (Nat×T×DV)}{y:DV}(i:Nat){e:Nat×T×DV}(h:e∈es.modify i λe=>(e.1,e.2.1,y)):∃e'∈es,e.1=e'.1/\e.2.1=e'.2.1:=by
 induction es generalizing i with
 |nil=>simp at h
 |cons e0 es ih=>
  cases i with
  |zero=>
   simp only[Zb3,Zag]at h;rcases h with rfl|h
   ·exact⟨e0,by simp,rfl,rfl⟩
   ·exact⟨e,by simp[h],rfl,rfl⟩
  |succ i=>
   simp only[ZbN,Zag]at h;rcases h with rfl|h
   ·exact⟨e,by simp,rfl,rfl⟩
   ·obtain⟨e',h1,h2⟩:=ih i h;exact⟨e',by simp[h1],h2⟩
theorem Kb{es:List (Nat×T×DV)}{xs:List MapEntry}{i:Nat}{v key:Value}{x:MapEntry}(hx:xs[i]? =some x)(hk:x.key=key):(xs.modify i λe=>{e with key:=key,val:=v})=xs.modify i λe=>{e with val:=v}:=by
 induction xs generalizing i with
 |nil=>simp
 |cons y ys ih=>
  cases i with
  |zero=>
   simp only[ZaG,Zaa]at hx;subst hx hk;simp
  |succ i=>
   simp only[ZbN,Za6,true_and];exact ih (by simpa using hx)
theorem Ei(hO:bK base W M w0 objs w L){t kt et:TypeId}{x k y:Operand}(ho:o.op=.mapUpdate t x k y)(ht:P.underlying t=some (.map kt et)){shs:List Sh}{agg:Bool}(hk:fJ P kt=some (shs,agg))
  {d1 d2 d3:DV} (h1:av w W objs L d1 (a.eval x)) (h2:av w W objs L d2 (a.eval k)) (h3:av w W objs L d3 (a.eval y)) (aF:(gJ shs agg objs d1 d2 d3).ok):bQ P base W M w0 objs L w a o (gJ shs agg objs d1 d2 d3):=by
 unfold gJ at aF⊢;split at aF
 ·rename_i r Rh Ri;cases hc:objs r with
  |none=>simp[hc,bad]at aF
  |some ob=>
   cases ob with
   |map shs' agg' c es=>
    simp only[hc]at aF⊢;obtain⟨rfl,rfl,pz,hb⟩:=aF;simp only[av]at h1;obtain⟨_,hx⟩:=h1;have tT:=vn h2 Ri;obtain⟨arr,hh,oV,dK,cW,y7,hm⟩:=hO.ob r _ hc;have wA:=λem=>pw (P:=P) (w:=w) hk pz tT em;have hf:=sr (P:=P) hk pz tT oV dK;have hg:=eM (P:=P) hh trivial;have hs:=λy=>mQ (P:=P) (y:=y) hh trivial;simp only[Ri];unfold foundAt at hf;unfold D6 my;cases hi:es.findIdx? (λe=>fe Rh e.2.1)with
    |none=>
     simp only[hi]at hf;simp only;have bz:(Instr.mapUpdate t (.map (some (L.gW r))) (a.eval k) (a.eval y)).run P w=.ok () (w.fo (L.gW r) (.map (arr.push {key:=a.eval k,val:=a.eval y,born:=c}) (c+1))):=by
      simp[Instr.mapUpdate,run_underlying ht,hg,wA,hf,hs]
     have:=py hO hc (shs':=shs') (agg':=agg') (c':=c+1) (es':=es++[(c,Rh,d3)]) (arr':=arr.push {key:=a.eval k,val:=a.eval y,born:=c})
      (by rw[Array.toList_push];exact bj.append oV (by simp only[bj];exact⟨_,_,rfl,rfl,tT,h3,rfl⟩))
      (λe he=>by
        rcases Zao.1 he with he|he;·exact dK e he
        ·simp only[Zah]at he;subst he;exact pz)
      (λe he=>by
        rcases Zao.1 he with he|he;·have:=cW e he;omega
        ·simp only[Zah]at he;subst he;simp)
      (by rw[ZaP,ZbP];exact⟨y7,by simp,λb hb b2 kv=>by
         simp only[Zau,ZbX,Zah]at kv;obtain⟨e,he,rfl⟩:=Zal.1 hb;have:=cW e he;omega⟩)
     exact⟨.skip,Go.undef,_,L,by simp[execOp,ho,hx,bz],.inr ⟨rfl,rfl⟩,this.1,this.2,by simp[av]⟩
    |some i=>
     obtain⟨e,he,hq⟩:=EF hi;obtain⟨xe,AG,_,hxk,hv⟩:=bj.get oV he;simp only[hi,AG,Za1]at hf;have hte:Rh=e.2.1:=key_inj pz (dK e (Zaq he)) hq;have Kc:xe.key=a.eval k:=MO pz (by rw[hte];exact hxk) tT;have hkts:(Instr.keyThatStays xe.key (a.eval k)).run P w=.ok (a.eval k) w:=by
      rw[Kc];simp[Instr.keyThatStays,GQ pz tT]
     have hai:arr[i]? =some xe:=by simpa using AG
     have bz:(Instr.mapUpdate t (.map (some (L.gW r))) (a.eval k) (a.eval y)).run P w=.ok () (w.fo (L.gW r) (.map (arr.modify i λe=>{e with key:=a.eval k,val:=a.eval y}) c)):=by
      simp[Instr.mapUpdate,run_underlying ht,hg,wA,hf,hs,hai,hkts]
     have JC:(arr.modify i λe=>{e with key:=a.eval k,val:=a.eval y}).toList=arr.toList.modify i λe=>{e with val:=a.eval y}:=by
      rw[Zct];exact Kb (es:=es) (by simpa using hai) Kc
     simp only;have:=py hO hc (shs':=shs') (agg':=agg') (c':=c) (es':=es.modify i λe=>(e.1,e.2.1,d3)) (arr':=arr.modify i λe=>{e with key:=a.eval k,val:=a.eval y})
      (by rw[JC];exact bj.modify h3 i oV)
      (λe he=>by obtain⟨e',h1,_,h2⟩:=nu i he;rw[h2];exact dK e' h1)
      (λe he=>by obtain⟨e',h1,h2,_⟩:=nu i he;rw[h2];exact cW e' h1)
      (by rw[vq];exact y7)
     exact⟨.skip,Go.undef,_,L,by simp[execOp,ho,hx,bz],.inr ⟨rfl,rfl⟩,this.1,this.2,by simp[av]⟩
   |_=>simp[hc,bad]at aF
 ·exact aF.elim
theorem Ej(hO:bK base W M w0 objs w L){t kt et:TypeId}{x k:Operand}(ho:o.op=.mapEntry t x k)(ht:P.underlying t=some (.map kt et)){shs:List Sh}{agg:Bool}(hk:fJ P kt=some (shs,agg)){z:DV}(hz:CM P et=some z)
  {d1 d2:DV} (h1:av w W objs L d1 (a.eval x)) (h2:av w W objs L d2 (a.eval k)) (aF:(gK shs agg z objs d1 d2).ok):bQ P base W M w0 objs L w a o (gK shs agg z objs d1 d2):=by
 unfold gK at aF⊢;split at aF
 ·rename_i r Rh Ri;cases hc:objs r with
  |none=>simp[hc,bad]at aF
  |some ob=>
   cases ob with
   |map shs' agg' c es=>
    simp only[hc]at aF⊢;obtain⟨rfl,rfl,pz⟩:=aF;simp only[av]at h1;obtain⟨_,hx⟩:=h1;have tT:=vn h2 Ri;obtain⟨arr,hh,oV,dK,cW,y7,hm⟩:=hO.ob r _ hc;have wA:=λem=>pw (P:=P) (w:=w) hk pz tT em;have hf:=sr (P:=P) hk pz tT oV dK;have hg:=eM (P:=P) hh trivial;have hs:=λy=>mQ (P:=P) (y:=y) hh trivial;simp only[Ri];unfold WY;rw[vo];unfold foundAt at hf;unfold WX my;cases hi:es.findIdx? (λe=>fe Rh e.2.1)with
    |none=>
     simp only[hi]at hf;obtain⟨zv,W6,hzd⟩:=C9 (P:=P) (w:=w) (W:=W) (objs:=objs) (L:=L) hz;simp only[Option.bind_none];have bz:(Instr.mapEntry t (.map (some (L.gW r))) (a.eval k)).run P w=.ok (.tuple #[zv,goInt c]) (w.fo (L.gW r) (.map (arr.push {key:=a.eval k,val:=zv,born:=c}) (c+1))):=by
      simp[Instr.mapEntry,run_underlying ht,hg,wA,hf,hs,W6]
     have:=py hO hc (shs':=shs') (agg':=agg') (c':=c+1) (es':=es++[(c,Rh,z)]) (arr':=arr.push {key:=a.eval k,val:=zv,born:=c})
      (by rw[Array.toList_push];exact bj.append oV (by simp only[bj];exact⟨_,_,rfl,rfl,tT,hzd,rfl⟩))
      (λe he=>by
        rcases Zao.1 he with he|he;·exact dK e he
        ·simp only[Zah]at he;subst he;exact pz)
      (λe he=>by
        rcases Zao.1 he with he|he;·have:=cW e he;omega
        ·simp only[Zah]at he;subst he;simp)
      (by rw[ZaP,ZbP];exact⟨y7,by simp,λb hb b2 kv=>by
         simp only[Zau,ZbX,Zah]at kv;obtain⟨e,he,rfl⟩:=Zal.1 hb;have:=cW e he;omega⟩)
     refine⟨.value (.tuple #[zv,goInt c]),.tuple #[zv,goInt c],_,L,by simp[execOp,ho,hx,bz],.inl rfl,this.1,this.2, ?_⟩;have Xu:=av.ee this.2 _ _ hzd;simp only[av];exact⟨_,rfl,by simp only[eZ];exact⟨zv,_,rfl,Xu,goInt c,[],rfl,by simp[av,aR,goInt],rfl⟩⟩
    |some i=>
     obtain⟨e,he,hq⟩:=EF hi;obtain⟨xe,AG,MP,hxk,hv⟩:=bj.get oV he;simp only[hi,AG,Za1]at hf;have hte:Rh=e.2.1:=key_inj pz (dK e (Zaq he)) hq;have Kc:xe.key=a.eval k:=MO pz (by rw[hte];exact hxk) tT;have hkts:(Instr.keyThatStays xe.key (a.eval k)).run P w=.ok (a.eval k) w:=by
      rw[Kc];simp[Instr.keyThatStays,GQ pz tT]
     have hai:arr[i]? =some xe:=by simpa using AG
     have JC:(arr.modify i λe=>{e with key:=a.eval k}).toList=arr.toList:=by
      rw[Zct];apply Zbk;intro j;rw[List.getElem?_modify];split
      ·rename_i hj;subst hj;rw[AG];simp[<-Kc]
      ·simp
     have bz:(Instr.mapEntry t (.map (some (L.gW r))) (a.eval k)).run P w=.ok (.tuple #[xe.val,goInt xe.born]) (w.fo (L.gW r) (.map (arr.modify i λe=>{e with key:=a.eval k}) c)):=by
      simp[Instr.mapEntry,run_underlying ht,hg,wA,hf,hs,hai,hkts]
     have:=py hO hc (shs':=shs') (agg':=agg') (c':=c) (es':=es) (arr':=arr.modify i λe=>{e with key:=a.eval k})
      (by rw[JC];exact oV) dK cW y7
     simp only[Zb8,he];refine⟨.value (.tuple #[xe.val,goInt xe.born]),.tuple #[xe.val,goInt xe.born],_,L,by simp[execOp,ho,hx,bz],.inl rfl,this.1,this.2, ?_⟩;have Xu:=av.ee this.2 _ _ hv;simp only[av];exact⟨_,rfl,by simp only[eZ];exact⟨xe.val,_,rfl,Xu,goInt xe.born,[],rfl,by simp[av,aR,goInt,MP],rfl⟩⟩
   |_=>simp[hc,bad]at aF
 ·exact aF.elim
theorem Rj{es:List (Nat×T×DV)}{xs:List MapEntry}{b:Int}(h:bj w W objs L es xs):xs.findIdx? (λe=>(e.born:Int)==b)=es.findIdx? (λe=>(e.1:Int)==b):=by
 induction es generalizing xs with
 |nil=>simp only[bj]at h;subst h;rfl
 |cons e es ih=>
  simp only[bj]at h;obtain⟨x,jJ,rfl,hb,_,_,hr⟩:=h;simp only[Za4,ih hr,hb]
theorem Gs(hO:bK base W M w0 objs w L){t:TypeId}{x s y:Operand}(ho:o.op=.entryStore t x s y)
  {d1 d2 d3:DV} (h1:av w W objs L d1 (a.eval x)) (h2:av w W objs L d2 (a.eval s)) (h3:av w W objs L d3 (a.eval y)) (aF:(jf objs d1 d2 d3).ok):bQ P base W M w0 objs L w a o (jf objs d1 d2 d3):=by
 unfold jf at aF⊢;split at aF
 ·rename_i r kk b;cases hc:objs r with
  |none=>simp[hc,bad]at aF
  |some ob=>
   cases ob with
   |map shs agg c es=>
    simp only[hc]at aF⊢;simp only[av,aR]at h1 h2;obtain⟨_,hx⟩:=h1;obtain⟨arr,hh,oV,dK,cW,y7,hm⟩:=hO.ob r _ hc;have hg:=eM (P:=P) hh trivial;have hs:=λy=>mQ (P:=P) (y:=y) hh trivial;unfold WZ at aF⊢;cases hi:es.findIdx? (λe=>(e.1:Int)==b)with
    |none=>simp[hi,bad]at aF
    |some i=>
     simp only[Za1];have hbi:=(Rj (b:=b) oV).trans hi;have hbi':arr.findIdx? (λe=>(e.born:Int)==b)=some i:=by rw[<-hbi];cases arr;simp
     have bz:(Instr.entryStore t (.map (some (L.gW r))) (.int kk b) (a.eval y)).run P w=.ok () (w.fo (L.gW r) (.map (arr.modify i λe=>{e with val:=a.eval y}) c)):=by
      simp[Instr.entryStore,hg,hs,asInt,asIntOf,hbi']
     have:=py hO hc (shs':=shs) (agg':=agg) (c':=c) (es':=es.modify i λe=>(e.1,e.2.1,d3)) (arr':=arr.modify i λe=>{e with val:=a.eval y})
      (by rw[Zct];exact bj.modify h3 i oV)
      (λe he=>by obtain⟨e',h1,_,h2⟩:=nu i he;rw[h2];exact dK e' h1)
      (λe he=>by obtain⟨e',h1,h2,_⟩:=nu i he;rw[h2];exact cW e' h1)
      (by rw[vq];exact y7)
     exact⟨.skip,Go.undef,_,L,by simp[execOp,ho,hx,h2,bz],.inr ⟨rfl,rfl⟩,this.1,this.2,by simp[av]⟩
   |_=>simp[hc,bad]at aF
 ·exact aF.elim
theorem Em(hO:bK base W M w0 objs w L){t kt et:TypeId}{x k:Operand}{ts:Array TypeId}(Ql:ts[0]? =some t)(ho:o.op=.call {callee:=.builtin .delete,args:= #[x,k],argTypes:=ts})(ht:P.underlying t=some (.map kt et)){shs:List Sh}{agg:Bool}(hk:fJ P kt=some (shs,agg))
  {d1 d2:DV} (h1:av w W objs L d1 (a.eval x)) (h2:av w W objs L d2 (a.eval k)) (aF:(gM shs agg objs d1 d2).ok):bQ P base W M w0 objs L w a o (gM shs agg objs d1 d2):=by
 unfold gM at aF⊢;split at aF
 ·rename_i r Rh Ri;cases hc:objs r with
  |none=>simp[hc,bad]at aF
  |some ob=>
   cases ob with
   |map shs' agg' c es=>
    simp only[hc]at aF⊢;obtain⟨rfl,rfl,pz⟩:=aF;simp only[av]at h1;obtain⟨_,hx⟩:=h1;have tT:=vn h2 Ri;obtain⟨arr,hh,oV,dK,cW,y7,hm⟩:=hO.ob r _ hc;have wA:=λem=>pw (P:=P) (w:=w) hk pz tT em;have hf:=sr (P:=P) hk pz tT oV dK;have hg:=eM (P:=P) hh trivial;have hs:=λy=>mQ (P:=P) (y:=y) hh trivial;simp only[Ri];unfold foundAt at hf;unfold WV;cases hi:es.findIdx? (λe=>fe Rh e.2.1)with
    |none=>
     simp only[hi]at hf;simp only;have:=py hO hc (shs':=shs') (agg':=agg') (c':=c) (es':=es) (arr':=arr) oV dK cW y7;refine⟨.value (.tuple #[]),.tuple #[],_,L, ?_,.inl rfl,this.1,this.2,by simp only[av,aR,dw];exact⟨_,rfl,rfl⟩⟩;simp[execOp,ho,resolve,invoke,builtin,Builtin.delete_,Ql,hx,run_underlying ht,hg,wA,hf,hs]
    |some i=>
     obtain⟨e,he,hq⟩:=EF hi;obtain⟨xe,AG,_,hxk,hv⟩:=bj.get oV he;simp only[hi,AG,Za1]at hf;have JC:(arr.eraseIdxIfInBounds i).toList=arr.toList.eraseIdx i:=by
      have:i<arr.size:=by have:=(Zas.1 AG).1;simpa using this
      unfold Array.eraseIdxIfInBounds;simp[this]
     simp only;have:=py hO hc (shs':=shs') (agg':=agg') (c':=c) (es':=es.eraseIdx i) (arr':=arr.eraseIdxIfInBounds i)
      (by rw[JC];exact bj.erase i oV)
      (λe he=>dK e (Zcf he))
      (λe he=>cW e (Zcf he))
      (List.Sublist.nodup ((List.eraseIdx_sublist _ _).map _) y7)
     refine⟨.value (.tuple #[]),.tuple #[],_,L, ?_,.inl rfl,this.1,this.2,by simp only[av,aR,dw];exact⟨_,rfl,rfl⟩⟩;simp[execOp,ho,resolve,invoke,builtin,Builtin.delete_,Ql,hx,run_underlying ht,hg,wA,hf,hs]
   |_=>simp[hc,bad]at aF
 ·exact aF.elim
theorem JK(hO:bK base W M w0 objs w L){x:Operand}{t kt et:TypeId}(ho:o.op=.call {callee:=.builtin .len,args:= #[x],argTypes:= #[t]})(ht:P.underlying t=some (.map kt et)){d:DV}(h:av w W objs L d (a.eval x))(aF:(o8 objs d).ok):
  bQ P base W M w0 objs L w a o (o8 objs d):=by
 unfold o8 at aF⊢;split at aF
 ·rename_i r;cases hc:objs r with
  |none=>simp[hc,bad]at aF
  |some ob=>
   cases ob with
   |map shs agg c es=>
    simp only[av]at h;obtain⟨_,hx⟩:=h;obtain⟨arr,hh,oV,_⟩:=hO.ob r _ hc;have hg:=eM (P:=P) hh trivial;have hl:=bj.length oV;simp only[ZaU]at hl;refine bQ.int hO rfl rfl ?_;simp[execOp,ho,resolve,invoke,builtin,hx,Builtin.len_,run_underlying ht,goInt,hg,hl]
   |_=>simp[hc,bad]at aF
 ·exact aF.elim
theorem Gr(hO:bK base W M w0 objs w L){name:Nat}(dx:objs name=none){t:TypeId}(ho:o.op=.makeMap t none)(shs:List Sh)(agg:Bool):
  bQ P base W M w0 objs L w a o ⟨True,.iv name,some (name,.map shs agg 0 [])⟩:=by
 have hb:=jw (w:=w) (.map #[] 0);have h:=bK.put hO (r:=name) (L':=L.fC name w.heap.size) (o':=.map shs agg 0 []) (uM hO.fr hb) hb.size (λx hx=>⟨by simp[Loc.fC,hx],rfl⟩) rfl (λb cW _=>hb.block b cW) (λb h=>.inr (by
   simp only[Loc.own,Loc.fC,if_true,Zaa]at h;omega))
  (λo' h _=>by rw[dx]at h;cases h) (λ_ _ _ _ h=>by rw[dx]at h;cases h) (λee=>by
   refine⟨#[], ?_,by simp[bj],by simp,by simp,by simp,.inl ?_⟩
   ·simp only[Loc.fC,if_true];exact heap_alloc_new w _
   ·simp only[Loc.fC,if_true];exact ZaC hO.fr.hZ hO.fr.size)
 refine⟨_,.map (some w.heap.size),_,_, ?_,.inl rfl,h.1,h.2, ?_⟩
 ·simp[execOp,ho,Instr.makeMap]
 ·simp only[av];exact⟨⟨shs,agg,0,[],by simp[bR]⟩,by simp[Loc.fC]⟩
theorem Ek(hO:bK base W M w0 objs w L){name:Nat}(dx:objs name=none){x:Operand}{t kt et:TypeId}(ho:o.op=.range t x)(ht:P.underlying t=some (.map kt et)){d:DV}(h:av w W objs L d (a.eval x))(aF:(ju name objs d).ok):
  bQ P base W M w0 objs L w a o (ju name objs d):=by
 unfold ju at aF⊢;split at aF
 ·rename_i r;cases hc:objs r with
  |none=>simp[hc,bad]at aF
  |some ob=>
   cases ob with
   |map shs agg c es=>
    simp only[av]at h;obtain⟨Jn,hx⟩:=h;obtain⟨arr,hh,oV,_⟩:=hO.ob r _ hc;have hg:=eM (P:=P) hh trivial;have bG:r≠name:=λe=>by rw[e,dx]at hc;cases hc
    have hb:=jw (w:=w) (.mapIter (some (L.gW r)) c #[] c);have h:=bK.put hO (r:=name) (L':=L.fC name w.heap.size) (o':=.iter r c [] c) (uM hO.fr hb) hb.size (λx hx=>⟨by simp[Loc.fC,hx],rfl⟩) rfl (λb cW _=>hb.block b cW) (λb h=>.inr (by
      simp only[Loc.own,Loc.fC,if_true,Zaa]at h;omega))
     (λo' h _=>by rw[dx]at h;cases h) (λ_ _ _ _ h=>by rw[dx]at h;cases h) (λee=>by
      refine⟨?_,⟨shs,agg,c,es,by simp[bR,bG,hc]⟩,.inl ?_⟩
      ·simp only[Loc.fC,if_true,bG,if_false];exact heap_alloc_new w _
      ·simp only[Loc.fC,if_true];exact ZaC hO.fr.hZ hO.fr.size)
    simp only[];refine⟨_,.pointer (some ⟨w.heap.size,0,none⟩),_,_, ?_,.inl rfl,h.1,h.2, ?_⟩
    ·simp[execOp,ho,Instr.range,hx,run_underlying ht,hg]
    ·simp only[av];exact⟨⟨r,c,[],c,by simp[bR]⟩,by simp[Loc.fC]⟩
   |_=>simp[hc,bad]at aF
 ·exact aF.elim
theorem AP{b:Nat}:∀{es:List (Nat×T×DV)} {xs:List MapEntry},bj w W objs L es xs->∀{e:Nat×T×DV},(es.find? λe=>e.1==b)=some e->∃x,(xs.find? λx=>x.born==b)=some x/\aR w (WW W objs L) e.2.1 x.key/\av w W objs L e.2.2 x.val
 |[],_,_,e,h=>by simp at h
 |e0::es,xs,hr,e,h=>by
  simp only[bj]at hr;obtain⟨x,jJ,rfl,h1,h2,h3,h4⟩:=hr;simp only[ZaN,h1]at h⊢;by_cases hb:(e0.1==b)=true
  ·simp only[hb]at h⊢;cases h;exact⟨x,rfl,h2,h3⟩
  ·simp only[hb]at h⊢;exact AP h4 h
theorem Eo(hO:bK base W M w0 objs w L){x:Operand}(ho:o.op=.entry x){d:DV}(h:av w W objs L d (a.eval x))(aF:(jv objs d).ok):
  bQ P base W M w0 objs L w a o (jv objs d):=by
 unfold jv at aF⊢;split at aF
 ·rename_i r;cases hc:objs r with
  |none=>simp[hc,bad]at aF
  |some ob=>
   cases ob with
   |iter m s sn l=>
    simp only[hc]at aF⊢;cases hm:objs m with
    |none=>simp[hm,bad]at aF
    |some om=>
     cases om with
     |map shs agg c es=>
      simp only[hm]at aF⊢;cases hl:sn.getLast? with
      |none=>simp[hl,bad]at aF
      |some b=>
       simp only[hl]at aF⊢;cases hf:es.find? (λe=>e.1==b)with
       |none=>simp[hf,bad]at aF
       |some e=>
        simp only[hf]at aF⊢;subst aF;simp only[av]at h;obtain⟨_,hx⟩:=h;obtain⟨hh,_,_⟩:=hO.ob r _ hc;obtain⟨arr,hh2,oV,_⟩:=hO.ob m _ hm;have hg:=eM (P:=P) hh trivial;have hg2:=eM (P:=P) hh2 trivial;obtain⟨xe,AG,k1,k2⟩:=AP oV hf;have hback:sn.toArray.back? =some b:=by rw[List.back?_toArray];exact hl
        have Of:arr.find? (λx=>x.born==b)=some xe:=by rw[<-Array.find?_toList];exact AG
        refine bQ.quiet hO rfl (v:=.tuple #[xe.key,xe.val]) ?_ ?_
        ·simp[execOp,ho,Instr.entry,hx,hg,hback,hg2,Of]
        ·simp only[av];exact⟨_,rfl,by simp only[eZ];exact⟨_,_,rfl,by simpa [av]using k1,_,_,rfl,k2,rfl⟩⟩
     |_=>simp[hm,bad]at aF
   |_=>simp[hc,bad]at aF
 ·exact aF.elim
theorem El(hO:bK base W M w0 objs w L){t:TypeId}{x i:Operand}(ho:o.op=.index t x i)(ht:P.underlying t=some .string){d1 d2:DV}(h1:av w W objs L d1 (a.eval x))(h2:av w W objs L d2 (a.eval i))(aF:(mg d1 d2).ok):
  bQ P base W M w0 objs L w a o (mg d1 d2):=by
 unfold mg at aF⊢;split at aF
 ·rename_i s k j;simp only[av,aR]at h1 h2;obtain⟨h0,cW⟩:=aF;have hj:j.toNat<s.size:=by omega
  have YP:j.toNat<s.data.size:=hj;have pj:s[j.toNat]? =some (s.data.getD j.toNat 0):=by
   rw[getElem?_pos s j.toNat hj];simp[Array.getD,ByteArray.getElem_eq_getElem_data];intro h;omega
  refine bQ.int hO rfl rfl ?_;simp[execOp,ho,Instr.index,h1,h2,asIntOf,run_underlying ht,h0,pj]
 ·exact aF.elim
theorem EG{op:BinOp}{neg:Bool}(Cc:op=if neg then .neq else .eql){t:TypeId}{x y:Operand}{yt:TypeId}(ho:o.op=.binOp op t x y yt){r:Bool}(bG:∀k n,a.eval x≠ .int k n)(hni:a.eval x≠ .nilIface)(hna:∀cs,a.eval x≠ .agg cs)(hnf:∀k b,a.eval x≠ .float k b)(Qn:∀k b c,a.eval x≠ .complex k b c)(hns:∀s,a.eval x≠ .string s)
  (he:(Op.equal t (a.eval x) (a.eval y)).run P w=.ok r w) (hg:(eqGuard op t x y (a.eval x) (a.eval y)).run P w=.ok () w):(execOp a.eval o).run P w=.ok (.value (.bool (neg^^r))) w:=by
 have hb:(binOp op t (a.eval x) (a.eval y)).run P w=.ok (.bool (neg^^r)) w:=by
  generalize a.eval x=xv at*
  subst Cc;cases neg<;>cases xv<;>first|exact absurd rfl (bG _ _)|exact absurd rfl hni|exact absurd rfl (hna _)|exact absurd rfl (hnf _ _)|exact absurd rfl (Qn _ _ _)|exact absurd rfl (hns _)|simp[binOp,he]
 simp[execOp,ho,hg,hb]
theorem GR{d:TypeDesc}{y:Operand}{y':bp}{k:Nat}(hy:bp.of y=some y')(h:uP d y'=some k):
  (k=0/\(∃e,d=.slice e)/\a.eval y=.slice none 0 0)\/(k=1/\(∃e,d=.pointer e)/\a.eval y=.pointer none)\/(k=2/\(∃p r v,d=.func p r v)/\a.eval y=.nilFunc):=by
 unfold uP at h;have key:∀{z:DV},bp.of y=some (.cq z)->∃v,a.eval y=v/\(kF v=some z\/(∃f,z=.v (.fn f []))\/∃c,z=.gz c 0):=by
  intro z hz;cases y with
  |tmp t=>simp[bp.of]at hz
  |const v=>simp only[bp.of,Zab,bp.cq.injEq]at hz;obtain⟨d,hd,rfl⟩:=hz;exact⟨v,rfl,.inl hd⟩
  |func f=>simp only[bp.of,Zaa,bp.cq.injEq]at hz;subst hz;exact⟨_,rfl,.inr (.inl ⟨_,rfl⟩)⟩
  |global g=>
   simp only[bp.of,Zab,bp.cq.injEq]at hz;obtain⟨p,_,rfl⟩:=hz;exact⟨_,rfl,.inr (.inr ⟨_,rfl⟩)⟩
 split at h
 ·obtain⟨v,hv,hc|⟨f,hf⟩|⟨f,hf⟩⟩:=key hy
  ·unfold kF at hc;split at hc<;>simp at hc
   exact .inl ⟨by simpa using h.symm,⟨_,rfl⟩,hv⟩
  ·cases hf
  ·cases hf
 ·obtain⟨v,hv,hc|⟨f,hf⟩|⟨f,hf⟩⟩:=key hy
  ·unfold kF at hc;split at hc<;>simp at hc
   exact .inr (.inl ⟨by simpa using h.symm,⟨_,rfl⟩,hv⟩)
  ·cases hf
  ·cases hf
 ·obtain⟨v,hv,hc|⟨f,hf⟩|⟨f,hf⟩⟩:=key hy
  ·unfold kF at hc;split at hc<;>simp at hc
   exact .inr (.inr ⟨by simpa using h.symm,⟨_,_,_,rfl⟩,hv⟩)
  ·cases hf
  ·cases hf
 ·cases h
theorem tU(d:Nat)(hd:d=9999)(t:TypeId)(x y:Value):(Op.equal t x y)=Op.equalIn (d+1) t x y:=by subst hd;rfl
theorem w6(t e:TypeId)(p:Option Addr)(n c:Nat)(h:P.underlying t=some (.slice e)):(Op.equal t (.slice p n c) (.slice none 0 0)).run P w=.ok p.isNone w:=by
 obtain⟨d,hd⟩:∃d,d=9999:=⟨_,rfl⟩;rw[tU d hd,Op.equalIn];cases p<;>simp[run_underlying h]
theorem AQ(t e:TypeId)(p:Option Addr)(h:P.underlying t=some (.pointer e)):(Op.equal t (.pointer p) (.pointer none)).run P w=.ok p.isNone w:=by
 obtain⟨d,hd⟩:∃d,d=9999:=⟨_,rfl⟩;rw[tU d hd,Op.equalIn];cases p<;>simp[run_underlying h]
theorem Co(t:TypeId){q1 q2 q3}(v:Value)(r:Bool)(h:P.underlying t=some (.func q1 q2 q3))(hv:(v=.nilFunc/\r=true)\/(∃f b c,v=.func f b c)/\r=false):(Op.equal t v .nilFunc).run P w=.ok r w:=by
 obtain⟨d,hd⟩:∃d,d=9999:=⟨_,rfl⟩;rw[tU d hd,Op.equalIn];rcases hv with⟨rfl,rfl⟩|⟨⟨f,b,c,rfl⟩,rfl⟩<;>simp[run_underlying h]
theorem yh(hO:bK base W M w0 objs w L){op:BinOp}{neg:Bool}(Cc:op=if neg then .neq else .eql){t:TypeId}{x y:Operand}{yt:TypeId}(ho:o.op=.binOp op t x y yt){d:TypeDesc}(hd:P.underlying t=some d){y':bp}(hy:bp.of y=some y'){k:Nat}(hk:uP d y'=some k)
  {d1:DV} (h1:av w W objs L d1 (a.eval x)) (aF:(eH k neg objs d1).ok):bQ P base W M w0 objs L w a o (eH k neg objs d1):=by
 have hv:=GR (a:=a) hy hk;have fin:∀{r:Bool},eH k neg objs d1=⟨(eH k neg objs d1).ok,.v (.bool (neg^^r)),none⟩->(execOp a.eval o).run P w=.ok (.value (.bool (neg^^r))) w->bQ P base W M w0 objs L w a o (eH k neg objs d1):=by
  intro r e h;rw[e];exact bQ.bool hO rfl rfl h
 have sl:∀{p:Option Addr} {n c:Nat},k=0->a.eval x=.slice p n c->(execOp a.eval o).run P w=.ok (.value (.bool (neg^^p.isNone))) w:=by
  intro p n c h0 hx;rcases hv with⟨_,⟨e,rfl⟩,Jo⟩|⟨h,_⟩|⟨h,_⟩
  ·refine EG Cc ho (by simp[hx]) (by simp[hx]) (by simp[hx]) (by simp[hx]) (by simp[hx]) (by simp[hx]) (by rw[hx,Jo];exact w6 t e p n c hd) ?_;rw[hx,Jo,Cc];cases neg<;>simp[eqGuard]
  ·omega
  ·omega
 have pt:∀{p:Option Addr},k=1->a.eval x=.pointer p->(execOp a.eval o).run P w=.ok (.value (.bool (neg^^p.isNone))) w:=by
  intro p h0 hx;rcases hv with⟨h,_⟩|⟨_,⟨e,rfl⟩,Jo⟩|⟨h,_⟩
  ·omega
  ·refine EG Cc ho (by simp[hx]) (by simp[hx]) (by simp[hx]) (by simp[hx]) (by simp[hx]) (by simp[hx]) (by rw[hx,Jo];exact AQ t e p hd) ?_;rw[hx,Jo,Cc];cases neg<;>simp[eqGuard]
  ·omega
 have fn:∀{v:Value} {r:Bool},k=2->a.eval x=v->(v=.nilFunc/\r=true)\/(∃f b c,v=.func f b c)/\r=false->(execOp a.eval o).run P w=.ok (.value (.bool (neg^^r))) w:=by
  intro v r h0 hx zi;rcases hv with⟨h,_⟩|⟨h,_⟩|⟨_,⟨q1,q2,q3,rfl⟩,Jo⟩
  ·omega
  ·omega
  ·have he:=Co (w:=w) t v r hd zi;subst hx;refine EG Cc ho ?_ ?_ ?_ ?_ ?_ ?_ (by rw[Jo];exact he) ?_;all_goals rcases zi with⟨hx,rfl⟩|⟨⟨f,b,c,hx⟩,rfl⟩<;>first|(simp[hx];done)|(rw[hx,Jo,Cc];cases neg<;>simp[eqGuard])
 cases d1 with
 |v t'=>
  cases t' with
  |sl rows=>
   simp only[eH]at aF;obtain⟨h0,bG⟩:=aF;simp only[av,aR]at h1;rcases h1 with⟨rfl,_⟩|⟨b,oo,c,sz,hx,_⟩
   ·exact absurd rfl bG
   ·exact fin (r:=false) rfl (sl h0 hx)
  |fn f caps=>
   cases f with
   |func f=>simp only[av,aR]at h1;obtain⟨vs,hx,_⟩:=h1;exact fin (r:=false) rfl (fn aF hx (.inr ⟨⟨_,_,_,rfl⟩,rfl⟩))
   |_=>exact aF.elim
  |box cs=>simp only[av,aR]at h1;obtain⟨b,oo,hx,_⟩:=h1;exact fin (r:=false) rfl (pt aF hx)
  |raw v=>
   simp only[av,aR]at h1;cases v with
   |slice p n c=>exact fin (r:=p.isNone) rfl (sl aF h1)
   |pointer p=>exact fin (r:=p.isNone) rfl (pt aF h1)
   |nilFunc=>exact fin (r:=true) rfl (fn aF h1 (.inl ⟨rfl,rfl⟩))
   |_=>exact aF.elim
  |_=>exact aF.elim
 |ptr r off=>simp only[av]at h1;exact fin (r:=false) rfl (pt aF h1.2)
 |gz cs off=>simp only[av]at h1;obtain⟨b,oo,hx,_⟩:=h1;exact fin (r:=false) rfl (pt aF hx)
 |ky rows i off=>simp only[av]at h1;obtain⟨b,oo,sz,hx,_⟩:=h1;exact fin (r:=false) rfl (pt aF hx)
 |jd r ver i off=>simp only[av]at h1;obtain⟨⟨b,oo,hx⟩,_⟩:=h1;exact fin (r:=false) rfl (pt aF hx)
 |mu f caps=>
  cases f with
  |func f=>simp only[av]at h1;obtain⟨vs,hx,_⟩:=h1;exact fin (r:=false) rfl (fn aF hx (.inr ⟨⟨_,_,_,rfl⟩,rfl⟩))
  |_=>exact aF.elim
 |bk r ver=>
  cases hc:objs r with
  |none=>simp[eH,hc,bad]at aF
  |some ob=>
   cases ob with
   |arr ver' e' fY rows=>
    have e1:eH k neg objs (.bk r ver)=⟨k=0/\ver=ver'/\rows≠[],.v (.bool (neg^^false)),none⟩:=by simp only[eH,hc]
    rw[e1]at aF;obtain⟨h0,rfl,bG⟩:=aF;simp only[av]at h1;obtain⟨_,nI,e2,CH,jP,lI,_,jj⟩:=h1;rw[hc]at lI;cases lI;have hx:=jj rfl;obtain⟨_,_,_,kl⟩:=hO.ob r _ hc;rcases kl with⟨rfl,_⟩|⟨g,cap,cur,k1,_⟩
    ·exact absurd rfl bG
    ·exact fin (r:=false) (by rw[e1]) (sl h0 (hx.trans k1))
   |_=>simp[eH,hc,bad]at aF
 |_=>exact aF.elim
theorem JX(hO:bK base W M w0 objs w L){r m s l c:Nat}{sn:List Nat}{shs:List Sh}{agg:Bool}{es:List (Nat×T×DV)}(hr:objs r=some (.iter m s sn l))(hm:objs m=some (.map shs agg c es))(cW:∀e∈es,e.1<s)(hl:s<=l)(ty:TypeId):
  ((∀e∈es,e.1∈sn)/\(Instr.next (.pointer (some ⟨L.gW r,0,none⟩)) false ty).run P w=.ok (.tuple #[.bool false]) w)\/
  ∃e∈es,e.1∉sn/\∃k v w',(Instr.next (.pointer (some ⟨L.gW r,0,none⟩)) false ty).run P w=.ok (.tuple #[.bool true,k,v]) w'/\
   bK base W M w0 (bR objs (some (r,.iter m s (sn++[e.1]) c))) w' L/\iX W objs L w (bR objs (some (r,.iter m s (sn++[e.1]) c))) L w':=by
 obtain⟨hh,_,Mo⟩:=hO.ob r _ hr;obtain⟨arr,hh2,oV,_⟩:=hO.ob m _ hm;have hg:=eM (P:=P) hh trivial;have hg2:=eM (P:=P) hh2 trivial;have Za:∀x∈arr.toList,x.born<s:=by
  intro x hx;obtain⟨i,hi⟩:=ZbH hx;have sU:i<es.length:=by rw[<-bj.length oV];exact(Zas.1 hi).1
  obtain⟨x',fZ,hb,_⟩:=bj.get oV (Zan sU);rw[hi]at fZ;cases fZ;rw[hb];exact cW _ (Zbi sU)
 have htest:(!(sn.toArray).isEmpty&& !arr.isEmpty&&arr.all (λx=>decide (x.born>=l)))=false:=by
  cases he:arr.isEmpty with
  |true=>simp
  |false=>
   have dK:arr.all (λx=>decide (x.born>=l))=false:=by
    rw[Bool.eq_false_iff];intro h;rw[Array.all_eq_true_iff_forall_mem]at h;have h0:0<arr.size:=by
     rcases ZcA arr.size with h0|h0
     ·simp[Array.isEmpty,h0]at he
     ·exact h0
    have h1:=h _ (Array.getElem_mem h0);have h2:=Za arr[0] (by simp);simp at h1;omega
   simp[dK]
 have MQ:∀x,x∈arr.filter (λe=> !sn.toArray.contains e.born)↔x∈arr.toList/\x.born∉sn:=by
  intro x;simp
 have w7:∀x∈(arr.filter (λe=> !sn.toArray.contains e.born)),x.born<s:=λx hx=>Za x ((MQ x).1 hx).1;simp only[Instr.next,Sem.run_bind,hg,hg2,Result.andThen_ok,htest,ZaT,if_false];generalize hL:arr.filter (λe=> !sn.toArray.contains e.born)=A at MQ w7⊢;have e1:A.filter (λx=>decide (x.born<s))=A:=Array.filter_eq_self.2 (λx hx=>by simpa using w7 x hx);have e2:A.filter (λx=>decide (x.born>=s))= #[]:=by
  rw[Array.filter_eq_empty_iff];intro x hx;have:=w7 x hx;simp;omega
 simp only[e1,e2,ZbD];by_cases h0:A.size=0
 ·left;have:A= #[]:=Array.eq_empty_of_size_eq_zero h0;subst this;refine⟨λe he=>?_, ?_⟩
  ·obtain⟨i,hi⟩:=ZbH he;obtain⟨x,hx,hb,_⟩:=bj.get oV hi;by_cases h:e.1∈sn
   ·exact h
   ·have:=(MQ x).2 ⟨Zaq hx,by rw[hb];exact h⟩;simp at this
  ·simp[choose,Sem.run,Question.forced]
 ·right;have bG:A.isEmpty=false:=by simp[Array.isEmpty,h0]
  simp only[bG,ZaT,if_false,Array.empty_append,Array.size_map];have MR:∃(j:Nat) (w1:World),j<A.size/\(w1=w\/w1=w.drew)/\(choose (Question.mapNext A.size)).run P w=.ok j w1:=by
   by_cases hf:A.size<=1
   ·exact⟨0,w,by omega,.inl rfl,by simp[choose,Sem.run,Question.forced,hf]⟩
   ·exact⟨_,w.drew,Nat.mod_lt _ (by omega),.inr rfl,by
     simp only[choose,Sem.run,Question.forced,decide_eq_true_eq,hf,if_false,Question.cut];rfl⟩
  obtain⟨j,w1,hj,Oe,bz⟩:=MR;have qc:=(MQ A[j]).1 (Array.getElem_mem hj);obtain⟨i,hi⟩:=ZbH qc.1;have sU:i<es.length:=by rw[<-bj.length oV];exact(Zas.1 hi).1
  obtain⟨x',fZ,hb,_⟩:=bj.get oV (Zan sU);rw[hi]at fZ;cases fZ;have hhe:w1.heap=w.heap:=by rcases Oe with rfl|rfl<;>rfl
  have hh1:w1.heap[L.gW r]? =some (.mapIter (some (L.gW m)) s sn.toArray l):=by rw[hhe];exact hh
  have hfr1:Fr base M w0 w1:=by
   rcases Oe with rfl|rfl
   ·exact hO.fr
   ·exact⟨hO.fr.os,hO.fr.tape,hO.fr.output,hO.fr.hZ,hO.fr.size,hO.fr.block,Nat.le_succ_of_le hO.fr.drawn⟩
  refine⟨es[i],Zbi sU,by rw[<-hb];exact qc.2,A[j].key,A[j].val,w1.fo (L.gW r) (.mapIter (some (L.gW m)) s (sn.toArray.push A[j].born) c), ?_, ?_⟩
  ·simp only[bz,Array.getElem?_map,Zbs hj,Za1,Sem.run_bind,mQ (P:=P) hh1 trivial,Result.andThen_ok,Sem.run_pure]
  ·rw[hb];refine bK.put hO (C7 _ hfr1 Mo) (by rw[rC,hhe];exact Zae _) (λ_ _=>⟨rfl,rfl⟩) rfl (λb _ hb=>(px (λx=>hb _ hr (by simp[Loc.own,x]))).trans (by rw[hhe]))
    (λb hb=>.inl ⟨_,hr,hb⟩) (λo' ga _=>by rw[hr]at ga;cases ga;exact⟨rfl,rfl⟩) (λver e sz rows h=>by rw[hr]at h;cases h) (λee=>?_)
   refine⟨?_, ?_,Mo⟩
   ·rw[yD hh1];simp
   ·have bG:m≠r:=λe=>by rw[e,hr]at hm;cases hm
    exact⟨shs,agg,c,es,by simp[bR,bG,hm]⟩
end
end Go.DM
namespace Go.DM
open Go.RowKit
variable [Laid]
section
variable{P:Program}{base:Nat}{W M:Nat->Prop}{w0:World}{objs:aU}{L:Loc}{w:World}{a:Act}{o:Oper}{Γ:Env}{name:Nat}{ρ:Nat->DV}{d:nH}
theorem uR{lend:Bool}(W':Nat->Prop)(hO:bK base W M w0 objs w L)(hW:lend=true->∀r o b,objs r=some o->L.own r o=some b->¬W' b)(N8:∀b,W' b->WW W objs L b):
  (∀(d:DV) (x:Value),av w W objs L d x->Cb lend objs d->aR w W' (qd objs d) x)/\(∀(ds:List DV) (xs:List Value),aK w W objs L ds xs->qE lend objs ds->aP w W' (gO objs ds) xs):=by
 have hk:cb (WW W objs L) w w:=cb.refl _ _;have one:∀(n:Nat),(∀(d:DV) (x:Value),SizeOf.sizeOf d<n->av w W objs L d x->Cb lend objs d->aR w W' (qd objs d) x)/\(∀(ds:List DV) (xs:List Value),SizeOf.sizeOf ds<n->aK w W objs L ds xs->qE lend objs ds->aP w W' (gO objs ds) xs):=by
  intro n;induction n with
  |zero=>exact⟨λ_ _ h=>by omega,λ_ _ h=>by omega⟩
  |succ n ih=>
   refine⟨λd x hn h aF=>?_,λds xs hn h aF=>?_⟩
   ·cases d with
    |v t=>simp only[av]at h;simp only[qd];exact aR.aC hk.toKeepsC (λb _ hb=>N8 b hb) t x h
    |aI=>
     simp only[av]at h;obtain⟨p,rfl⟩:=h;simp only[qd,aR];exact .inl ⟨trivial,p,0,rfl⟩
    |bk r ver=>
     simp only[Cb]at aF;obtain⟨hl,aF⟩:=aF;simp only[av]at h;obtain⟨_,ver',e,sz,rows,hc,_,hv⟩:=h;simp only[hc]at aF;have hv:=hv aF;subst hv;simp only[qd,hc,aR];have fH:=hO.ob r _ hc;obtain⟨gB,cS,hm,kl⟩:=fH;rcases kl with⟨rfl,p,hp⟩|⟨g',cap,cur,pU,hp,hh,hle,pb,D9,eI⟩
     ·exact .inl ⟨rfl,p,0,hp⟩
     ·have uA:aO (L.sl r)=some g':=by simp[pU,aO,Zay.1 hp]
      refine .inr ⟨g',0,cap,sz,pU,(Zai.1 hh).1,hW hl r _ g' hc (by simpa [Loc.own]using uA),hle, ?_⟩;have tH:=mZ.rows (hO.ob r _ hc) (g:=g') (by simp[pU,aO,Zay.1 hp]);by_cases hg:g'<w.heap.size
      ·obtain⟨vs,wj,zi,Qg⟩:=aX.flatten tH;exact aX.ia (aP.aC hk.toKeepsC (λb _ hb=>N8 b hb) _ _ zi) cS Qg
      ·exact absurd (Zai.1 hh).1 hg
    |agg cs=>
     simp only[av]at h;obtain⟨vs,rfl,hr⟩:=h;simp only[qd,aR];simp only[Cb]at aF;exact⟨vs,rfl,ih.2 cs _ (by simp at hn⊢;omega) hr aF⟩
    |mu f cs=>
     simp only[av]at h;obtain⟨vs,rfl,hr⟩:=h;simp only[qd,aR];simp only[Cb]at aF;exact⟨vs,rfl,ih.2 cs _ (by simp at hn⊢;omega) hr aF⟩
    |sP r ver lo m=>
     simp only[Cb]at aF;obtain⟨hl,aF⟩:=aF;simp only[av]at h;obtain⟨_,ver',e,sz,rows,hc,_,hv⟩:=h;simp only[hc]at aF;have hv:=hv aF.1;simp only[qd,hc,aR];have D1:((rows.drop lo).take m).length=m:=by rw[Zaw,Za9];omega
     rcases qN hO hc hv with⟨rfl,a,c,rfl⟩|⟨g,c,uA,rfl,Qn,hr⟩
     ·exact .inl ⟨by simp,a,c,rfl⟩
     ·refine .inr ⟨g,lo*sz,c,sz,by rw[D1],(hO.ob r _ hc).lt (by simpa [Loc.own]using uA),hW hl r _ g hc (by simpa [Loc.own]using uA),by omega, ?_⟩;obtain⟨vs,wj,zi,Qg⟩:=aX.flatten hr;exact aX.ia (aP.aC hk.toKeepsC (λb _ hb=>N8 b hb) _ _ zi) (λx hx=>(hO.ob r _ hc).2.1 x (Zbv (Zav hx))) Qg
    |_=>exact aF.elim
   ·cases ds with
    |nil=>simpa [aK,aP,gO]using h
    |cons d ds=>
     simp only[aK]at h;obtain⟨x,jJ,rfl,h1,h2,hr⟩:=h;simp only[qE]at aF;simp only[gO,aP];exact⟨x,jJ,rfl,h1,ih.1 d x (by simp at hn⊢;omega) h2 aF.1,ih.2 ds jJ (by simp at hn⊢;omega) hr aF.2⟩
 exact⟨λd x=>(one (SizeOf.sizeOf d+1)).1 d x (by omega),λds xs=>(one (SizeOf.sizeOf ds+1)).2 ds xs (by omega)⟩
theorem JJ{neg agg:Bool}{shs:List Sh}{t u:T}(h:¬((∃as,t=.agg as)/\∃bs,u=.agg bs)):zP neg agg shs t u=⟨agg=false/\dg shs [t]/\dg shs [u],.v (.bool (neg^^fe t u)),none⟩:=by
 cases t<;>first|rfl|(cases u<;>first|rfl|exact absurd ⟨⟨_,rfl⟩,⟨_,rfl⟩⟩ h)
theorem Ms{n:Nat}{t:TypeId}{s:Sh}{desc:TypeDesc}(hs:jH P (n+1) t=some [s])(hd:P.underlying t=some desc)(ha:bA desc=false):(s=.bool/\desc=.bool)\/(s=.str/\desc=.string)\/∃k,s=.int k/\desc=.int k:=by
 simp only[jH,hd]at hs;cases desc;case bool=>simp at hs;exact .inl ⟨hs.symm,rfl⟩
 case int k=>simp at hs;exact .inr (.inr ⟨k,hs.symm,rfl⟩)
 case string=>simp at hs;exact .inr (.inl ⟨hs.symm,rfl⟩)
 case struct=>exact absurd ha (by simp[bA])
 case array=>exact absurd ha (by simp[bA])
 all_goals exact absurd hs (by simp)
theorem Gp{op:BinOp}{t:TypeId}{x y:Operand}{yt:TypeId}{neg:Bool}(Cc:op=if neg then .neq else .eql)(ho:o.op=.binOp op t x y yt){desc:TypeDesc}(hd:P.underlying t=some desc)(Mt:∀k,desc≠ .int k){shs:List Sh}(hs:jH P 10000 t=some shs)(hg:P.eqGuardType P.depth t=false)
  (hO:bK base W M w0 objs w L) {d1 d2:DV} (h1:av w W objs L d1 (a.eval x)) (h2:av w W objs L d2 (a.eval y)) (k1:Cb true objs d1) (k2:Cb true objs d2) (aF:(zP neg (bA desc) shs (qd objs d1) (qd objs d2)).ok):
  bQ P base W M w0 objs L w a o ⟨True,(zP neg (bA desc) shs (qd objs d1) (qd objs d2)).val,none⟩:=by
 have r1:=(uR (lend:=true) (λ_=>False) hO (λ_ _ _ _ _ _ h=>h) (λ_ h=>h.elim)).1 d1 _ h1 k1;have r2:=(uR (lend:=true) (λ_=>False) hO (λ_ _ _ _ _ _ h=>h) (λ_ h=>h.elim)).1 d2 _ h2 k2;by_cases hagg:(∃as,qd objs d1=.agg as)/\∃bs,qd objs d2=.agg bs
 ·obtain⟨⟨as,t1⟩,bs,t2⟩:=hagg;simp only[t1,t2,zP]at aF⊢;obtain⟨ha,f1,f2⟩:=aF;rw[t1]at r1;rw[t2]at r2;simp only[aR]at r1 r2;obtain⟨xs,e1,g1⟩:=r1;obtain⟨ys,e2,g2⟩:=r2;have hq:(Op.equal t (.agg xs) (.agg ys)).run P w=.ok (oq as bs) w:=by
   have:=pd 10000 t shs desc hs hd xs.toList ys.toList w (gN f1 g1) (gN f2 g2);simp only[wk,ha,if_true,Array.toArray_toList]at this;rw[wM f1 f2 g1 g2];exact this
  have Qp:=run_eqGuard_agg w op t x y xs ys hg;refine bQ.bool hO rfl rfl ?_;subst Cc;cases neg<;>simp only[if_true,if_false,ZaT]at ho Qp<;>simp[execOp,ho,e1,e2,Qp,binOp,hq]
 ·rw[JJ hagg]at aF⊢;obtain⟨ha,f1,f2⟩:=aF;obtain⟨s,rfl,g1⟩:=mh f1;obtain⟨s2,N9,g2⟩:=mh f2;obtain rfl:s=s2:=by simpa using N9
  refine bQ.bool hO rfl rfl ?_;rw[Gq g1 g2 r1 r2];subst Cc;cases s with
  |bool=>
   have YN:P.underlying t=some .bool:=by
    rcases Ms (n:=9999) hs hd ha with⟨_,rfl⟩|⟨h,_⟩|⟨k,h,_⟩
    ·exact hd
    ·cases h
    ·cases h
   cases Mr:qd objs d1<;>rw[Mr]at g1 r1<;>first|exact absurd g1 Zaz|skip
   cases h2':qd objs d2<;>rw[h2']at g2 r2<;>first|exact absurd g2 Zaz|skip
   simp only[aR]at r1 r2;cases neg<;>simp[execOp,ho,r1,r2,eqGuard,run_eql_bool,run_neq_bool,YN,YM]
  |str=>
   cases Mr:qd objs d1<;>rw[Mr]at g1 r1<;>first|exact absurd g1 Zaz|skip
   cases h2':qd objs d2<;>rw[h2']at g2 r2<;>first|exact absurd g2 Zaz|skip
   simp only[aR]at r1 r2;cases neg<;>simp[execOp,ho,r1,r2,eqGuard,binOp,Op.stringOp,YM]
  |int k=>
   rcases Ms (n:=9999) hs hd ha with⟨h,_⟩|⟨h,_⟩|⟨k',_,h⟩
   ·cases h
   ·cases h
   ·exact absurd h (Mt k')
theorem ye{W':Nat->Prop}{sz:Nat}:∀(n:Nat) (cs:List T) (vs:List Value) (b o:Nat),cs.length=n*sz->aP w W' cs vs->(∀j v,vs[j]? =some v->w.cell? ⟨b,o+j,none⟩=some v)->aX w W' sz b o (chunk sz n cs)
 |0,_,_,_,_,_,_,_=>by simp[chunk,aX]
 |n+1,cs,vs,b,o,hl,hr,hc=>by
  have gB:sz<=cs.length:=by rw[hl,Nat.add_mul];omega
  have wj:=aP.length hr;simp only[chunk,aX];refine⟨by simp;omega, ?_, ?_⟩
  ·refine cV.o9 (aP.take sz hr) λj v hj=>hc j v ?_;rw[ZaF]at hj;split at hj
   ·exact hj
   ·cases hj
  ·refine ye n _ (vs.drop sz) b (o+sz) (by rw[Za9,hl,Nat.add_mul];omega) (aP.drop sz hr) λj v hj=>?_;rw[Zbb]at hj;have:=hc (sz+j) v hj
   rwa [show o+sz+j=o+(sz+j)by omega]
theorem uS(sz:Nat):∀(n:Nat) (cs:List T),(chunk sz n cs).length=n
 |0,_=>rfl
 |n+1,cs=>by simp[chunk,uS sz n]
theorem uT:∀(ps:List (Nat×Nat×DV)) (ds:List DV),qG ds.length ps->(sY ds ps).length=ds.length
 |[],ds,_=>rfl
 |(off,sz,d)::ps,ds,h=>by
  simp only[qG]at h;obtain⟨h1,h2,h3,h4⟩:=h;have hl:(bH ds off (cellsOf d)).length=ds.length:=fB (by omega);simp only[sY];rw[uT ps _ (by rw[hl];exact h4),hl]
theorem yf(hg:zN w (WW W objs L))(gX:∀t,av w W objs L (ρ t) (a.tmps.getD t Go.undef)):∀{xs:List Operand} {ys:List bp},xs.mapM bp.of=some ys->∀(i:Nat) (x:Operand) (y:bp),xs[i]? =some x->ys[i]? =some y->av w W objs L (y.ev ρ) (a.eval x)
 |[],ys,h,i,x,y,hx,_=>by simp at hx
 |x::xs,ys,h,i,p,q,hp,hq=>by
  simp only[Za2,Zaj,Zaf,Zac,Zaa]at h;obtain⟨y,hy,ys',oa,rfl⟩:=h;cases i with
  |zero=>
   simp only[ZaG,Zaa]at hp hq;subst hp hq;exact bp.bq hg gX hy
  |succ i=>exact yf hg gX oa i p q (by simpa using hp) (by simpa using hq)
theorem qS:∀{xs:List Operand} {ys:List bp},xs.mapM bp.of=some ys->ys.length=xs.length
 |[],ys,h=>by simp at h;simp[h]
 |x::xs,ys,h=>by
  simp only[Za2,Zaj,Zaf,Zac,Zaa]at h;obtain⟨y,hy,ys',oa,rfl⟩:=h;simp[qS oa]
theorem Aa(hg:zN w (WW W objs L))(gX:∀t,av w W objs L (ρ t) (a.tmps.getD t Go.undef)){x:Option Operand}{y:Option bp}(h:zY x=some y):(y.map (·.ev ρ)=none/\x.map a.eval=none)\/∃dl vl,y.map (·.ev ρ)=some dl/\x.map a.eval=some vl/\av w W objs L dl vl:=by
 cases x with
 |none=>simp only[zY,Zaa]at h;subst h;exact .inl ⟨rfl,rfl⟩
 |some x=>
  simp only[zY,Zab]at h;obtain⟨z,hz,rfl⟩:=h;exact .inr ⟨_,_,rfl,rfl,bp.bq hg gX hz⟩
theorem Qq{d:DV}{v:Value}(hp:qF d)(h:av w W objs L d v):v.oneCell'=true:=by
 cases d with
 |aI=>simp only[av]at h;obtain⟨p,rfl⟩:=h;rfl
 |v t=>
  simp only[av]at h;cases t with
  |agg ts=>exact absurd hp Zaz
  |eF ts=>exact absurd hp Zaz
  |raw x=>simp only[aR]at h;subst h;exact hp
  |sl rows=>simp only[aR]at h;rcases h with⟨_,_,_,rfl⟩|⟨_,_,_,_,rfl,_⟩<;>rfl
  |fn f caps=>simp only[aR]at h;obtain⟨_,rfl,_⟩:=h;rfl
  |box cs=>simp only[aR]at h;obtain⟨_,_,rfl,_⟩:=h;rfl
  |bool b=>simp only[aR]at h;subst h;rfl
  |int k n=>simp only[aR]at h;subst h;rfl
  |str k=>simp only[aR]at h;subst h;rfl
 |_=>exact hp.elim
theorem Qr{d:DV}{v:Value}(hp:je d)(h:av w W objs L d v):v.oneCell'=true:=by
 cases d with
 |undef=>exact hp.elim
 |skip=>exact hp.elim
 |agg cs=>exact hp.elim
 |eF cs=>exact hp.elim
 |v t=>exact Qq (d:=.v t) hp h
 |aI=>simp only[av]at h;obtain⟨p,rfl⟩:=h;rfl
 |ptr r off=>simp only[av]at h;obtain⟨_,rfl⟩:=h;rfl
 |bk r ver=>simp only[av]at h;obtain⟨⟨_,_,_,rfl⟩,_⟩:=h;rfl
 |ky rows i off=>simp only[av]at h;obtain⟨_,_,_,rfl,_⟩:=h;rfl
 |gz cs off=>simp only[av]at h;obtain⟨_,_,rfl,_⟩:=h;rfl
 |jd r ver i off=>simp only[av]at h;obtain⟨⟨_,_,rfl⟩,_⟩:=h;rfl
 |CF=>simp only[av]at h;subst h;rfl
 |iv r=>simp only[av]at h;obtain⟨_,rfl⟩:=h;rfl
 |iter r=>simp only[av]at h;obtain⟨_,rfl⟩:=h;rfl
 |sP r ver lo n=>simp only[av]at h;obtain⟨⟨_,_,rfl⟩,_⟩:=h;rfl
 |D4 r n=>simp only[av]at h;obtain⟨_,rfl⟩:=h;rfl
 |mu f cs=>simp only[av]at h;obtain⟨_,rfl,_⟩:=h;rfl
theorem CQ(hg:zN w (WW W objs L))(gX:∀t,av w W objs L (ρ t) (a.tmps.getD t Go.undef)):∀{xs:List Operand} {ys:List bp},xs.mapM bp.of=some ys->dv (ys.map (·.ev ρ))->aK w W objs L (ys.map (·.ev ρ)) (xs.map a.eval)
 |[],ys,h,_=>by simp at h;subst h;simp[aK]
 |x::xs,ys,h,hp=>by
  simp only[Za2,Zaj,Zaf,Zac,Zaa]at h;obtain⟨y,hy,ys',oa,rfl⟩:=h;simp only[Zau,dv]at hp;simp only[Zau,aK];have r:=bp.bq hg gX hy;exact⟨_,_,rfl,Qr hp.1 r,r,CQ hg gX oa hp.2⟩
theorem wN:∀{ds:List DV},uL ds=true->gI ds
 |[],_=>trivial
 |d::ds,h=>by
  cases d with
  |v t=>simp only[uL,Zam]at h;exact⟨h.1,wN h.2⟩
  |aI=>simp only[uL]at h;exact⟨trivial,wN h⟩
  |_=>simp[uL]at h
theorem Qt(hc:cE P o=some d)(yg:∀f args,d≠ .call f args)(gX:∀t,av w W objs L (ρ t) (a.tmps.getD t Go.undef))(hO:bK base W M w0 objs w L)(dx:objs name=none)(aF:(cw Γ d name ρ objs).ok):
  bQ P base W M w0 objs L w a o (cw Γ d name ρ objs):=by
 unfold cE at hc;cases ho:o.op<;>simp only[ho,reduceCtorEq]at hc
 case move x=>
  simp only[Zab]at hc;obtain⟨y,hy,rfl⟩:=hc;exact bQ.quiet hO rfl (v:=a.eval x) (by simp[execOp,ho]) (bp.bq hO.gl gX hy)
 case assign x=>
  simp only[Zab]at hc;obtain⟨y,hy,rfl⟩:=hc;exact bQ.quiet hO rfl (v:=a.eval x) (by simp[execOp,ho]) (bp.bq hO.gl gX hy)
 case pick c x y=>
  simp only[Zaj,Zaf,Zac,Zaa]at hc;obtain⟨c',Ab,x',hx,y',hy,rfl⟩:=hc;have r:=bp.bq hO.gl gX Ab;unfold cw at aF⊢;simp only at aF⊢;split at aF
  ·rename_i t ht;rw[ht]at r;simp only[av,aR]at r;refine bQ.quiet hO rfl (v:=if t then a.eval x else a.eval y) (by simp[execOp,ho,r,asBool]) ?_;cases t
   ·exact bp.bq hO.gl gX hy
   ·exact bp.bq hO.gl gX hx
  ·exact aF.elim
 case alloc e=>
  simp only[Zaj,Zaf,Zac,Zaa]at hc;obtain⟨i,hi,z,hz,zs,FY,rfl⟩:=hc;have h:=Ea hO dx e (gC FY);refine⟨_,.pointer (some ⟨w.heap.size,0,none⟩),_,_, ?_,.inl rfl,h.1,h.2, ?_⟩
  ·simp[execOp,ho,Instr.alloc,zeroValue,typeInfo,hi,hz,newVar,newRow]
  ·simp only[cw,av];exact⟨⟨zs,by simp[bR]⟩,by simp[Loc.fC]⟩
 case box e x=>
  simp only[Zab]at hc;obtain⟨y,hy,rfl⟩:=hc;have h:=Ea hO dx e (av.cells (bp.bq hO.gl gX hy) aF);refine⟨_,.pointer (some ⟨w.heap.size,0,none⟩),_,_, ?_,.inl rfl,h.1,h.2, ?_⟩
  ·simp[execOp,ho,Instr.box,newVar,newRow]
  ·simp only[cw,av];exact⟨⟨cellsOf (y.ev ρ),by simp[bR]⟩,by simp[Loc.fC]⟩
 case build t parts=>
  simp only[Zaj,Zaf,Zac,Zaa]at hc;obtain⟨i,hi,z,hz,zs,FY,pl,PV,ps,Qu,rfl⟩:=hc;have W6:=gC (w:=w) (W:=W) (objs:=objs) (L:=L) FY;have Qk:=aK.length W6;simp only[ZaU]at Qk;simp only[cw]at aF⊢;obtain⟨cells,h1,h2,h3⟩:=zZ hO.gl gX parts.toList ps Qu z.cells zs W6 (by rw[Qk];exact aF);have hb:P.built t (parts.map λx=>(x.1,a.eval x.2)).toList=some cells:=by
   unfold Program.built;unfold places at PV;cases hu:P.underlying t with
   |none=>simp[hu]at PV
   |some desc=>
    cases desc<;>simp only[hu,reduceCtorEq]at PV
    case array n e=>
     simp only[Zab]at PV;obtain⟨ie,hie,rfl⟩:=PV;simpa [hi,hz,hie]using h1
    case struct fields=>
     simp only[Zab]at PV;obtain⟨pl',hpl',rfl⟩:=PV;simp only[hi,hz,hpl',Array.toList_map];simpa using h1
  refine bQ.quiet hO rfl (v:=.agg cells) ?_ (by simp only[av];exact⟨cells,rfl,h2⟩);have:=run_build w t (parts.map λx=>(x.1,a.eval x.2)) cells hb;simp[execOp,ho,this]
 case buildSlice t len parts=>
  split at hc
  ·rename_i e hu;simp only[Zaj,Zaf,Zac]at hc;obtain⟨i,hi,hc⟩:=hc;split at hc
   ·cases hc
   ·rename_i gB;simp only[Zac,Zaa]at hc;obtain⟨z,hz,zs,FY,ps,Qu,rfl⟩:=hc;have W6:=gC (w:=w) (W:=W) (objs:=objs) (L:=L) FY;have Qk:=aK.length W6;have hlen:¬len*i.size>2^24:=λh=>gB (.inl h);have N4:i.size≠0:=λh=>gB (.inr h);simp only[ZaU,Array.size_map,Array.size_range]at Qk;simp only[cw]at aF⊢;by_cases h0:len=0
    ·subst h0;simp only[if_true]at aF⊢;subst aF;have hp0:parts.toList=[]:=by
      cases hp:parts.toList with
      |nil=>rfl
      |cons p ps'=>
       rw[hp]at Qu;simp only[ofParts,Za2,Zaj,Zaf,Zac,Zaa,reduceCtorEq,and_false,exists_false]at Qu
     have hp1:parts= #[]:=by cases parts;simp_all
     have hr:=qR (P:=P) w hu hi hz 0 (by simp) (parts:= #[]) (cells:= #[]) (by simp[Instr.fill,Array.range_zero']);have hg:=bK.grow hO (jw (w:=w) (.cells #[] e));refine⟨_,.slice (some ⟨w.heap.size,0,none⟩) 0 0,_,L, ?_,.inl rfl,hg.1,hg.2,by simp only[av];exact⟨_,rfl⟩⟩;simp[execOp,ho,hp1,hr]
    ·simp only[h0,if_false]at aF⊢;obtain⟨hf,Qv⟩:=aF;obtain⟨cells,h1,h2,h3⟩:=zZ hO.gl gX parts.toList ps Qu _ zs W6 (by simpa using hf);have hr:=qR (P:=P) w hu hi hz len hlen (parts:=parts.map λx=>(x.1,a.eval x.2)) (cells:=cells) (by simpa using h1);have hg:=bK.grow hO (jw (w:=w) (.cells cells e));refine⟨_,.slice (some ⟨w.heap.size,0,none⟩) len len,_,L, ?_,.inl rfl,hg.1,hg.2, ?_⟩
     ·simp[execOp,ho,hr]
     ·have qe:=lV (objs2:=λ_=>none) Qv (aK.ee hg.2 _ _ h2);simp only[bR,av,aR,uS];refine .inr ⟨w.heap.size,0,len,i.size,rfl,by simp, ?_,Zae _, ?_⟩
      ·rintro(hw|⟨r,ob,lP,pV⟩)
       ·have h1:=hO.under _ hw;have h2:=hO.fr.hZ;have h3:=hO.fr.size;omega
       ·have:=(hO.ob r ob lP).lt pV;omega
      ·refine ye len _ cells.toList _ _ ?_ qe λj v hj=>?_
       ·rw[qM,uT _ _ (by rw[<-Qk];exact hf),<-Qk]
       ·rw[ZaY,cell_of_row (w.alloc (.cells cells e)) w.heap.size j cells e (0,0) (heap_alloc_new w _)];simpa using hj
  ·cases hc
 case load t x=>
  split at hc
  ·rename_i desc i hd hi;simp only[Zab]at hc;obtain⟨y,hy,rfl⟩:=hc;simp only[cw]at aF⊢;obtain⟨hp,v,bz,hv⟩:=zU hO hd hi (bp.bq hO.gl gX hy) aF;exact bQ.quiet hO hp (v:=v) (by simp[execOp,ho,bz]) hv
  ·cases hc
 case store t x y=>
  simp only[Zaj,Zaf,Zac,Zaa]at hc;obtain⟨i,hi,x',hx,y',hy,rfl⟩:=hc;have rx:=bp.bq hO.gl gX hx;have ry:=bp.bq hO.gl gX hy;simp only[cw]at aF⊢;cases hd:x'.ev ρ with
  |ptr r off=>
   rw[hd]at rx;simp only[av]at rx;obtain⟨⟨cs,mC⟩,Mu⟩:=rx;simp only[hd,jN,mC]at aF⊢;obtain⟨w',h1,h2,h3⟩:=N0 hO hi mC ry aF.1 aF.2.1 aF.2.2;exact⟨.skip,Go.undef,w',L,by simp[execOp,ho,Mu,h1],.inr ⟨rfl,rfl⟩,h2,h3,by simp[av]⟩
  |jd r ver j off=>
   rw[hd]at rx;simp only[av]at rx;obtain⟨_,ver',e,sz,rows,mC,_,sR⟩:=rx;simp only[hd,jN,mC]at aF⊢;obtain⟨rfl,hn,qK,Qv⟩:=aF;obtain⟨g,hg,Mu,h0,h1⟩:=sR rfl;obtain⟨w',h1,h2,h3⟩:=N1 hO hi mC hg h0 h1 ry hn qK Qv;exact⟨.skip,Go.undef,w',L,by simp[execOp,ho,Mu,h1],.inr ⟨rfl,rfl⟩,h2,h3,by simp[av]⟩
  |_=>rw[hd]at aF;exact aF.elim
 case nilCheck x=>
  simp only[Zab]at hc;obtain⟨y,hy,rfl⟩:=hc;have rx:=bp.bq hO.gl gX hy;simp only[cw]at aF⊢;obtain⟨h1,h2,h3⟩:=z8 rx aF;refine bQ.quiet hO h1 (v:=a.eval x) ?_ (by rw[h2];exact rx);rcases h3 with⟨p,hp⟩|⟨f,caps,hp⟩
  ·simp only[execOp,ho,hp];simp
  ·simp only[execOp,ho,hp];simp
 case binOp op t x y yt=>
  simp only[Zaf,Zac]at hc;obtain⟨x',hx,y',hy,hc⟩:=hc;have rx:=bp.bq hO.gl gX hx;have ry:=bp.bq hO.gl gX hy;unfold kH at hc;split at hc
  ·split at hc;all_goals first
    |(simp only[Zaa]at hc;subst hc;exact N5 hO ho rx ry aF)
    |cases hc
  ·rename_i desc Mt hd;split at hc
   ·rename_i shs hs;split at hc
    ·cases hc
    ·rename_i hg;simp only[Zaa]at hc;subst hc;simp only[cw]at aF⊢;obtain⟨k1,k2,aF⟩:=aF;exact Gp (neg:=false) rfl ho hd (λk hk=>Mt k hk) hs (by simpa using hg) hO rx ry k1 k2 aF
   ·rename_i shs hs;split at hc
    ·cases hc
    ·rename_i hg;simp only[Zaa]at hc;subst hc;simp only[cw]at aF⊢;obtain⟨k1,k2,aF⟩:=aF;exact Gp (neg:=true) rfl ho hd (λk hk=>Mt k hk) hs (by simpa using hg) hO rx ry k1 k2 aF
   ·simp only[Zab]at hc;obtain⟨k,hk,rfl⟩:=hc;exact yh (neg:=false) hO rfl ho hd hy hk rx aF
   ·simp only[Zab]at hc;obtain⟨k,hk,rfl⟩:=hc;exact yh (neg:=true) hO rfl ho hd hy hk rx aF
   ·cases hc
  ·cases hc
 case makeMap t hint=>
  cases hint with
  |some h=>cases hc
  |none=>
   simp only at hc;split at hc
   ·simp only[Zab]at hc;obtain⟨ki,_,rfl⟩:=hc;exact Gr hO dx ho _ _
   ·cases hc
 case lookup t x k ok=>
  split at hc
  ·rename_i kt et ht;split at hc
   ·rename_i ki z Oa hz;simp only[Zaj,Zaf,Zac,Zaa]at hc;obtain⟨x',hx,k',hk,rfl⟩:=hc;exact Eh hO ho ht Oa hz (bp.bq hO.gl gX hx) (bp.bq hO.gl gX hk) aF
   ·cases hc
  ·cases hc
 case mapUpdate t x k y=>
  split at hc
  ·rename_i kt et ht;split at hc
   ·rename_i ki Oa;simp only[Zaj,Zaf,Zac,Zaa]at hc;obtain⟨x',hx,k',hk,y',hy,rfl⟩:=hc;exact Ei hO ho ht Oa (bp.bq hO.gl gX hx) (bp.bq hO.gl gX hk) (bp.bq hO.gl gX hy) aF
   ·cases hc
  ·cases hc
 case mapEntry t x k=>
  split at hc
  ·rename_i kt et ht;split at hc
   ·rename_i ki z Oa hz;simp only[Zaj,Zaf,Zac,Zaa]at hc;obtain⟨x',hx,k',hk,rfl⟩:=hc;exact Ej hO ho ht Oa hz (bp.bq hO.gl gX hx) (bp.bq hO.gl gX hk) aF
   ·cases hc
  ·cases hc
 case entryStore t x s y=>
  simp only[Zaj,Zaf,Zac,Zaa]at hc;obtain⟨x',hx,k',hk,y',hy,rfl⟩:=hc;exact Gs hO ho (bp.bq hO.gl gX hx) (bp.bq hO.gl gX hk) (bp.bq hO.gl gX hy) aF
 case range t x=>
  split at hc
  ·rename_i kt et ht;simp only[Zab]at hc;obtain⟨x',hx,rfl⟩:=hc;exact Ek hO dx ho ht (bp.bq hO.gl gX hx) aF
  ·cases hc
 case entry x=>
  simp only[Zab]at hc;obtain⟨x',hx,rfl⟩:=hc;exact aF.elim
 case index t x i=>
  split at hc
  ·rename_i ht;simp only[Zaj,Zaf,Zac,Zaa]at hc;obtain⟨x',hx,i',hi,rfl⟩:=hc;exact El hO ho ht (bp.bq hO.gl gX hx) (bp.bq hO.gl gX hi) aF
  ·cases hc
 case panic x=>simp only[Zaa]at hc;subst hc;exact aF.elim
 case makeInterface _ _=>simp only[Zaa]at hc;subst hc;exact aF.elim
 case unOp op t x=>
  simp only[Zab]at hc;obtain⟨y,hy,rfl⟩:=hc;have rx:=bp.bq hO.gl gX hy;unfold cw Mm at aF⊢;simp only at aF⊢;split at aF
  ·rename_i b hb;rw[hb]at rx;simp only[av,aR]at rx;split at aF
   ·exact bQ.bool hO rfl rfl (by simp[execOp,ho,rx,Op.unary])
   ·exact aF.elim
  ·rename_i k n hb;rw[hb]at rx;simp only[av,aR]at rx;split at aF
   ·exact bQ.int hO rfl rfl (by simp[execOp,ho,rx,Op.unary,Op.intArith])
   ·exact aF.elim
  ·exact aF.elim
 case convert src dst x=>
  split at hc
  ·rename_i k0 k hs hd;simp only[Zab]at hc;obtain⟨y,hy,rfl⟩:=hc;have rx:=bp.bq hO.gl gX hy;unfold cw at aF⊢;simp only at aF⊢;split at aF
   ·rename_i k1 n hb;rw[hb]at rx;simp only[av,aR]at rx;exact bQ.int hO rfl rfl (by simp[execOp,ho,rx,convert,run_underlying hs,run_underlying hd,Conv.intToInt])
   ·exact aF.elim
  ·cases hc
 case fieldAddr s x f=>
  split at hc
  ·rename_i fs hs;split at hc
   ·rename_i fd hf;split at hc
    ·rename_i fi hi;split at hc
     ·cases hc
     ·rename_i gB;simp only[Zab]at hc;obtain⟨y,hy,rfl⟩:=hc;have rx:=bp.bq hO.gl gX hy;simp only[cw]at aF⊢;obtain⟨hp,b,oo,Mu,hv⟩:=Eg rx aF;refine bQ.quiet hO hp (v:=.pointer (some ⟨b,oo+fd.offset,none⟩)) ?_ hv;simp[execOp,ho,Mu,Instr.fieldAt,run_underlying hs,hf,Instr.sureAddr,fieldPlace,run_sizeOf hi,gB,kY]
    ·cases hc
   ·cases hc
  ·cases hc
 case field s x f=>
  split at hc
  ·rename_i fs hs;split at hc
   ·rename_i fd hf;split at hc
    ·rename_i fi desc hi hd;simp only[Zab]at hc;obtain⟨y,hy,rfl⟩:=hc;have rx:=bp.bq hO.gl gX hy;simp only[cw]at aF⊢;obtain⟨hp,v,bz,hv⟩:=Gm hs hf hi hd rx aF;exact bQ.quiet hO hp (v:=v) (by simp[execOp,ho,bz]) hv
    ·cases hc
   ·cases hc
  ·cases hc
 case indexAddr t x ix=>
  split at hc
  ·rename_i e ht;split at hc
   ·rename_i i hi;simp only[Zaj,Zaf,Zac,Zaa]at hc;obtain⟨x',hx,y',hy,rfl⟩:=hc;simp only[cw]at aF⊢;obtain⟨hp,v,bz,hv⟩:=N6 hO ht hi (bp.bq hO.gl gX hx) (bp.bq hO.gl gX hy) aF;exact bQ.quiet hO hp (v:=v) (by simp[execOp,ho,bz]) hv
   ·cases hc
  ·rename_i n e ht;split at hc
   ·rename_i i hi;simp only[Zaj,Zaf,Zac,Zaa]at hc;obtain⟨x',hx,y',hy,rfl⟩:=hc;simp only[cw]at aF⊢;obtain⟨hp,v,bz,hv⟩:=Ch ht hi (bp.bq hO.gl gX hx) (bp.bq hO.gl gX hy) aF;exact bQ.quiet hO hp (v:=v) (by simp[execOp,ho,bz]) hv
   ·cases hc
  ·cases hc
 case slice t x lo nj mx=>
  cases mx with
  |some m=>cases hc
  |none=>
   simp only at hc;split at hc
   ·rename_i e ht;split at hc
    ·rename_i i hi;simp only[Zaj,Zaf,Zac,Zaa]at hc;obtain⟨x',hx,lo',Wv,hi2,hhi,rfl⟩:=hc;simp only[cw]at aF⊢;obtain⟨hp,v,bz,hv⟩:=Gn hO ht hi (bp.bq hO.gl gX hx) (Aa hO.gl gX Wv) (Aa hO.gl gX hhi) aF;exact bQ.quiet hO hp (v:=v) (by simp[execOp,ho,bz]) hv
    ·cases hc
   ·cases hc
 case extract x i=>
  simp only[Zab]at hc;obtain⟨y,hy,rfl⟩:=hc;have rx:=bp.bq hO.gl gX hy;unfold cw o7 at aF⊢;simp only at aF⊢;split at aF
  ·rename_i ts hb;rw[hb]at rx;simp only[av,aR]at rx;obtain⟨vs,hv,hr⟩:=rx;obtain⟨v,jj,pV⟩:=dw.get hr (i:=i) (t:=ts.getD i default) (by simp[List.getD,show i<ts.length from aF]);refine bQ.quiet hO rfl (v:=v) ?_ (by simp only[av];exact pV);have:vs[i]? =some v:=by simpa using jj
   simp[execOp,ho,hv,Instr.extract,this]
  ·rename_i ds hb;rw[hb]at rx;simp only[av]at rx;obtain⟨vs,hv,hr⟩:=rx;have key:∀(ds:List DV) (vs:List Value) (i:Nat),eZ w W objs L ds vs->i<ds.length->∃v,vs[i]? =some v/\av w W objs L (ds.getD i .undef) v:=by
    intro ds;induction ds with
    |nil=>intro vs i _ h;simp at h
    |cons d ds ih=>
     intro vs i h hi;simp only[eZ]at h;obtain⟨v,gY,rfl,h1,h2⟩:=h;cases i with
     |zero=>exact⟨v,rfl,h1⟩
     |succ i=>simpa using ih gY i h2 (by simpa using hi)
   obtain⟨v,jj,pV⟩:=key ds _ i hr aF;refine bQ.quiet hO rfl (v:=v) ?_ pV;have:vs[i]? =some v:=by simpa using jj
   simp[execOp,ho,hv,Instr.extract,this]
  ·exact aF.elim
 case makeSlice t l c=>
  split at hc
  ·rename_i e ht;split at hc
   ·rename_i i hi;split at hc
    ·rename_i z hz;split at hc
     ·rename_i p q;split at hc
      ·rename_i hpq;obtain⟨rfl,gB⟩:=hpq;simp only[Zaj,Zaf,Zac,Zaa]at hc;obtain⟨zero,hzero,rfl⟩:=hc;simp only[cw]at aF⊢;obtain⟨v,w',L',h1,h2,h3,h4⟩:=zX hO ht hi hz gB hzero dx (bp.bq hO.gl gX (x:=.tmp p) rfl) aF;exact⟨.value v,v,w',L',by simp[execOp,ho,h1],.inl rfl,h2,h3,h4⟩
      ·cases hc
     ·rename_i k p k' q;split at hc
      ·rename_i hpq;obtain⟨rfl,rfl,gB⟩:=hpq;simp only[Zaj,Zaf,Zac,Zaa]at hc;obtain⟨zero,hzero,rfl⟩:=hc;simp only[cw]at aF⊢;obtain⟨v,w',L',h1,h2,h3,h4⟩:=zX hO ht hi hz gB hzero dx (bp.bq (ρ:=ρ) hO.gl gX (x:=.const (.int k p)) rfl) aF;exact⟨.value v,v,w',L',by simp[execOp,ho,h1],.inl rfl,h2,h3,h4⟩
      ·cases hc
     ·cases hc
    ·cases hc
   ·cases hc
  ·cases hc
 case makeFunc f first caps=>
  split at hc
  ·rename_i hf;simp only[Zaj,Zaf,Zac,Zaa]at hc;obtain⟨cs,mC,rfl⟩:=hc;simp only[cw]at aF⊢;have hr:aK w W objs L (cs.map (·.ev ρ)) (caps.map a.eval).toList:=by
    simpa using CQ hO.gl gX mC aF
   refine bQ.quiet hO rfl (v:=.func f #[] (caps.map a.eval)) ?_ ?_
   ·have:first= #[]:=by simpa using hf
    simp[execOp,ho,this,Instr.makeFunc]
   ·by_cases PW:uL (cs.map (·.ev ρ))=true
    ·simp only[PW,if_true,av,aR];exact⟨_,rfl,lV (wN PW) hr⟩
    ·simp only[PW];exact⟨_,rfl,hr⟩
  ·cases hc
 case call c=>
  have uU:∀{xs:List Operand},c.args.toList=xs->c.args=xs.toArray:=λh=>by rw[<-h,Array.toArray_toList]
  have htys:∀{xs:List TypeId},c.argTypes.toList=xs->c.argTypes=xs.toArray:=λh=>by rw[<-h,Array.toArray_toList]
  unfold c8 at hc;split at hc
  ·split at hc
   ·split at hc
    ·cases hc
    ·simp only[Zab]at hc;obtain⟨y,_,rfl⟩:=hc;exact absurd rfl (yg _ _)
   ·cases hc
  ·obtain⟨ys,_,rfl⟩:=Zab.1 hc;exact aF.elim
  ·rename_i jg;split at hc
   ·rename_i x t hx ht;have zh:c={callee:=.builtin .len,args:= #[x],argTypes:= #[t]}:=by
     have h1:=uU hx;have h2:=htys ht;cases c
     simp_all
    subst zh;split at hc
    ·rename_i e hu;simp only[Zab]at hc;obtain⟨y,hy,rfl⟩:=hc;exact N7 hO ho hu (bp.bq hO.gl gX hy) aF
    ·rename_i hu;simp only[Zab]at hc;obtain⟨y,hy,rfl⟩:=hc;exact JI hO ho hu (bp.bq hO.gl gX hy) aF
    ·rename_i kt et hu;simp only[Zab]at hc;obtain⟨y,hy,rfl⟩:=hc;exact JK hO ho hu (bp.bq hO.gl gX hy) aF
    ·cases hc
   ·cases hc
  ·rename_i jg;split at hc
   ·rename_i x y t t' hx ht;have zh:c={callee:=.builtin .copy,args:= #[x,y],argTypes:= #[t,t']}:=by
     have h1:=uU hx;have h2:=htys ht;cases c
     simp_all
    subst zh;split at hc
    ·rename_i e hu;split at hc
     ·rename_i i hi;simp only[Zaj,Zaf,Zac,Zaa]at hc;obtain⟨x',fZ,y',Jo,rfl⟩:=hc;simp only[cw]at aF⊢;obtain⟨v,w',h1,h2,h3,h4⟩:=JF (t:=t) (t':=t') (ty:=o.type) hO hu hi (bp.bq hO.gl gX fZ) (bp.bq hO.gl gX Jo) aF;exact⟨.value v,v,w',L,by simp[execOp,ho,resolve,invoke,builtin,h1],.inl rfl,h2,h3,h4⟩
     ·cases hc
    ·cases hc
   ·cases hc
  ·rename_i jg;split at hc
   ·rename_i x k t ts' hx ht;have zh:c={callee:=.builtin .delete,args:= #[x,k],argTypes:=c.argTypes}:=by
     have h1:=uU hx;cases c
     simp_all
    have Ql:c.argTypes[0]? =some t:=by rw[<-Array.getElem?_toList,ht];rfl
    split at hc
    ·rename_i kt et hu;split at hc
     ·rename_i ki Oa;simp only[Zaj,Zaf,Zac,Zaa]at hc;obtain⟨x',fZ,k',sS,rfl⟩:=hc;exact Em hO Ql (by rw[ho,<-zh]) hu Oa (bp.bq hO.gl gX fZ) (bp.bq hO.gl gX sS) aF
     ·cases hc
    ·cases hc
   ·cases hc
  ·rename_i jg;split at hc
   ·rename_i x y hx;have zh:c={callee:=.builtin .min,args:= #[x,y],argTypes:=c.argTypes}:=by
     have h1:=uU hx;cases c
     simp_all
    simp only[Zaj,Zaf,Zac,Zaa]at hc;obtain⟨x',fZ,y',Jo,rfl⟩:=hc;exact uQ false hO (by rw[ho,zh];rfl) (bp.bq hO.gl gX fZ) (bp.bq hO.gl gX Jo) aF
   ·cases hc
  ·rename_i jg;split at hc
   ·rename_i x y hx;have zh:c={callee:=.builtin .max,args:= #[x,y],argTypes:=c.argTypes}:=by
     have h1:=uU hx;cases c
     simp_all
    simp only[Zaj,Zaf,Zac,Zaa]at hc;obtain⟨x',fZ,y',Jo,rfl⟩:=hc;exact uQ true hO (by rw[ho,zh];rfl) (bp.bq hO.gl gX fZ) (bp.bq hO.gl gX Jo) aF
   ·cases hc
  ·rename_i jg;split at hc
   ·rename_i x y t t' hx ht;have zh:c={callee:=.builtin .append,args:= #[x,y],argTypes:= #[t,t']}:=by
     have h1:=uU hx;have h2:=htys ht;cases c
     simp_all
    subst zh;split at hc
    ·cases hc
    ·rename_i W7;have W7:t=t':=by simpa using W7
     subst W7;split at hc
     ·rename_i e hu;split at hc
      ·rename_i i hi;split at hc
       ·rename_i z hz;split at hc
        ·rename_i gB;simp only[Zaj,Zaf,Zac,Zaa]at hc;obtain⟨x',fZ,y',Jo,rfl⟩:=hc;simp only[cw]at aF⊢;obtain⟨v,w',L',h1,h2,h3,h4⟩:=Ee (ty:=o.type) hO hu hi hz gB.1 gB.2 dx (bp.bq hO.gl gX fZ) (bp.bq hO.gl gX Jo) aF;exact⟨.value v,v,w',L',by simp[execOp,ho,resolve,invoke,builtin,h1],.inl rfl,h2,h3,h4⟩
        ·cases hc
       ·cases hc
      ·cases hc
     ·cases hc
   ·cases hc
  ·cases hc
theorem Oc(hO:bK base W M w0 objs w L){e sz Jp:Nat}{zero:List T}{n:bp}(hc:cE P o=some (.mkSlice e sz Jp zero n))(gX:∀t,av w W objs L (ρ t) (a.tmps.getD t Go.undef))(dx:objs name=none)
  (aF:(eG sz Jp zero name (n.ev ρ)).ok):bQ P base W M w0 objs L w a o (eG sz Jp zero name (n.ev ρ)):=by
 unfold cE at hc;cases ho:o.op<;>simp only[ho,reduceCtorEq]at hc
 case makeSlice t l c=>
  split at hc
  ·rename_i e' ht;split at hc
   ·rename_i i hi;split at hc
    ·rename_i z hz;split at hc
     ·rename_i p q;split at hc
      ·rename_i hpq;obtain⟨rfl,gB⟩:=hpq;simp only[Zaj,Zaf,Zac,Zaa,nH.mkSlice.injEq]at hc;obtain⟨zero',hzero,rfl,rfl,rfl,rfl,rfl⟩:=hc;obtain⟨v,w',L',h1,h2,h3,h4⟩:=yd hO ht hi hz hzero dx (bp.bq hO.gl gX (x:=.tmp p) rfl) aF;exact⟨.value v,v,w',L',by simp[execOp,ho,h1],.inl rfl,h2,h3,h4⟩
      ·cases hc
     ·rename_i k p k' q;split at hc
      ·rename_i hpq;obtain⟨rfl,rfl,gB⟩:=hpq;simp only[Zaj,Zaf,Zac,Zaa,nH.mkSlice.injEq]at hc;obtain⟨zero',hzero,rfl,rfl,rfl,rfl,rfl⟩:=hc;obtain⟨v,w',L',h1,h2,h3,h4⟩:=yd hO ht hi hz hzero dx (bp.bq (ρ:=ρ) hO.gl gX (x:=.const (.int k p)) rfl) aF;exact⟨.value v,v,w',L',by simp[execOp,ho,h1],.inl rfl,h2,h3,h4⟩
      ·cases hc
     ·cases hc
    ·cases hc
   ·cases hc
  ·cases hc
 case binOp op t x y yt=>
  exfalso;simp only[Zaf,Zac]at hc;obtain⟨x',hx,y',hy,hc⟩:=hc;unfold kH at hc;repeat' split at hc
  all_goals first|(cases hc;done)|(simp only[Zab,reduceCtorEq,and_false,exists_false]at hc;done)
 case makeMap t h=>
  exfalso;cases h with
  |some m=>cases hc
  |none=>
   simp only at hc;split at hc
   ·simp only[Zab,reduceCtorEq,and_false,exists_false]at hc
   ·cases hc
 case slice t x lo hi mx=>
  exfalso;cases mx with
  |some m=>cases hc
  |none=>
   simp only at hc;repeat' split at hc
   all_goals simp only[Zab,Zaj,Zaf,Zac,Zaa,reduceCtorEq,and_false,exists_false]at hc
 case call c=>
  exfalso;unfold c8 at hc;repeat' split at hc
  all_goals first
   |(cases hc;done)
   |(simp only[Zab,Zaj,Zaf,Zac,Zaa,reduceCtorEq,and_false,exists_false]at hc;done)
   |skip
 all_goals exfalso
 all_goals first
  |(simp only[Zab,reduceCtorEq,and_false,exists_false]at hc;done)
  |(simp only[Zaj,Zaf,Zac,Zaa,reduceCtorEq,and_false,exists_false]at hc;done)
  |(repeat' split at hc)<;>first
    |(simp only[Zab,Zaj,Zaf,Zac,Zaa,reduceCtorEq,and_false,exists_false]at hc;done)
    |(simp[Zac]at hc;done)
theorem no_mkB{e sz Jp:Nat}{zero:List T}{n:bp}(hc:cE P o=some (.mkSliceB e sz Jp zero n)):False:=by
 unfold cE at hc;cases ho:o.op<;>simp only[ho,reduceCtorEq]at hc
 case makeSlice t l c=>
  repeat' split at hc
  all_goals first
   |(cases hc;done)
   |(simp only[Zaj,Zaf,Zac,Zaa,reduceCtorEq,and_false,exists_false]at hc;done)
 case binOp op t x y yt=>
  simp only[Zaf,Zac]at hc;obtain⟨x',hx,y',hy,hc⟩:=hc;unfold kH at hc;repeat' split at hc
  all_goals first|(cases hc;done)|(simp only[Zab,reduceCtorEq,and_false,exists_false]at hc;done)
 case makeMap t h=>
  cases h with
  |some m=>cases hc
  |none=>
   simp only at hc;split at hc
   ·simp only[Zab,reduceCtorEq,and_false,exists_false]at hc
   ·cases hc
 case slice t x lo hi mx=>
  cases mx with
  |some m=>cases hc
  |none=>
   simp only at hc;repeat' split at hc
   all_goals simp only[Zab,Zaj,Zaf,Zac,Zaa,reduceCtorEq,and_false,exists_false]at hc
 case call c=>
  unfold c8 at hc;repeat' split at hc
  all_goals first
   |(cases hc;done)
   |(simp only[Zab,Zaj,Zaf,Zac,Zaa,reduceCtorEq,and_false,exists_false]at hc;done)
 all_goals first
  |(simp only[Zab,reduceCtorEq,and_false,exists_false]at hc;done)
  |(simp only[Zaj,Zaf,Zac,Zaa,reduceCtorEq,and_false,exists_false]at hc;done)
  |(repeat' split at hc)<;>first
    |(simp only[Zab,Zaj,Zaf,Zac,Zaa,reduceCtorEq,and_false,exists_false]at hc;done)
    |(simp[Zac]at hc;done)
end
end Go.DM
