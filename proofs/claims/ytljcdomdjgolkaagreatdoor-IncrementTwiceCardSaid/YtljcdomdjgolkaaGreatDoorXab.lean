/- Part of the proof. Conditions: none. -/
import Derived.Test.YtljcdomdjgolkaaGreatDoorXaa
import Derived.Laws.Shifts
set_option linter.unusedSectionVars false
set_option linter.unusedSimpArgs false
set_option linter.unusedVariables false
namespace Go.DM
open Go.RowKit
variable [Laid]
def ofParts(l:List (Nat×Operand))(place:Nat->Option (Nat×Nat)):Option (List (Nat×Nat×bp)):=
 l.mapM λp=>do
  let q<-place p.1
  let x<-bp.of p.2
  pure (q.1,q.2,x)
def places(P:Program)(t:TypeId):Option (Nat->Option (Nat×Nat)):=
 match P.underlying t with
 |some (.struct fields)=>(fields.toList.mapM λf=>(P.info? f.type).map λi=>(f.offset,i.size)).map λpl k=>pl[k]?
 |some (.array _ e)=>(P.info? e).map λie k=>some (k*ie.size,ie.size)
 |_=>none
def zS:Option Operand->Option (Option bp)
 |none=>some none
 |some x=>(bp.of x).map some
def uM:TypeDesc->bp->Option Nat
 |.slice _,.cm .aI=>some 0
 |.pointer _,.cm (.v (.raw (.pointer none)))=>some 1
 |.func _ _ _,.cm (.v (.raw .nilFunc))=>some 2
 |_,_=>none
def fG(P:Program)(k:TypeId):Option (List Sh×Bool):=
 match P.underlying k,jG P 10000 k with
 |some d,some s=>some (s,bA d)
 |_,_=>none
def CG(P:Program)(e:TypeId):Option DV:=do
 let i<-P.info? e
 let z<-i.zero
 match z with
 |.agg cs=>(cs.toList.mapM ky).map .agg
 |z=>ky z
def kF(P:Program)(op:BinOp)(t:TypeId)(x y:bp):Option nF:=
 match P.underlying t with
 |some (.int _)=>match op with
  |.add|.sub|.mul|.quo|.rem|.eql|.neq|.lss|.leq|.gtr|.geq|.shl|.shr|.and|.or|.xor=>some (.bin op x y)
  |_=>none
 |some d=>match op,jG P 10000 t with
  |.eql,some shs=>if P.eqGuardType P.depth t then none else some (.eqT false (bA d) shs x y)
  |.neq,some shs=>if P.eqGuardType P.depth t then none else some (.eqT true (bA d) shs x y)
  |.eql,none=>(uM d y).map λk=>.isNil k false x
  |.neq,none=>(uM d y).map λk=>.isNil k true x
  |_,_=>none
 |none=>none
def c7(P:Program)(c:Call):Option nF:=
 match c.callee with
 |.value (.func f)=>match P.funcs[f]? with
  |some fn=>if fn.name= "runtime.NumGoroutine" \/fn.body.isNone then none else(c.args.toList.mapM bp.of).map (.call f)
  |none=>none
 |.value (.tmp t)=>(c.args.toList.mapM bp.of).map (.callv (.tmp t))
 |.builtin .len=>match c.args.toList,c.argTypes.toList with
  |[x],[t]=>match P.underlying t with
   |some (.slice _)=>(bp.of x).map .len
   |some .string=>(bp.of x).map .lenS
   |some (.map _ _)=>(bp.of x).map .lenM
   |_=>none
  |_,_=>none
 |.builtin .copy=>match c.args.toList,c.argTypes.toList with
  |[x,y],[t,_]=>match P.underlying t with
   |some (.slice e)=>match P.info? e with
    |some i=>do return .copy i.size (<-bp.of x) (<-bp.of y)
    |none=>none
   |_=>none
  |_,_=>none
 |.builtin .delete=>match c.args.toList,c.argTypes.toList with
  |[x,k],t::_=>match P.underlying t with
   |some (.map kt _)=>match fG P kt with
    |some ki=>do return .mapDel ki.1 ki.2 (<-bp.of x) (<-bp.of k)
    |none=>none
   |_=>none
  |_,_=>none
 |.builtin .min=>match c.args.toList with
  |[x,y]=>do return .minmax false (<-bp.of x) (<-bp.of y)
  |_=>none
 |.builtin .max=>match c.args.toList with
  |[x,y]=>do return .minmax true (<-bp.of x) (<-bp.of y)
  |_=>none
 |.builtin .append=>match c.args.toList,c.argTypes.toList with
  |[x,y],[t,t']=>if t≠t' then none else match P.underlying t with
   |some (.slice e)=>match P.info? e with
    |some i=>match i.zero with
     |some z=>if z.cells.size=i.size/\0<i.size then do return .append e i.size i.bytes (<-bp.of x) (<-bp.of y)else none
     |none=>none
    |none=>none
   |_=>none
  |_,_=>none
 |_=>none
def cD(P:Program)(o:Oper):Option nF:=
 match o.op with
 |.move x|.assign x=>(bp.of x).map .bP
 |.pick c a b=>do return .pick (<-bp.of c) (<-bp.of a) (<-bp.of b)
 |.alloc e=>do
  let i<-P.info? e
  let z<-i.zero
  return .alloc (<-z.cells.toList.mapM ky)
 |.box _ x=>(bp.of x).map .box
 |.build t parts=>do
  let i<-P.info? t
  let z<-i.zero
  let zs<-z.cells.toList.mapM ky
  let pl<-places P t
  return .build zs (<-ofParts parts.toList pl)
 |.buildSlice t len parts=>
  match P.underlying t with
  |some (.slice e)=>do
   let ei<-P.info? e
   if len*ei.size>2^24\/ei.size=0 then none else
   let z<-ei.zero
   let zs<-(((Array.range (len*ei.size)).map (z.cells[· % z.cells.size]!)).toList).mapM ky
   return .bslice len ei.size zs (<-ofParts parts.toList λk=>some (k*ei.size,ei.size))
  |_=>none
 |.load t a=>match P.underlying t,P.info? t with
  |some d,some i=>(bp.of a).map (.load i.size (bA d))
  |_,_=>none
 |.store t a x=>do
  let i<-P.info? t
  return .store i.size (<-bp.of a) (<-bp.of x)
 |.nilCheck x=>(bp.of x).map .nilCheck
 |.binOp op t x y _=>do kF P op t (<-bp.of x) (<-bp.of y)
 |.unOp op _ x=>(bp.of x).map (.un op)
 |.convert src dst x=>match P.underlying src,P.underlying dst with
  |some (.int _),some (.int k)=>(bp.of x).map (.conv k)
  |_,_=>none
 |.fieldAddr s x f=>match P.underlying s with
  |some (.struct fs)=>match fs[f]? with
   |some fd=>match P.info? fd.type with
    |some fi=>if fi.size=0 then none else(bp.of x).map (.addOff fd.offset)
    |none=>none
   |none=>none
  |_=>none
 |.field s x f=>match P.underlying s with
  |some (.struct fs)=>match fs[f]? with
   |some fd=>match P.info? fd.type,P.underlying fd.type with
    |some fi,some d=>(bp.of x).map (.field fd.offset fi.size (bA d))
    |_,_=>none
   |none=>none
  |_=>none
 |.indexAddr t x ix=>match P.underlying t with
  |some (.slice e)=>match P.info? e with
   |some i=>do return .idxAddr i.size (<-bp.of x) (<-bp.of ix)
   |none=>none
  |some (.array n e)=>match P.info? e with
   |some i=>do return .arrAddr n i.size (<-bp.of x) (<-bp.of ix)
   |none=>none
  |_=>none
 |.slice t x lo hi none=>match P.underlying t with
  |some (.slice e)=>match P.info? e with
   |some i=>do return .slice i.size (<-bp.of x) (<-zS lo) (<-zS hi)
   |none=>none
  |_=>none
 |.extract t i=>(bp.of t).map (.extract i)
 |.makeSlice t l c=>match P.underlying t with
  |some (.slice e)=>match P.info? e with
   |some i=>match i.zero with
    |some z=>match l,c with
     |.tmp a,.tmp b=>if a=b/\0<i.size then do return .mkSlice e i.size i.bytes (<-z.cells.toList.mapM o8) (.tmp a)else none
     |.const (.int k a),.const (.int k' b)=>if a=b/\k=k'/\0<i.size then do return .mkSlice e i.size i.bytes (<-z.cells.toList.mapM o8) (.cm (.v (.int k a)))else none
     |_,_=>none
    |none=>none
   |none=>none
  |_=>none
 |.makeFunc f first caps=>if first.isEmpty then do return .mkFn f (<-caps.toList.mapM bp.of)else none
 |.call c=>c7 P c
 |.makeMap t none=>match P.underlying t with
  |some (.map kt _)=>(fG P kt).map λki=>.mkMap ki.1 ki.2
  |_=>none
 |.lookup t x k ok=>match P.underlying t with
  |some (.map kt e)=>match fG P kt,CG P e with
   |some ki,some z=>do return .lookup ki.1 ki.2 z ok (<-bp.of x) (<-bp.of k)
   |_,_=>none
  |_=>none
 |.mapUpdate t x k y=>match P.underlying t with
  |some (.map kt _)=>match fG P kt with
   |some ki=>do return .mapUpd ki.1 ki.2 (<-bp.of x) (<-bp.of k) (<-bp.of y)
   |none=>none
  |_=>none
 |.mapEntry t x k=>match P.underlying t with
  |some (.map kt e)=>match fG P kt,CG P e with
   |some ki,some z=>do return .mapEnt ki.1 ki.2 z (<-bp.of x) (<-bp.of k)
   |_,_=>none
  |_=>none
 |.entryStore _ x s y=>do return .entSt (<-bp.of x) (<-bp.of s) (<-bp.of y)
 |.range t x=>match P.underlying t with
  |some (.map _ _)=>(bp.of x).map .rangeM
  |_=>none
 |.entry x=>(bp.of x).map .entryM
 |.index t x i=>match P.underlying t with
  |some .string=>do return .indexS (<-bp.of x) (<-bp.of i)
  |_=>none
 |.panic _|.makeInterface .. =>some .fail
 |_=>none
section
variable{w:World}{W:Nat->Prop}{objs:aU}{L:Loc}
theorem CH(off:Nat):∀(vs:List Value) (j0:Nat) (cs:Array Value),off+j0+vs.length<=cs.size->
  (vs.zipIdx j0).foldl (λcs (x:Value×Nat)=>cs.setIfInBounds (off+x.2) x.1) cs=(bH cs.toList (off+j0) vs).toArray
 |[],j0,cs,_=>by simp[bH]
 |v::vs,j0,cs,h=>by
  simp only[Za9]at h;simp only[Zb6,ZaB];rw[CH off vs (j0+1) _ (by simp;omega)]
  congr 1
  simp only[bH,Array.toList_setIfInBounds,Za9];have e:=list_seg_step cs.toList (off+j0) v vs (by simp;omega);simpa [Nat.add_assoc]using e
theorem zT{a:Act}{ρ:Nat->DV}(hg:zH w (WW W objs L))(gV:∀t,av w W objs L (ρ t) (a.tmps.getD t Go.undef)){place:Nat->Option (Nat×Nat)}:∀(ps:List (Nat×Operand)) (qs:List (Nat×Nat×bp)),ofParts ps place=some qs->
  ∀(cells:Array Value) (ds:List DV),aK w W objs L ds cells.toList->qF cells.size (qs.map λp=>(p.1,p.2.1,p.2.2.ev ρ))->
   ∃zU,Instr.fill place cells (ps.map λp=>(p.1,a.eval p.2))=some zU/\aK w W objs L (sW ds (qs.map λp=>(p.1,p.2.1,p.2.2.ev ρ))) zU.toList/\zU.size=cells.size
 |[],qs,h,cells,ds,hd,_=>by
  simp[ofParts]at h;subst h;exact⟨cells,rfl,by simpa [sW]using hd,rfl⟩
 |p::ps,qs,h,cells,ds,hd,aF=>by
  simp only[ofParts,Za1,Zaj,Zaf,Zac,Zaa]at h;obtain⟨q,⟨pl,Pz,x,hx,rfl⟩,qs',hqs,rfl⟩:=h;simp only[Zau,qF]at aF;obtain⟨hl,qJ,zb,sZ⟩:=aF;have hv:=bp.bq hg gV hx;have mA:=nI hv zb;have bd:(a.eval p.2).cells.size=pl.2:=by have:=aK.length mA;simpa [hl]using this
  have WN:((a.eval p.2).cells.zipIdx.foldl (λcs (x:Value×Nat)=>cs.setIfInBounds (pl.1+x.2) x.1) cells)=(bH cells.toList pl.1 (a.eval p.2).cells.toList).toArray:=by
   rw[<-Array.foldl_toList,Array.toList_zipIdx];have:=CH pl.1 (a.eval p.2).cells.toList 0 cells (by simp[bd];omega);simpa using this
  have hd':aK w W objs L (bH ds pl.1 (cellsOf (x.ev ρ))) (bH cells.toList pl.1 (a.eval p.2).cells.toList).toArray.toList:=by
   simpa using aK.bH pl.1 hd mA
  have gv:(bH cells.toList pl.1 (a.eval p.2).cells.toList).toArray.size=cells.size:=by
   have:=fu (l:=cells.toList) (new:=(a.eval p.2).cells.toList) (off:=pl.1) (by simp[bd];omega);simpa using this
  obtain⟨zU,h1,h2,h3⟩:=zT hg gV ps qs' (by simpa [ofParts]using hqs) _ _ hd' (by rw[gv];exact sZ);refine⟨zU, ?_,by simpa only[Zau,sW]using h2,h3.trans gv⟩;simp only[Zau,Instr.fill,Pz,bd];rw[if_neg (by simp;omega),WN];exact h1
theorem qQ{P:Program}(w:World){t e:TypeId}{i:TypeInfo}{z:Value}(ht:P.underlying t=some (.slice e))(hi:P.info? e=some i)(hz:i.zero=some z)(len:Nat)(hlen:¬len*i.size>2^24){parts:Array (Nat×Value)}{cells:Array Value}
  (h:Instr.fill (λk=>some (k*i.size,i.size)) ((Array.range (len*i.size)).map (z.cells[· % z.cells.size]!)) parts.toList=some cells):
  (Instr.buildSlice t len parts).run P w=.ok (.slice (some ⟨w.heap.size,0,none⟩) len len) (w.alloc (.cells cells e)):=by
 by_cases h0:len*i.size=0
 ·have h':Instr.fill (λk=>some (k*i.size,i.size)) #[] parts.toList=some cells:=by
   rw[h0]at h;simpa [Array.range_zero']using h
  simp[Instr.buildSlice,run_underlying ht,run_sizeOf hi,h0,h',newRow,Array.range_zero']
 ·simp[Instr.buildSlice,run_underlying ht,run_sizeOf hi,zeroValue,typeInfo,hi,hz,h0,hlen,h,newRow]
end
end Go.DM
namespace Go.DM
open Go.RowKit
variable [Laid]
def bQ(P:Program)(base:Nat)(W M:Nat->Prop)(w0:World)(objs:aU)(L:Loc)(w:World)(a:Act)(o:Oper)(e:oi):Prop:=
 ∃nx v w' L',(execOp a.eval o).run P w=.ok nx w'/\(nx=.value v\/(nx=.skip/\v=Go.undef))/\
  bK base W M w0 (bR objs e.put) w' L'/\iW W objs L w (bR objs e.put) L' w'/\av w' W (bR objs e.put) L' e.val v
section
variable{P:Program}{base:Nat}{W M:Nat->Prop}{w0:World}{objs:aU}{L:Loc}{w:World}{a:Act}{o:Oper}
theorem bQ.quiet(hO:bK base W M w0 objs w L){e:oi}(nJ:e.put=none){v:Value}(bz:(execOp a.eval o).run P w=.ok (.value v) w)(hv:av w W objs L e.val v):bQ P base W M w0 objs L w a o e:=
 ⟨.value v,v,w,L,bz,.inl rfl,by rw[nJ];exact hO,by rw[nJ];exact iW.cd (cb.refl _ _),by rw[nJ];exact hv⟩
theorem bQ.int(hO:bK base W M w0 objs w L){e:oi}(nJ:e.put=none){k:IntKind}{n:Int}(cY:e.val=.v (.int k n))(bz:(execOp a.eval o).run P w=.ok (.value (.int k n)) w):bQ P base W M w0 objs L w a o e:=
 bQ.quiet hO nJ bz (by rw[cY];simp[av,aR])
theorem bQ.bool(hO:bK base W M w0 objs w L){e:oi}(nJ:e.put=none){b:Bool}(cY:e.val=.v (.bool b))(bz:(execOp a.eval o).run P w=.ok (.value (.bool b)) w):bQ P base W M w0 objs L w a o e:=
 bQ.quiet hO nJ bz (by rw[cY];simp[av,aR])
theorem NR(hO:bK base W M w0 objs w L){op:BinOp}{t:TypeId}{x y:Operand}{yt:TypeId}(ho:o.op=.binOp op t x y yt){d1 d2:DV}(h1:av w W objs L d1 (a.eval x))(h2:av w W objs L d2 (a.eval y))(aF:(qG op d1 d2).ok):
  bQ P base W M w0 objs L w a o (qG op d1 d2):=by
 have key:∀{k k':IntKind} {p q:Int},d1=.v (.int k p)->d2=.v (.int k' q)->bQ P base W M w0 objs L w a o (qG op d1 d2):=by
  rintro k k' p q rfl rfl;simp only[av,aR]at h1 h2;have hex:∀(v:Value),(eqGuard op t x y (.int k p) (.int k' q)).run P w=.ok () w->(binOp op t (.int k p) (.int k' q)).run P w=.ok v w->(execOp a.eval o).run P w=.ok (.value v) w:=by
   intro v e1 e2;simp[execOp,ho,h1,h2,e1,e2]
  have hg:(eqGuard op t x y (.int k p) (.int k' q)).run P w=.ok () w:=by cases op<;>simp[eqGuard]
  cases op<;>simp only[qG,bad]at aF⊢
  all_goals first
   |exact aF.elim
   |(subst aF;first
     |(refine bQ.int hO rfl rfl (hex _ hg ?_);simp[binOp,Op.intArith];done)
     |(refine bQ.int hO rfl rfl (hex _ hg ?_);simp[binOp,Op.intBits];done)
     |(refine bQ.bool hO rfl rfl (hex _ hg ?_);simp[binOp,Op.intCmp];done)
     |(refine bQ.bool hO rfl rfl (hex _ hg ?_);simp[binOp,Op.intCmp];rfl))
   |(refine bQ.int hO rfl rfl (hex _ hg ?_);simp[binOp,shift_shl_any _ _ _ _ aF,shift_shr_any _ _ _ _ aF];done)
   |(obtain⟨rfl,hq⟩:=aF;exact bQ.int hO rfl rfl (hex _ hg (by simp[binOp,Op.intDiv,hq])))
 unfold qG at aF;split at aF
 ·exact key rfl rfl
 ·exact aF.elim
theorem D7{d:DV}{x:Value}{cs:List DV}(h:av w W objs L d x)(hc:lg d=some cs):∃vs:Array Value,x=.agg vs/\aK w W objs L cs vs.toList:=by
 cases d with
 |v t=>
  cases t with
  |agg ts=>
   simp only[lg,Zaa]at hc;subst hc;simp only[av,aR]at h;obtain⟨vs,rfl,hr⟩:=h;exact⟨vs,rfl,aK.o7 hr⟩
  |_=>simp[lg]at hc
 |agg ds=>
  simp only[lg,Zaa]at hc;subst hc;simp only[av]at h;exact h
 |_=>simp[lg]at hc
theorem Gb{s:TypeId}{xv:Value}{f:Nat}{fs:Array Field}{fd:Field}{i:TypeInfo}{desc:TypeDesc}(hs:P.underlying s=some (.struct fs))(hf:fs[f]? =some fd)(hi:P.info? fd.type=some i)(hd:P.underlying fd.type=some desc)
  {d:DV} (h:av w W objs L d xv) (aF:(mu fd.offset i.size (bA desc) d).ok):
  (mu fd.offset i.size (bA desc) d).put=none/\∃v,(Instr.field s xv f).run P w=.ok v w/\av w W objs L (mu fd.offset i.size (bA desc) d).val v:=by
 unfold mu at aF⊢;cases hc:lg d with
 |none=>simp[hc,bad]at aF
 |some cs=>
  simp only[hc]at aF⊢;obtain⟨vs,rfl,hr⟩:=D7 h hc;have hl:=aK.length hr;have hp:=lj (P:=P) w hd hi (xs:=vs.toList) (off:=fd.offset) aF.2 (by omega);simp only[Array.toArray_toList]at hp;refine⟨trivial,_,by simp[Instr.field,run_underlying hs,hf,asAgg,hp];rfl, ?_⟩;by_cases ha:bA desc=true
  ·simp only[ha,if_true,wh,av];exact⟨_,rfl,by simpa using aK.take i.size (aK.drop fd.offset hr)⟩
  ·have h1:i.size=1:=aF.2.resolve_left ha;have cW:fd.offset<cs.length:=by omega
   obtain⟨v,pS,_,fa⟩:=aK.get hr (i:=fd.offset) (d:=cs[fd.offset]) (by simp[cW]);have e1:(List.take i.size (List.drop fd.offset vs.toList)).getD 0 Go.undef=v:=by
    rw[h1];simp only[List.getD,ZaF,Zbb,ZbI,pS];simp
   have e2:cs.getD fd.offset .undef=cs[fd.offset]:=by simp[List.getD,cW]
   simp only[ha,wh,e1,e2];exact fa
theorem D8{k:Nat}{d:DV}{xv:Value}(h:av w W objs L d xv)(aF:(fM k d).ok):
  (fM k d).put=none/\∃b o,xv=.pointer (some ⟨b,o,none⟩)/\av w W objs L (fM k d).val (.pointer (some ⟨b,o+k,none⟩)):=by
 cases d with
 |ptr r off=>
  simp only[av]at h;obtain⟨hc,rfl⟩:=h;exact⟨rfl,_,_,rfl,by simp only[fM,av];exact⟨hc,trivial⟩⟩
 |kv rows i off=>
  simp only[av]at h;obtain⟨b,o,sz,rfl,rest⟩:=h;exact⟨rfl,_,_,rfl,by simp only[fM,av];exact⟨b,o,sz,by rw[Nat.add_assoc],rest⟩⟩
 |gu cs off=>
  simp only[av]at h;obtain⟨b,o,rfl,rest⟩:=h;exact⟨rfl,_,_,rfl,by simp only[fM,av];exact⟨b,o,by rw[Nat.add_assoc],rest⟩⟩
 |jc r ver i off=>
  simp only[av]at h;obtain⟨⟨b,o,rfl⟩,ver',e,sz,rows,ho,hle,hx⟩:=h;refine⟨rfl,_,_,rfl, ?_⟩;simp only[fM,av];refine⟨⟨_,_,rfl⟩,ver',e,sz,rows,ho,hle,λhv=>?_⟩;obtain⟨g,hg,hp,h0,h1⟩:=hx hv;simp only[Value.pointer.injEq,Zaa,Addr.mk.injEq,and_true]at hp;exact⟨g,hg,by rw[hp.1,hp.2,Nat.add_assoc],h0,h1⟩
 |v t=>
  cases t with
  |box cs=>
   simp only[av,aR]at h;obtain⟨b,o,rfl,rest⟩:=h;exact⟨rfl,_,_,rfl,by simp only[fM,av];exact⟨b,o,rfl,rest⟩⟩
  |_=>exact aF.elim
 |_=>exact aF.elim
theorem zV{d:DV}{xv:Value}(h:av w W objs L d xv)(aF:(jr d).ok):
  (jr d).put=none/\(jr d).val=d/\((∃p,xv=.pointer (some p))\/∃f caps,xv=.func (.func f) #[] caps):=by
 cases d with
 |ptr r off=>simp only[av]at h;obtain⟨_,rfl⟩:=h;exact⟨rfl,rfl,.inl ⟨_,rfl⟩⟩
 |kv rows i off=>simp only[av]at h;obtain⟨b,o,sz,rfl,_⟩:=h;exact⟨rfl,rfl,.inl ⟨_,rfl⟩⟩
 |gu cs off=>simp only[av]at h;obtain⟨b,o,rfl,_⟩:=h;exact⟨rfl,rfl,.inl ⟨_,rfl⟩⟩
 |jc r ver i off=>simp only[av]at h;obtain⟨⟨b,o,rfl⟩,_⟩:=h;exact⟨rfl,rfl,.inl ⟨_,rfl⟩⟩
 |v t=>
  cases t with
  |box cs=>simp only[av,aR]at h;obtain⟨b,o,rfl,_⟩:=h;exact⟨rfl,rfl,.inl ⟨_,rfl⟩⟩
  |fn f caps=>
   cases f with
   |func f=>simp only[av,aR]at h;obtain⟨vs,rfl,_⟩:=h;exact⟨rfl,rfl,.inr ⟨_,_,rfl⟩⟩
   |_=>exact aF.elim
  |_=>exact aF.elim
 |_=>exact aF.elim
theorem NS{t e:TypeId}{i:TypeInfo}(hO:bK base W M w0 objs w L)(ht:P.underlying t=some (.slice e))(hi:P.info? e=some i){d d2:DV}{xv yv:Value}(h:av w W objs L d xv)(h2:av w W objs L d2 yv)(aF:(oZ i.size objs d d2).ok):
  (oZ i.size objs d d2).put=none/\∃v,(Instr.indexAt t xv yv).run P w=.ok v w/\av w W objs L (oZ i.size objs d d2).val v:=by
 have bz:∀(b o n c:Nat) (k:IntKind) (j:Int),0<=j->j<n->(Instr.indexAt t (.slice (some ⟨b,o,none⟩) n c) (.int k j)).run P w=.ok (.pointer (some ⟨b,o+j.toNat*i.size,none⟩)) w:=by
  intro b o n c k j h0 h1;simp[Instr.indexAt,asIntOf,run_underlying ht,h0,h1,run_sizeOf hi,kX]
 unfold oZ at aF⊢;split at aF
 ·rename_i rows k j;simp only at aF⊢;obtain⟨h0,h1,gv⟩:=aF;simp only[av,aR]at h h2;subst h2;rcases h with⟨rfl,_⟩|⟨b,o,cap,sz,rfl,hb,hn,hc,hr⟩
  ·simp at h1;omega
  ·have lV:=(aX.row hr (wE h0 h1)).1;have hsz':sz=i.size:=by omega
   subst hsz';refine⟨trivial,_,bz b o _ _ k j h0 h1, ?_⟩;simp only[av];exact⟨b,o,_,by rw[ZbI],hb,hn,hr,h0,h1⟩
 ·rename_i r ver k j;cases hc:objs r with
  |none=>simp[hc,bad]at aF
  |some ob=>
   cases ob with
   |box cs=>simp[hc,bad]at aF
   |map _ _ _ _=>simp[hc,bad]at aF
   |iter _ _ _ _=>simp[hc,bad]at aF
   |arr ver' e' fW rows=>
    simp only[hc]at aF⊢;obtain⟨rfl,rfl,h0,h1⟩:=aF;simp only[av,aR]at h h2;subst h2;obtain⟨_,nG,e2,CB,jO,lH,_,hv⟩:=h;rw[hc]at lH;cases lH;have hv:=hv rfl;subst hv;have fE:=hO.ob r _ hc;obtain⟨gv,cS,hm,kj⟩:=fE;rcases kj with⟨rfl,_⟩|⟨g',cap,cur,pS,hp,hh,hle,o9,D1,eG⟩
    ·simp at h1;omega
    ·refine⟨trivial,_,by rw[pS];exact bz g' 0 _ _ k j h0 h1, ?_⟩;simp only[av];exact⟨⟨_,_,rfl⟩,ver,e',_,rows,hc,Zae _,λ_=>⟨g',by simp[pS,aO,Zay.1 hp],by simp,h0,h1⟩⟩
 ·rename_i r ver lo n k j;cases hc:objs r with
  |none=>simp[hc,bad]at aF
  |some ob=>
   cases ob with
   |box cs=>simp[hc,bad]at aF
   |map _ _ _ _=>simp[hc,bad]at aF
   |iter _ _ _ _=>simp[hc,bad]at aF
   |arr ver' e' fW rows=>
    simp only[hc]at aF⊢;obtain⟨rfl,rfl,h0,h1⟩:=aF;simp only[av,aR]at h h2;subst h2;obtain⟨_,nG,e2,CB,jO,lH,_,hv⟩:=h;rw[hc]at lH;cases lH;have hv:=hv rfl;rcases qM hO hc hv with⟨rfl,_⟩|⟨g,c,uw,rfl,P5,_⟩
    ·simp at h1;omega
    ·refine⟨trivial,_,bz g _ _ _ k j h0 h1, ?_⟩;have hl:=hv.1;have e1:((lo:Int)+j).toNat=lo+j.toNat:=by omega
     simp only[av];exact⟨⟨_,_,rfl⟩,ver,e',_,rows,hc,Zae _,λ_=>⟨g,uw,by rw[e1,Nat.add_mul];simp,by omega,by omega⟩⟩
 ·rename_i r n k j;simp only[av,aR]at h h2;subst h2;obtain⟨hc,rfl⟩:=h;obtain⟨h0,h1⟩:=aF;refine⟨rfl,_,bz _ _ _ _ k j h0 h1, ?_⟩;simp only[av];exact⟨hc,by simp⟩
 ·exact aF.elim
theorem Ca{t e:TypeId}{i:TypeInfo}{n:Nat}(ht:P.underlying t=some (.array n e))(hi:P.info? e=some i){d d2:DV}{xv yv:Value}(h:av w W objs L d xv)(h2:av w W objs L d2 yv)(aF:(jk n i.size d d2).ok):
  (jk n i.size d d2).put=none/\∃v,(Instr.indexAt t xv yv).run P w=.ok v w/\av w W objs L (jk n i.size d d2).val v:=by
 have bz:∀(b o:Nat) (k:IntKind) (j:Int),0<=j->j<n->(Instr.indexAt t (.pointer (some ⟨b,o,none⟩)) (.int k j)).run P w=.ok (.pointer (some ⟨b,o+j.toNat*i.size,none⟩)) w:=by
  intro b o k j h0 h1;by_cases hn:n<=1<;>simp[Instr.indexAt,asIntOf,run_underlying ht,h0,h1,run_sizeOf hi,kX,Instr.sureAddr]
 unfold jk at aF⊢;split at aF
 ·rename_i r off k j;simp only[av,aR]at h h2;obtain⟨hc,rfl⟩:=h;subst h2;exact⟨rfl,_,bz _ _ k j aF.1 aF.2,by simp only[av];exact⟨hc,trivial⟩⟩
 ·rename_i rows q off k j;simp only[av,aR]at h h2;obtain⟨b,o,sz,rfl,rest⟩:=h;subst h2;exact⟨rfl,_,bz _ _ k j aF.1 aF.2,by simp only[av];exact⟨b,o,sz,by rw[Nat.add_assoc],rest⟩⟩
 ·rename_i cs off k j;simp only[av,aR]at h h2;obtain⟨b,o,rfl,rest⟩:=h;subst h2;exact⟨rfl,_,bz _ _ k j aF.1 aF.2,by simp only[av];exact⟨b,o,by rw[Nat.add_assoc],rest⟩⟩
 ·rename_i cs k j;simp only[av,aR]at h h2;obtain⟨b,o,rfl,rest⟩:=h;subst h2;exact⟨rfl,_,bz _ _ k j aF.1 aF.2,by simp only[av];exact⟨b,o,rfl,rest⟩⟩
 ·rename_i r ver q off k j;simp only[av,aR]at h h2;obtain⟨⟨b,o,rfl⟩,ver',e,sz,rows,ho,hle,hx⟩:=h;subst h2;refine⟨rfl,_,bz _ _ k j aF.1 aF.2, ?_⟩;simp only[av];refine⟨⟨_,_,rfl⟩,ver',e,sz,rows,ho,hle,λhv=>?_⟩;obtain⟨g,hg,hp,h0,h1⟩:=hx hv;simp only[Value.pointer.injEq,Zaa,Addr.mk.injEq,and_true]at hp;exact⟨g,hg,by rw[hp.1,hp.2,Nat.add_assoc],h0,h1⟩
 ·exact aF.elim
theorem NT{x:Operand}{t e:TypeId}(hO:bK base W M w0 objs w L)(ho:o.op=.call {callee:=.builtin .len,args:= #[x],argTypes:= #[t]})(ht:P.underlying t=some (.slice e)){d:DV}(h:av w W objs L d (a.eval x))(aF:(tB objs d).ok):
  bQ P base W M w0 objs L w a o (tB objs d):=by
 have sP:∀(p:Option Addr) (n c:Nat),a.eval x=.slice p n c->(execOp a.eval o).run P w=.ok (.value (.int .i64 n)) w:=by
  rintro p n c hx;simp[execOp,ho,resolve,invoke,builtin,hx,Builtin.len_,run_underlying ht,goInt]
 cases d with
 |v t'=>
  cases t' with
  |sl rows=>
   simp only[av,aR]at h;rcases h with⟨rfl,p,c,hx⟩|⟨b,oo,cap,sz,hx,_⟩
   ·exact bQ.int hO rfl rfl (sP _ _ _ hx)
   ·exact bQ.int hO rfl rfl (sP _ _ _ hx)
  |_=>exact aF.elim
 |aI=>
  simp only[av]at h;obtain⟨p,hx⟩:=h;exact bQ.int hO rfl rfl (sP _ _ _ hx)
 |bk r ver=>
  simp only[av]at h;obtain⟨_,ver',e',sz,rows,hc,_,hv⟩:=h;simp only[tB,hc]at aF⊢;have hv:=hv aF;have fE:=hO.ob r _ hc;obtain⟨gv,cS,hm,kj⟩:=fE;rcases kj with⟨rfl,p,hp⟩|⟨g',cap,cur,pS,hp,hh,hle,o9,D1,eG⟩
  ·exact bQ.int hO rfl rfl (sP _ _ _ (hv.trans hp))
  ·exact bQ.int hO rfl rfl (sP _ _ _ (hv.trans pS))
 |sO r ver lo n=>
  simp only[av]at h;obtain⟨⟨p,c,hx⟩,_⟩:=h;exact bQ.int hO rfl rfl (sP _ _ _ hx)
 |DU r n=>
  simp only[av]at h;obtain⟨_,hx⟩:=h;exact bQ.int hO rfl rfl (sP _ _ _ hx)
 |_=>exact aF.elim
theorem Jx{x:Operand}{t:TypeId}(hO:bK base W M w0 objs w L)(ho:o.op=.call {callee:=.builtin .len,args:= #[x],argTypes:= #[t]})(ht:P.underlying t=some .string){d:DV}(h:av w W objs L d (a.eval x))(aF:(r8 d).ok):
  bQ P base W M w0 objs L w a o (r8 d):=by
 unfold r8 at aF⊢;split at aF
 ·simp only[av,aR]at h;refine bQ.int hO rfl rfl ?_;simp[execOp,ho,resolve,invoke,builtin,h,Builtin.len_,run_underlying ht,goInt]
 ·exact aF.elim
theorem uN{x y:Operand}{ts:Array TypeId}(m:Bool)(hO:bK base W M w0 objs w L)(ho:o.op=.call {callee:=.builtin (if m then .max else .min),args:= #[x,y],argTypes:=ts}){d1 d2:DV}(h1:av w W objs L d1 (a.eval x))(h2:av w W objs L d2 (a.eval y))(aF:(me m d1 d2).ok):
  bQ P base W M w0 objs L w a o (me m d1 d2):=by
 unfold me at aF⊢;split at aF
 ·rename_i k p k' q;simp only[av,aR]at h1 h2;have hok':k=k':=aF;subst hok';cases m
  ·have e:(if q<p then q else p)=min p q:=by omega
   refine bQ.int hO rfl rfl ?_;simp[execOp,ho,resolve,invoke,builtin,h1,h2,run_min_int2,e]
  ·have e:(if q>p then q else p)=max p q:=by omega
   refine bQ.int hO rfl rfl ?_;simp only[gt_iff_lt]at e;simp[execOp,ho,resolve,invoke,builtin,h1,h2,run_max_int2,e]
 ·exact aF.elim
theorem CI{d:DV}{x:Value}{n:Int}(h:av w W objs L d x)(hi:zK d=some n):∃k,x=.int k n:=by
 unfold zK at hi;split at hi
 ·simp only[Zaa]at hi;subst hi;simp only[av,aR]at h;exact⟨_,h⟩
 ·cases hi
theorem Gc(hO:bK base W M w0 objs w L){t e:TypeId}{i:TypeInfo}(ht:P.underlying t=some (.slice e))(hi:P.info? e=some i){d:DV}{xv:Value}(h:av w W objs L d xv){lo ni:Option DV}{lv hv:Option Value}
  (Wg:(lo=none/\lv=none)\/∃dl vl,lo=some dl/\lv=some vl/\av w W objs L dl vl) (hhi:(ni=none/\hv=none)\/∃dl vl,ni=some dl/\hv=some vl/\av w W objs L dl vl)
  (aF:(gY i.size lo ni objs d).ok):
  (gY i.size lo ni objs d).put=none/\∃v,(Instr.sliceAt t xv lv hv none).run P w=.ok v w/\av w W objs L (gY i.size lo ni objs d).val v:=by
 have bz:∀(p:Option Addr) (n c:Nat) (l hh:Int),0<=l->l<=hh->hh<=n->n<=c->(lv=none/\l=0\/∃k,lv=some (.int k l))->(hv=none/\hh=n\/∃k,hv=some (.int k hh))->
   (Instr.sliceAt t (.slice p n c) lv hv none).run P w=.ok (.slice (if c=l.toNat then p else p.map (·.add (l.toNat*i.size))) (hh.toNat-l.toNat) (c-l.toNat)) w:=by
  intro p n c l hh h0 h1 h2 h3 hl hh';have b2:hh<=c:=by omega
  have b3:0<=hh:=by omega
  have b4:l<=(hh.toNat:Int):=by omega
  have b5:((hh.toNat:Nat):Int)=hh:=by omega
  rcases hl with⟨rfl,rfl⟩|⟨k,rfl⟩<;>rcases hh' with⟨rfl,rfl⟩|⟨k',rfl⟩
  ·simp[Instr.sliceAt,Instr.slice,run_underlying ht,Instr.sliceBounds,run_sizeOf hi]
  ·simp[Instr.sliceAt,Instr.slice,run_underlying ht,Instr.sliceBounds,run_sizeOf hi,Instr.sliceBound,asIntOf,b2,b3]
  ·have b6:l<=(n:Int):=h1;simp[Instr.sliceAt,Instr.slice,run_underlying ht,Instr.sliceBounds,run_sizeOf hi,Instr.sliceBound,asIntOf,b6,h0]
  ·simp[Instr.sliceAt,Instr.slice,run_underlying ht,Instr.sliceBounds,run_sizeOf hi,Instr.sliceBound,asIntOf,b2,b3,h0,b5,h1]
 have P6:∀{l:Int},zL lo=some l->(lv=none/\l=0\/∃k,lv=some (.int k l)):=by
  intro l hl;rcases Wg with⟨rfl,rfl⟩|⟨dl,vl,rfl,rfl,hr⟩
  ·simp only[zL,Zaa]at hl;exact .inl ⟨rfl,hl.symm⟩
  ·obtain⟨k,rfl⟩:=CI hr hl;exact .inr ⟨k,rfl⟩
 have cY:∀{n:Int} {l:Int},zM n ni=some l->(hv=none/\l=n\/∃k,hv=some (.int k l)):=by
  intro n l hl;rcases hhi with⟨rfl,rfl⟩|⟨dl,vl,rfl,rfl,hr⟩
  ·simp only[zM,Zaa]at hl;exact .inl ⟨rfl,hl.symm⟩
  ·obtain⟨k,rfl⟩:=CI hr hl;exact .inr ⟨k,rfl⟩
 cases d with
 |v t'=>
  cases t' with
  |sl rows=>
   simp only[gY]at aF⊢;cases el:zL lo with
   |none=>simp[el,bad]at aF
   |some l=>
    cases eh:zM rows.length ni with
    |none=>simp[el,eh,bad]at aF
    |some hh=>
     simp only[el,eh]at aF⊢;obtain⟨h0,h1,h2,gv⟩:=aF;refine⟨trivial, ?_⟩;simp only[av,aR]at h;have hlen:((rows.take hh.toNat).drop l.toNat).length=hh.toNat-l.toNat:=by simp;omega
     rcases h with⟨rfl,p,c,rfl⟩|⟨b,oo,cap,sz,rfl,hb,hn,hc,hr⟩
     ·have z1:hh=0:=by simp at h2;omega
      have z2:l=0:=by omega
      subst z1 z2;refine⟨_,bz p 0 c 0 0 h0 h1 (by omega) (by omega) (P6 el) (cY eh), ?_⟩;simp only[av,aR];exact .inl ⟨by simp,_,_,rfl⟩
     ·refine⟨_,bz _ _ cap l hh h0 h1 h2 hc (P6 el) (cY eh), ?_⟩;simp only[av,aR];by_cases zb:cap=l.toNat
      ·refine .inl ⟨?_,_,_,by rw[show hh.toNat-l.toNat=0 by omega]⟩;apply ZaC;omega
      ·refine .inr ⟨b,oo+l.toNat*i.size,cap-l.toNat,i.size, ?_,hb,hn,by omega, ?_⟩
       ·rw[hlen,if_neg zb];simp[kX]
       ·refine aX.y8 _ _ λj r hj=>?_;rw[Zbb,ZaF]at hj;split at hj
        ·have lV:=aX.row hr hj;have Px:=gv r (Zaq hj);have:sz=i.size:=by omega
         subst this;refine⟨Px, ?_⟩;have e2:oo+l.toNat*i.size+j*i.size=oo+(l.toNat+j)*i.size:=by rw[Nat.add_mul];omega
         rw[e2];exact lV.2
        ·cases hj
  |_=>exact aF.elim
 |aI=>
  simp only[gY]at aF⊢;cases el:zL lo with
  |none=>simp[el,bad]at aF
  |some l=>
   cases eh:zM 0 ni with
   |none=>simp[el,eh,bad]at aF
   |some hh=>
    simp only[el,eh]at aF⊢;obtain⟨rfl,rfl⟩:=aF;refine⟨trivial, ?_⟩;simp only[av]at h;obtain⟨p,rfl⟩:=h;refine⟨_,bz p 0 0 0 0 (Zcw _) (Zcw _) (by omega) (Zae _) (P6 el) (cY eh), ?_⟩;simp[av]
 |bk r ver=>
  simp only[gY]at aF⊢;cases hc:objs r with
  |none=>simp[hc,bad]at aF
  |some ob=>
   cases ob with
   |arr ver' e' fW rows=>
    simp only[hc]at aF⊢;cases el:zL lo with
    |none=>simp[el,bad]at aF
    |some l=>
     cases eh:zM rows.length ni with
     |none=>simp[el,eh,bad]at aF
     |some hh=>
      simp only[el,eh]at aF⊢;obtain⟨rfl,rfl,h0,h1,h2⟩:=aF;refine⟨trivial, ?_⟩;simp only[av]at h;obtain⟨_,nG,e2,CB,jO,lH,_,ji⟩:=h;rw[hc]at lH;cases lH;have ji:=ji rfl;subst ji;obtain⟨_,_,_,kj⟩:=hO.ob r _ hc;have sP:∃p cap,L.sl r=.slice p rows.length cap/\rows.length<=cap:=by
       rcases kj with⟨rfl,a,ha⟩|⟨g,cap,cur,k1,k2,k3,k4,_⟩
       ·exact⟨a,0,ha,Zae _⟩
       ·exact⟨_,cap,k1,k4⟩
      obtain⟨p,cap,sP,o9⟩:=sP;refine⟨_,by rw[sP];exact bz p rows.length cap l hh h0 h1 h2 o9 (P6 el) (cY eh), ?_⟩;simp only[av];exact⟨⟨_,_,rfl⟩,ver,e',_,rows,hc,Zae _,λ_=>⟨by omega,p,cap,_,sP,rfl,λcW=>by rw[if_neg (by omega)]⟩⟩
   |_=>simp[hc,bad]at aF
 |sO r ver lo0 n=>
  simp only[gY]at aF⊢;cases hc:objs r with
  |none=>simp[hc,bad]at aF
  |some ob=>
   cases ob with
   |arr ver' e' fW rows=>
    simp only[hc]at aF⊢;cases el:zL lo with
    |none=>simp[el,bad]at aF
    |some l=>
     cases eh:zM n ni with
     |none=>simp[el,eh,bad]at aF
     |some hh=>
      simp only[el,eh]at aF⊢;obtain⟨rfl,rfl,h0,h1,h2⟩:=aF;refine⟨trivial, ?_⟩;simp only[av]at h;obtain⟨_,nG,e2,CB,jO,lH,_,ji⟩:=h;rw[hc]at lH;cases lH;obtain⟨PW,p,cap,p2,sP,rfl,Mb⟩:=ji rfl;obtain⟨_,_,_,kj⟩:=hO.ob r _ hc;have o9:rows.length<=cap/\∀q,p=some q->0<cap->∃g,q=⟨g,0,none⟩:=by
       rcases kj with⟨rfl,a,ha⟩|⟨g,cap',cur,k1,k2,k3,k4,_⟩
       ·exact⟨by simp,λq hq Py=>by rw[sP]at ha;cases ha;omega⟩
       ·rw[sP]at k1;cases k1;exact⟨k4,λq hq _=>⟨g,by simpa using hq.symm⟩⟩
      refine⟨_,bz p2 n (cap-lo0) l hh h0 h1 h2 (by omega) (P6 el) (cY eh), ?_⟩;simp only[av];refine⟨⟨_,_,rfl⟩,ver,e',_,rows,hc,Zae _,λ_=>⟨by omega,p,cap,_,sP,by rw[Nat.sub_sub],λcW=>?_⟩⟩;rw[if_neg (by omega),Mb (by omega)];cases p with
      |none=>rfl
      |some q=>
       obtain⟨g,rfl⟩:=o9.2 q rfl (by omega);simp[kX,Nat.add_mul]
   |_=>simp[hc,bad]at aF
 |_=>exact aF.elim
end
end Go.DM
namespace Go.DM
open Go.RowKit
variable [Laid]
section
variable{P:Program}{base:Nat}{W M:Nat->Prop}{w0:World}{objs:aU}{L:Loc}{w:World}{a:Act}{o:Oper}
theorem gJ{W':Nat->Prop}:∀{shs:List Sh} {ts:List T} {vs:List Value},df shs ts->aP w W' ts vs->fits shs vs
 |[],ts,vs,h,hr=>by
  simp only[df]at h;subst h;simpa [aP,fits]using hr
 |s::ss,[],vs,h,_=>by simp[df]at h
 |s::ss,t::ts,vs,h,hr=>by
  simp only[df]at h;simp only[aP]at hr;obtain⟨v,gW,rfl,_,h2,hr⟩:=hr;simp only[fits];refine⟨v,gW,rfl, ?_,gJ h.2 hr⟩;have h1:=h.1;cases s<;>cases t<;>first|exact absurd h1 Zaz|skip
  all_goals (simp only[aR]at h2;subst h2;first|rfl|exact h1)
theorem Ge{W':Nat->Prop}{s:Sh}{t u:T}{x y:Value}(ht:DW s t=true)(hu:DW s u=true)(hx:aR w W' t x)(hy:aR w W' u y):eZ t u=Yy x y:=by
 cases s<;>cases t<;>(first|exact absurd ht Zaz|skip)<;>cases u<;>(first|exact absurd hu Zaz|skip)
 all_goals (simp only[aR]at hx hy;subst hx hy;simp only[eZ,Yy])
 ·rfl
 ·rename_i s1 s2;by_cases h:s1=s2
  ·subst h;simp
  ·have bG:s1.toList≠s2.toList:=λe=>h (by
    rw[ByteArray.toList_eq,ByteArray.toList_eq]at e;obtain⟨d1⟩:=s1;obtain⟨d2⟩:=s2;exact congrArg ByteArray.mk (Array.ext' e))
   simp[h,bG]
theorem wH{W':Nat->Prop}:∀{shs:List Sh} {ts us:List T} {xs ys:List Value},df shs ts->df shs us->aP w W' ts xs->aP w W' us ys->oj ts us=kz xs ys
 |[],ts,us,xs,ys,h1,h2,hx,hy=>by
  simp only[df]at h1 h2;subst h1 h2;simp only[aP]at hx hy;subst hx hy;rfl
 |s::ss,[],_,_,_,h,_,_,_=>by simp[df]at h
 |s::ss,_::_,[],_,_,_,h,_,_=>by simp[df]at h
 |s::ss,t::ts,u::us,xs,ys,h1,h2,hx,hy=>by
  simp only[df]at h1 h2;simp only[aP]at hx hy;obtain⟨x,jI,rfl,_,FN,hx⟩:=hx;obtain⟨y,ys',rfl,_,jQ,hy⟩:=hy;simp only[oj,kz];rw[Ge h1.1 h2.1 FN jQ,wH h1.2 h2.2 hx hy]
theorem mg{shs:List Sh}{t:T}(h:df shs [t]):∃s,shs=[s]/\DW s t=true:=by
 cases shs with
 |nil=>simp[df]at h
 |cons s ss=>
  simp only[df]at h;cases ss with
  |nil=>exact⟨s,rfl,h.1⟩
  |cons s2 ss=>simp[df]at h
theorem vh{em:Bool}{d:Nat}(ih:∀(t:TypeId) (shs:List Sh) (desc:TypeDesc),jG P d t=some shs->P.underlying t=some desc->∀(xs:List Value) (w:World),fits shs xs->(Instr.checkKey em d t (wh desc xs)).run P w=.ok () w)
  (Ga:∀(t:TypeId) (shs:List Sh),jG P d t=some shs->∃desc,P.underlying t=some desc/\(bA desc=true\/shs.length=1)) (xs:List Value):
  ∀(fs:List Field) (off:Nat) (shs:List Sh) (w:World),fZ P (jG P d) off fs=some shs->fits shs (xs.drop off)->off<=xs.length->
   (forIn fs PUnit.unit (λf (_:PUnit)=>
      if f.name≠ "_" then do
       let x<-part f.type xs.toArray f.offset
       Instr.checkKey em d f.type x
       pure (ForInStep.yield PUnit.unit)
      else pure (ForInStep.yield PUnit.unit)):Sem PUnit).run P w=.ok PUnit.unit w
 |[],off,shs,w,h,hx,_=>by simp
 |f::fs,off,shs,w,h,hx,hox=>by
  simp only[fZ]at h;split at h
  ·rename_i s i hs hi;split at h
   ·rename_i hc;obtain⟨hn,rfl,gv⟩:=hc;simp only[Zab]at h;obtain⟨rest,sZ,rfl⟩:=h;obtain⟨desc,hd,h1⟩:=Ga _ _ hs;have sa:=fits.length hx;simp only[ZaA,Za8]at sa;obtain⟨FN,qn⟩:=fits.split hx;rw[List.drop_drop]at qn;rw[gv]at h1;have p1:=λw=>lj (P:=P) w hd hi (xs:=xs) (off:=f.offset) h1 (by omega);have hr:=ih _ _ _ hs hd _ w FN;rw[gv]at hr;simp only[Zco,hn,ne_eq,not_false_eq_true,if_true,Sem.run_bind,p1,Result.andThen_ok,hr,Sem.run_pure];exact vh ih Ga xs fs _ rest w sZ qn (by omega)
   ·cases h
  ·cases h
theorem wT{em:Bool}{d:Nat}{e:TypeId}{de:TypeDesc}{s:List Sh}{i:TypeInfo}(hd:P.underlying e=some de)(hi:P.info? e=some i)(h1:bA de=true\/i.size=1)(hs:s.length=i.size)
  (ih:∀(xs:List Value) (w:World),fits s xs->(Instr.checkKey em d e (wh de xs)).run P w=.ok () w) (xs:List Value):
  ∀(n k:Nat) (w:World),fits ((List.replicate n s).flatten) (xs.drop (k*i.size))->
   (forIn (List.range' k n) PUnit.unit (λj (_:PUnit)=>do
      let sz<-sizeOf e
      let x<-part e xs.toArray (j*sz)
      Instr.checkKey em d e x
      pure (ForInStep.yield PUnit.unit)):Sem PUnit).run P w=.ok PUnit.unit w
 |0,k,w,hx=>by simp
 |n+1,k,w,hx=>by
  simp only[Za6,Zbe]at hx;have sa:=fits.length hx;simp only[ZaA,Za8]at sa;obtain⟨FN,qn⟩:=fits.split hx;have e2:k*i.size+s.length=(k+1)*i.size:=by rw[Nat.add_mul,hs];omega
  rw[List.drop_drop,e2]at qn;by_cases hz:i.size=0
  ·have gv:∀(w:World),k*i.size+i.size<=xs.length\/xs.length<k*i.size:=λ_=>by omega
   have Mf:=h1.elim id (λh=>by omega);have p1:=λw=>lj (P:=P) w hd hi (xs:=xs) (off:=k*i.size) h1 (by rw[hz];simp);rw[hs]at FN;have hr:=ih _ w FN;simp only[ZcI,Zco,Sem.run_bind,run_sizeOf hi,p1,Result.andThen_ok,hr,Sem.run_pure];exact wT hd hi h1 hs ih xs n (k+1) w qn
  ·have p1:=λw=>lj (P:=P) w hd hi (xs:=xs) (off:=k*i.size) h1 (by omega);rw[hs]at FN;have hr:=ih _ w FN;simp only[ZcI,Zco,Sem.run_bind,run_sizeOf hi,p1,Result.andThen_ok,hr,Sem.run_pure];exact wT hd hi h1 hs ih xs n (k+1) w qn
theorem wU(em:Bool):∀(d:Nat) (t:TypeId) (shs:List Sh) (desc:TypeDesc),jG P d t=some shs->P.underlying t=some desc->∀(xs:List Value) (w:World),fits shs xs->(Instr.checkKey em d t (wh desc xs)).run P w=.ok () w
 |0,t,shs,desc,h,_,_,_,_=>by simp[jG]at h
 |d+1,t,shs,desc,h,hu,xs,w,hx=>by
  simp only[jG,hu]at h;cases desc;case bool=>simp[wh,bA,Instr.checkKey,run_underlying hu]
  case int k=>simp[wh,bA,Instr.checkKey,run_underlying hu]
  case string=>simp[wh,bA,Instr.checkKey,run_underlying hu]
  case struct fs=>
   replace h:(if P.stoodInHeld t then none else fZ P (jG P d) 0 fs.toList)=some shs:=h
   split at h
   ·cases h
   ·have:=vh (em:=em) (λt shs desc=>wU em d t shs desc) (λt shs hs=>by
     cases d with
     |zero=>simp[jG]at hs
     |succ d=>exact zd hs) xs fs.toList 0 shs w h (by simpa using hx) (by omega)
    simp only[wh,bA,if_true];rw[Instr.checkKey];simp only[Sem.run_bind,run_underlying hu,Result.andThen_ok];rw[<-Array.forIn_toList];refine(congrArg (λr=>Result.andThen r _) this).trans ?_;rfl
  case array n e=>
   replace h:(match jG P d e,P.info? e with
    |some s,some i=>if s.length=i.size/\0<i.size then some ((List.replicate n s).flatten)else none
    |_,_=>none)=some shs:=h
   split at h
   ·rename_i s i hs hi;split at h
    ·rename_i hc;simp only[Zaa]at h;subst h;have hde:∃desc,P.underlying e=some desc/\(bA desc=true\/s.length=1):=by
      cases d with
      |zero=>simp[jG]at hs
      |succ d=>exact zd hs
     obtain⟨de,hd,h1⟩:=hde;rw[hc.1]at h1;have:=wT hd hi h1 hc.1 (λxs w=>wU em d e s de hs hd xs w) xs n 0 w (by simpa using hx);simp only[wh,bA,if_true];rw[Instr.checkKey];simp only[Sem.run_bind,run_underlying hu,Result.andThen_ok,Std.Legacy.Range.forIn_eq_forIn_range',Std.Legacy.Range.size,Zb1,Zcc,Nat.div_one];refine(congrArg (λr=>Result.andThen r _) this).trans ?_;rfl
    ·cases h
   ·cases h
  all_goals exact absurd h (by simp)
def aM:T->List T
 |.agg as=>as
 |t=>[t]
theorem jl{shs:List Sh}{agg:Bool}{t:T}(h:dg shs agg t):df shs (aM t):=by
 cases t<;>simp only[dg]at h<;>exact h.2
theorem wV{W':Nat->Prop}{shs:List Sh}{desc:TypeDesc}{t:T}{x:Value}(h:dg shs (bA desc) t)(hr:aR w W' t x):∃vs,x=wh desc vs/\aP w W' (aM t) vs:=by
 cases t with
 |agg as=>
  simp only[dg]at h;simp only[aR]at hr;obtain⟨vs,rfl,hr⟩:=hr;exact⟨vs.toList,by simp[wh,h.1],hr⟩
 |_=>
  simp only[dg]at h;refine⟨[x],by simp[wh,h.1], ?_⟩;simp only[aM,aP];obtain⟨s,rfl,hs⟩:=mg h.2;refine⟨x,[],rfl, ?_,hr,rfl⟩;cases s<;>first|exact absurd hs Zaz|(simp only[aR]at hr;subst hr;rfl)
theorem AI{shs:List Sh}{agg:Bool}{t u:T}(h:dg shs agg t)(k:dg shs agg u):eZ t u=oj (aM t) (aM u):=by
 cases t with
 |agg as=>
  cases u with
  |agg bs=>rfl
  |_=>simp only[dg]at h k;rw[h.1]at k;exact absurd k.1 (by simp)
 |_=>
  cases u with
  |agg bs=>simp only[dg]at h k;rw[k.1]at h;exact absurd h.1 (by simp)
  |_=>simp[aM,oj]
theorem QW{s:Sh}{t u:T}(ht:DW s t=true)(hu:DW s u=true)(h:eZ t u=true):t=u:=by
 cases s<;>cases t<;>(first|exact absurd ht Zaz|skip)<;>cases u<;>(first|exact absurd hu Zaz|skip)
 ·simp only[eZ,beq_iff_eq]at h;rw[h]
 ·simp only[DW,beq_iff_eq]at ht hu;simp only[eZ,decide_eq_true_eq]at h;subst ht hu h;rfl
 ·simp only[eZ,decide_eq_true_eq]at h;rw[h]
theorem CZ:∀{shs:List Sh} {ts us:List T},df shs ts->df shs us->oj ts us=true->ts=us
 |[],ts,us,h1,h2,_=>by simp only[df]at h1 h2;rw[h1,h2]
 |s::ss,[],_,h,_,_=>by simp[df]at h
 |s::ss,_::_,[],_,h,_=>by simp[df]at h
 |s::ss,t::ts,u::us,h1,h2,h=>by
  simp only[df]at h1 h2;simp only[oj,Zam]at h;rw[QW h1.1 h2.1 h.1,CZ h1.2 h2.2 h.2]
theorem key_inj{shs:List Sh}{agg:Bool}{t u:T}(h:dg shs agg t)(k:dg shs agg u)(e:eZ t u=true):t=u:=by
 have h1:=jl h;have k1:=jl k;rw[AI h k]at e;have:=CZ h1 k1 e;cases t with
 |agg as=>
  cases u with
  |agg bs=>simpa [aM]using this
  |_=>simp only[dg]at h k;rw[h.1]at k;exact absurd k.1 (by simp)
 |_=>
  cases u with
  |agg bs=>simp only[dg]at h k;rw[k.1]at h;exact absurd h.1 (by simp)
  |_=>exact(List.cons.inj this).1
theorem Ox{k:TypeId}{shs:List Sh}{agg:Bool}(hk:fG P k=some (shs,agg)){t u:T}{x y:Value}{W':Nat->Prop}(ht:dg shs agg t)(hu:dg shs agg u)(hx:aR w W' t x)(hy:aR w W' u y):
  (Op.equal k x y).run P w=.ok (eZ t u) w:=by
 unfold fG at hk;split at hk
 ·rename_i d s hd hs;simp only[Zaa,Zar]at hk;obtain⟨rfl,rfl⟩:=hk;obtain⟨vs,rfl,h1⟩:=wV ht hx;obtain⟨us,rfl,h2⟩:=wV hu hy;rw[AI ht hu,wH (jl ht) (jl hu) h1 h2];exact pb 10000 k s d hs hd vs us w (gJ (jl ht) h1) (gJ (jl hu) h2)
 ·cases hk
theorem pq{k:TypeId}{shs:List Sh}{agg:Bool}(hk:fG P k=some (shs,agg)){t:T}{x:Value}{W':Nat->Prop}(ht:dg shs agg t)(hx:aR w W' t x)(em:Bool):
  (Instr.checkKey em 10000 k x).run P w=.ok () w:=by
 unfold fG at hk;split at hk
 ·rename_i d s hd hs;simp only[Zaa,Zar]at hk;obtain⟨rfl,rfl⟩:=hk;obtain⟨vs,rfl,h1⟩:=wV ht hx;exact wU em 10000 k s d hs hd vs w (gJ (jl ht) h1)
 ·cases hk
theorem MB{W':Nat->Prop}{shs:List Sh}{agg:Bool}{t:T}{v:Value}(hk:dg shs agg t)(hr:aR w W' t v):
  (∀k a,v=.int k a->t=.int k a)/\(∀s,v=.string s->t=.str s)/\(∀b,v=.bool b->t=.bool b):=by
 have bad:∀{x:T},df shs [x]->(∀s,DW s x=false)->False:=λh1 h2=>by
  obtain⟨s,_,hs⟩:=mg h1;rw[h2]at hs;cases hs
 cases t with
 |agg as=>simp only[aR]at hr;obtain⟨_,rfl,_⟩:=hr;exact⟨λ_ _ e=>(by cases e),λ_ e=>(by cases e),λ_ e=>(by cases e)⟩
 |int k a=>simp only[aR]at hr;subst hr;exact⟨λ_ _ e=>(by cases e;rfl),λ_ e=>(by cases e),λ_ e=>(by cases e)⟩
 |str a=>simp only[aR]at hr;subst hr;exact⟨λ_ _ e=>(by cases e),λ_ e=>(by cases e;rfl),λ_ e=>(by cases e)⟩
 |bool a=>simp only[aR]at hr;subst hr;exact⟨λ_ _ e=>(by cases e),λ_ e=>(by cases e),λ_ e=>(by cases e;rfl)⟩
 |_=>exact(bad hk.2 (λs=>by cases s<;>rfl)).elim
def foundAt(t:T)(es:List (Nat×T×DV))(xs:List MapEntry)(i:Nat):Option (Nat×Value):=
 match es.findIdx? λe=>eZ t e.2.1 with
 |some j=>(xs[j]?).map λe=>(i+j,e.val)
 |none=>none
theorem vi(t:T)(e:Nat×T×DV)(es:List (Nat×T×DV))(x:MapEntry)(xs:List MapEntry)(i:Nat):foundAt t (e::es) (x::xs) i=if eZ t e.2.1 then some (i,x.val)else foundAt t es xs (i+1):=by
 simp only[foundAt,Za3];by_cases h:eZ t e.2.1=true
 ·simp[h]
 ·simp only[h];cases List.findIdx? (λe=>eZ t e.2.1) es with
  |none=>simp
  |some j=>simp[show i+1+j=i+(j+1)by omega]
theorem yw{k:TypeId}{shs:List Sh}{agg:Bool}(hk:fG P k=some (shs,agg)){t:T}{x:Value}(ht:dg shs agg t)(hx:aR w (WW W objs L) t x):∀(es:List (Nat×T×DV)) (xs:List MapEntry) (i:Nat),bj w W objs L es xs->(∀e∈es,dg shs agg e.2.1)->
  (Instr.findAsking k x xs i).run P w=.ok (foundAt t es xs i) w
 |[],xs,i,h,_=>by simp only[bj]at h;subst h;simp[Instr.findAsking,foundAt]
 |e::es,xs,i,h,dH=>by
  simp only[bj]at h;obtain⟨y,ys,rfl,_,h2,_,h4⟩:=h;have:=Ox hk ht (dH e (by simp)) hx h2;rw[vi];simp only[Instr.findAsking,Sem.run_bind,this,Result.andThen_ok];cases eZ t e.2.1
  ·simpa using yw hk ht hx es ys (i+1) h4 λe he=>dH e (by simp[he])
  ·simp
theorem yx{k:TypeId}{shs:List Sh}{d:TypeDesc}(hd:P.underlying k=some d)(hs:jG P 10000 k=some shs){t:T}{x:Value}(ht:dg shs (bA d) t)(hx:aR w (WW W objs L) t x):∀(es:List (Nat×T×DV)) (xs:List MapEntry) (i:Nat),bj w W objs L es xs->(∀e∈es,dg shs (bA d) e.2.1)->
  Instr.findNow d x xs i=some (foundAt t es xs i)\/Instr.findNow d x xs i=none
 |[],xs,i,h,_=>by simp only[bj]at h;subst h;simp[Instr.findNow,foundAt]
 |e::es,xs,i,h,dH=>by
  simp only[bj]at h;obtain⟨y,ys,rfl,_,h2,_,h4⟩:=h;rw[vi];simp only[Instr.findNow];cases QX:Instr.sameNow d x y.key with
  |none=>right;rfl
  |some r=>
   have hr:r=eZ t e.2.1:=by
    have lx:=MB ht hx;have ly:=MB (dH e (by simp)) h2;unfold Instr.sameNow at QX;split at QX
    ·rename_i k1 a1 k2 a2 e2;split at QX
     ·rename_i Qi;subst Qi;simp only[Zaa]at QX;rw[lx.1 _ _ rfl,ly.1 _ _ e2,<-QX];simp only[eZ];by_cases h:a1=a2<;>simp[h]
     ·cases QX
    ·rename_i a1 a2 e2;simp only[Zaa]at QX;rw[lx.2.1 _ rfl,ly.2.1 _ e2,<-QX];simp only[eZ];by_cases h:a1=a2
     ·subst h;obtain⟨x⟩:=a1;simp only[decide_true];exact(show(x==x)=true by simp)
     ·simp only[h,decide_false];cases hb:a1==a2 with
      |false=>rfl
      |true=>exact absurd (by
        obtain⟨x⟩:=a1;obtain⟨y⟩:=a2;have e:x=y:=by simpa using(show(x==y)=true from hb)
        rw[e]) h
    ·rename_i a1 a2 e2;simp only[Zaa]at QX;rw[lx.2.2 _ rfl,ly.2.2 _ e2,<-QX];rfl
    ·cases QX
   subst hr;cases eZ t e.2.1
   ·exact yx hd hs ht hx es ys (i+1) h4 λe he=>dH e (by simp[he])
   ·simp
theorem sj{k:TypeId}{shs:List Sh}{agg:Bool}(hk:fG P k=some (shs,agg)){t:T}{x:Value}(ht:dg shs agg t)(hx:aR w (WW W objs L) t x){es:List (Nat×T×DV)}{xs:List MapEntry}(h:bj w W objs L es xs)(dH:∀e∈es,dg shs agg e.2.1):
  (Instr.findKey k x xs).run P w=.ok (foundAt t es xs 0) w:=by
 have ha:=yw hk ht hx es xs 0 h dH;unfold fG at hk;split at hk
 ·rename_i d s hd hs;simp only[Zaa,Zar]at hk;obtain⟨rfl,rfl⟩:=hk;unfold Instr.findKey;simp only[Sem.run_bind,run_underlying hd,Result.andThen_ok];rcases yx hd hs ht hx es xs 0 h dH with h1|h1
  ·rw[h1];simp
  ·rw[h1];exact ha
 ·cases hk
theorem bj.length:∀{es:List (Nat×T×DV)} {xs:List MapEntry},bj w W objs L es xs->xs.length=es.length
 |[],_,h=>by simp only[bj]at h;simp[h]
 |e::es,_,h=>by
  simp only[bj]at h;obtain⟨x,jI,rfl,_,_,_,h4⟩:=h;simp[bj.length h4]
theorem bj.get:∀{es:List (Nat×T×DV)} {xs:List MapEntry} {i:Nat} {e:Nat×T×DV},bj w W objs L es xs->es[i]? =some e->∃x,xs[i]? =some x/\x.born=e.1/\aR w (WW W objs L) e.2.1 x.key/\av w W objs L e.2.2 x.val
 |[],_,_,_,_,h=>by simp at h
 |e::es,_,0,_,hr,h=>by
  simp only[bj]at hr;obtain⟨x,jI,rfl,h1,h2,h3,_⟩:=hr;simp only[ZaG,Zaa]at h;subst h;exact⟨x,rfl,h1,h2,h3⟩
 |e::es,_,i+1,_,hr,h=>by
  simp only[bj]at hr;obtain⟨x,jI,rfl,_,_,_,h4⟩:=hr;simpa using bj.get h4 (by simpa using h)
theorem bj.append:∀{es es':List (Nat×T×DV)} {xs jI:List MapEntry},bj w W objs L es xs->bj w W objs L es' jI->bj w W objs L (es++es') (xs++jI)
 |[],_,_,_,h,k=>by simp only[bj]at h;subst h;simpa using k
 |e::es,_,_,_,h,k=>by
  simp only[bj]at h;obtain⟨x,xs1,rfl,h1,h2,h3,h4⟩:=h;simp only[ZaH,bj];exact⟨x,_,rfl,h1,h2,h3,bj.append h4 k⟩
theorem bj.modify{y:DV}{v:Value}(hy:av w W objs L y v):∀{es:List (Nat×T×DV)} {xs:List MapEntry} (i:Nat),bj w W objs L es xs->bj w W objs L (es.modify i λe=>(e.1,e.2.1,y)) (xs.modify i λe=>{e with val:=v})
 |[],_,i,h=>by simp only[bj]at h;subst h;simp[bj]
 |e::es,_,0,h=>by
  simp only[bj]at h;obtain⟨x,xs1,rfl,h1,h2,h3,h4⟩:=h;simp only[Zb3,bj];exact⟨_,_,rfl,h1,h2,hy,h4⟩
 |e::es,_,i+1,h=>by
  simp only[bj]at h;obtain⟨x,xs1,rfl,h1,h2,h3,h4⟩:=h;simp only[ZbN,bj];exact⟨_,_,rfl,h1,h2,h3,bj.modify hy i h4⟩
theorem bj.erase:∀{es:List (Nat×T×DV)} {xs:List MapEntry} (i:Nat),bj w W objs L es xs->bj w W objs L (es.eraseIdx i) (xs.eraseIdx i)
 |[],_,i,h=>by simp only[bj]at h;subst h;simp[bj]
 |e::es,_,0,h=>by
  simp only[bj]at h;obtain⟨x,xs1,rfl,h1,h2,h3,h4⟩:=h;simpa using h4
 |e::es,_,i+1,h=>by
  simp only[bj]at h;obtain⟨x,xs1,rfl,h1,h2,h3,h4⟩:=h;simp only[List.eraseIdx_cons_succ,bj];exact⟨_,_,rfl,h1,h2,h3,bj.erase i h4⟩
theorem vj{d:DV}{x:Value}{t:T}(h:av w W objs L d x)(hk:wC d=some t):aR w (WW W objs L) t x:=by
 cases d with
 |v t'=>simp only[wC,Zaa]at hk;subst hk;simpa only[av]using h
 |agg cs=>
  simp only[wC,Zab]at hk;obtain⟨ts,P3,rfl⟩:=hk;simp only[av]at h;obtain⟨vs,rfl,hr⟩:=h;simp only[aR];refine⟨vs,rfl, ?_⟩;have key:∀(cs:List DV) (ts:List T) (vs:List Value),Jq cs=some ts->aK w W objs L cs vs->aP w (WW W objs L) ts vs:=by
   intro cs;induction cs with
   |nil=>intro ts vs h1 h2;simp only[Jq,Zaa]at h1;subst h1;simpa [aK,aP]using h2
   |cons c cs ih=>
    intro ts vs h1 h2;cases c with
    |v u=>
     simp only[Jq,Zab]at h1;obtain⟨us,hus,rfl⟩:=h1;simp only[aK]at h2;obtain⟨y,ys,rfl,k1,k2,k3⟩:=h2;simp only[aP];exact⟨y,ys,rfl,k1,by simpa only[av]using k2,ih us ys hus k3⟩
    |_=>simp[Jq]at h1
  exact key cs ts _ P3 hr
 |_=>simp[wC]at hk
def Obj.YU:Obj->Prop
 |.cells _ _ _=>False
 |_=>True
theorem ba_beq(s:ByteArray):(s==s)=true:=by
 obtain⟨x⟩:=s;exact(show(x==x)=true by simp)
theorem eK{b:Nat}{x:Obj}(h:w.heap[b]? =some x)(hx:Obj.YU x):(getObj b).run P w=.ok x w:=by
 cases x<;>first|exact hx.elim|simp[getObj,Sem.run,h]
def _root_.Go.World.fk(w:World)(b:Nat)(x:Obj):World:={w with heap:=w.heap.setIfInBounds b x}
theorem mP{b:Nat}{x y:Obj}(h:w.heap[b]? =some x)(hx:Obj.YU x):(setObj b y).run P w=.ok () (w.fk b y):=by
 cases x<;>first|exact hx.elim|simp[setObj,Sem.run,h,World.fk]
theorem yy{b:Nat}{x y:Obj}(h:w.heap[b]? =some x):(w.fk b y).heap[b]? =some y:=by
 have cW:b<w.heap.size:=(Zai.1 h).1;simp[World.fk,cW]
theorem pr{b k:Nat}{y:Obj}(h:k≠b):(w.fk b y).heap[k]? =w.heap[k]? :=by simp[World.fk,Ne.symm h]
theorem ru{b:Nat}{y:Obj}:(w.fk b y).heap.size=w.heap.size:=by simp[World.fk]
theorem C0{g:Nat}(x:Obj)(h:Fr base M w0 w)(hg:base<=g\/M g):Fr base M w0 (w.fk g x):=
 ⟨h.os,h.tape,h.output,h.gZ,by rw[ru];exact h.size,λk hk hm=>by
  rw[pr (by
    rintro rfl;rcases hg with h1|h1;·omega
    exact hm h1)]
  exact h.block k hk hm,h.drawn⟩
theorem pw(hO:bK base W M w0 objs w L){r c c':Nat}{shs shs':List Sh}{agg agg':Bool}{es es':List (Nat×T×DV)}(hc:objs r=some (.map shs agg c es)){arr':Array MapEntry}
  (hr:bj w W objs L es' arr'.toList) (h1:∀e∈es',dg shs' agg' e.2.1) (h2:∀e∈es',e.1<c') (h3:(es'.map (·.1)).Nodup):
  bK base W M w0 (bR objs (some (r,.map shs' agg' c' es'))) (w.fk (L.gU r) (.map arr' c')) L/\iW W objs L w (bR objs (some (r,.map shs' agg' c' es'))) L (w.fk (L.gU r) (.map arr' c')):=by
 obtain⟨arr,hh,_,_,_,_,hm⟩:=hO.ob r _ hc;refine bK.put hO (C0 _ hO.fr hm) (by rw[ru];exact Zae _) (λ_ _=>⟨rfl,rfl⟩) rfl (λb _ hb=>pr (λx=>hb _ hc (by simp[Loc.own,x])))
  (λb hb=>.inl ⟨_,hc,hb⟩) (λo' fY _=>by rw[hc]at fY;cases fY;exact⟨rfl,rfl⟩) (λver e sz rows h=>by rw[hc]at h;cases h) (λdZ=>?_)
 exact⟨arr',yy hh,bj.dZ dZ _ _ hr,h1,h2,h3,hm⟩
theorem sameBits_self:∀{shs:List Sh} {ts:List T} {vs:List Value} {W':Nat->Prop} (n:Nat),df shs ts->aP w W' ts vs->(vs.zip vs).all (λx=>Instr.sameBits n x.1 x.2)=true
 |[],ts,vs,W',n,h,hr=>by simp only[df]at h;subst h;simp only[aP]at hr;subst hr;rfl
 |s::ss,[],_,_,_,h,_=>by simp[df]at h
 |s::ss,t::ts,vs,W',n,h,hr=>by
  simp only[df]at h;simp only[aP]at hr;obtain⟨v,gW,rfl,_,h1,h2⟩:=hr;simp only[List.zip_cons_cons,ZcB,Zam];refine⟨?_,sameBits_self n h.2 h2⟩;have hs:=h.1;cases s<;>cases t<;>first|exact absurd hs Zaz|skip
  all_goals (simp only[aR]at h1;subst h1;cases n<;>simp[Instr.sameBits,ba_beq])
theorem GD{shs:List Sh}{agg:Bool}{t:T}{x:Value}{W':Nat->Prop}(h:dg shs agg t)(hr:aR w W' t x):Instr.sameBits 10000 x x=true:=by
 cases t with
 |agg as=>
  simp only[dg]at h;simp only[aR]at hr;obtain⟨vs,rfl,hr⟩:=hr;simp only[Instr.sameBits,beq_self_eq_true,Zcj];exact sameBits_self 9999 h.2 hr
 |_=>
  simp only[dg]at h;obtain⟨s,rfl,hs⟩:=mg h.2;have h1:x.oneCell'=true:=by cases s<;>first|exact absurd hs Zaz|(simp only[aR]at hr;subst hr;rfl)
  have:=sameBits_self (w:=w) (W':=W') 10000 h.2 (vs:=[x]) (by simp only[aP];exact⟨x,[],rfl,h1,hr,rfl⟩);simpa using this
theorem C1:∀{shs:List Sh} {ts:List T} {vs us:List Value} {W':Nat->Prop},df shs ts->aP w W' ts vs->aP w W' ts us->vs=us
 |[],ts,vs,us,W',h,h1,h2=>by simp only[df]at h;subst h;simp only[aP]at h1 h2;rw[h1,h2]
 |s::ss,[],_,_,_,h,_,_=>by simp[df]at h
 |s::ss,t::ts,vs,us,W',h,h1,h2=>by
  simp only[df]at h;simp only[aP]at h1 h2;obtain⟨v,gW,rfl,_,k1,k2⟩:=h1;obtain⟨u,us',rfl,_,l1,l2⟩:=h2;have hs:=h.1;rw[C1 h.2 k2 l2]
  congr 1
  cases s<;>cases t<;>first|exact absurd hs Zaz|skip
  all_goals (simp only[aR]at k1 l1;rw[k1,l1])
theorem MC{shs:List Sh}{agg:Bool}{t:T}{x y:Value}{W':Nat->Prop}(h:dg shs agg t)(hx:aR w W' t x)(hy:aR w W' t y):x=y:=by
 cases t with
 |agg as=>
  simp only[dg]at h;simp only[aR]at hx hy;obtain⟨vs,rfl,hx⟩:=hx;obtain⟨us,rfl,hy⟩:=hy;have:=C1 h.2 hx hy;rw[Array.toList_inj.1 this]
 |_=>
  simp only[dg]at h;obtain⟨s,rfl,hs⟩:=mg h.2;cases s<;>first|exact absurd hs Zaz|(simp only[aR]at hx hy;rw[hx,hy])
end
end Go.DM
namespace Go.DM
open Go.RowKit
variable [Laid]
section
variable{P:Program}{base:Nat}{W M:Nat->Prop}{w0:World}{objs:aU}{L:Loc}{w:World}{a:Act}{o:Oper}
theorem C2{et:TypeId}{z:DV}(h:CG P et=some z):∃zv,(zeroValue et).run P w=.ok zv w/\av w W objs L z zv:=by
 unfold CG at h;simp only[Zaf,Zac]at h;obtain⟨i,hi,zv,hz,h⟩:=h;refine⟨zv,by simp[zeroValue,typeInfo,hi,hz], ?_⟩;split at h
 ·rename_i cs;simp only[Zab]at h;obtain⟨ds,hds,rfl⟩:=h;simp only[av];exact⟨cs,rfl,gz hds⟩
 ·exact(tC h).1
theorem vk(t:T)(es:List (Nat×T×DV)):oq t es=(es.findIdx? λe=>eZ t e.2.1).bind (es[·]?):=by
 unfold oq;induction es with
 |nil=>rfl
 |cons e es ih=>
  simp only[ZaM,Za3];by_cases h:eZ t e.2.1=true
  ·simp[h]
  ·simp only[h,ih];cases List.findIdx? (λe=>eZ t e.2.1) es<;>simp
theorem Ex{t:T}{es:List (Nat×T×DV)}{i:Nat}(h:(es.findIdx? λe=>eZ t e.2.1)=some i):∃e,es[i]? =some e/\eZ t e.2.1=true:=by
 induction es generalizing i with
 |nil=>simp at h
 |cons e es ih=>
  simp only[Za3]at h;by_cases he:eZ t e.2.1=true
  ·simp only[he,if_true,Zaa]at h;subst h;exact⟨e,rfl,he⟩
  ·rw[if_neg he,Zab]at h;obtain⟨j,hj,rfl⟩:=h;simpa using ih hj
theorem D9(hO:bK base W M w0 objs w L){t kt et:TypeId}{x k:Operand}{ok:Bool}(ho:o.op=.lookup t x k ok)(ht:P.underlying t=some (.map kt et)){shs:List Sh}{agg:Bool}(hk:fG P kt=some (shs,agg)){z:DV}(hz:CG P et=some z)
  {d1 d2:DV} (h1:av w W objs L d1 (a.eval x)) (h2:av w W objs L d2 (a.eval k)) (aF:(kx shs agg z ok objs d1 d2).ok):bQ P base W M w0 objs L w a o (kx shs agg z ok objs d1 d2):=by
 unfold kx at aF⊢;split at aF
 ·rename_i r QY QZ;cases hc:objs r with
  |none=>simp[hc,bad]at aF
  |some ob=>
   cases ob with
   |map shs' agg' c es=>
    simp only[hc]at aF⊢;obtain⟨rfl,rfl,px⟩:=aF;simp only[av]at h1;obtain⟨_,hx⟩:=h1;have tQ:=vj h2 QZ;obtain⟨arr,hh,oT,dH,_,_,_⟩:=hO.ob r _ hc;have wu:=λem=>pq (P:=P) (w:=w) hk px tQ em;have hf:=sj (P:=P) hk px tQ oT dH;have hg:=eK (P:=P) hh trivial;simp only[QZ];rw[vk];unfold foundAt at hf;cases hi:es.findIdx? (λe=>eZ QY e.2.1)with
    |none=>
     simp only[hi]at hf;obtain⟨zv,WO,hzd⟩:=C2 (P:=P) (w:=w) (W:=W) (objs:=objs) (L:=L) hz;simp only[Option.bind_none];have bz:(Instr.lookup t (.map (some (L.gU r))) (a.eval k) ok).run P w=.ok (if ok then .tuple #[zv,.bool false]else zv) w:=by
      simp[Instr.lookup,run_underlying ht,hg,wu,hf,WO]
     refine bQ.quiet hO rfl (v:=if ok then .tuple #[zv,.bool false]else zv) (by simp[execOp,ho,hx,bz]) ?_;cases ok
     ·simpa using hzd
     ·simp only[if_true,av];exact⟨_,rfl,by simp only[eW];exact⟨zv,_,rfl,hzd,.bool false,[],rfl,by simp[av,aR],rfl⟩⟩
    |some i=>
     obtain⟨e,he,hq⟩:=Ex hi;obtain⟨xe,Az,_,_,hv⟩:=bj.get oT he;simp only[hi,Az,Za0]at hf;simp only[Zb7,he];have bz:(Instr.lookup t (.map (some (L.gU r))) (a.eval k) ok).run P w=.ok (if ok then .tuple #[xe.val,.bool true]else xe.val) w:=by
      simp[Instr.lookup,run_underlying ht,hg,wu,hf]
     refine bQ.quiet hO rfl (v:=if ok then .tuple #[xe.val,.bool true]else xe.val) (by simp[execOp,ho,hx,bz]) ?_;cases ok
     ·simpa using hv
     ·simp only[if_true,av];exact⟨_,rfl,by simp only[eW];exact⟨xe.val,_,rfl,hv,.bool true,[],rfl,by simp[av,aR],rfl⟩⟩
   |_=>simp[hc,bad]at aF
 ·exact aF.elim
theorem vm{es:List (Nat×T×DV)}{y:DV}(i:Nat):(es.modify i λe=>(e.1,e.2.1,y)).map (·.1)=es.map (·.1):=by
 induction es generalizing i with
 |nil=>simp
 |cons e es ih=>cases i<;>simp[ih]
theorem nr{es:List (Nat×T×DV)}{y:DV}(i:Nat){e:Nat×T×DV}(h:e∈es.modify i λe=>(e.1,e.2.1,y)):∃e'∈es,e.1=e'.1/\e.2.1=e'.2.1:=by
 induction es generalizing i with
 |nil=>simp at h
 |cons e0 es ih=>
  cases i with
  |zero=>
   simp only[Zb3,Zag]at h;rcases h with rfl|h
   ·exact⟨e0,by simp,rfl,rfl⟩
   ·exact⟨e,by simp[h],rfl,rfl⟩
  |succ i=>
   simp only[ZbN,Zag]at h;rcases h with rfl|h
   ·exact⟨e,by simp,rfl,rfl⟩
   ·obtain⟨e',h1,h2⟩:=ih i h;exact⟨e',by simp[h1],h2⟩
theorem J1{es:List (Nat×T×DV)}{xs:List MapEntry}{i:Nat}{v key:Value}{x:MapEntry}(hx:xs[i]? =some x)(hk:x.key=key):(xs.modify i λe=>{e with key:=key,val:=v})=xs.modify i λe=>{e with val:=v}:=by
 induction xs generalizing i with
 |nil=>simp
 |cons y ys ih=>
  cases i with
  |zero=>
   simp only[ZaG,Zaa]at hx;subst hx hk;simp
  |succ i=>
   simp only[ZbN,Za5,true_and];exact ih (by simpa using hx)
theorem Ea(hO:bK base W M w0 objs w L){t kt et:TypeId}{x k y:Operand}(ho:o.op=.mapUpdate t x k y)(ht:P.underlying t=some (.map kt et)){shs:List Sh}{agg:Bool}(hk:fG P kt=some (shs,agg))
  {d1 d2 d3:DV} (h1:av w W objs L d1 (a.eval x)) (h2:av w W objs L d2 (a.eval k)) (h3:av w W objs L d3 (a.eval y)) (aF:(gG shs agg objs d1 d2 d3).ok):bQ P base W M w0 objs L w a o (gG shs agg objs d1 d2 d3):=by
 unfold gG at aF⊢;split at aF
 ·rename_i r QY QZ;cases hc:objs r with
  |none=>simp[hc,bad]at aF
  |some ob=>
   cases ob with
   |map shs' agg' c es=>
    simp only[hc]at aF⊢;obtain⟨rfl,rfl,px,hb⟩:=aF;simp only[av]at h1;obtain⟨_,hx⟩:=h1;have tQ:=vj h2 QZ;obtain⟨arr,hh,oT,dH,cW,yX,hm⟩:=hO.ob r _ hc;have wu:=λem=>pq (P:=P) (w:=w) hk px tQ em;have hf:=sj (P:=P) hk px tQ oT dH;have hg:=eK (P:=P) hh trivial;have hs:=λy=>mP (P:=P) (y:=y) hh trivial;simp only[QZ];unfold foundAt at hf;unfold DX mw;cases hi:es.findIdx? (λe=>eZ QY e.2.1)with
    |none=>
     simp only[hi]at hf;simp only;have bz:(Instr.mapUpdate t (.map (some (L.gU r))) (a.eval k) (a.eval y)).run P w=.ok () (w.fk (L.gU r) (.map (arr.push {key:=a.eval k,val:=a.eval y,born:=c}) (c+1))):=by
      simp[Instr.mapUpdate,run_underlying ht,hg,wu,hf,hs]
     have:=pw hO hc (shs':=shs') (agg':=agg') (c':=c+1) (es':=es++[(c,QY,d3)]) (arr':=arr.push {key:=a.eval k,val:=a.eval y,born:=c})
      (by rw[Array.toList_push];exact bj.append oT (by simp only[bj];exact⟨_,_,rfl,rfl,tQ,h3,rfl⟩))
      (λe he=>by
        rcases Zao.1 he with he|he;·exact dH e he
        ·simp only[Zah]at he;subst he;exact px)
      (λe he=>by
        rcases Zao.1 he with he|he;·have:=cW e he;omega
        ·simp only[Zah]at he;subst he;simp)
      (by rw[ZaO,ZbP];exact⟨yX,by simp,λb hb b2 kU=>by
         simp only[Zau,ZbX,Zah]at kU;obtain⟨e,he,rfl⟩:=Zal.1 hb;have:=cW e he;omega⟩)
     exact⟨.skip,Go.undef,_,L,by simp[execOp,ho,hx,bz],.inr ⟨rfl,rfl⟩,this.1,this.2,by simp[av]⟩
    |some i=>
     obtain⟨e,he,hq⟩:=Ex hi;obtain⟨xe,Az,_,hxk,hv⟩:=bj.get oT he;simp only[hi,Az,Za0]at hf;have hte:QY=e.2.1:=key_inj px (dH e (Zaq he)) hq;have J2:xe.key=a.eval k:=MC px (by rw[hte];exact hxk) tQ;have hkts:(Instr.keyThatStays xe.key (a.eval k)).run P w=.ok (a.eval k) w:=by
      rw[J2];simp[Instr.keyThatStays,GD px tQ]
     have hai:arr[i]? =some xe:=by simpa using Az
     have bz:(Instr.mapUpdate t (.map (some (L.gU r))) (a.eval k) (a.eval y)).run P w=.ok () (w.fk (L.gU r) (.map (arr.modify i λe=>{e with key:=a.eval k,val:=a.eval y}) c)):=by
      simp[Instr.mapUpdate,run_underlying ht,hg,wu,hf,hs,hai,hkts]
     have Jr:(arr.modify i λe=>{e with key:=a.eval k,val:=a.eval y}).toList=arr.toList.modify i λe=>{e with val:=a.eval y}:=by
      rw[Zcs];exact J1 (es:=es) (by simpa using hai) J2
     simp only;have:=pw hO hc (shs':=shs') (agg':=agg') (c':=c) (es':=es.modify i λe=>(e.1,e.2.1,d3)) (arr':=arr.modify i λe=>{e with key:=a.eval k,val:=a.eval y})
      (by rw[Jr];exact bj.modify h3 i oT)
      (λe he=>by obtain⟨e',h1,_,h2⟩:=nr i he;rw[h2];exact dH e' h1)
      (λe he=>by obtain⟨e',h1,h2,_⟩:=nr i he;rw[h2];exact cW e' h1)
      (by rw[vm];exact yX)
     exact⟨.skip,Go.undef,_,L,by simp[execOp,ho,hx,bz],.inr ⟨rfl,rfl⟩,this.1,this.2,by simp[av]⟩
   |_=>simp[hc,bad]at aF
 ·exact aF.elim
theorem Eb(hO:bK base W M w0 objs w L){t kt et:TypeId}{x k:Operand}(ho:o.op=.mapEntry t x k)(ht:P.underlying t=some (.map kt et)){shs:List Sh}{agg:Bool}(hk:fG P kt=some (shs,agg)){z:DV}(hz:CG P et=some z)
  {d1 d2:DV} (h1:av w W objs L d1 (a.eval x)) (h2:av w W objs L d2 (a.eval k)) (aF:(gH shs agg z objs d1 d2).ok):bQ P base W M w0 objs L w a o (gH shs agg z objs d1 d2):=by
 unfold gH at aF⊢;split at aF
 ·rename_i r QY QZ;cases hc:objs r with
  |none=>simp[hc,bad]at aF
  |some ob=>
   cases ob with
   |map shs' agg' c es=>
    simp only[hc]at aF⊢;obtain⟨rfl,rfl,px⟩:=aF;simp only[av]at h1;obtain⟨_,hx⟩:=h1;have tQ:=vj h2 QZ;obtain⟨arr,hh,oT,dH,cW,yX,hm⟩:=hO.ob r _ hc;have wu:=λem=>pq (P:=P) (w:=w) hk px tQ em;have hf:=sj (P:=P) hk px tQ oT dH;have hg:=eK (P:=P) hh trivial;have hs:=λy=>mP (P:=P) (y:=y) hh trivial;simp only[QZ];unfold WJ;rw[vk];unfold foundAt at hf;unfold WI mw;cases hi:es.findIdx? (λe=>eZ QY e.2.1)with
    |none=>
     simp only[hi]at hf;obtain⟨zv,WO,hzd⟩:=C2 (P:=P) (w:=w) (W:=W) (objs:=objs) (L:=L) hz;simp only[Option.bind_none];have bz:(Instr.mapEntry t (.map (some (L.gU r))) (a.eval k)).run P w=.ok (.tuple #[zv,goInt c]) (w.fk (L.gU r) (.map (arr.push {key:=a.eval k,val:=zv,born:=c}) (c+1))):=by
      simp[Instr.mapEntry,run_underlying ht,hg,wu,hf,hs,WO]
     have:=pw hO hc (shs':=shs') (agg':=agg') (c':=c+1) (es':=es++[(c,QY,z)]) (arr':=arr.push {key:=a.eval k,val:=zv,born:=c})
      (by rw[Array.toList_push];exact bj.append oT (by simp only[bj];exact⟨_,_,rfl,rfl,tQ,hzd,rfl⟩))
      (λe he=>by
        rcases Zao.1 he with he|he;·exact dH e he
        ·simp only[Zah]at he;subst he;exact px)
      (λe he=>by
        rcases Zao.1 he with he|he;·have:=cW e he;omega
        ·simp only[Zah]at he;subst he;simp)
      (by rw[ZaO,ZbP];exact⟨yX,by simp,λb hb b2 kU=>by
         simp only[Zau,ZbX,Zah]at kU;obtain⟨e,he,rfl⟩:=Zal.1 hb;have:=cW e he;omega⟩)
     refine⟨.value (.tuple #[zv,goInt c]),.tuple #[zv,goInt c],_,L,by simp[execOp,ho,hx,bz],.inl rfl,this.1,this.2, ?_⟩;have Xh:=av.dZ this.2 _ _ hzd;simp only[av];exact⟨_,rfl,by simp only[eW];exact⟨zv,_,rfl,Xh,goInt c,[],rfl,by simp[av,aR,goInt],rfl⟩⟩
    |some i=>
     obtain⟨e,he,hq⟩:=Ex hi;obtain⟨xe,Az,MD,hxk,hv⟩:=bj.get oT he;simp only[hi,Az,Za0]at hf;have hte:QY=e.2.1:=key_inj px (dH e (Zaq he)) hq;have J2:xe.key=a.eval k:=MC px (by rw[hte];exact hxk) tQ;have hkts:(Instr.keyThatStays xe.key (a.eval k)).run P w=.ok (a.eval k) w:=by
      rw[J2];simp[Instr.keyThatStays,GD px tQ]
     have hai:arr[i]? =some xe:=by simpa using Az
     have Jr:(arr.modify i λe=>{e with key:=a.eval k}).toList=arr.toList:=by
      rw[Zcs];apply Zbk;intro j;rw[List.getElem?_modify];split
      ·rename_i hj;subst hj;rw[Az];simp[<-J2]
      ·simp
     have bz:(Instr.mapEntry t (.map (some (L.gU r))) (a.eval k)).run P w=.ok (.tuple #[xe.val,goInt xe.born]) (w.fk (L.gU r) (.map (arr.modify i λe=>{e with key:=a.eval k}) c)):=by
      simp[Instr.mapEntry,run_underlying ht,hg,wu,hf,hs,hai,hkts]
     have:=pw hO hc (shs':=shs') (agg':=agg') (c':=c) (es':=es) (arr':=arr.modify i λe=>{e with key:=a.eval k})
      (by rw[Jr];exact oT) dH cW yX
     simp only[Zb7,he];refine⟨.value (.tuple #[xe.val,goInt xe.born]),.tuple #[xe.val,goInt xe.born],_,L,by simp[execOp,ho,hx,bz],.inl rfl,this.1,this.2, ?_⟩;have Xh:=av.dZ this.2 _ _ hv;simp only[av];exact⟨_,rfl,by simp only[eW];exact⟨xe.val,_,rfl,Xh,goInt xe.born,[],rfl,by simp[av,aR,goInt,MD],rfl⟩⟩
   |_=>simp[hc,bad]at aF
 ·exact aF.elim
theorem Q0{es:List (Nat×T×DV)}{xs:List MapEntry}{b:Int}(h:bj w W objs L es xs):xs.findIdx? (λe=>(e.born:Int)==b)=es.findIdx? (λe=>(e.1:Int)==b):=by
 induction es generalizing xs with
 |nil=>simp only[bj]at h;subst h;rfl
 |cons e es ih=>
  simp only[bj]at h;obtain⟨x,jI,rfl,hb,_,_,hr⟩:=h;simp only[Za3,ih hr,hb]
theorem Gg(hO:bK base W M w0 objs w L){t:TypeId}{x s y:Operand}(ho:o.op=.entryStore t x s y)
  {d1 d2 d3:DV} (h1:av w W objs L d1 (a.eval x)) (h2:av w W objs L d2 (a.eval s)) (h3:av w W objs L d3 (a.eval y)) (aF:(je objs d1 d2 d3).ok):bQ P base W M w0 objs L w a o (je objs d1 d2 d3):=by
 unfold je at aF⊢;split at aF
 ·rename_i r kk b;cases hc:objs r with
  |none=>simp[hc,bad]at aF
  |some ob=>
   cases ob with
   |map shs agg c es=>
    simp only[hc]at aF⊢;simp only[av,aR]at h1 h2;obtain⟨_,hx⟩:=h1;obtain⟨arr,hh,oT,dH,cW,yX,hm⟩:=hO.ob r _ hc;have hg:=eK (P:=P) hh trivial;have hs:=λy=>mP (P:=P) (y:=y) hh trivial;unfold WK at aF⊢;cases hi:es.findIdx? (λe=>(e.1:Int)==b)with
    |none=>simp[hi,bad]at aF
    |some i=>
     simp only[Za0];have hbi:=(Q0 (b:=b) oT).trans hi;have hbi':arr.findIdx? (λe=>(e.born:Int)==b)=some i:=by rw[<-hbi];cases arr;simp
     have bz:(Instr.entryStore t (.map (some (L.gU r))) (.int kk b) (a.eval y)).run P w=.ok () (w.fk (L.gU r) (.map (arr.modify i λe=>{e with val:=a.eval y}) c)):=by
      simp[Instr.entryStore,hg,hs,asInt,asIntOf,hbi']
     have:=pw hO hc (shs':=shs) (agg':=agg) (c':=c) (es':=es.modify i λe=>(e.1,e.2.1,d3)) (arr':=arr.modify i λe=>{e with val:=a.eval y})
      (by rw[Zcs];exact bj.modify h3 i oT)
      (λe he=>by obtain⟨e',h1,_,h2⟩:=nr i he;rw[h2];exact dH e' h1)
      (λe he=>by obtain⟨e',h1,h2,_⟩:=nr i he;rw[h2];exact cW e' h1)
      (by rw[vm];exact yX)
     exact⟨.skip,Go.undef,_,L,by simp[execOp,ho,hx,h2,bz],.inr ⟨rfl,rfl⟩,this.1,this.2,by simp[av]⟩
   |_=>simp[hc,bad]at aF
 ·exact aF.elim
theorem Ee(hO:bK base W M w0 objs w L){t kt et:TypeId}{x k:Operand}{ts:Array TypeId}(P3:ts[0]? =some t)(ho:o.op=.call {callee:=.builtin .delete,args:= #[x,k],argTypes:=ts})(ht:P.underlying t=some (.map kt et)){shs:List Sh}{agg:Bool}(hk:fG P kt=some (shs,agg))
  {d1 d2:DV} (h1:av w W objs L d1 (a.eval x)) (h2:av w W objs L d2 (a.eval k)) (aF:(gI shs agg objs d1 d2).ok):bQ P base W M w0 objs L w a o (gI shs agg objs d1 d2):=by
 unfold gI at aF⊢;split at aF
 ·rename_i r QY QZ;cases hc:objs r with
  |none=>simp[hc,bad]at aF
  |some ob=>
   cases ob with
   |map shs' agg' c es=>
    simp only[hc]at aF⊢;obtain⟨rfl,rfl,px⟩:=aF;simp only[av]at h1;obtain⟨_,hx⟩:=h1;have tQ:=vj h2 QZ;obtain⟨arr,hh,oT,dH,cW,yX,hm⟩:=hO.ob r _ hc;have wu:=λem=>pq (P:=P) (w:=w) hk px tQ em;have hf:=sj (P:=P) hk px tQ oT dH;have hg:=eK (P:=P) hh trivial;have hs:=λy=>mP (P:=P) (y:=y) hh trivial;simp only[QZ];unfold foundAt at hf;unfold WH;cases hi:es.findIdx? (λe=>eZ QY e.2.1)with
    |none=>
     simp only[hi]at hf;simp only;have:=pw hO hc (shs':=shs') (agg':=agg') (c':=c) (es':=es) (arr':=arr) oT dH cW yX;refine⟨.value (.tuple #[]),.tuple #[],_,L, ?_,.inl rfl,this.1,this.2,by simp only[av,aR,dt];exact⟨_,rfl,rfl⟩⟩;simp[execOp,ho,resolve,invoke,builtin,Builtin.delete_,P3,hx,run_underlying ht,hg,wu,hf,hs]
    |some i=>
     obtain⟨e,he,hq⟩:=Ex hi;obtain⟨xe,Az,_,hxk,hv⟩:=bj.get oT he;simp only[hi,Az,Za0]at hf;have Jr:(arr.eraseIdxIfInBounds i).toList=arr.toList.eraseIdx i:=by
      have:i<arr.size:=by have:=(Zas.1 Az).1;simpa using this
      unfold Array.eraseIdxIfInBounds;simp[this]
     simp only;have:=pw hO hc (shs':=shs') (agg':=agg') (c':=c) (es':=es.eraseIdx i) (arr':=arr.eraseIdxIfInBounds i)
      (by rw[Jr];exact bj.erase i oT)
      (λe he=>dH e (Zce he))
      (λe he=>cW e (Zce he))
      (List.Sublist.nodup ((List.eraseIdx_sublist _ _).map _) yX)
     refine⟨.value (.tuple #[]),.tuple #[],_,L, ?_,.inl rfl,this.1,this.2,by simp only[av,aR,dt];exact⟨_,rfl,rfl⟩⟩;simp[execOp,ho,resolve,invoke,builtin,Builtin.delete_,P3,hx,run_underlying ht,hg,wu,hf,hs]
   |_=>simp[hc,bad]at aF
 ·exact aF.elim
theorem JA(hO:bK base W M w0 objs w L){x:Operand}{t kt et:TypeId}(ho:o.op=.call {callee:=.builtin .len,args:= #[x],argTypes:= #[t]})(ht:P.underlying t=some (.map kt et)){d:DV}(h:av w W objs L d (a.eval x))(aF:(o6 objs d).ok):
  bQ P base W M w0 objs L w a o (o6 objs d):=by
 unfold o6 at aF⊢;split at aF
 ·rename_i r;cases hc:objs r with
  |none=>simp[hc,bad]at aF
  |some ob=>
   cases ob with
   |map shs agg c es=>
    simp only[av]at h;obtain⟨_,hx⟩:=h;obtain⟨arr,hh,oT,_⟩:=hO.ob r _ hc;have hg:=eK (P:=P) hh trivial;have hl:=bj.length oT;simp only[ZaT]at hl;refine bQ.int hO rfl rfl ?_;simp[execOp,ho,resolve,invoke,builtin,hx,Builtin.len_,run_underlying ht,goInt,hg,hl]
   |_=>simp[hc,bad]at aF
 ·exact aF.elim
theorem Gf(hO:bK base W M w0 objs w L){name:Nat}(du:objs name=none){t:TypeId}(ho:o.op=.makeMap t none)(shs:List Sh)(agg:Bool):
  bQ P base W M w0 objs L w a o ⟨True,.iq name,some (name,.map shs agg 0 [])⟩:=by
 have hb:=jv (w:=w) (.map #[] 0);have h:=bK.put hO (r:=name) (L':=L.fz name w.heap.size) (o':=.map shs agg 0 []) (uJ hO.fr hb) hb.size (λx hx=>⟨by simp[Loc.fz,hx],rfl⟩) rfl (λb cW _=>hb.block b cW) (λb h=>.inr (by
   simp only[Loc.own,Loc.fz,if_true,Zaa]at h;omega))
  (λo' h _=>by rw[du]at h;cases h) (λ_ _ _ _ h=>by rw[du]at h;cases h) (λdZ=>by
   refine⟨#[], ?_,by simp[bj],by simp,by simp,by simp,.inl ?_⟩
   ·simp only[Loc.fz,if_true];exact heap_alloc_new w _
   ·simp only[Loc.fz,if_true];exact ZaE hO.fr.gZ hO.fr.size)
 refine⟨_,.map (some w.heap.size),_,_, ?_,.inl rfl,h.1,h.2, ?_⟩
 ·simp[execOp,ho,Instr.makeMap]
 ·simp only[av];exact⟨⟨shs,agg,0,[],by simp[bR]⟩,by simp[Loc.fz]⟩
theorem Ec(hO:bK base W M w0 objs w L){name:Nat}(du:objs name=none){x:Operand}{t kt et:TypeId}(ho:o.op=.range t x)(ht:P.underlying t=some (.map kt et)){d:DV}(h:av w W objs L d (a.eval x))(aF:(jt name objs d).ok):
  bQ P base W M w0 objs L w a o (jt name objs d):=by
 unfold jt at aF⊢;split at aF
 ·rename_i r;cases hc:objs r with
  |none=>simp[hc,bad]at aF
  |some ob=>
   cases ob with
   |map shs agg c es=>
    simp only[av]at h;obtain⟨Jb,hx⟩:=h;obtain⟨arr,hh,oT,_⟩:=hO.ob r _ hc;have hg:=eK (P:=P) hh trivial;have bG:r≠name:=λe=>by rw[e,du]at hc;cases hc
    have hb:=jv (w:=w) (.mapIter (some (L.gU r)) c #[] c);have h:=bK.put hO (r:=name) (L':=L.fz name w.heap.size) (o':=.iter r c [] c) (uJ hO.fr hb) hb.size (λx hx=>⟨by simp[Loc.fz,hx],rfl⟩) rfl (λb cW _=>hb.block b cW) (λb h=>.inr (by
      simp only[Loc.own,Loc.fz,if_true,Zaa]at h;omega))
     (λo' h _=>by rw[du]at h;cases h) (λ_ _ _ _ h=>by rw[du]at h;cases h) (λdZ=>by
      refine⟨?_,⟨shs,agg,c,es,by simp[bR,bG,hc]⟩,.inl ?_⟩
      ·simp only[Loc.fz,if_true,bG,if_false];exact heap_alloc_new w _
      ·simp only[Loc.fz,if_true];exact ZaE hO.fr.gZ hO.fr.size)
    simp only[];refine⟨_,.pointer (some ⟨w.heap.size,0,none⟩),_,_, ?_,.inl rfl,h.1,h.2, ?_⟩
    ·simp[execOp,ho,Instr.range,hx,run_underlying ht,hg]
    ·simp only[av];exact⟨⟨r,c,[],c,by simp[bR]⟩,by simp[Loc.fz]⟩
   |_=>simp[hc,bad]at aF
 ·exact aF.elim
theorem AJ{b:Nat}:∀{es:List (Nat×T×DV)} {xs:List MapEntry},bj w W objs L es xs->∀{e:Nat×T×DV},(es.find? λe=>e.1==b)=some e->∃x,(xs.find? λx=>x.born==b)=some x/\aR w (WW W objs L) e.2.1 x.key/\av w W objs L e.2.2 x.val
 |[],_,_,e,h=>by simp at h
 |e0::es,xs,hr,e,h=>by
  simp only[bj]at hr;obtain⟨x,jI,rfl,h1,h2,h3,h4⟩:=hr;simp only[ZaM,h1]at h⊢;by_cases hb:(e0.1==b)=true
  ·simp only[hb]at h⊢;cases h;exact⟨x,rfl,h2,h3⟩
  ·simp only[hb]at h⊢;exact AJ h4 h
theorem Eg(hO:bK base W M w0 objs w L){x:Operand}(ho:o.op=.entry x){d:DV}(h:av w W objs L d (a.eval x))(aF:(ju objs d).ok):
  bQ P base W M w0 objs L w a o (ju objs d):=by
 unfold ju at aF⊢;split at aF
 ·rename_i r;cases hc:objs r with
  |none=>simp[hc,bad]at aF
  |some ob=>
   cases ob with
   |iter m s sn l=>
    simp only[hc]at aF⊢;cases hm:objs m with
    |none=>simp[hm,bad]at aF
    |some om=>
     cases om with
     |map shs agg c es=>
      simp only[hm]at aF⊢;cases hl:sn.getLast? with
      |none=>simp[hl,bad]at aF
      |some b=>
       simp only[hl]at aF⊢;cases hf:es.find? (λe=>e.1==b)with
       |none=>simp[hf,bad]at aF
       |some e=>
        simp only[hf]at aF⊢;subst aF;simp only[av]at h;obtain⟨_,hx⟩:=h;obtain⟨hh,_,_⟩:=hO.ob r _ hc;obtain⟨arr,hh2,oT,_⟩:=hO.ob m _ hm;have hg:=eK (P:=P) hh trivial;have hg2:=eK (P:=P) hh2 trivial;obtain⟨xe,Az,k1,k2⟩:=AJ oT hf;have hback:sn.toArray.back? =some b:=by rw[List.back?_toArray];exact hl
        have NY:arr.find? (λx=>x.born==b)=some xe:=by rw[<-Array.find?_toList];exact Az
        refine bQ.quiet hO rfl (v:=.tuple #[xe.key,xe.val]) ?_ ?_
        ·simp[execOp,ho,Instr.entry,hx,hg,hback,hg2,NY]
        ·simp only[av];exact⟨_,rfl,by simp only[eW];exact⟨_,_,rfl,by simpa [av]using k1,_,_,rfl,k2,rfl⟩⟩
     |_=>simp[hm,bad]at aF
   |_=>simp[hc,bad]at aF
 ·exact aF.elim
theorem Ed(hO:bK base W M w0 objs w L){t:TypeId}{x i:Operand}(ho:o.op=.index t x i)(ht:P.underlying t=some .string){d1 d2:DV}(h1:av w W objs L d1 (a.eval x))(h2:av w W objs L d2 (a.eval i))(aF:(mf d1 d2).ok):
  bQ P base W M w0 objs L w a o (mf d1 d2):=by
 unfold mf at aF⊢;split at aF
 ·rename_i s k j;simp only[av,aR]at h1 h2;obtain⟨h0,cW⟩:=aF;have hj:j.toNat<s.size:=by omega
  have YA:j.toNat<s.data.size:=hj;have pg:s[j.toNat]? =some (s.data.getD j.toNat 0):=by
   rw[getElem?_pos s j.toNat hj];simp[Array.getD,ByteArray.getElem_eq_getElem_data];intro h;omega
  refine bQ.int hO rfl rfl ?_;simp[execOp,ho,Instr.index,h1,h2,asIntOf,run_underlying ht,h0,pg]
 ·exact aF.elim
theorem Ey{op:BinOp}{neg:Bool}(B5:op=if neg then .neq else .eql){t:TypeId}{x y:Operand}{yt:TypeId}(ho:o.op=.binOp op t x y yt){r:Bool}(bG:∀k n,a.eval x≠ .int k n)(hni:a.eval x≠ .nilIface)(hna:∀cs,a.eval x≠ .agg cs)(hnf:∀k b,a.eval x≠ .float k b)(P5:∀k b c,a.eval x≠ .complex k b c)(hns:∀s,a.eval x≠ .string s)
  (he:(Op.equal t (a.eval x) (a.eval y)).run P w=.ok r w) (hg:(eqGuard op t x y (a.eval x) (a.eval y)).run P w=.ok () w):(execOp a.eval o).run P w=.ok (.value (.bool (neg^^r))) w:=by
 have hb:(binOp op t (a.eval x) (a.eval y)).run P w=.ok (.bool (neg^^r)) w:=by
  generalize a.eval x=xv at*
  subst B5;cases neg<;>cases xv<;>first|exact absurd rfl (bG _ _)|exact absurd rfl hni|exact absurd rfl (hna _)|exact absurd rfl (hnf _ _)|exact absurd rfl (P5 _ _ _)|exact absurd rfl (hns _)|simp[binOp,he]
 simp[execOp,ho,hg,hb]
theorem GF{d:TypeDesc}{y:Operand}{y':bp}{k:Nat}(hy:bp.of y=some y')(h:uM d y'=some k):
  (k=0/\(∃e,d=.slice e)/\a.eval y=.slice none 0 0)\/(k=1/\(∃e,d=.pointer e)/\a.eval y=.pointer none)\/(k=2/\(∃p r v,d=.func p r v)/\a.eval y=.nilFunc):=by
 unfold uM at h;have key:∀{z:DV},bp.of y=some (.cm z)->∃v,a.eval y=v/\(ky v=some z\/(∃f,z=.v (.fn f []))\/∃c,z=.gu c 0):=by
  intro z hz;cases y with
  |tmp t=>simp[bp.of]at hz
  |const v=>simp only[bp.of,Zab,bp.cm.injEq]at hz;obtain⟨d,hd,rfl⟩:=hz;exact⟨v,rfl,.inl hd⟩
  |func f=>simp only[bp.of,Zaa,bp.cm.injEq]at hz;subst hz;exact⟨_,rfl,.inr (.inl ⟨_,rfl⟩)⟩
  |global g=>
   simp only[bp.of,Zab,bp.cm.injEq]at hz;obtain⟨p,_,rfl⟩:=hz;exact⟨_,rfl,.inr (.inr ⟨_,rfl⟩)⟩
 split at h
 ·obtain⟨v,hv,hc|⟨f,hf⟩|⟨f,hf⟩⟩:=key hy
  ·unfold ky at hc;split at hc<;>simp at hc
   exact .inl ⟨by simpa using h.symm,⟨_,rfl⟩,hv⟩
  ·cases hf
  ·cases hf
 ·obtain⟨v,hv,hc|⟨f,hf⟩|⟨f,hf⟩⟩:=key hy
  ·unfold ky at hc;split at hc<;>simp at hc
   exact .inr (.inl ⟨by simpa using h.symm,⟨_,rfl⟩,hv⟩)
  ·cases hf
  ·cases hf
 ·obtain⟨v,hv,hc|⟨f,hf⟩|⟨f,hf⟩⟩:=key hy
  ·unfold ky at hc;split at hc<;>simp at hc
   exact .inr (.inr ⟨by simpa using h.symm,⟨_,_,_,rfl⟩,hv⟩)
  ·cases hf
  ·cases hf
 ·cases h
theorem tR(d:Nat)(hd:d=9999)(t:TypeId)(x y:Value):(Op.equal t x y)=Op.equalIn (d+1) t x y:=by subst hd;rfl
theorem wW(t e:TypeId)(p:Option Addr)(n c:Nat)(h:P.underlying t=some (.slice e)):(Op.equal t (.slice p n c) (.slice none 0 0)).run P w=.ok p.isNone w:=by
 obtain⟨d,hd⟩:∃d,d=9999:=⟨_,rfl⟩;rw[tR d hd,Op.equalIn];cases p<;>simp[run_underlying h]
theorem AK(t e:TypeId)(p:Option Addr)(h:P.underlying t=some (.pointer e)):(Op.equal t (.pointer p) (.pointer none)).run P w=.ok p.isNone w:=by
 obtain⟨d,hd⟩:∃d,d=9999:=⟨_,rfl⟩;rw[tR d hd,Op.equalIn];cases p<;>simp[run_underlying h]
theorem Ch(t:TypeId){q1 q2 q3}(v:Value)(r:Bool)(h:P.underlying t=some (.func q1 q2 q3))(hv:(v=.nilFunc/\r=true)\/(∃f b c,v=.func f b c)/\r=false):(Op.equal t v .nilFunc).run P w=.ok r w:=by
 obtain⟨d,hd⟩:∃d,d=9999:=⟨_,rfl⟩;rw[tR d hd,Op.equalIn];rcases hv with⟨rfl,rfl⟩|⟨⟨f,b,c,rfl⟩,rfl⟩<;>simp[run_underlying h]
theorem yb(hO:bK base W M w0 objs w L){op:BinOp}{neg:Bool}(B5:op=if neg then .neq else .eql){t:TypeId}{x y:Operand}{yt:TypeId}(ho:o.op=.binOp op t x y yt){d:TypeDesc}(hd:P.underlying t=some d){y':bp}(hy:bp.of y=some y'){k:Nat}(hk:uM d y'=some k)
  {d1:DV} (h1:av w W objs L d1 (a.eval x)) (aF:(eF k neg objs d1).ok):bQ P base W M w0 objs L w a o (eF k neg objs d1):=by
 have hv:=GF (a:=a) hy hk;have fin:∀{r:Bool},eF k neg objs d1=⟨(eF k neg objs d1).ok,.v (.bool (neg^^r)),none⟩->(execOp a.eval o).run P w=.ok (.value (.bool (neg^^r))) w->bQ P base W M w0 objs L w a o (eF k neg objs d1):=by
  intro r e h;rw[e];exact bQ.bool hO rfl rfl h
 have sl:∀{p:Option Addr} {n c:Nat},k=0->a.eval x=.slice p n c->(execOp a.eval o).run P w=.ok (.value (.bool (neg^^p.isNone))) w:=by
  intro p n c h0 hx;rcases hv with⟨_,⟨e,rfl⟩,Jc⟩|⟨h,_⟩|⟨h,_⟩
  ·refine Ey B5 ho (by simp[hx]) (by simp[hx]) (by simp[hx]) (by simp[hx]) (by simp[hx]) (by simp[hx]) (by rw[hx,Jc];exact wW t e p n c hd) ?_;rw[hx,Jc,B5];cases neg<;>simp[eqGuard]
  ·omega
  ·omega
 have pt:∀{p:Option Addr},k=1->a.eval x=.pointer p->(execOp a.eval o).run P w=.ok (.value (.bool (neg^^p.isNone))) w:=by
  intro p h0 hx;rcases hv with⟨h,_⟩|⟨_,⟨e,rfl⟩,Jc⟩|⟨h,_⟩
  ·omega
  ·refine Ey B5 ho (by simp[hx]) (by simp[hx]) (by simp[hx]) (by simp[hx]) (by simp[hx]) (by simp[hx]) (by rw[hx,Jc];exact AK t e p hd) ?_;rw[hx,Jc,B5];cases neg<;>simp[eqGuard]
  ·omega
 have fn:∀{v:Value} {r:Bool},k=2->a.eval x=v->(v=.nilFunc/\r=true)\/(∃f b c,v=.func f b c)/\r=false->(execOp a.eval o).run P w=.ok (.value (.bool (neg^^r))) w:=by
  intro v r h0 hx zc;rcases hv with⟨h,_⟩|⟨h,_⟩|⟨_,⟨q1,q2,q3,rfl⟩,Jc⟩
  ·omega
  ·omega
  ·have he:=Ch (w:=w) t v r hd zc;subst hx;refine Ey B5 ho ?_ ?_ ?_ ?_ ?_ ?_ (by rw[Jc];exact he) ?_;all_goals rcases zc with⟨hx,rfl⟩|⟨⟨f,b,c,hx⟩,rfl⟩<;>first|(simp[hx];done)|(rw[hx,Jc,B5];cases neg<;>simp[eqGuard])
 cases d1 with
 |v t'=>
  cases t' with
  |sl rows=>
   simp only[eF]at aF;obtain⟨h0,bG⟩:=aF;simp only[av,aR]at h1;rcases h1 with⟨rfl,_⟩|⟨b,oo,c,sz,hx,_⟩
   ·exact absurd rfl bG
   ·exact fin (r:=false) rfl (sl h0 hx)
  |fn f caps=>
   cases f with
   |func f=>simp only[av,aR]at h1;obtain⟨vs,hx,_⟩:=h1;exact fin (r:=false) rfl (fn aF hx (.inr ⟨⟨_,_,_,rfl⟩,rfl⟩))
   |_=>exact aF.elim
  |box cs=>simp only[av,aR]at h1;obtain⟨b,oo,hx,_⟩:=h1;exact fin (r:=false) rfl (pt aF hx)
  |raw v=>
   simp only[av,aR]at h1;cases v with
   |slice p n c=>exact fin (r:=p.isNone) rfl (sl aF h1)
   |pointer p=>exact fin (r:=p.isNone) rfl (pt aF h1)
   |nilFunc=>exact fin (r:=true) rfl (fn aF h1 (.inl ⟨rfl,rfl⟩))
   |_=>exact aF.elim
  |_=>exact aF.elim
 |ptr r off=>simp only[av]at h1;exact fin (r:=false) rfl (pt aF h1.2)
 |gu cs off=>simp only[av]at h1;obtain⟨b,oo,hx,_⟩:=h1;exact fin (r:=false) rfl (pt aF hx)
 |kv rows i off=>simp only[av]at h1;obtain⟨b,oo,sz,hx,_⟩:=h1;exact fin (r:=false) rfl (pt aF hx)
 |jc r ver i off=>simp only[av]at h1;obtain⟨⟨b,oo,hx⟩,_⟩:=h1;exact fin (r:=false) rfl (pt aF hx)
 |mr f caps=>
  cases f with
  |func f=>simp only[av]at h1;obtain⟨vs,hx,_⟩:=h1;exact fin (r:=false) rfl (fn aF hx (.inr ⟨⟨_,_,_,rfl⟩,rfl⟩))
  |_=>exact aF.elim
 |bk r ver=>
  cases hc:objs r with
  |none=>simp[eF,hc,bad]at aF
  |some ob=>
   cases ob with
   |arr ver' e' fW rows=>
    have e1:eF k neg objs (.bk r ver)=⟨k=0/\ver=ver'/\rows≠[],.v (.bool (neg^^false)),none⟩:=by simp only[eF,hc]
    rw[e1]at aF;obtain⟨h0,rfl,bG⟩:=aF;simp only[av]at h1;obtain⟨_,nG,e2,CB,jO,lH,_,ji⟩:=h1;rw[hc]at lH;cases lH;have hx:=ji rfl;obtain⟨_,_,_,kj⟩:=hO.ob r _ hc;rcases kj with⟨rfl,_⟩|⟨g,cap,cur,k1,_⟩
    ·exact absurd rfl bG
    ·exact fin (r:=false) (by rw[e1]) (sl h0 (hx.trans k1))
   |_=>simp[eF,hc,bad]at aF
 |_=>exact aF.elim
theorem JN(hO:bK base W M w0 objs w L){r m s l c:Nat}{sn:List Nat}{shs:List Sh}{agg:Bool}{es:List (Nat×T×DV)}(hr:objs r=some (.iter m s sn l))(hm:objs m=some (.map shs agg c es))(cW:∀e∈es,e.1<s)(hl:s<=l)(ty:TypeId):
  ((∀e∈es,e.1∈sn)/\(Instr.next (.pointer (some ⟨L.gU r,0,none⟩)) false ty).run P w=.ok (.tuple #[.bool false]) w)\/
  ∃e∈es,e.1∉sn/\∃k v w',(Instr.next (.pointer (some ⟨L.gU r,0,none⟩)) false ty).run P w=.ok (.tuple #[.bool true,k,v]) w'/\
   bK base W M w0 (bR objs (some (r,.iter m s (sn++[e.1]) c))) w' L/\iW W objs L w (bR objs (some (r,.iter m s (sn++[e.1]) c))) L w':=by
 obtain⟨hh,_,Mc⟩:=hO.ob r _ hr;obtain⟨arr,hh2,oT,_⟩:=hO.ob m _ hm;have hg:=eK (P:=P) hh trivial;have hg2:=eK (P:=P) hh2 trivial;have YV:∀x∈arr.toList,x.born<s:=by
  intro x hx;obtain⟨i,hi⟩:=ZbH hx;have sS:i<es.length:=by rw[<-bj.length oT];exact(Zas.1 hi).1
  obtain⟨x',fX,hb,_⟩:=bj.get oT (Zan sS);rw[hi]at fX;cases fX;rw[hb];exact cW _ (Zbi sS)
 have htest:(!(sn.toArray).isEmpty&& !arr.isEmpty&&arr.all (λx=>decide (x.born>=l)))=false:=by
  cases he:arr.isEmpty with
  |true=>simp
  |false=>
   have dH:arr.all (λx=>decide (x.born>=l))=false:=by
    rw[Bool.eq_false_iff];intro h;rw[Array.all_eq_true_iff_forall_mem]at h;have h0:0<arr.size:=by
     rcases Zcz arr.size with h0|h0
     ·simp[Array.isEmpty,h0]at he
     ·exact h0
    have h1:=h _ (Array.getElem_mem h0);have h2:=YV arr[0] (by simp);simp at h1;omega
   simp[dH]
 have ME:∀x,x∈arr.filter (λe=> !sn.toArray.contains e.born)↔x∈arr.toList/\x.born∉sn:=by
  intro x;simp
 have wX:∀x∈(arr.filter (λe=> !sn.toArray.contains e.born)),x.born<s:=λx hx=>YV x ((ME x).1 hx).1;simp only[Instr.next,Sem.run_bind,hg,hg2,Result.andThen_ok,htest,ZaS,if_false];generalize hL:arr.filter (λe=> !sn.toArray.contains e.born)=A at ME wX⊢;have e1:A.filter (λx=>decide (x.born<s))=A:=Array.filter_eq_self.2 (λx hx=>by simpa using wX x hx);have e2:A.filter (λx=>decide (x.born>=s))= #[]:=by
  rw[Array.filter_eq_empty_iff];intro x hx;have:=wX x hx;simp;omega
 simp only[e1,e2,ZbD];by_cases h0:A.size=0
 ·left;have:A= #[]:=Array.eq_empty_of_size_eq_zero h0;subst this;refine⟨λe he=>?_, ?_⟩
  ·obtain⟨i,hi⟩:=ZbH he;obtain⟨x,hx,hb,_⟩:=bj.get oT hi;by_cases h:e.1∈sn
   ·exact h
   ·have:=(ME x).2 ⟨Zaq hx,by rw[hb];exact h⟩;simp at this
  ·simp[choose,Sem.run,Question.forced]
 ·right;have bG:A.isEmpty=false:=by simp[Array.isEmpty,h0]
  simp only[bG,ZaS,if_false,Array.empty_append,Array.size_map];have MF:∃(j:Nat) (w1:World),j<A.size/\(w1=w\/w1=w.drew)/\(choose (Question.mapNext A.size)).run P w=.ok j w1:=by
   by_cases hf:A.size<=1
   ·exact⟨0,w,by omega,.inl rfl,by simp[choose,Sem.run,Question.forced,hf]⟩
   ·exact⟨_,w.drew,Nat.mod_lt _ (by omega),.inr rfl,by
     simp only[choose,Sem.run,Question.forced,decide_eq_true_eq,hf,if_false,Question.cut];rfl⟩
  obtain⟨j,w1,hj,PB,bz⟩:=MF;have qa:=(ME A[j]).1 (Array.getElem_mem hj);obtain⟨i,hi⟩:=ZbH qa.1;have sS:i<es.length:=by rw[<-bj.length oT];exact(Zas.1 hi).1
  obtain⟨x',fX,hb,_⟩:=bj.get oT (Zan sS);rw[hi]at fX;cases fX;have hhe:w1.heap=w.heap:=by rcases PB with rfl|rfl<;>rfl
  have hh1:w1.heap[L.gU r]? =some (.mapIter (some (L.gU m)) s sn.toArray l):=by rw[hhe];exact hh
  have hfr1:Fr base M w0 w1:=by
   rcases PB with rfl|rfl
   ·exact hO.fr
   ·exact⟨hO.fr.os,hO.fr.tape,hO.fr.output,hO.fr.gZ,hO.fr.size,hO.fr.block,Nat.le_succ_of_le hO.fr.drawn⟩
  refine⟨es[i],Zbi sS,by rw[<-hb];exact qa.2,A[j].key,A[j].val,w1.fk (L.gU r) (.mapIter (some (L.gU m)) s (sn.toArray.push A[j].born) c), ?_, ?_⟩
  ·simp only[bz,Array.getElem?_map,Zbs hj,Za0,Sem.run_bind,mP (P:=P) hh1 trivial,Result.andThen_ok,Sem.run_pure]
  ·rw[hb];refine bK.put hO (C0 _ hfr1 Mc) (by rw[ru,hhe];exact Zae _) (λ_ _=>⟨rfl,rfl⟩) rfl (λb _ hb=>(pr (λx=>hb _ hr (by simp[Loc.own,x]))).trans (by rw[hhe]))
    (λb hb=>.inl ⟨_,hr,hb⟩) (λo' fY _=>by rw[hr]at fY;cases fY;exact⟨rfl,rfl⟩) (λver e sz rows h=>by rw[hr]at h;cases h) (λdZ=>?_)
   refine⟨?_, ?_,Mc⟩
   ·rw[yy hh1];simp
   ·have bG:m≠r:=λe=>by rw[e,hr]at hm;cases hm
    exact⟨shs,agg,c,es,by simp[bR,bG,hm]⟩
end
end Go.DM
namespace Go.DM
open Go.RowKit
variable [Laid]
section
variable{P:Program}{base:Nat}{W M:Nat->Prop}{w0:World}{objs:aU}{L:Loc}{w:World}{a:Act}{o:Oper}{Γ:Env}{name:Nat}{ρ:Nat->DV}{d:nF}
theorem uO{lend:Bool}(W':Nat->Prop)(hO:bK base W M w0 objs w L)(hW:lend=true->∀r o b,objs r=some o->L.own r o=some b->¬W' b)(Jy:∀b,W' b->WW W objs L b):
  (∀(d:DV) (x:Value),av w W objs L d x->B4 lend objs d->aR w W' (qb objs d) x)/\(∀(ds:List DV) (xs:List Value),aK w W objs L ds xs->qD lend objs ds->aP w W' (gK objs ds) xs):=by
 have hk:cb (WW W objs L) w w:=cb.refl _ _;have one:∀(n:Nat),(∀(d:DV) (x:Value),SizeOf.sizeOf d<n->av w W objs L d x->B4 lend objs d->aR w W' (qb objs d) x)/\(∀(ds:List DV) (xs:List Value),SizeOf.sizeOf ds<n->aK w W objs L ds xs->qD lend objs ds->aP w W' (gK objs ds) xs):=by
  intro n;induction n with
  |zero=>exact⟨λ_ _ h=>by omega,λ_ _ h=>by omega⟩
  |succ n ih=>
   refine⟨λd x hn h aF=>?_,λds xs hn h aF=>?_⟩
   ·cases d with
    |v t=>simp only[av]at h;simp only[qb];exact aR.aD hk.toKeepsC (λb _ hb=>Jy b hb) t x h
    |aI=>
     simp only[av]at h;obtain⟨p,rfl⟩:=h;simp only[qb,aR];exact .inl ⟨trivial,p,0,rfl⟩
    |bk r ver=>
     simp only[B4]at aF;obtain⟨hl,aF⟩:=aF;simp only[av]at h;obtain⟨_,ver',e,sz,rows,hc,_,hv⟩:=h;simp only[hc]at aF;have hv:=hv aF;subst hv;simp only[qb,hc,aR];have fE:=hO.ob r _ hc;obtain⟨gv,cS,hm,kj⟩:=fE;rcases kj with⟨rfl,p,hp⟩|⟨g',cap,cur,pS,hp,hh,hle,o9,D1,eG⟩
     ·exact .inl ⟨rfl,p,0,hp⟩
     ·have uw:aO (L.sl r)=some g':=by simp[pS,aO,Zay.1 hp]
      refine .inr ⟨g',0,cap,sz,pS,(Zai.1 hh).1,hW hl r _ g' hc (by simpa [Loc.own]using uw),hle, ?_⟩;have tD:=mY.rows (hO.ob r _ hc) (g:=g') (by simp[pS,aO,Zay.1 hp]);by_cases hg:g'<w.heap.size
      ·obtain⟨vs,wg,zc,PY⟩:=aX.flatten tD;exact aX.hY (aP.aD hk.toKeepsC (λb _ hb=>Jy b hb) _ _ zc) cS PY
      ·exact absurd (Zai.1 hh).1 hg
    |agg cs=>
     simp only[av]at h;obtain⟨vs,rfl,hr⟩:=h;simp only[qb,aR];simp only[B4]at aF;exact⟨vs,rfl,ih.2 cs _ (by simp at hn⊢;omega) hr aF⟩
    |mr f cs=>
     simp only[av]at h;obtain⟨vs,rfl,hr⟩:=h;simp only[qb,aR];simp only[B4]at aF;exact⟨vs,rfl,ih.2 cs _ (by simp at hn⊢;omega) hr aF⟩
    |sO r ver lo m=>
     simp only[B4]at aF;obtain⟨hl,aF⟩:=aF;simp only[av]at h;obtain⟨_,ver',e,sz,rows,hc,_,hv⟩:=h;simp only[hc]at aF;have hv:=hv aF.1;simp only[qb,hc,aR];have DR:((rows.drop lo).take m).length=m:=by rw[Zaw,Za8];omega
     rcases qM hO hc hv with⟨rfl,a,c,rfl⟩|⟨g,c,uw,rfl,P5,hr⟩
     ·exact .inl ⟨by simp,a,c,rfl⟩
     ·refine .inr ⟨g,lo*sz,c,sz,by rw[DR],(hO.ob r _ hc).lt (by simpa [Loc.own]using uw),hW hl r _ g hc (by simpa [Loc.own]using uw),by omega, ?_⟩;obtain⟨vs,wg,zc,PY⟩:=aX.flatten hr;exact aX.hY (aP.aD hk.toKeepsC (λb _ hb=>Jy b hb) _ _ zc) (λx hx=>(hO.ob r _ hc).2.1 x (Zbv (Zav hx))) PY
    |_=>exact aF.elim
   ·cases ds with
    |nil=>simpa [aK,aP,gK]using h
    |cons d ds=>
     simp only[aK]at h;obtain⟨x,jI,rfl,h1,h2,hr⟩:=h;simp only[qD]at aF;simp only[gK,aP];exact⟨x,jI,rfl,h1,ih.1 d x (by simp at hn⊢;omega) h2 aF.1,ih.2 ds jI (by simp at hn⊢;omega) hr aF.2⟩
 exact⟨λd x=>(one (SizeOf.sizeOf d+1)).1 d x (by omega),λds xs=>(one (SizeOf.sizeOf ds+1)).2 ds xs (by omega)⟩
theorem Jz{neg agg:Bool}{shs:List Sh}{t u:T}(h:¬((∃as,t=.agg as)/\∃bs,u=.agg bs)):zJ neg agg shs t u=⟨agg=false/\df shs [t]/\df shs [u],.v (.bool (neg^^eZ t u)),none⟩:=by
 cases t<;>first|rfl|(cases u<;>first|rfl|exact absurd ⟨⟨_,rfl⟩,⟨_,rfl⟩⟩ h)
theorem Mg{n:Nat}{t:TypeId}{s:Sh}{desc:TypeDesc}(hs:jG P (n+1) t=some [s])(hd:P.underlying t=some desc)(ha:bA desc=false):(s=.bool/\desc=.bool)\/(s=.str/\desc=.string)\/∃k,s=.int k/\desc=.int k:=by
 simp only[jG,hd]at hs;cases desc;case bool=>simp at hs;exact .inl ⟨hs.symm,rfl⟩
 case int k=>simp at hs;exact .inr (.inr ⟨k,hs.symm,rfl⟩)
 case string=>simp at hs;exact .inr (.inl ⟨hs.symm,rfl⟩)
 case struct=>exact absurd ha (by simp[bA])
 case array=>exact absurd ha (by simp[bA])
 all_goals exact absurd hs (by simp)
theorem Gd{op:BinOp}{t:TypeId}{x y:Operand}{yt:TypeId}{neg:Bool}(B5:op=if neg then .neq else .eql)(ho:o.op=.binOp op t x y yt){desc:TypeDesc}(hd:P.underlying t=some desc)(Mh:∀k,desc≠ .int k){shs:List Sh}(hs:jG P 10000 t=some shs)(hg:P.eqGuardType P.depth t=false)
  (hO:bK base W M w0 objs w L) {d1 d2:DV} (h1:av w W objs L d1 (a.eval x)) (h2:av w W objs L d2 (a.eval y)) (k1:B4 true objs d1) (k2:B4 true objs d2) (aF:(zJ neg (bA desc) shs (qb objs d1) (qb objs d2)).ok):
  bQ P base W M w0 objs L w a o ⟨True,(zJ neg (bA desc) shs (qb objs d1) (qb objs d2)).val,none⟩:=by
 have r1:=(uO (lend:=true) (λ_=>False) hO (λ_ _ _ _ _ _ h=>h) (λ_ h=>h.elim)).1 d1 _ h1 k1;have r2:=(uO (lend:=true) (λ_=>False) hO (λ_ _ _ _ _ _ h=>h) (λ_ h=>h.elim)).1 d2 _ h2 k2;by_cases hagg:(∃as,qb objs d1=.agg as)/\∃bs,qb objs d2=.agg bs
 ·obtain⟨⟨as,t1⟩,bs,t2⟩:=hagg;simp only[t1,t2,zJ]at aF⊢;obtain⟨ha,f1,f2⟩:=aF;rw[t1]at r1;rw[t2]at r2;simp only[aR]at r1 r2;obtain⟨xs,e1,g1⟩:=r1;obtain⟨ys,e2,g2⟩:=r2;have hq:(Op.equal t (.agg xs) (.agg ys)).run P w=.ok (oj as bs) w:=by
   have:=pb 10000 t shs desc hs hd xs.toList ys.toList w (gJ f1 g1) (gJ f2 g2);simp only[wh,ha,if_true,Array.toArray_toList]at this;rw[wH f1 f2 g1 g2];exact this
  have P7:=run_eqGuard_agg w op t x y xs ys hg;refine bQ.bool hO rfl rfl ?_;subst B5;cases neg<;>simp only[if_true,if_false,ZaS]at ho P7<;>simp[execOp,ho,e1,e2,P7,binOp,hq]
 ·rw[Jz hagg]at aF⊢;obtain⟨ha,f1,f2⟩:=aF;obtain⟨s,rfl,g1⟩:=mg f1;obtain⟨s2,NU,g2⟩:=mg f2;obtain rfl:s=s2:=by simpa using NU
  refine bQ.bool hO rfl rfl ?_;rw[Ge g1 g2 r1 r2];subst B5;cases s with
  |bool=>
   have Yz:P.underlying t=some .bool:=by
    rcases Mg (n:=9999) hs hd ha with⟨_,rfl⟩|⟨h,_⟩|⟨k,h,_⟩
    ·exact hd
    ·cases h
    ·cases h
   cases Mf:qb objs d1<;>rw[Mf]at g1 r1<;>first|exact absurd g1 Zaz|skip
   cases h2':qb objs d2<;>rw[h2']at g2 r2<;>first|exact absurd g2 Zaz|skip
   simp only[aR]at r1 r2;cases neg<;>simp[execOp,ho,r1,r2,eqGuard,run_eql_bool,run_neq_bool,Yz,Yy]
  |str=>
   cases Mf:qb objs d1<;>rw[Mf]at g1 r1<;>first|exact absurd g1 Zaz|skip
   cases h2':qb objs d2<;>rw[h2']at g2 r2<;>first|exact absurd g2 Zaz|skip
   simp only[aR]at r1 r2;cases neg<;>simp[execOp,ho,r1,r2,eqGuard,binOp,Op.stringOp,Yy]
  |int k=>
   rcases Mg (n:=9999) hs hd ha with⟨h,_⟩|⟨h,_⟩|⟨k',_,h⟩
   ·cases h
   ·cases h
   ·exact absurd h (Mh k')
theorem x8{W':Nat->Prop}{sz:Nat}:∀(n:Nat) (cs:List T) (vs:List Value) (b o:Nat),cs.length=n*sz->aP w W' cs vs->(∀j v,vs[j]? =some v->w.cell? ⟨b,o+j,none⟩=some v)->aX w W' sz b o (chunk sz n cs)
 |0,_,_,_,_,_,_,_=>by simp[chunk,aX]
 |n+1,cs,vs,b,o,hl,hr,hc=>by
  have gv:sz<=cs.length:=by rw[hl,Nat.add_mul];omega
  have wg:=aP.length hr;simp only[chunk,aX];refine⟨by simp;omega, ?_, ?_⟩
  ·refine cV.o7 (aP.take sz hr) λj v hj=>hc j v ?_;rw[ZaF]at hj;split at hj
   ·exact hj
   ·cases hj
  ·refine x8 n _ (vs.drop sz) b (o+sz) (by rw[Za8,hl,Nat.add_mul];omega) (aP.drop sz hr) λj v hj=>?_;rw[Zbb]at hj;have:=hc (sz+j) v hj
   rwa [show o+sz+j=o+(sz+j)by omega]
theorem uP(sz:Nat):∀(n:Nat) (cs:List T),(chunk sz n cs).length=n
 |0,_=>rfl
 |n+1,cs=>by simp[chunk,uP sz n]
theorem uQ:∀(ps:List (Nat×Nat×DV)) (ds:List DV),qF ds.length ps->(sW ds ps).length=ds.length
 |[],ds,_=>rfl
 |(off,sz,d)::ps,ds,h=>by
  simp only[qF]at h;obtain⟨h1,h2,h3,h4⟩:=h;have hl:(bH ds off (cellsOf d)).length=ds.length:=fu (by omega);simp only[sW];rw[uQ ps _ (by rw[hl];exact h4),hl]
theorem x9(hg:zH w (WW W objs L))(gV:∀t,av w W objs L (ρ t) (a.tmps.getD t Go.undef)):∀{xs:List Operand} {ys:List bp},xs.mapM bp.of=some ys->∀(i:Nat) (x:Operand) (y:bp),xs[i]? =some x->ys[i]? =some y->av w W objs L (y.ev ρ) (a.eval x)
 |[],ys,h,i,x,y,hx,_=>by simp at hx
 |x::xs,ys,h,i,p,q,hp,hq=>by
  simp only[Za1,Zaj,Zaf,Zac,Zaa]at h;obtain⟨y,hy,ys',nZ,rfl⟩:=h;cases i with
  |zero=>
   simp only[ZaG,Zaa]at hp hq;subst hp hq;exact bp.bq hg gV hy
  |succ i=>exact x9 hg gV nZ i p q (by simpa using hp) (by simpa using hq)
theorem qR:∀{xs:List Operand} {ys:List bp},xs.mapM bp.of=some ys->ys.length=xs.length
 |[],ys,h=>by simp at h;simp[h]
 |x::xs,ys,h=>by
  simp only[Za1,Zaj,Zaf,Zac,Zaa]at h;obtain⟨y,hy,ys',nZ,rfl⟩:=h;simp[qR nZ]
theorem zW(hg:zH w (WW W objs L))(gV:∀t,av w W objs L (ρ t) (a.tmps.getD t Go.undef)){x:Option Operand}{y:Option bp}(h:zS x=some y):(y.map (·.ev ρ)=none/\x.map a.eval=none)\/∃dl vl,y.map (·.ev ρ)=some dl/\x.map a.eval=some vl/\av w W objs L dl vl:=by
 cases x with
 |none=>simp only[zS,Zaa]at h;subst h;exact .inl ⟨rfl,rfl⟩
 |some x=>
  simp only[zS,Zab]at h;obtain⟨z,hz,rfl⟩:=h;exact .inr ⟨_,_,rfl,rfl,bp.bq hg gV hz⟩
theorem P8{d:DV}{v:Value}(hp:qE d)(h:av w W objs L d v):v.oneCell'=true:=by
 cases d with
 |aI=>simp only[av]at h;obtain⟨p,rfl⟩:=h;rfl
 |v t=>
  simp only[av]at h;cases t with
  |agg ts=>exact absurd hp Zaz
  |eD ts=>exact absurd hp Zaz
  |raw x=>simp only[aR]at h;subst h;exact hp
  |sl rows=>simp only[aR]at h;rcases h with⟨_,_,_,rfl⟩|⟨_,_,_,_,rfl,_⟩<;>rfl
  |fn f caps=>simp only[aR]at h;obtain⟨_,rfl,_⟩:=h;rfl
  |box cs=>simp only[aR]at h;obtain⟨_,_,rfl,_⟩:=h;rfl
  |bool b=>simp only[aR]at h;subst h;rfl
  |int k n=>simp only[aR]at h;subst h;rfl
  |str k=>simp only[aR]at h;subst h;rfl
 |_=>exact hp.elim
theorem P9{d:DV}{v:Value}(hp:jd d)(h:av w W objs L d v):v.oneCell'=true:=by
 cases d with
 |undef=>exact hp.elim
 |skip=>exact hp.elim
 |agg cs=>exact hp.elim
 |eD cs=>exact hp.elim
 |v t=>exact P8 (d:=.v t) hp h
 |aI=>simp only[av]at h;obtain⟨p,rfl⟩:=h;rfl
 |ptr r off=>simp only[av]at h;obtain⟨_,rfl⟩:=h;rfl
 |bk r ver=>simp only[av]at h;obtain⟨⟨_,_,_,rfl⟩,_⟩:=h;rfl
 |kv rows i off=>simp only[av]at h;obtain⟨_,_,_,rfl,_⟩:=h;rfl
 |gu cs off=>simp only[av]at h;obtain⟨_,_,rfl,_⟩:=h;rfl
 |jc r ver i off=>simp only[av]at h;obtain⟨⟨_,_,rfl⟩,_⟩:=h;rfl
 |Cz=>simp only[av]at h;subst h;rfl
 |iq r=>simp only[av]at h;obtain⟨_,rfl⟩:=h;rfl
 |iter r=>simp only[av]at h;obtain⟨_,rfl⟩:=h;rfl
 |sO r ver lo n=>simp only[av]at h;obtain⟨⟨_,_,rfl⟩,_⟩:=h;rfl
 |DU r n=>simp only[av]at h;obtain⟨_,rfl⟩:=h;rfl
 |mr f cs=>simp only[av]at h;obtain⟨_,rfl,_⟩:=h;rfl
theorem CJ(hg:zH w (WW W objs L))(gV:∀t,av w W objs L (ρ t) (a.tmps.getD t Go.undef)):∀{xs:List Operand} {ys:List bp},xs.mapM bp.of=some ys->dq (ys.map (·.ev ρ))->aK w W objs L (ys.map (·.ev ρ)) (xs.map a.eval)
 |[],ys,h,_=>by simp at h;subst h;simp[aK]
 |x::xs,ys,h,hp=>by
  simp only[Za1,Zaj,Zaf,Zac,Zaa]at h;obtain⟨y,hy,ys',nZ,rfl⟩:=h;simp only[Zau,dq]at hp;simp only[Zau,aK];have r:=bp.bq hg gV hy;exact⟨_,_,rfl,P9 hp.1 r,r,CJ hg gV nZ hp.2⟩
theorem wI:∀{ds:List DV},uI ds=true->gF ds
 |[],_=>trivial
 |d::ds,h=>by
  cases d with
  |v t=>simp only[uI,Zam]at h;exact⟨h.1,wI h.2⟩
  |aI=>simp only[uI]at h;exact⟨trivial,wI h⟩
  |_=>simp[uI]at h
theorem Qa(hc:cD P o=some d)(ya:∀f args,d≠ .call f args)(gV:∀t,av w W objs L (ρ t) (a.tmps.getD t Go.undef))(hO:bK base W M w0 objs w L)(du:objs name=none)(aF:(cq Γ d name ρ objs).ok):
  bQ P base W M w0 objs L w a o (cq Γ d name ρ objs):=by
 unfold cD at hc;cases ho:o.op<;>simp only[ho,reduceCtorEq]at hc
 case move x=>
  simp only[Zab]at hc;obtain⟨y,hy,rfl⟩:=hc;exact bQ.quiet hO rfl (v:=a.eval x) (by simp[execOp,ho]) (bp.bq hO.gl gV hy)
 case assign x=>
  simp only[Zab]at hc;obtain⟨y,hy,rfl⟩:=hc;exact bQ.quiet hO rfl (v:=a.eval x) (by simp[execOp,ho]) (bp.bq hO.gl gV hy)
 case pick c x y=>
  simp only[Zaj,Zaf,Zac,Zaa]at hc;obtain⟨c',zX,x',hx,y',hy,rfl⟩:=hc;have r:=bp.bq hO.gl gV zX;unfold cq at aF⊢;simp only at aF⊢;split at aF
  ·rename_i t ht;rw[ht]at r;simp only[av,aR]at r;refine bQ.quiet hO rfl (v:=if t then a.eval x else a.eval y) (by simp[execOp,ho,r,asBool]) ?_;cases t
   ·exact bp.bq hO.gl gV hy
   ·exact bp.bq hO.gl gV hx
  ·exact aF.elim
 case alloc e=>
  simp only[Zaj,Zaf,Zac,Zaa]at hc;obtain⟨i,hi,z,hz,zs,FM,rfl⟩:=hc;have h:=D2 hO du e (gz FM);refine⟨_,.pointer (some ⟨w.heap.size,0,none⟩),_,_, ?_,.inl rfl,h.1,h.2, ?_⟩
  ·simp[execOp,ho,Instr.alloc,zeroValue,typeInfo,hi,hz,newVar,newRow]
  ·simp only[cq,av];exact⟨⟨zs,by simp[bR]⟩,by simp[Loc.fz]⟩
 case box e x=>
  simp only[Zab]at hc;obtain⟨y,hy,rfl⟩:=hc;have h:=D2 hO du e (av.cells (bp.bq hO.gl gV hy) aF);refine⟨_,.pointer (some ⟨w.heap.size,0,none⟩),_,_, ?_,.inl rfl,h.1,h.2, ?_⟩
  ·simp[execOp,ho,Instr.box,newVar,newRow]
  ·simp only[cq,av];exact⟨⟨cellsOf (y.ev ρ),by simp[bR]⟩,by simp[Loc.fz]⟩
 case build t parts=>
  simp only[Zaj,Zaf,Zac,Zaa]at hc;obtain⟨i,hi,z,hz,zs,FM,pl,Pz,ps,Qb,rfl⟩:=hc;have WO:=gz (w:=w) (W:=W) (objs:=objs) (L:=L) FM;have P2:=aK.length WO;simp only[ZaT]at P2;simp only[cq]at aF⊢;obtain⟨cells,h1,h2,h3⟩:=zT hO.gl gV parts.toList ps Qb z.cells zs WO (by rw[P2];exact aF);have hb:P.built t (parts.map λx=>(x.1,a.eval x.2)).toList=some cells:=by
   unfold Program.built;unfold places at Pz;cases hu:P.underlying t with
   |none=>simp[hu]at Pz
   |some desc=>
    cases desc<;>simp only[hu,reduceCtorEq]at Pz
    case array n e=>
     simp only[Zab]at Pz;obtain⟨ie,hie,rfl⟩:=Pz;simpa [hi,hz,hie]using h1
    case struct fields=>
     simp only[Zab]at Pz;obtain⟨pl',hpl',rfl⟩:=Pz;simp only[hi,hz,hpl',Array.toList_map];simpa using h1
  refine bQ.quiet hO rfl (v:=.agg cells) ?_ (by simp only[av];exact⟨cells,rfl,h2⟩);have:=run_build w t (parts.map λx=>(x.1,a.eval x.2)) cells hb;simp[execOp,ho,this]
 case buildSlice t len parts=>
  split at hc
  ·rename_i e hu;simp only[Zaj,Zaf,Zac]at hc;obtain⟨i,hi,hc⟩:=hc;split at hc
   ·cases hc
   ·rename_i gv;simp only[Zac,Zaa]at hc;obtain⟨z,hz,zs,FM,ps,Qb,rfl⟩:=hc;have WO:=gz (w:=w) (W:=W) (objs:=objs) (L:=L) FM;have P2:=aK.length WO;have hlen:¬len*i.size>2^24:=λh=>gv (.inl h);have NQ:i.size≠0:=λh=>gv (.inr h);simp only[ZaT,Array.size_map,Array.size_range]at P2;simp only[cq]at aF⊢;by_cases h0:len=0
    ·subst h0;simp only[if_true]at aF⊢;subst aF;have hp0:parts.toList=[]:=by
      cases hp:parts.toList with
      |nil=>rfl
      |cons p ps'=>
       rw[hp]at Qb;simp only[ofParts,Za1,Zaj,Zaf,Zac,Zaa,reduceCtorEq,and_false,exists_false]at Qb
     have hp1:parts= #[]:=by cases parts;simp_all
     have hr:=qQ (P:=P) w hu hi hz 0 (by simp) (parts:= #[]) (cells:= #[]) (by simp[Instr.fill,Array.range_zero']);have hg:=bK.grow hO (jv (w:=w) (.cells #[] e));refine⟨_,.slice (some ⟨w.heap.size,0,none⟩) 0 0,_,L, ?_,.inl rfl,hg.1,hg.2,by simp only[av];exact⟨_,rfl⟩⟩;simp[execOp,ho,hp1,hr]
    ·simp only[h0,if_false]at aF⊢;obtain⟨hf,Qc⟩:=aF;obtain⟨cells,h1,h2,h3⟩:=zT hO.gl gV parts.toList ps Qb _ zs WO (by simpa using hf);have hr:=qQ (P:=P) w hu hi hz len hlen (parts:=parts.map λx=>(x.1,a.eval x.2)) (cells:=cells) (by simpa using h1);have hg:=bK.grow hO (jv (w:=w) (.cells cells e));refine⟨_,.slice (some ⟨w.heap.size,0,none⟩) len len,_,L, ?_,.inl rfl,hg.1,hg.2, ?_⟩
     ·simp[execOp,ho,hr]
     ·have qc:=lU (objs2:=λ_=>none) Qc (aK.dZ hg.2 _ _ h2);simp only[bR,av,aR,uP];refine .inr ⟨w.heap.size,0,len,i.size,rfl,by simp, ?_,Zae _, ?_⟩
      ·rintro(hw|⟨r,ob,lO,pT⟩)
       ·have h1:=hO.under _ hw;have h2:=hO.fr.gZ;have h3:=hO.fr.size;omega
       ·have:=(hO.ob r ob lO).lt pT;omega
      ·refine x8 len _ cells.toList _ _ ?_ qc λj v hj=>?_
       ·rw[qL,uQ _ _ (by rw[<-P2];exact hf),<-P2]
       ·rw[ZaX,cell_of_row (w.alloc (.cells cells e)) w.heap.size j cells e (0,0) (heap_alloc_new w _)];simpa using hj
  ·cases hc
 case load t x=>
  split at hc
  ·rename_i desc i hd hi;simp only[Zab]at hc;obtain⟨y,hy,rfl⟩:=hc;simp only[cq]at aF⊢;obtain⟨hp,v,bz,hv⟩:=zO hO hd hi (bp.bq hO.gl gV hy) aF;exact bQ.quiet hO hp (v:=v) (by simp[execOp,ho,bz]) hv
  ·cases hc
 case store t x y=>
  simp only[Zaj,Zaf,Zac,Zaa]at hc;obtain⟨i,hi,x',hx,y',hy,rfl⟩:=hc;have rx:=bp.bq hO.gl gV hx;have ry:=bp.bq hO.gl gV hy;simp only[cq]at aF⊢;cases hd:x'.ev ρ with
  |ptr r off=>
   rw[hd]at rx;simp only[av]at rx;obtain⟨⟨cs,mA⟩,Mi⟩:=rx;simp only[hd,jM,mA]at aF⊢;obtain⟨w',h1,h2,h3⟩:=NM hO hi mA ry aF.1 aF.2.1 aF.2.2;exact⟨.skip,Go.undef,w',L,by simp[execOp,ho,Mi,h1],.inr ⟨rfl,rfl⟩,h2,h3,by simp[av]⟩
  |jc r ver j off=>
   rw[hd]at rx;simp only[av]at rx;obtain⟨_,ver',e,sz,rows,mA,_,qn⟩:=rx;simp only[hd,jM,mA]at aF⊢;obtain⟨rfl,hn,qJ,Qc⟩:=aF;obtain⟨g,hg,Mi,h0,h1⟩:=qn rfl;obtain⟨w',h1,h2,h3⟩:=NN hO hi mA hg h0 h1 ry hn qJ Qc;exact⟨.skip,Go.undef,w',L,by simp[execOp,ho,Mi,h1],.inr ⟨rfl,rfl⟩,h2,h3,by simp[av]⟩
  |_=>rw[hd]at aF;exact aF.elim
 case nilCheck x=>
  simp only[Zab]at hc;obtain⟨y,hy,rfl⟩:=hc;have rx:=bp.bq hO.gl gV hy;simp only[cq]at aF⊢;obtain⟨h1,h2,h3⟩:=zV rx aF;refine bQ.quiet hO h1 (v:=a.eval x) ?_ (by rw[h2];exact rx);rcases h3 with⟨p,hp⟩|⟨f,caps,hp⟩
  ·simp only[execOp,ho,hp];simp
  ·simp only[execOp,ho,hp];simp
 case binOp op t x y yt=>
  simp only[Zaf,Zac]at hc;obtain⟨x',hx,y',hy,hc⟩:=hc;have rx:=bp.bq hO.gl gV hx;have ry:=bp.bq hO.gl gV hy;unfold kF at hc;split at hc
  ·split at hc;all_goals first
    |(simp only[Zaa]at hc;subst hc;exact NR hO ho rx ry aF)
    |cases hc
  ·rename_i desc Mh hd;split at hc
   ·rename_i shs hs;split at hc
    ·cases hc
    ·rename_i hg;simp only[Zaa]at hc;subst hc;simp only[cq]at aF⊢;obtain⟨k1,k2,aF⟩:=aF;exact Gd (neg:=false) rfl ho hd (λk hk=>Mh k hk) hs (by simpa using hg) hO rx ry k1 k2 aF
   ·rename_i shs hs;split at hc
    ·cases hc
    ·rename_i hg;simp only[Zaa]at hc;subst hc;simp only[cq]at aF⊢;obtain⟨k1,k2,aF⟩:=aF;exact Gd (neg:=true) rfl ho hd (λk hk=>Mh k hk) hs (by simpa using hg) hO rx ry k1 k2 aF
   ·simp only[Zab]at hc;obtain⟨k,hk,rfl⟩:=hc;exact yb (neg:=false) hO rfl ho hd hy hk rx aF
   ·simp only[Zab]at hc;obtain⟨k,hk,rfl⟩:=hc;exact yb (neg:=true) hO rfl ho hd hy hk rx aF
   ·cases hc
  ·cases hc
 case makeMap t hint=>
  cases hint with
  |some h=>cases hc
  |none=>
   simp only at hc;split at hc
   ·simp only[Zab]at hc;obtain⟨ki,_,rfl⟩:=hc;exact Gf hO du ho _ _
   ·cases hc
 case lookup t x k ok=>
  split at hc
  ·rename_i kt et ht;split at hc
   ·rename_i ki z NV hz;simp only[Zaj,Zaf,Zac,Zaa]at hc;obtain⟨x',hx,k',hk,rfl⟩:=hc;exact D9 hO ho ht NV hz (bp.bq hO.gl gV hx) (bp.bq hO.gl gV hk) aF
   ·cases hc
  ·cases hc
 case mapUpdate t x k y=>
  split at hc
  ·rename_i kt et ht;split at hc
   ·rename_i ki NV;simp only[Zaj,Zaf,Zac,Zaa]at hc;obtain⟨x',hx,k',hk,y',hy,rfl⟩:=hc;exact Ea hO ho ht NV (bp.bq hO.gl gV hx) (bp.bq hO.gl gV hk) (bp.bq hO.gl gV hy) aF
   ·cases hc
  ·cases hc
 case mapEntry t x k=>
  split at hc
  ·rename_i kt et ht;split at hc
   ·rename_i ki z NV hz;simp only[Zaj,Zaf,Zac,Zaa]at hc;obtain⟨x',hx,k',hk,rfl⟩:=hc;exact Eb hO ho ht NV hz (bp.bq hO.gl gV hx) (bp.bq hO.gl gV hk) aF
   ·cases hc
  ·cases hc
 case entryStore t x s y=>
  simp only[Zaj,Zaf,Zac,Zaa]at hc;obtain⟨x',hx,k',hk,y',hy,rfl⟩:=hc;exact Gg hO ho (bp.bq hO.gl gV hx) (bp.bq hO.gl gV hk) (bp.bq hO.gl gV hy) aF
 case range t x=>
  split at hc
  ·rename_i kt et ht;simp only[Zab]at hc;obtain⟨x',hx,rfl⟩:=hc;exact Ec hO du ho ht (bp.bq hO.gl gV hx) aF
  ·cases hc
 case entry x=>
  simp only[Zab]at hc;obtain⟨x',hx,rfl⟩:=hc;exact aF.elim
 case index t x i=>
  split at hc
  ·rename_i ht;simp only[Zaj,Zaf,Zac,Zaa]at hc;obtain⟨x',hx,i',hi,rfl⟩:=hc;exact Ed hO ho ht (bp.bq hO.gl gV hx) (bp.bq hO.gl gV hi) aF
  ·cases hc
 case panic x=>simp only[Zaa]at hc;subst hc;exact aF.elim
 case makeInterface _ _=>simp only[Zaa]at hc;subst hc;exact aF.elim
 case unOp op t x=>
  simp only[Zab]at hc;obtain⟨y,hy,rfl⟩:=hc;have rx:=bp.bq hO.gl gV hy;unfold cq Ma at aF⊢;simp only at aF⊢;split at aF
  ·rename_i b hb;rw[hb]at rx;simp only[av,aR]at rx;split at aF
   ·exact bQ.bool hO rfl rfl (by simp[execOp,ho,rx,Op.unary])
   ·exact aF.elim
  ·rename_i k n hb;rw[hb]at rx;simp only[av,aR]at rx;split at aF
   ·exact bQ.int hO rfl rfl (by simp[execOp,ho,rx,Op.unary,Op.intArith])
   ·exact aF.elim
  ·exact aF.elim
 case convert src dst x=>
  split at hc
  ·rename_i k0 k hs hd;simp only[Zab]at hc;obtain⟨y,hy,rfl⟩:=hc;have rx:=bp.bq hO.gl gV hy;unfold cq at aF⊢;simp only at aF⊢;split at aF
   ·rename_i k1 n hb;rw[hb]at rx;simp only[av,aR]at rx;exact bQ.int hO rfl rfl (by simp[execOp,ho,rx,convert,run_underlying hs,run_underlying hd,Conv.intToInt])
   ·exact aF.elim
  ·cases hc
 case fieldAddr s x f=>
  split at hc
  ·rename_i fs hs;split at hc
   ·rename_i fd hf;split at hc
    ·rename_i fi hi;split at hc
     ·cases hc
     ·rename_i gv;simp only[Zab]at hc;obtain⟨y,hy,rfl⟩:=hc;have rx:=bp.bq hO.gl gV hy;simp only[cq]at aF⊢;obtain⟨hp,b,oo,Mi,hv⟩:=D8 rx aF;refine bQ.quiet hO hp (v:=.pointer (some ⟨b,oo+fd.offset,none⟩)) ?_ hv;simp[execOp,ho,Mi,Instr.fieldAt,run_underlying hs,hf,Instr.sureAddr,fieldPlace,run_sizeOf hi,gv,kX]
    ·cases hc
   ·cases hc
  ·cases hc
 case field s x f=>
  split at hc
  ·rename_i fs hs;split at hc
   ·rename_i fd hf;split at hc
    ·rename_i fi desc hi hd;simp only[Zab]at hc;obtain⟨y,hy,rfl⟩:=hc;have rx:=bp.bq hO.gl gV hy;simp only[cq]at aF⊢;obtain⟨hp,v,bz,hv⟩:=Gb hs hf hi hd rx aF;exact bQ.quiet hO hp (v:=v) (by simp[execOp,ho,bz]) hv
    ·cases hc
   ·cases hc
  ·cases hc
 case indexAddr t x ix=>
  split at hc
  ·rename_i e ht;split at hc
   ·rename_i i hi;simp only[Zaj,Zaf,Zac,Zaa]at hc;obtain⟨x',hx,y',hy,rfl⟩:=hc;simp only[cq]at aF⊢;obtain⟨hp,v,bz,hv⟩:=NS hO ht hi (bp.bq hO.gl gV hx) (bp.bq hO.gl gV hy) aF;exact bQ.quiet hO hp (v:=v) (by simp[execOp,ho,bz]) hv
   ·cases hc
  ·rename_i n e ht;split at hc
   ·rename_i i hi;simp only[Zaj,Zaf,Zac,Zaa]at hc;obtain⟨x',hx,y',hy,rfl⟩:=hc;simp only[cq]at aF⊢;obtain⟨hp,v,bz,hv⟩:=Ca ht hi (bp.bq hO.gl gV hx) (bp.bq hO.gl gV hy) aF;exact bQ.quiet hO hp (v:=v) (by simp[execOp,ho,bz]) hv
   ·cases hc
  ·cases hc
 case slice t x lo ni mx=>
  cases mx with
  |some m=>cases hc
  |none=>
   simp only at hc;split at hc
   ·rename_i e ht;split at hc
    ·rename_i i hi;simp only[Zaj,Zaf,Zac,Zaa]at hc;obtain⟨x',hx,lo',Wg,hi2,hhi,rfl⟩:=hc;simp only[cq]at aF⊢;obtain⟨hp,v,bz,hv⟩:=Gc hO ht hi (bp.bq hO.gl gV hx) (zW hO.gl gV Wg) (zW hO.gl gV hhi) aF;exact bQ.quiet hO hp (v:=v) (by simp[execOp,ho,bz]) hv
    ·cases hc
   ·cases hc
 case extract x i=>
  simp only[Zab]at hc;obtain⟨y,hy,rfl⟩:=hc;have rx:=bp.bq hO.gl gV hy;unfold cq o5 at aF⊢;simp only at aF⊢;split at aF
  ·rename_i ts hb;rw[hb]at rx;simp only[av,aR]at rx;obtain⟨vs,hv,hr⟩:=rx;obtain⟨v,ji,pT⟩:=dt.get hr (i:=i) (t:=ts.getD i default) (by simp[List.getD,show i<ts.length from aF]);refine bQ.quiet hO rfl (v:=v) ?_ (by simp only[av];exact pT);have:vs[i]? =some v:=by simpa using ji
   simp[execOp,ho,hv,Instr.extract,this]
  ·rename_i ds hb;rw[hb]at rx;simp only[av]at rx;obtain⟨vs,hv,hr⟩:=rx;have key:∀(ds:List DV) (vs:List Value) (i:Nat),eW w W objs L ds vs->i<ds.length->∃v,vs[i]? =some v/\av w W objs L (ds.getD i .undef) v:=by
    intro ds;induction ds with
    |nil=>intro vs i _ h;simp at h
    |cons d ds ih=>
     intro vs i h hi;simp only[eW]at h;obtain⟨v,gW,rfl,h1,h2⟩:=h;cases i with
     |zero=>exact⟨v,rfl,h1⟩
     |succ i=>simpa using ih gW i h2 (by simpa using hi)
   obtain⟨v,ji,pT⟩:=key ds _ i hr aF;refine bQ.quiet hO rfl (v:=v) ?_ pT;have:vs[i]? =some v:=by simpa using ji
   simp[execOp,ho,hv,Instr.extract,this]
  ·exact aF.elim
 case makeSlice t l c=>
  split at hc
  ·rename_i e ht;split at hc
   ·rename_i i hi;split at hc
    ·rename_i z hz;split at hc
     ·rename_i p q;split at hc
      ·rename_i hpq;obtain⟨rfl,gv⟩:=hpq;simp only[Zaj,Zaf,Zac,Zaa]at hc;obtain⟨zero,hzero,rfl⟩:=hc;simp only[cq]at aF⊢;obtain⟨v,w',L',h1,h2,h3,h4⟩:=zR hO ht hi hz gv hzero du (bp.bq hO.gl gV (x:=.tmp p) rfl) aF;exact⟨.value v,v,w',L',by simp[execOp,ho,h1],.inl rfl,h2,h3,h4⟩
      ·cases hc
     ·rename_i k p k' q;split at hc
      ·rename_i hpq;obtain⟨rfl,rfl,gv⟩:=hpq;simp only[Zaj,Zaf,Zac,Zaa]at hc;obtain⟨zero,hzero,rfl⟩:=hc;simp only[cq]at aF⊢;obtain⟨v,w',L',h1,h2,h3,h4⟩:=zR hO ht hi hz gv hzero du (bp.bq (ρ:=ρ) hO.gl gV (x:=.const (.int k p)) rfl) aF;exact⟨.value v,v,w',L',by simp[execOp,ho,h1],.inl rfl,h2,h3,h4⟩
      ·cases hc
     ·cases hc
    ·cases hc
   ·cases hc
  ·cases hc
 case makeFunc f first caps=>
  split at hc
  ·rename_i hf;simp only[Zaj,Zaf,Zac,Zaa]at hc;obtain⟨cs,mA,rfl⟩:=hc;simp only[cq]at aF⊢;have hr:aK w W objs L (cs.map (·.ev ρ)) (caps.map a.eval).toList:=by
    simpa using CJ hO.gl gV mA aF
   refine bQ.quiet hO rfl (v:=.func f #[] (caps.map a.eval)) ?_ ?_
   ·have:first= #[]:=by simpa using hf
    simp[execOp,ho,this,Instr.makeFunc]
   ·by_cases PA:uI (cs.map (·.ev ρ))=true
    ·simp only[PA,if_true,av,aR];exact⟨_,rfl,lU (wI PA) hr⟩
    ·simp only[PA];exact⟨_,rfl,hr⟩
  ·cases hc
 case call c=>
  have uR:∀{xs:List Operand},c.args.toList=xs->c.args=xs.toArray:=λh=>by rw[<-h,Array.toArray_toList]
  have htys:∀{xs:List TypeId},c.argTypes.toList=xs->c.argTypes=xs.toArray:=λh=>by rw[<-h,Array.toArray_toList]
  unfold c7 at hc;split at hc
  ·split at hc
   ·split at hc
    ·cases hc
    ·simp only[Zab]at hc;obtain⟨y,_,rfl⟩:=hc;exact absurd rfl (ya _ _)
   ·cases hc
  ·obtain⟨ys,_,rfl⟩:=Zab.1 hc;exact aF.elim
  ·rename_i jf;split at hc
   ·rename_i x t hx ht;have zb:c={callee:=.builtin .len,args:= #[x],argTypes:= #[t]}:=by
     have h1:=uR hx;have h2:=htys ht;cases c
     simp_all
    subst zb;split at hc
    ·rename_i e hu;simp only[Zab]at hc;obtain⟨y,hy,rfl⟩:=hc;exact NT hO ho hu (bp.bq hO.gl gV hy) aF
    ·rename_i hu;simp only[Zab]at hc;obtain⟨y,hy,rfl⟩:=hc;exact Jx hO ho hu (bp.bq hO.gl gV hy) aF
    ·rename_i kt et hu;simp only[Zab]at hc;obtain⟨y,hy,rfl⟩:=hc;exact JA hO ho hu (bp.bq hO.gl gV hy) aF
    ·cases hc
   ·cases hc
  ·rename_i jf;split at hc
   ·rename_i x y t t' hx ht;have zb:c={callee:=.builtin .copy,args:= #[x,y],argTypes:= #[t,t']}:=by
     have h1:=uR hx;have h2:=htys ht;cases c
     simp_all
    subst zb;split at hc
    ·rename_i e hu;split at hc
     ·rename_i i hi;simp only[Zaj,Zaf,Zac,Zaa]at hc;obtain⟨x',fX,y',Jc,rfl⟩:=hc;simp only[cq]at aF⊢;obtain⟨v,w',h1,h2,h3,h4⟩:=Ju (t:=t) (t':=t') (ty:=o.type) hO hu hi (bp.bq hO.gl gV fX) (bp.bq hO.gl gV Jc) aF;exact⟨.value v,v,w',L,by simp[execOp,ho,resolve,invoke,builtin,h1],.inl rfl,h2,h3,h4⟩
     ·cases hc
    ·cases hc
   ·cases hc
  ·rename_i jf;split at hc
   ·rename_i x k t ts' hx ht;have zb:c={callee:=.builtin .delete,args:= #[x,k],argTypes:=c.argTypes}:=by
     have h1:=uR hx;cases c
     simp_all
    have P3:c.argTypes[0]? =some t:=by rw[<-Array.getElem?_toList,ht];rfl
    split at hc
    ·rename_i kt et hu;split at hc
     ·rename_i ki NV;simp only[Zaj,Zaf,Zac,Zaa]at hc;obtain⟨x',fX,k',sQ,rfl⟩:=hc;exact Ee hO P3 (by rw[ho,<-zb]) hu NV (bp.bq hO.gl gV fX) (bp.bq hO.gl gV sQ) aF
     ·cases hc
    ·cases hc
   ·cases hc
  ·rename_i jf;split at hc
   ·rename_i x y hx;have zb:c={callee:=.builtin .min,args:= #[x,y],argTypes:=c.argTypes}:=by
     have h1:=uR hx;cases c
     simp_all
    simp only[Zaj,Zaf,Zac,Zaa]at hc;obtain⟨x',fX,y',Jc,rfl⟩:=hc;exact uN false hO (by rw[ho,zb];rfl) (bp.bq hO.gl gV fX) (bp.bq hO.gl gV Jc) aF
   ·cases hc
  ·rename_i jf;split at hc
   ·rename_i x y hx;have zb:c={callee:=.builtin .max,args:= #[x,y],argTypes:=c.argTypes}:=by
     have h1:=uR hx;cases c
     simp_all
    simp only[Zaj,Zaf,Zac,Zaa]at hc;obtain⟨x',fX,y',Jc,rfl⟩:=hc;exact uN true hO (by rw[ho,zb];rfl) (bp.bq hO.gl gV fX) (bp.bq hO.gl gV Jc) aF
   ·cases hc
  ·rename_i jf;split at hc
   ·rename_i x y t t' hx ht;have zb:c={callee:=.builtin .append,args:= #[x,y],argTypes:= #[t,t']}:=by
     have h1:=uR hx;have h2:=htys ht;cases c
     simp_all
    subst zb;split at hc
    ·cases hc
    ·rename_i WQ;have WQ:t=t':=by simpa using WQ
     subst WQ;split at hc
     ·rename_i e hu;split at hc
      ·rename_i i hi;split at hc
       ·rename_i z hz;split at hc
        ·rename_i gv;simp only[Zaj,Zaf,Zac,Zaa]at hc;obtain⟨x',fX,y',Jc,rfl⟩:=hc;simp only[cq]at aF⊢;obtain⟨v,w',L',h1,h2,h3,h4⟩:=D6 (ty:=o.type) hO hu hi hz gv.1 gv.2 du (bp.bq hO.gl gV fX) (bp.bq hO.gl gV Jc) aF;exact⟨.value v,v,w',L',by simp[execOp,ho,resolve,invoke,builtin,h1],.inl rfl,h2,h3,h4⟩
        ·cases hc
       ·cases hc
      ·cases hc
     ·cases hc
   ·cases hc
  ·cases hc
theorem NW(hO:bK base W M w0 objs w L){e sz Jd:Nat}{zero:List T}{n:bp}(hc:cD P o=some (.mkSlice e sz Jd zero n))(gV:∀t,av w W objs L (ρ t) (a.tmps.getD t Go.undef))(du:objs name=none)
  (aF:(eE sz Jd zero name (n.ev ρ)).ok):bQ P base W M w0 objs L w a o (eE sz Jd zero name (n.ev ρ)):=by
 unfold cD at hc;cases ho:o.op<;>simp only[ho,reduceCtorEq]at hc
 case makeSlice t l c=>
  split at hc
  ·rename_i e' ht;split at hc
   ·rename_i i hi;split at hc
    ·rename_i z hz;split at hc
     ·rename_i p q;split at hc
      ·rename_i hpq;obtain⟨rfl,gv⟩:=hpq;simp only[Zaj,Zaf,Zac,Zaa,nF.mkSlice.injEq]at hc;obtain⟨zero',hzero,rfl,rfl,rfl,rfl,rfl⟩:=hc;obtain⟨v,w',L',h1,h2,h3,h4⟩:=x7 hO ht hi hz hzero du (bp.bq hO.gl gV (x:=.tmp p) rfl) aF;exact⟨.value v,v,w',L',by simp[execOp,ho,h1],.inl rfl,h2,h3,h4⟩
      ·cases hc
     ·rename_i k p k' q;split at hc
      ·rename_i hpq;obtain⟨rfl,rfl,gv⟩:=hpq;simp only[Zaj,Zaf,Zac,Zaa,nF.mkSlice.injEq]at hc;obtain⟨zero',hzero,rfl,rfl,rfl,rfl,rfl⟩:=hc;obtain⟨v,w',L',h1,h2,h3,h4⟩:=x7 hO ht hi hz hzero du (bp.bq (ρ:=ρ) hO.gl gV (x:=.const (.int k p)) rfl) aF;exact⟨.value v,v,w',L',by simp[execOp,ho,h1],.inl rfl,h2,h3,h4⟩
      ·cases hc
     ·cases hc
    ·cases hc
   ·cases hc
  ·cases hc
 case binOp op t x y yt=>
  exfalso;simp only[Zaf,Zac]at hc;obtain⟨x',hx,y',hy,hc⟩:=hc;unfold kF at hc;repeat' split at hc
  all_goals first|(cases hc;done)|(simp only[Zab,reduceCtorEq,and_false,exists_false]at hc;done)
 case makeMap t h=>
  exfalso;cases h with
  |some m=>cases hc
  |none=>
   simp only at hc;split at hc
   ·simp only[Zab,reduceCtorEq,and_false,exists_false]at hc
   ·cases hc
 case slice t x lo hi mx=>
  exfalso;cases mx with
  |some m=>cases hc
  |none=>
   simp only at hc;repeat' split at hc
   all_goals simp only[Zab,Zaj,Zaf,Zac,Zaa,reduceCtorEq,and_false,exists_false]at hc
 case call c=>
  exfalso;unfold c7 at hc;repeat' split at hc
  all_goals first
   |(cases hc;done)
   |(simp only[Zab,Zaj,Zaf,Zac,Zaa,reduceCtorEq,and_false,exists_false]at hc;done)
   |skip
 all_goals exfalso
 all_goals first
  |(simp only[Zab,reduceCtorEq,and_false,exists_false]at hc;done)
  |(simp only[Zaj,Zaf,Zac,Zaa,reduceCtorEq,and_false,exists_false]at hc;done)
  |(repeat' split at hc)<;>first
    |(simp only[Zab,Zaj,Zaf,Zac,Zaa,reduceCtorEq,and_false,exists_false]at hc;done)
    |(simp[Zac]at hc;done)
theorem no_mkB{e sz Jd:Nat}{zero:List T}{n:bp}(hc:cD P o=some (.mkSliceB e sz Jd zero n)):False:=by
 unfold cD at hc;cases ho:o.op<;>simp only[ho,reduceCtorEq]at hc
 case makeSlice t l c=>
  repeat' split at hc
  all_goals first
   |(cases hc;done)
   |(simp only[Zaj,Zaf,Zac,Zaa,reduceCtorEq,and_false,exists_false]at hc;done)
 case binOp op t x y yt=>
  simp only[Zaf,Zac]at hc;obtain⟨x',hx,y',hy,hc⟩:=hc;unfold kF at hc;repeat' split at hc
  all_goals first|(cases hc;done)|(simp only[Zab,reduceCtorEq,and_false,exists_false]at hc;done)
 case makeMap t h=>
  cases h with
  |some m=>cases hc
  |none=>
   simp only at hc;split at hc
   ·simp only[Zab,reduceCtorEq,and_false,exists_false]at hc
   ·cases hc
 case slice t x lo hi mx=>
  cases mx with
  |some m=>cases hc
  |none=>
   simp only at hc;repeat' split at hc
   all_goals simp only[Zab,Zaj,Zaf,Zac,Zaa,reduceCtorEq,and_false,exists_false]at hc
 case call c=>
  unfold c7 at hc;repeat' split at hc
  all_goals first
   |(cases hc;done)
   |(simp only[Zab,Zaj,Zaf,Zac,Zaa,reduceCtorEq,and_false,exists_false]at hc;done)
 all_goals first
  |(simp only[Zab,reduceCtorEq,and_false,exists_false]at hc;done)
  |(simp only[Zaj,Zaf,Zac,Zaa,reduceCtorEq,and_false,exists_false]at hc;done)
  |(repeat' split at hc)<;>first
    |(simp only[Zab,Zaj,Zaf,Zac,Zaa,reduceCtorEq,and_false,exists_false]at hc;done)
    |(simp[Zac]at hc;done)
end
end Go.DM
