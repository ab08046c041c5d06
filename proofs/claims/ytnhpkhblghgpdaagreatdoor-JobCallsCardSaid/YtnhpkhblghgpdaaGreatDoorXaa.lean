/- Part. Conditions: none. -/
import Derived.Below
import Derived.CallsIn
import Derived.Laws.AppendOwn
import Derived.Laws.AppendOwnNone
import Derived.Laws.MakeOwn
import Derived.Laws.World
import Derived.Laws.Cells
import Derived.Laws.Small
import Derived.Laws.Entries
import Derived.Laws.Strings
import Derived.Laws.StructEq
import Derived.Laws.Shifts
set_option linter.all false
namespace Go.DM
def aW{α:Sort _}(a:α):∃b,a=b:=⟨a,rfl⟩
def cI:=@Option.some.injEq
def bj:=@if_neg
def jm:=@Int.eq_ofNat_of_zero_le
def jr:=@Option.map_eq_some_iff
def kb:=@Option.bind_eq_some_iff
def iA:=@Int.toNat_natCast
def fQ:=@Nat.add_assoc
def eF:=@Nat.le_refl
def cG:=@if_pos
def gm:=@List.mem_cons
def lp:=@Option.bind_eq_bind
def iF:=@List.mem_map
def lZ:=@List.not_mem_nil
def mX:=@Bool.and_eq_true
def pe:=@List.mem_singleton
def mF:=@Option.pure_def
def w7:=@Array.getElem?_eq_some_iff
def xi:=@List.getElem?_eq_getElem
def p7:=@of_decide_eq_true
def eK:=@absurd
def oJ:=@List.mem_append
def sa:=@decide_eq_true_eq
def uO:=@of_decide_eq_false
def zM:=@decide_eq_false_iff_not
def oL:=@Prod.mk.injEq
def DA:=@List.getElem?_eq_some_iff
def zK:=@List.mem_of_getElem?
def rW:=@List.map_cons
def xj:=@List.length_take
def yZ:=@List.foldl_append
def km:=@if_true
def lS:=@or_false
def DB:=@List.mem_of_mem_take
def xP:=@List.append_nil
def Ln:=@List.eq_nil_of_length_eq_zero
def IS:=@List.getElem?_cons_zero
def zQ:=@List.nil_append
def Oy:=@Array.getD_eq_getD_getElem?
def GY:=@Nat.pos_iff_ne_zero
def EN:=@List.length_append
def EQ:=@Bool.false_ne_true
def xl:=@exists_false
def B3:=@List.range_succ
def Dy:=@List.cons_append
def CD:=@List.foldl_cons
def HS:=@List.getElem_of_mem
def yI:=@Nat.le_trans
def Hv:=@List.getElem?_take
def rO:=@true_and
def uP:=@and_assoc
def TG:=@List.mem_or_eq_of_mem_set
def Nr:=@List.length_pos_iff
def HH:=@List.all_eq_true
def xk:=@and_false
def KQ:=@List.mem_flatMap
def Ou:=@Bool.false_eq_true
def TE:=@List.take_of_length_le
def OV:=@List.replicate_succ
def Jv:=@List.map_append
def Dw:=@Nat.add_mul
def xd:=@if_false
def OL:=@List.pairwise_cons
def KU:=@List.cons.injEq
def IM:=@List.mem_range
def Rg:=@Array.length_toList
def On:=@List.filter_cons
def Oq:=@List.length_cons
def K9:=@List.find?_cons
def KS:=@List.mapM_cons
def VO:=@List.mem_cons_of_mem
def OA:=@Option.map_some
def Pt:=@List.getElem_mem
def Zbk:=@List.getElem?_append_right
def Zbl:=@List.getElem?_cons_succ
def Zbm:=@List.getElem?_append_left
def Rs:=@Option.getD_some
def TS:=@Bool.not_eq_true'
def VC:=@List.findIdx?_cons
def VD:=@List.filter_append
def KR:=@Nat.zero_add
def VN:=@List.mem_cons_self
def Zbt:=@List.getElem?_eq_none
def Rt:=@List.mem_filter
def RB:=@List.length_map
def UO:=@List.ext_getElem
def Zbx:=@Nat.mul_le_mul_right
def KT:=@Nat.zero_le
def Zbz:=@List.findIdx?_eq_some_iff_getElem
def VF:=@List.length_drop
def ZbB:=@Option.isSome_iff_exists
def ZbC:=@List.map_congr_left
def ZbD:=@List.take_append_drop
def V0:=@List.flatMap_cons
def V9:=@List.flatten_cons
def ZbG:=@List.drop_eq_nil_of_le
def ZbH:=@List.getElem?_map
def ZbI:=@List.take_add_one
def ZbJ:=@List.length_replicate
def ZbK:=@Nat.lt_of_lt_of_le
def ZbL:=@List.getElem?_drop
def ZbM:=@List.mem_filterMap
def ZbN:=@List.take_length
def LD:=@forall_eq
def ZbP:=@List.getElem?_set
def JD:=@false_or
def ZbR:=@Array.getElem?_eq_getElem
def ZbS:=@List.getElem?_eq_none_iff
def ZbT:=@List.drop_eq_getElem_cons
def ZbU:=@List.set_append_right
def ZbV:=@List.eq_of_mem_replicate
def ZbW:=@Array.append_empty
def ZbX:=@List.getElem_range
def ZbY:=@Nat.lt_of_not_le
def VP:=@List.map_nil
def Zb0:=@List.getElem_map
def Zb1:=@List.mem_of_mem_drop
def Zb2:=@List.append_assoc
def Zb3:=@List.ext_getElem?
def Lt:=@and_true
def Zb5:=@Option.ne_none_iff_exists'
def Zb6:=@List.getElem_set
def Zb7:=@List.set_cons_zero
def Zb8:=@Array.getElem?_toList
def Zb9:=@List.contains_iff_mem
def Zca:=@Option.some.inj
def Zcb:=@Nat.add_zero
def Zcc:=@Bool.eq_iff_iff
def Zcd:=@List.getElem?_of_mem
def Zce:=@List.map_set
def Zcf:=@Array.getElem?_setIfInBounds
def Zcg:=@Nat.lt_succ_self
def Zch:=@List.nodup_nil
def Zci:=@List.set_cons_succ
def Zcj:=@Bool.or_eq_true
def Zck:=@List.mem_append_right
def Zcl:=@List.modify_succ_cons
def Zcm:=@List.length_range
def Zcn:=@List.mem_range'_1
def Zco:=@List.nodup_append
def Zcp:=@List.mem_of_find?_eq_some
def Zcq:=@beq_iff_eq
def Zcr:=@List.replicate_succ'
def Zcs:=@List.findIdx?_eq_none_iff
def Zct:=@List.foldl_nil
def Zcu:=@Nat.sub_zero
def Zcv:=@List.any_eq_true
def Zcw:=@List.take_succ_cons
def Zcx:=@List.replicate_zero
def Zcy:=@List.getElem?_replicate
def Zcz:=@List.map_take
def ZcA:=@List.length_nil
def ZcB:=@Int.mul_le_mul_of_nonneg_right
def ZcC:=@List.any_eq_false
def ZcD:=@List.getElem_drop
def ZcE:=@List.drop_zero
def ZcF:=@List.modify_zero_cons
def ZcG:=@Nat.sub_self
def ZcH:=@Int.mul_nonneg
def ZcI:=@Array.toArray_toList
def ZcJ:=@Option.bind_some
def ZcK:=@Bool.not_true
def ZcL:=@Int.le_refl
def ZcM:=@List.getD_cons_succ
def ZcN:=@List.flatMap_append
def ZcO:=@List.nodup_cons
def ZcP:=@Array.mapM_eq_mapM_toList
def ZcQ:=@List.count_cons
def ZcR:=@Nat.add_sub_cancel
def ZcS:=@List.mem_of_mem_eraseIdx
def ZcT:=@Int.natCast_nonneg
def ZcU:=@List.count_pos_iff
def ZcV:=@List.foldl_map
def ZcW:=@List.pairwise_map
def ZcX:=@List.getElem_take
def ZcY:=@Bool.true_and
def ZcZ:=@List.all_cons
def Zc0:=@Nat.mod_eq_of_lt
def Zc1:=@List.zipIdx_cons
def Zc2:=@List.countP_cons
def Zc3:=@Nat.zero_mul
def Zc4:=@List.forIn_cons
def Zc5:=@List.getElem?_append
def Zc6:=@not_or
def Zc7:=@List.find?_eq_some_iff_getElem
def Zc8:=@Int.mul_le_mul_of_nonneg_left
def Zc9:=@List.flatten_append
def Zda:=@Array.toList_modify
def Zdb:=@List.filterMap_cons
def Zdc:=@List.take_take
def Zdd:=@List.drop_drop
def Zde:=@dif_neg
def Zdf:=@Nat.mul_le_mul
def Zdg:=@dif_pos
def Zdh:=@Int.toNat_zero
def Zdi:=@List.find?_eq_none
def Zdj:=@Nat.eq_zero_or_pos
def Zdk:=@Array.getElem?_append_left
def Zdl:=@bne_iff_ne
def Zdm:=@List.pairwise_iff_getElem
def Zdn:=@List.take_append
def Zdo:=@List.range'_succ
def Zdp:=@Bool.not_eq_true
def Zdq:=@List.map_map
def Zdr:=@Nat.lt_or_ge
def Zds:=@List.length_eq_zero_iff
def Zdt:=@List.find?_some
def Zdu:=@List.length_set
def Zdv:=@List.take_left'
def Zdw:=@Nat.min_eq_left
def Zdx:=@List.range_zero
def Zdy:=@Nat.le_succ
def Zdz:=@List.Perm.refl
def ZdA:=@List.modify_id
def ZdB:=@false_implies
section
abbrev f9:=Nat->Prop
abbrev bY:=List Int
abbrev cY:=List Nat
section
variable{w':World}{W':f9}
inductive T where
 |bool (b:Bool)
 |int (k:IntKind) (n:Int)
 |str (s:ByteArray)
 |sl (aw:List (List T))
 |agg (cs:List T)
 |eE (vs:List T)
 |fn (f:Fn) (cA:List T)
 |box (cs:List T)
 |w6 (v:Value)
abbrev aK:=List T
abbrev axZ:=List aK
instance:Inhabited T:=⟨.bool false⟩
section
variable(w:World)(W:f9)
mutual
def bw:T->Value->Prop
 |.bool b,v=>v=.bool b
 |.int k n,v=>v=.int k n
 |.str s,v=>v=.string s
 |.sl aw,v=>(aw=[]/\∃(a:Option Addr) (cap:Nat),v=.slice a 0 cap)\/
   ∃b o cap sz,v=.slice (some ⟨b,o,none⟩) aw.length cap/\b<w.heap.size/\¬W b/\aw.length<=cap/\bL sz b o aw
 |.agg cs,v=>∃vs,v=.agg vs/\bu cs vs.toList
 |.eE ts,v=>∃vs,v=.tuple vs/\gH ts vs.toList
 |.fn f cA,v=>∃vs,v=.func f #[] vs/\bu cA vs.toList
 |.box cs,v=>∃b o,v=.pointer (some ⟨b,o,none⟩)/\b<w.heap.size/\¬W b/\eQ b o cs
 |.w6 x,v=>v=x
def bu:aK->List Value->Prop
 |[],vs=>vs=[]
 |t::ts,vs=>∃v kj,vs=v::kj/\v.oneCell'=true/\bw t v/\bu ts kj
def gH:aK->List Value->Prop
 |[],vs=>vs=[]
 |t::ts,vs=>∃v kj,vs=v::kj/\bw t v/\gH ts kj
def eQ:Nat->Nat->aK->Prop
 |_,_,[]=>True
 |b,o,t::ts=>(∃v,w.cell? ⟨b,o,none⟩=some v/\v.oneCell'=true/\bw t v)/\eQ b (o+1) ts
def bL:Nat->Nat->Nat->List (aK)->Prop
 |_,_,_,[]=>True
 |sz,b,o,r::rs=>r.length=sz/\eQ b o r/\bL sz b (o+sz) rs
end
end
structure KeepsC(W:f9)(w w':World):Prop where
 size:w.heap.size<=w'.heap.size
 kx:∀(b:Nat) c e fr,w.heap[b]? =some (.cells c e fr)->¬W b->w'.heap[b]? =some (.cells c e fr)
structure dJ(W:f9)(w w':World):Prop extends KeepsC W w w' where
 VE:∀b:Nat,w.heap[b]? =some (Obj.deferred (some []))->w'.heap[b]? =some (Obj.deferred (some []))
 V6:∀(b:Nat) r,w.heap[b]? =some (Obj.loop r)->w'.heap[b]? =some (Obj.loop r)
def KeepsC.cell{W:f9}{w:World}(h:KeepsC W w w'){b o:Nat}{v:Value}(hn:¬W b)(hc:w.cell? ⟨b,o,none⟩=some v):w'.cell? ⟨b,o,none⟩=some v:=by
 unfold World.cell? at hc⊢;simp only at hc⊢;split at hc
 ·rename_i c e fr hb;rw[h.kx b c e fr hb hn];exact hc
 ·cases hc
def dJ.refl(W:f9)(w:World):dJ W w w:=⟨⟨eF _,λ_ _ _ _ h _=>h⟩,λ_ h=>h,λ_ _ h=>h⟩
def dJ.mono{W:f9}{a b:World}(h:dJ W a b)(hw:∀i,W i->W' i):dJ W' a b:=
 ⟨⟨h.size,λi c e fr hi hn=>h.kx i c e fr hi λx=>hn (hw i x)⟩,h.VE,h.V6⟩
structure xQ(B:Nat)(w w':World):Prop extends RowKit.Below B w w' where
 drawn:w.drawn<=w'.drawn
def dJ.V7{W:f9}{w:World}(h:RowKit.Below w.heap.size w w'):dJ W w w':=
 ⟨⟨h.size,λb c e fr hb _=>(h.block b (w7.1 hb).1).trans hb⟩,λb hb=>(h.block b (w7.1 hb).1).trans hb,λb r hb=>(h.block b (w7.1 hb).1).trans hb⟩
mutual
def bw.bi{w w':World}{W W':f9}(h:KeepsC W w w')(hW:∀b,b<w.heap.size->W' b->W b):∀(t:T) (v:Value),bw w W t v->bw w' W' t v
 |.bool b,v,r=>by simpa [bw]using r
 |.int k n,v,r=>by simpa [bw]using r
 |.w6 x,v,r=>by simpa [bw]using r
 |.str s,v,r=>by simpa [bw]using r
 |.sl aw,v,r=>by
  simp only[bw]at r⊢;rcases r with r|⟨b,o,cap,sz,hv,hb,hn,hc,hr⟩
  ·exact .inl r
  ·exact .inr ⟨b,o,cap,sz,hv,ZbK hb h.size,λx=>hn (hW b hb x),hc,bL.bi h hW hb hn sz o aw hr⟩
 |.agg cs,v,r=>by
  simp only[bw]at r⊢;obtain⟨vs,hv,hr⟩:=r;exact⟨vs,hv,bu.bi h hW cs _ hr⟩
 |.eE ts,v,r=>by
  simp only[bw]at r⊢;obtain⟨vs,hv,hr⟩:=r;exact⟨vs,hv,gH.bi h hW ts _ hr⟩
 |.fn f cA,v,r=>by
  simp only[bw]at r⊢;obtain⟨vs,hv,hr⟩:=r;exact⟨vs,hv,bu.bi h hW cA _ hr⟩
 |.box cs,v,r=>by
  simp only[bw]at r⊢;obtain⟨b,o,hv,hb,hn,hr⟩:=r;exact⟨b,o,hv,ZbK hb h.size,λx=>hn (hW b hb x),eQ.bi h hW hb hn o cs hr⟩
def bu.bi{w w':World}{W W':f9}(h:KeepsC W w w')(hW:∀b,b<w.heap.size->W' b->W b):∀(ts:aK) (vs:List Value),bu w W ts vs->bu w' W' ts vs
 |[],vs,r=>by simpa [bu]using r
 |t::ts,vs,r=>by
  simp only[bu]at r⊢;obtain⟨v,kj,hv,h1,hr,nR⟩:=r;exact⟨v,kj,hv,h1,bw.bi h hW t v hr,bu.bi h hW ts kj nR⟩
def gH.bi{w w':World}{W W':f9}(h:KeepsC W w w')(hW:∀b,b<w.heap.size->W' b->W b):∀(ts:aK) (vs:List Value),gH w W ts vs->gH w' W' ts vs
 |[],vs,r=>by simpa [gH]using r
 |t::ts,vs,r=>by
  simp only[gH]at r⊢;obtain⟨v,kj,hv,hr,nR⟩:=r;exact⟨v,kj,hv,bw.bi h hW t v hr,gH.bi h hW ts kj nR⟩
def eQ.bi{w w':World}{W W':f9}(h:KeepsC W w w')(hW:∀b,b<w.heap.size->W' b->W b){b:Nat}(hb:b<w.heap.size)(hn:¬W b):∀(o:Nat) (ts:aK),eQ w W b o ts->eQ w' W' b o ts
 |_,[],_=>by simp[eQ]
 |o,t::ts,r=>by
  simp only[eQ]at r⊢;obtain⟨⟨v,hc,h1,hr⟩,nR⟩:=r;exact⟨⟨v,h.cell hn hc,h1,bw.bi h hW t v hr⟩,eQ.bi h hW hb hn (o+1) ts nR⟩
def bL.bi{w w':World}{W W':f9}(h:KeepsC W w w')(hW:∀b,b<w.heap.size->W' b->W b){b:Nat}(hb:b<w.heap.size)(hn:¬W b)(sz:Nat):∀(o:Nat) (rs:List (aK)),bL w W sz b o rs->bL w' W' sz b o rs
 |_,[],_=>by simp[bL]
 |o,r::rs,x=>by
  simp only[bL]at x⊢;exact⟨x.1,eQ.bi h hW hb hn o r x.2.1,bL.bi h hW hb hn sz (o+sz) rs x.2.2⟩
end
section
variable{w:World}{W:f9}
def bL.row{sz b:Nat}:∀{aw:List (aK)} {o i:Nat} {r:aK},bL w W sz b o aw->aw[i]? =some r->r.length=sz/\eQ w W b (o+i*sz) r
 |[],_,_,_,_,h=>by simp at h
 |x::xs,o,0,r,hr,h=>by
  simp only[bL]at hr;simp only[IS,cI]at h;subst h;simpa using⟨hr.1,hr.2.1⟩
 |x::xs,o,i+1,r,hr,h=>by
  simp only[bL]at hr;simp only[Zbl]at h;have:=bL.row hr.2.2 h;rw[show o+(i+1)*sz=o+sz+i*sz by rw[Dw];omega];exact this
def eQ.EE{b:Nat}:∀(ts:aK) (o:Nat),(∀j t,ts[j]? =some t->∃v,w.cell? ⟨b,o+j,none⟩=some v/\v.oneCell'=true/\bw w W t v)->eQ w W b o ts
 |[],_,_=>by simp[eQ]
 |t::ts,o,h=>by
  simp only[eQ];refine⟨by simpa using h 0 t (by simp),eQ.EE ts (o+1) λj u hu=>?_⟩;have:=h (j+1) u (by simpa using hu)
  rwa [show o+1+j=o+(j+1)by omega]
def bL.DU{sz b:Nat}:∀(rs:List (aK)) (o:Nat),(∀i r,rs[i]? =some r->r.length=sz/\eQ w W b (o+i*sz) r)->bL w W sz b o rs
 |[],_,_=>by simp[bL]
 |r::rs,o,h=>by
  simp only[bL];have h0:=h 0 r (by simp);refine⟨h0.1,by simpa using h0.2,bL.DU rs (o+sz) λi u hu=>?_⟩;have:=h (i+1) u (by simpa using hu)
  rwa [show o+sz+i*sz=o+(i+1)*sz by rw[Dw];omega]
def bu.length:∀{ts:aK} {vs:List Value},bu w W ts vs->vs.length=ts.length
 |[],_,h=>by simp only[bu]at h;simp[h]
 |_::ts,_,h=>by
  simp only[bu]at h;obtain⟨v,kj,rfl,_,_,hr⟩:=h;simp[bu.length hr]
def gH.length:∀{ts:aK} {vs:List Value},gH w W ts vs->vs.length=ts.length
 |[],_,h=>by simp only[gH]at h;simp[h]
 |_::ts,_,h=>by
  simp only[gH]at h;obtain⟨v,kj,rfl,_,hr⟩:=h;simp[gH.length hr]
def bu.get:∀{ts:aK} {vs:List Value} {i:Nat} {t:T},bu w W ts vs->ts[i]? =some t->∃v,vs[i]? =some v/\v.oneCell'=true/\bw w W t v
 |[],_,_,_,_,h=>by simp at h
 |x::xs,_,0,t,hr,h=>by
  simp only[bu]at hr;obtain⟨v,kj,rfl,h1,h2,_⟩:=hr;simp only[IS,cI]at h;subst h;exact⟨v,rfl,h1,h2⟩
 |x::xs,_,i+1,t,hr,h=>by
  simp only[bu]at hr;obtain⟨v,kj,rfl,_,_,hr⟩:=hr;simpa using bu.get hr (by simpa using h)
def gH.get:∀{ts:aK} {vs:List Value} {i:Nat} {t:T},gH w W ts vs->ts[i]? =some t->∃v,vs[i]? =some v/\bw w W t v
 |[],_,_,_,_,h=>by simp at h
 |x::xs,_,0,t,hr,h=>by
  simp only[gH]at hr;obtain⟨v,kj,rfl,h2,_⟩:=hr;simp only[IS,cI]at h;subst h;exact⟨v,rfl,h2⟩
 |x::xs,_,i+1,t,hr,h=>by
  simp only[gH]at hr;obtain⟨v,kj,rfl,_,hr⟩:=hr;simpa using gH.get hr (by simpa using h)
end
class bK where
 cells:List (Nat×aK)
abbrev bK.none:bK:=⟨[]⟩
def GW [bK](w:World)(W:f9):Prop:=∀p∈bK.cells,p.1<w.heap.size/\¬W p.1/\eQ w W p.1 0 p.2
def GW.bi [bK]{w:World}{W:f9}(h:GW w W)(hk:KeepsC W w w')(hW:∀b,b<w.heap.size->W' b->W b):GW w' W':=λp hp=>by
 obtain⟨h1,h2,h3⟩:=h p hp;exact⟨ZbK h1 hk.size,λx=>h2 (hW _ h1 x),eQ.bi hk hW h1 h2 0 p.2 h3⟩
def GW.empty(w:World)(W:f9): @GW bK.none w W:=λp hp=>by cases hp
end
end
section
inductive DV where
 |undef
 |skip
 |v (t:T)
 |bH
 |ptr (r off:Nat)
 |bE (r bP:Nat)
 |nz (aw:List (aK)) (i:Int) (off:Nat)
 |kP (cs:aK) (off:Nat)
 |ln (r bP:Nat) (i:Int) (off:Nat)
 |agg (cs:List DV)
 |OR
 |jG (r:Nat)
 |cX (r:Nat)
 |eE (ds:List DV)
 |w8 (r bP lo n:Nat)
 |pf (f:Fn) (cA:List DV)
 |G2 (r n:Nat)
abbrev dG:=Nat->DV
abbrev fg:=List (Nat×DV)
abbrev bM:=List DV
instance:Inhabited DV:=⟨.undef⟩
inductive Sh where
 |bool|int (k:IntKind)|str
def IU:Sh->T->Bool
 |.bool,.bool _=>true
 |.int k,.int k' _=>k==k'
 |.str,.str _=>true
 |_,_=>false
def fq:List Sh->aK->Prop
 |[],ts=>ts=[]
 |s::ss,t::ts=>IU s t=true/\fq ss ts
 |_::_,[]=>False
inductive Ob where
 |box (cs:bM)
 |bJ (bP e sz:Nat) (aw:List (aK))
 |map (cL:List Sh) (agg:Bool) (bG:Nat) (es:List (Nat×T×DV))
 |cX (m ax0:Nat) (seen:cY) (amp:Nat)
abbrev df:=List (Nat×Ob)
def Ob.kind:Ob->Nat
 |.box _=>0
 |.bJ _ _ _ _=>1
 |.map _ _ _ _=>2
 |.cX _ _ _ _=>3
abbrev bF:=Nat->Option Ob
structure mK where
 tmps:dG
 ab:bF
 aJ:Nat
 low:Nat
 todo:List (aK)
inductive cg where
 |tmp (t:Nat)
 |yF (d:DV)
def cg.ev(ρ:dG):cg->DV
 |.tmp t=>ρ t
 |.yF d=>d
structure gC where
 ok:Prop
 val:DV
 ab:bF
structure Spec where
 pre:aK->Prop
 fn:aK->T
 ky:Bool
 st:Option (bM->bF->gC):=none
 fresh:Option (Nat×Nat):=none
 gQ:Bool:=false
abbrev pW:=FuncId->Option Spec
inductive tZ where
 |Hr (x:cg)
 |pick (c a b:cg)
 |alloc (zero:bM)
 |box (x:cg)
 |build (zero:bM) (parts:List (Nat×Nat×cg))
 |bslice (len sz:Nat) (zero:bM) (parts:List (Nat×Nat×cg))
 |load (n:Nat) (agg:Bool) (x:cg)
 |store (n:Nat) (x y:cg)
 |bin (op:BinOp) (x y:cg)
 |eqT (neg agg:Bool) (cL:List Sh) (x y:cg)
 |un (op:UnOp) (x:cg)
 |conv (k:IntKind) (x:cg)
 |addOff (k:Nat) (x:cg)
 |nilCheck (x:cg)
 |idxAddr (sz:Nat) (x i:cg)
 |arrAddr (len sz:Nat) (x i:cg)
 |field (off n:Nat) (agg:Bool) (x:cg)
 |slice (sz:Nat) (x:cg) (lo hi:Option cg)
 |extract (i:Nat) (x:cg)
 |call (f:FuncId) (args:List cg)
 |callS (f:FuncId) (args:List cg)
 |callF (f:FuncId) (args:List cg)
 |callR (f:FuncId) (args:List cg)
 |callv (x:cg) (args:List cg)
 |len (x:cg)
 |lenS (x:cg)
 |minmax (Li:Bool) (x y:cg)
 |append (e sz bytes:Nat) (x y:cg)
 |mkSlice (e sz bytes:Nat) (zero:aK) (n:cg)
 |mkSliceB (e sz bytes:Nat) (zero:aK) (n:cg)
 |mkFn (f:Fn) (cA:List cg)
 |mkMap (cL:List Sh) (agg:Bool)
 |lookup (cL:List Sh) (agg:Bool) (zero:DV) (ok:Bool) (x k:cg)
 |mapUpd (cL:List Sh) (agg:Bool) (x k y:cg)
 |mapDel (cL:List Sh) (agg:Bool) (x k:cg)
 |mapEnt (cL:List Sh) (agg:Bool) (zero:DV) (x k:cg)
 |entSt (x s y:cg)
 |lenM (x:cg)
 |rangeM (x:cg)
 |entryM (x:cg)
 |copy (sz:Nat) (x y:cg)
 |isNil (kind:Nat) (neg:Bool) (x:cg)
 |indexS (x i:cg)
 |fail
structure tq where
 ok:Prop
 val:DV
 put:Option (Nat×Ob):=none
def dm:tq:=⟨False,.undef,none⟩
def EF:T->Bool
 |.agg _|.eE _=>false
 |.w6 v=>v.oneCell'
 |_=>true
def cellsOf:DV->bM
 |.v (.agg cs)=>cs.map .v
 |.agg cs=>cs
 |d=>[d]
def ov:DV->Prop
 |.undef=>False
 |.skip=>False
 |.v (.eE _)=>False
 |.v (.w6 x)=>x.oneCell'=true
 |.eE _=>False
 |_=>True
mutual
def vu(ab:bF):DV->T
 |.v t=>t
 |.bH=>.sl []
 |.bE r _=>match ab r with|some (.bJ _ _ _ aw)=>.sl aw|_=>.sl []
 |.agg cs=>.agg (ka ab cs)
 |.w8 r _ lo n=>match ab r with|some (.bJ _ _ _ aw)=>.sl ((aw.drop lo).take n)|_=>.sl []
 |.pf f cA=>.fn f (ka ab cA)
 |_=>.w6 undef
def ka(ab:bF):bM->aK
 |[]=>[]
 |d::ds=>vu ab d::ka ab ds
end
mutual
def GX(gQ:Bool)(ab:bF):DV->Prop
 |.v _=>True
 |.bH=>True
 |.bE r bP=>gQ=true/\match ab r with|some (.bJ cJ _ _ _)=>bP=cJ|_=>False
 |.agg cs=>vv gQ ab cs
 |.w8 r bP lo n=>gQ=true/\match ab r with|some (.bJ cJ _ _ aw)=>bP=cJ/\lo+n<=aw.length|_=>False
 |.pf _ cA=>vv gQ ab cA
 |_=>False
def vv(gQ:Bool)(ab:bF):bM->Prop
 |[]=>True
 |d::ds=>GX gQ ab d/\vv gQ ab ds
end
def vX:DV->Prop
 |.v t=>EF t=true
 |.bH=>True
 |_=>False
def jZ:bM->Prop
 |[]=>True
 |d::ds=>vX d/\jZ ds
def zV:bM->Bool
 |[]=>true
 |.v t::ds=>EF t&&zV ds
 |.bH::ds=>zV ds
 |_::_=>false
def lH:DV->Prop
 |.undef=>False
 |.skip=>False
 |.v t=>EF t=true
 |.agg _=>False
 |.eE _=>False
 |_=>True
def fM:bM->Prop
 |[]=>True
 |d::ds=>lH d/\fM ds
def cS{α:Type}(l:List α)(off:Nat)(new:List α):List α:=l.take off++new++l.drop (off+new.length)
def x8(cells:bM):List (Nat×Nat×DV)->bM
 |[]=>cells
 |(off,_,d)::ps=>x8 (cS cells off (cellsOf d)) ps
def vY(n:Nat):List (Nat×Nat×DV)->Prop
 |[]=>True
 |(off,sz,d)::ps=>(cellsOf d).length=sz/\off+sz<=n/\fM (cellsOf d)/\vY n ps
def rowAt(aw:List (aK))(i:Int):aK:=aw.getD i.toNat []
def eX(sz:Nat):Nat->aK->List (aK)
 |0,_=>[]
 |n+1,cs=>cs.take sz::eX sz n (cs.drop sz)
def jH(n:Nat)(agg:Bool)(ab:bF):DV->tq
 |.ptr r off=>match ab r with
  |some (.box cs)=>⟨off+n<=cs.length/\(agg=true\/n=1),if agg then .agg ((cs.drop off).take n)else cs.getD off .undef,none⟩
  |_=>dm
 |.nz aw i off=>⟨off+n<=(rowAt aw i).length/\(agg=true\/n=1),if agg then .v (.agg (((rowAt aw i).drop off).take n))else .v ((rowAt aw i).getD off default),none⟩
 |.kP cs off=>⟨off+n<=cs.length/\(agg=true\/n=1),if agg then .v (.agg ((cs.drop off).take n))else .v (cs.getD off default),none⟩
 |.v (.box cs)=>⟨n<=cs.length/\(agg=true\/n=1),if agg then .v (.agg (cs.take n))else .v (cs.getD 0 default),none⟩
 |.ln r bP i off=>match ab r with
  |some (.bJ cJ _ _ aw)=>⟨bP=cJ/\off+n<=(rowAt aw i).length/\(agg=true\/n=1),if agg then .v (.agg (((rowAt aw i).drop off).take n))else .v ((rowAt aw i).getD off default),none⟩
  |_=>dm
 |_=>dm
def mS(n:Nat)(ab:bF)(y:DV):DV->tq
 |.ptr r off=>match ab r with
  |some (.box cs)=>⟨(cellsOf y).length=n/\off+n<=cs.length/\fM (cellsOf y),.undef,some (r,.box (cS cs off (cellsOf y)))⟩
  |_=>dm
 |.ln r bP i off=>match ab r with
  |some (.bJ cJ e sz aw)=>⟨bP=cJ/\(cellsOf y).length=n/\off+n<=sz/\jZ (cellsOf y),.undef,
    some (r,.bJ cJ e sz (aw.set i.toNat (cS (rowAt aw i) off (ka ab (cellsOf y)))))⟩
  |_=>dm
 |_=>dm
def vZ(op:BinOp):DV->DV->tq
 |.v (.int k a),.v (.int k' b)=>match op with
  |.add=>⟨k=k',.v (.int k (k.wrap (a+b))),none⟩
  |.sub=>⟨k=k',.v (.int k (k.wrap (a-b))),none⟩
  |.mul=>⟨k=k',.v (.int k (k.wrap (a*b))),none⟩
  |.quo=>⟨k=k'/\b≠0,.v (.int k (k.wrap (a.tdiv b))),none⟩
  |.rem=>⟨k=k'/\b≠0,.v (.int k (a.tmod b)),none⟩
  |.eql=>⟨k=k',.v (.bool (decide (a=b))),none⟩
  |.neq=>⟨k=k',.v (.bool (!decide (a=b))),none⟩
  |.lss=>⟨k=k',.v (.bool (decide (a<b))),none⟩
  |.leq=>⟨k=k',.v (.bool (decide (a<=b))),none⟩
  |.gtr=>⟨k=k',.v (.bool (decide (b<a))),none⟩
  |.geq=>⟨k=k',.v (.bool (decide (b<=a))),none⟩
  |.shl=>⟨0<=b,.v (.int k (k.wrap (a*2^min b.toNat k.bits))),none⟩
  |.shr=>⟨0<=b,.v (.int k (a/2^min b.toNat k.bits)),none⟩
  |.and=>⟨k=k',.v (.int k (k.wrap (BitVec.ofInt k.bits a&&&BitVec.ofInt k.bits b).toNat)),none⟩
  |.or=>⟨k=k',.v (.int k (k.wrap (BitVec.ofInt k.bits a|||BitVec.ofInt k.bits b).toNat)),none⟩
  |.xor=>⟨k=k',.v (.int k (k.wrap (BitVec.ofInt k.bits a^^^BitVec.ofInt k.bits b).toNat)),none⟩
  |_=>dm
 |_,_=>dm
mutual
def iG:T->T->Bool
 |.bool a,.bool b=>a==b
 |.int _ a,.int _ b=>decide (a=b)
 |.str a,.str b=>decide (a=b)
 |.agg as,.agg bs=>vj as bs
 |_,_=>false
def vj:aK->aK->Bool
 |[],[]=>true
 |a::as,b::bs=>iG a b&&vj as bs
 |_,_=>false
end
def EG(neg agg:Bool)(cL:List Sh):T->T->tq
 |.agg as,.agg bs=>⟨agg=true/\fq cL as/\fq cL bs,.v (.bool (neg^^vj as bs)),none⟩
 |a,b=>⟨agg=false/\fq cL [a]/\fq cL [b],.v (.bool (neg^^iG a b)),none⟩
def Rd(op:UnOp):DV->tq
 |.v (.bool b)=>match op with
  |.not=>⟨True,.v (.bool (!b)),none⟩
  |_=>dm
 |.v (.int k n)=>match op with
  |.neg=>⟨True,.v (.int k (k.wrap (-n))),none⟩
  |_=>dm
 |_=>dm
def jt(k:Nat):DV->tq
 |.ptr r off=>⟨True,.ptr r (off+k),none⟩
 |.nz aw i off=>⟨True,.nz aw i (off+k),none⟩
 |.kP cs off=>⟨True,.kP cs (off+k),none⟩
 |.v (.box cs)=>⟨True,.kP cs k,none⟩
 |.ln r bP i off=>⟨True,.ln r bP i (off+k),none⟩
 |_=>dm
def ml:DV->tq
 |.ptr r off=>⟨True,.ptr r off,none⟩
 |.nz aw i off=>⟨True,.nz aw i off,none⟩
 |.kP cs off=>⟨True,.kP cs off,none⟩
 |.v (.box cs)=>⟨True,.v (.box cs),none⟩
 |.ln r bP i off=>⟨True,.ln r bP i off,none⟩
 |.v (.fn (.func f) cA)=>⟨True,.v (.fn (.func f) cA),none⟩
 |_=>dm
def uh(sz:Nat)(ab:bF):DV->DV->tq
 |.v (.sl aw),.v (.int _ i)=>⟨0<=i/\i<aw.length/\(rowAt aw i).length=sz,.nz aw i 0,none⟩
 |.bE r bP,.v (.int _ i)=>match ab r with
  |some (.bJ cJ _ jI aw)=>⟨bP=cJ/\jI=sz/\0<=i/\i<aw.length,.ln r bP i 0,none⟩
  |_=>dm
 |.w8 r bP lo n,.v (.int _ i)=>match ab r with
  |some (.bJ cJ _ jI aw)=>⟨bP=cJ/\jI=sz/\0<=i/\i<n,.ln r bP (lo+i) 0,none⟩
  |_=>dm
 |.G2 r n,.v (.int _ i)=>⟨0<=i/\i<n,.ptr r (i.toNat*sz),none⟩
 |_,_=>dm
def lY(len sz:Nat):DV->DV->tq
 |.ptr r off,.v (.int _ i)=>⟨0<=i/\i<len,.ptr r (off+i.toNat*sz),none⟩
 |.nz aw j off,.v (.int _ i)=>⟨0<=i/\i<len,.nz aw j (off+i.toNat*sz),none⟩
 |.kP cs off,.v (.int _ i)=>⟨0<=i/\i<len,.kP cs (off+i.toNat*sz),none⟩
 |.v (.box cs),.v (.int _ i)=>⟨0<=i/\i<len,.kP cs (i.toNat*sz),none⟩
 |.ln r bP j off,.v (.int _ i)=>⟨0<=i/\i<len,.ln r bP j (off+i.toNat*sz),none⟩
 |_,_=>dm
def oM:DV->Option (bM)
 |.v (.agg cs)=>some (cs.map .v)
 |.agg cs=>some cs
 |_=>none
def qt(off n:Nat)(agg:Bool)(x:DV):tq:=
 match oM x with
 |some cs=>⟨off+n<=cs.length/\(agg=true\/n=1),if agg then .agg ((cs.drop off).take n)else cs.getD off .undef,none⟩
 |none=>dm
def EH :DV->Option Int
 |.v (.int _ n)=>some n
 |_=>none
def EI:Option DV->Option Int
 |none=>some 0
 |some d=>EH d
def EJ(n:Int):Option DV->Option Int
 |none=>some n
 |some d=>EH d
def kz(sz:Nat)(lo hi:Option DV)(ab:bF):DV->tq
 |.v (.sl aw)=>
  match EI lo,EJ aw.length hi with
  |some l,some h=>⟨0<=l/\l<=h/\h<=aw.length/\(∀r∈aw,r.length=sz),.v (.sl ((aw.take h.toNat).drop l.toNat)),none⟩
  |_,_=>dm
 |.bH=>
  match EI lo,EJ 0 hi with
  |some l,some h=>⟨l=0/\h=0,.bH,none⟩
  |_,_=>dm
 |.bE r bP=>match ab r with
  |some (.bJ cJ _ jI aw)=>match EI lo,EJ aw.length hi with
   |some l,some h=>⟨bP=cJ/\jI=sz/\0<=l/\l<=h/\h<=aw.length,.w8 r bP l.toNat (h.toNat-l.toNat),none⟩
   |_,_=>dm
  |_=>dm
 |.w8 r bP lo' n=>match ab r with
  |some (.bJ cJ _ jI aw)=>match EI lo,EJ n hi with
   |some l,some h=>⟨bP=cJ/\jI=sz/\0<=l/\l<=h/\h<=n,.w8 r bP (lo'+l.toNat) (h.toNat-l.toNat),none⟩
   |_,_=>dm
  |_=>dm
 |_=>dm
def ui(i:Nat):DV->tq
 |.v (.eE ts)=>⟨i<ts.length,.v (ts.getD i default),none⟩
 |.eE ds=>⟨i<ds.length,ds.getD i .undef,none⟩
 |_=>dm
def yG(ab:bF):DV->tq
 |.v (.sl aw)=>⟨True,.v (.int .i64 aw.length),none⟩
 |.bH=>⟨True,.v (.int .i64 0),none⟩
 |.bE r bP=>match ab r with
  |some (.bJ cJ _ _ aw)=>⟨bP=cJ,.v (.int .i64 aw.length),none⟩
  |_=>dm
 |.w8 _ _ _ n=>⟨True,.v (.int .i64 n),none⟩
 |.G2 _ n=>⟨True,.v (.int .i64 n),none⟩
 |_=>dm
def w9:DV->tq
 |.v (.str s)=>⟨True,.v (.int .i64 s.size),none⟩
 |_=>dm
def pX(Li:Bool):DV->DV->tq
 |.v (.int k a),.v (.int k' b)=>⟨k=k',.v (.int k (if Li then max a b else min a b)),none⟩
 |_,_=>dm
def gD(ab:bF):DV->Option (List (aK))
 |.v (.sl aw)=>some aw
 |.bH=>some []
 |.bE r bP=>match ab r with
  |some (.bJ cJ _ _ aw)=>if bP=cJ then some aw else none
  |_=>none
 |.w8 r bP lo n=>match ab r with
  |some (.bJ cJ _ _ aw)=>if bP=cJ then some ((aw.drop lo).take n)else none
  |_=>none
 |.v (.w6 (.slice _ 0 _))=>some []
 |_=>none
def du(bytes n:Nat):Prop:=n*bytes<=140737488355328/\n<=140737488355328
def ju(e sz bytes:Nat)(name:Nat)(ab:bF)(x y:DV):tq:=
 match gD ab y with
 |none=>dm
 |some ys=>
  match x with
  |.bH=>⟨(∀r∈ys,r.length=sz)/\du bytes ys.length,.bE name 0,some (name,.bJ 0 e sz ys)⟩
  |.bE r bP=>match ab r with
   |some (.bJ cJ e' jI aw)=>⟨bP=cJ/\e'=e/\jI=sz/\(∀r∈ys,r.length=sz)/\du bytes (aw.length+ys.length),.bE r (bP+1),some (r,.bJ (bP+1) e sz (aw++ys))⟩
   |_=>dm
  |.w8 r bP 0 n=>match ab r with
   |some (.bJ cJ e' jI aw)=>⟨bP=cJ/\e'=e/\jI=sz/\(∀r∈ys,r.length=sz)/\du bytes (n+ys.length),.bE r (bP+1),some (r,.bJ (bP+1) e sz (aw.take n++ys))⟩
   |_=>dm
  |_=>dm
def mT(e sz bytes:Nat)(zero:aK)(name:Nat):DV->tq
 |.v (.int _ n)=>⟨0<=n/\zero.length=sz/\du bytes n.toNat,.bE name 0,some (name,.bJ 0 e sz (List.replicate n.toNat zero))⟩
 |_=>dm
def Hs:T->DV
 |.sl []=>.bH
 |t=>.v t
def gY(sz bytes:Nat)(zero:aK)(name:Nat):DV->tq
 |.v (.int _ n)=>⟨0<=n/\zero.length=sz/\du bytes n.toNat,.G2 name n.toNat,some (name,.box (List.replicate n.toNat (zero.map Hs)).flatten)⟩
 |_=>dm
def kQ(sz:Nat)(ab:bF)(x y:DV):tq:=
 match gD ab y with
 |none=>dm
 |some ys=>
  match x with
  |.bE r bP=>match ab r with
   |some (.bJ cJ e jI aw)=>⟨bP=cJ/\jI=sz/\(∀r∈ys,r.length=sz),.v (.int .i64 (min ys.length aw.length:Nat)),some (r,.bJ bP e sz (cS aw 0 (ys.take aw.length)))⟩
   |_=>dm
  |.w8 r bP lo n=>match ab r with
   |some (.bJ cJ e jI aw)=>⟨bP=cJ/\jI=sz/\(∀r∈ys,r.length=sz),.v (.int .i64 (min ys.length n:Nat)),some (r,.bJ bP e sz (cS aw lo (ys.take n)))⟩
   |_=>dm
  |_=>dm
def gZ(kind:Nat)(neg:Bool)(ab:bF):DV->tq
 |.v (.w6 (.slice p _ _))=>⟨kind=0,.v (.bool (neg^^p.isNone)),none⟩
 |.v (.w6 (.pointer p))=>⟨kind=1,.v (.bool (neg^^p.isNone)),none⟩
 |.v (.w6 .nilFunc)=>⟨kind=2,.v (.bool (neg^^true)),none⟩
 |.v (.sl aw)=>⟨kind=0/\aw≠[],.v (.bool (neg^^false)),none⟩
 |.v (.fn (.func _) _)=>⟨kind=2,.v (.bool (neg^^false)),none⟩
 |.v (.box _)=>⟨kind=1,.v (.bool (neg^^false)),none⟩
 |.ptr _ _|.kP _ _|.nz _ _ _|.ln _ _ _ _=>⟨kind=1,.v (.bool (neg^^false)),none⟩
 |.pf (.func _) _=>⟨kind=2,.v (.bool (neg^^false)),none⟩
 |.bE r bP=>match ab r with
  |some (.bJ cJ _ _ aw)=>⟨kind=0/\bP=cJ/\aw≠[],.v (.bool (neg^^false)),none⟩
  |_=>dm
 |_=>dm
def pY:DV->DV->tq
 |.v (.str s),.v (.int _ i)=>⟨0<=i/\i<s.size,.v (.int .u8 (s.data.getD i.toNat 0).toNat),none⟩
 |_,_=>dm
def fu(cL:List Sh)(agg:Bool):T->Prop
 |.agg as=>agg=true/\fq cL as
 |t=>agg=false/\fq cL [t]
def OS:bM->Option (aK)
 |[]=>some []
 |.v t::ds=>(OS ds).map (t::·)
 |_::_=>none
def BA:DV->Option T
 |.v t=>some t
 |.agg cs=>(OS cs).map .agg
 |_=>none
def tr(k:T)(es:List (Nat×T×DV)):Option (Nat×T×DV):=es.find? λe=>iG k e.2.1
def IW(k:T)(y:DV)(bG:Nat)(es:List (Nat×T×DV)):List (Nat×T×DV):=
 match es.findIdx? λe=>iG k e.2.1 with
 |some i=>es.modify i λe=>(e.1,e.2.1,y)
 |none=>es++[(bG,k,y)]
def qu(k:T)(bG:Nat)(es:List (Nat×T×DV)):Nat:=
 match es.findIdx? λe=>iG k e.2.1 with
 |some _=>bG
 |none=>bG+1
def aa7(k:T)(es:List (Nat×T×DV)):List (Nat×T×DV):=
 match es.findIdx? λe=>iG k e.2.1 with
 |some i=>es.eraseIdx i
 |none=>es
def nT(cL:List Sh)(agg:Bool)(zero:DV)(ok:Bool)(ab:bF)(x k:DV):tq:=
 match x,BA k with
 |.jG r,some kt=>match ab r with
  |some (.map lI lJ _ es)=>⟨lI=cL/\lJ=agg/\fu cL agg kt,
    match tr kt es with
    |some e=>if ok then .eE [e.2.2,.v (.bool true)]else e.2.2
    |none=>if ok then .eE [zero,.v (.bool false)]else zero,none⟩
  |_=>dm
 |_,_=>dm
def j5(cL:List Sh)(agg:Bool)(ab:bF)(x k y:DV):tq:=
 match x,BA k with
 |.jG r,some kt=>match ab r with
  |some (.map lI lJ c es)=>⟨lI=cL/\lJ=agg/\fu cL agg kt/\ov y,.undef,some (r,.map cL agg (qu kt c es) (IW kt y c es))⟩
  |_=>dm
 |_,_=>dm
def aa8(k:T)(z:DV)(bG:Nat)(es:List (Nat×T×DV)):List (Nat×T×DV):=
 match es.findIdx? λe=>iG k e.2.1 with
 |some _=>es
 |none=>es++[(bG,k,z)]
def aa9(k:T)(z:DV)(bG:Nat)(es:List (Nat×T×DV)):DV:=
 match tr k es with
 |some e=>.eE [e.2.2,.v (.int .i64 e.1)]
 |none=>.eE [z,.v (.int .i64 bG)]
def j6(cL:List Sh)(agg:Bool)(zero:DV)(ab:bF)(x k:DV):tq:=
 match x,BA k with
 |.jG r,some kt=>match ab r with
  |some (.map lI lJ c es)=>⟨lI=cL/\lJ=agg/\fu cL agg kt,
    aa9 kt zero c es,some (r,.map cL agg (qu kt c es) (aa8 kt zero c es))⟩
  |_=>dm
 |_,_=>dm
def aba(b:Int)(y:DV)(es:List (Nat×T×DV)):Option (List (Nat×T×DV)):=
 (es.findIdx? λe=>(e.1:Int)==b).map λi=>es.modify i λe=>(e.1,e.2.1,y)
def lL(ab:bF)(x s y:DV):tq:=
 match x,s with
 |.jG r,.v (.int _ b)=>match ab r with
  |some (.map cL agg c es)=>match aba b y es with
   |some oO=>⟨True,.undef,some (r,.map cL agg c oO)⟩
   |none=>dm
  |_=>dm
 |_,_=>dm
def j7(cL:List Sh)(agg:Bool)(ab:bF)(x k:DV):tq:=
 match x,BA k with
 |.jG r,some kt=>match ab r with
  |some (.map lI lJ c es)=>⟨lI=cL/\lJ=agg/\fu cL agg kt,.v (.eE []),some (r,.map cL agg c (aa7 kt es))⟩
  |_=>dm
 |_,_=>dm
def uj(ab:bF):DV->tq
 |.jG r=>match ab r with
  |some (.map _ _ _ es)=>⟨True,.v (.int .i64 es.length),none⟩
  |_=>dm
 |_=>dm
def mm(name:Nat)(ab:bF):DV->tq
 |.jG r=>match ab r with
  |some (.map _ _ c _)=>⟨True,.cX name,some (name,.cX r c [] c)⟩
  |_=>dm
 |_=>dm
def mn(ab:bF):DV->tq
 |.cX r=>match ab r with
  |some (.cX m _ seen amp)=>match ab m,seen.getLast? with
   |some (.map _ _ c es),some b=>match es.find? λe=>e.1==b with
    |some e=>⟨c=amp,.eE [.v e.2.1,e.2.2],none⟩
    |none=>dm
   |_,_=>dm
  |_=>dm
 |_=>dm
def rX(Γ:pW)(f:FuncId)(ab:bF)(args:bM):tq:=
 match Γ f with
 |some s=>⟨vv s.ky ab args/\s.pre (ka ab args),.v (s.fn (ka ab args)),none⟩
 |none=>dm
mutual
def aT:DV->cY
 |.ptr r _|.bE r _|.ln r _ _ _|.jG r|.cX r|.w8 r _ _ _|.G2 r _=>[r]
 |.agg cs|.eE cs|.pf _ cs=>bR cs
 |_=>[]
def bR:bM->cY
 |[]=>[]
 |d::ds=>aT d++bR ds
end
def CM(ab:bF)(args:bM):bF:=λn=>if n∈bR args then ab n else none
def yH(k:bM->bF->gC)(args:bM)(ab:bF):Prop:=
 ∀aI,(∀n∈bR args,aI n=ab n)->(k args aI).ok/\(k args aI).ab=aI/\(k args aI).val=(k args (CM ab args)).val
def qw(Γ:pW)(f:FuncId)(ab:bF)(args:bM):tq:=
 match Γ f with
 |some s=>match s.st with
  |some k=>⟨yH k args ab,(k args (CM ab args)).val,none⟩
  |none=>dm
 |none=>dm
def IX{Γ:pW}{f:FuncId}{ab aI:bF}{args:bM}(h:∀n∈bR args,aI n=ab n):qw Γ f aI args=qw Γ f ab args:=by
 have h1:CM aI args=CM ab args:=by
  funext n;unfold CM;split
  ·rename_i hn;exact h n hn
  ·rfl
 have h2:∀k,yH k args aI=yH k args ab:=by
  intro k;unfold yH;rw[h1];apply propext;constructor
  ·exact λH o ho=>H o λn hn=>(ho n hn).trans (h n hn).symm
  ·exact λH o ho=>H o λn hn=>(ho n hn).trans (h n hn)
 unfold qw;simp only[h1,h2]
def qx(Γ:pW)(f:FuncId)(name:Nat)(ab:bF)(args:bM):tq:=
 match Γ f with
 |some s=>match s.fresh,s.fn (ka ab args)with
  |some (e,sz),.sl aw=>⟨vv s.gQ ab args/\s.pre (ka ab args),.bE name 0,some (name,.bJ 0 e sz aw)⟩
  |_,_=>dm
 |none=>dm
def dK(Γ:pW)(d:tZ)(name:Nat)(ρ:dG)(ab:bF):tq:=
 match d with
 |.Hr x=>⟨True,x.ev ρ,none⟩
 |.pick c a b=>match c.ev ρ with
  |.v (.bool t)=>⟨True,if t then a.ev ρ else b.ev ρ,none⟩
  |_=>dm
 |.alloc zero=>⟨True,.ptr name 0,some (name,.box zero)⟩
 |.box x=>⟨ov (x.ev ρ),.ptr name 0,some (name,.box (cellsOf (x.ev ρ)))⟩
 |.build zero parts=>⟨vY zero.length (parts.map λp=>(p.1,p.2.1,p.2.2.ev ρ)),.agg (x8 zero (parts.map λp=>(p.1,p.2.1,p.2.2.ev ρ))),none⟩
 |.bslice len sz zero parts=>
  if len=0 then⟨parts=[],.bH,none⟩else
  ⟨vY (len*sz) (parts.map λp=>(p.1,p.2.1,p.2.2.ev ρ))/\jZ (x8 zero (parts.map λp=>(p.1,p.2.1,p.2.2.ev ρ))),
   .v (.sl (eX sz len (ka (λ_=>none) (x8 zero (parts.map λp=>(p.1,p.2.1,p.2.2.ev ρ)))))),none⟩
 |.load n agg x=>jH n agg ab (x.ev ρ)
 |.store n x y=>mS n ab (y.ev ρ) (x.ev ρ)
 |.bin op x y=>vZ op (x.ev ρ) (y.ev ρ)
 |.eqT neg agg cL x y=>⟨GX true ab (x.ev ρ)/\GX true ab (y.ev ρ)/\(EG neg agg cL (vu ab (x.ev ρ)) (vu ab (y.ev ρ))).ok,(EG neg agg cL (vu ab (x.ev ρ)) (vu ab (y.ev ρ))).val,none⟩
 |.un op x=>Rd op (x.ev ρ)
 |.conv k x=>match x.ev ρ with
  |.v (.int _ n)=>⟨True,.v (.int k (k.wrap n)),none⟩
  |_=>dm
 |.addOff k x=>jt k (x.ev ρ)
 |.nilCheck x=>ml (x.ev ρ)
 |.idxAddr sz x i=>uh sz ab (x.ev ρ) (i.ev ρ)
 |.arrAddr len sz x i=>lY len sz (x.ev ρ) (i.ev ρ)
 |.field off n agg x=>qt off n agg (x.ev ρ)
 |.slice sz x lo hi=>kz sz (lo.map (·.ev ρ)) (hi.map (·.ev ρ)) ab (x.ev ρ)
 |.extract i x=>ui i (x.ev ρ)
 |.call f args=>rX Γ f ab (args.map (·.ev ρ))
 |.callF f args=>qx Γ f name ab (args.map (·.ev ρ))
 |.callR f args=>qw Γ f ab (args.map (·.ev ρ))
 |.callS _ _|.callv _ _|.entryM _=>dm
 |.len x=>yG ab (x.ev ρ)
 |.lenS x=>w9 (x.ev ρ)
 |.minmax m x y=>pX m (x.ev ρ) (y.ev ρ)
 |.append e sz bytes x y=>ju e sz bytes name ab (x.ev ρ) (y.ev ρ)
 |.mkSlice e sz bytes zero n=>mT e sz bytes zero name (n.ev ρ)
 |.mkSliceB e sz bytes zero n=>gY sz bytes zero name (n.ev ρ)
 |.mkFn f cA=>⟨fM (cA.map (·.ev ρ)),if zV (cA.map (·.ev ρ))then .v (.fn f (ka (λ_=>none) (cA.map (·.ev ρ))))else .pf f (cA.map (·.ev ρ)),none⟩
 |.mkMap cL agg=>⟨True,.jG name,some (name,.map cL agg 0 [])⟩
 |.lookup cL agg zero ok x k=>nT cL agg zero ok ab (x.ev ρ) (k.ev ρ)
 |.mapUpd cL agg x k y=>j5 cL agg ab (x.ev ρ) (k.ev ρ) (y.ev ρ)
 |.mapDel cL agg x k=>j7 cL agg ab (x.ev ρ) (k.ev ρ)
 |.mapEnt cL agg z x k=>j6 cL agg z ab (x.ev ρ) (k.ev ρ)
 |.entSt x s y=>lL ab (x.ev ρ) (s.ev ρ) (y.ev ρ)
 |.lenM x=>uj ab (x.ev ρ)
 |.rangeM x=>mm name ab (x.ev ρ)
 |.copy sz x y=>kQ sz ab (x.ev ρ) (y.ev ρ)
 |.isNil kind neg x=>gZ kind neg ab (x.ev ρ)
 |.indexS x i=>pY (x.ev ρ) (i.ev ρ)
 |.fail=>dm
def t6:tZ->Bool
 |.callS _ _|.callv _ _|.entryM _=>true
 |_=>false
structure ahC where
 ok:Prop
 val:DV
 ab:bF
 todo:List (aK)
class d8 where
 k:Option (Nat×(bM->bF->gC))
 aT:∀l k',k=some (l,k')->∀args ab,(k' args ab).ok->∀x,ab x=none->(k' args ab).ab x=none
instance(priority:=low)Re:d8:=⟨none,λ_ _ h=>by cases h⟩
@[simp] def alK: @d8.k Re=none:=rfl
def yIs:DV->Prop
 |.v (.bool _)=>True
 |_=>False
def yGo:DV->Bool
 |.v (.bool b)=>b
 |_=>false
@[simp] def amq(b:Bool):yIs (.v (.bool b))=True:=rfl
@[simp] def V8(b:Bool):yGo (.v (.bool b))=b:=rfl
variable [d8]
def pJ(Γ:pW)(d:tZ)(ρ:dG)(ab:bF)(todo:List (aK)):ahC:=
 match d with
 |.callS f args=>match Γ f with
  |some s=>match s.st with
   |some k=>⟨(k (args.map (·.ev ρ)) ab).ok,(k (args.map (·.ev ρ)) ab).val,(k (args.map (·.ev ρ)) ab).ab,todo⟩
   |none=>⟨False,.undef,ab,todo⟩
  |none=>⟨False,.undef,ab,todo⟩
 |.callv x args=>match x.ev ρ with
  |.v (.fn (.func f) cA)=>match Γ f with
   |some s=>match s.st with
    |some k=>⟨(k (args.map (·.ev ρ)++cA.map .v) ab).ok,(k (args.map (·.ev ρ)++cA.map .v) ab).val,(k (args.map (·.ev ρ)++cA.map .v) ab).ab,todo⟩
    |none=>⟨(rX Γ f ab (args.map (·.ev ρ)++cA.map .v)).ok,(rX Γ f ab (args.map (·.ev ρ)++cA.map .v)).val,ab,todo⟩
   |none=>⟨False,.undef,ab,todo⟩
  |.pf (.func f) cA=>match Γ f with
   |some s=>match s.st with
    |some k=>⟨(k (args.map (·.ev ρ)++cA) ab).ok,(k (args.map (·.ev ρ)++cA) ab).val,(k (args.map (·.ev ρ)++cA) ab).ab,todo⟩
    |none=>⟨False,.undef,ab,todo⟩
   |none=>⟨False,.undef,ab,todo⟩
  |.OR=>match todo with
   |x::rest=>⟨d8.k=none/\vv false ab (args.map (·.ev ρ))/\ka ab (args.map (·.ev ρ))=x/\ab=(λ_=>none),.v (.bool true),ab,rest⟩
   |[]=>⟨False,.undef,ab,todo⟩
  |.v (.w6 v)=>match d8.k with
   |some (l,k)=>⟨v=.func (.yield l) #[] #[]/\todo≠[]/\(k (args.map (·.ev ρ)) ab).ok/\yIs (k (args.map (·.ev ρ)) ab).val,(k (args.map (·.ev ρ)) ab).val,(k (args.map (·.ev ρ)) ab).ab,if yGo (k (args.map (·.ev ρ)) ab).val then todo else []⟩
   |none=>⟨False,.undef,ab,todo⟩
  |_=>⟨False,.undef,ab,todo⟩
 |.entryM x=>⟨(mn ab (x.ev ρ)).ok,(mn ab (x.ev ρ)).val,ab,todo⟩
 |_=>⟨False,.undef,ab,todo⟩
end
open Go.RowKit
section
variable{base r:Nat}{M:f9}{ds:bM}{vs:List Value}{w0:World}
structure Fr(base:Nat)(M:f9)(w0 w:World):Prop where
 os:w.os=w0.os
 tape:w.tape=w0.tape
 output:w.output=w0.output
 kl:base<=w0.heap.size
 size:w0.heap.size<=w.heap.size
 block:∀k,k<base->¬M k->w.heap[k]? =w0.heap[k]?
 drawn:w0.drawn<=w.drawn
def Fr.refl{w:World}(h:base<=w.heap.size):Fr base M w w:=⟨rfl,rfl,rfl,h,eF _,λ_ _ _=>rfl,eF _⟩
def Fr.trans{a b c:World}(h:Fr base M a b)(k:Fr base M b c):Fr base M a c:=
 ⟨k.os.trans h.os,k.tape.trans h.tape,k.output.trans h.output,h.kl,yI h.size k.size,λi hi hm=>(k.block i hi hm).trans (h.block i hi hm),yI h.drawn k.drawn⟩
structure Loc where
 kx:Nat->Nat
 sl:Nat->Value
 yl:Nat:=0
def bm:Value->Option Nat
 |.slice (some a) _ c=>if c=0 then none else some a.block
 |_=>none
def Loc.own(L:Loc)(r:Nat):Ob->Option Nat
 |.bJ _ _ _ _=>bm (L.sl r)
 |_=>some (L.kx r)
def WW(W:f9)(ab:bF)(L:Loc)(b:Nat):Prop:=W b\/∃r o,ab r=some o/\L.own r o=some b
section
variable(w:World)(W:f9)(ab:bF)(L:Loc)
mutual
def aC:DV->Value->Prop
 |.undef,_=>True
 |.skip,x=>x=Go.undef
 |.v t,x=>bw w (WW W ab L) t x
 |.bH,x=>∃a:Option Addr,x=.slice a 0 0
 |.ptr r off,x=>(∃cs,ab r=some (.box cs))/\x=.pointer (some ⟨L.kx r,off,none⟩)
 |.bE r bP,x=>(∃(p:Option Addr) (n c:Nat),x=.slice p n c)/\∃cJ e sz aw,ab r=some (.bJ cJ e sz aw)/\bP<=cJ/\(bP=cJ->x=L.sl r)
 |.nz aw i off,x=>∃b o sz,x=.pointer (some ⟨b,o+i.toNat*sz+off,none⟩)/\b<w.heap.size/\¬WW W ab L b/\bL w (WW W ab L) sz b o aw/\0<=i/\i<aw.length
 |.kP cs off,x=>∃b o,x=.pointer (some ⟨b,o+off,none⟩)/\b<w.heap.size/\¬WW W ab L b/\eQ w (WW W ab L) b o cs
 |.ln r bP i off,x=>(∃b o,x=.pointer (some ⟨b,o,none⟩))/\∃cJ e sz aw,ab r=some (.bJ cJ e sz aw)/\bP<=cJ/\(bP=cJ->∃g,bm (L.sl r)=some g/\x=.pointer (some ⟨g,i.toNat*sz+off,none⟩)/\0<=i/\i<aw.length)
 |.agg cs,x=>∃vs,x=.agg vs/\aX cs vs.toList
 |.OR,x=>x=.func (.yield L.yl) #[] #[]
 |.jG r,x=>(∃cL agg c es,ab r=some (.map cL agg c es))/\x=.map (some (L.kx r))
 |.cX r,x=>(∃m s sn l,ab r=some (.cX m s sn l))/\x=.pointer (some ⟨L.kx r,0,none⟩)
 |.eE ds,x=>∃vs,x=.tuple vs/\fj ds vs.toList
 |.w8 r bP lo n,x=>(∃(p:Option Addr) (c:Nat),x=.slice p n c)/\∃cJ e sz aw,ab r=some (.bJ cJ e sz aw)/\bP<=cJ/\(bP=cJ->lo+n<=aw.length/\∃p cap p2,L.sl r=.slice p aw.length cap/\x=.slice p2 n (cap-lo)/\(lo<cap->p2=p.map (·.add (lo*sz))))
 |.pf f cA,x=>∃vs,x=.func f #[] vs/\aX cA vs.toList
 |.G2 r n,x=>(∃cs,ab r=some (.box cs))/\x=.slice (some ⟨L.kx r,0,none⟩) n n
def aX:bM->List Value->Prop
 |[],vs=>vs=[]
 |d::ds,vs=>∃x kj,vs=x::kj/\x.oneCell'=true/\aC d x/\aX ds kj
def fj:bM->List Value->Prop
 |[],vs=>vs=[]
 |d::ds,vs=>∃x kj,vs=x::kj/\aC d x/\fj ds kj
end
def bX:List (Nat×T×DV)->List MapEntry->Prop
 |[],xs=>xs=[]
 |e::es,xs=>∃x mL,xs=x::mL/\x.born=e.1/\bw w (WW W ab L) e.2.1 x.key/\aC w W ab L e.2.2 x.val/\bX es mL
def rK(base:Nat)(M:f9)(r:Nat):Ob->Prop
 |.box cs=>∃c e,w.heap[L.kx r]? =some (.cells c e (0,0))/\aX w W ab L cs c.toList/\(base<=L.kx r\/M (L.kx r))
 |.bJ _ e sz aw=>0<sz/\(∀x∈aw,x.length=sz)/\(∀g,bm (L.sl r)=some g->base<=g\/M g)/\
   ((aw=[]/\∃a:Option Addr,L.sl r=.slice a 0 0)\/
    ∃g cap eV,L.sl r=.slice (some ⟨g,0,none⟩) aw.length cap/\0<cap/\w.heap[g]? =some (.cells eV e (0,0))/\aw.length<=cap/\cap<=maxLen/\eV.size=cap*sz/\
     bu w (WW W ab L) aw.flatten (eV.toList.take (aw.length*sz)))
 |.map cL agg c es=>∃bJ,w.heap[L.kx r]? =some (.map bJ c)/\bX w W ab L es bJ.toList/\(∀e∈es,fu cL agg e.2.1)/\(∀e∈es,e.1<c)/\(es.map (·.1)).Nodup/\(base<=L.kx r\/M (L.kx r))
 |.cX m s sn l=>w.heap[L.kx r]? =some (.mapIter (some (L.kx m)) s sn.toArray l)/\(∃cL agg c es,ab m=some (.map cL agg c es))/\(base<=L.kx r\/M (L.kx r))
end
variable [bK]
structure cO(base:Nat)(W M:f9)(w0:World)(ab:bF)(w:World)(L:Loc):Prop where
 fr:Fr base M w0 w
 ob:∀r o,ab r=some o->rK w W ab L base M r o
 apart:∀r r' o o' b,r≠r'->ab r=some o->ab r'=some o'->L.own r o=some b->L.own r' o'≠some b
 tu:∀r o b,ab r=some o->L.own r o=some b->¬W b
 under:∀b,W b->b<base
 gl:GW w (WW W ab L)
structure Dx(W W':f9)(ab:bF)(L:Loc)(w:World)(aI:bF)(L':Loc)(w':World):Prop where
 dP:dJ (WW W ab L) w w'
 sub:∀b,b<w.heap.size->WW W' aI L' b->WW W ab L b
 fix:∀r o,ab r=some o->o.kind≠1->L'.kx r=L.kx r/\∃o',aI r=some o'/\o'.kind=o.kind
 bJ:∀r bP e sz aw,ab r=some (.bJ bP e sz aw)->∃cJ e' jI fz,aI r=some (.bJ cJ e' jI fz)/\bP<=cJ/\(cJ=bP->L'.sl r=L.sl r/\jI=sz/\fz.length=aw.length)
 yl:L'.yl=L.yl
def amr{o:Ob}(h:o.kind=0):∃cs,o=.box cs:=by cases o<;>first|exact⟨_,rfl⟩|cases h
def ams{o:Ob}(h:o.kind=2):∃cL agg c es,o=.map cL agg c es:=by cases o<;>first|exact⟨_,_,_,_,rfl⟩|cases h
def amt{o:Ob}(h:o.kind=3):∃m s sn l,o=.cX m s sn l:=by cases o<;>first|exact⟨_,_,_,_,rfl⟩|cases h
section
variable{W W':f9}{ab:bF}{L:Loc}{w:World}{aI:bF}{L':Loc}{w':World}
def Dx.box(h:Dx W W' ab L w aI L' w')(r:Nat)(cs:bM)(hr:ab r=some (.box cs)):L'.kx r=L.kx r/\∃x9,aI r=some (.box x9):=by
 obtain⟨h1,o',h2,h3⟩:=h.fix r _ hr (by simp[Ob.kind]);obtain⟨x9,rfl⟩:=amr h3;exact⟨h1,x9,h2⟩
def Dx.mp(h:Dx W W' ab L w aI L' w')(r:Nat)(hr:∃cL agg c es,ab r=some (.map cL agg c es)):L'.kx r=L.kx r/\∃cL agg c es,aI r=some (.map cL agg c es):=by
 obtain⟨_,_,_,_,hr⟩:=hr;obtain⟨h1,o',h2,h3⟩:=h.fix r _ hr (by simp[Ob.kind]);obtain⟨a,b,c,d,rfl⟩:=ams h3;exact⟨h1,a,b,c,d,h2⟩
def Dx.it(h:Dx W W' ab L w aI L' w')(r:Nat)(hr:∃m s sn l,ab r=some (.cX m s sn l)):L'.kx r=L.kx r/\∃m s sn l,aI r=some (.cX m s sn l):=by
 obtain⟨_,_,_,_,hr⟩:=hr;obtain⟨h1,o',h2,h3⟩:=h.fix r _ hr (by simp[Ob.kind]);obtain⟨a,b,c,d,rfl⟩:=amt h3;exact⟨h1,a,b,c,d,h2⟩
end
abbrev iH(W:f9)(ab:bF)(L:Loc)(w:World)(aI:bF)(L':Loc)(w':World):Prop:=Dx W W ab L w aI L' w'
def iH.dc{W:f9}{ab:bF}{L:Loc}{w w':World}(h:dJ (WW W ab L) w w'):iH W ab L w ab L w':=
 ⟨h,λ_ _ x=>x,λ_ o hr _=>⟨rfl,o,hr,rfl⟩,λ_ bP e sz aw hr=>⟨bP,e,sz,aw,hr,eF _,λ_=>⟨rfl,rfl,rfl⟩⟩,rfl⟩
mutual
def aC.fP{W W':f9}{ab aI:bF}{L L':Loc}{w w':World}(h:Dx W W' ab L w aI L' w'):∀(d:DV) (x:Value),aC w W ab L d x->aC w' W' aI L' d x
 |.undef,x,r=>by simp[aC]
 |.skip,x,r=>by simpa [aC]using r
 |.v t,x,r=>by
  simp only[aC]at r⊢;exact bw.bi h.dP.toKeepsC h.sub t x r
 |.bH,x,r=>by simpa [aC]using r
 |.ptr n off,x,r=>by
  simp only[aC]at r⊢;obtain⟨⟨cs,hc⟩,hx⟩:=r;have hb:=h.box n cs hc;exact⟨hb.2,by rw[hb.1];exact hx⟩
 |.bE n bP,x,r=>by
  simp only[aC]at r⊢;obtain⟨Lj,cJ,e,sz,aw,ho,kw,hx⟩:=r;obtain⟨sM,e2,Ht,mU,pg,Lk,hs⟩:=h.bJ n cJ e sz aw ho;refine⟨Lj,sM,e2,Ht,mU,pg,yI kw Lk,λhv=>?_⟩;have h1:sM=cJ:=by omega
  rw[(hs h1).1];exact hx (by omega)
 |.nz aw i off,x,r=>by
  simp only[aC]at r⊢;obtain⟨b,o,sz,hx,hb,hn,hr,h0,h1⟩:=r;exact⟨b,o,sz,hx,ZbK hb h.dP.size,λc=>hn (h.sub b hb c),bL.bi h.dP.toKeepsC h.sub hb hn sz o aw hr,h0,h1⟩
 |.kP cs off,x,r=>by
  simp only[aC]at r⊢;obtain⟨b,o,hx,hb,hn,hr⟩:=r;exact⟨b,o,hx,ZbK hb h.dP.size,λc=>hn (h.sub b hb c),eQ.bi h.dP.toKeepsC h.sub hb hn o cs hr⟩
 |.ln n bP i off,x,r=>by
  simp only[aC]at r⊢;obtain⟨Lj,cJ,e,sz,aw,ho,kw,hx⟩:=r;obtain⟨sM,e2,Ht,mU,pg,Lk,hs⟩:=h.bJ n cJ e sz aw ho;refine⟨Lj,sM,e2,Ht,mU,pg,yI kw Lk,λhv=>?_⟩;have h1:sM=cJ:=by omega
  obtain⟨g,hg,hp,h0,hl⟩:=hx (by omega);obtain⟨s1,s2,s3⟩:=hs h1;exact⟨g,by rw[s1];exact hg,by rw[s2];exact hp,h0,by rw[s3];exact hl⟩
 |.agg cs,x,r=>by
  simp only[aC]at r⊢;obtain⟨vs,hv,hr⟩:=r;exact⟨vs,hv,aX.fP h cs _ hr⟩
 |.OR,x,r=>by simp only[aC]at r⊢;rw[h.yl];exact r
 |.jG n,x,r=>by
  simp only[aC]at r⊢;have:=h.mp n r.1;exact⟨this.2,by rw[this.1];exact r.2⟩
 |.cX n,x,r=>by
  simp only[aC]at r⊢;have:=h.it n r.1;exact⟨this.2,by rw[this.1];exact r.2⟩
 |.eE ds,x,r=>by
  simp only[aC]at r⊢;obtain⟨vs,hv,hr⟩:=r;exact⟨vs,hv,fj.fP h ds _ hr⟩
 |.pf f ds,x,r=>by
  simp only[aC]at r⊢;obtain⟨vs,hv,hr⟩:=r;exact⟨vs,hv,aX.fP h ds _ hr⟩
 |.G2 n m,x,r=>by
  simp only[aC]at r⊢;obtain⟨⟨cs,hc⟩,hx⟩:=r;have hb:=h.box n cs hc;exact⟨hb.2,by rw[hb.1];exact hx⟩
 |.w8 n bP lo m,x,r=>by
  simp only[aC]at r⊢;obtain⟨Lj,cJ,e,sz,aw,ho,kw,hx⟩:=r;obtain⟨sM,e2,Ht,mU,pg,Lk,hs⟩:=h.bJ n cJ e sz aw ho;refine⟨Lj,sM,e2,Ht,mU,pg,yI kw Lk,λhv=>?_⟩;have h1:sM=cJ:=by omega
  obtain⟨k1,p,cap,p2,k2,k3,k4⟩:=hx (by omega);obtain⟨s1,s2,s3⟩:=hs h1;exact⟨by rw[s3];exact k1,p,cap,p2,by rw[s1,s3];exact k2,k3,by rw[s2];exact k4⟩
def aX.fP{W W':f9}{ab aI:bF}{L L':Loc}{w w':World}(h:Dx W W' ab L w aI L' w'):∀(ds:bM) (xs:List Value),aX w W ab L ds xs->aX w' W' aI L' ds xs
 |[],xs,r=>by simpa [aX]using r
 |d::ds,xs,r=>by
  simp only[aX]at r⊢;obtain⟨x,mL,hx,h1,hr,nR⟩:=r;exact⟨x,mL,hx,h1,aC.fP h d x hr,aX.fP h ds mL nR⟩
def fj.fP{W W':f9}{ab aI:bF}{L L':Loc}{w w':World}(h:Dx W W' ab L w aI L' w'):∀(ds:bM) (xs:List Value),fj w W ab L ds xs->fj w' W' aI L' ds xs
 |[],xs,r=>by simpa [fj]using r
 |d::ds,xs,r=>by
  simp only[fj]at r⊢;obtain⟨x,mL,hx,hr,nR⟩:=r;exact⟨x,mL,hx,aC.fP h d x hr,fj.fP h ds mL nR⟩
end
def bX.fP{W W':f9}{ab aI:bF}{L L':Loc}{w w':World}(h:Dx W W' ab L w aI L' w'):∀(es:List (Nat×T×DV)) (xs:List MapEntry),bX w W ab L es xs->bX w' W' aI L' es xs
 |[],xs,r=>by simpa [bX]using r
 |e::es,xs,r=>by
  simp only[bX]at r⊢;obtain⟨x,mL,hx,h0,h1,hr,nR⟩:=r;exact⟨x,mL,hx,h0,bw.bi h.dP.toKeepsC h.sub _ _ h1,aC.fP h _ _ hr,bX.fP h es mL nR⟩
section
variable{w:World}{W:f9}{ab:bF}{L:Loc}
def aX.length:∀{ds:bM} {vs:List Value},aX w W ab L ds vs->vs.length=ds.length
 |[],_,h=>by simp only[aX]at h;simp[h]
 |_::ds,_,h=>by
  simp only[aX]at h;obtain⟨v,kj,rfl,_,_,hr⟩:=h;simp[aX.length hr]
def aX.get:∀{ds:bM} {vs:List Value} {i:Nat} {d:DV},aX w W ab L ds vs->ds[i]? =some d->∃v,vs[i]? =some v/\v.oneCell'=true/\aC w W ab L d v
 |[],_,_,_,_,h=>by simp at h
 |x::xs,_,0,t,hr,h=>by
  simp only[aX]at hr;obtain⟨v,kj,rfl,h1,h2,_⟩:=hr;simp only[IS,cI]at h;subst h;exact⟨v,rfl,h1,h2⟩
 |x::xs,_,i+1,t,hr,h=>by
  simp only[aX]at hr;obtain⟨v,kj,rfl,_,_,hr⟩:=hr;simpa using aX.get hr (by simpa using h)
def aX.append:∀{ds sN:bM} {vs kj:List Value},aX w W ab L ds vs->aX w W ab L sN kj->aX w W ab L (ds++sN) (vs++kj)
 |[],_,_,_,h,h'=>by simp only[aX]at h;subst h;simpa using h'
 |d::ds,_,_,_,h,h'=>by
  simp only[aX]at h;obtain⟨v,kj,rfl,h1,h2,hr⟩:=h;simp only[Dy,aX];exact⟨v,_,rfl,h1,h2,aX.append hr h'⟩
def aX.take(n:Nat)(h:aX w W ab L ds vs):aX w W ab L (ds.take n) (vs.take n):=by
 induction n generalizing ds vs with
 |zero=>simp[aX]
 |succ n ih=>
  cases ds with
  |nil=>simp only[aX]at h;subst h;simp[aX]
  |cons d ds=>
   simp only[aX]at h;obtain⟨v,kj,rfl,h1,h2,hr⟩:=h;simp only[Zcw,aX];exact⟨v,_,rfl,h1,h2,ih hr⟩
def aX.drop(n:Nat)(h:aX w W ab L ds vs):aX w W ab L (ds.drop n) (vs.drop n):=by
 induction n generalizing ds vs with
 |zero=>simpa using h
 |succ n ih=>
  cases ds with
  |nil=>simp only[aX]at h;subst h;simp[aX]
  |cons d ds=>
   simp only[aX]at h;obtain⟨v,kj,rfl,h1,h2,hr⟩:=h;simpa using ih hr
def bu.append{ts ts':aK}:∀{vs kj:List Value},bu w W ts vs->bu w W ts' kj->bu w W (ts++ts') (vs++kj):=by
 induction ts with
 |nil=>intro vs kj h h';simp only[bu]at h;subst h;simpa using h'
 |cons d ds ih=>
  intro vs kj h h';simp only[bu]at h;obtain⟨v,kj,rfl,h1,h2,hr⟩:=h;simp only[Dy,bu];exact⟨v,_,rfl,h1,h2,ih hr h'⟩
def aX.uk:∀{ts:aK} {vs:List Value},bu w (WW W ab L) ts vs->aX w W ab L (ts.map .v) vs
 |[],_,h=>by simpa [bu,aX]using h
 |t::ts,_,h=>by
  simp only[bu]at h;obtain⟨v,kj,rfl,h1,h2,hr⟩:=h;simp only[rW,aX];exact⟨v,kj,rfl,h1,by simpa [aC]using h2,aX.uk hr⟩
def aC.cells{d:DV}{x:Value}(h:aC w W ab L d x)(hb:ov d):aX w W ab L (cellsOf d) x.cells.toList:=by
 have one:∀{d:DV} {x:Value},cellsOf d=[d]->x.oneCell'=true->aC w W ab L d x->aX w W ab L (cellsOf d) x.cells.toList:=by
  intro d x hc h1 h;rw[hc];simp only[aX];refine⟨x,[], ?_,h1,h,rfl⟩;cases x<;>first|rfl|(simp[Value.oneCell']at h1)
 cases d with
 |undef=>exact hb.elim
 |skip=>exact hb.elim
 |bH=>obtain⟨a,rfl⟩:=(by simpa only[aC]using h);exact one rfl rfl (by simp only[aC];exact⟨a,rfl⟩)
 |ptr r off=>have h':=h;simp only[aC]at h';obtain⟨_,rfl⟩:=h';exact one rfl rfl h
 |bE r bP=>have h':=h;simp only[aC]at h';obtain⟨⟨p,n,c,rfl⟩,_⟩:=h';exact one rfl rfl h
 |nz aw i off=>have h':=h;simp only[aC]at h';obtain⟨b,o,sz,rfl,_⟩:=h';exact one rfl rfl h
 |kP cs off=>have h':=h;simp only[aC]at h';obtain⟨b,o,rfl,_⟩:=h';exact one rfl rfl h
 |ln r bP i off=>have h':=h;simp only[aC]at h';obtain⟨⟨b,o,rfl⟩,_⟩:=h';exact one rfl rfl h
 |agg cs=>simp only[aC]at h;obtain⟨vs,rfl,h⟩:=h;simpa [cellsOf,Value.cells]using h
 |OR=>have h':=h;simp only[aC]at h';subst h';exact one rfl rfl h
 |jG r=>have h':=h;simp only[aC]at h';obtain⟨_,rfl⟩:=h';exact one rfl rfl h
 |cX r=>have h':=h;simp only[aC]at h';obtain⟨_,rfl⟩:=h';exact one rfl rfl h
 |eE ds=>exact hb.elim
 |pf f ds=>have h':=h;simp only[aC]at h';obtain⟨vs,rfl,_⟩:=h';exact one rfl rfl h
 |w8 r bP lo n=>have h':=h;simp only[aC]at h';obtain⟨⟨p,c,rfl⟩,_⟩:=h';exact one rfl rfl h
 |G2 r n=>have h':=h;simp only[aC]at h';obtain⟨_,rfl⟩:=h';exact one rfl rfl h
 |v t=>
  cases t with
  |agg cs=>simp only[aC,bw]at h;obtain⟨vs,rfl,h⟩:=h;simpa [cellsOf,Value.cells]using aX.uk h
  |eE ts=>exact hb.elim
  |bool b=>have h':=h;simp only[aC,bw]at h';subst h';exact one rfl rfl h
  |int k n=>have h':=h;simp only[aC,bw]at h';subst h';exact one rfl rfl h
  |str s=>have h':=h;simp only[aC,bw]at h';subst h';exact one rfl rfl h
  |sl aw=>
   have h':=h;simp only[aC,bw]at h';rcases h' with⟨_,a,c,rfl⟩|⟨b,o,cap,sz,rfl,_⟩<;>exact one rfl rfl h
  |fn f cA=>have h':=h;simp only[aC,bw]at h';obtain⟨vs,rfl,_⟩:=h';exact one rfl rfl h
  |box cs=>have h':=h;simp only[aC,bw]at h';obtain⟨b,o,rfl,_⟩:=h';exact one rfl rfl h
  |w6 y=>have h':=h;simp only[aC,bw]at h';subst h';exact one rfl hb h
end
def rK.lt{w:World}{W:f9}{ab:bF}{L:Loc}{o:Ob}(h:rK w W ab L base M r o){b:Nat}(hb:L.own r o=some b):b<w.heap.size:=by
 cases o with
 |box cs=>
  obtain⟨c,e,hc,_⟩:=h;simp only[Loc.own,cI]at hb;subst hb;exact(w7.1 hc).1
 |bJ bP e sz aw=>
  obtain⟨_,_,_,h⟩:=h;simp only[Loc.own]at hb;rcases h with⟨_,a,ha⟩|⟨g,cap,eV,hv,hp,hg,_⟩
  ·rw[ha]at hb;cases a<;>simp[bm]at hb
  ·rw[hv]at hb;simp only[bm,bj (GY.1 hp),cI]at hb;subst hb;exact(w7.1 hg).1
 |map cL agg c es=>
  obtain⟨bJ,hc,_⟩:=h;simp only[Loc.own,cI]at hb;subst hb;exact(w7.1 hc).1
 |cX m s sn l=>
  obtain⟨hc,_⟩:=h;simp only[Loc.own,cI]at hb;subst hb;exact(w7.1 hc).1
def rK.amu{w:World}{W:f9}{ab:bF}{L:Loc}{o:Ob}(h:rK w W ab L base M r o){b:Nat}(hb:L.own r o=some b):base<=b\/M b:=by
 cases o with
 |box cs=>
  obtain⟨c,e,hc,_,hm⟩:=h;simp only[Loc.own,cI]at hb;subst hb;exact hm
 |bJ bP e sz aw=>
  obtain⟨_,_,hm,_⟩:=h;exact hm b hb
 |map cL agg c es=>
  obtain⟨bJ,hc,_,_,_,_,hm⟩:=h;simp only[Loc.own,cI]at hb;subst hb;exact hm
 |cX m s sn l=>
  obtain⟨hc,_,hm⟩:=h;simp only[Loc.own,cI]at hb;subst hb;exact hm
def rK.bi{w w':World}{W:f9}{ab aI:bF}{L L':Loc}{o:Ob}(ha:iH W ab L w aI L' w')
  (h:rK w W ab L base M r o) (ip:L'.kx r=L.kx r/\L'.sl r=L.sl r) (abb:∀b,L.own r o=some b->w'.heap[b]? =w.heap[b]?):rK w' W aI L' base M r o:=by
 cases o with
 |box cs=>
  obtain⟨c,e,hc,hr,hm⟩:=h;refine⟨c,e, ?_,aX.fP ha cs _ hr, ?_⟩
  ·rw[ip.1,abb _ rfl];exact hc
  ·rw[ip.1];exact hm
 |bJ bP e sz aw=>
  obtain⟨jJ,ew,hm,h⟩:=h;refine⟨jJ,ew,by rw[ip.2];exact hm, ?_⟩;rw[ip.2];rcases h with h|⟨g,cap,eV,hv,hp,hg,h1,h2,h3,h4⟩
  ·exact .inl h
  ·refine .inr ⟨g,cap,eV,hv,hp, ?_,h1,h2,h3,bu.bi ha.dP.toKeepsC ha.sub _ _ h4⟩;rw[abb g (by simp[Loc.own,hv,bm,GY.1 hp])];exact hg
 |map cL agg c es=>
  obtain⟨bJ,hc,hr,k1,k2,k3,hm⟩:=h;refine⟨bJ, ?_,bX.fP ha es _ hr,k1,k2,k3, ?_⟩
  ·rw[ip.1,abb _ rfl];exact hc
  ·rw[ip.1];exact hm
 |cX m s sn l=>
  obtain⟨hc,Oo,hm⟩:=h;have:=ha.mp m Oo;refine⟨?_,this.2, ?_⟩
  ·rw[ip.1,this.1,abb _ rfl];exact hc
  ·rw[ip.1];exact hm
def Obj.plain:Obj->Prop
 |.cells _ _ _|.map _ _|.mapIter _ _ _ _=>True
 |_=>False
def rK.cells{w:World}{W:f9}{ab:bF}{L:Loc}{o:Ob}(h:rK w W ab L base M r o){b:Nat}(hb:L.own r o=some b):∃x,w.heap[b]? =some x/\Obj.plain x:=by
 cases o with
 |box cs=>
  obtain⟨c,e,hc,_⟩:=h;simp only[Loc.own,cI]at hb;subst hb;exact⟨_,hc,trivial⟩
 |map cL agg c es=>
  obtain⟨bJ,hc,_⟩:=h;simp only[Loc.own,cI]at hb;subst hb;exact⟨_,hc,trivial⟩
 |cX m s sn l=>
  obtain⟨hc,_⟩:=h;simp only[Loc.own,cI]at hb;subst hb;exact⟨_,hc,trivial⟩
 |bJ bP e sz aw=>
  obtain⟨_,_,_,h⟩:=h;simp only[Loc.own]at hb;rcases h with⟨_,a,ha⟩|⟨g,cap,eV,hv,hp,hg,_⟩
  ·rw[ha]at hb;cases a<;>simp[bm]at hb
  ·rw[hv]at hb;simp only[bm,bj (GY.1 hp),cI]at hb;subst hb;exact⟨_,hg,trivial⟩
def cV(ab:bF):Option (Nat×Ob)->bF
 |none=>ab
 |some (r,o)=>λx=>if x=r then some o else ab x
def cO.put{W:f9}{w w':World}{ab:bF}{L L':Loc}{o':Ob}(h:cO base W M w0 ab w L)
  (zG:Fr base M w0 w') (jJ:w.heap.size<=w'.heap.size)
  (hL:∀x,x≠r->L'.kx x=L.kx x/\L'.sl x=L.sl x) (vP:L'.yl=L.yl)
  (Ll:∀b,b<w.heap.size->(∀o,ab r=some o->L.own r o≠some b)->w'.heap[b]? =w.heap[b]?)
  (v6:∀b,L'.own r o'=some b->(∃o,ab r=some o/\L.own r o=some b)\/w.heap.size<=b)
  (Dz:∀o,ab r=some o->o.kind≠1->L'.kx r=L.kx r/\o'.kind=o.kind)
  (v7:∀bP e sz aw,ab r=some (.bJ bP e sz aw)->∃cJ e' jI fz,o'=.bJ cJ e' jI fz/\bP<=cJ/\(cJ=bP->L'.sl r=L.sl r/\jI=sz/\fz.length=aw.length))
  (iy:iH W ab L w (cV ab (some (r,o'))) L' w'->rK w' W (cV ab (some (r,o'))) L' base M r o'):
  cO base W M w0 (cV ab (some (r,o'))) w' L'/\iH W ab L w (cV ab (some (r,o'))) L' w':=by
 have ip:∀x (o:Ob),x≠r->L'.own x o=L.own x o:=λx o hx=>by
  have:=hL x hx;cases o<;>simp[Loc.own,this.1,this.2]
 have ahD:∀x o b,x≠r->ab x=some o->L.own x o=some b->w'.heap[b]? =w.heap[b]? :=λx o b hx ho hb=>
  Ll b ((h.ob x o ho).lt hb) λo2 pg gn=>h.apart x r o o2 b hx ho pg hb gn
 have amv:∀(b:Nat) x,w.heap[b]? =some x->¬Obj.plain x->w'.heap[b]? =some x:=λb x hb hx=>by
  refine(Ll b (w7.1 hb).1 λo ho gn=>?_).trans hb;obtain⟨y,hc,hy⟩:=(h.ob r o ho).cells gn;rw[hc]at hb;cases hb;exact hx hy
 have fP:iH W ab L w (cV ab (some (r,o'))) L' w':=by
  refine⟨⟨⟨jJ,λb c e fr hb hn=>?_⟩,λb hb=>amv b _ hb (λe=>e),λb r hb=>amv b _ hb (λe=>e)⟩,λb hb hw=>?_,λx o hx hk=>?_,λx bP e sz aw hx=>?_,vP⟩
  ·exact(Ll b (w7.1 hb).1 λo2 pg gn=>hn (.inr ⟨r,o2,pg,gn⟩)).trans hb
  ·rcases hw with hw|⟨x,o,ho,gn⟩
   ·exact .inl hw
   ·by_cases hx:x=r
    ·subst hx;simp only[cV,km]at ho;obtain rfl:o'=o:=by simpa using ho
     rcases v6 b gn with⟨o2,pg,IY⟩|zH
     ·exact .inr ⟨x,o2,pg,IY⟩
     ·omega
    ·simp only[cV,bj hx]at ho;exact .inr ⟨x,o,ho,by rw[<-ip x o hx];exact gn⟩
  ·by_cases G3:x=r
   ·subst G3;obtain⟨h1,h2⟩:=Dz o hx hk;exact⟨h1,o',by simp[cV],h2⟩
   ·exact⟨(hL x G3).1,o,by simp[cV,G3,hx],rfl⟩
  ·by_cases G3:x=r
   ·subst G3;obtain⟨cJ,e',jI,fz,rfl,h2,h3⟩:=v7 bP e sz aw hx;exact⟨cJ,e',jI,fz,by simp[cV],h2,h3⟩
   ·exact⟨bP,e,sz,aw,by simp[cV,G3,hx],eF _,λ_=>⟨(hL x G3).2,rfl,rfl⟩⟩
 refine⟨⟨zG,λx o ho=>?_,λx x' o o2 b cj ho pg hb gn=>?_,λx o b ho hb hw=>?_,h.under,h.gl.bi fP.dP.toKeepsC fP.sub⟩,fP⟩
 ·by_cases hx:x=r
  ·subst hx;simp only[cV,km]at ho;obtain rfl:o'=o:=by simpa using ho
   exact iy fP
  ·simp only[cV,bj hx]at ho;exact rK.bi fP (h.ob x o ho) (hL x hx) λb hb=>ahD x o b hx ho hb
 ·by_cases hx:x=r
  ·subst hx;simp only[cV,km]at ho;obtain rfl:o'=o:=by simpa using ho
   have nK:x'≠x:=λe=>cj e.symm;simp only[cV,bj nK]at pg;rw[ip x' o2 nK]at gn;rcases v6 b hb with⟨o3,ho3,IY⟩|zH
   ·exact h.apart x' x o2 o3 b nK pg ho3 gn IY
   ·have:=(h.ob x' o2 pg).lt gn;omega
  ·simp only[cV,bj hx]at ho;rw[ip x o hx]at hb;by_cases nK:x'=r
   ·subst nK;simp only[cV,km]at pg;obtain rfl:o'=o2:=by simpa using pg
    rcases v6 b gn with⟨o3,ho3,IY⟩|zH
    ·exact h.apart x x' o o3 b cj ho ho3 hb IY
    ·have:=(h.ob x o ho).lt hb;omega
   ·simp only[cV,bj nK]at pg;rw[ip x' o2 nK]at gn;exact h.apart x x' o o2 b cj ho pg hb gn
 ·by_cases hx:x=r
  ·subst hx;simp only[cV,km]at ho;obtain rfl:o'=o:=by simpa using ho
   rcases v6 b hb with⟨o3,ho3,IY⟩|zH
   ·exact h.tu x o3 b ho3 IY hw
   ·have h1:=h.under b hw;have h2:=h.fr.kl;have h3:=h.fr.size;omega
  ·simp only[cV,bj hx]at ho;rw[ip x o hx]at hb;exact h.tu x o b ho hb hw
def GW.start{w:World}{W:f9}{L:Loc}(h:GW w W):GW w (WW W (λ_=>none) L):=
 h.bi (dJ.refl W w).toKeepsC λb _ hw=>by
  rcases hw with hw|⟨r,o,hr,_⟩
  ·exact hw
  ·cases hr
def cO.grow{W:f9}{w w':World}{ab:bF}{L:Loc}(h:cO base W M w0 ab w L)(hb:xQ w.heap.size w w'):
  cO base W M w0 ab w' L/\iH W ab L w ab L w':=by
 have fP:iH W ab L w ab L w':=iH.dc (dJ.V7 hb.toBelow);have kw:base<=w.heap.size:=yI h.fr.kl h.fr.size;refine⟨⟨h.fr.trans ⟨hb.os,hb.tape,hb.output,kw,hb.size,λk hk _=>hb.block k (by omega),hb.drawn⟩,λr o ho=>?_,h.apart,h.tu,h.under,h.gl.bi fP.dP.toKeepsC fP.sub⟩,fP⟩;exact rK.bi fP (h.ob r o ho) ⟨rfl,rfl⟩ λb gn=>hb.block b ((h.ob r o ho).lt gn)
end
section
variable{P:Program}{vs:List Value}{d:TypeDesc}{ts ds:aK}{base:Nat}{M:f9}
def mV:Value->Option DV
 |.int k n=>some (.v (.int k n))
 |.bool b=>some (.v (.bool b))
 |.string s=>some (.v (.str s))
 |.slice none 0 0=>some .bH
 |.pointer none=>some (.v (.w6 (.pointer none)))
 |.nilFunc=>some (.v (.w6 .nilFunc))
 |.nilIface=>some (.v (.w6 .nilIface))
 |.map none=>some (.v (.w6 (.map none)))
 |_=>none
def ul:Value->Option T
 |.int k n=>some (.int k n)
 |.bool b=>some (.bool b)
 |.string s=>some (.str s)
 |.slice none 0 0=>some (.sl [])
 |.pointer none=>some (.w6 (.pointer none))
 |.nilFunc=>some (.w6 .nilFunc)
 |.nilIface=>some (.w6 .nilIface)
 |.map none=>some (.w6 (.map none))
 |_=>none
variable [bK]
def cg.of:Operand->Option cg
 |.tmp t=>some (.tmp t)
 |.const v=>(mV v).map .yF
 |.func f=>some (.yF (.v (.fn (.func f) [])))
 |.global g=>(bK.cells.find? λp=>p.1==g).map λp=>.yF (.kP p.2 0)
section
variable{w:World}{W:f9}{ab:bF}{L:Loc}
def yJ:∀{x:Value} {d:DV},mV x=some d->aC w W ab L d x/\x.oneCell'=true:=by
 intro x d h;unfold mV at h;split at h<;>simp only[cI,reduceCtorEq]at h<;>subst h<;>simp[aC,bw,Value.oneCell']
def EK:∀{x:Value} {t:T},ul x=some t->bw w W t x/\x.oneCell'=true/\EF t=true:=by
 intro x d h;unfold ul at h;split at h<;>simp only[cI,reduceCtorEq]at h<;>subst h<;>simp[bw,Value.oneCell',EF]
def jR:∀{xs:List Value} {ds:bM},xs.mapM mV=some ds->aX w W ab L ds xs
 |[],ds,h=>by simp at h;subst h;simp[aX]
 |x::xs,ds,h=>by
  simp only[KS,mF,lp,kb,cI]at h;obtain⟨d,hd,sN,hds,rfl⟩:=h;simp only[aX];have:=yJ (w:=w) (W:=W) (ab:=ab) (L:=L) hd;exact⟨x,xs,rfl,this.2,this.1,jR hds⟩
def vk:∀{xs:List Value} {ds:aK},xs.mapM ul=some ds->bu w W ds xs
 |[],ds,h=>by simp at h;subst h;simp[bu]
 |x::xs,ds,h=>by
  simp only[KS,mF,lp,kb,cI]at h;obtain⟨d,hd,sN,hds,rfl⟩:=h;simp only[bu];have:=EK (w:=w) (W:=W) hd;exact⟨x,xs,rfl,this.2.1,this.1,vk hds⟩
def cg.ch{a:Act}{ρ:dG}(hg:GW w (WW W ab L))(ku:∀t,aC w W ab L (ρ t) (a.tmps.getD t Go.undef)){x:Operand}{y:cg}(h:cg.of x=some y):aC w W ab L (y.ev ρ) (a.eval x):=by
 cases x with
 |tmp t=>simp only[cg.of,cI]at h;subst h;simpa [cg.ev,Act.eval]using ku t
 |const v=>
  simp only[cg.of,jr]at h;obtain⟨d,hd,rfl⟩:=h;exact(yJ hd).1
 |func f=>simp only[cg.of,cI]at h;subst h;simp[cg.ev,Act.eval,aC,bw,bu]
 |global g=>
  simp only[cg.of,jr]at h;obtain⟨p,hp,rfl⟩:=h;have h1:=Zdt hp;obtain rfl:p.1=g:=by simpa using h1
  obtain⟨h2,h3,h4⟩:=hg p (Zcp hp);simp only[cg.ev,Act.eval,aC];exact⟨p.1,0,rfl,h2,h3,h4⟩
def ow(b o n:Nat):(⟨b,o,none⟩:Addr).add n=⟨b,o+n,none⟩:=by unfold Addr.add;split<;>simp_all
def CN{w:World}{b o:Nat}(h:∀j v,vs[j]? =some v->w.cell? ⟨b,o+j,none⟩=some v):
  (loadCells ⟨b,o,none⟩ vs.length).run P w=.ok vs.toArray w:=
 run_loadCells_list w _ vs λj v hv=>by rw[ow];exact h j v hv
def Hu{w:World}{t:TypeId}(h:P.underlying t=some d):(isAgg t).run P w=.ok (match d with|.struct _|.array _ _=>true|_=>false) w:=by
 simp only[isAgg,Sem.run_bind,run_underlying h,Result.andThen_ok];cases d<;>rfl
def run_sizeOf{w:World}{t:TypeId}{i:TypeInfo}(h:P.info? t=some i):(sizeOf t).run P w=.ok i.size w:=by
 simp[sizeOf,typeInfo,h]
def cE:TypeDesc->Bool
 |.struct _|.array _ _=>true
 |_=>false
def tw{w:World}{t:TypeId}{i:TypeInfo}(hd:P.underlying t=some d)(hi:P.info? t=some i){b o:Nat}
  (hl:vs.length=i.size) (h:∀j v,vs[j]? =some v->w.cell? ⟨b,o+j,none⟩=some v) (hs:cE d=true\/i.size=1):
  (Instr.loadAt t (.pointer (some ⟨b,o,none⟩))).run P w=.ok (if cE d then .agg vs.toArray else vs.getD 0 Go.undef) w:=by
 have h1:(isAgg t).run P w=.ok (cE d) w:=by rw[Hu hd];cases d<;>rfl
 simp only[Instr.loadAt,Instr.sureAddr,loadVar,Sem.run_bind,Sem.run_pure,Result.andThen_ok,h1];by_cases ha:cE d=true
 ·simp only[ha,km,Sem.run_bind,run_sizeOf hi,Result.andThen_ok];rw[<-hl,CN h];rfl
 ·have h1:vs.length=1:=by rw[hl];exact hs.resolve_left ha
  match vs,h1 with
  |[v],_=>
   have:=h 0 v rfl;simp only[Zcb]at this;simp[ha,this]
def eQ.cT{b:Nat}:∀{ts:aK} {o:Nat},eQ w W b o ts->∃vs,bu w W ts vs/\∀j v,vs[j]? =some v->w.cell? ⟨b,o+j,none⟩=some v
 |[],o,_=>⟨[],by simp[bu],by simp⟩
 |t::ts,o,h=>by
  simp only[eQ]at h;obtain⟨⟨v,hc,h1,hr⟩,nR⟩:=h;obtain⟨vs,hv,pi⟩:=eQ.cT nR;refine⟨v::vs,by simp only[bu];exact⟨v,vs,rfl,h1,hr,hv⟩,λj u hu=>?_⟩;cases j with
  |zero=>simp only[IS,cI]at hu;subst hu;simpa using hc
  |succ j=>
   have:=pi j u (by simpa using hu)
   rwa [show o+(j+1)=o+1+j by omega]
def bu.split{ts':aK}:∀{vs:List Value},bu w W (ts++ts') vs->∃v1 v2,vs=v1++v2/\bu w W ts v1/\bu w W ts' v2:=by
 induction ts with
 |nil=>intro vs h;exact⟨[],vs,rfl,by simp[bu],h⟩
 |cons t ts ih=>
  intro vs h;simp only[Dy,bu]at h;obtain⟨v,kj,rfl,h1,h2,hr⟩:=h;obtain⟨v1,v2,rfl,ha,hb⟩:=ih hr;exact⟨v::v1,v2,rfl,by simp only[bu];exact⟨v,v1,rfl,h1,h2,ha⟩,hb⟩
def eQ.uk{b o:Nat}(h:bu w W ts vs)(hc:∀j v,vs[j]? =some v->w.cell? ⟨b,o+j,none⟩=some v):eQ w W b o ts:=
 eQ.EE ts o λj t ht=>by
  obtain⟨v,hv,h1,hr⟩:=bu.get h ht;exact⟨v,hc j v hv,h1,hr⟩
def bL.kA{sz b:Nat}:∀{aw:List (aK)} {o:Nat} {vs:List Value},bu w W aw.flatten vs->(∀r∈aw,r.length=sz)->(∀j v,vs[j]? =some v->w.cell? ⟨b,o+j,none⟩=some v)->bL w W sz b o aw
 |[],_,_,_,_,_=>by simp[bL]
 |r::rs,o,vs,h,hl,hc=>by
  simp only[V9]at h;obtain⟨v1,v2,rfl,ha,hb⟩:=bu.split h;have hr:r.length=sz:=hl r (by simp);have ya:v1.length=sz:=by rw[bu.length ha,hr]
  simp only[bL];refine⟨hr,eQ.uk ha λj v hv=>hc j v ?_,bL.kA hb (λx hx=>hl x (by simp[hx])) λj v hv=>?_⟩
  ·rw[Zbm (DA.1 hv).1];exact hv
  ·have:=hc (sz+j) v (by rw[Zbk (by omega),ya];simpa using hv)
   rwa [show o+sz+j=o+(sz+j)by omega]
def bL.flatten{sz b:Nat}:∀{aw:List (aK)} {o:Nat},bL w W sz b o aw->∃vs,vs.length=aw.length*sz/\bu w W aw.flatten vs/\∀j v,vs[j]? =some v->w.cell? ⟨b,o+j,none⟩=some v
 |[],o,_=>⟨[],by simp,by simp[bu],by simp⟩
 |r::rs,o,h=>by
  simp only[bL]at h;obtain⟨v1,h1,bI⟩:=eQ.cT h.2.1;obtain⟨v2,yb,h2,fW⟩:=bL.flatten h.2.2;have ya:v1.length=sz:=by rw[bu.length h1,h.1]
  refine⟨v1++v2,by simp[ya,yb,Dw];omega,by simpa using bu.append h1 h2,λj v hv=>?_⟩;by_cases hj:j<v1.length
  ·rw[Zbm hj]at hv;exact bI j v hv
  ·rw[Zbk (by omega)]at hv;have:=fW (j-v1.length) v hv
   rwa [show o+sz+(j-v1.length)=o+j by omega]at this
def rK.aw{r bP e sz:Nat}{aw:List (aK)}(h:rK w W ab L base M r (.bJ bP e sz aw)){g:Nat}(hg:bm (L.sl r)=some g):
  bL w (WW W ab L) sz g 0 aw:=by
 obtain⟨_,hl,_,h⟩:=h;rcases h with⟨rfl,_⟩|⟨g',cap,eV,hv,hp,hh,h1,h2,h3,h4⟩
 ·simp[bL]
 ·rw[hv]at hg;simp only[bm,bj (GY.1 hp),cI]at hg;subst hg;refine bL.kA h4 hl λj v hv=>?_;rw[KR,cell_of_row w g' j eV e (0,0) hh];rw[Hv]at hv;split at hv
  ·simpa using hv
  ·cases hv
def BB{aw:List (aK)}{i:Int}(h0:0<=i)(h1:i<aw.length):aw[i.toNat]? =some (rowAt aw i):=by
 have:i.toNat<aw.length:=by omega
 simp[rowAt,List.getD,this]
def bu.take(n:Nat):∀{vs:List Value},bu w W ds vs->bu w W (ds.take n) (vs.take n):=by
 induction n generalizing ds with
 |zero=>intro vs h;simp[bu]
 |succ n ih=>
  intro vs h;cases ds with
  |nil=>simp only[bu]at h;subst h;simp[bu]
  |cons d ds=>
   simp only[bu]at h;obtain⟨v,kj,rfl,h1,h2,hr⟩:=h;simp only[Zcw,bu];exact⟨v,_,rfl,h1,h2,ih hr⟩
def bu.drop(n:Nat):∀{vs:List Value},bu w W ds vs->bu w W (ds.drop n) (vs.drop n):=by
 induction n generalizing ds with
 |zero=>intro vs h;simpa using h
 |succ n ih=>
  intro vs h;cases ds with
  |nil=>simp only[bu]at h;subst h;simp[bu]
  |cons d ds=>
   simp only[bu]at h;obtain⟨v,kj,rfl,h1,h2,hr⟩:=h;simpa using ih hr
def xb{t:TypeId}{i:TypeInfo}(hd:P.underlying t=some d)(hi:P.info? t=some i){b o off:Nat}{cs:aK}
  (hr:eQ w (WW W ab L) b o cs) (aO:off+i.size<=cs.length/\(cE d=true\/i.size=1)):
  ∃v,(Instr.loadAt t (.pointer (some ⟨b,o+off,none⟩))).run P w=.ok v w/\
   aC w W ab L (if cE d then .v (.agg ((cs.drop off).take i.size))else .v (cs.getD off default)) v:=by
 obtain⟨vs,hv,hc⟩:=eQ.cT hr;have hl:=bu.length hv;have mM:=bu.take i.size (bu.drop off hv);refine⟨_,tw hd hi (vs:=(vs.drop off).take i.size) (by simp;omega) (λj v hj=>?_) aO.2, ?_⟩
 ·rw[Hv]at hj;split at hj
  ·rw[ZbL]at hj;have:=hc _ _ hj
   rwa [show o+off+j=o+(off+j)by omega]
  ·cases hj
 ·by_cases ha:cE d=true
  ·simp only[ha,km,aC,bw];exact⟨_,rfl,by simpa using mM⟩
  ·have h1:i.size=1:=aO.2.resolve_left ha;have eG:off<cs.length:=by omega
   obtain⟨v,vm,_,g0⟩:=bu.get hv (i:=off) (t:=cs[off]) (by simp[eG]);have e1:(List.take i.size (List.drop off vs)).getD 0 Go.undef=v:=by
    rw[h1];simp only[List.getD,Hv,ZbL,Zcb,vm];simp
   have e2:cs.getD off default=cs[off]:=by simp[List.getD,eG]
   simp only[ha,e1,e2];exact g0
def yK{w0:World}(hO:cO base W M w0 ab w L){t:TypeId}{i:TypeInfo}(hd:P.underlying t=some d)(hi:P.info? t=some i)
  {x:DV} {xv:Value} (hx:aC w W ab L x xv) (aO:(jH i.size (cE d) ab x).ok):
  (jH i.size (cE d) ab x).put=none/\∃v,(Instr.loadAt t xv).run P w=.ok v w/\aC w W ab L (jH i.size (cE d) ab x).val v:=by
 cases x with
 |ptr r off=>
  simp only[aC]at hx;obtain⟨⟨cs,hc⟩,rfl⟩:=hx;simp only[jH,hc]at aO⊢;refine⟨trivial, ?_⟩;obtain⟨c,e,hh,hr,_⟩:=hO.ob r _ hc;have hl:=aX.length hr;have yd:=aX.take i.size (aX.drop off hr);refine⟨_,tw hd hi (vs:=(c.toList.drop off).take i.size) (by simp at hl⊢;omega) (λj v hj=>?_) aO.2, ?_⟩
  ·rw[Hv]at hj;split at hj
   ·rw[ZbL]at hj;rw[cell_of_row w _ _ c e (0,0) hh];simpa using hj
   ·cases hj
  ·by_cases ha:cE d=true
   ·simp only[ha,km,aC];exact⟨_,rfl,by simpa using yd⟩
   ·have h1:i.size=1:=aO.2.resolve_left ha;have eG:off<cs.length:=by omega
    obtain⟨v,vm,_,g0⟩:=aX.get hr (i:=off) (d:=cs[off]) (by simp[eG]);have e1:(List.take i.size (List.drop off c.toList)).getD 0 Go.undef=v:=by
     rw[h1];simp only[List.getD,Hv,ZbL,Zcb,vm];simp
    have e2:cs.getD off .undef=cs[off]:=by simp[List.getD,eG]
    simp only[ha,e1,e2];exact g0
 |nz aw j off=>
  simp only[aC]at hx;obtain⟨b,o,sz,rfl,hb,hn,hr,h0,h1⟩:=hx;simp only[jH]at aO⊢;exact⟨trivial,xb hd hi (bL.row hr (BB h0 h1)).2 aO⟩
 |kP cs off=>
  simp only[aC]at hx;obtain⟨b,o,rfl,hb,hn,hr⟩:=hx;simp only[jH]at aO⊢;exact⟨trivial,xb hd hi hr aO⟩
 |v t'=>
  cases t' with
  |box cs=>
   simp only[aC,bw]at hx;obtain⟨b,o,rfl,hb,hn,hr⟩:=hx;simp only[jH]at aO⊢;have:=xb (ab:=ab) (L:=L) (W:=W) hd hi (off:=0) hr (by simpa using aO);refine⟨trivial, ?_⟩;simpa using this
  |_=>simp[jH,dm]at aO
 |ln r bP j off=>
  simp only[aC]at hx;obtain⟨_,cJ,e,sz,aw,ho,kw,hx⟩:=hx;simp only[jH,ho]at aO⊢;obtain⟨g,hg,rfl,h0,h1⟩:=hx aO.1;have xR:=rK.aw (hO.ob r _ ho) hg;have:=(bL.row xR (BB h0 h1)).2;rw[KR]at this;exact⟨trivial,xb hd hi this aO.2⟩
 |_=>simp[jH,dm]at aO
end
end
section
variable{yv xv z:Value}{va vb xs vs:List Value}{base r off bP sz lo name:Nat}{M:f9}{w0 w':World}{P:Program}{cs:bM}{α:Type}{aw ys:List (aK)}{t' ty:TypeId}{zero:aK}
variable [bK]
section
variable{w:World}{W:f9}{ab:bF}{L:Loc}
def BC{y:DV}(h:fM (cellsOf y))(hl:(cellsOf y).length≠0\/True):ov y:=by
 cases y with
 |undef=>simp[cellsOf,fM,lH]at h
 |skip=>simp[cellsOf,fM,lH]at h
 |v t=>
  cases t<;>simp_all [cellsOf,fM,lH,ov,EF]
 |eE ds=>simp[cellsOf,fM,lH]at h
 |_=>simp[ov]
def sO{y:DV}(hy:aC w W ab L y yv)(h:fM (cellsOf y)):aX w W ab L (cellsOf y) yv.cells.toList:=
 aC.cells hy (BC h (.inr trivial))
def aX.one{ds:bM}:∀{vs:List Value},aX w W ab L ds vs->∀v∈vs,v.oneCell'=true:=by
 induction ds with
 |nil=>intro vs h;simp only[aX]at h;subst h;simp
 |cons d ds ih=>
  intro vs h;simp only[aX]at h;obtain⟨v,kj,rfl,h1,_,hr⟩:=h;intro u hu;rcases gm.1 hu with rfl|hu
  ·exact h1
  ·exact ih hr u hu
def bu.one{ds:aK}:∀{vs:List Value},bu w W ds vs->∀v∈vs,v.oneCell'=true:=by
 induction ds with
 |nil=>intro vs h;simp only[bu]at h;subst h;simp
 |cons d ds ih=>
  intro vs h;simp only[bu]at h;obtain⟨v,kj,rfl,h1,_,hr⟩:=h;intro u hu;rcases gm.1 hu with rfl|hu
  ·exact h1
  ·exact ih hr u hu
def aX.cS{a b:bM}(off:Nat)(ha:aX w W ab L a va)(hb:aX w W ab L b vb):aX w W ab L (cS a off b) (cS va off vb):=by
 unfold DM.cS;rw[<-aX.length hb];exact aX.append (aX.append (aX.take off ha) hb) (aX.drop _ ha)
def bu.cS{a b:aK}(off:Nat)(ha:bu w W a va)(hb:bu w W b vb):bu w W (cS a off b) (cS va off vb):=by
 unfold DM.cS;rw[<-bu.length hb];exact bu.append (bu.append (bu.take off ha) hb) (bu.drop _ ha)
def BD{g:Nat}(cs:Array Value)(h:Fr base M w0 w)(hg:base<=g\/M g):Fr base M w0 (w.setRow g cs):=
 ⟨h.os,h.tape,h.output,h.kl,by simpa using h.size,λk hk hm=>by
  rw[setRow_other w g k cs (by rintro rfl;exact hg.elim (λh1=>by omega) hm)];exact h.block k hk hm,by simpa using h.drawn⟩
def Hw{t:TypeId}{i:TypeInfo}(hi:P.info? t=some i){g o:Nat}{e:TypeId}{eV:Array Value}(hg:w.heap[g]? =some (.cells eV e (0,0)))
  (hl:yv.cells.size=i.size) (EL:o+i.size<=eV.size) (h1:∀v∈yv.cells.toList,v.oneCell'=true):
  (Instr.storeAt t (.pointer (some ⟨g,o,none⟩)) yv).run P w=.ok () (w.setRow g (cS eV.toList o yv.cells.toList).toArray):=by
 have hs:=run_storeCells_at P g o e yv.cells.toList 0 eV w hg (by simp[hl];omega) h1;simp only[Zcb]at hs;simp only[Instr.storeAt,Instr.sureAddr,storeVar,Sem.run_bind,Sem.run_pure,Result.andThen_ok,run_sizeOf hi,hl,ne_eq,not_true_eq_false,xd];exact hs
def TD(hO:cO base W M w0 ab w L){t:TypeId}{i:TypeInfo}(hi:P.info? t=some i)
   (hc:ab r=some (.box cs)) {y:DV} (hy:aC w W ab L y yv)
  (hn:(cellsOf y).length=i.size) (EL:off+i.size<=cs.length) (DW:fM (cellsOf y)):
  ∃w',(Instr.storeAt t (.pointer (some ⟨L.kx r,off,none⟩)) yv).run P w=.ok () w'/\
   cO base W M w0 (cV ab (some (r,.box (cS cs off (cellsOf y))))) w' L/\iH W ab L w (cV ab (some (r,.box (cS cs off (cellsOf y))))) L w':=by
 obtain⟨c,e,hh,hr,hm⟩:=hO.ob r _ hc;have rL:=sO hy DW;have vP:yv.cells.size=i.size:=by have:=aX.length rL;simpa [hn]using this
 have ba:c.size=cs.length:=by simpa using aX.length hr
 refine⟨_,Hw hi hh vP (by omega) (aX.one rL), ?_⟩;refine cO.put hO (BD _ hO.fr hm) (by simp) (λ_ _=>⟨rfl,rfl⟩) rfl (λb _ hb=>setRow_other w _ b _ (λx=>hb _ hc (by simp[Loc.own,x])))
  (λb hb=>.inl ⟨_,hc,hb⟩) (λo' jA _=>by rw[hc]at jA;cases jA;exact⟨rfl,rfl⟩) (λbP e sz aw h=>by rw[hc]at h;cases h) (λfP=>?_)
 refine⟨_,e,setRow_heap w _ c _ e _ hh, ?_,hm⟩;exact aX.cS off (aX.fP fP _ _ hr) (aX.fP fP _ _ rL)
def iW{l new:List α}(h:off+new.length<=l.length):(cS l off new).length=l.length:=by
 simp[cS];omega
def CO{l new:List α}{n:Nat}(h:off+new.length<=n)(hn:n<=l.length):(cS l off new).take n=cS (l.take n) off new:=by
 unfold cS;have e1:List.take off (List.take n l)=List.take off l:=by rw[Zdc];congr 1;omega
 have e2:(List.take off l++new).length=off+new.length:=by simp;omega
 rw[e1,List.drop_take,Zdn,e2,TE (by omega)]
def CP{sz:Nat}:∀(aw:List (aK)) (i off:Nat) (new:aK),(∀r∈aw,r.length=sz)->i<aw.length->off+new.length<=sz->
  (aw.set i (cS (aw.getD i []) off new)).flatten=cS aw.flatten (i*sz+off) new
 |[],i,_,_,_,h,_=>by simp at h
 |r::rs,0,off,new,hl,_,hf=>by
  have hr:r.length=sz:=hl r (by simp);simp only[List.getD_cons_zero,Zb7,V9,cS,Zc3,KR];rw[List.take_append_of_le_length (by omega),List.drop_append_of_le_length (by omega)];simp
 |r::rs,i+1,off,new,hl,h,hf=>by
  have hr:r.length=sz:=hl r (by simp);have ih:=CP rs i off new (λx hx=>hl x (by simp[hx])) (by simpa using h) hf;simp only[ZcM,Zci,V9];rw[show∀(a b:aK),cS (a++b) ((i+1)*sz+off) new=(a++b).take ((i+1)*sz+off)++new++(a++b).drop ((i+1)*sz+off+new.length)from λ_ _=>rfl];have e:(i+1)*sz+off=r.length+(i*sz+off):=by rw[Dw,hr];omega
  rw[e,Zdn,List.drop_append];have e1:r.length+(i*sz+off)-r.length=i*sz+off:=by omega
  have e2:r.length+(i*sz+off)+new.length-r.length=i*sz+off+new.length:=by omega
  rw[e1,e2,TE (l:=r) (by omega),ZbG (as:=r) (by omega)];simp only[zQ,Zb2];rw[ih];simp only[cS,Zb2]
def IZ{Rf:bF}{d:DV}{v:Value}(hp:vX d)(h:aC w W ab L d v):bw w (WW W ab L) (vu Rf d) v:=by
 cases d with
 |v t=>simpa [vu,aC]using h
 |bH=>
  simp only[aC]at h;obtain⟨a,rfl⟩:=h;simp only[vu,bw];exact .inl ⟨trivial,a,0,rfl⟩
 |_=>exact hp.elim
def pL{Rf:bF}:∀{ds:bM} {vs:List Value},jZ ds->aX w W ab L ds vs->bu w (WW W ab L) (ka Rf ds) vs
 |[],vs,_,h=>by simpa [aX,bu,ka]using h
 |d::ds,vs,hp,h=>by
  simp only[jZ]at hp;simp only[aX]at h;obtain⟨v,kj,rfl,h1,h2,hr⟩:=h;simp only[ka,bu];exact⟨v,kj,rfl,h1,IZ hp.1 h2,pL hp.2 hr⟩
def v8:∀{ds:bM},jZ ds->fM ds
 |[],_=>trivial
 |d::ds,h=>by
  simp only[jZ]at h;simp only[fM];refine⟨?_,v8 h.2⟩;have:=h.1;cases d<;>simp_all [vX,lH]
def wa:∀(ds:bM),(ka ab ds).length=ds.length
 |[]=>rfl
 |_::ds=>by simp[ka,wa ds]
def TF(hO:cO base W M w0 ab w L){t:TypeId}{i:TypeInfo}(hi:P.info? t=some i)
  {e:Nat} {j:Int} {g:Nat} (hc:ab r=some (.bJ bP e sz aw)) (hg:bm (L.sl r)=some g) (h0:0<=j) (h1:j<aw.length)
  {y:DV} (hy:aC w W ab L y yv) (hn:(cellsOf y).length=i.size) (EL:off+i.size<=sz) (DW:jZ (cellsOf y)):
  ∃w',(Instr.storeAt t (.pointer (some ⟨g,j.toNat*sz+off,none⟩)) yv).run P w=.ok () w'/\
   cO base W M w0 (cV ab (some (r,.bJ bP e sz (aw.set j.toNat (cS (rowAt aw j) off (ka ab (cellsOf y))))))) w' L/\
   iH W ab L w (cV ab (some (r,.bJ bP e sz (aw.set j.toNat (cS (rowAt aw j) off (ka ab (cellsOf y))))))) L w':=by
 have iy:=hO.ob r _ hc;obtain⟨jJ,ew,hm,mN⟩:=iy;rcases mN with⟨rfl,_⟩|⟨g',cap,eV,hv,hp,hh,kw,um,I0,iJ⟩
 ·simp at h1;omega
 ·rw[hv]at hg;simp only[bm,bj (GY.1 hp),cI]at hg;subst hg;have rL:=sO hy (v8 DW);have vP:yv.cells.size=i.size:=by have:=aX.length rL;simpa [hn]using this
  have hj:j.toNat<aw.length:=by omega
  have hjs:j.toNat*sz+sz<=aw.length*sz:=by
   have:=Zbx sz (show j.toNat+1<=aw.length by omega)
   rwa [Dw,Nat.one_mul]at this
  have pi:aw.length*sz<=cap*sz:=Zbx sz kw;have Wa:(ka ab (cellsOf y)).length=i.size:=by rw[wa];exact hn
  have zI:yv.cells.toList.length=i.size:=by simpa using vP
  have ip:L.own r (.bJ bP e sz aw)=some g':=by simp[Loc.own,hv,bm,GY.1 hp]
  refine⟨_,Hw hi hh vP (by omega) (aX.one rL), ?_⟩;refine cO.put hO (BD _ hO.fr (hm g' (by simp[hv,bm,GY.1 hp]))) (by simp) (λ_ _=>⟨rfl,rfl⟩) rfl (λb _ hb=>setRow_other w _ b _ (λx=>hb _ hc (by rw[ip,x])))
   (λb hb=>.inl ⟨_,hc,hb⟩) (λo' jA hk=>by rw[hc]at jA;cases jA;exact eK rfl hk) (λcJ e' jI fz h=>?_) (λfP=>?_)
  ·rw[hc]at h;cases h;exact⟨bP,e,sz,_,rfl,eF _,λ_=>⟨rfl,rfl,by simp⟩⟩
  ·refine⟨jJ,λx hx=>?_,hm,.inr ⟨g',cap,_,by simpa using hv,hp,setRow_heap w _ eV _ e _ hh,by simpa using kw,um, ?_, ?_⟩⟩
   ·rcases TG hx with hx|rfl
    ·exact ew x hx
    ·rw[iW]
     ·exact ew _ (by rw[rowAt,List.getD,xi hj];simp)
     ·have:(rowAt aw j).length=sz:=ew _ (by rw[rowAt,List.getD,xi hj];simp);omega
   ·have:=iW (l:=eV.toList) (new:=yv.cells.toList) (off:=j.toNat*sz+off) (by simp only[Rg]at zI⊢;omega);simpa using this.trans (by simpa using I0)
   ·rw[show rowAt aw j=aw.getD j.toNat []from rfl,CP aw j.toNat off _ ew hj (by omega)];simp only[Zdu];have e1:(cS eV.toList (j.toNat*sz+off) yv.cells.toList).toArray.toList.take (aw.length*sz)=cS (eV.toList.take (aw.length*sz)) (j.toNat*sz+off) yv.cells.toList:=by
     rw[List.toList_toArray];exact CO (by omega) (by simp;omega)
    rw[e1];exact bu.cS _ (bu.bi fP.dP.toKeepsC fP.sub _ _ iJ) (bu.bi fP.dP.toKeepsC fP.sub _ _ (pL DW rL))
def Loc.iX(L:Loc)(r b:Nat):Loc:=⟨λx=>if x=r then b else L.kx x,L.sl,L.yl⟩
def Loc.jS(L:Loc)(r:Nat)(v:Value):Loc:=⟨L.kx,λx=>if x=r then v else L.sl x,L.yl⟩
def zW(h:Fr base M w0 w)(hb:xQ w.heap.size w w'):Fr base M w0 w':=by
 have kw:base<=w.heap.size:=yI h.kl h.size;exact h.trans ⟨hb.os,hb.tape,hb.output,kw,hb.size,λk hk _=>hb.block k (by omega),hb.drawn⟩
def mo(o:Obj):xQ w.heap.size w (w.alloc o):=⟨(Below.refl _ _).alloc (eF _) _,eF _⟩
def I1(hO:cO base W M w0 ab w L)(hr:ab r=none){c:Array Value}(e:TypeId)(hc:aX w W ab L cs c.toList):
  cO base W M w0 (cV ab (some (r,.box cs))) (w.alloc (.cells c e)) (L.iX r w.heap.size)/\
   iH W ab L w (cV ab (some (r,.box cs))) (L.iX r w.heap.size) (w.alloc (.cells c e)):=by
 have hb:=mo (w:=w) (.cells c e);refine cO.put hO (zW hO.fr hb) hb.size (λx hx=>⟨by simp[Loc.iX,hx],rfl⟩) rfl (λb eG _=>hb.block b eG) (λb h=>.inr ?_)
  (λo' h _=>by rw[hr]at h;cases h) (λ_ _ _ _ h=>by rw[hr]at h;cases h) (λfP=>?_)
 ·simp only[Loc.own,Loc.iX,km,cI]at h;omega
 ·refine⟨c,e, ?_,aX.fP fP _ _ hc,.inl ?_⟩
  ·simp only[Loc.iX,km];exact heap_alloc_new w _
  ·simp only[Loc.iX,km];exact yI hO.fr.kl hO.fr.size
def wb(hO:cO base W M w0 ab w L){e n:Nat}(hc:ab r=some (.bJ bP e sz aw))
  (hx:lo+n<=aw.length/\∃p cap p2,L.sl r=.slice p aw.length cap/\xv=.slice p2 n (cap-lo)/\(lo<cap->p2=p.map (·.add (lo*sz)))):
  (n=0/\∃(a:Option Addr) (c:Nat),xv=.slice a 0 c)\/∃g c,bm (L.sl r)=some g/\xv=.slice (some ⟨g,lo*sz,none⟩) n c/\n<=c/\bL w (WW W ab L) sz g (lo*sz) ((aw.drop lo).take n):=by
 obtain⟨Lm,p,cap,p2,xS,rfl,Rh⟩:=hx;by_cases hn:n=0
 ·subst hn;exact .inl ⟨rfl,p2,_,rfl⟩
 ·have iy:=hO.ob r _ hc;obtain⟨_,ew,hm,mN⟩:=iy;rcases mN with⟨rfl,a,ha⟩|⟨g,amw,eV,h1,h2,h3,h4,h5,h6,h7⟩
  ·simp at Lm;omega
  ·have zX:bm (L.sl r)=some g:=by rw[h1];simp[bm,GY.1 h2]
   have xR:=rK.aw (hO.ob r _ hc) zX;rw[xS]at h1;simp only[Value.slice.injEq]at h1;obtain⟨rfl,_,rfl⟩:=h1;have:=Rh (by omega);subst this;refine .inr ⟨g,cap-lo,zX,by simp[ow],by omega,bL.DU _ _ λj x hj=>?_⟩;rw[Hv]at hj;split at hj
   ·rw[ZbL]at hj;have:=bL.row xR hj;rw[KR,Dw]at this;exact this
   ·cases hj
structure Wb(w:World)(W':f9)(ys:List (aK))(sz:Nat)(v:Value):Prop where
 it:(ys=[]/\∃(a:Option Addr) (c:Nat),v=.slice a 0 c)\/∃b o c,v=.slice (some ⟨b,o,none⟩) ys.length c/\bL w W' sz b o ys
def tz(hO:cO base W M w0 ab w L){y:DV}(hy:aC w W ab L y yv)(hs:gD ab y=some ys)(hl:∀r∈ys,r.length=sz):
  Wb w (WW W ab L) ys sz yv:=by
 cases y with
 |v t=>
  cases t with
  |sl aw=>
   simp only[gD,cI]at hs;subst hs;simp only[aC,bw]at hy;rcases hy with hy|⟨b,o,cap,jI,rfl,_,_,hc,hr⟩
   ·exact⟨.inl hy⟩
   ·refine⟨.inr ⟨b,o,cap,rfl, ?_⟩⟩
    match aw,hr with
    |[],_=>simp[bL]
    |r::rs,hr=>
     have h1:=(bL.row hr (i:=0) (r:=r) rfl).1;have h2:=hl r (by simp);have:jI=sz:=by omega
     exact this▸hr
  |w6 v=>
   unfold gD at hs;split at hs<;>simp_all
   simp only[aC,bw]at hy;exact⟨.inl ⟨rfl,_,_,hy⟩⟩
  |_=>simp[gD]at hs
 |bH=>
  simp only[gD,cI]at hs;subst hs;simp only[aC]at hy;obtain⟨a,rfl⟩:=hy;exact⟨.inl ⟨rfl,a,0,rfl⟩⟩
 |bE r bP=>
  simp only[gD]at hs;simp only[aC]at hy;obtain⟨_,cJ,e,jI,aw,ho,_,hx⟩:=hy;rw[ho]at hs;simp only at hs;split at hs
  ·rename_i hv;simp only[cI]at hs;subst hs;have iy:=hO.ob r _ ho;obtain⟨jJ,ew,hm,mN⟩:=iy;rw[hx hv];rcases mN with⟨rfl,a,ha⟩|⟨g',cap,eV,vm,hp,hh,kw,um,I0,iJ⟩
   ·exact⟨.inl ⟨rfl,a,0,ha⟩⟩
   ·have xR:=rK.aw (hO.ob r _ ho) (g:=g') (by simp[vm,bm,GY.1 hp]);refine⟨.inr ⟨g',0,cap,vm, ?_⟩⟩
    match aw,xR,hl,ew with
    |[],_,_,_=>simp[bL]
    |r::rs,hr,hl,ew=>
     have h1:=ew r (by simp);have h2:=hl r (by simp);have:jI=sz:=by omega
     exact this▸hr
  ·cases hs
 |w8 r bP lo n=>
  simp only[gD]at hs;simp only[aC]at hy;obtain⟨_,cJ,e,jI,aw,ho,_,hx⟩:=hy;rw[ho]at hs;simp only at hs;split at hs
  ·rename_i hv;subst hv;simp only[cI]at hs;subst hs;have Lm:=(hx rfl).1;have IQ:((aw.drop lo).take n).length=n:=by rw[xj,VF];omega
   rcases wb hO ho (hx rfl)with⟨rfl,a,c,rfl⟩|⟨g,c,_,rfl,_,hr⟩
   ·exact⟨.inl ⟨by simp,a,c,rfl⟩⟩
   ·refine⟨.inr ⟨g,lo*jI,c,by rw[IQ], ?_⟩⟩;have ew:=(hO.ob r _ ho).2.1
    match hq:(aw.drop lo).take n,hr,hl with
    |[],_,_=>simp[bL]
    |q::qs,hr,hl=>
     have h1:=ew q (Zb1 (DB (by rw[hq];simp)));have h2:=hl q (by simp);have:jI=sz:=by omega
     exact this▸hr
  ·cases hs
 |_=>simp[gD]at hs
def lR(w:World)(t ty e:TypeId)(i:TypeInfo)(ht:P.underlying t=some (.slice e))(hi:P.info? e=some i)(a b:Option Addr)(n cap c:Nat)(hn:n<=cap):
  (Builtin.append_ #[t,t] ty #[.slice a n cap,.slice b 0 c]).run P w=.ok (.slice a n cap) w:=by
 have hf:(Builtin.firstCells i.size 0 (.slice b 0 c)).run P w=.ok #[] w:=by
  cases b<;>simp[Builtin.firstCells,loadCells,loadCellsFrom]
 cases a<;>simp[Builtin.append_,run_underlying ht,sizeOf,typeInfo,hi,Builtin.lenOf,hn,hf,storeCells]
def EM{e:Nat}(Hx:z.cells.size=sz){n m old:Nat}(hx:xs.length=n*sz)(hv:vs.length=m*sz)(h63:n+m<=maxLen):
  (w.drew.alloc (.cells (xs.toArray++vs.toArray++Builtin.zeroCells z.cells (grownCap w (n+m) old e-(n+m))) e)).ownsRow 0 e sz (.slice (some ⟨w.heap.size,0,none⟩) (n+m) (grownCap w (n+m) old e)) (n+m) (xs++vs)/\
   ∀row,w.grownBy (w.drew.alloc (.cells (xs.toArray++vs.toArray++Builtin.zeroCells z.cells (grownCap w (n+m) old e-(n+m))) e)) row:=by
 have zH:=grownCap_ge w (n+m) old e;have I2:grownCap w (n+m) old e<=maxLen:=grownCap_le_maxLen w (n+m) old e h63;have dQ:(xs++vs).length=(n+m)*sz:=by rw[EN,hx,hv,Dw]
 refine⟨⟨dQ,.inr ⟨w.heap.size,_,_,rfl,KT _,heap_alloc_new w.drew _,zH,I2, ?_, ?_⟩⟩,λrow=>⟨rfl,rfl,rfl,by simp,λk hk _=>heap_alloc_old w.drew _ k hk⟩⟩
 ·simp only[Array.size_append,List.size_toArray,size_zeroCells,Hx,hx,hv,<-Nat.add_mul]
  congr 1
  omega
 ·simp only[Array.toList_append,Zb2];rw[<-List.append_assoc,<-dQ];exact List.take_left
def TH{o:Ob}(h:ab r=some o):cV ab (some (r,o))=ab:=by
 funext x;simp only[cV];split
 ·rename_i e;rw[e,h]
 ·rfl
def EO{new:List (aK)}(hr:∀r∈aw,r.length=sz)(hn:∀r∈new,r.length=sz)(h:lo+new.length<=aw.length):(cS aw lo new).flatten=cS aw.flatten (lo*sz) new.flatten:=by
 have key:∀(l:List (aK)),(∀r∈l,r.length=sz)->l.flatten.length=l.length*sz:=by
  intro l;induction l with
  |nil=>simp
  |cons r rs ih=>intro h;simp[ih (λx hx=>h x (by simp[hx])),h r (by simp),Dw];omega
 have tk:∀(k:Nat),k<=aw.length->(aw.take k).flatten=aw.flatten.take (k*sz)/\(aw.drop k).flatten=aw.flatten.drop (k*sz):=by
  intro k hk;have h8:aw.flatten=(aw.take k).flatten++(aw.drop k).flatten:=by rw[<-List.flatten_append,ZbD]
  have h9:(aw.take k).flatten.length=k*sz:=by rw[key _ (λr h=>hr r (DB h)),xj];congr 1;omega
  rw[h8,Zdv h9,List.drop_left' h9];exact⟨rfl,rfl⟩
 unfold cS;rw[Zc9,Zc9,(tk lo (by omega)).1,(tk _ h).2,key new hn,Dw]
def Hy(hO:cO base W M w0 ab w L){t e0:TypeId}{i:TypeInfo}(ht:P.underlying t=some (.slice e0))(hi:P.info? e0=some i)
  {e n:Nat} (hc:ab r=some (.bJ bP e i.size aw)) (Lm:lo+n<=aw.length)
  (lM:(n=0/\∃(a:Option Addr) (c:Nat),xv=.slice a 0 c)\/∃g c,bm (L.sl r)=some g/\xv=.slice (some ⟨g,lo*i.size,none⟩) n c) (hs:Wb w (WW W ab L) ys i.size yv) (vP:∀r∈ys,r.length=i.size):
  ∃w',(Builtin.copy_ #[t,t'] ty #[xv,yv]).run P w=.ok (goInt (min ys.length n:Nat)) w'/\
   cO base W M w0 (cV ab (some (r,.bJ bP e i.size (cS aw lo (ys.take n))))) w' L/\iH W ab L w (cV ab (some (r,.bJ bP e i.size (cS aw lo (ys.take n))))) L w':=by
 have amx:ys.take n=[]->cO base W M w0 (cV ab (some (r,.bJ bP e i.size (cS aw lo (ys.take n))))) w L/\iH W ab L w (cV ab (some (r,.bJ bP e i.size (cS aw lo (ys.take n))))) L w:=by
  intro h0;have e1:cS aw lo (ys.take n)=aw:=by rw[h0];simp[cS]
  rw[e1,TH hc];exact⟨hO,iH.dc (dJ.refl _ _)⟩
 have dQ:∃(p:Option Addr) (c:Nat),yv=.slice p ys.length c:=by
  rcases hs.it with⟨rfl,a,c,rfl⟩|⟨b,o,c,rfl,_⟩
  ·exact⟨a,c,rfl⟩
  ·exact⟨_,c,rfl⟩
 have hf0:∀(v:Value) (p:Option Addr) (m c:Nat),v=.slice p m c->(Builtin.firstCells i.size 0 v).run P w=.ok #[] w:=by
  rintro v p m c rfl;cases p<;>simp[Builtin.firstCells,loadCells,loadCellsFrom]
 obtain⟨yp,yc,hyv⟩:=dQ;rcases lM with⟨rfl,a,c,rfl⟩|⟨g,c,hg,rfl⟩
 ·refine⟨w, ?_,amx (by simp)⟩;have:=hf0 yv yp _ yc hyv;subst hyv;cases a<;>simp[Builtin.copy_,run_underlying ht,Builtin.lenOf,run_sizeOf hi,this,storeCells]
 ·by_cases hm:min ys.length n=0
  ·refine⟨w, ?_,amx ?_⟩
   ·have:=hf0 yv yp _ yc hyv;subst hyv;have I3:Nat.min ys.length n=0:=hm;simp[Builtin.copy_,run_underlying ht,Builtin.lenOf,run_sizeOf hi,hm,this,storeCells]
   ·by_cases h:ys.length=0
    ·rw[Ln h];simp
    ·rw[show n=0 by omega];simp
  ·rcases hs.it with⟨rfl,_⟩|⟨b,o,c',amy,hr⟩
   ·simp at hm
   ·have iy:=hO.ob r _ hc;obtain⟨jJ,ew,BE,mN⟩:=iy;rcases mN with⟨rfl,_⟩|⟨g',cap,eV,h1,h2,h3,h4,h5,h6,h7⟩
    ·simp at Lm;omega
    ·have zX:bm (L.sl r)=some g':=by rw[h1];simp[bm,GY.1 h2]
     rw[zX]at hg;cases hg;obtain⟨vs,zI,DX,Wc⟩:=bL.flatten hr;have DD:min ys.length n*i.size<=vs.length:=by rw[zI];exact Zbx _ (Nat.min_le_left _ _)
     have TI:(ys.take n).length=min ys.length n:=by rw[xj,Nat.min_comm]
     have IQ:(vs.take (min ys.length n*i.size)).length=min ys.length n*i.size:=by rw[xj];omega
     have agc:(Builtin.firstCells i.size (min ys.length n) yv).run P w=.ok (vs.take (min ys.length n*i.size)).toArray w:=by
      rw[amy];simp only[Builtin.firstCells];have:=CN (P:=P) (w:=w) (b:=b) (o:=o) (vs:=vs.take (min ys.length n*i.size)) (λj v hj=>Wc j v (by
       rw[Hv]at hj;split at hj
       ·exact hj
       ·cases hj))
      rw[IQ]at this;exact this
     have hfl:(ys.take n).flatten=ys.flatten.take (min ys.length n*i.size):=by
      have h8:ys.flatten=(ys.take n).flatten++(ys.drop n).flatten:=by rw[<-List.flatten_append,ZbD]
      rw[h8,Zdv];have key:∀(l:List (aK)),(∀r∈l,r.length=i.size)->l.flatten.length=l.length*i.size:=by
       intro l;induction l with
       |nil=>simp
       |cons r rs ih=>intro h;simp[ih (λx hx=>h x (by simp[hx])),h r (by simp),Dw];omega
      rw[key _ (λr h=>vP r (DB h)),TI]
     have EL:lo*i.size+min ys.length n*i.size<=aw.length*i.size:=by
      rw[<-Nat.add_mul];exact Zbx _ (by omega)
     have ax1:aw.length*i.size<=cap*i.size:=Zbx _ h4;have zJ:bu w (WW W ab L) (ys.take n).flatten (vs.take (min ys.length n*i.size)):=by rw[hfl];exact bu.take _ DX
     have tf:=run_storeCells_at P g (lo*i.size) e (vs.take (min ys.length n*i.size)) 0 eV w h3 (by rw[IQ,h6];omega) (bu.one zJ);have ip:L.own r (.bJ bP e i.size aw)=some g:=zX;refine⟨w.setRow g (cS eV.toList (lo*i.size) (vs.take (min ys.length n*i.size))).toArray, ?_, ?_⟩
     ·have I3:Nat.min ys.length n=min ys.length n:=rfl;rw[amy]at agc⊢;simp only[Builtin.copy_,Builtin.lenOf];simp only[Zcb]at tf;simp[run_underlying ht,run_sizeOf hi,agc,tf,cS]
     ·refine cO.put hO (BD _ hO.fr (BE g zX)) (by simp) (λ_ _=>⟨rfl,rfl⟩) rfl (λb _ hb=>setRow_other w _ b _ (λx=>hb _ hc (by rw[ip,x])))
       (λb hb=>.inl ⟨_,hc,hb⟩) (λo' jA hk=>by rw[hc]at jA;cases jA;exact eK rfl hk) (λcJ e' jI fz h=>?_) (λfP=>?_)
      ·rw[hc]at h;cases h;exact⟨bP,e,i.size,_,rfl,eF _,λ_=>⟨rfl,rfl,iW (by rw[TI];omega)⟩⟩
      ·have yb:(cS aw lo (ys.take n)).length=aw.length:=iW (by rw[TI];omega);refine⟨jJ,λx hx=>?_,BE,.inr ⟨g,cap,_,by rw[yb];exact h1,h2,setRow_heap w _ eV _ e _ h3,by rw[yb];exact h4,h5, ?_, ?_⟩⟩
       ·simp only[cS,oJ]at hx;rcases hx with(hx|hx)|hx
        ·exact ew x (DB hx)
        ·exact vP x (DB hx)
        ·exact ew x (Zb1 hx)
       ·have:=iW (l:=eV.toList) (new:=vs.take (min ys.length n*i.size)) (off:=lo*i.size) (by rw[IQ];simp only[Rg,h6];omega);simpa using this.trans (by simpa using h6)
       ·rw[yb,EO ew (λx hx=>vP x (DB hx)) (by rw[TI];omega)];rw[List.toList_toArray,CO (by rw[IQ];omega) (by simp only[Rg,h6];omega)];exact bu.cS _ (bu.bi fP.dP.toKeepsC fP.sub _ _ h7) (bu.bi fP.dP.toKeepsC fP.sub _ _ zJ)
def qy{t e:TypeId}{i:TypeInfo}(ht:P.underlying t=some (.slice e))(hi:P.info? e=some i)(hz:i.zero=some z)(ye:i.size=sz)(Hx:z.cells.size=sz)
  {W':f9} {v:Value} {n:Nat} (ip:(n=0/\xs=[]/\∃a:Option Addr,v=.slice a 0 0)\/∃g cap eV,v=.slice (some ⟨g,0,none⟩) n cap/\0<cap/\w.heap[g]? =some (.cells eV e (0,0))/\n<=cap/\cap<=maxLen/\eV.size=cap*sz/\eV.toList.take (n*sz)=xs)
   (hs:Wb w W' ys sz yv) (hyw:∀b o,bL w W' sz b o ys->∃vs,vs.length=ys.length*sz/\bu w W' ys.flatten vs/\∀j v,vs[j]? =some v->w.cell? ⟨b,o+j,none⟩=some v) (qz:du i.bytes (n+ys.length)):
  ∃v' w' vs,(Builtin.append_ #[t,t] ty #[v,yv]).run P w=.ok v' w'/\bu w W' ys.flatten vs/\vs.length=ys.length*sz/\
   ((n+ys.length=0/\∃a:Option Addr,v'=.slice a 0 0)\/∃g cap eV,v'=.slice (some ⟨g,0,none⟩) (n+ys.length) cap/\0<cap/\w'.heap[g]? =some (.cells eV e (0,0))/\n+ys.length<=cap/\cap<=maxLen/\eV.size=cap*sz/\
     eV.toList.take ((n+ys.length)*sz)=xs++vs)/\
   w.grownBy w' (bm v)/\(∀b,bm v'=some b->bm v=some b\/w.heap.size<=b)/\w.drawn<=w'.drawn:=by
 have h63:n+ys.length<=maxLen:=by have:=qz.2;simp only[maxLen];omega
 have av4:((n+ys.length:Nat):Int)<=9223372036854775807:=by have:=qz.2;omega
 have Ri:w.grownBy w (bm v):=⟨rfl,rfl,rfl,eF _,λ_ _ _=>rfl⟩;rcases hs.it with⟨rfl,b,c,rfl⟩|⟨b,o,c,rfl,hr⟩
 ·rcases ip with⟨rfl,rfl,a,rfl⟩|⟨g,cap,eV,rfl,hp,hg,h1,h2,h3,h4⟩
  ·exact⟨_,w,[],lR w t ty e i ht hi a b 0 0 c (eF _),by simp[bu],by simp,.inl ⟨rfl,a,rfl⟩,Ri,λb hb=>.inl hb,eF _⟩
  ·exact⟨_,w,[],lR w t ty e i ht hi _ b n cap c h1,by simp[bu],by simp,.inr ⟨g,cap,eV,rfl,hp,hg,h1,h2,h3,by simpa using h4⟩,Ri,λb hb=>.inl hb,eF _⟩
 ·obtain⟨vs,zI,DX,Wc⟩:=hyw b o hr;have ahE:∀j v,vs[j]? =some v->w.cell? ((⟨b,o,none⟩:Addr).add j)=some v:=λj v h=>by rw[ow];exact Wc j v h
  by_cases hy0:ys.length=0
  ·have:ys=[]:=Ln hy0;subst this;rcases ip with⟨rfl,rfl,a,rfl⟩|⟨g,cap,eV,rfl,hp,hg,h1,h2,h3,h4⟩
   ·exact⟨_,w,[],lR w t ty e i ht hi a _ 0 0 c (eF _),by simp[bu],by simp,.inl ⟨rfl,a,rfl⟩,Ri,λb hb=>.inl hb,eF _⟩
   ·exact⟨_,w,[],lR w t ty e i ht hi _ _ n cap c h1,by simp[bu],by simp,.inr ⟨g,cap,eV,rfl,hp,hg,h1,h2,h3,by simpa using h4⟩,Ri,λb hb=>.inl hb,eF _⟩
  ·have grow:∀(a:Addr) (old:Nat),old<n+ys.length->xs.length=n*sz->(∀j u,xs[j]? =some u->w.cell? (a.add j)=some u)->
     ∃v' w',(Builtin.append_ #[t,t] ty #[.slice (some a) n old,.slice (some ⟨b,o,none⟩) ys.length c]).run P w=.ok v' w'/\
      (∃g cap eV,v'=.slice (some ⟨g,0,none⟩) (n+ys.length) cap/\0<cap/\w'.heap[g]? =some (.cells eV e (0,0))/\n+ys.length<=cap/\cap<=maxLen/\eV.size=cap*sz/\eV.toList.take ((n+ys.length)*sz)=xs++vs)/\
      (∀row,w.grownBy w' row)/\(∀b,bm v'=some b->w.heap.size<=b)/\w.drawn<=w'.drawn:=by
    intro a old ho DE hxc;have cw:=run_append_grow (P:=P) w t ty e i z ht hi hz a n old xs (by rw[ye];exact DE) hxc ⟨b,o,none⟩ ys.length c vs (by rw[ye];exact zI) ahE ho av4 (growslice_fits ho qz.1);have CQ:=EM (w:=w) (e:=e) (old:=old) Hx DE zI h63;obtain⟨dQ,hor⟩:=CQ.1;rcases hor with⟨hn,_⟩|⟨g,cap,eV,hv,_,hg,h1,h2,h3,h4⟩
    ·cases hn
    ·refine⟨_,_,cw,⟨g,cap,eV,hv,by omega,hg,h1,h2,h3,h4⟩,CQ.2,λb hb=>?_,Zdy _⟩;have um:grownCap w (n+ys.length) old e≠0:=by have:=grownCap_ge w (n+ys.length) old e;omega
     simp only[bm,bj um,cI]at hb;omega
   rcases ip with⟨rfl,rfl,a,rfl⟩|⟨g,cap,eV,rfl,hp,hg,h1,h2,h3,h4⟩
   ·cases a with
    |none=>
     have cw:=run_append_nil (P:=P) w t ty e i z ht hi hz ⟨b,o,none⟩ ys.length c vs (by rw[ye];exact zI) ahE (by omega) (by omega) (by have:=growslice_fits (old:=0) (need:=ys.length) (by omega) (by simpa using qz.1);have h2:=qz.1;simp only[KR]at h2;omega);have CQ:=EM (w:=w) (e:=e) (old:=0) (n:=0) (xs:=[]) Hx (by simp) zI (by simpa using h63);simp only[KR,zQ,Array.empty_append]at CQ⊢;obtain⟨dQ,hor⟩:=CQ.1;rcases hor with⟨hn,_⟩|⟨g,cap,eV,hv,_,hg,h1,h2,h3,h4⟩
     ·cases hn
     ·refine⟨_,_,vs,cw,DX,zI,.inr ⟨g,cap,eV,hv,by omega,hg,h1,h2,h3,h4⟩,CQ.2 _,λb hb=>.inr ?_,Zdy _⟩;have um:grownCap w ys.length 0 e≠0:=by have:=grownCap_ge w ys.length 0 e;omega
      simp only[bm,bj um,cI]at hb;omega
    |some a=>
     obtain⟨v',w',cw,yd,CQ,Rj,Lo⟩:=grow a 0 (by omega) (by simp) (by simp);exact⟨v',w',vs,cw,DX,zI,.inr yd,CQ _,λb hb=>.inr (Rj b hb),Lo⟩
   ·have DE:xs.length=n*sz:=by
     rw[<-h4,xj,Rg,h3];exact Zdw (Zbx sz h1)
    have Wd:cap≠0:=GY.1 hp;by_cases OT:n+ys.length<=cap
    ·have EL:n*i.size+vs.length<=eV.size:=by rw[zI,h3,ye,<-Nat.add_mul];exact Zbx _ OT
     have cw:=run_append_room (P:=P) w t ty e i ht hi g n cap eV hg ⟨b,o,none⟩ ys.length c vs (by rw[ye];exact zI) ahE (bu.one DX) OT EL;refine⟨_,_,vs,cw,DX,zI,.inr ⟨g,cap,_,rfl,hp,setRow_heap w g eV _ e _ hg,OT,h2, ?_, ?_⟩,⟨rfl,rfl,rfl,by simp,λk _ hk=>setRow_other w g k _ (λe=>hk (by simp[bm,Wd,e]))⟩,λb hb=>.inl ?_,by simp⟩
     ·simp only[List.size_toArray,EN,xj,VF,Rg];rw[ye]at EL⊢;omega
     ·have dQ:(xs++vs).length=(n+ys.length)*sz:=by rw[EN,DE,zI,Dw]
      rw[ye,h4,<-dQ];exact List.take_left
     ·simpa [bm,Wd]using hb
    ·obtain⟨v',w',cw,yd,CQ,Rj,Lo⟩:=grow ⟨g,0,none⟩ cap (by omega) DE (λj u hu=>by
      rw[ow,KR,cell_of_row w g j eV e (0,0) hg];rw[<-h4,Hv]at hu;split at hu
      ·simpa using hu
      ·cases hu)
     exact⟨v',w',vs,cw,DX,zI,.inr yd,CQ _,λb hb=>.inr (Rj b hb),Lo⟩
def we{sz:Nat}:∀{aw:List (aK)},(∀r∈aw,r.length=sz)->aw.flatten.length=aw.length*sz
 |[],_=>by simp
 |r::rs,h=>by
  have:=we (aw:=rs) (sz:=sz) λx hx=>h x (by simp[hx]);simp[this,h r (by simp),Dw];omega
def uo(hO:cO base W M w0 ab w L){cJ e:Nat}(jJ:0<sz)
  {v v':Value} (zJ:∀x∈aw++ys,x.length=sz)
  {agd:List (aK)} (I4:(ab r=none/\aw=[]/\bm v=none)\/(ab r=some (.bJ bP e sz agd)/\bm (L.sl r)=bm v/\bP<cJ))
  (hxs:bu w (WW W ab L) aw.flatten xs) (hvs:bu w (WW W ab L) ys.flatten vs)
  (v6:(aw.length+ys.length=0/\∃a:Option Addr,v'=.slice a 0 0)\/∃g cap eV,v'=.slice (some ⟨g,0,none⟩) (aw.length+ys.length) cap/\0<cap/\w'.heap[g]? =some (.cells eV e (0,0))/\aw.length+ys.length<=cap/\cap<=maxLen/\eV.size=cap*sz/\
     eV.toList.take ((aw.length+ys.length)*sz)=xs++vs)
  (CQ:w.grownBy w' (bm v)) (Rj:∀b,bm v'=some b->bm v=some b\/w.heap.size<=b) (Lo:w.drawn<=w'.drawn):
  cO base W M w0 (cV ab (some (r,.bJ cJ e sz (aw++ys)))) w' (L.jS r v')/\iH W ab L w (cV ab (some (r,.bJ cJ e sz (aw++ys)))) (L.jS r v') w':=by
 have We:∀g,bm v=some g->base<=g\/M g:=λg hg=>by
  rcases I4 with⟨_,_,h⟩|⟨ho,hv,_⟩
  ·rw[hg]at h;cases h
  ·exact(hO.ob r _ ho).amu (by simpa [Loc.own,hv]using hg)
 have kw:base<=w.heap.size:=yI hO.fr.kl hO.fr.size;have zG:Fr base M w0 w':=hO.fr.trans ⟨CQ.os,CQ.tape,CQ.output,kw,CQ.size,λk hk hm=>CQ.block k (by omega) λx=>by
  rcases We k x.symm with h|h
  ·omega
  ·exact hm h,Lo⟩
 refine cO.put hO zG CQ.size (λx hx=>⟨rfl,by simp[Loc.jS,hx]⟩) rfl (λb eG hb=>CQ.block b eG λx=>?_) (λb hb=>?_) (λcs hc hk=>?_) (λsM e2 Ht mU hc=>?_) (λfP=>?_)
 ·rcases I4 with⟨_,_,h⟩|⟨ho,hv,_⟩
  ·rw[h]at x;cases x
  ·exact hb _ ho (by simp[Loc.own,hv,<-x])
 ·simp only[Loc.own,Loc.jS,km]at hb;rcases Rj b hb with h|h
  ·rcases I4 with⟨_,_,h2⟩|⟨ho,hv,_⟩
   ·rw[h]at h2;cases h2
   ·exact .inl ⟨_,ho,by simp[Loc.own,hv,h]⟩
  ·exact .inr h
 ·rcases I4 with⟨h,_⟩|⟨h,_⟩<;>rw[hc]at h<;>cases h
  exact eK rfl (by assumption)
 ·rcases I4 with⟨h,_⟩|⟨h,_,eG⟩
  ·rw[hc]at h;cases h
  ·rw[hc]at h;cases h;exact⟨cJ,e,sz,_,rfl,by omega,λx=>by omega⟩
 ·refine⟨jJ,zJ,λg hg=>?_, ?_⟩
  ·simp only[Loc.jS,km]at hg;rcases Rj g hg with h|h
   ·exact We g h
   ·exact .inl (yI kw h)
  ·simp only[Loc.jS,km,EN];rcases v6 with⟨h0,ha⟩|⟨g,cap,eV,hv,hp,hg,h1,h2,h3,h4⟩
   ·refine .inl ⟨?_,ha⟩;have h1:aw=[]:=Ln (by omega);have h2:ys=[]:=Ln (by omega);simp[h1,h2]
   ·refine .inr ⟨g,cap,eV,hv,hp,hg,h1,h2,h3, ?_⟩;rw[h4,Zc9];exact bu.append (bu.bi fP.dP.toKeepsC fP.sub _ _ hxs) (bu.bi fP.dP.toKeepsC fP.sub _ _ hvs)
def I5(hO:cO base W M w0 ab w L){t e:TypeId}{i:TypeInfo}(ht:P.underlying t=some (.slice e))(hi:P.info? e=some i)(hz:i.zero=some z)(Hx:z.cells.size=i.size)(jJ:0<i.size)
   (fF:ab name=none) {x y:DV} (hx:aC w W ab L x xv) (hy:aC w W ab L y yv) (aO:(ju e i.size i.bytes name ab x y).ok):
  ∃v w' L',(Builtin.append_ #[t,t] ty #[xv,yv]).run P w=.ok v w'/\cO base W M w0 (cV ab (ju e i.size i.bytes name ab x y).put) w' L'/\
   iH W ab L w (cV ab (ju e i.size i.bytes name ab x y).put) L' w'/\aC w' W (cV ab (ju e i.size i.bytes name ab x y).put) L' (ju e i.size i.bytes name ab x y).val v:=by
 unfold ju at aO⊢;cases hs:gD ab y with
 |none=>simp[hs,dm]at aO
 |some ys=>
  simp only[hs]at aO⊢;have hyw:∀b o,bL w (WW W ab L) i.size b o ys->∃vs,vs.length=ys.length*i.size/\bu w (WW W ab L) ys.flatten vs/\∀j v,vs[j]? =some v->w.cell? ⟨b,o+j,none⟩=some v:=λb o h=>bL.flatten h;cases x with
  |bH=>
   simp only at aO⊢;have nK:=hx;simp only[aC]at nK;obtain⟨a,rfl⟩:=nK;obtain⟨v',w',vs,cw,DX,zI,v6,CQ,Rj,Lo⟩:=qy (n:=0) (xs:=[]) ht hi hz rfl Hx (.inl ⟨rfl,rfl,a,rfl⟩) (ty:=ty) (tz hO hy hs aO.1) hyw (by simpa using aO.2);have zX:bm (.slice a 0 0)=none:=by cases a<;>simp[bm]
   have:=uo hO (r:=name) (bP:=0) (cJ:=0) (agd:=[]) (aw:=[]) (ys:=ys) jJ (by simpa using aO.1) (.inl ⟨fF,rfl,zX⟩) (xs:=[]) (by simp[bu]) DX (by simpa using v6) CQ Rj Lo;refine⟨v',w',_,cw,by simpa using this.1,by simpa using this.2, ?_⟩;simp only[aC];refine⟨?_,0,e,i.size,ys,by simp[cV],eF _,λ_=>by simp[Loc.jS]⟩;rcases v6 with⟨_,a,rfl⟩|⟨g,cap,eV,rfl,_⟩<;>exact⟨_,_,_,rfl⟩
  |bE r bP=>
   cases ho:ab r with
   |none=>simp[ho,dm]at aO
   |some o=>
    cases o with
    |box cs=>simp[ho,dm]at aO
    |bJ cJ e' jI aw=>
     simp only[ho]at aO⊢;obtain⟨rfl,rfl,rfl,hl,qz⟩:=aO;have nK:=hx;simp only[aC]at nK;obtain⟨_,sM,e2,Ht,mU,pg,_,mM⟩:=nK;rw[ho]at pg;cases pg;have hv:=mM rfl;have iy:=hO.ob r _ ho;obtain⟨_,ew,hm,mN⟩:=iy;have ip:∃xs,bu w (WW W ab L) aw.flatten xs/\((aw.length=0/\xs=[]/\∃a:Option Addr,xv=.slice a 0 0)\/∃g cap eV,xv=.slice (some ⟨g,0,none⟩) aw.length cap/\0<cap/\w.heap[g]? =some (.cells eV e' (0,0))/\aw.length<=cap/\cap<=maxLen/\eV.size=cap*i.size/\eV.toList.take (aw.length*i.size)=xs):=by
      rcases mN with⟨rfl,a,ha⟩|⟨g,cap,eV,h1,h2,h3,h4,h5,h6,h7⟩
      ·exact⟨[],by simp[bu],.inl ⟨rfl,rfl,a,by rw[hv,ha]⟩⟩
      ·exact⟨_,h7,.inr ⟨g,cap,eV,by rw[hv,h1],h2,h3,h4,h5,h6,rfl⟩⟩
     obtain⟨xs,G3,ip⟩:=ip;obtain⟨v',w',vs,cw,DX,zI,v6,CQ,Rj,Lo⟩:=qy ht hi hz rfl Hx ip (ty:=ty) (tz hO hy hs hl) hyw qz;have:=uo hO (r:=r) (bP:=bP) (cJ:=bP+1) (aw:=aw) (ys:=ys) jJ (λx hx=>(oJ.1 hx).elim (ew x) (hl x)) (.inr ⟨ho,by rw[hv],by omega⟩) G3 DX v6 CQ Rj Lo;refine⟨v',w',_,cw,this.1,this.2, ?_⟩;simp only[aC];refine⟨?_,bP+1,e',i.size,aw++ys,by simp[cV],eF _,λ_=>by simp[Loc.jS]⟩;rcases v6 with⟨_,a,rfl⟩|⟨g,cap,eV,rfl,_⟩<;>exact⟨_,_,_,rfl⟩
    |_=>simp[ho,dm]at aO
  |w8 r bP lo n=>
   cases lo with
   |succ lo=>simp[dm]at aO
   |zero=>
   cases ho:ab r with
   |none=>simp[ho,dm]at aO
   |some o=>
    cases o with
    |bJ cJ e' jI aw=>
     simp only[ho]at aO⊢;obtain⟨rfl,rfl,rfl,hl,qz⟩:=aO;have nK:=hx;simp only[aC]at nK;obtain⟨_,sM,e2,Ht,mU,pg,_,mM⟩:=nK;rw[ho]at pg;cases pg;obtain⟨Lm,p,Wf,p2,xS,rfl,Rh⟩:=mM rfl;have iy:=hO.ob r _ ho;obtain⟨_,ew,hm,mN⟩:=iy;have IQ:(aw.take n).length=n:=by rw[xj];omega
     have zX:bm (L.sl r)=bm (.slice p2 n (Wf-0)):=by
      rw[xS];simp only[Zcu];by_cases VG:Wf=0
      ·subst VG;cases p<;>cases p2<;>simp[bm]
      ·have:=Rh (by omega);subst this;cases p with
       |none=>simp[bm]
       |some a=>
        obtain⟨b,o,ix⟩:=a;cases ix<;>simp[bm,VG,Addr.add]
     have ip:∃xs,bu w (WW W ab L) (aw.take n).flatten xs/\((n=0/\xs=[]/\∃a:Option Addr,Value.slice p2 n (Wf-0)=.slice a 0 0)\/∃g cap eV,Value.slice p2 n (Wf-0)=.slice (some ⟨g,0,none⟩) n cap/\0<cap/\w.heap[g]? =some (.cells eV e' (0,0))/\n<=cap/\cap<=maxLen/\eV.size=cap*i.size/\eV.toList.take (n*i.size)=xs):=by
      rcases mN with⟨rfl,a,ha⟩|⟨g,cap,eV,h1,h2,h3,h4,h5,h6,h7⟩
      ·rw[xS]at ha;simp only[Value.slice.injEq]at ha;obtain⟨_,_,rfl⟩:=ha;have:n=0:=by simp at Lm;omega
       subst this;exact⟨[],by simp[bu],.inl ⟨rfl,rfl,p2,rfl⟩⟩
      ·rw[xS]at h1;simp only[Value.slice.injEq]at h1;obtain⟨rfl,_,rfl⟩:=h1;have:=Rh h2;subst this;refine⟨_, ?_,.inr ⟨g,Wf,eV,by simp[ow],h2,h3,by omega,h5,h6,rfl⟩⟩;have e1:(aw.take n).flatten=aw.flatten.take (n*i.size):=by
        have h8:aw.flatten=(aw.take n).flatten++(aw.drop n).flatten:=by rw[<-List.flatten_append,ZbD]
        rw[h8,Zdv (by rw[we (sz:=i.size) (λr hr=>ew r (DB hr)),IQ])]
       have e2:eV.toList.take (n*i.size)=(eV.toList.take (aw.length*i.size)).take (n*i.size):=by
        rw[Zdc];congr 1;have:=Zbx i.size (show n<=aw.length by omega);omega
       rw[e1,e2];exact bu.take _ h7
     obtain⟨xs,G3,ip⟩:=ip;obtain⟨v',w',vs,cw,DX,zI,v6,CQ,Rj,Lo⟩:=qy ht hi hz rfl Hx ip (ty:=ty) (tz hO hy hs hl) hyw qz;have:=uo hO (r:=r) (bP:=bP) (cJ:=bP+1) (aw:=aw.take n) (ys:=ys) jJ (λx hx=>(oJ.1 hx).elim (λh=>ew x (DB h)) (hl x)) (.inr ⟨ho,zX,by omega⟩) G3 DX (by rw[IQ];exact v6) CQ Rj Lo;refine⟨v',w',_,cw,this.1,this.2, ?_⟩;simp only[aC];refine⟨?_,bP+1,e',i.size,aw.take n++ys,by simp[cV],eF _,λ_=>by simp[Loc.jS]⟩;rcases v6 with⟨_,a,rfl⟩|⟨g,cap,eV,rfl,_⟩<;>exact⟨_,_,_,rfl⟩
    |_=>simp[ho,dm]at aO
  |_=>simp[dm]at aO
def OU(hO:cO base W M w0 ab w L){t e0:TypeId}{i:TypeInfo}(ht:P.underlying t=some (.slice e0))(hi:P.info? e0=some i)
  {x y:DV} (hx:aC w W ab L x xv) (hy:aC w W ab L y yv) (aO:(kQ i.size ab x y).ok):
  ∃v w',(Builtin.copy_ #[t,t'] ty #[xv,yv]).run P w=.ok v w'/\cO base W M w0 (cV ab (kQ i.size ab x y).put) w' L/\
   iH W ab L w (cV ab (kQ i.size ab x y).put) L w'/\aC w' W (cV ab (kQ i.size ab x y).put) L (kQ i.size ab x y).val v:=by
 unfold kQ at aO⊢;cases hs:gD ab y with
 |none=>simp[hs,dm]at aO
 |some ys=>
  simp only[hs]at aO⊢;cases x with
  |bE r bP=>
   cases ho:ab r with
   |none=>simp[ho,dm]at aO
   |some o=>
    cases o with
    |bJ cJ e jI aw=>
     simp only[ho]at aO⊢;obtain⟨rfl,rfl,hl⟩:=aO;simp only[aC]at hx;obtain⟨_,sM,e2,Ht,mU,pg,_,mM⟩:=hx;rw[ho]at pg;cases pg;have hv:=mM rfl;subst hv;have hd:(aw.length=0/\∃(a:Option Addr) (c:Nat),L.sl r=.slice a 0 c)\/∃g c,bm (L.sl r)=some g/\L.sl r=.slice (some ⟨g,0*i.size,none⟩) aw.length c:=by
      obtain⟨_,_,_,mN⟩:=hO.ob r _ ho;rcases mN with⟨rfl,a,ha⟩|⟨g,cap,eV,h1,h2,_⟩
      ·exact .inl ⟨rfl,a,0,ha⟩
      ·exact .inr ⟨g,cap,by rw[h1];simp[bm,GY.1 h2],by rw[h1,Zc3]⟩
     obtain⟨w',h1,h2,h3⟩:=Hy hO ht hi (t':=t') (ty:=ty) ho (lo:=0) (n:=aw.length) (by omega) hd (tz hO hy hs hl) hl;exact⟨_,w',h1,h2,h3,by simp[aC,bw,goInt]⟩
    |_=>simp[ho,dm]at aO
  |w8 r bP lo n=>
   cases ho:ab r with
   |none=>simp[ho,dm]at aO
   |some o=>
    cases o with
    |bJ cJ e jI aw=>
     simp only[ho]at aO⊢;obtain⟨rfl,rfl,hl⟩:=aO;simp only[aC]at hx;obtain⟨_,sM,e2,Ht,mU,pg,_,mM⟩:=hx;rw[ho]at pg;cases pg;have hv:=mM rfl;have hd:(n=0/\∃(a:Option Addr) (c:Nat),xv=.slice a 0 c)\/∃g c,bm (L.sl r)=some g/\xv=.slice (some ⟨g,lo*i.size,none⟩) n c:=by
      rcases wb hO ho hv with h|⟨g,c,h1,h2,_⟩
      ·exact .inl h
      ·exact .inr ⟨g,c,h1,h2⟩
     obtain⟨w',h1,h2,h3⟩:=Hy hO ht hi (t':=t') (ty:=ty) ho hv.1 hd (tz hO hy hs hl) hl;exact⟨_,w',h1,h2,h3,by simp[aC,bw,goInt]⟩
    |_=>simp[ho,dm]at aO
  |_=>simp[dm]at aO
def kB{α:Type}(l:List α):∀(n j:Nat),j<n*l.length->(List.replicate n l).flatten[j]? =l[j % l.length]?
 |0,j,h=>by simp at h
 |n+1,j,h=>by
  simp only[OV,V9];by_cases hj:j<l.length
  ·rw[Zbm hj,Zc0 hj]
  ·rw[Zbk (by omega),kB l n (j-l.length) (by rw[Dw]at h;omega)];rw[Nat.mod_eq_sub_mod (a:=j) (by omega)]
def zY(z:Array Value)(n:Nat):(madeCells z (n*z.size)).toList=(List.replicate n z.toList).flatten:=by
 apply Zb3;intro j;by_cases hj:j<n*z.size
 ·have hz:0<z.size:=by
   rcases Zdj z.size with h|h
   ·rw[h]at hj;simp at hj
   ·exact h
  rw[kB z.toList n j (by simpa using hj)];have hm:=Nat.mod_lt j hz;simp[madeCells,hj,hm]
 ·rw[Zbt (by simp[size_madeCells];omega),Zbt (by simp;omega)]
def wg{zero:aK}{zs:List Value}(h:bu w W zero zs):∀n,bu w W (List.replicate n zero).flatten (List.replicate n zs).flatten
 |0=>by simp[bu]
 |n+1=>by simpa [OV]using bu.append h (wg h n)
def abc(hO:cO base W M w0 ab w L)(hr:ab r=none){e:Nat}(jJ:0<sz)(zJ:∀x∈aw,x.length=sz){c:Array Value}(pi:c.size=aw.length*sz)
  (hc:bu w (WW W ab L) aw.flatten c.toList) (av5:aw.length<=maxLen):
  cO base W M w0 (cV ab (some (r,.bJ 0 e sz aw))) (w.alloc (.cells c e)) (L.jS r (.slice (some ⟨w.heap.size,0,none⟩) aw.length aw.length))/\
   iH W ab L w (cV ab (some (r,.bJ 0 e sz aw))) (L.jS r (.slice (some ⟨w.heap.size,0,none⟩) aw.length aw.length)) (w.alloc (.cells c e)):=by
 have hb:=mo (w:=w) (.cells c e);refine cO.put hO (zW hO.fr hb) hb.size (λx hx=>⟨rfl,by simp[Loc.jS,hx]⟩) rfl (λb eG _=>hb.block b eG) (λb h=>.inr ?_)
  (λo' h _=>by rw[hr]at h;cases h) (λ_ _ _ _ h=>by rw[hr]at h;cases h) (λfP=>?_)
 ·simp only[Loc.own,Loc.jS,km,bm]at h;split at h
  ·cases h
  ·simp only[cI]at h;omega
 ·refine⟨jJ,zJ,λg hg=>?_, ?_⟩
  ·simp only[Loc.jS,km,bm]at hg;split at hg
   ·cases hg
   ·simp only[cI]at hg;subst hg;exact .inl (yI hO.fr.kl hO.fr.size)
  ·simp only[Loc.jS,km];by_cases h0:aw.length=0
   ·refine .inl ⟨Ln h0,some ⟨w.heap.size,0,none⟩,by rw[h0]⟩
   ·refine .inr ⟨w.heap.size,aw.length,c,rfl,by omega,heap_alloc_new w _,eF _,av5,pi, ?_⟩;rw[TE (by simp[pi])];exact bu.bi fP.dP.toKeepsC fP.sub _ _ hc
def EP(hO:cO base W M w0 ab w L){t e:TypeId}{i:TypeInfo}(ht:P.underlying t=some (.slice e))(hi:P.info? e=some i)(hz:i.zero=some z)(jJ:0<i.size)
   (wh:z.cells.toList.mapM ul=some zero) (fF:ab name=none) {x:DV} (hx:aC w W ab L x xv) (aO:(mT e i.size i.bytes zero name x).ok):
  ∃v w' L',(Instr.makeSlice t xv xv).run P w=.ok v w'/\cO base W M w0 (cV ab (mT e i.size i.bytes zero name x).put) w' L'/\
   iH W ab L w (cV ab (mT e i.size i.bytes zero name x).put) L' w'/\aC w' W (cV ab (mT e i.size i.bytes zero name x).put) L' (mT e i.size i.bytes zero name x).val v:=by
 cases x with
 |v t'=>
  cases t' with
  |int k n=>
   simp only[aC,bw]at hx;subst hx;simp only[mT]at aO⊢;obtain⟨h0,Wg,hb,hm⟩:=aO;have hzz:=vk (w:=w) (W:=WW W ab L) wh;have Hx:z.cells.size=i.size:=by have:=bu.length hzz;simpa [Wg]using this
   have hbi:(i.bytes:Int)*n<=281474976710656:=by
    have e:(i.bytes:Int)*n=((n.toNat*i.bytes:Nat):Int):=by
     rw[Int.natCast_mul,Int.toNat_of_nonneg h0,Int.mul_comm]
    rw[e];omega
   have cw:=run_make (P:=P) w t e i z ht hi hz k k n n h0 (ZcL _) hbi (by omega);have hc:(madeCells z.cells (n.toNat*i.size)).toList=(List.replicate n.toNat z.cells.toList).flatten:=by rw[<-Hx];exact zY _ _
   have:=abc hO (e:=e) fF (aw:=List.replicate n.toNat zero) jJ (λx hx=>by rw[ZbV hx];exact Wg) (c:=madeCells z.cells (n.toNat*i.size)) (by simp[size_madeCells]) (by rw[hc];exact wg hzz _) (by simp only[ZbJ,maxLen];omega);simp only[ZbJ]at this;refine⟨_,_,_,cw,this.1,this.2, ?_⟩;simp only[aC];exact⟨⟨_,_,_,rfl⟩,0,e,i.size,List.replicate n.toNat zero,by simp[cV],eF _,λ_=>by simp[Loc.jS]⟩
  |_=>simp[mT,dm]at aO
 |_=>simp[mT,dm]at aO
def OW{ts:aK}:∀{zs:List Value},zs.mapM ul=some ts->aX w W ab L (ts.map Hs) zs:=by
 induction ts with
 |nil=>
  intro zs h;cases zs with
  |nil=>simp[aX]
  |cons z zs=>simp[KS,kb]at h
 |cons t ts ih=>
  intro zs h;cases zs with
  |nil=>simp at h
  |cons z zs=>
   simp only[KS,mF,lp,kb,cI,KU]at h;obtain⟨t',ht,ts',Lp,rfl,rfl⟩:=h;simp only[rW,aX];have hr:=EK (w:=w) (W:=WW W ab L) ht;refine⟨z,zs,rfl,hr.2.1, ?_,ih Lp⟩;unfold Hs;split
   ·unfold ul at ht;split at ht<;>first|(cases ht;done)|skip
    all_goals first
     |(simp only[aC];exact⟨_,rfl⟩)
     |(cases ht)
   ·simp only[aC];exact hr.1
def vn{zero:bM}{zs:List Value}(h:aX w W ab L zero zs):∀n,aX w W ab L (List.replicate n zero).flatten (List.replicate n zs).flatten
 |0=>by simp[aX]
 |n+1=>by simpa [OV]using aX.append h (vn h n)
def CR(hO:cO base W M w0 ab w L){t e:TypeId}{i:TypeInfo}(ht:P.underlying t=some (.slice e))(hi:P.info? e=some i)(hz:i.zero=some z)
   (wh:z.cells.toList.mapM ul=some zero) (fF:ab name=none) {x:DV} (hx:aC w W ab L x xv) (aO:(gY i.size i.bytes zero name x).ok):
  ∃v w' L',(Instr.makeSlice t xv xv).run P w=.ok v w'/\cO base W M w0 (cV ab (gY i.size i.bytes zero name x).put) w' L'/\
   iH W ab L w (cV ab (gY i.size i.bytes zero name x).put) L' w'/\aC w' W (cV ab (gY i.size i.bytes zero name x).put) L' (gY i.size i.bytes zero name x).val v:=by
 cases x with
 |v t'=>
  cases t' with
  |int k n=>
   simp only[aC,bw]at hx;subst hx;simp only[gY]at aO⊢;obtain⟨h0,Wg,hb,hm⟩:=aO;have hzz:=OW (w:=w) (W:=W) (ab:=ab) (L:=L) wh;have Hx:z.cells.size=i.size:=by have:=aX.length hzz;simpa [Wg]using this
   have hbi:(i.bytes:Int)*n<=281474976710656:=by
    have e:(i.bytes:Int)*n=((n.toNat*i.bytes:Nat):Int):=by
     rw[Int.natCast_mul,Int.toNat_of_nonneg h0,Int.mul_comm]
    rw[e];omega
   have cw:=run_make (P:=P) w t e i z ht hi hz k k n n h0 (ZcL _) hbi (by omega);have hc:(madeCells z.cells (n.toNat*i.size)).toList=(List.replicate n.toNat z.cells.toList).flatten:=by rw[<-Hx];exact zY _ _
   have:=I1 hO fF (c:=madeCells z.cells (n.toNat*i.size)) e (cs:=(List.replicate n.toNat (zero.map Hs)).flatten) (by rw[hc];exact vn hzz _);refine⟨_,_,_,cw,this.1,this.2, ?_⟩;simp only[aC];exact⟨⟨(List.replicate n.toNat (zero.map Hs)).flatten,by simp[cV]⟩,by simp[Loc.iX]⟩
  |_=>simp[gY,dm]at aO
 |_=>simp[gY,dm]at aO
end
end
end Go.DM
namespace Go.DM
open Go.RowKit
variable [bK]
section
def jK(P:Program)(rec:TypeId->Option (List Sh))(off:Nat):List Field->Option (List Sh)
 |[]=>some []
 |f::fs=>
  match rec f.type,P.info? f.type with
  |some s,some i=>if f.name≠ "_" /\f.offset=off/\s.length=i.size then(jK P rec (off+s.length) fs).map (s++·)else none
  |_,_=>none
def mG(P:Program):Nat->TypeId->Option (List Sh)
 |0,_=>none
 |d+1,t=>
  match P.underlying t with
  |some .bool=>some [.bool]
  |some (.int k)=>some [.int k]
  |some .string=>some [.str]
  |some (.struct fs)=>if P.stoodInHeld t then none else jK P (mG P d) 0 fs.toList
  |some (.array n e)=>
   match mG P d e,P.info? e with
   |some s,some i=>if s.length=i.size/\0<i.size then some ((List.replicate n s).flatten)else none
   |_,_=>none
  |_=>none
def fit:Sh->Value->Bool
 |.bool,.bool _=>true
 |.int k,.int k' _=>k==k'
 |.str,.string _=>true
 |_,_=>false
def gT:List Sh->List Value->Prop
 |[],vs=>vs=[]
 |s::ss,vs=>∃v kj,vs=v::kj/\fit s v=true/\gT ss kj
def veq:Value->Value->Bool
 |.bool a,.bool b=>a==b
 |.int _ a,.int _ b=>a==b
 |.string a,.string b=>a.toList==b.toList
 |_,_=>false
def nU:List Value->List Value->Bool
 |[],[]=>true
 |a::as,b::bs=>veq a b&&nU as bs
 |_,_=>false
def gT.length:∀{ss:List Sh} {vs:List Value},gT ss vs->vs.length=ss.length
 |[],_,h=>by simp only[gT]at h;simp[h]
 |_::ss,_,h=>by
  simp only[gT]at h;obtain⟨v,kj,rfl,_,h⟩:=h;simp[gT.length h]
def gT.split:∀{s1 s2:List Sh} {vs:List Value},gT (s1++s2) vs->gT s1 (vs.take s1.length)/\gT s2 (vs.drop s1.length)
 |[],s2,vs,h=>by simpa [gT]using h
 |s::s1,s2,vs,h=>by
  simp only[Dy,gT]at h;obtain⟨v,kj,rfl,h1,h⟩:=h;have:=gT.split h;simp only[Oq,Zcw,List.drop_succ_cons,gT];exact⟨⟨v,_,rfl,h1,this.1⟩,this.2⟩
def wi:∀{a b c d:List Value},a.length=c.length->nU (a++b) (c++d)=(nU a c&&nU b d)
 |[],b,[],d,_=>by simp[nU]
 |x::a,b,[],d,h=>by simp at h
 |[],b,y::c,d,h=>by simp at h
 |x::a,b,y::c,d,h=>by
  simp only[Dy,nU];rw[wi (by simpa using h),Bool.and_assoc]
def Bt(d:TypeDesc)(vs:List Value):Value:=if cE d then .agg vs.toArray else vs.getD 0 Go.undef
section
variable{P:Program}
def oP(w:World){t:TypeId}{d:TypeDesc}{i:TypeInfo}(hd:P.underlying t=some d)(hi:P.info? t=some i){xs:List Value}{off:Nat}(h1:cE d=true\/i.size=1)(hl:off+i.size<=xs.length):
  (part t xs.toArray off).run P w=.ok (Bt d ((xs.drop off).take i.size)) w:=by
 have Ot:(isAgg t).run P w=.ok (cE d) w:=by rw[Hu hd];cases d<;>rfl
 simp only[part,Sem.run_bind,Ot,Result.andThen_ok];by_cases ha:cE d=true
 ·simp only[ha,km,Sem.run_bind,run_sizeOf hi,Result.andThen_ok,Sem.run_pure,Bt]
  congr 3
  simp only[List.extract_toArray,List.extract_eq_take_drop]
  congr 2
  omega
 ·have h2:=h1.resolve_left ha;have eG:off<xs.length:=by omega
  simp only[ha,Bt,h2];simp[eG]
def DY{d:Nat}{t:TypeId}{cL:List Sh}(h:mG P (d+1) t=some cL):∃desc,P.underlying t=some desc/\(cE desc=true\/cL.length=1):=by
 simp only[mG]at h;split at h
 ·rename_i hu;exact⟨_,hu,.inr (by simp at h;simp[<-h])⟩
 ·rename_i hu;exact⟨_,hu,.inr (by simp at h;simp[<-h])⟩
 ·rename_i hu;exact⟨_,hu,.inr (by simp at h;simp[<-h])⟩
 ·rename_i hu;exact⟨_,hu,.inl rfl⟩
 ·rename_i hu;exact⟨_,hu,.inl rfl⟩
 ·cases h
def Wh{d:Nat}{e:TypeId}{de:TypeDesc}{s:List Sh}{i:TypeInfo}(hd:P.underlying e=some de)(hi:P.info? e=some i)(h1:cE de=true\/i.size=1)(hs:s.length=i.size)(G4:0<i.size)
  (ih:∀(xs ys:List Value) (w:World),gT s xs->gT s ys->(Op.equalIn d e (Bt de xs) (Bt de ys)).run P w=.ok (nU xs ys) w) (xs ys:List Value):
  ∀(n k:Nat) (w:World),gT ((List.replicate n s).flatten) (xs.drop (k*i.size))->gT ((List.replicate n s).flatten) (ys.drop (k*i.size))->
   (forIn (List.range' k n) (none,()) (λj (_:Option Bool×Unit)=>do
     let a<-part e xs.toArray (j*i.size)
     let b<-part e ys.toArray (j*i.size)
     let r<-Op.equalIn d e a b
     if(!r)=true then pure (ForInStep.done (some false,()))else pure (ForInStep.yield (none,()))):Sem (Option Bool×Unit)).run P w=
    .ok (if nU (xs.drop (k*i.size)) (ys.drop (k*i.size))then(none,())else(some false,())) w
 |0,k,w,hx,hy=>by
  simp only[Zcx,List.flatten_nil,gT]at hx hy;simp[hx,hy,nU]
 |n+1,k,w,hx,hy=>by
  simp only[OV,V9]at hx hy;have DE:=gT.length hx;have vP:=gT.length hy;simp only[EN,VF]at DE vP;obtain⟨I6,yf⟩:=gT.split hx;obtain⟨mq,fA⟩:=gT.split hy;have e2:k*i.size+s.length=(k+1)*i.size:=by rw[Dw,hs];omega
  rw[Zdd,e2]at yf fA;have oz:0<i.size:=G4;have p1:=λw=>oP (P:=P) w hd hi (xs:=xs) (off:=k*i.size) h1 (by omega);have p2:=λw=>oP (P:=P) w hd hi (xs:=ys) (off:=k*i.size) h1 (by omega);rw[hs]at I6 mq;have hr:=ih _ _ w I6 mq;have BF:nU (xs.drop (k*i.size)) (ys.drop (k*i.size))=(nU ((xs.drop (k*i.size)).take i.size) ((ys.drop (k*i.size)).take i.size)&&nU (xs.drop ((k+1)*i.size)) (ys.drop ((k+1)*i.size))):=by
   have a1:xs.drop (k*i.size)=(xs.drop (k*i.size)).take i.size++xs.drop ((k+1)*i.size):=by
    rw[<-e2,hs,<-List.drop_drop,ZbD]
   have a2:ys.drop (k*i.size)=(ys.drop (k*i.size)).take i.size++ys.drop ((k+1)*i.size):=by
    rw[<-e2,hs,<-List.drop_drop,ZbD]
   rw[a1,a2,wi (by simp;omega)];rw[<-a1,<-a2]
  simp only[Zdo,Zc4,Sem.run_bind,p1,p2,Result.andThen_ok,hr];rw[BF];cases hb:nU ((xs.drop (k*i.size)).take i.size) ((ys.drop (k*i.size)).take i.size)
  ·simp
  ·have:=Wh hd hi h1 hs G4 ih xs ys n (k+1) w yf fA;simp only[ZcK,Ou,xd,Sem.run_pure,Result.andThen_ok,ZcY];exact this
def Hz{d:Nat}(ih:∀(t:TypeId) (cL:List Sh) (desc:TypeDesc),mG P d t=some cL->P.underlying t=some desc->∀(xs ys:List Value) (w:World),gT cL xs->gT cL ys->(Op.equalIn d t (Bt desc xs) (Bt desc ys)).run P w=.ok (nU xs ys) w)
  (Lq:∀(t:TypeId) (cL:List Sh),mG P d t=some cL->∃desc,P.underlying t=some desc/\(cE desc=true\/cL.length=1)) (xs ys:List Value):
  ∀(fs:List Field) (off:Nat) (cL:List Sh) (w:World),jK P (mG P d) off fs=some cL->gT cL (xs.drop off)->gT cL (ys.drop off)->off<=xs.length->off<=ys.length->
   (Op.eqFields d xs.toArray ys.toArray fs).run P w=.ok (nU (xs.drop off) (ys.drop off)) w
 |[],off,cL,w,h,hx,hy,_,_=>by
  simp only[jK,cI]at h;subst h;simp only[gT]at hx hy;simp[Op.eqFields,hx,hy,nU]
 |f::fs,off,cL,w,h,hx,hy,hox,hoy=>by
  simp only[jK]at h;split at h
  ·rename_i s i hs hi;split at h
   ·rename_i hc;obtain⟨hn,rfl,jJ⟩:=hc;simp only[jr]at h;obtain⟨rest,Lr,rfl⟩:=h;obtain⟨desc,hd,h1⟩:=Lq _ _ hs;have DE:=gT.length hx;have vP:=gT.length hy;simp only[EN,VF]at DE vP;obtain⟨I6,yf⟩:=gT.split hx;obtain⟨mq,fA⟩:=gT.split hy;rw[Zdd]at yf fA;rw[jJ]at h1;have p1:=λw=>oP (P:=P) w hd hi (xs:=xs) (off:=f.offset) h1 (by omega);have p2:=λw=>oP (P:=P) w hd hi (xs:=ys) (off:=f.offset) h1 (by omega);have hr:=ih _ _ _ hs hd _ _ w I6 mq;rw[jJ]at hr;have BF:nU (xs.drop f.offset) (ys.drop f.offset)=(nU ((xs.drop f.offset).take i.size) ((ys.drop f.offset).take i.size)&&nU (xs.drop (f.offset+s.length)) (ys.drop (f.offset+s.length))):=by
     have a1:xs.drop f.offset=(xs.drop f.offset).take i.size++xs.drop (f.offset+s.length):=by rw[jJ,<-List.drop_drop,ZbD]
     have a2:ys.drop f.offset=(ys.drop f.offset).take i.size++ys.drop (f.offset+s.length):=by rw[jJ,<-List.drop_drop,ZbD]
     rw[a1,a2,wi (by simp;omega)];rw[<-a1,<-a2]
    simp only[Op.eqFields,hn,ne_eq,not_false_eq_true,km,Sem.run_bind,p1,p2,Result.andThen_ok,hr];rw[BF];cases hb:nU ((xs.drop f.offset).take i.size) ((ys.drop f.offset).take i.size)
    ·simp
    ·simp only[ZcK,Ou,xd,ZcY];exact Hz ih Lq xs ys fs _ rest w Lr yf fA (by omega) (by omega)
   ·cases h
  ·cases h
def uq:∀(d:Nat) (t:TypeId) (cL:List Sh) (desc:TypeDesc),mG P d t=some cL->P.underlying t=some desc->∀(xs ys:List Value) (w:World),gT cL xs->gT cL ys->
  (Op.equalIn d t (Bt desc xs) (Bt desc ys)).run P w=.ok (nU xs ys) w
 |0,t,cL,desc,h,_,_,_,_,_,_=>by simp[mG]at h
 |d+1,t,cL,desc,h,hu,xs,ys,w,hx,hy=>by
  simp only[mG,hu]at h;have one:∀{s:Sh} {zs:List Value},gT [s] zs->∃v,zs=[v]/\fit s v=true:=by
   intro s zs hz;simp only[gT]at hz;obtain⟨v,kj,rfl,h1,rfl⟩:=hz;exact⟨v,rfl,h1⟩
  cases desc;case bool=>
   simp only[cI]at h;subst h;obtain⟨x,rfl,gx⟩:=one hx;obtain⟨y,rfl,gy⟩:=one hy;cases x<;>first|exact eK gx EQ|skip
   cases y<;>first|exact eK gy EQ|skip
   simp[Bt,cE,nU,veq,Op.equalIn,run_underlying hu]
  case int k=>
   simp only[cI]at h;subst h;obtain⟨x,rfl,gx⟩:=one hx;obtain⟨y,rfl,gy⟩:=one hy;cases x<;>first|exact eK gx EQ|skip
   simp only[fit,Zcq]at gx;cases y<;>first|exact eK gy EQ|skip
   simp only[fit,Zcq]at gy;subst gx gy;simp[Bt,cE,nU,veq,Op.equalIn,run_underlying hu]
  case string=>
   simp only[cI]at h;subst h;obtain⟨x,rfl,gx⟩:=one hx;obtain⟨y,rfl,gy⟩:=one hy;cases x<;>first|exact eK gx EQ|skip
   cases y<;>first|exact eK gy EQ|skip
   simp[Bt,cE,nU,veq,Op.equalIn,run_underlying hu,beq_toListBytes]
  case struct fs=>
   replace h:(if P.stoodInHeld t then none else jK P (mG P d) 0 fs.toList)=some cL:=h
   split at h
   ·cases h
   ·rename_i hp;have hfo:P.fieldsOf t=fs:=by simp[Program.fieldsOf,hu]
    simp only[Bt,cE,km];rw[run_equalIn_struct w d t _ _ (by rw[hfo];exact hu) (by simpa using hp),hfo];have:=Hz (λt cL desc=>uq d t cL desc) (λt cL hs=>by
     cases d with
     |zero=>simp[mG]at hs
     |succ d=>exact DY hs) xs ys fs.toList 0 cL w h (by simpa using hx) (by simpa using hy) (by omega) (by omega)
    simpa using this
  case array n e=>
   replace h:(match mG P d e,P.info? e with
    |some s,some i=>if s.length=i.size/\0<i.size then some ((List.replicate n s).flatten)else none
    |_,_=>none)=some cL:=h
   split at h
   ·rename_i s i hs hi;split at h
    ·rename_i hc;simp only[cI]at h;subst h;have hde:∃desc,P.underlying e=some desc/\(cE desc=true\/s.length=1):=by
      cases d with
      |zero=>simp[mG]at hs
      |succ d=>exact DY hs
     obtain⟨de,hd,h1⟩:=hde;rw[hc.1]at h1;have:=Wh hd hi h1 hc.1 hc.2 (λxs ys w=>uq d e s de hs hd xs ys w) xs ys n 0 w (by simpa using hx) (by simpa using hy);simp only[Bt,cE,km,Op.equalIn,Sem.run_bind,run_underlying hu,Result.andThen_ok,run_sizeOf hi,Std.Legacy.Range.forIn_eq_forIn_range',Std.Legacy.Range.size,Zcu,ZcR,Nat.div_one];simp only[Zc3,ZcE]at this;refine(congrArg (λr=>Result.andThen r _) this).trans ?_;cases nU xs ys<;>rfl
    ·cases h
   ·cases h
  all_goals exact eK h (by simp)
end
end
section
def ur(l:List (Nat×Operand))(Rk:Nat->Option (Nat×Nat)):Option (List (Nat×Nat×cg)):=
 l.mapM λp=>do
  let q<-Rk p.1
  let x<-cg.of p.2
  pure (q.1,q.2,x)
def ER(P:Program)(t:TypeId):Option (Nat->Option (Nat×Nat)):=
 match P.underlying t with
 |some (.struct Wi)=>(Wi.toList.mapM λf=>(P.info? f.type).map λi=>(f.offset,i.size)).map λpl k=>pl[k]?
 |some (.array _ e)=>(P.info? e).map λie k=>some (k*ie.size,ie.size)
 |_=>none
def ES:Option Operand->Option (Option cg)
 |none=>some none
 |some x=>(cg.of x).map some
def zZ:TypeDesc->cg->Option Nat
 |.slice _,.yF .bH=>some 0
 |.pointer _,.yF (.v (.w6 (.pointer none)))=>some 1
 |.func _ _ _,.yF (.v (.w6 .nilFunc))=>some 2
 |_,_=>none
def jj(P:Program)(k:TypeId):Option (List Sh×Bool):=
 match P.underlying k,mG P 10000 k with
 |some d,some s=>some (s,cE d)
 |_,_=>none
def HA(P:Program)(e:TypeId):Option DV:=do
 let i<-P.info? e
 let z<-i.zero
 match z with
 |.agg cs=>(cs.toList.mapM mV).map .agg
 |z=>mV z
def nV(P:Program)(op:BinOp)(t:TypeId)(x y:cg):Option tZ:=
 match P.underlying t with
 |some (.int _)=>match op with
  |.add|.sub|.mul|.quo|.rem|.eql|.neq|.lss|.leq|.gtr|.geq|.shl|.shr|.and|.or|.xor=>some (.bin op x y)
  |_=>none
 |some d=>match op,mG P 10000 t with
  |.eql,some cL=>if P.eqGuardType P.depth t then none else some (.eqT false (cE d) cL x y)
  |.neq,some cL=>if P.eqGuardType P.depth t then none else some (.eqT true (cE d) cL x y)
  |.eql,none=>(zZ d y).map λk=>.isNil k false x
  |.neq,none=>(zZ d y).map λk=>.isNil k true x
  |_,_=>none
 |none=>none
def fk(P:Program)(c:Call):Option tZ:=
 match c.callee with
 |.value (.func f)=>match P.funcs[f]? with
  |some fn=>if fn.name= "runtime.NumGoroutine" \/fn.body.isNone then none else(c.args.toList.mapM cg.of).map (.call f)
  |none=>none
 |.value (.tmp t)=>(c.args.toList.mapM cg.of).map (.callv (.tmp t))
 |.builtin .len=>match c.args.toList,c.argTypes.toList with
  |[x],[t]=>match P.underlying t with
   |some (.slice _)=>(cg.of x).map .len
   |some .string=>(cg.of x).map .lenS
   |some (.map _ _)=>(cg.of x).map .lenM
   |_=>none
  |_,_=>none
 |.builtin .copy=>match c.args.toList,c.argTypes.toList with
  |[x,y],[t,_]=>match P.underlying t with
   |some (.slice e)=>match P.info? e with
    |some i=>do return .copy i.size (<-cg.of x) (<-cg.of y)
    |none=>none
   |_=>none
  |_,_=>none
 |.builtin .delete=>match c.args.toList,c.argTypes.toList with
  |[x,k],t::_=>match P.underlying t with
   |some (.map kt _)=>match jj P kt with
    |some ki=>do return .mapDel ki.1 ki.2 (<-cg.of x) (<-cg.of k)
    |none=>none
   |_=>none
  |_,_=>none
 |.builtin .min=>match c.args.toList with
  |[x,y]=>do return .minmax false (<-cg.of x) (<-cg.of y)
  |_=>none
 |.builtin .max=>match c.args.toList with
  |[x,y]=>do return .minmax true (<-cg.of x) (<-cg.of y)
  |_=>none
 |.builtin .append=>match c.args.toList,c.argTypes.toList with
  |[x,y],[t,t']=>if t≠t' then none else match P.underlying t with
   |some (.slice e)=>match P.info? e with
    |some i=>match i.zero with
     |some z=>if z.cells.size=i.size/\0<i.size then do return .append e i.size i.bytes (<-cg.of x) (<-cg.of y)else none
     |none=>none
    |none=>none
   |_=>none
  |_,_=>none
 |_=>none
def dS(P:Program)(o:Oper):Option tZ:=
 match o.op with
 |.move x|.assign x=>(cg.of x).map .Hr
 |.pick c a b=>do return .pick (<-cg.of c) (<-cg.of a) (<-cg.of b)
 |.alloc e=>do
  let i<-P.info? e
  let z<-i.zero
  return .alloc (<-z.cells.toList.mapM mV)
 |.box _ x=>(cg.of x).map .box
 |.build t parts=>do
  let i<-P.info? t
  let z<-i.zero
  let zs<-z.cells.toList.mapM mV
  let pl<-ER P t
  return .build zs (<-ur parts.toList pl)
 |.buildSlice t len parts=>
  match P.underlying t with
  |some (.slice e)=>do
   let ei<-P.info? e
   if len*ei.size>2^24\/ei.size=0 then none else
   let z<-ei.zero
   let zs<-((List.range (len*ei.size)).map (z.cells[· % z.cells.size]!)).mapM mV
   return .bslice len ei.size zs (<-ur parts.toList λk=>some (k*ei.size,ei.size))
  |_=>none
 |.load t a=>match P.underlying t,P.info? t with
  |some d,some i=>(cg.of a).map (.load i.size (cE d))
  |_,_=>none
 |.store t a x=>do
  let i<-P.info? t
  return .store i.size (<-cg.of a) (<-cg.of x)
 |.nilCheck x=>(cg.of x).map .nilCheck
 |.binOp op t x y _=>do nV P op t (<-cg.of x) (<-cg.of y)
 |.unOp op _ x=>(cg.of x).map (.un op)
 |.convert src dst x=>match P.underlying src,P.underlying dst with
  |some (.int _),some (.int k)=>(cg.of x).map (.conv k)
  |_,_=>none
 |.fieldAddr s x f=>match P.underlying s with
  |some (.struct fs)=>match fs[f]? with
   |some fd=>match P.info? fd.type with
    |some fi=>if fi.size=0 then none else(cg.of x).map (.addOff fd.offset)
    |none=>none
   |none=>none
  |_=>none
 |.field s x f=>match P.underlying s with
  |some (.struct fs)=>match fs[f]? with
   |some fd=>match P.info? fd.type,P.underlying fd.type with
    |some fi,some d=>(cg.of x).map (.field fd.offset fi.size (cE d))
    |_,_=>none
   |none=>none
  |_=>none
 |.indexAddr t x ix=>match P.underlying t with
  |some (.slice e)=>match P.info? e with
   |some i=>do return .idxAddr i.size (<-cg.of x) (<-cg.of ix)
   |none=>none
  |some (.array n e)=>match P.info? e with
   |some i=>do return .arrAddr n i.size (<-cg.of x) (<-cg.of ix)
   |none=>none
  |_=>none
 |.slice t x lo hi none=>match P.underlying t with
  |some (.slice e)=>match P.info? e with
   |some i=>do return .slice i.size (<-cg.of x) (<-ES lo) (<-ES hi)
   |none=>none
  |_=>none
 |.extract t i=>(cg.of t).map (.extract i)
 |.makeSlice t l c=>match P.underlying t with
  |some (.slice e)=>match P.info? e with
   |some i=>match i.zero with
    |some z=>match l,c with
     |.tmp a,.tmp b=>if a=b/\0<i.size then do return .mkSlice e i.size i.bytes (<-z.cells.toList.mapM ul) (.tmp a)else none
     |.const (.int k a),.const (.int k' b)=>if a=b/\k=k'/\0<i.size then do return .mkSlice e i.size i.bytes (<-z.cells.toList.mapM ul) (.yF (.v (.int k a)))else none
     |_,_=>none
    |none=>none
   |none=>none
  |_=>none
 |.makeFunc f first cA=>if first.isEmpty then do return .mkFn f (<-cA.toList.mapM cg.of)else none
 |.call c=>fk P c
 |.makeMap t none=>match P.underlying t with
  |some (.map kt _)=>(jj P kt).map λki=>.mkMap ki.1 ki.2
  |_=>none
 |.lookup t x k ok=>match P.underlying t with
  |some (.map kt e)=>match jj P kt,HA P e with
   |some ki,some z=>do return .lookup ki.1 ki.2 z ok (<-cg.of x) (<-cg.of k)
   |_,_=>none
  |_=>none
 |.mapUpdate t x k y=>match P.underlying t with
  |some (.map kt _)=>match jj P kt with
   |some ki=>do return .mapUpd ki.1 ki.2 (<-cg.of x) (<-cg.of k) (<-cg.of y)
   |none=>none
  |_=>none
 |.mapEntry t x k=>match P.underlying t with
  |some (.map kt e)=>match jj P kt,HA P e with
   |some ki,some z=>do return .mapEnt ki.1 ki.2 z (<-cg.of x) (<-cg.of k)
   |_,_=>none
  |_=>none
 |.entryStore _ x s y=>do return .entSt (<-cg.of x) (<-cg.of s) (<-cg.of y)
 |.range t x=>match P.underlying t with
  |some (.map _ _)=>(cg.of x).map .rangeM
  |_=>none
 |.entry x=>(cg.of x).map .entryM
 |.index t x i=>match P.underlying t with
  |some .string=>do return .indexS (<-cg.of x) (<-cg.of i)
  |_=>none
 |.panic _|.makeInterface .. =>some .fail
 |_=>none
section
variable{w:World}{W:f9}{ab:bF}{L:Loc}
def HB(off:Nat):∀(vs:List Value) (j0:Nat) (cs:Array Value),off+j0+vs.length<=cs.size->
  (vs.zipIdx j0).foldl (λcs (x:Value×Nat)=>cs.setIfInBounds (off+x.2) x.1) cs=(cS cs.toList (off+j0) vs).toArray
 |[],j0,cs,_=>by simp[cS]
 |v::vs,j0,cs,h=>by
  simp only[Oq]at h;simp only[Zc1,CD];rw[HB off vs (j0+1) _ (by simp;omega)]
  congr 1
  simp only[cS,Array.toList_setIfInBounds,Oq];have e:=list_seg_step cs.toList (off+j0) v vs (by simp;omega);simpa [fQ]using e
def ET{a:Act}{ρ:dG}(hg:GW w (WW W ab L))(ku:∀t,aC w W ab L (ρ t) (a.tmps.getD t Go.undef)){Rk:Nat->Option (Nat×Nat)}:∀(ps:List (Nat×Operand)) (qs:List (Nat×Nat×cg)),ur ps Rk=some qs->
  ∀(cells:Array Value) (ds:bM),aX w W ab L ds cells.toList->vY cells.size (qs.map λp=>(p.1,p.2.1,p.2.2.ev ρ))->
   ∃EU,Instr.fill Rk cells (ps.map λp=>(p.1,a.eval p.2))=some EU/\aX w W ab L (x8 ds (qs.map λp=>(p.1,p.2.1,p.2.2.ev ρ))) EU.toList/\EU.size=cells.size
 |[],qs,h,cells,ds,hd,_=>by
  simp[ur]at h;subst h;exact⟨cells,rfl,by simpa [x8]using hd,rfl⟩
 |p::ps,qs,h,cells,ds,hd,aO=>by
  simp only[ur,KS,mF,lp,kb,cI]at h;obtain⟨q,⟨pl,Rl,x,hx,rfl⟩,qs',hqs,rfl⟩:=h;simp only[rW,vY]at aO;obtain⟨hl,EL,DW,Lr⟩:=aO;have hv:=cg.ch hg ku hx;have pi:=sO hv DW;have ba:(a.eval p.2).cells.size=pl.2:=by have:=aX.length pi;simpa [hl]using this
  have EV:((a.eval p.2).cells.zipIdx.foldl (λcs (x:Value×Nat)=>cs.setIfInBounds (pl.1+x.2) x.1) cells)=(cS cells.toList pl.1 (a.eval p.2).cells.toList).toArray:=by
   rw[<-Array.foldl_toList,Array.toList_zipIdx];have:=HB pl.1 (a.eval p.2).cells.toList 0 cells (by simp[ba];omega);simpa using this
  have hd':aX w W ab L (cS ds pl.1 (cellsOf (x.ev ρ))) (cS cells.toList pl.1 (a.eval p.2).cells.toList).toArray.toList:=by
   simpa using aX.cS pl.1 hd pi
  have jJ:(cS cells.toList pl.1 (a.eval p.2).cells.toList).toArray.size=cells.size:=by
   have:=iW (l:=cells.toList) (new:=(a.eval p.2).cells.toList) (off:=pl.1) (by simp[ba];omega);simpa using this
  obtain⟨EU,h1,h2,h3⟩:=ET hg ku ps qs' (by simpa [ur]using hqs) _ _ hd' (by rw[jJ];exact Lr);refine⟨EU, ?_,by simpa only[rW,x8]using h2,h3.trans jJ⟩;simp only[rW,Instr.fill,Rl,ba];rw[bj (by simp;omega),EV];exact h1
def wj{P:Program}(w:World){t e:TypeId}{i:TypeInfo}{z:Value}(ht:P.underlying t=some (.slice e))(hi:P.info? e=some i)(hz:i.zero=some z)(len:Nat)(dQ:¬len*i.size>2^24){parts:Array (Nat×Value)}{cells:Array Value}
  (h:Instr.fill (λk=>some (k*i.size,i.size)) ((Array.range (len*i.size)).map (z.cells[· % z.cells.size]!)) parts.toList=some cells):
  (Instr.buildSlice t len parts).run P w=.ok (.slice (some ⟨w.heap.size,0,none⟩) len len) (w.alloc (.cells cells e)):=by
 by_cases h0:len*i.size=0
 ·have h':Instr.fill (λk=>some (k*i.size,i.size)) #[] parts.toList=some cells:=by
   rw[h0]at h;simpa [Array.range_zero']using h
  simp[Instr.buildSlice,run_underlying ht,run_sizeOf hi,h0,h',newRow,Array.range_zero']
 ·simp[Instr.buildSlice,run_underlying ht,run_sizeOf hi,zeroValue,typeInfo,hi,hz,h0,dQ,h,newRow]
end
end
end Go.DM
namespace Go.DM
open Go.RowKit
section
variable{d1 d2 d:DV}{xv yv:Value}
variable [bK]
def cW(P:Program)(base:Nat)(W M:f9)(w0:World)(ab:bF)(L:Loc)(w:World)(a:Act)(o:Oper)(e:tq):Prop:=
 ∃nx v w' L',(execOp a.eval o).run P w=.ok nx w'/\(nx=.value v\/(nx=.skip/\v=Go.undef))/\
  cO base W M w0 (cV ab e.put) w' L'/\iH W ab L w (cV ab e.put) L' w'/\aC w' W (cV ab e.put) L' e.val v
section
variable{P:Program}{base:Nat}{W M:f9}{w0:World}{ab:bF}{L:Loc}{w:World}{a:Act}{o:Oper}
def cW.mW(hO:cO base W M w0 ab w L){e:tq}(qA:e.put=none){v:Value}(cw:(execOp a.eval o).run P w=.ok (.value v) w)(hv:aC w W ab L e.val v):cW P base W M w0 ab L w a o e:=
 ⟨.value v,v,w,L,cw,.inl rfl,by rw[qA];exact hO,by rw[qA];exact iH.dc (dJ.refl _ _),by rw[qA];exact hv⟩
def cW.int(hO:cO base W M w0 ab w L){e:tq}(qA:e.put=none){k:IntKind}{n:Int}(dv:e.val=.v (.int k n))(cw:(execOp a.eval o).run P w=.ok (.value (.int k n)) w):cW P base W M w0 ab L w a o e:=
 cW.mW hO qA cw (by rw[dv];simp[aC,bw])
def cW.bool(hO:cO base W M w0 ab w L){e:tq}(qA:e.put=none){b:Bool}(dv:e.val=.v (.bool b))(cw:(execOp a.eval o).run P w=.ok (.value (.bool b)) w):cW P base W M w0 ab L w a o e:=
 cW.mW hO qA cw (by rw[dv];simp[aC,bw])
def TJ(hO:cO base W M w0 ab w L){op:BinOp}{t:TypeId}{x y:Operand}{yt:TypeId}(ho:o.op=.binOp op t x y yt)(h1:aC w W ab L d1 (a.eval x))(h2:aC w W ab L d2 (a.eval y))(aO:(vZ op d1 d2).ok):
  cW P base W M w0 ab L w a o (vZ op d1 d2):=by
 have key:∀{k k':IntKind} {p q:Int},d1=.v (.int k p)->d2=.v (.int k' q)->cW P base W M w0 ab L w a o (vZ op d1 d2):=by
  rintro k k' p q rfl rfl;simp only[aC,bw]at h1 h2;have EW:∀(v:Value),(eqGuard op t x y (.int k p) (.int k' q)).run P w=.ok () w->(binOp op t (.int k p) (.int k' q)).run P w=.ok v w->(execOp a.eval o).run P w=.ok (.value v) w:=by
   intro v e1 e2;simp[execOp,ho,h1,h2,e1,e2]
  have hg:(eqGuard op t x y (.int k p) (.int k' q)).run P w=.ok () w:=by cases op<;>simp[eqGuard]
  cases op<;>simp only[vZ,dm]at aO⊢
  all_goals first
   |exact aO.elim
   |(subst aO;first
     |(refine cW.int hO rfl rfl (EW _ hg ?_);simp[binOp,Op.intArith];done)
     |(refine cW.int hO rfl rfl (EW _ hg ?_);simp[binOp,Op.intBits];done)
     |(refine cW.bool hO rfl rfl (EW _ hg ?_);simp[binOp,Op.intCmp];done)
     |(refine cW.bool hO rfl rfl (EW _ hg ?_);simp[binOp,Op.intCmp];rfl))
   |(refine cW.int hO rfl rfl (EW _ hg ?_);simp[binOp,shift_shl_any _ _ _ _ aO,shift_shr_any _ _ _ _ aO];done)
   |(obtain⟨rfl,hq⟩:=aO;exact cW.int hO rfl rfl (EW _ hg (by simp[binOp,Op.intDiv,hq])))
 unfold vZ at aO;split at aO
 ·exact key rfl rfl
 ·exact aO.elim
def I7{x:Value}{cs:bM}(h:aC w W ab L d x)(hc:oM d=some cs):∃vs:Array Value,x=.agg vs/\aX w W ab L cs vs.toList:=by
 cases d with
 |v t=>
  cases t with
  |agg ts=>
   simp only[oM,cI]at hc;subst hc;simp only[aC,bw]at h;obtain⟨vs,rfl,hr⟩:=h;exact⟨vs,rfl,aX.uk hr⟩
  |_=>simp[oM]at hc
 |agg ds=>
  simp only[oM,cI]at hc;subst hc;simp only[aC]at h;exact h
 |_=>simp[oM]at hc
def Ls{s:TypeId}{f:Nat}{fs:Array Field}{fd:Field}{i:TypeInfo}{desc:TypeDesc}(hs:P.underlying s=some (.struct fs))(hf:fs[f]? =some fd)(hi:P.info? fd.type=some i)(hd:P.underlying fd.type=some desc)
   (h:aC w W ab L d xv) (aO:(qt fd.offset i.size (cE desc) d).ok):
  (qt fd.offset i.size (cE desc) d).put=none/\∃v,(Instr.field s xv f).run P w=.ok v w/\aC w W ab L (qt fd.offset i.size (cE desc) d).val v:=by
 unfold qt at aO⊢;cases hc:oM d with
 |none=>simp[hc,dm]at aO
 |some cs=>
  simp only[hc]at aO⊢;obtain⟨vs,rfl,hr⟩:=I7 h hc;have hl:=aX.length hr;have hp:=oP (P:=P) w hd hi (xs:=vs.toList) (off:=fd.offset) aO.2 (by omega);simp only[ZcI]at hp;refine⟨trivial,_,by simp[Instr.field,run_underlying hs,hf,asAgg,hp];rfl, ?_⟩;by_cases ha:cE desc=true
  ·simp only[ha,km,Bt,aC];exact⟨_,rfl,by simpa using aX.take i.size (aX.drop fd.offset hr)⟩
  ·have h1:i.size=1:=aO.2.resolve_left ha;have eG:fd.offset<cs.length:=by omega
   obtain⟨v,vm,_,g0⟩:=aX.get hr (i:=fd.offset) (d:=cs[fd.offset]) (by simp[eG]);have e1:(List.take i.size (List.drop fd.offset vs.toList)).getD 0 Go.undef=v:=by
    rw[h1];simp only[List.getD,Hv,ZbL,Zcb,vm];simp
   have e2:cs.getD fd.offset .undef=cs[fd.offset]:=by simp[List.getD,eG]
   simp only[ha,Bt,e1,e2];exact g0
def I8{k:Nat}(h:aC w W ab L d xv)(aO:(jt k d).ok):
  (jt k d).put=none/\∃b o,xv=.pointer (some ⟨b,o,none⟩)/\aC w W ab L (jt k d).val (.pointer (some ⟨b,o+k,none⟩)):=by
 cases d with
 |ptr r off=>
  simp only[aC]at h;obtain⟨hc,rfl⟩:=h;exact⟨rfl,_,_,rfl,by simp only[jt,aC];exact⟨hc,trivial⟩⟩
 |nz aw i off=>
  simp only[aC]at h;obtain⟨b,o,sz,rfl,rest⟩:=h;exact⟨rfl,_,_,rfl,by simp only[jt,aC];exact⟨b,o,sz,by rw[fQ],rest⟩⟩
 |kP cs off=>
  simp only[aC]at h;obtain⟨b,o,rfl,rest⟩:=h;exact⟨rfl,_,_,rfl,by simp only[jt,aC];exact⟨b,o,by rw[fQ],rest⟩⟩
 |ln r bP i off=>
  simp only[aC]at h;obtain⟨⟨b,o,rfl⟩,cJ,e,sz,aw,ho,kw,hx⟩:=h;refine⟨rfl,_,_,rfl, ?_⟩;simp only[jt,aC];refine⟨⟨_,_,rfl⟩,cJ,e,sz,aw,ho,kw,λhv=>?_⟩;obtain⟨g,hg,hp,h0,h1⟩:=hx hv;simp only[Value.pointer.injEq,cI,Addr.mk.injEq,Lt]at hp;exact⟨g,hg,by rw[hp.1,hp.2,fQ],h0,h1⟩
 |v t=>
  cases t with
  |box cs=>
   simp only[aC,bw]at h;obtain⟨b,o,rfl,rest⟩:=h;exact⟨rfl,_,_,rfl,by simp only[jt,aC];exact⟨b,o,rfl,rest⟩⟩
  |_=>exact aO.elim
 |_=>exact aO.elim
def EX(h:aC w W ab L d xv)(aO:(ml d).ok):
  (ml d).put=none/\(ml d).val=d/\((∃p,xv=.pointer (some p))\/∃f cA,xv=.func (.func f) #[] cA):=by
 cases d with
 |ptr r off=>simp only[aC]at h;obtain⟨_,rfl⟩:=h;exact⟨rfl,rfl,.inl ⟨_,rfl⟩⟩
 |nz aw i off=>simp only[aC]at h;obtain⟨b,o,sz,rfl,_⟩:=h;exact⟨rfl,rfl,.inl ⟨_,rfl⟩⟩
 |kP cs off=>simp only[aC]at h;obtain⟨b,o,rfl,_⟩:=h;exact⟨rfl,rfl,.inl ⟨_,rfl⟩⟩
 |ln r bP i off=>simp only[aC]at h;obtain⟨⟨b,o,rfl⟩,_⟩:=h;exact⟨rfl,rfl,.inl ⟨_,rfl⟩⟩
 |v t=>
  cases t with
  |box cs=>simp only[aC,bw]at h;obtain⟨b,o,rfl,_⟩:=h;exact⟨rfl,rfl,.inl ⟨_,rfl⟩⟩
  |fn f cA=>
   cases f with
   |func f=>simp only[aC,bw]at h;obtain⟨vs,rfl,_⟩:=h;exact⟨rfl,rfl,.inr ⟨_,_,rfl⟩⟩
   |_=>exact aO.elim
  |_=>exact aO.elim
 |_=>exact aO.elim
def TK{t e:TypeId}{i:TypeInfo}(hO:cO base W M w0 ab w L)(ht:P.underlying t=some (.slice e))(hi:P.info? e=some i)(h:aC w W ab L d xv)(h2:aC w W ab L d2 yv)(aO:(uh i.size ab d d2).ok):
  (uh i.size ab d d2).put=none/\∃v,(Instr.indexAt t xv yv).run P w=.ok v w/\aC w W ab L (uh i.size ab d d2).val v:=by
 have cw:∀(b o n c:Nat) (k:IntKind) (j:Int),0<=j->j<n->(Instr.indexAt t (.slice (some ⟨b,o,none⟩) n c) (.int k j)).run P w=.ok (.pointer (some ⟨b,o+j.toNat*i.size,none⟩)) w:=by
  intro b o n c k j h0 h1;simp[Instr.indexAt,asIntOf,run_underlying ht,h0,h1,run_sizeOf hi,ow]
 unfold uh at aO⊢;split at aO
 ·rename_i aw k j;simp only at aO⊢;obtain⟨h0,h1,jJ⟩:=aO;simp only[aC,bw]at h h2;subst h2;rcases h with⟨rfl,_⟩|⟨b,o,cap,sz,rfl,hb,hn,hc,hr⟩
  ·simp at h1;omega
  ·have iq:=(bL.row hr (BB h0 h1)).1;have av6:sz=i.size:=by omega
   subst av6;refine⟨trivial,_,cw b o _ _ k j h0 h1, ?_⟩;simp only[aC];exact⟨b,o,_,by rw[Zcb],hb,hn,hr,h0,h1⟩
 ·rename_i r bP k j;cases hc:ab r with
  |none=>simp[hc,dm]at aO
  |some ob=>
   cases ob with
   |box cs=>simp[hc,dm]at aO
   |map _ _ _ _=>simp[hc,dm]at aO
   |cX _ _ _ _=>simp[hc,dm]at aO
   |bJ cJ e' jI aw=>
    simp only[hc]at aO⊢;obtain⟨rfl,rfl,h0,h1⟩:=aO;simp only[aC,bw]at h h2;subst h2;obtain⟨_,sM,e2,Ht,mU,pg,_,hv⟩:=h;rw[hc]at pg;cases pg;have hv:=hv rfl;subst hv;have iy:=hO.ob r _ hc;obtain⟨jJ,ew,hm,mN⟩:=iy;rcases mN with⟨rfl,_⟩|⟨g',cap,eV,vm,hp,hh,kw,um,I0,iJ⟩
    ·simp at h1;omega
    ·refine⟨trivial,_,by rw[vm];exact cw g' 0 _ _ k j h0 h1, ?_⟩;simp only[aC];exact⟨⟨_,_,rfl⟩,bP,e',_,aw,hc,eF _,λ_=>⟨g',by simp[vm,bm,GY.1 hp],by simp,h0,h1⟩⟩
 ·rename_i r bP lo n k j;cases hc:ab r with
  |none=>simp[hc,dm]at aO
  |some ob=>
   cases ob with
   |box cs=>simp[hc,dm]at aO
   |map _ _ _ _=>simp[hc,dm]at aO
   |cX _ _ _ _=>simp[hc,dm]at aO
   |bJ cJ e' jI aw=>
    simp only[hc]at aO⊢;obtain⟨rfl,rfl,h0,h1⟩:=aO;simp only[aC,bw]at h h2;subst h2;obtain⟨_,sM,e2,Ht,mU,pg,_,hv⟩:=h;rw[hc]at pg;cases pg;have hv:=hv rfl;rcases wb hO hc hv with⟨rfl,_⟩|⟨g,c,zX,rfl,I9,_⟩
    ·simp at h1;omega
    ·refine⟨trivial,_,cw g _ _ _ k j h0 h1, ?_⟩;have hl:=hv.1;have e1:((lo:Int)+j).toNat=lo+j.toNat:=by omega
     simp only[aC];exact⟨⟨_,_,rfl⟩,bP,e',_,aw,hc,eF _,λ_=>⟨g,zX,by rw[e1,Dw];simp,by omega,by omega⟩⟩
 ·rename_i r n k j;simp only[aC,bw]at h h2;subst h2;obtain⟨hc,rfl⟩:=h;obtain⟨h0,h1⟩:=aO;refine⟨rfl,_,cw _ _ _ _ k j h0 h1, ?_⟩;simp only[aC];exact⟨hc,by simp⟩
 ·exact aO.elim
def G5{t e:TypeId}{i:TypeInfo}{n:Nat}(ht:P.underlying t=some (.array n e))(hi:P.info? e=some i)(h:aC w W ab L d xv)(h2:aC w W ab L d2 yv)(aO:(lY n i.size d d2).ok):
  (lY n i.size d d2).put=none/\∃v,(Instr.indexAt t xv yv).run P w=.ok v w/\aC w W ab L (lY n i.size d d2).val v:=by
 have cw:∀(b o:Nat) (k:IntKind) (j:Int),0<=j->j<n->(Instr.indexAt t (.pointer (some ⟨b,o,none⟩)) (.int k j)).run P w=.ok (.pointer (some ⟨b,o+j.toNat*i.size,none⟩)) w:=by
  intro b o k j h0 h1;by_cases hn:n<=1<;>simp[Instr.indexAt,asIntOf,run_underlying ht,h0,h1,run_sizeOf hi,ow,Instr.sureAddr]
 unfold lY at aO⊢;split at aO
 ·rename_i r off k j;simp only[aC,bw]at h h2;obtain⟨hc,rfl⟩:=h;subst h2;exact⟨rfl,_,cw _ _ k j aO.1 aO.2,by simp only[aC];exact⟨hc,trivial⟩⟩
 ·rename_i aw q off k j;simp only[aC,bw]at h h2;obtain⟨b,o,sz,rfl,rest⟩:=h;subst h2;exact⟨rfl,_,cw _ _ k j aO.1 aO.2,by simp only[aC];exact⟨b,o,sz,by rw[fQ],rest⟩⟩
 ·rename_i cs off k j;simp only[aC,bw]at h h2;obtain⟨b,o,rfl,rest⟩:=h;subst h2;exact⟨rfl,_,cw _ _ k j aO.1 aO.2,by simp only[aC];exact⟨b,o,by rw[fQ],rest⟩⟩
 ·rename_i cs k j;simp only[aC,bw]at h h2;obtain⟨b,o,rfl,rest⟩:=h;subst h2;exact⟨rfl,_,cw _ _ k j aO.1 aO.2,by simp only[aC];exact⟨b,o,rfl,rest⟩⟩
 ·rename_i r bP q off k j;simp only[aC,bw]at h h2;obtain⟨⟨b,o,rfl⟩,cJ,e,sz,aw,ho,kw,hx⟩:=h;subst h2;refine⟨rfl,_,cw _ _ k j aO.1 aO.2, ?_⟩;simp only[aC];refine⟨⟨_,_,rfl⟩,cJ,e,sz,aw,ho,kw,λhv=>?_⟩;obtain⟨g,hg,hp,h0,h1⟩:=hx hv;simp only[Value.pointer.injEq,cI,Addr.mk.injEq,Lt]at hp;exact⟨g,hg,by rw[hp.1,hp.2,fQ],h0,h1⟩
 ·exact aO.elim
def TL{x:Operand}{t e:TypeId}(hO:cO base W M w0 ab w L)(ho:o.op=.call {callee:=.builtin .len,args:= #[x],argTypes:= #[t]})(ht:P.underlying t=some (.slice e))(h:aC w W ab L d (a.eval x))(aO:(yG ab d).ok):
  cW P base W M w0 ab L w a o (yG ab d):=by
 have xS:∀(p:Option Addr) (n c:Nat),a.eval x=.slice p n c->(execOp a.eval o).run P w=.ok (.value (.int .i64 n)) w:=by
  rintro p n c hx;simp[execOp,ho,resolve,invoke,builtin,hx,Builtin.len_,run_underlying ht,goInt]
 cases d with
 |v t'=>
  cases t' with
  |sl aw=>
   simp only[aC,bw]at h;rcases h with⟨rfl,p,c,hx⟩|⟨b,oo,cap,sz,hx,_⟩
   ·exact cW.int hO rfl rfl (xS _ _ _ hx)
   ·exact cW.int hO rfl rfl (xS _ _ _ hx)
  |_=>exact aO.elim
 |bH=>
  simp only[aC]at h;obtain⟨p,hx⟩:=h;exact cW.int hO rfl rfl (xS _ _ _ hx)
 |bE r bP=>
  simp only[aC]at h;obtain⟨_,cJ,e',sz,aw,hc,_,hv⟩:=h;simp only[yG,hc]at aO⊢;have hv:=hv aO;have iy:=hO.ob r _ hc;obtain⟨jJ,ew,hm,mN⟩:=iy;rcases mN with⟨rfl,p,hp⟩|⟨g',cap,eV,vm,hp,hh,kw,um,I0,iJ⟩
  ·exact cW.int hO rfl rfl (xS _ _ _ (hv.trans hp))
  ·exact cW.int hO rfl rfl (xS _ _ _ (hv.trans vm))
 |w8 r bP lo n=>
  simp only[aC]at h;obtain⟨⟨p,c,hx⟩,_⟩:=h;exact cW.int hO rfl rfl (xS _ _ _ hx)
 |G2 r n=>
  simp only[aC]at h;obtain⟨_,hx⟩:=h;exact cW.int hO rfl rfl (xS _ _ _ hx)
 |_=>exact aO.elim
def OX{x:Operand}{t:TypeId}(hO:cO base W M w0 ab w L)(ho:o.op=.call {callee:=.builtin .len,args:= #[x],argTypes:= #[t]})(ht:P.underlying t=some .string)(h:aC w W ab L d (a.eval x))(aO:(w9 d).ok):
  cW P base W M w0 ab L w a o (w9 d):=by
 unfold w9 at aO⊢;split at aO
 ·simp only[aC,bw]at h;refine cW.int hO rfl rfl ?_;simp[execOp,ho,resolve,invoke,builtin,h,Builtin.len_,run_underlying ht,goInt]
 ·exact aO.elim
def z7{x y:Operand}{ts:Array TypeId}(m:Bool)(hO:cO base W M w0 ab w L)(ho:o.op=.call {callee:=.builtin (if m then .max else .min),args:= #[x,y],argTypes:=ts})(h1:aC w W ab L d1 (a.eval x))(h2:aC w W ab L d2 (a.eval y))(aO:(pX m d1 d2).ok):
  cW P base W M w0 ab L w a o (pX m d1 d2):=by
 unfold pX at aO⊢;split at aO
 ·rename_i k p k' q;simp only[aC,bw]at h1 h2;have ahF:k=k':=aO;subst ahF;cases m
  ·have e:(if q<p then q else p)=min p q:=by omega
   refine cW.int hO rfl rfl ?_;simp[execOp,ho,resolve,invoke,builtin,h1,h2,run_min_int2,e]
  ·have e:(if q>p then q else p)=max p q:=by omega
   refine cW.int hO rfl rfl ?_;simp only[gt_iff_lt]at e;simp[execOp,ho,resolve,invoke,builtin,h1,h2,run_max_int2,e]
 ·exact aO.elim
def HC{x:Value}{n:Int}(h:aC w W ab L d x)(hi:EH d=some n):∃k,x=.int k n:=by
 unfold EH at hi;split at hi
 ·simp only[cI]at hi;subst hi;simp only[aC,bw]at h;exact⟨_,h⟩
 ·cases hi
def Lu(hO:cO base W M w0 ab w L){t e:TypeId}{i:TypeInfo}(ht:P.underlying t=some (.slice e))(hi:P.info? e=some i)(h:aC w W ab L d xv){lo rY:Option DV}{lv hv:Option Value}
  (hlo:(lo=none/\lv=none)\/∃dl vl,lo=some dl/\lv=some vl/\aC w W ab L dl vl) (hhi:(rY=none/\hv=none)\/∃dl vl,rY=some dl/\hv=some vl/\aC w W ab L dl vl)
  (aO:(kz i.size lo rY ab d).ok):
  (kz i.size lo rY ab d).put=none/\∃v,(Instr.sliceAt t xv lv hv none).run P w=.ok v w/\aC w W ab L (kz i.size lo rY ab d).val v:=by
 have cw:∀(p:Option Addr) (n c:Nat) (l hh:Int),0<=l->l<=hh->hh<=n->n<=c->(lv=none/\l=0\/∃k,lv=some (.int k l))->(hv=none/\hh=n\/∃k,hv=some (.int k hh))->
   (Instr.sliceAt t (.slice p n c) lv hv none).run P w=.ok (.slice (if c=l.toNat then p else p.map (·.add (l.toNat*i.size))) (hh.toNat-l.toNat) (c-l.toNat)) w:=by
  intro p n c l hh h0 h1 h2 h3 hl hh';have b2:hh<=c:=by omega
  have b3:0<=hh:=by omega
  have b4:l<=(hh.toNat:Int):=by omega
  have b5:((hh.toNat:Nat):Int)=hh:=by omega
  rcases hl with⟨rfl,rfl⟩|⟨k,rfl⟩<;>rcases hh' with⟨rfl,rfl⟩|⟨k',rfl⟩
  ·simp[Instr.sliceAt,Instr.slice,run_underlying ht,Instr.sliceBounds,run_sizeOf hi]
  ·simp[Instr.sliceAt,Instr.slice,run_underlying ht,Instr.sliceBounds,run_sizeOf hi,Instr.sliceBound,asIntOf,b2,b3]
  ·have b6:l<=(n:Int):=h1;simp[Instr.sliceAt,Instr.slice,run_underlying ht,Instr.sliceBounds,run_sizeOf hi,Instr.sliceBound,asIntOf,b6,h0]
  ·simp[Instr.sliceAt,Instr.slice,run_underlying ht,Instr.sliceBounds,run_sizeOf hi,Instr.sliceBound,asIntOf,b2,b3,h0,b5,h1]
 have Wj:∀{l:Int},EI lo=some l->(lv=none/\l=0\/∃k,lv=some (.int k l)):=by
  intro l hl;rcases hlo with⟨rfl,rfl⟩|⟨dl,vl,rfl,rfl,hr⟩
  ·simp only[EI,cI]at hl;exact .inl ⟨rfl,hl.symm⟩
  ·obtain⟨k,rfl⟩:=HC hr hl;exact .inr ⟨k,rfl⟩
 have dv:∀{n:Int} {l:Int},EJ n rY=some l->(hv=none/\l=n\/∃k,hv=some (.int k l)):=by
  intro n l hl;rcases hhi with⟨rfl,rfl⟩|⟨dl,vl,rfl,rfl,hr⟩
  ·simp only[EJ,cI]at hl;exact .inl ⟨rfl,hl.symm⟩
  ·obtain⟨k,rfl⟩:=HC hr hl;exact .inr ⟨k,rfl⟩
 cases d with
 |v t'=>
  cases t' with
  |sl aw=>
   simp only[kz]at aO⊢;cases el:EI lo with
   |none=>simp[el,dm]at aO
   |some l=>
    cases eh:EJ aw.length rY with
    |none=>simp[el,eh,dm]at aO
    |some hh=>
     simp only[el,eh]at aO⊢;obtain⟨h0,h1,h2,jJ⟩:=aO;refine⟨trivial, ?_⟩;simp only[aC,bw]at h;have dQ:((aw.take hh.toNat).drop l.toNat).length=hh.toNat-l.toNat:=by simp;omega
     rcases h with⟨rfl,p,c,rfl⟩|⟨b,oo,cap,sz,rfl,hb,hn,hc,hr⟩
     ·have z1:hh=0:=by simp at h2;omega
      have z2:l=0:=by omega
      subst z1 z2;refine⟨_,cw p 0 c 0 0 h0 h1 (by omega) (by omega) (Wj el) (dv eh), ?_⟩;simp only[aC,bw];exact .inl ⟨by simp,_,_,rfl⟩
     ·refine⟨_,cw _ _ cap l hh h0 h1 h2 hc (Wj el) (dv eh), ?_⟩;simp only[aC,bw];by_cases DW:cap=l.toNat
      ·refine .inl ⟨?_,_,_,by rw[show hh.toNat-l.toNat=0 by omega]⟩;apply Ln;omega
      ·refine .inr ⟨b,oo+l.toNat*i.size,cap-l.toNat,i.size, ?_,hb,hn,by omega, ?_⟩
       ·rw[dQ,bj DW];simp[ow]
       ·refine bL.DU _ _ λj r hj=>?_;rw[ZbL,Hv]at hj;split at hj
        ·have iq:=bL.row hr hj;have zJ:=jJ r (zK hj);have:sz=i.size:=by omega
         subst this;refine⟨zJ, ?_⟩;have e2:oo+l.toNat*i.size+j*i.size=oo+(l.toNat+j)*i.size:=by rw[Dw];omega
         rw[e2];exact iq.2
        ·cases hj
  |_=>exact aO.elim
 |bH=>
  simp only[kz]at aO⊢;cases el:EI lo with
  |none=>simp[el,dm]at aO
  |some l=>
   cases eh:EJ 0 rY with
   |none=>simp[el,eh,dm]at aO
   |some hh=>
    simp only[el,eh]at aO⊢;obtain⟨rfl,rfl⟩:=aO;refine⟨trivial, ?_⟩;simp only[aC]at h;obtain⟨p,rfl⟩:=h;refine⟨_,cw p 0 0 0 0 (ZcL _) (ZcL _) (by omega) (eF _) (Wj el) (dv eh), ?_⟩;simp[aC]
 |bE r bP=>
  simp only[kz]at aO⊢;cases hc:ab r with
  |none=>simp[hc,dm]at aO
  |some ob=>
   cases ob with
   |bJ cJ e' jI aw=>
    simp only[hc]at aO⊢;cases el:EI lo with
    |none=>simp[el,dm]at aO
    |some l=>
     cases eh:EJ aw.length rY with
     |none=>simp[el,eh,dm]at aO
     |some hh=>
      simp only[el,eh]at aO⊢;obtain⟨rfl,rfl,h0,h1,h2⟩:=aO;refine⟨trivial, ?_⟩;simp only[aC]at h;obtain⟨_,sM,e2,Ht,mU,pg,_,mM⟩:=h;rw[hc]at pg;cases pg;have mM:=mM rfl;subst mM;obtain⟨_,_,_,mN⟩:=hO.ob r _ hc;have xS:∃p cap,L.sl r=.slice p aw.length cap/\aw.length<=cap:=by
       rcases mN with⟨rfl,a,ha⟩|⟨g,cap,eV,k1,k2,k3,k4,_⟩
       ·exact⟨a,0,ha,eF _⟩
       ·exact⟨_,cap,k1,k4⟩
      obtain⟨p,cap,xS,um⟩:=xS;refine⟨_,by rw[xS];exact cw p aw.length cap l hh h0 h1 h2 um (Wj el) (dv eh), ?_⟩;simp only[aC];exact⟨⟨_,_,rfl⟩,bP,e',_,aw,hc,eF _,λ_=>⟨by omega,p,cap,_,xS,rfl,λeG=>by rw[bj (by omega)]⟩⟩
   |_=>simp[hc,dm]at aO
 |w8 r bP lo0 n=>
  simp only[kz]at aO⊢;cases hc:ab r with
  |none=>simp[hc,dm]at aO
  |some ob=>
   cases ob with
   |bJ cJ e' jI aw=>
    simp only[hc]at aO⊢;cases el:EI lo with
    |none=>simp[el,dm]at aO
    |some l=>
     cases eh:EJ n rY with
     |none=>simp[el,eh,dm]at aO
     |some hh=>
      simp only[el,eh]at aO⊢;obtain⟨rfl,rfl,h0,h1,h2⟩:=aO;refine⟨trivial, ?_⟩;simp only[aC]at h;obtain⟨_,sM,e2,Ht,mU,pg,_,mM⟩:=h;rw[hc]at pg;cases pg;obtain⟨Lm,p,cap,p2,xS,rfl,Rh⟩:=mM rfl;obtain⟨_,_,_,mN⟩:=hO.ob r _ hc;have um:aw.length<=cap/\∀q,p=some q->0<cap->∃g,q=⟨g,0,none⟩:=by
       rcases mN with⟨rfl,a,ha⟩|⟨g,amw,eV,k1,k2,k3,k4,_⟩
       ·exact⟨by simp,λq hq VG=>by rw[xS]at ha;cases ha;omega⟩
       ·rw[xS]at k1;cases k1;exact⟨k4,λq hq _=>⟨g,by simpa using hq.symm⟩⟩
      refine⟨_,cw p2 n (cap-lo0) l hh h0 h1 h2 (by omega) (Wj el) (dv eh), ?_⟩;simp only[aC];refine⟨⟨_,_,rfl⟩,bP,e',_,aw,hc,eF _,λ_=>⟨by omega,p,cap,_,xS,by rw[Nat.sub_sub],λeG=>?_⟩⟩;rw[bj (by omega),Rh (by omega)];cases p with
      |none=>rfl
      |some q=>
       obtain⟨g,rfl⟩:=um.2 q rfl (by omega);simp[ow,Dw]
   |_=>simp[hc,dm]at aO
 |_=>exact aO.elim
end
end
section
variable{W':f9}{cL:List Sh}{agg:Bool}{es:List (Nat×T×DV)}
variable [bK]
section
variable{P:Program}{base:Nat}{W M:f9}{w0:World}{ab:bF}{L:Loc}{w:World}{a:Act}{o:Oper}
def j8{W':f9}:∀{cL:List Sh} {ts:aK} {vs:List Value},fq cL ts->bu w W' ts vs->gT cL vs
 |[],ts,vs,h,hr=>by
  simp only[fq]at h;subst h;simpa [bu,gT]using hr
 |s::ss,[],vs,h,_=>by simp[fq]at h
 |s::ss,t::ts,vs,h,hr=>by
  simp only[fq]at h;simp only[bu]at hr;obtain⟨v,kj,rfl,_,h2,hr⟩:=hr;simp only[gT];refine⟨v,kj,rfl, ?_,j8 h.2 hr⟩;have h1:=h.1;cases s<;>cases t<;>first|exact eK h1 EQ|skip
  all_goals (simp only[bw]at h2;subst h2;first|rfl|exact h1)
def Lw{s:Sh}{t u:T}{x y:Value}(ht:IU s t=true)(hu:IU s u=true)(hx:bw w W' t x)(hy:bw w W' u y):iG t u=veq x y:=by
 cases s<;>cases t<;>(first|exact eK ht EQ|skip)<;>cases u<;>(first|exact eK hu EQ|skip)
 all_goals (simp only[bw]at hx hy;subst hx hy;simp only[iG,veq])
 ·rfl
 ·rename_i s1 s2;by_cases h:s1=s2
  ·subst h;simp
  ·have cj:s1.toList≠s2.toList:=λe=>h (by
    rw[ByteArray.toList_eq,ByteArray.toList_eq]at e;obtain⟨d1⟩:=s1;obtain⟨d2⟩:=s2;exact congrArg ByteArray.mk (Array.ext' e))
   simp[h,cj]
def BG{W':f9}:∀{cL:List Sh} {ts us:aK} {xs ys:List Value},fq cL ts->fq cL us->bu w W' ts xs->bu w W' us ys->vj ts us=nU xs ys
 |[],ts,us,xs,ys,h1,h2,hx,hy=>by
  simp only[fq]at h1 h2;subst h1 h2;simp only[bu]at hx hy;subst hx hy;rfl
 |s::ss,[],_,_,_,h,_,_,_=>by simp[fq]at h
 |s::ss,_::_,[],_,_,_,h,_,_=>by simp[fq]at h
 |s::ss,t::ts,u::us,xs,ys,h1,h2,hx,hy=>by
  simp only[fq]at h1 h2;simp only[bu]at hx hy;obtain⟨x,mL,rfl,_,I6,hx⟩:=hx;obtain⟨y,ys',rfl,_,mq,hy⟩:=hy;simp only[vj,nU];rw[Lw h1.1 h2.1 I6 mq,BG h1.2 h2.2 hx hy]
def pZ{t:T}(h:fq cL [t]):∃s,cL=[s]/\IU s t=true:=by
 cases cL with
 |nil=>simp[fq]at h
 |cons s ss=>
  simp only[fq]at h;cases ss with
  |nil=>exact⟨s,rfl,h.1⟩
  |cons s2 ss=>simp[fq]at h
def Ax{em:Bool}{d:Nat}(ih:∀(t:TypeId) (cL:List Sh) (desc:TypeDesc),mG P d t=some cL->P.underlying t=some desc->∀(xs:List Value) (w:World),gT cL xs->(Instr.checkKey em d t (Bt desc xs)).run P w=.ok () w)
  (Lq:∀(t:TypeId) (cL:List Sh),mG P d t=some cL->∃desc,P.underlying t=some desc/\(cE desc=true\/cL.length=1)) (xs:List Value):
  ∀(fs:List Field) (off:Nat) (cL:List Sh) (w:World),jK P (mG P d) off fs=some cL->gT cL (xs.drop off)->off<=xs.length->
   (forIn fs PUnit.unit (λf (_:PUnit)=>
      if f.name≠ "_" then do
       let x<-part f.type xs.toArray f.offset
       Instr.checkKey em d f.type x
       pure (ForInStep.yield PUnit.unit)
      else pure (ForInStep.yield PUnit.unit)):Sem PUnit).run P w=.ok PUnit.unit w
 |[],off,cL,w,h,hx,_=>by simp
 |f::fs,off,cL,w,h,hx,hox=>by
  simp only[jK]at h;split at h
  ·rename_i s i hs hi;split at h
   ·rename_i hc;obtain⟨hn,rfl,jJ⟩:=hc;simp only[jr]at h;obtain⟨rest,Lr,rfl⟩:=h;obtain⟨desc,hd,h1⟩:=Lq _ _ hs;have DE:=gT.length hx;simp only[EN,VF]at DE;obtain⟨I6,yf⟩:=gT.split hx;rw[Zdd]at yf;rw[jJ]at h1;have p1:=λw=>oP (P:=P) w hd hi (xs:=xs) (off:=f.offset) h1 (by omega);have hr:=ih _ _ _ hs hd _ w I6;rw[jJ]at hr;simp only[Zc4,hn,ne_eq,not_false_eq_true,km,Sem.run_bind,p1,Result.andThen_ok,hr,Sem.run_pure];exact Ax ih Lq xs fs _ rest w Lr yf (by omega)
   ·cases h
  ·cases h
def BW{em:Bool}{d:Nat}{e:TypeId}{de:TypeDesc}{s:List Sh}{i:TypeInfo}(hd:P.underlying e=some de)(hi:P.info? e=some i)(h1:cE de=true\/i.size=1)(hs:s.length=i.size)
  (ih:∀(xs:List Value) (w:World),gT s xs->(Instr.checkKey em d e (Bt de xs)).run P w=.ok () w) (xs:List Value):
  ∀(n k:Nat) (w:World),gT ((List.replicate n s).flatten) (xs.drop (k*i.size))->
   (forIn (List.range' k n) PUnit.unit (λj (_:PUnit)=>do
      let sz<-sizeOf e
      let x<-part e xs.toArray (j*sz)
      Instr.checkKey em d e x
      pure (ForInStep.yield PUnit.unit)):Sem PUnit).run P w=.ok PUnit.unit w
 |0,k,w,hx=>by simp
 |n+1,k,w,hx=>by
  simp only[OV,V9]at hx;have DE:=gT.length hx;simp only[EN,VF]at DE;obtain⟨I6,yf⟩:=gT.split hx;have e2:k*i.size+s.length=(k+1)*i.size:=by rw[Dw,hs];omega
  rw[Zdd,e2]at yf;by_cases hz:i.size=0
  ·have jJ:∀(w:World),k*i.size+i.size<=xs.length\/xs.length<k*i.size:=λ_=>by omega
   have Ot:=h1.elim id (λh=>by omega);have p1:=λw=>oP (P:=P) w hd hi (xs:=xs) (off:=k*i.size) h1 (by rw[hz];simp);rw[hs]at I6;have hr:=ih _ w I6;simp only[Zdo,Zc4,Sem.run_bind,run_sizeOf hi,p1,Result.andThen_ok,hr,Sem.run_pure];exact BW hd hi h1 hs ih xs n (k+1) w yf
  ·have p1:=λw=>oP (P:=P) w hd hi (xs:=xs) (off:=k*i.size) h1 (by omega);rw[hs]at I6;have hr:=ih _ w I6;simp only[Zdo,Zc4,Sem.run_bind,run_sizeOf hi,p1,Result.andThen_ok,hr,Sem.run_pure];exact BW hd hi h1 hs ih xs n (k+1) w yf
def BX(em:Bool):∀(d:Nat) (t:TypeId) (cL:List Sh) (desc:TypeDesc),mG P d t=some cL->P.underlying t=some desc->∀(xs:List Value) (w:World),gT cL xs->(Instr.checkKey em d t (Bt desc xs)).run P w=.ok () w
 |0,t,cL,desc,h,_,_,_,_=>by simp[mG]at h
 |d+1,t,cL,desc,h,hu,xs,w,hx=>by
  simp only[mG,hu]at h;cases desc;case bool=>simp[Bt,cE,Instr.checkKey,run_underlying hu]
  case int k=>simp[Bt,cE,Instr.checkKey,run_underlying hu]
  case string=>simp[Bt,cE,Instr.checkKey,run_underlying hu]
  case struct fs=>
   replace h:(if P.stoodInHeld t then none else jK P (mG P d) 0 fs.toList)=some cL:=h
   split at h
   ·cases h
   ·have:=Ax (em:=em) (λt cL desc=>BX em d t cL desc) (λt cL hs=>by
     cases d with
     |zero=>simp[mG]at hs
     |succ d=>exact DY hs) xs fs.toList 0 cL w h (by simpa using hx) (by omega)
    simp only[Bt,cE,km];rw[Instr.checkKey];simp only[Sem.run_bind,run_underlying hu,Result.andThen_ok];rw[<-Array.forIn_toList];refine(congrArg (λr=>Result.andThen r _) this).trans ?_;rfl
  case array n e=>
   replace h:(match mG P d e,P.info? e with
    |some s,some i=>if s.length=i.size/\0<i.size then some ((List.replicate n s).flatten)else none
    |_,_=>none)=some cL:=h
   split at h
   ·rename_i s i hs hi;split at h
    ·rename_i hc;simp only[cI]at h;subst h;have hde:∃desc,P.underlying e=some desc/\(cE desc=true\/s.length=1):=by
      cases d with
      |zero=>simp[mG]at hs
      |succ d=>exact DY hs
     obtain⟨de,hd,h1⟩:=hde;rw[hc.1]at h1;have:=BW hd hi h1 hc.1 (λxs w=>BX em d e s de hs hd xs w) xs n 0 w (by simpa using hx);simp only[Bt,cE,km];rw[Instr.checkKey];simp only[Sem.run_bind,run_underlying hu,Result.andThen_ok,Std.Legacy.Range.forIn_eq_forIn_range',Std.Legacy.Range.size,Zcu,ZcR,Nat.div_one];refine(congrArg (λr=>Result.andThen r _) this).trans ?_;rfl
    ·cases h
   ·cases h
  all_goals exact eK h (by simp)
def aZ:T->aK
 |.agg as=>as
 |t=>[t]
def l8{t:T}(h:fu cL agg t):fq cL (aZ t):=by
 cases t<;>simp only[fu]at h<;>exact h.2
def BY{desc:TypeDesc}{t:T}{x:Value}(h:fu cL (cE desc) t)(hr:bw w W' t x):∃vs,x=Bt desc vs/\bu w W' (aZ t) vs:=by
 cases t with
 |agg as=>
  simp only[fu]at h;simp only[bw]at hr;obtain⟨vs,rfl,hr⟩:=hr;exact⟨vs.toList,by simp[Bt,h.1],hr⟩
 |_=>
  simp only[fu]at h;refine⟨[x],by simp[Bt,h.1], ?_⟩;simp only[aZ,bu];obtain⟨s,rfl,hs⟩:=pZ h.2;refine⟨x,[],rfl, ?_,hr,rfl⟩;cases s<;>first|exact eK hs EQ|(simp only[bw]at hr;subst hr;rfl)
def FA{t u:T}(h:fu cL agg t)(k:fu cL agg u):iG t u=vj (aZ t) (aZ u):=by
 cases t with
 |agg as=>
  cases u with
  |agg bs=>rfl
  |_=>simp only[fu]at h k;rw[h.1]at k;exact eK k.1 (by simp)
 |_=>
  cases u with
  |agg bs=>simp only[fu]at h k;rw[k.1]at h;exact eK h.1 (by simp)
  |_=>simp[aZ,vj]
def Xe{s:Sh}{t u:T}(ht:IU s t=true)(hu:IU s u=true)(h:iG t u=true):t=u:=by
 cases s<;>cases t<;>(first|exact eK ht EQ|skip)<;>cases u<;>(first|exact eK hu EQ|skip)
 ·simp only[iG,Zcq]at h;rw[h]
 ·simp only[IU,Zcq]at ht hu;simp only[iG,sa]at h;subst ht hu h;rfl
 ·simp only[iG,sa]at h;rw[h]
def HN:∀{cL:List Sh} {ts us:aK},fq cL ts->fq cL us->vj ts us=true->ts=us
 |[],ts,us,h1,h2,_=>by simp only[fq]at h1 h2;rw[h1,h2]
 |s::ss,[],_,h,_,_=>by simp[fq]at h
 |s::ss,_::_,[],_,h,_=>by simp[fq]at h
 |s::ss,t::ts,u::us,h1,h2,h=>by
  simp only[fq]at h1 h2;simp only[vj,mX]at h;rw[Xe h1.1 h2.1 h.1,HN h1.2 h2.2 h.2]
def RE{t u:T}(h:fu cL agg t)(k:fu cL agg u)(e:iG t u=true):t=u:=by
 have h1:=l8 h;have k1:=l8 k;rw[FA h k]at e;have:=HN h1 k1 e;cases t with
 |agg as=>
  cases u with
  |agg bs=>simpa [aZ]using this
  |_=>simp only[fu]at h k;rw[h.1]at k;exact eK k.1 (by simp)
 |_=>
  cases u with
  |agg bs=>simp only[fu]at h k;rw[k.1]at h;exact eK h.1 (by simp)
  |_=>exact(List.cons.inj this).1
def Ug{k:TypeId}(hk:jj P k=some (cL,agg)){t u:T}{x y:Value}(ht:fu cL agg t)(hu:fu cL agg u)(hx:bw w W' t x)(hy:bw w W' u y):
  (Op.equal k x y).run P w=.ok (iG t u) w:=by
 unfold jj at hk;split at hk
 ·rename_i d s hd hs;simp only[cI,oL]at hk;obtain⟨rfl,rfl⟩:=hk;obtain⟨vs,rfl,h1⟩:=BY ht hx;obtain⟨us,rfl,h2⟩:=BY hu hy;rw[FA ht hu,BG (l8 ht) (l8 hu) h1 h2];exact uq 10000 k s d hs hd vs us w (j8 (l8 ht) h1) (j8 (l8 hu) h2)
 ·cases hk
def uE{k:TypeId}(hk:jj P k=some (cL,agg)){t:T}{x:Value}(ht:fu cL agg t)(hx:bw w W' t x)(em:Bool):
  (Instr.checkKey em 10000 k x).run P w=.ok () w:=by
 unfold jj at hk;split at hk
 ·rename_i d s hd hs;simp only[cI,oL]at hk;obtain⟨rfl,rfl⟩:=hk;obtain⟨vs,rfl,h1⟩:=BY ht hx;exact BX em 10000 k s d hs hd vs w (j8 (l8 ht) h1)
 ·cases hk
def RF{t:T}{v:Value}(hk:fu cL agg t)(hr:bw w W' t v):
  (∀k a,v=.int k a->t=.int k a)/\(∀s,v=.string s->t=.str s)/\(∀b,v=.bool b->t=.bool b):=by
 have dm:∀{x:T},fq cL [x]->(∀s,IU s x=false)->False:=λh1 h2=>by
  obtain⟨s,_,hs⟩:=pZ h1;rw[h2]at hs;cases hs
 cases t with
 |agg as=>simp only[bw]at hr;obtain⟨_,rfl,_⟩:=hr;exact⟨λ_ _ e=>(by cases e),λ_ e=>(by cases e),λ_ e=>(by cases e)⟩
 |int k a=>simp only[bw]at hr;subst hr;exact⟨λ_ _ e=>(by cases e;rfl),λ_ e=>(by cases e),λ_ e=>(by cases e)⟩
 |str a=>simp only[bw]at hr;subst hr;exact⟨λ_ _ e=>(by cases e),λ_ e=>(by cases e;rfl),λ_ e=>(by cases e)⟩
 |bool a=>simp only[bw]at hr;subst hr;exact⟨λ_ _ e=>(by cases e),λ_ e=>(by cases e),λ_ e=>(by cases e;rfl)⟩
 |_=>exact(dm hk.2 (λs=>by cases s<;>rfl)).elim
def lU(t:T)(es:List (Nat×T×DV))(xs:List MapEntry)(i:Nat):Option (Nat×Value):=
 match es.findIdx? λe=>iG t e.2.1 with
 |some j=>(xs[j]?).map λe=>(i+j,e.val)
 |none=>none
def Ay(t:T)(e:Nat×T×DV)(es:List (Nat×T×DV))(x:MapEntry)(xs:List MapEntry)(i:Nat):lU t (e::es) (x::xs) i=if iG t e.2.1 then some (i,x.val)else lU t es xs (i+1):=by
 simp only[lU,VC];by_cases h:iG t e.2.1=true
 ·simp[h]
 ·simp only[h];cases List.findIdx? (λe=>iG t e.2.1) es with
  |none=>simp
  |some j=>simp[show i+1+j=i+(j+1)by omega]
def Da{k:TypeId}{cL:List Sh}{agg:Bool}(hk:jj P k=some (cL,agg)){t:T}{x:Value}(ht:fu cL agg t)(hx:bw w (WW W ab L) t x):∀(es:List (Nat×T×DV)) (xs:List MapEntry) (i:Nat),bX w W ab L es xs->(∀e∈es,fu cL agg e.2.1)->
  (Instr.findAsking k x xs i).run P w=.ok (lU t es xs i) w
 |[],xs,i,h,_=>by simp only[bX]at h;subst h;simp[Instr.findAsking,lU]
 |e::es,xs,i,h,eI=>by
  simp only[bX]at h;obtain⟨y,ys,rfl,_,h2,_,h4⟩:=h;have:=Ug hk ht (eI e (by simp)) hx h2;rw[Ay];simp only[Instr.findAsking,Sem.run_bind,this,Result.andThen_ok];cases iG t e.2.1
  ·simpa using Da hk ht hx es ys (i+1) h4 λe he=>eI e (by simp[he])
  ·simp
def Db{k:TypeId}{cL:List Sh}{d:TypeDesc}(hd:P.underlying k=some d)(hs:mG P 10000 k=some cL){t:T}{x:Value}(ht:fu cL (cE d) t)(hx:bw w (WW W ab L) t x):∀(es:List (Nat×T×DV)) (xs:List MapEntry) (i:Nat),bX w W ab L es xs->(∀e∈es,fu cL (cE d) e.2.1)->
  Instr.findNow d x xs i=some (lU t es xs i)\/Instr.findNow d x xs i=none
 |[],xs,i,h,_=>by simp only[bX]at h;subst h;simp[Instr.findNow,lU]
 |e::es,xs,i,h,eI=>by
  simp only[bX]at h;obtain⟨y,ys,rfl,_,h2,_,h4⟩:=h;rw[Ay];simp only[Instr.findNow];cases Xf:Instr.sameNow d x y.key with
  |none=>right;rfl
  |some r=>
   have hr:r=iG t e.2.1:=by
    have lx:=RF ht hx;have ly:=RF (eI e (by simp)) h2;unfold Instr.sameNow at Xf;split at Xf
    ·rename_i k1 a1 k2 a2 e2;split at Xf
     ·rename_i Ww;subst Ww;simp only[cI]at Xf;rw[lx.1 _ _ rfl,ly.1 _ _ e2,<-Xf];simp only[iG];by_cases h:a1=a2<;>simp[h]
     ·cases Xf
    ·rename_i a1 a2 e2;simp only[cI]at Xf;rw[lx.2.1 _ rfl,ly.2.1 _ e2,<-Xf];simp only[iG];by_cases h:a1=a2
     ·subst h;obtain⟨x⟩:=a1;simp only[decide_true];exact(show(x==x)=true by simp)
     ·simp only[h,decide_false];cases hb:a1==a2 with
      |false=>rfl
      |true=>exact eK (by
        obtain⟨x⟩:=a1;obtain⟨y⟩:=a2;have e:x=y:=by simpa using(show(x==y)=true from hb)
        rw[e]) h
    ·rename_i a1 a2 e2;simp only[cI]at Xf;rw[lx.2.2 _ rfl,ly.2.2 _ e2,<-Xf];rfl
    ·cases Xf
   subst hr;cases iG t e.2.1
   ·exact Db hd hs ht hx es ys (i+1) h4 λe he=>eI e (by simp[he])
   ·simp
def xz{k:TypeId}(hk:jj P k=some (cL,agg)){t:T}{x:Value}(ht:fu cL agg t)(hx:bw w (WW W ab L) t x){xs:List MapEntry}(h:bX w W ab L es xs)(eI:∀e∈es,fu cL agg e.2.1):
  (Instr.findKey k x xs).run P w=.ok (lU t es xs 0) w:=by
 have ha:=Da hk ht hx es xs 0 h eI;unfold jj at hk;split at hk
 ·rename_i d s hd hs;simp only[cI,oL]at hk;obtain⟨rfl,rfl⟩:=hk;unfold Instr.findKey;simp only[Sem.run_bind,run_underlying hd,Result.andThen_ok];rcases Db hd hs ht hx es xs 0 h eI with h1|h1
  ·rw[h1];simp
  ·rw[h1];exact ha
 ·cases hk
def bX.length:∀{es:List (Nat×T×DV)} {xs:List MapEntry},bX w W ab L es xs->xs.length=es.length
 |[],_,h=>by simp only[bX]at h;simp[h]
 |e::es,_,h=>by
  simp only[bX]at h;obtain⟨x,mL,rfl,_,_,_,h4⟩:=h;simp[bX.length h4]
def bX.get:∀{es:List (Nat×T×DV)} {xs:List MapEntry} {i:Nat} {e:Nat×T×DV},bX w W ab L es xs->es[i]? =some e->∃x,xs[i]? =some x/\x.born=e.1/\bw w (WW W ab L) e.2.1 x.key/\aC w W ab L e.2.2 x.val
 |[],_,_,_,_,h=>by simp at h
 |e::es,_,0,_,hr,h=>by
  simp only[bX]at hr;obtain⟨x,mL,rfl,h1,h2,h3,_⟩:=hr;simp only[IS,cI]at h;subst h;exact⟨x,rfl,h1,h2,h3⟩
 |e::es,_,i+1,_,hr,h=>by
  simp only[bX]at hr;obtain⟨x,mL,rfl,_,_,_,h4⟩:=hr;simpa using bX.get h4 (by simpa using h)
def bX.append:∀{es oO:List (Nat×T×DV)} {xs mL:List MapEntry},bX w W ab L es xs->bX w W ab L oO mL->bX w W ab L (es++oO) (xs++mL)
 |[],_,_,_,h,k=>by simp only[bX]at h;subst h;simpa using k
 |e::es,_,_,_,h,k=>by
  simp only[bX]at h;obtain⟨x,xs1,rfl,h1,h2,h3,h4⟩:=h;simp only[Dy,bX];exact⟨x,_,rfl,h1,h2,h3,bX.append h4 k⟩
def bX.modify{y:DV}{v:Value}(hy:aC w W ab L y v):∀{es:List (Nat×T×DV)} {xs:List MapEntry} (i:Nat),bX w W ab L es xs->bX w W ab L (es.modify i λe=>(e.1,e.2.1,y)) (xs.modify i λe=>{e with val:=v})
 |[],_,i,h=>by simp only[bX]at h;subst h;simp[bX]
 |e::es,_,0,h=>by
  simp only[bX]at h;obtain⟨x,xs1,rfl,h1,h2,h3,h4⟩:=h;simp only[ZcF,bX];exact⟨_,_,rfl,h1,h2,hy,h4⟩
 |e::es,_,i+1,h=>by
  simp only[bX]at h;obtain⟨x,xs1,rfl,h1,h2,h3,h4⟩:=h;simp only[Zcl,bX];exact⟨_,_,rfl,h1,h2,h3,bX.modify hy i h4⟩
def bX.erase:∀{es:List (Nat×T×DV)} {xs:List MapEntry} (i:Nat),bX w W ab L es xs->bX w W ab L (es.eraseIdx i) (xs.eraseIdx i)
 |[],_,i,h=>by simp only[bX]at h;subst h;simp[bX]
 |e::es,_,0,h=>by
  simp only[bX]at h;obtain⟨x,xs1,rfl,h1,h2,h3,h4⟩:=h;simpa using h4
 |e::es,_,i+1,h=>by
  simp only[bX]at h;obtain⟨x,xs1,rfl,h1,h2,h3,h4⟩:=h;simp only[List.eraseIdx_cons_succ,bX];exact⟨_,_,rfl,h1,h2,h3,bX.erase i h4⟩
def Az{d:DV}{x:Value}{t:T}(h:aC w W ab L d x)(hk:BA d=some t):bw w (WW W ab L) t x:=by
 cases d with
 |v t'=>simp only[BA,cI]at hk;subst hk;simpa only[aC]using h
 |agg cs=>
  simp only[BA,jr]at hk;obtain⟨ts,Lp,rfl⟩:=hk;simp only[aC]at h;obtain⟨vs,rfl,hr⟩:=h;simp only[bw];refine⟨vs,rfl, ?_⟩;have key:∀(cs:bM) (ts:aK) (vs:List Value),OS cs=some ts->aX w W ab L cs vs->bu w (WW W ab L) ts vs:=by
   intro cs;induction cs with
   |nil=>intro ts vs h1 h2;simp only[OS,cI]at h1;subst h1;simpa [aX,bu]using h2
   |cons c cs ih=>
    intro ts vs h1 h2;cases c with
    |v u=>
     simp only[OS,jr]at h1;obtain⟨us,Uh,rfl⟩:=h1;simp only[aX]at h2;obtain⟨y,ys,rfl,k1,k2,k3⟩:=h2;simp only[bu];exact⟨y,ys,rfl,k1,by simpa only[aC]using k2,ih us ys Uh k3⟩
    |_=>simp[OS]at h1
  exact key cs ts _ Lp hr
 |_=>simp[BA]at hk
def Obj.agt:Obj->Prop
 |.cells _ _ _=>False
 |_=>True
def ah4(s:ByteArray):(s==s)=true:=by
 obtain⟨x⟩:=s;exact(show(x==x)=true by simp)
def g9{b:Nat}{x:Obj}(h:w.heap[b]? =some x)(hx:Obj.agt x):(getObj b).run P w=.ok x w:=by
 cases x<;>first|exact hx.elim|simp[getObj,Sem.run,h]
def _root_.Go.World.iN(w:World)(b:Nat)(x:Obj):World:={w with heap:=w.heap.setIfInBounds b x}
def qP{b:Nat}{x y:Obj}(h:w.heap[b]? =some x)(hx:Obj.agt x):(setObj b y).run P w=.ok () (w.iN b y):=by
 cases x<;>first|exact hx.elim|simp[setObj,Sem.run,h,World.iN]
def Dc{b:Nat}{x y:Obj}(h:w.heap[b]? =some x):(w.iN b y).heap[b]? =some y:=by
 have eG:b<w.heap.size:=(w7.1 h).1;simp[World.iN,eG]
def uF{b k:Nat}{y:Obj}(h:k≠b):(w.iN b y).heap[k]? =w.heap[k]? :=by simp[World.iN,Ne.symm h]
def wA{b:Nat}{y:Obj}:(w.iN b y).heap.size=w.heap.size:=by simp[World.iN]
def HO{g:Nat}(x:Obj)(h:Fr base M w0 w)(hg:base<=g\/M g):Fr base M w0 (w.iN g x):=
 ⟨h.os,h.tape,h.output,h.kl,by rw[wA];exact h.size,λk hk hm=>by
  rw[uF (by
    rintro rfl;rcases hg with h1|h1;·omega
    exact hm h1)]
  exact h.block k hk hm,h.drawn⟩
def uG(hO:cO base W M w0 ab w L){r c c':Nat}{lI:List Sh}{lJ:Bool}{oO:List (Nat×T×DV)}(hc:ab r=some (.map cL agg c es)){FB:Array MapEntry}
  (hr:bX w W ab L oO FB.toList) (h1:∀e∈oO,fu lI lJ e.2.1) (h2:∀e∈oO,e.1<c') (h3:(oO.map (·.1)).Nodup):
  cO base W M w0 (cV ab (some (r,.map lI lJ c' oO))) (w.iN (L.kx r) (.map FB c')) L/\iH W ab L w (cV ab (some (r,.map lI lJ c' oO))) L (w.iN (L.kx r) (.map FB c')):=by
 obtain⟨bJ,hh,_,_,_,_,hm⟩:=hO.ob r _ hc;refine cO.put hO (HO _ hO.fr hm) (by rw[wA];exact eF _) (λ_ _=>⟨rfl,rfl⟩) rfl (λb _ hb=>uF (λx=>hb _ hc (by simp[Loc.own,x])))
  (λb hb=>.inl ⟨_,hc,hb⟩) (λo' jA _=>by rw[hc]at jA;cases jA;exact⟨rfl,rfl⟩) (λbP e sz aw h=>by rw[hc]at h;cases h) (λfP=>?_)
 exact⟨FB,Dc hh,bX.fP fP _ _ hr,h1,h2,h3,hm⟩
def sT:∀{cL:List Sh} {ts:aK} {vs:List Value} {W':f9} (n:Nat),fq cL ts->bu w W' ts vs->(vs.zip vs).all (λx=>Instr.sameBits n x.1 x.2)=true
 |[],ts,vs,W',n,h,hr=>by simp only[fq]at h;subst h;simp only[bu]at hr;subst hr;rfl
 |s::ss,[],_,_,_,h,_=>by simp[fq]at h
 |s::ss,t::ts,vs,W',n,h,hr=>by
  simp only[fq]at h;simp only[bu]at hr;obtain⟨v,kj,rfl,_,h1,h2⟩:=hr;simp only[List.zip_cons_cons,ZcZ,mX];refine⟨?_,sT n h.2 h2⟩;have hs:=h.1;cases s<;>cases t<;>first|exact eK hs EQ|skip
  all_goals (simp only[bw]at h1;subst h1;cases n<;>simp[Instr.sameBits,ah4])
def L7{t:T}{x:Value}(h:fu cL agg t)(hr:bw w W' t x):Instr.sameBits 10000 x x=true:=by
 cases t with
 |agg as=>
  simp only[fu]at h;simp only[bw]at hr;obtain⟨vs,rfl,hr⟩:=hr;simp only[Instr.sameBits,beq_self_eq_true,ZcY];exact sT 9999 h.2 hr
 |_=>
  simp only[fu]at h;obtain⟨s,rfl,hs⟩:=pZ h.2;have h1:x.oneCell'=true:=by cases s<;>first|exact eK hs EQ|(simp only[bw]at hr;subst hr;rfl)
  have:=sT (w:=w) (W':=W') 10000 h.2 (vs:=[x]) (by simp only[bu];exact⟨x,[],rfl,h1,hr,rfl⟩);simpa using this
def HP:∀{cL:List Sh} {ts:aK} {vs us:List Value} {W':f9},fq cL ts->bu w W' ts vs->bu w W' ts us->vs=us
 |[],ts,vs,us,W',h,h1,h2=>by simp only[fq]at h;subst h;simp only[bu]at h1 h2;rw[h1,h2]
 |s::ss,[],_,_,_,h,_,_=>by simp[fq]at h
 |s::ss,t::ts,vs,us,W',h,h1,h2=>by
  simp only[fq]at h;simp only[bu]at h1 h2;obtain⟨v,kj,rfl,_,k1,k2⟩:=h1;obtain⟨u,us',rfl,_,l1,l2⟩:=h2;have hs:=h.1;rw[HP h.2 k2 l2]
  congr 1
  cases s<;>cases t<;>first|exact eK hs EQ|skip
  all_goals (simp only[bw]at k1 l1;rw[k1,l1])
def RG{t:T}{x y:Value}(h:fu cL agg t)(hx:bw w W' t x)(hy:bw w W' t y):x=y:=by
 cases t with
 |agg as=>
  simp only[fu]at h;simp only[bw]at hx hy;obtain⟨vs,rfl,hx⟩:=hx;obtain⟨us,rfl,hy⟩:=hy;have:=HP h.2 hx hy;rw[Array.toList_inj.1 this]
 |_=>
  simp only[fu]at h;obtain⟨s,rfl,hs⟩:=pZ h.2;cases s<;>first|exact eK hs EQ|(simp only[bw]at hx hy;rw[hx,hy])
end
end
section
variable{et kt yt:TypeId}{z d1 d2 d3 d:DV}{es:List (Nat×T×DV)}{cL:List Sh}{agg neg:Bool}{xs:List MapEntry}{name:Nat}{op:BinOp}{y':cg}
variable [bK]
section
variable{P:Program}{base:Nat}{W M:f9}{w0:World}{ab:bF}{L:Loc}{w:World}{a:Act}{o:Oper}
def HQ(h:HA P et=some z):∃zv,(zeroValue et).run P w=.ok zv w/\aC w W ab L z zv:=by
 unfold HA at h;simp only[lp,kb]at h;obtain⟨i,hi,zv,hz,h⟩:=h;refine⟨zv,by simp[zeroValue,typeInfo,hi,hz], ?_⟩;split at h
 ·rename_i cs;simp only[jr]at h;obtain⟨ds,hds,rfl⟩:=h;simp only[aC];exact⟨cs,rfl,jR hds⟩
 ·exact(yJ h).1
def AA(t:T)(es:List (Nat×T×DV)):tr t es=(es.findIdx? λe=>iG t e.2.1).bind (es[·]?):=by
 unfold tr;induction es with
 |nil=>rfl
 |cons e es ih=>
  simp only[K9,VC];by_cases h:iG t e.2.1=true
  ·simp[h]
  ·simp only[h,ih];cases List.findIdx? (λe=>iG t e.2.1) es<;>simp
def JJ{t:T}{i:Nat}(h:(es.findIdx? λe=>iG t e.2.1)=some i):∃e,es[i]? =some e/\iG t e.2.1=true:=by
 induction es generalizing i with
 |nil=>simp at h
 |cons e es ih=>
  simp only[VC]at h;by_cases he:iG t e.2.1=true
  ·simp only[he,km,cI]at h;subst h;exact⟨e,rfl,he⟩
  ·rw[bj he,jr]at h;obtain⟨j,hj,rfl⟩:=h;simpa using ih hj
def Je(hO:cO base W M w0 ab w L){t:TypeId}{x k:Operand}{ok:Bool}(ho:o.op=.lookup t x k ok)(ht:P.underlying t=some (.map kt et))(hk:jj P kt=some (cL,agg))(hz:HA P et=some z)
   (h1:aC w W ab L d1 (a.eval x)) (h2:aC w W ab L d2 (a.eval k)) (aO:(nT cL agg z ok ab d1 d2).ok):cW P base W M w0 ab L w a o (nT cL agg z ok ab d1 d2):=by
 unfold nT at aO⊢;split at aO
 ·rename_i r Xg Xh;cases hc:ab r with
  |none=>simp[hc,dm]at aO
  |some ob=>
   cases ob with
   |map lI lJ c es=>
    simp only[hc]at aO⊢;obtain⟨rfl,rfl,rN⟩:=aO;simp only[aC]at h1;obtain⟨_,hx⟩:=h1;have AB:=Az h2 Xh;obtain⟨bJ,hh,rP,eI,_,_,_⟩:=hO.ob r _ hc;have xU:=λem=>uE (P:=P) (w:=w) hk rN AB em;have hf:=xz (P:=P) hk rN AB rP eI;have hg:=g9 (P:=P) hh trivial;simp only[Xh];rw[AA];unfold lU at hf;cases hi:es.findIdx? (λe=>iG Xg e.2.1)with
    |none=>
     simp only[hi]at hf;obtain⟨zv,hzr,hzd⟩:=HQ (P:=P) (w:=w) (W:=W) (ab:=ab) (L:=L) hz;simp only[Option.bind_none];have cw:(Instr.lookup t (.map (some (L.kx r))) (a.eval k) ok).run P w=.ok (if ok then .tuple #[zv,.bool false]else zv) w:=by
      simp[Instr.lookup,run_underlying ht,hg,xU,hf,hzr]
     refine cW.mW hO rfl (v:=if ok then .tuple #[zv,.bool false]else zv) (by simp[execOp,ho,hx,cw]) ?_;cases ok
     ·simpa using hzd
     ·simp only[km,aC];exact⟨_,rfl,by simp only[fj];exact⟨zv,_,rfl,hzd,.bool false,[],rfl,by simp[aC,bw],rfl⟩⟩
    |some i=>
     obtain⟨e,he,hq⟩:=JJ hi;obtain⟨xe,Bv,_,_,hv⟩:=bX.get rP he;simp only[hi,Bv,OA]at hf;simp only[ZcJ,he];have cw:(Instr.lookup t (.map (some (L.kx r))) (a.eval k) ok).run P w=.ok (if ok then .tuple #[xe.val,.bool true]else xe.val) w:=by
      simp[Instr.lookup,run_underlying ht,hg,xU,hf]
     refine cW.mW hO rfl (v:=if ok then .tuple #[xe.val,.bool true]else xe.val) (by simp[execOp,ho,hx,cw]) ?_;cases ok
     ·simpa using hv
     ·simp only[km,aC];exact⟨_,rfl,by simp only[fj];exact⟨xe.val,_,rfl,hv,.bool true,[],rfl,by simp[aC,bw],rfl⟩⟩
   |_=>simp[hc,dm]at aO
 ·exact aO.elim
def AC{y:DV}(i:Nat):(es.modify i λe=>(e.1,e.2.1,y)).map (·.1)=es.map (·.1):=by
 induction es generalizing i with
 |nil=>simp
 |cons e es ih=>cases i<;>simp[ih]
def sd{y:DV}(i:Nat){e:Nat×T×DV}(h:e∈es.modify i λe=>(e.1,e.2.1,y)):∃e'∈es,e.1=e'.1/\e.2.1=e'.2.1:=by
 induction es generalizing i with
 |nil=>simp at h
 |cons e0 es ih=>
  cases i with
  |zero=>
   simp only[ZcF,gm]at h;rcases h with rfl|h
   ·exact⟨e0,by simp,rfl,rfl⟩
   ·exact⟨e,by simp[h],rfl,rfl⟩
  |succ i=>
   simp only[Zcl,gm]at h;rcases h with rfl|h
   ·exact⟨e,by simp,rfl,rfl⟩
   ·obtain⟨e',h1,h2⟩:=ih i h;exact⟨e',by simp[h1],h2⟩
def Pr{es:List (Nat×T×DV)}{i:Nat}{v key:Value}{x:MapEntry}(hx:xs[i]? =some x)(hk:x.key=key):(xs.modify i λe=>{e with key:=key,val:=v})=xs.modify i λe=>{e with val:=v}:=by
 induction xs generalizing i with
 |nil=>simp
 |cons y ys ih=>
  cases i with
  |zero=>
   simp only[IS,cI]at hx;subst hx hk;simp
  |succ i=>
   simp only[Zcl,KU,rO];exact ih (by simpa using hx)
def Jf(hO:cO base W M w0 ab w L){t:TypeId}{x k y:Operand}(ho:o.op=.mapUpdate t x k y)(ht:P.underlying t=some (.map kt et))(hk:jj P kt=some (cL,agg))
   (h1:aC w W ab L d1 (a.eval x)) (h2:aC w W ab L d2 (a.eval k)) (h3:aC w W ab L d3 (a.eval y)) (aO:(j5 cL agg ab d1 d2 d3).ok):cW P base W M w0 ab L w a o (j5 cL agg ab d1 d2 d3):=by
 unfold j5 at aO⊢;split at aO
 ·rename_i r Xg Xh;cases hc:ab r with
  |none=>simp[hc,dm]at aO
  |some ob=>
   cases ob with
   |map lI lJ c es=>
    simp only[hc]at aO⊢;obtain⟨rfl,rfl,rN,hb⟩:=aO;simp only[aC]at h1;obtain⟨_,hx⟩:=h1;have AB:=Az h2 Xh;obtain⟨bJ,hh,rP,eI,eG,Af,hm⟩:=hO.ob r _ hc;have xU:=λem=>uE (P:=P) (w:=w) hk rN AB em;have hf:=xz (P:=P) hk rN AB rP eI;have hg:=g9 (P:=P) hh trivial;have hs:=λy=>qP (P:=P) (y:=y) hh trivial;simp only[Xh];unfold lU at hf;unfold IW qu;cases hi:es.findIdx? (λe=>iG Xg e.2.1)with
    |none=>
     simp only[hi]at hf;simp only;have cw:(Instr.mapUpdate t (.map (some (L.kx r))) (a.eval k) (a.eval y)).run P w=.ok () (w.iN (L.kx r) (.map (bJ.push {key:=a.eval k,val:=a.eval y,born:=c}) (c+1))):=by
      simp[Instr.mapUpdate,run_underlying ht,hg,xU,hf,hs]
     have:=uG hO hc (lI:=lI) (lJ:=lJ) (c':=c+1) (oO:=es++[(c,Xg,d3)]) (FB:=bJ.push {key:=a.eval k,val:=a.eval y,born:=c})
      (by rw[Array.toList_push];exact bX.append rP (by simp only[bX];exact⟨_,_,rfl,rfl,AB,h3,rfl⟩))
      (λe he=>by
        rcases oJ.1 he with he|he;·exact eI e he
        ·simp only[pe]at he;subst he;exact rN)
      (λe he=>by
        rcases oJ.1 he with he|he;·have:=eG e he;omega
        ·simp only[pe]at he;subst he;simp)
      (by rw[Jv,Zco];exact⟨Af,by simp,λb hb b2 gn=>by
         simp only[rW,VP,pe]at gn;obtain⟨e,he,rfl⟩:=iF.1 hb;have:=eG e he;omega⟩)
     exact⟨.skip,Go.undef,_,L,by simp[execOp,ho,hx,cw],.inr ⟨rfl,rfl⟩,this.1,this.2,by simp[aC]⟩
    |some i=>
     obtain⟨e,he,hq⟩:=JJ hi;obtain⟨xe,Bv,_,hxk,hv⟩:=bX.get rP he;simp only[hi,Bv,OA]at hf;have hte:Xg=e.2.1:=RE rN (eI e (zK he)) hq;have Ps:xe.key=a.eval k:=RG rN (by rw[hte];exact hxk) AB;have ah5:(Instr.keyThatStays xe.key (a.eval k)).run P w=.ok (a.eval k) w:=by
      rw[Ps];simp[Instr.keyThatStays,L7 rN AB]
     have hai:bJ[i]? =some xe:=by simpa using Bv
     have cw:(Instr.mapUpdate t (.map (some (L.kx r))) (a.eval k) (a.eval y)).run P w=.ok () (w.iN (L.kx r) (.map (bJ.modify i λe=>{e with key:=a.eval k,val:=a.eval y}) c)):=by
      simp[Instr.mapUpdate,run_underlying ht,hg,xU,hf,hs,hai,ah5]
     have v7:(bJ.modify i λe=>{e with key:=a.eval k,val:=a.eval y}).toList=bJ.toList.modify i λe=>{e with val:=a.eval y}:=by
      rw[Zda];exact Pr (es:=es) (by simpa using hai) Ps
     simp only;have:=uG hO hc (lI:=lI) (lJ:=lJ) (c':=c) (oO:=es.modify i λe=>(e.1,e.2.1,d3)) (FB:=bJ.modify i λe=>{e with key:=a.eval k,val:=a.eval y})
      (by rw[v7];exact bX.modify h3 i rP)
      (λe he=>by obtain⟨e',h1,_,h2⟩:=sd i he;rw[h2];exact eI e' h1)
      (λe he=>by obtain⟨e',h1,h2,_⟩:=sd i he;rw[h2];exact eG e' h1)
      (by rw[AC];exact Af)
     exact⟨.skip,Go.undef,_,L,by simp[execOp,ho,hx,cw],.inr ⟨rfl,rfl⟩,this.1,this.2,by simp[aC]⟩
   |_=>simp[hc,dm]at aO
 ·exact aO.elim
def Jg(hO:cO base W M w0 ab w L){t:TypeId}{x k:Operand}(ho:o.op=.mapEntry t x k)(ht:P.underlying t=some (.map kt et))(hk:jj P kt=some (cL,agg))(hz:HA P et=some z)
   (h1:aC w W ab L d1 (a.eval x)) (h2:aC w W ab L d2 (a.eval k)) (aO:(j6 cL agg z ab d1 d2).ok):cW P base W M w0 ab L w a o (j6 cL agg z ab d1 d2):=by
 unfold j6 at aO⊢;split at aO
 ·rename_i r Xg Xh;cases hc:ab r with
  |none=>simp[hc,dm]at aO
  |some ob=>
   cases ob with
   |map lI lJ c es=>
    simp only[hc]at aO⊢;obtain⟨rfl,rfl,rN⟩:=aO;simp only[aC]at h1;obtain⟨_,hx⟩:=h1;have AB:=Az h2 Xh;obtain⟨bJ,hh,rP,eI,eG,Af,hm⟩:=hO.ob r _ hc;have xU:=λem=>uE (P:=P) (w:=w) hk rN AB em;have hf:=xz (P:=P) hk rN AB rP eI;have hg:=g9 (P:=P) hh trivial;have hs:=λy=>qP (P:=P) (y:=y) hh trivial;simp only[Xh];unfold aa9;rw[AA];unfold lU at hf;unfold aa8 qu;cases hi:es.findIdx? (λe=>iG Xg e.2.1)with
    |none=>
     simp only[hi]at hf;obtain⟨zv,hzr,hzd⟩:=HQ (P:=P) (w:=w) (W:=W) (ab:=ab) (L:=L) hz;simp only[Option.bind_none];have cw:(Instr.mapEntry t (.map (some (L.kx r))) (a.eval k)).run P w=.ok (.tuple #[zv,goInt c]) (w.iN (L.kx r) (.map (bJ.push {key:=a.eval k,val:=zv,born:=c}) (c+1))):=by
      simp[Instr.mapEntry,run_underlying ht,hg,xU,hf,hs,hzr]
     have:=uG hO hc (lI:=lI) (lJ:=lJ) (c':=c+1) (oO:=es++[(c,Xg,z)]) (FB:=bJ.push {key:=a.eval k,val:=zv,born:=c})
      (by rw[Array.toList_push];exact bX.append rP (by simp only[bX];exact⟨_,_,rfl,rfl,AB,hzd,rfl⟩))
      (λe he=>by
        rcases oJ.1 he with he|he;·exact eI e he
        ·simp only[pe]at he;subst he;exact rN)
      (λe he=>by
        rcases oJ.1 he with he|he;·have:=eG e he;omega
        ·simp only[pe]at he;subst he;simp)
      (by rw[Jv,Zco];exact⟨Af,by simp,λb hb b2 gn=>by
         simp only[rW,VP,pe]at gn;obtain⟨e,he,rfl⟩:=iF.1 hb;have:=eG e he;omega⟩)
     refine⟨.value (.tuple #[zv,goInt c]),.tuple #[zv,goInt c],_,L,by simp[execOp,ho,hx,cw],.inl rfl,this.1,this.2, ?_⟩;have hz2:=aC.fP this.2 _ _ hzd;simp only[aC];exact⟨_,rfl,by simp only[fj];exact⟨zv,_,rfl,hz2,goInt c,[],rfl,by simp[aC,bw,goInt],rfl⟩⟩
    |some i=>
     obtain⟨e,he,hq⟩:=JJ hi;obtain⟨xe,Bv,OB,hxk,hv⟩:=bX.get rP he;simp only[hi,Bv,OA]at hf;have hte:Xg=e.2.1:=RE rN (eI e (zK he)) hq;have Ps:xe.key=a.eval k:=RG rN (by rw[hte];exact hxk) AB;have ah5:(Instr.keyThatStays xe.key (a.eval k)).run P w=.ok (a.eval k) w:=by
      rw[Ps];simp[Instr.keyThatStays,L7 rN AB]
     have hai:bJ[i]? =some xe:=by simpa using Bv
     have v7:(bJ.modify i λe=>{e with key:=a.eval k}).toList=bJ.toList:=by
      rw[Zda];apply Zb3;intro j;rw[List.getElem?_modify];split
      ·rename_i hj;subst hj;rw[Bv];simp[<-Ps]
      ·simp
     have cw:(Instr.mapEntry t (.map (some (L.kx r))) (a.eval k)).run P w=.ok (.tuple #[xe.val,goInt xe.born]) (w.iN (L.kx r) (.map (bJ.modify i λe=>{e with key:=a.eval k}) c)):=by
      simp[Instr.mapEntry,run_underlying ht,hg,xU,hf,hs,hai,ah5]
     have:=uG hO hc (lI:=lI) (lJ:=lJ) (c':=c) (oO:=es) (FB:=bJ.modify i λe=>{e with key:=a.eval k})
      (by rw[v7];exact rP) eI eG Af
     simp only[ZcJ,he];refine⟨.value (.tuple #[xe.val,goInt xe.born]),.tuple #[xe.val,goInt xe.born],_,L,by simp[execOp,ho,hx,cw],.inl rfl,this.1,this.2, ?_⟩;have hz2:=aC.fP this.2 _ _ hv;simp only[aC];exact⟨_,rfl,by simp only[fj];exact⟨xe.val,_,rfl,hz2,goInt xe.born,[],rfl,by simp[aC,bw,goInt,OB],rfl⟩⟩
   |_=>simp[hc,dm]at aO
 ·exact aO.elim
def Xi{b:Int}(h:bX w W ab L es xs):xs.findIdx? (λe=>(e.born:Int)==b)=es.findIdx? (λe=>(e.1:Int)==b):=by
 induction es generalizing xs with
 |nil=>simp only[bX]at h;subst h;rfl
 |cons e es ih=>
  simp only[bX]at h;obtain⟨x,mL,rfl,hb,_,_,hr⟩:=h;simp only[VC,ih hr,hb]
def Lz(hO:cO base W M w0 ab w L){t:TypeId}{x s y:Operand}(ho:o.op=.entryStore t x s y)
   (h1:aC w W ab L d1 (a.eval x)) (h2:aC w W ab L d2 (a.eval s)) (h3:aC w W ab L d3 (a.eval y)) (aO:(lL ab d1 d2 d3).ok):cW P base W M w0 ab L w a o (lL ab d1 d2 d3):=by
 unfold lL at aO⊢;split at aO
 ·rename_i r kk b;cases hc:ab r with
  |none=>simp[hc,dm]at aO
  |some ob=>
   cases ob with
   |map cL agg c es=>
    simp only[hc]at aO⊢;simp only[aC,bw]at h1 h2;obtain⟨_,hx⟩:=h1;obtain⟨bJ,hh,rP,eI,eG,Af,hm⟩:=hO.ob r _ hc;have hg:=g9 (P:=P) hh trivial;have hs:=λy=>qP (P:=P) (y:=y) hh trivial;unfold aba at aO⊢;cases hi:es.findIdx? (λe=>(e.1:Int)==b)with
    |none=>simp[hi,dm]at aO
    |some i=>
     simp only[OA];have hbi:=(Xi (b:=b) rP).trans hi;have awl:bJ.findIdx? (λe=>(e.born:Int)==b)=some i:=by rw[<-hbi];cases bJ;simp
     have cw:(Instr.entryStore t (.map (some (L.kx r))) (.int kk b) (a.eval y)).run P w=.ok () (w.iN (L.kx r) (.map (bJ.modify i λe=>{e with val:=a.eval y}) c)):=by
      simp[Instr.entryStore,hg,hs,asInt,asIntOf,awl]
     have:=uG hO hc (lI:=cL) (lJ:=agg) (c':=c) (oO:=es.modify i λe=>(e.1,e.2.1,d3)) (FB:=bJ.modify i λe=>{e with val:=a.eval y})
      (by rw[Zda];exact bX.modify h3 i rP)
      (λe he=>by obtain⟨e',h1,_,h2⟩:=sd i he;rw[h2];exact eI e' h1)
      (λe he=>by obtain⟨e',h1,h2,_⟩:=sd i he;rw[h2];exact eG e' h1)
      (by rw[AC];exact Af)
     exact⟨.skip,Go.undef,_,L,by simp[execOp,ho,hx,h2,cw],.inr ⟨rfl,rfl⟩,this.1,this.2,by simp[aC]⟩
   |_=>simp[hc,dm]at aO
 ·exact aO.elim
def Jj(hO:cO base W M w0 ab w L){t:TypeId}{x k:Operand}{ts:Array TypeId}(Lp:ts[0]? =some t)(ho:o.op=.call {callee:=.builtin .delete,args:= #[x,k],argTypes:=ts})(ht:P.underlying t=some (.map kt et))(hk:jj P kt=some (cL,agg))
   (h1:aC w W ab L d1 (a.eval x)) (h2:aC w W ab L d2 (a.eval k)) (aO:(j7 cL agg ab d1 d2).ok):cW P base W M w0 ab L w a o (j7 cL agg ab d1 d2):=by
 unfold j7 at aO⊢;split at aO
 ·rename_i r Xg Xh;cases hc:ab r with
  |none=>simp[hc,dm]at aO
  |some ob=>
   cases ob with
   |map lI lJ c es=>
    simp only[hc]at aO⊢;obtain⟨rfl,rfl,rN⟩:=aO;simp only[aC]at h1;obtain⟨_,hx⟩:=h1;have AB:=Az h2 Xh;obtain⟨bJ,hh,rP,eI,eG,Af,hm⟩:=hO.ob r _ hc;have xU:=λem=>uE (P:=P) (w:=w) hk rN AB em;have hf:=xz (P:=P) hk rN AB rP eI;have hg:=g9 (P:=P) hh trivial;have hs:=λy=>qP (P:=P) (y:=y) hh trivial;simp only[Xh];unfold lU at hf;unfold aa7;cases hi:es.findIdx? (λe=>iG Xg e.2.1)with
    |none=>
     simp only[hi]at hf;simp only;have:=uG hO hc (lI:=lI) (lJ:=lJ) (c':=c) (oO:=es) (FB:=bJ) rP eI eG Af;refine⟨.value (.tuple #[]),.tuple #[],_,L, ?_,.inl rfl,this.1,this.2,by simp only[aC,bw,gH];exact⟨_,rfl,rfl⟩⟩;simp[execOp,ho,resolve,invoke,builtin,Builtin.delete_,Lp,hx,run_underlying ht,hg,xU,hf,hs]
    |some i=>
     obtain⟨e,he,hq⟩:=JJ hi;obtain⟨xe,Bv,_,hxk,hv⟩:=bX.get rP he;simp only[hi,Bv,OA]at hf;have v7:(bJ.eraseIdxIfInBounds i).toList=bJ.toList.eraseIdx i:=by
      have:i<bJ.size:=by have:=(DA.1 Bv).1;simpa using this
      unfold Array.eraseIdxIfInBounds;simp[this]
     simp only;have:=uG hO hc (lI:=lI) (lJ:=lJ) (c':=c) (oO:=es.eraseIdx i) (FB:=bJ.eraseIdxIfInBounds i)
      (by rw[v7];exact bX.erase i rP)
      (λe he=>eI e (ZcS he))
      (λe he=>eG e (ZcS he))
      (List.Sublist.nodup ((List.eraseIdx_sublist _ _).map _) Af)
     refine⟨.value (.tuple #[]),.tuple #[],_,L, ?_,.inl rfl,this.1,this.2,by simp only[aC,bw,gH];exact⟨_,rfl,rfl⟩⟩;simp[execOp,ho,resolve,invoke,builtin,Builtin.delete_,Lp,hx,run_underlying ht,hg,xU,hf,hs]
   |_=>simp[hc,dm]at aO
 ·exact aO.elim
def O0(hO:cO base W M w0 ab w L){x:Operand}{t:TypeId}(ho:o.op=.call {callee:=.builtin .len,args:= #[x],argTypes:= #[t]})(ht:P.underlying t=some (.map kt et))(h:aC w W ab L d (a.eval x))(aO:(uj ab d).ok):
  cW P base W M w0 ab L w a o (uj ab d):=by
 unfold uj at aO⊢;split at aO
 ·rename_i r;cases hc:ab r with
  |none=>simp[hc,dm]at aO
  |some ob=>
   cases ob with
   |map cL agg c es=>
    simp only[aC]at h;obtain⟨_,hx⟩:=h;obtain⟨bJ,hh,rP,_⟩:=hO.ob r _ hc;have hg:=g9 (P:=P) hh trivial;have hl:=bX.length rP;simp only[Rg]at hl;refine cW.int hO rfl rfl ?_;simp[execOp,ho,resolve,invoke,builtin,hx,Builtin.len_,run_underlying ht,goInt,hg,hl]
   |_=>simp[hc,dm]at aO
 ·exact aO.elim
def Ly(hO:cO base W M w0 ab w L)(fF:ab name=none){t:TypeId}(ho:o.op=.makeMap t none)(cL:List Sh)(agg:Bool):
  cW P base W M w0 ab L w a o ⟨True,.jG name,some (name,.map cL agg 0 [])⟩:=by
 have hb:=mo (w:=w) (.map #[] 0);have h:=cO.put hO (r:=name) (L':=L.iX name w.heap.size) (o':=.map cL agg 0 []) (zW hO.fr hb) hb.size (λx hx=>⟨by simp[Loc.iX,hx],rfl⟩) rfl (λb eG _=>hb.block b eG) (λb h=>.inr (by
   simp only[Loc.own,Loc.iX,km,cI]at h;omega))
  (λo' h _=>by rw[fF]at h;cases h) (λ_ _ _ _ h=>by rw[fF]at h;cases h) (λfP=>by
   refine⟨#[], ?_,by simp[bX],by simp,by simp,by simp,.inl ?_⟩
   ·simp only[Loc.iX,km];exact heap_alloc_new w _
   ·simp only[Loc.iX,km];exact yI hO.fr.kl hO.fr.size)
 refine⟨_,.map (some w.heap.size),_,_, ?_,.inl rfl,h.1,h.2, ?_⟩
 ·simp[execOp,ho,Instr.makeMap]
 ·simp only[aC];exact⟨⟨cL,agg,0,[],by simp[cV]⟩,by simp[Loc.iX]⟩
def Jh(hO:cO base W M w0 ab w L)(fF:ab name=none){x:Operand}{t:TypeId}(ho:o.op=.range t x)(ht:P.underlying t=some (.map kt et))(h:aC w W ab L d (a.eval x))(aO:(mm name ab d).ok):
  cW P base W M w0 ab L w a o (mm name ab d):=by
 unfold mm at aO⊢;split at aO
 ·rename_i r;cases hc:ab r with
  |none=>simp[hc,dm]at aO
  |some ob=>
   cases ob with
   |map cL agg c es=>
    simp only[aC]at h;obtain⟨Oo,hx⟩:=h;obtain⟨bJ,hh,rP,_⟩:=hO.ob r _ hc;have hg:=g9 (P:=P) hh trivial;have cj:r≠name:=λe=>by rw[e,fF]at hc;cases hc
    have hb:=mo (w:=w) (.mapIter (some (L.kx r)) c #[] c);have h:=cO.put hO (r:=name) (L':=L.iX name w.heap.size) (o':=.cX r c [] c) (zW hO.fr hb) hb.size (λx hx=>⟨by simp[Loc.iX,hx],rfl⟩) rfl (λb eG _=>hb.block b eG) (λb h=>.inr (by
      simp only[Loc.own,Loc.iX,km,cI]at h;omega))
     (λo' h _=>by rw[fF]at h;cases h) (λ_ _ _ _ h=>by rw[fF]at h;cases h) (λfP=>by
      refine⟨?_,⟨cL,agg,c,es,by simp[cV,cj,hc]⟩,.inl ?_⟩
      ·simp only[Loc.iX,km,cj,xd];exact heap_alloc_new w _
      ·simp only[Loc.iX,km];exact yI hO.fr.kl hO.fr.size)
    simp only[];refine⟨_,.pointer (some ⟨w.heap.size,0,none⟩),_,_, ?_,.inl rfl,h.1,h.2, ?_⟩
    ·simp[execOp,ho,Instr.range,hx,run_underlying ht,hg]
    ·simp only[aC];exact⟨⟨r,c,[],c,by simp[cV]⟩,by simp[Loc.iX]⟩
   |_=>simp[hc,dm]at aO
 ·exact aO.elim
def FC{b:Nat}:∀{es:List (Nat×T×DV)} {xs:List MapEntry},bX w W ab L es xs->∀{e:Nat×T×DV},(es.find? λe=>e.1==b)=some e->∃x,(xs.find? λx=>x.born==b)=some x/\bw w (WW W ab L) e.2.1 x.key/\aC w W ab L e.2.2 x.val
 |[],_,_,e,h=>by simp at h
 |e0::es,xs,hr,e,h=>by
  simp only[bX]at hr;obtain⟨x,mL,rfl,h1,h2,h3,h4⟩:=hr;simp only[K9,h1]at h⊢;by_cases hb:(e0.1==b)=true
  ·simp only[hb]at h⊢;cases h;exact⟨x,rfl,h2,h3⟩
  ·simp only[hb]at h⊢;exact FC h4 h
def Jo(hO:cO base W M w0 ab w L){x:Operand}(ho:o.op=.entry x)(h:aC w W ab L d (a.eval x))(aO:(mn ab d).ok):
  cW P base W M w0 ab L w a o (mn ab d):=by
 unfold mn at aO⊢;split at aO
 ·rename_i r;cases hc:ab r with
  |none=>simp[hc,dm]at aO
  |some ob=>
   cases ob with
   |cX m s sn l=>
    simp only[hc]at aO⊢;cases hm:ab m with
    |none=>simp[hm,dm]at aO
    |some om=>
     cases om with
     |map cL agg c es=>
      simp only[hm]at aO⊢;cases hl:sn.getLast? with
      |none=>simp[hl,dm]at aO
      |some b=>
       simp only[hl]at aO⊢;cases hf:es.find? (λe=>e.1==b)with
       |none=>simp[hf,dm]at aO
       |some e=>
        simp only[hf]at aO⊢;subst aO;simp only[aC]at h;obtain⟨_,hx⟩:=h;obtain⟨hh,_,_⟩:=hO.ob r _ hc;obtain⟨bJ,hh2,rP,_⟩:=hO.ob m _ hm;have hg:=g9 (P:=P) hh trivial;have hg2:=g9 (P:=P) hh2 trivial;obtain⟨xe,Bv,k1,k2⟩:=FC rP hf;have am5:sn.toArray.back? =some b:=by rw[List.back?_toArray];exact hl
        have TP:bJ.find? (λx=>x.born==b)=some xe:=by rw[<-Array.find?_toList];exact Bv
        refine cW.mW hO rfl (v:=.tuple #[xe.key,xe.val]) ?_ ?_
        ·simp[execOp,ho,Instr.entry,hx,hg,am5,hg2,TP]
        ·simp only[aC];exact⟨_,rfl,by simp only[fj];exact⟨_,_,rfl,by simpa [aC]using k1,_,_,rfl,k2,rfl⟩⟩
     |_=>simp[hm,dm]at aO
   |_=>simp[hc,dm]at aO
 ·exact aO.elim
def Ji(hO:cO base W M w0 ab w L){t:TypeId}{x i:Operand}(ho:o.op=.index t x i)(ht:P.underlying t=some .string)(h1:aC w W ab L d1 (a.eval x))(h2:aC w W ab L d2 (a.eval i))(aO:(pY d1 d2).ok):
  cW P base W M w0 ab L w a o (pY d1 d2):=by
 unfold pY at aO⊢;split at aO
 ·rename_i s k j;simp only[aC,bw]at h1 h2;obtain⟨h0,eG⟩:=aO;have hj:j.toNat<s.size:=by omega
  have hj':j.toNat<s.data.size:=hj;have nZ:s[j.toNat]? =some (s.data.getD j.toNat 0):=by
   rw[getElem?_pos s j.toNat hj];simp[Array.getD,ByteArray.getElem_eq_getElem_data];intro h;omega
  refine cW.int hO rfl rfl ?_;simp[execOp,ho,Instr.index,h1,h2,asIntOf,run_underlying ht,h0,nZ]
 ·exact aO.elim
def JK(Ov:op=if neg then .neq else .eql){t:TypeId}{x y:Operand}(ho:o.op=.binOp op t x y yt){r:Bool}(cj:∀k n,a.eval x≠ .int k n)(hni:a.eval x≠ .nilIface)(hna:∀cs,a.eval x≠ .agg cs)(hnf:∀k b,a.eval x≠ .float k b)(I9:∀k b c,a.eval x≠ .complex k b c)(hns:∀s,a.eval x≠ .string s)
  (he:(Op.equal t (a.eval x) (a.eval y)).run P w=.ok r w) (hg:(eqGuard op t x y (a.eval x) (a.eval y)).run P w=.ok () w):(execOp a.eval o).run P w=.ok (.value (.bool (neg^^r))) w:=by
 have hb:(binOp op t (a.eval x) (a.eval y)).run P w=.ok (.bool (neg^^r)) w:=by
  generalize a.eval x=xv at*
  subst Ov;cases neg<;>cases xv<;>first|exact eK rfl (cj _ _)|exact eK rfl hni|exact eK rfl (hna _)|exact eK rfl (hnf _ _)|exact eK rfl (I9 _ _ _)|exact eK rfl (hns _)|simp[binOp,he]
 simp[execOp,ho,hg,hb]
def L8{d:TypeDesc}{y:Operand}{k:Nat}(hy:cg.of y=some y')(h:zZ d y'=some k):
  (k=0/\(∃e,d=.slice e)/\a.eval y=.slice none 0 0)\/(k=1/\(∃e,d=.pointer e)/\a.eval y=.pointer none)\/(k=2/\(∃p r v,d=.func p r v)/\a.eval y=.nilFunc):=by
 unfold zZ at h;have key:∀{z:DV},cg.of y=some (.yF z)->∃v,a.eval y=v/\(mV v=some z\/(∃f,z=.v (.fn f []))\/∃c,z=.kP c 0):=by
  intro z hz;cases y with
  |tmp t=>simp[cg.of]at hz
  |const v=>simp only[cg.of,jr,cg.yF.injEq]at hz;obtain⟨d,hd,rfl⟩:=hz;exact⟨v,rfl,.inl hd⟩
  |func f=>simp only[cg.of,cI,cg.yF.injEq]at hz;subst hz;exact⟨_,rfl,.inr (.inl ⟨_,rfl⟩)⟩
  |global g=>
   simp only[cg.of,jr,cg.yF.injEq]at hz;obtain⟨p,_,rfl⟩:=hz;exact⟨_,rfl,.inr (.inr ⟨_,rfl⟩)⟩
 split at h
 ·obtain⟨v,hv,hc|⟨f,hf⟩|⟨f,hf⟩⟩:=key hy
  ·unfold mV at hc;split at hc<;>simp at hc
   exact .inl ⟨by simpa using h.symm,⟨_,rfl⟩,hv⟩
  ·cases hf
  ·cases hf
 ·obtain⟨v,hv,hc|⟨f,hf⟩|⟨f,hf⟩⟩:=key hy
  ·unfold mV at hc;split at hc<;>simp at hc
   exact .inr (.inl ⟨by simpa using h.symm,⟨_,rfl⟩,hv⟩)
  ·cases hf
  ·cases hf
 ·obtain⟨v,hv,hc|⟨f,hf⟩|⟨f,hf⟩⟩:=key hy
  ·unfold mV at hc;split at hc<;>simp at hc
   exact .inr (.inr ⟨by simpa using h.symm,⟨_,_,_,rfl⟩,hv⟩)
  ·cases hf
  ·cases hf
 ·cases h
def yT(d:Nat)(hd:d=9999)(t:TypeId)(x y:Value):(Op.equal t x y)=Op.equalIn (d+1) t x y:=by subst hd;rfl
def BZ(t e:TypeId)(p:Option Addr)(n c:Nat)(h:P.underlying t=some (.slice e)):(Op.equal t (.slice p n c) (.slice none 0 0)).run P w=.ok p.isNone w:=by
 obtain⟨d,hd⟩:∃d,d=9999:=⟨_,rfl⟩;rw[yT d hd,Op.equalIn];cases p<;>simp[run_underlying h]
def FD(t e:TypeId)(p:Option Addr)(h:P.underlying t=some (.pointer e)):(Op.equal t (.pointer p) (.pointer none)).run P w=.ok p.isNone w:=by
 obtain⟨d,hd⟩:∃d,d=9999:=⟨_,rfl⟩;rw[yT d hd,Op.equalIn];cases p<;>simp[run_underlying h]
def Hb(t:TypeId){q1 q2 q3}(v:Value)(r:Bool)(h:P.underlying t=some (.func q1 q2 q3))(hv:(v=.nilFunc/\r=true)\/(∃f b c,v=.func f b c)/\r=false):(Op.equal t v .nilFunc).run P w=.ok r w:=by
 obtain⟨d,hd⟩:∃d,d=9999:=⟨_,rfl⟩;rw[yT d hd,Op.equalIn];rcases hv with⟨rfl,rfl⟩|⟨⟨f,b,c,rfl⟩,rfl⟩<;>simp[run_underlying h]
def CU(hO:cO base W M w0 ab w L)(Ov:op=if neg then .neq else .eql){t:TypeId}{x y:Operand}(ho:o.op=.binOp op t x y yt){d:TypeDesc}(hd:P.underlying t=some d)(hy:cg.of y=some y'){k:Nat}(hk:zZ d y'=some k)
   (h1:aC w W ab L d1 (a.eval x)) (aO:(gZ k neg ab d1).ok):cW P base W M w0 ab L w a o (gZ k neg ab d1):=by
 have hv:=L8 (a:=a) hy hk;have bU:∀{r:Bool},gZ k neg ab d1=⟨(gZ k neg ab d1).ok,.v (.bool (neg^^r)),none⟩->(execOp a.eval o).run P w=.ok (.value (.bool (neg^^r))) w->cW P base W M w0 ab L w a o (gZ k neg ab d1):=by
  intro r e h;rw[e];exact cW.bool hO rfl rfl h
 have sl:∀{p:Option Addr} {n c:Nat},k=0->a.eval x=.slice p n c->(execOp a.eval o).run P w=.ok (.value (.bool (neg^^p.isNone))) w:=by
  intro p n c h0 hx;rcases hv with⟨_,⟨e,rfl⟩,Ow⟩|⟨h,_⟩|⟨h,_⟩
  ·refine JK Ov ho (by simp[hx]) (by simp[hx]) (by simp[hx]) (by simp[hx]) (by simp[hx]) (by simp[hx]) (by rw[hx,Ow];exact BZ t e p n c hd) ?_;rw[hx,Ow,Ov];cases neg<;>simp[eqGuard]
  ·omega
  ·omega
 have pt:∀{p:Option Addr},k=1->a.eval x=.pointer p->(execOp a.eval o).run P w=.ok (.value (.bool (neg^^p.isNone))) w:=by
  intro p h0 hx;rcases hv with⟨h,_⟩|⟨_,⟨e,rfl⟩,Ow⟩|⟨h,_⟩
  ·omega
  ·refine JK Ov ho (by simp[hx]) (by simp[hx]) (by simp[hx]) (by simp[hx]) (by simp[hx]) (by simp[hx]) (by rw[hx,Ow];exact FD t e p hd) ?_;rw[hx,Ow,Ov];cases neg<;>simp[eqGuard]
  ·omega
 have fn:∀{v:Value} {r:Bool},k=2->a.eval x=v->(v=.nilFunc/\r=true)\/(∃f b c,v=.func f b c)/\r=false->(execOp a.eval o).run P w=.ok (.value (.bool (neg^^r))) w:=by
  intro v r h0 hx DX;rcases hv with⟨h,_⟩|⟨h,_⟩|⟨_,⟨q1,q2,q3,rfl⟩,Ow⟩
  ·omega
  ·omega
  ·have he:=Hb (w:=w) t v r hd DX;subst hx;refine JK Ov ho ?_ ?_ ?_ ?_ ?_ ?_ (by rw[Ow];exact he) ?_;all_goals rcases DX with⟨hx,rfl⟩|⟨⟨f,b,c,hx⟩,rfl⟩<;>first|(simp[hx];done)|(rw[hx,Ow,Ov];cases neg<;>simp[eqGuard])
 cases d1 with
 |v t'=>
  cases t' with
  |sl aw=>
   simp only[gZ]at aO;obtain⟨h0,cj⟩:=aO;simp only[aC,bw]at h1;rcases h1 with⟨rfl,_⟩|⟨b,oo,c,sz,hx,_⟩
   ·exact eK rfl cj
   ·exact bU (r:=false) rfl (sl h0 hx)
  |fn f cA=>
   cases f with
   |func f=>simp only[aC,bw]at h1;obtain⟨vs,hx,_⟩:=h1;exact bU (r:=false) rfl (fn aO hx (.inr ⟨⟨_,_,_,rfl⟩,rfl⟩))
   |_=>exact aO.elim
  |box cs=>simp only[aC,bw]at h1;obtain⟨b,oo,hx,_⟩:=h1;exact bU (r:=false) rfl (pt aO hx)
  |w6 v=>
   simp only[aC,bw]at h1;cases v with
   |slice p n c=>exact bU (r:=p.isNone) rfl (sl aO h1)
   |pointer p=>exact bU (r:=p.isNone) rfl (pt aO h1)
   |nilFunc=>exact bU (r:=true) rfl (fn aO h1 (.inl ⟨rfl,rfl⟩))
   |_=>exact aO.elim
  |_=>exact aO.elim
 |ptr r off=>simp only[aC]at h1;exact bU (r:=false) rfl (pt aO h1.2)
 |kP cs off=>simp only[aC]at h1;obtain⟨b,oo,hx,_⟩:=h1;exact bU (r:=false) rfl (pt aO hx)
 |nz aw i off=>simp only[aC]at h1;obtain⟨b,oo,sz,hx,_⟩:=h1;exact bU (r:=false) rfl (pt aO hx)
 |ln r bP i off=>simp only[aC]at h1;obtain⟨⟨b,oo,hx⟩,_⟩:=h1;exact bU (r:=false) rfl (pt aO hx)
 |pf f cA=>
  cases f with
  |func f=>simp only[aC]at h1;obtain⟨vs,hx,_⟩:=h1;exact bU (r:=false) rfl (fn aO hx (.inr ⟨⟨_,_,_,rfl⟩,rfl⟩))
  |_=>exact aO.elim
 |bE r bP=>
  cases hc:ab r with
  |none=>simp[gZ,hc,dm]at aO
  |some ob=>
   cases ob with
   |bJ cJ e' jI aw=>
    have e1:gZ k neg ab (.bE r bP)=⟨k=0/\bP=cJ/\aw≠[],.v (.bool (neg^^false)),none⟩:=by simp only[gZ,hc]
    rw[e1]at aO;obtain⟨h0,rfl,cj⟩:=aO;simp only[aC]at h1;obtain⟨_,sM,e2,Ht,mU,pg,_,mM⟩:=h1;rw[hc]at pg;cases pg;have hx:=mM rfl;obtain⟨_,_,_,mN⟩:=hO.ob r _ hc;rcases mN with⟨rfl,_⟩|⟨g,cap,eV,k1,_⟩
    ·exact eK rfl cj
    ·exact bU (r:=false) (by rw[e1]) (sl h0 (hx.trans k1))
   |_=>simp[gZ,hc,dm]at aO
 |_=>exact aO.elim
def Pc(hO:cO base W M w0 ab w L){r m s l c:Nat}{sn:cY}(hr:ab r=some (.cX m s sn l))(hm:ab m=some (.map cL agg c es))(eG:∀e∈es,e.1<s)(hl:s<=l)(ty:TypeId):
  ((∀e∈es,e.1∈sn)/\(Instr.next (.pointer (some ⟨L.kx r,0,none⟩)) false ty).run P w=.ok (.tuple #[.bool false]) w)\/
  ∃e∈es,e.1∉sn/\∃k v w',(Instr.next (.pointer (some ⟨L.kx r,0,none⟩)) false ty).run P w=.ok (.tuple #[.bool true,k,v]) w'/\
   cO base W M w0 (cV ab (some (r,.cX m s (sn++[e.1]) c))) w' L/\iH W ab L w (cV ab (some (r,.cX m s (sn++[e.1]) c))) L w':=by
 obtain⟨hh,_,BE⟩:=hO.ob r _ hr;obtain⟨bJ,hh2,rP,_⟩:=hO.ob m _ hm;have hg:=g9 (P:=P) hh trivial;have hg2:=g9 (P:=P) hh2 trivial;have agu:∀x∈bJ.toList,x.born<s:=by
  intro x hx;obtain⟨i,hi⟩:=Zcd hx;have B0:i<es.length:=by rw[<-bX.length rP];exact(DA.1 hi).1
  obtain⟨x',nK,hb,_⟩:=bX.get rP (xi B0);rw[hi]at nK;cases nK;rw[hb];exact eG _ (Pt B0)
 have am6:(!(sn.toArray).isEmpty&& !bJ.isEmpty&&bJ.all (λx=>decide (x.born>=l)))=false:=by
  cases he:bJ.isEmpty with
  |true=>simp
  |false=>
   have eI:bJ.all (λx=>decide (x.born>=l))=false:=by
    rw[Bool.eq_false_iff];intro h;rw[Array.all_eq_true_iff_forall_mem]at h;have h0:0<bJ.size:=by
     rcases Zdj bJ.size with h0|h0
     ·simp[Array.isEmpty,h0]at he
     ·exact h0
    have h1:=h _ (Array.getElem_mem h0);have h2:=agu bJ[0] (by simp);simp at h1;omega
   simp[eI]
 have AD:∀x,x∈bJ.filter (λe=> !sn.toArray.contains e.born)↔x∈bJ.toList/\x.born∉sn:=by
  intro x;simp
 have lP:∀x∈(bJ.filter (λe=> !sn.toArray.contains e.born)),x.born<s:=λx hx=>agu x ((AD x).1 hx).1;simp only[Instr.next,Sem.run_bind,hg,hg2,Result.andThen_ok,am6,Ou,xd];generalize hL:bJ.filter (λe=> !sn.toArray.contains e.born)=A at AD lP⊢;have e1:A.filter (λx=>decide (x.born<s))=A:=Array.filter_eq_self.2 (λx hx=>by simpa using lP x hx);have e2:A.filter (λx=>decide (x.born>=s))= #[]:=by
  rw[Array.filter_eq_empty_iff];intro x hx;have:=lP x hx;simp;omega
 simp only[e1,e2,ZbW];by_cases h0:A.size=0
 ·left;have:A= #[]:=Array.eq_empty_of_size_eq_zero h0;subst this;refine⟨λe he=>?_, ?_⟩
  ·obtain⟨i,hi⟩:=Zcd he;obtain⟨x,hx,hb,_⟩:=bX.get rP hi;by_cases h:e.1∈sn
   ·exact h
   ·have:=(AD x).2 ⟨zK hx,by rw[hb];exact h⟩;simp at this
  ·simp[choose,Sem.run,Question.forced]
 ·right;have cj:A.isEmpty=false:=by simp[Array.isEmpty,h0]
  simp only[cj,Ou,xd,Array.empty_append,Array.size_map];have FE:∃(j:Nat) (w1:World),j<A.size/\(w1=w\/w1=w.drew)/\(choose (Question.mapNext A.size)).run P w=.ok j w1:=by
   by_cases hf:A.size<=1
   ·exact⟨0,w,by omega,.inl rfl,by simp[choose,Sem.run,Question.forced,hf]⟩
   ·exact⟨_,w.drew,Nat.mod_lt _ (by omega),.inr rfl,by
     simp only[choose,Sem.run,Question.forced,sa,hf,xd,Question.cut];rfl⟩
  obtain⟨j,w1,hj,VI,cw⟩:=FE;have te:=(AD A[j]).1 (Array.getElem_mem hj);obtain⟨i,hi⟩:=Zcd te.1;have B0:i<es.length:=by rw[<-bX.length rP];exact(DA.1 hi).1
  obtain⟨x',nK,hb,_⟩:=bX.get rP (xi B0);rw[hi]at nK;cases nK;have hhe:w1.heap=w.heap:=by rcases VI with rfl|rfl<;>rfl
  have hh1:w1.heap[L.kx r]? =some (.mapIter (some (L.kx m)) s sn.toArray l):=by rw[hhe];exact hh
  have awm:Fr base M w0 w1:=by
   rcases VI with rfl|rfl
   ·exact hO.fr
   ·exact⟨hO.fr.os,hO.fr.tape,hO.fr.output,hO.fr.kl,hO.fr.size,hO.fr.block,Nat.le_succ_of_le hO.fr.drawn⟩
  refine⟨es[i],Pt B0,by rw[<-hb];exact te.2,A[j].key,A[j].val,w1.iN (L.kx r) (.mapIter (some (L.kx m)) s (sn.toArray.push A[j].born) c), ?_, ?_⟩
  ·simp only[cw,Array.getElem?_map,ZbR hj,OA,Sem.run_bind,qP (P:=P) hh1 trivial,Result.andThen_ok,Sem.run_pure]
  ·rw[hb];refine cO.put hO (HO _ awm BE) (by rw[wA,hhe];exact eF _) (λ_ _=>⟨rfl,rfl⟩) rfl (λb _ hb=>(uF (λx=>hb _ hr (by simp[Loc.own,x]))).trans (by rw[hhe]))
    (λb hb=>.inl ⟨_,hr,hb⟩) (λo' jA _=>by rw[hr]at jA;cases jA;exact⟨rfl,rfl⟩) (λbP e sz aw h=>by rw[hr]at h;cases h) (λfP=>?_)
   refine⟨?_, ?_,BE⟩
   ·rw[Dc hh1];simp
   ·have cj:m≠r:=λe=>by rw[e,hr]at hm;cases hm
    exact⟨cL,agg,c,es,by simp[cV,cj,hm]⟩
end
end
section
variable{neg:Bool}{cL:List Sh}{desc:TypeDesc}{sz OY:Nat}{zero:aK}
variable [bK]
section
variable{P:Program}{base:Nat}{W M:f9}{w0:World}{ab:bF}{L:Loc}{w:World}{a:Act}{o:Oper}{Γ:pW}{name:Nat}{ρ:dG}{d:tZ}
def z8{gQ:Bool}(W':f9)(hO:cO base W M w0 ab w L)(hW:gQ=true->∀r o b,ab r=some o->L.own r o=some b->¬W' b)(TM:∀b,W' b->WW W ab L b):
  (∀(d:DV) (x:Value),aC w W ab L d x->GX gQ ab d->bw w W' (vu ab d) x)/\(∀(ds:bM) (xs:List Value),aX w W ab L ds xs->vv gQ ab ds->bu w W' (ka ab ds) xs):=by
 have hk:dJ (WW W ab L) w w:=dJ.refl _ _;have one:∀(n:Nat),(∀(d:DV) (x:Value),SizeOf.sizeOf d<n->aC w W ab L d x->GX gQ ab d->bw w W' (vu ab d) x)/\(∀(ds:bM) (xs:List Value),SizeOf.sizeOf ds<n->aX w W ab L ds xs->vv gQ ab ds->bu w W' (ka ab ds) xs):=by
  intro n;induction n with
  |zero=>exact⟨λ_ _ h=>by omega,λ_ _ h=>by omega⟩
  |succ n ih=>
   refine⟨λd x hn h aO=>?_,λds xs hn h aO=>?_⟩
   ·cases d with
    |v t=>simp only[aC]at h;simp only[vu];exact bw.bi hk.toKeepsC (λb _ hb=>TM b hb) t x h
    |bH=>
     simp only[aC]at h;obtain⟨p,rfl⟩:=h;simp only[vu,bw];exact .inl ⟨trivial,p,0,rfl⟩
    |bE r bP=>
     simp only[GX]at aO;obtain⟨hl,aO⟩:=aO;simp only[aC]at h;obtain⟨_,cJ,e,sz,aw,hc,_,hv⟩:=h;simp only[hc]at aO;have hv:=hv aO;subst hv;simp only[vu,hc,bw];have iy:=hO.ob r _ hc;obtain⟨jJ,ew,hm,mN⟩:=iy;rcases mN with⟨rfl,p,hp⟩|⟨g',cap,eV,vm,hp,hh,kw,um,I0,iJ⟩
     ·exact .inl ⟨rfl,p,0,hp⟩
     ·have zX:bm (L.sl r)=some g':=by simp[vm,bm,GY.1 hp]
      refine .inr ⟨g',0,cap,sz,vm,(w7.1 hh).1,hW hl r _ g' hc (by simpa [Loc.own]using zX),kw, ?_⟩;have xR:=rK.aw (hO.ob r _ hc) (g:=g') (by simp[vm,bm,GY.1 hp]);by_cases hg:g'<w.heap.size
      ·obtain⟨vs,zI,DX,Wc⟩:=bL.flatten xR;exact bL.kA (bu.bi hk.toKeepsC (λb _ hb=>TM b hb) _ _ DX) ew Wc
      ·exact eK (w7.1 hh).1 hg
    |agg cs=>
     simp only[aC]at h;obtain⟨vs,rfl,hr⟩:=h;simp only[vu,bw];simp only[GX]at aO;exact⟨vs,rfl,ih.2 cs _ (by simp at hn⊢;omega) hr aO⟩
    |pf f cs=>
     simp only[aC]at h;obtain⟨vs,rfl,hr⟩:=h;simp only[vu,bw];simp only[GX]at aO;exact⟨vs,rfl,ih.2 cs _ (by simp at hn⊢;omega) hr aO⟩
    |w8 r bP lo m=>
     simp only[GX]at aO;obtain⟨hl,aO⟩:=aO;simp only[aC]at h;obtain⟨_,cJ,e,sz,aw,hc,_,hv⟩:=h;simp only[hc]at aO;have hv:=hv aO.1;simp only[vu,hc,bw];have IQ:((aw.drop lo).take m).length=m:=by rw[xj,VF];omega
     rcases wb hO hc hv with⟨rfl,a,c,rfl⟩|⟨g,c,zX,rfl,I9,hr⟩
     ·exact .inl ⟨by simp,a,c,rfl⟩
     ·refine .inr ⟨g,lo*sz,c,sz,by rw[IQ],(hO.ob r _ hc).lt (by simpa [Loc.own]using zX),hW hl r _ g hc (by simpa [Loc.own]using zX),by omega, ?_⟩;obtain⟨vs,zI,DX,Wc⟩:=bL.flatten hr;exact bL.kA (bu.bi hk.toKeepsC (λb _ hb=>TM b hb) _ _ DX) (λx hx=>(hO.ob r _ hc).2.1 x (Zb1 (DB hx))) Wc
    |_=>exact aO.elim
   ·cases ds with
    |nil=>simpa [aX,bu,ka]using h
    |cons d ds=>
     simp only[aX]at h;obtain⟨x,mL,rfl,h1,h2,hr⟩:=h;simp only[vv]at aO;simp only[ka,bu];exact⟨x,mL,rfl,h1,ih.1 d x (by simp at hn⊢;omega) h2 aO.1,ih.2 ds mL (by simp at hn⊢;omega) hr aO.2⟩
 exact⟨λd x=>(one (SizeOf.sizeOf d+1)).1 d x (by omega),λds xs=>(one (SizeOf.sizeOf ds+1)).2 ds xs (by omega)⟩
def OZ{agg:Bool}{t u:T}(h:¬((∃as,t=.agg as)/\∃bs,u=.agg bs)):EG neg agg cL t u=⟨agg=false/\fq cL [t]/\fq cL [u],.v (.bool (neg^^iG t u)),none⟩:=by
 cases t<;>first|rfl|(cases u<;>first|rfl|exact eK ⟨⟨_,rfl⟩,⟨_,rfl⟩⟩ h)
def Rm{n:Nat}{t:TypeId}{s:Sh}(hs:mG P (n+1) t=some [s])(hd:P.underlying t=some desc)(ha:cE desc=false):(s=.bool/\desc=.bool)\/(s=.str/\desc=.string)\/∃k,s=.int k/\desc=.int k:=by
 simp only[mG,hd]at hs;cases desc;case bool=>simp at hs;exact .inl ⟨hs.symm,rfl⟩
 case int k=>simp at hs;exact .inr (.inr ⟨k,hs.symm,rfl⟩)
 case string=>simp at hs;exact .inr (.inl ⟨hs.symm,rfl⟩)
 case struct=>exact eK ha (by simp[cE])
 case array=>exact eK ha (by simp[cE])
 all_goals exact eK hs (by simp)
def Lv{op:BinOp}{t:TypeId}{x y:Operand}{yt:TypeId}(Ov:op=if neg then .neq else .eql)(ho:o.op=.binOp op t x y yt)(hd:P.underlying t=some desc)(Rn:∀k,desc≠ .int k)(hs:mG P 10000 t=some cL)(hg:P.eqGuardType P.depth t=false)
  (hO:cO base W M w0 ab w L) {d1 d2:DV} (h1:aC w W ab L d1 (a.eval x)) (h2:aC w W ab L d2 (a.eval y)) (k1:GX true ab d1) (k2:GX true ab d2) (aO:(EG neg (cE desc) cL (vu ab d1) (vu ab d2)).ok):
  cW P base W M w0 ab L w a o ⟨True,(EG neg (cE desc) cL (vu ab d1) (vu ab d2)).val,none⟩:=by
 have r1:=(z8 (gQ:=true) (λ_=>False) hO (λ_ _ _ _ _ _ h=>h) (λ_ h=>h.elim)).1 d1 _ h1 k1;have r2:=(z8 (gQ:=true) (λ_=>False) hO (λ_ _ _ _ _ _ h=>h) (λ_ h=>h.elim)).1 d2 _ h2 k2;by_cases amz:(∃as,vu ab d1=.agg as)/\∃bs,vu ab d2=.agg bs
 ·obtain⟨⟨as,t1⟩,bs,t2⟩:=amz;simp only[t1,t2,EG]at aO⊢;obtain⟨ha,f1,f2⟩:=aO;rw[t1]at r1;rw[t2]at r2;simp only[bw]at r1 r2;obtain⟨xs,e1,g1⟩:=r1;obtain⟨ys,e2,g2⟩:=r2;have hq:(Op.equal t (.agg xs) (.agg ys)).run P w=.ok (vj as bs) w:=by
   have:=uq 10000 t cL desc hs hd xs.toList ys.toList w (j8 f1 g1) (j8 f2 g2);simp only[Bt,ha,km,ZcI]at this;rw[BG f1 f2 g1 g2];exact this
  have Wk:=run_eqGuard_agg w op t x y xs ys hg;refine cW.bool hO rfl rfl ?_;subst Ov;cases neg<;>simp only[km,xd,Ou]at ho Wk<;>simp[execOp,ho,e1,e2,Wk,binOp,hq]
 ·rw[OZ amz]at aO⊢;obtain⟨ha,f1,f2⟩:=aO;obtain⟨s,rfl,g1⟩:=pZ f1;obtain⟨s2,hs2,g2⟩:=pZ f2;obtain rfl:s=s2:=by simpa using hs2
  refine cW.bool hO rfl rfl ?_;rw[Lw g1 g2 r1 r2];subst Ov;cases s with
  |bool=>
   have hdb:P.underlying t=some .bool:=by
    rcases Rm (n:=9999) hs hd ha with⟨_,rfl⟩|⟨h,_⟩|⟨k,h,_⟩
    ·exact hd
    ·cases h
    ·cases h
   cases Ot:vu ab d1<;>rw[Ot]at g1 r1<;>first|exact eK g1 EQ|skip
   cases h2':vu ab d2<;>rw[h2']at g2 r2<;>first|exact eK g2 EQ|skip
   simp only[bw]at r1 r2;cases neg<;>simp[execOp,ho,r1,r2,eqGuard,run_eql_bool,run_neq_bool,hdb,veq]
  |str=>
   cases Ot:vu ab d1<;>rw[Ot]at g1 r1<;>first|exact eK g1 EQ|skip
   cases h2':vu ab d2<;>rw[h2']at g2 r2<;>first|exact eK g2 EQ|skip
   simp only[bw]at r1 r2;cases neg<;>simp[execOp,ho,r1,r2,eqGuard,binOp,Op.stringOp,veq]
  |int k=>
   rcases Rm (n:=9999) hs hd ha with⟨h,_⟩|⟨h,_⟩|⟨k',_,h⟩
   ·cases h
   ·cases h
   ·exact eK h (Rn k')
def CS{W':f9}{sz:Nat}:∀(n:Nat) (cs:aK) (vs:List Value) (b o:Nat),cs.length=n*sz->bu w W' cs vs->(∀j v,vs[j]? =some v->w.cell? ⟨b,o+j,none⟩=some v)->bL w W' sz b o (eX sz n cs)
 |0,_,_,_,_,_,_,_=>by simp[eX,bL]
 |n+1,cs,vs,b,o,hl,hr,hc=>by
  have jJ:sz<=cs.length:=by rw[hl,Dw];omega
  have zI:=bu.length hr;simp only[eX,bL];refine⟨by simp;omega, ?_, ?_⟩
  ·refine eQ.uk (bu.take sz hr) λj v hj=>hc j v ?_;rw[Hv]at hj;split at hj
   ·exact hj
   ·cases hj
  ·refine CS n _ (vs.drop sz) b (o+sz) (by rw[VF,hl,Dw];omega) (bu.drop sz hr) λj v hj=>?_;rw[ZbL]at hj;have:=hc (sz+j) v hj
   rwa [show o+sz+j=o+(sz+j)by omega]
def Aa(sz:Nat):∀(n:Nat) (cs:aK),(eX sz n cs).length=n
 |0,_=>rfl
 |n+1,cs=>by simp[eX,Aa sz n]
def Ab:∀(ps:List (Nat×Nat×DV)) (ds:bM),vY ds.length ps->(x8 ds ps).length=ds.length
 |[],ds,_=>rfl
 |(off,sz,d)::ps,ds,h=>by
  simp only[vY]at h;obtain⟨h1,h2,h3,h4⟩:=h;have hl:(cS ds off (cellsOf d)).length=ds.length:=iW (by omega);simp only[x8];rw[Ab ps _ (by rw[hl];exact h4),hl]
def CT(hg:GW w (WW W ab L))(ku:∀t,aC w W ab L (ρ t) (a.tmps.getD t Go.undef)):∀{xs:List Operand} {ys:List cg},xs.mapM cg.of=some ys->∀(i:Nat) (x:Operand) (y:cg),xs[i]? =some x->ys[i]? =some y->aC w W ab L (y.ev ρ) (a.eval x)
 |[],ys,h,i,x,y,hx,_=>by simp at hx
 |x::xs,ys,h,i,p,q,hp,hq=>by
  simp only[KS,mF,lp,kb,cI]at h;obtain⟨y,hy,ys',rL,rfl⟩:=h;cases i with
  |zero=>
   simp only[IS,cI]at hp hq;subst hp hq;exact cg.ch hg ku hy
  |succ i=>exact CT hg ku rL i p q (by simpa using hp) (by simpa using hq)
def wk:∀{xs:List Operand} {ys:List cg},xs.mapM cg.of=some ys->ys.length=xs.length
 |[],ys,h=>by simp at h;simp[h]
 |x::xs,ys,h=>by
  simp only[KS,mF,lp,kb,cI]at h;obtain⟨y,hy,ys',rL,rfl⟩:=h;simp[wk rL]
def EY(hg:GW w (WW W ab L))(ku:∀t,aC w W ab L (ρ t) (a.tmps.getD t Go.undef)){x:Option Operand}{y:Option cg}(h:ES x=some y):(y.map (·.ev ρ)=none/\x.map a.eval=none)\/∃dl vl,y.map (·.ev ρ)=some dl/\x.map a.eval=some vl/\aC w W ab L dl vl:=by
 cases x with
 |none=>simp only[ES,cI]at h;subst h;exact .inl ⟨rfl,rfl⟩
 |some x=>
  simp only[ES,jr]at h;obtain⟨z,hz,rfl⟩:=h;exact .inr ⟨_,_,rfl,rfl,cg.ch hg ku hz⟩
def Wl{d:DV}{v:Value}(hp:vX d)(h:aC w W ab L d v):v.oneCell'=true:=by
 cases d with
 |bH=>simp only[aC]at h;obtain⟨p,rfl⟩:=h;rfl
 |v t=>
  simp only[aC]at h;cases t with
  |agg ts=>exact eK hp EQ
  |eE ts=>exact eK hp EQ
  |w6 x=>simp only[bw]at h;subst h;exact hp
  |sl aw=>simp only[bw]at h;rcases h with⟨_,_,_,rfl⟩|⟨_,_,_,_,rfl,_⟩<;>rfl
  |fn f cA=>simp only[bw]at h;obtain⟨_,rfl,_⟩:=h;rfl
  |box cs=>simp only[bw]at h;obtain⟨_,_,rfl,_⟩:=h;rfl
  |bool b=>simp only[bw]at h;subst h;rfl
  |int k n=>simp only[bw]at h;subst h;rfl
  |str k=>simp only[bw]at h;subst h;rfl
 |_=>exact hp.elim
def Wm{d:DV}{v:Value}(hp:lH d)(h:aC w W ab L d v):v.oneCell'=true:=by
 cases d with
 |undef=>exact hp.elim
 |skip=>exact hp.elim
 |agg cs=>exact hp.elim
 |eE cs=>exact hp.elim
 |v t=>exact Wl (d:=.v t) hp h
 |bH=>simp only[aC]at h;obtain⟨p,rfl⟩:=h;rfl
 |ptr r off=>simp only[aC]at h;obtain⟨_,rfl⟩:=h;rfl
 |bE r bP=>simp only[aC]at h;obtain⟨⟨_,_,_,rfl⟩,_⟩:=h;rfl
 |nz aw i off=>simp only[aC]at h;obtain⟨_,_,_,rfl,_⟩:=h;rfl
 |kP cs off=>simp only[aC]at h;obtain⟨_,_,rfl,_⟩:=h;rfl
 |ln r bP i off=>simp only[aC]at h;obtain⟨⟨_,_,rfl⟩,_⟩:=h;rfl
 |OR=>simp only[aC]at h;subst h;rfl
 |jG r=>simp only[aC]at h;obtain⟨_,rfl⟩:=h;rfl
 |cX r=>simp only[aC]at h;obtain⟨_,rfl⟩:=h;rfl
 |w8 r bP lo n=>simp only[aC]at h;obtain⟨⟨_,_,rfl⟩,_⟩:=h;rfl
 |G2 r n=>simp only[aC]at h;obtain⟨_,rfl⟩:=h;rfl
 |pf f cs=>simp only[aC]at h;obtain⟨_,rfl,_⟩:=h;rfl
def HD(hg:GW w (WW W ab L))(ku:∀t,aC w W ab L (ρ t) (a.tmps.getD t Go.undef)):∀{xs:List Operand} {ys:List cg},xs.mapM cg.of=some ys->fM (ys.map (·.ev ρ))->aX w W ab L (ys.map (·.ev ρ)) (xs.map a.eval)
 |[],ys,h,_=>by simp at h;subst h;simp[aX]
 |x::xs,ys,h,hp=>by
  simp only[KS,mF,lp,kb,cI]at h;obtain⟨y,hy,ys',rL,rfl⟩:=h;simp only[rW,fM]at hp;simp only[rW,aX];have r:=cg.ch hg ku hy;exact⟨_,_,rfl,Wm hp.1 r,r,HD hg ku rL hp.2⟩
def BH:∀{ds:bM},zV ds=true->jZ ds
 |[],_=>trivial
 |d::ds,h=>by
  cases d with
  |v t=>simp only[zV,mX]at h;exact⟨h.1,BH h.2⟩
  |bH=>simp only[zV]at h;exact⟨trivial,BH h⟩
  |_=>simp[zV]at h
def Wn(hc:dS P o=some d)(pw:∀f args,d≠ .call f args)(ku:∀t,aC w W ab L (ρ t) (a.tmps.getD t Go.undef))(hO:cO base W M w0 ab w L)(fF:ab name=none)(aO:(dK Γ d name ρ ab).ok):
  cW P base W M w0 ab L w a o (dK Γ d name ρ ab):=by
 unfold dS at hc;cases ho:o.op<;>simp only[ho,reduceCtorEq]at hc
 case move x=>
  simp only[jr]at hc;obtain⟨y,hy,rfl⟩:=hc;exact cW.mW hO rfl (v:=a.eval x) (by simp[execOp,ho]) (cg.ch hO.gl ku hy)
 case assign x=>
  simp only[jr]at hc;obtain⟨y,hy,rfl⟩:=hc;exact cW.mW hO rfl (v:=a.eval x) (by simp[execOp,ho]) (cg.ch hO.gl ku hy)
 case pick c x y=>
  simp only[mF,lp,kb,cI]at hc;obtain⟨c',Lx,x',hx,y',hy,rfl⟩:=hc;have r:=cg.ch hO.gl ku Lx;unfold dK at aO⊢;simp only at aO⊢;split at aO
  ·rename_i t ht;rw[ht]at r;simp only[aC,bw]at r;refine cW.mW hO rfl (v:=if t then a.eval x else a.eval y) (by simp[execOp,ho,r,asBool]) ?_;cases t
   ·exact cg.ch hO.gl ku hy
   ·exact cg.ch hO.gl ku hx
  ·exact aO.elim
 case alloc e=>
  simp only[mF,lp,kb,cI]at hc;obtain⟨i,hi,z,hz,zs,Hx,rfl⟩:=hc;have h:=I1 hO fF e (jR Hx);refine⟨_,.pointer (some ⟨w.heap.size,0,none⟩),_,_, ?_,.inl rfl,h.1,h.2, ?_⟩
  ·simp[execOp,ho,Instr.alloc,zeroValue,typeInfo,hi,hz,newVar,newRow]
  ·simp only[dK,aC];exact⟨⟨zs,by simp[cV]⟩,by simp[Loc.iX]⟩
 case box e x=>
  simp only[jr]at hc;obtain⟨y,hy,rfl⟩:=hc;have h:=I1 hO fF e (aC.cells (cg.ch hO.gl ku hy) aO);refine⟨_,.pointer (some ⟨w.heap.size,0,none⟩),_,_, ?_,.inl rfl,h.1,h.2, ?_⟩
  ·simp[execOp,ho,Instr.box,newVar,newRow]
  ·simp only[dK,aC];exact⟨⟨cellsOf (y.ev ρ),by simp[cV]⟩,by simp[Loc.iX]⟩
 case build t parts=>
  simp only[mF,lp,kb,cI]at hc;obtain⟨i,hi,z,hz,zs,Hx,pl,Rl,ps,TN,rfl⟩:=hc;have hzr:=jR (w:=w) (W:=W) (ab:=ab) (L:=L) Hx;have Wg:=aX.length hzr;simp only[Rg]at Wg;simp only[dK]at aO⊢;obtain⟨cells,h1,h2,h3⟩:=ET hO.gl ku parts.toList ps TN z.cells zs hzr (by rw[Wg];exact aO);have hb:P.built t (parts.map λx=>(x.1,a.eval x.2)).toList=some cells:=by
   unfold Program.built;unfold ER at Rl;cases hu:P.underlying t with
   |none=>simp[hu]at Rl
   |some desc=>
    cases desc<;>simp only[hu,reduceCtorEq]at Rl
    case array n e=>
     simp only[jr]at Rl;obtain⟨ie,hie,rfl⟩:=Rl;simpa [hi,hz,hie]using h1
    case struct Wi=>
     simp only[jr]at Rl;obtain⟨pl',av7,rfl⟩:=Rl;simp only[hi,hz,av7,Array.toList_map];simpa using h1
  refine cW.mW hO rfl (v:=.agg cells) ?_ (by simp only[aC];exact⟨cells,rfl,h2⟩);have:=run_build w t (parts.map λx=>(x.1,a.eval x.2)) cells hb;simp[execOp,ho,this]
 case buildSlice t len parts=>
  split at hc
  ·rename_i e hu;simp only[mF,lp,kb]at hc;obtain⟨i,hi,hc⟩:=hc;split at hc
   ·cases hc
   ·rename_i jJ;simp only[kb,cI]at hc;obtain⟨z,hz,zs,Hx,ps,TN,rfl⟩:=hc
    replace Hx:(((Array.range (len*i.size)).map (z.cells[· % z.cells.size]!)).toList).mapM mV=some zs:=by simpa using Hx
    have hzr:=jR (w:=w) (W:=W) (ab:=ab) (L:=L) Hx;have Wg:=aX.length hzr;have dQ:¬len*i.size>2^24:=λh=>jJ (.inl h);have G4:i.size≠0:=λh=>jJ (.inr h);simp only[Rg,Array.size_map,Array.size_range]at Wg;simp only[dK]at aO⊢;by_cases h0:len=0
    ·subst h0;simp only[km]at aO⊢;subst aO;have hp0:parts.toList=[]:=by
      cases hp:parts.toList with
      |nil=>rfl
      |cons p ps'=>
       rw[hp]at TN;simp only[ur,KS,mF,lp,kb,cI,reduceCtorEq,xk,xl]at TN
     have hp1:parts= #[]:=by cases parts;simp_all
     have hr:=wj (P:=P) w hu hi hz 0 (by simp) (parts:= #[]) (cells:= #[]) (by simp[Instr.fill,Array.range_zero']);have hg:=cO.grow hO (mo (w:=w) (.cells #[] e));refine⟨_,.slice (some ⟨w.heap.size,0,none⟩) 0 0,_,L, ?_,.inl rfl,hg.1,hg.2,by simp only[aC];exact⟨_,rfl⟩⟩;simp[execOp,ho,hp1,hr]
    ·simp only[h0,xd]at aO⊢;obtain⟨hf,Wo⟩:=aO;obtain⟨cells,h1,h2,h3⟩:=ET hO.gl ku parts.toList ps TN _ zs hzr (by simpa using hf);have hr:=wj (P:=P) w hu hi hz len dQ (parts:=parts.map λx=>(x.1,a.eval x.2)) (cells:=cells) (by simpa using h1);have hg:=cO.grow hO (mo (w:=w) (.cells cells e));refine⟨_,.slice (some ⟨w.heap.size,0,none⟩) len len,_,L, ?_,.inl rfl,hg.1,hg.2, ?_⟩
     ·simp[execOp,ho,hr]
     ·have yb:=pL (Rf:=λ_=>none) Wo (aX.fP hg.2 _ _ h2);simp only[cV,aC,bw,Aa];refine .inr ⟨w.heap.size,0,len,i.size,rfl,by simp, ?_,eF _, ?_⟩
      ·rintro(hw|⟨r,ob,tg,yd⟩)
       ·have h1:=hO.under _ hw;have h2:=hO.fr.kl;have h3:=hO.fr.size;omega
       ·have:=(hO.ob r ob tg).lt yd;omega
      ·refine CS len _ cells.toList _ _ ?_ yb λj v hj=>?_
       ·rw[wa,Ab _ _ (by rw[<-Wg];exact hf),<-Wg]
       ·rw[KR,cell_of_row (w.alloc (.cells cells e)) w.heap.size j cells e (0,0) (heap_alloc_new w _)];simpa using hj
  ·cases hc
 case load t x=>
  split at hc
  ·rename_i desc i hd hi;simp only[jr]at hc;obtain⟨y,hy,rfl⟩:=hc;simp only[dK]at aO⊢;obtain⟨hp,v,cw,hv⟩:=yK hO hd hi (cg.ch hO.gl ku hy) aO;exact cW.mW hO hp (v:=v) (by simp[execOp,ho,cw]) hv
  ·cases hc
 case store t x y=>
  simp only[mF,lp,kb,cI]at hc;obtain⟨i,hi,x',hx,y',hy,rfl⟩:=hc;have rx:=cg.ch hO.gl ku hx;have ry:=cg.ch hO.gl ku hy;simp only[dK]at aO⊢;cases hd:x'.ev ρ with
  |ptr r off=>
   rw[hd]at rx;simp only[aC]at rx;obtain⟨⟨cs,pi⟩,Ro⟩:=rx;simp only[hd,mS,pi]at aO⊢;obtain⟨w',h1,h2,h3⟩:=TD hO hi pi ry aO.1 aO.2.1 aO.2.2;exact⟨.skip,Go.undef,w',L,by simp[execOp,ho,Ro,h1],.inr ⟨rfl,rfl⟩,h2,h3,by simp[aC]⟩
  |ln r bP j off=>
   rw[hd]at rx;simp only[aC]at rx;obtain⟨_,cJ,e,sz,aw,pi,_,yf⟩:=rx;simp only[hd,mS,pi]at aO⊢;obtain⟨rfl,hn,EL,Wo⟩:=aO;obtain⟨g,hg,Ro,h0,h1⟩:=yf rfl;obtain⟨w',h1,h2,h3⟩:=TF hO hi pi hg h0 h1 ry hn EL Wo;exact⟨.skip,Go.undef,w',L,by simp[execOp,ho,Ro,h1],.inr ⟨rfl,rfl⟩,h2,h3,by simp[aC]⟩
  |_=>rw[hd]at aO;exact aO.elim
 case nilCheck x=>
  simp only[jr]at hc;obtain⟨y,hy,rfl⟩:=hc;have rx:=cg.ch hO.gl ku hy;simp only[dK]at aO⊢;obtain⟨h1,h2,h3⟩:=EX rx aO;refine cW.mW hO h1 (v:=a.eval x) ?_ (by rw[h2];exact rx);rcases h3 with⟨p,hp⟩|⟨f,cA,hp⟩
  ·simp only[execOp,ho,hp];simp
  ·simp only[execOp,ho,hp];simp
 case binOp op t x y yt=>
  simp only[lp,kb]at hc;obtain⟨x',hx,y',hy,hc⟩:=hc;have rx:=cg.ch hO.gl ku hx;have ry:=cg.ch hO.gl ku hy;unfold nV at hc;split at hc
  ·split at hc;all_goals first
    |(simp only[cI]at hc;subst hc;exact TJ hO ho rx ry aO)
    |cases hc
  ·rename_i desc Rn hd;split at hc
   ·rename_i cL hs;split at hc
    ·cases hc
    ·rename_i hg;simp only[cI]at hc;subst hc;simp only[dK]at aO⊢;obtain⟨k1,k2,aO⟩:=aO;exact Lv (neg:=false) rfl ho hd (λk hk=>Rn k hk) hs (by simpa using hg) hO rx ry k1 k2 aO
   ·rename_i cL hs;split at hc
    ·cases hc
    ·rename_i hg;simp only[cI]at hc;subst hc;simp only[dK]at aO⊢;obtain⟨k1,k2,aO⟩:=aO;exact Lv (neg:=true) rfl ho hd (λk hk=>Rn k hk) hs (by simpa using hg) hO rx ry k1 k2 aO
   ·simp only[jr]at hc;obtain⟨k,hk,rfl⟩:=hc;exact CU (neg:=false) hO rfl ho hd hy hk rx aO
   ·simp only[jr]at hc;obtain⟨k,hk,rfl⟩:=hc;exact CU (neg:=true) hO rfl ho hd hy hk rx aO
   ·cases hc
  ·cases hc
 case makeMap t av8=>
  cases av8 with
  |some h=>cases hc
  |none=>
   simp only at hc;split at hc
   ·simp only[jr]at hc;obtain⟨ki,_,rfl⟩:=hc;exact Ly hO fF ho _ _
   ·cases hc
 case lookup t x k ok=>
  split at hc
  ·rename_i kt et ht;split at hc
   ·rename_i ki z Jd hz;simp only[mF,lp,kb,cI]at hc;obtain⟨x',hx,k',hk,rfl⟩:=hc;exact Je hO ho ht Jd hz (cg.ch hO.gl ku hx) (cg.ch hO.gl ku hk) aO
   ·cases hc
  ·cases hc
 case mapUpdate t x k y=>
  split at hc
  ·rename_i kt et ht;split at hc
   ·rename_i ki Jd;simp only[mF,lp,kb,cI]at hc;obtain⟨x',hx,k',hk,y',hy,rfl⟩:=hc;exact Jf hO ho ht Jd (cg.ch hO.gl ku hx) (cg.ch hO.gl ku hk) (cg.ch hO.gl ku hy) aO
   ·cases hc
  ·cases hc
 case mapEntry t x k=>
  split at hc
  ·rename_i kt et ht;split at hc
   ·rename_i ki z Jd hz;simp only[mF,lp,kb,cI]at hc;obtain⟨x',hx,k',hk,rfl⟩:=hc;exact Jg hO ho ht Jd hz (cg.ch hO.gl ku hx) (cg.ch hO.gl ku hk) aO
   ·cases hc
  ·cases hc
 case entryStore t x s y=>
  simp only[mF,lp,kb,cI]at hc;obtain⟨x',hx,k',hk,y',hy,rfl⟩:=hc;exact Lz hO ho (cg.ch hO.gl ku hx) (cg.ch hO.gl ku hk) (cg.ch hO.gl ku hy) aO
 case range t x=>
  split at hc
  ·rename_i kt et ht;simp only[jr]at hc;obtain⟨x',hx,rfl⟩:=hc;exact Jh hO fF ho ht (cg.ch hO.gl ku hx) aO
  ·cases hc
 case entry x=>
  simp only[jr]at hc;obtain⟨x',hx,rfl⟩:=hc;exact aO.elim
 case index t x i=>
  split at hc
  ·rename_i ht;simp only[mF,lp,kb,cI]at hc;obtain⟨x',hx,i',hi,rfl⟩:=hc;exact Ji hO ho ht (cg.ch hO.gl ku hx) (cg.ch hO.gl ku hi) aO
  ·cases hc
 case panic x=>simp only[cI]at hc;subst hc;exact aO.elim
 case makeInterface _ _=>simp only[cI]at hc;subst hc;exact aO.elim
 case unOp op t x=>
  simp only[jr]at hc;obtain⟨y,hy,rfl⟩:=hc;have rx:=cg.ch hO.gl ku hy;unfold dK Rd at aO⊢;simp only at aO⊢;split at aO
  ·rename_i b hb;rw[hb]at rx;simp only[aC,bw]at rx;split at aO
   ·exact cW.bool hO rfl rfl (by simp[execOp,ho,rx,Op.unary])
   ·exact aO.elim
  ·rename_i k n hb;rw[hb]at rx;simp only[aC,bw]at rx;split at aO
   ·exact cW.int hO rfl rfl (by simp[execOp,ho,rx,Op.unary,Op.intArith])
   ·exact aO.elim
  ·exact aO.elim
 case convert src dst x=>
  split at hc
  ·rename_i k0 k hs hd;simp only[jr]at hc;obtain⟨y,hy,rfl⟩:=hc;have rx:=cg.ch hO.gl ku hy;unfold dK at aO⊢;simp only at aO⊢;split at aO
   ·rename_i k1 n hb;rw[hb]at rx;simp only[aC,bw]at rx;exact cW.int hO rfl rfl (by simp[execOp,ho,rx,convert,run_underlying hs,run_underlying hd,Conv.intToInt])
   ·exact aO.elim
  ·cases hc
 case fieldAddr s x f=>
  split at hc
  ·rename_i fs hs;split at hc
   ·rename_i fd hf;split at hc
    ·rename_i fi hi;split at hc
     ·cases hc
     ·rename_i jJ;simp only[jr]at hc;obtain⟨y,hy,rfl⟩:=hc;have rx:=cg.ch hO.gl ku hy;simp only[dK]at aO⊢;obtain⟨hp,b,oo,Ro,hv⟩:=I8 rx aO;refine cW.mW hO hp (v:=.pointer (some ⟨b,oo+fd.offset,none⟩)) ?_ hv;simp[execOp,ho,Ro,Instr.fieldAt,run_underlying hs,hf,Instr.sureAddr,fieldPlace,run_sizeOf hi,jJ,ow]
    ·cases hc
   ·cases hc
  ·cases hc
 case field s x f=>
  split at hc
  ·rename_i fs hs;split at hc
   ·rename_i fd hf;split at hc
    ·rename_i fi desc hi hd;simp only[jr]at hc;obtain⟨y,hy,rfl⟩:=hc;have rx:=cg.ch hO.gl ku hy;simp only[dK]at aO⊢;obtain⟨hp,v,cw,hv⟩:=Ls hs hf hi hd rx aO;exact cW.mW hO hp (v:=v) (by simp[execOp,ho,cw]) hv
    ·cases hc
   ·cases hc
  ·cases hc
 case indexAddr t x ix=>
  split at hc
  ·rename_i e ht;split at hc
   ·rename_i i hi;simp only[mF,lp,kb,cI]at hc;obtain⟨x',hx,y',hy,rfl⟩:=hc;simp only[dK]at aO⊢;obtain⟨hp,v,cw,hv⟩:=TK hO ht hi (cg.ch hO.gl ku hx) (cg.ch hO.gl ku hy) aO;exact cW.mW hO hp (v:=v) (by simp[execOp,ho,cw]) hv
   ·cases hc
  ·rename_i n e ht;split at hc
   ·rename_i i hi;simp only[mF,lp,kb,cI]at hc;obtain⟨x',hx,y',hy,rfl⟩:=hc;simp only[dK]at aO⊢;obtain⟨hp,v,cw,hv⟩:=G5 ht hi (cg.ch hO.gl ku hx) (cg.ch hO.gl ku hy) aO;exact cW.mW hO hp (v:=v) (by simp[execOp,ho,cw]) hv
   ·cases hc
  ·cases hc
 case slice t x lo rY mx=>
  cases mx with
  |some m=>cases hc
  |none=>
   simp only at hc;split at hc
   ·rename_i e ht;split at hc
    ·rename_i i hi;simp only[mF,lp,kb,cI]at hc;obtain⟨x',hx,lo',hlo,hi2,hhi,rfl⟩:=hc;simp only[dK]at aO⊢;obtain⟨hp,v,cw,hv⟩:=Lu hO ht hi (cg.ch hO.gl ku hx) (EY hO.gl ku hlo) (EY hO.gl ku hhi) aO;exact cW.mW hO hp (v:=v) (by simp[execOp,ho,cw]) hv
    ·cases hc
   ·cases hc
 case extract x i=>
  simp only[jr]at hc;obtain⟨y,hy,rfl⟩:=hc;have rx:=cg.ch hO.gl ku hy;unfold dK ui at aO⊢;simp only at aO⊢;split at aO
  ·rename_i ts hb;rw[hb]at rx;simp only[aC,bw]at rx;obtain⟨vs,hv,hr⟩:=rx;obtain⟨v,mM,yd⟩:=gH.get hr (i:=i) (t:=ts.getD i default) (by simp[List.getD,show i<ts.length from aO]);refine cW.mW hO rfl (v:=v) ?_ (by simp only[aC];exact yd);have:vs[i]? =some v:=by simpa using mM
   simp[execOp,ho,hv,Instr.extract,this]
  ·rename_i ds hb;rw[hb]at rx;simp only[aC]at rx;obtain⟨vs,hv,hr⟩:=rx;have key:∀(ds:bM) (vs:List Value) (i:Nat),fj w W ab L ds vs->i<ds.length->∃v,vs[i]? =some v/\aC w W ab L (ds.getD i .undef) v:=by
    intro ds;induction ds with
    |nil=>intro vs i _ h;simp at h
    |cons d ds ih=>
     intro vs i h hi;simp only[fj]at h;obtain⟨v,kj,rfl,h1,h2⟩:=h;cases i with
     |zero=>exact⟨v,rfl,h1⟩
     |succ i=>simpa using ih kj i h2 (by simpa using hi)
   obtain⟨v,mM,yd⟩:=key ds _ i hr aO;refine cW.mW hO rfl (v:=v) ?_ yd;have:vs[i]? =some v:=by simpa using mM
   simp[execOp,ho,hv,Instr.extract,this]
  ·exact aO.elim
 case makeSlice t l c=>
  split at hc
  ·rename_i e ht;split at hc
   ·rename_i i hi;split at hc
    ·rename_i z hz;split at hc
     ·rename_i p q;split at hc
      ·rename_i hpq;obtain⟨rfl,jJ⟩:=hpq;simp only[mF,lp,kb,cI]at hc;obtain⟨zero,wh,rfl⟩:=hc;simp only[dK]at aO⊢;obtain⟨v,w',L',h1,h2,h3,h4⟩:=EP hO ht hi hz jJ wh fF (cg.ch hO.gl ku (x:=.tmp p) rfl) aO;exact⟨.value v,v,w',L',by simp[execOp,ho,h1],.inl rfl,h2,h3,h4⟩
      ·cases hc
     ·rename_i k p k' q;split at hc
      ·rename_i hpq;obtain⟨rfl,rfl,jJ⟩:=hpq;simp only[mF,lp,kb,cI]at hc;obtain⟨zero,wh,rfl⟩:=hc;simp only[dK]at aO⊢;obtain⟨v,w',L',h1,h2,h3,h4⟩:=EP hO ht hi hz jJ wh fF (cg.ch (ρ:=ρ) hO.gl ku (x:=.const (.int k p)) rfl) aO;exact⟨.value v,v,w',L',by simp[execOp,ho,h1],.inl rfl,h2,h3,h4⟩
      ·cases hc
     ·cases hc
    ·cases hc
   ·cases hc
  ·cases hc
 case makeFunc f first cA=>
  split at hc
  ·rename_i hf;simp only[mF,lp,kb,cI]at hc;obtain⟨cs,pi,rfl⟩:=hc;simp only[dK]at aO⊢;have hr:aX w W ab L (cs.map (·.ev ρ)) (cA.map a.eval).toList:=by
    simpa using HD hO.gl ku pi aO
   refine cW.mW hO rfl (v:=.func f #[] (cA.map a.eval)) ?_ ?_
   ·have:first= #[]:=by simpa using hf
    simp[execOp,ho,this,Instr.makeFunc]
   ·by_cases hpb:zV (cs.map (·.ev ρ))=true
    ·simp only[hpb,km,aC,bw];exact⟨_,rfl,pL (BH hpb) hr⟩
    ·simp only[hpb];exact⟨_,rfl,hr⟩
  ·cases hc
 case call c=>
  have Ac:∀{xs:List Operand},c.args.toList=xs->c.args=xs.toArray:=λh=>by rw[<-h,ZcI]
  have ahG:∀{xs:List TypeId},c.argTypes.toList=xs->c.argTypes=xs.toArray:=λh=>by rw[<-h,ZcI]
  unfold fk at hc;split at hc
  ·split at hc
   ·split at hc
    ·cases hc
    ·simp only[jr]at hc;obtain⟨y,_,rfl⟩:=hc;exact eK rfl (pw _ _)
   ·cases hc
  ·obtain⟨ys,_,rfl⟩:=jr.1 hc;exact aO.elim
  ·rename_i kv;split at hc
   ·rename_i x t hx ht;have DW:c={callee:=.builtin .len,args:= #[x],argTypes:= #[t]}:=by
     have h1:=Ac hx;have h2:=ahG ht;cases c
     simp_all
    subst DW;split at hc
    ·rename_i e hu;simp only[jr]at hc;obtain⟨y,hy,rfl⟩:=hc;exact TL hO ho hu (cg.ch hO.gl ku hy) aO
    ·rename_i hu;simp only[jr]at hc;obtain⟨y,hy,rfl⟩:=hc;exact OX hO ho hu (cg.ch hO.gl ku hy) aO
    ·rename_i kt et hu;simp only[jr]at hc;obtain⟨y,hy,rfl⟩:=hc;exact O0 hO ho hu (cg.ch hO.gl ku hy) aO
    ·cases hc
   ·cases hc
  ·rename_i kv;split at hc
   ·rename_i x y t t' hx ht;have DW:c={callee:=.builtin .copy,args:= #[x,y],argTypes:= #[t,t']}:=by
     have h1:=Ac hx;have h2:=ahG ht;cases c
     simp_all
    subst DW;split at hc
    ·rename_i e hu;split at hc
     ·rename_i i hi;simp only[mF,lp,kb,cI]at hc;obtain⟨x',nK,y',Ow,rfl⟩:=hc;simp only[dK]at aO⊢;obtain⟨v,w',h1,h2,h3,h4⟩:=OU (t:=t) (t':=t') (ty:=o.type) hO hu hi (cg.ch hO.gl ku nK) (cg.ch hO.gl ku Ow) aO;exact⟨.value v,v,w',L,by simp[execOp,ho,resolve,invoke,builtin,h1],.inl rfl,h2,h3,h4⟩
     ·cases hc
    ·cases hc
   ·cases hc
  ·rename_i kv;split at hc
   ·rename_i x k t ts' hx ht;have DW:c={callee:=.builtin .delete,args:= #[x,k],argTypes:=c.argTypes}:=by
     have h1:=Ac hx;cases c
     simp_all
    have Lp:c.argTypes[0]? =some t:=by rw[<-Array.getElem?_toList,ht];rfl
    split at hc
    ·rename_i kt et hu;split at hc
     ·rename_i ki Jd;simp only[mF,lp,kb,cI]at hc;obtain⟨x',nK,k',vQ,rfl⟩:=hc;exact Jj hO Lp (by rw[ho,<-DW]) hu Jd (cg.ch hO.gl ku nK) (cg.ch hO.gl ku vQ) aO
     ·cases hc
    ·cases hc
   ·cases hc
  ·rename_i kv;split at hc
   ·rename_i x y hx;have DW:c={callee:=.builtin .min,args:= #[x,y],argTypes:=c.argTypes}:=by
     have h1:=Ac hx;cases c
     simp_all
    simp only[mF,lp,kb,cI]at hc;obtain⟨x',nK,y',Ow,rfl⟩:=hc;exact z7 false hO (by rw[ho,DW];rfl) (cg.ch hO.gl ku nK) (cg.ch hO.gl ku Ow) aO
   ·cases hc
  ·rename_i kv;split at hc
   ·rename_i x y hx;have DW:c={callee:=.builtin .max,args:= #[x,y],argTypes:=c.argTypes}:=by
     have h1:=Ac hx;cases c
     simp_all
    simp only[mF,lp,kb,cI]at hc;obtain⟨x',nK,y',Ow,rfl⟩:=hc;exact z7 true hO (by rw[ho,DW];rfl) (cg.ch hO.gl ku nK) (cg.ch hO.gl ku Ow) aO
   ·cases hc
  ·rename_i kv;split at hc
   ·rename_i x y t t' hx ht;have DW:c={callee:=.builtin .append,args:= #[x,y],argTypes:= #[t,t']}:=by
     have h1:=Ac hx;have h2:=ahG ht;cases c
     simp_all
    subst DW;split at hc
    ·cases hc
    ·rename_i EZ;have EZ:t=t':=by simpa using EZ
     subst EZ;split at hc
     ·rename_i e hu;split at hc
      ·rename_i i hi;split at hc
       ·rename_i z hz;split at hc
        ·rename_i jJ;simp only[mF,lp,kb,cI]at hc;obtain⟨x',nK,y',Ow,rfl⟩:=hc;simp only[dK]at aO⊢;obtain⟨v,w',L',h1,h2,h3,h4⟩:=I5 (ty:=o.type) hO hu hi hz jJ.1 jJ.2 fF (cg.ch hO.gl ku nK) (cg.ch hO.gl ku Ow) aO;exact⟨.value v,v,w',L',by simp[execOp,ho,resolve,invoke,builtin,h1],.inl rfl,h2,h3,h4⟩
        ·cases hc
       ·cases hc
      ·cases hc
     ·cases hc
   ·cases hc
  ·cases hc
def TO(hO:cO base W M w0 ab w L){e:Nat}{n:cg}(hc:dS P o=some (.mkSlice e sz OY zero n))(ku:∀t,aC w W ab L (ρ t) (a.tmps.getD t Go.undef))(fF:ab name=none)
  (aO:(gY sz OY zero name (n.ev ρ)).ok):cW P base W M w0 ab L w a o (gY sz OY zero name (n.ev ρ)):=by
 unfold dS at hc;cases ho:o.op<;>simp only[ho,reduceCtorEq]at hc
 case makeSlice t l c=>
  split at hc
  ·rename_i e' ht;split at hc
   ·rename_i i hi;split at hc
    ·rename_i z hz;split at hc
     ·rename_i p q;split at hc
      ·rename_i hpq;obtain⟨rfl,jJ⟩:=hpq;simp only[mF,lp,kb,cI,tZ.mkSlice.injEq]at hc;obtain⟨amA,wh,rfl,rfl,rfl,rfl,rfl⟩:=hc;obtain⟨v,w',L',h1,h2,h3,h4⟩:=CR hO ht hi hz wh fF (cg.ch hO.gl ku (x:=.tmp p) rfl) aO;exact⟨.value v,v,w',L',by simp[execOp,ho,h1],.inl rfl,h2,h3,h4⟩
      ·cases hc
     ·rename_i k p k' q;split at hc
      ·rename_i hpq;obtain⟨rfl,rfl,jJ⟩:=hpq;simp only[mF,lp,kb,cI,tZ.mkSlice.injEq]at hc;obtain⟨amA,wh,rfl,rfl,rfl,rfl,rfl⟩:=hc;obtain⟨v,w',L',h1,h2,h3,h4⟩:=CR hO ht hi hz wh fF (cg.ch (ρ:=ρ) hO.gl ku (x:=.const (.int k p)) rfl) aO;exact⟨.value v,v,w',L',by simp[execOp,ho,h1],.inl rfl,h2,h3,h4⟩
      ·cases hc
     ·cases hc
    ·cases hc
   ·cases hc
  ·cases hc
 case binOp op t x y yt=>
  exfalso;simp only[lp,kb]at hc;obtain⟨x',hx,y',hy,hc⟩:=hc;unfold nV at hc;repeat' split at hc
  all_goals first|(cases hc;done)|(simp only[jr,reduceCtorEq,xk,xl]at hc;done)
 case makeMap t h=>
  exfalso;cases h with
  |some m=>cases hc
  |none=>
   simp only at hc;split at hc
   ·simp only[jr,reduceCtorEq,xk,xl]at hc
   ·cases hc
 case slice t x lo hi mx=>
  exfalso;cases mx with
  |some m=>cases hc
  |none=>
   simp only at hc;repeat' split at hc
   all_goals simp only[jr,mF,lp,kb,cI,reduceCtorEq,xk,xl]at hc
 case call c=>
  exfalso;unfold fk at hc;repeat' split at hc
  all_goals first
   |(cases hc;done)
   |(simp only[jr,mF,lp,kb,cI,reduceCtorEq,xk,xl]at hc;done)
   |skip
 all_goals exfalso
 all_goals first
  |(simp only[jr,reduceCtorEq,xk,xl]at hc;done)
  |(simp only[mF,lp,kb,cI,reduceCtorEq,xk,xl]at hc;done)
  |(repeat' split at hc)<;>first
    |(simp only[jr,mF,lp,kb,cI,reduceCtorEq,xk,xl]at hc;done)
    |(simp[kb]at hc;done)
def ahH{e:Nat}{n:cg}(hc:dS P o=some (.mkSliceB e sz OY zero n)):False:=by
 unfold dS at hc;cases ho:o.op<;>simp only[ho,reduceCtorEq]at hc
 case makeSlice t l c=>
  repeat' split at hc
  all_goals first
   |(cases hc;done)
   |(simp only[mF,lp,kb,cI,reduceCtorEq,xk,xl]at hc;done)
 case binOp op t x y yt=>
  simp only[lp,kb]at hc;obtain⟨x',hx,y',hy,hc⟩:=hc;unfold nV at hc;repeat' split at hc
  all_goals first|(cases hc;done)|(simp only[jr,reduceCtorEq,xk,xl]at hc;done)
 case makeMap t h=>
  cases h with
  |some m=>cases hc
  |none=>
   simp only at hc;split at hc
   ·simp only[jr,reduceCtorEq,xk,xl]at hc
   ·cases hc
 case slice t x lo hi mx=>
  cases mx with
  |some m=>cases hc
  |none=>
   simp only at hc;repeat' split at hc
   all_goals simp only[jr,mF,lp,kb,cI,reduceCtorEq,xk,xl]at hc
 case call c=>
  unfold fk at hc;repeat' split at hc
  all_goals first
   |(cases hc;done)
   |(simp only[jr,mF,lp,kb,cI,reduceCtorEq,xk,xl]at hc;done)
 all_goals first
  |(simp only[jr,reduceCtorEq,xk,xl]at hc;done)
  |(simp only[mF,lp,kb,cI,reduceCtorEq,xk,xl]at hc;done)
  |(repeat' split at hc)<;>first
    |(simp only[jr,mF,lp,kb,cI,reduceCtorEq,xk,xl]at hc;done)
    |(simp[kb]at hc;done)
end
end
end Go.DM
