/- Part of the proof. Conditions: none. -/
import Derived.Below
import Derived.CallsIn
import Derived.Laws.AppendOwn
import Derived.Laws.AppendOwnNone
import Derived.Laws.MakeOwn
import Derived.Laws.World
import Derived.Laws.Cells
import Derived.Laws.Small
import Derived.Laws.Entries
import Derived.Laws.Strings
import Derived.Laws.StructEq
set_option linter.unusedSectionVars false
set_option linter.unusedSimpArgs false
set_option linter.unusedVariables false
set_option linter.defProp false
namespace Go.DM
def bb{α:Sort _}(a:α):∃b,a=b:=⟨a,rfl⟩
def Zaa:=@Option.some.injEq
def Zab:=@if_neg
def Zac:=@Option.map_eq_some_iff
def Zad:=@Option.bind_eq_some_iff
def Zae:=@Int.eq_ofNat_of_zero_le
def Zaf:=@Nat.le_refl
def Zag:=@Int.toNat_natCast
def Zah:=@List.mem_cons
def Zai:=@if_pos
def Zaj:=@Option.bind_eq_bind
def Zak:=@List.mem_map
def Zal:=@List.not_mem_nil
def Zam:=@Bool.and_eq_true
def Zan:=@List.mem_singleton
def Zao:=@Option.pure_def
def Zap:=@Array.getElem?_eq_some_iff
def Zaq:=@List.mem_append
def Zar:=@absurd
def Zas:=@List.getElem?_eq_getElem
def Zat:=@of_decide_eq_true
def Zau:=@decide_eq_true_eq
def Zav:=@Prod.mk.injEq
def Zaw:=@List.getElem?_eq_some_iff
def Zax:=@List.mem_of_getElem?
def Zay:=@of_decide_eq_false
def Zaz:=@decide_eq_false_iff_not
def ZaA:=@List.map_cons
def ZaB:=@List.length_take
def ZaC:=@List.append_nil
def ZaD:=@List.eq_nil_of_length_eq_zero
def ZaE:=@List.mem_of_mem_take
def ZaF:=@List.getElem?_cons_zero
def ZaG:=@List.nil_append
def ZaH:=@Array.getD_eq_getD_getElem?
def ZaI:=@List.foldl_append
def ZaJ:=@Nat.pos_iff_ne_zero
def ZaK:=@List.length_append
def ZaL:=@Bool.false_ne_true
def ZaM:=@List.cons_append
def ZaN:=@List.foldl_cons
def ZaO:=@List.getElem_of_mem
def ZaP:=@Nat.le_trans
def ZaQ:=@List.getElem?_take
def ZaR:=@List.range_succ
def ZaS:=@List.mem_or_eq_of_mem_set
def ZaT:=@List.length_pos_iff
def ZaU:=@List.all_eq_true
def ZaV:=@List.mem_flatMap
def ZaW:=@Bool.false_eq_true
def ZaX:=@List.take_of_length_le
def ZaY:=@List.replicate_succ
def ZaZ:=@List.map_append
def Za0:=@List.pairwise_cons
def Za1:=@List.cons.injEq
def Za2:=@List.mem_range
def Za3:=@Array.length_toList
def Za4:=@List.filter_cons
def Za5:=@List.length_cons
def Za6:=@List.find?_cons
def Za7:=@List.mapM_cons
def Za8:=@Option.map_some
def Za9:=@List.getElem?_append_right
def Zba:=@and_assoc
def Zbb:=@List.getElem?_cons_succ
def Zbc:=@List.getElem?_append_left
def Zbd:=@Option.getD_some
def Zbe:=@List.getElem_mem
def Zbf:=@Bool.not_eq_true'
def Zbg:=@List.mem_cons_of_mem
def Zbh:=@List.findIdx?_cons
def Zbi:=@Nat.zero_add
def Zbj:=@List.mem_filter
def Zbk:=@Nat.mul_le_mul_right
def Zbl:=@List.mem_cons_self
def Zbm:=@List.findIdx?_eq_some_iff_getElem
def Zbn:=@List.length_map
def Zbo:=@List.length_drop
def Zbp:=@Option.isSome_iff_exists
def Zbq:=@List.map_congr_left
def Zbr:=@List.take_append_drop
def Zbs:=@List.getElem?_eq_none
def Zbt:=@List.flatMap_cons
def Zbu:=@List.flatten_cons
def Zbv:=@List.drop_eq_nil_of_le
def Zbw:=@List.ext_getElem
def Zbx:=@List.getElem?_map
def Zby:=@List.length_replicate
def Zbz:=@Nat.lt_of_lt_of_le
def ZbA:=@List.mem_filterMap
def ZbB:=@Nat.zero_le
def ZbC:=@List.getElem?_set
def ZbD:=@Array.getElem?_eq_getElem
def ZbE:=@List.getElem?_eq_none_iff
def ZbF:=@List.drop_eq_getElem_cons
def ZbG:=@List.set_append_right
def ZbH:=@List.getElem?_drop
def ZbI:=@List.eq_of_mem_replicate
def ZbJ:=@Array.append_empty
def ZbK:=@Nat.lt_of_not_le
def ZbL:=@List.map_nil
def ZbM:=@List.take_length
def ZbN:=@List.ext_getElem?
def ZbO:=@List.take_add_one
def ZbP:=@Option.ne_none_iff_exists'
def ZbQ:=@List.getElem_map
def ZbR:=@List.set_cons_zero
def ZbS:=@List.getElem_range
def ZbT:=@List.contains_iff_mem
def ZbU:=@Option.some.inj
def ZbV:=@Nat.add_zero
def ZbW:=@List.mem_of_mem_drop
def ZbX:=@Bool.eq_iff_iff
def ZbY:=@List.getElem?_of_mem
def ZbZ:=@Array.getElem?_setIfInBounds
def Zb0:=@List.nodup_nil
def Zb1:=@List.getElem_set
def Zb2:=@List.set_cons_succ
def Zb3:=@List.mem_append_right
def Zb4:=@List.modify_succ_cons
def Zb5:=@List.length_range
def Zb6:=@List.mem_range'_1
def Zb7:=@List.nodup_append
def Zb8:=@List.mem_of_find?_eq_some
def Zb9:=@List.findIdx?_eq_none_iff
def Zca:=@List.foldl_nil
def Zcb:=@Nat.sub_zero
def Zcc:=@Nat.lt_succ_self
def Zcd:=@List.map_set
def Zce:=@List.any_eq_true
def Zcf:=@List.take_succ_cons
def Zcg:=@List.replicate_zero
def Zch:=@List.getElem?_replicate
def Zci:=@Bool.or_eq_true
def Zcj:=@List.length_nil
def Zck:=@Int.mul_le_mul_of_nonneg_right
def Zcl:=@List.any_eq_false
def Zcm:=@List.getElem_drop
def Zcn:=@List.drop_zero
def Zco:=@List.modify_zero_cons
def Zcp:=@Nat.sub_self
def Zcq:=@Int.mul_nonneg
def Zcr:=@Option.bind_some
def Zcs:=@Bool.not_true
def Zct:=@Int.le_refl
def Zcu:=@List.getD_cons_succ
def Zcv:=@List.flatMap_append
def Zcw:=@List.nodup_cons
def Zcx:=@Array.mapM_eq_mapM_toList
def Zcy:=@List.count_cons
def Zcz:=@Nat.add_sub_cancel
def ZcA:=@List.mem_of_mem_eraseIdx
def ZcB:=@Int.natCast_nonneg
def ZcC:=@List.foldl_map
def ZcD:=@List.pairwise_map
def ZcE:=@List.getElem_take
def ZcF:=@Bool.true_and
def ZcG:=@List.all_cons
def ZcH:=@Nat.mod_eq_of_lt
def ZcI:=@List.zipIdx_cons
def ZcJ:=@List.countP_cons
def ZcK:=@Nat.zero_mul
def ZcL:=@List.forIn_cons
def ZcM:=@List.getElem?_append
def ZcN:=@List.replicate_succ'
def ZcO:=@List.find?_eq_some_iff_getElem
def ZcP:=@Int.mul_le_mul_of_nonneg_left
def ZcQ:=@Array.toList_modify
def ZcR:=@List.filterMap_cons
def ZcS:=@List.take_take
def ZcT:=@dif_neg
def ZcU:=@Nat.mul_le_mul
def ZcV:=@dif_pos
def ZcW:=@Int.toNat_zero
def ZcX:=@List.find?_eq_none
def ZcY:=@Nat.eq_zero_or_pos
def ZcZ:=@Array.getElem?_append_left
def Zc0:=@List.pairwise_iff_getElem
def Zc1:=@List.take_append
def Zc2:=@List.range'_succ
def Zc3:=@Bool.not_eq_true
def Zc4:=@List.map_map
def Zc5:=@Nat.lt_or_ge
def Zc6:=@List.length_eq_zero_iff
def Zc7:=@List.find?_some
def Zc8:=@List.take_left'
def Zc9:=@Nat.min_eq_left
def Zda:=@List.range_zero
def Zdb:=@Nat.le_succ
def Zdc:=@List.Perm.refl
def Zdd:=@List.modify_id
abbrev fo:=Nat->Prop
abbrev bO:=List Int
abbrev cO:=List Nat
section
variable{w':World}{W':fo}
inductive T where
 |bool (b:Bool)
 |int (k:IntKind) (n:Int)
 |str (s:ByteArray)
 |sl (av:List (List T))
 |agg (cs:List T)
 |eo (vs:List T)
 |fn (f:Fn) (bY:List T)
 |box (cs:List T)
 |mg (v:Value)
abbrev aK:=List T
abbrev LstTT:=List aK
instance:Inhabited T:=⟨.bool false⟩
section
variable(w:World)(W:fo)
mutual
def bj:T->Value->Prop
 |.bool b,v=>v=.bool b
 |.int k n,v=>v=.int k n
 |.str s,v=>v=.string s
 |.sl av,v=>(av=[]/\∃(a:Option Addr) (cap:Nat),v=.slice a 0 cap)\/
   ∃b o cap sz,v=.slice (some ⟨b,o,none⟩) av.length cap/\b<w.heap.size/\¬W b/\av.length<=cap/\bw sz b o av
 |.agg cs,v=>∃vs,v=.agg vs/\bf cs vs.toList
 |.eo ts,v=>∃vs,v=.tuple vs/\fN ts vs.toList
 |.fn f bY,v=>∃vs,v=.func f #[] vs/\bf bY vs.toList
 |.box cs,v=>∃b o,v=.pointer (some ⟨b,o,none⟩)/\b<w.heap.size/\¬W b/\ed b o cs
 |.mg x,v=>v=x
def bf:aK->List Value->Prop
 |[],vs=>vs=[]
 |t::ts,vs=>∃v vs',vs=v::vs'/\v.oneCell'=true/\bj t v/\bf ts vs'
def fN:aK->List Value->Prop
 |[],vs=>vs=[]
 |t::ts,vs=>∃v vs',vs=v::vs'/\bj t v/\fN ts vs'
def ed:Nat->Nat->aK->Prop
 |_,_,[]=>True
 |b,o,t::ts=>(∃v,w.cell? ⟨b,o,none⟩=some v/\v.oneCell'=true/\bj t v)/\ed b (o+1) ts
def bw:Nat->Nat->Nat->List (aK)->Prop
 |_,_,_,[]=>True
 |sz,b,o,r::rs=>r.length=sz/\ed b o r/\bw sz b (o+sz) rs
end
end
structure KeepsC(W:fo)(w w':World):Prop where
 size:w.heap.size<=w'.heap.size
 blk:∀(b:Nat) c e fr,w.heap[b]? =some (.cells c e fr)->¬W b->w'.heap[b]? =some (.cells c e fr)
structure dg(W:fo)(w w':World):Prop extends KeepsC W w w' where
 W8:∀b:Nat,w.heap[b]? =some (Obj.deferred (some []))->w'.heap[b]? =some (Obj.deferred (some []))
 Xy:∀(b:Nat) r,w.heap[b]? =some (Obj.loop r)->w'.heap[b]? =some (Obj.loop r)
def KeepsC.cell{W:fo}{w:World}(h:KeepsC W w w'){b o:Nat}{v:Value}(hn:¬W b)(hc:w.cell? ⟨b,o,none⟩=some v):w'.cell? ⟨b,o,none⟩=some v:=by
 unfold World.cell? at hc⊢;simp only at hc⊢;split at hc
 ·rename_i c e fr hb;rw[h.blk b c e fr hb hn];exact hc
 ·cases hc
def dg.refl(W:fo)(w:World):dg W w w:=⟨⟨Zaf _,λ_ _ _ _ h _=>h⟩,λ_ h=>h,λ_ _ h=>h⟩
def dg.mono{W:fo}{a b:World}(h:dg W a b)(hw:∀i,W i->W' i):dg W' a b:=
 ⟨⟨h.size,λi c e fr hi hn=>h.blk i c e fr hi λx=>hn (hw i x)⟩,h.W8,h.Xy⟩
structure vO(B:Nat)(w w':World):Prop extends RowKit.Below B w w' where
 drawn:w.drawn<=w'.drawn
def dg.Xz{W:fo}{w:World}(h:RowKit.Below w.heap.size w w'):dg W w w':=
 ⟨⟨h.size,λb c e fr hb _=>(h.block b (Zap.1 hb).1).trans hb⟩,λb hb=>(h.block b (Zap.1 hb).1).trans hb,λb r hb=>(h.block b (Zap.1 hb).1).trans hb⟩
mutual
def bj.bi{w w':World}{W W':fo}(h:KeepsC W w w')(hW:∀b,b<w.heap.size->W' b->W b):∀(t:T) (v:Value),bj w W t v->bj w' W' t v
 |.bool b,v,r=>by simpa [bj]using r
 |.int k n,v,r=>by simpa [bj]using r
 |.mg x,v,r=>by simpa [bj]using r
 |.str s,v,r=>by simpa [bj]using r
 |.sl av,v,r=>by
  simp only[bj]at r⊢;rcases r with r|⟨b,o,cap,sz,hv,hb,hn,hc,hr⟩
  ·exact .inl r
  ·exact .inr ⟨b,o,cap,sz,hv,Zbz hb h.size,λx=>hn (hW b hb x),hc,bw.bi h hW hb hn sz o av hr⟩
 |.agg cs,v,r=>by
  simp only[bj]at r⊢;obtain⟨vs,hv,hr⟩:=r;exact⟨vs,hv,bf.bi h hW cs _ hr⟩
 |.eo ts,v,r=>by
  simp only[bj]at r⊢;obtain⟨vs,hv,hr⟩:=r;exact⟨vs,hv,fN.bi h hW ts _ hr⟩
 |.fn f bY,v,r=>by
  simp only[bj]at r⊢;obtain⟨vs,hv,hr⟩:=r;exact⟨vs,hv,bf.bi h hW bY _ hr⟩
 |.box cs,v,r=>by
  simp only[bj]at r⊢;obtain⟨b,o,hv,hb,hn,hr⟩:=r;exact⟨b,o,hv,Zbz hb h.size,λx=>hn (hW b hb x),ed.bi h hW hb hn o cs hr⟩
def bf.bi{w w':World}{W W':fo}(h:KeepsC W w w')(hW:∀b,b<w.heap.size->W' b->W b):∀(ts:aK) (vs:List Value),bf w W ts vs->bf w' W' ts vs
 |[],vs,r=>by simpa [bf]using r
 |t::ts,vs,r=>by
  simp only[bf]at r⊢;obtain⟨v,vs',hv,h1,hr,mt⟩:=r;exact⟨v,vs',hv,h1,bj.bi h hW t v hr,bf.bi h hW ts vs' mt⟩
def fN.bi{w w':World}{W W':fo}(h:KeepsC W w w')(hW:∀b,b<w.heap.size->W' b->W b):∀(ts:aK) (vs:List Value),fN w W ts vs->fN w' W' ts vs
 |[],vs,r=>by simpa [fN]using r
 |t::ts,vs,r=>by
  simp only[fN]at r⊢;obtain⟨v,vs',hv,hr,mt⟩:=r;exact⟨v,vs',hv,bj.bi h hW t v hr,fN.bi h hW ts vs' mt⟩
def ed.bi{w w':World}{W W':fo}(h:KeepsC W w w')(hW:∀b,b<w.heap.size->W' b->W b){b:Nat}(hb:b<w.heap.size)(hn:¬W b):∀(o:Nat) (ts:aK),ed w W b o ts->ed w' W' b o ts
 |_,[],_=>by simp[ed]
 |o,t::ts,r=>by
  simp only[ed]at r⊢;obtain⟨⟨v,hc,h1,hr⟩,mt⟩:=r;exact⟨⟨v,h.cell hn hc,h1,bj.bi h hW t v hr⟩,ed.bi h hW hb hn (o+1) ts mt⟩
def bw.bi{w w':World}{W W':fo}(h:KeepsC W w w')(hW:∀b,b<w.heap.size->W' b->W b){b:Nat}(hb:b<w.heap.size)(hn:¬W b)(sz:Nat):∀(o:Nat) (rs:List (aK)),bw w W sz b o rs->bw w' W' sz b o rs
 |_,[],_=>by simp[bw]
 |o,r::rs,x=>by
  simp only[bw]at x⊢;exact⟨x.1,ed.bi h hW hb hn o r x.2.1,bw.bi h hW hb hn sz (o+sz) rs x.2.2⟩
end
section
variable{w:World}{W:fo}
def bw.row{sz b:Nat}:∀{av:List (aK)} {o i:Nat} {r:aK},bw w W sz b o av->av[i]? =some r->r.length=sz/\ed w W b (o+i*sz) r
 |[],_,_,_,_,h=>by simp at h
 |x::xs,o,0,r,hr,h=>by
  simp only[bw]at hr;simp only[ZaF,Zaa]at h;subst h;simpa using⟨hr.1,hr.2.1⟩
 |x::xs,o,i+1,r,hr,h=>by
  simp only[bw]at hr;simp only[Zbb]at h;have:=bw.row hr.2.2 h;rw[show o+(i+1)*sz=o+sz+i*sz by rw[Nat.add_mul];omega];exact this
def ed.Da{b:Nat}:∀(ts:aK) (o:Nat),(∀j t,ts[j]? =some t->∃v,w.cell? ⟨b,o+j,none⟩=some v/\v.oneCell'=true/\bj w W t v)->ed w W b o ts
 |[],_,_=>by simp[ed]
 |t::ts,o,h=>by
  simp only[ed];refine⟨by simpa using h 0 t (by simp),ed.Da ts (o+1) λj u hu=>?_⟩;have:=h (j+1) u (by simpa using hu)
  rwa [show o+1+j=o+(j+1)by omega]
def bw.Ck{sz b:Nat}:∀(rs:List (aK)) (o:Nat),(∀i r,rs[i]? =some r->r.length=sz/\ed w W b (o+i*sz) r)->bw w W sz b o rs
 |[],_,_=>by simp[bw]
 |r::rs,o,h=>by
  simp only[bw];have h0:=h 0 r (by simp);refine⟨h0.1,by simpa using h0.2,bw.Ck rs (o+sz) λi u hu=>?_⟩;have:=h (i+1) u (by simpa using hu)
  rwa [show o+sz+i*sz=o+(i+1)*sz by rw[Nat.add_mul];omega]
def bf.length:∀{ts:aK} {vs:List Value},bf w W ts vs->vs.length=ts.length
 |[],_,h=>by simp only[bf]at h;simp[h]
 |_::ts,_,h=>by
  simp only[bf]at h;obtain⟨v,vs',rfl,_,_,hr⟩:=h;simp[bf.length hr]
def fN.length:∀{ts:aK} {vs:List Value},fN w W ts vs->vs.length=ts.length
 |[],_,h=>by simp only[fN]at h;simp[h]
 |_::ts,_,h=>by
  simp only[fN]at h;obtain⟨v,vs',rfl,_,hr⟩:=h;simp[fN.length hr]
def bf.get:∀{ts:aK} {vs:List Value} {i:Nat} {t:T},bf w W ts vs->ts[i]? =some t->∃v,vs[i]? =some v/\v.oneCell'=true/\bj w W t v
 |[],_,_,_,_,h=>by simp at h
 |x::xs,_,0,t,hr,h=>by
  simp only[bf]at hr;obtain⟨v,vs',rfl,h1,h2,_⟩:=hr;simp only[ZaF,Zaa]at h;subst h;exact⟨v,rfl,h1,h2⟩
 |x::xs,_,i+1,t,hr,h=>by
  simp only[bf]at hr;obtain⟨v,vs',rfl,_,_,hr⟩:=hr;simpa using bf.get hr (by simpa using h)
def fN.get:∀{ts:aK} {vs:List Value} {i:Nat} {t:T},fN w W ts vs->ts[i]? =some t->∃v,vs[i]? =some v/\bj w W t v
 |[],_,_,_,_,h=>by simp at h
 |x::xs,_,0,t,hr,h=>by
  simp only[fN]at hr;obtain⟨v,vs',rfl,h2,_⟩:=hr;simp only[ZaF,Zaa]at h;subst h;exact⟨v,rfl,h2⟩
 |x::xs,_,i+1,t,hr,h=>by
  simp only[fN]at hr;obtain⟨v,vs',rfl,_,hr⟩:=hr;simpa using fN.get hr (by simpa using h)
end
class bI where
 cells:List (Nat×aK)
abbrev bI.none:bI:=⟨[]⟩
def F2 [bI](w:World)(W:fo):Prop:=∀p∈bI.cells,p.1<w.heap.size/\¬W p.1/\ed w W p.1 0 p.2
def F2.bi [bI]{w:World}{W:fo}(h:F2 w W)(hk:KeepsC W w w')(hW:∀b,b<w.heap.size->W' b->W b):F2 w' W':=λp hp=>by
 obtain⟨h1,h2,h3⟩:=h p hp;exact⟨Zbz h1 hk.size,λx=>h2 (hW _ h1 x),ed.bi hk hW h1 h2 0 p.2 h3⟩
def F2.empty(w:World)(W:fo): @F2 bI.none w W:=λp hp=>by cases hp
end
inductive DV where
 |undef
 |skip
 |v (t:T)
 |aW
 |ptr (r off:Nat)
 |bA (r bD:Nat)
 |l7 (av:List (aK)) (i:Int) (off:Nat)
 |iD (cs:aK) (off:Nat)
 |ka (r bD:Nat) (i:Int) (off:Nat)
 |agg (cs:List DV)
 |NV
 |iE (r:Nat)
 |iter (r:Nat)
 |eo (ds:List DV)
 |u9 (r bD lo n:Nat)
 |nG (f:Fn) (bY:List DV)
 |F9 (r n:Nat)
abbrev dw:=Nat->DV
abbrev fA:=List (Nat×DV)
abbrev bB:=List DV
instance:Inhabited DV:=⟨.undef⟩
inductive Sh where
 |bool|int (k:IntKind)|str
def HI:Sh->T->Bool
 |.bool,.bool _=>true
 |.int k,.int k' _=>k==k'
 |.str,.str _=>true
 |_,_=>false
def eL:List Sh->aK->Prop
 |[],ts=>ts=[]
 |s::ss,t::ts=>HI s t=true/\eL ss ts
 |_::_,[]=>False
inductive Ob where
 |box (cs:bB)
 |arr (bD e sz:Nat) (av:List (aK))
 |map (cj:List Sh) (agg:Bool) (clock:Nat) (es:List (Nat×T×DV))
 |iter (m since:Nat) (seen:cO) (last:Nat)
abbrev cV:=List (Nat×Ob)
def Ob.kind:Ob->Nat
 |.box _=>0
 |.arr _ _ _ _=>1
 |.map _ _ _ _=>2
 |.iter _ _ _ _=>3
abbrev bq:=Nat->Option Ob
structure l8 where
 tmps:dw
 ab:bq
 aJ:Nat
 low:Nat
 todo:List (aK)
inductive bQ where
 |tmp (t:Nat)
 |gN (d:DV)
def bQ.ev(ρ:dw):bQ->DV
 |.tmp t=>ρ t
 |.gN d=>d
structure fI where
 ok:Prop
 val:DV
 ab:bq
structure Spec where
 pre:aK->Prop
 fn:aK->T
 jz:Bool
 st:Option (bB->bq->fI):=none
 fresh:Option (Nat×Nat):=none
 fY:Bool:=false
abbrev pI:=FuncId->Option Spec
inductive rO where
 |qu (x:bQ)
 |pick (c a b:bQ)
 |alloc (zero:bB)
 |box (x:bQ)
 |build (zero:bB) (parts:List (Nat×Nat×bQ))
 |bslice (len sz:Nat) (zero:bB) (parts:List (Nat×Nat×bQ))
 |load (n:Nat) (agg:Bool) (x:bQ)
 |store (n:Nat) (x y:bQ)
 |bin (op:BinOp) (x y:bQ)
 |eqT (neg agg:Bool) (cj:List Sh) (x y:bQ)
 |un (op:UnOp) (x:bQ)
 |conv (k:IntKind) (x:bQ)
 |addOff (k:Nat) (x:bQ)
 |nilCheck (x:bQ)
 |idxAddr (sz:Nat) (x i:bQ)
 |arrAddr (len sz:Nat) (x i:bQ)
 |field (off n:Nat) (agg:Bool) (x:bQ)
 |slice (sz:Nat) (x:bQ) (lo hi:Option bQ)
 |extract (i:Nat) (x:bQ)
 |call (f:FuncId) (args:List bQ)
 |callS (f:FuncId) (args:List bQ)
 |callF (f:FuncId) (args:List bQ)
 |callR (f:FuncId) (args:List bQ)
 |callv (x:bQ) (args:List bQ)
 |len (x:bQ)
 |lenS (x:bQ)
 |minmax (isMax:Bool) (x y:bQ)
 |append (e sz bytes:Nat) (x y:bQ)
 |mkSlice (e sz bytes:Nat) (zero:aK) (n:bQ)
 |mkSliceB (e sz bytes:Nat) (zero:aK) (n:bQ)
 |mkFn (f:Fn) (bY:List bQ)
 |mkMap (cj:List Sh) (agg:Bool)
 |lookup (cj:List Sh) (agg:Bool) (zero:DV) (ok:Bool) (x k:bQ)
 |mapUpd (cj:List Sh) (agg:Bool) (x k y:bQ)
 |mapDel (cj:List Sh) (agg:Bool) (x k:bQ)
 |mapEnt (cj:List Sh) (agg:Bool) (zero:DV) (x k:bQ)
 |entSt (x s y:bQ)
 |lenM (x:bQ)
 |rangeM (x:bQ)
 |entryM (x:bQ)
 |copy (sz:Nat) (x y:bQ)
 |isNil (kind:Nat) (neg:Bool) (x:bQ)
 |indexS (x i:bQ)
 |fail
structure qO where
 ok:Prop
 val:DV
 put:Option (Nat×Ob):=none
def cZ:qO:=⟨False,.undef,none⟩
def Db:T->Bool
 |.agg _|.eo _=>false
 |.mg v=>v.oneCell'
 |_=>true
def cellsOf:DV->bB
 |.v (.agg cs)=>cs.map .v
 |.agg cs=>cs
 |d=>[d]
def mO:DV->Prop
 |.undef=>False
 |.skip=>False
 |.v (.eo _)=>False
 |.v (.mg x)=>x.oneCell'=true
 |.eo _=>False
 |_=>True
mutual
def tz(ab:bq):DV->T
 |.v t=>t
 |.aW=>.sl []
 |.bA r _=>match ab r with|some (.arr _ _ _ av)=>.sl av|_=>.sl []
 |.agg cs=>.agg (ji ab cs)
 |.u9 r _ lo n=>match ab r with|some (.arr _ _ _ av)=>.sl ((av.drop lo).take n)|_=>.sl []
 |.nG f bY=>.fn f (ji ab bY)
 |_=>.mg undef
def ji(ab:bq):bB->aK
 |[]=>[]
 |d::ds=>tz ab d::ji ab ds
end
mutual
def F3(fY:Bool)(ab:bq):DV->Prop
 |.v _=>True
 |.aW=>True
 |.bA r bD=>fY=true/\match ab r with|some (.arr cg _ _ _)=>bD=cg|_=>False
 |.agg cs=>tA fY ab cs
 |.u9 r bD lo n=>fY=true/\match ab r with|some (.arr cg _ _ av)=>bD=cg/\lo+n<=av.length|_=>False
 |.nG _ bY=>tA fY ab bY
 |_=>False
def tA(fY:Bool)(ab:bq):bB->Prop
 |[]=>True
 |d::ds=>F3 fY ab d/\tA fY ab ds
end
def t7:DV->Prop
 |.v t=>Db t=true
 |.aW=>True
 |_=>False
def iZ:bB->Prop
 |[]=>True
 |d::ds=>t7 d/\iZ ds
def xU:bB->Bool
 |[]=>true
 |.v t::ds=>Db t&&xU ds
 |.aW::ds=>xU ds
 |_::_=>false
def kp:DV->Prop
 |.undef=>False
 |.skip=>False
 |.v t=>Db t=true
 |.agg _=>False
 |.eo _=>False
 |_=>True
def eX:bB->Prop
 |[]=>True
 |d::ds=>kp d/\eX ds
def cy{α:Type}(l:List α)(off:Nat)(new:List α):List α:=l.take off++new++l.drop (off+new.length)
def vZ(cells:bB):List (Nat×Nat×DV)->bB
 |[]=>cells
 |(off,_,d)::ps=>vZ (cy cells off (cellsOf d)) ps
def t8(n:Nat):List (Nat×Nat×DV)->Prop
 |[]=>True
 |(off,sz,d)::ps=>(cellsOf d).length=sz/\off+sz<=n/\eX (cellsOf d)/\t8 n ps
def rowAt(av:List (aK))(i:Int):aK:=av.getD i.toNat []
def fU(sz:Nat):Nat->aK->List (aK)
 |0,_=>[]
 |n+1,cs=>cs.take sz::fU sz n (cs.drop sz)
def iF(n:Nat)(agg:Bool)(ab:bq):DV->qO
 |.ptr r off=>match ab r with
  |some (.box cs)=>⟨off+n<=cs.length/\(agg=true\/n=1),if agg then .agg ((cs.drop off).take n)else cs.getD off .undef,none⟩
  |_=>cZ
 |.l7 av i off=>⟨off+n<=(rowAt av i).length/\(agg=true\/n=1),if agg then .v (.agg (((rowAt av i).drop off).take n))else .v ((rowAt av i).getD off default),none⟩
 |.iD cs off=>⟨off+n<=cs.length/\(agg=true\/n=1),if agg then .v (.agg ((cs.drop off).take n))else .v (cs.getD off default),none⟩
 |.v (.box cs)=>⟨n<=cs.length/\(agg=true\/n=1),if agg then .v (.agg (cs.take n))else .v (cs.getD 0 default),none⟩
 |.ka r bD i off=>match ab r with
  |some (.arr cg _ _ av)=>⟨bD=cg/\off+n<=(rowAt av i).length/\(agg=true\/n=1),if agg then .v (.agg (((rowAt av i).drop off).take n))else .v ((rowAt av i).getD off default),none⟩
  |_=>cZ
 |_=>cZ
def lG(n:Nat)(ab:bq)(y:DV):DV->qO
 |.ptr r off=>match ab r with
  |some (.box cs)=>⟨(cellsOf y).length=n/\off+n<=cs.length/\eX (cellsOf y),.undef,some (r,.box (cy cs off (cellsOf y)))⟩
  |_=>cZ
 |.ka r bD i off=>match ab r with
  |some (.arr cg e sz av)=>⟨bD=cg/\(cellsOf y).length=n/\off+n<=sz/\iZ (cellsOf y),.undef,
    some (r,.arr cg e sz (av.set i.toNat (cy (rowAt av i) off (ji ab (cellsOf y)))))⟩
  |_=>cZ
 |_=>cZ
def ua(op:BinOp):DV->DV->qO
 |.v (.int k a),.v (.int k' b)=>match op with
  |.add=>⟨k=k',.v (.int k (k.wrap (a+b))),none⟩
  |.sub=>⟨k=k',.v (.int k (k.wrap (a-b))),none⟩
  |.mul=>⟨k=k',.v (.int k (k.wrap (a*b))),none⟩
  |.quo=>⟨k=k'/\b≠0,.v (.int k (k.wrap (a.tdiv b))),none⟩
  |.rem=>⟨k=k'/\b≠0,.v (.int k (a.tmod b)),none⟩
  |.eql=>⟨k=k',.v (.bool (decide (a=b))),none⟩
  |.neq=>⟨k=k',.v (.bool (!decide (a=b))),none⟩
  |.lss=>⟨k=k',.v (.bool (decide (a<b))),none⟩
  |.leq=>⟨k=k',.v (.bool (decide (a<=b))),none⟩
  |.gtr=>⟨k=k',.v (.bool (decide (b<a))),none⟩
  |.geq=>⟨k=k',.v (.bool (decide (b<=a))),none⟩
  |.shl=>⟨0<=b,.v (.int k (k.wrap (a*2^min b.toNat k.bits))),none⟩
  |.shr=>⟨0<=b,.v (.int k (a/2^min b.toNat k.bits)),none⟩
  |.and=>⟨k=k',.v (.int k (k.wrap (BitVec.ofInt k.bits a&&&BitVec.ofInt k.bits b).toNat)),none⟩
  |.or=>⟨k=k',.v (.int k (k.wrap (BitVec.ofInt k.bits a|||BitVec.ofInt k.bits b).toNat)),none⟩
  |.xor=>⟨k=k',.v (.int k (k.wrap (BitVec.ofInt k.bits a^^^BitVec.ofInt k.bits b).toNat)),none⟩
  |_=>cZ
 |_,_=>cZ
mutual
def gO:T->T->Bool
 |.bool a,.bool b=>a==b
 |.int _ a,.int _ b=>decide (a=b)
 |.str a,.str b=>decide (a=b)
 |.agg as,.agg bs=>tl as bs
 |_,_=>false
def tl:aK->aK->Bool
 |[],[]=>true
 |a::as,b::bs=>gO a b&&tl as bs
 |_,_=>false
end
def Dc(neg agg:Bool)(cj:List Sh):T->T->qO
 |.agg as,.agg bs=>⟨agg=true/\eL cj as/\eL cj bs,.v (.bool (neg^^tl as bs)),none⟩
 |a,b=>⟨agg=false/\eL cj [a]/\eL cj [b],.v (.bool (neg^^gO a b)),none⟩
def Qq(op:UnOp):DV->qO
 |.v (.bool b)=>match op with
  |.not=>⟨True,.v (.bool (!b)),none⟩
  |_=>cZ
 |.v (.int k n)=>match op with
  |.neg=>⟨True,.v (.int k (k.wrap (-n))),none⟩
  |_=>cZ
 |_=>cZ
def iq(k:Nat):DV->qO
 |.ptr r off=>⟨True,.ptr r (off+k),none⟩
 |.l7 av i off=>⟨True,.l7 av i (off+k),none⟩
 |.iD cs off=>⟨True,.iD cs (off+k),none⟩
 |.v (.box cs)=>⟨True,.iD cs k,none⟩
 |.ka r bD i off=>⟨True,.ka r bD i (off+k),none⟩
 |_=>cZ
def kT:DV->qO
 |.ptr r off=>⟨True,.ptr r off,none⟩
 |.l7 av i off=>⟨True,.l7 av i off,none⟩
 |.iD cs off=>⟨True,.iD cs off,none⟩
 |.v (.box cs)=>⟨True,.v (.box cs),none⟩
 |.ka r bD i off=>⟨True,.ka r bD i off,none⟩
 |.v (.fn (.func f) bY)=>⟨True,.v (.fn (.func f) bY),none⟩
 |_=>cZ
def rZ(sz:Nat)(ab:bq):DV->DV->qO
 |.v (.sl av),.v (.int _ i)=>⟨0<=i/\i<av.length/\(rowAt av i).length=sz,.l7 av i 0,none⟩
 |.bA r bD,.v (.int _ i)=>match ab r with
  |some (.arr cg _ iG av)=>⟨bD=cg/\iG=sz/\0<=i/\i<av.length,.ka r bD i 0,none⟩
  |_=>cZ
 |.u9 r bD lo n,.v (.int _ i)=>match ab r with
  |some (.arr cg _ iG av)=>⟨bD=cg/\iG=sz/\0<=i/\i<n,.ka r bD (lo+i) 0,none⟩
  |_=>cZ
 |.F9 r n,.v (.int _ i)=>⟨0<=i/\i<n,.ptr r (i.toNat*sz),none⟩
 |_,_=>cZ
def kK(len sz:Nat):DV->DV->qO
 |.ptr r off,.v (.int _ i)=>⟨0<=i/\i<len,.ptr r (off+i.toNat*sz),none⟩
 |.l7 av j off,.v (.int _ i)=>⟨0<=i/\i<len,.l7 av j (off+i.toNat*sz),none⟩
 |.iD cs off,.v (.int _ i)=>⟨0<=i/\i<len,.iD cs (off+i.toNat*sz),none⟩
 |.v (.box cs),.v (.int _ i)=>⟨0<=i/\i<len,.iD cs (i.toNat*sz),none⟩
 |.ka r bD j off,.v (.int _ i)=>⟨0<=i/\i<len,.ka r bD j (off+i.toNat*sz),none⟩
 |_,_=>cZ
def mZ:DV->Option (bB)
 |.v (.agg cs)=>some (cs.map .v)
 |.agg cs=>some cs
 |_=>none
def oQ(off n:Nat)(agg:Bool)(x:DV):qO:=
 match mZ x with
 |some cs=>⟨off+n<=cs.length/\(agg=true\/n=1),if agg then .agg ((cs.drop off).take n)else cs.getD off .undef,none⟩
 |none=>cZ
def Dd :DV->Option Int
 |.v (.int _ n)=>some n
 |_=>none
def De:Option DV->Option Int
 |none=>some 0
 |some d=>Dd d
def Df(n:Int):Option DV->Option Int
 |none=>some n
 |some d=>Dd d
def jA(sz:Nat)(lo hi:Option DV)(ab:bq):DV->qO
 |.v (.sl av)=>
  match De lo,Df av.length hi with
  |some l,some h=>⟨0<=l/\l<=h/\h<=av.length/\(∀r∈av,r.length=sz),.v (.sl ((av.take h.toNat).drop l.toNat)),none⟩
  |_,_=>cZ
 |.aW=>
  match De lo,Df 0 hi with
  |some l,some h=>⟨l=0/\h=0,.aW,none⟩
  |_,_=>cZ
 |.bA r bD=>match ab r with
  |some (.arr cg _ iG av)=>match De lo,Df av.length hi with
   |some l,some h=>⟨bD=cg/\iG=sz/\0<=l/\l<=h/\h<=av.length,.u9 r bD l.toNat (h.toNat-l.toNat),none⟩
   |_,_=>cZ
  |_=>cZ
 |.u9 r bD lo' n=>match ab r with
  |some (.arr cg _ iG av)=>match De lo,Df n hi with
   |some l,some h=>⟨bD=cg/\iG=sz/\0<=l/\l<=h/\h<=n,.u9 r bD (lo'+l.toNat) (h.toNat-l.toNat),none⟩
   |_,_=>cZ
  |_=>cZ
 |_=>cZ
def r8(i:Nat):DV->qO
 |.v (.eo ts)=>⟨i<ts.length,.v (ts.getD i default),none⟩
 |.eo ds=>⟨i<ds.length,ds.getD i .undef,none⟩
 |_=>cZ
def wC(ab:bq):DV->qO
 |.v (.sl av)=>⟨True,.v (.int .i64 av.length),none⟩
 |.aW=>⟨True,.v (.int .i64 0),none⟩
 |.bA r bD=>match ab r with
  |some (.arr cg _ _ av)=>⟨bD=cg,.v (.int .i64 av.length),none⟩
  |_=>cZ
 |.u9 _ _ _ n=>⟨True,.v (.int .i64 n),none⟩
 |.F9 _ n=>⟨True,.v (.int .i64 n),none⟩
 |_=>cZ
def vd:DV->qO
 |.v (.str s)=>⟨True,.v (.int .i64 s.size),none⟩
 |_=>cZ
def oD(isMax:Bool):DV->DV->qO
 |.v (.int k a),.v (.int k' b)=>⟨k=k',.v (.int k (if isMax then max a b else min a b)),none⟩
 |_,_=>cZ
def fL(ab:bq):DV->Option (List (aK))
 |.v (.sl av)=>some av
 |.aW=>some []
 |.bA r bD=>match ab r with
  |some (.arr cg _ _ av)=>if bD=cg then some av else none
  |_=>none
 |.u9 r bD lo n=>match ab r with
  |some (.arr cg _ _ av)=>if bD=cg then some ((av.drop lo).take n)else none
  |_=>none
 |.v (.mg (.slice _ 0 _))=>some []
 |_=>none
def dK(bytes n:Nat):Prop:=n*bytes<=140737488355328/\n<=140737488355328
def ir(e sz bytes:Nat)(name:Nat)(ab:bq)(x y:DV):qO:=
 match fL ab y with
 |none=>cZ
 |some ys=>
  match x with
  |.aW=>⟨(∀r∈ys,r.length=sz)/\dK bytes ys.length,.bA name 0,some (name,.arr 0 e sz ys)⟩
  |.bA r bD=>match ab r with
   |some (.arr cg e' iG av)=>⟨bD=cg/\e'=e/\iG=sz/\(∀r∈ys,r.length=sz)/\dK bytes (av.length+ys.length),.bA r (bD+1),some (r,.arr (bD+1) e sz (av++ys))⟩
   |_=>cZ
  |.u9 r bD 0 n=>match ab r with
   |some (.arr cg e' iG av)=>⟨bD=cg/\e'=e/\iG=sz/\(∀r∈ys,r.length=sz)/\dK bytes (n+ys.length),.bA r (bD+1),some (r,.arr (bD+1) e sz (av.take n++ys))⟩
   |_=>cZ
  |_=>cZ
def lH(e sz bytes:Nat)(zero:aK)(name:Nat):DV->qO
 |.v (.int _ n)=>⟨0<=n/\zero.length=sz/\dK bytes n.toNat,.bA name 0,some (name,.arr 0 e sz (List.replicate n.toNat zero))⟩
 |_=>cZ
def Gx:T->DV
 |.sl []=>.aW
 |t=>.v t
def gh(sz bytes:Nat)(zero:aK)(name:Nat):DV->qO
 |.v (.int _ n)=>⟨0<=n/\zero.length=sz/\dK bytes n.toNat,.F9 name n.toNat,some (name,.box (List.replicate n.toNat (zero.map Gx)).flatten)⟩
 |_=>cZ
def jN(sz:Nat)(ab:bq)(x y:DV):qO:=
 match fL ab y with
 |none=>cZ
 |some ys=>
  match x with
  |.bA r bD=>match ab r with
   |some (.arr cg e iG av)=>⟨bD=cg/\iG=sz/\(∀r∈ys,r.length=sz),.v (.int .i64 (min ys.length av.length:Nat)),some (r,.arr bD e sz (cy av 0 (ys.take av.length)))⟩
   |_=>cZ
  |.u9 r bD lo n=>match ab r with
   |some (.arr cg e iG av)=>⟨bD=cg/\iG=sz/\(∀r∈ys,r.length=sz),.v (.int .i64 (min ys.length n:Nat)),some (r,.arr bD e sz (cy av lo (ys.take n)))⟩
   |_=>cZ
  |_=>cZ
def gj(kind:Nat)(neg:Bool)(ab:bq):DV->qO
 |.v (.mg (.slice p _ _))=>⟨kind=0,.v (.bool (neg^^p.isNone)),none⟩
 |.v (.mg (.pointer p))=>⟨kind=1,.v (.bool (neg^^p.isNone)),none⟩
 |.v (.mg .nilFunc)=>⟨kind=2,.v (.bool (neg^^true)),none⟩
 |.v (.sl av)=>⟨kind=0/\av≠[],.v (.bool (neg^^false)),none⟩
 |.v (.fn (.func _) _)=>⟨kind=2,.v (.bool (neg^^false)),none⟩
 |.v (.box _)=>⟨kind=1,.v (.bool (neg^^false)),none⟩
 |.ptr _ _|.iD _ _|.l7 _ _ _|.ka _ _ _ _=>⟨kind=1,.v (.bool (neg^^false)),none⟩
 |.nG (.func _) _=>⟨kind=2,.v (.bool (neg^^false)),none⟩
 |.bA r bD=>match ab r with
  |some (.arr cg _ _ av)=>⟨kind=0/\bD=cg/\av≠[],.v (.bool (neg^^false)),none⟩
  |_=>cZ
 |_=>cZ
def oE:DV->DV->qO
 |.v (.str s),.v (.int _ i)=>⟨0<=i/\i<s.size,.v (.int .u8 (s.data.getD i.toNat 0).toNat),none⟩
 |_,_=>cZ
def eM(cj:List Sh)(agg:Bool):T->Prop
 |.agg as=>agg=true/\eL cj as
 |t=>agg=false/\eL cj [t]
def NW:bB->Option (aK)
 |[]=>some []
 |.v t::ds=>(NW ds).map (t::·)
 |_::_=>none
def zV:DV->Option T
 |.v t=>some t
 |.agg cs=>(NW cs).map .agg
 |_=>none
def qP(k:T)(es:List (Nat×T×DV)):Option (Nat×T×DV):=es.find? λe=>gO k e.2.1
def HJ(k:T)(y:DV)(clock:Nat)(es:List (Nat×T×DV)):List (Nat×T×DV):=
 match es.findIdx? λe=>gO k e.2.1 with
 |some i=>es.modify i λe=>(e.1,e.2.1,y)
 |none=>es++[(clock,k,y)]
def oR(k:T)(clock:Nat)(es:List (Nat×T×DV)):Nat:=
 match es.findIdx? λe=>gO k e.2.1 with
 |some _=>clock
 |none=>clock+1
def delE(k:T)(es:List (Nat×T×DV)):List (Nat×T×DV):=
 match es.findIdx? λe=>gO k e.2.1 with
 |some i=>es.eraseIdx i
 |none=>es
def mw(cj:List Sh)(agg:Bool)(zero:DV)(ok:Bool)(ab:bq)(x k:DV):qO:=
 match x,zV k with
 |.iE r,some kt=>match ab r with
  |some (.map kq kr _ es)=>⟨kq=cj/\kr=agg/\eM cj agg kt,
    match qP kt es with
    |some e=>if ok then .eo [e.2.2,.v (.bool true)]else e.2.2
    |none=>if ok then .eo [zero,.v (.bool false)]else zero,none⟩
  |_=>cZ
 |_,_=>cZ
def ja(cj:List Sh)(agg:Bool)(ab:bq)(x k y:DV):qO:=
 match x,zV k with
 |.iE r,some kt=>match ab r with
  |some (.map kq kr c es)=>⟨kq=cj/\kr=agg/\eM cj agg kt/\mO y,.undef,some (r,.map cj agg (oR kt c es) (HJ kt y c es))⟩
  |_=>cZ
 |_,_=>cZ
def entE(k:T)(z:DV)(clock:Nat)(es:List (Nat×T×DV)):List (Nat×T×DV):=
 match es.findIdx? λe=>gO k e.2.1 with
 |some _=>es
 |none=>es++[(clock,k,z)]
def entV(k:T)(z:DV)(clock:Nat)(es:List (Nat×T×DV)):DV:=
 match qP k es with
 |some e=>.eo [e.2.2,.v (.int .i64 e.1)]
 |none=>.eo [z,.v (.int .i64 clock)]
def jd(cj:List Sh)(agg:Bool)(zero:DV)(ab:bq)(x k:DV):qO:=
 match x,zV k with
 |.iE r,some kt=>match ab r with
  |some (.map kq kr c es)=>⟨kq=cj/\kr=agg/\eM cj agg kt,
    entV kt zero c es,some (r,.map cj agg (oR kt c es) (entE kt zero c es))⟩
  |_=>cZ
 |_,_=>cZ
def setB(b:Int)(y:DV)(es:List (Nat×T×DV)):Option (List (Nat×T×DV)):=
 (es.findIdx? λe=>(e.1:Int)==b).map λi=>es.modify i λe=>(e.1,e.2.1,y)
def ku(ab:bq)(x s y:DV):qO:=
 match x,s with
 |.iE r,.v (.int _ b)=>match ab r with
  |some (.map cj agg c es)=>match setB b y es with
   |some m0=>⟨True,.undef,some (r,.map cj agg c m0)⟩
   |none=>cZ
  |_=>cZ
 |_,_=>cZ
def je(cj:List Sh)(agg:Bool)(ab:bq)(x k:DV):qO:=
 match x,zV k with
 |.iE r,some kt=>match ab r with
  |some (.map kq kr c es)=>⟨kq=cj/\kr=agg/\eM cj agg kt,.v (.eo []),some (r,.map cj agg c (delE kt es))⟩
  |_=>cZ
 |_,_=>cZ
def r9(ab:bq):DV->qO
 |.iE r=>match ab r with
  |some (.map _ _ _ es)=>⟨True,.v (.int .i64 es.length),none⟩
  |_=>cZ
 |_=>cZ
def kU(name:Nat)(ab:bq):DV->qO
 |.iE r=>match ab r with
  |some (.map _ _ c _)=>⟨True,.iter name,some (name,.iter r c [] c)⟩
  |_=>cZ
 |_=>cZ
def kV(ab:bq):DV->qO
 |.iter r=>match ab r with
  |some (.iter m _ seen last)=>match ab m,seen.getLast? with
   |some (.map _ _ c es),some b=>match es.find? λe=>e.1==b with
    |some e=>⟨c=last,.eo [.v e.2.1,e.2.2],none⟩
    |none=>cZ
   |_,_=>cZ
  |_=>cZ
 |_=>cZ
def pV(Γ:pI)(f:FuncId)(ab:bq)(args:bB):qO:=
 match Γ f with
 |some s=>⟨tA s.jz ab args/\s.pre (ji ab args),.v (s.fn (ji ab args)),none⟩
 |none=>cZ
mutual
def aN:DV->cO
 |.ptr r _|.bA r _|.ka r _ _ _|.iE r|.iter r|.u9 r _ _ _|.F9 r _=>[r]
 |.agg cs|.eo cs|.nG _ cs=>bM cs
 |_=>[]
def bM:bB->cO
 |[]=>[]
 |d::ds=>aN d++bM ds
end
def Bi(ab:bq)(args:bB):bq:=λn=>if n∈bM args then ab n else none
def wD(k:bB->bq->fI)(args:bB)(ab:bq):Prop:=
 ∀aI,(∀n∈bM args,aI n=ab n)->(k args aI).ok/\(k args aI).ab=aI/\(k args aI).val=(k args (Bi ab args)).val
def oS(Γ:pI)(f:FuncId)(ab:bq)(args:bB):qO:=
 match Γ f with
 |some s=>match s.st with
  |some k=>⟨wD k args ab,(k args (Bi ab args)).val,none⟩
  |none=>cZ
 |none=>cZ
def HK{Γ:pI}{f:FuncId}{ab aI:bq}{args:bB}(h:∀n∈bM args,aI n=ab n):oS Γ f aI args=oS Γ f ab args:=by
 have h1:Bi aI args=Bi ab args:=by
  funext n;unfold Bi;split
  ·rename_i hn;exact h n hn
  ·rfl
 have h2:∀k,wD k args aI=wD k args ab:=by
  intro k;unfold wD;rw[h1];apply propext;constructor
  ·exact λH o ho=>H o λn hn=>(ho n hn).trans (h n hn).symm
  ·exact λH o ho=>H o λn hn=>(ho n hn).trans (h n hn)
 unfold oS;simp only[h1,h2]
def oT(Γ:pI)(f:FuncId)(name:Nat)(ab:bq)(args:bB):qO:=
 match Γ f with
 |some s=>match s.fresh,s.fn (ji ab args)with
  |some (e,sz),.sl av=>⟨tA s.fY ab args/\s.pre (ji ab args),.bA name 0,some (name,.arr 0 e sz av)⟩
  |_,_=>cZ
 |none=>cZ
def dj(Γ:pI)(d:rO)(name:Nat)(ρ:dw)(ab:bq):qO:=
 match d with
 |.qu x=>⟨True,x.ev ρ,none⟩
 |.pick c a b=>match c.ev ρ with
  |.v (.bool t)=>⟨True,if t then a.ev ρ else b.ev ρ,none⟩
  |_=>cZ
 |.alloc zero=>⟨True,.ptr name 0,some (name,.box zero)⟩
 |.box x=>⟨mO (x.ev ρ),.ptr name 0,some (name,.box (cellsOf (x.ev ρ)))⟩
 |.build zero parts=>⟨t8 zero.length (parts.map λp=>(p.1,p.2.1,p.2.2.ev ρ)),.agg (vZ zero (parts.map λp=>(p.1,p.2.1,p.2.2.ev ρ))),none⟩
 |.bslice len sz zero parts=>
  if len=0 then⟨parts=[],.aW,none⟩else
  ⟨t8 (len*sz) (parts.map λp=>(p.1,p.2.1,p.2.2.ev ρ))/\iZ (vZ zero (parts.map λp=>(p.1,p.2.1,p.2.2.ev ρ))),
   .v (.sl (fU sz len (ji (λ_=>none) (vZ zero (parts.map λp=>(p.1,p.2.1,p.2.2.ev ρ)))))),none⟩
 |.load n agg x=>iF n agg ab (x.ev ρ)
 |.store n x y=>lG n ab (y.ev ρ) (x.ev ρ)
 |.bin op x y=>ua op (x.ev ρ) (y.ev ρ)
 |.eqT neg agg cj x y=>⟨F3 true ab (x.ev ρ)/\F3 true ab (y.ev ρ)/\(Dc neg agg cj (tz ab (x.ev ρ)) (tz ab (y.ev ρ))).ok,(Dc neg agg cj (tz ab (x.ev ρ)) (tz ab (y.ev ρ))).val,none⟩
 |.un op x=>Qq op (x.ev ρ)
 |.conv k x=>match x.ev ρ with
  |.v (.int _ n)=>⟨True,.v (.int k (k.wrap n)),none⟩
  |_=>cZ
 |.addOff k x=>iq k (x.ev ρ)
 |.nilCheck x=>kT (x.ev ρ)
 |.idxAddr sz x i=>rZ sz ab (x.ev ρ) (i.ev ρ)
 |.arrAddr len sz x i=>kK len sz (x.ev ρ) (i.ev ρ)
 |.field off n agg x=>oQ off n agg (x.ev ρ)
 |.slice sz x lo hi=>jA sz (lo.map (·.ev ρ)) (hi.map (·.ev ρ)) ab (x.ev ρ)
 |.extract i x=>r8 i (x.ev ρ)
 |.call f args=>pV Γ f ab (args.map (·.ev ρ))
 |.callF f args=>oT Γ f name ab (args.map (·.ev ρ))
 |.callR f args=>oS Γ f ab (args.map (·.ev ρ))
 |.callS _ _|.callv _ _|.entryM _=>cZ
 |.len x=>wC ab (x.ev ρ)
 |.lenS x=>vd (x.ev ρ)
 |.minmax m x y=>oD m (x.ev ρ) (y.ev ρ)
 |.append e sz bytes x y=>ir e sz bytes name ab (x.ev ρ) (y.ev ρ)
 |.mkSlice e sz bytes zero n=>lH e sz bytes zero name (n.ev ρ)
 |.mkSliceB e sz bytes zero n=>gh sz bytes zero name (n.ev ρ)
 |.mkFn f bY=>⟨eX (bY.map (·.ev ρ)),if xU (bY.map (·.ev ρ))then .v (.fn f (ji (λ_=>none) (bY.map (·.ev ρ))))else .nG f (bY.map (·.ev ρ)),none⟩
 |.mkMap cj agg=>⟨True,.iE name,some (name,.map cj agg 0 [])⟩
 |.lookup cj agg zero ok x k=>mw cj agg zero ok ab (x.ev ρ) (k.ev ρ)
 |.mapUpd cj agg x k y=>ja cj agg ab (x.ev ρ) (k.ev ρ) (y.ev ρ)
 |.mapDel cj agg x k=>je cj agg ab (x.ev ρ) (k.ev ρ)
 |.mapEnt cj agg z x k=>jd cj agg z ab (x.ev ρ) (k.ev ρ)
 |.entSt x s y=>ku ab (x.ev ρ) (s.ev ρ) (y.ev ρ)
 |.lenM x=>r9 ab (x.ev ρ)
 |.rangeM x=>kU name ab (x.ev ρ)
 |.copy sz x y=>jN sz ab (x.ev ρ) (y.ev ρ)
 |.isNil kind neg x=>gj kind neg ab (x.ev ρ)
 |.indexS x i=>oE (x.ev ρ) (i.ev ρ)
 |.fail=>cZ
def rP:rO->Bool
 |.callS _ _|.callv _ _|.entryM _=>true
 |_=>false
structure SEff where
 ok:Prop
 val:DV
 ab:bq
 todo:List (aK)
class dL where
 k:Option (Nat×(bB->bq->fI))
 aN:∀l k',k=some (l,k')->∀args ab,(k' args ab).ok->∀x,ab x=none->(k' args ab).ab x=none
instance(priority:=low)Qr:dL:=⟨none,λ_ _ h=>by cases h⟩
@[simp] def noYield_k: @dL.k Qr=none:=rfl
def yIs:DV->Prop
 |.v (.bool _)=>True
 |_=>False
def yGo:DV->Bool
 |.v (.bool b)=>b
 |_=>false
@[simp] def yIs_bool(b:Bool):yIs (.v (.bool b))=True:=rfl
@[simp] def XA(b:Bool):yGo (.v (.bool b))=b:=rfl
variable [dL]
def oi(Γ:pI)(d:rO)(ρ:dw)(ab:bq)(todo:List (aK)):SEff:=
 match d with
 |.callS f args=>match Γ f with
  |some s=>match s.st with
   |some k=>⟨(k (args.map (·.ev ρ)) ab).ok,(k (args.map (·.ev ρ)) ab).val,(k (args.map (·.ev ρ)) ab).ab,todo⟩
   |none=>⟨False,.undef,ab,todo⟩
  |none=>⟨False,.undef,ab,todo⟩
 |.callv x args=>match x.ev ρ with
  |.v (.fn (.func f) bY)=>match Γ f with
   |some s=>match s.st with
    |some k=>⟨(k (args.map (·.ev ρ)++bY.map .v) ab).ok,(k (args.map (·.ev ρ)++bY.map .v) ab).val,(k (args.map (·.ev ρ)++bY.map .v) ab).ab,todo⟩
    |none=>⟨(pV Γ f ab (args.map (·.ev ρ)++bY.map .v)).ok,(pV Γ f ab (args.map (·.ev ρ)++bY.map .v)).val,ab,todo⟩
   |none=>⟨False,.undef,ab,todo⟩
  |.nG (.func f) bY=>match Γ f with
   |some s=>match s.st with
    |some k=>⟨(k (args.map (·.ev ρ)++bY) ab).ok,(k (args.map (·.ev ρ)++bY) ab).val,(k (args.map (·.ev ρ)++bY) ab).ab,todo⟩
    |none=>⟨False,.undef,ab,todo⟩
   |none=>⟨False,.undef,ab,todo⟩
  |.NV=>match todo with
   |x::rest=>⟨dL.k=none/\tA false ab (args.map (·.ev ρ))/\ji ab (args.map (·.ev ρ))=x/\ab=(λ_=>none),.v (.bool true),ab,rest⟩
   |[]=>⟨False,.undef,ab,todo⟩
  |.v (.mg v)=>match dL.k with
   |some (l,k)=>⟨v=.func (.yield l) #[] #[]/\todo≠[]/\(k (args.map (·.ev ρ)) ab).ok/\yIs (k (args.map (·.ev ρ)) ab).val,(k (args.map (·.ev ρ)) ab).val,(k (args.map (·.ev ρ)) ab).ab,if yGo (k (args.map (·.ev ρ)) ab).val then todo else []⟩
   |none=>⟨False,.undef,ab,todo⟩
  |_=>⟨False,.undef,ab,todo⟩
 |.entryM x=>⟨(kV ab (x.ev ρ)).ok,(kV ab (x.ev ρ)).val,ab,todo⟩
 |_=>⟨False,.undef,ab,todo⟩
open Go.RowKit
section
variable{base r:Nat}{M:fo}{ds:bB}{vs:List Value}{w0:World}
structure Fr(base:Nat)(M:fo)(w0 w:World):Prop where
 os:w.os=w0.os
 tape:w.tape=w0.tape
 output:w.output=w0.output
 jq:base<=w0.heap.size
 size:w0.heap.size<=w.heap.size
 block:∀k,k<base->¬M k->w.heap[k]? =w0.heap[k]?
 drawn:w0.drawn<=w.drawn
def Fr.refl{w:World}(h:base<=w.heap.size):Fr base M w w:=⟨rfl,rfl,rfl,h,Zaf _,λ_ _ _=>rfl,Zaf _⟩
def Fr.trans{a b c:World}(h:Fr base M a b)(k:Fr base M b c):Fr base M a c:=
 ⟨k.os.trans h.os,k.tape.trans h.tape,k.output.trans h.output,h.jq,ZaP h.size k.size,λi hi hm=>(k.block i hi hm).trans (h.block i hi hm),ZaP h.drawn k.drawn⟩
structure Loc where
 blk:Nat->Nat
 sl:Nat->Value
 yl:Nat:=0
def aX:Value->Option Nat
 |.slice (some a) _ c=>if c=0 then none else some a.block
 |_=>none
def Loc.own(L:Loc)(r:Nat):Ob->Option Nat
 |.arr _ _ _ _=>aX (L.sl r)
 |_=>some (L.blk r)
def WW(W:fo)(ab:bq)(L:Loc)(b:Nat):Prop:=W b\/∃r o,ab r=some o/\L.own r o=some b
section
variable(w:World)(W:fo)(ab:bq)(L:Loc)
mutual
def aA:DV->Value->Prop
 |.undef,_=>True
 |.skip,x=>x=Go.undef
 |.v t,x=>bj w (WW W ab L) t x
 |.aW,x=>∃a:Option Addr,x=.slice a 0 0
 |.ptr r off,x=>(∃cs,ab r=some (.box cs))/\x=.pointer (some ⟨L.blk r,off,none⟩)
 |.bA r bD,x=>(∃(p:Option Addr) (n c:Nat),x=.slice p n c)/\∃cg e sz av,ab r=some (.arr cg e sz av)/\bD<=cg/\(bD=cg->x=L.sl r)
 |.l7 av i off,x=>∃b o sz,x=.pointer (some ⟨b,o+i.toNat*sz+off,none⟩)/\b<w.heap.size/\¬WW W ab L b/\bw w (WW W ab L) sz b o av/\0<=i/\i<av.length
 |.iD cs off,x=>∃b o,x=.pointer (some ⟨b,o+off,none⟩)/\b<w.heap.size/\¬WW W ab L b/\ed w (WW W ab L) b o cs
 |.ka r bD i off,x=>(∃b o,x=.pointer (some ⟨b,o,none⟩))/\∃cg e sz av,ab r=some (.arr cg e sz av)/\bD<=cg/\(bD=cg->∃g,aX (L.sl r)=some g/\x=.pointer (some ⟨g,i.toNat*sz+off,none⟩)/\0<=i/\i<av.length)
 |.agg cs,x=>∃vs,x=.agg vs/\aQ cs vs.toList
 |.NV,x=>x=.func (.yield L.yl) #[] #[]
 |.iE r,x=>(∃cj agg c es,ab r=some (.map cj agg c es))/\x=.map (some (L.blk r))
 |.iter r,x=>(∃m s sn l,ab r=some (.iter m s sn l))/\x=.pointer (some ⟨L.blk r,0,none⟩)
 |.eo ds,x=>∃vs,x=.tuple vs/\eE ds vs.toList
 |.u9 r bD lo n,x=>(∃(p:Option Addr) (c:Nat),x=.slice p n c)/\∃cg e sz av,ab r=some (.arr cg e sz av)/\bD<=cg/\(bD=cg->lo+n<=av.length/\∃p cap p2,L.sl r=.slice p av.length cap/\x=.slice p2 n (cap-lo)/\(lo<cap->p2=p.map (·.add (lo*sz))))
 |.nG f bY,x=>∃vs,x=.func f #[] vs/\aQ bY vs.toList
 |.F9 r n,x=>(∃cs,ab r=some (.box cs))/\x=.slice (some ⟨L.blk r,0,none⟩) n n
def aQ:bB->List Value->Prop
 |[],vs=>vs=[]
 |d::ds,vs=>∃x vs',vs=x::vs'/\x.oneCell'=true/\aA d x/\aQ ds vs'
def eE:bB->List Value->Prop
 |[],vs=>vs=[]
 |d::ds,vs=>∃x vs',vs=x::vs'/\aA d x/\eE ds vs'
end
def bJ:List (Nat×T×DV)->List MapEntry->Prop
 |[],xs=>xs=[]
 |e::es,xs=>∃x lz,xs=x::lz/\x.born=e.1/\bj w (WW W ab L) e.2.1 x.key/\aA w W ab L e.2.2 x.val/\bJ es lz
def pL(base:Nat)(M:fo)(r:Nat):Ob->Prop
 |.box cs=>∃c e,w.heap[L.blk r]? =some (.cells c e (0,0))/\aQ w W ab L cs c.toList/\(base<=L.blk r\/M (L.blk r))
 |.arr _ e sz av=>0<sz/\(∀x∈av,x.length=sz)/\(∀g,aX (L.sl r)=some g->base<=g\/M g)/\
   ((av=[]/\∃a:Option Addr,L.sl r=.slice a 0 0)\/
    ∃g cap cur,L.sl r=.slice (some ⟨g,0,none⟩) av.length cap/\0<cap/\w.heap[g]? =some (.cells cur e (0,0))/\av.length<=cap/\cap<=maxLen/\cur.size=cap*sz/\
     bf w (WW W ab L) av.flatten (cur.toList.take (av.length*sz)))
 |.map cj agg c es=>∃arr,w.heap[L.blk r]? =some (.map arr c)/\bJ w W ab L es arr.toList/\(∀e∈es,eM cj agg e.2.1)/\(∀e∈es,e.1<c)/\(es.map (·.1)).Nodup/\(base<=L.blk r\/M (L.blk r))
 |.iter m s sn l=>w.heap[L.blk r]? =some (.mapIter (some (L.blk m)) s sn.toArray l)/\(∃cj agg c es,ab m=some (.map cj agg c es))/\(base<=L.blk r\/M (L.blk r))
end
variable [bI]
structure ct(base:Nat)(W M:fo)(w0:World)(ab:bq)(w:World)(L:Loc):Prop where
 fr:Fr base M w0 w
 ob:∀r o,ab r=some o->pL w W ab L base M r o
 apart:∀r r' o o' b,r≠r'->ab r=some o->ab r'=some o'->L.own r o=some b->L.own r' o'≠some b
 qQ:∀r o b,ab r=some o->L.own r o=some b->¬W b
 under:∀b,W b->b<base
 gl:F2 w (WW W ab L)
structure B4(W W':fo)(ab:bq)(L:Loc)(w:World)(aI:bq)(L':Loc)(w':World):Prop where
 dx:dg (WW W ab L) w w'
 sub:∀b,b<w.heap.size->WW W' aI L' b->WW W ab L b
 fix:∀r o,ab r=some o->o.kind≠1->L'.blk r=L.blk r/\∃o',aI r=some o'/\o'.kind=o.kind
 arr:∀r bD e sz av,ab r=some (.arr bD e sz av)->∃cg e' iG eN,aI r=some (.arr cg e' iG eN)/\bD<=cg/\(cg=bD->L'.sl r=L.sl r/\iG=sz/\eN.length=av.length)
 yl:L'.yl=L.yl
def kind0{o:Ob}(h:o.kind=0):∃cs,o=.box cs:=by cases o<;>first|exact⟨_,rfl⟩|cases h
def kind2{o:Ob}(h:o.kind=2):∃cj agg c es,o=.map cj agg c es:=by cases o<;>first|exact⟨_,_,_,_,rfl⟩|cases h
def kind3{o:Ob}(h:o.kind=3):∃m s sn l,o=.iter m s sn l:=by cases o<;>first|exact⟨_,_,_,_,rfl⟩|cases h
section
variable{W W':fo}{ab:bq}{L:Loc}{w:World}{aI:bq}{L':Loc}{w':World}
def B4.box(h:B4 W W' ab L w aI L' w')(r:Nat)(cs:bB)(hr:ab r=some (.box cs)):L'.blk r=L.blk r/\∃cs',aI r=some (.box cs'):=by
 obtain⟨h1,o',h2,h3⟩:=h.fix r _ hr (by simp[Ob.kind]);obtain⟨cs',rfl⟩:=kind0 h3;exact⟨h1,cs',h2⟩
def B4.mp(h:B4 W W' ab L w aI L' w')(r:Nat)(hr:∃cj agg c es,ab r=some (.map cj agg c es)):L'.blk r=L.blk r/\∃cj agg c es,aI r=some (.map cj agg c es):=by
 obtain⟨_,_,_,_,hr⟩:=hr;obtain⟨h1,o',h2,h3⟩:=h.fix r _ hr (by simp[Ob.kind]);obtain⟨a,b,c,d,rfl⟩:=kind2 h3;exact⟨h1,a,b,c,d,h2⟩
def B4.it(h:B4 W W' ab L w aI L' w')(r:Nat)(hr:∃m s sn l,ab r=some (.iter m s sn l)):L'.blk r=L.blk r/\∃m s sn l,aI r=some (.iter m s sn l):=by
 obtain⟨_,_,_,_,hr⟩:=hr;obtain⟨h1,o',h2,h3⟩:=h.fix r _ hr (by simp[Ob.kind]);obtain⟨a,b,c,d,rfl⟩:=kind3 h3;exact⟨h1,a,b,c,d,h2⟩
end
abbrev gP(W:fo)(ab:bq)(L:Loc)(w:World)(aI:bq)(L':Loc)(w':World):Prop:=B4 W W ab L w aI L' w'
def gP.cQ{W:fo}{ab:bq}{L:Loc}{w w':World}(h:dg (WW W ab L) w w'):gP W ab L w ab L w':=
 ⟨h,λ_ _ x=>x,λ_ o hr _=>⟨rfl,o,hr,rfl⟩,λ_ bD e sz av hr=>⟨bD,e,sz,av,hr,Zaf _,λ_=>⟨rfl,rfl,rfl⟩⟩,rfl⟩
mutual
def aA.eZ{W W':fo}{ab aI:bq}{L L':Loc}{w w':World}(h:B4 W W' ab L w aI L' w'):∀(d:DV) (x:Value),aA w W ab L d x->aA w' W' aI L' d x
 |.undef,x,r=>by simp[aA]
 |.skip,x,r=>by simpa [aA]using r
 |.v t,x,r=>by
  simp only[aA]at r⊢;exact bj.bi h.dx.toKeepsC h.sub t x r
 |.aW,x,r=>by simpa [aA]using r
 |.ptr n off,x,r=>by
  simp only[aA]at r⊢;obtain⟨⟨cs,hc⟩,hx⟩:=r;have hb:=h.box n cs hc;exact⟨hb.2,by rw[hb.1];exact hx⟩
 |.bA n bD,x,r=>by
  simp only[aA]at r⊢;obtain⟨Kl,cg,e,sz,av,ho,jy,hx⟩:=r;obtain⟨qw,e2,Gy,lI,nH,Km,hs⟩:=h.arr n cg e sz av ho;refine⟨Kl,qw,e2,Gy,lI,nH,ZaP jy Km,λhv=>?_⟩;have h1:qw=cg:=by omega
  rw[(hs h1).1];exact hx (by omega)
 |.l7 av i off,x,r=>by
  simp only[aA]at r⊢;obtain⟨b,o,sz,hx,hb,hn,hr,h0,h1⟩:=r;exact⟨b,o,sz,hx,Zbz hb h.dx.size,λc=>hn (h.sub b hb c),bw.bi h.dx.toKeepsC h.sub hb hn sz o av hr,h0,h1⟩
 |.iD cs off,x,r=>by
  simp only[aA]at r⊢;obtain⟨b,o,hx,hb,hn,hr⟩:=r;exact⟨b,o,hx,Zbz hb h.dx.size,λc=>hn (h.sub b hb c),ed.bi h.dx.toKeepsC h.sub hb hn o cs hr⟩
 |.ka n bD i off,x,r=>by
  simp only[aA]at r⊢;obtain⟨Kl,cg,e,sz,av,ho,jy,hx⟩:=r;obtain⟨qw,e2,Gy,lI,nH,Km,hs⟩:=h.arr n cg e sz av ho;refine⟨Kl,qw,e2,Gy,lI,nH,ZaP jy Km,λhv=>?_⟩;have h1:qw=cg:=by omega
  obtain⟨g,hg,hp,h0,hl⟩:=hx (by omega);obtain⟨s1,s2,s3⟩:=hs h1;exact⟨g,by rw[s1];exact hg,by rw[s2];exact hp,h0,by rw[s3];exact hl⟩
 |.agg cs,x,r=>by
  simp only[aA]at r⊢;obtain⟨vs,hv,hr⟩:=r;exact⟨vs,hv,aQ.eZ h cs _ hr⟩
 |.NV,x,r=>by simp only[aA]at r⊢;rw[h.yl];exact r
 |.iE n,x,r=>by
  simp only[aA]at r⊢;have:=h.mp n r.1;exact⟨this.2,by rw[this.1];exact r.2⟩
 |.iter n,x,r=>by
  simp only[aA]at r⊢;have:=h.it n r.1;exact⟨this.2,by rw[this.1];exact r.2⟩
 |.eo ds,x,r=>by
  simp only[aA]at r⊢;obtain⟨vs,hv,hr⟩:=r;exact⟨vs,hv,eE.eZ h ds _ hr⟩
 |.nG f ds,x,r=>by
  simp only[aA]at r⊢;obtain⟨vs,hv,hr⟩:=r;exact⟨vs,hv,aQ.eZ h ds _ hr⟩
 |.F9 n m,x,r=>by
  simp only[aA]at r⊢;obtain⟨⟨cs,hc⟩,hx⟩:=r;have hb:=h.box n cs hc;exact⟨hb.2,by rw[hb.1];exact hx⟩
 |.u9 n bD lo m,x,r=>by
  simp only[aA]at r⊢;obtain⟨Kl,cg,e,sz,av,ho,jy,hx⟩:=r;obtain⟨qw,e2,Gy,lI,nH,Km,hs⟩:=h.arr n cg e sz av ho;refine⟨Kl,qw,e2,Gy,lI,nH,ZaP jy Km,λhv=>?_⟩;have h1:qw=cg:=by omega
  obtain⟨k1,p,cap,p2,k2,k3,k4⟩:=hx (by omega);obtain⟨s1,s2,s3⟩:=hs h1;exact⟨by rw[s3];exact k1,p,cap,p2,by rw[s1,s3];exact k2,k3,by rw[s2];exact k4⟩
def aQ.eZ{W W':fo}{ab aI:bq}{L L':Loc}{w w':World}(h:B4 W W' ab L w aI L' w'):∀(ds:bB) (xs:List Value),aQ w W ab L ds xs->aQ w' W' aI L' ds xs
 |[],xs,r=>by simpa [aQ]using r
 |d::ds,xs,r=>by
  simp only[aQ]at r⊢;obtain⟨x,lz,hx,h1,hr,mt⟩:=r;exact⟨x,lz,hx,h1,aA.eZ h d x hr,aQ.eZ h ds lz mt⟩
def eE.eZ{W W':fo}{ab aI:bq}{L L':Loc}{w w':World}(h:B4 W W' ab L w aI L' w'):∀(ds:bB) (xs:List Value),eE w W ab L ds xs->eE w' W' aI L' ds xs
 |[],xs,r=>by simpa [eE]using r
 |d::ds,xs,r=>by
  simp only[eE]at r⊢;obtain⟨x,lz,hx,hr,mt⟩:=r;exact⟨x,lz,hx,aA.eZ h d x hr,eE.eZ h ds lz mt⟩
end
def bJ.eZ{W W':fo}{ab aI:bq}{L L':Loc}{w w':World}(h:B4 W W' ab L w aI L' w'):∀(es:List (Nat×T×DV)) (xs:List MapEntry),bJ w W ab L es xs->bJ w' W' aI L' es xs
 |[],xs,r=>by simpa [bJ]using r
 |e::es,xs,r=>by
  simp only[bJ]at r⊢;obtain⟨x,lz,hx,h0,h1,hr,mt⟩:=r;exact⟨x,lz,hx,h0,bj.bi h.dx.toKeepsC h.sub _ _ h1,aA.eZ h _ _ hr,bJ.eZ h es lz mt⟩
section
variable{w:World}{W:fo}{ab:bq}{L:Loc}
def aQ.length:∀{ds:bB} {vs:List Value},aQ w W ab L ds vs->vs.length=ds.length
 |[],_,h=>by simp only[aQ]at h;simp[h]
 |_::ds,_,h=>by
  simp only[aQ]at h;obtain⟨v,vs',rfl,_,_,hr⟩:=h;simp[aQ.length hr]
def aQ.get:∀{ds:bB} {vs:List Value} {i:Nat} {d:DV},aQ w W ab L ds vs->ds[i]? =some d->∃v,vs[i]? =some v/\v.oneCell'=true/\aA w W ab L d v
 |[],_,_,_,_,h=>by simp at h
 |x::xs,_,0,t,hr,h=>by
  simp only[aQ]at hr;obtain⟨v,vs',rfl,h1,h2,_⟩:=hr;simp only[ZaF,Zaa]at h;subst h;exact⟨v,rfl,h1,h2⟩
 |x::xs,_,i+1,t,hr,h=>by
  simp only[aQ]at hr;obtain⟨v,vs',rfl,_,_,hr⟩:=hr;simpa using aQ.get hr (by simpa using h)
def aQ.append:∀{ds ds':bB} {vs vs':List Value},aQ w W ab L ds vs->aQ w W ab L ds' vs'->aQ w W ab L (ds++ds') (vs++vs')
 |[],_,_,_,h,h'=>by simp only[aQ]at h;subst h;simpa using h'
 |d::ds,_,_,_,h,h'=>by
  simp only[aQ]at h;obtain⟨v,vs',rfl,h1,h2,hr⟩:=h;simp only[ZaM,aQ];exact⟨v,_,rfl,h1,h2,aQ.append hr h'⟩
def aQ.take(n:Nat)(h:aQ w W ab L ds vs):aQ w W ab L (ds.take n) (vs.take n):=by
 induction n generalizing ds vs with
 |zero=>simp[aQ]
 |succ n ih=>
  cases ds with
  |nil=>simp only[aQ]at h;subst h;simp[aQ]
  |cons d ds=>
   simp only[aQ]at h;obtain⟨v,vs',rfl,h1,h2,hr⟩:=h;simp only[Zcf,aQ];exact⟨v,_,rfl,h1,h2,ih hr⟩
def aQ.drop(n:Nat)(h:aQ w W ab L ds vs):aQ w W ab L (ds.drop n) (vs.drop n):=by
 induction n generalizing ds vs with
 |zero=>simpa using h
 |succ n ih=>
  cases ds with
  |nil=>simp only[aQ]at h;subst h;simp[aQ]
  |cons d ds=>
   simp only[aQ]at h;obtain⟨v,vs',rfl,h1,h2,hr⟩:=h;simpa using ih hr
def bf.append{ts ts':aK}:∀{vs vs':List Value},bf w W ts vs->bf w W ts' vs'->bf w W (ts++ts') (vs++vs'):=by
 induction ts with
 |nil=>intro vs vs' h h';simp only[bf]at h;subst h;simpa using h'
 |cons d ds ih=>
  intro vs vs' h h';simp only[bf]at h;obtain⟨v,vs',rfl,h1,h2,hr⟩:=h;simp only[ZaM,bf];exact⟨v,_,rfl,h1,h2,ih hr h'⟩
def aQ.sa:∀{ts:aK} {vs:List Value},bf w (WW W ab L) ts vs->aQ w W ab L (ts.map .v) vs
 |[],_,h=>by simpa [bf,aQ]using h
 |t::ts,_,h=>by
  simp only[bf]at h;obtain⟨v,vs',rfl,h1,h2,hr⟩:=h;simp only[ZaA,aQ];exact⟨v,vs',rfl,h1,by simpa [aA]using h2,aQ.sa hr⟩
def aA.cells{d:DV}{x:Value}(h:aA w W ab L d x)(hb:mO d):aQ w W ab L (cellsOf d) x.cells.toList:=by
 have one:∀{d:DV} {x:Value},cellsOf d=[d]->x.oneCell'=true->aA w W ab L d x->aQ w W ab L (cellsOf d) x.cells.toList:=by
  intro d x hc h1 h;rw[hc];simp only[aQ];refine⟨x,[], ?_,h1,h,rfl⟩;cases x<;>first|rfl|(simp[Value.oneCell']at h1)
 cases d with
 |undef=>exact hb.elim
 |skip=>exact hb.elim
 |aW=>obtain⟨a,rfl⟩:=(by simpa only[aA]using h);exact one rfl rfl (by simp only[aA];exact⟨a,rfl⟩)
 |ptr r off=>have h':=h;simp only[aA]at h';obtain⟨_,rfl⟩:=h';exact one rfl rfl h
 |bA r bD=>have h':=h;simp only[aA]at h';obtain⟨⟨p,n,c,rfl⟩,_⟩:=h';exact one rfl rfl h
 |l7 av i off=>have h':=h;simp only[aA]at h';obtain⟨b,o,sz,rfl,_⟩:=h';exact one rfl rfl h
 |iD cs off=>have h':=h;simp only[aA]at h';obtain⟨b,o,rfl,_⟩:=h';exact one rfl rfl h
 |ka r bD i off=>have h':=h;simp only[aA]at h';obtain⟨⟨b,o,rfl⟩,_⟩:=h';exact one rfl rfl h
 |agg cs=>simp only[aA]at h;obtain⟨vs,rfl,h⟩:=h;simpa [cellsOf,Value.cells]using h
 |NV=>have h':=h;simp only[aA]at h';subst h';exact one rfl rfl h
 |iE r=>have h':=h;simp only[aA]at h';obtain⟨_,rfl⟩:=h';exact one rfl rfl h
 |iter r=>have h':=h;simp only[aA]at h';obtain⟨_,rfl⟩:=h';exact one rfl rfl h
 |eo ds=>exact hb.elim
 |nG f ds=>have h':=h;simp only[aA]at h';obtain⟨vs,rfl,_⟩:=h';exact one rfl rfl h
 |u9 r bD lo n=>have h':=h;simp only[aA]at h';obtain⟨⟨p,c,rfl⟩,_⟩:=h';exact one rfl rfl h
 |F9 r n=>have h':=h;simp only[aA]at h';obtain⟨_,rfl⟩:=h';exact one rfl rfl h
 |v t=>
  cases t with
  |agg cs=>simp only[aA,bj]at h;obtain⟨vs,rfl,h⟩:=h;simpa [cellsOf,Value.cells]using aQ.sa h
  |eo ts=>exact hb.elim
  |bool b=>have h':=h;simp only[aA,bj]at h';subst h';exact one rfl rfl h
  |int k n=>have h':=h;simp only[aA,bj]at h';subst h';exact one rfl rfl h
  |str s=>have h':=h;simp only[aA,bj]at h';subst h';exact one rfl rfl h
  |sl av=>
   have h':=h;simp only[aA,bj]at h';rcases h' with⟨_,a,c,rfl⟩|⟨b,o,cap,sz,rfl,_⟩<;>exact one rfl rfl h
  |fn f bY=>have h':=h;simp only[aA,bj]at h';obtain⟨vs,rfl,_⟩:=h';exact one rfl rfl h
  |box cs=>have h':=h;simp only[aA,bj]at h';obtain⟨b,o,rfl,_⟩:=h';exact one rfl rfl h
  |mg y=>have h':=h;simp only[aA,bj]at h';subst h';exact one rfl hb h
end
def pL.lt{w:World}{W:fo}{ab:bq}{L:Loc}{o:Ob}(h:pL w W ab L base M r o){b:Nat}(hb:L.own r o=some b):b<w.heap.size:=by
 cases o with
 |box cs=>
  obtain⟨c,e,hc,_⟩:=h;simp only[Loc.own,Zaa]at hb;subst hb;exact(Zap.1 hc).1
 |arr bD e sz av=>
  obtain⟨_,_,_,h⟩:=h;simp only[Loc.own]at hb;rcases h with⟨_,a,ha⟩|⟨g,cap,cur,hv,hp,hg,_⟩
  ·rw[ha]at hb;cases a<;>simp[aX]at hb
  ·rw[hv]at hb;simp only[aX,Zab (ZaJ.1 hp),Zaa]at hb;subst hb;exact(Zap.1 hg).1
 |map cj agg c es=>
  obtain⟨arr,hc,_⟩:=h;simp only[Loc.own,Zaa]at hb;subst hb;exact(Zap.1 hc).1
 |iter m s sn l=>
  obtain⟨hc,_⟩:=h;simp only[Loc.own,Zaa]at hb;subst hb;exact(Zap.1 hc).1
def pL.reach{w:World}{W:fo}{ab:bq}{L:Loc}{o:Ob}(h:pL w W ab L base M r o){b:Nat}(hb:L.own r o=some b):base<=b\/M b:=by
 cases o with
 |box cs=>
  obtain⟨c,e,hc,_,hm⟩:=h;simp only[Loc.own,Zaa]at hb;subst hb;exact hm
 |arr bD e sz av=>
  obtain⟨_,_,hm,_⟩:=h;exact hm b hb
 |map cj agg c es=>
  obtain⟨arr,hc,_,_,_,_,hm⟩:=h;simp only[Loc.own,Zaa]at hb;subst hb;exact hm
 |iter m s sn l=>
  obtain⟨hc,_,hm⟩:=h;simp only[Loc.own,Zaa]at hb;subst hb;exact hm
def pL.bi{w w':World}{W:fo}{ab aI:bq}{L L':Loc}{o:Ob}(ha:gP W ab L w aI L' w')
  (h:pL w W ab L base M r o) (iu:L'.blk r=L.blk r/\L'.sl r=L.sl r) (hblk:∀b,L.own r o=some b->w'.heap[b]? =w.heap[b]?):pL w' W aI L' base M r o:=by
 cases o with
 |box cs=>
  obtain⟨c,e,hc,hr,hm⟩:=h;refine⟨c,e, ?_,aQ.eZ ha cs _ hr, ?_⟩
  ·rw[iu.1,hblk _ rfl];exact hc
  ·rw[iu.1];exact hm
 |arr bD e sz av=>
  obtain⟨hsz,eF,hm,h⟩:=h;refine⟨hsz,eF,by rw[iu.2];exact hm, ?_⟩;rw[iu.2];rcases h with h|⟨g,cap,cur,hv,hp,hg,h1,h2,h3,h4⟩
  ·exact .inl h
  ·refine .inr ⟨g,cap,cur,hv,hp, ?_,h1,h2,h3,bf.bi ha.dx.toKeepsC ha.sub _ _ h4⟩;rw[hblk g (by simp[Loc.own,hv,aX,ZaJ.1 hp])];exact hg
 |map cj agg c es=>
  obtain⟨arr,hc,hr,k1,k2,k3,hm⟩:=h;refine⟨arr, ?_,bJ.eZ ha es _ hr,k1,k2,k3, ?_⟩
  ·rw[iu.1,hblk _ rfl];exact hc
  ·rw[iu.1];exact hm
 |iter m s sn l=>
  obtain⟨hc,Ny,hm⟩:=h;have:=ha.mp m Ny;refine⟨?_,this.2, ?_⟩
  ·rw[iu.1,this.1,hblk _ rfl];exact hc
  ·rw[iu.1];exact hm
def Obj.plain:Obj->Prop
 |.cells _ _ _|.map _ _|.mapIter _ _ _ _=>True
 |_=>False
def pL.cells{w:World}{W:fo}{ab:bq}{L:Loc}{o:Ob}(h:pL w W ab L base M r o){b:Nat}(hb:L.own r o=some b):∃x,w.heap[b]? =some x/\Obj.plain x:=by
 cases o with
 |box cs=>
  obtain⟨c,e,hc,_⟩:=h;simp only[Loc.own,Zaa]at hb;subst hb;exact⟨_,hc,trivial⟩
 |map cj agg c es=>
  obtain⟨arr,hc,_⟩:=h;simp only[Loc.own,Zaa]at hb;subst hb;exact⟨_,hc,trivial⟩
 |iter m s sn l=>
  obtain⟨hc,_⟩:=h;simp only[Loc.own,Zaa]at hb;subst hb;exact⟨_,hc,trivial⟩
 |arr bD e sz av=>
  obtain⟨_,_,_,h⟩:=h;simp only[Loc.own]at hb;rcases h with⟨_,a,ha⟩|⟨g,cap,cur,hv,hp,hg,_⟩
  ·rw[ha]at hb;cases a<;>simp[aX]at hb
  ·rw[hv]at hb;simp only[aX,Zab (ZaJ.1 hp),Zaa]at hb;subst hb;exact⟨_,hg,trivial⟩
def cG(ab:bq):Option (Nat×Ob)->bq
 |none=>ab
 |some (r,o)=>λx=>if x=r then some o else ab x
def ct.put{W:fo}{w w':World}{ab:bq}{L L':Loc}{o':Ob}(h:ct base W M w0 ab w L)
  (xK:Fr base M w0 w') (hsz:w.heap.size<=w'.heap.size)
  (hL:∀x,x≠r->L'.blk x=L.blk x/\L'.sl x=L.sl x) (zW:L'.yl=L.yl)
  (Ko:∀b,b<w.heap.size->(∀o,ab r=some o->L.own r o≠some b)->w'.heap[b]? =w.heap[b]?)
  (ub:∀b,L'.own r o'=some b->(∃o,ab r=some o/\L.own r o=some b)\/w.heap.size<=b)
  (B5:∀o,ab r=some o->o.kind≠1->L'.blk r=L.blk r/\o'.kind=o.kind)
  (B6:∀bD e sz av,ab r=some (.arr bD e sz av)->∃cg e' iG eN,o'=.arr cg e' iG eN/\bD<=cg/\(cg=bD->L'.sl r=L.sl r/\iG=sz/\eN.length=av.length))
  (gH:gP W ab L w (cG ab (some (r,o'))) L' w'->pL w' W (cG ab (some (r,o'))) L' base M r o'):
  ct base W M w0 (cG ab (some (r,o'))) w' L'/\gP W ab L w (cG ab (some (r,o'))) L' w':=by
 have iu:∀x (o:Ob),x≠r->L'.own x o=L.own x o:=λx o hx=>by
  have:=hL x hx;cases o<;>simp[Loc.own,this.1,this.2]
 have hother:∀x o b,x≠r->ab x=some o->L.own x o=some b->w'.heap[b]? =w.heap[b]? :=λx o b hx ho hb=>
  Ko b ((h.ob x o ho).lt hb) λo2 nH fH=>h.apart x r o o2 b hx ho nH hb fH
 have hnon:∀(b:Nat) x,w.heap[b]? =some x->¬Obj.plain x->w'.heap[b]? =some x:=λb x hb hx=>by
  refine(Ko b (Zap.1 hb).1 λo ho fH=>?_).trans hb;obtain⟨y,hc,hy⟩:=(h.ob r o ho).cells fH;rw[hc]at hb;cases hb;exact hx hy
 have eZ:gP W ab L w (cG ab (some (r,o'))) L' w':=by
  refine⟨⟨⟨hsz,λb c e fr hb hn=>?_⟩,λb hb=>hnon b _ hb (λe=>e),λb r hb=>hnon b _ hb (λe=>e)⟩,λb hb hw=>?_,λx o hx hk=>?_,λx bD e sz av hx=>?_,zW⟩
  ·exact(Ko b (Zap.1 hb).1 λo2 nH fH=>hn (.inr ⟨r,o2,nH,fH⟩)).trans hb
  ·rcases hw with hw|⟨x,o,ho,fH⟩
   ·exact .inl hw
   ·by_cases hx:x=r
    ·subst hx;simp only[cG,if_true]at ho;obtain rfl:o'=o:=by simpa using ho
     rcases ub b fH with⟨o2,nH,HL⟩|xL
     ·exact .inr ⟨x,o2,nH,HL⟩
     ·omega
    ·simp only[cG,Zab hx]at ho;exact .inr ⟨x,o,ho,by rw[<-iu x o hx];exact fH⟩
  ·by_cases Ga:x=r
   ·subst Ga;obtain⟨h1,h2⟩:=B5 o hx hk;exact⟨h1,o',by simp[cG],h2⟩
   ·exact⟨(hL x Ga).1,o,by simp[cG,Ga,hx],rfl⟩
  ·by_cases Ga:x=r
   ·subst Ga;obtain⟨cg,e',iG,eN,rfl,h2,h3⟩:=B6 bD e sz av hx;exact⟨cg,e',iG,eN,by simp[cG],h2,h3⟩
   ·exact⟨bD,e,sz,av,by simp[cG,Ga,hx],Zaf _,λ_=>⟨(hL x Ga).2,rfl,rfl⟩⟩
 refine⟨⟨xK,λx o ho=>?_,λx x' o o2 b bT ho nH hb fH=>?_,λx o b ho hb hw=>?_,h.under,h.gl.bi eZ.dx.toKeepsC eZ.sub⟩,eZ⟩
 ·by_cases hx:x=r
  ·subst hx;simp only[cG,if_true]at ho;obtain rfl:o'=o:=by simpa using ho
   exact gH eZ
  ·simp only[cG,Zab hx]at ho;exact pL.bi eZ (h.ob x o ho) (hL x hx) λb hb=>hother x o b hx ho hb
 ·by_cases hx:x=r
  ·subst hx;simp only[cG,if_true]at ho;obtain rfl:o'=o:=by simpa using ho
   have mh:x'≠x:=λe=>bT e.symm;simp only[cG,Zab mh]at nH;rw[iu x' o2 mh]at fH;rcases ub b hb with⟨o3,ho3,HL⟩|xL
   ·exact h.apart x' x o2 o3 b mh nH ho3 fH HL
   ·have:=(h.ob x' o2 nH).lt fH;omega
  ·simp only[cG,Zab hx]at ho;rw[iu x o hx]at hb;by_cases mh:x'=r
   ·subst mh;simp only[cG,if_true]at nH;obtain rfl:o'=o2:=by simpa using nH
    rcases ub b fH with⟨o3,ho3,HL⟩|xL
    ·exact h.apart x x' o o3 b bT ho ho3 hb HL
    ·have:=(h.ob x o ho).lt hb;omega
   ·simp only[cG,Zab mh]at nH;rw[iu x' o2 mh]at fH;exact h.apart x x' o o2 b bT ho nH hb fH
 ·by_cases hx:x=r
  ·subst hx;simp only[cG,if_true]at ho;obtain rfl:o'=o:=by simpa using ho
   rcases ub b hb with⟨o3,ho3,HL⟩|xL
   ·exact h.qQ x o3 b ho3 HL hw
   ·have h1:=h.under b hw;have h2:=h.fr.jq;have h3:=h.fr.size;omega
  ·simp only[cG,Zab hx]at ho;rw[iu x o hx]at hb;exact h.qQ x o b ho hb hw
def F2.start{w:World}{W:fo}{L:Loc}(h:F2 w W):F2 w (WW W (λ_=>none) L):=
 h.bi (dg.refl W w).toKeepsC λb _ hw=>by
  rcases hw with hw|⟨r,o,hr,_⟩
  ·exact hw
  ·cases hr
def ct.grow{W:fo}{w w':World}{ab:bq}{L:Loc}(h:ct base W M w0 ab w L)(hb:vO w.heap.size w w'):
  ct base W M w0 ab w' L/\gP W ab L w ab L w':=by
 have eZ:gP W ab L w ab L w':=gP.cQ (dg.Xz hb.toBelow);have jy:base<=w.heap.size:=ZaP h.fr.jq h.fr.size;refine⟨⟨h.fr.trans ⟨hb.os,hb.tape,hb.output,jy,hb.size,λk hk _=>hb.block k (by omega),hb.drawn⟩,λr o ho=>?_,h.apart,h.qQ,h.under,h.gl.bi eZ.dx.toKeepsC eZ.sub⟩,eZ⟩;exact pL.bi eZ (h.ob r o ho) ⟨rfl,rfl⟩ λb fH=>hb.block b ((h.ob r o ho).lt fH)
end
section
variable{P:Program}{vs:List Value}{d:TypeDesc}{ts ds:aK}{base:Nat}{M:fo}
def my:Value->Option DV
 |.int k n=>some (.v (.int k n))
 |.bool b=>some (.v (.bool b))
 |.string s=>some (.v (.str s))
 |.slice none 0 0=>some .aW
 |.pointer none=>some (.v (.mg (.pointer none)))
 |.nilFunc=>some (.v (.mg .nilFunc))
 |.nilIface=>some (.v (.mg .nilIface))
 |.map none=>some (.v (.mg (.map none)))
 |_=>none
def sb:Value->Option T
 |.int k n=>some (.int k n)
 |.bool b=>some (.bool b)
 |.string s=>some (.str s)
 |.slice none 0 0=>some (.sl [])
 |.pointer none=>some (.mg (.pointer none))
 |.nilFunc=>some (.mg .nilFunc)
 |.nilIface=>some (.mg .nilIface)
 |.map none=>some (.mg (.map none))
 |_=>none
variable [bI]
def bQ.of:Operand->Option bQ
 |.tmp t=>some (.tmp t)
 |.const v=>(my v).map .gN
 |.func f=>some (.gN (.v (.fn (.func f) [])))
 |.global g=>(bI.cells.find? λp=>p.1==g).map λp=>.gN (.iD p.2 0)
section
variable{w:World}{W:fo}{ab:bq}{L:Loc}
def wE:∀{x:Value} {d:DV},my x=some d->aA w W ab L d x/\x.oneCell'=true:=by
 intro x d h;unfold my at h;split at h<;>simp only[Zaa,reduceCtorEq]at h<;>subst h<;>simp[aA,bj,Value.oneCell']
def Dg:∀{x:Value} {t:T},sb x=some t->bj w W t x/\x.oneCell'=true/\Db t=true:=by
 intro x d h;unfold sb at h;split at h<;>simp only[Zaa,reduceCtorEq]at h<;>subst h<;>simp[bj,Value.oneCell',Db]
def iR:∀{xs:List Value} {ds:bB},xs.mapM my=some ds->aQ w W ab L ds xs
 |[],ds,h=>by simp at h;subst h;simp[aQ]
 |x::xs,ds,h=>by
  simp only[Za7,Zao,Zaj,Zad,Zaa]at h;obtain⟨d,hd,ds',hds,rfl⟩:=h;simp only[aQ];have:=wE (w:=w) (W:=W) (ab:=ab) (L:=L) hd;exact⟨x,xs,rfl,this.2,this.1,iR hds⟩
def tn:∀{xs:List Value} {ds:aK},xs.mapM sb=some ds->bf w W ds xs
 |[],ds,h=>by simp at h;subst h;simp[bf]
 |x::xs,ds,h=>by
  simp only[Za7,Zao,Zaj,Zad,Zaa]at h;obtain⟨d,hd,ds',hds,rfl⟩:=h;simp only[bf];have:=Dg (w:=w) (W:=W) hd;exact⟨x,xs,rfl,this.2.1,this.1,tn hds⟩
def bQ.bP{a:Act}{ρ:dw}(hg:F2 w (WW W ab L))(jw:∀t,aA w W ab L (ρ t) (a.tmps.getD t Go.undef)){x:Operand}{y:bQ}(h:bQ.of x=some y):aA w W ab L (y.ev ρ) (a.eval x):=by
 cases x with
 |tmp t=>simp only[bQ.of,Zaa]at h;subst h;simpa [bQ.ev,Act.eval]using jw t
 |const v=>
  simp only[bQ.of,Zac]at h;obtain⟨d,hd,rfl⟩:=h;exact(wE hd).1
 |func f=>simp only[bQ.of,Zaa]at h;subst h;simp[bQ.ev,Act.eval,aA,bj,bf]
 |global g=>
  simp only[bQ.of,Zac]at h;obtain⟨p,hp,rfl⟩:=h;have h1:=Zc7 hp;obtain rfl:p.1=g:=by simpa using h1
  obtain⟨h2,h3,h4⟩:=hg p (Zb8 hp);simp only[bQ.ev,Act.eval,aA];exact⟨p.1,0,rfl,h2,h3,h4⟩
def mP(b o n:Nat):(⟨b,o,none⟩:Addr).add n=⟨b,o+n,none⟩:=by unfold Addr.add;split<;>simp_all
def Bj{w:World}{b o:Nat}(h:∀j v,vs[j]? =some v->w.cell? ⟨b,o+j,none⟩=some v):
  (loadCells ⟨b,o,none⟩ vs.length).run P w=.ok vs.toArray w:=
 run_loadCells_list w _ vs λj v hv=>by rw[mP];exact h j v hv
def Gz{w:World}{t:TypeId}(h:P.underlying t=some d):(isAgg t).run P w=.ok (match d with|.struct _|.array _ _=>true|_=>false) w:=by
 simp only[isAgg,Sem.run_bind,run_underlying h,Result.andThen_ok];cases d<;>rfl
def run_sizeOf{w:World}{t:TypeId}{i:TypeInfo}(h:P.info? t=some i):(sizeOf t).run P w=.ok i.size w:=by
 simp[sizeOf,typeInfo,h]
def b8:TypeDesc->Bool
 |.struct _|.array _ _=>true
 |_=>false
def qR{w:World}{t:TypeId}{i:TypeInfo}(hd:P.underlying t=some d)(hi:P.info? t=some i){b o:Nat}
  (hl:vs.length=i.size) (h:∀j v,vs[j]? =some v->w.cell? ⟨b,o+j,none⟩=some v) (hs:b8 d=true\/i.size=1):
  (Instr.loadAt t (.pointer (some ⟨b,o,none⟩))).run P w=.ok (if b8 d then .agg vs.toArray else vs.getD 0 Go.undef) w:=by
 have h1:(isAgg t).run P w=.ok (b8 d) w:=by rw[Gz hd];cases d<;>rfl
 simp only[Instr.loadAt,Instr.sureAddr,loadVar,Sem.run_bind,Sem.run_pure,Result.andThen_ok,h1];by_cases ha:b8 d=true
 ·simp only[ha,if_true,Sem.run_bind,run_sizeOf hi,Result.andThen_ok];rw[<-hl,Bj h];rfl
 ·have h1:vs.length=1:=by rw[hl];exact hs.resolve_left ha
  match vs,h1 with
  |[v],_=>
   have:=h 0 v rfl;simp only[ZbV]at this;simp[ha,this]
def ed.cA{b:Nat}:∀{ts:aK} {o:Nat},ed w W b o ts->∃vs,bf w W ts vs/\∀j v,vs[j]? =some v->w.cell? ⟨b,o+j,none⟩=some v
 |[],o,_=>⟨[],by simp[bf],by simp⟩
 |t::ts,o,h=>by
  simp only[ed]at h;obtain⟨⟨v,hc,h1,hr⟩,mt⟩:=h;obtain⟨vs,hv,oj⟩:=ed.cA mt;refine⟨v::vs,by simp only[bf];exact⟨v,vs,rfl,h1,hr,hv⟩,λj u hu=>?_⟩;cases j with
  |zero=>simp only[ZaF,Zaa]at hu;subst hu;simpa using hc
  |succ j=>
   have:=oj j u (by simpa using hu)
   rwa [show o+(j+1)=o+1+j by omega]
def bf.split{ts':aK}:∀{vs:List Value},bf w W (ts++ts') vs->∃v1 v2,vs=v1++v2/\bf w W ts v1/\bf w W ts' v2:=by
 induction ts with
 |nil=>intro vs h;exact⟨[],vs,rfl,by simp[bf],h⟩
 |cons t ts ih=>
  intro vs h;simp only[ZaM,bf]at h;obtain⟨v,vs',rfl,h1,h2,hr⟩:=h;obtain⟨v1,v2,rfl,ha,hb⟩:=ih hr;exact⟨v::v1,v2,rfl,by simp only[bf];exact⟨v,v1,rfl,h1,h2,ha⟩,hb⟩
def ed.sa{b o:Nat}(h:bf w W ts vs)(hc:∀j v,vs[j]? =some v->w.cell? ⟨b,o+j,none⟩=some v):ed w W b o ts:=
 ed.Da ts o λj t ht=>by
  obtain⟨v,hv,h1,hr⟩:=bf.get h ht;exact⟨v,hc j v hv,h1,hr⟩
def bw.jB{sz b:Nat}:∀{av:List (aK)} {o:Nat} {vs:List Value},bf w W av.flatten vs->(∀r∈av,r.length=sz)->(∀j v,vs[j]? =some v->w.cell? ⟨b,o+j,none⟩=some v)->bw w W sz b o av
 |[],_,_,_,_,_=>by simp[bw]
 |r::rs,o,vs,h,hl,hc=>by
  simp only[Zbu]at h;obtain⟨v1,v2,rfl,ha,hb⟩:=bf.split h;have hr:r.length=sz:=hl r (by simp);have Bk:v1.length=sz:=by rw[bf.length ha,hr]
  simp only[bw];refine⟨hr,ed.sa ha λj v hv=>hc j v ?_,bw.jB hb (λx hx=>hl x (by simp[hx])) λj v hv=>?_⟩
  ·rw[Zbc (Zaw.1 hv).1];exact hv
  ·have:=hc (sz+j) v (by rw[Za9 (by omega),Bk];simpa using hv)
   rwa [show o+sz+j=o+(sz+j)by omega]
def bw.flatten{sz b:Nat}:∀{av:List (aK)} {o:Nat},bw w W sz b o av->∃vs,vs.length=av.length*sz/\bf w W av.flatten vs/\∀j v,vs[j]? =some v->w.cell? ⟨b,o+j,none⟩=some v
 |[],o,_=>⟨[],by simp,by simp[bf],by simp⟩
 |r::rs,o,h=>by
  simp only[bw]at h;obtain⟨v1,h1,bU⟩:=ed.cA h.2.1;obtain⟨v2,Bl,h2,gI⟩:=bw.flatten h.2.2;have Bk:v1.length=sz:=by rw[bf.length h1,h.1]
  refine⟨v1++v2,by simp[Bk,Bl,Nat.add_mul];omega,by simpa using bf.append h1 h2,λj v hv=>?_⟩;by_cases hj:j<v1.length
  ·rw[Zbc hj]at hv;exact bU j v hv
  ·rw[Za9 (by omega)]at hv;have:=gI (j-v1.length) v hv
   rwa [show o+sz+(j-v1.length)=o+j by omega]at this
def pL.av{r bD e sz:Nat}{av:List (aK)}(h:pL w W ab L base M r (.arr bD e sz av)){g:Nat}(hg:aX (L.sl r)=some g):
  bw w (WW W ab L) sz g 0 av:=by
 obtain⟨_,hl,_,h⟩:=h;rcases h with⟨rfl,_⟩|⟨g',cap,cur,hv,hp,hh,h1,h2,h3,h4⟩
 ·simp[bw]
 ·rw[hv]at hg;simp only[aX,Zab (ZaJ.1 hp),Zaa]at hg;subst hg;refine bw.jB h4 hl λj v hv=>?_;rw[Zbi,cell_of_row w g' j cur e (0,0) hh];rw[ZaQ]at hv;split at hv
  ·simpa using hv
  ·cases hv
def zX{av:List (aK)}{i:Int}(h0:0<=i)(h1:i<av.length):av[i.toNat]? =some (rowAt av i):=by
 have:i.toNat<av.length:=by omega
 simp[rowAt,List.getD,this]
def bf.take(n:Nat):∀{vs:List Value},bf w W ds vs->bf w W (ds.take n) (vs.take n):=by
 induction n generalizing ds with
 |zero=>intro vs h;simp[bf]
 |succ n ih=>
  intro vs h;cases ds with
  |nil=>simp only[bf]at h;subst h;simp[bf]
  |cons d ds=>
   simp only[bf]at h;obtain⟨v,vs',rfl,h1,h2,hr⟩:=h;simp only[Zcf,bf];exact⟨v,_,rfl,h1,h2,ih hr⟩
def bf.drop(n:Nat):∀{vs:List Value},bf w W ds vs->bf w W (ds.drop n) (vs.drop n):=by
 induction n generalizing ds with
 |zero=>intro vs h;simpa using h
 |succ n ih=>
  intro vs h;cases ds with
  |nil=>simp only[bf]at h;subst h;simp[bf]
  |cons d ds=>
   simp only[bf]at h;obtain⟨v,vs',rfl,h1,h2,hr⟩:=h;simpa using ih hr
def ve{t:TypeId}{i:TypeInfo}(hd:P.underlying t=some d)(hi:P.info? t=some i){b o off:Nat}{cs:aK}
  (hr:ed w (WW W ab L) b o cs) (hok:off+i.size<=cs.length/\(b8 d=true\/i.size=1)):
  ∃v,(Instr.loadAt t (.pointer (some ⟨b,o+off,none⟩))).run P w=.ok v w/\
   aA w W ab L (if b8 d then .v (.agg ((cs.drop off).take i.size))else .v (cs.getD off default)) v:=by
 obtain⟨vs,hv,hc⟩:=ed.cA hr;have hl:=bf.length hv;have mQ:=bf.take i.size (bf.drop off hv);refine⟨_,qR hd hi (vs:=(vs.drop off).take i.size) (by simp;omega) (λj v hj=>?_) hok.2, ?_⟩
 ·rw[ZaQ]at hj;split at hj
  ·rw[ZbH]at hj;have:=hc _ _ hj
   rwa [show o+off+j=o+(off+j)by omega]
  ·cases hj
 ·by_cases ha:b8 d=true
  ·simp only[ha,if_true,aA,bj];exact⟨_,rfl,by simpa using mQ⟩
  ·have h1:i.size=1:=hok.2.resolve_left ha;have hlt:off<cs.length:=by omega
   obtain⟨v,tp,_,gD⟩:=bf.get hv (i:=off) (t:=cs[off]) (by simp[hlt]);have e1:(List.take i.size (List.drop off vs)).getD 0 Go.undef=v:=by
    rw[h1];simp only[List.getD,ZaQ,ZbH,ZbV,tp];simp
   have e2:cs.getD off default=cs[off]:=by simp[List.getD,hlt]
   simp only[ha,e1,e2];exact gD
def wF{w0:World}(hO:ct base W M w0 ab w L){t:TypeId}{i:TypeInfo}(hd:P.underlying t=some d)(hi:P.info? t=some i)
  {x:DV} {xv:Value} (hx:aA w W ab L x xv) (hok:(iF i.size (b8 d) ab x).ok):
  (iF i.size (b8 d) ab x).put=none/\∃v,(Instr.loadAt t xv).run P w=.ok v w/\aA w W ab L (iF i.size (b8 d) ab x).val v:=by
 cases x with
 |ptr r off=>
  simp only[aA]at hx;obtain⟨⟨cs,hc⟩,rfl⟩:=hx;simp only[iF,hc]at hok⊢;refine⟨trivial, ?_⟩;obtain⟨c,e,hh,hr,_⟩:=hO.ob r _ hc;have hl:=aQ.length hr;have xV:=aQ.take i.size (aQ.drop off hr);refine⟨_,qR hd hi (vs:=(c.toList.drop off).take i.size) (by simp at hl⊢;omega) (λj v hj=>?_) hok.2, ?_⟩
  ·rw[ZaQ]at hj;split at hj
   ·rw[ZbH]at hj;rw[cell_of_row w _ _ c e (0,0) hh];simpa using hj
   ·cases hj
  ·by_cases ha:b8 d=true
   ·simp only[ha,if_true,aA];exact⟨_,rfl,by simpa using xV⟩
   ·have h1:i.size=1:=hok.2.resolve_left ha;have hlt:off<cs.length:=by omega
    obtain⟨v,tp,_,gD⟩:=aQ.get hr (i:=off) (d:=cs[off]) (by simp[hlt]);have e1:(List.take i.size (List.drop off c.toList)).getD 0 Go.undef=v:=by
     rw[h1];simp only[List.getD,ZaQ,ZbH,ZbV,tp];simp
    have e2:cs.getD off .undef=cs[off]:=by simp[List.getD,hlt]
    simp only[ha,e1,e2];exact gD
 |l7 av j off=>
  simp only[aA]at hx;obtain⟨b,o,sz,rfl,hb,hn,hr,h0,h1⟩:=hx;simp only[iF]at hok⊢;exact⟨trivial,ve hd hi (bw.row hr (zX h0 h1)).2 hok⟩
 |iD cs off=>
  simp only[aA]at hx;obtain⟨b,o,rfl,hb,hn,hr⟩:=hx;simp only[iF]at hok⊢;exact⟨trivial,ve hd hi hr hok⟩
 |v t'=>
  cases t' with
  |box cs=>
   simp only[aA,bj]at hx;obtain⟨b,o,rfl,hb,hn,hr⟩:=hx;simp only[iF]at hok⊢;have:=ve (ab:=ab) (L:=L) (W:=W) hd hi (off:=0) hr (by simpa using hok);refine⟨trivial, ?_⟩;simpa using this
  |_=>simp[iF,cZ]at hok
 |ka r bD j off=>
  simp only[aA]at hx;obtain⟨_,cg,e,sz,av,ho,jy,hx⟩:=hx;simp only[iF,ho]at hok⊢;obtain⟨g,hg,rfl,h0,h1⟩:=hx hok.1;have B7:=pL.av (hO.ob r _ ho) hg;have:=(bw.row B7 (zX h0 h1)).2;rw[Zbi]at this;exact⟨trivial,ve hd hi this hok.2⟩
 |_=>simp[iF,cZ]at hok
end
end
section
variable{yv xv z:Value}{va vb xs vs:List Value}{base r off bD sz lo name:Nat}{M:fo}{w0 w':World}{P:Program}{cs:bB}{α:Type}{av ys:List (aK)}{t' ty:TypeId}{zero:aK}
variable [bI]
section
variable{w:World}{W:fo}{ab:bq}{L:Loc}
def zY{y:DV}(h:eX (cellsOf y))(hl:(cellsOf y).length≠0\/True):mO y:=by
 cases y with
 |undef=>simp[cellsOf,eX,kp]at h
 |skip=>simp[cellsOf,eX,kp]at h
 |v t=>
  cases t<;>simp_all [cellsOf,eX,kp,mO,Db]
 |eo ds=>simp[cellsOf,eX,kp]at h
 |_=>simp[mO]
def qx{y:DV}(hy:aA w W ab L y yv)(h:eX (cellsOf y)):aQ w W ab L (cellsOf y) yv.cells.toList:=
 aA.cells hy (zY h (.inr trivial))
def aQ.one{ds:bB}:∀{vs:List Value},aQ w W ab L ds vs->∀v∈vs,v.oneCell'=true:=by
 induction ds with
 |nil=>intro vs h;simp only[aQ]at h;subst h;simp
 |cons d ds ih=>
  intro vs h;simp only[aQ]at h;obtain⟨v,vs',rfl,h1,_,hr⟩:=h;intro u hu;rcases Zah.1 hu with rfl|hu
  ·exact h1
  ·exact ih hr u hu
def bf.one{ds:aK}:∀{vs:List Value},bf w W ds vs->∀v∈vs,v.oneCell'=true:=by
 induction ds with
 |nil=>intro vs h;simp only[bf]at h;subst h;simp
 |cons d ds ih=>
  intro vs h;simp only[bf]at h;obtain⟨v,vs',rfl,h1,_,hr⟩:=h;intro u hu;rcases Zah.1 hu with rfl|hu
  ·exact h1
  ·exact ih hr u hu
def aQ.cy{a b:bB}(off:Nat)(ha:aQ w W ab L a va)(hb:aQ w W ab L b vb):aQ w W ab L (cy a off b) (cy va off vb):=by
 unfold DM.cy;rw[<-aQ.length hb];exact aQ.append (aQ.append (aQ.take off ha) hb) (aQ.drop _ ha)
def bf.cy{a b:aK}(off:Nat)(ha:bf w W a va)(hb:bf w W b vb):bf w W (cy a off b) (cy va off vb):=by
 unfold DM.cy;rw[<-bf.length hb];exact bf.append (bf.append (bf.take off ha) hb) (bf.drop _ ha)
def zZ{g:Nat}(cs:Array Value)(h:Fr base M w0 w)(hg:base<=g\/M g):Fr base M w0 (w.setRow g cs):=
 ⟨h.os,h.tape,h.output,h.jq,by simpa using h.size,λk hk hm=>by
  rw[setRow_other w g k cs (by rintro rfl;exact hg.elim (λh1=>by omega) hm)];exact h.block k hk hm,by simpa using h.drawn⟩
def GA{t:TypeId}{i:TypeInfo}(hi:P.info? t=some i){g o:Nat}{e:TypeId}{cur:Array Value}(hg:w.heap[g]? =some (.cells cur e (0,0)))
  (hl:yv.cells.size=i.size) (hfit:o+i.size<=cur.size) (h1:∀v∈yv.cells.toList,v.oneCell'=true):
  (Instr.storeAt t (.pointer (some ⟨g,o,none⟩)) yv).run P w=.ok () (w.setRow g (cy cur.toList o yv.cells.toList).toArray):=by
 have hs:=run_storeCells_at P g o e yv.cells.toList 0 cur w hg (by simp[hl];omega) h1;simp only[ZbV]at hs;simp only[Instr.storeAt,Instr.sureAddr,storeVar,Sem.run_bind,Sem.run_pure,Result.andThen_ok,run_sizeOf hi,hl,ne_eq,not_true_eq_false,if_false];exact hs
def Vg(hO:ct base W M w0 ab w L){t:TypeId}{i:TypeInfo}(hi:P.info? t=some i)
   (hc:ab r=some (.box cs)) {y:DV} (hy:aA w W ab L y yv)
  (hn:(cellsOf y).length=i.size) (hfit:off+i.size<=cs.length) (Cl:eX (cellsOf y)):
  ∃w',(Instr.storeAt t (.pointer (some ⟨L.blk r,off,none⟩)) yv).run P w=.ok () w'/\
   ct base W M w0 (cG ab (some (r,.box (cy cs off (cellsOf y))))) w' L/\gP W ab L w (cG ab (some (r,.box (cy cs off (cellsOf y))))) L w':=by
 obtain⟨c,e,hh,hr,hm⟩:=hO.ob r _ hc;have pM:=qx hy Cl;have zW:yv.cells.size=i.size:=by have:=aQ.length pM;simpa [hn]using this
 have aT:c.size=cs.length:=by simpa using aQ.length hr
 refine⟨_,GA hi hh zW (by omega) (aQ.one pM), ?_⟩;refine ct.put hO (zZ _ hO.fr hm) (by simp) (λ_ _=>⟨rfl,rfl⟩) rfl (λb _ hb=>setRow_other w _ b _ (λx=>hb _ hc (by simp[Loc.own,x])))
  (λb hb=>.inl ⟨_,hc,hb⟩) (λo' iA _=>by rw[hc]at iA;cases iA;exact⟨rfl,rfl⟩) (λbD e sz av h=>by rw[hc]at h;cases h) (λeZ=>?_)
 refine⟨_,e,setRow_heap w _ c _ e _ hh, ?_,hm⟩;exact aQ.cy off (aQ.eZ eZ _ _ hr) (aQ.eZ eZ _ _ pM)
def g5{l new:List α}(h:off+new.length<=l.length):(cy l off new).length=l.length:=by
 simp[cy];omega
def Bm{l new:List α}{n:Nat}(h:off+new.length<=n)(hn:n<=l.length):(cy l off new).take n=cy (l.take n) off new:=by
 unfold cy;have e1:List.take off (List.take n l)=List.take off l:=by rw[ZcS];congr 1;omega
 have e2:(List.take off l++new).length=off+new.length:=by simp;omega
 rw[e1,List.drop_take,Zc1,e2,ZaX (by omega)]
def Bn{sz:Nat}:∀(av:List (aK)) (i off:Nat) (new:aK),(∀r∈av,r.length=sz)->i<av.length->off+new.length<=sz->
  (av.set i (cy (av.getD i []) off new)).flatten=cy av.flatten (i*sz+off) new
 |[],i,_,_,_,h,_=>by simp at h
 |r::rs,0,off,new,hl,_,hf=>by
  have hr:r.length=sz:=hl r (by simp);simp only[List.getD_cons_zero,ZbR,Zbu,cy,ZcK,Zbi];rw[List.take_append_of_le_length (by omega),List.drop_append_of_le_length (by omega)];simp
 |r::rs,i+1,off,new,hl,h,hf=>by
  have hr:r.length=sz:=hl r (by simp);have ih:=Bn rs i off new (λx hx=>hl x (by simp[hx])) (by simpa using h) hf;simp only[Zcu,Zb2,Zbu];rw[show∀(a b:aK),cy (a++b) ((i+1)*sz+off) new=(a++b).take ((i+1)*sz+off)++new++(a++b).drop ((i+1)*sz+off+new.length)from λ_ _=>rfl];have e:(i+1)*sz+off=r.length+(i*sz+off):=by rw[Nat.add_mul,hr];omega
  rw[e,Zc1,List.drop_append];have e1:r.length+(i*sz+off)-r.length=i*sz+off:=by omega
  have e2:r.length+(i*sz+off)+new.length-r.length=i*sz+off+new.length:=by omega
  rw[e1,e2,ZaX (l:=r) (by omega),Zbv (as:=r) (by omega)];simp only[ZaG,List.append_assoc];rw[ih];simp only[cy,List.append_assoc]
def HM{Qt:bq}{d:DV}{v:Value}(hp:t7 d)(h:aA w W ab L d v):bj w (WW W ab L) (tz Qt d) v:=by
 cases d with
 |v t=>simpa [tz,aA]using h
 |aW=>
  simp only[aA]at h;obtain⟨a,rfl⟩:=h;simp only[tz,bj];exact .inl ⟨trivial,a,0,rfl⟩
 |_=>exact hp.elim
def ol{Qt:bq}:∀{ds:bB} {vs:List Value},iZ ds->aQ w W ab L ds vs->bf w (WW W ab L) (ji Qt ds) vs
 |[],vs,_,h=>by simpa [aQ,bf,ji]using h
 |d::ds,vs,hp,h=>by
  simp only[iZ]at hp;simp only[aQ]at h;obtain⟨v,vs',rfl,h1,h2,hr⟩:=h;simp only[ji,bf];exact⟨v,vs',rfl,h1,HM hp.1 h2,ol hp.2 hr⟩
def ud:∀{ds:bB},iZ ds->eX ds
 |[],_=>trivial
 |d::ds,h=>by
  simp only[iZ]at h;simp only[eX];refine⟨?_,ud h.2⟩;have:=h.1;cases d<;>simp_all [t7,kp]
def ue:∀(ds:bB),(ji ab ds).length=ds.length
 |[]=>rfl
 |_::ds=>by simp[ji,ue ds]
def Vh(hO:ct base W M w0 ab w L){t:TypeId}{i:TypeInfo}(hi:P.info? t=some i)
  {e:Nat} {j:Int} {g:Nat} (hc:ab r=some (.arr bD e sz av)) (hg:aX (L.sl r)=some g) (h0:0<=j) (h1:j<av.length)
  {y:DV} (hy:aA w W ab L y yv) (hn:(cellsOf y).length=i.size) (hfit:off+i.size<=sz) (Cl:iZ (cellsOf y)):
  ∃w',(Instr.storeAt t (.pointer (some ⟨g,j.toNat*sz+off,none⟩)) yv).run P w=.ok () w'/\
   ct base W M w0 (cG ab (some (r,.arr bD e sz (av.set j.toNat (cy (rowAt av j) off (ji ab (cellsOf y))))))) w' L/\
   gP W ab L w (cG ab (some (r,.arr bD e sz (av.set j.toNat (cy (rowAt av j) off (ji ab (cellsOf y))))))) L w':=by
 have gH:=hO.ob r _ hc;obtain⟨hsz,eF,hm,hal⟩:=gH;rcases hal with⟨rfl,_⟩|⟨g',cap,cur,hv,hp,hh,jy,sc,HN,gQ⟩
 ·simp at h1;omega
 ·rw[hv]at hg;simp only[aX,Zab (ZaJ.1 hp),Zaa]at hg;subst hg;have pM:=qx hy (ud Cl);have zW:yv.cells.size=i.size:=by have:=aQ.length pM;simpa [hn]using this
  have hj:j.toNat<av.length:=by omega
  have hjs:j.toNat*sz+sz<=av.length*sz:=by
   have:=Zbk sz (show j.toNat+1<=av.length by omega)
   rwa [Nat.add_mul,Nat.one_mul]at this
  have oj:av.length*sz<=cap*sz:=Zbk sz jy;have XB:(ji ab (cellsOf y)).length=i.size:=by rw[ue];exact hn
  have xM:yv.cells.toList.length=i.size:=by simpa using zW
  have iu:L.own r (.arr bD e sz av)=some g':=by simp[Loc.own,hv,aX,ZaJ.1 hp]
  refine⟨_,GA hi hh zW (by omega) (aQ.one pM), ?_⟩;refine ct.put hO (zZ _ hO.fr (hm g' (by simp[hv,aX,ZaJ.1 hp]))) (by simp) (λ_ _=>⟨rfl,rfl⟩) rfl (λb _ hb=>setRow_other w _ b _ (λx=>hb _ hc (by rw[iu,x])))
   (λb hb=>.inl ⟨_,hc,hb⟩) (λo' iA hk=>by rw[hc]at iA;cases iA;exact Zar rfl hk) (λcg e' iG eN h=>?_) (λeZ=>?_)
  ·rw[hc]at h;cases h;exact⟨bD,e,sz,_,rfl,Zaf _,λ_=>⟨rfl,rfl,by simp⟩⟩
  ·refine⟨hsz,λx hx=>?_,hm,.inr ⟨g',cap,_,by simpa using hv,hp,setRow_heap w _ cur _ e _ hh,by simpa using jy,sc, ?_, ?_⟩⟩
   ·rcases ZaS hx with hx|rfl
    ·exact eF x hx
    ·rw[g5]
     ·exact eF _ (by rw[rowAt,List.getD,Zas hj];simp)
     ·have:(rowAt av j).length=sz:=eF _ (by rw[rowAt,List.getD,Zas hj];simp);omega
   ·have:=g5 (l:=cur.toList) (new:=yv.cells.toList) (off:=j.toNat*sz+off) (by simp only[Za3]at xM⊢;omega);simpa using this.trans (by simpa using HN)
   ·rw[show rowAt av j=av.getD j.toNat []from rfl,Bn av j.toNat off _ eF hj (by omega)];simp only[List.length_set];have e1:(cy cur.toList (j.toNat*sz+off) yv.cells.toList).toArray.toList.take (av.length*sz)=cy (cur.toList.take (av.length*sz)) (j.toNat*sz+off) yv.cells.toList:=by
     rw[List.toList_toArray];exact Bm (by omega) (by simp;omega)
    rw[e1];exact bf.cy _ (bf.bi eZ.dx.toKeepsC eZ.sub _ _ gQ) (bf.bi eZ.dx.toKeepsC eZ.sub _ _ (ol Cl pM))
def Loc.g6(L:Loc)(r b:Nat):Loc:=⟨λx=>if x=r then b else L.blk x,L.sl,L.yl⟩
def Loc.iS(L:Loc)(r:Nat)(v:Value):Loc:=⟨L.blk,λx=>if x=r then v else L.sl x,L.yl⟩
def xW(h:Fr base M w0 w)(hb:vO w.heap.size w w'):Fr base M w0 w':=by
 have jy:base<=w.heap.size:=ZaP h.jq h.size;exact h.trans ⟨hb.os,hb.tape,hb.output,jy,hb.size,λk hk _=>hb.block k (by omega),hb.drawn⟩
def kW(o:Obj):vO w.heap.size w (w.alloc o):=⟨(Below.refl _ _).alloc (Zaf _) _,Zaf _⟩
def HO(hO:ct base W M w0 ab w L)(hr:ab r=none){c:Array Value}(e:TypeId)(hc:aQ w W ab L cs c.toList):
  ct base W M w0 (cG ab (some (r,.box cs))) (w.alloc (.cells c e)) (L.g6 r w.heap.size)/\
   gP W ab L w (cG ab (some (r,.box cs))) (L.g6 r w.heap.size) (w.alloc (.cells c e)):=by
 have hb:=kW (w:=w) (.cells c e);refine ct.put hO (xW hO.fr hb) hb.size (λx hx=>⟨by simp[Loc.g6,hx],rfl⟩) rfl (λb hlt _=>hb.block b hlt) (λb h=>.inr ?_)
  (λo' h _=>by rw[hr]at h;cases h) (λ_ _ _ _ h=>by rw[hr]at h;cases h) (λeZ=>?_)
 ·simp only[Loc.own,Loc.g6,if_true,Zaa]at h;omega
 ·refine⟨c,e, ?_,aQ.eZ eZ _ _ hc,.inl ?_⟩
  ·simp only[Loc.g6,if_true];exact heap_alloc_new w _
  ·simp only[Loc.g6,if_true];exact ZaP hO.fr.jq hO.fr.size
def uf(hO:ct base W M w0 ab w L){e n:Nat}(hc:ab r=some (.arr bD e sz av))
  (hx:lo+n<=av.length/\∃p cap p2,L.sl r=.slice p av.length cap/\xv=.slice p2 n (cap-lo)/\(lo<cap->p2=p.map (·.add (lo*sz)))):
  (n=0/\∃(a:Option Addr) (c:Nat),xv=.slice a 0 c)\/∃g c,aX (L.sl r)=some g/\xv=.slice (some ⟨g,lo*sz,none⟩) n c/\n<=c/\bw w (WW W ab L) sz g (lo*sz) ((av.drop lo).take n):=by
 obtain⟨Kp,p,cap,p2,vP,rfl,Qu⟩:=hx;by_cases hn:n=0
 ·subst hn;exact .inl ⟨rfl,p2,_,rfl⟩
 ·have gH:=hO.ob r _ hc;obtain⟨_,eF,hm,hal⟩:=gH;rcases hal with⟨rfl,a,ha⟩|⟨g,cap',cur,h1,h2,h3,h4,h5,h6,h7⟩
  ·simp at Kp;omega
  ·have zO:aX (L.sl r)=some g:=by rw[h1];simp[aX,ZaJ.1 h2]
   have B7:=pL.av (hO.ob r _ hc) zO;rw[vP]at h1;simp only[Value.slice.injEq]at h1;obtain⟨rfl,_,rfl⟩:=h1;have:=Qu (by omega);subst this;refine .inr ⟨g,cap-lo,zO,by simp[mP],by omega,bw.Ck _ _ λj x hj=>?_⟩;rw[ZaQ]at hj;split at hj
   ·rw[ZbH]at hj;have:=bw.row B7 hj;rw[Zbi,Nat.add_mul]at this;exact this
   ·cases hj
structure XC(w:World)(W':fo)(ys:List (aK))(sz:Nat)(v:Value):Prop where
 it:(ys=[]/\∃(a:Option Addr) (c:Nat),v=.slice a 0 c)\/∃b o c,v=.slice (some ⟨b,o,none⟩) ys.length c/\bw w W' sz b o ys
def qS(hO:ct base W M w0 ab w L){y:DV}(hy:aA w W ab L y yv)(hs:fL ab y=some ys)(hl:∀r∈ys,r.length=sz):
  XC w (WW W ab L) ys sz yv:=by
 cases y with
 |v t=>
  cases t with
  |sl av=>
   simp only[fL,Zaa]at hs;subst hs;simp only[aA,bj]at hy;rcases hy with hy|⟨b,o,cap,iG,rfl,_,_,hc,hr⟩
   ·exact⟨.inl hy⟩
   ·refine⟨.inr ⟨b,o,cap,rfl, ?_⟩⟩
    match av,hr with
    |[],_=>simp[bw]
    |r::rs,hr=>
     have h1:=(bw.row hr (i:=0) (r:=r) rfl).1;have h2:=hl r (by simp);have:iG=sz:=by omega
     exact this▸hr
  |mg v=>
   unfold fL at hs;split at hs<;>simp_all
   simp only[aA,bj]at hy;exact⟨.inl ⟨rfl,_,_,hy⟩⟩
  |_=>simp[fL]at hs
 |aW=>
  simp only[fL,Zaa]at hs;subst hs;simp only[aA]at hy;obtain⟨a,rfl⟩:=hy;exact⟨.inl ⟨rfl,a,0,rfl⟩⟩
 |bA r bD=>
  simp only[fL]at hs;simp only[aA]at hy;obtain⟨_,cg,e,iG,av,ho,_,hx⟩:=hy;rw[ho]at hs;simp only at hs;split at hs
  ·rename_i hv;simp only[Zaa]at hs;subst hs;have gH:=hO.ob r _ ho;obtain⟨hsz,eF,hm,hal⟩:=gH;rw[hx hv];rcases hal with⟨rfl,a,ha⟩|⟨g',cap,cur,tp,hp,hh,jy,sc,HN,gQ⟩
   ·exact⟨.inl ⟨rfl,a,0,ha⟩⟩
   ·have B7:=pL.av (hO.ob r _ ho) (g:=g') (by simp[tp,aX,ZaJ.1 hp]);refine⟨.inr ⟨g',0,cap,tp, ?_⟩⟩
    match av,B7,hl,eF with
    |[],_,_,_=>simp[bw]
    |r::rs,hr,hl,eF=>
     have h1:=eF r (by simp);have h2:=hl r (by simp);have:iG=sz:=by omega
     exact this▸hr
  ·cases hs
 |u9 r bD lo n=>
  simp only[fL]at hs;simp only[aA]at hy;obtain⟨_,cg,e,iG,av,ho,_,hx⟩:=hy;rw[ho]at hs;simp only at hs;split at hs
  ·rename_i hv;subst hv;simp only[Zaa]at hs;subst hs;have Kp:=(hx rfl).1;have HG:((av.drop lo).take n).length=n:=by rw[ZaB,Zbo];omega
   rcases uf hO ho (hx rfl)with⟨rfl,a,c,rfl⟩|⟨g,c,_,rfl,_,hr⟩
   ·exact⟨.inl ⟨by simp,a,c,rfl⟩⟩
   ·refine⟨.inr ⟨g,lo*iG,c,by rw[HG], ?_⟩⟩;have eF:=(hO.ob r _ ho).2.1
    match hq:(av.drop lo).take n,hr,hl with
    |[],_,_=>simp[bw]
    |q::qs,hr,hl=>
     have h1:=eF q (ZbW (ZaE (by rw[hq];simp)));have h2:=hl q (by simp);have:iG=sz:=by omega
     exact this▸hr
  ·cases hs
 |_=>simp[fL]at hs
def kB(w:World)(t ty e:TypeId)(i:TypeInfo)(ht:P.underlying t=some (.slice e))(hi:P.info? e=some i)(a b:Option Addr)(n cap c:Nat)(hn:n<=cap):
  (Builtin.append_ #[t,t] ty #[.slice a n cap,.slice b 0 c]).run P w=.ok (.slice a n cap) w:=by
 have hf:(Builtin.firstCells i.size 0 (.slice b 0 c)).run P w=.ok #[] w:=by
  cases b<;>simp[Builtin.firstCells,loadCells,loadCellsFrom]
 cases a<;>simp[Builtin.append_,run_underlying ht,sizeOf,typeInfo,hi,Builtin.lenOf,hn,hf,storeCells]
def Dh{e:Nat}(J1:z.cells.size=sz){n m old:Nat}(hx:xs.length=n*sz)(hv:vs.length=m*sz)(h63:n+m<=maxLen):
  (w.drew.alloc (.cells (xs.toArray++vs.toArray++Builtin.zeroCells z.cells (grownCap w (n+m) old e-(n+m))) e)).ownsRow 0 e sz (.slice (some ⟨w.heap.size,0,none⟩) (n+m) (grownCap w (n+m) old e)) (n+m) (xs++vs)/\
   ∀row,w.grownBy (w.drew.alloc (.cells (xs.toArray++vs.toArray++Builtin.zeroCells z.cells (grownCap w (n+m) old e-(n+m))) e)) row:=by
 have xL:=grownCap_ge w (n+m) old e;have XD:grownCap w (n+m) old e<=maxLen:=grownCap_le_maxLen w (n+m) old e h63;have dM:(xs++vs).length=(n+m)*sz:=by rw[ZaK,hx,hv,Nat.add_mul]
 refine⟨⟨dM,.inr ⟨w.heap.size,_,_,rfl,ZbB _,heap_alloc_new w.drew _,xL,XD, ?_, ?_⟩⟩,λrow=>⟨rfl,rfl,rfl,by simp,λk hk _=>heap_alloc_old w.drew _ k hk⟩⟩
 ·simp only[Array.size_append,List.size_toArray,size_zeroCells,J1,hx,hv,<-Nat.add_mul]
  congr 1
  omega
 ·simp only[Array.toList_append,List.append_assoc];rw[<-List.append_assoc,<-dM];exact List.take_left
def Vi{o:Ob}(h:ab r=some o):cG ab (some (r,o))=ab:=by
 funext x;simp only[cG];split
 ·rename_i e;rw[e,h]
 ·rfl
def Di{new:List (aK)}(hr:∀r∈av,r.length=sz)(hn:∀r∈new,r.length=sz)(h:lo+new.length<=av.length):(cy av lo new).flatten=cy av.flatten (lo*sz) new.flatten:=by
 have key:∀(l:List (aK)),(∀r∈l,r.length=sz)->l.flatten.length=l.length*sz:=by
  intro l;induction l with
  |nil=>simp
  |cons r rs ih=>intro h;simp[ih (λx hx=>h x (by simp[hx])),h r (by simp),Nat.add_mul];omega
 have tk:∀(k:Nat),k<=av.length->(av.take k).flatten=av.flatten.take (k*sz)/\(av.drop k).flatten=av.flatten.drop (k*sz):=by
  intro k hk;have h8:av.flatten=(av.take k).flatten++(av.drop k).flatten:=by rw[<-List.flatten_append,Zbr]
  have h9:(av.take k).flatten.length=k*sz:=by rw[key _ (λr h=>hr r (ZaE h)),ZaB];congr 1;omega
  rw[h8,Zc8 h9,List.drop_left' h9];exact⟨rfl,rfl⟩
 unfold cy;rw[List.flatten_append,List.flatten_append,(tk lo (by omega)).1,(tk _ h).2,key new hn,Nat.add_mul]
def GB(hO:ct base W M w0 ab w L){t e0:TypeId}{i:TypeInfo}(ht:P.underlying t=some (.slice e0))(hi:P.info? e0=some i)
  {e n:Nat} (hc:ab r=some (.arr bD e i.size av)) (Kp:lo+n<=av.length)
  (kv:(n=0/\∃(a:Option Addr) (c:Nat),xv=.slice a 0 c)\/∃g c,aX (L.sl r)=some g/\xv=.slice (some ⟨g,lo*i.size,none⟩) n c) (hs:XC w (WW W ab L) ys i.size yv) (zW:∀r∈ys,r.length=i.size):
  ∃w',(Builtin.copy_ #[t,t'] ty #[xv,yv]).run P w=.ok (goInt (min ys.length n:Nat)) w'/\
   ct base W M w0 (cG ab (some (r,.arr bD e i.size (cy av lo (ys.take n))))) w' L/\gP W ab L w (cG ab (some (r,.arr bD e i.size (cy av lo (ys.take n))))) L w':=by
 have stay:ys.take n=[]->ct base W M w0 (cG ab (some (r,.arr bD e i.size (cy av lo (ys.take n))))) w L/\gP W ab L w (cG ab (some (r,.arr bD e i.size (cy av lo (ys.take n))))) L w:=by
  intro h0;have e1:cy av lo (ys.take n)=av:=by rw[h0];simp[cy]
  rw[e1,Vi hc];exact⟨hO,gP.cQ (dg.refl _ _)⟩
 have dM:∃(p:Option Addr) (c:Nat),yv=.slice p ys.length c:=by
  rcases hs.it with⟨rfl,a,c,rfl⟩|⟨b,o,c,rfl,_⟩
  ·exact⟨a,c,rfl⟩
  ·exact⟨_,c,rfl⟩
 have hf0:∀(v:Value) (p:Option Addr) (m c:Nat),v=.slice p m c->(Builtin.firstCells i.size 0 v).run P w=.ok #[] w:=by
  rintro v p m c rfl;cases p<;>simp[Builtin.firstCells,loadCells,loadCellsFrom]
 obtain⟨yp,yc,hyv⟩:=dM;rcases kv with⟨rfl,a,c,rfl⟩|⟨g,c,hg,rfl⟩
 ·refine⟨w, ?_,stay (by simp)⟩;have:=hf0 yv yp _ yc hyv;subst hyv;cases a<;>simp[Builtin.copy_,run_underlying ht,Builtin.lenOf,run_sizeOf hi,this,storeCells]
 ·by_cases hm:min ys.length n=0
  ·refine⟨w, ?_,stay ?_⟩
   ·have:=hf0 yv yp _ yc hyv;subst hyv;have HP:Nat.min ys.length n=0:=hm;simp[Builtin.copy_,run_underlying ht,Builtin.lenOf,run_sizeOf hi,hm,this,storeCells]
   ·by_cases h:ys.length=0
    ·rw[ZaD h];simp
    ·rw[show n=0 by omega];simp
  ·rcases hs.it with⟨rfl,_⟩|⟨b,o,c',hyv2,hr⟩
   ·simp at hm
   ·have gH:=hO.ob r _ hc;obtain⟨hsz,eF,z7,hal⟩:=gH;rcases hal with⟨rfl,_⟩|⟨g',cap,cur,h1,h2,h3,h4,h5,h6,h7⟩
    ·simp at Kp;omega
    ·have zO:aX (L.sl r)=some g':=by rw[h1];simp[aX,ZaJ.1 h2]
     rw[zO]at hg;cases hg;obtain⟨vs,xM,Cm,XE⟩:=bw.flatten hr;have NX:min ys.length n*i.size<=vs.length:=by rw[xM];exact Zbk _ (Nat.min_le_left _ _)
     have XF:(ys.take n).length=min ys.length n:=by rw[ZaB,Nat.min_comm]
     have HG:(vs.take (min ys.length n*i.size)).length=min ys.length n*i.size:=by rw[ZaB];omega
     have hload:(Builtin.firstCells i.size (min ys.length n) yv).run P w=.ok (vs.take (min ys.length n*i.size)).toArray w:=by
      rw[hyv2];simp only[Builtin.firstCells];have:=Bj (P:=P) (w:=w) (b:=b) (o:=o) (vs:=vs.take (min ys.length n*i.size)) (λj v hj=>XE j v (by
       rw[ZaQ]at hj;split at hj
       ·exact hj
       ·cases hj))
      rw[HG]at this;exact this
     have hfl:(ys.take n).flatten=ys.flatten.take (min ys.length n*i.size):=by
      have h8:ys.flatten=(ys.take n).flatten++(ys.drop n).flatten:=by rw[<-List.flatten_append,Zbr]
      rw[h8,Zc8];have key:∀(l:List (aK)),(∀r∈l,r.length=i.size)->l.flatten.length=l.length*i.size:=by
       intro l;induction l with
       |nil=>simp
       |cons r rs ih=>intro h;simp[ih (λx hx=>h x (by simp[hx])),h r (by simp),Nat.add_mul];omega
      rw[key _ (λr h=>zW r (ZaE h)),XF]
     have hfit:lo*i.size+min ys.length n*i.size<=av.length*i.size:=by
      rw[<-Nat.add_mul];exact Zbk _ (by omega)
     have hcapr:av.length*i.size<=cap*i.size:=Zbk _ h4;have z8:bf w (WW W ab L) (ys.take n).flatten (vs.take (min ys.length n*i.size)):=by rw[hfl];exact bf.take _ Cm
     have hst:=run_storeCells_at P g (lo*i.size) e (vs.take (min ys.length n*i.size)) 0 cur w h3 (by rw[HG,h6];omega) (bf.one z8);have iu:L.own r (.arr bD e i.size av)=some g:=zO;refine⟨w.setRow g (cy cur.toList (lo*i.size) (vs.take (min ys.length n*i.size))).toArray, ?_, ?_⟩
     ·have HP:Nat.min ys.length n=min ys.length n:=rfl;rw[hyv2]at hload⊢;simp only[Builtin.copy_,Builtin.lenOf];simp only[ZbV]at hst;simp[run_underlying ht,run_sizeOf hi,hload,hst,cy]
     ·refine ct.put hO (zZ _ hO.fr (z7 g zO)) (by simp) (λ_ _=>⟨rfl,rfl⟩) rfl (λb _ hb=>setRow_other w _ b _ (λx=>hb _ hc (by rw[iu,x])))
       (λb hb=>.inl ⟨_,hc,hb⟩) (λo' iA hk=>by rw[hc]at iA;cases iA;exact Zar rfl hk) (λcg e' iG eN h=>?_) (λeZ=>?_)
      ·rw[hc]at h;cases h;exact⟨bD,e,i.size,_,rfl,Zaf _,λ_=>⟨rfl,rfl,g5 (by rw[XF];omega)⟩⟩
      ·have Bl:(cy av lo (ys.take n)).length=av.length:=g5 (by rw[XF];omega);refine⟨hsz,λx hx=>?_,z7,.inr ⟨g,cap,_,by rw[Bl];exact h1,h2,setRow_heap w _ cur _ e _ h3,by rw[Bl];exact h4,h5, ?_, ?_⟩⟩
       ·simp only[cy,Zaq]at hx;rcases hx with(hx|hx)|hx
        ·exact eF x (ZaE hx)
        ·exact zW x (ZaE hx)
        ·exact eF x (ZbW hx)
       ·have:=g5 (l:=cur.toList) (new:=vs.take (min ys.length n*i.size)) (off:=lo*i.size) (by rw[HG];simp only[Za3,h6];omega);simpa using this.trans (by simpa using h6)
       ·rw[Bl,Di eF (λx hx=>zW x (ZaE hx)) (by rw[XF];omega)];rw[List.toList_toArray,Bm (by rw[HG];omega) (by simp only[Za3,h6];omega)];exact bf.cy _ (bf.bi eZ.dx.toKeepsC eZ.sub _ _ h7) (bf.bi eZ.dx.toKeepsC eZ.sub _ _ z8)
def oU{t e:TypeId}{i:TypeInfo}(ht:P.underlying t=some (.slice e))(hi:P.info? e=some i)(hz:i.zero=some z)(v6:i.size=sz)(J1:z.cells.size=sz)
  {W':fo} {v:Value} {n:Nat} (iu:(n=0/\xs=[]/\∃a:Option Addr,v=.slice a 0 0)\/∃g cap cur,v=.slice (some ⟨g,0,none⟩) n cap/\0<cap/\w.heap[g]? =some (.cells cur e (0,0))/\n<=cap/\cap<=maxLen/\cur.size=cap*sz/\cur.toList.take (n*sz)=xs)
   (hs:XC w W' ys sz yv) (hyw:∀b o,bw w W' sz b o ys->∃vs,vs.length=ys.length*sz/\bf w W' ys.flatten vs/\∀j v,vs[j]? =some v->w.cell? ⟨b,o+j,none⟩=some v) (hroom:dK i.bytes (n+ys.length)):
  ∃v' w' vs,(Builtin.append_ #[t,t] ty #[v,yv]).run P w=.ok v' w'/\bf w W' ys.flatten vs/\vs.length=ys.length*sz/\
   ((n+ys.length=0/\∃a:Option Addr,v'=.slice a 0 0)\/∃g cap cur,v'=.slice (some ⟨g,0,none⟩) (n+ys.length) cap/\0<cap/\w'.heap[g]? =some (.cells cur e (0,0))/\n+ys.length<=cap/\cap<=maxLen/\cur.size=cap*sz/\
     cur.toList.take ((n+ys.length)*sz)=xs++vs)/\
   w.grownBy w' (aX v)/\(∀b,aX v'=some b->aX v=some b\/w.heap.size<=b)/\w.drawn<=w'.drawn:=by
 have h63:n+ys.length<=maxLen:=by have:=hroom.2;simp only[maxLen];omega
 have h63i:((n+ys.length:Nat):Int)<=9223372036854775807:=by have:=hroom.2;omega
 have Qv:w.grownBy w (aX v):=⟨rfl,rfl,rfl,Zaf _,λ_ _ _=>rfl⟩;rcases hs.it with⟨rfl,b,c,rfl⟩|⟨b,o,c,rfl,hr⟩
 ·rcases iu with⟨rfl,rfl,a,rfl⟩|⟨g,cap,cur,rfl,hp,hg,h1,h2,h3,h4⟩
  ·exact⟨_,w,[],kB w t ty e i ht hi a b 0 0 c (Zaf _),by simp[bf],by simp,.inl ⟨rfl,a,rfl⟩,Qv,λb hb=>.inl hb,Zaf _⟩
  ·exact⟨_,w,[],kB w t ty e i ht hi _ b n cap c h1,by simp[bf],by simp,.inr ⟨g,cap,cur,rfl,hp,hg,h1,h2,h3,by simpa using h4⟩,Qv,λb hb=>.inl hb,Zaf _⟩
 ·obtain⟨vs,xM,Cm,XE⟩:=hyw b o hr;have hvc':∀j v,vs[j]? =some v->w.cell? ((⟨b,o,none⟩:Addr).add j)=some v:=λj v h=>by rw[mP];exact XE j v h
  by_cases hy0:ys.length=0
  ·have:ys=[]:=ZaD hy0;subst this;rcases iu with⟨rfl,rfl,a,rfl⟩|⟨g,cap,cur,rfl,hp,hg,h1,h2,h3,h4⟩
   ·exact⟨_,w,[],kB w t ty e i ht hi a _ 0 0 c (Zaf _),by simp[bf],by simp,.inl ⟨rfl,a,rfl⟩,Qv,λb hb=>.inl hb,Zaf _⟩
   ·exact⟨_,w,[],kB w t ty e i ht hi _ _ n cap c h1,by simp[bf],by simp,.inr ⟨g,cap,cur,rfl,hp,hg,h1,h2,h3,by simpa using h4⟩,Qv,λb hb=>.inl hb,Zaf _⟩
  ·have grow:∀(a:Addr) (old:Nat),old<n+ys.length->xs.length=n*sz->(∀j u,xs[j]? =some u->w.cell? (a.add j)=some u)->
     ∃v' w',(Builtin.append_ #[t,t] ty #[.slice (some a) n old,.slice (some ⟨b,o,none⟩) ys.length c]).run P w=.ok v' w'/\
      (∃g cap cur,v'=.slice (some ⟨g,0,none⟩) (n+ys.length) cap/\0<cap/\w'.heap[g]? =some (.cells cur e (0,0))/\n+ys.length<=cap/\cap<=maxLen/\cur.size=cap*sz/\cur.toList.take ((n+ys.length)*sz)=xs++vs)/\
      (∀row,w.grownBy w' row)/\(∀b,aX v'=some b->w.heap.size<=b)/\w.drawn<=w'.drawn:=by
    intro a old ho Gb hxc;have bW:=run_append_grow (P:=P) w t ty e i z ht hi hz a n old xs (by rw[v6];exact Gb) hxc ⟨b,o,none⟩ ys.length c vs (by rw[v6];exact xM) hvc' ho h63i (growslice_fits ho hroom.1);have Bo:=Dh (w:=w) (e:=e) (old:=old) J1 Gb xM h63;obtain⟨dM,hor⟩:=Bo.1;rcases hor with⟨hn,_⟩|⟨g,cap,cur,hv,_,hg,h1,h2,h3,h4⟩
    ·cases hn
    ·refine⟨_,_,bW,⟨g,cap,cur,hv,by omega,hg,h1,h2,h3,h4⟩,Bo.2,λb hb=>?_,Zdb _⟩;have sc:grownCap w (n+ys.length) old e≠0:=by have:=grownCap_ge w (n+ys.length) old e;omega
     simp only[aX,Zab sc,Zaa]at hb;omega
   rcases iu with⟨rfl,rfl,a,rfl⟩|⟨g,cap,cur,rfl,hp,hg,h1,h2,h3,h4⟩
   ·cases a with
    |none=>
     have bW:=run_append_nil (P:=P) w t ty e i z ht hi hz ⟨b,o,none⟩ ys.length c vs (by rw[v6];exact xM) hvc' (by omega) (by omega) (by have:=growslice_fits (old:=0) (need:=ys.length) (by omega) (by simpa using hroom.1);have h2:=hroom.1;simp only[Zbi]at h2;omega);have Bo:=Dh (w:=w) (e:=e) (old:=0) (n:=0) (xs:=[]) J1 (by simp) xM (by simpa using h63);simp only[Zbi,ZaG,Array.empty_append]at Bo⊢;obtain⟨dM,hor⟩:=Bo.1;rcases hor with⟨hn,_⟩|⟨g,cap,cur,hv,_,hg,h1,h2,h3,h4⟩
     ·cases hn
     ·refine⟨_,_,vs,bW,Cm,xM,.inr ⟨g,cap,cur,hv,by omega,hg,h1,h2,h3,h4⟩,Bo.2 _,λb hb=>.inr ?_,Zdb _⟩;have sc:grownCap w ys.length 0 e≠0:=by have:=grownCap_ge w ys.length 0 e;omega
      simp only[aX,Zab sc,Zaa]at hb;omega
    |some a=>
     obtain⟨v',w',bW,xV,Bo,W9,Kq⟩:=grow a 0 (by omega) (by simp) (by simp);exact⟨v',w',vs,bW,Cm,xM,.inr xV,Bo _,λb hb=>.inr (W9 b hb),Kq⟩
   ·have Gb:xs.length=n*sz:=by
     rw[<-h4,ZaB,Za3,h3];exact Zc9 (Zbk sz h1)
    have XG:cap≠0:=ZaJ.1 hp;by_cases NY:n+ys.length<=cap
    ·have hfit:n*i.size+vs.length<=cur.size:=by rw[xM,h3,v6,<-Nat.add_mul];exact Zbk _ NY
     have bW:=run_append_room (P:=P) w t ty e i ht hi g n cap cur hg ⟨b,o,none⟩ ys.length c vs (by rw[v6];exact xM) hvc' (bf.one Cm) NY hfit;refine⟨_,_,vs,bW,Cm,xM,.inr ⟨g,cap,_,rfl,hp,setRow_heap w g cur _ e _ hg,NY,h2, ?_, ?_⟩,⟨rfl,rfl,rfl,by simp,λk _ hk=>setRow_other w g k _ (λe=>hk (by simp[aX,XG,e]))⟩,λb hb=>.inl ?_,by simp⟩
     ·simp only[List.size_toArray,ZaK,ZaB,Zbo,Za3];rw[v6]at hfit⊢;omega
     ·have dM:(xs++vs).length=(n+ys.length)*sz:=by rw[ZaK,Gb,xM,Nat.add_mul]
      rw[v6,h4,<-dM];exact List.take_left
     ·simpa [aX,XG]using hb
    ·obtain⟨v',w',bW,xV,Bo,W9,Kq⟩:=grow ⟨g,0,none⟩ cap (by omega) Gb (λj u hu=>by
      rw[mP,Zbi,cell_of_row w g j cur e (0,0) hg];rw[<-h4,ZaQ]at hu;split at hu
      ·simpa using hu
      ·cases hu)
     exact⟨v',w',vs,bW,Cm,xM,.inr xV,Bo _,λb hb=>.inr (W9 b hb),Kq⟩
def ug{sz:Nat}:∀{av:List (aK)},(∀r∈av,r.length=sz)->av.flatten.length=av.length*sz
 |[],_=>by simp
 |r::rs,h=>by
  have:=ug (av:=rs) (sz:=sz) λx hx=>h x (by simp[hx]);simp[this,h r (by simp),Nat.add_mul];omega
def sd(hO:ct base W M w0 ab w L){cg e:Nat}(hsz:0<sz)
  {v v':Value} (z8:∀x∈av++ys,x.length=sz)
  {rows0:List (aK)} (HQ:(ab r=none/\av=[]/\aX v=none)\/(ab r=some (.arr bD e sz rows0)/\aX (L.sl r)=aX v/\bD<cg))
  (hxs:bf w (WW W ab L) av.flatten xs) (hvs:bf w (WW W ab L) ys.flatten vs)
  (ub:(av.length+ys.length=0/\∃a:Option Addr,v'=.slice a 0 0)\/∃g cap cur,v'=.slice (some ⟨g,0,none⟩) (av.length+ys.length) cap/\0<cap/\w'.heap[g]? =some (.cells cur e (0,0))/\av.length+ys.length<=cap/\cap<=maxLen/\cur.size=cap*sz/\
     cur.toList.take ((av.length+ys.length)*sz)=xs++vs)
  (Bo:w.grownBy w' (aX v)) (W9:∀b,aX v'=some b->aX v=some b\/w.heap.size<=b) (Kq:w.drawn<=w'.drawn):
  ct base W M w0 (cG ab (some (r,.arr cg e sz (av++ys)))) w' (L.iS r v')/\gP W ab L w (cG ab (some (r,.arr cg e sz (av++ys)))) (L.iS r v') w':=by
 have XH:∀g,aX v=some g->base<=g\/M g:=λg hg=>by
  rcases HQ with⟨_,_,h⟩|⟨ho,hv,_⟩
  ·rw[hg]at h;cases h
  ·exact(hO.ob r _ ho).reach (by simpa [Loc.own,hv]using hg)
 have jy:base<=w.heap.size:=ZaP hO.fr.jq hO.fr.size;have xK:Fr base M w0 w':=hO.fr.trans ⟨Bo.os,Bo.tape,Bo.output,jy,Bo.size,λk hk hm=>Bo.block k (by omega) λx=>by
  rcases XH k x.symm with h|h
  ·omega
  ·exact hm h,Kq⟩
 refine ct.put hO xK Bo.size (λx hx=>⟨rfl,by simp[Loc.iS,hx]⟩) rfl (λb hlt hb=>Bo.block b hlt λx=>?_) (λb hb=>?_) (λcs hc hk=>?_) (λqw e2 Gy lI hc=>?_) (λeZ=>?_)
 ·rcases HQ with⟨_,_,h⟩|⟨ho,hv,_⟩
  ·rw[h]at x;cases x
  ·exact hb _ ho (by simp[Loc.own,hv,<-x])
 ·simp only[Loc.own,Loc.iS,if_true]at hb;rcases W9 b hb with h|h
  ·rcases HQ with⟨_,_,h2⟩|⟨ho,hv,_⟩
   ·rw[h]at h2;cases h2
   ·exact .inl ⟨_,ho,by simp[Loc.own,hv,h]⟩
  ·exact .inr h
 ·rcases HQ with⟨h,_⟩|⟨h,_⟩<;>rw[hc]at h<;>cases h
  exact Zar rfl (by assumption)
 ·rcases HQ with⟨h,_⟩|⟨h,_,hlt⟩
  ·rw[hc]at h;cases h
  ·rw[hc]at h;cases h;exact⟨cg,e,sz,_,rfl,by omega,λx=>by omega⟩
 ·refine⟨hsz,z8,λg hg=>?_, ?_⟩
  ·simp only[Loc.iS,if_true]at hg;rcases W9 g hg with h|h
   ·exact XH g h
   ·exact .inl (ZaP jy h)
  ·simp only[Loc.iS,if_true,ZaK];rcases ub with⟨h0,ha⟩|⟨g,cap,cur,hv,hp,hg,h1,h2,h3,h4⟩
   ·refine .inl ⟨?_,ha⟩;have h1:av=[]:=ZaD (by omega);have h2:ys=[]:=ZaD (by omega);simp[h1,h2]
   ·refine .inr ⟨g,cap,cur,hv,hp,hg,h1,h2,h3, ?_⟩;rw[h4,List.flatten_append];exact bf.append (bf.bi eZ.dx.toKeepsC eZ.sub _ _ hxs) (bf.bi eZ.dx.toKeepsC eZ.sub _ _ hvs)
def HR(hO:ct base W M w0 ab w L){t e:TypeId}{i:TypeInfo}(ht:P.underlying t=some (.slice e))(hi:P.info? e=some i)(hz:i.zero=some z)(J1:z.cells.size=i.size)(hsz:0<i.size)
   (hname:ab name=none) {x y:DV} (hx:aA w W ab L x xv) (hy:aA w W ab L y yv) (hok:(ir e i.size i.bytes name ab x y).ok):
  ∃v w' L',(Builtin.append_ #[t,t] ty #[xv,yv]).run P w=.ok v w'/\ct base W M w0 (cG ab (ir e i.size i.bytes name ab x y).put) w' L'/\
   gP W ab L w (cG ab (ir e i.size i.bytes name ab x y).put) L' w'/\aA w' W (cG ab (ir e i.size i.bytes name ab x y).put) L' (ir e i.size i.bytes name ab x y).val v:=by
 unfold ir at hok⊢;cases hs:fL ab y with
 |none=>simp[hs,cZ]at hok
 |some ys=>
  simp only[hs]at hok⊢;have hyw:∀b o,bw w (WW W ab L) i.size b o ys->∃vs,vs.length=ys.length*i.size/\bf w (WW W ab L) ys.flatten vs/\∀j v,vs[j]? =some v->w.cell? ⟨b,o+j,none⟩=some v:=λb o h=>bw.flatten h;cases x with
  |aW=>
   simp only at hok⊢;have mh:=hx;simp only[aA]at mh;obtain⟨a,rfl⟩:=mh;obtain⟨v',w',vs,bW,Cm,xM,ub,Bo,W9,Kq⟩:=oU (n:=0) (xs:=[]) ht hi hz rfl J1 (.inl ⟨rfl,rfl,a,rfl⟩) (ty:=ty) (qS hO hy hs hok.1) hyw (by simpa using hok.2);have zO:aX (.slice a 0 0)=none:=by cases a<;>simp[aX]
   have:=sd hO (r:=name) (bD:=0) (cg:=0) (rows0:=[]) (av:=[]) (ys:=ys) hsz (by simpa using hok.1) (.inl ⟨hname,rfl,zO⟩) (xs:=[]) (by simp[bf]) Cm (by simpa using ub) Bo W9 Kq;refine⟨v',w',_,bW,by simpa using this.1,by simpa using this.2, ?_⟩;simp only[aA];refine⟨?_,0,e,i.size,ys,by simp[cG],Zaf _,λ_=>by simp[Loc.iS]⟩;rcases ub with⟨_,a,rfl⟩|⟨g,cap,cur,rfl,_⟩<;>exact⟨_,_,_,rfl⟩
  |bA r bD=>
   cases ho:ab r with
   |none=>simp[ho,cZ]at hok
   |some o=>
    cases o with
    |box cs=>simp[ho,cZ]at hok
    |arr cg e' iG av=>
     simp only[ho]at hok⊢;obtain⟨rfl,rfl,rfl,hl,hroom⟩:=hok;have mh:=hx;simp only[aA]at mh;obtain⟨_,qw,e2,Gy,lI,nH,_,mQ⟩:=mh;rw[ho]at nH;cases nH;have hv:=mQ rfl;have gH:=hO.ob r _ ho;obtain⟨_,eF,hm,hal⟩:=gH;have iu:∃xs,bf w (WW W ab L) av.flatten xs/\((av.length=0/\xs=[]/\∃a:Option Addr,xv=.slice a 0 0)\/∃g cap cur,xv=.slice (some ⟨g,0,none⟩) av.length cap/\0<cap/\w.heap[g]? =some (.cells cur e' (0,0))/\av.length<=cap/\cap<=maxLen/\cur.size=cap*i.size/\cur.toList.take (av.length*i.size)=xs):=by
      rcases hal with⟨rfl,a,ha⟩|⟨g,cap,cur,h1,h2,h3,h4,h5,h6,h7⟩
      ·exact⟨[],by simp[bf],.inl ⟨rfl,rfl,a,by rw[hv,ha]⟩⟩
      ·exact⟨_,h7,.inr ⟨g,cap,cur,by rw[hv,h1],h2,h3,h4,h5,h6,rfl⟩⟩
     obtain⟨xs,Ga,iu⟩:=iu;obtain⟨v',w',vs,bW,Cm,xM,ub,Bo,W9,Kq⟩:=oU ht hi hz rfl J1 iu (ty:=ty) (qS hO hy hs hl) hyw hroom;have:=sd hO (r:=r) (bD:=bD) (cg:=bD+1) (av:=av) (ys:=ys) hsz (λx hx=>(Zaq.1 hx).elim (eF x) (hl x)) (.inr ⟨ho,by rw[hv],by omega⟩) Ga Cm ub Bo W9 Kq;refine⟨v',w',_,bW,this.1,this.2, ?_⟩;simp only[aA];refine⟨?_,bD+1,e',i.size,av++ys,by simp[cG],Zaf _,λ_=>by simp[Loc.iS]⟩;rcases ub with⟨_,a,rfl⟩|⟨g,cap,cur,rfl,_⟩<;>exact⟨_,_,_,rfl⟩
    |_=>simp[ho,cZ]at hok
  |u9 r bD lo n=>
   cases lo with
   |succ lo=>simp[cZ]at hok
   |zero=>
   cases ho:ab r with
   |none=>simp[ho,cZ]at hok
   |some o=>
    cases o with
    |arr cg e' iG av=>
     simp only[ho]at hok⊢;obtain⟨rfl,rfl,rfl,hl,hroom⟩:=hok;have mh:=hx;simp only[aA]at mh;obtain⟨_,qw,e2,Gy,lI,nH,_,mQ⟩:=mh;rw[ho]at nH;cases nH;obtain⟨Kp,p,XI,p2,vP,rfl,Qu⟩:=mQ rfl;have gH:=hO.ob r _ ho;obtain⟨_,eF,hm,hal⟩:=gH;have HG:(av.take n).length=n:=by rw[ZaB];omega
     have zO:aX (L.sl r)=aX (.slice p2 n (XI-0)):=by
      rw[vP];simp only[Zcb];by_cases Xa:XI=0
      ·subst Xa;cases p<;>cases p2<;>simp[aX]
      ·have:=Qu (by omega);subst this;cases p with
       |none=>simp[aX]
       |some a=>
        obtain⟨b,o,ix⟩:=a;cases ix<;>simp[aX,Xa,Addr.add]
     have iu:∃xs,bf w (WW W ab L) (av.take n).flatten xs/\((n=0/\xs=[]/\∃a:Option Addr,Value.slice p2 n (XI-0)=.slice a 0 0)\/∃g cap cur,Value.slice p2 n (XI-0)=.slice (some ⟨g,0,none⟩) n cap/\0<cap/\w.heap[g]? =some (.cells cur e' (0,0))/\n<=cap/\cap<=maxLen/\cur.size=cap*i.size/\cur.toList.take (n*i.size)=xs):=by
      rcases hal with⟨rfl,a,ha⟩|⟨g,cap,cur,h1,h2,h3,h4,h5,h6,h7⟩
      ·rw[vP]at ha;simp only[Value.slice.injEq]at ha;obtain⟨_,_,rfl⟩:=ha;have:n=0:=by simp at Kp;omega
       subst this;exact⟨[],by simp[bf],.inl ⟨rfl,rfl,p2,rfl⟩⟩
      ·rw[vP]at h1;simp only[Value.slice.injEq]at h1;obtain⟨rfl,_,rfl⟩:=h1;have:=Qu h2;subst this;refine⟨_, ?_,.inr ⟨g,XI,cur,by simp[mP],h2,h3,by omega,h5,h6,rfl⟩⟩;have e1:(av.take n).flatten=av.flatten.take (n*i.size):=by
        have h8:av.flatten=(av.take n).flatten++(av.drop n).flatten:=by rw[<-List.flatten_append,Zbr]
        rw[h8,Zc8 (by rw[ug (sz:=i.size) (λr hr=>eF r (ZaE hr)),HG])]
       have e2:cur.toList.take (n*i.size)=(cur.toList.take (av.length*i.size)).take (n*i.size):=by
        rw[ZcS];congr 1;have:=Zbk i.size (show n<=av.length by omega);omega
       rw[e1,e2];exact bf.take _ h7
     obtain⟨xs,Ga,iu⟩:=iu;obtain⟨v',w',vs,bW,Cm,xM,ub,Bo,W9,Kq⟩:=oU ht hi hz rfl J1 iu (ty:=ty) (qS hO hy hs hl) hyw hroom;have:=sd hO (r:=r) (bD:=bD) (cg:=bD+1) (av:=av.take n) (ys:=ys) hsz (λx hx=>(Zaq.1 hx).elim (λh=>eF x (ZaE h)) (hl x)) (.inr ⟨ho,zO,by omega⟩) Ga Cm (by rw[HG];exact ub) Bo W9 Kq;refine⟨v',w',_,bW,this.1,this.2, ?_⟩;simp only[aA];refine⟨?_,bD+1,e',i.size,av.take n++ys,by simp[cG],Zaf _,λ_=>by simp[Loc.iS]⟩;rcases ub with⟨_,a,rfl⟩|⟨g,cap,cur,rfl,_⟩<;>exact⟨_,_,_,rfl⟩
    |_=>simp[ho,cZ]at hok
  |_=>simp[cZ]at hok
def NZ(hO:ct base W M w0 ab w L){t e0:TypeId}{i:TypeInfo}(ht:P.underlying t=some (.slice e0))(hi:P.info? e0=some i)
  {x y:DV} (hx:aA w W ab L x xv) (hy:aA w W ab L y yv) (hok:(jN i.size ab x y).ok):
  ∃v w',(Builtin.copy_ #[t,t'] ty #[xv,yv]).run P w=.ok v w'/\ct base W M w0 (cG ab (jN i.size ab x y).put) w' L/\
   gP W ab L w (cG ab (jN i.size ab x y).put) L w'/\aA w' W (cG ab (jN i.size ab x y).put) L (jN i.size ab x y).val v:=by
 unfold jN at hok⊢;cases hs:fL ab y with
 |none=>simp[hs,cZ]at hok
 |some ys=>
  simp only[hs]at hok⊢;cases x with
  |bA r bD=>
   cases ho:ab r with
   |none=>simp[ho,cZ]at hok
   |some o=>
    cases o with
    |arr cg e iG av=>
     simp only[ho]at hok⊢;obtain⟨rfl,rfl,hl⟩:=hok;simp only[aA]at hx;obtain⟨_,qw,e2,Gy,lI,nH,_,mQ⟩:=hx;rw[ho]at nH;cases nH;have hv:=mQ rfl;subst hv;have hd:(av.length=0/\∃(a:Option Addr) (c:Nat),L.sl r=.slice a 0 c)\/∃g c,aX (L.sl r)=some g/\L.sl r=.slice (some ⟨g,0*i.size,none⟩) av.length c:=by
      obtain⟨_,_,_,hal⟩:=hO.ob r _ ho;rcases hal with⟨rfl,a,ha⟩|⟨g,cap,cur,h1,h2,_⟩
      ·exact .inl ⟨rfl,a,0,ha⟩
      ·exact .inr ⟨g,cap,by rw[h1];simp[aX,ZaJ.1 h2],by rw[h1,ZcK]⟩
     obtain⟨w',h1,h2,h3⟩:=GB hO ht hi (t':=t') (ty:=ty) ho (lo:=0) (n:=av.length) (by omega) hd (qS hO hy hs hl) hl;exact⟨_,w',h1,h2,h3,by simp[aA,bj,goInt]⟩
    |_=>simp[ho,cZ]at hok
  |u9 r bD lo n=>
   cases ho:ab r with
   |none=>simp[ho,cZ]at hok
   |some o=>
    cases o with
    |arr cg e iG av=>
     simp only[ho]at hok⊢;obtain⟨rfl,rfl,hl⟩:=hok;simp only[aA]at hx;obtain⟨_,qw,e2,Gy,lI,nH,_,mQ⟩:=hx;rw[ho]at nH;cases nH;have hv:=mQ rfl;have hd:(n=0/\∃(a:Option Addr) (c:Nat),xv=.slice a 0 c)\/∃g c,aX (L.sl r)=some g/\xv=.slice (some ⟨g,lo*i.size,none⟩) n c:=by
      rcases uf hO ho hv with h|⟨g,c,h1,h2,_⟩
      ·exact .inl h
      ·exact .inr ⟨g,c,h1,h2⟩
     obtain⟨w',h1,h2,h3⟩:=GB hO ht hi (t':=t') (ty:=ty) ho hv.1 hd (qS hO hy hs hl) hl;exact⟨_,w',h1,h2,h3,by simp[aA,bj,goInt]⟩
    |_=>simp[ho,cZ]at hok
  |_=>simp[cZ]at hok
def jC{α:Type}(l:List α):∀(n j:Nat),j<n*l.length->(List.replicate n l).flatten[j]? =l[j % l.length]?
 |0,j,h=>by simp at h
 |n+1,j,h=>by
  simp only[ZaY,Zbu];by_cases hj:j<l.length
  ·rw[Zbc hj,ZcH hj]
  ·rw[Za9 (by omega),jC l n (j-l.length) (by rw[Nat.add_mul]at h;omega)];rw[Nat.mod_eq_sub_mod (a:=j) (by omega)]
def xX(z:Array Value)(n:Nat):(madeCells z (n*z.size)).toList=(List.replicate n z.toList).flatten:=by
 apply ZbN;intro j;by_cases hj:j<n*z.size
 ·have hz:0<z.size:=by
   rcases ZcY z.size with h|h
   ·rw[h]at hj;simp at hj
   ·exact h
  rw[jC z.toList n j (by simpa using hj)];have hm:=Nat.mod_lt j hz;simp[madeCells,hj,hm]
 ·rw[Zbs (by simp[size_madeCells];omega),Zbs (by simp;omega)]
def uh{zero:aK}{zs:List Value}(h:bf w W zero zs):∀n,bf w W (List.replicate n zero).flatten (List.replicate n zs).flatten
 |0=>by simp[bf]
 |n+1=>by simpa [ZaY]using bf.append h (uh h n)
def new_arr(hO:ct base W M w0 ab w L)(hr:ab r=none){e:Nat}(hsz:0<sz)(z8:∀x∈av,x.length=sz){c:Array Value}(oj:c.size=av.length*sz)
  (hc:bf w (WW W ab L) av.flatten c.toList) (hmax:av.length<=maxLen):
  ct base W M w0 (cG ab (some (r,.arr 0 e sz av))) (w.alloc (.cells c e)) (L.iS r (.slice (some ⟨w.heap.size,0,none⟩) av.length av.length))/\
   gP W ab L w (cG ab (some (r,.arr 0 e sz av))) (L.iS r (.slice (some ⟨w.heap.size,0,none⟩) av.length av.length)) (w.alloc (.cells c e)):=by
 have hb:=kW (w:=w) (.cells c e);refine ct.put hO (xW hO.fr hb) hb.size (λx hx=>⟨rfl,by simp[Loc.iS,hx]⟩) rfl (λb hlt _=>hb.block b hlt) (λb h=>.inr ?_)
  (λo' h _=>by rw[hr]at h;cases h) (λ_ _ _ _ h=>by rw[hr]at h;cases h) (λeZ=>?_)
 ·simp only[Loc.own,Loc.iS,if_true,aX]at h;split at h
  ·cases h
  ·simp only[Zaa]at h;omega
 ·refine⟨hsz,z8,λg hg=>?_, ?_⟩
  ·simp only[Loc.iS,if_true,aX]at hg;split at hg
   ·cases hg
   ·simp only[Zaa]at hg;subst hg;exact .inl (ZaP hO.fr.jq hO.fr.size)
  ·simp only[Loc.iS,if_true];by_cases h0:av.length=0
   ·refine .inl ⟨ZaD h0,some ⟨w.heap.size,0,none⟩,by rw[h0]⟩
   ·refine .inr ⟨w.heap.size,av.length,c,rfl,by omega,heap_alloc_new w _,Zaf _,hmax,oj, ?_⟩;rw[ZaX (by simp[oj])];exact bf.bi eZ.dx.toKeepsC eZ.sub _ _ hc
def Dj(hO:ct base W M w0 ab w L){t e:TypeId}{i:TypeInfo}(ht:P.underlying t=some (.slice e))(hi:P.info? e=some i)(hz:i.zero=some z)(hsz:0<i.size)
   (ui:z.cells.toList.mapM sb=some zero) (hname:ab name=none) {x:DV} (hx:aA w W ab L x xv) (hok:(lH e i.size i.bytes zero name x).ok):
  ∃v w' L',(Instr.makeSlice t xv xv).run P w=.ok v w'/\ct base W M w0 (cG ab (lH e i.size i.bytes zero name x).put) w' L'/\
   gP W ab L w (cG ab (lH e i.size i.bytes zero name x).put) L' w'/\aA w' W (cG ab (lH e i.size i.bytes zero name x).put) L' (lH e i.size i.bytes zero name x).val v:=by
 cases x with
 |v t'=>
  cases t' with
  |int k n=>
   simp only[aA,bj]at hx;subst hx;simp only[lH]at hok⊢;obtain⟨h0,XJ,hb,hm⟩:=hok;have hzz:=tn (w:=w) (W:=WW W ab L) ui;have J1:z.cells.size=i.size:=by have:=bf.length hzz;simpa [XJ]using this
   have hbi:(i.bytes:Int)*n<=281474976710656:=by
    have e:(i.bytes:Int)*n=((n.toNat*i.bytes:Nat):Int):=by
     rw[Int.natCast_mul,Int.toNat_of_nonneg h0,Int.mul_comm]
    rw[e];omega
   have bW:=run_make (P:=P) w t e i z ht hi hz k k n n h0 (Zct _) hbi (by omega);have hc:(madeCells z.cells (n.toNat*i.size)).toList=(List.replicate n.toNat z.cells.toList).flatten:=by rw[<-J1];exact xX _ _
   have:=new_arr hO (e:=e) hname (av:=List.replicate n.toNat zero) hsz (λx hx=>by rw[ZbI hx];exact XJ) (c:=madeCells z.cells (n.toNat*i.size)) (by simp[size_madeCells]) (by rw[hc];exact uh hzz _) (by simp only[Zby,maxLen];omega);simp only[Zby]at this;refine⟨_,_,_,bW,this.1,this.2, ?_⟩;simp only[aA];exact⟨⟨_,_,_,rfl⟩,0,e,i.size,List.replicate n.toNat zero,by simp[cG],Zaf _,λ_=>by simp[Loc.iS]⟩
  |_=>simp[lH,cZ]at hok
 |_=>simp[lH,cZ]at hok
def N1{ts:aK}:∀{zs:List Value},zs.mapM sb=some ts->aQ w W ab L (ts.map Gx) zs:=by
 induction ts with
 |nil=>
  intro zs h;cases zs with
  |nil=>simp[aQ]
  |cons z zs=>simp[Za7,Zad]at h
 |cons t ts ih=>
  intro zs h;cases zs with
  |nil=>simp at h
  |cons z zs=>
   simp only[Za7,Zao,Zaj,Zad,Zaa,Za1]at h;obtain⟨t',ht,ts',Kr,rfl,rfl⟩:=h;simp only[ZaA,aQ];have hr:=Dg (w:=w) (W:=WW W ab L) ht;refine⟨z,zs,rfl,hr.2.1, ?_,ih Kr⟩;unfold Gx;split
   ·unfold sb at ht;split at ht<;>first|(cases ht;done)|skip
    all_goals first
     |(simp only[aA];exact⟨_,rfl⟩)
     |(cases ht)
   ·simp only[aA];exact hr.1
def tq{zero:bB}{zs:List Value}(h:aQ w W ab L zero zs):∀n,aQ w W ab L (List.replicate n zero).flatten (List.replicate n zs).flatten
 |0=>by simp[aQ]
 |n+1=>by simpa [ZaY]using aQ.append h (tq h n)
def Bp(hO:ct base W M w0 ab w L){t e:TypeId}{i:TypeInfo}(ht:P.underlying t=some (.slice e))(hi:P.info? e=some i)(hz:i.zero=some z)
   (ui:z.cells.toList.mapM sb=some zero) (hname:ab name=none) {x:DV} (hx:aA w W ab L x xv) (hok:(gh i.size i.bytes zero name x).ok):
  ∃v w' L',(Instr.makeSlice t xv xv).run P w=.ok v w'/\ct base W M w0 (cG ab (gh i.size i.bytes zero name x).put) w' L'/\
   gP W ab L w (cG ab (gh i.size i.bytes zero name x).put) L' w'/\aA w' W (cG ab (gh i.size i.bytes zero name x).put) L' (gh i.size i.bytes zero name x).val v:=by
 cases x with
 |v t'=>
  cases t' with
  |int k n=>
   simp only[aA,bj]at hx;subst hx;simp only[gh]at hok⊢;obtain⟨h0,XJ,hb,hm⟩:=hok;have hzz:=N1 (w:=w) (W:=W) (ab:=ab) (L:=L) ui;have J1:z.cells.size=i.size:=by have:=aQ.length hzz;simpa [XJ]using this
   have hbi:(i.bytes:Int)*n<=281474976710656:=by
    have e:(i.bytes:Int)*n=((n.toNat*i.bytes:Nat):Int):=by
     rw[Int.natCast_mul,Int.toNat_of_nonneg h0,Int.mul_comm]
    rw[e];omega
   have bW:=run_make (P:=P) w t e i z ht hi hz k k n n h0 (Zct _) hbi (by omega);have hc:(madeCells z.cells (n.toNat*i.size)).toList=(List.replicate n.toNat z.cells.toList).flatten:=by rw[<-J1];exact xX _ _
   have:=HO hO hname (c:=madeCells z.cells (n.toNat*i.size)) e (cs:=(List.replicate n.toNat (zero.map Gx)).flatten) (by rw[hc];exact tq hzz _);refine⟨_,_,_,bW,this.1,this.2, ?_⟩;simp only[aA];exact⟨⟨(List.replicate n.toNat (zero.map Gx)).flatten,by simp[cG]⟩,by simp[Loc.g6]⟩
  |_=>simp[gh,cZ]at hok
 |_=>simp[gh,cZ]at hok
end
end
end Go.DM
namespace Go.DM
open Go.RowKit
variable [bI]
def iH(P:Program)(rec:TypeId->Option (List Sh))(off:Nat):List Field->Option (List Sh)
 |[]=>some []
 |f::fs=>
  match rec f.type,P.info? f.type with
  |some s,some i=>if f.name≠ "_" /\f.offset=off/\s.length=i.size then(iH P rec (off+s.length) fs).map (s++·)else none
  |_,_=>none
def lp(P:Program):Nat->TypeId->Option (List Sh)
 |0,_=>none
 |d+1,t=>
  match P.underlying t with
  |some .bool=>some [.bool]
  |some (.int k)=>some [.int k]
  |some .string=>some [.str]
  |some (.struct fs)=>if P.stoodInHeld t then none else iH P (lp P d) 0 fs.toList
  |some (.array n e)=>
   match lp P d e,P.info? e with
   |some s,some i=>if s.length=i.size/\0<i.size then some ((List.replicate n s).flatten)else none
   |_,_=>none
  |_=>none
def fit:Sh->Value->Bool
 |.bool,.bool _=>true
 |.int k,.int k' _=>k==k'
 |.str,.string _=>true
 |_,_=>false
def fits:List Sh->List Value->Prop
 |[],vs=>vs=[]
 |s::ss,vs=>∃v vs',vs=v::vs'/\fit s v=true/\fits ss vs'
def veq:Value->Value->Bool
 |.bool a,.bool b=>a==b
 |.int _ a,.int _ b=>a==b
 |.string a,.string b=>a.toList==b.toList
 |_,_=>false
def mz:List Value->List Value->Bool
 |[],[]=>true
 |a::as,b::bs=>veq a b&&mz as bs
 |_,_=>false
def fits.length:∀{ss:List Sh} {vs:List Value},fits ss vs->vs.length=ss.length
 |[],_,h=>by simp only[fits]at h;simp[h]
 |_::ss,_,h=>by
  simp only[fits]at h;obtain⟨v,vs',rfl,_,h⟩:=h;simp[fits.length h]
def fits.split:∀{s1 s2:List Sh} {vs:List Value},fits (s1++s2) vs->fits s1 (vs.take s1.length)/\fits s2 (vs.drop s1.length)
 |[],s2,vs,h=>by simpa [fits]using h
 |s::s1,s2,vs,h=>by
  simp only[ZaM,fits]at h;obtain⟨v,vs',rfl,h1,h⟩:=h;have:=fits.split h;simp only[Za5,Zcf,List.drop_succ_cons,fits];exact⟨⟨v,_,rfl,h1,this.1⟩,this.2⟩
def uj:∀{a b c d:List Value},a.length=c.length->mz (a++b) (c++d)=(mz a c&&mz b d)
 |[],b,[],d,_=>by simp[mz]
 |x::a,b,[],d,h=>by simp at h
 |[],b,y::c,d,h=>by simp at h
 |x::a,b,y::c,d,h=>by
  simp only[ZaM,mz];rw[uj (by simpa using h),Bool.and_assoc]
def zP(d:TypeDesc)(vs:List Value):Value:=if b8 d then .agg vs.toArray else vs.getD 0 Go.undef
section
variable{P:Program}
def m9(w:World){t:TypeId}{d:TypeDesc}{i:TypeInfo}(hd:P.underlying t=some d)(hi:P.info? t=some i){xs:List Value}{off:Nat}(h1:b8 d=true\/i.size=1)(hl:off+i.size<=xs.length):
  (part t xs.toArray off).run P w=.ok (zP d ((xs.drop off).take i.size)) w:=by
 have Nz:(isAgg t).run P w=.ok (b8 d) w:=by rw[Gz hd];cases d<;>rfl
 simp only[part,Sem.run_bind,Nz,Result.andThen_ok];by_cases ha:b8 d=true
 ·simp only[ha,if_true,Sem.run_bind,run_sizeOf hi,Result.andThen_ok,Sem.run_pure,zP]
  congr 3
  simp only[List.extract_toArray,List.extract_eq_take_drop]
  congr 2
  omega
 ·have h2:=h1.resolve_left ha;have hlt:off<xs.length:=by omega
  simp only[ha,zP,h2];simp[hlt]
def Cn{d:Nat}{t:TypeId}{cj:List Sh}(h:lp P (d+1) t=some cj):∃desc,P.underlying t=some desc/\(b8 desc=true\/cj.length=1):=by
 simp only[lp]at h;split at h
 ·rename_i hu;exact⟨_,hu,.inr (by simp at h;simp[<-h])⟩
 ·rename_i hu;exact⟨_,hu,.inr (by simp at h;simp[<-h])⟩
 ·rename_i hu;exact⟨_,hu,.inr (by simp at h;simp[<-h])⟩
 ·rename_i hu;exact⟨_,hu,.inl rfl⟩
 ·rename_i hu;exact⟨_,hu,.inl rfl⟩
 ·cases h
def XK{d:Nat}{e:TypeId}{de:TypeDesc}{s:List Sh}{i:TypeInfo}(hd:P.underlying e=some de)(hi:P.info? e=some i)(h1:b8 de=true\/i.size=1)(hs:s.length=i.size)(Gc:0<i.size)
  (ih:∀(xs ys:List Value) (w:World),fits s xs->fits s ys->(Op.equalIn d e (zP de xs) (zP de ys)).run P w=.ok (mz xs ys) w) (xs ys:List Value):
  ∀(n k:Nat) (w:World),fits ((List.replicate n s).flatten) (xs.drop (k*i.size))->fits ((List.replicate n s).flatten) (ys.drop (k*i.size))->
   (forIn (List.range' k n) (none,()) (λj (_:Option Bool×Unit)=>do
     let a<-part e xs.toArray (j*i.size)
     let b<-part e ys.toArray (j*i.size)
     let r<-Op.equalIn d e a b
     if(!r)=true then pure (ForInStep.done (some false,()))else pure (ForInStep.yield (none,()))):Sem (Option Bool×Unit)).run P w=
    .ok (if mz (xs.drop (k*i.size)) (ys.drop (k*i.size))then(none,())else(some false,())) w
 |0,k,w,hx,hy=>by
  simp only[Zcg,List.flatten_nil,fits]at hx hy;simp[hx,hy,mz]
 |n+1,k,w,hx,hy=>by
  simp only[ZaY,Zbu]at hx hy;have Gb:=fits.length hx;have zW:=fits.length hy;simp only[ZaK,Zbo]at Gb zW;obtain⟨HS,v7⟩:=fits.split hx;obtain⟨lq,fJ⟩:=fits.split hy;have e2:k*i.size+s.length=(k+1)*i.size:=by rw[Nat.add_mul,hs];omega
  rw[List.drop_drop,e2]at v7 fJ;have hsp:0<i.size:=Gc;have p1:=λw=>m9 (P:=P) w hd hi (xs:=xs) (off:=k*i.size) h1 (by omega);have p2:=λw=>m9 (P:=P) w hd hi (xs:=ys) (off:=k*i.size) h1 (by omega);rw[hs]at HS lq;have hr:=ih _ _ w HS lq;have Aa:mz (xs.drop (k*i.size)) (ys.drop (k*i.size))=(mz ((xs.drop (k*i.size)).take i.size) ((ys.drop (k*i.size)).take i.size)&&mz (xs.drop ((k+1)*i.size)) (ys.drop ((k+1)*i.size))):=by
   have a1:xs.drop (k*i.size)=(xs.drop (k*i.size)).take i.size++xs.drop ((k+1)*i.size):=by
    rw[<-e2,hs,<-List.drop_drop,Zbr]
   have a2:ys.drop (k*i.size)=(ys.drop (k*i.size)).take i.size++ys.drop ((k+1)*i.size):=by
    rw[<-e2,hs,<-List.drop_drop,Zbr]
   rw[a1,a2,uj (by simp;omega)];rw[<-a1,<-a2]
  simp only[Zc2,ZcL,Sem.run_bind,p1,p2,Result.andThen_ok,hr];rw[Aa];cases hb:mz ((xs.drop (k*i.size)).take i.size) ((ys.drop (k*i.size)).take i.size)
  ·simp
  ·have:=XK hd hi h1 hs Gc ih xs ys n (k+1) w v7 fJ;simp only[Zcs,ZaW,if_false,Sem.run_pure,Result.andThen_ok,ZcF];exact this
def GC{d:Nat}(ih:∀(t:TypeId) (cj:List Sh) (desc:TypeDesc),lp P d t=some cj->P.underlying t=some desc->∀(xs ys:List Value) (w:World),fits cj xs->fits cj ys->(Op.equalIn d t (zP desc xs) (zP desc ys)).run P w=.ok (mz xs ys) w)
  (Ks:∀(t:TypeId) (cj:List Sh),lp P d t=some cj->∃desc,P.underlying t=some desc/\(b8 desc=true\/cj.length=1)) (xs ys:List Value):
  ∀(fs:List Field) (off:Nat) (cj:List Sh) (w:World),iH P (lp P d) off fs=some cj->fits cj (xs.drop off)->fits cj (ys.drop off)->off<=xs.length->off<=ys.length->
   (Op.eqFields d xs.toArray ys.toArray fs).run P w=.ok (mz (xs.drop off) (ys.drop off)) w
 |[],off,cj,w,h,hx,hy,_,_=>by
  simp only[iH,Zaa]at h;subst h;simp only[fits]at hx hy;simp[Op.eqFields,hx,hy,mz]
 |f::fs,off,cj,w,h,hx,hy,hox,hoy=>by
  simp only[iH]at h;split at h
  ·rename_i s i hs hi;split at h
   ·rename_i hc;obtain⟨hn,rfl,hsz⟩:=hc;simp only[Zac]at h;obtain⟨rest,Kt,rfl⟩:=h;obtain⟨desc,hd,h1⟩:=Ks _ _ hs;have Gb:=fits.length hx;have zW:=fits.length hy;simp only[ZaK,Zbo]at Gb zW;obtain⟨HS,v7⟩:=fits.split hx;obtain⟨lq,fJ⟩:=fits.split hy;rw[List.drop_drop]at v7 fJ;rw[hsz]at h1;have p1:=λw=>m9 (P:=P) w hd hi (xs:=xs) (off:=f.offset) h1 (by omega);have p2:=λw=>m9 (P:=P) w hd hi (xs:=ys) (off:=f.offset) h1 (by omega);have hr:=ih _ _ _ hs hd _ _ w HS lq;rw[hsz]at hr;have Aa:mz (xs.drop f.offset) (ys.drop f.offset)=(mz ((xs.drop f.offset).take i.size) ((ys.drop f.offset).take i.size)&&mz (xs.drop (f.offset+s.length)) (ys.drop (f.offset+s.length))):=by
     have a1:xs.drop f.offset=(xs.drop f.offset).take i.size++xs.drop (f.offset+s.length):=by rw[hsz,<-List.drop_drop,Zbr]
     have a2:ys.drop f.offset=(ys.drop f.offset).take i.size++ys.drop (f.offset+s.length):=by rw[hsz,<-List.drop_drop,Zbr]
     rw[a1,a2,uj (by simp;omega)];rw[<-a1,<-a2]
    simp only[Op.eqFields,hn,ne_eq,not_false_eq_true,if_true,Sem.run_bind,p1,p2,Result.andThen_ok,hr];rw[Aa];cases hb:mz ((xs.drop f.offset).take i.size) ((ys.drop f.offset).take i.size)
    ·simp
    ·simp only[Zcs,ZaW,if_false,ZcF];exact GC ih Ks xs ys fs _ rest w Kt v7 fJ (by omega) (by omega)
   ·cases h
  ·cases h
def se:∀(d:Nat) (t:TypeId) (cj:List Sh) (desc:TypeDesc),lp P d t=some cj->P.underlying t=some desc->∀(xs ys:List Value) (w:World),fits cj xs->fits cj ys->
  (Op.equalIn d t (zP desc xs) (zP desc ys)).run P w=.ok (mz xs ys) w
 |0,t,cj,desc,h,_,_,_,_,_,_=>by simp[lp]at h
 |d+1,t,cj,desc,h,hu,xs,ys,w,hx,hy=>by
  simp only[lp,hu]at h;have one:∀{s:Sh} {zs:List Value},fits [s] zs->∃v,zs=[v]/\fit s v=true:=by
   intro s zs hz;simp only[fits]at hz;obtain⟨v,vs',rfl,h1,rfl⟩:=hz;exact⟨v,rfl,h1⟩
  cases desc;case bool=>
   simp only[Zaa]at h;subst h;obtain⟨x,rfl,gx⟩:=one hx;obtain⟨y,rfl,gy⟩:=one hy;cases x<;>first|exact Zar gx ZaL|skip
   cases y<;>first|exact Zar gy ZaL|skip
   simp[zP,b8,mz,veq,Op.equalIn,run_underlying hu]
  case int k=>
   simp only[Zaa]at h;subst h;obtain⟨x,rfl,gx⟩:=one hx;obtain⟨y,rfl,gy⟩:=one hy;cases x<;>first|exact Zar gx ZaL|skip
   simp only[fit,beq_iff_eq]at gx;cases y<;>first|exact Zar gy ZaL|skip
   simp only[fit,beq_iff_eq]at gy;subst gx gy;simp[zP,b8,mz,veq,Op.equalIn,run_underlying hu]
  case string=>
   simp only[Zaa]at h;subst h;obtain⟨x,rfl,gx⟩:=one hx;obtain⟨y,rfl,gy⟩:=one hy;cases x<;>first|exact Zar gx ZaL|skip
   cases y<;>first|exact Zar gy ZaL|skip
   simp[zP,b8,mz,veq,Op.equalIn,run_underlying hu,beq_toListBytes]
  case struct fs=>
   replace h:(if P.stoodInHeld t then none else iH P (lp P d) 0 fs.toList)=some cj:=h
   split at h
   ·cases h
   ·rename_i hp;have hfo:P.fieldsOf t=fs:=by simp[Program.fieldsOf,hu]
    simp only[zP,b8,if_true];rw[run_equalIn_struct w d t _ _ (by rw[hfo];exact hu) (by simpa using hp),hfo];have:=GC (λt cj desc=>se d t cj desc) (λt cj hs=>by
     cases d with
     |zero=>simp[lp]at hs
     |succ d=>exact Cn hs) xs ys fs.toList 0 cj w h (by simpa using hx) (by simpa using hy) (by omega) (by omega)
    simpa using this
  case array n e=>
   replace h:(match lp P d e,P.info? e with
    |some s,some i=>if s.length=i.size/\0<i.size then some ((List.replicate n s).flatten)else none
    |_,_=>none)=some cj:=h
   split at h
   ·rename_i s i hs hi;split at h
    ·rename_i hc;simp only[Zaa]at h;subst h;have hde:∃desc,P.underlying e=some desc/\(b8 desc=true\/s.length=1):=by
      cases d with
      |zero=>simp[lp]at hs
      |succ d=>exact Cn hs
     obtain⟨de,hd,h1⟩:=hde;rw[hc.1]at h1;have:=XK hd hi h1 hc.1 hc.2 (λxs ys w=>se d e s de hs hd xs ys w) xs ys n 0 w (by simpa using hx) (by simpa using hy);simp only[zP,b8,if_true,Op.equalIn,Sem.run_bind,run_underlying hu,Result.andThen_ok,run_sizeOf hi,Std.Legacy.Range.forIn_eq_forIn_range',Std.Legacy.Range.size,Zcb,Zcz,Nat.div_one];simp only[ZcK,Zcn]at this;refine(congrArg (λr=>Result.andThen r _) this).trans ?_;cases mz xs ys<;>rfl
    ·cases h
   ·cases h
  all_goals exact Zar h (by simp)
end
end Go.DM
